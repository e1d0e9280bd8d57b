import Derived.Test.YtepehlhgkipcoaaGreatDoorCode2
set_option maxRecDepth 8000
set_option maxHeartbeats 4000000
namespace Go.Proofs.YtepehlhgkipcoaaGreatDoor
open Go.RowKit Tryz
def f45 (x0:List UInt8):Option ((List Z5) × Int × Int):=
 jn (σ:=(List Z5) × Int × Int) (fun (qH,sH,tH)=>
  jn (σ:=(List Z5) × Int × Int) (fun (yE,bK,cK)=>
   some (yE,(0:Int),(0:Int))
   ) fun sK=>
  (f77 x0).bind fun zE=>
  (zE (Nat × (List Z5) × Int × Int) (Rf fun (l5,cC,uC) iG=>
   (f63 iG).bind fun n8=>
   Option.bind (α:=Int) (
    Option.bind (α:=Bool) (
     bif (n8.2 == (0 : Int)) then
      bif (decide (((l5).length : Int) > (0 : Int))) then
       (idx l5 (w64 (((l5).length:Int) - (1:Int)))).bind fun sI=>
       (f17 sI (n8.1)).bind fun cD=>
       some ((decide (cD ≥ (0:Int))))
      else
       some (false)
     else
      some (false)
     ) fun zB=>
    bif zB then
     some ((4:Int))
    else
     some (n8.2)
    ) fun oB=>
   jn (σ:=(List Z5) × Int × Int) (fun (jG,kG,lG)=>
    (apnd 40 jG (([n8.1]:List Z5))).bind fun uH=>
    some (true,((0:Nat),(uH,kG,lG)))
    ) fun jJ=>
   bif (oB != (0 : Int)) then
    some (false,((1:Nat),([],((l5).length:Int),oB)))
   else
    jJ (l5,cC,uC)
   ) (0,(qH,sH,tH))).bind fun (lD,(nD,oD,yD))=>
  bif Nat.beq lD 0 then
   sK (nD,oD,yD)
  else
   some (nD,oD,yD)
  ) fun pN=>
 bif (decide (((x0).length : Int) > (800 : Int))) then
  some ([],(0:Int),(5:Int))
 else
  (Hd ((x0).length:Int) (8:Int)).bind fun jI=>
  bif (jI != (0 : Int)) then
   some ([],(0:Int),(4:Int))
  else
   pN (([]:List Z5),(0:Int),(0:Int))
theorem en45:Enters prog 45:=enters_of func45 (by kernel_rfl) rfl
theorem wk45 {gI:Gh} {wI:World} {x0:List UInt8} {up0:Value} (rp0:RV gI.m wI x0 up0) {r:(List Z5) × Int × Int} (h:f45 x0=some r):Fn prog 45 #[up0] gI wI (fun m w v=>∃ y0 y1 y2,v=.tuple #[y0,y1,y2]∧RV m w (r.1) y0∧y1=Iz (r.2.1)∧y2=Iz (r.2.2)):=by
 unfold f45 at h;refine Rn func45 rfl (Nat.le_of_ble_eq_true rfl) fun g0 hm hfr=>?_;have hmk:MkF g0 wI []:=MkF.start;have rp0:=RVc hm rp0;show E _ 53 none _ _ _ _ _;refine Z7 (Z6 rfl (Gw (g:=g0) 2002 ([]:List Z5) zeroValue56 (fun m w=>⟨_,Tt,rfl⟩) fun g1 w1 p1 hs b1 cb=>?_));have hfr:=hfr.stp hs;have hmk:=hmk.stp hs;have rp0:=rp0.stp hs;have xF:OSF 2002 60200 0 g1 w1 55 56 ([]:List Z5) p1:=cb.osf (by rfl);clear cb;refine Z6 rfl (Gw (g:=g1) 2003 (0:Int) zeroValue3 (fun m w=>⟨_,Zx,rfl⟩) fun g2 w2 p2 hs b2 cb=>?_);have hfr:=hfr.stp hs;have hmk:=hmk.stp hs;have rp0:=rp0.stp hs;have xF:=xF.stp hs rfl;have b1:=b1.stp hs rfl;clear cb;refine Z6 rfl (Gw (g:=g2) 2004 (0:Int) zeroValue51 (fun m w=>⟨_,Zx,rfl⟩) fun g3 w3 p3 hs b3 cb=>?_);have hfr:=hfr.stp hs;have hmk:=hmk.stp hs;have rp0:=rp0.stp hs;have xF:=xF.stp hs rfl;have b1:=b1.stp hs rfl;have b2:=b2.stp hs rfl;clear cb;refine Z4 (Vq h (fun (s:(List Z5) × Int × Int) e ds w=>∃ (g:Gh) ,Fr gI wI g w∧MkF g w ds∧e 0=up0∧RV g.m w (x0:List UInt8) up0∧e 2=p1∧OB 2002 g w 56 (s.1:List Z5) p1∧OSF 2002 60200 0 g w 55 56 (s.1) p1∧e 3=p2∧OB 2003 g w 3 (s.2.1:Int) p2∧e 4=p3∧OB 2004 g w 51 (s.2.2:Int) p3) (fun X21 pN sN h=>?_) ?_)
 ·refine Zr (Z7 (Zn up0 rfl rfl (Zz (Iz ((x0).length : Int)) (Tr underlying50 rfl rp0) rfl (Gf (.bool ((decide (((x0).length : Int) > (800 : Int))))) rfl rfl rfl rfl (Zg (.bool ((decide (((x0).length : Int) > (800 : Int))))) rfl rfl (Z4 ?_))))))
  rcases Zt h with ⟨mI,h⟩ | ⟨mI,h⟩
  ·refine G5 mI rfl (Z7 (Z6 rfl (Gk (g := g3) (v := .slice none 0 0) sizeOf56 rfl b1 rfl Qi fun qN mO hs b23 cb => ?_)))
   have xO:OSF 2002 60200 0 qN mO 55 56 ([]:List Z5) p1:=cb.osfr (rfl) OS.nil;clear cb;have hfr:=hfr.stp hs;have hmk:=hmk.stp hs;have b2:=b2.stp hs rfl;have b3:=b3.stp hs rfl;refine Z6 rfl (Gk (g:=qN) (v:=Iz (0)) sizeOf3 rfl b2 rfl (Zj.2 rfl) fun nO oQ hs b24 cb=>?_);clear cb;have hfr:=hfr.stp hs;have hmk:=hmk.stp hs;have b23:=b23.stp hs rfl;have b3:=b3.stp hs rfl;refine Z6 rfl (Gk (g:=nO) (v:=Iz (5)) sizeOf51 rfl b3 rfl (Zj.2 rfl) fun pQ qQ hs b25 cb=>?_);clear cb;have hfr:=hfr.stp hs;have hmk:=hmk.stp hs;have b23:=b23.stp hs rfl;have b24:=b24.stp hs rfl;refine Z4 (Gd (Tg (Gq (S8 (.inr rfl) hmk fun rQ sQ hs=>?_))));have hfr:=hfr.stp hs;have b23:=b23.stp hs rfl;have b24:=b24.stp hs rfl;have b25:=b25.stp hs rfl;obtain rfl:=sinj h;obtain ⟨ad27,cv27,hp27,tN,cr27⟩:=T6 isAgg56 sizeOf56 b23;obtain ⟨ad28,cv28,hp28,uN,cr28⟩:=T6 isAgg3 sizeOf3 b24;obtain rfl:=Zj.1 cr28;obtain ⟨ad29,cv29,hp29,vN,cr29⟩:=T6 isAgg51 sizeOf51 b25;obtain rfl:=Zj.1 cr29;exact Ye rfl rfl ((rq p1).trans hp27) tN ((rq p2).trans hp28) uN ((rq p3).trans hp29) vN ⟨_,hfr,_,_,_,rfl,cr27,rfl,rfl⟩
  ·refine G8 mI rfl (Z7 (Zn up0 rfl rfl (Zz (Iz ((x0).length : Int)) (Tr underlying50 rfl rp0) rfl ?_)))
   obtain ⟨jI,xN,h⟩:=Z3 h;refine Zz (Iz (jI)) (Gx rfl rfl (congrArg (Option.map (Value.int .i64)) xN)) rfl (Gf (.bool ((jI != (0:Int)))) rfl rfl rfl rfl (Zg (.bool ((jI != (0:Int)))) rfl rfl (Z4 ?_)));rcases Zt h with ⟨nI,h⟩ | ⟨nI,h⟩
   ·refine G5 nI rfl (Z7 (Z6 rfl (Gk (g := g3) (v := .slice none 0 0) sizeOf56 rfl b1 rfl Qi fun rN oO hs b32 cb => ?_)))
    have yO:OSF 2002 60200 0 rN oO 55 56 ([]:List Z5) p1:=cb.osfr (rfl) OS.nil;clear cb;have hfr:=hfr.stp hs;have hmk:=hmk.stp hs;have b2:=b2.stp hs rfl;have b3:=b3.stp hs rfl;refine Z6 rfl (Gk (g:=rN) (v:=Iz (0)) sizeOf3 rfl b2 rfl (Zj.2 rfl) fun pO tQ hs b33 cb=>?_);clear cb;have hfr:=hfr.stp hs;have hmk:=hmk.stp hs;have b32:=b32.stp hs rfl;have b3:=b3.stp hs rfl;refine Z6 rfl (Gk (g:=pO) (v:=Iz (4)) sizeOf51 rfl b3 rfl (Zj.2 rfl) fun uQ vQ hs b34 cb=>?_);clear cb;have hfr:=hfr.stp hs;have hmk:=hmk.stp hs;have b32:=b32.stp hs rfl;have b33:=b33.stp hs rfl;refine Z4 (Gd (Tg (Gq (S8 (.inr rfl) hmk fun xQ yQ hs=>?_))));have hfr:=hfr.stp hs;have b32:=b32.stp hs rfl;have b33:=b33.stp hs rfl;have b34:=b34.stp hs rfl;obtain rfl:=sinj h;obtain ⟨ad36,cv36,hp36,yN,cr36⟩:=T6 isAgg56 sizeOf56 b32;obtain ⟨ad37,cv37,hp37,zN,cr37⟩:=T6 isAgg3 sizeOf3 b33;obtain rfl:=Zj.1 cr37;obtain ⟨ad38,cv38,hp38,aO,cr38⟩:=T6 isAgg51 sizeOf51 b34;obtain rfl:=Zj.1 cr38;exact Ye rfl rfl ((rq p1).trans hp36) yN ((rq p2).trans hp37) zN ((rq p3).trans hp38) aO ⟨_,hfr,_,_,_,rfl,cr36,rfl,rfl⟩
   ·refine G8 nI rfl ?_
    exact Zu (Tc (Zd (sN (([]:List Z5),(0:Int),(0:Int)) _ _ _ ⟨g3,hfr,hmk,rfl,rp0,rfl,b1,xF,rfl,b2,rfl,b3⟩ h)))
 ·rintro ⟨qH, sH, tH⟩ mQ rE zQ ⟨qO, hfr, hmk, nL, oL, nB, xH, u2_0_39, uE, yH, vE, zH⟩ h
  refine Vq h (fun (s:(List Z5) × Int × Int) e ds w=>∃ (g:Gh) ,Fr gI wI g w∧MkF g w ds∧e 2=p1∧OB 2002 g w 56 (s.1:List Z5) p1∧OSF 2002 60200 0 g w 55 56 (s.1) p1∧e 3=p2∧OB 2003 g w 3 (s.2.1:Int) p2∧e 4=p3∧OB 2004 g w 51 (s.2.2:Int) p3) (fun X969 sK xL h=>?_) ?_
  ·refine Z7 (Zo nL rfl ?_)
   obtain ⟨zE,yL,h⟩:=Z3 h;refine Z6 rfl (Zp (g:=qO) (vs:=[up0]) en77 (.cons rfl .nil) (wk77 oL yL) fun nQ zO mE hs hr=>?_);have hfr:=hfr.ext hs;have hmk:=hmk.ext hs;have u2_0_39:=u2_0_39.ext hs;have xH:=xH.ext hs;have yH:=yH.ext hs;have zH:=zH.ext hs;have tK:=hr;refine Z4 (Zr ?_);have hB0:=hfr.size;have hmk0:=hmk;obtain ⟨⟨lD,⟨nD,oD,yD⟩⟩,hφ,h⟩:=Z3 h;refine Yu (σ:=(Nat × (List Z5) × Int × Int)) (s0:=(0,(qH,sH,tH))) 10 rfl (fun s=>s.1) [.ret] (fun (s:Nat × (List Z5) × Int × Int) (g:Gh) (w:World)=>Fr gI wI g w∧MkF g w rE∧OB 2002 g w 56 (s.2.1:List Z5) p1∧OSF 2002 60200 0 g w 55 56 (s.2.1) p1∧OB 2003 g w 3 (s.2.2.1:Int) p2∧OB 2004 g w 51 (s.2.2.2:Int) p3∧ItV prog (RA1 (α:=(Vector UInt8 8))) zE mE g.m w) rfl tK hφ (fun _ _ _ h=>(Uh h).1) rfl Lk rfl (fun _ _ _ _ _ hx hR=>by obtain ⟨hfr,hmk,z2,z3,z4,z5,z6⟩:=hR; exact ⟨hfr.ist hx hB0,hmk.ist hx,z2.ist hx,z3.ist hx,z4.ist hx,z5.ist hx,z6.ist hx⟩) (fun _ _ _ _ _ hx hR=>by obtain ⟨hfr,hmk,z2,z3,z4,z5,z6⟩:=hR; exact ⟨hfr.stp hx,hmk.stp hx,z2.stp hx rfl,z3.stp hx rfl,z4.stp hx rfl,z5.stp hx rfl,z6.stp hx⟩) ⟨hfr,hmk,xH,u2_0_39,yH,zH,tK⟩ (fun _ h=>by cases h) ?_ ?_
   ·intro yF cF s x b s2 xE vF vs hsz h hR hrec_0 pI hrd
    obtain ⟨hs0,h⟩:=Uh h;obtain ⟨st,⟨l5,cC,uC⟩⟩:=s;obtain ⟨hfr,hmk,i6,u2_0_1432,g8,l8,t5⟩:=hR;obtain ⟨iG,hxe⟩:∃ y,y=x:=⟨x,rfl⟩;subst hxe;obtain ⟨dK,rfl,oE⟩:=Mc hrd;have o0:=RFr.refl xE vF;refine Za (Z6 rfl (Gw (g:=xE) 2005 ((⟨List.toArray [0,0,0,0,0,0,0,0],rfl⟩:Vector UInt8 8):Vector UInt8 8) zeroValue80 (fun m w=>⟨_,(Y5 (Zw Qe (Zw Qe (Zw Qe (Zw Qe (Zw Qe (Zw Qe (Zw Qe (Zw Qe Yh)))))))) rfl),rfl⟩) fun zL aP bP hs b1433 cb=>?_));have hfr:=hfr.stp hs;have hmk:=hmk.stp hs;have o0:=o0.stp hs;have hrec_0:=hrec_0.stp hs rfl;have u2_0_1432:=u2_0_1432.stp hs rfl;have i6:=i6.stp hs rfl;have g8:=g8.stp hs rfl;have l8:=l8.stp hs rfl;have t5:=t5.stp hs;have oE:=oE.stp hs;clear cb;refine Z6 rfl (Gk (g:=zL) (v:=dK) sizeOf80 rfl b1433 rfl oE fun kJ cP hs b1434 cb=>?_);clear cb;have hfr:=hfr.stp hs;have hmk:=hmk.stp hs;have o0:=o0.stp hs;have hrec_0:=hrec_0.stp hs rfl;have u2_0_1432:=u2_0_1432.stp hs rfl;have i6:=i6.stp hs rfl;have g8:=g8.stp hs rfl;have l8:=l8.stp hs rfl;have t5:=t5.stp hs;refine Z4 ?_;obtain ⟨aM,hbr,hs,hrN⟩:=Yz hrec_0 pI;refine ⟨aM,hbr,?_⟩;have hfr:=hfr.stp hs;have hmk:=hmk.stp hs;have o0:=o0.stp hs;have u2_0_1432:=u2_0_1432.stp hs rfl;have i6:=i6.stp hs rfl;have g8:=g8.stp hs rfl;have l8:=l8.stp hs rfl;have t5:=t5.stp hs;have b1434:=b1434.stp hs rfl;have hrec_0:=hrN;clear hbr hs hrN;refine Zr (Z7 (Z6 rfl (T3 (g:=kJ) isAgg80 sizeOf80 rfl b1434 fun bM cM=>?_)));obtain ⟨n8,uK,h⟩:=Z3 h;refine Z6 rfl (Zp (g:=kJ) (vs:=[bM]) en63 (.cons rfl .nil) (wk63 cM uK) fun dM rO dP hs hr=>?_);have hfr:=hfr.ext hs;have hmk:=hmk.ext hs;have o0:=o0.ext hs;have hrec_0:=hrec_0.ext hs;have u2_0_1432:=u2_0_1432.ext hs;have i6:=i6.ext hs;have g8:=g8.ext hs;have l8:=l8.ext hs;have t5:=t5.ext hs;obtain ⟨dF,dO,rfl,eF,rfl⟩:=hr;refine Zn (.tuple #[dF,Iz (n8.2)]) rfl rfl (Zz dF (Zi rfl rfl) rfl (Zz (Iz (n8.2)) (Zi rfl rfl) rfl (Z6 rfl (Gw (g:=dM) 2006 (⟨0,0,0,0,0⟩:Z5) zeroValue55 (fun m w=>⟨_,(Gi Zx (Gi Zx (Gi Zx (Gi Zx Zx)))),rfl⟩) fun eM eP zD hs b1439 cb=>?_))));have hfr:=hfr.stp hs;have hmk:=hmk.stp hs;have o0:=o0.stp hs;have hrec_0:=hrec_0.stp hs rfl;have u2_0_1432:=u2_0_1432.stp hs rfl;have i6:=i6.stp hs rfl;have g8:=g8.stp hs rfl;have l8:=l8.stp hs rfl;have t5:=t5.stp hs;have eF:=eF.stp hs;clear cb;refine Z6 rfl (Gk (g:=eM) (v:=dF) sizeOf55 rfl b1439 rfl eF fun aI gP hs b1440 cb=>?_);clear cb;have hfr:=hfr.stp hs;have hmk:=hmk.stp hs;have o0:=o0.stp hs;have hrec_0:=hrec_0.stp hs rfl;have u2_0_1432:=u2_0_1432.stp hs rfl;have i6:=i6.stp hs rfl;have g8:=g8.stp hs rfl;have l8:=l8.stp hs rfl;have t5:=t5.stp hs;refine Zg (Iz (n8.2)) rfl rfl (Z4 ?_);obtain ⟨oB,hx,h⟩:=Z3 h;refine Gs (fun e w=>∃ (g:Gh) ,Fr gI wI g w∧MkF g w rE∧RFr xE vF g w∧HB 10 g w yF (.loop { cF with state:=.busy })∧e 2=p1∧OB 2002 g w 56 (l5:List Z5) p1∧OSF 2002 60200 0 g w 55 56 (l5) p1∧e 3=p2∧OB 2003 g w 3 (cC:Int) p2∧e 4=p3∧OB 2004 g w 51 (uC:Int) p3∧e 6=zD∧OB 2006 g w 55 (n8.1:Z5) zD∧e 7=Iz (oB)∧e 18=mE∧ItV prog (RA1 (α:=(Vector UInt8 8))) zE mE g.m w) (fun Q' hQ=>?_) (fun sO iP hR=>?_)
    ·replace h := hx
     clear hx;obtain ⟨zB,hx,h⟩:=Z3 h;refine Gs (fun e w=>∃ (g:Gh) ,Fr gI wI g w∧MkF g w rE∧RFr xE vF g w∧HB 10 g w yF (.loop { cF with state:=.busy })∧e 2=p1∧OB 2002 g w 56 (l5:List Z5) p1∧OSF 2002 60200 0 g w 55 56 (l5) p1∧e 3=p2∧OB 2003 g w 3 (cC:Int) p2∧e 4=p3∧OB 2004 g w 51 (uC:Int) p3∧e 6=zD∧OB 2006 g w 55 (n8.1:Z5) zD∧e 7=Iz (n8.2)∧e 18=mE∧ItV prog (RA1 (α:=(Vector UInt8 8))) zE mE g.m w∧e 42=.bool (zB)) (fun Q' hQ=>?_) (fun tO jP hR=>?_)
     ·replace h := hx
      clear hx;rcases Zt h with ⟨l9,h⟩ | ⟨l9,h⟩
      ·refine Dr (x := .tmp 2) isAgg56 sizeOf56 i6 u2_0_1432 fun lJ mJ o1765 kI => ?_
       rcases Zt h with ⟨v8,h⟩ | ⟨v8,h⟩
       ·refine Dr (x := .tmp 2) isAgg56 sizeOf56 i6 u2_0_1432 fun nJ oJ o1767 vK => (Dr (x := .tmp 2) isAgg56 sizeOf56 i6 u2_0_1432 fun iM jM o1768 xK => ?_)
        obtain ⟨sI,lI,h⟩:=Z3 h;have kM:=Tp oJ lI;refine Zs (x:=.tmp 37) isAgg55 sizeOf55 kM fun pJ pM yK=>(Ju (x:=.tmp 6) isAgg55 sizeOf55 b1440 fun qJ qM zK=>?_);obtain ⟨cD,aL,h⟩:=Z3 h;refine Tz (g:=aI) (n:=18) [(15,(fun v g w=>v=Iz (cD)))] [0,1,2,3,4,5,6,7,8,9,10,11,12,13,14,15,16,17] rfl mixed (by kernel_rfl) (⟨fun _=>Kz _,trivial⟩) (Z2 (Iz (n8.2)) rfl rfl (Zk rfl) (Z2 (.bool ((n8.2 == (0:Int)))) rfl rfl (Gx rfl rfl rfl) (Z2 (.bool ((n8.2 == (0:Int)))) rfl rfl (Zk rfl) (Tv (c:=lJ) rfl rfl (.yes2 rfl rfl l9) (fun _ _ h=>⟨h.ch,fun b hb _=>h.below.block b hb⟩) kI nB (L_y (Iz ((l5).length:Int)) rfl rfl rfl rfl l9 (Tr underlying56 rfl mJ) (L_y (.bool ((decide (((l5).length:Int) > (0:Int))))) rfl rfl rfl rfl l9 (Gx rfl rfl rfl) (Z2 (.bool ((decide (((l5).length:Int) > (0:Int))))) rfl rfl (Zl (b:=(n8.2 == (0:Int))) rfl (Te l9 rfl)) (Z2 (.bool ((decide (((l5).length:Int) > (0:Int))))) rfl rfl (Zk rfl) (Tv (c:=nJ) rfl rfl (.yes2 rfl rfl v8) (fun _ _ h=>⟨h.ch,fun b hb _=>h.below.block b hb⟩) vK nB (Tv (c:=iM) rfl rfl (.yes2 rfl rfl v8) (fun _ _ h=>⟨h.ch,fun b hb _=>h.below.block b hb⟩) xK nB (L_y (Iz ((l5).length:Int)) rfl rfl rfl rfl v8 (Tr underlying56 rfl jM) (L_y (Iz ((w64 (((l5).length:Int) - (1:Int))))) rfl rfl rfl rfl v8 (Gx rfl rfl rfl) (L_y (Tb nJ (w64 (((l5).length:Int) - (1:Int))) 5) rfl rfl rfl rfl v8 (Zh (α:=Z5) underlying56 sizeOf55 rfl oJ rfl lI) (Tv (c:=pJ) rfl rfl (.yes2 rfl rfl v8) (fun _ _ h=>h.ch) yK rfl (Tv (c:=qJ) rfl rfl (.yes2 rfl rfl v8) (fun _ _ h=>⟨h.ch,fun b hb _=>h.below.block b hb⟩) zK rfl (Ks (φ:=fun v g w=>v=Iz (cD)) rfl rfl (.yes2 rfl rfl v8) (fun g w hd=>Zp (g:=g) (vs:=[pJ,qJ]) en17 (.cons rfl (.cons rfl .nil)) (wk17 (pM.ext hd.1) (qM.ext hd.1) aL) fun g' w' v hs hr=>⟨g',hs,hr⟩) (fun kP hv=>?_)))))))))))))))));obtain ⟨_,_,_,rfl⟩:=hv;refine L_y (.bool ((decide (cD ≥ (0:Int))))) rfl rfl rfl rfl v8 (Gx rfl rfl rfl) (Z2 (.bool ((decide (cD ≥ (0:Int))))) rfl rfl (Zl (b:=(decide (((l5).length:Int) > (0:Int)))) rfl (Te v8 rfl)) (Ho fun rM lP hs=>?_));have hfr:=hfr.ext hs;have hmk:=hmk.ext hs;have o0:=o0.ext hs;have hrec_0:=hrec_0.ext hs;have u2_0_1432:=u2_0_1432.ext hs;have i6:=i6.ext hs;have g8:=g8.ext hs;have l8:=l8.ext hs;have t5:=t5.ext hs;have b1440:=b1440.ext hs;clear hs;refine Zb ?_;obtain rfl:=sinj h;exact hQ _ _ ⟨rM,hfr,hmk,o0,hrec_0,nB,i6,u2_0_1432,uE,g8,vE,l8,rfl,b1440,rfl,rfl,t5,rfl⟩
       ·refine Tz (g := aI) (n := 18) [] [0, 1, 2, 3, 4, 5, 6, 7, 8, 9, 10, 11, 12, 13, 14, 15, 16, 17] rfl mixed (by kernel_rfl) trivial (Z2 (Iz (n8.2)) rfl rfl (Zk rfl) (Z2 (.bool ((n8.2 == (0 : Int)))) rfl rfl (Gx rfl rfl rfl) (Z2 (.bool ((n8.2 == (0 : Int)))) rfl rfl (Zk rfl) (Tv (c := lJ) rfl rfl (.yes2 rfl rfl l9) (fun _ _ h => ⟨h.ch, fun b hb _ => h.below.block b hb⟩) kI nB (L_y (Iz ((l5).length : Int)) rfl rfl rfl rfl l9 (Tr underlying56 rfl mJ) (L_y (.bool ((decide (((l5).length : Int) > (0 : Int))))) rfl rfl rfl rfl l9 (Gx rfl rfl rfl) (Z2 (.bool ((decide (((l5).length : Int) > (0 : Int))))) rfl rfl (Zl (b := (n8.2 == (0 : Int))) rfl (Te l9 rfl)) (Z2 (.bool ((decide (((l5).length : Int) > (0 : Int))))) rfl rfl (Zk rfl) ?_))))))))
        iterate 9 refine L_s rfl rfl rfl v8 rfl ?_
        refine Z2 (.bool false) rfl rfl (Zl (b:=(decide (((l5).length:Int) > (0:Int)))) rfl (Td v8 rfl)) (Ho fun sM mP hs=>?_);have hfr:=hfr.ext hs;have hmk:=hmk.ext hs;have o0:=o0.ext hs;have hrec_0:=hrec_0.ext hs;have u2_0_1432:=u2_0_1432.ext hs;have i6:=i6.ext hs;have g8:=g8.ext hs;have l8:=l8.ext hs;have t5:=t5.ext hs;have b1440:=b1440.ext hs;clear hs;refine Zb ?_;obtain rfl:=sinj h;exact hQ _ _ ⟨sM,hfr,hmk,o0,hrec_0,nB,i6,u2_0_1432,uE,g8,vE,l8,rfl,b1440,rfl,rfl,t5,rfl⟩
      ·refine Tz (g := aI) (n := 18) [] [0, 1, 2, 3, 4, 5, 6, 7, 8, 9, 10, 11, 12, 13, 14, 15, 16, 17] rfl mixed (by kernel_rfl) trivial (Z2 (Iz (n8.2)) rfl rfl (Zk rfl) (Z2 (.bool ((n8.2 == (0 : Int)))) rfl rfl (Gx rfl rfl rfl) (Z2 (.bool ((n8.2 == (0 : Int)))) rfl rfl (Zk rfl) ?_)))
       iterate 3 refine L_s rfl rfl rfl l9 rfl ?_
       refine Z2 (.bool false) rfl rfl (Zl (b:=(n8.2 == (0:Int))) rfl (Td l9 rfl)) (L_dead (fun _=>rfl) 11 rfl (Ho fun tM nP hs=>?_));have hfr:=hfr.ext hs;have hmk:=hmk.ext hs;have o0:=o0.ext hs;have hrec_0:=hrec_0.ext hs;have u2_0_1432:=u2_0_1432.ext hs;have i6:=i6.ext hs;have g8:=g8.ext hs;have l8:=l8.ext hs;have t5:=t5.ext hs;have b1440:=b1440.ext hs;clear hs;refine Zb ?_;obtain rfl:=sinj h;exact hQ _ _ ⟨tM,hfr,hmk,o0,hrec_0,nB,i6,u2_0_1432,uE,g8,vE,l8,rfl,b1440,rfl,rfl,t5,rfl⟩
     ·clear hx
      obtain ⟨rJ,hfr,hmk,o0,hrec_0,mG,sG,u2_0_1871,xG,yG,zG,aH,cH,gH,lK,aG,bG,cG⟩:=hR;rcases Zt h with ⟨eG,h⟩ | ⟨eG,h⟩
      ·refine Tj (Eq.trans (show ev _ _ = .bool (zB) from cG) (congrArg Value.bool eG)) (Za (Zg (Iz (4)) rfl rfl (Zb ?_)))
       obtain rfl:=sinj h;exact hQ _ _ ⟨rJ,hfr,hmk,o0,hrec_0,mG,sG,u2_0_1871,xG,yG,zG,aH,cH,gH,rfl,aG,bG⟩
      ·refine Gz (Eq.trans (show ev _ _ = .bool (zB) from cG) (congrArg Value.bool eG)) (Zu ?_)
       obtain rfl:=sinj h;exact hQ _ _ ⟨rJ,hfr,hmk,o0,hrec_0,mG,sG,u2_0_1871,xG,yG,zG,aH,cH,gH,lK,aG,bG⟩
    ·clear hx
     obtain ⟨bI,hfr,hmk,o0,hrec_0,rF,sF,u2_0_1873,jH,aE,kH,vB,mK,nK,lH,qI,n9⟩:=hR;refine Zq h (fun (s:(List Z5) × Int × Int) e w=>∃ (g:Gh) ,Fr gI wI g w∧MkF g w rE∧RFr xE vF g w∧HB 10 g w yF (.loop { cF with state:=.busy })∧e 2=p1∧OB 2002 g w 56 (s.1:List Z5) p1∧OSF 2002 60200 0 g w 55 56 (s.1) p1∧e 3=p2∧OB 2003 g w 3 (s.2.1:Int) p2∧e 4=p3∧OB 2004 g w 51 (s.2.2:Int) p3∧e 6=zD∧OB 2006 g w 55 (n8.1:Z5) zD∧e 18=mE∧ItV prog (RA1 (α:=(Vector UInt8 8))) zE mE g.m w) (fun X1879 jJ bL h=>?_) ?_
     ·refine Z7 (Zo lH rfl (Gf (.bool ((oB != (0 : Int)))) rfl rfl rfl rfl (Z4 ?_)))
      rcases Zt h with ⟨gG,h⟩ | ⟨gG,h⟩
      ·refine G5 gG rfl (Z7 (Z6 rfl (Di (g := bI) isAgg56 sizeOf56 rF sF u2_0_1873 fun oP uM o1881 => (Zz (Iz ((l5).length : Int)) (Tr underlying56 rfl uM) rfl (Zo lH rfl (Z6 rfl (Gk (g := bI) (v := .slice none 0 0) sizeOf56 rF sF rfl Qi fun sJ vM hs b1882 cb => ?_)))))))
       have vC:OSF 2002 60200 0 sJ vM 55 56 ([]:List Z5) p1:=cb.osfr (rfl) OS.nil;clear cb;have hfr:=hfr.stp hs;have hmk:=hmk.stp hs;have o0:=o0.stp hs;have hrec_0:=hrec_0.stp hs rfl;have aE:=aE.stp hs rfl;have vB:=vB.stp hs rfl;have n9:=n9.stp hs;refine Z6 rfl (Gk (g:=sJ) (v:=Iz ((l5).length:Int)) sizeOf3 jH aE rfl (Zj.2 rfl) fun xM pP hs b1883 cb=>?_);clear cb;have hfr:=hfr.stp hs;have hmk:=hmk.stp hs;have o0:=o0.stp hs;have hrec_0:=hrec_0.stp hs rfl;have vC:=vC.stp hs rfl;have b1882:=b1882.stp hs rfl;have vB:=vB.stp hs rfl;have n9:=n9.stp hs;refine Z6 rfl (Gk (g:=xM) (v:=Iz (oB)) sizeOf51 kH vB rfl (Zj.2 rfl) fun sP tP hs b1884 cb=>?_);clear cb;have hfr:=hfr.stp hs;have hmk:=hmk.stp hs;have o0:=o0.stp hs;have hrec_0:=hrec_0.stp hs rfl;have vC:=vC.stp hs rfl;have b1882:=b1882.stp hs rfl;have b1883:=b1883.stp hs rfl;have n9:=n9.stp hs;refine Z4 (Gd (Gq (Tg ?_)));obtain ⟨rfl,rfl⟩:=Kr h;exact ⟨_,o0,⟨hfr,hmk,b1882,vC,b1883,b1884,n9⟩,hrec_0,rfl,0,rfl,rfl⟩
      ·refine G8 gG rfl ?_
       exact Zu (Zd (bL (l5,cC,uC) _ _ ⟨bI,hfr,hmk,o0,hrec_0,rF,sF,u2_0_1873,jH,aE,kH,vB,mK,nK,qI,n9⟩ h))
     ·rintro ⟨jG, kG, lG⟩ uO uP ⟨dI, hfr, hmk, o0, hrec_0, mH, yB, u2_0_1885, eO, lB, gO, mB, oK, pK, bO, aB⟩ h
      refine Za (Z6 rfl (Di (g:=dI) isAgg56 sizeOf56 mH yB u2_0_1885 fun vP iI o1886=>(Z6 rfl (T3 (g:=dI) isAgg55 sizeOf55 oK pK fun bN cN=>(Z6 rfl (Gb (g:=dI) 3050 (xs:=([n8.1]:List Z5)) (vs:=[bN]) underlying56 sizeOf55 zeroValue55 rfl rfl (.cons rfl .nil) (RVs.cons cN RVs.nil) rfl rfl fun dN xP yP hs o1888 eN hxt hfl=>?_))))));have hfr:=hfr.stp hs;have hmk:=hmk.stp hs;have o0:=o0.stp hs;have hrec_0:=hrec_0.stp hs rfl;have yB:=yB.stp hs rfl;have lB:=lB.stp hs rfl;have mB:=mB.stp hs rfl;have aB:=aB.stp hs;have iI:=iI.stp hs;have o1886:=o1886.stp hs rfl;obtain ⟨uH,dL,h⟩:=Z3 h;refine Z6 rfl (Ql (g:=dN) (i:=60200) underlying56 C4 rfl rfl o1886 iI rfl eN dL fun gN zP iN hs o1889 vJ _=>?_);have hfr:=hfr.stp hs;have hmk:=hmk.stp hs;have o0:=o0.stp hs;have hrec_0:=hrec_0.stp hs rfl;have yB:=yB.stp hs rfl;have lB:=lB.stp hs rfl;have mB:=mB.stp hs rfl;have aB:=aB.stp hs;refine Z6 rfl (Gk (g:=gN) (v:=iN) sizeOf56 mH yB rfl vJ fun jN kN hs b1891 cb=>?_);have qK:OSF 2002 60200 0 jN kN 55 56 (uH:List Z5) p1:=cb.osfr (W3 vJ) (o1889.stp hs rfl);clear cb;have hfr:=hfr.stp hs;have hmk:=hmk.stp hs;have o0:=o0.stp hs;have hrec_0:=hrec_0.stp hs rfl;have lB:=lB.stp hs rfl;have mB:=mB.stp hs rfl;have aB:=aB.stp hs;refine Zb (Tc ?_);obtain ⟨rfl,rfl⟩:=Kr h;exact ⟨_,o0,⟨hfr,hmk,b1891,qK,lB,mB,aB⟩,hrec_0,rfl,rfl⟩
   ·intro lN bQ ds1893 hsz hR hds
    obtain ⟨hfr,hmk,bE,u2_0_1893,iE,lE,cO⟩:=hR;obtain ⟨D,hdse,hD,hDb⟩:=hds.1 rfl;subst hdse;replace hmk:=MkF.push hmk0 hmk hD hDb;clear hD hDb hds;revert hmk;generalize ({ target:=.collected D,args:=#[] } :: rE:List Deferred)=jO;intro hmk;refine ⟨fun hs=>?_,fun k c hs hc=>?_⟩
    ·have hs : lD = 0 := hs
     subst hs;replace h:=Ag h rfl;exact Tc (Zd (xL (nD,oD,yD) _ _ _ ⟨lN,hfr,hmk,nB,bE,u2_0_1893,uE,iE,vE,lE⟩ h))
    ·have hs : lD = k + 1 := hs
     match k,hs,hc with
     | 0,hs,hc=>
      subst hs;obtain rfl:=sinj hc;replace h:=P2 h rfl;refine Gd (Tg (Gq (S8 (.inr rfl) hmk fun cQ dQ hs=>?_)));have hfr:=hfr.stp hs;have bE:=bE.stp hs rfl;have iE:=iE.stp hs rfl;have lE:=lE.stp hs rfl;obtain rfl:=sinj h;obtain ⟨ad1895,cv1895,hp1895,eL,cr1895⟩:=T6 isAgg56 sizeOf56 bE;obtain ⟨ad1896,cv1896,hp1896,gL,cr1896⟩:=T6 isAgg3 sizeOf3 iE;obtain rfl:=Zj.1 cr1896;obtain ⟨ad1897,cv1897,hp1897,iL,cr1897⟩:=T6 isAgg51 sizeOf51 lE;obtain rfl:=Zj.1 cr1897;exact Ye rfl rfl ((show _=p1 from nB).trans hp1895) eL ((show _=p2 from uE).trans hp1896) gL ((show _=p3 from vE).trans hp1897) iL ⟨_,hfr,_,_,_,rfl,cr1895,rfl,rfl⟩
     | n + 1,_,hc=>exact absurd hc (by simp)
  ·rintro ⟨yE, bK, cK⟩ vO kO eQ ⟨xJ, hfr, hmk, tF, nH, u2_0_1898, oH, uF, pH, bD⟩ h
   refine Z7 (Z6 rfl (Di (g:=xJ) isAgg56 sizeOf56 tF nH u2_0_1898 fun mN zJ o1899=>(Z6 rfl (Gk (g:=xJ) (v:=mN) sizeOf56 tF nH rfl zJ fun aK nN hs b1900 cb=>?_))));have lO:OSF 2002 60200 0 aK nN 55 56 (yE:List Z5) p1:=cb.osfr (W3 zJ) (o1899.stp hs rfl);clear cb;have hfr:=hfr.stp hs;have hmk:=hmk.stp hs;have uF:=uF.stp hs rfl;have bD:=bD.stp hs rfl;refine Z6 rfl (Gk (g:=aK) (v:=Iz (0)) sizeOf3 oH uF rfl (Zj.2 rfl) fun oN gQ hs b1901 cb=>?_);clear cb;have hfr:=hfr.stp hs;have hmk:=hmk.stp hs;have b1900:=b1900.stp hs rfl;have bD:=bD.stp hs rfl;refine Z6 rfl (Gk (g:=oN) (v:=Iz (0)) sizeOf51 pH bD rfl (Zj.2 rfl) fun iQ jQ hs b1902 cb=>?_);clear cb;have hfr:=hfr.stp hs;have hmk:=hmk.stp hs;have b1900:=b1900.stp hs rfl;have b1901:=b1901.stp hs rfl;refine Z4 (Gd (S8 (.inr rfl) hmk fun kQ lQ hs=>?_));have hfr:=hfr.stp hs;have b1900:=b1900.stp hs rfl;have b1901:=b1901.stp hs rfl;have b1902:=b1902.stp hs rfl;obtain rfl:=sinj h;obtain ⟨ad1904,cv1904,hp1904,jL,cr1904⟩:=T6 isAgg56 sizeOf56 b1900;obtain ⟨ad1905,cv1905,hp1905,lL,cr1905⟩:=T6 isAgg3 sizeOf3 b1901;obtain rfl:=Zj.1 cr1905;obtain ⟨ad1906,cv1906,hp1906,mL,cr1906⟩:=T6 isAgg51 sizeOf51 b1902;obtain rfl:=Zj.1 cr1906;exact Ye rfl rfl ((show _=p1 from tF).trans hp1904) jL ((show _=p2 from oH).trans hp1905) lL ((show _=p3 from pH).trans hp1906) mL ⟨_,hfr,_,_,_,rfl,cr1904,rfl,rfl⟩
def f50 (x0:FaultLoom) (x1:List Zv):Option (Int):=
 jn (σ:=Unit) (fun _=>
  jn (σ:=Unit) (fun _=>
   some ((0:Int))
   ) fun aB=>
  bif (decide (((x1).length : Int) > (100 : Int))) then
   some ((5:Int))
  else
   (f89 x1 ((fun a0=>f87 a0 x0))).bind fun n8=>
   bif n8 then
    some ((2:Int))
   else
    aB ()
  ) fun k6=>
 (f86 x0).bind fun y9=>
 bif (y9 != (0 : Int)) then
  some (y9)
 else
  k6 ()
theorem en50:Enters prog 50:=enters_of func50 (by kernel_rfl) rfl
theorem wk50 {gI:Gh} {wI:World} {x0:FaultLoom} {x1:List Zv} {up0:Value} (rp0:RV gI.m wI x0 up0) {up1:Value} (rp1:RV gI.m wI x1 up1) {r:Int} (h:f50 x0 x1=some r):Fn prog 50 #[up0,up1] gI wI (fun _ _ v=>v=Iz (r)):=by
 unfold f50 at h;refine fnE func50 rfl rfl fun g0 hm hfr=>?_;have rp0:=RVc hm rp0;have rp1:=RVc hm rp1;show E _ 21 none _ _ _ _ _;refine Z7 (Z6 rfl (Tq (g:=g0) rfl rp0 fun g1 w1 p1 hs q1=>?_));have hfr:=hfr.ext hs;have rp1:=rp1.ext hs;refine Zg (Iz (0)) rfl rfl (Z4 (Zq h (fun (s:Unit) e w=>∃ (g:Gh) ,Fr gI wI g w∧e 1=up1∧RV g.m w (x1:List Zv) up1∧e 2=p1∧PT g.m w (x0:FaultLoom) p1) (fun X6 k6 hk6 h=>?_) ?_))
 ·refine Z7 (Z6 rfl (Z9 (g := g1) isAgg30 sizeOf30 rfl q1 fun v7 r7 => ?_))
  obtain ⟨y9,nB,h⟩:=Z3 h;refine Z6 rfl (Zp (g:=g1) (vs:=[v7]) en86 (.cons rfl .nil) (wk86 r7 nB) fun g8 w8_ v8 hs hr=>?_);have hfr:=hfr.ext hs;have rp1:=rp1.ext hs;have q1:=q1.ext hs;subst hr;refine Zg (Iz (y9)) rfl rfl (Z4 (Z7 (Zn (Iz (y9)) rfl rfl (Gf (.bool ((y9 != (0:Int)))) rfl rfl rfl rfl (Z4 ?_)))));rcases Zt h with ⟨o0,h⟩ | ⟨o0,h⟩
  ·refine G5 o0 rfl (Z7 (Zn (Iz (y9)) rfl rfl (Zg (Iz (y9)) rfl rfl (Z4 (Gd (Gq ?_))))))
   obtain rfl:=sinj h;exact Ta rfl rfl (rq (Iz (y9))) ⟨_,hfr,rfl⟩
  ·refine G8 o0 rfl ?_
   exact Zu (Zd (hk6 () _ _ ⟨g8,hfr,rfl,rp1,rfl,q1⟩ h))
 ·rintro _ yB uC ⟨oB, hfr, i6, l8, l9, n9⟩ h
  refine Z7 (Zz ((.func (.func 87) #[] #[p1])) (Kd (Rb (show ev _ _=p1 from l9))) rfl (Zg ((.func (.func 87) #[] #[p1])) rfl rfl (Z4 (Zq h (fun (s:Unit) e w=>∃ (g:Gh) ,Fr gI wI g w) (fun X16 aB lB h=>?_) ?_))))
  ·refine Zr (Z7 (Zo i6 rfl (Zz (Iz ((x1).length : Int)) (Tr underlying65 rfl l8) rfl (Gf (.bool ((decide (((x1).length : Int) > (100 : Int))))) rfl rfl rfl rfl (Zg (.bool ((decide (((x1).length : Int) > (100 : Int))))) rfl rfl (Z4 ?_))))))
   rcases Zt h with ⟨l5,h⟩ | ⟨l5,h⟩
   ·refine G5 l5 rfl (Z7 (Zg (Iz (5)) rfl rfl (Z4 (Gd (Tg (Gq ?_))))))
    obtain rfl:=sinj h;exact Ta rfl rfl (rq (Iz (5))) ⟨_,hfr,rfl⟩
   ·refine G8 l5 rfl (Z7 (Zo i6 rfl (Zn ((.func (.func 87) #[] #[p1])) rfl rfl ?_)))
    obtain ⟨n8,mB,h⟩:=Z3 h;refine Z6 rfl (Zp (g:=oB) (vs:=[up1,(.func (.func 87) #[] #[p1])]) en89 (.cons rfl (.cons rfl .nil)) (wk89 l8 ⟨87,#[],#[p1],rfl,en87,fun g' w' hch a0 b0 r hu0 hr=>by exact Fn.mono (wk87 hu0 (n9.ch hch) hr) fun _ _ _ h=>Qm.2 h⟩ mB) fun vB zB vC hs hr=>?_);have hfr:=hfr.ext hs;subst hr;refine Zg (.bool (n8)) rfl rfl (Z4 ?_);rcases Zt h with ⟨t5,h⟩ | ⟨t5,h⟩
    ·refine G5 t5 rfl (Z7 (Zg (Iz (2)) rfl rfl (Z4 (Gd (Tg (Gq ?_))))))
     obtain rfl:=sinj h;exact Ta rfl rfl (rq (Iz (2))) ⟨_,hfr,rfl⟩
    ·refine G8 t5 rfl ?_
     exact Zu (Tc (Zd (lB () _ _ ⟨vB,hfr⟩ h)))
  ·rintro _ cC bD ⟨cD, hfr⟩ h
   refine Z7 (Zg (Iz (0)) rfl rfl (Z4 (Gd ?_)));obtain rfl:=sinj h;exact Ta rfl rfl (rq (Iz (0))) ⟨_,hfr,rfl⟩
def f68 (x0:ChainBelt):Option (Gr × Int):=
 jn (σ:=Gr) (fun aB=>
  some ((⟨x0,(x0).Hooks⟩:Gr),(0:Int))
  ) fun k33=>
 (f103 ((x0).Hooks)).bind fun n8=>
 bif (!n8) then
  some ((⟨x0,(x0).Hooks⟩:Gr),(3:Int))
 else
  bif (decide ((((x0).Cards).length : Int) > (60 : Int))) then
   some ((⟨x0,(x0).Hooks⟩:Gr),(5:Int))
  else
   (f104 ((x0).Hooks) ((x0).Cards)).bind fun v8=>
   bif (!v8) then
    some ((⟨x0,(x0).Hooks⟩:Gr),(2:Int))
   else
    k33 ((⟨⟨0,[]⟩,0⟩:Gr))
theorem en68:Enters prog 68:=enters_of func68 (by kernel_rfl) rfl
theorem wk68 {gI:Gh} {wI:World} {x0:ChainBelt} {up0:Value} (rp0:RV gI.m wI x0 up0) {r:Gr × Int} (h:f68 x0=some r):Fn prog 68 #[up0] gI wI (fun m w v=>∃ y0 y1,v=.tuple #[y0,y1]∧RV m w (r.1) y0∧y1=Iz (r.2)):=by
 unfold f68 at h;refine fnE func68 rfl rfl fun g0 hm hfr=>?_;have rp0:=RVc hm rp0;show E _ 30 none _ _ _ _ _;refine Z7 (Z6 rfl (Tq (g:=g0) rfl rp0 fun g1 w1 p1 hs q1=>?_));have hfr:=hfr.ext hs;refine Z6 rfl (Gw (g:=g1) 2002 (⟨⟨0,[]⟩,0⟩:Gr) zeroValue160 (fun m w=>⟨_,(Gi (Gi Zx Tt) Zx),rfl⟩) fun g2 w2 p2 hs b2 cb=>?_);have hfr:=hfr.stp hs;have q1:=q1.stp hs;have o0:OSF 2002 60201 1 g2 w2 43 160 ([]:List Z8) p2:=cb.osf (by rfl);clear cb;refine Zg (Iz (0)) rfl rfl (Z4 (Z7 (Z6 rfl (Z9 (g:=g2) isAgg46 sizeOf46 rfl q1 fun v3 r3=>(Zz (Ga p1 0) (Zc Dx rfl (PT.ptr q1)) rfl ?_)))));have q4:=Zm (Ko).1 q1;refine Z6 rfl (Z9 (g:=g2) isAgg3 sizeOf3 rfl q4 fun v5 r5=>?_);obtain rfl:=Zj.1 r5;have r6:RV g2.m _ (⟨x0,(x0).Hooks⟩:Gr) (.agg (G3 [[Iz 0,.slice none 0 0],[Iz 0]] [(0,v3),(1,Iz ((x0).Hooks))]).flatten.toArray):=G2 rfl (Gm (RV.cells r3) (G6 (rfl)));generalize cD:(Value.agg (G3 [[Iz 0,.slice none 0 0],[Iz 0]] [(0,v3),(1,Iz ((x0).Hooks))]).flatten.toArray)=v6 at r6;refine Zz v6 (cD ▸ Tf (vs:=[(0,v3),(1,Iz ((x0).Hooks))]) [[Iz 0,.slice none 0 0],[Iz 0]] E1 rfl rfl (.cons rfl (.cons rfl .nil)) ⟨⟨_,rfl,G4 r3⟩,⟨⟨_,rfl,rfl⟩,trivial⟩⟩) rfl (Z6 rfl (Gw (g:=g2) 2004 (⟨⟨0,[]⟩,0⟩:Gr) zeroValue160 (fun m w=>⟨_,(Gi (Gi Zx Tt) Zx),rfl⟩) fun g7 w7 p7 hs b7 cb=>?_));have hfr:=hfr.stp hs;have q1:=q1.stp hs;have o0:=o0.stp hs rfl;have b2:=b2.stp hs rfl;have r6:=r6.stp hs;have yE:OSF 2004 60401 1 g7 w7 43 160 ([]:List Z8) p7:=cb.osf (by rfl);clear cb;refine Z6 rfl (Gk (g:=g7) (v:=v6) sizeOf160 rfl b7 rfl r6 fun g8 w8 hs b8 cb=>?_);clear cb;have hfr:=hfr.stp hs;have q1:=q1.stp hs;have o0:=o0.stp hs rfl;have b2:=b2.stp hs rfl;refine Z4 (Zq h (fun (s:Gr) e w=>∃ (g:Gh) ,Fr gI wI g w∧e 2=p2∧OB 2002 g w 160 (s:Gr) p2∧OSF 2002 60201 1 g w 43 160 (((s).ChainBelt).Cards) p2∧e 4=p7∧OB 2004 g w 160 ((⟨x0,(x0).Hooks⟩:Gr):Gr) p7) (fun X33 k33 vB h=>?_) ?_)
 ·refine Zr (Z7 (Zz (Ga p7 2) (Zc S4 rfl (OB.ptr b8)) rfl (Z6 rfl (Wx (g := g8) K7.1 isAgg158 sizeOf158 rfl b8 fun eF lD => ?_))))
  obtain rfl:=Zj.1 lD;obtain ⟨n8,yB,h⟩:=Z3 h;refine Z6 rfl (Zp (g:=g8) (vs:=[Iz ((x0).Hooks)]) en103 (.cons rfl .nil) (wk103  yB) fun l5 zE rF hs hr=>?_);have hfr:=hfr.ext hs;have q1:=q1.ext hs;have o0:=o0.ext hs;have b2:=b2.ext hs;have b8:=b8.ext hs;subst hr;refine Zz (.bool (!n8)) (Wq rfl) rfl (Zg (.bool (!n8)) rfl rfl (Z4 ?_));rcases Zt h with ⟨t5,h⟩ | ⟨t5,h⟩
  ·refine G5 t5 rfl (Z7 (Z6 rfl (T3 (g := l5) isAgg160 sizeOf160 rfl b8 fun nD oD => (Z6 rfl (Gk (g := l5) (v := nD) sizeOf160 rfl b2 rfl oD fun sF tF hs b40 cb => ?_)))))
   clear cb;have hfr:=hfr.stp hs;refine Zg (Iz (3)) rfl rfl (Z4 (Gd (Tg (Gq ?_))));obtain rfl:=sinj h;obtain ⟨ad41,cv41,hp41,zB,cr41⟩:=T6 isAgg160 sizeOf160 b40;exact J9 rfl rfl ((rq p2).trans hp41) zB (rq (Iz (3))) ⟨_,hfr,_,_,rfl,cr41,rfl⟩
  ·refine G8 t5 rfl (Z7 (Zz (Ga p1 1) (Zc Hx rfl (PT.ptr q1)) rfl ?_))
   have yD:=Zm (Qf).1 q1;refine Z6 rfl (Z9 (g:=l5) isAgg44 sizeOf44 rfl yD fun uF zD=>(Zz (Iz (((x0).Cards).length:Int)) (Tr underlying44 rfl zD) rfl (Zz (.bool ((decide ((((x0).Cards).length:Int) > (60:Int))))) (Gx rfl rfl rfl) rfl (Zz (.bool ((decide ((((x0).Cards).length:Int) > (60:Int))))) (Tx rfl) rfl (Z4 ?_)))));rcases Zt h with ⟨i6,h⟩ | ⟨i6,h⟩
   ·refine G5 i6 rfl (Z7 (Z6 rfl (T3 (g := l5) isAgg160 sizeOf160 rfl b8 fun aE bE => (Z6 rfl (Gk (g := l5) (v := aE) sizeOf160 rfl b2 rfl bE fun vF xF hs b46 cb => ?_)))))
    clear cb;have hfr:=hfr.stp hs;refine Zg (Iz (5)) rfl rfl (Z4 (Gd (Tg (Gq ?_))));obtain rfl:=sinj h;obtain ⟨ad47,cv47,hp47,cC,cr47⟩:=T6 isAgg160 sizeOf160 b46;exact J9 rfl rfl ((rq p2).trans hp47) cC (rq (Iz (5))) ⟨_,hfr,_,_,rfl,cr47,rfl⟩
   ·refine G8 i6 rfl (Z7 (Zz (Ga p7 2) (Zc S4 rfl (OB.ptr b8)) rfl (Z6 rfl (Wx (g := l5) K7.1 isAgg158 sizeOf158 rfl b8 fun yF iE => ?_))))
    obtain rfl:=Zj.1 iE;refine Zz (Ga p1 1) (Zc Hx rfl (PT.ptr q1)) rfl ?_;have lE:=Zm (Qf).1 q1;refine Z6 rfl (Z9 (g:=l5) isAgg44 sizeOf44 rfl lE fun mE oE=>?_);obtain ⟨v8,uC,h⟩:=Z3 h;refine Z6 rfl (Zp (g:=l5) (vs:=[Iz ((x0).Hooks),mE]) en104 (.cons rfl (.cons rfl .nil)) (wk104 oE uC) fun n9 cF aG hs hr=>?_);have hfr:=hfr.ext hs;have o0:=o0.ext hs;have b2:=b2.ext hs;have b8:=b8.ext hs;subst hr;refine Zz (.bool (!v8)) (Wq rfl) rfl (Zg (.bool (!v8)) rfl rfl (Z4 ?_));rcases Zt h with ⟨l8,h⟩ | ⟨l8,h⟩
    ·refine G5 l8 rfl (Z7 (Z6 rfl (T3 (g := n9) isAgg160 sizeOf160 rfl b8 fun rE uE => (Z6 rfl (Gk (g := n9) (v := rE) sizeOf160 rfl b2 rfl uE fun bG cG hs b56 cb => ?_)))))
     clear cb;have hfr:=hfr.stp hs;refine Zg (Iz (2)) rfl rfl (Z4 (Gd (Tg (Gq ?_))));obtain rfl:=sinj h;obtain ⟨ad57,cv57,hp57,vC,cr57⟩:=T6 isAgg160 sizeOf160 b56;exact J9 rfl rfl ((rq p2).trans hp57) vC (rq (Iz (2))) ⟨_,hfr,_,_,rfl,cr57,rfl⟩
    ·refine G8 l8 rfl ?_
     exact Zu (Tc (Zd (vB ((⟨⟨0,[]⟩,0⟩:Gr)) _ _ ⟨n9,hfr,rfl,b2,o0,rfl,b8⟩ h)))
 ·rintro aB dF eG ⟨oB, hfr, l9, lB, u2_1_58, mB, nB⟩ h
  refine Z7 (Z6 rfl (T3 (g:=oB) isAgg160 sizeOf160 mB nB fun vE xE=>(Z6 rfl (Gk (g:=oB) (v:=vE) sizeOf160 l9 lB rfl xE fun gG iG hs b60 cb=>?_))));clear cb;have hfr:=hfr.stp hs;refine Zg (Iz (0)) rfl rfl (Z4 (Gd ?_));obtain rfl:=sinj h;obtain ⟨ad61,cv61,hp61,bD,cr61⟩:=T6 isAgg160 sizeOf160 b60;exact J9 rfl rfl ((show _=p2 from l9).trans hp61) bD (show _=Iz (0) from rfl) ⟨_,hfr,_,_,rfl,cr61,rfl⟩
def f69 (x0:Str):Option (Bool):=
 (f70 x0).bind fun y2=>
 some ((!y2))
theorem en69:Enters prog 69:=enters_of func69 (by kernel_rfl) rfl
theorem wk69 {gI:Gh} {wI:World} {x0:Str}  {r:Bool} (h:f69 x0=some r):Fn prog 69 #[Str.v (x0)] gI wI (fun _ _ v=>v=.bool (r)):=by
 unfold f69 at h;refine fnE func69 rfl rfl fun g0 hm hfr=>?_;show E _ 6 none _ _ _ _ _;refine Z7 (Zg (.bool false) rfl rfl (Z4 (Z7 (Zn (Str.v (x0)) rfl rfl ?_))));obtain ⟨y2,hy2,h⟩:=Z3 h;refine Z6 rfl (Zp (g:=g0) (vs:=[Str.v (x0)]) en70 (.cons rfl .nil) (wk70  hy2) fun g1 w1_ v1 hs hr=>?_);have hfr:=hfr.ext hs;subst hr;refine Zz (.bool (!y2)) (Wq rfl) rfl (Zg (.bool (!y2)) rfl rfl (Z4 (Gd ?_)));obtain rfl:=sinj h;exact Ta rfl rfl (rq (.bool (!y2))) ⟨_,hfr,rfl⟩
def f20 (x0:List (List UInt8)):Option ((List Z5) × Int × Int):=
 jn (σ:=Unit) (fun _=>
  jn (σ:=(List (List Z5))) (fun i6=>
   jn (σ:=(List Z5)) (fun cD=>
    jn (σ:=Unit) (fun _=>
     (f46 cD ((fun a0 a1=>f17 a0 a1))).bind fun jM=>
     some (jM,(0:Int),(0:Int))
     ) fun kM=>
    bif (decide (((cD).length : Int) > (100 : Int))) then
     some (([]:List Z5),(0:Int),(5:Int))
    else
     kM ()
    ) fun pM=>
   lp (σ:=(List Z5) × (List (G7 × Z5)) × Int) (fun qM (xE,sG,t5)=>
    bif (decide (t5 < ((i6).length : Int))) then
     jn (σ:=(List Z5) × (List (G7 × Z5))) (fun (jG,dF)=>
      qM (jG,dF,(w64 (t5 + (1:Int))))
      ) fun rM=>
     (idx i6 t5).bind fun yB=>
     lp (σ:=(List Z5) × (List (G7 × Z5)) × Int) (fun sM (zB,l5,n8)=>
      bif (decide (n8 < ((yB).length : Int))) then
       jn (σ:=(List Z5) × (List (G7 × Z5))) (fun (kG,eF)=>
        sM (kG,eF,(w64 (n8 + (1:Int))))
        ) fun sI=>
       (idx yB n8).bind fun o0=>
       jn (σ:=Unit) (fun _=>
        bif (!((Hf l5 ((⟨(o0).Day, (o0).Loom⟩ : G7))).isSome)) then
         (apnd 40 zB (([o0]:List Z5))).bind fun jJ=>
         sI (jJ,(H5 l5 ((⟨(o0).Day,(o0).Loom⟩:G7)) o0))
        else
         sI (zB,l5)
        ) fun tM=>
       Option.bind (α:=Bool) (
        bif ((Hf l5 ((⟨(o0).Day, (o0).Loom⟩ : G7))).isSome) then
         some ((!(decide (((Hf l5 ((⟨(o0).Day,(o0).Loom⟩:G7))).getD (⟨0,0,0,0,0⟩:Z5))=o0))))
        else
         some (false)
        ) fun lD=>
       bif lD then
        some (([]:List Z5),t5,(6:Int))
       else
        tM ()
      else
       rM (zB,l5)
      ) big (xE,sG,(0:Int))
    else
     pM (xE)
    ) big (([]:List Z5),([]:List (G7 × Z5)),(0:Int))
   ) fun eP=>
  lp (σ:=(List (List Z5)) × Int) (fun gP (lE,g8)=>
   bif (decide (g8 < ((x0).length : Int))) then
    jn (σ:=(List (List Z5))) (fun qH=>
     gP (qH,(w64 (g8 + (1:Int))))
     ) fun iP=>
    (idx x0 g8).bind fun jP=>
    (f45 jP).bind fun cC=>
    jn (σ:=Unit) (fun _=>
     (apnd 24 lE (([cC.1]:List (List Z5)))).bind fun uM=>
     iP (uM)
     ) fun k80=>
    bif (cC.2.2 != (0 : Int)) then
     some (([]:List Z5),g8,cC.2.2)
    else
     k80 ()
   else
    eP (lE)
   ) big ([],(0:Int))
  ) fun k5=>
 bif (decide (((x0).length : Int) > (10 : Int))) then
  some (([]:List Z5),(0:Int),(5:Int))
 else
  k5 ()
theorem en20:Enters prog 20:=enters_of func20 (by kernel_rfl) rfl
theorem wk20 {gI:Gh} {wI:World} {x0:List (List UInt8)} {up0:Value} (rp0:RV gI.m wI x0 up0) {r:(List Z5) × Int × Int} (h:f20 x0=some r):Fn prog 20 #[up0] gI wI (fun m w v=>∃ y0 y1 y2,v=.tuple #[y0,y1,y2]∧RV m w (r.1) y0∧y1=Iz (r.2.1)∧y2=Iz (r.2.2)):=by
 unfold f20 at h;refine fnE func20 rfl rfl fun g0 hm hfr=>?_;have rp0:=RVc hm rp0;show E _ 95 none _ _ _ _ _;refine Z7 (Zg (.slice none 0 0) rfl rfl ?_);have b1:OA 4002 g0 wI 55 ([]:List Z5) (.slice none 0 0):=OA.nil;refine Zg (Iz (0)) rfl rfl (Zg (Iz (0)) rfl rfl (Z4 (Zq h (fun (s:Unit) e w=>∃ (g:Gh) ,Fr gI wI g w∧e 0=up0∧RV g.m w (x0:List (List UInt8)) up0∧e 2=.slice none 0 0∧OA 4002 g w 55 (([]:List Z5):List Z5) (Value.slice none 0 0)) (fun X5 k5 hk5 h=>?_) ?_)))
 ·refine Z7 (Zn up0 rfl rfl (Zz (Iz ((x0).length : Int)) (Tr underlying60 rfl rp0) rfl (Gf (.bool ((decide (((x0).length : Int) > (10 : Int))))) rfl rfl rfl rfl (Z4 ?_))))
  rcases Zt h with ⟨hc6,h⟩ | ⟨hc6,h⟩
  ·refine G5 hc6 rfl (Z7 (Zg (.slice none 0 0) rfl rfl ?_))
   have b7:OA 4002 g0 wI 55 ([]:List Z5) (.slice none 0 0):=OA.nil;refine Zg (Iz (0)) rfl rfl (Zg (Iz (5)) rfl rfl (Z4 (Gd (Gq ?_))));obtain ⟨gp8,hs,rp8⟩:=OM.pub (b7.toM);have hfr:=hfr.stp hs;obtain rfl:=sinj h;exact Y9 rfl rfl (rq (.slice none 0 0)) (rq (Iz (0))) (rq (Iz (5))) ⟨_,hfr,_,_,_,rfl,rp8,rfl,rfl⟩
  ·refine G8 hc6 rfl ?_
   exact Zu (Zd (hk5 () _ _ ⟨g0,hfr,rfl,rp0,rfl,b1⟩ h))
 ·rintro _ sT w9 ⟨g9, hfr, mP, vM, nP, oP⟩ h
  refine Z7 (Zg (.slice none 0 0) rfl rfl (Z4 (Zq h (fun (s:(List (List Z5))) e w=>∃ (g:Gh) (v5:Value),Fr gI wI g w∧e 2=.slice none 0 0∧OA 4002 g w 55 (([]:List Z5):List Z5) (Value.slice none 0 0)∧e 5=v5∧RV g.m w (s:List (List Z5)) v5∧OS 1005 g w 56 (s:List (List Z5)) v5) (fun X49 eP pP h=>?_) ?_)))
  ·refine Z7 (Zo mP rfl (Zz (Iz ((x0).length : Int)) (Tr underlying60 rfl vM) rfl (Zn (Iz (0)) rfl rfl (Z4 (Zr (Wo h (fun (s : (List (List Z5)) × Int) e w => ∃ (g : Gh) (v5 : Value), Fr gI wI g w ∧ e 2 = .slice none 0 0 ∧ OA 4002 g w 55 (([] : List Z5) : List Z5) (Value.slice none 0 0) ∧ e 5 = v5 ∧ RV g.m w (s.1 : List (List Z5)) v5 ∧ OS 1005 g w 56 (s.1 : List (List Z5)) v5 ∧ e 21 = up0 ∧ RV g.m w (x0 : List (List UInt8)) up0 ∧ e 22 = Iz (((x0).length : Int)) ∧ e 23 = Iz (s.2)) ⟨g9, (.slice none 0 0), hfr, nP, oP, rfl, Qi, OS.nil, rfl, vM, rfl, rfl⟩ (fun X50 gP sP => ?_)))))))
   rintro ⟨lE,g8⟩ cS tT ⟨xM,bG,hfr,rJ,cG,sJ,eG,gG,dI,aE,iI,yE⟩ h;refine Z7 (Gf (.bool ((decide (g8 < ((x0).length:Int))))) yE iI rfl rfl (Z4 (Zf ?_)));rcases Zt h with ⟨kJ,h⟩ | ⟨kJ,h⟩
   ·refine G5 kJ rfl (Zu (Zd (Zq h (fun (s : (List (List Z5))) e w => ∃ (g : Gh) (v5 : Value), Fr gI wI g w ∧ e 2 = .slice none 0 0 ∧ OA 4002 g w 55 (([] : List Z5) : List Z5) (Value.slice none 0 0) ∧ e 5 = v5 ∧ RV g.m w (s : List (List Z5)) v5 ∧ OS 1005 g w 56 (s : List (List Z5)) v5 ∧ e 21 = up0 ∧ RV g.m w (x0 : List (List UInt8)) up0 ∧ e 22 = Iz (((x0).length : Int)) ∧ e 23 = Iz (g8)) (fun X71 iP tP h => ?_) ?_)))
    ·refine Zr (Z7 (Zo yE rfl ?_))
     obtain ⟨jP,bN,h⟩:=Z3 h;refine Zz (Tb up0 g8 1) (Zh (α:=List UInt8) underlying60 sizeOf50 dI aE yE bN) rfl ?_;have eR:=Tp aE bN;refine Z6 rfl (Z9 (g:=xM) isAgg50 sizeOf50 rfl eR fun cN gR=>(Zg (Iz (g8)) rfl rfl (Zg cN rfl rfl (Z4 (Z7 (Zn cN rfl rfl ?_))))));obtain ⟨cC,uP,h⟩:=Z3 h;refine Z6 rfl (Zp (g:=xM) (vs:=[cN]) en45 (.cons rfl .nil) (wk45 gR uP) fun kP vP uT hs hr=>?_);have hfr:=hfr.ext hs;have cG:=cG.ext hs;have eG:=eG.ext hs;have gG:=gG.ext hs;have aE:=aE.ext hs;obtain ⟨mE,pR,qR,rfl,dO,rfl,rfl⟩:=hr;refine Zn (.tuple #[mE,Iz (cC.2.1),Iz (cC.2.2)]) rfl rfl (Zz mE (Zi rfl rfl) rfl (Zz (Iz (cC.2.1)) (Zi rfl rfl) rfl (Zz (Iz (cC.2.2)) (Zi rfl rfl) rfl (Zg mE rfl rfl (Zg (Iz (cC.2.1)) rfl rfl (Zg (Iz (cC.2.2)) rfl rfl (Z4 (Zq h (fun (s:Unit) e w=>∃ (g:Gh) ,Fr gI wI g w∧e 2=.slice none 0 0∧OA 4002 g w 55 (([]:List Z5):List Z5) (Value.slice none 0 0)∧e 5=bG∧RV g.m w (lE:List (List Z5)) bG∧OS 1005 g w 56 (lE:List (List Z5)) bG∧e 8=mE∧RV g.m w (cC.1:List Z5) mE∧e 21=up0∧RV g.m w (x0:List (List UInt8)) up0∧e 22=Iz (((x0).length:Int))∧e 23=Iz (g8)) (fun X80 k80 xP h=>?_) ?_))))))))
     ·refine Z7 (Zn (Iz (cC.2.2)) rfl rfl (Gf (.bool ((cC.2.2 != (0 : Int)))) rfl rfl rfl rfl (Z4 ?_)))
      rcases Zt h with ⟨lJ,h⟩ | ⟨lJ,h⟩
      ·refine G5 lJ rfl (Z7 (Zn (Iz (g8)) rfl rfl (Zn (Iz (cC.2.2)) rfl rfl (Zg (.slice none 0 0) rfl rfl ?_))))
       have b82:OA 4002 kP vP 55 ([]:List Z5) (.slice none 0 0):=OA.nil;refine Zg (Iz (g8)) rfl rfl (Zg (Iz (cC.2.2)) rfl rfl (Z4 (Gd (Gq (Tg (Gq (Gq (Tg (Gq ?_)))))))));obtain ⟨gp83,hs,rp83⟩:=OM.pub (b82.toM);have hfr:=hfr.stp hs;obtain rfl:=sinj h;exact Y9 rfl rfl (rq (.slice none 0 0)) (rq (Iz (g8))) (rq (Iz (cC.2.2))) ⟨_,hfr,_,_,_,rfl,rp83,rfl,rfl⟩
      ·refine G8 lJ rfl ?_
       exact Zu (Zd (xP () _ _ ⟨kP,hfr,rJ,cG,sJ,eG,gG,rfl,dO,dI,aE,iI,yE⟩ h))
     ·rintro _ dS xT ⟨iR, hfr, eO, zD, gO, zE, cF, jO, kO, dN, vC, eN, gN⟩ h
      refine Za (Zo gO rfl (Zo jO rfl (Z6 rfl (Rr (g:=iR) 4040 (xs:=([cC.1]:List (List Z5))) (vs:=[mE]) underlying120 sizeOf56 zeroValue56 rfl rfl (.cons rfl .nil) (RVs.cons kO RVs.nil) rfl rfl fun yT zT aU hs b85 _=>?_))));have hfr:=hfr.stp hs;have zD:=zD.stp hs rfl;have zE:=zE.stp hs;have cF:=cF.stp hs rfl;have vC:=vC.stp hs;obtain ⟨gp86,hs,rp86⟩:=OM.pub (b85.toM);have hfr:=hfr.stp hs;have zD:=zD.stp hs rfl;have zE:=zE.stp hs;have cF:=cF.stp hs rfl;have vC:=vC.stp hs;obtain ⟨uM,yP,h⟩:=Z3 h;refine Z6 rfl (Ql (g:=gp86) (i:=1005) underlying120 Ed rfl rfl cF zE rfl rp86 yP fun jR bU lP hs o87 lR _=>?_);have hfr:=hfr.stp hs;have zD:=zD.stp hs rfl;have vC:=vC.stp hs;refine Zg lP rfl rfl ?_;exact Zb (Tc (Zd (tP (uM) _ _ ⟨jR,(lP),hfr,eO,zD,rfl,lR,o87,dN,vC,eN,gN⟩ h)))
    ·rintro qH eS cU ⟨mR, lO, hfr, mO, nO, oO, pO, qO, iN, jN, kN, lN⟩ h
     refine Za (Gf (Iz ((w64 (g8 + (1:Int))))) lN rfl rfl rfl (Zn (Iz ((w64 (g8 + (1:Int))))) rfl rfl ?_));exact Z4 (sP (qH,(w64 (g8 + (1:Int)))) _ _ ⟨mR,(lO),hfr,mO,nO,oO,pO,qO,iN,jN,kN,rfl⟩ h)
   ·refine G8 kJ rfl (Tu (Gy (Gy (G9 ?_))))
    exact Zd (pP (lE) _ _ ⟨xM,(bG),hfr,rJ,cG,sJ,eG,gG⟩ h)
  ·rintro i6 gS dU ⟨nR, l8, hfr, rO, sH, sO, iG, tH⟩ h
   refine Z7 (Z6 rfl (Be (g:=nR) (U4 Yc) Z5 8043 fun oR eU nD hs m91=>?_));have hfr:=hfr.stp hs;have sH:=sH.stp hs rfl;have iG:=iG.stp hs;have tH:=tH.stp hs rfl;refine Zg nD rfl rfl (Z4 (Zq h (fun (s:(List Z5)) e w=>∃ (g:Gh) (v2:Value),Fr gI wI g w∧e 2=v2∧OA 4002 g w 55 (s:List Z5) v2) (fun X301 pM tO h=>?_) ?_))
   ·refine Z7 (Zo sO rfl (Zz (Iz ((i6).length : Int)) (Tr underlying120 rfl iG) rfl (Zn (Iz (0)) rfl rfl (Z4 (Zr (Wo h (fun (s : (List Z5) × (List (G7 × Z5)) × Int) e w => ∃ (g : Gh) (v2 : Value), Fr gI wI g w ∧ e 2 = v2 ∧ OA 4002 g w 55 (s.1 : List Z5) v2 ∧ e 11 = nD ∧ MP (U4 Yc) 8043 g w (s.2.1 : List (G7 × Z5)) nD ∧ e 44 = l8 ∧ RV g.m w (i6 : List (List Z5)) l8 ∧ OS 1005 g w 56 (i6 : List (List Z5)) l8 ∧ e 45 = Iz (((i6).length : Int)) ∧ e 46 = Iz (s.2.2)) ⟨oR, (.slice none 0 0), hfr, rO, sH, rfl, m91, rfl, iG, tH, rfl, rfl⟩ (fun X302 qM uO => ?_)))))))
    rintro ⟨xE,sG,t5⟩ rR iS ⟨mJ,jI,hfr,kI,lI,aK,bK,xG,rF,cK,yG,oE⟩ h;refine Z7 (Gf (.bool ((decide (t5 < ((i6).length:Int))))) oE yG rfl rfl (Z4 (Zf ?_)));rcases Zt h with ⟨uH,h⟩ | ⟨uH,h⟩
    ·refine G5 uH rfl (Zu (Zd (Zq h (fun (s : (List Z5) × (List (G7 × Z5))) e w => ∃ (g : Gh) (v2 : Value), Fr gI wI g w ∧ e 2 = v2 ∧ OA 4002 g w 55 (s.1 : List Z5) v2 ∧ e 11 = nD ∧ MP (U4 Yc) 8043 g w (s.2 : List (G7 × Z5)) nD ∧ e 44 = l8 ∧ RV g.m w (i6 : List (List Z5)) l8 ∧ OS 1005 g w 56 (i6 : List (List Z5)) l8 ∧ e 45 = Iz (((i6).length : Int)) ∧ e 46 = Iz (t5)) (fun X407 rM vO h => ?_) ?_)))
     ·refine Zr (Z7 (Zo oE rfl ?_))
      obtain ⟨yB,vJ,h⟩:=Z3 h;refine Zz (Tb l8 t5 1) (Zh (α:=List Z5) underlying120 sizeOf56 xG rF oE vJ) rfl ?_;have zP:=Tp rF vJ;refine Z6 rfl (Z9 (g:=mJ) isAgg56 sizeOf56 rfl zP fun bD mN=>(Zg (Iz (t5)) rfl rfl (Zg bD rfl rfl (Z4 (Z7 (Zn bD rfl rfl (Zz (Iz ((yB).length:Int)) (Tr underlying56 rfl mN) rfl (Zn (Iz (0)) rfl rfl (Z4 (Zr (Wo h (fun (s:(List Z5) × (List (G7 × Z5)) × Int) e w=>∃ (g:Gh) (v2:Value),Fr gI wI g w∧e 2=v2∧OA 4002 g w 55 (s.1:List Z5) v2∧e 11=nD∧MP (U4 Yc) 8043 g w (s.2.1:List (G7 × Z5)) nD∧e 12=Iz (t5)∧e 44=l8∧RV g.m w (i6:List (List Z5)) l8∧OS 1005 g w 56 (i6:List (List Z5)) l8∧e 45=Iz (((i6).length:Int))∧e 46=Iz (t5)∧e 51=bD∧RV g.m w (yB:List Z5) bD∧e 52=Iz (((yB).length:Int))∧e 53=Iz (s.2.2)) ⟨mJ,(jI),hfr,kI,lI,aK,bK,rfl,xG,rF,cK,yG,oE,rfl,mN,rfl,rfl⟩ (fun X411 sM xO=>?_))))))))))));rintro ⟨zB,l5,n8⟩ tR jS ⟨nJ,oD,hfr,lG,lB,rE,v8,zG,sF,n9,aB,tF,uF,vF,l9,xF,uE⟩ h;refine Z7 (Gf (.bool ((decide (n8 < ((yB).length:Int))))) uE xF rfl rfl (Z4 (Zf ?_)));rcases Zt h with ⟨xH,h⟩ | ⟨xH,h⟩
      ·refine G5 xH rfl (Zu (Zd (Zq h (fun (s : (List Z5) × (List (G7 × Z5))) e w => ∃ (g : Gh) (v2 : Value), Fr gI wI g w ∧ e 2 = v2 ∧ OA 4002 g w 55 (s.1 : List Z5) v2 ∧ e 11 = nD ∧ MP (U4 Yc) 8043 g w (s.2 : List (G7 × Z5)) nD ∧ e 12 = Iz (t5) ∧ e 44 = l8 ∧ RV g.m w (i6 : List (List Z5)) l8 ∧ OS 1005 g w 56 (i6 : List (List Z5)) l8 ∧ e 45 = Iz (((i6).length : Int)) ∧ e 46 = Iz (t5) ∧ e 51 = bD ∧ RV g.m w (yB : List Z5) bD ∧ e 52 = Iz (((yB).length : Int)) ∧ e 53 = Iz (n8)) (fun X461 sI xJ h => ?_) ?_)))
       ·refine Zr (Z7 ?_)
        obtain ⟨o0,zJ,h⟩:=Z3 h;refine Zz (Tb bD n8 5) (Zh (α:=Z5) underlying56 sizeOf55 vF l9 uE zJ) rfl ?_;have bQ:=Tp l9 zJ;refine Z6 rfl (Z9 (g:=nJ) isAgg55 sizeOf55 rfl bQ fun cQ oJ=>(Z6 rfl (Gw (g:=nJ) 2015 (⟨0,0,0,0,0⟩:Z5) zeroValue55 (fun m w=>⟨_,(Gi Zx (Gi Zx (Gi Zx (Gi Zx Zx)))),rfl⟩) fun dQ lS bE hs b465 cb=>?_)));have hfr:=hfr.stp hs;have lB:=lB.stp hs rfl;have v8:=v8.stp hs rfl;have n9:=n9.stp hs;have aB:=aB.stp hs rfl;have l9:=l9.stp hs;have oJ:=oJ.stp hs;clear cb;refine Z6 rfl (Gk (g:=dQ) (v:=cQ) sizeOf55 rfl b465 rfl oJ fun mG eQ hs b466 cb=>?_);clear cb;have hfr:=hfr.stp hs;have lB:=lB.stp hs rfl;have v8:=v8.stp hs rfl;have n9:=n9.stp hs;have aB:=aB.stp hs rfl;have l9:=l9.stp hs;refine Z4 (Z7 (Zo rE rfl (Zz (Ga bE 0) (Zc Ys rfl (OB.ptr b466)) rfl (Z6 rfl (Wx (g:=mG) Q4.1 isAgg3 sizeOf3 rfl b466 fun mS gQ=>?_)))));obtain rfl:=Zj.1 gQ;refine Zz (Ga bE 1) (Zc J6 rfl (OB.ptr b466)) rfl (Z6 rfl (Wx (g:=mG) Qv.1 isAgg3 sizeOf3 rfl b466 fun nS iQ=>?_));obtain rfl:=Zj.1 iQ;have nN:RV mG.m eQ (⟨(o0).Day,(o0).Loom⟩:G7) (.agg (G3 [[Iz 0],[Iz 0]] [(0,Iz ((o0).Day)),(1,Iz ((o0).Loom))]).flatten.toArray):=G2 rfl (Gm (rfl) (G6 (rfl)));generalize yO:(Value.agg (G3 [[Iz 0],[Iz 0]] [(0,Iz ((o0).Day)),(1,Iz ((o0).Loom))]).flatten.toArray)=jQ at nN;refine Zz jQ (yO ▸ Tf (vs:=[(0,Iz ((o0).Day)),(1,Iz ((o0).Loom))]) [[Iz 0],[Iz 0]] A5 rfl rfl (.cons rfl (.cons rfl .nil)) ⟨⟨_,rfl,rfl⟩,⟨⟨_,rfl,rfl⟩,trivial⟩⟩) rfl (Z6 rfl (Ps (g:=mG) (z0:=(⟨0,0,0,0,0⟩:Z5)) underlying122 A8 zeroValue55 (fun m w=>⟨_,(Gi Zx (Gi Zx (Gi Zx (Gi Zx Zx)))),rfl⟩) rfl v8 (rfl.trans (A6 Yc nN)) fun pJ qJ=>(Zn (.tuple #[pJ,.bool ((Hf l5 ((⟨(o0).Day,(o0).Loom⟩:G7))).isSome)]) rfl rfl (Zz pJ (Zi rfl rfl) rfl (Zz (.bool ((Hf l5 ((⟨(o0).Day,(o0).Loom⟩:G7))).isSome)) (Zi rfl rfl) rfl (Z6 rfl (Gw (g:=mG) 2016 (⟨0,0,0,0,0⟩:Z5) zeroValue55 (fun m w=>⟨_,(Gi Zx (Gi Zx (Gi Zx (Gi Zx Zx)))),rfl⟩) fun kQ oS pS hs b473 cb=>?_)))))));have hfr:=hfr.stp hs;have lB:=lB.stp hs rfl;have v8:=v8.stp hs rfl;have n9:=n9.stp hs;have aB:=aB.stp hs rfl;have l9:=l9.stp hs;have b466:=b466.stp hs rfl;have qJ:=qJ.stp hs;clear cb;refine Z6 rfl (Gk (g:=kQ) (v:=pJ) sizeOf55 rfl b473 rfl qJ fun yH qS hs b474 cb=>?_);clear cb;have hfr:=hfr.stp hs;have lB:=lB.stp hs rfl;have v8:=v8.stp hs rfl;have n9:=n9.stp hs;have aB:=aB.stp hs rfl;have l9:=l9.stp hs;have b466:=b466.stp hs rfl;refine Zg (.bool ((Hf l5 ((⟨(o0).Day,(o0).Loom⟩:G7))).isSome)) rfl rfl (Z4 (Zq h (fun (s:Unit) e w=>∃ (g:Gh) ,Fr gI wI g w∧e 2=oD∧OA 4002 g w 55 (zB:List Z5) oD∧e 11=nD∧MP (U4 Yc) 8043 g w (l5:List (G7 × Z5)) nD∧e 12=Iz (t5)∧e 15=bE∧OB 2015 g w 55 (o0:Z5) bE∧e 17=.bool (((Hf l5 ((⟨(o0).Day,(o0).Loom⟩:G7))).isSome))∧e 44=l8∧RV g.m w (i6:List (List Z5)) l8∧OS 1005 g w 56 (i6:List (List Z5)) l8∧e 45=Iz (((i6).length:Int))∧e 46=Iz (t5)∧e 51=bD∧RV g.m w (yB:List Z5) bD∧e 52=Iz (((yB).length:Int))∧e 53=Iz (n8)) (fun X485 tM zO h=>?_) ?_))
        ·obtain ⟨lD, hx, h⟩ := Z3 h
         refine Gs (fun e w=>∃ (g:Gh) ,Fr gI wI g w∧e 2=oD∧OA 4002 g w 55 (zB:List Z5) oD∧e 11=nD∧MP (U4 Yc) 8043 g w (l5:List (G7 × Z5)) nD∧e 12=Iz (t5)∧e 15=bE∧OB 2015 g w 55 (o0:Z5) bE∧e 17=.bool (((Hf l5 ((⟨(o0).Day,(o0).Loom⟩:G7))).isSome))∧e 44=l8∧RV g.m w (i6:List (List Z5)) l8∧OS 1005 g w 56 (i6:List (List Z5)) l8∧e 45=Iz (((i6).length:Int))∧e 46=Iz (t5)∧e 51=bD∧RV g.m w (yB:List Z5) bD∧e 52=Iz (((yB).length:Int))∧e 53=Iz (n8)∧e 72=.bool (lD)) (fun Q' hQ=>?_) (fun uR lQ hR=>?_)
         ·replace h := hx
          clear hx;refine Za (Zn (.bool ((Hf l5 ((⟨(o0).Day,(o0).Loom⟩:G7))).isSome)) rfl rfl (Zn (.bool ((Hf l5 ((⟨(o0).Day,(o0).Loom⟩:G7))).isSome)) rfl rfl ?_));rcases Zt h with ⟨uC,h⟩ | ⟨uC,h⟩
          ·refine Ze (.yes2 rfl rfl uC) rfl (T3 (g := yH) isAgg55 sizeOf55 rfl b474 fun rS mQ => (Ze (.yes2 rfl rfl uC) rfl (T3 (g := yH) isAgg55 sizeOf55 rfl b466 fun sS nQ => (Z0 (.bool ((!(decide (((Hf l5 ((⟨(o0).Day, (o0).Loom⟩ : G7))).getD (⟨0, 0, 0, 0, 0⟩ : Z5)) = o0))))) (P_sne seq_55 rfl eg_55 rfl rfl mQ nQ) rfl rfl uC rfl (Zz (.bool ((!(decide (((Hf l5 ((⟨(o0).Day, (o0).Loom⟩ : G7))).getD (⟨0, 0, 0, 0, 0⟩ : Z5)) = o0))))) (Zl (b := ((Hf l5 ((⟨(o0).Day, (o0).Loom⟩ : G7))).isSome)) rfl (Te uC rfl)) rfl (Zb ?_))))))
           obtain rfl:=sinj h;exact hQ _ _ ⟨yH,hfr,lG,lB,rE,v8,zG,rfl,b466,rfl,sF,n9,aB,tF,uF,vF,l9,xF,uE,rfl⟩
          ·refine Z1 rfl rfl uC rfl rfl (Z1 rfl rfl uC rfl rfl (Z1 rfl rfl uC rfl rfl (Zz (.bool false) (Zl (b := ((Hf l5 ((⟨(o0).Day, (o0).Loom⟩ : G7))).isSome)) rfl (Td uC rfl)) rfl (Zb ?_))))
           obtain rfl:=sinj h;exact hQ _ _ ⟨yH,hfr,lG,lB,rE,v8,zG,rfl,b466,rfl,sF,n9,aB,tF,uF,vF,l9,xF,uE,rfl⟩
         ·clear hx
          obtain ⟨oN,hfr,pN,qN,dK,lK,aH,mK,nK,oK,pK,qK,sK,tK,uK,vK,xK,yK,zK,cH⟩:=hR;rcases Zt h with ⟨zH,h⟩ | ⟨zH,h⟩
          ·refine Tj (Eq.trans (show ev _ _ = .bool (lD) from cH) (congrArg Value.bool zH)) (Z7 (Zo aH rfl (Zg (.slice none 0 0) rfl rfl ?_)))
           have b494:OA 4002 oN lQ 55 ([]:List Z5) (.slice none 0 0):=OA.nil;refine Zg (Iz (t5)) rfl rfl (Zg (Iz (6)) rfl rfl (Z4 (Gd (Gq (Tg (Gq (Gq (Tg (Tg (Gq (Gq (Tg (Gq ?_)))))))))))));obtain ⟨gp495,hs,rp495⟩:=OM.pub (b494.toM);have hfr:=hfr.stp hs;obtain rfl:=sinj h;exact Y9 rfl rfl (rq (.slice none 0 0)) (rq (Iz (t5))) (rq (Iz (6))) ⟨_,hfr,_,_,_,rfl,rp495,rfl,rfl⟩
          ·refine Gz (Eq.trans (show ev _ _ = .bool (lD) from cH) (congrArg Value.bool zH)) ?_
           exact Zu (Zd (zO () _ _ ⟨oN,hfr,pN,qN,dK,lK,aH,mK,nK,oK,pK,qK,sK,tK,uK,vK,xK,yK,zK⟩ h))
        ·rintro _ vR oQ ⟨yF, hfr, mI, yD, aG, gH, jH, vE, mB, aL, kH, nB, oB, lH, mH, nH, vB, oH, pH⟩ h
         refine Z7 (Zz (.bool (((Hf l5 ((⟨(o0).Day,(o0).Loom⟩:G7))).isSome))) (Zk aL) rfl (Zz (.bool (!((Hf l5 ((⟨(o0).Day,(o0).Loom⟩:G7))).isSome))) (Wq rfl) rfl (Z4 ?_)));rcases Zt h with ⟨aI,h⟩ | ⟨aI,h⟩
         ·refine G5 aI rfl (Z7 (Zo aG rfl (Zz (Ga bE 0) (Zc Ys vE (OB.ptr mB)) rfl (Z6 rfl (Wx (g := yF) Q4.1 isAgg3 sizeOf3 rfl mB fun tS pQ => ?_)))))
          obtain rfl:=Zj.1 pQ;refine Zz (Ga bE 1) (Zc J6 vE (OB.ptr mB)) rfl (Z6 rfl (Wx (g:=yF) Qv.1 isAgg3 sizeOf3 rfl mB fun uS qQ=>?_));obtain rfl:=Zj.1 qQ;have rN:RV yF.m oQ (⟨(o0).Day,(o0).Loom⟩:G7) (.agg (G3 [[Iz 0],[Iz 0]] [(0,Iz ((o0).Day)),(1,Iz ((o0).Loom))]).flatten.toArray):=G2 rfl (Gm (rfl) (G6 (rfl)));generalize aP:(Value.agg (G3 [[Iz 0],[Iz 0]] [(0,Iz ((o0).Day)),(1,Iz ((o0).Loom))]).flatten.toArray)=rQ at rN;refine Zz rQ (aP ▸ Tf (vs:=[(0,Iz ((o0).Day)),(1,Iz ((o0).Loom))]) [[Iz 0],[Iz 0]] A5 rfl rfl (.cons rfl (.cons rfl .nil)) ⟨⟨_,rfl,rfl⟩,⟨⟨_,rfl,rfl⟩,trivial⟩⟩) rfl (Z6 rfl (T3 (g:=yF) isAgg55 sizeOf55 vE mB fun vS sQ=>(Z6 rfl (Vn (g:=yF) underlying122 A8 rfl gH (rfl.trans (A6 Yc rN)) rfl sQ fun sN xS hs m504=>?_))));have hfr:=hfr.stp hs;have yD:=yD.stp hs rfl;have mB:=mB.stp hs rfl;have nB:=nB.stp hs;have oB:=oB.stp hs rfl;have vB:=vB.stp hs;refine Z4 (Za (Zo mI rfl (Z6 rfl (T3 (g:=sN) isAgg55 sizeOf55 vE mB fun tQ uQ=>(Z6 rfl (Gb (g:=sN) 3085 (xs:=([o0]:List Z5)) (vs:=[tQ]) underlying56 sizeOf55 zeroValue55 rfl rfl (.cons rfl .nil) (RVs.cons uQ RVs.nil) rfl rfl fun vQ yS zS hs o506 xQ hxt hfl=>?_))))));have hfr:=hfr.stp hs;have yD:=yD.stp hs rfl;have m504:=m504.stp hs rfl;have nB:=nB.stp hs;have oB:=oB.stp hs rfl;have vB:=vB.stp hs;obtain ⟨jJ,bP,h⟩:=Z3 h;refine Z6 rfl (Nb (g:=vQ) Bz (i:=4002) underlying56 C4 rfl rfl yD rfl xQ bP fun yQ eT tN hs b507=>?_);have hfr:=hfr.stp hs;have m504:=m504.stp hs rfl;have nB:=nB.stp hs;have oB:=oB.stp hs rfl;have vB:=vB.stp hs;refine Zg tN rfl rfl ?_;exact Zb (Tc (Zd (xJ (jJ,(H5 l5 ((⟨(o0).Day,(o0).Loom⟩:G7)) o0)) _ _ ⟨yQ,(tN),hfr,rfl,b507,aG,m504,jH,kH,nB,oB,lH,mH,nH,vB,oH,pH⟩ h)))
         ·refine G8 aI rfl ?_
          exact Zu (Tc (Zd (xJ (zB,l5) _ _ ⟨yF,(oD),hfr,mI,yD,aG,gH,jH,kH,nB,oB,lH,mH,nH,vB,oH,pH⟩ h)))
       ·rintro ⟨kG, eF⟩ xR lT ⟨zQ, uN, hfr, vN, xN, bL, dL, eL, gL, iL, jL, lL, mL, nL, oL, xL, yL⟩ h
        refine Za (Gf (Iz ((w64 (n8 + (1:Int))))) yL rfl rfl rfl (Zn (Iz ((w64 (n8 + (1:Int))))) rfl rfl ?_));exact Z4 (xO (kG,eF,(w64 (n8 + (1:Int)))) _ _ ⟨zQ,(uN),hfr,vN,xN,bL,dL,eL,gL,iL,jL,lL,mL,nL,oL,xL,rfl⟩ h)
      ·refine G8 xH rfl (Tu (Gy (Gy (G9 ?_))))
       exact Tc (Zd (vO (zB,l5) _ _ ⟨nJ,(oD),hfr,lG,lB,rE,v8,sF,n9,aB,tF,uF⟩ h))
     ·rintro ⟨jG, dF⟩ yR mT ⟨aR, yN, hfr, zN, aO, zL, aM, bM, cM, dM, eM, iM⟩ h
      refine Za (Gf (Iz ((w64 (t5 + (1:Int))))) iM rfl rfl rfl (Zn (Iz ((w64 (t5 + (1:Int))))) rfl rfl ?_));exact Z4 (uO (jG,dF,(w64 (t5 + (1:Int)))) _ _ ⟨aR,(yN),hfr,zN,aO,zL,aM,bM,cM,dM,eM,rfl⟩ h)
    ·refine G8 uH rfl (Tu (Gy (Gy (G9 ?_))))
     exact Zd (tO (xE) _ _ ⟨mJ,(jI),hfr,kI,lI⟩ h)
   ·rintro cD zR bR ⟨bO, iE, hfr, nI, pI⟩ h
    refine Zq h (fun (s:Unit) e w=>∃ (g:Gh) ,Fr gI wI g w∧e 2=iE∧OA 4002 g w 55 (cD:List Z5) iE) (fun X515 kM cP h=>?_) ?_
    ·refine Z7 (Zo nI rfl (Zz (Iz ((cD).length : Int)) (Vo underlying56 rfl (pI.toM)) rfl (Gf (.bool ((decide (((cD).length : Int) > (100 : Int))))) rfl rfl rfl rfl (Z4 ?_))))
     rcases Zt h with ⟨bI,h⟩ | ⟨bI,h⟩
     ·refine G5 bI rfl (Z7 (Zg (.slice none 0 0) rfl rfl ?_))
      have b517:OA 4002 bO bR 55 ([]:List Z5) (.slice none 0 0):=OA.nil;refine Zg (Iz (0)) rfl rfl (Zg (Iz (5)) rfl rfl (Z4 (Gd (Gq ?_))));obtain ⟨gp518,hs,rp518⟩:=OM.pub (b517.toM);have hfr:=hfr.stp hs;obtain rfl:=sinj h;exact Y9 rfl rfl (rq (.slice none 0 0)) (rq (Iz (0))) (rq (Iz (5))) ⟨_,hfr,_,_,_,rfl,rp518,rfl,rfl⟩
     ·refine G8 bI rfl ?_
      exact Zu (Zd (cP () _ _ ⟨bO,hfr,nI,pI⟩ h))
    ·rintro _ aS nT ⟨dR, hfr, qI, cO⟩ h
     refine Z7 (Zo qI rfl ?_);obtain ⟨jM,dP,h⟩:=Z3 h;refine Z6 rfl (Yy (g:=dR) (i:=4002) (vs:=[iE,.func (.func 17) #[] #[]]) en46 (.cons rfl (.cons rfl .nil)) (wk46 (cO.toM) ⟨17,#[],#[],rfl,en17,fun g' w' hch a0 a1 b0 b1 r hu0 hu1 hr=>by exact Fn.mono (wk17 hu0 hu1  hr) fun _ _ _ h=>Zj.2 h⟩ dP) fun oT bS pT hs hr=>?_);obtain ⟨hrv,b520⟩:=hr;have hfr:=hfr.stp hs;subst hrv;refine Z4 (Z7 (Zo qI rfl (Zg iE rfl rfl (Zg (Iz (0)) rfl rfl (Zg (Iz (0)) rfl rfl (Z4 (Gd ?_)))))));obtain ⟨gp522,hs,rp522⟩:=OM.pub b520;have hfr:=hfr.stp hs;obtain rfl:=sinj h;exact Y9 rfl rfl (rq iE) (rq (Iz (0))) (rq (Iz (0))) ⟨_,hfr,_,_,_,rfl,rp522,rfl,rfl⟩
def f22 (x0:FaultLoom) (x1:List Zv) (x2:Int):Option (Int):=
 jn (σ:=Unit) (fun _=>
  jn (σ:=Unit) (fun _=>
   some ((0:Int))
   ) fun l8=>
  (f51 ((1:Int)) ((120:Int)) (([x2]:List Int))).bind fun t5=>
  bif (!t5) then
   some ((3:Int))
  else
   l8 ()
  ) fun k6=>
 (f50 x0 x1).bind fun y9=>
 bif (y9 != (0 : Int)) then
  some (y9)
 else
  k6 ()
theorem en22:Enters prog 22:=enters_of func22 (by kernel_rfl) rfl
theorem wk22 {gI:Gh} {wI:World} {x0:FaultLoom} {x1:List Zv} {x2:Int} {up0:Value} (rp0:RV gI.m wI x0 up0) {up1:Value} (rp1:RV gI.m wI x1 up1) {r:Int} (h:f22 x0 x1 x2=some r):Fn prog 22 #[up0,up1,Iz (x2)] gI wI (fun _ _ v=>v=Iz (r)):=by
 unfold f22 at h;refine fnE func22 rfl rfl fun g0 hm hfr=>?_;have rp0:=RVc hm rp0;have rp1:=RVc hm rp1;show E _ 18 none _ _ _ _ _;refine Z7 (Z6 rfl (Tq (g:=g0) rfl rp0 fun g1 w1 p1 hs q1=>?_));have hfr:=hfr.ext hs;have rp1:=rp1.ext hs;refine Zg (Iz (0)) rfl rfl (Z4 (Zq h (fun (s:Unit) e w=>∃ (g:Gh) ,Fr gI wI g w∧e 2=Iz (x2)) (fun X6 k6 hk6 h=>?_) ?_))
 ·refine Z7 (Z6 rfl (Z9 (g := g1) isAgg30 sizeOf30 rfl q1 fun v7 r7 => (Zn up1 rfl rfl ?_)))
  obtain ⟨y9,n9,h⟩:=Z3 h;refine Z6 rfl (Zp (g:=g1) (vs:=[v7,up1]) en50 (.cons rfl (.cons rfl .nil)) (wk50 r7 rp1 n9) fun g8 w8_ v8 hs hr=>?_);have hfr:=hfr.ext hs;subst hr;refine Zg (Iz (y9)) rfl rfl (Z4 (Z7 (Zn (Iz (y9)) rfl rfl (Gf (.bool ((y9 != (0:Int)))) rfl rfl rfl rfl (Z4 ?_)))));rcases Zt h with ⟨o0,h⟩ | ⟨o0,h⟩
  ·refine G5 o0 rfl (Z7 (Zn (Iz (y9)) rfl rfl (Zg (Iz (y9)) rfl rfl (Z4 (Gd (Gq ?_))))))
   obtain rfl:=sinj h;exact Ta rfl rfl (rq (Iz (y9))) ⟨_,hfr,rfl⟩
  ·refine G8 o0 rfl ?_
   exact Zu (Zd (hk6 () _ _ ⟨g8,hfr,rfl⟩ h))
 ·rintro _ vB cC ⟨aB, hfr, i6⟩ h
  refine Zq h (fun (s:Unit) e w=>∃ (g:Gh) ,Fr gI wI g w) (fun X16 l8 n8 h=>?_) ?_
  ·refine Z7 (Zo i6 rfl (Z6 rfl (Gb (g := aB) 3015 (xs := ([x2] : List Int)) (vs := [Iz (x2)]) underlying24 sizeOf3 zeroValue3 rfl rfl (.cons rfl .nil) (RVs.cons (Zj.2 rfl) RVs.nil) rfl rfl fun lB uC mB hs o17 nB hxt hfl => ?_)))
   have hfr:=hfr.stp hs;obtain ⟨t5,l9,h⟩:=Z3 h;refine Z6 rfl (Zp (g:=lB) (vs:=[Iz (1),Iz (120),mB]) en51 (.cons rfl (.cons rfl (.cons rfl .nil))) (wk51 nB l9) fun oB yB vC hs hr=>?_);have hfr:=hfr.ext hs;subst hr;refine Zz (.bool (!t5)) (Wq rfl) rfl (Z4 ?_);rcases Zt h with ⟨l5,h⟩ | ⟨l5,h⟩
   ·refine G5 l5 rfl (Z7 (Zg (Iz (3)) rfl rfl (Z4 (Gd (Gq ?_)))))
    obtain rfl:=sinj h;exact Ta rfl rfl (rq (Iz (3))) ⟨_,hfr,rfl⟩
   ·refine G8 l5 rfl ?_
    exact Zu (Zd (n8 () _ _ ⟨oB,hfr⟩ h))
  ·rintro _ zB bD ⟨cD, hfr⟩ h
   refine Z7 (Zg (Iz (0)) rfl rfl (Z4 (Gd ?_)));obtain rfl:=sinj h;exact Ta rfl rfl (rq (Iz (0))) ⟨_,hfr,rfl⟩
def f23 (x0:Gl) (x1:List Zv):Option ((List Str)):=
 (f52 ((((x0).FaultLoom).Design).Rows)).bind fun y8=>
 (f53 x1).bind fun y11=>
 (f54 y11 ((fun a0 a1=>f55 a0 a1))).bind fun bD=>
 Option.bind (α:=(List Int) × (List (Int × Bool))) (
  lp (σ:=(List Int) × (List (Int × Bool)) × Int) (fun nK (eF,rF,t5)=>
   bif (decide (t5 < ((bD).length : Int))) then
    Option.bind (α:=(List Int) × (List (Int × Bool))) (
     (idx bD t5).bind fun y55=>
     (O3 ((y55).Kind) x0 y55 eF rF).bind fun tH=>
     some (tH.1,tH.2)
     ) fun (zD,aE)=>
    nK (zD,aE,(w64 (t5 + (1:Int))))
   else
    some (eF,rF)
   ) big (y8,([]:List (Int × Bool)),(0:Int))
  ) fun (bE,nB)=>
 (f49 (((x0).FaultLoom).Harness) ((⟨(((x0).FaultLoom).Design).Hooks,bE⟩:Design))).bind fun y79=>
 Option.bind (α:=(List Str)) (
  lp (σ:=(List Str) × Int) (fun uH (v8,o0)=>
   bif (decide (o0 < ((y79.1).length : Int))) then
    Option.bind (α:=(List Str)) (
     (idx v8 o0).bind fun lE=>
     Option.bind (α:=(List UInt8)) (
      lp (σ:=(List UInt8) × (List (Int × Bool))) (fun xH (l9,nD)=>
       bif nD.isEmpty then
        some (l9)
       else pickAll nD fun oB rm160=>
        (idx l9 oB.1).bind fun vK=>
        xH ((List.set l9 (Int.toNat oB.1) ((46:UInt8))),rm160)
       ) big ((lE).b,nB)
      ) fun yB=>
     (idx v8 o0).bind fun y165=>
     some ((List.set v8 (Int.toNat o0) ((⟨yB⟩:Str))))
     ) fun cD=>
    uH (cD,(w64 (o0 + (1:Int))))
   else
    some (v8)
   ) big (y79.1,(0:Int))
  ) fun mE=>
 some (mE)
theorem en23:Enters prog 23:=enters_of func23 (by kernel_rfl) rfl
theorem wk23 {gI:Gh} {wI:World} {x0:Gl} {x1:List Zv} {up0:Value} (rp0:RV gI.m wI x0 up0) {up1:Value} (rp1:RV gI.m wI x1 up1) {r:(List Str)} (h:f23 x0 x1=some r):Fn prog 23 #[up0,up1] gI wI (fun m w v=>RV m w (r) v):=by
 unfold f23 at h;refine fnE func23 rfl rfl fun g0 hm hfr=>?_;have rp0:=RVc hm rp0;have rp1:=RVc hm rp1;show E _ 79 none _ _ _ _ _;refine Z7 (Z6 rfl (Tq (g:=g0) rfl rp0 fun g1 w1 p1 hs q1=>?_));have hfr:=hfr.ext hs;have rp1:=rp1.ext hs;refine Zg (.slice none 0 0) rfl rfl ?_;have b2:OA 4004 g1 w1 9 ([]:List Str) (.slice none 0 0):=OA.nil;refine Z4 (Z7 (Zz (Ga p1 0) (Zc Uk rfl (PT.ptr q1)) rfl ?_));have q3:=Zm (Qp).1 q1;refine Zz (Ga (Ga p1 0) 2) (Zc Wf rfl (PT.ptr q3)) rfl ?_;have q4:=Zm (G1).1 q3;refine Zz (Ga (Ga (Ga p1 0) 2) 1) (Zc Kb rfl (PT.ptr q4)) rfl ?_;have q5:=Zm (T4).1 q4;refine Z6 rfl (Z9 (g:=g1) isAgg24 sizeOf24 rfl q5 fun v6 r6=>?_);obtain ⟨y8,yL,h⟩:=Z3 h;refine Z6 rfl (Vx (g:=g1) (vs:=[v6]) en52 (.cons rfl .nil) (v52_0 (iO:=9018) r6 yL) fun g7 w7_ v7 hs hr=>?_);have hfr:=hfr.ext hs;have rp1:=rp1.ext hs;have q1:=q1.ext hs;have hm7:=hr;refine Z6 rfl (Be (g:=g7) (Value.int .i64) Bool 8019 fun g9 w9 v9 hs m9=>?_);have hfr:=hfr.stp hs;have rp1:=rp1.stp hs;have q1:=q1.stp hs;have hm7:=hm7.stp hs rfl;refine Zg v7 rfl rfl (Zg v9 rfl rfl (Z4 (Z7 (Zn up1 rfl rfl ?_))));obtain ⟨y11,xK,h⟩:=Z3 h;refine Z6 rfl (Vx (g:=g9) (vs:=[up1]) en53 (.cons rfl .nil) (v53_0 (iO:=9021) rp1 xK) fun zL iN vB hs hr=>?_);have hfr:=hfr.ext hs;have q1:=q1.ext hs;have hm7:=hm7.ext hs;have m9:=m9.ext hs;have hm10:=hr;refine Zg vB rfl rfl (Z4 (Z7 (Zn vB rfl rfl ?_)));obtain ⟨bD,yK,h⟩:=Z3 h;refine Z6 rfl (Yy (g:=zL) (i:=9021) (vs:=[vB,.func (.func 55) #[] #[]]) en54 (.cons rfl (.cons rfl .nil)) (wk54 hm10 ⟨55,#[],#[],rfl,en55,fun g' w' hch a0 a1 b0 b1 r hu0 hu1 hr=>by exact Fn.mono (wk55 hu0 hu1  hr) fun _ _ _ h=>Zj.2 h⟩ yK) fun aM jN dO hs hr=>?_);obtain ⟨hrv,b12⟩:=hr;have hfr:=hfr.stp hs;have q1:=q1.stp hs;have hm7:=hm7.stp hs rfl;have m9:=m9.stp hs rfl;subst hrv;refine Z4 (Z7 (Z6 rfl (Vx (g:=aM) (vs:=[]) en57 .nil (wk57 (i:=8800)) fun bM eO yF hs m14=>?_)));have hfr:=hfr.ext hs;have b12:=b12.ext hs;have q1:=q1.ext hs;have hm7:=hm7.ext hs;have m9:=m9.ext hs;refine Zg yF rfl rfl (Z4 ?_);obtain ⟨⟨bE,nB⟩,hx,h⟩:=Z3 h;refine Gs (fun e w=>∃ (g:Gh) ,Fr gI wI g w∧e 2=p1∧PT g.m w (x0:Gl) p1∧e 5=v7∧OM 9018 g w 3 (bE:List Int) v7∧e 6=v9∧MP (Value.int .i64) 8019 g w (nB:List (Int × Bool)) v9) (fun Q' hQ=>?_) (fun kN gO hR=>?_)
 ·replace h := hx
  clear hx;refine Z7 (Zn vB rfl rfl (Zz (Iz ((bD).length:Int)) (Vo underlying65 rfl b12) rfl (Zn (Iz (0)) rfl rfl (Z4 (Zr (Wo h (fun (s:(List Int) × (List (Int × Bool)) × Int) e w=>∃ (g:Gh) ,Fr gI wI g w∧e 1=vB∧OM 9021 g w 34 (bD:List Zv) vB∧e 2=p1∧PT g.m w (x0:Gl) p1∧e 5=v7∧OM 9018 g w 3 (s.1:List Int) v7∧e 6=v9∧MP (Value.int .i64) 8019 g w (s.2.1:List (Int × Bool)) v9∧e 7=yF∧MP (Value.int .i64) 8800 g w Ee yF∧e 25=vB∧e 26=Iz (((bD).length:Int))∧e 27=Iz (s.2.2)) ⟨bM,hfr,rfl,b12,rfl,q1,rfl,hm7,rfl,m9,rfl,m14,rfl,rfl,rfl⟩ (fun X41 nK zK=>?_)))))));rintro ⟨eF,rF,t5⟩ lN jO ⟨yH,hfr,mJ,i6,sF,g8,tF,zB,uF,cC,yG,l8,aG,bG,oE⟩ h;refine Z7 (Gf (.bool ((decide (t5 < ((bD).length:Int))))) oE bG rfl rfl (Z4 (Zf ?_)));rcases Zt h with ⟨mG,h⟩ | ⟨mG,h⟩
  ·refine G5 mG rfl (Zu (Zd ?_))
   obtain ⟨⟨zD,aE⟩,hx,h⟩:=Z3 h;refine Gs (fun e w=>∃ (g:Gh) ,Fr gI wI g w∧e 1=vB∧OM 9021 g w 34 (bD:List Zv) vB∧e 2=p1∧PT g.m w (x0:Gl) p1∧e 5=v7∧OM 9018 g w 3 (zD:List Int) v7∧e 6=v9∧MP (Value.int .i64) 8019 g w (aE:List (Int × Bool)) v9∧e 7=yF∧MP (Value.int .i64) 8800 g w Ee yF∧e 25=vB∧e 26=Iz (((bD).length:Int))∧e 27=Iz (t5)) (fun Q' hQ=>?_) (fun mN kO hR=>?_)
   ·replace h := hx
    clear hx;refine Zr (Z7 ?_);obtain ⟨y55,zH,h⟩:=Z3 h;refine Zz (Tb vB t5 5) (G0 (α:=Zv) underlying65 sizeOf34 aG i6 oE zH) rfl (Z6 rfl (Cx (g:=yH) isAgg34 sizeOf34 rfl i6 zH fun cM aI=>(Z6 rfl (Gw (g:=yH) 2009 (⟨0,0,0,0,false⟩:Zv) zeroValue34 (fun m w=>⟨_,(Gi Zx (Gi Zx (Gi Zx (Gi Zx Wv)))),rfl⟩) fun dM lO eM hs b57 cb=>?_))));have hfr:=hfr.stp hs;have i6:=i6.stp hs rfl;have g8:=g8.stp hs;have zB:=zB.stp hs rfl;have cC:=cC.stp hs rfl;have l8:=l8.stp hs rfl;have aI:=aI.stp hs;clear cb;refine Z6 rfl (Gk (g:=dM) (v:=cM) sizeOf34 rfl b57 rfl aI fun cG mO hs b58 cb=>?_);clear cb;have hfr:=hfr.stp hs;have i6:=i6.stp hs rfl;have g8:=g8.stp hs;have zB:=zB.stp hs rfl;have cC:=cC.stp hs rfl;have l8:=l8.stp hs rfl;refine Z4 (Za (Zo yG rfl (Zz (Ga eM 0) (Zc Uw rfl (OB.ptr b58)) rfl (Z6 rfl (Wx (g:=cG) Q0.1 isAgg32 sizeOf32 rfl b58 fun nO iM=>?_)))));obtain rfl:=Zj.1 iM;refine Z6 rfl (Ia (g:=cG) (z0:=fv0) underlying138 D5 zeroValue141 (fun _ _=>Yr.2 rfl) rfl l8 rfl fun oO jM=>?_);have aL:=Yr.1 jM;refine Z6 rfl (Z9 (g:=cG) isAgg91 sizeOf91 sF g8 fun v62 kM=>(Z6 rfl (T3 (g:=cG) isAgg34 sizeOf34 rfl b58 fun pO pM=>(Zo tF rfl (Zo uF rfl ?_)))));obtain ⟨tH,bL,h⟩:=Z3 h;refine Z6 rfl (D_chg (g:=cG) (i:=9018) (j:=8019) bL (show _=_ from aL) rfl rfl rfl rfl kM pM zB cC rfl rfl fun qO rO dL nN sO hs hs2 mr65 mb65=>?_);have hfr:=hfr.stp hs;have i6:=i6.stp hs rfl;have g8:=g8.stp hs;have l8:=l8.stp hs rfl;have hfr:=hfr.stp hs2;have i6:=i6.stp hs2 rfl;have g8:=g8.stp hs2;have l8:=l8.stp hs2 rfl;refine Zb (Tc ?_);obtain ⟨rfl,rfl⟩:=Kr h;exact hQ _ _ ⟨dL,hfr,mJ,i6,sF,g8,tF,mr65,uF,mb65,yG,l8,aG,bG,oE⟩
   ·clear hx
    obtain ⟨qM,hfr,nJ,oJ,pJ,qJ,rJ,sJ,vJ,xJ,zJ,aK,bI,dI,iI⟩:=hR;refine Za (Gf (Iz ((w64 (t5 + (1:Int))))) iI rfl rfl rfl (Zn (Iz ((w64 (t5 + (1:Int))))) rfl rfl ?_));exact Z4 (zK (zD,aE,(w64 (t5 + (1:Int)))) _ _ ⟨qM,hfr,nJ,oJ,pJ,qJ,rJ,sJ,vJ,xJ,zJ,aK,bI,dI,rfl⟩ h)
  ·refine G8 mG rfl (Tu (Gy (Gy (G9 ?_))))
   obtain ⟨rfl,rfl⟩:=Kr h;exact hQ _ _ ⟨yH,hfr,sF,g8,tF,zB,uF,cC⟩
 ·clear hx
  obtain ⟨oK,hfr,zG,iE,bK,cK,dK,lD⟩:=hR;refine Z7 (Zz (Ga p1 0) (Zc Uk zG (PT.ptr iE)) rfl ?_);have pK:=Zm (Qp).1 iE;refine Zz (Ga (Ga p1 0) 0) (Zc Kj rfl (PT.ptr pK)) rfl ?_;have rM:=Zm (Tn).1 pK;refine Z6 rfl (Z9 (g:=oK) isAgg26 sizeOf26 rfl rM fun sM jI=>(Zz (Ga p1 0) (Zc Uk zG (PT.ptr iE)) rfl ?_));have qK:=Zm (Qp).1 iE;refine Zz (Ga (Ga p1 0) 2) (Zc Wf rfl (PT.ptr qK)) rfl ?_;have sK:=Zm (G1).1 qK;refine Zz (Ga (Ga (Ga p1 0) 2) 0) (Zc Ki rfl (PT.ptr sK)) rfl ?_;have tM:=Zm (Qb).1 sK;refine Z6 rfl (Z9 (g:=oK) isAgg3 sizeOf3 rfl tM fun tO uM=>?_);obtain rfl:=Zj.1 uM;refine Zo bK rfl ?_;obtain ⟨gp77,hs,rp77⟩:=OM.pub cK;have hfr:=hfr.stp hs;have lD:=lD.stp hs rfl;have jI:=jI.stp hs;have tK:RV gp77.m _ (⟨(((x0).FaultLoom).Design).Hooks,bE⟩:Design) (.agg (G3 [[Iz 0],[.slice none 0 0]] [(0,Iz ((((x0).FaultLoom).Design).Hooks)),(1,v7)]).flatten.toArray):=G2 rfl (Gm (rfl) (G6 (RV.cells rp77)));generalize eL:(Value.agg (G3 [[Iz 0],[.slice none 0 0]] [(0,Iz ((((x0).FaultLoom).Design).Hooks)),(1,v7)]).flatten.toArray)=uK at tK;refine Zz uK (eL ▸ Tf (vs:=[(0,Iz ((((x0).FaultLoom).Design).Hooks)),(1,v7)]) [[Iz 0],[.slice none 0 0]] Af rfl rfl (.cons rfl (.cons rfl .nil)) ⟨⟨_,rfl,rfl⟩,⟨⟨_,rfl,G4 rp77⟩,trivial⟩⟩) rfl ?_;obtain ⟨y79,gL,h⟩:=Z3 h;refine Z6 rfl (Vx (g:=gp77) (vs:=[sM,uK]) en49 (.cons rfl (.cons rfl .nil)) (v49_0 (iO:=9051) jI tK gL) fun vM oN uO hs hr=>?_);have hfr:=hfr.ext hs;have lD:=lD.ext hs;obtain ⟨l5,xM,rfl,hm78,rfl⟩:=hr;refine Zn (.tuple #[l5,Iz (y79.2)]) rfl rfl (Zz l5 (Zi rfl rfl) rfl (Zz (Iz (y79.2)) (Zi rfl rfl) rfl (Zg l5 rfl rfl (Z4 ?_))));obtain ⟨mE,hx,h⟩:=Z3 h;refine Gs (fun e w=>∃ (g:Gh) ,Fr gI wI g w∧e 4=l5∧OM 9051 g w 9 (mE:List Str) l5) (fun Q' hQ=>?_) (fun bN pN hR=>?_)
  ·replace h := hx
   clear hx;refine Z7 (Zn l5 rfl rfl (Zz (Iz ((y79.1).length:Int)) (Vo underlying61 rfl hm78) rfl (Zn (Iz (0)) rfl rfl (Z4 (Zr (Wo h (fun (s:(List Str) × Int) e w=>∃ (g:Gh) ,Fr gI wI g w∧e 4=l5∧OM 9051 g w 9 (s.1:List Str) l5∧e 6=v9∧MP (Value.int .i64) 8019 g w (nB:List (Int × Bool)) v9∧e 54=l5∧e 55=Iz (((y79.1).length:Int))∧e 56=Iz (s.2)) ⟨vM,hfr,rfl,hm78,dK,lD,rfl,rfl,rfl⟩ (fun X124 uH lK=>?_)))))));rintro ⟨v8,o0⟩ cN qN ⟨sG,hfr,eG,n8,gG,n9,uE,vE,uC⟩ h;refine Z7 (Gf (.bool ((decide (o0 < ((y79.1).length:Int))))) uC vE rfl rfl (Z4 (Zf ?_)));rcases Zt h with ⟨vF,h⟩ | ⟨vF,h⟩
   ·refine G5 vF rfl (Zu (Zd ?_))
    obtain ⟨cD,hx,h⟩:=Z3 h;refine Gs (fun e w=>∃ (g:Gh) ,Fr gI wI g w∧e 4=l5∧OM 9051 g w 9 (cD:List Str) l5∧e 6=v9∧MP (Value.int .i64) 8019 g w (nB:List (Int × Bool)) v9∧e 54=l5∧e 55=Iz (((y79.1).length:Int))∧e 56=Iz (o0)) (fun Q' hQ=>?_) (fun dN rN hR=>?_)
    ·replace h := hx
     clear hx;refine Zr (Z7 (Zo uC rfl ?_));obtain ⟨lE,aH,h⟩:=Z3 h;refine Zz (Tb l5 o0 1) (G0 (α:=Str) underlying61 sizeOf9 uE n8 uC aH) rfl (Z6 rfl (Cx (g:=sG) isAgg9 sizeOf9 rfl n8 aH fun sN iL=>?_));obtain rfl:=Qt.1 iL;refine Zg (Iz (o0)) rfl rfl (Zg (Str.v (lE)) rfl rfl (Z4 (Z7 (Zn (Str.v (lE)) rfl rfl (Z6 rfl (Nv (g:=sG) (s:=lE) 9062 underlying9 underlying50 underlying5 rfl fun jL tN oD hs m149=>?_))))));have hfr:=hfr.stp hs;have n8:=n8.stp hs rfl;have n9:=n9.stp hs rfl;refine Zg oD rfl rfl (Z4 ?_);obtain ⟨yB,hx,h⟩:=Z3 h;refine Gs (fun e w=>∃ (g:Gh) ,Fr gI wI g w∧e 4=l5∧OM 9051 g w 9 (v8:List Str) l5∧e 6=v9∧MP (Value.int .i64) 8019 g w (nB:List (Int × Bool)) v9∧e 10=Iz (o0)∧e 12=oD∧OM 9062 g w 5 (yB:List UInt8) oD∧e 54=l5∧e 55=Iz (((y79.1).length:Int))∧e 56=Iz (o0)) (fun Q' hQ=>?_) (fun eN uN hR=>?_)
     ·replace h := hx
      clear hx;refine Z7 (Zo gG rfl (Z6 rfl (I0 (g:=jL) 7564 underlying133 rfl n9 fun lL vN kI hs b157=>?_)));have hfr:=hfr.stp hs;have n8:=n8.stp hs rfl;have n9:=n9.stp hs rfl;have m149:=m149.stp hs rfl;refine Z4 (Zr (Wo h (fun (s:(List UInt8) × (List (Int × Bool))) e w=>∃ (g:Gh) ,Fr gI wI g w∧e 4=l5∧OM 9051 g w 9 (v8:List Str) l5∧e 6=v9∧MP (Value.int .i64) 8019 g w (nB:List (Int × Bool)) v9∧e 10=Iz (o0)∧e 12=oD∧OM 9062 g w 5 (s.1:List UInt8) oD∧e 54=l5∧e 55=Iz (((y79.1).length:Int))∧e 56=Iz (o0)∧e 64=kI∧MI (Value.int .i64) 7564 8019 g w (s.2:List (Int × Bool)) none kI) ⟨lL,hfr,eG,n8,gG,n9,rfl,rfl,m149,uE,vE,uC,rfl,b157.dropc⟩ (fun X158 xH mK=>?_)));rintro ⟨l9,nD⟩ gN xN ⟨xG,hfr,iG,aB,jG,lB,xE,yD,mB,yE,zE,cF,vC,dF⟩ h;refine Z7 ?_;rcases Zt h with ⟨xF,h⟩ | ⟨xF,h⟩
      ·refine Z6 rfl (Nh (g := xG) vC dF xF (Zz (.bool false) (Zi rfl rfl) rfl (Z4 (Zf (Gz (by rw [show ev _ _ = _ from rfl]; exact congrArg Value.bool rfl) (Tu (Gy (Gy (G9 ?_)))))))))
       obtain rfl:=sinj h;exact hQ _ _ ⟨xG,hfr,iG,aB,jG,lB,xE,yD,mB,yE,zE,cF⟩
      ·refine Z6 rfl (Mz (g := xG) vC dF rfl xF fun oB rm160 u160 lI yN hmem hs b160 ru160 => ?_)
       replace h:=M7 h _ hmem;clear hmem;obtain rfl:=Qm.1 ru160;have hfr:=hfr.stp hs;have aB:=aB.stp hs rfl;have lB:=lB.stp hs rfl;have mB:=mB.stp hs rfl;refine Zz (.bool true) (Zi rfl rfl) rfl (Z4 (Zf (Tj (by rw [show ev _ _=_ from rfl]; exact congrArg Value.bool rfl) (Zu (Zd (Zr (Z7 (Z6 rfl (E9 (g:=lI) vC b160 fun zN mL=>?_)))))))));obtain rfl:=Qm.1 mL;refine Zz (Iz (oB.1)) (Zi rfl rfl) rfl (Zg (Iz (oB.1)) rfl rfl (Z4 (Za (Zo yD rfl (Zn (Iz (oB.1)) rfl rfl ?_)))));obtain ⟨vK,cH,h⟩:=Z3 h;refine Zz (Tb oD oB.1 1) (G0 (α:=UInt8) underlying50 sizeOf5 rfl mB rfl cH) rfl (Z6 rfl (Kl (g:=lI) (α:=UInt8) (a':=((46:UInt8))) sizeOf5 rfl mB cH rfl (Qz.2 rfl) fun nL aO hs b163=>?_));have hfr:=hfr.stp hs;have aB:=aB.stp hs rfl;have lB:=lB.stp hs rfl;have b160:=b160.stp hs rfl;exact Zb (Tc (Zd (mK ((List.set l9 (Int.toNat oB.1) ((46:UInt8))),rm160) _ _ ⟨nL,hfr,iG,aB,jG,lB,xE,yD,b163,yE,zE,cF,vC,b160.dropc⟩ h)))
     ·clear hx
      obtain ⟨mI,hfr,kG,lG,nI,rE,jH,kH,lH,mH,nH,oH⟩:=hR;refine Za (Zo kG rfl (Zo jH rfl (Zo kH rfl (Z6 rfl (Ob (g:=mI) underlying50 underlying9 underlying5 rfl lH ?_)))));obtain ⟨y165,gH,h⟩:=Z3 h;refine Zz (Tb l5 o0 1) (G0 (α:=Str) underlying61 sizeOf9 rfl lG rfl gH) rfl (Z6 rfl (Kl (g:=mI) (α:=Str) (a':=((⟨yB⟩:Str))) sizeOf9 rfl lG gH rfl (Qt.2 rfl) fun oL bO hs b166=>?_));have hfr:=hfr.stp hs;have rE:=rE.stp hs rfl;refine Zb (Tc ?_);obtain rfl:=sinj h;exact hQ _ _ ⟨oL,hfr,kG,b166,nI,rE,mH,nH,oH⟩
    ·clear hx
     obtain ⟨xL,hfr,pI,qI,sI,jJ,pH,qH,sH⟩:=hR;refine Za (Gf (Iz ((w64 (o0 + (1:Int))))) sH rfl rfl rfl (Zn (Iz ((w64 (o0 + (1:Int))))) rfl rfl ?_));exact Z4 (lK (cD,(w64 (o0 + (1:Int)))) _ _ ⟨xL,hfr,pI,qI,sI,jJ,pH,qH,rfl⟩ h)
   ·refine G8 vF rfl (Tu (Gy (Gy (G9 ?_))))
    obtain rfl:=sinj h;exact hQ _ _ ⟨sG,hfr,eG,n8⟩
  ·clear hx
   obtain ⟨cO,hfr,kJ,lJ⟩:=hR;refine Z7 (Zo kJ rfl (Zg l5 rfl rfl (Z4 (Gd ?_))));obtain ⟨gp169,hs,rp169⟩:=OM.pub lJ;have hfr:=hfr.stp hs;obtain rfl:=sinj h;exact Ta rfl rfl (rq l5) ⟨_,hfr,rp169⟩
def f27 (x0:FaultLoom) (x1:Zv) (x2:Zv):Option (Int × Int × Int):=
 jn (σ:=Int × Int × Int) (fun (bD,cD,lD)=>
  jn (σ:=Int × Int × Int) (fun (eF,rF,sF)=>
   some ((0:Int),(0:Int),(7:Int))
   ) fun kH=>
  (f23 ((⟨x0⟩:Gl)) (([x1]:List Zv))).bind fun vC=>
  (f23 ((⟨x0⟩:Gl)) (([x2]:List Zv))).bind fun y98=>
  (f25 vC y98).bind fun yB=>
  (yB (Nat × Int × Int × Int) (Rf fun (tF,uF,vF) (i6,g8)=>
   some (false,((1:Nat),(i6,g8,(0:Int))))
   ) (0,(bD,cD,lD))).bind fun (n9,(aB,lB,mB))=>
  bif Nat.beq n9 0 then
   kH (aB,lB,mB)
  else
   some (aB,lB,mB)
  ) fun lH=>
 (f50 x0 (([x1,x2]:List Zv))).bind fun zB=>
 bif (zB != (0 : Int)) then
  some ((0:Int),(0:Int),zB)
 else
  lH ((0:Int),(0:Int),(0:Int))
theorem en27:Enters prog 27:=enters_of func27 (by kernel_rfl) rfl
theorem wk27 {gI:Gh} {wI:World} {x0:FaultLoom} {x1:Zv} {x2:Zv} {up0:Value} (rp0:RV gI.m wI x0 up0) {up1:Value} (rp1:RV gI.m wI x1 up1) {up2:Value} (rp2:RV gI.m wI x2 up2) {r:Int × Int × Int} (h:f27 x0 x1 x2=some r):Fn prog 27 #[up0,up1,up2] gI wI (fun m w v=>∃ y0 y1 y2,v=.tuple #[y0,y1,y2]∧y0=Iz (r.1)∧y1=Iz (r.2.1)∧y2=Iz (r.2.2)):=by
 unfold f27 at h;refine Rn func27 rfl (Nat.le_of_ble_eq_true rfl) fun g0 hm hfr=>?_;have hmk:MkF g0 wI []:=MkF.start;have rp0:=RVc hm rp0;have rp1:=RVc hm rp1;have rp2:=RVc hm rp2;show E _ 35 none _ _ _ _ _;refine Z7 (Z6 rfl (Tq (g:=g0) rfl rp0 fun g1 w1 p1 hs q1=>?_));have hfr:=hfr.ext hs;have hmk:=hmk.ext hs;have rp1:=rp1.ext hs;have rp2:=rp2.ext hs;refine Z6 rfl (Tq (g:=g1) rfl rp1 fun g2 w2 p2 hs q2=>?_);have hfr:=hfr.ext hs;have hmk:=hmk.ext hs;have rp2:=rp2.ext hs;have q1:=q1.ext hs;refine Z6 rfl (Tq (g:=g2) rfl rp2 fun g3 w3 p3 hs q3=>?_);have hfr:=hfr.ext hs;have hmk:=hmk.ext hs;have q1:=q1.ext hs;have q2:=q2.ext hs;refine Z6 rfl (Gw (g:=g3) 2006 (0:Int) zeroValue3 (fun m w=>⟨_,Zx,rfl⟩) fun g4 w4 p4 hs b4 cb=>?_);have hfr:=hfr.stp hs;have hmk:=hmk.stp hs;have q1:=q1.stp hs;have q2:=q2.stp hs;have q3:=q3.stp hs;clear cb;refine Z6 rfl (Gw (g:=g4) 2007 (0:Int) zeroValue3 (fun m w=>⟨_,Zx,rfl⟩) fun g5 w5 p5 hs b5 cb=>?_);have hfr:=hfr.stp hs;have hmk:=hmk.stp hs;have q1:=q1.stp hs;have q2:=q2.stp hs;have q3:=q3.stp hs;have b4:=b4.stp hs rfl;clear cb;refine Z6 rfl (Gw (g:=g5) 2008 (0:Int) zeroValue51 (fun m w=>⟨_,Zx,rfl⟩) fun g6 w6 p6 hs b6 cb=>?_);have hfr:=hfr.stp hs;have hmk:=hmk.stp hs;have q1:=q1.stp hs;have q2:=q2.stp hs;have q3:=q3.stp hs;have b4:=b4.stp hs rfl;have b5:=b5.stp hs rfl;clear cb;refine Z4 (Vq h (fun (s:Int × Int × Int) e ds w=>∃ (g:Gh) ,Fr gI wI g w∧MkF g w ds∧e 3=p1∧PT g.m w (x0:FaultLoom) p1∧e 4=p2∧PT g.m w (x1:Zv) p2∧e 5=p3∧PT g.m w (x2:Zv) p3∧e 6=p4∧OB 2006 g w 3 (s.1:Int) p4∧e 7=p5∧OB 2007 g w 3 (s.2.1:Int) p5∧e 8=p6∧OB 2008 g w 51 (s.2.2:Int) p6) (fun X21 lH zH h=>?_) ?_)
 ·refine Z7 (Z6 rfl (Z9 (g := g6) isAgg30 sizeOf30 rfl q1 fun vJ xF => (Z6 rfl (Z9 (g := g6) isAgg34 sizeOf34 rfl q2 fun xJ zJ => (Z6 rfl (Z9 (g := g6) isAgg34 sizeOf34 rfl q3 fun aK bK => (Z6 rfl (Gb (g := g6) 3015 (xs := ([x1, x2] : List Zv)) (vs := [xJ, aK]) underlying65 sizeOf34 zeroValue34 rfl rfl (.cons rfl (.cons rfl .nil)) (RVs.cons zJ (RVs.cons bK RVs.nil)) rfl rfl fun cK iM dK hs o25 lK hxt hfl => ?_))))))))
  have hfr:=hfr.stp hs;have hmk:=hmk.stp hs;have q1:=q1.stp hs;have q2:=q2.stp hs;have q3:=q3.stp hs;have b4:=b4.stp hs rfl;have b5:=b5.stp hs rfl;have b6:=b6.stp hs rfl;have xF:=xF.stp hs;obtain ⟨zB,aI,h⟩:=Z3 h;refine Z6 rfl (Zp (g:=cK) (vs:=[vJ,dK]) en50 (.cons rfl (.cons rfl .nil)) (wk50 xF lK aI) fun mH xK jM hs hr=>?_);have hfr:=hfr.ext hs;have hmk:=hmk.ext hs;have q1:=q1.ext hs;have q2:=q2.ext hs;have q3:=q3.ext hs;have b4:=b4.ext hs;have b5:=b5.ext hs;have b6:=b6.ext hs;subst hr;refine Zg (Iz (zB)) rfl rfl (Z4 (Z7 (Zn (Iz (zB)) rfl rfl (Gf (.bool ((zB != (0:Int)))) rfl rfl rfl rfl (Z4 ?_)))));rcases Zt h with ⟨oE,h⟩ | ⟨oE,h⟩
  ·refine G5 oE rfl (Z7 (Zn (Iz (zB)) rfl rfl (Z6 rfl (Gk (g := mH) (v := Iz (0)) sizeOf3 rfl b4 rfl (Zj.2 rfl) fun mK w29 hs b29 cb => ?_))))
   clear cb;have hfr:=hfr.stp hs;have hmk:=hmk.stp hs;have b5:=b5.stp hs rfl;have b6:=b6.stp hs rfl;refine Z6 rfl (Gk (g:=mK) (v:=Iz (0)) sizeOf3 rfl b5 rfl (Zj.2 rfl) fun nK kM hs b30 cb=>?_);clear cb;have hfr:=hfr.stp hs;have hmk:=hmk.stp hs;have b29:=b29.stp hs rfl;have b6:=b6.stp hs rfl;refine Z6 rfl (Gk (g:=nK) (v:=Iz (zB)) sizeOf51 rfl b6 rfl (Zj.2 rfl) fun pM qM hs b31 cb=>?_);clear cb;have hfr:=hfr.stp hs;have hmk:=hmk.stp hs;have b29:=b29.stp hs rfl;have b30:=b30.stp hs rfl;refine Z4 (Gd (Gq (S8 (.inr rfl) hmk fun rM sM hs=>?_)));have hfr:=hfr.stp hs;have b29:=b29.stp hs rfl;have b30:=b30.stp hs rfl;have b31:=b31.stp hs rfl;obtain rfl:=sinj h;obtain ⟨ad33,cv33,hp33,bI,cr33⟩:=T6 isAgg3 sizeOf3 b29;obtain rfl:=Zj.1 cr33;obtain ⟨ad34,cv34,hp34,dI,cr34⟩:=T6 isAgg3 sizeOf3 b30;obtain rfl:=Zj.1 cr34;obtain ⟨ad35,cv35,hp35,iI,cr35⟩:=T6 isAgg51 sizeOf51 b31;obtain rfl:=Zj.1 cr35;exact Ye rfl rfl ((rq p4).trans hp33) bI ((rq p5).trans hp34) dI ((rq p6).trans hp35) iI ⟨_,hfr,_,_,_,rfl,rfl,rfl,rfl⟩
  ·refine G8 oE rfl ?_
   exact Zu (Zd (zH ((0:Int),(0:Int),(0:Int)) _ _ _ ⟨mH,hfr,hmk,rfl,q1,rfl,q2,rfl,q3,rfl,b4,rfl,b5,rfl,b6⟩ h))
 ·rintro ⟨bD, cD, lD⟩ yK rE tM ⟨yF, hfr, hmk, uE, vE, kG, lG, mG, sG, nD, oD, yD, zD, aE, bE⟩ h
  refine Vq h (fun (s:Int × Int × Int) e ds w=>∃ (g:Gh) ,Fr gI wI g w∧MkF g w ds∧e 6=p4∧OB 2006 g w 3 (s.1:Int) p4∧e 7=p5∧OB 2007 g w 3 (s.2.1:Int) p5∧e 8=p6∧OB 2008 g w 51 (s.2.2:Int) p6) (fun X86 kH jI h=>?_) ?_
  ·refine Zf (Zs (x := .tmp 3) isAgg30 sizeOf30 vE fun xE nH kI => ?_)
   have oH:RV yF.m _ (⟨x0⟩:Gl) (.agg (G3 [[Iz 0,.slice none 0 0,Iz 0,.slice none 0 0]] [(0,xE)]).flatten.toArray):=G2 rfl (G6 (RV.cells nH));generalize lI:(Value.agg (G3 [[Iz 0,.slice none 0 0,Iz 0,.slice none 0 0]] [(0,xE)]).flatten.toArray)=pH at oH;refine Zs (x:=.tmp 4) isAgg34 sizeOf34 lG fun qH oK mI=>?_;obtain ⟨vC,nI,h⟩:=Z3 h;refine Zs (x:=.tmp 3) isAgg30 sizeOf30 vE fun yE sH pI=>?_;have tH:RV yF.m _ (⟨x0⟩:Gl) (.agg (G3 [[Iz 0,.slice none 0 0,Iz 0,.slice none 0 0]] [(0,yE)]).flatten.toArray):=G2 rfl (G6 (RV.cells sH));generalize qI:(Value.agg (G3 [[Iz 0,.slice none 0 0,Iz 0,.slice none 0 0]] [(0,yE)]).flatten.toArray)=uH at tH;refine Zs (x:=.tmp 5) isAgg34 sizeOf34 sG fun xH pK sI=>?_;obtain ⟨y98,jJ,h⟩:=Z3 h;obtain ⟨yB,xG,h⟩:=Z3 h;refine Tz (g:=yF) (n:=11) [(3,(fun v g w=>RV g.m w ([x1]:List Zv) v∧OS 3023 g w 34 ([x1]:List Zv) v∧Qr v)),(4,(fun v g w=>RV g.m w vC v)),(8,(fun v g w=>RV g.m w ([x2]:List Zv) v∧OS 3028 g w 34 ([x2]:List Zv) v∧Qr v)),(9,(fun v g w=>RV g.m w y98 v)),(10,(fun v g w=>ItV prog (RA2 (α:=Int) (β:=Int)) yB v g.m w))] [0,1,2,3,4,5,6,7,8,9,10] rfl mixed (by kernel_rfl) (⟨fun _=>Q9 K0 (Q9 U2 (Kz _)),fun _=>K0,fun _=>Q9 K0 (Q9 U2 (Kz _)),fun _=>K0,fun _=>up_itv,trivial⟩) (Tv (c:=xE) rfl rfl .plain (fun _ _ h=>h.ch) kI uE (Z2 pH rfl rfl (lI ▸ Tf (vs:=[(0,xE)]) [[Iz 0,.slice none 0 0,Iz 0,.slice none 0 0]] Fd rfl rfl (.cons rfl .nil) ⟨⟨_,rfl,G4 nH⟩,trivial⟩) (Tv (c:=qH) rfl rfl .plain (fun _ _ h=>h.ch) mI kG (Ks (φ:=fun v g w=>RV g.m w ([x1]:List Zv) v∧OS 3023 g w 34 ([x1]:List Zv) v∧Qr v) rfl rfl .plain (fun g w hd=>Gb (g:=g) 3023 (xs:=([x1]:List Zv)) (vs:=[qH]) underlying65 sizeOf34 zeroValue34 rfl rfl (.cons rfl .nil) (RVs.cons (oK.ext hd.1) RVs.nil) rfl rfl fun g' w' v hs o r hxt hfl=>⟨g',hxt,r,o,hfl⟩) (fun v8 hv=>?_)))));clear hv;refine Ks (φ:=fun v g w=>RV g.m w vC v) rfl rfl .plain (fun g w hd=>Zp (g:=g) (vs:=[pH,v8]) en23 (.cons rfl (.cons rfl .nil)) (wk23 (oH.ext hd.1) (V6 (A:=fun g w=>RV g.m w ([x1]:List Zv) v8∧OS 3023 g w 34 ([x1]:List Zv) v8∧Qr v8) 3 rfl rfl (Kh hd)).1 nI) fun g' w' v hs hr=>⟨g',hs,hr⟩) (fun aG hv=>?_);obtain ⟨_,_,_,rq91⟩:=hv;refine Tv (c:=yE) rfl rfl .plain (fun _ _ h=>h.ch) pI uE (Z2 uH rfl rfl (qI ▸ Tf (vs:=[(0,yE)]) [[Iz 0,.slice none 0 0,Iz 0,.slice none 0 0]] Fd rfl rfl (.cons rfl .nil) ⟨⟨_,rfl,G4 sH⟩,trivial⟩) (Tv (c:=xH) rfl rfl .plain (fun _ _ h=>h.ch) sI mG (Ks (φ:=fun v g w=>RV g.m w ([x2]:List Zv) v∧OS 3028 g w 34 ([x2]:List Zv) v∧Qr v) rfl rfl .plain (fun g w hd=>Gb (g:=g) 3028 (xs:=([x2]:List Zv)) (vs:=[xH]) underlying65 sizeOf34 zeroValue34 rfl rfl (.cons rfl .nil) (RVs.cons (pK.ext hd.1) RVs.nil) rfl rfl fun g' w' v hs o r hxt hfl=>⟨g',hxt,r,o,hfl⟩) (fun l9 hv=>?_))));clear hv;refine Ks (φ:=fun v g w=>RV g.m w y98 v) rfl rfl .plain (fun g w hd=>Zp (g:=g) (vs:=[uH,l9]) en23 (.cons rfl (.cons rfl .nil)) (wk23 (tH.ext hd.1) (V6 (A:=fun g w=>RV g.m w ([x2]:List Zv) l9∧OS 3028 g w 34 ([x2]:List Zv) l9∧Qr l9) 8 rfl rfl (Kh hd)).1 jJ) fun g' w' v hs hr=>⟨g',hs,hr⟩) (fun bG hv=>?_);obtain ⟨_,_,_,rq97⟩:=hv;refine Ks (φ:=fun v g w=>ItV prog (RA2 (α:=Int) (β:=Int)) yB v g.m w) rfl rfl .plain (fun g w hd=>Zp (g:=g) (vs:=[aG,bG]) en25 (.cons rfl (.cons rfl .nil)) (wk25 (V6 (A:=fun g w=>RV g.m w vC aG) 4 rfl rfl (Kh hd)) (V6 (A:=fun g w=>RV g.m w y98 bG) 9 rfl rfl (Kh hd)) xG) fun g' w' v hs hr=>⟨g',hs,hr⟩) (fun yH hv=>?_);clear hv;refine Jz fun zK aL hall=>?_;have hs:=hall.1;have hfr:=hfr.ext hs;have hmk:=hmk.ext hs;have oD:=oD.ext hs;have zD:=zD.ext hs;have bE:=bE.ext hs;have bL:=(Ti (A:=fun g w=>RV g.m w ([x1]:List Zv) v8∧OS 3023 g w 34 ([x1]:List Zv) v8∧Qr v8) 3 rfl hall).1;have o111:=(Ti (A:=fun g w=>RV g.m w ([x1]:List Zv) v8∧OS 3023 g w 34 ([x1]:List Zv) v8∧Qr v8) 3 rfl hall).2.1;have dL:=(Ti (A:=fun g w=>RV g.m w vC aG) 4 rfl hall);have eL:=(Ti (A:=fun g w=>RV g.m w ([x2]:List Zv) l9∧OS 3028 g w 34 ([x2]:List Zv) l9∧Qr l9) 8 rfl hall).1;have o116:=(Ti (A:=fun g w=>RV g.m w ([x2]:List Zv) l9∧OS 3028 g w 34 ([x2]:List Zv) l9∧Qr l9) 8 rfl hall).2.1
   have gL:=(Ti (A:=fun g w=>RV g.m w y98 bG) 9 rfl hall);have cG:=(Ti (A:=fun g w=>ItV prog (RA2 (α:=Int) (β:=Int)) yB yH g.m w) 10 rfl hall);clear hs hall;refine Z4 (Zr ?_);have hB0:=hfr.size;have hmk0:=hmk;obtain ⟨⟨n9,⟨aB,lB,mB⟩⟩,hφ,h⟩:=Z3 h;refine Yu (σ:=(Nat × Int × Int × Int)) (s0:=(0,(bD,cD,lD))) 10 rfl (fun s=>s.1) [.ret] (fun (s:Nat × Int × Int × Int) (g:Gh) (w:World)=>Fr gI wI g w∧MkF g w rE∧OB 2006 g w 3 (s.2.1:Int) p4∧OB 2007 g w 3 (s.2.2.1:Int) p5∧OB 2008 g w 51 (s.2.2.2:Int) p6∧ItV prog (RA2 (α:=Int) (β:=Int)) yB yH g.m w) rfl cG hφ (fun _ _ _ h=>(Uh h).1) rfl Lf rfl (fun _ _ _ _ _ hx hR=>by obtain ⟨hfr,hmk,z2,z3,z4,z5⟩:=hR; exact ⟨hfr.ist hx hB0,hmk.ist hx,z2.ist hx,z3.ist hx,z4.ist hx,z5.ist hx⟩) (fun _ _ _ _ _ hx hR=>by obtain ⟨hfr,hmk,z2,z3,z4,z5⟩:=hR; exact ⟨hfr.stp hx,hmk.stp hx,z2.stp hx rfl,z3.stp hx rfl,z4.stp hx rfl,z5.stp hx⟩) ⟨hfr,hmk,oD,zD,bE,cG⟩ (fun _ h=>by cases h) ?_ ?_
   ·intro uK qK s x b s2 eG kJ vs hsz h hR hrec_0 zE hrd
    obtain ⟨hs0,h⟩:=Uh h;obtain ⟨st,⟨tF,uF,vF⟩⟩:=s;obtain ⟨hfr,hmk,cC,l8,t5,o0⟩:=hR;obtain ⟨i6,g8⟩:=x;obtain ⟨gG,iG,rfl,cF,dF⟩:=Ml hrd;obtain rfl:gG=Iz (i6):=Zj.1 cF;obtain rfl:iG=Iz (g8):=Zj.1 dF;have l5:=RFr.refl eG kJ;refine Z7 (Zg (Iz (i6)) rfl rfl (Z4 (Za (Zg (Iz (g8)) rfl rfl (Z4 ?_)))));obtain ⟨lJ,hbr,hs,hrN⟩:=Yz hrec_0 zE;refine ⟨lJ,hbr,?_⟩;have hfr:=hfr.stp hs;have hmk:=hmk.stp hs;have l5:=l5.stp hs;have cC:=cC.stp hs rfl;have l8:=l8.stp hs rfl;have t5:=t5.stp hs rfl;have o0:=o0.stp hs;have hrec_0:=hrN;clear hbr hs hrN;refine Zr (Z7 (Zn (Iz (i6)) rfl rfl (Zn (Iz (g8)) rfl rfl (Z6 rfl (Gk (g:=eG) (v:=Iz (i6)) sizeOf3 nD cC rfl (Zj.2 rfl) fun mJ iL hs b126 cb=>?_)))));clear cb;have hfr:=hfr.stp hs;have hmk:=hmk.stp hs;have l5:=l5.stp hs;have hrec_0:=hrec_0.stp hs rfl;have l8:=l8.stp hs rfl;have t5:=t5.stp hs rfl;have o0:=o0.stp hs;refine Z6 rfl (Gk (g:=mJ) (v:=Iz (g8)) sizeOf3 yD l8 rfl (Zj.2 rfl) fun nJ jL hs b127 cb=>?_);clear cb;have hfr:=hfr.stp hs;have hmk:=hmk.stp hs;have l5:=l5.stp hs;have hrec_0:=hrec_0.stp hs rfl;have b126:=b126.stp hs rfl;have t5:=t5.stp hs rfl;have o0:=o0.stp hs;refine Z6 rfl (Gk (g:=nJ) (v:=Iz (0)) sizeOf51 aE t5 rfl (Zj.2 rfl) fun lL mL hs b128 cb=>?_);clear cb;have hfr:=hfr.stp hs;have hmk:=hmk.stp hs;have l5:=l5.stp hs;have hrec_0:=hrec_0.stp hs rfl;have b126:=b126.stp hs rfl;have b127:=b127.stp hs rfl;have o0:=o0.stp hs;refine Z4 (Gd (Tg ?_));obtain ⟨rfl,rfl⟩:=Kr h;exact ⟨_,l5,⟨hfr,hmk,b126,b127,b128,o0⟩,hrec_0,rfl,0,rfl,rfl⟩
   ·intro oJ nL ds130 hsz hR hds
    obtain ⟨hfr,hmk,nB,oB,vB,sJ⟩:=hR;obtain ⟨D,hdse,hD,hDb⟩:=hds.1 rfl;subst hdse;replace hmk:=MkF.push hmk0 hmk hD hDb;clear hD hDb hds;revert hmk;generalize ({ target:=.collected D,args:=#[] } :: rE:List Deferred)=sK;intro hmk;refine ⟨fun hs=>?_,fun k c hs hc=>?_⟩
    ·have hs : n9 = 0 := hs
     subst hs;replace h:=Ag h rfl;exact Tc (Zd (jI (aB,lB,mB) _ _ _ ⟨oJ,hfr,hmk,nD,nB,yD,oB,aE,vB⟩ h))
    ·have hs : n9 = k + 1 := hs
     match k,hs,hc with
     | 0,hs,hc=>
      subst hs;obtain rfl:=sinj hc;replace h:=P2 h rfl;refine Gd (Tg (Gq (S8 (.inr rfl) hmk fun oL xL hs=>?_)));have hfr:=hfr.stp hs;have nB:=nB.stp hs rfl;have oB:=oB.stp hs rfl;have vB:=vB.stp hs rfl;obtain rfl:=sinj h;obtain ⟨ad132,cv132,hp132,yG,cr132⟩:=T6 isAgg3 sizeOf3 nB;obtain rfl:=Zj.1 cr132;obtain ⟨ad133,cv133,hp133,zG,cr133⟩:=T6 isAgg3 sizeOf3 oB;obtain rfl:=Zj.1 cr133;obtain ⟨ad134,cv134,hp134,aH,cr134⟩:=T6 isAgg51 sizeOf51 vB;obtain rfl:=Zj.1 cr134;exact Ye rfl rfl ((show _=p4 from nD).trans hp132) yG ((show _=p5 from yD).trans hp133) zG ((show _=p6 from aE).trans hp134) aH ⟨_,hfr,_,_,_,rfl,rfl,rfl,rfl⟩
     | n + 1,_,hc=>exact absurd hc (by simp)
  ·rintro ⟨eF, rF, sF⟩ vK tK yL ⟨pJ, hfr, hmk, iE, jG, lE, uC, mE, n8⟩ h
   refine Z7 (Z6 rfl (Gk (g:=pJ) (v:=Iz (0)) sizeOf3 iE jG rfl (Zj.2 rfl) fun qJ zL hs b136 cb=>?_));clear cb;have hfr:=hfr.stp hs;have hmk:=hmk.stp hs;have uC:=uC.stp hs rfl;have n8:=n8.stp hs rfl;refine Z6 rfl (Gk (g:=qJ) (v:=Iz (0)) sizeOf3 lE uC rfl (Zj.2 rfl) fun rJ aM hs b137 cb=>?_);clear cb;have hfr:=hfr.stp hs;have hmk:=hmk.stp hs;have b136:=b136.stp hs rfl;have n8:=n8.stp hs rfl;refine Z6 rfl (Gk (g:=rJ) (v:=Iz (7)) sizeOf51 mE n8 rfl (Zj.2 rfl) fun bM cM hs b138 cb=>?_);clear cb;have hfr:=hfr.stp hs;have hmk:=hmk.stp hs;have b136:=b136.stp hs rfl;have b137:=b137.stp hs rfl;refine Z4 (Gd (S8 (.inr rfl) hmk fun dM eM hs=>?_));have hfr:=hfr.stp hs;have b136:=b136.stp hs rfl;have b137:=b137.stp hs rfl;have b138:=b138.stp hs rfl;obtain rfl:=sinj h;obtain ⟨ad140,cv140,hp140,cH,cr140⟩:=T6 isAgg3 sizeOf3 b136;obtain rfl:=Zj.1 cr140;obtain ⟨ad141,cv141,hp141,gH,cr141⟩:=T6 isAgg3 sizeOf3 b137;obtain rfl:=Zj.1 cr141;obtain ⟨ad142,cv142,hp142,jH,cr142⟩:=T6 isAgg51 sizeOf51 b138;obtain rfl:=Zj.1 cr142;exact Ye rfl rfl ((show _=p4 from iE).trans hp140) cH ((show _=p5 from lE).trans hp141) gH ((show _=p6 from mE).trans hp142) jH ⟨_,hfr,_,_,_,rfl,rfl,rfl,rfl⟩
def f37 (x0:ChainBelt):Option (Int):=
 (f68 x0).bind fun y4=>
 some (y4.2)
theorem en37:Enters prog 37:=enters_of func37 (by kernel_rfl) rfl
theorem wk37 {gI:Gh} {wI:World} {x0:ChainBelt} {up0:Value} (rp0:RV gI.m wI x0 up0) {r:Int} (h:f37 x0=some r):Fn prog 37 #[up0] gI wI (fun _ _ v=>v=Iz (r)):=by
 unfold f37 at h;refine fnE func37 rfl rfl fun g0 hm hfr=>?_;have rp0:=RVc hm rp0;show E _ 11 none _ _ _ _ _;refine Z7 (Z6 rfl (Tq (g:=g0) rfl rp0 fun g1 w1 p1 hs q1=>?_));have hfr:=hfr.ext hs;refine Zg (Iz (0)) rfl rfl (Z4 (Z7 (Z6 rfl (Z9 (g:=g1) isAgg46 sizeOf46 rfl q1 fun v2 r2=>?_))));obtain ⟨y4,t5,h⟩:=Z3 h;refine Z6 rfl (Zp (g:=g1) (vs:=[v2]) en68 (.cons rfl .nil) (wk68 r2 t5) fun g3 w3_ v3 hs hr=>?_);have hfr:=hfr.ext hs;obtain ⟨o0,i6,rfl,l5,rfl⟩:=hr;refine Zn (.tuple #[o0,Iz (y4.2)]) rfl rfl (Zz o0 (Zi rfl rfl) rfl (Zz (Iz (y4.2)) (Zi rfl rfl) rfl (Z6 rfl (Gw (g:=g3) 2003 (⟨⟨0,[]⟩,0⟩:Gr) zeroValue160 (fun m w=>⟨_,(Gi (Gi Zx Tt) Zx),rfl⟩) fun g5 w5 p5 hs b5 cb=>?_))));have hfr:=hfr.stp hs;have l5:=l5.stp hs;have g8:OSF 2003 60301 1 g5 w5 43 160 ([]:List Z8) p5:=cb.osf (by rfl);clear cb;refine Z6 rfl (Gk (g:=g5) (v:=o0) sizeOf160 rfl b5 rfl l5 fun g6 w6 hs b6 cb=>?_);clear cb;have hfr:=hfr.stp hs;refine Zg (Iz (y4.2)) rfl rfl (Z4 (Z7 (Zn (Iz (y4.2)) rfl rfl (Zg (Iz (y4.2)) rfl rfl (Z4 (Gd ?_))))));obtain rfl:=sinj h;exact Ta rfl rfl (rq (Iz (y4.2))) ⟨_,hfr,rfl⟩
def f42 (x0:List Str):Option (Bool):=
 Option.bind (α:=Bool) (
  (f71 x0 ((fun a0=>f69 a0))).bind fun i6=>
  bif (!i6) then
   (f72 x0).bind fun g8=>
   bif g8 then
    (f74 x0).bind fun v8=>
    (f73 v8).bind fun l8=>
    some ((((l8).length:Int) == ((x0).length:Int)))
   else
    some (false)
  else
   some (false)
  ) fun t5=>
 some (t5)
theorem en42:Enters prog 42:=enters_of func42 (by kernel_rfl) rfl
theorem wk42 {gI:Gh} {wI:World} {x0:List Str} {up0:Value} (rp0:RV gI.m wI x0 up0) {r:Bool} (h:f42 x0=some r):Fn prog 42 #[up0] gI wI (fun _ _ v=>v=.bool (r)):=by
 unfold f42 at h;refine fnE func42 rfl rfl fun g0 hm hfr=>?_;have rp0:=RVc hm rp0;show E _ 21 none _ _ _ _ _;refine Z7 (Zg (.bool false) rfl rfl (Z4 (Z7 (Zg (.func (.func 69) #[] #[]) rfl rfl (Z4 ?_)))));obtain ⟨t5,hx,h⟩:=Z3 h;refine Gs (fun e w=>∃ (g:Gh) ,Fr gI wI g w∧e 2=.bool (t5)) (fun Q' hQ=>?_) (fun cC lD hR=>?_)
 ·replace h := hx
  clear hx;refine Za (Zn up0 rfl rfl (Zn (.func (.func 69) #[] #[]) rfl rfl ?_));obtain ⟨i6,aB,h⟩:=Z3 h;refine Z6 rfl (Zp (g:=g0) (vs:=[up0,.func (.func 69) #[] #[]]) en71 (.cons rfl (.cons rfl .nil)) (wk71 rp0 ⟨69,#[],#[],rfl,en69,fun g' w' hch a0 b0 r hu0 hr=>by obtain rfl:=Qt.1 hu0; exact Fn.mono (wk69   hr) fun _ _ _ h=>Qm.2 h⟩ aB) fun l9 uC nD hs hr=>?_);have hfr:=hfr.ext hs;have rp0:=rp0.ext hs;subst hr;refine Zz (.bool (!i6)) (Wq rfl) rfl (Zn (.bool (!i6)) rfl rfl ?_);rcases Zt h with ⟨l5,h⟩ | ⟨l5,h⟩
  ·refine Z0 up0 (Zk rfl) rfl rfl l5 rfl ?_
   obtain ⟨g8,lB,h⟩:=Z3 h;refine Ze (.yes2 rfl rfl l5) rfl (Zp (g:=l9) (vs:=[up0]) en72 (.cons rfl .nil) (wk72 rp0 lB) fun n9 vC oD hs hr=>?_);have hfr:=hfr.ext hs;have rp0:=rp0.ext hs;subst hr;refine Zz (.bool (g8)) (Zl (b:=(!i6)) rfl (Te l5 rfl)) rfl (Zn (.bool (g8)) rfl rfl ?_);rcases Zt h with ⟨o0,h⟩ | ⟨o0,h⟩
   ·refine Z0 up0 (Zk rfl) rfl rfl o0 rfl ?_
    obtain ⟨v8,mB,h⟩:=Z3 h;refine Ze (.yes2 rfl rfl o0) rfl (Zp (g:=n9) (vs:=[up0]) en74 (.cons rfl .nil) (wk74 rp0 mB) fun nB bD oB hs hr=>?_);have hfr:=hfr.ext hs;have rp0:=rp0.ext hs;have vB:=hr;obtain ⟨l8,hy20,h⟩:=Z3 h;refine Ze (.yes2 rfl rfl o0) rfl (Zp (g:=nB) (vs:=[oB]) en73 (.cons rfl .nil) (wk73 vB hy20) fun yB cD yD hs hr=>?_);have hfr:=hfr.ext hs;have rp0:=rp0.ext hs;have zB:=hr;refine Z0 (Iz ((l8).length:Int)) (Tr underlying61 rfl zB) rfl rfl o0 rfl (Z0 up0 (Zk rfl) rfl rfl o0 rfl (Z0 (Iz ((x0).length:Int)) (Tr underlying61 rfl rp0) rfl rfl o0 rfl (Z0 (.bool ((((l8).length:Int) == ((x0).length:Int)))) (Gx rfl rfl rfl) rfl rfl o0 rfl (Zz (.bool ((((l8).length:Int) == ((x0).length:Int)))) (Zl (b:=g8) rfl (Te o0 rfl)) rfl (Zg (.bool ((((l8).length:Int) == ((x0).length:Int)))) rfl rfl (Zb ?_))))));obtain rfl:=sinj h;exact hQ _ _ ⟨yB,hfr,rfl⟩
   ·refine Z1 rfl rfl o0 rfl rfl ?_
    iterate 6 refine Z1 rfl rfl o0 rfl rfl ?_
    refine Zz (.bool false) (Zl (b:=g8) rfl (Td o0 rfl)) rfl (Zg (.bool false) rfl rfl (Zb ?_));obtain rfl:=sinj h;exact hQ _ _ ⟨n9,hfr,rfl⟩
  ·refine Z1 rfl rfl l5 rfl rfl (Z1 rfl rfl l5 rfl rfl (Zz (.bool false) (Zl (b := (!i6)) rfl (Td l5 rfl)) rfl (Qs 9 rfl (Zg (.bool false) rfl rfl (Zb ?_)))))
   obtain rfl:=sinj h;exact hQ _ _ ⟨l9,hfr,rfl⟩
 ·clear hx
  obtain ⟨zD,hfr,n8⟩:=hR;refine Gd ?_;obtain rfl:=sinj h;exact Ta rfl rfl (show _=.bool (t5) from n8) ⟨_,hfr,rfl⟩
def f47 (x0:ChainBelt) (x1:Int) (x2:List Int):Option ((List Int) × Int × Int):=
 (f68 x0).bind fun y4=>
 jn (σ:=Unit) (fun _=>
  Option.bind (α:=(List Int) × Int) (
   lp (σ:=(List Int) × Int × Int) (fun gG (lB,i6,l5)=>
    bif (decide (l5 < ((x2).length : Int))) then
     Option.bind (α:=(List Int) × Int) (
      (idx x2 l5).bind fun oB=>
      (f81 (y4.1) i6).bind fun y80=>
      (apnd 8 lB (([y80]:List Int))).bind fun iG=>
      (f82 (y4.1) i6 oB).bind fun iE=>
      some (iG,iE)
      ) fun (n8,l9)=>
     gG (n8,l9,(w64 (l5 + (1:Int))))
    else
     some (lB,i6)
    ) big ([],x1,(0:Int))
   ) fun (n9,v8)=>
  some (n9,v8,(0:Int))
  ) fun k18=>
 bif (y4.2 != (0 : Int)) then
  some ([],(0:Int),y4.2)
 else
  (f80 ((0:Int)) ((w64 ((((x0).Cards).length:Int) - (1:Int)))) (([x1]:List Int))).bind fun nD=>
  bif (!nD) then
   some ([],(0:Int),(7:Int))
  else
   bif (decide (((x2).length : Int) > (60 : Int))) then
    some ([],(0:Int),(5:Int))
   else
    (f80 ((0:Int)) ((2:Int)) x2).bind fun oD=>
    bif (!oD) then
     some ([],(0:Int),(2:Int))
    else
     k18 ()
theorem en47:Enters prog 47:=enters_of func47 (by kernel_rfl) rfl
theorem wk47 {gI:Gh} {wI:World} {x0:ChainBelt} {x1:Int} {x2:List Int} {up0:Value} (rp0:RV gI.m wI x0 up0) {up2:Value} (rp2:RV gI.m wI x2 up2) {r:(List Int) × Int × Int} (h:f47 x0 x1 x2=some r):Fn prog 47 #[up0,Iz (x1),up2] gI wI (fun m w v=>∃ y0 y1 y2,v=.tuple #[y0,y1,y2]∧RV m w (r.1) y0∧y1=Iz (r.2.1)∧y2=Iz (r.2.2)):=by
 unfold f47 at h;refine fnE func47 rfl rfl fun g0 hm hfr=>?_;have rp0:=RVc hm rp0;have rp2:=RVc hm rp2;show E _ 58 none _ _ _ _ _;refine Z7 (Z6 rfl (Tq (g:=g0) rfl rp0 fun g1 w1 p1 hs q1=>?_));have hfr:=hfr.ext hs;have rp2:=rp2.ext hs;refine Zg (.slice none 0 0) rfl rfl (Zg (Iz (0)) rfl rfl (Zg (Iz (0)) rfl rfl (Z4 (Z7 (Z6 rfl (Z9 (g:=g1) isAgg46 sizeOf46 rfl q1 fun v2 r2=>?_))))));obtain ⟨y4,cH,h⟩:=Z3 h;refine Z6 rfl (Zp (g:=g1) (vs:=[v2]) en68 (.cons rfl .nil) (wk68 r2 cH) fun g3 w3_ v3 hs hr=>?_);have hfr:=hfr.ext hs;have rp2:=rp2.ext hs;have q1:=q1.ext hs;obtain ⟨zB,kI,rfl,cC,rfl⟩:=hr;refine Zn (.tuple #[zB,Iz (y4.2)]) rfl rfl (Zz zB (Zi rfl rfl) rfl (Zz (Iz (y4.2)) (Zi rfl rfl) rfl (Z6 rfl (Gw (g:=g3) 2009 (⟨⟨0,[]⟩,0⟩:Gr) zeroValue160 (fun m w=>⟨_,(Gi (Gi Zx Tt) Zx),rfl⟩) fun g5 w5 p5 hs b5 cb=>?_))));have hfr:=hfr.stp hs;have rp2:=rp2.stp hs;have q1:=q1.stp hs;have cC:=cC.stp hs;have lI:OSF 2009 60901 1 g5 w5 43 160 ([]:List Z8) p5:=cb.osf (by rfl);clear cb;refine Z6 rfl (Gk (g:=g5) (v:=zB) sizeOf160 rfl b5 rfl cC fun g6 w6 hs b6 cb=>?_);clear cb;have hfr:=hfr.stp hs;have rp2:=rp2.stp hs;have q1:=q1.stp hs;refine Zg (Iz (y4.2)) rfl rfl (Z4 (Zq h (fun (s:Unit) e w=>∃ (g:Gh) ,Fr gI wI g w∧e 1=Iz (x1)∧e 2=up2∧RV g.m w (x2:List Int) up2∧e 6=.slice none 0 0∧RV g.m w ([]:List Int) (Value.slice none 0 0)∧e 9=p5∧OB 2009 g w 160 (y4.1:Gr) p5) (fun X18 k18 lG h=>?_) ?_))
 ·refine Zr (Z7 (Zn (Iz (y4.2)) rfl rfl (Gf (.bool ((y4.2 != (0 : Int)))) rfl rfl rfl rfl (Zg (.bool ((y4.2 != (0 : Int)))) rfl rfl (Z4 ?_)))))
  rcases Zt h with ⟨uC,h⟩ | ⟨uC,h⟩
  ·refine G5 uC rfl (Z7 (Zn (Iz (y4.2)) rfl rfl (Zg (.slice none 0 0) rfl rfl (Zg (Iz (0)) rfl rfl (Zg (Iz (y4.2)) rfl rfl (Z4 (Gd (Tg (Gq ?_)))))))))
   obtain rfl:=sinj h;exact Y9 rfl rfl (rq (.slice none 0 0)) (rq (Iz (0))) (rq (Iz (y4.2))) ⟨_,hfr,_,_,_,rfl,Qi,rfl,rfl⟩
  ·refine G8 uC rfl (Z7 (Zz (Ga p1 1) (Zc Hx rfl (PT.ptr q1)) rfl ?_))
   have gH:=Zm (Qf).1 q1;refine Z6 rfl (Z9 (g:=g6) isAgg44 sizeOf44 rfl gH fun mJ jH=>(Zz (Iz (((x0).Cards).length:Int)) (Tr underlying44 rfl jH) rfl (Zz (Iz ((w64 ((((x0).Cards).length:Int) - (1:Int))))) (Gx rfl rfl rfl) rfl (Zn (Iz (x1)) rfl rfl (Z6 rfl (Gb (g:=g6) 3027 (xs:=([x1]:List Int)) (vs:=[Iz (x1)]) underlying24 sizeOf3 zeroValue3 rfl rfl (.cons rfl .nil) (RVs.cons (Zj.2 rfl) RVs.nil) rfl rfl fun kH nJ lH hs o22 mH hxt hfl=>?_))))));have hfr:=hfr.stp hs;have rp2:=rp2.stp hs;have b6:=b6.stp hs rfl;obtain ⟨nD,mG,h⟩:=Z3 h;refine Z6 rfl (Zp (g:=kH) (vs:=[Iz (0),Iz ((w64 ((((x0).Cards).length:Int) - (1:Int)))),lH]) en80 (.cons rfl (.cons rfl (.cons rfl .nil))) (wk80 mH mG) fun nH mI oJ hs hr=>?_);have hfr:=hfr.ext hs;have rp2:=rp2.ext hs;have b6:=b6.ext hs;subst hr;refine Zz (.bool (!nD)) (Wq rfl) rfl (Zg (.bool (!nD)) rfl rfl (Z4 ?_));rcases Zt h with ⟨vC,h⟩ | ⟨vC,h⟩
   ·refine G5 vC rfl (Z7 (Zg (.slice none 0 0) rfl rfl (Zg (Iz (0)) rfl rfl (Zg (Iz (7)) rfl rfl (Z4 (Gd (Tg (Gq ?_))))))))
    obtain rfl:=sinj h;exact Y9 rfl rfl (rq (.slice none 0 0)) (rq (Iz (0))) (rq (Iz (7))) ⟨_,hfr,_,_,_,rfl,Qi,rfl,rfl⟩
   ·refine G8 vC rfl (Z7 (Zn up2 rfl rfl (Zz (Iz ((x2).length : Int)) (Tr underlying24 rfl rp2) rfl (Gf (.bool ((decide (((x2).length : Int) > (60 : Int))))) rfl rfl rfl rfl (Zg (.bool ((decide (((x2).length : Int) > (60 : Int))))) rfl rfl (Z4 ?_))))))
    rcases Zt h with ⟨bD,h⟩ | ⟨bD,h⟩
    ·refine G5 bD rfl (Z7 (Zg (.slice none 0 0) rfl rfl (Zg (Iz (0)) rfl rfl (Zg (Iz (5)) rfl rfl (Z4 (Gd (Tg (Gq ?_))))))))
     obtain rfl:=sinj h;exact Y9 rfl rfl (rq (.slice none 0 0)) (rq (Iz (0))) (rq (Iz (5))) ⟨_,hfr,_,_,_,rfl,Qi,rfl,rfl⟩
    ·refine G8 bD rfl (Z7 (Zn up2 rfl rfl ?_))
     obtain ⟨oD,sG,h⟩:=Z3 h;refine Z6 rfl (Zp (g:=nH) (vs:=[Iz (0),Iz (2),up2]) en80 (.cons rfl (.cons rfl (.cons rfl .nil))) (wk80 rp2 sG) fun oH nI pJ hs hr=>?_);have hfr:=hfr.ext hs;have rp2:=rp2.ext hs;have b6:=b6.ext hs;subst hr;refine Zz (.bool (!oD)) (Wq rfl) rfl (Zg (.bool (!oD)) rfl rfl (Z4 ?_));rcases Zt h with ⟨cD,h⟩ | ⟨cD,h⟩
     ·refine G5 cD rfl (Z7 (Zg (.slice none 0 0) rfl rfl (Zg (Iz (0)) rfl rfl (Zg (Iz (2)) rfl rfl (Z4 (Gd (Tg (Gq ?_))))))))
      obtain rfl:=sinj h;exact Y9 rfl rfl (rq (.slice none 0 0)) (rq (Iz (0))) (rq (Iz (2))) ⟨_,hfr,_,_,_,rfl,Qi,rfl,rfl⟩
     ·refine G8 cD rfl ?_
      exact Zu (Tc (Zd (lG () _ _ ⟨oH,hfr,rfl,rfl,rp2,rfl,Qi,rfl,b6⟩ h)))
 ·rintro _ pI qJ ⟨pH, hfr, xE, yE, yD, zE, cF, dF, eF⟩ h
  refine Z7 (Zo xE rfl (Zg (Iz (x1)) rfl rfl (Z4 ?_)));obtain ⟨⟨n9,v8⟩,hx,h⟩:=Z3 h;refine Gs (fun e w=>∃ (g:Gh) (v6:Value),Fr gI wI g w∧e 6=v6∧RV g.m w (n9:List Int) v6∧OS 1006 g w 3 (n9:List Int) v6∧e 7=Iz (v8)) (fun Q' hQ=>?_) (fun qI rJ hR=>?_)
  ·replace h := hx
   clear hx;refine Z7 (Zo yE rfl (Zz (Iz ((x2).length:Int)) (Tr underlying24 rfl yD) rfl (Zn (Iz (0)) rfl rfl (Z4 (Zr (Wo h (fun (s:(List Int) × Int × Int) e w=>∃ (g:Gh) (v6:Value),Fr gI wI g w∧e 6=v6∧RV g.m w (s.1:List Int) v6∧OS 1006 g w 3 (s.1:List Int) v6∧e 7=Iz (s.2.1)∧e 9=p5∧OB 2009 g w 160 (y4.1:Gr) p5∧e 39=up2∧RV g.m w (x2:List Int) up2∧e 40=Iz (((x2).length:Int))∧e 41=Iz (s.2.2)) ⟨pH,(.slice none 0 0),hfr,zE,cF,OS.nil,rfl,dF,eF,rfl,yD,rfl,rfl⟩ (fun X59 gG xG=>?_)))))));rintro ⟨lB,i6,l5⟩ sI sJ ⟨zD,rF,hfr,aE,g8,l8,mB,nB,t5,vB,o0,yB,aB⟩ h;refine Z7 (Gf (.bool ((decide (l5 < ((x2).length:Int))))) aB yB rfl rfl (Z4 (Zf ?_)));rcases Zt h with ⟨lD,h⟩ | ⟨lD,h⟩
   ·refine G5 lD rfl (Zu (Zd ?_))
    obtain ⟨⟨n8,l9⟩,hx,h⟩:=Z3 h;refine Gs (fun e w=>∃ (g:Gh) (v6:Value),Fr gI wI g w∧e 6=v6∧RV g.m w (n8:List Int) v6∧OS 1006 g w 3 (n8:List Int) v6∧e 7=Iz (l9)∧e 9=p5∧OB 2009 g w 160 (y4.1:Gr) p5∧e 39=up2∧RV g.m w (x2:List Int) up2∧e 40=Iz (((x2).length:Int))∧e 41=Iz (l5)) (fun Q' hQ=>?_) (fun jJ vJ hR=>?_)
    ·replace h := hx
     clear hx;refine Zr (Z7 ?_);obtain ⟨oB,lE,h⟩:=Z3 h;refine Zz (Tb up2 l5 1) (Zh (α:=Int) underlying24 sizeOf3 vB o0 aB lE) rfl ?_;have qH:=Tp o0 lE;refine Z6 rfl (Z9 (g:=zD) isAgg3 sizeOf3 rfl qH fun xJ sH=>?_);obtain rfl:=Zj.1 sH;refine Zg (Iz (oB)) rfl rfl (Z4 (Z7 (Zo aE rfl (Z6 rfl (T3 (g:=zD) isAgg160 sizeOf160 nB t5 fun tH uH=>(Zo mB rfl ?_))))));obtain ⟨y80,yG,h⟩:=Z3 h;refine Z6 rfl (Zp (g:=zD) (vs:=[tH,Iz (i6)]) en81 (.cons rfl (.cons rfl .nil)) (wk81 uH yG) fun xH kJ zJ hs hr=>?_);have hfr:=hfr.ext hs;have g8:=g8.ext hs;have l8:=l8.ext hs;have t5:=t5.ext hs;have o0:=o0.ext hs;subst hr;refine Z6 rfl (Gb (g:=xH) 3049 (xs:=([y80]:List Int)) (vs:=[Iz (y80)]) underlying24 sizeOf3 zeroValue3 rfl rfl (.cons rfl .nil) (RVs.cons (Zj.2 rfl) RVs.nil) rfl rfl fun yH aK bK hs o81 zH hxt hfl=>?_);have hfr:=hfr.stp hs;have g8:=g8.stp hs;have l8:=l8.stp hs rfl;have t5:=t5.stp hs rfl;have o0:=o0.stp hs;obtain ⟨iG,zG,h⟩:=Z3 h;refine Z6 rfl (Ql (g:=yH) (i:=1006) underlying24 Yn rfl rfl l8 g8 rfl zH zG fun jG cK kG hs o82 mE _=>?_);have hfr:=hfr.stp hs;have t5:=t5.stp hs rfl;have o0:=o0.stp hs;refine Zg kG rfl rfl (Z4 (Za (Z6 rfl (T3 (g:=jG) isAgg160 sizeOf160 nB t5 fun aI bI=>(Zo mB rfl (Zn (Iz (oB)) rfl rfl ?_))))));obtain ⟨iE,aH,h⟩:=Z3 h;refine Z6 rfl (Zp (g:=jG) (vs:=[aI,Iz (i6),Iz (oB)]) en82 (.cons rfl (.cons rfl (.cons rfl .nil))) (wk82 bI aH) fun dI lJ dK hs hr=>?_);have hfr:=hfr.ext hs;have mE:=mE.ext hs;have o82:=o82.ext hs;have t5:=t5.ext hs;have o0:=o0.ext hs;subst hr;refine Zg (Iz (iE)) rfl rfl (Zb (Tc ?_));obtain ⟨rfl,rfl⟩:=Kr h;exact hQ _ _ ⟨dI,(kG),hfr,rfl,mE,o82,rfl,nB,t5,vB,o0,yB,aB⟩
    ·clear hx
     obtain ⟨iI,sF,hfr,tF,uF,vF,xF,yF,aG,oE,rE,uE,vE⟩:=hR;refine Za (Gf (Iz ((w64 (l5 + (1:Int))))) vE rfl rfl rfl (Zn (Iz ((w64 (l5 + (1:Int))))) rfl rfl ?_));exact Z4 (xG (n8,l9,(w64 (l5 + (1:Int)))) _ _ ⟨iI,(sF),hfr,tF,uF,vF,xF,yF,aG,oE,rE,uE,rfl⟩ h)
   ·refine G8 lD rfl (Tu (Gy (Gy (G9 ?_))))
    obtain ⟨rfl,rfl⟩:=Kr h;exact hQ _ _ ⟨zD,(rF),hfr,aE,g8,l8,mB⟩
  ·clear hx
   obtain ⟨lK,bE,hfr,bG,cG,jI,eG⟩:=hR;refine Z7 (Zo bG rfl (Zo eG rfl (Zg bE rfl rfl (Zg (Iz (v8)) rfl rfl (Zg (Iz (0)) rfl rfl (Z4 (Gd ?_)))))));obtain rfl:=sinj h;exact Y9 rfl rfl (rq bE) (rq (Iz (v8))) (rq (Iz (0))) ⟨_,hfr,_,_,_,rfl,cG,rfl,rfl⟩
theorem idx_lt {α:Type} {xs:List α} {i:Int} {a:α} (h:idx xs i=some a):i.toNat < xs.length:=(List.getElem?_eq_some_iff.1 (Wh h).2).1
theorem Lw {α:Type} {xs:List α} {i:Int} {a:α} (h:idx xs i=some a):xs.set i.toNat a=xs:=by
 have h1:=(List.getElem?_eq_some_iff.1 (Wh h).2);obtain ⟨hl,rfl⟩:=h1;exact List.set_getElem_self hl
theorem O8 {α:Type} {xs:List α} {i:Int} {a b:α} (h:idx xs i=some a):idx (xs.set i.toNat b) i=some b:=by
 have h0:=(Wh h).1;have hl:=idx_lt h;unfold idx at h ⊢;simp [h0,hl]
theorem Fu {P:Program} {e:Env} {x:Operand} {p:Value} (hx:ev e x=p) (hp:∃ b o,p=.pointer (some ⟨b,o,none⟩)):Pur P (.nilCheck x) e p:=by
 obtain ⟨b,o,rfl⟩:=hp; exact Tk hx
theorem lay_87w:Qy prog 87=some ([Iz 0,Iz 0],[(0,1),(1,1)]):=by kernel_rfl
theorem lay_28w:Qy prog 28=some ([Iz 0,.slice none 0 0],[(0,1),(1,1)]):=by kernel_rfl
def f21 (cy:T0) (m:Gj) (c:Z5):Option ((List Str) × Int × T0):=
 (idx m.Chains c.Chain).bind fun ch=>(idx m.Ties c.Tie).bind fun ti=>
 bif ch.Chain.Hooks != ti.Harness.Hooks then some ([],4,cy) else
 Option.bind (some (bif cy.chain != w64 (c.Chain + (1:Int)) then ⟨w64 (c.Chain + (1:Int)),0⟩ else cy)) fun c1=>
 (f48 [1] c.Picks).bind fun pk=>(f47 ch.Chain c1.card pk).bind fun wv=>
 bif wv.2.2 != (0:Int) then some ([],wv.2.2,c1) else
 (f49 ti.Harness ⟨ch.Chain.Hooks,wv.1⟩).bind fun t=>some (t.1,t.2,{ c1 with card:=wv.2.1 })
theorem en21:Enters prog 21:=enters_of func21 (by kernel_rfl) rfl
theorem wk21 {iI : Nat} {gI : Gh} {wI : World} {xs : List T0} {pv : Value} {i : Int} {cy : T0} {m : Gj} {c : Z5} {um uc : Value} (mp0 : OM iI gI wI 87 xs pv) (hi : idx xs i = some cy) (rm : RV gI.m wI m um) (rc : RV gI.m wI c uc) {r : (List Str) × Int × T0} (hf : f21 cy m c = some r) :
  FnM prog 21 #[Tb pv i 2,um,uc] iI gI wI (fun g w v=>∃ y0 y1,v=.tuple #[y0,y1]∧RV g.m w r.1 y0∧y1=Iz r.2.1∧OM iI g w 87 (xs.set i.toNat r.2.2) pv):=by
 unfold f21 at hf
 obtain ⟨ch,hch,hf⟩:=Z3 hf
 obtain ⟨ti,hti,hf⟩:=Z3 hf
 refine K5 func21 rfl (Nat.le_of_ble_eq_true rfl) fun g0 hm hfr=>?_
 have mpI:=mp0
 replace mp0:=mp0.enter
 rw [← hm] at mp0
 replace hm:g0.m=gI.m:=by rw [hm]
 replace rm:RV g0.m wI m um:=hm ▸ rm
 replace rc:RV g0.m wI c uc:=hm ▸ rc
 show E _ 75 none _ _ _ _ _
 refine Z7 (Z6 rfl (Tq (g:=g0) rfl rm fun g1 w1 pm hx1 qm=>(Z6 rfl (Tq (g:=g1) rfl (rc.ext hx1) fun g2 w2 pc hx2 qc=>?_))))
 have hfr:=(hfr.ext hx1).ext hx2
 have mp:=(mp0.ext hx1).ext hx2
 have qm:=qm.ext hx2
 refine Zg (.slice none 0 0) rfl rfl (Zg (Iz 0) rfl rfl (Z4 (Zf ?_)))
 clear mp0 hx1 hx2
 -- region 1: the chain and the tie
 have qch:=Zm Wz.1 qm
 refine Zs (x:=.tmp 13) isAgg37 sizeOf37 qch fun vch rch hch1=>?_
 have qti:=Zm W0.1 qm
 refine Zs (x:=.tmp 20) isAgg36 sizeOf36 qti fun vti rti hti1=>(Zs (x:=.tmp 15) isAgg3 sizeOf3 (Zm Wr.1 qc) fun v0 r0 hc3=>?_)
 obtain rfl:=Zj.1 r0
 refine Zs (x:=.tmp 22) isAgg3 sizeOf3 (Zm Hm.1 qc) fun v0 r0 hc4=>?_
 obtain rfl:=Zj.1 r0
 have qe:=Tp rch hch
 refine Zs (x:=.tmp 18) isAgg46 sizeOf46 (Zm Jm.1 qe) fun vb rb hb1=>?_
 have qt:=Tp rti hti
 refine Zs (x:=.tmp 25) isAgg26 sizeOf26 (Zm Ym.1 qt) fun vh rh hh1=>(Ja (g:=g2) (n:=16) [7,8,9,10,11,12,13] [(14,fun v g w=>OB 8 g w 46 (⟨0,[]⟩:ChainBelt) v),(15,fun v g w=>OB 9 g w 26 (⟨0,[]⟩:TieHarness) v)] [0,1,2,3,4,5,6,7,8,9,10,11,12,13,14,15] rfl Y7 (by kernel_rfl) ⟨fun _=>(fun _ _ _ _ hx h=>OB.ext h hx),fun _=>(fun _ _ _ _ hx h=>OB.ext h hx),trivial⟩ rfl (Z2 (Ga pm 1) rfl rfl (Zc Un rfl (PT.ptr qm)) (Tv (c:=vch) rfl rfl .plain (fun _ _ h=>h.ch) hch1 rfl (Z2 (Ga pc 2) rfl rfl (Zc Vz rfl (PT.ptr qc)) (Tv (c:=Iz c.Chain) rfl rfl .plain (fun _ _ h=>h.ch) hc3 rfl (Z2 (Tb vch c.Chain 3) rfl rfl (Zh (α:=Gc) underlying37 sizeOf48 rfl rch rfl hch) (Z2 (Ga (Tb vch c.Chain 3) 1) rfl rfl (Zc V1 rfl (PT.ptr qe)) (Tv (c:=vb) rfl rfl .plain (fun _ _ h=>h.ch) hb1 rfl (Wj (c:=Ga pm 0) rfl rfl .plain (Zc V2 rfl (PT.ptr qm)) (Xt (c:=vti) rfl rfl .plain (fun _ _ h=>h.ch) rfl hti1 rfl (Wj (c:=Ga pc 3) rfl rfl .plain (Zc Se rfl (PT.ptr qc)) (Xt (c:=Iz c.Tie) rfl rfl .plain (fun _ _ h=>h.ch) rfl hc4 rfl (Wj (c:=Tb vti c.Tie 3) rfl rfl .plain (Zh (α:=Gn) underlying36 sizeOf76 rfl rti rfl hti) (Wj (c:=Ga (Tb vti c.Tie 3) 1) rfl rfl .plain (Zc B9 rfl (PT.ptr qt)) (Xt (c:=vh) rfl rfl .plain (fun _ _ h=>h.ch) rfl hh1 rfl (Ks (φ:=fun v g w=>OB 8 g w 46 (⟨0,[]⟩:ChainBelt) v) rfl rfl .plain (fun g w hd=>Rc (g:=g) 8 (⟨0,[]⟩:ChainBelt) zeroValue46 (fun m w=>⟨_,Gi Zx Tt,rfl⟩) fun g' w' p hs hr=>⟨g',hs,hr⟩) (fun p8 hv=>?_)))))))))))))))))
 clear hv
 refine Ks (φ:=fun v g w=>OB 9 g w 26 (⟨0,[]⟩:TieHarness) v) rfl rfl .plain (fun g w hd=>Rc (g:=g) 9 (⟨0,[]⟩:TieHarness) zeroValue26 (fun m w=>⟨_,Gi Zx Tt,rfl⟩) fun g' w' p hs hr=>⟨g',hs,hr⟩) (fun p9 hv=>?_)
 clear hv
 refine Jz fun g3 w3 hall=>?_
 have hs:=hall.1
 have b8:=Ti (A:=fun g w=>OB 8 g w 46 (⟨0,[]⟩:ChainBelt) p8) 14 rfl hall
 have b9:=Ti (A:=fun g w=>OB 9 g w 26 (⟨0,[]⟩:TieHarness) p9) 15 rfl hall
 have hlt:Lt g2.m w2 g3 w3:=hs.ch
 clear hall
 refine Yo hlt.w .plain rfl (Uc (g:=g3) (v:=vb) sizeOf46 rfl b8 rfl (rb.ext hs) fun g4 w4 hs4 b8=>?_)
 have hlt:=hlt.stp hs4
 refine Yo hlt.w .plain rfl (Uc (g:=g4) (v:=vh) sizeOf26 rfl (b9.stp hs4 rfl) rfl ((rh.ext hs).stp hs4) fun g5 w5 hs5 b9=>?_)
 have hlt:=hlt.stp hs5
 refine Uo hlt.w (Zd ?_)
 obtain ⟨g6,hs6,q8⟩:=(b8.stp hs5 rfl).pub
 obtain ⟨g7,hs7,q9⟩:=(b9.stp hs6 rfl).pub
 have q8:=q8.stp hs7
 have hfr:=((((hfr.ext hs).stp hs4).stp hs5).stp hs6).stp hs7
 have mp:=((((mp.ext hs).stp hs4 rfl).stp hs5 rfl).stp hs6 rfl).stp hs7 rfl
 have qc:=((((qc.ext hs).stp hs4).stp hs5).stp hs6).stp hs7
 clear hlt hs hs4 hs5 hs6 hs7 b8 b9 rb rh hch1 hti1 hc3 hc4 hb1 hh1 qch qti qe qt rch rti
 -- region 2: the hooks
 refine Zf (Z7 (Zz (Ga p8 0) (Zc Dx rfl (PT.ptr q8)) rfl (Z6 rfl (Z9 (g:=g7) isAgg3 sizeOf3 rfl (Zm Ko.1 q8) fun v r=>?_))))
 obtain rfl:=Zj.1 r
 refine Zz (Ga p9 0) (Zc Jt rfl (PT.ptr q9)) rfl (Z6 rfl (Z9 (g:=g7) isAgg3 sizeOf3 rfl (Zm Qh.1 q9) fun v r=>?_))
 obtain rfl:=Zj.1 r
 refine Gf (.bool (ch.Chain.Hooks != ti.Harness.Hooks)) rfl rfl rfl rfl (Z4 ?_)
 rcases Zt hf with ⟨hc,hf⟩ | ⟨hc,hf⟩
 ·refine G5 hc rfl (Z7 (Zg (.slice none 0 0) rfl rfl (Zg (Iz 4) rfl rfl (Z4 (Gd ?_)))))
  obtain rfl:=sinj hf
  exact Yq rfl rfl rfl rfl ⟨_,hfr,_,_,rfl,Qi,rfl,by rw [Lw hi]; exact mpI.back mp⟩
 refine G8 hc rfl (Zu (Zd ?_))
 obtain ⟨c1,hc1,hf⟩:=Z3 hf
 obtain ⟨pk,hpk,hf⟩:=Z3 hf
 obtain ⟨wv,hwv,hf⟩:=Z3 hf
 -- region 4: another chain on the loom
 refine Hp (fun e ds w'=>ds=[]∧e 0=Tb pv i 2∧e 5=pc∧e 8=p8∧e 9=p9∧∃ g',FrM iI gI wI g' w'∧Ch g7.m w5 g'.m w'∧OM 1 g' w' 87 (xs.set i.toNat c1) pv) (fun Q' hQ=>?_) (fun e ds w' hR=>?_)
 ·have hpp := mp.ptrE (k := 2) hi
  refine Zf (Lv (x:=.tmp 34) V4.1 isAgg3 sizeOf3 mp hi fun v r hl1=>?_)
  obtain rfl:=Zj.1 r
  refine Zs (x:=.tmp 36) isAgg3 sizeOf3 (Zm Wr.1 qc) fun v r hl2=>?_
  obtain rfl:=Zj.1 r
  refine Tz (g:=g7) (n:=8) [] [0,1,2,3,4,5,6,7] rfl Y7 (by kernel_rfl) trivial (Z2 (Tb pv i 2) rfl rfl (Zk rfl) (Z2 (Tb pv i 2) rfl rfl (Fu rfl hpp) (Z2 (Ga (Tb pv i 2) 0) rfl rfl (Zc Ey rfl hpp) (Tv (c:=Iz cy.chain) rfl rfl .plain (fun _ _ h=>⟨h.ch,fun b hb _=>h.below.block b hb⟩) hl1 rfl (Z2 (Ga pc 2) rfl rfl (Zc Vz rfl (PT.ptr qc)) (Tv (c:=Iz c.Chain) rfl rfl .plain (fun _ _ h=>h.ch) hl2 rfl (Z2 (Iz (w64 (c.Chain + (1:Int)))) rfl rfl (Gx rfl rfl rfl) (Z2 (.bool (cy.chain != w64 (c.Chain + (1:Int)))) rfl rfl (Gx rfl rfl rfl) (Jz fun g8 w8 hall=>?_)))))))))
  have hs:=hall.1
  refine Z4 ?_
  rcases Bool.eq_false_or_eq_true (cy.chain != w64 (c.Chain + (1:Int))) with hq | hq
  ·rw [hq] at hc1
   obtain rfl:=sinj hc1
   refine G5 hq rfl (Za (Zn (Tb pv i 2) rfl rfl (Zz (Ga pc 2) (Zc Vz rfl (PT.ptr qc)) rfl (Z6 rfl (Z9 (g:=g8) isAgg3 sizeOf3 rfl (Zm Wr.1 (qc.ext hs)) fun v r=>?_)))))
   obtain rfl:=Zj.1 r
   refine Gf (Iz (w64 (c.Chain + (1:Int)))) rfl rfl rfl rfl (Zz (.agg #[Iz (w64 (c.Chain + (1:Int))),Iz 0]) (show Pur _ _ _ (.agg #[Iz (w64 (c.Chain + (1:Int))),Iz 0]) from Tf (vs:=[(0,Iz (w64 (c.Chain + (1:Int))))]) [[Iz 0],[Iz 0]] lay_87w rfl rfl (.cons rfl .nil) ⟨⟨_,rfl,rfl⟩,trivial⟩) rfl (Zz (Tb pv i 2) (Fu rfl hpp) rfl (Z6 rfl (Kl (g:=g8) (α:=T0) (a':=⟨w64 (c.Chain + (1:Int)),0⟩) (u:=.agg #[Iz (w64 (c.Chain + (1:Int))),Iz 0]) sizeOf87 rfl (mp.ext hs) hi rfl ⟨_,Gi Zx Zx,rfl⟩ fun g9 w9 hs9 mp9=>?_))))
   exact Zb (hQ _ _ _ ⟨rfl,rfl,rfl,rfl,rfl,g9,(hfr.ext hs).stp hs9,hs.ch.trans hs9.ch,mp9⟩)
  ·rw [hq] at hc1
   obtain rfl:=sinj hc1
   exact G8 hq rfl (Zu (hQ _ _ _ ⟨rfl,rfl,rfl,rfl,rfl,g8,hfr.ext hs,hs.ch,by show OM 1 g8 w8 87 (xs.set i.toNat cy) pv; rw [Lw hi]; exact mp.ext hs⟩))
 obtain ⟨rfl,e0,e5,e8,e9,g,hfrN,hch7,mpN⟩:=hR
 replace hfr:=hfrN
 replace mp:=mpN
 have q8:=q8.ch hch7
 have q9:=q9.ch hch7
 have qc:=qc.ch hch7
 have hi1:=O8 (b:=c1) hi
 have hpp:=mp.ptrE (k:=2) hi1
 clear hfrN mpN hch7 hc1
 -- region 6: the picks of the chain
 refine Zf (Zs (x:=.tmp 8) isAgg46 sizeOf46 q8 fun vb rb hb1=>(Lv (x:=.tmp 50) J3.1 isAgg3 sizeOf3 mp hi1 fun v r hl1=>?_))
 obtain rfl:=Zj.1 r
 refine Zs (x:=.tmp 53) isAgg3 sizeOf3 (Zm Jk.1 qc) fun v r hl2=>?_
 obtain rfl:=Zj.1 r
 refine Ja (g:=g) (n:=14) [12,13] [(5,fun v g w=>RV g.m w ([1]:List Int) v),(8,fun v g w=>RV g.m w pk v),(9,fun v g w=>∃ y0 y1 y2,v=.tuple #[y0,y1,y2]∧RV g.m w wv.1 y0∧y1=Iz wv.2.1∧y2=Iz wv.2.2)] [0,1,2,3,4,5,6,7,8,9,10,11,12,13] rfl Y7 (by kernel_rfl) ⟨fun _=>K0,fun _=>K0,fun _=>(fun _ _ _ _ hx h=>let ⟨y0,y1,y2,h1,h2,h3⟩:=h; ⟨y0,y1,y2,h1,RV.ext h2 hx,h3⟩),trivial⟩ rfl (Tv (c:=vb) rfl rfl .plain (fun _ _ h=>h.ch) hb1 e8 (Z2 (Tb pv i 2) rfl rfl (Zk e0) (Z2 (Tb pv i 2) rfl rfl (Fu rfl hpp) (Z2 (Ga (Tb pv i 2) 1) rfl rfl (Zc Mk rfl hpp) (Tv (c:=Iz c1.card) rfl rfl .plain (fun _ _ h=>⟨h.ch,fun b hb _=>h.below.block b hb⟩) hl1 rfl (Ks (φ:=fun v g w=>RV g.m w ([1]:List Int) v) rfl rfl .plain (fun g w hd=>Gb (g:=g) 5 (xs:=([1]:List Int)) (vs:=[Iz 1]) underlying24 sizeOf3 zeroValue3 rfl rfl (.cons rfl .nil) (RVs.cons (Zj.2 rfl) RVs.nil) rfl rfl fun g' w' v _ _ r hx _=>⟨g',hx,r⟩) (fun v5 hv=>?_)))))))
 clear hv
 refine Z2 (Ga pc 4) rfl rfl (Zc Fw e5 (PT.ptr qc)) (Tv (c:=Iz c.Picks) rfl rfl .plain (fun _ _ h=>h.ch) hl2 rfl (Ks (φ:=fun v g w=>RV g.m w pk v) rfl rfl .plain (fun g w hd=>Zp (g:=g) (vs:=[v5,Iz c.Picks]) en48 (.cons rfl (.cons rfl .nil)) (wk48 (V6 (A:=fun g w=>RV g.m w ([1]:List Int) v5) 5 rfl rfl (Kh hd)) hpk) fun g' w' v hs hr=>⟨g',hs,hr⟩) (fun v8 hv=>?_)))
 clear hv
 refine Ks (φ:=fun v g w=>∃ y0 y1 y2,v=.tuple #[y0,y1,y2]∧RV g.m w wv.1 y0∧y1=Iz wv.2.1∧y2=Iz wv.2.2) rfl rfl .plain (fun g w hd=>Zp (g:=g) (vs:=[vb,Iz c1.card,v8]) en47 (.cons rfl (.cons rfl (.cons rfl .nil))) (wk47 (rb.ext hd.1) (V6 (A:=fun g w=>RV g.m w pk v8) 8 rfl rfl (Kh hd)) hwv) fun g' w' v hs hr=>⟨g',hs,hr⟩) (fun v9 hv=>?_)
 obtain ⟨_,_,_,y0,y1,y2,rfl,_,rfl,rfl⟩:=hv
 refine Z2 (.tuple #[y0,Iz wv.2.1,Iz wv.2.2]) rfl rfl (Zk rfl) (Z2 y0 rfl rfl (Zi rfl rfl) (Wj (c:=Iz wv.2.1) rfl rfl .plain (Zi rfl rfl) (Wj (c:=Iz wv.2.2) rfl rfl .plain (Zi rfl rfl) (Jz fun g10 w10 hall=>?_))))
 have hs:=hall.1
 have ry:RV g10.m w10 wv.1 y0:=by
  obtain ⟨a0,a1,a2,ha,hb,_⟩:=Ti (A:=fun g w=>∃ a0 a1 a2,(Value.tuple #[y0,Iz wv.2.1,Iz wv.2.2])=.tuple #[a0,a1,a2]∧RV g.m w wv.1 a0∧a1=Iz wv.2.1∧a2=Iz wv.2.2) 9 rfl hall
  injection ha with ha
  have h1:[y0,Iz wv.2.1,Iz wv.2.2]=[a0,a1,a2]:=congrArg Array.toList ha
  injection h1 with h0 _
  exact h0 ▸ hb
 have hlt:Lt g.m w' g10 w10:=hs.ch
 clear hall
 refine Y6 hlt.w (v:=y0) (Tx rfl) .plain rfl (Y6 hlt.w (v:=Iz wv.2.1) (Tx rfl) .plain rfl (Y6 hlt.w (v:=Iz wv.2.2) (Tx rfl) .plain rfl (Uo hlt.w (Zd ?_))))
 replace hfr:=hfr.ext hs
 replace mp:=mp.ext hs
 replace q8:=q8.ext hs
 replace q9:=q9.ext hs
 clear hlt hs rb hb1 hl1 hl2 qc
 refine Zf (Z7 (Zn (Iz wv.2.2) rfl rfl (Gf (.bool (wv.2.2 != (0:Int))) rfl rfl rfl rfl (Z4 ?_))))
 rcases Zt hf with ⟨hc2,hf⟩ | ⟨hc2,hf⟩
 ·refine G5 hc2 rfl (Z7 (Zn (Iz wv.2.2) rfl rfl (Zg (.slice none 0 0) rfl rfl (Zg (Iz wv.2.2) rfl rfl (Z4 (Gd ?_))))))
  obtain rfl:=sinj hf
  exact Yq rfl rfl rfl rfl ⟨_,hfr,_,_,rfl,Qi,rfl,mpI.back mp⟩
 refine G8 hc2 rfl (Zu (Zd ?_))
 obtain ⟨tv,htv,hf⟩:=Z3 hf
 obtain rfl:=sinj hf
 refine Z7 (Zo e0 rfl (Zn (Iz wv.2.1) rfl rfl (Zz (Tb pv i 2) (Fu rfl hpp) rfl (Zz (Ga (Tb pv i 2) 1) (Zc Mk rfl hpp) rfl (Z6 rfl (M8 (g:=g10) (y0:=wv.2.1) J3 sizeOf3 rfl mp hi1 rfl (Zj.2 rfl) fun g11 w11 hs11 mp11=>?_))))))
 rw [List.set_set] at mp11
 refine Z4 (Z7 ?_)
 replace hfr:=hfr.stp hs11
 replace q8:=q8.stp hs11
 replace q9:=q9.stp hs11
 replace ry:=ry.stp hs11
 refine Z6 rfl (Z9 (g:=g11) isAgg26 sizeOf26 e9 q9 fun vh rh=>(Zz (Ga p8 0) (Zc Dx e8 (PT.ptr q8)) rfl (Z6 rfl (Z9 (g:=g11) isAgg3 sizeOf3 rfl (Zm Ko.1 q8) fun v r=>?_))))
 obtain rfl:=Zj.1 r
 refine Zn y0 rfl rfl ?_
 have rd:RV g11.m w11 (⟨ch.Chain.Hooks,wv.1⟩:Design) (.agg (G3 [[Iz 0],[.slice none 0 0]] [(0,Iz ch.Chain.Hooks),(1,y0)]).flatten.toArray):=G2 rfl (Gm (rfl) (G6 (RV.cells ry)))
 generalize hgd:(Value.agg (G3 [[Iz 0],[.slice none 0 0]] [(0,Iz ch.Chain.Hooks),(1,y0)]).flatten.toArray)=vd at rd
 refine Zz vd (hgd ▸ Tf (vs:=[(0,Iz ch.Chain.Hooks),(1,y0)]) [[Iz 0],[.slice none 0 0]] lay_28w rfl rfl (.cons rfl (.cons rfl .nil)) ⟨⟨_,rfl,rfl⟩,⟨⟨_,rfl,G4 ry⟩,trivial⟩⟩) rfl (Z6 rfl (Zp (g:=g11) (vs:=[vh,vd]) en49 (.cons rfl (.cons rfl .nil)) (wk49 rh rd htv) fun g12 w12 v12 hx12 hv=>?_))
 obtain ⟨z0,z1,rfl,rz,rfl⟩:=hv
 refine Zz z0 (Zi rfl rfl) rfl (Zz (Iz tv.2) (Zi rfl rfl) rfl (Zg z0 rfl rfl (Zg (Iz tv.2) rfl rfl (Z4 (Gd ?_)))))
 exact Yq rfl rfl rfl rfl ⟨_,hfr.ext hx12,_,_,rfl,rz,rfl,mpI.back (mp11.ext hx12)⟩

def f9 (x0:FaultLoom) (x1:List Zv) (x2:Int):Option ((List Str) × Int):=
 jn (σ:=Unit) (fun _=>
  (f23 ((⟨x0⟩:Gl)) x1).bind fun n9=>
  Option.bind (α:=(List Str)) (
   lp (σ:=(List Str) × Int) (fun dF (lB,o0)=>
    bif (decide (o0 < x2)) then
     Option.bind (α:=(List Str)) (
      (Hd o0 ((n9).length:Int)).bind fun y44=>
      (idx n9 y44).bind fun zB=>
      (apnd 16 lB (([zB]:List Str))).bind fun eF=>
      some (eF)
      ) fun t5=>
     dF (t5,(w64 (o0 + (1:Int))))
    else
     some (lB)
    ) big ([],(0:Int))
   ) fun i6=>
  some (i6,(0:Int))
  ) fun k6=>
 (f22 x0 x1 x2).bind fun y9=>
 bif (y9 != (0 : Int)) then
  some ([],y9)
 else
  k6 ()
theorem en9:Enters prog 9:=enters_of func9 (by kernel_rfl) rfl
theorem wk9 {gI:Gh} {wI:World} {x0:FaultLoom} {x1:List Zv} {x2:Int} {up0:Value} (rp0:RV gI.m wI x0 up0) {up1:Value} (rp1:RV gI.m wI x1 up1) {r:(List Str) × Int} (h:f9 x0 x1 x2=some r):Fn prog 9 #[up0,up1,Iz (x2)] gI wI (fun m w v=>∃ y0 y1,v=.tuple #[y0,y1]∧RV m w (r.1) y0∧y1=Iz (r.2)):=by
 unfold f9 at h;refine fnE func9 rfl rfl fun g0 hm hfr=>?_;have rp0:=RVc hm rp0;have rp1:=RVc hm rp1;show E _ 38 none _ _ _ _ _;refine Z7 (Z6 rfl (Tq (g:=g0) rfl rp0 fun g1 w1 p1 hs q1=>?_));have hfr:=hfr.ext hs;have rp1:=rp1.ext hs;refine Zg (.slice none 0 0) rfl rfl (Zg (Iz (0)) rfl rfl (Z4 (Zq h (fun (s:Unit) e w=>∃ (g:Gh) ,Fr gI wI g w∧e 1=up1∧RV g.m w (x1:List Zv) up1∧e 2=Iz (x2)∧e 3=p1∧PT g.m w (x0:FaultLoom) p1∧e 6=.slice none 0 0∧RV g.m w ([]:List Str) (Value.slice none 0 0)) (fun X6 k6 hk6 h=>?_) ?_)))
 ·refine Z7 (Z6 rfl (Z9 (g := g1) isAgg30 sizeOf30 rfl q1 fun v7 r7 => (Zn up1 rfl rfl (Zn (Iz (x2)) rfl rfl ?_))))
  obtain ⟨y9,cG,h⟩:=Z3 h;refine Z6 rfl (Zp (g:=g1) (vs:=[v7,up1,Iz (x2)]) en22 (.cons rfl (.cons rfl (.cons rfl .nil))) (wk22 r7 rp1 cG) fun g8 w8_ v8 hs hr=>?_);have hfr:=hfr.ext hs;have rp1:=rp1.ext hs;have q1:=q1.ext hs;subst hr;refine Zg (Iz (y9)) rfl rfl (Z4 (Z7 (Zn (Iz (y9)) rfl rfl (Gf (.bool ((y9 != (0:Int)))) rfl rfl rfl rfl (Z4 ?_)))));rcases Zt h with ⟨vB,h⟩ | ⟨vB,h⟩
  ·refine G5 vB rfl (Z7 (Zn (Iz (y9)) rfl rfl (Zg (.slice none 0 0) rfl rfl (Zg (Iz (y9)) rfl rfl (Z4 (Gd (Gq ?_)))))))
   obtain rfl:=sinj h;exact Yq rfl rfl (rq (.slice none 0 0)) (rq (Iz (y9))) ⟨_,hfr,_,_,rfl,Qi,rfl⟩
  ·refine G8 vB rfl ?_
   exact Zu (Zd (hk6 () _ _ ⟨g8,hfr,rfl,rp1,rfl,rfl,q1,rfl,Qi⟩ h))
 ·rintro _ zG kH ⟨vC, hfr, yD, zD, aE, bE, iE, lE, mB⟩ h
  refine Z7 (Z6 rfl (Z9 (g:=vC) isAgg30 sizeOf30 bE iE fun bD rF=>?_));have sF:RV vC.m _ (⟨x0⟩:Gl) (.agg (G3 [[Iz 0,.slice none 0 0,Iz 0,.slice none 0 0]] [(0,bD)]).flatten.toArray):=G2 rfl (G6 (RV.cells rF));generalize vF:(Value.agg (G3 [[Iz 0,.slice none 0 0,Iz 0,.slice none 0 0]] [(0,bD)]).flatten.toArray)=tF at sF;refine Zz tF (vF ▸ Tf (vs:=[(0,bD)]) [[Iz 0,.slice none 0 0,Iz 0,.slice none 0 0]] Fd rfl rfl (.cons rfl .nil) ⟨⟨_,rfl,G4 rF⟩,trivial⟩) rfl (Zo yD rfl ?_);obtain ⟨n9,xF,h⟩:=Z3 h;refine Z6 rfl (Zp (g:=vC) (vs:=[tF,up1]) en23 (.cons rfl (.cons rfl .nil)) (wk23 sF zD xF) fun eG aH aB hs hr=>?_);have hfr:=hfr.ext hs;have mB:=mB.ext hs;have gG:=hr;refine Zg aB rfl rfl (Z4 ?_);obtain ⟨i6,hx,h⟩:=Z3 h;refine Gs (fun e w=>∃ (g:Gh) (v6:Value),Fr gI wI g w∧e 6=v6∧RV g.m w (i6:List Str) v6∧OS 1006 g w 9 (i6:List Str) v6) (fun Q' hQ=>?_) (fun cH lH hR=>?_)
  ·replace h := hx
   clear hx;refine Z7 (Zo aE rfl (Zn (Iz (0)) rfl rfl (Z4 (Zr (Wo h (fun (s:(List Str) × Int) e w=>∃ (g:Gh) (v6:Value),Fr gI wI g w∧e 6=v6∧RV g.m w (s.1:List Str) v6∧OS 1006 g w 9 (s.1:List Str) v6∧e 9=aB∧RV g.m w (n9:List Str) aB∧e 22=Iz (x2)∧e 23=Iz (s.2)) ⟨eG,(.slice none 0 0),hfr,lE,mB,OS.nil,rfl,gG,rfl,rfl⟩ (fun X34 dF yF=>?_))))));rintro ⟨lB,o0⟩ gH mH ⟨cD,mE,hfr,cC,l8,n8,nB,l5,oB,l9⟩ h;refine Z7 (Gf (.bool ((decide (o0 < x2)))) l9 oB rfl rfl (Z4 (Zf ?_)));rcases Zt h with ⟨yB,h⟩ | ⟨yB,h⟩
   ·refine G5 yB rfl (Zu (Zd ?_))
    obtain ⟨t5,hx,h⟩:=Z3 h;refine Gs (fun e w=>∃ (g:Gh) (v6:Value),Fr gI wI g w∧e 6=v6∧RV g.m w (t5:List Str) v6∧OS 1006 g w 9 (t5:List Str) v6∧e 9=aB∧RV g.m w (n9:List Str) aB∧e 22=Iz (x2)∧e 23=Iz (o0)) (fun Q' hQ=>?_) (fun jH nH hR=>?_)
    ·replace h := hx
     clear hx;refine Zr (Z7 (Zo l9 rfl (Zg (Iz (o0)) rfl rfl (Z4 (Za (Zo cC rfl (Zo nB rfl (Zn (Iz (o0)) rfl rfl (Zo nB rfl (Zz (Iz ((n9).length:Int)) (Tr underlying61 rfl l5) rfl ?_))))))))));obtain ⟨y44,aG,h⟩:=Z3 h;refine Zz (Iz (y44)) (Gx rfl rfl (congrArg (Option.map (Value.int .i64)) aG)) rfl ?_;obtain ⟨zB,lD,h⟩:=Z3 h;refine Zz (Tb aB y44 1) (Zh (α:=Str) underlying61 sizeOf9 rfl l5 rfl lD) rfl ?_;have iG:=Tp l5 lD;refine Z6 rfl (Z9 (g:=cD) isAgg9 sizeOf9 rfl iG fun oH jG=>?_);obtain rfl:=Qt.1 jG;refine Z6 rfl (Gb (g:=cD) 3034 (xs:=([zB]:List Str)) (vs:=[Str.v (zB)]) underlying61 sizeOf9 zeroValue9 rfl rfl (.cons rfl .nil) (RVs.cons (Qt.2 rfl) RVs.nil) rfl rfl fun kG pH qH hs o48 lG hxt hfl=>?_);have hfr:=hfr.stp hs;have l8:=l8.stp hs;have n8:=n8.stp hs rfl;have l5:=l5.stp hs;obtain ⟨eF,bG,h⟩:=Z3 h;refine Z6 rfl (Ql (g:=kG) (i:=1006) underlying61 Xf rfl rfl n8 l8 rfl lG bG fun mG sH uF hs o49 sG _=>?_);have hfr:=hfr.stp hs;have l5:=l5.stp hs;refine Zg uF rfl rfl (Zb (Tc ?_));obtain rfl:=sinj h;exact hQ _ _ ⟨mG,(uF),hfr,rfl,sG,o49,nB,l5,oB,l9⟩
    ·clear hx
     obtain ⟨xG,oE,hfr,rE,uE,vE,xE,yE,nD,oD⟩:=hR;refine Za (Gf (Iz ((w64 (o0 + (1:Int))))) oD rfl rfl rfl (Zn (Iz ((w64 (o0 + (1:Int))))) rfl rfl ?_));exact Z4 (yF (t5,(w64 (o0 + (1:Int)))) _ _ ⟨xG,(oE),hfr,rE,uE,vE,xE,yE,nD,rfl⟩ h)
   ·refine G8 yB rfl (Tu (Gy (Gy (G9 ?_))))
    obtain rfl:=sinj h;exact hQ _ _ ⟨cD,(mE),hfr,cC,l8,n8⟩
  ·clear hx
   obtain ⟨tH,uC,hfr,zE,cF,yG⟩:=hR;refine Z7 (Zo zE rfl (Zg uC rfl rfl (Zg (Iz (0)) rfl rfl (Z4 (Gd ?_)))));obtain rfl:=sinj h;exact Yq rfl rfl (rq uC) (rq (Iz (0))) ⟨_,hfr,_,_,rfl,cF,rfl⟩
def f11 (x0:FaultLoom) (x1:List Zv) (x2:Int):Option ((List Zy) × Int):=
 (f9 x0 x1 x2).bind fun y5=>
 jn (σ:=(List Zy)) (fun oB=>
  (f9 x0 ([]) x2).bind fun yB=>
  Option.bind (α:=(List Zy)) (
   (f25 (y5.1) (yB.1)).bind fun oE=>
   (oE ((List Zy)) (fun zB (o0,l5)=>
    (idx (y5.1) o0).bind fun vC=>
    (idx (vC).b l5).bind fun t5=>
    (apnd 24 zB (([(⟨o0,l5,(t5 == (120:UInt8))⟩:Zy)]:List Zy))).bind fun bD=>
    some (true,(bD))
    ) (oB)).bind fun cC=>
   some (cC)
   ) fun v8=>
  some (v8,(0:Int))
  ) fun kG=>
 bif (y5.2 != (0 : Int)) then
  some ([],y5.2)
 else
  kG (([]:List Zy))
theorem en11:Enters prog 11:=enters_of func11 (by kernel_rfl) rfl
theorem wk11 {gI:Gh} {wI:World} {x0:FaultLoom} {x1:List Zv} {x2:Int} {up0:Value} (rp0:RV gI.m wI x0 up0) {up1:Value} (rp1:RV gI.m wI x1 up1) {r:(List Zy) × Int} (h:f11 x0 x1 x2=some r):Fn prog 11 #[up0,up1,Iz (x2)] gI wI (fun m w v=>∃ y0 y1,v=.tuple #[y0,y1]∧RV m w (r.1) y0∧y1=Iz (r.2)):=by
 unfold f11 at h;refine Rn func11 rfl (Nat.le_of_ble_eq_true rfl) fun g0 hm hfr=>?_;have hmk:MkF g0 wI []:=MkF.start;have rp0:=RVc hm rp0;have rp1:=RVc hm rp1;show E _ 48 none _ _ _ _ _;refine Z7 (Z6 rfl (Tq (g:=g0) rfl rp0 fun g1 w1 p1 hs q1=>?_));have hfr:=hfr.ext hs;have hmk:=hmk.ext hs;have rp1:=rp1.ext hs;refine Z6 rfl (Gw (g:=g1) 2006 ([]:List Zy) zeroValue66 (fun m w=>⟨_,Tt,rfl⟩) fun g2 w2 p2 hs b2 cb=>?_);have hfr:=hfr.stp hs;have hmk:=hmk.stp hs;have rp1:=rp1.stp hs;have q1:=q1.stp hs;have n9:OSF 2006 60600 0 g2 w2 70 66 ([]:List Zy) p2:=cb.osf (by rfl);clear cb;refine Zg (Iz (0)) rfl rfl (Z4 (Z7 (Z6 rfl (Z9 (g:=g2) isAgg30 sizeOf30 rfl q1 fun v3 r3=>(Zn up1 rfl rfl (Zn (Iz (x2)) rfl rfl ?_))))));obtain ⟨y5,hy5,h⟩:=Z3 h;refine Z6 rfl (Zp (g:=g2) (vs:=[v3,up1,Iz (x2)]) en9 (.cons rfl (.cons rfl (.cons rfl .nil))) (wk9 r3 rp1 hy5) fun g4 w4_ v4 hs hr=>?_);have hfr:=hfr.ext hs;have hmk:=hmk.ext hs;have q1:=q1.ext hs;have n9:=n9.ext hs;have b2:=b2.ext hs;obtain ⟨cD,lJ,rfl,lD,rfl⟩:=hr;refine Zn (.tuple #[cD,Iz (y5.2)]) rfl rfl (Zz cD (Zi rfl rfl) rfl (Zz (Iz (y5.2)) (Zi rfl rfl) rfl (Z6 rfl (Gw (g:=g4) 2008 ([]:List Str) zeroValue61 (fun m w=>⟨_,Tt,rfl⟩) fun g6 w6 p6 hs b6 cb=>?_))));have hfr:=hfr.stp hs;have hmk:=hmk.stp hs;have q1:=q1.stp hs;have n9:=n9.stp hs rfl;have b2:=b2.stp hs rfl;have lD:=lD.stp hs;have mJ:OSF 2008 60800 0 g6 w6 9 61 ([]:List Str) p6:=cb.osf (by rfl);clear cb;refine Z6 rfl (Gk (g:=g6) (v:=cD) sizeOf61 rfl b6 rfl lD fun g7 w7 hs b7 cb=>?_);clear cb;have hfr:=hfr.stp hs;have hmk:=hmk.stp hs;have q1:=q1.stp hs;have n9:=n9.stp hs rfl;have b2:=b2.stp hs rfl;refine Zg (Iz (y5.2)) rfl rfl (Z4 (Vq h (fun (s:(List Zy)) e ds w=>∃ (g:Gh) ,Fr gI wI g w∧MkF g w ds∧e 2=Iz (x2)∧e 3=p1∧PT g.m w (x0:FaultLoom) p1∧e 6=p2∧OB 2006 g w 66 (s:List Zy) p2∧OSF 2006 60600 0 g w 70 66 (s) p2∧e 8=p6∧OB 2008 g w 61 (y5.1:List Str) p6) (fun X12 kG xG h=>?_) ?_))
 ·refine Z7 (Zn (Iz (y5.2)) rfl rfl (Gf (.bool ((y5.2 != (0 : Int)))) rfl rfl rfl rfl (Z4 ?_)))
  rcases Zt h with ⟨nD,h⟩ | ⟨nD,h⟩
  ·refine G5 nD rfl (Z7 (Zn (Iz (y5.2)) rfl rfl (Z6 rfl (Gk (g := g7) (v := .slice none 0 0) sizeOf66 rfl b2 rfl Qi fun yH zH hs b14 cb => ?_))))
   have qI:OSF 2006 60600 0 yH zH 70 66 ([]:List Zy) p2:=cb.osfr (rfl) OS.nil;clear cb;have hfr:=hfr.stp hs;have hmk:=hmk.stp hs;refine Zg (Iz (y5.2)) rfl rfl (Z4 (Gd (Gq (S8 (.inr rfl) hmk fun bK w15 hs=>?_))));have hfr:=hfr.stp hs;have b14:=b14.stp hs rfl;obtain rfl:=sinj h;obtain ⟨ad16,cv16,hp16,yG,cr16⟩:=T6 isAgg66 sizeOf66 b14;exact J9 rfl rfl ((rq p2).trans hp16) yG (rq (Iz (y5.2))) ⟨_,hfr,_,_,rfl,cr16,rfl⟩
  ·refine G8 nD rfl ?_
   exact Zu (Zd (xG (([]:List Zy)) _ _ _ ⟨g7,hfr,hmk,rfl,rfl,q1,rfl,b2,n9,rfl,b7⟩ h))
 ·rintro oB nJ zD cK ⟨lG, hfr, hmk, uF, vF, xF, vB, aB, u6_0_17, aE, l9⟩ h
  refine Z7 (Z6 rfl (Z9 (g:=lG) isAgg30 sizeOf30 vF xF fun aI bI=>(Zo uF rfl ?_)));obtain ⟨yB,hy20,h⟩:=Z3 h;refine Z6 rfl (Zp (g:=lG) (vs:=[aI,.slice none 0 0,Iz (x2)]) en9 (.cons rfl (.cons rfl (.cons rfl .nil))) (wk9 bI Qi hy20) fun mG oJ dK hs hr=>?_);have hfr:=hfr.ext hs;have hmk:=hmk.ext hs;have u6_0_17:=u6_0_17.ext hs;have aB:=aB.ext hs;have l9:=l9.ext hs;obtain ⟨lB,sI,rfl,yF,rfl⟩:=hr;refine Zn (.tuple #[lB,Iz (yB.2)]) rfl rfl (Zz lB (Zi rfl rfl) rfl (Zz (Iz (yB.2)) (Zi rfl rfl) rfl (Zg lB rfl rfl (Zg (Iz (yB.2)) rfl rfl (Z4 ?_)))));obtain ⟨v8,hx,h⟩:=Z3 h;refine Hp (fun e ds w=>∃ (g:Gh) ,Fr gI wI g w∧MkF g w ds∧e 6=p2∧OB 2006 g w 66 (v8:List Zy) p2∧OSF 2006 60600 0 g w 70 66 (v8) p2) (fun Q' hQ=>?_) (fun jJ dI pJ hR=>?_)
  ·replace h := hx
   clear hx;refine Z7 (Z6 rfl (T3 (g:=mG) isAgg61 sizeOf61 aE l9 fun iI jI=>(Zn lB rfl rfl ?_)));obtain ⟨oE,zG,h⟩:=Z3 h;refine Z6 rfl (Zp (g:=mG) (vs:=[iI,lB]) en25 (.cons rfl (.cons rfl .nil)) (wk25 jI yF zG) fun lK qJ kI hs hr=>?_);have hfr:=hfr.ext hs;have hmk:=hmk.ext hs;have u6_0_17:=u6_0_17.ext hs;have aB:=aB.ext hs;have l9:=l9.ext hs;have sG:=hr;refine Z4 (Zr ?_);have hB0:=hfr.size;have hmk0:=hmk;obtain ⟨cC,hφ,h⟩:=Z3 h;refine Yu (σ:=((List Zy))) (s0:=(oB)) 10 rfl (fun _=>0) [] (fun (s:(List Zy)) (g:Gh) (w:World)=>Fr gI wI g w∧MkF g w zD∧OB 2006 g w 66 (s:List Zy) p2∧OSF 2006 60600 0 g w 70 66 (s) p2∧OB 2008 g w 61 (y5.1:List Str) p6∧ItV prog (RA2 (α:=Int) (β:=Int)) oE kI g.m w) rfl sG hφ (fun _ _ _ _=>rfl) rfl Lf rfl (fun _ _ _ _ _ hx hR=>by obtain ⟨hfr,hmk,z2,z3,z4,z5⟩:=hR; exact ⟨hfr.ist hx hB0,hmk.ist hx,z2.ist hx,z3.ist hx,z4.ist hx,z5.ist hx⟩) (fun _ _ _ _ _ hx hR=>by obtain ⟨hfr,hmk,z2,z3,z4,z5⟩:=hR; exact ⟨hfr.stp hx,hmk.stp hx,z2.stp hx rfl,z3.stp hx rfl,z4.stp hx rfl,z5.stp hx⟩) ⟨hfr,hmk,aB,u6_0_17,l9,sG⟩ (fun _ h=>by cases h) ?_ ?_
   ·intro kJ lI s x b s2 oD aH vs hsz h hR hrec_0 iE hrd
    obtain ⟨zB,hse⟩:∃ y,y=s:=⟨s,rfl⟩;subst hse;obtain ⟨hfr,hmk,l8,u6_0_129,g8,i6⟩:=hR;obtain ⟨o0,l5⟩:=x;obtain ⟨rE,uE,rfl,lE,mE⟩:=Ml hrd;obtain rfl:rE=Iz (o0):=Zj.1 lE;obtain rfl:uE=Iz (l5):=Zj.1 mE;have n8:=RFr.refl oD aH;refine Z7 (Zg (Iz (o0)) rfl rfl (Z4 (Za (Zg (Iz (l5)) rfl rfl (Z4 ?_)))));obtain ⟨vE,hbr,hs,hrN⟩:=Yz hrec_0 iE;refine ⟨vE,hbr,?_⟩;have hfr:=hfr.stp hs;have hmk:=hmk.stp hs;have n8:=n8.stp hs;have u6_0_129:=u6_0_129.stp hs rfl;have l8:=l8.stp hs rfl;have g8:=g8.stp hs rfl;have i6:=i6.stp hs;have hrec_0:=hrN;clear hbr hs hrN;refine Zr (Dr (x:=.tmp 6) isAgg66 sizeOf66 l8 u6_0_129 fun cH yD o131 aG=>(Ju (x:=.tmp 8) isAgg61 sizeOf61 g8 fun xE yE bG=>?_));obtain ⟨vC,bE,h⟩:=Z3 h;have gH:=Tp yE bE;refine Zs (x:=.tmp 39) isAgg9 sizeOf9 gH fun rJ jH cG=>?_;obtain rfl:=Qt.1 jH;obtain ⟨t5,eG,h⟩:=Z3 h;have zE:RV oD.m vE (⟨o0,l5,(t5 == (120:UInt8))⟩:Zy) (.agg (G3 [[Iz 0],[Iz 0],[.bool false]] [(0,Iz (o0)),(1,Iz (l5)),(2,.bool ((t5 == (120:UInt8))))]).flatten.toArray):=G2 rfl (Gm (rfl) (Gm (rfl) (G6 (rfl))));generalize gG:(Value.agg (G3 [[Iz 0],[Iz 0],[.bool false]] [(0,Iz (o0)),(1,Iz (l5)),(2,.bool ((t5 == (120:UInt8))))]).flatten.toArray)=cF at zE;refine Tz (g:=oD) (n:=12) [(11,(fun v g w=>RV g.m w ([(⟨o0,l5,(t5 == (120:UInt8))⟩:Zy)]:List Zy) v∧OS 3045 g w 70 ([(⟨o0,l5,(t5 == (120:UInt8))⟩:Zy)]:List Zy) v∧Qr v))] [0,1,2,3,4,5,6,7,8,9,10,11] rfl mixed (by kernel_rfl) (⟨fun _=>Q9 K0 (Q9 U2 (Kz _)),trivial⟩) (Tv (c:=cH) rfl rfl .plain (fun _ _ h=>⟨h.ch,fun b hb _=>h.below.block b hb⟩) aG vB (Z2 (Iz (o0)) rfl rfl (Zk rfl) (Z2 (Iz (l5)) rfl rfl (Zk rfl) (Tv (c:=xE) rfl rfl .plain (fun _ _ h=>⟨h.ch,fun b hb _=>h.below.block b hb⟩) bG aE (Z2 (Iz (o0)) rfl rfl (Zk rfl) (Z2 (Tb xE o0 1) rfl rfl (Zh (α:=Str) underlying61 sizeOf9 rfl yE rfl bE) (Tv (c:=Str.v (vC)) rfl rfl .plain (fun _ _ h=>h.ch) cG rfl (Z2 (Iz (l5)) rfl rfl (Zk rfl) (Z2 (.int .u8 (UInt8.toNat (t5))) rfl rfl (Jb underlying9 rfl rfl eG) (Z2 (.bool ((t5 == (120:UInt8)))) rfl rfl (Bg rfl rfl rfl) (Z2 cF rfl rfl (gG ▸ Tf (vs:=[(0,Iz (o0)),(1,Iz (l5)),(2,.bool ((t5 == (120:UInt8))))]) [[Iz 0],[Iz 0],[.bool false]] lay_70 rfl rfl (.cons rfl (.cons rfl (.cons rfl .nil))) ⟨⟨_,rfl,rfl⟩,⟨⟨_,rfl,rfl⟩,⟨⟨_,rfl,rfl⟩,trivial⟩⟩⟩) (Ks (φ:=fun v g w=>RV g.m w ([(⟨o0,l5,(t5 == (120:UInt8))⟩:Zy)]:List Zy) v∧OS 3045 g w 70 ([(⟨o0,l5,(t5 == (120:UInt8))⟩:Zy)]:List Zy) v∧Qr v) rfl rfl .plain (fun g w hd=>Gb (g:=g) 3045 (xs:=([(⟨o0,l5,(t5 == (120:UInt8))⟩:Zy)]:List Zy)) (vs:=[cF]) underlying66 sizeOf70 zeroValue70 rfl rfl (.cons rfl .nil) (RVs.cons (zE.ext hd.1) RVs.nil) rfl rfl fun g' w' v hs o r hxt hfl=>⟨g',hxt,r,o,hfl⟩) (fun mB hv=>?_)))))))))))));clear hv;refine Jz fun kH sJ hall=>?_;have hs:=hall.1;have hfr:=hfr.ext hs;have hmk:=hmk.ext hs;have n8:=n8.ext hs;have hrec_0:=hrec_0.ext hs;have l8:=l8.ext hs;have g8:=g8.ext hs;have i6:=i6.ext hs;have yD:=yD.ext hs;have o131:=o131.ext hs;have lH:=(Ti (A:=fun g w=>RV g.m w ([(⟨o0,l5,(t5 == (120:UInt8))⟩:Zy)]:List Zy) mB∧OS 3045 g w 70 ([(⟨o0,l5,(t5 == (120:UInt8))⟩:Zy)]:List Zy) mB∧Qr mB) 11 rfl hall).1;have o158:=(Ti (A:=fun g w=>RV g.m w ([(⟨o0,l5,(t5 == (120:UInt8))⟩:Zy)]:List Zy) mB∧OS 3045 g w 70 ([(⟨o0,l5,(t5 == (120:UInt8))⟩:Zy)]:List Zy) mB∧Qr mB) 11 rfl hall).2.1;clear hs hall;obtain ⟨bD,iG,h⟩:=Z3 h;refine Z6 rfl (Ql (g:=kH) (i:=60600) underlying66 E4 rfl rfl o131 yD rfl lH iG fun mH vJ nH hs o159 dF _=>?_);have hfr:=hfr.stp hs;have hmk:=hmk.stp hs;have n8:=n8.stp hs;have hrec_0:=hrec_0.stp hs rfl;have l8:=l8.stp hs rfl;have g8:=g8.stp hs rfl;have i6:=i6.stp hs;refine Z6 rfl (Gk (g:=mH) (v:=nH) sizeOf66 vB l8 rfl dF fun oH pH hs b161 cb=>?_);have eF:OSF 2006 60600 0 oH pH 70 66 (bD:List Zy) p2:=cb.osfr (W3 dF) (o159.stp hs rfl);clear cb;have hfr:=hfr.stp hs;have hmk:=hmk.stp hs;have n8:=n8.stp hs;have hrec_0:=hrec_0.stp hs rfl;have g8:=g8.stp hs rfl;have i6:=i6.stp hs;refine Zb (Tc ?_);obtain ⟨rfl,rfl⟩:=Kr h;exact ⟨_,n8,⟨hfr,hmk,b161,eF,g8,i6⟩,hrec_0,rfl,rfl⟩
   ·intro qH xJ ds163 hsz hR hds
    obtain ⟨hfr,hmk,rF,u6_0_163,mI,xH⟩:=hR;obtain ⟨D,hdse,hD,hDb⟩:=hds.1 rfl;subst hdse;replace hmk:=MkF.push hmk0 hmk hD hDb;clear hD hDb hds;revert hmk;generalize ({ target:=.collected D,args:=#[] } :: zD:List Deferred)=nI;intro hmk;refine ⟨fun _=>?_,fun k c hs _=>absurd hs (Nat.succ_ne_zero k).symm⟩;refine Tc ?_;obtain rfl:=sinj h;exact hQ _ _ _ ⟨qH,hfr,hmk,vB,rF,u6_0_163⟩
  ·clear hx
   obtain ⟨sF,hfr,hmk,nB,uC,u6_0_164⟩:=hR;refine Z7 (Z6 rfl (Di (g:=sF) isAgg66 sizeOf66 nB uC u6_0_164 fun sH tF o165=>(Z6 rfl (Gk (g:=sF) (v:=sH) sizeOf66 nB uC rfl tF fun tH uH hs b166 cb=>?_))));have pI:OSF 2006 60600 0 tH uH 70 66 (v8:List Zy) p2:=cb.osfr (W3 tF) (o165.stp hs rfl);clear cb;have hfr:=hfr.stp hs;have hmk:=hmk.stp hs;refine Zg (Iz (0)) rfl rfl (Z4 (Gd (S8 (.inr rfl) hmk fun zJ aK hs=>?_)));have hfr:=hfr.stp hs;have b166:=b166.stp hs rfl;obtain rfl:=sinj h;obtain ⟨ad168,cv168,hp168,jG,cr168⟩:=T6 isAgg66 sizeOf66 b166;exact J9 rfl rfl ((show _=p2 from nB).trans hp168) jG (show _=Iz (0) from rfl) ⟨_,hfr,_,_,rfl,cr168,rfl⟩
def f12 :Option (Bool):=
 (f26).bind fun y2=>
 (f9 y2 (([(⟨(2:Int),0,(1:Int),0,false⟩:Zv)]:List Zv)) ((2:Int))).bind fun y9=>
 (f26).bind fun y11=>
 (f27 y11 ((⟨(1:Int),(1:Int),(2:Int),0,false⟩:Zv)) ((⟨(5:Int),0,0,(4:Int),false⟩:Zv))).bind fun o0=>
 Option.bind (α:=Bool) (
  bif (y9.2 == (0 : Int)) then
   bif (o0.2.2 == (0 : Int)) then
    bif (((y9.1).length : Int) == (2 : Int)) then
     (idx (y9.1) (0:Int)).bind fun nB=>
     bif ((nB).b == ((⟨[120, 46, 46, 46, 46, 46]⟩ : Str)).b) then
      (idx (y9.1) (1:Int)).bind fun oB=>
      bif ((oB).b == ((⟨[46, 46, 120, 46, 120, 46]⟩ : Str)).b) then
       bif (o0.1 == (1 : Int)) then
        some ((o0.2.1 == (2:Int)))
       else
        some (false)
      else
       some (false)
     else
      some (false)
    else
     some (false)
   else
    some (false)
  else
   some (false)
  ) fun mB=>
 some (mB)
theorem en12:Enters prog 12:=enters_of func12 (by kernel_rfl) rfl
theorem wk12 {gI:Gh} {wI:World}   {r:Bool} (h:f12 =some r):Fn prog 12 #[] gI wI (fun _ _ v=>v=.bool (r)):=by
 unfold f12 at h;refine fnE func12 rfl rfl fun g0 hm hfr=>?_;show E _ 54 none _ _ _ _ _;refine Z7 (Zg (.bool false) rfl rfl (Z4 (Z7 ?_)));obtain ⟨y2,hy2,h⟩:=Z3 h;refine Z6 rfl (Zp (g:=g0) (vs:=[]) en26 .nil (wk26  hy2) fun g1 w1_ v1 hs hr=>?_);have hfr:=hfr.ext hs;have r1:=hr;refine Z6 rfl (Gw (g:=g1) 2001 (⟨⟨0,[]⟩,⟨0,[]⟩⟩:FaultLoom) zeroValue30 (fun m w=>⟨_,(Gi (Gi Zx Tt) (Gi Zx Tt)),rfl⟩) fun g3 w3 p3 hs b3 cb=>?_);have hfr:=hfr.stp hs;have r1:=r1.stp hs;have zE:OSF 2001 60101 1 g3 w3 3 30 ([]:List Int) p3:=cb.osf (by rfl);have cF:OSF 2001 60103 3 g3 w3 3 30 ([]:List Int) p3:=cb.osf (by rfl);clear cb;refine Z6 rfl (Gk (g:=g3) (v:=v1) sizeOf30 rfl b3 rfl r1 fun g4 w4 hs b4 cb=>?_);clear cb;have hfr:=hfr.stp hs;refine Z4 (Z7 (Z6 rfl (T3 (g:=g4) isAgg30 sizeOf30 rfl b4 fun v5 r5=>?_)));have r6:RV g4.m w4 (⟨(2:Int),0,(1:Int),0,false⟩:Zv) (.agg (G3 [[Iz 0],[Iz 0],[Iz 0],[Iz 0],[.bool false]] [(0,Iz (2)),(2,Iz (1))]).flatten.toArray):=G2 rfl (Gm (rfl) (Gm (Zx) (Gm (rfl) (Gm (Zx) (G6 (Wv))))));generalize aE:(Value.agg (G3 [[Iz 0],[Iz 0],[Iz 0],[Iz 0],[.bool false]] [(0,Iz (2)),(2,Iz (1))]).flatten.toArray)=v6 at r6;refine Zz v6 (aE ▸ Tf (vs:=[(0,Iz (2)),(2,Iz (1))]) [[Iz 0],[Iz 0],[Iz 0],[Iz 0],[.bool false]] Si rfl rfl (.cons rfl (.cons rfl .nil)) ⟨⟨_,rfl,rfl⟩,⟨⟨_,rfl,rfl⟩,trivial⟩⟩) rfl (Z6 rfl (Gb (g:=g4) 3011 (xs:=([(⟨(2:Int),0,(1:Int),0,false⟩:Zv)]:List Zv)) (vs:=[v6]) underlying65 sizeOf34 zeroValue34 rfl rfl (.cons rfl .nil) (RVs.cons r6 RVs.nil) rfl rfl fun g7 w7 v7 hs o7 r7 hxt hfl=>?_));have hfr:=hfr.stp hs;have r5:=r5.stp hs;obtain ⟨y9,bE,h⟩:=Z3 h;refine Z6 rfl (Zp (g:=g7) (vs:=[v5,v7,Iz (2)]) en9 (.cons rfl (.cons rfl (.cons rfl .nil))) (wk9 r5 r7 bE) fun g8 w8_ v8 hs hr=>?_);have hfr:=hfr.ext hs;obtain ⟨n8,dF,rfl,l5,rfl⟩:=hr;refine Zn (.tuple #[n8,Iz (y9.2)]) rfl rfl (Zz n8 (Zi rfl rfl) rfl (Zz (Iz (y9.2)) (Zi rfl rfl) rfl (Zg n8 rfl rfl (Zg (Iz (y9.2)) rfl rfl (Z4 (Z7 ?_))))));obtain ⟨y11,nD,h⟩:=Z3 h;refine Z6 rfl (Zp (g:=g8) (vs:=[]) en26 .nil (wk26  nD) fun vB yB iE hs hr=>?_);have hfr:=hfr.ext hs;have l5:=l5.ext hs;have lE:=hr;have vC:RV vB.m yB (⟨(1:Int),(1:Int),(2:Int),0,false⟩:Zv) (.agg (G3 [[Iz 0],[Iz 0],[Iz 0],[Iz 0],[.bool false]] [(0,Iz (1)),(1,Iz (1)),(2,Iz (2))]).flatten.toArray):=G2 rfl (Gm (rfl) (Gm (rfl) (Gm (rfl) (Gm (Zx) (G6 (Wv))))));generalize oD:(Value.agg (G3 [[Iz 0],[Iz 0],[Iz 0],[Iz 0],[.bool false]] [(0,Iz (1)),(1,Iz (1)),(2,Iz (2))]).flatten.toArray)=bD at vC;refine Zz bD (oD ▸ Tf (vs:=[(0,Iz (1)),(1,Iz (1)),(2,Iz (2))]) [[Iz 0],[Iz 0],[Iz 0],[Iz 0],[.bool false]] Si rfl rfl (.cons rfl (.cons rfl (.cons rfl .nil))) ⟨⟨_,rfl,rfl⟩,⟨⟨_,rfl,rfl⟩,⟨⟨_,rfl,rfl⟩,trivial⟩⟩⟩) rfl ?_;have cD:RV vB.m yB (⟨(5:Int),0,0,(4:Int),false⟩:Zv) (.agg (G3 [[Iz 0],[Iz 0],[Iz 0],[Iz 0],[.bool false]] [(0,Iz (5)),(3,Iz (4))]).flatten.toArray):=G2 rfl (Gm (rfl) (Gm (Zx) (Gm (Zx) (Gm (rfl) (G6 (Wv))))));generalize yD:(Value.agg (G3 [[Iz 0],[Iz 0],[Iz 0],[Iz 0],[.bool false]] [(0,Iz (5)),(3,Iz (4))]).flatten.toArray)=lD at cD;refine Zz lD (yD ▸ Tf (vs:=[(0,Iz (5)),(3,Iz (4))]) [[Iz 0],[Iz 0],[Iz 0],[Iz 0],[.bool false]] Si rfl rfl (.cons rfl (.cons rfl .nil)) ⟨⟨_,rfl,rfl⟩,⟨⟨_,rfl,rfl⟩,trivial⟩⟩) rfl ?_;obtain ⟨o0,zD,h⟩:=Z3 h;refine Z6 rfl (Zp (g:=vB) (vs:=[iE,bD,lD]) en27 (.cons rfl (.cons rfl (.cons rfl .nil))) (wk27 lE vC cD zD) fun lB eF sF hs hr=>?_);have hfr:=hfr.ext hs;have l5:=l5.ext hs;obtain ⟨vE,xE,yE,rfl,rfl,rfl,rfl⟩:=hr;refine Zn (.tuple #[Iz (o0.1),Iz (o0.2.1),Iz (o0.2.2)]) rfl rfl (Zz (Iz (o0.1)) (Zi rfl rfl) rfl (Zz (Iz (o0.2.1)) (Zi rfl rfl) rfl (Zz (Iz (o0.2.2)) (Zi rfl rfl) rfl (Zg (Iz (o0.1)) rfl rfl (Zg (Iz (o0.2.1)) rfl rfl (Zg (Iz (o0.2.2)) rfl rfl (Z4 ?_)))))));obtain ⟨mB,hx,h⟩:=Z3 h;refine Gs (fun e w=>∃ (g:Gh) ,Fr gI wI g w∧e 0=.bool (mB)) (fun Q' hQ=>?_) (fun rF tF hR=>?_)
 ·replace h := hx
  clear hx;refine Za (Zn (Iz (y9.2)) rfl rfl (Gf (.bool ((y9.2 == (0:Int)))) rfl rfl rfl rfl (Zn (.bool ((y9.2 == (0:Int)))) rfl rfl ?_)));rcases Zt h with ⟨l9,h⟩ | ⟨l9,h⟩
  ·refine Z0 (Iz (o0.2.2)) (Zk rfl) rfl rfl l9 rfl (Z0 (.bool ((o0.2.2 == (0 : Int)))) (Gx rfl rfl rfl) rfl rfl l9 rfl (Zz (.bool ((o0.2.2 == (0 : Int)))) (Zl (b := (y9.2 == (0 : Int))) rfl (Te l9 rfl)) rfl (Zn (.bool ((o0.2.2 == (0 : Int)))) rfl rfl ?_)))
   rcases Zt h with ⟨t5,h⟩ | ⟨t5,h⟩
   ·refine Z0 n8 (Zk rfl) rfl rfl t5 rfl (Z0 (Iz ((y9.1).length : Int)) (Tr underlying61 rfl l5) rfl rfl t5 rfl (Z0 (.bool ((((y9.1).length : Int) == (2 : Int)))) (Gx rfl rfl rfl) rfl rfl t5 rfl (Zz (.bool ((((y9.1).length : Int) == (2 : Int)))) (Zl (b := (o0.2.2 == (0 : Int))) rfl (Te t5 rfl)) rfl (Zn (.bool ((((y9.1).length : Int) == (2 : Int)))) rfl rfl ?_))))
    rcases Zt h with ⟨i6,h⟩ | ⟨i6,h⟩
    ·refine Z0 n8 (Zk rfl) rfl rfl i6 rfl ?_
     obtain ⟨nB,zB,h⟩:=Z3 h;refine Z0 (Tb n8 (0:Int) 1) (Zh (α:=Str) underlying61 sizeOf9 rfl l5 rfl zB) rfl rfl i6 rfl ?_;have mE:=Tp l5 zB;refine Ze (.yes2 rfl rfl i6) rfl (Z9 (g:=lB) isAgg9 sizeOf9 rfl mE fun uF oE=>?_);obtain rfl:=Qt.1 oE;refine Z0 (.bool (((nB).b == ((⟨[120,46,46,46,46,46]⟩:Str)).b))) (Xb rfl rfl rfl) rfl rfl i6 rfl (Zz (.bool (((nB).b == ((⟨[120,46,46,46,46,46]⟩:Str)).b))) (Zl (b:=(((y9.1).length:Int) == (2:Int))) rfl (Te i6 rfl)) rfl (Zn (.bool (((nB).b == ((⟨[120,46,46,46,46,46]⟩:Str)).b))) rfl rfl ?_));rcases Zt h with ⟨l8,h⟩ | ⟨l8,h⟩
     ·refine Z0 n8 (Zk rfl) rfl rfl l8 rfl ?_
      obtain ⟨oB,cC,h⟩:=Z3 h;refine Z0 (Tb n8 (1:Int) 1) (Zh (α:=Str) underlying61 sizeOf9 rfl l5 rfl cC) rfl rfl l8 rfl ?_;have rE:=Tp l5 cC;refine Ze (.yes2 rfl rfl l8) rfl (Z9 (g:=lB) isAgg9 sizeOf9 rfl rE fun vF uE=>?_);obtain rfl:=Qt.1 uE;refine Z0 (.bool (((oB).b == ((⟨[46,46,120,46,120,46]⟩:Str)).b))) (Xb rfl rfl rfl) rfl rfl l8 rfl (Zz (.bool (((oB).b == ((⟨[46,46,120,46,120,46]⟩:Str)).b))) (Zl (b:=((nB).b == ((⟨[120,46,46,46,46,46]⟩:Str)).b)) rfl (Te l8 rfl)) rfl (Zn (.bool (((oB).b == ((⟨[46,46,120,46,120,46]⟩:Str)).b))) rfl rfl ?_));rcases Zt h with ⟨n9,h⟩ | ⟨n9,h⟩
      ·refine Z0 (Iz (o0.1)) (Zk rfl) rfl rfl n9 rfl (Z0 (.bool ((o0.1 == (1 : Int)))) (Gx rfl rfl rfl) rfl rfl n9 rfl (Zz (.bool ((o0.1 == (1 : Int)))) (Zl (b := ((oB).b == ((⟨[46, 46, 120, 46, 120, 46]⟩ : Str)).b)) rfl (Te n9 rfl)) rfl (Zn (.bool ((o0.1 == (1 : Int)))) rfl rfl ?_)))
       rcases Zt h with ⟨aB,h⟩ | ⟨aB,h⟩
       ·refine Z0 (Iz (o0.2.1)) (Zk rfl) rfl rfl aB rfl (Z0 (.bool ((o0.2.1 == (2 : Int)))) (Gx rfl rfl rfl) rfl rfl aB rfl (Zz (.bool ((o0.2.1 == (2 : Int)))) (Zl (b := (o0.1 == (1 : Int))) rfl (Te aB rfl)) rfl (Zg (.bool ((o0.2.1 == (2 : Int)))) rfl rfl (Zb ?_))))
        obtain rfl:=sinj h;exact hQ _ _ ⟨lB,hfr,rfl⟩
       ·refine Z1 rfl rfl aB rfl rfl (Z1 rfl rfl aB rfl rfl (Zz (.bool false) (Zl (b := (o0.1 == (1 : Int))) rfl (Td aB rfl)) rfl (Zg (.bool false) rfl rfl (Zb ?_))))
        obtain rfl:=sinj h;exact hQ _ _ ⟨lB,hfr,rfl⟩
      ·refine Z1 rfl rfl n9 rfl rfl (Z1 rfl rfl n9 rfl rfl (Zz (.bool false) (Zl (b := ((oB).b == ((⟨[46, 46, 120, 46, 120, 46]⟩ : Str)).b)) rfl (Td n9 rfl)) rfl (Qs 4 rfl (Zg (.bool false) rfl rfl (Zb ?_)))))
       obtain rfl:=sinj h;exact hQ _ _ ⟨lB,hfr,rfl⟩
     ·refine Z1 rfl rfl l8 rfl rfl ?_
      iterate 3 refine Z1 rfl rfl l8 rfl rfl ?_
      refine Zz (.bool false) (Zl (b:=((nB).b == ((⟨[120,46,46,46,46,46]⟩:Str)).b)) rfl (Td l8 rfl)) rfl (Qs 8 rfl (Zg (.bool false) rfl rfl (Zb ?_)));obtain rfl:=sinj h;exact hQ _ _ ⟨lB,hfr,rfl⟩
    ·refine Z1 rfl rfl i6 rfl rfl ?_
     iterate 3 refine Z1 rfl rfl i6 rfl rfl ?_
     refine Zz (.bool false) (Zl (b:=(((y9.1).length:Int) == (2:Int))) rfl (Td i6 rfl)) rfl (Qs 14 rfl (Zg (.bool false) rfl rfl (Zb ?_)));obtain rfl:=sinj h;exact hQ _ _ ⟨lB,hfr,rfl⟩
   ·refine Z1 rfl rfl t5 rfl rfl (Z1 rfl rfl t5 rfl rfl (Z1 rfl rfl t5 rfl rfl (Zz (.bool false) (Zl (b := (o0.2.2 == (0 : Int))) rfl (Td t5 rfl)) rfl (Qs 20 rfl (Zg (.bool false) rfl rfl (Zb ?_))))))
    obtain rfl:=sinj h;exact hQ _ _ ⟨lB,hfr,rfl⟩
  ·refine Z1 rfl rfl l9 rfl rfl (Z1 rfl rfl l9 rfl rfl (Zz (.bool false) (Zl (b := (y9.2 == (0 : Int))) rfl (Td l9 rfl)) rfl (Qs 25 rfl (Zg (.bool false) rfl rfl (Zb ?_)))))
   obtain rfl:=sinj h;exact hQ _ _ ⟨lB,hfr,rfl⟩
 ·clear hx
  obtain ⟨xF,hfr,uC⟩:=hR;refine Gd ?_;obtain rfl:=sinj h;exact Ta rfl rfl (show _=.bool (mB) from uC) ⟨_,hfr,rfl⟩
def f36 (x0:Gc):Option (Bool):=
 (f37 ((x0).Chain)).bind fun y5=>
 some ((y5 != (0:Int)))
theorem en36:Enters prog 36:=enters_of func36 (by kernel_rfl) rfl
theorem wk36 {gI:Gh} {wI:World} {x0:Gc} {up0:Value} (rp0:RV gI.m wI x0 up0) {r:Bool} (h:f36 x0=some r):Fn prog 36 #[up0] gI wI (fun _ _ v=>v=.bool (r)):=by
 unfold f36 at h;refine fnE func36 rfl rfl fun g0 hm hfr=>?_;have rp0:=RVc hm rp0;show E _ 7 none _ _ _ _ _;refine Z7 (Z6 rfl (Tq (g:=g0) rfl rp0 fun g1 w1 p1 hs q1=>?_));have hfr:=hfr.ext hs;refine Zg (.bool false) rfl rfl (Z4 (Z7 (Zz (Ga p1 1) (Zc V1 rfl (PT.ptr q1)) rfl ?_)));have q2:=Zm (Jm).1 q1;refine Z6 rfl (Z9 (g:=g1) isAgg46 sizeOf46 rfl q2 fun v3 r3=>?_);obtain ⟨y5,hy5,h⟩:=Z3 h;refine Z6 rfl (Zp (g:=g1) (vs:=[v3]) en37 (.cons rfl .nil) (wk37 r3 hy5) fun g4 w4_ v4 hs hr=>?_);have hfr:=hfr.ext hs;subst hr;refine Gf (.bool ((y5 != (0:Int)))) rfl rfl rfl rfl (Zg (.bool ((y5 != (0:Int)))) rfl rfl (Z4 (Gd ?_)));obtain rfl:=sinj h;exact Ta rfl rfl (rq (.bool ((y5 != (0:Int))))) ⟨_,hfr,rfl⟩
def f19 (x0:Gj):Option (Int):=
 jn (σ:=Unit) (fun _=>
  (f38 ((x0).Ties) ((fun a0=>f39 a0))).bind fun nD=>
  (f40 ((x0).Chains) ((fun a0=>f41 a0))).bind fun oD=>
  jn (σ:=Unit) (fun _=>
   some ((0:Int))
   ) fun yD=>
  Option.bind (α:=Bool) (
   (f42 nD).bind fun n9=>
   bif (!n9) then
    some (true)
   else
    (f42 oD).bind fun l9=>
    bif (!l9) then
     some (true)
    else
     (f43 ((x0).Ties) ((fun a0=>f34 a0))).bind fun aB=>
     bif aB then
      some (true)
     else
      (f44 ((x0).Chains) ((fun a0=>f36 a0))).bind fun vB=>
      some (vB)
   ) fun l5=>
  bif l5 then
   some ((2:Int))
  else
   yD ()
  ) fun k14=>
 Option.bind (α:=Bool) (
  bif (decide ((((x0).Ties).length : Int) > (8 : Int))) then
   some (true)
  else
   some ((decide ((((x0).Chains).length:Int) > (8:Int))))
  ) fun n8=>
 bif n8 then
  some ((5:Int))
 else
  k14 ()
theorem en19:Enters prog 19:=enters_of func19 (by kernel_rfl) rfl
theorem wk19 {gI:Gh} {wI:World} {x0:Gj} {up0:Value} (rp0:RV gI.m wI x0 up0) {r:Int} (h:f19 x0=some r):Fn prog 19 #[up0] gI wI (fun _ _ v=>v=Iz (r)):=by
 unfold f19 at h;refine fnE func19 rfl rfl fun g0 hm hfr=>?_;have rp0:=RVc hm rp0;show E _ 43 none _ _ _ _ _;refine Z7 (Z6 rfl (Tq (g:=g0) rfl rp0 fun g1 w1 p1 hs q1=>?_));have hfr:=hfr.ext hs;refine Zg (Iz (0)) rfl rfl (Z4 (Zq h (fun (s:Unit) e w=>∃ (g:Gh) ,Fr gI wI g w∧e 1=p1∧PT g.m w (x0:Gj) p1) (fun X14 k14 iE h=>?_) ?_))
 ·obtain ⟨n8, hx, h⟩ := Z3 h
  refine Gs (fun e w=>∃ (g:Gh) ,Fr gI wI g w∧e 1=p1∧PT g.m w (x0:Gj) p1∧e 16=.bool (n8)) (fun Q' hQ=>?_) (fun sG nH hR=>?_)
  ·replace h := hx
   clear hx;refine Za (Zz (Ga p1 0) (Zc V2 rfl (PT.ptr q1)) rfl ?_);have zE:=Zm (W0).1 q1;refine Z6 rfl (Z9 (g:=g1) isAgg36 sizeOf36 rfl zE fun oH cF=>(Zz (Iz (((x0).Ties).length:Int)) (Tr underlying36 rfl cF) rfl (Zz (.bool ((decide ((((x0).Ties).length:Int) > (8:Int))))) (Gx rfl rfl rfl) rfl (Zz (.bool ((decide ((((x0).Ties).length:Int) > (8:Int))))) (Zk rfl) rfl ?_))));rcases Zt h with ⟨t5,h⟩ | ⟨t5,h⟩
   ·refine Z1 rfl rfl t5 rfl rfl ?_
    iterate 3 refine Z1 rfl rfl t5 rfl rfl ?_
    refine Zz (.bool true) (Zl (b:=(decide ((((x0).Ties).length:Int) > (8:Int)))) rfl (Te t5 rfl)) rfl (Zb ?_);obtain rfl:=sinj h;exact hQ _ _ ⟨g1,hfr,rfl,q1,rfl⟩
   ·refine Z0 (Ga p1 1) (Zc Un rfl (PT.ptr q1)) rfl rfl t5 rfl ?_
    have dF:=Zm (Wz).1 q1;refine Ze (.yes2 rfl rfl t5) rfl (Z9 (g:=g1) isAgg37 sizeOf37 rfl dF fun pH eF=>(Z0 (Iz (((x0).Chains).length:Int)) (Tr underlying37 rfl eF) rfl rfl t5 rfl (Z0 (.bool ((decide ((((x0).Chains).length:Int) > (8:Int))))) (Gx rfl rfl rfl) rfl rfl t5 rfl (Zz (.bool ((decide ((((x0).Chains).length:Int) > (8:Int))))) (Zl (b:=(decide ((((x0).Ties).length:Int) > (8:Int)))) rfl (Td t5 rfl)) rfl (Zb ?_)))));obtain rfl:=sinj h;exact hQ _ _ ⟨g1,hfr,rfl,q1,rfl⟩
  ·clear hx
   obtain ⟨rF,hfr,cD,lD,nB⟩:=hR;rcases Zt h with ⟨oB,h⟩ | ⟨oB,h⟩
   ·refine Tj (Eq.trans (show ev _ _ = .bool (n8) from nB) (congrArg Value.bool oB)) (Z7 (Zg (Iz (5)) rfl rfl (Z4 (Gd (Gq ?_)))))
    obtain rfl:=sinj h;exact Ta rfl rfl (rq (Iz (5))) ⟨_,hfr,rfl⟩
   ·refine Gz (Eq.trans (show ev _ _ = .bool (n8) from nB) (congrArg Value.bool oB)) ?_
    exact Zu (Zd (iE () _ _ ⟨rF,hfr,cD,lD⟩ h))
 ·rintro _ xG qH ⟨zD, hfr, v8, o0⟩ h
  refine Z7 (Zg (.func (.func 34) #[] #[]) rfl rfl (Z4 (Z7 (Zg (.func (.func 36) #[] #[]) rfl rfl (Z4 (Z7 (Zz (Ga p1 0) (Zc V2 v8 (PT.ptr o0)) rfl ?_)))))));have sF:=Zm (W0).1 o0;refine Z6 rfl (Z9 (g:=zD) isAgg36 sizeOf36 rfl sF fun tF uF=>?_);obtain ⟨nD,lE,h⟩:=Z3 h;refine Z6 rfl (Zp (g:=zD) (vs:=[tF,.func (.func 39) #[] #[]]) en38 (.cons rfl (.cons rfl .nil)) (wk38 uF ⟨39,#[],#[],rfl,en39,fun g' w' hch a0 b0 r hu0 hr=>by exact Fn.mono (wk39 hu0  hr) fun _ _ _ h=>Qt.2 h⟩ lE) fun aE yG yB hs hr=>?_);have hfr:=hfr.ext hs;have o0:=o0.ext hs;have zB:=hr;refine Zg yB rfl rfl (Z4 (Z7 (Zz (Ga p1 1) (Zc Un v8 (PT.ptr o0)) rfl ?_)));have vF:=Zm (Wz).1 o0;refine Z6 rfl (Z9 (g:=aE) isAgg37 sizeOf37 rfl vF fun xF yF=>?_);obtain ⟨oD,mE,h⟩:=Z3 h;refine Z6 rfl (Zp (g:=aE) (vs:=[xF,.func (.func 41) #[] #[]]) en40 (.cons rfl (.cons rfl .nil)) (wk40 yF ⟨41,#[],#[],rfl,en41,fun g' w' hch a0 b0 r hu0 hr=>by exact Fn.mono (wk41 hu0  hr) fun _ _ _ h=>Qt.2 h⟩ mE) fun aG zG cC hs hr=>?_);have hfr:=hfr.ext hs;have o0:=o0.ext hs;have zB:=zB.ext hs;have uC:=hr;refine Zg cC rfl rfl (Z4 (Zq h (fun (s:Unit) e w=>∃ (g:Gh) ,Fr gI wI g w) (fun X69 yD oE h=>?_) ?_))
  ·obtain ⟨l5, hx, h⟩ := Z3 h
   refine Gs (fun e w=>∃ (g:Gh) ,Fr gI wI g w∧e 42=.bool (l5)) (fun Q' hQ=>?_) (fun lG aH hR=>?_)
   ·replace h := hx
    clear hx;refine Za (Zn yB rfl rfl ?_);obtain ⟨n9,rE,h⟩:=Z3 h;refine Z6 rfl (Zp (g:=aG) (vs:=[yB]) en42 (.cons rfl .nil) (wk42 zB rE) fun bE cH sH hs hr=>?_);have hfr:=hfr.ext hs;have o0:=o0.ext hs;have uC:=uC.ext hs;subst hr;refine Zz (.bool (!n9)) (Wq rfl) rfl (Zn (.bool (!n9)) rfl rfl ?_);rcases Zt h with ⟨i6,h⟩ | ⟨i6,h⟩
    ·refine Z1 rfl rfl i6 rfl rfl (Z1 rfl rfl i6 rfl rfl (Z1 rfl rfl i6 rfl rfl (Zz (.bool true) (Zl (b := (!n9)) rfl (Te i6 rfl)) rfl (Qs 12 rfl (Zb ?_)))))
     obtain rfl:=sinj h;exact hQ _ _ ⟨bE,hfr,rfl⟩
    ·refine Z0 cC (Zk rfl) rfl rfl i6 rfl ?_
     obtain ⟨l9,uE,h⟩:=Z3 h;refine Ze (.yes2 rfl rfl i6) rfl (Zp (g:=bE) (vs:=[cC]) en42 (.cons rfl .nil) (wk42 uC uE) fun vC gH tH hs hr=>?_);have hfr:=hfr.ext hs;have o0:=o0.ext hs;subst hr;refine Z0 (.bool (!l9)) (Wq rfl) rfl rfl i6 rfl (Zz (.bool (!l9)) (Zl (b:=(!n9)) rfl (Td i6 rfl)) rfl (Zn (.bool (!l9)) rfl rfl ?_));rcases Zt h with ⟨g8,h⟩ | ⟨g8,h⟩
     ·refine Z1 rfl rfl g8 rfl rfl ?_
      iterate 3 refine Z1 rfl rfl g8 rfl rfl ?_
      refine Zz (.bool true) (Zl (b:=(!l9)) rfl (Te g8 rfl)) rfl (Qs 6 rfl (Zb ?_));obtain rfl:=sinj h;exact hQ _ _ ⟨vC,hfr,rfl⟩
     ·refine Z0 (Ga p1 0) (Zc V2 v8 (PT.ptr o0)) rfl rfl g8 rfl ?_
      have bG:=Zm (W0).1 o0;refine Ze (.yes2 rfl rfl g8) rfl (Z9 (g:=vC) isAgg36 sizeOf36 rfl bG fun cG eG=>(Z0 (.func (.func 34) #[] #[]) (Zk rfl) rfl rfl g8 rfl ?_));obtain ⟨aB,vE,h⟩:=Z3 h;refine Ze (.yes2 rfl rfl g8) rfl (Zp (g:=vC) (vs:=[cG,.func (.func 34) #[] #[]]) en43 (.cons rfl (.cons rfl .nil)) (wk43 eG ⟨34,#[],#[],rfl,en34,fun g' w' hch a0 b0 r hu0 hr=>by exact Fn.mono (wk34 hu0  hr) fun _ _ _ h=>Qm.2 h⟩ vE) fun bD jH uH hs hr=>?_);have hfr:=hfr.ext hs;have o0:=o0.ext hs;subst hr;refine Zz (.bool (aB)) (Zl (b:=(!l9)) rfl (Td g8 rfl)) rfl (Zn (.bool (aB)) rfl rfl ?_);rcases Zt h with ⟨l8,h⟩ | ⟨l8,h⟩
      ·refine Z1 rfl rfl l8 rfl rfl ?_
       iterate 3 refine Z1 rfl rfl l8 rfl rfl ?_
       refine Zz (.bool true) (Zl (b:=aB) rfl (Te l8 rfl)) rfl (Zb ?_);obtain rfl:=sinj h;exact hQ _ _ ⟨bD,hfr,rfl⟩
      ·refine Z0 (Ga p1 1) (Zc Un v8 (PT.ptr o0)) rfl rfl l8 rfl ?_
       have gG:=Zm (Wz).1 o0;refine Ze (.yes2 rfl rfl l8) rfl (Z9 (g:=bD) isAgg37 sizeOf37 rfl gG fun iG jG=>(Z0 (.func (.func 36) #[] #[]) (Zk rfl) rfl rfl l8 rfl ?_));obtain ⟨vB,xE,h⟩:=Z3 h;refine Ze (.yes2 rfl rfl l8) rfl (Zp (g:=bD) (vs:=[iG,.func (.func 36) #[] #[]]) en44 (.cons rfl (.cons rfl .nil)) (wk44 jG ⟨36,#[],#[],rfl,en36,fun g' w' hch a0 b0 r hu0 hr=>by exact Fn.mono (wk36 hu0  hr) fun _ _ _ h=>Qm.2 h⟩ xE) fun kG kH xH hs hr=>?_);have hfr:=hfr.ext hs;subst hr;refine Zz (.bool (vB)) (Zl (b:=aB) rfl (Td l8 rfl)) rfl (Zb ?_);obtain rfl:=sinj h;exact hQ _ _ ⟨kG,hfr,rfl⟩
   ·clear hx
    obtain ⟨yE,hfr,lB⟩:=hR;rcases Zt h with ⟨mB,h⟩ | ⟨mB,h⟩
    ·refine Tj (Eq.trans (show ev _ _ = .bool (l5) from lB) (congrArg Value.bool mB)) (Z7 (Zg (Iz (2)) rfl rfl (Z4 (Gd (Gq ?_)))))
     obtain rfl:=sinj h;exact Ta rfl rfl (rq (Iz (2))) ⟨_,hfr,rfl⟩
    ·refine Gz (Eq.trans (show ev _ _ = .bool (l5) from lB) (congrArg Value.bool mB)) ?_
     exact Zu (Zd (oE () _ _ ⟨yE,hfr⟩ h))
  ·rintro _ mG lH ⟨mH, hfr⟩ h
   refine Z7 (Zg (Iz (0)) rfl rfl (Z4 (Gd ?_)));obtain rfl:=sinj h;exact Ta rfl rfl (rq (Iz (0))) ⟨_,hfr,rfl⟩
theorem en99:Enters prog 99:=enters_of func99 (by kernel_rfl) rfl
theorem it_ok:ItOk prog 99 0:=fun n h0 h1 w hT=>Tryz.strconv_Itoa n h0 h1 w (Nz (by kernel_rfl) hT)
abbrev Hu:=AnyV 3 9
theorem R6 (a:Addr) (w:World):(Instr.fieldAt 148 (.pointer (some a)) 0).run prog w=.ok (.pointer (some (a.add 0))) w:=by simp [Instr.fieldAt,run_underlying underlying148,Instr.sureAddr,fieldPlace,Result.andThen]
theorem Nt (a:Addr) (w:World):(Instr.fieldAt 148 (.pointer (some a)) 1).run prog w=.ok (.pointer (some (a.add 2))) w:=by simp [Instr.fieldAt,run_underlying underlying148,Instr.sureAddr,fieldPlace,Result.andThen]
theorem wcc {i : Nat} {g : Gh} {w : World} {b : Nat} {a v : Value} {n : Int} (hb : HBm i g w b (.cells #[a, v, Iz n] 148 (0, 0))) (ha : a = .pointer none ∨ a = .pointer (some ⟨b, 0, none⟩)) :
  Calls prog 131 #[.pointer (some ⟨b,0,none⟩)] w fun r w'=>∃ u,r=.returned u∧Stp i g w g w'∧HBm i g w' b (.cells #[.pointer (some ⟨b,0,none⟩),v,Iz n] 148 (0,0))∧∀ k,k ≠ b→w'.heap[k]?=w.heap[k]?:=by
 obtain ⟨jt,hj,hjs⟩:=Pf
 have hsh:=hb.shape
 refine Wd func131 rfl (Nat.le_of_ble_eq_true rfl) ?_
 show E _ 20 none _ _ _ _ _
 refine Z7 (Zn (.pointer (some ⟨b,0,none⟩)) rfl rfl (Zz (.pointer (some ⟨b,0,none⟩)) (Tk rfl) rfl (Zz (.pointer (some ⟨b,0,none⟩)) (show Pur _ _ _ (Ga (.pointer (some ⟨b,0,none⟩)) 0) from Zc Cn rfl ⟨b,0,rfl⟩) rfl (Z6 rfl (Xz isAgg144 rfl (hb.cell.trans rfl) ?_)))))
 rcases ha with ha | ha
 ·subst ha
  refine Zz (.bool true) (V0 (u1:=.pointer none) (u2:=.pointer none) (.inl rfl) rfl rfl ⟨_,rfl⟩ ⟨_,rfl⟩ (fun w=>by simpa using run_eql_pointer_nil (P:=prog) w 144 none underlying144)) rfl (Z4 (Tj rfl (Za (Zn (.pointer (some ⟨b,0,none⟩)) rfl rfl (Zn (.pointer (some ⟨b,0,none⟩)) rfl rfl ?_)))))
  refine D8 (v:=.pointer (some ⟨b,0,none⟩)) (w':=w) .plain (fun _ h=>by cases h) rfl (by
   have:=Lib.run_to_unsafe w ⟨b,0,none⟩ underlying144 underlying232 hj (by rw [hjs]; decide) hsh (by show 0 < 3; omega)
   show (Sem.run _ (execOp _ _) _)=_
   simp only [execOp,Sem.run_bind]
   rw [show ev _ (Operand.tmp 8)=Value.pointer (some ⟨b,0,none⟩) from rfl,this]
   rfl) ?_
  refine Zz (.pointer (some ⟨b,0,none⟩)) (Pk func147 (by kernel_rfl) (by kernel_rfl) (by kernel_rfl) (ex:=Extern.AbiNoEscape.same) (by kernel_rfl) (.cons rfl .nil) (fun _=>rfl)) rfl ?_
  refine D8 (v:=.pointer (some ⟨b,0,none⟩)) (w':=w) .plain (fun _ h=>by cases h) rfl (by
   have:=Lib.run_from_unsafe w ⟨b,0,none⟩ underlying232 underlying144 hj hsh (by kernel_rfl)
   show (Sem.run _ (execOp _ _) _)=_
   simp only [execOp,Sem.run_bind]
   rw [show ev _ (Operand.tmp 10)=Value.pointer (some ⟨b,0,none⟩) from rfl,this]
   rfl) ?_
  refine Zz (.pointer (some ⟨b,0,none⟩)) (Tk rfl) rfl (Zz (.pointer (some ⟨b,0,none⟩)) (show Pur _ _ _ (Ga (.pointer (some ⟨b,0,none⟩)) 0) from Zc Cn rfl ⟨b,0,rfl⟩) rfl (Z6 rfl (Dy (c:=.pointer (some ⟨b,0,none⟩)) sizeOf144 rfl rfl rfl (by simp) hb fun w1 hs hb1 hk=>(Zb ?_))))
  exact H9 rfl rfl ⟨hs,hb1,hk⟩
 ·subst ha
  refine Zz (.bool false) (V0 (u1:=.pointer (some ⟨b,0,none⟩)) (u2:=.pointer none) (.inl rfl) rfl rfl ⟨_,rfl⟩ ⟨_,rfl⟩ (fun w=>by simpa using run_eql_pointer_nil (P:=prog) w 144 (some ⟨b,0,none⟩) underlying144)) rfl (Z4 (Gz rfl (Z7 (Zn (.pointer (some ⟨b,0,none⟩)) rfl rfl (Zz (.pointer (some ⟨b,0,none⟩)) (Tk rfl) rfl (Zz (.pointer (some ⟨b,0,none⟩)) (show Pur _ _ _ (Ga (.pointer (some ⟨b,0,none⟩)) 0) from Zc Cn rfl ⟨b,0,rfl⟩) rfl (Z6 rfl (Xz isAgg144 rfl (hb.cell.trans rfl) (Zn (.pointer (some ⟨b,0,none⟩)) rfl rfl (Zz (.bool false) (V0 (.inr rfl) rfl rfl ⟨_,rfl⟩ ⟨_,rfl⟩ (fun w=>Lib.run_neq_ptr_same w ⟨b,0,none⟩ underlying144 hj)) rfl (Z4 (Gz rfl (Zu ?_)))))))))))))
  exact H9 rfl rfl ⟨U8 _ _ _,hb,fun _ _=>rfl⟩
theorem wwb {i : Nat} {g : Gh} {w : World} {c : UInt8} {s : List UInt8 × Int} {r : List UInt8} {p : Value} (h : WR i g w 5 148 s p) (hr : apnd 1 s.1 [c] = some r) :
  Calls prog 97 #[p,.int .u8 c.toNat] w fun q w'=>∃ v,q=.returned v∧∃ g',Stp i g w g' w'∧WR i g' w' 5 148 (r,s.2) p:=by
 obtain ⟨b,a,v,rfl,hb,hz,hne,ha⟩:=h
 refine Wd func97 rfl (Nat.le_of_ble_eq_true rfl) ?_
 show E _ 17 none _ _ _ _ _
 refine Z7 (Zg .nilIface rfl rfl (Z4 (Z7 (Zn (.pointer (some ⟨b,0,none⟩)) rfl rfl (Z6 rfl (Wg (vs:=[.pointer (some ⟨b,0,none⟩)]) en131 (.cons rfl .nil) (wcc hb ha) fun u w1 h1=>?_))))))
 obtain ⟨hs1,hb1,hk1⟩:=h1
 have hz1:=hz.other hne hk1
 refine Z4 (Z7 (Zn (.pointer (some ⟨b,0,none⟩)) rfl rfl (Zn (.pointer (some ⟨b,0,none⟩)) rfl rfl (Zz (.pointer (some ⟨b,0,none⟩)) (Tk rfl) rfl (Zz (.pointer (some ⟨b,1,none⟩)) (show Pur _ _ _ (Ga (.pointer (some ⟨b,0,none⟩)) 1) from Zc Xc rfl ⟨b,0,rfl⟩) rfl (Z6 rfl (Xz isAgg50 rfl (hb1.cell.trans rfl) (Zn (.int .u8 c.toNat) rfl rfl (Z6 rfl (Gb (g:=g) 1 (xs:=[c]) (vs:=[.int .u8 c.toNat]) underlying50 sizeOf5 zeroValue5 rfl rfl (.cons rfl .nil) (RVs.cons (Qz.2 rfl) RVs.nil) rfl rfl fun g3 w3 v3 _ _ r3 hxt _=>?_))))))))))
 have hb3:=hb1.ext hxt
 refine Z6 rfl (Pz (g:=g3) underlying50 Cr rfl (hz1.ext hxt) rfl r3 hr fun g4 w4 v4 hs4 z4 ap4=>?_)
 obtain ⟨hb4,hne4⟩:=hb3.apart ap4 hne
 refine Zz (.pointer (some ⟨b,0,none⟩)) (Tk rfl) rfl (Zz (.pointer (some ⟨b,1,none⟩)) (show Pur _ _ _ (Ga (.pointer (some ⟨b,0,none⟩)) 1) from Zc Xc rfl ⟨b,0,rfl⟩) rfl (Z6 rfl (Dy (c:=v4) sizeOf50 rfl rfl z4.one (by simp) hb4 fun w5 hs5 hb5 hk5=>(Z4 (Z7 (Zg .nilIface rfl rfl (Z4 ?_)))))))
 exact Gd (Ta rfl rfl (rq .nilIface) ⟨g4,(hs1.trans (hxt.stp.trans (hs4.trans hs5))),b,_,v4,rfl,hb5,z4.other hne4 hk5,hne4,.inr rfl⟩)
theorem en98:Enters prog 98:=enters_of func98 (by kernel_rfl) rfl
theorem wws {i : Nat} {g : Gh} {w : World} {c : Str} {s : List UInt8 × Int} {r : List UInt8} {p : Value} (h : WR i g w 5 148 s p) (hr : apnd 1 s.1 c.b = some r) :
  Calls prog 98 #[p,c.v] w fun q w'=>∃ v,q=.returned v∧∃ g',Stp i g w g' w'∧WR i g' w' 5 148 (r,s.2) p:=by
 obtain ⟨b,a,v,rfl,hb,hz,hne,ha⟩:=h
 refine Wd func98 rfl (Nat.le_of_ble_eq_true rfl) ?_
 show E _ 19 none _ _ _ _ _
 refine Z7 (Zg (Iz 0) rfl rfl (Zg .nilIface rfl rfl (Z4 (Z7 (Zn (.pointer (some ⟨b,0,none⟩)) rfl rfl (Z6 rfl (Wg (vs:=[.pointer (some ⟨b,0,none⟩)]) en131 (.cons rfl .nil) (wcc hb ha) fun u w1 h1=>?_)))))))
 obtain ⟨hs1,hb1,hk1⟩:=h1
 have hz1:=hz.other hne hk1
 refine Z4 (Z7 (Zn (.pointer (some ⟨b,0,none⟩)) rfl rfl (Zn (.pointer (some ⟨b,0,none⟩)) rfl rfl (Zz (.pointer (some ⟨b,0,none⟩)) (Tk rfl) rfl (Zz (.pointer (some ⟨b,1,none⟩)) (show Pur _ _ _ (Ga (.pointer (some ⟨b,0,none⟩)) 1) from Zc Xc rfl ⟨b,0,rfl⟩) rfl (Z6 rfl (Xz isAgg50 rfl (hb1.cell.trans rfl) (Zn c.v rfl rfl (Z6 rfl (P6 (g:=g) underlying50 underlying9 Cr rfl hz1 rfl hr fun g4 w4 v4 hs4 z4 ap4=>?_))))))))))
 obtain ⟨hb4,hne4⟩:=hb1.apart ap4 hne
 refine Zz (.pointer (some ⟨b,0,none⟩)) (Tk rfl) rfl (Zz (.pointer (some ⟨b,1,none⟩)) (show Pur _ _ _ (Ga (.pointer (some ⟨b,0,none⟩)) 1) from Zc Xc rfl ⟨b,0,rfl⟩) rfl (Z6 rfl (Dy (c:=v4) sizeOf50 rfl rfl z4.one (by simp) hb4 fun w5 hs5 hb5 hk5=>(Z4 (Z7 (Zn c.v rfl rfl (Zz (Iz (c.b.length:Int)) (Bh underlying9 rfl) rfl (Zg (Iz (c.b.length:Int)) rfl rfl (Zg .nilIface rfl rfl (Z4 ?_))))))))))
 exact Gd (Yq rfl rfl rfl rfl ⟨g4,(hs1.trans (hs4.trans hs5)),b,_,v4,rfl,hb5,z4.other hne4 hk5,hne4,.inr rfl⟩)
theorem wst {i : Nat} {g : Gh} {w : World} {s : List UInt8 × Int} {p : Value} (h : WR i g w 5 148 s p) (h0 : s.1 ≠ []) :
  Calls prog 62 #[p] w fun q w'=>∃ v,q=.returned v∧v=Str.v ⟨s.1⟩∧(∀ bk,p=.pointer (some ⟨bk,0,none⟩)→w'.heap[bk]?=w.heap[bk]?)∧∃ g',Stp i g w g' w'∧WR i g' w' 5 148 s p:=by
 obtain ⟨b,a,v,rfl,hb,hz,hne,ha⟩:=h
 obtain ⟨sa,c,rfl,hc,_⟩:=hz.hdr
 have hcn:c ≠ 0:=by
  have : 0 < s.1.length := by cases hs : s.1 with
   | nil=>exact absurd hs h0
   | cons _ _=>simp
  omega
 have hl:=L_ldW isAgg50 hb (o:=1) (c:=.slice sa s.1.length c) rfl
 refine Wd func62 rfl (Nat.le_of_ble_eq_true rfl) ?_
 show E _ 14 none _ _ _ _ _
 refine Z7 (Zg (Str.v ⟨[]⟩) rfl rfl (Z4 (Zf (Tz (g:=g) (n:=10) [] [0,1,2,3,4,5,6,7,8,9] rfl Y7 (by kernel_rfl) trivial (J5 (c:=.pointer (some ⟨b,0,none⟩)) rfl rfl .plain (fun _ _ hd=>Zk rfl) (J5 (c:=.pointer (some ⟨b,0,none⟩)) rfl rfl .plain (fun _ _ hd=>Tk rfl) (J5 (c:=.pointer (some ⟨b,1,none⟩)) rfl rfl .plain (fun _ _ hd=>show Pur _ _ _ (Ga (.pointer (some ⟨b,0,none⟩)) 1) from Zc Xc rfl ⟨b,0,rfl⟩) (Tv (c:=.slice sa s.1.length c) rfl rfl .plain (fun _ _ h=>⟨h.ch,fun b hb _=>h.below.block b hb⟩) (hl _) rfl (J5 (c:=.pointer sa) rfl rfl .plain (fun _ _ hd=>Bs (a:=sa) (n:=s.1.length) (c:=c) rfl (.inl hcn)) (J5 (c:=.pointer (some ⟨b,0,none⟩)) rfl rfl .plain (fun _ _ hd=>Zk rfl) (J5 (c:=.pointer (some ⟨b,0,none⟩)) rfl rfl .plain (fun _ _ hd=>Tk rfl) (J5 (c:=.pointer (some ⟨b,1,none⟩)) rfl rfl .plain (fun _ _ hd=>show Pur _ _ _ (Ga (.pointer (some ⟨b,0,none⟩)) 1) from Zc Xc rfl ⟨b,0,rfl⟩) (Tv (c:=.slice sa s.1.length c) rfl rfl .plain (fun _ _ h=>⟨h.ch,fun b hb _=>h.below.block b hb⟩) (hl _) rfl (J5 (c:=Iz (s.1.length:Int)) rfl rfl .plain (fun _ _ hd=>Nq (v:=.slice sa s.1.length c) underlying50 rfl ⟨_,_,rfl⟩) (Jz fun g1 w1 hall=>?_)))))))))))))))
 have hs:=hall.1
 refine Z6 rfl (B2 (g:=g1) (i:=i) (et:=5) rfl underlying189 (by kernel_rfl) h0 rfl rfl (hz.ext hs) fun w2 hs2 z2 ap2=>?_)
 obtain ⟨hb2,hne2⟩:=(hb.ext hs).apart ap2 hne
 refine Zg (Str.v ⟨s.1⟩) rfl rfl (Z4 ?_)
 exact Gd (Ta rfl rfl (rq (Str.v ⟨s.1⟩)) ⟨rfl,fun bk hbk=>by injection hbk with hbk; injection hbk with hbk; injection hbk with hbk _; subst hbk; exact hb2.2.2.trans hb.2.2.symm,g1,hs.stp.trans hs2,b,a,_,rfl,hb2,z2,hne2,ha⟩)
def anyS : Hu → Option Str
 | .str s=>some s
 | .int n=>Ih n
def f59 (x0:List UInt8 × Int) (x1:List Hu):Option (List UInt8 × Int):=
 Option.bind (α:=List UInt8) (lp (σ:=List UInt8 × Int) (fun k s=>bif decide (s.2 < (x1.length:Int)) then (idx x1 s.2).bind fun a=>Option.bind (α:=List UInt8) (bif decide (s.2 > (0:Int)) then apnd 1 s.1 [32] else some s.1) fun b=>(anyS a).bind fun t=>(apnd 1 b t.b).bind fun c=>k (c,w64 (s.2 + (1:Int))) else some s.1) big (x0.1,0)) fun b=>
 (apnd 1 b [10]).bind fun c=>some (c,w64 (x0.2 + (1:Int)))
theorem en59:Enters prog 59:=enters_of func59 (by kernel_rfl) rfl
theorem wk59 {i : Nat} {g : Gh} {w : World} {s s' : List UInt8 × Int} {ws : List Hu} {p u : Value} (hT : Vb 0 g.m w) (h : WR i g w 5 148 s p) (hu : RV g.m w ws u) (hf : f59 s ws = some s') :
  Calls prog 59 #[p,u] w fun q w'=>∃ v,q=.returned v∧∃ g',Stp i g w g' w'∧WR i g' w' 5 148 s' p:=by
 unfold f59 at hf
 obtain ⟨b0,hl,hf⟩:=Z3 hf
 obtain ⟨bk,rfl⟩:∃ b,p=.pointer (some ⟨b,0,none⟩):=by obtain ⟨b,_,_,hh,_⟩:=h; exact ⟨b,hh⟩
 refine Wd func59 rfl (Nat.le_of_ble_eq_true rfl) ?_
 show E _ 51 none _ _ _ _ _
 refine Hp (fun e ds w'=>ds=[]∧e 0=.pointer (some ⟨bk,0,none⟩)∧∃ g',Stp i g w g' w'∧WR i g' w' 5 148 (b0,s.2) (.pointer (some ⟨bk,0,none⟩))) (fun Q' hQ=>?_) (fun e ds w' hR=>?_)
 ·refine Z7 (Zn u rfl rfl (Zz (Iz (ws.length : Int)) (Tr (v := u) underlying150 rfl hu) rfl (Zn (Iz 0) rfl rfl (Z4 (Zr (Co hl (fun (t : List UInt8 × Int) e ds w' => ds = [] ∧ e 0 = .pointer (some ⟨bk, 0, none⟩) ∧ e 8 = u ∧ e 9 = Iz (ws.length : Int) ∧ e 10 = Iz t.2 ∧ ∃ g', Stp i g w g' w' ∧ WR i g' w' 5 148 (t.1, s.2) (.pointer (some ⟨bk, 0, none⟩))) ⟨rfl, rfl, rfl, rfl, rfl, g, U8 _ _ _, h⟩ (fun X rec hrec => ?_)))))))
  rintro ⟨xs,n⟩ e ds w1 ⟨rfl,e0,e8,e9,e10,g1,hs,hwr⟩ hk
  refine Z7 (Gf (.bool (decide (n < (ws.length:Int)))) e10 e9 rfl rfl (Z4 ?_))
  rcases Zt hk with ⟨hc,hk⟩ | ⟨hc,hk⟩
  ·refine Zf (G5 hc rfl (Zu (Zd ?_)))
   obtain ⟨a,ha,hk⟩:=Z3 hk
   obtain ⟨bb,hbb,hk⟩:=Z3 hk
   obtain ⟨tx,htx,hk⟩:=Z3 hk
   obtain ⟨cc,hcc,hk⟩:=Z3 hk
   have hu1:=hu.ch hs.ch
   have hT1:=hT.ch hs.ch
   refine Hp (fun e ds w'=>ds=[]∧e 0=.pointer (some ⟨bk,0,none⟩)∧e 8=u∧e 9=Iz (ws.length:Int)∧e 10=Iz n∧∃ g',Stp i g w g' w'∧WR i g' w' 5 148 (cc,s.2) (.pointer (some ⟨bk,0,none⟩))) (fun Q' hQ=>?_) (fun e2 ds2 w2 hR=>?_)
   ·refine Zr (Z7 (Zn (Iz n) e10 rfl (Zz (Tb u n 1) (Zh (α := Hu) underlying150 sizeOf20 e8 hu1 e10 ha) rfl (Z6 rfl (Z9 (g := g1) isAgg20 sizeOf20 rfl (Tp hu1 ha) fun va ra => ?_)))))
    obtain rfl:=H0.1 ra
    refine Zg (Iz n) rfl rfl (Zg a.v rfl rfl (Z4 (Hp (fun e ds w'=>ds=[]∧e 0=.pointer (some ⟨bk,0,none⟩)∧e 5=a.v∧e 8=u∧e 9=Iz (ws.length:Int)∧e 10=Iz n∧∃ g',Stp i g w g' w'∧WR i g' w' 5 148 (bb,s.2) (.pointer (some ⟨bk,0,none⟩))) (fun Q2 hQ2=>?_) (fun e3 ds3 w3 hR3=>?_))))
    ·refine Z7 (Zn (Iz n) rfl rfl (Gf (.bool (decide (n > (0 : Int)))) rfl rfl rfl rfl (Z4 ?_)))
     rcases Zt hbb with ⟨hc2,hbb⟩ | ⟨hc2,hbb⟩
     ·refine G5 hc2 rfl (Za (Zo e0 rfl (Zz (.pointer (some ⟨bk, 0, none⟩)) (Tk rfl) rfl (Zz (.pointer (some ⟨bk, 0, none⟩)) (show Pur _ _ _ (Ga (.pointer (some ⟨bk, 0, none⟩)) 0) from Zc R6 rfl ⟨bk, 0, rfl⟩) rfl (Z6 rfl (Wg (vs := [.pointer (some ⟨bk, 0, none⟩), .int .u8 (32 : UInt8).toNat]) en97 (.cons rfl (.cons rfl .nil)) (wwb (c := 32) hwr hbb) fun q4 w4 h4 => ?_))))))
      obtain ⟨g4,hs4,hwr4⟩:=h4
      exact Zb (hQ2 _ _ _ ⟨rfl,e0,rfl,e8,e9,e10,g4,hs.trans hs4,hwr4⟩)
     ·obtain rfl := sinj hbb
      exact G8 hc2 rfl (Zu (hQ2 _ _ _ ⟨rfl,e0,rfl,e8,e9,e10,g1,hs,hwr⟩))
    ·obtain ⟨rfl, e0, e5, e8, e9, e10, g3, hs3, hwr3⟩ := hR3
     have hT3:=hT.ch hs3.ch
     refine Z7 (Zo e5 rfl (Z4 (Zr (Z7 ?_))))
     cases a with
     | str tt=>
      obtain rfl:=sinj htx
      refine Zz (.tuple #[tt.v,.bool true]) (Eg (ti:=3) underlying9 rfl) rfl (Zz (.bool true) (Zi rfl rfl) rfl (Zz tt.v (Zi rfl rfl) rfl (Z4 (Tj rfl (Z7 (Zg tt.v rfl rfl (Z4 (Za (Zo e0 rfl (Zz (.pointer (some ⟨bk,0,none⟩)) (Tk rfl) rfl (Zz (.pointer (some ⟨bk,0,none⟩)) (show Pur _ _ _ (Ga (.pointer (some ⟨bk,0,none⟩)) 0) from Zc R6 rfl ⟨bk,0,rfl⟩) rfl (Zn tt.v rfl rfl (Z6 rfl (Wg (vs:=[.pointer (some ⟨bk,0,none⟩),tt.v]) en98 (.cons rfl (.cons rfl .nil)) (wws hwr3 hcc) fun q4 w4 h4=>?_))))))))))))))
      obtain ⟨g4,hs4,hwr4⟩:=h4
      exact Zb (Tc (hQ _ _ _ ⟨rfl,e0,e8,e9,e10,g4,hs3.trans hs4,hwr4⟩))
     | int nn=>
      refine Zz (.tuple #[_,.bool false]) (N7 (ti:=3) underlying9 rfl zeroValue9 rfl) rfl (Zz (.bool false) (Zi rfl rfl) rfl (Zz _ (Zi rfl rfl) rfl (Z4 (Gz rfl (Z7 (Zz (.tuple #[Iz nn,.bool true]) (I6 (ts:=9) underlying3 rfl) rfl (Zz (.bool true) (Zi rfl rfl) rfl (Zz (Iz nn) (Zi rfl rfl) rfl (Z4 (Tj rfl (Z7 (Zg (Iz nn) rfl rfl (Z4 (Da (g:=g3) (n:=6) [0,1,2,3] [] [0,1,2,3,4,5] rfl Y7 (by kernel_rfl) fun w_c hx hlt=>?_))))))))))))))
      have hwr4:=hwr3.ext hx
      have hT4:=hT3.ext hx
      refine Qu (c:=.pointer (some ⟨bk,0,none⟩)) rfl rfl .plain (Zk e0) (Qu (c:=.pointer (some ⟨bk,0,none⟩)) rfl rfl .plain (Tk rfl) (Qu (c:=.pointer (some ⟨bk,0,none⟩)) rfl rfl .plain (show Pur _ _ _ (Ga (.pointer (some ⟨bk,0,none⟩)) 0) from Zc R6 rfl ⟨bk,0,rfl⟩) (Qu (c:=Iz nn) rfl rfl .plain (Zk rfl) (Bp rfl rfl .plain (D_itoa (g:=g3) en99 it_ok hT4 rfl htx fun w5 hx5=>?_)))))
      have hwr5:=hwr4.ext hx5
      have hlt5:=hlt.ext hx5
      refine ⟨hlt5.toW,?_⟩
      refine Bp rfl rfl .plain (Wg (vs:=[.pointer (some ⟨bk,0,none⟩),tx.v]) en98 (.cons rfl (.cons rfl .nil)) (wws hwr5 hcc) fun q6 w6 h6=>?_)
      obtain ⟨g6,hs6,hwr6⟩:=h6
      refine ⟨(hlt5.stp hs6 rfl).toW,?_⟩
      refine Sw (Zb (Tc ?_))
      exact hQ _ _ _ ⟨rfl,e0,e8,e9,e10,g6,hs3.trans (hx.stp.trans (hx5.stp.trans hs6)),hwr6⟩
   ·obtain ⟨rfl, e0, e8, e9, e10, g2, hs2, hwr2⟩ := hR
    refine Za (Gf (Iz (w64 (n + (1:Int)))) e10 rfl rfl rfl (Zn (Iz (w64 (n + (1:Int)))) rfl rfl ?_))
    exact Z4 (hrec (cc,w64 (n + 1)) _ _ _ ⟨rfl,e0,e8,e9,rfl,g2,hs2,hwr2⟩ hk)
  ·refine Zf (G8 hc rfl (Tu (Gy (Gy (G9 ?_)))))
   obtain rfl:=sinj hk
   exact hQ _ _ _ ⟨rfl,e0,g1,hs,hwr⟩
 ·obtain ⟨rfl, e0, g1, hs, hwr⟩ := hR
  obtain ⟨c0,hc0,hf⟩:=Z3 hf
  obtain rfl:=sinj hf
  refine Z7 (Zo e0 rfl (Zz (.pointer (some ⟨bk,0,none⟩)) (Tk rfl) rfl (Zz (.pointer (some ⟨bk,0,none⟩)) (show Pur _ _ _ (Ga (.pointer (some ⟨bk,0,none⟩)) 0) from Zc R6 rfl ⟨bk,0,rfl⟩) rfl (Z6 rfl (Wg (vs:=[.pointer (some ⟨bk,0,none⟩),.int .u8 (10:UInt8).toNat]) en97 (.cons rfl (.cons rfl .nil)) (wwb (c:=10) hwr hc0) fun q4 w4 h4=>?_)))))
  obtain ⟨g4,hs4,hwr4⟩:=h4
  refine Z4 (Za (Zo e0 rfl (Zz (.pointer (some ⟨bk,0,none⟩)) (Tk rfl) rfl (Zz (.pointer (some ⟨bk,2,none⟩)) (show Pur _ _ _ (Ga (.pointer (some ⟨bk,0,none⟩)) 2) from Zc Nt rfl ⟨bk,0,rfl⟩) rfl ?_))))
  obtain ⟨b,a,v,hp,hb,hz,hne,ha⟩:=hwr4
  injection hp with hp; injection hp with hp; injection hp with hp _
  subst hp
  refine Z6 rfl (Xz isAgg3 rfl (hb.cell.trans rfl) (Gf (Iz (w64 (s.2 + (1:Int)))) rfl rfl rfl rfl (Zz (.pointer (some ⟨bk,0,none⟩)) (Tk rfl) rfl (Zz (.pointer (some ⟨bk,2,none⟩)) (show Pur _ _ _ (Ga (.pointer (some ⟨bk,0,none⟩)) 2) from Zc Nt rfl ⟨bk,0,rfl⟩) rfl (Z6 rfl (Dy (c:=Iz (w64 (s.2 + (1:Int)))) sizeOf3 rfl rfl rfl (by simp) hb fun w5 hs5 hb5 hk5=>(Zb ?_)))))))
  exact H9 rfl rfl ⟨g4,hs.trans (hs4.trans hs5),bk,a,v,rfl,hb5,hz.other hne hk5,hne,ha⟩
def f60 (x0:List UInt8 × Int) (c:Z8) (n:Int):Option (List UInt8 × Int):=
 (f100 c.Row n).bind fun t=>f59 x0 [.str ⟨bif c.Turned then [116,117,114,110,101,100] else [99,97,114,100]⟩,bif decide (c.Number=-1) then .str ⟨[63]⟩ else .int c.Number,.str t]
theorem en60:Enters prog 60:=enters_of func60 (by kernel_rfl) rfl
theorem wk60 {i : Nat} {g : Gh} {w : World} {s s' : List UInt8 × Int} {c : Z8} {n : Int} {p u : Value} (hT : Vb 0 g.m w) (h : WR i g w 5 148 s p) (hu : RV g.m w c u) (hf : f60 s c n = some s') :
  Calls prog 60 #[p,u,Iz n] w fun q w'=>∃ v,q=.returned v∧∃ g',Stp i g w g' w'∧WR i g' w' 5 148 s' p:=by
 unfold f60 at hf
 obtain ⟨tx,htx,hf⟩:=Z3 hf
 refine Wd func60 rfl (Nat.le_of_ble_eq_true rfl) ?_
 show E _ 28 none _ _ _ _ _
 refine Z7 (Z6 rfl (Tq (g:=g) rfl hu fun g1 w1 p1 hx1 q1=>?_))
 have h1:=h.ext hx1
 have hT1:=hT.ext hx1
 refine Z4 (Hp (fun e ds w'=>ds=[]∧e 0=p∧e 2=Iz n∧e 4=p1∧e 6=Str.v ⟨[99,97,114,100]⟩∧e 7=(AnyV.int c.Number:Hu).v∧∃ g',Ext g1 w1 g' w') (fun Q' hQ=>?_) (fun e ds w' hR=>?_))
 ·refine Zs (x := .tmp 8) isAgg3 sizeOf3 (Zm Jj.1 q1) fun vN rN hlN => ?_
  obtain rfl:=Zj.1 rN
  refine Tz (g:=g1) (n:=5) [] [0,1,2,3,4] rfl Y7 (by kernel_rfl) trivial (Z2 (Ga p1 0) rfl rfl (Zc Fx rfl (PT.ptr q1)) (Tv (c:=Iz c.Number) rfl rfl .plain (fun _ _ h=>h.ch) hlN rfl (Z2 (AnyV.int c.Number:Hu).v rfl rfl (Ug underlying3 rfl) (Z2 (Str.v ⟨[99,97,114,100]⟩) rfl rfl (Tx rfl) (Z2 (AnyV.int c.Number:Hu).v rfl rfl (Tx rfl) (Ho fun g2 w2 hs=>?_))))))
  exact Zb (hQ _ _ _ ⟨rfl,rfl,rfl,rfl,rfl,rfl,g2,hs⟩)
 obtain ⟨rfl,e0,e2,e4,e6,e7,g2,hx2⟩:=hR
 have h2:=h1.ext hx2
 have hT2:=hT1.ext hx2
 have q2:=q1.ext hx2
 refine Hp (fun e ds w'=>ds=[]∧e 0=p∧e 2=Iz n∧e 4=p1∧e 6=Str.v ⟨bif c.Turned then [116,117,114,110,101,100] else [99,97,114,100]⟩∧e 7=(AnyV.int c.Number:Hu).v∧∃ g',Ext g1 w1 g' w') (fun Q' hQ=>?_) (fun e ds w' hR=>?_)
 ·refine Z7 (Zz (Ga p1 2) (Zc Ff e4 (PT.ptr q2)) rfl (Z6 rfl (Z9 (g := g2) isAgg4 sizeOf4 rfl (Zm Jp.1 q2) fun v r => ?_)))
  obtain rfl:=Qm.1 r
  refine Z4 ?_
  rcases Bool.eq_false_or_eq_true c.Turned with hb | hb
  ·refine G5 hb rfl (Za (Zg (Str.v ⟨[116, 117, 114, 110, 101, 100]⟩) rfl rfl ?_))
   exact Zb (hQ _ _ _ ⟨rfl,e0,e2,e4,by simp only [hb,cond_true]; rfl,e7,g2,hx2⟩)
  ·exact G8 hb rfl (Zu (hQ _ _ _ ⟨rfl,e0,e2,e4,by simp only [hb,cond_false]; exact e6,e7,g2,hx2⟩))
 clear e0 e2 e4 e6 e7
 obtain ⟨rfl,e0,e2,e4,e6,e7,g2,hx2⟩:=hR
 have h2:=h1.ext hx2
 have hT2:=hT1.ext hx2
 have q2:=q1.ext hx2
 refine Hp (fun e ds w'=>ds=[]∧e 0=p∧e 2=Iz n∧e 4=p1∧e 6=Str.v ⟨bif c.Turned then [116,117,114,110,101,100] else [99,97,114,100]⟩∧e 7=(bif decide (c.Number=-1) then AnyV.str ⟨[63]⟩ else AnyV.int c.Number:Hu).v∧∃ g',Ext g1 w1 g' w') (fun Q' hQ=>?_) (fun e ds w' hR=>?_)
 ·refine Z7 (Zz (Ga p1 0) (Zc Fx e4 (PT.ptr q2)) rfl (Z6 rfl (Z9 (g := g2) isAgg3 sizeOf3 rfl (Zm Jj.1 q2) fun v r => ?_)))
  obtain rfl:=Zj.1 r
  refine Gf (.bool (decide (c.Number=-1))) rfl rfl rfl rfl (Z4 ?_)
  rcases Bool.eq_false_or_eq_true (decide (c.Number=-1)) with hb | hb
  ·refine G5 hb rfl (Za (Zz (AnyV.str ⟨[63]⟩ : Hu).v (H6 underlying9 rfl) rfl (Zg (AnyV.str ⟨[63]⟩ : Hu).v rfl rfl ?_)))
   exact Zb (hQ _ _ _ ⟨rfl,e0,e2,e4,e6,by simp only [hb,cond_true]; rfl,g2,hx2⟩)
  ·exact G8 hb rfl (Zu (hQ _ _ _ ⟨rfl,e0,e2,e4,e6,by simp only [hb,cond_false]; exact e7,g2,hx2⟩))
 clear e0 e2 e4 e6 e7
 obtain ⟨rfl,e0,e2,e4,e6,e7,g2,hx2⟩:=hR
 have h2:=h1.ext hx2
 have hT2:=hT1.ext hx2
 have q2:=q1.ext hx2
 refine Za (Zo e0 rfl (Zo e6 rfl (Zz (AnyV.str _:Hu).v (H6 underlying9 rfl) rfl (Zo e7 rfl (Zz (Ga p1 1) (Zc Vy e4 (PT.ptr q2)) rfl (Z6 rfl (Z9 (g:=g2) isAgg3 sizeOf3 rfl (Zm Kq.1 q2) fun v r=>?_)))))))
 obtain rfl:=Zj.1 r
 refine Zo e2 rfl (Z6 rfl (Zp (g:=g2) (vs:=[Iz c.Row,Iz n]) en100 (.cons rfl (.cons rfl .nil)) (wk100 htx) fun g3 w3 v3 hx3 hv3=>?_))
 subst hv3
 have h3:=h2.ext hx3
 have hT3:=hT2.ext hx3
 refine Zz (AnyV.str tx:Hu).v (H6 underlying9 rfl) rfl (Z6 rfl (Gb (g:=g3) 1 (xs:=([.str ⟨bif c.Turned then [116,117,114,110,101,100] else [99,97,114,100]⟩,bif decide (c.Number=-1) then .str ⟨[63]⟩ else .int c.Number,.str tx]:List Hu)) (vs:=[_,_,_]) underlying150 sizeOf20 zeroValue20 rfl rfl (.cons rfl (.cons rfl (.cons rfl .nil))) (RVs.cons (H0.2 rfl) (RVs.cons (H0.2 rfl) (RVs.cons (H0.2 rfl) RVs.nil))) rfl rfl fun g4 w4 v4 _ _ r4 hx4 _=>(Z6 rfl (Wg (vs:=[p,v4]) en59 (.cons rfl (.cons rfl .nil)) (wk59 (hT3.ext hx4) (h3.ext hx4) r4 hf) fun q5 w5 h5=>?_))))
 obtain ⟨g5,hs5,h5⟩:=h5
 refine Zb ?_
 exact H9 rfl rfl ⟨g5,hx1.stp.trans (hx2.stp.trans (hx3.stp.trans (hx4.stp.trans hs5))),h5⟩
theorem D_boxW {P : Program} {e : Env} {g : Gh} {w : World} {K : Value → World → Prop} (i : Nat) {et T : TypeId} {x : Operand} {v : Value} (hx : ev e x = v) (hv : v.cells = #[.pointer none, .slice none 0 0, Iz 0])
  (h:∀ g' w' b,Stp i g w g' w'→WR i g' w' et T ([],0) (.pointer (some ⟨b,0,none⟩))→K (.pointer (some ⟨b,0,none⟩)) w'):Doe P (.box T x) e w K:=fun d ty pos af gd=>by
 have hrun:(execOp (ev e) ⟨d,.box T x,ty,pos,af,gd⟩).run P w=.ok (.value (.pointer (some ⟨w.heap.size,0,none⟩))) (w.alloc (.cells v.cells T)):=by
  simp [execOp,hx,Instr.box,newVar,newRow,Result.andThen]
 unfold doE; rw [hrun]
 refine h _ _ w.heap.size (H8 i g w _ T 0) ⟨_,_,_,rfl,⟨To _ _ _,To _ _ _,?_⟩,OZ.nil,(fun h=>by cases h),.inl rfl⟩
 rw [Q1,hv]
theorem P9 {w0 w1:World} {g g1:Gh} {bk:Nat} (hbk:g.o bk=1) (hs:Stp 1 g w0 g1 w1) (hb:w1.heap[bk]?=w0.heap[bk]?):LTg [7] { m:=g.m,o:=fun b=>if b=bk then 7 else g.o b } w0 { m:=g1.m,o:=fun b=>if b=bk then 7 else g1.o b } w1:=by
 refine ⟨hs.ch,fun b hlt hu=>?_⟩;by_cases h:b=bk
 ·subst h; exact ⟨hb,by simp⟩
 ·have h7 : g.o b = 7 := by simpa [h] using hu
  have hne:g.o b ≠ 1:=by rw [h7]; decide
  exact ⟨hs.block b hlt hne,by simp [h,hs.o b hlt hne]⟩
theorem Oj:(prog.info? 20).map (fun i=>(i.zero,i.size,i.bytes))=some (some .nilIface,1,16):=by kernel_rfl
theorem O9:Qy prog 148=some ([.pointer none,.slice none 0 0,Iz 0],[(0,2),(2,1)]):=by kernel_rfl
def tieWs (t:Gn):Option (List Hu):=
 lp (σ:=List Hu × Int) (fun k z=>bif decide (z.2 < (t.Harness.Warps.length:Int)) then (idx t.Harness.Warps z.2).bind fun a=>(apnd 16 z.1 [AnyV.int a]).bind fun y=>k (y,w64 (z.2 + (1:Int))) else some z.1) big ([.str ⟨[116,105,101]⟩,.str t.Name,.int t.Harness.Hooks],0)
def wTies (m:Gj) (s:List UInt8 × Int):Option (List UInt8 × Int):=
 lp (σ:=(List UInt8 × Int) × Int) (fun k z=>bif decide (z.2 < (m.Ties.length:Int)) then (idx m.Ties z.2).bind fun a=>(tieWs a).bind fun ws=>(f59 z.1 ws).bind fun y=>k (y,w64 (z.2 + (1:Int))) else some z.1) big (s,0)
def Il (c:Gc) (s:List UInt8 × Int):Option (List UInt8 × Int):=
 lp (σ:=(List UInt8 × Int) × Int) (fun k z=>bif decide (z.2 < (c.Chain.Cards.length:Int)) then (idx c.Chain.Cards z.2).bind fun a=>(f60 z.1 a c.Chain.Hooks).bind fun y=>k (y,w64 (z.2 + (1:Int))) else some z.1) big (s,0)
def Mh (m:Gj) (s:List UInt8 × Int):Option (List UInt8 × Int):=
 lp (σ:=(List UInt8 × Int) × Int) (fun k z=>bif decide (z.2 < (m.Chains.length:Int)) then (idx m.Chains z.2).bind fun a=>(f59 z.1 [.str ⟨[99,104,97,105,110]⟩,.str a.Name,.int a.Chain.Hooks]).bind fun s1=>(Il a s1).bind fun y=>k (y,w64 (z.2 + (1:Int))) else some z.1) big (s,0)
def f28 (m:Gj):Option (Str × Int):=
 (f19 m).bind fun ck=>bif !decide (ck=0) then some (⟨[]⟩,ck) else
 (f59 ([],0) [.str ⟨[109,105,108,108]⟩]).bind fun s0=>(wTies m s0).bind fun s1=>(Mh m s1).bind fun s2=>
 bif s2.1.isEmpty then none else (f61 ⟨s2.1⟩).bind fun sm=>(f59 s2 [.str ⟨[101,110,100]⟩,.int s2.2,.int sm]).bind fun s3=>
 bif s3.1.isEmpty then none else some (⟨s3.1⟩,0)
theorem nemp {s:List UInt8} (h:s.isEmpty=false):s ≠ []:=fun h0=>by subst h0; cases h
theorem en28:Enters prog 28:=enters_of func28 (by kernel_rfl) rfl
theorem wk28 {gI:Gh} {wI:World} {x0:Gj} {up0:Value} (hTI:Vb 0 gI.m wI) (rp0:RV gI.m wI x0 up0) {r:Str × Int} (h:f28 x0=some r):Fn prog 28 #[up0] gI wI (fun _ _ v=>∃ y0 y1,v=.tuple #[y0,y1]∧y0=Str.v r.1∧y1=Iz r.2):=by
 unfold f28 at h;refine fnE func28 rfl rfl fun g0 hm hfr=>?_;have rp0:=RVc hm rp0;have hT0:Vb 0 g0.m wI:=hm ▸ hTI;show E _ 113 none _ _ _ _ _;refine Z7 (Z6 rfl (Tq (g:=g0) rfl rp0 fun g1 w1 p1 hx1 q1=>?_));have hfr:=hfr.ext hx1;have hT1:=hT0.ext hx1;refine Zg (Str.v ⟨[]⟩) rfl rfl (Zg (Iz 0) rfl rfl (Z4 (Zf (Z7 (Z6 rfl (Z9 (g:=g1) isAgg39 sizeOf39 rfl q1 fun vm rm=>?_))))));obtain ⟨ck,hck,h⟩:=Z3 h;refine Z6 rfl (Zp (g:=g1) (vs:=[vm]) en19 (.cons rfl .nil) (wk19 rm hck) fun g2 w2 v2 hx2 hv2=>?_);subst hv2;have hfr:=hfr.ext hx2;have hT2:=hT1.ext hx2;have q2:=q1.ext hx2;refine Zg (Iz ck) rfl rfl (Z4 (Z7 (Zn (Iz ck) rfl rfl (Gf (.bool (!decide (ck=0))) rfl rfl rfl rfl (Z4 ?_)))));rcases Zt h with ⟨hc,h⟩ | ⟨hc,h⟩
 ·refine G5 hc rfl (Z7 (Zn (Iz ck) rfl rfl (Zg (Str.v ⟨[]⟩) rfl rfl (Zg (Iz ck) rfl rfl (Z4 (Gd (Gq ?_)))))))
  obtain rfl:=sinj h;exact Yq rfl rfl rfl rfl ⟨_,hfr,_,_,rfl,rfl,rfl⟩
 refine G8 hc rfl (Zu (Zd ?_));obtain ⟨s0,hs0,h⟩:=Z3 h;obtain ⟨s1,hs1,h⟩:=Z3 h;obtain ⟨s2,hs2,h⟩:=Z3 h;refine Z7 (Zz (.agg #[.pointer none,.slice none 0 0,Iz 0]) (show Pur _ _ _ (.agg #[.pointer none,.slice none 0 0,Iz 0]) from Tf (vs:=[]) [[.pointer none,.slice none 0 0],[Iz 0]] O9 rfl rfl .nil trivial) rfl (Z6 rfl (D_boxW (g:=g2) 1 (et:=5) rfl rfl fun g3 w3 bk hx3 hw3=>?_)));have hfr:=hfr.stp hx3;have hT3:=hT2.stp hx3;have q3:=q2.stp hx3;refine Zg (.pointer (some ⟨bk,0,none⟩)) rfl rfl (Z4 (Z7 (Zn (.pointer (some ⟨bk,0,none⟩)) rfl rfl (Zz (AnyV.str ⟨[109,105,108,108]⟩:Hu).v (H6 underlying9 rfl) rfl (Z6 rfl (Gb (g:=g3) 3 (xs:=([.str ⟨[109,105,108,108]⟩]:List Hu)) (vs:=[_]) underlying150 sizeOf20 zeroValue20 rfl rfl (.cons rfl .nil) (RVs.cons (H0.2 rfl) RVs.nil) rfl rfl fun g4 w4 v4 _ _ r4 hx4 _=>?_))))));have hfr:=hfr.ext hx4;refine Z6 rfl (Wg (vs:=[.pointer (some ⟨bk,0,none⟩),v4]) en59 (.cons rfl (.cons rfl .nil)) (wk59 (hT3.ext hx4) (hw3.ext hx4) r4 hs0) fun q5 w5 h5=>?_);obtain ⟨g5,hx5,hw5⟩:=h5;have hfr:=hfr.stp hx5;have hT5:=(hT3.ext hx4).stp hx5;have q5:=(q3.ext hx4).stp hx5;refine Z4 ?_;clear hT0 hT1 hT2 hT3 hx1 hx2 hx3 hx4 hx5 q1 q2 q3 rm r4 hc hck hw3;refine Hp (fun e ds w'=>ds=[]∧e 1=p1∧e 5=.pointer (some ⟨bk,0,none⟩)∧∃ g',Fr gI wI g' w'∧Ch g5.m w5 g'.m w'∧WR 1 g' w' 5 148 s1 (.pointer (some ⟨bk,0,none⟩))) (fun Q' hQ=>?_) (fun e ds w6 hR=>?_)
 ·clear h
  refine Z7 (Zz (Ga p1 0) (Zc V2 rfl (PT.ptr q5)) rfl (Z6 rfl (Z9 (g:=g5) isAgg36 sizeOf36 rfl (Zm W0.1 q5) fun tv rt=>(Zz (Iz (x0.Ties.length:Int)) (Tr (v:=tv) underlying36 rfl rt) rfl (Zn (Iz 0) rfl rfl (Z4 (Zr ?_)))))));unfold wTies at hs1;refine Co hs1 (fun (z:(List UInt8 × Int) × Int) e ds w'=>ds=[]∧e 1=p1∧e 5=.pointer (some ⟨bk,0,none⟩)∧e 27=tv∧e 28=Iz (x0.Ties.length:Int)∧e 29=Iz z.2∧∃ g',Fr gI wI g' w'∧Ch g5.m w5 g'.m w'∧WR 1 g' w' 5 148 z.1 (.pointer (some ⟨bk,0,none⟩))) ⟨rfl,rfl,rfl,rfl,rfl,rfl,g5,hfr,Ch.refl _ _,hw5⟩ (fun X rec hrec=>?_);rintro ⟨s,n⟩ e ds w1 ⟨rfl,e1,e5,e27,e28,e29,g,hfr,hch,hw⟩ hk;refine Z7 (Gf (.bool (decide (n < (x0.Ties.length:Int)))) e29 e28 rfl rfl (Z4 ?_));rcases Zt hk with ⟨hc,hk⟩ | ⟨hc,hk⟩
  ·refine Zf (G5 hc rfl (Zu (Zd ?_)))
   obtain ⟨a,ha,hk⟩:=Z3 hk;obtain ⟨ws,hws,hk⟩:=Z3 hk;obtain ⟨y,hy,hk⟩:=Z3 hk;refine Hp (fun e ds w'=>ds=[]∧e 1=p1∧e 5=.pointer (some ⟨bk,0,none⟩)∧e 27=tv∧e 28=Iz (x0.Ties.length:Int)∧e 29=Iz n∧∃ g',Fr gI wI g' w'∧Ch g5.m w5 g'.m w'∧WR 1 g' w' 5 148 y (.pointer (some ⟨bk,0,none⟩))) (fun Q2 hQ2=>?_) (fun e ds w2 hR=>?_)
   ·refine Zr (Z7 ?_)
    have rt1:=rt.ch hch;refine Zz (Tb tv n 3) (Zh (α:=Gn) underlying36 sizeOf76 e27 rt1 e29 ha) rfl (Z6 rfl (Z9 (g:=g) isAgg76 sizeOf76 rfl (Tp rt1 ha) fun va ra=>(Z6 rfl (Xx (g:=g) 2 (⟨⟨[]⟩,⟨0,[]⟩⟩:Gn) zeroValue76 (fun m w=>⟨_,Gi Sg (Gi Zx Tt),rfl⟩) fun g2 w2 pt hs2 b2=>(Z6 rfl (Uc (g:=g2) (v:=va) sizeOf76 rfl b2 rfl (ra.stp hs2) fun g3 w3 hs3 b3=>?_))))));obtain ⟨g4,hs4,q4⟩:=b3.pub;have hfr:=((hfr.stp hs2).stp hs3).stp hs4;have hch:=hch.trans (hs2.ch.trans (hs3.ch.trans hs4.ch));have hw:=((hw.stp hs2 rfl).stp hs3 rfl).stp hs4 rfl;clear b2 b3 hs2 hs3 hs4 ra rt1;refine Z4 (Z7 ?_);have qh:=Zm Ym.1 q4;refine Zz (AnyV.str ⟨[116,105,101]⟩:Hu).v (H6 underlying9 rfl) rfl (Zz (Ga pt 0) (Zc A9 rfl (PT.ptr q4)) rfl (Z6 rfl (Z9 (g:=g4) isAgg9 sizeOf9 rfl (Zm Vi.1 q4) fun v5 r5=>?_)));obtain rfl:=Qt.1 r5;refine Zz (AnyV.str a.Name:Hu).v (H6 underlying9 rfl) rfl (Zz (Ga pt 1) (Zc B9 rfl (PT.ptr q4)) rfl (Zz (Ga (Ga pt 1) 0) (Zc Jt rfl (PT.ptr qh)) rfl (Z6 rfl (Z9 (g:=g4) isAgg3 sizeOf3 rfl (Zm Qh.1 qh) fun v6 r6=>?_))));obtain rfl:=Zj.1 r6;refine Zz (AnyV.int a.Harness.Hooks:Hu).v (Ug underlying3 rfl) rfl (Z6 rfl (Gb (g:=g4) 3 (xs:=([.str ⟨[116,105,101]⟩,.str a.Name,.int a.Harness.Hooks]:List Hu)) (vs:=[_,_,_]) underlying150 sizeOf20 zeroValue20 rfl rfl (.cons rfl (.cons rfl (.cons rfl .nil))) (RVs.cons (H0.2 rfl) (RVs.cons (H0.2 rfl) (RVs.cons (H0.2 rfl) RVs.nil))) rfl rfl fun g7 w7 v7 _ o7 r7 hx7 _=>?_));have hfr:=hfr.ext hx7;have hch:=hch.trans hx7.ch;have hw:=hw.ext hx7;have qh:=qh.ext hx7;refine Zg v7 rfl rfl (Z4 ?_);have hpt:=PT.ptr q4;clear hx7 q4;refine Hp (fun e ds w'=>ds=[]∧e 1=p1∧e 5=.pointer (some ⟨bk,0,none⟩)∧e 27=tv∧e 28=Iz (x0.Ties.length:Int)∧e 29=Iz n∧∃ g' v8,e 8=v8∧Fr gI wI g' w'∧Ch g5.m w5 g'.m w'∧WR 1 g' w' 5 148 s (.pointer (some ⟨bk,0,none⟩))∧RV g'.m w' ws v8) (fun Q3 hQ3=>?_) (fun e ds w8 hR=>?_)
    ·refine Z7 (Zz (Ga pt 1) (Zc B9 rfl hpt) rfl (Zz (Ga (Ga pt 1) 1) (Zc Kw rfl (PT.ptr qh)) rfl (Z6 rfl (Z9 (g := g7) isAgg24 sizeOf24 rfl (Zm Tm.1 qh) fun hv rh => (Zz (Iz (a.Harness.Warps.length : Int)) (Tr (v := hv) underlying24 rfl rh) rfl (Zn (Iz 0) rfl rfl (Z4 (Zr ?_))))))))
     unfold tieWs at hws;refine Co hws (fun (z:List Hu × Int) e ds w'=>ds=[]∧e 1=p1∧e 5=.pointer (some ⟨bk,0,none⟩)∧e 27=tv∧e 28=Iz (x0.Ties.length:Int)∧e 29=Iz n∧e 44=hv∧e 45=Iz (a.Harness.Warps.length:Int)∧e 46=Iz z.2∧∃ g' v8,e 8=v8∧Fr gI wI g' w'∧Ch g5.m w5 g'.m w'∧Ch g7.m w7 g'.m w'∧WR 1 g' w' 5 148 s (.pointer (some ⟨bk,0,none⟩))∧RV g'.m w' z.1 v8∧OS 3 g' w' 20 z.1 v8) ⟨rfl,e1,e5,e27,e28,e29,rfl,rfl,rfl,g7,v7,rfl,hfr,hch,Ch.refl _ _,hw,r7,o7⟩ (fun X rec hrec=>?_);rintro ⟨zs,j⟩ e ds w1 ⟨rfl,e1,e5,e27,e28,e29,e44,e45,e46,g,v8,e8,hfr,hch,hch7,hw,rz,oz⟩ hk;refine Z7 (Gf (.bool (decide (j < (a.Harness.Warps.length:Int)))) e46 e45 rfl rfl (Z4 ?_));rcases Zt hk with ⟨hc,hk⟩ | ⟨hc,hk⟩
     ·refine Zf (G5 hc rfl (Zu (Zd ?_)))
      obtain ⟨b,hb,hk⟩:=Z3 hk;obtain ⟨yy,hyy,hk⟩:=Z3 hk;have rh1:=rh.ch hch7;refine Zf (Zr (Z7 (Zz (Tb hv j 1) (Zh (α:=Int) underlying24 sizeOf3 e44 rh1 e46 hb) rfl (Z6 rfl (Z9 (g:=g) isAgg3 sizeOf3 rfl (Tp rh1 hb) fun vb rb=>?_)))));obtain rfl:=Zj.1 rb;refine Zg (Iz b) rfl rfl (Z4 (Za (Zo e8 rfl (Zn (Iz b) rfl rfl (Zz (AnyV.int b:Hu).v (Ug underlying3 rfl) rfl (Z6 rfl (Gb (g:=g) 4 (xs:=([.int b]:List Hu)) (vs:=[_]) underlying150 sizeOf20 zeroValue20 rfl rfl (.cons rfl .nil) (RVs.cons (H0.2 rfl) RVs.nil) rfl rfl fun g2 w2 v2 _ _ r2 hx2 _=>(Z6 rfl (Ql (g:=g2) (i:=3) underlying150 Oj rfl rfl (oz.ext hx2) (rz.ext hx2) rfl r2 hyy fun g3 w3 v3 hs3 o3 r3 _=>(Zg v3 rfl rfl (Zb (Tc (Zd (Za (Gf (Iz (w64 (j + (1:Int)))) e46 rfl rfl rfl (Zn (Iz (w64 (j + (1:Int)))) rfl rfl ?_))))))))))))))));exact Z4 (hrec (yy,w64 (j + 1)) _ _ _ ⟨rfl,e1,e5,e27,e28,e29,e44,e45,rfl,g3,v3,rfl,(hfr.ext hx2).stp hs3,hch.trans (hx2.ch.trans hs3.ch),hch7.trans (hx2.ch.trans hs3.ch),(hw.ext hx2).stp hs3 rfl,r3,o3⟩ hk)
     ·refine Zf (G8 hc rfl (Tu (Gy (Gy (G9 ?_)))))
      obtain rfl:=sinj hk;exact hQ3 _ _ _ ⟨rfl,e1,e5,e27,e28,e29,g,v8,e8,hfr,hch,hw,rz⟩
    ·obtain ⟨rfl, e1, e5, e27, e28, e29, g, v8, e8, hfr, hch, hw, rz⟩ := hR
     refine Za (Zo e5 rfl (Zo e8 rfl (Z6 rfl (Wg (vs:=[.pointer (some ⟨bk,0,none⟩),v8]) en59 (.cons rfl (.cons rfl .nil)) (wk59 (hT5.ch hch) hw rz hy) fun q9 w9 h9=>?_))));obtain ⟨g9,hs9,hw9⟩:=h9;exact Zb (Tc (hQ2 _ _ _ ⟨rfl,e1,e5,e27,e28,e29,g9,hfr.stp hs9,hch.trans hs9.ch,hw9⟩))
   ·obtain ⟨rfl, e1, e5, e27, e28, e29, g, hfr, hch, hw⟩ := hR
    refine Za (Gf (Iz (w64 (n + (1:Int)))) e29 rfl rfl rfl (Zn (Iz (w64 (n + (1:Int)))) rfl rfl ?_));exact Z4 (hrec (y,w64 (n + 1)) _ _ _ ⟨rfl,e1,e5,e27,e28,rfl,g,hfr,hch,hw⟩ hk)
  ·refine Zf (G8 hc rfl (Tu (Gy (Gy (G9 ?_)))))
   obtain rfl:=sinj hk;exact hQ _ _ _ ⟨rfl,e1,e5,g,hfr,hch,hw⟩
 obtain ⟨rfl,e1,e5,g6,hfr6,hch6,hw6⟩:=hR;have q6:=q5.ch hch6;have hT6:=hT5.ch hch6;clear hfr hs1 hw5 q5 hT5 hch6 hs0;refine Hp (fun e ds w'=>ds=[]∧e 5=.pointer (some ⟨bk,0,none⟩)∧∃ g',Fr gI wI g' w'∧Ch g6.m w6 g'.m w'∧WR 1 g' w' 5 148 s2 (.pointer (some ⟨bk,0,none⟩))) (fun Q' hQ=>?_) (fun e ds w' hR=>?_)
 ·clear h
  refine Z7 (Zz (Ga p1 1) (Zc Un e1 (PT.ptr q6)) rfl (Z6 rfl (Z9 (g:=g6) isAgg37 sizeOf37 rfl (Zm Wz.1 q6) fun tv rt=>(Zz (Iz (x0.Chains.length:Int)) (Tr (v:=tv) underlying37 rfl rt) rfl (Zn (Iz 0) rfl rfl (Z4 (Zr ?_)))))));unfold Mh at hs2;refine Co hs2 (fun (z:(List UInt8 × Int) × Int) e ds w'=>ds=[]∧e 5=.pointer (some ⟨bk,0,none⟩)∧e 61=tv∧e 62=Iz (x0.Chains.length:Int)∧e 63=Iz z.2∧∃ g',Fr gI wI g' w'∧Ch g6.m w6 g'.m w'∧WR 1 g' w' 5 148 z.1 (.pointer (some ⟨bk,0,none⟩))) ⟨rfl,e5,rfl,rfl,rfl,g6,hfr6,Ch.refl _ _,hw6⟩ (fun X rec hrec=>?_);rintro ⟨s,n⟩ e ds w1 ⟨rfl,e5,e61,e62,e63,g,hfr,hch,hw⟩ hk;refine Z7 (Gf (.bool (decide (n < (x0.Chains.length:Int)))) e63 e62 rfl rfl (Z4 ?_));rcases Zt hk with ⟨hc,hk⟩ | ⟨hc,hk⟩
  ·refine Zf (G5 hc rfl (Zu (Zd ?_)))
   obtain ⟨a,ha,hk⟩:=Z3 hk;obtain ⟨sa,hsa,hk⟩:=Z3 hk;obtain ⟨y,hy,hk⟩:=Z3 hk;refine Hp (fun e ds w'=>ds=[]∧e 5=.pointer (some ⟨bk,0,none⟩)∧e 61=tv∧e 62=Iz (x0.Chains.length:Int)∧e 63=Iz n∧∃ g',Fr gI wI g' w'∧Ch g6.m w6 g'.m w'∧WR 1 g' w' 5 148 y (.pointer (some ⟨bk,0,none⟩))) (fun Q2 hQ2=>?_) (fun e ds w2 hR=>?_)
   ·refine Zr (Z7 ?_)
    have rt1:=rt.ch hch;refine Zz (Tb tv n 3) (Zh (α:=Gc) underlying37 sizeOf48 e61 rt1 e63 ha) rfl (Z6 rfl (Z9 (g:=g) isAgg48 sizeOf48 rfl (Tp rt1 ha) fun va ra=>(Z6 rfl (Xx (g:=g) 2 (⟨⟨[]⟩,⟨0,[]⟩⟩:Gc) zeroValue48 (fun m w=>⟨_,Gi Sg (Gi Zx Tt),rfl⟩) fun g2 w2 pt hs2 b2=>(Z6 rfl (Uc (g:=g2) (v:=va) sizeOf48 rfl b2 rfl (ra.stp hs2) fun g3 w3 hs3 b3=>?_))))));obtain ⟨g4,hs4,q4⟩:=b3.pub;have hfr:=((hfr.stp hs2).stp hs3).stp hs4;have hch:=hch.trans (hs2.ch.trans (hs3.ch.trans hs4.ch));have hw:=((hw.stp hs2 rfl).stp hs3 rfl).stp hs4 rfl;clear b2 b3 hs2 hs3 hs4 ra rt1;refine Z4 (Z7 ?_);have qh:=Zm Jm.1 q4;refine Zo e5 rfl (Zz (AnyV.str ⟨[99,104,97,105,110]⟩:Hu).v (H6 underlying9 rfl) rfl (Zz (Ga pt 0) (Zc Am rfl (PT.ptr q4)) rfl (Z6 rfl (Z9 (g:=g4) isAgg9 sizeOf9 rfl (Zm Ub.1 q4) fun v5 r5=>?_))));obtain rfl:=Qt.1 r5;refine Zz (AnyV.str a.Name:Hu).v (H6 underlying9 rfl) rfl (Zz (Ga pt 1) (Zc V1 rfl (PT.ptr q4)) rfl (Zz (Ga (Ga pt 1) 0) (Zc Dx rfl (PT.ptr qh)) rfl (Z6 rfl (Z9 (g:=g4) isAgg3 sizeOf3 rfl (Zm Ko.1 qh) fun v6 r6=>?_))));obtain rfl:=Zj.1 r6;refine Zz (AnyV.int a.Chain.Hooks:Hu).v (Ug underlying3 rfl) rfl (Z6 rfl (Gb (g:=g4) 3 (xs:=([.str ⟨[99,104,97,105,110]⟩,.str a.Name,.int a.Chain.Hooks]:List Hu)) (vs:=[_,_,_]) underlying150 sizeOf20 zeroValue20 rfl rfl (.cons rfl (.cons rfl (.cons rfl .nil))) (RVs.cons (H0.2 rfl) (RVs.cons (H0.2 rfl) (RVs.cons (H0.2 rfl) RVs.nil))) rfl rfl fun g7 w7 v7 _ o7 r7 hx7 _=>?_));have hfr:=hfr.ext hx7;have hch:=hch.trans hx7.ch;have hw:=hw.ext hx7;refine Z6 rfl (Wg (vs:=[.pointer (some ⟨bk,0,none⟩),v7]) en59 (.cons rfl (.cons rfl .nil)) (wk59 (hT6.ch hch) hw r7 hsa) fun q8 w8 h8=>?_);obtain ⟨g8,hs8,hw8⟩:=h8;have hfr:=hfr.stp hs8;have hch:=hch.trans hs8.ch;have hpt:=PT.ptr q4;have qh:=(qh.ext hx7).stp hs8;clear hx7 q4 r7 o7 hw;refine Z4 (Z7 (Zz (Ga pt 1) (Zc V1 rfl hpt) rfl (Zz (Ga (Ga pt 1) 1) (Zc Hx rfl (PT.ptr qh)) rfl (Z6 rfl (Z9 (g:=g8) isAgg44 sizeOf44 rfl (Zm Qf.1 qh) fun hv rh=>(Zz (Iz (a.Chain.Cards.length:Int)) (Tr (v:=hv) underlying44 rfl rh) rfl (Zn (Iz 0) rfl rfl (Z4 (Zr ?_)))))))));unfold Il at hy;refine Co hy (fun (z:(List UInt8 × Int) × Int) e ds w'=>ds=[]∧e 5=.pointer (some ⟨bk,0,none⟩)∧e 12=pt∧e 61=tv∧e 62=Iz (x0.Chains.length:Int)∧e 63=Iz n∧e 80=hv∧e 81=Iz (a.Chain.Cards.length:Int)∧e 82=Iz z.2∧∃ g',Fr gI wI g' w'∧Ch g6.m w6 g'.m w'∧Ch g8.m w8 g'.m w'∧WR 1 g' w' 5 148 z.1 (.pointer (some ⟨bk,0,none⟩))) ⟨rfl,e5,rfl,e61,e62,e63,rfl,rfl,rfl,g8,hfr,hch,Ch.refl _ _,hw8⟩ (fun X rec hrec=>?_);rintro ⟨sz,j⟩ e ds w1 ⟨rfl,e5,e12,e61,e62,e63,e80,e81,e82,g,hfr,hch,hch8,hw⟩ hk;refine Z7 (Gf (.bool (decide (j < (a.Chain.Cards.length:Int)))) e82 e81 rfl rfl (Z4 ?_));rcases Zt hk with ⟨hc,hk⟩ | ⟨hc,hk⟩
    ·refine Zf (G5 hc rfl (Zu (Zd ?_)))
     obtain ⟨b,hb,hk⟩:=Z3 hk;obtain ⟨yy,hyy,hk⟩:=Z3 hk;have rh1:=rh.ch hch8;refine Zf (Zr (Z7 (Zz (Tb hv j 3) (Zh (α:=Z8) underlying44 sizeOf43 e80 rh1 e82 hb) rfl (Z6 rfl (Z9 (g:=g) isAgg43 sizeOf43 rfl (Tp rh1 hb) fun vb rb=>(Z6 rfl (Xx (g:=g) 2 (⟨0,0,false⟩:Z8) zeroValue43 (fun m w=>⟨_,Gi Zx (Gi Zx Wv),rfl⟩) fun g2 w2 pc hs2 b2=>(Z6 rfl (Uc (g:=g2) (v:=vb) sizeOf43 rfl b2 rfl (rb.stp hs2) fun g3 w3 hs3 b3=>?_)))))))));obtain ⟨g4,hs4,q4⟩:=b3.pub;have hfr:=((hfr.stp hs2).stp hs3).stp hs4;have hch4:=hs2.ch.trans (hs3.ch.trans hs4.ch);have hw:=((hw.stp hs2 rfl).stp hs3 rfl).stp hs4 rfl;refine Z4 (Za (Zo e5 rfl (Z6 rfl (Z9 (g:=g4) isAgg43 sizeOf43 rfl q4 fun vc rc=>(Zz (Ga pt 1) (Zc V1 e12 hpt) rfl ?_)))));have qh4:=(qh.ch hch8).ch hch4;refine Zz (Ga (Ga pt 1) 0) (Zc Dx rfl (PT.ptr qh4)) rfl (Z6 rfl (Z9 (g:=g4) isAgg3 sizeOf3 rfl (Zm Ko.1 qh4) fun v6 r6=>?_));obtain rfl:=Zj.1 r6;refine Z6 rfl (Wg (vs:=[.pointer (some ⟨bk,0,none⟩),vc,Iz a.Chain.Hooks]) en60 (.cons rfl (.cons rfl (.cons rfl .nil))) (wk60 (hT6.ch (hch.trans hch4)) hw rc hyy) fun q9 w9 h9=>?_);obtain ⟨g9,hs9,hw9⟩:=h9;refine Zb (Tc (Zd (Za (Gf (Iz (w64 (j + (1:Int)))) e82 rfl rfl rfl (Zn (Iz (w64 (j + (1:Int)))) rfl rfl ?_)))));exact Z4 (hrec (yy,w64 (j + 1)) _ _ _ ⟨rfl,e5,e12,e61,e62,e63,e80,e81,rfl,g9,hfr.stp hs9,hch.trans (hch4.trans hs9.ch),hch8.trans (hch4.trans hs9.ch),hw9⟩ hk)
    ·refine Zf (G8 hc rfl (Tu (Gy (Gy (G9 ?_)))))
     obtain rfl:=sinj hk;exact Tc (hQ2 _ _ _ ⟨rfl,e5,e61,e62,e63,g,hfr,hch,hw⟩)
   ·obtain ⟨rfl, e5, e61, e62, e63, g, hfr, hch, hw⟩ := hR
    refine Za (Gf (Iz (w64 (n + (1:Int)))) e63 rfl rfl rfl (Zn (Iz (w64 (n + (1:Int)))) rfl rfl ?_));exact Z4 (hrec (y,w64 (n + 1)) _ _ _ ⟨rfl,e5,e61,e62,rfl,g,hfr,hch,hw⟩ hk)
  ·refine Zf (G8 hc rfl (Tu (Gy (Gy (G9 ?_)))))
   obtain rfl:=sinj hk;exact hQ _ _ _ ⟨rfl,e5,g,hfr,hch,hw⟩
 clear e1 e5;obtain ⟨rfl,e5,g7,hfr7,hch7,hw7⟩:=hR;have hT7:=hT6.ch hch7;clear hfr6 hch7 hT6 q6 hw6 hs2;rcases Zt h with ⟨hc,h⟩ | ⟨hc,h⟩
 ·cases h
 obtain ⟨sm,hsm,h⟩:=Z3 h;obtain ⟨s3,hs3,h⟩:=Z3 h;rcases Zt h with ⟨hc3,h⟩ | ⟨hc3,h⟩
 ·cases h
 obtain rfl:=sinj h;refine Zf ?_;obtain ⟨b,av,vv,hp,hb7,hz7,hne7,ha7⟩:=hw7;injection hp with hp; injection hp with hp; injection hp with hp _;subst hp;have hw7:WR 1 g7 w' 5 148 s2 (.pointer (some ⟨bk,0,none⟩)):=⟨_,av,vv,rfl,hb7,hz7,hne7,ha7⟩;have hlt7:=hb7.lt;have hbx:HBm 7 { m:=g7.m,o:=fun b=>if b=bk then 7 else g7.o b } w' bk (.cells #[av,vv,Iz s2.2] 148 (0,0)):=⟨by simp,hb7.2.1,hb7.2.2⟩;have hl:=L_ldW isAgg3 hbx (o:=2) (c:=Iz s2.2) rfl;refine Da (g:={ m:=g7.m,o:=fun b=>if b=bk then 7 else g7.o b }) (n:=14) [0,1,2,3,4,5,6,7,8,9,12] [7] [0,1,2,3,4,5,6,7,8,9,10,11,12,13] rfl Y7 (by kernel_rfl) fun wc hx hlt=>?_;have hxc:Ext g7 w' g7 wc:=⟨hx.below,fun _ _=>rfl,fun _ _=>rfl⟩;have hwc:=hw7.ext hxc;have hTc:=hT7.ext hxc;refine Qu (c:=.pointer (some ⟨bk,0,none⟩)) rfl rfl .plain (Zk e5) (Qu (c:=(AnyV.str ⟨[101,110,100]⟩:Hu).v) rfl rfl .plain (H6 underlying9 rfl) (Qu (c:=.pointer (some ⟨bk,0,none⟩)) rfl rfl .plain (Zk e5) (Qu (c:=.pointer (some ⟨bk,0,none⟩)) rfl rfl .plain (Tk rfl) (Qu (c:=.pointer (some ⟨bk,2,none⟩)) rfl rfl .plain (show Pur _ _ _ (Ga (.pointer (some ⟨bk,0,none⟩)) 2) from Zc Nt rfl ⟨bk,0,rfl⟩) (Ic (n:=7) (c:=Iz s2.2) rfl rfl .plain (hl _) rfl rfl (Qu (c:=(AnyV.int s2.2:Hu).v) rfl rfl .plain (Ug underlying3 rfl) (Qu (c:=.pointer (some ⟨bk,0,none⟩)) rfl rfl .plain (Zk e5) (Qu (c:=.pointer (some ⟨bk,0,none⟩)) rfl rfl .plain (Tk rfl) (Qu (c:=.pointer (some ⟨bk,0,none⟩)) rfl rfl .plain (show Pur _ _ _ (Ga (.pointer (some ⟨bk,0,none⟩)) 0) from Zc R6 rfl ⟨bk,0,rfl⟩) (Bp rfl rfl .plain (Wg (vs:=[.pointer (some ⟨bk,0,none⟩)]) en62 (.cons rfl .nil) (wst hwc (nemp hc)) fun q8 w8 h8=>?_)))))))))));obtain ⟨rfl,hbk8,g8,hs8,hw8⟩:=h8;have hbk8:=hbk8 bk rfl;have hst8:Stp 1 g7 w' g8 w8:=hxc.stp.trans hs8;have hhb8:w8.heap[bk]?=w'.heap[bk]?:=hbk8.trans (hxc.below.block bk hlt7);refine ⟨(P9 hb7.1 hst8 hhb8).toW,?_⟩;refine Bp rfl rfl .plain (Zp (g:=g8) (vs:=[Str.v ⟨s2.1⟩]) en61 (.cons rfl .nil) (wk61 hsm) fun g9 w9 v9 hx9 hv9=>?_);subst hv9;have hlt8:bk < w8.heap.size:=Gg (hhb8.trans hb7.2.2);have hhb9:w9.heap[bk]?=w'.heap[bk]?:=(hx9.below.block bk hlt8).trans hhb8;refine ⟨(P9 hb7.1 (hst8.trans hx9.stp) hhb9).toW,?_⟩;refine Qu (c:=(AnyV.int sm:Hu).v) rfl rfl .plain (Ug underlying3 rfl) (Bp rfl rfl .plain (Gb (g:=g9) 3 (xs:=([.str ⟨[101,110,100]⟩,.int s2.2,.int sm]:List Hu)) (vs:=[_,_,_]) underlying150 sizeOf20 zeroValue20 rfl rfl (.cons rfl (.cons rfl (.cons rfl .nil))) (RVs.cons (H0.2 rfl) (RVs.cons (H0.2 rfl) (RVs.cons (H0.2 rfl) RVs.nil))) rfl rfl fun g10 w10 v10 _ o10 r10 hx10 _=>?_));have hlt9:bk < w9.heap.size:=Gg (hhb9.trans hb7.2.2);refine ⟨(P9 hb7.1 ((hst8.trans hx9.stp).trans hx10.stp) ((hx10.below.block bk hlt9).trans hhb9)).toW,?_⟩;refine Sw ?_;have hw10:=(hw8.ext hx9).ext hx10;have hT10:=hT7.ch (hst8.ch.trans (hx9.ch.trans hx10.ch));have hfr10:=((hfr7.stp hst8).ext hx9).ext hx10;refine Z6 rfl (Wg (vs:=[.pointer (some ⟨bk,0,none⟩),v10]) en59 (.cons rfl (.cons rfl .nil)) (wk59 hT10 hw10 r10 hs3) fun q11 w11 h11=>?_);obtain ⟨g11,hs11,hw11⟩:=h11;refine Z4 (Z7 (Zo e5 rfl (Zz (.pointer (some ⟨bk,0,none⟩)) (Tk rfl) rfl (Zz (.pointer (some ⟨bk,0,none⟩)) (show Pur _ _ _ (Ga (.pointer (some ⟨bk,0,none⟩)) 0) from Zc R6 rfl ⟨bk,0,rfl⟩) rfl (Z6 rfl (Wg (vs:=[.pointer (some ⟨bk,0,none⟩)]) en62 (.cons rfl .nil) (wst hw11 (nemp hc3)) fun q12 w12 h12=>?_))))));obtain ⟨rfl,_,g12,hs12,hw12⟩:=h12;refine Zg (Str.v ⟨s3.1⟩) rfl rfl (Zg (Iz 0) rfl rfl (Z4 (Gd ?_)));exact Yq rfl rfl rfl rfl ⟨_,(hfr10.stp hs11).stp hs12,_,_,rfl,rfl,rfl⟩

theorem Pc {m : Nat → Nat} {w : World} : ∀ {rows : List Fv} {cs : List Value}, Ts m w rows cs → cs = rows.map (·.v)
 | [],_,h=>h
 | _ :: _,_,⟨_,_,rfl,h1,h2⟩=>by
  have h1:_=[_]:=h1
  rw [h1,Pc h2]; rfl
theorem RO.ofOA {i:Nat} {g:Gh} {w:World} {t:TypeId} {rows:List Fv} {v:Value} (h:OA i g w t rows v):RO i g w t rows v:=by
 rcases h with h | ⟨b,c,cs,hv,ho,hm,hh,h1,h2,h3,hf⟩
 ·exact .inl h
 ·refine .inr ⟨b, c, cs, hv, ho, hm, hh, h1, h2, by simpa [GoT.k] using h3, fun n r hn => ?_⟩
  have hk:GoT.k Fv=1:=rfl;have he:=Pc hf;have hl:n < rows.length:=(List.getElem?_eq_some_iff.1 hn).1
  have h5:(cs.toList.take (rows.length * GoT.k Fv))[n]?=some r.v:=by rw [he]; simp [hn]
  rw [List.getElem?_take,hk,if_pos (by omega)] at h5;simpa using h5
theorem Ij {α:Type} [GoT α] {t:TypeId} {j:Nat} {g:Gh} {w:World} (n:Nat):U3 (RS (α:=α) t) j g w (List.replicate n (⟨.slice none 0 0,rfl⟩:Fv)) (List.replicate n []) none:=by
 refine ⟨by simp,fun k r x _ h1 h2=>?_,fun k k' r r' _ _ _ h1 h2=>?_⟩
 ·obtain ⟨_, rfl⟩ := List.getElem?_eq_some_iff.1 h1
  obtain ⟨_,rfl⟩:=List.getElem?_eq_some_iff.1 h2;simp only [List.getElem_replicate];exact ⟨OS.nil,Qi⟩
 ·obtain ⟨_, rfl⟩ := List.getElem?_eq_some_iff.1 h1
  simp only [List.getElem_replicate];intro b n c b' n' c' h
  cases h
theorem Nw:(prog.info? 87).map (fun i=>(i.zero,i.size,i.bytes))=some (some (.agg #[.int .i64 0,.int .i64 0]),2,16):=by kernel_rfl
theorem Nm:(prog.info? 61).map (fun i=>(i.zero,i.size,i.bytes))=some (some (.slice none 0 0),1,24):=by kernel_rfl
def f8 (m:Gj) (l:List (List UInt8)):Option ((List (List Str)) × Int × Int):=
  (f19 m).bind fun ck=>bif ck != (0:Int) then some ([],0,ck) else
  (f20 l).bind fun jn=>bif jn.2.2 != (0:Int) then some ([],jn.2.1,jn.2.2) else
  lp (σ:=(List T0 × List (List Str)) × Int) (fun k z=>bif decide (z.2 < (jn.1.length:Int)) then (idx jn.1 z.2).bind fun c=>
    bif (bif decide (c.Chain ≥ (m.Chains.length:Int)) then true else decide (c.Tie ≥ (m.Ties.length:Int))) then some ([],z.2,7) else
    (idx z.1.1 c.Loom).bind fun cy=>(f21 cy m c).bind fun wv=>
    bif wv.2.1 != (0:Int) then some ([],z.2,wv.2.1) else
    (idx z.1.2 c.Loom).bind fun rw=>(apnd 16 rw wv.1).bind fun y=>k ((z.1.1.set c.Loom.toNat wv.2.2,z.1.2.set c.Loom.toNat y),w64 (z.2 + (1:Int)))
   else some (z.1.2,0,0)) big ((List.replicate 16 ⟨0,0⟩,List.replicate 16 []),0)
theorem en8:Enters prog 8:=enters_of func8 (by kernel_rfl) rfl
theorem wk8 {gI : Gh} {wI : World} {x0 : Gj} {x1 : List (List UInt8)} {up0 up1 : Value} (rp0 : RV gI.m wI x0 up0) (rp1 : RV gI.m wI x1 up1) {r : (List (List Str)) × Int × Int} (h : f8 x0 x1 = some r) :
  Fn prog 8 #[up0,up1] gI wI (fun m w v=>∃ y0 y1 y2,v=.tuple #[y0,y1,y2]∧RV m w r.1 y0∧y1=Iz r.2.1∧y2=Iz r.2.2):=by
 unfold f8 at h
 obtain ⟨ck,hck,h⟩:=Z3 h
 refine fnE func8 rfl rfl fun g0 hm hfr=>?_
 have rp0:=RVc hm rp0
 have rp1:=RVc hm rp1
 show E _ 82 none _ _ _ _ _
 refine Z7 (Z6 rfl (Tq (g:=g0) rfl rp0 fun g1 w1 p2 hx1 q2=>?_))
 have hfr:=hfr.ext hx1
 have rp1:=rp1.ext hx1
 refine Zg (.slice none 0 0) rfl rfl (Zg (Iz 0) rfl rfl (Zg (Iz 0) rfl rfl (Z4 (Zf (Z7 (Z6 rfl (Z9 (g:=g1) isAgg39 sizeOf39 rfl q2 fun vm rm=>(Z6 rfl (Zp (g:=g1) (vs:=[vm]) en19 (.cons rfl .nil) (wk19 rm hck) fun g2 w2 v2 hx2 hv2=>?_)))))))))
 subst hv2
 have hfr:=hfr.ext hx2
 have rp1:=rp1.ext hx2
 have q2:=q2.ext hx2
 refine Zg (Iz ck) rfl rfl (Z4 (Z7 (Zn (Iz ck) rfl rfl (Gf (.bool (ck != (0:Int))) rfl rfl rfl rfl (Z4 ?_)))))
 rcases Zt h with ⟨hc,h⟩ | ⟨hc,h⟩
 ·refine G5 hc rfl (Z7 (Zn (Iz ck) rfl rfl (Zg (.slice none 0 0) rfl rfl (Zg (Iz 0) rfl rfl (Zg (Iz ck) rfl rfl (Z4 (Gd (Gq ?_))))))))
  obtain rfl:=sinj h
  exact Y9 rfl rfl rfl rfl rfl ⟨_,hfr,_,_,_,rfl,Qi,rfl,rfl⟩
 refine G8 hc rfl (Zu (Zd ?_))
 obtain ⟨jn,hjn,h⟩:=Z3 h
 refine Z7 (Zn up1 rfl rfl (Z6 rfl (Zp (g:=g2) (vs:=[up1]) en20 (.cons rfl .nil) (wk20 rp1 hjn) fun g3 w3 v3 hx3 hv=>?_)))
 obtain ⟨lv,y1,y2,rfl,rl,rfl,rfl⟩:=hv
 have hfr:=hfr.ext hx3
 have q2:=q2.ext hx3
 refine Zn (.tuple #[lv,Iz jn.2.1,Iz jn.2.2]) rfl rfl (Zz lv (Zi rfl rfl) rfl (Zz (Iz jn.2.1) (Zi rfl rfl) rfl (Zz (Iz jn.2.2) (Zi rfl rfl) rfl (Zg lv rfl rfl (Zg (Iz jn.2.1) rfl rfl (Zg (Iz jn.2.2) rfl rfl (Z4 (Zf (Z7 (Zn (Iz jn.2.2) rfl rfl (Gf (.bool (jn.2.2 != (0:Int))) rfl rfl rfl rfl (Z4 ?_))))))))))))
 rcases Zt h with ⟨hc2,h⟩ | ⟨hc2,h⟩
 ·refine G5 hc2 rfl (Z7 (Zn (Iz jn.2.1) rfl rfl (Zn (Iz jn.2.2) rfl rfl (Zg (.slice none 0 0) rfl rfl (Zg (Iz jn.2.1) rfl rfl (Zg (Iz jn.2.2) rfl rfl (Z4 (Gd ?_))))))))
  obtain rfl:=sinj h
  exact Y9 rfl rfl rfl rfl rfl ⟨_,hfr,_,_,_,rfl,Qi,rfl,rfl⟩
 refine G8 hc2 rfl (Zu (Zd (Z7 (Z6 rfl (Dk (g:=g3) 3 (⟨0,0⟩:T0) (n:=16) (r:=List.replicate 16 ⟨0,0⟩) underlying85 Nw rfl (fun m w=>⟨_,Gi Zx Zx,rfl⟩) rfl rfl rfl fun g4 w4 v9 hs4 o9=>(Zg v9 rfl rfl (Z4 (Z7 ?_))))))))
 have m9:=o9.toM
 obtain ⟨ah,chh,hh9,_⟩:=m9.hdr
 refine Zn v9 rfl rfl (Zz (Iz 16) (show Pur _ _ _ (Iz ((16:Nat):Int)) from Nq underlying85 rfl ⟨ah,chh,hh9⟩) rfl (Z6 rfl (Dk (g:=g4) 4 (⟨.slice none 0 0,rfl⟩:Fv) (n:=16) (r:=List.replicate 16 ⟨.slice none 0 0,rfl⟩) underlying57 Nm rfl (fun m w=>⟨_,rfl,rfl⟩) rfl rfl rfl fun g5 w5 v4 hs5 o4=>(Zg v4 rfl rfl ?_))))
 have ns0:NS (RS (α:=Str) 9) 4 5 g5 w5 61 (List.replicate 16 []) v4:=⟨_,RO.ofOA o4,Ij 16⟩
 have hfr:=(hfr.stp hs4).stp hs5
 have q2:=(q2.stp hs4).stp hs5
 have rl:=(rl.stp hs4).stp hs5
 have m9:=m9.stp hs5 rfl
 clear hx1 hx2 hx3 hs4 hs5 o9 o4 rm rp1 hh9 hck hjn hc hc2
 refine Z4 (Zf (Z7 (Zn lv rfl rfl (Zz (Iz (jn.1.length:Int)) (Tr (v:=lv) underlying56 rfl rl) rfl (Zn (Iz 0) rfl rfl (Z4 (Zr (Co h (fun (z:(List T0 × List (List Str)) × Int) e ds w'=>ds=[]∧e 2=p2∧e 4=v4∧e 9=v9∧e 33=lv∧e 34=Iz (jn.1.length:Int)∧e 35=Iz z.2∧∃ g',Fr gI wI g' w'∧Ch g5.m w5 g'.m w'∧OM 3 g' w' 87 z.1.1 v9∧NS (RS (α:=Str) 9) 4 5 g' w' 61 z.1.2 v4) ⟨rfl,rfl,rfl,rfl,rfl,rfl,rfl,g5,hfr,Ch.refl _ _,m9,ns0⟩ (fun X rec hrec=>?_)))))))))
 clear m9 ns0 hfr
 rintro ⟨⟨lo,ri⟩,n⟩ e ds w ⟨rfl,e2,e4,e9,e33,e34,e35,g,hfr,hch,ml,nr⟩ hk
 refine Z7 (Gf (.bool (decide (n < (jn.1.length:Int)))) e35 e34 rfl rfl (Z4 ?_))
 rcases Zt hk with ⟨hc,hk⟩ | ⟨hc,hk⟩
 ·refine Zf (G5 hc rfl (Zu (Zd ?_)))
  obtain ⟨c,hcl,hk⟩:=Z3 hk
  have rl1:=rl.ch hch
  have q1:=q2.ch hch
  refine Zf (Zr (Z7 (Zo e35 rfl (Zz (Tb lv n 5) (Zh (α:=Z5) underlying56 sizeOf55 e33 rl1 e35 hcl) rfl (Z6 rfl (Z9 (g:=g) isAgg55 sizeOf55 rfl (Tp rl1 hcl) fun vc rc=>(Z6 rfl (Xx (g:=g) 2 (⟨0,0,0,0,0⟩:Z5) zeroValue55 (fun m w=>⟨_,Gi Zx (Gi Zx (Gi Zx (Gi Zx Zx))),rfl⟩) fun g2 w2 pc hs2 b2=>(Zg (Iz n) rfl rfl (Z6 rfl (Uc (g:=g2) (v:=vc) sizeOf55 rfl b2 rfl (rc.stp hs2) fun g3 w3 hs3 b3=>?_)))))))))))
  obtain ⟨g4,hs4,qc⟩:=b3.pub
  have hfr:=((hfr.stp hs2).stp hs3).stp hs4
  have hch:=hch.trans (hs2.ch.trans (hs3.ch.trans hs4.ch))
  have ml:=((ml.stp hs2 rfl).stp hs3 rfl).stp hs4 rfl
  have nr:=((nr.stp (Rs 9) hs2 rfl rfl).stp (Rs 9) hs3 rfl rfl).stp (Rs 9) hs4 rfl rfl
  have q1:=((q1.stp hs2).stp hs3).stp hs4
  clear b2 b3 hs2 hs3 hs4 rl1 rc
  refine Z4 (Zf (Z7 (Zz (Ga pc 2) (Zc Vz rfl (PT.ptr qc)) rfl (Z6 rfl (Z9 (g:=g4) isAgg3 sizeOf3 rfl (Zm Wr.1 qc) fun v r=>?_)))))
  obtain rfl:=Zj.1 r
  refine Zz (Ga p2 1) (Zc Un e2 (PT.ptr q1)) rfl (Z6 rfl (Z9 (g:=g4) isAgg37 sizeOf37 rfl (Zm Wz.1 q1) fun vch rch=>(Zz (Iz (x0.Chains.length:Int)) (Tr (v:=vch) underlying37 rfl rch) rfl (Gf (.bool (decide (c.Chain ≥ (x0.Chains.length:Int)))) rfl rfl rfl rfl (Zn (.bool (decide (c.Chain ≥ (x0.Chains.length:Int)))) rfl rfl ?_)))))
  rcases Bool.eq_false_or_eq_true (decide (c.Chain ≥ (x0.Chains.length:Int))) with hq | hq
  ·simp only [hq, cond_true] at hk
   iterate 6 refine Z1 rfl rfl hq rfl rfl ?_
   refine Zz (.bool true) (Zl (b:=decide (c.Chain ≥ (x0.Chains.length:Int))) rfl (Te hq rfl)) rfl (Z4 ?_)
   obtain rfl:=sinj hk
   refine G5 rfl rfl (Z7 (Zn (Iz n) rfl rfl (Zg (.slice none 0 0) rfl rfl (Zg (Iz n) rfl rfl (Zg (Iz 7) rfl rfl (Z4 (Gd (Gq (Tg (Gq (Gq (Tg (Gq ?_)))))))))))))
   exact Y9 rfl rfl rfl rfl rfl ⟨_,hfr,_,_,_,rfl,Qi,rfl,rfl⟩
  simp only [hq,cond_false] at hk
  refine Z0 (Ga pc 3) (Zc Se rfl (PT.ptr qc)) rfl rfl hq rfl (Ze (.yes2 rfl rfl hq) rfl (Z9 (g:=g4) isAgg3 sizeOf3 rfl (Zm Hm.1 qc) fun v r=>?_))
  obtain rfl:=Zj.1 r
  refine Z0 (Ga p2 0) (Zc V2 e2 (PT.ptr q1)) rfl rfl hq rfl (Ze (.yes2 rfl rfl hq) rfl (Z9 (g:=g4) isAgg36 sizeOf36 rfl (Zm W0.1 q1) fun vti rti=>(Z0 (Iz (x0.Ties.length:Int)) (Tr (v:=vti) underlying36 rfl rti) rfl rfl hq rfl (Z0 (.bool (decide (c.Tie ≥ (x0.Ties.length:Int)))) (Gx rfl rfl rfl) rfl rfl hq rfl (Zz (.bool (decide (c.Tie ≥ (x0.Ties.length:Int)))) (Zl (b:=decide (c.Chain ≥ (x0.Chains.length:Int))) rfl (Td hq rfl)) rfl (Z4 ?_))))))
  rcases Zt hk with ⟨hq2,hk⟩ | ⟨hq2,hk⟩
  ·obtain rfl := sinj hk
   refine G5 hq2 rfl (Z7 (Zn (Iz n) rfl rfl (Zg (.slice none 0 0) rfl rfl (Zg (Iz n) rfl rfl (Zg (Iz 7) rfl rfl (Z4 (Gd (Gq (Tg (Gq (Gq (Tg (Gq ?_)))))))))))))
   exact Y9 rfl rfl rfl rfl rfl ⟨_,hfr,_,_,_,rfl,Qi,rfl,rfl⟩
  refine G8 hq2 rfl (Zu (Zd ?_))
  obtain ⟨cy,hcy,hk⟩:=Z3 hk
  obtain ⟨wv,hwv,hk⟩:=Z3 hk
  clear rch rti
  refine Zf (Zs (x:=.tmp 57) isAgg3 sizeOf3 (Zm Qv.1 qc) fun v r hl1=>?_)
  obtain rfl:=Zj.1 r
  refine Zs (x:=.tmp 2) isAgg39 sizeOf39 q1 fun vm rm hl2=>(Zs (x:=.tmp 11) isAgg55 sizeOf55 qc fun vc rc hl3=>(Da (g:=g4) (n:=12) [0,1,2,3,4,5,7,8,9,10,11] [] [0,1,2,3,4,5,6,7,8,9,10,11] rfl Y7 (by kernel_rfl) fun wc hx hlt=>(Qu (c:=v9) rfl rfl .plain (Zk e9) (Qu (c:=Ga pc 1) rfl rfl .plain (Zc J6 rfl (PT.ptr qc)) (Sx (c:=Iz c.Loom) rfl rfl .plain hl1 rfl (Qu (c:=Tb v9 c.Loom 2) rfl rfl .plain (G0 (α:=T0) underlying85 sizeOf87 rfl ml rfl hcy) (Sx (c:=vm) rfl rfl .plain hl2 e2 (Sx (c:=vc) rfl rfl .plain hl3 rfl (Bp rfl rfl .plain (Yy (g:=g4) (i:=3) (vs:=[Tb v9 c.Loom 2,vm,vc]) en21 (.cons rfl (.cons rfl (.cons rfl .nil))) (wk21 (ml.ext hx) hcy (rm.ext hx) (rc.ext hx) hwv) fun g5 w5 v5 hs5 hv5=>?_))))))))))
  obtain ⟨y0,_,rfl,ry,rfl,ml5⟩:=hv5
  refine ⟨((hlt.stp hs5 rfl)).toW,?_⟩
  refine Qu (c:=.tuple #[y0,Iz wv.2.1]) rfl rfl .plain (Zk rfl) (Qu (c:=y0) rfl rfl .plain (Zi rfl rfl) (Qu (c:=Iz wv.2.1) rfl rfl .plain (Zi rfl rfl) (Qu (c:=y0) rfl rfl .plain (Tx rfl) (Qu (c:=Iz wv.2.1) rfl rfl .plain (Tx rfl) (Sw (Z4 ?_))))))
  replace hfr:=(hfr.ext hx).stp hs5
  replace hch:=(hch.trans hx.ch).trans hs5.ch
  replace nr:=(nr.ext (Rs 9) hx).stp (Rs 9) hs5 rfl rfl
  replace qc:=(qc.ext hx).stp hs5
  clear hx hs5 hlt rm rc hl1 hl2 hl3 ml q1
  refine Zf (Z7 (Zn (Iz wv.2.1) rfl rfl (Gf (.bool (wv.2.1 != (0:Int))) rfl rfl rfl rfl (Z4 ?_))))
  rcases Zt hk with ⟨hq3,hk⟩ | ⟨hq3,hk⟩
  ·obtain rfl := sinj hk
   refine G5 hq3 rfl (Z7 (Zn (Iz n) rfl rfl (Zn (Iz wv.2.1) rfl rfl (Zg (.slice none 0 0) rfl rfl (Zg (Iz n) rfl rfl (Zg (Iz wv.2.1) rfl rfl (Z4 (Gd (Gq (Tg (Gq (Gq (Tg (Gq ?_))))))))))))))
   exact Y9 rfl rfl rfl rfl rfl ⟨_,hfr,_,_,_,rfl,Qi,rfl,rfl⟩
  refine G8 hq3 rfl (Zu (Zd ?_))
  obtain ⟨rw0,hrw,hk⟩:=Z3 hk
  obtain ⟨y,hy,hk⟩:=Z3 hk
  obtain ⟨rows,hro,hpo⟩:=nr
  obtain ⟨r0,hr0,hr1,hr2⟩:=hpo.idx hrw
  obtain ⟨g6,hg6,hs6,hrs,hpo6⟩:=hpo.take (Rs 9) hr1 hr2 6
  replace hro:=hro.stp hs6 rfl
  replace hfr:=hfr.stp hs6
  replace hch:=hch.trans hs6.ch
  replace ml5:=ml5.stp hs6 rfl
  replace qc:=qc.stp hs6
  replace ry:=ry.stp hs6
  refine Zs (x:=.tmp 70) isAgg3 sizeOf3 (Zm Qv.1 qc) fun v r hl1=>?_
  obtain rfl:=Zj.1 r
  refine Zs (x:=.tmp 73) isAgg3 sizeOf3 (Zm Qv.1 qc) fun v r hl2=>?_
  obtain rfl:=Zj.1 r
  refine Ha (x:=.tmp 75) isAgg61 sizeOf61 hro.toM hr0 fun u hu hl3=>?_
  obtain rfl:u=r0.v:=Yr.1 hu
  refine Da (g:=g6) (n:=10) [0,1,2,3,4,5,6,7,8] [4] [0,1,2,3,4,5,6,7,8,9] rfl Y7 (by kernel_rfl) fun wd hx hlt=>(Qu (c:=v4) rfl rfl .plain (Zk e4) (Qu (c:=Ga pc 1) rfl rfl .plain (Zc J6 rfl (PT.ptr qc)) (Sx (c:=Iz c.Loom) rfl rfl .plain hl1 rfl (Qu (c:=v4) rfl rfl .plain (Zk e4) (Qu (c:=Ga pc 1) rfl rfl .plain (Zc J6 rfl (PT.ptr qc)) (Sx (c:=Iz c.Loom) rfl rfl .plain hl2 rfl (Qu (c:=Tb v4 c.Loom 1) rfl rfl .plain (G0 (α:=Fv) underlying57 sizeOf61 rfl hro.toM rfl hr0) (Ic (n:=4) (c:=r0.v) rfl rfl .plain hl3 rfl rfl (Qu (c:=y0) rfl rfl .plain (Zk rfl) (Bp rfl rfl .plain (Ql (g:=g6) (i:=6) underlying61 Xf rfl rfl (hrs.1.ext hx) (hrs.2.ext hx) rfl (ry.ext hx) hy fun g7 w7 v7 hs7 o7 r7 _=>(⟨(hlt.stp hs7 rfl).toW,?_⟩))))))))))))
  refine Sw ?_
  have hro7:=(hro.ext hx).stp hs7 rfl
  refine Zz (Tb v4 c.Loom 1) (G0 (α:=Fv) underlying57 sizeOf61 rfl hro7.toM rfl hr0) rfl (Z6 rfl (M0 (⟨v7,by obtain ⟨_,_,rfl,_⟩:=Qn r7; rfl⟩:Fv) sizeOf61 rfl hro7 hr0 rfl fun w8 hs8 hro8=>?_))
  obtain ⟨g9,hg9,hs9,hpo9⟩:=(((hpo6.ext (Rs 9) hx).stp (Rs 9) hs7 rfl).stp (Rs 9) hs8 rfl).put (Rs 9) (⟨v7,by obtain ⟨_,_,rfl,_⟩:=Qn r7; rfl⟩:Fv) (x:=y) (j':=6) ⟨o7.stp hs8 rfl,r7.stp hs8⟩ rfl
  refine Zb (Tc (Zd (Za (Gf (Iz (w64 (n + (1:Int)))) e35 rfl rfl rfl (Zn (Iz (w64 (n + (1:Int)))) rfl rfl ?_)))))
  exact Z4 (hrec ((lo.set c.Loom.toNat wv.2.2,ri.set c.Loom.toNat y),w64 (n + 1)) _ _ _ ⟨rfl,e2,e4,e9,e33,e34,rfl,g9,(((hfr.ext hx).stp hs7).stp hs8).stp hs9,hch.trans (hx.ch.trans (hs7.ch.trans (hs8.ch.trans hs9.ch))),(((ml5.ext hx).stp hs7 rfl).stp hs8 rfl).stp hs9 rfl,⟨_,hro8.stp hs9 rfl,hpo9⟩⟩ hk)
 ·refine Zf (G8 hc rfl (Tu (Gy (Gy (G9 (Zd ?_))))))
  obtain rfl:=sinj hk
  obtain ⟨g6,hs6,rr⟩:=nr.pub (fun h=>h.2)
  refine Z7 (Zo e4 rfl (Zg v4 rfl rfl (Zg (Iz 0) rfl rfl (Zg (Iz 0) rfl rfl (Z4 (Gd ?_))))))
  exact Y9 rfl rfl rfl rfl rfl ⟨_,hfr.stp hs6,_,_,_,rfl,rr,rfl,rfl⟩

end Go.Proofs.YtepehlhgkipcoaaGreatDoor
