import Derived.Test.YtmpjooneiaiffaaCode3
set_option maxRecDepth 8000
set_option maxHeartbeats 4000000
namespace Go.Proofs.Ytmpjooneiaiffaa
open Go.RowKit
def f51 (x0:BoxLoom):Option (Gf × Int):=
 jn (σ:=Gf) (fun o0=>
  Option.bind (α:=(List ((Vector Int 2) × Bool))) (
   lp (σ:=(List ((Vector Int 2) × Bool)) × Int) (fun gH (nD,u3)=>
    bif (decide (u3 < (((x0).Shuttles).length : Int))) then
     Option.bind (α:=(List ((Vector Int 2) × Bool))) (
      (idx ((x0).Shuttles) u3).bind fun l9=>
      some ((mset nD ((⟨List.toArray [(l9).Side,(l9).Box],rfl⟩:Vector Int 2)) true))
      ) fun uC=>
     gH (uC,(w64 (u3 + (1:Int))))
    else
     some (nD)
    ) big (([]:List ((Vector Int 2) × Bool)),(0:Int))
   ) fun vC=>
  jn (σ:=Gf) (fun jH=>
   some ((⟨x0⟩:Gf),(0:Int))
   ) fun kH=>
  bif (decide (((vC).length : Int) < (((x0).Shuttles).length : Int))) then
   some ((⟨x0⟩:Gf),(6:Int))
  else
   kH (o0)
  ) fun k54=>
 Option.bind (α:=Bool) (
  bif ((((x0).Boxes).length : Int) != (2 : Int)) then
   some (((((x0).Boxes).length:Int) != (2:Int)))
  else
   some (((((x0).At).length:Int) != (2:Int)))
  ) fun lB=>
 bif lB then
  some ((⟨x0⟩:Gf),(4:Int))
 else
  (f85 ((⟨x0⟩:Gf))).bind fun jG=>
  bif (!jG) then
   some ((⟨x0⟩:Gf),(3:Int))
  else
   bif (decide ((((x0).Shuttles).length : Int) > (6 : Int))) then
    some ((⟨x0⟩:Gf),(5:Int))
   else
    Option.bind (α:=Bool) (
     bif ((((x0).Shuttles).length : Int) == (0 : Int)) then
      some (((((x0).Shuttles).length:Int) == (0:Int)))
     else
      (f86 ((x0).Shuttles) ((fun a0=>f83 a0 ((⟨x0⟩:Gf))))).bind fun lH=>
      some (lH)
     ) fun mB=>
    bif mB then
     some ((⟨x0⟩:Gf),(2:Int))
    else
     k54 ((⟨⟨[],[],[]⟩⟩:Gf))
theorem en51:Enters Try.prog 51:=enters_of Try.func51 (by kernel_rfl) rfl
theorem wk51 {gI:Gh} {wI:World} {x0:BoxLoom} {up0:Value} (rp0:RV gI.m wI x0 up0) {r:Gf × Int} (h:f51 x0=some r):Fn Try.prog 51 #[up0] gI wI (fun m w v=>∃ y0 y1,v=.tuple #[y0,y1]∧RV m w (r.1) y0∧y1=.int .i64 (r.2)):=by
 unfold f51 at h
 refine Tf Try.func51 rfl (Nat.le_of_ble_eq_true rfl) fun g0 hm hfr=>?_
 have rp0:RV g0.m wI x0 up0:=hm ▸ rp0
 show E _ 66 none _ _ _ _ _
 refine Zf (Za (Ze .plain rfl (We (g:=g0) rfl rp0 fun g1 w1 p1 hs q1=>?_)))
 have hfr:=hfr.ext hs
 refine Ze .plain rfl (Gs (g:=g1) 2002 (⟨⟨[],[],[]⟩⟩:Gf) Try.zeroValue102 (fun m w=>⟨_,(Gg Gz (Gg Gz Gz)),rfl⟩) fun g2 w2 p2 hs b2 cb=>?_)
 have hfr:=hfr.stp hs
 have q1:=q1.stp hs
 have nB:OSF 2002 60200 0 g2 w2 3 102 ([]:List Int) p2:=cb.osf (by rfl)
 have oB:OSF 2002 60201 1 g2 w2 3 102 ([]:List Int) p2:=cb.osf (by rfl)
 have vB:OSF 2002 60202 2 g2 w2 87 102 ([]:List Zv) p2:=cb.osf (by rfl)
 clear cb
 refine Zg (.int .i64 (0)) rfl rfl ?_
 refine Zb (Zd (Zf (Za (Ze .plain rfl (Gr (g:=g2) Try.isAgg25 Try.sizeOf25 rfl q1 fun v3 r3=>?_)))))
 have r4:RV g2.m _ (⟨x0⟩:Gf) (.agg (Wf [[.slice none 0 0,.slice none 0 0,.slice none 0 0]] [(0,v3)]).flatten.toArray):=Wz rfl (Kd (RV.cells r3))
 generalize eL:(Value.agg (Wf [[.slice none 0 0,.slice none 0 0,.slice none 0 0]] [(0,v3)]).flatten.toArray)=v4 at r4
 refine Zy v4 (eL ▸ P_build (vs:=[(0,v3)]) [[.slice none 0 0,.slice none 0 0,.slice none 0 0]] lay_102 rfl rfl (.cons rfl .nil) ⟨⟨_,rfl,Qs r3⟩,trivial⟩) rfl ?_
 refine Ze .plain rfl (Gs (g:=g2) 2004 (⟨⟨[],[],[]⟩⟩:Gf) Try.zeroValue102 (fun m w=>⟨_,(Gg Gz (Gg Gz Gz)),rfl⟩) fun g5 w5 p5 hs b5 cb=>?_)
 have hfr:=hfr.stp hs
 have q1:=q1.stp hs
 have nB:=nB.stp hs rfl
 have oB:=oB.stp hs rfl
 have vB:=vB.stp hs rfl
 have b2:=b2.stp hs rfl
 have r4:=r4.stp hs
 have xM:OSF 2004 60400 0 g5 w5 3 102 ([]:List Int) p5:=cb.osf (by rfl)
 have bN:OSF 2004 60401 1 g5 w5 3 102 ([]:List Int) p5:=cb.osf (by rfl)
 have cN:OSF 2004 60402 2 g5 w5 87 102 ([]:List Zv) p5:=cb.osf (by rfl)
 clear cb
 refine Ze .plain rfl (Gk (g:=g5) (v:=v4) Try.sizeOf102 rfl b5 rfl r4 fun g6 w6 hs b6 cb=>?_)
 clear cb
 have hfr:=hfr.stp hs
 have q1:=q1.stp hs
 have nB:=nB.stp hs rfl
 have oB:=oB.stp hs rfl
 have vB:=vB.stp hs rfl
 have b2:=b2.stp hs rfl
 obtain ⟨gp6,hs,qp6⟩:=OB.pub b6
 have hfr:=hfr.stp hs
 have q1:=q1.stp hs
 have nB:=nB.stp hs rfl
 have oB:=oB.stp hs rfl
 have vB:=vB.stp hs rfl
 have b2:=b2.stp hs rfl
 refine Zb (Zd (Zf (Za (Zy ((.func (.func 83) #[] #[p5])) (P_makeFunc (capf_0_1 (show ev _ _=p5 from rfl))) rfl ?_))))
 refine Zg ((.func (.func 83) #[] #[p5])) rfl rfl ?_
 refine Zb (Zd (Zq h (fun (s:Gf) e w=>∃ (g:Gh) ,Fr gI wI g w∧e 1=p1∧PT g.m w (x0:BoxLoom) p1∧e 2=p2∧OB 2002 g w 102 (s:Gf) p2∧OSF 2002 60200 0 g w 3 102 (((s).BoxLoom).Boxes) p2∧OSF 2002 60201 1 g w 3 102 (((s).BoxLoom).At) p2∧OSF 2002 60202 2 g w 87 102 (((s).BoxLoom).Shuttles) p2∧e 4=p5∧PT g.m w ((⟨x0⟩:Gf):Gf) p5) (fun X54 k54 rJ h=>?_) ?_))
 ·refine Zr ?_
  obtain ⟨lB,hx,h⟩:=Gc h
  refine Th (fun e w=>∃ (g:Gh) ,Fr gI wI g w∧e 1=p1∧PT g.m w (x0:BoxLoom) p1∧e 2=p2∧OB 2002 g w 102 ((⟨⟨[],[],[]⟩⟩:Gf):Gf) p2∧OSF 2002 60200 0 g w 3 102 ((((⟨⟨[],[],[]⟩⟩:Gf)).BoxLoom).Boxes) p2∧OSF 2002 60201 1 g w 3 102 ((((⟨⟨[],[],[]⟩⟩:Gf)).BoxLoom).At) p2∧OSF 2002 60202 2 g w 87 102 ((((⟨⟨[],[],[]⟩⟩:Gf)).BoxLoom).Shuttles) p2∧e 4=p5∧PT g.m w ((⟨x0⟩:Gf):Gf) p5∧e 5=(.func (.func 83) #[] #[p5])∧e 12=.bool (lB)) (fun Q' hQ=>?_) (fun dN bO hR=>?_)
  ·replace h := hx
   clear hx
   refine Zf (Za (Zy (Gj p1 0) (Zc Wo rfl (PT.ptr q1)) rfl ?_))
   have gL:=Zm (Ts).1 q1
   refine Ze .plain rfl (Gr (g:=gp6) Try.isAgg22 Try.sizeOf22 rfl gL fun cO iL=>?_)
   refine Zy (.int .i64 (((x0).Boxes).length:Int)) (Tw Try.underlying22 rfl iL) rfl ?_
   refine Gu (.bool (((((x0).Boxes).length:Int) != (2:Int)))) rfl rfl rfl rfl ?_
   refine Zg (.bool (((((x0).Boxes).length:Int) != (2:Int)))) rfl rfl ?_
   refine Zb (Zd ?_)
   rcases Zt h with ⟨xF,h⟩ | ⟨xF,h⟩
   ·refine Qq xF rfl ?_
    refine Zu ?_
    obtain rfl:=sinj h
    exact hQ _ _ ⟨gp6,hfr,rfl,q1,rfl,b2,nB,oB,vB,rfl,qp6,rfl,rfl⟩
   ·refine Qr xF rfl ?_
    refine Za (Zy (Gj p1 1) (Zc at_25_1 rfl (PT.ptr q1)) rfl ?_)
    have jL:=Zm (Qo).1 q1
    refine Ze .plain rfl (Gr (g:=gp6) Try.isAgg22 Try.sizeOf22 rfl jL fun dO lL=>?_)
    refine Zy (.int .i64 (((x0).At).length:Int)) (Tw Try.underlying22 rfl lL) rfl ?_
    refine Gu (.bool (((((x0).At).length:Int) != (2:Int)))) rfl rfl rfl rfl ?_
    refine Zg (.bool (((((x0).At).length:Int) != (2:Int)))) rfl rfl ?_
    refine Zb ?_
    obtain rfl:=sinj h
    exact hQ _ _ ⟨gp6,hfr,rfl,q1,rfl,b2,nB,oB,vB,rfl,qp6,rfl,rfl⟩
  ·clear hx
   obtain ⟨kG,hfr,bD,t5,n9,v8,u2_0_66,u2_1_66,u2_2_66,zB,i6,sI,xE⟩:=hR
   rcases Zt h with ⟨yF,h⟩ | ⟨yF,h⟩
   ·refine To (Eq.trans (show ev _ _ = .bool (lB) from xE) (congrArg Value.bool yF)) ?_
    refine Zf (Za (Ze .plain rfl (Gr (g:=kG) Try.isAgg102 Try.sizeOf102 zB i6 fun mL nL=>?_)))
    refine Ze .plain rfl (Gk (g:=kG) (v:=mL) Try.sizeOf102 n9 v8 rfl nL fun eO gO hs b69 cb=>?_)
    clear cb
    have hfr:=hfr.stp hs
    refine Zg (.int .i64 (4)) rfl rfl ?_
    refine Zb (Zd (Gw (Qu ?_)))
    refine Tc ?_
    obtain rfl:=sinj h
    obtain ⟨ad70,cv70,hp70,sJ,cr70⟩:=Qv Try.isAgg102 Try.sizeOf102 b69
    exact endm_ct rfl rfl ((show _=p2 from n9).trans hp70) sJ (show _=.int .i64 (4) from rfl) ⟨_,hfr,_,_,rfl,cr70,rfl⟩
   ·refine Tk (Eq.trans (show ev _ _ = .bool (lB) from xE) (congrArg Value.bool yF)) ?_
    refine Zf (Za (Ze .plain rfl (Gr (g:=kG) Try.isAgg102 Try.sizeOf102 zB i6 fun oL xL=>?_)))
    obtain ⟨jG,vJ,h⟩:=Gc h
    refine Ze .plain rfl (Zp (g:=kG) (vs:=[oL]) en85 (.cons rfl .nil) (wk85 xL vJ) fun cD eN jO hs hr=>?_)
    have hfr:=hfr.ext hs
    have t5:=t5.ext hs
    have u2_0_66:=u2_0_66.ext hs
    have u2_1_66:=u2_1_66.ext hs
    have u2_2_66:=u2_2_66.ext hs
    have v8:=v8.ext hs
    have i6:=i6.ext hs
    subst hr
    refine Zy (.bool (!jG)) (Wm rfl) rfl ?_
    refine Zg (.bool (!jG)) rfl rfl ?_
    refine Zb (Zd ?_)
    rcases Zt h with ⟨aG,h⟩ | ⟨aG,h⟩
    ·refine Qq aG rfl ?_
     refine Zf (Za (Ze .plain rfl (Gr (g:=cD) Try.isAgg102 Try.sizeOf102 zB i6 fun yL zL=>?_)))
     refine Ze .plain rfl (Gk (g:=cD) (v:=yL) Try.sizeOf102 n9 v8 rfl zL fun kO lO hs b76 cb=>?_)
     clear cb
     have hfr:=hfr.stp hs
     refine Zg (.int .i64 (3)) rfl rfl ?_
     refine Zb (Zd (Gw (Qu ?_)))
     refine Tc ?_
     obtain rfl:=sinj h
     obtain ⟨ad77,cv77,hp77,xJ,cr77⟩:=Qv Try.isAgg102 Try.sizeOf102 b76
     exact endm_ct rfl rfl ((show _=p2 from n9).trans hp77) xJ (show _=.int .i64 (3) from rfl) ⟨_,hfr,_,_,rfl,cr77,rfl⟩
    ·refine Qr aG rfl ?_
     refine Zf (Za (Zy (Gj p1 2) (Zc Qk bD (PT.ptr t5)) rfl ?_))
     have aM:=Zm (Gx).1 t5
     refine Ze .plain rfl (Gr (g:=cD) Try.isAgg23 Try.sizeOf23 rfl aM fun mO bM=>?_)
     refine Zy (.int .i64 (((x0).Shuttles).length:Int)) (Tw Try.underlying23 rfl bM) rfl ?_
     refine Zy (.bool ((decide ((((x0).Shuttles).length:Int) > (6:Int))))) (Td rfl rfl rfl) rfl ?_
     refine Zy (.bool ((decide ((((x0).Shuttles).length:Int) > (6:Int))))) (Tg rfl) rfl ?_
     refine Zb (Zd ?_)
     rcases Zt h with ⟨bG,h⟩ | ⟨bG,h⟩
     ·refine Qq bG rfl ?_
      refine Zf (Za (Ze .plain rfl (Gr (g:=cD) Try.isAgg102 Try.sizeOf102 zB i6 fun cM dM=>?_)))
      refine Ze .plain rfl (Gk (g:=cD) (v:=cM) Try.sizeOf102 n9 v8 rfl dM fun nO oO hs b82 cb=>?_)
      clear cb
      have hfr:=hfr.stp hs
      refine Zg (.int .i64 (5)) rfl rfl ?_
      refine Zb (Zd (Gw (Qu ?_)))
      refine Tc ?_
      obtain rfl:=sinj h
      obtain ⟨ad83,cv83,hp83,zJ,cr83⟩:=Qv Try.isAgg102 Try.sizeOf102 b82
      exact endm_ct rfl rfl ((show _=p2 from n9).trans hp83) zJ (show _=.int .i64 (5) from rfl) ⟨_,hfr,_,_,rfl,cr83,rfl⟩
     ·refine Qr bG rfl ?_
      obtain ⟨mB,hx,h⟩:=Gc h
      refine Th (fun e w=>∃ (g:Gh) ,Fr gI wI g w∧e 1=p1∧PT g.m w (x0:BoxLoom) p1∧e 2=p2∧OB 2002 g w 102 ((⟨⟨[],[],[]⟩⟩:Gf):Gf) p2∧OSF 2002 60200 0 g w 3 102 ((((⟨⟨[],[],[]⟩⟩:Gf)).BoxLoom).Boxes) p2∧OSF 2002 60201 1 g w 3 102 ((((⟨⟨[],[],[]⟩⟩:Gf)).BoxLoom).At) p2∧OSF 2002 60202 2 g w 87 102 ((((⟨⟨[],[],[]⟩⟩:Gf)).BoxLoom).Shuttles) p2∧e 4=p5∧PT g.m w ((⟨x0⟩:Gf):Gf) p5∧e 33=.bool (mB)) (fun Q' hQ=>?_) (fun gN pO hR=>?_)
      ·replace h := hx
       clear hx
       refine Zf (Za (Zy (Gj p1 2) (Zc Qk bD (PT.ptr t5)) rfl ?_))
       have eM:=Zm (Gx).1 t5
       refine Ze .plain rfl (Gr (g:=cD) Try.isAgg23 Try.sizeOf23 rfl eM fun qO iM=>?_)
       refine Zy (.int .i64 (((x0).Shuttles).length:Int)) (Tw Try.underlying23 rfl iM) rfl ?_
       refine Gu (.bool (((((x0).Shuttles).length:Int) == (0:Int)))) rfl rfl rfl rfl ?_
       refine Zg (.bool (((((x0).Shuttles).length:Int) == (0:Int)))) rfl rfl ?_
       refine Zb (Zd ?_)
       rcases Zt h with ⟨cG,h⟩ | ⟨cG,h⟩
       ·refine Qq cG rfl ?_
        refine Zu ?_
        obtain rfl:=sinj h
        exact hQ _ _ ⟨cD,hfr,bD,t5,n9,v8,u2_0_66,u2_1_66,u2_2_66,zB,i6,rfl⟩
       ·refine Qr cG rfl ?_
        refine Za (Zy (Gj p1 2) (Zc Qk bD (PT.ptr t5)) rfl ?_)
        have jM:=Zm (Gx).1 t5
        refine Ze .plain rfl (Gr (g:=cD) Try.isAgg23 Try.sizeOf23 rfl jM fun kM pM=>?_)
        refine Zo sI rfl ?_
        obtain ⟨lH,aK,h⟩:=Gc h
        refine Ze .plain rfl (Zp (g:=cD) (vs:=[kM,(.func (.func 83) #[] #[p5])]) en86 (.cons rfl (.cons rfl .nil)) (wk86 pM ⟨83,#[],#[p5],rfl,en83,fun g' w' hch a0 b0 r hu0 hr=>by exact Fn.mono (wk83 hu0 (i6.ch hch) hr) fun _ _ _ h=>RV_bool.2 h⟩ aK) fun qM iN rO hs hr=>?_)
        have hfr:=hfr.ext hs
        have t5:=t5.ext hs
        have u2_0_66:=u2_0_66.ext hs
        have u2_1_66:=u2_1_66.ext hs
        have u2_2_66:=u2_2_66.ext hs
        have v8:=v8.ext hs
        have i6:=i6.ext hs
        subst hr
        refine Zg (.bool (lH)) rfl rfl ?_
        refine Zb ?_
        obtain rfl:=sinj h
        exact hQ _ _ ⟨qM,hfr,bD,t5,n9,v8,u2_0_66,u2_1_66,u2_2_66,zB,i6,rfl⟩
      ·clear hx
       obtain ⟨mH,hfr,jJ,kJ,oE,lG,u2_0_98,u2_1_98,u2_2_98,mG,sG,yE⟩:=hR
       rcases Zt h with ⟨eG,h⟩ | ⟨eG,h⟩
       ·refine To (Eq.trans (show ev _ _ = .bool (mB) from yE) (congrArg Value.bool eG)) ?_
        refine Zf (Za (Ze .plain rfl (Gr (g:=mH) Try.isAgg102 Try.sizeOf102 mG sG fun bK cK=>?_)))
        refine Ze .plain rfl (Gk (g:=mH) (v:=bK) Try.sizeOf102 oE lG rfl cK fun jN kN hs b101 cb=>?_)
        clear cb
        have hfr:=hfr.stp hs
        refine Zg (.int .i64 (2)) rfl rfl ?_
        refine Zb (Zd (Gw (Qu ?_)))
        refine Tc ?_
        obtain rfl:=sinj h
        obtain ⟨ad102,cv102,hp102,lJ,cr102⟩:=Qv Try.isAgg102 Try.sizeOf102 b101
        exact endm_ct rfl rfl ((show _=p2 from oE).trans hp102) lJ (show _=.int .i64 (2) from rfl) ⟨_,hfr,_,_,rfl,cr102,rfl⟩
       ·refine Tk (Eq.trans (show ev _ _ = .bool (mB) from yE) (congrArg Value.bool eG)) ?_
        exact Zu (Qn (Zd (rJ ((⟨⟨[],[],[]⟩⟩:Gf)) _ _ ⟨mH,hfr,jJ,kJ,oE,lG,u2_0_98,u2_1_98,u2_2_98,mG,sG⟩ h)))
 ·rintro o0 rM lN ⟨dK, hfr, zE, yB, nH, oD, u2_0_103, u2_1_103, u2_2_103, oH, yD⟩ h
  refine Zf (Za (Ze .plain rfl (D_makeMap (g:=dK) (Ws pl_138) Bool 8043 fun pH mN cC hs m104=>?_)))
  have hfr:=hfr.stp hs
  have yB:=yB.stp hs
  have u2_0_103:=u2_0_103.stp hs rfl
  have u2_1_103:=u2_1_103.stp hs rfl
  have u2_2_103:=u2_2_103.stp hs rfl
  have oD:=oD.stp hs rfl
  have yD:=yD.stp hs
  refine Zg cC rfl rfl ?_
  refine Zb (Zd ?_)
  obtain ⟨vC,hx,h⟩:=Gc h
  refine Th (fun e w=>∃ (g:Gh) ,Fr gI wI g w∧e 1=p1∧PT g.m w (x0:BoxLoom) p1∧e 2=p2∧OB 2002 g w 102 (o0:Gf) p2∧OSF 2002 60200 0 g w 3 102 (((o0).BoxLoom).Boxes) p2∧OSF 2002 60201 1 g w 3 102 (((o0).BoxLoom).At) p2∧OSF 2002 60202 2 g w 87 102 (((o0).BoxLoom).Shuttles) p2∧e 4=p5∧PT g.m w ((⟨x0⟩:Gf):Gf) p5∧e 6=cC∧MP (Ws pl_138) 8043 g w (vC:List ((Vector Int 2) × Bool)) cC) (fun Q' hQ=>?_) (fun sM nN hR=>?_)
  ·replace h := hx
   clear hx
   refine Zf (Za (Zy (Gj p1 2) (Zc Qk zE (PT.ptr yB)) rfl ?_))
   have lK:=Zm (Gx).1 yB
   refine Ze .plain rfl (Gr (g:=pH) Try.isAgg23 Try.sizeOf23 rfl lK fun zD qH=>?_)
   refine Zy (.int .i64 (((x0).Shuttles).length:Int)) (Tw Try.underlying23 rfl qH) rfl ?_
   refine Zn (.int .i64 (0)) rfl rfl ?_
   refine Zb (Zd (Zr ?_))
   refine E_lp h (fun (s:(List ((Vector Int 2) × Bool)) × Int) e w=>∃ (g:Gh) ,Fr gI wI g w∧e 1=p1∧PT g.m w (x0:BoxLoom) p1∧e 2=p2∧OB 2002 g w 102 (o0:Gf) p2∧OSF 2002 60200 0 g w 3 102 (((o0).BoxLoom).Boxes) p2∧OSF 2002 60201 1 g w 3 102 (((o0).BoxLoom).At) p2∧OSF 2002 60202 2 g w 87 102 (((o0).BoxLoom).Shuttles) p2∧e 4=p5∧PT g.m w ((⟨x0⟩:Gf):Gf) p5∧e 6=cC∧MP (Ws pl_138) 8043 g w (s.1:List ((Vector Int 2) × Bool)) cC∧e 45=zD∧RV g.m w ((x0).Shuttles:List Zv) zD∧e 46=.int .i64 ((((x0).Shuttles).length:Int))∧e 47=.int .i64 (s.2)) ⟨pH,hfr,zE,yB,nH,oD,u2_0_103,u2_1_103,u2_2_103,oH,yD,rfl,m104,rfl,qH,rfl,rfl⟩ (fun X135 gH mJ=>?_)
   rintro ⟨nD,u3⟩ tM oN ⟨gG,hfr,cF,g8,dF,l8,u2_0_136,u2_1_136,u2_2_136,eF,n8,aE,aB,lE,l5,mE,lD⟩ h
   refine Zf (Za (Zy (.bool ((decide (u3 < (((x0).Shuttles).length:Int))))) (Td lD mE rfl) rfl ?_))
   refine Zb (Zd (Zf ?_))
   rcases Zt h with ⟨rE,h⟩ | ⟨rE,h⟩
   ·refine Qq rE rfl ?_
    refine Zu (Zd ?_)
    obtain ⟨uC,hx,h⟩:=Gc h
    refine Th (fun e w=>∃ (g:Gh) ,Fr gI wI g w∧e 1=p1∧PT g.m w (x0:BoxLoom) p1∧e 2=p2∧OB 2002 g w 102 (o0:Gf) p2∧OSF 2002 60200 0 g w 3 102 (((o0).BoxLoom).Boxes) p2∧OSF 2002 60201 1 g w 3 102 (((o0).BoxLoom).At) p2∧OSF 2002 60202 2 g w 87 102 (((o0).BoxLoom).Shuttles) p2∧e 4=p5∧PT g.m w ((⟨x0⟩:Gf):Gf) p5∧e 6=cC∧MP (Ws pl_138) 8043 g w (uC:List ((Vector Int 2) × Bool)) cC∧e 45=zD∧RV g.m w ((x0).Shuttles:List Zv) zD∧e 46=.int .i64 ((((x0).Shuttles).length:Int))∧e 47=.int .i64 (u3)) (fun Q' hQ=>?_) (fun uM pN hR=>?_)
    ·replace h := hx
     clear hx
     refine Zr ?_
     refine Zf (Za ?_)
     obtain ⟨l9,xG,h⟩:=Gc h
     refine Zy (Qc zD u3 5) (Zh (α:=Zv) Try.underlying23 Try.sizeOf87 lE l5 lD xG) rfl ?_
     have mK:=Tj l5 xG
     refine Ze .plain rfl (Gr (g:=gG) Try.isAgg87 Try.sizeOf87 rfl mK fun nK iG=>?_)
     refine Ze .plain rfl (Gs (g:=gG) 2008 (⟨0,0,0,⟨0,0⟩⟩:Zv) Try.zeroValue87 (fun m w=>⟨_,(Gg Zx (Gg Zx (Gg Zx (Gg Zx Zx)))),rfl⟩) fun oK qN sH hs b152 cb=>?_)
     have hfr:=hfr.stp hs
     have g8:=g8.stp hs
     have u2_0_136:=u2_0_136.stp hs rfl
     have u2_1_136:=u2_1_136.stp hs rfl
     have u2_2_136:=u2_2_136.stp hs rfl
     have l8:=l8.stp hs rfl
     have n8:=n8.stp hs
     have aB:=aB.stp hs rfl
     have l5:=l5.stp hs
     have iG:=iG.stp hs
     clear cb
     refine Ze .plain rfl (Gk (g:=oK) (v:=nK) Try.sizeOf87 rfl b152 rfl iG fun uE pK hs b153 cb=>?_)
     clear cb
     have hfr:=hfr.stp hs
     have g8:=g8.stp hs
     have u2_0_136:=u2_0_136.stp hs rfl
     have u2_1_136:=u2_1_136.stp hs rfl
     have u2_2_136:=u2_2_136.stp hs rfl
     have l8:=l8.stp hs rfl
     have n8:=n8.stp hs
     have aB:=aB.stp hs rfl
     have l5:=l5.stp hs
     refine Zb (Zd (Za (Zo aE rfl ?_)))
     refine Zy (Gj sH 1) (Zc Ww rfl (OB.ptr b153)) rfl ?_
     refine Ze .plain rfl (Kb (g:=uE) Qt.1 Try.isAgg3 Try.sizeOf3 rfl b153 fun rN qK=>?_)
     obtain rfl:=Zj.1 qK
     refine Zy (Gj sH 2) (Zc at_87_2 rfl (OB.ptr b153)) rfl ?_
     refine Ze .plain rfl (Kb (g:=uE) Wl.1 Try.isAgg3 Try.sizeOf3 rfl b153 fun sN sK=>?_)
     obtain rfl:=Zj.1 sK
     have tH:RV uE.m pK (⟨List.toArray [(l9).Side,(l9).Box],rfl⟩:Vector Int 2) (.agg (Wf [[.int .i64 0],[.int .i64 0]] [(0,.int .i64 ((l9).Side)),(1,.int .i64 ((l9).Box))]).flatten.toArray):=Wz rfl (Gt (Zw rfl (Zw rfl Gm)) rfl)
     generalize nJ:(Value.agg (Wf [[.int .i64 0],[.int .i64 0]] [(0,.int .i64 ((l9).Side)),(1,.int .i64 ((l9).Box))]).flatten.toArray)=tK at tH
     refine Zy tK (nJ ▸ P_buildA (vs:=[(0,.int .i64 ((l9).Side)),(1,.int .i64 ((l9).Box))]) [[.int .i64 0],[.int .i64 0]] Try.underlying138 layA_138 szA_3 rfl (by simp) (.cons rfl (.cons rfl .nil)) ⟨⟨_,rfl,rfl⟩,⟨⟨_,rfl,rfl⟩,trivial⟩⟩) rfl ?_
     refine Ze .plain rfl (D_mapUpdate (g:=uE) Try.underlying151 key_138 rfl aB (rfl.trans (encK_of pl_138 tH)) rfl (RV_bool.2 rfl) fun uK tN hs m159=>?_)
     have hfr:=hfr.stp hs
     have g8:=g8.stp hs
     have u2_0_136:=u2_0_136.stp hs rfl
     have u2_1_136:=u2_1_136.stp hs rfl
     have u2_2_136:=u2_2_136.stp hs rfl
     have l8:=l8.stp hs rfl
     have n8:=n8.stp hs
     have l5:=l5.stp hs
     refine Zb (Qn ?_)
     obtain rfl:=sinj h
     exact hQ _ _ ⟨uK,hfr,cF,g8,dF,l8,u2_0_136,u2_1_136,u2_2_136,eF,n8,aE,m159,lE,l5,mE,lD⟩
    ·clear hx
     obtain ⟨vK,hfr,uH,xH,yH,zH,u2_0_160,u2_1_160,u2_2_160,aI,bI,dI,iI,yG,zG,aH,cH⟩:=hR
     refine Za (Gu (.int .i64 ((w64 (u3 + (1:Int))))) cH rfl rfl rfl ?_)
     refine Zn (.int .i64 ((w64 (u3 + (1:Int))))) rfl rfl ?_
     exact Zb (Zd (mJ (uC,(w64 (u3 + (1:Int)))) _ _ ⟨vK,hfr,uH,xH,yH,zH,u2_0_160,u2_1_160,u2_2_160,aI,bI,dI,iI,yG,zG,aH,rfl⟩ h))
   ·refine Qr rE rfl ?_
    refine Qm ?_
    refine Tm ?_
    refine Tm ?_
    refine Tu ?_
    obtain rfl:=sinj h
    exact hQ _ _ ⟨gG,hfr,cF,g8,dF,l8,u2_0_136,u2_1_136,u2_2_136,eF,n8,aE,aB⟩
  ·clear hx
   obtain ⟨bE,hfr,jI,rF,iE,sF,u2_0_161,u2_1_161,u2_2_161,tF,uF,kI,lI⟩:=hR
   refine Zq h (fun (s:Gf) e w=>∃ (g:Gh) ,Fr gI wI g w∧e 2=p2∧OB 2002 g w 102 (s:Gf) p2∧OSF 2002 60200 0 g w 3 102 (((s).BoxLoom).Boxes) p2∧OSF 2002 60201 1 g w 3 102 (((s).BoxLoom).At) p2∧OSF 2002 60202 2 g w 87 102 (((s).BoxLoom).Shuttles) p2∧e 4=p5∧PT g.m w ((⟨x0⟩:Gf):Gf) p5) (fun X168 kH oJ h=>?_) ?_
   ·refine Zf (Za (Zo kI rfl ?_))
    refine Ze .plain rfl (P_lenMap (g:=bE) Try.underlying151 rfl lI ?_)
    refine Zy (Gj p1 2) (Zc Qk jI (PT.ptr rF)) rfl ?_
    have xK:=Zm (Gx).1 rF
    refine Ze .plain rfl (Gr (g:=bE) Try.isAgg23 Try.sizeOf23 rfl xK fun uN yK=>?_)
    refine Zy (.int .i64 (((x0).Shuttles).length:Int)) (Tw Try.underlying23 rfl yK) rfl ?_
    refine Zy (.bool ((decide (((vC).length:Int) < (((x0).Shuttles).length:Int))))) (Td rfl rfl rfl) rfl ?_
    refine Zb (Zd ?_)
    rcases Zt h with ⟨vE,h⟩ | ⟨vE,h⟩
    ·refine Qq vE rfl ?_
     refine Zf (Za (Ze .plain rfl (Gr (g:=bE) Try.isAgg102 Try.sizeOf102 tF uF fun zK aL=>?_)))
     refine Ze .plain rfl (Gk (g:=bE) (v:=zK) Try.sizeOf102 iE sF rfl aL fun vN xN hs b173 cb=>?_)
     clear cb
     have hfr:=hfr.stp hs
     refine Zg (.int .i64 (6)) rfl rfl ?_
     refine Zb (Zd (Gw (Tc ?_)))
     obtain rfl:=sinj h
     obtain ⟨ad174,cv174,hp174,pJ,cr174⟩:=Qv Try.isAgg102 Try.sizeOf102 b173
     exact endm_ct rfl rfl ((show _=p2 from iE).trans hp174) pJ (show _=.int .i64 (6) from rfl) ⟨_,hfr,_,_,rfl,cr174,rfl⟩
    ·refine Qr vE rfl ?_
     exact Zu (Zd (oJ (o0) _ _ ⟨bE,hfr,iE,sF,u2_0_161,u2_1_161,u2_2_161,tF,uF⟩ h))
   ·rintro jH vM yN ⟨mI, hfr, vF, nI, u2_0_175, u2_1_175, u2_2_175, pI, qI⟩ h
    refine Zf (Za (Ze .plain rfl (Gr (g:=mI) Try.isAgg102 Try.sizeOf102 pI qI fun bL dL=>?_)))
    refine Ze .plain rfl (Gk (g:=mI) (v:=bL) Try.sizeOf102 vF nI rfl dL fun zN aO hs b177 cb=>?_)
    clear cb
    have hfr:=hfr.stp hs
    refine Zg (.int .i64 (0)) rfl rfl ?_
    refine Zb (Zd (Gw ?_))
    obtain rfl:=sinj h
    obtain ⟨ad178,cv178,hp178,qJ,cr178⟩:=Qv Try.isAgg102 Try.sizeOf102 b177
    exact endm_ct rfl rfl ((show _=p2 from vF).trans hp178) qJ (show _=.int .i64 (0) from rfl) ⟨_,hfr,_,_,rfl,cr178,rfl⟩
def f74 (x0:BoxLoom) (x1:List Ge):Option (Gf × Int):=
 (f51 x0).bind fun y5=>
 jn (σ:=Gf) (fun aB=>
  some (y5.1,(0:Int))
  ) fun oB=>
 bif (y5.2 != (0 : Int)) then
  some (y5.1,y5.2)
 else
  bif (decide (((x1).length : Int) > (24 : Int))) then
   some (y5.1,(5:Int))
  else
   (f96 x1 ((fun a0=>f95 a0 (y5.1)))).bind fun l9=>
   bif l9 then
    some (y5.1,(2:Int))
   else
    oB ((⟨⟨[],[],[]⟩⟩:Gf))
theorem en74:Enters Try.prog 74:=enters_of Try.func74 (by kernel_rfl) rfl
theorem wk74 {gI:Gh} {wI:World} {x0:BoxLoom} {x1:List Ge} {up0:Value} (rp0:RV gI.m wI x0 up0) {up1:Value} (rp1:RV gI.m wI x1 up1) {r:Gf × Int} (h:f74 x0 x1=some r):Fn Try.prog 74 #[up0,up1] gI wI (fun m w v=>∃ y0 y1,v=.tuple #[y0,y1]∧RV m w (r.1) y0∧y1=.int .i64 (r.2)):=by
 unfold f74 at h
 refine Tf Try.func74 rfl (Nat.le_of_ble_eq_true rfl) fun g0 hm hfr=>?_
 have rp0:RV g0.m wI x0 up0:=hm ▸ rp0
 have rp1:RV g0.m wI x1 up1:=hm ▸ rp1
 show E _ 31 none _ _ _ _ _
 refine Zf (Za (Ze .plain rfl (We (g:=g0) rfl rp0 fun g1 w1 p1 hs q1=>?_)))
 have hfr:=hfr.ext hs
 have rp1:=rp1.ext hs
 refine Ze .plain rfl (Gs (g:=g1) 2004 (⟨⟨[],[],[]⟩⟩:Gf) Try.zeroValue102 (fun m w=>⟨_,(Gg Gz (Gg Gz Gz)),rfl⟩) fun g2 w2 p2 hs b2 cb=>?_)
 have hfr:=hfr.stp hs
 have rp1:=rp1.stp hs
 have q1:=q1.stp hs
 have o0:OSF 2004 60400 0 g2 w2 3 102 ([]:List Int) p2:=cb.osf (by rfl)
 have u3:OSF 2004 60401 1 g2 w2 3 102 ([]:List Int) p2:=cb.osf (by rfl)
 have l5:OSF 2004 60402 2 g2 w2 87 102 ([]:List Zv) p2:=cb.osf (by rfl)
 clear cb
 refine Zg (.int .i64 (0)) rfl rfl ?_
 refine Zb (Zd (Zf (Za (Ze .plain rfl (Gr (g:=g2) Try.isAgg25 Try.sizeOf25 rfl q1 fun v3 r3=>?_)))))
 obtain ⟨y5,hy5,h⟩:=Gc h
 refine Ze .plain rfl (Zp (g:=g2) (vs:=[v3]) en51 (.cons rfl .nil) (wk51 r3 hy5) fun g4 w4_ v4 hs hr=>?_)
 have hfr:=hfr.ext hs
 have rp1:=rp1.ext hs
 have o0:=o0.ext hs
 have u3:=u3.ext hs
 have l5:=l5.ext hs
 have b2:=b2.ext hs
 obtain ⟨t5,iE,rfl,i6,rfl⟩:=hr
 refine Zn (.tuple #[t5,.int .i64 (y5.2)]) rfl rfl ?_
 refine Zy t5 (Zi rfl rfl) rfl ?_
 refine Zy (.int .i64 (y5.2)) (Zi rfl rfl) rfl ?_
 refine Ze .plain rfl (Gs (g:=g4) 2006 (⟨⟨[],[],[]⟩⟩:Gf) Try.zeroValue102 (fun m w=>⟨_,(Gg Gz (Gg Gz Gz)),rfl⟩) fun g6 w6 p6 hs b6 cb=>?_)
 have hfr:=hfr.stp hs
 have rp1:=rp1.stp hs
 have o0:=o0.stp hs rfl
 have u3:=u3.stp hs rfl
 have l5:=l5.stp hs rfl
 have b2:=b2.stp hs rfl
 have i6:=i6.stp hs
 have lE:OSF 2006 60600 0 g6 w6 3 102 ([]:List Int) p6:=cb.osf (by rfl)
 have mE:OSF 2006 60601 1 g6 w6 3 102 ([]:List Int) p6:=cb.osf (by rfl)
 have oE:OSF 2006 60602 2 g6 w6 87 102 ([]:List Zv) p6:=cb.osf (by rfl)
 clear cb
 refine Ze .plain rfl (Gk (g:=g6) (v:=t5) Try.sizeOf102 rfl b6 rfl i6 fun g7 w7 hs b7 cb=>?_)
 clear cb
 have hfr:=hfr.stp hs
 have rp1:=rp1.stp hs
 have o0:=o0.stp hs rfl
 have u3:=u3.stp hs rfl
 have l5:=l5.stp hs rfl
 have b2:=b2.stp hs rfl
 obtain ⟨gp7,hs,qp7⟩:=OB.pub b7
 have hfr:=hfr.stp hs
 have rp1:=rp1.stp hs
 have o0:=o0.stp hs rfl
 have u3:=u3.stp hs rfl
 have l5:=l5.stp hs rfl
 have b2:=b2.stp hs rfl
 refine Zg (.int .i64 (y5.2)) rfl rfl ?_
 refine Zb (Zd (Zf (Za (Zy ((.func (.func 95) #[] #[p6])) (P_makeFunc (capf_0_1 (show ev _ _=p6 from rfl))) rfl ?_))))
 refine Zg ((.func (.func 95) #[] #[p6])) rfl rfl ?_
 refine Zb (Zd (Zq h (fun (s:Gf) e w=>∃ (g:Gh) ,Fr gI wI g w∧e 4=p2∧OB 2004 g w 102 (s:Gf) p2∧OSF 2004 60400 0 g w 3 102 (((s).BoxLoom).Boxes) p2∧OSF 2004 60401 1 g w 3 102 (((s).BoxLoom).At) p2∧OSF 2004 60402 2 g w 87 102 (((s).BoxLoom).Shuttles) p2∧e 6=p6∧PT g.m w (y5.1:Gf) p6) (fun X22 oB yB h=>?_) ?_))
 ·refine Zr ?_
  refine Zf (Za (Zn (.int .i64 (y5.2)) rfl rfl ?_))
  refine Gu (.bool ((y5.2 != (0:Int)))) rfl rfl rfl rfl ?_
  refine Zg (.bool ((y5.2 != (0:Int)))) rfl rfl ?_
  refine Zb (Zd ?_)
  rcases Zt h with ⟨g8,h⟩ | ⟨g8,h⟩
  ·refine Qq g8 rfl ?_
   refine Zf (Za (Ze .plain rfl (Gr (g:=gp7) Try.isAgg102 Try.sizeOf102 rfl qp7 fun cD lD=>?_)))
   refine Zn (.int .i64 (y5.2)) rfl rfl ?_
   refine Ze .plain rfl (Gk (g:=gp7) (v:=cD) Try.sizeOf102 rfl b2 rfl lD fun vE xE hs b25 cb=>?_)
   clear cb
   have hfr:=hfr.stp hs
   refine Zg (.int .i64 (y5.2)) rfl rfl ?_
   refine Zb (Zd (Gw (Qu ?_)))
   refine Tc ?_
   obtain rfl:=sinj h
   obtain ⟨ad26,cv26,hp26,zB,cr26⟩:=Qv Try.isAgg102 Try.sizeOf102 b25
   exact endm_ct rfl rfl ((show _=p2 from rfl).trans hp26) zB (show _=.int .i64 (y5.2) from rfl) ⟨_,hfr,_,_,rfl,cr26,rfl⟩
  ·refine Qr g8 rfl ?_
   refine Zf (Za (Zn up1 rfl rfl ?_))
   refine Zy (.int .i64 ((x1).length:Int)) (Tw Try.underlying30 rfl rp1) rfl ?_
   refine Gu (.bool ((decide (((x1).length:Int) > (24:Int))))) rfl rfl rfl rfl ?_
   refine Zg (.bool ((decide (((x1).length:Int) > (24:Int))))) rfl rfl ?_
   refine Zb (Zd ?_)
   rcases Zt h with ⟨l8,h⟩ | ⟨l8,h⟩
   ·refine Qq l8 rfl ?_
    refine Zf (Za (Ze .plain rfl (Gr (g:=gp7) Try.isAgg102 Try.sizeOf102 rfl qp7 fun nD oD=>?_)))
    refine Ze .plain rfl (Gk (g:=gp7) (v:=nD) Try.sizeOf102 rfl b2 rfl oD fun yE w29 hs b29 cb=>?_)
    clear cb
    have hfr:=hfr.stp hs
    refine Zg (.int .i64 (5)) rfl rfl ?_
    refine Zb (Zd (Gw (Qu ?_)))
    refine Tc ?_
    obtain rfl:=sinj h
    obtain ⟨ad30,cv30,hp30,cC,cr30⟩:=Qv Try.isAgg102 Try.sizeOf102 b29
    exact endm_ct rfl rfl ((show _=p2 from rfl).trans hp30) cC (show _=.int .i64 (5) from rfl) ⟨_,hfr,_,_,rfl,cr30,rfl⟩
   ·refine Qr l8 rfl ?_
    refine Zf (Za (Zn up1 rfl rfl ?_))
    refine Zn ((.func (.func 95) #[] #[p6])) rfl rfl ?_
    obtain ⟨l9,uC,h⟩:=Gc h
    refine Ze .plain rfl (Zp (g:=gp7) (vs:=[up1,(.func (.func 95) #[] #[p6])]) en96 (.cons rfl (.cons rfl .nil)) (wk96 rp1 ⟨95,#[],#[p6],rfl,en95,fun g' w' hch a0 b0 r hu0 hr=>by exact Fn.mono (wk95 hu0 (qp7.ch hch) hr) fun _ _ _ h=>RV_bool.2 h⟩ uC) fun n9 rE zE hs hr=>?_)
    have hfr:=hfr.ext hs
    have o0:=o0.ext hs
    have u3:=u3.ext hs
    have l5:=l5.ext hs
    have b2:=b2.ext hs
    have qp7:=qp7.ext hs
    subst hr
    refine Zg (.bool (l9)) rfl rfl ?_
    refine Zb (Zd ?_)
    rcases Zt h with ⟨n8,h⟩ | ⟨n8,h⟩
    ·refine Qq n8 rfl ?_
     refine Zf (Za (Ze .plain rfl (Gr (g:=n9) Try.isAgg102 Try.sizeOf102 rfl qp7 fun yD zD=>?_)))
     refine Ze .plain rfl (Gk (g:=n9) (v:=yD) Try.sizeOf102 rfl b2 rfl zD fun cF dF hs b35 cb=>?_)
     clear cb
     have hfr:=hfr.stp hs
     refine Zg (.int .i64 (2)) rfl rfl ?_
     refine Zb (Zd (Gw (Qu ?_)))
     refine Tc ?_
     obtain rfl:=sinj h
     obtain ⟨ad36,cv36,hp36,vC,cr36⟩:=Qv Try.isAgg102 Try.sizeOf102 b35
     exact endm_ct rfl rfl ((show _=p2 from rfl).trans hp36) vC (show _=.int .i64 (2) from rfl) ⟨_,hfr,_,_,rfl,cr36,rfl⟩
    ·refine Qr n8 rfl ?_
     exact Zu (Qn (Zd (yB ((⟨⟨[],[],[]⟩⟩:Gf)) _ _ ⟨n9,hfr,rfl,b2,o0,u3,l5,rfl,qp7⟩ h)))
 ·rintro aB uE eF ⟨vB, hfr, v8, lB, u4_0_37, u4_1_37, u4_2_37, mB, nB⟩ h
  refine Zf (Za (Ze .plain rfl (Gr (g:=vB) Try.isAgg102 Try.sizeOf102 mB nB fun aE bE=>?_)))
  refine Ze .plain rfl (Gk (g:=vB) (v:=aE) Try.sizeOf102 v8 lB rfl bE fun rF sF hs b39 cb=>?_)
  clear cb
  have hfr:=hfr.stp hs
  refine Zg (.int .i64 (0)) rfl rfl ?_
  refine Zb (Zd (Gw ?_))
  obtain rfl:=sinj h
  obtain ⟨ad40,cv40,hp40,bD,cr40⟩:=Qv Try.isAgg102 Try.sizeOf102 b39
  exact endm_ct rfl rfl ((show _=p2 from v8).trans hp40) bD (show _=.int .i64 (0) from rfl) ⟨_,hfr,_,_,rfl,cr40,rfl⟩
theorem N56 {iO:Nat} {gI:Gh} {wI:World} {x0:Gf} {up0:Value} (rp0:RV gI.m wI x0 up0) {r:Tn} (h:f56 x0=some r):FnG Try.prog 56 #[up0] gI wI (fun g w v=>∃ kv,PT g.m w r v∧FC g.m w 2 kv v∧MP (Ws Ty) iO g w ([]:List (Gd × Int)) kv):=by
 unfold f56 at h
 refine fnG_of_E Try.func56 rfl (Nat.le_of_ble_eq_true rfl) fun g0 hm hfr=>?_
 have rp0:RV g0.m wI x0 up0:=hm ▸ rp0
 show E _ 16 none _ _ _ _ _
 refine Zf (Za (Ze .plain rfl (We (g:=g0) rfl rp0 fun g1 w1 p1 hs q1=>?_)))
 have hfr:=hfr.ext hs
 refine Zg (.pointer none) rfl rfl ?_
 refine Zb (Zd (Zf ?_))
 have q2:=Zm (Tq).1 q1
 have q3:=Zm (Ts).1 q2
 refine Zs (x:=.tmp 4) Try.isAgg22 Try.sizeOf22 q3 fun v4 r4 nB=>?_
 obtain ⟨y5,hy5,h⟩:=Gc h
 have q6:=Tj r4 hy5
 refine Zs (x:=.tmp 6) Try.isAgg3 Try.sizeOf3 q6 fun v7 r7 hl7=>?_
 obtain rfl:=Zj.1 r7
 have q8:=Zm (Tq).1 q1
 have q9:=Zm (Ts).1 q8
 refine Zs (x:=.tmp 9) Try.isAgg22 Try.sizeOf22 q9 fun i6 g8 lB=>?_
 obtain ⟨y11,l5,h⟩:=Gc h
 have oB:=Tj g8 l5
 refine Zs (x:=.tmp 11) Try.isAgg3 Try.sizeOf3 oB fun zB vB mB=>?_
 obtain rfl:=Zj.1 vB
 refine E_drawTL (g:=g1) (n:=10) [0,1,2,3,4,5,6,7,8,9] [] [0,1,2,3,4,5,6,7,8,9] rfl Qf (by kernel_rfl) trivial rfl ?_
 refine L_purL (c:=Gj p1 0) rfl rfl .plain (Zc Ka rfl (PT.ptr q1)) ?_
 refine L_purL (c:=Gj (Gj p1 0) 0) rfl rfl .plain (Zc Wo rfl (PT.ptr q2)) ?_
 refine L_ldL (c:=v4) rfl rfl .plain (fun _ _ h=>h.ch) rfl nB rfl ?_
 refine L_purL (c:=Qc v4 (0:Int) 1) rfl rfl .plain (Zh (α:=Int) Try.underlying22 Try.sizeOf3 rfl r4 rfl hy5) ?_
 refine L_ldL (c:=.int .i64 (y5)) rfl rfl .plain (fun _ _ h=>h.ch) rfl hl7 rfl ?_
 refine L_purL (c:=Gj p1 0) rfl rfl .plain (Zc Ka rfl (PT.ptr q1)) ?_
 refine L_purL (c:=Gj (Gj p1 0) 0) rfl rfl .plain (Zc Wo rfl (PT.ptr q8)) ?_
 refine L_ldL (c:=i6) rfl rfl .plain (fun _ _ h=>h.ch) rfl lB rfl ?_
 refine L_purL (c:=Qc i6 (1:Int) 1) rfl rfl .plain (Zh (α:=Int) Try.underlying22 Try.sizeOf3 rfl g8 rfl l5) ?_
 refine L_ldL (c:=.int .i64 (y11)) rfl rfl .plain (fun _ _ h=>h.ch) rfl mB rfl ?_
 refine L_nl fun l8 yB hs=>?_
 have hlt:Lt g1.m w1 l8 yB:=hs.ch
 have hfr:=hfr.ext hs
 clear hs
 refine TL_do hlt.w .plain rfl (D_makeMap (g:=l8) (Ws Ty) Int 8013 fun u3 n8 o0 hs m28=>?_)
 have hfr:=hfr.stp hs
 have hlt:=hlt.stp hs
 have v8:RV u3.m _ (⟨y5,y11,⟨⟩⟩:Tn) (.agg (Wf [[.int .i64 0],[.int .i64 0],[.map none]] [(0,.int .i64 (y5)),(1,.int .i64 (y11)),(2,o0)]).flatten.toArray):=Wz rfl (Qp (rfl) (Qp (rfl) (Kd (RV.cells (m28.ref (m:=u3.m) (w':=n8))))))
 generalize t5:(Value.agg (Wf [[.int .i64 0],[.int .i64 0],[.map none]] [(0,.int .i64 (y5)),(1,.int .i64 (y11)),(2,o0)]).flatten.toArray)=l9 at v8
 refine TL_pur hlt.w (v:=l9) (t5 ▸ P_build (vs:=[(0,.int .i64 (y5)),(1,.int .i64 (y11)),(2,o0)]) [[.int .i64 0],[.int .i64 0],[.map none]] lay_154 rfl rfl (.cons rfl (.cons rfl (.cons rfl .nil))) ⟨⟨_,rfl,rfl⟩,⟨⟨_,rfl,rfl⟩,⟨⟨_,rfl,Qs (m28.ref (m:=u3.m) (w':=n8))⟩,trivial⟩⟩⟩) .plain rfl ?_
 refine TL_do hlt.w .plain rfl (D_boxF (g:=u3) (v:=l9) (off:=2) (u:=o0) rfl v8 (by rw [← t5]; simp only [Wf,mp_cells m28]; rfl) fun cC uC n9 hs aB fc30=>?_)
 have hfr:=hfr.ext hs
 have hlt:=hlt.ext hs
 have m28:=m28.ext hs
 have hone500215:=PT.one aB
 refine TL_pur hlt.w (v:=n9) (Tg rfl) .plain rfl ?_
 refine TL_nil hlt.w ?_
 clear hlt
 refine Zd (Gw ?_)
 obtain rfl:=sinj h
 obtain ⟨gh,hxh,hmh,mph⟩:=MP.handm (i:=iO) hfr m28
 exact Wb rfl rfl (show _=n9 from rfl) ⟨gh,hxh,o0,hmh ▸ aB,hmh ▸ fc30,mph⟩
noncomputable def f25 (x0:BoxLoom) (x1:List (List Int)):Option ((List Int) × Int × Int):=
 (f51 x0).bind fun y4=>
 jn (σ:=(List Int)) (fun zE=>
  (f56 (y4.1)).bind fun oD=>
  (f54 (y4.1) ((fun a0 a1=>f55 a0 a1))).bind fun sH=>
  (f65 ((⟨0,0,sH⟩:Gd)) x1).bind fun xG=>
  jn (σ:=(List Int) × Int × (List (Gd × Int))) (fun (yG,aB,yD)=>
   jn (σ:=(List Int) × (List (Gd × Int))) (fun (sF,xE)=>
    some (sF,aB,(0:Int))
    ) fun k82=>
   (f66 x1).bind fun y84=>
   lp (σ:=(List Int) × Option (List (Gd × Int)) × Int × (List (Gd × Int))) (fun lK (iE,tF,l9,lB)=>
    bif (decide (l9 < ((y84).length : Int))) then
     jn (σ:=(List Int) × Option (List (Gd × Int)) × (List (Gd × Int))) (fun (oE,bE,yB)=>
      lK (oE,bE,(w64 (l9 + (1:Int))),yB)
      ) fun mK=>
     (tF).bind fun y98=>
     (f67 oD lB x1 y98 aB).bind fun nK=>
     callL nK fun uC=>
     (apnd 8 iE (([uC.1]:List Int))).bind fun cG=>
     mK (cG,uC.2.1,uC.2.2)
    else
     k82 (iE,lB)
    ) big (yG,(some ((mset (([]:List (Gd × Int))) xG ((0:Int))))),(0:Int),yD)
   ) fun k48=>
  (f57 big oD (([]:List (Gd × Int))) x1 xG).bind fun zD=>
  bif (decide (zD.1 ≥ (1073741824 : Int))) then
   some ([],(0:Int),(9:Int))
  else
   k48 (zE,zD.1,zD.2)
  ) fun k19=>
 bif (y4.2 != (0 : Int)) then
  some ([],(0:Int),y4.2)
 else
  Option.bind (α:=Bool) (
   bif (decide (((x1).length : Int) > (8 : Int))) then
    some ((decide (((x1).length:Int) > (8:Int))))
   else
    (f64 x1 ((fun a0=>f62 a0))).bind fun tH=>
    some (tH)
   ) fun vC=>
  bif vC then
   some ([],(0:Int),(5:Int))
  else
   (f64 x1 ((fun a0=>f63 a0))).bind fun uH=>
   bif uH then
    some ([],(0:Int),(2:Int))
   else
    k19 ([])
theorem en25:Enters Try.prog 25:=enters_of Try.func25 (by kernel_rfl) rfl
theorem wk25 {gI:Gh} {wI:World} {x0:BoxLoom} {x1:List (List Int)} {up0:Value} (rp0:RV gI.m wI x0 up0) {up1:Value} (rp1:RV gI.m wI x1 up1) {r:(List Int) × Int × Int} (h:f25 x0 x1=some r):Fn Try.prog 25 #[up0,up1] gI wI (fun m w v=>∃ y0 y1 y2,v=.tuple #[y0,y1,y2]∧RV m w (r.1) y0∧y1=.int .i64 (r.2.1)∧y2=.int .i64 (r.2.2)):=by
 unfold f25 at h
 refine Tf Try.func25 rfl (Nat.le_of_ble_eq_true rfl) fun g0 hm hfr=>?_
 have rp0:RV g0.m wI x0 up0:=hm ▸ rp0
 have rp1:RV g0.m wI x1 up1:=hm ▸ rp1
 show E _ 72 none _ _ _ _ _
 refine Zf (Za (Ze .plain rfl (We (g:=g0) rfl rp0 fun g1 w1 p1 hs q1=>?_)))
 have hfr:=hfr.ext hs
 have rp1:=rp1.ext hs
 refine Zg (.slice none 0 0) rfl rfl ?_
 refine Zg (.int .i64 (0)) rfl rfl ?_
 refine Zg (.int .i64 (0)) rfl rfl ?_
 refine Zb (Zd (Zf (Za (Ze .plain rfl (Gr (g:=g1) Try.isAgg25 Try.sizeOf25 rfl q1 fun v2 r2=>?_)))))
 obtain ⟨y4,jM,h⟩:=Gc h
 refine Ze .plain rfl (Zp (g:=g1) (vs:=[v2]) en51 (.cons rfl .nil) (wk51 r2 jM) fun g3 w3_ v3 hs hr=>?_)
 have hfr:=hfr.ext hs
 have rp1:=rp1.ext hs
 obtain ⟨eG,rN,rfl,gG,rfl⟩:=hr
 refine Zn (.tuple #[eG,.int .i64 (y4.2)]) rfl rfl ?_
 refine Zy eG (Zi rfl rfl) rfl ?_
 refine Zy (.int .i64 (y4.2)) (Zi rfl rfl) rfl ?_
 refine Ze .plain rfl (Gs (g:=g3) 2007 (⟨⟨[],[],[]⟩⟩:Gf) Try.zeroValue102 (fun m w=>⟨_,(Gg Gz (Gg Gz Gz)),rfl⟩) fun g5 w5 p5 hs b5 cb=>?_)
 have hfr:=hfr.stp hs
 have rp1:=rp1.stp hs
 have gG:=gG.stp hs
 have sN:OSF 2007 60700 0 g5 w5 3 102 ([]:List Int) p5:=cb.osf (by rfl)
 have tN:OSF 2007 60701 1 g5 w5 3 102 ([]:List Int) p5:=cb.osf (by rfl)
 have uN:OSF 2007 60702 2 g5 w5 87 102 ([]:List Zv) p5:=cb.osf (by rfl)
 clear cb
 refine Ze .plain rfl (Gk (g:=g5) (v:=eG) Try.sizeOf102 rfl b5 rfl gG fun g6 w6 hs b6 cb=>?_)
 clear cb
 have hfr:=hfr.stp hs
 have rp1:=rp1.stp hs
 refine Zg (.int .i64 (y4.2)) rfl rfl ?_
 refine Zb (Zd (Zf (Za (Zg (.func (.func 62) #[] #[]) rfl rfl ?_))))
 refine Zb (Zd (Zf (Za (Zg (.func (.func 63) #[] #[]) rfl rfl ?_))))
 refine Zb (Zd (Zq h (fun (s:(List Int)) e w=>∃ (g:Gh) (v4:Value),Fr gI wI g w∧e 1=up1∧RV g.m w (x1:List (List Int)) up1∧e 4=v4∧RV g.m w (s:List Int) v4∧OS 1004 g w 3 (s:List Int) v4∧e 7=p5∧OB 2007 g w 102 (y4.1:Gf) p5) (fun X19 k19 aL h=>?_) ?_))
 ·refine Zr ?_
  refine Zf (Za (Zn (.int .i64 (y4.2)) rfl rfl ?_))
  refine Gu (.bool ((y4.2 != (0:Int)))) rfl rfl rfl rfl ?_
  refine Zg (.bool ((y4.2 != (0:Int)))) rfl rfl ?_
  refine Zb (Zd ?_)
  rcases Zt h with ⟨iG,h⟩ | ⟨iG,h⟩
  ·refine Qq iG rfl ?_
   refine Zf (Za (Zn (.int .i64 (y4.2)) rfl rfl ?_))
   refine Zg (.slice none 0 0) rfl rfl ?_
   refine Zg (.int .i64 (0)) rfl rfl ?_
   refine Zg (.int .i64 (y4.2)) rfl rfl ?_
   refine Zb (Zd (Gw (Qu ?_)))
   refine Tc ?_
   obtain rfl:=sinj h
   exact end3 rfl rfl (show _=.slice none 0 0 from rfl) (show _=.int .i64 (0) from rfl) (show _=.int .i64 (y4.2) from rfl) ⟨_,hfr,_,_,_,rfl,RV_nil,rfl,rfl⟩
  ·refine Qr iG rfl ?_
   obtain ⟨vC,hx,h⟩:=Gc h
   refine Th (fun e w=>∃ (g:Gh) ,Fr gI wI g w∧e 1=up1∧RV g.m w (x1:List (List Int)) up1∧e 4=.slice none 0 0∧RV g.m w ([]:List Int) (Value.slice none 0 0)∧e 7=p5∧OB 2007 g w 102 (y4.1:Gf) p5∧e 9=.func (.func 63) #[] #[]∧e 24=.bool (vC)) (fun Q' hQ=>?_) (fun vN rO hR=>?_)
   ·replace h := hx
    clear hx
    refine Zf (Za (Zn up1 rfl rfl ?_))
    refine Zy (.int .i64 ((x1).length:Int)) (Tw Try.underlying42 rfl rp1) rfl ?_
    refine Gu (.bool ((decide (((x1).length:Int) > (8:Int))))) rfl rfl rfl rfl ?_
    refine Zg (.bool ((decide (((x1).length:Int) > (8:Int))))) rfl rfl ?_
    refine Zb (Zd ?_)
    rcases Zt h with ⟨jG,h⟩ | ⟨jG,h⟩
    ·refine Qq jG rfl ?_
     refine Zu ?_
     obtain rfl:=sinj h
     exact hQ _ _ ⟨g6,hfr,rfl,rp1,rfl,RV_nil,rfl,b6,rfl,rfl⟩
    ·refine Qr jG rfl ?_
     refine Za (Zn up1 rfl rfl ?_)
     refine Zn (.func (.func 62) #[] #[]) rfl rfl ?_
     obtain ⟨tH,bL,h⟩:=Gc h
     refine Ze .plain rfl (Zp (g:=g6) (vs:=[up1,.func (.func 62) #[] #[]]) en64 (.cons rfl (.cons rfl .nil)) (wk64 rp1 ⟨62,#[],#[],rfl,en62,fun g' w' hch a0 b0 r hu0 hr=>by exact Fn.mono (wk62 hu0  hr) fun _ _ _ h=>RV_bool.2 h⟩ bL) fun kM xN sO hs hr=>?_)
     have hfr:=hfr.ext hs
     have rp1:=rp1.ext hs
     have b6:=b6.ext hs
     subst hr
     refine Zg (.bool (tH)) rfl rfl ?_
     refine Zb ?_
     obtain rfl:=sinj h
     exact hQ _ _ ⟨kM,hfr,rfl,rp1,rfl,RV_nil,rfl,b6,rfl,rfl⟩
   ·clear hx
    obtain ⟨pM,hfr,zG,lE,qJ,cF,rJ,dF,sJ,uF⟩:=hR
    rcases Zt h with ⟨kG,h⟩ | ⟨kG,h⟩
    ·refine To (Eq.trans (show ev _ _ = .bool (vC) from uF) (congrArg Value.bool kG)) ?_
     refine Zf (Za (Zg (.slice none 0 0) rfl rfl ?_))
     refine Zg (.int .i64 (0)) rfl rfl ?_
     refine Zg (.int .i64 (5)) rfl rfl ?_
     refine Zb (Zd (Gw (Qu ?_)))
     refine Tc ?_
     obtain rfl:=sinj h
     exact end3 rfl rfl (show _=.slice none 0 0 from rfl) (show _=.int .i64 (0) from rfl) (show _=.int .i64 (5) from rfl) ⟨_,hfr,_,_,_,rfl,RV_nil,rfl,rfl⟩
    ·refine Tk (Eq.trans (show ev _ _ = .bool (vC) from uF) (congrArg Value.bool kG)) ?_
     refine Zf (Za (Zo zG rfl ?_))
     refine Zo sJ rfl ?_
     obtain ⟨uH,dL,h⟩:=Gc h
     refine Ze .plain rfl (Zp (g:=pM) (vs:=[up1,.func (.func 63) #[] #[]]) en64 (.cons rfl (.cons rfl .nil)) (wk64 lE ⟨63,#[],#[],rfl,en63,fun g' w' hch a0 b0 r hu0 hr=>by exact Fn.mono (wk63 hu0  hr) fun _ _ _ h=>RV_bool.2 h⟩ dL) fun qM yN tO hs hr=>?_)
     have hfr:=hfr.ext hs
     have lE:=lE.ext hs
     have cF:=cF.ext hs
     have dF:=dF.ext hs
     subst hr
     refine Zg (.bool (uH)) rfl rfl ?_
     refine Zb (Zd ?_)
     rcases Zt h with ⟨lG,h⟩ | ⟨lG,h⟩
     ·refine Qq lG rfl ?_
      refine Zf (Za (Zg (.slice none 0 0) rfl rfl ?_))
      refine Zg (.int .i64 (0)) rfl rfl ?_
      refine Zg (.int .i64 (2)) rfl rfl ?_
      refine Zb (Zd (Gw (Qu ?_)))
      refine Tc ?_
      obtain rfl:=sinj h
      exact end3 rfl rfl (show _=.slice none 0 0 from rfl) (show _=.int .i64 (0) from rfl) (show _=.int .i64 (2) from rfl) ⟨_,hfr,_,_,_,rfl,RV_nil,rfl,rfl⟩
     ·refine Qr lG rfl ?_
      exact Zu (Qn (Zd (aL ([]) _ _ ⟨qM,(.slice none 0 0),hfr,zG,lE,qJ,cF,OS.nil,rJ,dF⟩ h)))
 ·rintro zE zN uO ⟨oK, vJ, hfr, eF, i6, xJ, l8, n8, aH, mE⟩ h
  refine Zf (Za (Ze .plain rfl (Qj (g:=oK) Try.isAgg102 Try.sizeOf102 aH mE fun rM sM=>?_)))
  obtain ⟨oD,eL,h⟩:=Gc h
  refine Ze .plain rfl (D_callG (g:=oK) (vs:=[rM]) en56 (.cons rfl .nil) (N56 (iO:=8036) sM eL) fun pK aO v8 hs hr=>?_)
  have hfr:=hfr.ext hs
  have i6:=i6.ext hs
  have l8:=l8.ext hs
  have n8:=n8.ext hs
  have mE:=mE.ext hs
  obtain ⟨kv34,nB,fc34,m34⟩:=hr
  have hone500236:=PT.one nB
  refine Zg v8 rfl rfl ?_
  refine Zb (Zd (Zf (Za (Ze .plain rfl (Qj (g:=pK) Try.isAgg102 Try.sizeOf102 aH mE fun tM uM=>?_)))))
  obtain ⟨sH,gL,h⟩:=Gc h
  refine Ze .plain rfl (Zp (g:=pK) (vs:=[tM,.func (.func 55) #[] #[]]) en54 (.cons rfl (.cons rfl .nil)) (wk54 uM ⟨55,#[],#[],rfl,en55,fun g' w' hch a0 a1 b0 b1 r hu0 hu1 hr=>by obtain rfl:=Zj.1 hu0; exact Fn.mono (wk55 hu1  hr) fun _ _ _ h=>Zj.2 h⟩ gL) fun qK bO xH hs hr=>?_)
  have hfr:=hfr.ext hs
  have i6:=i6.ext hs
  have l8:=l8.ext hs
  have n8:=n8.ext hs
  have nB:=nB.ext hs
  have m34:=m34.ext hs
  have fc34:=fc34.ext hs
  have sK:=hr
  have tK:RV qK.m _ (⟨0,0,sH⟩:Gd) (.agg (Wf [[.int .i64 0],[.int .i64 0],[.int .i64 0,.int .i64 0,.int .i64 0,.int .i64 0,.int .i64 0,.int .i64 0,.int .i64 0,.int .i64 0,.int .i64 0,.int .i64 0]] [(2,xH)]).flatten.toArray):=Wz rfl (Qp (Zx) (Qp (Zx) (Kd (RV.cells sK))))
  generalize iL:(Value.agg (Wf [[.int .i64 0],[.int .i64 0],[.int .i64 0,.int .i64 0,.int .i64 0,.int .i64 0,.int .i64 0,.int .i64 0,.int .i64 0,.int .i64 0,.int .i64 0,.int .i64 0]] [(2,xH)]).flatten.toArray)=uK at tK
  refine Zy uK (iL ▸ P_build (vs:=[(2,xH)]) [[.int .i64 0],[.int .i64 0],[.int .i64 0,.int .i64 0,.int .i64 0,.int .i64 0,.int .i64 0,.int .i64 0,.int .i64 0,.int .i64 0,.int .i64 0,.int .i64 0]] lay_112 rfl rfl (.cons rfl .nil) ⟨⟨_,rfl,Qs sK⟩,trivial⟩) rfl ?_
  refine Zo eF rfl ?_
  obtain ⟨xG,jL,h⟩:=Gc h
  refine Ze .plain rfl (Zp (g:=qK) (vs:=[uK,up1]) en65 (.cons rfl (.cons rfl .nil)) (wk65 tK i6 jL) fun vM cO xM hs hr=>?_)
  have hfr:=hfr.ext hs
  have i6:=i6.ext hs
  have l8:=l8.ext hs
  have n8:=n8.ext hs
  have nB:=nB.ext hs
  have m34:=m34.ext hs
  have fc34:=fc34.ext hs
  have yH:=hr
  refine Ze .plain rfl (Gs (g:=vM) 2011 (⟨0,0,⟨(⟨List.toArray [(⟨List.toArray [0,0,0,0],rfl⟩:Vector Int 4),(⟨List.toArray [0,0,0,0],rfl⟩:Vector Int 4)],rfl⟩:Vector (Vector Int 4) 2),⟨0,0⟩⟩⟩:Gd) Try.zeroValue112 (fun m w=>⟨_,(Gg Zx (Gg Zx (Gg (Gt (Zw (Gt (Zw Zx (Zw Zx (Zw Zx (Zw Zx Gm)))) rfl) (Zw (Gt (Zw Zx (Zw Zx (Zw Zx (Zw Zx Gm)))) rfl) Gm)) rfl) (Gg Zx Zx)))),rfl⟩) fun bN vO vK hs b42 cb=>?_)
  have hfr:=hfr.stp hs
  have i6:=i6.stp hs
  have l8:=l8.stp hs
  have n8:=n8.stp hs rfl
  have nB:=nB.stp hs
  have m34:=m34.stp hs rfl
  have fc34:=fc34.stp hs
  have yH:=yH.stp hs
  clear cb
  refine Ze .plain rfl (Gk (g:=bN) (v:=xM) Try.sizeOf112 rfl b42 rfl yH fun xK xO hs b43 cb=>?_)
  clear cb
  have hfr:=hfr.stp hs
  have i6:=i6.stp hs
  have l8:=l8.stp hs
  have n8:=n8.stp hs rfl
  have nB:=nB.stp hs
  have m34:=m34.stp hs rfl
  have fc34:=fc34.stp hs
  refine Zb (Zd (Zq h (fun (s:(List Int) × Int × (List (Gd × Int))) e w=>∃ (g:Gh) (v4:Value),Fr gI wI g w∧e 1=up1∧RV g.m w (x1:List (List Int)) up1∧e 4=v4∧RV g.m w (s.1:List Int) v4∧OS 1004 g w 3 (s.1:List Int) v4∧e 5=.int .i64 (s.2.1)∧e 10=v8∧PT g.m w (oD:Tn) v8∧e 11=vK∧OB 2011 g w 112 (xG:Gd) vK∧PT g.m w (oD:Tn) v8∧MP (Ws Ty) 8036 g w (s.2.2:List (Gd × Int)) kv34∧FC g.m w 2 kv34 v8) (fun X48 k48 lL h=>?_) ?_))
  ·refine Zf (Za (Zn v8 rfl rfl ?_))
   refine Zo eF rfl ?_
   refine Ze .plain rfl (Qj (g:=xK) Try.isAgg112 Try.sizeOf112 rfl b43 fun cN dN=>?_)
   obtain ⟨zD,mL,h⟩:=Gc h
   refine Ze .plain rfl (D_callM (g:=xK) (i:=8036) (vs:=[v8,up1,cN]) en57 (.cons rfl (.cons rfl (.cons rfl .nil))) (wk57 big nB fc34 m34 i6 dN mL) fun eN dO yO hs hr=>?_)
   obtain ⟨hrv,b50⟩:=hr
   have hfr:=hfr.stp hs
   have i6:=i6.stp hs
   have l8:=l8.stp hs
   have n8:=n8.stp hs rfl
   have nB:=nB.stp hs
   have fc34:=fc34.stp hs
   have b43:=b43.stp hs rfl
   subst hrv
   refine Zg (.int .i64 (zD.1)) rfl rfl ?_
   refine Zb (Zd (Zf (Za (Zn (.int .i64 (zD.1)) rfl rfl ?_))))
   refine Gu (.bool ((decide (zD.1 ≥ (1073741824:Int))))) rfl rfl rfl rfl ?_
   refine Zb (Zd ?_)
   rcases Zt h with ⟨mG,h⟩ | ⟨mG,h⟩
   ·refine Qq mG rfl ?_
    refine Zf (Za (Zg (.slice none 0 0) rfl rfl ?_))
    refine Zg (.int .i64 (0)) rfl rfl ?_
    refine Zg (.int .i64 (9)) rfl rfl ?_
    refine Zb (Zd (Gw (Tc ?_)))
    obtain rfl:=sinj h
    exact end3 rfl rfl (show _=.slice none 0 0 from rfl) (show _=.int .i64 (0) from rfl) (show _=.int .i64 (9) from rfl) ⟨_,hfr,_,_,_,rfl,RV_nil,rfl,rfl⟩
   ·refine Qr mG rfl ?_
    exact Zu (Zd (lL (zE,zD.1,zD.2) _ _ ⟨eN,(vJ),hfr,eF,i6,xJ,l8,n8,rfl,rfl,nB,rfl,b43,nB,b50,fc34⟩ h))
  ·rintro ⟨yG, aB, yD⟩ eO zO ⟨gN, zJ, hfr, cH, oB, aK, zB, cC, bK, zH, mB, aI, rE, l5, g8, t5⟩ h
   refine Zf (Za (Ze .plain rfl (D_makeMap (g:=gN) (Ws Ty) Int 8048 fun yK aP bI hs m54=>?_)))
   have hfr:=hfr.stp hs
   have oB:=oB.stp hs
   have zB:=zB.stp hs
   have cC:=cC.stp hs rfl
   have mB:=mB.stp hs
   have rE:=rE.stp hs rfl
   have l5:=l5.stp hs
   have g8:=g8.stp hs rfl
   have t5:=t5.stp hs
   refine Ze .plain rfl (Qj (g:=yK) Try.isAgg112 Try.sizeOf112 aI rE fun bP iN=>?_)
   refine Ze .plain rfl (D_insert (g:=yK) Try.underlying124 key_112 rfl m54 (rfl.trans (encK_of Ty iN)) rfl (Zj.2 rfl) fun jN cP hs m56=>?_)
   have hfr:=hfr.stp hs
   have oB:=oB.stp hs
   have zB:=zB.stp hs
   have cC:=cC.stp hs rfl
   have mB:=mB.stp hs
   have l5:=l5.stp hs
   have g8:=g8.stp hs rfl
   have t5:=t5.stp hs
   refine Zn bI rfl rfl ?_
   refine Zg bI rfl rfl ?_
   have z57:=MP.toMO m56
   refine Zb (Zd (Zq h (fun (s:(List Int) × (List (Gd × Int))) e w=>∃ (g:Gh) (v4:Value),Fr gI wI g w∧e 4=v4∧RV g.m w (s.1:List Int) v4∧OS 1004 g w 3 (s.1:List Int) v4∧e 5=.int .i64 (aB)∧PT g.m w (oD:Tn) v8∧MP (Ws Ty) 8036 g w (s.2:List (Gd × Int)) kv34∧FC g.m w 2 kv34 v8) (fun X82 k82 nL h=>?_) ?_))
   ·refine Zf (Za (Zo cH rfl ?_))
    obtain ⟨y84,oL,h⟩:=Gc h
    refine Ze .plain rfl (Zp (g:=jN) (vs:=[up1]) en66 (.cons rfl .nil) (wk66 oB oL) fun kN gO dP hs hr=>?_)
    have hfr:=hfr.ext hs
    have oB:=oB.ext hs
    have zB:=zB.ext hs
    have cC:=cC.ext hs
    have mB:=mB.ext hs
    have l5:=l5.ext hs
    have g8:=g8.ext hs
    have t5:=t5.ext hs
    have z57:=z57.ext hs
    have lN:=hr
    refine Zy (.int .i64 ((y84).length:Int)) (Tw Try.underlying22 rfl lN) rfl ?_
    refine Zn (.int .i64 (0)) rfl rfl ?_
    refine Zb (Zd (Zr ?_))
    refine E_lp h (fun (s:(List Int) × Option (List (Gd × Int)) × Int × (List (Gd × Int))) e w=>∃ (g:Gh) (v4 vF:Value),Fr gI wI g w∧e 1=up1∧RV g.m w (x1:List (List Int)) up1∧e 4=v4∧RV g.m w (s.1:List Int) v4∧OS 1004 g w 3 (s.1:List Int) v4∧e 5=.int .i64 (aB)∧e 10=v8∧PT g.m w (oD:Tn) v8∧e 12=vF∧MO (Ws Ty) 8048 g w (s.2.1:Option (List (Gd × Int))) vF∧e 53=.int .i64 (((y84).length:Int))∧e 54=.int .i64 (s.2.2.1)∧PT g.m w (oD:Tn) v8∧MP (Ws Ty) 8036 g w (s.2.2.2:List (Gd × Int)) kv34∧FC g.m w 2 kv34 v8) ⟨kN,(zJ),(bI),hfr,cH,oB,aK,zB,cC,bK,zH,mB,rfl,z57,rfl,rfl,l5,g8,t5⟩ (fun X85 lK xL=>?_)
    rintro ⟨iE,tF,l9,lB⟩ jO eP ⟨zK,cK,dI,hfr,gH,vB,jH,cD,lD,rF,xF,n9,iI,jI,yF,aG,u3,aE,o0⟩ h
    refine Zf (Za (Gu (.bool ((decide (l9 < ((y84).length:Int))))) aG yF rfl rfl ?_))
    refine Zb (Zd (Zf ?_))
    rcases Zt h with ⟨sG,h⟩ | ⟨sG,h⟩
    ·refine Qq sG rfl ?_
     refine Zu (Zd (Zq h (fun (s:(List Int) × Option (List (Gd × Int)) × (List (Gd × Int))) e w=>∃ (g:Gh) (v4 vF:Value),Fr gI wI g w∧e 1=up1∧RV g.m w (x1:List (List Int)) up1∧e 4=v4∧RV g.m w (s.1:List Int) v4∧OS 1004 g w 3 (s.1:List Int) v4∧e 5=.int .i64 (aB)∧e 10=v8∧PT g.m w (oD:Tn) v8∧e 12=vF∧MO (Ws Ty) 8048 g w (s.2.1:Option (List (Gd × Int))) vF∧e 53=.int .i64 (((y84).length:Int))∧e 54=.int .i64 (l9)∧PT g.m w (oD:Tn) v8∧MP (Ws Ty) 8036 g w (s.2.2:List (Gd × Int)) kv34∧FC g.m w 2 kv34 v8) (fun X96 mK yL h=>?_) ?_))
     ·refine Zr ?_
      refine Zf (Za (Zo xF rfl ?_))
      refine Zo gH rfl ?_
      refine Zo iI rfl ?_
      refine Zo rF rfl ?_
      obtain ⟨y98,zL,h⟩:=Gc h
      obtain ⟨nK,aM,h⟩:=Gc h
      refine Ze .plain rfl (D_callM (g:=zK) (i:=8036) (vs:=[v8,up1,dI,.int .i64 (aB)]) en67 (.cons rfl (.cons rfl (.cons rfl (.cons rfl .nil)))) (wk67 (iO:=8048) n9 o0 aE vB (⟨8048,by decide,(MO.get jI zL)⟩:MZ _ 8036 _ _ _ _) aM) fun mN kO gP hs hr=>?_)
      obtain ⟨uC,hqm,oN,nD,rfl,rfl,bD,b97⟩:=hr
      replace h:=callL_h h _ hqm
      clear hqm
      have hfr:=hfr.stp hs
      have vB:=vB.stp hs
      have cD:=cD.stp hs
      have lD:=lD.stp hs rfl
      have n9:=n9.stp hs
      have u3:=u3.stp hs
      have o0:=o0.stp hs
      refine Zn (.tuple #[.int .i64 (uC.1),nD]) rfl rfl ?_
      refine Zy (.int .i64 (uC.1)) (Zi rfl rfl) rfl ?_
      refine Zy nD (Zi rfl rfl) rfl ?_
      refine Zg (.int .i64 (uC.1)) rfl rfl ?_
      refine Zg nD rfl rfl ?_
      refine Zb (Zd (Za (Zo jH rfl ?_)))
      refine Zn (.int .i64 (uC.1)) rfl rfl ?_
      refine Ze .plain rfl (Gi (g:=mN) 3066 (xs:=([uC.1]:List Int)) (vs:=[.int .i64 (uC.1)]) Try.underlying22 Try.sizeOf3 Try.zeroValue3 rfl rfl (.cons rfl .nil) (RVs.cons (Zj.2 rfl) RVs.nil) rfl rfl fun bM lO mO hs o101 cM hxt hfl=>?_)
      have hfr:=hfr.stp hs
      have vB:=vB.stp hs
      have cD:=cD.stp hs
      have lD:=lD.stp hs rfl
      have n9:=n9.stp hs
      have u3:=u3.stp hs
      have b97:=b97.stp hs rfl
      have o0:=o0.stp hs
      have bD:=bD.stp hs rfl
      obtain ⟨cG,dK,h⟩:=Gc h
      refine Ze .plain rfl (Ke (g:=bM) (i:=1004) Try.underlying22 info_3 rfl rfl lD cD rfl cM dK fun dM nO kI hs o102 eM _=>?_)
      have hfr:=hfr.stp hs
      have vB:=vB.stp hs
      have n9:=n9.stp hs
      have u3:=u3.stp hs
      have b97:=b97.stp hs rfl
      have o0:=o0.stp hs
      have bD:=bD.stp hs rfl
      refine Zn nD rfl rfl ?_
      refine Zg kI rfl rfl ?_
      refine Zg nD rfl rfl ?_
      exact Zb (Qn (Zd (yL (cG,uC.2.1,uC.2.2) _ _ ⟨dM,(kI),(nD),hfr,gH,vB,rfl,eM,o102,rF,xF,n9,rfl,bD,yF,aG,u3,b97,o0⟩ h)))
     ·rintro ⟨oE, bE, yB⟩ pN oO ⟨iM, lI, kH, hfr, mI, nI, pI, qI, sI, jJ, lH, mH, nH, oH, pH, qH, uE, yE, vE⟩ h
      refine Za (Gu (.int .i64 ((w64 (l9 + (1:Int))))) qH rfl rfl rfl ?_)
      refine Zn (.int .i64 ((w64 (l9 + (1:Int))))) rfl rfl ?_
      exact Zb (Zd (xL (oE,bE,(w64 (l9 + (1:Int))),yB) _ _ ⟨iM,(lI),(kH),hfr,mI,nI,pI,qI,sI,jJ,lH,mH,nH,oH,pH,rfl,uE,yE,vE⟩ h))
    ·refine Qr sG rfl ?_
     refine Qm ?_
     refine Tm ?_
     refine Tm ?_
     refine Tu ?_
     exact Zd (nL (iE,lB) _ _ ⟨zK,(cK),hfr,jH,cD,lD,rF,u3,aE,o0⟩ h)
   ·rintro ⟨sF, xE⟩ qN pO ⟨qO, bG, hfr, kJ, lJ, nN, mJ, nJ, pJ, oJ⟩ h
    refine Zf (Za (Zo kJ rfl ?_))
    refine Zo mJ rfl ?_
    refine Zg bG rfl rfl ?_
    refine Zg (.int .i64 (aB)) rfl rfl ?_
    refine Zg (.int .i64 (0)) rfl rfl ?_
    refine Zb (Zd (Gw ?_))
    obtain rfl:=sinj h
    exact end3 rfl rfl (show _=bG from rfl) (show _=.int .i64 (aB) from rfl) (show _=.int .i64 (0) from rfl) ⟨_,hfr,_,_,_,rfl,lJ,rfl,rfl⟩
def f36 (x0:BoxLoom) (x1:List Ge):Option (Int × Int):=
 (f74 x0 x1).bind fun y4=>
 jn (σ:=Int) (fun dF=>
  (f54 (y4.1) ((fun a0 a1=>f75 a0 a1))).bind fun oB=>
  jn (σ:=Int) (fun vB=>
   some (vB,(0:Int))
   ) fun zH=>
  lp (σ:=Int × Gv) (fun aI (u3,l9)=>
   jn (σ:=Unit) (fun _=>
    jn (σ:=Int × Gv) (fun (aB,cC)=>
     aI ((w64 (aB + (1:Int))),cC)
     ) fun tF=>
    (f76 l9 x1).bind fun o0=>
    jn (σ:=Int) (fun uC=>
     tF (uC,(o0.1).last)
     ) fun uF=>
    bif (o0.2.2 != (0 : Int)) then
     some ((0:Int),o0.2.2)
    else
     uF (u3)
    ) fun k97=>
   Option.bind (α:=Bool) (
    bif (u3 == (0 : Int)) then
     some (true)
    else
     some ((!(decide ((l9).boxes=(oB).boxes))))
    ) fun n9=>
   bif n9 then
    k97 ()
   else
    zH (u3)
   ) big (dF,oB)
  ) fun k9=>
 bif (y4.2 != (0 : Int)) then
  some ((0:Int),y4.2)
 else
  bif (((x1).length : Int) == (0 : Int)) then
   some ((0:Int),(7:Int))
  else
   k9 ((0:Int))
theorem en36:Enters Try.prog 36:=enters_of Try.func36 (by kernel_rfl) rfl
theorem wk36 {gI:Gh} {wI:World} {x0:BoxLoom} {x1:List Ge} {up0:Value} (rp0:RV gI.m wI x0 up0) {up1:Value} (rp1:RV gI.m wI x1 up1) {r:Int × Int} (h:f36 x0 x1=some r):Fn Try.prog 36 #[up0,up1] gI wI (fun m w v=>∃ y0 y1,v=.tuple #[y0,y1]∧y0=.int .i64 (r.1)∧y1=.int .i64 (r.2)):=by
 unfold f36 at h
 refine Tf Try.func36 rfl (Nat.le_of_ble_eq_true rfl) fun g0 hm hfr=>?_
 have rp0:RV g0.m wI x0 up0:=hm ▸ rp0
 have rp1:RV g0.m wI x1 up1:=hm ▸ rp1
 show E _ 54 none _ _ _ _ _
 refine Zf (Za (Ze .plain rfl (We (g:=g0) rfl rp0 fun g1 w1 p1 hs q1=>?_)))
 have hfr:=hfr.ext hs
 have rp1:=rp1.ext hs
 refine Zg (.int .i64 (0)) rfl rfl ?_
 refine Zg (.int .i64 (0)) rfl rfl ?_
 refine Zb (Zd (Zf (Za (Ze .plain rfl (Gr (g:=g1) Try.isAgg25 Try.sizeOf25 rfl q1 fun v2 r2=>?_)))))
 refine Zn up1 rfl rfl ?_
 obtain ⟨y4,sJ,h⟩:=Gc h
 refine Ze .plain rfl (Zp (g:=g1) (vs:=[v2,up1]) en74 (.cons rfl (.cons rfl .nil)) (wk74 r2 rp1 sJ) fun g3 w3_ v3 hs hr=>?_)
 have hfr:=hfr.ext hs
 have rp1:=rp1.ext hs
 obtain ⟨vE,zK,rfl,xE,rfl⟩:=hr
 refine Zn (.tuple #[vE,.int .i64 (y4.2)]) rfl rfl ?_
 refine Zy vE (Zi rfl rfl) rfl ?_
 refine Zy (.int .i64 (y4.2)) (Zi rfl rfl) rfl ?_
 refine Ze .plain rfl (Gs (g:=g3) 2006 (⟨⟨[],[],[]⟩⟩:Gf) Try.zeroValue102 (fun m w=>⟨_,(Gg Gz (Gg Gz Gz)),rfl⟩) fun g5 w5 p5 hs b5 cb=>?_)
 have hfr:=hfr.stp hs
 have rp1:=rp1.stp hs
 have xE:=xE.stp hs
 have aL:OSF 2006 60600 0 g5 w5 3 102 ([]:List Int) p5:=cb.osf (by rfl)
 have bL:OSF 2006 60601 1 g5 w5 3 102 ([]:List Int) p5:=cb.osf (by rfl)
 have dL:OSF 2006 60602 2 g5 w5 87 102 ([]:List Zv) p5:=cb.osf (by rfl)
 clear cb
 refine Ze .plain rfl (Gk (g:=g5) (v:=vE) Try.sizeOf102 rfl b5 rfl xE fun g6 w6 hs b6 cb=>?_)
 clear cb
 have hfr:=hfr.stp hs
 have rp1:=rp1.stp hs
 refine Zg (.int .i64 (y4.2)) rfl rfl ?_
 refine Zb (Zd (Zq h (fun (s:Int) e w=>∃ (g:Gh) ,Fr gI wI g w∧e 1=up1∧RV g.m w (x1:List Ge) up1∧e 4=.int .i64 (s)∧e 6=p5∧OB 2006 g w 102 (y4.1:Gf) p5) (fun X9 k9 vJ h=>?_) ?_))
 ·refine Zr ?_
  refine Zf (Za (Zn (.int .i64 (y4.2)) rfl rfl ?_))
  refine Gu (.bool ((y4.2 != (0:Int)))) rfl rfl rfl rfl ?_
  refine Zg (.bool ((y4.2 != (0:Int)))) rfl rfl ?_
  refine Zb (Zd ?_)
  rcases Zt h with ⟨yE,h⟩ | ⟨yE,h⟩
  ·refine Qq yE rfl ?_
   refine Zf (Za (Zn (.int .i64 (y4.2)) rfl rfl ?_))
   refine Zg (.int .i64 (0)) rfl rfl ?_
   refine Zg (.int .i64 (y4.2)) rfl rfl ?_
   refine Zb (Zd (Gw (Qu ?_)))
   refine Tc ?_
   obtain rfl:=sinj h
   exact end2 rfl rfl (show _=.int .i64 (0) from rfl) (show _=.int .i64 (y4.2) from rfl) ⟨_,hfr,_,_,rfl,rfl,rfl⟩
  ·refine Qr yE rfl ?_
   refine Zf (Za (Zn up1 rfl rfl ?_))
   refine Zy (.int .i64 ((x1).length:Int)) (Tw Try.underlying30 rfl rp1) rfl ?_
   refine Gu (.bool ((((x1).length:Int) == (0:Int)))) rfl rfl rfl rfl ?_
   refine Zg (.bool ((((x1).length:Int) == (0:Int)))) rfl rfl ?_
   refine Zb (Zd ?_)
   rcases Zt h with ⟨zE,h⟩ | ⟨zE,h⟩
   ·refine Qq zE rfl ?_
    refine Zf (Za (Zg (.int .i64 (0)) rfl rfl ?_))
    refine Zg (.int .i64 (7)) rfl rfl ?_
    refine Zb (Zd (Gw (Qu ?_)))
    refine Tc ?_
    obtain rfl:=sinj h
    exact end2 rfl rfl (show _=.int .i64 (0) from rfl) (show _=.int .i64 (7) from rfl) ⟨_,hfr,_,_,rfl,rfl,rfl⟩
   ·refine Qr zE rfl ?_
    exact Zu (Qn (Zd (vJ ((0:Int)) _ _ ⟨g6,hfr,rfl,rp1,rfl,rfl,b6⟩ h)))
 ·rintro dF eL iM ⟨bI, hfr, pH, l5, qH, sH, tH⟩ h
  refine Zf (Za (Ze .plain rfl (Qj (g:=bI) Try.isAgg102 Try.sizeOf102 sH tH fun xJ zJ=>?_)))
  obtain ⟨oB,iI,h⟩:=Gc h
  refine Ze .plain rfl (Zp (g:=bI) (vs:=[xJ,.func (.func 75) #[] #[]]) en54 (.cons rfl (.cons rfl .nil)) (wk54 zJ ⟨75,#[],#[],rfl,en75,fun g' w' hch a0 a1 b0 b1 r hu0 hu1 hr=>by obtain rfl:=Zj.1 hu0; exact Fn.mono (wk75 hu1  hr) fun _ _ _ h=>Zj.2 h⟩ iI) fun aK gL bK hs hr=>?_)
  have hfr:=hfr.ext hs
  have l5:=l5.ext hs
  have vF:=hr
  refine Ze .plain rfl (Gs (g:=aK) 2007 (⟨(⟨List.toArray [(⟨List.toArray [0,0,0,0],rfl⟩:Vector Int 4),(⟨List.toArray [0,0,0,0],rfl⟩:Vector Int 4)],rfl⟩:Vector (Vector Int 4) 2),⟨0,0⟩⟩:Gv) Try.zeroValue108 (fun m w=>⟨_,(Gg (Gt (Zw (Gt (Zw Zx (Zw Zx (Zw Zx (Zw Zx Gm)))) rfl) (Zw (Gt (Zw Zx (Zw Zx (Zw Zx (Zw Zx Gm)))) rfl) Gm)) rfl) (Gg Zx Zx)),rfl⟩) fun cK jM lB hs b16 cb=>?_)
  have hfr:=hfr.stp hs
  have l5:=l5.stp hs
  have vF:=vF.stp hs
  clear cb
  refine Ze .plain rfl (Gk (g:=cK) (v:=bK) Try.sizeOf108 rfl b16 rfl vF fun dI kM hs b17 cb=>?_)
  clear cb
  have hfr:=hfr.stp hs
  have l5:=l5.stp hs
  refine Zb (Zd (Zq h (fun (s:Int) e w=>∃ (g:Gh) ,Fr gI wI g w∧e 4=.int .i64 (s)) (fun X79 zH jI h=>?_) ?_))
  ·refine Zf (Za (Ze .plain rfl (Qj (g := dI) Try.isAgg108 Try.sizeOf108 rfl b17 fun dK xF => ?_)))
   refine Ze .plain rfl (Gs (g:=dI) 2008 (⟨(⟨List.toArray [(⟨List.toArray [0,0,0,0],rfl⟩:Vector Int 4),(⟨List.toArray [0,0,0,0],rfl⟩:Vector Int 4)],rfl⟩:Vector (Vector Int 4) 2),⟨0,0⟩⟩:Gv) Try.zeroValue108 (fun m w=>⟨_,(Gg (Gt (Zw (Gt (Zw Zx (Zw Zx (Zw Zx (Zw Zx Gm)))) rfl) (Zw (Gt (Zw Zx (Zw Zx (Zw Zx (Zw Zx Gm)))) rfl) Gm)) rfl) (Gg Zx Zx)),rfl⟩) fun lK pM mK hs b81 cb=>?_)
   have hfr:=hfr.stp hs
   have l5:=l5.stp hs
   have b17:=b17.stp hs rfl
   have xF:=xF.stp hs
   clear cb
   refine Ze .plain rfl (Gk (g:=lK) (v:=dK) Try.sizeOf108 rfl b81 rfl xF fun nK qM hs b82 cb=>?_)
   clear cb
   have hfr:=hfr.stp hs
   have l5:=l5.stp hs
   have b17:=b17.stp hs rfl
   refine Zb (Zd (Zr ?_))
   refine E_lp h (fun (s:Int × Gv) e w=>∃ (g:Gh) (v8:Value),Fr gI wI g w∧e 1=up1∧RV g.m w (x1:List Ge) up1∧e 4=.int .i64 (s.1)∧e 7=lB∧OB 2007 g w 108 (oB:Gv) lB∧e 8=v8∧OB 2008 g w 108 (s.2:Gv) v8) ⟨nK,(mK),hfr,pH,l5,qH,rfl,b17,rfl,b82⟩ (fun X83 aI kI=>?_)
   rintro ⟨u3,l9⟩ iL rM ⟨eF,l8,hfr,rF,sF,oD,yD,yB,zD,zB⟩ h
   refine Zq h (fun (s:Unit) e w=>∃ (g:Gh) ,Fr gI wI g w∧e 1=up1∧RV g.m w (x1:List Ge) up1∧e 4=.int .i64 (u3)∧e 7=lB∧OB 2007 g w 108 (oB:Gv) lB∧e 8=l8∧OB 2008 g w 108 (l9:Gv) l8) (fun X97 k97 lI h=>?_) ?_
   ·obtain ⟨n9, hx, h⟩ := Gc h
    refine Th (fun e w=>∃ (g:Gh) ,Fr gI wI g w∧e 1=up1∧RV g.m w (x1:List Ge) up1∧e 4=.int .i64 (u3)∧e 7=lB∧OB 2007 g w 108 (oB:Gv) lB∧e 8=l8∧OB 2008 g w 108 (l9:Gv) l8∧e 37=.bool (n9)) (fun Q' hQ=>?_) (fun sK jL hR=>?_)
    ·replace h := hx
     clear hx
     refine Za (Zo oD rfl ?_)
     refine Gu (.bool ((u3 == (0:Int)))) rfl rfl rfl rfl ?_
     refine Zn (.bool ((u3 == (0:Int)))) rfl rfl ?_
     rcases Zt h with ⟨t5,h⟩ | ⟨t5,h⟩
     ·refine Ga rfl rfl t5 rfl rfl ?_
      iterate 4 refine Ga rfl rfl t5 rfl rfl ?_
      refine Zy (.bool true) (Zl (b:=(u3 == (0:Int))) rfl (Tp t5 rfl)) rfl ?_
      refine Zb ?_
      obtain rfl:=sinj h
      exact hQ _ _ ⟨eF,hfr,rF,sF,oD,yD,yB,zD,zB,rfl⟩
     ·refine Zz (Gj l8 0) (Zc at_108_0 zD (OB.ptr zB)) rfl rfl t5 rfl ?_
      refine Ze (.yes2 rfl rfl t5) rfl (Kb (g:=eF) Wu.1 Try.isAgg76 Try.sizeOf76 rfl zB fun lL mI=>?_)
      refine Zz (Gj lB 0) (Zc at_108_0 yD (OB.ptr yB)) rfl rfl t5 rfl ?_
      refine Ze (.yes2 rfl rfl t5) rfl (Kb (g:=eF) Wu.1 Try.isAgg76 Try.sizeOf76 rfl yB fun mL nI=>?_)
      refine Zz (.bool ((!(decide ((l9).boxes=(oB).boxes))))) (P_neD eqd_76 rfl rfl eg_76 rfl rfl mI nI) rfl rfl t5 rfl ?_
      refine Zy (.bool ((!(decide ((l9).boxes=(oB).boxes))))) (Zl (b:=(u3 == (0:Int))) rfl (Tl t5 rfl)) rfl ?_
      refine Zb ?_
      obtain rfl:=sinj h
      exact hQ _ _ ⟨eF,hfr,rF,sF,oD,yD,yB,zD,zB,rfl⟩
    ·clear hx
     obtain ⟨yF,hfr,aG,bG,lE,cG,eG,gG,iG,nD⟩:=hR
     rcases Zt h with ⟨aE,h⟩ | ⟨aE,h⟩
     ·refine To (Eq.trans (show ev _ _ = .bool (n9) from nD) (congrArg Value.bool aE)) ?_
      exact Zu (Zd (lI () _ _ ⟨yF,hfr,aG,bG,lE,cG,eG,gG,iG⟩ h))
     ·refine Tk (Eq.trans (show ev _ _ = .bool (n9) from nD) (congrArg Value.bool aE)) ?_
      refine Qm ?_
      refine Tm ?_
      refine Tm ?_
      refine Tu ?_
      exact Zd (jI (u3) _ _ ⟨yF,hfr,lE⟩ h)
   ·rintro _ tK nL ⟨jG, hfr, mE, i6, kG, lG, n8, oE, g8⟩ h
    refine Zq h (fun (s:Int × Gv) e w=>∃ (g:Gh) ,Fr gI wI g w∧e 1=up1∧RV g.m w (x1:List Ge) up1∧e 4=.int .i64 (s.1)∧e 7=lB∧OB 2007 g w 108 (oB:Gv) lB∧e 8=l8∧OB 2008 g w 108 (s.2:Gv) l8) (fun X123 tF uH h=>?_) ?_
    ·refine Zr ?_
     refine Zf (Za (Ze .plain rfl (Qj (g:=jG) Try.isAgg108 Try.sizeOf108 oE g8 fun pI qI=>?_)))
     refine Zo mE rfl ?_
     obtain ⟨o0,xH,h⟩:=Gc h
     refine Ze .plain rfl (Zp (g:=jG) (vs:=[pI,up1]) en76 (.cons rfl (.cons rfl .nil)) (wk76 qI i6 xH) fun sI uK oL hs hr=>?_)
     have hfr:=hfr.ext hs
     have i6:=i6.ext hs
     have n8:=n8.ext hs
     have g8:=g8.ext hs
     obtain ⟨vC,oK,pK,rfl,bD,rfl,rfl⟩:=hr
     refine Zn (.tuple #[vC,.int .i64 (o0.2.1),.int .i64 (o0.2.2)]) rfl rfl ?_
     refine Zy vC (Zi rfl rfl) rfl ?_
     refine Zy (.int .i64 (o0.2.1)) (Zi rfl rfl) rfl ?_
     refine Zy (.int .i64 (o0.2.2)) (Zi rfl rfl) rfl ?_
     refine Ze .plain rfl (Gs (g:=sI) 2009 (⟨[],⟨(⟨List.toArray [(⟨List.toArray [0,0,0,0],rfl⟩:Vector Int 4),(⟨List.toArray [0,0,0,0],rfl⟩:Vector Int 4)],rfl⟩:Vector (Vector Int 4) 2),⟨0,0⟩⟩,0⟩:Tz) Try.zeroValue129 (fun m w=>⟨_,(Gg Gz (Gg (Gg (Gt (Zw (Gt (Zw Zx (Zw Zx (Zw Zx (Zw Zx Gm)))) rfl) (Zw (Gt (Zw Zx (Zw Zx (Zw Zx (Zw Zx Gm)))) rfl) Gm)) rfl) (Gg Zx Zx)) Zx)),rfl⟩) fun mG jJ bE hs b127 cb=>?_)
     have hfr:=hfr.stp hs
     have i6:=i6.stp hs
     have n8:=n8.stp hs rfl
     have g8:=g8.stp hs rfl
     have bD:=bD.stp hs
     have qK:OSF 2009 60900 0 mG jJ 3 129 ([]:List Int) bE:=cb.osf (by rfl)
     clear cb
     refine Ze .plain rfl (Gk (g:=mG) (v:=vC) Try.sizeOf129 rfl b127 rfl bD fun kJ xL hs b128 cb=>?_)
     clear cb
     have hfr:=hfr.stp hs
     have i6:=i6.stp hs
     have n8:=n8.stp hs rfl
     have g8:=g8.stp hs rfl
     refine Zg (.int .i64 (o0.2.1)) rfl rfl ?_
     refine Zg (.int .i64 (o0.2.2)) rfl rfl ?_
     refine Zb (Zd (Zq h (fun (s:Int) e w=>∃ (g:Gh) ,Fr gI wI g w∧e 1=up1∧RV g.m w (x1:List Ge) up1∧e 4=.int .i64 (s)∧e 7=lB∧OB 2007 g w 108 (oB:Gv) lB∧e 8=l8∧OB 2008 g w 108 (l9:Gv) l8∧e 9=bE∧OB 2009 g w 129 (o0.1:Tz) bE) (fun X130 uF yH h=>?_) ?_))
     ·refine Zf (Za (Zn (.int .i64 (o0.2.2)) rfl rfl ?_))
      refine Gu (.bool ((o0.2.2 != (0:Int)))) rfl rfl rfl rfl ?_
      refine Zb (Zd ?_)
      rcases Zt h with ⟨iE,h⟩ | ⟨iE,h⟩
      ·refine Qq iE rfl ?_
       refine Zf (Za (Zn (.int .i64 (o0.2.2)) rfl rfl ?_))
       refine Zg (.int .i64 (0)) rfl rfl ?_
       refine Zg (.int .i64 (o0.2.2)) rfl rfl ?_
       refine Zb (Zd (Gw (Tc ?_)))
       refine Qu ?_
       refine Tc ?_
       refine Tc ?_
       refine Qu ?_
       refine Tc ?_
       obtain rfl:=sinj h
       exact end2 rfl rfl (show _=.int .i64 (0) from rfl) (show _=.int .i64 (o0.2.2) from rfl) ⟨_,hfr,_,_,rfl,rfl,rfl⟩
      ·refine Qr iE rfl ?_
       exact Zu (Zd (yH (u3) _ _ ⟨kJ,hfr,mE,i6,kG,lG,n8,oE,g8,rfl,b128⟩ h))
     ·rintro uC vK yL ⟨sG, hfr, xG, cD, yG, zG, lD, rE, aH, cH, uE⟩ h
      refine Za (Zy (Gj bE 1) (Zc at_129_1 cH (OB.ptr uE)) rfl ?_)
      refine Ze .plain rfl (Kb (g:=sG) part_BoxRun_1.1 Try.isAgg108 Try.sizeOf108 rfl uE fun lJ mJ=>?_)
      refine Ze .plain rfl (Gk (g:=sG) (v:=lJ) Try.sizeOf108 rE aH rfl mJ fun nJ zL hs b135 cb=>?_)
      clear cb
      have hfr:=hfr.stp hs
      have cD:=cD.stp hs
      have lD:=lD.stp hs rfl
      exact Zb (Qn (Zd (uH (uC,(o0.1).last) _ _ ⟨nJ,hfr,xG,cD,yG,zG,lD,rE,b135⟩ h)))
    ·rintro ⟨aB, cC⟩ xK aM ⟨gH, hfr, jH, mB, kH, lH, nB, mH, nH⟩ h
     refine Zf (Zf (Za (Ze .plain rfl (Qj (g:=gH) Try.isAgg108 Try.sizeOf108 mH nH fun oJ cF=>?_))))
     refine Zb (Zd (Za (Ze .plain rfl (Gs (g:=gH) 2008 (⟨(⟨List.toArray [(⟨List.toArray [0,0,0,0],rfl⟩:Vector Int 4),(⟨List.toArray [0,0,0,0],rfl⟩:Vector Int 4)],rfl⟩:Vector (Vector Int 4) 2),⟨0,0⟩⟩:Gv) Try.zeroValue108 (fun m w=>⟨_,(Gg (Gt (Zw (Gt (Zw Zx (Zw Zx (Zw Zx (Zw Zx Gm)))) rfl) (Zw (Gt (Zw Zx (Zw Zx (Zw Zx (Zw Zx Gm)))) rfl) Gm)) rfl) (Gg Zx Zx)),rfl⟩) fun pJ bM qJ hs b138 cb=>?_))))
     have hfr:=hfr.stp hs
     have mB:=mB.stp hs
     have nB:=nB.stp hs rfl
     have cF:=cF.stp hs
     clear cb
     refine Ze .plain rfl (Gk (g:=pJ) (v:=oJ) Try.sizeOf108 rfl b138 rfl cF fun rJ cM hs b139 cb=>?_)
     clear cb
     have hfr:=hfr.stp hs
     have mB:=mB.stp hs
     have nB:=nB.stp hs rfl
     refine Zb (Zd (Za (Zo kH rfl ?_)))
     refine Gu (.int .i64 ((w64 (aB + (1:Int))))) rfl rfl rfl rfl ?_
     refine Zg (.int .i64 ((w64 (aB + (1:Int))))) rfl rfl ?_
     exact Zb (Zd (kI ((w64 (aB + (1:Int))),cC) _ _ ⟨rJ,(qJ),hfr,jH,mB,rfl,lH,nB,rfl,b139⟩ h))
  ·rintro vB yK dM ⟨eM, hfr, oH⟩ h
   refine Zf (Za (Zo oH rfl ?_))
   refine Zg (.int .i64 (vB)) rfl rfl ?_
   refine Zg (.int .i64 (0)) rfl rfl ?_
   refine Zb (Zd (Gw ?_))
   obtain rfl:=sinj h
   exact end2 rfl rfl (show _=.int .i64 (vB) from rfl) (show _=.int .i64 (0) from rfl) ⟨_,hfr,_,_,rfl,rfl,rfl⟩
def f43 (x0:BoxLoom):Option ((List Int) × Int):=
 (f51 x0).bind fun y4=>
 jn (σ:=Unit) (fun _=>
  Option.bind (α:=(List (Int × Bool))) (
   (f56 (y4.1)).bind fun cC=>
   (f54 (y4.1) ((fun a0 a1=>f55 a0 a1))).bind fun y55=>
   (f80 cC y55).bind fun uC=>
   (uC ((List (Int × Bool))) (fun mB (zD,nB)=>
    some (true,((mset mB ((nB).colour) true)))
    ) (([]:List (Int × Bool)))).bind fun oB=>
   some (oB)
   ) fun l9=>
  (keysS l9).bind fun y81=>
  some (y81,(0:Int))
  ) fun k9=>
 bif (y4.2 != (0 : Int)) then
  some ([],y4.2)
 else
  k9 ()
theorem en43:Enters Try.prog 43:=enters_of Try.func43 (by kernel_rfl) rfl
theorem wk43 {gI:Gh} {wI:World} {x0:BoxLoom} {up0:Value} (rp0:RV gI.m wI x0 up0) {r:(List Int) × Int} (h:f43 x0=some r):Fn Try.prog 43 #[up0] gI wI (fun m w v=>∃ y0 y1,v=.tuple #[y0,y1]∧RV m w (r.1) y0∧y1=.int .i64 (r.2)):=by
 unfold f43 at h
 refine fnD_of_E Try.func43 rfl (Nat.le_of_ble_eq_true rfl) fun g0 hm hfr=>?_
 have hmk:MkF g0 wI []:=MkF.start
 have rp0:RV g0.m wI x0 up0:=hm ▸ rp0
 show E _ 31 none _ _ _ _ _
 refine Zf (Za (Ze .plain rfl (We (g:=g0) rfl rp0 fun g1 w1 p1 hs q1=>?_)))
 have hfr:=hfr.ext hs
 have hmk:=hmk.ext hs
 refine Zg (.slice none 0 0) rfl rfl ?_
 refine Zg (.int .i64 (0)) rfl rfl ?_
 refine Zb (Zd (Zf (Za (Ze .plain rfl (Gr (g:=g1) Try.isAgg25 Try.sizeOf25 rfl q1 fun v2 r2=>?_)))))
 obtain ⟨y4,eG,h⟩:=Gc h
 refine Ze .plain rfl (Zp (g:=g1) (vs:=[v2]) en51 (.cons rfl .nil) (wk51 r2 eG) fun g3 w3_ v3 hs hr=>?_)
 have hfr:=hfr.ext hs
 have hmk:=hmk.ext hs
 obtain ⟨n9,xH,rfl,aB,rfl⟩:=hr
 refine Zn (.tuple #[n9,.int .i64 (y4.2)]) rfl rfl ?_
 refine Zy n9 (Zi rfl rfl) rfl ?_
 refine Zy (.int .i64 (y4.2)) (Zi rfl rfl) rfl ?_
 refine Ze .plain rfl (Gs (g:=g3) 2004 (⟨⟨[],[],[]⟩⟩:Gf) Try.zeroValue102 (fun m w=>⟨_,(Gg Gz (Gg Gz Gz)),rfl⟩) fun g5 w5 p5 hs b5 cb=>?_)
 have hfr:=hfr.stp hs
 have hmk:=hmk.stp hs
 have aB:=aB.stp hs
 have yH:OSF 2004 60400 0 g5 w5 3 102 ([]:List Int) p5:=cb.osf (by rfl)
 have zH:OSF 2004 60401 1 g5 w5 3 102 ([]:List Int) p5:=cb.osf (by rfl)
 have aI:OSF 2004 60402 2 g5 w5 87 102 ([]:List Zv) p5:=cb.osf (by rfl)
 clear cb
 refine Ze .plain rfl (Gk (g:=g5) (v:=n9) Try.sizeOf102 rfl b5 rfl aB fun g6 w6 hs b6 cb=>?_)
 clear cb
 have hfr:=hfr.stp hs
 have hmk:=hmk.stp hs
 refine Zg (.int .i64 (y4.2)) rfl rfl ?_
 refine Zb (Zd (E_joinCD h (fun (s:Unit) e ds w=>∃ (g:Gh) ,Fr gI wI g w∧MkF g w ds∧e 4=p5∧OB 2004 g w 102 (y4.1:Gf) p5) (fun X9 k9 gG h=>?_) ?_))
 ·refine Zf (Za (Zn (.int .i64 (y4.2)) rfl rfl ?_))
  refine Gu (.bool ((y4.2 != (0:Int)))) rfl rfl rfl rfl ?_
  refine Zb (Zd ?_)
  rcases Zt h with ⟨lB,h⟩ | ⟨lB,h⟩
  ·refine Qq lB rfl ?_
   refine Zf (Za (Zn (.int .i64 (y4.2)) rfl rfl ?_))
   refine Zg (.slice none 0 0) rfl rfl ?_
   refine Zg (.int .i64 (y4.2)) rfl rfl ?_
   refine Zb (Zd (Gw (Tc ?_)))
   refine endM (.inr rfl) hmk fun mI nI hs=>?_
   have hfr:=hfr.stp hs
   obtain rfl:=sinj h
   exact end2 rfl rfl (show _=.slice none 0 0 from rfl) (show _=.int .i64 (y4.2) from rfl) ⟨_,hfr,_,_,rfl,RV_nil,rfl⟩
  ·refine Qr lB rfl ?_
   exact Zu (Zd (gG () _ _ _ ⟨g6,hfr,hmk,rfl,b6⟩ h))
 ·rintro _ bI vB pI ⟨iG, hfr, hmk, yB, i6⟩ h
  refine Zf (Za (Ze .plain rfl (D_makeMap (g:=iG) (Value.int .i64) Bool 8017 fun jG qI rE hs m13=>?_)))
  have hfr:=hfr.stp hs
  have hmk:=hmk.stp hs
  have i6:=i6.stp hs rfl
  refine Ze .plain rfl (Gs (g:=jG) 2006 (⟨.map none,rfl⟩:Fv) Try.zeroValue140 (fun _ _=>fvm_rep) fun kG sI vC hs b14 cb=>?_)
  clear cb
  have hfr:=hfr.stp hs
  have hmk:=hmk.stp hs
  have i6:=i6.stp hs rfl
  have m13:=m13.stp hs rfl
  have on15:=mp_one m13
  refine Ze .plain rfl (Gk (g:=kG) (v:=rE) (a':=(⟨rE,on15⟩:Fv)) Try.sizeOf140 rfl b14 rfl (RV_fv.2 rfl) fun uE w15 hs b15 cb=>?_)
  clear cb
  have hfr:=hfr.stp hs
  have hmk:=hmk.stp hs
  have i6:=i6.stp hs rfl
  have m13:=m13.stp hs rfl
  refine Zb (Zd ?_)
  obtain ⟨l9,hx,h⟩:=Gc h
  refine E_joinD (fun e ds w=>∃ (g:Gh) ,Fr gI wI g w∧MkF g w ds∧e 6=vC∧BM (Value.int .i64) 2006 8017 g w 140 (l9:List (Int × Bool)) vC) (fun Q' hQ=>?_) (fun dI pH jJ hR=>?_)
  ·replace h := hx
   clear hx
   refine Zf (Wq (x:=.tmp 4) Try.isAgg102 Try.sizeOf102 i6 fun vE bD vF=>?_)
   obtain ⟨cC,xF,h⟩:=Gc h
   refine Wq (x:=.tmp 4) Try.isAgg102 Try.sizeOf102 i6 fun xE cD yF=>?_
   refine E_drawC (g:=uE) (w:=w15) (n:=3) [0,2] [2004] [0,1,2] rfl Qf (by kernel_rfl) fun w_c49 hs hlt=>?_
   have hfr:=hfr.ext hs
   have hmk:=hmk.ext hs
   have b15:=b15.ext hs
   have m13:=m13.ext hs
   clear hs
   refine CH_ldO (n:=2004) (c:=vE) rfl rfl .plain vF yB rfl ?_
   have bD:=bD.ch hlt.1
   refine CH_do rfl rfl .plain (Zp (g:=uE) (vs:=[vE]) en56 (.cons rfl .nil) (wk56 bD xF) fun lG iI yE hs hr=>?_)
   have hfr:=hfr.ext hs
   have hmk:=hmk.ext hs
   have hlt:=hlt.ext hs
   have b15:=b15.ext hs
   have m13:=m13.ext hs
   have n8:=hr
   have hone500219:=PT.one n8
   refine ⟨hlt.toW,?_⟩
   refine CH_ldO (n:=2004) (c:=xE) rfl rfl .plain yF yB rfl ?_
   have cD:=cD.ch hlt.1
   refine CH_nil ?_
   clear hlt
   obtain ⟨y55,aG,h⟩:=Gc h
   refine Ze .plain rfl (Zp (g:=lG) (vs:=[xE,.func (.func 55) #[] #[]]) en54 (.cons rfl (.cons rfl .nil)) (wk54 cD ⟨55,#[],#[],rfl,en55,fun g' w' hch a0 a1 b0 b1 r hu0 hu1 hr=>by obtain rfl:=Zj.1 hu0; exact Fn.mono (wk55 hu1  hr) fun _ _ _ h=>Zj.2 h⟩ aG) fun mG jI sG hs hr=>?_)
   have hfr:=hfr.ext hs
   have hmk:=hmk.ext hs
   have b15:=b15.ext hs
   have m13:=m13.ext hs
   have n8:=n8.ext hs
   have xG:=hr
   obtain ⟨uC,bG,h⟩:=Gc h
   refine Ze .plain rfl (Zp (g:=mG) (vs:=[yE,sG]) en80 (.cons rfl (.cons rfl .nil)) (wk80 n8 xG bG) fun kJ kI yG hs hr=>?_)
   have hfr:=hfr.ext hs
   have hmk:=hmk.ext hs
   have b15:=b15.ext hs
   have m13:=m13.ext hs
   have n8:=n8.ext hs
   have zE:=hr
   refine Zb (Zd (Zr ?_))
   have hB0:=hfr.size
   have hmk0:=hmk
   obtain ⟨oB,hφ,h⟩:=Gc h
   refine E_rangeFunc (σ:=((List (Int × Bool)))) (s0:=(([]:List (Int × Bool)))) 10 rfl (fun _=>0) [] (fun (s:(List (Int × Bool))) (g:Gh) (w:World)=>Fr gI wI g w∧MkF g w vB∧BM (Value.int .i64) 2006 8017 g w 140 (s:List (Int × Bool)) vC∧ItV Try.prog (RA2 (α:=Ge) (β:=Te)) uC yG g.m w∧PT g.m w (cC:Tn) yE) rfl zE hφ (fun _ _ _ _=>rfl) rfl ra2_size rfl (fun _ _ _ _ _ hx hR=>by obtain ⟨hfr,hmk,z2,z3,z4⟩:=hR; exact ⟨hfr.ist hx hB0,hmk.ist hx,z2.ist hx,z3.ist hx,z4.ist hx⟩) (fun _ _ _ _ _ hx hR=>by obtain ⟨hfr,hmk,z2,z3,z4⟩:=hR; exact ⟨hfr.stp hx,hmk.stp hx,z2.stp hx rfl,z3.stp hx,z4.stp hx⟩) ⟨hfr,hmk,⟨_,b15,m13⟩,zE,n8⟩ (fun _ h=>by cases h) ?_ ?_
   ·intro lI qH s x b s2 cF zG vs hsz h hR hrec_0 lD hrd
    obtain ⟨mB,hse⟩:∃ y,y=s:=⟨s,rfl⟩
    subst hse
    obtain ⟨hfr,hmk,⟨aE,l5,g8⟩,u3,o0⟩:=hR
    obtain ⟨zD,nB⟩:=x
    obtain ⟨sH,bE,rfl,aH,v8⟩:=ra2_get hrd
    have t5:=RFr.refl cF zG
    refine Za (Ze .plain rfl (Gs (g:=cF) 2008 (⟨⟨(⟨List.toArray [(⟨List.toArray [0,0,0,0],rfl⟩:Vector Int 4),(⟨List.toArray [0,0,0,0],rfl⟩:Vector Int 4)],rfl⟩:Vector (Vector Int 4) 2),⟨0,0⟩⟩,0,0⟩:Te) Try.zeroValue144 (fun m w=>⟨_,(Gg (Gg (Gt (Zw (Gt (Zw Zx (Zw Zx (Zw Zx (Zw Zx Gm)))) rfl) (Zw (Gt (Zw Zx (Zw Zx (Zw Zx (Zw Zx Gm)))) rfl) Gm)) rfl) (Gg Zx Zx)) (Gg Zx Zx)),rfl⟩) fun cH lJ gH hs b68 cb=>?_))
    have hfr:=hfr.stp hs
    have hmk:=hmk.stp hs
    have t5:=t5.stp hs
    have hrec_0:=hrec_0.stp hs rfl
    have l5:=l5.stp hs rfl
    have g8:=g8.stp hs rfl
    have u3:=u3.stp hs
    have o0:=o0.stp hs
    have v8:=v8.stp hs
    clear cb
    refine Ze .plain rfl (Gk (g:=cH) (v:=bE) Try.sizeOf144 rfl b68 rfl v8 fun nD mJ hs b69 cb=>?_)
    clear cb
    have hfr:=hfr.stp hs
    have hmk:=hmk.stp hs
    have t5:=t5.stp hs
    have hrec_0:=hrec_0.stp hs rfl
    have l5:=l5.stp hs rfl
    have g8:=g8.stp hs rfl
    have u3:=u3.stp hs
    have o0:=o0.stp hs
    refine Zb (Zd ?_)
    obtain ⟨jH,hbr,hs,hrN⟩:=begin_round hrec_0 lD
    refine ⟨jH,hbr,?_⟩
    have hfr:=hfr.stp hs
    have hmk:=hmk.stp hs
    have t5:=t5.stp hs
    have l5:=l5.stp hs rfl
    have g8:=g8.stp hs rfl
    have u3:=u3.stp hs
    have o0:=o0.stp hs
    have b69:=b69.stp hs rfl
    have hrec_0:=hrN
    clear hbr hs hrN
    refine Zr ?_
    refine Za (Ze .plain rfl (Qj (α:=Fv) (g:=nD) Try.isAgg140 Try.sizeOf140 rfl l5 fun dF eF=>?_))
    have e71:dF=aE.v:=RV_fv.1 eF
    clear eF
    subst dF
    refine Zy (Gj gH 10) (Zc at_144_1 rfl (OB.ptr b69)) rfl ?_
    refine Ze .plain rfl (Kb (g:=nD) part_BoxStep_1.1 Try.isAgg3 Try.sizeOf3 rfl b69 fun nJ kH=>?_)
    obtain rfl:=Zj.1 kH
    refine Ze .plain rfl (D_mapUpdate (g:=nD) Try.underlying140 key_3 rfl g8 rfl rfl (RV_bool.2 rfl) fun oJ pJ hs m74=>?_)
    have hfr:=hfr.stp hs
    have hmk:=hmk.stp hs
    have t5:=t5.stp hs
    have hrec_0:=hrec_0.stp hs rfl
    have l5:=l5.stp hs rfl
    have u3:=u3.stp hs
    have o0:=o0.stp hs
    refine Zb (Qn ?_)
    obtain ⟨rfl,rfl⟩:=pairs2 h
    exact ⟨_,t5,⟨hfr,hmk,⟨_,l5,m74⟩,u3,o0⟩,hrec_0,rfl,rfl⟩
   ·intro lH qJ ds76 hsz hR hds
    obtain ⟨hfr,hmk,⟨tH,iE,lE⟩,mH,yD⟩:=hR
    obtain ⟨D,hdse,hD,hDb⟩:=hds.1 rfl
    subst hdse
    replace hmk:=MkF.push hmk0 hmk hD hDb
    clear hD hDb hds
    revert hmk
    generalize ({ target:=.collected D,args:=#[] } :: vB:List Deferred)=uH
    intro hmk
    refine ⟨fun _=>?_,fun k c hs _=>absurd hs (Nat.succ_ne_zero k).symm⟩
    refine Qn ?_
    obtain rfl:=sinj h
    exact hQ _ _ _ ⟨lH,hfr,hmk,rfl,⟨_,iE,lE⟩⟩
  ·clear hx
   obtain ⟨rF,hfr,hmk,mE,⟨zB,oE,l8⟩⟩:=hR
   refine Zf (Za (Ze .plain rfl (Qj (α:=Fv) (g:=rF) Try.isAgg140 Try.sizeOf140 mE oE fun sF tF=>?_)))
   have e78:sF=zB.v:=RV_fv.1 tF
   clear tF
   subst sF
   refine Ze .plain rfl (D_callG (g:=rF) (vs:=[zB.v]) en82 (.cons rfl .nil) (keys_fnG Try.keys_ok l8) fun nH rJ oH hs m79=>?_)
   have hfr:=hfr.ext hs
   have hmk:=hmk.ext hs
   have l8:=l8.ext hs
   obtain ⟨y81,cG,h⟩:=Gc h
   refine Ze .plain rfl (D_callG (g:=nH) (vs:=[oH]) en81 (.cons rfl .nil) (sorted_fnG Try.underlying3 Try.sorted_ok l8 m79 cG) fun sJ vJ uF hs oD=>?_)
   have hfr:=hfr.ext hs
   have hmk:=hmk.ext hs
   refine Zg uF rfl rfl ?_
   refine Zg (.int .i64 (0)) rfl rfl ?_
   refine Zb (Zd (Gw (endM (.inr rfl) hmk fun xJ zJ hs=>?_)))
   have hfr:=hfr.stp hs
   have oD:=oD.stp hs
   obtain rfl:=sinj h
   exact end2 rfl rfl (show _=uF from rfl) (show _=.int .i64 (0) from rfl) ⟨_,hfr,_,_,rfl,oD,rfl⟩
def f70 (x0:BoxLoom) (x1:List Ge):Option (Gf × Tz × Int × Int):=
 jn (σ:=Gf × Tz) (fun (l8,aB)=>
  (f54 l8 ((fun a0 a1=>f75 a0 a1))).bind fun oB=>
  (f76 oB x1).bind fun y71=>
  some (l8,y71.1,y71.2.1,y71.2.2)
  ) fun vB=>
 (f74 x0 x1).bind fun u3=>
 bif (u3.2 != (0 : Int)) then
  some (u3.1,(⟨[],⟨(⟨List.toArray [(⟨List.toArray [0,0,0,0],rfl⟩:Vector Int 4),(⟨List.toArray [0,0,0,0],rfl⟩:Vector Int 4)],rfl⟩:Vector (Vector Int 4) 2),⟨0,0⟩⟩,0⟩:Tz),(0:Int),u3.2)
 else
  vB (u3.1,(⟨[],⟨(⟨List.toArray [(⟨List.toArray [0,0,0,0],rfl⟩:Vector Int 4),(⟨List.toArray [0,0,0,0],rfl⟩:Vector Int 4)],rfl⟩:Vector (Vector Int 4) 2),⟨0,0⟩⟩,0⟩:Tz))
theorem en70:Enters Try.prog 70:=enters_of Try.func70 (by kernel_rfl) rfl
theorem wk70 {gI:Gh} {wI:World} {x0:BoxLoom} {x1:List Ge} {up0:Value} (rp0:RV gI.m wI x0 up0) {up1:Value} (rp1:RV gI.m wI x1 up1) {r:Gf × Tz × Int × Int} (h:f70 x0 x1=some r):Fn Try.prog 70 #[up0,up1] gI wI (fun m w v=>∃ y0 y1 y2 y3,v=.tuple #[y0,y1,y2,y3]∧RV m w (r.1) y0∧RV m w (r.2.1) y1∧y2=.int .i64 (r.2.2.1)∧y3=.int .i64 (r.2.2.2)):=by
 unfold f70 at h
 refine Tf Try.func70 rfl (Nat.le_of_ble_eq_true rfl) fun g0 hm hfr=>?_
 have rp0:RV g0.m wI x0 up0:=hm ▸ rp0
 have rp1:RV g0.m wI x1 up1:=hm ▸ rp1
 show E _ 31 none _ _ _ _ _
 refine Zf (Za (Ze .plain rfl (We (g:=g0) rfl rp0 fun g1 w1 p1 hs q1=>?_)))
 have hfr:=hfr.ext hs
 have rp1:=rp1.ext hs
 refine Ze .plain rfl (Gs (g:=g1) 2004 (⟨⟨[],[],[]⟩⟩:Gf) Try.zeroValue102 (fun m w=>⟨_,(Gg Gz (Gg Gz Gz)),rfl⟩) fun g2 w2 p2 hs b2 cb=>?_)
 have hfr:=hfr.stp hs
 have rp1:=rp1.stp hs
 have q1:=q1.stp hs
 have bG:OSF 2004 60400 0 g2 w2 3 102 ([]:List Int) p2:=cb.osf (by rfl)
 have cG:OSF 2004 60401 1 g2 w2 3 102 ([]:List Int) p2:=cb.osf (by rfl)
 have eG:OSF 2004 60402 2 g2 w2 87 102 ([]:List Zv) p2:=cb.osf (by rfl)
 clear cb
 refine Ze .plain rfl (Gs (g:=g2) 2005 (⟨[],⟨(⟨List.toArray [(⟨List.toArray [0,0,0,0],rfl⟩:Vector Int 4),(⟨List.toArray [0,0,0,0],rfl⟩:Vector Int 4)],rfl⟩:Vector (Vector Int 4) 2),⟨0,0⟩⟩,0⟩:Tz) Try.zeroValue129 (fun m w=>⟨_,(Gg Gz (Gg (Gg (Gt (Zw (Gt (Zw Zx (Zw Zx (Zw Zx (Zw Zx Gm)))) rfl) (Zw (Gt (Zw Zx (Zw Zx (Zw Zx (Zw Zx Gm)))) rfl) Gm)) rfl) (Gg Zx Zx)) Zx)),rfl⟩) fun g3 w3 p3 hs b3 cb=>?_)
 have hfr:=hfr.stp hs
 have rp1:=rp1.stp hs
 have q1:=q1.stp hs
 have b2:=b2.stp hs rfl
 have g8:OSF 2005 60500 0 g3 w3 3 129 ([]:List Int) p3:=cb.osf (by rfl)
 clear cb
 refine Zg (.int .i64 (0)) rfl rfl ?_
 refine Zg (.int .i64 (0)) rfl rfl ?_
 refine Zb (Zd (Zq h (fun (s:Gf × Tz) e w=>∃ (g:Gh) ,Fr gI wI g w∧e 1=up1∧RV g.m w (x1:List Ge) up1∧e 4=p2∧OB 2004 g w 102 (s.1:Gf) p2∧e 5=p3∧OB 2005 g w 129 (s.2:Tz) p3∧OSF 2005 60500 0 g w 3 129 ((s.2).thrown) p3) (fun X34 vB cC h=>?_) ?_))
 ·refine Zf (Za (Ze .plain rfl (Gr (g := g3) Try.isAgg25 Try.sizeOf25 rfl q1 fun rE uE => ?_)))
  refine Zn up1 rfl rfl ?_
  obtain ⟨u3,uC,h⟩:=Gc h
  refine Ze .plain rfl (Zp (g:=g3) (vs:=[rE,up1]) en74 (.cons rfl (.cons rfl .nil)) (wk74 uE rp1 uC) fun vE gG lG hs hr=>?_)
  have hfr:=hfr.ext hs
  have rp1:=rp1.ext hs
  have b2:=b2.ext hs
  have g8:=g8.ext hs
  have b3:=b3.ext hs
  obtain ⟨n8,xF,rfl,lB,rfl⟩:=hr
  refine Zn (.tuple #[n8,.int .i64 (u3.2)]) rfl rfl ?_
  refine Zy n8 (Zi rfl rfl) rfl ?_
  refine Zy (.int .i64 (u3.2)) (Zi rfl rfl) rfl ?_
  refine Ze .plain rfl (Gk (g:=vE) (v:=n8) Try.sizeOf102 rfl b2 rfl lB fun yB mG hs b38 cb=>?_)
  clear cb
  have hfr:=hfr.stp hs
  have rp1:=rp1.stp hs
  have g8:=g8.stp hs rfl
  have b3:=b3.stp hs rfl
  refine Zg (.int .i64 (u3.2)) rfl rfl ?_
  refine Zb (Zd (Zf (Za (Zn (.int .i64 (u3.2)) rfl rfl ?_))))
  refine Gu (.bool ((u3.2 != (0:Int)))) rfl rfl rfl rfl ?_
  refine Zb (Zd ?_)
  rcases Zt h with ⟨n9,h⟩ | ⟨n9,h⟩
  ·refine Qq n9 rfl ?_
   refine Zf (L_selfO Try.isAgg102 Try.sizeOf102 rfl b38 fun xE vC bD=>?_)
   refine L_selfO Try.isAgg129 Try.sizeOf129 rfl b3 fun yE cD lD=>?_
   refine Tt (g:=yB) (n:=7) [(3,(fun _ _ _=>True)),(4,(fun _ _ _=>True))] [0,1,2,3,4,5,6] rfl Qf (by kernel_rfl) (⟨fun _=>(fun _ _ _ _ _ _=>trivial),fun _=>(fun _ _ _ _ _ _=>trivial),trivial⟩) ?_
   refine Gy (c:=xE) rfl rfl .plain (fun _ _ h=>⟨h.ch,fun b hb _=>h.below.block b hb⟩) (vC _) rfl ?_
   refine Gy (c:=yE) rfl rfl .plain (fun _ _ h=>⟨h.ch,fun b hb _=>h.below.block b hb⟩) (cD _) rfl ?_
   refine Gb (.int .i64 (u3.2)) rfl rfl (Zk rfl) ?_
   refine Qa (φ:=fun _ _ _=>True) rfl rfl .plain (fun g w hd=>bD _ _ _ g w ⟨hd.1.ch,fun b hb _=>hd.1.below.block b hb⟩ rfl rfl) (fun sG hv=>?_)
   clear hv
   refine Qa (φ:=fun _ _ _=>True) rfl rfl .plain (fun g w hd=>lD _ _ _ g w ⟨hd.1.ch,fun b hb _=>hd.1.below.block b hb⟩ rfl rfl) (fun xG hv=>?_)
   clear hv
   refine Gb (.int .i64 (0)) rfl rfl (Tg rfl) ?_
   refine Gb (.int .i64 (u3.2)) rfl rfl (Tg rfl) ?_
   refine L_nl fun yG zG hs=>?_
   have hfr:=hfr.ext hs
   have b38:=b38.ext hs
   have b3:=b3.ext hs
   clear hs
   refine Zb (Zd (Gw (Tc ?_)))
   obtain rfl:=sinj h
   obtain ⟨ad63,cv63,hp63,nD,cr63⟩:=Qv Try.isAgg102 Try.sizeOf102 b38
   obtain ⟨ad65,cv65,hp65,oD,cr65⟩:=Qv Try.isAgg129 Try.sizeOf129 b3
   exact endm_cctt rfl rfl ((show _=p2 from rfl).trans hp63) nD ((show _=p3 from rfl).trans hp65) oD (show _=.int .i64 (0) from rfl) (show _=.int .i64 (u3.2) from rfl) ⟨_,hfr,_,_,_,_,rfl,cr63,cr65,rfl,rfl⟩
  ·refine Qr n9 rfl ?_
   exact Zu (Zd (cC (u3.1,(⟨[],⟨(⟨List.toArray [(⟨List.toArray [0,0,0,0],rfl⟩:Vector Int 4),(⟨List.toArray [0,0,0,0],rfl⟩:Vector Int 4)],rfl⟩:Vector (Vector Int 4) 2),⟨0,0⟩⟩,0⟩:Tz)) _ _ ⟨yB,hfr,rfl,rp1,rfl,b38,rfl,b3,g8⟩ h))
 ·rintro ⟨l8, aB⟩ iG aH ⟨zB, hfr, mB, v8, t5, o0, i6, l5, u5_0_66⟩ h
  refine Zf (Za (Ze .plain rfl (Qj (g:=zB) Try.isAgg102 Try.sizeOf102 t5 o0 fun zE cF=>?_)))
  obtain ⟨oB,yD,h⟩:=Gc h
  refine Ze .plain rfl (Zp (g:=zB) (vs:=[zE,.func (.func 75) #[] #[]]) en54 (.cons rfl (.cons rfl .nil)) (wk54 cF ⟨75,#[],#[],rfl,en75,fun g' w' hch a0 a1 b0 b1 r hu0 hu1 hr=>by obtain rfl:=Zj.1 hu0; exact Fn.mono (wk75 hu1  hr) fun _ _ _ h=>Zj.2 h⟩ yD) fun dF jG eF hs hr=>?_)
  have hfr:=hfr.ext hs
  have v8:=v8.ext hs
  have o0:=o0.ext hs
  have l5:=l5.ext hs
  have rF:=hr
  refine Zo mB rfl ?_
  obtain ⟨y71,zD,h⟩:=Gc h
  refine Ze .plain rfl (Zp (g:=dF) (vs:=[eF,up1]) en76 (.cons rfl (.cons rfl .nil)) (wk76 rF v8 zD) fun sF kG cH hs hr=>?_)
  have hfr:=hfr.ext hs
  have o0:=o0.ext hs
  have l5:=l5.ext hs
  obtain ⟨l9,yF,aG,rfl,nB,rfl,rfl⟩:=hr
  refine Zn (.tuple #[l9,.int .i64 (y71.2.1),.int .i64 (y71.2.2)]) rfl rfl ?_
  refine Zy l9 (Zi rfl rfl) rfl ?_
  refine Zy (.int .i64 (y71.2.1)) (Zi rfl rfl) rfl ?_
  refine Zy (.int .i64 (y71.2.2)) (Zi rfl rfl) rfl ?_
  refine Ze .plain rfl (Gk (g:=sF) (v:=l9) Try.sizeOf129 i6 l5 rfl nB fun tF gH hs b72 cb=>?_)
  clear cb
  have hfr:=hfr.stp hs
  have o0:=o0.stp hs rfl
  refine Zg (.int .i64 (y71.2.1)) rfl rfl ?_
  refine Zg (.int .i64 (y71.2.2)) rfl rfl ?_
  refine Zb (Zd (Zf (L_selfO Try.isAgg102 Try.sizeOf102 rfl o0 fun uF aE bE=>?_)))
  refine L_selfO Try.isAgg129 Try.sizeOf129 rfl b72 fun vF iE lE=>?_
  refine Tt (g:=tF) (n:=8) [(4,(fun _ _ _=>True)),(5,(fun _ _ _=>True))] [0,1,2,3,4,5,6,7] rfl Qf (by kernel_rfl) (⟨fun _=>(fun _ _ _ _ _ _=>trivial),fun _=>(fun _ _ _ _ _ _=>trivial),trivial⟩) ?_
  refine Gy (c:=uF) rfl rfl .plain (fun _ _ h=>⟨h.ch,fun b hb _=>h.below.block b hb⟩) (aE _) t5 ?_
  refine Gy (c:=vF) rfl rfl .plain (fun _ _ h=>⟨h.ch,fun b hb _=>h.below.block b hb⟩) (iE _) i6 ?_
  refine Gb (.int .i64 (y71.2.1)) rfl rfl (Zk rfl) ?_
  refine Gb (.int .i64 (y71.2.2)) rfl rfl (Zk rfl) ?_
  refine Qa (φ:=fun _ _ _=>True) rfl rfl .plain (fun g w hd=>bE _ _ _ g w ⟨hd.1.ch,fun b hb _=>hd.1.below.block b hb⟩ t5 rfl) (fun jH hv=>?_)
  clear hv
  refine Qa (φ:=fun _ _ _=>True) rfl rfl .plain (fun g w hd=>lE _ _ _ g w ⟨hd.1.ch,fun b hb _=>hd.1.below.block b hb⟩ i6 rfl) (fun kH hv=>?_)
  clear hv
  refine Gb (.int .i64 (y71.2.1)) rfl rfl (Tg rfl) ?_
  refine Gb (.int .i64 (y71.2.2)) rfl rfl (Tg rfl) ?_
  refine L_nl fun lH mH hs=>?_
  have hfr:=hfr.ext hs
  have o0:=o0.ext hs
  have b72:=b72.ext hs
  clear hs
  refine Zb (Zd (Gw ?_))
  obtain rfl:=sinj h
  obtain ⟨ad95,cv95,hp95,mE,cr95⟩:=Qv Try.isAgg102 Try.sizeOf102 o0
  obtain ⟨ad96,cv96,hp96,oE,cr96⟩:=Qv Try.isAgg129 Try.sizeOf129 b72
  exact endm_cctt rfl rfl ((show _=p2 from t5).trans hp95) mE ((show _=p3 from i6).trans hp96) oE (show _=.int .i64 (y71.2.1) from rfl) (show _=.int .i64 (y71.2.2) from rfl) ⟨_,hfr,_,_,_,_,rfl,cr95,cr96,rfl,rfl⟩
def f17 (x0:BoxLoom) (x1:List Int):Option ((List Ge) × Int × Int × Int):=
 (f51 x0).bind fun y4=>
 jn (σ:=(List Ge)) (fun mI=>
  (f53 x1).bind fun zD=>
  (f54 (y4.1) ((fun a0 a1=>f55 a0 a1))).bind fun y23=>
  jn (σ:=(List Ge)) (fun nI=>
   (f56 (y4.1)).bind fun eF=>
   (f57 big eF (([]:List (Gd × Int))) zD ((⟨0,0,y23⟩:Gd))).bind fun rF=>
   Option.bind (α:=(List Ge) × (List (Gd × Int))) (
    lp (σ:=(List Ge) × Gd × (List (Gd × Int))) (fun sJ (mE,aE,nB)=>
     jn (σ:=Unit) (fun _=>
      Option.bind (α:=(List Ge) × Gd × (List (Gd × Int))) (
       (f58 eF nB zD aE).bind fun bG=>
       (apnd 16 mE (([bG.1]:List Ge))).bind fun vJ=>
       some (vJ,bG.2.1,bG.2.2)
       ) fun (oE,dF,oB)=>
      sJ (oE,dF,oB)
      ) fun xJ=>
     bif (decide ((aE).group < ((zD).length : Int))) then
      xJ ()
     else
      some (mE,nB)
     ) big (nI,(⟨0,0,y23⟩:Gd),rF.2)
    ) fun (vF,sF)=>
   some (vF,rF.1,(0:Int),(0:Int))
   ) fun cN=>
  lp (σ:=(List Ge) × Int) (fun dN (xF,g8)=>
   bif (decide (g8 < ((x1).length : Int))) then
    jn (σ:=(List Ge)) (fun xG=>
     dN (xG,(w64 (g8 + (1:Int))))
     ) fun eN=>
    (f56 (y4.1)).bind fun gN=>
    (cut zD 0 (w64 (g8 + (1:Int)))).bind fun y84=>
    (f57 big gN (([]:List (Gd × Int))) y84 ((⟨0,0,y23⟩:Gd))).bind fun zJ=>
    bif (decide (zJ.1 ≥ (1073741824 : Int))) then
     some ([],(0:Int),g8,(9:Int))
    else
     eN (xF)
   else
    cN (xF)
   ) big (mI,(0:Int))
  ) fun iN=>
 bif (y4.2 != (0 : Int)) then
  some ([],(0:Int),(0:Int),y4.2)
 else
  bif (decide (((x1).length : Int) > (24 : Int))) then
   some ([],(0:Int),(0:Int),(5:Int))
  else
   (f52 x1).bind fun pI=>
   bif (!pI) then
    some ([],(0:Int),(0:Int),(2:Int))
   else
    iN ([])
theorem en17:Enters Try.prog 17:=enters_of Try.func17 (by kernel_rfl) rfl
theorem wk17 {gI:Gh} {wI:World} {x0:BoxLoom} {x1:List Int} {up0:Value} (rp0:RV gI.m wI x0 up0) {up1:Value} (rp1:RV gI.m wI x1 up1) {r:(List Ge) × Int × Int × Int} (h:f17 x0 x1=some r):Fn Try.prog 17 #[up0,up1] gI wI (fun m w v=>∃ y0 y1 y2 y3,v=.tuple #[y0,y1,y2,y3]∧RV m w (r.1) y0∧y1=.int .i64 (r.2.1)∧y2=.int .i64 (r.2.2.1)∧y3=.int .i64 (r.2.2.2)):=by
 unfold f17 at h
 refine Tf Try.func17 rfl (Nat.le_of_ble_eq_true rfl) fun g0 hm hfr=>?_
 have rp0:RV g0.m wI x0 up0:=hm ▸ rp0
 have rp1:RV g0.m wI x1 up1:=hm ▸ rp1
 show E _ 81 none _ _ _ _ _
 refine Zf (Za (Ze .plain rfl (We (g:=g0) rfl rp0 fun g1 w1 p1 hs q1=>?_)))
 have hfr:=hfr.ext hs
 have rp1:=rp1.ext hs
 refine Zg (.slice none 0 0) rfl rfl ?_
 iterate 3 refine Zg (.int .i64 (0)) rfl rfl ?_
 refine Zb (Zd (Zf (Za (Ze .plain rfl (Gr (g:=g1) Try.isAgg25 Try.sizeOf25 rfl q1 fun v2 r2=>?_)))))
 obtain ⟨y4,iP,h⟩:=Gc h
 refine Ze .plain rfl (Zp (g:=g1) (vs:=[v2]) en51 (.cons rfl .nil) (wk51 r2 iP) fun g3 w3_ v3 hs hr=>?_)
 have hfr:=hfr.ext hs
 have rp1:=rp1.ext hs
 obtain ⟨sH,kQ,rfl,tH,rfl⟩:=hr
 refine Zn (.tuple #[sH,.int .i64 (y4.2)]) rfl rfl ?_
 refine Zy sH (Zi rfl rfl) rfl ?_
 refine Zy (.int .i64 (y4.2)) (Zi rfl rfl) rfl ?_
 refine Ze .plain rfl (Gs (g:=g3) 2008 (⟨⟨[],[],[]⟩⟩:Gf) Try.zeroValue102 (fun m w=>⟨_,(Gg Gz (Gg Gz Gz)),rfl⟩) fun g5 w5 p5 hs b5 cb=>?_)
 have hfr:=hfr.stp hs
 have rp1:=rp1.stp hs
 have tH:=tH.stp hs
 have lQ:OSF 2008 60800 0 g5 w5 3 102 ([]:List Int) p5:=cb.osf (by rfl)
 have mQ:OSF 2008 60801 1 g5 w5 3 102 ([]:List Int) p5:=cb.osf (by rfl)
 have nQ:OSF 2008 60802 2 g5 w5 87 102 ([]:List Zv) p5:=cb.osf (by rfl)
 clear cb
 refine Ze .plain rfl (Gk (g:=g5) (v:=sH) Try.sizeOf102 rfl b5 rfl tH fun g6 w6 hs b6 cb=>?_)
 clear cb
 have hfr:=hfr.stp hs
 have rp1:=rp1.stp hs
 refine Zg (.int .i64 (y4.2)) rfl rfl ?_
 refine Zb (Zd (Zq h (fun (s:(List Ge)) e w=>∃ (g:Gh) (v4:Value),Fr gI wI g w∧e 1=up1∧RV g.m w (x1:List Int) up1∧e 4=v4∧RV g.m w (s:List Ge) v4∧OS 1004 g w 83 (s:List Ge) v4∧e 8=p5∧OB 2008 g w 102 (y4.1:Gf) p5) (fun X12 iN uN h=>?_) ?_))
 ·refine Zr ?_
  refine Zf (Za (Zn (.int .i64 (y4.2)) rfl rfl ?_))
  refine Gu (.bool ((y4.2 != (0:Int)))) rfl rfl rfl rfl ?_
  refine Zg (.bool ((y4.2 != (0:Int)))) rfl rfl ?_
  refine Zb (Zd ?_)
  rcases Zt h with ⟨uH,h⟩ | ⟨uH,h⟩
  ·refine Qq uH rfl ?_
   refine Zf (Za (Zn (.int .i64 (y4.2)) rfl rfl ?_))
   refine Zg (.slice none 0 0) rfl rfl ?_
   refine Zg (.int .i64 (0)) rfl rfl ?_
   refine Zg (.int .i64 (0)) rfl rfl ?_
   refine Zg (.int .i64 (y4.2)) rfl rfl ?_
   refine Zb (Zd (Gw (Qu ?_)))
   refine Tc ?_
   obtain rfl:=sinj h
   exact end4 rfl rfl (show _=.slice none 0 0 from rfl) (show _=.int .i64 (0) from rfl) (show _=.int .i64 (0) from rfl) (show _=.int .i64 (y4.2) from rfl) ⟨_,hfr,_,_,_,_,rfl,RV_nil,rfl,rfl,rfl⟩
  ·refine Qr uH rfl ?_
   refine Zf (Za (Zn up1 rfl rfl ?_))
   refine Zy (.int .i64 ((x1).length:Int)) (Tw Try.underlying22 rfl rp1) rfl ?_
   refine Gu (.bool ((decide (((x1).length:Int) > (24:Int))))) rfl rfl rfl rfl ?_
   refine Zg (.bool ((decide (((x1).length:Int) > (24:Int))))) rfl rfl ?_
   refine Zb (Zd ?_)
   rcases Zt h with ⟨xH,h⟩ | ⟨xH,h⟩
   ·refine Qq xH rfl ?_
    refine Zf (Za (Zg (.slice none 0 0) rfl rfl ?_))
    refine Zg (.int .i64 (0)) rfl rfl ?_
    refine Zg (.int .i64 (0)) rfl rfl ?_
    refine Zg (.int .i64 (5)) rfl rfl ?_
    refine Zb (Zd (Gw (Qu ?_)))
    refine Tc ?_
    obtain rfl:=sinj h
    exact end4 rfl rfl (show _=.slice none 0 0 from rfl) (show _=.int .i64 (0) from rfl) (show _=.int .i64 (0) from rfl) (show _=.int .i64 (5) from rfl) ⟨_,hfr,_,_,_,_,rfl,RV_nil,rfl,rfl,rfl⟩
   ·refine Qr xH rfl ?_
    refine Zf (Za (Zn up1 rfl rfl ?_))
    obtain ⟨pI,vN,h⟩:=Gc h
    refine Ze .plain rfl (Zp (g:=g6) (vs:=[up1]) en52 (.cons rfl .nil) (wk52 rp1 vN) fun jP oQ aS hs hr=>?_)
    have hfr:=hfr.ext hs
    have rp1:=rp1.ext hs
    have b6:=b6.ext hs
    subst hr
    refine Zy (.bool (!pI)) (Wm rfl) rfl ?_
    refine Zg (.bool (!pI)) rfl rfl ?_
    refine Zb (Zd ?_)
    rcases Zt h with ⟨yH,h⟩ | ⟨yH,h⟩
    ·refine Qq yH rfl ?_
     refine Zf (Za (Zg (.slice none 0 0) rfl rfl ?_))
     refine Zg (.int .i64 (0)) rfl rfl ?_
     refine Zg (.int .i64 (0)) rfl rfl ?_
     refine Zg (.int .i64 (2)) rfl rfl ?_
     refine Zb (Zd (Gw (Qu ?_)))
     refine Tc ?_
     obtain rfl:=sinj h
     exact end4 rfl rfl (show _=.slice none 0 0 from rfl) (show _=.int .i64 (0) from rfl) (show _=.int .i64 (0) from rfl) (show _=.int .i64 (2) from rfl) ⟨_,hfr,_,_,_,_,rfl,RV_nil,rfl,rfl,rfl⟩
    ·refine Qr yH rfl ?_
     exact Zu (Qn (Zd (uN ([]) _ _ ⟨jP,(.slice none 0 0),hfr,rfl,rp1,rfl,RV_nil,OS.nil,rfl,b6⟩ h)))
 ·rintro mI pQ bS ⟨kP, xL, hfr, qI, vB, yL, uC, vC, sI, yB⟩ h
  refine Zf (Za (Zo qI rfl ?_))
  obtain ⟨zD,hy20,h⟩:=Gc h
  refine Ze .plain rfl (Zp (g:=kP) (vs:=[up1]) en53 (.cons rfl .nil) (wk53 vB hy20) fun jN qQ lB hs hr=>?_)
  have hfr:=hfr.ext hs
  have vB:=vB.ext hs
  have uC:=uC.ext hs
  have vC:=vC.ext hs
  have yB:=yB.ext hs
  have cG:=hr
  refine Zg lB rfl rfl ?_
  refine Zb (Zd (Zf (Za (Ze .plain rfl (Qj (g:=jN) Try.isAgg102 Try.sizeOf102 sI yB fun lP mP=>?_)))))
  obtain ⟨y23,xN,h⟩:=Gc h
  refine Ze .plain rfl (Zp (g:=jN) (vs:=[lP,.func (.func 55) #[] #[]]) en54 (.cons rfl (.cons rfl .nil)) (wk54 mP ⟨55,#[],#[],rfl,en55,fun g' w' hch a0 a1 b0 b1 r hu0 hu1 hr=>by obtain rfl:=Zj.1 hu0; exact Fn.mono (wk55 hu1  hr) fun _ _ _ h=>Zj.2 h⟩ xN) fun kN rQ aK hs hr=>?_)
  have hfr:=hfr.ext hs
  have vB:=vB.ext hs
  have uC:=uC.ext hs
  have vC:=vC.ext hs
  have yB:=yB.ext hs
  have cG:=cG.ext hs
  have lN:=hr
  have jJ:RV kN.m _ (⟨0,0,y23⟩:Gd) (.agg (Wf [[.int .i64 0],[.int .i64 0],[.int .i64 0,.int .i64 0,.int .i64 0,.int .i64 0,.int .i64 0,.int .i64 0,.int .i64 0,.int .i64 0,.int .i64 0,.int .i64 0]] [(2,aK)]).flatten.toArray):=Wz rfl (Qp (Zx) (Qp (Zx) (Kd (RV.cells lN))))
  generalize yN:(Value.agg (Wf [[.int .i64 0],[.int .i64 0],[.int .i64 0,.int .i64 0,.int .i64 0,.int .i64 0,.int .i64 0,.int .i64 0,.int .i64 0,.int .i64 0,.int .i64 0,.int .i64 0]] [(2,aK)]).flatten.toArray)=mN at jJ
  refine Zy mN (yN ▸ P_build (vs:=[(2,aK)]) [[.int .i64 0],[.int .i64 0],[.int .i64 0,.int .i64 0,.int .i64 0,.int .i64 0,.int .i64 0,.int .i64 0,.int .i64 0,.int .i64 0,.int .i64 0,.int .i64 0]] lay_112 rfl rfl (.cons rfl .nil) ⟨⟨_,rfl,Qs lN⟩,trivial⟩) rfl ?_
  refine Ze .plain rfl (Gs (g:=kN) 2010 (⟨0,0,⟨(⟨List.toArray [(⟨List.toArray [0,0,0,0],rfl⟩:Vector Int 4),(⟨List.toArray [0,0,0,0],rfl⟩:Vector Int 4)],rfl⟩:Vector (Vector Int 4) 2),⟨0,0⟩⟩⟩:Gd) Try.zeroValue112 (fun m w=>⟨_,(Gg Zx (Gg Zx (Gg (Gt (Zw (Gt (Zw Zx (Zw Zx (Zw Zx (Zw Zx Gm)))) rfl) (Zw (Gt (Zw Zx (Zw Zx (Zw Zx (Zw Zx Gm)))) rfl) Gm)) rfl) (Gg Zx Zx)))),rfl⟩) fun nP cS lG hs b25 cb=>?_)
  have hfr:=hfr.stp hs
  have vB:=vB.stp hs
  have uC:=uC.stp hs
  have vC:=vC.stp hs rfl
  have yB:=yB.stp hs rfl
  have cG:=cG.stp hs
  have jJ:=jJ.stp hs
  clear cb
  refine Ze .plain rfl (Gk (g:=nP) (v:=mN) Try.sizeOf112 rfl b25 rfl jJ fun oP dS hs b26 cb=>?_)
  clear cb
  have hfr:=hfr.stp hs
  have vB:=vB.stp hs
  have uC:=uC.stp hs
  have vC:=vC.stp hs rfl
  have yB:=yB.stp hs rfl
  have cG:=cG.stp hs
  refine Zb (Zd (Zq h (fun (s:(List Ge)) e w=>∃ (g:Gh) (v4:Value),Fr gI wI g w∧e 4=v4∧RV g.m w (s:List Ge) v4∧OS 1004 g w 83 (s:List Ge) v4∧e 8=p5∧OB 2008 g w 102 (y4.1:Gf) p5∧e 9=lB∧RV g.m w (zD:List (List Int)) lB∧e 10=lG∧OB 2010 g w 112 ((⟨0,0,y23⟩:Gd):Gd) lG) (fun X58 cN zN h=>?_) ?_))
  ·refine Zf (Za (Zo qI rfl ?_))
   refine Zy (.int .i64 ((x1).length:Int)) (Tw Try.underlying22 rfl vB) rfl ?_
   refine Zn (.int .i64 (0)) rfl rfl ?_
   refine Zb (Zd (Zr ?_))
   refine E_lp h (fun (s:(List Ge) × Int) e w=>∃ (g:Gh) (v4:Value),Fr gI wI g w∧e 4=v4∧RV g.m w (s.1:List Ge) v4∧OS 1004 g w 83 (s.1:List Ge) v4∧e 8=p5∧OB 2008 g w 102 (y4.1:Gf) p5∧e 9=lB∧RV g.m w (zD:List (List Int)) lB∧e 10=lG∧OB 2010 g w 112 ((⟨0,0,y23⟩:Gd):Gd) lG∧e 39=.int .i64 (((x1).length:Int))∧e 40=.int .i64 (s.2)) ⟨oP,(xL),hfr,yL,uC,vC,sI,yB,rfl,cG,rfl,b26,rfl,rfl⟩ (fun X59 dN aO=>?_)
   rintro ⟨xF,g8⟩ sQ pP ⟨bK,kJ,hfr,lJ,oD,yD,yG,bD,zG,zB,eG,aB,cH,gG⟩ h
   refine Zf (Za (Gu (.bool ((decide (g8 < ((x1).length:Int))))) gG cH rfl rfl ?_))
   refine Zb (Zd (Zf ?_))
   rcases Zt h with ⟨zH,h⟩ | ⟨zH,h⟩
   ·refine Qq zH rfl ?_
    refine Zu (Zd (Zq h (fun (s:(List Ge)) e w=>∃ (g:Gh) (v4:Value),Fr gI wI g w∧e 4=v4∧RV g.m w (s:List Ge) v4∧OS 1004 g w 83 (s:List Ge) v4∧e 8=p5∧OB 2008 g w 102 (y4.1:Gf) p5∧e 9=lB∧RV g.m w (zD:List (List Int)) lB∧e 10=lG∧OB 2010 g w 112 ((⟨0,0,y23⟩:Gd):Gd) lG∧e 39=.int .i64 (((x1).length:Int))∧e 40=.int .i64 (g8)) (fun X76 eN bO h=>?_) ?_))
    ·refine Zr ?_
     refine Zf (Za (Zo gG rfl ?_))
     refine Zg (.int .i64 (g8)) rfl rfl ?_
     refine Zb (Zd (Zf (Wq (x:=.tmp 8) Try.isAgg102 Try.sizeOf102 bD fun nN cK cO=>?_)))
     obtain ⟨gN,dO,h⟩:=Gc h
     obtain ⟨y84,dK,h⟩:=Gc h
     have lK:=RV_cut zB dK
     refine Wq (x:=.tmp 10) Try.isAgg112 Try.sizeOf112 aB fun oN mK eO=>?_
     refine E_drawC (g:=bK) (w:=pP) (n:=7) [0,2,3,4,5,6] [2008,2010] [0,1,2,3,4,5,6] rfl Qf (by kernel_rfl) fun w_c80 hs hlt=>?_
     have hfr:=hfr.ext hs
     have oD:=oD.ext hs
     have yD:=yD.ext hs
     have bD:=bD.ext hs
     have zB:=zB.ext hs
     have aB:=aB.ext hs
     clear hs
     refine CH_ldO (n:=2008) (c:=nN) rfl rfl .plain cO yG rfl ?_
     have cK:=cK.ch hlt.1
     refine CH_do rfl rfl .plain (D_callG (g:=bK) (vs:=[nN]) en56 (.cons rfl .nil) (N56 (iO:=8044) cK dO) fun sP tQ tP hs hr=>?_)
     have hfr:=hfr.ext hs
     have hlt:=hlt.ext hs
     have oD:=oD.ext hs
     have yD:=yD.ext hs
     have bD:=bD.ext hs
     have zB:=zB.ext hs
     have aB:=aB.ext hs
     obtain ⟨kv82,pN,fc82,m82⟩:=hr
     have hone500244:=PT.one pN
     refine ⟨hlt.toW,?_⟩
     refine Qy (c:=lB) rfl rfl .plain (Zk zG) ?_
     refine Qy (c:=.int .i64 (g8)) rfl rfl .plain (Zk rfl) ?_
     refine Qy (c:=.int .i64 ((w64 (g8 + (1:Int))))) rfl rfl .plain (Td rfl rfl rfl) ?_
     refine Qy (c:=(cutV lB (Int.toNat 0) (Int.toNat (w64 (g8 + (1:Int)))) 1)) rfl rfl .plain (P_slice Try.underlying42 Try.sizeOf22 rfl zB rfl rfl dK) ?_
     have lK:=lK.ch hlt.1
     refine CH_ldO (n:=2010) (c:=oN) rfl rfl .plain eO eG rfl ?_
     have mK:=mK.ch hlt.1
     refine CH_nil ?_
     clear hlt
     obtain ⟨zJ,gO,h⟩:=Gc h
     refine Ze .plain rfl (D_callM (g:=sP) (i:=8044) (vs:=[tP,(cutV lB (Int.toNat 0) (Int.toNat (w64 (g8 + (1:Int)))) 1),oN]) en57 (.cons rfl (.cons rfl (.cons rfl .nil))) (wk57 big pN fc82 m82 lK mK gO) fun uP uQ eS hs hr=>?_)
     obtain ⟨hrv,b87⟩:=hr
     have hfr:=hfr.stp hs
     have oD:=oD.stp hs
     have yD:=yD.stp hs rfl
     have bD:=bD.stp hs rfl
     have zB:=zB.stp hs
     have aB:=aB.stp hs rfl
     subst hrv
     refine Gu (.bool ((decide (zJ.1 ≥ (1073741824:Int))))) rfl rfl rfl rfl ?_
     refine Zb (Zd ?_)
     rcases Zt h with ⟨aI,h⟩ | ⟨aI,h⟩
     ·refine Qq aI rfl ?_
      refine Zf (Za (Zn (.int .i64 (g8)) rfl rfl ?_))
      refine Zg (.slice none 0 0) rfl rfl ?_
      refine Zg (.int .i64 (0)) rfl rfl ?_
      refine Zg (.int .i64 (g8)) rfl rfl ?_
      refine Zg (.int .i64 (9)) rfl rfl ?_
      refine Zb (Zd (Gw (Qu ?_)))
      refine Tc ?_
      refine Tc ?_
      refine Qu ?_
      refine Tc ?_
      obtain rfl:=sinj h
      exact end4 rfl rfl (show _=.slice none 0 0 from rfl) (show _=.int .i64 (0) from rfl) (show _=.int .i64 (g8) from rfl) (show _=.int .i64 (9) from rfl) ⟨_,hfr,_,_,_,_,rfl,RV_nil,rfl,rfl,rfl⟩
     ·refine Qr aI rfl ?_
      exact Zu (Qn (Zd (bO (xF) _ _ ⟨uP,(kJ),hfr,lJ,oD,yD,yG,bD,zG,zB,eG,aB,cH,gG⟩ h)))
    ·rintro xG vQ gS ⟨vP, zL, hfr, aM, bM, cM, dM, eM, iM, jM, nK, oK, pK, qK⟩ h
     refine Za (Gu (.int .i64 ((w64 (g8 + (1:Int))))) qK rfl rfl rfl ?_)
     refine Zn (.int .i64 ((w64 (g8 + (1:Int))))) rfl rfl ?_
     exact Zb (Zd (aO (xG,(w64 (g8 + (1:Int)))) _ _ ⟨vP,(zL),hfr,aM,bM,cM,dM,eM,iM,jM,nK,oK,pK,rfl⟩ h))
   ·refine Qr zH rfl ?_
    refine Qm ?_
    refine Tm ?_
    refine Tm ?_
    refine Tu ?_
    exact Zd (zN (xF) _ _ ⟨bK,(kJ),hfr,lJ,oD,yD,yG,bD,zG,zB,eG,aB⟩ h)
  ·rintro nI xQ iS ⟨qN, kM, hfr, pM, cD, lD, qM, rM, mJ, cC, gH, bE⟩ h
   refine Zf (Za (Ze .plain rfl (Qj (g:=qN) Try.isAgg102 Try.sizeOf102 qM rM fun xP yP=>?_)))
   obtain ⟨eF,jO,h⟩:=Gc h
   refine Ze .plain rfl (D_callG (g:=qN) (vs:=[xP]) en56 (.cons rfl .nil) (N56 (iO:=8055) yP jO) fun rN yQ mB hs hr=>?_)
   have hfr:=hfr.ext hs
   have cD:=cD.ext hs
   have lD:=lD.ext hs
   have cC:=cC.ext hs
   have bE:=bE.ext hs
   obtain ⟨kv93,tF,fc93,m93⟩:=hr
   have hone500255:=PT.one tF
   refine Zg mB rfl rfl ?_
   refine Zb (Zd (Zf (Za (Zn mB rfl rfl ?_))))
   refine Zo mJ rfl ?_
   refine Ze .plain rfl (Qj (g:=rN) Try.isAgg112 Try.sizeOf112 gH bE fun zP bQ=>?_)
   obtain ⟨rF,kO,h⟩:=Gc h
   refine Ze .plain rfl (D_callM (g:=rN) (i:=8055) (vs:=[mB,lB,zP]) en57 (.cons rfl (.cons rfl (.cons rfl .nil))) (wk57 big tF fc93 m93 cC bQ kO) fun sN zQ jS hs hr=>?_)
   obtain ⟨hrv,b96⟩:=hr
   have hfr:=hfr.stp hs
   have cD:=cD.stp hs
   have lD:=lD.stp hs rfl
   have cC:=cC.stp hs
   have bE:=bE.stp hs rfl
   have tF:=tF.stp hs
   have fc93:=fc93.stp hs
   subst hrv
   refine Zg (.int .i64 (rF.1)) rfl rfl ?_
   refine Zb (Zd ?_)
   obtain ⟨⟨vF,sF⟩,hx,h⟩:=Gc h
   refine Th (fun e w=>∃ (g:Gh) (v4:Value),Fr gI wI g w∧e 4=v4∧RV g.m w (vF:List Ge) v4∧OS 1004 g w 83 (vF:List Ge) v4∧e 5=.int .i64 (rF.1)∧PT g.m w (eF:Tn) mB∧MP (Ws Ty) 8055 g w (sF:List (Gd × Int)) kv93∧FC g.m w 2 kv93 mB) (fun Q' hQ=>?_) (fun dQ aR hR=>?_)
   ·replace h := hx
    clear hx
    refine Zf (Za (Ze .plain rfl (Qj (g:=sN) Try.isAgg112 Try.sizeOf112 gH bE fun lO bI=>?_)))
    refine Ze .plain rfl (Gs (g:=sN) 2013 (⟨0,0,⟨(⟨List.toArray [(⟨List.toArray [0,0,0,0],rfl⟩:Vector Int 4),(⟨List.toArray [0,0,0,0],rfl⟩:Vector Int 4)],rfl⟩:Vector (Vector Int 4) 2),⟨0,0⟩⟩⟩:Gd) Try.zeroValue112 (fun m w=>⟨_,(Gg Zx (Gg Zx (Gg (Gt (Zw (Gt (Zw Zx (Zw Zx (Zw Zx (Zw Zx Gm)))) rfl) (Zw (Gt (Zw Zx (Zw Zx (Zw Zx (Zw Zx Gm)))) rfl) Gm)) rfl) (Gg Zx Zx)))),rfl⟩) fun mO bR nO hs b160 cb=>?_)
    have hfr:=hfr.stp hs
    have cD:=cD.stp hs
    have lD:=lD.stp hs rfl
    have cC:=cC.stp hs
    have tF:=tF.stp hs
    have b96:=b96.stp hs rfl
    have fc93:=fc93.stp hs
    have bI:=bI.stp hs
    clear cb
    refine Ze .plain rfl (Gk (g:=mO) (v:=lO) Try.sizeOf112 rfl b160 rfl bI fun oO dR hs b161 cb=>?_)
    clear cb
    have hfr:=hfr.stp hs
    have cD:=cD.stp hs
    have lD:=lD.stp hs rfl
    have cC:=cC.stp hs
    have tF:=tF.stp hs
    have b96:=b96.stp hs rfl
    have fc93:=fc93.stp hs
    refine Zb (Zd (Zr ?_))
    refine E_lp h (fun (s:(List Ge) × Gd × (List (Gd × Int))) e w=>∃ (g:Gh) (v4 tN:Value),Fr gI wI g w∧e 4=v4∧RV g.m w (s.1:List Ge) v4∧OS 1004 g w 83 (s.1:List Ge) v4∧e 5=.int .i64 (rF.1)∧e 9=lB∧RV g.m w (zD:List (List Int)) lB∧e 12=mB∧PT g.m w (eF:Tn) mB∧e 13=tN∧OB 2013 g w 112 (s.2.1:Gd) tN∧PT g.m w (eF:Tn) mB∧MP (Ws Ty) 8055 g w (s.2.2:List (Gd × Int)) kv93∧FC g.m w 2 kv93 mB) ⟨oO,(kM),(nO),hfr,pM,cD,lD,rfl,mJ,cC,rfl,tF,rfl,b161,tF,b96,fc93⟩ (fun X162 sJ sM=>?_)
    rintro ⟨mE,aE,nB⟩ eQ eR ⟨dI,rE,iE,hfr,jH,kH,lH,mH,nH,oH,nJ,oJ,mG,yF,uE,uF,vE⟩ h
    refine Zq h (fun (s:Unit) e w=>∃ (g:Gh) ,Fr gI wI g w∧e 4=rE∧RV g.m w (mE:List Ge) rE∧OS 1004 g w 83 (mE:List Ge) rE∧e 5=.int .i64 (rF.1)∧e 9=lB∧RV g.m w (zD:List (List Int)) lB∧e 12=mB∧PT g.m w (eF:Tn) mB∧e 13=iE∧OB 2013 g w 112 (aE:Gd) iE∧PT g.m w (eF:Tn) mB∧MP (Ws Ty) 8055 g w (nB:List (Gd × Int)) kv93∧FC g.m w 2 kv93 mB) (fun X167 xJ tM h=>?_) ?_
    ·refine Zf (Za (Zy (Gj iE 0) (Zc at_112_0 mG (OB.ptr yF)) rfl ?_))
     refine Ze .plain rfl (Kb (g:=dI) Wx.1 Try.isAgg3 Try.sizeOf3 rfl yF fun gR pO=>?_)
     obtain rfl:=Zj.1 pO
     refine Zo nH rfl ?_
     refine Zy (.int .i64 ((zD).length:Int)) (Tw Try.underlying42 rfl oH) rfl ?_
     refine Gu (.bool ((decide ((aE).group < ((zD).length:Int))))) rfl rfl rfl rfl ?_
     refine Zb (Zd ?_)
     rcases Zt h with ⟨aH,h⟩ | ⟨aH,h⟩
     ·refine Qq aH rfl ?_
      exact Zu (Zd (tM () _ _ ⟨dI,hfr,jH,kH,lH,mH,nH,oH,nJ,oJ,mG,yF,uE,uF,vE⟩ h))
     ·refine Qr aH rfl ?_
      refine Qm ?_
      refine Tm ?_
      refine Tm ?_
      refine Tu ?_
      obtain ⟨rfl,rfl⟩:=pairs2 h
      exact hQ _ _ ⟨dI,(rE),hfr,jH,kH,lH,mH,uE,uF,vE⟩
    ·rintro _ gQ iR ⟨sK, hfr, tK, l8, n8, uK, pH, i6, sG, l5, aG, t5, u3, kG, o0⟩ h
     obtain ⟨⟨oE,dF,oB⟩,hx,h⟩:=Gc h
     refine Th (fun e w=>∃ (g:Gh) (v4:Value),Fr gI wI g w∧e 4=v4∧RV g.m w (oE:List Ge) v4∧OS 1004 g w 83 (oE:List Ge) v4∧e 5=.int .i64 (rF.1)∧e 9=lB∧RV g.m w (zD:List (List Int)) lB∧e 12=mB∧PT g.m w (eF:Tn) mB∧e 13=iE∧OB 2013 g w 112 (dF:Gd) iE∧PT g.m w (eF:Tn) mB∧MP (Ws Ty) 8055 g w (oB:List (Gd × Int)) kv93∧FC g.m w 2 kv93 mB) (fun Q' hQ=>?_) (fun iQ jR hR=>?_)
     ·replace h := hx
      clear hx
      refine Zr ?_
      refine Zf (Za (Zo sG rfl ?_))
      refine Zo pH rfl ?_
      refine Ze .plain rfl (Qj (g:=sK) Try.isAgg112 Try.sizeOf112 aG t5 fun qO rO=>?_)
      obtain ⟨bG,uM,h⟩:=Gc h
      refine Ze .plain rfl (D_callM (g:=sK) (i:=8055) (vs:=[mB,lB,qO]) en58 (.cons rfl (.cons rfl (.cons rfl .nil))) (wk58 l5 o0 kG i6 rO uM) fun sO jQ lR hs hr=>?_)
      obtain ⟨hrv,b195⟩:=hr
      have hfr:=hfr.stp hs
      have l8:=l8.stp hs
      have n8:=n8.stp hs rfl
      have i6:=i6.stp hs
      have l5:=l5.stp hs
      have t5:=t5.stp hs rfl
      have u3:=u3.stp hs
      have o0:=o0.stp hs
      obtain ⟨iG,jG,rfl,xE,nD⟩:=hrv
      refine Zn (.tuple #[iG,jG]) rfl rfl ?_
      refine Zy iG (Zi rfl rfl) rfl ?_
      refine Zy jG (Zi rfl rfl) rfl ?_
      refine Ze .plain rfl (Gs (g:=sO) 2014 (⟨0,0⟩:Ge) Try.zeroValue83 (fun m w=>⟨_,(Gg Zx Zx),rfl⟩) fun tO mR nR hs b197 cb=>?_)
      have hfr:=hfr.stp hs
      have l8:=l8.stp hs
      have n8:=n8.stp hs rfl
      have i6:=i6.stp hs
      have l5:=l5.stp hs
      have t5:=t5.stp hs rfl
      have u3:=u3.stp hs
      have b195:=b195.stp hs rfl
      have o0:=o0.stp hs
      have xE:=xE.stp hs
      have nD:=nD.stp hs
      clear cb
      refine Ze .plain rfl (Gs (g:=tO) 2015 (⟨0,0,⟨(⟨List.toArray [(⟨List.toArray [0,0,0,0],rfl⟩:Vector Int 4),(⟨List.toArray [0,0,0,0],rfl⟩:Vector Int 4)],rfl⟩:Vector (Vector Int 4) 2),⟨0,0⟩⟩⟩:Gd) Try.zeroValue112 (fun m w=>⟨_,(Gg Zx (Gg Zx (Gg (Gt (Zw (Gt (Zw Zx (Zw Zx (Zw Zx (Zw Zx Gm)))) rfl) (Zw (Gt (Zw Zx (Zw Zx (Zw Zx (Zw Zx Gm)))) rfl) Gm)) rfl) (Gg Zx Zx)))),rfl⟩) fun uO oR pR hs b198 cb=>?_)
      have hfr:=hfr.stp hs
      have l8:=l8.stp hs
      have n8:=n8.stp hs rfl
      have i6:=i6.stp hs
      have l5:=l5.stp hs
      have t5:=t5.stp hs rfl
      have u3:=u3.stp hs
      have b195:=b195.stp hs rfl
      have o0:=o0.stp hs
      have xE:=xE.stp hs
      have nD:=nD.stp hs
      have b197:=b197.stp hs rfl
      clear cb
      refine Ze .plain rfl (Gk (g:=uO) (v:=iG) Try.sizeOf83 rfl b197 rfl xE fun vO qR hs b199 cb=>?_)
      clear cb
      have hfr:=hfr.stp hs
      have l8:=l8.stp hs
      have n8:=n8.stp hs rfl
      have i6:=i6.stp hs
      have l5:=l5.stp hs
      have t5:=t5.stp hs rfl
      have u3:=u3.stp hs
      have b195:=b195.stp hs rfl
      have o0:=o0.stp hs
      have nD:=nD.stp hs
      have b198:=b198.stp hs rfl
      refine Ze .plain rfl (Gk (g:=vO) (v:=jG) Try.sizeOf112 rfl b198 rfl nD fun vK xO hs b200 cb=>?_)
      clear cb
      have hfr:=hfr.stp hs
      have l8:=l8.stp hs
      have n8:=n8.stp hs rfl
      have i6:=i6.stp hs
      have l5:=l5.stp hs
      have t5:=t5.stp hs rfl
      have u3:=u3.stp hs
      have b195:=b195.stp hs rfl
      have o0:=o0.stp hs
      have b199:=b199.stp hs rfl
      refine Zb (Zd (Wq (x:=.tmp 14) Try.isAgg83 Try.sizeOf83 b199 fun xK iI vM=>?_))
      obtain ⟨vJ,xM,h⟩:=Gc h
      refine Wq (x:=.tmp 15) Try.isAgg112 Try.sizeOf112 b200 fun yK jI bN=>?_
      refine E_drawC (g:=vK) (w:=xO) (n:=6) [0,1,4,5] [2014,2015] [0,1,2,3,4,5] rfl Qf (by kernel_rfl) fun w_c209 hs hlt=>?_
      have hfr:=hfr.ext hs
      have l8:=l8.ext hs
      have n8:=n8.ext hs
      have i6:=i6.ext hs
      have l5:=l5.ext hs
      have t5:=t5.ext hs
      have u3:=u3.ext hs
      have b195:=b195.ext hs
      have o0:=o0.ext hs
      clear hs
      refine Qy (c:=rE) rfl rfl .plain (Zk tK) ?_
      refine CH_ldO (n:=2014) (c:=xK) rfl rfl .plain vM rfl rfl ?_
      have iI:=iI.ch hlt.1
      refine CH_do rfl rfl .plain (Gi (g:=vK) 3075 (xs:=([bG.1]:List Ge)) (vs:=[xK]) Try.underlying30 Try.sizeOf83 Try.zeroValue83 rfl rfl (.cons rfl .nil) (RVs.cons iI RVs.nil) rfl rfl fun yO rR tR hs o211 zO hxt hfl=>?_)
      have hfr:=hfr.stp hs
      have hlt:=hlt.stp hs
      have l8:=l8.stp hs
      have n8:=n8.stp hs rfl
      have i6:=i6.stp hs
      have l5:=l5.stp hs
      have t5:=t5.stp hs rfl
      have u3:=u3.stp hs
      have b195:=b195.stp hs rfl
      have o0:=o0.stp hs
      refine ⟨hlt.toW,?_⟩
      refine CH_do rfl rfl .plain (Ke (g:=yO) (i:=1004) Try.underlying30 info_83 rfl rfl n8 l8 rfl zO xM fun aP uR zK hs o212 kI _=>?_)
      have hfr:=hfr.stp hs
      have hlt:=hlt.stp hs
      have i6:=i6.stp hs
      have l5:=l5.stp hs
      have t5:=t5.stp hs rfl
      have u3:=u3.stp hs
      have b195:=b195.stp hs rfl
      have o0:=o0.stp hs
      refine ⟨hlt.toW,?_⟩
      refine CH_ldO (n:=2015) (c:=yK) rfl rfl .plain bN rfl rfl ?_
      have jI:=jI.ch hlt.1
      refine Qy (c:=zK) rfl rfl .plain (Tg rfl) ?_
      refine CH_nil ?_
      clear hlt
      refine Ze .plain rfl (Gk (g:=aP) (v:=yK) Try.sizeOf112 aG t5 rfl jI fun bP vR hs b215 cb=>?_)
      clear cb
      have hfr:=hfr.stp hs
      have kI:=kI.stp hs
      have o212:=o212.stp hs rfl
      have i6:=i6.stp hs
      have l5:=l5.stp hs
      have u3:=u3.stp hs
      have b195:=b195.stp hs rfl
      have o0:=o0.stp hs
      refine Zb (Qn ?_)
      obtain ⟨rfl,rfl,rfl⟩:=pairs3 h
      exact hQ _ _ ⟨bP,(zK),hfr,rfl,kI,o212,uK,pH,i6,sG,l5,aG,b215,u3,b195,o0⟩
     ·clear hx
      obtain ⟨aL,bL,hfr,dL,yE,zE,eL,gL,cF,pJ,lE,qJ,rJ,v8,n9,l9⟩:=hR
      refine Zf (Za (Ze .plain rfl (Qj (g:=aL) Try.isAgg112 Try.sizeOf112 qJ rJ fun cP lI=>?_)))
      refine Zb (Zd (Za (Ze .plain rfl (Gs (g:=aL) 2013 (⟨0,0,⟨(⟨List.toArray [(⟨List.toArray [0,0,0,0],rfl⟩:Vector Int 4),(⟨List.toArray [0,0,0,0],rfl⟩:Vector Int 4)],rfl⟩:Vector (Vector Int 4) 2),⟨0,0⟩⟩⟩:Gd) Try.zeroValue112 (fun m w=>⟨_,(Gg Zx (Gg Zx (Gg (Gt (Zw (Gt (Zw Zx (Zw Zx (Zw Zx (Zw Zx Gm)))) rfl) (Zw (Gt (Zw Zx (Zw Zx (Zw Zx (Zw Zx Gm)))) rfl) Gm)) rfl) (Gg Zx Zx)))),rfl⟩) fun dP xR eP hs b218 cb=>?_))))
      have hfr:=hfr.stp hs
      have yE:=yE.stp hs
      have zE:=zE.stp hs rfl
      have cF:=cF.stp hs
      have lE:=lE.stp hs
      have v8:=v8.stp hs
      have n9:=n9.stp hs rfl
      have l9:=l9.stp hs
      have lI:=lI.stp hs
      clear cb
      refine Ze .plain rfl (Gk (g:=dP) (v:=cP) Try.sizeOf112 rfl b218 rfl lI fun gP yR hs b219 cb=>?_)
      clear cb
      have hfr:=hfr.stp hs
      have yE:=yE.stp hs
      have zE:=zE.stp hs rfl
      have cF:=cF.stp hs
      have lE:=lE.stp hs
      have v8:=v8.stp hs
      have n9:=n9.stp hs rfl
      have l9:=l9.stp hs
      exact Zb (Zd (sM (oE,dF,oB) _ _ ⟨gP,(bL),(eP),hfr,dL,yE,zE,eL,gL,cF,pJ,lE,rfl,b219,v8,n9,l9⟩ h))
   ·clear hx
    obtain ⟨zR,qH,hfr,iL,jL,cQ,lL,mL,oL,nL⟩:=hR
    refine Zf (Za (Zo iL rfl ?_))
    refine Zo lL rfl ?_
    refine Zg qH rfl rfl ?_
    refine Zg (.int .i64 (rF.1)) rfl rfl ?_
    refine Zg (.int .i64 (0)) rfl rfl ?_
    refine Zg (.int .i64 (0)) rfl rfl ?_
    refine Zb (Zd (Gw ?_))
    obtain rfl:=sinj h
    exact end4 rfl rfl (show _=qH from rfl) (show _=.int .i64 (rF.1) from rfl) (show _=.int .i64 (0) from rfl) (show _=.int .i64 (0) from rfl) ⟨_,hfr,_,_,_,_,rfl,jL,rfl,rfl,rfl⟩
def f29 (x0:BoxLoom) (x1:List Ge):Option ((List Wt) × Int × Int):=
 (f70 x0 x1).bind fun y5=>
 jn (σ:=(List Wt)) (fun uE=>
  Option.bind (α:=(List Wt)) (
   lp (σ:=(List Wt) × Int) (fun k48 (bD,t5)=>
    bif (decide (t5 < ((((y5.1).BoxLoom).Shuttles).length : Int))) then
     Option.bind (α:=(List Wt)) (
      (idx (((y5.1).BoxLoom).Shuttles) t5).bind fun uF=>
      (apnd 16 bD (([(uF).Yarn]:List Wt))).bind fun y71=>
      some (y71)
      ) fun oB=>
     k48 (oB,(w64 (t5 + (1:Int))))
    else
     some (bD)
    ) big (uE,(0:Int))
   ) fun cD=>
  Option.bind (α:=(List Wt)) (
   lp (σ:=(List Wt) × Int) (fun vF (n9,o0)=>
    bif (decide (o0 < (((y5.2.1).thrown).length : Int))) then
     Option.bind (α:=(List Wt)) (
      (idx ((y5.2.1).thrown) o0).bind fun v8=>
      (idx n9 (w64 (v8 - (1:Int)))).bind fun y130=>
      (idx n9 (w64 (v8 - (1:Int)))).bind fun jI=>
      some ((List.set n9 (Int.toNat (w64 (v8 - (1:Int)))) ((⟨(Wj (0:Int) (w64 ((y130).Low - (1:Int)))),(Wj (0:Int) (w64 ((y130).High - (1:Int))))⟩:Wt))))
      ) fun lB=>
     vF (lB,(w64 (o0 + (1:Int))))
    else
     some (n9)
    ) big (cD,(0:Int))
   ) fun vB=>
  some (vB,(0:Int),(0:Int))
  ) fun yH=>
 bif (y5.2.2.2 != (0 : Int)) then
  some (([]:List Wt),y5.2.2.1,y5.2.2.2)
 else
  yH (([]:List Wt))
theorem en29:Enters Try.prog 29:=enters_of Try.func29 (by kernel_rfl) rfl
theorem wk29 {gI:Gh} {wI:World} {x0:BoxLoom} {x1:List Ge} {up0:Value} (rp0:RV gI.m wI x0 up0) {up1:Value} (rp1:RV gI.m wI x1 up1) {r:(List Wt) × Int × Int} (h:f29 x0 x1=some r):Fn Try.prog 29 #[up0,up1] gI wI (fun m w v=>∃ y0 y1 y2,v=.tuple #[y0,y1,y2]∧RV m w (r.1) y0∧y1=.int .i64 (r.2.1)∧y2=.int .i64 (r.2.2)):=by
 unfold f29 at h
 refine Tf Try.func29 rfl (Nat.le_of_ble_eq_true rfl) fun g0 hm hfr=>?_
 have rp0:RV g0.m wI x0 up0:=hm ▸ rp0
 have rp1:RV g0.m wI x1 up1:=hm ▸ rp1
 show E _ 67 none _ _ _ _ _
 refine Zf (Za (Ze .plain rfl (We (g:=g0) rfl rp0 fun g1 w1 p1 hs q1=>?_)))
 have hfr:=hfr.ext hs
 have rp1:=rp1.ext hs
 refine Zg (.slice none 0 0) rfl rfl ?_
 have b2:OA 4004 g1 w1 85 ([]:List Wt) (.slice none 0 0):=OA.nil
 refine Zg (.int .i64 (0)) rfl rfl ?_
 refine Zg (.int .i64 (0)) rfl rfl ?_
 refine Zb (Zd (Zf (Za (Ze .plain rfl (Gr (g:=g1) Try.isAgg25 Try.sizeOf25 rfl q1 fun v3 r3=>?_)))))
 refine Zn up1 rfl rfl ?_
 obtain ⟨y5,hy5,h⟩:=Gc h
 refine Ze .plain rfl (Zp (g:=g1) (vs:=[v3,up1]) en70 (.cons rfl (.cons rfl .nil)) (wk70 r3 rp1 hy5) fun g4 w4_ v4 hs hr=>?_)
 have hfr:=hfr.ext hs
 have b2:=b2.ext hs
 obtain ⟨iE,lE,mK,nK,rfl,yB,aB,rfl,rfl⟩:=hr
 refine Zn (.tuple #[iE,lE,.int .i64 (y5.2.2.1),.int .i64 (y5.2.2.2)]) rfl rfl ?_
 refine Zy iE (Zi rfl rfl) rfl ?_
 refine Zy lE (Zi rfl rfl) rfl ?_
 refine Zy (.int .i64 (y5.2.2.1)) (Zi rfl rfl) rfl ?_
 refine Zy (.int .i64 (y5.2.2.2)) (Zi rfl rfl) rfl ?_
 refine Ze .plain rfl (Gs (g:=g4) 2007 (⟨⟨[],[],[]⟩⟩:Gf) Try.zeroValue102 (fun m w=>⟨_,(Gg Gz (Gg Gz Gz)),rfl⟩) fun g6 w6 p6 hs b6 cb=>?_)
 have hfr:=hfr.stp hs
 have b2:=b2.stp hs rfl
 have yB:=yB.stp hs
 have aB:=aB.stp hs
 have oK:OSF 2007 60700 0 g6 w6 3 102 ([]:List Int) p6:=cb.osf (by rfl)
 have pK:OSF 2007 60701 1 g6 w6 3 102 ([]:List Int) p6:=cb.osf (by rfl)
 have qK:OSF 2007 60702 2 g6 w6 87 102 ([]:List Zv) p6:=cb.osf (by rfl)
 clear cb
 refine Ze .plain rfl (Gs (g:=g6) 2008 (⟨[],⟨(⟨List.toArray [(⟨List.toArray [0,0,0,0],rfl⟩:Vector Int 4),(⟨List.toArray [0,0,0,0],rfl⟩:Vector Int 4)],rfl⟩:Vector (Vector Int 4) 2),⟨0,0⟩⟩,0⟩:Tz) Try.zeroValue129 (fun m w=>⟨_,(Gg Gz (Gg (Gg (Gt (Zw (Gt (Zw Zx (Zw Zx (Zw Zx (Zw Zx Gm)))) rfl) (Zw (Gt (Zw Zx (Zw Zx (Zw Zx (Zw Zx Gm)))) rfl) Gm)) rfl) (Gg Zx Zx)) Zx)),rfl⟩) fun g7 w7 p7 hs b7 cb=>?_)
 have hfr:=hfr.stp hs
 have b2:=b2.stp hs rfl
 have yB:=yB.stp hs
 have aB:=aB.stp hs
 have b6:=b6.stp hs rfl
 have sK:OSF 2008 60800 0 g7 w7 3 129 ([]:List Int) p7:=cb.osf (by rfl)
 clear cb
 refine Ze .plain rfl (Gk (g:=g7) (v:=iE) Try.sizeOf102 rfl b6 rfl yB fun g8 w8 hs b8 cb=>?_)
 clear cb
 have hfr:=hfr.stp hs
 have b2:=b2.stp hs rfl
 have aB:=aB.stp hs
 have b7:=b7.stp hs rfl
 refine Ze .plain rfl (Gk (g:=g8) (v:=lE) Try.sizeOf129 rfl b7 rfl aB fun g9 w9 hs b9 cb=>?_)
 clear cb
 have hfr:=hfr.stp hs
 have b2:=b2.stp hs rfl
 have b8:=b8.stp hs rfl
 refine Zg (.int .i64 (y5.2.2.1)) rfl rfl ?_
 refine Zg (.int .i64 (y5.2.2.2)) rfl rfl ?_
 refine Zb (Zd (Zq h (fun (s:(List Wt)) e w=>∃ (g:Gh) (v4:Value),Fr gI wI g w∧e 4=v4∧OA 4004 g w 85 (s:List Wt) v4∧e 7=p6∧OB 2007 g w 102 (y5.1:Gf) p6∧e 8=p7∧OB 2008 g w 129 (y5.2.1:Tz) p7) (fun X13 yH kI h=>?_) ?_))
 ·refine Zf (Za (Zn (.int .i64 (y5.2.2.2)) rfl rfl ?_))
  refine Gu (.bool ((y5.2.2.2 != (0:Int)))) rfl rfl rfl rfl ?_
  refine Zb (Zd ?_)
  rcases Zt h with ⟨mE,h⟩ | ⟨mE,h⟩
  ·refine Qq mE rfl ?_
   refine Zf (Za (Zn (.int .i64 (y5.2.2.1)) rfl rfl ?_))
   refine Zn (.int .i64 (y5.2.2.2)) rfl rfl ?_
   refine Zg (.slice none 0 0) rfl rfl ?_
   have b15:OA 4004 g9 w9 85 ([]:List Wt) (.slice none 0 0):=OA.nil
   refine Zg (.int .i64 (y5.2.2.1)) rfl rfl ?_
   refine Zg (.int .i64 (y5.2.2.2)) rfl rfl ?_
   refine Zb (Zd (Gw (Tc ?_)))
   obtain ⟨gp16,hs,rp16⟩:=OM.pub (b15.toM)
   have hfr:=hfr.stp hs
   obtain rfl:=sinj h
   exact end3 rfl rfl (show _=.slice none 0 0 from rfl) (show _=.int .i64 (y5.2.2.1) from rfl) (show _=.int .i64 (y5.2.2.2) from rfl) ⟨_,hfr,_,_,_,rfl,rp16,rfl,rfl⟩
  ·refine Qr mE rfl ?_
   exact Zu (Zd (kI (([]:List Wt)) _ _ ⟨g9,(.slice none 0 0),hfr,rfl,b2,rfl,b8,rfl,b9⟩ h))
 ·rintro uE tK lL ⟨zH, yG, hfr, zG, aH, cH, lD, gH, jH⟩ h
  obtain ⟨cD,hx,h⟩:=Gc h
  refine Th (fun e w=>∃ (g:Gh) (v4:Value),Fr gI wI g w∧e 4=v4∧OA 4004 g w 85 (cD:List Wt) v4∧e 8=p7∧OB 2008 g w 129 (y5.2.1:Tz) p7) (fun Q' hQ=>?_) (fun uK mL hR=>?_)
  ·replace h := hx
   clear hx
   refine Zf (Za (Zy (Gj p6 0) (Zc Ka cH (OB.ptr lD)) rfl ?_))
   refine Zy (Gj p6 2) (Qz (o1:=0) rfl Qk rfl (OB.ptr lD)) rfl ?_
   refine Ze .plain rfl (Kb (g:=zH) (Ta.comp Tq Gx rfl).1 Try.isAgg23 Try.sizeOf23 rfl lD fun zD aI=>?_)
   refine Zy (.int .i64 ((((y5.1).BoxLoom).Shuttles).length:Int)) (Tw Try.underlying23 rfl aI) rfl ?_
   refine Zn (.int .i64 (0)) rfl rfl ?_
   refine Zb (Zd (Zr ?_))
   refine E_lp h (fun (s:(List Wt) × Int) e w=>∃ (g:Gh) (v4:Value),Fr gI wI g w∧e 4=v4∧OA 4004 g w 85 (s.1:List Wt) v4∧e 8=p7∧OB 2008 g w 129 (y5.2.1:Tz) p7∧e 28=zD∧RV g.m w (((y5.1).BoxLoom).Shuttles:List Zv) zD∧e 29=.int .i64 (((((y5.1).BoxLoom).Shuttles).length:Int))∧e 30=.int .i64 (s.2)) ⟨zH,(yG),hfr,zG,aH,gH,jH,rfl,aI,rfl,rfl⟩ (fun X48 k48 lI=>?_)
   rintro ⟨bD,t5⟩ vK nL ⟨xF,kH,hfr,vE,l9,xE,l8,aE,u3,bE,zB⟩ h
   refine Zf (Za (Zy (.bool ((decide (t5 < ((((y5.1).BoxLoom).Shuttles).length:Int))))) (Td zB bE rfl) rfl ?_))
   refine Zb (Zd (Zf ?_))
   rcases Zt h with ⟨oE,h⟩ | ⟨oE,h⟩
   ·refine Qq oE rfl ?_
    refine Zu (Zd ?_)
    obtain ⟨oB,hx,h⟩:=Gc h
    refine Th (fun e w=>∃ (g:Gh) (v4:Value),Fr gI wI g w∧e 4=v4∧OA 4004 g w 85 (oB:List Wt) v4∧e 8=p7∧OB 2008 g w 129 (y5.2.1:Tz) p7∧e 28=zD∧RV g.m w (((y5.1).BoxLoom).Shuttles:List Zv) zD∧e 29=.int .i64 (((((y5.1).BoxLoom).Shuttles).length:Int))∧e 30=.int .i64 (t5)) (fun Q' hQ=>?_) (fun xK oL hR=>?_)
    ·replace h := hx
     clear hx
     refine Zr ?_
     refine Zf (Za ?_)
     obtain ⟨uF,yF,h⟩:=Gc h
     refine Zy (Qc zD t5 5) (Zh (α:=Zv) Try.underlying23 Try.sizeOf87 aE u3 zB yF) rfl ?_
     have q62:=Tj u3 yF
     refine Ze .plain rfl (Gr (g:=xF) Try.isAgg87 Try.sizeOf87 rfl q62 fun pJ aG=>?_)
     refine Ze .plain rfl (Gs (g:=xF) 2010 (⟨0,0,0,⟨0,0⟩⟩:Zv) Try.zeroValue87 (fun m w=>⟨_,(Gg Zx (Gg Zx (Gg Zx (Gg Zx Zx)))),rfl⟩) fun qJ xL rJ hs b65 cb=>?_)
     have hfr:=hfr.stp hs
     have l9:=l9.stp hs rfl
     have l8:=l8.stp hs rfl
     have u3:=u3.stp hs
     have aG:=aG.stp hs
     clear cb
     refine Ze .plain rfl (Gk (g:=qJ) (v:=pJ) Try.sizeOf87 rfl b65 rfl aG fun bI yL hs b66 cb=>?_)
     clear cb
     have hfr:=hfr.stp hs
     have l9:=l9.stp hs rfl
     have l8:=l8.stp hs rfl
     have u3:=u3.stp hs
     refine Zb (Zd (Za (Zo vE rfl ?_)))
     refine Zy (Gj rJ 3) (Zc at_87_3 rfl (OB.ptr b66)) rfl ?_
     refine Ze .plain rfl (Kb (g:=bI) Wd.1 Try.isAgg85 Try.sizeOf85 rfl b66 fun sJ vJ=>?_)
     refine Ze .plain rfl (Gi (g:=bI) 3037 (xs:=([(uF).Yarn]:List Wt)) (vs:=[sJ]) Try.underlying51 Try.sizeOf85 Try.zeroValue85 rfl rfl (.cons rfl .nil) (RVs.cons vJ RVs.nil) rfl rfl fun xJ zL aM hs o69 zJ hxt hfl=>?_)
     have hfr:=hfr.stp hs
     have l9:=l9.stp hs rfl
     have l8:=l8.stp hs rfl
     have u3:=u3.stp hs
     obtain ⟨y71,mI,h⟩:=Gc h
     refine Ze .plain rfl (D_appendA (g:=xJ) plain_Span (i:=4004) Try.underlying51 info_85 rfl rfl l9 rfl zJ mI fun aK bM dI hs b70=>?_)
     have hfr:=hfr.stp hs
     have l8:=l8.stp hs rfl
     have u3:=u3.stp hs
     refine Zg dI rfl rfl ?_
     refine Zb (Qn ?_)
     obtain rfl:=sinj h
     exact hQ _ _ ⟨aK,(dI),hfr,rfl,b70,xE,l8,aE,u3,bE,zB⟩
    ·clear hx
     obtain ⟨bK,lH,hfr,mH,nH,oH,pH,bG,cG,eG,gG⟩:=hR
     refine Za (Gu (.int .i64 ((w64 (t5 + (1:Int))))) gG rfl rfl rfl ?_)
     refine Zn (.int .i64 ((w64 (t5 + (1:Int))))) rfl rfl ?_
     exact Zb (Zd (lI (oB,(w64 (t5 + (1:Int)))) _ _ ⟨bK,(lH),hfr,mH,nH,oH,pH,bG,cG,eG,rfl⟩ h))
   ·refine Qr oE rfl ?_
    refine Qm ?_
    refine Tm ?_
    refine Tm ?_
    refine Tu ?_
    obtain rfl:=sinj h
    exact hQ _ _ ⟨xF,(kH),hfr,vE,l9,xE,l8⟩
  ·clear hx
   obtain ⟨iI,n8,hfr,qH,sH,tH,yE⟩:=hR
   obtain ⟨vB,hx,h⟩:=Gc h
   refine Th (fun e w=>∃ (g:Gh) ,Fr gI wI g w∧e 4=n8∧OA 4004 g w 85 (vB:List Wt) n8) (fun Q' hQ=>?_) (fun cK yK hR=>?_)
   ·replace h := hx
    clear hx
    refine Zf (Za (Zy (Gj p7 0) (Zc at_129_0 tH (OB.ptr yE)) rfl ?_))
    refine Ze .plain rfl (Kb (g:=iI) part_BoxRun_0.1 Try.isAgg22 Try.sizeOf22 rfl yE fun cC iG=>?_)
    refine Zy (.int .i64 (((y5.2.1).thrown).length:Int)) (Tw Try.underlying22 rfl iG) rfl ?_
    refine Zn (.int .i64 (0)) rfl rfl ?_
    refine Zb (Zd (Zr ?_))
    refine E_lp h (fun (s:(List Wt) × Int) e w=>∃ (g:Gh) ,Fr gI wI g w∧e 4=n8∧OA 4004 g w 85 (s.1:List Wt) n8∧e 41=cC∧RV g.m w ((y5.2.1).thrown:List Int) cC∧e 42=.int .i64 ((((y5.2.1).thrown).length:Int))∧e 43=.int .i64 (s.2)) ⟨iI,hfr,qH,sH,rfl,iG,rfl,rfl⟩ (fun X110 vF uH=>?_)
    rintro ⟨n9,o0⟩ dK zK ⟨nD,hfr,mB,i6,uC,l5,vC,nB⟩ h
    refine Zf (Za (Zy (.bool ((decide (o0 < (((y5.2.1).thrown).length:Int))))) (Td nB vC rfl) rfl ?_))
    refine Zb (Zd (Zf ?_))
    rcases Zt h with ⟨oD,h⟩ | ⟨oD,h⟩
    ·refine Qq oD rfl ?_
     refine Zu (Zd ?_)
     obtain ⟨lB,hx,h⟩:=Gc h
     refine Th (fun e w=>∃ (g:Gh) ,Fr gI wI g w∧e 4=n8∧OA 4004 g w 85 (lB:List Wt) n8∧e 41=cC∧RV g.m w ((y5.2.1).thrown:List Int) cC∧e 42=.int .i64 ((((y5.2.1).thrown).length:Int))∧e 43=.int .i64 (o0)) (fun Q' hQ=>?_) (fun lK aL hR=>?_)
     ·replace h := hx
      clear hx
      refine Zr ?_
      refine Zf (Za ?_)
      obtain ⟨v8,zE,h⟩:=Gc h
      refine Zy (Qc cC o0 1) (Zh (α:=Int) Try.underlying22 Try.sizeOf3 uC l5 nB zE) rfl ?_
      have nI:=Tj l5 zE
      refine Ze .plain rfl (Gr (g:=nD) Try.isAgg3 Try.sizeOf3 rfl nI fun bL pI=>?_)
      obtain rfl:=Zj.1 pI
      refine Zg (.int .i64 (v8)) rfl rfl ?_
      refine Zb (Zd (Zf (Za (Zo mB rfl ?_))))
      refine Zn (.int .i64 (v8)) rfl rfl ?_
      refine Gu (.int .i64 ((w64 (v8 - (1:Int))))) rfl rfl rfl rfl ?_
      obtain ⟨y130,cF,h⟩:=Gc h
      refine Zy (Qc n8 (w64 (v8 - (1:Int))) 2) (P_indexAddrM (α:=Wt) Try.underlying51 Try.sizeOf85 rfl (i6.toM) rfl cF) rfl ?_
      refine Ze .plain rfl (D_loadM (g:=nD) Try.isAgg85 Try.sizeOf85 rfl (i6.toM) cF fun qI rE=>?_)
      refine Ze .plain rfl (Gs (g:=nD) 2013 (⟨0,0⟩:Wt) Try.zeroValue85 (fun m w=>⟨_,(Gg Zx Zx),rfl⟩) fun sI dL jG hs b132 cb=>?_)
      have hfr:=hfr.stp hs
      have i6:=i6.stp hs rfl
      have l5:=l5.stp hs
      have rE:=rE.stp hs
      clear cb
      refine Ze .plain rfl (Gk (g:=sI) (v:=qI) Try.sizeOf85 rfl b132 rfl rE fun yD jJ hs b133 cb=>?_)
      clear cb
      have hfr:=hfr.stp hs
      have i6:=i6.stp hs rfl
      have l5:=l5.stp hs
      refine Zb (Zd (Za (Zo mB rfl ?_)))
      refine Zn (.int .i64 (v8)) rfl rfl ?_
      refine Gu (.int .i64 ((w64 (v8 - (1:Int))))) rfl rfl rfl rfl ?_
      refine Zy (Gj jG 0) (Zc at_85_0 rfl (OB.ptr b133)) rfl ?_
      refine Ze .plain rfl (Kb (g:=yD) part_Span_0.1 Try.isAgg3 Try.sizeOf3 rfl b133 fun eL kJ=>?_)
      obtain rfl:=Zj.1 kJ
      refine Gu (.int .i64 ((w64 ((y130).Low - (1:Int))))) rfl rfl rfl rfl ?_
      refine Zy (.int .i64 (Wj (0:Int) (w64 ((y130).Low - (1:Int))))) (P_max rfl rfl) rfl ?_
      refine Zy (Gj jG 1) (Zc at_85_1 rfl (OB.ptr b133)) rfl ?_
      refine Ze .plain rfl (Kb (g:=yD) part_Span_1.1 Try.isAgg3 Try.sizeOf3 rfl b133 fun gL lJ=>?_)
      obtain rfl:=Zj.1 lJ
      refine Gu (.int .i64 ((w64 ((y130).High - (1:Int))))) rfl rfl rfl rfl ?_
      refine Zy (.int .i64 (Wj (0:Int) (w64 ((y130).High - (1:Int))))) (P_max rfl rfl) rfl ?_
      have kG:RV yD.m jJ (⟨(Wj (0:Int) (w64 ((y130).Low - (1:Int)))),(Wj (0:Int) (w64 ((y130).High - (1:Int))))⟩:Wt) (.agg (Wf [[.int .i64 0],[.int .i64 0]] [(0,.int .i64 (Wj (0:Int) (w64 ((y130).Low - (1:Int))))),(1,.int .i64 (Wj (0:Int) (w64 ((y130).High - (1:Int)))))]).flatten.toArray):=Wz rfl (Qp (rfl) (Kd (rfl)))
      generalize xH:(Value.agg (Wf [[.int .i64 0],[.int .i64 0]] [(0,.int .i64 (Wj (0:Int) (w64 ((y130).Low - (1:Int))))),(1,.int .i64 (Wj (0:Int) (w64 ((y130).High - (1:Int)))))]).flatten.toArray)=mJ at kG
      refine Zy mJ (xH ▸ P_build (vs:=[(0,.int .i64 (Wj (0:Int) (w64 ((y130).Low - (1:Int))))),(1,.int .i64 (Wj (0:Int) (w64 ((y130).High - (1:Int)))))]) [[.int .i64 0],[.int .i64 0]] lay_85 rfl rfl (.cons rfl (.cons rfl .nil)) ⟨⟨_,rfl,rfl⟩,⟨⟨_,rfl,rfl⟩,trivial⟩⟩) rfl ?_
      obtain ⟨jI,dF,h⟩:=Gc h
      refine Zy (Qc n8 (w64 (v8 - (1:Int))) 2) (P_indexAddrM (α:=Wt) Try.underlying51 Try.sizeOf85 rfl (i6.toM) rfl dF) rfl ?_
      refine Ze .plain rfl (D_storeA (g:=yD) (α:=Wt) (a':=((⟨(Wj (0:Int) (w64 ((y130).Low - (1:Int)))),(Wj (0:Int) (w64 ((y130).High - (1:Int))))⟩:Wt))) Try.sizeOf85 rfl i6 dF rfl kG fun nJ iL hs b140=>?_)
      have hfr:=hfr.stp hs
      have l5:=l5.stp hs
      refine Zb (Qn ?_)
      obtain rfl:=sinj h
      exact hQ _ _ ⟨nJ,hfr,mB,b140,uC,l5,vC,nB⟩
     ·clear hx
      obtain ⟨oJ,hfr,lG,mG,eF,rF,sF,tF⟩:=hR
      refine Za (Gu (.int .i64 ((w64 (o0 + (1:Int))))) tF rfl rfl rfl ?_)
      refine Zn (.int .i64 ((w64 (o0 + (1:Int))))) rfl rfl ?_
      exact Zb (Zd (uH (lB,(w64 (o0 + (1:Int)))) _ _ ⟨oJ,hfr,lG,mG,eF,rF,sF,rfl⟩ h))
    ·refine Qr oD rfl ?_
     refine Qm ?_
     refine Tm ?_
     refine Tm ?_
     refine Tu ?_
     obtain rfl:=sinj h
     exact hQ _ _ ⟨nD,hfr,mB,i6⟩
   ·clear hx
    obtain ⟨jL,hfr,sG,xG⟩:=hR
    refine Zf (Za (Zo sG rfl ?_))
    refine Zg n8 rfl rfl ?_
    refine Zg (.int .i64 (0)) rfl rfl ?_
    refine Zg (.int .i64 (0)) rfl rfl ?_
    refine Zb (Zd (Gw ?_))
    obtain ⟨gp143,hs,rp143⟩:=OM.pub (xG.toM)
    have hfr:=hfr.stp hs
    obtain rfl:=sinj h
    exact end3 rfl rfl (show _=n8 from rfl) (show _=.int .i64 (0) from rfl) (show _=.int .i64 (0) from rfl) ⟨_,hfr,_,_,_,rfl,rp143,rfl,rfl⟩
def f30 (x0:BoxLoom) (x1:List Ge):Option (Int × Int × Int):=
 (f70 x0 x1).bind fun y4=>
 jn (σ:=Unit) (fun _=>
  (f73 (y4.1) ((y4.2.1).thrown) ((fun a0=>f71 a0))).bind fun t5=>
  (f73 (y4.1) ((y4.2.1).thrown) ((fun a0=>f72 a0))).bind fun i6=>
  some (t5,i6,(0:Int))
  ) fun lB=>
 bif (y4.2.2.2 != (0 : Int)) then
  some ((0:Int),(0:Int),y4.2.2.2)
 else
  lB ()
theorem en30:Enters Try.prog 30:=enters_of Try.func30 (by kernel_rfl) rfl
theorem wk30 {gI:Gh} {wI:World} {x0:BoxLoom} {x1:List Ge} {up0:Value} (rp0:RV gI.m wI x0 up0) {up1:Value} (rp1:RV gI.m wI x1 up1) {r:Int × Int × Int} (h:f30 x0 x1=some r):Fn Try.prog 30 #[up0,up1] gI wI (fun m w v=>∃ y0 y1 y2,v=.tuple #[y0,y1,y2]∧y0=.int .i64 (r.1)∧y1=.int .i64 (r.2.1)∧y2=.int .i64 (r.2.2)):=by
 unfold f30 at h
 refine Tf Try.func30 rfl (Nat.le_of_ble_eq_true rfl) fun g0 hm hfr=>?_
 have rp0:RV g0.m wI x0 up0:=hm ▸ rp0
 have rp1:RV g0.m wI x1 up1:=hm ▸ rp1
 show E _ 33 none _ _ _ _ _
 refine Zf (Za (Ze .plain rfl (We (g:=g0) rfl rp0 fun g1 w1 p1 hs q1=>?_)))
 have hfr:=hfr.ext hs
 have rp1:=rp1.ext hs
 iterate 3 refine Zg (.int .i64 (0)) rfl rfl ?_
 refine Zb (Zd (Zf (Za (Ze .plain rfl (Gr (g:=g1) Try.isAgg25 Try.sizeOf25 rfl q1 fun v2 r2=>?_)))))
 refine Zn up1 rfl rfl ?_
 obtain ⟨y4,cD,h⟩:=Gc h
 refine Ze .plain rfl (Zp (g:=g1) (vs:=[v2,up1]) en70 (.cons rfl (.cons rfl .nil)) (wk70 r2 rp1 cD) fun g3 w3_ v3 hs hr=>?_)
 have hfr:=hfr.ext hs
 obtain ⟨l8,n8,aE,bE,rfl,l5,o0,rfl,rfl⟩:=hr
 refine Zn (.tuple #[l8,n8,.int .i64 (y4.2.2.1),.int .i64 (y4.2.2.2)]) rfl rfl ?_
 refine Zy l8 (Zi rfl rfl) rfl ?_
 refine Zy n8 (Zi rfl rfl) rfl ?_
 refine Zy (.int .i64 (y4.2.2.1)) (Zi rfl rfl) rfl ?_
 refine Zy (.int .i64 (y4.2.2.2)) (Zi rfl rfl) rfl ?_
 refine Ze .plain rfl (Gs (g:=g3) 2007 (⟨⟨[],[],[]⟩⟩:Gf) Try.zeroValue102 (fun m w=>⟨_,(Gg Gz (Gg Gz Gz)),rfl⟩) fun g5 w5 p5 hs b5 cb=>?_)
 have hfr:=hfr.stp hs
 have l5:=l5.stp hs
 have o0:=o0.stp hs
 have iE:OSF 2007 60700 0 g5 w5 3 102 ([]:List Int) p5:=cb.osf (by rfl)
 have lE:OSF 2007 60701 1 g5 w5 3 102 ([]:List Int) p5:=cb.osf (by rfl)
 have mE:OSF 2007 60702 2 g5 w5 87 102 ([]:List Zv) p5:=cb.osf (by rfl)
 clear cb
 refine Ze .plain rfl (Gs (g:=g5) 2008 (⟨[],⟨(⟨List.toArray [(⟨List.toArray [0,0,0,0],rfl⟩:Vector Int 4),(⟨List.toArray [0,0,0,0],rfl⟩:Vector Int 4)],rfl⟩:Vector (Vector Int 4) 2),⟨0,0⟩⟩,0⟩:Tz) Try.zeroValue129 (fun m w=>⟨_,(Gg Gz (Gg (Gg (Gt (Zw (Gt (Zw Zx (Zw Zx (Zw Zx (Zw Zx Gm)))) rfl) (Zw (Gt (Zw Zx (Zw Zx (Zw Zx (Zw Zx Gm)))) rfl) Gm)) rfl) (Gg Zx Zx)) Zx)),rfl⟩) fun g6 w6 p6 hs b6 cb=>?_)
 have hfr:=hfr.stp hs
 have l5:=l5.stp hs
 have o0:=o0.stp hs
 have b5:=b5.stp hs rfl
 have oE:OSF 2008 60800 0 g6 w6 3 129 ([]:List Int) p6:=cb.osf (by rfl)
 clear cb
 refine Ze .plain rfl (Gk (g:=g6) (v:=l8) Try.sizeOf102 rfl b5 rfl l5 fun g7 w7 hs b7 cb=>?_)
 clear cb
 have hfr:=hfr.stp hs
 have o0:=o0.stp hs
 have b6:=b6.stp hs rfl
 refine Ze .plain rfl (Gk (g:=g7) (v:=n8) Try.sizeOf129 rfl b6 rfl o0 fun g8 w8 hs b8 cb=>?_)
 clear cb
 have hfr:=hfr.stp hs
 have b7:=b7.stp hs rfl
 refine Zg (.int .i64 (y4.2.2.1)) rfl rfl ?_
 refine Zg (.int .i64 (y4.2.2.2)) rfl rfl ?_
 refine Zb (Zd (Zq h (fun (s:Unit) e w=>∃ (g:Gh) ,Fr gI wI g w∧e 7=p5∧OB 2007 g w 102 (y4.1:Gf) p5∧e 8=p6∧OB 2008 g w 129 (y4.2.1:Tz) p6) (fun X10 lB yB h=>?_) ?_))
 ·refine Zf (Za (Zn (.int .i64 (y4.2.2.2)) rfl rfl ?_))
  refine Gu (.bool ((y4.2.2.2 != (0:Int)))) rfl rfl rfl rfl ?_
  refine Zb (Zd ?_)
  rcases Zt h with ⟨v8,h⟩ | ⟨v8,h⟩
  ·refine Qq v8 rfl ?_
   refine Zf (Za (Zn (.int .i64 (y4.2.2.2)) rfl rfl ?_))
   refine Zg (.int .i64 (0)) rfl rfl ?_
   refine Zg (.int .i64 (0)) rfl rfl ?_
   refine Zg (.int .i64 (y4.2.2.2)) rfl rfl ?_
   refine Zb (Zd (Gw (Tc ?_)))
   obtain rfl:=sinj h
   exact end3 rfl rfl (show _=.int .i64 (0) from rfl) (show _=.int .i64 (0) from rfl) (show _=.int .i64 (y4.2.2.2) from rfl) ⟨_,hfr,_,_,_,rfl,rfl,rfl,rfl⟩
  ·refine Qr v8 rfl ?_
   exact Zu (Zd (yB () _ _ ⟨g8,hfr,rfl,b7,rfl,b8⟩ h))
 ·rintro _ rE uE ⟨lD, hfr, l9, n9, aB, u3⟩ h
  refine Zf (Za (Zg (.func (.func 71) #[] #[]) rfl rfl ?_))
  refine Zg (.func (.func 72) #[] #[]) rfl rfl ?_
  refine Zb (Zd (Zf (Wq (x:=.tmp 7) Try.isAgg102 Try.sizeOf102 n9 fun mB nD zB=>?_)))
  refine Wg (x:=.tmp 24) part_BoxRun_0.1 Try.isAgg22 Try.sizeOf22 u3 fun nB oD cC=>?_
  obtain ⟨t5,uC,h⟩:=Gc h
  refine Wq (x:=.tmp 7) Try.isAgg102 Try.sizeOf102 n9 fun oB yD vC=>?_
  refine Wg (x:=.tmp 29) part_BoxRun_0.1 Try.isAgg22 Try.sizeOf22 u3 fun vB zD hl20=>?_
  obtain ⟨i6,bD,h⟩:=Gc h
  refine Tt (g:=lD) (n:=13) [(4,(fun v g w=>v=.int .i64 (t5))),(9,(fun v g w=>v=.int .i64 (i6)))] [0,1,2,3,4,5,6,7,8,9,10,11,12] rfl Qf (by kernel_rfl) (⟨fun _=>Tr _,fun _=>Tr _,trivial⟩) ?_
  refine Gy (c:=mB) rfl rfl .plain (fun _ _ h=>⟨h.ch,fun b hb _=>h.below.block b hb⟩) zB l9 ?_
  refine Gb (Gj p6 0) rfl rfl (Zc at_129_0 aB (OB.ptr u3)) ?_
  refine Gy (c:=nB) rfl rfl .plain (fun _ _ h=>⟨h.ch,fun b hb _=>h.below.block b hb⟩) cC rfl ?_
  refine Gb (.func (.func 71) #[] #[]) rfl rfl (Zk rfl) ?_
  refine Qa (φ:=fun v g w=>v=.int .i64 (t5)) rfl rfl .plain (fun g w hd=>Zp (g:=g) (vs:=[mB,nB,.func (.func 71) #[] #[]]) en73 (.cons rfl (.cons rfl (.cons rfl .nil))) (wk73 (nD.ext hd.1) (oD.ext hd.1) ⟨71,#[],#[],rfl,en71,fun g' w' hch a0 b0 r hu0 hr=>by exact Fn.mono (wk71 hu0  hr) fun _ _ _ h=>Zj.2 h⟩ uC) fun g' w' v hs hr=>⟨g',hs,hr⟩) (fun vE hv=>?_)
  obtain ⟨_,_,_,rfl⟩:=hv
  refine Gy (c:=oB) rfl rfl .plain (fun _ _ h=>⟨h.ch,fun b hb _=>h.below.block b hb⟩) vC l9 ?_
  refine Gb (Gj p6 0) rfl rfl (Zc at_129_0 aB (OB.ptr u3)) ?_
  refine Gy (c:=vB) rfl rfl .plain (fun _ _ h=>⟨h.ch,fun b hb _=>h.below.block b hb⟩) hl20 rfl ?_
  refine Gb (.func (.func 72) #[] #[]) rfl rfl (Zk rfl) ?_
  refine Qa (φ:=fun v g w=>v=.int .i64 (i6)) rfl rfl .plain (fun g w hd=>Zp (g:=g) (vs:=[oB,vB,.func (.func 72) #[] #[]]) en73 (.cons rfl (.cons rfl (.cons rfl .nil))) (wk73 (yD.ext hd.1) (zD.ext hd.1) ⟨72,#[],#[],rfl,en72,fun g' w' hch a0 b0 r hu0 hr=>by exact Fn.mono (wk72 hu0  hr) fun _ _ _ h=>Zj.2 h⟩ bD) fun g' w' v hs hr=>⟨g',hs,hr⟩) (fun xE hv=>?_)
  obtain ⟨_,_,_,rfl⟩:=hv
  refine Gb (.int .i64 (t5)) rfl rfl (Tg rfl) ?_
  refine Gb (.int .i64 (i6)) rfl rfl (Tg rfl) ?_
  refine Gb (.int .i64 (0)) rfl rfl (Tg rfl) ?_
  refine L_nl fun yE zE hs=>?_
  have hfr:=hfr.ext hs
  clear hs
  refine Zb (Zd (Gw ?_))
  obtain rfl:=sinj h
  exact end3 rfl rfl (show _=.int .i64 (t5) from rfl) (show _=.int .i64 (i6) from rfl) (show _=.int .i64 (0) from rfl) ⟨_,hfr,_,_,_,rfl,rfl,rfl,rfl⟩
theorem W78 {iO:Nat} {gI:Gh} {wI:World} {x0:List Int} {up0:Value} (rp0:RV gI.m wI x0 up0) {r:List Int} (h:f78 x0=some r):FnG Try.prog 78 #[up0] gI wI (fun g w v=>OWx (Ow.list 3 (Ow.sh Int)) iO g w r v):=by
 unfold f78 at h
 refine fnG_of_E Try.func78 rfl (Nat.le_of_ble_eq_true rfl) fun g0 hm hfr=>?_
 have rp0:RV g0.m wI x0 up0:=hm ▸ rp0
 show E _ 8 none _ _ _ _ _
 refine Zf (Za (Zg (.slice none 0 0) rfl rfl (Zb (Zd ?_))))
 refine Zf (Zf (Za (Zn up0 rfl rfl ?_)))
 obtain ⟨a,c,hv,hc,hrow⟩:=RV_list rp0
 refine Zy (.bool a.isNone) (P_slnil Try.underlying22 (show ev _ _=_ from hv)) rfl (Zb (Zd ?_))
 cases a with
 | none=>
  have hx:x0=[]:=by
   cases x0 with
   | nil=>rfl
   | cons y ys=>obtain ⟨b,off,hb,_⟩:=hrow (by simp); cases hb
  subst hx
  have hr:r=[]:=by unfold apnd at h; split at h <;> simp at h; exact h
  subst hr
  refine To rfl (Zf (Za ?_))
  refine Zg (.slice none 0 0) rfl rfl (Zb (Zd ?_))
  obtain ⟨sk,ow,ok⟩:=OA.toW (OA.nil:OA 1 g0 wI 3 ([]:List Int) (.slice none 0 0))
  obtain ⟨gh,hxh,_,homh⟩:=OW.hand (i:=iO) hfr ow ok; exact Gw (Tc (Wb rfl rfl (show _=.slice none 0 0 from rfl) ⟨gh,hxh,homh⟩))
 | some a=>
  refine Tk rfl (Zu (Zd ?_))
  refine Zf (Za (Ze .plain rfl (Gi (g:=g0) 1 (xs:=([]:List Int)) (vs:=[]) Try.underlying22 Try.sizeOf3 Try.zeroValue3 rfl rfl .nil RVs.nil rfl rfl fun g1 w1 v1 hs o1 r1 hxt hfl=>?_)))
  have hfr:=hfr.stp hs
  have rp0:=rp0.stp hs
  refine Zn up0 rfl rfl ?_
  refine Ze .plain rfl (D_appendE (g:=g1) plain_int (i:=1) Try.underlying22 info_3 rfl rfl o1 hfl rfl rp0 h fun g2 w2 v2 hs b2=>?_)
  have hfr:=hfr.ext hs
  refine Zg v2 rfl rfl (Zb (Zd ?_))
  obtain ⟨sk,ow,ok⟩:=OA.toW b2
  obtain ⟨gh,hxh,_,homh⟩:=OW.hand (i:=iO) hfr ow ok; exact Gw (Wb rfl rfl (show _=v2 from rfl) ⟨gh,hxh,homh⟩)
theorem W79 {iO:Nat} {gI:Gh} {wI:World} {x0:List Zv} {up0:Value} (rp0:RV gI.m wI x0 up0) {r:List Zv} (h:f79 x0=some r):FnG Try.prog 79 #[up0] gI wI (fun g w v=>OWx (Ow.list 87 (Ow.sh Zv)) iO g w r v):=by
 unfold f79 at h
 refine fnG_of_E Try.func79 rfl (Nat.le_of_ble_eq_true rfl) fun g0 hm hfr=>?_
 have rp0:RV g0.m wI x0 up0:=hm ▸ rp0
 show E _ 8 none _ _ _ _ _
 refine Zf (Za (Zg (.slice none 0 0) rfl rfl (Zb (Zd ?_))))
 refine Zf (Zf (Za (Zn up0 rfl rfl ?_)))
 obtain ⟨a,c,hv,hc,hrow⟩:=RV_list rp0
 refine Zy (.bool a.isNone) (P_slnil Try.underlying23 (show ev _ _=_ from hv)) rfl (Zb (Zd ?_))
 cases a with
 | none=>
  have hx:x0=[]:=by
   cases x0 with
   | nil=>rfl
   | cons y ys=>obtain ⟨b,off,hb,_⟩:=hrow (by simp); cases hb
  subst hx
  have hr:r=[]:=by unfold apnd at h; split at h <;> simp at h; exact h
  subst hr
  refine To rfl (Zf (Za ?_))
  refine Zg (.slice none 0 0) rfl rfl (Zb (Zd ?_))
  obtain ⟨sk,ow,ok⟩:=OA.toW (OA.nil:OA 1 g0 wI 87 ([]:List Zv) (.slice none 0 0))
  obtain ⟨gh,hxh,_,homh⟩:=OW.hand (i:=iO) hfr ow ok; exact Gw (Tc (Wb rfl rfl (show _=.slice none 0 0 from rfl) ⟨gh,hxh,homh⟩))
 | some a=>
  refine Tk rfl (Zu (Zd ?_))
  refine Zf (Za (Ze .plain rfl (Gi (g:=g0) 1 (xs:=([]:List Zv)) (vs:=[]) Try.underlying23 Try.sizeOf87 Try.zeroValue87 rfl rfl .nil RVs.nil rfl rfl fun g1 w1 v1 hs o1 r1 hxt hfl=>?_)))
  have hfr:=hfr.stp hs
  have rp0:=rp0.stp hs
  refine Zn up0 rfl rfl ?_
  refine Ze .plain rfl (D_appendE (g:=g1) plain_BoxShuttle (i:=1) Try.underlying23 info_87 rfl rfl o1 hfl rfl rp0 h fun g2 w2 v2 hs b2=>?_)
  have hfr:=hfr.ext hs
  refine Zg v2 rfl rfl (Zb (Zd ?_))
  obtain ⟨sk,ow,ok⟩:=OA.toW b2
  obtain ⟨gh,hxh,_,homh⟩:=OW.hand (i:=iO) hfr ow ok; exact Gw (Wb rfl rfl (show _=v2 from rfl) ⟨gh,hxh,homh⟩)
def f40 (x0:BoxLoom) (x1:List Ge):Option ((List Int) × BoxLoom × Int × Int × Int):=
 (f70 x0 x1).bind fun y5=>
 jn (σ:=(List Int) × BoxLoom) (fun (nJ,lB)=>
  Option.bind (α:=(List Int)) (
   lp (σ:=(List Int) × Int) (fun iL (kG,l9)=>
    bif (decide (l9 < (((y5.2.1).thrown).length : Int))) then
     Option.bind (α:=(List Int)) (
      (idx ((y5.2.1).thrown) l9).bind fun cF=>
      (idx (((y5.1).BoxLoom).Shuttles) (w64 (cF - (1:Int)))).bind fun y125=>
      (apnd 8 kG (([(y125).Colour]:List Int))).bind fun jL=>
      some (jL)
      ) fun rE=>
     iL (rE,(w64 (l9 + (1:Int))))
    else
     some (kG)
    ) big (nJ,(0:Int))
   ) fun v8=>
  (f78 (((y5.1).BoxLoom).Boxes)).bind fun dF=>
  (f79 (((y5.1).BoxLoom).Shuttles)).bind fun eF=>
  Option.bind (α:=BoxLoom) (
   lp (σ:=BoxLoom × Int) (fun lL (lG,u3)=>
    bif (decide (u3 < (2 : Int))) then
     Option.bind (α:=BoxLoom) (
      (idx (((y5.2.1).last).boxes).toList u3).bind fun qH=>
      lp (σ:=BoxLoom × Int) (fun mL (o0,n8)=>
       bif (decide (n8 < (4 : Int))) then
        Option.bind (α:=BoxLoom) (
         (idx (qH).toList n8).bind fun i6=>
         bif (decide (i6 > (0 : Int))) then
          (idx ((o0).Shuttles) ((w64 (i6 - (1:Int))))).bind fun mB=>
          (idx ((({ o0 with Shuttles:=(List.set ((o0).Shuttles) (Int.toNat ((w64 (i6 - (1:Int))))) ({ mB with Side:=u3 }:Zv)) }:BoxLoom)).Shuttles) ((w64 (i6 - (1:Int))))).bind fun sH=>
          some (({ (({ o0 with Shuttles:=(List.set ((o0).Shuttles) (Int.toNat ((w64 (i6 - (1:Int))))) ({ mB with Side:=u3 }:Zv)) }:BoxLoom)) with Shuttles:=(List.set ((({ o0 with Shuttles:=(List.set ((o0).Shuttles) (Int.toNat ((w64 (i6 - (1:Int))))) ({ mB with Side:=u3 }:Zv)) }:BoxLoom)).Shuttles) (Int.toNat ((w64 (i6 - (1:Int))))) ({ sH with Box:=n8 }:Zv)) }:BoxLoom))
         else
          some (o0)
         ) fun sF=>
        mL (sF,(w64 (n8 + (1:Int))))
       else
        some (o0)
       ) big (lG,(0:Int))
      ) fun tF=>
     lL (tF,(w64 (u3 + (1:Int))))
    else
     some (lG)
    ) big ((⟨dF,([(((y5.2.1).last).at_).Left,(((y5.2.1).last).at_).Right]:List Int),eF⟩:BoxLoom),(0:Int))
   ) fun mG=>
  some (v8,mG,(y5.2.1).moves,(0:Int),(0:Int))
  ) fun rO=>
 bif (y5.2.2.2 != (0 : Int)) then
  some ([],(⟨[],[],[]⟩:BoxLoom),(0:Int),y5.2.2.1,y5.2.2.2)
 else
  rO ([],(⟨[],[],[]⟩:BoxLoom))
theorem en40:Enters Try.prog 40:=enters_of Try.func40 (by kernel_rfl) rfl
theorem wk40 {gI:Gh} {wI:World} {x0:BoxLoom} {x1:List Ge} {up0:Value} (rp0:RV gI.m wI x0 up0) {up1:Value} (rp1:RV gI.m wI x1 up1) {r:(List Int) × BoxLoom × Int × Int × Int} (h:f40 x0 x1=some r):Fn Try.prog 40 #[up0,up1] gI wI (fun m w v=>∃ y0 y1 y2 y3 y4,v=.tuple #[y0,y1,y2,y3,y4]∧RV m w (r.1) y0∧RV m w (r.2.1) y1∧y2=.int .i64 (r.2.2.1)∧y3=.int .i64 (r.2.2.2.1)∧y4=.int .i64 (r.2.2.2.2)):=by
 unfold f40 at h
 refine Tf Try.func40 rfl (Nat.le_of_ble_eq_true rfl) fun g0 hm hfr=>?_
 have rp0:RV g0.m wI x0 up0:=hm ▸ rp0
 have rp1:RV g0.m wI x1 up1:=hm ▸ rp1
 show E _ 101 none _ _ _ _ _
 refine Zf (Za (Ze .plain rfl (We (g:=g0) rfl rp0 fun g1 w1 p1 hs q1=>?_)))
 have hfr:=hfr.ext hs
 have rp1:=rp1.ext hs
 refine Zg (.slice none 0 0) rfl rfl ?_
 refine Ze .plain rfl (Gs (g:=g1) 2005 (⟨[],[],[]⟩:BoxLoom) Try.zeroValue25 (fun m w=>⟨_,(Gg Gz (Gg Gz Gz)),rfl⟩) fun g2 w2 p2 hs b2 cb=>?_)
 have hfr:=hfr.stp hs
 have rp1:=rp1.stp hs
 have q1:=q1.stp hs
 have cD:OSF 2005 60500 0 g2 w2 3 25 ([]:List Int) p2:=cb.osf (by rfl)
 have lD:OSF 2005 60501 1 g2 w2 3 25 ([]:List Int) p2:=cb.osf (by rfl)
 have nD:OSF 2005 60502 2 g2 w2 87 25 ([]:List Zv) p2:=cb.osf (by rfl)
 clear cb
 iterate 3 refine Zg (.int .i64 (0)) rfl rfl ?_
 refine Zb (Zd (Zf (Za (Ze .plain rfl (Gr (g:=g2) Try.isAgg25 Try.sizeOf25 rfl q1 fun v3 r3=>?_)))))
 refine Zn up1 rfl rfl ?_
 obtain ⟨y5,hy5,h⟩:=Gc h
 refine Ze .plain rfl (Zp (g:=g2) (vs:=[v3,up1]) en70 (.cons rfl (.cons rfl .nil)) (wk70 r3 rp1 hy5) fun g4 w4_ v4 hs hr=>?_)
 have hfr:=hfr.ext hs
 have cD:=cD.ext hs
 have lD:=lD.ext hs
 have nD:=nD.ext hs
 have b2:=b2.ext hs
 obtain ⟨pI,qI,vQ,xQ,rfl,sG,rF,rfl,rfl⟩:=hr
 refine Zn (.tuple #[pI,qI,.int .i64 (y5.2.2.1),.int .i64 (y5.2.2.2)]) rfl rfl ?_
 refine Zy pI (Zi rfl rfl) rfl ?_
 refine Zy qI (Zi rfl rfl) rfl ?_
 refine Zy (.int .i64 (y5.2.2.1)) (Zi rfl rfl) rfl ?_
 refine Zy (.int .i64 (y5.2.2.2)) (Zi rfl rfl) rfl ?_
 refine Ze .plain rfl (Gs (g:=g4) 2009 (⟨⟨[],[],[]⟩⟩:Gf) Try.zeroValue102 (fun m w=>⟨_,(Gg Gz (Gg Gz Gz)),rfl⟩) fun g6 w6 p6 hs b6 cb=>?_)
 have hfr:=hfr.stp hs
 have cD:=cD.stp hs rfl
 have lD:=lD.stp hs rfl
 have nD:=nD.stp hs rfl
 have b2:=b2.stp hs rfl
 have sG:=sG.stp hs
 have rF:=rF.stp hs
 have yQ:OSF 2009 60900 0 g6 w6 3 102 ([]:List Int) p6:=cb.osf (by rfl)
 have zQ:OSF 2009 60901 1 g6 w6 3 102 ([]:List Int) p6:=cb.osf (by rfl)
 have aR:OSF 2009 60902 2 g6 w6 87 102 ([]:List Zv) p6:=cb.osf (by rfl)
 clear cb
 refine Ze .plain rfl (Gs (g:=g6) 2010 (⟨[],⟨(⟨List.toArray [(⟨List.toArray [0,0,0,0],rfl⟩:Vector Int 4),(⟨List.toArray [0,0,0,0],rfl⟩:Vector Int 4)],rfl⟩:Vector (Vector Int 4) 2),⟨0,0⟩⟩,0⟩:Tz) Try.zeroValue129 (fun m w=>⟨_,(Gg Gz (Gg (Gg (Gt (Zw (Gt (Zw Zx (Zw Zx (Zw Zx (Zw Zx Gm)))) rfl) (Zw (Gt (Zw Zx (Zw Zx (Zw Zx (Zw Zx Gm)))) rfl) Gm)) rfl) (Gg Zx Zx)) Zx)),rfl⟩) fun g7 w7 p7 hs b7 cb=>?_)
 have hfr:=hfr.stp hs
 have cD:=cD.stp hs rfl
 have lD:=lD.stp hs rfl
 have nD:=nD.stp hs rfl
 have b2:=b2.stp hs rfl
 have sG:=sG.stp hs
 have rF:=rF.stp hs
 have b6:=b6.stp hs rfl
 have bR:OSF 2010 61000 0 g7 w7 3 129 ([]:List Int) p7:=cb.osf (by rfl)
 clear cb
 refine Ze .plain rfl (Gk (g:=g7) (v:=pI) Try.sizeOf102 rfl b6 rfl sG fun g8 w8 hs b8 cb=>?_)
 clear cb
 have hfr:=hfr.stp hs
 have cD:=cD.stp hs rfl
 have lD:=lD.stp hs rfl
 have nD:=nD.stp hs rfl
 have b2:=b2.stp hs rfl
 have rF:=rF.stp hs
 have b7:=b7.stp hs rfl
 refine Ze .plain rfl (Gk (g:=g8) (v:=qI) Try.sizeOf129 rfl b7 rfl rF fun g9 w9 hs b9 cb=>?_)
 clear cb
 have hfr:=hfr.stp hs
 have cD:=cD.stp hs rfl
 have lD:=lD.stp hs rfl
 have nD:=nD.stp hs rfl
 have b2:=b2.stp hs rfl
 have b8:=b8.stp hs rfl
 refine Zg (.int .i64 (y5.2.2.1)) rfl rfl ?_
 refine Zg (.int .i64 (y5.2.2.2)) rfl rfl ?_
 refine Zb (Zd (Zq h (fun (s:(List Int) × BoxLoom) e w=>∃ (g:Gh) (v4:Value),Fr gI wI g w∧e 4=v4∧RV g.m w (s.1:List Int) v4∧OS 1004 g w 3 (s.1:List Int) v4∧e 5=p2∧OB 2005 g w 25 (s.2:BoxLoom) p2∧OSF 2005 60500 0 g w 3 25 ((s.2).Boxes) p2∧OSF 2005 60501 1 g w 3 25 ((s.2).At) p2∧OSF 2005 60502 2 g w 87 25 ((s.2).Shuttles) p2∧e 9=p6∧OB 2009 g w 102 (y5.1:Gf) p6∧e 10=p7∧OB 2010 g w 129 (y5.2.1:Tz) p7) (fun X38 rO tO h=>?_) ?_))
 ·refine Zf (Za (Zn (.int .i64 (y5.2.2.2)) rfl rfl ?_))
  refine Gu (.bool ((y5.2.2.2 != (0:Int)))) rfl rfl rfl rfl ?_
  refine Zb (Zd ?_)
  rcases Zt h with ⟨sI,h⟩ | ⟨sI,h⟩
  ·refine Qq sI rfl ?_
   refine Zf (L_selfO Try.isAgg25 Try.sizeOf25 rfl b2 fun lQ uO vO=>?_)
   refine Tt (g:=g9) (n:=8) [(4,(fun _ _ _=>True))] [0,1,2,3,4,5,6,7] rfl Qf (by kernel_rfl) (⟨fun _=>(fun _ _ _ _ _ _=>trivial),trivial⟩) ?_
   refine Gy (c:=lQ) rfl rfl .plain (fun _ _ h=>⟨h.ch,fun b hb _=>h.below.block b hb⟩) (uO _) rfl ?_
   refine Gb (.int .i64 (y5.2.2.1)) rfl rfl (Zk rfl) ?_
   refine Gb (.int .i64 (y5.2.2.2)) rfl rfl (Zk rfl) ?_
   refine Gb (.slice none 0 0) rfl rfl (Tg rfl) ?_
   refine Qa (φ:=fun _ _ _=>True) rfl rfl .plain (fun g w hd=>vO _ _ _ g w ⟨hd.1.ch,fun b hb _=>hd.1.below.block b hb⟩ rfl rfl) (fun lS hv=>?_)
   clear hv
   refine Gb (.int .i64 (0)) rfl rfl (Tg rfl) ?_
   refine Gb (.int .i64 (y5.2.2.1)) rfl rfl (Tg rfl) ?_
   refine Gb (.int .i64 (y5.2.2.2)) rfl rfl (Tg rfl) ?_
   refine L_nl fun mS nS hs=>?_
   have hfr:=hfr.ext hs
   have b2:=b2.ext hs
   clear hs
   refine Zb (Zd (Gw (Tc ?_)))
   obtain rfl:=sinj h
   obtain ⟨ad67,cv67,hp67,xO,cr67⟩:=Qv Try.isAgg25 Try.sizeOf25 b2
   exact endm_tcttt rfl rfl (show _=.slice none 0 0 from rfl) ((show _=p2 from rfl).trans hp67) xO (show _=.int .i64 (0) from rfl) (show _=.int .i64 (y5.2.2.1) from rfl) (show _=.int .i64 (y5.2.2.2) from rfl) ⟨_,hfr,_,_,_,_,_,rfl,RV_nil,cr67,rfl,rfl,rfl⟩
  ·refine Qr sI rfl ?_
   exact Zu (Zd (tO ([],(⟨[],[],[]⟩:BoxLoom)) _ _ ⟨g9,(.slice none 0 0),hfr,rfl,RV_nil,OS.nil,rfl,b2,cD,lD,nD,rfl,b8,rfl,b9⟩ h))
 ·rintro ⟨nJ, lB⟩ dR oS ⟨sO, qN, hfr, rN, sN, tN, uN, vN, u5_0_68, u5_1_68, u5_2_68, xN, yN, dI, xG⟩ h
  obtain ⟨v8,hx,h⟩:=Gc h
  refine Th (fun e w=>∃ (g:Gh) (v4:Value),Fr gI wI g w∧e 4=v4∧RV g.m w (v8:List Int) v4∧OS 1004 g w 3 (v8:List Int) v4∧e 5=p2∧OB 2005 g w 25 (lB:BoxLoom) p2∧OSF 2005 60500 0 g w 3 25 ((lB).Boxes) p2∧OSF 2005 60501 1 g w 3 25 ((lB).At) p2∧OSF 2005 60502 2 g w 87 25 ((lB).Shuttles) p2∧e 9=p6∧OB 2009 g w 102 (y5.1:Gf) p6∧e 10=p7∧OB 2010 g w 129 (y5.2.1:Tz) p7) (fun Q' hQ=>?_) (fun nQ eR hR=>?_)
  ·replace h := hx
   clear hx
   refine Zf (Za (Zy (Gj p7 0) (Zc at_129_0 dI (OB.ptr xG)) rfl ?_))
   refine Ze .plain rfl (Kb (g:=sO) part_BoxRun_0.1 Try.isAgg22 Try.sizeOf22 rfl xG fun yG nL=>?_)
   refine Zy (.int .i64 (((y5.2.1).thrown).length:Int)) (Tw Try.underlying22 rfl nL) rfl ?_
   refine Zn (.int .i64 (0)) rfl rfl ?_
   refine Zb (Zd (Zr ?_))
   refine E_lp h (fun (s:(List Int) × Int) e w=>∃ (g:Gh) (v4:Value),Fr gI wI g w∧e 4=v4∧RV g.m w (s.1:List Int) v4∧OS 1004 g w 3 (s.1:List Int) v4∧e 5=p2∧OB 2005 g w 25 (lB:BoxLoom) p2∧OSF 2005 60500 0 g w 3 25 ((lB).Boxes) p2∧OSF 2005 60501 1 g w 3 25 ((lB).At) p2∧OSF 2005 60502 2 g w 87 25 ((lB).Shuttles) p2∧e 9=p6∧OB 2009 g w 102 (y5.1:Gf) p6∧e 10=p7∧OB 2010 g w 129 (y5.2.1:Tz) p7∧e 31=yG∧RV g.m w ((y5.2.1).thrown:List Int) yG∧e 32=.int .i64 ((((y5.2.1).thrown).length:Int))∧e 33=.int .i64 (s.2)) ⟨sO,(qN),hfr,rN,sN,tN,uN,vN,u5_0_68,u5_1_68,u5_2_68,xN,yN,dI,xG,rfl,nL,rfl,rfl⟩ (fun X103 iL zN=>?_)
   rintro ⟨kG,l9⟩ oQ gR ⟨zG,oL,hfr,iI,uF,vF,jI,aE,u5_0_104,u5_1_104,u5_2_104,aH,oB,jH,uC,kH,vB,lH,aG⟩ h
   refine Zf (Za (Zy (.bool ((decide (l9 < (((y5.2.1).thrown).length:Int))))) (Td aG lH rfl) rfl ?_))
   refine Zb (Zd (Zf ?_))
   rcases Zt h with ⟨tH,h⟩ | ⟨tH,h⟩
   ·refine Qq tH rfl ?_
    refine Zu (Zd ?_)
    obtain ⟨rE,hx,h⟩:=Gc h
    refine Th (fun e w=>∃ (g:Gh) (v4:Value),Fr gI wI g w∧e 4=v4∧RV g.m w (rE:List Int) v4∧OS 1004 g w 3 (rE:List Int) v4∧e 5=p2∧OB 2005 g w 25 (lB:BoxLoom) p2∧OSF 2005 60500 0 g w 3 25 ((lB).Boxes) p2∧OSF 2005 60501 1 g w 3 25 ((lB).At) p2∧OSF 2005 60502 2 g w 87 25 ((lB).Shuttles) p2∧e 9=p6∧OB 2009 g w 102 (y5.1:Gf) p6∧e 10=p7∧OB 2010 g w 129 (y5.2.1:Tz) p7∧e 31=yG∧RV g.m w ((y5.2.1).thrown:List Int) yG∧e 32=.int .i64 ((((y5.2.1).thrown).length:Int))∧e 33=.int .i64 (l9)) (fun Q' hQ=>?_) (fun pQ iR hR=>?_)
    ·replace h := hx
     clear hx
     refine Zr ?_
     refine Zf (Za ?_)
     obtain ⟨cF,oJ,h⟩:=Gc h
     refine Zy (Qc yG l9 1) (Zh (α:=Int) Try.underlying22 Try.sizeOf3 kH vB aG oJ) rfl ?_
     have yO:=Tj vB oJ
     refine Ze .plain rfl (Gr (g:=zG) Try.isAgg3 Try.sizeOf3 rfl yO fun jR zO=>?_)
     obtain rfl:=Zj.1 zO
     refine Zg (.int .i64 (cF)) rfl rfl ?_
     refine Zb (Zd (Za (Zo iI rfl ?_)))
     refine Zy (Gj p6 0) (Zc Ka aH (OB.ptr oB)) rfl ?_
     refine Zy (Gj p6 2) (Qz (o1:=0) rfl Qk rfl (OB.ptr oB)) rfl ?_
     refine Ze .plain rfl (Kb (g:=zG) (Ta.comp Tq Gx rfl).1 Try.isAgg23 Try.sizeOf23 rfl oB fun xL yL=>?_)
     refine Zn (.int .i64 (cF)) rfl rfl ?_
     refine Gu (.int .i64 ((w64 (cF - (1:Int))))) rfl rfl rfl rfl ?_
     obtain ⟨y125,pJ,h⟩:=Gc h
     refine Zy (Qc xL (w64 (cF - (1:Int))) 5) (Zh (α:=Zv) Try.underlying23 Try.sizeOf87 rfl yL rfl pJ) rfl ?_
     have zL:=Tj yL pJ
     refine Zy (Gj (Qc xL (w64 (cF - (1:Int))) 5) 0) (Zc at_87_0 rfl (PT.ptr zL)) rfl ?_
     have aP:=Zm (part_BoxShuttle_0).1 zL
     refine Ze .plain rfl (Gr (g:=zG) Try.isAgg3 Try.sizeOf3 rfl aP fun lR bP=>?_)
     obtain rfl:=Zj.1 bP
     refine Ze .plain rfl (Gi (g:=zG) 3046 (xs:=([(y125).Colour]:List Int)) (vs:=[.int .i64 ((y125).Colour)]) Try.underlying22 Try.sizeOf3 Try.zeroValue3 rfl rfl (.cons rfl .nil) (RVs.cons (Zj.2 rfl) RVs.nil) rfl rfl fun cP mR nR hs o129 dP hxt hfl=>?_)
     have hfr:=hfr.stp hs
     have uF:=uF.stp hs
     have vF:=vF.stp hs rfl
     have u5_0_104:=u5_0_104.stp hs rfl
     have u5_1_104:=u5_1_104.stp hs rfl
     have u5_2_104:=u5_2_104.stp hs rfl
     have aE:=aE.stp hs rfl
     have oB:=oB.stp hs rfl
     have uC:=uC.stp hs rfl
     have vB:=vB.stp hs
     obtain ⟨jL,aO,h⟩:=Gc h
     refine Ze .plain rfl (Ke (g:=cP) (i:=1004) Try.underlying22 info_3 rfl rfl vF uF rfl dP aO fun eP oR aM hs o130 gP _=>?_)
     have hfr:=hfr.stp hs
     have u5_0_104:=u5_0_104.stp hs rfl
     have u5_1_104:=u5_1_104.stp hs rfl
     have u5_2_104:=u5_2_104.stp hs rfl
     have aE:=aE.stp hs rfl
     have oB:=oB.stp hs rfl
     have uC:=uC.stp hs rfl
     have vB:=vB.stp hs
     refine Zg aM rfl rfl ?_
     refine Zb (Qn ?_)
     obtain rfl:=sinj h
     exact hQ _ _ ⟨eP,(aM),hfr,rfl,gP,o130,jI,aE,u5_0_104,u5_1_104,u5_2_104,aH,oB,jH,uC,kH,vB,lH,aG⟩
    ·clear hx
     obtain ⟨iP,bM,hfr,cM,dM,eM,iM,jM,u5_0_132,u5_1_132,u5_2_132,kM,pM,xJ,zJ,aK,bK,cK,dK⟩:=hR
     refine Za (Gu (.int .i64 ((w64 (l9 + (1:Int))))) dK rfl rfl rfl ?_)
     refine Zn (.int .i64 ((w64 (l9 + (1:Int))))) rfl rfl ?_
     exact Zb (Zd (zN (rE,(w64 (l9 + (1:Int)))) _ _ ⟨iP,(bM),hfr,cM,dM,eM,iM,jM,u5_0_132,u5_1_132,u5_2_132,kM,pM,xJ,zJ,aK,bK,cK,rfl⟩ h))
   ·refine Qr tH rfl ?_
    refine Qm ?_
    refine Tm ?_
    refine Tm ?_
    refine Tu ?_
    obtain rfl:=sinj h
    exact hQ _ _ ⟨zG,(oL),hfr,iI,uF,vF,jI,aE,u5_0_104,u5_1_104,u5_2_104,aH,oB,jH,uC⟩
  ·clear hx
   obtain ⟨jP,l8,hfr,qM,n9,aB,kI,oD,u5_0_133,u5_1_133,u5_2_133,lI,bE,yE,t5⟩:=hR
   refine Zf (Wg (x:=.tmp 50) (Ta.comp Tq Ts rfl).1 Try.isAgg22 Try.sizeOf22 bE fun rM kP bO=>?_)
   obtain ⟨dF,cO,h⟩:=Gc h
   refine Wg (x:=.tmp 55) (Ta.comp (Ta.comp part_BoxRun_1 part_BoxRace_1 rfl) Wa rfl).1 Try.isAgg3 Try.sizeOf3 t5 fun pR lP dO=>?_
   obtain rfl:=Zj.1 lP
   refine Wg (x:=.tmp 59) (Ta.comp (Ta.comp part_BoxRun_1 part_BoxRace_1 rfl) Wc rfl).1 Try.isAgg3 Try.sizeOf3 t5 fun qR mP eO=>?_
   obtain rfl:=Zj.1 mP
   refine Wg (x:=.tmp 63) (Ta.comp Tq Gx rfl).1 Try.isAgg23 Try.sizeOf23 bE fun sM nP gO=>?_
   obtain ⟨eF,jO,h⟩:=Gc h
   refine Tt (g:=jP) (n:=17) [(3,(fun v g w=>OWx (Ow.list 3 (Ow.sh Int)) 4052 g w dF v)),(12,(fun v g w=>OA 4061 g w 3 ([(((y5.2.1).last).at_).Left,(((y5.2.1).last).at_).Right]:List Int) v)),(16,(fun v g w=>OWx (Ow.list 87 (Ow.sh Zv)) 4065 g w eF v))] [0,1,2,3,4,5,6,7,8,9,10,11,12,13,14,15,16] rfl Qf (by kernel_rfl) (⟨fun _=>up_owx,fun _=>up_oa,fun _=>up_owx,trivial⟩) ?_
   refine Gb (Gj p6 0) rfl rfl (Zc Ka lI (OB.ptr bE)) ?_
   refine Gb (Gj p6 0) rfl rfl (Qz (o1:=0) rfl Wo rfl (OB.ptr bE)) ?_
   refine Gy (c:=rM) rfl rfl .plain (fun _ _ h=>⟨h.ch,fun b hb _=>h.below.block b hb⟩) bO rfl ?_
   refine Qa (φ:=fun v g w=>OWx (Ow.list 3 (Ow.sh Int)) 4052 g w dF v) rfl rfl .plain (fun g w hd=>D_callG (g:=g) (vs:=[rM]) en78 (.cons rfl .nil) (W78 (iO:=4052) (kP.ext hd.1) cO) fun g' w' v hs hr=>⟨g',hs,hr⟩) (fun jJ hv=>?_)
   clear hv
   refine Gb (Gj p7 1) rfl rfl (Zc at_129_1 yE (OB.ptr t5)) ?_
   refine Gb (Gj p7 9) rfl rfl (Qz (o1:=1) rfl at_108_1 rfl (OB.ptr t5)) ?_
   refine Gb (Gj p7 9) rfl rfl (Qz (o1:=9) rfl at_83_0 rfl (OB.ptr t5)) ?_
   refine Gy (c:=.int .i64 ((((y5.2.1).last).at_).Left)) rfl rfl .plain (fun _ _ h=>⟨h.ch,fun b hb _=>h.below.block b hb⟩) dO rfl ?_
   refine Gb (Gj p7 1) rfl rfl (Zc at_129_1 yE (OB.ptr t5)) ?_
   refine Gb (Gj p7 9) rfl rfl (Qz (o1:=1) rfl at_108_1 rfl (OB.ptr t5)) ?_
   refine Gb (Gj p7 10) rfl rfl (Qz (o1:=9) rfl at_83_1 rfl (OB.ptr t5)) ?_
   refine Gy (c:=.int .i64 ((((y5.2.1).last).at_).Right)) rfl rfl .plain (fun _ _ h=>⟨h.ch,fun b hb _=>h.below.block b hb⟩) eO rfl ?_
   refine Qa (φ:=fun v g w=>OA 4061 g w 3 ([(((y5.2.1).last).at_).Left,(((y5.2.1).last).at_).Right]:List Int) v) rfl rfl .plain (fun g w hd=>D_buildSliceA (g:=g) 4061 (xs:=([(((y5.2.1).last).at_).Left,(((y5.2.1).last).at_).Right]:List Int)) (vs:=[.int .i64 ((((y5.2.1).last).at_).Left),.int .i64 ((((y5.2.1).last).at_).Right)]) Try.underlying22 Try.sizeOf3 Try.zeroValue3 rfl rfl (.cons rfl (.cons rfl .nil)) (RVs.cons (Zj.2 rfl) (RVs.cons (Zj.2 rfl) RVs.nil)) rfl rfl fun g' w' v hs b hxt=>⟨g',hxt,b⟩) (fun kJ hv=>?_)
   clear hv
   refine Gb (Gj p6 0) rfl rfl (Zc Ka lI (OB.ptr bE)) ?_
   refine Gb (Gj p6 2) rfl rfl (Qz (o1:=0) rfl Qk rfl (OB.ptr bE)) ?_
   refine Gy (c:=sM) rfl rfl .plain (fun _ _ h=>⟨h.ch,fun b hb _=>h.below.block b hb⟩) gO rfl ?_
   refine Qa (φ:=fun v g w=>OWx (Ow.list 87 (Ow.sh Zv)) 4065 g w eF v) rfl rfl .plain (fun g w hd=>D_callG (g:=g) (vs:=[sM]) en79 (.cons rfl .nil) (W79 (iO:=4065) (nP.ext hd.1) jO) fun g' w' v hs hr=>⟨g',hs,hr⟩) (fun lJ hv=>?_)
   clear hv
   refine L_nil fun rR oP hall=>?_
   have hs:=hall.1
   have hfr:=hfr.ext hs
   have n9:=n9.ext hs
   have aB:=aB.ext hs
   have oD:=oD.ext hs
   have t5:=t5.ext hs
   obtain ⟨sk161,ow161,ok161⟩:=(Gl (A:=fun g w=>OWx (Ow.list 3 (Ow.sh Int)) 4052 g w dF jJ) 3 rfl hall)
   have b170:=(Gl (A:=fun g w=>OA 4061 g w 3 ([(((y5.2.1).last).at_).Left,(((y5.2.1).last).at_).Right]:List Int) kJ) 12 rfl hall)
   obtain ⟨sk174,ow174,ok174⟩:=(Gl (A:=fun g w=>OWx (Ow.list 87 (Ow.sh Zv)) 4065 g w eF lJ) 16 rfl hall)
   clear hs hall
   obtain ⟨sk176,ow176,ok176⟩:=OA.toW b170
   have wn177:=Wn.fl (OW.wn ow174)
   obtain ⟨gq178,hs,_,wn178⟩:=Wn.pair (OW.wn ow176) wn177 rfl
   have hfr:=hfr.stp hs
   have n9:=n9.stp hs
   have aB:=aB.stp hs rfl
   have oD:=oD.stp hs rfl
   have t5:=t5.stp hs rfl
   have ow161:=ow161.stp hs rfl
   obtain ⟨gq179,hs,_,wn179⟩:=Wn.pair (OW.wn ow161) wn178 rfl
   have hfr:=hfr.stp hs
   have n9:=n9.stp hs
   have aB:=aB.stp hs rfl
   have oD:=oD.stp hs rfl
   have t5:=t5.stp hs rfl
   obtain ⟨tM,qJ⟩:∃ v,v=(Value.agg (Wf [[.slice none 0 0],[.slice none 0 0],[.slice none 0 0]] [(0,jJ),(1,kJ),(2,lJ)]).flatten.toArray):=⟨_,rfl⟩
   have ow175:OW ow_BoxLoom 4065 gq179 oP (⟨dF,([(((y5.2.1).last).at_).Left,(((y5.2.1).last).at_).Right]:List Int),eF⟩:BoxLoom) (sk161,(sk176,sk174)) tM:=qJ ▸ Wn.mk_ (Wn.struct (x:=((⟨dF,([(((y5.2.1).last).at_).Left,(((y5.2.1).last).at_).Right]:List Int),eF⟩:BoxLoom))) wn179)
   refine Zy tM (qJ ▸ P_build (vs:=[(0,jJ),(1,kJ),(2,lJ)]) [[.slice none 0 0],[.slice none 0 0],[.slice none 0 0]] lay_25 rfl rfl (.cons rfl (.cons rfl (.cons rfl .nil))) ⟨⟨_,rfl,OW.csz ow161⟩,⟨⟨_,rfl,OW.csz ow176⟩,⟨⟨_,rfl,OW.csz ow174⟩,trivial⟩⟩⟩) rfl ?_
   refine Ze .plain rfl (D_storeOW (g:=gq179) Try.sizeOf25 kI oD rfl ow175 rfl fun gj180 uM tR bk180 hsa hsb hpp b180=>?_)
   have hfr:=hfr.stp hsa
   have n9:=n9.stp hsa
   have aB:=aB.stp hsa rfl
   have t5:=t5.stp hsa rfl
   have hfr:=hfr.stp hsb
   have n9:=n9.stp hsb
   have aB:=aB.stp hsb rfl
   have t5:=t5.stp hsb rfl
   clear hsa hsb
   subst hpp
   refine Zb (Zd ?_)
   obtain ⟨mG,hx,h⟩:=Gc h
   refine Th (fun e w=>∃ (g:Gh) ,Fr gI wI g w∧e 4=l8∧RV g.m w (v8:List Int) l8∧OS 1004 g w 3 (v8:List Int) l8∧e 5=(Value.pointer (some ⟨bk180,0,none⟩))∧OVb ow_BoxLoom 2005 g w 25 (mG:BoxLoom) bk180∧e 10=p7∧OB 2010 g w 129 (y5.2.1:Tz) p7) (fun Q' hQ=>?_) (fun qQ uR hR=>?_)
   ·replace h := hx
    clear hx
    refine Zf (Za (Zy (Gj p7 1) (Zc at_129_1 yE (OB.ptr t5)) rfl ?_))
    refine Zy (Gj p7 1) (Qz (o1:=1) rfl at_108_0 rfl (OB.ptr t5)) rfl ?_
    refine Ze .plain rfl (Kb (g:=uM) (Ta.comp part_BoxRun_1 Wu rfl).1 Try.isAgg76 Try.sizeOf76 rfl t5 fun uE pP=>?_)
    refine Zn (.int .i64 (0)) rfl rfl ?_
    refine Zb (Zd (Zr ?_))
    refine E_lp h (fun (s:BoxLoom × Int) e w=>∃ (g:Gh) ,Fr gI wI g w∧e 4=l8∧RV g.m w (v8:List Int) l8∧OS 1004 g w 3 (v8:List Int) l8∧e 5=(Value.pointer (some ⟨bk180,0,none⟩))∧OVb ow_BoxLoom 2005 g w 25 (s.1:BoxLoom) bk180∧e 10=p7∧OB 2010 g w 129 (y5.2.1:Tz) p7∧e 69=uE∧RV g.m w (((y5.2.1).last).boxes:Vector (Vector Int 4) 2) uE∧e 70=.int .i64 (s.2)) ⟨uM,hfr,qM,n9,aB,kI,⟨_,b180,(⟨ok161,⟨ok176,ok174⟩⟩:(ow_BoxLoom).ok (sk161,(sk176,sk174)))⟩,yE,t5,rfl,pP,rfl⟩ (fun X425 lL kO=>?_)
    rintro ⟨lG,u3⟩ rQ vR ⟨vM,hfr,mI,iE,lE,nI,⟨gQ,mE,mH⟩,nH,vC,oH,yB,zE⟩ h
    refine Zf (Za (Gu (.bool ((decide (u3 < (2:Int))))) zE rfl rfl rfl ?_))
    refine Zb (Zd (Zf ?_))
    rcases Zt h with ⟨uH,h⟩ | ⟨uH,h⟩
    ·refine Qq uH rfl ?_
     refine Zu (Zd ?_)
     obtain ⟨tF,hx,h⟩:=Gc h
     refine Th (fun e w=>∃ (g:Gh) ,Fr gI wI g w∧e 4=l8∧RV g.m w (v8:List Int) l8∧OS 1004 g w 3 (v8:List Int) l8∧e 5=(Value.pointer (some ⟨bk180,0,none⟩))∧OVb ow_BoxLoom 2005 g w 25 (tF:BoxLoom) bk180∧e 10=p7∧OB 2010 g w 129 (y5.2.1:Tz) p7∧e 69=uE∧RV g.m w (((y5.2.1).last).boxes:Vector (Vector Int 4) 2) uE∧e 70=.int .i64 (u3)) (fun Q' hQ=>?_) (fun sQ xR hR=>?_)
     ·replace h := hx
      clear hx
      refine Zr ?_
      refine Zf (Za (Zo zE rfl ?_))
      obtain ⟨qH,rJ,h⟩:=Gc h
      have xH:=RV_idxA yB rJ
      generalize lO:partV _ _ _ _=xM at xH
      refine Zy xM (lO ▸ P_indexA Try.underlying76 Try.isAgg75 Try.sizeOf75 oH yB zE rJ) rfl ?_
      refine Ze .plain rfl (Gs (g:=vM) 2014 ((⟨List.toArray [0,0,0,0],rfl⟩:Vector Int 4):Vector Int 4) Try.zeroValue75 (fun m w=>⟨_,(Gt (Zw Zx (Zw Zx (Zw Zx (Zw Zx Gm)))) rfl),rfl⟩) fun sP yR zR hs b547 cb=>?_)
      have hfr:=hfr.stp hs
      have iE:=iE.stp hs
      have lE:=lE.stp hs rfl
      have mE:=mE.stp hs rfl
      have vC:=vC.stp hs rfl
      have yB:=yB.stp hs
      have xH:=xH.stp hs
      clear cb
      refine Zg (.int .i64 (u3)) rfl rfl ?_
      refine Ze .plain rfl (Gk (g:=sP) (v:=xM) Try.sizeOf75 rfl b547 rfl xH fun bN aS hs b548 cb=>?_)
      clear cb
      have hfr:=hfr.stp hs
      have iE:=iE.stp hs
      have lE:=lE.stp hs rfl
      have mE:=mE.stp hs rfl
      have vC:=vC.stp hs rfl
      have yB:=yB.stp hs
      refine Zb (Zd (Zf (Za (Ze .plain rfl (Qj (g:=bN) Try.isAgg75 Try.sizeOf75 rfl b548 fun yH tP=>?_)))))
      refine Zn (.int .i64 (0)) rfl rfl ?_
      refine Zb (Zd (Zr ?_))
      refine E_lp h (fun (s:BoxLoom × Int) e w=>∃ (g:Gh) ,Fr gI wI g w∧e 4=l8∧RV g.m w (v8:List Int) l8∧OS 1004 g w 3 (v8:List Int) l8∧e 5=(Value.pointer (some ⟨bk180,0,none⟩))∧OVb ow_BoxLoom 2005 g w 25 (s.1:BoxLoom) bk180∧e 10=p7∧OB 2010 g w 129 (y5.2.1:Tz) p7∧e 13=.int .i64 (u3)∧e 69=uE∧RV g.m w (((y5.2.1).last).boxes:Vector (Vector Int 4) 2) uE∧e 70=.int .i64 (u3)∧e 74=yH∧RV g.m w (qH:Vector Int 4) yH∧e 75=.int .i64 (s.2)) ⟨bN,hfr,mI,iE,lE,nI,⟨_,mE,mH⟩,nH,vC,rfl,oH,yB,zE,rfl,tP,rfl⟩ (fun X550 mL mO=>?_)
      rintro ⟨o0,n8⟩ tQ uP ⟨mJ,hfr,cH,yD,zD,vE,⟨l5,xF,bD⟩,bG,zB,cG,eG,cC,gG,iG,nB,oE⟩ h
      refine Zf (Za (Gu (.bool ((decide (n8 < (4:Int))))) oE rfl rfl rfl ?_))
      refine Zb (Zd (Zf ?_))
      rcases Zt h with ⟨zH,h⟩ | ⟨zH,h⟩
      ·refine Qq zH rfl ?_
       refine Zu (Zd ?_)
       obtain ⟨sF,hx,h⟩:=Gc h
       refine Th (fun e w=>∃ (g:Gh) ,Fr gI wI g w∧e 4=l8∧RV g.m w (v8:List Int) l8∧OS 1004 g w 3 (v8:List Int) l8∧e 5=(Value.pointer (some ⟨bk180,0,none⟩))∧OVb ow_BoxLoom 2005 g w 25 (sF:BoxLoom) bk180∧e 10=p7∧OB 2010 g w 129 (y5.2.1:Tz) p7∧e 13=.int .i64 (u3)∧e 69=uE∧RV g.m w (((y5.2.1).last).boxes:Vector (Vector Int 4) 2) uE∧e 70=.int .i64 (u3)∧e 74=yH∧RV g.m w (qH:Vector Int 4) yH∧e 75=.int .i64 (n8)) (fun Q' hQ=>?_) (fun uQ bS hR=>?_)
       ·replace h := hx
        clear hx
        refine Zr ?_
        refine Zf (Za (Zo oE rfl ?_))
        obtain ⟨i6,sJ,h⟩:=Gc h
        have vP:=RV_idxA nB sJ
        refine Zy (.int .i64 (i6)) ((Zj.1 vP) ▸ P_indexA Try.underlying75 Try.isAgg3 Try.sizeOf3 iG nB oE sJ) rfl ?_
        refine Zg (.int .i64 (n8)) rfl rfl ?_
        refine Zg (.int .i64 (i6)) rfl rfl ?_
        refine Zb (Zd (Zf (Za (Zn (.int .i64 (i6)) rfl rfl ?_))))
        refine Gu (.bool ((decide (i6 > (0:Int))))) rfl rfl rfl rfl ?_
        refine Zb (Zd ?_)
        rcases Zt h with ⟨aI,h⟩ | ⟨aI,h⟩
        ·refine Qq aI rfl ?_
         obtain ⟨mB,jG,h⟩:=Gc h
         obtain ⟨bb623,cc623,ss623,hq623,vJ⟩:=(OV.slice xF (Cxt.fld (Cxt.root ow_BoxLoom bk180) Qe (o0) (l5)) rfl rfl ((bD.2).2)).2 jG
         obtain ⟨sH,bI,h⟩:=Gc h
         refine E_drawG (g:=mJ) (w:=uP) (i:=2005) (A0:=fun g w=>OV ow_BoxLoom 2005 g w 25 (o0:BoxLoom) bk180 l5) (A1:=fun g w=>OV ow_BoxLoom 2005 g w 25 (({ o0 with Shuttles:=(List.set ((o0).Shuttles) (Int.toNat ((w64 (i6 - (1:Int))))) ({ mB with Side:=u3 }:Zv)) }:BoxLoom):BoxLoom) bk180 l5) xF up_ov (n:=15) [(12,(fun _ g w=>OV ow_BoxLoom 2005 g w 25 (({ o0 with Shuttles:=(List.set ((o0).Shuttles) (Int.toNat ((w64 (i6 - (1:Int))))) ({ mB with Side:=u3 }:Zv)) }:BoxLoom):BoxLoom) bk180 l5))] [0,1,2,3,4,5,6,7,8,9,10,11,12,13,14] rfl Qf (by kernel_rfl) (⟨fun _=>up_box,trivial⟩) ?_
         refine Gb ((.pointer (some ⟨bk180,(0 + 2),none⟩))) rfl rfl (Wp Qk vE) ?_
         refine L_val (c:=(hdrV (Prod.snd (Prod.snd l5)) ((o0).Shuttles).length)) rfl rfl .plain (fun g w hd=>loadHAB (Cxt.fld (Cxt.root ow_BoxLoom bk180) Qe (o0) (l5)) rfl rfl (Cxt.fld (Cxt.root ow_BoxLoom bk180) Qe (({ o0 with Shuttles:=(List.set ((o0).Shuttles) (Int.toNat ((w64 (i6 - (1:Int))))) ({ mB with Side:=u3 }:Zv)) }:BoxLoom)) (l5)) rfl rfl (by simp) ((bD.2).2) Try.isAgg23 rfl hd.1.2) ?_
         refine Gb (.int .i64 (i6)) rfl rfl (Zk rfl) ?_
         refine Gb (.int .i64 ((w64 (i6 - (1:Int))))) rfl rfl (Td rfl rfl rfl) ?_
         refine Gb ((.pointer (some ⟨bk180,(0 + 2),none⟩))) rfl rfl (Wp Qk vE) ?_
         refine L_val (c:=(hdrV (Prod.snd (Prod.snd l5)) ((o0).Shuttles).length)) rfl rfl .plain (fun g w hd=>loadHAB (Cxt.fld (Cxt.root ow_BoxLoom bk180) Qe (o0) (l5)) rfl rfl (Cxt.fld (Cxt.root ow_BoxLoom bk180) Qe (({ o0 with Shuttles:=(List.set ((o0).Shuttles) (Int.toNat ((w64 (i6 - (1:Int))))) ({ mB with Side:=u3 }:Zv)) }:BoxLoom)) (l5)) rfl rfl (by simp) ((bD.2).2) Try.isAgg23 rfl hd.1.2) ?_
         refine Gb (.int .i64 (i6)) rfl rfl (Zk rfl) ?_
         refine Gb (.int .i64 ((w64 (i6 - (1:Int))))) rfl rfl (Td rfl rfl rfl) ?_
         refine Gb (.int .i64 (u3)) rfl rfl (Zk cG) ?_
         refine Gb (.int .i64 (n8)) rfl rfl (Zk rfl) ?_
         refine Gb ((.pointer (some ⟨bb623,((Int.toNat ((w64 (i6 - (1:Int))))) * 5),none⟩))) rfl rfl (P_indexH Try.underlying23 Try.sizeOf87 (rfl.trans (hdr_at hq623 _)) rfl (idx_nat jG)) ?_
         refine Gb ((.pointer (some ⟨bb623,(((Int.toNat ((w64 (i6 - (1:Int))))) * 5) + 1),none⟩))) rfl rfl (Wp Ww rfl) ?_
         refine Qa (φ:=fun _ g w=>OV ow_BoxLoom 2005 g w 25 (({ o0 with Shuttles:=(List.set ((o0).Shuttles) (Int.toNat ((w64 (i6 - (1:Int))))) ({ mB with Side:=u3 }:Zv)) }:BoxLoom):BoxLoom) bk180 l5) rfl rfl .plain (fun g w hd=>D_storeOVR (g:=g) (u':=(u3:Int)) (Cxt.fld (Cxt.idx (Cxt.fld (Cxt.root ow_BoxLoom bk180) Qe (o0) (l5)) ((o0).Shuttles) (Int.toNat ((w64 (i6 - (1:Int))))) bb623 cc623 ss623 (idx_nat jG).2 vJ) fl_BoxShuttle_1 (mB) (())) ((congrArg (fun q=>({ o0 with Shuttles:=q }:BoxLoom)) (set_idx jG)).trans rfl) rfl (((congrArg (fun q=>((Prod.fst l5),((Prod.fst (Prod.snd l5)),(Sl.at bb623 cc623 q)))) set_unit).trans (congrArg (fun q=>((Prod.fst l5),((Prod.fst (Prod.snd l5)),q))) (hq623).symm)).trans rfl) Try.sizeOf3 rfl hd.1.2 rfl (Zj.2 rfl)) (fun cS hv=>?_)
         clear hv
         refine Gb ((.pointer (some ⟨bb623,((Int.toNat ((w64 (i6 - (1:Int))))) * 5),none⟩))) rfl rfl (P_indexH Try.underlying23 Try.sizeOf87 (rfl.trans (hdr_at hq623 _)) rfl (by simpa using idx_nat bI)) ?_
         refine Gb ((.pointer (some ⟨bb623,(((Int.toNat ((w64 (i6 - (1:Int))))) * 5) + 2),none⟩))) rfl rfl (Wp at_87_2 rfl) ?_
         refine L_nil fun xP dS hall=>?_
         have hs:=hall.1.1
         have hfr:=hfr.stp hs
         have yD:=yD.stp hs
         have zD:=zD.stp hs rfl
         have zB:=zB.stp hs rfl
         have cC:=cC.stp hs
         have nB:=nB.stp hs
         have b631:=(Gl (A:=fun g w=>OV ow_BoxLoom 2005 g w 25 (({ o0 with Shuttles:=(List.set ((o0).Shuttles) (Int.toNat ((w64 (i6 - (1:Int))))) ({ mB with Side:=u3 }:Zv)) }:BoxLoom):BoxLoom) bk180 l5) 12 rfl hall)
         clear hs hall
         refine Ze .plain rfl (D_storeOV (g:=xP) (u':=(n8:Int)) (Cxt.fld (Cxt.idx (Cxt.fld (Cxt.root ow_BoxLoom bk180) Qe (({ o0 with Shuttles:=(List.set ((o0).Shuttles) (Int.toNat ((w64 (i6 - (1:Int))))) ({ mB with Side:=u3 }:Zv)) }:BoxLoom)) (l5)) ((({ o0 with Shuttles:=(List.set ((o0).Shuttles) (Int.toNat ((w64 (i6 - (1:Int))))) ({ mB with Side:=u3 }:Zv)) }:BoxLoom)).Shuttles) (Int.toNat ((w64 (i6 - (1:Int))))) bb623 cc623 ss623 (idx_nat bI).2 (by simpa using vJ)) fl_BoxShuttle_2 (sH) (())) ((congrArg (fun q=>({ (({ o0 with Shuttles:=(List.set ((o0).Shuttles) (Int.toNat ((w64 (i6 - (1:Int))))) ({ mB with Side:=u3 }:Zv)) }:BoxLoom)) with Shuttles:=q }:BoxLoom)) (set_idx bI)).trans rfl) (((congrArg (fun q=>((Prod.fst l5),((Prod.fst (Prod.snd l5)),(Sl.at bb623 cc623 q)))) set_unit).trans (congrArg (fun q=>((Prod.fst l5),((Prod.fst (Prod.snd l5)),q))) (hq623).symm)).trans rfl) Try.sizeOf3 rfl b631 rfl (Zj.2 rfl) fun cN yP hs b660=>?_)
         have hfr:=hfr.stp hs
         have yD:=yD.stp hs
         have zD:=zD.stp hs rfl
         have zB:=zB.stp hs rfl
         have cC:=cC.stp hs
         have nB:=nB.stp hs
         replace b660:OV ow_BoxLoom 2005 cN yP 25 (({ (({ o0 with Shuttles:=(List.set ((o0).Shuttles) (Int.toNat ((w64 (i6 - (1:Int))))) ({ mB with Side:=u3 }:Zv)) }:BoxLoom)) with Shuttles:=(List.set ((({ o0 with Shuttles:=(List.set ((o0).Shuttles) (Int.toNat ((w64 (i6 - (1:Int))))) ({ mB with Side:=u3 }:Zv)) }:BoxLoom)).Shuttles) (Int.toNat ((w64 (i6 - (1:Int))))) ({ sH with Box:=n8 }:Zv)) }:BoxLoom):BoxLoom) bk180 l5:=b660
         refine Zb (Qn ?_)
         obtain rfl:=sinj h
         exact hQ _ _ ⟨cN,hfr,cH,yD,zD,vE,⟨_,b660,bD⟩,bG,zB,cG,eG,cC,gG,iG,nB,oE⟩
        ·refine Qr aI rfl ?_
         refine Zu (Qn ?_)
         obtain rfl:=sinj h
         exact hQ _ _ ⟨mJ,hfr,cH,yD,zD,vE,⟨_,xF,bD⟩,bG,zB,cG,eG,cC,gG,iG,nB,oE⟩
       ·clear hx
        obtain ⟨zP,hfr,dN,eN,gN,iN,⟨iQ,jN,lK⟩,mK,nK,oK,pK,qK,sK,tK,uK,vK⟩:=hR
        refine Za (Gu (.int .i64 ((w64 (n8 + (1:Int))))) vK rfl rfl rfl ?_)
        refine Zn (.int .i64 ((w64 (n8 + (1:Int))))) rfl rfl ?_
        exact Zb (Zd (mO (sF,(w64 (n8 + (1:Int)))) _ _ ⟨zP,hfr,dN,eN,gN,iN,⟨_,jN,lK⟩,mK,nK,oK,pK,qK,sK,tK,uK,rfl⟩ h))
      ·refine Qr zH rfl ?_
       refine Qm ?_
       refine Tm ?_
       refine Tm ?_
       refine Tu ?_
       refine Qn ?_
       obtain rfl:=sinj h
       exact hQ _ _ ⟨mJ,hfr,cH,yD,zD,vE,⟨_,xF,bD⟩,bG,zB,eG,cC,gG⟩
     ·clear hx
      obtain ⟨bQ,hfr,kN,lN,mN,nN,⟨jQ,oN,xK⟩,yK,zK,aL,bL,dL⟩:=hR
      refine Za (Gu (.int .i64 ((w64 (u3 + (1:Int))))) dL rfl rfl rfl ?_)
      refine Zn (.int .i64 ((w64 (u3 + (1:Int))))) rfl rfl ?_
      exact Zb (Zd (kO (tF,(w64 (u3 + (1:Int)))) _ _ ⟨bQ,hfr,kN,lN,mN,nN,⟨_,oN,xK⟩,yK,zK,aL,bL,rfl⟩ h))
    ·refine Qr uH rfl ?_
     refine Qm ?_
     refine Tm ?_
     refine Tm ?_
     refine Tu ?_
     obtain rfl:=sinj h
     exact hQ _ _ ⟨vM,hfr,mI,iE,lE,nI,⟨_,mE,mH⟩,nH,vC⟩
   ·clear hx
    obtain ⟨cQ,hfr,pN,xE,mQ,gH,⟨kQ,yF,eL⟩,gL,pH⟩:=hR
    refine Zf (L_self Try.isAgg25 Try.sizeOf25 rfl yF fun dQ nO oO=>?_)
    refine Wg (x:=.tmp 99) part_BoxRun_2.1 Try.isAgg3 Try.sizeOf3 pH fun eS eQ pO=>?_
    obtain rfl:=Zj.1 eQ
    refine Tt (g:=cQ) (n:=9) [(5,(fun _ _ _=>True))] [0,1,2,3,4,5,6,7,8] rfl Qf (by kernel_rfl) (⟨fun _=>(fun _ _ _ _ _ _=>trivial),trivial⟩) ?_
    refine Gb l8 rfl rfl (Zk pN) ?_
    refine Gy (c:=dQ) rfl rfl .plain (fun _ _ h=>⟨h.ch,fun b hb _=>h.below.block b hb⟩) (nO _) gH ?_
    refine Gb (Gj p7 11) rfl rfl (Zc at_129_2 gL (OB.ptr pH)) ?_
    refine Gy (c:=.int .i64 ((y5.2.1).moves)) rfl rfl .plain (fun _ _ h=>⟨h.ch,fun b hb _=>h.below.block b hb⟩) pO rfl ?_
    refine Gb l8 rfl rfl (Tg rfl) ?_
    refine Qa (φ:=fun _ _ _=>True) rfl rfl .plain (fun g w hd=>oO _ _ _ g w ⟨hd.1.ch,fun b hb _=>hd.1.below.block b hb⟩ gH rfl) (fun gS hv=>?_)
    clear hv
    refine Gb (.int .i64 ((y5.2.1).moves)) rfl rfl (Tg rfl) ?_
    refine Gb (.int .i64 (0)) rfl rfl (Tg rfl) ?_
    refine Gb (.int .i64 (0)) rfl rfl (Tg rfl) ?_
    refine L_nl fun iS jS hs=>?_
    have hfr:=hfr.ext hs
    have xE:=xE.ext hs
    have yF:=yF.ext hs
    clear hs
    refine Zb (Zd (Gw ?_))
    obtain ⟨go680,hs,b680⟩:=OV.toOB yF eL
    have hfr:=hfr.stp hs
    have xE:=xE.stp hs
    obtain rfl:=sinj h
    obtain ⟨ad681,cv681,hp681,qO,cr681⟩:=Qv Try.isAgg25 Try.sizeOf25 b680
    exact endm_tcttt rfl rfl (show _=l8 from rfl) ((show _=(Value.pointer (some ⟨bk180,0,none⟩)) from gH).trans hp681) qO (show _=.int .i64 ((y5.2.1).moves) from rfl) (show _=.int .i64 (0) from rfl) (show _=.int .i64 (0) from rfl) ⟨_,hfr,_,_,_,_,_,rfl,xE,cr681,rfl,rfl,rfl⟩
noncomputable def f14 :Option (Bool):=
 (f48).bind fun y2=>
 (f49 ((0:Int)) ((0:Int))).bind fun y4=>
 (f49 ((0:Int)) ((1:Int))).bind fun y6=>
 (f40 y2 (([y4,y6]:List Ge))).bind fun y9=>
 (f48).bind fun lN=>
 (f43 lN).bind fun oD=>
 (f48).bind fun mN=>
 (f17 mN (([(3:Int),(7:Int),(5:Int)]:List Int))).bind fun n8=>
 (f48).bind fun nN=>
 (f17 nN (([(3:Int),(5:Int)]:List Int))).bind fun lB=>
 (f48).bind fun oN=>
 (f25 oN (([([(7:Int),(3:Int)]:List Int),([(5:Int)]:List Int)]:List (List Int)))).bind fun l9=>
 (f48).bind fun pN=>
 (f49 ((0:Int)) ((0:Int))).bind fun nK=>
 (f49 ((0:Int)) ((0:Int))).bind fun oK=>
 (f29 pN (([nK,oK]:List Ge))).bind fun mB=>
 (f48).bind fun y43=>
 (f49 ((0:Int)) ((0:Int))).bind fun pK=>
 (f49 ((0:Int)) ((0:Int))).bind fun qK=>
 (f49 ((0:Int)) ((0:Int))).bind fun sK=>
 (f49 ((0:Int)) ((0:Int))).bind fun tK=>
 (f30 y43 (([pK,qK,sK,tK]:List Ge))).bind fun l8=>
 (f48).bind fun y56=>
 (f49 ((0:Int)) ((0:Int))).bind fun uK=>
 (f36 y56 (([uK]:List Ge))).bind fun nB=>
 jn (σ:=Unit) (fun _=>
  jn (σ:=Unit) (fun _=>
   Option.bind (α:=Bool) (
    (f19 (l9.1) (([(3:Int),(7:Int),(5:Int)]:List Int))).bind fun eF=>
    bif eF then
     bif (l9.2.1 == (2 : Int)) then
      (idx (mB.1) (0:Int)).bind fun rF=>
      (f42 ((0:Int)) ((1:Int))).bind fun uC=>
      bif (decide (rF = uC)) then
       bif (l8.1 == (2 : Int)) then
        bif (l8.2.1 == (3 : Int)) then
         some ((nB.1 == (2:Int)))
        else
         none
       else
        none
      else
       none
     else
      none
    else
     none
    ) fun yE=>
   some (yE)
   ) fun vK=>
  Option.bind (α:=Bool) (
   (f19 (y9.1) (([(3:Int),(7:Int)]:List Int))).bind fun vE=>
   bif (!vE) then
    none
   else
    bif (y9.2.2.1 != (1 : Int)) then
     none
    else
     (idx ((y9.2.1).Shuttles) (2:Int)).bind fun xE=>
     bif ((xE).Side != (0 : Int)) then
      none
     else
      (f19 ((y9.2.1).At) (([(0:Int),(1:Int)]:List Int))).bind fun iE=>
      bif (!iE) then
       none
      else
       (f19 (oD.1) (([(3:Int),(5:Int)]:List Int))).bind fun lE=>
       bif (!lE) then
        none
       else
        (idx (n8.1) (2:Int)).bind fun sF=>
        (f49 ((1:Int)) ((1:Int))).bind fun vC=>
        bif (!(decide (sF = vC))) then
         none
        else
         bif (n8.2.1 != (2 : Int)) then
          none
         else
          some ((lB.2.2.1 != (1:Int)))
   ) fun yB=>
  bif yB then
   some (false)
  else
   vK ()
  ) fun qN=>
 Option.bind (α:=Bool) (
  bif (y9.2.2.2.2 != (0 : Int)) then
   none
  else
   bif (oD.2 != (0 : Int)) then
    none
   else
    bif (n8.2.2.2 != (0 : Int)) then
     none
    else
     bif (lB.2.2.2 != (9 : Int)) then
      none
     else
      bif (l9.2.2 != (0 : Int)) then
       none
      else
       bif (mB.2.2 != (0 : Int)) then
        none
       else
        bif (l8.2.2 != (0 : Int)) then
         none
        else
         bif (nB.2 != (0 : Int)) then
          none
         else
          bif ((((y9.2.1).Shuttles).length : Int) != (3 : Int)) then
           none
          else
           bif (((n8.1).length : Int) != (3 : Int)) then
            none
           else
            some ((((mB.1).length:Int) != (3:Int)))
  ) fun zB=>
 bif zB then
  some (false)
 else
  qN ()
theorem en14:Enters Try.prog 14:=enters_of Try.func14 (by kernel_rfl) rfl
theorem wk14 {gI:Gh} {wI:World}   {r:Bool} (h:f14 =some r):Fn Try.prog 14 #[] gI wI (fun _ _ v=>v=.bool (r)):=by
 unfold f14 at h
 refine Tf Try.func14 rfl (Nat.le_of_ble_eq_true rfl) fun g0 hm hfr=>?_
 show E _ 211 none _ _ _ _ _
 refine Zf (Za (Zg (.bool false) rfl rfl ?_))
 refine Zb (Zd (Zf (Za ?_)))
 obtain ⟨y2,hy2,h⟩:=Gc h
 refine Ze .plain rfl (Zp (g:=g0) (vs:=[]) en48 .nil (wk48  hy2) fun g1 w1_ v1 hs hr=>?_)
 have hfr:=hfr.ext hs
 have r1:=hr
 obtain ⟨y4,kP,h⟩:=Gc h
 refine Ze .plain rfl (Zp (g:=g1) (vs:=[.int .i64 (0),.int .i64 (0)]) en49 (.cons rfl (.cons rfl .nil)) (wk49  kP) fun g3 w3_ v3 hs hr=>?_)
 have hfr:=hfr.ext hs
 have r1:=r1.ext hs
 have r3:=hr
 obtain ⟨y6,lP,h⟩:=Gc h
 refine Ze .plain rfl (Zp (g:=g3) (vs:=[.int .i64 (0),.int .i64 (1)]) en49 (.cons rfl (.cons rfl .nil)) (wk49  lP) fun g5 w5_ v5 hs hr=>?_)
 have hfr:=hfr.ext hs
 have r1:=r1.ext hs
 have r3:=r3.ext hs
 have r5:=hr
 refine Ze .plain rfl (Gi (g:=g5) 3031 (xs:=([y4,y6]:List Ge)) (vs:=[v3,v5]) Try.underlying30 Try.sizeOf83 Try.zeroValue83 rfl rfl (.cons rfl (.cons rfl .nil)) (RVs.cons r3 (RVs.cons r5 RVs.nil)) rfl rfl fun g7 w7 v7 hs o7 r7 hxt hfl=>?_)
 have hfr:=hfr.stp hs
 have r1:=r1.stp hs
 obtain ⟨y9,mP,h⟩:=Gc h
 refine Ze .plain rfl (Zp (g:=g7) (vs:=[v1,v7]) en40 (.cons rfl (.cons rfl .nil)) (wk40 r1 r7 mP) fun g8 w8_ v8 hs hr=>?_)
 have hfr:=hfr.ext hs
 obtain ⟨yD,qH,bU,cU,dU,rfl,u3,sH,rfl,rfl,rfl⟩:=hr
 refine Zn (.tuple #[yD,qH,.int .i64 (y9.2.2.1),.int .i64 (y9.2.2.2.1),.int .i64 (y9.2.2.2.2)]) rfl rfl ?_
 refine Zy yD (Zi rfl rfl) rfl ?_
 refine Zy qH (Zi rfl rfl) rfl ?_
 refine Zy (.int .i64 (y9.2.2.1)) (Zi rfl rfl) rfl ?_
 refine Zy (.int .i64 (y9.2.2.2.1)) (Zi rfl rfl) rfl ?_
 refine Zy (.int .i64 (y9.2.2.2.2)) (Zi rfl rfl) rfl ?_
 refine Ze .plain rfl (Gs (g:=g8) 2002 (⟨[],[],[]⟩:BoxLoom) Try.zeroValue25 (fun m w=>⟨_,(Gg Gz (Gg Gz Gz)),rfl⟩) fun uH xK uE hs b10 cb=>?_)
 have hfr:=hfr.stp hs
 have u3:=u3.stp hs
 have sH:=sH.stp hs
 have nS:OSF 2002 60200 0 uH xK 3 25 ([]:List Int) uE:=cb.osf (by rfl)
 have oS:OSF 2002 60201 1 uH xK 3 25 ([]:List Int) uE:=cb.osf (by rfl)
 have pS:OSF 2002 60202 2 uH xK 87 25 ([]:List Zv) uE:=cb.osf (by rfl)
 clear cb
 refine Zg yD rfl rfl ?_
 refine Ze .plain rfl (Gk (g:=uH) (v:=qH) Try.sizeOf25 rfl b10 rfl sH fun nP zV hs b11 cb=>?_)
 clear cb
 have hfr:=hfr.stp hs
 have u3:=u3.stp hs
 refine Zg (.int .i64 (y9.2.2.1)) rfl rfl ?_
 refine Zg (.int .i64 (y9.2.2.2.1)) rfl rfl ?_
 refine Zg (.int .i64 (y9.2.2.2.2)) rfl rfl ?_
 refine Zb (Zd (Zf (Za ?_)))
 obtain ⟨lN,sN,h⟩:=Gc h
 refine Ze .plain rfl (Zp (g:=nP) (vs:=[]) en48 .nil (wk48  sN) fun oP eU pP hs hr=>?_)
 have hfr:=hfr.ext hs
 have u3:=u3.ext hs
 have b11:=b11.ext hs
 have sP:=hr
 obtain ⟨oD,tN,h⟩:=Gc h
 refine Ze .plain rfl (Zp (g:=oP) (vs:=[pP]) en43 (.cons rfl .nil) (wk43 sP tN) fun tP gU aW hs hr=>?_)
 have hfr:=hfr.ext hs
 have u3:=u3.ext hs
 have b11:=b11.ext hs
 obtain ⟨vB,qS,rfl,o0,rfl⟩:=hr
 refine Zn (.tuple #[vB,.int .i64 (oD.2)]) rfl rfl ?_
 refine Zy vB (Zi rfl rfl) rfl ?_
 refine Zy (.int .i64 (oD.2)) (Zi rfl rfl) rfl ?_
 refine Zg vB rfl rfl ?_
 refine Zg (.int .i64 (oD.2)) rfl rfl ?_
 refine Zb (Zd (Zf (Za ?_)))
 obtain ⟨mN,uN,h⟩:=Gc h
 refine Ze .plain rfl (Zp (g:=tP) (vs:=[]) en48 .nil (wk48  uN) fun uP iU vP hs hr=>?_)
 have hfr:=hfr.ext hs
 have u3:=u3.ext hs
 have b11:=b11.ext hs
 have o0:=o0.ext hs
 have yK:=hr
 refine Ze .plain rfl (Gi (g:=uP) 3045 (xs:=([(3:Int),(7:Int),(5:Int)]:List Int)) (vs:=[.int .i64 (3),.int .i64 (7),.int .i64 (5)]) Try.underlying22 Try.sizeOf3 Try.zeroValue3 rfl rfl (.cons rfl (.cons rfl (.cons rfl .nil))) (RVs.cons (Zj.2 rfl) (RVs.cons (Zj.2 rfl) (RVs.cons (Zj.2 rfl) RVs.nil))) rfl rfl fun xP bW yP hs o18 zP hxt hfl=>?_)
 have hfr:=hfr.stp hs
 have u3:=u3.stp hs
 have b11:=b11.stp hs rfl
 have o0:=o0.stp hs
 have yK:=yK.stp hs
 obtain ⟨n8,hy20,h⟩:=Gc h
 refine Ze .plain rfl (Zp (g:=xP) (vs:=[vP,yP]) en17 (.cons rfl (.cons rfl .nil)) (wk17 yK zP hy20) fun bQ jU cW hs hr=>?_)
 have hfr:=hfr.ext hs
 have u3:=u3.ext hs
 have b11:=b11.ext hs
 have o0:=o0.ext hs
 obtain ⟨oB,rS,sS,tS,rfl,l5,rfl,rfl,rfl⟩:=hr
 refine Zn (.tuple #[oB,.int .i64 (n8.2.1),.int .i64 (n8.2.2.1),.int .i64 (n8.2.2.2)]) rfl rfl ?_
 refine Zy oB (Zi rfl rfl) rfl ?_
 refine Zy (.int .i64 (n8.2.1)) (Zi rfl rfl) rfl ?_
 refine Zy (.int .i64 (n8.2.2.1)) (Zi rfl rfl) rfl ?_
 refine Zy (.int .i64 (n8.2.2.2)) (Zi rfl rfl) rfl ?_
 refine Zg oB rfl rfl ?_
 refine Zg (.int .i64 (n8.2.1)) rfl rfl ?_
 refine Zg (.int .i64 (n8.2.2.1)) rfl rfl ?_
 refine Zg (.int .i64 (n8.2.2.2)) rfl rfl ?_
 refine Zb (Zd (Zf (Za ?_)))
 obtain ⟨nN,vN,h⟩:=Gc h
 refine Ze .plain rfl (Zp (g:=bQ) (vs:=[]) en48 .nil (wk48  vN) fun cQ kU dQ hs hr=>?_)
 have hfr:=hfr.ext hs
 have u3:=u3.ext hs
 have b11:=b11.ext hs
 have o0:=o0.ext hs
 have l5:=l5.ext hs
 have zK:=hr
 refine Ze .plain rfl (Gi (g:=cQ) 3053 (xs:=([(3:Int),(5:Int)]:List Int)) (vs:=[.int .i64 (3),.int .i64 (5)]) Try.underlying22 Try.sizeOf3 Try.zeroValue3 rfl rfl (.cons rfl (.cons rfl .nil)) (RVs.cons (Zj.2 rfl) (RVs.cons (Zj.2 rfl) RVs.nil)) rfl rfl fun eQ dW gQ hs o23 iQ hxt hfl=>?_)
 have hfr:=hfr.stp hs
 have u3:=u3.stp hs
 have b11:=b11.stp hs rfl
 have o0:=o0.stp hs
 have l5:=l5.stp hs
 have zK:=zK.stp hs
 obtain ⟨lB,xN,h⟩:=Gc h
 refine Ze .plain rfl (Zp (g:=eQ) (vs:=[dQ,gQ]) en17 (.cons rfl (.cons rfl .nil)) (wk17 zK iQ xN) fun jQ lU eW hs hr=>?_)
 have hfr:=hfr.ext hs
 have u3:=u3.ext hs
 have b11:=b11.ext hs
 have o0:=o0.ext hs
 have l5:=l5.ext hs
 obtain ⟨jH,uS,vS,xS,rfl,yS,rfl,rfl,rfl⟩:=hr
 refine Zn (.tuple #[jH,.int .i64 (lB.2.1),.int .i64 (lB.2.2.1),.int .i64 (lB.2.2.2)]) rfl rfl ?_
 refine Zy jH (Zi rfl rfl) rfl ?_
 refine Zy (.int .i64 (lB.2.1)) (Zi rfl rfl) rfl ?_
 refine Zy (.int .i64 (lB.2.2.1)) (Zi rfl rfl) rfl ?_
 refine Zy (.int .i64 (lB.2.2.2)) (Zi rfl rfl) rfl ?_
 refine Zg jH rfl rfl ?_
 refine Zg (.int .i64 (lB.2.1)) rfl rfl ?_
 refine Zg (.int .i64 (lB.2.2.1)) rfl rfl ?_
 refine Zg (.int .i64 (lB.2.2.2)) rfl rfl ?_
 refine Zb (Zd (Zf (Za ?_)))
 obtain ⟨oN,yN,h⟩:=Gc h
 refine Ze .plain rfl (Zp (g:=jQ) (vs:=[]) en48 .nil (wk48  yN) fun kQ mU lQ hs hr=>?_)
 have hfr:=hfr.ext hs
 have u3:=u3.ext hs
 have b11:=b11.ext hs
 have o0:=o0.ext hs
 have l5:=l5.ext hs
 have xG:=hr
 refine Ze .plain rfl (Gi (g:=kQ) 3061 (xs:=([(7:Int),(3:Int)]:List Int)) (vs:=[.int .i64 (7),.int .i64 (3)]) Try.underlying22 Try.sizeOf3 Try.zeroValue3 rfl rfl (.cons rfl (.cons rfl .nil)) (RVs.cons (Zj.2 rfl) (RVs.cons (Zj.2 rfl) RVs.nil)) rfl rfl fun mQ gW nQ hs o28 aL hxt hfl=>?_)
 have hfr:=hfr.stp hs
 have u3:=u3.stp hs
 have b11:=b11.stp hs rfl
 have o0:=o0.stp hs
 have l5:=l5.stp hs
 have xG:=xG.stp hs
 refine Ze .plain rfl (Gi (g:=mQ) 3062 (xs:=([(5:Int)]:List Int)) (vs:=[.int .i64 (5)]) Try.underlying22 Try.sizeOf3 Try.zeroValue3 rfl rfl (.cons rfl .nil) (RVs.cons (Zj.2 rfl) RVs.nil) rfl rfl fun oQ w29 pQ hs o29 qQ hxt hfl=>?_)
 have hfr:=hfr.stp hs
 have u3:=u3.stp hs
 have b11:=b11.stp hs rfl
 have o0:=o0.stp hs
 have l5:=l5.stp hs
 have xG:=xG.stp hs
 have aL:=aL.stp hs
 refine Ze .plain rfl (Gi (g:=oQ) 3063 (xs:=([([(7:Int),(3:Int)]:List Int),([(5:Int)]:List Int)]:List (List Int))) (vs:=[nQ,pQ]) Try.underlying42 Try.sizeOf22 Try.zeroValue22 rfl rfl (.cons rfl (.cons rfl .nil)) (RVs.cons aL (RVs.cons qQ RVs.nil)) rfl rfl fun rQ iW sQ hs o30 tQ hxt hfl=>?_)
 have hfr:=hfr.stp hs
 have u3:=u3.stp hs
 have b11:=b11.stp hs rfl
 have o0:=o0.stp hs
 have l5:=l5.stp hs
 have xG:=xG.stp hs
 obtain ⟨l9,zN,h⟩:=Gc h
 refine Ze .plain rfl (Zp (g:=rQ) (vs:=[lQ,sQ]) en25 (.cons rfl (.cons rfl .nil)) (wk25 xG tQ zN) fun uQ nU jW hs hr=>?_)
 have hfr:=hfr.ext hs
 have u3:=u3.ext hs
 have b11:=b11.ext hs
 have o0:=o0.ext hs
 have l5:=l5.ext hs
 obtain ⟨aB,zS,eT,rfl,t5,rfl,rfl⟩:=hr
 refine Zn (.tuple #[aB,.int .i64 (l9.2.1),.int .i64 (l9.2.2)]) rfl rfl ?_
 refine Zy aB (Zi rfl rfl) rfl ?_
 refine Zy (.int .i64 (l9.2.1)) (Zi rfl rfl) rfl ?_
 refine Zy (.int .i64 (l9.2.2)) (Zi rfl rfl) rfl ?_
 refine Zg aB rfl rfl ?_
 refine Zg (.int .i64 (l9.2.1)) rfl rfl ?_
 refine Zg (.int .i64 (l9.2.2)) rfl rfl ?_
 refine Zb (Zd (Zf (Za ?_)))
 obtain ⟨pN,aO,h⟩:=Gc h
 refine Ze .plain rfl (Zp (g:=uQ) (vs:=[]) en48 .nil (wk48  aO) fun vQ oU xQ hs hr=>?_)
 have hfr:=hfr.ext hs
 have u3:=u3.ext hs
 have b11:=b11.ext hs
 have o0:=o0.ext hs
 have l5:=l5.ext hs
 have t5:=t5.ext hs
 have yG:=hr
 obtain ⟨nK,bO,h⟩:=Gc h
 refine Ze .plain rfl (Zp (g:=vQ) (vs:=[.int .i64 (0),.int .i64 (0)]) en49 (.cons rfl (.cons rfl .nil)) (wk49  bO) fun yQ pU zQ hs hr=>?_)
 have hfr:=hfr.ext hs
 have u3:=u3.ext hs
 have b11:=b11.ext hs
 have o0:=o0.ext hs
 have l5:=l5.ext hs
 have t5:=t5.ext hs
 have yG:=yG.ext hs
 have bL:=hr
 obtain ⟨oK,cO,h⟩:=Gc h
 refine Ze .plain rfl (Zp (g:=yQ) (vs:=[.int .i64 (0),.int .i64 (0)]) en49 (.cons rfl (.cons rfl .nil)) (wk49  cO) fun aR qU bR hs hr=>?_)
 have hfr:=hfr.ext hs
 have u3:=u3.ext hs
 have b11:=b11.ext hs
 have o0:=o0.ext hs
 have l5:=l5.ext hs
 have t5:=t5.ext hs
 have yG:=yG.ext hs
 have bL:=bL.ext hs
 have dR:=hr
 refine Ze .plain rfl (Gi (g:=aR) 3072 (xs:=([nK,oK]:List Ge)) (vs:=[zQ,bR]) Try.underlying30 Try.sizeOf83 Try.zeroValue83 rfl rfl (.cons rfl (.cons rfl .nil)) (RVs.cons bL (RVs.cons dR RVs.nil)) rfl rfl fun eR kW gR hs o39 iR hxt hfl=>?_)
 have hfr:=hfr.stp hs
 have u3:=u3.stp hs
 have b11:=b11.stp hs rfl
 have o0:=o0.stp hs
 have l5:=l5.stp hs
 have t5:=t5.stp hs
 have yG:=yG.stp hs
 obtain ⟨mB,dO,h⟩:=Gc h
 refine Ze .plain rfl (Zp (g:=eR) (vs:=[xQ,gR]) en29 (.cons rfl (.cons rfl .nil)) (wk29 yG iR dO) fun jR rU lW hs hr=>?_)
 have hfr:=hfr.ext hs
 have u3:=u3.ext hs
 have b11:=b11.ext hs
 have o0:=o0.ext hs
 have l5:=l5.ext hs
 have t5:=t5.ext hs
 obtain ⟨n9,lT,mT,rfl,i6,rfl,rfl⟩:=hr
 refine Zn (.tuple #[n9,.int .i64 (mB.2.1),.int .i64 (mB.2.2)]) rfl rfl ?_
 refine Zy n9 (Zi rfl rfl) rfl ?_
 refine Zy (.int .i64 (mB.2.1)) (Zi rfl rfl) rfl ?_
 refine Zy (.int .i64 (mB.2.2)) (Zi rfl rfl) rfl ?_
 refine Zg n9 rfl rfl ?_
 refine Zg (.int .i64 (mB.2.1)) rfl rfl ?_
 refine Zg (.int .i64 (mB.2.2)) rfl rfl ?_
 refine Zb (Zd (Zf (Za ?_)))
 obtain ⟨y43,eO,h⟩:=Gc h
 refine Ze .plain rfl (Zp (g:=jR) (vs:=[]) en48 .nil (wk48  eO) fun lR sU mR hs hr=>?_)
 have hfr:=hfr.ext hs
 have u3:=u3.ext hs
 have b11:=b11.ext hs
 have o0:=o0.ext hs
 have l5:=l5.ext hs
 have t5:=t5.ext hs
 have i6:=i6.ext hs
 have mE:=hr
 obtain ⟨pK,gO,h⟩:=Gc h
 refine Ze .plain rfl (Zp (g:=lR) (vs:=[.int .i64 (0),.int .i64 (0)]) en49 (.cons rfl (.cons rfl .nil)) (wk49  gO) fun nR tU oR hs hr=>?_)
 have hfr:=hfr.ext hs
 have u3:=u3.ext hs
 have b11:=b11.ext hs
 have o0:=o0.ext hs
 have l5:=l5.ext hs
 have t5:=t5.ext hs
 have i6:=i6.ext hs
 have mE:=mE.ext hs
 have zG:=hr
 obtain ⟨qK,jO,h⟩:=Gc h
 refine Ze .plain rfl (Zp (g:=nR) (vs:=[.int .i64 (0),.int .i64 (0)]) en49 (.cons rfl (.cons rfl .nil)) (wk49  jO) fun pR uU qR hs hr=>?_)
 have hfr:=hfr.ext hs
 have u3:=u3.ext hs
 have b11:=b11.ext hs
 have o0:=o0.ext hs
 have l5:=l5.ext hs
 have t5:=t5.ext hs
 have i6:=i6.ext hs
 have mE:=mE.ext hs
 have zG:=zG.ext hs
 have mH:=hr
 obtain ⟨sK,kO,h⟩:=Gc h
 refine Ze .plain rfl (Zp (g:=pR) (vs:=[.int .i64 (0),.int .i64 (0)]) en49 (.cons rfl (.cons rfl .nil)) (wk49  kO) fun rR vU tR hs hr=>?_)
 have hfr:=hfr.ext hs
 have u3:=u3.ext hs
 have b11:=b11.ext hs
 have o0:=o0.ext hs
 have l5:=l5.ext hs
 have t5:=t5.ext hs
 have i6:=i6.ext hs
 have mE:=mE.ext hs
 have zG:=zG.ext hs
 have mH:=mH.ext hs
 have dL:=hr
 obtain ⟨tK,lO,h⟩:=Gc h
 refine Ze .plain rfl (Zp (g:=rR) (vs:=[.int .i64 (0),.int .i64 (0)]) en49 (.cons rfl (.cons rfl .nil)) (wk49  lO) fun uR xU vR hs hr=>?_)
 have hfr:=hfr.ext hs
 have u3:=u3.ext hs
 have b11:=b11.ext hs
 have o0:=o0.ext hs
 have l5:=l5.ext hs
 have t5:=t5.ext hs
 have i6:=i6.ext hs
 have mE:=mE.ext hs
 have zG:=zG.ext hs
 have mH:=mH.ext hs
 have dL:=dL.ext hs
 have xR:=hr
 refine Ze .plain rfl (Gi (g:=uR) 3083 (xs:=([pK,qK,sK,tK]:List Ge)) (vs:=[oR,qR,tR,vR]) Try.underlying30 Try.sizeOf83 Try.zeroValue83 rfl rfl (.cons rfl (.cons rfl (.cons rfl (.cons rfl .nil)))) (RVs.cons zG (RVs.cons mH (RVs.cons dL (RVs.cons xR RVs.nil)))) rfl rfl fun yR mW zR hs o52 aS hxt hfl=>?_)
 have hfr:=hfr.stp hs
 have u3:=u3.stp hs
 have b11:=b11.stp hs rfl
 have o0:=o0.stp hs
 have l5:=l5.stp hs
 have t5:=t5.stp hs
 have i6:=i6.stp hs
 have mE:=mE.stp hs
 obtain ⟨l8,mO,h⟩:=Gc h
 refine Ze .plain rfl (Zp (g:=yR) (vs:=[mR,zR]) en30 (.cons rfl (.cons rfl .nil)) (wk30 mE aS mO) fun bS yU nW hs hr=>?_)
 have hfr:=hfr.ext hs
 have u3:=u3.ext hs
 have b11:=b11.ext hs
 have o0:=o0.ext hs
 have l5:=l5.ext hs
 have t5:=t5.ext hs
 have i6:=i6.ext hs
 obtain ⟨nT,oT,pT,rfl,rfl,rfl,rfl⟩:=hr
 refine Zn (.tuple #[.int .i64 (l8.1),.int .i64 (l8.2.1),.int .i64 (l8.2.2)]) rfl rfl ?_
 refine Zy (.int .i64 (l8.1)) (Zi rfl rfl) rfl ?_
 refine Zy (.int .i64 (l8.2.1)) (Zi rfl rfl) rfl ?_
 refine Zy (.int .i64 (l8.2.2)) (Zi rfl rfl) rfl ?_
 refine Zg (.int .i64 (l8.1)) rfl rfl ?_
 refine Zg (.int .i64 (l8.2.1)) rfl rfl ?_
 refine Zg (.int .i64 (l8.2.2)) rfl rfl ?_
 refine Zb (Zd (Zf (Za ?_)))
 obtain ⟨y56,nO,h⟩:=Gc h
 refine Ze .plain rfl (Zp (g:=bS) (vs:=[]) en48 .nil (wk48  nO) fun cS zU dS hs hr=>?_)
 have hfr:=hfr.ext hs
 have u3:=u3.ext hs
 have b11:=b11.ext hs
 have o0:=o0.ext hs
 have l5:=l5.ext hs
 have t5:=t5.ext hs
 have i6:=i6.ext hs
 have nH:=hr
 obtain ⟨uK,oO,h⟩:=Gc h
 refine Ze .plain rfl (Zp (g:=cS) (vs:=[.int .i64 (0),.int .i64 (0)]) en49 (.cons rfl (.cons rfl .nil)) (wk49  oO) fun eS aV gS hs hr=>?_)
 have hfr:=hfr.ext hs
 have u3:=u3.ext hs
 have b11:=b11.ext hs
 have o0:=o0.ext hs
 have l5:=l5.ext hs
 have t5:=t5.ext hs
 have i6:=i6.ext hs
 have nH:=nH.ext hs
 have iS:=hr
 refine Ze .plain rfl (Gi (g:=eS) 3091 (xs:=([uK]:List Ge)) (vs:=[gS]) Try.underlying30 Try.sizeOf83 Try.zeroValue83 rfl rfl (.cons rfl .nil) (RVs.cons iS RVs.nil) rfl rfl fun jS oW lS hs o59 mS hxt hfl=>?_)
 have hfr:=hfr.stp hs
 have u3:=u3.stp hs
 have b11:=b11.stp hs rfl
 have o0:=o0.stp hs
 have l5:=l5.stp hs
 have t5:=t5.stp hs
 have i6:=i6.stp hs
 have nH:=nH.stp hs
 obtain ⟨nB,pO,h⟩:=Gc h
 refine Ze .plain rfl (Zp (g:=jS) (vs:=[dS,lS]) en36 (.cons rfl (.cons rfl .nil)) (wk36 nH mS pO) fun rN bV pW hs hr=>?_)
 have hfr:=hfr.ext hs
 have u3:=u3.ext hs
 have b11:=b11.ext hs
 have o0:=o0.ext hs
 have l5:=l5.ext hs
 have t5:=t5.ext hs
 have i6:=i6.ext hs
 obtain ⟨sT,tT,rfl,rfl,rfl⟩:=hr
 refine Zn (.tuple #[.int .i64 (nB.1),.int .i64 (nB.2)]) rfl rfl ?_
 refine Zy (.int .i64 (nB.1)) (Zi rfl rfl) rfl ?_
 refine Zy (.int .i64 (nB.2)) (Zi rfl rfl) rfl ?_
 refine Zg (.int .i64 (nB.1)) rfl rfl ?_
 refine Zg (.int .i64 (nB.2)) rfl rfl ?_
 refine Zb (Zd (Zq h (fun (s:Unit) e w=>∃ (g:Gh) ,Fr gI wI g w∧e 1=yD∧RV g.m w (y9.1:List Int) yD∧e 2=uE∧OB 2002 g w 25 (y9.2.1:BoxLoom) uE∧e 3=.int .i64 (y9.2.2.1)∧e 6=vB∧RV g.m w (oD.1:List Int) vB∧e 8=oB∧RV g.m w (n8.1:List Ge) oB∧e 9=.int .i64 (n8.2.1)∧e 14=.int .i64 (lB.2.2.1)∧e 16=aB∧RV g.m w (l9.1:List Int) aB∧e 17=.int .i64 (l9.2.1)∧e 19=n9∧RV g.m w (mB.1:List Wt) n9∧e 22=.int .i64 (l8.1)∧e 23=.int .i64 (l8.2.1)∧e 25=.int .i64 (nB.1)) (fun X89 qN qO h=>?_) ?_))
 ·obtain ⟨zB, hx, h⟩ := Gc h
  refine Th (fun e w=>∃ (g:Gh) ,Fr gI wI g w∧e 1=yD∧RV g.m w (y9.1:List Int) yD∧e 2=uE∧OB 2002 g w 25 (y9.2.1:BoxLoom) uE∧e 3=.int .i64 (y9.2.2.1)∧e 6=vB∧RV g.m w (oD.1:List Int) vB∧e 8=oB∧RV g.m w (n8.1:List Ge) oB∧e 9=.int .i64 (n8.2.1)∧e 14=.int .i64 (lB.2.2.1)∧e 16=aB∧RV g.m w (l9.1:List Int) aB∧e 17=.int .i64 (l9.2.1)∧e 19=n9∧RV g.m w (mB.1:List Wt) n9∧e 22=.int .i64 (l8.1)∧e 23=.int .i64 (l8.2.1)∧e 25=.int .i64 (nB.1)∧e 140=.bool (zB)) (fun Q' hQ=>?_) (fun uT cV hR=>?_)
  ·replace h := hx
   clear hx
   refine Za (Zn (.int .i64 (y9.2.2.2.2)) rfl rfl ?_)
   refine Gu (.bool ((y9.2.2.2.2 != (0:Int)))) rfl rfl rfl rfl ?_
   refine Zn (.bool ((y9.2.2.2.2 != (0:Int)))) rfl rfl ?_
   rcases Zt h with ⟨vF,h⟩ | ⟨vF,h⟩
   ·cases h
   ·refine Zz (.int .i64 (oD.2)) (Zk rfl) rfl rfl vF rfl ?_
    refine Zz (.bool ((oD.2 != (0:Int)))) (Td rfl rfl rfl) rfl rfl vF rfl ?_
    refine Zy (.bool ((oD.2 != (0:Int)))) (Zl (b:=(y9.2.2.2.2 != (0:Int))) rfl (Tl vF rfl)) rfl ?_
    refine Zn (.bool ((oD.2 != (0:Int)))) rfl rfl ?_
    rcases Zt h with ⟨xF,h⟩ | ⟨xF,h⟩
    ·cases h
    ·refine Zz (.int .i64 (n8.2.2.2)) (Zk rfl) rfl rfl xF rfl ?_
     refine Zz (.bool ((n8.2.2.2 != (0:Int)))) (Td rfl rfl rfl) rfl rfl xF rfl ?_
     refine Zy (.bool ((n8.2.2.2 != (0:Int)))) (Zl (b:=(oD.2 != (0:Int))) rfl (Tl xF rfl)) rfl ?_
     refine Zn (.bool ((n8.2.2.2 != (0:Int)))) rfl rfl ?_
     rcases Zt h with ⟨yF,h⟩ | ⟨yF,h⟩
     ·cases h
     ·refine Zz (.int .i64 (lB.2.2.2)) (Zk rfl) rfl rfl yF rfl ?_
      refine Zz (.bool ((lB.2.2.2 != (9:Int)))) (Td rfl rfl rfl) rfl rfl yF rfl ?_
      refine Zy (.bool ((lB.2.2.2 != (9:Int)))) (Zl (b:=(n8.2.2.2 != (0:Int))) rfl (Tl yF rfl)) rfl ?_
      refine Zn (.bool ((lB.2.2.2 != (9:Int)))) rfl rfl ?_
      rcases Zt h with ⟨aG,h⟩ | ⟨aG,h⟩
      ·cases h
      ·refine Zz (.int .i64 (l9.2.2)) (Zk rfl) rfl rfl aG rfl ?_
       refine Zz (.bool ((l9.2.2 != (0:Int)))) (Td rfl rfl rfl) rfl rfl aG rfl ?_
       refine Zy (.bool ((l9.2.2 != (0:Int)))) (Zl (b:=(lB.2.2.2 != (9:Int))) rfl (Tl aG rfl)) rfl ?_
       refine Zn (.bool ((l9.2.2 != (0:Int)))) rfl rfl ?_
       rcases Zt h with ⟨bG,h⟩ | ⟨bG,h⟩
       ·cases h
       ·refine Zz (.int .i64 (mB.2.2)) (Zk rfl) rfl rfl bG rfl ?_
        refine Zz (.bool ((mB.2.2 != (0:Int)))) (Td rfl rfl rfl) rfl rfl bG rfl ?_
        refine Zy (.bool ((mB.2.2 != (0:Int)))) (Zl (b:=(l9.2.2 != (0:Int))) rfl (Tl bG rfl)) rfl ?_
        refine Zn (.bool ((mB.2.2 != (0:Int)))) rfl rfl ?_
        rcases Zt h with ⟨cG,h⟩ | ⟨cG,h⟩
        ·cases h
        ·refine Zz (.int .i64 (l8.2.2)) (Zk rfl) rfl rfl cG rfl ?_
         refine Zz (.bool ((l8.2.2 != (0:Int)))) (Td rfl rfl rfl) rfl rfl cG rfl ?_
         refine Zy (.bool ((l8.2.2 != (0:Int)))) (Zl (b:=(mB.2.2 != (0:Int))) rfl (Tl cG rfl)) rfl ?_
         refine Zn (.bool ((l8.2.2 != (0:Int)))) rfl rfl ?_
         rcases Zt h with ⟨eG,h⟩ | ⟨eG,h⟩
         ·cases h
         ·refine Zz (.int .i64 (nB.2)) (Zk rfl) rfl rfl eG rfl ?_
          refine Zz (.bool ((nB.2 != (0:Int)))) (Td rfl rfl rfl) rfl rfl eG rfl ?_
          refine Zy (.bool ((nB.2 != (0:Int)))) (Zl (b:=(l8.2.2 != (0:Int))) rfl (Tl eG rfl)) rfl ?_
          refine Zn (.bool ((nB.2 != (0:Int)))) rfl rfl ?_
          rcases Zt h with ⟨oE,h⟩ | ⟨oE,h⟩
          ·cases h
          ·refine Zz (Gj uE 2) (Zc Qk rfl (OB.ptr b11)) rfl rfl oE rfl ?_
           refine Ze (.yes2 rfl rfl oE) rfl (Kb (g:=rN) Gx.1 Try.isAgg23 Try.sizeOf23 rfl b11 fun dV rO=>?_)
           refine Zz (.int .i64 (((y9.2.1).Shuttles).length:Int)) (Tw Try.underlying23 rfl rO) rfl rfl oE rfl ?_
           refine Zz (.bool (((((y9.2.1).Shuttles).length:Int) != (3:Int)))) (Td rfl rfl rfl) rfl rfl oE rfl ?_
           refine Zy (.bool (((((y9.2.1).Shuttles).length:Int) != (3:Int)))) (Zl (b:=(nB.2 != (0:Int))) rfl (Tl oE rfl)) rfl ?_
           refine Zn (.bool (((((y9.2.1).Shuttles).length:Int) != (3:Int)))) rfl rfl ?_
           rcases Zt h with ⟨zE,h⟩ | ⟨zE,h⟩
           ·cases h
           ·refine Zz oB (Zk rfl) rfl rfl zE rfl ?_
            refine Zz (.int .i64 ((n8.1).length:Int)) (Tw Try.underlying30 rfl l5) rfl rfl zE rfl ?_
            refine Zz (.bool ((((n8.1).length:Int) != (3:Int)))) (Td rfl rfl rfl) rfl rfl zE rfl ?_
            refine Zy (.bool ((((n8.1).length:Int) != (3:Int)))) (Zl (b:=((((y9.2.1).Shuttles).length:Int) != (3:Int))) rfl (Tl zE rfl)) rfl ?_
            refine Zn (.bool ((((n8.1).length:Int) != (3:Int)))) rfl rfl ?_
            rcases Zt h with ⟨cF,h⟩ | ⟨cF,h⟩
            ·cases h
            ·refine Zz n9 (Zk rfl) rfl rfl cF rfl ?_
             refine Zz (.int .i64 ((mB.1).length:Int)) (Tw Try.underlying51 rfl i6) rfl rfl cF rfl ?_
             refine Zz (.bool ((((mB.1).length:Int) != (3:Int)))) (Td rfl rfl rfl) rfl rfl cF rfl ?_
             refine Zy (.bool ((((mB.1).length:Int) != (3:Int)))) (Zl (b:=(((n8.1).length:Int) != (3:Int))) rfl (Tl cF rfl)) rfl ?_
             refine Zb ?_
             obtain rfl:=sinj h
             exact hQ _ _ ⟨rN,hfr,rfl,u3,rfl,b11,rfl,rfl,o0,rfl,l5,rfl,rfl,rfl,t5,rfl,rfl,i6,rfl,rfl,rfl,rfl⟩
  ·clear hx
   obtain ⟨sO,hfr,eL,gL,iL,jL,lL,mL,nL,oL,xL,yL,aI,bI,dI,iI,jI,kI,lI,mI,nI,aH⟩:=hR
   rcases Zt h with ⟨kH,h⟩ | ⟨kH,h⟩
   ·refine To (Eq.trans (show ev _ _ = .bool (zB) from aH) (congrArg Value.bool kH)) ?_
    refine Zf (Za (Zg (.bool false) rfl rfl ?_))
    refine Zb (Zd (Gw (Tc ?_)))
    obtain rfl:=sinj h
    exact Wb rfl rfl (show _=.bool false from rfl) ⟨_,hfr,rfl⟩
   ·refine Tk (Eq.trans (show ev _ _ = .bool (zB) from aH) (congrArg Value.bool kH)) ?_
    exact Zu (Zd (qO () _ _ ⟨sO,hfr,eL,gL,iL,jL,lL,mL,nL,oL,xL,yL,aI,bI,dI,iI,jI,kI,lI,mI,nI⟩ h))
 ·rintro _ xT eV ⟨tO, hfr, zL, aM, oH, dF, bM, cM, dM, eM, pH, iM, pI, qI, tF, sI, jJ, uF, kJ, lJ, mJ⟩ h
  refine Zq h (fun (s:Unit) e w=>∃ (g:Gh) ,Fr gI wI g w∧e 16=aB∧RV g.m w (l9.1:List Int) aB∧e 17=.int .i64 (l9.2.1)∧e 19=n9∧RV g.m w (mB.1:List Wt) n9∧e 22=.int .i64 (l8.1)∧e 23=.int .i64 (l8.2.1)∧e 25=.int .i64 (nB.1)) (fun X293 vK tM h=>?_) ?_
  ·obtain ⟨yB, hx, h⟩ := Gc h
   refine Th (fun e w=>∃ (g:Gh) ,Fr gI wI g w∧e 16=aB∧RV g.m w (l9.1:List Int) aB∧e 17=.int .i64 (l9.2.1)∧e 19=n9∧RV g.m w (mB.1:List Wt) n9∧e 22=.int .i64 (l8.1)∧e 23=.int .i64 (l8.2.1)∧e 25=.int .i64 (nB.1)∧e 184=.bool (yB)) (fun Q' hQ=>?_) (fun yT gV hR=>?_)
   ·replace h := hx
    clear hx
    obtain ⟨vE,uM,h⟩:=Gc h
    rcases Zt h with ⟨gG,h⟩ | ⟨gG,h⟩
    ·cases h
    ·rcases Zt h with ⟨cC, h⟩ | ⟨cC, h⟩
     ·cases h
     ·refine Wg (x := .tmp 150) Gx.1 Try.isAgg23 Try.sizeOf23 dF fun tH jM vM => ?_
      obtain ⟨xE,xH,h⟩:=Gc h
      have kM:=Tj jM xH
      have uO:=Zm (Qt).1 kM
      refine Zs (x:=.tmp 153) Try.isAgg3 Try.sizeOf3 uO fun iV vO xM=>?_
      obtain rfl:=Zj.1 vO
      rcases Zt h with ⟨zD,h⟩ | ⟨zD,h⟩
      ·cases h
      ·refine Wg (x := .tmp 158) Qo.1 Try.isAgg22 Try.sizeOf22 dF fun pM xO bN => ?_
       obtain ⟨iE,cN,h⟩:=Gc h
       rcases Zt h with ⟨rE,h⟩ | ⟨rE,h⟩
       ·cases h
       ·obtain ⟨lE, dN, h⟩ := Gc h
        rcases Zt h with ⟨aE,h⟩ | ⟨aE,h⟩
        ·cases h
        ·obtain ⟨sF, yH, h⟩ := Gc h
         have yO:=Tj pH yH
         refine Zs (x:=.tmp 172) Try.isAgg83 Try.sizeOf83 yO fun zO aP eN=>?_
         obtain ⟨vC,gN,h⟩:=Gc h
         rcases Zt h with ⟨iG,h⟩ | ⟨iG,h⟩
         ·cases h
         ·rcases Zt h with ⟨jG, h⟩ | ⟨jG, h⟩
          ·cases h
          ·refine Tt (g := tO) (n := 44) [(1, (fun v g w => RV g.m w ([(3 : Int), (7 : Int)] : List Int) v ∧ OS 3142 g w 3 ([(3 : Int), (7 : Int)] : List Int) v ∧ Gn v)), (2, (fun v g w => v = .bool (vE))), (19, (fun v g w => RV g.m w ([(0 : Int), (1 : Int)] : List Int) v ∧ OS 3160 g w 3 ([(0 : Int), (1 : Int)] : List Int) v ∧ Gn v)), (20, (fun v g w => v = .bool (iE))), (25, (fun v g w => RV g.m w ([(3 : Int), (5 : Int)] : List Int) v ∧ OS 3166 g w 3 ([(3 : Int), (5 : Int)] : List Int) v ∧ Gn v)), (26, (fun v g w => v = .bool (lE))), (33, (fun v g w => RV g.m w vC v))] [0, 1, 2, 3, 4, 5, 6, 7, 8, 9, 10, 11, 12, 13, 14, 15, 16, 17, 18, 19, 20, 21, 22, 23, 24, 25, 26, 27, 28, 29, 30, 31, 32, 33, 34, 35, 36, 37, 38, 39, 40, 41, 42, 43] rfl Qf (by kernel_rfl) (⟨fun _ => Ti Wy (Ti up_os (Tr _)), fun _ => Tr _, fun _ => Ti Wy (Ti up_os (Tr _)), fun _ => Tr _, fun _ => Ti Wy (Ti up_os (Tr _)), fun _ => Tr _, fun _ => Wy, trivial⟩) ?_
           refine Gb yD rfl rfl (Zk zL) ?_
           refine Qa (φ:=fun v g w=>RV g.m w ([(3:Int),(7:Int)]:List Int) v∧OS 3142 g w 3 ([(3:Int),(7:Int)]:List Int) v∧Gn v) rfl rfl .plain (fun g w hd=>Gi (g:=g) 3142 (xs:=([(3:Int),(7:Int)]:List Int)) (vs:=[.int .i64 (3),.int .i64 (7)]) Try.underlying22 Try.sizeOf3 Try.zeroValue3 rfl rfl (.cons rfl (.cons rfl .nil)) (RVs.cons (Zj.2 rfl) (RVs.cons (Zj.2 rfl) RVs.nil)) rfl rfl fun g' w' v hs o r hxt hfl=>⟨g',hxt,r,o,hfl⟩) (fun bD hv=>?_)
           clear hv
           refine Qa (φ:=fun v g w=>v=.bool (vE)) rfl rfl .plain (fun g w hd=>Zp (g:=g) (vs:=[yD,bD]) en19 (.cons rfl (.cons rfl .nil)) (wk19 (aM.ext hd.1) (word (A:=fun g w=>RV g.m w ([(3:Int),(7:Int)]:List Int) bD∧OS 3142 g w 3 ([(3:Int),(7:Int)]:List Int) bD∧Gn bD) 1 rfl rfl (Tv hd)).1 uM) fun g' w' v hs hr=>⟨g',hs,hr⟩) (fun jV hv=>?_)
           obtain ⟨_,_,_,rfl⟩:=hv
           refine Gb (.bool (!vE)) rfl rfl (Wm rfl) ?_
           refine Gb (.bool (!vE)) rfl rfl (Zk rfl) ?_
           refine L_y (.int .i64 (y9.2.2.1)) rfl rfl rfl rfl gG (Zk bM) ?_
           refine L_y (.bool ((y9.2.2.1 != (1:Int)))) rfl rfl rfl rfl gG (Td rfl rfl rfl) ?_
           refine Gb (.bool ((y9.2.2.1 != (1:Int)))) rfl rfl (Zl (b:=(!vE)) rfl (Tl gG rfl)) ?_
           refine Gb (.bool ((y9.2.2.1 != (1:Int)))) rfl rfl (Zk rfl) ?_
           refine L_y (Gj uE 2) rfl rfl rfl rfl cC (Zc Qk oH (OB.ptr dF)) ?_
           refine Gy (c:=tH) rfl rfl (.yes2 rfl rfl cC) (fun _ _ h=>⟨h.ch,fun b hb _=>h.below.block b hb⟩) vM rfl ?_
           refine L_y (Qc tH (2:Int) 5) rfl rfl rfl rfl cC (Zh (α:=Zv) Try.underlying23 Try.sizeOf87 rfl jM rfl xH) ?_
           refine L_y (Gj (Qc tH (2:Int) 5) 1) rfl rfl rfl rfl cC (Zc Ww rfl (PT.ptr kM)) ?_
           refine Gy (c:=.int .i64 ((xE).Side)) rfl rfl (.yes2 rfl rfl cC) (fun _ _ h=>h.ch) xM rfl ?_
           refine L_y (.bool (((xE).Side != (0:Int)))) rfl rfl rfl rfl cC (Td rfl rfl rfl) ?_
           refine Gb (.bool (((xE).Side != (0:Int)))) rfl rfl (Zl (b:=(y9.2.2.1 != (1:Int))) rfl (Tl cC rfl)) ?_
           refine Gb (.bool (((xE).Side != (0:Int)))) rfl rfl (Zk rfl) ?_
           refine L_y (Gj uE 1) rfl rfl rfl rfl zD (Zc at_25_1 oH (OB.ptr dF)) ?_
           refine Gy (c:=pM) rfl rfl (.yes2 rfl rfl zD) (fun _ _ h=>⟨h.ch,fun b hb _=>h.below.block b hb⟩) bN rfl ?_
           refine Qa (φ:=fun v g w=>RV g.m w ([(0:Int),(1:Int)]:List Int) v∧OS 3160 g w 3 ([(0:Int),(1:Int)]:List Int) v∧Gn v) rfl rfl (.yes2 rfl rfl zD) (fun g w hd=>Gi (g:=g) 3160 (xs:=([(0:Int),(1:Int)]:List Int)) (vs:=[.int .i64 (0),.int .i64 (1)]) Try.underlying22 Try.sizeOf3 Try.zeroValue3 rfl rfl (.cons rfl (.cons rfl .nil)) (RVs.cons (Zj.2 rfl) (RVs.cons (Zj.2 rfl) RVs.nil)) rfl rfl fun g' w' v hs o r hxt hfl=>⟨g',hxt,r,o,hfl⟩) (fun cD hv=>?_)
           clear hv
           refine Qa (φ:=fun v g w=>v=.bool (iE)) rfl rfl (.yes2 rfl rfl zD) (fun g w hd=>Zp (g:=g) (vs:=[pM,cD]) en19 (.cons rfl (.cons rfl .nil)) (wk19 (xO.ext hd.1) (word (A:=fun g w=>RV g.m w ([(0:Int),(1:Int)]:List Int) cD∧OS 3160 g w 3 ([(0:Int),(1:Int)]:List Int) cD∧Gn cD) 19 rfl rfl (Tv hd)).1 cN) fun g' w' v hs hr=>⟨g',hs,hr⟩) (fun kV hv=>?_)
           obtain ⟨_,_,_,rfl⟩:=hv
           refine L_y (.bool (!iE)) rfl rfl rfl rfl zD (Wm rfl) ?_
           refine Gb (.bool (!iE)) rfl rfl (Zl (b:=((xE).Side != (0:Int))) rfl (Tl zD rfl)) ?_
           refine Gb (.bool (!iE)) rfl rfl (Zk rfl) ?_
           refine L_y vB rfl rfl rfl rfl rE (Zk cM) ?_
           refine Qa (φ:=fun v g w=>RV g.m w ([(3:Int),(5:Int)]:List Int) v∧OS 3166 g w 3 ([(3:Int),(5:Int)]:List Int) v∧Gn v) rfl rfl (.yes2 rfl rfl rE) (fun g w hd=>Gi (g:=g) 3166 (xs:=([(3:Int),(5:Int)]:List Int)) (vs:=[.int .i64 (3),.int .i64 (5)]) Try.underlying22 Try.sizeOf3 Try.zeroValue3 rfl rfl (.cons rfl (.cons rfl .nil)) (RVs.cons (Zj.2 rfl) (RVs.cons (Zj.2 rfl) RVs.nil)) rfl rfl fun g' w' v hs o r hxt hfl=>⟨g',hxt,r,o,hfl⟩) (fun lD hv=>?_)
           clear hv
           refine Qa (φ:=fun v g w=>v=.bool (lE)) rfl rfl (.yes2 rfl rfl rE) (fun g w hd=>Zp (g:=g) (vs:=[vB,lD]) en19 (.cons rfl (.cons rfl .nil)) (wk19 (dM.ext hd.1) (word (A:=fun g w=>RV g.m w ([(3:Int),(5:Int)]:List Int) lD∧OS 3166 g w 3 ([(3:Int),(5:Int)]:List Int) lD∧Gn lD) 25 rfl rfl (Tv hd)).1 dN) fun g' w' v hs hr=>⟨g',hs,hr⟩) (fun lV hv=>?_)
           obtain ⟨_,_,_,rfl⟩:=hv
           refine L_y (.bool (!lE)) rfl rfl rfl rfl rE (Wm rfl) ?_
           refine Gb (.bool (!lE)) rfl rfl (Zl (b:=(!iE)) rfl (Tl rE rfl)) ?_
           refine Gb (.bool (!lE)) rfl rfl (Zk rfl) ?_
           refine L_y oB rfl rfl rfl rfl aE (Zk eM) ?_
           refine L_y (Qc oB (2:Int) 2) rfl rfl rfl rfl aE (Zh (α:=Ge) Try.underlying30 Try.sizeOf83 rfl pH rfl yH) ?_
           refine Gy (c:=zO) rfl rfl (.yes2 rfl rfl aE) (fun _ _ h=>h.ch) eN rfl ?_
           refine Qa (φ:=fun v g w=>RV g.m w vC v) rfl rfl (.yes2 rfl rfl aE) (fun g w hd=>Zp (g:=g) (vs:=[.int .i64 (1),.int .i64 (1)]) en49 (.cons rfl (.cons rfl .nil)) (wk49  gN) fun g' w' v hs hr=>⟨g',hs,hr⟩) (fun qM hv=>?_)
           obtain ⟨_,_,_,rq406⟩:=hv
           refine L_pur (c:=.bool ((!(decide (sF=vC))))) rfl rfl (.yes2 rfl rfl aE) (fun _ _ hd=>P_sne seq_83 rfl eg_83 rfl rfl aP (word (A:=fun g w=>RV g.m w vC qM) 33 rfl rfl (Tv hd))) ?_
           refine Gb (.bool ((!(decide (sF=vC))))) rfl rfl (Zl (b:=(!lE)) rfl (Tl aE rfl)) ?_
           refine Gb (.bool ((!(decide (sF=vC))))) rfl rfl (Zk rfl) ?_
           refine L_y (.int .i64 (n8.2.1)) rfl rfl rfl rfl iG (Zk iM) ?_
           refine L_y (.bool ((n8.2.1 != (2:Int)))) rfl rfl rfl rfl iG (Td rfl rfl rfl) ?_
           refine Gb (.bool ((n8.2.1 != (2:Int)))) rfl rfl (Zl (b:=(!(decide (sF=vC)))) rfl (Tl iG rfl)) ?_
           refine Gb (.bool ((n8.2.1 != (2:Int)))) rfl rfl (Zk rfl) ?_
           refine L_y (.int .i64 (lB.2.2.1)) rfl rfl rfl rfl jG (Zk pI) ?_
           refine L_y (.bool ((lB.2.2.1 != (1:Int)))) rfl rfl rfl rfl jG (Td rfl rfl rfl) ?_
           refine Gb (.bool ((lB.2.2.1 != (1:Int)))) rfl rfl (Zl (b:=(n8.2.1 != (2:Int))) rfl (Tl jG rfl)) ?_
           refine L_nil fun bP mV hall=>?_
           have hs:=hall.1
           have hfr:=hfr.ext hs
           have tF:=tF.ext hs
           have uF:=uF.ext hs
           have nV:=(Gl (A:=fun g w=>RV g.m w ([(3:Int),(7:Int)]:List Int) bD∧OS 3142 g w 3 ([(3:Int),(7:Int)]:List Int) bD∧Gn bD) 1 rfl hall).1
           have o425:=(Gl (A:=fun g w=>RV g.m w ([(3:Int),(7:Int)]:List Int) bD∧OS 3142 g w 3 ([(3:Int),(7:Int)]:List Int) bD∧Gn bD) 1 rfl hall).2.1
           have oV:=(Gl (A:=fun g w=>RV g.m w ([(0:Int),(1:Int)]:List Int) cD∧OS 3160 g w 3 ([(0:Int),(1:Int)]:List Int) cD∧Gn cD) 19 rfl hall).1
           have o443:=(Gl (A:=fun g w=>RV g.m w ([(0:Int),(1:Int)]:List Int) cD∧OS 3160 g w 3 ([(0:Int),(1:Int)]:List Int) cD∧Gn cD) 19 rfl hall).2.1
           have pV:=(Gl (A:=fun g w=>RV g.m w ([(3:Int),(5:Int)]:List Int) lD∧OS 3166 g w 3 ([(3:Int),(5:Int)]:List Int) lD∧Gn lD) 25 rfl hall).1
           have o449:=(Gl (A:=fun g w=>RV g.m w ([(3:Int),(5:Int)]:List Int) lD∧OS 3166 g w 3 ([(3:Int),(5:Int)]:List Int) lD∧Gn lD) 25 rfl hall).2.1
           have qV:=(Gl (A:=fun g w=>RV g.m w vC qM) 33 rfl hall)
           clear hs hall
           refine Zb ?_
           obtain rfl:=sinj h
           exact hQ _ _ ⟨bP,hfr,qI,tF,sI,jJ,uF,kJ,lJ,mJ,rfl⟩
   ·clear hx
    obtain ⟨cP,hfr,nJ,oJ,pJ,qJ,rJ,sJ,vJ,xJ,cH⟩:=hR
    rcases Zt h with ⟨lH,h⟩ | ⟨lH,h⟩
    ·refine To (Eq.trans (show ev _ _ = .bool (yB) from cH) (congrArg Value.bool lH)) ?_
     refine Zf (Za (Zg (.bool false) rfl rfl ?_))
     refine Zb (Zd (Gw (Tc ?_)))
     obtain rfl:=sinj h
     exact Wb rfl rfl (show _=.bool false from rfl) ⟨_,hfr,rfl⟩
    ·refine Tk (Eq.trans (show ev _ _ = .bool (yB) from cH) (congrArg Value.bool lH)) ?_
     exact Zu (Zd (tM () _ _ ⟨cP,hfr,nJ,oJ,pJ,qJ,rJ,sJ,vJ,xJ⟩ h))
  ·rintro _ zT rV ⟨dP, hfr, zJ, aK, bK, cK, gH, dK, lK, mK⟩ h
   obtain ⟨yE,hx,h⟩:=Gc h
   refine Th (fun e w=>∃ (g:Gh) ,Fr gI wI g w∧e 0=.bool (yE)) (fun Q' hQ=>?_) (fun aU sV hR=>?_)
   ·replace h := hx
    clear hx
    obtain ⟨eF,iN,h⟩:=Gc h
    rcases Zt h with ⟨kG,h⟩ | ⟨kG,h⟩
    ·rcases Zt h with ⟨bE, h⟩ | ⟨bE, h⟩
     ·obtain ⟨rF, zH, h⟩ := Gc h
      have eP:=Tj gH zH
      refine Zs (x:=.tmp 194) Try.isAgg85 Try.sizeOf85 eP fun gP iP jN=>?_
      obtain ⟨uC,kN,h⟩:=Gc h
      rcases Zt h with ⟨lG,h⟩ | ⟨lG,h⟩
      ·rcases Zt h with ⟨mG, h⟩ | ⟨mG, h⟩
       ·rcases Zt h with ⟨sG, h⟩ | ⟨sG, h⟩
        ·refine Tt (g := dP) (n := 27) [(1, (fun v g w => RV g.m w ([(3 : Int), (7 : Int), (5 : Int)] : List Int) v ∧ OS 3186 g w 3 ([(3 : Int), (7 : Int), (5 : Int)] : List Int) v ∧ Gn v)), (2, (fun v g w => v = .bool (eF))), (11, (fun v g w => RV g.m w uC v))] [0, 1, 2, 3, 4, 5, 6, 7, 8, 9, 10, 11, 12, 13, 14, 15, 16, 17, 18, 19, 20, 21, 22, 23, 24, 25, 26] rfl Qf (by kernel_rfl) (⟨fun _ => Ti Wy (Ti up_os (Tr _)), fun _ => Tr _, fun _ => Wy, trivial⟩) ?_
         refine Gb aB rfl rfl (Zk zJ) ?_
         refine Qa (φ:=fun v g w=>RV g.m w ([(3:Int),(7:Int),(5:Int)]:List Int) v∧OS 3186 g w 3 ([(3:Int),(7:Int),(5:Int)]:List Int) v∧Gn v) rfl rfl .plain (fun g w hd=>Gi (g:=g) 3186 (xs:=([(3:Int),(7:Int),(5:Int)]:List Int)) (vs:=[.int .i64 (3),.int .i64 (7),.int .i64 (5)]) Try.underlying22 Try.sizeOf3 Try.zeroValue3 rfl rfl (.cons rfl (.cons rfl (.cons rfl .nil))) (RVs.cons (Zj.2 rfl) (RVs.cons (Zj.2 rfl) (RVs.cons (Zj.2 rfl) RVs.nil))) rfl rfl fun g' w' v hs o r hxt hfl=>⟨g',hxt,r,o,hfl⟩) (fun nD hv=>?_)
         clear hv
         refine Qa (φ:=fun v g w=>v=.bool (eF)) rfl rfl .plain (fun g w hd=>Zp (g:=g) (vs:=[aB,nD]) en19 (.cons rfl (.cons rfl .nil)) (wk19 (aK.ext hd.1) (word (A:=fun g w=>RV g.m w ([(3:Int),(7:Int),(5:Int)]:List Int) nD∧OS 3186 g w 3 ([(3:Int),(7:Int),(5:Int)]:List Int) nD∧Gn nD) 1 rfl rfl (Tv hd)).1 iN) fun g' w' v hs hr=>⟨g',hs,hr⟩) (fun tV hv=>?_)
         obtain ⟨_,_,_,rfl⟩:=hv
         refine Gb (.bool (eF)) rfl rfl (Zk rfl) ?_
         refine L_y (.int .i64 (l9.2.1)) rfl rfl rfl rfl kG (Zk bK) ?_
         refine L_y (.bool ((l9.2.1 == (2:Int)))) rfl rfl rfl rfl kG (Td rfl rfl rfl) ?_
         refine Gb (.bool ((l9.2.1 == (2:Int)))) rfl rfl (Zl (b:=eF) rfl (Tp kG rfl)) ?_
         refine Gb (.bool ((l9.2.1 == (2:Int)))) rfl rfl (Zk rfl) ?_
         refine L_y n9 rfl rfl rfl rfl bE (Zk cK) ?_
         refine L_y (Qc n9 (0:Int) 2) rfl rfl rfl rfl bE (Zh (α:=Wt) Try.underlying51 Try.sizeOf85 rfl gH rfl zH) ?_
         refine Gy (c:=gP) rfl rfl (.yes2 rfl rfl bE) (fun _ _ h=>h.ch) jN rfl ?_
         refine Qa (φ:=fun v g w=>RV g.m w uC v) rfl rfl (.yes2 rfl rfl bE) (fun g w hd=>Zp (g:=g) (vs:=[.int .i64 (0),.int .i64 (1)]) en42 (.cons rfl (.cons rfl .nil)) (wk42  kN) fun g' w' v hs hr=>⟨g',hs,hr⟩) (fun rM hv=>?_)
         obtain ⟨_,_,_,rq526⟩:=hv
         refine L_pur (c:=.bool ((decide (rF=uC)))) rfl rfl (.yes2 rfl rfl bE) (fun _ _ hd=>P_seq seq_85 rfl eg_85 rfl rfl iP (word (A:=fun g w=>RV g.m w uC rM) 11 rfl rfl (Tv hd))) ?_
         refine Gb (.bool ((decide (rF=uC)))) rfl rfl (Zl (b:=(l9.2.1 == (2:Int))) rfl (Tp bE rfl)) ?_
         refine Gb (.bool ((decide (rF=uC)))) rfl rfl (Zk rfl) ?_
         refine L_y (.int .i64 (l8.1)) rfl rfl rfl rfl lG (Zk dK) ?_
         refine L_y (.bool ((l8.1 == (2:Int)))) rfl rfl rfl rfl lG (Td rfl rfl rfl) ?_
         refine Gb (.bool ((l8.1 == (2:Int)))) rfl rfl (Zl (b:=(decide (rF=uC))) rfl (Tp lG rfl)) ?_
         refine Gb (.bool ((l8.1 == (2:Int)))) rfl rfl (Zk rfl) ?_
         refine L_y (.int .i64 (l8.2.1)) rfl rfl rfl rfl mG (Zk lK) ?_
         refine L_y (.bool ((l8.2.1 == (3:Int)))) rfl rfl rfl rfl mG (Td rfl rfl rfl) ?_
         refine Gb (.bool ((l8.2.1 == (3:Int)))) rfl rfl (Zl (b:=(l8.1 == (2:Int))) rfl (Tp mG rfl)) ?_
         refine Gb (.bool ((l8.2.1 == (3:Int)))) rfl rfl (Zk rfl) ?_
         refine L_y (.int .i64 (nB.1)) rfl rfl rfl rfl sG (Zk mK) ?_
         refine L_y (.bool ((nB.1 == (2:Int)))) rfl rfl rfl rfl sG (Td rfl rfl rfl) ?_
         refine Gb (.bool ((nB.1 == (2:Int)))) rfl rfl (Zl (b:=(l8.2.1 == (3:Int))) rfl (Tp sG rfl)) ?_
         refine Gb (.bool ((nB.1 == (2:Int)))) rfl rfl (Tg rfl) ?_
         refine L_nil fun jP uV hall=>?_
         have hs:=hall.1
         have hfr:=hfr.ext hs
         have vV:=(Gl (A:=fun g w=>RV g.m w ([(3:Int),(7:Int),(5:Int)]:List Int) nD∧OS 3186 g w 3 ([(3:Int),(7:Int),(5:Int)]:List Int) nD∧Gn nD) 1 rfl hall).1
         have o539:=(Gl (A:=fun g w=>RV g.m w ([(3:Int),(7:Int),(5:Int)]:List Int) nD∧OS 3186 g w 3 ([(3:Int),(7:Int),(5:Int)]:List Int) nD∧Gn nD) 1 rfl hall).2.1
         have xV:=(Gl (A:=fun g w=>RV g.m w uC rM) 11 rfl hall)
         clear hs hall
         refine Zb ?_
         obtain rfl:=sinj h
         exact hQ _ _ ⟨jP,hfr,rfl⟩
        ·cases h
       ·cases h
      ·cases h
     ·cases h
    ·cases h
   ·clear hx
    obtain ⟨yV,hfr,sM⟩:=hR
    refine Gw ?_
    obtain rfl:=sinj h
    exact Wb rfl rfl (show _=.bool (yE) from sM) ⟨_,hfr,rfl⟩
end Go.Proofs.Ytmpjooneiaiffaa
