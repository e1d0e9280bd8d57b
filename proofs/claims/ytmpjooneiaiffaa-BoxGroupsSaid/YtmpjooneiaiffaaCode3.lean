import Derived.Test.YtmpjooneiaiffaaCode2
set_option maxRecDepth 8000
set_option maxHeartbeats 4000000
namespace Go.Proofs.Ytmpjooneiaiffaa
open Go.RowKit
def f61 (x0:BoxLoom) (x1:Ge):Option (BoxLoom × Int × Int × Bool):=
 (f89 x0 ((0:Int)) ((x1).Left)).bind fun y8=>
 (f89 x0 ((1:Int)) ((x1).Right)).bind fun o0=>
 jn (σ:=BoxLoom) (fun nD=>
  (f50 x0).bind fun y63=>
  Option.bind (α:=BoxLoom × Int) (
   bif (decide (y8 ≥ (0 : Int))) then
    (idx ((y63).Shuttles) y8).bind fun y180=>
    (idx ((({ y63 with Shuttles:=(List.set ((y63).Shuttles) (Int.toNat y8) ({ y180 with Side:=(1:Int) }:Zv)) }:BoxLoom)).Shuttles) y8).bind fun mE=>
    some (({ (({ y63 with Shuttles:=(List.set ((y63).Shuttles) (Int.toNat y8) ({ y180 with Side:=(1:Int) }:Zv)) }:BoxLoom)) with Shuttles:=(List.set ((({ y63 with Shuttles:=(List.set ((y63).Shuttles) (Int.toNat y8) ({ y180 with Side:=(1:Int) }:Zv)) }:BoxLoom)).Shuttles) (Int.toNat y8) ({ mE with Box:=(x1).Right }:Zv)) }:BoxLoom),y8)
   else
    (idx ((y63).Shuttles) o0).bind fun l8=>
    (idx ((({ y63 with Shuttles:=(List.set ((y63).Shuttles) (Int.toNat o0) ({ l8 with Side:=(0:Int) }:Zv)) }:BoxLoom)).Shuttles) o0).bind fun oE=>
    some (({ (({ y63 with Shuttles:=(List.set ((y63).Shuttles) (Int.toNat o0) ({ l8 with Side:=(0:Int) }:Zv)) }:BoxLoom)) with Shuttles:=(List.set ((({ y63 with Shuttles:=(List.set ((y63).Shuttles) (Int.toNat o0) ({ l8 with Side:=(0:Int) }:Zv)) }:BoxLoom)).Shuttles) (Int.toNat o0) ({ oE with Box:=(x1).Left }:Zv)) }:BoxLoom),o0)
   ) fun (lB,mB)=>
  (idx ((x0).At) (0:Int)).bind fun l9=>
  (idx ((x0).At) (0:Int)).bind fun n9=>
  (idx ((x0).At) (1:Int)).bind fun aB=>
  (idx ((x0).At) (1:Int)).bind fun vB=>
  some (({ lB with At:=([(x1).Left,(x1).Right]:List Int) }:BoxLoom),mB,(w64 ((w64 ((w64 ((Wj (x1).Left l9) - (min64 (x1).Left n9))) + (Wj (x1).Right aB))) - (min64 (x1).Right vB))),true)
  ) fun nI=>
 Option.bind (α:=Bool) (
  bif (decide (y8 ≥ (0 : Int))) then
   bif (decide (o0 ≥ (0 : Int))) then
    some (true)
   else
    bif (decide (y8 < (0 : Int))) then
     some ((decide (o0 < (0:Int))))
    else
     some (false)
  else
   bif (decide (y8 < (0 : Int))) then
    some ((decide (o0 < (0:Int))))
   else
    some (false)
  ) fun yB=>
 bif yB then
  some (x0,(0:Int),(0:Int),false)
 else
  nI ((⟨[],[],[]⟩:BoxLoom))
theorem en61:Enters Try.prog 61:=enters_of Try.func61 (by kernel_rfl) rfl
theorem wk61 {gI:Gh} {wI:World} {x0:BoxLoom} {x1:Ge} {up0:Value} (rp0:RV gI.m wI x0 up0) {up1:Value} (rp1:RV gI.m wI x1 up1) {r:BoxLoom × Int × Int × Bool} (h:f61 x0 x1=some r):Fn Try.prog 61 #[up0,up1] gI wI (fun m w v=>∃ y0 y1 y2 y3,v=.tuple #[y0,y1,y2,y3]∧RV m w (r.1) y0∧y1=.int .i64 (r.2.1)∧y2=.int .i64 (r.2.2.1)∧y3=.bool (r.2.2.2)):=by
 unfold f61 at h
 refine Tf Try.func61 rfl (Nat.le_of_ble_eq_true rfl) fun g0 hm hfr=>?_
 have rp0:RV g0.m wI x0 up0:=hm ▸ rp0
 have rp1:RV g0.m wI x1 up1:=hm ▸ rp1
 show E _ 106 none _ _ _ _ _
 refine Zf (Za (Ze .plain rfl (We (g:=g0) rfl rp0 fun g1 w1 p1 hs q1=>?_)))
 have hfr:=hfr.ext hs
 have rp1:=rp1.ext hs
 refine Ze .plain rfl (We (g:=g1) rfl rp1 fun g2 w2 p2 hs q2=>?_)
 have hfr:=hfr.ext hs
 have q1:=q1.ext hs
 refine Ze .plain rfl (Gs (g:=g2) 2004 (⟨[],[],[]⟩:BoxLoom) Try.zeroValue25 (fun m w=>⟨_,(Gg Gz (Gg Gz Gz)),rfl⟩) fun g3 w3 p3 hs b3 cb=>?_)
 have hfr:=hfr.stp hs
 have q1:=q1.stp hs
 have q2:=q2.stp hs
 have zB:OSF 2004 60400 0 g3 w3 3 25 ([]:List Int) p3:=cb.osf (by rfl)
 have cC:OSF 2004 60401 1 g3 w3 3 25 ([]:List Int) p3:=cb.osf (by rfl)
 have uC:OSF 2004 60402 2 g3 w3 87 25 ([]:List Zv) p3:=cb.osf (by rfl)
 clear cb
 refine Zg (.int .i64 (0)) rfl rfl ?_
 refine Zg (.int .i64 (0)) rfl rfl ?_
 refine Zg (.bool false) rfl rfl ?_
 refine Zb (Zd (Zf (Zs (x:=.tmp 2) Try.isAgg25 Try.sizeOf25 q1 fun v4 r4 zL=>?_)))
 have q5:=Zm (Wa).1 q2
 refine Zs (x:=.tmp 14) Try.isAgg3 Try.sizeOf3 q5 fun v6 r6 aM=>?_
 obtain rfl:=Zj.1 r6
 obtain ⟨y8,bM,h⟩:=Gc h
 refine Zs (x:=.tmp 2) Try.isAgg25 Try.sizeOf25 q1 fun v9 r9 cM=>?_
 have dM:=Zm (Wc).1 q2
 refine Zs (x:=.tmp 18) Try.isAgg3 Try.sizeOf3 dM fun aO eM jJ=>?_
 obtain rfl:=Zj.1 eM
 obtain ⟨o0,kJ,h⟩:=Gc h
 refine Tt (g:=g3) (n:=10) [(3,(fun v g w=>v=.int .i64 (y8))),(7,(fun v g w=>v=.int .i64 (o0)))] [0,1,2,3,4,5,6,7,8,9] rfl Qf (by kernel_rfl) (⟨fun _=>Tr _,fun _=>Tr _,trivial⟩) ?_
 refine Gy (c:=v4) rfl rfl .plain (fun _ _ h=>h.ch) zL rfl ?_
 refine Gb (Gj p2 0) rfl rfl (Zc at_83_0 rfl (PT.ptr q2)) ?_
 refine Gy (c:=.int .i64 ((x1).Left)) rfl rfl .plain (fun _ _ h=>h.ch) aM rfl ?_
 refine Qa (φ:=fun v g w=>v=.int .i64 (y8)) rfl rfl .plain (fun g w hd=>Zp (g:=g) (vs:=[v4,.int .i64 (0),.int .i64 ((x1).Left)]) en89 (.cons rfl (.cons rfl (.cons rfl .nil))) (wk89 (r4.ext hd.1) bM) fun g' w' v hs hr=>⟨g',hs,hr⟩) (fun v7 hv=>?_)
 obtain ⟨_,_,_,rfl⟩:=hv
 refine Gy (c:=v9) rfl rfl .plain (fun _ _ h=>h.ch) cM rfl ?_
 refine Gb (Gj p2 1) rfl rfl (Zc at_83_1 rfl (PT.ptr q2)) ?_
 refine Gy (c:=.int .i64 ((x1).Right)) rfl rfl .plain (fun _ _ h=>h.ch) jJ rfl ?_
 refine Qa (φ:=fun v g w=>v=.int .i64 (o0)) rfl rfl .plain (fun g w hd=>Zp (g:=g) (vs:=[v9,.int .i64 (1),.int .i64 ((x1).Right)]) en89 (.cons rfl (.cons rfl (.cons rfl .nil))) (wk89 (r9.ext hd.1) kJ) fun g' w' v hs hr=>⟨g',hs,hr⟩) (fun bO hv=>?_)
 obtain ⟨_,_,_,rfl⟩:=hv
 refine Gb (.int .i64 (y8)) rfl rfl (Tg rfl) ?_
 refine Gb (.int .i64 (o0)) rfl rfl (Tg rfl) ?_
 refine L_nl fun cF cO hs=>?_
 have hfr:=hfr.ext hs
 have q1:=q1.ext hs
 have q2:=q2.ext hs
 have zB:=zB.ext hs
 have cC:=cC.ext hs
 have uC:=uC.ext hs
 have b3:=b3.ext hs
 clear hs
 refine Zb (Zd (Zq h (fun (s:BoxLoom) e w=>∃ (g:Gh) ,Fr gI wI g w∧e 2=p1∧PT g.m w (x0:BoxLoom) p1∧e 3=p2∧PT g.m w (x1:Ge) p2∧e 4=p3∧OB 2004 g w 25 (s:BoxLoom) p3∧OSF 2004 60400 0 g w 3 25 ((s).Boxes) p3∧OSF 2004 60401 1 g w 3 25 ((s).At) p3∧OSF 2004 60402 2 g w 87 25 ((s).Shuttles) p3∧e 8=.int .i64 (y8)∧e 9=.int .i64 (o0)) (fun X46 nI lJ h=>?_) ?_))
 ·obtain ⟨yB, hx, h⟩ := Gc h
  refine Th (fun e w=>∃ (g:Gh) ,Fr gI wI g w∧e 2=p1∧PT g.m w (x0:BoxLoom) p1∧e 3=p2∧PT g.m w (x1:Ge) p2∧e 4=p3∧OB 2004 g w 25 ((⟨[],[],[]⟩:BoxLoom):BoxLoom) p3∧OSF 2004 60400 0 g w 3 25 (((⟨[],[],[]⟩:BoxLoom)).Boxes) p3∧OSF 2004 60401 1 g w 3 25 (((⟨[],[],[]⟩:BoxLoom)).At) p3∧OSF 2004 60402 2 g w 87 25 (((⟨[],[],[]⟩:BoxLoom)).Shuttles) p3∧e 8=.int .i64 (y8)∧e 9=.int .i64 (o0)∧e 34=.bool (yB)) (fun Q' hQ=>?_) (fun vM dO hR=>?_)
  ·replace h := hx
   clear hx
   refine Za (Zn (.int .i64 (y8)) rfl rfl ?_)
   refine Gu (.bool ((decide (y8 ≥ (0:Int))))) rfl rfl rfl rfl ?_
   refine Zn (.bool ((decide (y8 ≥ (0:Int))))) rfl rfl ?_
   rcases Zt h with ⟨vC,h⟩ | ⟨vC,h⟩
   ·refine Zz (.int .i64 (o0)) (Zk rfl) rfl rfl vC rfl ?_
    refine Zz (.bool ((decide (o0 ≥ (0:Int))))) (Td rfl rfl rfl) rfl rfl vC rfl ?_
    refine Zy (.bool ((decide (o0 ≥ (0:Int))))) (Zl (b:=(decide (y8 ≥ (0:Int)))) rfl (Tp vC rfl)) rfl ?_
    refine Zn (.bool ((decide (o0 ≥ (0:Int))))) rfl rfl ?_
    rcases Zt h with ⟨n8,h⟩ | ⟨n8,h⟩
    ·refine Ga rfl rfl n8 rfl rfl ?_
     refine Ga rfl rfl n8 rfl rfl ?_
     refine Ga rfl rfl n8 rfl rfl ?_
     refine EL_skip (.off rfl rfl) rfl ?_
     refine EL_skip (.off rfl rfl) rfl ?_
     refine Ga rfl rfl n8 rfl rfl ?_
     refine Zy (.bool true) (Zl (b:=(decide (o0 ≥ (0:Int)))) rfl (Tp n8 rfl)) rfl ?_
     refine Zb ?_
     obtain rfl:=sinj h
     exact hQ _ _ ⟨cF,hfr,rfl,q1,rfl,q2,rfl,b3,zB,cC,uC,rfl,rfl,rfl⟩
    ·refine Zz (.int .i64 (y8)) (Zk rfl) rfl rfl n8 rfl ?_
     refine Zz (.bool ((decide (y8 < (0:Int))))) (Td rfl rfl rfl) rfl rfl n8 rfl ?_
     refine Zz (.bool ((decide (y8 < (0:Int))))) (Zk rfl) rfl rfl n8 rfl ?_
     rcases Zt h with ⟨bD,h⟩ | ⟨bD,h⟩
     ·refine Zz (.int .i64 (o0)) (Zk rfl) rfl rfl bD rfl ?_
      refine Zz (.bool ((decide (o0 < (0:Int))))) (Td rfl rfl rfl) rfl rfl bD rfl ?_
      refine Zz (.bool ((decide (o0 < (0:Int))))) (Zl (b:=(decide (y8 < (0:Int)))) rfl (Tp bD rfl)) rfl rfl n8 rfl ?_
      refine Zy (.bool ((decide (o0 < (0:Int))))) (Zl (b:=(decide (o0 ≥ (0:Int)))) rfl (Tl n8 rfl)) rfl ?_
      refine Zb ?_
      obtain rfl:=sinj h
      exact hQ _ _ ⟨cF,hfr,rfl,q1,rfl,q2,rfl,b3,zB,cC,uC,rfl,rfl,rfl⟩
     ·refine Ga rfl rfl bD rfl rfl ?_
      refine Ga rfl rfl bD rfl rfl ?_
      refine Zz (.bool false) (Zl (b:=(decide (y8 < (0:Int)))) rfl (Tl bD rfl)) rfl rfl n8 rfl ?_
      refine Zy (.bool false) (Zl (b:=(decide (o0 ≥ (0:Int)))) rfl (Tl n8 rfl)) rfl ?_
      refine Zb ?_
      obtain rfl:=sinj h
      exact hQ _ _ ⟨cF,hfr,rfl,q1,rfl,q2,rfl,b3,zB,cC,uC,rfl,rfl,rfl⟩
   ·refine Ga rfl rfl vC rfl rfl ?_
    refine Ga rfl rfl vC rfl rfl ?_
    refine Zy (.bool false) (Zl (b:=(decide (y8 ≥ (0:Int)))) rfl (Tl vC rfl)) rfl ?_
    refine Zn (.bool false) rfl rfl ?_
    refine Zz (.int .i64 (y8)) (Zk rfl) rfl rfl rfl rfl ?_
    refine Zz (.bool ((decide (y8 < (0:Int))))) (Td rfl rfl rfl) rfl rfl rfl rfl ?_
    refine Zz (.bool ((decide (y8 < (0:Int))))) (Zk rfl) rfl rfl rfl rfl ?_
    rcases Zt h with ⟨cD,h⟩ | ⟨cD,h⟩
    ·refine Zz (.int .i64 (o0)) (Zk rfl) rfl rfl cD rfl ?_
     refine Zz (.bool ((decide (o0 < (0:Int))))) (Td rfl rfl rfl) rfl rfl cD rfl ?_
     refine Zz (.bool ((decide (o0 < (0:Int))))) (Zl (b:=(decide (y8 < (0:Int)))) rfl (Tp cD rfl)) rfl rfl rfl rfl ?_
     refine Zy (.bool ((decide (o0 < (0:Int))))) (Zl (b:=false) rfl (Tl rfl rfl)) rfl ?_
     refine Zb ?_
     obtain rfl:=sinj h
     exact hQ _ _ ⟨cF,hfr,rfl,q1,rfl,q2,rfl,b3,zB,cC,uC,rfl,rfl,rfl⟩
    ·refine Ga rfl rfl cD rfl rfl ?_
     refine Ga rfl rfl cD rfl rfl ?_
     refine Zz (.bool false) (Zl (b:=(decide (y8 < (0:Int)))) rfl (Tl cD rfl)) rfl rfl rfl rfl ?_
     refine Zy (.bool false) (Zl (b:=false) rfl (Tl rfl rfl)) rfl ?_
     refine Zb ?_
     obtain rfl:=sinj h
     exact hQ _ _ ⟨cF,hfr,rfl,q1,rfl,q2,rfl,b3,zB,cC,uC,rfl,rfl,rfl⟩
  ·clear hx
   obtain ⟨kG,hfr,tF,uF,mH,nH,rE,vF,u4_0_55,u4_1_55,u4_2_55,oH,pH,dF⟩:=hR
   rcases Zt h with ⟨rF,h⟩ | ⟨rF,h⟩
   ·refine To (Eq.trans (show ev _ _ = .bool (yB) from dF) (congrArg Value.bool rF)) ?_
    refine Zf (Za (Ze .plain rfl (Gr (g:=kG) Try.isAgg25 Try.sizeOf25 tF uF fun iM jM=>?_)))
    refine Ze .plain rfl (Gk (g:=kG) (v:=iM) Try.sizeOf25 rE vF rfl jM fun eO gO hs b58 cb=>?_)
    clear cb
    have hfr:=hfr.stp hs
    refine Zg (.int .i64 (0)) rfl rfl ?_
    refine Zg (.int .i64 (0)) rfl rfl ?_
    refine Zg (.bool false) rfl rfl ?_
    refine Zb (Zd (Gw (Tc ?_)))
    obtain rfl:=sinj h
    obtain ⟨ad59,cv59,hp59,mJ,cr59⟩:=Qv Try.isAgg25 Try.sizeOf25 b58
    exact endm_cttt rfl rfl ((show _=p3 from rE).trans hp59) mJ (show _=.int .i64 (0) from rfl) (show _=.int .i64 (0) from rfl) (show _=.bool false from rfl) ⟨_,hfr,_,_,_,_,rfl,cr59,rfl,rfl,rfl⟩
   ·refine Tk (Eq.trans (show ev _ _ = .bool (yB) from dF) (congrArg Value.bool rF)) ?_
    exact Zu (Zd (lJ ((⟨[],[],[]⟩:BoxLoom)) _ _ ⟨kG,hfr,tF,uF,mH,nH,rE,vF,u4_0_55,u4_1_55,u4_2_55,oH,pH⟩ h))
 ·rintro nD xM jO ⟨pI, hfr, uE, l5, yD, u3, xF, t5, u4_0_60, u4_1_60, u4_2_60, zD, vE⟩ h
  refine Zf (Za (Ze .plain rfl (Gr (g:=pI) Try.isAgg25 Try.sizeOf25 uE l5 fun kM pM=>?_)))
  obtain ⟨y63,nJ,h⟩:=Gc h
  refine Ze .plain rfl (D_callG (g:=pI) (vs:=[kM]) en50 (.cons rfl .nil) (W50 (iO:=4037) pM nJ) fun qM kO v62 hs hm62=>?_)
  have hfr:=hfr.ext hs
  have l5:=l5.ext hs
  have u3:=u3.ext hs
  have u4_0_60:=u4_0_60.ext hs
  have u4_1_60:=u4_1_60.ext hs
  have u4_2_60:=u4_2_60.ext hs
  have t5:=t5.ext hs
  obtain ⟨sk62,ow62,ok62⟩:=hm62
  refine Ze .plain rfl (Gs (g:=qM) 2010 (⟨[],[],[]⟩:BoxLoom) Try.zeroValue25 (fun m w=>⟨_,(Gg Gz (Gg Gz Gz)),rfl⟩) fun yF lG mG hs b65 cb=>?_)
  have hfr:=hfr.stp hs
  have l5:=l5.stp hs
  have u3:=u3.stp hs
  have u4_0_60:=u4_0_60.stp hs rfl
  have u4_1_60:=u4_1_60.stp hs rfl
  have u4_2_60:=u4_2_60.stp hs rfl
  have t5:=t5.stp hs rfl
  have ow62:=ow62.stp hs rfl
  have rM:OSF 2010 61000 0 yF lG 3 25 ([]:List Int) mG:=cb.osf (by rfl)
  have sM:OSF 2010 61001 1 yF lG 3 25 ([]:List Int) mG:=cb.osf (by rfl)
  have tM:OSF 2010 61002 2 yF lG 87 25 ([]:List Zv) mG:=cb.osf (by rfl)
  clear cb
  refine Ze .plain rfl (D_storeOW (g:=yF) Try.sizeOf25 rfl b65 rfl ow62 rfl fun gj66 qI sI bk66 hsa hsb hpp b66=>?_)
  have hfr:=hfr.stp hsa
  have l5:=l5.stp hsa
  have u3:=u3.stp hsa
  have u4_0_60:=u4_0_60.stp hsa rfl
  have u4_1_60:=u4_1_60.stp hsa rfl
  have u4_2_60:=u4_2_60.stp hsa rfl
  have t5:=t5.stp hsa rfl
  have hfr:=hfr.stp hsb
  have l5:=l5.stp hsb
  have u3:=u3.stp hsb
  have u4_0_60:=u4_0_60.stp hsb rfl
  have u4_1_60:=u4_1_60.stp hsb rfl
  have u4_2_60:=u4_2_60.stp hsb rfl
  have t5:=t5.stp hsb rfl
  clear hsa hsb
  subst hpp
  refine Zb (Zd (Zf (Za (Zo zD rfl ?_))))
  refine Zg (.int .i64 (y8)) rfl rfl ?_
  refine Zb (Zd ?_)
  obtain ⟨⟨lB,mB⟩,hx,h⟩:=Gc h
  refine Th (fun e w=>∃ (g:Gh) ,Fr gI wI g w∧e 2=p1∧PT g.m w (x0:BoxLoom) p1∧e 3=p2∧PT g.m w (x1:Ge) p2∧e 4=p3∧OB 2004 g w 25 (nD:BoxLoom) p3∧OSF 2004 60400 0 g w 3 25 ((nD).Boxes) p3∧OSF 2004 60401 1 g w 3 25 ((nD).At) p3∧OSF 2004 60402 2 g w 87 25 ((nD).Shuttles) p3∧e 10=(Value.pointer (some ⟨bk66,0,none⟩))∧OVb ow_BoxLoom 2010 g w 25 (lB:BoxLoom) bk66∧e 11=.int .i64 (mB)) (fun Q' hQ=>?_) (fun uM bN hR=>?_)
  ·replace h := hx
   clear hx
   refine Zf (Za (Zo zD rfl ?_))
   refine Gu (.bool ((decide (y8 ≥ (0:Int))))) rfl rfl rfl rfl ?_
   refine Zb (Zd ?_)
   rcases Zt h with ⟨xE,h⟩ | ⟨xE,h⟩
   ·refine Qq xE rfl ?_
    have oJ:=Zm (Wc).1 u3
    refine Zs (x:=.tmp 47) Try.isAgg3 Try.sizeOf3 oJ fun cN pJ qH=>?_
    obtain rfl:=Zj.1 pJ
    obtain ⟨y180,aE,h⟩:=Gc h
    obtain ⟨bb181,cc181,ss181,hq181,aG⟩:=(OV.slice b66 (Cxt.fld (Cxt.root ow_BoxLoom bk66) Qe (y63) (sk62)) rfl rfl ((ok62.2).2)).2 aE
    obtain ⟨mE,yE,h⟩:=Gc h
    refine E_drawG (g:=qI) (w:=sI) (i:=2010) (A0:=fun g w=>OV ow_BoxLoom 2010 g w 25 (y63:BoxLoom) bk66 sk62) (A1:=fun g w=>OV ow_BoxLoom 2010 g w 25 (({ y63 with Shuttles:=(List.set ((y63).Shuttles) (Int.toNat y8) ({ y180 with Side:=(1:Int) }:Zv)) }:BoxLoom):BoxLoom) bk66 sk62) b66 up_ov (n:=13) [(10,(fun _ g w=>OV ow_BoxLoom 2010 g w 25 (({ y63 with Shuttles:=(List.set ((y63).Shuttles) (Int.toNat y8) ({ y180 with Side:=(1:Int) }:Zv)) }:BoxLoom):BoxLoom) bk66 sk62))] [0,1,2,3,4,5,6,7,8,9,10,11,12] rfl Qf (by kernel_rfl) (⟨fun _=>up_box,trivial⟩) ?_
    refine Gb ((.pointer (some ⟨bk66,(0 + 2),none⟩))) rfl rfl (Wp Qk rfl) ?_
    refine L_val (c:=(hdrV (Prod.snd (Prod.snd sk62)) ((y63).Shuttles).length)) rfl rfl .plain (fun g w hd=>loadHAB (Cxt.fld (Cxt.root ow_BoxLoom bk66) Qe (y63) (sk62)) rfl rfl (Cxt.fld (Cxt.root ow_BoxLoom bk66) Qe (({ y63 with Shuttles:=(List.set ((y63).Shuttles) (Int.toNat y8) ({ y180 with Side:=(1:Int) }:Zv)) }:BoxLoom)) (sk62)) rfl rfl (by simp) ((ok62.2).2) Try.isAgg23 rfl hd.1.2) ?_
    refine Gb (.int .i64 (y8)) rfl rfl (Zk zD) ?_
    refine Gb ((.pointer (some ⟨bk66,(0 + 2),none⟩))) rfl rfl (Wp Qk rfl) ?_
    refine L_val (c:=(hdrV (Prod.snd (Prod.snd sk62)) ((y63).Shuttles).length)) rfl rfl .plain (fun g w hd=>loadHAB (Cxt.fld (Cxt.root ow_BoxLoom bk66) Qe (y63) (sk62)) rfl rfl (Cxt.fld (Cxt.root ow_BoxLoom bk66) Qe (({ y63 with Shuttles:=(List.set ((y63).Shuttles) (Int.toNat y8) ({ y180 with Side:=(1:Int) }:Zv)) }:BoxLoom)) (sk62)) rfl rfl (by simp) ((ok62.2).2) Try.isAgg23 rfl hd.1.2) ?_
    refine Gb (.int .i64 (y8)) rfl rfl (Zk zD) ?_
    refine Gb (Gj p2 1) rfl rfl (Zc at_83_1 yD (PT.ptr u3)) ?_
    refine Gy (c:=.int .i64 ((x1).Right)) rfl rfl .plain (fun _ _ h=>h.1.ch) qH rfl ?_
    refine Gb ((.pointer (some ⟨bb181,((Int.toNat y8) * 5),none⟩))) rfl rfl (P_indexH Try.underlying23 Try.sizeOf87 (rfl.trans (hdr_at hq181 _)) rfl (idx_nat aE)) ?_
    refine Gb ((.pointer (some ⟨bb181,(((Int.toNat y8) * 5) + 1),none⟩))) rfl rfl (Wp Ww rfl) ?_
    refine Qa (φ:=fun _ g w=>OV ow_BoxLoom 2010 g w 25 (({ y63 with Shuttles:=(List.set ((y63).Shuttles) (Int.toNat y8) ({ y180 with Side:=(1:Int) }:Zv)) }:BoxLoom):BoxLoom) bk66 sk62) rfl rfl .plain (fun g w hd=>D_storeOVR (g:=g) (u':=((1:Int):Int)) (Cxt.fld (Cxt.idx (Cxt.fld (Cxt.root ow_BoxLoom bk66) Qe (y63) (sk62)) ((y63).Shuttles) (Int.toNat y8) bb181 cc181 ss181 (idx_nat aE).2 aG) fl_BoxShuttle_1 (y180) (())) ((congrArg (fun q=>({ y63 with Shuttles:=q }:BoxLoom)) (set_idx aE)).trans rfl) rfl (((congrArg (fun q=>((Prod.fst sk62),((Prod.fst (Prod.snd sk62)),(Sl.at bb181 cc181 q)))) set_unit).trans (congrArg (fun q=>((Prod.fst sk62),((Prod.fst (Prod.snd sk62)),q))) (hq181).symm)).trans rfl) Try.sizeOf3 rfl hd.1.2 rfl (Zj.2 rfl)) (fun dN hv=>?_)
    clear hv
    refine Gb ((.pointer (some ⟨bb181,((Int.toNat y8) * 5),none⟩))) rfl rfl (P_indexH Try.underlying23 Try.sizeOf87 (rfl.trans (hdr_at hq181 _)) rfl (by simpa using idx_nat yE)) ?_
    refine Gb ((.pointer (some ⟨bb181,(((Int.toNat y8) * 5) + 2),none⟩))) rfl rfl (Wp at_87_2 rfl) ?_
    refine L_nil fun qJ eN hall=>?_
    have hs:=hall.1.1
    have hfr:=hfr.stp hs
    have l5:=l5.stp hs
    have u3:=u3.stp hs
    have u4_0_60:=u4_0_60.stp hs rfl
    have u4_1_60:=u4_1_60.stp hs rfl
    have u4_2_60:=u4_2_60.stp hs rfl
    have t5:=t5.stp hs rfl
    have b195:=(Gl (A:=fun g w=>OV ow_BoxLoom 2010 g w 25 (({ y63 with Shuttles:=(List.set ((y63).Shuttles) (Int.toNat y8) ({ y180 with Side:=(1:Int) }:Zv)) }:BoxLoom):BoxLoom) bk66 sk62) 10 rfl hall)
    clear hs hall
    refine Ze .plain rfl (D_storeOV (g:=qJ) (u':=((x1).Right:Int)) (Cxt.fld (Cxt.idx (Cxt.fld (Cxt.root ow_BoxLoom bk66) Qe (({ y63 with Shuttles:=(List.set ((y63).Shuttles) (Int.toNat y8) ({ y180 with Side:=(1:Int) }:Zv)) }:BoxLoom)) (sk62)) ((({ y63 with Shuttles:=(List.set ((y63).Shuttles) (Int.toNat y8) ({ y180 with Side:=(1:Int) }:Zv)) }:BoxLoom)).Shuttles) (Int.toNat y8) bb181 cc181 ss181 (idx_nat yE).2 (by simpa using aG)) fl_BoxShuttle_2 (mE) (())) ((congrArg (fun q=>({ (({ y63 with Shuttles:=(List.set ((y63).Shuttles) (Int.toNat y8) ({ y180 with Side:=(1:Int) }:Zv)) }:BoxLoom)) with Shuttles:=q }:BoxLoom)) (set_idx yE)).trans rfl) (((congrArg (fun q=>((Prod.fst sk62),((Prod.fst (Prod.snd sk62)),(Sl.at bb181 cc181 q)))) set_unit).trans (congrArg (fun q=>((Prod.fst sk62),((Prod.fst (Prod.snd sk62)),q))) (hq181).symm)).trans rfl) Try.sizeOf3 rfl b195 rfl (Zj.2 rfl) fun sG rJ hs b213=>?_)
    have hfr:=hfr.stp hs
    have l5:=l5.stp hs
    have u3:=u3.stp hs
    have u4_0_60:=u4_0_60.stp hs rfl
    have u4_1_60:=u4_1_60.stp hs rfl
    have u4_2_60:=u4_2_60.stp hs rfl
    have t5:=t5.stp hs rfl
    replace b213:OV ow_BoxLoom 2010 sG rJ 25 (({ (({ y63 with Shuttles:=(List.set ((y63).Shuttles) (Int.toNat y8) ({ y180 with Side:=(1:Int) }:Zv)) }:BoxLoom)) with Shuttles:=(List.set ((({ y63 with Shuttles:=(List.set ((y63).Shuttles) (Int.toNat y8) ({ y180 with Side:=(1:Int) }:Zv)) }:BoxLoom)).Shuttles) (Int.toNat y8) ({ mE with Box:=(x1).Right }:Zv)) }:BoxLoom):BoxLoom) bk66 sk62:=b213
    refine Zb ?_
    obtain ⟨rfl,rfl⟩:=pairs2 h
    exact hQ _ _ ⟨sG,hfr,uE,l5,yD,u3,xF,t5,u4_0_60,u4_1_60,u4_2_60,rfl,⟨_,b213,ok62⟩,rfl⟩
   ·refine Qr xE rfl ?_
    refine Zf (Za (Zo vE rfl ?_))
    refine Zg (.int .i64 (o0)) rfl rfl ?_
    refine Zb (Zd ?_)
    have sJ:=Zm (Wa).1 u3
    refine Zs (x:=.tmp 60) Try.isAgg3 Try.sizeOf3 sJ fun gN vJ sH=>?_
    obtain rfl:=Zj.1 vJ
    obtain ⟨l8,bE,h⟩:=Gc h
    obtain ⟨bb229,cc229,ss229,hq229,bG⟩:=(OV.slice b66 (Cxt.fld (Cxt.root ow_BoxLoom bk66) Qe (y63) (sk62)) rfl rfl ((ok62.2).2)).2 bE
    obtain ⟨oE,zE,h⟩:=Gc h
    refine E_drawG (g:=qI) (w:=sI) (i:=2010) (A0:=fun g w=>OV ow_BoxLoom 2010 g w 25 (y63:BoxLoom) bk66 sk62) (A1:=fun g w=>OV ow_BoxLoom 2010 g w 25 (({ y63 with Shuttles:=(List.set ((y63).Shuttles) (Int.toNat o0) ({ l8 with Side:=(0:Int) }:Zv)) }:BoxLoom):BoxLoom) bk66 sk62) b66 up_ov (n:=13) [(10,(fun _ g w=>OV ow_BoxLoom 2010 g w 25 (({ y63 with Shuttles:=(List.set ((y63).Shuttles) (Int.toNat o0) ({ l8 with Side:=(0:Int) }:Zv)) }:BoxLoom):BoxLoom) bk66 sk62))] [0,1,2,3,4,5,6,7,8,9,10,11,12] rfl Qf (by kernel_rfl) (⟨fun _=>up_box,trivial⟩) ?_
    refine Gb ((.pointer (some ⟨bk66,(0 + 2),none⟩))) rfl rfl (Wp Qk rfl) ?_
    refine L_val (c:=(hdrV (Prod.snd (Prod.snd sk62)) ((y63).Shuttles).length)) rfl rfl .plain (fun g w hd=>loadHAB (Cxt.fld (Cxt.root ow_BoxLoom bk66) Qe (y63) (sk62)) rfl rfl (Cxt.fld (Cxt.root ow_BoxLoom bk66) Qe (({ y63 with Shuttles:=(List.set ((y63).Shuttles) (Int.toNat o0) ({ l8 with Side:=(0:Int) }:Zv)) }:BoxLoom)) (sk62)) rfl rfl (by simp) ((ok62.2).2) Try.isAgg23 rfl hd.1.2) ?_
    refine Gb (.int .i64 (o0)) rfl rfl (Zk vE) ?_
    refine Gb ((.pointer (some ⟨bk66,(0 + 2),none⟩))) rfl rfl (Wp Qk rfl) ?_
    refine L_val (c:=(hdrV (Prod.snd (Prod.snd sk62)) ((y63).Shuttles).length)) rfl rfl .plain (fun g w hd=>loadHAB (Cxt.fld (Cxt.root ow_BoxLoom bk66) Qe (y63) (sk62)) rfl rfl (Cxt.fld (Cxt.root ow_BoxLoom bk66) Qe (({ y63 with Shuttles:=(List.set ((y63).Shuttles) (Int.toNat o0) ({ l8 with Side:=(0:Int) }:Zv)) }:BoxLoom)) (sk62)) rfl rfl (by simp) ((ok62.2).2) Try.isAgg23 rfl hd.1.2) ?_
    refine Gb (.int .i64 (o0)) rfl rfl (Zk vE) ?_
    refine Gb (Gj p2 0) rfl rfl (Zc at_83_0 yD (PT.ptr u3)) ?_
    refine Gy (c:=.int .i64 ((x1).Left)) rfl rfl .plain (fun _ _ h=>h.1.ch) sH rfl ?_
    refine Gb ((.pointer (some ⟨bb229,((Int.toNat o0) * 5),none⟩))) rfl rfl (P_indexH Try.underlying23 Try.sizeOf87 (rfl.trans (hdr_at hq229 _)) rfl (idx_nat bE)) ?_
    refine Gb ((.pointer (some ⟨bb229,(((Int.toNat o0) * 5) + 1),none⟩))) rfl rfl (Wp Ww rfl) ?_
    refine Qa (φ:=fun _ g w=>OV ow_BoxLoom 2010 g w 25 (({ y63 with Shuttles:=(List.set ((y63).Shuttles) (Int.toNat o0) ({ l8 with Side:=(0:Int) }:Zv)) }:BoxLoom):BoxLoom) bk66 sk62) rfl rfl .plain (fun g w hd=>D_storeOVR (g:=g) (u':=((0:Int):Int)) (Cxt.fld (Cxt.idx (Cxt.fld (Cxt.root ow_BoxLoom bk66) Qe (y63) (sk62)) ((y63).Shuttles) (Int.toNat o0) bb229 cc229 ss229 (idx_nat bE).2 bG) fl_BoxShuttle_1 (l8) (())) ((congrArg (fun q=>({ y63 with Shuttles:=q }:BoxLoom)) (set_idx bE)).trans rfl) rfl (((congrArg (fun q=>((Prod.fst sk62),((Prod.fst (Prod.snd sk62)),(Sl.at bb229 cc229 q)))) set_unit).trans (congrArg (fun q=>((Prod.fst sk62),((Prod.fst (Prod.snd sk62)),q))) (hq229).symm)).trans rfl) Try.sizeOf3 rfl hd.1.2 rfl (Zj.2 rfl)) (fun iN hv=>?_)
    clear hv
    refine Gb ((.pointer (some ⟨bb229,((Int.toNat o0) * 5),none⟩))) rfl rfl (P_indexH Try.underlying23 Try.sizeOf87 (rfl.trans (hdr_at hq229 _)) rfl (by simpa using idx_nat zE)) ?_
    refine Gb ((.pointer (some ⟨bb229,(((Int.toNat o0) * 5) + 2),none⟩))) rfl rfl (Wp at_87_2 rfl) ?_
    refine L_nil fun xJ jN hall=>?_
    have hs:=hall.1.1
    have hfr:=hfr.stp hs
    have l5:=l5.stp hs
    have u3:=u3.stp hs
    have u4_0_60:=u4_0_60.stp hs rfl
    have u4_1_60:=u4_1_60.stp hs rfl
    have u4_2_60:=u4_2_60.stp hs rfl
    have t5:=t5.stp hs rfl
    have b243:=(Gl (A:=fun g w=>OV ow_BoxLoom 2010 g w 25 (({ y63 with Shuttles:=(List.set ((y63).Shuttles) (Int.toNat o0) ({ l8 with Side:=(0:Int) }:Zv)) }:BoxLoom):BoxLoom) bk66 sk62) 10 rfl hall)
    clear hs hall
    refine Ze .plain rfl (D_storeOV (g:=xJ) (u':=((x1).Left:Int)) (Cxt.fld (Cxt.idx (Cxt.fld (Cxt.root ow_BoxLoom bk66) Qe (({ y63 with Shuttles:=(List.set ((y63).Shuttles) (Int.toNat o0) ({ l8 with Side:=(0:Int) }:Zv)) }:BoxLoom)) (sk62)) ((({ y63 with Shuttles:=(List.set ((y63).Shuttles) (Int.toNat o0) ({ l8 with Side:=(0:Int) }:Zv)) }:BoxLoom)).Shuttles) (Int.toNat o0) bb229 cc229 ss229 (idx_nat zE).2 (by simpa using bG)) fl_BoxShuttle_2 (oE) (())) ((congrArg (fun q=>({ (({ y63 with Shuttles:=(List.set ((y63).Shuttles) (Int.toNat o0) ({ l8 with Side:=(0:Int) }:Zv)) }:BoxLoom)) with Shuttles:=q }:BoxLoom)) (set_idx zE)).trans rfl) (((congrArg (fun q=>((Prod.fst sk62),((Prod.fst (Prod.snd sk62)),(Sl.at bb229 cc229 q)))) set_unit).trans (congrArg (fun q=>((Prod.fst sk62),((Prod.fst (Prod.snd sk62)),q))) (hq229).symm)).trans rfl) Try.sizeOf3 rfl b243 rfl (Zj.2 rfl) fun xG zJ hs b262=>?_)
    have hfr:=hfr.stp hs
    have l5:=l5.stp hs
    have u3:=u3.stp hs
    have u4_0_60:=u4_0_60.stp hs rfl
    have u4_1_60:=u4_1_60.stp hs rfl
    have u4_2_60:=u4_2_60.stp hs rfl
    have t5:=t5.stp hs rfl
    replace b262:OV ow_BoxLoom 2010 xG zJ 25 (({ (({ y63 with Shuttles:=(List.set ((y63).Shuttles) (Int.toNat o0) ({ l8 with Side:=(0:Int) }:Zv)) }:BoxLoom)) with Shuttles:=(List.set ((({ y63 with Shuttles:=(List.set ((y63).Shuttles) (Int.toNat o0) ({ l8 with Side:=(0:Int) }:Zv)) }:BoxLoom)).Shuttles) (Int.toNat o0) ({ oE with Box:=(x1).Left }:Zv)) }:BoxLoom):BoxLoom) bk66 sk62:=b262
    refine Zb ?_
    obtain ⟨rfl,rfl⟩:=pairs2 h
    exact hQ _ _ ⟨xG,hfr,uE,l5,yD,u3,xF,t5,u4_0_60,u4_1_60,u4_2_60,rfl,⟨_,b262,ok62⟩,rfl⟩
  ·clear hx
   obtain ⟨aK,hfr,oD,v8,nB,i6,eF,g8,u4_0_263,u4_1_263,u4_2_263,lE,⟨lD,oB,iE⟩,jG⟩:=hR
   refine Zf ?_
   have bK:=Zm (Wa).1 i6
   refine Zs (x:=.tmp 66) Try.isAgg3 Try.sizeOf3 bK fun kN cK tH=>?_
   obtain rfl:=Zj.1 cK
   have dK:=Zm (Qo).1 v8
   refine Zs (x:=.tmp 68) Try.isAgg22 Try.sizeOf22 dK fun yG zG uH=>?_
   obtain ⟨l9,cG,h⟩:=Gc h
   have lK:=Tj zG cG
   refine Zs (x:=.tmp 70) Try.isAgg3 Try.sizeOf3 lK fun lN mK xH=>?_
   obtain rfl:=Zj.1 mK
   have nK:=Zm (Wa).1 i6
   refine Zs (x:=.tmp 73) Try.isAgg3 Try.sizeOf3 nK fun mN oK yH=>?_
   obtain rfl:=Zj.1 oK
   have pK:=Zm (Qo).1 v8
   refine Zs (x:=.tmp 75) Try.isAgg22 Try.sizeOf22 pK fun aH cH zH=>?_
   obtain ⟨n9,eG,h⟩:=Gc h
   have qK:=Tj cH eG
   refine Zs (x:=.tmp 77) Try.isAgg3 Try.sizeOf3 qK fun nN sK aI=>?_
   obtain rfl:=Zj.1 sK
   have tK:=Zm (Wc).1 i6
   refine Zs (x:=.tmp 81) Try.isAgg3 Try.sizeOf3 tK fun oN uK bI=>?_
   obtain rfl:=Zj.1 uK
   have vK:=Zm (Qo).1 v8
   refine Zs (x:=.tmp 83) Try.isAgg22 Try.sizeOf22 vK fun gH jH dI=>?_
   obtain ⟨aB,gG,h⟩:=Gc h
   have xK:=Tj jH gG
   refine Zs (x:=.tmp 85) Try.isAgg3 Try.sizeOf3 xK fun pN yK iI=>?_
   obtain rfl:=Zj.1 yK
   have zK:=Zm (Wc).1 i6
   refine Zs (x:=.tmp 89) Try.isAgg3 Try.sizeOf3 zK fun qN aL jI=>?_
   obtain rfl:=Zj.1 aL
   have bL:=Zm (Qo).1 v8
   refine Zs (x:=.tmp 91) Try.isAgg22 Try.sizeOf22 bL fun kH lH kI=>?_
   obtain ⟨vB,iG,h⟩:=Gc h
   have dL:=Tj lH iG
   refine Zs (x:=.tmp 93) Try.isAgg3 Try.sizeOf3 dL fun rN eL lI=>?_
   obtain rfl:=Zj.1 eL
   refine Tt (g:=aK) (n:=32) [] [0,1,2,3,4,5,6,7,8,9,10,11,12,13,14,15,16,17,18,19,20,21,22,23,24,25,26,27,28,29,30,31] rfl Qf (by kernel_rfl) trivial ?_
   refine Gb (Gj p2 0) rfl rfl (Zc at_83_0 nB (PT.ptr i6)) ?_
   refine Gy (c:=.int .i64 ((x1).Left)) rfl rfl .plain (fun _ _ h=>h.ch) tH rfl ?_
   refine Gb (Gj p1 1) rfl rfl (Zc at_25_1 oD (PT.ptr v8)) ?_
   refine Gy (c:=yG) rfl rfl .plain (fun _ _ h=>h.ch) uH rfl ?_
   refine Gb (Qc yG (0:Int) 1) rfl rfl (Zh (α:=Int) Try.underlying22 Try.sizeOf3 rfl zG rfl cG) ?_
   refine Gy (c:=.int .i64 (l9)) rfl rfl .plain (fun _ _ h=>h.ch) xH rfl ?_
   refine Gb (.int .i64 (Wj (x1).Left l9)) rfl rfl (P_max rfl rfl) ?_
   refine Gb (Gj p2 0) rfl rfl (Zc at_83_0 nB (PT.ptr i6)) ?_
   refine Gy (c:=.int .i64 ((x1).Left)) rfl rfl .plain (fun _ _ h=>h.ch) yH rfl ?_
   refine Gb (Gj p1 1) rfl rfl (Zc at_25_1 oD (PT.ptr v8)) ?_
   refine Gy (c:=aH) rfl rfl .plain (fun _ _ h=>h.ch) zH rfl ?_
   refine Gb (Qc aH (0:Int) 1) rfl rfl (Zh (α:=Int) Try.underlying22 Try.sizeOf3 rfl cH rfl eG) ?_
   refine Gy (c:=.int .i64 (n9)) rfl rfl .plain (fun _ _ h=>h.ch) aI rfl ?_
   refine Gb (.int .i64 (min64 (x1).Left n9)) rfl rfl (P_min rfl rfl) ?_
   refine Gb (.int .i64 ((w64 ((Wj (x1).Left l9) - (min64 (x1).Left n9))))) rfl rfl (Td rfl rfl rfl) ?_
   refine Gb (Gj p2 1) rfl rfl (Zc at_83_1 nB (PT.ptr i6)) ?_
   refine Gy (c:=.int .i64 ((x1).Right)) rfl rfl .plain (fun _ _ h=>h.ch) bI rfl ?_
   refine Gb (Gj p1 1) rfl rfl (Zc at_25_1 oD (PT.ptr v8)) ?_
   refine Gy (c:=gH) rfl rfl .plain (fun _ _ h=>h.ch) dI rfl ?_
   refine Gb (Qc gH (1:Int) 1) rfl rfl (Zh (α:=Int) Try.underlying22 Try.sizeOf3 rfl jH rfl gG) ?_
   refine Gy (c:=.int .i64 (aB)) rfl rfl .plain (fun _ _ h=>h.ch) iI rfl ?_
   refine Gb (.int .i64 (Wj (x1).Right aB)) rfl rfl (P_max rfl rfl) ?_
   refine Gb (.int .i64 ((w64 ((w64 ((Wj (x1).Left l9) - (min64 (x1).Left n9))) + (Wj (x1).Right aB))))) rfl rfl (Td rfl rfl rfl) ?_
   refine Gb (Gj p2 1) rfl rfl (Zc at_83_1 nB (PT.ptr i6)) ?_
   refine Gy (c:=.int .i64 ((x1).Right)) rfl rfl .plain (fun _ _ h=>h.ch) jI rfl ?_
   refine Gb (Gj p1 1) rfl rfl (Zc at_25_1 oD (PT.ptr v8)) ?_
   refine Gy (c:=kH) rfl rfl .plain (fun _ _ h=>h.ch) kI rfl ?_
   refine Gb (Qc kH (1:Int) 1) rfl rfl (Zh (α:=Int) Try.underlying22 Try.sizeOf3 rfl lH rfl iG) ?_
   refine Gy (c:=.int .i64 (vB)) rfl rfl .plain (fun _ _ h=>h.ch) lI rfl ?_
   refine Gb (.int .i64 (min64 (x1).Right vB)) rfl rfl (P_min rfl rfl) ?_
   refine Gb (.int .i64 ((w64 ((w64 ((w64 ((Wj (x1).Left l9) - (min64 (x1).Left n9))) + (Wj (x1).Right aB))) - (min64 (x1).Right vB))))) rfl rfl (Td rfl rfl rfl) ?_
   refine Gb (.int .i64 ((w64 ((w64 ((w64 ((Wj (x1).Left l9) - (min64 (x1).Left n9))) + (Wj (x1).Right aB))) - (min64 (x1).Right vB))))) rfl rfl (Tg rfl) ?_
   refine L_nl fun sF sN hs=>?_
   have hfr:=hfr.ext hs
   have i6:=i6.ext hs
   have g8:=g8.ext hs
   have oB:=oB.ext hs
   clear hs
   refine Zb (Zd (Zf (Za (Zy (Gj p2 0) (Zc at_83_0 nB (PT.ptr i6)) rfl ?_))))
   have gL:=Zm (Wa).1 i6
   refine Ze .plain rfl (Gr (g:=sF) Try.isAgg3 Try.sizeOf3 rfl gL fun tN iL=>?_)
   obtain rfl:=Zj.1 iL
   refine Zy (Gj p2 1) (Zc at_83_1 nB (PT.ptr i6)) rfl ?_
   have jL:=Zm (Wc).1 i6
   refine Ze .plain rfl (Gr (g:=sF) Try.isAgg3 Try.sizeOf3 rfl jL fun uN lL=>?_)
   obtain rfl:=Zj.1 lL
   refine Ze .plain rfl (D_buildSliceA (g:=sF) 4101 (xs:=([(x1).Left,(x1).Right]:List Int)) (vs:=[.int .i64 ((x1).Left),.int .i64 ((x1).Right)]) Try.underlying22 Try.sizeOf3 Try.zeroValue3 rfl rfl (.cons rfl (.cons rfl .nil)) (RVs.cons (Zj.2 rfl) (RVs.cons (Zj.2 rfl) RVs.nil)) rfl rfl fun mL vN xN hs b334 _=>?_)
   have hfr:=hfr.stp hs
   have g8:=g8.stp hs rfl
   have oB:=oB.stp hs rfl
   refine Zy ((.pointer (some ⟨bk66,(0 + 1),none⟩))) (Wp at_25_1 lE) rfl ?_
   obtain ⟨sk337,ow337,ok337⟩:=OA.toW b334
   refine Ze .plain rfl (D_storeW (g:=mL) (Cxt.fld (Cxt.root ow_BoxLoom bk66) fl_BoxLoom_1 (lB) (lD)) rfl rfl Try.sizeOf22 rfl oB rfl ow337 rfl fun gj338 nL oL hsa hsb b338=>?_)
   have hfr:=hfr.stp hsa
   have g8:=g8.stp hsa rfl
   have hfr:=hfr.stp hsb
   have g8:=g8.stp hsb rfl
   clear hsa hsb
   replace b338:OV ow_BoxLoom 2010 nL oL 25 (({ lB with At:=([(x1).Left,(x1).Right]:List Int) }:BoxLoom):BoxLoom) bk66 ((Prod.fst lD),(sk337,(Prod.snd (Prod.snd lD)))):=b338
   refine Zb (Zd (Zf (Za ?_)))
   obtain ⟨go340,hs,b340⟩:=OV.toOB b338 ⟨(iE.1),⟨ok337,((iE.2).2)⟩⟩
   have hfr:=hfr.stp hs
   have g8:=g8.stp hs rfl
   refine Ze .plain rfl (Qj (g:=go340) Try.isAgg25 Try.sizeOf25 lE b340 fun xL yL=>?_)
   refine Zo jG rfl ?_
   refine Zy (.int .i64 ((w64 ((w64 ((w64 ((Wj (x1).Left l9) - (min64 (x1).Left n9))) + (Wj (x1).Right aB))) - (min64 (x1).Right vB))))) (Zk rfl) rfl ?_
   refine Ze .plain rfl (Gk (g:=go340) (v:=xL) Try.sizeOf25 eF g8 rfl yL fun yN zN hs b342 cb=>?_)
   clear cb
   have hfr:=hfr.stp hs
   refine Zg (.int .i64 (mB)) rfl rfl ?_
   refine Zy (.int .i64 ((w64 ((w64 ((w64 ((Wj (x1).Left l9) - (min64 (x1).Left n9))) + (Wj (x1).Right aB))) - (min64 (x1).Right vB))))) (Tg rfl) rfl ?_
   refine Zg (.bool true) rfl rfl ?_
   refine Zb (Zd (Gw ?_))
   obtain rfl:=sinj h
   obtain ⟨ad343,cv343,hp343,mI,cr343⟩:=Qv Try.isAgg25 Try.sizeOf25 b342
   exact endm_cttt rfl rfl ((show _=p3 from eF).trans hp343) mI (show _=.int .i64 (mB) from rfl) (show _=.int .i64 ((w64 ((w64 ((w64 ((Wj (x1).Left l9) - (min64 (x1).Left n9))) + (Wj (x1).Right aB))) - (min64 (x1).Right vB)))) from rfl) (show _=.bool true from rfl) ⟨_,hfr,_,_,_,_,rfl,cr343,rfl,rfl,rfl⟩
def f63 (x0:List Int):Option (Bool):=
 (f52 x0).bind fun y2=>
 some ((!y2))
theorem en63:Enters Try.prog 63:=enters_of Try.func63 (by kernel_rfl) rfl
theorem wk63 {gI:Gh} {wI:World} {x0:List Int} {up0:Value} (rp0:RV gI.m wI x0 up0) {r:Bool} (h:f63 x0=some r):Fn Try.prog 63 #[up0] gI wI (fun _ _ v=>v=.bool (r)):=by
 unfold f63 at h
 refine Tf Try.func63 rfl (Nat.le_of_ble_eq_true rfl) fun g0 hm hfr=>?_
 have rp0:RV g0.m wI x0 up0:=hm ▸ rp0
 show E _ 6 none _ _ _ _ _
 refine Zf (Za (Zg (.bool false) rfl rfl ?_))
 refine Zb (Zd (Zf (Za (Zn up0 rfl rfl ?_))))
 obtain ⟨y2,hy2,h⟩:=Gc h
 refine Ze .plain rfl (Zp (g:=g0) (vs:=[up0]) en52 (.cons rfl .nil) (wk52 rp0 hy2) fun g1 w1_ v1 hs hr=>?_)
 have hfr:=hfr.ext hs
 subst hr
 refine Zy (.bool (!y2)) (Wm rfl) rfl ?_
 refine Zg (.bool (!y2)) rfl rfl ?_
 refine Zb (Zd (Gw ?_))
 obtain rfl:=sinj h
 exact Wb rfl rfl (show _=.bool (!y2) from rfl) ⟨_,hfr,rfl⟩
def f76 (x0:Gv) (x1:List Ge):Option (Tz × Int × Int):=
 jn (σ:=Tz) (fun lD=>
  some (lD,(0:Int),(0:Int))
  ) fun sF=>
 lp (σ:=Tz × Int) (fun tF (n8,u3)=>
  bif (decide (u3 < ((x1).length : Int))) then
   jn (σ:=Tz) (fun nB=>
    tF (nB,(w64 (u3 + (1:Int))))
    ) fun uF=>
   (idx x1 u3).bind fun vF=>
   (f97 ((n8).last) vF).bind fun o0=>
   jn (σ:=Tz) (fun i6=>
    (apnd 8 ((i6).thrown) (([o0.2.1]:List Int))).bind fun g8=>
    uF ((⟨g8,o0.1,(w64 ((i6).moves + o0.2.2))⟩:Tz))
    ) fun xF=>
   bif (o0.2.1 == (0 : Int)) then
    some ((⟨[],⟨(⟨List.toArray [(⟨List.toArray [0,0,0,0],rfl⟩:Vector Int 4),(⟨List.toArray [0,0,0,0],rfl⟩:Vector Int 4)],rfl⟩:Vector (Vector Int 4) 2),⟨0,0⟩⟩,0⟩:Tz),u3,(9:Int))
   else
    xF (n8)
  else
   sF (n8)
  ) big ((⟨[],x0,0⟩:Tz),(0:Int))
theorem en76:Enters Try.prog 76:=enters_of Try.func76 (by kernel_rfl) rfl
theorem wk76 {gI:Gh} {wI:World} {x0:Gv} {x1:List Ge} {up0:Value} (rp0:RV gI.m wI x0 up0) {up1:Value} (rp1:RV gI.m wI x1 up1) {r:Tz × Int × Int} (h:f76 x0 x1=some r):Fn Try.prog 76 #[up0,up1] gI wI (fun m w v=>∃ y0 y1 y2,v=.tuple #[y0,y1,y2]∧RV m w (r.1) y0∧y1=.int .i64 (r.2.1)∧y2=.int .i64 (r.2.2)):=by
 unfold f76 at h
 refine Tf Try.func76 rfl (Nat.le_of_ble_eq_true rfl) fun g0 hm hfr=>?_
 have rp0:RV g0.m wI x0 up0:=hm ▸ rp0
 have rp1:RV g0.m wI x1 up1:=hm ▸ rp1
 show E _ 46 none _ _ _ _ _
 refine Zf (Za (Ze .plain rfl (We (g:=g0) rfl rp0 fun g1 w1 p1 hs q1=>?_)))
 have hfr:=hfr.ext hs
 have rp1:=rp1.ext hs
 refine Ze .plain rfl (Gs (g:=g1) 2004 (⟨[],⟨(⟨List.toArray [(⟨List.toArray [0,0,0,0],rfl⟩:Vector Int 4),(⟨List.toArray [0,0,0,0],rfl⟩:Vector Int 4)],rfl⟩:Vector (Vector Int 4) 2),⟨0,0⟩⟩,0⟩:Tz) Try.zeroValue129 (fun m w=>⟨_,(Gg Gz (Gg (Gg (Gt (Zw (Gt (Zw Zx (Zw Zx (Zw Zx (Zw Zx Gm)))) rfl) (Zw (Gt (Zw Zx (Zw Zx (Zw Zx (Zw Zx Gm)))) rfl) Gm)) rfl) (Gg Zx Zx)) Zx)),rfl⟩) fun g2 w2 p2 hs b2 cb=>?_)
 have hfr:=hfr.stp hs
 have rp1:=rp1.stp hs
 have q1:=q1.stp hs
 have oD:OSF 2004 60400 0 g2 w2 3 129 ([]:List Int) p2:=cb.osf (by rfl)
 clear cb
 refine Zg (.int .i64 (0)) rfl rfl ?_
 refine Zg (.int .i64 (0)) rfl rfl ?_
 refine Zb (Zd (Zf (Za (Ze .plain rfl (Gr (g:=g2) Try.isAgg108 Try.sizeOf108 rfl q1 fun v3 r3=>?_)))))
 refine Zy (Gj p2 1) (Zc at_129_1 rfl (OB.ptr b2)) rfl ?_
 refine Ze .plain rfl (D_storeFc (g:=g2) part_BoxRun_1 Try.sizeOf108 rfl b2 rfl r3 fun g5 w5 hs b5 rst hos=>?_)
 have oD:=oD.rest hs rst
 clear rst hos
 have hfr:=hfr.stp hs
 have rp1:=rp1.stp hs
 refine Zb (Zd (Zq h (fun (s:Tz) e w=>∃ (g:Gh) ,Fr gI wI g w∧e 4=p2∧OB 2004 g w 129 (s:Tz) p2∧OSF 2004 60400 0 g w 3 129 ((s).thrown) p2) (fun X122 sF zG h=>?_) ?_))
 ·refine Zf (Za (Zn up1 rfl rfl ?_))
  refine Zy (.int .i64 ((x1).length:Int)) (Tw Try.underlying30 rfl rp1) rfl ?_
  refine Zn (.int .i64 (0)) rfl rfl ?_
  refine Zb (Zd (Zr ?_))
  refine E_lp h (fun (s:Tz × Int) e w=>∃ (g:Gh) ,Fr gI wI g w∧e 4=p2∧OB 2004 g w 129 (s.1:Tz) p2∧OSF 2004 60400 0 g w 3 129 ((s.1).thrown) p2∧e 14=up1∧RV g.m w (x1:List Ge) up1∧e 15=.int .i64 (((x1).length:Int))∧e 16=.int .i64 (s.2)) ⟨g5,hfr,rfl,b5,oD,rfl,rp1,rfl,rfl⟩ (fun X123 tF aH=>?_)
  rintro ⟨n8,u3⟩ pJ xJ ⟨yD,hfr,n9,t5,u4_0_124,zB,l5,cC,aB⟩ h
  refine Zf (Za (Gu (.bool ((decide (u3 < ((x1).length:Int))))) aB cC rfl rfl ?_))
  refine Zb (Zd (Zf ?_))
  rcases Zt h with ⟨uC,h⟩ | ⟨uC,h⟩
  ·refine Qq uC rfl ?_
   refine Zu (Zd (Zq h (fun (s:Tz) e w=>∃ (g:Gh) ,Fr gI wI g w∧e 4=p2∧OB 2004 g w 129 (s:Tz) p2∧OSF 2004 60400 0 g w 3 129 ((s).thrown) p2∧e 14=up1∧RV g.m w (x1:List Ge) up1∧e 15=.int .i64 (((x1).length:Int))∧e 16=.int .i64 (u3)) (fun X181 uF cH h=>?_) ?_))
   ·refine Zr ?_
    refine Zf (Za (Zo aB rfl ?_))
    obtain ⟨vF,mE,h⟩:=Gc h
    refine Zy (Qc up1 u3 2) (Zh (α:=Ge) Try.underlying30 Try.sizeOf83 zB l5 aB mE) rfl ?_
    have qH:=Tj l5 mE
    refine Ze .plain rfl (Gr (g:=yD) Try.isAgg83 Try.sizeOf83 rfl qH fun sH zD=>?_)
    refine Ze .plain rfl (Gs (g:=yD) 2008 (⟨0,0⟩:Ge) Try.zeroValue83 (fun m w=>⟨_,(Gg Zx Zx),rfl⟩) fun tH zJ aK hs b185 cb=>?_)
    have hfr:=hfr.stp hs
    have u4_0_124:=u4_0_124.stp hs rfl
    have t5:=t5.stp hs rfl
    have l5:=l5.stp hs
    have zD:=zD.stp hs
    clear cb
    refine Zg (.int .i64 (u3)) rfl rfl ?_
    refine Ze .plain rfl (Gk (g:=tH) (v:=sH) Try.sizeOf83 rfl b185 rfl zD fun aE bK hs b186 cb=>?_)
    clear cb
    have hfr:=hfr.stp hs
    have u4_0_124:=u4_0_124.stp hs rfl
    have t5:=t5.stp hs rfl
    have l5:=l5.stp hs
    refine Zb (Zd (Zf (Za (Zy (Gj p2 1) (Zc at_129_1 n9 (OB.ptr t5)) rfl ?_))))
    refine Ze .plain rfl (Kb (g:=aE) part_BoxRun_1.1 Try.isAgg108 Try.sizeOf108 rfl t5 fun uH xH=>?_)
    refine Ze .plain rfl (Qj (g:=aE) Try.isAgg83 Try.sizeOf83 rfl b186 fun yH zH=>?_)
    obtain ⟨o0,gH,h⟩:=Gc h
    refine Ze .plain rfl (Zp (g:=aE) (vs:=[uH,yH]) en97 (.cons rfl (.cons rfl .nil)) (wk97 xH zH gH) fun aI qJ cK hs hr=>?_)
    have hfr:=hfr.ext hs
    have u4_0_124:=u4_0_124.ext hs
    have t5:=t5.ext hs
    have l5:=l5.ext hs
    obtain ⟨oB,mJ,nJ,rfl,vB,rfl,rfl⟩:=hr
    refine Zn (.tuple #[oB,.int .i64 (o0.2.1),.int .i64 (o0.2.2)]) rfl rfl ?_
    refine Zy oB (Zi rfl rfl) rfl ?_
    refine Zy (.int .i64 (o0.2.1)) (Zi rfl rfl) rfl ?_
    refine Zy (.int .i64 (o0.2.2)) (Zi rfl rfl) rfl ?_
    refine Ze .plain rfl (Gs (g:=aI) 2009 (⟨(⟨List.toArray [(⟨List.toArray [0,0,0,0],rfl⟩:Vector Int 4),(⟨List.toArray [0,0,0,0],rfl⟩:Vector Int 4)],rfl⟩:Vector (Vector Int 4) 2),⟨0,0⟩⟩:Gv) Try.zeroValue108 (fun m w=>⟨_,(Gg (Gt (Zw (Gt (Zw Zx (Zw Zx (Zw Zx (Zw Zx Gm)))) rfl) (Zw (Gt (Zw Zx (Zw Zx (Zw Zx (Zw Zx Gm)))) rfl) Gm)) rfl) (Gg Zx Zx)),rfl⟩) fun bI dK yF hs b192 cb=>?_)
    have hfr:=hfr.stp hs
    have u4_0_124:=u4_0_124.stp hs rfl
    have t5:=t5.stp hs rfl
    have l5:=l5.stp hs
    have vB:=vB.stp hs
    clear cb
    refine Ze .plain rfl (Gk (g:=bI) (v:=oB) Try.sizeOf108 rfl b192 rfl vB fun bE dI hs b193 cb=>?_)
    clear cb
    have hfr:=hfr.stp hs
    have u4_0_124:=u4_0_124.stp hs rfl
    have t5:=t5.stp hs rfl
    have l5:=l5.stp hs
    refine Zg (.int .i64 (o0.2.1)) rfl rfl ?_
    refine Zg (.int .i64 (o0.2.2)) rfl rfl ?_
    refine Zb (Zd (Zq h (fun (s:Tz) e w=>∃ (g:Gh) ,Fr gI wI g w∧e 4=p2∧OB 2004 g w 129 (s:Tz) p2∧OSF 2004 60400 0 g w 3 129 ((s).thrown) p2∧e 9=yF∧OB 2009 g w 108 (o0.1:Gv) yF∧e 10=.int .i64 (o0.2.1)∧e 11=.int .i64 (o0.2.2)∧e 14=up1∧RV g.m w (x1:List Ge) up1∧e 15=.int .i64 (((x1).length:Int))∧e 16=.int .i64 (u3)) (fun X198 xF jH h=>?_) ?_))
    ·refine Zf (Za (Zn (.int .i64 (o0.2.1)) rfl rfl ?_))
     refine Gu (.bool ((o0.2.1 == (0:Int)))) rfl rfl rfl rfl ?_
     refine Zb (Zd ?_)
     rcases Zt h with ⟨vC,h⟩ | ⟨vC,h⟩
     ·refine Qq vC rfl ?_
      refine Zf (Za ?_)
      have aG:RV bE.m dI (⟨[],⟨(⟨List.toArray [(⟨List.toArray [0,0,0,0],rfl⟩:Vector Int 4),(⟨List.toArray [0,0,0,0],rfl⟩:Vector Int 4)],rfl⟩:Vector (Vector Int 4) 2),⟨0,0⟩⟩,0⟩:Tz) (.agg (Wf [[.slice none 0 0],[.int .i64 0,.int .i64 0,.int .i64 0,.int .i64 0,.int .i64 0,.int .i64 0,.int .i64 0,.int .i64 0,.int .i64 0,.int .i64 0],[.int .i64 0]] []).flatten.toArray):=Wz rfl (Qp (Gz) (Qp ((Gg (Gt (Zw (Gt (Zw Zx (Zw Zx (Zw Zx (Zw Zx Gm)))) rfl) (Zw (Gt (Zw Zx (Zw Zx (Zw Zx (Zw Zx Gm)))) rfl) Gm)) rfl) (Gg Zx Zx))) (Kd (Zx))))
      generalize oE:(Value.agg (Wf [[.slice none 0 0],[.int .i64 0,.int .i64 0,.int .i64 0,.int .i64 0,.int .i64 0,.int .i64 0,.int .i64 0,.int .i64 0,.int .i64 0,.int .i64 0],[.int .i64 0]] []).flatten.toArray)=bG at aG
      refine Zy bG (oE ▸ P_build (vs:=[]) [[.slice none 0 0],[.int .i64 0,.int .i64 0,.int .i64 0,.int .i64 0,.int .i64 0,.int .i64 0,.int .i64 0,.int .i64 0,.int .i64 0,.int .i64 0],[.int .i64 0]] lay_129 rfl rfl .nil trivial) rfl ?_
      refine Zn (.int .i64 (u3)) rfl rfl ?_
      refine Ze .plain rfl (Gk (g:=bE) (v:=bG) Try.sizeOf129 n9 t5 rfl aG fun iI jI hs b201 cb=>?_)
      have oJ:OSF 2004 60400 0 iI jI 3 129 ([]:List Int) p2:=cb.osf (by rw [← oE]; rfl)
      clear cb
      have hfr:=hfr.stp hs
      refine Zg (.int .i64 (u3)) rfl rfl ?_
      refine Zg (.int .i64 (9)) rfl rfl ?_
      refine Zb (Zd (Gw (Tc ?_)))
      refine Qu ?_
      refine Tc ?_
      refine Tc ?_
      refine Qu ?_
      refine Tc ?_
      obtain rfl:=sinj h
      obtain ⟨ad202,cv202,hp202,kH,cr202⟩:=Qv Try.isAgg129 Try.sizeOf129 b201
      exact endm_ctt rfl rfl ((show _=p2 from n9).trans hp202) kH (show _=.int .i64 (u3) from rfl) (show _=.int .i64 (9) from rfl) ⟨_,hfr,_,_,_,rfl,cr202,rfl,rfl⟩
     ·refine Qr vC rfl ?_
      exact Zu (Zd (jH (n8) _ _ ⟨bE,hfr,n9,t5,u4_0_124,rfl,b193,rfl,rfl,zB,l5,cC,aB⟩ h))
    ·rintro i6 rJ kI ⟨lI, hfr, mB, l8, u4_0_203, cG, eG, uE, vE, xE, v8, yE, zE⟩ h
     refine L_loadFS (x:=.tmp 33) part_BoxRun_0.1 Try.isAgg22 Try.sizeOf22 l8 u4_0_203 fun gG mI o210 lH=>?_
     obtain ⟨g8,mH,h⟩:=Gc h
     refine Wq (x:=.tmp 9) Try.isAgg108 Try.sizeOf108 eG fun bD cD nH=>?_
     refine Wg (x:=.tmp 39) part_BoxRun_2.1 Try.isAgg3 Try.sizeOf3 l8 fun lK nI oH=>?_
     obtain rfl:=Zj.1 nI
     refine E_drawAS (g:=lI) (w:=kI) (i:=60400) (et:=3) (xs:=((i6).thrown:List Int)) (r:=g8) (u:=gG) mI o210 (n:=10) [(3,(fun v g w=>RV g.m w ([o0.2.1]:List Int) v∧OS 3036 g w 3 ([o0.2.1]:List Int) v∧Gn v)),(4,(fun v g w=>RV g.m w g8 v∧OS 60400 g w 3 g8 v))] [0,1,2,3,4,5,6,7,8,9] rfl Qf (by kernel_rfl) (⟨fun _=>Ti upS_rv (Ti upS_os (upS_eq _)),fun _=>up_as,trivial⟩) ?_
     refine Gb (Gj p2 0) rfl rfl (Zc at_129_0 mB (OB.ptr l8)) ?_
     refine Gy (c:=gG) rfl rfl .plain (fun _ _ h=>⟨h.1.ch,fun b hb ho=>h.1.block b hb (by rw [ho]; decide)⟩) lH rfl ?_
     refine Gb (.int .i64 (o0.2.1)) rfl rfl (Zk uE) ?_
     refine Qa (φ:=fun v g w=>RV g.m w ([o0.2.1]:List Int) v∧OS 3036 g w 3 ([o0.2.1]:List Int) v∧Gn v) rfl rfl .plain (fun g w hd=>Gi (g:=g) 3036 (xs:=([o0.2.1]:List Int)) (vs:=[.int .i64 (o0.2.1)]) Try.underlying22 Try.sizeOf3 Try.zeroValue3 rfl rfl (.cons rfl .nil) (RVs.cons (Zj.2 rfl) RVs.nil) rfl rfl fun g' w' v hs o r hxt hfl=>⟨g',as_ext hxt,r,o,hfl⟩) (fun l9 hv=>?_)
     clear hv
     refine Qa (φ:=fun v g w=>RV g.m w g8 v∧OS 60400 g w 3 g8 v) rfl rfl .plain (fun g w hd=>D_appendS (g:=g) det_int rfl Try.underlying22 info_3 rfl rfl hd.1.2 rfl (word (A:=fun g w=>RV g.m w ([o0.2.1]:List Int) l9∧OS 3036 g w 3 ([o0.2.1]:List Int) l9∧Gn l9) 3 rfl rfl (Tv hd)).1 mH) (fun lB hv=>?_)
     clear hv
     refine Gy (c:=bD) rfl rfl .plain (fun _ _ h=>⟨h.1.ch,fun b hb ho=>h.1.block b hb (by rw [ho]; decide)⟩) nH cG ?_
     refine Gb (Gj p2 11) rfl rfl (Zc at_129_2 mB (OB.ptr l8)) ?_
     refine Gy (c:=.int .i64 ((i6).moves)) rfl rfl .plain (fun _ _ h=>⟨h.1.ch,fun b hb ho=>h.1.block b hb (by rw [ho]; decide)⟩) oH rfl ?_
     refine Gb (.int .i64 (o0.2.2)) rfl rfl (Zk vE) ?_
     refine Gb (.int .i64 ((w64 ((i6).moves + o0.2.2)))) rfl rfl (Td rfl rfl rfl) ?_
     refine L_nil fun iG mK hall=>?_
     have hs:=hall.1.1
     have hfr:=hfr.stp hs
     have l8:=l8.stp hs rfl
     have v8:=v8.stp hs
     have cD:=cD.stp hs
     have nK:=(Gl (A:=fun g w=>RV g.m w ([o0.2.1]:List Int) l9∧OS 3036 g w 3 ([o0.2.1]:List Int) l9∧Gn l9) 3 rfl hall).1
     have o228:=(Gl (A:=fun g w=>RV g.m w ([o0.2.1]:List Int) l9∧OS 3036 g w 3 ([o0.2.1]:List Int) l9∧Gn l9) 3 rfl hall).2.1
     have iE:=(Gl (A:=fun g w=>RV g.m w g8 lB∧OS 60400 g w 3 g8 lB) 4 rfl hall).1
     have o229:=(Gl (A:=fun g w=>RV g.m w g8 lB∧OS 60400 g w 3 g8 lB) 4 rfl hall).2
     clear hs hall
     have jG:RV iG.m _ (⟨g8,o0.1,(w64 ((i6).moves + o0.2.2))⟩:Tz) (.agg (Wf [[.slice none 0 0],[.int .i64 0,.int .i64 0,.int .i64 0,.int .i64 0,.int .i64 0,.int .i64 0,.int .i64 0,.int .i64 0,.int .i64 0,.int .i64 0],[.int .i64 0]] [(0,lB),(1,bD),(2,.int .i64 ((w64 ((i6).moves + o0.2.2))))]).flatten.toArray):=Wz rfl (Qp (RV.cells iE) (Qp (RV.cells cD) (Kd (rfl))))
     generalize rE:(Value.agg (Wf [[.slice none 0 0],[.int .i64 0,.int .i64 0,.int .i64 0,.int .i64 0,.int .i64 0,.int .i64 0,.int .i64 0,.int .i64 0,.int .i64 0,.int .i64 0],[.int .i64 0]] [(0,lB),(1,bD),(2,.int .i64 ((w64 ((i6).moves + o0.2.2))))]).flatten.toArray)=kG at jG
     refine Zy kG (rE ▸ P_build (vs:=[(0,lB),(1,bD),(2,.int .i64 ((w64 ((i6).moves + o0.2.2))))]) [[.slice none 0 0],[.int .i64 0,.int .i64 0,.int .i64 0,.int .i64 0,.int .i64 0,.int .i64 0,.int .i64 0,.int .i64 0,.int .i64 0,.int .i64 0],[.int .i64 0]] lay_129 rfl rfl (.cons rfl (.cons rfl (.cons rfl .nil))) ⟨⟨_,rfl,Qs iE⟩,⟨⟨_,rfl,Qs cD⟩,⟨⟨_,rfl,rfl⟩,trivial⟩⟩⟩) rfl ?_
     refine Ze .plain rfl (Gk (g:=iG) (v:=kG) Try.sizeOf129 mB l8 rfl jG fun lG pI hs b236 cb=>?_)
     obtain ⟨kJ,lJ,lE,_,_⟩:=RV_list iE
     have mG:OSF 2004 60400 0 lG pI 3 129 (g8:List Int) p2:=cb.osfv (by rw [← rE,lE]; rfl) (o229.stp hs rfl)
     clear cb
     have hfr:=hfr.stp hs
     have v8:=v8.stp hs
     exact Zb (Qn (Zd (cH ((⟨g8,o0.1,(w64 ((i6).moves + o0.2.2))⟩:Tz)) _ _ ⟨lG,hfr,mB,b236,mG,xE,v8,yE,zE⟩ h)))
   ·rintro nB sJ oK ⟨qI, hfr, sG, xG, u4_0_237, cF, dF, eF, rF⟩ h
    refine Za (Gu (.int .i64 ((w64 (u3 + (1:Int))))) rF rfl rfl rfl ?_)
    refine Zn (.int .i64 ((w64 (u3 + (1:Int))))) rfl rfl ?_
    exact Zb (Zd (aH (nB,(w64 (u3 + (1:Int)))) _ _ ⟨qI,hfr,sG,xG,u4_0_237,cF,dF,eF,rfl⟩ h))
  ·refine Qr uC rfl ?_
   refine Qm ?_
   refine Tm ?_
   refine Tm ?_
   refine Tu ?_
   exact Zd (zG (n8) _ _ ⟨yD,hfr,n9,t5,u4_0_124⟩ h)
 ·rintro lD vJ pK ⟨yG, hfr, yB, nD, u4_0_238⟩ h
  refine Zf (Za (Ze .plain rfl (Qj (g:=yG) Try.isAgg129 Try.sizeOf129 yB nD fun sI jJ=>?_)))
  refine Ze .plain rfl (Gk (g:=yG) (v:=sI) Try.sizeOf129 yB nD rfl jJ fun qK sK hs b240 cb=>?_)
  clear cb
  have hfr:=hfr.stp hs
  refine Zg (.int .i64 (0)) rfl rfl ?_
  refine Zg (.int .i64 (0)) rfl rfl ?_
  refine Zb (Zd (Gw ?_))
  obtain rfl:=sinj h
  obtain ⟨ad241,cv241,hp241,pH,cr241⟩:=Qv Try.isAgg129 Try.sizeOf129 b240
  exact endm_ctt rfl rfl ((show _=p2 from yB).trans hp241) pH (show _=.int .i64 (0) from rfl) (show _=.int .i64 (0) from rfl) ⟨_,hfr,_,_,_,rfl,cr241,rfl,rfl⟩
def f80 (x0:Tn) (x1:Gv):Option (It (Ge × Te)):=
 some ((fun σ cons s=>f98 ((⟨x0⟩:Ptr Tn)) x1 σ cons s))
theorem en80:Enters Try.prog 80:=enters_of Try.func80 (by kernel_rfl) rfl
theorem wk80 {gI:Gh} {wI:World} {x0:Tn} {x1:Gv} {up0:Value} (rp0:PT gI.m wI x0 up0) {up1:Value} (rp1:RV gI.m wI x1 up1) {r:It (Ge × Te)} (h:f80 x0 x1=some r):Fn Try.prog 80 #[up0,up1] gI wI (fun m w v=>ItV Try.prog (RA2 (α:=Ge) (β:=Te)) (r) v m w):=by
 unfold f80 at h
 refine Tf Try.func80 rfl (Nat.le_of_ble_eq_true rfl) fun g0 hm hfr=>?_
 have hone500200:=PT.one rp0
 have rp0:PT g0.m wI x0 up0:=hm ▸ rp0
 have rp1:RV g0.m wI x1 up1:=hm ▸ rp1
 show E _ 6 none _ _ _ _ _
 refine Zf (Za (Ze .plain rfl (We (g:=g0) (a:=(⟨up0,hone500200⟩:Fv)) rfl (RV_fv.2 rfl) fun g1 w1 p1 hs q1=>?_)))
 have hfr:=hfr.ext hs
 have rp0:=rp0.ext hs
 have rp1:=rp1.ext hs
 refine Ze .plain rfl (We (g:=g1) rfl rp1 fun g2 w2 p2 hs q2=>?_)
 have hfr:=hfr.ext hs
 have rp0:=rp0.ext hs
 have q1:=q1.ext hs
 refine Zg (.nilFunc) rfl rfl ?_
 refine Zb (Zd (Zf (Za (Zy ((.func (.func 98) #[] #[p1,p2])) (P_makeFunc (capf_0_2 (show ev _ _=p1 from rfl) (show ev _ _=p2 from rfl))) rfl ?_))))
 refine Zg ((.func (.func 98) #[] #[p1,p2])) rfl rfl ?_
 refine Zb (Zd (Gw ?_))
 obtain rfl:=sinj h
 exact Wb rfl rfl (show _=(.func (.func 98) #[] #[p1,p2]) from rfl) ⟨_,hfr,(show ItV Try.prog (RA2 (α:=Ge) (β:=Te)) (fun σ cons s=>f98 ((⟨x0⟩:Ptr Tn)) x1 σ cons s) ((.func (.func 98) #[] #[p1,p2])) g2.m w2 from ⟨98,#[],#[p1,p2],rfl,en98,fun g' w' hch σ cons s s' h=>wk98  ((PT.ptrOf q1 rp0).ch hch) (q2.ch hch) h⟩)⟩
def f84 (x0:Gf) (x1:Zv):Option (Bool):=
 Option.bind (α:=Bool) (
  (f87 ((0:Int)) ((9:Int)) (([(x1).Colour]:List Int))).bind fun l8=>
  bif l8 then
   (f87 ((0:Int)) ((1:Int)) (([(x1).Side]:List Int))).bind fun n8=>
   bif n8 then
    (idx (((x0).BoxLoom).Boxes) (x1).Side).bind fun lB=>
    (f87 ((0:Int)) ((w64 (lB - (1:Int)))) (([(x1).Box]:List Int))).bind fun l9=>
    bif l9 then
     (f87 ((0:Int)) ((1000:Int)) (([((x1).Yarn).Low,((x1).Yarn).High]:List Int))).bind fun aB=>
     bif aB then
      some ((decide (((x1).Yarn).Low ≤ ((x1).Yarn).High)))
     else
      some (false)
    else
     some (false)
   else
    some (false)
  else
   some (false)
  ) fun mB=>
 some (mB)
theorem en84:Enters Try.prog 84:=enters_of Try.func84 (by kernel_rfl) rfl
theorem wk84 {gI:Gh} {wI:World} {x0:Gf} {x1:Zv} {up0:Value} (rp0:RV gI.m wI x0 up0) {up1:Value} (rp1:RV gI.m wI x1 up1) {r:Bool} (h:f84 x0 x1=some r):Fn Try.prog 84 #[up0,up1] gI wI (fun _ _ v=>v=.bool (r)):=by
 unfold f84 at h
 refine Tf Try.func84 rfl (Nat.le_of_ble_eq_true rfl) fun g0 hm hfr=>?_
 have rp0:RV g0.m wI x0 up0:=hm ▸ rp0
 have rp1:RV g0.m wI x1 up1:=hm ▸ rp1
 show E _ 48 none _ _ _ _ _
 refine Zf (Za (Ze .plain rfl (We (g:=g0) rfl rp0 fun g1 w1 p1 hs q1=>?_)))
 have hfr:=hfr.ext hs
 have rp1:=rp1.ext hs
 refine Ze .plain rfl (We (g:=g1) rfl rp1 fun g2 w2 p2 hs q2=>?_)
 have hfr:=hfr.ext hs
 have q1:=q1.ext hs
 refine Zg (.bool false) rfl rfl ?_
 refine Zb (Zd ?_)
 obtain ⟨mB,hx,h⟩:=Gc h
 refine Th (fun e w=>∃ (g:Gh) ,Fr gI wI g w∧e 4=.bool (mB)) (fun Q' hQ=>?_) (fun aH cH hR=>?_)
 ·replace h := hx
  clear hx
  have zE:=Zm (part_BoxShuttle_0).1 q2
  refine Zs (x:=.tmp 5) Try.isAgg3 Try.sizeOf3 zE fun gH cF nB=>?_
  obtain rfl:=Zj.1 cF
  obtain ⟨l8,oB,h⟩:=Gc h
  rcases Zt h with ⟨i6,h⟩ | ⟨i6,h⟩
  ·have dF := Zm (Qt).1 q2
   refine Zs (x:=.tmp 10) Try.isAgg3 Try.sizeOf3 dF fun jH eF yB=>?_
   obtain rfl:=Zj.1 eF
   obtain ⟨n8,zB,h⟩:=Gc h
   rcases Zt h with ⟨u3,h⟩ | ⟨u3,h⟩
   ·have uC := Zm (Tq).1 q1
    have rF:=Zm (Ts).1 uC
    refine Zs (x:=.tmp 17) Try.isAgg22 Try.sizeOf22 rF fun vB vC bD=>?_
    have sF:=Zm (Qt).1 q2
    refine Zs (x:=.tmp 19) Try.isAgg3 Try.sizeOf3 sF fun kH tF cD=>?_
    obtain rfl:=Zj.1 tF
    obtain ⟨lB,cC,h⟩:=Gc h
    have uF:=Tj vC cC
    refine Zs (x:=.tmp 21) Try.isAgg3 Try.sizeOf3 uF fun lH vF lD=>?_
    obtain rfl:=Zj.1 vF
    have xF:=Zm (Wl).1 q2
    refine Zs (x:=.tmp 24) Try.isAgg3 Try.sizeOf3 xF fun mH yF nD=>?_
    obtain rfl:=Zj.1 yF
    obtain ⟨l9,oD,h⟩:=Gc h
    rcases Zt h with ⟨g8,h⟩ | ⟨g8,h⟩
    ·have zD := Zm (Wd).1 q2
     have aG:=Zm (part_Span_0).1 zD
     refine Zs (x:=.tmp 31) Try.isAgg3 Try.sizeOf3 aG fun nH bG iE=>?_
     obtain rfl:=Zj.1 bG
     have aE:=Zm (Wd).1 q2
     have cG:=Zm (part_Span_1).1 aE
     refine Zs (x:=.tmp 34) Try.isAgg3 Try.sizeOf3 cG fun oH eG lE=>?_
     obtain rfl:=Zj.1 eG
     obtain ⟨aB,mE,h⟩:=Gc h
     rcases Zt h with ⟨n9,h⟩ | ⟨n9,h⟩
     ·have oE := Zm (Wd).1 q2
      have gG:=Zm (part_Span_0).1 oE
      refine Zs (x:=.tmp 41) Try.isAgg3 Try.sizeOf3 gG fun pH iG xE=>?_
      obtain rfl:=Zj.1 iG
      have rE:=Zm (Wd).1 q2
      have jG:=Zm (part_Span_1).1 rE
      refine Zs (x:=.tmp 44) Try.isAgg3 Try.sizeOf3 jG fun qH kG yE=>?_
      obtain rfl:=Zj.1 kG
      refine Tt (g:=g2) (n:=44) [(2,(fun v g w=>RV g.m w ([(x1).Colour]:List Int) v∧OS 3007 g w 3 ([(x1).Colour]:List Int) v∧Gn v)),(3,(fun v g w=>v=.bool (l8))),(7,(fun v g w=>RV g.m w ([(x1).Side]:List Int) v∧OS 3012 g w 3 ([(x1).Side]:List Int) v∧Gn v)),(8,(fun v g w=>v=.bool (n8))),(21,(fun v g w=>RV g.m w ([(x1).Box]:List Int) v∧OS 3026 g w 3 ([(x1).Box]:List Int) v∧Gn v)),(22,(fun v g w=>v=.bool (l9))),(31,(fun v g w=>RV g.m w ([((x1).Yarn).Low,((x1).Yarn).High]:List Int) v∧OS 3036 g w 3 ([((x1).Yarn).Low,((x1).Yarn).High]:List Int) v∧Gn v)),(32,(fun v g w=>v=.bool (aB)))] [0,1,2,3,4,5,6,7,8,9,10,11,12,13,14,15,16,17,18,19,20,21,22,23,24,25,26,27,28,29,30,31,32,33,34,35,36,37,38,39,40,41,42,43] rfl Qf (by kernel_rfl) (⟨fun _=>Ti Wy (Ti up_os (Tr _)),fun _=>Tr _,fun _=>Ti Wy (Ti up_os (Tr _)),fun _=>Tr _,fun _=>Ti Wy (Ti up_os (Tr _)),fun _=>Tr _,fun _=>Ti Wy (Ti up_os (Tr _)),fun _=>Tr _,trivial⟩) ?_
      refine Gb (Gj p2 0) rfl rfl (Zc at_87_0 rfl (PT.ptr q2)) ?_
      refine Gy (c:=.int .i64 ((x1).Colour)) rfl rfl .plain (fun _ _ h=>h.ch) nB rfl ?_
      refine Qa (φ:=fun v g w=>RV g.m w ([(x1).Colour]:List Int) v∧OS 3007 g w 3 ([(x1).Colour]:List Int) v∧Gn v) rfl rfl .plain (fun g w hd=>Gi (g:=g) 3007 (xs:=([(x1).Colour]:List Int)) (vs:=[.int .i64 ((x1).Colour)]) Try.underlying22 Try.sizeOf3 Try.zeroValue3 rfl rfl (.cons rfl .nil) (RVs.cons (Zj.2 rfl) RVs.nil) rfl rfl fun g' w' v hs o r hxt hfl=>⟨g',hxt,r,o,hfl⟩) (fun o0 hv=>?_)
      clear hv
      refine Qa (φ:=fun v g w=>v=.bool (l8)) rfl rfl .plain (fun g w hd=>Zp (g:=g) (vs:=[.int .i64 (0),.int .i64 (9),o0]) en87 (.cons rfl (.cons rfl (.cons rfl .nil))) (wk87 (word (A:=fun g w=>RV g.m w ([(x1).Colour]:List Int) o0∧OS 3007 g w 3 ([(x1).Colour]:List Int) o0∧Gn o0) 2 rfl rfl (Tv hd)).1 oB) fun g' w' v hs hr=>⟨g',hs,hr⟩) (fun yD hv=>?_)
      obtain ⟨_,_,_,rfl⟩:=hv
      refine Gb (.bool (l8)) rfl rfl (Zk rfl) ?_
      refine L_y (Gj p2 1) rfl rfl rfl rfl i6 (Zc Ww rfl (PT.ptr q2)) ?_
      refine Gy (c:=.int .i64 ((x1).Side)) rfl rfl (.yes2 rfl rfl i6) (fun _ _ h=>h.ch) yB rfl ?_
      refine Qa (φ:=fun v g w=>RV g.m w ([(x1).Side]:List Int) v∧OS 3012 g w 3 ([(x1).Side]:List Int) v∧Gn v) rfl rfl (.yes2 rfl rfl i6) (fun g w hd=>Gi (g:=g) 3012 (xs:=([(x1).Side]:List Int)) (vs:=[.int .i64 ((x1).Side)]) Try.underlying22 Try.sizeOf3 Try.zeroValue3 rfl rfl (.cons rfl .nil) (RVs.cons (Zj.2 rfl) RVs.nil) rfl rfl fun g' w' v hs o r hxt hfl=>⟨g',hxt,r,o,hfl⟩) (fun l5 hv=>?_)
      clear hv
      refine Qa (φ:=fun v g w=>v=.bool (n8)) rfl rfl (.yes2 rfl rfl i6) (fun g w hd=>Zp (g:=g) (vs:=[.int .i64 (0),.int .i64 (1),l5]) en87 (.cons rfl (.cons rfl (.cons rfl .nil))) (wk87 (word (A:=fun g w=>RV g.m w ([(x1).Side]:List Int) l5∧OS 3012 g w 3 ([(x1).Side]:List Int) l5∧Gn l5) 7 rfl rfl (Tv hd)).1 zB) fun g' w' v hs hr=>⟨g',hs,hr⟩) (fun bE hv=>?_)
      obtain ⟨_,_,_,rfl⟩:=hv
      refine Gb (.bool (n8)) rfl rfl (Zl (b:=l8) rfl (Tp i6 rfl)) ?_
      refine Gb (.bool (n8)) rfl rfl (Zk rfl) ?_
      refine L_y (Gj p1 0) rfl rfl rfl rfl u3 (Zc Ka rfl (PT.ptr q1)) ?_
      refine L_y (Gj (Gj p1 0) 0) rfl rfl rfl rfl u3 (Zc Wo rfl (PT.ptr uC)) ?_
      refine Gy (c:=vB) rfl rfl (.yes2 rfl rfl u3) (fun _ _ h=>h.ch) bD rfl ?_
      refine L_y (Gj p2 1) rfl rfl rfl rfl u3 (Zc Ww rfl (PT.ptr q2)) ?_
      refine Gy (c:=.int .i64 ((x1).Side)) rfl rfl (.yes2 rfl rfl u3) (fun _ _ h=>h.ch) cD rfl ?_
      refine L_y (Qc vB (x1).Side 1) rfl rfl rfl rfl u3 (Zh (α:=Int) Try.underlying22 Try.sizeOf3 rfl vC rfl cC) ?_
      refine Gy (c:=.int .i64 (lB)) rfl rfl (.yes2 rfl rfl u3) (fun _ _ h=>h.ch) lD rfl ?_
      refine L_y (.int .i64 ((w64 (lB - (1:Int))))) rfl rfl rfl rfl u3 (Td rfl rfl rfl) ?_
      refine L_y (Gj p2 2) rfl rfl rfl rfl u3 (Zc at_87_2 rfl (PT.ptr q2)) ?_
      refine Gy (c:=.int .i64 ((x1).Box)) rfl rfl (.yes2 rfl rfl u3) (fun _ _ h=>h.ch) nD rfl ?_
      refine Qa (φ:=fun v g w=>RV g.m w ([(x1).Box]:List Int) v∧OS 3026 g w 3 ([(x1).Box]:List Int) v∧Gn v) rfl rfl (.yes2 rfl rfl u3) (fun g w hd=>Gi (g:=g) 3026 (xs:=([(x1).Box]:List Int)) (vs:=[.int .i64 ((x1).Box)]) Try.underlying22 Try.sizeOf3 Try.zeroValue3 rfl rfl (.cons rfl .nil) (RVs.cons (Zj.2 rfl) RVs.nil) rfl rfl fun g' w' v hs o r hxt hfl=>⟨g',hxt,r,o,hfl⟩) (fun t5 hv=>?_)
      clear hv
      refine Qa (φ:=fun v g w=>v=.bool (l9)) rfl rfl (.yes2 rfl rfl u3) (fun g w hd=>Zp (g:=g) (vs:=[.int .i64 (0),.int .i64 ((w64 (lB - (1:Int)))),t5]) en87 (.cons rfl (.cons rfl (.cons rfl .nil))) (wk87 (word (A:=fun g w=>RV g.m w ([(x1).Box]:List Int) t5∧OS 3026 g w 3 ([(x1).Box]:List Int) t5∧Gn t5) 21 rfl rfl (Tv hd)).1 oD) fun g' w' v hs hr=>⟨g',hs,hr⟩) (fun uE hv=>?_)
      obtain ⟨_,_,_,rfl⟩:=hv
      refine Gb (.bool (l9)) rfl rfl (Zl (b:=n8) rfl (Tp u3 rfl)) ?_
      refine Gb (.bool (l9)) rfl rfl (Zk rfl) ?_
      refine L_y (Gj p2 3) rfl rfl rfl rfl g8 (Zc at_87_3 rfl (PT.ptr q2)) ?_
      refine L_y (Gj (Gj p2 3) 0) rfl rfl rfl rfl g8 (Zc at_85_0 rfl (PT.ptr zD)) ?_
      refine Gy (c:=.int .i64 (((x1).Yarn).Low)) rfl rfl (.yes2 rfl rfl g8) (fun _ _ h=>h.ch) iE rfl ?_
      refine L_y (Gj p2 3) rfl rfl rfl rfl g8 (Zc at_87_3 rfl (PT.ptr q2)) ?_
      refine L_y (Gj (Gj p2 3) 1) rfl rfl rfl rfl g8 (Zc at_85_1 rfl (PT.ptr aE)) ?_
      refine Gy (c:=.int .i64 (((x1).Yarn).High)) rfl rfl (.yes2 rfl rfl g8) (fun _ _ h=>h.ch) lE rfl ?_
      refine Qa (φ:=fun v g w=>RV g.m w ([((x1).Yarn).Low,((x1).Yarn).High]:List Int) v∧OS 3036 g w 3 ([((x1).Yarn).Low,((x1).Yarn).High]:List Int) v∧Gn v) rfl rfl (.yes2 rfl rfl g8) (fun g w hd=>Gi (g:=g) 3036 (xs:=([((x1).Yarn).Low,((x1).Yarn).High]:List Int)) (vs:=[.int .i64 (((x1).Yarn).Low),.int .i64 (((x1).Yarn).High)]) Try.underlying22 Try.sizeOf3 Try.zeroValue3 rfl rfl (.cons rfl (.cons rfl .nil)) (RVs.cons (Zj.2 rfl) (RVs.cons (Zj.2 rfl) RVs.nil)) rfl rfl fun g' w' v hs o r hxt hfl=>⟨g',hxt,r,o,hfl⟩) (fun v8 hv=>?_)
      clear hv
      refine Qa (φ:=fun v g w=>v=.bool (aB)) rfl rfl (.yes2 rfl rfl g8) (fun g w hd=>Zp (g:=g) (vs:=[.int .i64 (0),.int .i64 (1000),v8]) en87 (.cons rfl (.cons rfl (.cons rfl .nil))) (wk87 (word (A:=fun g w=>RV g.m w ([((x1).Yarn).Low,((x1).Yarn).High]:List Int) v8∧OS 3036 g w 3 ([((x1).Yarn).Low,((x1).Yarn).High]:List Int) v8∧Gn v8) 31 rfl rfl (Tv hd)).1 mE) fun g' w' v hs hr=>⟨g',hs,hr⟩) (fun lG hv=>?_)
      obtain ⟨_,_,_,rfl⟩:=hv
      refine Gb (.bool (aB)) rfl rfl (Zl (b:=l9) rfl (Tp g8 rfl)) ?_
      refine Gb (.bool (aB)) rfl rfl (Zk rfl) ?_
      refine L_y (Gj p2 3) rfl rfl rfl rfl n9 (Zc at_87_3 rfl (PT.ptr q2)) ?_
      refine L_y (Gj (Gj p2 3) 0) rfl rfl rfl rfl n9 (Zc at_85_0 rfl (PT.ptr oE)) ?_
      refine Gy (c:=.int .i64 (((x1).Yarn).Low)) rfl rfl (.yes2 rfl rfl n9) (fun _ _ h=>h.ch) xE rfl ?_
      refine L_y (Gj p2 3) rfl rfl rfl rfl n9 (Zc at_87_3 rfl (PT.ptr q2)) ?_
      refine L_y (Gj (Gj p2 3) 1) rfl rfl rfl rfl n9 (Zc at_85_1 rfl (PT.ptr rE)) ?_
      refine Gy (c:=.int .i64 (((x1).Yarn).High)) rfl rfl (.yes2 rfl rfl n9) (fun _ _ h=>h.ch) yE rfl ?_
      refine L_y (.bool ((decide (((x1).Yarn).Low ≤ ((x1).Yarn).High)))) rfl rfl rfl rfl n9 (Td rfl rfl rfl) ?_
      refine Gb (.bool ((decide (((x1).Yarn).Low ≤ ((x1).Yarn).High)))) rfl rfl (Zl (b:=aB) rfl (Tp n9 rfl)) ?_
      refine Gb (.bool ((decide (((x1).Yarn).Low ≤ ((x1).Yarn).High)))) rfl rfl (Tg rfl) ?_
      refine L_nil fun mG sH hall=>?_
      have hs:=hall.1
      have hfr:=hfr.ext hs
      have tH:=(Gl (A:=fun g w=>RV g.m w ([(x1).Colour]:List Int) o0∧OS 3007 g w 3 ([(x1).Colour]:List Int) o0∧Gn o0) 2 rfl hall).1
      have o341:=(Gl (A:=fun g w=>RV g.m w ([(x1).Colour]:List Int) o0∧OS 3007 g w 3 ([(x1).Colour]:List Int) o0∧Gn o0) 2 rfl hall).2.1
      have uH:=(Gl (A:=fun g w=>RV g.m w ([(x1).Side]:List Int) l5∧OS 3012 g w 3 ([(x1).Side]:List Int) l5∧Gn l5) 7 rfl hall).1
      have o346:=(Gl (A:=fun g w=>RV g.m w ([(x1).Side]:List Int) l5∧OS 3012 g w 3 ([(x1).Side]:List Int) l5∧Gn l5) 7 rfl hall).2.1
      have xH:=(Gl (A:=fun g w=>RV g.m w ([(x1).Box]:List Int) t5∧OS 3026 g w 3 ([(x1).Box]:List Int) t5∧Gn t5) 21 rfl hall).1
      have o360:=(Gl (A:=fun g w=>RV g.m w ([(x1).Box]:List Int) t5∧OS 3026 g w 3 ([(x1).Box]:List Int) t5∧Gn t5) 21 rfl hall).2.1
      have yH:=(Gl (A:=fun g w=>RV g.m w ([((x1).Yarn).Low,((x1).Yarn).High]:List Int) v8∧OS 3036 g w 3 ([((x1).Yarn).Low,((x1).Yarn).High]:List Int) v8∧Gn v8) 31 rfl hall).1
      have o370:=(Gl (A:=fun g w=>RV g.m w ([((x1).Yarn).Low,((x1).Yarn).High]:List Int) v8∧OS 3036 g w 3 ([((x1).Yarn).Low,((x1).Yarn).High]:List Int) v8∧Gn v8) 31 rfl hall).2.1
      clear hs hall
      refine Zb ?_
      obtain rfl:=sinj h
      exact hQ _ _ ⟨mG,hfr,rfl⟩
     ·refine Tt (g := g2) (n := 44) [(2, (fun v g w => RV g.m w ([(x1).Colour] : List Int) v ∧ OS 3007 g w 3 ([(x1).Colour] : List Int) v ∧ Gn v)), (3, (fun v g w => v = .bool (l8))), (7, (fun v g w => RV g.m w ([(x1).Side] : List Int) v ∧ OS 3012 g w 3 ([(x1).Side] : List Int) v ∧ Gn v)), (8, (fun v g w => v = .bool (n8))), (21, (fun v g w => RV g.m w ([(x1).Box] : List Int) v ∧ OS 3026 g w 3 ([(x1).Box] : List Int) v ∧ Gn v)), (22, (fun v g w => v = .bool (l9))), (31, (fun v g w => RV g.m w ([((x1).Yarn).Low, ((x1).Yarn).High] : List Int) v ∧ OS 3036 g w 3 ([((x1).Yarn).Low, ((x1).Yarn).High] : List Int) v ∧ Gn v)), (32, (fun v g w => v = .bool (aB)))] [0, 1, 2, 3, 4, 5, 6, 7, 8, 9, 10, 11, 12, 13, 14, 15, 16, 17, 18, 19, 20, 21, 22, 23, 24, 25, 26, 27, 28, 29, 30, 31, 32, 33, 34, 35, 36, 37, 38, 39, 40, 41, 42, 43] rfl Qf (by kernel_rfl) (⟨fun _ => Ti Wy (Ti up_os (Tr _)), fun _ => Tr _, fun _ => Ti Wy (Ti up_os (Tr _)), fun _ => Tr _, fun _ => Ti Wy (Ti up_os (Tr _)), fun _ => Tr _, fun _ => Ti Wy (Ti up_os (Tr _)), fun _ => Tr _, trivial⟩) ?_
      refine Gb (Gj p2 0) rfl rfl (Zc at_87_0 rfl (PT.ptr q2)) ?_
      refine Gy (c:=.int .i64 ((x1).Colour)) rfl rfl .plain (fun _ _ h=>h.ch) nB rfl ?_
      refine Qa (φ:=fun v g w=>RV g.m w ([(x1).Colour]:List Int) v∧OS 3007 g w 3 ([(x1).Colour]:List Int) v∧Gn v) rfl rfl .plain (fun g w hd=>Gi (g:=g) 3007 (xs:=([(x1).Colour]:List Int)) (vs:=[.int .i64 ((x1).Colour)]) Try.underlying22 Try.sizeOf3 Try.zeroValue3 rfl rfl (.cons rfl .nil) (RVs.cons (Zj.2 rfl) RVs.nil) rfl rfl fun g' w' v hs o r hxt hfl=>⟨g',hxt,r,o,hfl⟩) (fun o0 hv=>?_)
      clear hv
      refine Qa (φ:=fun v g w=>v=.bool (l8)) rfl rfl .plain (fun g w hd=>Zp (g:=g) (vs:=[.int .i64 (0),.int .i64 (9),o0]) en87 (.cons rfl (.cons rfl (.cons rfl .nil))) (wk87 (word (A:=fun g w=>RV g.m w ([(x1).Colour]:List Int) o0∧OS 3007 g w 3 ([(x1).Colour]:List Int) o0∧Gn o0) 2 rfl rfl (Tv hd)).1 oB) fun g' w' v hs hr=>⟨g',hs,hr⟩) (fun yD hv=>?_)
      obtain ⟨_,_,_,rfl⟩:=hv
      refine Gb (.bool (l8)) rfl rfl (Zk rfl) ?_
      refine L_y (Gj p2 1) rfl rfl rfl rfl i6 (Zc Ww rfl (PT.ptr q2)) ?_
      refine Gy (c:=.int .i64 ((x1).Side)) rfl rfl (.yes2 rfl rfl i6) (fun _ _ h=>h.ch) yB rfl ?_
      refine Qa (φ:=fun v g w=>RV g.m w ([(x1).Side]:List Int) v∧OS 3012 g w 3 ([(x1).Side]:List Int) v∧Gn v) rfl rfl (.yes2 rfl rfl i6) (fun g w hd=>Gi (g:=g) 3012 (xs:=([(x1).Side]:List Int)) (vs:=[.int .i64 ((x1).Side)]) Try.underlying22 Try.sizeOf3 Try.zeroValue3 rfl rfl (.cons rfl .nil) (RVs.cons (Zj.2 rfl) RVs.nil) rfl rfl fun g' w' v hs o r hxt hfl=>⟨g',hxt,r,o,hfl⟩) (fun l5 hv=>?_)
      clear hv
      refine Qa (φ:=fun v g w=>v=.bool (n8)) rfl rfl (.yes2 rfl rfl i6) (fun g w hd=>Zp (g:=g) (vs:=[.int .i64 (0),.int .i64 (1),l5]) en87 (.cons rfl (.cons rfl (.cons rfl .nil))) (wk87 (word (A:=fun g w=>RV g.m w ([(x1).Side]:List Int) l5∧OS 3012 g w 3 ([(x1).Side]:List Int) l5∧Gn l5) 7 rfl rfl (Tv hd)).1 zB) fun g' w' v hs hr=>⟨g',hs,hr⟩) (fun bE hv=>?_)
      obtain ⟨_,_,_,rfl⟩:=hv
      refine Gb (.bool (n8)) rfl rfl (Zl (b:=l8) rfl (Tp i6 rfl)) ?_
      refine Gb (.bool (n8)) rfl rfl (Zk rfl) ?_
      refine L_y (Gj p1 0) rfl rfl rfl rfl u3 (Zc Ka rfl (PT.ptr q1)) ?_
      refine L_y (Gj (Gj p1 0) 0) rfl rfl rfl rfl u3 (Zc Wo rfl (PT.ptr uC)) ?_
      refine Gy (c:=vB) rfl rfl (.yes2 rfl rfl u3) (fun _ _ h=>h.ch) bD rfl ?_
      refine L_y (Gj p2 1) rfl rfl rfl rfl u3 (Zc Ww rfl (PT.ptr q2)) ?_
      refine Gy (c:=.int .i64 ((x1).Side)) rfl rfl (.yes2 rfl rfl u3) (fun _ _ h=>h.ch) cD rfl ?_
      refine L_y (Qc vB (x1).Side 1) rfl rfl rfl rfl u3 (Zh (α:=Int) Try.underlying22 Try.sizeOf3 rfl vC rfl cC) ?_
      refine Gy (c:=.int .i64 (lB)) rfl rfl (.yes2 rfl rfl u3) (fun _ _ h=>h.ch) lD rfl ?_
      refine L_y (.int .i64 ((w64 (lB - (1:Int))))) rfl rfl rfl rfl u3 (Td rfl rfl rfl) ?_
      refine L_y (Gj p2 2) rfl rfl rfl rfl u3 (Zc at_87_2 rfl (PT.ptr q2)) ?_
      refine Gy (c:=.int .i64 ((x1).Box)) rfl rfl (.yes2 rfl rfl u3) (fun _ _ h=>h.ch) nD rfl ?_
      refine Qa (φ:=fun v g w=>RV g.m w ([(x1).Box]:List Int) v∧OS 3026 g w 3 ([(x1).Box]:List Int) v∧Gn v) rfl rfl (.yes2 rfl rfl u3) (fun g w hd=>Gi (g:=g) 3026 (xs:=([(x1).Box]:List Int)) (vs:=[.int .i64 ((x1).Box)]) Try.underlying22 Try.sizeOf3 Try.zeroValue3 rfl rfl (.cons rfl .nil) (RVs.cons (Zj.2 rfl) RVs.nil) rfl rfl fun g' w' v hs o r hxt hfl=>⟨g',hxt,r,o,hfl⟩) (fun t5 hv=>?_)
      clear hv
      refine Qa (φ:=fun v g w=>v=.bool (l9)) rfl rfl (.yes2 rfl rfl u3) (fun g w hd=>Zp (g:=g) (vs:=[.int .i64 (0),.int .i64 ((w64 (lB - (1:Int)))),t5]) en87 (.cons rfl (.cons rfl (.cons rfl .nil))) (wk87 (word (A:=fun g w=>RV g.m w ([(x1).Box]:List Int) t5∧OS 3026 g w 3 ([(x1).Box]:List Int) t5∧Gn t5) 21 rfl rfl (Tv hd)).1 oD) fun g' w' v hs hr=>⟨g',hs,hr⟩) (fun uE hv=>?_)
      obtain ⟨_,_,_,rfl⟩:=hv
      refine Gb (.bool (l9)) rfl rfl (Zl (b:=n8) rfl (Tp u3 rfl)) ?_
      refine Gb (.bool (l9)) rfl rfl (Zk rfl) ?_
      refine L_y (Gj p2 3) rfl rfl rfl rfl g8 (Zc at_87_3 rfl (PT.ptr q2)) ?_
      refine L_y (Gj (Gj p2 3) 0) rfl rfl rfl rfl g8 (Zc at_85_0 rfl (PT.ptr zD)) ?_
      refine Gy (c:=.int .i64 (((x1).Yarn).Low)) rfl rfl (.yes2 rfl rfl g8) (fun _ _ h=>h.ch) iE rfl ?_
      refine L_y (Gj p2 3) rfl rfl rfl rfl g8 (Zc at_87_3 rfl (PT.ptr q2)) ?_
      refine L_y (Gj (Gj p2 3) 1) rfl rfl rfl rfl g8 (Zc at_85_1 rfl (PT.ptr aE)) ?_
      refine Gy (c:=.int .i64 (((x1).Yarn).High)) rfl rfl (.yes2 rfl rfl g8) (fun _ _ h=>h.ch) lE rfl ?_
      refine Qa (φ:=fun v g w=>RV g.m w ([((x1).Yarn).Low,((x1).Yarn).High]:List Int) v∧OS 3036 g w 3 ([((x1).Yarn).Low,((x1).Yarn).High]:List Int) v∧Gn v) rfl rfl (.yes2 rfl rfl g8) (fun g w hd=>Gi (g:=g) 3036 (xs:=([((x1).Yarn).Low,((x1).Yarn).High]:List Int)) (vs:=[.int .i64 (((x1).Yarn).Low),.int .i64 (((x1).Yarn).High)]) Try.underlying22 Try.sizeOf3 Try.zeroValue3 rfl rfl (.cons rfl (.cons rfl .nil)) (RVs.cons (Zj.2 rfl) (RVs.cons (Zj.2 rfl) RVs.nil)) rfl rfl fun g' w' v hs o r hxt hfl=>⟨g',hxt,r,o,hfl⟩) (fun v8 hv=>?_)
      clear hv
      refine Qa (φ:=fun v g w=>v=.bool (aB)) rfl rfl (.yes2 rfl rfl g8) (fun g w hd=>Zp (g:=g) (vs:=[.int .i64 (0),.int .i64 (1000),v8]) en87 (.cons rfl (.cons rfl (.cons rfl .nil))) (wk87 (word (A:=fun g w=>RV g.m w ([((x1).Yarn).Low,((x1).Yarn).High]:List Int) v8∧OS 3036 g w 3 ([((x1).Yarn).Low,((x1).Yarn).High]:List Int) v8∧Gn v8) 31 rfl rfl (Tv hd)).1 mE) fun g' w' v hs hr=>⟨g',hs,hr⟩) (fun lG hv=>?_)
      obtain ⟨_,_,_,rfl⟩:=hv
      refine Gb (.bool (aB)) rfl rfl (Zl (b:=l9) rfl (Tp g8 rfl)) ?_
      refine Gb (.bool (aB)) rfl rfl (Zk rfl) ?_
      iterate 7 refine L_s rfl rfl rfl n9 rfl ?_
      refine Gb (.bool false) rfl rfl (Zl (b:=aB) rfl (Tl n9 rfl)) ?_
      refine Gb (.bool false) rfl rfl (Tg rfl) ?_
      refine L_nil fun sG zH hall=>?_
      have hs:=hall.1
      have hfr:=hfr.ext hs
      have aI:=(Gl (A:=fun g w=>RV g.m w ([(x1).Colour]:List Int) o0∧OS 3007 g w 3 ([(x1).Colour]:List Int) o0∧Gn o0) 2 rfl hall).1
      have o390:=(Gl (A:=fun g w=>RV g.m w ([(x1).Colour]:List Int) o0∧OS 3007 g w 3 ([(x1).Colour]:List Int) o0∧Gn o0) 2 rfl hall).2.1
      have bI:=(Gl (A:=fun g w=>RV g.m w ([(x1).Side]:List Int) l5∧OS 3012 g w 3 ([(x1).Side]:List Int) l5∧Gn l5) 7 rfl hall).1
      have o395:=(Gl (A:=fun g w=>RV g.m w ([(x1).Side]:List Int) l5∧OS 3012 g w 3 ([(x1).Side]:List Int) l5∧Gn l5) 7 rfl hall).2.1
      have dI:=(Gl (A:=fun g w=>RV g.m w ([(x1).Box]:List Int) t5∧OS 3026 g w 3 ([(x1).Box]:List Int) t5∧Gn t5) 21 rfl hall).1
      have o409:=(Gl (A:=fun g w=>RV g.m w ([(x1).Box]:List Int) t5∧OS 3026 g w 3 ([(x1).Box]:List Int) t5∧Gn t5) 21 rfl hall).2.1
      have iI:=(Gl (A:=fun g w=>RV g.m w ([((x1).Yarn).Low,((x1).Yarn).High]:List Int) v8∧OS 3036 g w 3 ([((x1).Yarn).Low,((x1).Yarn).High]:List Int) v8∧Gn v8) 31 rfl hall).1
      have o419:=(Gl (A:=fun g w=>RV g.m w ([((x1).Yarn).Low,((x1).Yarn).High]:List Int) v8∧OS 3036 g w 3 ([((x1).Yarn).Low,((x1).Yarn).High]:List Int) v8∧Gn v8) 31 rfl hall).2.1
      clear hs hall
      refine Zb ?_
      obtain rfl:=sinj h
      exact hQ _ _ ⟨sG,hfr,rfl⟩
    ·refine Tt (g := g2) (n := 44) [(2, (fun v g w => RV g.m w ([(x1).Colour] : List Int) v ∧ OS 3007 g w 3 ([(x1).Colour] : List Int) v ∧ Gn v)), (3, (fun v g w => v = .bool (l8))), (7, (fun v g w => RV g.m w ([(x1).Side] : List Int) v ∧ OS 3012 g w 3 ([(x1).Side] : List Int) v ∧ Gn v)), (8, (fun v g w => v = .bool (n8))), (21, (fun v g w => RV g.m w ([(x1).Box] : List Int) v ∧ OS 3026 g w 3 ([(x1).Box] : List Int) v ∧ Gn v)), (22, (fun v g w => v = .bool (l9)))] [0, 1, 2, 3, 4, 5, 6, 7, 8, 9, 10, 11, 12, 13, 14, 15, 16, 17, 18, 19, 20, 21, 22, 23, 24, 25, 26, 27, 28, 29, 30, 31, 32, 33, 34, 35, 36, 37, 38, 39, 40, 41, 42, 43] rfl Qf (by kernel_rfl) (⟨fun _ => Ti Wy (Ti up_os (Tr _)), fun _ => Tr _, fun _ => Ti Wy (Ti up_os (Tr _)), fun _ => Tr _, fun _ => Ti Wy (Ti up_os (Tr _)), fun _ => Tr _, trivial⟩) ?_
     refine Gb (Gj p2 0) rfl rfl (Zc at_87_0 rfl (PT.ptr q2)) ?_
     refine Gy (c:=.int .i64 ((x1).Colour)) rfl rfl .plain (fun _ _ h=>h.ch) nB rfl ?_
     refine Qa (φ:=fun v g w=>RV g.m w ([(x1).Colour]:List Int) v∧OS 3007 g w 3 ([(x1).Colour]:List Int) v∧Gn v) rfl rfl .plain (fun g w hd=>Gi (g:=g) 3007 (xs:=([(x1).Colour]:List Int)) (vs:=[.int .i64 ((x1).Colour)]) Try.underlying22 Try.sizeOf3 Try.zeroValue3 rfl rfl (.cons rfl .nil) (RVs.cons (Zj.2 rfl) RVs.nil) rfl rfl fun g' w' v hs o r hxt hfl=>⟨g',hxt,r,o,hfl⟩) (fun o0 hv=>?_)
     clear hv
     refine Qa (φ:=fun v g w=>v=.bool (l8)) rfl rfl .plain (fun g w hd=>Zp (g:=g) (vs:=[.int .i64 (0),.int .i64 (9),o0]) en87 (.cons rfl (.cons rfl (.cons rfl .nil))) (wk87 (word (A:=fun g w=>RV g.m w ([(x1).Colour]:List Int) o0∧OS 3007 g w 3 ([(x1).Colour]:List Int) o0∧Gn o0) 2 rfl rfl (Tv hd)).1 oB) fun g' w' v hs hr=>⟨g',hs,hr⟩) (fun yD hv=>?_)
     obtain ⟨_,_,_,rfl⟩:=hv
     refine Gb (.bool (l8)) rfl rfl (Zk rfl) ?_
     refine L_y (Gj p2 1) rfl rfl rfl rfl i6 (Zc Ww rfl (PT.ptr q2)) ?_
     refine Gy (c:=.int .i64 ((x1).Side)) rfl rfl (.yes2 rfl rfl i6) (fun _ _ h=>h.ch) yB rfl ?_
     refine Qa (φ:=fun v g w=>RV g.m w ([(x1).Side]:List Int) v∧OS 3012 g w 3 ([(x1).Side]:List Int) v∧Gn v) rfl rfl (.yes2 rfl rfl i6) (fun g w hd=>Gi (g:=g) 3012 (xs:=([(x1).Side]:List Int)) (vs:=[.int .i64 ((x1).Side)]) Try.underlying22 Try.sizeOf3 Try.zeroValue3 rfl rfl (.cons rfl .nil) (RVs.cons (Zj.2 rfl) RVs.nil) rfl rfl fun g' w' v hs o r hxt hfl=>⟨g',hxt,r,o,hfl⟩) (fun l5 hv=>?_)
     clear hv
     refine Qa (φ:=fun v g w=>v=.bool (n8)) rfl rfl (.yes2 rfl rfl i6) (fun g w hd=>Zp (g:=g) (vs:=[.int .i64 (0),.int .i64 (1),l5]) en87 (.cons rfl (.cons rfl (.cons rfl .nil))) (wk87 (word (A:=fun g w=>RV g.m w ([(x1).Side]:List Int) l5∧OS 3012 g w 3 ([(x1).Side]:List Int) l5∧Gn l5) 7 rfl rfl (Tv hd)).1 zB) fun g' w' v hs hr=>⟨g',hs,hr⟩) (fun bE hv=>?_)
     obtain ⟨_,_,_,rfl⟩:=hv
     refine Gb (.bool (n8)) rfl rfl (Zl (b:=l8) rfl (Tp i6 rfl)) ?_
     refine Gb (.bool (n8)) rfl rfl (Zk rfl) ?_
     refine L_y (Gj p1 0) rfl rfl rfl rfl u3 (Zc Ka rfl (PT.ptr q1)) ?_
     refine L_y (Gj (Gj p1 0) 0) rfl rfl rfl rfl u3 (Zc Wo rfl (PT.ptr uC)) ?_
     refine Gy (c:=vB) rfl rfl (.yes2 rfl rfl u3) (fun _ _ h=>h.ch) bD rfl ?_
     refine L_y (Gj p2 1) rfl rfl rfl rfl u3 (Zc Ww rfl (PT.ptr q2)) ?_
     refine Gy (c:=.int .i64 ((x1).Side)) rfl rfl (.yes2 rfl rfl u3) (fun _ _ h=>h.ch) cD rfl ?_
     refine L_y (Qc vB (x1).Side 1) rfl rfl rfl rfl u3 (Zh (α:=Int) Try.underlying22 Try.sizeOf3 rfl vC rfl cC) ?_
     refine Gy (c:=.int .i64 (lB)) rfl rfl (.yes2 rfl rfl u3) (fun _ _ h=>h.ch) lD rfl ?_
     refine L_y (.int .i64 ((w64 (lB - (1:Int))))) rfl rfl rfl rfl u3 (Td rfl rfl rfl) ?_
     refine L_y (Gj p2 2) rfl rfl rfl rfl u3 (Zc at_87_2 rfl (PT.ptr q2)) ?_
     refine Gy (c:=.int .i64 ((x1).Box)) rfl rfl (.yes2 rfl rfl u3) (fun _ _ h=>h.ch) nD rfl ?_
     refine Qa (φ:=fun v g w=>RV g.m w ([(x1).Box]:List Int) v∧OS 3026 g w 3 ([(x1).Box]:List Int) v∧Gn v) rfl rfl (.yes2 rfl rfl u3) (fun g w hd=>Gi (g:=g) 3026 (xs:=([(x1).Box]:List Int)) (vs:=[.int .i64 ((x1).Box)]) Try.underlying22 Try.sizeOf3 Try.zeroValue3 rfl rfl (.cons rfl .nil) (RVs.cons (Zj.2 rfl) RVs.nil) rfl rfl fun g' w' v hs o r hxt hfl=>⟨g',hxt,r,o,hfl⟩) (fun t5 hv=>?_)
     clear hv
     refine Qa (φ:=fun v g w=>v=.bool (l9)) rfl rfl (.yes2 rfl rfl u3) (fun g w hd=>Zp (g:=g) (vs:=[.int .i64 (0),.int .i64 ((w64 (lB - (1:Int)))),t5]) en87 (.cons rfl (.cons rfl (.cons rfl .nil))) (wk87 (word (A:=fun g w=>RV g.m w ([(x1).Box]:List Int) t5∧OS 3026 g w 3 ([(x1).Box]:List Int) t5∧Gn t5) 21 rfl rfl (Tv hd)).1 oD) fun g' w' v hs hr=>⟨g',hs,hr⟩) (fun uE hv=>?_)
     obtain ⟨_,_,_,rfl⟩:=hv
     refine Gb (.bool (l9)) rfl rfl (Zl (b:=n8) rfl (Tp u3 rfl)) ?_
     refine Gb (.bool (l9)) rfl rfl (Zk rfl) ?_
     iterate 8 refine L_s rfl rfl rfl g8 rfl ?_
     refine Gb (.bool false) rfl rfl (Zl (b:=l9) rfl (Tl g8 rfl)) ?_
     refine L_dead (fun _=>rfl) 9 rfl ?_
     refine Gb (.bool false) rfl rfl (Tg rfl) ?_
     refine L_nil fun xG jI hall=>?_
     have hs:=hall.1
     have hfr:=hfr.ext hs
     have kI:=(Gl (A:=fun g w=>RV g.m w ([(x1).Colour]:List Int) o0∧OS 3007 g w 3 ([(x1).Colour]:List Int) o0∧Gn o0) 2 rfl hall).1
     have o439:=(Gl (A:=fun g w=>RV g.m w ([(x1).Colour]:List Int) o0∧OS 3007 g w 3 ([(x1).Colour]:List Int) o0∧Gn o0) 2 rfl hall).2.1
     have lI:=(Gl (A:=fun g w=>RV g.m w ([(x1).Side]:List Int) l5∧OS 3012 g w 3 ([(x1).Side]:List Int) l5∧Gn l5) 7 rfl hall).1
     have o444:=(Gl (A:=fun g w=>RV g.m w ([(x1).Side]:List Int) l5∧OS 3012 g w 3 ([(x1).Side]:List Int) l5∧Gn l5) 7 rfl hall).2.1
     have mI:=(Gl (A:=fun g w=>RV g.m w ([(x1).Box]:List Int) t5∧OS 3026 g w 3 ([(x1).Box]:List Int) t5∧Gn t5) 21 rfl hall).1
     have o458:=(Gl (A:=fun g w=>RV g.m w ([(x1).Box]:List Int) t5∧OS 3026 g w 3 ([(x1).Box]:List Int) t5∧Gn t5) 21 rfl hall).2.1
     clear hs hall
     refine Zb ?_
     obtain rfl:=sinj h
     exact hQ _ _ ⟨xG,hfr,rfl⟩
   ·refine Tt (g := g2) (n := 44) [(2, (fun v g w => RV g.m w ([(x1).Colour] : List Int) v ∧ OS 3007 g w 3 ([(x1).Colour] : List Int) v ∧ Gn v)), (3, (fun v g w => v = .bool (l8))), (7, (fun v g w => RV g.m w ([(x1).Side] : List Int) v ∧ OS 3012 g w 3 ([(x1).Side] : List Int) v ∧ Gn v)), (8, (fun v g w => v = .bool (n8)))] [0, 1, 2, 3, 4, 5, 6, 7, 8, 9, 10, 11, 12, 13, 14, 15, 16, 17, 18, 19, 20, 21, 22, 23, 24, 25, 26, 27, 28, 29, 30, 31, 32, 33, 34, 35, 36, 37, 38, 39, 40, 41, 42, 43] rfl Qf (by kernel_rfl) (⟨fun _ => Ti Wy (Ti up_os (Tr _)), fun _ => Tr _, fun _ => Ti Wy (Ti up_os (Tr _)), fun _ => Tr _, trivial⟩) ?_
    refine Gb (Gj p2 0) rfl rfl (Zc at_87_0 rfl (PT.ptr q2)) ?_
    refine Gy (c:=.int .i64 ((x1).Colour)) rfl rfl .plain (fun _ _ h=>h.ch) nB rfl ?_
    refine Qa (φ:=fun v g w=>RV g.m w ([(x1).Colour]:List Int) v∧OS 3007 g w 3 ([(x1).Colour]:List Int) v∧Gn v) rfl rfl .plain (fun g w hd=>Gi (g:=g) 3007 (xs:=([(x1).Colour]:List Int)) (vs:=[.int .i64 ((x1).Colour)]) Try.underlying22 Try.sizeOf3 Try.zeroValue3 rfl rfl (.cons rfl .nil) (RVs.cons (Zj.2 rfl) RVs.nil) rfl rfl fun g' w' v hs o r hxt hfl=>⟨g',hxt,r,o,hfl⟩) (fun o0 hv=>?_)
    clear hv
    refine Qa (φ:=fun v g w=>v=.bool (l8)) rfl rfl .plain (fun g w hd=>Zp (g:=g) (vs:=[.int .i64 (0),.int .i64 (9),o0]) en87 (.cons rfl (.cons rfl (.cons rfl .nil))) (wk87 (word (A:=fun g w=>RV g.m w ([(x1).Colour]:List Int) o0∧OS 3007 g w 3 ([(x1).Colour]:List Int) o0∧Gn o0) 2 rfl rfl (Tv hd)).1 oB) fun g' w' v hs hr=>⟨g',hs,hr⟩) (fun yD hv=>?_)
    obtain ⟨_,_,_,rfl⟩:=hv
    refine Gb (.bool (l8)) rfl rfl (Zk rfl) ?_
    refine L_y (Gj p2 1) rfl rfl rfl rfl i6 (Zc Ww rfl (PT.ptr q2)) ?_
    refine Gy (c:=.int .i64 ((x1).Side)) rfl rfl (.yes2 rfl rfl i6) (fun _ _ h=>h.ch) yB rfl ?_
    refine Qa (φ:=fun v g w=>RV g.m w ([(x1).Side]:List Int) v∧OS 3012 g w 3 ([(x1).Side]:List Int) v∧Gn v) rfl rfl (.yes2 rfl rfl i6) (fun g w hd=>Gi (g:=g) 3012 (xs:=([(x1).Side]:List Int)) (vs:=[.int .i64 ((x1).Side)]) Try.underlying22 Try.sizeOf3 Try.zeroValue3 rfl rfl (.cons rfl .nil) (RVs.cons (Zj.2 rfl) RVs.nil) rfl rfl fun g' w' v hs o r hxt hfl=>⟨g',hxt,r,o,hfl⟩) (fun l5 hv=>?_)
    clear hv
    refine Qa (φ:=fun v g w=>v=.bool (n8)) rfl rfl (.yes2 rfl rfl i6) (fun g w hd=>Zp (g:=g) (vs:=[.int .i64 (0),.int .i64 (1),l5]) en87 (.cons rfl (.cons rfl (.cons rfl .nil))) (wk87 (word (A:=fun g w=>RV g.m w ([(x1).Side]:List Int) l5∧OS 3012 g w 3 ([(x1).Side]:List Int) l5∧Gn l5) 7 rfl rfl (Tv hd)).1 zB) fun g' w' v hs hr=>⟨g',hs,hr⟩) (fun bE hv=>?_)
    obtain ⟨_,_,_,rfl⟩:=hv
    refine Gb (.bool (n8)) rfl rfl (Zl (b:=l8) rfl (Tp i6 rfl)) ?_
    refine Gb (.bool (n8)) rfl rfl (Zk rfl) ?_
    iterate 12 refine L_s rfl rfl rfl u3 rfl ?_
    refine Gb (.bool false) rfl rfl (Zl (b:=n8) rfl (Tl u3 rfl)) ?_
    refine L_dead (fun _=>rfl) 19 rfl ?_
    refine Gb (.bool false) rfl rfl (Tg rfl) ?_
    refine L_nil fun yG nI hall=>?_
    have hs:=hall.1
    have hfr:=hfr.ext hs
    have pI:=(Gl (A:=fun g w=>RV g.m w ([(x1).Colour]:List Int) o0∧OS 3007 g w 3 ([(x1).Colour]:List Int) o0∧Gn o0) 2 rfl hall).1
    have o488:=(Gl (A:=fun g w=>RV g.m w ([(x1).Colour]:List Int) o0∧OS 3007 g w 3 ([(x1).Colour]:List Int) o0∧Gn o0) 2 rfl hall).2.1
    have qI:=(Gl (A:=fun g w=>RV g.m w ([(x1).Side]:List Int) l5∧OS 3012 g w 3 ([(x1).Side]:List Int) l5∧Gn l5) 7 rfl hall).1
    have o493:=(Gl (A:=fun g w=>RV g.m w ([(x1).Side]:List Int) l5∧OS 3012 g w 3 ([(x1).Side]:List Int) l5∧Gn l5) 7 rfl hall).2.1
    clear hs hall
    refine Zb ?_
    obtain rfl:=sinj h
    exact hQ _ _ ⟨yG,hfr,rfl⟩
  ·refine Tt (g := g2) (n := 44) [(2, (fun v g w => RV g.m w ([(x1).Colour] : List Int) v ∧ OS 3007 g w 3 ([(x1).Colour] : List Int) v ∧ Gn v)), (3, (fun v g w => v = .bool (l8)))] [0, 1, 2, 3, 4, 5, 6, 7, 8, 9, 10, 11, 12, 13, 14, 15, 16, 17, 18, 19, 20, 21, 22, 23, 24, 25, 26, 27, 28, 29, 30, 31, 32, 33, 34, 35, 36, 37, 38, 39, 40, 41, 42, 43] rfl Qf (by kernel_rfl) (⟨fun _ => Ti Wy (Ti up_os (Tr _)), fun _ => Tr _, trivial⟩) ?_
   refine Gb (Gj p2 0) rfl rfl (Zc at_87_0 rfl (PT.ptr q2)) ?_
   refine Gy (c:=.int .i64 ((x1).Colour)) rfl rfl .plain (fun _ _ h=>h.ch) nB rfl ?_
   refine Qa (φ:=fun v g w=>RV g.m w ([(x1).Colour]:List Int) v∧OS 3007 g w 3 ([(x1).Colour]:List Int) v∧Gn v) rfl rfl .plain (fun g w hd=>Gi (g:=g) 3007 (xs:=([(x1).Colour]:List Int)) (vs:=[.int .i64 ((x1).Colour)]) Try.underlying22 Try.sizeOf3 Try.zeroValue3 rfl rfl (.cons rfl .nil) (RVs.cons (Zj.2 rfl) RVs.nil) rfl rfl fun g' w' v hs o r hxt hfl=>⟨g',hxt,r,o,hfl⟩) (fun o0 hv=>?_)
   clear hv
   refine Qa (φ:=fun v g w=>v=.bool (l8)) rfl rfl .plain (fun g w hd=>Zp (g:=g) (vs:=[.int .i64 (0),.int .i64 (9),o0]) en87 (.cons rfl (.cons rfl (.cons rfl .nil))) (wk87 (word (A:=fun g w=>RV g.m w ([(x1).Colour]:List Int) o0∧OS 3007 g w 3 ([(x1).Colour]:List Int) o0∧Gn o0) 2 rfl rfl (Tv hd)).1 oB) fun g' w' v hs hr=>⟨g',hs,hr⟩) (fun yD hv=>?_)
   obtain ⟨_,_,_,rfl⟩:=hv
   refine Gb (.bool (l8)) rfl rfl (Zk rfl) ?_
   iterate 4 refine L_s rfl rfl rfl i6 rfl ?_
   refine Gb (.bool false) rfl rfl (Zl (b:=l8) rfl (Tl i6 rfl)) ?_
   refine L_dead (fun _=>rfl) 33 rfl ?_
   refine Gb (.bool false) rfl rfl (Tg rfl) ?_
   refine L_nil fun zG sI hall=>?_
   have hs:=hall.1
   have hfr:=hfr.ext hs
   have jJ:=(Gl (A:=fun g w=>RV g.m w ([(x1).Colour]:List Int) o0∧OS 3007 g w 3 ([(x1).Colour]:List Int) o0∧Gn o0) 2 rfl hall).1
   have o537:=(Gl (A:=fun g w=>RV g.m w ([(x1).Colour]:List Int) o0∧OS 3007 g w 3 ([(x1).Colour]:List Int) o0∧Gn o0) 2 rfl hall).2.1
   clear hs hall
   refine Zb ?_
   obtain rfl:=sinj h
   exact hQ _ _ ⟨zG,hfr,rfl⟩
 ·clear hx
  obtain ⟨kJ,hfr,vE⟩:=hR
  refine Gw ?_
  obtain rfl:=sinj h
  exact Wb rfl rfl (show _=.bool (mB) from vE) ⟨_,hfr,rfl⟩
def f85 (x0:Gf):Option (Bool):=
 jn (σ:=Unit) (fun _=>
  some (true)
  ) fun uE=>
 lp (σ:=Int) (fun vE u3=>
  bif (decide (u3 < ((((x0).BoxLoom).Boxes).length : Int))) then
   jn (σ:=Unit) (fun _=>
    vE ((w64 (u3 + (1:Int))))
    ) fun yB=>
   (idx (((x0).BoxLoom).Boxes) u3).bind fun i6=>
   Option.bind (α:=Bool) (
    (f87 ((1:Int)) ((4:Int)) (([i6]:List Int))).bind fun y130=>
    bif (!y130) then
     some (true)
    else
     (idx (((x0).BoxLoom).At) u3).bind fun y135=>
     (f87 ((0:Int)) ((w64 (i6 - (1:Int)))) (([y135]:List Int))).bind fun y140=>
     some ((!y140))
    ) fun g8=>
   bif g8 then
    some (false)
   else
    yB ()
  else
   uE ()
  ) big ((0:Int))
theorem en85:Enters Try.prog 85:=enters_of Try.func85 (by kernel_rfl) rfl
theorem wk85 {gI:Gh} {wI:World} {x0:Gf} {up0:Value} (rp0:RV gI.m wI x0 up0) {r:Bool} (h:f85 x0=some r):Fn Try.prog 85 #[up0] gI wI (fun _ _ v=>v=.bool (r)):=by
 unfold f85 at h
 refine Tf Try.func85 rfl (Nat.le_of_ble_eq_true rfl) fun g0 hm hfr=>?_
 have rp0:RV g0.m wI x0 up0:=hm ▸ rp0
 show E _ 32 none _ _ _ _ _
 refine Zf (Za (Ze .plain rfl (We (g:=g0) rfl rp0 fun g1 w1 p1 hs q1=>?_)))
 have hfr:=hfr.ext hs
 refine Zg (.bool false) rfl rfl ?_
 refine Zb (Zd (Zq h (fun (s:Unit) e w=>∃ (g:Gh) ,Fr gI wI g w) (fun X73 uE zE h=>?_) ?_))
 ·refine Zf (Za (Zy (Gj p1 0) (Zc Ka rfl (PT.ptr q1)) rfl ?_))
  have xE:=Zm (Tq).1 q1
  refine Zy (Gj (Gj p1 0) 0) (Zc Wo rfl (PT.ptr xE)) rfl ?_
  have jG:=Zm (Ts).1 xE
  refine Ze .plain rfl (Gr (g:=g1) Try.isAgg22 Try.sizeOf22 rfl jG fun n8 yE=>?_)
  refine Zy (.int .i64 ((((x0).BoxLoom).Boxes).length:Int)) (Tw Try.underlying22 rfl yE) rfl ?_
  refine Zn (.int .i64 (0)) rfl rfl ?_
  refine Zb (Zd (Zr ?_))
  refine E_lp h (fun (s:Int) e w=>∃ (g:Gh) ,Fr gI wI g w∧e 1=p1∧PT g.m w (x0:Gf) p1∧e 7=n8∧RV g.m w (((x0).BoxLoom).Boxes:List Int) n8∧e 8=.int .i64 (((((x0).BoxLoom).Boxes).length:Int))∧e 9=.int .i64 (s)) ⟨g1,hfr,rfl,q1,rfl,yE,rfl,rfl⟩ (fun X77 vE cF=>?_)
  rintro u3 yG pH ⟨zB,hfr,l9,l5,n9,t5,aB,l8⟩ h
  refine Zf (Za (Zy (.bool ((decide (u3 < ((((x0).BoxLoom).Boxes).length:Int))))) (Td l8 aB rfl) rfl ?_))
  refine Zb (Zd (Zf ?_))
  rcases Zt h with ⟨nB,h⟩ | ⟨nB,h⟩
  ·refine Qq nB rfl ?_
   refine Zu (Zd (Zq h (fun (s:Unit) e w=>∃ (g:Gh) ,Fr gI wI g w∧e 1=p1∧PT g.m w (x0:Gf) p1∧e 7=n8∧RV g.m w (((x0).BoxLoom).Boxes:List Int) n8∧e 8=.int .i64 (((((x0).BoxLoom).Boxes).length:Int))∧e 9=.int .i64 (u3)) (fun X111 yB mE h=>?_) ?_))
   ·refine Zr ?_
    refine Zf (Za (Zo l8 rfl ?_))
    obtain ⟨i6,oB,h⟩:=Gc h
    refine Zy (Qc n8 u3 1) (Zh (α:=Int) Try.underlying22 Try.sizeOf3 n9 t5 l8 oB) rfl ?_
    have dF:=Tj t5 oB
    refine Ze .plain rfl (Gr (g:=zB) Try.isAgg3 Try.sizeOf3 rfl dF fun zG eF=>?_)
    obtain rfl:=Zj.1 eF
    refine Zg (.int .i64 (u3)) rfl rfl ?_
    refine Zg (.int .i64 (i6)) rfl rfl ?_
    refine Zb (Zd ?_)
    obtain ⟨g8,hx,h⟩:=Gc h
    refine Th (fun e w=>∃ (g:Gh) ,Fr gI wI g w∧e 1=p1∧PT g.m w (x0:Gf) p1∧e 7=n8∧RV g.m w (((x0).BoxLoom).Boxes:List Int) n8∧e 8=.int .i64 (((((x0).BoxLoom).Boxes).length:Int))∧e 9=.int .i64 (u3)∧e 30=.bool (g8)) (fun Q' hQ=>?_) (fun kG aH hR=>?_)
    ·replace h := hx
     clear hx
     refine Za (Zn (.int .i64 (i6)) rfl rfl ?_)
     refine Ze .plain rfl (Gi (g:=zB) 3015 (xs:=([i6]:List Int)) (vs:=[.int .i64 (i6)]) Try.underlying22 Try.sizeOf3 Try.zeroValue3 rfl rfl (.cons rfl .nil) (RVs.cons (Zj.2 rfl) RVs.nil) rfl rfl fun rF cH sF hs o128 tF hxt hfl=>?_)
     have hfr:=hfr.stp hs
     have l5:=l5.stp hs
     have t5:=t5.stp hs
     obtain ⟨y130,oE,h⟩:=Gc h
     refine Ze .plain rfl (Zp (g:=rF) (vs:=[.int .i64 (1),.int .i64 (4),sF]) en87 (.cons rfl (.cons rfl (.cons rfl .nil))) (wk87 tF oE) fun lB lG gH hs hr=>?_)
     have hfr:=hfr.ext hs
     have l5:=l5.ext hs
     have t5:=t5.ext hs
     subst hr
     refine Zy (.bool (!y130)) (Wm rfl) rfl ?_
     refine Zn (.bool (!y130)) rfl rfl ?_
     rcases Zt h with ⟨o0,h⟩ | ⟨o0,h⟩
     ·refine Ga rfl rfl o0 rfl rfl ?_
      iterate 10 refine Ga rfl rfl o0 rfl rfl ?_
      refine Zy (.bool true) (Zl (b:=(!y130)) rfl (Tp o0 rfl)) rfl ?_
      refine Zb ?_
      obtain rfl:=sinj h
      exact hQ _ _ ⟨lB,hfr,l9,l5,n9,t5,aB,l8,rfl⟩
     ·refine Zz (.int .i64 (i6)) (Zk rfl) rfl rfl o0 rfl ?_
      refine Zz (.int .i64 ((w64 (i6 - (1:Int))))) (Td rfl rfl rfl) rfl rfl o0 rfl ?_
      refine Zz (Gj p1 0) (Zc Ka l9 (PT.ptr l5)) rfl rfl o0 rfl ?_
      have cC:=Zm (Tq).1 l5
      refine Zz (Gj (Gj p1 0) 1) (Zc at_25_1 rfl (PT.ptr cC)) rfl rfl o0 rfl ?_
      have uF:=Zm (Qo).1 cC
      refine Ze (.yes2 rfl rfl o0) rfl (Gr (g:=lB) Try.isAgg22 Try.sizeOf22 rfl uF fun vF uC=>?_)
      refine Zz (.int .i64 (u3)) (Zk rfl) rfl rfl o0 rfl ?_
      obtain ⟨y135,vB,h⟩:=Gc h
      refine Zz (Qc vF u3 1) (Zh (α:=Int) Try.underlying22 Try.sizeOf3 rfl uC rfl vB) rfl rfl o0 rfl ?_
      have xF:=Tj uC vB
      refine Ze (.yes2 rfl rfl o0) rfl (Gr (g:=lB) Try.isAgg3 Try.sizeOf3 rfl xF fun jH yF=>?_)
      obtain rfl:=Zj.1 yF
      refine Ze (.yes2 rfl rfl o0) rfl (Gi (g:=lB) 3027 (xs:=([y135]:List Int)) (vs:=[.int .i64 (y135)]) Try.underlying22 Try.sizeOf3 Try.zeroValue3 rfl rfl (.cons rfl .nil) (RVs.cons (Zj.2 rfl) RVs.nil) rfl rfl fun aG kH bG hs o138 cG hxt hfl=>?_)
      have hfr:=hfr.stp hs
      have l5:=l5.stp hs
      have t5:=t5.stp hs
      obtain ⟨y140,rE,h⟩:=Gc h
      refine Ze (.yes2 rfl rfl o0) rfl (Zp (g:=aG) (vs:=[.int .i64 (0),.int .i64 ((w64 (i6 - (1:Int)))),bG]) en87 (.cons rfl (.cons rfl (.cons rfl .nil))) (wk87 cG rE) fun eG mG lH hs hr=>?_)
      have hfr:=hfr.ext hs
      have l5:=l5.ext hs
      have t5:=t5.ext hs
      subst hr
      refine Zz (.bool (!y140)) (Wm rfl) rfl rfl o0 rfl ?_
      refine Zy (.bool (!y140)) (Zl (b:=(!y130)) rfl (Tl o0 rfl)) rfl ?_
      refine Zb ?_
      obtain rfl:=sinj h
      exact hQ _ _ ⟨eG,hfr,l9,l5,n9,t5,aB,l8,rfl⟩
    ·clear hx
     obtain ⟨gG,hfr,vC,bD,cD,lD,nD,oD,v8⟩:=hR
     rcases Zt h with ⟨mB,h⟩ | ⟨mB,h⟩
     ·refine To (Eq.trans (show ev _ _ = .bool (g8) from v8) (congrArg Value.bool mB)) ?_
      refine Zf (Za (Zg (.bool false) rfl rfl ?_))
      refine Zb (Zd (Gw (Qu ?_)))
      refine Tc ?_
      refine Tc ?_
      refine Qu ?_
      refine Tc ?_
      obtain rfl:=sinj h
      exact Wb rfl rfl (show _=.bool false from rfl) ⟨_,hfr,rfl⟩
     ·refine Tk (Eq.trans (show ev _ _ = .bool (g8) from v8) (congrArg Value.bool mB)) ?_
      exact Zu (Qn (Zd (mE () _ _ ⟨gG,hfr,vC,bD,cD,lD,nD,oD⟩ h)))
   ·rintro _ sG mH ⟨iG, hfr, yD, zD, aE, bE, iE, lE⟩ h
    refine Za (Gu (.int .i64 ((w64 (u3 + (1:Int))))) lE rfl rfl rfl ?_)
    refine Zn (.int .i64 ((w64 (u3 + (1:Int))))) rfl rfl ?_
    exact Zb (Zd (cF ((w64 (u3 + (1:Int)))) _ _ ⟨iG,hfr,yD,zD,aE,bE,iE,rfl⟩ h))
  ·refine Qr nB rfl ?_
   refine Qm ?_
   refine Tm ?_
   refine Tm ?_
   refine Tu ?_
   exact Zd (zE () _ _ ⟨zB,hfr⟩ h)
 ·rintro _ xG nH ⟨oH, hfr⟩ h
  refine Zf (Za (Zg (.bool true) rfl rfl ?_))
  refine Zb (Zd (Gw ?_))
  obtain rfl:=sinj h
  exact Wb rfl rfl (show _=.bool true from rfl) ⟨_,hfr,rfl⟩
def f22 : Nat → (BoxLoom) → (List Int) → Option ((List Ge) × Int × Int)
 | 0,_,_=>none
 | n + 1,x0,x1=>
  jn (σ:=Unit) (fun _=>
   (f60 x0).bind fun y11=>
   Option.bind (α:=(List Ge) × Int × Int) (
    lp (σ:=(List Ge) × Int × Int × Bool × Int) (fun mK (yB,l8,aB,t5,l5)=>
     jn (σ:=Unit) (fun _=>
      Option.bind (α:=(List Ge) × Int × Int × Bool) (
       (idx y11 l5).bind fun nK=>
       (f61 x0 nK).bind fun o0=>
       jn (σ:=Unit) (fun _=>
        (cut x1 (1:Int) ((x1).length:Int)).bind fun oK=>
        (f22 n ((o0.1:BoxLoom)) oK).bind fun u3=>
        Option.bind (α:=Bool) (
         bif (u3.2.2 == (w64 (((x1).length : Int) - (1 : Int)))) then
          bif (!t5) then
           some (true)
          else
           some ((decide ((w64 (o0.2.2.1 + u3.2.1)) < l8)))
         else
          some (false)
         ) fun cD=>
        bif cD then
         (idx y11 l5).bind fun lI=>
         (apnd 16 (([lI]:List Ge)) ((u3.1:List Ge))).bind fun pK=>
         some (pK,(w64 (o0.2.2.1 + u3.2.1)),(Wj aB (w64 ((1:Int) + u3.2.2))),true)
        else
         some (yB,l8,(Wj aB (w64 ((1:Int) + u3.2.2))),t5)
        ) fun qK=>
       Option.bind (α:=Bool) (
        bif (!o0.2.2.2) then
         some (true)
        else
         (idx ((x0).Shuttles) o0.2.1).bind fun uF=>
         (idx x1 (0:Int)).bind fun vF=>
         some (((uF).Colour != vF))
        ) fun lD=>
       bif lD then
        some (yB,l8,aB,t5)
       else
        qK ()
       ) fun (oE,rE,uE,iE)=>
      mK (oE,rE,uE,iE,(w64 (l5 + (1:Int))))
      ) fun sK=>
     bif (decide (l5 < ((y11).length : Int))) then
      sK ()
     else
      some (yB,l8,aB)
     ) big (([]:List Ge),(0:Int),(0:Int),false,(0:Int))
    ) fun (yF,oD,yD)=>
   some (yF,oD,yD)
   ) fun k4=>
  bif (((x1).length : Int) == (0 : Int)) then
   some (([]:List Ge),(0:Int),(0:Int))
  else
   k4 ()
theorem en22:Enters Try.prog 22:=enters_of Try.func22 (by kernel_rfl) rfl
theorem wk22 (n:Nat):∀ {gI:Gh} {wI:World} {x0:BoxLoom} {x1:List Int} {up0:Value} (rp0:RV gI.m wI x0 up0) {up1:Value} (rp1:RV gI.m wI x1 up1) {r:(List Ge) × Int × Int} (h:f22 n x0 x1=some r),Fn Try.prog 22 #[up0,up1] gI wI (fun m w v=>∃ y0 y1 y2,v=.tuple #[y0,y1,y2]∧RV m w (r.1) y0∧y1=.int .i64 (r.2.1)∧y2=.int .i64 (r.2.2)):=by
 induction n with
 | zero=>intros; rename_i h; cases h
 | succ n ih=>
 intro gI wI x0 x1 up0 rp0 up1 rp1 r h
 simp only [f22] at h
 refine Tf Try.func22 rfl (Nat.le_of_ble_eq_true rfl) fun g0 hm hfr=>?_
 have rp0:RV g0.m wI x0 up0:=hm ▸ rp0
 have rp1:RV g0.m wI x1 up1:=hm ▸ rp1
 show E _ 99 none _ _ _ _ _
 refine Zf (Za (Ze .plain rfl (We (g:=g0) rfl rp0 fun g1 w1 p1 hs q1=>?_)))
 have hfr:=hfr.ext hs
 have rp1:=rp1.ext hs
 refine Zg (.slice none 0 0) rfl rfl ?_
 refine Zg (.int .i64 (0)) rfl rfl ?_
 refine Zg (.int .i64 (0)) rfl rfl ?_
 refine Zb (Zd (Zq h (fun (s:Unit) e w=>∃ (g:Gh) ,Fr gI wI g w∧e 1=up1∧RV g.m w (x1:List Int) up1∧e 2=p1∧PT g.m w (x0:BoxLoom) p1) (fun X4 k4 hk4 h=>?_) ?_))
 ·refine Zf (Za (Zn up1 rfl rfl ?_))
  refine Zy (.int .i64 ((x1).length:Int)) (Tw Try.underlying22 rfl rp1) rfl ?_
  refine Gu (.bool ((((x1).length:Int) == (0:Int)))) rfl rfl rfl rfl ?_
  refine Zb (Zd ?_)
  rcases Zt h with ⟨hc5,h⟩ | ⟨hc5,h⟩
  ·refine Qq hc5 rfl ?_
   refine Zf (Za (Ze .plain rfl (Gi (g:=g1) 3023 (xs:=([]:List Ge)) (vs:=[]) Try.underlying30 Try.sizeOf83 Try.zeroValue83 rfl rfl .nil RVs.nil rfl rfl fun g6 w6 v6 hs o6 r6 hxt hfl=>?_)))
   have hfr:=hfr.stp hs
   refine Zg v6 rfl rfl ?_
   refine Zg (.int .i64 (0)) rfl rfl ?_
   refine Zg (.int .i64 (0)) rfl rfl ?_
   refine Zb (Zd (Gw (Tc ?_)))
   obtain rfl:=sinj h
   exact end3 rfl rfl (show _=v6 from rfl) (show _=.int .i64 (0) from rfl) (show _=.int .i64 (0) from rfl) ⟨_,hfr,_,_,_,rfl,r6,rfl,rfl⟩
  ·refine Qr hc5 rfl ?_
   exact Zu (Zd (hk4 () _ _ ⟨g1,hfr,rfl,rp1,rfl,q1⟩ h))
 ·rintro _ cQ w7 ⟨g7, hfr, oO, gG, tM, aG⟩ h
  refine Zf (Za (Ze .plain rfl (Gi (g:=g7) 3024 (xs:=([]:List Ge)) (vs:=[]) Try.underlying30 Try.sizeOf83 Try.zeroValue83 rfl rfl .nil RVs.nil rfl rfl fun g8 w8 v8 hs o8 r8 hxt hfl=>?_)))
  have hfr:=hfr.stp hs
  have gG:=gG.stp hs
  have aG:=aG.stp hs
  refine Zg v8 rfl rfl ?_
  refine Zg (.int .i64 (0)) rfl rfl ?_
  refine Zg (.int .i64 (0)) rfl rfl ?_
  refine Zg (.bool false) rfl rfl ?_
  refine Zb (Zd (Zf (Za (Ze .plain rfl (Gr (g:=g8) Try.isAgg25 Try.sizeOf25 tM aG fun v9 r9=>?_)))))
  obtain ⟨y11,pO,h⟩:=Gc h
  refine Ze .plain rfl (Zp (g:=g8) (vs:=[v9]) en60 (.cons rfl .nil) (wk60 r9 pO) fun sO bQ uC hs hr=>?_)
  have hfr:=hfr.ext hs
  have gG:=gG.ext hs
  have aG:=aG.ext hs
  have r8:=r8.ext hs
  have tO:=hr
  refine Zg uC rfl rfl ?_
  refine Zb (Zd ?_)
  obtain ⟨⟨yF,oD,yD⟩,hx,h⟩:=Gc h
  refine Th (fun e w=>∃ (g:Gh) (v7:Value),Fr gI wI g w∧e 7=v7∧RV g.m w (yF:List Ge) v7∧e 8=.int .i64 (oD)∧e 9=.int .i64 (yD)) (fun Q' hQ=>?_) (fun uO cP hR=>?_)
  ·replace h := hx
   clear hx
   refine Zf (Za (Zg (.int .i64 (0)) rfl rfl ?_))
   refine Zb (Zd (Zr ?_))
   refine E_lp h (fun (s:(List Ge) × Int × Int × Bool × Int) e w=>∃ (g:Gh) (v7:Value),Fr gI wI g w∧e 1=up1∧RV g.m w (x1:List Int) up1∧e 2=p1∧PT g.m w (x0:BoxLoom) p1∧e 7=v7∧RV g.m w (s.1:List Ge) v7∧e 8=.int .i64 (s.2.1)∧e 9=.int .i64 (s.2.2.1)∧e 10=.bool (s.2.2.2.1)∧e 11=uC∧RV g.m w (y11:List Ge) uC∧e 12=.int .i64 (s.2.2.2.2)) ⟨sO,(v8),hfr,oO,gG,tM,aG,rfl,r8,rfl,rfl,rfl,rfl,tO,rfl⟩ (fun X2542 mK uM=>?_)
   rintro ⟨yB,l8,aB,t5,l5⟩ vO dP ⟨tK,lB,hfr,iL,jL,lL,mL,kH,lH,mH,nH,nJ,iG,jG,kG⟩ h
   refine Zq h (fun (s:Unit) e w=>∃ (g:Gh) ,Fr gI wI g w∧e 1=up1∧RV g.m w (x1:List Int) up1∧e 2=p1∧PT g.m w (x0:BoxLoom) p1∧e 7=lB∧RV g.m w (yB:List Ge) lB∧e 8=.int .i64 (l8)∧e 9=.int .i64 (aB)∧e 10=.bool (t5)∧e 11=uC∧RV g.m w (y11:List Ge) uC∧e 12=.int .i64 (l5)) (fun X2545 sK vM h=>?_) ?_
   ·refine Zf (Za (Zo kG rfl ?_))
    refine Zo iG rfl ?_
    refine Zy (.int .i64 ((y11).length:Int)) (Tw Try.underlying30 rfl jG) rfl ?_
    refine Gu (.bool ((decide (l5 < ((y11).length:Int))))) rfl rfl rfl rfl ?_
    refine Zb (Zd ?_)
    rcases Zt h with ⟨lG,h⟩ | ⟨lG,h⟩
    ·refine Qq lG rfl ?_
     exact Zu (Zd (vM () _ _ ⟨tK,hfr,iL,jL,lL,mL,kH,lH,mH,nH,nJ,iG,jG,kG⟩ h))
    ·refine Qr lG rfl ?_
     refine Qm ?_
     refine Tm ?_
     refine Tm ?_
     refine Tu ?_
     obtain ⟨rfl,rfl,rfl⟩:=pairs3 h
     exact hQ _ _ ⟨tK,(lB),hfr,kH,lH,mH,nH⟩
   ·rintro _ xO mN ⟨uK, hfr, bG, l9, vE, n8, oH, nB, pH, qH, mG, zE, i6, cF⟩ h
    obtain ⟨⟨oE,rE,uE,iE⟩,hx,h⟩:=Gc h
    refine Th (fun e w=>∃ (g:Gh) (v7:Value),Fr gI wI g w∧e 1=up1∧RV g.m w (x1:List Int) up1∧e 2=p1∧PT g.m w (x0:BoxLoom) p1∧e 7=v7∧RV g.m w (oE:List Ge) v7∧e 8=.int .i64 (rE)∧e 9=.int .i64 (uE)∧e 10=.bool (iE)∧e 11=uC∧RV g.m w (y11:List Ge) uC∧e 12=.int .i64 (l5)) (fun Q' hQ=>?_) (fun yO eP hR=>?_)
    ·replace h := hx
     clear hx
     refine Zr ?_
     refine Zf (Zs (x:=.tmp 2) Try.isAgg25 Try.sizeOf25 n8 fun vK nN xM=>?_)
     obtain ⟨nK,sI,h⟩:=Gc h
     have oN:=Tj i6 sI
     refine Zs (x:=.tmp 37) Try.isAgg83 Try.sizeOf83 oN fun xK pN bN=>?_
     obtain ⟨o0,cN,h⟩:=Gc h
     refine E_drawTL (g:=uK) (n:=12) [8,9,10] [(5,(fun v g w=>∃ y0 y1 y2 y3:Value,v=.tuple #[y0,y1,y2,y3]∧RV g.m w (o0.1:BoxLoom) y0∧y1=.int .i64 (o0.2.1)∧y2=.int .i64 (o0.2.2.1)∧y3=.bool (o0.2.2.2))),(11,(fun v g w=>OB 2013 g w 25 (⟨[],[],[]⟩:BoxLoom) v))] [0,1,2,3,4,5,6,7,8,9,10,11] rfl Qf (by kernel_rfl) (⟨fun _=>(up_ex fun _=>(up_ex fun _=>(up_ex fun _=>(up_ex fun _=>(Ti (Tr _) (Ti Wy (Ti (Tr _) (Ti (Tr _) (Tr _))))))))),fun _=>up_ob,trivial⟩) rfl ?_
     refine Gy (c:=vK) rfl rfl .plain (fun _ _ h=>h.ch) xM vE ?_
     refine Gb uC rfl rfl (Zk zE) ?_
     refine Gb (.int .i64 (l5)) rfl rfl (Zk cF) ?_
     refine Gb (Qc uC l5 2) rfl rfl (Zh (α:=Ge) Try.underlying30 Try.sizeOf83 rfl i6 rfl sI) ?_
     refine Gy (c:=xK) rfl rfl .plain (fun _ _ h=>h.ch) bN rfl ?_
     refine Qa (φ:=fun v g w=>∃ y0 y1 y2 y3:Value,v=.tuple #[y0,y1,y2,y3]∧RV g.m w (o0.1:BoxLoom) y0∧y1=.int .i64 (o0.2.1)∧y2=.int .i64 (o0.2.2.1)∧y3=.bool (o0.2.2.2)) rfl rfl .plain (fun g w hd=>Zp (g:=g) (vs:=[vK,xK]) en61 (.cons rfl (.cons rfl .nil)) (wk61 (nN.ext hd.1) (pN.ext hd.1) cN) fun g' w' v hs hr=>⟨g',hs,hr⟩) (fun gP hv=>?_)
     obtain ⟨_,_,_,xE,_,_,_,rfl,qO,rfl,rfl,rfl⟩:=hv
     refine Gb (.tuple #[xE,.int .i64 (o0.2.1),.int .i64 (o0.2.2.1),.bool (o0.2.2.2)]) rfl rfl (Zk rfl) ?_
     refine Gb xE rfl rfl (Zi rfl rfl) ?_
     refine L_purL (c:=.int .i64 (o0.2.1)) rfl rfl .plain (Zi rfl rfl) ?_
     refine L_purL (c:=.int .i64 (o0.2.2.1)) rfl rfl .plain (Zi rfl rfl) ?_
     refine L_purL (c:=.bool (o0.2.2.2)) rfl rfl .plain (Zi rfl rfl) ?_
     refine Qa (φ:=fun v g w=>OB 2013 g w 25 (⟨[],[],[]⟩:BoxLoom) v) rfl rfl .plain (fun g w hd=>D_allocX (g:=g) 2013 (⟨[],[],[]⟩:BoxLoom) Try.zeroValue25 (fun m w=>⟨_,(Gg Gz (Gg Gz Gz)),rfl⟩) fun g' w' v hs b=>⟨g',hs,b⟩) (fun xF hv=>?_)
     clear hv
     refine L_nil fun yK qN hall=>?_
     have hs:=hall.1
     have hlt:Lt uK.m mN yK qN:=hs.ch
     have hfr:=hfr.ext hs
     have l9:=l9.ext hs
     have n8:=n8.ext hs
     have nB:=nB.ext hs
     have i6:=i6.ext hs
     have rN:=(tup4_0 (Gl (A:=fun g w=>∃ y0 y1 y2 y3:Value,Value.tuple #[xE,.int .i64 (o0.2.1),.int .i64 (o0.2.2.1),.bool (o0.2.2.2)]=.tuple #[y0,y1,y2,y3]∧RV g.m w (o0.1:BoxLoom) y0∧y1=.int .i64 (o0.2.1)∧y2=.int .i64 (o0.2.2.1)∧y3=.bool (o0.2.2.2)) 5 rfl hall))
     have b2993:=(Gl (A:=fun g w=>OB 2013 g w 25 (⟨[],[],[]⟩:BoxLoom) xF) 11 rfl hall)
     clear hs hall
     refine TL_do hlt.w .plain rfl (Gk (g:=yK) (v:=xE) Try.sizeOf25 rfl b2993 rfl rN fun zK iP hs b2994 cb=>?_)
     clear cb
     have hfr:=hfr.stp hs
     have hlt:=hlt.stp hs
     have l9:=l9.stp hs
     have n8:=n8.stp hs
     have nB:=nB.stp hs
     have i6:=i6.stp hs
     refine TL_pur hlt.w (v:=.int .i64 (o0.2.1)) (Tg rfl) .plain rfl ?_
     refine TL_pur hlt.w (v:=.int .i64 (o0.2.2.1)) (Tg rfl) .plain rfl ?_
     refine TL_pur hlt.w (v:=.bool (o0.2.2.2)) (Tg rfl) .plain rfl ?_
     refine TL_nil hlt.w ?_
     clear hlt
     refine Zd (Zq h (fun (s:Unit) e w=>∃ (g:Gh) ,Fr gI wI g w∧e 1=up1∧RV g.m w (x1:List Int) up1∧e 2=p1∧PT g.m w (x0:BoxLoom) p1∧e 7=lB∧RV g.m w (yB:List Ge) lB∧e 8=.int .i64 (l8)∧e 9=.int .i64 (aB)∧e 10=.bool (t5)∧e 11=uC∧RV g.m w (y11:List Ge) uC∧e 12=.int .i64 (l5)∧e 13=xF∧OB 2013 g w 25 ((o0.1:BoxLoom):BoxLoom) xF∧e 15=.int .i64 (o0.2.2.1)) (fun X3169 qK dN h=>?_) ?_)
     ·obtain ⟨lD, hx, h⟩ := Gc h
      refine Th (fun e w=>∃ (g:Gh) ,Fr gI wI g w∧e 1=up1∧RV g.m w (x1:List Int) up1∧e 2=p1∧PT g.m w (x0:BoxLoom) p1∧e 7=lB∧RV g.m w (yB:List Ge) lB∧e 8=.int .i64 (l8)∧e 9=.int .i64 (aB)∧e 10=.bool (t5)∧e 11=uC∧RV g.m w (y11:List Ge) uC∧e 12=.int .i64 (l5)∧e 13=xF∧OB 2013 g w 25 ((o0.1:BoxLoom):BoxLoom) xF∧e 15=.int .i64 (o0.2.2.1)∧e 57=.bool (lD)) (fun Q' hQ=>?_) (fun zO jP hR=>?_)
      ·replace h := hx
       clear hx
       rcases Zt h with ⟨n9,h⟩ | ⟨n9,h⟩
       ·refine Tt (g := zK) (n := 14) [] [0, 1, 2, 3, 4, 5, 6, 7, 8, 9, 10, 11, 12, 13] rfl Qf (by kernel_rfl) trivial ?_
        refine Gb (.bool (o0.2.2.2)) rfl rfl (Zk rfl) ?_
        refine Gb (.bool (!o0.2.2.2)) rfl rfl (Wm rfl) ?_
        refine Gb (.bool (!o0.2.2.2)) rfl rfl (Zk rfl) ?_
        iterate 10 refine L_s rfl rfl rfl n9 rfl ?_
        refine Gb (.bool true) rfl rfl (Zl (b:=(!o0.2.2.2)) rfl (Tp n9 rfl)) ?_
        refine L_nl fun sN kP hs=>?_
        have hfr:=hfr.ext hs
        have l9:=l9.ext hs
        have n8:=n8.ext hs
        have nB:=nB.ext hs
        have i6:=i6.ext hs
        have b2994:=b2994.ext hs
        clear hs
        refine Zb ?_
        obtain rfl:=sinj h
        exact hQ _ _ ⟨sN,hfr,bG,l9,vE,n8,oH,nB,pH,qH,mG,zE,i6,cF,rfl,b2994,rfl,rfl⟩
       ·have tN := Zm (Gx).1 n8
        refine Zs (x:=.tmp 47) Try.isAgg23 Try.sizeOf23 tN fun mI aL eN=>?_
        obtain ⟨uF,jJ,h⟩:=Gc h
        have bL:=Tj aL jJ
        have uN:=Zm (part_BoxShuttle_0).1 bL
        refine Zs (x:=.tmp 51) Try.isAgg3 Try.sizeOf3 uN fun lP vN gN=>?_
        obtain rfl:=Zj.1 vN
        obtain ⟨vF,kJ,h⟩:=Gc h
        have xN:=Tj l9 kJ
        refine Zs (x:=.tmp 54) Try.isAgg3 Try.sizeOf3 xN fun mP yN iN=>?_
        obtain rfl:=Zj.1 yN
        refine Tt (g:=zK) (n:=14) [] [0,1,2,3,4,5,6,7,8,9,10,11,12,13] rfl Qf (by kernel_rfl) trivial ?_
        refine Gb (.bool (o0.2.2.2)) rfl rfl (Zk rfl) ?_
        refine Gb (.bool (!o0.2.2.2)) rfl rfl (Wm rfl) ?_
        refine Gb (.bool (!o0.2.2.2)) rfl rfl (Zk rfl) ?_
        refine L_y (Gj p1 2) rfl rfl rfl rfl n9 (Zc Qk vE (PT.ptr n8)) ?_
        refine Gy (c:=mI) rfl rfl (.yes2 rfl rfl n9) (fun _ _ h=>h.ch) eN rfl ?_
        refine L_y (.int .i64 (o0.2.1)) rfl rfl rfl rfl n9 (Zk rfl) ?_
        refine L_y (Qc mI o0.2.1 5) rfl rfl rfl rfl n9 (Zh (α:=Zv) Try.underlying23 Try.sizeOf87 rfl aL rfl jJ) ?_
        refine L_y (Gj (Qc mI o0.2.1 5) 0) rfl rfl rfl rfl n9 (Zc at_87_0 rfl (PT.ptr bL)) ?_
        refine Gy (c:=.int .i64 ((uF).Colour)) rfl rfl (.yes2 rfl rfl n9) (fun _ _ h=>h.ch) gN rfl ?_
        refine L_y up1 rfl rfl rfl rfl n9 (Zk bG) ?_
        refine L_y (Qc up1 (0:Int) 1) rfl rfl rfl rfl n9 (Zh (α:=Int) Try.underlying22 Try.sizeOf3 rfl l9 rfl kJ) ?_
        refine Gy (c:=.int .i64 (vF)) rfl rfl (.yes2 rfl rfl n9) (fun _ _ h=>h.ch) iN rfl ?_
        refine L_y (.bool (((uF).Colour != vF))) rfl rfl rfl rfl n9 (Td rfl rfl rfl) ?_
        refine Gb (.bool (((uF).Colour != vF))) rfl rfl (Zl (b:=(!o0.2.2.2)) rfl (Tl n9 rfl)) ?_
        refine L_nl fun zN nP hs=>?_
        have hfr:=hfr.ext hs
        have l9:=l9.ext hs
        have n8:=n8.ext hs
        have nB:=nB.ext hs
        have i6:=i6.ext hs
        have b2994:=b2994.ext hs
        clear hs
        refine Zb ?_
        obtain rfl:=sinj h
        exact hQ _ _ ⟨zN,hfr,bG,l9,vE,n8,oH,nB,pH,qH,mG,zE,i6,cF,rfl,b2994,rfl,rfl⟩
      ·clear hx
       obtain ⟨dL,hfr,sH,tH,uH,xH,yH,zH,aI,bI,sG,xG,yG,zG,oJ,pJ,qJ,aH⟩:=hR
       rcases Zt h with ⟨cH,h⟩ | ⟨cH,h⟩
       ·refine To (Eq.trans (show ev _ _ = .bool (lD) from aH) (congrArg Value.bool cH)) ?_
        refine Qm ?_
        refine Tm ?_
        refine Tu ?_
        obtain ⟨rfl,rfl,rfl,rfl⟩:=pairs4 h
        exact hQ _ _ ⟨dL,(lB),hfr,sH,tH,uH,xH,yH,zH,aI,bI,sG,xG,yG,zG⟩
       ·refine Tk (Eq.trans (show ev _ _ = .bool (lD) from aH) (congrArg Value.bool cH)) ?_
        exact Zu (Zd (dN () _ _ ⟨dL,hfr,sH,tH,uH,xH,yH,zH,aI,bI,sG,xG,yG,zG,oJ,pJ,qJ⟩ h))
     ·rintro _ aP oP ⟨aO, hfr, zD, zB, cG, aE, eG, bE, yE, nL, lE, dF, nD, eF, rJ, sJ, mE⟩ h
      refine Zf (Wq (x:=.tmp 13) Try.isAgg25 Try.sizeOf25 sJ fun eL bO jN=>?_)
      obtain ⟨oK,lJ,h⟩:=Gc h
      have cO:=RV_cut zB lJ
      obtain ⟨u3,kN,h⟩:=Gc h
      refine Tt (g:=aO) (n:=11) [(3,(fun v g w=>∃ y0 y1 y2:Value,v=.tuple #[y0,y1,y2]∧RV g.m w (u3.1:List Ge) y0∧y1=.int .i64 (u3.2.1)∧y2=.int .i64 (u3.2.2)))] [0,1,2,3,4,5,6,7,8,9,10] rfl Qf (by kernel_rfl) (⟨fun _=>(up_ex fun _=>(up_ex fun _=>(up_ex fun _=>(Ti (Tr _) (Ti Wy (Ti (Tr _) (Tr _))))))),trivial⟩) ?_
      refine Gy (c:=eL) rfl rfl .plain (fun _ _ h=>⟨h.ch,fun b hb _=>h.below.block b hb⟩) jN rJ ?_
      refine Gb up1 rfl rfl (Zk zD) ?_
      refine Gb ((cutV up1 (Int.toNat (1:Int)) (Int.toNat ((x1).length:Int)) 1)) rfl rfl (P_slice Try.underlying22 Try.sizeOf3 rfl zB rfl rfl lJ) ?_
      refine Qa (φ:=fun v g w=>∃ y0 y1 y2:Value,v=.tuple #[y0,y1,y2]∧RV g.m w (u3.1:List Ge) y0∧y1=.int .i64 (u3.2.1)∧y2=.int .i64 (u3.2.2)) rfl rfl .plain (fun g w hd=>Zp (g:=g) (vs:=[eL,(cutV up1 (Int.toNat (1:Int)) (Int.toNat ((x1).length:Int)) 1)]) en22 (.cons rfl (.cons rfl .nil)) (ih (bO.ext hd.1) (cO.ext hd.1) kN) fun g' w' v hs hr=>⟨g',hs,hr⟩) (fun pP hv=>?_)
      obtain ⟨_,_,_,cC,_,_,rfl,rO,rfl,rfl⟩:=hv
      refine Gb (.tuple #[cC,.int .i64 (u3.2.1),.int .i64 (u3.2.2)]) rfl rfl (Zk rfl) ?_
      refine Gb cC rfl rfl (Zi rfl rfl) ?_
      refine Gb (.int .i64 (u3.2.1)) rfl rfl (Zi rfl rfl) ?_
      refine Gb (.int .i64 (u3.2.2)) rfl rfl (Zi rfl rfl) ?_
      refine Gb cC rfl rfl (Tg rfl) ?_
      refine Gb (.int .i64 (u3.2.1)) rfl rfl (Tg rfl) ?_
      refine Gb (.int .i64 (u3.2.2)) rfl rfl (Tg rfl) ?_
      refine L_nil fun nI sP hall=>?_
      have hs:=hall.1
      have hfr:=hfr.ext hs
      have zB:=zB.ext hs
      have aE:=aE.ext hs
      have bE:=bE.ext hs
      have nD:=nD.ext hs
      have tP:=(tup3_0 (Gl (A:=fun g w=>∃ y0 y1 y2:Value,Value.tuple #[cC,.int .i64 (u3.2.1),.int .i64 (u3.2.2)]=.tuple #[y0,y1,y2]∧RV g.m w (u3.1:List Ge) y0∧y1=.int .i64 (u3.2.1)∧y2=.int .i64 (u3.2.2)) 3 rfl hall))
      have pI:=(tup3_0 (Gl (A:=fun g w=>∃ y0 y1 y2:Value,Value.tuple #[cC,.int .i64 (u3.2.1),.int .i64 (u3.2.2)]=.tuple #[y0,y1,y2]∧RV g.m w (u3.1:List Ge) y0∧y1=.int .i64 (u3.2.1)∧y2=.int .i64 (u3.2.2)) 3 rfl hall))
      clear hs hall
      refine Zb (Zd (Zf (Za (Zo nL rfl ?_))))
      refine Zn (.int .i64 (u3.2.2)) rfl rfl ?_
      refine Gu (.int .i64 ((w64 ((1:Int) + u3.2.2)))) rfl rfl rfl rfl ?_
      refine Zy (.int .i64 (Wj aB (w64 ((1:Int) + u3.2.2)))) (P_max rfl rfl) rfl ?_
      refine Zg (.int .i64 (Wj aB (w64 ((1:Int) + u3.2.2)))) rfl rfl ?_
      refine Zb (Zd ?_)
      obtain ⟨cD,hx,h⟩:=Gc h
      refine Th (fun e w=>∃ (g:Gh) ,Fr gI wI g w∧e 1=up1∧RV g.m w (x1:List Int) up1∧e 2=p1∧PT g.m w (x0:BoxLoom) p1∧e 7=lB∧RV g.m w (yB:List Ge) lB∧e 8=.int .i64 (l8)∧e 9=.int .i64 ((Wj aB (w64 ((1:Int) + u3.2.2))))∧e 10=.bool (t5)∧e 11=uC∧RV g.m w (y11:List Ge) uC∧e 12=.int .i64 (l5)∧e 15=.int .i64 (o0.2.2.1)∧e 17=cC∧RV g.m w ((u3.1:List Ge):List Ge) cC∧e 18=.int .i64 (u3.2.1)∧e 85=.bool (cD)) (fun Q' hQ=>?_) (fun bP uP hR=>?_)
      ·replace h := hx
       clear hx
       refine Za (Zn (.int .i64 (u3.2.2)) rfl rfl ?_)
       refine Zo zD rfl ?_
       refine Zy (.int .i64 ((x1).length:Int)) (Tw Try.underlying22 rfl zB) rfl ?_
       refine Gu (.int .i64 ((w64 (((x1).length:Int) - (1:Int))))) rfl rfl rfl rfl ?_
       refine Zy (.bool ((u3.2.2 == (w64 (((x1).length:Int) - (1:Int)))))) (Td rfl rfl rfl) rfl ?_
       refine Zy (.bool ((u3.2.2 == (w64 (((x1).length:Int) - (1:Int)))))) (Zk rfl) rfl ?_
       rcases Zt h with ⟨mB,h⟩ | ⟨mB,h⟩
       ·refine Zz (.bool (t5)) (Zk lE) rfl rfl mB rfl ?_
        refine Zz (.bool (!t5)) (Wm rfl) rfl rfl mB rfl ?_
        refine Zz (.bool (!t5)) (Zk rfl) rfl rfl mB rfl ?_
        rcases Zt h with ⟨vB,h⟩ | ⟨vB,h⟩
        ·refine Ga rfl rfl vB rfl rfl ?_
         iterate 4 refine Ga rfl rfl vB rfl rfl ?_
         refine Zz (.bool true) (Zl (b:=(!t5)) rfl (Tp vB rfl)) rfl rfl mB rfl ?_
         refine Zy (.bool true) (Zl (b:=(u3.2.2 == (w64 (((x1).length:Int) - (1:Int))))) rfl (Tp mB rfl)) rfl ?_
         refine Zb ?_
         obtain rfl:=sinj h
         exact hQ _ _ ⟨nI,hfr,zD,zB,cG,aE,eG,bE,yE,rfl,lE,dF,nD,eF,mE,rfl,pI,rfl,rfl⟩
        ·refine Zz (.int .i64 (o0.2.2.1)) (Zk mE) rfl rfl vB rfl ?_
         refine Zz (.int .i64 (u3.2.1)) (Zk rfl) rfl rfl vB rfl ?_
         refine Zz (.int .i64 ((w64 (o0.2.2.1 + u3.2.1)))) (Td rfl rfl rfl) rfl rfl vB rfl ?_
         refine Zz (.int .i64 (l8)) (Zk yE) rfl rfl vB rfl ?_
         refine Zz (.bool ((decide ((w64 (o0.2.2.1 + u3.2.1)) < l8)))) (Td rfl rfl rfl) rfl rfl vB rfl ?_
         refine Zz (.bool ((decide ((w64 (o0.2.2.1 + u3.2.1)) < l8)))) (Zl (b:=(!t5)) rfl (Tl vB rfl)) rfl rfl mB rfl ?_
         refine Zy (.bool ((decide ((w64 (o0.2.2.1 + u3.2.1)) < l8)))) (Zl (b:=(u3.2.2 == (w64 (((x1).length:Int) - (1:Int))))) rfl (Tp mB rfl)) rfl ?_
         refine Zb ?_
         obtain rfl:=sinj h
         exact hQ _ _ ⟨nI,hfr,zD,zB,cG,aE,eG,bE,yE,rfl,lE,dF,nD,eF,mE,rfl,pI,rfl,rfl⟩
       ·refine Ga rfl rfl mB rfl rfl ?_
        refine Ga rfl rfl mB rfl rfl ?_
        refine Ga rfl rfl mB rfl rfl ?_
        refine EL_dead 5 rfl ?_
        refine Ga rfl rfl mB rfl rfl ?_
        refine Zy (.bool false) (Zl (b:=(u3.2.2 == (w64 (((x1).length:Int) - (1:Int))))) rfl (Tl mB rfl)) rfl ?_
        refine Zb ?_
        obtain rfl:=sinj h
        exact hQ _ _ ⟨nI,hfr,zD,zB,cG,aE,eG,bE,yE,rfl,lE,dF,nD,eF,mE,rfl,pI,rfl,rfl⟩
      ·clear hx
       obtain ⟨qI,hfr,dI,vC,iI,bD,oL,xL,yL,jI,vJ,rF,oB,sF,xJ,zJ,tF,aK,gH⟩:=hR
       rcases Zt h with ⟨jH,h⟩ | ⟨jH,h⟩
       ·refine To (Eq.trans (show ev _ _ = .bool (cD) from gH) (congrArg Value.bool jH)) ?_
        refine Za (Zo rF rfl ?_)
        refine Zo sF rfl ?_
        obtain ⟨lI,mJ,h⟩:=Gc h
        refine Zy (Qc uC l5 2) (Zh (α:=Ge) Try.underlying30 Try.sizeOf83 rfl oB rfl mJ) rfl ?_
        have dO:=Tj oB mJ
        refine Ze .plain rfl (Gr (g:=qI) Try.isAgg83 Try.sizeOf83 rfl dO fun eO gO=>?_)
        refine Ze .plain rfl (Gi (g:=qI) 3090 (xs:=([lI]:List Ge)) (vs:=[eO]) Try.underlying30 Try.sizeOf83 Try.zeroValue83 rfl rfl (.cons rfl .nil) (RVs.cons gO RVs.nil) rfl rfl fun jO vP xP hs o3381 kO hxt hfl=>?_)
        have hfr:=hfr.stp hs
        have vC:=vC.stp hs
        have bD:=bD.stp hs
        have oB:=oB.stp hs
        have tF:=tF.stp hs
        refine Zo zJ rfl ?_
        obtain ⟨pK,lN,h⟩:=Gc h
        refine Ze .plain rfl (Ke (g:=jO) (i:=3090) Try.underlying30 info_83 rfl rfl o3381 kO rfl tF lN fun lO yP gL hs o3382 mO _=>?_)
        have hfr:=hfr.stp hs
        have vC:=vC.stp hs
        have bD:=bD.stp hs
        have oB:=oB.stp hs
        refine Zo xJ rfl ?_
        refine Zo aK rfl ?_
        refine Gu (.int .i64 ((w64 (o0.2.2.1 + u3.2.1)))) rfl rfl rfl rfl ?_
        refine Zg gL rfl rfl ?_
        refine Zg (.int .i64 ((w64 (o0.2.2.1 + u3.2.1)))) rfl rfl ?_
        refine Zg (.bool true) rfl rfl ?_
        refine Zb (Qn ?_)
        obtain ⟨rfl,rfl,rfl,rfl⟩:=pairs4 h
        exact hQ _ _ ⟨lO,(gL),hfr,dI,vC,iI,bD,rfl,mO,rfl,jI,rfl,rF,oB,sF⟩
       ·refine Tk (Eq.trans (show ev _ _ = .bool (cD) from gH) (congrArg Value.bool jH)) ?_
        refine Zu (Qn ?_)
        obtain ⟨rfl,rfl,rfl,rfl⟩:=pairs4 h
        exact hQ _ _ ⟨qI,(lB),hfr,dI,vC,iI,bD,oL,xL,yL,jI,vJ,rF,oB,sF⟩
    ·clear hx
     obtain ⟨nO,zL,hfr,aM,bM,cM,dM,eM,iM,jM,kM,bK,cK,dK,lK⟩:=hR
     refine Za (Zo lK rfl ?_)
     refine Gu (.int .i64 ((w64 (l5 + (1:Int))))) rfl rfl rfl rfl ?_
     refine Zg (.int .i64 ((w64 (l5 + (1:Int))))) rfl rfl ?_
     exact Zb (Zd (uM (oE,rE,uE,iE,(w64 (l5 + (1:Int)))) _ _ ⟨nO,(zL),hfr,aM,bM,cM,dM,eM,iM,jM,kM,bK,cK,dK,rfl⟩ h))
  ·clear hx
   obtain ⟨zP,kI,hfr,pM,qM,rM,sM⟩:=hR
   refine Zf (Za (Zo pM rfl ?_))
   refine Zo rM rfl ?_
   refine Zo sM rfl ?_
   refine Zg kI rfl rfl ?_
   refine Zg (.int .i64 (oD)) rfl rfl ?_
   refine Zg (.int .i64 (yD)) rfl rfl ?_
   refine Zb (Zd (Gw ?_))
   obtain rfl:=sinj h
   exact end3 rfl rfl (show _=kI from rfl) (show _=.int .i64 (oD) from rfl) (show _=.int .i64 (yD) from rfl) ⟨_,hfr,_,_,_,rfl,qM,rfl,rfl⟩
def f27 (x0:BoxLoom) (x1:List (List Int)):Option ((List Int) × Int × Bool):=
 (f68 x1).bind fun y3=>
 Option.bind (α:=(List Int) × Int × Bool) (
  lp (σ:=(List Int) × Int × Bool × Int) (fun jG (zB,l5,g8,u3)=>
   jn (σ:=Unit) (fun _=>
    Option.bind (α:=(List Int) × Int × Bool) (
     (idx y3 u3).bind fun kG=>
     (f22 big x0 kG).bind fun o0=>
     Option.bind (α:=Bool) (
      (idx y3 u3).bind fun yB=>
      bif (o0.2.2 == ((yB).length : Int)) then
       bif (!g8) then
        some (true)
       else
        bif (decide (o0.2.1 < l5)) then
         some (true)
        else
         bif (o0.2.1 == l5) then
          (idx y3 u3).bind fun lG=>
          (f69 lG zB).bind fun iE=>
          some (iE)
         else
          some (false)
      else
       some (false)
      ) fun cC=>
     bif cC then
      (idx y3 u3).bind fun mG=>
      some (mG,o0.2.1,true)
     else
      some (zB,l5,g8)
     ) fun (yD,zD,nD)=>
    jG (yD,zD,nD,(w64 (u3 + (1:Int))))
    ) fun sG=>
   bif (decide (u3 < ((y3).length : Int))) then
    sG ()
   else
    some (zB,l5,g8)
   ) big (([]:List Int),(0:Int),false,(0:Int))
  ) fun (lE,cD,uC)=>
 some (lE,cD,uC)
theorem en27:Enters Try.prog 27:=enters_of Try.func27 (by kernel_rfl) rfl
theorem wk27 {gI:Gh} {wI:World} {x0:BoxLoom} {x1:List (List Int)} {up0:Value} (rp0:RV gI.m wI x0 up0) {up1:Value} (rp1:RV gI.m wI x1 up1) {r:(List Int) × Int × Bool} (h:f27 x0 x1=some r):Fn Try.prog 27 #[up0,up1] gI wI (fun m w v=>∃ y0 y1 y2,v=.tuple #[y0,y1,y2]∧RV m w (r.1) y0∧y1=.int .i64 (r.2.1)∧y2=.bool (r.2.2)):=by
 unfold f27 at h
 refine Tf Try.func27 rfl (Nat.le_of_ble_eq_true rfl) fun g0 hm hfr=>?_
 have rp0:RV g0.m wI x0 up0:=hm ▸ rp0
 have rp1:RV g0.m wI x1 up1:=hm ▸ rp1
 show E _ 71 none _ _ _ _ _
 refine Zf (Za (Ze .plain rfl (We (g:=g0) rfl rp0 fun g1 w1 p1 hs q1=>?_)))
 have hfr:=hfr.ext hs
 have rp1:=rp1.ext hs
 refine Zg (.slice none 0 0) rfl rfl ?_
 refine Zg (.int .i64 (0)) rfl rfl ?_
 refine Zg (.bool false) rfl rfl ?_
 refine Zb (Zd (Zf (Za (Zn up1 rfl rfl ?_))))
 obtain ⟨y3,hy3,h⟩:=Gc h
 refine Ze .plain rfl (Zp (g:=g1) (vs:=[up1]) en68 (.cons rfl .nil) (wk68 rp1 hy3) fun g2 w2_ v2 hs hr=>?_)
 have hfr:=hfr.ext hs
 have q1:=q1.ext hs
 have r2:=hr
 refine Ze .plain rfl (Gi (g:=g2) 3017 (xs:=([]:List Int)) (vs:=[]) Try.underlying22 Try.sizeOf3 Try.zeroValue3 rfl rfl .nil RVs.nil rfl rfl fun g4 w4 v4 hs o4 r4 hxt hfl=>?_)
 have hfr:=hfr.stp hs
 have q1:=q1.stp hs
 have r2:=r2.stp hs
 refine Zg v2 rfl rfl ?_
 refine Zg v4 rfl rfl ?_
 refine Zg (.int .i64 (0)) rfl rfl ?_
 refine Zg (.bool false) rfl rfl ?_
 refine Zb (Zd ?_)
 obtain ⟨⟨lE,cD,uC⟩,hx,h⟩:=Gc h
 refine Th (fun e w=>∃ (g:Gh) (v8:Value),Fr gI wI g w∧e 8=v8∧RV g.m w (lE:List Int) v8∧e 9=.int .i64 (cD)∧e 10=.bool (uC)) (fun Q' hQ=>?_) (fun rJ bK hR=>?_)
 ·replace h := hx
  clear hx
  refine Zf (Za (Zg (.int .i64 (0)) rfl rfl ?_))
  refine Zb (Zd (Zr ?_))
  refine E_lp h (fun (s:(List Int) × Int × Bool × Int) e w=>∃ (g:Gh) (v8:Value),Fr gI wI g w∧e 2=p1∧PT g.m w (x0:BoxLoom) p1∧e 7=v2∧RV g.m w (y3:List (List Int)) v2∧e 8=v8∧RV g.m w (s.1:List Int) v8∧e 9=.int .i64 (s.2.1)∧e 10=.bool (s.2.2.1)∧e 11=.int .i64 (s.2.2.2)) ⟨g4,(v4),hfr,rfl,q1,rfl,r2,rfl,r4,rfl,rfl,rfl⟩ (fun X357 jG aI=>?_)
  rintro ⟨zB,l5,g8,u3⟩ sJ cK ⟨xG,lB,hfr,yG,zG,yE,zE,cF,dF,eF,oE,rE⟩ h
  refine Zq h (fun (s:Unit) e w=>∃ (g:Gh) ,Fr gI wI g w∧e 2=p1∧PT g.m w (x0:BoxLoom) p1∧e 7=v2∧RV g.m w (y3:List (List Int)) v2∧e 8=lB∧RV g.m w (zB:List Int) lB∧e 9=.int .i64 (l5)∧e 10=.bool (g8)∧e 11=.int .i64 (u3)) (fun X360 sG bI h=>?_) ?_
  ·refine Zf (Za (Zo rE rfl ?_))
   refine Zo yE rfl ?_
   refine Zy (.int .i64 ((y3).length:Int)) (Tw Try.underlying42 rfl zE) rfl ?_
   refine Gu (.bool ((decide (u3 < ((y3).length:Int))))) rfl rfl rfl rfl ?_
   refine Zb (Zd ?_)
   rcases Zt h with ⟨vE,h⟩ | ⟨vE,h⟩
   ·refine Qq vE rfl ?_
    exact Zu (Zd (bI () _ _ ⟨xG,hfr,yG,zG,yE,zE,cF,dF,eF,oE,rE⟩ h))
   ·refine Qr vE rfl ?_
    refine Qm ?_
    refine Tm ?_
    refine Tm ?_
    refine Tu ?_
    obtain ⟨rfl,rfl,rfl⟩:=pairs3 h
    exact hQ _ _ ⟨xG,(lB),hfr,cF,dF,eF,oE⟩
  ·rintro _ vJ dK ⟨lI, hfr, vC, n8, mB, i6, bD, l9, vB, oB, n9⟩ h
   obtain ⟨⟨yD,zD,nD⟩,hx,h⟩:=Gc h
   refine Th (fun e w=>∃ (g:Gh) (v8:Value),Fr gI wI g w∧e 2=p1∧PT g.m w (x0:BoxLoom) p1∧e 7=v2∧RV g.m w (y3:List (List Int)) v2∧e 8=v8∧RV g.m w (yD:List Int) v8∧e 9=.int .i64 (zD)∧e 10=.bool (nD)∧e 11=.int .i64 (u3)) (fun Q' hQ=>?_) (fun xJ lK hR=>?_)
   ·replace h := hx
    clear hx
    refine Zr ?_
    refine Zf (Zs (x:=.tmp 2) Try.isAgg25 Try.sizeOf25 n8 fun aH mI dI=>?_)
    obtain ⟨kG,vF,h⟩:=Gc h
    have nI:=Tj i6 vF
    refine Zs (x:=.tmp 28) Try.isAgg22 Try.sizeOf22 nI fun cH pI iI=>?_
    obtain ⟨o0,jI,h⟩:=Gc h
    refine Tt (g:=lI) (n:=13) [(5,(fun v g w=>∃ y0 y1 y2:Value,v=.tuple #[y0,y1,y2]∧RV g.m w (o0.1:List Ge) y0∧y1=.int .i64 (o0.2.1)∧y2=.int .i64 (o0.2.2)))] [0,1,2,3,4,5,6,7,8,9,10,11,12] rfl Qf (by kernel_rfl) (⟨fun _=>(up_ex fun _=>(up_ex fun _=>(up_ex fun _=>(Ti (Tr _) (Ti Wy (Ti (Tr _) (Tr _))))))),trivial⟩) ?_
    refine Gy (c:=aH) rfl rfl .plain (fun _ _ h=>h.ch) dI vC ?_
    refine Gb v2 rfl rfl (Zk mB) ?_
    refine Gb (.int .i64 (u3)) rfl rfl (Zk n9) ?_
    refine Gb (Qc v2 u3 1) rfl rfl (Zh (α:=List Int) Try.underlying42 Try.sizeOf22 rfl i6 rfl vF) ?_
    refine Gy (c:=cH) rfl rfl .plain (fun _ _ h=>h.ch) iI rfl ?_
    refine Qa (φ:=fun v g w=>∃ y0 y1 y2:Value,v=.tuple #[y0,y1,y2]∧RV g.m w (o0.1:List Ge) y0∧y1=.int .i64 (o0.2.1)∧y2=.int .i64 (o0.2.2)) rfl rfl .plain (fun g w hd=>Zp (g:=g) (vs:=[aH,cH]) en22 (.cons rfl (.cons rfl .nil)) (wk22 big (mI.ext hd.1) (pI.ext hd.1) jI) fun g' w' v hs hr=>⟨g',hs,hr⟩) (fun mK hv=>?_)
    obtain ⟨_,_,_,lD,_,_,rfl,qJ,rfl,rfl⟩:=hv
    refine Gb (.tuple #[lD,.int .i64 (o0.2.1),.int .i64 (o0.2.2)]) rfl rfl (Zk rfl) ?_
    refine Gb lD rfl rfl (Zi rfl rfl) ?_
    refine Gb (.int .i64 (o0.2.1)) rfl rfl (Zi rfl rfl) ?_
    refine Gb (.int .i64 (o0.2.2)) rfl rfl (Zi rfl rfl) ?_
    refine Gb lD rfl rfl (Tg rfl) ?_
    refine Gb (.int .i64 (o0.2.1)) rfl rfl (Tg rfl) ?_
    refine Gb (.int .i64 (o0.2.2)) rfl rfl (Tg rfl) ?_
    refine L_nil fun oD nK hall=>?_
    have hs:=hall.1
    have hfr:=hfr.ext hs
    have n8:=n8.ext hs
    have i6:=i6.ext hs
    have l9:=l9.ext hs
    have oK:=(tup3_0 (Gl (A:=fun g w=>∃ y0 y1 y2:Value,Value.tuple #[lD,.int .i64 (o0.2.1),.int .i64 (o0.2.2)]=.tuple #[y0,y1,y2]∧RV g.m w (o0.1:List Ge) y0∧y1=.int .i64 (o0.2.1)∧y2=.int .i64 (o0.2.2)) 5 rfl hall))
    have pK:=(tup3_0 (Gl (A:=fun g w=>∃ y0 y1 y2:Value,Value.tuple #[lD,.int .i64 (o0.2.1),.int .i64 (o0.2.2)]=.tuple #[y0,y1,y2]∧RV g.m w (o0.1:List Ge) y0∧y1=.int .i64 (o0.2.1)∧y2=.int .i64 (o0.2.2)) 5 rfl hall))
    clear hs hall
    refine Zb (Zd ?_)
    obtain ⟨cC,hx,h⟩:=Gc h
    refine Th (fun e w=>∃ (g:Gh) ,Fr gI wI g w∧e 2=p1∧PT g.m w (x0:BoxLoom) p1∧e 7=v2∧RV g.m w (y3:List (List Int)) v2∧e 8=lB∧RV g.m w (zB:List Int) lB∧e 9=.int .i64 (l5)∧e 10=.bool (g8)∧e 11=.int .i64 (u3)∧e 13=.int .i64 (o0.2.1)∧e 62=.bool (cC)) (fun Q' hQ=>?_) (fun zJ qK hR=>?_)
    ·replace h := hx
     clear hx
     refine Za (Zn (.int .i64 (o0.2.2)) rfl rfl ?_)
     refine Zo mB rfl ?_
     refine Zo n9 rfl ?_
     obtain ⟨yB,xF,h⟩:=Gc h
     refine Zy (Qc v2 u3 1) (Zh (α:=List Int) Try.underlying42 Try.sizeOf22 rfl i6 rfl xF) rfl ?_
     have qI:=Tj i6 xF
     refine Ze .plain rfl (Gr (g:=oD) Try.isAgg22 Try.sizeOf22 rfl qI fun sK sI=>?_)
     refine Zy (.int .i64 ((yB).length:Int)) (Tw Try.underlying22 rfl sI) rfl ?_
     refine Gu (.bool ((o0.2.2 == ((yB).length:Int)))) rfl rfl rfl rfl ?_
     refine Zn (.bool ((o0.2.2 == ((yB).length:Int)))) rfl rfl ?_
     rcases Zt h with ⟨t5,h⟩ | ⟨t5,h⟩
     ·refine Zz (.bool (g8)) (Zk oB) rfl rfl t5 rfl ?_
      refine Zz (.bool (!g8)) (Wm rfl) rfl rfl t5 rfl ?_
      refine Zz (.bool (!g8)) (Zk rfl) rfl rfl t5 rfl ?_
      rcases Zt h with ⟨nB,h⟩ | ⟨nB,h⟩
      ·refine Ga rfl rfl nB rfl rfl ?_
       refine Ga rfl rfl nB rfl rfl ?_
       refine Ga rfl rfl nB rfl rfl ?_
       refine Zz (.bool true) (Zl (b:=(!g8)) rfl (Tp nB rfl)) rfl rfl t5 rfl ?_
       refine Zz (.bool true) (Zk rfl) rfl rfl t5 rfl ?_
       refine EL_dead 11 rfl ?_
       refine Zz (.bool true) (Zl (b:=true) rfl (Tp rfl rfl)) rfl rfl t5 rfl ?_
       refine Zy (.bool true) (Zl (b:=(o0.2.2 == ((yB).length:Int))) rfl (Tp t5 rfl)) rfl ?_
       refine Zb ?_
       obtain rfl:=sinj h
       exact hQ _ _ ⟨oD,hfr,vC,n8,mB,i6,bD,l9,vB,oB,n9,rfl,rfl⟩
      ·refine Zz (.int .i64 (o0.2.1)) (Zk rfl) rfl rfl nB rfl ?_
       refine Zz (.int .i64 (l5)) (Zk vB) rfl rfl nB rfl ?_
       refine Zz (.bool ((decide (o0.2.1 < l5)))) (Td rfl rfl rfl) rfl rfl nB rfl ?_
       refine Zz (.bool ((decide (o0.2.1 < l5)))) (Zl (b:=(!g8)) rfl (Tl nB rfl)) rfl rfl t5 rfl ?_
       refine Zz (.bool ((decide (o0.2.1 < l5)))) (Zk rfl) rfl rfl t5 rfl ?_
       rcases Zt h with ⟨l8,h⟩ | ⟨l8,h⟩
       ·refine Ga rfl rfl l8 rfl rfl ?_
        iterate 3 refine Ga rfl rfl l8 rfl rfl ?_
        refine EL_dead 6 rfl ?_
        refine Ga rfl rfl l8 rfl rfl ?_
        refine Zz (.bool true) (Zl (b:=(decide (o0.2.1 < l5))) rfl (Tp l8 rfl)) rfl rfl t5 rfl ?_
        refine Zy (.bool true) (Zl (b:=(o0.2.2 == ((yB).length:Int))) rfl (Tp t5 rfl)) rfl ?_
        refine Zb ?_
        obtain rfl:=sinj h
        exact hQ _ _ ⟨oD,hfr,vC,n8,mB,i6,bD,l9,vB,oB,n9,rfl,rfl⟩
       ·refine Zz (.int .i64 (o0.2.1)) (Zk rfl) rfl rfl l8 rfl ?_
        refine Zz (.int .i64 (l5)) (Zk vB) rfl rfl l8 rfl ?_
        refine Zz (.bool ((o0.2.1 == l5))) (Td rfl rfl rfl) rfl rfl l8 rfl ?_
        refine Zz (.bool ((o0.2.1 == l5))) (Zk rfl) rfl rfl l8 rfl ?_
        rcases Zt h with ⟨aB,h⟩ | ⟨aB,h⟩
        ·refine Zz v2 (Zk mB) rfl rfl aB rfl ?_
         refine Zz (.int .i64 (u3)) (Zk n9) rfl rfl aB rfl ?_
         obtain ⟨lG,yF,h⟩:=Gc h
         refine Zz (Qc v2 u3 1) (Zh (α:=List Int) Try.underlying42 Try.sizeOf22 rfl i6 rfl yF) rfl rfl aB rfl ?_
         have jJ:=Tj i6 yF
         refine Ze (.yes2 rfl rfl aB) rfl (Gr (g:=oD) Try.isAgg22 Try.sizeOf22 rfl jJ fun kJ lJ=>?_)
         refine Zz lB (Zk bD) rfl rfl aB rfl ?_
         obtain ⟨iE,kI,h⟩:=Gc h
         refine Ze (.yes2 rfl rfl aB) rfl (Zp (g:=oD) (vs:=[kJ,lB]) en69 (.cons rfl (.cons rfl .nil)) (wk69 lJ l9 kI) fun mJ aK tK hs hr=>?_)
         have hfr:=hfr.ext hs
         have n8:=n8.ext hs
         have i6:=i6.ext hs
         have l9:=l9.ext hs
         subst hr
         refine Zz (.bool (iE)) (Zl (b:=(o0.2.1 == l5)) rfl (Tp aB rfl)) rfl rfl l8 rfl ?_
         refine Zz (.bool (iE)) (Zl (b:=(decide (o0.2.1 < l5))) rfl (Tl l8 rfl)) rfl rfl t5 rfl ?_
         refine Zy (.bool (iE)) (Zl (b:=(o0.2.2 == ((yB).length:Int))) rfl (Tp t5 rfl)) rfl ?_
         refine Zb ?_
         obtain rfl:=sinj h
         exact hQ _ _ ⟨mJ,hfr,vC,n8,mB,i6,bD,l9,vB,oB,n9,rfl,rfl⟩
        ·refine Ga rfl rfl aB rfl rfl ?_
         iterate 5 refine Ga rfl rfl aB rfl rfl ?_
         refine Zz (.bool false) (Zl (b:=(o0.2.1 == l5)) rfl (Tl aB rfl)) rfl rfl l8 rfl ?_
         refine Zz (.bool false) (Zl (b:=(decide (o0.2.1 < l5))) rfl (Tl l8 rfl)) rfl rfl t5 rfl ?_
         refine Zy (.bool false) (Zl (b:=(o0.2.2 == ((yB).length:Int))) rfl (Tp t5 rfl)) rfl ?_
         refine Zb ?_
         obtain rfl:=sinj h
         exact hQ _ _ ⟨oD,hfr,vC,n8,mB,i6,bD,l9,vB,oB,n9,rfl,rfl⟩
     ·refine Ga rfl rfl t5 rfl rfl ?_
      refine Ga rfl rfl t5 rfl rfl ?_
      refine Ga rfl rfl t5 rfl rfl ?_
      refine EL_dead 3 rfl ?_
      refine Ga rfl rfl t5 rfl rfl ?_
      refine Ga rfl rfl t5 rfl rfl ?_
      refine EL_dead 11 rfl ?_
      refine Ga rfl rfl t5 rfl rfl ?_
      refine Zy (.bool false) (Zl (b:=(o0.2.2 == ((yB).length:Int))) rfl (Tl t5 rfl)) rfl ?_
      refine Zb ?_
      obtain rfl:=sinj h
      exact hQ _ _ ⟨oD,hfr,vC,n8,mB,i6,bD,l9,vB,oB,n9,rfl,rfl⟩
    ·clear hx
     obtain ⟨uF,hfr,rF,sF,mE,aE,gH,jH,kH,bG,bE,cG,uE⟩:=hR
     rcases Zt h with ⟨xE,h⟩ | ⟨xE,h⟩
     ·refine To (Eq.trans (show ev _ _ = .bool (cC) from uE) (congrArg Value.bool xE)) ?_
      refine Za (Zo mE rfl ?_)
      refine Zo bE rfl ?_
      obtain ⟨mG,aG,h⟩:=Gc h
      refine Zy (Qc v2 u3 1) (Zh (α:=List Int) Try.underlying42 Try.sizeOf22 rfl aE rfl aG) rfl ?_
      have nJ:=Tj aE aG
      refine Ze .plain rfl (Gr (g:=uF) Try.isAgg22 Try.sizeOf22 rfl nJ fun lH oJ=>?_)
      refine Zo cG rfl ?_
      refine Zg lH rfl rfl ?_
      refine Zg (.int .i64 (o0.2.1)) rfl rfl ?_
      refine Zg (.bool true) rfl rfl ?_
      refine Zb (Qn ?_)
      obtain ⟨rfl,rfl,rfl⟩:=pairs3 h
      exact hQ _ _ ⟨uF,(lH),hfr,rF,sF,mE,aE,rfl,oJ,rfl,rfl,bE⟩
     ·refine Tk (Eq.trans (show ev _ _ = .bool (cC) from uE) (congrArg Value.bool xE)) ?_
      refine Zu (Qn ?_)
      obtain ⟨rfl,rfl,rfl⟩:=pairs3 h
      exact hQ _ _ ⟨uF,(lB),hfr,rF,sF,mE,aE,gH,jH,kH,bG,bE⟩
   ·clear hx
    obtain ⟨pJ,mH,hfr,nH,oH,pH,qH,sH,tH,uH,eG,gG⟩:=hR
    refine Za (Zo gG rfl ?_)
    refine Gu (.int .i64 ((w64 (u3 + (1:Int))))) rfl rfl rfl rfl ?_
    refine Zg (.int .i64 ((w64 (u3 + (1:Int))))) rfl rfl ?_
    exact Zb (Zd (aI (yD,zD,nD,(w64 (u3 + (1:Int)))) _ _ ⟨pJ,(mH),hfr,nH,oH,pH,qH,sH,tH,uH,eG,rfl⟩ h))
 ·clear hx
  obtain ⟨uK,tF,hfr,xH,yH,zH,iG⟩:=hR
  refine Zf (Za (Zo xH rfl ?_))
  refine Zo zH rfl ?_
  refine Zo iG rfl ?_
  refine Zg tF rfl rfl ?_
  refine Zg (.int .i64 (cD)) rfl rfl ?_
  refine Zg (.bool (uC)) rfl rfl ?_
  refine Zb (Zd (Gw ?_))
  obtain rfl:=sinj h
  exact end3 rfl rfl (show _=tF from rfl) (show _=.int .i64 (cD) from rfl) (show _=.bool (uC) from rfl) ⟨_,hfr,_,_,_,rfl,yH,rfl,rfl⟩
def f47 (x0:BoxLoom):Option ((List Int)):=
 Option.bind (α:=(List Int)) (
  lp (σ:=(List Int) × Int) (fun jH (t5,u3)=>
   jn (σ:=Unit) (fun _=>
    Option.bind (α:=(List Int)) (
     (f60 x0).bind fun mB=>
     Option.bind (α:=Bool) (
      lp (σ:=Bool × Int) (fun kH (nB,i6)=>
       jn (σ:=Unit) (fun _=>
        Option.bind (α:=Bool) (
         (idx mB i6).bind fun lH=>
         (f61 x0 lH).bind fun o0=>
         Option.bind (α:=Bool) (
          bif o0.2.2.2 then
           (idx ((x0).Shuttles) o0.2.1).bind fun iE=>
           some (((iE).Colour == u3))
          else
           some (false)
          ) fun l9=>
         bif l9 then
          some (true)
         else
          some (nB)
         ) fun vB=>
        kH (vB,(w64 (i6 + (1:Int))))
        ) fun mH=>
       bif (decide (i6 < ((mB).length : Int))) then
        mH ()
       else
        some (nB)
       ) big (false,(0:Int))
      ) fun cD=>
     bif cD then
      (apnd 8 t5 (([u3]:List Int))).bind fun nH=>
      some (nH)
     else
      some (t5)
     ) fun oB=>
    jH (oB,(w64 (u3 + (1:Int))))
    ) fun oH=>
   bif (decide (u3 ≤ (9 : Int))) then
    oH ()
   else
    some (t5)
   ) big (([]:List Int),(0:Int))
  ) fun yB=>
 some (yB)
def f57 : Nat → (Tn) → (List (Gd × Int)) → (List (List Int)) → (Gd) → Option (Int × (List (Gd × Int)))
 | 0,_,_,_,_=>none
 | n + 1,x0,m0,x1,x2=>
  jn (σ:=Unit) (fun _=>
   jn (σ:=Unit) (fun _=>
    Option.bind (α:=Int × (List (Gd × Int))) (
     (f80 x0 ((x2).race)).bind fun tF=>
     (tF (Int × (List (Gd × Int))) (fun (bD,uC) (jG,yB)=>
      (f88 x2 x1 yB).bind fun zD=>
      bif zD.2 then
       (f57 n x0 uC x1 (zD.1)).bind fun aE=>
       some (true,((min64 bD (w64 ((yB).moves + aE.1))),aE.2))
      else
       some (true,(bD,uC))
      ) ((1073741824:Int),m0)).bind fun (rF,yD)=>
     some (rF,yD)
     ) fun (zB,vC)=>
    some (zB,(mset vC x2 zB))
    ) fun kJ=>
   bif ((mget m0 x2).isSome) then
    some (((mget m0 x2).getD (0:Int)),m0)
   else
    kJ ()
   ) fun k9=>
  bif ((x2).group == ((x1).length : Int)) then
   some ((0:Int),m0)
  else
   k9 ()
theorem en57:Enters Try.prog 57:=enters_of Try.func57 (by kernel_rfl) rfl
theorem wk57 (n:Nat):∀ {iI:Nat} {gI:Gh} {wI:World} {x0:Tn} {m0:List (Gd × Int)} {x1:List (List Int)} {x2:Gd} {up0:Value} (rp0:PT gI.m wI x0 up0) {kv500000:Value} (fc0:FC gI.m wI 2 kv500000 up0) (mp500000:MP (Ws Ty) iI gI wI m0 kv500000) {up1:Value} (rp1:RV gI.m wI x1 up1) {up2:Value} (rp2:RV gI.m wI x2 up2) {r:Int × (List (Gd × Int))} (h:f57 n x0 m0 x1 x2=some r),FnM Try.prog 57 #[up0,up1,up2] iI gI wI (fun g w v=>v=.int .i64 (r.1)∧MP (Ws Ty) iI g w (r.2) kv500000):=by
 induction n with
 | zero=>intros; rename_i h; cases h
 | succ n ih=>
 intro iI gI wI x0 m0 x1 x2 up0 rp0 kv500000 fc0 mp500000 up1 rp1 up2 rp2 r h
 simp only [f57] at h
 refine fnDM_of_E Try.func57 rfl (Nat.le_of_ble_eq_true rfl) fun g0 hm hfr=>?_
 have hmk:MkF g0 wI []:=MkF.start
 have lD:=mp500000
 replace mp500000:=mp500000.enter
 rw [← hm] at mp500000
 replace hm:g0.m=gI.m:=by rw [hm]
 have hone500200:=PT.one rp0
 have fc0:FC g0.m wI 2 kv500000 up0:=hm ▸ fc0
 have rp0:PT g0.m wI x0 up0:=hm ▸ rp0
 have rp1:RV g0.m wI x1 up1:=hm ▸ rp1
 have rp2:RV g0.m wI x2 up2:=hm ▸ rp2
 show E _ 60 none _ _ _ _ _
 refine Zf (Za (Ze .plain rfl (We (g:=g0) (a:=(⟨up0,hone500200⟩:Fv)) rfl (RV_fv.2 rfl) fun g1 w1 p1 hs q1=>?_)))
 have hfr:=hfr.ext hs
 have hmk:=hmk.ext hs
 have rp0:=rp0.ext hs
 have mp500000:=mp500000.ext hs
 have fc0:=fc0.ext hs
 have rp1:=rp1.ext hs
 have rp2:=rp2.ext hs
 refine Ze .plain rfl (We (g:=g1) rfl rp1 fun g2 w2 p2 hs q2=>?_)
 have hfr:=hfr.ext hs
 have hmk:=hmk.ext hs
 have rp0:=rp0.ext hs
 have mp500000:=mp500000.ext hs
 have fc0:=fc0.ext hs
 have rp2:=rp2.ext hs
 have q1:=q1.ext hs
 refine Ze .plain rfl (We (g:=g2) rfl rp2 fun g3 w3 p3 hs q3=>?_)
 have hfr:=hfr.ext hs
 have hmk:=hmk.ext hs
 have rp0:=rp0.ext hs
 have mp500000:=mp500000.ext hs
 have fc0:=fc0.ext hs
 have q1:=q1.ext hs
 have q2:=q2.ext hs
 refine Zg (.int .i64 (0)) rfl rfl ?_
 refine Zb (Zd (E_joinCD h (fun (s:Unit) e ds w=>∃ (g:Gh) ,FrM iI gI wI g w∧MkF g w ds∧e 3=p1∧PT g.m w (⟨up0,hone500200⟩:Fv) p1∧e 4=p2∧PT g.m w (x1:List (List Int)) p2∧e 5=p3∧PT g.m w (x2:Gd) p3∧MP (Ws Ty) 1 g w (m0:List (Gd × Int)) kv500000∧FC g.m w 2 kv500000 up0∧PT g.m w (x0:Tn) up0) (fun X9 k9 lL h=>?_) ?_))
 ·refine Zf (Za (Zy (Gj p3 0) (Zc at_112_0 rfl (PT.ptr q3)) rfl ?_))
  have mL:=Zm (Wx).1 q3
  refine Ze .plain rfl (Gr (g:=g3) Try.isAgg3 Try.sizeOf3 rfl mL fun vN nL=>?_)
  obtain rfl:=Zj.1 nL
  refine Ze .plain rfl (Gr (g:=g3) Try.isAgg42 Try.sizeOf42 rfl q2 fun xN oL=>?_)
  refine Zy (.int .i64 ((x1).length:Int)) (Tw Try.underlying42 rfl oL) rfl ?_
  refine Gu (.bool (((x2).group == ((x1).length:Int)))) rfl rfl rfl rfl ?_
  refine Zb (Zd ?_)
  rcases Zt h with ⟨uF,h⟩ | ⟨uF,h⟩
  ·refine Qq uF rfl ?_
   refine Zf (Za (Zg (.int .i64 (0)) rfl rfl ?_))
   refine Zb (Zd (Gw (Tc ?_)))
   refine endM (.inr rfl) hmk fun yN zN hs=>?_
   have hfr:=hfr.stp hs
   have mp500000:=mp500000.stp hs rfl
   obtain rfl:=sinj h
   exact Wb rfl rfl (show _=.int .i64 (0) from rfl) ⟨_,hfr,rfl,lD.back mp500000⟩
  ·refine Qr uF rfl ?_
   exact Zu (Zd (lL () _ _ _ ⟨g3,hfr,hmk,rfl,q1,rfl,q2,rfl,q3,mp500000,fc0,rp0⟩ h))
 ·rintro _ uM kM w15 ⟨kG, hfr, hmk, bG, iE, zH, yE, cG, lE, n9, nB, mB⟩ h
  refine E_joinCD h (fun (s:Unit) e ds w=>∃ (g:Gh) ,FrM iI gI wI g w∧MkF g w ds∧e 3=p1∧PT g.m w (⟨up0,hone500200⟩:Fv) p1∧e 4=p2∧PT g.m w (x1:List (List Int)) p2∧e 5=p3∧PT g.m w (x2:Gd) p3∧MP (Ws Ty) 1 g w (m0:List (Gd × Int)) kv500000∧FC g.m w 2 kv500000 up0∧PT g.m w (x0:Tn) up0) (fun X31 kJ nJ h=>?_) ?_
  ·refine Zf (Zs (α := Fv) (x := .tmp 3) Try.isAgg113 Try.sizeOf113 iE fun lJ mJ oJ => ?_)
   have e39:lJ=up0:=RV_fv.1 mJ
   clear mJ
   subst lJ
   obtain ⟨pb40,po40,pe40⟩:=PT.ptr mB
   have pJ:=L_loadFC (P:=Try.prog) (x:=.tmp 22) Try.isAgg124 Try.sizeOf124 (mp_one n9) nB
   refine Zs (x:=.tmp 5) Try.isAgg112 Try.sizeOf112 lE fun xL lG qJ=>?_
   refine E_drawC (g:=kG) (w:=w15) (n:=10) [0,1,2,3,4,6,7,8,9] [] [0,1,2,3,4,5,6,7,8,9] rfl Qf (by kernel_rfl) fun w_c38 hs hlt=>?_
   have hfr:=hfr.ext hs
   have hmk:=hmk.ext hs
   have iE:=iE.ext hs
   have yE:=yE.ext hs
   have lE:=lE.ext hs
   have n9:=n9.ext hs
   have nB:=nB.ext hs
   have mB:=mB.ext hs
   clear hs
   refine CH_ldP (c:=up0) rfl rfl .plain oJ bG ?_
   refine Qy (c:=up0) rfl rfl .plain (P_nilCk rfl pe40) ?_
   refine Qy (c:=Gj up0 2) rfl rfl .plain (Zc at_154_2 rfl (PT.ptr mB)) ?_
   refine CH_ldP (c:=kv500000) rfl rfl .plain pJ rfl ?_
   refine CH_ldP (c:=xL) rfl rfl .plain qJ cG ?_
   have lG:=lG.ch hlt.1
   refine CH_do rfl rfl .plain (D_lookupOk (g:=kG) (z0:=(0:Int)) Try.underlying124 key_112 Try.zeroValue3 (fun m w=>⟨_,Zx,rfl⟩) rfl n9 (rfl.trans (encK_of Ty lG)) fun aO yL=>?_)
   obtain rfl:=Zj.1 yL
   refine ⟨hlt.toW,?_⟩
   refine Qy (c:=.tuple #[.int .i64 (((mget m0 x2).getD (0:Int))),.bool ((mget m0 x2).isSome)]) rfl rfl .plain (Zk rfl) ?_
   refine Qy (c:=.int .i64 (((mget m0 x2).getD (0:Int)))) rfl rfl .plain (Zi rfl rfl) ?_
   refine Qy (c:=.bool ((mget m0 x2).isSome)) rfl rfl .plain (Zi rfl rfl) ?_
   refine Qy (c:=.int .i64 (((mget m0 x2).getD (0:Int)))) rfl rfl .plain (Tg rfl) ?_
   refine CH_nil ?_
   clear hlt
   refine Zg (.bool ((mget m0 x2).isSome)) rfl rfl ?_
   refine Zb (Zd (Zf (Za (Zn (.bool ((mget m0 x2).isSome)) rfl rfl ?_))))
   refine Zb (Zd ?_)
   rcases Zt h with ⟨vF,h⟩ | ⟨vF,h⟩
   ·refine Qq vF rfl ?_
    refine Zf (Za (Zn (.int .i64 (((mget m0 x2).getD (0:Int)))) rfl rfl ?_))
    refine Zg (.int .i64 (((mget m0 x2).getD (0:Int)))) rfl rfl ?_
    refine Zb (Zd (Gw (Tc ?_)))
    refine endM (.inr rfl) hmk fun bO cO hs=>?_
    have hfr:=hfr.stp hs
    have n9:=n9.stp hs rfl
    obtain rfl:=sinj h
    exact Wb rfl rfl (show _=.int .i64 (((mget m0 x2).getD (0:Int))) from rfl) ⟨_,hfr,rfl,lD.back n9⟩
   ·refine Qr vF rfl ?_
    exact Zu (Zd (nJ () _ _ _ ⟨kG,hfr,hmk,bG,iE,zH,yE,cG,lE,n9,nB,mB⟩ h))
  ·rintro _ vM eG dO ⟨zL, hfr, hmk, zE, cC, gG, nD, cF, vB, lB, aB, l9⟩ h
   refine Zf (Za (Ze .plain rfl (Gs (g:=zL) 2009 (0:Int) Try.zeroValue3 (fun m w=>⟨_,Zx,rfl⟩) fun aM eO mG hs b48 cb=>?_)))
   have hfr:=hfr.stp hs
   have hmk:=hmk.stp hs
   have cC:=cC.stp hs
   have nD:=nD.stp hs
   have vB:=vB.stp hs
   have lB:=lB.stp hs rfl
   have aB:=aB.stp hs
   have l9:=l9.stp hs
   clear cb
   refine Ze .plain rfl (Gk (g:=aM) (v:=.int .i64 (1073741824)) Try.sizeOf3 rfl b48 rfl (Zj.2 rfl) fun sG gO hs b49 cb=>?_)
   clear cb
   have hfr:=hfr.stp hs
   have hmk:=hmk.stp hs
   have cC:=cC.stp hs
   have nD:=nD.stp hs
   have vB:=vB.stp hs
   have lB:=lB.stp hs rfl
   have aB:=aB.stp hs
   have l9:=l9.stp hs
   refine Zb (Zd ?_)
   obtain ⟨⟨zB,vC⟩,hx,h⟩:=Gc h
   refine E_joinD (fun e ds w=>∃ (g:Gh) ,FrM iI gI wI g w∧MkF g w ds∧e 3=p1∧PT g.m w (⟨up0,hone500200⟩:Fv) p1∧e 5=p3∧PT g.m w (x2:Gd) p3∧e 9=mG∧OB 2009 g w 3 (zB:Int) mG∧MP (Ws Ty) 1 g w (vC:List (Gd × Int)) kv500000∧FC g.m w 2 kv500000 up0∧PT g.m w (x0:Tn) up0) (fun Q' hQ=>?_) (fun pM bM xM hR=>?_)
   ·replace h := hx
    clear hx
    refine Zf (Za (Ze .plain rfl (Gr (α:=Fv) (g:=sG) Try.isAgg113 Try.sizeOf113 zE cC fun xG yG=>?_)))
    have e114:xG=up0:=RV_fv.1 yG
    clear yG
    subst xG
    refine Zy (Gj p3 2) (Zc at_112_2 cF (PT.ptr vB)) rfl ?_
    have rJ:=Zm (part_BoxPoint_2).1 vB
    refine Ze .plain rfl (Gr (g:=sG) Try.isAgg108 Try.sizeOf108 rfl rJ fun sJ vJ=>?_)
    obtain ⟨tF,aI,h⟩:=Gc h
    refine Ze .plain rfl (Zp (g:=sG) (vs:=[up0,sJ]) en80 (.cons rfl (.cons rfl .nil)) (wk80 l9 vJ aI) fun bN qM xJ hs hr=>?_)
    have hfr:=hfr.ext hs
    have hmk:=hmk.ext hs
    have cC:=cC.ext hs
    have nD:=nD.ext hs
    have vB:=vB.ext hs
    have lB:=lB.ext hs
    have aB:=aB.ext hs
    have l9:=l9.ext hs
    have b49:=b49.ext hs
    have zG:=hr
    refine Zb (Zd (Zr ?_))
    have hB0:=hfr.size
    have hmk0:=hmk
    obtain ⟨⟨rF,yD⟩,hφ,h⟩:=Gc h
    refine E_rangeFunc (σ:=(Int × (List (Gd × Int)))) (s0:=((1073741824:Int),m0)) 10 rfl (fun _=>0) [] (fun (s:Int × (List (Gd × Int))) (g:Gh) (w:World)=>FrM iI gI wI g w∧MkF g w eG∧PT g.m w (⟨up0,hone500200⟩:Fv) p1∧PT g.m w (x1:List (List Int)) p2∧PT g.m w (x2:Gd) p3∧OB 2009 g w 3 (s.1:Int) mG∧ItV Try.prog (RA2 (α:=Ge) (β:=Te)) tF xJ g.m w∧MP (Ws Ty) 1 g w (s.2:List (Gd × Int)) kv500000∧FC g.m w 2 kv500000 up0∧PT g.m w (x0:Tn) up0) rfl zG hφ (fun _ _ _ _=>rfl) rfl ra2_size rfl (fun _ _ _ _ _ hx hR=>by obtain ⟨hfr,hmk,z2,z3,z4,z5,z6,z7,z8,z9⟩:=hR; exact ⟨hfr.ist hx hB0,hmk.ist hx,z2.ist hx,z3.ist hx,z4.ist hx,z5.ist hx,z6.ist hx,z7.ist hx,z8.ist hx,z9.ist hx⟩) (fun _ _ _ _ _ hx hR=>by obtain ⟨hfr,hmk,z2,z3,z4,z5,z6,z7,z8,z9⟩:=hR; exact ⟨hfr.stp hx,hmk.stp hx,z2.stp hx,z3.stp hx,z4.stp hx,z5.stp hx rfl,z6.stp hx,z7.stp hx rfl,z8.stp hx,z9.stp hx⟩) ⟨hfr,hmk,cC,nD,vB,b49,zG,lB,aB,l9⟩ (fun _ h=>by cases h) ?_ ?_
    ·intro rM cM s x b s2 aH zJ vs hsz h hR hrec_0 iG hrd
     obtain ⟨bD,uC⟩:=s
     obtain ⟨hfr,hmk,g8,i6,l8,n8,t5,l5,o0,u3⟩:=hR
     obtain ⟨jG,yB⟩:=x
     obtain ⟨dM,cH,rfl,iL,bE⟩:=ra2_get hrd
     have v8:=RFr.refl aH zJ
     refine Za (Ze .plain rfl (Gs (g:=aH) 2011 (⟨⟨(⟨List.toArray [(⟨List.toArray [0,0,0,0],rfl⟩:Vector Int 4),(⟨List.toArray [0,0,0,0],rfl⟩:Vector Int 4)],rfl⟩:Vector (Vector Int 4) 2),⟨0,0⟩⟩,0,0⟩:Te) Try.zeroValue144 (fun m w=>⟨_,(Gg (Gg (Gt (Zw (Gt (Zw Zx (Zw Zx (Zw Zx (Zw Zx Gm)))) rfl) (Zw (Gt (Zw Zx (Zw Zx (Zw Zx (Zw Zx Gm)))) rfl) Gm)) rfl) (Gg Zx Zx)) (Gg Zx Zx)),rfl⟩) fun aK cN bK hs b148 cb=>?_))
     have hfr:=hfr.stp hs
     have hmk:=hmk.stp hs
     have v8:=v8.stp hs
     have hrec_0:=hrec_0.stp hs rfl
     have g8:=g8.stp hs
     have i6:=i6.stp hs
     have l8:=l8.stp hs
     have n8:=n8.stp hs rfl
     have t5:=t5.stp hs
     have l5:=l5.stp hs rfl
     have o0:=o0.stp hs
     have u3:=u3.stp hs
     have bE:=bE.stp hs
     clear cb
     refine Ze .plain rfl (Gk (g:=aK) (v:=cH) Try.sizeOf144 rfl b148 rfl bE fun dF dN hs b149 cb=>?_)
     clear cb
     have hfr:=hfr.stp hs
     have hmk:=hmk.stp hs
     have v8:=v8.stp hs
     have hrec_0:=hrec_0.stp hs rfl
     have g8:=g8.stp hs
     have i6:=i6.stp hs
     have l8:=l8.stp hs
     have n8:=n8.stp hs rfl
     have t5:=t5.stp hs
     have l5:=l5.stp hs rfl
     have o0:=o0.stp hs
     have u3:=u3.stp hs
     refine Zb (Zd ?_)
     obtain ⟨cK,hbr,hs,hrN⟩:=begin_round hrec_0 iG
     refine ⟨cK,hbr,?_⟩
     have hfr:=hfr.stp hs
     have hmk:=hmk.stp hs
     have v8:=v8.stp hs
     have g8:=g8.stp hs
     have i6:=i6.stp hs
     have l8:=l8.stp hs
     have n8:=n8.stp hs rfl
     have t5:=t5.stp hs
     have l5:=l5.stp hs rfl
     have o0:=o0.stp hs
     have u3:=u3.stp hs
     have b149:=b149.stp hs rfl
     have hrec_0:=hrN
     clear hbr hs hrN
     refine Zr ?_
     refine Zf (Za (Ze .plain rfl (Gr (g:=dF) Try.isAgg112 Try.sizeOf112 cF l8 fun dK lK=>?_)))
     refine Ze .plain rfl (Gr (g:=dF) Try.isAgg42 Try.sizeOf42 gG i6 fun mK nK=>?_)
     refine Ze .plain rfl (Qj (g:=dF) Try.isAgg144 Try.sizeOf144 rfl b149 fun oK pK=>?_)
     obtain ⟨zD,bI,h⟩:=Gc h
     refine Ze .plain rfl (Zp (g:=dF) (vs:=[dK,mK,oK]) en88 (.cons rfl (.cons rfl (.cons rfl .nil))) (wk88 lK nK pK bI) fun qK sM eN hs hr=>?_)
     have hfr:=hfr.ext hs
     have hmk:=hmk.ext hs
     have v8:=v8.ext hs
     have hrec_0:=hrec_0.ext hs
     have g8:=g8.ext hs
     have i6:=i6.ext hs
     have l8:=l8.ext hs
     have n8:=n8.ext hs
     have t5:=t5.ext hs
     have l5:=l5.ext hs
     have o0:=o0.ext hs
     have u3:=u3.ext hs
     have b149:=b149.ext hs
     obtain ⟨mE,eM,rfl,oE,rfl⟩:=hr
     refine Zn (.tuple #[mE,.bool (zD.2)]) rfl rfl ?_
     refine Zy mE (Zi rfl rfl) rfl ?_
     refine Zy (.bool (zD.2)) (Zi rfl rfl) rfl ?_
     refine Ze .plain rfl (Gs (g:=qK) 2012 (⟨0,0,⟨(⟨List.toArray [(⟨List.toArray [0,0,0,0],rfl⟩:Vector Int 4),(⟨List.toArray [0,0,0,0],rfl⟩:Vector Int 4)],rfl⟩:Vector (Vector Int 4) 2),⟨0,0⟩⟩⟩:Gd) Try.zeroValue112 (fun m w=>⟨_,(Gg Zx (Gg Zx (Gg (Gt (Zw (Gt (Zw Zx (Zw Zx (Zw Zx (Zw Zx Gm)))) rfl) (Zw (Gt (Zw Zx (Zw Zx (Zw Zx (Zw Zx Gm)))) rfl) Gm)) rfl) (Gg Zx Zx)))),rfl⟩) fun sK gN iN hs b156 cb=>?_)
     have hfr:=hfr.stp hs
     have hmk:=hmk.stp hs
     have v8:=v8.stp hs
     have hrec_0:=hrec_0.stp hs rfl
     have g8:=g8.stp hs
     have i6:=i6.stp hs
     have l8:=l8.stp hs
     have n8:=n8.stp hs rfl
     have t5:=t5.stp hs
     have l5:=l5.stp hs rfl
     have o0:=o0.stp hs
     have u3:=u3.stp hs
     have b149:=b149.stp hs rfl
     have oE:=oE.stp hs
     clear cb
     refine Ze .plain rfl (Gk (g:=sK) (v:=mE) Try.sizeOf112 rfl b156 rfl oE fun gH tK hs b157 cb=>?_)
     clear cb
     have hfr:=hfr.stp hs
     have hmk:=hmk.stp hs
     have v8:=v8.stp hs
     have hrec_0:=hrec_0.stp hs rfl
     have g8:=g8.stp hs
     have i6:=i6.stp hs
     have l8:=l8.stp hs
     have n8:=n8.stp hs rfl
     have t5:=t5.stp hs
     have l5:=l5.stp hs rfl
     have o0:=o0.stp hs
     have u3:=u3.stp hs
     have b149:=b149.stp hs rfl
     refine Zg (.bool (zD.2)) rfl rfl ?_
     refine Zb (Zd (Zf (Za (Zn (.bool (zD.2)) rfl rfl ?_))))
     refine Zb (Zd ?_)
     rcases Zt h with ⟨eF,h⟩ | ⟨eF,h⟩
     ·refine Qq eF rfl ?_
      refine Wq (x:=.tmp 9) Try.isAgg3 Try.sizeOf3 n8 fun jN uK dI=>?_
      obtain rfl:=Zj.1 uK
      refine Wg (x:=.tmp 45) part_BoxStep_2.1 Try.isAgg3 Try.sizeOf3 b149 fun kN vK jI=>?_
      obtain rfl:=Zj.1 vK
      refine Zs (α:=Fv) (x:=.tmp 3) Try.isAgg113 Try.sizeOf113 g8 fun jH kH kI=>?_
      have e169:jH=up0:=RV_fv.1 kH
      clear kH
      subst jH
      refine Zs (x:=.tmp 4) Try.isAgg42 Try.sizeOf42 i6 fun lH xF lI=>?_
      refine Wq (x:=.tmp 12) Try.isAgg112 Try.sizeOf112 b157 fun mH yF mI=>?_
      obtain ⟨aE,nI,h⟩:=Gc h
      refine E_drawC (g:=gH) (w:=tK) (n:=8) [0,1,2,3,4,5,7] [2009,2011,2012] [0,1,2,3,4,5,6,7] rfl Qf (by kernel_rfl) fun w_c165 hs hlt=>?_
      have hfr:=hfr.ext hs
      have hmk:=hmk.ext hs
      have v8:=v8.ext hs
      have hrec_0:=hrec_0.ext hs
      have g8:=g8.ext hs
      have i6:=i6.ext hs
      have l8:=l8.ext hs
      have n8:=n8.ext hs
      have t5:=t5.ext hs
      have l5:=l5.ext hs
      have o0:=o0.ext hs
      have u3:=u3.ext hs
      have b149:=b149.ext hs
      clear hs
      refine CH_ldO (n:=2009) (c:=.int .i64 (bD)) rfl rfl .plain dI rfl rfl ?_
      refine Qy (c:=Gj bK 11) rfl rfl .plain (Zc at_144_2 rfl (OB.ptr b149)) ?_
      refine CH_ldO (n:=2011) (c:=.int .i64 ((yB).moves)) rfl rfl .plain jI rfl rfl ?_
      refine CH_ldP (c:=up0) rfl rfl .plain kI zE ?_
      refine CH_ldP (c:=lH) rfl rfl .plain lI gG ?_
      have xF:=xF.ch hlt.1
      refine CH_ldO (n:=2012) (c:=mH) rfl rfl .plain mI rfl rfl ?_
      have yF:=yF.ch hlt.1
      refine CH_do rfl rfl .plain (D_callM (g:=gH) (i:=1) (vs:=[up0,lH,mH]) en57 (.cons rfl (.cons rfl (.cons rfl .nil))) (ih u3 o0 l5 xF yF nI) fun xK tM lN hs hr=>?_)
      obtain ⟨hrv,b172⟩:=hr
      have hfr:=hfr.stp hs
      have hmk:=hmk.stp hs
      have v8:=v8.stp hs
      have hrec_0:=hrec_0.stp hs rfl
      have hlt:=hlt.stp hs
      have g8:=g8.stp hs
      have i6:=i6.stp hs
      have l8:=l8.stp hs
      have n8:=n8.stp hs rfl
      have t5:=t5.stp hs
      have o0:=o0.stp hs
      have u3:=u3.stp hs
      subst hrv
      refine ⟨hlt.toW,?_⟩
      refine Qy (c:=.int .i64 ((w64 ((yB).moves + aE.1)))) rfl rfl .plain (Td rfl rfl rfl) ?_
      refine CH_nil ?_
      clear hlt
      refine Zy (.int .i64 (min64 bD (w64 ((yB).moves + aE.1)))) (P_min rfl rfl) rfl ?_
      refine Ze .plain rfl (Gk (g:=xK) (v:=.int .i64 (min64 bD (w64 ((yB).moves + aE.1)))) Try.sizeOf3 rfl n8 rfl (Zj.2 rfl) fun mN nN hs b174 cb=>?_)
      clear cb
      have hfr:=hfr.stp hs
      have hmk:=hmk.stp hs
      have v8:=v8.stp hs
      have hrec_0:=hrec_0.stp hs rfl
      have g8:=g8.stp hs
      have i6:=i6.stp hs
      have l8:=l8.stp hs
      have t5:=t5.stp hs
      have b172:=b172.stp hs rfl
      have o0:=o0.stp hs
      have u3:=u3.stp hs
      refine Zb (Qn ?_)
      obtain ⟨rfl,rfl⟩:=pairs2 h
      exact ⟨_,v8,⟨hfr,hmk,g8,i6,l8,b174,t5,b172,o0,u3⟩,hrec_0,rfl,rfl⟩
     ·refine Qr eF rfl ?_
      refine Zu (Qn ?_)
      obtain ⟨rfl,rfl⟩:=pairs2 h
      exact ⟨_,v8,⟨hfr,hmk,g8,i6,l8,n8,t5,l5,o0,u3⟩,hrec_0,rfl,rfl⟩
    ·intro yK oN ds176 hsz hR hds
     obtain ⟨hfr,hmk,nH,iM,oH,pH,jL,xE,rE,uE⟩:=hR
     obtain ⟨D,hdse,hD,hDb⟩:=hds.1 rfl
     subst hdse
     replace hmk:=MkF.push hmk0 hmk hD hDb
     clear hD hDb hds
     revert hmk
     generalize ({ target:=.collected D,args:=#[] } :: eG:List Deferred)=jM
     intro hmk
     refine ⟨fun _=>?_,fun k c hs _=>absurd hs (Nat.succ_ne_zero k).symm⟩
     refine Qn ?_
     obtain ⟨rfl,rfl⟩:=pairs2 h
     exact hQ _ _ _ ⟨yK,hfr,hmk,zE,nH,cF,oH,rfl,pH,xE,rE,uE⟩
   ·clear hx
    obtain ⟨zK,hfr,hmk,qH,sH,tH,uH,sF,cD,oB,vE,oD⟩:=hR
    refine Zf (Zs (α:=Fv) (x:=.tmp 3) Try.isAgg113 Try.sizeOf113 sH fun xH yH pI=>?_)
    have e178:xH=up0:=RV_fv.1 yH
    clear yH
    subst xH
    obtain ⟨pb179,po179,pe179⟩:=PT.ptr oD
    have qI:=L_loadFC (P:=Try.prog) (x:=.tmp 55) Try.isAgg124 Try.sizeOf124 (mp_one oB) vE
    refine Zs (x:=.tmp 5) Try.isAgg112 Try.sizeOf112 uH fun aL aG sI=>?_
    refine Wq (x:=.tmp 9) Try.isAgg3 Try.sizeOf3 cD fun pN bL jJ=>?_
    obtain rfl:=Zj.1 bL
    refine Tt (g:=zK) (n:=6) [] [0,1,2,3,4,5] rfl Qf (by kernel_rfl) trivial ?_
    refine Gy (c:=up0) rfl rfl .plain (fun _ _ h=>h.ch) pI qH ?_
    refine Gb up0 rfl rfl (P_nilCk rfl pe179) ?_
    refine Gb (Gj up0 2) rfl rfl (Zc at_154_2 rfl (PT.ptr oD)) ?_
    refine Gy (c:=kv500000) rfl rfl .plain (fun _ _ h=>h.ch) qI rfl ?_
    refine Gy (c:=aL) rfl rfl .plain (fun _ _ h=>h.ch) sI tH ?_
    refine Gy (c:=.int .i64 (zB)) rfl rfl .plain (fun _ _ h=>⟨h.ch,fun b hb _=>h.below.block b hb⟩) jJ sF ?_
    refine L_nl fun dL qN hs=>?_
    have hfr:=hfr.ext hs
    have hmk:=hmk.ext hs
    have cD:=cD.ext hs
    have oB:=oB.ext hs
    have aG:=aG.ext hs
    clear hs
    refine Ze .plain rfl (D_mapUpdate (g:=dL) Try.underlying124 key_112 rfl oB (rfl.trans (encK_of Ty aG)) rfl (Zj.2 rfl) fun eL rN hs m197=>?_)
    have hfr:=hfr.stp hs
    have hmk:=hmk.stp hs
    have cD:=cD.stp hs rfl
    refine Zb (Zd (Zf (Za (Ze .plain rfl (Qj (g:=eL) Try.isAgg3 Try.sizeOf3 sF cD fun sN gL=>?_)))))
    obtain rfl:=Zj.1 gL
    refine Zg (.int .i64 (zB)) rfl rfl ?_
    refine Zb (Zd (Gw (endM (.inr rfl) hmk fun tN uN hs=>?_)))
    have hfr:=hfr.stp hs
    have m197:=m197.stp hs rfl
    obtain rfl:=sinj h
    exact Wb rfl rfl (show _=.int .i64 (zB) from rfl) ⟨_,hfr,rfl,lD.back m197⟩
def f58 (x0:Tn) (m0:List (Gd × Int)) (x1:List (List Int)) (x2:Gd):Option (Ge × Gd × (List (Gd × Int))):=
 jn (σ:=Ge × Gd × (List (Gd × Int))) (fun (eG,gG,bE)=>
  some (eG,gG,bE)
  ) fun gH=>
 (f80 x0 ((x2).race)).bind fun yF=>
 (yF (Nat × Ge × Gd × (List (Gd × Int))) (guardC fun (iE,cF,cD) (vC,bD)=>
  (f88 x2 x1 bD).bind fun oB=>
  Option.bind (α:=Bool × (List (Gd × Int))) (
   bif oB.2 then
    (f57 big x0 cD x1 (oB.1)).bind fun yE=>
    (f57 big x0 (yE.2) x1 x2).bind fun dF=>
    some (((w64 ((bD).moves + yE.1)) == dF.1),dF.2)
   else
    some (false,cD)
   ) fun (lD,yB)=>
  bif lD then
   some (false,((1:Nat),(vC,oB.1,yB)))
  else
   some (true,((0:Nat),(iE,cF,yB)))
  ) (0,((⟨0,0⟩:Ge),(⟨0,0,⟨(⟨List.toArray [(⟨List.toArray [0,0,0,0],rfl⟩:Vector Int 4),(⟨List.toArray [0,0,0,0],rfl⟩:Vector Int 4)],rfl⟩:Vector (Vector Int 4) 2),⟨0,0⟩⟩⟩:Gd),m0))).bind fun (lE,(mE,oE,zB))=>
 bif Nat.beq lE 0 then
  gH (mE,oE,zB)
 else
  some (mE,oE,zB)
theorem en58:Enters Try.prog 58:=enters_of Try.func58 (by kernel_rfl) rfl
theorem wk58 {iI:Nat} {gI:Gh} {wI:World} {x0:Tn} {m0:List (Gd × Int)} {x1:List (List Int)} {x2:Gd} {up0:Value} (rp0:PT gI.m wI x0 up0) {kv500000:Value} (fc0:FC gI.m wI 2 kv500000 up0) (mp500000:MP (Ws Ty) iI gI wI m0 kv500000) {up1:Value} (rp1:RV gI.m wI x1 up1) {up2:Value} (rp2:RV gI.m wI x2 up2) {r:Ge × Gd × (List (Gd × Int))} (h:f58 x0 m0 x1 x2=some r):FnM Try.prog 58 #[up0,up1,up2] iI gI wI (fun g w v=>(∃ y0 y1,v=.tuple #[y0,y1]∧RV g.m w (r.1) y0∧RV g.m w (r.2.1) y1)∧MP (Ws Ty) iI g w (r.2.2) kv500000):=by
 unfold f58 at h
 refine fnDM_of_E Try.func58 rfl (Nat.le_of_ble_eq_true rfl) fun g0 hm hfr=>?_
 have hmk:MkF g0 wI []:=MkF.start
 have rE:=mp500000
 replace mp500000:=mp500000.enter
 rw [← hm] at mp500000
 replace hm:g0.m=gI.m:=by rw [hm]
 have hone500200:=PT.one rp0
 have fc0:FC g0.m wI 2 kv500000 up0:=hm ▸ fc0
 have rp0:PT g0.m wI x0 up0:=hm ▸ rp0
 have rp1:RV g0.m wI x1 up1:=hm ▸ rp1
 have rp2:RV g0.m wI x2 up2:=hm ▸ rp2
 show E _ 44 none _ _ _ _ _
 refine Zf (Za (Ze .plain rfl (We (g:=g0) (a:=(⟨up0,hone500200⟩:Fv)) rfl (RV_fv.2 rfl) fun g1 w1 p1 hs q1=>?_)))
 have hfr:=hfr.ext hs
 have hmk:=hmk.ext hs
 have rp0:=rp0.ext hs
 have mp500000:=mp500000.ext hs
 have fc0:=fc0.ext hs
 have rp1:=rp1.ext hs
 have rp2:=rp2.ext hs
 refine Ze .plain rfl (We (g:=g1) rfl rp1 fun g2 w2 p2 hs q2=>?_)
 have hfr:=hfr.ext hs
 have hmk:=hmk.ext hs
 have rp0:=rp0.ext hs
 have mp500000:=mp500000.ext hs
 have fc0:=fc0.ext hs
 have rp2:=rp2.ext hs
 have q1:=q1.ext hs
 refine Ze .plain rfl (We (g:=g2) rfl rp2 fun g3 w3 p3 hs q3=>?_)
 have hfr:=hfr.ext hs
 have hmk:=hmk.ext hs
 have rp0:=rp0.ext hs
 have mp500000:=mp500000.ext hs
 have fc0:=fc0.ext hs
 have q1:=q1.ext hs
 have q2:=q2.ext hs
 refine Ze .plain rfl (Gs (g:=g3) 2006 (⟨0,0⟩:Ge) Try.zeroValue83 (fun m w=>⟨_,(Gg Zx Zx),rfl⟩) fun g4 w4 p4 hs b4 cb=>?_)
 have hfr:=hfr.stp hs
 have hmk:=hmk.stp hs
 have rp0:=rp0.stp hs
 have mp500000:=mp500000.stp hs rfl
 have fc0:=fc0.stp hs
 have q1:=q1.stp hs
 have q2:=q2.stp hs
 have q3:=q3.stp hs
 clear cb
 refine Ze .plain rfl (Gs (g:=g4) 2007 (⟨0,0,⟨(⟨List.toArray [(⟨List.toArray [0,0,0,0],rfl⟩:Vector Int 4),(⟨List.toArray [0,0,0,0],rfl⟩:Vector Int 4)],rfl⟩:Vector (Vector Int 4) 2),⟨0,0⟩⟩⟩:Gd) Try.zeroValue112 (fun m w=>⟨_,(Gg Zx (Gg Zx (Gg (Gt (Zw (Gt (Zw Zx (Zw Zx (Zw Zx (Zw Zx Gm)))) rfl) (Zw (Gt (Zw Zx (Zw Zx (Zw Zx (Zw Zx Gm)))) rfl) Gm)) rfl) (Gg Zx Zx)))),rfl⟩) fun g5 w5 p5 hs b5 cb=>?_)
 have hfr:=hfr.stp hs
 have hmk:=hmk.stp hs
 have rp0:=rp0.stp hs
 have mp500000:=mp500000.stp hs rfl
 have fc0:=fc0.stp hs
 have q1:=q1.stp hs
 have q2:=q2.stp hs
 have q3:=q3.stp hs
 have b4:=b4.stp hs rfl
 clear cb
 refine Zb (Zd (E_joinCD h (fun (s:Ge × Gd × (List (Gd × Int))) e ds w=>∃ (g:Gh) ,FrM iI gI wI g w∧MkF g w ds∧e 6=p4∧OB 2006 g w 83 (s.1:Ge) p4∧e 7=p5∧OB 2007 g w 112 (s.2.1:Gd) p5∧MP (Ws Ty) 1 g w (s.2.2:List (Gd × Int)) kv500000∧FC g.m w 2 kv500000 up0∧PT g.m w (x0:Tn) up0) (fun X171 gH jJ h=>?_) ?_))
 ·refine Zf (Za (Ze .plain rfl (Gr (α := Fv) (g := g5) Try.isAgg113 Try.sizeOf113 rfl q1 fun jH kH => ?_)))
  have e172:jH=up0:=RV_fv.1 kH
  clear kH
  subst jH
  refine Zy (Gj p3 2) (Zc at_112_2 rfl (PT.ptr q3)) rfl ?_
  have sK:=Zm (part_BoxPoint_2).1 q3
  refine Ze .plain rfl (Gr (g:=g5) Try.isAgg108 Try.sizeOf108 rfl sK fun tK uK=>?_)
  obtain ⟨yF,kJ,h⟩:=Gc h
  refine Ze .plain rfl (Zp (g:=g5) (vs:=[up0,tK]) en80 (.cons rfl (.cons rfl .nil)) (wk80 rp0 uK kJ) fun jN bN jG hs hr=>?_)
  have hfr:=hfr.ext hs
  have hmk:=hmk.ext hs
  have rp0:=rp0.ext hs
  have mp500000:=mp500000.ext hs
  have fc0:=fc0.ext hs
  have q1:=q1.ext hs
  have q2:=q2.ext hs
  have q3:=q3.ext hs
  have b4:=b4.ext hs
  have b5:=b5.ext hs
  have lH:=hr
  refine Zb (Zd (Zr ?_))
  have hB0:=hfr.size
  have hmk0:=hmk
  obtain ⟨⟨lE,⟨mE,oE,zB⟩⟩,hφ,h⟩:=Gc h
  refine E_rangeFunc (σ:=(Nat × Ge × Gd × (List (Gd × Int)))) (s0:=(0,((⟨0,0⟩:Ge),(⟨0,0,⟨(⟨List.toArray [(⟨List.toArray [0,0,0,0],rfl⟩:Vector Int 4),(⟨List.toArray [0,0,0,0],rfl⟩:Vector Int 4)],rfl⟩:Vector (Vector Int 4) 2),⟨0,0⟩⟩⟩:Gd),m0))) 10 rfl (fun s=>s.1) [.ret] (fun (s:Nat × Ge × Gd × (List (Gd × Int))) (g:Gh) (w:World)=>FrM iI gI wI g w∧MkF g w []∧PT g.m w (⟨up0,hone500200⟩:Fv) p1∧PT g.m w (x1:List (List Int)) p2∧PT g.m w (x2:Gd) p3∧OB 2006 g w 83 (s.2.1:Ge) p4∧OB 2007 g w 112 (s.2.2.1:Gd) p5∧ItV Try.prog (RA2 (α:=Ge) (β:=Te)) yF jG g.m w∧MP (Ws Ty) 1 g w (s.2.2.2:List (Gd × Int)) kv500000∧FC g.m w 2 kv500000 up0∧PT g.m w (x0:Tn) up0) rfl lH hφ (fun _ _ _ h=>(guardC_h h).1) rfl ra2_size rfl (fun _ _ _ _ _ hx hR=>by obtain ⟨hfr,hmk,z2,z3,z4,z5,z6,z7,z8,z9,z10⟩:=hR; exact ⟨hfr.ist hx hB0,hmk.ist hx,z2.ist hx,z3.ist hx,z4.ist hx,z5.ist hx,z6.ist hx,z7.ist hx,z8.ist hx,z9.ist hx,z10.ist hx⟩) (fun _ _ _ _ _ hx hR=>by obtain ⟨hfr,hmk,z2,z3,z4,z5,z6,z7,z8,z9,z10⟩:=hR; exact ⟨hfr.stp hx,hmk.stp hx,z2.stp hx,z3.stp hx,z4.stp hx,z5.stp hx rfl,z6.stp hx rfl,z7.stp hx,z8.stp hx rfl,z9.stp hx,z10.stp hx⟩) ⟨hfr,hmk,q1,q2,q3,b4,b5,lH,mp500000,fc0,rp0⟩ (fun _ h=>by cases h) ?_ ?_
  ·intro lJ mH s x b s2 kG nH vs hsz h hR hrec_0 zG hrd
   obtain ⟨hs0,h⟩:=guardC_h h
   obtain ⟨st,⟨iE,cF,cD⟩⟩:=s
   obtain ⟨hfr,hmk,g8,i6,l8,v8,l9,t5,l5,o0,u3⟩:=hR
   obtain ⟨vC,bD⟩:=x
   obtain ⟨oH,pH,rfl,zE,vB⟩:=ra2_get hrd
   have n8:=RFr.refl kG nH
   refine Zf (Za (Ze .plain rfl (Gs (g:=kG) 2008 (⟨0,0⟩:Ge) Try.zeroValue83 (fun m w=>⟨_,(Gg Zx Zx),rfl⟩) fun vK kN qH hs b255 cb=>?_)))
   have hfr:=hfr.stp hs
   have hmk:=hmk.stp hs
   have n8:=n8.stp hs
   have hrec_0:=hrec_0.stp hs rfl
   have g8:=g8.stp hs
   have i6:=i6.stp hs
   have l8:=l8.stp hs
   have v8:=v8.stp hs rfl
   have l9:=l9.stp hs rfl
   have t5:=t5.stp hs
   have l5:=l5.stp hs rfl
   have o0:=o0.stp hs
   have u3:=u3.stp hs
   have zE:=zE.stp hs
   have vB:=vB.stp hs
   clear cb
   refine Ze .plain rfl (Gk (g:=vK) (v:=oH) Try.sizeOf83 rfl b255 rfl zE fun xK lN hs b256 cb=>?_)
   clear cb
   have hfr:=hfr.stp hs
   have hmk:=hmk.stp hs
   have n8:=n8.stp hs
   have hrec_0:=hrec_0.stp hs rfl
   have g8:=g8.stp hs
   have i6:=i6.stp hs
   have l8:=l8.stp hs
   have v8:=v8.stp hs rfl
   have l9:=l9.stp hs rfl
   have t5:=t5.stp hs
   have l5:=l5.stp hs rfl
   have o0:=o0.stp hs
   have u3:=u3.stp hs
   have vB:=vB.stp hs
   refine Zb (Zd (Za (Ze .plain rfl (Gs (g:=xK) 2009 (⟨⟨(⟨List.toArray [(⟨List.toArray [0,0,0,0],rfl⟩:Vector Int 4),(⟨List.toArray [0,0,0,0],rfl⟩:Vector Int 4)],rfl⟩:Vector (Vector Int 4) 2),⟨0,0⟩⟩,0,0⟩:Te) Try.zeroValue144 (fun m w=>⟨_,(Gg (Gg (Gt (Zw (Gt (Zw Zx (Zw Zx (Zw Zx (Zw Zx Gm)))) rfl) (Zw (Gt (Zw Zx (Zw Zx (Zw Zx (Zw Zx Gm)))) rfl) Gm)) rfl) (Gg Zx Zx)) (Gg Zx Zx)),rfl⟩) fun yK mN zK hs b257 cb=>?_))))
   have hfr:=hfr.stp hs
   have hmk:=hmk.stp hs
   have n8:=n8.stp hs
   have hrec_0:=hrec_0.stp hs rfl
   have g8:=g8.stp hs
   have i6:=i6.stp hs
   have l8:=l8.stp hs
   have v8:=v8.stp hs rfl
   have l9:=l9.stp hs rfl
   have t5:=t5.stp hs
   have l5:=l5.stp hs rfl
   have o0:=o0.stp hs
   have u3:=u3.stp hs
   have vB:=vB.stp hs
   have b256:=b256.stp hs rfl
   clear cb
   refine Ze .plain rfl (Gk (g:=yK) (v:=pH) Try.sizeOf144 rfl b257 rfl vB fun aG nN hs b258 cb=>?_)
   clear cb
   have hfr:=hfr.stp hs
   have hmk:=hmk.stp hs
   have n8:=n8.stp hs
   have hrec_0:=hrec_0.stp hs rfl
   have g8:=g8.stp hs
   have i6:=i6.stp hs
   have l8:=l8.stp hs
   have v8:=v8.stp hs rfl
   have l9:=l9.stp hs rfl
   have t5:=t5.stp hs
   have l5:=l5.stp hs rfl
   have o0:=o0.stp hs
   have u3:=u3.stp hs
   have b256:=b256.stp hs rfl
   refine Zb (Zd ?_)
   obtain ⟨aL,hbr,hs,hrN⟩:=begin_round hrec_0 zG
   refine ⟨aL,hbr,?_⟩
   have hfr:=hfr.stp hs
   have hmk:=hmk.stp hs
   have n8:=n8.stp hs
   have g8:=g8.stp hs
   have i6:=i6.stp hs
   have l8:=l8.stp hs
   have v8:=v8.stp hs rfl
   have l9:=l9.stp hs rfl
   have t5:=t5.stp hs
   have l5:=l5.stp hs rfl
   have o0:=o0.stp hs
   have u3:=u3.stp hs
   have b256:=b256.stp hs rfl
   have b258:=b258.stp hs rfl
   have hrec_0:=hrN
   clear hbr hs hrN
   refine Zr ?_
   refine Zf (Za (Ze .plain rfl (Gr (g:=aG) Try.isAgg112 Try.sizeOf112 rfl l8 fun bL dL=>?_)))
   refine Ze .plain rfl (Gr (g:=aG) Try.isAgg42 Try.sizeOf42 rfl i6 fun eL gL=>?_)
   refine Ze .plain rfl (Qj (g:=aG) Try.isAgg144 Try.sizeOf144 rfl b258 fun iL jL=>?_)
   obtain ⟨oB,mJ,h⟩:=Gc h
   refine Ze .plain rfl (Zp (g:=aG) (vs:=[bL,eL,iL]) en88 (.cons rfl (.cons rfl (.cons rfl .nil))) (wk88 dL gL jL mJ) fun lL cN oN hs hr=>?_)
   have hfr:=hfr.ext hs
   have hmk:=hmk.ext hs
   have n8:=n8.ext hs
   have hrec_0:=hrec_0.ext hs
   have g8:=g8.ext hs
   have i6:=i6.ext hs
   have l8:=l8.ext hs
   have v8:=v8.ext hs
   have l9:=l9.ext hs
   have t5:=t5.ext hs
   have l5:=l5.ext hs
   have o0:=o0.ext hs
   have u3:=u3.ext hs
   have b256:=b256.ext hs
   have b258:=b258.ext hs
   obtain ⟨eF,kM,rfl,rF,rfl⟩:=hr
   refine Zn (.tuple #[eF,.bool (oB.2)]) rfl rfl ?_
   refine Zy eF (Zi rfl rfl) rfl ?_
   refine Zy (.bool (oB.2)) (Zi rfl rfl) rfl ?_
   refine Ze .plain rfl (Gs (g:=lL) 2010 (⟨0,0,⟨(⟨List.toArray [(⟨List.toArray [0,0,0,0],rfl⟩:Vector Int 4),(⟨List.toArray [0,0,0,0],rfl⟩:Vector Int 4)],rfl⟩:Vector (Vector Int 4) 2),⟨0,0⟩⟩⟩:Gd) Try.zeroValue112 (fun m w=>⟨_,(Gg Zx (Gg Zx (Gg (Gt (Zw (Gt (Zw Zx (Zw Zx (Zw Zx (Zw Zx Gm)))) rfl) (Zw (Gt (Zw Zx (Zw Zx (Zw Zx (Zw Zx Gm)))) rfl) Gm)) rfl) (Gg Zx Zx)))),rfl⟩) fun mL pN sH hs b265 cb=>?_)
   have hfr:=hfr.stp hs
   have hmk:=hmk.stp hs
   have n8:=n8.stp hs
   have hrec_0:=hrec_0.stp hs rfl
   have g8:=g8.stp hs
   have i6:=i6.stp hs
   have l8:=l8.stp hs
   have v8:=v8.stp hs rfl
   have l9:=l9.stp hs rfl
   have t5:=t5.stp hs
   have l5:=l5.stp hs rfl
   have o0:=o0.stp hs
   have u3:=u3.stp hs
   have b256:=b256.stp hs rfl
   have b258:=b258.stp hs rfl
   have rF:=rF.stp hs
   clear cb
   refine Ze .plain rfl (Gk (g:=mL) (v:=eF) Try.sizeOf112 rfl b265 rfl rF fun bG tH hs b266 cb=>?_)
   clear cb
   have hfr:=hfr.stp hs
   have hmk:=hmk.stp hs
   have n8:=n8.stp hs
   have hrec_0:=hrec_0.stp hs rfl
   have g8:=g8.stp hs
   have i6:=i6.stp hs
   have l8:=l8.stp hs
   have v8:=v8.stp hs rfl
   have l9:=l9.stp hs rfl
   have t5:=t5.stp hs
   have l5:=l5.stp hs rfl
   have o0:=o0.stp hs
   have u3:=u3.stp hs
   have b256:=b256.stp hs rfl
   have b258:=b258.stp hs rfl
   refine Zg (.bool (oB.2)) rfl rfl ?_
   refine Zb (Zd ?_)
   obtain ⟨⟨lD,yB⟩,hx,h⟩:=Gc h
   refine Th (fun e w=>∃ (g:Gh) ,FrM iI gI wI g w∧MkF g w []∧RFr kG nH g w∧HB 10 g w lJ (.loop { mH with state:=.busy })∧e 3=p1∧PT g.m w (⟨up0,hone500200⟩:Fv) p1∧e 4=p2∧PT g.m w (x1:List (List Int)) p2∧e 5=p3∧PT g.m w (x2:Gd) p3∧e 6=p4∧OB 2006 g w 83 (iE:Ge) p4∧e 7=p5∧OB 2007 g w 112 (cF:Gd) p5∧e 8=qH∧OB 2008 g w 83 (vC:Ge) qH∧e 10=sH∧OB 2010 g w 112 (oB.1:Gd) sH∧e 15=jG∧ItV Try.prog (RA2 (α:=Ge) (β:=Te)) yF jG g.m w∧e 39=.bool (lD)∧MP (Ws Ty) 1 g w (yB:List (Gd × Int)) kv500000∧FC g.m w 2 kv500000 up0∧PT g.m w (x0:Tn) up0) (fun Q' hQ=>?_) (fun dN qN hR=>?_)
   ·replace h := hx
    clear hx
    rcases Zt h with ⟨n9,h⟩ | ⟨n9,h⟩
    ·refine Wg (x := .tmp 27) part_BoxStep_2.1 Try.isAgg3 Try.sizeOf3 b258 fun rN nL nJ => ?_
     obtain rfl:=Zj.1 nL
     refine Zs (α:=Fv) (x:=.tmp 3) Try.isAgg113 Try.sizeOf113 g8 fun uH xH oJ=>?_
     have e297:uH=up0:=RV_fv.1 xH
     clear xH
     subst uH
     refine Zs (x:=.tmp 4) Try.isAgg42 Try.sizeOf42 i6 fun yH lG pJ=>?_
     refine Wq (x:=.tmp 10) Try.isAgg112 Try.sizeOf112 b266 fun zH mG qJ=>?_
     obtain ⟨yE,rJ,h⟩:=Gc h
     refine Zs (α:=Fv) (x:=.tmp 3) Try.isAgg113 Try.sizeOf113 g8 fun aI bI sJ=>?_
     have e302:aI=up0:=RV_fv.1 bI
     clear bI
     subst aI
     refine Zs (x:=.tmp 4) Try.isAgg42 Try.sizeOf42 i6 fun dI sG vJ=>?_
     refine Zs (x:=.tmp 5) Try.isAgg112 Try.sizeOf112 l8 fun jI xG xJ=>?_
     obtain ⟨dF,zJ,h⟩:=Gc h
     refine E_drawC (g:=bG) (w:=tH) (n:=13) [0,1,2,3,4,5,6,8,9,10,11] [2009,2010] [0,1,2,3,4,5,6,7,8,9,10,11,12] rfl Qf (by kernel_rfl) fun w_c293 hs hlt=>?_
     have hfr:=hfr.ext hs
     have hmk:=hmk.ext hs
     have n8:=n8.ext hs
     have hrec_0:=hrec_0.ext hs
     have g8:=g8.ext hs
     have i6:=i6.ext hs
     have l8:=l8.ext hs
     have v8:=v8.ext hs
     have l9:=l9.ext hs
     have t5:=t5.ext hs
     have l5:=l5.ext hs
     have o0:=o0.ext hs
     have u3:=u3.ext hs
     have b256:=b256.ext hs
     have b258:=b258.ext hs
     have b266:=b266.ext hs
     clear hs
     refine Qy (c:=.bool (oB.2)) rfl rfl .plain (Zk rfl) ?_
     refine Qy (c:=.bool (oB.2)) rfl rfl .plain (Zk rfl) ?_
     refine Qy (c:=Gj zK 11) rfl rfl (.yes2 rfl rfl n9) (Zc at_144_2 rfl (OB.ptr b258)) ?_
     refine CH_ldO (n:=2009) (c:=.int .i64 ((bD).moves)) rfl rfl (.yes2 rfl rfl n9) nJ rfl rfl ?_
     refine CH_ldP (c:=up0) rfl rfl (.yes2 rfl rfl n9) oJ rfl ?_
     refine CH_ldP (c:=yH) rfl rfl (.yes2 rfl rfl n9) pJ rfl ?_
     have lG:=lG.ch hlt.1
     refine CH_ldO (n:=2010) (c:=zH) rfl rfl (.yes2 rfl rfl n9) qJ rfl rfl ?_
     have mG:=mG.ch hlt.1
     refine CH_do rfl rfl (.yes2 rfl rfl n9) (D_callM (g:=bG) (i:=1) (vs:=[up0,yH,zH]) en57 (.cons rfl (.cons rfl (.cons rfl .nil))) (wk57 big u3 o0 l5 lG mG rJ) fun oL eN sN hs hr=>?_)
     obtain ⟨hrv,b300⟩:=hr
     have hfr:=hfr.stp hs
     have hmk:=hmk.stp hs
     have n8:=n8.stp hs
     have hrec_0:=hrec_0.stp hs rfl
     have hlt:=hlt.stp hs
     have g8:=g8.stp hs
     have i6:=i6.stp hs
     have l8:=l8.stp hs
     have v8:=v8.stp hs rfl
     have l9:=l9.stp hs rfl
     have t5:=t5.stp hs
     have o0:=o0.stp hs
     have u3:=u3.stp hs
     have b256:=b256.stp hs rfl
     have b266:=b266.stp hs rfl
     subst hrv
     refine ⟨hlt.toW,?_⟩
     refine Qy (c:=.int .i64 ((w64 ((bD).moves + yE.1)))) rfl rfl (.yes2 rfl rfl n9) (Td rfl rfl rfl) ?_
     refine CH_ldP (c:=up0) rfl rfl (.yes2 rfl rfl n9) sJ rfl ?_
     refine CH_ldP (c:=dI) rfl rfl (.yes2 rfl rfl n9) vJ rfl ?_
     have sG:=sG.ch hlt.1
     refine CH_ldP (c:=jI) rfl rfl (.yes2 rfl rfl n9) xJ rfl ?_
     have xG:=xG.ch hlt.1
     refine CH_do rfl rfl (.yes2 rfl rfl n9) (D_callM (g:=oL) (i:=1) (vs:=[up0,dI,jI]) en57 (.cons rfl (.cons rfl (.cons rfl .nil))) (wk57 big u3 o0 b300 sG xG zJ) fun xL gN tN hs hr=>?_)
     obtain ⟨hrv,b305⟩:=hr
     have hfr:=hfr.stp hs
     have hmk:=hmk.stp hs
     have n8:=n8.stp hs
     have hrec_0:=hrec_0.stp hs rfl
     have hlt:=hlt.stp hs
     have g8:=g8.stp hs
     have i6:=i6.stp hs
     have l8:=l8.stp hs
     have v8:=v8.stp hs rfl
     have l9:=l9.stp hs rfl
     have t5:=t5.stp hs
     have o0:=o0.stp hs
     have u3:=u3.stp hs
     have b256:=b256.stp hs rfl
     have b266:=b266.stp hs rfl
     subst hrv
     refine ⟨hlt.toW,?_⟩
     refine CH_nil ?_
     clear hlt
     refine Zz (.bool (((w64 ((bD).moves + yE.1)) == dF.1))) (Td rfl rfl rfl) rfl rfl n9 rfl ?_
     refine Zy (.bool (((w64 ((bD).moves + yE.1)) == dF.1))) (Zl (b:=oB.2) rfl (Tp n9 rfl)) rfl ?_
     refine Zb ?_
     obtain ⟨rfl,rfl⟩:=pairs2 h
     exact hQ _ _ ⟨xL,hfr,hmk,n8,hrec_0,rfl,g8,rfl,i6,rfl,l8,rfl,v8,rfl,l9,rfl,b256,rfl,b266,rfl,t5,rfl,b305,o0,u3⟩
    ·refine E_drawC (g := bG) (w := tH) (n := 13) [0, 1, 2, 3, 4, 5, 6, 7, 8, 9, 10, 11, 12] [] [0, 1, 2, 3, 4, 5, 6, 7, 8, 9, 10, 11, 12] rfl Qf (by kernel_rfl) fun w_c293 hs hlt => ?_
     have hfr:=hfr.ext hs
     have hmk:=hmk.ext hs
     have n8:=n8.ext hs
     have hrec_0:=hrec_0.ext hs
     have g8:=g8.ext hs
     have i6:=i6.ext hs
     have l8:=l8.ext hs
     have v8:=v8.ext hs
     have l9:=l9.ext hs
     have t5:=t5.ext hs
     have l5:=l5.ext hs
     have o0:=o0.ext hs
     have u3:=u3.ext hs
     have b256:=b256.ext hs
     have b266:=b266.ext hs
     clear hs
     refine Qy (c:=.bool (oB.2)) rfl rfl .plain (Zk rfl) ?_
     refine Qy (c:=.bool (oB.2)) rfl rfl .plain (Zk rfl) ?_
     iterate 11 refine CH_skip rfl (.no2 rfl rfl n9 rfl) ?_
     refine CH_nil ?_
     clear hlt
     refine Ga rfl rfl n9 rfl rfl ?_
     refine Zy (.bool false) (Zl (b:=oB.2) rfl (Tl n9 rfl)) rfl ?_
     refine Zb ?_
     obtain ⟨rfl,rfl⟩:=pairs2 h
     exact hQ _ _ ⟨bG,hfr,hmk,n8,hrec_0,rfl,g8,rfl,i6,rfl,l8,rfl,v8,rfl,l9,rfl,b256,rfl,b266,rfl,t5,rfl,l5,o0,u3⟩
   ·clear hx
    obtain ⟨uN,hfr,hmk,n8,hrec_0,pM,nD,qM,oD,rM,yD,kI,iG,lI,uE,mI,nI,aH,cH,iM,uC,xF,mB,aB,lB⟩:=hR
    rcases Zt h with ⟨cG,h⟩ | ⟨cG,h⟩
    ·refine To (Eq.trans (show ev _ _ = .bool (lD) from xF) (congrArg Value.bool cG)) ?_
     refine Zf (Wq (x:=.tmp 8) Try.isAgg83 Try.sizeOf83 nI fun yL zL aK=>?_)
     refine Wq (x:=.tmp 10) Try.isAgg112 Try.sizeOf112 cH fun pI yG bK=>?_
     refine E_drawB (a0:=(iE:Ge)) (a1:=(vC:Ge)) iG (n:=3) [(2,(fun _ g w=>OB 2006 g w 83 (vC:Ge) p4))] [0,1,2] rfl Qf (by kernel_rfl) (⟨fun _=>up_box,trivial⟩) ?_
     refine Gy (c:=yL) rfl rfl .plain (fun _ _ h=>⟨h.1.ch,fun b hb ho=>h.1.block b hb (by rw [ho]; decide)⟩) aK mI ?_
     refine Gy (c:=pI) rfl rfl .plain (fun _ _ h=>⟨h.1.ch,fun b hb ho=>h.1.block b hb (by rw [ho]; decide)⟩) bK aH ?_
     refine Qa (φ:=fun _ g w=>OB 2006 g w 83 (vC:Ge) p4) rfl rfl .plain (fun g w hd=>D_storeR0 (g:=g) Try.sizeOf83 kI hd.1.2 rfl (zL.stp hd.1.1)) (fun vN hv=>?_)
     clear hv
     refine L_nil fun aM xN hall=>?_
     have hs:=hall.1.1
     have hfr:=hfr.stp hs
     have hmk:=hmk.stp hs
     have n8:=n8.stp hs
     have hrec_0:=hrec_0.stp hs rfl
     have nD:=nD.stp hs
     have oD:=oD.stp hs
     have yD:=yD.stp hs
     have uE:=uE.stp hs rfl
     have uC:=uC.stp hs
     have mB:=mB.stp hs rfl
     have aB:=aB.stp hs
     have lB:=lB.stp hs
     have yG:=yG.stp hs
     have b319:=(Gl (A:=fun g w=>OB 2006 g w 83 (vC:Ge) p4) 2 rfl hall)
     clear hs hall
     refine Ze .plain rfl (Gk (g:=aM) (v:=pI) Try.sizeOf112 lI uE rfl yG fun yN zN hs b330 cb=>?_)
     clear cb
     have hfr:=hfr.stp hs
     have hmk:=hmk.stp hs
     have n8:=n8.stp hs
     have hrec_0:=hrec_0.stp hs rfl
     have nD:=nD.stp hs
     have oD:=oD.stp hs
     have yD:=yD.stp hs
     have b319:=b319.stp hs rfl
     have uC:=uC.stp hs
     have mB:=mB.stp hs rfl
     have aB:=aB.stp hs
     have lB:=lB.stp hs
     refine Zb (Zd (Gw (Qu ?_)))
     obtain ⟨rfl,rfl⟩:=pairs2 h
     exact ⟨_,n8,⟨hfr,hmk,nD,oD,yD,b319,b330,uC,mB,aB,lB⟩,hrec_0,rfl,0,rfl,rfl⟩
    ·refine Tk (Eq.trans (show ev _ _ = .bool (lD) from xF) (congrArg Value.bool cG)) ?_
     refine Zu (Qn ?_)
     obtain ⟨rfl,rfl⟩:=pairs2 h
     exact ⟨_,n8,⟨hfr,hmk,nD,oD,yD,iG,uE,uC,mB,aB,lB⟩,hrec_0,rfl,rfl⟩
  ·intro bM aO ds332 hsz hR hds
   obtain ⟨hfr,hmk,sM,tM,uM,vE,xE,jM,cC,sF,tF⟩:=hR
   obtain ⟨D,hdse,hD,hDb⟩:=hds.1 rfl
   subst hdse
   replace hmk:=MkF.push hmk0 hmk hD hDb
   clear hD hDb hds
   revert hmk
   generalize ({ target:=.collected D,args:=#[] } :: []:List Deferred)=vM
   intro hmk
   refine ⟨fun hs=>?_,fun k c hs hc=>?_⟩
   ·have hs : lE = 0 := hs
    subst hs
    replace h:=cond_t h rfl
    exact Qn (Zd (jJ (mE,oE,zB) _ _ _ ⟨bM,hfr,hmk,rfl,vE,rfl,xE,cC,sF,tF⟩ h))
   ·have hs : lE = k + 1 := hs
    match k,hs,hc with
    | 0,hs,hc=>
     subst hs
     obtain rfl:=sinj hc
     replace h:=cond_f h rfl
     refine Gw (Qu ?_)
     refine Tc ?_
     refine endM (.inr rfl) hmk fun bO cO hs=>?_
     have hfr:=hfr.stp hs
     have vE:=vE.stp hs rfl
     have xE:=xE.stp hs rfl
     have cC:=cC.stp hs rfl
     obtain rfl:=sinj h
     obtain ⟨ad334,cv334,hp334,cK,cr334⟩:=Qv Try.isAgg83 Try.sizeOf83 vE
     obtain ⟨ad335,cv335,hp335,dK,cr335⟩:=Qv Try.isAgg112 Try.sizeOf112 xE
     exact endm_cc rfl rfl ((show _=p4 from rfl).trans hp334) cK ((show _=p5 from rfl).trans hp335) dK ⟨_,hfr,⟨_,_,rfl,cr334,cr335⟩,rE.back cC⟩
    | n + 1,_,hc=>exact absurd hc (by simp)
 ·rintro ⟨eG, gG, bE⟩ iN xM dO ⟨cM, hfr, hmk, uF, zD, vF, aE, nB, qI, sI⟩ h
  refine Zf (L_selfO Try.isAgg83 Try.sizeOf83 rfl zD fun dM lK mK=>?_)
  refine L_selfO Try.isAgg112 Try.sizeOf112 rfl aE fun eM nK oK=>?_
  refine Tt (g:=cM) (n:=4) [(2,(fun _ _ _=>True)),(3,(fun _ _ _=>True))] [0,1,2,3] rfl Qf (by kernel_rfl) (⟨fun _=>(fun _ _ _ _ _ _=>trivial),fun _=>(fun _ _ _ _ _ _=>trivial),trivial⟩) ?_
  refine Gy (c:=dM) rfl rfl .plain (fun _ _ h=>⟨h.ch,fun b hb _=>h.below.block b hb⟩) (lK _) uF ?_
  refine Gy (c:=eM) rfl rfl .plain (fun _ _ h=>⟨h.ch,fun b hb _=>h.below.block b hb⟩) (nK _) vF ?_
  refine Qa (φ:=fun _ _ _=>True) rfl rfl .plain (fun g w hd=>mK _ _ _ g w ⟨hd.1.ch,fun b hb _=>hd.1.below.block b hb⟩ uF rfl) (fun eO hv=>?_)
  clear hv
  refine Qa (φ:=fun _ _ _=>True) rfl rfl .plain (fun g w hd=>oK _ _ _ g w ⟨hd.1.ch,fun b hb _=>hd.1.below.block b hb⟩ vF rfl) (fun gO hv=>?_)
  clear hv
  refine L_nl fun jO kO hs=>?_
  have hfr:=hfr.ext hs
  have hmk:=hmk.ext hs
  have zD:=zD.ext hs
  have aE:=aE.ext hs
  have nB:=nB.ext hs
  clear hs
  refine Zb (Zd (Gw (endM (.inr rfl) hmk fun lO mO hs=>?_)))
  have hfr:=hfr.stp hs
  have zD:=zD.stp hs rfl
  have aE:=aE.stp hs rfl
  have nB:=nB.stp hs rfl
  obtain rfl:=sinj h
  obtain ⟨ad350,cv350,hp350,pK,cr350⟩:=Qv Try.isAgg83 Try.sizeOf83 zD
  obtain ⟨ad351,cv351,hp351,qK,cr351⟩:=Qv Try.isAgg112 Try.sizeOf112 aE
  exact endm_cc rfl rfl ((show _=p4 from uF).trans hp350) pK ((show _=p5 from vF).trans hp351) qK ⟨_,hfr,⟨_,_,rfl,cr350,cr351⟩,rE.back nB⟩
def f67 (x0:Tn) (m0:List (Gd × Int)) (x1:List (List Int)) (x2:List (Gd × Int)) (x3:Int):Option (List (Int × (Option (List (Gd × Int))) × (List (Gd × Int)))):=
 jn (σ:=Int × Option (List (Gd × Int)) × (List (Gd × Int))) (fun (eF,gL,pH)=>
  some [(eF,gL,pH)]
  ) fun kN=>
 lp (σ:=Int × Option (List (Gd × Int)) × (List (Gd × Int)) × (List (Gd × Int))) (fun lN (sG,xG,dI,oE)=>
  bif dI.isEmpty then
   kN (sG,xG,oE)
  else pickL dI fun cC rm1074=>
   (f80 x0 ((cC.1).race)).bind fun sH=>
   (sH (Int × Option (List (Gd × Int)) × (List (Gd × Int))) (fun (zB,yG,vF) (bO,i6)=>
    (f88 (cC.1) x1 i6).bind fun bD=>
    jn (σ:=(List (Gd × Int))) (fun iG=>
     Option.bind (α:=Int × Option (List (Gd × Int))) (
      bif (decide ((i6).colour < zB)) then
       some ((i6).colour,(some (([]:List (Gd × Int)))))
      else
       some (zB,yG)
      ) fun (sI,jJ)=>
     (jJ).bind fun mN=>
     some (true,(sI,(some (mset mN (bD.1) ((w64 (cC.2 + (i6).moves))))),iG))
     ) fun nN=>
    Option.bind (α:=Bool × (List (Gd × Int))) (
     bif (!bD.2) then
      some (true,vF)
     else
      bif (decide ((i6).colour > zB)) then
       some (true,vF)
      else
       (f57 big x0 vF x1 (bD.1)).bind fun tH=>
       some (((w64 ((w64 (cC.2 + (i6).moves)) + tH.1)) != x3),tH.2)
     ) fun (jG,rE)=>
    bif jG then
     some (true,(zB,yG,rE))
    else
     nN (rE)
    ) (sG,xG,oE)).bind fun (kJ,lJ,kG)=>
   lN (kJ,lJ,rm1074,kG)
  ) big ((1073741824:Int),none,x2,m0)
theorem en67:Enters Try.prog 67:=enters_of Try.func67 (by kernel_rfl) rfl
theorem wk67 {iI iO:Nat} {gI:Gh} {wI:World} {x0:Tn} {m0:List (Gd × Int)} {x1:List (List Int)} {x2:List (Gd × Int)} {x3:Int} {up0:Value} (rp0:PT gI.m wI x0 up0) {kv500000:Value} (fc0:FC gI.m wI 2 kv500000 up0) (mp500000:MP (Ws Ty) iI gI wI m0 kv500000) {up1:Value} (rp1:RV gI.m wI x1 up1) {up2:Value} (mz2:MZ (Ws Ty) iI gI wI x2 up2) {r0:List (Int × (Option (List (Gd × Int))) × (List (Gd × Int)))} (h:f67 x0 m0 x1 x2 x3=some r0):FnM Try.prog 67 #[up0,up1,up2,.int .i64 (x3)] iI gI wI (fun g w v=>∃ q,q ∈ r0∧∃ y0 y1,v=.tuple #[y0,y1]∧y0=.int .i64 (q.1)∧MO (Ws Ty) iO g w (q.2.1) y1∧MP (Ws Ty) iI g w (q.2.2) kv500000):=by
 obtain ⟨r,h,hsub⟩:∃ r,f67 x0 m0 x1 x2 x3=some r∧∀ a ∈ r,a ∈ r0:=⟨r0,h,fun _ h=>h⟩
 unfold f67 at h
 refine fnDMG_of_E Try.func67 rfl (Nat.le_of_ble_eq_true rfl) fun g0 hm hfr=>?_
 have hmk:MkF g0 wI []:=MkF.start
 have my2:=MY.enter mz2
 rw [← hm] at my2
 have aM:=mp500000
 replace mp500000:=mp500000.enter
 rw [← hm] at mp500000
 replace hm:g0.m=gI.m:=by rw [hm]
 have hone500200:=PT.one rp0
 have fc0:FC g0.m wI 2 kv500000 up0:=hm ▸ fc0
 have rp0:PT g0.m wI x0 up0:=hm ▸ rp0
 have rp1:RV g0.m wI x1 up1:=hm ▸ rp1
 show E _ 72 none _ _ _ _ _
 refine Zf (Za (Ze .plain rfl (We (g:=g0) (a:=(⟨up0,hone500200⟩:Fv)) rfl (RV_fv.2 rfl) fun g1 w1 p1 hs q1=>?_)))
 have hfr:=hfr.ext hs
 have hmk:=hmk.ext hs
 have rp0:=rp0.ext hs
 have mp500000:=mp500000.ext hs
 have fc0:=fc0.ext hs
 have rp1:=rp1.ext hs
 have my2:=my2.ext hs
 refine Ze .plain rfl (We (g:=g1) rfl rp1 fun g2 w2 p2 hs q2=>?_)
 have hfr:=hfr.ext hs
 have hmk:=hmk.ext hs
 have rp0:=rp0.ext hs
 have mp500000:=mp500000.ext hs
 have fc0:=fc0.ext hs
 have my2:=my2.ext hs
 have q1:=q1.ext hs
 refine Ze .plain rfl (We (g:=g2) rfl (Zj.2 rfl) fun g3 w3 p3 hs q3=>?_)
 have hfr:=hfr.ext hs
 have hmk:=hmk.ext hs
 have rp0:=rp0.ext hs
 have mp500000:=mp500000.ext hs
 have fc0:=fc0.ext hs
 have my2:=my2.ext hs
 have q1:=q1.ext hs
 have q2:=q2.ext hs
 refine Ze .plain rfl (Gs (g:=g3) 2008 (0:Int) Try.zeroValue3 (fun m w=>⟨_,Zx,rfl⟩) fun g4 w4 p4 hs b4 cb=>?_)
 have hfr:=hfr.stp hs
 have hmk:=hmk.stp hs
 have rp0:=rp0.stp hs
 have mp500000:=mp500000.stp hs rfl
 have fc0:=fc0.stp hs
 have my2:=my2.stp hs
 have q1:=q1.stp hs
 have q2:=q2.stp hs
 have q3:=q3.stp hs
 clear cb
 refine Ze .plain rfl (Gs (g:=g4) 2009 (⟨.map none,rfl⟩:Fv) Try.zeroValue124 (fun _ _=>fvm_rep) fun g5 w5 p5 hs b5 cb=>?_)
 clear cb
 have hfr:=hfr.stp hs
 have hmk:=hmk.stp hs
 have rp0:=rp0.stp hs
 have mp500000:=mp500000.stp hs rfl
 have fc0:=fc0.stp hs
 have my2:=my2.stp hs
 have q1:=q1.stp hs
 have q2:=q2.stp hs
 have q3:=q3.stp hs
 have b4:=b4.stp hs rfl
 have z5:MO (Ws Ty) 8009 g5 w5 (none:Option (List (Gd × Int))) (.map none):=MO.nil
 refine Zb (Zd (Zf (Za (Ze .plain rfl (Gk (g:=g5) (v:=.int .i64 (1073741824)) Try.sizeOf3 rfl b4 rfl (Zj.2 rfl) fun g6 w6 hs b6 cb=>?_)))))
 clear cb
 have hfr:=hfr.stp hs
 have hmk:=hmk.stp hs
 have rp0:=rp0.stp hs
 have mp500000:=mp500000.stp hs rfl
 have fc0:=fc0.stp hs
 have my2:=my2.stp hs
 have q1:=q1.stp hs
 have q2:=q2.stp hs
 have q3:=q3.stp hs
 have b5:=b5.stp hs rfl
 have z5:=z5.stp hs rfl
 refine Zb (Zd (E_joinCDL h hsub (fun (s:Int × Option (List (Gd × Int)) × (List (Gd × Int))) e ds w=>∃ (g:Gh) ,FrM iI gI wI g w∧MkF g w ds∧e 8=p4∧OB 2008 g w 3 (s.1:Int) p4∧e 9=p5∧BMo (Ws Ty) 2009 8009 g w 124 (s.2.1:Option (List (Gd × Int))) p5∧MP (Ws Ty) 1 g w (s.2.2:List (Gd × Int)) kv500000∧FC g.m w 2 kv500000 up0∧PT g.m w (x0:Tn) up0) (fun X1070 kN zO r h hsub=>?_) ?_))
 ·refine Zf (Za (Zn up2 rfl rfl ?_))
  refine Ze .plain rfl (D_rangeJ (g:=g6) 7517 Try.underlying124 rfl my2 fun tP tS bG hs b1071=>?_)
  have hfr:=hfr.stp hs
  have hmk:=hmk.stp hs
  have rp0:=rp0.stp hs
  have mp500000:=mp500000.stp hs rfl
  have fc0:=fc0.stp hs
  have q1:=q1.stp hs
  have q2:=q2.stp hs
  have q3:=q3.stp hs
  have b6:=b6.stp hs rfl
  have b5:=b5.stp hs rfl
  have z5:=z5.stp hs rfl
  refine Zb (Zd (Zr ?_))
  refine E_lpDL h hsub (fun (s:Int × Option (List (Gd × Int)) × (List (Gd × Int)) × (List (Gd × Int))) e ds w=>∃ (g:Gh) ,FrM iI gI wI g w∧MkF g w ds∧e 4=p1∧PT g.m w (⟨up0,hone500200⟩:Fv) p1∧e 5=p2∧PT g.m w (x1:List (List Int)) p2∧e 7=p3∧PT g.m w (x3:Int) p3∧e 8=p4∧OB 2008 g w 3 (s.1:Int) p4∧e 9=p5∧BMo (Ws Ty) 2009 8009 g w 124 (s.2.1:Option (List (Gd × Int))) p5∧e 17=bG∧MJ (Ws Ty) 7517 wI.heap.size g w (s.2.2.1:List (Gd × Int)) none bG∧MP (Ws Ty) 1 g w (s.2.2.2:List (Gd × Int)) kv500000∧FC g.m w 2 kv500000 up0∧PT g.m w (x0:Tn) up0) ⟨tP,hfr,hmk,rfl,q1,rfl,q2,rfl,q3,rfl,b6,rfl,⟨_,b5,z5⟩,rfl,b1071.dropc,mp500000,fc0,rp0⟩ (fun X1072 lN aP=>?_)
  rintro ⟨sG,xG,dI,oE⟩ lS zG uS ⟨bM,hfr,hmk,cG,lD,eG,bE,aH,iE,xF,nD,cH,⟨uR,oD,yD⟩,dF,lK,lB,v8,t5⟩ r h hsub
  refine Zf (Za ?_)
  rcases Zt h with ⟨mK,h⟩ | ⟨mK,h⟩
  ·refine Ze .plain rfl (D_nextJ_f (g := bM) dF lK mK ?_)
   refine Zy (.bool false) (Zi rfl rfl) rfl ?_
   refine Zb (Zd (Zf (Tk (by rw [show ev _ _=_ from rfl]; exact congrArg Value.bool rfl) ?_)))
   refine Qm ?_
   refine Tm ?_
   refine Tm ?_
   refine Tu ?_
   exact Zd (zO (sG,xG,oE) _ _ _ ⟨bM,hfr,hmk,xF,nD,cH,⟨_,oD,yD⟩,lB,v8,t5⟩ _ h hsub)
  ·refine Ze .plain rfl (D_nextJ_t (g := bM) dF lK rfl mK fun cC rm1074 u1074 cM uP hmem hs b1074 ru1074 => ?_)
   replace h:=pickL_h h hsub _ hmem
   clear hsub hmem
   obtain ⟨r,h,hsub⟩:=h
   obtain rfl:=Zj.1 ru1074
   have hfr:=hfr.stp hs
   have hmk:=hmk.stp hs
   have lD:=lD.stp hs
   have bE:=bE.stp hs
   have iE:=iE.stp hs
   have nD:=nD.stp hs rfl
   have oD:=oD.stp hs rfl
   have yD:=yD.stp hs rfl
   have lB:=lB.stp hs rfl
   have v8:=v8.stp hs
   have t5:=t5.stp hs
   refine Zy (.bool true) (Zi rfl rfl) rfl ?_
   refine Zb (Zd (Zf (To (by rw [show ev _ _=_ from rfl]; exact congrArg Value.bool rfl) ?_)))
   refine Zu (Zd (Zr ?_))
   refine Zf (Za (Ze .plain rfl (D_entryJ (g:=cM) dF b1074 fun vS vP=>?_)))
   have kr1075:=encK_rv Ty cM.m uP cC.1
   obtain rfl:=Zj.1 vP
   refine Zy ((Ws Ty cC.1)) (Zi rfl rfl) rfl ?_
   refine Zy (.int .i64 (cC.2)) (Zi rfl rfl) rfl ?_
   refine Ze .plain rfl (Gs (g:=cM) 2010 (⟨0,0,⟨(⟨List.toArray [(⟨List.toArray [0,0,0,0],rfl⟩:Vector Int 4),(⟨List.toArray [0,0,0,0],rfl⟩:Vector Int 4)],rfl⟩:Vector (Vector Int 4) 2),⟨0,0⟩⟩⟩:Gd) Try.zeroValue112 (fun m w=>⟨_,(Gg Zx (Gg Zx (Gg (Gt (Zw (Gt (Zw Zx (Zw Zx (Zw Zx (Zw Zx Gm)))) rfl) (Zw (Gt (Zw Zx (Zw Zx (Zw Zx (Zw Zx Gm)))) rfl) Gm)) rfl) (Gg Zx Zx)))),rfl⟩) fun xP xS mG hs b1076 cb=>?_)
   have hfr:=hfr.stp hs
   have hmk:=hmk.stp hs
   have lD:=lD.stp hs
   have bE:=bE.stp hs
   have iE:=iE.stp hs
   have nD:=nD.stp hs rfl
   have oD:=oD.stp hs rfl
   have yD:=yD.stp hs rfl
   have b1074:=b1074.stp hs rfl
   have lB:=lB.stp hs rfl
   have v8:=v8.stp hs
   have t5:=t5.stp hs
   clear cb
   refine Ze .plain rfl (Gs (g:=xP) 2011 (0:Int) Try.zeroValue3 (fun m w=>⟨_,Zx,rfl⟩) fun yP yS jH hs b1077 cb=>?_)
   have hfr:=hfr.stp hs
   have hmk:=hmk.stp hs
   have lD:=lD.stp hs
   have bE:=bE.stp hs
   have iE:=iE.stp hs
   have nD:=nD.stp hs rfl
   have oD:=oD.stp hs rfl
   have yD:=yD.stp hs rfl
   have b1074:=b1074.stp hs rfl
   have lB:=lB.stp hs rfl
   have v8:=v8.stp hs
   have t5:=t5.stp hs
   have b1076:=b1076.stp hs rfl
   clear cb
   refine Ze .plain rfl (Gk (g:=yP) (v:=(Ws Ty cC.1)) Try.sizeOf112 rfl b1076 rfl kr1075 fun zP zS hs b1078 cb=>?_)
   clear cb
   have hfr:=hfr.stp hs
   have hmk:=hmk.stp hs
   have lD:=lD.stp hs
   have bE:=bE.stp hs
   have iE:=iE.stp hs
   have nD:=nD.stp hs rfl
   have oD:=oD.stp hs rfl
   have yD:=yD.stp hs rfl
   have b1074:=b1074.stp hs rfl
   have lB:=lB.stp hs rfl
   have v8:=v8.stp hs
   have t5:=t5.stp hs
   have b1077:=b1077.stp hs rfl
   refine Ze .plain rfl (Gk (g:=zP) (v:=.int .i64 (cC.2)) Try.sizeOf3 rfl b1077 rfl (Zj.2 rfl) fun dM eT hs b1079 cb=>?_)
   clear cb
   have hfr:=hfr.stp hs
   have hmk:=hmk.stp hs
   have lD:=lD.stp hs
   have bE:=bE.stp hs
   have iE:=iE.stp hs
   have nD:=nD.stp hs rfl
   have oD:=oD.stp hs rfl
   have yD:=yD.stp hs rfl
   have b1074:=b1074.stp hs rfl
   have lB:=lB.stp hs rfl
   have v8:=v8.stp hs
   have t5:=t5.stp hs
   have b1078:=b1078.stp hs rfl
   refine Zb (Zd (Zf (Za (Ze .plain rfl (Gr (α:=Fv) (g:=dM) Try.isAgg113 Try.sizeOf113 cG lD fun oN pN=>?_)))))
   have e1080:oN=up0:=RV_fv.1 pN
   clear pN
   subst oN
   refine Zy (Gj mG 2) (Zc at_112_2 rfl (OB.ptr b1078)) rfl ?_
   refine Ze .plain rfl (Kb (g:=dM) part_BoxPoint_2.1 Try.isAgg108 Try.sizeOf108 rfl b1078 fun bQ cQ=>?_)
   obtain ⟨sH,bP,h⟩:=Gc h
   refine Ze .plain rfl (Zp (g:=dM) (vs:=[up0,bQ]) en80 (.cons rfl (.cons rfl .nil)) (wk80 t5 cQ bP) fun lT mS kH hs hr=>?_)
   have hfr:=hfr.ext hs
   have hmk:=hmk.ext hs
   have lD:=lD.ext hs
   have bE:=bE.ext hs
   have iE:=iE.ext hs
   have nD:=nD.ext hs
   have oD:=oD.ext hs
   have yD:=yD.ext hs
   have b1074:=b1074.ext hs
   have lB:=lB.ext hs
   have v8:=v8.ext hs
   have t5:=t5.ext hs
   have b1078:=b1078.ext hs
   have b1079:=b1079.ext hs
   have qN:=hr
   refine Zb (Zd (Zr ?_))
   have hB0:=hfr.size
   have hmk0:=hmk
   obtain ⟨⟨kJ,lJ,kG⟩,hφ,h⟩:=Gc h
   refine E_rangeFunc (σ:=(Int × Option (List (Gd × Int)) × (List (Gd × Int)))) (s0:=(sG,xG,oE)) 10 rfl (fun _=>0) [] (fun (s:Int × Option (List (Gd × Int)) × (List (Gd × Int))) (g:Gh) (w:World)=>FrM iI gI wI g w∧MkF g w zG∧PT g.m w (⟨up0,hone500200⟩:Fv) p1∧PT g.m w (x1:List (List Int)) p2∧PT g.m w (x3:Int) p3∧OB 2008 g w 3 (s.1:Int) p4∧BMo (Ws Ty) 2009 8009 g w 124 (s.2.1:Option (List (Gd × Int))) p5∧OB 2010 g w 112 (cC.1:Gd) mG∧OB 2011 g w 3 (cC.2:Int) jH∧MJ (Ws Ty) 7517 wI.heap.size g w (rm1074:List (Gd × Int)) none bG∧ItV Try.prog (RA2 (α:=Ge) (β:=Te)) sH kH g.m w∧MP (Ws Ty) 1 g w (s.2.2:List (Gd × Int)) kv500000∧FC g.m w 2 kv500000 up0∧PT g.m w (x0:Tn) up0) rfl qN hφ (fun _ _ _ _=>rfl) rfl ra2_size rfl (fun _ _ _ _ _ hx hR=>by obtain ⟨hfr,hmk,z2,z3,z4,z5,z6,z7,z8,z9,z10,z11,z12,z13⟩:=hR; exact ⟨hfr.ist hx hB0,hmk.ist hx,z2.ist hx,z3.ist hx,z4.ist hx,z5.ist hx,z6.ist hx,z7.ist hx,z8.ist hx,z9.ist hx hB0,z10.ist hx,z11.ist hx,z12.ist hx,z13.ist hx⟩) (fun _ _ _ _ _ hx hR=>by obtain ⟨hfr,hmk,z2,z3,z4,z5,z6,z7,z8,z9,z10,z11,z12,z13⟩:=hR; exact ⟨hfr.stp hx,hmk.stp hx,z2.stp hx,z3.stp hx,z4.stp hx,z5.stp hx rfl,z6.stp hx rfl,z7.stp hx rfl,z8.stp hx rfl,z9.stp hx rfl,z10.stp hx,z11.stp hx rfl,z12.stp hx,z13.stp hx⟩) ⟨hfr,hmk,lD,bE,iE,nD,⟨_,oD,yD⟩,b1078,b1079,b1074.dropc,qN,lB,v8,t5⟩ (fun _ h=>by cases h) ?_ ?_
   ·intro nK mJ s x b s2 nI cK vs hsz h hR hrec_0 qM hrd
    obtain ⟨zB,yG,vF⟩:=s
    obtain ⟨hfr,hmk,mB,aB,nB,oB,⟨vR,vB,yB⟩,g8,l8,l9,n9,l5,o0,u3⟩:=hR
    obtain ⟨bO,i6⟩:=x
    obtain ⟨xR,cO,rfl,mR,jI⟩:=ra2_get hrd
    have n8:=RFr.refl nI cK
    refine Za (Ze .plain rfl (Gs (g:=nI) 2013 (⟨⟨(⟨List.toArray [(⟨List.toArray [0,0,0,0],rfl⟩:Vector Int 4),(⟨List.toArray [0,0,0,0],rfl⟩:Vector Int 4)],rfl⟩:Vector (Vector Int 4) 2),⟨0,0⟩⟩,0,0⟩:Te) Try.zeroValue144 (fun m w=>⟨_,(Gg (Gg (Gt (Zw (Gt (Zw Zx (Zw Zx (Zw Zx (Zw Zx Gm)))) rfl) (Zw (Gt (Zw Zx (Zw Zx (Zw Zx (Zw Zx Gm)))) rfl) Gm)) rfl) (Gg Zx Zx)) (Gg Zx Zx)),rfl⟩) fun dQ mT cF hs b1609 cb=>?_))
    have hfr:=hfr.stp hs
    have hmk:=hmk.stp hs
    have n8:=n8.stp hs
    have hrec_0:=hrec_0.stp hs rfl
    have mB:=mB.stp hs
    have aB:=aB.stp hs
    have nB:=nB.stp hs
    have oB:=oB.stp hs rfl
    have vB:=vB.stp hs rfl
    have yB:=yB.stp hs rfl
    have g8:=g8.stp hs rfl
    have l8:=l8.stp hs rfl
    have l9:=l9.stp hs rfl
    have n9:=n9.stp hs
    have l5:=l5.stp hs rfl
    have o0:=o0.stp hs
    have u3:=u3.stp hs
    have jI:=jI.stp hs
    clear cb
    refine Ze .plain rfl (Gk (g:=dQ) (v:=cO) Try.sizeOf144 rfl b1609 rfl jI fun dK nT hs b1610 cb=>?_)
    clear cb
    have hfr:=hfr.stp hs
    have hmk:=hmk.stp hs
    have n8:=n8.stp hs
    have hrec_0:=hrec_0.stp hs rfl
    have mB:=mB.stp hs
    have aB:=aB.stp hs
    have nB:=nB.stp hs
    have oB:=oB.stp hs rfl
    have vB:=vB.stp hs rfl
    have yB:=yB.stp hs rfl
    have g8:=g8.stp hs rfl
    have l8:=l8.stp hs rfl
    have l9:=l9.stp hs rfl
    have n9:=n9.stp hs
    have l5:=l5.stp hs rfl
    have o0:=o0.stp hs
    have u3:=u3.stp hs
    refine Zb (Zd ?_)
    obtain ⟨eQ,hbr,hs,hrN⟩:=begin_round hrec_0 qM
    refine ⟨eQ,hbr,?_⟩
    have hfr:=hfr.stp hs
    have hmk:=hmk.stp hs
    have n8:=n8.stp hs
    have mB:=mB.stp hs
    have aB:=aB.stp hs
    have nB:=nB.stp hs
    have oB:=oB.stp hs rfl
    have vB:=vB.stp hs rfl
    have yB:=yB.stp hs rfl
    have g8:=g8.stp hs rfl
    have l8:=l8.stp hs rfl
    have l9:=l9.stp hs rfl
    have n9:=n9.stp hs
    have l5:=l5.stp hs rfl
    have o0:=o0.stp hs
    have u3:=u3.stp hs
    have b1610:=b1610.stp hs rfl
    have hrec_0:=hrN
    clear hbr hs hrN
    refine Zr ?_
    refine Zf (Za (Ze .plain rfl (Qj (g:=dK) Try.isAgg112 Try.sizeOf112 rfl g8 fun gQ iQ=>?_)))
    refine Ze .plain rfl (Gr (g:=dK) Try.isAgg42 Try.sizeOf42 eG aB fun jQ kQ=>?_)
    refine Ze .plain rfl (Qj (g:=dK) Try.isAgg144 Try.sizeOf144 rfl b1610 fun lQ mQ=>?_)
    obtain ⟨bD,cP,h⟩:=Gc h
    refine Ze .plain rfl (Zp (g:=dK) (vs:=[gQ,jQ,lQ]) en88 (.cons rfl (.cons rfl (.cons rfl .nil))) (wk88 iQ kQ mQ cP) fun nQ nS oT hs hr=>?_)
    have hfr:=hfr.ext hs
    have hmk:=hmk.ext hs
    have n8:=n8.ext hs
    have hrec_0:=hrec_0.ext hs
    have mB:=mB.ext hs
    have aB:=aB.ext hs
    have nB:=nB.ext hs
    have oB:=oB.ext hs
    have vB:=vB.ext hs
    have yB:=yB.ext hs
    have g8:=g8.ext hs
    have l8:=l8.ext hs
    have l9:=l9.ext hs
    have n9:=n9.ext hs
    have l5:=l5.ext hs
    have o0:=o0.ext hs
    have u3:=u3.ext hs
    have b1610:=b1610.ext hs
    obtain ⟨nJ,yR,rfl,oJ,rfl⟩:=hr
    refine Zn (.tuple #[nJ,.bool (bD.2)]) rfl rfl ?_
    refine Zy nJ (Zi rfl rfl) rfl ?_
    refine Zy (.bool (bD.2)) (Zi rfl rfl) rfl ?_
    refine Ze .plain rfl (Gs (g:=nQ) 2014 (⟨0,0,⟨(⟨List.toArray [(⟨List.toArray [0,0,0,0],rfl⟩:Vector Int 4),(⟨List.toArray [0,0,0,0],rfl⟩:Vector Int 4)],rfl⟩:Vector (Vector Int 4) 2),⟨0,0⟩⟩⟩:Gd) Try.zeroValue112 (fun m w=>⟨_,(Gg Zx (Gg Zx (Gg (Gt (Zw (Gt (Zw Zx (Zw Zx (Zw Zx (Zw Zx Gm)))) rfl) (Zw (Gt (Zw Zx (Zw Zx (Zw Zx (Zw Zx Gm)))) rfl) Gm)) rfl) (Gg Zx Zx)))),rfl⟩) fun oQ pT uH hs b1617 cb=>?_)
    have hfr:=hfr.stp hs
    have hmk:=hmk.stp hs
    have n8:=n8.stp hs
    have hrec_0:=hrec_0.stp hs rfl
    have mB:=mB.stp hs
    have aB:=aB.stp hs
    have nB:=nB.stp hs
    have oB:=oB.stp hs rfl
    have vB:=vB.stp hs rfl
    have yB:=yB.stp hs rfl
    have g8:=g8.stp hs rfl
    have l8:=l8.stp hs rfl
    have l9:=l9.stp hs rfl
    have n9:=n9.stp hs
    have l5:=l5.stp hs rfl
    have o0:=o0.stp hs
    have u3:=u3.stp hs
    have b1610:=b1610.stp hs rfl
    have oJ:=oJ.stp hs
    clear cb
    refine Ze .plain rfl (Gk (g:=oQ) (v:=nJ) Try.sizeOf112 rfl b1617 rfl oJ fun xH eM hs b1618 cb=>?_)
    clear cb
    have hfr:=hfr.stp hs
    have hmk:=hmk.stp hs
    have n8:=n8.stp hs
    have hrec_0:=hrec_0.stp hs rfl
    have mB:=mB.stp hs
    have aB:=aB.stp hs
    have nB:=nB.stp hs
    have oB:=oB.stp hs rfl
    have vB:=vB.stp hs rfl
    have yB:=yB.stp hs rfl
    have g8:=g8.stp hs rfl
    have l8:=l8.stp hs rfl
    have l9:=l9.stp hs rfl
    have n9:=n9.stp hs
    have l5:=l5.stp hs rfl
    have o0:=o0.stp hs
    have u3:=u3.stp hs
    have b1610:=b1610.stp hs rfl
    refine Zg (.bool (bD.2)) rfl rfl ?_
    refine Zb (Zd (Zq h (fun (s:(List (Gd × Int))) e w=>∃ (g:Gh) ,FrM iI gI wI g w∧MkF g w zG∧RFr nI cK g w∧HB 10 g w nK (.loop { mJ with state:=.busy })∧e 4=p1∧PT g.m w (⟨up0,hone500200⟩:Fv) p1∧e 5=p2∧PT g.m w (x1:List (List Int)) p2∧e 7=p3∧PT g.m w (x3:Int) p3∧e 8=p4∧OB 2008 g w 3 (zB:Int) p4∧e 9=p5∧BMo (Ws Ty) 2009 8009 g w 124 (yG:Option (List (Gd × Int))) p5∧e 10=mG∧OB 2010 g w 112 (cC.1:Gd) mG∧e 11=jH∧OB 2011 g w 3 (cC.2:Int) jH∧e 13=cF∧OB 2013 g w 144 (i6:Te) cF∧e 14=uH∧OB 2014 g w 112 (bD.1:Gd) uH∧e 17=bG∧MJ (Ws Ty) 7517 wI.heap.size g w (rm1074:List (Gd × Int)) none bG∧e 26=kH∧ItV Try.prog (RA2 (α:=Ge) (β:=Te)) sH kH g.m w∧MP (Ws Ty) 1 g w (s:List (Gd × Int)) kv500000∧FC g.m w 2 kv500000 up0∧PT g.m w (x0:Tn) up0) (fun X1861 nN dP h=>?_) ?_))
    ·obtain ⟨⟨jG, rE⟩, hx, h⟩ := Gc h
     refine Th (fun e w=>∃ (g:Gh) ,FrM iI gI wI g w∧MkF g w zG∧RFr nI cK g w∧HB 10 g w nK (.loop { mJ with state:=.busy })∧e 4=p1∧PT g.m w (⟨up0,hone500200⟩:Fv) p1∧e 5=p2∧PT g.m w (x1:List (List Int)) p2∧e 7=p3∧PT g.m w (x3:Int) p3∧e 8=p4∧OB 2008 g w 3 (zB:Int) p4∧e 9=p5∧BMo (Ws Ty) 2009 8009 g w 124 (yG:Option (List (Gd × Int))) p5∧e 10=mG∧OB 2010 g w 112 (cC.1:Gd) mG∧e 11=jH∧OB 2011 g w 3 (cC.2:Int) jH∧e 13=cF∧OB 2013 g w 144 (i6:Te) cF∧e 14=uH∧OB 2014 g w 112 (bD.1:Gd) uH∧e 17=bG∧MJ (Ws Ty) 7517 wI.heap.size g w (rm1074:List (Gd × Int)) none bG∧e 26=kH∧ItV Try.prog (RA2 (α:=Ge) (β:=Te)) sH kH g.m w∧e 56=.bool (jG)∧MP (Ws Ty) 1 g w (rE:List (Gd × Int)) kv500000∧FC g.m w 2 kv500000 up0∧PT g.m w (x0:Tn) up0) (fun Q' hQ=>?_) (fun oS sT hR=>?_)
     ·replace h := hx
      clear hx
      rcases Zt h with ⟨mE,h⟩ | ⟨mE,h⟩
      ·refine E_drawC (g := xH) (w := eM) (n := 19) [0, 1, 2, 3, 4, 5, 6, 7, 8, 9, 10, 11, 12, 13, 14, 15, 16, 17, 18] [] [0, 1, 2, 3, 4, 5, 6, 7, 8, 9, 10, 11, 12, 13, 14, 15, 16, 17, 18] rfl Qf (by kernel_rfl) fun w_c2087 hs hlt => ?_
       have hfr:=hfr.ext hs
       have hmk:=hmk.ext hs
       have n8:=n8.ext hs
       have hrec_0:=hrec_0.ext hs
       have mB:=mB.ext hs
       have aB:=aB.ext hs
       have nB:=nB.ext hs
       have oB:=oB.ext hs
       have vB:=vB.ext hs
       have yB:=yB.ext hs
       have g8:=g8.ext hs
       have l8:=l8.ext hs
       have l9:=l9.ext hs
       have n9:=n9.ext hs
       have l5:=l5.ext hs
       have o0:=o0.ext hs
       have u3:=u3.ext hs
       have b1610:=b1610.ext hs
       have b1618:=b1618.ext hs
       clear hs
       refine Qy (c:=.bool (bD.2)) rfl rfl .plain (Zk rfl) ?_
       refine Qy (c:=.bool (!bD.2)) rfl rfl .plain (Wm rfl) ?_
       refine Qy (c:=.bool (!bD.2)) rfl rfl .plain (Zk rfl) ?_
       iterate 4 refine CH_skip rfl (.no2 rfl rfl mE rfl) ?_
       refine Qy (c:=.bool true) rfl rfl .plain (Zl (b:=(!bD.2)) rfl (Tp mE rfl)) ?_
       refine Qy (c:=.bool true) rfl rfl .plain (Zk rfl) ?_
       iterate 10 refine CH_skip rfl (.no2 rfl rfl rfl rfl) ?_
       refine CH_nil ?_
       clear hlt
       refine Ga rfl rfl rfl rfl rfl ?_
       refine Zy (.bool true) (Zl (b:=true) rfl (Tp rfl rfl)) rfl ?_
       refine Zb ?_
       obtain ⟨rfl,rfl⟩:=pairs2 h
       exact hQ _ _ ⟨xH,hfr,hmk,n8,hrec_0,cG,mB,eG,aB,aH,nB,xF,oB,cH,⟨_,vB,yB⟩,rfl,g8,rfl,l8,rfl,b1610,rfl,b1618,dF,l9.dropc,rfl,n9,rfl,l5,o0,u3⟩
      ·refine Wg (x := .tmp 39) part_BoxStep_1.1 Try.isAgg3 Try.sizeOf3 b1610 fun tT pQ kM => ?_
       obtain rfl:=Zj.1 pQ
       refine Wq (x:=.tmp 8) Try.isAgg3 Try.sizeOf3 oB fun uT qQ pM=>?_
       obtain rfl:=Zj.1 qQ
       rcases Zt h with ⟨aE,h⟩ | ⟨aE,h⟩
       ·refine E_drawC (g := xH) (w := eM) (n := 19) [0, 1, 2, 3, 4, 5, 6, 7, 8, 9, 10, 11, 12, 13, 14, 15, 16, 17, 18] [2008, 2013] [0, 1, 2, 3, 4, 5, 6, 7, 8, 9, 10, 11, 12, 13, 14, 15, 16, 17, 18] rfl Qf (by kernel_rfl) fun w_c2087 hs hlt => ?_
        have hfr:=hfr.ext hs
        have hmk:=hmk.ext hs
        have n8:=n8.ext hs
        have hrec_0:=hrec_0.ext hs
        have mB:=mB.ext hs
        have aB:=aB.ext hs
        have nB:=nB.ext hs
        have oB:=oB.ext hs
        have vB:=vB.ext hs
        have yB:=yB.ext hs
        have g8:=g8.ext hs
        have l8:=l8.ext hs
        have l9:=l9.ext hs
        have n9:=n9.ext hs
        have l5:=l5.ext hs
        have o0:=o0.ext hs
        have u3:=u3.ext hs
        have b1610:=b1610.ext hs
        have b1618:=b1618.ext hs
        clear hs
        refine Qy (c:=.bool (bD.2)) rfl rfl .plain (Zk rfl) ?_
        refine Qy (c:=.bool (!bD.2)) rfl rfl .plain (Wm rfl) ?_
        refine Qy (c:=.bool (!bD.2)) rfl rfl .plain (Zk rfl) ?_
        refine Qy (c:=Gj cF 10) rfl rfl (.yes2 rfl rfl mE) (Zc at_144_1 rfl (OB.ptr b1610)) ?_
        refine CH_ldO (n:=2013) (c:=.int .i64 ((i6).colour)) rfl rfl (.yes2 rfl rfl mE) kM rfl rfl ?_
        refine CH_ldO (n:=2008) (c:=.int .i64 (zB)) rfl rfl (.yes2 rfl rfl mE) pM xF rfl ?_
        refine Qy (c:=.bool ((decide ((i6).colour > zB)))) rfl rfl (.yes2 rfl rfl mE) (Td rfl rfl rfl) ?_
        refine Qy (c:=.bool ((decide ((i6).colour > zB)))) rfl rfl .plain (Zl (b:=(!bD.2)) rfl (Tl mE rfl)) ?_
        refine Qy (c:=.bool ((decide ((i6).colour > zB)))) rfl rfl .plain (Zk rfl) ?_
        iterate 10 refine CH_skip rfl (.no2 rfl rfl aE rfl) ?_
        refine CH_nil ?_
        clear hlt
        refine Ga rfl rfl aE rfl rfl ?_
        refine Zy (.bool true) (Zl (b:=(decide ((i6).colour > zB))) rfl (Tp aE rfl)) rfl ?_
        refine Zb ?_
        obtain ⟨rfl,rfl⟩:=pairs2 h
        exact hQ _ _ ⟨xH,hfr,hmk,n8,hrec_0,cG,mB,eG,aB,aH,nB,xF,oB,cH,⟨_,vB,yB⟩,rfl,g8,rfl,l8,rfl,b1610,rfl,b1618,dF,l9.dropc,rfl,n9,rfl,l5,o0,u3⟩
       ·refine Wq (x := .tmp 11) Try.isAgg3 Try.sizeOf3 l8 fun xT rQ eP => ?_
        obtain rfl:=Zj.1 rQ
        refine Wg (x:=.tmp 46) part_BoxStep_2.1 Try.isAgg3 Try.sizeOf3 b1610 fun yT sQ gP=>?_
        obtain rfl:=Zj.1 sQ
        refine Zs (α:=Fv) (x:=.tmp 4) Try.isAgg113 Try.sizeOf113 mB fun rN sN iP=>?_
        have e2096:rN=up0:=RV_fv.1 sN
        clear sN
        subst rN
        refine Zs (x:=.tmp 5) Try.isAgg42 Try.sizeOf42 aB fun tN iM jP=>?_
        refine Wq (x:=.tmp 14) Try.isAgg112 Try.sizeOf112 b1618 fun uN jM kP=>?_
        obtain ⟨tH,lP,h⟩:=Gc h
        refine Zs (x:=.tmp 7) Try.isAgg3 Try.sizeOf3 nB fun zT tQ mP=>?_
        obtain rfl:=Zj.1 tQ
        refine E_drawC (g:=xH) (w:=eM) (n:=19) [0,1,2,3,4,5,6,7,8,9,10,11,12,13,14,15,17,18] [2008,2011,2013,2014] [0,1,2,3,4,5,6,7,8,9,10,11,12,13,14,15,16,17,18] rfl Qf (by kernel_rfl) fun w_c2087 hs hlt=>?_
        have hfr:=hfr.ext hs
        have hmk:=hmk.ext hs
        have n8:=n8.ext hs
        have hrec_0:=hrec_0.ext hs
        have mB:=mB.ext hs
        have aB:=aB.ext hs
        have nB:=nB.ext hs
        have oB:=oB.ext hs
        have vB:=vB.ext hs
        have yB:=yB.ext hs
        have g8:=g8.ext hs
        have l8:=l8.ext hs
        have l9:=l9.ext hs
        have n9:=n9.ext hs
        have l5:=l5.ext hs
        have o0:=o0.ext hs
        have u3:=u3.ext hs
        have b1610:=b1610.ext hs
        have b1618:=b1618.ext hs
        clear hs
        refine Qy (c:=.bool (bD.2)) rfl rfl .plain (Zk rfl) ?_
        refine Qy (c:=.bool (!bD.2)) rfl rfl .plain (Wm rfl) ?_
        refine Qy (c:=.bool (!bD.2)) rfl rfl .plain (Zk rfl) ?_
        refine Qy (c:=Gj cF 10) rfl rfl (.yes2 rfl rfl mE) (Zc at_144_1 rfl (OB.ptr b1610)) ?_
        refine CH_ldO (n:=2013) (c:=.int .i64 ((i6).colour)) rfl rfl (.yes2 rfl rfl mE) kM rfl rfl ?_
        refine CH_ldO (n:=2008) (c:=.int .i64 (zB)) rfl rfl (.yes2 rfl rfl mE) pM xF rfl ?_
        refine Qy (c:=.bool ((decide ((i6).colour > zB)))) rfl rfl (.yes2 rfl rfl mE) (Td rfl rfl rfl) ?_
        refine Qy (c:=.bool ((decide ((i6).colour > zB)))) rfl rfl .plain (Zl (b:=(!bD.2)) rfl (Tl mE rfl)) ?_
        refine Qy (c:=.bool ((decide ((i6).colour > zB)))) rfl rfl .plain (Zk rfl) ?_
        refine CH_ldO (n:=2011) (c:=.int .i64 (cC.2)) rfl rfl (.yes2 rfl rfl aE) eP rfl rfl ?_
        refine Qy (c:=Gj cF 11) rfl rfl (.yes2 rfl rfl aE) (Zc at_144_2 rfl (OB.ptr b1610)) ?_
        refine CH_ldO (n:=2013) (c:=.int .i64 ((i6).moves)) rfl rfl (.yes2 rfl rfl aE) gP rfl rfl ?_
        refine Qy (c:=.int .i64 ((w64 (cC.2 + (i6).moves)))) rfl rfl (.yes2 rfl rfl aE) (Td rfl rfl rfl) ?_
        refine CH_ldP (c:=up0) rfl rfl (.yes2 rfl rfl aE) iP cG ?_
        refine CH_ldP (c:=tN) rfl rfl (.yes2 rfl rfl aE) jP eG ?_
        have iM:=iM.ch hlt.1
        refine CH_ldO (n:=2014) (c:=uN) rfl rfl (.yes2 rfl rfl aE) kP rfl rfl ?_
        have jM:=jM.ch hlt.1
        refine CH_do rfl rfl (.yes2 rfl rfl aE) (D_callM (g:=xH) (i:=1) (vs:=[up0,tN,uN]) en57 (.cons rfl (.cons rfl (.cons rfl .nil))) (wk57 big u3 o0 l5 iM jM lP) fun uQ pS aU hs hr=>?_)
        obtain ⟨hrv,b2099⟩:=hr
        have hfr:=hfr.stp hs
        have hmk:=hmk.stp hs
        have n8:=n8.stp hs
        have hrec_0:=hrec_0.stp hs rfl
        have hlt:=hlt.stp hs
        have mB:=mB.stp hs
        have aB:=aB.stp hs
        have nB:=nB.stp hs
        have oB:=oB.stp hs rfl
        have vB:=vB.stp hs rfl
        have yB:=yB.stp hs rfl
        have g8:=g8.stp hs rfl
        have l8:=l8.stp hs rfl
        have l9:=l9.stp hs rfl
        have n9:=n9.stp hs
        have o0:=o0.stp hs
        have u3:=u3.stp hs
        have b1610:=b1610.stp hs rfl
        have b1618:=b1618.stp hs rfl
        subst hrv
        refine ⟨hlt.toW,?_⟩
        refine Qy (c:=.int .i64 ((w64 ((w64 (cC.2 + (i6).moves)) + tH.1)))) rfl rfl (.yes2 rfl rfl aE) (Td rfl rfl rfl) ?_
        refine CH_ldP (c:=.int .i64 (x3)) rfl rfl (.yes2 rfl rfl aE) mP aH ?_
        refine CH_nil ?_
        clear hlt
        refine Zz (.bool (((w64 ((w64 (cC.2 + (i6).moves)) + tH.1)) != x3))) (Td rfl rfl rfl) rfl rfl aE rfl ?_
        refine Zy (.bool (((w64 ((w64 (cC.2 + (i6).moves)) + tH.1)) != x3))) (Zl (b:=(decide ((i6).colour > zB))) rfl (Tl aE rfl)) rfl ?_
        refine Zb ?_
        obtain ⟨rfl,rfl⟩:=pairs2 h
        exact hQ _ _ ⟨uQ,hfr,hmk,n8,hrec_0,cG,mB,eG,aB,aH,nB,xF,oB,cH,⟨_,vB,yB⟩,rfl,g8,rfl,l8,rfl,b1610,rfl,b1618,dF,l9.dropc,rfl,n9,rfl,b2099,o0,u3⟩
     ·clear hx
      obtain ⟨vQ,hfr,hmk,n8,hrec_0,dO,iL,eO,jL,gO,lL,jO,mL,kO,⟨zR,nL,oL⟩,rM,oK,sM,pK,tM,uM,vM,xM,bN,qK,cN,sK,tK,qH,nH,oH⟩:=hR
      rcases Zt h with ⟨uK,h⟩ | ⟨uK,h⟩
      ·refine To (Eq.trans (show ev _ _ = .bool (jG) from tK) (congrArg Value.bool uK)) ?_
       refine Qm ?_
       refine Tm ?_
       refine Tu ?_
       obtain ⟨rfl,rfl⟩:=pairs2 h
       exact ⟨_,n8,⟨hfr,hmk,iL,jL,lL,mL,⟨_,nL,oL⟩,oK,pK,qK.dropc,sK,qH,nH,oH⟩,hrec_0,rfl,rfl⟩
      ·refine Tk (Eq.trans (show ev _ _ = .bool (jG) from tK) (congrArg Value.bool uK)) ?_
       exact Zu (Zd (dP (rE) _ _ ⟨vQ,hfr,hmk,n8,hrec_0,dO,iL,eO,jL,gO,lL,jO,mL,kO,⟨_,nL,oL⟩,rM,oK,sM,pK,tM,uM,vM,xM,bN,qK.dropc,cN,sK,qH,nH,oH⟩ h))
    ·rintro iG qS bU ⟨pI, hfr, hmk, n8, hrec_0, xL, rF, yL, sF, zL, tF, yH, gH, pJ, ⟨aS, gG, lO⟩, vK, uE, xK, vE, lH, zD, yK, xE, zK, yE, aL, zE, cD, uC, vC⟩ h
     obtain ⟨⟨sI,jJ⟩,hx,h⟩:=Gc h
     refine Th (fun e w=>∃ (g:Gh) ,FrM iI gI wI g w∧MkF g w zG∧RFr nI cK g w∧HB 10 g w nK (.loop { mJ with state:=.busy })∧e 4=p1∧PT g.m w (⟨up0,hone500200⟩:Fv) p1∧e 5=p2∧PT g.m w (x1:List (List Int)) p2∧e 7=p3∧PT g.m w (x3:Int) p3∧e 8=p4∧OB 2008 g w 3 (sI:Int) p4∧e 9=p5∧BMo (Ws Ty) 2009 8009 g w 124 (jJ:Option (List (Gd × Int))) p5∧e 10=mG∧OB 2010 g w 112 (cC.1:Gd) mG∧e 11=jH∧OB 2011 g w 3 (cC.2:Int) jH∧e 13=cF∧OB 2013 g w 144 (i6:Te) cF∧e 14=uH∧OB 2014 g w 112 (bD.1:Gd) uH∧e 17=bG∧MJ (Ws Ty) 7517 wI.heap.size g w (rm1074:List (Gd × Int)) none bG∧e 26=kH∧ItV Try.prog (RA2 (α:=Ge) (β:=Te)) sH kH g.m w∧MP (Ws Ty) 1 g w (iG:List (Gd × Int)) kv500000∧FC g.m w 2 kv500000 up0∧PT g.m w (x0:Tn) up0) (fun Q' hQ=>?_) (fun rS cU hR=>?_)
     ·replace h := hx
      clear hx
      refine Zf (Za (Zy (Gj cF 10) (Zc at_144_1 lH (OB.ptr zD)) rfl ?_))
      refine Ze .plain rfl (Kb (g:=pI) part_BoxStep_1.1 Try.isAgg3 Try.sizeOf3 rfl zD fun dU xQ=>?_)
      obtain rfl:=Zj.1 xQ
      refine Ze .plain rfl (Qj (g:=pI) Try.isAgg3 Try.sizeOf3 yH gH fun eU yQ=>?_)
      obtain rfl:=Zj.1 yQ
      refine Gu (.bool ((decide ((i6).colour < zB)))) rfl rfl rfl rfl ?_
      refine Zb (Zd ?_)
      rcases Zt h with ⟨bL,h⟩ | ⟨bL,h⟩
      ·refine Qq bL rfl ?_
       refine Za (Zy (Gj cF 10) (Zc at_144_1 lH (OB.ptr zD)) rfl ?_)
       refine Ze .plain rfl (Kb (g:=pI) part_BoxStep_1.1 Try.isAgg3 Try.sizeOf3 rfl zD fun gU zQ=>?_)
       obtain rfl:=Zj.1 zQ
       refine Ze .plain rfl (D_makeMap (g:=pI) (Ws Ty) Int 8009 fun aR iU vN hs m2120=>?_)
       have hfr:=hfr.stp hs
       have hmk:=hmk.stp hs
       have n8:=n8.stp hs
       have hrec_0:=hrec_0.stp hs rfl
       have rF:=rF.stp hs
       have sF:=sF.stp hs
       have tF:=tF.stp hs
       have gH:=gH.stp hs rfl
       have gG:=gG.stp hs rfl
       have uE:=uE.stp hs rfl
       have vE:=vE.stp hs rfl
       have zD:=zD.stp hs rfl
       have xE:=xE.stp hs rfl
       have yE:=yE.stp hs rfl
       have zE:=zE.stp hs
       have cD:=cD.stp hs rfl
       have uC:=uC.stp hs
       have vC:=vC.stp hs
       refine Ze .plain rfl (Gk (g:=aR) (v:=.int .i64 ((i6).colour)) Try.sizeOf3 yH gH rfl (Zj.2 rfl) fun bR jU hs b2121 cb=>?_)
       clear cb
       have hfr:=hfr.stp hs
       have hmk:=hmk.stp hs
       have n8:=n8.stp hs
       have hrec_0:=hrec_0.stp hs rfl
       have rF:=rF.stp hs
       have sF:=sF.stp hs
       have tF:=tF.stp hs
       have gG:=gG.stp hs rfl
       have uE:=uE.stp hs rfl
       have vE:=vE.stp hs rfl
       have zD:=zD.stp hs rfl
       have xE:=xE.stp hs rfl
       have yE:=yE.stp hs rfl
       have zE:=zE.stp hs
       have cD:=cD.stp hs rfl
       have uC:=uC.stp hs
       have vC:=vC.stp hs
       have m2120:=m2120.stp hs rfl
       have on2122:=mp_one m2120
       refine Ze .plain rfl (Gk (g:=bR) (v:=vN) (a':=(⟨vN,on2122⟩:Fv)) Try.sizeOf124 pJ gG rfl (RV_fv.2 rfl) fun dR kU hs b2122 cb=>?_)
       clear cb
       have hfr:=hfr.stp hs
       have hmk:=hmk.stp hs
       have n8:=n8.stp hs
       have hrec_0:=hrec_0.stp hs rfl
       have rF:=rF.stp hs
       have sF:=sF.stp hs
       have tF:=tF.stp hs
       have b2121:=b2121.stp hs rfl
       have uE:=uE.stp hs rfl
       have vE:=vE.stp hs rfl
       have zD:=zD.stp hs rfl
       have xE:=xE.stp hs rfl
       have yE:=yE.stp hs rfl
       have zE:=zE.stp hs
       have cD:=cD.stp hs rfl
       have uC:=uC.stp hs
       have vC:=vC.stp hs
       have m2120:=m2120.stp hs rfl
       have z2122:=MP.toMO m2120
       refine Zb ?_
       obtain ⟨rfl,rfl⟩:=pairs2 h
       exact hQ _ _ ⟨dR,hfr,hmk,n8,hrec_0,xL,rF,yL,sF,zL,tF,yH,b2121,pJ,⟨_,b2122,z2122⟩,vK,uE,xK,vE,lH,zD,yK,xE,zK,yE.dropc,aL,zE,cD,uC,vC⟩
      ·refine Qr bL rfl ?_
       refine Zu ?_
       obtain ⟨rfl,rfl⟩:=pairs2 h
       exact hQ _ _ ⟨pI,hfr,hmk,n8,hrec_0,xL,rF,yL,sF,zL,tF,yH,gH,pJ,⟨_,gG,lO⟩,vK,uE,xK,vE,lH,zD,yK,xE,zK,yE.dropc,aL,zE,cD,uC,vC⟩
     ·clear hx
      obtain ⟨qI,hfr,hmk,n8,hrec_0,bS,qJ,cS,rJ,dS,sJ,eS,vJ,mO,⟨nO,zH,oO⟩,nR,kI,dN,mH,eN,dL,gN,iN,oR,lI,pR,mI,lG,yF,aG⟩:=hR
      refine Za (Ze .plain rfl (Qj (α:=Fv) (g:=qI) Try.isAgg124 Try.sizeOf124 mO zH fun xN yN=>?_))
      have e2124:xN=nO.v:=RV_fv.1 yN
      clear yN
      subst xN
      refine Ze .plain rfl (Qj (g:=qI) Try.isAgg112 Try.sizeOf112 gN iN fun lU eR=>?_)
      refine Ze .plain rfl (Qj (g:=qI) Try.isAgg3 Try.sizeOf3 dN mH fun mU gR=>?_)
      obtain rfl:=Zj.1 gR
      refine Zy (Gj cF 11) (Zc at_144_2 eN (OB.ptr dL)) rfl ?_
      refine Ze .plain rfl (Kb (g:=qI) part_BoxStep_2.1 Try.isAgg3 Try.sizeOf3 rfl dL fun nU iR=>?_)
      obtain rfl:=Zj.1 iR
      refine Gu (.int .i64 ((w64 (cC.2 + (i6).moves)))) rfl rfl rfl rfl ?_
      obtain ⟨mN,nP,h⟩:=Gc h
      have mg2129:=MO.get oO nP
      refine Ze .plain rfl (D_mapUpdate (g:=qI) Try.underlying124 key_112 rfl mg2129 (rfl.trans (encK_of Ty eR)) rfl (Zj.2 rfl) fun oU pU hs m2129=>?_)
      have hfr:=hfr.stp hs
      have hmk:=hmk.stp hs
      have n8:=n8.stp hs
      have hrec_0:=hrec_0.stp hs rfl
      have qJ:=qJ.stp hs
      have rJ:=rJ.stp hs
      have sJ:=sJ.stp hs
      have vJ:=vJ.stp hs rfl
      have zH:=zH.stp hs rfl
      have kI:=kI.stp hs rfl
      have mH:=mH.stp hs rfl
      have lI:=lI.stp hs rfl
      have mI:=mI.stp hs
      have lG:=lG.stp hs rfl
      have yF:=yF.stp hs
      have aG:=aG.stp hs
      have z2129:=MP.toMO m2129
      refine Zb (Qn ?_)
      obtain ⟨rfl,rfl⟩:=pairs2 h
      exact ⟨_,n8,⟨hfr,hmk,qJ,rJ,sJ,vJ,⟨_,zH,z2129⟩,kI,mH,lI.dropc,mI,lG,yF,aG⟩,hrec_0,rfl,rfl⟩
   ·intro jR qU ds2132 hsz hR hds
    obtain ⟨hfr,hmk,pO,qO,rO,sO,⟨gS,tO,uO⟩,qR,rR,jN,tR,eL,aK,bK⟩:=hR
    obtain ⟨D,hdse,hD,hDb⟩:=hds.1 rfl
    subst hdse
    replace hmk:=MkF.push hmk0 hmk hD hDb
    clear hD hDb hds
    revert hmk
    generalize ({ target:=.collected D,args:=#[] } :: zG:List Deferred)=iS
    intro hmk
    refine ⟨fun _=>?_,fun k c hs _=>absurd hs (Nat.succ_ne_zero k).symm⟩
    exact Qn (Qn (Zd (aP (kJ,lJ,rm1074,kG) _ _ _ ⟨jR,hfr,hmk,cG,pO,eG,qO,aH,rO,xF,sO,cH,⟨_,tO,uO⟩,dF,jN.dropc,eL,aK,bK⟩ _ h hsub)))
 ·rintro ⟨eF, gL, pH⟩ sS jS rU ⟨sU, hfr, hmk, xJ, vO, zJ, ⟨aI, bI, uF⟩, lE, xO, yO⟩ r h hsub
  refine Zf (Wq (α:=Fv) (x:=.tmp 9) Try.isAgg124 Try.sizeOf124 bI fun zN aO oP=>?_)
  have e2137:zN=aI.v:=RV_fv.1 aO
  clear aO
  subst zN
  refine E_drawB (a0:=(eF:Int)) (a1:=(eF:Int)) vO (n:=3) [(2,(fun _ g w=>OB 2008 g w 3 (eF:Int) p4))] [0,1,2] rfl Qf (by kernel_rfl) (⟨fun _=>up_box,trivial⟩) ?_
  refine L_val (c:=.int .i64 (eF)) rfl rfl .plain (fun g w hd=>loadAB0 (by rfl) (by rfl) Zj.1 Try.isAgg3 Try.sizeOf3 xJ hd.1.2) ?_
  refine Gy (c:=aI.v) rfl rfl .plain (fun _ _ h=>⟨h.1.ch,fun b hb ho=>h.1.block b hb (by rw [ho]; decide)⟩) oP zJ ?_
  refine Qa (φ:=fun _ g w=>OB 2008 g w 3 (eF:Int) p4) rfl rfl .plain (fun g w hd=>D_storeR0 (g:=g) Try.sizeOf3 xJ hd.1.2 rfl (Zj.2 rfl)) (fun tU hv=>?_)
  clear hv
  refine L_nil fun lR uU hall=>?_
  have hs:=hall.1.1
  have hfr:=hfr.stp hs
  have hmk:=hmk.stp hs
  have bI:=bI.stp hs rfl
  have uF:=uF.stp hs rfl
  have lE:=lE.stp hs rfl
  have b2141:=(Gl (A:=fun g w=>OB 2008 g w 3 (eF:Int) p4) 2 rfl hall)
  clear hs hall
  have on2149:=mo_one uF
  refine Ze .plain rfl (Gk (g:=lR) (v:=aI.v) (a':=(⟨aI.v,on2149⟩:Fv)) Try.sizeOf124 zJ bI rfl (RV_fv.2 rfl) fun vU xU hs b2149 cb=>?_)
  clear cb
  have hfr:=hfr.stp hs
  have hmk:=hmk.stp hs
  have b2141:=b2141.stp hs rfl
  have uF:=uF.stp hs rfl
  have lE:=lE.stp hs rfl
  refine Zb (Zd (Gw (endM (.inr rfl) hmk fun yU zU hs=>?_)))
  have hfr:=hfr.stp hs
  have b2141:=b2141.stp hs rfl
  have b2149:=b2149.stp hs rfl
  have uF:=uF.stp hs rfl
  have lE:=lE.stp hs rfl
  obtain rfl:=sinj h
  have hQ:=hsub _ (List.mem_singleton.2 rfl)
  obtain ⟨ad2151,cv2151,hp2151,pP,cr2151⟩:=Qv Try.isAgg3 Try.sizeOf3 b2141
  obtain rfl:=Zj.1 cr2151
  obtain ⟨ad2152,cv2152,hp2152,sP,cr2152⟩:=Qv Try.isAgg124 Try.sizeOf124 b2149
  obtain rfl:=RV_fv.1 cr2152
  obtain ⟨gh,hxh,hgm,hmo,hmp⟩:=MO.handback (iO:=iO) hfr aM lE uF
  exact endm_cc rfl rfl ((show _=p4 from xJ).trans hp2151) pP ((show _=p5 from zJ).trans hp2152) sP ⟨gh,hxh,_,hQ,_,_,rfl,rfl,hmo,hmp⟩
def f83 (x0:Zv) (z0:Gf):Option (Bool):=
 (f84 z0 x0).bind fun y5=>
 some ((!y5))
theorem en83:Enters Try.prog 83:=enters_of Try.func83 (by kernel_rfl) rfl
theorem wk83 {gI:Gh} {wI:World} {x0:Zv} {z0:Gf} {up0:Value} (rp0:RV gI.m wI x0 up0) {pf0:Value} (qf0:PT gI.m wI z0 pf0) {r:Bool} (h:f83 x0 z0=some r):Fn Try.prog 83 #[up0,pf0] gI wI (fun _ _ v=>v=.bool (r)):=by
 unfold f83 at h
 refine Tf Try.func83 rfl (Nat.le_of_ble_eq_true rfl) fun g0 hm hfr=>?_
 have qf0:PT g0.m wI z0 pf0:=hm ▸ qf0
 have rp0:RV g0.m wI x0 up0:=hm ▸ rp0
 show E _ 8 none _ _ _ _ _
 refine Zf (Za (Ze .plain rfl (We (g:=g0) rfl rp0 fun g1 w1 p1 hs q1=>?_)))
 have hfr:=hfr.ext hs
 have qf0:=qf0.ext hs
 refine Zg (.bool false) rfl rfl ?_
 refine Zb (Zd (Zf (Za (Ze .plain rfl (Gr (g:=g1) Try.isAgg102 Try.sizeOf102 rfl qf0 fun v2 r2=>?_)))))
 refine Ze .plain rfl (Gr (g:=g1) Try.isAgg87 Try.sizeOf87 rfl q1 fun v3 r3=>?_)
 obtain ⟨y5,hy5,h⟩:=Gc h
 refine Ze .plain rfl (Zp (g:=g1) (vs:=[v2,v3]) en84 (.cons rfl (.cons rfl .nil)) (wk84 r2 r3 hy5) fun g4 w4_ v4 hs hr=>?_)
 have hfr:=hfr.ext hs
 subst hr
 refine Zy (.bool (!y5)) (Wm rfl) rfl ?_
 refine Zg (.bool (!y5)) rfl rfl ?_
 refine Zb (Zd (Gw ?_))
 obtain rfl:=sinj h
 exact Wb rfl rfl (show _=.bool (!y5) from rfl) ⟨_,hfr,rfl⟩
end Go.Proofs.Ytmpjooneiaiffaa
