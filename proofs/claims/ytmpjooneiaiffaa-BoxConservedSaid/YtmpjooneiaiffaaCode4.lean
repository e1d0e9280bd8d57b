import Derived.Test.YtmpjooneiaiffaaCode3
set_option maxRecDepth 8000
set_option maxHeartbeats 4000000
namespace Go.Proofs.Ytmpjooneiaiffaa
open Go.RowKit
def f83 (x0:BoxShuttle) (z0:BoxBoxLoom):Option (Bool):=
 (f84 z0 x0).bind fun y5=>
 some ((!y5))
theorem en83:Enters Try.prog 83:=enters_of Try.func83 (by kernel_rfl) rfl
theorem wk83 {gI:Gh} {wI:World} {x0:BoxShuttle} {z0:BoxBoxLoom} {up0:Value} (rp0:RV gI.m wI x0 up0) {pf0:Value} (qf0:PT gI.m wI z0 pf0) {r:Bool} (h:f83 x0 z0=some r):Fn Try.prog 83 #[up0,pf0] gI wI (fun _ _ v=>v=.bool (r)):=by
 unfold f83 at h
 refine fn_of_E Try.func83 rfl (Nat.le_of_ble_eq_true rfl) fun g0 hm hfr=>?_
 have qf0:PT g0.m wI z0 pf0:=hm ▸ qf0
 have rp0:RV g0.m wI x0 up0:=hm ▸ rp0
 show E _ 8 none _ _ _ _ _
 refine Zf (Za (Ze .plain rfl (D_box (g:=g0) rfl rp0 fun g1 w1 p1 hs q1=>?_)))
 have hfr:=hfr.ext hs
 have qf0:=qf0.ext hs
 refine Zg (.bool false) rfl rfl ?_
 refine Zb (Zd (Zf (Za (Ze .plain rfl (D_load (g:=g1) Try.isAgg102 Try.sizeOf102 rfl qf0 fun v2 r2=>?_)))))
 refine Ze .plain rfl (D_load (g:=g1) Try.isAgg87 Try.sizeOf87 rfl q1 fun v3 r3=>?_)
 obtain ⟨y5,hy5,h⟩:=bsome h
 refine Ze .plain rfl (Zp (g:=g1) (vs:=[v2,v3]) en84 (.cons rfl (.cons rfl .nil)) (wk84 r2 r3 hy5) fun g4 w4_ v4 hs hr=>?_)
 have hfr:=hfr.ext hs
 subst hr
 refine EL_p (.bool (!y5)) (P_not rfl) rfl ?_
 refine Zg (.bool (!y5)) rfl rfl ?_
 refine Zb (Zd (E_ret ?_))
 obtain rfl:=sinj h
 exact end1 rfl rfl (show _=.bool (!y5) from rfl) ⟨_,hfr,rfl⟩
def f51 (x0:BoxLoom):Option (BoxBoxLoom × Int):=
 jn (σ:=BoxBoxLoom) (fun o0=>
  Option.bind (α:=(List ((Vector Int 2) × Bool))) (
   lp (σ:=(List ((Vector Int 2) × Bool)) × Int) (fun vC (r8,i3)=>
    bif (decide (i3 < (((x0).Shuttles).length : Int))) then
     Option.bind (α:=(List ((Vector Int 2) × Bool))) (
      (idx ((x0).Shuttles) i3).bind fun v6=>
      some ((mset r8 ((⟨List.toArray [(v6).Side,(v6).Box],rfl⟩:Vector Int 2)) true))
      ) fun k8=>
     vC (k8,(w64 (i3 + (1:Int))))
    else
     some (r8)
    ) big (([]:List ((Vector Int 2) × Bool)),(0:Int))
   ) fun l8=>
  jn (σ:=BoxBoxLoom) (fun aD=>
   some ((⟨x0⟩:BoxBoxLoom),(0:Int))
   ) fun bD=>
  bif (decide (((l8).length : Int) < (((x0).Shuttles).length : Int))) then
   some ((⟨x0⟩:BoxBoxLoom),(6:Int))
  else
   bD (o0)
  ) fun k54=>
 Option.bind (α:=Bool) (
  bif ((((x0).Boxes).length : Int) != (2 : Int)) then
   some (((((x0).Boxes).length:Int) != (2:Int)))
  else
   some (((((x0).At).length:Int) != (2:Int)))
  ) fun a7=>
 bif a7 then
  some ((⟨x0⟩:BoxBoxLoom),(4:Int))
 else
  (f85 ((⟨x0⟩:BoxBoxLoom))).bind fun zB=>
  bif (!zB) then
   some ((⟨x0⟩:BoxBoxLoom),(3:Int))
  else
   bif (decide ((((x0).Shuttles).length : Int) > (6 : Int))) then
    some ((⟨x0⟩:BoxBoxLoom),(5:Int))
   else
    Option.bind (α:=Bool) (
     bif ((((x0).Shuttles).length : Int) == (0 : Int)) then
      some (((((x0).Shuttles).length:Int) == (0:Int)))
     else
      (f86 ((x0).Shuttles) ((fun a0=>f83 a0 ((⟨x0⟩:BoxBoxLoom))))).bind fun cD=>
      some (cD)
     ) fun d7=>
    bif d7 then
     some ((⟨x0⟩:BoxBoxLoom),(2:Int))
    else
     k54 ((⟨⟨[],[],[]⟩⟩:BoxBoxLoom))
theorem en51:Enters Try.prog 51:=enters_of Try.func51 (by kernel_rfl) rfl
theorem wk51 {gI:Gh} {wI:World} {x0:BoxLoom} {up0:Value} (rp0:RV gI.m wI x0 up0) {r:BoxBoxLoom × Int} (h:f51 x0=some r):Fn Try.prog 51 #[up0] gI wI (fun m w v=>∃ y0 y1,v=.tuple #[y0,y1]∧RV m w (r.1) y0∧y1=.int .i64 (r.2)):=by
 unfold f51 at h
 refine fn_of_E Try.func51 rfl (Nat.le_of_ble_eq_true rfl) fun g0 hm hfr=>?_
 have rp0:RV g0.m wI x0 up0:=hm ▸ rp0
 show E _ 66 none _ _ _ _ _
 refine Zf (Za (Ze .plain rfl (D_box (g:=g0) rfl rp0 fun g1 w1 p1 hs q1=>?_)))
 have hfr:=hfr.ext hs
 refine Ze .plain rfl (D_allocOc (g:=g1) 2002 (⟨⟨[],[],[]⟩⟩:BoxBoxLoom) Try.zeroValue102 (fun m w=>⟨_,(rep_two rep_nil (rep_two rep_nil rep_nil)),rfl⟩) fun g2 w2 p2 hs b2 cb=>?_)
 have hfr:=hfr.stp hs
 have q1:=q1.stp hs
 have i7:OSF 2002 60200 0 g2 w2 3 102 ([]:List Int) p2:=cb.osf (by rfl)
 have j7:OSF 2002 60201 1 g2 w2 3 102 ([]:List Int) p2:=cb.osf (by rfl)
 have m7:OSF 2002 60202 2 g2 w2 87 102 ([]:List BoxShuttle) p2:=cb.osf (by rfl)
 clear cb
 refine Zg (.int .i64 (0)) rfl rfl ?_
 refine Zb (Zd (Zf (Za (Ze .plain rfl (D_load (g:=g2) Try.isAgg25 Try.sizeOf25 rfl q1 fun v3 r3=>?_)))))
 have r4:RV g2.m _ (⟨x0⟩:BoxBoxLoom) (.agg (setCh [[.slice none 0 0,.slice none 0 0,.slice none 0 0]] [(0,v3)]).flatten.toArray):=RV_build rfl (rep_last (RV.cells r3))
 generalize dG:(Value.agg (setCh [[.slice none 0 0,.slice none 0 0,.slice none 0 0]] [(0,v3)]).flatten.toArray)=v4 at r4
 refine EL_p v4 (dG ▸ P_build (vs:=[(0,v3)]) [[.slice none 0 0,.slice none 0 0,.slice none 0 0]] lay_102 rfl rfl (.cons rfl .nil) ⟨⟨_,rfl,cells_size r3⟩,trivial⟩) rfl ?_
 refine Ze .plain rfl (D_allocOc (g:=g2) 2004 (⟨⟨[],[],[]⟩⟩:BoxBoxLoom) Try.zeroValue102 (fun m w=>⟨_,(rep_two rep_nil (rep_two rep_nil rep_nil)),rfl⟩) fun g5 w5 p5 hs b5 cb=>?_)
 have hfr:=hfr.stp hs
 have q1:=q1.stp hs
 have i7:=i7.stp hs rfl
 have j7:=j7.stp hs rfl
 have m7:=m7.stp hs rfl
 have b2:=b2.stp hs rfl
 have r4:=r4.stp hs
 have iH:OSF 2004 60400 0 g5 w5 3 102 ([]:List Int) p5:=cb.osf (by rfl)
 have jH:OSF 2004 60401 1 g5 w5 3 102 ([]:List Int) p5:=cb.osf (by rfl)
 have kH:OSF 2004 60402 2 g5 w5 87 102 ([]:List BoxShuttle) p5:=cb.osf (by rfl)
 clear cb
 refine Ze .plain rfl (D_storeOc (g:=g5) (v:=v4) Try.sizeOf102 rfl b5 rfl r4 fun g6 w6 hs b6 cb=>?_)
 clear cb
 have hfr:=hfr.stp hs
 have q1:=q1.stp hs
 have i7:=i7.stp hs rfl
 have j7:=j7.stp hs rfl
 have m7:=m7.stp hs rfl
 have b2:=b2.stp hs rfl
 obtain ⟨gp6,hs,qp6⟩:=OB.pub b6
 have hfr:=hfr.stp hs
 have q1:=q1.stp hs
 have i7:=i7.stp hs rfl
 have j7:=j7.stp hs rfl
 have m7:=m7.stp hs rfl
 have b2:=b2.stp hs rfl
 refine Zb (Zd (Zf (Za (EL_p ((.func (.func 83) #[] #[p5])) (P_makeFunc (capf_0_1 (show ev _ _=p5 from rfl))) rfl ?_))))
 refine Zg ((.func (.func 83) #[] #[p5])) rfl rfl ?_
 refine Zb (Zd (Zq h (fun (s:BoxBoxLoom) e w=>∃ (g:Gh) ,Fr gI wI g w∧e 1=p1∧PT g.m w (x0:BoxLoom) p1∧e 2=p2∧OB 2002 g w 102 (s:BoxBoxLoom) p2∧OSF 2002 60200 0 g w 3 102 (((s).BoxLoom).Boxes) p2∧OSF 2002 60201 1 g w 3 102 (((s).BoxLoom).At) p2∧OSF 2002 60202 2 g w 87 102 (((s).BoxLoom).Shuttles) p2∧e 4=p5∧PT g.m w ((⟨x0⟩:BoxBoxLoom):BoxBoxLoom) p5) (fun X54 k54 tE h=>?_) ?_))
 ·refine Zr ?_
  obtain ⟨a7,hx,h⟩:=bsome h
  refine E_join (fun e w=>∃ (g:Gh) ,Fr gI wI g w∧e 1=p1∧PT g.m w (x0:BoxLoom) p1∧e 2=p2∧OB 2002 g w 102 ((⟨⟨[],[],[]⟩⟩:BoxBoxLoom):BoxBoxLoom) p2∧OSF 2002 60200 0 g w 3 102 ((((⟨⟨[],[],[]⟩⟩:BoxBoxLoom)).BoxLoom).Boxes) p2∧OSF 2002 60201 1 g w 3 102 ((((⟨⟨[],[],[]⟩⟩:BoxBoxLoom)).BoxLoom).At) p2∧OSF 2002 60202 2 g w 87 102 ((((⟨⟨[],[],[]⟩⟩:BoxBoxLoom)).BoxLoom).Shuttles) p2∧e 4=p5∧PT g.m w ((⟨x0⟩:BoxBoxLoom):BoxBoxLoom) p5∧e 5=(.func (.func 83) #[] #[p5])∧e 12=.bool (a7)) (fun Q' hQ=>?_) (fun lH nI hR=>?_)
  ·replace h := hx
   clear hx
   refine Zf (Za (EL_p (fPtr p1 0) (Zc at_25_0 rfl (PT.ptr q1)) rfl ?_))
   have eG:=Zm (part_BoxLoom_0).1 q1
   refine Ze .plain rfl (D_load (g:=gp6) Try.isAgg22 Try.sizeOf22 rfl eG fun pI gG=>?_)
   refine EL_p (.int .i64 (((x0).Boxes).length:Int)) (P_len Try.underlying22 rfl gG) rfl ?_
   refine EL_in (.bool (((((x0).Boxes).length:Int) != (2:Int)))) rfl rfl rfl rfl ?_
   refine Zg (.bool (((((x0).Boxes).length:Int) != (2:Int)))) rfl rfl ?_
   refine Zb (Zd ?_)
   rcases Zt h with ⟨jB,h⟩ | ⟨jB,h⟩
   ·refine E_ct jB rfl ?_
    refine Zu ?_
    obtain rfl:=sinj h
    exact hQ _ _ ⟨gp6,hfr,rfl,q1,rfl,b2,i7,j7,m7,rfl,qp6,rfl,rfl⟩
   ·refine E_cf jB rfl ?_
    refine Za (EL_p (fPtr p1 1) (Zc at_25_1 rfl (PT.ptr q1)) rfl ?_)
    have hG:=Zm (part_BoxLoom_1).1 q1
    refine Ze .plain rfl (D_load (g:=gp6) Try.isAgg22 Try.sizeOf22 rfl hG fun qI iG=>?_)
    refine EL_p (.int .i64 (((x0).At).length:Int)) (P_len Try.underlying22 rfl iG) rfl ?_
    refine EL_in (.bool (((((x0).At).length:Int) != (2:Int)))) rfl rfl rfl rfl ?_
    refine Zg (.bool (((((x0).At).length:Int) != (2:Int)))) rfl rfl ?_
    refine Zb ?_
    obtain rfl:=sinj h
    exact hQ _ _ ⟨gp6,hfr,rfl,q1,rfl,b2,i7,j7,m7,rfl,qp6,rfl,rfl⟩
  ·clear hx
   obtain ⟨aC,hfr,m8,i5,x6,j6,u2_0_66,u2_1_66,u2_2_66,g8,l5,iE,gA⟩:=hR
   rcases Zt h with ⟨lB,h⟩ | ⟨lB,h⟩
   ·refine E_cond_true (Eq.trans (show ev _ _ = .bool (a7) from gA) (congrArg Value.bool lB)) ?_
    refine Zf (Za (Ze .plain rfl (D_load (g:=aC) Try.isAgg102 Try.sizeOf102 g8 l5 fun jG kG=>?_)))
    refine Ze .plain rfl (D_storeOc (g:=aC) (v:=jG) Try.sizeOf102 x6 j6 rfl kG fun rI sI hs b69 cb=>?_)
    clear cb
    have hfr:=hfr.stp hs
    refine Zg (.int .i64 (4)) rfl rfl ?_
    refine Zb (Zd (E_ret (blk_r ?_)))
    refine thn_r ?_
    obtain rfl:=sinj h
    obtain ⟨ad70,cv70,hp70,uE,cr70⟩:=ob_read Try.isAgg102 Try.sizeOf102 b69
    exact endm_ct rfl rfl ((show _=p2 from x6).trans hp70) uE (show _=.int .i64 (4) from rfl) ⟨_,hfr,_,_,rfl,cr70,rfl⟩
   ·refine E_cond_false (Eq.trans (show ev _ _ = .bool (a7) from gA) (congrArg Value.bool lB)) ?_
    refine Zf (Za (Ze .plain rfl (D_load (g:=aC) Try.isAgg102 Try.sizeOf102 g8 l5 fun lG mG=>?_)))
    obtain ⟨zB,vE,h⟩:=bsome h
    refine Ze .plain rfl (Zp (g:=aC) (vs:=[lG]) en85 (.cons rfl .nil) (wk85 mG vE) fun n8 mH tI hs hr=>?_)
    have hfr:=hfr.ext hs
    have i5:=i5.ext hs
    have u2_0_66:=u2_0_66.ext hs
    have u2_1_66:=u2_1_66.ext hs
    have u2_2_66:=u2_2_66.ext hs
    have j6:=j6.ext hs
    have l5:=l5.ext hs
    subst hr
    refine EL_p (.bool (!zB)) (P_not rfl) rfl ?_
    refine Zg (.bool (!zB)) rfl rfl ?_
    refine Zb (Zd ?_)
    rcases Zt h with ⟨mB,h⟩ | ⟨mB,h⟩
    ·refine E_ct mB rfl ?_
     refine Zf (Za (Ze .plain rfl (D_load (g:=n8) Try.isAgg102 Try.sizeOf102 g8 l5 fun nG oG=>?_)))
     refine Ze .plain rfl (D_storeOc (g:=n8) (v:=nG) Try.sizeOf102 x6 j6 rfl oG fun uI vI hs b76 cb=>?_)
     clear cb
     have hfr:=hfr.stp hs
     refine Zg (.int .i64 (3)) rfl rfl ?_
     refine Zb (Zd (E_ret (blk_r ?_)))
     refine thn_r ?_
     obtain rfl:=sinj h
     obtain ⟨ad77,cv77,hp77,xE,cr77⟩:=ob_read Try.isAgg102 Try.sizeOf102 b76
     exact endm_ct rfl rfl ((show _=p2 from x6).trans hp77) xE (show _=.int .i64 (3) from rfl) ⟨_,hfr,_,_,rfl,cr77,rfl⟩
    ·refine E_cf mB rfl ?_
     refine Zf (Za (EL_p (fPtr p1 2) (Zc at_25_2 m8 (PT.ptr i5)) rfl ?_))
     have pG:=Zm (part_BoxLoom_2).1 i5
     refine Ze .plain rfl (D_load (g:=n8) Try.isAgg23 Try.sizeOf23 rfl pG fun xI qG=>?_)
     refine EL_p (.int .i64 (((x0).Shuttles).length:Int)) (P_len Try.underlying23 rfl qG) rfl ?_
     refine EL_p (.bool ((decide ((((x0).Shuttles).length:Int) > (6:Int))))) (P_int rfl rfl rfl) rfl ?_
     refine EL_p (.bool ((decide ((((x0).Shuttles).length:Int) > (6:Int))))) (P_assign rfl) rfl ?_
     refine Zb (Zd ?_)
     rcases Zt h with ⟨nB,h⟩ | ⟨nB,h⟩
     ·refine E_ct nB rfl ?_
      refine Zf (Za (Ze .plain rfl (D_load (g:=n8) Try.isAgg102 Try.sizeOf102 g8 l5 fun rG sG=>?_)))
      refine Ze .plain rfl (D_storeOc (g:=n8) (v:=rG) Try.sizeOf102 x6 j6 rfl sG fun yI zI hs b82 cb=>?_)
      clear cb
      have hfr:=hfr.stp hs
      refine Zg (.int .i64 (5)) rfl rfl ?_
      refine Zb (Zd (E_ret (blk_r ?_)))
      refine thn_r ?_
      obtain rfl:=sinj h
      obtain ⟨ad83,cv83,hp83,yE,cr83⟩:=ob_read Try.isAgg102 Try.sizeOf102 b82
      exact endm_ct rfl rfl ((show _=p2 from x6).trans hp83) yE (show _=.int .i64 (5) from rfl) ⟨_,hfr,_,_,rfl,cr83,rfl⟩
     ·refine E_cf nB rfl ?_
      obtain ⟨d7,hx,h⟩:=bsome h
      refine E_join (fun e w=>∃ (g:Gh) ,Fr gI wI g w∧e 1=p1∧PT g.m w (x0:BoxLoom) p1∧e 2=p2∧OB 2002 g w 102 ((⟨⟨[],[],[]⟩⟩:BoxBoxLoom):BoxBoxLoom) p2∧OSF 2002 60200 0 g w 3 102 ((((⟨⟨[],[],[]⟩⟩:BoxBoxLoom)).BoxLoom).Boxes) p2∧OSF 2002 60201 1 g w 3 102 ((((⟨⟨[],[],[]⟩⟩:BoxBoxLoom)).BoxLoom).At) p2∧OSF 2002 60202 2 g w 87 102 ((((⟨⟨[],[],[]⟩⟩:BoxBoxLoom)).BoxLoom).Shuttles) p2∧e 4=p5∧PT g.m w ((⟨x0⟩:BoxBoxLoom):BoxBoxLoom) p5∧e 33=.bool (d7)) (fun Q' hQ=>?_) (fun nH aJ hR=>?_)
      ·replace h := hx
       clear hx
       refine Zf (Za (EL_p (fPtr p1 2) (Zc at_25_2 m8 (PT.ptr i5)) rfl ?_))
       have tG:=Zm (part_BoxLoom_2).1 i5
       refine Ze .plain rfl (D_load (g:=n8) Try.isAgg23 Try.sizeOf23 rfl tG fun bJ uG=>?_)
       refine EL_p (.int .i64 (((x0).Shuttles).length:Int)) (P_len Try.underlying23 rfl uG) rfl ?_
       refine EL_in (.bool (((((x0).Shuttles).length:Int) == (0:Int)))) rfl rfl rfl rfl ?_
       refine Zg (.bool (((((x0).Shuttles).length:Int) == (0:Int)))) rfl rfl ?_
       refine Zb (Zd ?_)
       rcases Zt h with ⟨oB,h⟩ | ⟨oB,h⟩
       ·refine E_ct oB rfl ?_
        refine Zu ?_
        obtain rfl:=sinj h
        exact hQ _ _ ⟨n8,hfr,m8,i5,x6,j6,u2_0_66,u2_1_66,u2_2_66,g8,l5,rfl⟩
       ·refine E_cf oB rfl ?_
        refine Za (EL_p (fPtr p1 2) (Zc at_25_2 m8 (PT.ptr i5)) rfl ?_)
        have vG:=Zm (part_BoxLoom_2).1 i5
        refine Ze .plain rfl (D_load (g:=n8) Try.isAgg23 Try.sizeOf23 rfl vG fun xG yG=>?_)
        refine Zo iE rfl ?_
        obtain ⟨cD,zE,h⟩:=bsome h
        refine Ze .plain rfl (Zp (g:=n8) (vs:=[xG,(.func (.func 83) #[] #[p5])]) en86 (.cons rfl (.cons rfl .nil)) (wk86 yG ⟨83,#[],#[p5],rfl,en83,fun g' w' hch a0 b0 r hu0 hr=>by exact Fn.mono (wk83 hu0 (l5.ch hch) hr) fun _ _ _ h=>RV_bool.2 h⟩ zE) fun zG oH cJ hs hr=>?_)
        have hfr:=hfr.ext hs
        have i5:=i5.ext hs
        have u2_0_66:=u2_0_66.ext hs
        have u2_1_66:=u2_1_66.ext hs
        have u2_2_66:=u2_2_66.ext hs
        have j6:=j6.ext hs
        have l5:=l5.ext hs
        subst hr
        refine Zg (.bool (cD)) rfl rfl ?_
        refine Zb ?_
        obtain rfl:=sinj h
        exact hQ _ _ ⟨zG,hfr,m8,i5,x6,j6,u2_0_66,u2_1_66,u2_2_66,g8,l5,rfl⟩
      ·clear hx
       obtain ⟨eD,hfr,jE,kE,u9,cC,u2_0_98,u2_1_98,u2_2_98,eC,iC,iA⟩:=hR
       rcases Zt h with ⟨tB,h⟩ | ⟨tB,h⟩
       ·refine E_cond_true (Eq.trans (show ev _ _ = .bool (d7) from iA) (congrArg Value.bool tB)) ?_
        refine Zf (Za (Ze .plain rfl (D_load (g:=eD) Try.isAgg102 Try.sizeOf102 eC iC fun cF dF=>?_)))
        refine Ze .plain rfl (D_storeOc (g:=eD) (v:=cF) Try.sizeOf102 u9 cC rfl dF fun pH qH hs b101 cb=>?_)
        clear cb
        have hfr:=hfr.stp hs
        refine Zg (.int .i64 (2)) rfl rfl ?_
        refine Zb (Zd (E_ret (blk_r ?_)))
        refine thn_r ?_
        obtain rfl:=sinj h
        obtain ⟨ad102,cv102,hp102,lE,cr102⟩:=ob_read Try.isAgg102 Try.sizeOf102 b101
        exact endm_ct rfl rfl ((show _=p2 from u9).trans hp102) lE (show _=.int .i64 (2) from rfl) ⟨_,hfr,_,_,rfl,cr102,rfl⟩
       ·refine E_cond_false (Eq.trans (show ev _ _ = .bool (d7) from iA) (congrArg Value.bool tB)) ?_
        exact Zu (blk_n (Zd (tE ((⟨⟨[],[],[]⟩⟩:BoxBoxLoom)) _ _ ⟨eD,hfr,jE,kE,u9,cC,u2_0_98,u2_1_98,u2_2_98,eC,iC⟩ h)))
 ·rintro o0 aH sH ⟨eF, hfr, jA, v7, gD, t8, u2_0_103, u2_1_103, u2_2_103, iD, v8⟩ h
  refine Zf (Za (Ze .plain rfl (D_makeMap (g:=eF) (encK pl_138) Bool 8043 fun jD tH i8 hs m104=>?_)))
  have hfr:=hfr.stp hs
  have v7:=v7.stp hs
  have u2_0_103:=u2_0_103.stp hs rfl
  have u2_1_103:=u2_1_103.stp hs rfl
  have u2_2_103:=u2_2_103.stp hs rfl
  have t8:=t8.stp hs rfl
  have v8:=v8.stp hs
  refine Zg i8 rfl rfl ?_
  refine Zb (Zd ?_)
  obtain ⟨l8,hx,h⟩:=bsome h
  refine E_join (fun e w=>∃ (g:Gh) ,Fr gI wI g w∧e 1=p1∧PT g.m w (x0:BoxLoom) p1∧e 2=p2∧OB 2002 g w 102 (o0:BoxBoxLoom) p2∧OSF 2002 60200 0 g w 3 102 (((o0).BoxLoom).Boxes) p2∧OSF 2002 60201 1 g w 3 102 (((o0).BoxLoom).At) p2∧OSF 2002 60202 2 g w 87 102 (((o0).BoxLoom).Shuttles) p2∧e 4=p5∧PT g.m w ((⟨x0⟩:BoxBoxLoom):BoxBoxLoom) p5∧e 6=i8∧MP (encK pl_138) 8043 g w (l8:List ((Vector Int 2) × Bool)) i8) (fun Q' hQ=>?_) (fun bH uH hR=>?_)
  ·replace h := hx
   clear hx
   refine Zf (Za (EL_p (fPtr p1 2) (Zc at_25_2 jA (PT.ptr v7)) rfl ?_))
   have iF:=Zm (part_BoxLoom_2).1 v7
   refine Ze .plain rfl (D_load (g:=jD) Try.isAgg23 Try.sizeOf23 rfl iF fun x8 kD=>?_)
   refine EL_p (.int .i64 (((x0).Shuttles).length:Int)) (P_len Try.underlying23 rfl kD) rfl ?_
   refine Zn (.int .i64 (0)) rfl rfl ?_
   refine Zb (Zd (Zr ?_))
   refine E_lp h (fun (s:(List ((Vector Int 2) × Bool)) × Int) e w=>∃ (g:Gh) ,Fr gI wI g w∧e 1=p1∧PT g.m w (x0:BoxLoom) p1∧e 2=p2∧OB 2002 g w 102 (o0:BoxBoxLoom) p2∧OSF 2002 60200 0 g w 3 102 (((o0).BoxLoom).Boxes) p2∧OSF 2002 60201 1 g w 3 102 (((o0).BoxLoom).At) p2∧OSF 2002 60202 2 g w 87 102 (((o0).BoxLoom).Shuttles) p2∧e 4=p5∧PT g.m w ((⟨x0⟩:BoxBoxLoom):BoxBoxLoom) p5∧e 6=i8∧MP (encK pl_138) 8043 g w (s.1:List ((Vector Int 2) × Bool)) i8∧e 45=x8∧RV g.m w ((x0).Shuttles:List BoxShuttle) x8∧e 46=.int .i64 ((((x0).Shuttles).length:Int))∧e 47=.int .i64 (s.2)) ⟨jD,hfr,jA,v7,gD,t8,u2_0_103,u2_1_103,u2_2_103,iD,v8,rfl,m104,rfl,kD,rfl,rfl⟩ (fun X135 vC mE=>?_)
   rintro ⟨r8,i3⟩ cH xH ⟨vB,hfr,mA,t5,pA,x5,u2_0_136,u2_1_136,u2_2_136,qA,i6,a9,y6,l9,u3,n9,q8⟩ h
   refine Zf (Za (EL_p (.bool ((decide (i3 < (((x0).Shuttles).length:Int))))) (P_int q8 n9 rfl) rfl ?_))
   refine Zb (Zd (Zf ?_))
   rcases Zt h with ⟨y9,h⟩ | ⟨y9,h⟩
   ·refine E_ct y9 rfl ?_
    refine Zu (Zd ?_)
    obtain ⟨k8,hx,h⟩:=bsome h
    refine E_join (fun e w=>∃ (g:Gh) ,Fr gI wI g w∧e 1=p1∧PT g.m w (x0:BoxLoom) p1∧e 2=p2∧OB 2002 g w 102 (o0:BoxBoxLoom) p2∧OSF 2002 60200 0 g w 3 102 (((o0).BoxLoom).Boxes) p2∧OSF 2002 60201 1 g w 3 102 (((o0).BoxLoom).At) p2∧OSF 2002 60202 2 g w 87 102 (((o0).BoxLoom).Shuttles) p2∧e 4=p5∧PT g.m w ((⟨x0⟩:BoxBoxLoom):BoxBoxLoom) p5∧e 6=i8∧MP (encK pl_138) 8043 g w (k8:List ((Vector Int 2) × Bool)) i8∧e 45=x8∧RV g.m w ((x0).Shuttles:List BoxShuttle) x8∧e 46=.int .i64 ((((x0).Shuttles).length:Int))∧e 47=.int .i64 (i3)) (fun Q' hQ=>?_) (fun dH yH hR=>?_)
    ·replace h := hx
     clear hx
     refine Zr ?_
     refine Zf (Za ?_)
     obtain ⟨v6,lC,h⟩:=bsome h
     refine EL_p (ePtr x8 i3 5) (Zh (α:=BoxShuttle) Try.underlying23 Try.sizeOf87 l9 u3 q8 lC) rfl ?_
     have nF:=PT_idx u3 lC
     refine Ze .plain rfl (D_load (g:=vB) Try.isAgg87 Try.sizeOf87 rfl nF fun oF yB=>?_)
     refine Ze .plain rfl (D_allocOc (g:=vB) 2008 (⟨0,0,0,⟨0,0⟩⟩:BoxShuttle) Try.zeroValue87 (fun m w=>⟨_,(rep_two rep_int (rep_two rep_int (rep_two rep_int (rep_two rep_int rep_int)))),rfl⟩) fun pF zH lD hs b152 cb=>?_)
     have hfr:=hfr.stp hs
     have t5:=t5.stp hs
     have u2_0_136:=u2_0_136.stp hs rfl
     have u2_1_136:=u2_1_136.stp hs rfl
     have u2_2_136:=u2_2_136.stp hs rfl
     have x5:=x5.stp hs rfl
     have i6:=i6.stp hs
     have y6:=y6.stp hs rfl
     have u3:=u3.stp hs
     have yB:=yB.stp hs
     clear cb
     refine Ze .plain rfl (D_storeOc (g:=pF) (v:=oF) Try.sizeOf87 rfl b152 rfl yB fun z9 qF hs b153 cb=>?_)
     clear cb
     have hfr:=hfr.stp hs
     have t5:=t5.stp hs
     have u2_0_136:=u2_0_136.stp hs rfl
     have u2_1_136:=u2_1_136.stp hs rfl
     have u2_2_136:=u2_2_136.stp hs rfl
     have x5:=x5.stp hs rfl
     have i6:=i6.stp hs
     have y6:=y6.stp hs rfl
     have u3:=u3.stp hs
     refine Zb (Zd (Za (Zo a9 rfl ?_)))
     refine EL_p (fPtr lD 1) (Zc at_87_1 rfl (OB.ptr b153)) rfl ?_
     refine Ze .plain rfl (D_loadF (g:=z9) part_BoxShuttle_1.1 Try.isAgg3 Try.sizeOf3 rfl b153 fun aI rF=>?_)
     obtain rfl:=Zj.1 rF
     refine EL_p (fPtr lD 2) (Zc at_87_2 rfl (OB.ptr b153)) rfl ?_
     refine Ze .plain rfl (D_loadF (g:=z9) part_BoxShuttle_2.1 Try.isAgg3 Try.sizeOf3 rfl b153 fun bI sF=>?_)
     obtain rfl:=Zj.1 sF
     have mD:RV z9.m qF (⟨List.toArray [(v6).Side,(v6).Box],rfl⟩:Vector Int 2) (.agg (setCh [[.int .i64 0],[.int .i64 0]] [(0,.int .i64 ((v6).Side)),(1,.int .i64 ((v6).Box))]).flatten.toArray):=RV_build rfl (rep_vec (flat_chunk rfl (flat_chunk rfl flat_nil)) rfl)
     generalize nE:(Value.agg (setCh [[.int .i64 0],[.int .i64 0]] [(0,.int .i64 ((v6).Side)),(1,.int .i64 ((v6).Box))]).flatten.toArray)=tF at mD
     refine EL_p tF (nE ▸ P_buildA (vs:=[(0,.int .i64 ((v6).Side)),(1,.int .i64 ((v6).Box))]) [[.int .i64 0],[.int .i64 0]] Try.underlying138 layA_138 szA_3 rfl (by simp) (.cons rfl (.cons rfl .nil)) ⟨⟨_,rfl,rfl⟩,⟨⟨_,rfl,rfl⟩,trivial⟩⟩) rfl ?_
     refine Ze .plain rfl (D_mapUpdate (g:=z9) Try.underlying151 key_138 rfl y6 (rfl.trans (encK_of pl_138 mD)) rfl (RV_bool.2 rfl) fun uF cI hs m159=>?_)
     have hfr:=hfr.stp hs
     have t5:=t5.stp hs
     have u2_0_136:=u2_0_136.stp hs rfl
     have u2_1_136:=u2_1_136.stp hs rfl
     have u2_2_136:=u2_2_136.stp hs rfl
     have x5:=x5.stp hs rfl
     have i6:=i6.stp hs
     have u3:=u3.stp hs
     refine Zb (blk_n ?_)
     obtain rfl:=sinj h
     exact hQ _ _ ⟨uF,hfr,mA,t5,pA,x5,u2_0_136,u2_1_136,u2_2_136,qA,i6,a9,m159,l9,u3,n9,q8⟩
    ·clear hx
     obtain ⟨vF,hfr,nD,oD,sD,tD,u2_0_160,u2_1_160,u2_2_160,uD,vD,xD,yD,mC,qC,rC,uC⟩:=hR
     refine Za (EL_in (.int .i64 ((w64 (i3 + (1:Int))))) uC rfl rfl rfl ?_)
     refine Zn (.int .i64 ((w64 (i3 + (1:Int))))) rfl rfl ?_
     exact Zb (Zd (mE (k8,(w64 (i3 + (1:Int)))) _ _ ⟨vF,hfr,nD,oD,sD,tD,u2_0_160,u2_1_160,u2_2_160,uD,vD,xD,yD,mC,qC,rC,rfl⟩ h))
   ·refine E_cf y9 rfl ?_
    refine E_exit ?_
    refine thn_e ?_
    refine thn_e ?_
    refine blk_hit ?_
    obtain rfl:=sinj h
    exact hQ _ _ ⟨vB,hfr,mA,t5,pA,x5,u2_0_136,u2_1_136,u2_2_136,qA,i6,a9,y6⟩
  ·clear hx
   obtain ⟨d9,hfr,zD,rA,k9,yA,u2_0_161,u2_1_161,u2_2_161,aB,dB,aE,bE⟩:=hR
   refine Zq h (fun (s:BoxBoxLoom) e w=>∃ (g:Gh) ,Fr gI wI g w∧e 2=p2∧OB 2002 g w 102 (s:BoxBoxLoom) p2∧OSF 2002 60200 0 g w 3 102 (((s).BoxLoom).Boxes) p2∧OSF 2002 60201 1 g w 3 102 (((s).BoxLoom).At) p2∧OSF 2002 60202 2 g w 87 102 (((s).BoxLoom).Shuttles) p2∧e 4=p5∧PT g.m w ((⟨x0⟩:BoxBoxLoom):BoxBoxLoom) p5) (fun X168 bD oE h=>?_) ?_
   ·refine Zf (Za (Zo aE rfl ?_))
    refine Ze .plain rfl (P_lenMap (g:=d9) Try.underlying151 rfl bE ?_)
    refine EL_p (fPtr p1 2) (Zc at_25_2 zD (PT.ptr rA)) rfl ?_
    have xF:=Zm (part_BoxLoom_2).1 rA
    refine Ze .plain rfl (D_load (g:=d9) Try.isAgg23 Try.sizeOf23 rfl xF fun dI yF=>?_)
    refine EL_p (.int .i64 (((x0).Shuttles).length:Int)) (P_len Try.underlying23 rfl yF) rfl ?_
    refine EL_p (.bool ((decide (((l8).length:Int) < (((x0).Shuttles).length:Int))))) (P_int rfl rfl rfl) rfl ?_
    refine Zb (Zd ?_)
    rcases Zt h with ⟨bA,h⟩ | ⟨bA,h⟩
    ·refine E_ct bA rfl ?_
     refine Zf (Za (Ze .plain rfl (D_load (g:=d9) Try.isAgg102 Try.sizeOf102 aB dB fun zF aG=>?_)))
     refine Ze .plain rfl (D_storeOc (g:=d9) (v:=zF) Try.sizeOf102 k9 yA rfl aG fun iI jI hs b173 cb=>?_)
     clear cb
     have hfr:=hfr.stp hs
     refine Zg (.int .i64 (6)) rfl rfl ?_
     refine Zb (Zd (E_ret (thn_r ?_)))
     obtain rfl:=sinj h
     obtain ⟨ad174,cv174,hp174,rE,cr174⟩:=ob_read Try.isAgg102 Try.sizeOf102 b173
     exact endm_ct rfl rfl ((show _=p2 from k9).trans hp174) rE (show _=.int .i64 (6) from rfl) ⟨_,hfr,_,_,rfl,cr174,rfl⟩
    ·refine E_cf bA rfl ?_
     exact Zu (Zd (oE (o0) _ _ ⟨d9,hfr,k9,yA,u2_0_161,u2_1_161,u2_2_161,aB,dB⟩ h))
   ·rintro aD gH kI ⟨cE, hfr, iB, dE, u2_0_175, u2_1_175, u2_2_175, eE, gE⟩ h
    refine Zf (Za (Ze .plain rfl (D_load (g:=cE) Try.isAgg102 Try.sizeOf102 eE gE fun bG cG=>?_)))
    refine Ze .plain rfl (D_storeOc (g:=cE) (v:=bG) Try.sizeOf102 iB dE rfl cG fun lI mI hs b177 cb=>?_)
    clear cb
    have hfr:=hfr.stp hs
    refine Zg (.int .i64 (0)) rfl rfl ?_
    refine Zb (Zd (E_ret ?_))
    obtain rfl:=sinj h
    obtain ⟨ad178,cv178,hp178,sE,cr178⟩:=ob_read Try.isAgg102 Try.sizeOf102 b177
    exact endm_ct rfl rfl ((show _=p2 from iB).trans hp178) sE (show _=.int .i64 (0) from rfl) ⟨_,hfr,_,_,rfl,cr178,rfl⟩
def f74 (x0:BoxLoom) (x1:List BoxPick):Option (BoxBoxLoom × Int):=
 (f51 x0).bind fun y5=>
 jn (σ:=BoxBoxLoom) (fun y6=>
  some (y5.1,(0:Int))
  ) fun j7=>
 bif (y5.2 != (0 : Int)) then
  some (y5.1,y5.2)
 else
  bif (decide (((x1).length : Int) > (24 : Int))) then
   some (y5.1,(5:Int))
  else
   (f96 x1 ((fun a0=>f95 a0 (y5.1)))).bind fun v6=>
   bif v6 then
    some (y5.1,(2:Int))
   else
    j7 ((⟨⟨[],[],[]⟩⟩:BoxBoxLoom))
theorem en74:Enters Try.prog 74:=enters_of Try.func74 (by kernel_rfl) rfl
theorem wk74 {gI:Gh} {wI:World} {x0:BoxLoom} {x1:List BoxPick} {up0:Value} (rp0:RV gI.m wI x0 up0) {up1:Value} (rp1:RV gI.m wI x1 up1) {r:BoxBoxLoom × Int} (h:f74 x0 x1=some r):Fn Try.prog 74 #[up0,up1] gI wI (fun m w v=>∃ y0 y1,v=.tuple #[y0,y1]∧RV m w (r.1) y0∧y1=.int .i64 (r.2)):=by
 unfold f74 at h
 refine fn_of_E Try.func74 rfl (Nat.le_of_ble_eq_true rfl) fun g0 hm hfr=>?_
 have rp0:RV g0.m wI x0 up0:=hm ▸ rp0
 have rp1:RV g0.m wI x1 up1:=hm ▸ rp1
 show E _ 31 none _ _ _ _ _
 refine Zf (Za (Ze .plain rfl (D_box (g:=g0) rfl rp0 fun g1 w1 p1 hs q1=>?_)))
 have hfr:=hfr.ext hs
 have rp1:=rp1.ext hs
 refine Ze .plain rfl (D_allocOc (g:=g1) 2004 (⟨⟨[],[],[]⟩⟩:BoxBoxLoom) Try.zeroValue102 (fun m w=>⟨_,(rep_two rep_nil (rep_two rep_nil rep_nil)),rfl⟩) fun g2 w2 p2 hs b2 cb=>?_)
 have hfr:=hfr.stp hs
 have rp1:=rp1.stp hs
 have q1:=q1.stp hs
 have o0:OSF 2004 60400 0 g2 w2 3 102 ([]:List Int) p2:=cb.osf (by rfl)
 have i3:OSF 2004 60401 1 g2 w2 3 102 ([]:List Int) p2:=cb.osf (by rfl)
 have u3:OSF 2004 60402 2 g2 w2 87 102 ([]:List BoxShuttle) p2:=cb.osf (by rfl)
 clear cb
 refine Zg (.int .i64 (0)) rfl rfl ?_
 refine Zb (Zd (Zf (Za (Ze .plain rfl (D_load (g:=g2) Try.isAgg25 Try.sizeOf25 rfl q1 fun v3 r3=>?_)))))
 obtain ⟨y5,hy5,h⟩:=bsome h
 refine Ze .plain rfl (Zp (g:=g2) (vs:=[v3]) en51 (.cons rfl .nil) (wk51 r3 hy5) fun g4 w4_ v4 hs hr=>?_)
 have hfr:=hfr.ext hs
 have rp1:=rp1.ext hs
 have o0:=o0.ext hs
 have i3:=i3.ext hs
 have u3:=u3.ext hs
 have b2:=b2.ext hs
 obtain ⟨i5,k9,rfl,l5,rfl⟩:=hr
 refine Zn (.tuple #[i5,.int .i64 (y5.2)]) rfl rfl ?_
 refine EL_p i5 (Zi rfl rfl) rfl ?_
 refine EL_p (.int .i64 (y5.2)) (Zi rfl rfl) rfl ?_
 refine Ze .plain rfl (D_allocOc (g:=g4) 2006 (⟨⟨[],[],[]⟩⟩:BoxBoxLoom) Try.zeroValue102 (fun m w=>⟨_,(rep_two rep_nil (rep_two rep_nil rep_nil)),rfl⟩) fun g6 w6 p6 hs b6 cb=>?_)
 have hfr:=hfr.stp hs
 have rp1:=rp1.stp hs
 have o0:=o0.stp hs rfl
 have i3:=i3.stp hs rfl
 have u3:=u3.stp hs rfl
 have b2:=b2.stp hs rfl
 have l5:=l5.stp hs
 have l9:OSF 2006 60600 0 g6 w6 3 102 ([]:List Int) p6:=cb.osf (by rfl)
 have n9:OSF 2006 60601 1 g6 w6 3 102 ([]:List Int) p6:=cb.osf (by rfl)
 have u9:OSF 2006 60602 2 g6 w6 87 102 ([]:List BoxShuttle) p6:=cb.osf (by rfl)
 clear cb
 refine Ze .plain rfl (D_storeOc (g:=g6) (v:=i5) Try.sizeOf102 rfl b6 rfl l5 fun g7 w7 hs b7 cb=>?_)
 clear cb
 have hfr:=hfr.stp hs
 have rp1:=rp1.stp hs
 have o0:=o0.stp hs rfl
 have i3:=i3.stp hs rfl
 have u3:=u3.stp hs rfl
 have b2:=b2.stp hs rfl
 obtain ⟨gp7,hs,qp7⟩:=OB.pub b7
 have hfr:=hfr.stp hs
 have rp1:=rp1.stp hs
 have o0:=o0.stp hs rfl
 have i3:=i3.stp hs rfl
 have u3:=u3.stp hs rfl
 have b2:=b2.stp hs rfl
 refine Zg (.int .i64 (y5.2)) rfl rfl ?_
 refine Zb (Zd (Zf (Za (EL_p ((.func (.func 95) #[] #[p6])) (P_makeFunc (capf_0_1 (show ev _ _=p6 from rfl))) rfl ?_))))
 refine Zg ((.func (.func 95) #[] #[p6])) rfl rfl ?_
 refine Zb (Zd (Zq h (fun (s:BoxBoxLoom) e w=>∃ (g:Gh) ,Fr gI wI g w∧e 4=p2∧OB 2004 g w 102 (s:BoxBoxLoom) p2∧OSF 2004 60400 0 g w 3 102 (((s).BoxLoom).Boxes) p2∧OSF 2004 60401 1 g w 3 102 (((s).BoxLoom).At) p2∧OSF 2004 60402 2 g w 87 102 (((s).BoxLoom).Shuttles) p2∧e 6=p6∧PT g.m w (y5.1:BoxBoxLoom) p6) (fun X22 j7 v7 h=>?_) ?_))
 ·refine Zr ?_
  refine Zf (Za (Zn (.int .i64 (y5.2)) rfl rfl ?_))
  refine EL_in (.bool ((y5.2 != (0:Int)))) rfl rfl rfl rfl ?_
  refine Zg (.bool ((y5.2 != (0:Int)))) rfl rfl ?_
  refine Zb (Zd ?_)
  rcases Zt h with ⟨t5,h⟩ | ⟨t5,h⟩
  ·refine E_ct t5 rfl ?_
   refine Zf (Za (Ze .plain rfl (D_load (g:=gp7) Try.isAgg102 Try.sizeOf102 rfl qp7 fun n8 q8=>?_)))
   refine Zn (.int .i64 (y5.2)) rfl rfl ?_
   refine Ze .plain rfl (D_storeOc (g:=gp7) (v:=n8) Try.sizeOf102 rfl b2 rfl q8 fun bA gA hs b25 cb=>?_)
   clear cb
   have hfr:=hfr.stp hs
   refine Zg (.int .i64 (y5.2)) rfl rfl ?_
   refine Zb (Zd (E_ret (blk_r ?_)))
   refine thn_r ?_
   obtain rfl:=sinj h
   obtain ⟨ad26,cv26,hp26,g8,cr26⟩:=ob_read Try.isAgg102 Try.sizeOf102 b25
   exact endm_ct rfl rfl ((show _=p2 from rfl).trans hp26) g8 (show _=.int .i64 (y5.2) from rfl) ⟨_,hfr,_,_,rfl,cr26,rfl⟩
  ·refine E_cf t5 rfl ?_
   refine Zf (Za (Zn up1 rfl rfl ?_))
   refine EL_p (.int .i64 ((x1).length:Int)) (P_len Try.underlying30 rfl rp1) rfl ?_
   refine EL_in (.bool ((decide (((x1).length:Int) > (24:Int))))) rfl rfl rfl rfl ?_
   refine Zg (.bool ((decide (((x1).length:Int) > (24:Int))))) rfl rfl ?_
   refine Zb (Zd ?_)
   rcases Zt h with ⟨x5,h⟩ | ⟨x5,h⟩
   ·refine E_ct x5 rfl ?_
    refine Zf (Za (Ze .plain rfl (D_load (g:=gp7) Try.isAgg102 Try.sizeOf102 rfl qp7 fun r8 t8=>?_)))
    refine Ze .plain rfl (D_storeOc (g:=gp7) (v:=r8) Try.sizeOf102 rfl b2 rfl t8 fun iA jA hs b29 cb=>?_)
    clear cb
    have hfr:=hfr.stp hs
    refine Zg (.int .i64 (5)) rfl rfl ?_
    refine Zb (Zd (E_ret (blk_r ?_)))
    refine thn_r ?_
    obtain rfl:=sinj h
    obtain ⟨ad30,cv30,hp30,i8,cr30⟩:=ob_read Try.isAgg102 Try.sizeOf102 b29
    exact endm_ct rfl rfl ((show _=p2 from rfl).trans hp30) i8 (show _=.int .i64 (5) from rfl) ⟨_,hfr,_,_,rfl,cr30,rfl⟩
   ·refine E_cf x5 rfl ?_
    refine Zf (Za (Zn up1 rfl rfl ?_))
    refine Zn ((.func (.func 95) #[] #[p6])) rfl rfl ?_
    obtain ⟨v6,k8,h⟩:=bsome h
    refine Ze .plain rfl (Zp (g:=gp7) (vs:=[up1,(.func (.func 95) #[] #[p6])]) en96 (.cons rfl (.cons rfl .nil)) (wk96 rp1 ⟨95,#[],#[p6],rfl,en95,fun g' w' hch a0 b0 r hu0 hr=>by exact Fn.mono (wk95 hu0 (qp7.ch hch) hr) fun _ _ _ h=>RV_bool.2 h⟩ k8) fun x6 y9 mA hs hr=>?_)
    have hfr:=hfr.ext hs
    have o0:=o0.ext hs
    have i3:=i3.ext hs
    have u3:=u3.ext hs
    have b2:=b2.ext hs
    have qp7:=qp7.ext hs
    subst hr
    refine Zg (.bool (v6)) rfl rfl ?_
    refine Zb (Zd ?_)
    rcases Zt h with ⟨i6,h⟩ | ⟨i6,h⟩
    ·refine E_ct i6 rfl ?_
     refine Zf (Za (Ze .plain rfl (D_load (g:=x6) Try.isAgg102 Try.sizeOf102 rfl qp7 fun v8 x8=>?_)))
     refine Ze .plain rfl (D_storeOc (g:=x6) (v:=v8) Try.sizeOf102 rfl b2 rfl x8 fun pA qA hs b35 cb=>?_)
     clear cb
     have hfr:=hfr.stp hs
     refine Zg (.int .i64 (2)) rfl rfl ?_
     refine Zb (Zd (E_ret (blk_r ?_)))
     refine thn_r ?_
     obtain rfl:=sinj h
     obtain ⟨ad36,cv36,hp36,l8,cr36⟩:=ob_read Try.isAgg102 Try.sizeOf102 b35
     exact endm_ct rfl rfl ((show _=p2 from rfl).trans hp36) l8 (show _=.int .i64 (2) from rfl) ⟨_,hfr,_,_,rfl,cr36,rfl⟩
    ·refine E_cf i6 rfl ?_
     exact Zu (blk_n (Zd (v7 ((⟨⟨[],[],[]⟩⟩:BoxBoxLoom)) _ _ ⟨x6,hfr,rfl,b2,o0,i3,u3,rfl,qp7⟩ h)))
 ·rintro y6 z9 rA ⟨m7, hfr, j6, a7, u4_0_37, u4_1_37, u4_2_37, d7, i7⟩ h
  refine Zf (Za (Ze .plain rfl (D_load (g:=m7) Try.isAgg102 Try.sizeOf102 d7 i7 fun a9 d9=>?_)))
  refine Ze .plain rfl (D_storeOc (g:=m7) (v:=a9) Try.sizeOf102 j6 a7 rfl d9 fun yA aB hs b39 cb=>?_)
  clear cb
  have hfr:=hfr.stp hs
  refine Zg (.int .i64 (0)) rfl rfl ?_
  refine Zb (Zd (E_ret ?_))
  obtain rfl:=sinj h
  obtain ⟨ad40,cv40,hp40,m8,cr40⟩:=ob_read Try.isAgg102 Try.sizeOf102 b39
  exact endm_ct rfl rfl ((show _=p2 from j6).trans hp40) m8 (show _=.int .i64 (0) from rfl) ⟨_,hfr,_,_,rfl,cr40,rfl⟩
def f43 (x0:BoxLoom):Option ((List Int) × Int):=
 (f51 x0).bind fun y4=>
 jn (σ:=Unit) (fun _=>
  Option.bind (α:=(List (Int × Bool))) (
   (f56 (y4.1)).bind fun i8=>
   (f54 (y4.1) ((fun a0 a1=>f55 a0 a1))).bind fun y55=>
   (f80 i8 y55).bind fun k8=>
   (k8 ((List (Int × Bool))) (fun d7 (x8,i7)=>
    some (true,((mset d7 ((i7).colour) true)))
    ) (([]:List (Int × Bool)))).bind fun j7=>
   some (j7)
   ) fun v6=>
  (keysS v6).bind fun y81=>
  some (y81,(0:Int))
  ) fun k9=>
 bif (y4.2 != (0 : Int)) then
  some ([],y4.2)
 else
  k9 ()
theorem en43:Enters Try.prog 43:=enters_of Try.func43 (by kernel_rfl) rfl
theorem wk43 {gI:Gh} {wI:World} {x0:BoxLoom} {up0:Value} (rp0:RV gI.m wI x0 up0) {r:(List Int) × Int} (h:f43 x0=some r):Fn Try.prog 43 #[up0] gI wI (fun m w v=>∃ y0 y1,v=.tuple #[y0,y1]∧RV m w (r.1) y0∧y1=.int .i64 (r.2)):=by
 unfold f43 at h
 refine fnD_of_E Try.func43 rfl (Nat.le_of_ble_eq_true rfl) fun g0 hm hfr=>?_
 have hmk:MkF g0 wI []:=MkF.start
 have rp0:RV g0.m wI x0 up0:=hm ▸ rp0
 show E _ 31 none _ _ _ _ _
 refine Zf (Za (Ze .plain rfl (D_box (g:=g0) rfl rp0 fun g1 w1 p1 hs q1=>?_)))
 have hfr:=hfr.ext hs
 have hmk:=hmk.ext hs
 refine Zg (.slice none 0 0) rfl rfl ?_
 refine Zg (.int .i64 (0)) rfl rfl ?_
 refine Zb (Zd (Zf (Za (Ze .plain rfl (D_load (g:=g1) Try.isAgg25 Try.sizeOf25 rfl q1 fun v2 r2=>?_)))))
 obtain ⟨y4,vB,h⟩:=bsome h
 refine Ze .plain rfl (Zp (g:=g1) (vs:=[v2]) en51 (.cons rfl .nil) (wk51 r2 vB) fun g3 w3_ v3 hs hr=>?_)
 have hfr:=hfr.ext hs
 have hmk:=hmk.ext hs
 obtain ⟨x6,sD,rfl,y6,rfl⟩:=hr
 refine Zn (.tuple #[x6,.int .i64 (y4.2)]) rfl rfl ?_
 refine EL_p x6 (Zi rfl rfl) rfl ?_
 refine EL_p (.int .i64 (y4.2)) (Zi rfl rfl) rfl ?_
 refine Ze .plain rfl (D_allocOc (g:=g3) 2004 (⟨⟨[],[],[]⟩⟩:BoxBoxLoom) Try.zeroValue102 (fun m w=>⟨_,(rep_two rep_nil (rep_two rep_nil rep_nil)),rfl⟩) fun g5 w5 p5 hs b5 cb=>?_)
 have hfr:=hfr.stp hs
 have hmk:=hmk.stp hs
 have y6:=y6.stp hs
 have tD:OSF 2004 60400 0 g5 w5 3 102 ([]:List Int) p5:=cb.osf (by rfl)
 have uD:OSF 2004 60401 1 g5 w5 3 102 ([]:List Int) p5:=cb.osf (by rfl)
 have vD:OSF 2004 60402 2 g5 w5 87 102 ([]:List BoxShuttle) p5:=cb.osf (by rfl)
 clear cb
 refine Ze .plain rfl (D_storeOc (g:=g5) (v:=x6) Try.sizeOf102 rfl b5 rfl y6 fun g6 w6 hs b6 cb=>?_)
 clear cb
 have hfr:=hfr.stp hs
 have hmk:=hmk.stp hs
 refine Zg (.int .i64 (y4.2)) rfl rfl ?_
 refine Zb (Zd (E_joinCD h (fun (s:Unit) e ds w=>∃ (g:Gh) ,Fr gI wI g w∧MkF g w ds∧e 4=p5∧OB 2004 g w 102 (y4.1:BoxBoxLoom) p5) (fun X9 k9 yB h=>?_) ?_))
 ·refine Zf (Za (Zn (.int .i64 (y4.2)) rfl rfl ?_))
  refine EL_in (.bool ((y4.2 != (0:Int)))) rfl rfl rfl rfl ?_
  refine Zb (Zd ?_)
  rcases Zt h with ⟨a7,h⟩ | ⟨a7,h⟩
  ·refine E_ct a7 rfl ?_
   refine Zf (Za (Zn (.int .i64 (y4.2)) rfl rfl ?_))
   refine Zg (.slice none 0 0) rfl rfl ?_
   refine Zg (.int .i64 (y4.2)) rfl rfl ?_
   refine Zb (Zd (E_ret (thn_r ?_)))
   refine endM (.inr rfl) hmk fun dE eE hs=>?_
   have hfr:=hfr.stp hs
   obtain rfl:=sinj h
   exact end2 rfl rfl (show _=.slice none 0 0 from rfl) (show _=.int .i64 (y4.2) from rfl) ⟨_,hfr,_,_,rfl,RV_nil,rfl⟩
  ·refine E_cf a7 rfl ?_
   exact Zu (Zd (yB () _ _ _ ⟨g6,hfr,hmk,rfl,b6⟩ h))
 ·rintro _ xD m7 gE ⟨zB, hfr, hmk, v7, l5⟩ h
  refine Zf (Za (Ze .plain rfl (D_makeMap (g:=zB) (Value.int .i64) Bool 8017 fun aC iE z9 hs m13=>?_)))
  have hfr:=hfr.stp hs
  have hmk:=hmk.stp hs
  have l5:=l5.stp hs rfl
  refine Ze .plain rfl (D_allocOc (g:=aC) 2006 (⟨.map none,rfl⟩:Fv) Try.zeroValue140 (fun _ _=>fvm_rep) fun cC jE l8 hs b14 cb=>?_)
  clear cb
  have hfr:=hfr.stp hs
  have hmk:=hmk.stp hs
  have l5:=l5.stp hs rfl
  have m13:=m13.stp hs rfl
  have on15:=mp_one m13
  refine Ze .plain rfl (D_storeOc (g:=cC) (v:=z9) (a':=(⟨z9,on15⟩:Fv)) Try.sizeOf140 rfl b14 rfl (RV_fv.2 rfl) fun bA w15 hs b15 cb=>?_)
  clear cb
  have hfr:=hfr.stp hs
  have hmk:=hmk.stp hs
  have l5:=l5.stp hs rfl
  have m13:=m13.stp hs rfl
  refine Zb (Zd ?_)
  obtain ⟨v6,hx,h⟩:=bsome h
  refine E_joinD (fun e ds w=>∃ (g:Gh) ,Fr gI wI g w∧MkF g w ds∧e 6=l8∧BM (Value.int .i64) 2006 8017 g w 140 (v6:List (Int × Bool)) l8) (fun Q' hQ=>?_) (fun yD kD kE hR=>?_)
  ·replace h := hx
   clear hx
   refine Zf (L_loadO0 (x:=.tmp 4) Try.isAgg102 Try.sizeOf102 l5 fun gA m8 jB=>?_)
   obtain ⟨i8,lB,h⟩:=bsome h
   refine L_loadO0 (x:=.tmp 4) Try.isAgg102 Try.sizeOf102 l5 fun iA n8 mB=>?_
   refine E_drawC (g:=bA) (w:=w15) (n:=3) [0,2] [2004] [0,1,2] rfl mixed (by kernel_rfl) fun w_c49 hs hlt=>?_
   have hfr:=hfr.ext hs
   have hmk:=hmk.ext hs
   have b15:=b15.ext hs
   have m13:=m13.ext hs
   clear hs
   refine CH_ldO (n:=2004) (c:=gA) rfl rfl .plain jB v7 rfl ?_
   have m8:=m8.ch hlt.1
   refine CH_do rfl rfl .plain (Zp (g:=bA) (vs:=[gA]) en56 (.cons rfl .nil) (wk56 m8 lB) fun eC zD jA hs hr=>?_)
   have hfr:=hfr.ext hs
   have hmk:=hmk.ext hs
   have hlt:=hlt.ext hs
   have b15:=b15.ext hs
   have m13:=m13.ext hs
   have i6:=hr
   have hone500219:=PT.one i6
   refine ⟨hlt.toW,?_⟩
   refine CH_ldO (n:=2004) (c:=iA) rfl rfl .plain mB v7 rfl ?_
   have n8:=n8.ch hlt.1
   refine CH_nil ?_
   clear hlt
   obtain ⟨y55,nB,h⟩:=bsome h
   refine Ze .plain rfl (Zp (g:=eC) (vs:=[iA,.func (.func 55) #[] #[]]) en54 (.cons rfl (.cons rfl .nil)) (wk54 n8 ⟨55,#[],#[],rfl,en55,fun g' w' hch a0 a1 b0 b1 r hu0 hu1 hr=>by obtain rfl:=Zj.1 hu0; exact Fn.mono (wk55 hu1  hr) fun _ _ _ h=>Zj.2 h⟩ nB) fun iC aE lC hs hr=>?_)
   have hfr:=hfr.ext hs
   have hmk:=hmk.ext hs
   have b15:=b15.ext hs
   have m13:=m13.ext hs
   have i6:=i6.ext hs
   have mC:=hr
   obtain ⟨k8,oB,h⟩:=bsome h
   refine Ze .plain rfl (Zp (g:=iC) (vs:=[jA,lC]) en80 (.cons rfl (.cons rfl .nil)) (wk80 i6 mC oB) fun lE bE qC hs hr=>?_)
   have hfr:=hfr.ext hs
   have hmk:=hmk.ext hs
   have b15:=b15.ext hs
   have m13:=m13.ext hs
   have i6:=i6.ext hs
   have mA:=hr
   refine Zb (Zd (Zr ?_))
   have hB0:=hfr.size
   have hmk0:=hmk
   obtain ⟨j7,hφ,h⟩:=bsome h
   refine E_rangeFunc (σ:=((List (Int × Bool)))) (s0:=(([]:List (Int × Bool)))) 10 rfl (fun _=>0) [] (fun (s:(List (Int × Bool))) (g:Gh) (w:World)=>Fr gI wI g w∧MkF g w m7∧BM (Value.int .i64) 2006 8017 g w 140 (s:List (Int × Bool)) l8∧ItV Try.prog (RA2 (α:=BoxPick) (β:=BoxStep)) k8 qC g.m w∧PT g.m w (i8:BoxMill) jA) rfl mA hφ (fun _ _ _ _=>rfl) rfl ra2_size rfl (fun _ _ _ _ _ hx hR=>by obtain ⟨hfr,hmk,z2,z3,z4⟩:=hR; exact ⟨hfr.ist hx hB0,hmk.ist hx,z2.ist hx,z3.ist hx,z4.ist hx⟩) (fun _ _ _ _ _ hx hR=>by obtain ⟨hfr,hmk,z2,z3,z4⟩:=hR; exact ⟨hfr.stp hx,hmk.stp hx,z2.stp hx rfl,z3.stp hx,z4.stp hx⟩) ⟨hfr,hmk,⟨_,b15,m13⟩,mA,i6⟩ (fun _ h=>by cases h) ?_ ?_
   ·intro cE lD s x b s2 pA rC vs hsz h hR hrec_0 q8 hrd
    obtain ⟨d7,hse⟩:∃ y,y=s:=⟨s,rfl⟩
    subst hse
    obtain ⟨hfr,hmk,⟨a9,u3,t5⟩,i3,o0⟩:=hR
    obtain ⟨x8,i7⟩:=x
    obtain ⟨mD,d9,rfl,uC,j6⟩:=ra2_get hrd
    have i5:=RFr.refl pA rC
    refine Za (Ze .plain rfl (D_allocOc (g:=pA) 2008 (⟨⟨(⟨List.toArray [(⟨List.toArray [0,0,0,0],rfl⟩:Vector Int 4),(⟨List.toArray [0,0,0,0],rfl⟩:Vector Int 4)],rfl⟩:Vector (Vector Int 4) 2),⟨0,0⟩⟩,0,0⟩:BoxStep) Try.zeroValue144 (fun m w=>⟨_,(rep_two (rep_two (rep_vec (flat_chunk (rep_vec (flat_chunk rep_int (flat_chunk rep_int (flat_chunk rep_int (flat_chunk rep_int flat_nil)))) rfl) (flat_chunk (rep_vec (flat_chunk rep_int (flat_chunk rep_int (flat_chunk rep_int (flat_chunk rep_int flat_nil)))) rfl) flat_nil)) rfl) (rep_two rep_int rep_int)) (rep_two rep_int rep_int)),rfl⟩) fun vC mE aD hs b68 cb=>?_))
    have hfr:=hfr.stp hs
    have hmk:=hmk.stp hs
    have i5:=i5.stp hs
    have hrec_0:=hrec_0.stp hs rfl
    have u3:=u3.stp hs rfl
    have t5:=t5.stp hs rfl
    have i3:=i3.stp hs
    have o0:=o0.stp hs
    have j6:=j6.stp hs
    clear cb
    refine Ze .plain rfl (D_storeOc (g:=vC) (v:=d9) Try.sizeOf144 rfl b68 rfl j6 fun r8 nE hs b69 cb=>?_)
    clear cb
    have hfr:=hfr.stp hs
    have hmk:=hmk.stp hs
    have i5:=i5.stp hs
    have hrec_0:=hrec_0.stp hs rfl
    have u3:=u3.stp hs rfl
    have t5:=t5.stp hs rfl
    have i3:=i3.stp hs
    have o0:=o0.stp hs
    refine Zb (Zd ?_)
    obtain ⟨bD,hbr,hs,hrN⟩:=begin_round hrec_0 q8
    refine ⟨bD,hbr,?_⟩
    have hfr:=hfr.stp hs
    have hmk:=hmk.stp hs
    have i5:=i5.stp hs
    have u3:=u3.stp hs rfl
    have t5:=t5.stp hs rfl
    have i3:=i3.stp hs
    have o0:=o0.stp hs
    have b69:=b69.stp hs rfl
    have hrec_0:=hrN
    clear hbr hs hrN
    refine Zr ?_
    refine Za (Ze .plain rfl (D_loadO (α:=Fv) (g:=r8) Try.isAgg140 Try.sizeOf140 rfl u3 fun qA rA=>?_))
    have e71:qA=a9.v:=RV_fv.1 rA
    clear rA
    subst qA
    refine EL_p (fPtr aD 10) (Zc at_144_1 rfl (OB.ptr b69)) rfl ?_
    refine Ze .plain rfl (D_loadF (g:=r8) part_BoxStep_1.1 Try.isAgg3 Try.sizeOf3 rfl b69 fun oE cD=>?_)
    obtain rfl:=Zj.1 cD
    refine Ze .plain rfl (D_mapUpdate (g:=r8) Try.underlying140 key_3 rfl t5 rfl rfl (RV_bool.2 rfl) fun rE sE hs m74=>?_)
    have hfr:=hfr.stp hs
    have hmk:=hmk.stp hs
    have i5:=i5.stp hs
    have hrec_0:=hrec_0.stp hs rfl
    have u3:=u3.stp hs rfl
    have i3:=i3.stp hs
    have o0:=o0.stp hs
    refine Zb (blk_n ?_)
    obtain ⟨rfl,rfl⟩:=pairs2 h
    exact ⟨_,i5,⟨hfr,hmk,⟨_,u3,m74⟩,i3,o0⟩,hrec_0,rfl,rfl⟩
   ·intro eD tE ds76 hsz hR hds
    obtain ⟨hfr,hmk,⟨nD,l9,n9⟩,gD,v8⟩:=hR
    obtain ⟨D,hdse,hD,hDb⟩:=hds.1 rfl
    subst hdse
    replace hmk:=MkF.push hmk0 hmk hD hDb
    clear hD hDb hds
    revert hmk
    generalize ({ target:=.collected D,args:=#[] } :: m7:List Deferred)=oD
    intro hmk
    refine ⟨fun _=>?_,fun k c hs _=>absurd hs (Nat.succ_ne_zero k).symm⟩
    refine blk_n ?_
    obtain rfl:=sinj h
    exact hQ _ _ _ ⟨eD,hfr,hmk,rfl,⟨_,l9,n9⟩⟩
  ·clear hx
   obtain ⟨yA,hfr,hmk,u9,⟨g8,y9,x5⟩⟩:=hR
   refine Zf (Za (Ze .plain rfl (D_loadO (α:=Fv) (g:=yA) Try.isAgg140 Try.sizeOf140 u9 y9 fun aB dB=>?_)))
   have e78:aB=g8.v:=RV_fv.1 dB
   clear dB
   subst aB
   refine Ze .plain rfl (D_callG (g:=yA) (vs:=[g8.v]) en82 (.cons rfl .nil) (keys_fnG Try.keys_ok x5) fun iD uE jD hs m79=>?_)
   have hfr:=hfr.ext hs
   have hmk:=hmk.ext hs
   have x5:=x5.ext hs
   obtain ⟨y81,tB,h⟩:=bsome h
   refine Ze .plain rfl (D_callG (g:=iD) (vs:=[jD]) en81 (.cons rfl .nil) (sorted_fnG Try.underlying3 Try.sorted_ok x5 m79 tB) fun vE xE iB hs t8=>?_)
   have hfr:=hfr.ext hs
   have hmk:=hmk.ext hs
   refine Zg iB rfl rfl ?_
   refine Zg (.int .i64 (0)) rfl rfl ?_
   refine Zb (Zd (E_ret (endM (.inr rfl) hmk fun yE zE hs=>?_)))
   have hfr:=hfr.stp hs
   have t8:=t8.stp hs
   obtain rfl:=sinj h
   exact end2 rfl rfl (show _=iB from rfl) (show _=.int .i64 (0) from rfl) ⟨_,hfr,_,_,rfl,t8,rfl⟩
def f70 (x0:BoxLoom) (x1:List BoxPick):Option (BoxBoxLoom × BoxRun × Int × Int):=
 jn (σ:=BoxBoxLoom × BoxRun) (fun (x5,y6)=>
  (f54 x5 ((fun a0 a1=>f75 a0 a1))).bind fun j7=>
  (f76 j7 x1).bind fun y71=>
  some (x5,y71.1,y71.2.1,y71.2.2)
  ) fun m7=>
 (f74 x0 x1).bind fun i3=>
 bif (i3.2 != (0 : Int)) then
  some (i3.1,(⟨[],⟨(⟨List.toArray [(⟨List.toArray [0,0,0,0],rfl⟩:Vector Int 4),(⟨List.toArray [0,0,0,0],rfl⟩:Vector Int 4)],rfl⟩:Vector (Vector Int 4) 2),⟨0,0⟩⟩,0⟩:BoxRun),(0:Int),i3.2)
 else
  m7 (i3.1,(⟨[],⟨(⟨List.toArray [(⟨List.toArray [0,0,0,0],rfl⟩:Vector Int 4),(⟨List.toArray [0,0,0,0],rfl⟩:Vector Int 4)],rfl⟩:Vector (Vector Int 4) 2),⟨0,0⟩⟩,0⟩:BoxRun))
theorem en70:Enters Try.prog 70:=enters_of Try.func70 (by kernel_rfl) rfl
theorem wk70 {gI:Gh} {wI:World} {x0:BoxLoom} {x1:List BoxPick} {up0:Value} (rp0:RV gI.m wI x0 up0) {up1:Value} (rp1:RV gI.m wI x1 up1) {r:BoxBoxLoom × BoxRun × Int × Int} (h:f70 x0 x1=some r):Fn Try.prog 70 #[up0,up1] gI wI (fun m w v=>∃ y0 y1 y2 y3,v=.tuple #[y0,y1,y2,y3]∧RV m w (r.1) y0∧RV m w (r.2.1) y1∧y2=.int .i64 (r.2.2.1)∧y3=.int .i64 (r.2.2.2)):=by
 unfold f70 at h
 refine fn_of_E Try.func70 rfl (Nat.le_of_ble_eq_true rfl) fun g0 hm hfr=>?_
 have rp0:RV g0.m wI x0 up0:=hm ▸ rp0
 have rp1:RV g0.m wI x1 up1:=hm ▸ rp1
 show E _ 31 none _ _ _ _ _
 refine Zf (Za (Ze .plain rfl (D_box (g:=g0) rfl rp0 fun g1 w1 p1 hs q1=>?_)))
 have hfr:=hfr.ext hs
 have rp1:=rp1.ext hs
 refine Ze .plain rfl (D_allocOc (g:=g1) 2004 (⟨⟨[],[],[]⟩⟩:BoxBoxLoom) Try.zeroValue102 (fun m w=>⟨_,(rep_two rep_nil (rep_two rep_nil rep_nil)),rfl⟩) fun g2 w2 p2 hs b2 cb=>?_)
 have hfr:=hfr.stp hs
 have rp1:=rp1.stp hs
 have q1:=q1.stp hs
 have nB:OSF 2004 60400 0 g2 w2 3 102 ([]:List Int) p2:=cb.osf (by rfl)
 have oB:OSF 2004 60401 1 g2 w2 3 102 ([]:List Int) p2:=cb.osf (by rfl)
 have tB:OSF 2004 60402 2 g2 w2 87 102 ([]:List BoxShuttle) p2:=cb.osf (by rfl)
 clear cb
 refine Ze .plain rfl (D_allocOc (g:=g2) 2005 (⟨[],⟨(⟨List.toArray [(⟨List.toArray [0,0,0,0],rfl⟩:Vector Int 4),(⟨List.toArray [0,0,0,0],rfl⟩:Vector Int 4)],rfl⟩:Vector (Vector Int 4) 2),⟨0,0⟩⟩,0⟩:BoxRun) Try.zeroValue129 (fun m w=>⟨_,(rep_two rep_nil (rep_two (rep_two (rep_vec (flat_chunk (rep_vec (flat_chunk rep_int (flat_chunk rep_int (flat_chunk rep_int (flat_chunk rep_int flat_nil)))) rfl) (flat_chunk (rep_vec (flat_chunk rep_int (flat_chunk rep_int (flat_chunk rep_int (flat_chunk rep_int flat_nil)))) rfl) flat_nil)) rfl) (rep_two rep_int rep_int)) rep_int)),rfl⟩) fun g3 w3 p3 hs b3 cb=>?_)
 have hfr:=hfr.stp hs
 have rp1:=rp1.stp hs
 have q1:=q1.stp hs
 have b2:=b2.stp hs rfl
 have t5:OSF 2005 60500 0 g3 w3 3 129 ([]:List Int) p3:=cb.osf (by rfl)
 clear cb
 refine Zg (.int .i64 (0)) rfl rfl ?_
 refine Zg (.int .i64 (0)) rfl rfl ?_
 refine Zb (Zd (Zq h (fun (s:BoxBoxLoom × BoxRun) e w=>∃ (g:Gh) ,Fr gI wI g w∧e 1=up1∧RV g.m w (x1:List BoxPick) up1∧e 4=p2∧OB 2004 g w 102 (s.1:BoxBoxLoom) p2∧e 5=p3∧OB 2005 g w 129 (s.2:BoxRun) p3∧OSF 2005 60500 0 g w 3 129 ((s.2).thrown) p3) (fun X34 m7 i8 h=>?_) ?_))
 ·refine Zf (Za (Ze .plain rfl (D_load (g := g3) Try.isAgg25 Try.sizeOf25 rfl q1 fun y9 z9 => ?_)))
  refine Zn up1 rfl rfl ?_
  obtain ⟨i3,k8,h⟩:=bsome h
  refine Ze .plain rfl (Zp (g:=g3) (vs:=[y9,up1]) en74 (.cons rfl (.cons rfl .nil)) (wk74 z9 rp1 k8) fun bA vB cC hs hr=>?_)
  have hfr:=hfr.ext hs
  have rp1:=rp1.ext hs
  have b2:=b2.ext hs
  have t5:=t5.ext hs
  have b3:=b3.ext hs
  obtain ⟨i6,jB,rfl,a7,rfl⟩:=hr
  refine Zn (.tuple #[i6,.int .i64 (i3.2)]) rfl rfl ?_
  refine EL_p i6 (Zi rfl rfl) rfl ?_
  refine EL_p (.int .i64 (i3.2)) (Zi rfl rfl) rfl ?_
  refine Ze .plain rfl (D_storeOc (g:=bA) (v:=i6) Try.sizeOf102 rfl b2 rfl a7 fun v7 eC hs b38 cb=>?_)
  clear cb
  have hfr:=hfr.stp hs
  have rp1:=rp1.stp hs
  have t5:=t5.stp hs rfl
  have b3:=b3.stp hs rfl
  refine Zg (.int .i64 (i3.2)) rfl rfl ?_
  refine Zb (Zd (Zf (Za (Zn (.int .i64 (i3.2)) rfl rfl ?_))))
  refine EL_in (.bool ((i3.2 != (0:Int)))) rfl rfl rfl rfl ?_
  refine Zb (Zd ?_)
  rcases Zt h with ⟨x6,h⟩ | ⟨x6,h⟩
  ·refine E_ct x6 rfl ?_
   refine Zf (L_selfO Try.isAgg102 Try.sizeOf102 rfl b38 fun gA l8 m8=>?_)
   refine L_selfO Try.isAgg129 Try.sizeOf129 rfl b3 fun iA n8 q8=>?_
   refine E_drawL (g:=v7) (n:=7) [(3,(fun _ _ _=>True)),(4,(fun _ _ _=>True))] [0,1,2,3,4,5,6] rfl mixed (by kernel_rfl) (⟨fun _=>(fun _ _ _ _ _ _=>trivial),fun _=>(fun _ _ _ _ _ _=>trivial),trivial⟩) ?_
   refine L_ld (c:=gA) rfl rfl .plain (fun _ _ h=>⟨h.ch,fun b hb _=>h.below.block b hb⟩) (l8 _) rfl ?_
   refine L_ld (c:=iA) rfl rfl .plain (fun _ _ h=>⟨h.ch,fun b hb _=>h.below.block b hb⟩) (n8 _) rfl ?_
   refine L_p (.int .i64 (i3.2)) rfl rfl (Zk rfl) ?_
   refine L_do (φ:=fun _ _ _=>True) rfl rfl .plain (fun g w hd=>m8 _ _ _ g w ⟨hd.1.ch,fun b hb _=>hd.1.below.block b hb⟩ rfl rfl) (fun iC hv=>?_)
   clear hv
   refine L_do (φ:=fun _ _ _=>True) rfl rfl .plain (fun g w hd=>q8 _ _ _ g w ⟨hd.1.ch,fun b hb _=>hd.1.below.block b hb⟩ rfl rfl) (fun lC hv=>?_)
   clear hv
   refine L_p (.int .i64 (0)) rfl rfl (P_assign rfl) ?_
   refine L_p (.int .i64 (i3.2)) rfl rfl (P_assign rfl) ?_
   refine L_nl fun mC qC hs=>?_
   have hfr:=hfr.ext hs
   have b38:=b38.ext hs
   have b3:=b3.ext hs
   clear hs
   refine Zb (Zd (E_ret (thn_r ?_)))
   obtain rfl:=sinj h
   obtain ⟨ad63,cv63,hp63,r8,cr63⟩:=ob_read Try.isAgg102 Try.sizeOf102 b38
   obtain ⟨ad65,cv65,hp65,t8,cr65⟩:=ob_read Try.isAgg129 Try.sizeOf129 b3
   exact endm_cctt rfl rfl ((show _=p2 from rfl).trans hp63) r8 ((show _=p3 from rfl).trans hp65) t8 (show _=.int .i64 (0) from rfl) (show _=.int .i64 (i3.2) from rfl) ⟨_,hfr,_,_,_,_,rfl,cr63,cr65,rfl,rfl⟩
  ·refine E_cf x6 rfl ?_
   exact Zu (Zd (i8 (i3.1,(⟨[],⟨(⟨List.toArray [(⟨List.toArray [0,0,0,0],rfl⟩:Vector Int 4),(⟨List.toArray [0,0,0,0],rfl⟩:Vector Int 4)],rfl⟩:Vector (Vector Int 4) 2),⟨0,0⟩⟩,0⟩:BoxRun)) _ _ ⟨v7,hfr,rfl,rp1,rfl,b38,rfl,b3,t5⟩ h))
 ·rintro ⟨x5, y6⟩ yB rC ⟨g8, hfr, d7, j6, i5, o0, l5, u3, u5_0_66⟩ h
  refine Zf (Za (Ze .plain rfl (D_loadO (g:=g8) Try.isAgg102 Try.sizeOf102 i5 o0 fun jA mA=>?_)))
  obtain ⟨j7,v8,h⟩:=bsome h
  refine Ze .plain rfl (Zp (g:=g8) (vs:=[jA,.func (.func 75) #[] #[]]) en54 (.cons rfl (.cons rfl .nil)) (wk54 mA ⟨75,#[],#[],rfl,en75,fun g' w' hch a0 a1 b0 b1 r hu0 hu1 hr=>by obtain rfl:=Zj.1 hu0; exact Fn.mono (wk75 hu1  hr) fun _ _ _ h=>Zj.2 h⟩ v8) fun pA zB qA hs hr=>?_)
  have hfr:=hfr.ext hs
  have j6:=j6.ext hs
  have o0:=o0.ext hs
  have u3:=u3.ext hs
  have rA:=hr
  refine Zo d7 rfl ?_
  obtain ⟨y71,x8,h⟩:=bsome h
  refine Ze .plain rfl (Zp (g:=pA) (vs:=[qA,up1]) en76 (.cons rfl (.cons rfl .nil)) (wk76 rA j6 x8) fun yA aC uC hs hr=>?_)
  have hfr:=hfr.ext hs
  have o0:=o0.ext hs
  have u3:=u3.ext hs
  obtain ⟨v6,lB,mB,rfl,i7,rfl,rfl⟩:=hr
  refine Zn (.tuple #[v6,.int .i64 (y71.2.1),.int .i64 (y71.2.2)]) rfl rfl ?_
  refine EL_p v6 (Zi rfl rfl) rfl ?_
  refine EL_p (.int .i64 (y71.2.1)) (Zi rfl rfl) rfl ?_
  refine EL_p (.int .i64 (y71.2.2)) (Zi rfl rfl) rfl ?_
  refine Ze .plain rfl (D_storeOc (g:=yA) (v:=v6) Try.sizeOf129 l5 u3 rfl i7 fun aB vC hs b72 cb=>?_)
  clear cb
  have hfr:=hfr.stp hs
  have o0:=o0.stp hs rfl
  refine Zg (.int .i64 (y71.2.1)) rfl rfl ?_
  refine Zg (.int .i64 (y71.2.2)) rfl rfl ?_
  refine Zb (Zd (Zf (L_selfO Try.isAgg102 Try.sizeOf102 rfl o0 fun dB a9 d9=>?_)))
  refine L_selfO Try.isAgg129 Try.sizeOf129 rfl b72 fun iB k9 l9=>?_
  refine E_drawL (g:=aB) (n:=8) [(4,(fun _ _ _=>True)),(5,(fun _ _ _=>True))] [0,1,2,3,4,5,6,7] rfl mixed (by kernel_rfl) (⟨fun _=>(fun _ _ _ _ _ _=>trivial),fun _=>(fun _ _ _ _ _ _=>trivial),trivial⟩) ?_
  refine L_ld (c:=dB) rfl rfl .plain (fun _ _ h=>⟨h.ch,fun b hb _=>h.below.block b hb⟩) (a9 _) i5 ?_
  refine L_ld (c:=iB) rfl rfl .plain (fun _ _ h=>⟨h.ch,fun b hb _=>h.below.block b hb⟩) (k9 _) l5 ?_
  refine L_p (.int .i64 (y71.2.1)) rfl rfl (Zk rfl) ?_
  refine L_p (.int .i64 (y71.2.2)) rfl rfl (Zk rfl) ?_
  refine L_do (φ:=fun _ _ _=>True) rfl rfl .plain (fun g w hd=>d9 _ _ _ g w ⟨hd.1.ch,fun b hb _=>hd.1.below.block b hb⟩ i5 rfl) (fun aD hv=>?_)
  clear hv
  refine L_do (φ:=fun _ _ _=>True) rfl rfl .plain (fun g w hd=>l9 _ _ _ g w ⟨hd.1.ch,fun b hb _=>hd.1.below.block b hb⟩ l5 rfl) (fun bD hv=>?_)
  clear hv
  refine L_p (.int .i64 (y71.2.1)) rfl rfl (P_assign rfl) ?_
  refine L_p (.int .i64 (y71.2.2)) rfl rfl (P_assign rfl) ?_
  refine L_nl fun cD eD hs=>?_
  have hfr:=hfr.ext hs
  have o0:=o0.ext hs
  have b72:=b72.ext hs
  clear hs
  refine Zb (Zd (E_ret ?_))
  obtain rfl:=sinj h
  obtain ⟨ad95,cv95,hp95,n9,cr95⟩:=ob_read Try.isAgg102 Try.sizeOf102 o0
  obtain ⟨ad96,cv96,hp96,u9,cr96⟩:=ob_read Try.isAgg129 Try.sizeOf129 b72
  exact endm_cctt rfl rfl ((show _=p2 from i5).trans hp95) n9 ((show _=p3 from l5).trans hp96) u9 (show _=.int .i64 (y71.2.1) from rfl) (show _=.int .i64 (y71.2.2) from rfl) ⟨_,hfr,_,_,_,_,rfl,cr95,cr96,rfl,rfl⟩
end Go.Proofs.Ytmpjooneiaiffaa
