import Derived.Test.YtomjodbnpgbjnaaGreatCode3
set_option maxRecDepth 8000
set_option maxHeartbeats 4000000
namespace Go.Proofs.YtomjodbnpgbjnaaGreat
open Go.RowKit
def f17 (x0:LoomMill) (x1:List LoomOrder) (x2:List LoomRun) (x3:LoomStop):Option ((List Int) × Int):=
 (f34 x0 x1 x2 x3).bind fun y6=>
 jn (σ:=(List Int)) (fun y8=>
  Option.bind (α:=(List Int)) (
   lp (σ:=(List Int) × Int) (fun cB (q5,o0)=>
    bif (decide (o0 < ((x2).length : Int))) then
     Option.bind (α:=(List Int)) (
      (idx x2 o0).bind fun z3=>
      Option.bind (α:=Bool) (
       bif ((z3).Loom == (x3).Loom) then
        (f38 (y6.1) z3).bind fun m8=>
        some (m8)
       else
        some (false)
       ) fun z4=>
      bif z4 then
       (apnd 8 q5 (([(z3).Order]:List Int))).bind fun u9=>
       some (u9)
      else
       some (q5)
      ) fun l5=>
     cB (l5,(w64 (o0 + (1:Int))))
    else
     some (q5)
    ) big (y8,(0:Int))
   ) fun t5=>
  some (t5,(0:Int))
  ) fun dB=>
 bif (y6.2 != (0 : Int)) then
  some ([],y6.2)
 else
  dB ([])
theorem en17:Enters Tryz.prog 17:=enters_of Tryz.func17 (by kernel_rfl) rfl
theorem wk17 {gI:Gh} {wI:World} {x0:LoomMill} {x1:List LoomOrder} {x2:List LoomRun} {x3:LoomStop} {up0:Value} (rp0:RV gI.m wI x0 up0) {up1:Value} (rp1:RV gI.m wI x1 up1) {up2:Value} (rp2:RV gI.m wI x2 up2) {up3:Value} (rp3:RV gI.m wI x3 up3) {r:(List Int) × Int} (h:f17 x0 x1 x2 x3=some r):Fn Tryz.prog 17 #[up0,up1,up2,up3] gI wI (fun m w v=>∃ y0 y1,v=.tuple #[y0,y1]∧RV m w (r.1) y0∧y1=.int .i64 (r.2)):=by
 unfold f17 at h
 refine fn_of_E Tryz.func17 rfl (Nat.le_of_ble_eq_true rfl) fun g0 hm hfr=>?_
 have rp0:RV g0.m wI x0 up0:=hm ▸ rp0
 have rp1:RV g0.m wI x1 up1:=hm ▸ rp1
 have rp2:RV g0.m wI x2 up2:=hm ▸ rp2
 have rp3:RV g0.m wI x3 up3:=hm ▸ rp3
 show E _ 47 none _ _ _ _ _
 refine Zf (Za (Ze .plain rfl (D_box (g:=g0) rfl rp0 fun g1 w1 p1 hs q1=>?_)))
 have hfr:=hfr.ext hs
 have rp1:=rp1.ext hs
 have rp2:=rp2.ext hs
 have rp3:=rp3.ext hs
 refine Ze .plain rfl (D_box (g:=g1) rfl rp3 fun g2 w2 p2 hs q2=>?_)
 have hfr:=hfr.ext hs
 have rp1:=rp1.ext hs
 have rp2:=rp2.ext hs
 have q1:=q1.ext hs
 refine Zg (.slice none 0 0) rfl rfl ?_
 refine Zg (.int .i64 (0)) rfl rfl ?_
 refine Zb (Zd (Zf (Za (Ze .plain rfl (D_load (g:=g2) Tryz.isAgg28 Tryz.sizeOf28 rfl q1 fun v3 r3=>?_)))))
 refine Zn up1 rfl rfl ?_
 refine Zn up2 rfl rfl ?_
 refine Ze .plain rfl (D_load (g:=g2) Tryz.isAgg58 Tryz.sizeOf58 rfl q2 fun v4 r4=>?_)
 obtain ⟨y6,kC,h⟩:=bsome h
 refine Ze .plain rfl (Zp (g:=g2) (vs:=[v3,up1,up2,v4]) en34 (.cons rfl (.cons rfl (.cons rfl (.cons rfl .nil)))) (wk34 r3 rp1 rp2 r4 kC) fun g5 w5_ v5 hs hr=>?_)
 have hfr:=hfr.ext hs
 have rp2:=rp2.ext hs
 have q2:=q2.ext hs
 obtain ⟨n8,vC,rfl,o8,rfl⟩:=hr
 refine Zn (.tuple #[n8,.int .i64 (y6.2)]) rfl rfl ?_
 refine EL_p n8 (Zi rfl rfl) rfl ?_
 refine EL_p (.int .i64 (y6.2)) (Zi rfl rfl) rfl ?_
 refine Ze .plain rfl (D_allocOc (g:=g5) 2010 (⟨⟨⟨[],0⟩,[]⟩,⟨0,⟨0,0⟩⟩⟩:LoomStill) Tryz.zeroValue99 (fun m w=>⟨_,(rep_two (rep_two (rep_two rep_nil rep_int) rep_nil) (rep_two rep_int (rep_two rep_int rep_int))),rfl⟩) fun g7 w7 p7 hs b7 cb=>?_)
 have hfr:=hfr.stp hs
 have rp2:=rp2.stp hs
 have q2:=q2.stp hs
 have o8:=o8.stp hs
 have xC:OSF 2010 61000 0 g7 w7 3 99 ([]:List Int) p7:=cb.osf (by rfl)
 have yC:OSF 2010 61002 2 g7 w7 67 99 ([]:List LoomOrder) p7:=cb.osf (by rfl)
 clear cb
 refine Ze .plain rfl (D_storeOc (g:=g7) (v:=n8) Tryz.sizeOf99 rfl b7 rfl o8 fun g8 w8 hs b8 cb=>?_)
 clear cb
 have hfr:=hfr.stp hs
 have rp2:=rp2.stp hs
 have q2:=q2.stp hs
 refine Zg (.int .i64 (y6.2)) rfl rfl ?_
 refine Zb (Zd (Zq h (fun (s:(List Int)) e w=>∃ (g:Gh) (v8:Value),Fr gI wI g w∧e 2=up2∧RV g.m w (x2:List LoomRun) up2∧e 7=p2∧PT g.m w (x3:LoomStop) p2∧e 8=v8∧RV g.m w (s:List Int) v8∧OS 1008 g w 3 (s:List Int) v8∧e 10=p7∧OB 2010 g w 99 (y6.1:LoomStill) p7) (fun X10 dB eB h=>?_) ?_))
 ·refine Zf (Za (Zn (.int .i64 (y6.2)) rfl rfl ?_))
  refine EL_in (.bool ((y6.2 != (0:Int)))) rfl rfl rfl rfl ?_
  refine Zb (Zd ?_)
  rcases Zt h with ⟨q8,h⟩ | ⟨q8,h⟩
  ·refine E_ct q8 rfl ?_
   refine Zf (Za (Zn (.int .i64 (y6.2)) rfl rfl ?_))
   refine Zg (.slice none 0 0) rfl rfl ?_
   refine Zg (.int .i64 (y6.2)) rfl rfl ?_
   refine Zb (Zd (E_ret (thn_r ?_)))
   obtain rfl:=sinj h
   exact end2 rfl rfl (show _=.slice none 0 0 from rfl) (show _=.int .i64 (y6.2) from rfl) ⟨_,hfr,_,_,rfl,RV_nil,rfl⟩
  ·refine E_cf q8 rfl ?_
   exact Zu (Zd (eB ([]) _ _ ⟨g8,(.slice none 0 0),hfr,rfl,rp2,rfl,q2,rfl,RV_nil,OS.nil,rfl,b8⟩ h))
 ·rintro y8 aD vD ⟨lC, qA, hfr, rA, a9, sA, uA, xA, yA, zA, y9, z9⟩ h
  obtain ⟨t5,hx,h⟩:=bsome h
  refine E_join (fun e w=>∃ (g:Gh) (v8:Value),Fr gI wI g w∧e 8=v8∧RV g.m w (t5:List Int) v8∧OS 1008 g w 3 (t5:List Int) v8) (fun Q' hQ=>?_) (fun qC bD hR=>?_)
  ·replace h := hx
   clear hx
   refine Zf (Za (Zo rA rfl ?_))
   refine EL_p (.int .i64 ((x2).length:Int)) (P_len Tryz.underlying48 rfl a9) rfl ?_
   refine Zn (.int .i64 (0)) rfl rfl ?_
   refine Zb (Zd (Zr ?_))
   refine E_lp h (fun (s:(List Int) × Int) e w=>∃ (g:Gh) (v8:Value),Fr gI wI g w∧e 7=p2∧PT g.m w (x3:LoomStop) p2∧e 8=v8∧RV g.m w (s.1:List Int) v8∧OS 1008 g w 3 (s.1:List Int) v8∧e 10=p7∧OB 2010 g w 99 (y6.1:LoomStill) p7∧e 24=up2∧RV g.m w (x2:List LoomRun) up2∧e 25=.int .i64 (((x2).length:Int))∧e 26=.int .i64 (s.2)) ⟨lC,(qA),hfr,sA,uA,xA,yA,zA,y9,z9,rfl,a9,rfl,rfl⟩ (fun X78 cB iB=>?_)
   rintro ⟨q5,o0⟩ cD xD ⟨bA,x5,hfr,u7,z2,v7,d3,i3,a7,j1,c7,u0,d7,i6⟩ h
   refine Zf (Za (EL_in (.bool ((decide (o0 < ((x2).length:Int))))) i6 d7 rfl rfl ?_))
   refine Zb (Zd (Zf ?_))
   rcases Zt h with ⟨r8,h⟩ | ⟨r8,h⟩
   ·refine E_ct r8 rfl ?_
    refine Zu (Zd ?_)
    obtain ⟨l5,hx,h⟩:=bsome h
    refine E_join (fun e w=>∃ (g:Gh) (v8:Value),Fr gI wI g w∧e 7=p2∧PT g.m w (x3:LoomStop) p2∧e 8=v8∧RV g.m w (l5:List Int) v8∧OS 1008 g w 3 (l5:List Int) v8∧e 10=p7∧OB 2010 g w 99 (y6.1:LoomStill) p7∧e 24=up2∧RV g.m w (x2:List LoomRun) up2∧e 25=.int .i64 (((x2).length:Int))∧e 26=.int .i64 (o0)) (fun Q' hQ=>?_) (fun rC eD hR=>?_)
    ·replace h := hx
     clear hx
     refine Zr ?_
     refine Zf (Za ?_)
     obtain ⟨z3,d9,h⟩:=bsome h
     refine EL_p (ePtr up2 o0 3) (Zh (α:=LoomRun) Tryz.underlying48 Tryz.sizeOf65 c7 u0 i6 d9) rfl ?_
     have jB:=PT_idx u0 d9
     refine Ze .plain rfl (D_load (g:=bA) Tryz.isAgg65 Tryz.sizeOf65 rfl jB fun kB t8=>?_)
     refine Ze .plain rfl (D_allocOc (g:=bA) 2012 (⟨0,0,0⟩:LoomRun) Tryz.zeroValue65 (fun m w=>⟨_,(rep_two rep_int (rep_two rep_int rep_int)),rfl⟩) fun lB gD c8 hs b114 cb=>?_)
     have hfr:=hfr.stp hs
     have z2:=z2.stp hs
     have d3:=d3.stp hs
     have i3:=i3.stp hs rfl
     have j1:=j1.stp hs rfl
     have u0:=u0.stp hs
     have t8:=t8.stp hs
     clear cb
     refine Ze .plain rfl (D_storeOc (g:=lB) (v:=kB) Tryz.sizeOf65 rfl b114 rfl t8 fun x6 iD hs b115 cb=>?_)
     clear cb
     have hfr:=hfr.stp hs
     have z2:=z2.stp hs
     have d3:=d3.stp hs
     have i3:=i3.stp hs rfl
     have j1:=j1.stp hs rfl
     have u0:=u0.stp hs
     refine Zb (Zd ?_)
     obtain ⟨z4,hx,h⟩:=bsome h
     refine E_join (fun e w=>∃ (g:Gh) ,Fr gI wI g w∧e 7=p2∧PT g.m w (x3:LoomStop) p2∧e 8=x5∧RV g.m w (q5:List Int) x5∧OS 1008 g w 3 (q5:List Int) x5∧e 10=p7∧OB 2010 g w 99 (y6.1:LoomStill) p7∧e 12=c8∧OB 2012 g w 65 (z3:LoomRun) c8∧e 24=up2∧RV g.m w (x2:List LoomRun) up2∧e 25=.int .i64 (((x2).length:Int))∧e 26=.int .i64 (o0)∧e 39=.bool (z4)) (fun Q' hQ=>?_) (fun tC jD hR=>?_)
     ·replace h := hx
      clear hx
      refine Za (EL_p (fPtr c8 1) (Zc at_65_1 rfl (OB.ptr b115)) rfl ?_)
      refine Ze .plain rfl (D_loadF (g:=x6) part_LoomRun_1.1 Tryz.isAgg3 Tryz.sizeOf3 rfl b115 fun kD mB=>?_)
      obtain rfl:=Zj.1 mB
      refine EL_p (fPtr p2 0) (Zc at_58_0 u7 (PT.ptr z2)) rfl ?_
      have nB:=Zm (part_LoomStop_0).1 z2
      refine Ze .plain rfl (D_load (g:=x6) Tryz.isAgg3 Tryz.sizeOf3 rfl nB fun lD oB=>?_)
      obtain rfl:=Zj.1 oB
      refine EL_in (.bool (((z3).Loom == (x3).Loom))) rfl rfl rfl rfl ?_
      refine Zn (.bool (((z3).Loom == (x3).Loom))) rfl rfl ?_
      rcases Zt h with ⟨j3,h⟩ | ⟨j3,h⟩
      ·refine Ze (.yes2 rfl rfl j3) rfl (D_loadO (g := x6) Tryz.isAgg99 Tryz.sizeOf99 a7 j1 fun tB vB => ?_)
       refine Ze (.yes2 rfl rfl j3) rfl (D_loadO (g:=x6) Tryz.isAgg65 Tryz.sizeOf65 rfl b115 fun xB yB=>?_)
       obtain ⟨m8,aB,h⟩:=bsome h
       refine Ze (.yes2 rfl rfl j3) rfl (Zp (g:=x6) (vs:=[tB,xB]) en38 (.cons rfl (.cons rfl .nil)) (wk38 vB yB aB) fun zB uC mD hs hr=>?_)
       have hfr:=hfr.ext hs
       have z2:=z2.ext hs
       have d3:=d3.ext hs
       have i3:=i3.ext hs
       have j1:=j1.ext hs
       have u0:=u0.ext hs
       have b115:=b115.ext hs
       subst hr
       refine EL_p (.bool (m8)) (Zl (b:=((z3).Loom == (x3).Loom)) rfl (pick_t j3 rfl)) rfl ?_
       refine Zb ?_
       obtain rfl:=sinj h
       exact hQ _ _ ⟨zB,hfr,u7,z2,v7,d3,i3,a7,j1,rfl,b115,c7,u0,d7,i6,rfl⟩
      ·refine EL_s rfl rfl j3 rfl rfl ?_
       refine EL_s rfl rfl j3 rfl rfl ?_
       refine EL_s rfl rfl j3 rfl rfl ?_
       refine EL_p (.bool false) (Zl (b:=((z3).Loom == (x3).Loom)) rfl (pick_f j3 rfl)) rfl ?_
       refine Zb ?_
       obtain rfl:=sinj h
       exact hQ _ _ ⟨x6,hfr,u7,z2,v7,d3,i3,a7,j1,rfl,b115,c7,u0,d7,i6,rfl⟩
     ·clear hx
      obtain ⟨x8,hfr,i8,i5,k8,j6,v6,e7,o3,e9,i7,j7,u3,m7,n7,o7⟩:=hR
      rcases Zt h with ⟨e8,h⟩ | ⟨e8,h⟩
      ·refine E_cond_true (Eq.trans (show ev _ _ = .bool (z4) from o7) (congrArg Value.bool e8)) ?_
       refine Za (Zo k8 rfl ?_)
       refine EL_p (fPtr c8 0) (Zc at_65_0 e9 (OB.ptr i7)) rfl ?_
       refine Ze .plain rfl (D_loadF (g:=x8) part_LoomRun_0.1 Tryz.isAgg3 Tryz.sizeOf3 rfl i7 fun nD aC=>?_)
       obtain rfl:=Zj.1 aC
       refine Ze .plain rfl (D_buildSlice (g:=x8) 3043 (xs:=([(z3).Order]:List Int)) (vs:=[.int .i64 ((z3).Order)]) Tryz.underlying26 Tryz.sizeOf3 Tryz.zeroValue3 rfl rfl (.cons rfl .nil) (RVs.cons (Zj.2 rfl) RVs.nil) rfl rfl fun cC oD sD hs o138 dC hxt hfl=>?_)
       have hfr:=hfr.stp hs
       have i5:=i5.stp hs
       have j6:=j6.stp hs
       have v6:=v6.stp hs rfl
       have o3:=o3.stp hs rfl
       have u3:=u3.stp hs
       obtain ⟨u9,bB,h⟩:=bsome h
       refine Ze .plain rfl (D_append (g:=cC) (i:=1008) Tryz.underlying26 info_3 rfl rfl v6 j6 rfl dC bB fun eC tD gA hs o139 iC _=>?_)
       have hfr:=hfr.stp hs
       have i5:=i5.stp hs
       have o3:=o3.stp hs rfl
       have u3:=u3.stp hs
       refine Zg gA rfl rfl ?_
       refine Zb (blk_n ?_)
       obtain rfl:=sinj h
       exact hQ _ _ ⟨eC,(gA),hfr,i8,i5,rfl,iC,o139,e7,o3,j7,u3,m7,n7⟩
      ·refine E_cond_false (Eq.trans (show ev _ _ = .bool (z4) from o7) (congrArg Value.bool e8)) ?_
       refine Zu (blk_n ?_)
       obtain rfl:=sinj h
       exact hQ _ _ ⟨x8,(x5),hfr,i8,i5,k8,j6,v6,e7,o3,j7,u3,m7,n7⟩
    ·clear hx
     obtain ⟨jC,iA,hfr,jA,kA,lA,mA,nA,i9,k9,l9,n9,o9,t9⟩:=hR
     refine Za (EL_in (.int .i64 ((w64 (o0 + (1:Int))))) t9 rfl rfl rfl ?_)
     refine Zn (.int .i64 ((w64 (o0 + (1:Int))))) rfl rfl ?_
     exact Zb (Zd (iB (l5,(w64 (o0 + (1:Int)))) _ _ ⟨jC,(iA),hfr,jA,kA,lA,mA,nA,i9,k9,l9,n9,o9,rfl⟩ h))
   ·refine E_cf r8 rfl ?_
    refine E_exit ?_
    refine thn_e ?_
    refine thn_e ?_
    refine blk_hit ?_
    obtain rfl:=sinj h
    exact hQ _ _ ⟨bA,(x5),hfr,v7,d3,i3⟩
  ·clear hx
   obtain ⟨uD,l8,hfr,oA,pA,mC⟩:=hR
   refine Zf (Za (Zo oA rfl ?_))
   refine Zg l8 rfl rfl ?_
   refine Zg (.int .i64 (0)) rfl rfl ?_
   refine Zb (Zd (E_ret ?_))
   obtain rfl:=sinj h
   exact end2 rfl rfl (show _=l8 from rfl) (show _=.int .i64 (0) from rfl) ⟨_,hfr,_,_,rfl,pA,rfl⟩
theorem v75_0 {iO:Nat} {gI:Gh} {wI:World} {x0:TieHarness} {x1:Design} {up0:Value} (rp0:RV gI.m wI x0 up0) {up1:Value} (rp1:RV gI.m wI x1 up1) {r:(List Str) × Int} (h:f75 x0 x1=some r):FnG Tryz.prog 75 #[up0,up1] gI wI (fun g w v=>∃ y0 y1,v=.tuple #[y0,y1]∧OM iO g w 9 (r.1) y0∧y1=.int .i64 (r.2)):=by
 unfold f75 at h
 refine fnG_of_E Tryz.func75 rfl (Nat.le_of_ble_eq_true rfl) fun g0 hm hfr=>?_
 have rp0:RV g0.m wI x0 up0:=hm ▸ rp0
 have rp1:RV g0.m wI x1 up1:=hm ▸ rp1
 show E _ 43 none _ _ _ _ _
 refine Zf (Za (Ze .plain rfl (D_box (g:=g0) rfl rp0 fun g1 w1 p1 hs q1=>?_)))
 have hfr:=hfr.ext hs
 have rp1:=rp1.ext hs
 refine Ze .plain rfl (D_box (g:=g1) rfl rp1 fun g2 w2 p2 hs q2=>?_)
 have hfr:=hfr.ext hs
 have q1:=q1.ext hs
 refine Zg (.slice none 0 0) rfl rfl ?_
 refine Zg (.int .i64 (0)) rfl rfl ?_
 refine Zb (Zd (Zq h (fun (s:(List Str)) e w=>∃ (g:Gh) (v4:Value),Fr gI wI g w∧e 2=p1∧PT g.m w (x0:TieHarness) p1∧e 3=p2∧PT g.m w (x1:Design) p2∧e 4=v4∧RV g.m w (s:List Str) v4∧OS 1004 g w 9 (s:List Str) v4) (fun X7 k7 hk7 h=>?_) ?_))
 ·refine Zf (Za (Ze .plain rfl (D_load (g := g2) Tryz.isAgg33 Tryz.sizeOf33 rfl q1 fun v8 r8 => ?_)))
  obtain ⟨z3,kA,h⟩:=bsome h
  refine Ze .plain rfl (Zp (g:=g2) (vs:=[v8]) en65 (.cons rfl .nil) (wk65 r8 kA) fun g9 w9_ v9 hs hr=>?_)
  have hfr:=hfr.ext hs
  have q1:=q1.ext hs
  have q2:=q2.ext hs
  subst hr
  refine Zg (.int .i64 (z3)) rfl rfl ?_
  refine Zb (Zd (Zf (Za (Zn (.int .i64 (z3)) rfl rfl ?_))))
  refine EL_in (.bool ((z3 != (0:Int)))) rfl rfl rfl rfl ?_
  refine Zb (Zd ?_)
  rcases Zt h with ⟨v6,h⟩ | ⟨v6,h⟩
  ·refine E_ct v6 rfl ?_
   refine Zf (Za (Zn (.int .i64 (z3)) rfl rfl ?_))
   refine Zg (.slice none 0 0) rfl rfl ?_
   refine Zg (.int .i64 (z3)) rfl rfl ?_
   refine Zb (Zd (E_ret (thn_r ?_)))
   obtain rfl:=sinj h
   obtain ⟨gh,hxh,homh⟩:=OM.handn (i:=iO) (t:=9) (α:=Str) hfr
   exact end2 rfl rfl (show _=.slice none 0 0 from rfl) (show _=.int .i64 (z3) from rfl) ⟨gh,hxh,_,_,rfl,homh,rfl⟩
  ·refine E_cf v6 rfl ?_
   exact Zu (Zd (hk7 ([]) _ _ ⟨g9,(.slice none 0 0),hfr,rfl,q1,rfl,q2,rfl,RV_nil,OS.nil⟩ h))
 ·rintro g8 oB cC ⟨u9, i8, hfr, b7, j3, z4, z2, k8, i5, l5⟩ h
  refine Zq h (fun (s:(List Str)) e w=>∃ (g:Gh) (v4:Value),Fr gI wI g w∧e 2=p1∧PT g.m w (x0:TieHarness) p1∧e 3=p2∧PT g.m w (x1:Design) p2∧e 4=v4∧RV g.m w (s:List Str) v4∧OS 1004 g w 9 (s:List Str) v4) (fun X22 dC lA h=>?_) ?_
  ·refine Zf (Za (Ze .plain rfl (D_load (g := u9) Tryz.isAgg35 Tryz.sizeOf35 z4 z2 fun rA sA => ?_)))
   obtain ⟨o3,mA,h⟩:=bsome h
   refine Ze .plain rfl (Zp (g:=u9) (vs:=[rA]) en66 (.cons rfl .nil) (wk66 sA mA) fun j7 tB eC hs hr=>?_)
   have hfr:=hfr.ext hs
   have j3:=j3.ext hs
   have z2:=z2.ext hs
   have i5:=i5.ext hs
   have l5:=l5.ext hs
   subst hr
   refine Zg (.int .i64 (o3)) rfl rfl ?_
   refine Zb (Zd (Zr ?_))
   refine Zf (Za (Zn (.int .i64 (o3)) rfl rfl ?_))
   refine EL_in (.bool ((o3 != (0:Int)))) rfl rfl rfl rfl ?_
   refine Zg (.bool ((o3 != (0:Int)))) rfl rfl ?_
   refine Zb (Zd ?_)
   rcases Zt h with ⟨x6,h⟩ | ⟨x6,h⟩
   ·refine E_ct x6 rfl ?_
    refine Zf (Za (Zn (.int .i64 (o3)) rfl rfl ?_))
    refine Zg (.slice none 0 0) rfl rfl ?_
    refine Zg (.int .i64 (o3)) rfl rfl ?_
    refine Zb (Zd (E_ret (blk_r ?_)))
    refine thn_r ?_
    obtain rfl:=sinj h
    obtain ⟨gh,hxh,homh⟩:=OM.handn (i:=iO) (t:=9) (α:=Str) hfr
    exact end2 rfl rfl (show _=.slice none 0 0 from rfl) (show _=.int .i64 (o3) from rfl) ⟨gh,hxh,_,_,rfl,homh,rfl⟩
   ·refine E_cf x6 rfl ?_
    refine Zf (Za (EL_p (fPtr p2 0) (Zc at_35_0 z4 (PT.ptr z2)) rfl ?_))
    have uA:=Zm (part_Design_0).1 z2
    refine Ze .plain rfl (D_load (g:=j7) Tryz.isAgg3 Tryz.sizeOf3 rfl uA fun iC xA=>?_)
    obtain rfl:=Zj.1 xA
    refine EL_p (fPtr p1 0) (Zc at_33_0 b7 (PT.ptr j3)) rfl ?_
    have yA:=Zm (part_TieHarness_0).1 j3
    refine Ze .plain rfl (D_load (g:=j7) Tryz.isAgg3 Tryz.sizeOf3 rfl yA fun jC zA=>?_)
    obtain rfl:=Zj.1 zA
    refine EL_in (.bool (((x1).Hooks != (x0).Hooks))) rfl rfl rfl rfl ?_
    refine Zg (.bool (((x1).Hooks != (x0).Hooks))) rfl rfl ?_
    refine Zb (Zd ?_)
    rcases Zt h with ⟨y6,h⟩ | ⟨y6,h⟩
    ·refine E_ct y6 rfl ?_
     refine Zf (Za (Zg (.slice none 0 0) rfl rfl ?_))
     refine Zg (.int .i64 (4)) rfl rfl ?_
     refine Zb (Zd (E_ret (blk_r ?_)))
     refine thn_r ?_
     obtain rfl:=sinj h
     obtain ⟨gh,hxh,homh⟩:=OM.handn (i:=iO) (t:=9) (α:=Str) hfr
     exact end2 rfl rfl (show _=.slice none 0 0 from rfl) (show _=.int .i64 (4) from rfl) ⟨gh,hxh,_,_,rfl,homh,rfl⟩
    ·refine E_cf y6 rfl ?_
     exact Zu (blk_n (Zd (lA (g8) _ _ ⟨j7,(i8),hfr,b7,j3,z4,z2,k8,i5,l5⟩ h)))
  ·rintro mB vB kC ⟨y9, l8, hfr, m8, n8, o8, c7, q8, t8, x8⟩ h
   obtain ⟨d7,hx,h⟩:=bsome h
   refine E_join (fun e w=>∃ (g:Gh) (v4:Value),Fr gI wI g w∧e 4=v4∧RV g.m w (d7:List Str) v4∧OS 1004 g w 9 (d7:List Str) v4) (fun Q' hQ=>?_) (fun xB lC hR=>?_)
   ·replace h := hx
    clear hx
    refine Zf (Za (EL_p (fPtr p2 1) (Zc at_35_1 o8 (PT.ptr c7)) rfl ?_))
    have aB:=Zm (part_Design_1).1 c7
    refine Ze .plain rfl (D_load (g:=y9) Tryz.isAgg26 Tryz.sizeOf26 rfl aB fun t5 z9=>?_)
    refine EL_p (.int .i64 (((x1).Rows).length:Int)) (P_len Tryz.underlying26 rfl z9) rfl ?_
    refine Zn (.int .i64 (0)) rfl rfl ?_
    refine Zb (Zd (Zr ?_))
    refine E_lp h (fun (s:(List Str) × Int) e w=>∃ (g:Gh) (v4:Value),Fr gI wI g w∧e 2=p1∧PT g.m w (x0:TieHarness) p1∧e 4=v4∧RV g.m w (s.1:List Str) v4∧OS 1004 g w 9 (s.1:List Str) v4∧e 28=t5∧RV g.m w ((x1).Rows:List Int) t5∧e 29=.int .i64 ((((x1).Rows).length:Int))∧e 30=.int .i64 (s.2)) ⟨y9,(l8),hfr,m8,n8,q8,t8,x8,rfl,z9,rfl,rfl⟩ (fun X61 mC nA=>?_)
    rintro ⟨nB,j1⟩ yB qC ⟨x5,y8,hfr,e7,u0,g7,d3,i3,i6,o0,j6,u3⟩ h
    refine Zf (Za (EL_p (.bool ((decide (j1 < (((x1).Rows).length:Int))))) (P_int u3 j6 rfl) rfl ?_))
    refine Zb (Zd (Zf ?_))
    rcases Zt h with ⟨a7,h⟩ | ⟨a7,h⟩
    ·refine E_ct a7 rfl ?_
     refine Zu (Zd ?_)
     obtain ⟨q5,hx,h⟩:=bsome h
     refine E_join (fun e w=>∃ (g:Gh) (v4:Value),Fr gI wI g w∧e 2=p1∧PT g.m w (x0:TieHarness) p1∧e 4=v4∧RV g.m w (q5:List Str) v4∧OS 1004 g w 9 (q5:List Str) v4∧e 28=t5∧RV g.m w ((x1).Rows:List Int) t5∧e 29=.int .i64 ((((x1).Rows).length:Int))∧e 30=.int .i64 (j1)) (fun Q' hQ=>?_) (fun zB rC hR=>?_)
     ·replace h := hx
      clear hx
      refine Zr ?_
      refine Zf (Za ?_)
      obtain ⟨m7,n7,h⟩:=bsome h
      refine EL_p (ePtr t5 j1 1) (Zh (α:=Int) Tryz.underlying26 Tryz.sizeOf3 i6 o0 u3 n7) rfl ?_
      have bB:=PT_idx o0 n7
      refine Ze .plain rfl (D_load (g:=x5) Tryz.isAgg3 Tryz.sizeOf3 rfl bB fun tC cB=>?_)
      obtain rfl:=Zj.1 cB
      refine Zg (.int .i64 (m7)) rfl rfl ?_
      refine Zb (Zd (Za (Zo g7 rfl ?_)))
      refine Ze .plain rfl (D_load (g:=x5) Tryz.isAgg33 Tryz.sizeOf33 e7 u0 fun o7 bA=>?_)
      have gA:RV x5.m _ (⟨x0⟩:TieTieHarness) (.agg (setCh [[.int .i64 0,.slice none 0 0]] [(0,o7)]).flatten.toArray):=RV_build rfl (rep_last (RV.cells bA))
      generalize oA:(Value.agg (setCh [[.int .i64 0,.slice none 0 0]] [(0,o7)]).flatten.toArray)=iA at gA
      refine EL_p iA (oA ▸ P_build (vs:=[(0,o7)]) [[.int .i64 0,.slice none 0 0]] lay_160 rfl rfl (.cons rfl .nil) ⟨⟨_,rfl,cells_size bA⟩,trivial⟩) rfl ?_
      refine Zn (.int .i64 (m7)) rfl rfl ?_
      obtain ⟨y81,pA,h⟩:=bsome h
      refine Ze .plain rfl (Zp (g:=x5) (vs:=[iA,.int .i64 (m7)]) en96 (.cons rfl (.cons rfl .nil)) (wk96 gA pA) fun dB aC uC hs hr=>?_)
      have hfr:=hfr.ext hs
      have u0:=u0.ext hs
      have d3:=d3.ext hs
      have i3:=i3.ext hs
      have o0:=o0.ext hs
      subst hr
      refine Ze .plain rfl (D_buildSlice (g:=dB) 3039 (xs:=([y81]:List Str)) (vs:=[Str.v (y81)]) Tryz.underlying75 Tryz.sizeOf9 Tryz.zeroValue9 rfl rfl (.cons rfl .nil) (RVs.cons (RV_str.2 rfl) RVs.nil) rfl rfl fun eB vC xC hs o82 iB hxt hfl=>?_)
      have hfr:=hfr.stp hs
      have u0:=u0.stp hs
      have d3:=d3.stp hs
      have i3:=i3.stp hs rfl
      have o0:=o0.stp hs
      obtain ⟨y84,qA,h⟩:=bsome h
      refine Ze .plain rfl (D_append (g:=eB) (i:=1004) Tryz.underlying75 info_9 rfl rfl i3 d3 rfl iB qA fun jB yC jA hs o83 kB _=>?_)
      have hfr:=hfr.stp hs
      have u0:=u0.stp hs
      have o0:=o0.stp hs
      refine Zg jA rfl rfl ?_
      refine Zb (blk_n ?_)
      obtain rfl:=sinj h
      exact hQ _ _ ⟨jB,(jA),hfr,e7,u0,rfl,kB,o83,i6,o0,j6,u3⟩
     ·clear hx
      obtain ⟨lB,a9,hfr,d9,e9,i9,k9,l9,u7,v7,c8,e8⟩:=hR
      refine Za (EL_in (.int .i64 ((w64 (j1 + (1:Int))))) e8 rfl rfl rfl ?_)
      refine Zn (.int .i64 ((w64 (j1 + (1:Int))))) rfl rfl ?_
      exact Zb (Zd (nA (q5,(w64 (j1 + (1:Int)))) _ _ ⟨lB,(a9),hfr,d9,e9,i9,k9,l9,u7,v7,c8,rfl⟩ h))
    ·refine E_cf a7 rfl ?_
     refine E_exit ?_
     refine thn_e ?_
     refine thn_e ?_
     refine blk_hit ?_
     obtain rfl:=sinj h
     exact hQ _ _ ⟨x5,(y8),hfr,g7,d3,i3⟩
   ·clear hx
    obtain ⟨aD,i7,hfr,n9,o9,t9⟩:=hR
    refine Zf (Za (Zo n9 rfl ?_))
    refine Zg i7 rfl rfl ?_
    refine Zg (.int .i64 (0)) rfl rfl ?_
    refine Zb (Zd (E_ret ?_))
    obtain rfl:=sinj h
    obtain ⟨gh,hxh,homh⟩:=OM.hand (i:=iO) plain_str hfr t9 o9
    exact end2 rfl rfl (show _=i7 from rfl) (show _=.int .i64 (0) from rfl) ⟨gh,hxh,_,_,rfl,homh,rfl⟩
theorem v11_0 {iO:Nat} {gI:Gh} {wI:World} {x0:List LoomOrder} {up0:Value} (rp0:RV gI.m wI x0 up0) {r:(List LoomOrder)} (h:f11 x0=some r):FnG Tryz.prog 11 #[up0] gI wI (fun g w v=>OM iO g w 67 (r) v):=by
 unfold f11 at h
 refine fnG_of_E Tryz.func11 rfl (Nat.le_of_ble_eq_true rfl) fun g0 hm hfr=>?_
 have rp0:RV g0.m wI x0 up0:=hm ▸ rp0
 show E _ 6 none _ _ _ _ _
 refine Zf (Za (Zg (.slice none 0 0) rfl rfl ?_))
 refine Zb (Zd (Zf (Za (Ze .plain rfl (D_buildSlice (g:=g0) 3003 (xs:=([]:List LoomOrder)) (vs:=[]) Tryz.underlying29 Tryz.sizeOf67 Tryz.zeroValue67 rfl rfl .nil RVs.nil rfl rfl fun g1 w1 v1 hs o1 r1 hxt hfl=>?_)))))
 have hfr:=hfr.stp hs
 have rp0:=rp0.stp hs
 refine Zn up0 rfl rfl ?_
 obtain ⟨y3,hy3,h⟩:=bsome h
 refine Ze .plain rfl (D_append (g:=g1) (i:=3003) Tryz.underlying29 info_67 rfl rfl o1 r1 rfl rp0 hy3 fun g2 w2 v2 hs o2 r2 _=>?_)
 have hfr:=hfr.stp hs
 refine Zg v2 rfl rfl ?_
 refine Zb (Zd (E_ret ?_))
 obtain rfl:=sinj h
 obtain ⟨gh,hxh,homh⟩:=OM.hand (i:=iO) plain_LoomOrder hfr o2 r2
 exact end1 rfl rfl (show _=v2 from rfl) ⟨gh,hxh,homh⟩
def f15 (x0:LoomMill) (x1:List LoomOrder) (x2:List LoomRun) (x3:LoomStop):Option ((List LoomRun) × (List Int) × Int):=
 (f34 x0 x1 x2 x3).bind fun y7=>
 jn (σ:=(List Int)) (fun t5=>
  (f35 x2).bind fun mI=>
  Option.bind (α:=(List LoomRun)) (
   (f36 x2 ((x3).Loom)).bind fun x6=>
   lp (σ:=(List LoomRun) × Int × Int) (fun jE (d7,j7,i3)=>
    bif (decide (i3 < ((x6).length : Int))) then
     Option.bind (α:=(List LoomRun) × Int) (
      (idx x6 i3).bind fun o0=>
      (idx d7 o0).bind fun l8=>
      Option.bind (α:=(List LoomRun)) (
       (epok d7 j7).bind fun jC=>
       bif jC then
        (idx d7 j7).bind fun kE=>
        (f37 ((y7.1).mill) kE ((l8).Order)).bind fun lA=>
        some ((List.set d7 (Int.toNat o0) ({ l8 with From:=(max64 (l8).From lA) })))
       else
        some (d7)
       ) fun m7=>
      Option.bind (α:=(List LoomRun)) (
       (idx m7 o0).bind fun lE=>
       (f38 (y7.1) lE).bind fun cB=>
       bif cB then
        (idx m7 o0).bind fun mE=>
        some ((List.set m7 (Int.toNat o0) ({ mE with From:=(w64 (((x3).Days).High + (1:Int))) })))
       else
        some (m7)
       ) fun mA=>
      some (mA,o0)
      ) fun (i9,x8)=>
     jE (i9,x8,(w64 (i3 + (1:Int))))
    else
     some (d7)
    ) big (mI,(-1),(0:Int))
   ) fun m8=>
  jn (σ:=(List LoomRun) × (List Int)) (fun (u3,vB)=>
   Option.bind (α:=(List Int)) (
    lp (σ:=(List Int) × Int) (fun nE (k9,i5)=>
     bif (decide (i5 < ((u3).length : Int))) then
      Option.bind (α:=(List Int)) (
       (idx u3 i5).bind fun e8=>
       (f42 ((y7.1).mill) e8).bind fun nA=>
       (idx x1 (e8).Order).bind fun dB=>
       bif (decide (nA > (dB).Late)) then
        (apnd 8 k9 (([(e8).Order]:List Int))).bind fun oE=>
        some (oE)
       else
        some (k9)
       ) fun n8=>
      nE (n8,(w64 (i5 + (1:Int))))
     else
      some (k9)
     ) big (vB,(0:Int))
    ) fun l9=>
   some (u3,l9,(0:Int))
   ) fun rE=>
  (f41 m8 ((fun a0=>f39 a0))).bind fun sE=>
  bif sE then
   some (([]:List LoomRun),[],(8:Int))
  else
   rE (m8,t5)
  ) fun nI=>
 bif (y7.2 != (0 : Int)) then
  some (([]:List LoomRun),[],y7.2)
 else
  nI ([])
theorem en15:Enters Tryz.prog 15:=enters_of Tryz.func15 (by kernel_rfl) rfl
theorem wk15 {gI:Gh} {wI:World} {x0:LoomMill} {x1:List LoomOrder} {x2:List LoomRun} {x3:LoomStop} {up0:Value} (rp0:RV gI.m wI x0 up0) {up1:Value} (rp1:RV gI.m wI x1 up1) {up2:Value} (rp2:RV gI.m wI x2 up2) {up3:Value} (rp3:RV gI.m wI x3 up3) {r:(List LoomRun) × (List Int) × Int} (h:f15 x0 x1 x2 x3=some r):Fn Tryz.prog 15 #[up0,up1,up2,up3] gI wI (fun m w v=>∃ y0 y1 y2,v=.tuple #[y0,y1,y2]∧RV m w (r.1) y0∧RV m w (r.2.1) y1∧y2=.int .i64 (r.2.2)):=by
 unfold f15 at h
 refine fn_of_E Tryz.func15 rfl (Nat.le_of_ble_eq_true rfl) fun g0 hm hfr=>?_
 have rp0:RV g0.m wI x0 up0:=hm ▸ rp0
 have rp1:RV g0.m wI x1 up1:=hm ▸ rp1
 have rp2:RV g0.m wI x2 up2:=hm ▸ rp2
 have rp3:RV g0.m wI x3 up3:=hm ▸ rp3
 show E _ 106 none _ _ _ _ _
 refine Zf (Za (Ze .plain rfl (D_box (g:=g0) rfl rp0 fun g1 w1 p1 hs q1=>?_)))
 have hfr:=hfr.ext hs
 have rp1:=rp1.ext hs
 have rp2:=rp2.ext hs
 have rp3:=rp3.ext hs
 refine Ze .plain rfl (D_box (g:=g1) rfl rp3 fun g2 w2 p2 hs q2=>?_)
 have hfr:=hfr.ext hs
 have rp1:=rp1.ext hs
 have rp2:=rp2.ext hs
 have q1:=q1.ext hs
 refine Zg (.slice none 0 0) rfl rfl ?_
 have b3:OA 4008 g2 w2 65 ([]:List LoomRun) (.slice none 0 0):=OA.nil
 refine Zg (.slice none 0 0) rfl rfl ?_
 refine Zg (.int .i64 (0)) rfl rfl ?_
 refine Zb (Zd (Zf (Za (Ze .plain rfl (D_load (g:=g2) Tryz.isAgg28 Tryz.sizeOf28 rfl q1 fun v4 r4=>?_)))))
 refine Zn up1 rfl rfl ?_
 refine Zn up2 rfl rfl ?_
 refine Ze .plain rfl (D_load (g:=g2) Tryz.isAgg58 Tryz.sizeOf58 rfl q2 fun v5 r5=>?_)
 obtain ⟨y7,eK,h⟩:=bsome h
 refine Ze .plain rfl (Zp (g:=g2) (vs:=[v4,up1,up2,v5]) en34 (.cons rfl (.cons rfl (.cons rfl (.cons rfl .nil)))) (wk34 r4 rp1 rp2 r5 eK) fun g6 w6_ v6 hs hr=>?_)
 have hfr:=hfr.ext hs
 have rp1:=rp1.ext hs
 have rp2:=rp2.ext hs
 have q2:=q2.ext hs
 obtain ⟨kC,zK,rfl,lC,rfl⟩:=hr
 refine Zn (.tuple #[kC,.int .i64 (y7.2)]) rfl rfl ?_
 refine EL_p kC (Zi rfl rfl) rfl ?_
 refine EL_p (.int .i64 (y7.2)) (Zi rfl rfl) rfl ?_
 refine Ze .plain rfl (D_allocOc (g:=g6) 2011 (⟨⟨⟨[],0⟩,[]⟩,⟨0,⟨0,0⟩⟩⟩:LoomStill) Tryz.zeroValue99 (fun m w=>⟨_,(rep_two (rep_two (rep_two rep_nil rep_int) rep_nil) (rep_two rep_int (rep_two rep_int rep_int))),rfl⟩) fun g8 w8 p8 hs b8 cb=>?_)
 have hfr:=hfr.stp hs
 have rp1:=rp1.stp hs
 have rp2:=rp2.stp hs
 have q2:=q2.stp hs
 have lC:=lC.stp hs
 have aL:OSF 2011 61100 0 g8 w8 3 99 ([]:List Int) p8:=cb.osf (by rfl)
 have bL:OSF 2011 61102 2 g8 w8 67 99 ([]:List LoomOrder) p8:=cb.osf (by rfl)
 clear cb
 refine Ze .plain rfl (D_storeOc (g:=g8) (v:=kC) Tryz.sizeOf99 rfl b8 rfl lC fun g9 w9 hs b9 cb=>?_)
 clear cb
 have hfr:=hfr.stp hs
 have rp1:=rp1.stp hs
 have rp2:=rp2.stp hs
 have q2:=q2.stp hs
 refine Zg (.int .i64 (y7.2)) rfl rfl ?_
 refine Zb (Zd (Zq h (fun (s:(List Int)) e w=>∃ (g:Gh) (v9:Value),Fr gI wI g w∧e 1=up1∧RV g.m w (x1:List LoomOrder) up1∧e 2=up2∧RV g.m w (x2:List LoomRun) up2∧e 7=p2∧PT g.m w (x3:LoomStop) p2∧e 9=v9∧RV g.m w (s:List Int) v9∧OS 1009 g w 3 (s:List Int) v9∧e 11=p8∧OB 2011 g w 99 (y7.1:LoomStill) p8) (fun X13 nI pI h=>?_) ?_))
 ·refine Zf (Za (Zn (.int .i64 (y7.2)) rfl rfl ?_))
  refine EL_in (.bool ((y7.2 != (0:Int)))) rfl rfl rfl rfl ?_
  refine Zb (Zd ?_)
  rcases Zt h with ⟨mC,h⟩ | ⟨mC,h⟩
  ·refine E_ct mC rfl ?_
   refine Zf (Za (Zn (.int .i64 (y7.2)) rfl rfl ?_))
   refine Zg (.slice none 0 0) rfl rfl ?_
   have b15:OA 4008 g9 w9 65 ([]:List LoomRun) (.slice none 0 0):=OA.nil
   refine Zg (.slice none 0 0) rfl rfl ?_
   refine Zg (.int .i64 (y7.2)) rfl rfl ?_
   refine Zb (Zd (E_ret (thn_r ?_)))
   obtain ⟨gp16,hs,rp16⟩:=OM.pub (b15.toM)
   have hfr:=hfr.stp hs
   obtain rfl:=sinj h
   exact end3 rfl rfl (show _=.slice none 0 0 from rfl) (show _=.slice none 0 0 from rfl) (show _=.int .i64 (y7.2) from rfl) ⟨_,hfr,_,_,_,rfl,rp16,RV_nil,rfl⟩
  ·refine E_cf mC rfl ?_
   exact Zu (Zd (pI ([]) _ _ ⟨g9,(.slice none 0 0),hfr,rfl,rp1,rfl,rp2,rfl,q2,rfl,RV_nil,OS.nil,rfl,b9⟩ h))
 ·rintro t5 cL sM ⟨lK, o3, hfr, jH, n9, vC, kA, xC, i8, kH, o9, t9, tE, o8⟩ h
  refine Zf (Za (Zo vC rfl ?_))
  obtain ⟨mI,qI,h⟩:=bsome h
  refine Ze .plain rfl (D_callG (g:=lK) (vs:=[up2]) en35 (.cons rfl .nil) (v35_0 (iO:=9031) kA qI) fun oI dL u0 hs hr=>?_)
  have hfr:=hfr.ext hs
  have n9:=n9.ext hs
  have kA:=kA.ext hs
  have i8:=i8.ext hs
  have o9:=o9.ext hs
  have t9:=t9.ext hs
  have o8:=o8.ext hs
  have hm18:=hr
  refine Zg u0 rfl rfl ?_
  refine Zb (Zd (Zf (Za (EL_p (epV u0 (-1) 3) (P_assign (rfl.trans epV_nil)) rfl ?_))))
  refine Zb (Zd ?_)
  obtain ⟨m8,hx,h⟩:=bsome h
  refine E_join (fun e w=>∃ (g:Gh) ,Fr gI wI g w∧e 1=up1∧RV g.m w (x1:List LoomOrder) up1∧e 8=u0∧OM 9031 g w 65 (m8:List LoomRun) u0∧e 9=o3∧RV g.m w (t5:List Int) o3∧OS 1009 g w 3 (t5:List Int) o3∧e 11=p8∧OB 2011 g w 99 (y7.1:LoomStill) p8) (fun Q' hQ=>?_) (fun nK eL hR=>?_)
  ·replace h := hx
   clear hx
   refine Zf (Za (Zo vC rfl ?_))
   refine EL_p (fPtr p2 0) (Zc at_58_0 xC (PT.ptr i8)) rfl ?_
   have rI:=Zm (part_LoomStop_0).1 i8
   refine Ze .plain rfl (D_load (g:=oI) Tryz.isAgg3 Tryz.sizeOf3 rfl rI fun gL sI=>?_)
   obtain rfl:=Zj.1 sI
   obtain ⟨x6,lH,h⟩:=bsome h
   refine Ze .plain rfl (Zp (g:=oI) (vs:=[up2,.int .i64 ((x3).Loom)]) en36 (.cons rfl (.cons rfl .nil)) (wk36 kA lH) fun tI oK k8 hs hr=>?_)
   have hfr:=hfr.ext hs
   have n9:=n9.ext hs
   have i8:=i8.ext hs
   have o9:=o9.ext hs
   have t9:=t9.ext hs
   have o8:=o8.ext hs
   have hm18:=hm18.ext hs
   have uE:=hr
   refine EL_p (.int .i64 ((x6).length:Int)) (P_len Tryz.underlying26 rfl uE) rfl ?_
   refine Zn (.int .i64 (0)) rfl rfl ?_
   refine Zb (Zd (Zr ?_))
   refine E_lp h (fun (s:(List LoomRun) × Int × Int) e w=>∃ (g:Gh) ,Fr gI wI g w∧e 1=up1∧RV g.m w (x1:List LoomOrder) up1∧e 7=p2∧PT g.m w (x3:LoomStop) p2∧e 8=u0∧OM 9031 g w 65 (s.1:List LoomRun) u0∧e 9=o3∧RV g.m w (t5:List Int) o3∧OS 1009 g w 3 (t5:List Int) o3∧e 11=p8∧OB 2011 g w 99 (y7.1:LoomStill) p8∧e 12=epV u0 (s.2.1) 3∧e 35=k8∧RV g.m w (x6:List Int) k8∧e 36=.int .i64 (((x6).length:Int))∧e 37=.int .i64 (s.2.2)) ⟨tI,hfr,jH,n9,xC,i8,rfl,hm18,kH,o9,t9,tE,o8,rfl,rfl,uE,rfl,rfl⟩ (fun X401 jE mH=>?_)
   rintro ⟨d7,j7,i3⟩ pK iL ⟨eB,hfr,oA,e7,xB,n7,u9,j1,pA,g7,i7,y8,x5,yA,y9,i6,z9,a9⟩ h
   refine Zf (Za (EL_in (.bool ((decide (i3 < ((x6).length:Int))))) a9 z9 rfl rfl ?_))
   refine Zb (Zd (Zf ?_))
   rcases Zt h with ⟨iB,h⟩ | ⟨iB,h⟩
   ·refine E_ct iB rfl ?_
    refine Zu (Zd ?_)
    obtain ⟨⟨i9,x8⟩,hx,h⟩:=bsome h
    refine E_join (fun e w=>∃ (g:Gh) ,Fr gI wI g w∧e 1=up1∧RV g.m w (x1:List LoomOrder) up1∧e 7=p2∧PT g.m w (x3:LoomStop) p2∧e 8=u0∧OM 9031 g w 65 (i9:List LoomRun) u0∧e 9=o3∧RV g.m w (t5:List Int) o3∧OS 1009 g w 3 (t5:List Int) o3∧e 11=p8∧OB 2011 g w 99 (y7.1:LoomStill) p8∧e 12=epV u0 x8 3∧e 35=k8∧RV g.m w (x6:List Int) k8∧e 36=.int .i64 (((x6).length:Int))∧e 37=.int .i64 (i3)) (fun Q' hQ=>?_) (fun qK jL hR=>?_)
    ·replace h := hx
     clear hx
     refine Zr ?_
     refine Zf (Za ?_)
     obtain ⟨o0,yC,h⟩:=bsome h
     refine EL_p (ePtr k8 i3 1) (Zh (α:=Int) Tryz.underlying26 Tryz.sizeOf3 y9 i6 a9 yC) rfl ?_
     have uI:=PT_idx i6 yC
     refine Ze .plain rfl (D_load (g:=eB) Tryz.isAgg3 Tryz.sizeOf3 rfl uI fun kL vI=>?_)
     obtain rfl:=Zj.1 vI
     refine Zg (.int .i64 (o0)) rfl rfl ?_
     refine Zb (Zd (Zf (Za (Zo u9 rfl ?_))))
     refine Zn (.int .i64 (o0)) rfl rfl ?_
     obtain ⟨l8,j6,h⟩:=bsome h
     refine EL_p (ePtr u0 o0 3) (P_indexAddrM (α:=LoomRun) Tryz.underlying48 Tryz.sizeOf65 rfl j1 rfl j6) rfl ?_
     refine Zg (ePtr u0 o0 3) rfl rfl ?_
     refine Zb (Zd ?_)
     obtain ⟨m7,hx,h⟩:=bsome h
     refine E_join (fun e w=>∃ (g:Gh) ,Fr gI wI g w∧e 1=up1∧RV g.m w (x1:List LoomOrder) up1∧e 7=p2∧PT g.m w (x3:LoomStop) p2∧e 8=u0∧OM 9031 g w 65 (m7:List LoomRun) u0∧e 9=o3∧RV g.m w (t5:List Int) o3∧OS 1009 g w 3 (t5:List Int) o3∧e 11=p8∧OB 2011 g w 99 (y7.1:LoomStill) p8∧e 15=ePtr u0 o0 3∧e 35=k8∧RV g.m w (x6:List Int) k8∧e 36=.int .i64 (((x6).length:Int))∧e 37=.int .i64 (i3)) (fun Q' hQ=>?_) (fun sK lL hR=>?_)
     ·replace h := hx
      clear hx
      refine Zf (Za (Zo yA rfl ?_))
      obtain ⟨jC,nH,h⟩:=bsome h
      refine EL_p (.bool (jC)) (P_epne Tryz.underlying102 j1 rfl rfl nH) rfl ?_
      refine Zb (Zd ?_)
      rcases Zt h with ⟨jB,h⟩ | ⟨jB,h⟩
      ·refine E_ct jB rfl ?_
       obtain ⟨pb653,po653,pe653⟩:=OM.ptrE (k:=3) j1 j6
       obtain ⟨pb655,po655,pe655⟩:=OM.ptrE (k:=3) j1 j6
       refine L_loadMF (x:=.tmp 49) part_LoomRun_2.1 Tryz.isAgg3 Tryz.sizeOf3 j1 j6 fun mL xI oH=>?_
       obtain rfl:=Zj.1 xI
       refine L_loadO (x:=.tmp 51) part_LoomStill_0.1 Tryz.isAgg81 Tryz.sizeOf81 x5 fun vE yI pH=>?_
       obtain ⟨kE,kB,h⟩:=bsome h
       obtain ⟨pb660,po660,pe660⟩:=OM.ptrE (k:=3) j1 kB
       refine L_loadM (x:=.tmp 54) Tryz.isAgg65 Tryz.sizeOf65 j1 kB fun xE zI qH=>?_
       obtain ⟨pb662,po662,pe662⟩:=OM.ptrE (k:=3) j1 j6
       obtain ⟨pb664,po664,pe664⟩:=OM.ptrE (k:=3) j1 j6
       refine L_loadMF (x:=.tmp 58) part_LoomRun_0.1 Tryz.isAgg3 Tryz.sizeOf3 j1 j6 fun nL aJ sH=>?_
       obtain rfl:=Zj.1 aJ
       obtain ⟨lA,tH,h⟩:=bsome h
       obtain ⟨pb668,po668,pe668⟩:=OM.ptrE (k:=3) j1 j6
       obtain ⟨pb670,po670,pe670⟩:=OM.ptrE (k:=3) j1 j6
       refine E_drawL (g:=eB) (n:=18) [(14,(fun v g w=>v=.int .i64 (lA)))] [0,1,2,3,4,5,6,7,8,9,10,11,12,13,14,15,16,17] rfl mixed (by kernel_rfl) (⟨fun _=>up_eq _,trivial⟩) ?_
       refine L_p (ePtr u0 o0 3) rfl rfl (Zk rfl) ?_
       refine L_p (ePtr u0 o0 3) rfl rfl (Zk rfl) ?_
       refine L_p (ePtr u0 o0 3) rfl rfl (P_nilCk rfl pe653) ?_
       refine L_p (fPtr (ePtr u0 o0 3) 2) rfl rfl (Zc at_65_2 rfl ⟨_,_,pe655⟩) ?_
       refine L_ld (c:=.int .i64 ((l8).From)) rfl rfl .plain (fun _ _ h=>⟨h.ch,fun b hb _=>h.below.block b hb⟩) oH rfl ?_
       refine L_p (fPtr p8 0) rfl rfl (Zc at_99_0 y8 (OB.ptr x5)) ?_
       refine L_ld (c:=vE) rfl rfl .plain (fun _ _ h=>⟨h.ch,fun b hb _=>h.below.block b hb⟩) pH rfl ?_
       refine L_p (epV u0 j7 3) rfl rfl (Zk yA) ?_
       refine L_p (ePtr u0 j7 3) rfl rfl (P_nilCk (rfl.trans (epV_pos kB)) pe660) ?_
       refine L_ld (c:=xE) rfl rfl .plain (fun _ _ h=>⟨h.ch,fun b hb _=>h.below.block b hb⟩) qH rfl ?_
       refine L_p (ePtr u0 o0 3) rfl rfl (Zk rfl) ?_
       refine L_p (ePtr u0 o0 3) rfl rfl (P_nilCk rfl pe662) ?_
       refine L_p (fPtr (ePtr u0 o0 3) 0) rfl rfl (Zc at_65_0 rfl ⟨_,_,pe664⟩) ?_
       refine L_ld (c:=.int .i64 ((l8).Order)) rfl rfl .plain (fun _ _ h=>⟨h.ch,fun b hb _=>h.below.block b hb⟩) sH rfl ?_
       refine L_do (φ:=fun v g w=>v=.int .i64 (lA)) rfl rfl .plain (fun g w hd=>Zp (g:=g) (vs:=[vE,xE,.int .i64 ((l8).Order)]) en37 (.cons rfl (.cons rfl (.cons rfl .nil))) (wk37 (yI.ext hd.1) (zI.ext hd.1) tH) fun g' w' v hs hr=>⟨g',hs,hr⟩) (fun oL hv=>?_)
       obtain ⟨_,_,_,rfl⟩:=hv
       refine L_p (.int .i64 (max64 (l8).From lA)) rfl rfl (P_max rfl rfl) ?_
       refine L_p (ePtr u0 o0 3) rfl rfl (P_nilCk rfl pe668) ?_
       refine L_p (fPtr (ePtr u0 o0 3) 2) rfl rfl (Zc at_65_2 rfl ⟨_,_,pe670⟩) ?_
       refine L_nl fun bJ pL hs=>?_
       have hfr:=hfr.ext hs
       have e7:=e7.ext hs
       have n7:=n7.ext hs
       have j1:=j1.ext hs
       have g7:=g7.ext hs
       have i7:=i7.ext hs
       have x5:=x5.ext hs
       have i6:=i6.ext hs
       clear hs
       refine Ze .plain rfl (D_storeMF (g:=bJ) part_LoomRun_2 Tryz.sizeOf3 rfl j1 j6 rfl (Zj.2 rfl) fun cJ qL hs b709=>?_)
       have hfr:=hfr.stp hs
       have e7:=e7.stp hs
       have n7:=n7.stp hs
       have g7:=g7.stp hs
       have i7:=i7.stp hs rfl
       have x5:=x5.stp hs rfl
       have i6:=i6.stp hs
       refine Zb ?_
       obtain rfl:=sinj h
       exact hQ _ _ ⟨cJ,hfr,oA,e7,xB,n7,u9,b709,pA,g7,i7,y8,x5,rfl,y9,i6,z9,a9⟩
      ·refine E_cf jB rfl ?_
       refine Zu ?_
       obtain rfl:=sinj h
       exact hQ _ _ ⟨eB,hfr,oA,e7,xB,n7,u9,j1,pA,g7,i7,y8,x5,rfl,y9,i6,z9,a9⟩
     ·clear hx
      obtain ⟨dJ,hfr,yB,o7,qA,a7,zB,b7,aC,u7,v7,bA,y6,d9,zA,c7,aB,bB⟩:=hR
      obtain ⟨mA,hx,h⟩:=bsome h
      refine E_join (fun e w=>∃ (g:Gh) ,Fr gI wI g w∧e 1=up1∧RV g.m w (x1:List LoomOrder) up1∧e 7=p2∧PT g.m w (x3:LoomStop) p2∧e 8=u0∧OM 9031 g w 65 (mA:List LoomRun) u0∧e 9=o3∧RV g.m w (t5:List Int) o3∧OS 1009 g w 3 (t5:List Int) o3∧e 11=p8∧OB 2011 g w 99 (y7.1:LoomStill) p8∧e 15=ePtr u0 o0 3∧e 35=k8∧RV g.m w (x6:List Int) k8∧e 36=.int .i64 (((x6).length:Int))∧e 37=.int .i64 (i3)) (fun Q' hQ=>?_) (fun tK rL hR=>?_)
      ·replace h := hx
       clear hx
       refine Zf (L_loadO0 (x:=.tmp 11) Tryz.isAgg99 Tryz.sizeOf99 y6 fun yE eJ uH=>?_)
       obtain ⟨lE,aD,h⟩:=bsome h
       obtain ⟨pb743,po743,pe743⟩:=OM.ptrE (k:=3) b7 aD
       refine L_loadM (x:=.tmp 66) Tryz.isAgg65 Tryz.sizeOf65 b7 aD fun zE gJ vH=>?_
       obtain ⟨cB,xH,h⟩:=bsome h
       refine E_drawL (g:=dJ) (n:=5) [(4,(fun v g w=>v=.bool (cB)))] [0,1,2,3,4] rfl mixed (by kernel_rfl) (⟨fun _=>up_eq _,trivial⟩) ?_
       refine L_ld (c:=yE) rfl rfl .plain (fun _ _ h=>⟨h.ch,fun b hb _=>h.below.block b hb⟩) uH bA ?_
       refine L_p (ePtr u0 o0 3) rfl rfl (Zk d9) ?_
       refine L_p (ePtr u0 o0 3) rfl rfl (P_nilCk rfl pe743) ?_
       refine L_ld (c:=zE) rfl rfl .plain (fun _ _ h=>⟨h.ch,fun b hb _=>h.below.block b hb⟩) vH rfl ?_
       refine L_do (φ:=fun v g w=>v=.bool (cB)) rfl rfl .plain (fun g w hd=>Zp (g:=g) (vs:=[yE,zE]) en38 (.cons rfl (.cons rfl .nil)) (wk38 (eJ.ext hd.1) (gJ.ext hd.1) xH) fun g' w' v hs hr=>⟨g',hs,hr⟩) (fun tL hv=>?_)
       obtain ⟨_,_,_,rfl⟩:=hv
       refine L_nl fun qC uL hs=>?_
       have hfr:=hfr.ext hs
       have o7:=o7.ext hs
       have a7:=a7.ext hs
       have b7:=b7.ext hs
       have u7:=u7.ext hs
       have v7:=v7.ext hs
       have y6:=y6.ext hs
       have c7:=c7.ext hs
       clear hs
       refine Zb (Zd ?_)
       rcases Zt h with ⟨lB,h⟩ | ⟨lB,h⟩
       ·refine E_ct lB rfl ?_
        refine Za (Zo d9 rfl ?_)
        refine EL_p (fPtr p2 1) (Zc at_58_1 qA (PT.ptr a7)) rfl ?_
        have cF:=Zm (part_LoomStop_1).1 a7
        refine EL_p (fPtr (fPtr p2 1) 1) (Zc at_55_1 rfl (PT.ptr cF)) rfl ?_
        have iJ:=Zm (part_Span_1).1 cF
        refine Ze .plain rfl (D_load (g:=qC) Tryz.isAgg3 Tryz.sizeOf3 rfl iJ fun vL jJ=>?_)
        obtain rfl:=Zj.1 jJ
        refine EL_in (.int .i64 ((w64 (((x3).Days).High + (1:Int))))) rfl rfl rfl rfl ?_
        obtain ⟨mE,mB,h⟩:=bsome h
        obtain ⟨pb767,po767,pe767⟩:=OM.ptrE (k:=3) b7 mB
        refine EL_p (ePtr u0 o0 3) (P_nilCk rfl pe767) rfl ?_
        obtain ⟨pb769,po769,pe769⟩:=OM.ptrE (k:=3) b7 mB
        refine EL_p (fPtr (ePtr u0 o0 3) 2) (Zc at_65_2 rfl ⟨_,_,pe769⟩) rfl ?_
        refine Ze .plain rfl (D_storeMF (g:=qC) part_LoomRun_2 Tryz.sizeOf3 rfl b7 mB rfl (Zj.2 rfl) fun kJ xL hs b770=>?_)
        have hfr:=hfr.stp hs
        have o7:=o7.stp hs
        have a7:=a7.stp hs
        have u7:=u7.stp hs
        have v7:=v7.stp hs rfl
        have y6:=y6.stp hs rfl
        have c7:=c7.stp hs
        refine Zb ?_
        obtain rfl:=sinj h
        exact hQ _ _ ⟨kJ,hfr,yB,o7,qA,a7,zB,b770,aC,u7,v7,bA,y6,d9,zA,c7,aB,bB⟩
       ·refine E_cf lB rfl ?_
        refine Zu ?_
        obtain rfl:=sinj h
        exact hQ _ _ ⟨qC,hfr,yB,o7,qA,a7,zB,b7,aC,u7,v7,bA,y6,d9,zA,c7,aB,bB⟩
      ·clear hx
       obtain ⟨lJ,hfr,dF,eF,iF,nF,oF,pF,qF,rF,sF,eD,gD,iD,jD,kD,lD,mD⟩:=hR
       refine Za (Zo iD rfl ?_)
       refine EL_p (epV u0 o0 3) (P_assign (rfl.trans (epV_pos j6).symm)) rfl ?_
       refine Zb (blk_n ?_)
       obtain ⟨rfl,rfl⟩:=pairs2 h
       exact hQ _ _ ⟨lJ,hfr,dF,eF,iF,nF,oF,pF,qF,rF,sF,eD,gD,rfl,jD,kD,lD,mD⟩
    ·clear hx
     obtain ⟨mJ,hfr,tF,uF,vF,xF,yF,zF,aG,bG,cG,nD,oD,sD,tD,uD,vD,xD⟩:=hR
     refine Za (EL_in (.int .i64 ((w64 (i3 + (1:Int))))) xD rfl rfl rfl ?_)
     refine Zn (.int .i64 ((w64 (i3 + (1:Int))))) rfl rfl ?_
     exact Zb (Zd (mH (i9,x8,(w64 (i3 + (1:Int)))) _ _ ⟨mJ,hfr,tF,uF,vF,xF,yF,zF,aG,bG,cG,nD,oD,sD,tD,uD,vD,rfl⟩ h))
   ·refine E_cf iB rfl ?_
    refine E_exit ?_
    refine thn_e ?_
    refine thn_e ?_
    refine blk_hit ?_
    obtain rfl:=sinj h
    exact hQ _ _ ⟨eB,hfr,oA,e7,u9,j1,pA,g7,i7,y8,x5⟩
  ·clear hx
   obtain ⟨yL,hfr,dG,q8,cC,eG,gG,r8,t8,yD,c8⟩:=hR
   refine Zf (Za (Zg (.func (.func 39) #[] #[]) rfl rfl ?_))
   refine Zb (Zd (Zq h (fun (s:(List LoomRun) × (List Int)) e w=>∃ (g:Gh) (v8 v9:Value),Fr gI wI g w∧e 1=up1∧RV g.m w (x1:List LoomOrder) up1∧e 8=v8∧RV g.m w (s.1:List LoomRun) v8∧e 9=v9∧RV g.m w (s.2:List Int) v9∧OS 1009 g w 3 (s.2:List Int) v9∧e 11=p8∧OB 2011 g w 99 (y7.1:LoomStill) p8) (fun X780 rE yH h=>?_) ?_))
   ·refine Zf (Za (Zo cC rfl ?_))
    refine Zn (.func (.func 39) #[] #[]) rfl rfl ?_
    obtain ⟨gp781,hs,rp781⟩:=OM.pub eG
    have hfr:=hfr.stp hs
    have q8:=q8.stp hs
    have r8:=r8.stp hs
    have t8:=t8.stp hs rfl
    have c8:=c8.stp hs rfl
    obtain ⟨sE,zH,h⟩:=bsome h
    refine Ze .plain rfl (Zp (g:=gp781) (vs:=[u0,.func (.func 39) #[] #[]]) en41 (.cons rfl (.cons rfl .nil)) (wk41 rp781 ⟨39,#[],#[],rfl,en39,fun g' w' hch a0 b0 r hu0 hr=>by exact Fn.mono (wk39 hu0  hr) fun _ _ _ h=>RV_bool.2 h⟩ zH) fun hG aI zL hs hr=>?_)
    have hfr:=hfr.ext hs
    have q8:=q8.ext hs
    have rp781:=rp781.ext hs
    have r8:=r8.ext hs
    have t8:=t8.ext hs
    have c8:=c8.ext hs
    subst hr
    refine Zb (Zd ?_)
    rcases Zt h with ⟨nB,h⟩ | ⟨nB,h⟩
    ·refine E_ct nB rfl ?_
     refine Zf (Za (Zg (.slice none 0 0) rfl rfl ?_))
     have b785:OA 4008 hG aI 65 ([]:List LoomRun) (.slice none 0 0):=OA.nil
     refine Zg (.slice none 0 0) rfl rfl ?_
     refine Zg (.int .i64 (8)) rfl rfl ?_
     refine Zb (Zd (E_ret (thn_r ?_)))
     obtain ⟨gp786,hs,rp786⟩:=OM.pub (b785.toM)
     have hfr:=hfr.stp hs
     obtain rfl:=sinj h
     exact end3 rfl rfl (show _=.slice none 0 0 from rfl) (show _=.slice none 0 0 from rfl) (show _=.int .i64 (8) from rfl) ⟨_,hfr,_,_,_,rfl,rp786,RV_nil,rfl⟩
    ·refine E_cf nB rfl ?_
     exact Zu (Zd (yH (m8,t5) _ _ ⟨hG,(u0),(o3),hfr,dG,q8,cC,rp781,gG,r8,t8,yD,c8⟩ h))
   ·rintro ⟨u3, vB⟩ uK aM ⟨nJ, z3, iG, hfr, jG, kG, dC, rA, lG, mG, nG, zD, aE⟩ h
    obtain ⟨l9,hx,h⟩:=bsome h
    refine E_join (fun e w=>∃ (g:Gh) (v9:Value),Fr gI wI g w∧e 8=z3∧RV g.m w (u3:List LoomRun) z3∧e 9=v9∧RV g.m w (l9:List Int) v9∧OS 1009 g w 3 (l9:List Int) v9) (fun Q' hQ=>?_) (fun vK bM hR=>?_)
    ·replace h := hx
     clear hx
     refine Zf (Za (Zo dC rfl ?_))
     refine EL_p (.int .i64 ((u3).length:Int)) (P_len Tryz.underlying48 rfl rA) rfl ?_
     refine Zn (.int .i64 (0)) rfl rfl ?_
     refine Zb (Zd (Zr ?_))
     refine E_lp h (fun (s:(List Int) × Int) e w=>∃ (g:Gh) (v9:Value),Fr gI wI g w∧e 1=up1∧RV g.m w (x1:List LoomOrder) up1∧e 8=z3∧RV g.m w (u3:List LoomRun) z3∧e 9=v9∧RV g.m w (s.1:List Int) v9∧OS 1009 g w 3 (s.1:List Int) v9∧e 11=p8∧OB 2011 g w 99 (y7.1:LoomStill) p8∧e 81=z3∧RV g.m w (u3:List LoomRun) z3∧e 82=.int .i64 (((u3).length:Int))∧e 83=.int .i64 (s.2)) ⟨nJ,(iG),hfr,jG,kG,dC,rA,lG,mG,nG,zD,aE,rfl,rA,rfl,rfl⟩ (fun X882 nE bI=>?_)
     rintro ⟨k9,i5⟩ xK cM ⟨rC,eC,hfr,sA,j3,uA,z4,xA,l5,q5,gA,z2,iA,d3,jA,e9⟩ h
     refine Zf (Za (EL_in (.bool ((decide (i5 < ((u3).length:Int))))) e9 jA rfl rfl ?_))
     refine Zb (Zd (Zf ?_))
     rcases Zt h with ⟨oB,h⟩ | ⟨oB,h⟩
     ·refine E_ct oB rfl ?_
      refine Zu (Zd ?_)
      obtain ⟨n8,hx,h⟩:=bsome h
      refine E_join (fun e w=>∃ (g:Gh) (v9:Value),Fr gI wI g w∧e 1=up1∧RV g.m w (x1:List LoomOrder) up1∧e 8=z3∧RV g.m w (u3:List LoomRun) z3∧e 9=v9∧RV g.m w (n8:List Int) v9∧OS 1009 g w 3 (n8:List Int) v9∧e 11=p8∧OB 2011 g w 99 (y7.1:LoomStill) p8∧e 81=z3∧RV g.m w (u3:List LoomRun) z3∧e 82=.int .i64 (((u3).length:Int))∧e 83=.int .i64 (i5)) (fun Q' hQ=>?_) (fun yK dM hR=>?_)
      ·replace h := hx
       clear hx
       refine Zr ?_
       refine Zf (Za ?_)
       obtain ⟨e8,bD,h⟩:=bsome h
       refine EL_p (ePtr z3 i5 3) (Zh (α:=LoomRun) Tryz.underlying48 Tryz.sizeOf65 iA d3 e9 bD) rfl ?_
       have oJ:=PT_idx d3 bD
       refine Ze .plain rfl (D_load (g:=rC) Tryz.isAgg65 Tryz.sizeOf65 rfl oJ fun pJ tC=>?_)
       refine Ze .plain rfl (D_allocOc (g:=rC) 2018 (⟨0,0,0⟩:LoomRun) Tryz.zeroValue65 (fun m w=>⟨_,(rep_two rep_int (rep_two rep_int rep_int)),rfl⟩) fun qJ eM oG hs b933 cb=>?_)
       have hfr:=hfr.stp hs
       have j3:=j3.stp hs
       have z4:=z4.stp hs
       have l5:=l5.stp hs
       have q5:=q5.stp hs rfl
       have z2:=z2.stp hs rfl
       have d3:=d3.stp hs
       have tC:=tC.stp hs
       clear cb
       refine Ze .plain rfl (D_storeOc (g:=qJ) (v:=pJ) Tryz.sizeOf65 rfl b933 rfl tC fun rJ gM hs b934 cb=>?_)
       clear cb
       have hfr:=hfr.stp hs
       have j3:=j3.stp hs
       have z4:=z4.stp hs
       have l5:=l5.stp hs
       have q5:=q5.stp hs rfl
       have z2:=z2.stp hs rfl
       have d3:=d3.stp hs
       refine Zb (Zd (Zf (L_loadO (x:=.tmp 87) part_LoomStill_0.1 Tryz.isAgg81 Tryz.sizeOf81 z2 fun pG sJ cI=>?_)))
       refine L_loadO0 (x:=.tmp 18) Tryz.isAgg65 Tryz.sizeOf65 b934 fun qG tJ dI=>?_
       obtain ⟨nA,iI,h⟩:=bsome h
       refine L_loadO (x:=.tmp 92) part_LoomRun_0.1 Tryz.isAgg3 Tryz.sizeOf3 b934 fun iM uJ jI=>?_
       obtain rfl:=Zj.1 uJ
       obtain ⟨dB,cD,h⟩:=bsome h
       have rG:=PT_idx j3 cD
       have vJ:=Zm (part_LoomOrder_4).1 rG
       refine Zs (x:=.tmp 95) Tryz.isAgg3 Tryz.sizeOf3 vJ fun jM xJ kI=>?_
       obtain rfl:=Zj.1 xJ
       refine E_drawL (g:=rJ) (n:=11) [(3,(fun v g w=>v=.int .i64 (nA)))] [0,1,2,3,4,5,6,7,8,9,10] rfl mixed (by kernel_rfl) (⟨fun _=>up_eq _,trivial⟩) ?_
       refine L_p (fPtr p8 0) rfl rfl (Zc at_99_0 gA (OB.ptr z2)) ?_
       refine L_ld (c:=pG) rfl rfl .plain (fun _ _ h=>⟨h.ch,fun b hb _=>h.below.block b hb⟩) cI rfl ?_
       refine L_ld (c:=qG) rfl rfl .plain (fun _ _ h=>⟨h.ch,fun b hb _=>h.below.block b hb⟩) dI rfl ?_
       refine L_do (φ:=fun v g w=>v=.int .i64 (nA)) rfl rfl .plain (fun g w hd=>Zp (g:=g) (vs:=[pG,qG]) en42 (.cons rfl (.cons rfl .nil)) (wk42 (sJ.ext hd.1) (tJ.ext hd.1) iI) fun g' w' v hs hr=>⟨g',hs,hr⟩) (fun kM hv=>?_)
       obtain ⟨_,_,_,rfl⟩:=hv
       refine L_p up1 rfl rfl (Zk sA) ?_
       refine L_p (fPtr oG 0) rfl rfl (Zc at_65_0 rfl (OB.ptr b934)) ?_
       refine L_ld (c:=.int .i64 ((e8).Order)) rfl rfl .plain (fun _ _ h=>⟨h.ch,fun b hb _=>h.below.block b hb⟩) jI rfl ?_
       refine L_p (ePtr up1 (e8).Order 5) rfl rfl (Zh (α:=LoomOrder) Tryz.underlying29 Tryz.sizeOf67 rfl j3 rfl cD) ?_
       refine L_p (fPtr (ePtr up1 (e8).Order 5) 4) rfl rfl (Zc at_67_4 rfl (PT.ptr rG)) ?_
       refine L_ld (c:=.int .i64 ((dB).Late)) rfl rfl .plain (fun _ _ h=>h.ch) kI rfl ?_
       refine L_p (.bool ((decide (nA > (dB).Late)))) rfl rfl (P_int rfl rfl rfl) ?_
       refine L_nl fun uC mM hs=>?_
       have hfr:=hfr.ext hs
       have j3:=j3.ext hs
       have z4:=z4.ext hs
       have l5:=l5.ext hs
       have q5:=q5.ext hs
       have z2:=z2.ext hs
       have d3:=d3.ext hs
       have b934:=b934.ext hs
       clear hs
       refine Zb (Zd ?_)
       rcases Zt h with ⟨tB,h⟩ | ⟨tB,h⟩
       ·refine E_ct tB rfl ?_
        refine Za (Zo xA rfl ?_)
        refine EL_p (fPtr oG 0) (Zc at_65_0 rfl (OB.ptr b934)) rfl ?_
        refine Ze .plain rfl (D_loadF (g:=uC) part_LoomRun_0.1 Tryz.isAgg3 Tryz.sizeOf3 rfl b934 fun nM yJ=>?_)
        obtain rfl:=Zj.1 yJ
        refine Ze .plain rfl (D_buildSlice (g:=uC) 3101 (xs:=([(e8).Order]:List Int)) (vs:=[.int .i64 ((e8).Order)]) Tryz.underlying26 Tryz.sizeOf3 Tryz.zeroValue3 rfl rfl (.cons rfl .nil) (RVs.cons (Zj.2 rfl) RVs.nil) rfl rfl fun zJ oM pM hs o972 aK hxt hfl=>?_)
        have hfr:=hfr.stp hs
        have j3:=j3.stp hs
        have z4:=z4.stp hs
        have l5:=l5.stp hs
        have q5:=q5.stp hs rfl
        have z2:=z2.stp hs rfl
        have d3:=d3.stp hs
        obtain ⟨oE,lI,h⟩:=bsome h
        refine Ze .plain rfl (D_append (g:=zJ) (i:=1009) Tryz.underlying26 info_3 rfl rfl q5 l5 rfl aK lI fun bK qM sG hs o973 cK _=>?_)
        have hfr:=hfr.stp hs
        have j3:=j3.stp hs
        have z4:=z4.stp hs
        have z2:=z2.stp hs rfl
        have d3:=d3.stp hs
        refine Zg sG rfl rfl ?_
        refine Zb (blk_n ?_)
        obtain rfl:=sinj h
        exact hQ _ _ ⟨bK,(sG),hfr,sA,j3,uA,z4,rfl,cK,o973,gA,z2,iA,d3,jA,e9⟩
       ·refine E_cf tB rfl ?_
        refine Zu (blk_n ?_)
        obtain rfl:=sinj h
        exact hQ _ _ ⟨uC,(eC),hfr,sA,j3,uA,z4,xA,l5,q5,gA,z2,iA,d3,jA,e9⟩
      ·clear hx
       obtain ⟨dK,tG,hfr,uG,vG,xG,yG,zG,aH,bH,bE,cE,dE,eE,gE,iE⟩:=hR
       refine Za (EL_in (.int .i64 ((w64 (i5 + (1:Int))))) iE rfl rfl rfl ?_)
       refine Zn (.int .i64 ((w64 (i5 + (1:Int))))) rfl rfl ?_
       exact Zb (Zd (bI (n8,(w64 (i5 + (1:Int)))) _ _ ⟨dK,(tG),hfr,uG,vG,xG,yG,zG,aH,bH,bE,cE,dE,eE,gE,rfl⟩ h))
     ·refine E_cf oB rfl ?_
      refine E_exit ?_
      refine thn_e ?_
      refine thn_e ?_
      refine blk_hit ?_
      obtain rfl:=sinj h
      exact hQ _ _ ⟨rC,(eC),hfr,uA,z4,xA,l5,q5⟩
    ·clear hx
     obtain ⟨rM,iC,hfr,cH,dH,gH,iH,mK⟩:=hR
     refine Zf (Za (Zo cH rfl ?_))
     refine Zo gH rfl ?_
     refine Zg z3 rfl rfl ?_
     refine Zg iC rfl rfl ?_
     refine Zg (.int .i64 (0)) rfl rfl ?_
     refine Zb (Zd (E_ret ?_))
     obtain rfl:=sinj h
     exact end3 rfl rfl (show _=z3 from rfl) (show _=iC from rfl) (show _=.int .i64 (0) from rfl) ⟨_,hfr,_,_,_,rfl,dH,iH,rfl⟩
def f47 (x0:FaultFaultLoom) (x1:List FaultDamage):Option ((List Str)):=
 (f69 ((((x0).FaultLoom).Design).Rows)).bind fun y8=>
 (f70 x1).bind fun y11=>
 (f71 y11 ((fun a0 a1=>f72 a0 a1))).bind fun d7=>
 Option.bind (α:=(List Int) × (List (Int × Bool))) (
  lp (σ:=(List Int) × (List (Int × Bool)) × Int) (fun kD (x8,a9,j1)=>
   bif (decide (j1 < ((d7).length : Int))) then
    Option.bind (α:=(List Int) × (List (Int × Bool))) (
     (idx d7 j1).bind fun y55=>
     (fchg ((y55).Kind) x0 y55 x8 a9).bind fun eB=>
     some (eB.1,eB.2)
     ) fun (o7,u7)=>
    kD (o7,u7,(w64 (j1 + (1:Int))))
   else
    some (x8,a9)
   ) big (y8,([]:List (Int × Bool)),(0:Int))
  ) fun (c8,t5)=>
 (f75 (((x0).FaultLoom).Harness) ((⟨(((x0).FaultLoom).Design).Hooks,c8⟩:Design))).bind fun x5=>
 Option.bind (α:=(List Str)) (
  lp (σ:=(List Str) × Int) (fun iB (o3,o0)=>
   bif (decide (o0 < ((x5.1).length : Int))) then
    Option.bind (α:=(List Str)) (
     (idx o3 o0).bind fun g8=>
     Option.bind (α:=(List UInt8)) (
      lp (σ:=(List UInt8) × (List (Int × Bool))) (fun jB (u3,j7)=>
       bif j7.isEmpty then
        some (u3)
       else pickAll j7 fun i6 rm160=>
        (idx u3 i6.1).bind fun uD=>
        jB ((List.set u3 (Int.toNat i6.1) ((46:UInt8))),rm160)
       ) big ((g8).b,t5)
      ) fun x6=>
     (idx o3 o0).bind fun y165=>
     some ((List.set o3 (Int.toNat o0) ((⟨x6⟩:Str))))
     ) fun e7=>
    iB (e7,(w64 (o0 + (1:Int))))
   else
    some (o3)
   ) big (x5.1,(0:Int))
  ) fun i8=>
 some (i8)
theorem en47:Enters Tryz.prog 47:=enters_of Tryz.func47 (by kernel_rfl) rfl
theorem wk47 {gI:Gh} {wI:World} {x0:FaultFaultLoom} {x1:List FaultDamage} {up0:Value} (rp0:RV gI.m wI x0 up0) {up1:Value} (rp1:RV gI.m wI x1 up1) {r:(List Str)} (h:f47 x0 x1=some r):Fn Tryz.prog 47 #[up0,up1] gI wI (fun m w v=>RV m w (r) v):=by
 unfold f47 at h
 refine fn_of_E Tryz.func47 rfl (Nat.le_of_ble_eq_true rfl) fun g0 hm hfr=>?_
 have rp0:RV g0.m wI x0 up0:=hm ▸ rp0
 have rp1:RV g0.m wI x1 up1:=hm ▸ rp1
 show E _ 79 none _ _ _ _ _
 refine Zf (Za (Ze .plain rfl (D_box (g:=g0) rfl rp0 fun g1 w1 p1 hs q1=>?_)))
 have hfr:=hfr.ext hs
 have rp1:=rp1.ext hs
 refine Zg (.slice none 0 0) rfl rfl ?_
 have b2:OA 4004 g1 w1 9 ([]:List Str) (.slice none 0 0):=OA.nil
 refine Zb (Zd (Zf (Za (EL_p (fPtr p1 0) (Zc at_73_0 rfl (PT.ptr q1)) rfl ?_))))
 have q3:=Zm (part_FaultFaultLoom_0).1 q1
 refine EL_p (fPtr (fPtr p1 0) 2) (Zc at_37_1 rfl (PT.ptr q3)) rfl ?_
 have q4:=Zm (part_FaultLoom_1).1 q3
 refine EL_p (fPtr (fPtr (fPtr p1 0) 2) 1) (Zc at_35_1 rfl (PT.ptr q4)) rfl ?_
 have q5:=Zm (part_Design_1).1 q4
 refine Ze .plain rfl (D_load (g:=g1) Tryz.isAgg26 Tryz.sizeOf26 rfl q5 fun v6 r6=>?_)
 obtain ⟨y8,nE,h⟩:=bsome h
 refine Ze .plain rfl (D_callG (g:=g1) (vs:=[v6]) en69 (.cons rfl .nil) (v69_0 (iO:=9018) r6 nE) fun g7 w7_ v7 hs hr=>?_)
 have hfr:=hfr.ext hs
 have rp1:=rp1.ext hs
 have q1:=q1.ext hs
 have hm7:=hr
 refine Ze .plain rfl (D_makeMap (g:=g7) (Value.int .i64) Bool 8019 fun g9 w9 v9 hs m9=>?_)
 have hfr:=hfr.stp hs
 have rp1:=rp1.stp hs
 have q1:=q1.stp hs
 have hm7:=hm7.stp hs rfl
 refine Zg v7 rfl rfl ?_
 refine Zg v9 rfl rfl ?_
 refine Zb (Zd (Zf (Za (Zn up1 rfl rfl ?_))))
 obtain ⟨y11,vD,h⟩:=bsome h
 refine Ze .plain rfl (D_callG (g:=g9) (vs:=[up1]) en70 (.cons rfl .nil) (v70_0 (iO:=9021) rp1 vD) fun oE xF j6 hs hr=>?_)
 have hfr:=hfr.ext hs
 have q1:=q1.ext hs
 have hm7:=hm7.ext hs
 have m9:=m9.ext hs
 have hm10:=hr
 refine Zg j6 rfl rfl ?_
 refine Zb (Zd (Zf (Za (Zn j6 rfl rfl ?_))))
 obtain ⟨d7,xD,h⟩:=bsome h
 refine Ze .plain rfl (D_callM (g:=oE) (i:=9021) (vs:=[j6,.func (.func 72) #[] #[]]) en71 (.cons rfl (.cons rfl .nil)) (wk71 hm10 ⟨72,#[],#[],rfl,en72,fun g' w' hch a0 a1 b0 b1 r hu0 hu1 hr=>by exact Fn.mono (wk72 hu0 hu1  hr) fun _ _ _ h=>Zj.2 h⟩ xD) fun rE yF sG hs hr=>?_)
 obtain ⟨hrv,b12⟩:=hr
 have hfr:=hfr.stp hs
 have q1:=q1.stp hs
 have hm7:=hm7.stp hs rfl
 have m9:=m9.stp hs rfl
 subst hrv
 refine Zb (Zd (Zf (Za (Ze .plain rfl (D_callG (g:=rE) (vs:=[]) en74 .nil (wk74 (i:=8800)) fun sE tG n9 hs m14=>?_)))))
 have hfr:=hfr.ext hs
 have b12:=b12.ext hs
 have q1:=q1.ext hs
 have hm7:=hm7.ext hs
 have m9:=m9.ext hs
 refine Zg n9 rfl rfl ?_
 refine Zb (Zd ?_)
 obtain ⟨⟨c8,t5⟩,hx,h⟩:=bsome h
 refine E_join (fun e w=>∃ (g:Gh) ,Fr gI wI g w∧e 2=p1∧PT g.m w (x0:FaultFaultLoom) p1∧e 5=v7∧OM 9018 g w 3 (c8:List Int) v7∧e 6=v9∧MP (Value.int .i64) 8019 g w (t5:List (Int × Bool)) v9) (fun Q' hQ=>?_) (fun zF uG hR=>?_)
 ·replace h := hx
  clear hx
  refine Zf (Za (Zn j6 rfl rfl ?_))
  refine EL_p (.int .i64 ((d7).length:Int)) (P_lenM Tryz.underlying47 rfl b12) rfl ?_
  refine Zn (.int .i64 (0)) rfl rfl ?_
  refine Zb (Zd (Zr ?_))
  refine E_lp h (fun (s:(List Int) × (List (Int × Bool)) × Int) e w=>∃ (g:Gh) ,Fr gI wI g w∧e 1=j6∧OM 9021 g w 45 (d7:List FaultDamage) j6∧e 2=p1∧PT g.m w (x0:FaultFaultLoom) p1∧e 5=v7∧OM 9018 g w 3 (s.1:List Int) v7∧e 6=v9∧MP (Value.int .i64) 8019 g w (s.2.1:List (Int × Bool)) v9∧e 7=n9∧MP (Value.int .i64) 8800 g w chgM n9∧e 25=j6∧e 26=.int .i64 (((d7).length:Int))∧e 27=.int .i64 (s.2.2)) ⟨sE,hfr,rfl,b12,rfl,q1,rfl,hm7,rfl,m9,rfl,m14,rfl,rfl,rfl⟩ (fun X41 kD yD=>?_)
  rintro ⟨x8,a9,j1⟩ aG vG ⟨kB,hfr,lC,z2,d9,d3,e9,y6,i9,a7,nA,i3,o9,t9,k8⟩ h
  refine Zf (Za (EL_in (.bool ((decide (j1 < ((d7).length:Int))))) k8 t9 rfl rfl ?_))
  refine Zb (Zd (Zf ?_))
  rcases Zt h with ⟨kA,h⟩ | ⟨kA,h⟩
  ·refine E_ct kA rfl ?_
   refine Zu (Zd ?_)
   obtain ⟨⟨o7,u7⟩,hx,h⟩:=bsome h
   refine E_join (fun e w=>∃ (g:Gh) ,Fr gI wI g w∧e 1=j6∧OM 9021 g w 45 (d7:List FaultDamage) j6∧e 2=p1∧PT g.m w (x0:FaultFaultLoom) p1∧e 5=v7∧OM 9018 g w 3 (o7:List Int) v7∧e 6=v9∧MP (Value.int .i64) 8019 g w (u7:List (Int × Bool)) v9∧e 7=n9∧MP (Value.int .i64) 8800 g w chgM n9∧e 25=j6∧e 26=.int .i64 (((d7).length:Int))∧e 27=.int .i64 (j1)) (fun Q' hQ=>?_) (fun bG xG hR=>?_)
   ·replace h := hx
    clear hx
    refine Zr ?_
    refine Zf (Za ?_)
    obtain ⟨y55,lB,h⟩:=bsome h
    refine EL_p (ePtr j6 j1 5) (P_indexAddrM (α:=FaultDamage) Tryz.underlying47 Tryz.sizeOf45 o9 z2 k8 lB) rfl ?_
    refine Ze .plain rfl (D_loadM (g:=kB) Tryz.isAgg45 Tryz.sizeOf45 rfl z2 lB fun tE mB=>?_)
    refine Ze .plain rfl (D_allocOc (g:=kB) 2009 (⟨0,0,0,0,false⟩:FaultDamage) Tryz.zeroValue45 (fun m w=>⟨_,(rep_two rep_int (rep_two rep_int (rep_two rep_int (rep_two rep_int rep_bool)))),rfl⟩) fun uE yG vE hs b57 cb=>?_)
    have hfr:=hfr.stp hs
    have z2:=z2.stp hs rfl
    have d3:=d3.stp hs
    have y6:=y6.stp hs rfl
    have a7:=a7.stp hs rfl
    have i3:=i3.stp hs rfl
    have mB:=mB.stp hs
    clear cb
    refine Ze .plain rfl (D_storeOc (g:=uE) (v:=tE) Tryz.sizeOf45 rfl b57 rfl mB fun u9 zG hs b58 cb=>?_)
    clear cb
    have hfr:=hfr.stp hs
    have z2:=z2.stp hs rfl
    have d3:=d3.stp hs
    have y6:=y6.stp hs rfl
    have a7:=a7.stp hs rfl
    have i3:=i3.stp hs rfl
    refine Zb (Zd (Za (Zo nA rfl ?_)))
    refine EL_p (fPtr vE 0) (Zc at_45_0 rfl (OB.ptr b58)) rfl ?_
    refine Ze .plain rfl (D_loadF (g:=u9) part_FaultDamage_0.1 Tryz.isAgg43 Tryz.sizeOf43 rfl b58 fun aH xE=>?_)
    obtain rfl:=Zj.1 xE
    refine Ze .plain rfl (D_lookup (g:=u9) (z0:=fv0) Tryz.underlying140 key_43 Tryz.zeroValue143 (fun _ _=>RV_fv.2 rfl) rfl i3 rfl fun bH yE=>?_)
    have zD:=RV_fv.1 yE
    refine Ze .plain rfl (D_load (g:=u9) Tryz.isAgg73 Tryz.sizeOf73 d9 d3 fun v62 zE=>?_)
    refine Ze .plain rfl (D_loadO (g:=u9) Tryz.isAgg45 Tryz.sizeOf45 rfl b58 fun cH cF=>?_)
    refine Zo e9 rfl ?_
    refine Zo i9 rfl ?_
    obtain ⟨eB,aE,h⟩:=bsome h
    refine Ze .plain rfl (D_chg (g:=u9) (i:=9018) (j:=8019) aE (show _=_ from zD) rfl rfl rfl rfl zE cF y6 a7 rfl rfl fun dH gH bE cG iH hs hs2 mr65 mb65=>?_)
    have hfr:=hfr.stp hs
    have z2:=z2.stp hs rfl
    have d3:=d3.stp hs
    have i3:=i3.stp hs rfl
    have hfr:=hfr.stp hs2
    have z2:=z2.stp hs2 rfl
    have d3:=d3.stp hs2
    have i3:=i3.stp hs2 rfl
    refine Zb (blk_n ?_)
    obtain ⟨rfl,rfl⟩:=pairs2 h
    exact hQ _ _ ⟨bE,hfr,lC,z2,d9,d3,e9,mr65,i9,mb65,nA,i3,o9,t9,k8⟩
   ·clear hx
    obtain ⟨dF,hfr,mC,qC,rC,tC,uC,vC,xC,yC,aD,bD,nB,oB,tB⟩:=hR
    refine Za (EL_in (.int .i64 ((w64 (j1 + (1:Int))))) tB rfl rfl rfl ?_)
    refine Zn (.int .i64 ((w64 (j1 + (1:Int))))) rfl rfl ?_
    exact Zb (Zd (yD (o7,u7,(w64 (j1 + (1:Int)))) _ _ ⟨dF,hfr,mC,qC,rC,tC,uC,vC,xC,yC,aD,bD,nB,oB,rfl⟩ h))
  ·refine E_cf kA rfl ?_
   refine E_exit ?_
   refine thn_e ?_
   refine thn_e ?_
   refine blk_hit ?_
   obtain ⟨rfl,rfl⟩:=pairs2 h
   exact hQ _ _ ⟨kB,hfr,d9,d3,e9,y6,i9,a7⟩
 ·clear hx
  obtain ⟨lD,hfr,oA,e8,cD,eD,gD,i7⟩:=hR
  refine Zf (Za (EL_p (fPtr p1 0) (Zc at_73_0 oA (PT.ptr e8)) rfl ?_))
  have mD:=Zm (part_FaultFaultLoom_0).1 e8
  refine EL_p (fPtr (fPtr p1 0) 0) (Zc at_37_0 rfl (PT.ptr mD)) rfl ?_
  have eF:=Zm (part_FaultLoom_0).1 mD
  refine Ze .plain rfl (D_load (g:=lD) Tryz.isAgg33 Tryz.sizeOf33 rfl eF fun iF vB=>?_)
  refine EL_p (fPtr p1 0) (Zc at_73_0 oA (PT.ptr e8)) rfl ?_
  have nD:=Zm (part_FaultFaultLoom_0).1 e8
  refine EL_p (fPtr (fPtr p1 0) 2) (Zc at_37_1 rfl (PT.ptr nD)) rfl ?_
  have oD:=Zm (part_FaultLoom_1).1 nD
  refine EL_p (fPtr (fPtr (fPtr p1 0) 2) 0) (Zc at_35_0 rfl (PT.ptr oD)) rfl ?_
  have nF:=Zm (part_Design_0).1 oD
  refine Ze .plain rfl (D_load (g:=lD) Tryz.isAgg3 Tryz.sizeOf3 rfl nF fun jH oF=>?_)
  obtain rfl:=Zj.1 oF
  refine Zo cD rfl ?_
  obtain ⟨gp77,hs,rp77⟩:=OM.pub eD
  have hfr:=hfr.stp hs
  have i7:=i7.stp hs rfl
  have vB:=vB.stp hs
  have sD:RV gp77.m _ (⟨(((x0).FaultLoom).Design).Hooks,c8⟩:Design) (.agg (setCh [[.int .i64 0],[.slice none 0 0]] [(0,.int .i64 ((((x0).FaultLoom).Design).Hooks)),(1,v7)]).flatten.toArray):=RV_build rfl (rep_pair (rfl) (rep_last (RV.cells rp77)))
  generalize cE:(Value.agg (setCh [[.int .i64 0],[.slice none 0 0]] [(0,.int .i64 ((((x0).FaultLoom).Design).Hooks)),(1,v7)]).flatten.toArray)=tD at sD
  refine EL_p tD (cE ▸ P_build (vs:=[(0,.int .i64 ((((x0).FaultLoom).Design).Hooks)),(1,v7)]) [[.int .i64 0],[.slice none 0 0]] lay_35 rfl rfl (.cons rfl (.cons rfl .nil)) ⟨⟨_,rfl,rfl⟩,⟨⟨_,rfl,cells_size rp77⟩,trivial⟩⟩) rfl ?_
  obtain ⟨x5,dE,h⟩:=bsome h
  refine Ze .plain rfl (D_callG (g:=gp77) (vs:=[iF,tD]) en75 (.cons rfl (.cons rfl .nil)) (v75_0 (iO:=9051) vB sD dE) fun pF dG kH hs hr=>?_)
  have hfr:=hfr.ext hs
  have i7:=i7.ext hs
  obtain ⟨u0,qF,rfl,hm78,rfl⟩:=hr
  refine Zn (.tuple #[u0,.int .i64 (x5.2)]) rfl rfl ?_
  refine EL_p u0 (Zi rfl rfl) rfl ?_
  refine EL_p (.int .i64 (x5.2)) (Zi rfl rfl) rfl ?_
  refine Zg u0 rfl rfl ?_
  refine Zb (Zd ?_)
  obtain ⟨i8,hx,h⟩:=bsome h
  refine E_join (fun e w=>∃ (g:Gh) ,Fr gI wI g w∧e 4=u0∧OM 9051 g w 9 (i8:List Str) u0) (fun Q' hQ=>?_) (fun rF eG hR=>?_)
  ·replace h := hx
   clear hx
   refine Zf (Za (Zn u0 rfl rfl ?_))
   refine EL_p (.int .i64 ((x5.1).length:Int)) (P_lenM Tryz.underlying75 rfl hm78) rfl ?_
   refine Zn (.int .i64 (0)) rfl rfl ?_
   refine Zb (Zd (Zr ?_))
   refine E_lp h (fun (s:(List Str) × Int) e w=>∃ (g:Gh) ,Fr gI wI g w∧e 4=u0∧OM 9051 g w 9 (s.1:List Str) u0∧e 6=v9∧MP (Value.int .i64) 8019 g w (t5:List (Int × Bool)) v9∧e 54=u0∧e 55=.int .i64 (((x5.1).length:Int))∧e 56=.int .i64 (s.2)) ⟨pF,hfr,rfl,hm78,gD,i7,rfl,rfl,rfl⟩ (fun X124 iB iD=>?_)
   rintro ⟨o3,o0⟩ sF gG ⟨lA,hfr,y9,j3,z9,z3,m8,n8,b7⟩ h
   refine Zf (Za (EL_in (.bool ((decide (o0 < ((x5.1).length:Int))))) b7 n8 rfl rfl ?_))
   refine Zb (Zd (Zf ?_))
   rcases Zt h with ⟨k9,h⟩ | ⟨k9,h⟩
   ·refine E_ct k9 rfl ?_
    refine Zu (Zd ?_)
    obtain ⟨e7,hx,h⟩:=bsome h
    refine E_join (fun e w=>∃ (g:Gh) ,Fr gI wI g w∧e 4=u0∧OM 9051 g w 9 (e7:List Str) u0∧e 6=v9∧MP (Value.int .i64) 8019 g w (t5:List (Int × Bool)) v9∧e 54=u0∧e 55=.int .i64 (((x5.1).length:Int))∧e 56=.int .i64 (o0)) (fun Q' hQ=>?_) (fun tF hG hR=>?_)
    ·replace h := hx
     clear hx
     refine Zr ?_
     refine Zf (Za (Zo b7 rfl ?_))
     obtain ⟨g8,pA,h⟩:=bsome h
     refine EL_p (ePtr u0 o0 1) (P_indexAddrM (α:=Str) Tryz.underlying75 Tryz.sizeOf9 m8 j3 b7 pA) rfl ?_
     refine Ze .plain rfl (D_loadM (g:=lA) Tryz.isAgg9 Tryz.sizeOf9 rfl j3 pA fun iG eE=>?_)
     obtain rfl:=RV_str.1 eE
     refine Zg (.int .i64 (o0)) rfl rfl ?_
     refine Zg (Str.v (g8)) rfl rfl ?_
     refine Zb (Zd (Zf (Za (Zn (Str.v (g8)) rfl rfl ?_))))
     refine Ze .plain rfl (D_convSB (g:=lA) (s:=g8) 9062 Tryz.underlying9 Tryz.underlying145 Tryz.underlying5 rfl fun gE jG m7 hs m149=>?_)
     have hfr:=hfr.stp hs
     have j3:=j3.stp hs rfl
     have z3:=z3.stp hs rfl
     refine Zg m7 rfl rfl ?_
     refine Zb (Zd ?_)
     obtain ⟨x6,hx,h⟩:=bsome h
     refine E_join (fun e w=>∃ (g:Gh) ,Fr gI wI g w∧e 4=u0∧OM 9051 g w 9 (o3:List Str) u0∧e 6=v9∧MP (Value.int .i64) 8019 g w (t5:List (Int × Bool)) v9∧e 10=.int .i64 (o0)∧e 12=m7∧OM 9062 g w 5 (x6:List UInt8) m7∧e 54=u0∧e 55=.int .i64 (((x5.1).length:Int))∧e 56=.int .i64 (o0)) (fun Q' hQ=>?_) (fun uF kG hR=>?_)
     ·replace h := hx
      clear hx
      refine Zf (Za (Zo z9 rfl ?_))
      refine Ze .plain rfl (D_rangeM (g:=gE) 7564 Tryz.underlying135 rfl z3 fun iE lG xB hs b157=>?_)
      have hfr:=hfr.stp hs
      have j3:=j3.stp hs rfl
      have z3:=z3.stp hs rfl
      have m149:=m149.stp hs rfl
      refine Zb (Zd (Zr ?_))
      refine E_lp h (fun (s:(List UInt8) × (List (Int × Bool))) e w=>∃ (g:Gh) ,Fr gI wI g w∧e 4=u0∧OM 9051 g w 9 (o3:List Str) u0∧e 6=v9∧MP (Value.int .i64) 8019 g w (t5:List (Int × Bool)) v9∧e 10=.int .i64 (o0)∧e 12=m7∧OM 9062 g w 5 (s.1:List UInt8) m7∧e 54=u0∧e 55=.int .i64 (((x5.1).length:Int))∧e 56=.int .i64 (o0)∧e 64=xB∧MI (Value.int .i64) 7564 8019 g w (s.2:List (Int × Bool)) none xB) ⟨iE,hfr,y9,j3,z9,z3,rfl,rfl,m149,m8,n8,b7,rfl,b157.dropc⟩ (fun X158 jB jD=>?_)
      rintro ⟨u3,j7⟩ vF mG ⟨mA,hfr,bA,z4,gA,i5,o8,n7,l5,q8,r8,t8,c7,v8⟩ h
      refine Zf (Za ?_)
      rcases Zt h with ⟨l9,h⟩ | ⟨l9,h⟩
      ·refine Ze .plain rfl (D_nextM_f (g := mA) c7 v8 l9 ?_)
       refine EL_p (.bool false) (Zi rfl rfl) rfl ?_
       refine Zb (Zd (Zf (E_cond_false (by rw [show ev _ _=_ from rfl]; exact congrArg Value.bool rfl) ?_)))
       refine E_exit ?_
       refine thn_e ?_
       refine thn_e ?_
       refine blk_hit ?_
       obtain rfl:=sinj h
       exact hQ _ _ ⟨mA,hfr,bA,z4,gA,i5,o8,n7,l5,q8,r8,t8⟩
      ·refine Ze .plain rfl (D_nextM_t (g := mA) c7 v8 rfl l9 fun i6 rm160 u160 yB nG hmem hs b160 ru160 => ?_)
       replace h:=pickAll_h h _ hmem
       clear hmem
       obtain rfl:=RV_bool.1 ru160
       have hfr:=hfr.stp hs
       have z4:=z4.stp hs rfl
       have i5:=i5.stp hs rfl
       have l5:=l5.stp hs rfl
       refine EL_p (.bool true) (Zi rfl rfl) rfl ?_
       refine Zb (Zd (Zf (E_cond_true (by rw [show ev _ _=_ from rfl]; exact congrArg Value.bool rfl) ?_)))
       refine Zu (Zd (Zr ?_))
       refine Zf (Za (Ze .plain rfl (D_entry (g:=yB) c7 b160 fun oG jE=>?_)))
       obtain rfl:=RV_bool.1 jE
       refine EL_p (.int .i64 (i6.1)) (Zi rfl rfl) rfl ?_
       refine Zg (.int .i64 (i6.1)) rfl rfl ?_
       refine Zb (Zd (Za (Zo n7 rfl ?_)))
       refine Zn (.int .i64 (i6.1)) rfl rfl ?_
       obtain ⟨uD,qA,h⟩:=bsome h
       refine EL_p (ePtr m7 i6.1 1) (P_indexAddrM (α:=UInt8) Tryz.underlying145 Tryz.sizeOf5 rfl l5 rfl qA) rfl ?_
       refine Ze .plain rfl (D_storeM (g:=yB) (α:=UInt8) (a':=((46:UInt8))) Tryz.sizeOf5 rfl l5 qA rfl (RV_u8.2 rfl) fun kE pG hs b163=>?_)
       have hfr:=hfr.stp hs
       have z4:=z4.stp hs rfl
       have i5:=i5.stp hs rfl
       have b160:=b160.stp hs rfl
       exact Zb (blk_n (Zd (jD ((List.set u3 (Int.toNat i6.1) ((46:UInt8))),rm160) _ _ ⟨kE,hfr,bA,z4,gA,i5,o8,n7,b163,q8,r8,t8,c7,b160.dropc⟩ h)))
     ·clear hx
      obtain ⟨zB,hfr,iA,jA,aC,l8,sA,uA,xA,yA,zA,aB⟩:=hR
      refine Za (Zo iA rfl ?_)
      refine Zo sA rfl ?_
      refine Zo uA rfl ?_
      refine Ze .plain rfl (D_convBS (g:=zB) Tryz.underlying145 Tryz.underlying9 Tryz.underlying5 rfl xA ?_)
      obtain ⟨y165,rA,h⟩:=bsome h
      refine EL_p (ePtr u0 o0 1) (P_indexAddrM (α:=Str) Tryz.underlying75 Tryz.sizeOf9 rfl jA rfl rA) rfl ?_
      refine Ze .plain rfl (D_storeM (g:=zB) (α:=Str) (a':=((⟨x6⟩:Str))) Tryz.sizeOf9 rfl jA rA rfl (RV_str.2 rfl) fun lE qG hs b166=>?_)
      have hfr:=hfr.stp hs
      have l8:=l8.stp hs rfl
      refine Zb (blk_n ?_)
      obtain rfl:=sinj h
      exact hQ _ _ ⟨lE,hfr,iA,b166,aC,l8,yA,zA,aB⟩
    ·clear hx
     obtain ⟨mE,hfr,cC,dC,eC,iC,bB,cB,dB⟩:=hR
     refine Za (EL_in (.int .i64 ((w64 (o0 + (1:Int))))) dB rfl rfl rfl ?_)
     refine Zn (.int .i64 ((w64 (o0 + (1:Int))))) rfl rfl ?_
     exact Zb (Zd (iD (e7,(w64 (o0 + (1:Int)))) _ _ ⟨mE,hfr,cC,dC,eC,iC,bB,cB,rfl⟩ h))
   ·refine E_cf k9 rfl ?_
    refine E_exit ?_
    refine thn_e ?_
    refine thn_e ?_
    refine blk_hit ?_
    obtain rfl:=sinj h
    exact hQ _ _ ⟨lA,hfr,y9,j3⟩
  ·clear hx
   obtain ⟨rG,hfr,jC,kC⟩:=hR
   refine Zf (Za (Zo jC rfl ?_))
   refine Zg u0 rfl rfl ?_
   refine Zb (Zd (E_ret ?_))
   obtain ⟨gp169,hs,rp169⟩:=OM.pub kC
   have hfr:=hfr.stp hs
   obtain rfl:=sinj h
   exact end1 rfl rfl (show _=u0 from rfl) ⟨_,hfr,rp169⟩
def f13 :Option (Bool):=
 (f10 ((⟨([(10:Int),(20:Int)]:List Int),(2:Int)⟩:LoomMill))).bind fun y11=>
 (f11 (([(⟨(5:Int),(1:Int),(10:Int),0,(20:Int)⟩:LoomOrder),(⟨(15:Int),(2:Int),(12:Int),0,(20:Int)⟩:LoomOrder),(⟨(5:Int),(1:Int),(8:Int),0,(20:Int)⟩:LoomOrder)]:List LoomOrder))).bind fun g7=>
 (f9 y11 g7).bind fun u0=>
 (idx (([(⟨(5:Int),(1:Int),(10:Int),0,(20:Int)⟩:LoomOrder),(⟨(15:Int),(2:Int),(12:Int),0,(20:Int)⟩:LoomOrder),(⟨(5:Int),(1:Int),(8:Int),0,(20:Int)⟩:LoomOrder)]:List LoomOrder)) (2:Int)).bind fun x6=>
 (idx ((List.set (([(⟨(5:Int),(1:Int),(10:Int),0,(20:Int)⟩:LoomOrder),(⟨(15:Int),(2:Int),(12:Int),0,(20:Int)⟩:LoomOrder),(⟨(5:Int),(1:Int),(8:Int),0,(20:Int)⟩:LoomOrder)]:List LoomOrder)) (Int.toNat ((2:Int))) ({ x6 with Chain:=(3:Int) }))) (2:Int)).bind fun i7=>
 (f10 ((⟨([(10:Int),(20:Int)]:List Int),(2:Int)⟩:LoomMill))).bind fun j7=>
 (f11 ((List.set ((List.set (([(⟨(5:Int),(1:Int),(10:Int),0,(20:Int)⟩:LoomOrder),(⟨(15:Int),(2:Int),(12:Int),0,(20:Int)⟩:LoomOrder),(⟨(5:Int),(1:Int),(8:Int),0,(20:Int)⟩:LoomOrder)]:List LoomOrder)) (Int.toNat ((2:Int))) ({ x6 with Chain:=(3:Int) }))) (Int.toNat ((2:Int))) ({ i7 with Woven:=(9:Int) })))).bind fun m7=>
 (f32 j7 m7).bind fun i3=>
 Option.bind (α:=Bool) (
  bif (u0.2 == (0 : Int)) then
   bif (i3.2 == (0 : Int)) then
    bif (((u0.1).length : Int) == (3 : Int)) then
     (idx (u0.1) (2:Int)).bind fun z4=>
     bif (decide (z4 = (⟨(2 : Int), 0, (10 : Int)⟩ : LoomRun))) then
      (f33 (i3.1) (([(0:Int),(1:Int),(2:Int)]:List Int))).bind fun j6=>
      some (j6)
     else
      some (false)
    else
     some (false)
   else
    some (false)
  else
   some (false)
  ) fun z3=>
 some (z3)
theorem en13:Enters Tryz.prog 13:=enters_of Tryz.func13 (by kernel_rfl) rfl
theorem wk13 {gI:Gh} {wI:World}   {r:Bool} (h:f13 =some r):Fn Tryz.prog 13 #[] gI wI (fun _ _ v=>v=.bool (r)):=by
 unfold f13 at h
 refine fn_of_E Tryz.func13 rfl (Nat.le_of_ble_eq_true rfl) fun g0 hm hfr=>?_
 show E _ 58 none _ _ _ _ _
 refine Zf (Za (Zg (.bool false) rfl rfl ?_))
 refine Zb (Zd (Zf (Za (Ze .plain rfl (D_buildSlice (g:=g0) 3007 (xs:=([(10:Int),(20:Int)]:List Int)) (vs:=[.int .i64 (10),.int .i64 (20)]) Tryz.underlying26 Tryz.sizeOf3 Tryz.zeroValue3 rfl rfl (.cons rfl (.cons rfl .nil)) (RVs.cons (Zj.2 rfl) (RVs.cons (Zj.2 rfl) RVs.nil)) rfl rfl fun g1 w1 v1 hs o1 r1 hxt hfl=>?_)))))
 have hfr:=hfr.stp hs
 have r2:RV g1.m _ (⟨([(10:Int),(20:Int)]:List Int),(2:Int)⟩:LoomMill) (.agg (setCh [[.slice none 0 0],[.int .i64 0]] [(0,v1),(1,.int .i64 (2))]).flatten.toArray):=RV_build rfl (rep_pair (RV.cells r1) (rep_last (rfl)))
 generalize hv2:(Value.agg (setCh [[.slice none 0 0],[.int .i64 0]] [(0,v1),(1,.int .i64 (2))]).flatten.toArray)=v2 at r2
 refine EL_p v2 (hv2 ▸ P_build (vs:=[(0,v1),(1,.int .i64 (2))]) [[.slice none 0 0],[.int .i64 0]] lay_28 rfl rfl (.cons rfl (.cons rfl .nil)) ⟨⟨_,rfl,cells_size r1⟩,⟨⟨_,rfl,rfl⟩,trivial⟩⟩) rfl ?_
 refine Ze .plain rfl (D_allocOc (g:=g1) 2001 (⟨[],0⟩:LoomMill) Tryz.zeroValue28 (fun m w=>⟨_,(rep_two rep_nil rep_int),rfl⟩) fun g3 w3 p3 hs b3 cb=>?_)
 have hfr:=hfr.stp hs
 have r2:=r2.stp hs
 have nA:OSF 2001 60100 0 g3 w3 3 28 ([]:List Int) p3:=cb.osf (by rfl)
 clear cb
 refine Ze .plain rfl (D_storeOc (g:=g3) (v:=v2) Tryz.sizeOf28 rfl b3 rfl r2 fun g4 w4 hs b4 cb=>?_)
 clear cb
 have hfr:=hfr.stp hs
 refine Zb (Zd (Zf (Za ?_)))
 have r5:RV g4.m w4 (⟨(5:Int),(1:Int),(10:Int),0,(20:Int)⟩:LoomOrder) (.agg (setCh [[.int .i64 0],[.int .i64 0],[.int .i64 0],[.int .i64 0],[.int .i64 0]] [(0,.int .i64 (5)),(1,.int .i64 (1)),(2,.int .i64 (10)),(4,.int .i64 (20))]).flatten.toArray):=RV_build rfl (rep_pair (rfl) (rep_pair (rfl) (rep_pair (rfl) (rep_pair (rep_int) (rep_last (rfl))))))
 generalize t8:(Value.agg (setCh [[.int .i64 0],[.int .i64 0],[.int .i64 0],[.int .i64 0],[.int .i64 0]] [(0,.int .i64 (5)),(1,.int .i64 (1)),(2,.int .i64 (10)),(4,.int .i64 (20))]).flatten.toArray)=v5 at r5
 refine EL_p v5 (t8 ▸ P_build (vs:=[(0,.int .i64 (5)),(1,.int .i64 (1)),(2,.int .i64 (10)),(4,.int .i64 (20))]) [[.int .i64 0],[.int .i64 0],[.int .i64 0],[.int .i64 0],[.int .i64 0]] lay_67 rfl rfl (.cons rfl (.cons rfl (.cons rfl (.cons rfl .nil)))) ⟨⟨_,rfl,rfl⟩,⟨⟨_,rfl,rfl⟩,⟨⟨_,rfl,rfl⟩,⟨⟨_,rfl,rfl⟩,trivial⟩⟩⟩⟩) rfl ?_
 have r6:RV g4.m w4 (⟨(15:Int),(2:Int),(12:Int),0,(20:Int)⟩:LoomOrder) (.agg (setCh [[.int .i64 0],[.int .i64 0],[.int .i64 0],[.int .i64 0],[.int .i64 0]] [(0,.int .i64 (15)),(1,.int .i64 (2)),(2,.int .i64 (12)),(4,.int .i64 (20))]).flatten.toArray):=RV_build rfl (rep_pair (rfl) (rep_pair (rfl) (rep_pair (rfl) (rep_pair (rep_int) (rep_last (rfl))))))
 generalize x8:(Value.agg (setCh [[.int .i64 0],[.int .i64 0],[.int .i64 0],[.int .i64 0],[.int .i64 0]] [(0,.int .i64 (15)),(1,.int .i64 (2)),(2,.int .i64 (12)),(4,.int .i64 (20))]).flatten.toArray)=v6 at r6
 refine EL_p v6 (x8 ▸ P_build (vs:=[(0,.int .i64 (15)),(1,.int .i64 (2)),(2,.int .i64 (12)),(4,.int .i64 (20))]) [[.int .i64 0],[.int .i64 0],[.int .i64 0],[.int .i64 0],[.int .i64 0]] lay_67 rfl rfl (.cons rfl (.cons rfl (.cons rfl (.cons rfl .nil)))) ⟨⟨_,rfl,rfl⟩,⟨⟨_,rfl,rfl⟩,⟨⟨_,rfl,rfl⟩,⟨⟨_,rfl,rfl⟩,trivial⟩⟩⟩⟩) rfl ?_
 have r7:RV g4.m w4 (⟨(5:Int),(1:Int),(8:Int),0,(20:Int)⟩:LoomOrder) (.agg (setCh [[.int .i64 0],[.int .i64 0],[.int .i64 0],[.int .i64 0],[.int .i64 0]] [(0,.int .i64 (5)),(1,.int .i64 (1)),(2,.int .i64 (8)),(4,.int .i64 (20))]).flatten.toArray):=RV_build rfl (rep_pair (rfl) (rep_pair (rfl) (rep_pair (rfl) (rep_pair (rep_int) (rep_last (rfl))))))
 generalize y8:(Value.agg (setCh [[.int .i64 0],[.int .i64 0],[.int .i64 0],[.int .i64 0],[.int .i64 0]] [(0,.int .i64 (5)),(1,.int .i64 (1)),(2,.int .i64 (8)),(4,.int .i64 (20))]).flatten.toArray)=v7 at r7
 refine EL_p v7 (y8 ▸ P_build (vs:=[(0,.int .i64 (5)),(1,.int .i64 (1)),(2,.int .i64 (8)),(4,.int .i64 (20))]) [[.int .i64 0],[.int .i64 0],[.int .i64 0],[.int .i64 0],[.int .i64 0]] lay_67 rfl rfl (.cons rfl (.cons rfl (.cons rfl (.cons rfl .nil)))) ⟨⟨_,rfl,rfl⟩,⟨⟨_,rfl,rfl⟩,⟨⟨_,rfl,rfl⟩,⟨⟨_,rfl,rfl⟩,trivial⟩⟩⟩⟩) rfl ?_
 refine Ze .plain rfl (D_buildSliceA (g:=g4) 4002 (xs:=([(⟨(5:Int),(1:Int),(10:Int),0,(20:Int)⟩:LoomOrder),(⟨(15:Int),(2:Int),(12:Int),0,(20:Int)⟩:LoomOrder),(⟨(5:Int),(1:Int),(8:Int),0,(20:Int)⟩:LoomOrder)]:List LoomOrder)) (vs:=[v5,v6,v7]) Tryz.underlying29 Tryz.sizeOf67 Tryz.zeroValue67 rfl rfl (.cons rfl (.cons rfl (.cons rfl .nil))) (RVs.cons r5 (RVs.cons r6 (RVs.cons r7 RVs.nil))) rfl rfl fun g8 w8 v8 hs b8 _=>?_)
 have hfr:=hfr.stp hs
 have b4:=b4.stp hs rfl
 refine Zg v8 rfl rfl ?_
 refine Zb (Zd (Zf (Za (Ze .plain rfl (D_loadO (g:=g8) Tryz.isAgg28 Tryz.sizeOf28 rfl b4 fun v9 r9=>?_)))))
 obtain ⟨y11,u7,h⟩:=bsome h
 refine Ze .plain rfl (Zp (g:=g8) (vs:=[v9]) en10 (.cons rfl .nil) (wk10 r9 u7) fun y6 a7 a9 hs hr=>?_)
 have hfr:=hfr.ext hs
 have b4:=b4.ext hs
 have b8:=b8.ext hs
 have q5:=hr
 refine Zn v8 rfl rfl ?_
 obtain ⟨g7,c8,h⟩:=bsome h
 refine Ze .plain rfl (D_callGF (g:=y6) (vs:=[v8]) en11 (.cons rfl .nil) (v11_0 (iO:=9017) (OM.lent (b8.toM)) c8) fun gl12 e8 d9 hxl hr=>?_)
 have hm12:=OM.unlend plain_LoomOrder hxl hr
 obtain ⟨e9,hge12⟩:∃ g,g={ m:=fun b=>if b < a7.heap.size then y6.m b else gl12.m b,o:=gl12.o:Gh }:=⟨_,rfl⟩
 rw [← hge12] at hm12
 have hs:Ext y6 a7 e9 e8:=hge12 ▸ unlend hxl
 clear hxl hr hge12
 have hfr:=hfr.ext hs
 have b4:=b4.ext hs
 have b8:=b8.ext hs
 have q5:=q5.ext hs
 obtain ⟨gp14,hs,rp14⟩:=OM.pub hm12
 have hfr:=hfr.stp hs
 have b4:=b4.stp hs rfl
 have b8:=b8.stp hs rfl
 have q5:=q5.stp hs
 obtain ⟨u0,i8,h⟩:=bsome h
 refine Ze .plain rfl (Zp (g:=gp14) (vs:=[a9,d9]) en9 (.cons rfl (.cons rfl .nil)) (wk9 q5 rp14 i8) fun i9 oA rA hs hr=>?_)
 have hfr:=hfr.ext hs
 have b4:=b4.ext hs
 have b8:=b8.ext hs
 obtain ⟨j3,lA,rfl,o0,rfl⟩:=hr
 refine Zn (.tuple #[j3,.int .i64 (u0.2)]) rfl rfl ?_
 refine EL_p j3 (Zi rfl rfl) rfl ?_
 refine EL_p (.int .i64 (u0.2)) (Zi rfl rfl) rfl ?_
 refine Zg j3 rfl rfl ?_
 refine Zg (.int .i64 (u0.2)) rfl rfl ?_
 refine Zb (Zd (Zf (Za (Zn v8 rfl rfl ?_))))
 refine Zn v8 rfl rfl ?_
 obtain ⟨x6,x5,h⟩:=bsome h
 refine EL_p (ePtr v8 (2:Int) 5) (P_indexAddrM (α:=LoomOrder) Tryz.underlying29 Tryz.sizeOf67 rfl (b8.toM) rfl x5) rfl ?_
 obtain ⟨pb19,po19,pe19⟩:=OM.ptrE (k:=5) (b8.toM) x5
 refine EL_p (fPtr (ePtr v8 (2:Int) 5) 1) (Zc at_67_1 rfl ⟨_,_,pe19⟩) rfl ?_
 refine Ze .plain rfl (D_storeAF (g:=i9) part_LoomOrder_1 Tryz.sizeOf3 rfl b8 x5 rfl (Zj.2 rfl) fun k9 sA hs b20=>?_)
 have hfr:=hfr.stp hs
 have b4:=b4.stp hs rfl
 have o0:=o0.stp hs
 obtain ⟨i7,i6,h⟩:=bsome h
 refine EL_p (ePtr v8 (2:Int) 5) (P_indexAddrM (α:=LoomOrder) Tryz.underlying29 Tryz.sizeOf67 rfl (b20.toM) rfl i6) rfl ?_
 obtain ⟨pb23,po23,pe23⟩:=OM.ptrE (k:=5) (b20.toM) i6
 refine EL_p (fPtr (ePtr v8 (2:Int) 5) 2) (Zc at_67_2 rfl ⟨_,_,pe23⟩) rfl ?_
 refine Ze .plain rfl (D_storeAF (g:=k9) part_LoomOrder_2 Tryz.sizeOf3 rfl b20 i6 rfl (Zj.2 rfl) fun n7 uA hs b24=>?_)
 have hfr:=hfr.stp hs
 have b4:=b4.stp hs rfl
 have o0:=o0.stp hs
 refine Zb (Zd (Zf (Za (Ze .plain rfl (D_loadO (g:=n7) Tryz.isAgg28 Tryz.sizeOf28 rfl b4 fun l9 n9=>?_)))))
 obtain ⟨j7,k8,h⟩:=bsome h
 refine Ze .plain rfl (Zp (g:=n7) (vs:=[l9]) en10 (.cons rfl .nil) (wk10 n9 k8) fun b7 c7 o9 hs hr=>?_)
 have hfr:=hfr.ext hs
 have b24:=b24.ext hs
 have o0:=o0.ext hs
 have t5:=hr
 refine Zn v8 rfl rfl ?_
 obtain ⟨m7,l8,h⟩:=bsome h
 refine Ze .plain rfl (D_callGF (g:=b7) (vs:=[v8]) en11 (.cons rfl .nil) (v11_0 (iO:=9031) (OM.lent (b24.toM)) l8) fun gl28 m8 t9 hxl hr=>?_)
 have hm28:=OM.unlend plain_LoomOrder hxl hr
 obtain ⟨u9,hge28⟩:∃ g,g={ m:=fun b=>if b < c7.heap.size then b7.m b else gl28.m b,o:=gl28.o:Gh }:=⟨_,rfl⟩
 rw [← hge28] at hm28
 have hs:Ext b7 c7 u9 m8:=hge28 ▸ unlend hxl
 clear hxl hr hge28
 have hfr:=hfr.ext hs
 have o0:=o0.ext hs
 have t5:=t5.ext hs
 obtain ⟨gp30,hs,rp30⟩:=OM.pub hm28
 have hfr:=hfr.stp hs
 have o0:=o0.stp hs
 have t5:=t5.stp hs
 obtain ⟨i3,n8,h⟩:=bsome h
 refine Ze .plain rfl (Zp (g:=gp30) (vs:=[o9,t9]) en32 (.cons rfl (.cons rfl .nil)) (wk32 t5 rp30 n8) fun i5 o8 xA hs hr=>?_)
 have hfr:=hfr.ext hs
 have o0:=o0.ext hs
 obtain ⟨u3,mA,rfl,l5,rfl⟩:=hr
 refine Zn (.tuple #[u3,.int .i64 (i3.2)]) rfl rfl ?_
 refine EL_p u3 (Zi rfl rfl) rfl ?_
 refine EL_p (.int .i64 (i3.2)) (Zi rfl rfl) rfl ?_
 refine Zg u3 rfl rfl ?_
 refine Zg (.int .i64 (i3.2)) rfl rfl ?_
 refine Zb (Zd ?_)
 obtain ⟨z3,hx,h⟩:=bsome h
 refine E_join (fun e w=>∃ (g:Gh) ,Fr gI wI g w∧e 0=.bool (z3)) (fun Q' hQ=>?_) (fun pA yA hR=>?_)
 ·replace h := hx
  clear hx
  refine Za (Zn (.int .i64 (u0.2)) rfl rfl ?_)
  refine EL_in (.bool ((u0.2 == (0:Int)))) rfl rfl rfl rfl ?_
  refine Zn (.bool ((u0.2 == (0:Int)))) rfl rfl ?_
  rcases Zt h with ⟨o3,h⟩ | ⟨o3,h⟩
  ·refine EL_y (.int .i64 (i3.2)) (Zk rfl) rfl rfl o3 rfl ?_
   refine EL_y (.bool ((i3.2 == (0:Int)))) (P_int rfl rfl rfl) rfl rfl o3 rfl ?_
   refine EL_p (.bool ((i3.2 == (0:Int)))) (Zl (b:=(u0.2 == (0:Int))) rfl (pick_t o3 rfl)) rfl ?_
   refine Zn (.bool ((i3.2 == (0:Int)))) rfl rfl ?_
   rcases Zt h with ⟨z2,h⟩ | ⟨z2,h⟩
   ·refine EL_y j3 (Zk rfl) rfl rfl z2 rfl ?_
    refine EL_y (.int .i64 ((u0.1).length:Int)) (P_len Tryz.underlying48 rfl o0) rfl rfl z2 rfl ?_
    refine EL_y (.bool ((((u0.1).length:Int) == (3:Int)))) (P_int rfl rfl rfl) rfl rfl z2 rfl ?_
    refine EL_p (.bool ((((u0.1).length:Int) == (3:Int)))) (Zl (b:=(i3.2 == (0:Int))) rfl (pick_t z2 rfl)) rfl ?_
    refine Zn (.bool ((((u0.1).length:Int) == (3:Int)))) rfl rfl ?_
    rcases Zt h with ⟨j1,h⟩ | ⟨j1,h⟩
    ·refine EL_y j3 (Zk rfl) rfl rfl j1 rfl ?_
     obtain ⟨z4,d7,h⟩:=bsome h
     refine EL_y (ePtr j3 (2:Int) 3) (Zh (α:=LoomRun) Tryz.underlying48 Tryz.sizeOf65 rfl o0 rfl d7) rfl rfl j1 rfl ?_
     have y9:=PT_idx o0 d7
     refine Ze (.yes2 rfl rfl j1) rfl (D_load (g:=i5) Tryz.isAgg65 Tryz.sizeOf65 rfl y9 fun zA z9=>?_)
     have o7:RV i5.m o8 (⟨(2:Int),0,(10:Int)⟩:LoomRun) (.agg (setCh [[.int .i64 0],[.int .i64 0],[.int .i64 0]] [(0,.int .i64 (2)),(2,.int .i64 (10))]).flatten.toArray):=RV_build rfl (rep_pair (rfl) (rep_pair (rep_int) (rep_last (rfl))))
     generalize q8:(Value.agg (setCh [[.int .i64 0],[.int .i64 0],[.int .i64 0]] [(0,.int .i64 (2)),(2,.int .i64 (10))]).flatten.toArray)=bA at o7
     refine EL_y bA (q8 ▸ P_build (vs:=[(0,.int .i64 (2)),(2,.int .i64 (10))]) [[.int .i64 0],[.int .i64 0],[.int .i64 0]] lay_65 rfl rfl (.cons rfl (.cons rfl .nil)) ⟨⟨_,rfl,rfl⟩,⟨⟨_,rfl,rfl⟩,trivial⟩⟩) rfl rfl j1 rfl ?_
     refine EL_y (.bool ((decide (z4=(⟨(2:Int),0,(10:Int)⟩:LoomRun))))) (P_seq seq_65 rfl eg_65 rfl rfl z9 o7) rfl rfl j1 rfl ?_
     refine EL_p (.bool ((decide (z4=(⟨(2:Int),0,(10:Int)⟩:LoomRun))))) (Zl (b:=(((u0.1).length:Int) == (3:Int))) rfl (pick_t j1 rfl)) rfl ?_
     refine Zn (.bool ((decide (z4=(⟨(2:Int),0,(10:Int)⟩:LoomRun))))) rfl rfl ?_
     rcases Zt h with ⟨d3,h⟩ | ⟨d3,h⟩
     ·refine EL_y u3 (Zk rfl) rfl rfl d3 rfl ?_
      refine Ze (.yes2 rfl rfl d3) rfl (D_buildSlice (g:=i5) 3055 (xs:=([(0:Int),(1:Int),(2:Int)]:List Int)) (vs:=[.int .i64 (0),.int .i64 (1),.int .i64 (2)]) Tryz.underlying26 Tryz.sizeOf3 Tryz.zeroValue3 rfl rfl (.cons rfl (.cons rfl (.cons rfl .nil))) (RVs.cons (Zj.2 rfl) (RVs.cons (Zj.2 rfl) (RVs.cons (Zj.2 rfl) RVs.nil))) rfl rfl fun gA aB iA hs o52 jA hxt hfl=>?_)
      have hfr:=hfr.stp hs
      have l5:=l5.stp hs
      obtain ⟨j6,r8,h⟩:=bsome h
      refine Ze (.yes2 rfl rfl d3) rfl (Zp (g:=gA) (vs:=[u3,iA]) en33 (.cons rfl (.cons rfl .nil)) (wk33 l5 jA r8) fun kA qA bB hs hr=>?_)
      have hfr:=hfr.ext hs
      subst hr
      refine EL_p (.bool (j6)) (Zl (b:=(decide (z4=(⟨(2:Int),0,(10:Int)⟩:LoomRun)))) rfl (pick_t d3 rfl)) rfl ?_
      refine Zg (.bool (j6)) rfl rfl ?_
      refine Zb ?_
      obtain rfl:=sinj h
      exact hQ _ _ ⟨kA,hfr,rfl⟩
     ·refine EL_s rfl rfl d3 rfl rfl ?_
      refine EL_s rfl rfl d3 rfl rfl ?_
      refine EL_s rfl rfl d3 rfl rfl ?_
      refine EL_p (.bool false) (Zl (b:=(decide (z4=(⟨(2:Int),0,(10:Int)⟩:LoomRun)))) rfl (pick_f d3 rfl)) rfl ?_
      refine Zg (.bool false) rfl rfl ?_
      refine Zb ?_
      obtain rfl:=sinj h
      exact hQ _ _ ⟨i5,hfr,rfl⟩
    ·refine EL_s rfl rfl j1 rfl rfl ?_
     iterate 4 refine EL_s rfl rfl j1 rfl rfl ?_
     refine EL_p (.bool false) (Zl (b:=(((u0.1).length:Int) == (3:Int))) rfl (pick_f j1 rfl)) rfl ?_
     refine EL_dead 5 rfl ?_
     refine Zg (.bool false) rfl rfl ?_
     refine Zb ?_
     obtain rfl:=sinj h
     exact hQ _ _ ⟨i5,hfr,rfl⟩
   ·refine EL_s rfl rfl z2 rfl rfl ?_
    refine EL_s rfl rfl z2 rfl rfl ?_
    refine EL_s rfl rfl z2 rfl rfl ?_
    refine EL_p (.bool false) (Zl (b:=(i3.2 == (0:Int))) rfl (pick_f z2 rfl)) rfl ?_
    refine EL_dead 12 rfl ?_
    refine Zg (.bool false) rfl rfl ?_
    refine Zb ?_
    obtain rfl:=sinj h
    exact hQ _ _ ⟨i5,hfr,rfl⟩
  ·refine EL_s rfl rfl o3 rfl rfl ?_
   refine EL_s rfl rfl o3 rfl rfl ?_
   refine EL_p (.bool false) (Zl (b:=(u0.2 == (0:Int))) rfl (pick_f o3 rfl)) rfl ?_
   refine EL_dead 17 rfl ?_
   refine Zg (.bool false) rfl rfl ?_
   refine Zb ?_
   obtain rfl:=sinj h
   exact hQ _ _ ⟨i5,hfr,rfl⟩
 ·clear hx
  obtain ⟨cB,hfr,e7⟩:=hR
  refine E_ret ?_
  obtain rfl:=sinj h
  exact end1 rfl rfl (show _=.bool (z3) from e7) ⟨_,hfr,rfl⟩
def f20 (x0:FaultFaultLoom) (x1:List FaultDamage):Option ((List (List Str))):=
 Option.bind (α:=(List (List Str))) (
  lp (σ:=(List (List Str)) × Int) (fun e8 (o3,d3)=>
   bif (decide (d3 < ((x1).length : Int))) then
    Option.bind (α:=(List (List Str))) (
     (idx x1 d3).bind fun x5=>
     (f47 x0 (([x5]:List FaultDamage))).bind fun i6=>
     (apnd 24 o3 (([i6]:List (List Str)))).bind fun g8=>
     some (g8)
     ) fun i3=>
    e8 (i3,(w64 (d3 + (1:Int))))
   else
    some (o3)
   ) big ([],(0:Int))
  ) fun j3=>
 some (j3)
theorem en20:Enters Tryz.prog 20:=enters_of Tryz.func20 (by kernel_rfl) rfl
theorem wk20 {gI:Gh} {wI:World} {x0:FaultFaultLoom} {x1:List FaultDamage} {up0:Value} (rp0:RV gI.m wI x0 up0) {up1:Value} (rp1:RV gI.m wI x1 up1) {r:(List (List Str))} (h:f20 x0 x1=some r):Fn Tryz.prog 20 #[up0,up1] gI wI (fun m w v=>RV m w (r) v):=by
 unfold f20 at h
 refine fn_of_E Tryz.func20 rfl (Nat.le_of_ble_eq_true rfl) fun g0 hm hfr=>?_
 have rp0:RV g0.m wI x0 up0:=hm ▸ rp0
 have rp1:RV g0.m wI x1 up1:=hm ▸ rp1
 show E _ 22 none _ _ _ _ _
 refine Zf (Za (Ze .plain rfl (D_box (g:=g0) rfl rp0 fun g1 w1 p1 hs q1=>?_)))
 have hfr:=hfr.ext hs
 have rp1:=rp1.ext hs
 refine Zg (.slice none 0 0) rfl rfl ?_
 refine Zb (Zd ?_)
 obtain ⟨j3,hx,h⟩:=bsome h
 refine E_join (fun e w=>∃ (g:Gh) (v4:Value),Fr gI wI g w∧e 4=v4∧RV g.m w (j3:List (List Str)) v4∧OS 1004 g w 75 (j3:List (List Str)) v4) (fun Q' hQ=>?_) (fun y9 iA hR=>?_)
 ·replace h := hx
  clear hx
  refine Zf (Za (Zn up1 rfl rfl ?_))
  refine EL_p (.int .i64 ((x1).length:Int)) (P_len Tryz.underlying47 rfl rp1) rfl ?_
  refine Zn (.int .i64 (0)) rfl rfl ?_
  refine Zb (Zd (Zr ?_))
  refine E_lp h (fun (s:(List (List Str)) × Int) e w=>∃ (g:Gh) (v4:Value),Fr gI wI g w∧e 2=p1∧PT g.m w (x0:FaultFaultLoom) p1∧e 4=v4∧RV g.m w (s.1:List (List Str)) v4∧OS 1004 g w 75 (s.1:List (List Str)) v4∧e 7=up1∧RV g.m w (x1:List FaultDamage) up1∧e 8=.int .i64 (((x1).length:Int))∧e 9=.int .i64 (s.2)) ⟨g1,(.slice none 0 0),hfr,rfl,q1,rfl,RV_nil,OS.nil,rfl,rp1,rfl,rfl⟩ (fun X32 e8 k8=>?_)
  rintro ⟨o3,d3⟩ z9 jA ⟨j6,b7,hfr,z4,u0,i5,j1,z2,l5,o0,q5,u3⟩ h
  refine Zf (Za (EL_in (.bool ((decide (d3 < ((x1).length:Int))))) u3 q5 rfl rfl ?_))
  refine Zb (Zd (Zf ?_))
  rcases Zt h with ⟨z3,h⟩ | ⟨z3,h⟩
  ·refine E_ct z3 rfl ?_
   refine Zu (Zd ?_)
   obtain ⟨i3,hx,h⟩:=bsome h
   refine E_join (fun e w=>∃ (g:Gh) (v4:Value),Fr gI wI g w∧e 2=p1∧PT g.m w (x0:FaultFaultLoom) p1∧e 4=v4∧RV g.m w (i3:List (List Str)) v4∧OS 1004 g w 75 (i3:List (List Str)) v4∧e 7=up1∧RV g.m w (x1:List FaultDamage) up1∧e 8=.int .i64 (((x1).length:Int))∧e 9=.int .i64 (d3)) (fun Q' hQ=>?_) (fun bA kA hR=>?_)
   ·replace h := hx
    clear hx
    refine Zr ?_
    refine Zf (Za ?_)
    obtain ⟨x5,v6,h⟩:=bsome h
    refine EL_p (ePtr up1 d3 5) (Zh (α:=FaultDamage) Tryz.underlying47 Tryz.sizeOf45 l5 o0 u3 v6) rfl ?_
    have n8:=PT_idx o0 v6
    refine Ze .plain rfl (D_load (g:=j6) Tryz.isAgg45 Tryz.sizeOf45 rfl n8 fun o8 x6=>?_)
    refine Ze .plain rfl (D_allocOc (g:=j6) 2006 (⟨0,0,0,0,false⟩:FaultDamage) Tryz.zeroValue45 (fun m w=>⟨_,(rep_two rep_int (rep_two rep_int (rep_two rep_int (rep_two rep_int rep_bool)))),rfl⟩) fun q8 lA mA hs b51 cb=>?_)
    have hfr:=hfr.stp hs
    have u0:=u0.stp hs
    have j1:=j1.stp hs
    have z2:=z2.stp hs rfl
    have o0:=o0.stp hs
    have x6:=x6.stp hs
    clear cb
    refine Ze .plain rfl (D_storeOc (g:=q8) (v:=o8) Tryz.sizeOf45 rfl b51 rfl x6 fun y6 nA hs b52 cb=>?_)
    clear cb
    have hfr:=hfr.stp hs
    have u0:=u0.stp hs
    have j1:=j1.stp hs
    have z2:=z2.stp hs rfl
    have o0:=o0.stp hs
    refine Zb (Zd (Za (Zo i5 rfl ?_)))
    refine Ze .plain rfl (D_load (g:=y6) Tryz.isAgg73 Tryz.sizeOf73 z4 u0 fun r8 a7=>?_)
    refine Ze .plain rfl (D_loadO (g:=y6) Tryz.isAgg45 Tryz.sizeOf45 rfl b52 fun t8 v8=>?_)
    refine Ze .plain rfl (D_buildSlice (g:=y6) 3016 (xs:=([x5]:List FaultDamage)) (vs:=[t8]) Tryz.underlying47 Tryz.sizeOf45 Tryz.zeroValue45 rfl rfl (.cons rfl .nil) (RVs.cons v8 RVs.nil) rfl rfl fun x8 oA y8 hs o55 a9 hxt hfl=>?_)
    have hfr:=hfr.stp hs
    have u0:=u0.stp hs
    have j1:=j1.stp hs
    have z2:=z2.stp hs rfl
    have o0:=o0.stp hs
    have a7:=a7.stp hs
    obtain ⟨i6,l8,h⟩:=bsome h
    refine Ze .plain rfl (Zp (g:=x8) (vs:=[r8,y8]) en47 (.cons rfl (.cons rfl .nil)) (wk47 a7 a9 l8) fun d9 gA e9 hs hr=>?_)
    have hfr:=hfr.ext hs
    have u0:=u0.ext hs
    have j1:=j1.ext hs
    have z2:=z2.ext hs
    have o0:=o0.ext hs
    have i9:=hr
    refine Ze .plain rfl (D_buildSlice (g:=d9) 3018 (xs:=([i6]:List (List Str))) (vs:=[e9]) Tryz.underlying71 Tryz.sizeOf75 Tryz.zeroValue75 rfl rfl (.cons rfl .nil) (RVs.cons i9 RVs.nil) rfl rfl fun k9 pA qA hs o58 l9 hxt hfl=>?_)
    have hfr:=hfr.stp hs
    have u0:=u0.stp hs
    have j1:=j1.stp hs
    have z2:=z2.stp hs rfl
    have o0:=o0.stp hs
    obtain ⟨g8,m8,h⟩:=bsome h
    refine Ze .plain rfl (D_append (g:=k9) (i:=1004) Tryz.underlying71 info_75 rfl rfl z2 j1 rfl l9 m8 fun n9 rA i8 hs o59 o9 _=>?_)
    have hfr:=hfr.stp hs
    have u0:=u0.stp hs
    have o0:=o0.stp hs
    refine Zg i8 rfl rfl ?_
    refine Zb (blk_n ?_)
    obtain rfl:=sinj h
    exact hQ _ _ ⟨n9,(i8),hfr,z4,u0,rfl,o9,o59,l5,o0,q5,u3⟩
   ·clear hx
    obtain ⟨t9,c7,hfr,d7,e7,g7,i7,j7,m7,n7,o7,u7⟩:=hR
    refine Za (EL_in (.int .i64 ((w64 (d3 + (1:Int))))) u7 rfl rfl rfl ?_)
    refine Zn (.int .i64 ((w64 (d3 + (1:Int))))) rfl rfl ?_
    exact Zb (Zd (k8 (i3,(w64 (d3 + (1:Int)))) _ _ ⟨t9,(c7),hfr,d7,e7,g7,i7,j7,m7,n7,o7,rfl⟩ h))
  ·refine E_cf z3 rfl ?_
   refine E_exit ?_
   refine thn_e ?_
   refine thn_e ?_
   refine blk_hit ?_
   obtain rfl:=sinj h
   exact hQ _ _ ⟨j6,(b7),hfr,i5,j1,z2⟩
 ·clear hx
  obtain ⟨sA,t5,hfr,v7,c8,u9⟩:=hR
  refine Zf (Za (Zo v7 rfl ?_))
  refine Zg t5 rfl rfl ?_
  refine Zb (Zd (E_ret ?_))
  obtain rfl:=sinj h
  exact end1 rfl rfl (show _=t5 from rfl) ⟨_,hfr,c8⟩
def f30 (x0:FaultLoom) (x1:List FaultDamage) (x2:Int):Option ((List Str) × Int):=
 jn (σ:=(List Str)) (fun i6=>
  (f47 ((⟨x0⟩:FaultFaultLoom)) x1).bind fun o3=>
  Option.bind (α:=(List Str)) (
   lp (σ:=(List Str) × Int) (fun t8 (z3,o0)=>
    bif (decide (o0 < x2)) then
     Option.bind (α:=(List Str)) (
      (rem64 o0 ((o3).length:Int)).bind fun y44=>
      (idx o3 y44).bind fun j6=>
      (apnd 16 z3 (([j6]:List Str))).bind fun x8=>
      some (x8)
      ) fun j1=>
     t8 (j1,(w64 (o0 + (1:Int))))
    else
     some (z3)
    ) big (i6,(0:Int))
   ) fun z2=>
  some (z2,(0:Int))
  ) fun k6=>
 (f56 x0 x1 x2).bind fun y9=>
 bif (y9 != (0 : Int)) then
  some ([],y9)
 else
  k6 ([])
theorem en30:Enters Tryz.prog 30:=enters_of Tryz.func30 (by kernel_rfl) rfl
theorem wk30 {gI:Gh} {wI:World} {x0:FaultLoom} {x1:List FaultDamage} {x2:Int} {up0:Value} (rp0:RV gI.m wI x0 up0) {up1:Value} (rp1:RV gI.m wI x1 up1) {r:(List Str) × Int} (h:f30 x0 x1 x2=some r):Fn Tryz.prog 30 #[up0,up1,.int .i64 (x2)] gI wI (fun m w v=>∃ y0 y1,v=.tuple #[y0,y1]∧RV m w (r.1) y0∧y1=.int .i64 (r.2)):=by
 unfold f30 at h
 refine fn_of_E Tryz.func30 rfl (Nat.le_of_ble_eq_true rfl) fun g0 hm hfr=>?_
 have rp0:RV g0.m wI x0 up0:=hm ▸ rp0
 have rp1:RV g0.m wI x1 up1:=hm ▸ rp1
 show E _ 38 none _ _ _ _ _
 refine Zf (Za (Ze .plain rfl (D_box (g:=g0) rfl rp0 fun g1 w1 p1 hs q1=>?_)))
 have hfr:=hfr.ext hs
 have rp1:=rp1.ext hs
 refine Zg (.slice none 0 0) rfl rfl ?_
 refine Zg (.int .i64 (0)) rfl rfl ?_
 refine Zb (Zd (Zq h (fun (s:(List Str)) e w=>∃ (g:Gh) (v6:Value),Fr gI wI g w∧e 1=up1∧RV g.m w (x1:List FaultDamage) up1∧e 2=.int .i64 (x2)∧e 3=p1∧PT g.m w (x0:FaultLoom) p1∧e 6=v6∧RV g.m w (s:List Str) v6∧OS 1006 g w 9 (s:List Str) v6) (fun X6 k6 hk6 h=>?_) ?_))
 ·refine Zf (Za (Ze .plain rfl (D_load (g := g1) Tryz.isAgg37 Tryz.sizeOf37 rfl q1 fun v7 r7 => ?_)))
  refine Zn up1 rfl rfl ?_
  refine Zn (.int .i64 (x2)) rfl rfl ?_
  obtain ⟨y9,t9,h⟩:=bsome h
  refine Ze .plain rfl (Zp (g:=g1) (vs:=[v7,up1,.int .i64 (x2)]) en56 (.cons rfl (.cons rfl (.cons rfl .nil))) (wk56 r7 rp1 t9) fun g8 w8_ v8 hs hr=>?_)
  have hfr:=hfr.ext hs
  have rp1:=rp1.ext hs
  have q1:=q1.ext hs
  subst hr
  refine Zg (.int .i64 (y9)) rfl rfl ?_
  refine Zb (Zd (Zf (Za (Zn (.int .i64 (y9)) rfl rfl ?_))))
  refine EL_in (.bool ((y9 != (0:Int)))) rfl rfl rfl rfl ?_
  refine Zb (Zd ?_)
  rcases Zt h with ⟨t5,h⟩ | ⟨t5,h⟩
  ·refine E_ct t5 rfl ?_
   refine Zf (Za (Zn (.int .i64 (y9)) rfl rfl ?_))
   refine Zg (.slice none 0 0) rfl rfl ?_
   refine Zg (.int .i64 (y9)) rfl rfl ?_
   refine Zb (Zd (E_ret (thn_r ?_)))
   obtain rfl:=sinj h
   exact end2 rfl rfl (show _=.slice none 0 0 from rfl) (show _=.int .i64 (y9) from rfl) ⟨_,hfr,_,_,rfl,RV_nil,rfl⟩
  ·refine E_cf t5 rfl ?_
   exact Zu (Zd (hk6 ([]) _ _ ⟨g8,(.slice none 0 0),hfr,rfl,rp1,rfl,rfl,q1,rfl,RV_nil,OS.nil⟩ h))
 ·rintro i6 oA uA ⟨a7, i7, hfr, j7, m7, n7, o7, u7, c8, z4, i5⟩ h
  refine Zf (Za (Ze .plain rfl (D_load (g:=a7) Tryz.isAgg37 Tryz.sizeOf37 o7 u7 fun b7 y8=>?_)))
  have a9:RV a7.m _ (⟨x0⟩:FaultFaultLoom) (.agg (setCh [[.int .i64 0,.slice none 0 0,.int .i64 0,.slice none 0 0]] [(0,b7)]).flatten.toArray):=RV_build rfl (rep_last (RV.cells y8))
  generalize i9:(Value.agg (setCh [[.int .i64 0,.slice none 0 0,.int .i64 0,.slice none 0 0]] [(0,b7)]).flatten.toArray)=d9 at a9
  refine EL_p d9 (i9 ▸ P_build (vs:=[(0,b7)]) [[.int .i64 0,.slice none 0 0,.int .i64 0,.slice none 0 0]] lay_73 rfl rfl (.cons rfl .nil) ⟨⟨_,rfl,cells_size y8⟩,trivial⟩) rfl ?_
  refine Zo j7 rfl ?_
  obtain ⟨o3,k9,h⟩:=bsome h
  refine Ze .plain rfl (Zp (g:=a7) (vs:=[d9,up1]) en47 (.cons rfl (.cons rfl .nil)) (wk47 a9 m7 k9) fun u9 pA u3 hs hr=>?_)
  have hfr:=hfr.ext hs
  have z4:=z4.ext hs
  have i5:=i5.ext hs
  have z9:=hr
  refine Zg u3 rfl rfl ?_
  refine Zb (Zd ?_)
  obtain ⟨z2,hx,h⟩:=bsome h
  refine E_join (fun e w=>∃ (g:Gh) (v6:Value),Fr gI wI g w∧e 6=v6∧RV g.m w (z2:List Str) v6∧OS 1006 g w 9 (z2:List Str) v6) (fun Q' hQ=>?_) (fun qA xA hR=>?_)
  ·replace h := hx
   clear hx
   refine Zf (Za (Zo n7 rfl ?_))
   refine Zn (.int .i64 (0)) rfl rfl ?_
   refine Zb (Zd (Zr ?_))
   refine E_lp h (fun (s:(List Str) × Int) e w=>∃ (g:Gh) (v6:Value),Fr gI wI g w∧e 6=v6∧RV g.m w (s.1:List Str) v6∧OS 1006 g w 9 (s.1:List Str) v6∧e 9=u3∧RV g.m w (o3:List Str) u3∧e 22=.int .i64 (x2)∧e 23=.int .i64 (s.2)) ⟨u9,(i7),hfr,c8,z4,i5,rfl,z9,rfl,rfl⟩ (fun X34 t8 l9=>?_)
   rintro ⟨z3,o0⟩ rA yA ⟨c7,e8,hfr,x6,d3,i3,l5,u0,q5,j3⟩ h
   refine Zf (Za (EL_in (.bool ((decide (o0 < x2)))) j3 q5 rfl rfl ?_))
   refine Zb (Zd (Zf ?_))
   rcases Zt h with ⟨x5,h⟩ | ⟨x5,h⟩
   ·refine E_ct x5 rfl ?_
    refine Zu (Zd ?_)
    obtain ⟨j1,hx,h⟩:=bsome h
    refine E_join (fun e w=>∃ (g:Gh) (v6:Value),Fr gI wI g w∧e 6=v6∧RV g.m w (j1:List Str) v6∧OS 1006 g w 9 (j1:List Str) v6∧e 9=u3∧RV g.m w (o3:List Str) u3∧e 22=.int .i64 (x2)∧e 23=.int .i64 (o0)) (fun Q' hQ=>?_) (fun sA zA hR=>?_)
    ·replace h := hx
     clear hx
     refine Zr ?_
     refine Zf (Za (Zo j3 rfl ?_))
     refine Zg (.int .i64 (o0)) rfl rfl ?_
     refine Zb (Zd (Za (Zo x6 rfl ?_)))
     refine Zo l5 rfl ?_
     refine Zn (.int .i64 (o0)) rfl rfl ?_
     refine Zo l5 rfl ?_
     refine EL_p (.int .i64 ((o3).length:Int)) (P_len Tryz.underlying75 rfl u0) rfl ?_
     obtain ⟨y44,n9,h⟩:=bsome h
     refine EL_p (.int .i64 (y44)) (P_int rfl rfl (congrArg (Option.map (Value.int .i64)) n9)) rfl ?_
     obtain ⟨j6,d7,h⟩:=bsome h
     refine EL_p (ePtr u3 y44 1) (Zh (α:=Str) Tryz.underlying75 Tryz.sizeOf9 rfl u0 rfl d7) rfl ?_
     have bA:=PT_idx u0 d7
     refine Ze .plain rfl (D_load (g:=c7) Tryz.isAgg9 Tryz.sizeOf9 rfl bA fun aB gA=>?_)
     obtain rfl:=RV_str.1 gA
     refine Ze .plain rfl (D_buildSlice (g:=c7) 3034 (xs:=([j6]:List Str)) (vs:=[Str.v (j6)]) Tryz.underlying75 Tryz.sizeOf9 Tryz.zeroValue9 rfl rfl (.cons rfl .nil) (RVs.cons (RV_str.2 rfl) RVs.nil) rfl rfl fun iA bB cB hs o48 jA hxt hfl=>?_)
     have hfr:=hfr.stp hs
     have d3:=d3.stp hs
     have i3:=i3.stp hs rfl
     have u0:=u0.stp hs
     obtain ⟨x8,o9,h⟩:=bsome h
     refine Ze .plain rfl (D_append (g:=iA) (i:=1006) Tryz.underlying75 info_9 rfl rfl i3 d3 rfl jA o9 fun kA dB e9 hs o49 lA _=>?_)
     have hfr:=hfr.stp hs
     have u0:=u0.stp hs
     refine Zg e9 rfl rfl ?_
     refine Zb (blk_n ?_)
     obtain rfl:=sinj h
     exact hQ _ _ ⟨kA,(e9),hfr,rfl,lA,o49,l5,u0,q5,j3⟩
    ·clear hx
     obtain ⟨mA,i8,hfr,k8,l8,m8,n8,o8,e7,g7⟩:=hR
     refine Za (EL_in (.int .i64 ((w64 (o0 + (1:Int))))) g7 rfl rfl rfl ?_)
     refine Zn (.int .i64 ((w64 (o0 + (1:Int))))) rfl rfl ?_
     exact Zb (Zd (l9 (j1,(w64 (o0 + (1:Int)))) _ _ ⟨mA,(i8),hfr,k8,l8,m8,n8,o8,e7,rfl⟩ h))
   ·refine E_cf x5 rfl ?_
    refine E_exit ?_
    refine thn_e ?_
    refine thn_e ?_
    refine blk_hit ?_
    obtain rfl:=sinj h
    exact hQ _ _ ⟨c7,(e8),hfr,x6,d3,i3⟩
  ·clear hx
   obtain ⟨eB,y6,hfr,q8,r8,nA⟩:=hR
   refine Zf (Za (Zo q8 rfl ?_))
   refine Zg y6 rfl rfl ?_
   refine Zg (.int .i64 (0)) rfl rfl ?_
   refine Zb (Zd (E_ret ?_))
   obtain rfl:=sinj h
   exact end2 rfl rfl (show _=y6 from rfl) (show _=.int .i64 (0) from rfl) ⟨_,hfr,_,_,rfl,r8,rfl⟩
def f31 (x0:FaultLoom) (x1:FaultDamage) (x2:FaultDamage):Option (Int × Int × Int):=
 jn (σ:=Int × Int × Int) (fun (d7,e7,g7)=>
  jn (σ:=Int × Int × Int) (fun (t8,v8,x8)=>
   some ((0:Int),(0:Int),(7:Int))
   ) fun qA=>
  (f47 ((⟨x0⟩:FaultFaultLoom)) (([x1]:List FaultDamage))).bind fun c7=>
  (f47 ((⟨x0⟩:FaultFaultLoom)) (([x2]:List FaultDamage))).bind fun y98=>
  (f21 c7 y98).bind fun x6=>
  (x6 (Nat × Int × Int × Int) (guardC fun (y8,a9,d9) (d3,i3)=>
   some (false,((1:Nat),(d3,i3,(0:Int))))
   ) (0,(d7,e7,g7))).bind fun (l5,(q5,t5,x5))=>
  bif Nat.beq l5 0 then
   qA (q5,t5,x5)
  else
   some (q5,t5,x5)
  ) fun rA=>
 (f19 x0 (([x1,x2]:List FaultDamage))).bind fun y6=>
 bif (y6 != (0 : Int)) then
  some ((0:Int),(0:Int),y6)
 else
  rA ((0:Int),(0:Int),(0:Int))
theorem en31:Enters Tryz.prog 31:=enters_of Tryz.func31 (by kernel_rfl) rfl
theorem wk31 {gI:Gh} {wI:World} {x0:FaultLoom} {x1:FaultDamage} {x2:FaultDamage} {up0:Value} (rp0:RV gI.m wI x0 up0) {up1:Value} (rp1:RV gI.m wI x1 up1) {up2:Value} (rp2:RV gI.m wI x2 up2) {r:Int × Int × Int} (h:f31 x0 x1 x2=some r):Fn Tryz.prog 31 #[up0,up1,up2] gI wI (fun m w v=>∃ y0 y1 y2,v=.tuple #[y0,y1,y2]∧y0=.int .i64 (r.1)∧y1=.int .i64 (r.2.1)∧y2=.int .i64 (r.2.2)):=by
 unfold f31 at h
 refine fnD_of_E Tryz.func31 rfl (Nat.le_of_ble_eq_true rfl) fun g0 hm hfr=>?_
 have hmk:MkF g0 wI []:=MkF.start
 have rp0:RV g0.m wI x0 up0:=hm ▸ rp0
 have rp1:RV g0.m wI x1 up1:=hm ▸ rp1
 have rp2:RV g0.m wI x2 up2:=hm ▸ rp2
 show E _ 35 none _ _ _ _ _
 refine Zf (Za (Ze .plain rfl (D_box (g:=g0) rfl rp0 fun g1 w1 p1 hs q1=>?_)))
 have hfr:=hfr.ext hs
 have hmk:=hmk.ext hs
 have rp1:=rp1.ext hs
 have rp2:=rp2.ext hs
 refine Ze .plain rfl (D_box (g:=g1) rfl rp1 fun g2 w2 p2 hs q2=>?_)
 have hfr:=hfr.ext hs
 have hmk:=hmk.ext hs
 have rp2:=rp2.ext hs
 have q1:=q1.ext hs
 refine Ze .plain rfl (D_box (g:=g2) rfl rp2 fun g3 w3 p3 hs q3=>?_)
 have hfr:=hfr.ext hs
 have hmk:=hmk.ext hs
 have q1:=q1.ext hs
 have q2:=q2.ext hs
 refine Ze .plain rfl (D_allocOc (g:=g3) 2006 (0:Int) Tryz.zeroValue3 (fun m w=>⟨_,rep_int,rfl⟩) fun g4 w4 p4 hs b4 cb=>?_)
 have hfr:=hfr.stp hs
 have hmk:=hmk.stp hs
 have q1:=q1.stp hs
 have q2:=q2.stp hs
 have q3:=q3.stp hs
 clear cb
 refine Ze .plain rfl (D_allocOc (g:=g4) 2007 (0:Int) Tryz.zeroValue3 (fun m w=>⟨_,rep_int,rfl⟩) fun g5 w5 p5 hs b5 cb=>?_)
 have hfr:=hfr.stp hs
 have hmk:=hmk.stp hs
 have q1:=q1.stp hs
 have q2:=q2.stp hs
 have q3:=q3.stp hs
 have b4:=b4.stp hs rfl
 clear cb
 refine Ze .plain rfl (D_allocOc (g:=g5) 2008 (0:Int) Tryz.zeroValue39 (fun m w=>⟨_,rep_int,rfl⟩) fun g6 w6 p6 hs b6 cb=>?_)
 have hfr:=hfr.stp hs
 have hmk:=hmk.stp hs
 have q1:=q1.stp hs
 have q2:=q2.stp hs
 have q3:=q3.stp hs
 have b4:=b4.stp hs rfl
 have b5:=b5.stp hs rfl
 clear cb
 refine Zb (Zd (E_joinCD h (fun (s:Int × Int × Int) e ds w=>∃ (g:Gh) ,Fr gI wI g w∧MkF g w ds∧e 3=p1∧PT g.m w (x0:FaultLoom) p1∧e 4=p2∧PT g.m w (x1:FaultDamage) p2∧e 5=p3∧PT g.m w (x2:FaultDamage) p3∧e 6=p4∧OB 2006 g w 3 (s.1:Int) p4∧e 7=p5∧OB 2007 g w 3 (s.2.1:Int) p5∧e 8=p6∧OB 2008 g w 39 (s.2.2:Int) p6) (fun X21 rA iB h=>?_) ?_))
 ·refine Zf (Za (Ze .plain rfl (D_load (g := g6) Tryz.isAgg37 Tryz.sizeOf37 rfl q1 fun tC e9 => ?_)))
  refine Ze .plain rfl (D_load (g:=g6) Tryz.isAgg45 Tryz.sizeOf45 rfl q2 fun uC vC=>?_)
  refine Ze .plain rfl (D_load (g:=g6) Tryz.isAgg45 Tryz.sizeOf45 rfl q3 fun xC yC=>?_)
  refine Ze .plain rfl (D_buildSlice (g:=g6) 3015 (xs:=([x1,x2]:List FaultDamage)) (vs:=[uC,xC]) Tryz.underlying47 Tryz.sizeOf45 Tryz.zeroValue45 rfl rfl (.cons rfl (.cons rfl .nil)) (RVs.cons vC (RVs.cons yC RVs.nil)) rfl rfl fun aD tE bD hs o25 cD hxt hfl=>?_)
  have hfr:=hfr.stp hs
  have hmk:=hmk.stp hs
  have q1:=q1.stp hs
  have q2:=q2.stp hs
  have q3:=q3.stp hs
  have b4:=b4.stp hs rfl
  have b5:=b5.stp hs rfl
  have b6:=b6.stp hs rfl
  have e9:=e9.stp hs
  obtain ⟨y6,jB,h⟩:=bsome h
  refine Ze .plain rfl (Zp (g:=aD) (vs:=[tC,bD]) en19 (.cons rfl (.cons rfl .nil)) (wk19 e9 cD jB) fun sA sD uE hs hr=>?_)
  have hfr:=hfr.ext hs
  have hmk:=hmk.ext hs
  have q1:=q1.ext hs
  have q2:=q2.ext hs
  have q3:=q3.ext hs
  have b4:=b4.ext hs
  have b5:=b5.ext hs
  have b6:=b6.ext hs
  subst hr
  refine Zg (.int .i64 (y6)) rfl rfl ?_
  refine Zb (Zd (Zf (Za (Zn (.int .i64 (y6)) rfl rfl ?_))))
  refine EL_in (.bool ((y6 != (0:Int)))) rfl rfl rfl rfl ?_
  refine Zb (Zd ?_)
  rcases Zt h with ⟨g8,h⟩ | ⟨g8,h⟩
  ·refine E_ct g8 rfl ?_
   refine Zf (Za (Zn (.int .i64 (y6)) rfl rfl ?_))
   refine Ze .plain rfl (D_storeOc (g:=sA) (v:=.int .i64 (0)) Tryz.sizeOf3 rfl b4 rfl (Zj.2 rfl) fun eD vE hs b29 cb=>?_)
   clear cb
   have hfr:=hfr.stp hs
   have hmk:=hmk.stp hs
   have b5:=b5.stp hs rfl
   have b6:=b6.stp hs rfl
   refine Ze .plain rfl (D_storeOc (g:=eD) (v:=.int .i64 (0)) Tryz.sizeOf3 rfl b5 rfl (Zj.2 rfl) fun gD xE hs b30 cb=>?_)
   clear cb
   have hfr:=hfr.stp hs
   have hmk:=hmk.stp hs
   have b29:=b29.stp hs rfl
   have b6:=b6.stp hs rfl
   refine Ze .plain rfl (D_storeOc (g:=gD) (v:=.int .i64 (y6)) Tryz.sizeOf39 rfl b6 rfl (Zj.2 rfl) fun yE zE hs b31 cb=>?_)
   clear cb
   have hfr:=hfr.stp hs
   have hmk:=hmk.stp hs
   have b29:=b29.stp hs rfl
   have b30:=b30.stp hs rfl
   refine Zb (Zd (E_ret (thn_r ?_)))
   refine endM (.inr rfl) hmk fun cF dF hs=>?_
   have hfr:=hfr.stp hs
   have b29:=b29.stp hs rfl
   have b30:=b30.stp hs rfl
   have b31:=b31.stp hs rfl
   obtain rfl:=sinj h
   obtain ⟨ad33,cv33,hp33,kB,cr33⟩:=ob_read Tryz.isAgg3 Tryz.sizeOf3 b29
   obtain rfl:=Zj.1 cr33
   obtain ⟨ad34,cv34,hp34,lB,cr34⟩:=ob_read Tryz.isAgg3 Tryz.sizeOf3 b30
   obtain rfl:=Zj.1 cr34
   obtain ⟨ad35,cv35,hp35,mB,cr35⟩:=ob_read Tryz.isAgg39 Tryz.sizeOf39 b31
   obtain rfl:=Zj.1 cr35
   exact endm_ccc rfl rfl ((show _=p4 from rfl).trans hp33) kB ((show _=p5 from rfl).trans hp34) lB ((show _=p6 from rfl).trans hp35) mB ⟨_,hfr,_,_,_,rfl,rfl,rfl,rfl⟩
  ·refine E_cf g8 rfl ?_
   exact Zu (Zd (iB ((0:Int),(0:Int),(0:Int)) _ _ _ ⟨sA,hfr,hmk,rfl,q1,rfl,q2,rfl,q3,rfl,b4,rfl,b5,rfl,b6⟩ h))
 ·rintro ⟨d7, e7, g7⟩ tD i8 eF ⟨i9, hfr, hmk, k8, l8, z9, bA, gA, iA, i7, j7, m7, n7, o7, u7⟩ h
  refine E_joinCD h (fun (s:Int × Int × Int) e ds w=>∃ (g:Gh) ,Fr gI wI g w∧MkF g w ds∧e 6=p4∧OB 2006 g w 3 (s.1:Int) p4∧e 7=p5∧OB 2007 g w 3 (s.2.1:Int) p5∧e 8=p6∧OB 2008 g w 39 (s.2.2:Int) p6) (fun X86 qA nB h=>?_) ?_
  ·refine Zf (Zs (x := .tmp 3) Tryz.isAgg37 Tryz.sizeOf37 l8 fun m8 uA oB => ?_)
   have xA:RV i9.m _ (⟨x0⟩:FaultFaultLoom) (.agg (setCh [[.int .i64 0,.slice none 0 0,.int .i64 0,.slice none 0 0]] [(0,m8)]).flatten.toArray):=RV_build rfl (rep_last (RV.cells uA))
   generalize tB:(Value.agg (setCh [[.int .i64 0,.slice none 0 0,.int .i64 0,.slice none 0 0]] [(0,m8)]).flatten.toArray)=yA at xA
   refine Zs (x:=.tmp 4) Tryz.isAgg45 Tryz.sizeOf45 bA fun zA iD vB=>?_
   obtain ⟨c7,xB,h⟩:=bsome h
   refine Zs (x:=.tmp 3) Tryz.isAgg37 Tryz.sizeOf37 l8 fun n8 aB yB=>?_
   have bB:RV i9.m _ (⟨x0⟩:FaultFaultLoom) (.agg (setCh [[.int .i64 0,.slice none 0 0,.int .i64 0,.slice none 0 0]] [(0,n8)]).flatten.toArray):=RV_build rfl (rep_last (RV.cells aB))
   generalize zB:(Value.agg (setCh [[.int .i64 0,.slice none 0 0,.int .i64 0,.slice none 0 0]] [(0,n8)]).flatten.toArray)=cB at bB
   refine Zs (x:=.tmp 5) Tryz.isAgg45 Tryz.sizeOf45 iA fun dB jD aC=>?_
   obtain ⟨y98,cC,h⟩:=bsome h
   obtain ⟨x6,jA,h⟩:=bsome h
   refine E_drawL (g:=i9) (n:=11) [(3,(fun v g w=>RV g.m w ([x1]:List FaultDamage) v∧OS 3023 g w 45 ([x1]:List FaultDamage) v∧FullV v)),(4,(fun v g w=>RV g.m w c7 v)),(8,(fun v g w=>RV g.m w ([x2]:List FaultDamage) v∧OS 3028 g w 45 ([x2]:List FaultDamage) v∧FullV v)),(9,(fun v g w=>RV g.m w y98 v)),(10,(fun v g w=>ItV Tryz.prog (RA2 (α:=Int) (β:=Int)) x6 v g.m w))] [0,1,2,3,4,5,6,7,8,9,10] rfl mixed (by kernel_rfl) (⟨fun _=>up_and up_rv (up_and up_os (up_eq _)),fun _=>up_rv,fun _=>up_and up_rv (up_and up_os (up_eq _)),fun _=>up_rv,fun _=>up_itv,trivial⟩) ?_
   refine L_ld (c:=m8) rfl rfl .plain (fun _ _ h=>h.ch) oB k8 ?_
   refine L_p yA rfl rfl (tB ▸ P_build (vs:=[(0,m8)]) [[.int .i64 0,.slice none 0 0,.int .i64 0,.slice none 0 0]] lay_73 rfl rfl (.cons rfl .nil) ⟨⟨_,rfl,cells_size uA⟩,trivial⟩) ?_
   refine L_ld (c:=zA) rfl rfl .plain (fun _ _ h=>h.ch) vB z9 ?_
   refine L_do (φ:=fun v g w=>RV g.m w ([x1]:List FaultDamage) v∧OS 3023 g w 45 ([x1]:List FaultDamage) v∧FullV v) rfl rfl .plain (fun g w hd=>D_buildSlice (g:=g) 3023 (xs:=([x1]:List FaultDamage)) (vs:=[zA]) Tryz.underlying47 Tryz.sizeOf45 Tryz.zeroValue45 rfl rfl (.cons rfl .nil) (RVs.cons (iD.ext hd.1) RVs.nil) rfl rfl fun g' w' v hs o r hxt hfl=>⟨g',hxt,r,o,hfl⟩) (fun u3 hv=>?_)
   clear hv
   refine L_do (φ:=fun v g w=>RV g.m w c7 v) rfl rfl .plain (fun g w hd=>Zp (g:=g) (vs:=[yA,u3]) en47 (.cons rfl (.cons rfl .nil)) (wk47 (xA.ext hd.1) (word (A:=fun g w=>RV g.m w ([x1]:List FaultDamage) u3∧OS 3023 g w 45 ([x1]:List FaultDamage) u3∧FullV u3) 3 rfl rfl (deps_of hd)).1 xB) fun g' w' v hs hr=>⟨g',hs,hr⟩) (fun k9 hv=>?_)
   obtain ⟨_,_,_,rq91⟩:=hv
   refine L_ld (c:=n8) rfl rfl .plain (fun _ _ h=>h.ch) yB k8 ?_
   refine L_p cB rfl rfl (zB ▸ P_build (vs:=[(0,n8)]) [[.int .i64 0,.slice none 0 0,.int .i64 0,.slice none 0 0]] lay_73 rfl rfl (.cons rfl .nil) ⟨⟨_,rfl,cells_size aB⟩,trivial⟩) ?_
   refine L_ld (c:=dB) rfl rfl .plain (fun _ _ h=>h.ch) aC gA ?_
   refine L_do (φ:=fun v g w=>RV g.m w ([x2]:List FaultDamage) v∧OS 3028 g w 45 ([x2]:List FaultDamage) v∧FullV v) rfl rfl .plain (fun g w hd=>D_buildSlice (g:=g) 3028 (xs:=([x2]:List FaultDamage)) (vs:=[dB]) Tryz.underlying47 Tryz.sizeOf45 Tryz.zeroValue45 rfl rfl (.cons rfl .nil) (RVs.cons (jD.ext hd.1) RVs.nil) rfl rfl fun g' w' v hs o r hxt hfl=>⟨g',hxt,r,o,hfl⟩) (fun i5 hv=>?_)
   clear hv
   refine L_do (φ:=fun v g w=>RV g.m w y98 v) rfl rfl .plain (fun g w hd=>Zp (g:=g) (vs:=[cB,i5]) en47 (.cons rfl (.cons rfl .nil)) (wk47 (bB.ext hd.1) (word (A:=fun g w=>RV g.m w ([x2]:List FaultDamage) i5∧OS 3028 g w 45 ([x2]:List FaultDamage) i5∧FullV i5) 8 rfl rfl (deps_of hd)).1 cC) fun g' w' v hs hr=>⟨g',hs,hr⟩) (fun l9 hv=>?_)
   obtain ⟨_,_,_,rq97⟩:=hv
   refine L_do (φ:=fun v g w=>ItV Tryz.prog (RA2 (α:=Int) (β:=Int)) x6 v g.m w) rfl rfl .plain (fun g w hd=>Zp (g:=g) (vs:=[k9,l9]) en21 (.cons rfl (.cons rfl .nil)) (wk21 (word (A:=fun g w=>RV g.m w c7 k9) 4 rfl rfl (deps_of hd)) (word (A:=fun g w=>RV g.m w y98 l9) 9 rfl rfl (deps_of hd)) jA) fun g' w' v hs hr=>⟨g',hs,hr⟩) (fun eB hv=>?_)
   clear hv
   refine L_nil fun uD vD hall=>?_
   have hs:=hall.1
   have hfr:=hfr.ext hs
   have hmk:=hmk.ext hs
   have j7:=j7.ext hs
   have n7:=n7.ext hs
   have u7:=u7.ext hs
   have xD:=(word_all (A:=fun g w=>RV g.m w ([x1]:List FaultDamage) u3∧OS 3023 g w 45 ([x1]:List FaultDamage) u3∧FullV u3) 3 rfl hall).1
   have o111:=(word_all (A:=fun g w=>RV g.m w ([x1]:List FaultDamage) u3∧OS 3023 g w 45 ([x1]:List FaultDamage) u3∧FullV u3) 3 rfl hall).2.1
   have yD:=(word_all (A:=fun g w=>RV g.m w c7 k9) 4 rfl hall)
   have zD:=(word_all (A:=fun g w=>RV g.m w ([x2]:List FaultDamage) i5∧OS 3028 g w 45 ([x2]:List FaultDamage) i5∧FullV i5) 8 rfl hall).1
   have o116:=(word_all (A:=fun g w=>RV g.m w ([x2]:List FaultDamage) i5∧OS 3028 g w 45 ([x2]:List FaultDamage) i5∧FullV i5) 8 rfl hall).2.1
   have aE:=(word_all (A:=fun g w=>RV g.m w y98 l9) 9 rfl hall)
   have n9:=(word_all (A:=fun g w=>ItV Tryz.prog (RA2 (α:=Int) (β:=Int)) x6 eB g.m w) 10 rfl hall)
   clear hs hall
   refine Zb (Zd (Zr ?_))
   have hB0:=hfr.size
   have hmk0:=hmk
   obtain ⟨⟨l5,⟨q5,t5,x5⟩⟩,hφ,h⟩:=bsome h
   refine E_rangeFunc (σ:=(Nat × Int × Int × Int)) (s0:=(0,(d7,e7,g7))) 10 rfl (fun s=>s.1) [.ret] (fun (s:Nat × Int × Int × Int) (g:Gh) (w:World)=>Fr gI wI g w∧MkF g w i8∧OB 2006 g w 3 (s.2.1:Int) p4∧OB 2007 g w 3 (s.2.2.1:Int) p5∧OB 2008 g w 39 (s.2.2.2:Int) p6∧ItV Tryz.prog (RA2 (α:=Int) (β:=Int)) x6 eB g.m w) rfl n9 hφ (fun _ _ _ h=>(guardC_h h).1) rfl ra2_size rfl (fun _ _ _ _ _ hx hR=>by obtain ⟨hfr,hmk,z2,z3,z4,z5⟩:=hR; exact ⟨hfr.ist hx hB0,hmk.ist hx,z2.ist hx,z3.ist hx,z4.ist hx,z5.ist hx⟩) (fun _ _ _ _ _ hx hR=>by obtain ⟨hfr,hmk,z2,z3,z4,z5⟩:=hR; exact ⟨hfr.stp hx,hmk.stp hx,z2.stp hx rfl,z3.stp hx rfl,z4.stp hx rfl,z5.stp hx⟩) ⟨hfr,hmk,j7,n7,u7,n9⟩ (fun _ h=>by cases h) ?_ ?_
   ·intro nD kD s x b s2 o9 dC vs hsz h hR hrec_0 o8 hrd
    obtain ⟨hs0,h⟩:=guardC_h h
    obtain ⟨st,⟨y8,a9,d9⟩⟩:=s
    obtain ⟨hfr,hmk,a7,j3,j1,o0⟩:=hR
    obtain ⟨d3,i3⟩:=x
    obtain ⟨t9,u9,rfl,q8,r8⟩:=ra2_get hrd
    obtain rfl:t9=.int .i64 (d3):=Zj.1 q8
    obtain rfl:u9=.int .i64 (i3):=Zj.1 r8
    have u0:=RFr.refl o9 dC
    refine Zf (Za (Zg (.int .i64 (d3)) rfl rfl ?_))
    refine Zb (Zd (Za (Zg (.int .i64 (i3)) rfl rfl ?_)))
    refine Zb (Zd ?_)
    obtain ⟨eC,hbr,hs,hrN⟩:=begin_round hrec_0 o8
    refine ⟨eC,hbr,?_⟩
    have hfr:=hfr.stp hs
    have hmk:=hmk.stp hs
    have u0:=u0.stp hs
    have a7:=a7.stp hs rfl
    have j3:=j3.stp hs rfl
    have j1:=j1.stp hs rfl
    have o0:=o0.stp hs
    have hrec_0:=hrN
    clear hbr hs hrN
    refine Zr ?_
    refine Zf (Za (Zn (.int .i64 (d3)) rfl rfl ?_))
    refine Zn (.int .i64 (i3)) rfl rfl ?_
    refine Ze .plain rfl (D_storeOc (g:=o9) (v:=.int .i64 (d3)) Tryz.sizeOf3 i7 a7 rfl (Zj.2 rfl) fun iC bE hs b126 cb=>?_)
    clear cb
    have hfr:=hfr.stp hs
    have hmk:=hmk.stp hs
    have u0:=u0.stp hs
    have hrec_0:=hrec_0.stp hs rfl
    have j3:=j3.stp hs rfl
    have j1:=j1.stp hs rfl
    have o0:=o0.stp hs
    refine Ze .plain rfl (D_storeOc (g:=iC) (v:=.int .i64 (i3)) Tryz.sizeOf3 m7 j3 rfl (Zj.2 rfl) fun jC cE hs b127 cb=>?_)
    clear cb
    have hfr:=hfr.stp hs
    have hmk:=hmk.stp hs
    have u0:=u0.stp hs
    have hrec_0:=hrec_0.stp hs rfl
    have b126:=b126.stp hs rfl
    have j1:=j1.stp hs rfl
    have o0:=o0.stp hs
    refine Ze .plain rfl (D_storeOc (g:=jC) (v:=.int .i64 (0)) Tryz.sizeOf39 o7 j1 rfl (Zj.2 rfl) fun dE eE hs b128 cb=>?_)
    clear cb
    have hfr:=hfr.stp hs
    have hmk:=hmk.stp hs
    have u0:=u0.stp hs
    have hrec_0:=hrec_0.stp hs rfl
    have b126:=b126.stp hs rfl
    have b127:=b127.stp hs rfl
    have o0:=o0.stp hs
    refine Zb (Zd (E_ret (blk_r ?_)))
    obtain ⟨rfl,rfl⟩:=pairs2 h
    exact ⟨_,u0,⟨hfr,hmk,b126,b127,b128,o0⟩,hrec_0,rfl,0,rfl,rfl⟩
   ·intro kC gE ds130 hsz hR hds
    obtain ⟨hfr,hmk,i6,j6,v6,rC⟩:=hR
    obtain ⟨D,hdse,hD,hDb⟩:=hds.1 rfl
    subst hdse
    replace hmk:=MkF.push hmk0 hmk hD hDb
    clear hD hDb hds
    revert hmk
    generalize ({ target:=.collected D,args:=#[] } :: i8:List Deferred)=lD
    intro hmk
    refine ⟨fun hs=>?_,fun k c hs hc=>?_⟩
    ·have hs : l5 = 0 := hs
     subst hs
     replace h:=cond_t h rfl
     exact blk_n (Zd (nB (q5,t5,x5) _ _ _ ⟨kC,hfr,hmk,i7,i6,m7,j6,o7,v6⟩ h))
    ·have hs : l5 = k + 1 := hs
     match k,hs,hc with
     | 0,hs,hc=>
      subst hs
      obtain rfl:=sinj hc
      replace h:=cond_f h rfl
      refine E_ret (blk_r ?_)
      refine thn_r ?_
      refine endM (.inr rfl) hmk fun iE jE hs=>?_
      have hfr:=hfr.stp hs
      have i6:=i6.stp hs rfl
      have j6:=j6.stp hs rfl
      have v6:=v6.stp hs rfl
      obtain rfl:=sinj h
      obtain ⟨ad132,cv132,hp132,kA,cr132⟩:=ob_read Tryz.isAgg3 Tryz.sizeOf3 i6
      obtain rfl:=Zj.1 cr132
      obtain ⟨ad133,cv133,hp133,lA,cr133⟩:=ob_read Tryz.isAgg3 Tryz.sizeOf3 j6
      obtain rfl:=Zj.1 cr133
      obtain ⟨ad134,cv134,hp134,mA,cr134⟩:=ob_read Tryz.isAgg39 Tryz.sizeOf39 v6
      obtain rfl:=Zj.1 cr134
      exact endm_ccc rfl rfl ((show _=p4 from i7).trans hp132) kA ((show _=p5 from m7).trans hp133) lA ((show _=p6 from o7).trans hp134) mA ⟨_,hfr,_,_,_,rfl,rfl,rfl,rfl⟩
     | n + 1,_,hc=>exact absurd hc (by simp)
  ·rintro ⟨t8, v8, x8⟩ oD mD kE ⟨lC, hfr, hmk, v7, y9, c8, b7, e8, o3⟩ h
   refine Zf (Za (Ze .plain rfl (D_storeOc (g:=lC) (v:=.int .i64 (0)) Tryz.sizeOf3 v7 y9 rfl (Zj.2 rfl) fun mC lE hs b136 cb=>?_)))
   clear cb
   have hfr:=hfr.stp hs
   have hmk:=hmk.stp hs
   have b7:=b7.stp hs rfl
   have o3:=o3.stp hs rfl
   refine Ze .plain rfl (D_storeOc (g:=mC) (v:=.int .i64 (0)) Tryz.sizeOf3 c8 b7 rfl (Zj.2 rfl) fun qC mE hs b137 cb=>?_)
   clear cb
   have hfr:=hfr.stp hs
   have hmk:=hmk.stp hs
   have b136:=b136.stp hs rfl
   have o3:=o3.stp hs rfl
   refine Ze .plain rfl (D_storeOc (g:=qC) (v:=.int .i64 (7)) Tryz.sizeOf39 e8 o3 rfl (Zj.2 rfl) fun nE oE hs b138 cb=>?_)
   clear cb
   have hfr:=hfr.stp hs
   have hmk:=hmk.stp hs
   have b136:=b136.stp hs rfl
   have b137:=b137.stp hs rfl
   refine Zb (Zd (E_ret (endM (.inr rfl) hmk fun rE sE hs=>?_)))
   have hfr:=hfr.stp hs
   have b136:=b136.stp hs rfl
   have b137:=b137.stp hs rfl
   have b138:=b138.stp hs rfl
   obtain rfl:=sinj h
   obtain ⟨ad140,cv140,hp140,nA,cr140⟩:=ob_read Tryz.isAgg3 Tryz.sizeOf3 b136
   obtain rfl:=Zj.1 cr140
   obtain ⟨ad141,cv141,hp141,oA,cr141⟩:=ob_read Tryz.isAgg3 Tryz.sizeOf3 b137
   obtain rfl:=Zj.1 cr141
   obtain ⟨ad142,cv142,hp142,pA,cr142⟩:=ob_read Tryz.isAgg39 Tryz.sizeOf39 b138
   obtain rfl:=Zj.1 cr142
   exact endm_ccc rfl rfl ((show _=p4 from v7).trans hp140) nA ((show _=p5 from c8).trans hp141) oA ((show _=p6 from e8).trans hp142) pA ⟨_,hfr,_,_,_,rfl,rfl,rfl,rfl⟩
def f6 (x0:FaultLoom) (x1:List FaultDamage):Option (Int × Int):=
 jn (σ:=Int) (fun lA=>
  (f20 ((⟨x0⟩:FaultFaultLoom)) x1).bind fun d3=>
  Option.bind (α:=Int) (
   lp (σ:=Int × Int) (fun kB (k8,o0)=>
    bif (decide (o0 < ((d3).length : Int))) then
     Option.bind (α:=Int) (
      (idx d3 o0).bind fun l8=>
      (cut d3 0 o0).bind fun j3=>
      lp (σ:=Int × Int) (fun lB (y6,j1)=>
       bif (decide (j1 < ((j3).length : Int))) then
        Option.bind (α:=Int) (
         (idx j3 j1).bind fun y171=>
         (f21 l8 y171).bind fun y175=>
         (y175 (Nat × Int) (guardC fun a7 (i3,i9)=>
          some (false,((1:Nat),((max64 a7 (w64 (i3 + (1:Int)))))))
          ) (0,(y6))).bind fun (b7,m8)=>
         bif Nat.beq b7 0 then
          some (m8)
         else
          some (m8)
         ) fun c7=>
        lB (c7,(w64 (j1 + (1:Int))))
       else
        some (y6)
       ) big (k8,(0:Int))
      ) fun d7=>
     kB (d7,(w64 (o0 + (1:Int))))
    else
     some (k8)
    ) big (lA,(0:Int))
   ) fun e7=>
  some (e7,(0:Int))
  ) fun gD=>
 (f19 x0 x1).bind fun g7=>
 bif (g7 != (0 : Int)) then
  some ((0:Int),g7)
 else
  gD ((0:Int))
theorem en6:Enters Tryz.prog 6:=enters_of Tryz.func6 (by kernel_rfl) rfl
theorem wk6 {gI:Gh} {wI:World} {x0:FaultLoom} {x1:List FaultDamage} {up0:Value} (rp0:RV gI.m wI x0 up0) {up1:Value} (rp1:RV gI.m wI x1 up1) {r:Int × Int} (h:f6 x0 x1=some r):Fn Tryz.prog 6 #[up0,up1] gI wI (fun m w v=>∃ y0 y1,v=.tuple #[y0,y1]∧y0=.int .i64 (r.1)∧y1=.int .i64 (r.2)):=by
 unfold f6 at h
 refine fnD_of_E Tryz.func6 rfl (Nat.le_of_ble_eq_true rfl) fun g0 hm hfr=>?_
 have hmk:MkF g0 wI []:=MkF.start
 have rp0:RV g0.m wI x0 up0:=hm ▸ rp0
 have rp1:RV g0.m wI x1 up1:=hm ▸ rp1
 show E _ 50 none _ _ _ _ _
 refine Zf (Za (Ze .plain rfl (D_box (g:=g0) rfl rp0 fun g1 w1 p1 hs q1=>?_)))
 have hfr:=hfr.ext hs
 have hmk:=hmk.ext hs
 have rp1:=rp1.ext hs
 refine Ze .plain rfl (D_allocOc (g:=g1) 2004 (0:Int) Tryz.zeroValue3 (fun m w=>⟨_,rep_int,rfl⟩) fun g2 w2 p2 hs b2 cb=>?_)
 have hfr:=hfr.stp hs
 have hmk:=hmk.stp hs
 have rp1:=rp1.stp hs
 have q1:=q1.stp hs
 clear cb
 refine Zg (.int .i64 (0)) rfl rfl ?_
 refine Zb (Zd (E_joinCD h (fun (s:Int) e ds w=>∃ (g:Gh) ,Fr gI wI g w∧MkF g w ds∧e 1=up1∧RV g.m w (x1:List FaultDamage) up1∧e 2=p1∧PT g.m w (x0:FaultLoom) p1∧e 4=p2∧OB 2004 g w 3 (s:Int) p2) (fun X10 gD mD h=>?_) ?_))
 ·refine Zf (Za (Ze .plain rfl (D_load (g := g2) Tryz.isAgg37 Tryz.sizeOf37 rfl q1 fun jE kE => ?_)))
  refine Zn up1 rfl rfl ?_
  obtain ⟨g7,nD,h⟩:=bsome h
  refine Ze .plain rfl (Zp (g:=g2) (vs:=[jE,up1]) en19 (.cons rfl (.cons rfl .nil)) (wk19 kE rp1 nD) fun iD iF gG hs hr=>?_)
  have hfr:=hfr.ext hs
  have hmk:=hmk.ext hs
  have rp1:=rp1.ext hs
  have q1:=q1.ext hs
  have b2:=b2.ext hs
  subst hr
  refine Zg (.int .i64 (g7)) rfl rfl ?_
  refine Zb (Zd (Zf (Za (Zn (.int .i64 (g7)) rfl rfl ?_))))
  refine EL_in (.bool ((g7 != (0:Int)))) rfl rfl rfl rfl ?_
  refine Zb (Zd ?_)
  rcases Zt h with ⟨bA,h⟩ | ⟨bA,h⟩
  ·refine E_ct bA rfl ?_
   refine Zf (Za (Zn (.int .i64 (g7)) rfl rfl ?_))
   refine Ze .plain rfl (D_storeOc (g:=iD) (v:=.int .i64 (0)) Tryz.sizeOf3 rfl b2 rfl (Zj.2 rfl) fun hG w15 hs b15 cb=>?_)
   clear cb
   have hfr:=hfr.stp hs
   have hmk:=hmk.stp hs
   refine Zg (.int .i64 (g7)) rfl rfl ?_
   refine Zb (Zd (E_ret (thn_r ?_)))
   refine endM (.inr rfl) hmk fun iG jG hs=>?_
   have hfr:=hfr.stp hs
   have b15:=b15.stp hs rfl
   obtain rfl:=sinj h
   obtain ⟨ad17,cv17,hp17,oD,cr17⟩:=ob_read Tryz.isAgg3 Tryz.sizeOf3 b15
   obtain rfl:=Zj.1 cr17
   exact endm_ct rfl rfl ((show _=p2 from rfl).trans hp17) oD (show _=.int .i64 (g7) from rfl) ⟨_,hfr,_,_,rfl,rfl,rfl⟩
  ·refine E_cf bA rfl ?_
   exact Zu (Zd (mD ((0:Int)) _ _ _ ⟨iD,hfr,hmk,rfl,rp1,rfl,q1,rfl,b2⟩ h))
 ·rintro lA nF uE kG ⟨mB, hfr, hmk, tC, uC, vC, xC, yC, a9⟩ h
  refine Zf (Za (Ze .plain rfl (D_load (g:=mB) Tryz.isAgg37 Tryz.sizeOf37 vC xC fun nB jD=>?_)))
  have kD:RV mB.m _ (⟨x0⟩:FaultFaultLoom) (.agg (setCh [[.int .i64 0,.slice none 0 0,.int .i64 0,.slice none 0 0]] [(0,nB)]).flatten.toArray):=RV_build rfl (rep_last (RV.cells jD))
  generalize sD:(Value.agg (setCh [[.int .i64 0,.slice none 0 0,.int .i64 0,.slice none 0 0]] [(0,nB)]).flatten.toArray)=lD at kD
  refine EL_p lD (sD ▸ P_build (vs:=[(0,nB)]) [[.int .i64 0,.slice none 0 0,.int .i64 0,.slice none 0 0]] lay_73 rfl rfl (.cons rfl .nil) ⟨⟨_,rfl,cells_size jD⟩,trivial⟩) rfl ?_
  refine Zo tC rfl ?_
  obtain ⟨d3,tD,h⟩:=bsome h
  refine Ze .plain rfl (Zp (g:=mB) (vs:=[lD,up1]) en20 (.cons rfl (.cons rfl .nil)) (wk20 kD uC tD) fun lE oF u0 hs hr=>?_)
  have hfr:=hfr.ext hs
  have hmk:=hmk.ext hs
  have a9:=a9.ext hs
  have oB:=hr
  refine Zg u0 rfl rfl ?_
  refine Zb (Zd ?_)
  obtain ⟨e7,hx,h⟩:=bsome h
  refine E_joinD (fun e ds w=>∃ (g:Gh) ,Fr gI wI g w∧MkF g w ds∧e 4=p2∧OB 2004 g w 3 (e7:Int) p2) (fun Q' hQ=>?_) (fun vE mE pF hR=>?_)
  ·replace h := hx
   clear hx
   refine Zf (Za (Zn u0 rfl rfl ?_))
   refine EL_p (.int .i64 ((d3).length:Int)) (P_len Tryz.underlying71 rfl oB) rfl ?_
   refine Zn (.int .i64 (0)) rfl rfl ?_
   refine Zb (Zd (Zr ?_))
   refine E_lpD h (fun (s:Int × Int) e ds w=>∃ (g:Gh) ,Fr gI wI g w∧MkF g w ds∧e 4=p2∧OB 2004 g w 3 (s.1:Int) p2∧e 7=u0∧RV g.m w (d3:List (List Str)) u0∧e 23=u0∧RV g.m w (d3:List (List Str)) u0∧e 24=.int .i64 (((d3).length:Int))∧e 25=.int .i64 (s.2)) ⟨lE,hfr,hmk,yC,a9,rfl,oB,rfl,oB,rfl,rfl⟩ (fun X106 kB aD=>?_)
   rintro ⟨k8,o0⟩ xE nE qF ⟨gA,hfr,hmk,k9,l9,n9,n8,t8,u7,v8,i6⟩ h
   refine Zf (Za (EL_in (.bool ((decide (o0 < ((d3).length:Int))))) i6 v8 rfl rfl ?_))
   refine Zb (Zd (Zf ?_))
   rcases Zt h with ⟨d9,h⟩ | ⟨d9,h⟩
   ·refine E_ct d9 rfl ?_
    refine Zu (Zd ?_)
    obtain ⟨d7,hx,h⟩:=bsome h
    refine E_joinD (fun e ds w=>∃ (g:Gh) ,Fr gI wI g w∧MkF g w ds∧e 4=p2∧OB 2004 g w 3 (d7:Int) p2∧e 7=u0∧RV g.m w (d3:List (List Str)) u0∧e 23=u0∧RV g.m w (d3:List (List Str)) u0∧e 24=.int .i64 (((d3).length:Int))∧e 25=.int .i64 (o0)) (fun Q' hQ=>?_) (fun yE oE rF hR=>?_)
    ·replace h := hx
     clear hx
     refine Zr ?_
     refine Zf (Za (Zo i6 rfl ?_))
     obtain ⟨l8,mA,h⟩:=bsome h
     refine EL_p (ePtr u0 o0 1) (Zh (α:=List Str) Tryz.underlying71 Tryz.sizeOf75 t8 u7 i6 mA) rfl ?_
     have uD:=PT_idx u7 mA
     refine Ze .plain rfl (D_load (g:=gA) Tryz.isAgg75 Tryz.sizeOf75 rfl uD fun x6 vD=>?_)
     refine Zg (.int .i64 (o0)) rfl rfl ?_
     refine Zg x6 rfl rfl ?_
     refine Zb (Zd (Zf (Za (Zo n9 rfl ?_))))
     refine Zn (.int .i64 (o0)) rfl rfl ?_
     obtain ⟨j3,nA,h⟩:=bsome h
     have tB:=RV_cut n8 nA
     refine EL_p ((cutV u0 (Int.toNat 0) (Int.toNat o0) 1)) (P_slice Tryz.underlying71 Tryz.sizeOf75 rfl n8 rfl rfl nA) rfl ?_
     refine EL_p (.int .i64 ((j3).length:Int)) (P_len Tryz.underlying71 rfl tB) rfl ?_
     refine Zn (.int .i64 (0)) rfl rfl ?_
     refine Zb (Zd (Zr ?_))
     refine E_lpD h (fun (s:Int × Int) e ds w=>∃ (g:Gh) ,Fr gI wI g w∧MkF g w ds∧e 4=p2∧OB 2004 g w 3 (s.1:Int) p2∧e 7=u0∧RV g.m w (d3:List (List Str)) u0∧e 9=x6∧RV g.m w (l8:List Str) x6∧e 23=u0∧RV g.m w (d3:List (List Str)) u0∧e 24=.int .i64 (((d3).length:Int))∧e 25=.int .i64 (o0)∧e 32=(cutV u0 (Int.toNat 0) (Int.toNat o0) 1)∧RV g.m w (j3:List (List Str)) (cutV u0 (Int.toNat 0) (Int.toNat o0) 1)∧e 33=.int .i64 (((j3).length:Int))∧e 34=.int .i64 (s.2)) ⟨gA,hfr,hmk,k9,l9,n9,n8,rfl,vD,t8,u7,v8,i6,rfl,tB,rfl,rfl⟩ (fun X153 lB bD=>?_)
     rintro ⟨y6,j1⟩ zE o9 sF ⟨iA,hfr,hmk,q5,i7,o8,j7,q8,m7,v7,j6,c8,e8,g8,o3,i8,v6⟩ h
     refine Zf (Za (EL_in (.bool ((decide (j1 < ((j3).length:Int))))) v6 i8 rfl rfl ?_))
     refine Zb (Zd (Zf ?_))
     rcases Zt h with ⟨e9,h⟩ | ⟨e9,h⟩
     ·refine E_ct e9 rfl ?_
      refine Zu (Zd ?_)
      obtain ⟨c7,hx,h⟩:=bsome h
      refine E_joinD (fun e ds w=>∃ (g:Gh) ,Fr gI wI g w∧MkF g w ds∧e 4=p2∧OB 2004 g w 3 (c7:Int) p2∧e 7=u0∧RV g.m w (d3:List (List Str)) u0∧e 9=x6∧RV g.m w (l8:List Str) x6∧e 23=u0∧RV g.m w (d3:List (List Str)) u0∧e 24=.int .i64 (((d3).length:Int))∧e 25=.int .i64 (o0)∧e 32=(cutV u0 (Int.toNat 0) (Int.toNat o0) 1)∧RV g.m w (j3:List (List Str)) (cutV u0 (Int.toNat 0) (Int.toNat o0) 1)∧e 33=.int .i64 (((j3).length:Int))∧e 34=.int .i64 (j1)) (fun Q' hQ=>?_) (fun cF rE tF hR=>?_)
      ·replace h := hx
       clear hx
       refine Zr ?_
       refine Zf (Za ?_)
       obtain ⟨y171,oA,h⟩:=bsome h
       refine EL_p (ePtr ((cutV u0 (Int.toNat 0) (Int.toNat o0) 1)) j1 1) (Zh (α:=List Str) Tryz.underlying71 Tryz.sizeOf75 g8 o3 v6 oA) rfl ?_
       have xD:=PT_idx o3 oA
       refine Ze .plain rfl (D_load (g:=iA) Tryz.isAgg75 Tryz.sizeOf75 rfl xD fun jA yD=>?_)
       refine Zg jA rfl rfl ?_
       refine Zb (Zd (Zf (Za (Zo q8 rfl ?_))))
       refine Zn jA rfl rfl ?_
       obtain ⟨y175,cD,h⟩:=bsome h
       refine Ze .plain rfl (Zp (g:=iA) (vs:=[x6,jA]) en21 (.cons rfl (.cons rfl .nil)) (wk21 m7 yD cD) fun uF dF zD hs hr=>?_)
       have hfr:=hfr.ext hs
       have hmk:=hmk.ext hs
       have i7:=i7.ext hs
       have j7:=j7.ext hs
       have m7:=m7.ext hs
       have j6:=j6.ext hs
       have o3:=o3.ext hs
       have vB:=hr
       refine Zb (Zd (Zr ?_))
       have hB0:=hfr.size
       have hmk0:=hmk
       obtain ⟨⟨b7,m8⟩,hφ,h⟩:=bsome h
       refine E_rangeFunc (σ:=(Nat × Int)) (s0:=(0,(y6))) 10 rfl (fun s=>s.1) [.exit 4] (fun (s:Nat × Int) (g:Gh) (w:World)=>Fr gI wI g w∧MkF g w o9∧OB 2004 g w 3 (s.2:Int) p2∧RV g.m w (d3:List (List Str)) u0∧RV g.m w (l8:List Str) x6∧RV g.m w (d3:List (List Str)) u0∧RV g.m w (j3:List (List Str)) (cutV u0 (Int.toNat 0) (Int.toNat o0) 1)∧ItV Tryz.prog (RA2 (α:=Int) (β:=Int)) y175 zD g.m w) rfl vB hφ (fun _ _ _ h=>(guardC_h h).1) rfl ra2_size rfl (fun _ _ _ _ _ hx hR=>by obtain ⟨hfr,hmk,z2,z3,z4,z5,z6,z7⟩:=hR; exact ⟨hfr.ist hx hB0,hmk.ist hx,z2.ist hx,z3.ist hx,z4.ist hx,z5.ist hx,z6.ist hx,z7.ist hx⟩) (fun _ _ _ _ _ hx hR=>by obtain ⟨hfr,hmk,z2,z3,z4,z5,z6,z7⟩:=hR; exact ⟨hfr.stp hx,hmk.stp hx,z2.stp hx rfl,z3.stp hx,z4.stp hx,z5.stp hx,z6.stp hx,z7.stp hx⟩) ⟨hfr,hmk,i7,j7,m7,j6,o3,vB⟩ (fun _ h=>by cases h) ?_ ?_
       ·intro eF sE s x b s2 kA aE vs hsz h hR hrec_0 pA hrd
        obtain ⟨hs0,h⟩:=guardC_h h
        obtain ⟨st,a7⟩:=s
        obtain ⟨hfr,hmk,n7,t5,x5,u3,i5,l5⟩:=hR
        obtain ⟨i3,i9⟩:=x
        obtain ⟨xB,yB,rfl,qA,rA⟩:=ra2_get hrd
        obtain rfl:xB=.int .i64 (i3):=Zj.1 qA
        obtain rfl:yB=.int .i64 (i9):=Zj.1 rA
        have o7:=RFr.refl kA aE
        refine Za (Zg (.int .i64 (i3)) rfl rfl ?_)
        refine Zb (Zd ?_)
        obtain ⟨bE,hbr,hs,hrN⟩:=begin_round hrec_0 pA
        refine ⟨bE,hbr,?_⟩
        have hfr:=hfr.stp hs
        have hmk:=hmk.stp hs
        have o7:=o7.stp hs
        have n7:=n7.stp hs rfl
        have t5:=t5.stp hs
        have x5:=x5.stp hs
        have u3:=u3.stp hs
        have i5:=i5.stp hs
        have l5:=l5.stp hs
        have hrec_0:=hrN
        clear hbr hs hrN
        refine Zr ?_
        refine Zf (Za (Ze .plain rfl (D_loadO (g:=kA) Tryz.isAgg3 Tryz.sizeOf3 q5 n7 fun vF cE=>?_)))
        obtain rfl:=Zj.1 cE
        refine Zn (.int .i64 (i3)) rfl rfl ?_
        refine EL_in (.int .i64 ((w64 (i3 + (1:Int))))) rfl rfl rfl rfl ?_
        refine EL_p (.int .i64 (max64 a7 (w64 (i3 + (1:Int))))) (P_max rfl rfl) rfl ?_
        refine Ze .plain rfl (D_storeOc (g:=kA) (v:=.int .i64 (max64 a7 (w64 (i3 + (1:Int))))) Tryz.sizeOf3 q5 n7 rfl (Zj.2 rfl) fun xF yF hs b183 cb=>?_)
        clear cb
        have hfr:=hfr.stp hs
        have hmk:=hmk.stp hs
        have o7:=o7.stp hs
        have hrec_0:=hrec_0.stp hs rfl
        have t5:=t5.stp hs
        have x5:=x5.stp hs
        have u3:=u3.stp hs
        have i5:=i5.stp hs
        have l5:=l5.stp hs
        refine Zb (Zd (E_exit ?_))
        refine blk_miss rfl ?_
        obtain ⟨rfl,rfl⟩:=pairs2 h
        exact ⟨_,o7,⟨hfr,hmk,b183,t5,x5,u3,i5,l5⟩,hrec_0,rfl,0,rfl,rfl⟩
       ·intro zB zF ds185 hsz hR hds
        obtain ⟨hfr,hmk,t9,u9,y9,x8,y8,iE⟩:=hR
        obtain ⟨D,hdse,hD,hDb⟩:=hds.1 rfl
        subst hdse
        replace hmk:=MkF.push hmk0 hmk hD hDb
        clear hD hDb hds
        revert hmk
        generalize ({ target:=.collected D,args:=#[] } :: o9:List Deferred)=tE
        intro hmk
        refine ⟨fun hs=>?_,fun k c hs hc=>?_⟩
        ·have hs : b7 = 0 := hs
         subst hs
         replace h:=cond_t h rfl
         refine blk_n (blk_n ?_)
         obtain rfl:=sinj h
         exact hQ _ _ _ ⟨zB,hfr,hmk,q5,t9,o8,u9,q8,y9,v7,x8,c8,e8,g8,y8,i8,v6⟩
        ·have hs : b7 = k + 1 := hs
         match k,hs,hc with
         | 0,hs,hc=>
          subst hs
          obtain rfl:=sinj hc
          replace h:=cond_f h rfl
          refine E_exit ?_
          refine blk_hit ?_
          refine blk_n ?_
          obtain rfl:=sinj h
          exact hQ _ _ _ ⟨zB,hfr,hmk,q5,t9,o8,u9,q8,y9,v7,x8,c8,e8,g8,y8,i8,v6⟩
         | n + 1,_,hc=>exact absurd hc (by simp)
      ·clear hx
       obtain ⟨dE,hfr,hmk,aC,cC,dC,eC,iC,jC,sA,uA,xA,yA,zA,aB,bB,cB⟩:=hR
       refine Za (EL_in (.int .i64 ((w64 (j1 + (1:Int))))) cB rfl rfl rfl ?_)
       refine Zn (.int .i64 ((w64 (j1 + (1:Int))))) rfl rfl ?_
       exact Zb (Zd (bD (c7,(w64 (j1 + (1:Int)))) _ _ _ ⟨dE,hfr,hmk,aC,cC,dC,eC,iC,jC,sA,uA,xA,yA,zA,aB,bB,rfl⟩ h))
     ·refine E_cf e9 rfl ?_
      refine E_exit ?_
      refine thn_e ?_
      refine thn_e ?_
      refine blk_hit ?_
      refine blk_n ?_
      obtain rfl:=sinj h
      exact hQ _ _ _ ⟨iA,hfr,hmk,q5,i7,o8,j7,v7,j6,c8,e8⟩
    ·clear hx
     obtain ⟨eE,hfr,hmk,kC,lC,mC,qC,dB,eB,iB,jB⟩:=hR
     refine Za (EL_in (.int .i64 ((w64 (o0 + (1:Int))))) jB rfl rfl rfl ?_)
     refine Zn (.int .i64 ((w64 (o0 + (1:Int))))) rfl rfl ?_
     exact Zb (Zd (aD (d7,(w64 (o0 + (1:Int)))) _ _ _ ⟨eE,hfr,hmk,kC,lC,mC,qC,dB,eB,iB,rfl⟩ h))
   ·refine E_cf d9 rfl ?_
    refine E_exit ?_
    refine thn_e ?_
    refine thn_e ?_
    refine blk_hit ?_
    obtain rfl:=sinj h
    exact hQ _ _ _ ⟨gA,hfr,hmk,k9,l9⟩
  ·clear hx
   obtain ⟨rC,hfr,hmk,r8,z9⟩:=hR
   refine Zf (Za (Ze .plain rfl (D_loadO (g:=rC) Tryz.isAgg3 Tryz.sizeOf3 r8 z9 fun aG gE=>?_)))
   obtain rfl:=Zj.1 gE
   refine Ze .plain rfl (D_storeOc (g:=rC) (v:=.int .i64 (e7)) Tryz.sizeOf3 r8 z9 rfl (Zj.2 rfl) fun bG cG hs b190 cb=>?_)
   clear cb
   have hfr:=hfr.stp hs
   have hmk:=hmk.stp hs
   refine Zg (.int .i64 (0)) rfl rfl ?_
   refine Zb (Zd (E_ret (endM (.inr rfl) hmk fun dG eG hs=>?_)))
   have hfr:=hfr.stp hs
   have b190:=b190.stp hs rfl
   obtain rfl:=sinj h
   obtain ⟨ad192,cv192,hp192,eD,cr192⟩:=ob_read Tryz.isAgg3 Tryz.sizeOf3 b190
   obtain rfl:=Zj.1 cr192
   exact endm_ct rfl rfl ((show _=p2 from r8).trans hp192) eD (show _=.int .i64 (0) from rfl) ⟨_,hfr,_,_,rfl,rfl,rfl⟩
def f12 :Option (Bool):=
 (f29).bind fun y2=>
 (f30 y2 (([(⟨(2:Int),0,(1:Int),0,false⟩:FaultDamage)]:List FaultDamage)) ((2:Int))).bind fun y9=>
 (f29).bind fun y11=>
 (f31 y11 ((⟨(1:Int),(1:Int),(2:Int),0,false⟩:FaultDamage)) ((⟨(5:Int),0,0,(4:Int),false⟩:FaultDamage))).bind fun o0=>
 Option.bind (α:=Bool) (
  bif (y9.2 == (0 : Int)) then
   bif (o0.2.2 == (0 : Int)) then
    bif (((y9.1).length : Int) == (2 : Int)) then
     (idx (y9.1) (0:Int)).bind fun i5=>
     bif ((i5).b == ((⟨[120, 46, 46, 46, 46, 46]⟩ : Str)).b) then
      (idx (y9.1) (1:Int)).bind fun l5=>
      bif ((l5).b == ((⟨[46, 46, 120, 46, 120, 46]⟩ : Str)).b) then
       bif (o0.1 == (1 : Int)) then
        some ((o0.2.1 == (2:Int)))
       else
        some (false)
      else
       some (false)
     else
      some (false)
    else
     some (false)
   else
    some (false)
  else
   some (false)
  ) fun z4=>
 some (z4)
theorem en12:Enters Tryz.prog 12:=enters_of Tryz.func12 (by kernel_rfl) rfl
theorem wk12 {gI:Gh} {wI:World}   {r:Bool} (h:f12 =some r):Fn Tryz.prog 12 #[] gI wI (fun _ _ v=>v=.bool (r)):=by
 unfold f12 at h
 refine fn_of_E Tryz.func12 rfl (Nat.le_of_ble_eq_true rfl) fun g0 hm hfr=>?_
 show E _ 54 none _ _ _ _ _
 refine Zf (Za (Zg (.bool false) rfl rfl ?_))
 refine Zb (Zd (Zf (Za ?_)))
 obtain ⟨y2,hy2,h⟩:=bsome h
 refine Ze .plain rfl (Zp (g:=g0) (vs:=[]) en29 .nil (wk29  hy2) fun g1 w1_ v1 hs hr=>?_)
 have hfr:=hfr.ext hs
 have r1:=hr
 refine Ze .plain rfl (D_allocOc (g:=g1) 2001 (⟨⟨0,[]⟩,⟨0,[]⟩⟩:FaultLoom) Tryz.zeroValue37 (fun m w=>⟨_,(rep_two (rep_two rep_int rep_nil) (rep_two rep_int rep_nil)),rfl⟩) fun g3 w3 p3 hs b3 cb=>?_)
 have hfr:=hfr.stp hs
 have r1:=r1.stp hs
 have o8:OSF 2001 60101 1 g3 w3 3 37 ([]:List Int) p3:=cb.osf (by rfl)
 have q8:OSF 2001 60103 3 g3 w3 3 37 ([]:List Int) p3:=cb.osf (by rfl)
 clear cb
 refine Ze .plain rfl (D_storeOc (g:=g3) (v:=v1) Tryz.sizeOf37 rfl b3 rfl r1 fun g4 w4 hs b4 cb=>?_)
 clear cb
 have hfr:=hfr.stp hs
 refine Zb (Zd (Zf (Za (Ze .plain rfl (D_loadO (g:=g4) Tryz.isAgg37 Tryz.sizeOf37 rfl b4 fun v5 r5=>?_)))))
 have r6:RV g4.m w4 (⟨(2:Int),0,(1:Int),0,false⟩:FaultDamage) (.agg (setCh [[.int .i64 0],[.int .i64 0],[.int .i64 0],[.int .i64 0],[.bool false]] [(0,.int .i64 (2)),(2,.int .i64 (1))]).flatten.toArray):=RV_build rfl (rep_pair (rfl) (rep_pair (rep_int) (rep_pair (rfl) (rep_pair (rep_int) (rep_last (rep_bool))))))
 generalize j7:(Value.agg (setCh [[.int .i64 0],[.int .i64 0],[.int .i64 0],[.int .i64 0],[.bool false]] [(0,.int .i64 (2)),(2,.int .i64 (1))]).flatten.toArray)=v6 at r6
 refine EL_p v6 (j7 ▸ P_build (vs:=[(0,.int .i64 (2)),(2,.int .i64 (1))]) [[.int .i64 0],[.int .i64 0],[.int .i64 0],[.int .i64 0],[.bool false]] lay_45 rfl rfl (.cons rfl (.cons rfl .nil)) ⟨⟨_,rfl,rfl⟩,⟨⟨_,rfl,rfl⟩,trivial⟩⟩) rfl ?_
 refine Ze .plain rfl (D_buildSlice (g:=g4) 3011 (xs:=([(⟨(2:Int),0,(1:Int),0,false⟩:FaultDamage)]:List FaultDamage)) (vs:=[v6]) Tryz.underlying47 Tryz.sizeOf45 Tryz.zeroValue45 rfl rfl (.cons rfl .nil) (RVs.cons r6 RVs.nil) rfl rfl fun g7 w7 v7 hs o7 r7 hxt hfl=>?_)
 have hfr:=hfr.stp hs
 have r5:=r5.stp hs
 obtain ⟨y9,m7,h⟩:=bsome h
 refine Ze .plain rfl (Zp (g:=g7) (vs:=[v5,v7,.int .i64 (2)]) en30 (.cons rfl (.cons rfl (.cons rfl .nil))) (wk30 r5 r7 m7) fun g8 w8_ v8 hs hr=>?_)
 have hfr:=hfr.ext hs
 obtain ⟨i3,r8,rfl,u0,rfl⟩:=hr
 refine Zn (.tuple #[i3,.int .i64 (y9.2)]) rfl rfl ?_
 refine EL_p i3 (Zi rfl rfl) rfl ?_
 refine EL_p (.int .i64 (y9.2)) (Zi rfl rfl) rfl ?_
 refine Zg i3 rfl rfl ?_
 refine Zg (.int .i64 (y9.2)) rfl rfl ?_
 refine Zb (Zd (Zf (Za ?_)))
 obtain ⟨y11,c7,h⟩:=bsome h
 refine Ze .plain rfl (Zp (g:=g8) (vs:=[]) en29 .nil (wk29  c7) fun q5 t5 n7 hs hr=>?_)
 have hfr:=hfr.ext hs
 have u0:=u0.ext hs
 have u7:=hr
 have x6:RV q5.m t5 (⟨(1:Int),(1:Int),(2:Int),0,false⟩:FaultDamage) (.agg (setCh [[.int .i64 0],[.int .i64 0],[.int .i64 0],[.int .i64 0],[.bool false]] [(0,.int .i64 (1)),(1,.int .i64 (1)),(2,.int .i64 (2))]).flatten.toArray):=RV_build rfl (rep_pair (rfl) (rep_pair (rfl) (rep_pair (rfl) (rep_pair (rep_int) (rep_last (rep_bool))))))
 generalize d7:(Value.agg (setCh [[.int .i64 0],[.int .i64 0],[.int .i64 0],[.int .i64 0],[.bool false]] [(0,.int .i64 (1)),(1,.int .i64 (1)),(2,.int .i64 (2))]).flatten.toArray)=y6 at x6
 refine EL_p y6 (d7 ▸ P_build (vs:=[(0,.int .i64 (1)),(1,.int .i64 (1)),(2,.int .i64 (2))]) [[.int .i64 0],[.int .i64 0],[.int .i64 0],[.int .i64 0],[.bool false]] lay_45 rfl rfl (.cons rfl (.cons rfl (.cons rfl .nil))) ⟨⟨_,rfl,rfl⟩,⟨⟨_,rfl,rfl⟩,⟨⟨_,rfl,rfl⟩,trivial⟩⟩⟩) rfl ?_
 have a7:RV q5.m t5 (⟨(5:Int),0,0,(4:Int),false⟩:FaultDamage) (.agg (setCh [[.int .i64 0],[.int .i64 0],[.int .i64 0],[.int .i64 0],[.bool false]] [(0,.int .i64 (5)),(3,.int .i64 (4))]).flatten.toArray):=RV_build rfl (rep_pair (rfl) (rep_pair (rep_int) (rep_pair (rep_int) (rep_pair (rfl) (rep_last (rep_bool))))))
 generalize e7:(Value.agg (setCh [[.int .i64 0],[.int .i64 0],[.int .i64 0],[.int .i64 0],[.bool false]] [(0,.int .i64 (5)),(3,.int .i64 (4))]).flatten.toArray)=b7 at a7
 refine EL_p b7 (e7 ▸ P_build (vs:=[(0,.int .i64 (5)),(3,.int .i64 (4))]) [[.int .i64 0],[.int .i64 0],[.int .i64 0],[.int .i64 0],[.bool false]] lay_45 rfl rfl (.cons rfl (.cons rfl .nil)) ⟨⟨_,rfl,rfl⟩,⟨⟨_,rfl,rfl⟩,trivial⟩⟩) rfl ?_
 obtain ⟨o0,i7,h⟩:=bsome h
 refine Ze .plain rfl (Zp (g:=q5) (vs:=[n7,y6,b7]) en31 (.cons rfl (.cons rfl (.cons rfl .nil))) (wk31 u7 x6 a7 i7) fun z3 t8 y8 hs hr=>?_)
 have hfr:=hfr.ext hs
 have u0:=u0.ext hs
 obtain ⟨l8,m8,n8,rfl,rfl,rfl,rfl⟩:=hr
 refine Zn (.tuple #[.int .i64 (o0.1),.int .i64 (o0.2.1),.int .i64 (o0.2.2)]) rfl rfl ?_
 refine EL_p (.int .i64 (o0.1)) (Zi rfl rfl) rfl ?_
 refine EL_p (.int .i64 (o0.2.1)) (Zi rfl rfl) rfl ?_
 refine EL_p (.int .i64 (o0.2.2)) (Zi rfl rfl) rfl ?_
 refine Zg (.int .i64 (o0.1)) rfl rfl ?_
 refine Zg (.int .i64 (o0.2.1)) rfl rfl ?_
 refine Zg (.int .i64 (o0.2.2)) rfl rfl ?_
 refine Zb (Zd ?_)
 obtain ⟨z4,hx,h⟩:=bsome h
 refine E_join (fun e w=>∃ (g:Gh) ,Fr gI wI g w∧e 0=.bool (z4)) (fun Q' hQ=>?_) (fun x8 a9 hR=>?_)
 ·replace h := hx
  clear hx
  refine Za (Zn (.int .i64 (y9.2)) rfl rfl ?_)
  refine EL_in (.bool ((y9.2 == (0:Int)))) rfl rfl rfl rfl ?_
  refine Zn (.bool ((y9.2 == (0:Int)))) rfl rfl ?_
  rcases Zt h with ⟨j3,h⟩ | ⟨j3,h⟩
  ·refine EL_y (.int .i64 (o0.2.2)) (Zk rfl) rfl rfl j3 rfl ?_
   refine EL_y (.bool ((o0.2.2 == (0:Int)))) (P_int rfl rfl rfl) rfl rfl j3 rfl ?_
   refine EL_p (.bool ((o0.2.2 == (0:Int)))) (Zl (b:=(y9.2 == (0:Int))) rfl (pick_t j3 rfl)) rfl ?_
   refine Zn (.bool ((o0.2.2 == (0:Int)))) rfl rfl ?_
   rcases Zt h with ⟨j1,h⟩ | ⟨j1,h⟩
   ·refine EL_y i3 (Zk rfl) rfl rfl j1 rfl ?_
    refine EL_y (.int .i64 ((y9.1).length:Int)) (P_len Tryz.underlying75 rfl u0) rfl rfl j1 rfl ?_
    refine EL_y (.bool ((((y9.1).length:Int) == (2:Int)))) (P_int rfl rfl rfl) rfl rfl j1 rfl ?_
    refine EL_p (.bool ((((y9.1).length:Int) == (2:Int)))) (Zl (b:=(o0.2.2 == (0:Int))) rfl (pick_t j1 rfl)) rfl ?_
    refine Zn (.bool ((((y9.1).length:Int) == (2:Int)))) rfl rfl ?_
    rcases Zt h with ⟨z2,h⟩ | ⟨z2,h⟩
    ·refine EL_y i3 (Zk rfl) rfl rfl z2 rfl ?_
     obtain ⟨i5,x5,h⟩:=bsome h
     refine EL_y (ePtr i3 (0:Int) 1) (Zh (α:=Str) Tryz.underlying75 Tryz.sizeOf9 rfl u0 rfl x5) rfl rfl z2 rfl ?_
     have c8:=PT_idx u0 x5
     refine Ze (.yes2 rfl rfl z2) rfl (D_load (g:=z3) Tryz.isAgg9 Tryz.sizeOf9 rfl c8 fun d9 e8=>?_)
     obtain rfl:=RV_str.1 e8
     refine EL_y (.bool (((i5).b == ((⟨[120,46,46,46,46,46]⟩:Str)).b))) (P_str rfl rfl rfl) rfl rfl z2 rfl ?_
     refine EL_p (.bool (((i5).b == ((⟨[120,46,46,46,46,46]⟩:Str)).b))) (Zl (b:=(((y9.1).length:Int) == (2:Int))) rfl (pick_t z2 rfl)) rfl ?_
     refine Zn (.bool (((i5).b == ((⟨[120,46,46,46,46,46]⟩:Str)).b))) rfl rfl ?_
     rcases Zt h with ⟨d3,h⟩ | ⟨d3,h⟩
     ·refine EL_y i3 (Zk rfl) rfl rfl d3 rfl ?_
      obtain ⟨l5,i6,h⟩:=bsome h
      refine EL_y (ePtr i3 (1:Int) 1) (Zh (α:=Str) Tryz.underlying75 Tryz.sizeOf9 rfl u0 rfl i6) rfl rfl d3 rfl ?_
      have i8:=PT_idx u0 i6
      refine Ze (.yes2 rfl rfl d3) rfl (D_load (g:=z3) Tryz.isAgg9 Tryz.sizeOf9 rfl i8 fun e9 k8=>?_)
      obtain rfl:=RV_str.1 k8
      refine EL_y (.bool (((l5).b == ((⟨[46,46,120,46,120,46]⟩:Str)).b))) (P_str rfl rfl rfl) rfl rfl d3 rfl ?_
      refine EL_p (.bool (((l5).b == ((⟨[46,46,120,46,120,46]⟩:Str)).b))) (Zl (b:=((i5).b == ((⟨[120,46,46,46,46,46]⟩:Str)).b)) rfl (pick_t d3 rfl)) rfl ?_
      refine Zn (.bool (((l5).b == ((⟨[46,46,120,46,120,46]⟩:Str)).b))) rfl rfl ?_
      rcases Zt h with ⟨o3,h⟩ | ⟨o3,h⟩
      ·refine EL_y (.int .i64 (o0.1)) (Zk rfl) rfl rfl o3 rfl ?_
       refine EL_y (.bool ((o0.1 == (1:Int)))) (P_int rfl rfl rfl) rfl rfl o3 rfl ?_
       refine EL_p (.bool ((o0.1 == (1:Int)))) (Zl (b:=((l5).b == ((⟨[46,46,120,46,120,46]⟩:Str)).b)) rfl (pick_t o3 rfl)) rfl ?_
       refine Zn (.bool ((o0.1 == (1:Int)))) rfl rfl ?_
       rcases Zt h with ⟨u3,h⟩ | ⟨u3,h⟩
       ·refine EL_y (.int .i64 (o0.2.1)) (Zk rfl) rfl rfl u3 rfl ?_
        refine EL_y (.bool ((o0.2.1 == (2:Int)))) (P_int rfl rfl rfl) rfl rfl u3 rfl ?_
        refine EL_p (.bool ((o0.2.1 == (2:Int)))) (Zl (b:=(o0.1 == (1:Int))) rfl (pick_t u3 rfl)) rfl ?_
        refine Zg (.bool ((o0.2.1 == (2:Int)))) rfl rfl ?_
        refine Zb ?_
        obtain rfl:=sinj h
        exact hQ _ _ ⟨z3,hfr,rfl⟩
       ·refine EL_s rfl rfl u3 rfl rfl ?_
        refine EL_s rfl rfl u3 rfl rfl ?_
        refine EL_p (.bool false) (Zl (b:=(o0.1 == (1:Int))) rfl (pick_f u3 rfl)) rfl ?_
        refine Zg (.bool false) rfl rfl ?_
        refine Zb ?_
        obtain rfl:=sinj h
        exact hQ _ _ ⟨z3,hfr,rfl⟩
      ·refine EL_s rfl rfl o3 rfl rfl ?_
       refine EL_s rfl rfl o3 rfl rfl ?_
       refine EL_p (.bool false) (Zl (b:=((l5).b == ((⟨[46,46,120,46,120,46]⟩:Str)).b)) rfl (pick_f o3 rfl)) rfl ?_
       refine EL_dead 4 rfl ?_
       refine Zg (.bool false) rfl rfl ?_
       refine Zb ?_
       obtain rfl:=sinj h
       exact hQ _ _ ⟨z3,hfr,rfl⟩
     ·refine EL_s rfl rfl d3 rfl rfl ?_
      iterate 3 refine EL_s rfl rfl d3 rfl rfl ?_
      refine EL_p (.bool false) (Zl (b:=((i5).b == ((⟨[120,46,46,46,46,46]⟩:Str)).b)) rfl (pick_f d3 rfl)) rfl ?_
      refine EL_dead 8 rfl ?_
      refine Zg (.bool false) rfl rfl ?_
      refine Zb ?_
      obtain rfl:=sinj h
      exact hQ _ _ ⟨z3,hfr,rfl⟩
    ·refine EL_s rfl rfl z2 rfl rfl ?_
     iterate 3 refine EL_s rfl rfl z2 rfl rfl ?_
     refine EL_p (.bool false) (Zl (b:=(((y9.1).length:Int) == (2:Int))) rfl (pick_f z2 rfl)) rfl ?_
     refine EL_dead 14 rfl ?_
     refine Zg (.bool false) rfl rfl ?_
     refine Zb ?_
     obtain rfl:=sinj h
     exact hQ _ _ ⟨z3,hfr,rfl⟩
   ·refine EL_s rfl rfl j1 rfl rfl ?_
    refine EL_s rfl rfl j1 rfl rfl ?_
    refine EL_s rfl rfl j1 rfl rfl ?_
    refine EL_p (.bool false) (Zl (b:=(o0.2.2 == (0:Int))) rfl (pick_f j1 rfl)) rfl ?_
    refine EL_dead 20 rfl ?_
    refine Zg (.bool false) rfl rfl ?_
    refine Zb ?_
    obtain rfl:=sinj h
    exact hQ _ _ ⟨z3,hfr,rfl⟩
  ·refine EL_s rfl rfl j3 rfl rfl ?_
   refine EL_s rfl rfl j3 rfl rfl ?_
   refine EL_p (.bool false) (Zl (b:=(y9.2 == (0:Int))) rfl (pick_f j3 rfl)) rfl ?_
   refine EL_dead 25 rfl ?_
   refine Zg (.bool false) rfl rfl ?_
   refine Zb ?_
   obtain rfl:=sinj h
   exact hQ _ _ ⟨z3,hfr,rfl⟩
 ·clear hx
  obtain ⟨i9,hfr,j6⟩:=hR
  refine E_ret ?_
  obtain rfl:=sinj h
  exact end1 rfl rfl (show _=.bool (z4) from j6) ⟨_,hfr,rfl⟩
def f3 (x0:List UInt16) (x1:Vector (Vector UInt8 3) 2) (x2:List (Vector UInt8 3)):Option (Bool):=
 (f4 ((1:UInt8)) ((3:UInt8)) x2).bind fun y3=>
 (idx (x1).toList (0:Int)).bind fun y6=>
 (idx (y6).toList (0:Int)).bind fun y8=>
 (f5 y8 x0).bind fun lH=>
 (f7 lH).bind fun kD=>
 (idx (x1).toList (0:Int)).bind fun vO=>
 (f8 lH vO).bind fun y23=>
 (idx (x1).toList (1:Int)).bind fun xO=>
 (f8 lH xO).bind fun v8=>
 (f6 kD (([y23,v8]:List FaultDamage))).bind fun j6=>
 (f10 (y3.1)).bind fun yO=>
 (f11 (y3.2)).bind fun y74=>
 (f9 yO y74).bind fun d7=>
 jn (σ:=Unit) (fun _=>
  jn (σ:=Unit) (fun _=>
   (idx (x1).toList (1:Int)).bind fun y125=>
   (idx (y125).toList (0:Int)).bind fun kE=>
   (rem64 ((kE).toNat:Int) (20:Int)).bind fun y130=>
   (idx (x1).toList (1:Int)).bind fun nJ=>
   (idx (nJ).toList (1:Int)).bind fun mD=>
   (rem64 ((mD).toNat:Int) (((y3.1).Widths).length:Int)).bind fun x6=>
   (f14 y130 ((w64 ((w64 (y130 + j6.1)) - (1:Int))))).bind fun q5=>
   (f10 (y3.1)).bind fun lB=>
   (f11 (y3.2)).bind fun mB=>
   (f16 (d7.1)).bind fun nB=>
   (f15 lB mB nB ((⟨x6,q5⟩:LoomStop))).bind fun z2=>
   (f10 (y3.1)).bind fun oB=>
   (f11 (y3.2)).bind fun tB=>
   (f16 (d7.1)).bind fun vB=>
   (f17 oB tB vB ((⟨x6,q5⟩:LoomStop))).bind fun z3=>
   jn (σ:=Unit) (fun _=>
    jn (σ:=Unit) (fun _=>
     Option.bind (α:=Bool) (
      (f12).bind fun cB=>
      bif cB then
       (f13).bind fun cC=>
       some (cC)
      else
       some (false)
      ) fun lA=>
     some (lA)
     ) fun mH=>
    lp (σ:=Int) (fun nH o0=>
     jn (σ:=Unit) (fun _=>
      jn (σ:=Unit) (fun _=>
       nH ((w64 (o0 + (1:Int))))
       ) fun oH=>
      (idx ((z2.1:List LoomRun)) o0).bind fun u0=>
      jn (σ:=Unit) (fun _=>
       jn (σ:=Unit) (fun _=>
        Option.bind (α:=Bool) (
         bif ((((z3.1 : List Int)).length : Int) == (0 : Int)) then
          (idx (d7.1) o0).bind fun dC=>
          some ((!(decide (u0=dC))))
         else
          some (false)
         ) fun x8=>
        bif x8 then
         some (false)
        else
         oH ()
        ) fun pH=>
       Option.bind (α:=Bool) (
        bif ((u0).Loom == x6) then
         bif (decide ((u0).From ≤ (q5).High)) then
          (idx (y3.2) o0).bind fun mA=>
          some ((decide ((w64 ((u0).From + (mA).Woven)) > (q5).Low)))
         else
          some (false)
        else
         some (false)
        ) fun a9=>
       bif a9 then
        some (false)
       else
        pH ()
       ) fun qH=>
      Option.bind (α:=Bool) (
       bif ((u0).Order != o0) then
        some (true)
       else
        (idx (d7.1) o0).bind fun m7=>
        bif ((u0).Loom != (m7).Loom) then
         some (true)
        else
         (idx (d7.1) o0).bind fun o8=>
         bif (decide ((u0).From < (o8).From)) then
          some (true)
         else
          some ((decide ((u0).From > (300:Int))))
       ) fun d9=>
      bif d9 then
       some (false)
      else
       qH ()
      ) fun sH=>
     bif (decide (o0 < (((z2.1 : List LoomRun)).length : Int))) then
      sH ()
     else
      mH ()
     ) big ((0:Int))
    ) fun oJ=>
   Option.bind (α:=Bool) (
    bif (z2.2.2 != (0 : Int)) then
     some (true)
    else
     bif (z3.2 != (0 : Int)) then
      some (true)
     else
      some (((((z2.1:List LoomRun)).length:Int) != ((d7.1).length:Int)))
    ) fun k9=>
   bif k9 then
    some (false)
   else
    oJ ()
   ) fun pJ=>
  bif (j6.1 == (0 : Int)) then
   Option.bind (α:=Bool) (
    (f12).bind fun jC=>
    bif jC then
     (f13).bind fun nD=>
     some (nD)
    else
     some (false)
    ) fun dB=>
   some (dB)
  else
   pJ ()
  ) fun zO=>
 Option.bind (α:=Bool) (
  bif (j6.2 != (0 : Int)) then
   some (true)
  else
   bif (d7.2 != (0 : Int)) then
    some (true)
   else
    bif (decide (j6.1 < (0 : Int))) then
     some (true)
    else
     bif (decide (j6.1 > (60 : Int))) then
      some (true)
     else
      some ((((d7.1).length:Int) != ((y3.2).length:Int)))
  ) fun iA=>
 bif iA then
  some (false)
 else
  zO ()
theorem wk3 {gI:Gh} {wI:World} {x0:List UInt16} {x1:Vector (Vector UInt8 3) 2} {x2:List (Vector UInt8 3)} {up0:Value} (rp0:RV gI.m wI x0 up0) {up1:Value} (rp1:RV gI.m wI x1 up1) {up2:Value} (rp2:RV gI.m wI x2 up2) {r:Bool} (h:f3 x0 x1 x2=some r):Fn Tryz.prog 3 #[up0,up1,up2] gI wI (fun _ _ v=>v=.bool (r)):=by
 unfold f3 at h
 refine fn_of_E Tryz.func3 rfl (Nat.le_of_ble_eq_true rfl) fun g0 hm hfr=>?_
 have rp0:RV g0.m wI x0 up0:=hm ▸ rp0
 have rp1:RV g0.m wI x1 up1:=hm ▸ rp1
 have rp2:RV g0.m wI x2 up2:=hm ▸ rp2
 show E _ 220 none _ _ _ _ _
 refine Zf (Za (Ze .plain rfl (D_box (g:=g0) rfl rp1 fun g1 w1 p1 hs q1=>?_)))
 have hfr:=hfr.ext hs
 have rp0:=rp0.ext hs
 have rp2:=rp2.ext hs
 refine Zg (.bool false) rfl rfl ?_
 refine Zb (Zd (Zf (Za (Zn up2 rfl rfl ?_))))
 obtain ⟨y3,hy3,h⟩:=bsome h
 refine Ze .plain rfl (Zp (g:=g1) (vs:=[.int .u8 (UInt8.toNat 1),.int .u8 (UInt8.toNat 3),up2]) en4 (.cons rfl (.cons rfl (.cons rfl .nil))) (wk4 rp2 hy3) fun g2 w2_ v2 hs hr=>?_)
 have hfr:=hfr.ext hs
 have rp0:=rp0.ext hs
 have q1:=q1.ext hs
 obtain ⟨lE,z4,rfl,mE,i7⟩:=hr
 refine Zn (.tuple #[lE,z4]) rfl rfl ?_
 refine EL_p lE (Zi rfl rfl) rfl ?_
 refine EL_p z4 (Zi rfl rfl) rfl ?_
 refine Ze .plain rfl (D_allocOc (g:=g2) 2007 (⟨[],0⟩:LoomMill) Tryz.zeroValue28 (fun m w=>⟨_,(rep_two rep_nil rep_int),rfl⟩) fun g4 w4 p4 hs b4 cb=>?_)
 have hfr:=hfr.stp hs
 have rp0:=rp0.stp hs
 have q1:=q1.stp hs
 have mE:=mE.stp hs
 have i7:=i7.stp hs
 have yU:OSF 2007 60700 0 g4 w4 3 28 ([]:List Int) p4:=cb.osf (by rfl)
 clear cb
 refine Ze .plain rfl (D_storeOc (g:=g4) (v:=lE) Tryz.sizeOf28 rfl b4 rfl mE fun g5 w5 hs b5 cb=>?_)
 clear cb
 have hfr:=hfr.stp hs
 have rp0:=rp0.stp hs
 have q1:=q1.stp hs
 have i7:=i7.stp hs
 refine Zg z4 rfl rfl ?_
 refine Zb (Zd (Zf (Za ?_)))
 obtain ⟨y6,aP,h⟩:=bsome h
 refine EL_p (fPtr p1 (((0:Int):Int).toNat * 3)) (P_indexAddrA (α:=Vector UInt8 3) Tryz.underlying24 Tryz.sizeOf23 rfl (PT.ptr q1) rfl aP) rfl ?_
 have q7:=PT_idxA q1 aP
 obtain ⟨y8,bP,h⟩:=bsome h
 refine EL_p (fPtr (fPtr p1 (((0:Int):Int).toNat * 3)) (((0:Int):Int).toNat * 1)) (P_indexAddrA (α:=UInt8) Tryz.underlying23 Tryz.sizeOf5 rfl (PT.ptr q7) rfl bP) rfl ?_
 have q9:=PT_idxA q7 bP
 refine Ze .plain rfl (D_load (g:=g5) Tryz.isAgg5 Tryz.sizeOf5 rfl q9 fun kW cR=>?_)
 obtain rfl:=RV_u8.1 cR
 refine Zn up0 rfl rfl ?_
 obtain ⟨lH,nP,h⟩:=bsome h
 refine Ze .plain rfl (Zp (g:=g5) (vs:=[.int .u8 (UInt8.toNat (y8)),up0]) en5 (.cons rfl (.cons rfl .nil)) (wk5 rp0 nP) fun dR zU eR hs hr=>?_)
 have hfr:=hfr.ext hs
 have q1:=q1.ext hs
 have i7:=i7.ext hs
 have b5:=b5.ext hs
 have qJ:=hr
 refine Ze .plain rfl (D_allocOc (g:=dR) 2009 (⟨⟨0,[]⟩,⟨0,[]⟩⟩:FaultLoom) Tryz.zeroValue37 (fun m w=>⟨_,(rep_two (rep_two rep_int rep_nil) (rep_two rep_int rep_nil)),rfl⟩) fun rJ cP dP hs b13 cb=>?_)
 have hfr:=hfr.stp hs
 have q1:=q1.stp hs
 have i7:=i7.stp hs
 have b5:=b5.stp hs rfl
 have qJ:=qJ.stp hs
 have nS:OSF 2009 60901 1 rJ cP 3 37 ([]:List Int) dP:=cb.osf (by rfl)
 have oS:OSF 2009 60903 3 rJ cP 3 37 ([]:List Int) dP:=cb.osf (by rfl)
 clear cb
 refine Ze .plain rfl (D_storeOc (g:=rJ) (v:=eR) Tryz.sizeOf37 rfl b13 rfl qJ fun gR lW hs b14 cb=>?_)
 clear cb
 have hfr:=hfr.stp hs
 have q1:=q1.stp hs
 have i7:=i7.stp hs
 have b5:=b5.stp hs rfl
 refine Zb (Zd (Zf (L_loadO0 (x:=.tmp 9) Tryz.isAgg37 Tryz.sizeOf37 b14 fun eP iR oP=>?_)))
 obtain ⟨kD,pP,h⟩:=bsome h
 refine L_loadO0 (x:=.tmp 9) Tryz.isAgg37 Tryz.sizeOf37 b14 fun gP jR sP=>?_
 obtain ⟨vO,sJ,h⟩:=bsome h
 have kR:=PT_idxA q1 sJ
 refine Zs (x:=.tmp 37) Tryz.isAgg23 Tryz.sizeOf23 kR fun iP lR tP=>?_
 obtain ⟨y23,uP,h⟩:=bsome h
 refine L_loadO0 (x:=.tmp 9) Tryz.isAgg37 Tryz.sizeOf37 b14 fun jP mR vP=>?_
 obtain ⟨xO,tJ,h⟩:=bsome h
 have nR:=PT_idxA q1 tJ
 refine Zs (x:=.tmp 41) Tryz.isAgg23 Tryz.sizeOf23 nR fun kP oR xP=>?_
 obtain ⟨v8,yP,h⟩:=bsome h
 obtain ⟨j6,zP,h⟩:=bsome h
 refine E_drawL (g:=gR) (n:=17) [(1,(fun v g w=>RV g.m w kD v)),(5,(fun v g w=>RV g.m w y23 v)),(9,(fun v g w=>RV g.m w v8 v)),(10,(fun v g w=>RV g.m w ([y23,v8]:List FaultDamage) v∧OS 3044 g w 45 ([y23,v8]:List FaultDamage) v∧FullV v)),(11,(fun v g w=>∃ y0 y1:Value,v=.tuple #[y0,y1]∧y0=.int .i64 (j6.1)∧y1=.int .i64 (j6.2)))] [0,1,2,3,4,5,6,7,8,9,10,11,12,13,14,15,16] rfl mixed (by kernel_rfl) (⟨fun _=>up_rv,fun _=>up_rv,fun _=>up_rv,fun _=>up_and up_rv (up_and up_os (up_eq _)),fun _=>(up_ex fun _=>(up_ex fun _=>(up_and (up_eq _) (up_and (up_eq _) (up_eq _))))),trivial⟩) ?_
 refine L_ld (c:=eP) rfl rfl .plain (fun _ _ h=>⟨h.ch,fun b hb _=>h.below.block b hb⟩) oP rfl ?_
 refine L_do (φ:=fun v g w=>RV g.m w kD v) rfl rfl .plain (fun g w hd=>Zp (g:=g) (vs:=[eP]) en7 (.cons rfl .nil) (wk7 (iR.ext hd.1) pP) fun g' w' v hs hr=>⟨g',hs,hr⟩) (fun uJ hv=>?_)
 obtain ⟨_,_,_,rq16⟩:=hv
 refine L_ld (c:=gP) rfl rfl .plain (fun _ _ h=>⟨h.ch,fun b hb _=>h.below.block b hb⟩) sP rfl ?_
 refine L_p (fPtr p1 (((0:Int):Int).toNat * 3)) rfl rfl (P_indexAddrA (α:=Vector UInt8 3) Tryz.underlying24 Tryz.sizeOf23 rfl (PT.ptr q1) rfl sJ) ?_
 refine L_ld (c:=iP) rfl rfl .plain (fun _ _ h=>h.ch) tP rfl ?_
 refine L_do (φ:=fun v g w=>RV g.m w y23 v) rfl rfl .plain (fun g w hd=>Zp (g:=g) (vs:=[gP,iP]) en8 (.cons rfl (.cons rfl .nil)) (wk8 (jR.ext hd.1) (lR.ext hd.1) uP) fun g' w' v hs hr=>⟨g',hs,hr⟩) (fun vJ hv=>?_)
 obtain ⟨_,_,_,rq22⟩:=hv
 refine L_ld (c:=jP) rfl rfl .plain (fun _ _ h=>⟨h.ch,fun b hb _=>h.below.block b hb⟩) vP rfl ?_
 refine L_p (fPtr p1 (((1:Int):Int).toNat * 3)) rfl rfl (P_indexAddrA (α:=Vector UInt8 3) Tryz.underlying24 Tryz.sizeOf23 rfl (PT.ptr q1) rfl tJ) ?_
 refine L_ld (c:=kP) rfl rfl .plain (fun _ _ h=>h.ch) xP rfl ?_
 refine L_do (φ:=fun v g w=>RV g.m w v8 v) rfl rfl .plain (fun g w hd=>Zp (g:=g) (vs:=[jP,kP]) en8 (.cons rfl (.cons rfl .nil)) (wk8 (mR.ext hd.1) (oR.ext hd.1) yP) fun g' w' v hs hr=>⟨g',hs,hr⟩) (fun xJ hv=>?_)
 obtain ⟨_,_,_,rq28⟩:=hv
 refine L_do (φ:=fun v g w=>RV g.m w ([y23,v8]:List FaultDamage) v∧OS 3044 g w 45 ([y23,v8]:List FaultDamage) v∧FullV v) rfl rfl .plain (fun g w hd=>D_buildSlice (g:=g) 3044 (xs:=([y23,v8]:List FaultDamage)) (vs:=[vJ,xJ]) Tryz.underlying47 Tryz.sizeOf45 Tryz.zeroValue45 rfl rfl (.cons rfl (.cons rfl .nil)) (RVs.cons (word (A:=fun g w=>RV g.m w y23 vJ) 5 rfl rfl (deps_of hd)) (RVs.cons (word (A:=fun g w=>RV g.m w v8 xJ) 9 rfl rfl (deps_of hd)) RVs.nil)) rfl rfl fun g' w' v hs o r hxt hfl=>⟨g',hxt,r,o,hfl⟩) (fun qA hv=>?_)
 clear hv
 refine L_do (φ:=fun v g w=>∃ y0 y1:Value,v=.tuple #[y0,y1]∧y0=.int .i64 (j6.1)∧y1=.int .i64 (j6.2)) rfl rfl .plain (fun g w hd=>Zp (g:=g) (vs:=[uJ,qA]) en6 (.cons rfl (.cons rfl .nil)) (wk6 (word (A:=fun g w=>RV g.m w kD uJ) 1 rfl rfl (deps_of hd)) (word (A:=fun g w=>RV g.m w ([y23,v8]:List FaultDamage) qA∧OS 3044 g w 45 ([y23,v8]:List FaultDamage) qA∧FullV qA) 10 rfl rfl (deps_of hd)).1 zP) fun g' w' v hs hr=>⟨g',hs,hr⟩) (fun mW hv=>?_)
 obtain ⟨_,_,_,_,_,rfl,rfl,rfl⟩:=hv
 refine L_p (.tuple #[.int .i64 (j6.1),.int .i64 (j6.2)]) rfl rfl (Zk rfl) ?_
 refine L_p (.int .i64 (j6.1)) rfl rfl (Zi rfl rfl) ?_
 refine L_p (.int .i64 (j6.2)) rfl rfl (Zi rfl rfl) ?_
 refine L_p (.int .i64 (j6.1)) rfl rfl (P_assign rfl) ?_
 refine L_p (.int .i64 (j6.2)) rfl rfl (P_assign rfl) ?_
 refine L_nil fun lP nW hall=>?_
 have hs:=hall.1
 have hfr:=hfr.ext hs
 have q1:=q1.ext hs
 have i7:=i7.ext hs
 have b5:=b5.ext hs
 have oW:=(word_all (A:=fun g w=>RV g.m w kD uJ) 1 rfl hall)
 have pW:=(word_all (A:=fun g w=>RV g.m w y23 vJ) 5 rfl hall)
 have qW:=(word_all (A:=fun g w=>RV g.m w v8 xJ) 9 rfl hall)
 have sW:=(word_all (A:=fun g w=>RV g.m w ([y23,v8]:List FaultDamage) qA∧OS 3044 g w 45 ([y23,v8]:List FaultDamage) qA∧FullV qA) 10 rfl hall).1
 have o62:=(word_all (A:=fun g w=>RV g.m w ([y23,v8]:List FaultDamage) qA∧OS 3044 g w 45 ([y23,v8]:List FaultDamage) qA∧FullV qA) 10 rfl hall).2.1
 clear hs hall
 refine Zb (Zd (Zf (Za (Ze .plain rfl (D_loadO (g:=lP) Tryz.isAgg28 Tryz.sizeOf28 rfl b5 fun pR qR=>?_)))))
 obtain ⟨yO,bQ,h⟩:=bsome h
 refine Ze .plain rfl (Zp (g:=lP) (vs:=[pR]) en10 (.cons rfl .nil) (wk10 qR bQ) fun rR aV tR hs hr=>?_)
 have hfr:=hfr.ext hs
 have q1:=q1.ext hs
 have i7:=i7.ext hs
 have b5:=b5.ext hs
 have yJ:=hr
 refine Zn z4 rfl rfl ?_
 obtain ⟨y74,cQ,h⟩:=bsome h
 refine Ze .plain rfl (Zp (g:=rR) (vs:=[z4]) en11 (.cons rfl .nil) (wk11 i7 cQ) fun uR bV vR hs hr=>?_)
 have hfr:=hfr.ext hs
 have q1:=q1.ext hs
 have i7:=i7.ext hs
 have b5:=b5.ext hs
 have yJ:=yJ.ext hs
 have xR:=hr
 obtain ⟨d7,dQ,h⟩:=bsome h
 refine Ze .plain rfl (Zp (g:=uR) (vs:=[tR,vR]) en9 (.cons rfl (.cons rfl .nil)) (wk9 yJ xR dQ) fun xD cV tW hs hr=>?_)
 have hfr:=hfr.ext hs
 have q1:=q1.ext hs
 have i7:=i7.ext hs
 have b5:=b5.ext hs
 obtain ⟨j1,pS,rfl,nA,rfl⟩:=hr
 refine Zn (.tuple #[j1,.int .i64 (d7.2)]) rfl rfl ?_
 refine EL_p j1 (Zi rfl rfl) rfl ?_
 refine EL_p (.int .i64 (d7.2)) (Zi rfl rfl) rfl ?_
 refine Zg j1 rfl rfl ?_
 refine Zg (.int .i64 (d7.2)) rfl rfl ?_
 refine Zb (Zd (Zq h (fun (s:Unit) e w=>∃ (g:Gh) ,Fr gI wI g w∧e 4=p1∧PT g.m w (x1:Vector (Vector UInt8 3) 2) p1∧e 7=p4∧OB 2007 g w 28 (y3.1:LoomMill) p4∧e 8=z4∧RV g.m w (y3.2:List LoomOrder) z4∧e 10=.int .i64 (j6.1)∧e 12=j1∧RV g.m w (d7.1:List LoomRun) j1) (fun X87 zO eQ h=>?_) ?_))
 ·obtain ⟨iA, hx, h⟩ := bsome h
  refine E_join (fun e w=>∃ (g:Gh) ,Fr gI wI g w∧e 4=p1∧PT g.m w (x1:Vector (Vector UInt8 3) 2) p1∧e 7=p4∧OB 2007 g w 28 (y3.1:LoomMill) p4∧e 8=z4∧RV g.m w (y3.2:List LoomOrder) z4∧e 10=.int .i64 (j6.1)∧e 12=j1∧RV g.m w (d7.1:List LoomRun) j1∧e 76=.bool (iA)) (fun Q' hQ=>?_) (fun dV uW hR=>?_)
  ·replace h := hx
   clear hx
   refine Za (Zn (.int .i64 (j6.2)) rfl rfl ?_)
   refine EL_in (.bool ((j6.2 != (0:Int)))) rfl rfl rfl rfl ?_
   refine Zn (.bool ((j6.2 != (0:Int)))) rfl rfl ?_
   rcases Zt h with ⟨rA,h⟩ | ⟨rA,h⟩
   ·refine EL_s rfl rfl rA rfl rfl ?_
    refine EL_s rfl rfl rA rfl rfl ?_
    refine EL_p (.bool true) (Zl (b:=(j6.2 != (0:Int))) rfl (pick_t rA rfl)) rfl ?_
    refine EL_dead 15 rfl ?_
    refine Zb ?_
    obtain rfl:=sinj h
    exact hQ _ _ ⟨xD,hfr,rfl,q1,rfl,b5,rfl,i7,rfl,rfl,nA,rfl⟩
   ·refine EL_y (.int .i64 (d7.2)) (Zk rfl) rfl rfl rA rfl ?_
    refine EL_y (.bool ((d7.2 != (0:Int)))) (P_int rfl rfl rfl) rfl rfl rA rfl ?_
    refine EL_p (.bool ((d7.2 != (0:Int)))) (Zl (b:=(j6.2 != (0:Int))) rfl (pick_f rA rfl)) rfl ?_
    refine Zn (.bool ((d7.2 != (0:Int)))) rfl rfl ?_
    rcases Zt h with ⟨sA,h⟩ | ⟨sA,h⟩
    ·refine EL_s rfl rfl sA rfl rfl ?_
     refine EL_s rfl rfl sA rfl rfl ?_
     refine EL_p (.bool true) (Zl (b:=(d7.2 != (0:Int))) rfl (pick_t sA rfl)) rfl ?_
     refine EL_dead 11 rfl ?_
     refine Zb ?_
     obtain rfl:=sinj h
     exact hQ _ _ ⟨xD,hfr,rfl,q1,rfl,b5,rfl,i7,rfl,rfl,nA,rfl⟩
    ·refine EL_y (.int .i64 (j6.1)) (Zk rfl) rfl rfl sA rfl ?_
     refine EL_y (.bool ((decide (j6.1 < (0:Int))))) (P_int rfl rfl rfl) rfl rfl sA rfl ?_
     refine EL_p (.bool ((decide (j6.1 < (0:Int))))) (Zl (b:=(d7.2 != (0:Int))) rfl (pick_f sA rfl)) rfl ?_
     refine Zn (.bool ((decide (j6.1 < (0:Int))))) rfl rfl ?_
     rcases Zt h with ⟨uA,h⟩ | ⟨uA,h⟩
     ·refine EL_s rfl rfl uA rfl rfl ?_
      refine EL_s rfl rfl uA rfl rfl ?_
      refine EL_p (.bool true) (Zl (b:=(decide (j6.1 < (0:Int)))) rfl (pick_t uA rfl)) rfl ?_
      refine EL_dead 7 rfl ?_
      refine Zb ?_
      obtain rfl:=sinj h
      exact hQ _ _ ⟨xD,hfr,rfl,q1,rfl,b5,rfl,i7,rfl,rfl,nA,rfl⟩
     ·refine EL_y (.int .i64 (j6.1)) (Zk rfl) rfl rfl uA rfl ?_
      refine EL_y (.bool ((decide (j6.1 > (60:Int))))) (P_int rfl rfl rfl) rfl rfl uA rfl ?_
      refine EL_p (.bool ((decide (j6.1 > (60:Int))))) (Zl (b:=(decide (j6.1 < (0:Int)))) rfl (pick_f uA rfl)) rfl ?_
      refine Zn (.bool ((decide (j6.1 > (60:Int))))) rfl rfl ?_
      rcases Zt h with ⟨t9,h⟩ | ⟨t9,h⟩
      ·refine EL_s rfl rfl t9 rfl rfl ?_
       iterate 4 refine EL_s rfl rfl t9 rfl rfl ?_
       refine EL_p (.bool true) (Zl (b:=(decide (j6.1 > (60:Int)))) rfl (pick_t t9 rfl)) rfl ?_
       refine Zb ?_
       obtain rfl:=sinj h
       exact hQ _ _ ⟨xD,hfr,rfl,q1,rfl,b5,rfl,i7,rfl,rfl,nA,rfl⟩
      ·refine EL_y j1 (Zk rfl) rfl rfl t9 rfl ?_
       refine EL_y (.int .i64 ((d7.1).length:Int)) (P_len Tryz.underlying48 rfl nA) rfl rfl t9 rfl ?_
       refine EL_y z4 (Zk rfl) rfl rfl t9 rfl ?_
       refine EL_y (.int .i64 ((y3.2).length:Int)) (P_len Tryz.underlying29 rfl i7) rfl rfl t9 rfl ?_
       refine EL_y (.bool ((((d7.1).length:Int) != ((y3.2).length:Int)))) (P_int rfl rfl rfl) rfl rfl t9 rfl ?_
       refine EL_p (.bool ((((d7.1).length:Int) != ((y3.2).length:Int)))) (Zl (b:=(decide (j6.1 > (60:Int)))) rfl (pick_f t9 rfl)) rfl ?_
       refine Zb ?_
       obtain rfl:=sinj h
       exact hQ _ _ ⟨xD,hfr,rfl,q1,rfl,b5,rfl,i7,rfl,rfl,nA,rfl⟩
  ·clear hx
   obtain ⟨yR,hfr,pL,qL,rL,tL,uL,vL,zJ,aK,bK,yD⟩:=hR
   rcases Zt h with ⟨nE,h⟩ | ⟨nE,h⟩
   ·refine E_cond_true (Eq.trans (show ev _ _ = .bool (iA) from yD) (congrArg Value.bool nE)) ?_
    refine Zf (Za (Zg (.bool false) rfl rfl ?_))
    refine Zb (Zd (E_ret (thn_r ?_)))
    obtain rfl:=sinj h
    exact end1 rfl rfl (show _=.bool false from rfl) ⟨_,hfr,rfl⟩
   ·refine E_cond_false (Eq.trans (show ev _ _ = .bool (iA) from yD) (congrArg Value.bool nE)) ?_
    exact Zu (Zd (eQ () _ _ ⟨yR,hfr,pL,qL,rL,tL,uL,vL,zJ,aK,bK⟩ h))
 ·rintro _ eV vW ⟨mP, hfr, xL, yL, zL, aM, bM, cM, zD, cK, dK⟩ h
  refine Zq h (fun (s:Unit) e w=>∃ (g:Gh) ,Fr gI wI g w∧e 4=p1∧PT g.m w (x1:Vector (Vector UInt8 3) 2) p1∧e 7=p4∧OB 2007 g w 28 (y3.1:LoomMill) p4∧e 8=z4∧RV g.m w (y3.2:List LoomOrder) z4∧e 10=.int .i64 (j6.1)∧e 12=j1∧RV g.m w (d7.1:List LoomRun) j1) (fun X111 pJ dM h=>?_) ?_
  ·refine Zf (Za (Zo zD rfl ?_))
   refine EL_in (.bool ((j6.1 == (0:Int)))) rfl rfl rfl rfl ?_
   refine Zb (Zd ?_)
   rcases Zt h with ⟨oD,h⟩ | ⟨oD,h⟩
   ·refine E_ct oD rfl ?_
    obtain ⟨dB,hx,h⟩:=bsome h
    refine E_join (fun e w=>∃ (g:Gh) ,Fr gI wI g w∧e 6=.bool (dB)) (fun Q' hQ=>?_) (fun qS gV hR=>?_)
    ·replace h := hx
     clear hx
     refine Za ?_
     obtain ⟨jC,eM,h⟩:=bsome h
     refine Ze .plain rfl (Zp (g:=mP) (vs:=[]) en12 .nil (wk12  eM) fun eK rS iV hs hr=>?_)
     have hfr:=hfr.ext hs
     subst hr
     refine Zn (.bool (jC)) rfl rfl ?_
     rcases Zt h with ⟨eB,h⟩ | ⟨eB,h⟩
     ·obtain ⟨nD, gM, h⟩ := bsome h
      refine Ze (.yes2 rfl rfl eB) rfl (Zp (g:=eK) (vs:=[]) en13 .nil (wk13  gM) fun gQ sS jV hs hr=>?_)
      have hfr:=hfr.ext hs
      subst hr
      refine EL_p (.bool (nD)) (Zl (b:=jC) rfl (pick_t eB rfl)) rfl ?_
      refine Zg (.bool (nD)) rfl rfl ?_
      refine Zb ?_
      obtain rfl:=sinj h
      exact hQ _ _ ⟨gQ,hfr,rfl⟩
     ·refine EL_s rfl rfl eB rfl rfl ?_
      refine EL_p (.bool false) (Zl (b:=jC) rfl (pick_f eB rfl)) rfl ?_
      refine Zg (.bool false) rfl rfl ?_
      refine Zb ?_
      obtain rfl:=sinj h
      exact hQ _ _ ⟨eK,hfr,rfl⟩
    ·clear hx
     obtain ⟨kV,hfr,lK⟩:=hR
     refine E_ret (thn_r ?_)
     obtain rfl:=sinj h
     exact end1 rfl rfl (show _=.bool (dB) from lK) ⟨_,hfr,rfl⟩
   ·refine E_cf oD rfl ?_
    exact Zu (Zd (dM () _ _ ⟨mP,hfr,xL,yL,zL,aM,bM,cM,zD,cK,dK⟩ h))
  ·rintro _ tS lV ⟨mK, hfr, aE, iB, kC, m8, jA, n7, iI, e9, g7⟩ h
   refine Zf (Za ?_)
   obtain ⟨y125,tH,h⟩:=bsome h
   refine EL_p (fPtr p1 (((1:Int):Int).toNat * 3)) (P_indexAddrA (α:=Vector UInt8 3) Tryz.underlying24 Tryz.sizeOf23 aE (PT.ptr iB) rfl tH) rfl ?_
   have nK:=PT_idxA iB tH
   obtain ⟨kE,uH,h⟩:=bsome h
   refine EL_p (fPtr (fPtr p1 (((1:Int):Int).toNat * 3)) (((0:Int):Int).toNat * 1)) (P_indexAddrA (α:=UInt8) Tryz.underlying23 Tryz.sizeOf5 rfl (PT.ptr nK) rfl uH) rfl ?_
   have iQ:=PT_idxA nK uH
   refine Ze .plain rfl (D_load (g:=mK) Tryz.isAgg5 Tryz.sizeOf5 rfl iQ fun mV jQ=>?_)
   obtain rfl:=RV_u8.1 jQ
   refine EL_p (.int .i64 (((kE).toNat:Int))) (P_u8int Tryz.underlying5 Tryz.underlying3 rfl) rfl ?_
   obtain ⟨y130,iM,h⟩:=bsome h
   refine EL_p (.int .i64 (y130)) (P_int rfl rfl (congrArg (Option.map (Value.int .i64)) iM)) rfl ?_
   refine Zg (.int .i64 (y130)) rfl rfl ?_
   refine Zb (Zd (Zf ?_))
   obtain ⟨nJ,vH,h⟩:=bsome h
   have oK:=PT_idxA iB vH
   obtain ⟨mD,xH,h⟩:=bsome h
   have kQ:=PT_idxA oK xH
   refine Zs (x:=.tmp 89) Tryz.isAgg5 Tryz.sizeOf5 kQ fun nV lQ jM=>?_
   obtain rfl:=RV_u8.1 lQ
   refine L_loadO (x:=.tmp 92) part_LoomMill_0.1 Tryz.isAgg26 Tryz.sizeOf26 m8 fun mQ nQ kM=>?_
   obtain ⟨x6,mM,h⟩:=bsome h
   obtain ⟨q5,nM,h⟩:=bsome h
   refine E_drawL (g:=mK) (n:=16) [(13,(fun v g w=>RV g.m w q5 v)),(15,(fun v g w=>OB 2015 g w 58 (⟨0,⟨0,0⟩⟩:LoomStop) v))] [0,1,2,3,4,5,6,7,8,9,10,11,12,13,14,15] rfl mixed (by kernel_rfl) (⟨fun _=>up_rv,fun _=>up_ob,trivial⟩) ?_
   refine L_p (fPtr p1 (((1:Int):Int).toNat * 3)) rfl rfl (P_indexAddrA (α:=Vector UInt8 3) Tryz.underlying24 Tryz.sizeOf23 aE (PT.ptr iB) rfl vH) ?_
   refine L_p (fPtr (fPtr p1 (((1:Int):Int).toNat * 3)) (((1:Int):Int).toNat * 1)) rfl rfl (P_indexAddrA (α:=UInt8) Tryz.underlying23 Tryz.sizeOf5 rfl (PT.ptr oK) rfl xH) ?_
   refine L_ld (c:=.int .u8 (UInt8.toNat (mD))) rfl rfl .plain (fun _ _ h=>h.ch) jM rfl ?_
   refine L_p (.int .i64 (((mD).toNat:Int))) rfl rfl (P_u8int Tryz.underlying5 Tryz.underlying3 rfl) ?_
   refine L_p (fPtr p4 0) rfl rfl (Zc at_28_0 kC (OB.ptr m8)) ?_
   refine L_ld (c:=mQ) rfl rfl .plain (fun _ _ h=>⟨h.ch,fun b hb _=>h.below.block b hb⟩) kM rfl ?_
   refine L_p (.int .i64 (((y3.1).Widths).length:Int)) rfl rfl (P_len Tryz.underlying26 rfl nQ) ?_
   refine L_p (.int .i64 (x6)) rfl rfl (P_int rfl rfl (congrArg (Option.map (Value.int .i64)) mM)) ?_
   refine L_p (.int .i64 (y130)) rfl rfl (Zk rfl) ?_
   refine L_p (.int .i64 (y130)) rfl rfl (Zk rfl) ?_
   refine L_p (.int .i64 (j6.1)) rfl rfl (Zk iI) ?_
   refine L_p (.int .i64 ((w64 (y130 + j6.1)))) rfl rfl (P_int rfl rfl rfl) ?_
   refine L_p (.int .i64 ((w64 ((w64 (y130 + j6.1)) - (1:Int))))) rfl rfl (P_int rfl rfl rfl) ?_
   refine L_do (φ:=fun v g w=>RV g.m w q5 v) rfl rfl .plain (fun g w hd=>Zp (g:=g) (vs:=[.int .i64 (y130),.int .i64 ((w64 ((w64 (y130 + j6.1)) - (1:Int))))]) en14 (.cons rfl (.cons rfl .nil)) (wk14  nM) fun g' w' v hs hr=>⟨g',hs,hr⟩) (fun lC hv=>?_)
   obtain ⟨_,_,_,rq139⟩:=hv
   obtain ⟨oE,yH⟩:∃ v,v=(Value.agg (setCh [[.int .i64 0],[.int .i64 0,.int .i64 0]] [(0,.int .i64 (x6)),(1,lC)]).flatten.toArray):=⟨_,rfl⟩
   refine L_pur (c:=oE) rfl rfl .plain (fun _ _ hd=>yH ▸ P_build (vs:=[(0,.int .i64 (x6)),(1,lC)]) [[.int .i64 0],[.int .i64 0,.int .i64 0]] lay_58 rfl rfl (.cons rfl (.cons rfl .nil)) ⟨⟨_,rfl,rfl⟩,⟨⟨_,rfl,cells_size (word (A:=fun g w=>RV g.m w q5 lC) 13 rfl rfl (deps_of hd))⟩,trivial⟩⟩) ?_
   refine L_do (φ:=fun v g w=>OB 2015 g w 58 (⟨0,⟨0,0⟩⟩:LoomStop) v) rfl rfl .plain (fun g w hd=>D_allocX (g:=g) 2015 (⟨0,⟨0,0⟩⟩:LoomStop) Tryz.zeroValue58 (fun m w=>⟨_,(rep_two rep_int (rep_two rep_int rep_int)),rfl⟩) fun g' w' v hs b=>⟨g',hs,b⟩) (fun a7 hv=>?_)
   clear hv
   refine L_nil fun oQ oV hall=>?_
   have hs:=hall.1
   have hfr:=hfr.ext hs
   have m8:=m8.ext hs
   have n7:=n7.ext hs
   have g7:=g7.ext hs
   have pV:=(word_all (A:=fun g w=>RV g.m w q5 lC) 13 rfl hall)
   have pQ:=(show RV _ _ (⟨x6,q5⟩:LoomStop) oE from yH ▸ RV_build rfl (rep_pair (rfl) (rep_last (RV.cells (word_all (A:=fun g w=>RV g.m w q5 lC) 13 rfl hall)))))
   have b170:=(word_all (A:=fun g w=>OB 2015 g w 58 (⟨0,⟨0,0⟩⟩:LoomStop) a7) 15 rfl hall)
   clear hs hall
   refine Ze .plain rfl (D_storeOc (g:=oQ) (v:=oE) Tryz.sizeOf58 rfl b170 rfl pQ fun qQ qV hs b171 cb=>?_)
   clear cb
   have hfr:=hfr.stp hs
   have m8:=m8.stp hs rfl
   have n7:=n7.stp hs
   have g7:=g7.stp hs
   refine Zb (Zd (Zf (L_loadO0 (x:=.tmp 7) Tryz.isAgg28 Tryz.sizeOf28 m8 fun pK rQ oM=>?_)))
   obtain ⟨lB,pM,h⟩:=bsome h
   obtain ⟨mB,qM,h⟩:=bsome h
   obtain ⟨nB,rM,h⟩:=bsome h
   refine L_loadO0 (x:=.tmp 15) Tryz.isAgg58 Tryz.sizeOf58 b171 fun qK sQ sM=>?_
   obtain ⟨z2,tM,h⟩:=bsome h
   refine E_drawL (g:=qQ) (n:=15) [(1,(fun v g w=>RV g.m w lB v)),(3,(fun v g w=>RV g.m w mB v)),(5,(fun v g w=>RV g.m w nB v)),(7,(fun v g w=>∃ y0 y1 y2:Value,v=.tuple #[y0,y1,y2]∧RV g.m w (z2.1:List LoomRun) y0∧RV g.m w (z2.2.1:List Int) y1∧y2=.int .i64 (z2.2.2)))] [0,1,2,3,4,5,6,7,8,9,10,11,12,13,14] rfl mixed (by kernel_rfl) (⟨fun _=>up_rv,fun _=>up_rv,fun _=>up_rv,fun _=>(up_ex fun _=>(up_ex fun _=>(up_ex fun _=>(up_and (up_eq _) (up_and up_rv (up_and up_rv (up_eq _))))))),trivial⟩) ?_
   refine L_ld (c:=pK) rfl rfl .plain (fun _ _ h=>⟨h.ch,fun b hb _=>h.below.block b hb⟩) oM kC ?_
   refine L_do (φ:=fun v g w=>RV g.m w lB v) rfl rfl .plain (fun g w hd=>Zp (g:=g) (vs:=[pK]) en10 (.cons rfl .nil) (wk10 (rQ.ext hd.1) pM) fun g' w' v hs hr=>⟨g',hs,hr⟩) (fun rE hv=>?_)
   obtain ⟨_,_,_,rq173⟩:=hv
   refine L_p z4 rfl rfl (Zk jA) ?_
   refine L_do (φ:=fun v g w=>RV g.m w mB v) rfl rfl .plain (fun g w hd=>Zp (g:=g) (vs:=[z4]) en11 (.cons rfl .nil) (wk11 (n7.ext hd.1) qM) fun g' w' v hs hr=>⟨g',hs,hr⟩) (fun sE hv=>?_)
   obtain ⟨_,_,_,rq175⟩:=hv
   refine L_p j1 rfl rfl (Zk e9) ?_
   refine L_do (φ:=fun v g w=>RV g.m w nB v) rfl rfl .plain (fun g w hd=>Zp (g:=g) (vs:=[j1]) en16 (.cons rfl .nil) (wk16 (g7.ext hd.1) rM) fun g' w' v hs hr=>⟨g',hs,hr⟩) (fun tE hv=>?_)
   obtain ⟨_,_,_,rq177⟩:=hv
   refine L_ld (c:=qK) rfl rfl .plain (fun _ _ h=>⟨h.ch,fun b hb _=>h.below.block b hb⟩) sM rfl ?_
   refine L_do (φ:=fun v g w=>∃ y0 y1 y2:Value,v=.tuple #[y0,y1,y2]∧RV g.m w (z2.1:List LoomRun) y0∧RV g.m w (z2.2.1:List Int) y1∧y2=.int .i64 (z2.2.2)) rfl rfl .plain (fun g w hd=>Zp (g:=g) (vs:=[rE,sE,tE,qK]) en15 (.cons rfl (.cons rfl (.cons rfl (.cons rfl .nil)))) (wk15 (word (A:=fun g w=>RV g.m w lB rE) 1 rfl rfl (deps_of hd)) (word (A:=fun g w=>RV g.m w mB sE) 3 rfl rfl (deps_of hd)) (word (A:=fun g w=>RV g.m w nB tE) 5 rfl rfl (deps_of hd)) (sQ.ext hd.1) tM) fun g' w' v hs hr=>⟨g',hs,hr⟩) (fun rV hv=>?_)
   obtain ⟨_,_,_,j3,l9,_,rfl,zQ,aR,rfl⟩:=hv
   refine L_p (.tuple #[j3,l9,.int .i64 (z2.2.2)]) rfl rfl (Zk rfl) ?_
   refine L_p j3 rfl rfl (Zi rfl rfl) ?_
   refine L_p l9 rfl rfl (Zi rfl rfl) ?_
   refine L_p (.int .i64 (z2.2.2)) rfl rfl (Zi rfl rfl) ?_
   refine L_p j3 rfl rfl (P_assign rfl) ?_
   refine L_p l9 rfl rfl (P_assign rfl) ?_
   refine L_p (.int .i64 (z2.2.2)) rfl rfl (P_assign rfl) ?_
   refine L_nil fun tQ sV hall=>?_
   have hs:=hall.1
   have hfr:=hfr.ext hs
   have m8:=m8.ext hs
   have n7:=n7.ext hs
   have g7:=g7.ext hs
   have b171:=b171.ext hs
   have tV:=(word_all (A:=fun g w=>RV g.m w lB rE) 1 rfl hall)
   have uV:=(word_all (A:=fun g w=>RV g.m w mB sE) 3 rfl hall)
   have vV:=(word_all (A:=fun g w=>RV g.m w nB tE) 5 rfl hall)
   have xV:=(tup3_0 (word_all (A:=fun g w=>∃ y0 y1 y2:Value,Value.tuple #[j3,l9,.int .i64 (z2.2.2)]=.tuple #[y0,y1,y2]∧RV g.m w (z2.1:List LoomRun) y0∧RV g.m w (z2.2.1:List Int) y1∧y2=.int .i64 (z2.2.2)) 7 rfl hall))
   have yV:=(tup3_1 (word_all (A:=fun g w=>∃ y0 y1 y2:Value,Value.tuple #[j3,l9,.int .i64 (z2.2.2)]=.tuple #[y0,y1,y2]∧RV g.m w (z2.1:List LoomRun) y0∧RV g.m w (z2.2.1:List Int) y1∧y2=.int .i64 (z2.2.2)) 7 rfl hall))
   have xB:=(tup3_0 (word_all (A:=fun g w=>∃ y0 y1 y2:Value,Value.tuple #[j3,l9,.int .i64 (z2.2.2)]=.tuple #[y0,y1,y2]∧RV g.m w (z2.1:List LoomRun) y0∧RV g.m w (z2.2.1:List Int) y1∧y2=.int .i64 (z2.2.2)) 7 rfl hall))
   have zV:=(tup3_1 (word_all (A:=fun g w=>∃ y0 y1 y2:Value,Value.tuple #[j3,l9,.int .i64 (z2.2.2)]=.tuple #[y0,y1,y2]∧RV g.m w (z2.1:List LoomRun) y0∧RV g.m w (z2.2.1:List Int) y1∧y2=.int .i64 (z2.2.2)) 7 rfl hall))
   clear hs hall
   refine Zb (Zd (Zf (L_loadO0 (x:=.tmp 7) Tryz.isAgg28 Tryz.sizeOf28 m8 fun sK uQ uM=>?_)))
   obtain ⟨oB,vM,h⟩:=bsome h
   obtain ⟨tB,xM,h⟩:=bsome h
   obtain ⟨vB,yM,h⟩:=bsome h
   refine L_loadO0 (x:=.tmp 15) Tryz.isAgg58 Tryz.sizeOf58 b171 fun tK vQ zM=>?_
   obtain ⟨z3,bN,h⟩:=bsome h
   refine E_drawL (g:=tQ) (n:=13) [(1,(fun v g w=>RV g.m w oB v)),(3,(fun v g w=>RV g.m w tB v)),(5,(fun v g w=>RV g.m w vB v)),(7,(fun v g w=>∃ y0 y1:Value,v=.tuple #[y0,y1]∧RV g.m w (z3.1:List Int) y0∧y1=.int .i64 (z3.2)))] [0,1,2,3,4,5,6,7,8,9,10,11,12] rfl mixed (by kernel_rfl) (⟨fun _=>up_rv,fun _=>up_rv,fun _=>up_rv,fun _=>(up_ex fun _=>(up_ex fun _=>(up_and (up_eq _) (up_and up_rv (up_eq _))))),trivial⟩) ?_
   refine L_ld (c:=sK) rfl rfl .plain (fun _ _ h=>⟨h.ch,fun b hb _=>h.below.block b hb⟩) uM kC ?_
   refine L_do (φ:=fun v g w=>RV g.m w oB v) rfl rfl .plain (fun g w hd=>Zp (g:=g) (vs:=[sK]) en10 (.cons rfl .nil) (wk10 (uQ.ext hd.1) vM) fun g' w' v hs hr=>⟨g',hs,hr⟩) (fun uE hv=>?_)
   obtain ⟨_,_,_,rq226⟩:=hv
   refine L_p z4 rfl rfl (Zk jA) ?_
   refine L_do (φ:=fun v g w=>RV g.m w tB v) rfl rfl .plain (fun g w hd=>Zp (g:=g) (vs:=[z4]) en11 (.cons rfl .nil) (wk11 (n7.ext hd.1) xM) fun g' w' v hs hr=>⟨g',hs,hr⟩) (fun vE hv=>?_)
   obtain ⟨_,_,_,rq228⟩:=hv
   refine L_p j1 rfl rfl (Zk e9) ?_
   refine L_do (φ:=fun v g w=>RV g.m w vB v) rfl rfl .plain (fun g w hd=>Zp (g:=g) (vs:=[j1]) en16 (.cons rfl .nil) (wk16 (g7.ext hd.1) yM) fun g' w' v hs hr=>⟨g',hs,hr⟩) (fun xE hv=>?_)
   obtain ⟨_,_,_,rq230⟩:=hv
   refine L_ld (c:=tK) rfl rfl .plain (fun _ _ h=>⟨h.ch,fun b hb _=>h.below.block b hb⟩) zM rfl ?_
   refine L_do (φ:=fun v g w=>∃ y0 y1:Value,v=.tuple #[y0,y1]∧RV g.m w (z3.1:List Int) y0∧y1=.int .i64 (z3.2)) rfl rfl .plain (fun g w hd=>Zp (g:=g) (vs:=[uE,vE,xE,tK]) en17 (.cons rfl (.cons rfl (.cons rfl (.cons rfl .nil)))) (wk17 (word (A:=fun g w=>RV g.m w oB uE) 1 rfl rfl (deps_of hd)) (word (A:=fun g w=>RV g.m w tB vE) 3 rfl rfl (deps_of hd)) (word (A:=fun g w=>RV g.m w vB xE) 5 rfl rfl (deps_of hd)) (vQ.ext hd.1) bN) fun g' w' v hs hr=>⟨g',hs,hr⟩) (fun aW hv=>?_)
   obtain ⟨_,_,_,u3,_,rfl,bR,rfl⟩:=hv
   refine L_p (.tuple #[u3,.int .i64 (z3.2)]) rfl rfl (Zk rfl) ?_
   refine L_p u3 rfl rfl (Zi rfl rfl) ?_
   refine L_p (.int .i64 (z3.2)) rfl rfl (Zi rfl rfl) ?_
   refine L_p u3 rfl rfl (P_assign rfl) ?_
   refine L_p (.int .i64 (z3.2)) rfl rfl (P_assign rfl) ?_
   refine L_nil fun yE bW hall=>?_
   have hs:=hall.1
   have hfr:=hfr.ext hs
   have n7:=n7.ext hs
   have g7:=g7.ext hs
   have b171:=b171.ext hs
   have xB:=xB.ext hs
   have cW:=(word_all (A:=fun g w=>RV g.m w oB uE) 1 rfl hall)
   have dW:=(word_all (A:=fun g w=>RV g.m w tB vE) 3 rfl hall)
   have eW:=(word_all (A:=fun g w=>RV g.m w vB xE) 5 rfl hall)
   have gW:=(tup2_0 (word_all (A:=fun g w=>∃ y0 y1:Value,Value.tuple #[u3,.int .i64 (z3.2)]=.tuple #[y0,y1]∧RV g.m w (z3.1:List Int) y0∧y1=.int .i64 (z3.2)) 7 rfl hall))
   have zE:=(tup2_0 (word_all (A:=fun g w=>∃ y0 y1:Value,Value.tuple #[u3,.int .i64 (z3.2)]=.tuple #[y0,y1]∧RV g.m w (z3.1:List Int) y0∧y1=.int .i64 (z3.2)) 7 rfl hall))
   clear hs hall
   refine Zb (Zd (Zq h (fun (s:Unit) e w=>∃ (g:Gh) ,Fr gI wI g w∧e 8=z4∧RV g.m w (y3.2:List LoomOrder) z4∧e 12=j1∧RV g.m w (d7.1:List LoomRun) j1∧e 15=a7∧OB 2015 g w 58 ((⟨x6,q5⟩:LoomStop):LoomStop) a7∧e 16=j3∧RV g.m w ((z2.1:List LoomRun):List LoomRun) j3∧e 19=u3∧RV g.m w ((z3.1:List Int):List Int) u3) (fun X297 oJ cN h=>?_) ?_))
   ·obtain ⟨k9, hx, h⟩ := bsome h
    refine E_join (fun e w=>∃ (g:Gh) ,Fr gI wI g w∧e 8=z4∧RV g.m w (y3.2:List LoomOrder) z4∧e 12=j1∧RV g.m w (d7.1:List LoomRun) j1∧e 15=a7∧OB 2015 g w 58 ((⟨x6,q5⟩:LoomStop):LoomStop) a7∧e 16=j3∧RV g.m w ((z2.1:List LoomRun):List LoomRun) j3∧e 19=u3∧RV g.m w ((z3.1:List Int):List Int) u3∧e 138=.bool (k9)) (fun Q' hQ=>?_) (fun uS iW hR=>?_)
    ·replace h := hx
     clear hx
     refine Za (Zn (.int .i64 (z2.2.2)) rfl rfl ?_)
     refine EL_in (.bool ((z2.2.2 != (0:Int)))) rfl rfl rfl rfl ?_
     refine Zn (.bool ((z2.2.2 != (0:Int)))) rfl rfl ?_
     rcases Zt h with ⟨u9,h⟩ | ⟨u9,h⟩
     ·refine EL_s rfl rfl u9 rfl rfl ?_
      refine EL_s rfl rfl u9 rfl rfl ?_
      refine EL_p (.bool true) (Zl (b:=(z2.2.2 != (0:Int))) rfl (pick_t u9 rfl)) rfl ?_
      refine EL_dead 7 rfl ?_
      refine Zb ?_
      obtain rfl:=sinj h
      exact hQ _ _ ⟨yE,hfr,jA,n7,e9,g7,rfl,b171,rfl,xB,rfl,zE,rfl⟩
     ·refine EL_y (.int .i64 (z3.2)) (Zk rfl) rfl rfl u9 rfl ?_
      refine EL_y (.bool ((z3.2 != (0:Int)))) (P_int rfl rfl rfl) rfl rfl u9 rfl ?_
      refine EL_p (.bool ((z3.2 != (0:Int)))) (Zl (b:=(z2.2.2 != (0:Int))) rfl (pick_f u9 rfl)) rfl ?_
      refine Zn (.bool ((z3.2 != (0:Int)))) rfl rfl ?_
      rcases Zt h with ⟨t8,h⟩ | ⟨t8,h⟩
      ·refine EL_s rfl rfl t8 rfl rfl ?_
       iterate 4 refine EL_s rfl rfl t8 rfl rfl ?_
       refine EL_p (.bool true) (Zl (b:=(z3.2 != (0:Int))) rfl (pick_t t8 rfl)) rfl ?_
       refine Zb ?_
       obtain rfl:=sinj h
       exact hQ _ _ ⟨yE,hfr,jA,n7,e9,g7,rfl,b171,rfl,xB,rfl,zE,rfl⟩
      ·refine EL_y j3 (Zk rfl) rfl rfl t8 rfl ?_
       refine EL_y (.int .i64 (((z2.1:List LoomRun)).length:Int)) (P_len Tryz.underlying48 rfl xB) rfl rfl t8 rfl ?_
       refine EL_y j1 (Zk e9) rfl rfl t8 rfl ?_
       refine EL_y (.int .i64 ((d7.1).length:Int)) (P_len Tryz.underlying48 rfl g7) rfl rfl t8 rfl ?_
       refine EL_y (.bool (((((z2.1:List LoomRun)).length:Int) != ((d7.1).length:Int)))) (P_int rfl rfl rfl) rfl rfl t8 rfl ?_
       refine EL_p (.bool (((((z2.1:List LoomRun)).length:Int) != ((d7.1).length:Int)))) (Zl (b:=(z3.2 != (0:Int))) rfl (pick_f t8 rfl)) rfl ?_
       refine Zb ?_
       obtain rfl:=sinj h
       exact hQ _ _ ⟨yE,hfr,jA,n7,e9,g7,rfl,b171,rfl,xB,rfl,zE,rfl⟩
    ·clear hx
     obtain ⟨xQ,hfr,uK,vK,jI,kI,lI,mI,nI,oI,pI,qI,mC⟩:=hR
     rcases Zt h with ⟨sD,h⟩ | ⟨sD,h⟩
     ·refine E_cond_true (Eq.trans (show ev _ _ = .bool (k9) from mC) (congrArg Value.bool sD)) ?_
      refine Zf (Za (Zg (.bool false) rfl rfl ?_))
      refine Zb (Zd (E_ret (thn_r ?_)))
      obtain rfl:=sinj h
      exact end1 rfl rfl (show _=.bool false from rfl) ⟨_,hfr,rfl⟩
     ·refine E_cond_false (Eq.trans (show ev _ _ = .bool (k9) from mC) (congrArg Value.bool sD)) ?_
      exact Zu (Zd (cN () _ _ ⟨xQ,hfr,uK,vK,jI,kI,lI,mI,nI,oI,pI,qI⟩ h))
   ·rintro _ vS jW ⟨yQ, hfr, xK, yK, rI, sI, tI, uI, vI, xI, yI, zI⟩ h
    refine Zq h (fun (s:Unit) e w=>∃ (g:Gh) ,Fr gI wI g w) (fun X2987 mH zK h=>?_) ?_
    ·refine Zf (Za (Zg (.int .i64 (0)) rfl rfl ?_))
     refine Zb (Zd (Zr ?_))
     refine E_lp h (fun (s:Int) e w=>∃ (g:Gh) ,Fr gI wI g w∧e 8=z4∧RV g.m w (y3.2:List LoomOrder) z4∧e 12=j1∧RV g.m w (d7.1:List LoomRun) j1∧e 15=a7∧OB 2015 g w 58 ((⟨x6,q5⟩:LoomStop):LoomStop) a7∧e 16=j3∧RV g.m w ((z2.1:List LoomRun):List LoomRun) j3∧e 19=u3∧RV g.m w ((z3.1:List Int):List Int) u3∧e 21=.int .i64 (s)) ⟨yQ,hfr,xK,yK,rI,sI,tI,uI,vI,xI,yI,zI,rfl⟩ (fun X2988 nH aL=>?_)
     rintro o0 zR xS ⟨zH,hfr,aJ,bJ,cF,dF,eF,iF,qC,rC,nF,oF,tC⟩ h
     refine Zq h (fun (s:Unit) e w=>∃ (g:Gh) ,Fr gI wI g w∧e 8=z4∧RV g.m w (y3.2:List LoomOrder) z4∧e 12=j1∧RV g.m w (d7.1:List LoomRun) j1∧e 15=a7∧OB 2015 g w 58 ((⟨x6,q5⟩:LoomStop):LoomStop) a7∧e 16=j3∧RV g.m w ((z2.1:List LoomRun):List LoomRun) j3∧e 19=u3∧RV g.m w ((z3.1:List Int):List Int) u3∧e 21=.int .i64 (o0)) (fun X2991 sH bL h=>?_) ?_
     ·refine Zf (Za (Zo tC rfl ?_))
      refine Zo qC rfl ?_
      refine EL_p (.int .i64 (((z2.1:List LoomRun)).length:Int)) (P_len Tryz.underlying48 rfl rC) rfl ?_
      refine EL_p (.bool ((decide (o0 < (((z2.1:List LoomRun)).length:Int))))) (P_int rfl rfl rfl) rfl ?_
      refine Zb (Zd ?_)
      rcases Zt h with ⟨uC,h⟩ | ⟨uC,h⟩
      ·refine E_ct uC rfl ?_
       exact Zu (Zd (bL () _ _ ⟨zH,hfr,aJ,bJ,cF,dF,eF,iF,qC,rC,nF,oF,tC⟩ h))
      ·refine E_cf uC rfl ?_
       refine E_exit ?_
       refine thn_e ?_
       refine thn_e ?_
       refine blk_hit ?_
       exact Zd (zK () _ _ ⟨zH,hfr⟩ h)
     ·rintro _ aS yS ⟨aI, hfr, oA, c7, u7, d3, y9, t5, n9, i5, z9, x5, b7⟩ h
      refine Zq h (fun (s:Unit) e w=>∃ (g:Gh) ,Fr gI wI g w∧e 8=z4∧RV g.m w (y3.2:List LoomOrder) z4∧e 12=j1∧RV g.m w (d7.1:List LoomRun) j1∧e 15=a7∧OB 2015 g w 58 ((⟨x6,q5⟩:LoomStop):LoomStop) a7∧e 16=j3∧RV g.m w ((z2.1:List LoomRun):List LoomRun) j3∧e 19=u3∧RV g.m w ((z3.1:List Int):List Int) u3∧e 21=.int .i64 (o0)) (fun X4331 oH cL h=>?_) ?_
      ·refine Zr ?_
       refine Zf (Za (Zo n9 rfl ?_))
       refine Zo b7 rfl ?_
       obtain ⟨u0,bE,h⟩:=bsome h
       refine EL_p (ePtr j3 o0 3) (Zh (α:=LoomRun) Tryz.underlying48 Tryz.sizeOf65 rfl i5 rfl bE) rfl ?_
       have dN:=PT_idx i5 bE
       refine Ze .plain rfl (D_load (g:=aI) Tryz.isAgg65 Tryz.sizeOf65 rfl dN fun eN tD=>?_)
       refine Ze .plain rfl (D_allocOc (g:=aI) 2022 (⟨0,0,0⟩:LoomRun) Tryz.zeroValue65 (fun m w=>⟨_,(rep_two rep_int (rep_two rep_int rep_int)),rfl⟩) fun gN zS v6 hs b4335 cb=>?_)
       have hfr:=hfr.stp hs
       have c7:=c7.stp hs
       have d3:=d3.stp hs
       have t5:=t5.stp hs rfl
       have i5:=i5.stp hs
       have x5:=x5.stp hs
       have tD:=tD.stp hs
       clear cb
       refine Ze .plain rfl (D_storeOc (g:=gN) (v:=eN) Tryz.sizeOf65 rfl b4335 rfl tD fun eC eT hs b4336 cb=>?_)
       clear cb
       have hfr:=hfr.stp hs
       have c7:=c7.stp hs
       have d3:=d3.stp hs
       have t5:=t5.stp hs rfl
       have i5:=i5.stp hs
       have x5:=x5.stp hs
       refine Zb (Zd (Zq h (fun (s:Unit) e w=>∃ (g:Gh) ,Fr gI wI g w∧e 8=z4∧RV g.m w (y3.2:List LoomOrder) z4∧e 12=j1∧RV g.m w (d7.1:List LoomRun) j1∧e 15=a7∧OB 2015 g w 58 ((⟨x6,q5⟩:LoomStop):LoomStop) a7∧e 16=j3∧RV g.m w ((z2.1:List LoomRun):List LoomRun) j3∧e 19=u3∧RV g.m w ((z3.1:List Int):List Int) u3∧e 21=.int .i64 (o0)∧e 22=v6∧OB 2022 g w 65 (u0:LoomRun) v6) (fun X4705 qH dL h=>?_) ?_))
       ·obtain ⟨d9, hx, h⟩ := bsome h
        refine E_join (fun e w=>∃ (g:Gh) ,Fr gI wI g w∧e 8=z4∧RV g.m w (y3.2:List LoomOrder) z4∧e 12=j1∧RV g.m w (d7.1:List LoomRun) j1∧e 15=a7∧OB 2015 g w 58 ((⟨x6,q5⟩:LoomStop):LoomStop) a7∧e 16=j3∧RV g.m w ((z2.1:List LoomRun):List LoomRun) j3∧e 19=u3∧RV g.m w ((z3.1:List Int):List Int) u3∧e 21=.int .i64 (o0)∧e 22=v6∧OB 2022 g w 65 (u0:LoomRun) v6∧e 177=.bool (d9)) (fun Q' hQ=>?_) (fun bS lT hR=>?_)
        ·replace h := hx
         clear hx
         refine L_loadO (x:=.tmp 149) part_LoomRun_0.1 Tryz.isAgg3 Tryz.sizeOf3 b4336 fun mT iN jB=>?_
         obtain rfl:=Zj.1 iN
         rcases Zt h with ⟨i3,h⟩ | ⟨i3,h⟩
         ·refine E_drawL (g := eC) (n := 29) [] [0, 1, 2, 3, 4, 5, 6, 7, 8, 9, 10, 11, 12, 13, 14, 15, 16, 17, 18, 19, 20, 21, 22, 23, 24, 25, 26, 27, 28] rfl mixed (by kernel_rfl) trivial ?_
          refine L_p (fPtr v6 0) rfl rfl (Zc at_65_0 rfl (OB.ptr b4336)) ?_
          refine L_ld (c:=.int .i64 ((u0).Order)) rfl rfl .plain (fun _ _ h=>⟨h.ch,fun b hb _=>h.below.block b hb⟩) jB rfl ?_
          refine L_p (.int .i64 (o0)) rfl rfl (Zk b7) ?_
          refine L_p (.bool (((u0).Order != o0))) rfl rfl (P_int rfl rfl rfl) ?_
          refine L_p (.bool (((u0).Order != o0))) rfl rfl (Zk rfl) ?_
          iterate 8 refine L_s rfl rfl rfl i3 rfl ?_
          refine L_p (.bool true) rfl rfl (Zl (b:=((u0).Order != o0)) rfl (pick_t i3 rfl)) ?_
          refine L_dead (fun _=>rfl) 15 rfl ?_
          refine L_nl fun jN nT hs=>?_
          have hfr:=hfr.ext hs
          have c7:=c7.ext hs
          have d3:=d3.ext hs
          have t5:=t5.ext hs
          have i5:=i5.ext hs
          have x5:=x5.ext hs
          have b4336:=b4336.ext hs
          clear hs
          refine Zb ?_
          obtain rfl:=sinj h
          exact hQ _ _ ⟨jN,hfr,oA,c7,u7,d3,y9,t5,n9,i5,z9,x5,b7,rfl,b4336,rfl⟩
         ·refine L_loadO (x := .tmp 154) part_LoomRun_1.1 Tryz.isAgg3 Tryz.sizeOf3 b4336 fun oT kN vC => ?_
          obtain rfl:=Zj.1 kN
          obtain ⟨m7,kB,h⟩:=bsome h
          have iC:=PT_idx d3 kB
          have lN:=Zm (part_LoomRun_1).1 iC
          refine Zs (x:=.tmp 159) Tryz.isAgg3 Tryz.sizeOf3 lN fun pT mN xC=>?_
          obtain rfl:=Zj.1 mN
          rcases Zt h with ⟨i6,h⟩ | ⟨i6,h⟩
          ·refine E_drawL (g := eC) (n := 29) [] [0, 1, 2, 3, 4, 5, 6, 7, 8, 9, 10, 11, 12, 13, 14, 15, 16, 17, 18, 19, 20, 21, 22, 23, 24, 25, 26, 27, 28] rfl mixed (by kernel_rfl) trivial ?_
           refine L_p (fPtr v6 0) rfl rfl (Zc at_65_0 rfl (OB.ptr b4336)) ?_
           refine L_ld (c:=.int .i64 ((u0).Order)) rfl rfl .plain (fun _ _ h=>⟨h.ch,fun b hb _=>h.below.block b hb⟩) jB rfl ?_
           refine L_p (.int .i64 (o0)) rfl rfl (Zk b7) ?_
           refine L_p (.bool (((u0).Order != o0))) rfl rfl (P_int rfl rfl rfl) ?_
           refine L_p (.bool (((u0).Order != o0))) rfl rfl (Zk rfl) ?_
           refine L_y (fPtr v6 1) rfl rfl rfl rfl i3 (Zc at_65_1 rfl (OB.ptr b4336)) ?_
           refine L_ld (c:=.int .i64 ((u0).Loom)) rfl rfl (.yes2 rfl rfl i3) (fun _ _ h=>⟨h.ch,fun b hb _=>h.below.block b hb⟩) vC rfl ?_
           refine L_y j1 rfl rfl rfl rfl i3 (Zk u7) ?_
           refine L_y (.int .i64 (o0)) rfl rfl rfl rfl i3 (Zk b7) ?_
           refine L_y (ePtr j1 o0 3) rfl rfl rfl rfl i3 (Zh (α:=LoomRun) Tryz.underlying48 Tryz.sizeOf65 rfl d3 rfl kB) ?_
           refine L_y (fPtr (ePtr j1 o0 3) 1) rfl rfl rfl rfl i3 (Zc at_65_1 rfl (PT.ptr iC)) ?_
           refine L_ld (c:=.int .i64 ((m7).Loom)) rfl rfl (.yes2 rfl rfl i3) (fun _ _ h=>h.ch) xC rfl ?_
           refine L_y (.bool (((u0).Loom != (m7).Loom))) rfl rfl rfl rfl i3 (P_int rfl rfl rfl) ?_
           refine L_p (.bool (((u0).Loom != (m7).Loom))) rfl rfl (Zl (b:=((u0).Order != o0)) rfl (pick_f i3 rfl)) ?_
           refine L_p (.bool (((u0).Loom != (m7).Loom))) rfl rfl (Zk rfl) ?_
           iterate 8 refine L_s rfl rfl rfl i6 rfl ?_
           refine L_p (.bool true) rfl rfl (Zl (b:=((u0).Loom != (m7).Loom)) rfl (pick_t i6 rfl)) ?_
           refine L_dead (fun _=>rfl) 5 rfl ?_
           refine L_nl fun nN sT hs=>?_
           have hfr:=hfr.ext hs
           have c7:=c7.ext hs
           have d3:=d3.ext hs
           have t5:=t5.ext hs
           have i5:=i5.ext hs
           have x5:=x5.ext hs
           have b4336:=b4336.ext hs
           clear hs
           refine Zb ?_
           obtain rfl:=sinj h
           exact hQ _ _ ⟨nN,hfr,oA,c7,u7,d3,y9,t5,n9,i5,z9,x5,b7,rfl,b4336,rfl⟩
          ·refine L_loadO (x := .tmp 164) part_LoomRun_2.1 Tryz.isAgg3 Tryz.sizeOf3 b4336 fun tT oN cE => ?_
           obtain rfl:=Zj.1 oN
           obtain ⟨o8,yC,h⟩:=bsome h
           have uD:=PT_idx d3 yC
           have pN:=Zm (part_LoomRun_2).1 uD
           refine Zs (x:=.tmp 169) Tryz.isAgg3 Tryz.sizeOf3 pN fun uT qN dE=>?_
           obtain rfl:=Zj.1 qN
           rcases Zt h with ⟨o9,h⟩ | ⟨o9,h⟩
           ·refine E_drawL (g := eC) (n := 29) [] [0, 1, 2, 3, 4, 5, 6, 7, 8, 9, 10, 11, 12, 13, 14, 15, 16, 17, 18, 19, 20, 21, 22, 23, 24, 25, 26, 27, 28] rfl mixed (by kernel_rfl) trivial ?_
            refine L_p (fPtr v6 0) rfl rfl (Zc at_65_0 rfl (OB.ptr b4336)) ?_
            refine L_ld (c:=.int .i64 ((u0).Order)) rfl rfl .plain (fun _ _ h=>⟨h.ch,fun b hb _=>h.below.block b hb⟩) jB rfl ?_
            refine L_p (.int .i64 (o0)) rfl rfl (Zk b7) ?_
            refine L_p (.bool (((u0).Order != o0))) rfl rfl (P_int rfl rfl rfl) ?_
            refine L_p (.bool (((u0).Order != o0))) rfl rfl (Zk rfl) ?_
            refine L_y (fPtr v6 1) rfl rfl rfl rfl i3 (Zc at_65_1 rfl (OB.ptr b4336)) ?_
            refine L_ld (c:=.int .i64 ((u0).Loom)) rfl rfl (.yes2 rfl rfl i3) (fun _ _ h=>⟨h.ch,fun b hb _=>h.below.block b hb⟩) vC rfl ?_
            refine L_y j1 rfl rfl rfl rfl i3 (Zk u7) ?_
            refine L_y (.int .i64 (o0)) rfl rfl rfl rfl i3 (Zk b7) ?_
            refine L_y (ePtr j1 o0 3) rfl rfl rfl rfl i3 (Zh (α:=LoomRun) Tryz.underlying48 Tryz.sizeOf65 rfl d3 rfl kB) ?_
            refine L_y (fPtr (ePtr j1 o0 3) 1) rfl rfl rfl rfl i3 (Zc at_65_1 rfl (PT.ptr iC)) ?_
            refine L_ld (c:=.int .i64 ((m7).Loom)) rfl rfl (.yes2 rfl rfl i3) (fun _ _ h=>h.ch) xC rfl ?_
            refine L_y (.bool (((u0).Loom != (m7).Loom))) rfl rfl rfl rfl i3 (P_int rfl rfl rfl) ?_
            refine L_p (.bool (((u0).Loom != (m7).Loom))) rfl rfl (Zl (b:=((u0).Order != o0)) rfl (pick_f i3 rfl)) ?_
            refine L_p (.bool (((u0).Loom != (m7).Loom))) rfl rfl (Zk rfl) ?_
            refine L_y (fPtr v6 2) rfl rfl rfl rfl i6 (Zc at_65_2 rfl (OB.ptr b4336)) ?_
            refine L_ld (c:=.int .i64 ((u0).From)) rfl rfl (.yes2 rfl rfl i6) (fun _ _ h=>⟨h.ch,fun b hb _=>h.below.block b hb⟩) cE rfl ?_
            refine L_y j1 rfl rfl rfl rfl i6 (Zk u7) ?_
            refine L_y (.int .i64 (o0)) rfl rfl rfl rfl i6 (Zk b7) ?_
            refine L_y (ePtr j1 o0 3) rfl rfl rfl rfl i6 (Zh (α:=LoomRun) Tryz.underlying48 Tryz.sizeOf65 rfl d3 rfl yC) ?_
            refine L_y (fPtr (ePtr j1 o0 3) 2) rfl rfl rfl rfl i6 (Zc at_65_2 rfl (PT.ptr uD)) ?_
            refine L_ld (c:=.int .i64 ((o8).From)) rfl rfl (.yes2 rfl rfl i6) (fun _ _ h=>h.ch) dE rfl ?_
            refine L_y (.bool ((decide ((u0).From < (o8).From)))) rfl rfl rfl rfl i6 (P_int rfl rfl rfl) ?_
            refine L_p (.bool ((decide ((u0).From < (o8).From)))) rfl rfl (Zl (b:=((u0).Loom != (m7).Loom)) rfl (pick_f i6 rfl)) ?_
            refine L_p (.bool ((decide ((u0).From < (o8).From)))) rfl rfl (Zk rfl) ?_
            iterate 3 refine L_s rfl rfl rfl o9 rfl ?_
            refine L_p (.bool true) rfl rfl (Zl (b:=(decide ((u0).From < (o8).From))) rfl (pick_t o9 rfl)) ?_
            refine L_nl fun rN vT hs=>?_
            have hfr:=hfr.ext hs
            have c7:=c7.ext hs
            have d3:=d3.ext hs
            have t5:=t5.ext hs
            have i5:=i5.ext hs
            have x5:=x5.ext hs
            have b4336:=b4336.ext hs
            clear hs
            refine Zb ?_
            obtain rfl:=sinj h
            exact hQ _ _ ⟨rN,hfr,oA,c7,u7,d3,y9,t5,n9,i5,z9,x5,b7,rfl,b4336,rfl⟩
           ·refine L_loadO (x := .tmp 174) part_LoomRun_2.1 Tryz.isAgg3 Tryz.sizeOf3 b4336 fun xT sN eL => ?_
            obtain rfl:=Zj.1 sN
            refine E_drawL (g:=eC) (n:=29) [] [0,1,2,3,4,5,6,7,8,9,10,11,12,13,14,15,16,17,18,19,20,21,22,23,24,25,26,27,28] rfl mixed (by kernel_rfl) trivial ?_
            refine L_p (fPtr v6 0) rfl rfl (Zc at_65_0 rfl (OB.ptr b4336)) ?_
            refine L_ld (c:=.int .i64 ((u0).Order)) rfl rfl .plain (fun _ _ h=>⟨h.ch,fun b hb _=>h.below.block b hb⟩) jB rfl ?_
            refine L_p (.int .i64 (o0)) rfl rfl (Zk b7) ?_
            refine L_p (.bool (((u0).Order != o0))) rfl rfl (P_int rfl rfl rfl) ?_
            refine L_p (.bool (((u0).Order != o0))) rfl rfl (Zk rfl) ?_
            refine L_y (fPtr v6 1) rfl rfl rfl rfl i3 (Zc at_65_1 rfl (OB.ptr b4336)) ?_
            refine L_ld (c:=.int .i64 ((u0).Loom)) rfl rfl (.yes2 rfl rfl i3) (fun _ _ h=>⟨h.ch,fun b hb _=>h.below.block b hb⟩) vC rfl ?_
            refine L_y j1 rfl rfl rfl rfl i3 (Zk u7) ?_
            refine L_y (.int .i64 (o0)) rfl rfl rfl rfl i3 (Zk b7) ?_
            refine L_y (ePtr j1 o0 3) rfl rfl rfl rfl i3 (Zh (α:=LoomRun) Tryz.underlying48 Tryz.sizeOf65 rfl d3 rfl kB) ?_
            refine L_y (fPtr (ePtr j1 o0 3) 1) rfl rfl rfl rfl i3 (Zc at_65_1 rfl (PT.ptr iC)) ?_
            refine L_ld (c:=.int .i64 ((m7).Loom)) rfl rfl (.yes2 rfl rfl i3) (fun _ _ h=>h.ch) xC rfl ?_
            refine L_y (.bool (((u0).Loom != (m7).Loom))) rfl rfl rfl rfl i3 (P_int rfl rfl rfl) ?_
            refine L_p (.bool (((u0).Loom != (m7).Loom))) rfl rfl (Zl (b:=((u0).Order != o0)) rfl (pick_f i3 rfl)) ?_
            refine L_p (.bool (((u0).Loom != (m7).Loom))) rfl rfl (Zk rfl) ?_
            refine L_y (fPtr v6 2) rfl rfl rfl rfl i6 (Zc at_65_2 rfl (OB.ptr b4336)) ?_
            refine L_ld (c:=.int .i64 ((u0).From)) rfl rfl (.yes2 rfl rfl i6) (fun _ _ h=>⟨h.ch,fun b hb _=>h.below.block b hb⟩) cE rfl ?_
            refine L_y j1 rfl rfl rfl rfl i6 (Zk u7) ?_
            refine L_y (.int .i64 (o0)) rfl rfl rfl rfl i6 (Zk b7) ?_
            refine L_y (ePtr j1 o0 3) rfl rfl rfl rfl i6 (Zh (α:=LoomRun) Tryz.underlying48 Tryz.sizeOf65 rfl d3 rfl yC) ?_
            refine L_y (fPtr (ePtr j1 o0 3) 2) rfl rfl rfl rfl i6 (Zc at_65_2 rfl (PT.ptr uD)) ?_
            refine L_ld (c:=.int .i64 ((o8).From)) rfl rfl (.yes2 rfl rfl i6) (fun _ _ h=>h.ch) dE rfl ?_
            refine L_y (.bool ((decide ((u0).From < (o8).From)))) rfl rfl rfl rfl i6 (P_int rfl rfl rfl) ?_
            refine L_p (.bool ((decide ((u0).From < (o8).From)))) rfl rfl (Zl (b:=((u0).Loom != (m7).Loom)) rfl (pick_f i6 rfl)) ?_
            refine L_p (.bool ((decide ((u0).From < (o8).From)))) rfl rfl (Zk rfl) ?_
            refine L_y (fPtr v6 2) rfl rfl rfl rfl o9 (Zc at_65_2 rfl (OB.ptr b4336)) ?_
            refine L_ld (c:=.int .i64 ((u0).From)) rfl rfl (.yes2 rfl rfl o9) (fun _ _ h=>⟨h.ch,fun b hb _=>h.below.block b hb⟩) eL rfl ?_
            refine L_y (.bool ((decide ((u0).From > (300:Int))))) rfl rfl rfl rfl o9 (P_int rfl rfl rfl) ?_
            refine L_p (.bool ((decide ((u0).From > (300:Int))))) rfl rfl (Zl (b:=(decide ((u0).From < (o8).From))) rfl (pick_f o9 rfl)) ?_
            refine L_nl fun tN yT hs=>?_
            have hfr:=hfr.ext hs
            have c7:=c7.ext hs
            have d3:=d3.ext hs
            have t5:=t5.ext hs
            have i5:=i5.ext hs
            have x5:=x5.ext hs
            have b4336:=b4336.ext hs
            clear hs
            refine Zb ?_
            obtain rfl:=sinj h
            exact hQ _ _ ⟨tN,hfr,oA,c7,u7,d3,y9,t5,n9,i5,z9,x5,b7,rfl,b4336,rfl⟩
        ·clear hx
         obtain ⟨uN,hfr,cJ,dJ,pF,qF,rF,sF,tF,uF,vF,xF,yF,zF,aG,yB⟩:=hR
         rcases Zt h with ⟨aD,h⟩ | ⟨aD,h⟩
         ·refine E_cond_true (Eq.trans (show ev _ _ = .bool (d9) from yB) (congrArg Value.bool aD)) ?_
          refine Zf (Za (Zg (.bool false) rfl rfl ?_))
          refine Zb (Zd (E_ret (thn_r ?_)))
          refine blk_r ?_
          refine thn_r ?_
          refine thn_r ?_
          refine blk_r ?_
          refine thn_r ?_
          obtain rfl:=sinj h
          exact end1 rfl rfl (show _=.bool false from rfl) ⟨_,hfr,rfl⟩
         ·refine E_cond_false (Eq.trans (show ev _ _ = .bool (d9) from yB) (congrArg Value.bool aD)) ?_
          exact Zu (Zd (dL () _ _ ⟨uN,hfr,cJ,dJ,pF,qF,rF,sF,tF,uF,vF,xF,yF,zF,aG⟩ h))
       ·rintro _ cS zT ⟨vD, hfr, pA, o7, xA, v7, c8, o3, yA, e8, zA, g8, bA, i8, l5⟩ h
        refine Zq h (fun (s:Unit) e w=>∃ (g:Gh) ,Fr gI wI g w∧e 8=z4∧RV g.m w (y3.2:List LoomOrder) z4∧e 12=j1∧RV g.m w (d7.1:List LoomRun) j1∧e 15=a7∧OB 2015 g w 58 ((⟨x6,q5⟩:LoomStop):LoomStop) a7∧e 16=j3∧RV g.m w ((z2.1:List LoomRun):List LoomRun) j3∧e 19=u3∧RV g.m w ((z3.1:List Int):List Int) u3∧e 21=.int .i64 (o0)∧e 22=v6∧OB 2022 g w 65 (u0:LoomRun) v6) (fun X5327 pH gL h=>?_) ?_
        ·obtain ⟨a9, hx, h⟩ := bsome h
         refine E_join (fun e w=>∃ (g:Gh) ,Fr gI wI g w∧e 8=z4∧RV g.m w (y3.2:List LoomOrder) z4∧e 12=j1∧RV g.m w (d7.1:List LoomRun) j1∧e 15=a7∧OB 2015 g w 58 ((⟨x6,q5⟩:LoomStop):LoomStop) a7∧e 16=j3∧RV g.m w ((z2.1:List LoomRun):List LoomRun) j3∧e 19=u3∧RV g.m w ((z3.1:List Int):List Int) u3∧e 21=.int .i64 (o0)∧e 22=v6∧OB 2022 g w 65 (u0:LoomRun) v6∧e 204=.bool (a9)) (fun Q' hQ=>?_) (fun dS aU hR=>?_)
         ·replace h := hx
          clear hx
          refine L_loadO (x:=.tmp 178) part_LoomRun_1.1 Tryz.isAgg3 Tryz.sizeOf3 l5 fun bU vN bD=>?_
          obtain rfl:=Zj.1 vN
          refine L_loadO (x:=.tmp 180) part_LoomStop_0.1 Tryz.isAgg3 Tryz.sizeOf3 o3 fun cU xN cD=>?_
          obtain rfl:=Zj.1 xN
          rcases Zt h with ⟨e7,h⟩ | ⟨e7,h⟩
          ·refine L_loadO (x := .tmp 184) part_LoomRun_2.1 Tryz.isAgg3 Tryz.sizeOf3 l5 fun dU yN eE => ?_
           obtain rfl:=Zj.1 yN
           refine L_loadO (x:=.tmp 187) (SubS.comp part_LoomStop_1 part_Span_1 rfl).1 Tryz.isAgg3 Tryz.sizeOf3 o3 fun eU zN gE=>?_
           obtain rfl:=Zj.1 zN
           rcases Zt h with ⟨j7,h⟩ | ⟨j7,h⟩
           ·refine L_loadO (x := .tmp 192) part_LoomRun_2.1 Tryz.isAgg3 Tryz.sizeOf3 l5 fun gU aO iL => ?_
            obtain rfl:=Zj.1 aO
            obtain ⟨mA,iE,h⟩:=bsome h
            have bI:=PT_idx o7 iE
            have bO:=Zm (part_LoomOrder_2).1 bI
            refine Zs (x:=.tmp 197) Tryz.isAgg3 Tryz.sizeOf3 bO fun iU cO jL=>?_
            obtain rfl:=Zj.1 cO
            refine L_loadO (x:=.tmp 201) (SubS.comp part_LoomStop_1 part_Span_0 rfl).1 Tryz.isAgg3 Tryz.sizeOf3 o3 fun jU dO kL=>?_
            obtain rfl:=Zj.1 dO
            refine E_drawL (g:=vD) (n:=27) [] [0,1,2,3,4,5,6,7,8,9,10,11,12,13,14,15,16,17,18,19,20,21,22,23,24,25,26] rfl mixed (by kernel_rfl) trivial ?_
            refine L_p (fPtr v6 1) rfl rfl (Zc at_65_1 i8 (OB.ptr l5)) ?_
            refine L_ld (c:=.int .i64 ((u0).Loom)) rfl rfl .plain (fun _ _ h=>⟨h.ch,fun b hb _=>h.below.block b hb⟩) bD rfl ?_
            refine L_p (fPtr a7 0) rfl rfl (Zc at_58_0 c8 (OB.ptr o3)) ?_
            refine L_ld (c:=.int .i64 (x6)) rfl rfl .plain (fun _ _ h=>⟨h.ch,fun b hb _=>h.below.block b hb⟩) cD rfl ?_
            refine L_p (.bool (((u0).Loom == x6))) rfl rfl (P_int rfl rfl rfl) ?_
            refine L_p (.bool (((u0).Loom == x6))) rfl rfl (Zk rfl) ?_
            refine L_y (fPtr v6 2) rfl rfl rfl rfl e7 (Zc at_65_2 i8 (OB.ptr l5)) ?_
            refine L_ld (c:=.int .i64 ((u0).From)) rfl rfl (.yes2 rfl rfl e7) (fun _ _ h=>⟨h.ch,fun b hb _=>h.below.block b hb⟩) eE rfl ?_
            refine L_y (fPtr a7 1) rfl rfl rfl rfl e7 (Zc at_58_1 c8 (OB.ptr o3)) ?_
            refine L_y (fPtr a7 2) rfl rfl rfl rfl e7 (P_fieldAddr2 (o1:=1) rfl at_55_1 rfl (OB.ptr o3)) ?_
            refine L_ld (c:=.int .i64 ((q5).High)) rfl rfl (.yes2 rfl rfl e7) (fun _ _ h=>⟨h.ch,fun b hb _=>h.below.block b hb⟩) gE rfl ?_
            refine L_y (.bool ((decide ((u0).From ≤ (q5).High)))) rfl rfl rfl rfl e7 (P_int rfl rfl rfl) ?_
            refine L_p (.bool ((decide ((u0).From ≤ (q5).High)))) rfl rfl (Zl (b:=((u0).Loom == x6)) rfl (pick_t e7 rfl)) ?_
            refine L_p (.bool ((decide ((u0).From ≤ (q5).High)))) rfl rfl (Zk rfl) ?_
            refine L_y (fPtr v6 2) rfl rfl rfl rfl j7 (Zc at_65_2 i8 (OB.ptr l5)) ?_
            refine L_ld (c:=.int .i64 ((u0).From)) rfl rfl (.yes2 rfl rfl j7) (fun _ _ h=>⟨h.ch,fun b hb _=>h.below.block b hb⟩) iL rfl ?_
            refine L_y z4 rfl rfl rfl rfl j7 (Zk pA) ?_
            refine L_y (.int .i64 (o0)) rfl rfl rfl rfl j7 (Zk bA) ?_
            refine L_y (ePtr z4 o0 5) rfl rfl rfl rfl j7 (Zh (α:=LoomOrder) Tryz.underlying29 Tryz.sizeOf67 rfl o7 rfl iE) ?_
            refine L_y (fPtr (ePtr z4 o0 5) 2) rfl rfl rfl rfl j7 (Zc at_67_2 rfl (PT.ptr bI)) ?_
            refine L_ld (c:=.int .i64 ((mA).Woven)) rfl rfl (.yes2 rfl rfl j7) (fun _ _ h=>h.ch) jL rfl ?_
            refine L_y (.int .i64 ((w64 ((u0).From + (mA).Woven)))) rfl rfl rfl rfl j7 (P_int rfl rfl rfl) ?_
            refine L_y (fPtr a7 1) rfl rfl rfl rfl j7 (Zc at_58_1 c8 (OB.ptr o3)) ?_
            refine L_y (fPtr a7 1) rfl rfl rfl rfl j7 (P_fieldAddr2 (o1:=1) rfl at_55_0 rfl (OB.ptr o3)) ?_
            refine L_ld (c:=.int .i64 ((q5).Low)) rfl rfl (.yes2 rfl rfl j7) (fun _ _ h=>⟨h.ch,fun b hb _=>h.below.block b hb⟩) kL rfl ?_
            refine L_y (.bool ((decide ((w64 ((u0).From + (mA).Woven)) > (q5).Low)))) rfl rfl rfl rfl j7 (P_int rfl rfl rfl) ?_
            refine L_p (.bool ((decide ((w64 ((u0).From + (mA).Woven)) > (q5).Low)))) rfl rfl (Zl (b:=(decide ((u0).From ≤ (q5).High))) rfl (pick_t j7 rfl)) ?_
            refine L_nl fun eO kU hs=>?_
            have hfr:=hfr.ext hs
            have o7:=o7.ext hs
            have v7:=v7.ext hs
            have o3:=o3.ext hs
            have e8:=e8.ext hs
            have g8:=g8.ext hs
            have l5:=l5.ext hs
            clear hs
            refine Zb ?_
            obtain rfl:=sinj h
            exact hQ _ _ ⟨eO,hfr,pA,o7,xA,v7,c8,o3,yA,e8,zA,g8,bA,i8,l5,rfl⟩
           ·refine E_drawL (g := vD) (n := 27) [] [0, 1, 2, 3, 4, 5, 6, 7, 8, 9, 10, 11, 12, 13, 14, 15, 16, 17, 18, 19, 20, 21, 22, 23, 24, 25, 26] rfl mixed (by kernel_rfl) trivial ?_
            refine L_p (fPtr v6 1) rfl rfl (Zc at_65_1 i8 (OB.ptr l5)) ?_
            refine L_ld (c:=.int .i64 ((u0).Loom)) rfl rfl .plain (fun _ _ h=>⟨h.ch,fun b hb _=>h.below.block b hb⟩) bD rfl ?_
            refine L_p (fPtr a7 0) rfl rfl (Zc at_58_0 c8 (OB.ptr o3)) ?_
            refine L_ld (c:=.int .i64 (x6)) rfl rfl .plain (fun _ _ h=>⟨h.ch,fun b hb _=>h.below.block b hb⟩) cD rfl ?_
            refine L_p (.bool (((u0).Loom == x6))) rfl rfl (P_int rfl rfl rfl) ?_
            refine L_p (.bool (((u0).Loom == x6))) rfl rfl (Zk rfl) ?_
            refine L_y (fPtr v6 2) rfl rfl rfl rfl e7 (Zc at_65_2 i8 (OB.ptr l5)) ?_
            refine L_ld (c:=.int .i64 ((u0).From)) rfl rfl (.yes2 rfl rfl e7) (fun _ _ h=>⟨h.ch,fun b hb _=>h.below.block b hb⟩) eE rfl ?_
            refine L_y (fPtr a7 1) rfl rfl rfl rfl e7 (Zc at_58_1 c8 (OB.ptr o3)) ?_
            refine L_y (fPtr a7 2) rfl rfl rfl rfl e7 (P_fieldAddr2 (o1:=1) rfl at_55_1 rfl (OB.ptr o3)) ?_
            refine L_ld (c:=.int .i64 ((q5).High)) rfl rfl (.yes2 rfl rfl e7) (fun _ _ h=>⟨h.ch,fun b hb _=>h.below.block b hb⟩) gE rfl ?_
            refine L_y (.bool ((decide ((u0).From ≤ (q5).High)))) rfl rfl rfl rfl e7 (P_int rfl rfl rfl) ?_
            refine L_p (.bool ((decide ((u0).From ≤ (q5).High)))) rfl rfl (Zl (b:=((u0).Loom == x6)) rfl (pick_t e7 rfl)) ?_
            refine L_p (.bool ((decide ((u0).From ≤ (q5).High)))) rfl rfl (Zk rfl) ?_
            iterate 12 refine L_s rfl rfl rfl j7 rfl ?_
            refine L_p (.bool false) rfl rfl (Zl (b:=(decide ((u0).From ≤ (q5).High))) rfl (pick_f j7 rfl)) ?_
            refine L_nl fun gO lU hs=>?_
            have hfr:=hfr.ext hs
            have o7:=o7.ext hs
            have v7:=v7.ext hs
            have o3:=o3.ext hs
            have e8:=e8.ext hs
            have g8:=g8.ext hs
            have l5:=l5.ext hs
            clear hs
            refine Zb ?_
            obtain rfl:=sinj h
            exact hQ _ _ ⟨gO,hfr,pA,o7,xA,v7,c8,o3,yA,e8,zA,g8,bA,i8,l5,rfl⟩
          ·refine E_drawL (g := vD) (n := 27) [] [0, 1, 2, 3, 4, 5, 6, 7, 8, 9, 10, 11, 12, 13, 14, 15, 16, 17, 18, 19, 20, 21, 22, 23, 24, 25, 26] rfl mixed (by kernel_rfl) trivial ?_
           refine L_p (fPtr v6 1) rfl rfl (Zc at_65_1 i8 (OB.ptr l5)) ?_
           refine L_ld (c:=.int .i64 ((u0).Loom)) rfl rfl .plain (fun _ _ h=>⟨h.ch,fun b hb _=>h.below.block b hb⟩) bD rfl ?_
           refine L_p (fPtr a7 0) rfl rfl (Zc at_58_0 c8 (OB.ptr o3)) ?_
           refine L_ld (c:=.int .i64 (x6)) rfl rfl .plain (fun _ _ h=>⟨h.ch,fun b hb _=>h.below.block b hb⟩) cD rfl ?_
           refine L_p (.bool (((u0).Loom == x6))) rfl rfl (P_int rfl rfl rfl) ?_
           refine L_p (.bool (((u0).Loom == x6))) rfl rfl (Zk rfl) ?_
           iterate 6 refine L_s rfl rfl rfl e7 rfl ?_
           refine L_p (.bool false) rfl rfl (Zl (b:=((u0).Loom == x6)) rfl (pick_f e7 rfl)) ?_
           refine L_dead (fun _=>rfl) 14 rfl ?_
           refine L_nl fun iO mU hs=>?_
           have hfr:=hfr.ext hs
           have o7:=o7.ext hs
           have v7:=v7.ext hs
           have o3:=o3.ext hs
           have e8:=e8.ext hs
           have g8:=g8.ext hs
           have l5:=l5.ext hs
           clear hs
           refine Zb ?_
           obtain rfl:=sinj h
           exact hQ _ _ ⟨iO,hfr,pA,o7,xA,v7,c8,o3,yA,e8,zA,g8,bA,i8,l5,rfl⟩
         ·clear hx
          obtain ⟨jO,hfr,eJ,gJ,bG,cG,dG,eG,gG,hG,iG,jG,kG,lG,mG,zB⟩:=hR
          rcases Zt h with ⟨eD,h⟩ | ⟨eD,h⟩
          ·refine E_cond_true (Eq.trans (show ev _ _ = .bool (a9) from zB) (congrArg Value.bool eD)) ?_
           refine Zf (Za (Zg (.bool false) rfl rfl ?_))
           refine Zb (Zd (E_ret (thn_r ?_)))
           refine blk_r ?_
           refine thn_r ?_
           refine thn_r ?_
           refine blk_r ?_
           refine thn_r ?_
           obtain rfl:=sinj h
           exact end1 rfl rfl (show _=.bool false from rfl) ⟨_,hfr,rfl⟩
          ·refine E_cond_false (Eq.trans (show ev _ _ = .bool (a9) from zB) (congrArg Value.bool eD)) ?_
           exact Zu (Zd (gL () _ _ ⟨jO,hfr,eJ,gJ,bG,cG,dG,eG,gG,hG,iG,jG,kG,lG,mG⟩ h))
        ·rintro _ eS nU ⟨cI, hfr, lD, i9, aB, k8, gD, q8, iD, r8, gA, l8, bB, nG, oG⟩ h
         obtain ⟨x8,hx,h⟩:=bsome h
         refine E_join (fun e w=>∃ (g:Gh) ,Fr gI wI g w∧e 8=z4∧RV g.m w (y3.2:List LoomOrder) z4∧e 12=j1∧RV g.m w (d7.1:List LoomRun) j1∧e 15=a7∧OB 2015 g w 58 ((⟨x6,q5⟩:LoomStop):LoomStop) a7∧e 16=j3∧RV g.m w ((z2.1:List LoomRun):List LoomRun) j3∧e 19=u3∧RV g.m w ((z3.1:List Int):List Int) u3∧e 21=.int .i64 (o0)∧e 215=.bool (x8)) (fun Q' hQ=>?_) (fun gS oU hR=>?_)
         ·replace h := hx
          clear hx
          rcases Zt h with ⟨n8,h⟩ | ⟨n8,h⟩
          ·refine L_loadO0 (x := .tmp 22) Tryz.isAgg65 Tryz.sizeOf65 oG fun kO lO lL => ?_
           obtain ⟨dC,jE,h⟩:=bsome h
           have mO:=PT_idx k8 jE
           refine Zs (x:=.tmp 212) Tryz.isAgg65 Tryz.sizeOf65 mO fun nO oO mL=>?_
           refine E_drawL (g:=cI) (n:=11) [] [0,1,2,3,4,5,6,7,8,9,10] rfl mixed (by kernel_rfl) trivial ?_
           refine L_p u3 rfl rfl (Zk gA) ?_
           refine L_p (.int .i64 (((z3.1:List Int)).length:Int)) rfl rfl (P_len Tryz.underlying26 rfl l8) ?_
           refine L_p (.bool (((((z3.1:List Int)).length:Int) == (0:Int)))) rfl rfl (P_int rfl rfl rfl) ?_
           refine L_p (.bool (((((z3.1:List Int)).length:Int) == (0:Int)))) rfl rfl (Zk rfl) ?_
           refine L_ld (c:=kO) rfl rfl (.yes2 rfl rfl n8) (fun _ _ h=>⟨h.ch,fun b hb _=>h.below.block b hb⟩) lL nG ?_
           refine L_y j1 rfl rfl rfl rfl n8 (Zk aB) ?_
           refine L_y (.int .i64 (o0)) rfl rfl rfl rfl n8 (Zk bB) ?_
           refine L_y (ePtr j1 o0 3) rfl rfl rfl rfl n8 (Zh (α:=LoomRun) Tryz.underlying48 Tryz.sizeOf65 rfl k8 rfl jE) ?_
           refine L_ld (c:=nO) rfl rfl (.yes2 rfl rfl n8) (fun _ _ h=>h.ch) mL rfl ?_
           refine L_y (.bool ((!(decide (u0=dC))))) rfl rfl rfl rfl n8 (P_sne seq_65 rfl eg_65 rfl rfl lO oO) ?_
           refine L_p (.bool ((!(decide (u0=dC))))) rfl rfl (Zl (b:=((((z3.1:List Int)).length:Int) == (0:Int))) rfl (pick_t n8 rfl)) ?_
           refine L_nl fun pO pU hs=>?_
           have hfr:=hfr.ext hs
           have i9:=i9.ext hs
           have k8:=k8.ext hs
           have q8:=q8.ext hs
           have r8:=r8.ext hs
           have l8:=l8.ext hs
           clear hs
           refine Zb ?_
           obtain rfl:=sinj h
           exact hQ _ _ ⟨pO,hfr,lD,i9,aB,k8,gD,q8,iD,r8,gA,l8,bB,rfl⟩
          ·refine E_drawL (g := cI) (n := 11) [] [0, 1, 2, 3, 4, 5, 6, 7, 8, 9, 10] rfl mixed (by kernel_rfl) trivial ?_
           refine L_p u3 rfl rfl (Zk gA) ?_
           refine L_p (.int .i64 (((z3.1:List Int)).length:Int)) rfl rfl (P_len Tryz.underlying26 rfl l8) ?_
           refine L_p (.bool (((((z3.1:List Int)).length:Int) == (0:Int)))) rfl rfl (P_int rfl rfl rfl) ?_
           refine L_p (.bool (((((z3.1:List Int)).length:Int) == (0:Int)))) rfl rfl (Zk rfl) ?_
           iterate 6 refine L_s rfl rfl rfl n8 rfl ?_
           refine L_p (.bool false) rfl rfl (Zl (b:=((((z3.1:List Int)).length:Int) == (0:Int))) rfl (pick_f n8 rfl)) ?_
           refine L_nl fun qO qU hs=>?_
           have hfr:=hfr.ext hs
           have i9:=i9.ext hs
           have k8:=k8.ext hs
           have q8:=q8.ext hs
           have r8:=r8.ext hs
           have l8:=l8.ext hs
           clear hs
           refine Zb ?_
           obtain rfl:=sinj h
           exact hQ _ _ ⟨qO,hfr,lD,i9,aB,k8,gD,q8,iD,r8,gA,l8,bB,rfl⟩
         ·clear hx
          obtain ⟨rO,hfr,iJ,jJ,pG,qG,rG,sG,tG,uG,vG,xG,yG,aC⟩:=hR
          rcases Zt h with ⟨jD,h⟩ | ⟨jD,h⟩
          ·refine E_cond_true (Eq.trans (show ev _ _ = .bool (x8) from aC) (congrArg Value.bool jD)) ?_
           refine Zf (Za (Zg (.bool false) rfl rfl ?_))
           refine Zb (Zd (E_ret (blk_r ?_)))
           refine thn_r ?_
           refine thn_r ?_
           refine blk_r ?_
           refine thn_r ?_
           obtain rfl:=sinj h
           exact end1 rfl rfl (show _=.bool false from rfl) ⟨_,hfr,rfl⟩
          ·refine E_cond_false (Eq.trans (show ev _ _ = .bool (x8) from aC) (congrArg Value.bool jD)) ?_
           exact Zu (blk_n (Zd (cL () _ _ ⟨rO,hfr,iJ,jJ,pG,qG,rG,sG,tG,uG,vG,xG,yG⟩ h)))
      ·rintro _ iS rU ⟨sO, hfr, kJ, lJ, zG, aH, bH, cH, dH, gH, iH, jH, kH⟩ h
       refine Za (Zo kH rfl ?_)
       refine EL_in (.int .i64 ((w64 (o0 + (1:Int))))) rfl rfl rfl rfl ?_
       refine Zg (.int .i64 ((w64 (o0 + (1:Int))))) rfl rfl ?_
       exact Zb (Zd (aL ((w64 (o0 + (1:Int)))) _ _ ⟨sO,hfr,kJ,lJ,zG,aH,bH,cH,dH,gH,iH,jH,rfl⟩ h))
    ·rintro _ jS sU ⟨tO, hfr⟩ h
     obtain ⟨lA,hx,h⟩:=bsome h
     refine E_join (fun e w=>∃ (g:Gh) ,Fr gI wI g w∧e 6=.bool (lA)) (fun Q' hQ=>?_) (fun kS tU hR=>?_)
     ·replace h := hx
      clear hx
      refine Za ?_
      obtain ⟨cB,nL,h⟩:=bsome h
      refine Ze .plain rfl (Zp (g:=tO) (vs:=[]) en12 .nil (wk12  nL) fun dI lS uU hs hr=>?_)
      have hfr:=hfr.ext hs
      subst hr
      refine Zn (.bool (cB)) rfl rfl ?_
      rcases Zt h with ⟨kA,h⟩ | ⟨kA,h⟩
      ·obtain ⟨cC, oL, h⟩ := bsome h
       refine Ze (.yes2 rfl rfl kA) rfl (Zp (g:=dI) (vs:=[]) en13 .nil (wk13  oL) fun uO mS vU hs hr=>?_)
       have hfr:=hfr.ext hs
       subst hr
       refine EL_p (.bool (cC)) (Zl (b:=cB) rfl (pick_t kA rfl)) rfl ?_
       refine Zg (.bool (cC)) rfl rfl ?_
       refine Zb ?_
       obtain rfl:=sinj h
       exact hQ _ _ ⟨uO,hfr,rfl⟩
      ·refine EL_s rfl rfl kA rfl rfl ?_
       refine EL_p (.bool false) (Zl (b:=cB) rfl (pick_f kA rfl)) rfl ?_
       refine Zg (.bool false) rfl rfl ?_
       refine Zb ?_
       obtain rfl:=sinj h
       exact hQ _ _ ⟨dI,hfr,rfl⟩
     ·clear hx
      obtain ⟨xU,hfr,mJ⟩:=hR
      refine E_ret ?_
      obtain rfl:=sinj h
      exact end1 rfl rfl (show _=.bool (lA) from mJ) ⟨_,hfr,rfl⟩
end Go.Proofs.YtomjodbnpgbjnaaGreat
