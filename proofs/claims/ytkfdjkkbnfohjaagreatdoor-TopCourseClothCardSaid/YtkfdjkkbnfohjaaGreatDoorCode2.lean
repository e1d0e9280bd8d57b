import Derived.Test.YtkfdjkkbnfohjaaGreatDoorCode1
set_option maxRecDepth 8000
set_option maxHeartbeats 4000000
namespace Go.Proofs.YtkfdjkkbnfohjaaGreatDoor
open Go.RowKit
def f33 (x0:TieTieHarness) (x1:List Str):Option (Int × Int × Int × Bool):=
 (f55 x0).bind fun y4=>
 jn (σ:=Unit) (fun _=>
  some ((0:Int),(0:Int),(0:Int),false)
  ) fun aD=>
 lp (σ:=Int) (fun bD o0=>
  bif (decide (o0 < ((x1).length : Int))) then
   jn (σ:=Unit) (fun _=>
    bD ((w64 (o0 + (1:Int))))
    ) fun cD=>
   (idx x1 o0).bind fun x5=>
   lp (σ:=Int) (fun eD u3=>
    bif (decide (u3 < ((((x0).TieHarness).Warps).length : Int))) then
     jn (σ:=Unit) (fun _=>
      eD ((w64 (u3 + (1:Int))))
      ) fun gD=>
     (idx (((x0).TieHarness).Warps) u3).bind fun l5=>
     (idx (x5).b u3).bind fun n9=>
     (idx (x5).b ((mget y4 l5).getD (0:Int))).bind fun u9=>
     bif (n9 != u9) then
      some (o0,u3,((mget y4 l5).getD (0:Int)),true)
     else
      gD ()
    else
     cD ()
    ) big ((0:Int))
  else
   aD ()
  ) big ((0:Int))
theorem en33:Enters Tryz.prog 33:=enters_of Tryz.func33 (by kernel_rfl) rfl
theorem wk33 {gI:Gh} {wI:World} {x0:TieTieHarness} {x1:List Str} {up0:Value} (rp0:RV gI.m wI x0 up0) {up1:Value} (rp1:RV gI.m wI x1 up1) {r:Int × Int × Int × Bool} (h:f33 x0 x1=some r):Fn Tryz.prog 33 #[up0,up1] gI wI (fun m w v=>∃ y0 y1 y2 y3,v=.tuple #[y0,y1,y2,y3]∧y0=.int .i64 (r.1)∧y1=.int .i64 (r.2.1)∧y2=.int .i64 (r.2.2.1)∧y3=.bool (r.2.2.2)):=by
 unfold f33 at h
 refine fn_of_E Tryz.func33 rfl (Nat.le_of_ble_eq_true rfl) fun g0 hm hfr=>?_
 have rp0:RV g0.m wI x0 up0:=hm ▸ rp0
 have rp1:RV g0.m wI x1 up1:=hm ▸ rp1
 show E _ 47 none _ _ _ _ _
 refine Zf (Za (Ze .plain rfl (D_box (g:=g0) rfl rp0 fun g1 w1 p1 hs q1=>?_)))
 have hfr:=hfr.ext hs
 have rp1:=rp1.ext hs
 iterate 3 refine Zg (.int .i64 (0)) rfl rfl ?_
 refine Zg (.bool false) rfl rfl ?_
 refine Zb (Zd (Zf (Za (Ze .plain rfl (D_load (g:=g1) Tryz.isAgg83 Tryz.sizeOf83 rfl q1 fun v2 r2=>?_)))))
 obtain ⟨y4,tF,h⟩:=Gb h
 refine Ze .plain rfl (D_callG (g:=g1) (vs:=[v2]) en55 (.cons rfl .nil) (wk55 (iO:=8415) r2 tF) fun g3 w3_ v3 hs hr=>?_)
 have hfr:=hfr.ext hs
 have rp1:=rp1.ext hs
 have q1:=q1.ext hs
 have hm3:=hr
 refine Zg v3 rfl rfl ?_
 refine Zb (Zd (Zq h (fun (s:Unit) e w=>∃ (g:Gh) ,Fr gI wI g w) (fun X173 aD bE h=>?_) ?_))
 ·refine Zf (Za (Zn up1 rfl rfl ?_))
  refine Zx (.int .i64 ((x1).length:Int)) (P_len Tryz.underlying47 rfl rp1) rfl ?_
  refine Zn (.int .i64 (0)) rfl rfl ?_
  refine Zb (Zd (Zr ?_))
  refine E_lp h (fun (s:Int) e w=>∃ (g:Gh) ,Fr gI wI g w∧e 2=p1∧PT g.m w (x0:TieTieHarness) p1∧e 8=v3∧MP (Value.int .i64) 8415 g w (y4:List (Int × Int)) v3∧e 16=up1∧RV g.m w (x1:List Str) up1∧e 17=.int .i64 (((x1).length:Int))∧e 18=.int .i64 (s)) ⟨g3,hfr,rfl,q1,rfl,hm3,rfl,rp1,rfl,rfl⟩ (fun X174 bD iE=>?_)
  rintro o0 uF aG ⟨y9,hfr,yA,l8,iD,jD,r8,g8,v8,x6⟩ h
  refine Zf (Za (EL_in (.bool ((decide (o0 < ((x1).length:Int))))) x6 v8 rfl rfl ?_))
  refine Zb (Zd (Zf ?_))
  rcases Zt h with ⟨z9,h⟩ | ⟨z9,h⟩
  ·refine E_ct z9 rfl ?_
   refine Zu (Zd (Zq h (fun (s:Unit) e w=>∃ (g:Gh) ,Fr gI wI g w∧e 2=p1∧PT g.m w (x0:TieTieHarness) p1∧e 8=v3∧MP (Value.int .i64) 8415 g w (y4:List (Int × Int)) v3∧e 16=up1∧RV g.m w (x1:List Str) up1∧e 17=.int .i64 (((x1).length:Int))∧e 18=.int .i64 (o0)) (fun X258 cD lE h=>?_) ?_))
   ·refine Zr ?_
    refine Zf (Za (Zo x6 rfl ?_))
    obtain ⟨x5,iB,h⟩:=Gb h
    refine Zx (ePtr up1 o0 1) (Zh (α:=Str) Tryz.underlying47 Tryz.sizeOf9 r8 g8 x6 iB) rfl ?_
    have vE:=PT_idx g8 iB
    refine Ze .plain rfl (D_load (g:=y9) Tryz.isAgg9 Tryz.sizeOf9 rfl vE fun bG xE=>?_)
    obtain rfl:=RV_str.1 xE
    refine Zg (.int .i64 (o0)) rfl rfl ?_
    refine Zg (Str.v (x5)) rfl rfl ?_
    refine Zb (Zd (Zf (Za (Zx (fPtr p1 0) (Zc at_83_0 yA (PT.ptr l8)) rfl ?_))))
    have lD:=Zm (part_TieTieHarness_0).1 l8
    refine Zx (fPtr (fPtr p1 0) 1) (Zc at_28_1 rfl (PT.ptr lD)) rfl ?_
    have yE:=Zm (part_TieHarness_1).1 lD
    refine Ze .plain rfl (D_load (g:=y9) Tryz.isAgg26 Tryz.sizeOf26 rfl yE fun m8 nD=>?_)
    refine Zx (.int .i64 ((((x0).TieHarness).Warps).length:Int)) (P_len Tryz.underlying26 rfl nD) rfl ?_
    refine Zn (.int .i64 (0)) rfl rfl ?_
    refine Zb (Zd (Zr ?_))
    refine E_lp h (fun (s:Int) e w=>∃ (g:Gh) ,Fr gI wI g w∧e 2=p1∧PT g.m w (x0:TieTieHarness) p1∧e 8=v3∧MP (Value.int .i64) 8415 g w (y4:List (Int × Int)) v3∧e 9=.int .i64 (o0)∧e 10=Str.v (x5)∧e 16=up1∧RV g.m w (x1:List Str) up1∧e 17=.int .i64 (((x1).length:Int))∧e 18=.int .i64 (o0)∧e 25=m8∧RV g.m w (((x0).TieHarness).Warps:List Int) m8∧e 26=.int .i64 (((((x0).TieHarness).Warps).length:Int))∧e 27=.int .i64 (s)) ⟨y9,hfr,yA,l8,iD,jD,rfl,rfl,r8,g8,v8,x6,rfl,nD,rfl,rfl⟩ (fun X265 eD mE=>?_)
    rintro u3 vF cG ⟨bA,hfr,aB,m7,n8,i6,dB,k8,x8,y6,a9,d9,k9,t5,l9,i7⟩ h
    refine Zf (Za (Zx (.bool ((decide (u3 < ((((x0).TieHarness).Warps).length:Int))))) (P_int i7 l9 rfl) rfl ?_))
    refine Zb (Zd (Zf ?_))
    rcases Zt h with ⟨iA,h⟩ | ⟨iA,h⟩
    ·refine E_ct iA rfl ?_
     refine Zu (Zd (Zq h (fun (s:Unit) e w=>∃ (g:Gh) ,Fr gI wI g w∧e 2=p1∧PT g.m w (x0:TieTieHarness) p1∧e 8=v3∧MP (Value.int .i64) 8415 g w (y4:List (Int × Int)) v3∧e 9=.int .i64 (o0)∧e 10=Str.v (x5)∧e 16=up1∧RV g.m w (x1:List Str) up1∧e 17=.int .i64 (((x1).length:Int))∧e 18=.int .i64 (o0)∧e 25=m8∧RV g.m w (((x0).TieHarness).Warps:List Int) m8∧e 26=.int .i64 (((((x0).TieHarness).Warps).length:Int))∧e 27=.int .i64 (u3)) (fun X303 gD oE h=>?_) ?_))
     ·refine Zr ?_
      refine Zf (Za (Zo i7 rfl ?_))
      obtain ⟨l5,lB,h⟩:=Gb h
      refine Zx (ePtr m8 u3 1) (Zh (α:=Int) Tryz.underlying26 Tryz.sizeOf3 k9 t5 i7 lB) rfl ?_
      have zE:=PT_idx t5 lB
      refine Ze .plain rfl (D_load (g:=bA) Tryz.isAgg3 Tryz.sizeOf3 rfl zE fun eG cF=>?_)
      obtain rfl:=Zj.1 cF
      refine Zg (.int .i64 (u3)) rfl rfl ?_
      refine Zg (.int .i64 (l5)) rfl rfl ?_
      refine Zb (Zd (Zf (Za (Zo n8 rfl ?_))))
      refine Zn (.int .i64 (l5)) rfl rfl ?_
      refine Ze .plain rfl (D_lookup (g:=bA) (z0:=(0:Int)) Tryz.underlying116 key_3 Tryz.zeroValue3 (fun m w=>⟨_,Zw,rfl⟩) rfl i6 rfl fun gG dF=>?_)
      obtain rfl:=Zj.1 dF
      refine Zg (.int .i64 (((mget y4 l5).getD (0:Int)))) rfl rfl ?_
      refine Zb (Zd (Zf ?_))
      obtain ⟨n9,rE,h⟩:=Gb h
      obtain ⟨u9,uE,h⟩:=Gb h
      refine E_drawL (g:=bA) (n:=7) [] [0,1,2,3,4,5,6] rfl mixed (by kernel_rfl) trivial ?_
      refine Ga (Str.v (x5)) rfl rfl (Zk k8) ?_
      refine Ga (.int .i64 (u3)) rfl rfl (Zk rfl) ?_
      refine Ga (.int .u8 (UInt8.toNat (n9))) rfl rfl (P_indexS Tryz.underlying9 rfl rfl rE) ?_
      refine Ga (Str.v (x5)) rfl rfl (Zk k8) ?_
      refine Ga (.int .i64 (((mget y4 l5).getD (0:Int)))) rfl rfl (Zk rfl) ?_
      refine Ga (.int .u8 (UInt8.toNat (u9))) rfl rfl (P_indexS Tryz.underlying9 rfl rfl uE) ?_
      refine Ga (.bool ((n9 != u9))) rfl rfl (P_u8 rfl rfl rfl) ?_
      refine L_nl fun eF hG hs=>?_
      have hfr:=hfr.ext hs
      have m7:=m7.ext hs
      have i6:=i6.ext hs
      have y6:=y6.ext hs
      have t5:=t5.ext hs
      clear hs
      refine Zb (Zd ?_)
      rcases Zt h with ⟨rA,h⟩ | ⟨rA,h⟩
      ·refine E_ct rA rfl ?_
       refine Zf (Za (Zo dB rfl ?_))
       refine Zn (.int .i64 (u3)) rfl rfl ?_
       refine Zn (.int .i64 (((mget y4 l5).getD (0:Int)))) rfl rfl ?_
       refine Zg (.int .i64 (o0)) rfl rfl ?_
       refine Zg (.int .i64 (u3)) rfl rfl ?_
       refine Zg (.int .i64 (((mget y4 l5).getD (0:Int)))) rfl rfl ?_
       refine Zg (.bool true) rfl rfl ?_
       refine Zb (Zd (E_ret (blk_r ?_)))
       refine thn_r ?_
       refine thn_r ?_
       refine blk_r ?_
       refine blk_r ?_
       refine thn_r ?_
       refine thn_r ?_
       refine blk_r ?_
       refine thn_r ?_
       obtain rfl:=sinj h
       exact end4 rfl rfl (show _=.int .i64 (o0) from rfl) (show _=.int .i64 (u3) from rfl) (show _=.int .i64 (((mget y4 l5).getD (0:Int))) from rfl) (show _=.bool true from rfl) ⟨_,hfr,_,_,_,_,rfl,rfl,rfl,rfl,rfl⟩
      ·refine E_cf rA rfl ?_
       exact Zu (blk_n (Zd (oE () _ _ ⟨eF,hfr,aB,m7,n8,i6,dB,k8,x8,y6,a9,d9,k9,t5,l9,i7⟩ h)))
     ·rintro _ xF iG ⟨rF, hfr, oD, sD, tD, uD, vD, mB, nB, oB, tB, vB, yB, zB, cC, mC⟩ h
      refine Za (EL_in (.int .i64 ((w64 (u3 + (1:Int))))) mC rfl rfl rfl ?_)
      refine Zn (.int .i64 ((w64 (u3 + (1:Int))))) rfl rfl ?_
      exact Zb (Zd (mE ((w64 (u3 + (1:Int)))) _ _ ⟨rF,hfr,oD,sD,tD,uD,vD,mB,nB,oB,tB,vB,yB,zB,cC,rfl⟩ h))
    ·refine E_cf iA rfl ?_
     refine E_exit ?_
     refine thn_e ?_
     refine thn_e ?_
     refine blk_hit ?_
     exact blk_n (Zd (lE () _ _ ⟨bA,hfr,aB,m7,n8,i6,x8,y6,a9,d9⟩ h))
   ·rintro _ yF jG ⟨sF, hfr, xD, yD, zD, aE, qC, rC, uC, vC⟩ h
    refine Za (EL_in (.int .i64 ((w64 (o0 + (1:Int))))) vC rfl rfl rfl ?_)
    refine Zn (.int .i64 ((w64 (o0 + (1:Int))))) rfl rfl ?_
    exact Zb (Zd (iE ((w64 (o0 + (1:Int)))) _ _ ⟨sF,hfr,xD,yD,zD,aE,qC,rC,uC,rfl⟩ h))
  ·refine E_cf z9 rfl ?_
   refine E_exit ?_
   refine thn_e ?_
   refine thn_e ?_
   refine blk_hit ?_
   exact Zd (bE () _ _ ⟨y9,hfr⟩ h)
 ·rintro _ zF kG ⟨lG, hfr⟩ h
  refine Zf (Za ?_)
  iterate 3 refine Zg (.int .i64 (0)) rfl rfl ?_
  refine Zg (.bool false) rfl rfl ?_
  refine Zb (Zd (E_ret ?_))
  obtain rfl:=sinj h
  exact end4 rfl rfl (show _=.int .i64 (0) from rfl) (show _=.int .i64 (0) from rfl) (show _=.int .i64 (0) from rfl) (show _=.bool false from rfl) ⟨_,hfr,_,_,_,_,rfl,rfl,rfl,rfl,rfl⟩
def f44 (x0:TieTieGroup):Option ((List Int)):=
 (f64 (((x0).TieGroup).First) (((x0).TieGroup).Last)).bind fun y9=>
 (f63 y9).bind fun y11=>
 Option.bind (α:=(List Int)) (
  bif (((x0).TieGroup).Way == (2 : Int)) then
   lp (σ:=(List Int) × Int) (fun iB (u3,o0)=>
    jn (σ:=Unit) (fun _=>
     Option.bind (α:=(List Int)) (
      (idx u3 o0).bind fun m7=>
      (apnd 8 u3 (([m7]:List Int))).bind fun y56=>
      some (y56)
      ) fun l5=>
     iB (l5,(w64 (o0 - (1:Int))))
     ) fun lB=>
    bif (decide (o0 > (0 : Int))) then
     lB ()
    else
     some (u3)
    ) big (y11,(w64 (((y11).length:Int) - (2:Int))))
  else
   some (y11)
  ) fun i6=>
 some (i6)
theorem en44:Enters Tryz.prog 44:=enters_of Tryz.func44 (by kernel_rfl) rfl
theorem wk44 {gI:Gh} {wI:World} {x0:TieTieGroup} {up0:Value} (rp0:RV gI.m wI x0 up0) {r:(List Int)} (h:f44 x0=some r):Fn Tryz.prog 44 #[up0] gI wI (fun m w v=>RV m w (r) v):=by
 unfold f44 at h
 refine fn_of_E Tryz.func44 rfl (Nat.le_of_ble_eq_true rfl) fun g0 hm hfr=>?_
 have rp0:RV g0.m wI x0 up0:=hm ▸ rp0
 show E _ 32 none _ _ _ _ _
 refine Zf (Za (Ze .plain rfl (D_box (g:=g0) rfl rp0 fun g1 w1 p1 hs q1=>?_)))
 have hfr:=hfr.ext hs
 refine Zg (.slice none 0 0) rfl rfl ?_
 refine Zb (Zd (Zf (Za (Zx (fPtr p1 0) (Zc at_101_0 rfl (PT.ptr q1)) rfl ?_))))
 have q2:=Zm (part_TieTieGroup_0).1 q1
 refine Zx (fPtr (fPtr p1 0) 0) (Zc at_69_0 rfl (PT.ptr q2)) rfl ?_
 have q3:=Zm (part_TieGroup_0).1 q2
 refine Ze .plain rfl (D_load (g:=g1) Tryz.isAgg3 Tryz.sizeOf3 rfl q3 fun v4 r4=>?_)
 obtain rfl:=Zj.1 r4
 refine Zx (fPtr p1 0) (Zc at_101_0 rfl (PT.ptr q1)) rfl ?_
 have q5:=Zm (part_TieTieGroup_0).1 q1
 refine Zx (fPtr (fPtr p1 0) 1) (Zc at_69_1 rfl (PT.ptr q5)) rfl ?_
 have q6:=Zm (part_TieGroup_1).1 q5
 refine Ze .plain rfl (D_load (g:=g1) Tryz.isAgg3 Tryz.sizeOf3 rfl q6 fun v7 r7=>?_)
 obtain rfl:=Zj.1 r7
 obtain ⟨y9,mC,h⟩:=Gb h
 refine Ze .plain rfl (Zp (g:=g1) (vs:=[.int .i64 (((x0).TieGroup).First),.int .i64 (((x0).TieGroup).Last)]) en64 (.cons rfl (.cons rfl .nil)) (wk64  mC) fun g8 w8_ v8 hs hr=>?_)
 have hfr:=hfr.ext hs
 have q1:=q1.ext hs
 have r8:=hr
 obtain ⟨y11,vB,h⟩:=Gb h
 refine Ze .plain rfl (D_callG (g:=g8) (vs:=[v8]) en63 (.cons rfl .nil) (u63 (iO:=4012) r8 vB) fun l9 sD k8 hs m10=>?_)
 obtain ⟨o10,n9⟩:=m10
 have hfr:=hfr.ext hs
 have q1:=q1.ext hs
 refine Zg k8 rfl rfl ?_
 refine Zb (Zd ?_)
 obtain ⟨i6,hx,h⟩:=Gb h
 refine E_join (fun e w=>∃ (g:Gh) (v3:Value),Fr gI wI g w∧e 3=v3∧RV g.m w (i6:List Int) v3∧OS 4012 g w 3 (i6:List Int) v3) (fun Q' hQ=>?_) (fun jD tD hR=>?_)
 ·replace h := hx
  clear hx
  refine Zf (Za (Zx (fPtr p1 0) (Zc at_101_0 rfl (PT.ptr q1)) rfl ?_))
  have mB:=Zm (part_TieTieGroup_0).1 q1
  refine Zx (fPtr (fPtr p1 0) 2) (Zc at_69_2 rfl (PT.ptr mB)) rfl ?_
  have qC:=Zm (part_TieGroup_2).1 mB
  refine Ze .plain rfl (D_load (g:=l9) Tryz.isAgg67 Tryz.sizeOf67 rfl qC fun uD rC=>?_)
  obtain rfl:=Zj.1 rC
  refine EL_in (.bool ((((x0).TieGroup).Way == (2:Int)))) rfl rfl rfl rfl ?_
  refine Zb (Zd ?_)
  rcases Zt h with ⟨y6,h⟩ | ⟨y6,h⟩
  ·refine E_ct y6 rfl ?_
   refine Zf (Za (Zn k8 rfl rfl ?_))
   refine Zx (.int .i64 ((y11).length:Int)) (P_len Tryz.underlying26 rfl n9) rfl ?_
   refine EL_in (.int .i64 ((w64 (((y11).length:Int) - (2:Int))))) rfl rfl rfl rfl ?_
   refine Zg (.int .i64 ((w64 (((y11).length:Int) - (2:Int))))) rfl rfl ?_
   refine Zb (Zd (Zr ?_))
   refine E_lp h (fun (s:(List Int) × Int) e w=>∃ (g:Gh) (v3:Value),Fr gI wI g w∧e 3=v3∧RV g.m w (s.1:List Int) v3∧OS 4012 g w 3 (s.1:List Int) v3∧e 4=.int .i64 (s.2)) ⟨l9,(k8),hfr,rfl,n9,o10,rfl⟩ (fun X39 iB yB=>?_)
   rintro ⟨u3,o0⟩ lD vD ⟨nB,t5,hfr,l8,m8,n8,x8⟩ h
   refine Zq h (fun (s:Unit) e w=>∃ (g:Gh) ,Fr gI wI g w∧e 3=t5∧RV g.m w (u3:List Int) t5∧OS 4012 g w 3 (u3:List Int) t5∧e 4=.int .i64 (o0)) (fun X42 lB zB h=>?_) ?_
   ·refine Zf (Za (Zo x8 rfl ?_))
    refine EL_in (.bool ((decide (o0 > (0:Int))))) rfl rfl rfl rfl ?_
    refine Zb (Zd ?_)
    rcases Zt h with ⟨i7,h⟩ | ⟨i7,h⟩
    ·refine E_ct i7 rfl ?_
     exact Zu (Zd (zB () _ _ ⟨nB,hfr,l8,m8,n8,x8⟩ h))
    ·refine E_cf i7 rfl ?_
     refine E_exit ?_
     refine thn_e ?_
     refine thn_e ?_
     refine blk_hit ?_
     obtain rfl:=sinj h
     exact hQ _ _ ⟨nB,(t5),hfr,l8,m8,n8⟩
   ·rintro _ nD xD ⟨oB, hfr, a9, x5, x6, d9⟩ h
    obtain ⟨l5,hx,h⟩:=Gb h
    refine E_join (fun e w=>∃ (g:Gh) (v3:Value),Fr gI wI g w∧e 3=v3∧RV g.m w (l5:List Int) v3∧OS 4012 g w 3 (l5:List Int) v3∧e 4=.int .i64 (o0)) (fun Q' hQ=>?_) (fun oD yD hR=>?_)
    ·replace h := hx
     clear hx
     refine Zr ?_
     refine Za (Zo a9 rfl ?_)
     refine Zo a9 rfl ?_
     refine Zo d9 rfl ?_
     obtain ⟨m7,u9,h⟩:=Gb h
     refine Zx (ePtr t5 o0 1) (Zh (α:=Int) Tryz.underlying26 Tryz.sizeOf3 rfl x5 rfl u9) rfl ?_
     have uC:=PT_idx x5 u9
     refine Ze .plain rfl (D_load (g:=oB) Tryz.isAgg3 Tryz.sizeOf3 rfl uC fun zD vC=>?_)
     obtain rfl:=Zj.1 vC
     refine Ze .plain rfl (D_buildSlice (g:=oB) 3029 (xs:=([m7]:List Int)) (vs:=[.int .i64 (m7)]) Tryz.underlying26 Tryz.sizeOf3 Tryz.zeroValue3 rfl rfl (.cons rfl .nil) (RVs.cons (Zj.2 rfl) RVs.nil) rfl rfl fun aD aE bE hs o54 bD hxt hfl=>?_)
     have hfr:=hfr.stp hs
     have x5:=x5.stp hs
     have x6:=x6.stp hs rfl
     obtain ⟨y56,cC,h⟩:=Gb h
     refine Ze .plain rfl (D_append (g:=aD) (i:=4012) Tryz.underlying26 info_3 rfl rfl x6 x5 rfl bD cC fun cD iE tB hs o55 eD _=>?_)
     have hfr:=hfr.stp hs
     refine Zg tB rfl rfl ?_
     refine Zb (blk_n ?_)
     obtain rfl:=sinj h
     exact hQ _ _ ⟨cD,(tB),hfr,rfl,eD,o55,d9⟩
    ·clear hx
     obtain ⟨gD,z9,hfr,bA,iA,rA,yA⟩:=hR
     refine Za (Zo yA rfl ?_)
     refine EL_in (.int .i64 ((w64 (o0 - (1:Int))))) rfl rfl rfl rfl ?_
     refine Zg (.int .i64 ((w64 (o0 - (1:Int))))) rfl rfl ?_
     exact Zb (Zd (yB (l5,(w64 (o0 - (1:Int)))) _ _ ⟨gD,(z9),hfr,bA,iA,rA,rfl⟩ h))
  ·refine E_cf y6 rfl ?_
   refine Zu ?_
   obtain rfl:=sinj h
   exact hQ _ _ ⟨l9,(k8),hfr,rfl,n9,o10⟩
 ·clear hx
  obtain ⟨lE,k9,hfr,aB,dB,iD⟩:=hR
  refine Zf (Za (Zo aB rfl ?_))
  refine Zg k9 rfl rfl ?_
  refine Zb (Zd (E_ret ?_))
  obtain rfl:=sinj h
  exact end1 rfl rfl (show _=k9 from rfl) ⟨_,hfr,dB⟩
def f56 (x0:Int) (z0:ChainChainBelt):Option (Bool):=
 Option.bind (α:=Bool) (
  bif (x0 != (-1 : Int)) then
   (f24 ((z0).frame) (([x0]:List Int))).bind fun l5=>
   some ((!l5))
  else
   some (false)
  ) fun u3=>
 some (u3)
theorem en56:Enters Tryz.prog 56:=enters_of Tryz.func56 (by kernel_rfl) rfl
theorem wk56 {gI:Gh} {wI:World} {x0:Int} {z0:ChainChainBelt} {pf0:Value} (qf0:PT gI.m wI z0 pf0) {r:Bool} (h:f56 x0 z0=some r):Fn Tryz.prog 56 #[.int .i64 (x0),pf0] gI wI (fun _ _ v=>v=.bool (r)):=by
 unfold f56 at h
 refine fn_of_E Tryz.func56 rfl (Nat.le_of_ble_eq_true rfl) fun g0 hm hfr=>?_
 have qf0:PT g0.m wI z0 pf0:=hm ▸ qf0
 show E _ 14 none _ _ _ _ _
 refine Zf (Za (Zg (.bool false) rfl rfl ?_))
 refine Zb (Zd ?_)
 obtain ⟨u3,hx,h⟩:=Gb h
 refine E_join (fun e w=>∃ (g:Gh) ,Fr gI wI g w∧e 3=.bool (u3)) (fun Q' hQ=>?_) (fun m7 k8 hR=>?_)
 ·replace h := hx
  clear hx
  refine Za (Zn (.int .i64 (x0)) rfl rfl ?_)
  refine EL_in (.bool ((x0 != (-1:Int)))) rfl rfl rfl rfl ?_
  refine Zn (.bool ((x0 != (-1:Int)))) rfl rfl ?_
  rcases Zt h with ⟨o0,h⟩ | ⟨o0,h⟩
  ·refine Zy (fPtr pf0 2) (Zc at_74_1 rfl (PT.ptr qf0)) rfl rfl o0 rfl ?_
   have q8:=Zm (part_ChainChainBelt_1).1 qf0
   refine Ze (.yes2 rfl rfl o0) rfl (D_load (g:=g0) Tryz.isAgg71 Tryz.sizeOf71 rfl q8 fun v9 r9=>?_)
   obtain rfl:=Zj.1 r9
   refine Zy (.int .i64 (x0)) (Zk rfl) rfl rfl o0 rfl ?_
   refine Ze (.yes2 rfl rfl o0) rfl (D_buildSlice (g:=g0) 3010 (xs:=([x0]:List Int)) (vs:=[.int .i64 (x0)]) Tryz.underlying26 Tryz.sizeOf3 Tryz.zeroValue3 rfl rfl (.cons rfl .nil) (RVs.cons (Zj.2 rfl) RVs.nil) rfl rfl fun i6 l8 x6 hs o10 y6 hxt hfl=>?_)
   have hfr:=hfr.stp hs
   obtain ⟨l5,x5,h⟩:=Gb h
   refine Ze (.yes2 rfl rfl o0) rfl (Zp (g:=i6) (vs:=[.int .i64 ((z0).frame),x6]) en24 (.cons rfl (.cons rfl .nil)) (wk24 y6 x5) fun i7 g8 m8 hs hr=>?_)
   have hfr:=hfr.ext hs
   subst hr
   refine Zy (.bool (!l5)) (P_not rfl) rfl rfl o0 rfl ?_
   refine Zx (.bool (!l5)) (Zl (b:=(x0 != (-1:Int))) rfl (pick_t o0 rfl)) rfl ?_
   refine Zg (.bool (!l5)) rfl rfl ?_
   refine Zb ?_
   obtain rfl:=sinj h
   exact hQ _ _ ⟨i7,hfr,rfl⟩
  ·refine Zz rfl rfl o0 rfl rfl ?_
   iterate 5 refine Zz rfl rfl o0 rfl rfl ?_
   refine Zx (.bool false) (Zl (b:=(x0 != (-1:Int))) rfl (pick_f o0 rfl)) rfl ?_
   refine Zg (.bool false) rfl rfl ?_
   refine Zb ?_
   obtain rfl:=sinj h
   exact hQ _ _ ⟨g0,hfr,rfl⟩
 ·clear hx
  obtain ⟨n8,hfr,t5⟩:=hR
  refine E_ret ?_
  obtain rfl:=sinj h
  exact end1 rfl rfl (show _=.bool (u3) from t5) ⟨_,hfr,rfl⟩
def f58 (x0:ChainCylinder) (x1:Int) (x2:Int):Option (Bool):=
 Option.bind (α:=Bool) (
  (idx ((x0).cloth) x1).bind fun u3=>
  bif (u3 == (-1 : Int)) then
   some (true)
  else
   (idx ((x0).cloth) x1).bind fun y98=>
   (f27 ((x0).belt) x2).bind fun y104=>
   some ((y98 == y104))
  ) fun l5=>
 some (l5)
theorem en58:Enters Tryz.prog 58:=enters_of Tryz.func58 (by kernel_rfl) rfl
theorem wk58 {gI:Gh} {wI:World} {x0:ChainCylinder} {x1:Int} {x2:Int} {up0:Value} (rp0:RV gI.m wI x0 up0) {r:Bool} (h:f58 x0 x1 x2=some r):Fn Tryz.prog 58 #[up0,.int .i64 (x1),.int .i64 (x2)] gI wI (fun _ _ v=>v=.bool (r)):=by
 unfold f58 at h
 refine fn_of_E Tryz.func58 rfl (Nat.le_of_ble_eq_true rfl) fun g0 hm hfr=>?_
 have rp0:RV g0.m wI x0 up0:=hm ▸ rp0
 show E _ 25 none _ _ _ _ _
 refine Zf (Za (Ze .plain rfl (D_box (g:=g0) rfl rp0 fun g1 w1 p1 hs q1=>?_)))
 have hfr:=hfr.ext hs
 refine Zg (.bool false) rfl rfl ?_
 refine Zb (Zd ?_)
 obtain ⟨l5,hx,h⟩:=Gb h
 refine E_join (fun e w=>∃ (g:Gh) ,Fr gI wI g w∧e 6=.bool (l5)) (fun Q' hQ=>?_) (fun iA rA hR=>?_)
 ·replace h := hx
  clear hx
  have l9:=Zm (part_ChainCylinder_1).1 q1
  refine Zs (x:=.tmp 7) Tryz.isAgg26 Tryz.sizeOf26 l9 fun x5 i6 x6=>?_
  obtain ⟨u3,t5,h⟩:=Gb h
  have n9:=PT_idx i6 t5
  refine Zs (x:=.tmp 10) Tryz.isAgg3 Tryz.sizeOf3 n9 fun lB u9 y6=>?_
  obtain rfl:=Zj.1 u9
  rcases Zt h with ⟨o0,h⟩ | ⟨o0,h⟩
  ·refine E_drawL (g := g1) (n := 19) [] [0, 1, 2, 3, 4, 5, 6, 7, 8, 9, 10, 11, 12, 13, 14, 15, 16, 17, 18] rfl mixed (by kernel_rfl) trivial ?_
   refine Ga (fPtr p1 3) rfl rfl (Zc at_90_1 rfl (PT.ptr q1)) ?_
   refine L_ld (c:=x5) rfl rfl .plain (fun _ _ h=>h.ch) x6 rfl ?_
   refine Ga (.int .i64 (x1)) rfl rfl (Zk rfl) ?_
   refine Ga (ePtr x5 x1 1) rfl rfl (Zh (α:=Int) Tryz.underlying26 Tryz.sizeOf3 rfl i6 rfl t5) ?_
   refine L_ld (c:=.int .i64 (u3)) rfl rfl .plain (fun _ _ h=>h.ch) y6 rfl ?_
   refine Ga (.bool ((u3 == (-1:Int)))) rfl rfl (P_int rfl rfl rfl) ?_
   refine Ga (.bool ((u3 == (-1:Int)))) rfl rfl (Zk rfl) ?_
   iterate 10 refine L_s rfl rfl rfl o0 rfl ?_
   refine Ga (.bool true) rfl rfl (Zl (b:=(u3 == (-1:Int))) rfl (pick_t o0 rfl)) ?_
   refine Ga (.bool true) rfl rfl (P_assign rfl) ?_
   refine L_nl fun y9 mB hs=>?_
   have hfr:=hfr.ext hs
   clear hs
   refine Zb ?_
   obtain rfl:=sinj h
   exact hQ _ _ ⟨y9,hfr,rfl⟩
  ·have z9 := Zm (part_ChainCylinder_1).1 q1
   refine Zs (x:=.tmp 14) Tryz.isAgg26 Tryz.sizeOf26 z9 fun n8 r8 v8=>?_
   obtain ⟨y98,i7,h⟩:=Gb h
   have bA:=PT_idx r8 i7
   refine Zs (x:=.tmp 17) Tryz.isAgg3 Tryz.sizeOf3 bA fun yA x8 k8=>?_
   obtain rfl:=Zj.1 x8
   have a9:=Zm (part_ChainCylinder_0).1 q1
   refine Zs (x:=.tmp 19) Tryz.isAgg74 Tryz.sizeOf74 a9 fun m7 d9 l8=>?_
   obtain ⟨y104,m8,h⟩:=Gb h
   refine E_drawL (g:=g1) (n:=19) [(15,(fun v g w=>v=.int .i64 (y104)))] [0,1,2,3,4,5,6,7,8,9,10,11,12,13,14,15,16,17,18] rfl mixed (by kernel_rfl) (⟨fun _=>up_eq _,trivial⟩) ?_
   refine Ga (fPtr p1 3) rfl rfl (Zc at_90_1 rfl (PT.ptr q1)) ?_
   refine L_ld (c:=x5) rfl rfl .plain (fun _ _ h=>h.ch) x6 rfl ?_
   refine Ga (.int .i64 (x1)) rfl rfl (Zk rfl) ?_
   refine Ga (ePtr x5 x1 1) rfl rfl (Zh (α:=Int) Tryz.underlying26 Tryz.sizeOf3 rfl i6 rfl t5) ?_
   refine L_ld (c:=.int .i64 (u3)) rfl rfl .plain (fun _ _ h=>h.ch) y6 rfl ?_
   refine Ga (.bool ((u3 == (-1:Int)))) rfl rfl (P_int rfl rfl rfl) ?_
   refine Ga (.bool ((u3 == (-1:Int)))) rfl rfl (Zk rfl) ?_
   refine L_y (fPtr p1 3) rfl rfl rfl rfl o0 (Zc at_90_1 rfl (PT.ptr q1)) ?_
   refine L_ld (c:=n8) rfl rfl (.yes2 rfl rfl o0) (fun _ _ h=>h.ch) v8 rfl ?_
   refine L_y (.int .i64 (x1)) rfl rfl rfl rfl o0 (Zk rfl) ?_
   refine L_y (ePtr n8 x1 1) rfl rfl rfl rfl o0 (Zh (α:=Int) Tryz.underlying26 Tryz.sizeOf3 rfl r8 rfl i7) ?_
   refine L_ld (c:=.int .i64 (y98)) rfl rfl (.yes2 rfl rfl o0) (fun _ _ h=>h.ch) k8 rfl ?_
   refine L_y (fPtr p1 0) rfl rfl rfl rfl o0 (Zc at_90_0 rfl (PT.ptr q1)) ?_
   refine L_ld (c:=m7) rfl rfl (.yes2 rfl rfl o0) (fun _ _ h=>h.ch) l8 rfl ?_
   refine L_y (.int .i64 (x2)) rfl rfl rfl rfl o0 (Zk rfl) ?_
   refine L_do (φ:=fun v g w=>v=.int .i64 (y104)) rfl rfl (.yes2 rfl rfl o0) (fun g w hd=>Zp (g:=g) (vs:=[m7,.int .i64 (x2)]) en27 (.cons rfl (.cons rfl .nil)) (wk27 (d9.ext hd.1) m8) fun g' w' v hs hr=>⟨g',hs,hr⟩) (fun aB hv=>?_)
   obtain ⟨_,_,_,rfl⟩:=hv
   refine L_y (.bool ((y98 == y104))) rfl rfl rfl rfl o0 (P_int rfl rfl rfl) ?_
   refine Ga (.bool ((y98 == y104))) rfl rfl (Zl (b:=(u3 == (-1:Int))) rfl (pick_f o0 rfl)) ?_
   refine Ga (.bool ((y98 == y104))) rfl rfl (P_assign rfl) ?_
   refine L_nl fun k9 dB hs=>?_
   have hfr:=hfr.ext hs
   clear hs
   refine Zb ?_
   obtain rfl:=sinj h
   exact hQ _ _ ⟨k9,hfr,rfl⟩
 ·clear hx
  obtain ⟨iB,hfr,g8⟩:=hR
  refine E_ret ?_
  obtain rfl:=sinj h
  exact end1 rfl rfl (show _=.bool (l5) from g8) ⟨_,hfr,rfl⟩
def f65 (x0:ChainCard) (z0:Int):Option (Bool):=
 Option.bind (α:=Bool) (
  (f26 ((-1:Int)) ((59:Int)) (([(x0).Number]:List Int))).bind fun l5=>
  bif (!l5) then
   some (true)
  else
   (f24 z0 (([(x0).Row]:List Int))).bind fun t5=>
   some ((!t5))
  ) fun u3=>
 some (u3)
theorem en65:Enters Tryz.prog 65:=enters_of Tryz.func65 (by kernel_rfl) rfl
theorem wk65 {gI:Gh} {wI:World} {x0:ChainCard} {z0:Int} {up0:Value} (rp0:RV gI.m wI x0 up0) {pf0:Value} (qf0:PT gI.m wI z0 pf0) {r:Bool} (h:f65 x0 z0=some r):Fn Tryz.prog 65 #[up0,pf0] gI wI (fun _ _ v=>v=.bool (r)):=by
 unfold f65 at h
 refine fn_of_E Tryz.func65 rfl (Nat.le_of_ble_eq_true rfl) fun g0 hm hfr=>?_
 have qf0:PT g0.m wI z0 pf0:=hm ▸ qf0
 have rp0:RV g0.m wI x0 up0:=hm ▸ rp0
 show E _ 17 none _ _ _ _ _
 refine Zf (Za (Ze .plain rfl (D_box (g:=g0) rfl rp0 fun g1 w1 p1 hs q1=>?_)))
 have hfr:=hfr.ext hs
 have qf0:=qf0.ext hs
 refine Zg (.bool false) rfl rfl ?_
 refine Zb (Zd ?_)
 obtain ⟨u3,hx,h⟩:=Gb h
 refine E_join (fun e w=>∃ (g:Gh) ,Fr gI wI g w∧e 3=.bool (u3)) (fun Q' hQ=>?_) (fun k9 u9 hR=>?_)
 ·replace h := hx
  clear hx
  refine Za (Zx (fPtr p1 0) (Zc at_62_0 rfl (PT.ptr q1)) rfl ?_)
  have i7:=Zm (part_ChainCard_0).1 q1
  refine Ze .plain rfl (D_load (g:=g1) Tryz.isAgg3 Tryz.sizeOf3 rfl i7 fun y9 m7=>?_)
  obtain rfl:=Zj.1 m7
  refine Ze .plain rfl (D_buildSlice (g:=g1) 3006 (xs:=([(x0).Number]:List Int)) (vs:=[.int .i64 ((x0).Number)]) Tryz.underlying26 Tryz.sizeOf3 Tryz.zeroValue3 rfl rfl (.cons rfl .nil) (RVs.cons (Zj.2 rfl) RVs.nil) rfl rfl fun g8 z9 k8 hs o16 l8 hxt hfl=>?_)
  have hfr:=hfr.stp hs
  have qf0:=qf0.stp hs
  have q1:=q1.stp hs
  obtain ⟨l5,x6,h⟩:=Gb h
  refine Ze .plain rfl (Zp (g:=g8) (vs:=[.int .i64 (-1),.int .i64 (59),k8]) en26 (.cons rfl (.cons rfl (.cons rfl .nil))) (wk26 l8 x6) fun x5 l9 bA hs hr=>?_)
  have hfr:=hfr.ext hs
  have qf0:=qf0.ext hs
  have q1:=q1.ext hs
  subst hr
  refine Zx (.bool (!l5)) (P_not rfl) rfl ?_
  refine Zn (.bool (!l5)) rfl rfl ?_
  rcases Zt h with ⟨o0,h⟩ | ⟨o0,h⟩
  ·refine Zz rfl rfl o0 rfl rfl ?_
   iterate 5 refine Zz rfl rfl o0 rfl rfl ?_
   refine Zx (.bool true) (Zl (b:=(!l5)) rfl (pick_t o0 rfl)) rfl ?_
   refine Zg (.bool true) rfl rfl ?_
   refine Zb ?_
   obtain rfl:=sinj h
   exact hQ _ _ ⟨x5,hfr,rfl⟩
  ·refine Ze (.yes2 rfl rfl o0) rfl (D_load (g := x5) Tryz.isAgg71 Tryz.sizeOf71 rfl qf0 fun iA m8 => ?_)
   obtain rfl:=Zj.1 m8
   refine Zy (fPtr p1 1) (Zc at_62_1 rfl (PT.ptr q1)) rfl rfl o0 rfl ?_
   have n8:=Zm (part_ChainCard_1).1 q1
   refine Ze (.yes2 rfl rfl o0) rfl (D_load (g:=x5) Tryz.isAgg3 Tryz.sizeOf3 rfl n8 fun rA r8=>?_)
   obtain rfl:=Zj.1 r8
   refine Ze (.yes2 rfl rfl o0) rfl (D_buildSlice (g:=x5) 3013 (xs:=([(x0).Row]:List Int)) (vs:=[.int .i64 ((x0).Row)]) Tryz.underlying26 Tryz.sizeOf3 Tryz.zeroValue3 rfl rfl (.cons rfl .nil) (RVs.cons (Zj.2 rfl) RVs.nil) rfl rfl fun v8 yA x8 hs o23 a9 hxt hfl=>?_)
   have hfr:=hfr.stp hs
   obtain ⟨t5,y6,h⟩:=Gb h
   refine Ze (.yes2 rfl rfl o0) rfl (Zp (g:=v8) (vs:=[.int .i64 (z0),x8]) en24 (.cons rfl (.cons rfl .nil)) (wk24 a9 y6) fun d9 n9 aB hs hr=>?_)
   have hfr:=hfr.ext hs
   subst hr
   refine Zy (.bool (!t5)) (P_not rfl) rfl rfl o0 rfl ?_
   refine Zx (.bool (!t5)) (Zl (b:=(!l5)) rfl (pick_f o0 rfl)) rfl ?_
   refine Zg (.bool (!t5)) rfl rfl ?_
   refine Zb ?_
   obtain rfl:=sinj h
   exact hQ _ _ ⟨d9,hfr,rfl⟩
 ·clear hx
  obtain ⟨dB,hfr,i6⟩:=hR
  refine E_ret ?_
  obtain rfl:=sinj h
  exact end1 rfl rfl (show _=.bool (u3) from i6) ⟨_,hfr,rfl⟩
def f71 (x0:Str) (z0:Int):Option (Bool):=
 Option.bind (α:=Bool) (
  bif (((x0).b.length : Int) != z0) then
   some (true)
  else
   (f72 x0 ((⟨[120,46]⟩:Str))).bind fun y8=>
   some ((!((y8).b == ((⟨[]⟩:Str)).b)))
  ) fun o0=>
 some (o0)
theorem en71:Enters Tryz.prog 71:=enters_of Tryz.func71 (by kernel_rfl) rfl
theorem wk71 {gI:Gh} {wI:World} {x0:Str} {z0:Int} {pf0:Value} (qf0:PT gI.m wI z0 pf0) {r:Bool} (h:f71 x0 z0=some r):Fn Tryz.prog 71 #[Str.v (x0),pf0] gI wI (fun _ _ v=>v=.bool (r)):=by
 unfold f71 at h
 refine fn_of_E Tryz.func71 rfl (Nat.le_of_ble_eq_true rfl) fun g0 hm hfr=>?_
 have qf0:PT g0.m wI z0 pf0:=hm ▸ qf0
 show E _ 13 none _ _ _ _ _
 refine Zf (Za (Zg (.bool false) rfl rfl ?_))
 refine Zb (Zd ?_)
 obtain ⟨o0,hx,h⟩:=Gb h
 refine E_join (fun e w=>∃ (g:Gh) ,Fr gI wI g w∧e 3=.bool (o0)) (fun Q' hQ=>?_) (fun t5 w9 hR=>?_)
 ·replace h := hx
  clear hx
  refine Za (Zn (Str.v (x0)) rfl rfl ?_)
  refine Zx (.int .i64 ((x0).b.length:Int)) (P_lenS Tryz.underlying9 rfl) rfl ?_
  refine Ze .plain rfl (D_load (g:=g0) Tryz.isAgg3 Tryz.sizeOf3 rfl qf0 fun v5 r5=>?_)
  obtain rfl:=Zj.1 r5
  refine EL_in (.bool ((((x0).b.length:Int) != z0))) rfl rfl rfl rfl ?_
  refine Zn (.bool ((((x0).b.length:Int) != z0))) rfl rfl ?_
  rcases Zt h with ⟨hc6,h⟩ | ⟨hc6,h⟩
  ·refine Zz rfl rfl hc6 rfl rfl ?_
   refine Zz rfl rfl hc6 rfl rfl ?_
   refine Zz rfl rfl hc6 rfl rfl ?_
   refine Zx (.bool true) (Zl (b:=(((x0).b.length:Int) != z0)) rfl (pick_t hc6 rfl)) rfl ?_
   refine Zg (.bool true) rfl rfl ?_
   refine Zb ?_
   obtain rfl:=sinj h
   exact hQ _ _ ⟨g0,hfr,rfl⟩
  ·refine Zy (Str.v (x0)) (Zk rfl) rfl rfl hc6 rfl ?_
   obtain ⟨y8,l5,h⟩:=Gb h
   refine Ze (.yes2 rfl rfl hc6) rfl (Zp (g:=g0) (vs:=[Str.v (x0),Str.v (⟨[120,46]⟩:Str)]) en72 (.cons rfl (.cons rfl .nil)) (wk72  l5) fun g7 w7_ v7 hs hr=>?_)
   have hfr:=hfr.ext hs
   subst hr
   refine Zy (.bool ((!((y8).b == ((⟨[]⟩:Str)).b)))) (P_str rfl rfl rfl) rfl rfl hc6 rfl ?_
   refine Zx (.bool ((!((y8).b == ((⟨[]⟩:Str)).b)))) (Zl (b:=(((x0).b.length:Int) != z0)) rfl (pick_f hc6 rfl)) rfl ?_
   refine Zg (.bool ((!((y8).b == ((⟨[]⟩:Str)).b)))) rfl rfl ?_
   refine Zb ?_
   obtain rfl:=sinj h
   exact hQ _ _ ⟨g7,hfr,rfl⟩
 ·clear hx
  obtain ⟨g9,hfr,u3⟩:=hR
  refine E_ret ?_
  obtain rfl:=sinj h
  exact end1 rfl rfl (show _=.bool (o0) from u3) ⟨_,hfr,rfl⟩
def f8 (x0:Design):Option (ChainBelt × Int):=
 jn (σ:=ChainBelt) (fun z9=>
  Option.bind (α:=ChainBelt) (
   lp (σ:=ChainBelt × Int) (fun k94 (m7,o0)=>
    bif (decide (o0 < (((x0).Rows).length : Int))) then
     Option.bind (α:=ChainBelt) (
      (idx ((x0).Rows) o0).bind fun t5=>
      (apnd 24 ((m7).Cards) (([(⟨o0,t5,false⟩:ChainCard)]:List ChainCard))).bind fun a9=>
      some ({ m7 with Cards:=a9 })
      ) fun x5=>
     k94 (x5,(w64 (o0 + (1:Int))))
    else
     some (m7)
    ) big ({ z9 with Hooks:=(x0).Hooks },(0:Int))
   ) fun y6=>
  some (y6,(0:Int))
  ) fun aD=>
 (f23 ((x0).Hooks)).bind fun bA=>
 bif (!bA) then
  some ((⟨0,[]⟩:ChainBelt),(2:Int))
 else
  bif (decide ((((x0).Rows).length : Int) > (60 : Int))) then
   some ((⟨0,[]⟩:ChainBelt),(5:Int))
  else
   bif ((((x0).Rows).length : Int) == (0 : Int)) then
    some ((⟨0,[]⟩:ChainBelt),(7:Int))
   else
    (f24 ((x0).Hooks) ((x0).Rows)).bind fun iA=>
    bif (!iA) then
     some ((⟨0,[]⟩:ChainBelt),(2:Int))
    else
     aD ((⟨0,[]⟩:ChainBelt))
theorem en8:Enters Tryz.prog 8:=enters_of Tryz.func8 (by kernel_rfl) rfl
theorem wk8 {gI:Gh} {wI:World} {x0:Design} {up0:Value} (rp0:RV gI.m wI x0 up0) {r:ChainBelt × Int} (h:f8 x0=some r):Fn Tryz.prog 8 #[up0] gI wI (fun m w v=>∃ y0 y1,v=.tuple #[y0,y1]∧RV m w (r.1) y0∧y1=.int .i64 (r.2)):=by
 unfold f8 at h
 refine fn_of_E Tryz.func8 rfl (Nat.le_of_ble_eq_true rfl) fun g0 hm hfr=>?_
 have rp0:RV g0.m wI x0 up0:=hm ▸ rp0
 show E _ 54 none _ _ _ _ _
 refine Zf (Za (Ze .plain rfl (D_box (g:=g0) rfl rp0 fun g1 w1 p1 hs q1=>?_)))
 have hfr:=hfr.ext hs
 refine Ze .plain rfl (D_allocOc (g:=g1) 2002 (⟨0,[]⟩:ChainBelt) Tryz.zeroValue36 (fun m w=>⟨_,(rep_two Zw rep_nil),rfl⟩) fun g2 w2 p2 hs b2 cb=>?_)
 have hfr:=hfr.stp hs
 have q1:=q1.stp hs
 have k8:OSF 2002 60201 1 g2 w2 62 36 ([]:List ChainCard) p2:=cb.osf (by rfl)
 clear cb
 refine Zg (.int .i64 (0)) rfl rfl ?_
 refine Zb (Zd (Zf (Za (Zx (fPtr p1 0) (Zc at_31_0 rfl (PT.ptr q1)) rfl ?_))))
 have q3:=Zm (part_Design_0).1 q1
 refine Ze .plain rfl (D_load (g:=g2) Tryz.isAgg3 Tryz.sizeOf3 rfl q3 fun v4 r4=>?_)
 obtain rfl:=Zj.1 r4
 refine Zg (.int .i64 ((x0).Hooks)) rfl rfl ?_
 refine Zb (Zd (Zq h (fun (s:ChainBelt) e w=>∃ (g:Gh) ,Fr gI wI g w∧e 1=p1∧PT g.m w (x0:Design) p1∧e 2=p2∧OB 2002 g w 36 (s:ChainBelt) p2∧OSF 2002 60201 1 g w 62 36 ((s).Cards) p2) (fun X31 aD gD h=>?_) ?_))
 ·refine Zr ?_
  refine Zf (Za (Zn (.int .i64 ((x0).Hooks)) rfl rfl ?_))
  obtain ⟨bA,iD,h⟩:=Gb h
  refine Ze .plain rfl (Zp (g:=g2) (vs:=[.int .i64 ((x0).Hooks)]) en23 (.cons rfl .nil) (wk23  iD) fun x6 cG dH hs hr=>?_)
  have hfr:=hfr.ext hs
  have q1:=q1.ext hs
  have k8:=k8.ext hs
  have b2:=b2.ext hs
  subst hr
  refine Zx (.bool (!bA)) (P_not rfl) rfl ?_
  refine Zg (.bool (!bA)) rfl rfl ?_
  refine Zb (Zd ?_)
  rcases Zt h with ⟨d9,h⟩ | ⟨d9,h⟩
  ·refine E_ct d9 rfl ?_
   refine Zf (Za (Ze .plain rfl (D_loadO (g:=x6) Tryz.isAgg36 Tryz.sizeOf36 rfl b2 fun mE oE=>?_)))
   refine Ze .plain rfl (D_storeOc (g:=x6) (v:=mE) Tryz.sizeOf36 rfl b2 rfl oE fun gH iH hs b36 cb=>?_)
   clear cb
   have hfr:=hfr.stp hs
   refine Zg (.int .i64 (2)) rfl rfl ?_
   refine Zb (Zd (E_ret (blk_r ?_)))
   refine thn_r ?_
   obtain rfl:=sinj h
   obtain ⟨ad37,cv37,hp37,jD,cr37⟩:=ob_read Tryz.isAgg36 Tryz.sizeOf36 b36
   exact endm_ct rfl rfl ((show _=p2 from rfl).trans hp37) jD (show _=.int .i64 (2) from rfl) ⟨_,hfr,_,_,rfl,cr37,rfl⟩
  ·refine E_cf d9 rfl ?_
   refine Zf (Za (Zx (fPtr p1 1) (Zc at_31_1 rfl (PT.ptr q1)) rfl ?_))
   have rE:=Zm (part_Design_1).1 q1
   refine Ze .plain rfl (D_load (g:=x6) Tryz.isAgg26 Tryz.sizeOf26 rfl rE fun jH uE=>?_)
   refine Zx (.int .i64 (((x0).Rows).length:Int)) (P_len Tryz.underlying26 rfl uE) rfl ?_
   refine Zx (.bool ((decide ((((x0).Rows).length:Int) > (60:Int))))) (P_int rfl rfl rfl) rfl ?_
   refine Zx (.bool ((decide ((((x0).Rows).length:Int) > (60:Int))))) (P_assign rfl) rfl ?_
   refine Zb (Zd ?_)
   rcases Zt h with ⟨k9,h⟩ | ⟨k9,h⟩
   ·refine E_ct k9 rfl ?_
    refine Zf (Za (Ze .plain rfl (D_loadO (g:=x6) Tryz.isAgg36 Tryz.sizeOf36 rfl b2 fun vE xE=>?_)))
    refine Ze .plain rfl (D_storeOc (g:=x6) (v:=vE) Tryz.sizeOf36 rfl b2 rfl xE fun kH lH hs b42 cb=>?_)
    clear cb
    have hfr:=hfr.stp hs
    refine Zg (.int .i64 (5)) rfl rfl ?_
    refine Zb (Zd (E_ret (blk_r ?_)))
    refine thn_r ?_
    obtain rfl:=sinj h
    obtain ⟨ad43,cv43,hp43,lD,cr43⟩:=ob_read Tryz.isAgg36 Tryz.sizeOf36 b42
    exact endm_ct rfl rfl ((show _=p2 from rfl).trans hp43) lD (show _=.int .i64 (5) from rfl) ⟨_,hfr,_,_,rfl,cr43,rfl⟩
   ·refine E_cf k9 rfl ?_
    refine Zf (Za (Zx (fPtr p1 1) (Zc at_31_1 rfl (PT.ptr q1)) rfl ?_))
    have yE:=Zm (part_Design_1).1 q1
    refine Ze .plain rfl (D_load (g:=x6) Tryz.isAgg26 Tryz.sizeOf26 rfl yE fun mH zE=>?_)
    refine Zx (.int .i64 (((x0).Rows).length:Int)) (P_len Tryz.underlying26 rfl zE) rfl ?_
    refine EL_in (.bool (((((x0).Rows).length:Int) == (0:Int)))) rfl rfl rfl rfl ?_
    refine Zg (.bool (((((x0).Rows).length:Int) == (0:Int)))) rfl rfl ?_
    refine Zb (Zd ?_)
    rcases Zt h with ⟨l9,h⟩ | ⟨l9,h⟩
    ·refine E_ct l9 rfl ?_
     refine Zf (Za (Ze .plain rfl (D_loadO (g:=x6) Tryz.isAgg36 Tryz.sizeOf36 rfl b2 fun cF dF=>?_)))
     refine Ze .plain rfl (D_storeOc (g:=x6) (v:=cF) Tryz.sizeOf36 rfl b2 rfl dF fun nH oH hs b48 cb=>?_)
     clear cb
     have hfr:=hfr.stp hs
     refine Zg (.int .i64 (7)) rfl rfl ?_
     refine Zb (Zd (E_ret (blk_r ?_)))
     refine thn_r ?_
     obtain rfl:=sinj h
     obtain ⟨ad49,cv49,hp49,nD,cr49⟩:=ob_read Tryz.isAgg36 Tryz.sizeOf36 b48
     exact endm_ct rfl rfl ((show _=p2 from rfl).trans hp49) nD (show _=.int .i64 (7) from rfl) ⟨_,hfr,_,_,rfl,cr49,rfl⟩
    ·refine E_cf l9 rfl ?_
     refine Zf (Za (Zn (.int .i64 ((x0).Hooks)) rfl rfl ?_))
     refine Zx (fPtr p1 1) (Zc at_31_1 rfl (PT.ptr q1)) rfl ?_
     have eF:=Zm (part_Design_1).1 q1
     refine Ze .plain rfl (D_load (g:=x6) Tryz.isAgg26 Tryz.sizeOf26 rfl eF fun rF sF=>?_)
     obtain ⟨iA,oD,h⟩:=Gb h
     refine Ze .plain rfl (Zp (g:=x6) (vs:=[.int .i64 ((x0).Hooks),rF]) en24 (.cons rfl (.cons rfl .nil)) (wk24 sF oD) fun oB eG pH hs hr=>?_)
     have hfr:=hfr.ext hs
     have q1:=q1.ext hs
     have k8:=k8.ext hs
     have b2:=b2.ext hs
     subst hr
     refine Zx (.bool (!iA)) (P_not rfl) rfl ?_
     refine Zg (.bool (!iA)) rfl rfl ?_
     refine Zb (Zd ?_)
     rcases Zt h with ⟨n9,h⟩ | ⟨n9,h⟩
     ·refine E_ct n9 rfl ?_
      refine Zf (Za (Ze .plain rfl (D_loadO (g:=oB) Tryz.isAgg36 Tryz.sizeOf36 rfl b2 fun tF uF=>?_)))
      refine Ze .plain rfl (D_storeOc (g:=oB) (v:=tF) Tryz.sizeOf36 rfl b2 rfl uF fun qH sH hs b56 cb=>?_)
      clear cb
      have hfr:=hfr.stp hs
      refine Zg (.int .i64 (2)) rfl rfl ?_
      refine Zb (Zd (E_ret (blk_r ?_)))
      refine thn_r ?_
      obtain rfl:=sinj h
      obtain ⟨ad57,cv57,hp57,sD,cr57⟩:=ob_read Tryz.isAgg36 Tryz.sizeOf36 b56
      exact endm_ct rfl rfl ((show _=p2 from rfl).trans hp57) sD (show _=.int .i64 (2) from rfl) ⟨_,hfr,_,_,rfl,cr57,rfl⟩
     ·refine E_cf n9 rfl ?_
      exact Zu (blk_n (Zd (gD ((⟨0,[]⟩:ChainBelt)) _ _ ⟨oB,hfr,rfl,q1,rfl,b2,k8⟩ h)))
 ·rintro z9 gG tH ⟨bD, hfr, rA, i6, yA, aB, u2_1_58⟩ h
  refine Zf (Za (Zx (fPtr p1 0) (Zc at_31_0 rA (PT.ptr i6)) rfl ?_))
  have vF:=Zm (part_Design_0).1 i6
  refine Ze .plain rfl (D_load (g:=bD) Tryz.isAgg3 Tryz.sizeOf3 rfl vF fun uH xF=>?_)
  obtain rfl:=Zj.1 xF
  refine Zx (fPtr p2 0) (Zc at_36_0 yA (OB.ptr aB)) rfl ?_
  refine Ze .plain rfl (D_storeFc (g:=bD) part_ChainBelt_0 Tryz.sizeOf3 rfl aB rfl (Zj.2 rfl) fun cD xH hs b62 rst hos=>?_)
  have u2_1_58:=u2_1_58.rest hs rst
  clear rst hos
  have hfr:=hfr.stp hs
  have i6:=i6.stp hs
  refine Zb (Zd ?_)
  obtain ⟨y6,hx,h⟩:=Gb h
  refine E_join (fun e w=>∃ (g:Gh) ,Fr gI wI g w∧e 2=p2∧OB 2002 g w 36 (y6:ChainBelt) p2∧OSF 2002 60201 1 g w 62 36 ((y6).Cards) p2) (fun Q' hQ=>?_) (fun aG hG hR=>?_)
  ·replace h := hx
   clear hx
   refine Zf (Za (Zx (fPtr p1 1) (Zc at_31_1 rA (PT.ptr i6)) rfl ?_))
   have yF:=Zm (part_Design_1).1 i6
   refine Ze .plain rfl (D_load (g:=cD) Tryz.isAgg26 Tryz.sizeOf26 rfl yF fun m8 eD=>?_)
   refine Zx (.int .i64 (((x0).Rows).length:Int)) (P_len Tryz.underlying26 rfl eD) rfl ?_
   refine Zn (.int .i64 (0)) rfl rfl ?_
   refine Zb (Zd (Zr ?_))
   refine E_lp h (fun (s:ChainBelt × Int) e w=>∃ (g:Gh) ,Fr gI wI g w∧e 2=p2∧OB 2002 g w 36 (s.1:ChainBelt) p2∧OSF 2002 60201 1 g w 62 36 ((s.1).Cards) p2∧e 37=m8∧RV g.m w ((x0).Rows:List Int) m8∧e 38=.int .i64 ((((x0).Rows).length:Int))∧e 39=.int .i64 (s.2)) ⟨cD,hfr,yA,b62,u2_1_58,rfl,eD,rfl,rfl⟩ (fun X94 k94 tD=>?_)
   rintro ⟨m7,o0⟩ iG zF ⟨n8,hfr,g8,l5,u2_1_95,r8,u3,v8,i7⟩ h
   refine Zf (Za (Zx (.bool ((decide (o0 < (((x0).Rows).length:Int))))) (P_int i7 v8 rfl) rfl ?_))
   refine Zb (Zd (Zf ?_))
   rcases Zt h with ⟨u9,h⟩ | ⟨u9,h⟩
   ·refine E_ct u9 rfl ?_
    refine Zu (Zd ?_)
    obtain ⟨x5,hx,h⟩:=Gb h
    refine E_join (fun e w=>∃ (g:Gh) ,Fr gI wI g w∧e 2=p2∧OB 2002 g w 36 (x5:ChainBelt) p2∧OSF 2002 60201 1 g w 62 36 ((x5).Cards) p2∧e 37=m8∧RV g.m w ((x0).Rows:List Int) m8∧e 38=.int .i64 ((((x0).Rows).length:Int))∧e 39=.int .i64 (o0)) (fun Q' hQ=>?_) (fun bG jG hR=>?_)
    ·replace h := hx
     clear hx
     refine Zr ?_
     refine Zf (Za (Zo i7 rfl ?_))
     obtain ⟨t5,dB,h⟩:=Gb h
     refine Zx (ePtr m8 o0 1) (Zh (α:=Int) Tryz.underlying26 Tryz.sizeOf3 r8 u3 i7 dB) rfl ?_
     have uD:=PT_idx u3 dB
     refine Ze .plain rfl (D_load (g:=n8) Tryz.isAgg3 Tryz.sizeOf3 rfl uD fun kG vD=>?_)
     obtain rfl:=Zj.1 vD
     refine Zg (.int .i64 (o0)) rfl rfl ?_
     refine Zg (.int .i64 (t5)) rfl rfl ?_
     refine Zb (Zd (Za (Zx (fPtr p2 1) (Zc at_36_1 g8 (OB.ptr l5)) rfl ?_)))
     refine Ze .plain rfl (D_loadFS (g:=n8) part_ChainBelt_1.1 Tryz.isAgg34 Tryz.sizeOf34 rfl l5 u2_1_95 fun lG y9 o112=>?_)
     refine Zn (.int .i64 (o0)) rfl rfl ?_
     refine Zn (.int .i64 (t5)) rfl rfl ?_
     have tB:RV n8.m zF (⟨o0,t5,false⟩:ChainCard) (.agg (setCh [[.int .i64 0],[.int .i64 0],[.bool false]] [(0,.int .i64 (o0)),(1,.int .i64 (t5))]).flatten.toArray):=RV_build rfl (rep_pair (rfl) (rep_pair (rfl) (rep_last (rep_bool))))
     generalize rC:(Value.agg (setCh [[.int .i64 0],[.int .i64 0],[.bool false]] [(0,.int .i64 (o0)),(1,.int .i64 (t5))]).flatten.toArray)=vB at tB
     refine Zx vB (rC ▸ P_build (vs:=[(0,.int .i64 (o0)),(1,.int .i64 (t5))]) [[.int .i64 0],[.int .i64 0],[.bool false]] lay_62 rfl rfl (.cons rfl (.cons rfl .nil)) ⟨⟨_,rfl,rfl⟩,⟨⟨_,rfl,rfl⟩,trivial⟩⟩) rfl ?_
     refine Ze .plain rfl (D_buildSlice (g:=n8) 3049 (xs:=([(⟨o0,t5,false⟩:ChainCard)]:List ChainCard)) (vs:=[vB]) Tryz.underlying34 Tryz.sizeOf62 Tryz.zeroValue62 rfl rfl (.cons rfl .nil) (RVs.cons tB RVs.nil) rfl rfl fun xD mG sG hs o114 yD hxt hfl=>?_)
     have hfr:=hfr.stp hs
     have l5:=l5.stp hs rfl
     have u3:=u3.stp hs
     have y9:=y9.stp hs
     have o112:=o112.stp hs rfl
     obtain ⟨a9,uC,h⟩:=Gb h
     refine Ze .plain rfl (D_append (g:=xD) (i:=60201) Tryz.underlying34 info_62 rfl rfl o112 y9 rfl yD uC fun zD xG yG hs o115 yB _=>?_)
     have hfr:=hfr.stp hs
     have l5:=l5.stp hs rfl
     have u3:=u3.stp hs
     refine Zx (fPtr p2 1) (Zc at_36_1 g8 (OB.ptr l5)) rfl ?_
     refine Ze .plain rfl (D_storeFc (g:=zD) part_ChainBelt_1 Tryz.sizeOf34 rfl l5 rfl yB fun aE zG hs b118 rst hos=>?_)
     have zB:=hos _ _ 60201 62 (a9:List ChainCard) (rv_cells1 yB) rfl o115
     clear rst hos
     have hfr:=hfr.stp hs
     have u3:=u3.stp hs
     refine Zb (blk_n ?_)
     obtain rfl:=sinj h
     exact hQ _ _ ⟨aE,hfr,g8,b118,zB,r8,u3,v8,i7⟩
    ·clear hx
     obtain ⟨bE,hfr,cC,mC,u2_1_119,iB,lB,mB,nB⟩:=hR
     refine Za (EL_in (.int .i64 ((w64 (o0 + (1:Int))))) nB rfl rfl rfl ?_)
     refine Zn (.int .i64 ((w64 (o0 + (1:Int))))) rfl rfl ?_
     exact Zb (Zd (tD (x5,(w64 (o0 + (1:Int)))) _ _ ⟨bE,hfr,cC,mC,u2_1_119,iB,lB,mB,rfl⟩ h))
   ·refine E_cf u9 rfl ?_
    refine E_exit ?_
    refine thn_e ?_
    refine thn_e ?_
    refine blk_hit ?_
    obtain rfl:=sinj h
    exact hQ _ _ ⟨n8,hfr,g8,l5,u2_1_95⟩
  ·clear hx
   obtain ⟨qC,hfr,l8,x8,u2_1_120⟩:=hR
   refine Zf (Za (Ze .plain rfl (D_loadO (g:=qC) Tryz.isAgg36 Tryz.sizeOf36 l8 x8 fun iE lE=>?_)))
   refine Ze .plain rfl (D_storeOc (g:=qC) (v:=iE) Tryz.sizeOf36 l8 x8 rfl lE fun aH cH hs b122 cb=>?_)
   clear cb
   have hfr:=hfr.stp hs
   refine Zg (.int .i64 (0)) rfl rfl ?_
   refine Zb (Zd (E_ret ?_))
   obtain rfl:=sinj h
   obtain ⟨ad123,cv123,hp123,vC,cr123⟩:=ob_read Tryz.isAgg36 Tryz.sizeOf36 b122
   exact endm_ct rfl rfl ((show _=p2 from l8).trans hp123) vC (show _=.int .i64 (0) from rfl) ⟨_,hfr,_,_,rfl,cr123,rfl⟩
def f14 (x0:TieHarness) (x1:Design):Option ((List Str) × Int):=
 jn (σ:=(List Str)) (fun l8=>
  jn (σ:=(List Str)) (fun rA=>
   Option.bind (α:=(List Str)) (
    lp (σ:=(List Str) × Int) (fun uD (m8,o0)=>
     bif (decide (o0 < (((x1).Rows).length : Int))) then
      Option.bind (α:=(List Str)) (
       (idx ((x1).Rows) o0).bind fun d9=>
       (f31 ((⟨x0⟩:TieTieHarness)) d9).bind fun y81=>
       (apnd 16 m8 (([y81]:List Str))).bind fun y84=>
       some (y84)
       ) fun y6=>
      uD (y6,(w64 (o0 + (1:Int))))
     else
      some (m8)
     ) big (rA,(0:Int))
    ) fun g8=>
   some (g8,(0:Int))
   ) fun vD=>
  (f30 x1).bind fun x6=>
  bif (x6 != (0 : Int)) then
   some ([],x6)
  else
   bif ((x1).Hooks != (x0).Hooks) then
    some ([],(4:Int))
   else
    vD (l8)
  ) fun k7=>
 (f29 x0).bind fun i7=>
 bif (i7 != (0 : Int)) then
  some ([],i7)
 else
  k7 ([])
theorem en14:Enters Tryz.prog 14:=enters_of Tryz.func14 (by kernel_rfl) rfl
theorem wk14 {gI:Gh} {wI:World} {x0:TieHarness} {x1:Design} {up0:Value} (rp0:RV gI.m wI x0 up0) {up1:Value} (rp1:RV gI.m wI x1 up1) {r:(List Str) × Int} (h:f14 x0 x1=some r):Fn Tryz.prog 14 #[up0,up1] gI wI (fun m w v=>∃ y0 y1,v=.tuple #[y0,y1]∧RV m w (r.1) y0∧y1=.int .i64 (r.2)):=by
 unfold f14 at h
 refine fn_of_E Tryz.func14 rfl (Nat.le_of_ble_eq_true rfl) fun g0 hm hfr=>?_
 have rp0:RV g0.m wI x0 up0:=hm ▸ rp0
 have rp1:RV g0.m wI x1 up1:=hm ▸ rp1
 show E _ 43 none _ _ _ _ _
 refine Zf (Za (Ze .plain rfl (D_box (g:=g0) rfl rp0 fun g1 w1 p1 hs q1=>?_)))
 have hfr:=hfr.ext hs
 have rp1:=rp1.ext hs
 refine Ze .plain rfl (D_box (g:=g1) rfl rp1 fun g2 w2 p2 hs q2=>?_)
 have hfr:=hfr.ext hs
 have q1:=q1.ext hs
 refine Zg (.slice none 0 0) rfl rfl ?_
 refine Zg (.int .i64 (0)) rfl rfl ?_
 refine Zb (Zd (Zq h (fun (s:(List Str)) e w=>∃ (g:Gh) (v4:Value),Fr gI wI g w∧e 2=p1∧PT g.m w (x0:TieHarness) p1∧e 3=p2∧PT g.m w (x1:Design) p2∧e 4=v4∧RV g.m w (s:List Str) v4∧OS 1004 g w 9 (s:List Str) v4) (fun X7 k7 hk7 h=>?_) ?_))
 ·refine Zf (Za (Ze .plain rfl (D_load (g := g2) Tryz.isAgg28 Tryz.sizeOf28 rfl q1 fun v8 r8 => ?_)))
  obtain ⟨i7,mE,h⟩:=Gb h
  refine Ze .plain rfl (Zp (g:=g2) (vs:=[v8]) en29 (.cons rfl .nil) (wk29 r8 mE) fun g9 w9_ v9 hs hr=>?_)
  have hfr:=hfr.ext hs
  have q1:=q1.ext hs
  have q2:=q2.ext hs
  subst hr
  refine Zg (.int .i64 (i7)) rfl rfl ?_
  refine Zb (Zd (Zf (Za (Zn (.int .i64 (i7)) rfl rfl ?_))))
  refine EL_in (.bool ((i7 != (0:Int)))) rfl rfl rfl rfl ?_
  refine Zb (Zd ?_)
  rcases Zt h with ⟨y9,h⟩ | ⟨y9,h⟩
  ·refine E_ct y9 rfl ?_
   refine Zf (Za (Zn (.int .i64 (i7)) rfl rfl ?_))
   refine Zg (.slice none 0 0) rfl rfl ?_
   refine Zg (.int .i64 (i7)) rfl rfl ?_
   refine Zb (Zd (E_ret (thn_r ?_)))
   obtain rfl:=sinj h
   exact end2 rfl rfl (show _=.slice none 0 0 from rfl) (show _=.int .i64 (i7) from rfl) ⟨_,hfr,_,_,rfl,RV_nil,rfl⟩
  ·refine E_cf y9 rfl ?_
   exact Zu (Zd (hk7 ([]) _ _ ⟨g9,(.slice none 0 0),hfr,rfl,q1,rfl,q2,rfl,RV_nil,OS.nil⟩ h))
 ·rintro l8 gG sG ⟨xD, cC, hfr, yA, m7, n8, t5, mC, x8, a9⟩ h
  refine Zq h (fun (s:(List Str)) e w=>∃ (g:Gh) (v4:Value),Fr gI wI g w∧e 2=p1∧PT g.m w (x0:TieHarness) p1∧e 3=p2∧PT g.m w (x1:Design) p2∧e 4=v4∧RV g.m w (s:List Str) v4∧OS 1004 g w 9 (s:List Str) v4) (fun X22 vD oE h=>?_) ?_
  ·refine Zf (Za (Ze .plain rfl (D_load (g := xD) Tryz.isAgg31 Tryz.sizeOf31 n8 t5 fun zE cF => ?_)))
   obtain ⟨x6,rE,h⟩:=Gb h
   refine Ze .plain rfl (Zp (g:=xD) (vs:=[zE]) en30 (.cons rfl .nil) (wk30 cF rE) fun mB hG xG hs hr=>?_)
   have hfr:=hfr.ext hs
   have m7:=m7.ext hs
   have t5:=t5.ext hs
   have x8:=x8.ext hs
   have a9:=a9.ext hs
   subst hr
   refine Zg (.int .i64 (x6)) rfl rfl ?_
   refine Zb (Zd (Zr ?_))
   refine Zf (Za (Zn (.int .i64 (x6)) rfl rfl ?_))
   refine EL_in (.bool ((x6 != (0:Int)))) rfl rfl rfl rfl ?_
   refine Zg (.bool ((x6 != (0:Int)))) rfl rfl ?_
   refine Zb (Zd ?_)
   rcases Zt h with ⟨z9,h⟩ | ⟨z9,h⟩
   ·refine E_ct z9 rfl ?_
    refine Zf (Za (Zn (.int .i64 (x6)) rfl rfl ?_))
    refine Zg (.slice none 0 0) rfl rfl ?_
    refine Zg (.int .i64 (x6)) rfl rfl ?_
    refine Zb (Zd (E_ret (blk_r ?_)))
    refine thn_r ?_
    obtain rfl:=sinj h
    exact end2 rfl rfl (show _=.slice none 0 0 from rfl) (show _=.int .i64 (x6) from rfl) ⟨_,hfr,_,_,rfl,RV_nil,rfl⟩
   ·refine E_cf z9 rfl ?_
    refine Zf (Za (Zx (fPtr p2 0) (Zc at_31_0 n8 (PT.ptr t5)) rfl ?_))
    have dF:=Zm (part_Design_0).1 t5
    refine Ze .plain rfl (D_load (g:=mB) Tryz.isAgg3 Tryz.sizeOf3 rfl dF fun yG eF=>?_)
    obtain rfl:=Zj.1 eF
    refine Zx (fPtr p1 0) (Zc at_28_0 yA (PT.ptr m7)) rfl ?_
    have rF:=Zm (part_TieHarness_0).1 m7
    refine Ze .plain rfl (D_load (g:=mB) Tryz.isAgg3 Tryz.sizeOf3 rfl rF fun zG sF=>?_)
    obtain rfl:=Zj.1 sF
    refine EL_in (.bool (((x1).Hooks != (x0).Hooks))) rfl rfl rfl rfl ?_
    refine Zg (.bool (((x1).Hooks != (x0).Hooks))) rfl rfl ?_
    refine Zb (Zd ?_)
    rcases Zt h with ⟨bA,h⟩ | ⟨bA,h⟩
    ·refine E_ct bA rfl ?_
     refine Zf (Za (Zg (.slice none 0 0) rfl rfl ?_))
     refine Zg (.int .i64 (4)) rfl rfl ?_
     refine Zb (Zd (E_ret (blk_r ?_)))
     refine thn_r ?_
     obtain rfl:=sinj h
     exact end2 rfl rfl (show _=.slice none 0 0 from rfl) (show _=.int .i64 (4) from rfl) ⟨_,hfr,_,_,rfl,RV_nil,rfl⟩
    ·refine E_cf bA rfl ?_
     exact Zu (blk_n (Zd (oE (l8) _ _ ⟨mB,(cC),hfr,yA,m7,n8,t5,mC,x8,a9⟩ h)))
  ·rintro rA iG aH ⟨yD, qC, hfr, rC, uC, vC, aB, aD, bD, cD⟩ h
   obtain ⟨g8,hx,h⟩:=Gb h
   refine E_join (fun e w=>∃ (g:Gh) (v4:Value),Fr gI wI g w∧e 4=v4∧RV g.m w (g8:List Str) v4∧OS 1004 g w 9 (g8:List Str) v4) (fun Q' hQ=>?_) (fun jG cH hR=>?_)
   ·replace h := hx
    clear hx
    refine Zf (Za (Zx (fPtr p2 1) (Zc at_31_1 vC (PT.ptr aB)) rfl ?_))
    have tF:=Zm (part_Design_1).1 aB
    refine Ze .plain rfl (D_load (g:=yD) Tryz.isAgg26 Tryz.sizeOf26 rfl tF fun k9 zD=>?_)
    refine Zx (.int .i64 (((x1).Rows).length:Int)) (P_len Tryz.underlying26 rfl zD) rfl ?_
    refine Zn (.int .i64 (0)) rfl rfl ?_
    refine Zb (Zd (Zr ?_))
    refine E_lp h (fun (s:(List Str) × Int) e w=>∃ (g:Gh) (v4:Value),Fr gI wI g w∧e 2=p1∧PT g.m w (x0:TieHarness) p1∧e 4=v4∧RV g.m w (s.1:List Str) v4∧OS 1004 g w 9 (s.1:List Str) v4∧e 28=k9∧RV g.m w ((x1).Rows:List Int) k9∧e 29=.int .i64 ((((x1).Rows).length:Int))∧e 30=.int .i64 (s.2)) ⟨yD,(qC),hfr,rC,uC,aD,bD,cD,rfl,zD,rfl,rfl⟩ (fun X61 uD uE=>?_)
    rintro ⟨m8,o0⟩ kG dH ⟨l9,eD,hfr,dB,l5,iB,x5,i6,n9,u3,u9,k8⟩ h
    refine Zf (Za (Zx (.bool ((decide (o0 < (((x1).Rows).length:Int))))) (P_int k8 u9 rfl) rfl ?_))
    refine Zb (Zd (Zf ?_))
    rcases Zt h with ⟨iA,h⟩ | ⟨iA,h⟩
    ·refine E_ct iA rfl ?_
     refine Zu (Zd ?_)
     obtain ⟨y6,hx,h⟩:=Gb h
     refine E_join (fun e w=>∃ (g:Gh) (v4:Value),Fr gI wI g w∧e 2=p1∧PT g.m w (x0:TieHarness) p1∧e 4=v4∧RV g.m w (y6:List Str) v4∧OS 1004 g w 9 (y6:List Str) v4∧e 28=k9∧RV g.m w ((x1).Rows:List Int) k9∧e 29=.int .i64 ((((x1).Rows).length:Int))∧e 30=.int .i64 (o0)) (fun Q' hQ=>?_) (fun lG gH hR=>?_)
     ·replace h := hx
      clear hx
      refine Zr ?_
      refine Zf (Za ?_)
      obtain ⟨d9,nB,h⟩:=Gb h
      refine Zx (ePtr k9 o0 1) (Zh (α:=Int) Tryz.underlying26 Tryz.sizeOf3 n9 u3 k8 nB) rfl ?_
      have uF:=PT_idx u3 nB
      refine Ze .plain rfl (D_load (g:=l9) Tryz.isAgg3 Tryz.sizeOf3 rfl uF fun iH vF=>?_)
      obtain rfl:=Zj.1 vF
      refine Zg (.int .i64 (d9)) rfl rfl ?_
      refine Zb (Zd (Za (Zo iB rfl ?_)))
      refine Ze .plain rfl (D_load (g:=l9) Tryz.isAgg28 Tryz.sizeOf28 dB l5 fun oB aE=>?_)
      have bE:RV l9.m _ (⟨x0⟩:TieTieHarness) (.agg (setCh [[.int .i64 0,.slice none 0 0]] [(0,oB)]).flatten.toArray):=RV_build rfl (rep_last (RV.cells aE))
      generalize vE:(Value.agg (setCh [[.int .i64 0,.slice none 0 0]] [(0,oB)]).flatten.toArray)=iE at bE
      refine Zx iE (vE ▸ P_build (vs:=[(0,oB)]) [[.int .i64 0,.slice none 0 0]] lay_83 rfl rfl (.cons rfl .nil) ⟨⟨_,rfl,cells_size aE⟩,trivial⟩) rfl ?_
      refine Zn (.int .i64 (d9)) rfl rfl ?_
      obtain ⟨y81,xE,h⟩:=Gb h
      refine Ze .plain rfl (Zp (g:=l9) (vs:=[iE,.int .i64 (d9)]) en31 (.cons rfl (.cons rfl .nil)) (wk31 bE xE) fun xF mG jH hs hr=>?_)
      have hfr:=hfr.ext hs
      have l5:=l5.ext hs
      have x5:=x5.ext hs
      have i6:=i6.ext hs
      have u3:=u3.ext hs
      subst hr
      refine Ze .plain rfl (D_buildSlice (g:=xF) 3039 (xs:=([y81]:List Str)) (vs:=[Str.v (y81)]) Tryz.underlying47 Tryz.sizeOf9 Tryz.zeroValue9 rfl rfl (.cons rfl .nil) (RVs.cons (RV_str.2 rfl) RVs.nil) rfl rfl fun yF kH lH hs o82 zF hxt hfl=>?_)
      have hfr:=hfr.stp hs
      have l5:=l5.stp hs
      have x5:=x5.stp hs
      have i6:=i6.stp hs rfl
      have u3:=u3.stp hs
      obtain ⟨y84,yE,h⟩:=Gb h
      refine Ze .plain rfl (D_append (g:=yF) (i:=1004) Tryz.underlying47 info_9 rfl rfl i6 x5 rfl zF yE fun aG mH lE hs o83 bG _=>?_)
      have hfr:=hfr.stp hs
      have l5:=l5.stp hs
      have u3:=u3.stp hs
      refine Zg lE rfl rfl ?_
      refine Zb (blk_n ?_)
      obtain rfl:=sinj h
      exact hQ _ _ ⟨aG,(lE),hfr,dB,l5,rfl,bG,o83,n9,u3,u9,k8⟩
     ·clear hx
      obtain ⟨cG,gD,hfr,iD,jD,lD,nD,oD,tB,vB,yB,zB⟩:=hR
      refine Za (EL_in (.int .i64 ((w64 (o0 + (1:Int))))) zB rfl rfl rfl ?_)
      refine Zn (.int .i64 ((w64 (o0 + (1:Int))))) rfl rfl ?_
      exact Zb (Zd (uE (y6,(w64 (o0 + (1:Int)))) _ _ ⟨cG,(gD),hfr,iD,jD,lD,nD,oD,tB,vB,yB,rfl⟩ h))
    ·refine E_cf iA rfl ?_
     refine E_exit ?_
     refine thn_e ?_
     refine thn_e ?_
     refine blk_hit ?_
     obtain rfl:=sinj h
     exact hQ _ _ ⟨l9,(eD),hfr,iB,x5,i6⟩
   ·clear hx
    obtain ⟨nH,lB,hfr,sD,tD,eG⟩:=hR
    refine Zf (Za (Zo sD rfl ?_))
    refine Zg lB rfl rfl ?_
    refine Zg (.int .i64 (0)) rfl rfl ?_
    refine Zb (Zd (E_ret ?_))
    obtain rfl:=sinj h
    exact end2 rfl rfl (show _=lB from rfl) (show _=.int .i64 (0) from rfl) ⟨_,hfr,_,_,rfl,tD,rfl⟩
def f22 (x0:Int) (x1:List TieGroup):Option (TieHarness × Int × Int):=
 jn (σ:=TieHarness) (fun yD=>
  jn (σ:=TieHarness × (List Int)) (fun (eF,y9)=>
   some ((⟨x0,y9⟩:TieHarness),(0:Int),(0:Int))
   ) fun rF=>
  lp (σ:=TieHarness × (List Int) × Int) (fun sF (m7,g8,u3)=>
   bif (decide (u3 < ((x1).length : Int))) then
    jn (σ:=TieHarness × (List Int)) (fun (aB,dB)=>
     sF (aB,dB,(w64 (u3 + (1:Int))))
     ) fun tF=>
    (idx x1 u3).bind fun l5=>
    jn (σ:=TieHarness) (fun z9=>
     (f44 ((⟨l5⟩:TieTieGroup))).bind fun rA=>
     (f43 rA ((l5).Times)).bind fun iB=>
     (apnd 8 g8 iB).bind fun yA=>
     bif (decide (((yA).length : Int) > (96 : Int))) then
      some (z9,u3,(8:Int))
     else
      tF (z9,yA)
     ) fun uF=>
    Option.bind (α:=Bool) (
     (f42 ((0:Int)) ((w64 (x0 - (1:Int)))) (([(l5).First,(l5).Last]:List Int))).bind fun u9=>
     bif (!u9) then
      some (true)
     else
      bif ((l5).Way != (1 : Int)) then
       bif ((l5).Way != (2 : Int)) then
        some (true)
       else
        (f42 ((1:Int)) ((8:Int)) (([(l5).Times]:List Int))).bind fun mC=>
        some ((!mC))
      else
       (f42 ((1:Int)) ((8:Int)) (([(l5).Times]:List Int))).bind fun qC=>
       some ((!qC))
     ) fun r8=>
    bif r8 then
     some (m7,u3,(2:Int))
    else
     uF (m7)
   else
    rF (m7,g8)
   ) big (yD,[],(0:Int))
  ) fun qI=>
 (f42 ((1:Int)) ((24:Int)) (([x0]:List Int))).bind fun zD=>
 bif (!zD) then
  some ((⟨0,[]⟩:TieHarness),(0:Int),(2:Int))
 else
  bif (decide (((x1).length : Int) > (8 : Int))) then
   some ((⟨0,[]⟩:TieHarness),(0:Int),(5:Int))
  else
   bif (((x1).length : Int) == (0 : Int)) then
    some ((⟨0,[]⟩:TieHarness),(0:Int),(7:Int))
   else
    qI ((⟨0,[]⟩:TieHarness))
theorem en22:Enters Tryz.prog 22:=enters_of Tryz.func22 (by kernel_rfl) rfl
theorem wk22 {gI:Gh} {wI:World} {x0:Int} {x1:List TieGroup} {up1:Value} (rp1:RV gI.m wI x1 up1) {r:TieHarness × Int × Int} (h:f22 x0 x1=some r):Fn Tryz.prog 22 #[.int .i64 (x0),up1] gI wI (fun m w v=>∃ y0 y1 y2,v=.tuple #[y0,y1,y2]∧RV m w (r.1) y0∧y1=.int .i64 (r.2.1)∧y2=.int .i64 (r.2.2)):=by
 unfold f22 at h
 refine fn_of_E Tryz.func22 rfl (Nat.le_of_ble_eq_true rfl) fun g0 hm hfr=>?_
 have rp1:RV g0.m wI x1 up1:=hm ▸ rp1
 show E _ 78 none _ _ _ _ _
 refine Zf (Za (Ze .plain rfl (D_allocOc (g:=g0) 2004 (⟨0,[]⟩:TieHarness) Tryz.zeroValue28 (fun m w=>⟨_,(rep_two Zw rep_nil),rfl⟩) fun g1 w1 p1 hs b1 cb=>?_)))
 have hfr:=hfr.stp hs
 have rp1:=rp1.stp hs
 have lB:OSF 2004 60401 1 g1 w1 3 28 ([]:List Int) p1:=cb.osf (by rfl)
 clear cb
 refine Zg (.int .i64 (0)) rfl rfl ?_
 refine Zg (.int .i64 (0)) rfl rfl ?_
 refine Zb (Zd (Zq h (fun (s:TieHarness) e w=>∃ (g:Gh) ,Fr gI wI g w∧e 0=.int .i64 (x0)∧e 1=up1∧RV g.m w (x1:List TieGroup) up1∧e 4=p1∧OB 2004 g w 28 (s:TieHarness) p1∧OSF 2004 60401 1 g w 3 28 ((s).Warps) p1) (fun X17 qI sI h=>?_) ?_))
 ·refine Zr ?_
  refine Zf (Za (Zn (.int .i64 (x0)) rfl rfl ?_))
  refine Ze .plain rfl (D_buildSlice (g:=g1) 3012 (xs:=([x0]:List Int)) (vs:=[.int .i64 (x0)]) Tryz.underlying26 Tryz.sizeOf3 Tryz.zeroValue3 rfl rfl (.cons rfl .nil) (RVs.cons (Zj.2 rfl) RVs.nil) rfl rfl fun xK jN yK hs o18 zK hxt hfl=>?_)
  have hfr:=hfr.stp hs
  have rp1:=rp1.stp hs
  have lB:=lB.stp hs rfl
  have b1:=b1.stp hs rfl
  obtain ⟨zD,hy20,h⟩:=Gb h
  refine Ze .plain rfl (Zp (g:=xK) (vs:=[.int .i64 (1),.int .i64 (24),yK]) en42 (.cons rfl (.cons rfl (.cons rfl .nil))) (wk42 zK hy20) fun mB vL kN hs hr=>?_)
  have hfr:=hfr.ext hs
  have rp1:=rp1.ext hs
  have lB:=lB.ext hs
  have b1:=b1.ext hs
  subst hr
  refine Zx (.bool (!zD)) (P_not rfl) rfl ?_
  refine Zg (.bool (!zD)) rfl rfl ?_
  refine Zb (Zd ?_)
  rcases Zt h with ⟨gD,h⟩ | ⟨gD,h⟩
  ·refine E_ct gD rfl ?_
   refine Zf (Za (Ze .plain rfl (D_loadO (g:=mB) Tryz.isAgg28 Tryz.sizeOf28 rfl b1 fun aL bL=>?_)))
   refine Ze .plain rfl (D_storeOc (g:=mB) (v:=aL) Tryz.sizeOf28 rfl b1 rfl bL fun lN mN hs b23 cb=>?_)
   clear cb
   have hfr:=hfr.stp hs
   refine Zg (.int .i64 (0)) rfl rfl ?_
   refine Zg (.int .i64 (2)) rfl rfl ?_
   refine Zb (Zd (E_ret (blk_r ?_)))
   refine thn_r ?_
   obtain rfl:=sinj h
   obtain ⟨ad24,cv24,hp24,tI,cr24⟩:=ob_read Tryz.isAgg28 Tryz.sizeOf28 b23
   exact endm_ctt rfl rfl ((show _=p1 from rfl).trans hp24) tI (show _=.int .i64 (0) from rfl) (show _=.int .i64 (2) from rfl) ⟨_,hfr,_,_,_,rfl,cr24,rfl,rfl⟩
  ·refine E_cf gD rfl ?_
   refine Zf (Za (Zn up1 rfl rfl ?_))
   refine Zx (.int .i64 ((x1).length:Int)) (P_len Tryz.underlying70 rfl rp1) rfl ?_
   refine EL_in (.bool ((decide (((x1).length:Int) > (8:Int))))) rfl rfl rfl rfl ?_
   refine Zg (.bool ((decide (((x1).length:Int) > (8:Int))))) rfl rfl ?_
   refine Zb (Zd ?_)
   rcases Zt h with ⟨iD,h⟩ | ⟨iD,h⟩
   ·refine E_ct iD rfl ?_
    refine Zf (Za (Ze .plain rfl (D_loadO (g:=mB) Tryz.isAgg28 Tryz.sizeOf28 rfl b1 fun dL eL=>?_)))
    refine Ze .plain rfl (D_storeOc (g:=mB) (v:=dL) Tryz.sizeOf28 rfl b1 rfl eL fun nN oN hs b27 cb=>?_)
    clear cb
    have hfr:=hfr.stp hs
    refine Zg (.int .i64 (0)) rfl rfl ?_
    refine Zg (.int .i64 (5)) rfl rfl ?_
    refine Zb (Zd (E_ret (blk_r ?_)))
    refine thn_r ?_
    obtain rfl:=sinj h
    obtain ⟨ad28,cv28,hp28,uI,cr28⟩:=ob_read Tryz.isAgg28 Tryz.sizeOf28 b27
    exact endm_ctt rfl rfl ((show _=p1 from rfl).trans hp28) uI (show _=.int .i64 (0) from rfl) (show _=.int .i64 (5) from rfl) ⟨_,hfr,_,_,_,rfl,cr28,rfl,rfl⟩
   ·refine E_cf iD rfl ?_
    refine Zf (Za (Zn up1 rfl rfl ?_))
    refine Zx (.int .i64 ((x1).length:Int)) (P_len Tryz.underlying70 rfl rp1) rfl ?_
    refine EL_in (.bool ((((x1).length:Int) == (0:Int)))) rfl rfl rfl rfl ?_
    refine Zg (.bool ((((x1).length:Int) == (0:Int)))) rfl rfl ?_
    refine Zb (Zd ?_)
    rcases Zt h with ⟨jD,h⟩ | ⟨jD,h⟩
    ·refine E_ct jD rfl ?_
     refine Zf (Za (Ze .plain rfl (D_loadO (g:=mB) Tryz.isAgg28 Tryz.sizeOf28 rfl b1 fun gL iL=>?_)))
     refine Ze .plain rfl (D_storeOc (g:=mB) (v:=gL) Tryz.sizeOf28 rfl b1 rfl iL fun pN qN hs b31 cb=>?_)
     clear cb
     have hfr:=hfr.stp hs
     refine Zg (.int .i64 (0)) rfl rfl ?_
     refine Zg (.int .i64 (7)) rfl rfl ?_
     refine Zb (Zd (E_ret (blk_r ?_)))
     refine thn_r ?_
     obtain rfl:=sinj h
     obtain ⟨ad32,cv32,hp32,vI,cr32⟩:=ob_read Tryz.isAgg28 Tryz.sizeOf28 b31
     exact endm_ctt rfl rfl ((show _=p1 from rfl).trans hp32) vI (show _=.int .i64 (0) from rfl) (show _=.int .i64 (7) from rfl) ⟨_,hfr,_,_,_,rfl,cr32,rfl,rfl⟩
    ·refine E_cf jD rfl ?_
     exact Zu (blk_n (Zd (sI ((⟨0,[]⟩:TieHarness)) _ _ ⟨mB,hfr,rfl,rfl,rp1,rfl,b1,lB⟩ h)))
 ·rintro yD xL rN ⟨jL, hfr, nH, oH, aE, pH, qH, u4_1_33⟩ h
  refine Zf (Za (Zg (.slice none 0 0) rfl rfl ?_))
  refine Zb (Zd (Zq h (fun (s:TieHarness × (List Int)) e w=>∃ (g:Gh) (v7:Value),Fr gI wI g w∧e 0=.int .i64 (x0)∧e 4=p1∧OB 2004 g w 28 (s.1:TieHarness) p1∧OSF 2004 60401 1 g w 3 28 ((s.1).Warps) p1∧e 7=v7∧RV g.m w (s.2:List Int) v7∧OS 1007 g w 3 (s.2:List Int) v7) (fun X326 rF sH h=>?_) ?_))
  ·refine Zf (Za (Zo oH rfl ?_))
   refine Zx (.int .i64 ((x1).length:Int)) (P_len Tryz.underlying70 rfl aE) rfl ?_
   refine Zn (.int .i64 (0)) rfl rfl ?_
   refine Zb (Zd (Zr ?_))
   refine E_lp h (fun (s:TieHarness × (List Int) × Int) e w=>∃ (g:Gh) (v7:Value),Fr gI wI g w∧e 0=.int .i64 (x0)∧e 4=p1∧OB 2004 g w 28 (s.1:TieHarness) p1∧OSF 2004 60401 1 g w 3 28 ((s.1).Warps) p1∧e 7=v7∧RV g.m w (s.2.1:List Int) v7∧OS 1007 g w 3 (s.2.1:List Int) v7∧e 26=up1∧RV g.m w (x1:List TieGroup) up1∧e 27=.int .i64 (((x1).length:Int))∧e 28=.int .i64 (s.2.2)) ⟨jL,(.slice none 0 0),hfr,nH,pH,qH,u4_1_33,rfl,RV_nil,OS.nil,rfl,aE,rfl,rfl⟩ (fun X327 sF tH=>?_)
   rintro ⟨m7,g8,u3⟩ mL yL ⟨lD,k8,hfr,v8,k9,t5,u4_1_328,l9,x5,i6,x8,o0,a9,y6⟩ h
   refine Zf (Za (EL_in (.bool ((decide (u3 < ((x1).length:Int))))) y6 a9 rfl rfl ?_))
   refine Zb (Zd (Zf ?_))
   rcases Zt h with ⟨rC,h⟩ | ⟨rC,h⟩
   ·refine E_ct rC rfl ?_
    refine Zu (Zd (Zq h (fun (s:TieHarness × (List Int)) e w=>∃ (g:Gh) (v7:Value),Fr gI wI g w∧e 0=.int .i64 (x0)∧e 4=p1∧OB 2004 g w 28 (s.1:TieHarness) p1∧OSF 2004 60401 1 g w 3 28 ((s.1).Warps) p1∧e 7=v7∧RV g.m w (s.2:List Int) v7∧OS 1007 g w 3 (s.2:List Int) v7∧e 26=up1∧RV g.m w (x1:List TieGroup) up1∧e 27=.int .i64 (((x1).length:Int))∧e 28=.int .i64 (u3)) (fun X473 tF uH h=>?_) ?_))
    ·refine Zr ?_
     refine Zf (Za (Zo y6 rfl ?_))
     obtain ⟨l5,bE,h⟩:=Gb h
     refine Zx (ePtr up1 u3 4) (Zh (α:=TieGroup) Tryz.underlying70 Tryz.sizeOf69 x8 o0 y6 bE) rfl ?_
     have yI:=PT_idx o0 bE
     refine Ze .plain rfl (D_load (g:=lD) Tryz.isAgg69 Tryz.sizeOf69 rfl yI fun zI nD=>?_)
     refine Ze .plain rfl (D_allocOc (g:=lD) 2009 (⟨0,0,0,0⟩:TieGroup) Tryz.zeroValue69 (fun m w=>⟨_,(rep_two Zw (rep_two Zw (rep_two Zw Zw))),rfl⟩) fun eJ zL m8 hs b477 cb=>?_)
     have hfr:=hfr.stp hs
     have u4_1_328:=u4_1_328.stp hs rfl
     have t5:=t5.stp hs rfl
     have x5:=x5.stp hs
     have i6:=i6.stp hs rfl
     have o0:=o0.stp hs
     have nD:=nD.stp hs
     clear cb
     refine Zg (.int .i64 (u3)) rfl rfl ?_
     refine Ze .plain rfl (D_storeOc (g:=eJ) (v:=zI) Tryz.sizeOf69 rfl b477 rfl nD fun oD aM hs b478 cb=>?_)
     clear cb
     have hfr:=hfr.stp hs
     have u4_1_328:=u4_1_328.stp hs rfl
     have t5:=t5.stp hs rfl
     have x5:=x5.stp hs
     have i6:=i6.stp hs rfl
     have o0:=o0.stp hs
     refine Zb (Zd (Zq h (fun (s:TieHarness) e w=>∃ (g:Gh) ,Fr gI wI g w∧e 0=.int .i64 (x0)∧e 4=p1∧OB 2004 g w 28 (s:TieHarness) p1∧OSF 2004 60401 1 g w 3 28 ((s).Warps) p1∧e 7=k8∧RV g.m w (g8:List Int) k8∧OS 1007 g w 3 (g8:List Int) k8∧e 8=.int .i64 (u3)∧e 9=m8∧OB 2009 g w 69 (l5:TieGroup) m8∧e 26=up1∧RV g.m w (x1:List TieGroup) up1∧e 27=.int .i64 (((x1).length:Int))∧e 28=.int .i64 (u3)) (fun X532 uF xH h=>?_) ?_))
     ·obtain ⟨r8, hx, h⟩ := Gb h
      refine E_join (fun e w=>∃ (g:Gh) ,Fr gI wI g w∧e 0=.int .i64 (x0)∧e 4=p1∧OB 2004 g w 28 (m7:TieHarness) p1∧OSF 2004 60401 1 g w 3 28 ((m7).Warps) p1∧e 7=k8∧RV g.m w (g8:List Int) k8∧OS 1007 g w 3 (g8:List Int) k8∧e 8=.int .i64 (u3)∧e 9=m8∧OB 2009 g w 69 (l5:TieGroup) m8∧e 26=up1∧RV g.m w (x1:List TieGroup) up1∧e 27=.int .i64 (((x1).length:Int))∧e 28=.int .i64 (u3)∧e 58=.bool (r8)) (fun Q' hQ=>?_) (fun nL bM hR=>?_)
      ·replace h := hx
       clear hx
       refine Za (Zo v8 rfl ?_)
       refine EL_in (.int .i64 ((w64 (x0 - (1:Int))))) rfl rfl rfl rfl ?_
       refine Zx (fPtr m8 0) (Zc at_69_0 rfl (OB.ptr b478)) rfl ?_
       refine Ze .plain rfl (D_loadF (g:=oD) part_TieGroup_0.1 Tryz.isAgg3 Tryz.sizeOf3 rfl b478 fun cM gJ=>?_)
       obtain rfl:=Zj.1 gJ
       refine Zx (fPtr m8 1) (Zc at_69_1 rfl (OB.ptr b478)) rfl ?_
       refine Ze .plain rfl (D_loadF (g:=oD) part_TieGroup_1.1 Tryz.isAgg3 Tryz.sizeOf3 rfl b478 fun dM iJ=>?_)
       obtain rfl:=Zj.1 iJ
       refine Ze .plain rfl (D_buildSlice (g:=oD) 3039 (xs:=([(l5).First,(l5).Last]:List Int)) (vs:=[.int .i64 ((l5).First),.int .i64 ((l5).Last)]) Tryz.underlying26 Tryz.sizeOf3 Tryz.zeroValue3 rfl rfl (.cons rfl (.cons rfl .nil)) (RVs.cons (Zj.2 rfl) (RVs.cons (Zj.2 rfl) RVs.nil)) rfl rfl fun jJ eM kJ hs o561 lJ hxt hfl=>?_)
       have hfr:=hfr.stp hs
       have u4_1_328:=u4_1_328.stp hs rfl
       have t5:=t5.stp hs rfl
       have x5:=x5.stp hs
       have i6:=i6.stp hs rfl
       have o0:=o0.stp hs
       have b478:=b478.stp hs rfl
       obtain ⟨u9,yH,h⟩:=Gb h
       refine Ze .plain rfl (Zp (g:=jJ) (vs:=[.int .i64 (0),.int .i64 ((w64 (x0 - (1:Int)))),kJ]) en42 (.cons rfl (.cons rfl (.cons rfl .nil))) (wk42 lJ yH) fun n9 oL iM hs hr=>?_)
       have hfr:=hfr.ext hs
       have u4_1_328:=u4_1_328.ext hs
       have t5:=t5.ext hs
       have x5:=x5.ext hs
       have i6:=i6.ext hs
       have o0:=o0.ext hs
       have b478:=b478.ext hs
       subst hr
       refine Zx (.bool (!u9)) (P_not rfl) rfl ?_
       refine Zn (.bool (!u9)) rfl rfl ?_
       rcases Zt h with ⟨x6,h⟩ | ⟨x6,h⟩
       ·refine Zz rfl rfl x6 rfl rfl ?_
        iterate 3 refine Zz rfl rfl x6 rfl rfl ?_
        refine EL_dead 3 rfl ?_
        refine Zz rfl rfl x6 rfl rfl ?_
        refine Zx (.bool true) (Zl (b:=(!u9)) rfl (pick_t x6 rfl)) rfl ?_
        refine EL_dead 7 rfl ?_
        refine Zb ?_
        obtain rfl:=sinj h
        exact hQ _ _ ⟨n9,hfr,v8,k9,t5,u4_1_328,l9,x5,i6,rfl,rfl,b478,x8,o0,a9,y6,rfl⟩
       ·refine Zy (fPtr m8 2) (Zc at_69_2 rfl (OB.ptr b478)) rfl rfl x6 rfl ?_
        refine Ze (.yes2 rfl rfl x6) rfl (D_loadF (g:=n9) part_TieGroup_2.1 Tryz.isAgg67 Tryz.sizeOf67 rfl b478 fun jM mJ=>?_)
        obtain rfl:=Zj.1 mJ
        refine Zy (.bool (((l5).Way != (1:Int)))) (P_int rfl rfl rfl) rfl rfl x6 rfl ?_
        refine Zy (.bool (((l5).Way != (1:Int)))) (Zk rfl) rfl rfl x6 rfl ?_
        rcases Zt h with ⟨l8,h⟩ | ⟨l8,h⟩
        ·refine Zy (fPtr m8 2) (Zc at_69_2 rfl (OB.ptr b478)) rfl rfl l8 rfl ?_
         refine Ze (.yes2 rfl rfl l8) rfl (D_loadF (g:=n9) part_TieGroup_2.1 Tryz.isAgg67 Tryz.sizeOf67 rfl b478 fun kM nJ=>?_)
         obtain rfl:=Zj.1 nJ
         refine Zy (.bool (((l5).Way != (2:Int)))) (P_int rfl rfl rfl) rfl rfl l8 rfl ?_
         refine Zy (.bool (((l5).Way != (2:Int)))) (Zl (b:=((l5).Way != (1:Int))) rfl (pick_t l8 rfl)) rfl rfl x6 rfl ?_
         refine Zx (.bool (((l5).Way != (2:Int)))) (Zl (b:=(!u9)) rfl (pick_f x6 rfl)) rfl ?_
         refine Zn (.bool (((l5).Way != (2:Int)))) rfl rfl ?_
         rcases Zt h with ⟨i7,h⟩ | ⟨i7,h⟩
         ·refine Zz rfl rfl i7 rfl rfl ?_
          iterate 4 refine Zz rfl rfl i7 rfl rfl ?_
          refine Zx (.bool true) (Zl (b:=((l5).Way != (2:Int))) rfl (pick_t i7 rfl)) rfl ?_
          refine Zb ?_
          obtain rfl:=sinj h
          exact hQ _ _ ⟨n9,hfr,v8,k9,t5,u4_1_328,l9,x5,i6,rfl,rfl,b478,x8,o0,a9,y6,rfl⟩
         ·refine Zy (fPtr m8 3) (Zc at_69_3 rfl (OB.ptr b478)) rfl rfl i7 rfl ?_
          refine Ze (.yes2 rfl rfl i7) rfl (D_loadF (g:=n9) part_TieGroup_3.1 Tryz.isAgg3 Tryz.sizeOf3 rfl b478 fun mM oJ=>?_)
          obtain rfl:=Zj.1 oJ
          refine Ze (.yes2 rfl rfl i7) rfl (D_buildSlice (g:=n9) 3055 (xs:=([(l5).Times]:List Int)) (vs:=[.int .i64 ((l5).Times)]) Tryz.underlying26 Tryz.sizeOf3 Tryz.zeroValue3 rfl rfl (.cons rfl .nil) (RVs.cons (Zj.2 rfl) RVs.nil) rfl rfl fun pJ nM qJ hs o573 rJ hxt hfl=>?_)
          have hfr:=hfr.stp hs
          have u4_1_328:=u4_1_328.stp hs rfl
          have t5:=t5.stp hs rfl
          have x5:=x5.stp hs
          have i6:=i6.stp hs rfl
          have o0:=o0.stp hs
          have b478:=b478.stp hs rfl
          obtain ⟨mC,zH,h⟩:=Gb h
          refine Ze (.yes2 rfl rfl i7) rfl (Zp (g:=pJ) (vs:=[.int .i64 (1),.int .i64 (8),qJ]) en42 (.cons rfl (.cons rfl (.cons rfl .nil))) (wk42 rJ zH) fun sJ pL oM hs hr=>?_)
          have hfr:=hfr.ext hs
          have u4_1_328:=u4_1_328.ext hs
          have t5:=t5.ext hs
          have x5:=x5.ext hs
          have i6:=i6.ext hs
          have o0:=o0.ext hs
          have b478:=b478.ext hs
          subst hr
          refine Zy (.bool (!mC)) (P_not rfl) rfl rfl i7 rfl ?_
          refine Zx (.bool (!mC)) (Zl (b:=((l5).Way != (2:Int))) rfl (pick_f i7 rfl)) rfl ?_
          refine Zb ?_
          obtain rfl:=sinj h
          exact hQ _ _ ⟨sJ,hfr,v8,k9,t5,u4_1_328,l9,x5,i6,rfl,rfl,b478,x8,o0,a9,y6,rfl⟩
        ·refine Zz rfl rfl l8 rfl rfl ?_
         refine Zz rfl rfl l8 rfl rfl ?_
         refine Zz rfl rfl l8 rfl rfl ?_
         refine Zy (.bool false) (Zl (b:=((l5).Way != (1:Int))) rfl (pick_f l8 rfl)) rfl rfl x6 rfl ?_
         refine Zx (.bool false) (Zl (b:=(!u9)) rfl (pick_f x6 rfl)) rfl ?_
         refine Zn (.bool false) rfl rfl ?_
         refine Zy (fPtr m8 3) (Zc at_69_3 rfl (OB.ptr b478)) rfl rfl rfl rfl ?_
         refine Ze (.yes2 rfl rfl rfl) rfl (D_loadF (g:=n9) part_TieGroup_3.1 Tryz.isAgg3 Tryz.sizeOf3 rfl b478 fun pM vJ=>?_)
         obtain rfl:=Zj.1 vJ
         refine Ze (.yes2 rfl rfl rfl) rfl (D_buildSlice (g:=n9) 3055 (xs:=([(l5).Times]:List Int)) (vs:=[.int .i64 ((l5).Times)]) Tryz.underlying26 Tryz.sizeOf3 Tryz.zeroValue3 rfl rfl (.cons rfl .nil) (RVs.cons (Zj.2 rfl) RVs.nil) rfl rfl fun xJ qM yJ hs o578 zJ hxt hfl=>?_)
         have hfr:=hfr.stp hs
         have u4_1_328:=u4_1_328.stp hs rfl
         have t5:=t5.stp hs rfl
         have x5:=x5.stp hs
         have i6:=i6.stp hs rfl
         have o0:=o0.stp hs
         have b478:=b478.stp hs rfl
         obtain ⟨qC,aI,h⟩:=Gb h
         refine Ze (.yes2 rfl rfl rfl) rfl (Zp (g:=xJ) (vs:=[.int .i64 (1),.int .i64 (8),yJ]) en42 (.cons rfl (.cons rfl (.cons rfl .nil))) (wk42 zJ aI) fun aK qL rM hs hr=>?_)
         have hfr:=hfr.ext hs
         have u4_1_328:=u4_1_328.ext hs
         have t5:=t5.ext hs
         have x5:=x5.ext hs
         have i6:=i6.ext hs
         have o0:=o0.ext hs
         have b478:=b478.ext hs
         subst hr
         refine Zy (.bool (!qC)) (P_not rfl) rfl rfl rfl rfl ?_
         refine Zx (.bool (!qC)) (Zl (b:=false) rfl (pick_f rfl rfl)) rfl ?_
         refine Zb ?_
         obtain rfl:=sinj h
         exact hQ _ _ ⟨aK,hfr,v8,k9,t5,u4_1_328,l9,x5,i6,rfl,rfl,b478,x8,o0,a9,y6,rfl⟩
      ·clear hx
       obtain ⟨sD,hfr,vF,bA,nB,u4_1_581,xF,yF,zF,bD,aG,bG,lE,mE,oE,rE,cC⟩:=hR
       rcases Zt h with ⟨uC,h⟩ | ⟨uC,h⟩
       ·refine E_cond_true (Eq.trans (show ev _ _ = .bool (r8) from cC) (congrArg Value.bool uC)) ?_
        refine Zf (Za (Ze .plain rfl (D_loadO (g:=sD) Tryz.isAgg28 Tryz.sizeOf28 bA nB fun bK cK=>?_)))
        refine Zo bD rfl ?_
        refine Ze .plain rfl (D_storeOc (g:=sD) (v:=bK) Tryz.sizeOf28 bA nB rfl cK fun sM tM hs b584 cb=>?_)
        clear cb
        have hfr:=hfr.stp hs
        refine Zg (.int .i64 (u3)) rfl rfl ?_
        refine Zg (.int .i64 (2)) rfl rfl ?_
        refine Zb (Zd (E_ret (thn_r ?_)))
        refine blk_r ?_
        refine thn_r ?_
        refine thn_r ?_
        refine blk_r ?_
        refine thn_r ?_
        obtain rfl:=sinj h
        obtain ⟨ad585,cv585,hp585,bI,cr585⟩:=ob_read Tryz.isAgg28 Tryz.sizeOf28 b584
        exact endm_ctt rfl rfl ((show _=p1 from bA).trans hp585) bI (show _=.int .i64 (u3) from rfl) (show _=.int .i64 (2) from rfl) ⟨_,hfr,_,_,_,rfl,cr585,rfl,rfl⟩
       ·refine E_cond_false (Eq.trans (show ev _ _ = .bool (r8) from cC) (congrArg Value.bool uC)) ?_
        exact Zu (Zd (xH (m7) _ _ ⟨sD,hfr,vF,bA,nB,u4_1_581,xF,yF,zF,bD,aG,bG,lE,mE,oE,rE⟩ h))
     ·rintro z9 rL uM ⟨cG, hfr, eG, iA, n8, u4_1_586, gG, oB, tB, hG, cD, vB, uE, d9, vE, xE⟩ h
      refine Zf (L_loadO0 (x:=.tmp 9) Tryz.isAgg69 Tryz.sizeOf69 vB fun vC iG dI=>?_)
      have jG:RV cG.m _ (⟨l5⟩:TieTieGroup) (.agg (setCh [[.int .i64 0,.int .i64 0,.int .i64 0,.int .i64 0]] [(0,vC)]).flatten.toArray):=RV_build rfl (rep_last (RV.cells iG))
      generalize iI:(Value.agg (setCh [[.int .i64 0,.int .i64 0,.int .i64 0,.int .i64 0]] [(0,vC)]).flatten.toArray)=kG at jG
      obtain ⟨rA,jI,h⟩:=Gb h
      refine L_loadO (x:=.tmp 65) part_TieGroup_3.1 Tryz.isAgg3 Tryz.sizeOf3 vB fun vM dK kI=>?_
      obtain rfl:=Zj.1 dK
      obtain ⟨iB,lI,h⟩:=Gb h
      refine E_drawL (g:=cG) (n:=7) [(3,(fun v g w=>RV g.m w rA v)),(6,(fun v g w=>RV g.m w iB v))] [0,1,2,3,4,5,6] rfl mixed (by kernel_rfl) (⟨fun _=>up_rv,fun _=>up_rv,trivial⟩) ?_
      refine Ga k8 rfl rfl (Zk gG) ?_
      refine L_ld (c:=vC) rfl rfl .plain (fun _ _ h=>⟨h.ch,fun b hb _=>h.below.block b hb⟩) dI cD ?_
      refine Ga kG rfl rfl (iI ▸ P_build (vs:=[(0,vC)]) [[.int .i64 0,.int .i64 0,.int .i64 0,.int .i64 0]] lay_101 rfl rfl (.cons rfl .nil) ⟨⟨_,rfl,cells_size iG⟩,trivial⟩) ?_
      refine L_do (φ:=fun v g w=>RV g.m w rA v) rfl rfl .plain (fun g w hd=>Zp (g:=g) (vs:=[kG]) en44 (.cons rfl .nil) (wk44 (jG.ext hd.1) jI) fun g' w' v hs hr=>⟨g',hs,hr⟩) (fun tD hv=>?_)
      obtain ⟨_,_,_,rq589⟩:=hv
      refine Ga (fPtr m8 3) rfl rfl (Zc at_69_3 cD (OB.ptr vB)) ?_
      refine L_ld (c:=.int .i64 ((l5).Times)) rfl rfl .plain (fun _ _ h=>⟨h.ch,fun b hb _=>h.below.block b hb⟩) kI rfl ?_
      refine L_do (φ:=fun v g w=>RV g.m w iB v) rfl rfl .plain (fun g w hd=>Zp (g:=g) (vs:=[tD,.int .i64 ((l5).Times)]) en43 (.cons rfl (.cons rfl .nil)) (wk43 (word (A:=fun g w=>RV g.m w rA tD) 3 rfl rfl (deps_of hd)) lI) fun g' w' v hs hr=>⟨g',hs,hr⟩) (fun lK hv=>?_)
      obtain ⟨_,_,_,rq593⟩:=hv
      refine L_nil fun mK xM hall=>?_
      have hs:=hall.1
      have hfr:=hfr.ext hs
      have u4_1_586:=u4_1_586.ext hs
      have n8:=n8.ext hs
      have oB:=oB.ext hs
      have tB:=tB.ext hs
      have d9:=d9.ext hs
      have bN:=(word_all (A:=fun g w=>RV g.m w rA tD) 3 rfl hall)
      have nK:=(word_all (A:=fun g w=>RV g.m w iB lK) 6 rfl hall)
      clear hs hall
      obtain ⟨yA,mI,h⟩:=Gb h
      refine Ze .plain rfl (D_append (g:=mK) (i:=1007) Tryz.underlying26 info_3 rfl rfl tB oB rfl nK mI fun uD cN vD hs o611 lG _=>?_)
      have hfr:=hfr.stp hs
      have u4_1_586:=u4_1_586.stp hs rfl
      have n8:=n8.stp hs rfl
      have d9:=d9.stp hs
      refine Zg vD rfl rfl ?_
      refine Zb (Zd (Zf (Za (Zn vD rfl rfl ?_))))
      refine Zx (.int .i64 ((yA).length:Int)) (P_len Tryz.underlying26 rfl lG) rfl ?_
      refine EL_in (.bool ((decide (((yA).length:Int) > (96:Int))))) rfl rfl rfl rfl ?_
      refine Zb (Zd ?_)
      rcases Zt h with ⟨aD,h⟩ | ⟨aD,h⟩
      ·refine E_ct aD rfl ?_
       refine Zf (Za (Ze .plain rfl (D_loadO (g:=uD) Tryz.isAgg28 Tryz.sizeOf28 iA n8 fun oK pK=>?_)))
       refine Zo hG rfl ?_
       refine Ze .plain rfl (D_storeOc (g:=uD) (v:=oK) Tryz.sizeOf28 iA n8 rfl pK fun dN eN hs b615 cb=>?_)
       clear cb
       have hfr:=hfr.stp hs
       refine Zg (.int .i64 (u3)) rfl rfl ?_
       refine Zg (.int .i64 (8)) rfl rfl ?_
       refine Zb (Zd (E_ret (blk_r ?_)))
       refine thn_r ?_
       refine thn_r ?_
       refine blk_r ?_
       refine thn_r ?_
       obtain rfl:=sinj h
       obtain ⟨ad616,cv616,hp616,nI,cr616⟩:=ob_read Tryz.isAgg28 Tryz.sizeOf28 b615
       exact endm_ctt rfl rfl ((show _=p1 from iA).trans hp616) nI (show _=.int .i64 (u3) from rfl) (show _=.int .i64 (8) from rfl) ⟨_,hfr,_,_,_,rfl,cr616,rfl,rfl⟩
      ·refine E_cf aD rfl ?_
       exact Zu (blk_n (Zd (uH (z9,yA) _ _ ⟨uD,(vD),hfr,eG,iA,n8,u4_1_586,rfl,lG,o611,uE,d9,vE,xE⟩ h)))
    ·rintro ⟨aB, dB⟩ tL gN ⟨qK, mG, hfr, sG, xG, yG, u4_1_617, zG, aH, cH, yE, zE, cF, dF⟩ h
     refine Za (EL_in (.int .i64 ((w64 (u3 + (1:Int))))) dF rfl rfl rfl ?_)
     refine Zn (.int .i64 ((w64 (u3 + (1:Int))))) rfl rfl ?_
     exact Zb (Zd (tH (aB,dB,(w64 (u3 + (1:Int)))) _ _ ⟨qK,(mG),hfr,sG,xG,yG,u4_1_617,zG,aH,cH,yE,zE,cF,rfl⟩ h))
   ·refine E_cf rC rfl ?_
    refine E_exit ?_
    refine thn_e ?_
    refine thn_e ?_
    refine blk_hit ?_
    exact Zd (sH (m7,g8) _ _ ⟨lD,(k8),hfr,v8,k9,t5,u4_1_328,l9,x5,i6⟩ h)
  ·rintro ⟨eF, y9⟩ uL iN ⟨dH, yB, hfr, gH, eD, iH, u4_1_618, jH, zB, kH⟩ h
   refine Zf (Za (Zo gH rfl ?_))
   refine Zo jH rfl ?_
   have lH:RV dH.m _ (⟨x0,y9⟩:TieHarness) (.agg (setCh [[.int .i64 0],[.slice none 0 0]] [(0,.int .i64 (x0)),(1,yB)]).flatten.toArray):=RV_build rfl (rep_pair (rfl) (rep_last (RV.cells zB)))
   generalize iE:(Value.agg (setCh [[.int .i64 0],[.slice none 0 0]] [(0,.int .i64 (x0)),(1,yB)]).flatten.toArray)=mH at lH
   refine Zx mH (iE ▸ P_build (vs:=[(0,.int .i64 (x0)),(1,yB)]) [[.int .i64 0],[.slice none 0 0]] lay_28 rfl rfl (.cons rfl (.cons rfl .nil)) ⟨⟨_,rfl,rfl⟩,⟨⟨_,rfl,cells_size zB⟩,trivial⟩⟩) rfl ?_
   refine Ze .plain rfl (D_storeOc (g:=dH) (v:=mH) Tryz.sizeOf28 eD iH rfl lH fun sK tK hs b620 cb=>?_)
   obtain ⟨uK,vK,xD,_,_⟩:=RV_list zB
   have lL:OSF 2004 1007 1 sK tK 3 28 (y9:List Int) p1:=cb.osfv (by rw [← iE,xD]; rfl) (kH.stp hs rfl)
   clear cb
   have hfr:=hfr.stp hs
   refine Zg (.int .i64 (0)) rfl rfl ?_
   refine Zg (.int .i64 (0)) rfl rfl ?_
   refine Zb (Zd (E_ret ?_))
   obtain rfl:=sinj h
   obtain ⟨ad621,cv621,hp621,pI,cr621⟩:=ob_read Tryz.isAgg28 Tryz.sizeOf28 b620
   exact endm_ctt rfl rfl ((show _=p1 from eD).trans hp621) pI (show _=.int .i64 (0) from rfl) (show _=.int .i64 (0) from rfl) ⟨_,hfr,_,_,_,rfl,cr621,rfl,rfl⟩
def f36 (x0:ChainCylinder):Option ((List (List Int))):=
 (mks 8 (0:Int) ((((((x0).belt).ChainBelt).Cards).length:Int))).bind fun y6=>
 Option.bind (α:=(List (List Int))) (
  (f57 ((x0).cloth)).bind fun aB=>
  (aB ((List Int) × (List (List Int))) (fun (l9,n9) (n8,zD)=>
   (f43 (([(1048576:Int)]:List Int)) ((((((x0).belt).ChainBelt).Cards).length:Int))).bind fun iA=>
   Option.bind (α:=(List Int)) (
    lp (σ:=(List Int) × Int) (fun iG (lD,o0)=>
     bif (decide (o0 < ((iA).length : Int))) then
      Option.bind (α:=(List Int)) (
       lp (σ:=(List Int) × Int) (fun jG (rA,l5)=>
        bif (decide (l5 < (3 : Int))) then
         Option.bind (α:=(List Int)) (
          (f58 x0 n8 o0).bind fun kG=>
          bif kG then
           (idx rA o0).bind fun iD=>
           (f39 l5).bind fun vB=>
           (f28 ((x0).belt) o0 l5).bind fun jD=>
           (idx l9 jD).bind fun mC=>
           (idx rA o0).bind fun dK=>
           some ((List.set rA (Int.toNat o0) ((min64 iD (w64 (vB + mC))))))
          else
           some (rA)
          ) fun qC=>
         jG (qC,(w64 (l5 + (1:Int))))
        else
         some (rA)
        ) big (lD,(0:Int))
       ) fun rC=>
      iG (rC,(w64 (o0 + (1:Int))))
     else
      some (lD)
     ) big (iA,(0:Int))
    ) fun dB=>
   (apnd 24 n9 (([dB]:List (List Int)))).bind fun lG=>
   some (true,(dB,lG))
   ) (y6,([y6]:List (List Int)))).bind fun (sH,aE)=>
  some (aE)
  ) fun nD=>
 (f59 nD).bind fun mG=>
 some (mG)
theorem en36:Enters Tryz.prog 36:=enters_of Tryz.func36 (by kernel_rfl) rfl
theorem wk36 {gI:Gh} {wI:World} {x0:ChainCylinder} {up0:Value} (rp0:RV gI.m wI x0 up0) {r:(List (List Int))} (h:f36 x0=some r):Fn Tryz.prog 36 #[up0] gI wI (fun m w v=>RV m w (r) v):=by
 unfold f36 at h
 refine fnD_of_E Tryz.func36 rfl (Nat.le_of_ble_eq_true rfl) fun g0 hm hfr=>?_
 have hmk:MkF g0 wI []:=MkF.start
 have rp0:RV g0.m wI x0 up0:=hm ▸ rp0
 show E _ 70 none _ _ _ _ _
 refine Zf (Za (Ze .plain rfl (D_box (g:=g0) rfl rp0 fun g1 w1 p1 hs q1=>?_)))
 have hfr:=hfr.ext hs
 have hmk:=hmk.ext hs
 refine Zg (.slice none 0 0) rfl rfl ?_
 refine Zb (Zd (Zf (Za (Zx (fPtr p1 0) (Zc at_90_0 rfl (PT.ptr q1)) rfl ?_))))
 have q2:=Zm (part_ChainCylinder_0).1 q1
 refine Zx (fPtr (fPtr p1 0) 0) (Zc at_74_0 rfl (PT.ptr q2)) rfl ?_
 have q3:=Zm (part_ChainChainBelt_0).1 q2
 refine Zx (fPtr (fPtr (fPtr p1 0) 0) 1) (Zc at_36_1 rfl (PT.ptr q3)) rfl ?_
 have q4:=Zm (part_ChainBelt_1).1 q3
 refine Ze .plain rfl (D_load (g:=g1) Tryz.isAgg34 Tryz.sizeOf34 rfl q4 fun v5 r5=>?_)
 refine Zx (.int .i64 (((((x0).belt).ChainBelt).Cards).length:Int)) (P_len Tryz.underlying34 rfl r5) rfl ?_
 obtain ⟨y6,eM,h⟩:=Gb h
 refine Ze .plain rfl (D_makeSliceM (g:=g1) 9014 (0:Int) rfl Tryz.underlying26 info_3 rfl (fun _ _=>rfl) rfl rfl eM fun g7 w7 v7 hs b7=>?_)
 have hfr:=hfr.stp hs
 have hmk:=hmk.stp hs
 have q1:=q1.stp hs
 refine Ze .plain rfl (D_allocOc (g:=g7) 2003 ([]:List Int) Tryz.zeroValue26 (fun m w=>⟨_,rep_nil,rfl⟩) fun g8 w8 p8 hs b8 cb=>?_)
 have hfr:=hfr.stp hs
 have hmk:=hmk.stp hs
 have q1:=q1.stp hs
 have b7:=b7.stp hs rfl
 have eO:OSF 2003 60300 0 g8 w8 3 26 ([]:List Int) p8:=cb.osf (by rfl)
 clear cb
 obtain ⟨gp10,hs,rp10⟩:=OM.pub b7
 have hfr:=hfr.stp hs
 have hmk:=hmk.stp hs
 have q1:=q1.stp hs
 have b8:=b8.stp hs rfl
 refine Ze .plain rfl (D_storeOc (g:=gp10) (v:=v7) Tryz.sizeOf26 rfl b8 rfl rp10 fun g9 w9 hs b9 cb=>?_)
 clear cb
 have hfr:=hfr.stp hs
 have hmk:=hmk.stp hs
 have q1:=q1.stp hs
 refine Zb (Zd (Zf (Za (Ze .plain rfl (D_loadO (g:=g9) Tryz.isAgg26 Tryz.sizeOf26 rfl b9 fun iM jM=>?_)))))
 refine Ze .plain rfl (D_buildSliceA (g:=g9) 4016 (xs:=([y6]:List (List Int))) (vs:=[iM]) Tryz.underlying93 Tryz.sizeOf26 Tryz.zeroValue26 rfl rfl (.cons rfl .nil) (RVs.cons jM RVs.nil) rfl rfl fun kM gO rL hs b12 _=>?_)
 have hfr:=hfr.stp hs
 have hmk:=hmk.stp hs
 have q1:=q1.stp hs
 have b9:=b9.stp hs rfl
 refine Ze .plain rfl (D_allocOc (g:=kM) 2004 (⟨.slice none 0 0,rfl⟩:Fv) Tryz.zeroValue93 (fun _ _=>fv0_rep) fun tL mM iB hs b13 cb=>?_)
 clear cb
 have hfr:=hfr.stp hs
 have hmk:=hmk.stp hs
 have q1:=q1.stp hs
 have b9:=b9.stp hs rfl
 have b12:=b12.stp hs rfl
 have z13:OA 4004 tL mM 26 ([]:List (List Int)) (.slice none 0 0):=OA.nil
 have on14:=om_one (b12.toM)
 refine Ze .plain rfl (D_storeOc (g:=tL) (v:=rL) (a':=(⟨rL,on14⟩:Fv)) Tryz.sizeOf93 rfl b13 rfl (RV_fv.2 rfl) fun uL jO hs b14 cb=>?_)
 clear cb
 have hfr:=hfr.stp hs
 have hmk:=hmk.stp hs
 have q1:=q1.stp hs
 have b9:=b9.stp hs rfl
 have b12:=b12.stp hs rfl
 refine Zb (Zd ?_)
 obtain ⟨nD,hx,h⟩:=Gb h
 refine E_joinD (fun e ds w=>∃ (g:Gh) ,Fr gI wI g w∧MkF g w ds∧e 4=iB∧BXA 2004 4016 g w 26 93 (nD:List (List Int)) iB) (fun Q' hQ=>?_) (fun nM yL bN hR=>?_)
 ·replace h := hx
  clear hx
  refine Zf (Za (Zx (fPtr p1 3) (Zc at_90_1 rfl (PT.ptr q1)) rfl ?_))
  have lK:=Zm (part_ChainCylinder_1).1 q1
  refine Ze .plain rfl (D_load (g:=uL) Tryz.isAgg26 Tryz.sizeOf26 rfl lK fun mK nK=>?_)
  obtain ⟨aB,nJ,h⟩:=Gb h
  refine Ze .plain rfl (Zp (g:=uL) (vs:=[mK]) en57 (.cons rfl .nil) (wk57 nK nJ) fun cN oM k9 hs hr=>?_)
  have hfr:=hfr.ext hs
  have hmk:=hmk.ext hs
  have q1:=q1.ext hs
  have b9:=b9.ext hs
  have b14:=b14.ext hs
  have b12:=b12.ext hs
  have sG:=hr
  refine Zb (Zd (Zr ?_))
  have hB0:=hfr.size
  have hmk0:=hmk
  obtain ⟨⟨sH,aE⟩,hφ,h⟩:=Gb h
  refine E_rangeFunc (σ:=((List Int) × (List (List Int)))) (s0:=(y6,([y6]:List (List Int)))) 10 rfl (fun _=>0) [] (fun (s:(List Int) × (List (List Int))) (g:Gh) (w:World)=>Fr gI wI g w∧MkF g w []∧PT g.m w (x0:ChainCylinder) p1∧OB 2003 g w 26 (s.1:List Int) p8∧BXA 2004 4016 g w 26 93 (s.2:List (List Int)) iB∧ItV Tryz.prog (RA2 (α:=Int) (β:=Int)) aB k9 g.m w) rfl sG hφ (fun _ _ _ _=>rfl) rfl ra2_size rfl (fun _ _ _ _ _ hx hR=>by obtain ⟨hfr,hmk,z2,z3,z4,z5⟩:=hR; exact ⟨hfr.ist hx hB0,hmk.ist hx,z2.ist hx,z3.ist hx,z4.ist hx,z5.ist hx⟩) (fun _ _ _ _ _ hx hR=>by obtain ⟨hfr,hmk,z2,z3,z4,z5⟩:=hR; exact ⟨hfr.stp hx,hmk.stp hx,z2.stp hx,z3.stp hx rfl,z4.stp hx rfl,z5.stp hx⟩) ⟨hfr,hmk,q1,b9,⟨_,b14,b12⟩,sG⟩ (fun _ h=>by cases h) ?_ ?_
  ·intro cC lB s x b s2 yB uC vs hsz h hR hrec_0 tF hrd
   obtain ⟨l9,n9⟩:=s
   obtain ⟨hfr,hmk,r8,u9,⟨m7,y9,z9⟩,d9⟩:=hR
   obtain ⟨n8,zD⟩:=x
   obtain ⟨tH,uH,rfl,uF,vF⟩:=ra2_get hrd
   obtain rfl:tH=.int .i64 (n8):=Zj.1 uF
   obtain rfl:uH=.int .i64 (zD):=Zj.1 vF
   have u3:=RFr.refl yB uC
   refine Za (Zg (.int .i64 (n8)) rfl rfl ?_)
   refine Zb (Zd ?_)
   obtain ⟨oK,hbr,hs,hrN⟩:=begin_round hrec_0 tF
   refine ⟨oK,hbr,?_⟩
   have hfr:=hfr.stp hs
   have hmk:=hmk.stp hs
   have u3:=u3.stp hs
   have r8:=r8.stp hs
   have u9:=u9.stp hs rfl
   have y9:=y9.stp hs rfl
   have z9:=z9.stp hs rfl
   have d9:=d9.stp hs
   have hrec_0:=hrN
   clear hbr hs hrN
   refine Zr ?_
   refine Zf (Za (Ze .plain rfl (D_buildSlice (g:=yB) 3022 (xs:=([(1048576:Int)]:List Int)) (vs:=[.int .i64 (1048576)]) Tryz.underlying26 Tryz.sizeOf3 Tryz.zeroValue3 rfl rfl (.cons rfl .nil) (RVs.cons (Zj.2 rfl) RVs.nil) rfl rfl fun xG dN pK hs o1495 qK hxt hfl=>?_)))
   have hfr:=hfr.stp hs
   have hmk:=hmk.stp hs
   have u3:=u3.stp hs
   have hrec_0:=hrec_0.stp hs rfl
   have r8:=r8.stp hs
   have u9:=u9.stp hs rfl
   have y9:=y9.stp hs rfl
   have z9:=z9.stp hs rfl
   have d9:=d9.stp hs
   refine Zx (fPtr p1 0) (Zc at_90_0 rfl (PT.ptr r8)) rfl ?_
   have yG:=Zm (part_ChainCylinder_0).1 r8
   refine Zx (fPtr (fPtr p1 0) 0) (Zc at_74_0 rfl (PT.ptr yG)) rfl ?_
   have zG:=Zm (part_ChainChainBelt_0).1 yG
   refine Zx (fPtr (fPtr (fPtr p1 0) 0) 1) (Zc at_36_1 rfl (PT.ptr zG)) rfl ?_
   have sK:=Zm (part_ChainBelt_1).1 zG
   refine Ze .plain rfl (D_load (g:=xG) Tryz.isAgg34 Tryz.sizeOf34 rfl sK fun eN tK=>?_)
   refine Zx (.int .i64 (((((x0).belt).ChainBelt).Cards).length:Int)) (P_len Tryz.underlying34 rfl tK) rfl ?_
   obtain ⟨iA,oJ,h⟩:=Gb h
   refine Ze .plain rfl (D_callG (g:=xG) (vs:=[pK,.int .i64 (((((x0).belt).ChainBelt).Cards).length:Int)]) en43 (.cons rfl (.cons rfl .nil)) (v43_0 (iO:=9028) qK oJ) fun uK pM i6 hs hr=>?_)
   have hfr:=hfr.ext hs
   have hmk:=hmk.ext hs
   have u3:=u3.ext hs
   have hrec_0:=hrec_0.ext hs
   have r8:=r8.ext hs
   have u9:=u9.ext hs
   have y9:=y9.ext hs
   have z9:=z9.ext hs
   have d9:=d9.ext hs
   have hm1500:=hr
   refine Zg i6 rfl rfl ?_
   refine Zb (Zd ?_)
   obtain ⟨dB,hx,h⟩:=Gb h
   refine E_join (fun e w=>∃ (g:Gh) ,Fr gI wI g w∧MkF g w []∧RFr yB uC g w∧HB 10 g w cC (.loop { lB with state:=.busy })∧e 1=p1∧PT g.m w (x0:ChainCylinder) p1∧e 3=p8∧OB 2003 g w 26 (l9:List Int) p8∧e 4=iB∧BXAF 2004 4016 g w 26 93 m7 m7.v (n9:List (List Int)) iB∧e 6=i6∧OM 9028 g w 3 (dB:List Int) i6∧e 19=k9∧ItV Tryz.prog (RA2 (α:=Int) (β:=Int)) aB k9 g.m w) (fun Q' hQ=>?_) (fun qM gN hR=>?_)
   ·replace h := hx
    clear hx
    refine Zf (Za (Zn i6 rfl rfl ?_))
    refine Zx (.int .i64 ((iA).length:Int)) (P_lenM Tryz.underlying26 rfl hm1500) rfl ?_
    refine Zn (.int .i64 (0)) rfl rfl ?_
    refine Zb (Zd (Zr ?_))
    refine E_lp h (fun (s:(List Int) × Int) e w=>∃ (g:Gh) ,Fr gI wI g w∧MkF g w []∧RFr yB uC g w∧HB 10 g w cC (.loop { lB with state:=.busy })∧e 1=p1∧PT g.m w (x0:ChainCylinder) p1∧e 3=p8∧OB 2003 g w 26 (l9:List Int) p8∧e 4=iB∧BXAF 2004 4016 g w 26 93 m7 m7.v (n9:List (List Int)) iB∧e 5=.int .i64 (n8)∧e 6=i6∧OM 9028 g w 3 (s.1:List Int) i6∧e 19=k9∧ItV Tryz.prog (RA2 (α:=Int) (β:=Int)) aB k9 g.m w∧e 30=.int .i64 (((iA).length:Int))∧e 31=.int .i64 (s.2)) ⟨uK,hfr,hmk,u3,hrec_0,rfl,r8,rfl,u9,rfl,⟨y9,z9⟩,rfl,rfl,hm1500,rfl,d9,rfl,rfl⟩ (fun X1738 iG pJ=>?_)
    rintro ⟨lD,o0⟩ rM iN ⟨aH,hfr,hmk,u3,hrec_0,bE,iE,lE,mE,oE,⟨rE,uE⟩,xH,vE,xE,sD,tD,uD,bD⟩ h
    refine Zf (Za (EL_in (.bool ((decide (o0 < ((iA).length:Int))))) bD uD rfl rfl ?_))
    refine Zb (Zd (Zf ?_))
    rcases Zt h with ⟨vD,h⟩ | ⟨vD,h⟩
    ·refine E_ct vD rfl ?_
     refine Zu (Zd ?_)
     obtain ⟨rC,hx,h⟩:=Gb h
     refine E_join (fun e w=>∃ (g:Gh) ,Fr gI wI g w∧MkF g w []∧RFr yB uC g w∧HB 10 g w cC (.loop { lB with state:=.busy })∧e 1=p1∧PT g.m w (x0:ChainCylinder) p1∧e 3=p8∧OB 2003 g w 26 (l9:List Int) p8∧e 4=iB∧BXAF 2004 4016 g w 26 93 m7 m7.v (n9:List (List Int)) iB∧e 5=.int .i64 (n8)∧e 6=i6∧OM 9028 g w 3 (rC:List Int) i6∧e 19=k9∧ItV Tryz.prog (RA2 (α:=Int) (β:=Int)) aB k9 g.m w∧e 30=.int .i64 (((iA).length:Int))∧e 31=.int .i64 (o0)) (fun Q' hQ=>?_) (fun sM jN hR=>?_)
     ·replace h := hx
      clear hx
      refine Zr ?_
      refine Zf (Za (Zo bD rfl ?_))
      refine Zg (.int .i64 (o0)) rfl rfl ?_
      refine Zb (Zd (Zf (Za (Zn (.int .i64 (0)) rfl rfl ?_))))
      refine Zb (Zd (Zr ?_))
      refine E_lp h (fun (s:(List Int) × Int) e w=>∃ (g:Gh) ,Fr gI wI g w∧MkF g w []∧RFr yB uC g w∧HB 10 g w cC (.loop { lB with state:=.busy })∧e 1=p1∧PT g.m w (x0:ChainCylinder) p1∧e 3=p8∧OB 2003 g w 26 (l9:List Int) p8∧e 4=iB∧BXAF 2004 4016 g w 26 93 m7 m7.v (n9:List (List Int)) iB∧e 5=.int .i64 (n8)∧e 6=i6∧OM 9028 g w 3 (s.1:List Int) i6∧e 7=.int .i64 (o0)∧e 19=k9∧ItV Tryz.prog (RA2 (α:=Int) (β:=Int)) aB k9 g.m w∧e 30=.int .i64 (((iA).length:Int))∧e 31=.int .i64 (o0)∧e 34=.int .i64 (s.2)) ⟨aH,hfr,hmk,u3,hrec_0,bE,iE,lE,mE,oE,⟨rE,uE⟩,xH,vE,xE,rfl,sD,tD,uD,bD,rfl⟩ (fun X1857 jG qJ=>?_)
      rintro ⟨rA,l5⟩ tM kN ⟨dF,hfr,hmk,u3,hrec_0,mB,x6,vC,l8,oD,⟨v8,x8⟩,aD,nB,m8,yA,cD,k8,eD,gD,zB⟩ h
      refine Zf (Za (EL_in (.bool ((decide (l5 < (3:Int))))) zB rfl rfl rfl ?_))
      refine Zb (Zd (Zf ?_))
      rcases Zt h with ⟨xD,h⟩ | ⟨xD,h⟩
      ·refine E_ct xD rfl ?_
       refine Zu (Zd ?_)
       obtain ⟨qC,hx,h⟩:=Gb h
       refine E_join (fun e w=>∃ (g:Gh) ,Fr gI wI g w∧MkF g w []∧RFr yB uC g w∧HB 10 g w cC (.loop { lB with state:=.busy })∧e 1=p1∧PT g.m w (x0:ChainCylinder) p1∧e 3=p8∧OB 2003 g w 26 (l9:List Int) p8∧e 4=iB∧BXAF 2004 4016 g w 26 93 m7 m7.v (n9:List (List Int)) iB∧e 5=.int .i64 (n8)∧e 6=i6∧OM 9028 g w 3 (qC:List Int) i6∧e 7=.int .i64 (o0)∧e 19=k9∧ItV Tryz.prog (RA2 (α:=Int) (β:=Int)) aB k9 g.m w∧e 30=.int .i64 (((iA).length:Int))∧e 31=.int .i64 (o0)∧e 34=.int .i64 (l5)) (fun Q' hQ=>?_) (fun uM lN hR=>?_)
       ·replace h := hx
        clear hx
        refine Zr ?_
        refine Zf (Za (Zo zB rfl ?_))
        refine Zg (.int .i64 (l5)) rfl rfl ?_
        refine Zb (Zd (Zf (Za (Ze .plain rfl (D_load (g:=dF) Tryz.isAgg90 Tryz.sizeOf90 mB x6 fun vK xK=>?_)))))
        refine Zo aD rfl ?_
        refine Zo yA rfl ?_
        obtain ⟨kG,rJ,h⟩:=Gb h
        refine Ze .plain rfl (Zp (g:=dF) (vs:=[vK,.int .i64 (n8),.int .i64 (o0)]) en58 (.cons rfl (.cons rfl (.cons rfl .nil))) (wk58 xK rJ) fun cH vM mN hs hr=>?_)
        have hfr:=hfr.ext hs
        have hmk:=hmk.ext hs
        have u3:=u3.ext hs
        have hrec_0:=hrec_0.ext hs
        have x6:=x6.ext hs
        have l8:=l8.ext hs
        have v8:=v8.ext hs
        have x8:=x8.ext hs
        have m8:=m8.ext hs
        have k8:=k8.ext hs
        subst hr
        refine Zb (Zd ?_)
        rcases Zt h with ⟨yD,h⟩ | ⟨yD,h⟩
        ·refine E_ct yD rfl ?_
         obtain ⟨iD,eF,h⟩:=Gb h
         refine L_loadM (x:=.tmp 45) Tryz.isAgg3 Tryz.sizeOf3 m8 eF fun nN yK sJ=>?_
         obtain rfl:=Zj.1 yK
         obtain ⟨vB,vJ,h⟩:=Gb h
         refine L_loadO0 (x:=.tmp 3) Tryz.isAgg26 Tryz.sizeOf26 l8 fun dH gH xJ=>?_
         have zK:=Zm (part_ChainCylinder_0).1 x6
         refine Zs (x:=.tmp 50) Tryz.isAgg74 Tryz.sizeOf74 zK fun iH aL yJ=>?_
         obtain ⟨jD,zJ,h⟩:=Gb h
         obtain ⟨mC,rF,h⟩:=Gb h
         have bL:=PT_idx gH rF
         refine Zs (x:=.tmp 55) Tryz.isAgg3 Tryz.sizeOf3 bL fun oN dL aK=>?_
         obtain rfl:=Zj.1 dL
         obtain ⟨dK,sF,h⟩:=Gb h
         refine E_drawL (g:=cH) (n:=19) [(7,(fun v g w=>v=.int .i64 (vB))),(13,(fun v g w=>v=.int .i64 (jD)))] [0,1,2,3,4,5,6,7,8,9,10,11,12,13,14,15,16,17,18] rfl mixed (by kernel_rfl) (⟨fun _=>up_eq _,fun _=>up_eq _,trivial⟩) ?_
         refine Ga i6 rfl rfl (Zk nB) ?_
         refine Ga (.int .i64 (o0)) rfl rfl (Zk yA) ?_
         refine Ga i6 rfl rfl (Zk nB) ?_
         refine Ga (.int .i64 (o0)) rfl rfl (Zk yA) ?_
         refine Ga (ePtr i6 o0 1) rfl rfl (P_indexAddrM (α:=Int) Tryz.underlying26 Tryz.sizeOf3 rfl m8 rfl eF) ?_
         refine L_ld (c:=.int .i64 (iD)) rfl rfl .plain (fun _ _ h=>⟨h.ch,fun b hb _=>h.below.block b hb⟩) sJ rfl ?_
         refine Ga (.int .i64 (l5)) rfl rfl (Zk rfl) ?_
         refine L_do (φ:=fun v g w=>v=.int .i64 (vB)) rfl rfl .plain (fun g w hd=>Zp (g:=g) (vs:=[.int .i64 (l5)]) en39 (.cons rfl .nil) (wk39  vJ) fun g' w' v hs hr=>⟨g',hs,hr⟩) (fun pN hv=>?_)
         obtain ⟨_,_,_,rfl⟩:=hv
         refine L_ld (c:=dH) rfl rfl .plain (fun _ _ h=>⟨h.ch,fun b hb _=>h.below.block b hb⟩) xJ vC ?_
         refine Ga (fPtr p1 0) rfl rfl (Zc at_90_0 mB (PT.ptr x6)) ?_
         refine L_ld (c:=iH) rfl rfl .plain (fun _ _ h=>h.ch) yJ rfl ?_
         refine Ga (.int .i64 (o0)) rfl rfl (Zk yA) ?_
         refine Ga (.int .i64 (l5)) rfl rfl (Zk rfl) ?_
         refine L_do (φ:=fun v g w=>v=.int .i64 (jD)) rfl rfl .plain (fun g w hd=>Zp (g:=g) (vs:=[iH,.int .i64 (o0),.int .i64 (l5)]) en28 (.cons rfl (.cons rfl (.cons rfl .nil))) (wk28 (aL.ext hd.1) zJ) fun g' w' v hs hr=>⟨g',hs,hr⟩) (fun qN hv=>?_)
         obtain ⟨_,_,_,rfl⟩:=hv
         refine Ga (ePtr dH jD 1) rfl rfl (Zh (α:=Int) Tryz.underlying26 Tryz.sizeOf3 rfl gH rfl rF) ?_
         refine L_ld (c:=.int .i64 (mC)) rfl rfl .plain (fun _ _ h=>h.ch) aK rfl ?_
         refine Ga (.int .i64 ((w64 (vB + mC)))) rfl rfl (P_int rfl rfl rfl) ?_
         refine Ga (.int .i64 (min64 iD (w64 (vB + mC)))) rfl rfl (P_min rfl rfl) ?_
         refine Ga (ePtr i6 o0 1) rfl rfl (P_indexAddrM (α:=Int) Tryz.underlying26 Tryz.sizeOf3 rfl m8 rfl sF) ?_
         refine L_nl fun eL rN hs=>?_
         have hfr:=hfr.ext hs
         have hmk:=hmk.ext hs
         have u3:=u3.ext hs
         have hrec_0:=hrec_0.ext hs
         have x6:=x6.ext hs
         have l8:=l8.ext hs
         have v8:=v8.ext hs
         have x8:=x8.ext hs
         have m8:=m8.ext hs
         have k8:=k8.ext hs
         clear hs
         refine Ze .plain rfl (D_storeM (g:=eL) (α:=Int) (a':=((min64 iD (w64 (vB + mC))))) Tryz.sizeOf3 rfl m8 sF rfl (Zj.2 rfl) fun gL sN hs b1971=>?_)
         have hfr:=hfr.stp hs
         have hmk:=hmk.stp hs
         have u3:=u3.stp hs
         have hrec_0:=hrec_0.stp hs rfl
         have x6:=x6.stp hs
         have l8:=l8.stp hs rfl
         have v8:=v8.stp hs rfl
         have x8:=x8.stp hs rfl
         have k8:=k8.stp hs
         refine Zb (blk_n ?_)
         obtain rfl:=sinj h
         exact hQ _ _ ⟨gL,hfr,hmk,u3,hrec_0,mB,x6,vC,l8,oD,⟨v8,x8⟩,aD,nB,b1971,yA,cD,k8,eD,gD,zB⟩
        ·refine E_cf yD rfl ?_
         refine Zu (blk_n ?_)
         obtain rfl:=sinj h
         exact hQ _ _ ⟨cH,hfr,hmk,u3,hrec_0,mB,x6,vC,l8,oD,⟨v8,x8⟩,aD,nB,m8,yA,cD,k8,eD,gD,zB⟩
       ·clear hx
        obtain ⟨iL,hfr,hmk,u3,hrec_0,yH,zH,aI,bI,dI,⟨iI,jI⟩,kI,lI,mI,nI,xF,yF,zF,aG,bG⟩:=hR
        refine Za (EL_in (.int .i64 ((w64 (l5 + (1:Int))))) bG rfl rfl rfl ?_)
        refine Zn (.int .i64 ((w64 (l5 + (1:Int))))) rfl rfl ?_
        exact Zb (Zd (qJ (qC,(w64 (l5 + (1:Int)))) _ _ ⟨iL,hfr,hmk,u3,hrec_0,yH,zH,aI,bI,dI,⟨iI,jI⟩,kI,lI,mI,nI,xF,yF,zF,aG,rfl⟩ h))
      ·refine E_cf xD rfl ?_
       refine E_exit ?_
       refine thn_e ?_
       refine thn_e ?_
       refine blk_hit ?_
       refine blk_n ?_
       obtain rfl:=sinj h
       exact hQ _ _ ⟨dF,hfr,hmk,u3,hrec_0,mB,x6,vC,l8,oD,⟨v8,x8⟩,aD,nB,m8,cD,k8,eD,gD⟩
     ·clear hx
      obtain ⟨jL,hfr,hmk,u3,hrec_0,pI,qI,sI,tI,uI,⟨vI,yI⟩,zI,eJ,gJ,cG,eG,gG,hG⟩:=hR
      refine Za (EL_in (.int .i64 ((w64 (o0 + (1:Int))))) hG rfl rfl rfl ?_)
      refine Zn (.int .i64 ((w64 (o0 + (1:Int))))) rfl rfl ?_
      exact Zb (Zd (pJ (rC,(w64 (o0 + (1:Int)))) _ _ ⟨jL,hfr,hmk,u3,hrec_0,pI,qI,sI,tI,uI,⟨vI,yI⟩,zI,eJ,gJ,cG,eG,gG,rfl⟩ h))
    ·refine E_cf vD rfl ?_
     refine E_exit ?_
     refine thn_e ?_
     refine thn_e ?_
     refine blk_hit ?_
     obtain rfl:=sinj h
     exact hQ _ _ ⟨aH,hfr,hmk,u3,hrec_0,bE,iE,lE,mE,oE,⟨rE,uE⟩,vE,xE,sD,tD⟩
   ·clear hx
    obtain ⟨lL,hfr,hmk,u3,hrec_0,zL,x5,iJ,a9,yE,⟨i7,oB⟩,zE,jJ,vL,t5⟩:=hR
    refine Za (Zo zE rfl ?_)
    refine Ze .plain rfl (D_loadO (α:=Fv) (g:=lL) Tryz.isAgg93 Tryz.sizeOf93 yE i7 fun jH kH=>?_)
    have e1975:jH=m7.v:=RV_fv.1 kH
    clear kH
    subst jH
    refine Zo zE rfl ?_
    obtain ⟨gp1977,hs,rp1977⟩:=OM.pub jJ
    have hfr:=hfr.stp hs
    have hmk:=hmk.stp hs
    have u3:=u3.stp hs
    have hrec_0:=hrec_0.stp hs rfl
    have x5:=x5.stp hs
    have a9:=a9.stp hs rfl
    have i7:=i7.stp hs rfl
    have oB:=oB.stp hs rfl
    have t5:=t5.stp hs
    refine Ze .plain rfl (D_buildSliceA (g:=gp1977) 4065 (xs:=([dB]:List (List Int))) (vs:=[i6]) Tryz.underlying93 Tryz.sizeOf26 Tryz.zeroValue26 rfl rfl (.cons rfl .nil) (RVs.cons rp1977 RVs.nil) rfl rfl fun mL tN uN hs b1976 _=>?_)
    have hfr:=hfr.stp hs
    have hmk:=hmk.stp hs
    have u3:=u3.stp hs
    have hrec_0:=hrec_0.stp hs rfl
    have x5:=x5.stp hs
    have a9:=a9.stp hs rfl
    have i7:=i7.stp hs rfl
    have oB:=oB.stp hs rfl
    have rp1977:=rp1977.stp hs
    have t5:=t5.stp hs
    obtain ⟨lG,bK,h⟩:=Gb h
    refine Ze .plain rfl (D_appendAs (g:=mL) (i:=4016) (j:=4065) Tryz.underlying93 info_26 rfl rfl oB rfl b1976 (by simp) rfl bK fun ga1978 nL vN lH hs hs2 b1978=>?_)
    have hfr:=hfr.stp hs
    have hmk:=hmk.stp hs
    have u3:=u3.stp hs
    have hrec_0:=hrec_0.stp hs rfl
    have x5:=x5.stp hs
    have a9:=a9.stp hs rfl
    have i7:=i7.stp hs rfl
    have rp1977:=rp1977.stp hs
    have t5:=t5.stp hs
    have hfr:=hfr.stp hs2
    have hmk:=hmk.stp hs2
    have u3:=u3.stp hs2
    have hrec_0:=hrec_0.stp hs2 rfl
    have x5:=x5.stp hs2
    have a9:=a9.stp hs2 rfl
    have i7:=i7.stp hs2 rfl
    have rp1977:=rp1977.stp hs2
    have t5:=t5.stp hs2
    refine Ze .plain rfl (D_storeOc (g:=nL) (v:=i6) Tryz.sizeOf26 iJ a9 rfl rp1977 fun oL xN hs b1980 cb=>?_)
    clear cb
    have hfr:=hfr.stp hs
    have hmk:=hmk.stp hs
    have u3:=u3.stp hs
    have hrec_0:=hrec_0.stp hs rfl
    have x5:=x5.stp hs
    have i7:=i7.stp hs rfl
    have t5:=t5.stp hs
    have b1978:=b1978.stp hs rfl
    have on1981:=om_one (b1978.toM)
    refine Ze .plain rfl (D_storeOc (g:=oL) (v:=lH) (a':=(⟨lH,on1981⟩:Fv)) Tryz.sizeOf93 yE i7 rfl (RV_fv.2 rfl) fun yN zN hs b1981 cb=>?_)
    clear cb
    have hfr:=hfr.stp hs
    have hmk:=hmk.stp hs
    have u3:=u3.stp hs
    have hrec_0:=hrec_0.stp hs rfl
    have x5:=x5.stp hs
    have b1980:=b1980.stp hs rfl
    have t5:=t5.stp hs
    have b1978:=b1978.stp hs rfl
    refine Zb (blk_n ?_)
    obtain ⟨rfl,rfl⟩:=pairs2 h
    exact ⟨_,u3,⟨hfr,hmk,x5,b1980,⟨_,b1981,b1978⟩,t5⟩,hrec_0,rfl,rfl⟩
  ·intro pL aO ds1983 hsz hR hds
   obtain ⟨hfr,hmk,aM,bM,⟨cM,kJ,lJ⟩,xL⟩:=hR
   obtain ⟨D,hdse,hD,hDb⟩:=hds.1 rfl
   subst hdse
   replace hmk:=MkF.push hmk0 hmk hD hDb
   clear hD hDb hds
   revert hmk
   generalize ({ target:=.collected D,args:=#[] } :: []:List Deferred)=dM
   intro hmk
   refine ⟨fun _=>?_,fun k c hs _=>absurd hs (Nat.succ_ne_zero k).symm⟩
   refine blk_n ?_
   obtain rfl:=sinj h
   exact hQ _ _ _ ⟨pL,hfr,hmk,rfl,⟨_,kJ,lJ⟩⟩
 ·clear hx
  obtain ⟨mH,hfr,hmk,cF,⟨tB,bA,mJ⟩⟩:=hR
  refine Zf (Za (Ze .plain rfl (D_loadO (α:=Fv) (g:=mH) Tryz.isAgg93 Tryz.sizeOf93 cF bA fun nH oH=>?_)))
  have e1985:nH=tB.v:=RV_fv.1 oH
  clear oH
  subst nH
  obtain ⟨mG,cK,h⟩:=Gb h
  refine Ze .plain rfl (D_callM (g:=mH) (i:=4016) (vs:=[tB.v]) en59 (.cons rfl .nil) (wk59 (mJ.toM) cK) fun qL xM bO hs hr=>?_)
  obtain ⟨hrv,b1986⟩:=hr
  have hfr:=hfr.stp hs
  have hmk:=hmk.stp hs
  have bA:=bA.stp hs rfl
  subst hrv
  refine Zb (Zd (Zf (Za (Ze .plain rfl (D_loadO (α:=Fv) (g:=qL) Tryz.isAgg93 Tryz.sizeOf93 cF bA fun pH qH=>?_)))))
  have e1988:pH=tB.v:=RV_fv.1 qH
  clear qH
  subst pH
  obtain ⟨gp1989,hs,rp1989⟩:=OM.pub b1986
  have hfr:=hfr.stp hs
  have hmk:=hmk.stp hs
  have bA:=bA.stp hs rfl
  have ub1989:=OB.ofRV bA rp1989
  refine Zg (tB.v) rfl rfl ?_
  refine Zb (Zd (E_ret (endM (.inr rfl) hmk fun cO dO hs=>?_)))
  have hfr:=hfr.stp hs
  have rp1989:=rp1989.stp hs
  obtain rfl:=sinj h
  exact end1 rfl rfl (show _=tB.v from rfl) ⟨_,hfr,rp1989⟩
def f45 (x0:Int) (x1:List ChainCard):Option (Bool):=
 Option.bind (α:=Bool) (
  bif (decide (((x1).length : Int) > (0 : Int))) then
   (f66 x1 ((fun a0=>f65 a0 x0))).bind fun y7=>
   some ((!y7))
  else
   some (false)
  ) fun o0=>
 some (o0)
theorem en45:Enters Tryz.prog 45:=enters_of Tryz.func45 (by kernel_rfl) rfl
theorem wk45 {gI:Gh} {wI:World} {x0:Int} {x1:List ChainCard} {up1:Value} (rp1:RV gI.m wI x1 up1) {r:Bool} (h:f45 x0 x1=some r):Fn Tryz.prog 45 #[.int .i64 (x0),up1] gI wI (fun _ _ v=>v=.bool (r)):=by
 unfold f45 at h
 refine fn_of_E Tryz.func45 rfl (Nat.le_of_ble_eq_true rfl) fun g0 hm hfr=>?_
 have rp1:RV g0.m wI x1 up1:=hm ▸ rp1
 show E _ 16 none _ _ _ _ _
 refine Zf (Za (Ze .plain rfl (D_box (g:=g0) rfl (Zj.2 rfl) fun g1 w1 p1 hs q1=>?_)))
 have hfr:=hfr.ext hs
 have rp1:=rp1.ext hs
 refine Zg (.bool false) rfl rfl ?_
 refine Zb (Zd (Zf (Za (Zx ((.func (.func 65) #[] #[p1])) (P_makeFunc (capf_0_1 (show ev _ _=p1 from rfl))) rfl ?_))))
 refine Zg ((.func (.func 65) #[] #[p1])) rfl rfl ?_
 refine Zb (Zd ?_)
 obtain ⟨o0,hx,h⟩:=Gb h
 refine E_join (fun e w=>∃ (g:Gh) ,Fr gI wI g w∧e 4=.bool (o0)) (fun Q' hQ=>?_) (fun t5 w8 hR=>?_)
 ·replace h := hx
  clear hx
  refine Za (Zn up1 rfl rfl ?_)
  refine Zx (.int .i64 ((x1).length:Int)) (P_len Tryz.underlying34 rfl rp1) rfl ?_
  refine EL_in (.bool ((decide (((x1).length:Int) > (0:Int))))) rfl rfl rfl rfl ?_
  refine Zn (.bool ((decide (((x1).length:Int) > (0:Int))))) rfl rfl ?_
  rcases Zt h with ⟨hc5,h⟩ | ⟨hc5,h⟩
  ·refine Zy up1 (Zk rfl) rfl rfl hc5 rfl ?_
   refine Zy ((.func (.func 65) #[] #[p1])) (Zk rfl) rfl rfl hc5 rfl ?_
   obtain ⟨y7,l5,h⟩:=Gb h
   refine Ze (.yes2 rfl rfl hc5) rfl (Zp (g:=g1) (vs:=[up1,(.func (.func 65) #[] #[p1])]) en66 (.cons rfl (.cons rfl .nil)) (wk66 rp1 ⟨65,#[],#[p1],rfl,en65,fun g' w' hch a0 b0 r hu0 hr=>by exact Fn.mono (wk65 hu0 (q1.ch hch) hr) fun _ _ _ h=>RV_bool.2 h⟩ l5) fun g6 w6_ v6 hs hr=>?_)
   have hfr:=hfr.ext hs
   subst hr
   refine Zy (.bool (!y7)) (P_not rfl) rfl rfl hc5 rfl ?_
   refine Zx (.bool (!y7)) (Zl (b:=(decide (((x1).length:Int) > (0:Int)))) rfl (pick_t hc5 rfl)) rfl ?_
   refine Zg (.bool (!y7)) rfl rfl ?_
   refine Zb ?_
   obtain rfl:=sinj h
   exact hQ _ _ ⟨g6,hfr,rfl⟩
  ·refine Zz rfl rfl hc5 rfl rfl ?_
   iterate 3 refine Zz rfl rfl hc5 rfl rfl ?_
   refine Zx (.bool false) (Zl (b:=(decide (((x1).length:Int) > (0:Int)))) rfl (pick_f hc5 rfl)) rfl ?_
   refine Zg (.bool false) rfl rfl ?_
   refine Zb ?_
   obtain rfl:=sinj h
   exact hQ _ _ ⟨g1,hfr,rfl⟩
 ·clear hx
  obtain ⟨g8,hfr,u3⟩:=hR
  refine E_ret ?_
  obtain rfl:=sinj h
  exact end1 rfl rfl (show _=.bool (o0) from u3) ⟨_,hfr,rfl⟩
def f54 (x0:List Str) (x1:Int):Option (Int):=
 jn (σ:=Unit) (fun _=>
  some ((0:Int))
  ) fun i7=>
 bif (decide (((x0).length : Int) > (60 : Int))) then
  some ((5:Int))
 else
  bif (((x0).length : Int) == (0 : Int)) then
   some ((7:Int))
  else
   Option.bind (α:=Bool) (
    (f42 ((1:Int)) ((96:Int)) (([x1]:List Int))).bind fun u3=>
    bif (!u3) then
     some ((!u3))
    else
     (f73 x0 ((fun a0=>f71 a0 x1))).bind fun y6=>
     some (y6)
    ) fun o0=>
   bif o0 then
    some ((4:Int))
   else
    i7 ()
theorem en54:Enters Tryz.prog 54:=enters_of Tryz.func54 (by kernel_rfl) rfl
theorem wk54 {gI:Gh} {wI:World} {x0:List Str} {x1:Int} {up0:Value} (rp0:RV gI.m wI x0 up0) {r:Int} (h:f54 x0 x1=some r):Fn Tryz.prog 54 #[up0,.int .i64 (x1)] gI wI (fun _ _ v=>v=.int .i64 (r)):=by
 unfold f54 at h
 refine fn_of_E Tryz.func54 rfl (Nat.le_of_ble_eq_true rfl) fun g0 hm hfr=>?_
 have rp0:RV g0.m wI x0 up0:=hm ▸ rp0
 show E _ 23 none _ _ _ _ _
 refine Zf (Za (Ze .plain rfl (D_box (g:=g0) rfl (Zj.2 rfl) fun g1 w1 p1 hs q1=>?_)))
 have hfr:=hfr.ext hs
 have rp0:=rp0.ext hs
 refine Zg (.int .i64 (0)) rfl rfl ?_
 refine Zb (Zd (Zf (Za (Zx ((.func (.func 71) #[] #[p1])) (P_makeFunc (capf_0_1 (show ev _ _=p1 from rfl))) rfl ?_))))
 refine Zg ((.func (.func 71) #[] #[p1])) rfl rfl ?_
 refine Zb (Zd (Zq h (fun (s:Unit) e w=>∃ (g:Gh) ,Fr gI wI g w) (fun X20 i7 g8 h=>?_) ?_))
 ·refine Zr ?_
  refine Zf (Za (Zn up0 rfl rfl ?_))
  refine Zx (.int .i64 ((x0).length:Int)) (P_len Tryz.underlying47 rfl rp0) rfl ?_
  refine EL_in (.bool ((decide (((x0).length:Int) > (60:Int))))) rfl rfl rfl rfl ?_
  refine Zg (.bool ((decide (((x0).length:Int) > (60:Int))))) rfl rfl ?_
  refine Zb (Zd ?_)
  rcases Zt h with ⟨t5,h⟩ | ⟨t5,h⟩
  ·refine E_ct t5 rfl ?_
   refine Zf (Za (Zg (.int .i64 (5)) rfl rfl ?_))
   refine Zb (Zd (E_ret (blk_r ?_)))
   refine thn_r ?_
   obtain rfl:=sinj h
   exact end1 rfl rfl (show _=.int .i64 (5) from rfl) ⟨_,hfr,rfl⟩
  ·refine E_cf t5 rfl ?_
   refine Zf (Za (Zn up0 rfl rfl ?_))
   refine Zx (.int .i64 ((x0).length:Int)) (P_len Tryz.underlying47 rfl rp0) rfl ?_
   refine EL_in (.bool ((((x0).length:Int) == (0:Int)))) rfl rfl rfl rfl ?_
   refine Zg (.bool ((((x0).length:Int) == (0:Int)))) rfl rfl ?_
   refine Zb (Zd ?_)
   rcases Zt h with ⟨x5,h⟩ | ⟨x5,h⟩
   ·refine E_ct x5 rfl ?_
    refine Zf (Za (Zg (.int .i64 (7)) rfl rfl ?_))
    refine Zb (Zd (E_ret (blk_r ?_)))
    refine thn_r ?_
    obtain rfl:=sinj h
    exact end1 rfl rfl (show _=.int .i64 (7) from rfl) ⟨_,hfr,rfl⟩
   ·refine E_cf x5 rfl ?_
    obtain ⟨o0,hx,h⟩:=Gb h
    refine E_join (fun e w=>∃ (g:Gh) ,Fr gI wI g w∧e 15=.bool (o0)) (fun Q' hQ=>?_) (fun d9 u9 hR=>?_)
    ·replace h := hx
     clear hx
     refine Zf (Za (Ze .plain rfl (D_load (g:=g1) Tryz.isAgg3 Tryz.sizeOf3 rfl q1 fun y9 m8=>?_)))
     obtain rfl:=Zj.1 m8
     refine Ze .plain rfl (D_buildSlice (g:=g1) 3017 (xs:=([x1]:List Int)) (vs:=[.int .i64 (x1)]) Tryz.underlying26 Tryz.sizeOf3 Tryz.zeroValue3 rfl rfl (.cons rfl .nil) (RVs.cons (Zj.2 rfl) RVs.nil) rfl rfl fun n8 z9 r8 hs o31 v8 hxt hfl=>?_)
     have hfr:=hfr.stp hs
     have rp0:=rp0.stp hs
     have q1:=q1.stp hs
     obtain ⟨u3,k8,h⟩:=Gb h
     refine Ze .plain rfl (Zp (g:=n8) (vs:=[.int .i64 (1),.int .i64 (96),r8]) en42 (.cons rfl (.cons rfl (.cons rfl .nil))) (wk42 v8 k8) fun m7 k9 bA hs hr=>?_)
     have hfr:=hfr.ext hs
     have rp0:=rp0.ext hs
     have q1:=q1.ext hs
     subst hr
     refine Zx (.bool (!u3)) (P_not rfl) rfl ?_
     refine Zg (.bool (!u3)) rfl rfl ?_
     refine Zb (Zd ?_)
     rcases Zt h with ⟨i6,h⟩ | ⟨i6,h⟩
     ·refine E_ct i6 rfl ?_
      refine Zu ?_
      obtain rfl:=sinj h
      exact hQ _ _ ⟨m7,hfr,rfl⟩
     ·refine E_cf i6 rfl ?_
      refine Za (Zn up0 rfl rfl ?_)
      refine Zn ((.func (.func 71) #[] #[p1])) rfl rfl ?_
      obtain ⟨y6,l8,h⟩:=Gb h
      refine Ze .plain rfl (Zp (g:=m7) (vs:=[up0,(.func (.func 71) #[] #[p1])]) en73 (.cons rfl (.cons rfl .nil)) (wk73 rp0 ⟨71,#[],#[p1],rfl,en71,fun g' w' hch a0 b0 r hu0 hr=>by obtain rfl:=RV_str.1 hu0; exact Fn.mono (wk71  (q1.ch hch) hr) fun _ _ _ h=>RV_bool.2 h⟩ l8) fun x8 l9 iA hs hr=>?_)
      have hfr:=hfr.ext hs
      subst hr
      refine Zg (.bool (y6)) rfl rfl ?_
      refine Zb ?_
      obtain rfl:=sinj h
      exact hQ _ _ ⟨x8,hfr,rfl⟩
    ·clear hx
     obtain ⟨a9,hfr,l5⟩:=hR
     rcases Zt h with ⟨x6,h⟩ | ⟨x6,h⟩
     ·refine E_cond_true (Eq.trans (show ev _ _ = .bool (o0) from l5) (congrArg Value.bool x6)) ?_
      refine Zf (Za (Zg (.int .i64 (4)) rfl rfl ?_))
      refine Zb (Zd (E_ret (blk_r ?_)))
      refine thn_r ?_
      obtain rfl:=sinj h
      exact end1 rfl rfl (show _=.int .i64 (4) from rfl) ⟨_,hfr,rfl⟩
     ·refine E_cond_false (Eq.trans (show ev _ _ = .bool (o0) from l5) (congrArg Value.bool x6)) ?_
      exact Zu (blk_n (Zd (g8 () _ _ ⟨a9,hfr⟩ h)))
 ·rintro _ n9 rA ⟨yA, hfr⟩ h
  refine Zf (Za (Zg (.int .i64 (0)) rfl rfl ?_))
  refine Zb (Zd (E_ret ?_))
  obtain rfl:=sinj h
  exact end1 rfl rfl (show _=.int .i64 (0) from rfl) ⟨_,hfr,rfl⟩
def f7 :Option (Bool):=
 (f22 ((4:Int)) (([(⟨0,(3:Int),(2:Int),(1:Int)⟩:TieGroup)]:List TieGroup))).bind fun y4=>
 (f14 (y4.1) ((⟨(4:Int),([(1:Int),(6:Int)]:List Int)⟩:Design))).bind fun y11=>
 Option.bind (α:=Bool) (
  bif (y4.2.2 == (0 : Int)) then
   bif (y11.2 == (0 : Int)) then
    (f20 (y11.1) (([(⟨[120,46,46,46,46,46]⟩:Str),(⟨[46,120,120,46,120,120]⟩:Str)]:List Str))).bind fun y6=>
    some (y6)
   else
    some (false)
  else
   some (false)
  ) fun t5=>
 some (t5)
theorem en7:Enters Tryz.prog 7:=enters_of Tryz.func7 (by kernel_rfl) rfl
theorem wk7 {gI:Gh} {wI:World}   {r:Bool} (h:f7 =some r):Fn Tryz.prog 7 #[] gI wI (fun _ _ v=>v=.bool (r)):=by
 unfold f7 at h
 refine fn_of_E Tryz.func7 rfl (Nat.le_of_ble_eq_true rfl) fun g0 hm hfr=>?_
 show E _ 31 none _ _ _ _ _
 refine Zf (Za (Zg (.bool false) rfl rfl ?_))
 refine Zb (Zd (Zf (Za ?_)))
 have r1:RV g0.m wI (⟨0,(3:Int),(2:Int),(1:Int)⟩:TieGroup) (.agg (setCh [[.int .i64 0],[.int .i64 0],[.int .i64 0],[.int .i64 0]] [(1,.int .i64 (3)),(2,.int .i64 (2)),(3,.int .i64 (1))]).flatten.toArray):=RV_build rfl (rep_pair (Zw) (rep_pair (rfl) (rep_pair (rfl) (rep_last (rfl)))))
 generalize hv1:(Value.agg (setCh [[.int .i64 0],[.int .i64 0],[.int .i64 0],[.int .i64 0]] [(1,.int .i64 (3)),(2,.int .i64 (2)),(3,.int .i64 (1))]).flatten.toArray)=v1 at r1
 refine Zx v1 (hv1 ▸ P_build (vs:=[(1,.int .i64 (3)),(2,.int .i64 (2)),(3,.int .i64 (1))]) [[.int .i64 0],[.int .i64 0],[.int .i64 0],[.int .i64 0]] lay_69 rfl rfl (.cons rfl (.cons rfl (.cons rfl .nil))) ⟨⟨_,rfl,rfl⟩,⟨⟨_,rfl,rfl⟩,⟨⟨_,rfl,rfl⟩,trivial⟩⟩⟩) rfl ?_
 refine Ze .plain rfl (D_buildSlice (g:=g0) 3008 (xs:=([(⟨0,(3:Int),(2:Int),(1:Int)⟩:TieGroup)]:List TieGroup)) (vs:=[v1]) Tryz.underlying70 Tryz.sizeOf69 Tryz.zeroValue69 rfl rfl (.cons rfl .nil) (RVs.cons r1 RVs.nil) rfl rfl fun g2 w2 v2 hs o2 r2 hxt hfl=>?_)
 have hfr:=hfr.stp hs
 obtain ⟨y4,m8,h⟩:=Gb h
 refine Ze .plain rfl (Zp (g:=g2) (vs:=[.int .i64 (4),v2]) en22 (.cons rfl (.cons rfl .nil)) (wk22 r2 m8) fun g3 w3_ v3 hs hr=>?_)
 have hfr:=hfr.ext hs
 obtain ⟨i6,n9,u9,rfl,x6,rfl,rfl⟩:=hr
 refine Zn (.tuple #[i6,.int .i64 (y4.2.1),.int .i64 (y4.2.2)]) rfl rfl ?_
 refine Zx i6 (Zi rfl rfl) rfl ?_
 refine Zx (.int .i64 (y4.2.1)) (Zi rfl rfl) rfl ?_
 refine Zx (.int .i64 (y4.2.2)) (Zi rfl rfl) rfl ?_
 refine Ze .plain rfl (D_allocOc (g:=g3) 2001 (⟨0,[]⟩:TieHarness) Tryz.zeroValue28 (fun m w=>⟨_,(rep_two Zw rep_nil),rfl⟩) fun g5 w5 p5 hs b5 cb=>?_)
 have hfr:=hfr.stp hs
 have x6:=x6.stp hs
 have y9:OSF 2001 60101 1 g5 w5 3 28 ([]:List Int) p5:=cb.osf (by rfl)
 clear cb
 refine Ze .plain rfl (D_storeOc (g:=g5) (v:=i6) Tryz.sizeOf28 rfl b5 rfl x6 fun g6 w6 hs b6 cb=>?_)
 clear cb
 have hfr:=hfr.stp hs
 refine Zg (.int .i64 (y4.2.1)) rfl rfl ?_
 refine Zg (.int .i64 (y4.2.2)) rfl rfl ?_
 refine Zb (Zd (Zf (Za (Ze .plain rfl (D_loadO (g:=g6) Tryz.isAgg28 Tryz.sizeOf28 rfl b6 fun v7 r7=>?_)))))
 refine Ze .plain rfl (D_buildSlice (g:=g6) 3015 (xs:=([(1:Int),(6:Int)]:List Int)) (vs:=[.int .i64 (1),.int .i64 (6)]) Tryz.underlying26 Tryz.sizeOf3 Tryz.zeroValue3 rfl rfl (.cons rfl (.cons rfl .nil)) (RVs.cons (Zj.2 rfl) (RVs.cons (Zj.2 rfl) RVs.nil)) rfl rfl fun g8 w8 v8 hs o8 r8 hxt hfl=>?_)
 have hfr:=hfr.stp hs
 have r7:=r7.stp hs
 have r9:RV g8.m _ (⟨(4:Int),([(1:Int),(6:Int)]:List Int)⟩:Design) (.agg (setCh [[.int .i64 0],[.slice none 0 0]] [(0,.int .i64 (4)),(1,v8)]).flatten.toArray):=RV_build rfl (rep_pair (rfl) (rep_last (RV.cells r8)))
 generalize n8:(Value.agg (setCh [[.int .i64 0],[.slice none 0 0]] [(0,.int .i64 (4)),(1,v8)]).flatten.toArray)=v9 at r9
 refine Zx v9 (n8 ▸ P_build (vs:=[(0,.int .i64 (4)),(1,v8)]) [[.int .i64 0],[.slice none 0 0]] lay_31 rfl rfl (.cons rfl (.cons rfl .nil)) ⟨⟨_,rfl,rfl⟩,⟨⟨_,rfl,cells_size r8⟩,trivial⟩⟩) rfl ?_
 obtain ⟨y11,k8,h⟩:=Gb h
 refine Ze .plain rfl (Zp (g:=g8) (vs:=[v7,v9]) en14 (.cons rfl (.cons rfl .nil)) (wk14 r7 r9 k8) fun i7 z9 rA hs hr=>?_)
 have hfr:=hfr.ext hs
 obtain ⟨l5,l9,rfl,x5,rfl⟩:=hr
 refine Zn (.tuple #[l5,.int .i64 (y11.2)]) rfl rfl ?_
 refine Zx l5 (Zi rfl rfl) rfl ?_
 refine Zx (.int .i64 (y11.2)) (Zi rfl rfl) rfl ?_
 refine Zg l5 rfl rfl ?_
 refine Zg (.int .i64 (y11.2)) rfl rfl ?_
 refine Zb (Zd ?_)
 obtain ⟨t5,hx,h⟩:=Gb h
 refine E_join (fun e w=>∃ (g:Gh) ,Fr gI wI g w∧e 0=.bool (t5)) (fun Q' hQ=>?_) (fun bA yA hR=>?_)
 ·replace h := hx
  clear hx
  refine Za (Zn (.int .i64 (y4.2.2)) rfl rfl ?_)
  refine EL_in (.bool ((y4.2.2 == (0:Int)))) rfl rfl rfl rfl ?_
  refine Zn (.bool ((y4.2.2 == (0:Int)))) rfl rfl ?_
  rcases Zt h with ⟨u3,h⟩ | ⟨u3,h⟩
  ·refine Zy (.int .i64 (y11.2)) (Zk rfl) rfl rfl u3 rfl ?_
   refine Zy (.bool ((y11.2 == (0:Int)))) (P_int rfl rfl rfl) rfl rfl u3 rfl ?_
   refine Zx (.bool ((y11.2 == (0:Int)))) (Zl (b:=(y4.2.2 == (0:Int))) rfl (pick_t u3 rfl)) rfl ?_
   refine Zn (.bool ((y11.2 == (0:Int)))) rfl rfl ?_
   rcases Zt h with ⟨o0,h⟩ | ⟨o0,h⟩
   ·refine Zy l5 (Zk rfl) rfl rfl o0 rfl ?_
    refine Ze (.yes2 rfl rfl o0) rfl (D_buildSlice (g:=i7) 3028 (xs:=([(⟨[120,46,46,46,46,46]⟩:Str),(⟨[46,120,120,46,120,120]⟩:Str)]:List Str)) (vs:=[Str.v (⟨[120,46,46,46,46,46]⟩:Str),Str.v (⟨[46,120,120,46,120,120]⟩:Str)]) Tryz.underlying47 Tryz.sizeOf9 Tryz.zeroValue9 rfl rfl (.cons rfl (.cons rfl .nil)) (RVs.cons (RV_str.2 rfl) (RVs.cons (RV_str.2 rfl) RVs.nil)) rfl rfl fun x8 aB a9 hs o19 d9 hxt hfl=>?_)
    have hfr:=hfr.stp hs
    have x5:=x5.stp hs
    obtain ⟨y6,l8,h⟩:=Gb h
    refine Ze (.yes2 rfl rfl o0) rfl (Zp (g:=x8) (vs:=[l5,a9]) en20 (.cons rfl (.cons rfl .nil)) (wk20 x5 d9 l8) fun k9 iA dB hs hr=>?_)
    have hfr:=hfr.ext hs
    subst hr
    refine Zx (.bool (y6)) (Zl (b:=(y11.2 == (0:Int))) rfl (pick_t o0 rfl)) rfl ?_
    refine Zg (.bool (y6)) rfl rfl ?_
    refine Zb ?_
    obtain rfl:=sinj h
    exact hQ _ _ ⟨k9,hfr,rfl⟩
   ·refine Zz rfl rfl o0 rfl rfl ?_
    refine Zz rfl rfl o0 rfl rfl ?_
    refine Zz rfl rfl o0 rfl rfl ?_
    refine Zx (.bool false) (Zl (b:=(y11.2 == (0:Int))) rfl (pick_f o0 rfl)) rfl ?_
    refine Zg (.bool false) rfl rfl ?_
    refine Zb ?_
    obtain rfl:=sinj h
    exact hQ _ _ ⟨i7,hfr,rfl⟩
  ·refine Zz rfl rfl u3 rfl rfl ?_
   refine Zz rfl rfl u3 rfl rfl ?_
   refine Zx (.bool false) (Zl (b:=(y4.2.2 == (0:Int))) rfl (pick_f u3 rfl)) rfl ?_
   refine EL_dead 5 rfl ?_
   refine Zg (.bool false) rfl rfl ?_
   refine Zb ?_
   obtain rfl:=sinj h
   exact hQ _ _ ⟨i7,hfr,rfl⟩
 ·clear hx
  obtain ⟨iB,hfr,m7⟩:=hR
  refine E_ret ?_
  obtain rfl:=sinj h
  exact end1 rfl rfl (show _=.bool (t5) from m7) ⟨_,hfr,rfl⟩
def f25 (x0:ChainBelt):Option (ChainChainBelt × Int):=
 jn (σ:=ChainChainBelt) (fun m7=>
  some ((⟨x0,(x0).Hooks⟩:ChainChainBelt),(0:Int))
  ) fun k33=>
 (f23 ((x0).Hooks)).bind fun i6=>
 bif (!i6) then
  some ((⟨x0,(x0).Hooks⟩:ChainChainBelt),(3:Int))
 else
  bif (decide ((((x0).Cards).length : Int) > (60 : Int))) then
   some ((⟨x0,(x0).Hooks⟩:ChainChainBelt),(5:Int))
  else
   (f45 ((x0).Hooks) ((x0).Cards)).bind fun x6=>
   bif (!x6) then
    some ((⟨x0,(x0).Hooks⟩:ChainChainBelt),(2:Int))
   else
    k33 ((⟨⟨0,[]⟩,0⟩:ChainChainBelt))
theorem en25:Enters Tryz.prog 25:=enters_of Tryz.func25 (by kernel_rfl) rfl
theorem wk25 {gI:Gh} {wI:World} {x0:ChainBelt} {up0:Value} (rp0:RV gI.m wI x0 up0) {r:ChainChainBelt × Int} (h:f25 x0=some r):Fn Tryz.prog 25 #[up0] gI wI (fun m w v=>∃ y0 y1,v=.tuple #[y0,y1]∧RV m w (r.1) y0∧y1=.int .i64 (r.2)):=by
 unfold f25 at h
 refine fn_of_E Tryz.func25 rfl (Nat.le_of_ble_eq_true rfl) fun g0 hm hfr=>?_
 have rp0:RV g0.m wI x0 up0:=hm ▸ rp0
 show E _ 30 none _ _ _ _ _
 refine Zf (Za (Ze .plain rfl (D_box (g:=g0) rfl rp0 fun g1 w1 p1 hs q1=>?_)))
 have hfr:=hfr.ext hs
 refine Ze .plain rfl (D_allocOc (g:=g1) 2002 (⟨⟨0,[]⟩,0⟩:ChainChainBelt) Tryz.zeroValue74 (fun m w=>⟨_,(rep_two (rep_two Zw rep_nil) Zw),rfl⟩) fun g2 w2 p2 hs b2 cb=>?_)
 have hfr:=hfr.stp hs
 have q1:=q1.stp hs
 have o0:OSF 2002 60201 1 g2 w2 62 74 ([]:List ChainCard) p2:=cb.osf (by rfl)
 clear cb
 refine Zg (.int .i64 (0)) rfl rfl ?_
 refine Zb (Zd (Zf (Za (Ze .plain rfl (D_load (g:=g2) Tryz.isAgg36 Tryz.sizeOf36 rfl q1 fun v3 r3=>?_)))))
 refine Zx (fPtr p1 0) (Zc at_36_0 rfl (PT.ptr q1)) rfl ?_
 have q4:=Zm (part_ChainBelt_0).1 q1
 refine Ze .plain rfl (D_load (g:=g2) Tryz.isAgg3 Tryz.sizeOf3 rfl q4 fun v5 r5=>?_)
 obtain rfl:=Zj.1 r5
 have r6:RV g2.m _ (⟨x0,(x0).Hooks⟩:ChainChainBelt) (.agg (setCh [[.int .i64 0,.slice none 0 0],[.int .i64 0]] [(0,v3),(1,.int .i64 ((x0).Hooks))]).flatten.toArray):=RV_build rfl (rep_pair (RV.cells r3) (rep_last (rfl)))
 generalize n9:(Value.agg (setCh [[.int .i64 0,.slice none 0 0],[.int .i64 0]] [(0,v3),(1,.int .i64 ((x0).Hooks))]).flatten.toArray)=v6 at r6
 refine Zx v6 (n9 ▸ P_build (vs:=[(0,v3),(1,.int .i64 ((x0).Hooks))]) [[.int .i64 0,.slice none 0 0],[.int .i64 0]] lay_74 rfl rfl (.cons rfl (.cons rfl .nil)) ⟨⟨_,rfl,cells_size r3⟩,⟨⟨_,rfl,rfl⟩,trivial⟩⟩) rfl ?_
 refine Ze .plain rfl (D_allocOc (g:=g2) 2004 (⟨⟨0,[]⟩,0⟩:ChainChainBelt) Tryz.zeroValue74 (fun m w=>⟨_,(rep_two (rep_two Zw rep_nil) Zw),rfl⟩) fun g7 w7 p7 hs b7 cb=>?_)
 have hfr:=hfr.stp hs
 have q1:=q1.stp hs
 have o0:=o0.stp hs rfl
 have b2:=b2.stp hs rfl
 have r6:=r6.stp hs
 have vB:OSF 2004 60401 1 g7 w7 62 74 ([]:List ChainCard) p7:=cb.osf (by rfl)
 clear cb
 refine Ze .plain rfl (D_storeOc (g:=g7) (v:=v6) Tryz.sizeOf74 rfl b7 rfl r6 fun g8 w8 hs b8 cb=>?_)
 clear cb
 have hfr:=hfr.stp hs
 have q1:=q1.stp hs
 have o0:=o0.stp hs rfl
 have b2:=b2.stp hs rfl
 refine Zb (Zd (Zq h (fun (s:ChainChainBelt) e w=>∃ (g:Gh) ,Fr gI wI g w∧e 2=p2∧OB 2002 g w 74 (s:ChainChainBelt) p2∧OSF 2002 60201 1 g w 62 74 (((s).ChainBelt).Cards) p2∧e 4=p7∧OB 2004 g w 74 ((⟨x0,(x0).Hooks⟩:ChainChainBelt):ChainChainBelt) p7) (fun X33 k33 r8 h=>?_) ?_))
 ·refine Zr ?_
  refine Zf (Za (Zx (fPtr p7 2) (Zc at_74_1 rfl (OB.ptr b8)) rfl ?_))
  refine Ze .plain rfl (D_loadF (g:=g8) part_ChainChainBelt_1.1 Tryz.isAgg71 Tryz.sizeOf71 rfl b8 fun mC u9=>?_)
  obtain rfl:=Zj.1 u9
  obtain ⟨i6,v8,h⟩:=Gb h
  refine Ze .plain rfl (Zp (g:=g8) (vs:=[.int .i64 ((x0).Hooks)]) en23 (.cons rfl .nil) (wk23  v8) fun u3 yB qC hs hr=>?_)
  have hfr:=hfr.ext hs
  have q1:=q1.ext hs
  have o0:=o0.ext hs
  have b2:=b2.ext hs
  have b8:=b8.ext hs
  subst hr
  refine Zx (.bool (!i6)) (P_not rfl) rfl ?_
  refine Zg (.bool (!i6)) rfl rfl ?_
  refine Zb (Zd ?_)
  rcases Zt h with ⟨l5,h⟩ | ⟨l5,h⟩
  ·refine E_ct l5 rfl ?_
   refine Zf (Za (Ze .plain rfl (D_loadO (g:=u3) Tryz.isAgg74 Tryz.sizeOf74 rfl b8 fun y9 z9=>?_)))
   refine Ze .plain rfl (D_storeOc (g:=u3) (v:=y9) Tryz.sizeOf74 rfl b2 rfl z9 fun rC uC hs b40 cb=>?_)
   clear cb
   have hfr:=hfr.stp hs
   refine Zg (.int .i64 (3)) rfl rfl ?_
   refine Zb (Zd (E_ret (blk_r ?_)))
   refine thn_r ?_
   obtain rfl:=sinj h
   obtain ⟨ad41,cv41,hp41,x8,cr41⟩:=ob_read Tryz.isAgg74 Tryz.sizeOf74 b40
   exact endm_ct rfl rfl ((show _=p2 from rfl).trans hp41) x8 (show _=.int .i64 (3) from rfl) ⟨_,hfr,_,_,rfl,cr41,rfl⟩
  ·refine E_cf l5 rfl ?_
   refine Zf (Za (Zx (fPtr p1 1) (Zc at_36_1 rfl (PT.ptr q1)) rfl ?_))
   have bA:=Zm (part_ChainBelt_1).1 q1
   refine Ze .plain rfl (D_load (g:=u3) Tryz.isAgg34 Tryz.sizeOf34 rfl bA fun vC iA=>?_)
   refine Zx (.int .i64 (((x0).Cards).length:Int)) (P_len Tryz.underlying34 rfl iA) rfl ?_
   refine Zx (.bool ((decide ((((x0).Cards).length:Int) > (60:Int))))) (P_int rfl rfl rfl) rfl ?_
   refine Zx (.bool ((decide ((((x0).Cards).length:Int) > (60:Int))))) (P_assign rfl) rfl ?_
   refine Zb (Zd ?_)
   rcases Zt h with ⟨t5,h⟩ | ⟨t5,h⟩
   ·refine E_ct t5 rfl ?_
    refine Zf (Za (Ze .plain rfl (D_loadO (g:=u3) Tryz.isAgg74 Tryz.sizeOf74 rfl b8 fun rA yA=>?_)))
    refine Ze .plain rfl (D_storeOc (g:=u3) (v:=rA) Tryz.sizeOf74 rfl b2 rfl yA fun aD bD hs b46 cb=>?_)
    clear cb
    have hfr:=hfr.stp hs
    refine Zg (.int .i64 (5)) rfl rfl ?_
    refine Zb (Zd (E_ret (blk_r ?_)))
    refine thn_r ?_
    obtain rfl:=sinj h
    obtain ⟨ad47,cv47,hp47,a9,cr47⟩:=ob_read Tryz.isAgg74 Tryz.sizeOf74 b46
    exact endm_ct rfl rfl ((show _=p2 from rfl).trans hp47) a9 (show _=.int .i64 (5) from rfl) ⟨_,hfr,_,_,rfl,cr47,rfl⟩
   ·refine E_cf t5 rfl ?_
    refine Zf (Za (Zx (fPtr p7 2) (Zc at_74_1 rfl (OB.ptr b8)) rfl ?_))
    refine Ze .plain rfl (D_loadF (g:=u3) part_ChainChainBelt_1.1 Tryz.isAgg71 Tryz.sizeOf71 rfl b8 fun cD aB=>?_)
    obtain rfl:=Zj.1 aB
    refine Zx (fPtr p1 1) (Zc at_36_1 rfl (PT.ptr q1)) rfl ?_
    have dB:=Zm (part_ChainBelt_1).1 q1
    refine Ze .plain rfl (D_load (g:=u3) Tryz.isAgg34 Tryz.sizeOf34 rfl dB fun iB lB=>?_)
    obtain ⟨x6,d9,h⟩:=Gb h
    refine Ze .plain rfl (Zp (g:=u3) (vs:=[.int .i64 ((x0).Hooks),iB]) en45 (.cons rfl (.cons rfl .nil)) (wk45 lB d9) fun i7 zB eD hs hr=>?_)
    have hfr:=hfr.ext hs
    have o0:=o0.ext hs
    have b2:=b2.ext hs
    have b8:=b8.ext hs
    subst hr
    refine Zx (.bool (!x6)) (P_not rfl) rfl ?_
    refine Zg (.bool (!x6)) rfl rfl ?_
    refine Zb (Zd ?_)
    rcases Zt h with ⟨x5,h⟩ | ⟨x5,h⟩
    ·refine E_ct x5 rfl ?_
     refine Zf (Za (Ze .plain rfl (D_loadO (g:=i7) Tryz.isAgg74 Tryz.sizeOf74 rfl b8 fun mB nB=>?_)))
     refine Ze .plain rfl (D_storeOc (g:=i7) (v:=mB) Tryz.sizeOf74 rfl b2 rfl nB fun gD iD hs b56 cb=>?_)
     clear cb
     have hfr:=hfr.stp hs
     refine Zg (.int .i64 (2)) rfl rfl ?_
     refine Zb (Zd (E_ret (blk_r ?_)))
     refine thn_r ?_
     obtain rfl:=sinj h
     obtain ⟨ad57,cv57,hp57,k9,cr57⟩:=ob_read Tryz.isAgg74 Tryz.sizeOf74 b56
     exact endm_ct rfl rfl ((show _=p2 from rfl).trans hp57) k9 (show _=.int .i64 (2) from rfl) ⟨_,hfr,_,_,rfl,cr57,rfl⟩
    ·refine E_cf x5 rfl ?_
     exact Zu (blk_n (Zd (r8 ((⟨⟨0,[]⟩,0⟩:ChainChainBelt)) _ _ ⟨i7,hfr,rfl,b2,o0,rfl,b8⟩ h)))
 ·rintro m7 cC jD ⟨n8, hfr, y6, k8, u2_1_58, l8, m8⟩ h
  refine Zf (Za (Ze .plain rfl (D_loadO (g:=n8) Tryz.isAgg74 Tryz.sizeOf74 l8 m8 fun oB tB=>?_)))
  refine Ze .plain rfl (D_storeOc (g:=n8) (v:=oB) Tryz.sizeOf74 y6 k8 rfl tB fun lD nD hs b60 cb=>?_)
  clear cb
  have hfr:=hfr.stp hs
  refine Zg (.int .i64 (0)) rfl rfl ?_
  refine Zb (Zd (E_ret ?_))
  obtain rfl:=sinj h
  obtain ⟨ad61,cv61,hp61,l9,cr61⟩:=ob_read Tryz.isAgg74 Tryz.sizeOf74 b60
  exact endm_ct rfl rfl ((show _=p2 from y6).trans hp61) l9 (show _=.int .i64 (0) from rfl) ⟨_,hfr,_,_,rfl,cr61,rfl⟩
def f32 (x0:TieHarness) (x1:List Str):Option (Int):=
 jn (σ:=Unit) (fun _=>
  (f54 x1 ((((x0).Warps).length:Int))).bind fun u3=>
  some (u3)
  ) fun k6=>
 (f29 x0).bind fun y9=>
 bif (y9 != (0 : Int)) then
  some (y9)
 else
  k6 ()
theorem en32:Enters Tryz.prog 32:=enters_of Tryz.func32 (by kernel_rfl) rfl
theorem wk32 {gI:Gh} {wI:World} {x0:TieHarness} {x1:List Str} {up0:Value} (rp0:RV gI.m wI x0 up0) {up1:Value} (rp1:RV gI.m wI x1 up1) {r:Int} (h:f32 x0 x1=some r):Fn Tryz.prog 32 #[up0,up1] gI wI (fun _ _ v=>v=.int .i64 (r)):=by
 unfold f32 at h
 refine fn_of_E Tryz.func32 rfl (Nat.le_of_ble_eq_true rfl) fun g0 hm hfr=>?_
 have rp0:RV g0.m wI x0 up0:=hm ▸ rp0
 have rp1:RV g0.m wI x1 up1:=hm ▸ rp1
 show E _ 16 none _ _ _ _ _
 refine Zf (Za (Ze .plain rfl (D_box (g:=g0) rfl rp0 fun g1 w1 p1 hs q1=>?_)))
 have hfr:=hfr.ext hs
 have rp1:=rp1.ext hs
 refine Zg (.int .i64 (0)) rfl rfl ?_
 refine Zb (Zd (Zq h (fun (s:Unit) e w=>∃ (g:Gh) ,Fr gI wI g w∧e 1=up1∧RV g.m w (x1:List Str) up1∧e 2=p1∧PT g.m w (x0:TieHarness) p1) (fun X6 k6 hk6 h=>?_) ?_))
 ·refine Zf (Za (Ze .plain rfl (D_load (g := g1) Tryz.isAgg28 Tryz.sizeOf28 rfl q1 fun v7 r7 => ?_)))
  obtain ⟨y9,i7,h⟩:=Gb h
  refine Ze .plain rfl (Zp (g:=g1) (vs:=[v7]) en29 (.cons rfl .nil) (wk29 r7 i7) fun g8 w8_ v8 hs hr=>?_)
  have hfr:=hfr.ext hs
  have rp1:=rp1.ext hs
  have q1:=q1.ext hs
  subst hr
  refine Zg (.int .i64 (y9)) rfl rfl ?_
  refine Zb (Zd (Zf (Za (Zn (.int .i64 (y9)) rfl rfl ?_))))
  refine EL_in (.bool ((y9 != (0:Int)))) rfl rfl rfl rfl ?_
  refine Zb (Zd ?_)
  rcases Zt h with ⟨o0,h⟩ | ⟨o0,h⟩
  ·refine E_ct o0 rfl ?_
   refine Zf (Za (Zn (.int .i64 (y9)) rfl rfl ?_))
   refine Zg (.int .i64 (y9)) rfl rfl ?_
   refine Zb (Zd (E_ret (thn_r ?_)))
   obtain rfl:=sinj h
   exact end1 rfl rfl (show _=.int .i64 (y9) from rfl) ⟨_,hfr,rfl⟩
  ·refine E_cf o0 rfl ?_
   exact Zu (Zd (hk6 () _ _ ⟨g8,hfr,rfl,rp1,rfl,q1⟩ h))
 ·rintro _ l8 n8 ⟨x6, hfr, t5, x5, i6, l5⟩ h
  refine Zf (Za (Zo t5 rfl ?_))
  refine Zx (fPtr p1 1) (Zc at_28_1 i6 (PT.ptr l5)) rfl ?_
  have m7:=Zm (part_TieHarness_1).1 l5
  refine Ze .plain rfl (D_load (g:=x6) Tryz.isAgg26 Tryz.sizeOf26 rfl m7 fun r8 k8=>?_)
  refine Zx (.int .i64 (((x0).Warps).length:Int)) (P_len Tryz.underlying26 rfl k8) rfl ?_
  obtain ⟨u3,y6,h⟩:=Gb h
  refine Ze .plain rfl (Zp (g:=x6) (vs:=[up1,.int .i64 (((x0).Warps).length:Int)]) en54 (.cons rfl (.cons rfl .nil)) (wk54 x5 y6) fun x8 m8 a9 hs hr=>?_)
  have hfr:=hfr.ext hs
  subst hr
  refine Zg (.int .i64 (u3)) rfl rfl ?_
  refine Zb (Zd (E_ret ?_))
  obtain rfl:=sinj h
  exact end1 rfl rfl (show _=.int .i64 (u3) from rfl) ⟨_,hfr,rfl⟩
def f35 (x0:ChainBelt) (x1:List Int):Option (ChainCylinder × Int):=
 (f25 x0).bind fun y5=>
 jn (σ:=ChainCylinder) (fun y6=>
  some (y6,(0:Int))
  ) fun k8=>
 bif (y5.2 != (0 : Int)) then
  some ((⟨y5.1,x1⟩:ChainCylinder),y5.2)
 else
  bif (decide (((x1).length : Int) > (60 : Int))) then
   some ((⟨y5.1,x1⟩:ChainCylinder),(5:Int))
  else
   (f46 x1 ((fun a0=>f56 a0 (y5.1)))).bind fun m7=>
   bif m7 then
    some ((⟨y5.1,x1⟩:ChainCylinder),(2:Int))
   else
    k8 ((⟨y5.1,x1⟩:ChainCylinder))
theorem en35:Enters Tryz.prog 35:=enters_of Tryz.func35 (by kernel_rfl) rfl
theorem wk35 {gI:Gh} {wI:World} {x0:ChainBelt} {x1:List Int} {up0:Value} (rp0:RV gI.m wI x0 up0) {up1:Value} (rp1:RV gI.m wI x1 up1) {r:ChainCylinder × Int} (h:f35 x0 x1=some r):Fn Tryz.prog 35 #[up0,up1] gI wI (fun m w v=>∃ y0 y1,v=.tuple #[y0,y1]∧RV m w (r.1) y0∧y1=.int .i64 (r.2)):=by
 unfold f35 at h
 refine fn_of_E Tryz.func35 rfl (Nat.le_of_ble_eq_true rfl) fun g0 hm hfr=>?_
 have rp0:RV g0.m wI x0 up0:=hm ▸ rp0
 have rp1:RV g0.m wI x1 up1:=hm ▸ rp1
 show E _ 33 none _ _ _ _ _
 refine Zf (Za (Ze .plain rfl (D_box (g:=g0) rfl rp0 fun g1 w1 p1 hs q1=>?_)))
 have hfr:=hfr.ext hs
 have rp1:=rp1.ext hs
 refine Ze .plain rfl (D_allocOc (g:=g1) 2004 (⟨⟨⟨0,[]⟩,0⟩,[]⟩:ChainCylinder) Tryz.zeroValue90 (fun m w=>⟨_,(rep_two (rep_two (rep_two Zw rep_nil) Zw) rep_nil),rfl⟩) fun g2 w2 p2 hs b2 cb=>?_)
 have hfr:=hfr.stp hs
 have rp1:=rp1.stp hs
 have q1:=q1.stp hs
 have aB:OSF 2004 60401 1 g2 w2 62 90 ([]:List ChainCard) p2:=cb.osf (by rfl)
 have dB:OSF 2004 60403 3 g2 w2 3 90 ([]:List Int) p2:=cb.osf (by rfl)
 clear cb
 refine Zg (.int .i64 (0)) rfl rfl ?_
 refine Zb (Zd (Zf (Za (Ze .plain rfl (D_load (g:=g2) Tryz.isAgg36 Tryz.sizeOf36 rfl q1 fun v3 r3=>?_)))))
 obtain ⟨y5,hy5,h⟩:=Gb h
 refine Ze .plain rfl (Zp (g:=g2) (vs:=[v3]) en25 (.cons rfl .nil) (wk25 r3 hy5) fun g4 w4_ v4 hs hr=>?_)
 have hfr:=hfr.ext hs
 have rp1:=rp1.ext hs
 have b2:=b2.ext hs
 obtain ⟨l5,iB,rfl,t5,rfl⟩:=hr
 refine Zn (.tuple #[l5,.int .i64 (y5.2)]) rfl rfl ?_
 refine Zx l5 (Zi rfl rfl) rfl ?_
 refine Zx (.int .i64 (y5.2)) (Zi rfl rfl) rfl ?_
 refine Ze .plain rfl (D_allocOc (g:=g4) 2006 (⟨⟨0,[]⟩,0⟩:ChainChainBelt) Tryz.zeroValue74 (fun m w=>⟨_,(rep_two (rep_two Zw rep_nil) Zw),rfl⟩) fun g6 w6 p6 hs b6 cb=>?_)
 have hfr:=hfr.stp hs
 have rp1:=rp1.stp hs
 have b2:=b2.stp hs rfl
 have t5:=t5.stp hs
 have lB:OSF 2006 60601 1 g6 w6 62 74 ([]:List ChainCard) p6:=cb.osf (by rfl)
 clear cb
 refine Ze .plain rfl (D_storeOc (g:=g6) (v:=l5) Tryz.sizeOf74 rfl b6 rfl t5 fun g7 w7 hs b7 cb=>?_)
 clear cb
 have hfr:=hfr.stp hs
 have rp1:=rp1.stp hs
 have b2:=b2.stp hs rfl
 obtain ⟨gp7,hs,qp7⟩:=OB.pub b7
 have hfr:=hfr.stp hs
 have rp1:=rp1.stp hs
 have b2:=b2.stp hs rfl
 refine Zg (.int .i64 (y5.2)) rfl rfl ?_
 refine Zb (Zd (Zf (Za (Ze .plain rfl (D_load (g:=gp7) Tryz.isAgg74 Tryz.sizeOf74 rfl qp7 fun v8 r8=>?_)))))
 refine Zn up1 rfl rfl ?_
 have r9:RV gp7.m _ (⟨y5.1,x1⟩:ChainCylinder) (.agg (setCh [[.int .i64 0,.slice none 0 0,.int .i64 0],[.slice none 0 0]] [(0,v8),(1,up1)]).flatten.toArray):=RV_build rfl (rep_pair (RV.cells r8) (rep_last (RV.cells rp1)))
 generalize l9:(Value.agg (setCh [[.int .i64 0,.slice none 0 0,.int .i64 0],[.slice none 0 0]] [(0,v8),(1,up1)]).flatten.toArray)=v9 at r9
 refine Zx v9 (l9 ▸ P_build (vs:=[(0,v8),(1,up1)]) [[.int .i64 0,.slice none 0 0,.int .i64 0],[.slice none 0 0]] lay_90 rfl rfl (.cons rfl (.cons rfl .nil)) ⟨⟨_,rfl,cells_size r8⟩,⟨⟨_,rfl,cells_size rp1⟩,trivial⟩⟩) rfl ?_
 refine Ze .plain rfl (D_storeOc (g:=gp7) (v:=v9) Tryz.sizeOf90 rfl b2 rfl r9 fun u3 oB hs b10 cb=>?_)
 clear cb
 have hfr:=hfr.stp hs
 have rp1:=rp1.stp hs
 have qp7:=qp7.stp hs
 refine Zb (Zd (Zf (Za (Zx ((.func (.func 56) #[] #[p6])) (P_makeFunc (capf_0_1 (show ev _ _=p6 from rfl))) rfl ?_))))
 refine Zg ((.func (.func 56) #[] #[p6])) rfl rfl ?_
 refine Zb (Zd (Zq h (fun (s:ChainCylinder) e w=>∃ (g:Gh) ,Fr gI wI g w∧e 4=p2∧OB 2004 g w 90 (s:ChainCylinder) p2) (fun X25 k8 m8 h=>?_) ?_))
 ·refine Zr ?_
  refine Zf (Za (Zn (.int .i64 (y5.2)) rfl rfl ?_))
  refine EL_in (.bool ((y5.2 != (0:Int)))) rfl rfl rfl rfl ?_
  refine Zg (.bool ((y5.2 != (0:Int)))) rfl rfl ?_
  refine Zb (Zd ?_)
  rcases Zt h with ⟨x5,h⟩ | ⟨x5,h⟩
  ·refine E_ct x5 rfl ?_
   refine Zf (Za (Ze .plain rfl (D_loadO (g:=u3) Tryz.isAgg90 Tryz.sizeOf90 rfl b10 fun n9 u9=>?_)))
   refine Zn (.int .i64 (y5.2)) rfl rfl ?_
   refine Ze .plain rfl (D_storeOc (g:=u3) (v:=n9) Tryz.sizeOf90 rfl b10 rfl u9 fun tB vB hs b28 cb=>?_)
   clear cb
   have hfr:=hfr.stp hs
   refine Zg (.int .i64 (y5.2)) rfl rfl ?_
   refine Zb (Zd (E_ret (blk_r ?_)))
   refine thn_r ?_
   obtain rfl:=sinj h
   obtain ⟨ad29,cv29,hp29,n8,cr29⟩:=ob_read Tryz.isAgg90 Tryz.sizeOf90 b28
   exact endm_ct rfl rfl ((show _=p2 from rfl).trans hp29) n8 (show _=.int .i64 (y5.2) from rfl) ⟨_,hfr,_,_,rfl,cr29,rfl⟩
  ·refine E_cf x5 rfl ?_
   refine Zf (Za (Zn up1 rfl rfl ?_))
   refine Zx (.int .i64 ((x1).length:Int)) (P_len Tryz.underlying26 rfl rp1) rfl ?_
   refine EL_in (.bool ((decide (((x1).length:Int) > (60:Int))))) rfl rfl rfl rfl ?_
   refine Zg (.bool ((decide (((x1).length:Int) > (60:Int))))) rfl rfl ?_
   refine Zb (Zd ?_)
   rcases Zt h with ⟨i6,h⟩ | ⟨i6,h⟩
   ·refine E_ct i6 rfl ?_
    refine Zf (Za (Ze .plain rfl (D_loadO (g:=u3) Tryz.isAgg90 Tryz.sizeOf90 rfl b10 fun y9 z9=>?_)))
    refine Ze .plain rfl (D_storeOc (g:=u3) (v:=y9) Tryz.sizeOf90 rfl b10 rfl z9 fun yB zB hs b32 cb=>?_)
    clear cb
    have hfr:=hfr.stp hs
    refine Zg (.int .i64 (5)) rfl rfl ?_
    refine Zb (Zd (E_ret (blk_r ?_)))
    refine thn_r ?_
    obtain rfl:=sinj h
    obtain ⟨ad33,cv33,hp33,x8,cr33⟩:=ob_read Tryz.isAgg90 Tryz.sizeOf90 b32
    exact endm_ct rfl rfl ((show _=p2 from rfl).trans hp33) x8 (show _=.int .i64 (5) from rfl) ⟨_,hfr,_,_,rfl,cr33,rfl⟩
   ·refine E_cf i6 rfl ?_
    refine Zf (Za (Zn up1 rfl rfl ?_))
    refine Zn ((.func (.func 56) #[] #[p6])) rfl rfl ?_
    obtain ⟨m7,a9,h⟩:=Gb h
    refine Ze .plain rfl (Zp (g:=u3) (vs:=[up1,(.func (.func 56) #[] #[p6])]) en46 (.cons rfl (.cons rfl .nil)) (wk46 rp1 ⟨56,#[],#[p6],rfl,en56,fun g' w' hch a0 b0 r hu0 hr=>by obtain rfl:=Zj.1 hu0; exact Fn.mono (wk56  (qp7.ch hch) hr) fun _ _ _ h=>RV_bool.2 h⟩ a9) fun g8 mB cC hs hr=>?_)
    have hfr:=hfr.ext hs
    have b10:=b10.ext hs
    subst hr
    refine Zg (.bool (m7)) rfl rfl ?_
    refine Zb (Zd ?_)
    rcases Zt h with ⟨x6,h⟩ | ⟨x6,h⟩
    ·refine E_ct x6 rfl ?_
     refine Zf (Za (Ze .plain rfl (D_loadO (g:=g8) Tryz.isAgg90 Tryz.sizeOf90 rfl b10 fun bA iA=>?_)))
     refine Ze .plain rfl (D_storeOc (g:=g8) (v:=bA) Tryz.sizeOf90 rfl b10 rfl iA fun mC qC hs b38 cb=>?_)
     clear cb
     have hfr:=hfr.stp hs
     refine Zg (.int .i64 (2)) rfl rfl ?_
     refine Zb (Zd (E_ret (blk_r ?_)))
     refine thn_r ?_
     obtain rfl:=sinj h
     obtain ⟨ad39,cv39,hp39,d9,cr39⟩:=ob_read Tryz.isAgg90 Tryz.sizeOf90 b38
     exact endm_ct rfl rfl ((show _=p2 from rfl).trans hp39) d9 (show _=.int .i64 (2) from rfl) ⟨_,hfr,_,_,rfl,cr39,rfl⟩
    ·refine E_cf x6 rfl ?_
     exact Zu (blk_n (Zd (m8 ((⟨y5.1,x1⟩:ChainCylinder)) _ _ ⟨g8,hfr,rfl,b10⟩ h)))
 ·rintro y6 nB rC ⟨l8, hfr, o0, i7⟩ h
  refine Zf (Za (Ze .plain rfl (D_loadO (g:=l8) Tryz.isAgg90 Tryz.sizeOf90 o0 i7 fun rA yA=>?_)))
  refine Ze .plain rfl (D_storeOc (g:=l8) (v:=rA) Tryz.sizeOf90 o0 i7 rfl yA fun uC vC hs b42 cb=>?_)
  clear cb
  have hfr:=hfr.stp hs
  refine Zg (.int .i64 (0)) rfl rfl ?_
  refine Zb (Zd (E_ret ?_))
  obtain rfl:=sinj h
  obtain ⟨ad43,cv43,hp43,k9,cr43⟩:=ob_read Tryz.isAgg90 Tryz.sizeOf90 b42
  exact endm_ct rfl rfl ((show _=p2 from o0).trans hp43) k9 (show _=.int .i64 (0) from rfl) ⟨_,hfr,_,_,rfl,cr43,rfl⟩
def f11 (x0:ChainBelt) (x1:Int) (x2:List Int):Option ((List Int) × Int × Int):=
 (f25 x0).bind fun y4=>
 jn (σ:=(List Int)) (fun y9=>
  Option.bind (α:=(List Int) × Int) (
   lp (σ:=(List Int) × Int × Int) (fun sD (k8,t5,u3)=>
    bif (decide (u3 < ((x2).length : Int))) then
     Option.bind (α:=(List Int) × Int) (
      (idx x2 u3).bind fun n8=>
      (f27 (y4.1) t5).bind fun y80=>
      (apnd 8 k8 (([y80]:List Int))).bind fun tD=>
      (f28 (y4.1) t5 n8).bind fun dB=>
      some (tD,dB)
      ) fun (x6,i7)=>
     sD (x6,i7,(w64 (u3 + (1:Int))))
    else
     some (k8,t5)
    ) big (y9,x1,(0:Int))
   ) fun (m7,y6)=>
  some (m7,y6,(0:Int))
  ) fun k18=>
 bif (y4.2 != (0 : Int)) then
  some ([],(0:Int),y4.2)
 else
  (f26 ((0:Int)) ((w64 ((((x0).Cards).length:Int) - (1:Int)))) (([x1]:List Int))).bind fun z9=>
  bif (!z9) then
   some ([],(0:Int),(7:Int))
  else
   bif (decide (((x2).length : Int) > (60 : Int))) then
    some ([],(0:Int),(5:Int))
   else
    (f26 ((0:Int)) ((2:Int)) x2).bind fun bA=>
    bif (!bA) then
     some ([],(0:Int),(2:Int))
    else
     k18 ([])
theorem en11:Enters Tryz.prog 11:=enters_of Tryz.func11 (by kernel_rfl) rfl
theorem wk11 {gI:Gh} {wI:World} {x0:ChainBelt} {x1:Int} {x2:List Int} {up0:Value} (rp0:RV gI.m wI x0 up0) {up2:Value} (rp2:RV gI.m wI x2 up2) {r:(List Int) × Int × Int} (h:f11 x0 x1 x2=some r):Fn Tryz.prog 11 #[up0,.int .i64 (x1),up2] gI wI (fun m w v=>∃ y0 y1 y2,v=.tuple #[y0,y1,y2]∧RV m w (r.1) y0∧y1=.int .i64 (r.2.1)∧y2=.int .i64 (r.2.2)):=by
 unfold f11 at h
 refine fn_of_E Tryz.func11 rfl (Nat.le_of_ble_eq_true rfl) fun g0 hm hfr=>?_
 have rp0:RV g0.m wI x0 up0:=hm ▸ rp0
 have rp2:RV g0.m wI x2 up2:=hm ▸ rp2
 show E _ 58 none _ _ _ _ _
 refine Zf (Za (Ze .plain rfl (D_box (g:=g0) rfl rp0 fun g1 w1 p1 hs q1=>?_)))
 have hfr:=hfr.ext hs
 have rp2:=rp2.ext hs
 refine Zg (.slice none 0 0) rfl rfl ?_
 refine Zg (.int .i64 (0)) rfl rfl ?_
 refine Zg (.int .i64 (0)) rfl rfl ?_
 refine Zb (Zd (Zf (Za (Ze .plain rfl (D_load (g:=g1) Tryz.isAgg36 Tryz.sizeOf36 rfl q1 fun v2 r2=>?_)))))
 obtain ⟨y4,mE,h⟩:=Gb h
 refine Ze .plain rfl (Zp (g:=g1) (vs:=[v2]) en25 (.cons rfl .nil) (wk25 r2 mE) fun g3 w3_ v3 hs hr=>?_)
 have hfr:=hfr.ext hs
 have rp2:=rp2.ext hs
 have q1:=q1.ext hs
 obtain ⟨x8,cG,rfl,a9,rfl⟩:=hr
 refine Zn (.tuple #[x8,.int .i64 (y4.2)]) rfl rfl ?_
 refine Zx x8 (Zi rfl rfl) rfl ?_
 refine Zx (.int .i64 (y4.2)) (Zi rfl rfl) rfl ?_
 refine Ze .plain rfl (D_allocOc (g:=g3) 2009 (⟨⟨0,[]⟩,0⟩:ChainChainBelt) Tryz.zeroValue74 (fun m w=>⟨_,(rep_two (rep_two Zw rep_nil) Zw),rfl⟩) fun g5 w5 p5 hs b5 cb=>?_)
 have hfr:=hfr.stp hs
 have rp2:=rp2.stp hs
 have q1:=q1.stp hs
 have a9:=a9.stp hs
 have eG:OSF 2009 60901 1 g5 w5 62 74 ([]:List ChainCard) p5:=cb.osf (by rfl)
 clear cb
 refine Ze .plain rfl (D_storeOc (g:=g5) (v:=x8) Tryz.sizeOf74 rfl b5 rfl a9 fun g6 w6 hs b6 cb=>?_)
 clear cb
 have hfr:=hfr.stp hs
 have rp2:=rp2.stp hs
 have q1:=q1.stp hs
 refine Zg (.int .i64 (y4.2)) rfl rfl ?_
 refine Zb (Zd (Zq h (fun (s:(List Int)) e w=>∃ (g:Gh) (v6:Value),Fr gI wI g w∧e 1=.int .i64 (x1)∧e 2=up2∧RV g.m w (x2:List Int) up2∧e 6=v6∧RV g.m w (s:List Int) v6∧OS 1006 g w 3 (s:List Int) v6∧e 9=p5∧OB 2009 g w 74 (y4.1:ChainChainBelt) p5) (fun X18 k18 xD h=>?_) ?_))
 ·refine Zr ?_
  refine Zf (Za (Zn (.int .i64 (y4.2)) rfl rfl ?_))
  refine EL_in (.bool ((y4.2 != (0:Int)))) rfl rfl rfl rfl ?_
  refine Zg (.bool ((y4.2 != (0:Int)))) rfl rfl ?_
  refine Zb (Zd ?_)
  rcases Zt h with ⟨d9,h⟩ | ⟨d9,h⟩
  ·refine E_ct d9 rfl ?_
   refine Zf (Za (Zn (.int .i64 (y4.2)) rfl rfl ?_))
   refine Zg (.slice none 0 0) rfl rfl ?_
   refine Zg (.int .i64 (0)) rfl rfl ?_
   refine Zg (.int .i64 (y4.2)) rfl rfl ?_
   refine Zb (Zd (E_ret (blk_r ?_)))
   refine thn_r ?_
   obtain rfl:=sinj h
   exact end3 rfl rfl (show _=.slice none 0 0 from rfl) (show _=.int .i64 (0) from rfl) (show _=.int .i64 (y4.2) from rfl) ⟨_,hfr,_,_,_,rfl,RV_nil,rfl,rfl⟩
  ·refine E_cf d9 rfl ?_
   refine Zf (Za (Zx (fPtr p1 1) (Zc at_36_1 rfl (PT.ptr q1)) rfl ?_))
   have oE:=Zm (part_ChainBelt_1).1 q1
   refine Ze .plain rfl (D_load (g:=g6) Tryz.isAgg34 Tryz.sizeOf34 rfl oE fun xG rE=>?_)
   refine Zx (.int .i64 (((x0).Cards).length:Int)) (P_len Tryz.underlying34 rfl rE) rfl ?_
   refine Zx (.int .i64 ((w64 ((((x0).Cards).length:Int) - (1:Int))))) (P_int rfl rfl rfl) rfl ?_
   refine Zn (.int .i64 (x1)) rfl rfl ?_
   refine Ze .plain rfl (D_buildSlice (g:=g6) 3027 (xs:=([x1]:List Int)) (vs:=[.int .i64 (x1)]) Tryz.underlying26 Tryz.sizeOf3 Tryz.zeroValue3 rfl rfl (.cons rfl .nil) (RVs.cons (Zj.2 rfl) RVs.nil) rfl rfl fun uE yG vE hs o22 xE hxt hfl=>?_)
   have hfr:=hfr.stp hs
   have rp2:=rp2.stp hs
   have b6:=b6.stp hs rfl
   obtain ⟨z9,yD,h⟩:=Gb h
   refine Ze .plain rfl (Zp (g:=uE) (vs:=[.int .i64 (0),.int .i64 ((w64 ((((x0).Cards).length:Int) - (1:Int)))),vE]) en26 (.cons rfl (.cons rfl (.cons rfl .nil))) (wk26 xE yD) fun yE gG zG hs hr=>?_)
   have hfr:=hfr.ext hs
   have rp2:=rp2.ext hs
   have b6:=b6.ext hs
   subst hr
   refine Zx (.bool (!z9)) (P_not rfl) rfl ?_
   refine Zg (.bool (!z9)) rfl rfl ?_
   refine Zb (Zd ?_)
   rcases Zt h with ⟨k9,h⟩ | ⟨k9,h⟩
   ·refine E_ct k9 rfl ?_
    refine Zf (Za (Zg (.slice none 0 0) rfl rfl ?_))
    refine Zg (.int .i64 (0)) rfl rfl ?_
    refine Zg (.int .i64 (7)) rfl rfl ?_
    refine Zb (Zd (E_ret (blk_r ?_)))
    refine thn_r ?_
    obtain rfl:=sinj h
    exact end3 rfl rfl (show _=.slice none 0 0 from rfl) (show _=.int .i64 (0) from rfl) (show _=.int .i64 (7) from rfl) ⟨_,hfr,_,_,_,rfl,RV_nil,rfl,rfl⟩
   ·refine E_cf k9 rfl ?_
    refine Zf (Za (Zn up2 rfl rfl ?_))
    refine Zx (.int .i64 ((x2).length:Int)) (P_len Tryz.underlying26 rfl rp2) rfl ?_
    refine EL_in (.bool ((decide (((x2).length:Int) > (60:Int))))) rfl rfl rfl rfl ?_
    refine Zg (.bool ((decide (((x2).length:Int) > (60:Int))))) rfl rfl ?_
    refine Zb (Zd ?_)
    rcases Zt h with ⟨l9,h⟩ | ⟨l9,h⟩
    ·refine E_ct l9 rfl ?_
     refine Zf (Za (Zg (.slice none 0 0) rfl rfl ?_))
     refine Zg (.int .i64 (0)) rfl rfl ?_
     refine Zg (.int .i64 (5)) rfl rfl ?_
     refine Zb (Zd (E_ret (blk_r ?_)))
     refine thn_r ?_
     obtain rfl:=sinj h
     exact end3 rfl rfl (show _=.slice none 0 0 from rfl) (show _=.int .i64 (0) from rfl) (show _=.int .i64 (5) from rfl) ⟨_,hfr,_,_,_,rfl,RV_nil,rfl,rfl⟩
    ·refine E_cf l9 rfl ?_
     refine Zf (Za (Zn up2 rfl rfl ?_))
     obtain ⟨bA,zD,h⟩:=Gb h
     refine Ze .plain rfl (Zp (g:=yE) (vs:=[.int .i64 (0),.int .i64 (2),up2]) en26 (.cons rfl (.cons rfl (.cons rfl .nil))) (wk26 rp2 zD) fun zE hG aH hs hr=>?_)
     have hfr:=hfr.ext hs
     have rp2:=rp2.ext hs
     have b6:=b6.ext hs
     subst hr
     refine Zx (.bool (!bA)) (P_not rfl) rfl ?_
     refine Zg (.bool (!bA)) rfl rfl ?_
     refine Zb (Zd ?_)
     rcases Zt h with ⟨n9,h⟩ | ⟨n9,h⟩
     ·refine E_ct n9 rfl ?_
      refine Zf (Za (Zg (.slice none 0 0) rfl rfl ?_))
      refine Zg (.int .i64 (0)) rfl rfl ?_
      refine Zg (.int .i64 (2)) rfl rfl ?_
      refine Zb (Zd (E_ret (blk_r ?_)))
      refine thn_r ?_
      obtain rfl:=sinj h
      exact end3 rfl rfl (show _=.slice none 0 0 from rfl) (show _=.int .i64 (0) from rfl) (show _=.int .i64 (2) from rfl) ⟨_,hfr,_,_,_,rfl,RV_nil,rfl,rfl⟩
     ·refine E_cf n9 rfl ?_
      exact Zu (blk_n (Zd (xD ([]) _ _ ⟨zE,(.slice none 0 0),hfr,rfl,rfl,rp2,rfl,RV_nil,OS.nil,rfl,b6⟩ h)))
 ·rintro y9 iG cH ⟨cF, vB, hfr, yB, zB, iA, cC, mC, qC, rC, uC⟩ h
  refine Zf (Za (Zo yB rfl ?_))
  refine Zg (.int .i64 (x1)) rfl rfl ?_
  refine Zb (Zd ?_)
  obtain ⟨⟨m7,y6⟩,hx,h⟩:=Gb h
  refine E_join (fun e w=>∃ (g:Gh) (v6:Value),Fr gI wI g w∧e 6=v6∧RV g.m w (m7:List Int) v6∧OS 1006 g w 3 (m7:List Int) v6∧e 7=.int .i64 (y6)) (fun Q' hQ=>?_) (fun jG dH hR=>?_)
  ·replace h := hx
   clear hx
   refine Zf (Za (Zo zB rfl ?_))
   refine Zx (.int .i64 ((x2).length:Int)) (P_len Tryz.underlying26 rfl iA) rfl ?_
   refine Zn (.int .i64 (0)) rfl rfl ?_
   refine Zb (Zd (Zr ?_))
   refine E_lp h (fun (s:(List Int) × Int × Int) e w=>∃ (g:Gh) (v6:Value),Fr gI wI g w∧e 6=v6∧RV g.m w (s.1:List Int) v6∧OS 1006 g w 3 (s.1:List Int) v6∧e 7=.int .i64 (s.2.1)∧e 9=p5∧OB 2009 g w 74 (y4.1:ChainChainBelt) p5∧e 39=up2∧RV g.m w (x2:List Int) up2∧e 40=.int .i64 (((x2).length:Int))∧e 41=.int .i64 (s.2.2)) ⟨cF,(vB),hfr,cC,mC,qC,rfl,rC,uC,rfl,iA,rfl,rfl⟩ (fun X59 sD aE=>?_)
   rintro ⟨k8,t5,u3⟩ kG gH ⟨rA,vC,hfr,yA,x5,i6,l8,m8,l5,r8,o0,v8,g8⟩ h
   refine Zf (Za (EL_in (.bool ((decide (u3 < ((x2).length:Int))))) g8 v8 rfl rfl ?_))
   refine Zb (Zd (Zf ?_))
   rcases Zt h with ⟨u9,h⟩ | ⟨u9,h⟩
   ·refine E_ct u9 rfl ?_
    refine Zu (Zd ?_)
    obtain ⟨⟨x6,i7⟩,hx,h⟩:=Gb h
    refine E_join (fun e w=>∃ (g:Gh) (v6:Value),Fr gI wI g w∧e 6=v6∧RV g.m w (x6:List Int) v6∧OS 1006 g w 3 (x6:List Int) v6∧e 7=.int .i64 (i7)∧e 9=p5∧OB 2009 g w 74 (y4.1:ChainChainBelt) p5∧e 39=up2∧RV g.m w (x2:List Int) up2∧e 40=.int .i64 (((x2).length:Int))∧e 41=.int .i64 (u3)) (fun Q' hQ=>?_) (fun lG iH hR=>?_)
    ·replace h := hx
     clear hx
     refine Zr ?_
     refine Zf (Za ?_)
     obtain ⟨n8,iB,h⟩:=Gb h
     refine Zx (ePtr up2 u3 1) (Zh (α:=Int) Tryz.underlying26 Tryz.sizeOf3 r8 o0 g8 iB) rfl ?_
     have dF:=PT_idx o0 iB
     refine Ze .plain rfl (D_load (g:=rA) Tryz.isAgg3 Tryz.sizeOf3 rfl dF fun jH eF=>?_)
     obtain rfl:=Zj.1 eF
     refine Zg (.int .i64 (n8)) rfl rfl ?_
     refine Zb (Zd (Zf (Za (Zo yA rfl ?_))))
     refine Ze .plain rfl (D_loadO (g:=rA) Tryz.isAgg74 Tryz.sizeOf74 m8 l5 fun rF sF=>?_)
     refine Zo l8 rfl ?_
     obtain ⟨y80,bE,h⟩:=Gb h
     refine Ze .plain rfl (Zp (g:=rA) (vs:=[rF,.int .i64 (t5)]) en27 (.cons rfl (.cons rfl .nil)) (wk27 sF bE) fun tF mG kH hs hr=>?_)
     have hfr:=hfr.ext hs
     have x5:=x5.ext hs
     have i6:=i6.ext hs
     have l5:=l5.ext hs
     have o0:=o0.ext hs
     subst hr
     refine Ze .plain rfl (D_buildSlice (g:=tF) 3049 (xs:=([y80]:List Int)) (vs:=[.int .i64 (y80)]) Tryz.underlying26 Tryz.sizeOf3 Tryz.zeroValue3 rfl rfl (.cons rfl .nil) (RVs.cons (Zj.2 rfl) RVs.nil) rfl rfl fun uF lH mH hs o81 vF hxt hfl=>?_)
     have hfr:=hfr.stp hs
     have x5:=x5.stp hs
     have i6:=i6.stp hs rfl
     have l5:=l5.stp hs rfl
     have o0:=o0.stp hs
     obtain ⟨tD,iE,h⟩:=Gb h
     refine Ze .plain rfl (D_append (g:=uF) (i:=1006) Tryz.underlying26 info_3 rfl rfl i6 x5 rfl vF iE fun uD nH vD hs o82 lB _=>?_)
     have hfr:=hfr.stp hs
     have l5:=l5.stp hs rfl
     have o0:=o0.stp hs
     refine Zg vD rfl rfl ?_
     refine Zb (Zd (Za (Ze .plain rfl (D_loadO (g:=uD) Tryz.isAgg74 Tryz.sizeOf74 m8 l5 fun xF yF=>?_))))
     refine Zo l8 rfl ?_
     refine Zn (.int .i64 (n8)) rfl rfl ?_
     obtain ⟨dB,lE,h⟩:=Gb h
     refine Ze .plain rfl (Zp (g:=uD) (vs:=[xF,.int .i64 (t5),.int .i64 (n8)]) en28 (.cons rfl (.cons rfl (.cons rfl .nil))) (wk28 yF lE) fun zF sG oH hs hr=>?_)
     have hfr:=hfr.ext hs
     have lB:=lB.ext hs
     have o82:=o82.ext hs
     have l5:=l5.ext hs
     have o0:=o0.ext hs
     subst hr
     refine Zg (.int .i64 (dB)) rfl rfl ?_
     refine Zb (blk_n ?_)
     obtain ⟨rfl,rfl⟩:=pairs2 h
     exact hQ _ _ ⟨zF,(vD),hfr,rfl,lB,o82,rfl,m8,l5,r8,o0,v8,g8⟩
    ·clear hx
     obtain ⟨aG,aD,hfr,bD,cD,eD,gD,iD,jD,mB,nB,oB,tB⟩:=hR
     refine Za (EL_in (.int .i64 ((w64 (u3 + (1:Int))))) tB rfl rfl rfl ?_)
     refine Zn (.int .i64 ((w64 (u3 + (1:Int))))) rfl rfl ?_
     exact Zb (Zd (aE (x6,i7,(w64 (u3 + (1:Int)))) _ _ ⟨aG,(aD),hfr,bD,cD,eD,gD,iD,jD,mB,nB,oB,rfl⟩ h))
   ·refine E_cf u9 rfl ?_
    refine E_exit ?_
    refine thn_e ?_
    refine thn_e ?_
    refine blk_hit ?_
    obtain ⟨rfl,rfl⟩:=pairs2 h
    exact hQ _ _ ⟨rA,(vC),hfr,yA,x5,i6,l8⟩
  ·clear hx
   obtain ⟨pH,aB,hfr,lD,nD,bG,oD⟩:=hR
   refine Zf (Za (Zo lD rfl ?_))
   refine Zo oD rfl ?_
   refine Zg aB rfl rfl ?_
   refine Zg (.int .i64 (y6)) rfl rfl ?_
   refine Zg (.int .i64 (0)) rfl rfl ?_
   refine Zb (Zd (E_ret ?_))
   obtain rfl:=sinj h
   exact end3 rfl rfl (show _=aB from rfl) (show _=.int .i64 (y6) from rfl) (show _=.int .i64 (0) from rfl) ⟨_,hfr,_,_,_,rfl,nD,rfl,rfl⟩
def f16 (x0:TieHarness) (x1:List Str):Option (Design × Int):=
 jn (σ:=Design) (fun t5=>
  jn (σ:=Design) (fun k9=>
   (f34 ((⟨x0⟩:TieTieHarness)) x1).bind fun y40=>
   some (y40,(0:Int))
   ) fun z9=>
  (f33 ((⟨x0⟩:TieTieHarness)) x1).bind fun o0=>
  bif o0.2.2.2 then
   some (t5,(9:Int))
  else
   z9 (t5)
  ) fun bA=>
 (f32 x0 x1).bind fun u3=>
 bif (u3 != (0 : Int)) then
  some ((⟨0,[]⟩:Design),u3)
 else
  bA ((⟨0,[]⟩:Design))
theorem en16:Enters Tryz.prog 16:=enters_of Tryz.func16 (by kernel_rfl) rfl
theorem wk16 {gI:Gh} {wI:World} {x0:TieHarness} {x1:List Str} {up0:Value} (rp0:RV gI.m wI x0 up0) {up1:Value} (rp1:RV gI.m wI x1 up1) {r:Design × Int} (h:f16 x0 x1=some r):Fn Tryz.prog 16 #[up0,up1] gI wI (fun m w v=>∃ y0 y1,v=.tuple #[y0,y1]∧RV m w (r.1) y0∧y1=.int .i64 (r.2)):=by
 unfold f16 at h
 refine fn_of_E Tryz.func16 rfl (Nat.le_of_ble_eq_true rfl) fun g0 hm hfr=>?_
 have rp0:RV g0.m wI x0 up0:=hm ▸ rp0
 have rp1:RV g0.m wI x1 up1:=hm ▸ rp1
 show E _ 33 none _ _ _ _ _
 refine Zf (Za (Ze .plain rfl (D_box (g:=g0) rfl rp0 fun g1 w1 p1 hs q1=>?_)))
 have hfr:=hfr.ext hs
 have rp1:=rp1.ext hs
 refine Ze .plain rfl (D_allocOc (g:=g1) 2004 (⟨0,[]⟩:Design) Tryz.zeroValue31 (fun m w=>⟨_,(rep_two Zw rep_nil),rfl⟩) fun g2 w2 p2 hs b2 cb=>?_)
 have hfr:=hfr.stp hs
 have rp1:=rp1.stp hs
 have q1:=q1.stp hs
 have i7:OSF 2004 60401 1 g2 w2 3 31 ([]:List Int) p2:=cb.osf (by rfl)
 clear cb
 refine Zg (.int .i64 (0)) rfl rfl ?_
 refine Zb (Zd (Zq h (fun (s:Design) e w=>∃ (g:Gh) ,Fr gI wI g w∧e 1=up1∧RV g.m w (x1:List Str) up1∧e 2=p1∧PT g.m w (x0:TieHarness) p1∧e 4=p2∧OB 2004 g w 31 (s:Design) p2∧OSF 2004 60401 1 g w 3 31 ((s).Rows) p2) (fun X10 bA lB h=>?_) ?_))
 ·refine Zf (Za (Ze .plain rfl (D_load (g := g2) Tryz.isAgg28 Tryz.sizeOf28 rfl q1 fun qC rC => ?_)))
  refine Zn up1 rfl rfl ?_
  obtain ⟨u3,mB,h⟩:=Gb h
  refine Ze .plain rfl (Zp (g:=g2) (vs:=[qC,up1]) en32 (.cons rfl (.cons rfl .nil)) (wk32 rC rp1 mB) fun n8 oD xD hs hr=>?_)
  have hfr:=hfr.ext hs
  have rp1:=rp1.ext hs
  have q1:=q1.ext hs
  have i7:=i7.ext hs
  have b2:=b2.ext hs
  subst hr
  refine Zg (.int .i64 (u3)) rfl rfl ?_
  refine Zb (Zd (Zf (Za (Zn (.int .i64 (u3)) rfl rfl ?_))))
  refine EL_in (.bool ((u3 != (0:Int)))) rfl rfl rfl rfl ?_
  refine Zb (Zd ?_)
  rcases Zt h with ⟨m7,h⟩ | ⟨m7,h⟩
  ·refine E_ct m7 rfl ?_
   refine Zf (Za (Ze .plain rfl (D_loadO (g:=n8) Tryz.isAgg31 Tryz.sizeOf31 rfl b2 fun uC vC=>?_)))
   refine Zn (.int .i64 (u3)) rfl rfl ?_
   refine Ze .plain rfl (D_storeOc (g:=n8) (v:=uC) Tryz.sizeOf31 rfl b2 rfl vC fun yD zD hs b16 cb=>?_)
   clear cb
   have hfr:=hfr.stp hs
   refine Zg (.int .i64 (u3)) rfl rfl ?_
   refine Zb (Zd (E_ret (thn_r ?_)))
   obtain rfl:=sinj h
   obtain ⟨ad17,cv17,hp17,nB,cr17⟩:=ob_read Tryz.isAgg31 Tryz.sizeOf31 b16
   exact endm_ct rfl rfl ((show _=p2 from rfl).trans hp17) nB (show _=.int .i64 (u3) from rfl) ⟨_,hfr,_,_,rfl,cr17,rfl⟩
  ·refine E_cf m7 rfl ?_
   exact Zu (Zd (lB ((⟨0,[]⟩:Design)) _ _ ⟨n8,hfr,rfl,rp1,rfl,q1,rfl,b2,i7⟩ h))
 ·rintro t5 sD aE ⟨r8, hfr, k8, x5, l8, i6, x6, l5, u4_1_18⟩ h
  refine Zq h (fun (s:Design) e w=>∃ (g:Gh) ,Fr gI wI g w∧e 1=up1∧RV g.m w (x1:List Str) up1∧e 2=p1∧PT g.m w (x0:TieHarness) p1∧e 4=p2∧OB 2004 g w 31 (s:Design) p2∧OSF 2004 60401 1 g w 3 31 ((s).Rows) p2) (fun X27 z9 oB h=>?_) ?_
  ·refine Zf (Za (Ze .plain rfl (D_load (g := r8) Tryz.isAgg28 Tryz.sizeOf28 l8 i6 fun v8 iA => ?_)))
   have rA:RV r8.m _ (⟨x0⟩:TieTieHarness) (.agg (setCh [[.int .i64 0,.slice none 0 0]] [(0,v8)]).flatten.toArray):=RV_build rfl (rep_last (RV.cells iA))
   generalize tB:(Value.agg (setCh [[.int .i64 0,.slice none 0 0]] [(0,v8)]).flatten.toArray)=yA at rA
   refine Zx yA (tB ▸ P_build (vs:=[(0,v8)]) [[.int .i64 0,.slice none 0 0]] lay_83 rfl rfl (.cons rfl .nil) ⟨⟨_,rfl,cells_size iA⟩,trivial⟩) rfl ?_
   refine Zo k8 rfl ?_
   obtain ⟨o0,vB,h⟩:=Gb h
   refine Ze .plain rfl (Zp (g:=r8) (vs:=[yA,up1]) en33 (.cons rfl (.cons rfl .nil)) (wk33 rA x5 vB) fun x8 tD bE hs hr=>?_)
   have hfr:=hfr.ext hs
   have x5:=x5.ext hs
   have i6:=i6.ext hs
   have u4_1_18:=u4_1_18.ext hs
   have l5:=l5.ext hs
   obtain ⟨iD,jD,lD,nD,rfl,rfl,rfl,rfl,rfl⟩:=hr
   refine Zn (.tuple #[.int .i64 (o0.1),.int .i64 (o0.2.1),.int .i64 (o0.2.2.1),.bool (o0.2.2.2)]) rfl rfl ?_
   refine Zx (.int .i64 (o0.1)) (Zi rfl rfl) rfl ?_
   refine Zx (.int .i64 (o0.2.1)) (Zi rfl rfl) rfl ?_
   refine Zx (.int .i64 (o0.2.2.1)) (Zi rfl rfl) rfl ?_
   refine Zx (.bool (o0.2.2.2)) (Zi rfl rfl) rfl ?_
   refine Zg (.int .i64 (o0.1)) rfl rfl ?_
   refine Zg (.int .i64 (o0.2.1)) rfl rfl ?_
   refine Zg (.int .i64 (o0.2.2.1)) rfl rfl ?_
   refine Zg (.bool (o0.2.2.2)) rfl rfl ?_
   refine Zb (Zd (Zf (Za (Zn (.bool (o0.2.2.2)) rfl rfl ?_))))
   refine Zb (Zd ?_)
   rcases Zt h with ⟨g8,h⟩ | ⟨g8,h⟩
   ·refine E_ct g8 rfl ?_
    refine Zf (Za (Ze .plain rfl (D_loadO (g:=x8) Tryz.isAgg31 Tryz.sizeOf31 x6 l5 fun aD bD=>?_)))
    refine Ze .plain rfl (D_storeOc (g:=x8) (v:=aD) Tryz.sizeOf31 x6 l5 rfl bD fun iE lE hs b34 cb=>?_)
    clear cb
    have hfr:=hfr.stp hs
    refine Zg (.int .i64 (9)) rfl rfl ?_
    refine Zb (Zd (E_ret (thn_r ?_)))
    obtain rfl:=sinj h
    obtain ⟨ad35,cv35,hp35,yB,cr35⟩:=ob_read Tryz.isAgg31 Tryz.sizeOf31 b34
    exact endm_ct rfl rfl ((show _=p2 from x6).trans hp35) yB (show _=.int .i64 (9) from rfl) ⟨_,hfr,_,_,rfl,cr35,rfl⟩
   ·refine E_cf g8 rfl ?_
    exact Zu (Zd (oB (t5) _ _ ⟨x8,hfr,k8,x5,l8,i6,x6,l5,u4_1_18⟩ h))
  ·rintro k9 uD mE ⟨a9, hfr, l9, n9, u9, y9, m8, y6, u4_1_36⟩ h
   refine Zf (Za (Ze .plain rfl (D_load (g:=a9) Tryz.isAgg28 Tryz.sizeOf28 u9 y9 fun d9 aB=>?_)))
   have dB:RV a9.m _ (⟨x0⟩:TieTieHarness) (.agg (setCh [[.int .i64 0,.slice none 0 0]] [(0,d9)]).flatten.toArray):=RV_build rfl (rep_last (RV.cells aB))
   generalize zB:(Value.agg (setCh [[.int .i64 0,.slice none 0 0]] [(0,d9)]).flatten.toArray)=iB at dB
   refine Zx iB (zB ▸ P_build (vs:=[(0,d9)]) [[.int .i64 0,.slice none 0 0]] lay_83 rfl rfl (.cons rfl .nil) ⟨⟨_,rfl,cells_size aB⟩,trivial⟩) rfl ?_
   refine Zo l9 rfl ?_
   obtain ⟨y40,cC,h⟩:=Gb h
   refine Ze .plain rfl (Zp (g:=a9) (vs:=[iB,up1]) en34 (.cons rfl (.cons rfl .nil)) (wk34 dB n9 cC) fun cD vD eD hs hr=>?_)
   have hfr:=hfr.ext hs
   have y6:=y6.ext hs
   have gD:=hr
   refine Ze .plain rfl (D_storeOc (g:=cD) (v:=eD) Tryz.sizeOf31 m8 y6 rfl gD fun oE rE hs b41 cb=>?_)
   clear cb
   have hfr:=hfr.stp hs
   refine Zg (.int .i64 (0)) rfl rfl ?_
   refine Zb (Zd (E_ret ?_))
   obtain rfl:=sinj h
   obtain ⟨ad42,cv42,hp42,mC,cr42⟩:=ob_read Tryz.isAgg31 Tryz.sizeOf31 b41
   exact endm_ct rfl rfl ((show _=p2 from m8).trans hp42) mC (show _=.int .i64 (0) from rfl) ⟨_,hfr,_,_,rfl,cr42,rfl⟩
def f19 (x0:ChainBelt) (x1:List Int):Option (Int × (List Int) × Int × Int):=
 (f35 x0 x1).bind fun y4=>
 jn (σ:=(List Int)) (fun vC=>
  (f36 (y4.1)).bind fun a9=>
  jn (σ:=(List Int) × Int) (fun (cF,y6)=>
   (idx a9 (0:Int)).bind fun nK=>
   (f38 nK y6).bind fun m8=>
   Option.bind (α:=(List Int)) (
    lp (σ:=(List Int) × Int × Int) (fun sH (x6,l5,u3)=>
     bif (decide (u3 < ((x1).length : Int))) then
      Option.bind (α:=(List Int) × Int) (
       Option.bind (α:=Int) (
        lp (σ:=Int) (fun tH t5=>
         jn (σ:=Unit) (fun _=>
          tH ((w64 (t5 + (1:Int))))
          ) fun uH=>
         (f39 t5).bind fun dB=>
         (idx a9 (w64 (u3 + (1:Int)))).bind fun xH=>
         (f28 ((y4.1).belt) l5 t5).bind fun nB=>
         (idx xH nB).bind fun oB=>
         (idx a9 u3).bind fun yH=>
         (idx yH l5).bind fun aD=>
         bif ((w64 (dB + oB)) != aD) then
          uH ()
         else
          some (t5)
         ) big ((0:Int))
        ) fun o0=>
       (apnd 8 x6 (([o0]:List Int))).bind fun x5=>
       (f28 ((y4.1).belt) l5 o0).bind fun u9=>
       some (x5,u9)
       ) fun (n8,x8)=>
      sH (n8,x8,(w64 (u3 + (1:Int))))
     else
      some (x6)
     ) big (cF,m8,(0:Int))
    ) fun d9=>
   some (m8,d9,y6,(0:Int))
   ) fun oK=>
  (idx a9 (0:Int)).bind fun pK=>
  (f37 pK).bind fun tB=>
  bif (decide (tB ≥ (1048576 : Int))) then
   some ((0:Int),[],(0:Int),(7:Int))
  else
   oK (vC,tB)
  ) fun k8=>
 bif (y4.2 != (0 : Int)) then
  some ((0:Int),[],(0:Int),y4.2)
 else
  k8 ([])
theorem en19:Enters Tryz.prog 19:=enters_of Tryz.func19 (by kernel_rfl) rfl
theorem wk19 {gI:Gh} {wI:World} {x0:ChainBelt} {x1:List Int} {up0:Value} (rp0:RV gI.m wI x0 up0) {up1:Value} (rp1:RV gI.m wI x1 up1) {r:Int × (List Int) × Int × Int} (h:f19 x0 x1=some r):Fn Tryz.prog 19 #[up0,up1] gI wI (fun m w v=>∃ y0 y1 y2 y3,v=.tuple #[y0,y1,y2,y3]∧y0=.int .i64 (r.1)∧RV m w (r.2.1) y1∧y2=.int .i64 (r.2.2.1)∧y3=.int .i64 (r.2.2.2)):=by
 unfold f19 at h
 refine fn_of_E Tryz.func19 rfl (Nat.le_of_ble_eq_true rfl) fun g0 hm hfr=>?_
 have rp0:RV g0.m wI x0 up0:=hm ▸ rp0
 have rp1:RV g0.m wI x1 up1:=hm ▸ rp1
 show E _ 79 none _ _ _ _ _
 refine Zf (Za (Ze .plain rfl (D_box (g:=g0) rfl rp0 fun g1 w1 p1 hs q1=>?_)))
 have hfr:=hfr.ext hs
 have rp1:=rp1.ext hs
 refine Zg (.int .i64 (0)) rfl rfl ?_
 refine Zg (.slice none 0 0) rfl rfl ?_
 refine Zg (.int .i64 (0)) rfl rfl ?_
 refine Zg (.int .i64 (0)) rfl rfl ?_
 refine Zb (Zd (Zf (Za (Ze .plain rfl (D_load (g:=g1) Tryz.isAgg36 Tryz.sizeOf36 rfl q1 fun v2 r2=>?_)))))
 refine Zn up1 rfl rfl ?_
 obtain ⟨y4,mL,h⟩:=Gb h
 refine Ze .plain rfl (Zp (g:=g1) (vs:=[v2,up1]) en35 (.cons rfl (.cons rfl .nil)) (wk35 r2 rp1 mL) fun g3 w3_ v3 hs hr=>?_)
 have hfr:=hfr.ext hs
 have rp1:=rp1.ext hs
 obtain ⟨yD,sM,rfl,zD,rfl⟩:=hr
 refine Zn (.tuple #[yD,.int .i64 (y4.2)]) rfl rfl ?_
 refine Zx yD (Zi rfl rfl) rfl ?_
 refine Zx (.int .i64 (y4.2)) (Zi rfl rfl) rfl ?_
 refine Ze .plain rfl (D_allocOc (g:=g3) 2008 (⟨⟨⟨0,[]⟩,0⟩,[]⟩:ChainCylinder) Tryz.zeroValue90 (fun m w=>⟨_,(rep_two (rep_two (rep_two Zw rep_nil) Zw) rep_nil),rfl⟩) fun g5 w5 p5 hs b5 cb=>?_)
 have hfr:=hfr.stp hs
 have rp1:=rp1.stp hs
 have zD:=zD.stp hs
 have tM:OSF 2008 60801 1 g5 w5 62 90 ([]:List ChainCard) p5:=cb.osf (by rfl)
 have uM:OSF 2008 60803 3 g5 w5 3 90 ([]:List Int) p5:=cb.osf (by rfl)
 clear cb
 refine Ze .plain rfl (D_storeOc (g:=g5) (v:=yD) Tryz.sizeOf90 rfl b5 rfl zD fun g6 w6 hs b6 cb=>?_)
 clear cb
 have hfr:=hfr.stp hs
 have rp1:=rp1.stp hs
 refine Zg (.int .i64 (y4.2)) rfl rfl ?_
 refine Zb (Zd (Zq h (fun (s:(List Int)) e w=>∃ (g:Gh) (v5:Value),Fr gI wI g w∧e 1=up1∧RV g.m w (x1:List Int) up1∧e 5=v5∧RV g.m w (s:List Int) v5∧OS 1005 g w 3 (s:List Int) v5∧e 8=p5∧OB 2008 g w 90 (y4.1:ChainCylinder) p5) (fun X8 k8 nL h=>?_) ?_))
 ·refine Zf (Za (Zn (.int .i64 (y4.2)) rfl rfl ?_))
  refine EL_in (.bool ((y4.2 != (0:Int)))) rfl rfl rfl rfl ?_
  refine Zb (Zd ?_)
  rcases Zt h with ⟨zH,h⟩ | ⟨zH,h⟩
  ·refine E_ct zH rfl ?_
   refine Zf (Za (Zn (.int .i64 (y4.2)) rfl rfl ?_))
   refine Zg (.int .i64 (0)) rfl rfl ?_
   refine Zg (.slice none 0 0) rfl rfl ?_
   refine Zg (.int .i64 (0)) rfl rfl ?_
   refine Zg (.int .i64 (y4.2)) rfl rfl ?_
   refine Zb (Zd (E_ret (thn_r ?_)))
   obtain rfl:=sinj h
   exact end4 rfl rfl (show _=.int .i64 (0) from rfl) (show _=.slice none 0 0 from rfl) (show _=.int .i64 (0) from rfl) (show _=.int .i64 (y4.2) from rfl) ⟨_,hfr,_,_,_,_,rfl,rfl,RV_nil,rfl,rfl⟩
  ·refine E_cf zH rfl ?_
   exact Zu (Zd (nL ([]) _ _ ⟨g6,(.slice none 0 0),hfr,rfl,rp1,rfl,RV_nil,OS.nil,rfl,b6⟩ h))
 ·rintro vC vM nN ⟨qK, zI, hfr, eJ, y9, gJ, z9, bA, dF, k9⟩ h
  refine Zf (Za (Ze .plain rfl (D_loadO (g:=qK) Tryz.isAgg90 Tryz.sizeOf90 dF k9 fun oL pL=>?_)))
  obtain ⟨a9,uK,h⟩:=Gb h
  refine Ze .plain rfl (Zp (g:=qK) (vs:=[oL]) en36 (.cons rfl .nil) (wk36 pL uK) fun sK xM i7 hs hr=>?_)
  have hfr:=hfr.ext hs
  have y9:=y9.ext hs
  have z9:=z9.ext hs
  have bA:=bA.ext hs
  have k9:=k9.ext hs
  have jD:=hr
  refine Zg i7 rfl rfl ?_
  refine Zb (Zd (Zq h (fun (s:(List Int) × Int) e w=>∃ (g:Gh) (v5:Value),Fr gI wI g w∧e 1=up1∧RV g.m w (x1:List Int) up1∧e 5=v5∧RV g.m w (s.1:List Int) v5∧OS 1005 g w 3 (s.1:List Int) v5∧e 6=.int .i64 (s.2)∧e 8=p5∧OB 2008 g w 90 (y4.1:ChainCylinder) p5∧e 9=i7∧RV g.m w (a9:List (List Int)) i7) (fun X20 oK vK h=>?_) ?_))
  ·refine Zf (Za (Zn i7 rfl rfl ?_))
   obtain ⟨pK,aI,h⟩:=Gb h
   refine Zx (ePtr i7 (0:Int) 1) (Zh (α:=List Int) Tryz.underlying93 Tryz.sizeOf26 rfl jD rfl aI) rfl ?_
   have qL:=PT_idx jD aI
   refine Ze .plain rfl (D_load (g:=sK) Tryz.isAgg26 Tryz.sizeOf26 rfl qL fun rL tL=>?_)
   obtain ⟨tB,xK,h⟩:=Gb h
   refine Ze .plain rfl (Zp (g:=sK) (vs:=[rL]) en37 (.cons rfl .nil) (wk37 tL xK) fun uL bN oN hs hr=>?_)
   have hfr:=hfr.ext hs
   have y9:=y9.ext hs
   have z9:=z9.ext hs
   have bA:=bA.ext hs
   have k9:=k9.ext hs
   have jD:=jD.ext hs
   subst hr
   refine Zg (.int .i64 (tB)) rfl rfl ?_
   refine Zb (Zd (Zf (Za (Zn (.int .i64 (tB)) rfl rfl ?_))))
   refine EL_in (.bool ((decide (tB ≥ (1048576:Int))))) rfl rfl rfl rfl ?_
   refine Zb (Zd ?_)
   rcases Zt h with ⟨aE,h⟩ | ⟨aE,h⟩
   ·refine E_ct aE rfl ?_
    refine Zf (Za (Zg (.int .i64 (0)) rfl rfl ?_))
    refine Zg (.slice none 0 0) rfl rfl ?_
    refine Zg (.int .i64 (0)) rfl rfl ?_
    refine Zg (.int .i64 (7)) rfl rfl ?_
    refine Zb (Zd (E_ret (thn_r ?_)))
    obtain rfl:=sinj h
    exact end4 rfl rfl (show _=.int .i64 (0) from rfl) (show _=.slice none 0 0 from rfl) (show _=.int .i64 (0) from rfl) (show _=.int .i64 (7) from rfl) ⟨_,hfr,_,_,_,_,rfl,rfl,RV_nil,rfl,rfl⟩
   ·refine E_cf aE rfl ?_
    exact Zu (Zd (vK (vC,tB) _ _ ⟨uL,(zI),hfr,eJ,y9,gJ,z9,bA,rfl,dF,k9,rfl,jD⟩ h))
  ·rintro ⟨cF, y6⟩ cN pN ⟨tK, iJ, hfr, jJ, bD, kJ, cD, eD, eF, lJ, gD, rF, iA⟩ h
   refine Zf (Za (Zo rF rfl ?_))
   obtain ⟨nK,bI,h⟩:=Gb h
   refine Zx (ePtr i7 (0:Int) 1) (Zh (α:=List Int) Tryz.underlying93 Tryz.sizeOf26 rfl iA rfl bI) rfl ?_
   have vL:=PT_idx iA bI
   refine Ze .plain rfl (D_load (g:=tK) Tryz.isAgg26 Tryz.sizeOf26 rfl vL fun xL yL=>?_)
   refine Zo eF rfl ?_
   obtain ⟨m8,yK,h⟩:=Gb h
   refine Ze .plain rfl (Zp (g:=tK) (vs:=[xL,.int .i64 (y6)]) en38 (.cons rfl (.cons rfl .nil)) (wk38 yL yK) fun zL dN qN hs hr=>?_)
   have hfr:=hfr.ext hs
   have bD:=bD.ext hs
   have cD:=cD.ext hs
   have eD:=eD.ext hs
   have gD:=gD.ext hs
   have iA:=iA.ext hs
   subst hr
   refine Zg (.int .i64 (m8)) rfl rfl ?_
   refine Zb (Zd (Zf (Za (Zn (.int .i64 (m8)) rfl rfl ?_))))
   refine Zg (.int .i64 (m8)) rfl rfl ?_
   refine Zb (Zd ?_)
   obtain ⟨d9,hx,h⟩:=Gb h
   refine E_join (fun e w=>∃ (g:Gh) (v5:Value),Fr gI wI g w∧e 4=.int .i64 (m8)∧e 5=v5∧RV g.m w (d9:List Int) v5∧OS 1005 g w 3 (d9:List Int) v5∧e 6=.int .i64 (y6)) (fun Q' hQ=>?_) (fun aM eM hR=>?_)
   ·replace h := hx
    clear hx
    refine Zf (Za (Zo jJ rfl ?_))
    refine Zx (.int .i64 ((x1).length:Int)) (P_len Tryz.underlying26 rfl bD) rfl ?_
    refine Zn (.int .i64 (0)) rfl rfl ?_
    refine Zb (Zd (Zr ?_))
    refine E_lp h (fun (s:(List Int) × Int × Int) e w=>∃ (g:Gh) (v5:Value),Fr gI wI g w∧e 4=.int .i64 (m8)∧e 5=v5∧RV g.m w (s.1:List Int) v5∧OS 1005 g w 3 (s.1:List Int) v5∧e 6=.int .i64 (y6)∧e 8=p5∧OB 2008 g w 90 (y4.1:ChainCylinder) p5∧e 9=i7∧RV g.m w (a9:List (List Int)) i7∧e 10=.int .i64 (s.2.1)∧e 37=.int .i64 (((x1).length:Int))∧e 38=.int .i64 (s.2.2)) ⟨zL,(iJ),hfr,rfl,kJ,cD,eD,eF,lJ,gD,rF,iA,rfl,rfl,rfl⟩ (fun X538 sH mJ=>?_)
    rintro ⟨x6,l5,u3⟩ iM eN ⟨dI,i6,hfr,lD,nD,oD,sD,tD,iI,jI,kI,lI,yF,cC,iB⟩ h
    refine Zf (Za (EL_in (.bool ((decide (u3 < ((x1).length:Int))))) iB cC rfl rfl ?_))
    refine Zb (Zd (Zf ?_))
    rcases Zt h with ⟨iD,h⟩ | ⟨iD,h⟩
    ·refine E_ct iD rfl ?_
     refine Zu (Zd ?_)
     obtain ⟨⟨n8,x8⟩,hx,h⟩:=Gb h
     refine E_join (fun e w=>∃ (g:Gh) (v5:Value),Fr gI wI g w∧e 4=.int .i64 (m8)∧e 5=v5∧RV g.m w (n8:List Int) v5∧OS 1005 g w 3 (n8:List Int) v5∧e 6=.int .i64 (y6)∧e 8=p5∧OB 2008 g w 90 (y4.1:ChainCylinder) p5∧e 9=i7∧RV g.m w (a9:List (List Int)) i7∧e 10=.int .i64 (x8)∧e 37=.int .i64 (((x1).length:Int))∧e 38=.int .i64 (u3)) (fun Q' hQ=>?_) (fun bM jM hR=>?_)
     ·replace h := hx
      clear hx
      refine Zr ?_
      refine Zf (Za (Zo iB rfl ?_))
      refine Zg (.int .i64 (u3)) rfl rfl ?_
      refine Zb (Zd (Zf (Za (Zg (.int .i64 (0)) rfl rfl ?_))))
      refine Zb (Zd ?_)
      obtain ⟨o0,hx,h⟩:=Gb h
      refine E_join (fun e w=>∃ (g:Gh) ,Fr gI wI g w∧e 4=.int .i64 (m8)∧e 5=i6∧RV g.m w (x6:List Int) i6∧OS 1005 g w 3 (x6:List Int) i6∧e 6=.int .i64 (y6)∧e 8=p5∧OB 2008 g w 90 (y4.1:ChainCylinder) p5∧e 9=i7∧RV g.m w (a9:List (List Int)) i7∧e 10=.int .i64 (l5)∧e 12=.int .i64 (o0)∧e 37=.int .i64 (((x1).length:Int))∧e 38=.int .i64 (u3)) (fun Q' hQ=>?_) (fun cM nJ hR=>?_)
      ·replace h := hx
       clear hx
       refine Zr ?_
       refine E_lp h (fun (s:Int) e w=>∃ (g:Gh) ,Fr gI wI g w∧e 4=.int .i64 (m8)∧e 5=i6∧RV g.m w (x6:List Int) i6∧OS 1005 g w 3 (x6:List Int) i6∧e 6=.int .i64 (y6)∧e 8=p5∧OB 2008 g w 90 (y4.1:ChainCylinder) p5∧e 9=i7∧RV g.m w (a9:List (List Int)) i7∧e 10=.int .i64 (l5)∧e 11=.int .i64 (u3)∧e 12=.int .i64 (s)∧e 37=.int .i64 (((x1).length:Int))∧e 38=.int .i64 (u3)) ⟨dI,hfr,lD,nD,oD,sD,tD,iI,jI,kI,lI,yF,rfl,rfl,cC,iB⟩ (fun X901 tH oJ=>?_)
       rintro t5 kM gN ⟨zK,hfr,uD,vD,rA,yA,xD,vB,r8,aB,g8,l9,lB,n9,mC,qC⟩ h
       refine Zq h (fun (s:Unit) e w=>∃ (g:Gh) ,Fr gI wI g w∧e 4=.int .i64 (m8)∧e 5=i6∧RV g.m w (x6:List Int) i6∧OS 1005 g w 3 (x6:List Int) i6∧e 6=.int .i64 (y6)∧e 8=p5∧OB 2008 g w 90 (y4.1:ChainCylinder) p5∧e 9=i7∧RV g.m w (a9:List (List Int)) i7∧e 10=.int .i64 (l5)∧e 11=.int .i64 (u3)∧e 12=.int .i64 (t5)∧e 37=.int .i64 (((x1).length:Int))∧e 38=.int .i64 (u3)) (fun X956 uH pJ h=>?_) ?_
       ·refine Zf ?_
        obtain ⟨dB,qJ,h⟩:=Gb h
        obtain ⟨xH,sF,h⟩:=Gb h
        have aL:=PT_idx g8 sF
        refine Zs (x:=.tmp 46) Tryz.isAgg26 Tryz.sizeOf26 aL fun mI nI rJ=>?_
        refine L_loadO (x:=.tmp 48) part_ChainCylinder_0.1 Tryz.isAgg74 Tryz.sizeOf74 r8 fun pI bL sJ=>?_
        obtain ⟨nB,vJ,h⟩:=Gb h
        obtain ⟨oB,tF,h⟩:=Gb h
        have dL:=PT_idx nI tF
        refine Zs (x:=.tmp 53) Tryz.isAgg3 Tryz.sizeOf3 dL fun iN eL xJ=>?_
        obtain rfl:=Zj.1 eL
        obtain ⟨yH,uF,h⟩:=Gb h
        have gL:=PT_idx g8 uF
        refine Zs (x:=.tmp 58) Tryz.isAgg26 Tryz.sizeOf26 gL fun qI sI yJ=>?_
        obtain ⟨aD,vF,h⟩:=Gb h
        have iL:=PT_idx sI vF
        refine Zs (x:=.tmp 61) Tryz.isAgg3 Tryz.sizeOf3 iL fun jN jL zJ=>?_
        obtain rfl:=Zj.1 jL
        refine E_drawL (g:=zK) (n:=23) [(1,(fun v g w=>v=.int .i64 (dB))),(11,(fun v g w=>v=.int .i64 (nB)))] [0,1,2,3,4,5,6,7,8,9,10,11,12,13,14,15,16,17,18,19,20,21,22] rfl mixed (by kernel_rfl) (⟨fun _=>up_eq _,fun _=>up_eq _,trivial⟩) ?_
        refine Ga (.int .i64 (t5)) rfl rfl (Zk n9) ?_
        refine L_do (φ:=fun v g w=>v=.int .i64 (dB)) rfl rfl .plain (fun g w hd=>Zp (g:=g) (vs:=[.int .i64 (t5)]) en39 (.cons rfl .nil) (wk39  qJ) fun g' w' v hs hr=>⟨g',hs,hr⟩) (fun kN hv=>?_)
        obtain ⟨_,_,_,rfl⟩:=hv
        refine Ga i7 rfl rfl (Zk aB) ?_
        refine Ga (.int .i64 (u3)) rfl rfl (Zk lB) ?_
        refine Ga (.int .i64 ((w64 (u3 + (1:Int))))) rfl rfl (P_int rfl rfl rfl) ?_
        refine Ga (ePtr i7 (w64 (u3 + (1:Int))) 1) rfl rfl (Zh (α:=List Int) Tryz.underlying93 Tryz.sizeOf26 rfl g8 rfl sF) ?_
        refine L_ld (c:=mI) rfl rfl .plain (fun _ _ h=>h.ch) rJ rfl ?_
        refine Ga (fPtr p5 0) rfl rfl (Zc at_90_0 vB (OB.ptr r8)) ?_
        refine L_ld (c:=pI) rfl rfl .plain (fun _ _ h=>⟨h.ch,fun b hb _=>h.below.block b hb⟩) sJ rfl ?_
        refine Ga (.int .i64 (l5)) rfl rfl (Zk l9) ?_
        refine Ga (.int .i64 (t5)) rfl rfl (Zk n9) ?_
        refine L_do (φ:=fun v g w=>v=.int .i64 (nB)) rfl rfl .plain (fun g w hd=>Zp (g:=g) (vs:=[pI,.int .i64 (l5),.int .i64 (t5)]) en28 (.cons rfl (.cons rfl (.cons rfl .nil))) (wk28 (bL.ext hd.1) vJ) fun g' w' v hs hr=>⟨g',hs,hr⟩) (fun lN hv=>?_)
        obtain ⟨_,_,_,rfl⟩:=hv
        refine Ga (ePtr mI nB 1) rfl rfl (Zh (α:=Int) Tryz.underlying26 Tryz.sizeOf3 rfl nI rfl tF) ?_
        refine L_ld (c:=.int .i64 (oB)) rfl rfl .plain (fun _ _ h=>h.ch) xJ rfl ?_
        refine Ga (.int .i64 ((w64 (dB + oB)))) rfl rfl (P_int rfl rfl rfl) ?_
        refine Ga i7 rfl rfl (Zk aB) ?_
        refine Ga (.int .i64 (u3)) rfl rfl (Zk lB) ?_
        refine Ga (ePtr i7 u3 1) rfl rfl (Zh (α:=List Int) Tryz.underlying93 Tryz.sizeOf26 rfl g8 rfl uF) ?_
        refine L_ld (c:=qI) rfl rfl .plain (fun _ _ h=>h.ch) yJ rfl ?_
        refine Ga (.int .i64 (l5)) rfl rfl (Zk l9) ?_
        refine Ga (ePtr qI l5 1) rfl rfl (Zh (α:=Int) Tryz.underlying26 Tryz.sizeOf3 rfl sI rfl vF) ?_
        refine L_ld (c:=.int .i64 (aD)) rfl rfl .plain (fun _ _ h=>h.ch) zJ rfl ?_
        refine Ga (.bool (((w64 (dB + oB)) != aD))) rfl rfl (P_int rfl rfl rfl) ?_
        refine L_nl fun tI mN hs=>?_
        have hfr:=hfr.ext hs
        have rA:=rA.ext hs
        have yA:=yA.ext hs
        have r8:=r8.ext hs
        have g8:=g8.ext hs
        clear hs
        refine Zb (Zd ?_)
        rcases Zt h with ⟨yB,h⟩ | ⟨yB,h⟩
        ·refine E_ct yB rfl ?_
         exact Zu (Zd (pJ () _ _ ⟨tI,hfr,uD,vD,rA,yA,xD,vB,r8,aB,g8,l9,lB,n9,mC,qC⟩ h))
        ·refine E_cf yB rfl ?_
         refine E_exit ?_
         refine thn_e ?_
         refine thn_e ?_
         refine blk_hit ?_
         obtain rfl:=sinj h
         exact hQ _ _ ⟨tI,hfr,uD,vD,rA,yA,xD,vB,r8,aB,g8,l9,n9,mC,qC⟩
       ·rintro _ dM mM ⟨aK, hfr, zF, aG, bG, cG, eG, gG, hG, iG, jG, bE, iE, lE, mE, oE⟩ h
        refine Zr ?_
        refine Za (Zo lE rfl ?_)
        refine EL_in (.int .i64 ((w64 (t5 + (1:Int))))) rfl rfl rfl rfl ?_
        refine Zg (.int .i64 ((w64 (t5 + (1:Int))))) rfl rfl ?_
        exact Zb (blk_n (Zd (oJ ((w64 (t5 + (1:Int)))) _ _ ⟨aK,hfr,zF,aG,bG,cG,eG,gG,hG,iG,jG,bE,iE,rfl,mE,oE⟩ h)))
      ·clear hx
       obtain ⟨bK,hfr,kG,lG,mG,sG,xG,rC,v8,yG,mB,rE,zB,uE,vE⟩:=hR
       obtain ⟨x5,uI,h⟩:=Gb h
       refine L_loadO (x:=.tmp 70) part_ChainCylinder_0.1 Tryz.isAgg74 Tryz.sizeOf74 v8 fun xF cK vI=>?_
       obtain ⟨u9,yI,h⟩:=Gb h
       refine E_drawAS (g:=bK) (w:=nJ) (i:=1005) (et:=3) (xs:=(x6:List Int)) (r:=x5) (u:=i6) mG sG (n:=11) [(2,(fun v g w=>RV g.m w ([o0]:List Int) v∧OS 3068 g w 3 ([o0]:List Int) v∧FullV v)),(3,(fun v g w=>RV g.m w x5 v∧OS 1005 g w 3 x5 v)),(8,(fun v g w=>v=.int .i64 (u9)))] [0,1,2,3,4,5,6,7,8,9,10] rfl mixed (by kernel_rfl) (⟨fun _=>up_and upS_rv (up_and upS_os (upS_eq _)),fun _=>up_as,fun _=>upS_eq _,trivial⟩) ?_
       refine Ga i6 rfl rfl (Zk lG) ?_
       refine Ga (.int .i64 (o0)) rfl rfl (Zk zB) ?_
       refine L_do (φ:=fun v g w=>RV g.m w ([o0]:List Int) v∧OS 3068 g w 3 ([o0]:List Int) v∧FullV v) rfl rfl .plain (fun g w hd=>D_buildSlice (g:=g) 3068 (xs:=([o0]:List Int)) (vs:=[.int .i64 (o0)]) Tryz.underlying26 Tryz.sizeOf3 Tryz.zeroValue3 rfl rfl (.cons rfl .nil) (RVs.cons (Zj.2 rfl) RVs.nil) rfl rfl fun g' w' v hs o r hxt hfl=>⟨g',as_ext hxt,r,o,hfl⟩) (fun l8 hv=>?_)
       clear hv
       refine L_do (φ:=fun v g w=>RV g.m w x5 v∧OS 1005 g w 3 x5 v) rfl rfl .plain (fun g w hd=>D_appendS (g:=g) det_int rfl Tryz.underlying26 info_3 rfl rfl hd.1.2 rfl (word (A:=fun g w=>RV g.m w ([o0]:List Int) l8∧OS 3068 g w 3 ([o0]:List Int) l8∧FullV l8) 2 rfl rfl (deps_of hd)).1 uI) (fun m7 hv=>?_)
       clear hv
       refine Ga (fPtr p5 0) rfl rfl (Zc at_90_0 rC (OB.ptr v8)) ?_
       refine L_ld (c:=xF) rfl rfl .plain (fun _ _ h=>⟨h.1.ch,fun b hb ho=>h.1.block b hb (by rw [ho]; decide)⟩) vI rfl ?_
       refine Ga (.int .i64 (l5)) rfl rfl (Zk rE) ?_
       refine Ga (.int .i64 (o0)) rfl rfl (Zk zB) ?_
       refine L_do (φ:=fun v g w=>v=.int .i64 (u9)) rfl rfl .plain (fun g w hd=>Zp (g:=g) (vs:=[xF,.int .i64 (l5),.int .i64 (o0)]) en28 (.cons rfl (.cons rfl (.cons rfl .nil))) (wk28 (cK.stp hd.1.1) yI) fun g' w' v hs hr=>⟨g',as_ext hs,hr⟩) (fun nM hv=>?_)
       obtain ⟨_,_,_,rfl⟩:=hv
       refine Ga m7 rfl rfl (P_assign rfl) ?_
       refine Ga (.int .i64 (u9)) rfl rfl (P_assign rfl) ?_
       refine L_nil fun dK oM hall=>?_
       have hs:=hall.1.1
       have hfr:=hfr.stp hs
       have v8:=v8.stp hs rfl
       have mB:=mB.stp hs
       have lK:=(word_all (A:=fun g w=>RV g.m w x5 m7∧OS 1005 g w 3 x5 m7) 3 rfl hall).1
       have o1024:=(word_all (A:=fun g w=>RV g.m w x5 m7∧OS 1005 g w 3 x5 m7) 3 rfl hall).2
       have pM:=(word_all (A:=fun g w=>RV g.m w ([o0]:List Int) l8∧OS 3068 g w 3 ([o0]:List Int) l8∧FullV l8) 2 rfl hall).1
       have o1034:=(word_all (A:=fun g w=>RV g.m w ([o0]:List Int) l8∧OS 3068 g w 3 ([o0]:List Int) l8∧FullV l8) 2 rfl hall).2.1
       have qM:=(word_all (A:=fun g w=>RV g.m w x5 m7∧OS 1005 g w 3 x5 m7) 3 rfl hall).1
       have o1035:=(word_all (A:=fun g w=>RV g.m w x5 m7∧OS 1005 g w 3 x5 m7) 3 rfl hall).2
       clear hs hall
       refine Zb (blk_n ?_)
       obtain ⟨rfl,rfl⟩:=pairs2 h
       exact hQ _ _ ⟨dK,(m7),hfr,kG,rfl,lK,o1024,xG,rC,v8,yG,mB,rfl,uE,vE⟩
     ·clear hx
      obtain ⟨mK,zG,hfr,aH,cH,dH,gH,iH,jH,kH,lH,mH,xE,yE,zE⟩:=hR
      refine Za (EL_in (.int .i64 ((w64 (u3 + (1:Int))))) zE rfl rfl rfl ?_)
      refine Zn (.int .i64 ((w64 (u3 + (1:Int))))) rfl rfl ?_
      exact Zb (Zd (mJ (n8,x8,(w64 (u3 + (1:Int)))) _ _ ⟨mK,(zG),hfr,aH,cH,dH,gH,iH,jH,kH,lH,mH,xE,yE,rfl⟩ h))
    ·refine E_cf iD rfl ?_
     refine E_exit ?_
     refine thn_e ?_
     refine thn_e ?_
     refine blk_hit ?_
     obtain rfl:=sinj h
     exact hQ _ _ ⟨dI,(i6),hfr,lD,nD,oD,sD,tD⟩
   ·clear hx
    obtain ⟨rM,uC,hfr,nH,oH,pH,lL,qH⟩:=hR
    refine Zf (Za (Zo nH rfl ?_))
    refine Zo oH rfl ?_
    refine Zo qH rfl ?_
    refine Zg (.int .i64 (m8)) rfl rfl ?_
    refine Zg uC rfl rfl ?_
    refine Zg (.int .i64 (y6)) rfl rfl ?_
    refine Zg (.int .i64 (0)) rfl rfl ?_
    refine Zb (Zd (E_ret ?_))
    obtain rfl:=sinj h
    exact end4 rfl rfl (show _=.int .i64 (m8) from rfl) (show _=uC from rfl) (show _=.int .i64 (y6) from rfl) (show _=.int .i64 (0) from rfl) ⟨_,hfr,_,_,_,_,rfl,rfl,pH,rfl,rfl⟩
theorem W13 {iO:Nat} {gI:Gh} {wI:World} {x0:List Int} {up0:Value} (rp0:RV gI.m wI x0 up0) {r:(List Int)} (h:f13 x0=some r):FnG Tryz.prog 13 #[up0] gI wI (fun g w v=>OWx (Ow.list 3 (Ow.sh Int)) iO g w r v):=by
 unfold f13 at h
 refine fnG_of_E Tryz.func13 rfl (Nat.le_of_ble_eq_true rfl) fun g0 hm hfr=>?_
 have rp0:RV g0.m wI x0 up0:=hm ▸ rp0
 show E _ 6 none _ _ _ _ _
 refine Zf (Za (Zg (.slice none 0 0) rfl rfl ?_))
 have b1:OA 4002 g0 wI 3 ([]:List Int) (.slice none 0 0):=OA.nil
 refine Zb (Zd (Zf (Za (Ze .plain rfl (D_buildSlice (g:=g0) 3003 (xs:=([]:List Int)) (vs:=[]) Tryz.underlying26 Tryz.sizeOf3 Tryz.zeroValue3 rfl rfl .nil RVs.nil rfl rfl fun g2 w2 v2 hs o2 r2 hxt hfl=>?_)))))
 have hfr:=hfr.stp hs
 have rp0:=rp0.stp hs
 refine Zn up0 rfl rfl ?_
 obtain ⟨y4,o0,h⟩:=Gb h
 have oa3:=OA.ofOS o2
 refine Ze .plain rfl (D_appendA (g:=g2) plain_int (i:=3003) Tryz.underlying26 info_3 rfl rfl oa3 rfl rp0 o0 fun g3 w3 v3 hs b3=>?_)
 have hfr:=hfr.stp hs
 refine Zg v3 rfl rfl ?_
 refine Zb (Zd (E_ret ?_))
 obtain rfl:=sinj h
 obtain ⟨sk5,ow5,ok5⟩:=OA.toW b3
 obtain ⟨gh,hxh,_,homh⟩:=OW.hand (i:=iO) hfr ow5 ok5
 exact end1 rfl rfl (show _=v3 from rfl) ⟨gh,hxh,homh⟩
theorem W15 {iO:Nat} {gI:Gh} {wI:World} {x0:TieHarness} {up0:Value} (rp0:RV gI.m wI x0 up0) {r:TieHarness} (h:f15 x0=some r):FnG Tryz.prog 15 #[up0] gI wI (fun g w v=>OWx ow_TieHarness iO g w r v):=by
 unfold f15 at h
 refine fnG_of_E Tryz.func15 rfl (Nat.le_of_ble_eq_true rfl) fun g0 hm hfr=>?_
 have rp0:RV g0.m wI x0 up0:=hm ▸ rp0
 show E _ 9 none _ _ _ _ _
 refine Zf (Za (Ze .plain rfl (D_box (g:=g0) rfl rp0 fun g1 w1 p1 hs q1=>?_)))
 have hfr:=hfr.ext hs
 refine Ze .plain rfl (D_allocOc (g:=g1) 2002 (⟨0,[]⟩:TieHarness) Tryz.zeroValue28 (fun m w=>⟨_,(rep_two Zw rep_nil),rfl⟩) fun g2 w2 p2 hs b2 cb=>?_)
 have hfr:=hfr.stp hs
 have q1:=q1.stp hs
 have x6:OSF 2002 60201 1 g2 w2 3 28 ([]:List Int) p2:=cb.osf (by rfl)
 clear cb
 refine Zb (Zd (Zf ?_))
 have q3:=Zm (part_TieHarness_0).1 q1
 refine Zs (x:=.tmp 3) Tryz.isAgg3 Tryz.sizeOf3 q3 fun v4 r4 t5=>?_
 obtain rfl:=Zj.1 r4
 have q5:=Zm (part_TieHarness_1).1 q1
 refine Zs (x:=.tmp 5) Tryz.isAgg26 Tryz.sizeOf26 q5 fun v6 r6 x5=>?_
 obtain ⟨y8,i6,h⟩:=Gb h
 refine E_drawL (g:=g2) (n:=5) [(4,(fun v g w=>OWx (Ow.list 3 (Ow.sh Int)) 4007 g w y8 v))] [0,1,2,3,4] rfl mixed (by kernel_rfl) (⟨fun _=>up_owx,trivial⟩) ?_
 refine Ga (fPtr p1 0) rfl rfl (Zc at_28_0 rfl (PT.ptr q1)) ?_
 refine L_ld (c:=.int .i64 ((x0).Hooks)) rfl rfl .plain (fun _ _ h=>h.ch) t5 rfl ?_
 refine Ga (fPtr p1 1) rfl rfl (Zc at_28_1 rfl (PT.ptr q1)) ?_
 refine L_ld (c:=v6) rfl rfl .plain (fun _ _ h=>h.ch) x5 rfl ?_
 refine L_do (φ:=fun v g w=>OWx (Ow.list 3 (Ow.sh Int)) 4007 g w y8 v) rfl rfl .plain (fun g w hd=>D_callG (g:=g) (vs:=[v6]) en13 (.cons rfl .nil) (W13 (iO:=4007) (r6.ext hd.1) i6) fun g' w' v hs hr=>⟨g',hs,hr⟩) (fun v7 hv=>?_)
 clear hv
 refine L_nil fun g9 w9 hall=>?_
 have hs:=hall.1
 have hfr:=hfr.ext hs
 have b2:=b2.ext hs
 obtain ⟨sk17,ow17,ok17⟩:=(word_all (A:=fun g w=>OWx (Ow.list 3 (Ow.sh Int)) 4007 g w y8 v7) 4 rfl hall)
 clear hs hall
 have wn19:=Wn.fl (OW.wn ow17)
 have wn20:=Wn.shp (x:=((x0).Hooks:Int)) (RV.cells (Zj.2 rfl)) wn19
 obtain ⟨u3,o0⟩:∃ v,v=(Value.agg (setCh [[.int .i64 0],[.slice none 0 0]] [(0,.int .i64 ((x0).Hooks)),(1,v7)]).flatten.toArray):=⟨_,rfl⟩
 have ow18:OW ow_TieHarness 4007 g9 w9 (⟨(x0).Hooks,y8⟩:TieHarness) ((),sk17) u3:=o0 ▸ Wn.mk_ (Wn.struct (x:=((⟨(x0).Hooks,y8⟩:TieHarness))) wn20)
 refine Zx u3 (o0 ▸ P_build (vs:=[(0,.int .i64 ((x0).Hooks)),(1,v7)]) [[.int .i64 0],[.slice none 0 0]] lay_28 rfl rfl (.cons rfl (.cons rfl .nil)) ⟨⟨_,rfl,rfl⟩,⟨⟨_,rfl,OW.csz ow17⟩,trivial⟩⟩) rfl ?_
 refine Ze .plain rfl (D_storeOW (g:=g9) Tryz.sizeOf28 rfl b2 rfl ow18 rfl fun gj21 y6 i7 bk21 hsa hsb hpp b21=>?_)
 have hfr:=hfr.stp hsa
 have hfr:=hfr.stp hsb
 clear hsa hsb
 subst hpp
 refine Zb (Zd (E_ret ?_))
 obtain rfl:=sinj h
 obtain ⟨m7,l5,ow22⟩:=OV.read (t:=28) Tryz.isAgg28 Tryz.sizeOf28 b21 rfl
 obtain ⟨gh,hxh,_,homh⟩:=OW.hand (i:=iO) hfr ow22 (⟨trivial,ok17⟩:(ow_TieHarness).ok ((),sk17))
 exact endm_c rfl rfl (show _=(Value.pointer (some ⟨bk21,0,none⟩)) from rfl) l5 ⟨gh,hxh,homh⟩
def f3 (x0:Loom) (x1:List UInt8):Option (Bool):=
 (f4 x0).bind fun y4=>
 (f5 x0).bind fun y7=>
 Option.bind (α:=TieHarness) (
  lp (σ:=TieHarness × Int) (fun vV (y6,i7)=>
   jn (σ:=Unit) (fun _=>
    Option.bind (α:=TieHarness) (
     (idx ((y6).Warps) i7).bind fun yV=>
     some (({ y6 with Warps:=(List.set ((y6).Warps) (Int.toNat i7) i7) }:TieHarness))
     ) fun rE=>
    vV (rE,(w64 (i7 + (1:Int))))
    ) fun xV=>
   Option.bind (α:=Bool) (
    bif (decide (i7 < (y6).Hooks)) then
     some ((decide (i7 < (((y6).Warps).length:Int))))
    else
     some (false)
    ) fun bD=>
   bif bD then
    xV ()
   else
    some (y6)
   ) big (y4,(0:Int))
  ) fun i6=>
 jn (σ:=Unit) (fun _=>
  (f9 y7).bind fun y177=>
  (f8 y177).bind fun g8=>
  Option.bind (α:=(List Int) × Int) (
   lp (σ:=(List Int) × Int × Int) (fun tO (lB,aB,x6)=>
    jn (σ:=Unit) (fun _=>
     Option.bind (α:=(List Int) × Int) (
      (idx x1 x6).bind fun uO=>
      (u8rem uO (8:UInt8)).bind fun cM=>
      (idx ((⟨List.toArray [(1:Int),(1:Int),(1:Int),(1:Int),(1:Int),(1:Int),(0:Int),(2:Int)],rfl⟩:Vector Int 8)).toList ((cM).toNat:Int)).bind fun y246=>
      (apnd 8 lB (([y246]:List Int))).bind fun dM=>
      bif (y246 != (1 : Int)) then
       some (dM,(w64 (aB + (1:Int))))
      else
       some (dM,aB)
      ) fun (cD,lE)=>
     tO (cD,lE,(w64 (x6 + (1:Int))))
     ) fun vO=>
    Option.bind (α:=Bool) (
     bif (decide (x6 < ((x1).length : Int))) then
      some ((decide (x6 < (30:Int))))
     else
      some (false)
     ) fun eD=>
    bif eD then
     vO ()
    else
     some (lB,aB)
    ) big (([]:List Int),(0:Int),(0:Int))
   ) fun (k8,l8)=>
  (f10 ((x0).Cards) ((0:Int))).bind fun jJ=>
  (rem64 jJ (((y7).Rows).length:Int)).bind fun aG=>
  (f12 (g8.1)).bind fun xO=>
  (f13 k8).bind fun yO=>
  (f11 xO aG yO).bind fun n8=>
  jn (σ:=Unit) (fun _=>
   jn (σ:=Unit) (fun _=>
    (f15 i6).bind fun zO=>
    (f13 (n8.1)).bind fun eM=>
    (f14 zO ((⟨(y7).Hooks,eM⟩:Design))).bind fun iB=>
    (f15 i6).bind fun aP=>
    (f17 (iB.1)).bind fun bP=>
    (f16 aP bP).bind fun yA=>
    jn (σ:=Unit) (fun _=>
     (f12 (g8.1)).bind fun bG=>
     (f19 bG ((yA.1).Rows)).bind fun o0=>
     (f11 (g8.1) (o0.1) ((o0.2.1:List Int))).bind fun rA=>
     (f14 i6 ((⟨(y7).Hooks,rA.1⟩:Design))).bind fun zB=>
     Option.bind (α:=Bool) (
      bif (o0.2.2.2 == (0 : Int)) then
       bif (rA.2.2 == (0 : Int)) then
        bif (zB.2 == (0 : Int)) then
         bif (decide (o0.2.2.1 ≥ (0 : Int))) then
          bif (decide (o0.2.2.1 ≤ l8)) then
           (f20 (zB.1) (iB.1)).bind fun cG=>
           bif cG then
            (f6).bind fun eG=>
            bif eG then
             (f7).bind fun kJ=>
             some (kJ)
            else
             some (false)
           else
            some (false)
          else
           some (false)
         else
          some (false)
        else
         some (false)
       else
        some (false)
      else
       some (false)
      ) fun uE=>
     some (uE)
     ) fun cP=>
    Option.bind (α:=Bool) (
     bif (iB.2 != (0 : Int)) then
      some (true)
     else
      bif (yA.2 != (0 : Int)) then
       some (true)
      else
       (f18 ((yA.1).Rows) (n8.1)).bind fun lJ=>
       some ((!lJ))
     ) fun rC=>
    bif rC then
     some (false)
    else
     cP ()
    ) fun dP=>
   bif (((k8).length : Int) == (0 : Int)) then
    Option.bind (α:=Bool) (
     (f6).bind fun dH=>
     bif dH then
      (f7).bind fun mJ=>
      some (mJ)
     else
      some (false)
     ) fun vE=>
    some (vE)
   else
    dP ()
   ) fun eP=>
  Option.bind (α:=Bool) (
   bif (g8.2 != (0 : Int)) then
    some (true)
   else
    bif (n8.2.2 != (0 : Int)) then
     some (true)
    else
     some ((((n8.1).length:Int) != ((k8).length:Int)))
   ) fun uC=>
  bif uC then
   some (false)
  else
   eP ()
  ) fun gP=>
 bif (decide ((((i6).Warps).length : Int) < (i6).Hooks)) then
  Option.bind (α:=Bool) (
   (f6).bind fun gH=>
   bif gH then
    (f7).bind fun nJ=>
    some (nJ)
   else
    some (false)
   ) fun xE=>
  some (xE)
 else
  gP ()
theorem wk3 {gI:Gh} {wI:World} {x0:Loom} {x1:List UInt8} {up0:Value} (rp0:RV gI.m wI x0 up0) {up1:Value} (rp1:RV gI.m wI x1 up1) {r:Bool} (h:f3 x0 x1=some r):Fn Tryz.prog 3 #[up0,up1] gI wI (fun _ _ v=>v=.bool (r)):=by
 unfold f3 at h
 refine fn_of_E Tryz.func3 rfl (Nat.le_of_ble_eq_true rfl) fun g0 hm hfr=>?_
 have rp0:RV g0.m wI x0 up0:=hm ▸ rp0
 have rp1:RV g0.m wI x1 up1:=hm ▸ rp1
 show E _ 221 none _ _ _ _ _
 refine Zf (Za (Ze .plain rfl (D_box (g:=g0) rfl rp0 fun g1 w1 p1 hs q1=>?_)))
 have hfr:=hfr.ext hs
 have rp1:=rp1.ext hs
 refine Zg (.bool false) rfl rfl ?_
 refine Zb (Zd (Zf (Zs (x:=.tmp 2) Tryz.isAgg25 Tryz.sizeOf25 q1 fun v2 r2 hl2=>?_)))
 obtain ⟨y4,uZ,h⟩:=Gb h
 refine Zs (x:=.tmp 2) Tryz.isAgg25 Tryz.sizeOf25 q1 fun v5 r5 vZ=>?_
 obtain ⟨y7,xZ,h⟩:=Gb h
 refine E_drawL (g:=g1) (n:=6) [(1,(fun v g w=>OWx ow_TieHarness 4032 g w y4 v)),(3,(fun v g w=>RV g.m w y7 v)),(4,(fun v g w=>OB 2005 g w 28 (⟨0,[]⟩:TieHarness) v)),(5,(fun v g w=>OB 2006 g w 31 (⟨0,[]⟩:Design) v))] [0,1,2,3,4,5] rfl mixed (by kernel_rfl) (⟨fun _=>up_owx,fun _=>up_rv,fun _=>up_ob,fun _=>up_ob,trivial⟩) ?_
 refine L_ld (c:=v2) rfl rfl .plain (fun _ _ h=>h.ch) hl2 rfl ?_
 refine L_do (φ:=fun v g w=>OWx ow_TieHarness 4032 g w y4 v) rfl rfl .plain (fun g w hd=>D_callG (g:=g) (vs:=[v2]) en4 (.cons rfl .nil) (W4 (iO:=4032) (r2.ext hd.1) uZ) fun g' w' v hs hr=>⟨g',hs,hr⟩) (fun v3 hv=>?_)
 clear hv
 refine L_ld (c:=v5) rfl rfl .plain (fun _ _ h=>h.ch) vZ rfl ?_
 refine L_do (φ:=fun v g w=>RV g.m w y7 v) rfl rfl .plain (fun g w hd=>Zp (g:=g) (vs:=[v5]) en5 (.cons rfl .nil) (wk5 (r5.ext hd.1) xZ) fun g' w' v hs hr=>⟨g',hs,hr⟩) (fun v6 hv=>?_)
 obtain ⟨_,_,_,rq6⟩:=hv
 refine L_do (φ:=fun v g w=>OB 2005 g w 28 (⟨0,[]⟩:TieHarness) v) rfl rfl .plain (fun g w hd=>D_allocX (g:=g) 2005 (⟨0,[]⟩:TieHarness) Tryz.zeroValue28 (fun m w=>⟨_,(rep_two Zw rep_nil),rfl⟩) fun g' w' v hs b=>⟨g',hs,b⟩) (fun v8 hv=>?_)
 clear hv
 refine L_do (φ:=fun v g w=>OB 2006 g w 31 (⟨0,[]⟩:Design) v) rfl rfl .plain (fun g w hd=>D_allocX (g:=g) 2006 (⟨0,[]⟩:Design) Tryz.zeroValue31 (fun m w=>⟨_,(rep_two Zw rep_nil),rfl⟩) fun g' w' v hs b=>⟨g',hs,b⟩) (fun v9 hv=>?_)
 clear hv
 refine L_nil fun yZ w10 hall=>?_
 have hs:=hall.1
 have hfr:=hfr.ext hs
 have rp1:=rp1.ext hs
 have q1:=q1.ext hs
 obtain ⟨sk16,ow16,ok16⟩:=(word_all (A:=fun g w=>OWx ow_TieHarness 4032 g w y4 v3) 1 rfl hall)
 have dK:=(word_all (A:=fun g w=>RV g.m w y7 v6) 3 rfl hall)
 have b19:=(word_all (A:=fun g w=>OB 2005 g w 28 (⟨0,[]⟩:TieHarness) v8) 4 rfl hall)
 have b20:=(word_all (A:=fun g w=>OB 2006 g w 31 (⟨0,[]⟩:Design) v9) 5 rfl hall)
 clear hs hall
 refine Ze .plain rfl (D_storeOW (g:=yZ) Tryz.sizeOf28 rfl b19 rfl ow16 rfl fun gj21 zZ w21 bk21 hsa hsb hpp b21=>?_)
 have hfr:=hfr.stp hsa
 have rp1:=rp1.stp hsa
 have q1:=q1.stp hsa
 have dK:=dK.stp hsa
 have b20:=b20.stp hsa rfl
 have hfr:=hfr.stp hsb
 have rp1:=rp1.stp hsb
 have q1:=q1.stp hsb
 have dK:=dK.stp hsb
 have b20:=b20.stp hsb rfl
 clear hsa hsb
 subst hpp
 refine Ze .plain rfl (D_storeOc (g:=zZ) (v:=v6) Tryz.sizeOf31 rfl b20 rfl dK fun g22 w22 hs b22 cb=>?_)
 clear cb
 have hfr:=hfr.stp hs
 have rp1:=rp1.stp hs
 have q1:=q1.stp hs
 have b21:=b21.stp hs rfl
 refine Zb (Zd ?_)
 obtain ⟨i6,hx,h⟩:=Gb h
 refine E_join (fun e w=>∃ (g:Gh) ,Fr gI wI g w∧e 1=up1∧RV g.m w (x1:List UInt8) up1∧e 2=p1∧PT g.m w (x0:Loom) p1∧e 5=(Value.pointer (some ⟨bk21,0,none⟩))∧OVb ow_TieHarness 2005 g w 28 (i6:TieHarness) bk21∧e 6=v9∧OB 2006 g w 31 (y7:Design) v9) (fun Q' hQ=>?_) (fun n00 a02 hR=>?_)
 ·replace h := hx
  clear hx
  refine Zf (Za (Zg (.int .i64 (0)) rfl rfl ?_))
  refine Zb (Zd (Zr ?_))
  refine E_lp h (fun (s:TieHarness × Int) e w=>∃ (g:Gh) ,Fr gI wI g w∧e 1=up1∧RV g.m w (x1:List UInt8) up1∧e 2=p1∧PT g.m w (x0:Loom) p1∧e 5=(Value.pointer (some ⟨bk21,0,none⟩))∧OVb ow_TieHarness 2005 g w 28 (s.1:TieHarness) bk21∧e 6=v9∧OB 2006 g w 31 (y7:Design) v9∧e 7=.int .i64 (s.2)) ⟨g22,hfr,rfl,rp1,rfl,q1,rfl,⟨_,b21,ok16⟩,rfl,b22,rfl⟩ (fun X79 vV zV=>?_)
  rintro ⟨y6,i7⟩ b02 w80 ⟨rM,hfr,sM,tM,uM,vM,zG,⟨iH,yE,zE⟩,xM,bN,aH⟩ h
  refine Zq h (fun (s:Unit) e w=>∃ (g:Gh) ,Fr gI wI g w∧e 1=up1∧RV g.m w (x1:List UInt8) up1∧e 2=p1∧PT g.m w (x0:Loom) p1∧e 5=(Value.pointer (some ⟨bk21,0,none⟩))∧OVb ow_TieHarness 2005 g w 28 (y6:TieHarness) bk21∧e 6=v9∧OB 2006 g w 31 (y7:Design) v9∧e 7=.int .i64 (i7)) (fun X99 xV aW h=>?_) ?_
  ·obtain ⟨bD, hx, h⟩ := Gb h
   refine E_join (fun e w=>∃ (g:Gh) ,Fr gI wI g w∧e 1=up1∧RV g.m w (x1:List UInt8) up1∧e 2=p1∧PT g.m w (x0:Loom) p1∧e 5=(Value.pointer (some ⟨bk21,0,none⟩))∧OVb ow_TieHarness 2005 g w 28 (y6:TieHarness) bk21∧e 6=v9∧OB 2006 g w 31 (y7:Design) v9∧e 7=.int .i64 (i7)∧e 45=.bool (bD)) (fun Q' hQ=>?_) (fun o00 c02 hR=>?_)
   ·replace h := hx
    clear hx
    refine Za (Zo aH rfl ?_)
    refine Zx ((.pointer (some ⟨bk21,(0 + 0),none⟩))) (P_fieldAddrH at_28_0 zG) rfl ?_
    refine Ze .plain rfl (D_loadV (g:=rM) (Cxt.fld (Cxt.root ow_TieHarness bk21) fl_TieHarness_0 (y6) (iH)) rfl rfl Tryz.isAgg3 Tryz.sizeOf3 rfl yE fun d02 bW=>?_)
    obtain rfl:=Zj.1 bW
    refine EL_in (.bool ((decide (i7 < (y6).Hooks)))) rfl rfl rfl rfl ?_
    refine Zn (.bool ((decide (i7 < (y6).Hooks)))) rfl rfl ?_
    rcases Zt h with ⟨nB,h⟩ | ⟨nB,h⟩
    ·refine Zy (.int .i64 (i7)) (Zk aH) rfl rfl nB rfl ?_
     refine Zy ((.pointer (some ⟨bk21,(0 + 1),none⟩))) (P_fieldAddrH at_28_1 zG) rfl rfl nB rfl ?_
     refine Ze (.yes2 rfl rfl nB) rfl (D_loadH (g:=rM) (Cxt.fld (Cxt.root ow_TieHarness bk21) fl_TieHarness_1 (y6) (iH)) rfl rfl (zE.2) Tryz.isAgg26 rfl yE ?_)
     have hz115:=(OV.slice yE (Cxt.fld (Cxt.root ow_TieHarness bk21) fl_TieHarness_1 (y6) (iH)) rfl rfl (zE.2)).1
     refine Zy (.int .i64 (((y6).Warps).length:Int)) (P_lenH Tryz.underlying26 rfl hz115) rfl rfl nB rfl ?_
     refine Zy (.bool ((decide (i7 < (((y6).Warps).length:Int))))) (P_int rfl rfl rfl) rfl rfl nB rfl ?_
     refine Zx (.bool ((decide (i7 < (((y6).Warps).length:Int))))) (Zl (b:=(decide (i7 < (y6).Hooks))) rfl (pick_t nB rfl)) rfl ?_
     refine Zb ?_
     obtain rfl:=sinj h
     exact hQ _ _ ⟨rM,hfr,sM,tM,uM,vM,zG,⟨_,yE,zE⟩,xM,bN,aH,rfl⟩
    ·refine Zz rfl rfl nB rfl rfl ?_
     iterate 4 refine Zz rfl rfl nB rfl rfl ?_
     refine Zx (.bool false) (Zl (b:=(decide (i7 < (y6).Hooks))) rfl (pick_f nB rfl)) rfl ?_
     refine Zb ?_
     obtain rfl:=sinj h
     exact hQ _ _ ⟨rM,hfr,sM,tM,uM,vM,zG,⟨_,yE,zE⟩,xM,bN,aH,rfl⟩
   ·clear hx
    obtain ⟨iP,hfr,lK,mK,nK,oK,pK,⟨xY,qK,iI⟩,sK,tK,jP,jI⟩:=hR
    rcases Zt h with ⟨oJ,h⟩ | ⟨oJ,h⟩
    ·refine E_cond_true (Eq.trans (show ev _ _ = .bool (bD) from jI) (congrArg Value.bool oJ)) ?_
     exact Zu (Zd (aW () _ _ ⟨iP,hfr,lK,mK,nK,oK,pK,⟨_,qK,iI⟩,sK,tK,jP⟩ h))
    ·refine E_cond_false (Eq.trans (show ev _ _ = .bool (bD) from jI) (congrArg Value.bool oJ)) ?_
     refine E_exit ?_
     refine thn_e ?_
     refine thn_e ?_
     refine blk_hit ?_
     obtain rfl:=sinj h
     exact hQ _ _ ⟨iP,hfr,lK,mK,nK,oK,pK,⟨_,qK,iI⟩,sK,tK⟩
  ·rintro _ p00 e02 ⟨kP, hfr, lP, jH, mP, kH, uK, ⟨qC, lH, gG⟩, nP, mH, nH⟩ h
   obtain ⟨rE,hx,h⟩:=Gb h
   refine E_join (fun e w=>∃ (g:Gh) ,Fr gI wI g w∧e 1=up1∧RV g.m w (x1:List UInt8) up1∧e 2=p1∧PT g.m w (x0:Loom) p1∧e 5=(Value.pointer (some ⟨bk21,0,none⟩))∧OVb ow_TieHarness 2005 g w 28 (rE:TieHarness) bk21∧e 6=v9∧OB 2006 g w 31 (y7:Design) v9∧e 7=.int .i64 (i7)) (fun Q' hQ=>?_) (fun q00 g02 hR=>?_)
   ·replace h := hx
    clear hx
    refine Zr ?_
    refine Za (Zx ((.pointer (some ⟨bk21,(0 + 1),none⟩))) (P_fieldAddrH at_28_1 uK) rfl ?_)
    refine Ze .plain rfl (D_loadH (g:=kP) (Cxt.fld (Cxt.root ow_TieHarness bk21) fl_TieHarness_1 (y6) (qC)) rfl rfl (gG.2) Tryz.isAgg26 rfl lH ?_)
    refine Zo nH rfl ?_
    refine Zo nH rfl ?_
    obtain ⟨yV,cH,h⟩:=Gb h
    obtain ⟨bb130,cc130,ss130,hq130,xT⟩:=(OV.slice lH (Cxt.fld (Cxt.root ow_TieHarness bk21) fl_TieHarness_1 (y6) (qC)) rfl rfl (gG.2)).2 cH
    refine Zx ((.pointer (some ⟨bb130,((Int.toNat i7) * 1),none⟩))) (P_indexH Tryz.underlying26 Tryz.sizeOf3 (rfl.trans (hdr_at hq130 _)) rfl (idx_nat cH)) rfl ?_
    refine Ze .plain rfl (D_storeOV (g:=kP) (u':=(i7:Int)) (Cxt.idx (Cxt.fld (Cxt.root ow_TieHarness bk21) fl_TieHarness_1 (y6) (qC)) ((y6).Warps) (Int.toNat i7) bb130 cc130 ss130 (idx_nat cH).2 xT) ((congrArg (fun q=>({ y6 with Warps:=q }:TieHarness)) (set_idx cH)).trans rfl) (((congrArg (fun q=>((Prod.fst qC),(Sl.at bb130 cc130 q))) set_unit).trans (congrArg (fun q=>((Prod.fst qC),q)) (hq130).symm)).trans rfl) Tryz.sizeOf3 rfl lH rfl (Zj.2 rfl) fun oP cW hs b132=>?_)
    have hfr:=hfr.stp hs
    have jH:=jH.stp hs
    have kH:=kH.stp hs
    have mH:=mH.stp hs rfl
    replace b132:OV ow_TieHarness 2005 oP cW 28 (({ y6 with Warps:=(List.set ((y6).Warps) (Int.toNat i7) i7) }:TieHarness):TieHarness) bk21 qC:=b132
    refine Zb (blk_n ?_)
    obtain rfl:=sinj h
    exact hQ _ _ ⟨oP,hfr,lP,jH,mP,kH,uK,⟨_,b132,gG⟩,nP,mH,nH⟩
   ·clear hx
    obtain ⟨dW,hfr,pP,sP,tP,uP,vP,⟨yY,xP,gN⟩,yP,zP,bQ⟩:=hR
    refine Za (Zo bQ rfl ?_)
    refine EL_in (.int .i64 ((w64 (i7 + (1:Int))))) rfl rfl rfl rfl ?_
    refine Zg (.int .i64 ((w64 (i7 + (1:Int))))) rfl rfl ?_
    exact Zb (Zd (zV (rE,(w64 (i7 + (1:Int)))) _ _ ⟨dW,hfr,pP,sP,tP,uP,vP,⟨_,xP,gN⟩,yP,zP,rfl⟩ h))
 ·clear hx
  obtain ⟨pJ,hfr,cQ,dQ,eQ,gQ,oH,⟨hG,cF,iG⟩,iQ,jQ⟩:=hR
  refine Zq h (fun (s:Unit) e w=>∃ (g:Gh) ,Fr gI wI g w∧e 1=up1∧RV g.m w (x1:List UInt8) up1∧e 2=p1∧PT g.m w (x0:Loom) p1∧e 5=(Value.pointer (some ⟨bk21,0,none⟩))∧OVb ow_TieHarness 2005 g w 28 (i6:TieHarness) bk21∧e 6=v9∧OB 2006 g w 31 (y7:Design) v9) (fun X154 gP yT h=>?_) ?_
  ·refine Zf (Za (Zx ((.pointer (some ⟨bk21, (0 + 1), none⟩))) (P_fieldAddrH at_28_1 oH) rfl ?_))
   refine Ze .plain rfl (D_loadH (g:=pJ) (Cxt.fld (Cxt.root ow_TieHarness bk21) fl_TieHarness_1 (i6) (hG)) rfl rfl (iG.2) Tryz.isAgg26 rfl cF ?_)
   have hz158:=(OV.slice cF (Cxt.fld (Cxt.root ow_TieHarness bk21) fl_TieHarness_1 (i6) (hG)) rfl rfl (iG.2)).1
   refine Zx (.int .i64 (((i6).Warps).length:Int)) (P_lenH Tryz.underlying26 rfl hz158) rfl ?_
   refine Zx ((.pointer (some ⟨bk21,(0 + 0),none⟩))) (P_fieldAddrH at_28_0 oH) rfl ?_
   refine Ze .plain rfl (D_loadV (g:=pJ) (Cxt.fld (Cxt.root ow_TieHarness bk21) fl_TieHarness_0 (i6) (hG)) rfl rfl Tryz.isAgg3 Tryz.sizeOf3 rfl cF fun h02 eW=>?_)
   obtain rfl:=Zj.1 eW
   refine Zx (.bool ((decide ((((i6).Warps).length:Int) < (i6).Hooks)))) (P_int rfl rfl rfl) rfl ?_
   refine Zb (Zd ?_)
   rcases Zt h with ⟨qJ,h⟩ | ⟨qJ,h⟩
   ·refine E_ct qJ rfl ?_
    obtain ⟨xE,hx,h⟩:=Gb h
    refine E_join (fun e w=>∃ (g:Gh) ,Fr gI wI g w∧e 4=.bool (xE)) (fun Q' hQ=>?_) (fun r00 i02 hR=>?_)
    ·replace h := hx
     clear hx
     refine Za ?_
     obtain ⟨gH,zT,h⟩:=Gb h
     refine Ze .plain rfl (Zp (g:=pJ) (vs:=[]) en6 .nil (wk6  zT) fun kQ s00 j02 hs hr=>?_)
     have hfr:=hfr.ext hs
     subst hr
     refine Zn (.bool (gH)) rfl rfl ?_
     rcases Zt h with ⟨dF,h⟩ | ⟨dF,h⟩
     ·obtain ⟨nJ, aU, h⟩ := Gb h
      refine Ze (.yes2 rfl rfl dF) rfl (Zp (g:=kQ) (vs:=[]) en7 .nil (wk7  aU) fun gW t00 k02 hs hr=>?_)
      have hfr:=hfr.ext hs
      subst hr
      refine Zx (.bool (nJ)) (Zl (b:=gH) rfl (pick_t dF rfl)) rfl ?_
      refine Zg (.bool (nJ)) rfl rfl ?_
      refine Zb ?_
      obtain rfl:=sinj h
      exact hQ _ _ ⟨gW,hfr,rfl⟩
     ·refine Zz rfl rfl dF rfl rfl ?_
      refine Zx (.bool false) (Zl (b:=gH) rfl (pick_f dF rfl)) rfl ?_
      refine Zg (.bool false) rfl rfl ?_
      refine Zb ?_
      obtain rfl:=sinj h
      exact hQ _ _ ⟨kQ,hfr,rfl⟩
    ·clear hx
     obtain ⟨l02,hfr,lQ⟩:=hR
     refine E_ret (thn_r ?_)
     obtain rfl:=sinj h
     exact end1 rfl rfl (show _=.bool (xE) from lQ) ⟨_,hfr,rfl⟩
   ·refine E_cf qJ rfl ?_
    exact Zu (Zd (yT () _ _ ⟨pJ,hfr,cQ,dQ,eQ,gQ,oH,⟨_,cF,iG⟩,iQ,jQ⟩ h))
  ·rintro _ u00 m02 ⟨mQ, hfr, nQ, n9, oQ, u9, pQ, ⟨zY, y9, iN⟩, vK, k9⟩ h
   refine Zf (Za (Ze .plain rfl (D_loadO (g:=mQ) Tryz.isAgg31 Tryz.sizeOf31 vK k9 fun iW jW=>?_)))
   obtain ⟨y177,bU,h⟩:=Gb h
   refine Ze .plain rfl (Zp (g:=mQ) (vs:=[iW]) en9 (.cons rfl .nil) (wk9 jW bU) fun kW v00 lW hs hr=>?_)
   have hfr:=hfr.ext hs
   have n9:=n9.ext hs
   have u9:=u9.ext hs
   have y9:=y9.ext hs
   have k9:=k9.ext hs
   have mW:=hr
   obtain ⟨g8,cU,h⟩:=Gb h
   refine Ze .plain rfl (Zp (g:=kW) (vs:=[lW]) en8 (.cons rfl .nil) (wk8 mW cU) fun nW x00 n02 hs hr=>?_)
   have hfr:=hfr.ext hs
   have n9:=n9.ext hs
   have u9:=u9.ext hs
   have y9:=y9.ext hs
   have k9:=k9.ext hs
   obtain ⟨pH,b00,rfl,qH,rfl⟩:=hr
   refine Zn (.tuple #[pH,.int .i64 (g8.2)]) rfl rfl ?_
   refine Zx pH (Zi rfl rfl) rfl ?_
   refine Zx (.int .i64 (g8.2)) (Zi rfl rfl) rfl ?_
   refine Ze .plain rfl (D_allocOc (g:=nW) 2008 (⟨0,[]⟩:ChainBelt) Tryz.zeroValue36 (fun m w=>⟨_,(rep_two Zw rep_nil),rfl⟩) fun qQ oW x8 hs b180 cb=>?_)
   have hfr:=hfr.stp hs
   have n9:=n9.stp hs
   have u9:=u9.stp hs
   have y9:=y9.stp hs rfl
   have k9:=k9.stp hs rfl
   have qH:=qH.stp hs
   have c00:OSF 2008 60801 1 qQ oW 62 36 ([]:List ChainCard) x8:=cb.osf (by rfl)
   clear cb
   refine Ze .plain rfl (D_storeOc (g:=qQ) (v:=pH) Tryz.sizeOf36 rfl b180 rfl qH fun pW o02 hs b181 cb=>?_)
   clear cb
   have hfr:=hfr.stp hs
   have n9:=n9.stp hs
   have u9:=u9.stp hs
   have y9:=y9.stp hs rfl
   have k9:=k9.stp hs rfl
   refine Zg (.int .i64 (g8.2)) rfl rfl ?_
   refine Zb (Zd (Zf (Za (Ze .plain rfl (D_buildSlice (g:=pW) 3069 (xs:=([]:List Int)) (vs:=[]) Tryz.underlying26 Tryz.sizeOf3 Tryz.zeroValue3 rfl rfl .nil RVs.nil rfl rfl fun qW p02 rQ hs o182 sW hxt hfl=>?_)))))
   have hfr:=hfr.stp hs
   have n9:=n9.stp hs
   have u9:=u9.stp hs
   have y9:=y9.stp hs rfl
   have k9:=k9.stp hs rfl
   have b181:=b181.stp hs rfl
   refine Zg rQ rfl rfl ?_
   refine Zg (.int .i64 (0)) rfl rfl ?_
   refine Zb (Zd ?_)
   obtain ⟨⟨k8,l8⟩,hx,h⟩:=Gb h
   refine E_join (fun e w=>∃ (g:Gh) (zD:Value),Fr gI wI g w∧e 2=p1∧PT g.m w (x0:Loom) p1∧e 5=(Value.pointer (some ⟨bk21,0,none⟩))∧OVb ow_TieHarness 2005 g w 28 (i6:TieHarness) bk21∧e 6=v9∧OB 2006 g w 31 (y7:Design) v9∧e 8=x8∧OB 2008 g w 36 (g8.1:ChainBelt) x8∧e 9=.int .i64 (g8.2)∧e 10=zD∧RV g.m w (k8:List Int) zD∧OS 3069 g w 3 (k8:List Int) zD∧e 11=.int .i64 (l8)) (fun Q' hQ=>?_) (fun y00 q02 hR=>?_)
   ·replace h := hx
    clear hx
    refine Zf (Za (Zg (.int .i64 (0)) rfl rfl ?_))
    refine Zb (Zd (Zr ?_))
    refine E_lp h (fun (s:(List Int) × Int × Int) e w=>∃ (g:Gh) (zD:Value),Fr gI wI g w∧e 1=up1∧RV g.m w (x1:List UInt8) up1∧e 2=p1∧PT g.m w (x0:Loom) p1∧e 5=(Value.pointer (some ⟨bk21,0,none⟩))∧OVb ow_TieHarness 2005 g w 28 (i6:TieHarness) bk21∧e 6=v9∧OB 2006 g w 31 (y7:Design) v9∧e 8=x8∧OB 2008 g w 36 (g8.1:ChainBelt) x8∧e 9=.int .i64 (g8.2)∧e 10=zD∧RV g.m w (s.1:List Int) zD∧OS 3069 g w 3 (s.1:List Int) zD∧e 11=.int .i64 (s.2.1)∧e 12=.int .i64 (s.2.2)) ⟨qW,(rQ),hfr,nQ,n9,oQ,u9,pQ,⟨_,y9,iN⟩,vK,k9,rfl,b181,rfl,rfl,sW,o182,rfl,rfl⟩ (fun X218 tO dU=>?_)
    rintro ⟨lB,aB,x6⟩ z00 r02 ⟨sQ,mB,hfr,sH,tH,xK,yK,zK,⟨aZ,aL,kI⟩,bL,dL,eL,gL,iL,lI,mI,nI,pI,mE⟩ h
    refine Zq h (fun (s:Unit) e w=>∃ (g:Gh) ,Fr gI wI g w∧e 1=up1∧RV g.m w (x1:List UInt8) up1∧e 2=p1∧PT g.m w (x0:Loom) p1∧e 5=(Value.pointer (some ⟨bk21,0,none⟩))∧OVb ow_TieHarness 2005 g w 28 (i6:TieHarness) bk21∧e 6=v9∧OB 2006 g w 31 (y7:Design) v9∧e 8=x8∧OB 2008 g w 36 (g8.1:ChainBelt) x8∧e 9=.int .i64 (g8.2)∧e 10=mB∧RV g.m w (lB:List Int) mB∧OS 3069 g w 3 (lB:List Int) mB∧e 11=.int .i64 (aB)∧e 12=.int .i64 (x6)) (fun X224 vO eU h=>?_) ?_
    ·obtain ⟨eD, hx, h⟩ := Gb h
     refine E_join (fun e w=>∃ (g:Gh) ,Fr gI wI g w∧e 1=up1∧RV g.m w (x1:List UInt8) up1∧e 2=p1∧PT g.m w (x0:Loom) p1∧e 5=(Value.pointer (some ⟨bk21,0,none⟩))∧OVb ow_TieHarness 2005 g w 28 (i6:TieHarness) bk21∧e 6=v9∧OB 2006 g w 31 (y7:Design) v9∧e 8=x8∧OB 2008 g w 36 (g8.1:ChainBelt) x8∧e 9=.int .i64 (g8.2)∧e 10=mB∧RV g.m w (lB:List Int) mB∧OS 3069 g w 3 (lB:List Int) mB∧e 11=.int .i64 (aB)∧e 12=.int .i64 (x6)∧e 77=.bool (eD)) (fun Q' hQ=>?_) (fun a01 s02 hR=>?_)
     ·replace h := hx
      clear hx
      refine Za (Zo mE rfl ?_)
      refine Zo sH rfl ?_
      refine Zx (.int .i64 ((x1).length:Int)) (P_len Tryz.underlying22 rfl tH) rfl ?_
      refine EL_in (.bool ((decide (x6 < ((x1).length:Int))))) rfl rfl rfl rfl ?_
      refine Zn (.bool ((decide (x6 < ((x1).length:Int))))) rfl rfl ?_
      rcases Zt h with ⟨sD,h⟩ | ⟨sD,h⟩
      ·refine Zy (.int .i64 (x6)) (Zk mE) rfl rfl sD rfl ?_
       refine Zy (.bool ((decide (x6 < (30:Int))))) (P_int rfl rfl rfl) rfl rfl sD rfl ?_
       refine Zx (.bool ((decide (x6 < (30:Int))))) (Zl (b:=(decide (x6 < ((x1).length:Int)))) rfl (pick_t sD rfl)) rfl ?_
       refine Zb ?_
       obtain rfl:=sinj h
       exact hQ _ _ ⟨sQ,hfr,sH,tH,xK,yK,zK,⟨_,aL,kI⟩,bL,dL,eL,gL,iL,lI,mI,nI,pI,mE,rfl⟩
      ·refine Zz rfl rfl sD rfl rfl ?_
       refine Zz rfl rfl sD rfl rfl ?_
       refine Zx (.bool false) (Zl (b:=(decide (x6 < ((x1).length:Int)))) rfl (pick_f sD rfl)) rfl ?_
       refine Zb ?_
       obtain rfl:=sinj h
       exact hQ _ _ ⟨sQ,hfr,sH,tH,xK,yK,zK,⟨_,aL,kI⟩,bL,dL,eL,gL,iL,lI,mI,nI,pI,mE,rfl⟩
     ·clear hx
      obtain ⟨tQ,hfr,uQ,vQ,jL,lL,mL,⟨bZ,nL,qI⟩,oL,pL,qL,rL,tL,sI,tI,uI,vI,jN,yI⟩:=hR
      rcases Zt h with ⟨rJ,h⟩ | ⟨rJ,h⟩
      ·refine E_cond_true (Eq.trans (show ev _ _ = .bool (eD) from yI) (congrArg Value.bool rJ)) ?_
       exact Zu (Zd (eU () _ _ ⟨tQ,hfr,uQ,vQ,jL,lL,mL,⟨_,nL,qI⟩,oL,pL,qL,rL,tL,sI,tI,uI,vI,jN⟩ h))
      ·refine E_cond_false (Eq.trans (show ev _ _ = .bool (eD) from yI) (congrArg Value.bool rJ)) ?_
       refine E_exit ?_
       refine thn_e ?_
       refine thn_e ?_
       refine blk_hit ?_
       obtain ⟨rfl,rfl⟩:=pairs2 h
       exact hQ _ _ ⟨tQ,(mB),hfr,jL,lL,mL,⟨_,nL,qI⟩,oL,pL,qL,rL,tL,sI,tI,uI,vI⟩
    ·rintro _ b01 tW ⟨iM, hfr, uH, vB, uL, gD, vL, ⟨cZ, iD, zI⟩, xL, jD, yL, lD, zL, kN, jG, kG, eJ, lG⟩ h
     obtain ⟨⟨cD,lE⟩,hx,h⟩:=Gb h
     refine E_join (fun e w=>∃ (g:Gh) (zD:Value),Fr gI wI g w∧e 1=up1∧RV g.m w (x1:List UInt8) up1∧e 2=p1∧PT g.m w (x0:Loom) p1∧e 5=(Value.pointer (some ⟨bk21,0,none⟩))∧OVb ow_TieHarness 2005 g w 28 (i6:TieHarness) bk21∧e 6=v9∧OB 2006 g w 31 (y7:Design) v9∧e 8=x8∧OB 2008 g w 36 (g8.1:ChainBelt) x8∧e 9=.int .i64 (g8.2)∧e 10=zD∧RV g.m w (cD:List Int) zD∧OS 3069 g w 3 (cD:List Int) zD∧e 11=.int .i64 (lE)∧e 12=.int .i64 (x6)) (fun Q' hQ=>?_) (fun c01 t02 hR=>?_)
     ·replace h := hx
      clear hx
      refine Zr ?_
      refine Zf (Za ?_)
      have jM:RV iM.m tW (⟨List.toArray [(1:Int),(1:Int),(1:Int),(1:Int),(1:Int),(1:Int),(0:Int),(2:Int)],rfl⟩:Vector Int 8) (.agg (setCh [[.int .i64 0],[.int .i64 0],[.int .i64 0],[.int .i64 0],[.int .i64 0],[.int .i64 0],[.int .i64 0],[.int .i64 0]] [(0,.int .i64 (1)),(1,.int .i64 (1)),(2,.int .i64 (1)),(3,.int .i64 (1)),(4,.int .i64 (1)),(5,.int .i64 (1)),(6,.int .i64 (0)),(7,.int .i64 (2))]).flatten.toArray):=RV_build rfl (rep_vec (Zv rfl (Zv rfl (Zv rfl (Zv rfl (Zv rfl (Zv rfl (Zv rfl (Zv rfl flat_nil)))))))) rfl)
      generalize gU:(Value.agg (setCh [[.int .i64 0],[.int .i64 0],[.int .i64 0],[.int .i64 0],[.int .i64 0],[.int .i64 0],[.int .i64 0],[.int .i64 0]] [(0,.int .i64 (1)),(1,.int .i64 (1)),(2,.int .i64 (1)),(3,.int .i64 (1)),(4,.int .i64 (1)),(5,.int .i64 (1)),(6,.int .i64 (0)),(7,.int .i64 (2))]).flatten.toArray)=uW at jM
      refine Zx uW (gU ▸ P_buildA (vs:=[(0,.int .i64 (1)),(1,.int .i64 (1)),(2,.int .i64 (1)),(3,.int .i64 (1)),(4,.int .i64 (1)),(5,.int .i64 (1)),(6,.int .i64 (0)),(7,.int .i64 (2))]) [[.int .i64 0],[.int .i64 0],[.int .i64 0],[.int .i64 0],[.int .i64 0],[.int .i64 0],[.int .i64 0],[.int .i64 0]] Tryz.underlying41 layA_41 szA_3 rfl (by simp) (.cons rfl (.cons rfl (.cons rfl (.cons rfl (.cons rfl (.cons rfl (.cons rfl (.cons rfl .nil)))))))) ⟨⟨_,rfl,rfl⟩,⟨⟨_,rfl,rfl⟩,⟨⟨_,rfl,rfl⟩,⟨⟨_,rfl,rfl⟩,⟨⟨_,rfl,rfl⟩,⟨⟨_,rfl,rfl⟩,⟨⟨_,rfl,rfl⟩,⟨⟨_,rfl,rfl⟩,trivial⟩⟩⟩⟩⟩⟩⟩⟩) rfl ?_
      refine Zo uH rfl ?_
      refine Zo lG rfl ?_
      obtain ⟨uO,cN,h⟩:=Gb h
      refine Zx (ePtr up1 x6 1) (Zh (α:=UInt8) Tryz.underlying22 Tryz.sizeOf5 rfl vB rfl cN) rfl ?_
      have vW:=PT_idx vB cN
      refine Ze .plain rfl (D_load (g:=iM) Tryz.isAgg5 Tryz.sizeOf5 rfl vW fun u02 xW=>?_)
      obtain rfl:=RV_u8.1 xW
      obtain ⟨cM,iU,h⟩:=Gb h
      refine Zx (.int .u8 (UInt8.toNat (cM))) (P_u8 rfl rfl (u8rem_cop iU)) rfl ?_
      obtain ⟨y246,dN,h⟩:=Gb h
      have yW:=RV_idxA jM dN
      refine Zx (.int .i64 (y246)) ((Zj.1 yW) ▸ P_indexA Tryz.underlying41 Tryz.isAgg3 Tryz.sizeOf3 rfl jM rfl dN) rfl ?_
      refine Zg (.int .i64 (y246)) rfl rfl ?_
      refine Zb (Zd (Zf (Za (Zo kN rfl ?_))))
      refine Zn (.int .i64 (y246)) rfl rfl ?_
      refine Ze .plain rfl (D_buildSlice (g:=iM) 3089 (xs:=([y246]:List Int)) (vs:=[.int .i64 (y246)]) Tryz.underlying26 Tryz.sizeOf3 Tryz.zeroValue3 rfl rfl (.cons rfl .nil) (RVs.cons (Zj.2 rfl) RVs.nil) rfl rfl fun zW v02 x02 hs o248 aX hxt hfl=>?_)
      have hfr:=hfr.stp hs
      have vB:=vB.stp hs
      have gD:=gD.stp hs
      have iD:=iD.stp hs rfl
      have jD:=jD.stp hs rfl
      have lD:=lD.stp hs rfl
      have jG:=jG.stp hs
      have kG:=kG.stp hs rfl
      obtain ⟨dM,jU,h⟩:=Gb h
      refine Ze .plain rfl (D_append (g:=zW) (i:=3069) Tryz.underlying26 info_3 rfl rfl kG jG rfl aX jU fun xQ y02 kM hs o249 yQ _=>?_)
      have hfr:=hfr.stp hs
      have vB:=vB.stp hs
      have gD:=gD.stp hs
      have iD:=iD.stp hs rfl
      have jD:=jD.stp hs rfl
      have lD:=lD.stp hs rfl
      refine Zg kM rfl rfl ?_
      refine Zb (Zd (Zf (Za (Zn (.int .i64 (y246)) rfl rfl ?_))))
      refine EL_in (.bool ((y246 != (1:Int)))) rfl rfl rfl rfl ?_
      refine Zb (Zd ?_)
      rcases Zt h with ⟨sJ,h⟩ | ⟨sJ,h⟩
      ·refine E_ct sJ rfl ?_
       refine Za (Zo eJ rfl ?_)
       refine EL_in (.int .i64 ((w64 (aB + (1:Int))))) rfl rfl rfl rfl ?_
       refine Zg (.int .i64 ((w64 (aB + (1:Int))))) rfl rfl ?_
       refine Zb (blk_n ?_)
       obtain ⟨rfl,rfl⟩:=pairs2 h
       exact hQ _ _ ⟨xQ,(kM),hfr,uH,vB,uL,gD,vL,⟨_,iD,zI⟩,xL,jD,yL,lD,zL,rfl,yQ,o249,rfl,lG⟩
      ·refine E_cf sJ rfl ?_
       refine Zu (blk_n ?_)
       obtain ⟨rfl,rfl⟩:=pairs2 h
       exact hQ _ _ ⟨xQ,(kM),hfr,uH,vB,uL,gD,vL,⟨_,iD,zI⟩,xL,jD,yL,lD,zL,rfl,yQ,o249,eJ,lG⟩
     ·clear hx
      obtain ⟨bX,lN,hfr,zQ,aR,bR,cR,dR,⟨dZ,eR,mN⟩,gR,iR,jR,lR,mR,nN,oN,pN,qN,rN⟩:=hR
      refine Za (Zo rN rfl ?_)
      refine EL_in (.int .i64 ((w64 (x6 + (1:Int))))) rfl rfl rfl rfl ?_
      refine Zg (.int .i64 ((w64 (x6 + (1:Int))))) rfl rfl ?_
      exact Zb (Zd (dU (cD,lE,(w64 (x6 + (1:Int)))) _ _ ⟨bX,(lN),hfr,zQ,aR,bR,cR,dR,⟨_,eR,mN⟩,gR,iR,jR,lR,mR,nN,oN,pN,qN,rfl⟩ h))
   ·clear hx
    obtain ⟨cX,dB,hfr,nR,aM,xH,⟨mZ,z9,mG⟩,eF,a9,rF,l9,oR,nD,m8,d9,sG⟩:=hR
    refine Zf ?_
    have dX:=Zm (part_Loom_3).1 aM
    refine Zs (x:=.tmp 95) Tryz.isAgg22 Tryz.sizeOf22 dX fun pR eX kU=>?_
    obtain ⟨jJ,lU,h⟩:=Gb h
    refine L_loadO (x:=.tmp 98) part_Design_1.1 Tryz.isAgg26 Tryz.sizeOf26 a9 fun gX iX mU=>?_
    obtain ⟨aG,nU,h⟩:=Gb h
    refine E_drawL (g:=cX) (n:=8) [(2,(fun v g w=>v=.int .i64 (jJ)))] [0,1,2,3,4,5,6,7] rfl mixed (by kernel_rfl) (⟨fun _=>up_eq _,trivial⟩) ?_
    refine Ga (fPtr p1 3) rfl rfl (Zc at_25_3 nR (PT.ptr aM)) ?_
    refine L_ld (c:=pR) rfl rfl .plain (fun _ _ h=>h.ch) kU rfl ?_
    refine L_do (φ:=fun v g w=>v=.int .i64 (jJ)) rfl rfl .plain (fun g w hd=>Zp (g:=g) (vs:=[pR,.int .i64 (0)]) en10 (.cons rfl (.cons rfl .nil)) (wk10 (eX.ext hd.1) lU) fun g' w' v hs hr=>⟨g',hs,hr⟩) (fun z02 hv=>?_)
    obtain ⟨_,_,_,rfl⟩:=hv
    refine Ga (fPtr v9 1) rfl rfl (Zc at_31_1 eF (OB.ptr a9)) ?_
    refine L_ld (c:=gX) rfl rfl .plain (fun _ _ h=>⟨h.ch,fun b hb _=>h.below.block b hb⟩) mU rfl ?_
    refine Ga (.int .i64 (((y7).Rows).length:Int)) rfl rfl (P_len Tryz.underlying26 rfl iX) ?_
    refine Ga (.int .i64 (aG)) rfl rfl (P_int rfl rfl (congrArg (Option.map (Value.int .i64)) nU)) ?_
    refine Ga (.int .i64 (aG)) rfl rfl (P_assign rfl) ?_
    refine L_nl fun qR a03 hs=>?_
    have hfr:=hfr.ext hs
    have z9:=z9.ext hs
    have a9:=a9.ext hs
    have l9:=l9.ext hs
    have m8:=m8.ext hs
    have d9:=d9.ext hs
    clear hs
    refine Zb (Zd (Zf (Za (Ze .plain rfl (D_loadO (g:=qR) Tryz.isAgg36 Tryz.sizeOf36 rF l9 fun jX kX=>?_)))))
    obtain ⟨xO,oU,h⟩:=Gb h
    refine Ze .plain rfl (Zp (g:=qR) (vs:=[jX]) en12 (.cons rfl .nil) (wk12 kX oU) fun lX d01 mX hs hr=>?_)
    have hfr:=hfr.ext hs
    have z9:=z9.ext hs
    have a9:=a9.ext hs
    have l9:=l9.ext hs
    have m8:=m8.ext hs
    have d9:=d9.ext hs
    have mM:=hr
    refine Zn (.int .i64 (aG)) rfl rfl ?_
    refine Zo nD rfl ?_
    obtain ⟨yO,pU,h⟩:=Gb h
    refine Ze .plain rfl (Zp (g:=lX) (vs:=[dB]) en13 (.cons rfl .nil) (wk13 m8 pU) fun nX e01 oX hs hr=>?_)
    have hfr:=hfr.ext hs
    have z9:=z9.ext hs
    have a9:=a9.ext hs
    have l9:=l9.ext hs
    have m8:=m8.ext hs
    have d9:=d9.ext hs
    have mM:=mM.ext hs
    have pX:=hr
    obtain ⟨n8,qU,h⟩:=Gb h
    refine Ze .plain rfl (Zp (g:=nX) (vs:=[mX,.int .i64 (aG),oX]) en11 (.cons rfl (.cons rfl (.cons rfl .nil))) (wk11 mM pX qU) fun nM g01 b03 hs hr=>?_)
    have hfr:=hfr.ext hs
    have z9:=z9.ext hs
    have a9:=a9.ext hs
    have l9:=l9.ext hs
    have m8:=m8.ext hs
    have d9:=d9.ext hs
    obtain ⟨r8,d00,g00,rfl,sF,rfl,rfl⟩:=hr
    refine Zn (.tuple #[r8,.int .i64 (n8.2.1),.int .i64 (n8.2.2)]) rfl rfl ?_
    refine Zx r8 (Zi rfl rfl) rfl ?_
    refine Zx (.int .i64 (n8.2.1)) (Zi rfl rfl) rfl ?_
    refine Zx (.int .i64 (n8.2.2)) (Zi rfl rfl) rfl ?_
    refine Zg r8 rfl rfl ?_
    refine Zg (.int .i64 (n8.2.1)) rfl rfl ?_
    refine Zg (.int .i64 (n8.2.2)) rfl rfl ?_
    refine Zb (Zd (Zq h (fun (s:Unit) e w=>∃ (g:Gh) ,Fr gI wI g w∧e 5=(Value.pointer (some ⟨bk21,0,none⟩))∧OVb ow_TieHarness 2005 g w 28 (i6:TieHarness) bk21∧e 6=v9∧OB 2006 g w 31 (y7:Design) v9∧e 8=x8∧OB 2008 g w 36 (g8.1:ChainBelt) x8∧e 10=dB∧RV g.m w (k8:List Int) dB∧OS 3069 g w 3 (k8:List Int) dB∧e 11=.int .i64 (l8)∧e 15=r8∧RV g.m w (n8.1:List Int) r8) (fun X290 eP rU h=>?_) ?_))
    ·obtain ⟨uC, hx, h⟩ := Gb h
     refine E_join (fun e w=>∃ (g:Gh) ,Fr gI wI g w∧e 5=(Value.pointer (some ⟨bk21,0,none⟩))∧OVb ow_TieHarness 2005 g w 28 (i6:TieHarness) bk21∧e 6=v9∧OB 2006 g w 31 (y7:Design) v9∧e 8=x8∧OB 2008 g w 36 (g8.1:ChainBelt) x8∧e 10=dB∧RV g.m w (k8:List Int) dB∧OS 3069 g w 3 (k8:List Int) dB∧e 11=.int .i64 (l8)∧e 15=r8∧RV g.m w (n8.1:List Int) r8∧e 124=.bool (uC)) (fun Q' hQ=>?_) (fun h01 c03 hR=>?_)
     ·replace h := hx
      clear hx
      refine Za (Zo oR rfl ?_)
      refine EL_in (.bool ((g8.2 != (0:Int)))) rfl rfl rfl rfl ?_
      refine Zn (.bool ((g8.2 != (0:Int)))) rfl rfl ?_
      rcases Zt h with ⟨tD,h⟩ | ⟨tD,h⟩
      ·refine Zz rfl rfl tD rfl rfl ?_
       refine Zz rfl rfl tD rfl rfl ?_
       refine Zx (.bool true) (Zl (b:=(g8.2 != (0:Int))) rfl (pick_t tD rfl)) rfl ?_
       refine EL_dead 7 rfl ?_
       refine Zb ?_
       obtain rfl:=sinj h
       exact hQ _ _ ⟨nM,hfr,xH,⟨_,z9,mG⟩,eF,a9,rF,l9,nD,m8,d9,sG,rfl,sF,rfl⟩
      ·refine Zy (.int .i64 (n8.2.2)) (Zk rfl) rfl rfl tD rfl ?_
       refine Zy (.bool ((n8.2.2 != (0:Int)))) (P_int rfl rfl rfl) rfl rfl tD rfl ?_
       refine Zx (.bool ((n8.2.2 != (0:Int)))) (Zl (b:=(g8.2 != (0:Int))) rfl (pick_f tD rfl)) rfl ?_
       refine Zn (.bool ((n8.2.2 != (0:Int)))) rfl rfl ?_
       rcases Zt h with ⟨oB,h⟩ | ⟨oB,h⟩
       ·refine Zz rfl rfl oB rfl rfl ?_
        iterate 4 refine Zz rfl rfl oB rfl rfl ?_
        refine Zx (.bool true) (Zl (b:=(n8.2.2 != (0:Int))) rfl (pick_t oB rfl)) rfl ?_
        refine Zb ?_
        obtain rfl:=sinj h
        exact hQ _ _ ⟨nM,hfr,xH,⟨_,z9,mG⟩,eF,a9,rF,l9,nD,m8,d9,sG,rfl,sF,rfl⟩
       ·refine Zy r8 (Zk rfl) rfl rfl oB rfl ?_
        refine Zy (.int .i64 ((n8.1).length:Int)) (P_len Tryz.underlying26 rfl sF) rfl rfl oB rfl ?_
        refine Zy dB (Zk nD) rfl rfl oB rfl ?_
        refine Zy (.int .i64 ((k8).length:Int)) (P_len Tryz.underlying26 rfl m8) rfl rfl oB rfl ?_
        refine Zy (.bool ((((n8.1).length:Int) != ((k8).length:Int)))) (P_int rfl rfl rfl) rfl rfl oB rfl ?_
        refine Zx (.bool ((((n8.1).length:Int) != ((k8).length:Int)))) (Zl (b:=(n8.2.2 != (0:Int))) rfl (pick_f oB rfl)) rfl ?_
        refine Zb ?_
        obtain rfl:=sinj h
        exact hQ _ _ ⟨nM,hfr,xH,⟨_,z9,mG⟩,eF,a9,rF,l9,nD,m8,d9,sG,rfl,sF,rfl⟩
     ·clear hx
      obtain ⟨qX,hfr,rR,⟨nZ,tR,sN⟩,uR,vR,xR,yR,tN,uN,vN,xN,yN,zN,yH⟩:=hR
      rcases Zt h with ⟨vJ,h⟩ | ⟨vJ,h⟩
      ·refine E_cond_true (Eq.trans (show ev _ _ = .bool (uC) from yH) (congrArg Value.bool vJ)) ?_
       refine Zf (Za (Zg (.bool false) rfl rfl ?_))
       refine Zb (Zd (E_ret (thn_r ?_)))
       obtain rfl:=sinj h
       exact end1 rfl rfl (show _=.bool false from rfl) ⟨_,hfr,rfl⟩
      ·refine E_cond_false (Eq.trans (show ev _ _ = .bool (uC) from yH) (congrArg Value.bool vJ)) ?_
       exact Zu (Zd (rU () _ _ ⟨qX,hfr,rR,⟨_,tR,sN⟩,uR,vR,xR,yR,tN,uN,vN,xN,yN,zN⟩ h))
    ·rintro _ i01 d03 ⟨zR, hfr, aS, ⟨oZ, bS, aO⟩, cS, dS, eS, gS, bO, cO, pZ, dO, eO, gO⟩ h
     refine Zq h (fun (s:Unit) e w=>∃ (g:Gh) ,Fr gI wI g w∧e 5=(Value.pointer (some ⟨bk21,0,none⟩))∧OVb ow_TieHarness 2005 g w 28 (i6:TieHarness) bk21∧e 6=v9∧OB 2006 g w 31 (y7:Design) v9∧e 8=x8∧OB 2008 g w 36 (g8.1:ChainBelt) x8∧e 11=.int .i64 (l8)∧e 15=r8∧RV g.m w (n8.1:List Int) r8) (fun X310 dP sU h=>?_) ?_
     ·refine Zf (Za (Zo bO rfl ?_))
      refine Zx (.int .i64 ((k8).length:Int)) (P_len Tryz.underlying26 rfl cO) rfl ?_
      refine EL_in (.bool ((((k8).length:Int) == (0:Int)))) rfl rfl rfl rfl ?_
      refine Zb (Zd ?_)
      rcases Zt h with ⟨xJ,h⟩ | ⟨xJ,h⟩
      ·refine E_ct xJ rfl ?_
       obtain ⟨vE,hx,h⟩:=Gb h
       refine E_join (fun e w=>∃ (g:Gh) ,Fr gI wI g w∧e 4=.bool (vE)) (fun Q' hQ=>?_) (fun j01 e03 hR=>?_)
       ·replace h := hx
        clear hx
        refine Za ?_
        obtain ⟨dH,tU,h⟩:=Gb h
        refine Ze .plain rfl (Zp (g:=zR) (vs:=[]) en6 .nil (wk6  tU) fun iS k01 g03 hs hr=>?_)
        have hfr:=hfr.ext hs
        subst hr
        refine Zn (.bool (dH)) rfl rfl ?_
        rcases Zt h with ⟨tF,h⟩ | ⟨tF,h⟩
        ·obtain ⟨mJ, uU, h⟩ := Gb h
         refine Ze (.yes2 rfl rfl tF) rfl (Zp (g:=iS) (vs:=[]) en7 .nil (wk7  uU) fun rX l01 h03 hs hr=>?_)
         have hfr:=hfr.ext hs
         subst hr
         refine Zx (.bool (mJ)) (Zl (b:=dH) rfl (pick_t tF rfl)) rfl ?_
         refine Zg (.bool (mJ)) rfl rfl ?_
         refine Zb ?_
         obtain rfl:=sinj h
         exact hQ _ _ ⟨rX,hfr,rfl⟩
        ·refine Zz rfl rfl tF rfl rfl ?_
         refine Zx (.bool false) (Zl (b:=dH) rfl (pick_f tF rfl)) rfl ?_
         refine Zg (.bool false) rfl rfl ?_
         refine Zb ?_
         obtain rfl:=sinj h
         exact hQ _ _ ⟨iS,hfr,rfl⟩
       ·clear hx
        obtain ⟨i03,hfr,jS⟩:=hR
        refine E_ret (thn_r ?_)
        obtain rfl:=sinj h
        exact end1 rfl rfl (show _=.bool (vE) from jS) ⟨_,hfr,rfl⟩
      ·refine E_cf xJ rfl ?_
       exact Zu (Zd (sU () _ _ ⟨zR,hfr,aS,⟨_,bS,aO⟩,cS,dS,eS,gS,dO,eO,gO⟩ h))
     ·rintro _ m01 sX ⟨yJ, hfr, aE, ⟨qZ, u3, oD⟩, uF, l5, zH, x5, xG, gJ, t5⟩ h
      refine Zf (L_loadAL (x:=.tmp 5) Tryz.isAgg28 Tryz.sizeOf28 u3 fun lS al328 vU=>?_)
      obtain ⟨zO,xU,h⟩:=Gb h
      refine L_loadO (x:=.tmp 135) part_Design_0.1 Tryz.isAgg3 Tryz.sizeOf3 l5 fun j03 tX yU=>?_
      obtain rfl:=Zj.1 tX
      obtain ⟨eM,zU,h⟩:=Gb h
      obtain ⟨iB,aV,h⟩:=Gb h
      refine E_drawC (g:=yJ) (w:=sX) (n:=12) [0,2,3,4,6,8,9,10,11] [2005,2006] [0,1,2,3,4,5,6,7,8,9,10,11] rfl mixed (by kernel_rfl) fun w_c326 hs hlt=>?_
      have hfr:=hfr.ext hs
      have u3:=u3.ext hs
      have l5:=l5.ext hs
      have x5:=x5.ext hs
      have t5:=t5.ext hs
      clear hs
      refine CH_ldO (n:=2005) (c:=lS) rfl rfl .plain vU aE rfl ?_
      have al328:=AL.lt al328 hlt rfl
      refine CH_do rfl rfl .plain (D_callGF (g:=yJ) (vs:=[lS]) en15 (.cons rfl .nil) (W15 (iO:=4134) (AL.lent al328 u3 oD rfl) xU) fun gl329 bV uX hxl hr=>?_)
      have hm329:=OWx.unlend fw_ow_TieHarness hxl hr
      obtain ⟨mS,hge329⟩:∃ g,g={ m:=fun b=>if b < w_c326.heap.size then yJ.m b else gl329.m b,o:=gl329.o:Gh }:=⟨_,rfl⟩
      rw [← hge329] at hm329
      have hs:Ext yJ w_c326 mS bV:=hge329 ▸ unlend hxl
      clear hxl hr hge329
      have hfr:=hfr.ext hs
      have hlt:=hlt.ext hs
      have u3:=u3.ext hs
      have l5:=l5.ext hs
      have x5:=x5.ext hs
      have t5:=t5.ext hs
      obtain ⟨sk329,ow329,ok329⟩:=hm329
      refine ⟨hlt.toW,?_⟩
      refine CH_pur (c:=fPtr v9 0) rfl rfl .plain (Zc at_31_0 uF (OB.ptr l5)) ?_
      refine CH_ldO (n:=2006) (c:=.int .i64 ((y7).Hooks)) rfl rfl .plain yU rfl rfl ?_
      refine CH_pur (c:=r8) rfl rfl .plain (Zk gJ) ?_
      refine CH_do rfl rfl .plain (Zp (g:=mS) (vs:=[r8]) en13 (.cons rfl .nil) (wk13 t5 zU) fun vX n01 oM hs hr=>?_)
      have hfr:=hfr.ext hs
      have hlt:=hlt.ext hs
      have u3:=u3.ext hs
      have l5:=l5.ext hs
      have x5:=x5.ext hs
      have t5:=t5.ext hs
      have ow329:=ow329.ext hs
      have nS:=hr
      refine ⟨hlt.toW,?_⟩
      have zJ:RV vX.m _ (⟨(y7).Hooks,eM⟩:Design) (.agg (setCh [[.int .i64 0],[.slice none 0 0]] [(0,.int .i64 ((y7).Hooks)),(1,oM)]).flatten.toArray):=RV_build rfl (rep_pair (rfl) (rep_last (RV.cells nS)))
      generalize cV:(Value.agg (setCh [[.int .i64 0],[.slice none 0 0]] [(0,.int .i64 ((y7).Hooks)),(1,oM)]).flatten.toArray)=oS at zJ
      refine CH_pur (c:=oS) rfl rfl .plain (cV ▸ P_build (vs:=[(0,.int .i64 ((y7).Hooks)),(1,oM)]) [[.int .i64 0],[.slice none 0 0]] lay_31 rfl rfl (.cons rfl (.cons rfl .nil)) ⟨⟨_,rfl,rfl⟩,⟨⟨_,rfl,cells_size nS⟩,trivial⟩⟩) ?_
      obtain ⟨gp336,hs,rp336⟩:=OW.pub ow329 ok329
      have hfr:=hfr.stp hs
      have hlt:=hlt.stp hs
      have u3:=u3.stp hs rfl
      have l5:=l5.stp hs rfl
      have x5:=x5.stp hs rfl
      have t5:=t5.stp hs
      have zJ:=zJ.stp hs
      refine CH_do rfl rfl .plain (Zp (g:=gp336) (vs:=[uX,oS]) en14 (.cons rfl (.cons rfl .nil)) (wk14 rp336 zJ aV) fun aK eN k03 hs hr=>?_)
      have hfr:=hfr.ext hs
      have hlt:=hlt.ext hs
      have u3:=u3.ext hs
      have l5:=l5.ext hs
      have x5:=x5.ext hs
      have t5:=t5.ext hs
      obtain ⟨bA,h00,rfl,m7,rfl⟩:=hr
      refine ⟨hlt.toW,?_⟩
      refine CH_pur (c:=.tuple #[bA,.int .i64 (iB.2)]) rfl rfl .plain (Zk rfl) ?_
      refine CH_pur (c:=bA) rfl rfl .plain (Zi rfl rfl) ?_
      refine CH_pur (c:=.int .i64 (iB.2)) rfl rfl .plain (Zi rfl rfl) ?_
      refine CH_pur (c:=bA) rfl rfl .plain (P_assign rfl) ?_
      refine CH_nil ?_
      clear hlt
      refine Zg (.int .i64 (iB.2)) rfl rfl ?_
      refine Zb (Zd (Zf (Za (Ze .plain rfl (D_loadAL (g:=aK) Tryz.isAgg28 Tryz.sizeOf28 aE u3 fun xX al340=>?_)))))
      obtain ⟨aP,dV,h⟩:=Gb h
      refine Ze .plain rfl (D_callGF (g:=aK) (vs:=[xX]) en15 (.cons rfl .nil) (W15 (iO:=4145) (AL.lent al340 u3 oD rfl) dV) fun gl341 eV yX hxl hr=>?_)
      have hm341:=OWx.unlend fw_ow_TieHarness hxl hr
      obtain ⟨pS,hge341⟩:∃ g,g={ m:=fun b=>if b < eN.heap.size then aK.m b else gl341.m b,o:=gl341.o:Gh }:=⟨_,rfl⟩
      rw [← hge341] at hm341
      have hs:Ext aK eN pS eV:=hge341 ▸ unlend hxl
      clear hxl hr hge341
      have hfr:=hfr.ext hs
      have u3:=u3.ext hs
      have l5:=l5.ext hs
      have x5:=x5.ext hs
      have t5:=t5.ext hs
      have m7:=m7.ext hs
      obtain ⟨sk341,ow341,ok341⟩:=hm341
      refine Zn bA rfl rfl ?_
      obtain ⟨bP,gV,h⟩:=Gb h
      refine Ze .plain rfl (Zp (g:=pS) (vs:=[bA]) en17 (.cons rfl .nil) (wk17 m7 gV) fun l03 o01 zX hs hr=>?_)
      have hfr:=hfr.ext hs
      have u3:=u3.ext hs
      have l5:=l5.ext hs
      have x5:=x5.ext hs
      have t5:=t5.ext hs
      have m7:=m7.ext hs
      have ow341:=ow341.ext hs
      have pM:=hr
      obtain ⟨gp345,hs,rp345⟩:=OW.pub ow341 ok341
      have hfr:=hfr.stp hs
      have u3:=u3.stp hs rfl
      have l5:=l5.stp hs rfl
      have x5:=x5.stp hs rfl
      have t5:=t5.stp hs
      have m7:=m7.stp hs
      have pM:=pM.stp hs
      obtain ⟨yA,iV,h⟩:=Gb h
      refine Ze .plain rfl (Zp (g:=gp345) (vs:=[yX,zX]) en16 (.cons rfl (.cons rfl .nil)) (wk16 rp345 pM iV) fun aY p01 m03 hs hr=>?_)
      have hfr:=hfr.ext hs
      have u3:=u3.ext hs
      have l5:=l5.ext hs
      have x5:=x5.ext hs
      have t5:=t5.ext hs
      have m7:=m7.ext hs
      obtain ⟨aI,i00,rfl,bI,rfl⟩:=hr
      refine Zn (.tuple #[aI,.int .i64 (yA.2)]) rfl rfl ?_
      refine Zx aI (Zi rfl rfl) rfl ?_
      refine Zx (.int .i64 (yA.2)) (Zi rfl rfl) rfl ?_
      refine Ze .plain rfl (D_allocOc (g:=aY) 2020 (⟨0,[]⟩:Design) Tryz.zeroValue31 (fun m w=>⟨_,(rep_two Zw rep_nil),rfl⟩) fun qS bY oE hs b348 cb=>?_)
      have hfr:=hfr.stp hs
      have u3:=u3.stp hs rfl
      have l5:=l5.stp hs rfl
      have x5:=x5.stp hs rfl
      have t5:=t5.stp hs
      have m7:=m7.stp hs
      have bI:=bI.stp hs
      have j00:OSF 2020 62001 1 qS bY 3 31 ([]:List Int) oE:=cb.osf (by rfl)
      clear cb
      refine Ze .plain rfl (D_storeOc (g:=qS) (v:=aI) Tryz.sizeOf31 rfl b348 rfl bI fun bK n03 hs b349 cb=>?_)
      clear cb
      have hfr:=hfr.stp hs
      have u3:=u3.stp hs rfl
      have l5:=l5.stp hs rfl
      have x5:=x5.stp hs rfl
      have t5:=t5.stp hs
      have m7:=m7.stp hs
      refine Zg (.int .i64 (yA.2)) rfl rfl ?_
      refine Zb (Zd (Zq h (fun (s:Unit) e w=>∃ (g:Gh) ,Fr gI wI g w∧e 5=(Value.pointer (some ⟨bk21,0,none⟩))∧OVb ow_TieHarness 2005 g w 28 (i6:TieHarness) bk21∧e 6=v9∧OB 2006 g w 31 (y7:Design) v9∧e 8=x8∧OB 2008 g w 36 (g8.1:ChainBelt) x8∧e 11=.int .i64 (l8)∧e 18=bA∧RV g.m w (iB.1:List Str) bA∧e 20=oE∧OB 2020 g w 31 (yA.1:Design) oE) (fun X364 cP jV h=>?_) ?_))
      ·obtain ⟨rC, hx, h⟩ := Gb h
       refine E_join (fun e w=>∃ (g:Gh) ,Fr gI wI g w∧e 5=(Value.pointer (some ⟨bk21,0,none⟩))∧OVb ow_TieHarness 2005 g w 28 (i6:TieHarness) bk21∧e 6=v9∧OB 2006 g w 31 (y7:Design) v9∧e 8=x8∧OB 2008 g w 36 (g8.1:ChainBelt) x8∧e 11=.int .i64 (l8)∧e 18=bA∧RV g.m w (iB.1:List Str) bA∧e 20=oE∧OB 2020 g w 31 (yA.1:Design) oE∧e 163=.bool (rC)) (fun Q' hQ=>?_) (fun q01 o03 hR=>?_)
       ·replace h := hx
        clear hx
        refine Za (Zn (.int .i64 (iB.2)) rfl rfl ?_)
        refine EL_in (.bool ((iB.2 != (0:Int)))) rfl rfl rfl rfl ?_
        refine Zn (.bool ((iB.2 != (0:Int)))) rfl rfl ?_
        rcases Zt h with ⟨uD,h⟩ | ⟨uD,h⟩
        ·refine Zz rfl rfl uD rfl rfl ?_
         refine Zz rfl rfl uD rfl rfl ?_
         refine Zx (.bool true) (Zl (b:=(iB.2 != (0:Int))) rfl (pick_t uD rfl)) rfl ?_
         refine EL_dead 7 rfl ?_
         refine Zb ?_
         obtain rfl:=sinj h
         exact hQ _ _ ⟨bK,hfr,aE,⟨_,u3,oD⟩,uF,l5,zH,x5,xG,rfl,m7,rfl,b349,rfl⟩
        ·refine Zy (.int .i64 (yA.2)) (Zk rfl) rfl rfl uD rfl ?_
         refine Zy (.bool ((yA.2 != (0:Int)))) (P_int rfl rfl rfl) rfl rfl uD rfl ?_
         refine Zx (.bool ((yA.2 != (0:Int)))) (Zl (b:=(iB.2 != (0:Int))) rfl (pick_f uD rfl)) rfl ?_
         refine Zn (.bool ((yA.2 != (0:Int)))) rfl rfl ?_
         rcases Zt h with ⟨tB,h⟩ | ⟨tB,h⟩
         ·refine Zz rfl rfl tB rfl rfl ?_
          iterate 4 refine Zz rfl rfl tB rfl rfl ?_
          refine Zx (.bool true) (Zl (b:=(yA.2 != (0:Int))) rfl (pick_t tB rfl)) rfl ?_
          refine Zb ?_
          obtain rfl:=sinj h
          exact hQ _ _ ⟨bK,hfr,aE,⟨_,u3,oD⟩,uF,l5,zH,x5,xG,rfl,m7,rfl,b349,rfl⟩
         ·refine Zy (fPtr oE 1) (Zc at_31_1 rfl (OB.ptr b349)) rfl rfl tB rfl ?_
          refine Ze (.yes2 rfl rfl tB) rfl (D_loadF (g:=bK) part_Design_1.1 Tryz.isAgg26 Tryz.sizeOf26 rfl b349 fun cY dY=>?_)
          refine Zy r8 (Zk gJ) rfl rfl tB rfl ?_
          obtain ⟨lJ,kV,h⟩:=Gb h
          refine Ze (.yes2 rfl rfl tB) rfl (Zp (g:=bK) (vs:=[cY,r8]) en18 (.cons rfl (.cons rfl .nil)) (wk18 dY t5 kV) fun eY r01 p03 hs hr=>?_)
          have hfr:=hfr.ext hs
          have u3:=u3.ext hs
          have l5:=l5.ext hs
          have x5:=x5.ext hs
          have m7:=m7.ext hs
          have b349:=b349.ext hs
          subst hr
          refine Zy (.bool (!lJ)) (P_not rfl) rfl rfl tB rfl ?_
          refine Zx (.bool (!lJ)) (Zl (b:=(yA.2 != (0:Int))) rfl (pick_f tB rfl)) rfl ?_
          refine Zb ?_
          obtain rfl:=sinj h
          exact hQ _ _ ⟨eY,hfr,aE,⟨_,u3,oD⟩,uF,l5,zH,x5,xG,rfl,m7,rfl,b349,rfl⟩
       ·clear hx
        obtain ⟨gY,hfr,rS,⟨rZ,sS,jO⟩,tS,uS,vS,xS,kO,lO,mO,nO,oO,dI⟩:=hR
        rcases Zt h with ⟨cK,h⟩ | ⟨cK,h⟩
        ·refine E_cond_true (Eq.trans (show ev _ _ = .bool (rC) from dI) (congrArg Value.bool cK)) ?_
         refine Zf (Za (Zg (.bool false) rfl rfl ?_))
         refine Zb (Zd (E_ret (thn_r ?_)))
         obtain rfl:=sinj h
         exact end1 rfl rfl (show _=.bool false from rfl) ⟨_,hfr,rfl⟩
        ·refine E_cond_false (Eq.trans (show ev _ _ = .bool (rC) from dI) (congrArg Value.bool cK)) ?_
         exact Zu (Zd (jV () _ _ ⟨gY,hfr,rS,⟨_,sS,jO⟩,tS,uS,vS,xS,kO,lO,mO,nO,oO⟩ h))
      ·rintro _ s01 q03 ⟨iY, hfr, yS, ⟨sZ, bE, pO⟩, zS, yB, bM, vF, qO, rO, iA, sO, iJ⟩ h
       refine Zf (L_loadO0 (x:=.tmp 8) Tryz.isAgg36 Tryz.sizeOf36 vF fun eT jY lV=>?_)
       obtain ⟨bG,mV,h⟩:=Gb h
       refine L_loadO (x:=.tmp 167) part_Design_1.1 Tryz.isAgg26 Tryz.sizeOf26 iJ fun lT kY nV=>?_
       obtain ⟨o0,oV,h⟩:=Gb h
       refine E_drawL (g:=iY) (n:=14) [(1,(fun v g w=>RV g.m w bG v)),(4,(fun v g w=>∃ y0 y1 y2 y3:Value,v=.tuple #[y0,y1,y2,y3]∧y0=.int .i64 (o0.1)∧RV g.m w (o0.2.1:List Int) y1∧y2=.int .i64 (o0.2.2.1)∧y3=.int .i64 (o0.2.2.2)))] [0,1,2,3,4,5,6,7,8,9,10,11,12,13] rfl mixed (by kernel_rfl) (⟨fun _=>up_rv,fun _=>(up_ex fun _=>(up_ex fun _=>(up_ex fun _=>(up_ex fun _=>(up_and (up_eq _) (up_and (up_eq _) (up_and up_rv (up_and (up_eq _) (up_eq _))))))))),trivial⟩) ?_
       refine L_ld (c:=eT) rfl rfl .plain (fun _ _ h=>⟨h.ch,fun b hb _=>h.below.block b hb⟩) lV bM ?_
       refine L_do (φ:=fun v g w=>RV g.m w bG v) rfl rfl .plain (fun g w hd=>Zp (g:=g) (vs:=[eT]) en12 (.cons rfl .nil) (wk12 (jY.ext hd.1) mV) fun g' w' v hs hr=>⟨g',hs,hr⟩) (fun qM hv=>?_)
       obtain ⟨_,_,_,rq381⟩:=hv
       refine Ga (fPtr oE 1) rfl rfl (Zc at_31_1 sO (OB.ptr iJ)) ?_
       refine L_ld (c:=lT) rfl rfl .plain (fun _ _ h=>⟨h.ch,fun b hb _=>h.below.block b hb⟩) nV rfl ?_
       refine L_do (φ:=fun v g w=>∃ y0 y1 y2 y3:Value,v=.tuple #[y0,y1,y2,y3]∧y0=.int .i64 (o0.1)∧RV g.m w (o0.2.1:List Int) y1∧y2=.int .i64 (o0.2.2.1)∧y3=.int .i64 (o0.2.2.2)) rfl rfl .plain (fun g w hd=>Zp (g:=g) (vs:=[qM,lT]) en19 (.cons rfl (.cons rfl .nil)) (wk19 (word (A:=fun g w=>RV g.m w bG qM) 1 rfl rfl (deps_of hd)) (kY.ext hd.1) oV) fun g' w' v hs hr=>⟨g',hs,hr⟩) (fun r03 hv=>?_)
       obtain ⟨_,_,_,_,vC,_,_,rfl,rfl,tZ,rfl,rfl⟩:=hv
       refine Ga (.tuple #[.int .i64 (o0.1),vC,.int .i64 (o0.2.2.1),.int .i64 (o0.2.2.2)]) rfl rfl (Zk rfl) ?_
       refine Ga (.int .i64 (o0.1)) rfl rfl (Zi rfl rfl) ?_
       refine Ga vC rfl rfl (Zi rfl rfl) ?_
       refine Ga (.int .i64 (o0.2.2.1)) rfl rfl (Zi rfl rfl) ?_
       refine Ga (.int .i64 (o0.2.2.2)) rfl rfl (Zi rfl rfl) ?_
       refine Ga (.int .i64 (o0.1)) rfl rfl (P_assign rfl) ?_
       refine Ga vC rfl rfl (P_assign rfl) ?_
       refine Ga (.int .i64 (o0.2.2.1)) rfl rfl (P_assign rfl) ?_
       refine Ga (.int .i64 (o0.2.2.2)) rfl rfl (P_assign rfl) ?_
       refine L_nil fun mT s03 hall=>?_
       have hs:=hall.1
       have hfr:=hfr.ext hs
       have bE:=bE.ext hs
       have yB:=yB.ext hs
       have vF:=vF.ext hs
       have iA:=iA.ext hs
       have t03:=(word_all (A:=fun g w=>RV g.m w bG qM) 1 rfl hall)
       have u03:=(tup4_1 (word_all (A:=fun g w=>∃ y0 y1 y2 y3:Value,Value.tuple #[.int .i64 (o0.1),vC,.int .i64 (o0.2.2.1),.int .i64 (o0.2.2.2)]=.tuple #[y0,y1,y2,y3]∧y0=.int .i64 (o0.1)∧RV g.m w (o0.2.1:List Int) y1∧y2=.int .i64 (o0.2.2.1)∧y3=.int .i64 (o0.2.2.2)) 4 rfl hall))
       have mY:=(tup4_1 (word_all (A:=fun g w=>∃ y0 y1 y2 y3:Value,Value.tuple #[.int .i64 (o0.1),vC,.int .i64 (o0.2.2.1),.int .i64 (o0.2.2.2)]=.tuple #[y0,y1,y2,y3]∧y0=.int .i64 (o0.1)∧RV g.m w (o0.2.1:List Int) y1∧y2=.int .i64 (o0.2.2.1)∧y3=.int .i64 (o0.2.2.2)) 4 rfl hall))
       clear hs hall
       refine Zb (Zd (Zf (Za (Ze .plain rfl (D_loadO (g:=mT) Tryz.isAgg36 Tryz.sizeOf36 bM vF fun nY oY=>?_)))))
       refine Zn (.int .i64 (o0.1)) rfl rfl ?_
       refine Zn vC rfl rfl ?_
       obtain ⟨rA,pV,h⟩:=Gb h
       refine Ze .plain rfl (Zp (g:=mT) (vs:=[nY,.int .i64 (o0.1),vC]) en11 (.cons rfl (.cons rfl (.cons rfl .nil))) (wk11 oY mY pV) fun v03 t01 x03 hs hr=>?_)
       have hfr:=hfr.ext hs
       have bE:=bE.ext hs
       have yB:=yB.ext hs
       have iA:=iA.ext hs
       obtain ⟨aD,k00,l00,rfl,xF,rfl,rfl⟩:=hr
       refine Zn (.tuple #[aD,.int .i64 (rA.2.1),.int .i64 (rA.2.2)]) rfl rfl ?_
       refine Zx aD (Zi rfl rfl) rfl ?_
       refine Zx (.int .i64 (rA.2.1)) (Zi rfl rfl) rfl ?_
       refine Zx (.int .i64 (rA.2.2)) (Zi rfl rfl) rfl ?_
       refine Zg aD rfl rfl ?_
       refine Zg (.int .i64 (rA.2.1)) rfl rfl ?_
       refine Zg (.int .i64 (rA.2.2)) rfl rfl ?_
       refine Zb (Zd (Zf (Za ?_)))
       obtain ⟨go412,hs,b412⟩:=OV.toOB bE pO
       have hfr:=hfr.stp hs
       have yB:=yB.stp hs rfl
       have iA:=iA.stp hs
       have xF:=xF.stp hs
       refine Ze .plain rfl (D_loadO (g:=go412) Tryz.isAgg28 Tryz.sizeOf28 yS b412 fun pY qY=>?_)
       refine Zx (fPtr v9 0) (Zc at_31_0 zS (OB.ptr yB)) rfl ?_
       refine Ze .plain rfl (D_loadF (g:=go412) part_Design_0.1 Tryz.isAgg3 Tryz.sizeOf3 rfl yB fun y03 uY=>?_)
       obtain rfl:=Zj.1 uY
       refine Zn aD rfl rfl ?_
       have nT:RV go412.m _ (⟨(y7).Hooks,rA.1⟩:Design) (.agg (setCh [[.int .i64 0],[.slice none 0 0]] [(0,.int .i64 ((y7).Hooks)),(1,aD)]).flatten.toArray):=RV_build rfl (rep_pair (rfl) (rep_last (RV.cells xF)))
       generalize qV:(Value.agg (setCh [[.int .i64 0],[.slice none 0 0]] [(0,.int .i64 ((y7).Hooks)),(1,aD)]).flatten.toArray)=oT at nT
       refine Zx oT (qV ▸ P_build (vs:=[(0,.int .i64 ((y7).Hooks)),(1,aD)]) [[.int .i64 0],[.slice none 0 0]] lay_31 rfl rfl (.cons rfl (.cons rfl .nil)) ⟨⟨_,rfl,rfl⟩,⟨⟨_,rfl,cells_size xF⟩,trivial⟩⟩) rfl ?_
       obtain ⟨zB,rV,h⟩:=Gb h
       refine Ze .plain rfl (Zp (g:=go412) (vs:=[pY,oT]) en14 (.cons rfl (.cons rfl .nil)) (wk14 qY nT rV) fun yG u01 z03 hs hr=>?_)
       have hfr:=hfr.ext hs
       have iA:=iA.ext hs
       obtain ⟨iE,m00,rfl,pT,rfl⟩:=hr
       refine Zn (.tuple #[iE,.int .i64 (zB.2)]) rfl rfl ?_
       refine Zx iE (Zi rfl rfl) rfl ?_
       refine Zx (.int .i64 (zB.2)) (Zi rfl rfl) rfl ?_
       refine Zg iE rfl rfl ?_
       refine Zg (.int .i64 (zB.2)) rfl rfl ?_
       refine Zb (Zd ?_)
       obtain ⟨uE,hx,h⟩:=Gb h
       refine E_join (fun e w=>∃ (g:Gh) ,Fr gI wI g w∧e 4=.bool (uE)) (fun Q' hQ=>?_) (fun v01 a04 hR=>?_)
       ·replace h := hx
        clear hx
        refine Za (Zn (.int .i64 (o0.2.2.2)) rfl rfl ?_)
        refine EL_in (.bool ((o0.2.2.2 == (0:Int)))) rfl rfl rfl rfl ?_
        refine Zn (.bool ((o0.2.2.2 == (0:Int)))) rfl rfl ?_
        rcases Zt h with ⟨vD,h⟩ | ⟨vD,h⟩
        ·refine Zy (.int .i64 (rA.2.2)) (Zk rfl) rfl rfl vD rfl ?_
         refine Zy (.bool ((rA.2.2 == (0:Int)))) (P_int rfl rfl rfl) rfl rfl vD rfl ?_
         refine Zx (.bool ((rA.2.2 == (0:Int)))) (Zl (b:=(o0.2.2.2 == (0:Int))) rfl (pick_t vD rfl)) rfl ?_
         refine Zn (.bool ((rA.2.2 == (0:Int)))) rfl rfl ?_
         rcases Zt h with ⟨xD,h⟩ | ⟨xD,h⟩
         ·refine Zy (.int .i64 (zB.2)) (Zk rfl) rfl rfl xD rfl ?_
          refine Zy (.bool ((zB.2 == (0:Int)))) (P_int rfl rfl rfl) rfl rfl xD rfl ?_
          refine Zx (.bool ((zB.2 == (0:Int)))) (Zl (b:=(rA.2.2 == (0:Int))) rfl (pick_t xD rfl)) rfl ?_
          refine Zn (.bool ((zB.2 == (0:Int)))) rfl rfl ?_
          rcases Zt h with ⟨yD,h⟩ | ⟨yD,h⟩
          ·refine Zy (.int .i64 (o0.2.2.1)) (Zk rfl) rfl rfl yD rfl ?_
           refine Zy (.bool ((decide (o0.2.2.1 ≥ (0:Int))))) (P_int rfl rfl rfl) rfl rfl yD rfl ?_
           refine Zx (.bool ((decide (o0.2.2.1 ≥ (0:Int))))) (Zl (b:=(zB.2 == (0:Int))) rfl (pick_t yD rfl)) rfl ?_
           refine Zn (.bool ((decide (o0.2.2.1 ≥ (0:Int))))) rfl rfl ?_
           rcases Zt h with ⟨cC,h⟩ | ⟨cC,h⟩
           ·refine Zy (.int .i64 (o0.2.2.1)) (Zk rfl) rfl rfl cC rfl ?_
            refine Zy (.int .i64 (l8)) (Zk qO) rfl rfl cC rfl ?_
            refine Zy (.bool ((decide (o0.2.2.1 ≤ l8)))) (P_int rfl rfl rfl) rfl rfl cC rfl ?_
            refine Zx (.bool ((decide (o0.2.2.1 ≤ l8)))) (Zl (b:=(decide (o0.2.2.1 ≥ (0:Int)))) rfl (pick_t cC rfl)) rfl ?_
            refine Zn (.bool ((decide (o0.2.2.1 ≤ l8)))) rfl rfl ?_
            rcases Zt h with ⟨mC,h⟩ | ⟨mC,h⟩
            ·refine Zy iE (Zk rfl) rfl rfl mC rfl ?_
             refine Zy bA (Zk rO) rfl rfl mC rfl ?_
             obtain ⟨cG,sV,h⟩:=Gb h
             refine Ze (.yes2 rfl rfl mC) rfl (Zp (g:=yG) (vs:=[iE,bA]) en20 (.cons rfl (.cons rfl .nil)) (wk20 pT iA sV) fun sT x01 b04 hs hr=>?_)
             have hfr:=hfr.ext hs
             subst hr
             refine Zx (.bool (cG)) (Zl (b:=(decide (o0.2.2.1 ≤ l8))) rfl (pick_t mC rfl)) rfl ?_
             refine Zn (.bool (cG)) rfl rfl ?_
             rcases Zt h with ⟨yF,h⟩ | ⟨yF,h⟩
             ·obtain ⟨eG, tV, h⟩ := Gb h
              refine Ze (.yes2 rfl rfl yF) rfl (Zp (g:=sT) (vs:=[]) en6 .nil (wk6  tV) fun tT y01 c04 hs hr=>?_)
              have hfr:=hfr.ext hs
              subst hr
              refine Zx (.bool (eG)) (Zl (b:=cG) rfl (pick_t yF rfl)) rfl ?_
              refine Zn (.bool (eG)) rfl rfl ?_
              rcases Zt h with ⟨zF,h⟩ | ⟨zF,h⟩
              ·obtain ⟨kJ, uV, h⟩ := Gb h
               refine Ze (.yes2 rfl rfl zF) rfl (Zp (g:=tT) (vs:=[]) en7 .nil (wk7  uV) fun vY z01 d04 hs hr=>?_)
               have hfr:=hfr.ext hs
               subst hr
               refine Zx (.bool (kJ)) (Zl (b:=eG) rfl (pick_t zF rfl)) rfl ?_
               refine Zg (.bool (kJ)) rfl rfl ?_
               refine Zb ?_
               obtain rfl:=sinj h
               exact hQ _ _ ⟨vY,hfr,rfl⟩
              ·refine Zz rfl rfl zF rfl rfl ?_
               refine Zx (.bool false) (Zl (b:=eG) rfl (pick_f zF rfl)) rfl ?_
               refine Zg (.bool false) rfl rfl ?_
               refine Zb ?_
               obtain rfl:=sinj h
               exact hQ _ _ ⟨tT,hfr,rfl⟩
             ·refine Zz rfl rfl yF rfl rfl ?_
              refine Zx (.bool false) (Zl (b:=cG) rfl (pick_f yF rfl)) rfl ?_
              refine EL_dead 3 rfl ?_
              refine Zg (.bool false) rfl rfl ?_
              refine Zb ?_
              obtain rfl:=sinj h
              exact hQ _ _ ⟨sT,hfr,rfl⟩
            ·refine Zz rfl rfl mC rfl rfl ?_
             refine Zz rfl rfl mC rfl rfl ?_
             refine Zz rfl rfl mC rfl rfl ?_
             refine Zx (.bool false) (Zl (b:=(decide (o0.2.2.1 ≤ l8))) rfl (pick_f mC rfl)) rfl ?_
             refine EL_dead 6 rfl ?_
             refine Zg (.bool false) rfl rfl ?_
             refine Zb ?_
             obtain rfl:=sinj h
             exact hQ _ _ ⟨yG,hfr,rfl⟩
           ·refine Zz rfl rfl cC rfl rfl ?_
            refine Zz rfl rfl cC rfl rfl ?_
            refine Zz rfl rfl cC rfl rfl ?_
            refine Zx (.bool false) (Zl (b:=(decide (o0.2.2.1 ≥ (0:Int)))) rfl (pick_f cC rfl)) rfl ?_
            refine EL_dead 11 rfl ?_
            refine Zg (.bool false) rfl rfl ?_
            refine Zb ?_
            obtain rfl:=sinj h
            exact hQ _ _ ⟨yG,hfr,rfl⟩
          ·refine Zz rfl rfl yD rfl rfl ?_
           refine Zz rfl rfl yD rfl rfl ?_
           refine Zx (.bool false) (Zl (b:=(zB.2 == (0:Int))) rfl (pick_f yD rfl)) rfl ?_
           refine EL_dead 16 rfl ?_
           refine Zg (.bool false) rfl rfl ?_
           refine Zb ?_
           obtain rfl:=sinj h
           exact hQ _ _ ⟨yG,hfr,rfl⟩
         ·refine Zz rfl rfl xD rfl rfl ?_
          refine Zz rfl rfl xD rfl rfl ?_
          refine Zx (.bool false) (Zl (b:=(rA.2.2 == (0:Int))) rfl (pick_f xD rfl)) rfl ?_
          refine EL_dead 20 rfl ?_
          refine Zg (.bool false) rfl rfl ?_
          refine Zb ?_
          obtain rfl:=sinj h
          exact hQ _ _ ⟨yG,hfr,rfl⟩
        ·refine Zz rfl rfl vD rfl rfl ?_
         refine Zz rfl rfl vD rfl rfl ?_
         refine Zx (.bool false) (Zl (b:=(o0.2.2.2 == (0:Int))) rfl (pick_f vD rfl)) rfl ?_
         refine EL_dead 24 rfl ?_
         refine Zg (.bool false) rfl rfl ?_
         refine Zb ?_
         obtain rfl:=sinj h
         exact hQ _ _ ⟨yG,hfr,rfl⟩
       ·clear hx
        obtain ⟨e04,hfr,uT⟩:=hR
        refine E_ret ?_
        obtain rfl:=sinj h
        exact end1 rfl rfl (show _=.bool (uE) from uT) ⟨_,hfr,rfl⟩
end Go.Proofs.YtkfdjkkbnfohjaaGreatDoor
