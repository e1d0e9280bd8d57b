import Derived.Test.YtomjodbnpgbjnaaGreatCode1
set_option maxRecDepth 8000
set_option maxHeartbeats 4000000
namespace Go.Proofs.YtomjodbnpgbjnaaGreat
open Go.RowKit
def f110 (x0:Int) (z0:Int) (z1:Int):Option (Bool):=
 Option.bind (α:=Bool) (
  bif (decide (x0 < z0)) then
   some (true)
  else
   some ((decide (x0 > z1)))
  ) fun o0=>
 some (o0)
theorem en110:Enters Tryz.prog 110:=enters_of Tryz.func110 (by kernel_rfl) rfl
theorem wk110 {gI:Gh} {wI:World} {x0:Int} {z0:Int} {z1:Int} {pf0:Value} (qf0:PT gI.m wI z0 pf0) {pf1:Value} (qf1:PT gI.m wI z1 pf1) {r:Bool} (h:f110 x0 z0 z1=some r):Fn Tryz.prog 110 #[.int .i64 (x0),pf0,pf1] gI wI (fun _ _ v=>v=.bool (r)):=by
 unfold f110 at h
 refine fn_of_E Tryz.func110 rfl (Nat.le_of_ble_eq_true rfl) fun g0 hm hfr=>?_
 have qf0:PT g0.m wI z0 pf0:=hm ▸ qf0
 have qf1:PT g0.m wI z1 pf1:=hm ▸ qf1
 show E _ 13 none _ _ _ _ _
 refine Zf (Za (Zg (.bool false) rfl rfl ?_))
 refine Zb (Zd ?_)
 obtain ⟨o0,hx,h⟩:=bsome h
 refine E_join (fun e w=>∃ (g:Gh) ,Fr gI wI g w∧e 4=.bool (o0)) (fun Q' hQ=>?_) (fun j1 w7 hR=>?_)
 ·replace h := hx
  clear hx
  refine Za (Zn (.int .i64 (x0)) rfl rfl ?_)
  refine Ze .plain rfl (D_load (g:=g0) Tryz.isAgg3 Tryz.sizeOf3 rfl qf0 fun v4 r4=>?_)
  obtain rfl:=Zj.1 r4
  refine EL_in (.bool ((decide (x0 < z0)))) rfl rfl rfl rfl ?_
  refine Zn (.bool ((decide (x0 < z0)))) rfl rfl ?_
  rcases Zt h with ⟨hc5,h⟩ | ⟨hc5,h⟩
  ·refine EL_s rfl rfl hc5 rfl rfl ?_
   refine EL_s rfl rfl hc5 rfl rfl ?_
   refine EL_s rfl rfl hc5 rfl rfl ?_
   refine EL_p (.bool true) (Zl (b:=(decide (x0 < z0))) rfl (pick_t hc5 rfl)) rfl ?_
   refine Zg (.bool true) rfl rfl ?_
   refine Zb ?_
   obtain rfl:=sinj h
   exact hQ _ _ ⟨g0,hfr,rfl⟩
  ·refine EL_y (.int .i64 (x0)) (Zk rfl) rfl rfl hc5 rfl ?_
   refine Ze (.yes2 rfl rfl hc5) rfl (D_load (g:=g0) Tryz.isAgg3 Tryz.sizeOf3 rfl qf1 fun v6 r6=>?_)
   obtain rfl:=Zj.1 r6
   refine EL_y (.bool ((decide (x0 > z1)))) (P_int rfl rfl rfl) rfl rfl hc5 rfl ?_
   refine EL_p (.bool ((decide (x0 > z1)))) (Zl (b:=(decide (x0 < z0))) rfl (pick_f hc5 rfl)) rfl ?_
   refine Zg (.bool ((decide (x0 > z1)))) rfl rfl ?_
   refine Zb ?_
   obtain rfl:=sinj h
   exact hQ _ _ ⟨g0,hfr,rfl⟩
 ·clear hx
  obtain ⟨g7,hfr,u0⟩:=hR
  refine E_ret ?_
  obtain rfl:=sinj h
  exact end1 rfl rfl (show _=.bool (o0) from u0) ⟨_,hfr,rfl⟩
def f111 (x0:Int) (z0:Int) (z1:Int):Option (Bool):=
 Option.bind (α:=Bool) (
  bif (decide (x0 < z0)) then
   some (true)
  else
   some ((decide (x0 > z1)))
  ) fun o0=>
 some (o0)
theorem en111:Enters Tryz.prog 111:=enters_of Tryz.func111 (by kernel_rfl) rfl
theorem wk111 {gI:Gh} {wI:World} {x0:Int} {z0:Int} {z1:Int} {pf0:Value} (qf0:PT gI.m wI z0 pf0) {pf1:Value} (qf1:PT gI.m wI z1 pf1) {r:Bool} (h:f111 x0 z0 z1=some r):Fn Tryz.prog 111 #[.int .i64 (x0),pf0,pf1] gI wI (fun _ _ v=>v=.bool (r)):=by
 unfold f111 at h
 refine fn_of_E Tryz.func111 rfl (Nat.le_of_ble_eq_true rfl) fun g0 hm hfr=>?_
 have qf0:PT g0.m wI z0 pf0:=hm ▸ qf0
 have qf1:PT g0.m wI z1 pf1:=hm ▸ qf1
 show E _ 13 none _ _ _ _ _
 refine Zf (Za (Zg (.bool false) rfl rfl ?_))
 refine Zb (Zd ?_)
 obtain ⟨o0,hx,h⟩:=bsome h
 refine E_join (fun e w=>∃ (g:Gh) ,Fr gI wI g w∧e 4=.bool (o0)) (fun Q' hQ=>?_) (fun j1 w7 hR=>?_)
 ·replace h := hx
  clear hx
  refine Za (Zn (.int .i64 (x0)) rfl rfl ?_)
  refine Ze .plain rfl (D_load (g:=g0) Tryz.isAgg3 Tryz.sizeOf3 rfl qf0 fun v4 r4=>?_)
  obtain rfl:=Zj.1 r4
  refine EL_in (.bool ((decide (x0 < z0)))) rfl rfl rfl rfl ?_
  refine Zn (.bool ((decide (x0 < z0)))) rfl rfl ?_
  rcases Zt h with ⟨hc5,h⟩ | ⟨hc5,h⟩
  ·refine EL_s rfl rfl hc5 rfl rfl ?_
   refine EL_s rfl rfl hc5 rfl rfl ?_
   refine EL_s rfl rfl hc5 rfl rfl ?_
   refine EL_p (.bool true) (Zl (b:=(decide (x0 < z0))) rfl (pick_t hc5 rfl)) rfl ?_
   refine Zg (.bool true) rfl rfl ?_
   refine Zb ?_
   obtain rfl:=sinj h
   exact hQ _ _ ⟨g0,hfr,rfl⟩
  ·refine EL_y (.int .i64 (x0)) (Zk rfl) rfl rfl hc5 rfl ?_
   refine Ze (.yes2 rfl rfl hc5) rfl (D_load (g:=g0) Tryz.isAgg3 Tryz.sizeOf3 rfl qf1 fun v6 r6=>?_)
   obtain rfl:=Zj.1 r6
   refine EL_y (.bool ((decide (x0 > z1)))) (P_int rfl rfl rfl) rfl rfl hc5 rfl ?_
   refine EL_p (.bool ((decide (x0 > z1)))) (Zl (b:=(decide (x0 < z0))) rfl (pick_f hc5 rfl)) rfl ?_
   refine Zg (.bool ((decide (x0 > z1)))) rfl rfl ?_
   refine Zb ?_
   obtain rfl:=sinj h
   exact hQ _ _ ⟨g0,hfr,rfl⟩
 ·clear hx
  obtain ⟨g7,hfr,u0⟩:=hR
  refine E_ret ?_
  obtain rfl:=sinj h
  exact end1 rfl rfl (show _=.bool (o0) from u0) ⟨_,hfr,rfl⟩
def f112 (x0:List FaultDamage) (x1:Int) (x2:Int) (x3:FaultDamage→FaultDamage→Option Int):Option ((List FaultDamage)):=
 lp (σ:=(List FaultDamage) × Int) (fun k1 (v6,d3)=>
  jn (σ:=Unit) (fun _=>
   Option.bind (α:=(List FaultDamage)) (
    lp (σ:=(List FaultDamage) × Int) (fun i8 (j1,o0)=>
     jn (σ:=Unit) (fun _=>
      Option.bind (α:=(List FaultDamage)) (
       (idx j1 (w64 (o0 - (1:Int)))).bind fun x6=>
       (idx j1 o0).bind fun m7=>
       (idx j1 o0).bind fun zA=>
       (idx ((List.set j1 (Int.toNat o0) x6)) (w64 (o0 - (1:Int)))).bind fun aB=>
       some ((List.set ((List.set j1 (Int.toNat o0) x6)) (Int.toNat (w64 (o0 - (1:Int)))) m7))
       ) fun z4=>
      i8 (z4,(w64 (o0 - (1:Int))))
      ) fun k8=>
     Option.bind (α:=Bool) (
      bif (decide (o0 > x1)) then
       (idx j1 o0).bind fun l8=>
       (idx j1 (w64 (o0 - (1:Int)))).bind fun m8=>
       (x3 l8 m8).bind fun t5=>
       some ((decide (t5 < (0:Int))))
      else
       some (false)
      ) fun j3=>
     bif j3 then
      k8 ()
     else
      some (j1)
     ) big (v6,d3)
    ) fun i5=>
   k1 (i5,(w64 (d3 + (1:Int))))
   ) fun k4=>
  bif (decide (d3 < x2)) then
   k4 ()
  else
   some (v6)
  ) big (x0,(w64 (x1 + (1:Int))))
theorem en112:Enters Tryz.prog 112:=enters_of Tryz.func112 (by kernel_rfl) rfl
theorem wk112 {iI:Nat} {gI:Gh} {wI:World} {x0:List FaultDamage} {x1:Int} {x2:Int} {x3:FaultDamage→FaultDamage→Option Int} {up0:Value} (mp0:OM iI gI wI 45 x0 up0) {up3:Value} (rp3:FnV2 Tryz.prog x3 up3 gI wI) {r:(List FaultDamage)} (h:f112 x0 x1 x2 x3=some r):FnM Tryz.prog 112 #[up0,.int .i64 (x1),.int .i64 (x2),up3] iI gI wI (fun g w v=>v=.tuple #[]∧OM iI g w 45 r up0):=by
 unfold f112 at h
 refine fnM_of_E Tryz.func112 rfl (Nat.le_of_ble_eq_true rfl) fun g0 hm hfr=>?_
 have oA:=mp0
 replace mp0:=mp0.enter
 rw [← hm] at mp0
 replace hm:g0.m=gI.m:=by rw [hm]
 obtain ⟨ff3,fa3,fc3,rfl,fen3,fcl3⟩:=rp3
 show E _ 53 none _ _ _ _ _
 refine Zf (Za (Zn (.int .i64 (x1)) rfl rfl ?_))
 refine EL_in (.int .i64 ((w64 (x1 + (1:Int))))) rfl rfl rfl rfl ?_
 refine Zg (.int .i64 ((w64 (x1 + (1:Int))))) rfl rfl ?_
 refine Zb (Zd (Zr ?_))
 refine E_lp h (fun (s:(List FaultDamage) × Int) e w=>∃ (g:Gh) ,FrM iI gI wI g w∧e 0=up0∧OM 1 g w 45 (s.1:List FaultDamage) up0∧e 1=.int .i64 (x1)∧e 2=.int .i64 (x2)∧e 3=(.func (.func ff3) fa3 fc3)∧e 8=.int .i64 (s.2)) ⟨g0,hfr,rfl,mp0,rfl,rfl,rfl,rfl⟩ (fun X1 k1 hk1=>?_)
 rintro ⟨v6,d3⟩ cD w2 ⟨g2,hfr,bB,n8,cB,o8,dB,q8⟩ h
 refine Zq h (fun (s:Unit) e w=>∃ (g:Gh) ,FrM iI gI wI g w∧e 0=up0∧OM 1 g w 45 (v6:List FaultDamage) up0∧e 1=.int .i64 (x1)∧e 2=.int .i64 (x2)∧e 3=(.func (.func ff3) fa3 fc3)∧e 8=.int .i64 (d3)) (fun X4 k4 hk4 h=>?_) ?_
 ·refine Zf (Za (Zo q8 rfl ?_))
  refine Zo o8 rfl ?_
  refine EL_in (.bool ((decide (d3 < x2)))) rfl rfl rfl rfl ?_
  refine Zb (Zd ?_)
  rcases Zt h with ⟨hc5,h⟩ | ⟨hc5,h⟩
  ·refine E_ct hc5 rfl ?_
   exact Zu (Zd (hk4 () _ _ ⟨g2,hfr,bB,n8,cB,o8,dB,q8⟩ h))
  ·refine E_cf hc5 rfl ?_
   refine E_exit ?_
   refine thn_e ?_
   refine thn_e ?_
   refine blk_hit ?_
   obtain rfl:=sinj h
   exact end0n rfl rfl ⟨_,hfr,rfl,oA.back n8⟩
 ·rintro _ eD w6 ⟨g6, hfr, eB, iB, jB, kB, lB, r8⟩ h
  obtain ⟨i5,hx,h⟩:=bsome h
  refine E_join (fun e w=>∃ (g:Gh) ,FrM iI gI wI g w∧e 0=up0∧OM 1 g w 45 (i5:List FaultDamage) up0∧e 1=.int .i64 (x1)∧e 2=.int .i64 (x2)∧e 3=(.func (.func ff3) fa3 fc3)∧e 8=.int .i64 (d3)) (fun Q' hQ=>?_) (fun iC qC hR=>?_)
  ·replace h := hx
   clear hx
   refine Zr ?_
   refine Zf (Za (Zo r8 rfl ?_))
   refine Zg (.int .i64 (d3)) rfl rfl ?_
   refine Zb (Zd (Zr ?_))
   refine E_lp h (fun (s:(List FaultDamage) × Int) e w=>∃ (g:Gh) ,FrM iI gI wI g w∧e 0=up0∧OM 1 g w 45 (s.1:List FaultDamage) up0∧e 1=.int .i64 (x1)∧e 2=.int .i64 (x2)∧e 3=(.func (.func ff3) fa3 fc3)∧e 8=.int .i64 (d3)∧e 9=.int .i64 (s.2)) ⟨g6,hfr,eB,iB,jB,kB,lB,r8,rfl⟩ (fun X297 i8 pA=>?_)
   rintro ⟨j1,o0⟩ jC rC ⟨t8,hfr,l5,z2,q5,a7,x5,b7,o3⟩ h
   refine Zq h (fun (s:Unit) e w=>∃ (g:Gh) ,FrM iI gI wI g w∧e 0=up0∧OM 1 g w 45 (j1:List FaultDamage) up0∧e 1=.int .i64 (x1)∧e 2=.int .i64 (x2)∧e 3=(.func (.func ff3) fa3 fc3)∧e 8=.int .i64 (d3)∧e 9=.int .i64 (o0)) (fun X411 k8 qA h=>?_) ?_
   ·obtain ⟨j3, hx, h⟩ := bsome h
    refine E_join (fun e w=>∃ (g:Gh) ,FrM iI gI wI g w∧e 0=up0∧OM 1 g w 45 (j1:List FaultDamage) up0∧e 1=.int .i64 (x1)∧e 2=.int .i64 (x2)∧e 3=(.func (.func ff3) fa3 fc3)∧e 8=.int .i64 (d3)∧e 9=.int .i64 (o0)∧e 34=.bool (j3)) (fun Q' hQ=>?_) (fun kC tC hR=>?_)
    ·replace h := hx
     clear hx
     rcases Zt h with ⟨u0,h⟩ | ⟨u0,h⟩
     ·obtain ⟨l8, o7, h⟩ := bsome h
      refine L_loadM (x:=.tmp 25) Tryz.isAgg45 Tryz.sizeOf45 z2 o7 fun v8 mB rA=>?_
      obtain ⟨m8,u7,h⟩:=bsome h
      refine L_loadM (x:=.tmp 30) Tryz.isAgg45 Tryz.sizeOf45 z2 u7 fun x8 nB sA=>?_
      obtain ⟨t5,uA,h⟩:=bsome h
      refine E_drawL (g:=t8) (n:=17) [(14,(fun v g w=>v=.int .i64 (t5)))] [0,1,2,3,4,5,6,7,8,9,10,11,12,13,14,15,16] rfl mixed (by kernel_rfl) (⟨fun _=>up_eq _,trivial⟩) ?_
      refine L_p (.int .i64 (o0)) rfl rfl (Zk o3) ?_
      refine L_p (.int .i64 (x1)) rfl rfl (Zk q5) ?_
      refine L_p (.bool ((decide (o0 > x1)))) rfl rfl (P_int rfl rfl rfl) ?_
      refine L_p (.bool ((decide (o0 > x1)))) rfl rfl (Zk rfl) ?_
      refine L_y ((.func (.func ff3) fa3 fc3)) rfl rfl rfl rfl u0 (Zk x5) ?_
      refine L_y up0 rfl rfl rfl rfl u0 (Zk l5) ?_
      refine L_y (.int .i64 (o0)) rfl rfl rfl rfl u0 (Zk o3) ?_
      refine L_y (ePtr up0 o0 5) rfl rfl rfl rfl u0 (P_indexAddrM (α:=FaultDamage) Tryz.underlying47 Tryz.sizeOf45 rfl z2 rfl o7) ?_
      refine L_ld (c:=v8) rfl rfl (.yes2 rfl rfl u0) (fun _ _ h=>⟨h.ch,fun b hb _=>h.below.block b hb⟩) rA rfl ?_
      refine L_y up0 rfl rfl rfl rfl u0 (Zk l5) ?_
      refine L_y (.int .i64 (o0)) rfl rfl rfl rfl u0 (Zk o3) ?_
      refine L_y (.int .i64 ((w64 (o0 - (1:Int))))) rfl rfl rfl rfl u0 (P_int rfl rfl rfl) ?_
      refine L_y (ePtr up0 (w64 (o0 - (1:Int))) 5) rfl rfl rfl rfl u0 (P_indexAddrM (α:=FaultDamage) Tryz.underlying47 Tryz.sizeOf45 rfl z2 rfl u7) ?_
      refine L_ld (c:=x8) rfl rfl (.yes2 rfl rfl u0) (fun _ _ h=>⟨h.ch,fun b hb _=>h.below.block b hb⟩) sA rfl ?_
      refine L_do (φ:=fun v g w=>v=.int .i64 (t5)) rfl rfl (.yes2 rfl rfl u0) (fun g w hd=>D_callv (g:=g) (vs:=[v8,x8]) rfl fen3 (.cons rfl (.cons rfl .nil)) (fcl3 _ _ (hfr.ext hd.1).ch _ _ _ _ _  (mB.ext hd.1) (nB.ext hd.1) uA) fun g' w' v hs hr=>⟨g',hs,Zj.1 hr⟩) (fun uC hv=>?_)
      obtain ⟨_,_,_,rfl⟩:=hv
      refine L_y (.bool ((decide (t5 < (0:Int))))) rfl rfl rfl rfl u0 (P_int rfl rfl rfl) ?_
      refine L_p (.bool ((decide (t5 < (0:Int))))) rfl rfl (Zl (b:=(decide (o0 > x1))) rfl (pick_t u0 rfl)) ?_
      refine L_nl fun oB vC hs=>?_
      have hfr:=hfr.ext hs
      have z2:=z2.ext hs
      clear hs
      refine Zb ?_
      obtain rfl:=sinj h
      exact hQ _ _ ⟨oB,hfr,l5,z2,q5,a7,x5,b7,o3,rfl⟩
     ·refine E_drawL (g := t8) (n := 17) [] [0, 1, 2, 3, 4, 5, 6, 7, 8, 9, 10, 11, 12, 13, 14, 15, 16] rfl mixed (by kernel_rfl) trivial ?_
      refine L_p (.int .i64 (o0)) rfl rfl (Zk o3) ?_
      refine L_p (.int .i64 (x1)) rfl rfl (Zk q5) ?_
      refine L_p (.bool ((decide (o0 > x1)))) rfl rfl (P_int rfl rfl rfl) ?_
      refine L_p (.bool ((decide (o0 > x1)))) rfl rfl (Zk rfl) ?_
      iterate 12 refine L_s rfl rfl rfl u0 rfl ?_
      refine L_p (.bool false) rfl rfl (Zl (b:=(decide (o0 > x1))) rfl (pick_f u0 rfl)) ?_
      refine L_nl fun tB xC hs=>?_
      have hfr:=hfr.ext hs
      have z2:=z2.ext hs
      clear hs
      refine Zb ?_
      obtain rfl:=sinj h
      exact hQ _ _ ⟨tB,hfr,l5,z2,q5,a7,x5,b7,o3,rfl⟩
    ·clear hx
     obtain ⟨y8,hfr,c7,d7,e7,g7,i7,j7,a9,j6⟩:=hR
     rcases Zt h with ⟨y6,h⟩ | ⟨y6,h⟩
     ·refine E_cond_true (Eq.trans (show ev _ _ = .bool (j3) from j6) (congrArg Value.bool y6)) ?_
      exact Zu (Zd (qA () _ _ ⟨y8,hfr,c7,d7,e7,g7,i7,j7,a9⟩ h))
     ·refine E_cond_false (Eq.trans (show ev _ _ = .bool (j3) from j6) (congrArg Value.bool y6)) ?_
      refine E_exit ?_
      refine thn_e ?_
      refine thn_e ?_
      refine blk_hit ?_
      refine blk_n ?_
      obtain rfl:=sinj h
      exact hQ _ _ ⟨y8,hfr,c7,d7,e7,g7,i7,j7⟩
   ·rintro _ lC vB ⟨d9, hfr, u3, i3, e9, i9, k9, l9, z3⟩ h
    obtain ⟨z4,hx,h⟩:=bsome h
    refine E_join (fun e w=>∃ (g:Gh) ,FrM iI gI wI g w∧e 0=up0∧OM 1 g w 45 (z4:List FaultDamage) up0∧e 1=.int .i64 (x1)∧e 2=.int .i64 (x2)∧e 3=(.func (.func ff3) fa3 fc3)∧e 8=.int .i64 (d3)∧e 9=.int .i64 (o0)) (fun Q' hQ=>?_) (fun mC yC hR=>?_)
    ·replace h := hx
     clear hx
     refine Zr ?_
     obtain ⟨x6,v7,h⟩:=bsome h
     refine L_loadM (x:=.tmp 45) Tryz.isAgg45 Tryz.sizeOf45 i3 v7 fun xB n7 xA=>?_
     obtain ⟨m7,c8,h⟩:=bsome h
     refine L_loadM (x:=.tmp 49) Tryz.isAgg45 Tryz.sizeOf45 i3 c8 fun yB i6 yA=>?_
     obtain ⟨zA,e8,h⟩:=bsome h
     refine E_drawTL (g:=d9) (n:=15) [2,3,4] [] [0,1,2,3,4,5,6,7,8,9,10,11,12,13,14] rfl mixed (by kernel_rfl) trivial rfl ?_
     refine L_p up0 rfl rfl (Zk u3) ?_
     refine L_p (.int .i64 (o0)) rfl rfl (Zk z3) ?_
     refine L_purL (c:=up0) rfl rfl .plain (Zk u3) ?_
     refine L_purL (c:=.int .i64 (o0)) rfl rfl .plain (Zk z3) ?_
     refine L_purL (c:=.int .i64 ((w64 (o0 - (1:Int))))) rfl rfl .plain (P_int rfl rfl rfl) ?_
     refine L_p up0 rfl rfl (Zk u3) ?_
     refine L_p (.int .i64 (o0)) rfl rfl (Zk z3) ?_
     refine L_p (.int .i64 ((w64 (o0 - (1:Int))))) rfl rfl (P_int rfl rfl rfl) ?_
     refine L_p (ePtr up0 (w64 (o0 - (1:Int))) 5) rfl rfl (P_indexAddrM (α:=FaultDamage) Tryz.underlying47 Tryz.sizeOf45 rfl i3 rfl v7) ?_
     refine L_ld (c:=xB) rfl rfl .plain (fun _ _ h=>⟨h.ch,fun b hb _=>h.below.block b hb⟩) xA rfl ?_
     refine L_p up0 rfl rfl (Zk u3) ?_
     refine L_p (.int .i64 (o0)) rfl rfl (Zk z3) ?_
     refine L_p (ePtr up0 o0 5) rfl rfl (P_indexAddrM (α:=FaultDamage) Tryz.underlying47 Tryz.sizeOf45 rfl i3 rfl c8) ?_
     refine L_ld (c:=yB) rfl rfl .plain (fun _ _ h=>⟨h.ch,fun b hb _=>h.below.block b hb⟩) yA rfl ?_
     refine L_p (ePtr up0 o0 5) rfl rfl (P_indexAddrM (α:=FaultDamage) Tryz.underlying47 Tryz.sizeOf45 rfl i3 rfl e8) ?_
     refine L_nl fun n9 zB hs=>?_
     have hlt:Lt d9.m vB n9 zB:=hs.ch
     have hfr:=hfr.ext hs
     have i3:=i3.ext hs
     have n7:=n7.ext hs
     have i6:=i6.ext hs
     clear hs
     refine TL_do hlt.w .plain rfl (D_storeM (g:=n9) (α:=FaultDamage) (a':=x6) Tryz.sizeOf45 rfl i3 e8 rfl n7 fun aC aD hs b582=>?_)
     have hfr:=hfr.stp hs
     have hlt:=hlt.stp hs
     have i6:=i6.stp hs
     obtain ⟨aB,g8,h⟩:=bsome h
     refine TL_pur hlt.w (v:=ePtr up0 (w64 (o0 - (1:Int))) 5) (P_indexAddrM (α:=FaultDamage) Tryz.underlying47 Tryz.sizeOf45 rfl b582 rfl g8) .plain rfl ?_
     refine TL_do hlt.w .plain rfl (D_storeM (g:=aC) (α:=FaultDamage) (a':=m7) Tryz.sizeOf45 rfl b582 g8 rfl i6 fun cC bD hs b584=>?_)
     have hfr:=hfr.stp hs
     have hlt:=hlt.stp hs
     refine TL_nil hlt.w ?_
     clear hlt
     refine blk_n ?_
     obtain rfl:=sinj h
     exact hQ _ _ ⟨cC,hfr,u3,b584,e9,i9,k9,l9,z3⟩
    ·clear hx
     obtain ⟨dC,hfr,o9,t9,u9,y9,z9,bA,gA⟩:=hR
     refine Za (Zo gA rfl ?_)
     refine EL_in (.int .i64 ((w64 (o0 - (1:Int))))) rfl rfl rfl rfl ?_
     refine Zg (.int .i64 ((w64 (o0 - (1:Int))))) rfl rfl ?_
     exact Zb (Zd (pA (z4,(w64 (o0 - (1:Int)))) _ _ ⟨dC,hfr,o9,t9,u9,y9,z9,bA,rfl⟩ h))
  ·clear hx
   obtain ⟨eC,hfr,iA,jA,kA,lA,mA,nA⟩:=hR
   refine Za (Zo nA rfl ?_)
   refine EL_in (.int .i64 ((w64 (d3 + (1:Int))))) rfl rfl rfl rfl ?_
   refine Zg (.int .i64 ((w64 (d3 + (1:Int))))) rfl rfl ?_
   exact Zb (Zd (hk1 (i5,(w64 (d3 + (1:Int)))) _ _ ⟨eC,hfr,iA,jA,kA,lA,mA,rfl⟩ h))
def f115 (x0:Bool):Option (UInt8):=
 jn (σ:=Unit) (fun _=>
  some ((46:UInt8))
  ) fun k2=>
 bif x0 then
  some ((120:UInt8))
 else
  k2 ()
theorem en115:Enters Tryz.prog 115:=enters_of Tryz.func115 (by kernel_rfl) rfl
theorem wk115 {gI:Gh} {wI:World} {x0:Bool}  {r:UInt8} (h:f115 x0=some r):Fn Tryz.prog 115 #[.bool (x0)] gI wI (fun _ _ v=>v=.int .u8 (UInt8.toNat (r))):=by
 unfold f115 at h
 refine fn_of_E Tryz.func115 rfl (Nat.le_of_ble_eq_true rfl) fun g0 hm hfr=>?_
 show E _ 4 none _ _ _ _ _
 refine Zf (Za (Zg (.int .u8 (UInt8.toNat 0)) rfl rfl ?_))
 refine Zb (Zd (Zq h (fun (s:Unit) e w=>∃ (g:Gh) ,Fr gI wI g w) (fun X2 k2 hk2 h=>?_) ?_))
 ·refine Zf (Za (Zn (.bool (x0)) rfl rfl ?_))
  refine Zb (Zd ?_)
  rcases Zt h with ⟨hc3,h⟩ | ⟨hc3,h⟩
  ·refine E_ct hc3 rfl ?_
   refine Zf (Za (Zg (.int .u8 (UInt8.toNat 120)) rfl rfl ?_))
   refine Zb (Zd (E_ret (thn_r ?_)))
   obtain rfl:=sinj h
   exact end1 rfl rfl (show _=.int .u8 (UInt8.toNat 120) from rfl) ⟨_,hfr,rfl⟩
  ·refine E_cf hc3 rfl ?_
   exact Zu (Zd (hk2 () _ _ ⟨g0,hfr⟩ h))
 ·rintro _ o0 w4 ⟨g4, hfr⟩ h
  refine Zf (Za (Zg (.int .u8 (UInt8.toNat 46)) rfl rfl ?_))
  refine Zb (Zd (E_ret ?_))
  obtain rfl:=sinj h
  exact end1 rfl rfl (show _=.int .u8 (UInt8.toNat 46) from rfl) ⟨_,hfr,rfl⟩
def f116 (x0:TieTieHarness) (x1:Int) (x2:Int):Option (Bool):=
 (idx (((x0).TieHarness).Warps) x2).bind fun y5=>
 (shr64 x1 y5).bind fun y8=>
 some (((bit64 .and y8 (1:Int)) == (1:Int)))
theorem en116:Enters Tryz.prog 116:=enters_of Tryz.func116 (by kernel_rfl) rfl
theorem wk116 {gI:Gh} {wI:World} {x0:TieTieHarness} {x1:Int} {x2:Int} {up0:Value} (rp0:RV gI.m wI x0 up0) {r:Bool} (h:f116 x0 x1 x2=some r):Fn Tryz.prog 116 #[up0,.int .i64 (x1),.int .i64 (x2)] gI wI (fun _ _ v=>v=.bool (r)):=by
 unfold f116 at h
 refine fn_of_E Tryz.func116 rfl (Nat.le_of_ble_eq_true rfl) fun g0 hm hfr=>?_
 have rp0:RV g0.m wI x0 up0:=hm ▸ rp0
 show E _ 17 none _ _ _ _ _
 refine Zf (Za (Ze .plain rfl (D_box (g:=g0) rfl rp0 fun g1 w1 p1 hs q1=>?_)))
 have hfr:=hfr.ext hs
 refine Zg (.bool false) rfl rfl ?_
 refine Zb (Zd (Zf (Za (Zn (.int .i64 (x1)) rfl rfl ?_))))
 refine EL_p (fPtr p1 0) (Zc at_160_0 rfl (PT.ptr q1)) rfl ?_
 have q2:=Zm (part_TieTieHarness_0).1 q1
 refine EL_p (fPtr (fPtr p1 0) 1) (Zc at_33_1 rfl (PT.ptr q2)) rfl ?_
 have q3:=Zm (part_TieHarness_1).1 q2
 refine Ze .plain rfl (D_load (g:=g1) Tryz.isAgg26 Tryz.sizeOf26 rfl q3 fun v4 r4=>?_)
 refine Zn (.int .i64 (x2)) rfl rfl ?_
 obtain ⟨y5,hy5,h⟩:=bsome h
 refine EL_p (ePtr v4 x2 1) (Zh (α:=Int) Tryz.underlying26 Tryz.sizeOf3 rfl r4 rfl hy5) rfl ?_
 have q6:=PT_idx r4 hy5
 refine Ze .plain rfl (D_load (g:=g1) Tryz.isAgg3 Tryz.sizeOf3 rfl q6 fun v7 r7=>?_)
 obtain rfl:=Zj.1 r7
 obtain ⟨y8,o0,h⟩:=bsome h
 refine EL_p (.int .i64 (y8)) (P_int rfl rfl (congrArg (Option.map (Value.int .i64)) o0)) rfl ?_
 refine EL_in (.int .i64 ((bit64 .and y8 (1:Int)))) rfl rfl rfl rfl ?_
 refine EL_in (.bool (((bit64 .and y8 (1:Int)) == (1:Int)))) rfl rfl rfl rfl ?_
 refine Zg (.bool (((bit64 .and y8 (1:Int)) == (1:Int)))) rfl rfl ?_
 refine Zb (Zd (E_ret ?_))
 obtain rfl:=sinj h
 exact end1 rfl rfl (show _=.bool (((bit64 .and y8 (1:Int)) == (1:Int))) from rfl) ⟨_,hfr,rfl⟩
def f126 (x0:List FaultDamage) (x1:Int) (x2:Int) (x3:Int) (x4:FaultDamage→FaultDamage→Option Int):Option ((List FaultDamage)):=
 lp (σ:=(List FaultDamage) × Int) (fun k1 (u0,o0)=>
  jn (σ:=Unit) (fun _=>
   Option.bind (α:=(List FaultDamage)) (
    (idx u0 (w64 (x2 + o0))).bind fun z3=>
    (idx u0 (w64 (x1 + o0))).bind fun y44=>
    (idx u0 (w64 (x1 + o0))).bind fun u7=>
    (idx ((List.set u0 (Int.toNat (w64 (x1 + o0))) z3)) (w64 (x2 + o0))).bind fun v7=>
    some ((List.set ((List.set u0 (Int.toNat (w64 (x1 + o0))) z3)) (Int.toNat (w64 (x2 + o0))) y44))
    ) fun d3=>
   k1 (d3,(w64 (o0 + (1:Int))))
   ) fun k4=>
  bif (decide (o0 < x3)) then
   k4 ()
  else
   some (u0)
  ) big (x0,(0:Int))
theorem en126:Enters Tryz.prog 126:=enters_of Tryz.func126 (by kernel_rfl) rfl
theorem wk126 {iI:Nat} {gI:Gh} {wI:World} {x0:List FaultDamage} {x1:Int} {x2:Int} {x3:Int} {x4:FaultDamage→FaultDamage→Option Int} {up0:Value} (mp0:OM iI gI wI 45 x0 up0) {up4:Value} (rp4:FnV2 Tryz.prog x4 up4 gI wI) {r:(List FaultDamage)} (h:f126 x0 x1 x2 x3 x4=some r):FnM Tryz.prog 126 #[up0,.int .i64 (x1),.int .i64 (x2),.int .i64 (x3),up4] iI gI wI (fun g w v=>v=.tuple #[]∧OM iI g w 45 r up0):=by
 unfold f126 at h
 refine fnM_of_E Tryz.func126 rfl (Nat.le_of_ble_eq_true rfl) fun g0 hm hfr=>?_
 have x6:=mp0
 replace mp0:=mp0.enter
 rw [← hm] at mp0
 replace hm:g0.m=gI.m:=by rw [hm]
 obtain ⟨ff4,fa4,fc4,rfl,fen4,fcl4⟩:=rp4
 show E _ 38 none _ _ _ _ _
 refine Zf (Za (Zg (.int .i64 (0)) rfl rfl ?_))
 refine Zb (Zd (Zr ?_))
 refine E_lp h (fun (s:(List FaultDamage) × Int) e w=>∃ (g:Gh) ,FrM iI gI wI g w∧e 0=up0∧OM 1 g w 45 (s.1:List FaultDamage) up0∧e 1=.int .i64 (x1)∧e 2=.int .i64 (x2)∧e 3=.int .i64 (x3)∧e 10=.int .i64 (s.2)) ⟨g0,hfr,rfl,mp0,rfl,rfl,rfl,rfl⟩ (fun X1 k1 hk1=>?_)
 rintro ⟨u0,o0⟩ n8 w2 ⟨g2,hfr,g7,i5,i7,j7,l5,z4⟩ h
 refine Zq h (fun (s:Unit) e w=>∃ (g:Gh) ,FrM iI gI wI g w∧e 0=up0∧OM 1 g w 45 (u0:List FaultDamage) up0∧e 1=.int .i64 (x1)∧e 2=.int .i64 (x2)∧e 3=.int .i64 (x3)∧e 10=.int .i64 (o0)) (fun X4 k4 hk4 h=>?_) ?_
 ·refine Zf (Za (Zo z4 rfl ?_))
  refine Zo l5 rfl ?_
  refine EL_in (.bool ((decide (o0 < x3)))) rfl rfl rfl rfl ?_
  refine Zb (Zd ?_)
  rcases Zt h with ⟨hc5,h⟩ | ⟨hc5,h⟩
  ·refine E_ct hc5 rfl ?_
   exact Zu (Zd (hk4 () _ _ ⟨g2,hfr,g7,i5,i7,j7,l5,z4⟩ h))
  ·refine E_cf hc5 rfl ?_
   refine E_exit ?_
   refine thn_e ?_
   refine thn_e ?_
   refine blk_hit ?_
   obtain rfl:=sinj h
   exact end0n rfl rfl ⟨_,hfr,rfl,x6.back i5⟩
 ·rintro _ o8 w6 ⟨g6, hfr, i3, j1, o3, u3, m7, z2⟩ h
  obtain ⟨d3,hx,h⟩:=bsome h
  refine E_join (fun e w=>∃ (g:Gh) ,FrM iI gI wI g w∧e 0=up0∧OM 1 g w 45 (d3:List FaultDamage) up0∧e 1=.int .i64 (x1)∧e 2=.int .i64 (x2)∧e 3=.int .i64 (x3)∧e 10=.int .i64 (o0)) (fun Q' hQ=>?_) (fun m8 q8 hR=>?_)
  ·replace h := hx
   clear hx
   refine Zr ?_
   obtain ⟨z3,q5,h⟩:=bsome h
   refine L_loadM (x:=.tmp 28) Tryz.isAgg45 Tryz.sizeOf45 j1 q5 fun c8 t5 n7=>?_
   obtain ⟨y44,x5,h⟩:=bsome h
   refine L_loadM (x:=.tmp 34) Tryz.isAgg45 Tryz.sizeOf45 j1 x5 fun e8 j3 o7=>?_
   obtain ⟨u7,i6,h⟩:=bsome h
   refine E_drawTL (g:=g6) (n:=21) [4,5,6,7] [] [0,1,2,3,4,5,6,7,8,9,10,11,12,13,14,15,16,17,18,19,20] rfl mixed (by kernel_rfl) trivial rfl ?_
   refine L_p up0 rfl rfl (Zk i3) ?_
   refine L_p (.int .i64 (x1)) rfl rfl (Zk o3) ?_
   refine L_p (.int .i64 (o0)) rfl rfl (Zk z2) ?_
   refine L_p (.int .i64 ((w64 (x1 + o0)))) rfl rfl (P_int rfl rfl rfl) ?_
   refine L_purL (c:=up0) rfl rfl .plain (Zk i3) ?_
   refine L_purL (c:=.int .i64 (x2)) rfl rfl .plain (Zk u3) ?_
   refine L_purL (c:=.int .i64 (o0)) rfl rfl .plain (Zk z2) ?_
   refine L_purL (c:=.int .i64 ((w64 (x2 + o0)))) rfl rfl .plain (P_int rfl rfl rfl) ?_
   refine L_p up0 rfl rfl (Zk i3) ?_
   refine L_p (.int .i64 (x2)) rfl rfl (Zk u3) ?_
   refine L_p (.int .i64 (o0)) rfl rfl (Zk z2) ?_
   refine L_p (.int .i64 ((w64 (x2 + o0)))) rfl rfl (P_int rfl rfl rfl) ?_
   refine L_p (ePtr up0 (w64 (x2 + o0)) 5) rfl rfl (P_indexAddrM (α:=FaultDamage) Tryz.underlying47 Tryz.sizeOf45 rfl j1 rfl q5) ?_
   refine L_ld (c:=c8) rfl rfl .plain (fun _ _ h=>⟨h.ch,fun b hb _=>h.below.block b hb⟩) n7 rfl ?_
   refine L_p up0 rfl rfl (Zk i3) ?_
   refine L_p (.int .i64 (x1)) rfl rfl (Zk o3) ?_
   refine L_p (.int .i64 (o0)) rfl rfl (Zk z2) ?_
   refine L_p (.int .i64 ((w64 (x1 + o0)))) rfl rfl (P_int rfl rfl rfl) ?_
   refine L_p (ePtr up0 (w64 (x1 + o0)) 5) rfl rfl (P_indexAddrM (α:=FaultDamage) Tryz.underlying47 Tryz.sizeOf45 rfl j1 rfl x5) ?_
   refine L_ld (c:=e8) rfl rfl .plain (fun _ _ h=>⟨h.ch,fun b hb _=>h.below.block b hb⟩) o7 rfl ?_
   refine L_p (ePtr up0 (w64 (x1 + o0)) 5) rfl rfl (P_indexAddrM (α:=FaultDamage) Tryz.underlying47 Tryz.sizeOf45 rfl j1 rfl i6) ?_
   refine L_nl fun e7 g8 hs=>?_
   have hlt:Lt g6.m w6 e7 g8:=hs.ch
   have hfr:=hfr.ext hs
   have j1:=j1.ext hs
   have t5:=t5.ext hs
   have j3:=j3.ext hs
   clear hs
   refine TL_do hlt.w .plain rfl (D_storeM (g:=e7) (α:=FaultDamage) (a':=z3) Tryz.sizeOf45 rfl j1 i6 rfl t5 fun i8 r8 hs b75=>?_)
   have hfr:=hfr.stp hs
   have hlt:=hlt.stp hs
   have j3:=j3.stp hs
   obtain ⟨v7,j6,h⟩:=bsome h
   refine TL_pur hlt.w (v:=ePtr up0 (w64 (x2 + o0)) 5) (P_indexAddrM (α:=FaultDamage) Tryz.underlying47 Tryz.sizeOf45 rfl b75 rfl j6) .plain rfl ?_
   refine TL_do hlt.w .plain rfl (D_storeM (g:=i8) (α:=FaultDamage) (a':=y44) Tryz.sizeOf45 rfl b75 j6 rfl j3 fun k8 t8 hs b77=>?_)
   have hfr:=hfr.stp hs
   have hlt:=hlt.stp hs
   refine TL_nil hlt.w ?_
   clear hlt
   refine blk_n ?_
   obtain rfl:=sinj h
   exact hQ _ _ ⟨k8,hfr,i3,b77,o3,u3,m7,z2⟩
  ·clear hx
   obtain ⟨l8,hfr,y6,a7,b7,c7,d7,v6⟩:=hR
   refine Za (Zo v6 rfl ?_)
   refine EL_in (.int .i64 ((w64 (o0 + (1:Int))))) rfl rfl rfl rfl ?_
   refine Zg (.int .i64 ((w64 (o0 + (1:Int))))) rfl rfl ?_
   exact Zb (Zd (hk1 (d3,(w64 (o0 + (1:Int)))) _ _ ⟨l8,hfr,y6,a7,b7,c7,d7,rfl⟩ h))
def f5 (x0:UInt8) (x1:List UInt16):Option (FaultLoom):=
 (f18 x0 x1).bind fun y3=>
 Option.bind (α:=FaultLoom) (
  lp (σ:=FaultLoom × Int) (fun nA (d3,j1)=>
   jn (σ:=Unit) (fun _=>
    Option.bind (α:=FaultLoom) (
     (apnd 8 (((d3).Harness).Warps) (([j1]:List Int))).bind fun y71=>
     some ({ d3 with Harness:={ (d3).Harness with Warps:=y71 } })
     ) fun l5=>
    nA (l5,(w64 (j1 + (1:Int))))
    ) fun oA=>
   bif (decide (j1 < ((d3).Design).Hooks)) then
    oA ()
   else
    some (d3)
   ) big ((⟨(⟨(y3).Hooks,[]⟩:TieHarness),y3⟩:FaultLoom),(0:Int))
  ) fun o3=>
 Option.bind (α:=FaultLoom) (
  lp (σ:=FaultLoom × Int) (fun e8 (i3,o0)=>
   jn (σ:=Unit) (fun _=>
    Option.bind (α:=FaultLoom) (
     (apnd 8 (((i3).Harness).Warps) (([o0]:List Int))).bind fun i7=>
     some ({ i3 with Harness:={ (i3).Harness with Warps:=i7 } })
     ) fun i5=>
    e8 (i5,(w64 (o0 - (1:Int))))
    ) fun g8=>
   bif (decide (o0 > (0 : Int))) then
    g8 ()
   else
    some (i3)
   ) big (o3,(w64 (((o3).Design).Hooks - (2:Int))))
  ) fun q5=>
 some (q5)
theorem en5:Enters Tryz.prog 5:=enters_of Tryz.func5 (by kernel_rfl) rfl
theorem wk5 {gI:Gh} {wI:World} {x0:UInt8} {x1:List UInt16} {up1:Value} (rp1:RV gI.m wI x1 up1) {r:FaultLoom} (h:f5 x0 x1=some r):Fn Tryz.prog 5 #[.int .u8 (UInt8.toNat (x0)),up1] gI wI (fun m w v=>RV m w (r) v):=by
 unfold f5 at h
 refine fn_of_E Tryz.func5 rfl (Nat.le_of_ble_eq_true rfl) fun g0 hm hfr=>?_
 have rp1:RV g0.m wI x1 up1:=hm ▸ rp1
 show E _ 49 none _ _ _ _ _
 refine Zf (Za (Ze .plain rfl (D_allocOc (g:=g0) 2004 (⟨⟨0,[]⟩,⟨0,[]⟩⟩:FaultLoom) Tryz.zeroValue37 (fun m w=>⟨_,(rep_two (rep_two rep_int rep_nil) (rep_two rep_int rep_nil)),rfl⟩) fun g1 w1 p1 hs b1 cb=>?_)))
 have hfr:=hfr.stp hs
 have rp1:=rp1.stp hs
 have u3:OSF 2004 60401 1 g1 w1 3 37 ([]:List Int) p1:=cb.osf (by rfl)
 have z3:OSF 2004 60403 3 g1 w1 3 37 ([]:List Int) p1:=cb.osf (by rfl)
 clear cb
 refine Zb (Zd (Zf (Za (Zn (.int .u8 (UInt8.toNat (x0))) rfl rfl ?_))))
 refine Zn up1 rfl rfl ?_
 obtain ⟨y3,hy3,h⟩:=bsome h
 refine Ze .plain rfl (Zp (g:=g1) (vs:=[.int .u8 (UInt8.toNat (x0)),up1]) en18 (.cons rfl (.cons rfl .nil)) (wk18 rp1 hy3) fun g2 w2_ v2 hs hr=>?_)
 have hfr:=hfr.ext hs
 have u3:=u3.ext hs
 have z3:=z3.ext hs
 have b1:=b1.ext hs
 have r2:=hr
 have r4:RV g2.m _ (⟨⟨0,[]⟩,y3⟩:FaultLoom) (.agg (setCh [[.int .i64 0,.slice none 0 0],[.int .i64 0,.slice none 0 0]] [(1,v2)]).flatten.toArray):=RV_build rfl (rep_pair ((rep_two rep_int rep_nil)) (rep_last (RV.cells r2)))
 generalize pA:(Value.agg (setCh [[.int .i64 0,.slice none 0 0],[.int .i64 0,.slice none 0 0]] [(1,v2)]).flatten.toArray)=v4 at r4
 refine EL_p v4 (pA ▸ P_build (vs:=[(1,v2)]) [[.int .i64 0,.slice none 0 0],[.int .i64 0,.slice none 0 0]] lay_37 rfl rfl (.cons rfl .nil) ⟨⟨_,rfl,cells_size r2⟩,trivial⟩) rfl ?_
 refine Ze .plain rfl (D_allocOc (g:=g2) 2005 (⟨⟨0,[]⟩,⟨0,[]⟩⟩:FaultLoom) Tryz.zeroValue37 (fun m w=>⟨_,(rep_two (rep_two rep_int rep_nil) (rep_two rep_int rep_nil)),rfl⟩) fun g5 w5 p5 hs b5 cb=>?_)
 have hfr:=hfr.stp hs
 have u3:=u3.stp hs rfl
 have z3:=z3.stp hs rfl
 have b1:=b1.stp hs rfl
 have r4:=r4.stp hs
 have iC:OSF 2005 60501 1 g5 w5 3 37 ([]:List Int) p5:=cb.osf (by rfl)
 have jC:OSF 2005 60503 3 g5 w5 3 37 ([]:List Int) p5:=cb.osf (by rfl)
 clear cb
 refine Ze .plain rfl (D_storeOc (g:=g5) (v:=v4) Tryz.sizeOf37 rfl b5 rfl r4 fun g6 w6 hs b6 cb=>?_)
 have kC:OSF 2005 60501 1 g6 w6 3 37 ([]:List Int) p5:=cb.osf (by rw [← pA]; rfl)
 clear cb
 have hfr:=hfr.stp hs
 have u3:=u3.stp hs rfl
 have z3:=z3.stp hs rfl
 have b1:=b1.stp hs rfl
 refine Zb (Zd (Zf (Za (EL_p (fPtr p5 2) (Zc at_37_1 rfl (OB.ptr b6)) rfl ?_))))
 refine EL_p (fPtr p5 2) (P_fieldAddr2 (o1:=2) rfl at_35_0 rfl (OB.ptr b6)) rfl ?_
 refine Ze .plain rfl (D_loadF (g:=g6) (SubS.comp part_FaultLoom_1 part_Design_0 rfl).1 Tryz.isAgg3 Tryz.sizeOf3 rfl b6 fun v9 r9=>?_)
 obtain rfl:=Zj.1 r9
 have qA:RV g6.m w6 (⟨(y3).Hooks,[]⟩:TieHarness) (.agg (setCh [[.int .i64 0],[.slice none 0 0]] [(0,.int .i64 ((y3).Hooks))]).flatten.toArray):=RV_build rfl (rep_pair (rfl) (rep_last (rep_nil)))
 generalize i8:(Value.agg (setCh [[.int .i64 0],[.slice none 0 0]] [(0,.int .i64 ((y3).Hooks))]).flatten.toArray)=mB at qA
 refine EL_p mB (i8 ▸ P_build (vs:=[(0,.int .i64 ((y3).Hooks))]) [[.int .i64 0],[.slice none 0 0]] lay_33 rfl rfl (.cons rfl .nil) ⟨⟨_,rfl,rfl⟩,trivial⟩) rfl ?_
 refine EL_p (fPtr p5 0) (Zc at_37_0 rfl (OB.ptr b6)) rfl ?_
 refine Ze .plain rfl (D_storeFd (g:=g6) part_FaultLoom_0 Tryz.sizeOf33 rfl b6 rfl qA fun rA nB hs b12 rst hos=>?_)
 have l9:OSF 2005 60501 1 rA nB 3 37 ([]:List Int) p5:=hos _ _ 60501 3 ([]:List Int) 1 (.slice none 0 0) (by rw [← i8]; rfl) rfl OS.nil
 clear rst hos
 have hfr:=hfr.stp hs
 have u3:=u3.stp hs rfl
 have z3:=z3.stp hs rfl
 have b1:=b1.stp hs rfl
 refine Zb (Zd ?_)
 obtain ⟨o3,hx,h⟩:=bsome h
 refine E_join (fun e w=>∃ (g:Gh) ,Fr gI wI g w∧e 4=p1∧OB 2004 g w 37 ((⟨⟨0,[]⟩,⟨0,[]⟩⟩:FaultLoom):FaultLoom) p1∧OSF 2004 60401 1 g w 3 37 ((((⟨⟨0,[]⟩,⟨0,[]⟩⟩:FaultLoom)).Harness).Warps) p1∧OSF 2004 60403 3 g w 3 37 ((((⟨⟨0,[]⟩,⟨0,[]⟩⟩:FaultLoom)).Design).Rows) p1∧e 5=p5∧OB 2005 g w 37 (o3:FaultLoom) p5∧OSF 2005 60501 1 g w 3 37 (((o3).Harness).Warps) p5) (fun Q' hQ=>?_) (fun lC lD hR=>?_)
 ·replace h := hx
  clear hx
  refine Zf (Za (Zg (.int .i64 (0)) rfl rfl ?_))
  refine Zb (Zd (Zr ?_))
  refine E_lp h (fun (s:FaultLoom × Int) e w=>∃ (g:Gh) ,Fr gI wI g w∧e 4=p1∧OB 2004 g w 37 ((⟨⟨0,[]⟩,⟨0,[]⟩⟩:FaultLoom):FaultLoom) p1∧OSF 2004 60401 1 g w 3 37 ((((⟨⟨0,[]⟩,⟨0,[]⟩⟩:FaultLoom)).Harness).Warps) p1∧OSF 2004 60403 3 g w 3 37 ((((⟨⟨0,[]⟩,⟨0,[]⟩⟩:FaultLoom)).Design).Rows) p1∧e 5=p5∧OB 2005 g w 37 (s.1:FaultLoom) p5∧OSF 2005 60501 1 g w 3 37 (((s.1).Harness).Warps) p5∧e 6=.int .i64 (s.2)) ⟨rA,hfr,rfl,b1,u3,z3,rfl,b12,l9,rfl⟩ (fun X44 nA yA=>?_)
  rintro ⟨d3,j1⟩ mC mD ⟨k8,hfr,n7,o7,u4_1_45,u4_3_45,j6,t5,u5_1_45,u7⟩ h
  refine Zq h (fun (s:Unit) e w=>∃ (g:Gh) ,Fr gI wI g w∧e 4=p1∧OB 2004 g w 37 ((⟨⟨0,[]⟩,⟨0,[]⟩⟩:FaultLoom):FaultLoom) p1∧OSF 2004 60401 1 g w 3 37 ((((⟨⟨0,[]⟩,⟨0,[]⟩⟩:FaultLoom)).Harness).Warps) p1∧OSF 2004 60403 3 g w 3 37 ((((⟨⟨0,[]⟩,⟨0,[]⟩⟩:FaultLoom)).Design).Rows) p1∧e 5=p5∧OB 2005 g w 37 (d3:FaultLoom) p5∧OSF 2005 60501 1 g w 3 37 (((d3).Harness).Warps) p5∧e 6=.int .i64 (j1)) (fun X50 oA zA h=>?_) ?_
  ·refine Zf (Za (Zo u7 rfl ?_))
   refine EL_p (fPtr p5 2) (Zc at_37_1 j6 (OB.ptr t5)) rfl ?_
   refine EL_p (fPtr p5 2) (P_fieldAddr2 (o1:=2) rfl at_35_0 rfl (OB.ptr t5)) rfl ?_
   refine Ze .plain rfl (D_loadF (g:=k8) (SubS.comp part_FaultLoom_1 part_Design_0 rfl).1 Tryz.isAgg3 Tryz.sizeOf3 rfl t5 fun nD oB=>?_)
   obtain rfl:=Zj.1 oB
   refine EL_in (.bool ((decide (j1 < ((d3).Design).Hooks)))) rfl rfl rfl rfl ?_
   refine Zb (Zd ?_)
   rcases Zt h with ⟨j7,h⟩ | ⟨j7,h⟩
   ·refine E_ct j7 rfl ?_
    exact Zu (Zd (zA () _ _ ⟨k8,hfr,n7,o7,u4_1_45,u4_3_45,j6,t5,u5_1_45,u7⟩ h))
   ·refine E_cf j7 rfl ?_
    refine E_exit ?_
    refine thn_e ?_
    refine thn_e ?_
    refine blk_hit ?_
    obtain rfl:=sinj h
    exact hQ _ _ ⟨k8,hfr,n7,o7,u4_1_45,u4_3_45,j6,t5,u5_1_45⟩
  ·rintro _ qC oD ⟨sA, hfr, n9, z4, u4_1_55, u4_3_55, v6, z2, u5_1_55, v7⟩ h
   obtain ⟨l5,hx,h⟩:=bsome h
   refine E_join (fun e w=>∃ (g:Gh) ,Fr gI wI g w∧e 4=p1∧OB 2004 g w 37 ((⟨⟨0,[]⟩,⟨0,[]⟩⟩:FaultLoom):FaultLoom) p1∧OSF 2004 60401 1 g w 3 37 ((((⟨⟨0,[]⟩,⟨0,[]⟩⟩:FaultLoom)).Harness).Warps) p1∧OSF 2004 60403 3 g w 3 37 ((((⟨⟨0,[]⟩,⟨0,[]⟩⟩:FaultLoom)).Design).Rows) p1∧e 5=p5∧OB 2005 g w 37 (l5:FaultLoom) p5∧OSF 2005 60501 1 g w 3 37 (((l5).Harness).Warps) p5∧e 6=.int .i64 (j1)) (fun Q' hQ=>?_) (fun rC sD hR=>?_)
   ·replace h := hx
    clear hx
    refine Zr ?_
    refine Za (EL_p (fPtr p5 0) (Zc at_37_0 v6 (OB.ptr z2)) rfl ?_)
    refine EL_p (fPtr p5 1) (P_fieldAddr2 (o1:=0) rfl at_33_1 rfl (OB.ptr z2)) rfl ?_
    refine Ze .plain rfl (D_loadFS (g:=sA) (SubS.comp part_FaultLoom_0 part_TieHarness_1 rfl).1 Tryz.isAgg26 Tryz.sizeOf26 rfl z2 u5_1_55 fun tD l8 o68=>?_)
    refine Zo v7 rfl ?_
    refine Ze .plain rfl (D_buildSlice (g:=sA) 3028 (xs:=([j1]:List Int)) (vs:=[.int .i64 (j1)]) Tryz.underlying26 Tryz.sizeOf3 Tryz.zeroValue3 rfl rfl (.cons rfl .nil) (RVs.cons (Zj.2 rfl) RVs.nil) rfl rfl fun tB uD vD hs o69 vB hxt hfl=>?_)
    have hfr:=hfr.stp hs
    have u4_1_55:=u4_1_55.stp hs rfl
    have u4_3_55:=u4_3_55.stp hs rfl
    have z4:=z4.stp hs rfl
    have z2:=z2.stp hs rfl
    have l8:=l8.stp hs
    have o68:=o68.stp hs rfl
    obtain ⟨y71,aB,h⟩:=bsome h
    refine Ze .plain rfl (D_append (g:=tB) (i:=60501) Tryz.underlying26 info_3 rfl rfl o68 l8 rfl vB aB fun xB xD yD hs o70 uA _=>?_)
    have hfr:=hfr.stp hs
    have u4_1_55:=u4_1_55.stp hs rfl
    have u4_3_55:=u4_3_55.stp hs rfl
    have z4:=z4.stp hs rfl
    have z2:=z2.stp hs rfl
    refine EL_p (fPtr p5 0) (Zc at_37_0 v6 (OB.ptr z2)) rfl ?_
    refine EL_p (fPtr p5 1) (P_fieldAddr2 (o1:=0) rfl at_33_1 rfl (OB.ptr z2)) rfl ?_
    refine Ze .plain rfl (D_storeFc (g:=xB) (SubS.comp part_FaultLoom_0 part_TieHarness_1 rfl) Tryz.sizeOf26 rfl z2 rfl uA fun yB zD hs b74 rst hos=>?_)
    have o9:=hos _ _ 60501 3 (y71:List Int) (rv_cells1 uA) rfl o70
    clear rst hos
    have hfr:=hfr.stp hs
    have u4_1_55:=u4_1_55.stp hs rfl
    have u4_3_55:=u4_3_55.stp hs rfl
    have z4:=z4.stp hs rfl
    refine Zb (blk_n ?_)
    obtain rfl:=sinj h
    exact hQ _ _ ⟨yB,hfr,n9,z4,u4_1_55,u4_3_55,v6,b74,o9,v7⟩
   ·clear hx
    obtain ⟨zB,hfr,t9,u9,u4_1_75,u4_3_75,y9,z9,u5_1_75,bA⟩:=hR
    refine Za (Zo bA rfl ?_)
    refine EL_in (.int .i64 ((w64 (j1 + (1:Int))))) rfl rfl rfl rfl ?_
    refine Zg (.int .i64 ((w64 (j1 + (1:Int))))) rfl rfl ?_
    exact Zb (Zd (yA (l5,(w64 (j1 + (1:Int)))) _ _ ⟨zB,hfr,t9,u9,u4_1_75,u4_3_75,y9,z9,u5_1_75,rfl⟩ h))
 ·clear hx
  obtain ⟨xA,hfr,gA,iA,u4_1_76,u4_3_76,c8,x5,u5_1_76⟩:=hR
  obtain ⟨q5,hx,h⟩:=bsome h
  refine E_join (fun e w=>∃ (g:Gh) ,Fr gI wI g w∧e 4=p1∧OB 2004 g w 37 ((⟨⟨0,[]⟩,⟨0,[]⟩⟩:FaultLoom):FaultLoom) p1∧OSF 2004 60401 1 g w 3 37 ((((⟨⟨0,[]⟩,⟨0,[]⟩⟩:FaultLoom)).Harness).Warps) p1∧OSF 2004 60403 3 g w 3 37 ((((⟨⟨0,[]⟩,⟨0,[]⟩⟩:FaultLoom)).Design).Rows) p1∧e 5=p5∧OB 2005 g w 37 (q5:FaultLoom) p5∧OSF 2005 60501 1 g w 3 37 (((q5).Harness).Warps) p5) (fun Q' hQ=>?_) (fun aC tC hR=>?_)
  ·replace h := hx
   clear hx
   refine Zf (Za (EL_p (fPtr p5 2) (Zc at_37_1 c8 (OB.ptr x5)) rfl ?_))
   refine EL_p (fPtr p5 2) (P_fieldAddr2 (o1:=2) rfl at_35_0 rfl (OB.ptr x5)) rfl ?_
   refine Ze .plain rfl (D_loadF (g:=xA) (SubS.comp part_FaultLoom_1 part_Design_0 rfl).1 Tryz.isAgg3 Tryz.sizeOf3 rfl x5 fun uC bB=>?_)
   obtain rfl:=Zj.1 bB
   refine EL_in (.int .i64 ((w64 (((o3).Design).Hooks - (2:Int))))) rfl rfl rfl rfl ?_
   refine Zg (.int .i64 ((w64 (((o3).Design).Hooks - (2:Int))))) rfl rfl ?_
   refine Zb (Zd (Zr ?_))
   refine E_lp h (fun (s:FaultLoom × Int) e w=>∃ (g:Gh) ,Fr gI wI g w∧e 4=p1∧OB 2004 g w 37 ((⟨⟨0,[]⟩,⟨0,[]⟩⟩:FaultLoom):FaultLoom) p1∧OSF 2004 60401 1 g w 3 37 ((((⟨⟨0,[]⟩,⟨0,[]⟩⟩:FaultLoom)).Harness).Warps) p1∧OSF 2004 60403 3 g w 3 37 ((((⟨⟨0,[]⟩,⟨0,[]⟩⟩:FaultLoom)).Design).Rows) p1∧e 5=p5∧OB 2005 g w 37 (s.1:FaultLoom) p5∧OSF 2005 60501 1 g w 3 37 (((s.1).Harness).Warps) p5∧e 7=.int .i64 (s.2)) ⟨xA,hfr,gA,iA,u4_1_76,u4_3_76,c8,x5,u5_1_76,rfl⟩ (fun X108 e8 jA=>?_)
   rintro ⟨i3,o0⟩ cC vC ⟨m8,hfr,y6,a7,u4_1_109,u4_3_109,b7,c7,u5_1_109,d7⟩ h
   refine Zq h (fun (s:Unit) e w=>∃ (g:Gh) ,Fr gI wI g w∧e 4=p1∧OB 2004 g w 37 ((⟨⟨0,[]⟩,⟨0,[]⟩⟩:FaultLoom):FaultLoom) p1∧OSF 2004 60401 1 g w 3 37 ((((⟨⟨0,[]⟩,⟨0,[]⟩⟩:FaultLoom)).Harness).Warps) p1∧OSF 2004 60403 3 g w 3 37 ((((⟨⟨0,[]⟩,⟨0,[]⟩⟩:FaultLoom)).Design).Rows) p1∧e 5=p5∧OB 2005 g w 37 (i3:FaultLoom) p5∧OSF 2005 60501 1 g w 3 37 (((i3).Harness).Warps) p5∧e 7=.int .i64 (o0)) (fun X111 g8 kA h=>?_) ?_
   ·refine Zf (Za (Zo d7 rfl ?_))
    refine EL_in (.bool ((decide (o0 > (0:Int))))) rfl rfl rfl rfl ?_
    refine Zb (Zd ?_)
    rcases Zt h with ⟨x6,h⟩ | ⟨x6,h⟩
    ·refine E_ct x6 rfl ?_
     exact Zu (Zd (kA () _ _ ⟨m8,hfr,y6,a7,u4_1_109,u4_3_109,b7,c7,u5_1_109,d7⟩ h))
    ·refine E_cf x6 rfl ?_
     refine E_exit ?_
     refine thn_e ?_
     refine thn_e ?_
     refine blk_hit ?_
     obtain rfl:=sinj h
     exact hQ _ _ ⟨m8,hfr,y6,a7,u4_1_109,u4_3_109,b7,c7,u5_1_109⟩
   ·rintro _ dC xC ⟨n8, hfr, o8, j3, u4_1_113, u4_3_113, i6, u0, u5_1_113, e7⟩ h
    obtain ⟨i5,hx,h⟩:=bsome h
    refine E_join (fun e w=>∃ (g:Gh) ,Fr gI wI g w∧e 4=p1∧OB 2004 g w 37 ((⟨⟨0,[]⟩,⟨0,[]⟩⟩:FaultLoom):FaultLoom) p1∧OSF 2004 60401 1 g w 3 37 ((((⟨⟨0,[]⟩,⟨0,[]⟩⟩:FaultLoom)).Harness).Warps) p1∧OSF 2004 60403 3 g w 3 37 ((((⟨⟨0,[]⟩,⟨0,[]⟩⟩:FaultLoom)).Design).Rows) p1∧e 5=p5∧OB 2005 g w 37 (i5:FaultLoom) p5∧OSF 2005 60501 1 g w 3 37 (((i5).Harness).Warps) p5∧e 7=.int .i64 (o0)) (fun Q' hQ=>?_) (fun eC yC hR=>?_)
    ·replace h := hx
     clear hx
     refine Zr ?_
     refine Za (EL_p (fPtr p5 0) (Zc at_37_0 i6 (OB.ptr u0)) rfl ?_)
     refine EL_p (fPtr p5 1) (P_fieldAddr2 (o1:=0) rfl at_33_1 rfl (OB.ptr u0)) rfl ?_
     refine Ze .plain rfl (D_loadFS (g:=n8) (SubS.comp part_FaultLoom_0 part_TieHarness_1 rfl).1 Tryz.isAgg26 Tryz.sizeOf26 rfl u0 u5_1_113 fun aD m7 o125=>?_)
     refine Zo e7 rfl ?_
     refine Ze .plain rfl (D_buildSlice (g:=n8) 3044 (xs:=([o0]:List Int)) (vs:=[.int .i64 (o0)]) Tryz.underlying26 Tryz.sizeOf3 Tryz.zeroValue3 rfl rfl (.cons rfl .nil) (RVs.cons (Zj.2 rfl) RVs.nil) rfl rfl fun cB bD cD hs o126 dB hxt hfl=>?_)
     have hfr:=hfr.stp hs
     have u4_1_113:=u4_1_113.stp hs rfl
     have u4_3_113:=u4_3_113.stp hs rfl
     have j3:=j3.stp hs rfl
     have u0:=u0.stp hs rfl
     have m7:=m7.stp hs
     have o125:=o125.stp hs rfl
     obtain ⟨i7,lA,h⟩:=bsome h
     refine Ze .plain rfl (D_append (g:=cB) (i:=60501) Tryz.underlying26 info_3 rfl rfl o125 m7 rfl dB lA fun eB eD gD hs o127 q8 _=>?_)
     have hfr:=hfr.stp hs
     have u4_1_113:=u4_1_113.stp hs rfl
     have u4_3_113:=u4_3_113.stp hs rfl
     have j3:=j3.stp hs rfl
     have u0:=u0.stp hs rfl
     refine EL_p (fPtr p5 0) (Zc at_37_0 i6 (OB.ptr u0)) rfl ?_
     refine EL_p (fPtr p5 1) (P_fieldAddr2 (o1:=0) rfl at_33_1 rfl (OB.ptr u0)) rfl ?_
     refine Ze .plain rfl (D_storeFc (g:=eB) (SubS.comp part_FaultLoom_0 part_TieHarness_1 rfl) Tryz.sizeOf26 rfl u0 rfl q8 fun iB iD hs b131 rst hos=>?_)
     have r8:=hos _ _ 60501 3 (i7:List Int) (rv_cells1 q8) rfl o127
     clear rst hos
     have hfr:=hfr.stp hs
     have u4_1_113:=u4_1_113.stp hs rfl
     have u4_3_113:=u4_3_113.stp hs rfl
     have j3:=j3.stp hs rfl
     refine Zb (blk_n ?_)
     obtain rfl:=sinj h
     exact hQ _ _ ⟨iB,hfr,o8,j3,u4_1_113,u4_3_113,i6,b131,r8,e7⟩
    ·clear hx
     obtain ⟨jB,hfr,t8,v8,u4_1_132,u4_3_132,x8,y8,u5_1_132,a9⟩:=hR
     refine Za (Zo a9 rfl ?_)
     refine EL_in (.int .i64 ((w64 (o0 - (1:Int))))) rfl rfl rfl rfl ?_
     refine Zg (.int .i64 ((w64 (o0 - (1:Int))))) rfl rfl ?_
     exact Zb (Zd (jA (i5,(w64 (o0 - (1:Int)))) _ _ ⟨jB,hfr,t8,v8,u4_1_132,u4_3_132,x8,y8,u5_1_132,rfl⟩ h))
  ·clear hx
   obtain ⟨d9,hfr,g7,e9,u4_1_133,u4_3_133,i9,k9,u5_1_133⟩:=hR
   refine Zf (Za (Ze .plain rfl (D_loadO (g:=d9) Tryz.isAgg37 Tryz.sizeOf37 i9 k9 fun kB lB=>?_)))
   refine Ze .plain rfl (D_storeOc (g:=d9) (v:=kB) Tryz.sizeOf37 g7 e9 rfl lB fun jD kD hs b135 cb=>?_)
   clear cb
   have hfr:=hfr.stp hs
   refine Zb (Zd (E_ret ?_))
   obtain rfl:=sinj h
   obtain ⟨ad136,cv136,hp136,mA,cr136⟩:=ob_read Tryz.isAgg37 Tryz.sizeOf37 b135
   exact endm_c rfl rfl ((show _=p1 from g7).trans hp136) mA ⟨_,hfr,cr136⟩
def f7 (x0:FaultLoom):Option (FaultLoom):=
 (f22 (((x0).Harness).Warps)).bind fun o0=>
 (f23 ((x0).Design)).bind fun u0=>
 some ((⟨(⟨((x0).Harness).Hooks,o0⟩:TieHarness),u0⟩:FaultLoom))
theorem en7:Enters Tryz.prog 7:=enters_of Tryz.func7 (by kernel_rfl) rfl
theorem wk7 {gI:Gh} {wI:World} {x0:FaultLoom} {up0:Value} (rp0:RV gI.m wI x0 up0) {r:FaultLoom} (h:f7 x0=some r):Fn Tryz.prog 7 #[up0] gI wI (fun m w v=>RV m w (r) v):=by
 unfold f7 at h
 refine fn_of_E Tryz.func7 rfl (Nat.le_of_ble_eq_true rfl) fun g0 hm hfr=>?_
 have rp0:RV g0.m wI x0 up0:=hm ▸ rp0
 show E _ 15 none _ _ _ _ _
 refine Zf (Za (Ze .plain rfl (D_box (g:=g0) rfl rp0 fun g1 w1 p1 hs q1=>?_)))
 have hfr:=hfr.ext hs
 refine Ze .plain rfl (D_allocOc (g:=g1) 2002 (⟨⟨0,[]⟩,⟨0,[]⟩⟩:FaultLoom) Tryz.zeroValue37 (fun m w=>⟨_,(rep_two (rep_two rep_int rep_nil) (rep_two rep_int rep_nil)),rfl⟩) fun g2 w2 p2 hs b2 cb=>?_)
 have hfr:=hfr.stp hs
 have q1:=q1.stp hs
 have y6:OSF 2002 60201 1 g2 w2 3 37 ([]:List Int) p2:=cb.osf (by rfl)
 have a7:OSF 2002 60203 3 g2 w2 3 37 ([]:List Int) p2:=cb.osf (by rfl)
 clear cb
 refine Zb (Zd (Zf ?_))
 have q3:=Zm (part_FaultLoom_0).1 q1
 have q4:=Zm (part_TieHarness_0).1 q3
 refine Zs (x:=.tmp 4) Tryz.isAgg3 Tryz.sizeOf3 q4 fun v5 r5 i6=>?_
 obtain rfl:=Zj.1 r5
 have q6:=Zm (part_FaultLoom_0).1 q1
 have q7:=Zm (part_TieHarness_1).1 q6
 refine Zs (x:=.tmp 7) Tryz.isAgg26 Tryz.sizeOf26 q7 fun v8 r8 j6=>?_
 obtain ⟨o0,i5,h⟩:=bsome h
 have v6:=Zm (part_FaultLoom_1).1 q1
 refine Zs (x:=.tmp 11) Tryz.isAgg35 Tryz.sizeOf35 v6 fun i3 x6 l5=>?_
 obtain ⟨u0,q5,h⟩:=bsome h
 refine E_drawL (g:=g2) (n:=11) [(6,(fun v g w=>RV g.m w o0 v)),(10,(fun v g w=>RV g.m w u0 v))] [0,1,2,3,4,5,6,7,8,9,10] rfl mixed (by kernel_rfl) (⟨fun _=>up_rv,fun _=>up_rv,trivial⟩) ?_
 refine L_p (fPtr p1 0) rfl rfl (Zc at_37_0 rfl (PT.ptr q1)) ?_
 refine L_p (fPtr (fPtr p1 0) 0) rfl rfl (Zc at_33_0 rfl (PT.ptr q3)) ?_
 refine L_ld (c:=.int .i64 (((x0).Harness).Hooks)) rfl rfl .plain (fun _ _ h=>h.ch) i6 rfl ?_
 refine L_p (fPtr p1 0) rfl rfl (Zc at_37_0 rfl (PT.ptr q1)) ?_
 refine L_p (fPtr (fPtr p1 0) 1) rfl rfl (Zc at_33_1 rfl (PT.ptr q6)) ?_
 refine L_ld (c:=v8) rfl rfl .plain (fun _ _ h=>h.ch) j6 rfl ?_
 refine L_do (φ:=fun v g w=>RV g.m w o0 v) rfl rfl .plain (fun g w hd=>Zp (g:=g) (vs:=[v8]) en22 (.cons rfl .nil) (wk22 (r8.ext hd.1) i5) fun g' w' v hs hr=>⟨g',hs,hr⟩) (fun v9 hv=>?_)
 obtain ⟨_,_,_,rq9⟩:=hv
 obtain ⟨j1,d3⟩:∃ v,v=(Value.agg (setCh [[.int .i64 0],[.slice none 0 0]] [(0,.int .i64 (((x0).Harness).Hooks)),(1,v9)]).flatten.toArray):=⟨_,rfl⟩
 refine L_pur (c:=j1) rfl rfl .plain (fun _ _ hd=>d3 ▸ P_build (vs:=[(0,.int .i64 (((x0).Harness).Hooks)),(1,v9)]) [[.int .i64 0],[.slice none 0 0]] lay_33 rfl rfl (.cons rfl (.cons rfl .nil)) ⟨⟨_,rfl,rfl⟩,⟨⟨_,rfl,cells_size (word (A:=fun g w=>RV g.m w o0 v9) 6 rfl rfl (deps_of hd))⟩,trivial⟩⟩) ?_
 refine L_p (fPtr p1 2) rfl rfl (Zc at_37_1 rfl (PT.ptr q1)) ?_
 refine L_ld (c:=i3) rfl rfl .plain (fun _ _ h=>h.ch) l5 rfl ?_
 refine L_do (φ:=fun v g w=>RV g.m w u0 v) rfl rfl .plain (fun g w hd=>Zp (g:=g) (vs:=[i3]) en23 (.cons rfl .nil) (wk23 (x6.ext hd.1) q5) fun g' w' v hs hr=>⟨g',hs,hr⟩) (fun z2 hv=>?_)
 obtain ⟨_,_,_,rq14⟩:=hv
 refine L_nil fun j3 b7 hall=>?_
 have hs:=hall.1
 have hfr:=hfr.ext hs
 have b2:=b2.ext hs
 have c7:=(word_all (A:=fun g w=>RV g.m w o0 v9) 6 rfl hall)
 have o3:=(show RV _ _ (⟨((x0).Harness).Hooks,o0⟩:TieHarness) j1 from d3 ▸ RV_build rfl (rep_pair (rfl) (rep_last (RV.cells (word_all (A:=fun g w=>RV g.m w o0 v9) 6 rfl hall)))))
 have u3:=(word_all (A:=fun g w=>RV g.m w u0 z2) 10 rfl hall)
 clear hs hall
 have z3:RV j3.m _ (⟨(⟨((x0).Harness).Hooks,o0⟩:TieHarness),u0⟩:FaultLoom) (.agg (setCh [[.int .i64 0,.slice none 0 0],[.int .i64 0,.slice none 0 0]] [(0,j1),(1,z2)]).flatten.toArray):=RV_build rfl (rep_pair (RV.cells o3) (rep_last (RV.cells u3)))
 generalize t5:(Value.agg (setCh [[.int .i64 0,.slice none 0 0],[.int .i64 0,.slice none 0 0]] [(0,j1),(1,z2)]).flatten.toArray)=z4 at z3
 refine EL_p z4 (t5 ▸ P_build (vs:=[(0,j1),(1,z2)]) [[.int .i64 0,.slice none 0 0],[.int .i64 0,.slice none 0 0]] lay_37 rfl rfl (.cons rfl (.cons rfl .nil)) ⟨⟨_,rfl,cells_size o3⟩,⟨⟨_,rfl,cells_size u3⟩,trivial⟩⟩) rfl ?_
 refine Ze .plain rfl (D_storeOc (g:=j3) (v:=z4) Tryz.sizeOf37 rfl b2 rfl z3 fun d7 e7 hs b32 cb=>?_)
 clear cb
 have hfr:=hfr.stp hs
 refine Zb (Zd (E_ret ?_))
 obtain rfl:=sinj h
 obtain ⟨ad33,cv33,hp33,x5,cr33⟩:=ob_read Tryz.isAgg37 Tryz.sizeOf37 b32
 exact endm_c rfl rfl ((show _=p2 from rfl).trans hp33) x5 ⟨_,hfr,cr33⟩
def f21 (x0:List Str) (x1:List Str):Option (It (Int × Int)):=
 some ((fun σ cons s=>f48 x0 x1 σ cons s))
theorem en21:Enters Tryz.prog 21:=enters_of Tryz.func21 (by kernel_rfl) rfl
theorem wk21 {gI:Gh} {wI:World} {x0:List Str} {x1:List Str} {up0:Value} (rp0:RV gI.m wI x0 up0) {up1:Value} (rp1:RV gI.m wI x1 up1) {r:It (Int × Int)} (h:f21 x0 x1=some r):Fn Tryz.prog 21 #[up0,up1] gI wI (fun m w v=>ItV Tryz.prog (RA2 (α:=Int) (β:=Int)) (r) v m w):=by
 unfold f21 at h
 refine fn_of_E Tryz.func21 rfl (Nat.le_of_ble_eq_true rfl) fun g0 hm hfr=>?_
 have rp0:RV g0.m wI x0 up0:=hm ▸ rp0
 have rp1:RV g0.m wI x1 up1:=hm ▸ rp1
 show E _ 6 none _ _ _ _ _
 refine Zf (Za (Ze .plain rfl (D_box (g:=g0) rfl rp0 fun g1 w1 p1 hs q1=>?_)))
 have hfr:=hfr.ext hs
 have rp1:=rp1.ext hs
 refine Ze .plain rfl (D_box (g:=g1) rfl rp1 fun g2 w2 p2 hs q2=>?_)
 have hfr:=hfr.ext hs
 have q1:=q1.ext hs
 refine Zg (.nilFunc) rfl rfl ?_
 refine Zb (Zd (Zf (Za (EL_p ((.func (.func 48) #[] #[p1,p2])) (P_makeFunc (capf_0_2 (show ev _ _=p1 from rfl) (show ev _ _=p2 from rfl))) rfl ?_))))
 refine Zg ((.func (.func 48) #[] #[p1,p2])) rfl rfl ?_
 refine Zb (Zd (E_ret ?_))
 obtain rfl:=sinj h
 exact end1 rfl rfl (show _=(.func (.func 48) #[] #[p1,p2]) from rfl) ⟨_,hfr,(show ItV Tryz.prog (RA2 (α:=Int) (β:=Int)) (fun σ cons s=>f48 x0 x1 σ cons s) ((.func (.func 48) #[] #[p1,p2])) g2.m w2 from ⟨48,#[],#[p1,p2],rfl,en48,fun g' w' hch σ cons s s' h=>wk48  (q1.ch hch) (q2.ch hch) h⟩)⟩
def f26 (x0:LoomLoomMill):Option ((List Int)):=
 (shl64 (1:Int) ((((x0).LoomMill).Widths).length:Int)).bind fun y5=>
 (f55 ((w64 (y5 - (1:Int))))).bind fun y7=>
 some (y7)
theorem en26:Enters Tryz.prog 26:=enters_of Tryz.func26 (by kernel_rfl) rfl
theorem wk26 {gI:Gh} {wI:World} {x0:LoomLoomMill} {up0:Value} (rp0:RV gI.m wI x0 up0) {r:(List Int)} (h:f26 x0=some r):Fn Tryz.prog 26 #[up0] gI wI (fun m w v=>RV m w (r) v):=by
 unfold f26 at h
 refine fn_of_E Tryz.func26 rfl (Nat.le_of_ble_eq_true rfl) fun g0 hm hfr=>?_
 have rp0:RV g0.m wI x0 up0:=hm ▸ rp0
 show E _ 10 none _ _ _ _ _
 refine Zf (Za (Ze .plain rfl (D_box (g:=g0) rfl rp0 fun g1 w1 p1 hs q1=>?_)))
 have hfr:=hfr.ext hs
 refine Zg (.slice none 0 0) rfl rfl ?_
 refine Zb (Zd (Zf (Za (EL_p (fPtr p1 0) (Zc at_81_0 rfl (PT.ptr q1)) rfl ?_))))
 have q2:=Zm (part_LoomLoomMill_0).1 q1
 refine EL_p (fPtr (fPtr p1 0) 0) (Zc at_28_0 rfl (PT.ptr q2)) rfl ?_
 have q3:=Zm (part_LoomMill_0).1 q2
 refine Ze .plain rfl (D_load (g:=g1) Tryz.isAgg26 Tryz.sizeOf26 rfl q3 fun v4 r4=>?_)
 refine EL_p (.int .i64 ((((x0).LoomMill).Widths).length:Int)) (P_len Tryz.underlying26 rfl r4) rfl ?_
 obtain ⟨y5,hy5,h⟩:=bsome h
 refine EL_p (.int .i64 (y5)) (P_int rfl rfl (congrArg (Option.map (Value.int .i64)) hy5)) rfl ?_
 refine EL_in (.int .i64 ((w64 (y5 - (1:Int))))) rfl rfl rfl rfl ?_
 obtain ⟨y7,o0,h⟩:=bsome h
 refine Ze .plain rfl (Zp (g:=g1) (vs:=[.int .i64 ((w64 (y5 - (1:Int))))]) en55 (.cons rfl .nil) (wk55  o0) fun g6 w6_ v6 hs hr=>?_)
 have hfr:=hfr.ext hs
 have r6:=hr
 refine Zg v6 rfl rfl ?_
 refine Zb (Zd (E_ret ?_))
 obtain rfl:=sinj h
 exact end1 rfl rfl (show _=v6 from rfl) ⟨_,hfr,r6⟩
def f37 (x0:LoomLoomMill) (x1:LoomRun) (x2:Int):Option (Int):=
 jn (σ:=Unit) (fun _=>
  (f42 x0 x1).bind fun o0=>
  some ((w64 (o0 + ((x0).LoomMill).Change)))
  ) fun q5=>
 (idx ((x0).orders) (x1).Order).bind fun z2=>
 (idx ((x0).orders) x2).bind fun d3=>
 bif ((z2).Chain == (d3).Chain) then
  (f42 x0 x1).bind fun y84=>
  some (y84)
 else
  q5 ()
theorem en37:Enters Tryz.prog 37:=enters_of Tryz.func37 (by kernel_rfl) rfl
theorem wk37 {gI:Gh} {wI:World} {x0:LoomLoomMill} {x1:LoomRun} {x2:Int} {up0:Value} (rp0:RV gI.m wI x0 up0) {up1:Value} (rp1:RV gI.m wI x1 up1) {r:Int} (h:f37 x0 x1 x2=some r):Fn Tryz.prog 37 #[up0,up1,.int .i64 (x2)] gI wI (fun _ _ v=>v=.int .i64 (r)):=by
 unfold f37 at h
 refine fn_of_E Tryz.func37 rfl (Nat.le_of_ble_eq_true rfl) fun g0 hm hfr=>?_
 have rp0:RV g0.m wI x0 up0:=hm ▸ rp0
 have rp1:RV g0.m wI x1 up1:=hm ▸ rp1
 show E _ 31 none _ _ _ _ _
 refine Zf (Za (Ze .plain rfl (D_box (g:=g0) rfl rp0 fun g1 w1 p1 hs q1=>?_)))
 have hfr:=hfr.ext hs
 have rp1:=rp1.ext hs
 refine Ze .plain rfl (D_box (g:=g1) rfl rp1 fun g2 w2 p2 hs q2=>?_)
 have hfr:=hfr.ext hs
 have q1:=q1.ext hs
 refine Zg (.int .i64 (0)) rfl rfl ?_
 refine Zb (Zd (Zq h (fun (s:Unit) e w=>∃ (g:Gh) ,Fr gI wI g w∧e 3=p1∧PT g.m w (x0:LoomLoomMill) p1∧e 4=p2∧PT g.m w (x1:LoomRun) p2) (fun X43 q5 a7 h=>?_) ?_))
 ·refine Zf ?_
  have u7:=Zm (part_LoomLoomMill_1).1 q1
  refine Zs (x:=.tmp 7) Tryz.isAgg29 Tryz.sizeOf29 u7 fun o3 t5 b7=>?_
  have v7:=Zm (part_LoomRun_0).1 q2
  refine Zs (x:=.tmp 9) Tryz.isAgg3 Tryz.sizeOf3 v7 fun e9 c8 c7=>?_
  obtain rfl:=Zj.1 c8
  obtain ⟨z2,u3,h⟩:=bsome h
  have x5:=PT_idx t5 u3
  have e8:=Zm (part_LoomOrder_1).1 x5
  refine Zs (x:=.tmp 12) Tryz.isAgg3 Tryz.sizeOf3 e8 fun i9 g8 d7=>?_
  obtain rfl:=Zj.1 g8
  have i8:=Zm (part_LoomLoomMill_1).1 q1
  refine Zs (x:=.tmp 14) Tryz.isAgg29 Tryz.sizeOf29 i8 fun z3 i6 e7=>?_
  obtain ⟨d3,z4,h⟩:=bsome h
  have j6:=PT_idx i6 z4
  have k8:=Zm (part_LoomOrder_1).1 j6
  refine Zs (x:=.tmp 18) Tryz.isAgg3 Tryz.sizeOf3 k8 fun k9 l8 g7=>?_
  obtain rfl:=Zj.1 l8
  refine E_drawL (g:=g2) (n:=14) [] [0,1,2,3,4,5,6,7,8,9,10,11,12,13] rfl mixed (by kernel_rfl) trivial ?_
  refine L_p (fPtr p1 2) rfl rfl (Zc at_81_1 rfl (PT.ptr q1)) ?_
  refine L_ld (c:=o3) rfl rfl .plain (fun _ _ h=>h.ch) b7 rfl ?_
  refine L_p (fPtr p2 0) rfl rfl (Zc at_65_0 rfl (PT.ptr q2)) ?_
  refine L_ld (c:=.int .i64 ((x1).Order)) rfl rfl .plain (fun _ _ h=>h.ch) c7 rfl ?_
  refine L_p (ePtr o3 (x1).Order 5) rfl rfl (Zh (α:=LoomOrder) Tryz.underlying29 Tryz.sizeOf67 rfl t5 rfl u3) ?_
  refine L_p (fPtr (ePtr o3 (x1).Order 5) 1) rfl rfl (Zc at_67_1 rfl (PT.ptr x5)) ?_
  refine L_ld (c:=.int .i64 ((z2).Chain)) rfl rfl .plain (fun _ _ h=>h.ch) d7 rfl ?_
  refine L_p (fPtr p1 2) rfl rfl (Zc at_81_1 rfl (PT.ptr q1)) ?_
  refine L_ld (c:=z3) rfl rfl .plain (fun _ _ h=>h.ch) e7 rfl ?_
  refine L_p (.int .i64 (x2)) rfl rfl (Zk rfl) ?_
  refine L_p (ePtr z3 x2 5) rfl rfl (Zh (α:=LoomOrder) Tryz.underlying29 Tryz.sizeOf67 rfl i6 rfl z4) ?_
  refine L_p (fPtr (ePtr z3 x2 5) 1) rfl rfl (Zc at_67_1 rfl (PT.ptr j6)) ?_
  refine L_ld (c:=.int .i64 ((d3).Chain)) rfl rfl .plain (fun _ _ h=>h.ch) g7 rfl ?_
  refine L_p (.bool (((z2).Chain == (d3).Chain))) rfl rfl (P_int rfl rfl rfl) ?_
  refine L_nl fun i3 l9 hs=>?_
  have hfr:=hfr.ext hs
  have q1:=q1.ext hs
  have q2:=q2.ext hs
  clear hs
  refine Zb (Zd ?_)
  rcases Zt h with ⟨j1,h⟩ | ⟨j1,h⟩
  ·refine E_ct j1 rfl ?_
   refine Zf (Za (Ze .plain rfl (D_load (g:=i3) Tryz.isAgg81 Tryz.sizeOf81 rfl q1 fun m8 n8=>?_)))
   refine Ze .plain rfl (D_load (g:=i3) Tryz.isAgg65 Tryz.sizeOf65 rfl q2 fun o8 q8=>?_)
   obtain ⟨y84,i7,h⟩:=bsome h
   refine Ze .plain rfl (Zp (g:=i3) (vs:=[m8,o8]) en42 (.cons rfl (.cons rfl .nil)) (wk42 n8 q8 i7) fun n9 a9 o9 hs hr=>?_)
   have hfr:=hfr.ext hs
   subst hr
   refine Zg (.int .i64 (y84)) rfl rfl ?_
   refine Zb (Zd (E_ret (thn_r ?_)))
   obtain rfl:=sinj h
   exact end1 rfl rfl (show _=.int .i64 (y84) from rfl) ⟨_,hfr,rfl⟩
  ·refine E_cf j1 rfl ?_
   exact Zu (Zd (a7 () _ _ ⟨i3,hfr,rfl,q1,rfl,q2⟩ h))
 ·rintro _ d9 t9 ⟨r8, hfr, j3, u0, i5, l5⟩ h
  refine Zf (Zs (x:=.tmp 3) Tryz.isAgg81 Tryz.sizeOf81 u0 fun v6 t8 j7=>?_)
  refine Zs (x:=.tmp 4) Tryz.isAgg65 Tryz.sizeOf65 l5 fun x6 v8 m7=>?_
  obtain ⟨o0,n7,h⟩:=bsome h
  have y6:=Zm (part_LoomLoomMill_0).1 u0
  have x8:=Zm (part_LoomMill_1).1 y6
  refine Zs (x:=.tmp 28) Tryz.isAgg3 Tryz.sizeOf3 x8 fun u9 y8 o7=>?_
  obtain rfl:=Zj.1 y8
  refine E_drawL (g:=r8) (n:=8) [(2,(fun v g w=>v=.int .i64 (o0)))] [0,1,2,3,4,5,6,7] rfl mixed (by kernel_rfl) (⟨fun _=>up_eq _,trivial⟩) ?_
  refine L_ld (c:=v6) rfl rfl .plain (fun _ _ h=>h.ch) j7 j3 ?_
  refine L_ld (c:=x6) rfl rfl .plain (fun _ _ h=>h.ch) m7 i5 ?_
  refine L_do (φ:=fun v g w=>v=.int .i64 (o0)) rfl rfl .plain (fun g w hd=>Zp (g:=g) (vs:=[v6,x6]) en42 (.cons rfl (.cons rfl .nil)) (wk42 (t8.ext hd.1) (v8.ext hd.1) n7) fun g' w' v hs hr=>⟨g',hs,hr⟩) (fun y9 hv=>?_)
  obtain ⟨_,_,_,rfl⟩:=hv
  refine L_p (fPtr p1 0) rfl rfl (Zc at_81_0 j3 (PT.ptr u0)) ?_
  refine L_p (fPtr (fPtr p1 0) 1) rfl rfl (Zc at_28_1 rfl (PT.ptr y6)) ?_
  refine L_ld (c:=.int .i64 (((x0).LoomMill).Change)) rfl rfl .plain (fun _ _ h=>h.ch) o7 rfl ?_
  refine L_p (.int .i64 ((w64 (o0 + ((x0).LoomMill).Change)))) rfl rfl (P_int rfl rfl rfl) ?_
  refine L_p (.int .i64 ((w64 (o0 + ((x0).LoomMill).Change)))) rfl rfl (P_assign rfl) ?_
  refine L_nl fun z9 bA hs=>?_
  have hfr:=hfr.ext hs
  clear hs
  refine Zb (Zd (E_ret ?_))
  obtain rfl:=sinj h
  exact end1 rfl rfl (show _=.int .i64 ((w64 (o0 + ((x0).LoomMill).Change))) from rfl) ⟨_,hfr,rfl⟩
def f38 (x0:LoomStill) (x1:LoomRun):Option (Bool):=
 Option.bind (α:=Bool) (
  bif (decide ((x1).From ≤ (((x0).LoomStop).Days).High)) then
   (f42 ((x0).mill) x1).bind fun j1=>
   some ((decide (j1 > (((x0).LoomStop).Days).Low)))
  else
   some (false)
  ) fun u0=>
 some (u0)
theorem en38:Enters Tryz.prog 38:=enters_of Tryz.func38 (by kernel_rfl) rfl
theorem wk38 {gI:Gh} {wI:World} {x0:LoomStill} {x1:LoomRun} {up0:Value} (rp0:RV gI.m wI x0 up0) {up1:Value} (rp1:RV gI.m wI x1 up1) {r:Bool} (h:f38 x0 x1=some r):Fn Tryz.prog 38 #[up0,up1] gI wI (fun _ _ v=>v=.bool (r)):=by
 unfold f38 at h
 refine fn_of_E Tryz.func38 rfl (Nat.le_of_ble_eq_true rfl) fun g0 hm hfr=>?_
 have rp0:RV g0.m wI x0 up0:=hm ▸ rp0
 have rp1:RV g0.m wI x1 up1:=hm ▸ rp1
 show E _ 23 none _ _ _ _ _
 refine Zf (Za (Ze .plain rfl (D_box (g:=g0) rfl rp0 fun g1 w1 p1 hs q1=>?_)))
 have hfr:=hfr.ext hs
 have rp1:=rp1.ext hs
 refine Ze .plain rfl (D_box (g:=g1) rfl rp1 fun g2 w2 p2 hs q2=>?_)
 have hfr:=hfr.ext hs
 have q1:=q1.ext hs
 refine Zg (.bool false) rfl rfl ?_
 refine Zb (Zd ?_)
 obtain ⟨u0,hx,h⟩:=bsome h
 refine E_join (fun e w=>∃ (g:Gh) ,Fr gI wI g w∧e 4=.bool (u0)) (fun Q' hQ=>?_) (fun i7 j7 hR=>?_)
 ·replace h := hx
  clear hx
  have j6:=Zm (part_LoomRun_2).1 q2
  refine Zs (x:=.tmp 5) Tryz.isAgg3 Tryz.sizeOf3 j6 fun o7 v6 z2=>?_
  obtain rfl:=Zj.1 v6
  have d3:=Zm (part_LoomStill_1).1 q1
  have i3:=Zm (part_LoomStop_1).1 d3
  have x6:=Zm (part_Span_1).1 i3
  refine Zs (x:=.tmp 9) Tryz.isAgg3 Tryz.sizeOf3 x6 fun u7 y6 j3=>?_
  obtain rfl:=Zj.1 y6
  rcases Zt h with ⟨o0,h⟩ | ⟨o0,h⟩
  ·have a7 := Zm (part_LoomStill_0).1 q1
   refine Zs (x:=.tmp 13) Tryz.isAgg81 Tryz.sizeOf81 a7 fun u3 b7 l5=>?_
   refine Zs (x:=.tmp 3) Tryz.isAgg65 Tryz.sizeOf65 q2 fun z3 c7 q5=>?_
   obtain ⟨j1,t5,h⟩:=bsome h
   have z4:=Zm (part_LoomStill_1).1 q1
   have i5:=Zm (part_LoomStop_1).1 z4
   have d7:=Zm (part_Span_0).1 i5
   refine Zs (x:=.tmp 19) Tryz.isAgg3 Tryz.sizeOf3 d7 fun v7 e7 x5=>?_
   obtain rfl:=Zj.1 e7
   refine E_drawL (g:=g2) (n:=19) [(11,(fun v g w=>v=.int .i64 (j1)))] [0,1,2,3,4,5,6,7,8,9,10,11,12,13,14,15,16,17,18] rfl mixed (by kernel_rfl) (⟨fun _=>up_eq _,trivial⟩) ?_
   refine L_p (fPtr p2 2) rfl rfl (Zc at_65_2 rfl (PT.ptr q2)) ?_
   refine L_ld (c:=.int .i64 ((x1).From)) rfl rfl .plain (fun _ _ h=>h.ch) z2 rfl ?_
   refine L_p (fPtr p1 3) rfl rfl (Zc at_99_1 rfl (PT.ptr q1)) ?_
   refine L_p (fPtr (fPtr p1 3) 1) rfl rfl (Zc at_58_1 rfl (PT.ptr d3)) ?_
   refine L_p (fPtr (fPtr (fPtr p1 3) 1) 1) rfl rfl (Zc at_55_1 rfl (PT.ptr i3)) ?_
   refine L_ld (c:=.int .i64 ((((x0).LoomStop).Days).High)) rfl rfl .plain (fun _ _ h=>h.ch) j3 rfl ?_
   refine L_p (.bool ((decide ((x1).From ≤ (((x0).LoomStop).Days).High)))) rfl rfl (P_int rfl rfl rfl) ?_
   refine L_p (.bool ((decide ((x1).From ≤ (((x0).LoomStop).Days).High)))) rfl rfl (Zk rfl) ?_
   refine L_y (fPtr p1 0) rfl rfl rfl rfl o0 (Zc at_99_0 rfl (PT.ptr q1)) ?_
   refine L_ld (c:=u3) rfl rfl (.yes2 rfl rfl o0) (fun _ _ h=>h.ch) l5 rfl ?_
   refine L_ld (c:=z3) rfl rfl (.yes2 rfl rfl o0) (fun _ _ h=>h.ch) q5 rfl ?_
   refine L_do (φ:=fun v g w=>v=.int .i64 (j1)) rfl rfl (.yes2 rfl rfl o0) (fun g w hd=>Zp (g:=g) (vs:=[u3,z3]) en42 (.cons rfl (.cons rfl .nil)) (wk42 (b7.ext hd.1) (c7.ext hd.1) t5) fun g' w' v hs hr=>⟨g',hs,hr⟩) (fun c8 hv=>?_)
   obtain ⟨_,_,_,rfl⟩:=hv
   refine L_y (fPtr p1 3) rfl rfl rfl rfl o0 (Zc at_99_1 rfl (PT.ptr q1)) ?_
   refine L_y (fPtr (fPtr p1 3) 1) rfl rfl rfl rfl o0 (Zc at_58_1 rfl (PT.ptr z4)) ?_
   refine L_y (fPtr (fPtr (fPtr p1 3) 1) 0) rfl rfl rfl rfl o0 (Zc at_55_0 rfl (PT.ptr i5)) ?_
   refine L_ld (c:=.int .i64 ((((x0).LoomStop).Days).Low)) rfl rfl (.yes2 rfl rfl o0) (fun _ _ h=>h.ch) x5 rfl ?_
   refine L_y (.bool ((decide (j1 > (((x0).LoomStop).Days).Low)))) rfl rfl rfl rfl o0 (P_int rfl rfl rfl) ?_
   refine L_p (.bool ((decide (j1 > (((x0).LoomStop).Days).Low)))) rfl rfl (Zl (b:=(decide ((x1).From ≤ (((x0).LoomStop).Days).High))) rfl (pick_t o0 rfl)) ?_
   refine L_p (.bool ((decide (j1 > (((x0).LoomStop).Days).Low)))) rfl rfl (P_assign rfl) ?_
   refine L_nl fun g7 e8 hs=>?_
   have hfr:=hfr.ext hs
   clear hs
   refine Zb ?_
   obtain rfl:=sinj h
   exact hQ _ _ ⟨g7,hfr,rfl⟩
  ·refine E_drawL (g := g2) (n := 19) [] [0, 1, 2, 3, 4, 5, 6, 7, 8, 9, 10, 11, 12, 13, 14, 15, 16, 17, 18] rfl mixed (by kernel_rfl) trivial ?_
   refine L_p (fPtr p2 2) rfl rfl (Zc at_65_2 rfl (PT.ptr q2)) ?_
   refine L_ld (c:=.int .i64 ((x1).From)) rfl rfl .plain (fun _ _ h=>h.ch) z2 rfl ?_
   refine L_p (fPtr p1 3) rfl rfl (Zc at_99_1 rfl (PT.ptr q1)) ?_
   refine L_p (fPtr (fPtr p1 3) 1) rfl rfl (Zc at_58_1 rfl (PT.ptr d3)) ?_
   refine L_p (fPtr (fPtr (fPtr p1 3) 1) 1) rfl rfl (Zc at_55_1 rfl (PT.ptr i3)) ?_
   refine L_ld (c:=.int .i64 ((((x0).LoomStop).Days).High)) rfl rfl .plain (fun _ _ h=>h.ch) j3 rfl ?_
   refine L_p (.bool ((decide ((x1).From ≤ (((x0).LoomStop).Days).High)))) rfl rfl (P_int rfl rfl rfl) ?_
   refine L_p (.bool ((decide ((x1).From ≤ (((x0).LoomStop).Days).High)))) rfl rfl (Zk rfl) ?_
   iterate 9 refine L_s rfl rfl rfl o0 rfl ?_
   refine L_p (.bool false) rfl rfl (Zl (b:=(decide ((x1).From ≤ (((x0).LoomStop).Days).High))) rfl (pick_f o0 rfl)) ?_
   refine L_p (.bool false) rfl rfl (P_assign rfl) ?_
   refine L_nl fun i6 m7 hs=>?_
   have hfr:=hfr.ext hs
   clear hs
   refine Zb ?_
   obtain rfl:=sinj h
   exact hQ _ _ ⟨i6,hfr,rfl⟩
 ·clear hx
  obtain ⟨n7,hfr,o3⟩:=hR
  refine E_ret ?_
  obtain rfl:=sinj h
  exact end1 rfl rfl (show _=.bool (u0) from o3) ⟨_,hfr,rfl⟩
def f41 (x0:List LoomRun) (x1:LoomRun→Option Bool):Option (Bool):=
 (f64 x0 x1).bind fun y2=>
 some ((decide (y2 ≥ (0:Int))))
theorem en41:Enters Tryz.prog 41:=enters_of Tryz.func41 (by kernel_rfl) rfl
theorem wk41 {gI:Gh} {wI:World} {x0:List LoomRun} {x1:LoomRun→Option Bool} {up0:Value} (rp0:RV gI.m wI x0 up0) {up1:Value} (rp1:FnV1 Tryz.prog x1 up1 gI wI) {r:Bool} (h:f41 x0 x1=some r):Fn Tryz.prog 41 #[up0,up1] gI wI (fun _ _ v=>v=.bool (r)):=by
 unfold f41 at h
 refine fn_of_E Tryz.func41 rfl (Nat.le_of_ble_eq_true rfl) fun g0 hm hfr=>?_
 have rp0:RV g0.m wI x0 up0:=hm ▸ rp0
 obtain ⟨ff1,fa1,fc1,rfl,fen1,fcl1⟩:=rp1
 show E _ 9 none _ _ _ _ _
 refine Zf (Za (Zg (.bool false) rfl rfl ?_))
 refine Zb (Zd (Zf (Za (Zn up0 rfl rfl ?_))))
 refine Zn ((.func (.func ff1) fa1 fc1)) rfl rfl ?_
 obtain ⟨y2,hy2,h⟩:=bsome h
 refine Ze .plain rfl (Zp (g:=g0) (vs:=[up0,(.func (.func ff1) fa1 fc1)]) en64 (.cons rfl (.cons rfl .nil)) (wk64 rp0 (FnV1.ch ⟨_,_,_,rfl,fen1,fcl1⟩ hfr.ch) hy2) fun g1 w1_ v1 hs hr=>?_)
 have hfr:=hfr.ext hs
 subst hr
 refine EL_in (.bool ((decide (y2 ≥ (0:Int))))) rfl rfl rfl rfl ?_
 refine Zg (.bool ((decide (y2 ≥ (0:Int))))) rfl rfl ?_
 refine Zb (Zd (E_ret ?_))
 obtain rfl:=sinj h
 exact end1 rfl rfl (show _=.bool ((decide (y2 ≥ (0:Int)))) from rfl) ⟨_,hfr,rfl⟩
def f46 (x0:List FaultDamage) (x1:FaultDamage→Option Bool):Option (Bool):=
 (f68 x0 x1).bind fun y2=>
 some ((decide (y2 ≥ (0:Int))))
theorem en46:Enters Tryz.prog 46:=enters_of Tryz.func46 (by kernel_rfl) rfl
theorem wk46 {gI:Gh} {wI:World} {x0:List FaultDamage} {x1:FaultDamage→Option Bool} {up0:Value} (rp0:RV gI.m wI x0 up0) {up1:Value} (rp1:FnV1 Tryz.prog x1 up1 gI wI) {r:Bool} (h:f46 x0 x1=some r):Fn Tryz.prog 46 #[up0,up1] gI wI (fun _ _ v=>v=.bool (r)):=by
 unfold f46 at h
 refine fn_of_E Tryz.func46 rfl (Nat.le_of_ble_eq_true rfl) fun g0 hm hfr=>?_
 have rp0:RV g0.m wI x0 up0:=hm ▸ rp0
 obtain ⟨ff1,fa1,fc1,rfl,fen1,fcl1⟩:=rp1
 show E _ 9 none _ _ _ _ _
 refine Zf (Za (Zg (.bool false) rfl rfl ?_))
 refine Zb (Zd (Zf (Za (Zn up0 rfl rfl ?_))))
 refine Zn ((.func (.func ff1) fa1 fc1)) rfl rfl ?_
 obtain ⟨y2,hy2,h⟩:=bsome h
 refine Ze .plain rfl (Zp (g:=g0) (vs:=[up0,(.func (.func ff1) fa1 fc1)]) en68 (.cons rfl (.cons rfl .nil)) (wk68 rp0 (FnV1.ch ⟨_,_,_,rfl,fen1,fcl1⟩ hfr.ch) hy2) fun g1 w1_ v1 hs hr=>?_)
 have hfr:=hfr.ext hs
 subst hr
 refine EL_in (.bool ((decide (y2 ≥ (0:Int))))) rfl rfl rfl rfl ?_
 refine Zg (.bool ((decide (y2 ≥ (0:Int))))) rfl rfl ?_
 refine Zb (Zd (E_ret ?_))
 obtain rfl:=sinj h
 exact end1 rfl rfl (show _=.bool ((decide (y2 ≥ (0:Int)))) from rfl) ⟨_,hfr,rfl⟩
def f52 (x0:List LoomOrder) (x1:LoomOrder→Option Bool):Option (Bool):=
 (f78 x0 x1).bind fun y2=>
 some ((decide (y2 ≥ (0:Int))))
theorem en52:Enters Tryz.prog 52:=enters_of Tryz.func52 (by kernel_rfl) rfl
theorem wk52 {gI:Gh} {wI:World} {x0:List LoomOrder} {x1:LoomOrder→Option Bool} {up0:Value} (rp0:RV gI.m wI x0 up0) {up1:Value} (rp1:FnV1 Tryz.prog x1 up1 gI wI) {r:Bool} (h:f52 x0 x1=some r):Fn Tryz.prog 52 #[up0,up1] gI wI (fun _ _ v=>v=.bool (r)):=by
 unfold f52 at h
 refine fn_of_E Tryz.func52 rfl (Nat.le_of_ble_eq_true rfl) fun g0 hm hfr=>?_
 have rp0:RV g0.m wI x0 up0:=hm ▸ rp0
 obtain ⟨ff1,fa1,fc1,rfl,fen1,fcl1⟩:=rp1
 show E _ 9 none _ _ _ _ _
 refine Zf (Za (Zg (.bool false) rfl rfl ?_))
 refine Zb (Zd (Zf (Za (Zn up0 rfl rfl ?_))))
 refine Zn ((.func (.func ff1) fa1 fc1)) rfl rfl ?_
 obtain ⟨y2,hy2,h⟩:=bsome h
 refine Ze .plain rfl (Zp (g:=g0) (vs:=[up0,(.func (.func ff1) fa1 fc1)]) en78 (.cons rfl (.cons rfl .nil)) (wk78 rp0 (FnV1.ch ⟨_,_,_,rfl,fen1,fcl1⟩ hfr.ch) hy2) fun g1 w1_ v1 hs hr=>?_)
 have hfr:=hfr.ext hs
 subst hr
 refine EL_in (.bool ((decide (y2 ≥ (0:Int))))) rfl rfl rfl rfl ?_
 refine Zg (.bool ((decide (y2 ≥ (0:Int))))) rfl rfl ?_
 refine Zb (Zd (E_ret ?_))
 obtain rfl:=sinj h
 exact end1 rfl rfl (show _=.bool ((decide (y2 ≥ (0:Int)))) from rfl) ⟨_,hfr,rfl⟩
def f54 (x0:Int):Option (It Int):=
 some ((fun σ cons s=>f80 x0 σ cons s))
theorem en54:Enters Tryz.prog 54:=enters_of Tryz.func54 (by kernel_rfl) rfl
theorem wk54 {gI:Gh} {wI:World} {x0:Int}  {r:It Int} (h:f54 x0=some r):Fn Tryz.prog 54 #[.int .i64 (x0)] gI wI (fun m w v=>ItV Tryz.prog (RA1 (α:=Int)) (r) v m w):=by
 unfold f54 at h
 refine fn_of_E Tryz.func54 rfl (Nat.le_of_ble_eq_true rfl) fun g0 hm hfr=>?_
 show E _ 4 none _ _ _ _ _
 refine Zf (Za (Ze .plain rfl (D_box (g:=g0) rfl (Zj.2 rfl) fun g1 w1 p1 hs q1=>?_)))
 have hfr:=hfr.ext hs
 refine Zg (.nilFunc) rfl rfl ?_
 refine Zb (Zd (Zf (Za (EL_p ((.func (.func 80) #[] #[p1])) (P_makeFunc (capf_0_1 (show ev _ _=p1 from rfl))) rfl ?_))))
 refine Zg ((.func (.func 80) #[] #[p1])) rfl rfl ?_
 refine Zb (Zd (E_ret ?_))
 obtain rfl:=sinj h
 exact end1 rfl rfl (show _=(.func (.func 80) #[] #[p1]) from rfl) ⟨_,hfr,(show ItV Tryz.prog (RA1 (α:=Int)) (fun σ cons s=>f80 x0 σ cons s) ((.func (.func 80) #[] #[p1])) g1.m w1 from ⟨80,#[],#[p1],rfl,en80,fun g' w' hch σ cons s s' h=>wk80  (q1.ch hch) h⟩)⟩
def f63 (x0:Int) (x1:Int):Option (Int):=
 (f86 x0).bind fun y2=>
 (f86 x1).bind fun y4=>
 jn (σ:=Unit) (fun _=>
  jn (σ:=Unit) (fun _=>
   jn (σ:=Unit) (fun _=>
    jn (σ:=Unit) (fun _=>
     some ((0:Int))
     ) fun l5=>
    bif (decide (x0 > x1)) then
     some ((1:Int))
    else
     l5 ()
    ) fun q5=>
   bif (decide (x0 < x1)) then
    some ((-1:Int))
   else
    q5 ()
   ) fun k18=>
  bif y4 then
   some ((1:Int))
  else
   k18 ()
  ) fun t5=>
 bif y2 then
  jn (σ:=Unit) (fun _=>
   some ((-1:Int))
   ) fun x5=>
  bif y4 then
   some ((0:Int))
  else
   x5 ()
 else
  t5 ()
theorem en63:Enters Tryz.prog 63:=enters_of Tryz.func63 (by kernel_rfl) rfl
theorem wk63 {gI:Gh} {wI:World} {x0:Int} {x1:Int}  {r:Int} (h:f63 x0 x1=some r):Fn Tryz.prog 63 #[.int .i64 (x0),.int .i64 (x1)] gI wI (fun _ _ v=>v=.int .i64 (r)):=by
 unfold f63 at h
 refine fn_of_E Tryz.func63 rfl (Nat.le_of_ble_eq_true rfl) fun g0 hm hfr=>?_
 show E _ 20 none _ _ _ _ _
 refine Zf (Za (Zg (.int .i64 (0)) rfl rfl ?_))
 refine Zb (Zd (Zf (Za (Zn (.int .i64 (x0)) rfl rfl ?_))))
 obtain ⟨y2,hy2,h⟩:=bsome h
 refine Ze .plain rfl (Zp (g:=g0) (vs:=[.int .i64 (x0)]) en86 (.cons rfl .nil) (wk86  hy2) fun g1 w1_ v1 hs hr=>?_)
 have hfr:=hfr.ext hs
 subst hr
 refine Zg (.bool (y2)) rfl rfl ?_
 refine Zb (Zd (Zf (Za (Zn (.int .i64 (x1)) rfl rfl ?_))))
 obtain ⟨y4,a7,h⟩:=bsome h
 refine Ze .plain rfl (Zp (g:=g1) (vs:=[.int .i64 (x1)]) en86 (.cons rfl .nil) (wk86  a7) fun g3 w3_ v3 hs hr=>?_)
 have hfr:=hfr.ext hs
 subst hr
 refine Zg (.bool (y4)) rfl rfl ?_
 refine Zb (Zd (Zq h (fun (s:Unit) e w=>∃ (g:Gh) ,Fr gI wI g w∧e 0=.int .i64 (x0)∧e 1=.int .i64 (x1)∧e 6=.bool (y4)) (fun X10 t5 i6 h=>?_) ?_))
 ·refine Zf (Za (Zn (.bool (y2)) rfl rfl ?_))
  refine Zb (Zd ?_)
  rcases Zt h with ⟨o0,h⟩ | ⟨o0,h⟩
  ·refine E_ct o0 rfl ?_
   refine Zq h (fun (s:Unit) e w=>∃ (g:Gh) ,Fr gI wI g w) (fun X13 x5 j6 h=>?_) ?_
   ·refine Zf (Za (Zn (.bool (y4)) rfl rfl ?_))
    refine Zb (Zd ?_)
    rcases Zt h with ⟨u0,h⟩ | ⟨u0,h⟩
    ·refine E_ct u0 rfl ?_
     refine Zf (Za (Zg (.int .i64 (0)) rfl rfl ?_))
     refine Zb (Zd (E_ret (thn_r ?_)))
     refine thn_r ?_
     obtain rfl:=sinj h
     exact end1 rfl rfl (show _=.int .i64 (0) from rfl) ⟨_,hfr,rfl⟩
    ·refine E_cf u0 rfl ?_
     exact Zu (Zd (j6 () _ _ ⟨g3,hfr⟩ h))
   ·rintro _ e7 w15 ⟨n7, hfr⟩ h
    refine Zf (Za (Zg (.int .i64 (-1)) rfl rfl ?_))
    refine Zb (Zd (E_ret (thn_r ?_)))
    obtain rfl:=sinj h
    exact end1 rfl rfl (show _=.int .i64 (-1) from rfl) ⟨_,hfr,rfl⟩
  ·refine E_cf o0 rfl ?_
   exact Zu (Zd (i6 () _ _ ⟨g3,hfr,rfl,rfl,rfl⟩ h))
 ·rintro _ g7 o7 ⟨b7, hfr, o3, u3, z3⟩ h
  refine Zq h (fun (s:Unit) e w=>∃ (g:Gh) ,Fr gI wI g w∧e 0=.int .i64 (x0)∧e 1=.int .i64 (x1)) (fun X18 k18 v6 h=>?_) ?_
  ·refine Zf (Za (Zo z3 rfl ?_))
   refine Zb (Zd ?_)
   rcases Zt h with ⟨j1,h⟩ | ⟨j1,h⟩
   ·refine E_ct j1 rfl ?_
    refine Zf (Za (Zg (.int .i64 (1)) rfl rfl ?_))
    refine Zb (Zd (E_ret (thn_r ?_)))
    obtain rfl:=sinj h
    exact end1 rfl rfl (show _=.int .i64 (1) from rfl) ⟨_,hfr,rfl⟩
   ·refine E_cf j1 rfl ?_
    exact Zu (Zd (v6 () _ _ ⟨b7,hfr,o3,u3⟩ h))
  ·rintro _ i7 u7 ⟨c7, hfr, i3, j3⟩ h
   refine Zq h (fun (s:Unit) e w=>∃ (g:Gh) ,Fr gI wI g w∧e 0=.int .i64 (x0)∧e 1=.int .i64 (x1)) (fun X22 q5 x6 h=>?_) ?_
   ·refine Zf (Za (Zo i3 rfl ?_))
    refine Zo j3 rfl ?_
    refine EL_in (.bool ((decide (x0 < x1)))) rfl rfl rfl rfl ?_
    refine Zb (Zd ?_)
    rcases Zt h with ⟨z2,h⟩ | ⟨z2,h⟩
    ·refine E_ct z2 rfl ?_
     refine Zf (Za (Zg (.int .i64 (-1)) rfl rfl ?_))
     refine Zb (Zd (E_ret (thn_r ?_)))
     obtain rfl:=sinj h
     exact end1 rfl rfl (show _=.int .i64 (-1) from rfl) ⟨_,hfr,rfl⟩
    ·refine E_cf z2 rfl ?_
     exact Zu (Zd (x6 () _ _ ⟨c7,hfr,i3,j3⟩ h))
   ·rintro _ j7 v7 ⟨d7, hfr, z4, i5⟩ h
    refine Zq h (fun (s:Unit) e w=>∃ (g:Gh) ,Fr gI wI g w) (fun X26 l5 y6 h=>?_) ?_
    ·refine Zf (Za (Zo z4 rfl ?_))
     refine Zo i5 rfl ?_
     refine EL_in (.bool ((decide (x0 > x1)))) rfl rfl rfl rfl ?_
     refine Zb (Zd ?_)
     rcases Zt h with ⟨d3,h⟩ | ⟨d3,h⟩
     ·refine E_ct d3 rfl ?_
      refine Zf (Za (Zg (.int .i64 (1)) rfl rfl ?_))
      refine Zb (Zd (E_ret (thn_r ?_)))
      obtain rfl:=sinj h
      exact end1 rfl rfl (show _=.int .i64 (1) from rfl) ⟨_,hfr,rfl⟩
     ·refine E_cf d3 rfl ?_
      exact Zu (Zd (y6 () _ _ ⟨d7,hfr⟩ h))
    ·rintro _ m7 c8 ⟨e8, hfr⟩ h
     refine Zf (Za (Zg (.int .i64 (0)) rfl rfl ?_))
     refine Zb (Zd (E_ret ?_))
     obtain rfl:=sinj h
     exact end1 rfl rfl (show _=.int .i64 (0) from rfl) ⟨_,hfr,rfl⟩
def f72 (x0:FaultDamage) (x1:FaultDamage):Option (Int):=
 (f73 ((x0).Kind)).bind fun y6=>
 (f73 ((x1).Kind)).bind fun o0=>
 some ((w64 (y6 - o0)))
theorem en72:Enters Tryz.prog 72:=enters_of Tryz.func72 (by kernel_rfl) rfl
theorem wk72 {gI:Gh} {wI:World} {x0:FaultDamage} {x1:FaultDamage} {up0:Value} (rp0:RV gI.m wI x0 up0) {up1:Value} (rp1:RV gI.m wI x1 up1) {r:Int} (h:f72 x0 x1=some r):Fn Tryz.prog 72 #[up0,up1] gI wI (fun _ _ v=>v=.int .i64 (r)):=by
 unfold f72 at h
 refine fn_of_E Tryz.func72 rfl (Nat.le_of_ble_eq_true rfl) fun g0 hm hfr=>?_
 have rp0:RV g0.m wI x0 up0:=hm ▸ rp0
 have rp1:RV g0.m wI x1 up1:=hm ▸ rp1
 show E _ 12 none _ _ _ _ _
 refine Zf (Za (Ze .plain rfl (D_box (g:=g0) rfl rp0 fun g1 w1 p1 hs q1=>?_)))
 have hfr:=hfr.ext hs
 have rp1:=rp1.ext hs
 refine Ze .plain rfl (D_box (g:=g1) rfl rp1 fun g2 w2 p2 hs q2=>?_)
 have hfr:=hfr.ext hs
 have q1:=q1.ext hs
 refine Zg (.int .i64 (0)) rfl rfl ?_
 refine Zb (Zd (Zf ?_))
 have q3:=Zm (part_FaultDamage_0).1 q1
 refine Zs (x:=.tmp 5) Tryz.isAgg43 Tryz.sizeOf43 q3 fun v4 r4 j1=>?_
 obtain rfl:=Zj.1 r4
 obtain ⟨y6,z2,h⟩:=bsome h
 have q7:=Zm (part_FaultDamage_0).1 q2
 refine Zs (x:=.tmp 8) Tryz.isAgg43 Tryz.sizeOf43 q7 fun v8 r8 d3=>?_
 obtain rfl:=Zj.1 r8
 obtain ⟨o0,u0,h⟩:=bsome h
 refine E_drawL (g:=g2) (n:=8) [(2,(fun v g w=>v=.int .i64 (y6))),(5,(fun v g w=>v=.int .i64 (o0)))] [0,1,2,3,4,5,6,7] rfl mixed (by kernel_rfl) (⟨fun _=>up_eq _,fun _=>up_eq _,trivial⟩) ?_
 refine L_p (fPtr p1 0) rfl rfl (Zc at_45_0 rfl (PT.ptr q1)) ?_
 refine L_ld (c:=.int .i64 ((x0).Kind)) rfl rfl .plain (fun _ _ h=>h.ch) j1 rfl ?_
 refine L_do (φ:=fun v g w=>v=.int .i64 (y6)) rfl rfl .plain (fun g w hd=>Zp (g:=g) (vs:=[.int .i64 ((x0).Kind)]) en73 (.cons rfl .nil) (wk73  z2) fun g' w' v hs hr=>⟨g',hs,hr⟩) (fun v5 hv=>?_)
 obtain ⟨_,_,_,rfl⟩:=hv
 refine L_p (fPtr p2 0) rfl rfl (Zc at_45_0 rfl (PT.ptr q2)) ?_
 refine L_ld (c:=.int .i64 ((x1).Kind)) rfl rfl .plain (fun _ _ h=>h.ch) d3 rfl ?_
 refine L_do (φ:=fun v g w=>v=.int .i64 (o0)) rfl rfl .plain (fun g w hd=>Zp (g:=g) (vs:=[.int .i64 ((x1).Kind)]) en73 (.cons rfl .nil) (wk73  u0) fun g' w' v hs hr=>⟨g',hs,hr⟩) (fun v9 hv=>?_)
 obtain ⟨_,_,_,rfl⟩:=hv
 refine L_p (.int .i64 ((w64 (y6 - o0)))) rfl rfl (P_int rfl rfl rfl) ?_
 refine L_p (.int .i64 ((w64 (y6 - o0)))) rfl rfl (P_assign rfl) ?_
 refine L_nl fun i3 j3 hs=>?_
 have hfr:=hfr.ext hs
 clear hs
 refine Zb (Zd (E_ret ?_))
 obtain rfl:=sinj h
 exact end1 rfl rfl (show _=.int .i64 ((w64 (y6 - o0))) from rfl) ⟨_,hfr,rfl⟩
def f76 (x0:List Int) (x1:Int→Option Bool):Option (Bool):=
 (f97 x0 x1).bind fun y2=>
 some ((decide (y2 ≥ (0:Int))))
theorem en76:Enters Tryz.prog 76:=enters_of Tryz.func76 (by kernel_rfl) rfl
theorem wk76 {gI:Gh} {wI:World} {x0:List Int} {x1:Int→Option Bool} {up0:Value} (rp0:RV gI.m wI x0 up0) {up1:Value} (rp1:FnV1 Tryz.prog x1 up1 gI wI) {r:Bool} (h:f76 x0 x1=some r):Fn Tryz.prog 76 #[up0,up1] gI wI (fun _ _ v=>v=.bool (r)):=by
 unfold f76 at h
 refine fn_of_E Tryz.func76 rfl (Nat.le_of_ble_eq_true rfl) fun g0 hm hfr=>?_
 have rp0:RV g0.m wI x0 up0:=hm ▸ rp0
 obtain ⟨ff1,fa1,fc1,rfl,fen1,fcl1⟩:=rp1
 show E _ 9 none _ _ _ _ _
 refine Zf (Za (Zg (.bool false) rfl rfl ?_))
 refine Zb (Zd (Zf (Za (Zn up0 rfl rfl ?_))))
 refine Zn ((.func (.func ff1) fa1 fc1)) rfl rfl ?_
 obtain ⟨y2,hy2,h⟩:=bsome h
 refine Ze .plain rfl (Zp (g:=g0) (vs:=[up0,(.func (.func ff1) fa1 fc1)]) en97 (.cons rfl (.cons rfl .nil)) (wk97 rp0 (FnV1.ch ⟨_,_,_,rfl,fen1,fcl1⟩ hfr.ch) hy2) fun g1 w1_ v1 hs hr=>?_)
 have hfr:=hfr.ext hs
 subst hr
 refine EL_in (.bool ((decide (y2 ≥ (0:Int))))) rfl rfl rfl rfl ?_
 refine Zg (.bool ((decide (y2 ≥ (0:Int))))) rfl rfl ?_
 refine Zb (Zd (E_ret ?_))
 obtain rfl:=sinj h
 exact end1 rfl rfl (show _=.bool ((decide (y2 ≥ (0:Int)))) from rfl) ⟨_,hfr,rfl⟩
def f79 (x0:LoomLoomMill) (x1:Vector (Vector Int 7) 128) (x2:Int) (x3:Int) (x4:Int) (x5:List (Int × LoomRun)):Option (Int):=
 (shl64 (1:Int) x3).bind fun y2=>
 jn (σ:=Unit) (fun _=>
  Option.bind (α:=Int) (
   lp (σ:=Int × Int) (fun kB (u0,o0)=>
    bif (decide (o0 < (((x0).orders).length : Int))) then
     Option.bind (α:=Int) (
      jn (σ:=Unit) (fun _=>
       (idx (x1).toList (bit64 .andNot x2 y2)).bind fun lB=>
       (idx (lB).toList o0).bind fun t5=>
       Option.bind (α:=Int) (
        (idx ((x0).orders) o0).bind fun e8=>
        (idx ((x0).orders) x3).bind fun g8=>
        bif ((e8).Chain != (g8).Chain) then
         some ((w64 (t5 + ((x0).LoomMill).Change)))
        else
         some (t5)
        ) fun z4=>
       (f98 x0 x3 x4 z4 x5).bind fun i8=>
       some ((min64 u0 i8))
       ) fun mB=>
      Option.bind (α:=Bool) (
       (shr64 (bit64 .andNot x2 y2) o0).bind fun o3=>
       bif ((bit64 .and o3 (1 : Int)) == (0 : Int)) then
        some (true)
       else
        (idx (x1).toList (bit64 .andNot x2 y2)).bind fun nB=>
        (idx (nB).toList o0).bind fun k8=>
        some ((decide (k8 ≥ (1048576:Int))))
       ) fun i3=>
      bif i3 then
       some (u0)
      else
       mB ()
      ) fun i5=>
     kB (i5,(w64 (o0 + (1:Int))))
    else
     some (u0)
    ) big ((1048576:Int),(0:Int))
   ) fun j3=>
  some (j3)
  ) fun k7=>
 bif ((bit64 .andNot x2 y2) == (0 : Int)) then
  (f98 x0 x3 x4 ((0:Int)) x5).bind fun y11=>
  some (y11)
 else
  k7 ()
theorem en79:Enters Tryz.prog 79:=enters_of Tryz.func79 (by kernel_rfl) rfl
theorem wk79 {gI:Gh} {wI:World} {x0:LoomLoomMill} {x1:Vector (Vector Int 7) 128} {x2:Int} {x3:Int} {x4:Int} {x5:List (Int × LoomRun)} {up0:Value} (rp0:RV gI.m wI x0 up0) {up1:Value} (rp1:PT gI.m wI x1 up1) {up5:Value} (mq5:MR (Value.int .i64) gI wI x5 up5) {r:Int} (h:f79 x0 x1 x2 x3 x4 x5=some r):Fn Tryz.prog 79 #[up0,up1,.int .i64 (x2),.int .i64 (x3),.int .i64 (x4),up5] gI wI (fun _ _ v=>v=.int .i64 (r)):=by
 unfold f79 at h
 refine fn_of_E Tryz.func79 rfl (Nat.le_of_ble_eq_true rfl) fun g0 hm hfr=>?_
 have rp0:RV g0.m wI x0 up0:=hm ▸ rp0
 have rp1:PT g0.m wI x1 up1:=hm ▸ rp1
 have mq5:=MQ.enter mq5 hm hfr
 show E _ 84 none _ _ _ _ _
 refine Zf (Za (Ze .plain rfl (D_box (g:=g0) rfl rp0 fun g1 w1 p1 hs q1=>?_)))
 have hfr:=hfr.ext hs
 have rp1:=rp1.ext hs
 have mq5:=mq5.ext hs
 refine Zg (.int .i64 (0)) rfl rfl ?_
 refine Zb (Zd (Zf (Za (Zn (.int .i64 (x2)) rfl rfl ?_))))
 refine Zn (.int .i64 (x3)) rfl rfl ?_
 obtain ⟨y2,hy2,h⟩:=bsome h
 refine EL_p (.int .i64 (y2)) (P_int rfl rfl (congrArg (Option.map (Value.int .i64)) hy2)) rfl ?_
 refine EL_in (.int .i64 ((bit64 .andNot x2 y2))) rfl rfl rfl rfl ?_
 refine Zg (.int .i64 ((bit64 .andNot x2 y2))) rfl rfl ?_
 refine Zb (Zd (Zq h (fun (s:Unit) e w=>∃ (g:Gh) ,Fr gI wI g w∧e 1=up1∧PT g.m w (x1:Vector (Vector Int 7) 128) up1∧e 3=.int .i64 (x3)∧e 4=.int .i64 (x4)∧e 5=up5∧MQ (Value.int .i64) wI.heap.size g w (x5:List (Int × LoomRun)) up5∧e 6=p1∧PT g.m w (x0:LoomLoomMill) p1∧e 13=.int .i64 ((bit64 .andNot x2 y2))) (fun X7 k7 hk7 h=>?_) ?_))
 ·refine Zf (Za (Zn (.int .i64 ((bit64 .andNot x2 y2))) rfl rfl ?_))
  refine EL_in (.bool (((bit64 .andNot x2 y2) == (0:Int)))) rfl rfl rfl rfl ?_
  refine Zb (Zd ?_)
  rcases Zt h with ⟨hc8,h⟩ | ⟨hc8,h⟩
  ·refine E_ct hc8 rfl ?_
   refine Zf (Za (Ze .plain rfl (D_load (g:=g1) Tryz.isAgg81 Tryz.sizeOf81 rfl q1 fun v9 r9=>?_)))
   refine Zn (.int .i64 (x3)) rfl rfl ?_
   refine Zn (.int .i64 (x4)) rfl rfl ?_
   refine Zn up5 rfl rfl ?_
   obtain ⟨y11,tD,h⟩:=bsome h
   refine Ze .plain rfl (Zp (g:=g1) (vs:=[v9,.int .i64 (x3),.int .i64 (x4),.int .i64 (0),up5]) en98 (.cons rfl (.cons rfl (.cons rfl (.cons rfl (.cons rfl .nil))))) (wk98 r9 mq5.r tD) fun aG zE bG hs hr=>?_)
   have hfr:=hfr.ext hs
   subst hr
   refine Zg (.int .i64 (y11)) rfl rfl ?_
   refine Zb (Zd (E_ret (thn_r ?_)))
   obtain rfl:=sinj h
   exact end1 rfl rfl (show _=.int .i64 (y11) from rfl) ⟨_,hfr,rfl⟩
  ·refine E_cf hc8 rfl ?_
   exact Zu (Zd (hk7 () _ _ ⟨g1,hfr,rfl,rp1,rfl,rfl,rfl,mq5,rfl,q1,rfl⟩ h))
 ·rintro _ cF cG ⟨sD, hfr, xC, yC, aD, bD, cD, eD, mA, l8, oB⟩ h
  refine Zf (Za (Zg (.int .i64 (1048576)) rfl rfl ?_))
  refine Zb (Zd ?_)
  obtain ⟨j3,hx,h⟩:=bsome h
  refine E_join (fun e w=>∃ (g:Gh) ,Fr gI wI g w∧e 14=.int .i64 (j3)) (fun Q' hQ=>?_) (fun rE dF hR=>?_)
  ·replace h := hx
   clear hx
   refine Zf (Za (EL_p (fPtr p1 2) (Zc at_81_1 mA (PT.ptr l8)) rfl ?_))
   have uD:=Zm (part_LoomLoomMill_1).1 l8
   refine Ze .plain rfl (D_load (g:=sD) Tryz.isAgg29 Tryz.sizeOf29 rfl uD fun eF vD=>?_)
   refine EL_p (.int .i64 (((x0).orders).length:Int)) (P_len Tryz.underlying29 rfl vD) rfl ?_
   refine Zn (.int .i64 (0)) rfl rfl ?_
   refine Zb (Zd (Zr ?_))
   refine E_lp h (fun (s:Int × Int) e w=>∃ (g:Gh) ,Fr gI wI g w∧e 1=up1∧PT g.m w (x1:Vector (Vector Int 7) 128) up1∧e 3=.int .i64 (x3)∧e 4=.int .i64 (x4)∧e 5=up5∧MQ (Value.int .i64) wI.heap.size g w (x5:List (Int × LoomRun)) up5∧e 6=p1∧PT g.m w (x0:LoomLoomMill) p1∧e 13=.int .i64 ((bit64 .andNot x2 y2))∧e 14=.int .i64 (s.1)∧e 30=.int .i64 ((((x0).orders).length:Int))∧e 31=.int .i64 (s.2)) ⟨sD,hfr,xC,yC,aD,bD,cD,eD,mA,l8,oB,rfl,rfl,rfl⟩ (fun X310 kB gD=>?_)
   rintro ⟨u0,o0⟩ sE iF ⟨m8,hfr,b7,u3,r8,t8,v8,x8,y8,a9,l5,x6,y6,q5⟩ h
   refine Zf (Za (EL_p (.bool ((decide (o0 < (((x0).orders).length:Int))))) (P_int q5 y6 rfl) rfl ?_))
   refine Zb (Zd (Zf ?_))
   rcases Zt h with ⟨n8,h⟩ | ⟨n8,h⟩
   ·refine E_ct n8 rfl ?_
    refine Zu (Zd ?_)
    obtain ⟨i5,hx,h⟩:=bsome h
    refine E_join (fun e w=>∃ (g:Gh) ,Fr gI wI g w∧e 1=up1∧PT g.m w (x1:Vector (Vector Int 7) 128) up1∧e 3=.int .i64 (x3)∧e 4=.int .i64 (x4)∧e 5=up5∧MQ (Value.int .i64) wI.heap.size g w (x5:List (Int × LoomRun)) up5∧e 6=p1∧PT g.m w (x0:LoomLoomMill) p1∧e 13=.int .i64 ((bit64 .andNot x2 y2))∧e 14=.int .i64 (i5)∧e 30=.int .i64 ((((x0).orders).length:Int))∧e 31=.int .i64 (o0)) (fun Q' hQ=>?_) (fun tE nF hR=>?_)
    ·replace h := hx
     clear hx
     refine Zr ?_
     refine Zf (Za (Zo q5 rfl ?_))
     refine Zg (.int .i64 (o0)) rfl rfl ?_
     refine Zb (Zd (Zq h (fun (s:Unit) e w=>∃ (g:Gh) ,Fr gI wI g w∧e 1=up1∧PT g.m w (x1:Vector (Vector Int 7) 128) up1∧e 3=.int .i64 (x3)∧e 4=.int .i64 (x4)∧e 5=up5∧MQ (Value.int .i64) wI.heap.size g w (x5:List (Int × LoomRun)) up5∧e 6=p1∧PT g.m w (x0:LoomLoomMill) p1∧e 13=.int .i64 ((bit64 .andNot x2 y2))∧e 14=.int .i64 (u0)∧e 15=.int .i64 (o0)∧e 30=.int .i64 ((((x0).orders).length:Int))∧e 31=.int .i64 (o0)) (fun X475 mB iD h=>?_) ?_))
     ·obtain ⟨i3, hx, h⟩ := bsome h
      refine E_join (fun e w=>∃ (g:Gh) ,Fr gI wI g w∧e 1=up1∧PT g.m w (x1:Vector (Vector Int 7) 128) up1∧e 3=.int .i64 (x3)∧e 4=.int .i64 (x4)∧e 5=up5∧MQ (Value.int .i64) wI.heap.size g w (x5:List (Int × LoomRun)) up5∧e 6=p1∧PT g.m w (x0:LoomLoomMill) p1∧e 13=.int .i64 ((bit64 .andNot x2 y2))∧e 14=.int .i64 (u0)∧e 15=.int .i64 (o0)∧e 30=.int .i64 ((((x0).orders).length:Int))∧e 31=.int .i64 (o0)∧e 48=.bool (i3)) (fun Q' hQ=>?_) (fun uE oF hR=>?_)
      ·replace h := hx
       clear hx
       refine Za (Zo l5 rfl ?_)
       refine Zn (.int .i64 (o0)) rfl rfl ?_
       obtain ⟨o3,jD,h⟩:=bsome h
       refine EL_p (.int .i64 (o3)) (P_int rfl rfl (congrArg (Option.map (Value.int .i64)) jD)) rfl ?_
       refine EL_in (.int .i64 ((bit64 .and o3 (1:Int)))) rfl rfl rfl rfl ?_
       refine EL_in (.bool (((bit64 .and o3 (1:Int)) == (0:Int)))) rfl rfl rfl rfl ?_
       refine Zn (.bool (((bit64 .and o3 (1:Int)) == (0:Int)))) rfl rfl ?_
       rcases Zt h with ⟨j1,h⟩ | ⟨j1,h⟩
       ·refine EL_s rfl rfl j1 rfl rfl ?_
        iterate 7 refine EL_s rfl rfl j1 rfl rfl ?_
        refine EL_p (.bool true) (Zl (b:=((bit64 .and o3 (1:Int)) == (0:Int))) rfl (pick_t j1 rfl)) rfl ?_
        refine Zb ?_
        obtain rfl:=sinj h
        exact hQ _ _ ⟨m8,hfr,b7,u3,r8,t8,v8,x8,y8,a9,l5,x6,rfl,y6,q5,rfl⟩
       ·refine EL_y up1 (Zk b7) rfl rfl j1 rfl ?_
        refine EL_y (.int .i64 ((bit64 .andNot x2 y2))) (Zk l5) rfl rfl j1 rfl ?_
        refine EL_y (.int .i64 (o0)) (Zk rfl) rfl rfl j1 rfl ?_
        obtain ⟨pb486,po486,pe486⟩:=PT.ptr u3
        refine EL_y up1 (P_nilCk rfl pe486) rfl rfl j1 rfl ?_
        obtain ⟨nB,nA,h⟩:=bsome h
        refine EL_y (fPtr up1 (((bit64 .andNot x2 y2):Int).toNat * 7)) (P_indexAddrA (α:=Vector Int 7) Tryz.underlying150 Tryz.sizeOf148 rfl (PT.ptr u3) rfl nA) rfl rfl j1 rfl ?_
        have tB:=PT_idxA u3 nA
        obtain ⟨k8,oA,h⟩:=bsome h
        refine EL_y (fPtr (fPtr up1 (((bit64 .andNot x2 y2):Int).toNat * 7)) ((o0:Int).toNat * 1)) (P_indexAddrA (α:=Int) Tryz.underlying148 Tryz.sizeOf3 rfl (PT.ptr tB) rfl oA) rfl rfl j1 rfl ?_
        have xD:=PT_idxA tB oA
        refine Ze (.yes2 rfl rfl j1) rfl (D_load (g:=m8) Tryz.isAgg3 Tryz.sizeOf3 rfl xD fun pF yD=>?_)
        obtain rfl:=Zj.1 yD
        refine EL_y (.bool ((decide (k8 ≥ (1048576:Int))))) (P_int rfl rfl rfl) rfl rfl j1 rfl ?_
        refine EL_p (.bool ((decide (k8 ≥ (1048576:Int))))) (Zl (b:=((bit64 .and o3 (1:Int)) == (0:Int))) rfl (pick_f j1 rfl)) rfl ?_
        refine Zb ?_
        obtain rfl:=sinj h
        exact hQ _ _ ⟨m8,hfr,b7,u3,r8,t8,v8,x8,y8,a9,l5,x6,rfl,y6,q5,rfl⟩
      ·clear hx
       obtain ⟨vB,hfr,d9,e9,i9,k9,l9,n9,o9,t9,g7,i7,uA,j7,m7,n7⟩:=hR
       rcases Zt h with ⟨o8,h⟩ | ⟨o8,h⟩
       ·refine E_cond_true (Eq.trans (show ev _ _ = .bool (i3) from n7) (congrArg Value.bool o8)) ?_
        refine E_exit ?_
        refine thn_e ?_
        refine blk_hit ?_
        obtain rfl:=sinj h
        exact hQ _ _ ⟨vB,hfr,d9,e9,i9,k9,l9,n9,o9,t9,g7,i7,j7,m7⟩
       ·refine E_cond_false (Eq.trans (show ev _ _ = .bool (i3) from n7) (congrArg Value.bool o8)) ?_
        exact Zu (Zd (iD () _ _ ⟨vB,hfr,d9,e9,i9,k9,l9,n9,o9,t9,g7,i7,uA,j7,m7⟩ h))
     ·rintro _ vE qF ⟨xB, hfr, c7, d3, d7, u9, y9, i6, z3, z2, a7, o7, u7, v7, c8⟩ h
      refine Zf (Za (Zo c7 rfl ?_))
      refine Zo a7 rfl ?_
      refine Zo u7 rfl ?_
      obtain ⟨pb495,po495,pe495⟩:=PT.ptr d3
      refine EL_p up1 (P_nilCk rfl pe495) rfl ?_
      obtain ⟨lB,pA,h⟩:=bsome h
      refine EL_p (fPtr up1 (((bit64 .andNot x2 y2):Int).toNat * 7)) (P_indexAddrA (α:=Vector Int 7) Tryz.underlying150 Tryz.sizeOf148 rfl (PT.ptr d3) rfl pA) rfl ?_
      have yB:=PT_idxA d3 pA
      obtain ⟨t5,qA,h⟩:=bsome h
      refine EL_p (fPtr (fPtr up1 (((bit64 .andNot x2 y2):Int).toNat * 7)) ((o0:Int).toNat * 1)) (P_indexAddrA (α:=Int) Tryz.underlying148 Tryz.sizeOf3 rfl (PT.ptr yB) rfl qA) rfl ?_
      have zD:=PT_idxA yB qA
      refine Ze .plain rfl (D_load (g:=xB) Tryz.isAgg3 Tryz.sizeOf3 rfl zD fun rF aE=>?_)
      obtain rfl:=Zj.1 aE
      refine Zg (.int .i64 (t5)) rfl rfl ?_
      refine Zb (Zd ?_)
      obtain ⟨z4,hx,h⟩:=bsome h
      refine E_join (fun e w=>∃ (g:Gh) ,Fr gI wI g w∧e 1=up1∧PT g.m w (x1:Vector (Vector Int 7) 128) up1∧e 3=.int .i64 (x3)∧e 4=.int .i64 (x4)∧e 5=up5∧MQ (Value.int .i64) wI.heap.size g w (x5:List (Int × LoomRun)) up5∧e 6=p1∧PT g.m w (x0:LoomLoomMill) p1∧e 13=.int .i64 ((bit64 .andNot x2 y2))∧e 14=.int .i64 (u0)∧e 16=.int .i64 (z4)∧e 30=.int .i64 ((((x0).orders).length:Int))∧e 31=.int .i64 (o0)) (fun Q' hQ=>?_) (fun xE sF hR=>?_)
      ·replace h := hx
       clear hx
       refine Zf ?_
       have bE:=Zm (part_LoomLoomMill_1).1 z2
       refine Zs (x:=.tmp 56) Tryz.isAgg29 Tryz.sizeOf29 bE fun jA zB kD=>?_
       obtain ⟨e8,rA,h⟩:=bsome h
       have aC:=PT_idx zB rA
       have cE:=Zm (part_LoomOrder_1).1 aC
       refine Zs (x:=.tmp 60) Tryz.isAgg3 Tryz.sizeOf3 cE fun tF dE lD=>?_
       obtain rfl:=Zj.1 dE
       have eE:=Zm (part_LoomLoomMill_1).1 z2
       refine Zs (x:=.tmp 62) Tryz.isAgg29 Tryz.sizeOf29 eE fun kA cC mD=>?_
       obtain ⟨g8,sA,h⟩:=bsome h
       have dC:=PT_idx cC sA
       have gE:=Zm (part_LoomOrder_1).1 dC
       refine Zs (x:=.tmp 66) Tryz.isAgg3 Tryz.sizeOf3 gE fun uF iE nD=>?_
       obtain rfl:=Zj.1 iE
       refine E_drawL (g:=xB) (n:=13) [] [0,1,2,3,4,5,6,7,8,9,10,11,12] rfl mixed (by kernel_rfl) trivial ?_
       refine L_p (fPtr p1 2) rfl rfl (Zc at_81_1 z3 (PT.ptr z2)) ?_
       refine L_ld (c:=jA) rfl rfl .plain (fun _ _ h=>h.ch) kD rfl ?_
       refine L_p (.int .i64 (o0)) rfl rfl (Zk u7) ?_
       refine L_p (ePtr jA o0 5) rfl rfl (Zh (α:=LoomOrder) Tryz.underlying29 Tryz.sizeOf67 rfl zB rfl rA) ?_
       refine L_p (fPtr (ePtr jA o0 5) 1) rfl rfl (Zc at_67_1 rfl (PT.ptr aC)) ?_
       refine L_ld (c:=.int .i64 ((e8).Chain)) rfl rfl .plain (fun _ _ h=>h.ch) lD rfl ?_
       refine L_p (fPtr p1 2) rfl rfl (Zc at_81_1 z3 (PT.ptr z2)) ?_
       refine L_ld (c:=kA) rfl rfl .plain (fun _ _ h=>h.ch) mD rfl ?_
       refine L_p (.int .i64 (x3)) rfl rfl (Zk d7) ?_
       refine L_p (ePtr kA x3 5) rfl rfl (Zh (α:=LoomOrder) Tryz.underlying29 Tryz.sizeOf67 rfl cC rfl sA) ?_
       refine L_p (fPtr (ePtr kA x3 5) 1) rfl rfl (Zc at_67_1 rfl (PT.ptr dC)) ?_
       refine L_ld (c:=.int .i64 ((g8).Chain)) rfl rfl .plain (fun _ _ h=>h.ch) nD rfl ?_
       refine L_p (.bool (((e8).Chain != (g8).Chain))) rfl rfl (P_int rfl rfl rfl) ?_
       refine L_nl fun lA vF hs=>?_
       have hfr:=hfr.ext hs
       have d3:=d3.ext hs
       have i6:=i6.ext hs
       have z2:=z2.ext hs
       clear hs
       refine Zb (Zd ?_)
       rcases Zt h with ⟨q8,h⟩ | ⟨q8,h⟩
       ·refine E_ct q8 rfl ?_
        refine Za (Zn (.int .i64 (t5)) rfl rfl ?_)
        refine EL_p (fPtr p1 0) (Zc at_81_0 z3 (PT.ptr z2)) rfl ?_
        have eC:=Zm (part_LoomLoomMill_0).1 z2
        refine EL_p (fPtr (fPtr p1 0) 1) (Zc at_28_1 rfl (PT.ptr eC)) rfl ?_
        have jE:=Zm (part_LoomMill_1).1 eC
        refine Ze .plain rfl (D_load (g:=lA) Tryz.isAgg3 Tryz.sizeOf3 rfl jE fun xF kE=>?_)
        obtain rfl:=Zj.1 kE
        refine EL_in (.int .i64 ((w64 (t5 + ((x0).LoomMill).Change)))) rfl rfl rfl rfl ?_
        refine Zg (.int .i64 ((w64 (t5 + ((x0).LoomMill).Change)))) rfl rfl ?_
        refine Zb ?_
        obtain rfl:=sinj h
        exact hQ _ _ ⟨lA,hfr,c7,d3,d7,u9,y9,i6,z3,z2,a7,o7,rfl,v7,c8⟩
       ·refine E_cf q8 rfl ?_
        refine Zu ?_
        obtain rfl:=sinj h
        exact hQ _ _ ⟨lA,hfr,c7,d3,d7,u9,y9,i6,z3,z2,a7,o7,rfl,v7,c8⟩
      ·clear hx
       obtain ⟨iC,hfr,jC,e7,z9,bA,gA,j6,iA,v6,xA,yA,zA,aB,bB⟩:=hR
       refine Za (Zo yA rfl ?_)
       refine Ze .plain rfl (D_load (g:=iC) Tryz.isAgg81 Tryz.sizeOf81 iA v6 fun lE mE=>?_)
       refine Zo z9 rfl ?_
       refine Zo bA rfl ?_
       refine Zo zA rfl ?_
       refine Zo gA rfl ?_
       obtain ⟨i8,oD,h⟩:=bsome h
       refine Ze .plain rfl (Zp (g:=iC) (vs:=[lE,.int .i64 (x3),.int .i64 (x4),.int .i64 (z4),up5]) en98 (.cons rfl (.cons rfl (.cons rfl (.cons rfl (.cons rfl .nil))))) (wk98 mE j6.r oD) fun nE yE yF hs hr=>?_)
       have hfr:=hfr.ext hs
       have e7:=e7.ext hs
       have j6:=j6.ext hs
       have v6:=v6.ext hs
       subst hr
       refine EL_p (.int .i64 (min64 u0 i8)) (P_min rfl rfl) rfl ?_
       refine Zg (.int .i64 (min64 u0 i8)) rfl rfl ?_
       refine Zb (blk_n ?_)
       obtain rfl:=sinj h
       exact hQ _ _ ⟨nE,hfr,jC,e7,z9,bA,gA,j6,iA,v6,xA,rfl,aB,bB⟩
    ·clear hx
     obtain ⟨oE,hfr,kC,lC,mC,qC,rC,tC,uC,vC,cB,dB,eB,iB⟩:=hR
     refine Za (EL_in (.int .i64 ((w64 (o0 + (1:Int))))) iB rfl rfl rfl ?_)
     refine Zn (.int .i64 ((w64 (o0 + (1:Int))))) rfl rfl ?_
     exact Zb (Zd (gD (i5,(w64 (o0 + (1:Int)))) _ _ ⟨oE,hfr,kC,lC,mC,qC,rC,tC,uC,vC,cB,dB,eB,rfl⟩ h))
   ·refine E_cf n8 rfl ?_
    refine E_exit ?_
    refine thn_e ?_
    refine thn_e ?_
    refine blk_hit ?_
    obtain rfl:=sinj h
    exact hQ _ _ ⟨m8,hfr,x6⟩
  ·clear hx
   obtain ⟨zF,hfr,jB⟩:=hR
   refine Zf (Za (Zo jB rfl ?_))
   refine Zg (.int .i64 (j3)) rfl rfl ?_
   refine Zb (Zd (E_ret ?_))
   obtain rfl:=sinj h
   exact end1 rfl rfl (show _=.int .i64 (j3) from rfl) ⟨_,hfr,rfl⟩
def f81 (x0:List Int) (x1:List Int):Option (Int):=
 jn (σ:=Unit) (fun _=>
  jn (σ:=Unit) (fun _=>
   some ((0:Int))
   ) fun n8=>
  bif (decide (((x0).length : Int) < ((x1).length : Int))) then
   some ((-1:Int))
  else
   n8 ()
  ) fun o8=>
 lp (σ:=Int) (fun k33 o0=>
  bif (decide (o0 < ((x0).length : Int))) then
   jn (σ:=Unit) (fun _=>
    k33 ((w64 (o0 + (1:Int))))
    ) fun q8=>
   (idx x0 o0).bind fun z3=>
   jn (σ:=Unit) (fun _=>
    (idx x1 o0).bind fun z4=>
    (f63 z3 z4).bind fun u0=>
    bif (u0 != (0 : Int)) then
     some (u0)
    else
     q8 ()
    ) fun k54=>
   bif (decide (o0 ≥ ((x1).length : Int))) then
    some ((1:Int))
   else
    k54 ()
  else
   o8 ()
  ) big ((0:Int))
theorem en81:Enters Tryz.prog 81:=enters_of Tryz.func81 (by kernel_rfl) rfl
theorem wk81 {gI:Gh} {wI:World} {x0:List Int} {x1:List Int} {up0:Value} (rp0:RV gI.m wI x0 up0) {up1:Value} (rp1:RV gI.m wI x1 up1) {r:Int} (h:f81 x0 x1=some r):Fn Tryz.prog 81 #[up0,up1] gI wI (fun _ _ v=>v=.int .i64 (r)):=by
 unfold f81 at h
 refine fn_of_E Tryz.func81 rfl (Nat.le_of_ble_eq_true rfl) fun g0 hm hfr=>?_
 have rp0:RV g0.m wI x0 up0:=hm ▸ rp0
 have rp1:RV g0.m wI x1 up1:=hm ▸ rp1
 show E _ 36 none _ _ _ _ _
 refine Zf (Za (Zg (.int .i64 (0)) rfl rfl ?_))
 refine Zb (Zd (Zq h (fun (s:Unit) e w=>∃ (g:Gh) ,Fr gI wI g w∧e 0=up0∧RV g.m w (x0:List Int) up0∧e 1=up1∧RV g.m w (x1:List Int) up1) (fun X32 o8 t8 h=>?_) ?_))
 ·refine Zf (Za (Zn up0 rfl rfl ?_))
  refine EL_p (.int .i64 ((x0).length:Int)) (P_len Tryz.underlying26 rfl rp0) rfl ?_
  refine Zn (.int .i64 (0)) rfl rfl ?_
  refine Zb (Zd (Zr ?_))
  refine E_lp h (fun (s:Int) e w=>∃ (g:Gh) ,Fr gI wI g w∧e 0=up0∧RV g.m w (x0:List Int) up0∧e 1=up1∧RV g.m w (x1:List Int) up1∧e 9=up0∧RV g.m w (x0:List Int) up0∧e 10=.int .i64 (((x0).length:Int))∧e 11=.int .i64 (s)) ⟨g0,hfr,rfl,rp0,rfl,rp1,rfl,rp0,rfl,rfl⟩ (fun X33 k33 v8=>?_)
  rintro o0 u9 jA ⟨y6,hfr,i6,j6,d3,i3,v6,j3,i5,j1⟩ h
  refine Zf (Za (EL_in (.bool ((decide (o0 < ((x0).length:Int))))) j1 i5 rfl rfl ?_))
  refine Zb (Zd (Zf ?_))
  rcases Zt h with ⟨l5,h⟩ | ⟨l5,h⟩
  ·refine E_ct l5 rfl ?_
   refine Zu (Zd (Zq h (fun (s:Unit) e w=>∃ (g:Gh) ,Fr gI wI g w∧e 0=up0∧RV g.m w (x0:List Int) up0∧e 1=up1∧RV g.m w (x1:List Int) up1∧e 9=up0∧RV g.m w (x0:List Int) up0∧e 10=.int .i64 (((x0).length:Int))∧e 11=.int .i64 (o0)) (fun X49 q8 x8 h=>?_) ?_))
   ·refine Zr ?_
    refine Zf (Za (Zo j1 rfl ?_))
    obtain ⟨z3,a7,h⟩:=bsome h
    refine EL_p (ePtr up0 o0 1) (Zh (α:=Int) Tryz.underlying26 Tryz.sizeOf3 v6 j3 j1 a7) rfl ?_
    have e9:=PT_idx j3 a7
    refine Ze .plain rfl (D_load (g:=y6) Tryz.isAgg3 Tryz.sizeOf3 rfl e9 fun kA i9=>?_)
    obtain rfl:=Zj.1 i9
    refine Zg (.int .i64 (o0)) rfl rfl ?_
    refine Zg (.int .i64 (z3)) rfl rfl ?_
    refine Zb (Zd (Zq h (fun (s:Unit) e w=>∃ (g:Gh) ,Fr gI wI g w∧e 0=up0∧RV g.m w (x0:List Int) up0∧e 1=up1∧RV g.m w (x1:List Int) up1∧e 5=.int .i64 (o0)∧e 6=.int .i64 (z3)∧e 9=up0∧RV g.m w (x0:List Int) up0∧e 10=.int .i64 (((x0).length:Int))∧e 11=.int .i64 (o0)) (fun X54 k54 y8 h=>?_) ?_))
    ·refine Zf (Za (Zn (.int .i64 (o0)) rfl rfl ?_))
     refine Zo d3 rfl ?_
     refine EL_p (.int .i64 ((x1).length:Int)) (P_len Tryz.underlying26 rfl i3) rfl ?_
     refine EL_in (.bool ((decide (o0 ≥ ((x1).length:Int))))) rfl rfl rfl rfl ?_
     refine Zb (Zd ?_)
     rcases Zt h with ⟨q5,h⟩ | ⟨q5,h⟩
     ·refine E_ct q5 rfl ?_
      refine Zf (Za (Zg (.int .i64 (1)) rfl rfl ?_))
      refine Zb (Zd (E_ret (thn_r ?_)))
      refine blk_r ?_
      refine thn_r ?_
      refine thn_r ?_
      refine blk_r ?_
      refine thn_r ?_
      obtain rfl:=sinj h
      exact end1 rfl rfl (show _=.int .i64 (1) from rfl) ⟨_,hfr,rfl⟩
     ·refine E_cf q5 rfl ?_
      exact Zu (Zd (y8 () _ _ ⟨y6,hfr,i6,j6,d3,i3,rfl,rfl,v6,j3,i5,j1⟩ h))
    ·rintro _ y9 lA ⟨r8, hfr, i7, o3, x6, z2, j7, m7, n7, u3, b7, c7⟩ h
     refine Zf (Za (Zo x6 rfl ?_))
     refine Zo j7 rfl ?_
     obtain ⟨z4,d7,h⟩:=bsome h
     refine EL_p (ePtr up1 o0 1) (Zh (α:=Int) Tryz.underlying26 Tryz.sizeOf3 rfl z2 rfl d7) rfl ?_
     have k9:=PT_idx z2 d7
     refine Ze .plain rfl (D_load (g:=r8) Tryz.isAgg3 Tryz.sizeOf3 rfl k9 fun mA l9=>?_)
     obtain rfl:=Zj.1 l9
     refine Zg (.int .i64 (z4)) rfl rfl ?_
     refine Zb (Zd (Zf (Za (Zo m7 rfl ?_))))
     refine Zn (.int .i64 (z4)) rfl rfl ?_
     obtain ⟨u0,a9,h⟩:=bsome h
     refine Ze .plain rfl (Zp (g:=r8) (vs:=[.int .i64 (z3),.int .i64 (z4)]) en63 (.cons rfl (.cons rfl .nil)) (wk63  a9) fun n9 z9 nA hs hr=>?_)
     have hfr:=hfr.ext hs
     have o3:=o3.ext hs
     have z2:=z2.ext hs
     have u3:=u3.ext hs
     subst hr
     refine Zg (.int .i64 (u0)) rfl rfl ?_
     refine Zb (Zd (Zf (Za (Zn (.int .i64 (u0)) rfl rfl ?_))))
     refine EL_in (.bool ((u0 != (0:Int)))) rfl rfl rfl rfl ?_
     refine Zb (Zd ?_)
     rcases Zt h with ⟨t5,h⟩ | ⟨t5,h⟩
     ·refine E_ct t5 rfl ?_
      refine Zf (Za (Zn (.int .i64 (u0)) rfl rfl ?_))
      refine Zg (.int .i64 (u0)) rfl rfl ?_
      refine Zb (Zd (E_ret (blk_r ?_)))
      refine thn_r ?_
      refine thn_r ?_
      refine blk_r ?_
      refine thn_r ?_
      obtain rfl:=sinj h
      exact end1 rfl rfl (show _=.int .i64 (u0) from rfl) ⟨_,hfr,rfl⟩
     ·refine E_cf t5 rfl ?_
      exact Zu (blk_n (Zd (x8 () _ _ ⟨n9,hfr,i7,o3,x6,z2,n7,u3,b7,c7⟩ h)))
   ·rintro _ bA oA ⟨o9, hfr, o7, u7, v7, c8, e8, g8, e7, g7⟩ h
    refine Za (EL_in (.int .i64 ((w64 (o0 + (1:Int))))) g7 rfl rfl rfl ?_)
    refine Zn (.int .i64 ((w64 (o0 + (1:Int))))) rfl rfl ?_
    exact Zb (Zd (v8 ((w64 (o0 + (1:Int)))) _ _ ⟨o9,hfr,o7,u7,v7,c8,e8,g8,e7,rfl⟩ h))
  ·refine E_cf l5 rfl ?_
   refine E_exit ?_
   refine thn_e ?_
   refine thn_e ?_
   refine blk_hit ?_
   exact Zd (t8 () _ _ ⟨y6,hfr,i6,j6,d3,i3⟩ h)
 ·rintro _ gA pA ⟨t9, hfr, i8, k8, l8, m8⟩ h
  refine Zq h (fun (s:Unit) e w=>∃ (g:Gh) ,Fr gI wI g w) (fun X67 n8 d9 h=>?_) ?_
  ·refine Zf (Za (Zo i8 rfl ?_))
   refine EL_p (.int .i64 ((x0).length:Int)) (P_len Tryz.underlying26 rfl k8) rfl ?_
   refine Zo l8 rfl ?_
   refine EL_p (.int .i64 ((x1).length:Int)) (P_len Tryz.underlying26 rfl m8) rfl ?_
   refine EL_in (.bool ((decide (((x0).length:Int) < ((x1).length:Int))))) rfl rfl rfl rfl ?_
   refine Zb (Zd ?_)
   rcases Zt h with ⟨x5,h⟩ | ⟨x5,h⟩
   ·refine E_ct x5 rfl ?_
    refine Zf (Za (Zg (.int .i64 (-1)) rfl rfl ?_))
    refine Zb (Zd (E_ret (thn_r ?_)))
    obtain rfl:=sinj h
    exact end1 rfl rfl (show _=.int .i64 (-1) from rfl) ⟨_,hfr,rfl⟩
   ·refine E_cf x5 rfl ?_
    exact Zu (Zd (d9 () _ _ ⟨t9,hfr⟩ h))
  ·rintro _ iA qA ⟨rA, hfr⟩ h
   refine Zf (Za (Zg (.int .i64 (0)) rfl rfl ?_))
   refine Zb (Zd (E_ret ?_))
   obtain rfl:=sinj h
   exact end1 rfl rfl (show _=.int .i64 (0) from rfl) ⟨_,hfr,rfl⟩
def f84 : Nat → (List Int) → (Int) → (Int) → (Int) → (Int → Int → Option Int) → Option ((List Int))
 | 0,_,_,_,_,_=>none
 | n + 1,x0,x1,x2,x3,x4=>
  lp (σ:=(List Int) × Int × Int × Int × Bool × Bool) (fun k1 (i3,o0,u0,z2,j1,d3)=>
   jn (σ:=(List Int)) (fun j3=>
    jn (σ:=Unit) (fun _=>
     Option.bind (α:=Int) (
      bif (!j1) then
       none
      else
       some (z2)
      ) fun l5=>
     none
     ) fun o8=>
    bif (z2 == (0 : Int)) then
     none
    else
     o8 ()
    ) fun k6=>
   bif (decide ((w64 (u0 - o0)) ≤ (12 : Int))) then
    (f100 i3 o0 u0 x4).bind fun y9=>
    some (y9)
   else
    k6 (i3)
   ) big (x0,x1,x2,x3,true,true)
theorem en84:Enters Tryz.prog 84:=enters_of Tryz.func84 (by kernel_rfl) rfl
theorem wk84 (n:Nat):∀ {iI:Nat} {gI:Gh} {wI:World} {x0:List Int} {x1:Int} {x2:Int} {x3:Int} {x4:Int→Int→Option Int} {up0:Value} (mp0:OM iI gI wI 3 x0 up0) {up4:Value} (rp4:FnV2 Tryz.prog x4 up4 gI wI) {r:(List Int)} (h:f84 n x0 x1 x2 x3 x4=some r),FnM Tryz.prog 84 #[up0,.int .i64 (x1),.int .i64 (x2),.int .i64 (x3),up4] iI gI wI (fun g w v=>v=.tuple #[]∧OM iI g w 3 r up0):=by
 induction n with
 | zero=>intros; rename_i h; cases h
 | succ n ih=>
 intro iI gI wI x0 x1 x2 x3 x4 up0 mp0 up4 rp4 r h
 simp only [f84] at h
 refine fnM_of_E Tryz.func84 rfl (Nat.le_of_ble_eq_true rfl) fun g0 hm hfr=>?_
 have o7:=mp0
 replace mp0:=mp0.enter
 rw [← hm] at mp0
 replace hm:g0.m=gI.m:=by rw [hm]
 obtain ⟨ff4,fa4,fc4,rfl,fen4,fcl4⟩:=rp4
 show E _ 148 none _ _ _ _ _
 refine Zf (Za (Zg (.bool true) rfl rfl ?_))
 refine Zb (Zd (Zf (Za (Zg (.bool true) rfl rfl ?_))))
 refine Zb (Zd (Zr ?_))
 refine E_lp h (fun (s:(List Int) × Int × Int × Int × Bool × Bool) e w=>∃ (g:Gh) ,FrM iI gI wI g w∧e 0=up0∧OM 1 g w 3 (s.1:List Int) up0∧e 1=.int .i64 (s.2.1)∧e 2=.int .i64 (s.2.2.1)∧e 3=.int .i64 (s.2.2.2.1)∧e 4=(.func (.func ff4) fa4 fc4)∧e 10=.bool (s.2.2.2.2.1)∧e 11=.bool (s.2.2.2.2.2)) ⟨g0,hfr,rfl,mp0,rfl,rfl,rfl,rfl,rfl,rfl⟩ (fun X1 k1 hk1=>?_)
 rintro ⟨i3,o0,u0,z2,j1,d3⟩ t9 w2 ⟨g2,hfr,b7,c7,u3,z3,q8,d7,u7,v7⟩ h
 refine Zr ?_
 refine Zf (Za (Zo z3 rfl ?_))
 refine Zo u3 rfl ?_
 refine EL_in (.int .i64 ((w64 (u0 - o0)))) rfl rfl rfl rfl ?_
 refine Zg (.int .i64 ((w64 (u0 - o0)))) rfl rfl ?_
 refine Zb (Zd (Zq h (fun (s:(List Int)) e w=>∃ (g:Gh) ,FrM iI gI wI g w∧e 0=up0∧OM 1 g w 3 (s:List Int) up0∧e 1=.int .i64 (o0)∧e 2=.int .i64 (u0)∧e 3=.int .i64 (z2)∧e 4=(.func (.func ff4) fa4 fc4)∧e 10=.bool (j1)∧e 11=.bool (d3)∧e 12=.int .i64 ((w64 (u0 - o0)))) (fun X6 k6 hk6 h=>?_) ?_))
 ·refine Zf (Za (Zn (.int .i64 ((w64 (u0 - o0)))) rfl rfl ?_))
  refine EL_in (.bool ((decide ((w64 (u0 - o0)) ≤ (12:Int))))) rfl rfl rfl rfl ?_
  refine Zb (Zd ?_)
  rcases Zt h with ⟨e7,h⟩ | ⟨e7,h⟩
  ·refine E_ct e7 rfl ?_
   refine Zf (Za (Zo b7 rfl ?_))
   refine Zo u3 rfl ?_
   refine Zo z3 rfl ?_
   refine Zo d7 rfl ?_
   obtain ⟨y9,t8,h⟩:=bsome h
   refine Ze .plain rfl (D_callM (g:=g2) (i:=1) (vs:=[up0,.int .i64 (o0),.int .i64 (u0),(.func (.func ff4) fa4 fc4)]) en100 (.cons rfl (.cons rfl (.cons rfl (.cons rfl .nil)))) (wk100 c7 (FnV2.ch ⟨_,_,_,rfl,fen4,fcl4⟩ hfr.ch) t8) fun g8 w8_ v8 hs hr=>?_)
   obtain ⟨hrv,b8⟩:=hr
   have hfr:=hfr.stp hs
   subst hrv
   refine Zb (Zd (E_ret (thn_r ?_)))
   refine blk_r ?_
   refine thn_r ?_
   refine blk_r ?_
   obtain rfl:=sinj h
   exact end0 rfl rfl ⟨_,hfr,rfl,o7.back b8⟩
  ·refine E_cf e7 rfl ?_
   exact Zu (Zd (hk6 (i3) _ _ ⟨g2,hfr,b7,c7,u3,z3,q8,d7,u7,v7,rfl⟩ h))
 ·rintro j3 l9 u9 ⟨x8, hfr, q5, c8, t5, x5, i6, j6, g7, i7, j7⟩ h
  refine Zq h (fun (s:Unit) e w=>∃ (g:Gh) ,FrM iI gI wI g w∧e 0=up0∧OM 1 g w 3 (j3:List Int) up0∧e 1=.int .i64 (o0)∧e 2=.int .i64 (u0)∧e 3=.int .i64 (z2)∧e 4=(.func (.func ff4) fa4 fc4)∧e 10=.bool (j1)∧e 11=.bool (d3)∧e 12=.int .i64 ((w64 (u0 - o0)))) (fun X12 o8 r8 h=>?_) ?_
  ·refine Zf (Za (Zo i6 rfl ?_))
   refine EL_in (.bool ((z2 == (0:Int)))) rfl rfl rfl rfl ?_
   refine Zb (Zd ?_)
   rcases Zt h with ⟨z4,h⟩ | ⟨z4,h⟩
   ·refine E_ct z4 rfl ?_
    refine Zf (Za (Zo q5 rfl ?_))
    refine Zo t5 rfl ?_
    refine Zo x5 rfl ?_
    refine Zo j6 rfl ?_
    cases h
   ·refine E_cf z4 rfl ?_
    exact Zu (Zd (r8 () _ _ ⟨x8,hfr,q5,c8,t5,x5,i6,j6,g7,i7,j7⟩ h))
  ·rintro _ n9 z9 ⟨y8, hfr, v6, e8, x6, y6, i8, a7, o3, m7, n7⟩ h
   obtain ⟨l5,hx,h⟩:=bsome h
   refine E_join (fun e w=>∃ (g:Gh) ,FrM iI gI wI g w∧e 0=up0∧OM 1 g w 3 (j3:List Int) up0∧e 1=.int .i64 (o0)∧e 2=.int .i64 (u0)∧e 3=.int .i64 (l5)∧e 4=(.func (.func ff4) fa4 fc4)∧e 10=.bool (j1)∧e 11=.bool (d3)∧e 12=.int .i64 ((w64 (u0 - o0)))) (fun Q' hQ=>?_) (fun o9 bA hR=>?_)
   ·replace h := hx
    clear hx
    refine Zf (Za (Zo o3 rfl ?_))
    refine EL_p (.bool (!j1)) (P_not rfl) rfl ?_
    refine Zb (Zd ?_)
    rcases Zt h with ⟨i5,h⟩ | ⟨i5,h⟩
    ·refine E_ct i5 rfl ?_
     refine Zf (Za (Zo v6 rfl ?_))
     refine Zo x6 rfl ?_
     refine Zo y6 rfl ?_
     refine Zo a7 rfl ?_
     cases h
    ·refine E_cf i5 rfl ?_
     refine Zu ?_
     obtain rfl:=sinj h
     exact hQ _ _ ⟨y8,hfr,v6,e8,x6,y6,i8,a7,o3,m7,n7⟩
   ·clear hx
    obtain ⟨gA,hfr,k8,i9,l8,m8,k9,n8,a9,d9,e9⟩:=hR
    refine Zf (Za (Zo k8 rfl ?_))
    refine Zo l8 rfl ?_
    refine Zo m8 rfl ?_
    refine Zo n8 rfl ?_
    cases h
def f87 (x0:Int) (x1:Int) (x2:List Int):Option (Bool):=
 (f76 x2 ((fun a0=>f110 a0 x0 x1))).bind fun y4=>
 some ((!y4))
theorem en87:Enters Tryz.prog 87:=enters_of Tryz.func87 (by kernel_rfl) rfl
theorem wk87 {gI:Gh} {wI:World} {x0:Int} {x1:Int} {x2:List Int} {up2:Value} (rp2:RV gI.m wI x2 up2) {r:Bool} (h:f87 x0 x1 x2=some r):Fn Tryz.prog 87 #[.int .i64 (x0),.int .i64 (x1),up2] gI wI (fun _ _ v=>v=.bool (r)):=by
 unfold f87 at h
 refine fn_of_E Tryz.func87 rfl (Nat.le_of_ble_eq_true rfl) fun g0 hm hfr=>?_
 have rp2:RV g0.m wI x2 up2:=hm ▸ rp2
 show E _ 11 none _ _ _ _ _
 refine Zf (Za (Ze .plain rfl (D_box (g:=g0) rfl (Zj.2 rfl) fun g1 w1 p1 hs q1=>?_)))
 have hfr:=hfr.ext hs
 have rp2:=rp2.ext hs
 refine Ze .plain rfl (D_box (g:=g1) rfl (Zj.2 rfl) fun g2 w2 p2 hs q2=>?_)
 have hfr:=hfr.ext hs
 have rp2:=rp2.ext hs
 have q1:=q1.ext hs
 refine Zg (.bool false) rfl rfl ?_
 refine Zb (Zd (Zf (Za (Zn up2 rfl rfl ?_))))
 refine EL_p ((.func (.func 110) #[] #[p1,p2])) (P_makeFunc (capf_0_2 (show ev _ _=p1 from rfl) (show ev _ _=p2 from rfl))) rfl ?_
 obtain ⟨y4,o0,h⟩:=bsome h
 refine Ze .plain rfl (Zp (g:=g2) (vs:=[up2,(.func (.func 110) #[] #[p1,p2])]) en76 (.cons rfl (.cons rfl .nil)) (wk76 rp2 ⟨110,#[],#[p1,p2],rfl,en110,fun g' w' hch a0 b0 r hu0 hr=>by obtain rfl:=Zj.1 hu0; exact Fn.mono (wk110  (q1.ch hch) (q2.ch hch) hr) fun _ _ _ h=>RV_bool.2 h⟩ o0) fun g3 w3_ v3 hs hr=>?_)
 have hfr:=hfr.ext hs
 subst hr
 refine EL_p (.bool (!y4)) (P_not rfl) rfl ?_
 refine Zg (.bool (!y4)) rfl rfl ?_
 refine Zb (Zd (E_ret ?_))
 obtain rfl:=sinj h
 exact end1 rfl rfl (show _=.bool (!y4) from rfl) ⟨_,hfr,rfl⟩
def f88 (x0:Int) (x1:Int) (x2:List Int):Option (Bool):=
 (f76 x2 ((fun a0=>f111 a0 x0 x1))).bind fun y4=>
 some ((!y4))
theorem en88:Enters Tryz.prog 88:=enters_of Tryz.func88 (by kernel_rfl) rfl
theorem wk88 {gI:Gh} {wI:World} {x0:Int} {x1:Int} {x2:List Int} {up2:Value} (rp2:RV gI.m wI x2 up2) {r:Bool} (h:f88 x0 x1 x2=some r):Fn Tryz.prog 88 #[.int .i64 (x0),.int .i64 (x1),up2] gI wI (fun _ _ v=>v=.bool (r)):=by
 unfold f88 at h
 refine fn_of_E Tryz.func88 rfl (Nat.le_of_ble_eq_true rfl) fun g0 hm hfr=>?_
 have rp2:RV g0.m wI x2 up2:=hm ▸ rp2
 show E _ 11 none _ _ _ _ _
 refine Zf (Za (Ze .plain rfl (D_box (g:=g0) rfl (Zj.2 rfl) fun g1 w1 p1 hs q1=>?_)))
 have hfr:=hfr.ext hs
 have rp2:=rp2.ext hs
 refine Ze .plain rfl (D_box (g:=g1) rfl (Zj.2 rfl) fun g2 w2 p2 hs q2=>?_)
 have hfr:=hfr.ext hs
 have rp2:=rp2.ext hs
 have q1:=q1.ext hs
 refine Zg (.bool false) rfl rfl ?_
 refine Zb (Zd (Zf (Za (Zn up2 rfl rfl ?_))))
 refine EL_p ((.func (.func 111) #[] #[p1,p2])) (P_makeFunc (capf_0_2 (show ev _ _=p1 from rfl) (show ev _ _=p2 from rfl))) rfl ?_
 obtain ⟨y4,o0,h⟩:=bsome h
 refine Ze .plain rfl (Zp (g:=g2) (vs:=[up2,(.func (.func 111) #[] #[p1,p2])]) en76 (.cons rfl (.cons rfl .nil)) (wk76 rp2 ⟨111,#[],#[p1,p2],rfl,en111,fun g' w' hch a0 b0 r hu0 hr=>by obtain rfl:=Zj.1 hu0; exact Fn.mono (wk111  (q1.ch hch) (q2.ch hch) hr) fun _ _ _ h=>RV_bool.2 h⟩ o0) fun g3 w3_ v3 hs hr=>?_)
 have hfr:=hfr.ext hs
 subst hr
 refine EL_p (.bool (!y4)) (P_not rfl) rfl ?_
 refine Zg (.bool (!y4)) rfl rfl ?_
 refine Zb (Zd (E_ret ?_))
 obtain rfl:=sinj h
 exact end1 rfl rfl (show _=.bool (!y4) from rfl) ⟨_,hfr,rfl⟩
def f96 (x0:TieTieHarness) (x1:Int):Option (Str):=
 Option.bind (α:=List UInt8) (
  lp (σ:=List UInt8 × Int) (fun e7 (i3,o0)=>
   bif (decide (o0 < ((((x0).TieHarness).Warps).length : Int))) then
    Option.bind (α:=List UInt8) (
     (f116 x0 x1 o0).bind fun q5=>
     (f115 q5).bind fun t5=>
     (apnd 1 i3 [t5]).bind fun y43=>
     some (y43)
     ) fun z2=>
    e7 (z2,(w64 (o0 + (1:Int))))
   else
    some (i3)
   ) big (([]:List UInt8),(0:Int))
  ) fun j3=>
 (sbstr j3).bind fun z4=>
 some (z4)
theorem en96:Enters Tryz.prog 96:=enters_of Tryz.func96 (by kernel_rfl) rfl
theorem wk96 {gI:Gh} {wI:World} {x0:TieTieHarness} {x1:Int} {up0:Value} (rp0:RV gI.m wI x0 up0) {r:Str} (h:f96 x0 x1=some r):Fn Tryz.prog 96 #[up0,.int .i64 (x1)] gI wI (fun _ _ v=>v=Str.v (r)):=by
 unfold f96 at h
 refine fn_of_E Tryz.func96 rfl (Nat.le_of_ble_eq_true rfl) fun g0 hm hfr=>?_
 have rp0:RV g0.m wI x0 up0:=hm ▸ rp0
 show E _ 22 none _ _ _ _ _
 refine Zf (Za (Ze .plain rfl (D_box (g:=g0) rfl rp0 fun g1 w1 p1 hs q1=>?_)))
 have hfr:=hfr.ext hs
 refine Zg (Str.v (⟨[]⟩:Str)) rfl rfl ?_
 refine Zb (Zd (Zf (Za (Ze .plain rfl (D_allocOc (g:=g1) 2005 ((⟨.pointer none,rfl⟩,[]):Fv × List UInt8) Tryz.zeroValue181 (fun m w=>⟨_,rep_two (show GoT.rep m w (⟨.pointer none,rfl⟩:Fv) [.pointer none] from rfl) rep_nil,rfl⟩) fun g2 w2 p2 hs b2 cb=>?_)))))
 have hfr:=hfr.stp hs
 have q1:=q1.stp hs
 replace b2:SB 2005 60501 g2 w2 5 181 [] p2:=⟨_,b2,cb.osf rfl,.inl rfl⟩
 clear cb
 refine Zb (Zd ?_)
 obtain ⟨j3,hx,h⟩:=bsome h
 refine E_join (fun e w=>∃ (g:Gh) ,Fr gI wI g w∧e 5=p2∧SB 2005 60501 g w 5 181 (j3) p2) (fun Q' hQ=>?_) (fun l8 r8 hR=>?_)
 ·replace h := hx
  clear hx
  refine Zf (Za (EL_p (fPtr p1 0) (Zc at_160_0 rfl (PT.ptr q1)) rfl ?_))
  have g7:=Zm (part_TieTieHarness_0).1 q1
  refine EL_p (fPtr (fPtr p1 0) 1) (Zc at_33_1 rfl (PT.ptr g7)) rfl ?_
  have u7:=Zm (part_TieHarness_1).1 g7
  refine Ze .plain rfl (D_load (g:=g2) Tryz.isAgg26 Tryz.sizeOf26 rfl u7 fun t8 v7=>?_)
  refine EL_p (.int .i64 ((((x0).TieHarness).Warps).length:Int)) (P_len Tryz.underlying26 rfl v7) rfl ?_
  refine Zn (.int .i64 (0)) rfl rfl ?_
  refine Zb (Zd (Zr ?_))
  refine E_lp h (fun (s:List UInt8 × Int) e w=>∃ (g:Gh) ,Fr gI wI g w∧e 1=.int .i64 (x1)∧e 2=p1∧PT g.m w (x0:TieTieHarness) p1∧e 5=p2∧SB 2005 60501 g w 5 181 (s.1) p2∧e 10=.int .i64 (((((x0).TieHarness).Warps).length:Int))∧e 11=.int .i64 (s.2)) ⟨g2,hfr,rfl,rfl,q1,rfl,b2,rfl,rfl⟩ (fun X27 e7 i7=>?_)
  rintro ⟨i3,o0⟩ m8 v8 ⟨x5,hfr,i5,l5,u0,o3,j1,u3,d3⟩ h
  refine Zf (Za (EL_p (.bool ((decide (o0 < ((((x0).TieHarness).Warps).length:Int))))) (P_int d3 u3 rfl) rfl ?_))
  refine Zb (Zd (Zf ?_))
  rcases Zt h with ⟨z3,h⟩ | ⟨z3,h⟩
  ·refine E_ct z3 rfl ?_
   refine Zu (Zd ?_)
   obtain ⟨z2,hx,h⟩:=bsome h
   refine E_join (fun e w=>∃ (g:Gh) ,Fr gI wI g w∧e 1=.int .i64 (x1)∧e 2=p1∧PT g.m w (x0:TieTieHarness) p1∧e 5=p2∧SB 2005 60501 g w 5 181 (z2) p2∧e 10=.int .i64 (((((x0).TieHarness).Warps).length:Int))∧e 11=.int .i64 (o0)) (fun Q' hQ=>?_) (fun n8 x8 hR=>?_)
   ·replace h := hx
    clear hx
    refine Zr ?_
    refine Zf (Za (Zo d3 rfl ?_))
    refine Zg (.int .i64 (o0)) rfl rfl ?_
    refine Zb (Zd (Za (Ze .plain rfl (D_load (g:=x5) Tryz.isAgg160 Tryz.sizeOf160 l5 u0 fun c8 e8=>?_))))
    refine Zo i5 rfl ?_
    refine Zn (.int .i64 (o0)) rfl rfl ?_
    obtain ⟨q5,j7,h⟩:=bsome h
    refine Ze .plain rfl (Zp (g:=x5) (vs:=[c8,.int .i64 (x1),.int .i64 (o0)]) en116 (.cons rfl (.cons rfl (.cons rfl .nil))) (wk116 e8 j7) fun g8 o8 y8 hs hr=>?_)
    have hfr:=hfr.ext hs
    have u0:=u0.ext hs
    have j1:=j1.ext hs
    subst hr
    obtain ⟨t5,m7,h⟩:=bsome h
    refine Ze .plain rfl (Zp (g:=g8) (vs:=[.bool (q5)]) en115 (.cons rfl .nil) (wk115  m7) fun a9 q8 d9 hs hr=>?_)
    have hfr:=hfr.ext hs
    have u0:=u0.ext hs
    have j1:=j1.ext hs
    subst hr
    obtain ⟨y43,n7,h⟩:=bsome h
    refine Ze .plain rfl (D_callC (vs:=[p2,.int .u8 (UInt8.toNat (t5))]) en114 (.cons o3 (.cons rfl .nil)) (wk114 (i:=2005) (j:=60501) rfl rfl j1 n7) fun e9 i9 hq=>?_)
    obtain ⟨hv,i8,⟨_,_,_,_,hs1,hs2,hs3⟩,b42⟩:=hq
    subst hv
    have hfr:=hfr.stp hs1
    have u0:=u0.stp hs1
    have hfr:=hfr.stp hs2
    have u0:=u0.stp hs2
    have hfr:=hfr.stp hs3
    have u0:=u0.stp hs3
    clear hs1 hs2 hs3
    refine Zb (blk_n ?_)
    obtain rfl:=sinj h
    exact hQ _ _ ⟨i8,hfr,i5,l5,u0,o3,b42,u3,d3⟩
   ·clear hx
    obtain ⟨k8,hfr,v6,x6,y6,a7,b7,i6,j6⟩:=hR
    refine Za (EL_in (.int .i64 ((w64 (o0 + (1:Int))))) j6 rfl rfl rfl ?_)
    refine Zn (.int .i64 ((w64 (o0 + (1:Int))))) rfl rfl ?_
    exact Zb (Zd (i7 (z2,(w64 (o0 + (1:Int)))) _ _ ⟨k8,hfr,v6,x6,y6,a7,b7,i6,rfl⟩ h))
  ·refine E_cf z3 rfl ?_
   refine E_exit ?_
   refine thn_e ?_
   refine thn_e ?_
   refine blk_hit ?_
   obtain rfl:=sinj h
   exact hQ _ _ ⟨x5,hfr,o3,j1⟩
 ·clear hx
  obtain ⟨k9,hfr,c7,d7⟩:=hR
  refine Zf (Za ?_)
  obtain ⟨z4,o7,h⟩:=bsome h
  obtain ⟨hne46,hye46⟩:=sbstr_h o7
  refine Ze .plain rfl (D_callC (vs:=[p2]) en117 (.cons c7 .nil) (wk117 (i:=2005) (j:=60501) rfl d7 hne46) fun l9 n9 hq=>?_)
  obtain ⟨hv,o9,hs⟩:=hq
  rw [← hye46] at hv
  subst hv
  have hfr:=hfr.stp hs
  refine Zg (Str.v z4) rfl rfl ?_
  refine Zb (Zd (E_ret ?_))
  obtain rfl:=sinj h
  exact end1 rfl rfl (show _=Str.v z4 from rfl) ⟨_,hfr,rfl⟩
def f123 (x0:List FaultDamage) (x1:Int) (x2:Int) (x3:Int) (x4:FaultDamage→FaultDamage→Option Int):Option ((List FaultDamage)):=
 Option.bind (α:=(List FaultDamage) × Int) (
  lp (σ:=(List FaultDamage) × Int × Int) (fun a7 (j3,o0,u0)=>
   jn (σ:=Unit) (fun _=>
    bif (decide (o0 > u0)) then
     (f126 j3 ((w64 (x2 - o0))) x2 u0 x4).bind fun b7=>
     a7 (b7,(w64 (o0 - u0)),u0)
    else
     (f126 j3 ((w64 (x2 - o0))) ((w64 ((w64 (x2 + u0)) - o0))) o0 x4).bind fun c7=>
     a7 (c7,o0,(w64 (u0 - o0)))
    ) fun m7=>
   bif (o0 != u0) then
    m7 ()
   else
    some (j3,o0)
   ) big (x0,(w64 (x2 - x1)),(w64 (x3 - x2)))
  ) fun (z4,z2)=>
 (f126 z4 ((w64 (x2 - z2))) x2 z2 x4).bind fun n7=>
 some (n7)
theorem en123:Enters Tryz.prog 123:=enters_of Tryz.func123 (by kernel_rfl) rfl
theorem wk123 {iI:Nat} {gI:Gh} {wI:World} {x0:List FaultDamage} {x1:Int} {x2:Int} {x3:Int} {x4:FaultDamage→FaultDamage→Option Int} {up0:Value} (mp0:OM iI gI wI 45 x0 up0) {up4:Value} (rp4:FnV2 Tryz.prog x4 up4 gI wI) {r:(List FaultDamage)} (h:f123 x0 x1 x2 x3 x4=some r):FnM Tryz.prog 123 #[up0,.int .i64 (x1),.int .i64 (x2),.int .i64 (x3),up4] iI gI wI (fun g w v=>v=.tuple #[]∧OM iI g w 45 r up0):=by
 unfold f123 at h
 refine fnM_of_E Tryz.func123 rfl (Nat.le_of_ble_eq_true rfl) fun g0 hm hfr=>?_
 have e7:=mp0
 replace mp0:=mp0.enter
 rw [← hm] at mp0
 replace hm:g0.m=gI.m:=by rw [hm]
 obtain ⟨ff4,fa4,fc4,rfl,fen4,fcl4⟩:=rp4
 show E _ 58 none _ _ _ _ _
 refine Zf (Za (Zn (.int .i64 (x2)) rfl rfl ?_))
 refine Zn (.int .i64 (x1)) rfl rfl ?_
 refine EL_in (.int .i64 ((w64 (x2 - x1)))) rfl rfl rfl rfl ?_
 refine Zg (.int .i64 ((w64 (x2 - x1)))) rfl rfl ?_
 refine Zb (Zd (Zf (Za (Zn (.int .i64 (x3)) rfl rfl ?_))))
 refine Zn (.int .i64 (x2)) rfl rfl ?_
 refine EL_in (.int .i64 ((w64 (x3 - x2)))) rfl rfl rfl rfl ?_
 refine Zg (.int .i64 ((w64 (x3 - x2)))) rfl rfl ?_
 refine Zb (Zd ?_)
 obtain ⟨⟨z4,z2⟩,hx,h⟩:=bsome h
 refine E_join (fun e w=>∃ (g:Gh) ,FrM iI gI wI g w∧e 0=up0∧OM 1 g w 45 (z4:List FaultDamage) up0∧e 2=.int .i64 (x2)∧e 4=(.func (.func ff4) fa4 fc4)∧e 10=.int .i64 (z2)) (fun Q' hQ=>?_) (fun m8 v8 hR=>?_)
 ·replace h := hx
  clear hx
  refine Zr ?_
  refine E_lp h (fun (s:(List FaultDamage) × Int × Int) e w=>∃ (g:Gh) ,FrM iI gI wI g w∧e 0=up0∧OM 1 g w 45 (s.1:List FaultDamage) up0∧e 2=.int .i64 (x2)∧e 4=(.func (.func ff4) fa4 fc4)∧e 10=.int .i64 (s.2.1)∧e 11=.int .i64 (s.2.2)) ⟨g0,hfr,rfl,mp0,rfl,rfl,rfl,rfl⟩ (fun X12 a7 d7=>?_)
  rintro ⟨j3,o0,u0⟩ n8 x8 ⟨o7,hfr,x5,i6,j6,v6,z3,i5⟩ h
  refine Zq h (fun (s:Unit) e w=>∃ (g:Gh) ,FrM iI gI wI g w∧e 0=up0∧OM 1 g w 45 (j3:List FaultDamage) up0∧e 2=.int .i64 (x2)∧e 4=(.func (.func ff4) fa4 fc4)∧e 10=.int .i64 (o0)∧e 11=.int .i64 (u0)) (fun X15 m7 v7 h=>?_) ?_
  ·refine Zf (Za (Zo z3 rfl ?_))
   refine Zo i5 rfl ?_
   refine EL_in (.bool ((o0 != u0))) rfl rfl rfl rfl ?_
   refine Zb (Zd ?_)
   rcases Zt h with ⟨q5,h⟩ | ⟨q5,h⟩
   ·refine E_ct q5 rfl ?_
    exact Zu (Zd (v7 () _ _ ⟨o7,hfr,x5,i6,j6,v6,z3,i5⟩ h))
   ·refine E_cf q5 rfl ?_
    refine E_exit ?_
    refine thn_e ?_
    refine thn_e ?_
    refine blk_hit ?_
    obtain ⟨rfl,rfl⟩:=pairs2 h
    exact hQ _ _ ⟨o7,hfr,x5,i6,j6,v6,z3⟩
  ·rintro _ o8 y8 ⟨u7, hfr, o3, x6, i3, u3, j1, d3⟩ h
   refine Zr ?_
   refine Zf (Za (Zo j1 rfl ?_))
   refine Zo d3 rfl ?_
   refine EL_in (.bool ((decide (o0 > u0)))) rfl rfl rfl rfl ?_
   refine Zb (Zd ?_)
   rcases Zt h with ⟨t5,h⟩ | ⟨t5,h⟩
   ·refine E_ct t5 rfl ?_
    refine Zf (Za (Zo o3 rfl ?_))
    refine Zo i3 rfl ?_
    refine Zo j1 rfl ?_
    refine EL_in (.int .i64 ((w64 (x2 - o0)))) rfl rfl rfl rfl ?_
    refine Zo i3 rfl ?_
    refine Zo d3 rfl ?_
    refine Zo u3 rfl ?_
    obtain ⟨b7,c8,h⟩:=bsome h
    refine Ze .plain rfl (D_callM (g:=u7) (i:=1) (vs:=[up0,.int .i64 ((w64 (x2 - o0))),.int .i64 (x2),.int .i64 (u0),(.func (.func ff4) fa4 fc4)]) en126 (.cons rfl (.cons rfl (.cons rfl (.cons rfl (.cons rfl .nil))))) (wk126 x6 (FnV2.ch ⟨_,_,_,rfl,fen4,fcl4⟩ hfr.ch) c8) fun i8 q8 a9 hs hr=>?_)
    obtain ⟨hrv,b19⟩:=hr
    have hfr:=hfr.stp hs
    subst hrv
    refine Zb (Zd (Za (Zo j1 rfl ?_)))
    refine Zo d3 rfl ?_
    refine EL_in (.int .i64 ((w64 (o0 - u0)))) rfl rfl rfl rfl ?_
    refine Zg (.int .i64 ((w64 (o0 - u0)))) rfl rfl ?_
    exact Zb (blk_n (Zd (d7 (b7,(w64 (o0 - u0)),u0) _ _ ⟨i8,hfr,o3,b19,i3,u3,rfl,d3⟩ h)))
   ·refine E_cf t5 rfl ?_
    refine Zf (Za (Zo o3 rfl ?_))
    refine Zo i3 rfl ?_
    refine Zo j1 rfl ?_
    refine EL_in (.int .i64 ((w64 (x2 - o0)))) rfl rfl rfl rfl ?_
    refine Zo i3 rfl ?_
    refine Zo d3 rfl ?_
    refine EL_in (.int .i64 ((w64 (x2 + u0)))) rfl rfl rfl rfl ?_
    refine Zo j1 rfl ?_
    refine EL_in (.int .i64 ((w64 ((w64 (x2 + u0)) - o0)))) rfl rfl rfl rfl ?_
    refine Zo j1 rfl ?_
    refine Zo u3 rfl ?_
    obtain ⟨c7,e8,h⟩:=bsome h
    refine Ze .plain rfl (D_callM (g:=u7) (i:=1) (vs:=[up0,.int .i64 ((w64 (x2 - o0))),.int .i64 ((w64 ((w64 (x2 + u0)) - o0))),.int .i64 (o0),(.func (.func ff4) fa4 fc4)]) en126 (.cons rfl (.cons rfl (.cons rfl (.cons rfl (.cons rfl .nil))))) (wk126 x6 (FnV2.ch ⟨_,_,_,rfl,fen4,fcl4⟩ hfr.ch) e8) fun k8 r8 d9 hs hr=>?_)
    obtain ⟨hrv,b21⟩:=hr
    have hfr:=hfr.stp hs
    subst hrv
    refine Zb (Zd (Za (Zo d3 rfl ?_)))
    refine Zo j1 rfl ?_
    refine EL_in (.int .i64 ((w64 (u0 - o0)))) rfl rfl rfl rfl ?_
    refine Zg (.int .i64 ((w64 (u0 - o0)))) rfl rfl ?_
    exact Zb (blk_n (Zd (d7 (c7,o0,(w64 (u0 - o0))) _ _ ⟨k8,hfr,o3,b21,i3,u3,j1,rfl⟩ h)))
 ·clear hx
  obtain ⟨l8,hfr,g7,i7,y6,j7,l5⟩:=hR
  refine Za (Zo g7 rfl ?_)
  refine Zo y6 rfl ?_
  refine Zo l5 rfl ?_
  refine EL_in (.int .i64 ((w64 (x2 - z2)))) rfl rfl rfl rfl ?_
  refine Zo y6 rfl ?_
  refine Zo l5 rfl ?_
  refine Zo j7 rfl ?_
  obtain ⟨n7,g8,h⟩:=bsome h
  refine Ze .plain rfl (D_callM (g:=l8) (i:=1) (vs:=[up0,.int .i64 ((w64 (x2 - z2))),.int .i64 (x2),.int .i64 (z2),(.func (.func ff4) fa4 fc4)]) en126 (.cons rfl (.cons rfl (.cons rfl (.cons rfl (.cons rfl .nil))))) (wk126 i7 (FnV2.ch ⟨_,_,_,rfl,fen4,fcl4⟩ hfr.ch) g8) fun e9 t8 i9 hs hr=>?_)
  obtain ⟨hrv,b24⟩:=hr
  have hfr:=hfr.stp hs
  subst hrv
  refine Zb ?_
  obtain rfl:=sinj h
  exact end0n rfl rfl ⟨_,hfr,rfl,e7.back b24⟩
def f51 (x0:Int) (x1:Int) (x2:List Int):Option (Bool):=
 (f76 x2 ((fun a0=>f77 a0 x0 x1))).bind fun y4=>
 some ((!y4))
theorem en51:Enters Tryz.prog 51:=enters_of Tryz.func51 (by kernel_rfl) rfl
theorem wk51 {gI:Gh} {wI:World} {x0:Int} {x1:Int} {x2:List Int} {up2:Value} (rp2:RV gI.m wI x2 up2) {r:Bool} (h:f51 x0 x1 x2=some r):Fn Tryz.prog 51 #[.int .i64 (x0),.int .i64 (x1),up2] gI wI (fun _ _ v=>v=.bool (r)):=by
 unfold f51 at h
 refine fn_of_E Tryz.func51 rfl (Nat.le_of_ble_eq_true rfl) fun g0 hm hfr=>?_
 have rp2:RV g0.m wI x2 up2:=hm ▸ rp2
 show E _ 11 none _ _ _ _ _
 refine Zf (Za (Ze .plain rfl (D_box (g:=g0) rfl (Zj.2 rfl) fun g1 w1 p1 hs q1=>?_)))
 have hfr:=hfr.ext hs
 have rp2:=rp2.ext hs
 refine Ze .plain rfl (D_box (g:=g1) rfl (Zj.2 rfl) fun g2 w2 p2 hs q2=>?_)
 have hfr:=hfr.ext hs
 have rp2:=rp2.ext hs
 have q1:=q1.ext hs
 refine Zg (.bool false) rfl rfl ?_
 refine Zb (Zd (Zf (Za (Zn up2 rfl rfl ?_))))
 refine EL_p ((.func (.func 77) #[] #[p1,p2])) (P_makeFunc (capf_0_2 (show ev _ _=p1 from rfl) (show ev _ _=p2 from rfl))) rfl ?_
 obtain ⟨y4,o0,h⟩:=bsome h
 refine Ze .plain rfl (Zp (g:=g2) (vs:=[up2,(.func (.func 77) #[] #[p1,p2])]) en76 (.cons rfl (.cons rfl .nil)) (wk76 rp2 ⟨77,#[],#[p1,p2],rfl,en77,fun g' w' hch a0 b0 r hu0 hr=>by obtain rfl:=Zj.1 hu0; exact Fn.mono (wk77  (q1.ch hch) (q2.ch hch) hr) fun _ _ _ h=>RV_bool.2 h⟩ o0) fun g3 w3_ v3 hs hr=>?_)
 have hfr:=hfr.ext hs
 subst hr
 refine EL_p (.bool (!y4)) (P_not rfl) rfl ?_
 refine Zg (.bool (!y4)) rfl rfl ?_
 refine Zb (Zd (E_ret ?_))
 obtain rfl:=sinj h
 exact end1 rfl rfl (show _=.bool (!y4) from rfl) ⟨_,hfr,rfl⟩
def f53 (x0:LoomLoomMill) (x1:Int) (x2:List (Int × LoomRun)):Option ((List Bool)):=
 (shl64 (1:Int) (((x0).orders).length:Int)).bind fun y6=>
 (mks 1 (false:Bool) y6).bind fun y7=>
 (idx y7 (0:Int)).bind fun y9=>
 Option.bind (α:=(List Bool)) (
  lp (σ:=(List Bool) × (Vector (Vector Int 7) 128) × Int) (fun jA (x5,i7,u0)=>
   jn (σ:=Unit) (fun _=>
    Option.bind (α:=(List Bool) × (Vector (Vector Int 7) 128)) (
     lp (σ:=(List Bool) × (Vector (Vector Int 7) 128) × Int) (fun kA (o3,d3,o0)=>
      bif (decide (o0 < (((x0).orders).length : Int))) then
       Option.bind (α:=(List Bool) × (Vector (Vector Int 7) 128)) (
        (idx (d3).toList u0).bind fun lA=>
        (idx (lA).toList o0).bind fun xD=>
        jn (σ:=Unit) (fun _=>
         (f79 x0 ((vmod d3 u0 (fun b=>(vset b o0 ((1048576:Int)))))) u0 o0 x1 x2).bind fun u3=>
         bif (decide (u3 < (1048576 : Int))) then
          (idx ((x0).orders) o0).bind fun o8=>
          (idx ((vmod d3 u0 (fun b=>(vset b o0 ((1048576:Int)))))).toList u0).bind fun mA=>
          (idx (mA).toList o0).bind fun yD=>
          (idx o3 u0).bind fun zD=>
          some ((List.set o3 (Int.toNat u0) true),(vmod ((vmod d3 u0 (fun b=>(vset b o0 ((1048576:Int)))))) u0 (fun b=>(vset b o0 ((w64 (u3 + (o8).Woven)))))))
         else
          some (o3,(vmod d3 u0 (fun b=>(vset b o0 ((1048576:Int))))))
         ) fun nA=>
        (shr64 u0 o0).bind fun j7=>
        bif ((bit64 .and j7 (1 : Int)) == (0 : Int)) then
         some (o3,(vmod d3 u0 (fun b=>(vset b o0 ((1048576:Int))))))
        else
         nA ()
        ) fun (i6,j6)=>
       kA (i6,j6,(w64 (o0 + (1:Int))))
      else
       some (o3,d3)
      ) big (x5,i7,(0:Int))
     ) fun (v6,x6)=>
    jA (v6,x6,(w64 (u0 + (1:Int))))
    ) fun oA=>
   bif (decide (u0 < y6)) then
    oA ()
   else
    some (x5)
   ) big ((List.set y7 (Int.toNat (0:Int)) true),((Vector.replicate 128 (⟨List.toArray [0,0,0,0,0,0,0],rfl⟩:Vector Int 7)):Vector (Vector Int 7) 128),(1:Int))
  ) fun m7=>
 some (m7)
theorem en53:Enters Tryz.prog 53:=enters_of Tryz.func53 (by kernel_rfl) rfl
theorem wk53 {gI:Gh} {wI:World} {x0:LoomLoomMill} {x1:Int} {x2:List (Int × LoomRun)} {up0:Value} (rp0:RV gI.m wI x0 up0) {up2:Value} (mq2:MR (Value.int .i64) gI wI x2 up2) {r:(List Bool)} (h:f53 x0 x1 x2=some r):Fn Tryz.prog 53 #[up0,.int .i64 (x1),up2] gI wI (fun m w v=>RV m w (r) v):=by
 unfold f53 at h
 refine fn_of_E Tryz.func53 rfl (Nat.le_of_ble_eq_true rfl) fun g0 hm hfr=>?_
 have rp0:RV g0.m wI x0 up0:=hm ▸ rp0
 have mq2:=MQ.enter mq2 hm hfr
 show E _ 65 none _ _ _ _ _
 refine Zf (Za (Ze .plain rfl (D_box (g:=g0) rfl rp0 fun g1 w1 p1 hs q1=>?_)))
 have hfr:=hfr.ext hs
 have mq2:=mq2.ext hs
 refine Zg (.slice none 0 0) rfl rfl ?_
 have b2:OA 4006 g1 w1 4 ([]:List Bool) (.slice none 0 0):=OA.nil
 refine Zb (Zd (Zf (Za (Ze .plain rfl (D_allocOc (g:=g1) 2007 ((Vector.replicate 128 (⟨List.toArray [0,0,0,0,0,0,0],rfl⟩:Vector Int 7)):Vector (Vector Int 7) 128) Tryz.zeroValue150 (fun m w=>⟨_,(rep_replicate (rep_vec (flat_chunk rep_int (flat_chunk rep_int (flat_chunk rep_int (flat_chunk rep_int (flat_chunk rep_int (flat_chunk rep_int (flat_chunk rep_int flat_nil))))))) rfl)),by kernel_rfl⟩) fun g3 w3 p3 hs b3 cb=>?_)))))
 have hfr:=hfr.stp hs
 have mq2:=mq2.stp hs
 have q1:=q1.stp hs
 clear cb
 refine Zb (Zd (Zf (Za (EL_p (fPtr p1 2) (Zc at_81_1 rfl (PT.ptr q1)) rfl ?_))))
 have q4:=Zm (part_LoomLoomMill_1).1 q1
 refine Ze .plain rfl (D_load (g:=g3) Tryz.isAgg29 Tryz.sizeOf29 rfl q4 fun v5 r5=>?_)
 refine EL_p (.int .i64 (((x0).orders).length:Int)) (P_len Tryz.underlying29 rfl r5) rfl ?_
 obtain ⟨y6,oE,h⟩:=bsome h
 refine EL_p (.int .i64 (y6)) (P_int rfl rfl (congrArg (Option.map (Value.int .i64)) oE)) rfl ?_
 refine Zg (.int .i64 (y6)) rfl rfl ?_
 refine Zb (Zd (Zf (Za (Zn (.int .i64 (y6)) rfl rfl ?_))))
 obtain ⟨y7,rE,h⟩:=bsome h
 refine Ze .plain rfl (D_makeSliceM (g:=g3) 9017 (false:Bool) rfl Tryz.underlying86 info_4 rfl (fun _ _=>rfl) rfl rfl rE fun g8 w8 v8 hs b8=>?_)
 have hfr:=hfr.stp hs
 have mq2:=mq2.stp hs
 have q1:=q1.stp hs
 have b3:=b3.stp hs rfl
 refine Zg v8 rfl rfl ?_
 refine Zb (Zd (Zf (Za (Zn v8 rfl rfl ?_))))
 obtain ⟨y9,vD,h⟩:=bsome h
 refine EL_p (ePtr v8 (0:Int) 1) (P_indexAddrM (α:=Bool) Tryz.underlying86 Tryz.sizeOf4 rfl b8 rfl vD) rfl ?_
 refine Ze .plain rfl (D_storeM (g:=g8) (α:=Bool) (a':=true) Tryz.sizeOf4 rfl b8 vD rfl (RV_bool.2 rfl) fun sE bG hs b10=>?_)
 have hfr:=hfr.stp hs
 have mq2:=mq2.stp hs
 have q1:=q1.stp hs
 have b3:=b3.stp hs rfl
 refine Zb (Zd ?_)
 obtain ⟨m7,hx,h⟩:=bsome h
 refine E_join (fun e w=>∃ (g:Gh) ,Fr gI wI g w∧e 6=v8∧OM 9017 g w 4 (m7:List Bool) v8) (fun Q' hQ=>?_) (fun tE eF hR=>?_)
 ·replace h := hx
  clear hx
  refine Zf (Za (Zg (.int .i64 (1)) rfl rfl ?_))
  refine Zb (Zd (Zr ?_))
  refine E_lp h (fun (s:(List Bool) × (Vector (Vector Int 7) 128) × Int) e w=>∃ (g:Gh) ,Fr gI wI g w∧e 1=.int .i64 (x1)∧e 2=up2∧MQ (Value.int .i64) wI.heap.size g w (x2:List (Int × LoomRun)) up2∧e 3=p1∧PT g.m w (x0:LoomLoomMill) p1∧e 6=v8∧OM 9017 g w 4 (s.1:List Bool) v8∧e 7=p3∧OB 2007 g w 150 (s.2.1:Vector (Vector Int 7) 128) p3∧e 8=.int .i64 (y6)∧e 9=.int .i64 (s.2.2)) ⟨sE,hfr,rfl,rfl,mq2,rfl,q1,rfl,b10,rfl,b3,rfl,rfl⟩ (fun X271 jA kD=>?_)
  rintro ⟨x5,i7,u0⟩ uE iF ⟨pA,hfr,qA,rA,sA,uA,xA,y8,a9,yA,zA,d9,e9⟩ h
  refine Zq h (fun (s:Unit) e w=>∃ (g:Gh) ,Fr gI wI g w∧e 1=.int .i64 (x1)∧e 2=up2∧MQ (Value.int .i64) wI.heap.size g w (x2:List (Int × LoomRun)) up2∧e 3=p1∧PT g.m w (x0:LoomLoomMill) p1∧e 6=v8∧OM 9017 g w 4 (x5:List Bool) v8∧e 7=p3∧OB 2007 g w 150 (i7:Vector (Vector Int 7) 128) p3∧e 8=.int .i64 (y6)∧e 9=.int .i64 (u0)) (fun X274 oA lD h=>?_) ?_
  ·refine Zf (Za (Zo e9 rfl ?_))
   refine Zo d9 rfl ?_
   refine EL_in (.bool ((decide (u0 < y6)))) rfl rfl rfl rfl ?_
   refine Zb (Zd ?_)
   rcases Zt h with ⟨q8,h⟩ | ⟨q8,h⟩
   ·refine E_ct q8 rfl ?_
    exact Zu (Zd (lD () _ _ ⟨pA,hfr,qA,rA,sA,uA,xA,y8,a9,yA,zA,d9,e9⟩ h))
   ·refine E_cf q8 rfl ?_
    refine E_exit ?_
    refine thn_e ?_
    refine thn_e ?_
    refine blk_hit ?_
    obtain rfl:=sinj h
    exact hQ _ _ ⟨pA,hfr,y8,a9⟩
  ·rintro _ vE nF ⟨aB, hfr, bB, cB, dB, i9, n7, eB, iB, jB, kB, lB, mB⟩ h
   obtain ⟨⟨v6,x6⟩,hx,h⟩:=bsome h
   refine E_join (fun e w=>∃ (g:Gh) ,Fr gI wI g w∧e 1=.int .i64 (x1)∧e 2=up2∧MQ (Value.int .i64) wI.heap.size g w (x2:List (Int × LoomRun)) up2∧e 3=p1∧PT g.m w (x0:LoomLoomMill) p1∧e 6=v8∧OM 9017 g w 4 (v6:List Bool) v8∧e 7=p3∧OB 2007 g w 150 (x6:Vector (Vector Int 7) 128) p3∧e 8=.int .i64 (y6)∧e 9=.int .i64 (u0)) (fun Q' hQ=>?_) (fun xE oF hR=>?_)
   ·replace h := hx
    clear hx
    refine Zr ?_
    refine Zf (Za (EL_p (fPtr p1 2) (Zc at_81_1 i9 (PT.ptr n7)) rfl ?_))
    have aE:=Zm (part_LoomLoomMill_1).1 n7
    refine Ze .plain rfl (D_load (g:=aB) Tryz.isAgg29 Tryz.sizeOf29 rfl aE fun pF bE=>?_)
    refine EL_p (.int .i64 (((x0).orders).length:Int)) (P_len Tryz.underlying29 rfl bE) rfl ?_
    refine Zn (.int .i64 (0)) rfl rfl ?_
    refine Zb (Zd (Zr ?_))
    refine E_lp h (fun (s:(List Bool) × (Vector (Vector Int 7) 128) × Int) e w=>∃ (g:Gh) ,Fr gI wI g w∧e 1=.int .i64 (x1)∧e 2=up2∧MQ (Value.int .i64) wI.heap.size g w (x2:List (Int × LoomRun)) up2∧e 3=p1∧PT g.m w (x0:LoomLoomMill) p1∧e 6=v8∧OM 9017 g w 4 (s.1:List Bool) v8∧e 7=p3∧OB 2007 g w 150 (s.2.1:Vector (Vector Int 7) 128) p3∧e 8=.int .i64 (y6)∧e 9=.int .i64 (u0)∧e 27=.int .i64 ((((x0).orders).length:Int))∧e 28=.int .i64 (s.2.2)) ⟨aB,hfr,bB,cB,dB,i9,n7,eB,iB,jB,kB,lB,mB,rfl,rfl⟩ (fun X405 kA mD=>?_)
    rintro ⟨o3,d3,o0⟩ yE qF ⟨nB,hfr,o7,u7,z3,v7,z4,c8,i5,a7,b7,e8,l5,e7,t5⟩ h
    refine Zf (Za (EL_p (.bool ((decide (o0 < (((x0).orders).length:Int))))) (P_int t5 e7 rfl) rfl ?_))
    refine Zb (Zd (Zf ?_))
    rcases Zt h with ⟨r8,h⟩ | ⟨r8,h⟩
    ·refine E_ct r8 rfl ?_
     refine Zu (Zd ?_)
     obtain ⟨⟨i6,j6⟩,hx,h⟩:=bsome h
     refine E_join (fun e w=>∃ (g:Gh) ,Fr gI wI g w∧e 1=.int .i64 (x1)∧e 2=up2∧MQ (Value.int .i64) wI.heap.size g w (x2:List (Int × LoomRun)) up2∧e 3=p1∧PT g.m w (x0:LoomLoomMill) p1∧e 6=v8∧OM 9017 g w 4 (i6:List Bool) v8∧e 7=p3∧OB 2007 g w 150 (j6:Vector (Vector Int 7) 128) p3∧e 8=.int .i64 (y6)∧e 9=.int .i64 (u0)∧e 27=.int .i64 ((((x0).orders).length:Int))∧e 28=.int .i64 (o0)) (fun Q' hQ=>?_) (fun zE rF hR=>?_)
     ·replace h := hx
      clear hx
      refine Zr ?_
      refine Zf (Za (Zo t5 rfl ?_))
      refine Zg (.int .i64 (o0)) rfl rfl ?_
      refine Zb (Zd (Zf (Za (Zo l5 rfl ?_))))
      refine Zn (.int .i64 (o0)) rfl rfl ?_
      obtain ⟨lA,n9,h⟩:=bsome h
      obtain ⟨hi469,he469⟩:=vat_idx n9
      refine EL_p (fPtr p3 ((u0:Int).toNat * 7)) (P_indexAddrA (α:=Vector Int 7) Tryz.underlying150 Tryz.sizeOf148 a7 (OB.ptr b7) rfl n9) rfl ?_
      obtain ⟨xD,o9,h⟩:=bsome h
      obtain ⟨hi471,he471⟩:=vat_idx o9
      refine EL_p (fPtr p3 (((u0:Int).toNat * 7) + (o0:Int).toNat * 1)) (P_indexAddrA2 (α:=Int) (o1:=((u0:Int).toNat * 7)) rfl Tryz.underlying148 Tryz.sizeOf3 rfl (OB.ptr b7) rfl o9) rfl ?_
      refine Ze .plain rfl (D_storeFc (g:=nB) (SubS.dynC hi469 (SubS.dyn hi471) rfl) Tryz.sizeOf3 rfl b7 rfl (Zj.2 rfl) fun oB sF hs b472 rst hos=>?_)
      clear rst hos
      have hfr:=hfr.stp hs
      have z3:=z3.stp hs
      have z4:=z4.stp hs
      have i5:=i5.stp hs rfl
      refine Zb (Zd (Zq h (fun (s:Unit) e w=>∃ (g:Gh) ,Fr gI wI g w∧e 1=.int .i64 (x1)∧e 2=up2∧MQ (Value.int .i64) wI.heap.size g w (x2:List (Int × LoomRun)) up2∧e 3=p1∧PT g.m w (x0:LoomLoomMill) p1∧e 6=v8∧OM 9017 g w 4 (o3:List Bool) v8∧e 7=p3∧OB 2007 g w 150 ((vmod d3 u0 (fun b=>(vset b o0 ((1048576:Int))))):Vector (Vector Int 7) 128) p3∧e 8=.int .i64 (y6)∧e 9=.int .i64 (u0)∧e 10=.int .i64 (o0)∧e 27=.int .i64 ((((x0).orders).length:Int))∧e 28=.int .i64 (o0)) (fun X475 nA nD h=>?_) ?_))
      ·refine Zf (Za (Zo l5 rfl ?_))
       refine Zn (.int .i64 (o0)) rfl rfl ?_
       obtain ⟨j7,oD,h⟩:=bsome h
       refine EL_p (.int .i64 (j7)) (P_int rfl rfl (congrArg (Option.map (Value.int .i64)) oD)) rfl ?_
       refine EL_in (.int .i64 ((bit64 .and j7 (1:Int)))) rfl rfl rfl rfl ?_
       refine EL_in (.bool (((bit64 .and j7 (1:Int)) == (0:Int)))) rfl rfl rfl rfl ?_
       refine Zb (Zd ?_)
       rcases Zt h with ⟨t8,h⟩ | ⟨t8,h⟩
       ·refine E_ct t8 rfl ?_
        refine E_exit ?_
        refine thn_e ?_
        refine blk_hit ?_
        obtain ⟨rfl,rfl⟩:=pairs2 h
        exact hQ _ _ ⟨oB,hfr,o7,u7,z3,v7,z4,c8,i5,a7,b472,e8,l5,e7,t5⟩
       ·refine E_cf t8 rfl ?_
        exact Zu (Zd (nD () _ _ ⟨oB,hfr,o7,u7,z3,v7,z4,c8,i5,a7,b472,e8,l5,rfl,e7,t5⟩ h))
      ·rintro _ cF tF ⟨tB, hfr, i8, k8, z2, c7, j1, l8, i3, d7, j3, k9, q5, g7, m8, n8⟩ h
       refine Zf (Za (Ze .plain rfl (D_load (g:=tB) Tryz.isAgg81 Tryz.sizeOf81 c7 j1 fun cE dE=>?_)))
       refine Zo q5 rfl ?_
       refine Zo g7 rfl ?_
       refine Zo i8 rfl ?_
       refine Zo k8 rfl ?_
       obtain ⟨u3,sD,h⟩:=bsome h
       refine Ze .plain rfl (D_callF (g:=tB) (vs:=[cE,p3,.int .i64 (u0),.int .i64 (o0),.int .i64 (x1),up2]) en79 (.cons rfl (.cons d7 (.cons rfl (.cons rfl (.cons rfl (.cons rfl .nil)))))) (wk79 (RV.lent dE) (OB.lent j3) (MR.lent z2.r) sD) fun vB dF uF hs hr=>?_)
       have hfr:=hfr.ext hs
       have z2:=z2.ext hs
       have j1:=j1.ext hs
       have i3:=i3.ext hs
       have j3:=j3.ext hs
       subst hr
       refine Zg (.int .i64 (u3)) rfl rfl ?_
       refine Zb (Zd (Zf (Za (Zn (.int .i64 (u3)) rfl rfl ?_))))
       refine EL_in (.bool ((decide (u3 < (1048576:Int))))) rfl rfl rfl rfl ?_
       refine Zb (Zd ?_)
       rcases Zt h with ⟨x8,h⟩ | ⟨x8,h⟩
       ·refine E_ct x8 rfl ?_
        refine Zf ?_
        have eE:=Zm (part_LoomLoomMill_1).1 j1
        refine Zs (x:=.tmp 51) Tryz.isAgg29 Tryz.sizeOf29 eE fun l9 xB tD=>?_
        obtain ⟨o8,t9,h⟩:=bsome h
        have yB:=PT_idx xB t9
        have gE:=Zm (part_LoomOrder_2).1 yB
        refine Zs (x:=.tmp 55) Tryz.isAgg3 Tryz.sizeOf3 gE fun vF iE uD=>?_
        obtain rfl:=Zj.1 iE
        obtain ⟨mA,u9,h⟩:=bsome h
        obtain ⟨hi490,he490⟩:=vat_idx u9
        obtain ⟨yD,z9,h⟩:=bsome h
        obtain ⟨hi492,he492⟩:=vat_idx z9
        refine E_drawL (g:=vB) (n:=12) [] [0,1,2,3,4,5,6,7,8,9,10,11] rfl mixed (by kernel_rfl) trivial ?_
        refine L_p (.int .i64 (u0)) rfl rfl (Zk q5) ?_
        refine L_p (.int .i64 (o0)) rfl rfl (Zk g7) ?_
        refine L_p (.int .i64 (u3)) rfl rfl (Zk rfl) ?_
        refine L_p (fPtr p1 2) rfl rfl (Zc at_81_1 c7 (PT.ptr j1)) ?_
        refine L_ld (c:=l9) rfl rfl .plain (fun _ _ h=>h.ch) tD rfl ?_
        refine L_p (.int .i64 (o0)) rfl rfl (Zk g7) ?_
        refine L_p (ePtr l9 o0 5) rfl rfl (Zh (α:=LoomOrder) Tryz.underlying29 Tryz.sizeOf67 rfl xB rfl t9) ?_
        refine L_p (fPtr (ePtr l9 o0 5) 2) rfl rfl (Zc at_67_2 rfl (PT.ptr yB)) ?_
        refine L_ld (c:=.int .i64 ((o8).Woven)) rfl rfl .plain (fun _ _ h=>h.ch) uD rfl ?_
        refine L_p (.int .i64 ((w64 (u3 + (o8).Woven)))) rfl rfl (P_int rfl rfl rfl) ?_
        refine L_p (fPtr p3 ((u0:Int).toNat * 7)) rfl rfl (P_indexAddrA (α:=Vector Int 7) Tryz.underlying150 Tryz.sizeOf148 d7 (OB.ptr j3) rfl u9) ?_
        refine L_p (fPtr p3 (((u0:Int).toNat * 7) + (o0:Int).toNat * 1)) rfl rfl (P_indexAddrA2 (α:=Int) (o1:=((u0:Int).toNat * 7)) rfl Tryz.underlying148 Tryz.sizeOf3 rfl (OB.ptr j3) rfl z9) ?_
        refine L_nl fun jE xF hs=>?_
        have hfr:=hfr.ext hs
        have z2:=z2.ext hs
        have j1:=j1.ext hs
        have i3:=i3.ext hs
        have j3:=j3.ext hs
        clear hs
        refine Ze .plain rfl (D_storeFc (g:=jE) (SubS.dynC hi490 (SubS.dyn hi492) rfl) Tryz.sizeOf3 rfl j3 rfl (Zj.2 rfl) fun kE yF hs b525 rst hos=>?_)
        clear rst hos
        have hfr:=hfr.stp hs
        have z2:=z2.stp hs
        have j1:=j1.stp hs
        have i3:=i3.stp hs rfl
        refine Zb (Zd (Za (Zo l8 rfl ?_)))
        refine Zo q5 rfl ?_
        obtain ⟨zD,bA,h⟩:=bsome h
        refine EL_p (ePtr v8 u0 1) (P_indexAddrM (α:=Bool) Tryz.underlying86 Tryz.sizeOf4 rfl i3 rfl bA) rfl ?_
        refine Ze .plain rfl (D_storeM (g:=kE) (α:=Bool) (a':=true) Tryz.sizeOf4 rfl i3 bA rfl (RV_bool.2 rfl) fun lE zF hs b527=>?_)
        have hfr:=hfr.stp hs
        have z2:=z2.stp hs
        have j1:=j1.stp hs
        have b525:=b525.stp hs rfl
        refine Zb (blk_n ?_)
        obtain ⟨rfl,rfl⟩:=pairs2 h
        exact hQ _ _ ⟨lE,hfr,i8,k8,z2,c7,j1,l8,b527,d7,b525,k9,q5,m8,n8⟩
       ·refine E_cf x8 rfl ?_
        refine Zu (blk_n ?_)
        obtain ⟨rfl,rfl⟩:=pairs2 h
        exact hQ _ _ ⟨vB,hfr,i8,k8,z2,c7,j1,l8,i3,d7,j3,k9,q5,m8,n8⟩
     ·clear hx
      obtain ⟨mE,hfr,zB,aC,cC,dC,eC,iC,jC,kC,lC,mC,qC,gA,iA⟩:=hR
      refine Za (EL_in (.int .i64 ((w64 (o0 + (1:Int))))) iA rfl rfl rfl ?_)
      refine Zn (.int .i64 ((w64 (o0 + (1:Int))))) rfl rfl ?_
      exact Zb (Zd (mD (i6,j6,(w64 (o0 + (1:Int)))) _ _ ⟨mE,hfr,zB,aC,cC,dC,eC,iC,jC,kC,lC,mC,qC,gA,rfl⟩ h))
    ·refine E_cf r8 rfl ?_
     refine E_exit ?_
     refine thn_e ?_
     refine thn_e ?_
     refine blk_hit ?_
     refine blk_n ?_
     obtain ⟨rfl,rfl⟩:=pairs2 h
     exact hQ _ _ ⟨nB,hfr,o7,u7,z3,v7,z4,c8,i5,a7,b7,e8,l5⟩
   ·clear hx
    obtain ⟨nE,hfr,rC,tC,uC,vC,xC,yC,aD,bD,cD,eD,gD⟩:=hR
    refine Za (Zo gD rfl ?_)
    refine EL_in (.int .i64 ((w64 (u0 + (1:Int))))) rfl rfl rfl rfl ?_
    refine Zg (.int .i64 ((w64 (u0 + (1:Int))))) rfl rfl ?_
    exact Zb (Zd (kD (v6,x6,(w64 (u0 + (1:Int)))) _ _ ⟨nE,hfr,rC,tC,uC,vC,xC,yC,aD,bD,cD,eD,rfl⟩ h))
 ·clear hx
  obtain ⟨aG,hfr,iD,jD⟩:=hR
  refine Zf (Za (Zo iD rfl ?_))
  refine Zg v8 rfl rfl ?_
  refine Zb (Zd (E_ret ?_))
  obtain ⟨gp531,hs,rp531⟩:=OM.pub jD
  have hfr:=hfr.stp hs
  obtain rfl:=sinj h
  exact end1 rfl rfl (show _=v8 from rfl) ⟨_,hfr,rp531⟩
def f57 (x0:Int) (x1:Int→Option Bool):Option ((List Int) × Bool):=
 Option.bind (α:=(List Int) × Bool) (
  (shl64 (1:Int) x0).bind fun x6=>
  lp (σ:=(List Int) × Bool × Int) (fun i8 (j1,o3,o0)=>
   bif (decide (o0 < x6)) then
    Option.bind (α:=(List Int) × Bool) (
     (f55 o0).bind fun i3=>
     jn (σ:=Unit) (fun _=>
      some (i3,true)
      ) fun k8=>
     Option.bind (α:=Bool) (
      bif o3 then
       bif (decide (((i3).length : Int) > ((j1).length : Int))) then
        some (true)
       else
        bif (((i3).length : Int) == ((j1).length : Int)) then
         (f81 i3 j1).bind fun v6=>
         bif (decide (v6 > (0 : Int))) then
          some (true)
         else
          (x1 o0).bind fun g7=>
          some ((!g7))
        else
         (x1 o0).bind fun i7=>
         some ((!i7))
      else
       (x1 o0).bind fun j7=>
       some ((!j7))
      ) fun i6=>
     bif i6 then
      some (j1,o3)
     else
      k8 ()
     ) fun (a7,b7)=>
    i8 (a7,b7,(w64 (o0 + (1:Int))))
   else
    some (j1,o3)
   ) big ([],false,(0:Int))
  ) fun (c7,y6)=>
 some (c7,y6)
theorem en57:Enters Tryz.prog 57:=enters_of Tryz.func57 (by kernel_rfl) rfl
theorem wk57 {gI:Gh} {wI:World} {x0:Int} {x1:Int→Option Bool} {up1:Value} (rp1:FnV1 Tryz.prog x1 up1 gI wI) {r:(List Int) × Bool} (h:f57 x0 x1=some r):Fn Tryz.prog 57 #[.int .i64 (x0),up1] gI wI (fun m w v=>∃ y0 y1,v=.tuple #[y0,y1]∧RV m w (r.1) y0∧y1=.bool (r.2)):=by
 unfold f57 at h
 refine fn_of_E Tryz.func57 rfl (Nat.le_of_ble_eq_true rfl) fun g0 hm hfr=>?_
 obtain ⟨ff1,fa1,fc1,rfl,fen1,fcl1⟩:=rp1
 show E _ 46 none _ _ _ _ _
 refine Zf (Za (Zg (.slice none 0 0) rfl rfl ?_))
 refine Zg (.bool false) rfl rfl ?_
 refine Zb (Zd ?_)
 obtain ⟨⟨c7,y6⟩,hx,h⟩:=bsome h
 refine E_join (fun e w=>∃ (g:Gh) (v4:Value),Fr gI wI g w∧e 4=v4∧RV g.m w (c7:List Int) v4∧e 5=.bool (y6)) (fun Q' hQ=>?_) (fun sA cB hR=>?_)
 ·replace h := hx
  clear hx
  refine Zf (Za (Zn (.int .i64 (x0)) rfl rfl ?_))
  obtain ⟨x6,z9,h⟩:=bsome h
  refine EL_p (.int .i64 (x6)) (P_int rfl rfl (congrArg (Option.map (Value.int .i64)) z9)) rfl ?_
  refine Zn (.int .i64 (0)) rfl rfl ?_
  refine Zb (Zd (Zr ?_))
  refine E_lp h (fun (s:(List Int) × Bool × Int) e w=>∃ (g:Gh) (v4:Value),Fr gI wI g w∧e 1=(.func (.func ff1) fa1 fc1)∧e 4=v4∧RV g.m w (s.1:List Int) v4∧e 5=.bool (s.2.1)∧e 9=.int .i64 (x6)∧e 10=.int .i64 (s.2.2)) ⟨g0,(.slice none 0 0),hfr,rfl,rfl,RV_nil,rfl,rfl,rfl⟩ (fun X352 i8 bA=>?_)
  rintro ⟨j1,o3,o0⟩ uA dB ⟨l8,z4,hfr,i5,u3,u0,t5,j6,z3⟩ h
  refine Zf (Za (EL_in (.bool ((decide (o0 < x6)))) z3 j6 rfl rfl ?_))
  refine Zb (Zd (Zf ?_))
  rcases Zt h with ⟨m7,h⟩ | ⟨m7,h⟩
  ·refine E_ct m7 rfl ?_
   refine Zu (Zd ?_)
   obtain ⟨⟨a7,b7⟩,hx,h⟩:=bsome h
   refine E_join (fun e w=>∃ (g:Gh) (v4:Value),Fr gI wI g w∧e 1=(.func (.func ff1) fa1 fc1)∧e 4=v4∧RV g.m w (a7:List Int) v4∧e 5=.bool (b7)∧e 9=.int .i64 (x6)∧e 10=.int .i64 (o0)) (fun Q' hQ=>?_) (fun xA eB hR=>?_)
   ·replace h := hx
    clear hx
    refine Zr ?_
    refine Zf (Za (Zo z3 rfl ?_))
    refine Zg (.int .i64 (o0)) rfl rfl ?_
    refine Zb (Zd (Zf (Za (Zn (.int .i64 (o0)) rfl rfl ?_))))
    obtain ⟨i3,gA,h⟩:=bsome h
    refine Ze .plain rfl (Zp (g:=l8) (vs:=[.int .i64 (o0)]) en55 (.cons rfl .nil) (wk55  gA) fun n7 yA x5 hs hr=>?_)
    have hfr:=hfr.ext hs
    have u0:=u0.ext hs
    have j3:=hr
    refine Zg x5 rfl rfl ?_
    refine Zb (Zd (Zq h (fun (s:Unit) e w=>∃ (g:Gh) ,Fr gI wI g w∧e 1=(.func (.func ff1) fa1 fc1)∧e 7=x5∧RV g.m w (i3:List Int) x5∧e 9=.int .i64 (x6)∧e 10=.int .i64 (o0)) (fun X439 k8 iA h=>?_) ?_))
    ·obtain ⟨i6, hx, h⟩ := bsome h
     refine E_join (fun e w=>∃ (g:Gh) ,Fr gI wI g w∧e 1=(.func (.func ff1) fa1 fc1)∧e 4=z4∧RV g.m w (j1:List Int) z4∧e 5=.bool (o3)∧e 7=x5∧RV g.m w (i3:List Int) x5∧e 9=.int .i64 (x6)∧e 10=.int .i64 (o0)∧e 41=.bool (i6)) (fun Q' hQ=>?_) (fun zA iB hR=>?_)
     ·replace h := hx
      clear hx
      refine Za (Zo t5 rfl ?_)
      refine Zn (.bool (o3)) rfl rfl ?_
      rcases Zt h with ⟨z2,h⟩ | ⟨z2,h⟩
      ·refine EL_y x5 (Zk rfl) rfl rfl z2 rfl ?_
       refine EL_y (.int .i64 ((i3).length:Int)) (P_len Tryz.underlying26 rfl j3) rfl rfl z2 rfl ?_
       refine EL_y z4 (Zk u3) rfl rfl z2 rfl ?_
       refine EL_y (.int .i64 ((j1).length:Int)) (P_len Tryz.underlying26 rfl u0) rfl rfl z2 rfl ?_
       refine EL_y (.bool ((decide (((i3).length:Int) > ((j1).length:Int))))) (P_int rfl rfl rfl) rfl rfl z2 rfl ?_
       refine EL_y (.bool ((decide (((i3).length:Int) > ((j1).length:Int))))) (Zk rfl) rfl rfl z2 rfl ?_
       rcases Zt h with ⟨d3,h⟩ | ⟨d3,h⟩
       ·refine EL_s rfl rfl d3 rfl rfl ?_
        iterate 5 refine EL_s rfl rfl d3 rfl rfl ?_
        refine EL_dead 4 rfl ?_
        refine EL_s rfl rfl d3 rfl rfl ?_
        refine EL_y (.bool true) (Zl (b:=(decide (((i3).length:Int) > ((j1).length:Int)))) rfl (pick_t d3 rfl)) rfl rfl z2 rfl ?_
        refine EL_p (.bool true) (Zl (b:=o3) rfl (pick_t z2 rfl)) rfl ?_
        refine EL_dead 6 rfl ?_
        refine Zb ?_
        obtain rfl:=sinj h
        exact hQ _ _ ⟨n7,hfr,i5,u3,u0,t5,rfl,j3,j6,z3,rfl⟩
       ·refine EL_y x5 (Zk rfl) rfl rfl d3 rfl ?_
        refine EL_y (.int .i64 ((i3).length:Int)) (P_len Tryz.underlying26 rfl j3) rfl rfl d3 rfl ?_
        refine EL_y z4 (Zk u3) rfl rfl d3 rfl ?_
        refine EL_y (.int .i64 ((j1).length:Int)) (P_len Tryz.underlying26 rfl u0) rfl rfl d3 rfl ?_
        refine EL_y (.bool ((((i3).length:Int) == ((j1).length:Int)))) (P_int rfl rfl rfl) rfl rfl d3 rfl ?_
        refine EL_y (.bool ((((i3).length:Int) == ((j1).length:Int)))) (Zk rfl) rfl rfl d3 rfl ?_
        rcases Zt h with ⟨l5,h⟩ | ⟨l5,h⟩
        ·refine EL_y x5 (Zk rfl) rfl rfl l5 rfl ?_
         refine EL_y z4 (Zk u3) rfl rfl l5 rfl ?_
         obtain ⟨v6,jA,h⟩:=bsome h
         refine Ze (.yes2 rfl rfl l5) rfl (Zp (g:=n7) (vs:=[x5,z4]) en81 (.cons rfl (.cons rfl .nil)) (wk81 j3 u0 jA) fun m8 aB jB hs hr=>?_)
         have hfr:=hfr.ext hs
         have u0:=u0.ext hs
         have j3:=j3.ext hs
         subst hr
         refine EL_y (.bool ((decide (v6 > (0:Int))))) (P_int rfl rfl rfl) rfl rfl l5 rfl ?_
         refine EL_y (.bool ((decide (v6 > (0:Int))))) (Zl (b:=(((i3).length:Int) == ((j1).length:Int))) rfl (pick_t l5 rfl)) rfl rfl d3 rfl ?_
         refine EL_y (.bool ((decide (v6 > (0:Int))))) (Zl (b:=(decide (((i3).length:Int) > ((j1).length:Int)))) rfl (pick_f d3 rfl)) rfl rfl z2 rfl ?_
         refine EL_p (.bool ((decide (v6 > (0:Int))))) (Zl (b:=o3) rfl (pick_t z2 rfl)) rfl ?_
         refine Zn (.bool ((decide (v6 > (0:Int))))) rfl rfl ?_
         rcases Zt h with ⟨q5,h⟩ | ⟨q5,h⟩
         ·refine EL_s rfl rfl q5 rfl rfl ?_
          iterate 3 refine EL_s rfl rfl q5 rfl rfl ?_
          refine EL_p (.bool true) (Zl (b:=(decide (v6 > (0:Int)))) rfl (pick_t q5 rfl)) rfl ?_
          refine Zb ?_
          obtain rfl:=sinj h
          exact hQ _ _ ⟨m8,hfr,i5,u3,u0,t5,rfl,j3,j6,z3,rfl⟩
         ·refine EL_y ((.func (.func ff1) fa1 fc1)) (Zk i5) rfl rfl q5 rfl ?_
          refine EL_y (.int .i64 (o0)) (Zk rfl) rfl rfl q5 rfl ?_
          obtain ⟨g7,kA,h⟩:=bsome h
          refine Ze (.yes2 rfl rfl q5) rfl (D_callv (g:=m8) (vs:=[.int .i64 (o0)]) rfl fen1 (.cons rfl .nil) (fcl1 _ _ hfr.ch _ _ _  (Zj.2 rfl) kA) fun nA kB lB hs hr=>?_)
          have hfr:=hfr.ext hs
          have u0:=u0.ext hs
          have j3:=j3.ext hs
          obtain rfl:=RV_bool.1 hr
          refine EL_y (.bool (!g7)) (P_not rfl) rfl rfl q5 rfl ?_
          refine EL_p (.bool (!g7)) (Zl (b:=(decide (v6 > (0:Int)))) rfl (pick_f q5 rfl)) rfl ?_
          refine Zb ?_
          obtain rfl:=sinj h
          exact hQ _ _ ⟨nA,hfr,i5,u3,u0,t5,rfl,j3,j6,z3,rfl⟩
        ·refine EL_s rfl rfl l5 rfl rfl ?_
         iterate 3 refine EL_s rfl rfl l5 rfl rfl ?_
         refine EL_y (.bool false) (Zl (b:=(((i3).length:Int) == ((j1).length:Int))) rfl (pick_f l5 rfl)) rfl rfl d3 rfl ?_
         refine EL_y (.bool false) (Zl (b:=(decide (((i3).length:Int) > ((j1).length:Int)))) rfl (pick_f d3 rfl)) rfl rfl z2 rfl ?_
         refine EL_p (.bool false) (Zl (b:=o3) rfl (pick_t z2 rfl)) rfl ?_
         refine Zn (.bool false) rfl rfl ?_
         refine EL_y ((.func (.func ff1) fa1 fc1)) (Zk i5) rfl rfl rfl rfl ?_
         refine EL_y (.int .i64 (o0)) (Zk rfl) rfl rfl rfl rfl ?_
         obtain ⟨i7,lA,h⟩:=bsome h
         refine Ze (.yes2 rfl rfl rfl) rfl (D_callv (g:=n7) (vs:=[.int .i64 (o0)]) rfl fen1 (.cons rfl .nil) (fcl1 _ _ hfr.ch _ _ _  (Zj.2 rfl) lA) fun oA mB nB hs hr=>?_)
         have hfr:=hfr.ext hs
         have u0:=u0.ext hs
         have j3:=j3.ext hs
         obtain rfl:=RV_bool.1 hr
         refine EL_y (.bool (!i7)) (P_not rfl) rfl rfl rfl rfl ?_
         refine EL_p (.bool (!i7)) (Zl (b:=false) rfl (pick_f rfl rfl)) rfl ?_
         refine Zb ?_
         obtain rfl:=sinj h
         exact hQ _ _ ⟨oA,hfr,i5,u3,u0,t5,rfl,j3,j6,z3,rfl⟩
      ·refine EL_s rfl rfl z2 rfl rfl ?_
       iterate 5 refine EL_s rfl rfl z2 rfl rfl ?_
       refine EL_dead 11 rfl ?_
       refine EL_s rfl rfl z2 rfl rfl ?_
       refine EL_p (.bool false) (Zl (b:=o3) rfl (pick_f z2 rfl)) rfl ?_
       refine Zn (.bool false) rfl rfl ?_
       refine EL_y ((.func (.func ff1) fa1 fc1)) (Zk i5) rfl rfl rfl rfl ?_
       refine EL_y (.int .i64 (o0)) (Zk rfl) rfl rfl rfl rfl ?_
       obtain ⟨j7,mA,h⟩:=bsome h
       refine Ze (.yes2 rfl rfl rfl) rfl (D_callv (g:=n7) (vs:=[.int .i64 (o0)]) rfl fen1 (.cons rfl .nil) (fcl1 _ _ hfr.ch _ _ _  (Zj.2 rfl) mA) fun pA oB tB hs hr=>?_)
       have hfr:=hfr.ext hs
       have u0:=u0.ext hs
       have j3:=j3.ext hs
       obtain rfl:=RV_bool.1 hr
       refine EL_y (.bool (!j7)) (P_not rfl) rfl rfl rfl rfl ?_
       refine EL_p (.bool (!j7)) (Zl (b:=false) rfl (pick_f rfl rfl)) rfl ?_
       refine Zb ?_
       obtain rfl:=sinj h
       exact hQ _ _ ⟨pA,hfr,i5,u3,u0,t5,rfl,j3,j6,z3,rfl⟩
     ·clear hx
      obtain ⟨n8,hfr,u7,o8,q8,r8,t8,v8,v7,d7,e7⟩:=hR
      rcases Zt h with ⟨o7,h⟩ | ⟨o7,h⟩
      ·refine E_cond_true (Eq.trans (show ev _ _ = .bool (i6) from e7) (congrArg Value.bool o7)) ?_
       refine E_exit ?_
       refine thn_e ?_
       refine blk_hit ?_
       obtain ⟨rfl,rfl⟩:=pairs2 h
       exact hQ _ _ ⟨n8,(z4),hfr,u7,o8,q8,r8,v7,d7⟩
      ·refine E_cond_false (Eq.trans (show ev _ _ = .bool (i6) from e7) (congrArg Value.bool o7)) ?_
       exact Zu (Zd (iA () _ _ ⟨n8,hfr,u7,t8,v8,v7,d7⟩ h))
    ·rintro _ bB vB ⟨qA, hfr, x8, y8, a9, d9, e8⟩ h
     refine Za (Zo y8 rfl ?_)
     refine Zg x5 rfl rfl ?_
     refine Zg (.bool true) rfl rfl ?_
     refine Zb (blk_n ?_)
     obtain ⟨rfl,rfl⟩:=pairs2 h
     exact hQ _ _ ⟨qA,(x5),hfr,x8,rfl,a9,rfl,d9,e8⟩
   ·clear hx
    obtain ⟨rA,e9,hfr,i9,k9,l9,n9,o9,g8⟩:=hR
    refine Za (EL_in (.int .i64 ((w64 (o0 + (1:Int))))) g8 rfl rfl rfl ?_)
    refine Zn (.int .i64 ((w64 (o0 + (1:Int))))) rfl rfl ?_
    exact Zb (Zd (bA (a7,b7,(w64 (o0 + (1:Int)))) _ _ ⟨rA,(e9),hfr,i9,k9,l9,n9,o9,rfl⟩ h))
  ·refine E_cf m7 rfl ?_
   refine E_exit ?_
   refine thn_e ?_
   refine thn_e ?_
   refine blk_hit ?_
   obtain ⟨rfl,rfl⟩:=pairs2 h
   exact hQ _ _ ⟨l8,(z4),hfr,u3,u0,t5⟩
 ·clear hx
  obtain ⟨xB,c8,hfr,t9,u9,y9⟩:=hR
  refine Zf (Za (Zo t9 rfl ?_))
  refine Zo y9 rfl ?_
  refine Zg c8 rfl rfl ?_
  refine Zg (.bool (y6)) rfl rfl ?_
  refine Zb (Zd (E_ret ?_))
  obtain rfl:=sinj h
  exact end2 rfl rfl (show _=c8 from rfl) (show _=.bool (y6) from rfl) ⟨_,hfr,_,_,rfl,u9,rfl⟩
def f60 (x0:List Int) (x1:Int→Int→Option Int):Option ((List Int)):=
 (f85 ((wu64 ((x0).length:Int)))).bind fun y2=>
 (f84 big x0 ((0:Int)) (((x0).length:Int)) y2 x1).bind fun y4=>
 some (y4)
theorem en60:Enters Tryz.prog 60:=enters_of Tryz.func60 (by kernel_rfl) rfl
theorem wk60 {iI:Nat} {gI:Gh} {wI:World} {x0:List Int} {x1:Int→Int→Option Int} {up0:Value} (mp0:OM iI gI wI 3 x0 up0) {up1:Value} (rp1:FnV2 Tryz.prog x1 up1 gI wI) {r:(List Int)} (h:f60 x0 x1=some r):FnM Tryz.prog 60 #[up0,up1] iI gI wI (fun g w v=>v=.tuple #[]∧OM iI g w 3 r up0):=by
 unfold f60 at h
 refine fnM_of_E Tryz.func60 rfl (Nat.le_of_ble_eq_true rfl) fun g0 hm hfr=>?_
 have o0:=mp0
 replace mp0:=mp0.enter
 rw [← hm] at mp0
 replace hm:g0.m=gI.m:=by rw [hm]
 obtain ⟨ff1,fa1,fc1,rfl,fen1,fcl1⟩:=rp1
 show E _ 14 none _ _ _ _ _
 refine Zf (Za (Zn up0 rfl rfl ?_))
 refine EL_p (.int .i64 ((x0).length:Int)) (P_lenM Tryz.underlying26 rfl mp0) rfl ?_
 refine Zg (.int .i64 ((x0).length:Int)) rfl rfl ?_
 refine Zb (Zd (Za (Zn up0 rfl rfl ?_)))
 refine Zn (.int .i64 ((x0).length:Int)) rfl rfl ?_
 refine Zn (.int .i64 ((x0).length:Int)) rfl rfl ?_
 refine EL_p (.int .u64 (wu64 ((x0).length:Int))) (P_intu64 Tryz.underlying3 Tryz.underlying110 rfl) rfl ?_
 obtain ⟨y2,hy2,h⟩:=bsome h
 refine Ze .plain rfl (Zp (g:=g0) (vs:=[.int .u64 (wu64 ((x0).length:Int))]) en85 (.cons rfl .nil) (wk85  hy2) fun g1 w1_ v1 hs hr=>?_)
 have hfr:=hfr.ext hs
 have mp0:=mp0.ext hs
 subst hr
 refine Zn ((.func (.func ff1) fa1 fc1)) rfl rfl ?_
 obtain ⟨y4,u0,h⟩:=bsome h
 refine Ze .plain rfl (D_callM (g:=g1) (i:=1) (vs:=[up0,.int .i64 (0),.int .i64 ((x0).length:Int),.int .i64 (y2),(.func (.func ff1) fa1 fc1)]) en84 (.cons rfl (.cons rfl (.cons rfl (.cons rfl (.cons rfl .nil))))) (wk84 big mp0 (FnV2.ch ⟨_,_,_,rfl,fen1,fcl1⟩ hfr.ch) u0) fun g3 w3_ v3 hs hr=>?_)
 obtain ⟨hrv,b3⟩:=hr
 have hfr:=hfr.stp hs
 subst hrv
 refine Zb ?_
 obtain rfl:=sinj h
 exact end0n rfl rfl ⟨_,hfr,rfl,o0.back b3⟩
def f61 (x0:Int) (x1:Int) (z0:List LoomRun):Option (Int):=
 (idx z0 x0).bind fun y2=>
 (idx z0 x1).bind fun y7=>
 (f63 ((y2).From) ((y7).From)).bind fun o0=>
 (idx z0 x0).bind fun d3=>
 (idx z0 x1).bind fun i3=>
 (f63 ((d3).Order) ((i3).Order)).bind fun u0=>
 (f62 (([o0,u0]:List Int))).bind fun z2=>
 some (z2)
theorem en61:Enters Tryz.prog 61:=enters_of Tryz.func61 (by kernel_rfl) rfl
theorem wk61 {gI:Gh} {wI:World} {x0:Int} {x1:Int} {z0:List LoomRun} {pf0:Value} (qf0:PT gI.m wI z0 pf0) {r:Int} (h:f61 x0 x1 z0=some r):Fn Tryz.prog 61 #[.int .i64 (x0),.int .i64 (x1),pf0] gI wI (fun _ _ v=>v=.int .i64 (r)):=by
 unfold f61 at h
 refine fn_of_E Tryz.func61 rfl (Nat.le_of_ble_eq_true rfl) fun g0 hm hfr=>?_
 have qf0:PT g0.m wI z0 pf0:=hm ▸ qf0
 show E _ 30 none _ _ _ _ _
 refine Zf (Za (Zg (.int .i64 (0)) rfl rfl ?_))
 refine Zb (Zd (Zf (Zs (x:=.tmp 2) Tryz.isAgg48 Tryz.sizeOf48 qf0 fun v1 r1 hl1=>?_)))
 obtain ⟨y2,hy2,h⟩:=bsome h
 have q3:=PT_idx r1 hy2
 have q4:=Zm (part_LoomRun_2).1 q3
 refine Zs (x:=.tmp 9) Tryz.isAgg3 Tryz.sizeOf3 q4 fun v5 r5 d7=>?_
 obtain rfl:=Zj.1 r5
 refine Zs (x:=.tmp 2) Tryz.isAgg48 Tryz.sizeOf48 qf0 fun v6 r6 e7=>?_
 obtain ⟨y7,z4,h⟩:=bsome h
 have q8:=PT_idx r6 z4
 have q9:=Zm (part_LoomRun_2).1 q8
 refine Zs (x:=.tmp 14) Tryz.isAgg3 Tryz.sizeOf3 q9 fun o7 g7 x5=>?_
 obtain rfl:=Zj.1 g7
 obtain ⟨o0,i6,h⟩:=bsome h
 refine Zs (x:=.tmp 2) Tryz.isAgg48 Tryz.sizeOf48 qf0 fun j3 i5 j6=>?_
 obtain ⟨d3,o3,h⟩:=bsome h
 have l5:=PT_idx i5 o3
 have i7:=Zm (part_LoomRun_0).1 l5
 refine Zs (x:=.tmp 20) Tryz.isAgg3 Tryz.sizeOf3 i7 fun u7 j7 x6=>?_
 obtain rfl:=Zj.1 j7
 refine Zs (x:=.tmp 2) Tryz.isAgg48 Tryz.sizeOf48 qf0 fun u3 q5 y6=>?_
 obtain ⟨i3,z3,h⟩:=bsome h
 have t5:=PT_idx q5 z3
 have m7:=Zm (part_LoomRun_0).1 t5
 refine Zs (x:=.tmp 25) Tryz.isAgg3 Tryz.sizeOf3 m7 fun v7 n7 a7=>?_
 obtain rfl:=Zj.1 n7
 obtain ⟨u0,b7,h⟩:=bsome h
 obtain ⟨z2,c7,h⟩:=bsome h
 refine E_drawL (g:=g0) (n:=25) [(10,(fun v g w=>v=.int .i64 (o0))),(21,(fun v g w=>v=.int .i64 (u0))),(22,(fun v g w=>RV g.m w ([o0,u0]:List Int) v∧OS 3028 g w 3 ([o0,u0]:List Int) v∧FullV v)),(23,(fun v g w=>v=.int .i64 (z2)))] [0,1,2,3,4,5,6,7,8,9,10,11,12,13,14,15,16,17,18,19,20,21,22,23,24] rfl mixed (by kernel_rfl) (⟨fun _=>up_eq _,fun _=>up_eq _,fun _=>up_and up_rv (up_and up_os (up_eq _)),fun _=>up_eq _,trivial⟩) ?_
 refine L_ld (c:=v1) rfl rfl .plain (fun _ _ h=>h.ch) hl1 rfl ?_
 refine L_p (.int .i64 (x0)) rfl rfl (Zk rfl) ?_
 refine L_p (ePtr v1 x0 3) rfl rfl (Zh (α:=LoomRun) Tryz.underlying48 Tryz.sizeOf65 rfl r1 rfl hy2) ?_
 refine L_p (fPtr (ePtr v1 x0 3) 2) rfl rfl (Zc at_65_2 rfl (PT.ptr q3)) ?_
 refine L_ld (c:=.int .i64 ((y2).From)) rfl rfl .plain (fun _ _ h=>h.ch) d7 rfl ?_
 refine L_ld (c:=v6) rfl rfl .plain (fun _ _ h=>h.ch) e7 rfl ?_
 refine L_p (.int .i64 (x1)) rfl rfl (Zk rfl) ?_
 refine L_p (ePtr v6 x1 3) rfl rfl (Zh (α:=LoomRun) Tryz.underlying48 Tryz.sizeOf65 rfl r6 rfl z4) ?_
 refine L_p (fPtr (ePtr v6 x1 3) 2) rfl rfl (Zc at_65_2 rfl (PT.ptr q8)) ?_
 refine L_ld (c:=.int .i64 ((y7).From)) rfl rfl .plain (fun _ _ h=>h.ch) x5 rfl ?_
 refine L_do (φ:=fun v g w=>v=.int .i64 (o0)) rfl rfl .plain (fun g w hd=>Zp (g:=g) (vs:=[.int .i64 ((y2).From),.int .i64 ((y7).From)]) en63 (.cons rfl (.cons rfl .nil)) (wk63  i6) fun g' w' v hs hr=>⟨g',hs,hr⟩) (fun c8 hv=>?_)
 obtain ⟨_,_,_,rfl⟩:=hv
 refine L_ld (c:=j3) rfl rfl .plain (fun _ _ h=>h.ch) j6 rfl ?_
 refine L_p (.int .i64 (x0)) rfl rfl (Zk rfl) ?_
 refine L_p (ePtr j3 x0 3) rfl rfl (Zh (α:=LoomRun) Tryz.underlying48 Tryz.sizeOf65 rfl i5 rfl o3) ?_
 refine L_p (fPtr (ePtr j3 x0 3) 0) rfl rfl (Zc at_65_0 rfl (PT.ptr l5)) ?_
 refine L_ld (c:=.int .i64 ((d3).Order)) rfl rfl .plain (fun _ _ h=>h.ch) x6 rfl ?_
 refine L_ld (c:=u3) rfl rfl .plain (fun _ _ h=>h.ch) y6 rfl ?_
 refine L_p (.int .i64 (x1)) rfl rfl (Zk rfl) ?_
 refine L_p (ePtr u3 x1 3) rfl rfl (Zh (α:=LoomRun) Tryz.underlying48 Tryz.sizeOf65 rfl q5 rfl z3) ?_
 refine L_p (fPtr (ePtr u3 x1 3) 0) rfl rfl (Zc at_65_0 rfl (PT.ptr t5)) ?_
 refine L_ld (c:=.int .i64 ((i3).Order)) rfl rfl .plain (fun _ _ h=>h.ch) a7 rfl ?_
 refine L_do (φ:=fun v g w=>v=.int .i64 (u0)) rfl rfl .plain (fun g w hd=>Zp (g:=g) (vs:=[.int .i64 ((d3).Order),.int .i64 ((i3).Order)]) en63 (.cons rfl (.cons rfl .nil)) (wk63  b7) fun g' w' v hs hr=>⟨g',hs,hr⟩) (fun e8 hv=>?_)
 obtain ⟨_,_,_,rfl⟩:=hv
 refine L_do (φ:=fun v g w=>RV g.m w ([o0,u0]:List Int) v∧OS 3028 g w 3 ([o0,u0]:List Int) v∧FullV v) rfl rfl .plain (fun g w hd=>D_buildSlice (g:=g) 3028 (xs:=([o0,u0]:List Int)) (vs:=[.int .i64 (o0),.int .i64 (u0)]) Tryz.underlying26 Tryz.sizeOf3 Tryz.zeroValue3 rfl rfl (.cons rfl (.cons rfl .nil)) (RVs.cons (Zj.2 rfl) (RVs.cons (Zj.2 rfl) RVs.nil)) rfl rfl fun g' w' v hs o r hxt hfl=>⟨g',hxt,r,o,hfl⟩) (fun j1 hv=>?_)
 clear hv
 refine L_do (φ:=fun v g w=>v=.int .i64 (z2)) rfl rfl .plain (fun g w hd=>Zp (g:=g) (vs:=[j1]) en62 (.cons rfl .nil) (wk62 (word (A:=fun g w=>RV g.m w ([o0,u0]:List Int) j1∧OS 3028 g w 3 ([o0,u0]:List Int) j1∧FullV j1) 22 rfl rfl (deps_of hd)).1 c7) fun g' w' v hs hr=>⟨g',hs,hr⟩) (fun g8 hv=>?_)
 obtain ⟨_,_,_,rfl⟩:=hv
 refine L_p (.int .i64 (z2)) rfl rfl (P_assign rfl) ?_
 refine L_nil fun i8 k8 hall=>?_
 have hs:=hall.1
 have hfr:=hfr.ext hs
 have l8:=(word_all (A:=fun g w=>RV g.m w ([o0,u0]:List Int) j1∧OS 3028 g w 3 ([o0,u0]:List Int) j1∧FullV j1) 22 rfl hall).1
 have o55:=(word_all (A:=fun g w=>RV g.m w ([o0,u0]:List Int) j1∧OS 3028 g w 3 ([o0,u0]:List Int) j1∧FullV j1) 22 rfl hall).2.1
 clear hs hall
 refine Zb (Zd (E_ret ?_))
 obtain rfl:=sinj h
 exact end1 rfl rfl (show _=.int .i64 (z2) from rfl) ⟨_,hfr,rfl⟩
def f65 (x0:TieHarness):Option (Int):=
 jn (σ:=Unit) (fun _=>
  some ((0:Int))
  ) fun o3=>
 (f87 ((1:Int)) ((24:Int)) (([(x0).Hooks]:List Int))).bind fun i3=>
 bif (!i3) then
  some ((2:Int))
 else
  bif (decide ((((x0).Warps).length : Int) > (96 : Int))) then
   some ((5:Int))
  else
   bif ((((x0).Warps).length : Int) == (0 : Int)) then
    some ((7:Int))
   else
    (f87 ((0:Int)) ((w64 ((x0).Hooks - (1:Int)))) ((x0).Warps)).bind fun j3=>
    bif (!j3) then
     some ((2:Int))
    else
     o3 ()
theorem en65:Enters Tryz.prog 65:=enters_of Tryz.func65 (by kernel_rfl) rfl
theorem wk65 {gI:Gh} {wI:World} {x0:TieHarness} {up0:Value} (rp0:RV gI.m wI x0 up0) {r:Int} (h:f65 x0=some r):Fn Tryz.prog 65 #[up0] gI wI (fun _ _ v=>v=.int .i64 (r)):=by
 unfold f65 at h
 refine fn_of_E Tryz.func65 rfl (Nat.le_of_ble_eq_true rfl) fun g0 hm hfr=>?_
 have rp0:RV g0.m wI x0 up0:=hm ▸ rp0
 show E _ 27 none _ _ _ _ _
 refine Zf (Za (Ze .plain rfl (D_box (g:=g0) rfl rp0 fun g1 w1 p1 hs q1=>?_)))
 have hfr:=hfr.ext hs
 refine Zg (.int .i64 (0)) rfl rfl ?_
 refine Zb (Zd (Zq h (fun (s:Unit) e w=>∃ (g:Gh) ,Fr gI wI g w) (fun X21 o3 u3 h=>?_) ?_))
 ·refine Zr ?_
  refine Zf (Za (EL_p (fPtr p1 0) (Zc at_33_0 rfl (PT.ptr q1)) rfl ?_))
  have i5:=Zm (part_TieHarness_0).1 q1
  refine Ze .plain rfl (D_load (g:=g1) Tryz.isAgg3 Tryz.sizeOf3 rfl i5 fun m7 l5=>?_)
  obtain rfl:=Zj.1 l5
  refine Ze .plain rfl (D_buildSlice (g:=g1) 3006 (xs:=([(x0).Hooks]:List Int)) (vs:=[.int .i64 ((x0).Hooks)]) Tryz.underlying26 Tryz.sizeOf3 Tryz.zeroValue3 rfl rfl (.cons rfl .nil) (RVs.cons (Zj.2 rfl) RVs.nil) rfl rfl fun q5 n7 t5 hs o24 x5 hxt hfl=>?_)
  have hfr:=hfr.stp hs
  have q1:=q1.stp hs
  obtain ⟨i3,z3,h⟩:=bsome h
  refine Ze .plain rfl (Zp (g:=q5) (vs:=[.int .i64 (1),.int .i64 (24),t5]) en87 (.cons rfl (.cons rfl (.cons rfl .nil))) (wk87 x5 z3) fun o0 g7 o7 hs hr=>?_)
  have hfr:=hfr.ext hs
  have q1:=q1.ext hs
  subst hr
  refine EL_p (.bool (!i3)) (P_not rfl) rfl ?_
  refine Zg (.bool (!i3)) rfl rfl ?_
  refine Zb (Zd ?_)
  rcases Zt h with ⟨u0,h⟩ | ⟨u0,h⟩
  ·refine E_ct u0 rfl ?_
   refine Zf (Za (Zg (.int .i64 (2)) rfl rfl ?_))
   refine Zb (Zd (E_ret (blk_r ?_)))
   refine thn_r ?_
   obtain rfl:=sinj h
   exact end1 rfl rfl (show _=.int .i64 (2) from rfl) ⟨_,hfr,rfl⟩
  ·refine E_cf u0 rfl ?_
   refine Zf (Za (EL_p (fPtr p1 1) (Zc at_33_1 rfl (PT.ptr q1)) rfl ?_))
   have i6:=Zm (part_TieHarness_1).1 q1
   refine Ze .plain rfl (D_load (g:=o0) Tryz.isAgg26 Tryz.sizeOf26 rfl i6 fun u7 j6=>?_)
   refine EL_p (.int .i64 (((x0).Warps).length:Int)) (P_len Tryz.underlying26 rfl j6) rfl ?_
   refine EL_p (.bool ((decide ((((x0).Warps).length:Int) > (96:Int))))) (P_int rfl rfl rfl) rfl ?_
   refine EL_p (.bool ((decide ((((x0).Warps).length:Int) > (96:Int))))) (P_assign rfl) rfl ?_
   refine Zb (Zd ?_)
   rcases Zt h with ⟨j1,h⟩ | ⟨j1,h⟩
   ·refine E_ct j1 rfl ?_
    refine Zf (Za (Zg (.int .i64 (5)) rfl rfl ?_))
    refine Zb (Zd (E_ret (blk_r ?_)))
    refine thn_r ?_
    obtain rfl:=sinj h
    exact end1 rfl rfl (show _=.int .i64 (5) from rfl) ⟨_,hfr,rfl⟩
   ·refine E_cf j1 rfl ?_
    refine Zf (Za (EL_p (fPtr p1 1) (Zc at_33_1 rfl (PT.ptr q1)) rfl ?_))
    have v6:=Zm (part_TieHarness_1).1 q1
    refine Ze .plain rfl (D_load (g:=o0) Tryz.isAgg26 Tryz.sizeOf26 rfl v6 fun v7 x6=>?_)
    refine EL_p (.int .i64 (((x0).Warps).length:Int)) (P_len Tryz.underlying26 rfl x6) rfl ?_
    refine EL_in (.bool (((((x0).Warps).length:Int) == (0:Int)))) rfl rfl rfl rfl ?_
    refine Zg (.bool (((((x0).Warps).length:Int) == (0:Int)))) rfl rfl ?_
    refine Zb (Zd ?_)
    rcases Zt h with ⟨z2,h⟩ | ⟨z2,h⟩
    ·refine E_ct z2 rfl ?_
     refine Zf (Za (Zg (.int .i64 (7)) rfl rfl ?_))
     refine Zb (Zd (E_ret (blk_r ?_)))
     refine thn_r ?_
     obtain rfl:=sinj h
     exact end1 rfl rfl (show _=.int .i64 (7) from rfl) ⟨_,hfr,rfl⟩
    ·refine E_cf z2 rfl ?_
     refine Zf (Za (EL_p (fPtr p1 0) (Zc at_33_0 rfl (PT.ptr q1)) rfl ?_))
     have y6:=Zm (part_TieHarness_0).1 q1
     refine Ze .plain rfl (D_load (g:=o0) Tryz.isAgg3 Tryz.sizeOf3 rfl y6 fun c8 a7=>?_)
     obtain rfl:=Zj.1 a7
     refine EL_in (.int .i64 ((w64 ((x0).Hooks - (1:Int))))) rfl rfl rfl rfl ?_
     refine EL_p (fPtr p1 1) (Zc at_33_1 rfl (PT.ptr q1)) rfl ?_
     have b7:=Zm (part_TieHarness_1).1 q1
     refine Ze .plain rfl (D_load (g:=o0) Tryz.isAgg26 Tryz.sizeOf26 rfl b7 fun c7 d7=>?_)
     obtain ⟨j3,z4,h⟩:=bsome h
     refine Ze .plain rfl (Zp (g:=o0) (vs:=[.int .i64 (0),.int .i64 ((w64 ((x0).Hooks - (1:Int)))),c7]) en87 (.cons rfl (.cons rfl (.cons rfl .nil))) (wk87 d7 z4) fun e7 i7 e8 hs hr=>?_)
     have hfr:=hfr.ext hs
     subst hr
     refine EL_p (.bool (!j3)) (P_not rfl) rfl ?_
     refine Zg (.bool (!j3)) rfl rfl ?_
     refine Zb (Zd ?_)
     rcases Zt h with ⟨d3,h⟩ | ⟨d3,h⟩
     ·refine E_ct d3 rfl ?_
      refine Zf (Za (Zg (.int .i64 (2)) rfl rfl ?_))
      refine Zb (Zd (E_ret (blk_r ?_)))
      refine thn_r ?_
      obtain rfl:=sinj h
      exact end1 rfl rfl (show _=.int .i64 (2) from rfl) ⟨_,hfr,rfl⟩
     ·refine E_cf d3 rfl ?_
      exact Zu (blk_n (Zd (u3 () _ _ ⟨e7,hfr⟩ h)))
 ·rintro _ j7 g8 ⟨i8, hfr⟩ h
  refine Zf (Za (Zg (.int .i64 (0)) rfl rfl ?_))
  refine Zb (Zd (E_ret ?_))
  obtain rfl:=sinj h
  exact end1 rfl rfl (show _=.int .i64 (0) from rfl) ⟨_,hfr,rfl⟩
def f66 (x0:Design):Option (Int):=
 jn (σ:=Unit) (fun _=>
  some ((0:Int))
  ) fun o3=>
 (f88 ((1:Int)) ((24:Int)) (([(x0).Hooks]:List Int))).bind fun i3=>
 bif (!i3) then
  some ((2:Int))
 else
  bif (decide ((((x0).Rows).length : Int) > (60 : Int))) then
   some ((5:Int))
  else
   bif ((((x0).Rows).length : Int) == (0 : Int)) then
    some ((7:Int))
   else
    (shl64 (1:Int) (x0).Hooks).bind fun u0=>
    (f88 ((0:Int)) ((w64 (u0 - (1:Int)))) ((x0).Rows)).bind fun y71=>
    bif (!y71) then
     some ((2:Int))
    else
     o3 ()
theorem en66:Enters Tryz.prog 66:=enters_of Tryz.func66 (by kernel_rfl) rfl
theorem wk66 {gI:Gh} {wI:World} {x0:Design} {up0:Value} (rp0:RV gI.m wI x0 up0) {r:Int} (h:f66 x0=some r):Fn Tryz.prog 66 #[up0] gI wI (fun _ _ v=>v=.int .i64 (r)):=by
 unfold f66 at h
 refine fn_of_E Tryz.func66 rfl (Nat.le_of_ble_eq_true rfl) fun g0 hm hfr=>?_
 have rp0:RV g0.m wI x0 up0:=hm ▸ rp0
 show E _ 28 none _ _ _ _ _
 refine Zf (Za (Ze .plain rfl (D_box (g:=g0) rfl rp0 fun g1 w1 p1 hs q1=>?_)))
 have hfr:=hfr.ext hs
 refine Zg (.int .i64 (0)) rfl rfl ?_
 refine Zb (Zd (Zq h (fun (s:Unit) e w=>∃ (g:Gh) ,Fr gI wI g w) (fun X51 o3 z3 h=>?_) ?_))
 ·refine Zr ?_
  refine Zf (Za (EL_p (fPtr p1 0) (Zc at_35_0 rfl (PT.ptr q1)) rfl ?_))
  have x5:=Zm (part_Design_0).1 q1
  refine Ze .plain rfl (D_load (g:=g1) Tryz.isAgg3 Tryz.sizeOf3 rfl x5 fun v7 i6=>?_)
  obtain rfl:=Zj.1 i6
  refine Ze .plain rfl (D_buildSlice (g:=g1) 3006 (xs:=([(x0).Hooks]:List Int)) (vs:=[.int .i64 ((x0).Hooks)]) Tryz.underlying26 Tryz.sizeOf3 Tryz.zeroValue3 rfl rfl (.cons rfl .nil) (RVs.cons (Zj.2 rfl) RVs.nil) rfl rfl fun j6 c8 v6 hs o54 x6 hxt hfl=>?_)
  have hfr:=hfr.stp hs
  have q1:=q1.stp hs
  obtain ⟨i3,z4,h⟩:=bsome h
  refine Ze .plain rfl (Zp (g:=j6) (vs:=[.int .i64 (1),.int .i64 (24),v6]) en88 (.cons rfl (.cons rfl (.cons rfl .nil))) (wk88 x6 z4) fun j3 n7 e8 hs hr=>?_)
  have hfr:=hfr.ext hs
  have q1:=q1.ext hs
  subst hr
  refine EL_p (.bool (!i3)) (P_not rfl) rfl ?_
  refine Zg (.bool (!i3)) rfl rfl ?_
  refine Zb (Zd ?_)
  rcases Zt h with ⟨j1,h⟩ | ⟨j1,h⟩
  ·refine E_ct j1 rfl ?_
   refine Zf (Za (Zg (.int .i64 (2)) rfl rfl ?_))
   refine Zb (Zd (E_ret (blk_r ?_)))
   refine thn_r ?_
   obtain rfl:=sinj h
   exact end1 rfl rfl (show _=.int .i64 (2) from rfl) ⟨_,hfr,rfl⟩
  ·refine E_cf j1 rfl ?_
   refine Zf (Za (EL_p (fPtr p1 1) (Zc at_35_1 rfl (PT.ptr q1)) rfl ?_))
   have y6:=Zm (part_Design_1).1 q1
   refine Ze .plain rfl (D_load (g:=j3) Tryz.isAgg26 Tryz.sizeOf26 rfl y6 fun g8 a7=>?_)
   refine EL_p (.int .i64 (((x0).Rows).length:Int)) (P_len Tryz.underlying26 rfl a7) rfl ?_
   refine EL_p (.bool ((decide ((((x0).Rows).length:Int) > (60:Int))))) (P_int rfl rfl rfl) rfl ?_
   refine EL_p (.bool ((decide ((((x0).Rows).length:Int) > (60:Int))))) (P_assign rfl) rfl ?_
   refine Zb (Zd ?_)
   rcases Zt h with ⟨z2,h⟩ | ⟨z2,h⟩
   ·refine E_ct z2 rfl ?_
    refine Zf (Za (Zg (.int .i64 (5)) rfl rfl ?_))
    refine Zb (Zd (E_ret (blk_r ?_)))
    refine thn_r ?_
    obtain rfl:=sinj h
    exact end1 rfl rfl (show _=.int .i64 (5) from rfl) ⟨_,hfr,rfl⟩
   ·refine E_cf z2 rfl ?_
    refine Zf (Za (EL_p (fPtr p1 1) (Zc at_35_1 rfl (PT.ptr q1)) rfl ?_))
    have b7:=Zm (part_Design_1).1 q1
    refine Ze .plain rfl (D_load (g:=j3) Tryz.isAgg26 Tryz.sizeOf26 rfl b7 fun v62 c7=>?_)
    refine EL_p (.int .i64 (((x0).Rows).length:Int)) (P_len Tryz.underlying26 rfl c7) rfl ?_
    refine EL_in (.bool (((((x0).Rows).length:Int) == (0:Int)))) rfl rfl rfl rfl ?_
    refine Zg (.bool (((((x0).Rows).length:Int) == (0:Int)))) rfl rfl ?_
    refine Zb (Zd ?_)
    rcases Zt h with ⟨d3,h⟩ | ⟨d3,h⟩
    ·refine E_ct d3 rfl ?_
     refine Zf (Za (Zg (.int .i64 (7)) rfl rfl ?_))
     refine Zb (Zd (E_ret (blk_r ?_)))
     refine thn_r ?_
     obtain rfl:=sinj h
     exact end1 rfl rfl (show _=.int .i64 (7) from rfl) ⟨_,hfr,rfl⟩
    ·refine E_cf d3 rfl ?_
     refine Zf ?_
     have d7:=Zm (part_Design_0).1 q1
     refine Zs (x:=.tmp 20) Tryz.isAgg3 Tryz.sizeOf3 d7 fun i8 e7 i5=>?_
     obtain rfl:=Zj.1 e7
     obtain ⟨u0,l5,h⟩:=bsome h
     have g7:=Zm (part_Design_1).1 q1
     refine Zs (x:=.tmp 24) Tryz.isAgg26 Tryz.sizeOf26 g7 fun u3 i7 q5=>?_
     obtain ⟨y71,t5,h⟩:=bsome h
     refine E_drawL (g:=j3) (n:=9) [(6,(fun v g w=>v=.bool (y71)))] [0,1,2,3,4,5,6,7,8] rfl mixed (by kernel_rfl) (⟨fun _=>up_eq _,trivial⟩) ?_
     refine L_p (fPtr p1 0) rfl rfl (Zc at_35_0 rfl (PT.ptr q1)) ?_
     refine L_ld (c:=.int .i64 ((x0).Hooks)) rfl rfl .plain (fun _ _ h=>h.ch) i5 rfl ?_
     refine L_p (.int .i64 (u0)) rfl rfl (P_int rfl rfl (congrArg (Option.map (Value.int .i64)) l5)) ?_
     refine L_p (.int .i64 ((w64 (u0 - (1:Int))))) rfl rfl (P_int rfl rfl rfl) ?_
     refine L_p (fPtr p1 1) rfl rfl (Zc at_35_1 rfl (PT.ptr q1)) ?_
     refine L_ld (c:=u3) rfl rfl .plain (fun _ _ h=>h.ch) q5 rfl ?_
     refine L_do (φ:=fun v g w=>v=.bool (y71)) rfl rfl .plain (fun g w hd=>Zp (g:=g) (vs:=[.int .i64 (0),.int .i64 ((w64 (u0 - (1:Int)))),u3]) en88 (.cons rfl (.cons rfl (.cons rfl .nil))) (wk88 (i7.ext hd.1) t5) fun g' w' v hs hr=>⟨g',hs,hr⟩) (fun k8 hv=>?_)
     obtain ⟨_,_,_,rfl⟩:=hv
     refine L_p (.bool (!y71)) rfl rfl (P_not rfl) ?_
     refine L_p (.bool (!y71)) rfl rfl (P_assign rfl) ?_
     refine L_nl fun j7 l8 hs=>?_
     have hfr:=hfr.ext hs
     clear hs
     refine Zb (Zd ?_)
     rcases Zt h with ⟨o0,h⟩ | ⟨o0,h⟩
     ·refine E_ct o0 rfl ?_
      refine Zf (Za (Zg (.int .i64 (2)) rfl rfl ?_))
      refine Zb (Zd (E_ret (blk_r ?_)))
      refine thn_r ?_
      obtain rfl:=sinj h
      exact end1 rfl rfl (show _=.int .i64 (2) from rfl) ⟨_,hfr,rfl⟩
     ·refine E_cf o0 rfl ?_
      exact Zu (blk_n (Zd (z3 () _ _ ⟨j7,hfr⟩ h)))
 ·rintro _ m7 o7 ⟨u7, hfr⟩ h
  refine Zf (Za (Zg (.int .i64 (0)) rfl rfl ?_))
  refine Zb (Zd (E_ret ?_))
  obtain rfl:=sinj h
  exact end1 rfl rfl (show _=.int .i64 (0) from rfl) ⟨_,hfr,rfl⟩
def f67 (x0:Int) (x1:Int) (x2:List Int):Option (Bool):=
 (f76 x2 ((fun a0=>f89 a0 x0 x1))).bind fun y4=>
 some ((!y4))
theorem en67:Enters Tryz.prog 67:=enters_of Tryz.func67 (by kernel_rfl) rfl
theorem wk67 {gI:Gh} {wI:World} {x0:Int} {x1:Int} {x2:List Int} {up2:Value} (rp2:RV gI.m wI x2 up2) {r:Bool} (h:f67 x0 x1 x2=some r):Fn Tryz.prog 67 #[.int .i64 (x0),.int .i64 (x1),up2] gI wI (fun _ _ v=>v=.bool (r)):=by
 unfold f67 at h
 refine fn_of_E Tryz.func67 rfl (Nat.le_of_ble_eq_true rfl) fun g0 hm hfr=>?_
 have rp2:RV g0.m wI x2 up2:=hm ▸ rp2
 show E _ 11 none _ _ _ _ _
 refine Zf (Za (Ze .plain rfl (D_box (g:=g0) rfl (Zj.2 rfl) fun g1 w1 p1 hs q1=>?_)))
 have hfr:=hfr.ext hs
 have rp2:=rp2.ext hs
 refine Ze .plain rfl (D_box (g:=g1) rfl (Zj.2 rfl) fun g2 w2 p2 hs q2=>?_)
 have hfr:=hfr.ext hs
 have rp2:=rp2.ext hs
 have q1:=q1.ext hs
 refine Zg (.bool false) rfl rfl ?_
 refine Zb (Zd (Zf (Za (Zn up2 rfl rfl ?_))))
 refine EL_p ((.func (.func 89) #[] #[p1,p2])) (P_makeFunc (capf_0_2 (show ev _ _=p1 from rfl) (show ev _ _=p2 from rfl))) rfl ?_
 obtain ⟨y4,o0,h⟩:=bsome h
 refine Ze .plain rfl (Zp (g:=g2) (vs:=[up2,(.func (.func 89) #[] #[p1,p2])]) en76 (.cons rfl (.cons rfl .nil)) (wk76 rp2 ⟨89,#[],#[p1,p2],rfl,en89,fun g' w' hch a0 b0 r hu0 hr=>by obtain rfl:=Zj.1 hu0; exact Fn.mono (wk89  (q1.ch hch) (q2.ch hch) hr) fun _ _ _ h=>RV_bool.2 h⟩ o0) fun g3 w3_ v3 hs hr=>?_)
 have hfr:=hfr.ext hs
 subst hr
 refine EL_p (.bool (!y4)) (P_not rfl) rfl ?_
 refine Zg (.bool (!y4)) rfl rfl ?_
 refine Zb (Zd (E_ret ?_))
 obtain rfl:=sinj h
 exact end1 rfl rfl (show _=.bool (!y4) from rfl) ⟨_,hfr,rfl⟩
end Go.Proofs.YtomjodbnpgbjnaaGreat
