import Derived.Test.YtjoniingnbmljaaCode1
set_option maxRecDepth 8000
set_option maxHeartbeats 4000000
namespace Go.Proofs.Ytjoniingnbmljaa
open Go.RowKit
def f140 (x0:BoxPoint) (x1:List (List Int)) (x2:BoxStep):Option (BoxPoint × Bool):=
 jn (σ:=BoxPoint × BoxPoint) (fun (dB,aD)=>
  some (dB,false)
  ) fun bD=>
 (idx x1 (x0).group).bind fun i6=>
 lp (σ:=BoxPoint × BoxPoint × Int) (fun cD (u3,i7,o0)=>
  bif (decide (o0 < ((i6).length : Int))) then
   jn (σ:=BoxPoint × BoxPoint) (fun (l9,n9)=>
    cD (l9,n9,(w64 (o0 + (1:Int))))
    ) fun eD=>
   (idx i6 o0).bind fun k8=>
   Option.bind (α:=Bool) (
    bif (k8 == (x2).colour) then
     (shr64 (u3).done o0).bind fun y180=>
     some (((bit64 .and y180 (1:Int)) == (0:Int)))
    else
     some (false)
    ) fun m7=>
   bif m7 then
    (shl64 (1:Int) o0).bind fun rA=>
    (f217 ({ { u3 with done:=(bit64 .or (u3).done rA) } with race:=(x2).next }) x1).bind fun gD=>
    some (gD,true)
   else
    eD (u3,i7)
  else
   bD (u3,i7)
  ) big (x0,(⟨0,0,⟨(⟨List.toArray [(⟨List.toArray [0,0,0,0],rfl⟩:Vector Int 4),(⟨List.toArray [0,0,0,0],rfl⟩:Vector Int 4)],rfl⟩:Vector (Vector Int 4) 2),⟨0,0⟩⟩⟩:BoxPoint),(0:Int))
theorem en140:Enters Try.prog 140:=enters_of Try.func140 (by kernel_rfl) rfl
theorem wk140 {gI:Gh} {wI:World} {x0:BoxPoint} {x1:List (List Int)} {x2:BoxStep} {up0:Value} (rp0:RV gI.m wI x0 up0) {up1:Value} (rp1:RV gI.m wI x1 up1) {up2:Value} (rp2:RV gI.m wI x2 up2) {r:BoxPoint × Bool} (h:f140 x0 x1 x2=some r):Fn Try.prog 140 #[up0,up1,up2] gI wI (fun m w v=>∃ y0 y1,v=.tuple #[y0,y1]∧RV m w (r.1) y0∧y1=.bool (r.2)):=by
 unfold f140 at h
 refine fn_of_E Try.func140 rfl (Nat.le_of_ble_eq_true rfl) fun g0 hm hfr=>?_
 have rp0:RV g0.m wI x0 up0:=hm ▸ rp0
 have rp1:RV g0.m wI x1 up1:=hm ▸ rp1
 have rp2:RV g0.m wI x2 up2:=hm ▸ rp2
 show E _ 47 none _ _ _ _ _
 refine Zf (Za (Ze .plain rfl (D_boxO (g:=g0) 2003 rfl rp0 fun g1 w1 p1 hs b1=>?_)))
 have hfr:=hfr.stp hs
 have rp1:=rp1.stp hs
 have rp2:=rp2.stp hs
 refine Ze .plain rfl (D_box (g:=g1) rfl rp2 fun g2 w2 p2 hs q2=>?_)
 have hfr:=hfr.ext hs
 have rp1:=rp1.ext hs
 have b1:=b1.ext hs
 refine Ze .plain rfl (D_allocOc (g:=g2) 2006 (⟨0,0,⟨(⟨List.toArray [(⟨List.toArray [0,0,0,0],rfl⟩:Vector Int 4),(⟨List.toArray [0,0,0,0],rfl⟩:Vector Int 4)],rfl⟩:Vector (Vector Int 4) 2),⟨0,0⟩⟩⟩:BoxPoint) Try.zeroValue157 (fun m w=>⟨_,(rep_two Zy (rep_two Zy (rep_two (rep_vec (Zx (rep_vec (Zx Zy (Zx Zy (Zx Zy (Zx Zy flat_nil)))) rfl) (Zx (rep_vec (Zx Zy (Zx Zy (Zx Zy (Zx Zy flat_nil)))) rfl) flat_nil)) rfl) (rep_two Zy Zy)))),rfl⟩) fun g3 w3 p3 hs b3 cb=>?_)
 have hfr:=hfr.stp hs
 have rp1:=rp1.stp hs
 have b1:=b1.stp hs rfl
 have q2:=q2.stp hs
 clear cb
 refine Zg (.bool false) rfl rfl ?_
 refine Zb (Zd (Zq h (fun (s:BoxPoint × BoxPoint) e w=>∃ (g:Gh) ,Fr gI wI g w∧e 3=p1∧OB 2003 g w 157 (s.1:BoxPoint) p1∧e 6=p3∧OB 2006 g w 157 (s.2:BoxPoint) p3) (fun X109 bD oE h=>?_) ?_))
 ·refine Zf (Za (Zn up1 rfl rfl ?_))
  refine Ga (fPtr p1 0) (Zc at_157_0 rfl (OB.ptr b1)) rfl ?_
  refine Ze .plain rfl (D_loadF (g:=g3) part_BoxPoint_0.1 Try.isAgg3 Try.sizeOf3 rfl b1 fun aH eF=>?_)
  obtain rfl:=Zj.1 eF
  obtain ⟨i6,tB,h⟩:=Ge h
  refine Ga (ePtr up1 (x0).group 1) (Zh (α:=List Int) Try.underlying146 Try.sizeOf26 rfl rp1 rfl tB) rfl ?_
  have rF:=PT_idx rp1 tB
  refine Ze .plain rfl (D_load (g:=g3) Try.isAgg26 Try.sizeOf26 rfl rF fun r8 iD=>?_)
  refine Ga (.int .i64 ((i6).length:Int)) (P_len Try.underlying26 rfl iD) rfl ?_
  refine Zn (.int .i64 (0)) rfl rfl ?_
  refine Zb (Zd (Zr ?_))
  refine E_lp h (fun (s:BoxPoint × BoxPoint × Int) e w=>∃ (g:Gh) ,Fr gI wI g w∧e 1=up1∧RV g.m w (x1:List (List Int)) up1∧e 3=p1∧OB 2003 g w 157 (s.1:BoxPoint) p1∧e 5=p2∧PT g.m w (x2:BoxStep) p2∧e 6=p3∧OB 2006 g w 157 (s.2.1:BoxPoint) p3∧e 14=r8∧RV g.m w (i6:List Int) r8∧e 15=.int .i64 (((i6).length:Int))∧e 16=.int .i64 (s.2.2)) ⟨g3,hfr,rfl,rp1,rfl,b1,rfl,q2,rfl,b3,rfl,iD,rfl,rfl⟩ (fun X115 cD rE=>?_)
  rintro ⟨u3,i7,o0⟩ mG cH ⟨a9,hfr,iB,lB,v8,l8,u9,x8,y9,z9,d9,n8,k9,g8⟩ h
  refine Zf (Za (EL_in (.bool ((decide (o0 < ((i6).length:Int))))) g8 k9 rfl rfl ?_))
  refine Zb (Zd (Zf ?_))
  rcases Zt h with ⟨yA,h⟩ | ⟨yA,h⟩
  ·refine E_ct yA rfl ?_
   refine Zu (Zd (Zq h (fun (s:BoxPoint × BoxPoint) e w=>∃ (g:Gh) ,Fr gI wI g w∧e 1=up1∧RV g.m w (x1:List (List Int)) up1∧e 3=p1∧OB 2003 g w 157 (s.1:BoxPoint) p1∧e 5=p2∧PT g.m w (x2:BoxStep) p2∧e 6=p3∧OB 2006 g w 157 (s.2:BoxPoint) p3∧e 14=r8∧RV g.m w (i6:List Int) r8∧e 15=.int .i64 (((i6).length:Int))∧e 16=.int .i64 (o0)) (fun X165 eD uE h=>?_) ?_))
   ·refine Zr ?_
    refine Zf (Za (Zo g8 rfl ?_))
    obtain ⟨k8,vB,h⟩:=Ge h
    refine Ga (ePtr r8 o0 1) (Zh (α:=Int) Try.underlying26 Try.sizeOf3 d9 n8 g8 vB) rfl ?_
    have sF:=PT_idx n8 vB
    refine Ze .plain rfl (D_load (g:=a9) Try.isAgg3 Try.sizeOf3 rfl sF fun dH tF=>?_)
    obtain rfl:=Zj.1 tF
    refine Zg (.int .i64 (o0)) rfl rfl ?_
    refine Zg (.int .i64 (k8)) rfl rfl ?_
    refine Zb (Zd ?_)
    obtain ⟨m7,hx,h⟩:=Ge h
    refine E_join (fun e w=>∃ (g:Gh) ,Fr gI wI g w∧e 1=up1∧RV g.m w (x1:List (List Int)) up1∧e 3=p1∧OB 2003 g w 157 (u3:BoxPoint) p1∧e 5=p2∧PT g.m w (x2:BoxStep) p2∧e 6=p3∧OB 2006 g w 157 (i7:BoxPoint) p3∧e 8=.int .i64 (o0)∧e 14=r8∧RV g.m w (i6:List Int) r8∧e 15=.int .i64 (((i6).length:Int))∧e 16=.int .i64 (o0)∧e 32=.bool (m7)) (fun Q' hQ=>?_) (fun sG gH hR=>?_)
    ·replace h := hx
     clear hx
     refine Za (Zn (.int .i64 (k8)) rfl rfl ?_)
     refine Ga (fPtr p2 10) (Zc at_279_1 u9 (PT.ptr x8)) rfl ?_
     have uF:=Zm (part_BoxStep_1).1 x8
     refine Ze .plain rfl (D_load (g:=a9) Try.isAgg3 Try.sizeOf3 rfl uF fun iH vF=>?_)
     obtain rfl:=Zj.1 vF
     refine EL_in (.bool ((k8 == (x2).colour))) rfl rfl rfl rfl ?_
     refine Zn (.bool ((k8 == (x2).colour))) rfl rfl ?_
     rcases Zt h with ⟨t5,h⟩ | ⟨t5,h⟩
     ·refine Gb (fPtr p1 1) (Zc at_157_1 v8 (OB.ptr l8)) rfl rfl t5 rfl ?_
      refine Ze (.yes2 rfl rfl t5) rfl (D_loadF (g:=a9) part_BoxPoint_1.1 Try.isAgg3 Try.sizeOf3 rfl l8 fun jH xF=>?_)
      obtain rfl:=Zj.1 xF
      refine Gb (.int .i64 (o0)) (Zk rfl) rfl rfl t5 rfl ?_
      obtain ⟨y180,vE,h⟩:=Ge h
      refine Gb (.int .i64 (y180)) (P_int rfl rfl (congrArg (Option.map (Value.int .i64)) vE)) rfl rfl t5 rfl ?_
      refine Gb (.int .i64 ((bit64 .and y180 (1:Int)))) (P_int rfl rfl rfl) rfl rfl t5 rfl ?_
      refine Gb (.bool (((bit64 .and y180 (1:Int)) == (0:Int)))) (P_int rfl rfl rfl) rfl rfl t5 rfl ?_
      refine Ga (.bool (((bit64 .and y180 (1:Int)) == (0:Int)))) (Zl (b:=(k8 == (x2).colour)) rfl (pick_t t5 rfl)) rfl ?_
      refine Zb ?_
      obtain rfl:=sinj h
      exact hQ _ _ ⟨a9,hfr,iB,lB,v8,l8,u9,x8,y9,z9,rfl,d9,n8,k9,g8,rfl⟩
     ·refine Gc rfl rfl t5 rfl rfl ?_
      iterate 5 refine Gc rfl rfl t5 rfl rfl ?_
      refine Ga (.bool false) (Zl (b:=(k8 == (x2).colour)) rfl (pick_f t5 rfl)) rfl ?_
      refine Zb ?_
      obtain rfl:=sinj h
      exact hQ _ _ ⟨a9,hfr,iB,lB,v8,l8,u9,x8,y9,z9,rfl,d9,n8,k9,g8,rfl⟩
    ·clear hx
     obtain ⟨jD,hfr,mB,x5,m8,x6,nB,y6,bA,l5,lD,yB,zB,cC,mC,iA⟩:=hR
     rcases Zt h with ⟨aB,h⟩ | ⟨aB,h⟩
     ·refine E_cond_true (Eq.trans (show ev _ _ = .bool (m7) from iA) (congrArg Value.bool aB)) ?_
      refine Zf (L_loadO (x:=.tmp 33) part_BoxPoint_1.1 Try.isAgg3 Try.sizeOf3 x6 fun kH yF xE=>?_)
      obtain rfl:=Zj.1 yF
      obtain ⟨rA,yE,h⟩:=Ge h
      refine E_drawL (g:=jD) (n:=6) [] [0,1,2,3,4,5] rfl mixed (by kernel_rfl) trivial ?_
      refine Gd (fPtr p1 1) rfl rfl (Zc at_157_1 m8 (OB.ptr x6)) ?_
      refine L_ld (c:=.int .i64 ((u3).done)) rfl rfl .plain (fun _ _ h=>⟨h.ch,fun b hb _=>h.below.block b hb⟩) xE rfl ?_
      refine Gd (.int .i64 (o0)) rfl rfl (Zk lD) ?_
      refine Gd (.int .i64 (rA)) rfl rfl (P_int rfl rfl (congrArg (Option.map (Value.int .i64)) yE)) ?_
      refine Gd (.int .i64 ((bit64 .or (u3).done rA))) rfl rfl (P_int rfl rfl rfl) ?_
      refine Gd (fPtr p1 1) rfl rfl (Zc at_157_1 m8 (OB.ptr x6)) ?_
      refine L_nl fun zF lH hs=>?_
      have hfr:=hfr.ext hs
      have x5:=x5.ext hs
      have x6:=x6.ext hs
      have y6:=y6.ext hs
      have l5:=l5.ext hs
      clear hs
      refine Ze .plain rfl (D_storeFc (g:=zF) part_BoxPoint_1 Try.sizeOf3 rfl x6 rfl (Zj.2 rfl) fun nD mH hs b203 rst hos=>?_)
      clear rst hos
      have hfr:=hfr.stp hs
      have x5:=x5.stp hs
      have y6:=y6.stp hs
      have l5:=l5.stp hs rfl
      refine Zb (Zd (Zf (Za (Ga (fPtr p2 0) (Zc at_279_0 nB (PT.ptr y6)) rfl ?_))))
      have aG:=Zm (part_BoxStep_0).1 y6
      refine Ze .plain rfl (D_load (g:=nD) Try.isAgg153 Try.sizeOf153 rfl aG fun nH bG=>?_)
      refine Ga (fPtr p1 2) (Zc at_157_2 m8 (OB.ptr b203)) rfl ?_
      refine Ze .plain rfl (D_storeFc (g:=nD) part_BoxPoint_2 Try.sizeOf153 rfl b203 rfl bG fun oD oH hs b207 rst hos=>?_)
      clear rst hos
      have hfr:=hfr.stp hs
      have x5:=x5.stp hs
      have l5:=l5.stp hs rfl
      refine Zb (Zd (Zf (Za (Ze .plain rfl (D_loadO (g:=oD) Try.isAgg157 Try.sizeOf157 m8 b207 fun cG eG=>?_)))))
      refine Zo mB rfl ?_
      obtain ⟨gD,zE,h⟩:=Ge h
      refine Ze .plain rfl (Zp (g:=oD) (vs:=[cG,up1]) en217 (.cons rfl (.cons rfl .nil)) (wk217 eG x5 zE) fun gG xG hG hs hr=>?_)
      have hfr:=hfr.ext hs
      have l5:=l5.ext hs
      have iG:=hr
      refine Ze .plain rfl (D_storeOc (g:=gG) (v:=hG) Try.sizeOf157 bA l5 rfl iG fun pH qH hs b211 cb=>?_)
      clear cb
      have hfr:=hfr.stp hs
      refine Zg (.bool true) rfl rfl ?_
      refine Zb (Zd (E_ret (blk_r ?_)))
      refine thn_r ?_
      refine thn_r ?_
      refine blk_r ?_
      refine thn_r ?_
      obtain rfl:=sinj h
      obtain ⟨ad212,cv212,hp212,cF,cr212⟩:=ob_read Try.isAgg157 Try.sizeOf157 b211
      exact endm_ct rfl rfl ((show _=p3 from bA).trans hp212) cF (show _=.bool true from rfl) ⟨_,hfr,_,_,rfl,cr212,rfl⟩
     ·refine E_cond_false (Eq.trans (show ev _ _ = .bool (m7) from iA) (congrArg Value.bool aB)) ?_
      exact Zu (blk_n (Zd (uE (u3,i7) _ _ ⟨jD,hfr,mB,x5,m8,x6,nB,y6,bA,l5,yB,zB,cC,mC⟩ h)))
   ·rintro ⟨l9, n9⟩ yG sH ⟨jG, hfr, sD, tD, uD, vD, xD, yD, zD, aE, qC, rC, uC, vC⟩ h
    refine Za (EL_in (.int .i64 ((w64 (o0 + (1:Int))))) vC rfl rfl rfl ?_)
    refine Zn (.int .i64 ((w64 (o0 + (1:Int))))) rfl rfl ?_
    exact Zb (Zd (rE (l9,n9,(w64 (o0 + (1:Int)))) _ _ ⟨jG,hfr,sD,tD,uD,vD,xD,yD,zD,aE,qC,rC,uC,rfl⟩ h))
  ·refine E_cf yA rfl ?_
   refine E_exit ?_
   refine thn_e ?_
   refine thn_e ?_
   refine blk_hit ?_
   exact Zd (oE (u3,i7) _ _ ⟨a9,hfr,v8,l8,y9,z9⟩ h)
 ·rintro ⟨dB, aD⟩ zG tH ⟨bE, hfr, iE, lE, oB, mE⟩ h
  refine Zf (Za (Ze .plain rfl (D_loadO (g:=bE) Try.isAgg157 Try.sizeOf157 iE lE fun kG lG=>?_)))
  refine Ze .plain rfl (D_storeOc (g:=bE) (v:=kG) Try.sizeOf157 oB mE rfl lG fun uH xH hs b216 cb=>?_)
  clear cb
  have hfr:=hfr.stp hs
  refine Zg (.bool false) rfl rfl ?_
  refine Zb (Zd (E_ret ?_))
  obtain rfl:=sinj h
  obtain ⟨ad217,cv217,hp217,dF,cr217⟩:=ob_read Try.isAgg157 Try.sizeOf157 b216
  exact endm_ct rfl rfl ((show _=p3 from oB).trans hp217) dF (show _=.bool false from rfl) ⟨_,hfr,_,_,rfl,cr217,rfl⟩
def f147 (x0:Zv) (x1:Zv):Option (Int):=
 (f148 ((x0).Kind)).bind fun y6=>
 (f148 ((x1).Kind)).bind fun o0=>
 some ((w64 (y6 - o0)))
theorem en147:Enters Try.prog 147:=enters_of Try.func147 (by kernel_rfl) rfl
theorem wk147 {gI:Gh} {wI:World} {x0:Zv} {x1:Zv} {up0:Value} (rp0:RV gI.m wI x0 up0) {up1:Value} (rp1:RV gI.m wI x1 up1) {r:Int} (h:f147 x0 x1=some r):Fn Try.prog 147 #[up0,up1] gI wI (fun _ _ v=>v=.int .i64 (r)):=by
 unfold f147 at h
 refine fn_of_E Try.func147 rfl (Nat.le_of_ble_eq_true rfl) fun g0 hm hfr=>?_
 have rp0:RV g0.m wI x0 up0:=hm ▸ rp0
 have rp1:RV g0.m wI x1 up1:=hm ▸ rp1
 show E _ 12 none _ _ _ _ _
 refine Zf (Za (Ze .plain rfl (D_box (g:=g0) rfl rp0 fun g1 w1 p1 hs q1=>?_)))
 have hfr:=hfr.ext hs
 have rp1:=rp1.ext hs
 refine Ze .plain rfl (D_box (g:=g1) rfl rp1 fun g2 w2 p2 hs q2=>?_)
 have hfr:=hfr.ext hs
 have q1:=q1.ext hs
 refine Zg (.int .i64 (0)) rfl rfl ?_
 refine Zb (Zd (Zf ?_))
 have q3:=Zm (part_FaultDamage_0).1 q1
 refine Zs (x:=.tmp 5) Try.isAgg54 Try.sizeOf54 q3 fun v4 r4 l5=>?_
 obtain rfl:=Zj.1 r4
 obtain ⟨y6,t5,h⟩:=Ge h
 have q7:=Zm (part_FaultDamage_0).1 q2
 refine Zs (x:=.tmp 8) Try.isAgg54 Try.sizeOf54 q7 fun v8 r8 x5=>?_
 obtain rfl:=Zj.1 r8
 obtain ⟨o0,u3,h⟩:=Ge h
 refine E_drawL (g:=g2) (n:=8) [(2,(fun v g w=>v=.int .i64 (y6))),(5,(fun v g w=>v=.int .i64 (o0)))] [0,1,2,3,4,5,6,7] rfl mixed (by kernel_rfl) (⟨fun _=>up_eq _,fun _=>up_eq _,trivial⟩) ?_
 refine Gd (fPtr p1 0) rfl rfl (Zc at_56_0 rfl (PT.ptr q1)) ?_
 refine L_ld (c:=.int .i64 ((x0).Kind)) rfl rfl .plain (fun _ _ h=>h.ch) l5 rfl ?_
 refine L_do (φ:=fun v g w=>v=.int .i64 (y6)) rfl rfl .plain (fun g w hd=>Zp (g:=g) (vs:=[.int .i64 ((x0).Kind)]) en148 (.cons rfl .nil) (wk148  t5) fun g' w' v hs hr=>⟨g',hs,hr⟩) (fun v5 hv=>?_)
 obtain ⟨_,_,_,rfl⟩:=hv
 refine Gd (fPtr p2 0) rfl rfl (Zc at_56_0 rfl (PT.ptr q2)) ?_
 refine L_ld (c:=.int .i64 ((x1).Kind)) rfl rfl .plain (fun _ _ h=>h.ch) x5 rfl ?_
 refine L_do (φ:=fun v g w=>v=.int .i64 (o0)) rfl rfl .plain (fun g w hd=>Zp (g:=g) (vs:=[.int .i64 ((x1).Kind)]) en148 (.cons rfl .nil) (wk148  u3) fun g' w' v hs hr=>⟨g',hs,hr⟩) (fun v9 hv=>?_)
 obtain ⟨_,_,_,rfl⟩:=hv
 refine Gd (.int .i64 ((w64 (y6 - o0)))) rfl rfl (P_int rfl rfl rfl) ?_
 refine Gd (.int .i64 ((w64 (y6 - o0)))) rfl rfl (P_assign rfl) ?_
 refine L_nl fun i6 x6 hs=>?_
 have hfr:=hfr.ext hs
 clear hs
 refine Zb (Zd (E_ret ?_))
 obtain rfl:=sinj h
 exact end1 rfl rfl (show _=.int .i64 ((w64 (y6 - o0))) from rfl) ⟨_,hfr,rfl⟩
def f150 (x0:List Str) (x1:List Str):Option (It (Int × Int)):=
 some ((fun σ cons s=>f229 x0 x1 σ cons s))
theorem en150:Enters Try.prog 150:=enters_of Try.func150 (by kernel_rfl) rfl
theorem wk150 {gI:Gh} {wI:World} {x0:List Str} {x1:List Str} {up0:Value} (rp0:RV gI.m wI x0 up0) {up1:Value} (rp1:RV gI.m wI x1 up1) {r:It (Int × Int)} (h:f150 x0 x1=some r):Fn Try.prog 150 #[up0,up1] gI wI (fun m w v=>ItV Try.prog (RA2 (α:=Int) (β:=Int)) (r) v m w):=by
 unfold f150 at h
 refine fn_of_E Try.func150 rfl (Nat.le_of_ble_eq_true rfl) fun g0 hm hfr=>?_
 have rp0:RV g0.m wI x0 up0:=hm ▸ rp0
 have rp1:RV g0.m wI x1 up1:=hm ▸ rp1
 show E _ 6 none _ _ _ _ _
 refine Zf (Za (Ze .plain rfl (D_box (g:=g0) rfl rp0 fun g1 w1 p1 hs q1=>?_)))
 have hfr:=hfr.ext hs
 have rp1:=rp1.ext hs
 refine Ze .plain rfl (D_box (g:=g1) rfl rp1 fun g2 w2 p2 hs q2=>?_)
 have hfr:=hfr.ext hs
 have q1:=q1.ext hs
 refine Zg (.nilFunc) rfl rfl ?_
 refine Zb (Zd (Zf (Za (Ga ((.func (.func 229) #[] #[p1,p2])) (P_makeFunc (capf_0_2 (show ev _ _=p1 from rfl) (show ev _ _=p2 from rfl))) rfl ?_))))
 refine Zg ((.func (.func 229) #[] #[p1,p2])) rfl rfl ?_
 refine Zb (Zd (E_ret ?_))
 obtain rfl:=sinj h
 exact end1 rfl rfl (show _=(.func (.func 229) #[] #[p1,p2]) from rfl) ⟨_,hfr,(show ItV Try.prog (RA2 (α:=Int) (β:=Int)) (fun σ cons s=>f229 x0 x1 σ cons s) ((.func (.func 229) #[] #[p1,p2])) g2.m w2 from ⟨229,#[],#[p1,p2],rfl,en229,fun g' w' hch σ cons s s' h=>wk229  (q1.ch hch) (q2.ch hch) h⟩)⟩
def f184 (x0:Int) (x1:Int) (x2:List Int):Option (Bool):=
 (f165 x2 ((fun a0=>f241 a0 x0 x1))).bind fun y4=>
 some ((!y4))
theorem en184:Enters Try.prog 184:=enters_of Try.func184 (by kernel_rfl) rfl
theorem wk184 {gI:Gh} {wI:World} {x0:Int} {x1:Int} {x2:List Int} {up2:Value} (rp2:RV gI.m wI x2 up2) {r:Bool} (h:f184 x0 x1 x2=some r):Fn Try.prog 184 #[.int .i64 (x0),.int .i64 (x1),up2] gI wI (fun _ _ v=>v=.bool (r)):=by
 unfold f184 at h
 refine fn_of_E Try.func184 rfl (Nat.le_of_ble_eq_true rfl) fun g0 hm hfr=>?_
 have rp2:RV g0.m wI x2 up2:=hm ▸ rp2
 show E _ 11 none _ _ _ _ _
 refine Zf (Za (Ze .plain rfl (D_box (g:=g0) rfl (Zj.2 rfl) fun g1 w1 p1 hs q1=>?_)))
 have hfr:=hfr.ext hs
 have rp2:=rp2.ext hs
 refine Ze .plain rfl (D_box (g:=g1) rfl (Zj.2 rfl) fun g2 w2 p2 hs q2=>?_)
 have hfr:=hfr.ext hs
 have rp2:=rp2.ext hs
 have q1:=q1.ext hs
 refine Zg (.bool false) rfl rfl ?_
 refine Zb (Zd (Zf (Za (Zn up2 rfl rfl ?_))))
 refine Ga ((.func (.func 241) #[] #[p1,p2])) (P_makeFunc (capf_0_2 (show ev _ _=p1 from rfl) (show ev _ _=p2 from rfl))) rfl ?_
 obtain ⟨y4,o0,h⟩:=Ge h
 refine Ze .plain rfl (Zp (g:=g2) (vs:=[up2,(.func (.func 241) #[] #[p1,p2])]) en165 (.cons rfl (.cons rfl .nil)) (wk165 rp2 ⟨241,#[],#[p1,p2],rfl,en241,fun g' w' hch a0 b0 r hu0 hr=>by obtain rfl:=Zj.1 hu0; exact Fn.mono (wk241  (q1.ch hch) (q2.ch hch) hr) fun _ _ _ h=>RV_bool.2 h⟩ o0) fun g3 w3_ v3 hs hr=>?_)
 have hfr:=hfr.ext hs
 subst hr
 refine Ga (.bool (!y4)) (P_not rfl) rfl ?_
 refine Zg (.bool (!y4)) rfl rfl ?_
 refine Zb (Zd (E_ret ?_))
 obtain rfl:=sinj h
 exact end1 rfl rfl (show _=.bool (!y4) from rfl) ⟨_,hfr,rfl⟩
def f216 (x0:BoxRace) (x1:BoxPick):Option (BoxRace × Int × Int):=
 (idx ((x0).boxes).toList (0:Int)).bind fun y7=>
 (idx (y7).toList (x1).Left).bind fun y9=>
 (idx ((x0).boxes).toList (1:Int)).bind fun rA=>
 (idx (rA).toList (x1).Right).bind fun l5=>
 jn (σ:=BoxRace) (fun bA=>
  (f267 (((x0).at_).Left) ((x1).Left)).bind fun i6=>
  (f267 (((x0).at_).Right) ((x1).Right)).bind fun x6=>
  (idx ((x0).boxes).toList (0:Int)).bind fun yA=>
  (idx (yA).toList (x1).Left).bind fun iD=>
  (idx (({ x0 with boxes:=(vmod ((x0).boxes) ((0:Int)) (fun b=>(vset b ((x1).Left) l5))) }).boxes).toList (1:Int)).bind fun aB=>
  (idx (aB).toList (x1).Right).bind fun mB=>
  some ({ { { x0 with boxes:=(vmod ((x0).boxes) ((0:Int)) (fun b=>(vset b ((x1).Left) l5))) } with boxes:=(vmod (({ x0 with boxes:=(vmod ((x0).boxes) ((0:Int)) (fun b=>(vset b ((x1).Left) l5))) }).boxes) ((1:Int)) (fun b=>(vset b ((x1).Right) y9))) } with at_:=x1 },(w64 (y9 + l5)),(w64 (i6 + x6)))
  ) fun dB=>
 bif ((y9 == (0 : Int)) == (l5 == (0 : Int))) then
  some (x0,(0:Int),(0:Int))
 else
  dB ((⟨(⟨List.toArray [(⟨List.toArray [0,0,0,0],rfl⟩:Vector Int 4),(⟨List.toArray [0,0,0,0],rfl⟩:Vector Int 4)],rfl⟩:Vector (Vector Int 4) 2),⟨0,0⟩⟩:BoxRace))
theorem en216:Enters Try.prog 216:=enters_of Try.func216 (by kernel_rfl) rfl
theorem wk216 {gI:Gh} {wI:World} {x0:BoxRace} {x1:BoxPick} {up0:Value} (rp0:RV gI.m wI x0 up0) {up1:Value} (rp1:RV gI.m wI x1 up1) {r:BoxRace × Int × Int} (h:f216 x0 x1=some r):Fn Try.prog 216 #[up0,up1] gI wI (fun m w v=>∃ y0 y1 y2,v=.tuple #[y0,y1,y2]∧RV m w (r.1) y0∧y1=.int .i64 (r.2.1)∧y2=.int .i64 (r.2.2)):=by
 unfold f216 at h
 refine fn_of_E Try.func216 rfl (Nat.le_of_ble_eq_true rfl) fun g0 hm hfr=>?_
 have rp0:RV g0.m wI x0 up0:=hm ▸ rp0
 have rp1:RV g0.m wI x1 up1:=hm ▸ rp1
 show E _ 59 none _ _ _ _ _
 refine Zf (Za (Ze .plain rfl (D_boxO (g:=g0) 2002 rfl rp0 fun g1 w1 p1 hs b1=>?_)))
 have hfr:=hfr.stp hs
 have rp0:=rp0.stp hs
 have rp1:=rp1.stp hs
 refine Ze .plain rfl (D_box (g:=g1) rfl rp1 fun g2 w2 p2 hs q2=>?_)
 have hfr:=hfr.ext hs
 have rp0:=rp0.ext hs
 have rp1:=rp1.ext hs
 have b1:=b1.ext hs
 refine Ze .plain rfl (D_allocOc (g:=g2) 2004 (⟨(⟨List.toArray [(⟨List.toArray [0,0,0,0],rfl⟩:Vector Int 4),(⟨List.toArray [0,0,0,0],rfl⟩:Vector Int 4)],rfl⟩:Vector (Vector Int 4) 2),⟨0,0⟩⟩:BoxRace) Try.zeroValue153 (fun m w=>⟨_,(rep_two (rep_vec (Zx (rep_vec (Zx Zy (Zx Zy (Zx Zy (Zx Zy flat_nil)))) rfl) (Zx (rep_vec (Zx Zy (Zx Zy (Zx Zy (Zx Zy flat_nil)))) rfl) flat_nil)) rfl) (rep_two Zy Zy)),rfl⟩) fun g3 w3 p3 hs b3 cb=>?_)
 have hfr:=hfr.stp hs
 have rp0:=rp0.stp hs
 have rp1:=rp1.stp hs
 have b1:=b1.stp hs rfl
 have q2:=q2.stp hs
 clear cb
 refine Zg (.int .i64 (0)) rfl rfl ?_
 refine Zg (.int .i64 (0)) rfl rfl ?_
 refine Zb (Zd (Zf ?_))
 have q4:=Zm (part_BoxPick_0).1 q2
 refine Zs (x:=.tmp 9) Try.isAgg3 Try.sizeOf3 q4 fun v5 r5 jD=>?_
 obtain rfl:=Zj.1 r5
 obtain ⟨y7,iB,h⟩:=Ge h
 obtain ⟨hi8,he8⟩:=vat_idx iB
 obtain ⟨y9,lB,h⟩:=Ge h
 obtain ⟨hi10,he10⟩:=vat_idx lB
 refine L_loadOD (off:=((0 + ((0:Int):Int).toNat * 4) + ((x1).Left:Int).toNat * 1)) (x:=.tmp 13) (SubS.at_ (SubS.comp part_BoxRace_0 (SubS.dynC hi8 (SubS.dyn hi10) rfl) rfl) (by first | rfl | exact Nat.add_assoc _ _ _ | simp only [Nat.add_assoc,Nat.zero_add] | omega)).1 ((congrArg (vat _ hi10) he8).trans he10) Try.isAgg3 Try.sizeOf3 b1 fun xE lD nB=>?_
 obtain rfl:=Zj.1 lD
 have n8:=Zm (part_BoxPick_1).1 q2
 refine Zs (x:=.tmp 15) Try.isAgg3 Try.sizeOf3 n8 fun yE nD oB=>?_
 obtain rfl:=Zj.1 nD
 obtain ⟨rA,r8,h⟩:=Ge h
 obtain ⟨hi16,he16⟩:=vat_idx r8
 obtain ⟨l5,v8,h⟩:=Ge h
 obtain ⟨hi18,he18⟩:=vat_idx v8
 refine L_loadOD (off:=((0 + ((1:Int):Int).toNat * 4) + ((x1).Right:Int).toNat * 1)) (x:=.tmp 19) (SubS.at_ (SubS.comp part_BoxRace_0 (SubS.dynC hi16 (SubS.dyn hi18) rfl) rfl) (by first | rfl | exact Nat.add_assoc _ _ _ | simp only [Nat.add_assoc,Nat.zero_add] | omega)).1 ((congrArg (vat _ hi18) he16).trans he18) Try.isAgg3 Try.sizeOf3 b1 fun zE oD tB=>?_
 obtain rfl:=Zj.1 oD
 refine E_drawL (g:=g3) (n:=14) [] [0,1,2,3,4,5,6,7,8,9,10,11,12,13] rfl mixed (by kernel_rfl) trivial ?_
 refine Gd (fPtr p2 0) rfl rfl (Zc at_151_0 rfl (PT.ptr q2)) ?_
 refine L_ld (c:=.int .i64 ((x1).Left)) rfl rfl .plain (fun _ _ h=>h.ch) jD rfl ?_
 refine Gd (fPtr p1 0) rfl rfl (Zc at_153_0 rfl (OB.ptr b1)) ?_
 refine Gd (fPtr p1 (0 + ((0:Int):Int).toNat * 4)) rfl rfl (P_indexAddrA2 (α:=Vector Int 4) (o1:=0) rfl Try.underlying149 Try.sizeOf148 rfl (OB.ptr b1) rfl iB) ?_
 refine Gd (fPtr p1 ((0 + ((0:Int):Int).toNat * 4) + ((x1).Left:Int).toNat * 1)) rfl rfl (P_indexAddrA2 (α:=Int) (o1:=(0 + ((0:Int):Int).toNat * 4)) rfl Try.underlying148 Try.sizeOf3 rfl (OB.ptr b1) rfl lB) ?_
 refine L_ld (c:=.int .i64 (y9)) rfl rfl .plain (fun _ _ h=>⟨h.ch,fun b hb _=>h.below.block b hb⟩) nB rfl ?_
 refine Gd (fPtr p2 1) rfl rfl (Zc at_151_1 rfl (PT.ptr q2)) ?_
 refine L_ld (c:=.int .i64 ((x1).Right)) rfl rfl .plain (fun _ _ h=>h.ch) oB rfl ?_
 refine Gd (fPtr p1 0) rfl rfl (Zc at_153_0 rfl (OB.ptr b1)) ?_
 refine Gd (fPtr p1 (0 + ((1:Int):Int).toNat * 4)) rfl rfl (P_indexAddrA2 (α:=Vector Int 4) (o1:=0) rfl Try.underlying149 Try.sizeOf148 rfl (OB.ptr b1) rfl r8) ?_
 refine Gd (fPtr p1 ((0 + ((1:Int):Int).toNat * 4) + ((x1).Right:Int).toNat * 1)) rfl rfl (P_indexAddrA2 (α:=Int) (o1:=(0 + ((1:Int):Int).toNat * 4)) rfl Try.underlying148 Try.sizeOf3 rfl (OB.ptr b1) rfl v8) ?_
 refine L_ld (c:=.int .i64 (l5)) rfl rfl .plain (fun _ _ h=>⟨h.ch,fun b hb _=>h.below.block b hb⟩) tB rfl ?_
 refine Gd (.int .i64 (y9)) rfl rfl (P_assign rfl) ?_
 refine Gd (.int .i64 (l5)) rfl rfl (P_assign rfl) ?_
 refine L_nl fun x8 cF hs=>?_
 have hfr:=hfr.ext hs
 have rp0:=rp0.ext hs
 have rp1:=rp1.ext hs
 have b1:=b1.ext hs
 have q2:=q2.ext hs
 have b3:=b3.ext hs
 have q4:=q4.ext hs
 have n8:=n8.ext hs
 clear hs
 refine Zb (Zd (Zq h (fun (s:BoxRace) e w=>∃ (g:Gh) ,Fr gI wI g w∧e 2=p1∧OB 2002 g w 153 (x0:BoxRace) p1∧e 3=p2∧PT g.m w (x1:BoxPick) p2∧e 4=p3∧OB 2004 g w 153 (s:BoxRace) p3∧e 7=.int .i64 (y9)∧e 8=.int .i64 (l5)) (fun X46 dB vB h=>?_) ?_))
 ·refine Zf (Za (Zn (.int .i64 (y9)) rfl rfl ?_))
  refine EL_in (.bool ((y9 == (0:Int)))) rfl rfl rfl rfl ?_
  refine Zn (.int .i64 (l5)) rfl rfl ?_
  refine EL_in (.bool ((l5 == (0:Int)))) rfl rfl rfl rfl ?_
  refine Ga (.bool (((y9 == (0:Int)) == (l5 == (0:Int))))) (P_bool Try.underlying4 rfl rfl rfl) rfl ?_
  refine Zb (Zd ?_)
  rcases Zt h with ⟨m7,h⟩ | ⟨m7,h⟩
  ·refine E_ct m7 rfl ?_
   refine Zf (Za (Ze .plain rfl (D_loadO (g:=x8) Try.isAgg153 Try.sizeOf153 rfl b1 fun sD tD=>?_)))
   refine Ze .plain rfl (D_storeOc (g:=x8) (v:=sD) Try.sizeOf153 rfl b3 rfl tD fun dF eF hs b49 cb=>?_)
   clear cb
   have hfr:=hfr.stp hs
   refine Zg (.int .i64 (0)) rfl rfl ?_
   refine Zg (.int .i64 (0)) rfl rfl ?_
   refine Zb (Zd (E_ret (thn_r ?_)))
   obtain rfl:=sinj h
   obtain ⟨ad50,cv50,hp50,yB,cr50⟩:=ob_read Try.isAgg153 Try.sizeOf153 b49
   exact endm_ctt rfl rfl ((show _=p3 from rfl).trans hp50) yB (show _=.int .i64 (0) from rfl) (show _=.int .i64 (0) from rfl) ⟨_,hfr,_,_,_,rfl,cr50,rfl,rfl⟩
  ·refine E_cf m7 rfl ?_
   exact Zu (Zd (vB ((⟨(⟨List.toArray [(⟨List.toArray [0,0,0,0],rfl⟩:Vector Int 4),(⟨List.toArray [0,0,0,0],rfl⟩:Vector Int 4)],rfl⟩:Vector (Vector Int 4) 2),⟨0,0⟩⟩:BoxRace)) _ _ ⟨x8,hfr,rfl,b1,rfl,q2,rfl,b3,rfl,rfl⟩ h))
 ·rintro bA iE rF ⟨uD, hfr, x5, o0, y6, u3, g8, t5, k8, l8⟩ h
  refine Zf (L_loadO (x:=.tmp 28) (SubS.comp part_BoxRace_1 part_BoxPick_0 rfl).1 Try.isAgg3 Try.sizeOf3 o0 fun sF vD zB=>?_)
  obtain rfl:=Zj.1 vD
  have i7:=Zm (part_BoxPick_0).1 u3
  refine Zs (x:=.tmp 30) Try.isAgg3 Try.sizeOf3 i7 fun tF xD cC=>?_
  obtain rfl:=Zj.1 xD
  obtain ⟨i6,mC,h⟩:=Ge h
  refine L_loadO (x:=.tmp 34) (SubS.comp part_BoxRace_1 part_BoxPick_1 rfl).1 Try.isAgg3 Try.sizeOf3 o0 fun uF yD qC=>?_
  obtain rfl:=Zj.1 yD
  have q62:=Zm (part_BoxPick_1).1 u3
  refine Zs (x:=.tmp 36) Try.isAgg3 Try.sizeOf3 q62 fun vF zD rC=>?_
  obtain rfl:=Zj.1 zD
  obtain ⟨x6,uC,h⟩:=Ge h
  refine E_drawL (g:=uD) (n:=14) [(5,(fun v g w=>v=.int .i64 (i6))),(11,(fun v g w=>v=.int .i64 (x6)))] [0,1,2,3,4,5,6,7,8,9,10,11,12,13] rfl mixed (by kernel_rfl) (⟨fun _=>up_eq _,fun _=>up_eq _,trivial⟩) ?_
  refine Gd (fPtr p1 8) rfl rfl (Zc at_153_1 x5 (OB.ptr o0)) ?_
  refine Gd (fPtr p1 8) rfl rfl (P_fieldAddr2 (o1:=8) rfl at_151_0 rfl (OB.ptr o0)) ?_
  refine L_ld (c:=.int .i64 (((x0).at_).Left)) rfl rfl .plain (fun _ _ h=>⟨h.ch,fun b hb _=>h.below.block b hb⟩) zB rfl ?_
  refine Gd (fPtr p2 0) rfl rfl (Zc at_151_0 y6 (PT.ptr u3)) ?_
  refine L_ld (c:=.int .i64 ((x1).Left)) rfl rfl .plain (fun _ _ h=>h.ch) cC rfl ?_
  refine L_do (φ:=fun v g w=>v=.int .i64 (i6)) rfl rfl .plain (fun g w hd=>Zp (g:=g) (vs:=[.int .i64 (((x0).at_).Left),.int .i64 ((x1).Left)]) en267 (.cons rfl (.cons rfl .nil)) (wk267  mC) fun g' w' v hs hr=>⟨g',hs,hr⟩) (fun xF hv=>?_)
  obtain ⟨_,_,_,rfl⟩:=hv
  refine Gd (fPtr p1 8) rfl rfl (Zc at_153_1 x5 (OB.ptr o0)) ?_
  refine Gd (fPtr p1 9) rfl rfl (P_fieldAddr2 (o1:=8) rfl at_151_1 rfl (OB.ptr o0)) ?_
  refine L_ld (c:=.int .i64 (((x0).at_).Right)) rfl rfl .plain (fun _ _ h=>⟨h.ch,fun b hb _=>h.below.block b hb⟩) qC rfl ?_
  refine Gd (fPtr p2 1) rfl rfl (Zc at_151_1 y6 (PT.ptr u3)) ?_
  refine L_ld (c:=.int .i64 ((x1).Right)) rfl rfl .plain (fun _ _ h=>h.ch) rC rfl ?_
  refine L_do (φ:=fun v g w=>v=.int .i64 (x6)) rfl rfl .plain (fun g w hd=>Zp (g:=g) (vs:=[.int .i64 (((x0).at_).Right),.int .i64 ((x1).Right)]) en267 (.cons rfl (.cons rfl .nil)) (wk267  uC) fun g' w' v hs hr=>⟨g',hs,hr⟩) (fun yF hv=>?_)
  obtain ⟨_,_,_,rfl⟩:=hv
  refine Gd (.int .i64 ((w64 (i6 + x6)))) rfl rfl (P_int rfl rfl rfl) ?_
  refine Gd (.int .i64 ((w64 (i6 + x6)))) rfl rfl (P_assign rfl) ?_
  refine L_nl fun zF aG hs=>?_
  have hfr:=hfr.ext hs
  have o0:=o0.ext hs
  have u3:=u3.ext hs
  have t5:=t5.ext hs
  have i7:=i7.ext hs
  have q62:=q62.ext hs
  clear hs
  refine Zb (Zd (Zf ?_))
  have a9:=Zm (part_BoxPick_0).1 u3
  refine Zs (x:=.tmp 40) Try.isAgg3 Try.sizeOf3 a9 fun bG aE vC=>?_
  obtain rfl:=Zj.1 aE
  have d9:=Zm (part_BoxPick_1).1 u3
  refine Zs (x:=.tmp 42) Try.isAgg3 Try.sizeOf3 d9 fun cG bE aD=>?_
  obtain rfl:=Zj.1 bE
  obtain ⟨yA,k9,h⟩:=Ge h
  obtain ⟨hi93,he93⟩:=vat_idx k9
  obtain ⟨iD,l9,h⟩:=Ge h
  obtain ⟨hi95,he95⟩:=vat_idx l9
  obtain ⟨aB,n9,h⟩:=Ge h
  obtain ⟨hi100,he100⟩:=vat_idx n9
  obtain ⟨mB,m8,h⟩:=Ge h
  obtain ⟨hi102,he102⟩:=vat_idx m8
  refine E_drawB (a0:=(x0:BoxRace)) (a1:=({ x0 with boxes:=(vmod ((x0).boxes) ((0:Int)) (fun b=>(vset b ((x1).Left) l5))) }:BoxRace)) o0 (n:=13) [(9,(fun _ g w=>OB 2002 g w 153 ({ x0 with boxes:=(vmod ((x0).boxes) ((0:Int)) (fun b=>(vset b ((x1).Left) l5))) }:BoxRace) p1))] [0,1,2,3,4,5,6,7,8,9,10,11,12] rfl mixed (by kernel_rfl) (⟨fun _=>up_box,trivial⟩) ?_
  refine Gd (fPtr p2 0) rfl rfl (Zc at_151_0 y6 (PT.ptr u3)) ?_
  refine L_ld (c:=.int .i64 ((x1).Left)) rfl rfl .plain (fun _ _ h=>h.1.ch) vC rfl ?_
  refine Gd (fPtr p2 1) rfl rfl (Zc at_151_1 y6 (PT.ptr u3)) ?_
  refine L_ld (c:=.int .i64 ((x1).Right)) rfl rfl .plain (fun _ _ h=>h.1.ch) aD rfl ?_
  refine Gd (.int .i64 (l5)) rfl rfl (Zk l8) ?_
  refine Gd (.int .i64 (y9)) rfl rfl (Zk k8) ?_
  refine Gd (fPtr p1 0) rfl rfl (Zc at_153_0 x5 (OB.ptr o0)) ?_
  refine Gd (fPtr p1 (0 + ((0:Int):Int).toNat * 4)) rfl rfl (P_indexAddrA2 (α:=Vector Int 4) (o1:=0) rfl Try.underlying149 Try.sizeOf148 rfl (OB.ptr o0) rfl k9) ?_
  refine Gd (fPtr p1 ((0 + ((0:Int):Int).toNat * 4) + ((x1).Left:Int).toNat * 1)) rfl rfl (P_indexAddrA2 (α:=Int) (o1:=(0 + ((0:Int):Int).toNat * 4)) rfl Try.underlying148 Try.sizeOf3 rfl (OB.ptr o0) rfl l9) ?_
  refine L_do (φ:=fun _ g w=>OB 2002 g w 153 ({ x0 with boxes:=(vmod ((x0).boxes) ((0:Int)) (fun b=>(vset b ((x1).Left) l5))) }:BoxRace) p1) rfl rfl .plain (fun g w hd=>D_storeR (g:=g) (by rfl) (by exact (congrArg (fun y=>{ x0 with boxes:=y }) (vmod_vmod (h:=fun b=>(vset b ((x1).Left) l5)) fun b=>(vset_vset _ _ _)))) (SubS.at_ (SubS.comp part_BoxRace_0 (SubS.dynC hi93 (SubS.dyn hi95) rfl) rfl) (by first | rfl | exact Nat.add_assoc _ _ _ | simp only [Nat.add_assoc,Nat.zero_add] | omega)) Try.sizeOf3 rfl hd.1.2 rfl (Zj.2 rfl)) (fun eG hv=>?_)
  clear hv
  refine Gd (fPtr p1 0) rfl rfl (Zc at_153_0 x5 (OB.ptr o0)) ?_
  refine Gd (fPtr p1 (0 + ((1:Int):Int).toNat * 4)) rfl rfl (P_indexAddrA2 (α:=Vector Int 4) (o1:=0) rfl Try.underlying149 Try.sizeOf148 rfl (OB.ptr o0) rfl n9) ?_
  refine Gd (fPtr p1 ((0 + ((1:Int):Int).toNat * 4) + ((x1).Right:Int).toNat * 1)) rfl rfl (P_indexAddrA2 (α:=Int) (o1:=(0 + ((1:Int):Int).toNat * 4)) rfl Try.underlying148 Try.sizeOf3 rfl (OB.ptr o0) rfl m8) ?_
  refine L_nil fun bD lE hall=>?_
  have hs:=hall.1.1
  have hfr:=hfr.stp hs
  have u3:=u3.stp hs
  have t5:=t5.stp hs rfl
  have i7:=i7.stp hs
  have q62:=q62.stp hs
  have a9:=a9.stp hs
  have d9:=d9.stp hs
  have b104:=(word_all (A:=fun g w=>OB 2002 g w 153 ({ x0 with boxes:=(vmod ((x0).boxes) ((0:Int)) (fun b=>(vset b ((x1).Left) l5))) }:BoxRace) p1) 9 rfl hall)
  clear hs hall
  refine Ze .plain rfl (D_storeFc (g:=bD) (SubS.at_ (SubS.comp part_BoxRace_0 (SubS.dynC hi100 (SubS.dyn hi102) rfl) rfl) (by first | rfl | exact Nat.add_assoc _ _ _ | simp only [Nat.add_assoc,Nat.zero_add] | omega)) Try.sizeOf3 rfl b104 rfl (Zj.2 rfl) fun u9 mE hs b135 rst hos=>?_)
  clear rst hos
  have hfr:=hfr.stp hs
  have u3:=u3.stp hs
  have t5:=t5.stp hs rfl
  refine Zb (Zd (Zf (Za (Ze .plain rfl (D_load (g:=u9) Try.isAgg151 Try.sizeOf151 y6 u3 fun oE cD=>?_)))))
  refine Ga (fPtr p1 8) (Zc at_153_1 x5 (OB.ptr b135)) rfl ?_
  refine Ze .plain rfl (D_storeFc (g:=u9) part_BoxRace_1 Try.sizeOf151 rfl b135 rfl cD fun z9 rE hs b138 rst hos=>?_)
  clear rst hos
  have hfr:=hfr.stp hs
  have t5:=t5.stp hs rfl
  refine Zb (Zd (Zf (Za (Ze .plain rfl (D_loadO (g:=z9) Try.isAgg153 Try.sizeOf153 x5 b138 fun eD gD=>?_)))))
  refine Zo k8 rfl ?_
  refine Zo l8 rfl ?_
  refine EL_in (.int .i64 ((w64 (y9 + l5)))) rfl rfl rfl rfl ?_
  refine Zn (.int .i64 ((w64 (i6 + x6)))) rfl rfl ?_
  refine Ze .plain rfl (D_storeOc (g:=z9) (v:=eD) Try.sizeOf153 g8 t5 rfl gD fun uE vE hs b140 cb=>?_)
  clear cb
  have hfr:=hfr.stp hs
  refine Zg (.int .i64 ((w64 (y9 + l5)))) rfl rfl ?_
  refine Zg (.int .i64 ((w64 (i6 + x6)))) rfl rfl ?_
  refine Zb (Zd (E_ret ?_))
  obtain rfl:=sinj h
  obtain ⟨ad141,cv141,hp141,iA,cr141⟩:=ob_read Try.isAgg153 Try.sizeOf153 b140
  exact endm_ctt rfl rfl ((show _=p3 from g8).trans hp141) iA (show _=.int .i64 ((w64 (y9 + l5))) from rfl) (show _=.int .i64 ((w64 (i6 + x6))) from rfl) ⟨_,hfr,_,_,_,rfl,cr141,rfl,rfl⟩
def f218 (x0:BoxPick) (z0:BoxBoxLoom):Option (Bool):=
 Option.bind (α:=Bool) (
  (idx (((z0).BoxLoom).Boxes) (0:Int)).bind fun i6=>
  (f138 ((0:Int)) ((w64 (i6 - (1:Int)))) (([(x0).Left]:List Int))).bind fun t5=>
  bif (!t5) then
   some (true)
  else
   (idx (((z0).BoxLoom).Boxes) (1:Int)).bind fun x6=>
   (f138 ((0:Int)) ((w64 (x6 - (1:Int)))) (([(x0).Right]:List Int))).bind fun y135=>
   some ((!y135))
  ) fun x5=>
 some (x5)
theorem en218:Enters Try.prog 218:=enters_of Try.func218 (by kernel_rfl) rfl
theorem wk218 {gI:Gh} {wI:World} {x0:BoxPick} {z0:BoxBoxLoom} {up0:Value} (rp0:RV gI.m wI x0 up0) {pf0:Value} (qf0:PT gI.m wI z0 pf0) {r:Bool} (h:f218 x0 z0=some r):Fn Try.prog 218 #[up0,pf0] gI wI (fun _ _ v=>v=.bool (r)):=by
 unfold f218 at h
 refine fn_of_E Try.func218 rfl (Nat.le_of_ble_eq_true rfl) fun g0 hm hfr=>?_
 have qf0:PT g0.m wI z0 pf0:=hm ▸ qf0
 have rp0:RV g0.m wI x0 up0:=hm ▸ rp0
 show E _ 28 none _ _ _ _ _
 refine Zf (Za (Ze .plain rfl (D_box (g:=g0) rfl rp0 fun g1 w1 p1 hs q1=>?_)))
 have hfr:=hfr.ext hs
 have qf0:=qf0.ext hs
 refine Zg (.bool false) rfl rfl ?_
 refine Zb (Zd ?_)
 obtain ⟨x5,hx,h⟩:=Ge h
 refine E_join (fun e w=>∃ (g:Gh) ,Fr gI wI g w∧e 3=.bool (x5)) (fun Q' hQ=>?_) (fun tB vB hR=>?_)
 ·replace h := hx
  clear hx
  have g8:=Zm (part_BoxBoxLoom_0).1 qf0
  have aB:=Zm (part_BoxLoom_0).1 g8
  refine Zs (x:=.tmp 5) Try.isAgg26 Try.sizeOf26 aB fun i7 k8 l8=>?_
  obtain ⟨i6,y6,h⟩:=Ge h
  have dB:=PT_idx k8 y6
  refine Zs (x:=.tmp 7) Try.isAgg3 Try.sizeOf3 dB fun aD iB m8=>?_
  obtain rfl:=Zj.1 iB
  have lB:=Zm (part_BoxPick_0).1 q1
  refine Zs (x:=.tmp 10) Try.isAgg3 Try.sizeOf3 lB fun bD mB n8=>?_
  obtain rfl:=Zj.1 mB
  obtain ⟨t5,r8,h⟩:=Ge h
  rcases Zt h with ⟨u3,h⟩ | ⟨u3,h⟩
  ·refine E_drawL (g := g1) (n := 25) [(8, (fun v g w => RV g.m w ([(x0).Left] : List Int) v ∧ OS 3012 g w 3 ([(x0).Left] : List Int) v ∧ FullV v)), (9, (fun v g w => v = .bool (t5)))] [0, 1, 2, 3, 4, 5, 6, 7, 8, 9, 10, 11, 12, 13, 14, 15, 16, 17, 18, 19, 20, 21, 22, 23, 24] rfl mixed (by kernel_rfl) (⟨fun _ => up_and up_rv (up_and up_os (up_eq _)), fun _ => up_eq _, trivial⟩) ?_
   refine Gd (fPtr pf0 0) rfl rfl (Zc at_142_0 rfl (PT.ptr qf0)) ?_
   refine Gd (fPtr (fPtr pf0 0) 0) rfl rfl (Zc at_40_0 rfl (PT.ptr g8)) ?_
   refine L_ld (c:=i7) rfl rfl .plain (fun _ _ h=>h.ch) l8 rfl ?_
   refine Gd (ePtr i7 (0:Int) 1) rfl rfl (Zh (α:=Int) Try.underlying26 Try.sizeOf3 rfl k8 rfl y6) ?_
   refine L_ld (c:=.int .i64 (i6)) rfl rfl .plain (fun _ _ h=>h.ch) m8 rfl ?_
   refine Gd (.int .i64 ((w64 (i6 - (1:Int))))) rfl rfl (P_int rfl rfl rfl) ?_
   refine Gd (fPtr p1 0) rfl rfl (Zc at_151_0 rfl (PT.ptr q1)) ?_
   refine L_ld (c:=.int .i64 ((x0).Left)) rfl rfl .plain (fun _ _ h=>h.ch) n8 rfl ?_
   refine L_do (φ:=fun v g w=>RV g.m w ([(x0).Left]:List Int) v∧OS 3012 g w 3 ([(x0).Left]:List Int) v∧FullV v) rfl rfl .plain (fun g w hd=>D_buildSlice (g:=g) 3012 (xs:=([(x0).Left]:List Int)) (vs:=[.int .i64 ((x0).Left)]) Try.underlying26 Try.sizeOf3 Try.zeroValue3 rfl rfl (.cons rfl .nil) (RVs.cons (Zj.2 rfl) RVs.nil) rfl rfl fun g' w' v hs o r hxt hfl=>⟨g',hxt,r,o,hfl⟩) (fun o0 hv=>?_)
   clear hv
   refine L_do (φ:=fun v g w=>v=.bool (t5)) rfl rfl .plain (fun g w hd=>Zp (g:=g) (vs:=[.int .i64 (0),.int .i64 ((w64 (i6 - (1:Int)))),o0]) en138 (.cons rfl (.cons rfl (.cons rfl .nil))) (wk138 (word (A:=fun g w=>RV g.m w ([(x0).Left]:List Int) o0∧OS 3012 g w 3 ([(x0).Left]:List Int) o0∧FullV o0) 8 rfl rfl (deps_of hd)).1 r8) fun g' w' v hs hr=>⟨g',hs,hr⟩) (fun nB hv=>?_)
   obtain ⟨_,_,_,rfl⟩:=hv
   refine Gd (.bool (!t5)) rfl rfl (P_not rfl) ?_
   refine Gd (.bool (!t5)) rfl rfl (Zk rfl) ?_
   iterate 11 refine L_s rfl rfl rfl u3 rfl ?_
   refine Gd (.bool true) rfl rfl (Zl (b:=(!t5)) rfl (pick_t u3 rfl)) ?_
   refine Gd (.bool true) rfl rfl (P_assign rfl) ?_
   refine L_nil fun oB cD hall=>?_
   have hs:=hall.1
   have hfr:=hfr.ext hs
   have yB:=(word_all (A:=fun g w=>RV g.m w ([(x0).Left]:List Int) o0∧OS 3012 g w 3 ([(x0).Left]:List Int) o0∧FullV o0) 8 rfl hall).1
   have o109:=(word_all (A:=fun g w=>RV g.m w ([(x0).Left]:List Int) o0∧OS 3012 g w 3 ([(x0).Left]:List Int) o0∧FullV o0) 8 rfl hall).2.1
   clear hs hall
   refine Zb ?_
   obtain rfl:=sinj h
   exact hQ _ _ ⟨oB,hfr,rfl⟩
  ·have v8 := Zm (part_BoxBoxLoom_0).1 qf0
   have y9:=Zm (part_BoxLoom_0).1 v8
   refine Zs (x:=.tmp 17) Try.isAgg26 Try.sizeOf26 y9 fun x8 a9 k9=>?_
   obtain ⟨x6,m7,h⟩:=Ge h
   have z9:=PT_idx a9 m7
   refine Zs (x:=.tmp 19) Try.isAgg3 Try.sizeOf3 z9 fun zB bA l9=>?_
   obtain rfl:=Zj.1 bA
   have iA:=Zm (part_BoxPick_1).1 q1
   refine Zs (x:=.tmp 22) Try.isAgg3 Try.sizeOf3 iA fun cC rA n9=>?_
   obtain rfl:=Zj.1 rA
   obtain ⟨y135,u9,h⟩:=Ge h
   refine E_drawL (g:=g1) (n:=25) [(8,(fun v g w=>RV g.m w ([(x0).Left]:List Int) v∧OS 3012 g w 3 ([(x0).Left]:List Int) v∧FullV v)),(9,(fun v g w=>v=.bool (t5))),(20,(fun v g w=>RV g.m w ([(x0).Right]:List Int) v∧OS 3024 g w 3 ([(x0).Right]:List Int) v∧FullV v)),(21,(fun v g w=>v=.bool (y135)))] [0,1,2,3,4,5,6,7,8,9,10,11,12,13,14,15,16,17,18,19,20,21,22,23,24] rfl mixed (by kernel_rfl) (⟨fun _=>up_and up_rv (up_and up_os (up_eq _)),fun _=>up_eq _,fun _=>up_and up_rv (up_and up_os (up_eq _)),fun _=>up_eq _,trivial⟩) ?_
   refine Gd (fPtr pf0 0) rfl rfl (Zc at_142_0 rfl (PT.ptr qf0)) ?_
   refine Gd (fPtr (fPtr pf0 0) 0) rfl rfl (Zc at_40_0 rfl (PT.ptr g8)) ?_
   refine L_ld (c:=i7) rfl rfl .plain (fun _ _ h=>h.ch) l8 rfl ?_
   refine Gd (ePtr i7 (0:Int) 1) rfl rfl (Zh (α:=Int) Try.underlying26 Try.sizeOf3 rfl k8 rfl y6) ?_
   refine L_ld (c:=.int .i64 (i6)) rfl rfl .plain (fun _ _ h=>h.ch) m8 rfl ?_
   refine Gd (.int .i64 ((w64 (i6 - (1:Int))))) rfl rfl (P_int rfl rfl rfl) ?_
   refine Gd (fPtr p1 0) rfl rfl (Zc at_151_0 rfl (PT.ptr q1)) ?_
   refine L_ld (c:=.int .i64 ((x0).Left)) rfl rfl .plain (fun _ _ h=>h.ch) n8 rfl ?_
   refine L_do (φ:=fun v g w=>RV g.m w ([(x0).Left]:List Int) v∧OS 3012 g w 3 ([(x0).Left]:List Int) v∧FullV v) rfl rfl .plain (fun g w hd=>D_buildSlice (g:=g) 3012 (xs:=([(x0).Left]:List Int)) (vs:=[.int .i64 ((x0).Left)]) Try.underlying26 Try.sizeOf3 Try.zeroValue3 rfl rfl (.cons rfl .nil) (RVs.cons (Zj.2 rfl) RVs.nil) rfl rfl fun g' w' v hs o r hxt hfl=>⟨g',hxt,r,o,hfl⟩) (fun o0 hv=>?_)
   clear hv
   refine L_do (φ:=fun v g w=>v=.bool (t5)) rfl rfl .plain (fun g w hd=>Zp (g:=g) (vs:=[.int .i64 (0),.int .i64 ((w64 (i6 - (1:Int)))),o0]) en138 (.cons rfl (.cons rfl (.cons rfl .nil))) (wk138 (word (A:=fun g w=>RV g.m w ([(x0).Left]:List Int) o0∧OS 3012 g w 3 ([(x0).Left]:List Int) o0∧FullV o0) 8 rfl rfl (deps_of hd)).1 r8) fun g' w' v hs hr=>⟨g',hs,hr⟩) (fun nB hv=>?_)
   obtain ⟨_,_,_,rfl⟩:=hv
   refine Gd (.bool (!t5)) rfl rfl (P_not rfl) ?_
   refine Gd (.bool (!t5)) rfl rfl (Zk rfl) ?_
   refine L_y (fPtr pf0 0) rfl rfl rfl rfl u3 (Zc at_142_0 rfl (PT.ptr qf0)) ?_
   refine L_y (fPtr (fPtr pf0 0) 0) rfl rfl rfl rfl u3 (Zc at_40_0 rfl (PT.ptr v8)) ?_
   refine L_ld (c:=x8) rfl rfl (.yes2 rfl rfl u3) (fun _ _ h=>h.ch) k9 rfl ?_
   refine L_y (ePtr x8 (1:Int) 1) rfl rfl rfl rfl u3 (Zh (α:=Int) Try.underlying26 Try.sizeOf3 rfl a9 rfl m7) ?_
   refine L_ld (c:=.int .i64 (x6)) rfl rfl (.yes2 rfl rfl u3) (fun _ _ h=>h.ch) l9 rfl ?_
   refine L_y (.int .i64 ((w64 (x6 - (1:Int))))) rfl rfl rfl rfl u3 (P_int rfl rfl rfl) ?_
   refine L_y (fPtr p1 1) rfl rfl rfl rfl u3 (Zc at_151_1 rfl (PT.ptr q1)) ?_
   refine L_ld (c:=.int .i64 ((x0).Right)) rfl rfl (.yes2 rfl rfl u3) (fun _ _ h=>h.ch) n9 rfl ?_
   refine L_do (φ:=fun v g w=>RV g.m w ([(x0).Right]:List Int) v∧OS 3024 g w 3 ([(x0).Right]:List Int) v∧FullV v) rfl rfl (.yes2 rfl rfl u3) (fun g w hd=>D_buildSlice (g:=g) 3024 (xs:=([(x0).Right]:List Int)) (vs:=[.int .i64 ((x0).Right)]) Try.underlying26 Try.sizeOf3 Try.zeroValue3 rfl rfl (.cons rfl .nil) (RVs.cons (Zj.2 rfl) RVs.nil) rfl rfl fun g' w' v hs o r hxt hfl=>⟨g',hxt,r,o,hfl⟩) (fun l5 hv=>?_)
   clear hv
   refine L_do (φ:=fun v g w=>v=.bool (y135)) rfl rfl (.yes2 rfl rfl u3) (fun g w hd=>Zp (g:=g) (vs:=[.int .i64 (0),.int .i64 ((w64 (x6 - (1:Int)))),l5]) en138 (.cons rfl (.cons rfl (.cons rfl .nil))) (wk138 (word (A:=fun g w=>RV g.m w ([(x0).Right]:List Int) l5∧OS 3024 g w 3 ([(x0).Right]:List Int) l5∧FullV l5) 20 rfl rfl (deps_of hd)).1 u9) fun g' w' v hs hr=>⟨g',hs,hr⟩) (fun mC hv=>?_)
   obtain ⟨_,_,_,rfl⟩:=hv
   refine L_y (.bool (!y135)) rfl rfl rfl rfl u3 (P_not rfl) ?_
   refine Gd (.bool (!y135)) rfl rfl (Zl (b:=(!t5)) rfl (pick_f u3 rfl)) ?_
   refine Gd (.bool (!y135)) rfl rfl (P_assign rfl) ?_
   refine L_nil fun yA qC hall=>?_
   have hs:=hall.1
   have hfr:=hfr.ext hs
   have rC:=(word_all (A:=fun g w=>RV g.m w ([(x0).Left]:List Int) o0∧OS 3012 g w 3 ([(x0).Left]:List Int) o0∧FullV o0) 8 rfl hall).1
   have o149:=(word_all (A:=fun g w=>RV g.m w ([(x0).Left]:List Int) o0∧OS 3012 g w 3 ([(x0).Left]:List Int) o0∧FullV o0) 8 rfl hall).2.1
   have uC:=(word_all (A:=fun g w=>RV g.m w ([(x0).Right]:List Int) l5∧OS 3024 g w 3 ([(x0).Right]:List Int) l5∧FullV l5) 20 rfl hall).1
   have o161:=(word_all (A:=fun g w=>RV g.m w ([(x0).Right]:List Int) l5∧OS 3024 g w 3 ([(x0).Right]:List Int) l5∧FullV l5) 20 rfl hall).2.1
   clear hs hall
   refine Zb ?_
   obtain rfl:=sinj h
   exact hQ _ _ ⟨yA,hfr,rfl⟩
 ·clear hx
  obtain ⟨vC,hfr,d9⟩:=hR
  refine E_ret ?_
  obtain rfl:=sinj h
  exact end1 rfl rfl (show _=.bool (x5) from d9) ⟨_,hfr,rfl⟩
def f219 (x0:List BoxPick) (x1:BoxPick→Option Bool):Option (Bool):=
 (f268 x0 x1).bind fun y2=>
 some ((decide (y2 ≥ (0:Int))))
theorem en219:Enters Try.prog 219:=enters_of Try.func219 (by kernel_rfl) rfl
theorem wk219 {gI:Gh} {wI:World} {x0:List BoxPick} {x1:BoxPick→Option Bool} {up0:Value} (rp0:RV gI.m wI x0 up0) {up1:Value} (rp1:FnV1 Try.prog x1 up1 gI wI) {r:Bool} (h:f219 x0 x1=some r):Fn Try.prog 219 #[up0,up1] gI wI (fun _ _ v=>v=.bool (r)):=by
 unfold f219 at h
 refine fn_of_E Try.func219 rfl (Nat.le_of_ble_eq_true rfl) fun g0 hm hfr=>?_
 have rp0:RV g0.m wI x0 up0:=hm ▸ rp0
 obtain ⟨ff1,fa1,fc1,rfl,fen1,fcl1⟩:=rp1
 show E _ 9 none _ _ _ _ _
 refine Zf (Za (Zg (.bool false) rfl rfl ?_))
 refine Zb (Zd (Zf (Za (Zn up0 rfl rfl ?_))))
 refine Zn ((.func (.func ff1) fa1 fc1)) rfl rfl ?_
 obtain ⟨y2,hy2,h⟩:=Ge h
 refine Ze .plain rfl (Zp (g:=g0) (vs:=[up0,(.func (.func ff1) fa1 fc1)]) en268 (.cons rfl (.cons rfl .nil)) (wk268 rp0 (FnV1.ch ⟨_,_,_,rfl,fen1,fcl1⟩ hfr.ch) hy2) fun g1 w1_ v1 hs hr=>?_)
 have hfr:=hfr.ext hs
 subst hr
 refine EL_in (.bool ((decide (y2 ≥ (0:Int))))) rfl rfl rfl rfl ?_
 refine Zg (.bool ((decide (y2 ≥ (0:Int))))) rfl rfl ?_
 refine Zb (Zd (E_ret ?_))
 obtain rfl:=sinj h
 exact end1 rfl rfl (show _=.bool ((decide (y2 ≥ (0:Int)))) from rfl) ⟨_,hfr,rfl⟩
def f221 (x0:FaultFaultLoom) (x1:Zv):Option (Bool):=
 Option.bind (α:=Zv × Bool) (
  bif ((x1).Kind == (1 : Int)) then
   some ((⟨(x1).Kind,(x1).Pick,(x1).Hook,0,false⟩:Zv),true)
  else
   bif ((x1).Kind == (2 : Int)) then
    some ((⟨(x1).Kind,0,(x1).Hook,0,(x1).Up⟩:Zv),true)
   else
    Option.bind (α:=Bool) (
     bif ((x1).Kind == (3 : Int)) then
      some (((x1).Kind == (3:Int)))
     else
      some (((x1).Kind == (4:Int)))
     ) fun m7=>
    bif m7 then
     some ((⟨(x1).Kind,(x1).Pick,0,0,false⟩:Zv),true)
    else
     bif ((x1).Kind == (5 : Int)) then
      some ((⟨(x1).Kind,0,0,(x1).Warp,false⟩:Zv),true)
     else
      some ((⟨(x1).Kind,0,0,0,false⟩:Zv),false)
  ) fun (x6,g8)=>
 Option.bind (α:=Bool) (
  bif g8 then
   bif (decide (x1 = x6)) then
    (f94 ((0:Int)) ((w64 ((((((x0).FaultLoom).Design).Rows).length:Int) - (1:Int)))) (([(x1).Pick]:List Int))).bind fun x8=>
    bif x8 then
     (f94 ((0:Int)) ((w64 ((((x0).FaultLoom).Design).Hooks - (1:Int)))) (([(x1).Hook]:List Int))).bind fun a9=>
     bif a9 then
      (f94 ((0:Int)) ((w64 ((((((x0).FaultLoom).Harness).Warps).length:Int) - (1:Int)))) (([(x1).Warp]:List Int))).bind fun u9=>
      some (u9)
     else
      some (false)
    else
     some (false)
   else
    some (false)
  else
   some (false)
  ) fun r8=>
 some (r8)
theorem en221:Enters Try.prog 221:=enters_of Try.func221 (by kernel_rfl) rfl
theorem wk221 {gI:Gh} {wI:World} {x0:FaultFaultLoom} {x1:Zv} {up0:Value} (rp0:RV gI.m wI x0 up0) {up1:Value} (rp1:RV gI.m wI x1 up1) {r:Bool} (h:f221 x0 x1=some r):Fn Try.prog 221 #[up0,up1] gI wI (fun _ _ v=>v=.bool (r)):=by
 unfold f221 at h
 refine fn_of_E Try.func221 rfl (Nat.le_of_ble_eq_true rfl) fun g0 hm hfr=>?_
 have rp0:RV g0.m wI x0 up0:=hm ▸ rp0
 have rp1:RV g0.m wI x1 up1:=hm ▸ rp1
 show E _ 80 none _ _ _ _ _
 refine Zf (Za (Ze .plain rfl (D_box (g:=g0) rfl rp0 fun g1 w1 p1 hs q1=>?_)))
 have hfr:=hfr.ext hs
 have rp1:=rp1.ext hs
 refine Ze .plain rfl (D_box (g:=g1) rfl rp1 fun g2 w2 p2 hs q2=>?_)
 have hfr:=hfr.ext hs
 have q1:=q1.ext hs
 refine Zg (.bool false) rfl rfl ?_
 refine Zb (Zd (Zf (Za (Ga (fPtr p2 0) (Zc at_56_0 rfl (PT.ptr q2)) rfl ?_))))
 have q3:=Zm (part_FaultDamage_0).1 q2
 refine Ze .plain rfl (D_load (g:=g2) Try.isAgg54 Try.sizeOf54 rfl q3 fun v4 r4=>?_)
 obtain rfl:=Zj.1 r4
 have r5:RV g2.m w2 (⟨(x1).Kind,0,0,0,false⟩:Zv) (.agg (setCh [[.int .i64 0],[.int .i64 0],[.int .i64 0],[.int .i64 0],[.bool false]] [(0,.int .i64 ((x1).Kind))]).flatten.toArray):=RV_build rfl (rep_pair (rfl) (rep_pair (Zy) (rep_pair (Zy) (rep_pair (Zy) (rep_last (rep_bool))))))
 generalize gG:(Value.agg (setCh [[.int .i64 0],[.int .i64 0],[.int .i64 0],[.int .i64 0],[.bool false]] [(0,.int .i64 ((x1).Kind))]).flatten.toArray)=v5 at r5
 refine Ga v5 (gG ▸ P_build (vs:=[(0,.int .i64 ((x1).Kind))]) [[.int .i64 0],[.int .i64 0],[.int .i64 0],[.int .i64 0],[.bool false]] lay_56 rfl rfl (.cons rfl .nil) ⟨⟨_,rfl,rfl⟩,trivial⟩) rfl ?_
 refine Ze .plain rfl (D_allocOc (g:=g2) 2005 (⟨0,0,0,0,false⟩:Zv) Try.zeroValue56 (fun m w=>⟨_,(rep_two Zy (rep_two Zy (rep_two Zy (rep_two Zy rep_bool)))),rfl⟩) fun g6 w6 p6 hs b6 cb=>?_)
 have hfr:=hfr.stp hs
 have q1:=q1.stp hs
 have q2:=q2.stp hs
 have r5:=r5.stp hs
 clear cb
 refine Ze .plain rfl (D_storeOc (g:=g6) (v:=v5) Try.sizeOf56 rfl b6 rfl r5 fun g7 w7 hs b7 cb=>?_)
 clear cb
 have hfr:=hfr.stp hs
 have q1:=q1.stp hs
 have q2:=q2.stp hs
 refine Zb (Zd (Zf (Za (Zg (.bool true) rfl rfl ?_))))
 refine Zb (Zd ?_)
 obtain ⟨⟨x6,g8⟩,hx,h⟩:=Ge h
 refine E_join (fun e w=>∃ (g:Gh) ,Fr gI wI g w∧e 2=p1∧PT g.m w (x0:FaultFaultLoom) p1∧e 3=p2∧PT g.m w (x1:Zv) p2∧e 5=p6∧OB 2005 g w 56 (x6:Zv) p6∧e 6=.bool (g8)) (fun Q' hQ=>?_) (fun xG gH hR=>?_)
 ·replace h := hx
  clear hx
  refine Zf (Za (Ga (fPtr p2 0) (Zc at_56_0 rfl (PT.ptr q2)) rfl ?_))
  have hG:=Zm (part_FaultDamage_0).1 q2
  refine Ze .plain rfl (D_load (g:=g7) Try.isAgg54 Try.sizeOf54 rfl hG fun tI iG=>?_)
  obtain rfl:=Zj.1 iG
  refine Zb (Zd (Zr ?_))
  refine Zf (Za (EL_in (.bool (((x1).Kind == (1:Int)))) rfl rfl rfl rfl ?_))
  refine Zg (.bool (((x1).Kind == (1:Int)))) rfl rfl ?_
  refine Zb (Zd ?_)
  rcases Zt h with ⟨dB,h⟩ | ⟨dB,h⟩
  ·refine E_ct dB rfl ?_
   have jG:=Zm (part_FaultDamage_1).1 q2
   refine Zs (x:=.tmp 14) Try.isAgg3 Try.sizeOf3 jG fun uI kG eD=>?_
   obtain rfl:=Zj.1 kG
   have lG:=Zm (part_FaultDamage_2).1 q2
   refine Zs (x:=.tmp 16) Try.isAgg3 Try.sizeOf3 lG fun vI mG gD=>?_
   obtain rfl:=Zj.1 mG
   refine E_drawTL (g:=g7) (n:=5) [2,3] [] [0,1,2,3,4] rfl mixed (by kernel_rfl) trivial rfl ?_
   refine Gd (fPtr p2 1) rfl rfl (Zc at_56_1 rfl (PT.ptr q2)) ?_
   refine L_ld (c:=.int .i64 ((x1).Pick)) rfl rfl .plain (fun _ _ h=>h.ch) eD rfl ?_
   refine L_purL (c:=fPtr p2 2) rfl rfl .plain (Zc at_56_2 rfl (PT.ptr q2)) ?_
   refine L_ldL (c:=.int .i64 ((x1).Hook)) rfl rfl .plain (fun _ _ h=>h.ch) rfl gD rfl ?_
   refine Gd (fPtr p6 1) rfl rfl (Zc at_56_1 rfl (OB.ptr b7)) ?_
   refine L_nl fun cD sG hs=>?_
   have hlt:Lt g7.m w7 cD sG:=hs.ch
   have hfr:=hfr.ext hs
   have q1:=q1.ext hs
   have q2:=q2.ext hs
   have b7:=b7.ext hs
   clear hs
   refine TL_do hlt.w .plain rfl (D_storeFc (g:=cD) part_FaultDamage_1 Try.sizeOf3 rfl b7 rfl (Zj.2 rfl) fun iD iH hs b112 rst hos=>?_)
   clear rst hos
   have hfr:=hfr.stp hs
   have hlt:=hlt.stp hs
   have q1:=q1.stp hs
   have q2:=q2.stp hs
   refine TL_pur hlt.w (v:=fPtr p6 2) (Zc at_56_2 rfl (OB.ptr b112)) .plain rfl ?_
   refine TL_do hlt.w .plain rfl (D_storeFc (g:=iD) part_FaultDamage_2 Try.sizeOf3 rfl b112 rfl (Zj.2 rfl) fun jD jH hs b114 rst hos=>?_)
   clear rst hos
   have hfr:=hfr.stp hs
   have hlt:=hlt.stp hs
   have q1:=q1.stp hs
   have q2:=q2.stp hs
   refine TL_nil hlt.w ?_
   clear hlt
   refine blk_n ?_
   obtain ⟨rfl,rfl⟩:=pairs2 h
   exact hQ _ _ ⟨jD,hfr,rfl,q1,rfl,q2,rfl,b114,rfl⟩
  ·refine E_cf dB rfl ?_
   refine Zf (Za (EL_in (.bool (((x1).Kind == (2:Int)))) rfl rfl rfl rfl ?_))
   refine Zg (.bool (((x1).Kind == (2:Int)))) rfl rfl ?_
   refine Zb (Zd ?_)
   rcases Zt h with ⟨y9,h⟩ | ⟨y9,h⟩
   ·refine E_ct y9 rfl ?_
    have lD:=Zm (part_FaultDamage_2).1 q2
    refine Zs (x:=.tmp 22) Try.isAgg3 Try.sizeOf3 lD fun kH nD rC=>?_
    obtain rfl:=Zj.1 nD
    have oD:=Zm (part_FaultDamage_4).1 q2
    refine Zs (x:=.tmp 24) Try.isAgg4 Try.sizeOf4 oD fun lH sD uC=>?_
    obtain rfl:=RV_bool.1 sD
    refine E_drawTL (g:=g7) (n:=5) [2,3] [] [0,1,2,3,4] rfl mixed (by kernel_rfl) trivial rfl ?_
    refine Gd (fPtr p2 2) rfl rfl (Zc at_56_2 rfl (PT.ptr q2)) ?_
    refine L_ld (c:=.int .i64 ((x1).Hook)) rfl rfl .plain (fun _ _ h=>h.ch) rC rfl ?_
    refine L_purL (c:=fPtr p2 4) rfl rfl .plain (Zc at_56_4 rfl (PT.ptr q2)) ?_
    refine L_ldL (c:=.bool ((x1).Up)) rfl rfl .plain (fun _ _ h=>h.ch) rfl uC rfl ?_
    refine Gd (fPtr p6 2) rfl rfl (Zc at_56_2 rfl (OB.ptr b7)) ?_
    refine L_nl fun lB tD hs=>?_
    have hlt:Lt g7.m w7 lB tD:=hs.ch
    have hfr:=hfr.ext hs
    have q1:=q1.ext hs
    have q2:=q2.ext hs
    have b7:=b7.ext hs
    clear hs
    refine TL_do hlt.w .plain rfl (D_storeFc (g:=lB) part_FaultDamage_2 Try.sizeOf3 rfl b7 rfl (Zj.2 rfl) fun uD mH hs b143 rst hos=>?_)
    clear rst hos
    have hfr:=hfr.stp hs
    have hlt:=hlt.stp hs
    have q1:=q1.stp hs
    have q2:=q2.stp hs
    refine TL_pur hlt.w (v:=fPtr p6 4) (Zc at_56_4 rfl (OB.ptr b143)) .plain rfl ?_
    refine TL_do hlt.w .plain rfl (D_storeFc (g:=uD) part_FaultDamage_4 Try.sizeOf4 rfl b143 rfl (RV_bool.2 rfl) fun vD nH hs b145 rst hos=>?_)
    clear rst hos
    have hfr:=hfr.stp hs
    have hlt:=hlt.stp hs
    have q1:=q1.stp hs
    have q2:=q2.stp hs
    refine TL_nil hlt.w ?_
    clear hlt
    refine blk_n ?_
    obtain ⟨rfl,rfl⟩:=pairs2 h
    exact hQ _ _ ⟨vD,hfr,rfl,q1,rfl,q2,rfl,b145,rfl⟩
   ·refine E_cf y9 rfl ?_
    obtain ⟨m7,hx,h⟩:=Ge h
    refine E_join (fun e w=>∃ (g:Gh) ,Fr gI wI g w∧e 2=p1∧PT g.m w (x0:FaultFaultLoom) p1∧e 3=p2∧PT g.m w (x1:Zv) p2∧e 5=p6∧OB 2005 g w 56 ((⟨(x1).Kind,0,0,0,false⟩:Zv):Zv) p6∧e 6=.bool (true)∧e 11=.int .i64 ((x1).Kind)∧e 28=.bool (m7)) (fun Q' hQ=>?_) (fun yG oH hR=>?_)
    ·replace h := hx
     clear hx
     refine Zf (Za (EL_in (.bool (((x1).Kind == (3:Int)))) rfl rfl rfl rfl ?_))
     refine Zg (.bool (((x1).Kind == (3:Int)))) rfl rfl ?_
     refine Zb (Zd ?_)
     rcases Zt h with ⟨z9,h⟩ | ⟨z9,h⟩
     ·refine E_ct z9 rfl ?_
      refine Zu ?_
      obtain rfl:=sinj h
      exact hQ _ _ ⟨g7,hfr,rfl,q1,rfl,q2,rfl,b7,rfl,rfl,rfl⟩
     ·refine E_cf z9 rfl ?_
      refine Za (EL_in (.bool (((x1).Kind == (4:Int)))) rfl rfl rfl rfl ?_)
      refine Zg (.bool (((x1).Kind == (4:Int)))) rfl rfl ?_
      refine Zb ?_
      obtain rfl:=sinj h
      exact hQ _ _ ⟨g7,hfr,rfl,q1,rfl,q2,rfl,b7,rfl,rfl,rfl⟩
    ·clear hx
     obtain ⟨d9,hfr,k9,i7,k8,i6,l8,m8,aB,iB,n9⟩:=hR
     rcases Zt h with ⟨bA,h⟩ | ⟨bA,h⟩
     ·refine E_cond_true (Eq.trans (show ev _ _ = .bool (m7) from n9) (congrArg Value.bool bA)) ?_
      refine Za (Ga (fPtr p2 1) (Zc at_56_1 k8 (PT.ptr i6)) rfl ?_)
      have xD:=Zm (part_FaultDamage_1).1 i6
      refine Ze .plain rfl (D_load (g:=d9) Try.isAgg3 Try.sizeOf3 rfl xD fun pH yD=>?_)
      obtain rfl:=Zj.1 yD
      refine Ga (fPtr p6 1) (Zc at_56_1 l8 (OB.ptr m8)) rfl ?_
      refine Ze .plain rfl (D_storeFc (g:=d9) part_FaultDamage_1 Try.sizeOf3 rfl m8 rfl (Zj.2 rfl) fun zD qH hs b153 rst hos=>?_)
      clear rst hos
      have hfr:=hfr.stp hs
      have i7:=i7.stp hs
      have i6:=i6.stp hs
      refine Zb (blk_n ?_)
      obtain ⟨rfl,rfl⟩:=pairs2 h
      exact hQ _ _ ⟨zD,hfr,k9,i7,k8,i6,l8,b153,aB⟩
     ·refine E_cond_false (Eq.trans (show ev _ _ = .bool (m7) from n9) (congrArg Value.bool bA)) ?_
      refine Zf (Za (EL_in (.bool (((x1).Kind == (5:Int)))) iB rfl rfl rfl ?_))
      refine Zg (.bool (((x1).Kind == (5:Int)))) rfl rfl ?_
      refine Zb (Zd ?_)
      rcases Zt h with ⟨iA,h⟩ | ⟨iA,h⟩
      ·refine E_ct iA rfl ?_
       refine Za (Ga (fPtr p2 3) (Zc at_56_3 k8 (PT.ptr i6)) rfl ?_)
       have aE:=Zm (part_FaultDamage_3).1 i6
       refine Ze .plain rfl (D_load (g:=d9) Try.isAgg3 Try.sizeOf3 rfl aE fun sH bE=>?_)
       obtain rfl:=Zj.1 bE
       refine Ga (fPtr p6 3) (Zc at_56_3 l8 (OB.ptr m8)) rfl ?_
       refine Ze .plain rfl (D_storeFc (g:=d9) part_FaultDamage_3 Try.sizeOf3 rfl m8 rfl (Zj.2 rfl) fun iE tH hs b158 rst hos=>?_)
       clear rst hos
       have hfr:=hfr.stp hs
       have i7:=i7.stp hs
       have i6:=i6.stp hs
       refine Zb (blk_n ?_)
       obtain ⟨rfl,rfl⟩:=pairs2 h
       exact hQ _ _ ⟨iE,hfr,k9,i7,k8,i6,l8,b158,aB⟩
      ·refine E_cf iA rfl ?_
       refine Za (Zg (.bool false) rfl rfl ?_)
       refine Zb (blk_n ?_)
       obtain ⟨rfl,rfl⟩:=pairs2 h
       exact hQ _ _ ⟨d9,hfr,k9,i7,k8,i6,l8,m8,rfl⟩
 ·clear hx
  obtain ⟨n8,hfr,l9,u3,v8,o0,mB,nB,oB⟩:=hR
  obtain ⟨r8,hx,h⟩:=Ge h
  refine E_join (fun e w=>∃ (g:Gh) ,Fr gI wI g w∧e 4=.bool (r8)) (fun Q' hQ=>?_) (fun zG uH hR=>?_)
  ·replace h := hx
   clear hx
   refine Za (Zo oB rfl ?_)
   refine Zn (.bool (g8)) rfl rfl ?_
   rcases Zt h with ⟨y6,h⟩ | ⟨y6,h⟩
   ·refine Ze (.yes2 rfl rfl y6) rfl (D_load (g := n8) Try.isAgg56 Try.sizeOf56 v8 o0 fun xH lE => ?_)
    refine Ze (.yes2 rfl rfl y6) rfl (D_loadO (g:=n8) Try.isAgg56 Try.sizeOf56 mB nB fun yH mE=>?_)
    refine Gb (.bool ((decide (x1=x6)))) (P_seq seq_56 rfl eg_56 rfl rfl lE mE) rfl rfl y6 rfl ?_
    refine Ga (.bool ((decide (x1=x6)))) (Zl (b:=g8) rfl (pick_t y6 rfl)) rfl ?_
    refine Zn (.bool ((decide (x1=x6)))) rfl rfl ?_
    rcases Zt h with ⟨l5,h⟩ | ⟨l5,h⟩
    ·refine Gb (fPtr p1 0) (Zc at_170_0 l9 (PT.ptr u3)) rfl rfl l5 rfl ?_
     have tB:=Zm (part_FaultFaultLoom_0).1 u3
     refine Gb (fPtr (fPtr p1 0) 2) (Zc at_32_1 rfl (PT.ptr tB)) rfl rfl l5 rfl ?_
     have vB:=Zm (part_FaultLoom_1).1 tB
     refine Gb (fPtr (fPtr (fPtr p1 0) 2) 1) (Zc at_30_1 rfl (PT.ptr vB)) rfl rfl l5 rfl ?_
     have oE:=Zm (part_Design_1).1 vB
     refine Ze (.yes2 rfl rfl l5) rfl (D_load (g:=n8) Try.isAgg26 Try.sizeOf26 rfl oE fun zH rE=>?_)
     refine Gb (.int .i64 (((((x0).FaultLoom).Design).Rows).length:Int)) (P_len Try.underlying26 rfl rE) rfl rfl l5 rfl ?_
     refine Gb (.int .i64 ((w64 ((((((x0).FaultLoom).Design).Rows).length:Int) - (1:Int))))) (P_int rfl rfl rfl) rfl rfl l5 rfl ?_
     refine Gb (fPtr p2 1) (Zc at_56_1 v8 (PT.ptr o0)) rfl rfl l5 rfl ?_
     have uE:=Zm (part_FaultDamage_1).1 o0
     refine Ze (.yes2 rfl rfl l5) rfl (D_load (g:=n8) Try.isAgg3 Try.sizeOf3 rfl uE fun aI vE=>?_)
     obtain rfl:=Zj.1 vE
     refine Ze (.yes2 rfl rfl l5) rfl (D_buildSlice (g:=n8) 3054 (xs:=([(x1).Pick]:List Int)) (vs:=[.int .i64 ((x1).Pick)]) Try.underlying26 Try.sizeOf3 Try.zeroValue3 rfl rfl (.cons rfl .nil) (RVs.cons (Zj.2 rfl) RVs.nil) rfl rfl fun xE bI yE hs o203 zE hxt hfl=>?_)
     have hfr:=hfr.stp hs
     have u3:=u3.stp hs
     have o0:=o0.stp hs
     obtain ⟨x8,vC,h⟩:=Ge h
     refine Ze (.yes2 rfl rfl l5) rfl (Zp (g:=xE) (vs:=[.int .i64 (0),.int .i64 ((w64 ((((((x0).FaultLoom).Design).Rows).length:Int) - (1:Int)))),yE]) en94 (.cons rfl (.cons rfl (.cons rfl .nil))) (wk94 zE vC) fun rA aH dI hs hr=>?_)
     have hfr:=hfr.ext hs
     have u3:=u3.ext hs
     have o0:=o0.ext hs
     subst hr
     refine Ga (.bool (x8)) (Zl (b:=(decide (x1=x6))) rfl (pick_t l5 rfl)) rfl ?_
     refine Zn (.bool (x8)) rfl rfl ?_
     rcases Zt h with ⟨x5,h⟩ | ⟨x5,h⟩
     ·refine Gb (fPtr p1 0) (Zc at_170_0 l9 (PT.ptr u3)) rfl rfl x5 rfl ?_
      have yB:=Zm (part_FaultFaultLoom_0).1 u3
      refine Gb (fPtr (fPtr p1 0) 2) (Zc at_32_1 rfl (PT.ptr yB)) rfl rfl x5 rfl ?_
      have zB:=Zm (part_FaultLoom_1).1 yB
      refine Gb (fPtr (fPtr (fPtr p1 0) 2) 0) (Zc at_30_0 rfl (PT.ptr zB)) rfl rfl x5 rfl ?_
      have cF:=Zm (part_Design_0).1 zB
      refine Ze (.yes2 rfl rfl x5) rfl (D_load (g:=rA) Try.isAgg3 Try.sizeOf3 rfl cF fun iI dF=>?_)
      obtain rfl:=Zj.1 dF
      refine Gb (.int .i64 ((w64 ((((x0).FaultLoom).Design).Hooks - (1:Int))))) (P_int rfl rfl rfl) rfl rfl x5 rfl ?_
      refine Gb (fPtr p2 2) (Zc at_56_2 v8 (PT.ptr o0)) rfl rfl x5 rfl ?_
      have eF:=Zm (part_FaultDamage_2).1 o0
      refine Ze (.yes2 rfl rfl x5) rfl (D_load (g:=rA) Try.isAgg3 Try.sizeOf3 rfl eF fun jI rF=>?_)
      obtain rfl:=Zj.1 rF
      refine Ze (.yes2 rfl rfl x5) rfl (D_buildSlice (g:=rA) 3065 (xs:=([(x1).Hook]:List Int)) (vs:=[.int .i64 ((x1).Hook)]) Try.underlying26 Try.sizeOf3 Try.zeroValue3 rfl rfl (.cons rfl .nil) (RVs.cons (Zj.2 rfl) RVs.nil) rfl rfl fun sF kI tF hs o213 uF hxt hfl=>?_)
      have hfr:=hfr.stp hs
      have u3:=u3.stp hs
      have o0:=o0.stp hs
      obtain ⟨a9,aD,h⟩:=Ge h
      refine Ze (.yes2 rfl rfl x5) rfl (Zp (g:=sF) (vs:=[.int .i64 (0),.int .i64 ((w64 ((((x0).FaultLoom).Design).Hooks - (1:Int)))),tF]) en94 (.cons rfl (.cons rfl (.cons rfl .nil))) (wk94 uF aD) fun yA cH lI hs hr=>?_)
      have hfr:=hfr.ext hs
      have u3:=u3.ext hs
      have o0:=o0.ext hs
      subst hr
      refine Ga (.bool (a9)) (Zl (b:=x8) rfl (pick_t x5 rfl)) rfl ?_
      refine Zn (.bool (a9)) rfl rfl ?_
      rcases Zt h with ⟨t5,h⟩ | ⟨t5,h⟩
      ·refine Gb (fPtr p1 0) (Zc at_170_0 l9 (PT.ptr u3)) rfl rfl t5 rfl ?_
       have cC:=Zm (part_FaultFaultLoom_0).1 u3
       refine Gb (fPtr (fPtr p1 0) 0) (Zc at_32_0 rfl (PT.ptr cC)) rfl rfl t5 rfl ?_
       have mC:=Zm (part_FaultLoom_0).1 cC
       refine Gb (fPtr (fPtr (fPtr p1 0) 0) 1) (Zc at_28_1 rfl (PT.ptr mC)) rfl rfl t5 rfl ?_
       have vF:=Zm (part_TieHarness_1).1 mC
       refine Ze (.yes2 rfl rfl t5) rfl (D_load (g:=yA) Try.isAgg26 Try.sizeOf26 rfl vF fun mI xF=>?_)
       refine Gb (.int .i64 (((((x0).FaultLoom).Harness).Warps).length:Int)) (P_len Try.underlying26 rfl xF) rfl rfl t5 rfl ?_
       refine Gb (.int .i64 ((w64 ((((((x0).FaultLoom).Harness).Warps).length:Int) - (1:Int))))) (P_int rfl rfl rfl) rfl rfl t5 rfl ?_
       refine Gb (fPtr p2 3) (Zc at_56_3 v8 (PT.ptr o0)) rfl rfl t5 rfl ?_
       have yF:=Zm (part_FaultDamage_3).1 o0
       refine Ze (.yes2 rfl rfl t5) rfl (D_load (g:=yA) Try.isAgg3 Try.sizeOf3 rfl yF fun nI zF=>?_)
       obtain rfl:=Zj.1 zF
       refine Ze (.yes2 rfl rfl t5) rfl (D_buildSlice (g:=yA) 3077 (xs:=([(x1).Warp]:List Int)) (vs:=[.int .i64 ((x1).Warp)]) Try.underlying26 Try.sizeOf3 Try.zeroValue3 rfl rfl (.cons rfl .nil) (RVs.cons (Zj.2 rfl) RVs.nil) rfl rfl fun aG pI bG hs o223 cG hxt hfl=>?_)
       have hfr:=hfr.stp hs
       obtain ⟨u9,bD,h⟩:=Ge h
       refine Ze (.yes2 rfl rfl t5) rfl (Zp (g:=aG) (vs:=[.int .i64 (0),.int .i64 ((w64 ((((((x0).FaultLoom).Harness).Warps).length:Int) - (1:Int)))),bG]) en94 (.cons rfl (.cons rfl (.cons rfl .nil))) (wk94 cG bD) fun eG dH qI hs hr=>?_)
       have hfr:=hfr.ext hs
       subst hr
       refine Ga (.bool (u9)) (Zl (b:=a9) rfl (pick_t t5 rfl)) rfl ?_
       refine Zg (.bool (u9)) rfl rfl ?_
       refine Zb ?_
       obtain rfl:=sinj h
       exact hQ _ _ ⟨eG,hfr,rfl⟩
      ·refine Gc rfl rfl t5 rfl rfl ?_
       iterate 9 refine Gc rfl rfl t5 rfl rfl ?_
       refine Ga (.bool false) (Zl (b:=a9) rfl (pick_f t5 rfl)) rfl ?_
       refine Zg (.bool false) rfl rfl ?_
       refine Zb ?_
       obtain rfl:=sinj h
       exact hQ _ _ ⟨yA,hfr,rfl⟩
     ·refine Gc rfl rfl x5 rfl rfl ?_
      iterate 8 refine Gc rfl rfl x5 rfl rfl ?_
      refine Ga (.bool false) (Zl (b:=x8) rfl (pick_f x5 rfl)) rfl ?_
      refine EL_dead 12 rfl ?_
      refine Zg (.bool false) rfl rfl ?_
      refine Zb ?_
      obtain rfl:=sinj h
      exact hQ _ _ ⟨rA,hfr,rfl⟩
    ·refine Gc rfl rfl l5 rfl rfl ?_
     iterate 9 refine Gc rfl rfl l5 rfl rfl ?_
     refine Ga (.bool false) (Zl (b:=(decide (x1=x6))) rfl (pick_f l5 rfl)) rfl ?_
     refine EL_dead 23 rfl ?_
     refine Zg (.bool false) rfl rfl ?_
     refine Zb ?_
     obtain rfl:=sinj h
     exact hQ _ _ ⟨n8,hfr,rfl⟩
   ·refine Gc rfl rfl y6 rfl rfl ?_
    refine Gc rfl rfl y6 rfl rfl ?_
    refine Gc rfl rfl y6 rfl rfl ?_
    refine Ga (.bool false) (Zl (b:=g8) rfl (pick_f y6 rfl)) rfl ?_
    refine EL_dead 35 rfl ?_
    refine Zg (.bool false) rfl rfl ?_
    refine Zb ?_
    obtain rfl:=sinj h
    exact hQ _ _ ⟨n8,hfr,rfl⟩
  ·clear hx
   obtain ⟨sI,hfr,qC⟩:=hR
   refine E_ret ?_
   obtain rfl:=sinj h
   exact end1 rfl rfl (show _=.bool (r8) from qC) ⟨_,hfr,rfl⟩
def f222 (x0:List Zv) (x1:Zv→Option Bool):Option (Bool):=
 (f269 x0 x1).bind fun y2=>
 some ((decide (y2 ≥ (0:Int))))
theorem en222:Enters Try.prog 222:=enters_of Try.func222 (by kernel_rfl) rfl
theorem wk222 {gI:Gh} {wI:World} {x0:List Zv} {x1:Zv→Option Bool} {up0:Value} (rp0:RV gI.m wI x0 up0) {up1:Value} (rp1:FnV1 Try.prog x1 up1 gI wI) {r:Bool} (h:f222 x0 x1=some r):Fn Try.prog 222 #[up0,up1] gI wI (fun _ _ v=>v=.bool (r)):=by
 unfold f222 at h
 refine fn_of_E Try.func222 rfl (Nat.le_of_ble_eq_true rfl) fun g0 hm hfr=>?_
 have rp0:RV g0.m wI x0 up0:=hm ▸ rp0
 obtain ⟨ff1,fa1,fc1,rfl,fen1,fcl1⟩:=rp1
 show E _ 9 none _ _ _ _ _
 refine Zf (Za (Zg (.bool false) rfl rfl ?_))
 refine Zb (Zd (Zf (Za (Zn up0 rfl rfl ?_))))
 refine Zn ((.func (.func ff1) fa1 fc1)) rfl rfl ?_
 obtain ⟨y2,hy2,h⟩:=Ge h
 refine Ze .plain rfl (Zp (g:=g0) (vs:=[up0,(.func (.func ff1) fa1 fc1)]) en269 (.cons rfl (.cons rfl .nil)) (wk269 rp0 (FnV1.ch ⟨_,_,_,rfl,fen1,fcl1⟩ hfr.ch) hy2) fun g1 w1_ v1 hs hr=>?_)
 have hfr:=hfr.ext hs
 subst hr
 refine EL_in (.bool ((decide (y2 ≥ (0:Int))))) rfl rfl rfl rfl ?_
 refine Zg (.bool ((decide (y2 ≥ (0:Int))))) rfl rfl ?_
 refine Zb (Zd (E_ret ?_))
 obtain rfl:=sinj h
 exact end1 rfl rfl (show _=.bool ((decide (y2 ≥ (0:Int)))) from rfl) ⟨_,hfr,rfl⟩
def f223 (x0:List Zv) (x1:Int) (x2:Zv→Zv→Option Int):Option ((List Zv)):=
 Option.bind (α:=(List Zv) × Int) (
  lp (σ:=(List Zv) × Int × Int) (fun k9 (x5,t5,u3)=>
   jn (σ:=Unit) (fun _=>
    (f270 x5 t5 u3 x2).bind fun cD=>
    k9 (cD,u3,(w64 (u3 + (20:Int))))
    ) fun xE=>
   bif (decide (u3 ≤ x1)) then
    xE ()
   else
    some (x5,t5)
   ) big (x0,(0:Int),(20:Int))
  ) fun (g8,i6)=>
 (f270 g8 i6 x1 x2).bind fun yE=>
 lp (σ:=(List Zv) × Int) (fun zE (x6,o0)=>
  jn (σ:=Unit) (fun _=>
   Option.bind (α:=(List Zv) × Int) (
    lp (σ:=(List Zv) × Int × Int) (fun zF (k8,y6,i7)=>
     jn (σ:=Unit) (fun _=>
      none
      ) fun cF=>
     bif (decide (i7 ≤ x1)) then
      cF ()
     else
      some (k8,y6)
     ) big (x6,(0:Int),(w64 ((2:Int) * o0)))
    ) fun (l8,l5)=>
   Option.bind (α:=(List Zv)) (
    bif (decide ((w64 (l5 + o0)) < x1)) then
     none
    else
     some (l8)
    ) fun m7=>
   zE (m7,(w64 (o0 * (2:Int))))
   ) fun dF=>
  bif (decide (o0 < x1)) then
   dF ()
  else
   some (x6)
  ) big (yE,(20:Int))
theorem en223:Enters Try.prog 223:=enters_of Try.func223 (by kernel_rfl) rfl
theorem wk223 {iI:Nat} {gI:Gh} {wI:World} {x0:List Zv} {x1:Int} {x2:Zv→Zv→Option Int} {up0:Value} (mp0:OM iI gI wI 56 x0 up0) {up2:Value} (rp2:FnV2 Try.prog x2 up2 gI wI) {r:(List Zv)} (h:f223 x0 x1 x2=some r):FnM Try.prog 223 #[up0,.int .i64 (x1),up2] iI gI wI (fun g w v=>v=.tuple #[]∧OM iI g w 56 r up0):=by
 unfold f223 at h
 refine fnM_of_E Try.func223 rfl (Nat.le_of_ble_eq_true rfl) fun g0 hm hfr=>?_
 have eD:=mp0
 replace mp0:=mp0.enter
 rw [← hm] at mp0
 replace hm:g0.m=gI.m:=by rw [hm]
 obtain ⟨ff2,fa2,fc2,rfl,fen2,fcl2⟩:=rp2
 show E _ 63 none _ _ _ _ _
 refine Zf (Za (Zg (.int .i64 (20)) rfl rfl ?_))
 refine Zb (Zd (Zf (Za (Zn (.int .i64 (20)) rfl rfl ?_))))
 refine Zg (.int .i64 (0)) rfl rfl ?_
 refine Zg (.int .i64 (20)) rfl rfl ?_
 refine Zb (Zd ?_)
 obtain ⟨⟨g8,i6⟩,hx,h⟩:=Ge h
 refine E_join (fun e w=>∃ (g:Gh) ,FrM iI gI wI g w∧e 0=up0∧OM 1 g w 56 (g8:List Zv) up0∧e 1=.int .i64 (x1)∧e 2=(.func (.func ff2) fa2 fc2)∧e 6=.int .i64 ((20:Int))∧e 7=.int .i64 (i6)) (fun Q' hQ=>?_) (fun sG mH hR=>?_)
 ·replace h := hx
  clear hx
  refine Zr ?_
  refine E_lp h (fun (s:(List Zv) × Int × Int) e w=>∃ (g:Gh) ,FrM iI gI wI g w∧e 0=up0∧OM 1 g w 56 (s.1:List Zv) up0∧e 1=.int .i64 (x1)∧e 2=(.func (.func ff2) fa2 fc2)∧e 6=.int .i64 ((20:Int))∧e 7=.int .i64 (s.2.1)∧e 8=.int .i64 (s.2.2)) ⟨g0,hfr,rfl,mp0,rfl,rfl,rfl,rfl,rfl⟩ (fun X9 k9 aG=>?_)
  rintro ⟨x5,t5,u3⟩ xG nH ⟨eF,hfr,n9,u9,m8,y9,z9,bA,iA⟩ h
  refine Zq h (fun (s:Unit) e w=>∃ (g:Gh) ,FrM iI gI wI g w∧e 0=up0∧OM 1 g w 56 (x5:List Zv) up0∧e 1=.int .i64 (x1)∧e 2=(.func (.func ff2) fa2 fc2)∧e 6=.int .i64 ((20:Int))∧e 7=.int .i64 (t5)∧e 8=.int .i64 (u3)) (fun X12 xE sF h=>?_) ?_
  ·refine Zf (Za (Zo iA rfl ?_))
   refine Zo m8 rfl ?_
   refine EL_in (.bool ((decide (u3 ≤ x1)))) rfl rfl rfl rfl ?_
   refine Zb (Zd ?_)
   rcases Zt h with ⟨x8,h⟩ | ⟨x8,h⟩
   ·refine E_ct x8 rfl ?_
    exact Zu (Zd (sF () _ _ ⟨eF,hfr,n9,u9,m8,y9,z9,bA,iA⟩ h))
   ·refine E_cf x8 rfl ?_
    refine E_exit ?_
    refine thn_e ?_
    refine thn_e ?_
    refine blk_hit ?_
    obtain ⟨rfl,rfl⟩:=pairs2 h
    exact hQ _ _ ⟨eF,hfr,n9,u9,m8,y9,z9,bA⟩
  ·rintro _ yG oH ⟨bG, hfr, rA, gD, iD, yA, aB, jD, n8⟩ h
   refine Zr ?_
   refine Zf (Za (Zo rA rfl ?_))
   refine Zo jD rfl ?_
   refine Zo n8 rfl ?_
   refine Zo yA rfl ?_
   obtain ⟨cD,tF,h⟩:=Ge h
   refine Ze .plain rfl (D_callM (g:=bG) (i:=1) (vs:=[up0,.int .i64 (t5),.int .i64 (u3),(.func (.func ff2) fa2 fc2)]) en270 (.cons rfl (.cons rfl (.cons rfl (.cons rfl .nil)))) (wk270 gD (FnV2.ch ⟨_,_,_,rfl,fen2,fcl2⟩ hfr.ch) tF) fun cG zG pH hs hr=>?_)
   obtain ⟨hrv,b15⟩:=hr
   have hfr:=hfr.stp hs
   subst hrv
   refine Zb (Zd (Zf (Za (Zo n8 rfl ?_))))
   refine Zg (.int .i64 (u3)) rfl rfl ?_
   refine Zb (Zd (Za (Zo n8 rfl ?_)))
   refine Zo aB rfl ?_
   refine EL_in (.int .i64 ((w64 (u3 + (20:Int))))) rfl rfl rfl rfl ?_
   refine Zg (.int .i64 ((w64 (u3 + (20:Int))))) rfl rfl ?_
   exact Zb (blk_n (Zd (aG (cD,u3,(w64 (u3 + (20:Int)))) _ _ ⟨cG,hfr,rA,b15,iD,yA,aB,rfl,rfl⟩ h)))
 ·clear hx
  obtain ⟨eG,hfr,dB,lD,iB,lB,nD,oD⟩:=hR
  refine Zf (Za (Zo dB rfl ?_))
  refine Zo oD rfl ?_
  refine Zo iB rfl ?_
  refine Zo lB rfl ?_
  obtain ⟨yE,uF,h⟩:=Ge h
  refine Ze .plain rfl (D_callM (g:=eG) (i:=1) (vs:=[up0,.int .i64 (i6),.int .i64 (x1),(.func (.func ff2) fa2 fc2)]) en270 (.cons rfl (.cons rfl (.cons rfl (.cons rfl .nil)))) (wk270 lD (FnV2.ch ⟨_,_,_,rfl,fen2,fcl2⟩ hfr.ch) uF) fun gG aH qH hs hr=>?_)
  obtain ⟨hrv,b18⟩:=hr
  have hfr:=hfr.stp hs
  subst hrv
  refine Zb (Zd (Zr ?_))
  refine E_lp h (fun (s:(List Zv) × Int) e w=>∃ (g:Gh) ,FrM iI gI wI g w∧e 0=up0∧OM 1 g w 56 (s.1:List Zv) up0∧e 1=.int .i64 (x1)∧e 2=(.func (.func ff2) fa2 fc2)∧e 6=.int .i64 (s.2)) ⟨gG,hfr,dB,b18,iB,lB,nD⟩ (fun X20 zE vF=>?_)
  rintro ⟨x6,o0⟩ cH sH ⟨hG,hfr,sD,mB,nB,tD,oB⟩ h
  refine Zq h (fun (s:Unit) e w=>∃ (g:Gh) ,FrM iI gI wI g w∧e 0=up0∧OM 1 g w 56 (x6:List Zv) up0∧e 1=.int .i64 (x1)∧e 2=(.func (.func ff2) fa2 fc2)∧e 6=.int .i64 (o0)) (fun X23 dF xF h=>?_) ?_
  ·refine Zf (Za (Zo oB rfl ?_))
   refine Zo nB rfl ?_
   refine EL_in (.bool ((decide (o0 < x1)))) rfl rfl rfl rfl ?_
   refine Zb (Zd ?_)
   rcases Zt h with ⟨a9,h⟩ | ⟨a9,h⟩
   ·refine E_ct a9 rfl ?_
    exact Zu (Zd (xF () _ _ ⟨hG,hfr,sD,mB,nB,tD,oB⟩ h))
   ·refine E_cf a9 rfl ?_
    refine E_exit ?_
    refine thn_e ?_
    refine thn_e ?_
    refine blk_hit ?_
    obtain rfl:=sinj h
    exact end0n rfl rfl ⟨_,hfr,rfl,eD.back mB⟩
  ·rintro _ dH tH ⟨iG, hfr, uD, vD, xD, yD, tB⟩ h
   refine Zr ?_
   refine Zf (Za (Zo tB rfl ?_))
   refine EL_in (.int .i64 ((w64 ((2:Int) * o0)))) rfl rfl rfl rfl ?_
   refine Zg (.int .i64 (0)) rfl rfl ?_
   refine Zg (.int .i64 ((w64 ((2:Int) * o0)))) rfl rfl ?_
   refine Zb (Zd ?_)
   obtain ⟨⟨l8,l5⟩,hx,h⟩:=Ge h
   refine E_join (fun e w=>∃ (g:Gh) ,FrM iI gI wI g w∧e 0=up0∧OM 1 g w 56 (l8:List Zv) up0∧e 1=.int .i64 (x1)∧e 2=(.func (.func ff2) fa2 fc2)∧e 6=.int .i64 (o0)∧e 7=.int .i64 (l5)) (fun Q' hQ=>?_) (fun gH uH hR=>?_)
   ·replace h := hx
    clear hx
    refine Zr ?_
    refine E_lp h (fun (s:(List Zv) × Int × Int) e w=>∃ (g:Gh) ,FrM iI gI wI g w∧e 0=up0∧OM 1 g w 56 (s.1:List Zv) up0∧e 1=.int .i64 (x1)∧e 2=(.func (.func ff2) fa2 fc2)∧e 6=.int .i64 (o0)∧e 7=.int .i64 (s.2.1)∧e 8=.int .i64 (s.2.2)) ⟨iG,hfr,uD,vD,xD,yD,tB,rfl,rfl⟩ (fun X32 zF iH=>?_)
    rintro ⟨k8,y6,i7⟩ jH xH ⟨rF,hfr,vB,yB,r8,zB,cC,mC,qC⟩ h
    refine Zq h (fun (s:Unit) e w=>∃ (g:Gh) ,FrM iI gI wI g w∧e 0=up0∧OM 1 g w 56 (k8:List Zv) up0∧e 1=.int .i64 (x1)∧e 2=(.func (.func ff2) fa2 fc2)∧e 6=.int .i64 (o0)∧e 7=.int .i64 (y6)∧e 8=.int .i64 (i7)) (fun X35 cF yF h=>?_) ?_
    ·refine Zf (Za (Zo qC rfl ?_))
     refine Zo r8 rfl ?_
     refine EL_in (.bool ((decide (i7 ≤ x1)))) rfl rfl rfl rfl ?_
     refine Zb (Zd ?_)
     rcases Zt h with ⟨d9,h⟩ | ⟨d9,h⟩
     ·refine E_ct d9 rfl ?_
      exact Zu (Zd (yF () _ _ ⟨rF,hfr,vB,yB,r8,zB,cC,mC,qC⟩ h))
     ·refine E_cf d9 rfl ?_
      refine E_exit ?_
      refine thn_e ?_
      refine thn_e ?_
      refine blk_hit ?_
      obtain ⟨rfl,rfl⟩:=pairs2 h
      exact hQ _ _ ⟨rF,hfr,vB,yB,r8,zB,cC,mC⟩
    ·rintro _ kH yH ⟨zH, hfr, zD, lG, mG, aE, bE, rC, iE⟩ h
     refine Zr ?_
     refine Zf (Za (Zo zD rfl ?_))
     refine Zo rC rfl ?_
     refine Zo rC rfl ?_
     refine Zo bE rfl ?_
     refine EL_in (.int .i64 ((w64 (y6 + o0)))) rfl rfl rfl rfl ?_
     refine Zo iE rfl ?_
     refine Zo aE rfl ?_
     cases h
   ·clear hx
    obtain ⟨jG,hfr,uC,lE,v8,vC,aD,bD⟩:=hR
    obtain ⟨m7,hx,h⟩:=Ge h
    refine E_join (fun e w=>∃ (g:Gh) ,FrM iI gI wI g w∧e 0=up0∧OM 1 g w 56 (m7:List Zv) up0∧e 1=.int .i64 (x1)∧e 2=(.func (.func ff2) fa2 fc2)∧e 6=.int .i64 (o0)) (fun Q' hQ=>?_) (fun lH aI hR=>?_)
    ·replace h := hx
     clear hx
     refine Zf (Za (Zo bD rfl ?_))
     refine Zo aD rfl ?_
     refine EL_in (.int .i64 ((w64 (l5 + o0)))) rfl rfl rfl rfl ?_
     refine Zg (.int .i64 ((w64 (l5 + o0)))) rfl rfl ?_
     refine Zb (Zd (Zf (Za (Zn (.int .i64 ((w64 (l5 + o0)))) rfl rfl ?_))))
     refine Zo v8 rfl ?_
     refine EL_in (.bool ((decide ((w64 (l5 + o0)) < x1)))) rfl rfl rfl rfl ?_
     refine Zb (Zd ?_)
     rcases Zt h with ⟨l9,h⟩ | ⟨l9,h⟩
     ·refine E_ct l9 rfl ?_
      refine Za (Zo uC rfl ?_)
      refine Zo bD rfl ?_
      refine Zn (.int .i64 ((w64 (l5 + o0)))) rfl rfl ?_
      refine Zo v8 rfl ?_
      refine Zo vC rfl ?_
      cases h
     ·refine E_cf l9 rfl ?_
      refine Zu ?_
      obtain rfl:=sinj h
      exact hQ _ _ ⟨jG,hfr,uC,lE,v8,vC,aD⟩
    ·clear hx
     obtain ⟨kG,hfr,mE,oE,rE,uE,vE⟩:=hR
     refine Za (Zo vE rfl ?_)
     refine EL_in (.int .i64 ((w64 (o0 * (2:Int))))) rfl rfl rfl rfl ?_
     refine Zg (.int .i64 ((w64 (o0 * (2:Int))))) rfl rfl ?_
     exact Zb (blk_n (Zd (vF (m7,(w64 (o0 * (2:Int)))) _ _ ⟨kG,hfr,mE,oE,rE,uE,rfl⟩ h)))
def f63 (x0:List Int):Option (Bool):=
 (f138 ((0:Int)) ((9:Int)) x0).bind fun y2=>
 some (y2)
theorem en63:Enters Try.prog 63:=enters_of Try.func63 (by kernel_rfl) rfl
theorem wk63 {gI:Gh} {wI:World} {x0:List Int} {up0:Value} (rp0:RV gI.m wI x0 up0) {r:Bool} (h:f63 x0=some r):Fn Try.prog 63 #[up0] gI wI (fun _ _ v=>v=.bool (r)):=by
 unfold f63 at h
 refine fn_of_E Try.func63 rfl (Nat.le_of_ble_eq_true rfl) fun g0 hm hfr=>?_
 have rp0:RV g0.m wI x0 up0:=hm ▸ rp0
 show E _ 5 none _ _ _ _ _
 refine Zf (Za (Zg (.bool false) rfl rfl ?_))
 refine Zb (Zd (Zf (Za (Zn up0 rfl rfl ?_))))
 obtain ⟨y2,hy2,h⟩:=Ge h
 refine Ze .plain rfl (Zp (g:=g0) (vs:=[.int .i64 (0),.int .i64 (9),up0]) en138 (.cons rfl (.cons rfl (.cons rfl .nil))) (wk138 rp0 hy2) fun g1 w1_ v1 hs hr=>?_)
 have hfr:=hfr.ext hs
 subst hr
 refine Zg (.bool (y2)) rfl rfl ?_
 refine Zb (Zd (E_ret ?_))
 obtain rfl:=sinj h
 exact end1 rfl rfl (show _=.bool (y2) from rfl) ⟨_,hfr,rfl⟩
def f93 (x0:Zz) (z0:FaultLoom):Option (Bool):=
 Option.bind (α:=Bool) (
  (f94 ((0:Int)) ((119:Int)) (([(x0).Pick]:List Int))).bind fun l5=>
  bif (!l5) then
   some (true)
  else
   (f94 ((0:Int)) ((w64 (((((z0).Harness).Warps).length:Int) - (1:Int)))) (([(x0).Warp]:List Int))).bind fun t5=>
   some ((!t5))
  ) fun u3=>
 some (u3)
theorem en93:Enters Try.prog 93:=enters_of Try.func93 (by kernel_rfl) rfl
theorem wk93 {gI:Gh} {wI:World} {x0:Zz} {z0:FaultLoom} {up0:Value} (rp0:RV gI.m wI x0 up0) {pf0:Value} (qf0:PT gI.m wI z0 pf0) {r:Bool} (h:f93 x0 z0=some r):Fn Try.prog 93 #[up0,pf0] gI wI (fun _ _ v=>v=.bool (r)):=by
 unfold f93 at h
 refine fn_of_E Try.func93 rfl (Nat.le_of_ble_eq_true rfl) fun g0 hm hfr=>?_
 have qf0:PT g0.m wI z0 pf0:=hm ▸ qf0
 have rp0:RV g0.m wI x0 up0:=hm ▸ rp0
 show E _ 21 none _ _ _ _ _
 refine Zf (Za (Ze .plain rfl (D_box (g:=g0) rfl rp0 fun g1 w1 p1 hs q1=>?_)))
 have hfr:=hfr.ext hs
 have qf0:=qf0.ext hs
 refine Zg (.bool false) rfl rfl ?_
 refine Zb (Zd ?_)
 obtain ⟨u3,hx,h⟩:=Ge h
 refine E_join (fun e w=>∃ (g:Gh) ,Fr gI wI g w∧e 3=.bool (u3)) (fun Q' hQ=>?_) (fun l9 y9 hR=>?_)
 ·replace h := hx
  clear hx
  refine Za (Ga (fPtr p1 0) (Zc at_87_0 rfl (PT.ptr q1)) rfl ?_)
  have i7:=Zm (part_FaultSight_0).1 q1
  refine Ze .plain rfl (D_load (g:=g1) Try.isAgg3 Try.sizeOf3 rfl i7 fun z9 m7=>?_)
  obtain rfl:=Zj.1 m7
  refine Ze .plain rfl (D_buildSlice (g:=g1) 3006 (xs:=([(x0).Pick]:List Int)) (vs:=[.int .i64 ((x0).Pick)]) Try.underlying26 Try.sizeOf3 Try.zeroValue3 rfl rfl (.cons rfl .nil) (RVs.cons (Zj.2 rfl) RVs.nil) rfl rfl fun g8 bA k8 hs o18 l8 hxt hfl=>?_)
  have hfr:=hfr.stp hs
  have qf0:=qf0.stp hs
  have q1:=q1.stp hs
  obtain ⟨l5,hy20,h⟩:=Ge h
  refine Ze .plain rfl (Zp (g:=g8) (vs:=[.int .i64 (0),.int .i64 (119),k8]) en94 (.cons rfl (.cons rfl (.cons rfl .nil))) (wk94 l8 hy20) fun x5 n9 iA hs hr=>?_)
  have hfr:=hfr.ext hs
  have qf0:=qf0.ext hs
  have q1:=q1.ext hs
  subst hr
  refine Ga (.bool (!l5)) (P_not rfl) rfl ?_
  refine Zn (.bool (!l5)) rfl rfl ?_
  rcases Zt h with ⟨o0,h⟩ | ⟨o0,h⟩
  ·refine Gc rfl rfl o0 rfl rfl ?_
   iterate 9 refine Gc rfl rfl o0 rfl rfl ?_
   refine Ga (.bool true) (Zl (b:=(!l5)) rfl (pick_t o0 rfl)) rfl ?_
   refine Zg (.bool true) rfl rfl ?_
   refine Zb ?_
   obtain rfl:=sinj h
   exact hQ _ _ ⟨x5,hfr,rfl⟩
  ·refine Gb (fPtr pf0 0) (Zc at_32_0 rfl (PT.ptr qf0)) rfl rfl o0 rfl ?_
   have x6:=Zm (part_FaultLoom_0).1 qf0
   refine Gb (fPtr (fPtr pf0 0) 1) (Zc at_28_1 rfl (PT.ptr x6)) rfl rfl o0 rfl ?_
   have m8:=Zm (part_TieHarness_1).1 x6
   refine Ze (.yes2 rfl rfl o0) rfl (D_load (g:=x5) Try.isAgg26 Try.sizeOf26 rfl m8 fun rA n8=>?_)
   refine Gb (.int .i64 ((((z0).Harness).Warps).length:Int)) (P_len Try.underlying26 rfl n8) rfl rfl o0 rfl ?_
   refine Gb (.int .i64 ((w64 (((((z0).Harness).Warps).length:Int) - (1:Int))))) (P_int rfl rfl rfl) rfl rfl o0 rfl ?_
   refine Gb (fPtr p1 1) (Zc at_87_1 rfl (PT.ptr q1)) rfl rfl o0 rfl ?_
   have r8:=Zm (part_FaultSight_1).1 q1
   refine Ze (.yes2 rfl rfl o0) rfl (D_load (g:=x5) Try.isAgg3 Try.sizeOf3 rfl r8 fun yA v8=>?_)
   obtain rfl:=Zj.1 v8
   refine Ze (.yes2 rfl rfl o0) rfl (D_buildSlice (g:=x5) 3017 (xs:=([(x0).Warp]:List Int)) (vs:=[.int .i64 ((x0).Warp)]) Try.underlying26 Try.sizeOf3 Try.zeroValue3 rfl rfl (.cons rfl .nil) (RVs.cons (Zj.2 rfl) RVs.nil) rfl rfl fun x8 aB a9 hs o27 d9 hxt hfl=>?_)
   have hfr:=hfr.stp hs
   obtain ⟨t5,y6,h⟩:=Ge h
   refine Ze (.yes2 rfl rfl o0) rfl (Zp (g:=x8) (vs:=[.int .i64 (0),.int .i64 ((w64 (((((z0).Harness).Warps).length:Int) - (1:Int)))),a9]) en94 (.cons rfl (.cons rfl (.cons rfl .nil))) (wk94 d9 y6) fun k9 u9 dB hs hr=>?_)
   have hfr:=hfr.ext hs
   subst hr
   refine Gb (.bool (!t5)) (P_not rfl) rfl rfl o0 rfl ?_
   refine Ga (.bool (!t5)) (Zl (b:=(!l5)) rfl (pick_f o0 rfl)) rfl ?_
   refine Zg (.bool (!t5)) rfl rfl ?_
   refine Zb ?_
   obtain rfl:=sinj h
   exact hQ _ _ ⟨k9,hfr,rfl⟩
 ·clear hx
  obtain ⟨iB,hfr,i6⟩:=hR
  refine E_ret ?_
  obtain rfl:=sinj h
  exact end1 rfl rfl (show _=.bool (u3) from i6) ⟨_,hfr,rfl⟩
def f102 (x0:Design):Option (Int):=
 jn (σ:=Unit) (fun _=>
  some ((0:Int))
  ) fun x6=>
 (f103 ((1:Int)) ((24:Int)) (([(x0).Hooks]:List Int))).bind fun y56=>
 bif (!y56) then
  some ((2:Int))
 else
  bif (decide ((((x0).Rows).length : Int) > (60 : Int))) then
   some ((5:Int))
  else
   bif ((((x0).Rows).length : Int) == (0 : Int)) then
    some ((7:Int))
   else
    (shl64 (1:Int) (x0).Hooks).bind fun u3=>
    (f103 ((0:Int)) ((w64 (u3 - (1:Int)))) ((x0).Rows)).bind fun y71=>
    bif (!y71) then
     some ((2:Int))
    else
     x6 ()
theorem en102:Enters Try.prog 102:=enters_of Try.func102 (by kernel_rfl) rfl
theorem wk102 {gI:Gh} {wI:World} {x0:Design} {up0:Value} (rp0:RV gI.m wI x0 up0) {r:Int} (h:f102 x0=some r):Fn Try.prog 102 #[up0] gI wI (fun _ _ v=>v=.int .i64 (r)):=by
 unfold f102 at h
 refine fn_of_E Try.func102 rfl (Nat.le_of_ble_eq_true rfl) fun g0 hm hfr=>?_
 have rp0:RV g0.m wI x0 up0:=hm ▸ rp0
 show E _ 28 none _ _ _ _ _
 refine Zf (Za (Ze .plain rfl (D_box (g:=g0) rfl rp0 fun g1 w1 p1 hs q1=>?_)))
 have hfr:=hfr.ext hs
 refine Zg (.int .i64 (0)) rfl rfl ?_
 refine Zb (Zd (Zq h (fun (s:Unit) e w=>∃ (g:Gh) ,Fr gI wI g w) (fun X51 x6 i7 h=>?_) ?_))
 ·refine Zr ?_
  refine Zf (Za (Ga (fPtr p1 0) (Zc at_30_0 rfl (PT.ptr q1)) rfl ?_))
  have n8:=Zm (part_Design_0).1 q1
  refine Ze .plain rfl (D_load (g:=g1) Try.isAgg3 Try.sizeOf3 rfl n8 fun iB r8=>?_)
  obtain rfl:=Zj.1 r8
  refine Ze .plain rfl (D_buildSlice (g:=g1) 3006 (xs:=([(x0).Hooks]:List Int)) (vs:=[.int .i64 ((x0).Hooks)]) Try.underlying26 Try.sizeOf3 Try.zeroValue3 rfl rfl (.cons rfl .nil) (RVs.cons (Zj.2 rfl) RVs.nil) rfl rfl fun v8 lB x8 hs o54 a9 hxt hfl=>?_)
  have hfr:=hfr.stp hs
  have q1:=q1.stp hs
  obtain ⟨y56,m7,h⟩:=Ge h
  refine Ze .plain rfl (Zp (g:=v8) (vs:=[.int .i64 (1),.int .i64 (24),x8]) en103 (.cons rfl (.cons rfl (.cons rfl .nil))) (wk103 a9 m7) fun i6 yA mB hs hr=>?_)
  have hfr:=hfr.ext hs
  have q1:=q1.ext hs
  subst hr
  refine Ga (.bool (!y56)) (P_not rfl) rfl ?_
  refine Zg (.bool (!y56)) rfl rfl ?_
  refine Zb (Zd ?_)
  rcases Zt h with ⟨l5,h⟩ | ⟨l5,h⟩
  ·refine E_ct l5 rfl ?_
   refine Zf (Za (Zg (.int .i64 (2)) rfl rfl ?_))
   refine Zb (Zd (E_ret (blk_r ?_)))
   refine thn_r ?_
   obtain rfl:=sinj h
   exact end1 rfl rfl (show _=.int .i64 (2) from rfl) ⟨_,hfr,rfl⟩
  ·refine E_cf l5 rfl ?_
   refine Zf (Za (Ga (fPtr p1 1) (Zc at_30_1 rfl (PT.ptr q1)) rfl ?_))
   have d9:=Zm (part_Design_1).1 q1
   refine Ze .plain rfl (D_load (g:=i6) Try.isAgg26 Try.sizeOf26 rfl d9 fun nB k9=>?_)
   refine Ga (.int .i64 (((x0).Rows).length:Int)) (P_len Try.underlying26 rfl k9) rfl ?_
   refine Ga (.bool ((decide ((((x0).Rows).length:Int) > (60:Int))))) (P_int rfl rfl rfl) rfl ?_
   refine Ga (.bool ((decide ((((x0).Rows).length:Int) > (60:Int))))) (P_assign rfl) rfl ?_
   refine Zb (Zd ?_)
   rcases Zt h with ⟨t5,h⟩ | ⟨t5,h⟩
   ·refine E_ct t5 rfl ?_
    refine Zf (Za (Zg (.int .i64 (5)) rfl rfl ?_))
    refine Zb (Zd (E_ret (blk_r ?_)))
    refine thn_r ?_
    obtain rfl:=sinj h
    exact end1 rfl rfl (show _=.int .i64 (5) from rfl) ⟨_,hfr,rfl⟩
   ·refine E_cf t5 rfl ?_
    refine Zf (Za (Ga (fPtr p1 1) (Zc at_30_1 rfl (PT.ptr q1)) rfl ?_))
    have l9:=Zm (part_Design_1).1 q1
    refine Ze .plain rfl (D_load (g:=i6) Try.isAgg26 Try.sizeOf26 rfl l9 fun v62 n9=>?_)
    refine Ga (.int .i64 (((x0).Rows).length:Int)) (P_len Try.underlying26 rfl n9) rfl ?_
    refine EL_in (.bool (((((x0).Rows).length:Int) == (0:Int)))) rfl rfl rfl rfl ?_
    refine Zg (.bool (((((x0).Rows).length:Int) == (0:Int)))) rfl rfl ?_
    refine Zb (Zd ?_)
    rcases Zt h with ⟨x5,h⟩ | ⟨x5,h⟩
    ·refine E_ct x5 rfl ?_
     refine Zf (Za (Zg (.int .i64 (7)) rfl rfl ?_))
     refine Zb (Zd (E_ret (blk_r ?_)))
     refine thn_r ?_
     obtain rfl:=sinj h
     exact end1 rfl rfl (show _=.int .i64 (7) from rfl) ⟨_,hfr,rfl⟩
    ·refine E_cf x5 rfl ?_
     refine Zf ?_
     have u9:=Zm (part_Design_0).1 q1
     refine Zs (x:=.tmp 20) Try.isAgg3 Try.sizeOf3 u9 fun oB y9 g8=>?_
     obtain rfl:=Zj.1 y9
     obtain ⟨u3,k8,h⟩:=Ge h
     have z9:=Zm (part_Design_1).1 q1
     refine Zs (x:=.tmp 24) Try.isAgg26 Try.sizeOf26 z9 fun y6 bA l8=>?_
     obtain ⟨y71,m8,h⟩:=Ge h
     refine E_drawL (g:=i6) (n:=9) [(6,(fun v g w=>v=.bool (y71)))] [0,1,2,3,4,5,6,7,8] rfl mixed (by kernel_rfl) (⟨fun _=>up_eq _,trivial⟩) ?_
     refine Gd (fPtr p1 0) rfl rfl (Zc at_30_0 rfl (PT.ptr q1)) ?_
     refine L_ld (c:=.int .i64 ((x0).Hooks)) rfl rfl .plain (fun _ _ h=>h.ch) g8 rfl ?_
     refine Gd (.int .i64 (u3)) rfl rfl (P_int rfl rfl (congrArg (Option.map (Value.int .i64)) k8)) ?_
     refine Gd (.int .i64 ((w64 (u3 - (1:Int))))) rfl rfl (P_int rfl rfl rfl) ?_
     refine Gd (fPtr p1 1) rfl rfl (Zc at_30_1 rfl (PT.ptr q1)) ?_
     refine L_ld (c:=y6) rfl rfl .plain (fun _ _ h=>h.ch) l8 rfl ?_
     refine L_do (φ:=fun v g w=>v=.bool (y71)) rfl rfl .plain (fun g w hd=>Zp (g:=g) (vs:=[.int .i64 (0),.int .i64 ((w64 (u3 - (1:Int)))),y6]) en103 (.cons rfl (.cons rfl (.cons rfl .nil))) (wk103 (bA.ext hd.1) m8) fun g' w' v hs hr=>⟨g',hs,hr⟩) (fun tB hv=>?_)
     obtain ⟨_,_,_,rfl⟩:=hv
     refine Gd (.bool (!y71)) rfl rfl (P_not rfl) ?_
     refine Gd (.bool (!y71)) rfl rfl (P_assign rfl) ?_
     refine L_nl fun iA vB hs=>?_
     have hfr:=hfr.ext hs
     clear hs
     refine Zb (Zd ?_)
     rcases Zt h with ⟨o0,h⟩ | ⟨o0,h⟩
     ·refine E_ct o0 rfl ?_
      refine Zf (Za (Zg (.int .i64 (2)) rfl rfl ?_))
      refine Zb (Zd (E_ret (blk_r ?_)))
      refine thn_r ?_
      obtain rfl:=sinj h
      exact end1 rfl rfl (show _=.int .i64 (2) from rfl) ⟨_,hfr,rfl⟩
     ·refine E_cf o0 rfl ?_
      exact Zu (blk_n (Zd (i7 () _ _ ⟨iA,hfr⟩ h)))
 ·rintro _ rA aB ⟨dB, hfr⟩ h
  refine Zf (Za (Zg (.int .i64 (0)) rfl rfl ?_))
  refine Zb (Zd (E_ret ?_))
  obtain rfl:=sinj h
  exact end1 rfl rfl (show _=.int .i64 (0) from rfl) ⟨_,hfr,rfl⟩
def f105 (x0:TieHarness):Option (Int):=
 jn (σ:=Unit) (fun _=>
  some ((0:Int))
  ) fun y6=>
 (f184 ((1:Int)) ((24:Int)) (([(x0).Hooks]:List Int))).bind fun i6=>
 bif (!i6) then
  some ((2:Int))
 else
  bif (decide ((((x0).Warps).length : Int) > (96 : Int))) then
   some ((5:Int))
  else
   bif ((((x0).Warps).length : Int) == (0 : Int)) then
    some ((7:Int))
   else
    (f184 ((0:Int)) ((w64 ((x0).Hooks - (1:Int)))) ((x0).Warps)).bind fun x6=>
    bif (!x6) then
     some ((2:Int))
    else
     y6 ()
theorem en105:Enters Try.prog 105:=enters_of Try.func105 (by kernel_rfl) rfl
theorem wk105 {gI:Gh} {wI:World} {x0:TieHarness} {up0:Value} (rp0:RV gI.m wI x0 up0) {r:Int} (h:f105 x0=some r):Fn Try.prog 105 #[up0] gI wI (fun _ _ v=>v=.int .i64 (r)):=by
 unfold f105 at h
 refine fn_of_E Try.func105 rfl (Nat.le_of_ble_eq_true rfl) fun g0 hm hfr=>?_
 have rp0:RV g0.m wI x0 up0:=hm ▸ rp0
 show E _ 27 none _ _ _ _ _
 refine Zf (Za (Ze .plain rfl (D_box (g:=g0) rfl rp0 fun g1 w1 p1 hs q1=>?_)))
 have hfr:=hfr.ext hs
 refine Zg (.int .i64 (0)) rfl rfl ?_
 refine Zb (Zd (Zq h (fun (s:Unit) e w=>∃ (g:Gh) ,Fr gI wI g w) (fun X21 y6 i7 h=>?_) ?_))
 ·refine Zr ?_
  refine Zf (Za (Ga (fPtr p1 0) (Zc at_28_0 rfl (PT.ptr q1)) rfl ?_))
  have k8:=Zm (part_TieHarness_0).1 q1
  refine Ze .plain rfl (D_load (g:=g1) Try.isAgg3 Try.sizeOf3 rfl k8 fun yA l8=>?_)
  obtain rfl:=Zj.1 l8
  refine Ze .plain rfl (D_buildSlice (g:=g1) 3006 (xs:=([(x0).Hooks]:List Int)) (vs:=[.int .i64 ((x0).Hooks)]) Try.underlying26 Try.sizeOf3 Try.zeroValue3 rfl rfl (.cons rfl .nil) (RVs.cons (Zj.2 rfl) RVs.nil) rfl rfl fun m8 aB n8 hs o24 r8 hxt hfl=>?_)
  have hfr:=hfr.stp hs
  have q1:=q1.stp hs
  obtain ⟨i6,m7,h⟩:=Ge h
  refine Ze .plain rfl (Zp (g:=m8) (vs:=[.int .i64 (1),.int .i64 (24),n8]) en184 (.cons rfl (.cons rfl (.cons rfl .nil))) (wk184 r8 m7) fun o0 bA dB hs hr=>?_)
  have hfr:=hfr.ext hs
  have q1:=q1.ext hs
  subst hr
  refine Ga (.bool (!i6)) (P_not rfl) rfl ?_
  refine Zg (.bool (!i6)) rfl rfl ?_
  refine Zb (Zd ?_)
  rcases Zt h with ⟨u3,h⟩ | ⟨u3,h⟩
  ·refine E_ct u3 rfl ?_
   refine Zf (Za (Zg (.int .i64 (2)) rfl rfl ?_))
   refine Zb (Zd (E_ret (blk_r ?_)))
   refine thn_r ?_
   obtain rfl:=sinj h
   exact end1 rfl rfl (show _=.int .i64 (2) from rfl) ⟨_,hfr,rfl⟩
  ·refine E_cf u3 rfl ?_
   refine Zf (Za (Ga (fPtr p1 1) (Zc at_28_1 rfl (PT.ptr q1)) rfl ?_))
   have v8:=Zm (part_TieHarness_1).1 q1
   refine Ze .plain rfl (D_load (g:=o0) Try.isAgg26 Try.sizeOf26 rfl v8 fun iB x8=>?_)
   refine Ga (.int .i64 (((x0).Warps).length:Int)) (P_len Try.underlying26 rfl x8) rfl ?_
   refine Ga (.bool ((decide ((((x0).Warps).length:Int) > (96:Int))))) (P_int rfl rfl rfl) rfl ?_
   refine Ga (.bool ((decide ((((x0).Warps).length:Int) > (96:Int))))) (P_assign rfl) rfl ?_
   refine Zb (Zd ?_)
   rcases Zt h with ⟨l5,h⟩ | ⟨l5,h⟩
   ·refine E_ct l5 rfl ?_
    refine Zf (Za (Zg (.int .i64 (5)) rfl rfl ?_))
    refine Zb (Zd (E_ret (blk_r ?_)))
    refine thn_r ?_
    obtain rfl:=sinj h
    exact end1 rfl rfl (show _=.int .i64 (5) from rfl) ⟨_,hfr,rfl⟩
   ·refine E_cf l5 rfl ?_
    refine Zf (Za (Ga (fPtr p1 1) (Zc at_28_1 rfl (PT.ptr q1)) rfl ?_))
    have a9:=Zm (part_TieHarness_1).1 q1
    refine Ze .plain rfl (D_load (g:=o0) Try.isAgg26 Try.sizeOf26 rfl a9 fun lB d9=>?_)
    refine Ga (.int .i64 (((x0).Warps).length:Int)) (P_len Try.underlying26 rfl d9) rfl ?_
    refine EL_in (.bool (((((x0).Warps).length:Int) == (0:Int)))) rfl rfl rfl rfl ?_
    refine Zg (.bool (((((x0).Warps).length:Int) == (0:Int)))) rfl rfl ?_
    refine Zb (Zd ?_)
    rcases Zt h with ⟨t5,h⟩ | ⟨t5,h⟩
    ·refine E_ct t5 rfl ?_
     refine Zf (Za (Zg (.int .i64 (7)) rfl rfl ?_))
     refine Zb (Zd (E_ret (blk_r ?_)))
     refine thn_r ?_
     obtain rfl:=sinj h
     exact end1 rfl rfl (show _=.int .i64 (7) from rfl) ⟨_,hfr,rfl⟩
    ·refine E_cf t5 rfl ?_
     refine Zf (Za (Ga (fPtr p1 0) (Zc at_28_0 rfl (PT.ptr q1)) rfl ?_))
     have k9:=Zm (part_TieHarness_0).1 q1
     refine Ze .plain rfl (D_load (g:=o0) Try.isAgg3 Try.sizeOf3 rfl k9 fun mB l9=>?_)
     obtain rfl:=Zj.1 l9
     refine EL_in (.int .i64 ((w64 ((x0).Hooks - (1:Int))))) rfl rfl rfl rfl ?_
     refine Ga (fPtr p1 1) (Zc at_28_1 rfl (PT.ptr q1)) rfl ?_
     have n9:=Zm (part_TieHarness_1).1 q1
     refine Ze .plain rfl (D_load (g:=o0) Try.isAgg26 Try.sizeOf26 rfl n9 fun u9 y9=>?_)
     obtain ⟨x6,g8,h⟩:=Ge h
     refine Ze .plain rfl (Zp (g:=o0) (vs:=[.int .i64 (0),.int .i64 ((w64 ((x0).Hooks - (1:Int)))),u9]) en184 (.cons rfl (.cons rfl (.cons rfl .nil))) (wk184 y9 g8) fun z9 iA nB hs hr=>?_)
     have hfr:=hfr.ext hs
     subst hr
     refine Ga (.bool (!x6)) (P_not rfl) rfl ?_
     refine Zg (.bool (!x6)) rfl rfl ?_
     refine Zb (Zd ?_)
     rcases Zt h with ⟨x5,h⟩ | ⟨x5,h⟩
     ·refine E_ct x5 rfl ?_
      refine Zf (Za (Zg (.int .i64 (2)) rfl rfl ?_))
      refine Zb (Zd (E_ret (blk_r ?_)))
      refine thn_r ?_
      obtain rfl:=sinj h
      exact end1 rfl rfl (show _=.int .i64 (2) from rfl) ⟨_,hfr,rfl⟩
     ·refine E_cf x5 rfl ?_
      exact Zu (blk_n (Zd (i7 () _ _ ⟨z9,hfr⟩ h)))
 ·rintro _ rA oB ⟨tB, hfr⟩ h
  refine Zf (Za (Zg (.int .i64 (0)) rfl rfl ?_))
  refine Zb (Zd (E_ret ?_))
  obtain rfl:=sinj h
  exact end1 rfl rfl (show _=.int .i64 (0) from rfl) ⟨_,hfr,rfl⟩
def f135 (x0:BoxBoxLoom) (x1:Zw):Option (Bool):=
 Option.bind (α:=Bool) (
  (f138 ((0:Int)) ((9:Int)) (([(x1).Colour]:List Int))).bind fun x6=>
  bif x6 then
   (f138 ((0:Int)) ((1:Int)) (([(x1).Side]:List Int))).bind fun y6=>
   bif y6 then
    (idx (((x0).BoxLoom).Boxes) (x1).Side).bind fun l8=>
    (f138 ((0:Int)) ((w64 (l8 - (1:Int)))) (([(x1).Box]:List Int))).bind fun m7=>
    bif m7 then
     (f138 ((0:Int)) ((1000:Int)) (([((x1).Yarn).Low,((x1).Yarn).High]:List Int))).bind fun k8=>
     bif k8 then
      some ((decide (((x1).Yarn).Low ≤ ((x1).Yarn).High)))
     else
      some (false)
    else
     some (false)
   else
    some (false)
  else
   some (false)
  ) fun m8=>
 some (m8)
theorem en135:Enters Try.prog 135:=enters_of Try.func135 (by kernel_rfl) rfl
theorem wk135 {gI:Gh} {wI:World} {x0:BoxBoxLoom} {x1:Zw} {up0:Value} (rp0:RV gI.m wI x0 up0) {up1:Value} (rp1:RV gI.m wI x1 up1) {r:Bool} (h:f135 x0 x1=some r):Fn Try.prog 135 #[up0,up1] gI wI (fun _ _ v=>v=.bool (r)):=by
 unfold f135 at h
 refine fn_of_E Try.func135 rfl (Nat.le_of_ble_eq_true rfl) fun g0 hm hfr=>?_
 have rp0:RV g0.m wI x0 up0:=hm ▸ rp0
 have rp1:RV g0.m wI x1 up1:=hm ▸ rp1
 show E _ 48 none _ _ _ _ _
 refine Zf (Za (Ze .plain rfl (D_box (g:=g0) rfl rp0 fun g1 w1 p1 hs q1=>?_)))
 have hfr:=hfr.ext hs
 have rp1:=rp1.ext hs
 refine Ze .plain rfl (D_box (g:=g1) rfl rp1 fun g2 w2 p2 hs q2=>?_)
 have hfr:=hfr.ext hs
 have q1:=q1.ext hs
 refine Zg (.bool false) rfl rfl ?_
 refine Zb (Zd ?_)
 obtain ⟨m8,hx,h⟩:=Ge h
 refine E_join (fun e w=>∃ (g:Gh) ,Fr gI wI g w∧e 4=.bool (m8)) (fun Q' hQ=>?_) (fun bE iE hR=>?_)
 ·replace h := hx
  clear hx
  have zB:=Zm (part_BoxShuttle_0).1 q2
  refine Zs (x:=.tmp 5) Try.isAgg3 Try.sizeOf3 zB fun lE cC n8=>?_
  obtain rfl:=Zj.1 cC
  obtain ⟨x6,r8,h⟩:=Ge h
  rcases Zt h with ⟨x5,h⟩ | ⟨x5,h⟩
  ·have mC := Zm (part_BoxShuttle_1).1 q2
   refine Zs (x:=.tmp 10) Try.isAgg3 Try.sizeOf3 mC fun mE qC x8=>?_
   obtain rfl:=Zj.1 qC
   obtain ⟨y6,a9,h⟩:=Ge h
   rcases Zt h with ⟨u3,h⟩ | ⟨u3,h⟩
   ·have k9 := Zm (part_BoxBoxLoom_0).1 q1
    have rC:=Zm (part_BoxLoom_0).1 k9
    refine Zs (x:=.tmp 17) Try.isAgg26 Try.sizeOf26 rC fun v8 l9 n9=>?_
    have uC:=Zm (part_BoxShuttle_1).1 q2
    refine Zs (x:=.tmp 19) Try.isAgg3 Try.sizeOf3 uC fun oE vC u9=>?_
    obtain rfl:=Zj.1 vC
    obtain ⟨l8,d9,h⟩:=Ge h
    have aD:=PT_idx l9 d9
    refine Zs (x:=.tmp 21) Try.isAgg3 Try.sizeOf3 aD fun rE bD y9=>?_
    obtain rfl:=Zj.1 bD
    have cD:=Zm (part_BoxShuttle_2).1 q2
    refine Zs (x:=.tmp 24) Try.isAgg3 Try.sizeOf3 cD fun uE eD z9=>?_
    obtain rfl:=Zj.1 eD
    obtain ⟨m7,bA,h⟩:=Ge h
    rcases Zt h with ⟨i6,h⟩ | ⟨i6,h⟩
    ·have rA := Zm (part_BoxShuttle_3).1 q2
     have gD:=Zm (part_Span_0).1 rA
     refine Zs (x:=.tmp 31) Try.isAgg3 Try.sizeOf3 gD fun vE iD dB=>?_
     obtain rfl:=Zj.1 iD
     have yA:=Zm (part_BoxShuttle_3).1 q2
     have jD:=Zm (part_Span_1).1 yA
     refine Zs (x:=.tmp 34) Try.isAgg3 Try.sizeOf3 jD fun xE lD iB=>?_
     obtain rfl:=Zj.1 lD
     obtain ⟨k8,lB,h⟩:=Ge h
     rcases Zt h with ⟨g8,h⟩ | ⟨g8,h⟩
     ·have mB := Zm (part_BoxShuttle_3).1 q2
      have nD:=Zm (part_Span_0).1 mB
      refine Zs (x:=.tmp 41) Try.isAgg3 Try.sizeOf3 nD fun yE oD vB=>?_
      obtain rfl:=Zj.1 oD
      have nB:=Zm (part_BoxShuttle_3).1 q2
      have sD:=Zm (part_Span_1).1 nB
      refine Zs (x:=.tmp 44) Try.isAgg3 Try.sizeOf3 sD fun zE tD yB=>?_
      obtain rfl:=Zj.1 tD
      refine E_drawL (g:=g2) (n:=44) [(2,(fun v g w=>RV g.m w ([(x1).Colour]:List Int) v∧OS 3007 g w 3 ([(x1).Colour]:List Int) v∧FullV v)),(3,(fun v g w=>v=.bool (x6))),(7,(fun v g w=>RV g.m w ([(x1).Side]:List Int) v∧OS 3012 g w 3 ([(x1).Side]:List Int) v∧FullV v)),(8,(fun v g w=>v=.bool (y6))),(21,(fun v g w=>RV g.m w ([(x1).Box]:List Int) v∧OS 3026 g w 3 ([(x1).Box]:List Int) v∧FullV v)),(22,(fun v g w=>v=.bool (m7))),(31,(fun v g w=>RV g.m w ([((x1).Yarn).Low,((x1).Yarn).High]:List Int) v∧OS 3036 g w 3 ([((x1).Yarn).Low,((x1).Yarn).High]:List Int) v∧FullV v)),(32,(fun v g w=>v=.bool (k8)))] [0,1,2,3,4,5,6,7,8,9,10,11,12,13,14,15,16,17,18,19,20,21,22,23,24,25,26,27,28,29,30,31,32,33,34,35,36,37,38,39,40,41,42,43] rfl mixed (by kernel_rfl) (⟨fun _=>up_and up_rv (up_and up_os (up_eq _)),fun _=>up_eq _,fun _=>up_and up_rv (up_and up_os (up_eq _)),fun _=>up_eq _,fun _=>up_and up_rv (up_and up_os (up_eq _)),fun _=>up_eq _,fun _=>up_and up_rv (up_and up_os (up_eq _)),fun _=>up_eq _,trivial⟩) ?_
      refine Gd (fPtr p2 0) rfl rfl (Zc at_37_0 rfl (PT.ptr q2)) ?_
      refine L_ld (c:=.int .i64 ((x1).Colour)) rfl rfl .plain (fun _ _ h=>h.ch) n8 rfl ?_
      refine L_do (φ:=fun v g w=>RV g.m w ([(x1).Colour]:List Int) v∧OS 3007 g w 3 ([(x1).Colour]:List Int) v∧FullV v) rfl rfl .plain (fun g w hd=>D_buildSlice (g:=g) 3007 (xs:=([(x1).Colour]:List Int)) (vs:=[.int .i64 ((x1).Colour)]) Try.underlying26 Try.sizeOf3 Try.zeroValue3 rfl rfl (.cons rfl .nil) (RVs.cons (Zj.2 rfl) RVs.nil) rfl rfl fun g' w' v hs o r hxt hfl=>⟨g',hxt,r,o,hfl⟩) (fun o0 hv=>?_)
      clear hv
      refine L_do (φ:=fun v g w=>v=.bool (x6)) rfl rfl .plain (fun g w hd=>Zp (g:=g) (vs:=[.int .i64 (0),.int .i64 (9),o0]) en138 (.cons rfl (.cons rfl (.cons rfl .nil))) (wk138 (word (A:=fun g w=>RV g.m w ([(x1).Colour]:List Int) o0∧OS 3007 g w 3 ([(x1).Colour]:List Int) o0∧FullV o0) 2 rfl rfl (deps_of hd)).1 r8) fun g' w' v hs hr=>⟨g',hs,hr⟩) (fun iA hv=>?_)
      obtain ⟨_,_,_,rfl⟩:=hv
      refine Gd (.bool (x6)) rfl rfl (Zk rfl) ?_
      refine L_y (fPtr p2 1) rfl rfl rfl rfl x5 (Zc at_37_1 rfl (PT.ptr q2)) ?_
      refine L_ld (c:=.int .i64 ((x1).Side)) rfl rfl (.yes2 rfl rfl x5) (fun _ _ h=>h.ch) x8 rfl ?_
      refine L_do (φ:=fun v g w=>RV g.m w ([(x1).Side]:List Int) v∧OS 3012 g w 3 ([(x1).Side]:List Int) v∧FullV v) rfl rfl (.yes2 rfl rfl x5) (fun g w hd=>D_buildSlice (g:=g) 3012 (xs:=([(x1).Side]:List Int)) (vs:=[.int .i64 ((x1).Side)]) Try.underlying26 Try.sizeOf3 Try.zeroValue3 rfl rfl (.cons rfl .nil) (RVs.cons (Zj.2 rfl) RVs.nil) rfl rfl fun g' w' v hs o r hxt hfl=>⟨g',hxt,r,o,hfl⟩) (fun l5 hv=>?_)
      clear hv
      refine L_do (φ:=fun v g w=>v=.bool (y6)) rfl rfl (.yes2 rfl rfl x5) (fun g w hd=>Zp (g:=g) (vs:=[.int .i64 (0),.int .i64 (1),l5]) en138 (.cons rfl (.cons rfl (.cons rfl .nil))) (wk138 (word (A:=fun g w=>RV g.m w ([(x1).Side]:List Int) l5∧OS 3012 g w 3 ([(x1).Side]:List Int) l5∧FullV l5) 7 rfl rfl (deps_of hd)).1 a9) fun g' w' v hs hr=>⟨g',hs,hr⟩) (fun aB hv=>?_)
      obtain ⟨_,_,_,rfl⟩:=hv
      refine Gd (.bool (y6)) rfl rfl (Zl (b:=x6) rfl (pick_t x5 rfl)) ?_
      refine Gd (.bool (y6)) rfl rfl (Zk rfl) ?_
      refine L_y (fPtr p1 0) rfl rfl rfl rfl u3 (Zc at_142_0 rfl (PT.ptr q1)) ?_
      refine L_y (fPtr (fPtr p1 0) 0) rfl rfl rfl rfl u3 (Zc at_40_0 rfl (PT.ptr k9)) ?_
      refine L_ld (c:=v8) rfl rfl (.yes2 rfl rfl u3) (fun _ _ h=>h.ch) n9 rfl ?_
      refine L_y (fPtr p2 1) rfl rfl rfl rfl u3 (Zc at_37_1 rfl (PT.ptr q2)) ?_
      refine L_ld (c:=.int .i64 ((x1).Side)) rfl rfl (.yes2 rfl rfl u3) (fun _ _ h=>h.ch) u9 rfl ?_
      refine L_y (ePtr v8 (x1).Side 1) rfl rfl rfl rfl u3 (Zh (α:=Int) Try.underlying26 Try.sizeOf3 rfl l9 rfl d9) ?_
      refine L_ld (c:=.int .i64 (l8)) rfl rfl (.yes2 rfl rfl u3) (fun _ _ h=>h.ch) y9 rfl ?_
      refine L_y (.int .i64 ((w64 (l8 - (1:Int))))) rfl rfl rfl rfl u3 (P_int rfl rfl rfl) ?_
      refine L_y (fPtr p2 2) rfl rfl rfl rfl u3 (Zc at_37_2 rfl (PT.ptr q2)) ?_
      refine L_ld (c:=.int .i64 ((x1).Box)) rfl rfl (.yes2 rfl rfl u3) (fun _ _ h=>h.ch) z9 rfl ?_
      refine L_do (φ:=fun v g w=>RV g.m w ([(x1).Box]:List Int) v∧OS 3026 g w 3 ([(x1).Box]:List Int) v∧FullV v) rfl rfl (.yes2 rfl rfl u3) (fun g w hd=>D_buildSlice (g:=g) 3026 (xs:=([(x1).Box]:List Int)) (vs:=[.int .i64 ((x1).Box)]) Try.underlying26 Try.sizeOf3 Try.zeroValue3 rfl rfl (.cons rfl .nil) (RVs.cons (Zj.2 rfl) RVs.nil) rfl rfl fun g' w' v hs o r hxt hfl=>⟨g',hxt,r,o,hfl⟩) (fun t5 hv=>?_)
      clear hv
      refine L_do (φ:=fun v g w=>v=.bool (m7)) rfl rfl (.yes2 rfl rfl u3) (fun g w hd=>Zp (g:=g) (vs:=[.int .i64 (0),.int .i64 ((w64 (l8 - (1:Int)))),t5]) en138 (.cons rfl (.cons rfl (.cons rfl .nil))) (wk138 (word (A:=fun g w=>RV g.m w ([(x1).Box]:List Int) t5∧OS 3026 g w 3 ([(x1).Box]:List Int) t5∧FullV t5) 21 rfl rfl (deps_of hd)).1 bA) fun g' w' v hs hr=>⟨g',hs,hr⟩) (fun oB hv=>?_)
      obtain ⟨_,_,_,rfl⟩:=hv
      refine Gd (.bool (m7)) rfl rfl (Zl (b:=y6) rfl (pick_t u3 rfl)) ?_
      refine Gd (.bool (m7)) rfl rfl (Zk rfl) ?_
      refine L_y (fPtr p2 3) rfl rfl rfl rfl i6 (Zc at_37_3 rfl (PT.ptr q2)) ?_
      refine L_y (fPtr (fPtr p2 3) 0) rfl rfl rfl rfl i6 (Zc at_35_0 rfl (PT.ptr rA)) ?_
      refine L_ld (c:=.int .i64 (((x1).Yarn).Low)) rfl rfl (.yes2 rfl rfl i6) (fun _ _ h=>h.ch) dB rfl ?_
      refine L_y (fPtr p2 3) rfl rfl rfl rfl i6 (Zc at_37_3 rfl (PT.ptr q2)) ?_
      refine L_y (fPtr (fPtr p2 3) 1) rfl rfl rfl rfl i6 (Zc at_35_1 rfl (PT.ptr yA)) ?_
      refine L_ld (c:=.int .i64 (((x1).Yarn).High)) rfl rfl (.yes2 rfl rfl i6) (fun _ _ h=>h.ch) iB rfl ?_
      refine L_do (φ:=fun v g w=>RV g.m w ([((x1).Yarn).Low,((x1).Yarn).High]:List Int) v∧OS 3036 g w 3 ([((x1).Yarn).Low,((x1).Yarn).High]:List Int) v∧FullV v) rfl rfl (.yes2 rfl rfl i6) (fun g w hd=>D_buildSlice (g:=g) 3036 (xs:=([((x1).Yarn).Low,((x1).Yarn).High]:List Int)) (vs:=[.int .i64 (((x1).Yarn).Low),.int .i64 (((x1).Yarn).High)]) Try.underlying26 Try.sizeOf3 Try.zeroValue3 rfl rfl (.cons rfl (.cons rfl .nil)) (RVs.cons (Zj.2 rfl) (RVs.cons (Zj.2 rfl) RVs.nil)) rfl rfl fun g' w' v hs o r hxt hfl=>⟨g',hxt,r,o,hfl⟩) (fun i7 hv=>?_)
      clear hv
      refine L_do (φ:=fun v g w=>v=.bool (k8)) rfl rfl (.yes2 rfl rfl i6) (fun g w hd=>Zp (g:=g) (vs:=[.int .i64 (0),.int .i64 (1000),i7]) en138 (.cons rfl (.cons rfl (.cons rfl .nil))) (wk138 (word (A:=fun g w=>RV g.m w ([((x1).Yarn).Low,((x1).Yarn).High]:List Int) i7∧OS 3036 g w 3 ([((x1).Yarn).Low,((x1).Yarn).High]:List Int) i7∧FullV i7) 31 rfl rfl (deps_of hd)).1 lB) fun g' w' v hs hr=>⟨g',hs,hr⟩) (fun uD hv=>?_)
      obtain ⟨_,_,_,rfl⟩:=hv
      refine Gd (.bool (k8)) rfl rfl (Zl (b:=m7) rfl (pick_t i6 rfl)) ?_
      refine Gd (.bool (k8)) rfl rfl (Zk rfl) ?_
      refine L_y (fPtr p2 3) rfl rfl rfl rfl g8 (Zc at_37_3 rfl (PT.ptr q2)) ?_
      refine L_y (fPtr (fPtr p2 3) 0) rfl rfl rfl rfl g8 (Zc at_35_0 rfl (PT.ptr mB)) ?_
      refine L_ld (c:=.int .i64 (((x1).Yarn).Low)) rfl rfl (.yes2 rfl rfl g8) (fun _ _ h=>h.ch) vB rfl ?_
      refine L_y (fPtr p2 3) rfl rfl rfl rfl g8 (Zc at_37_3 rfl (PT.ptr q2)) ?_
      refine L_y (fPtr (fPtr p2 3) 1) rfl rfl rfl rfl g8 (Zc at_35_1 rfl (PT.ptr nB)) ?_
      refine L_ld (c:=.int .i64 (((x1).Yarn).High)) rfl rfl (.yes2 rfl rfl g8) (fun _ _ h=>h.ch) yB rfl ?_
      refine L_y (.bool ((decide (((x1).Yarn).Low ≤ ((x1).Yarn).High)))) rfl rfl rfl rfl g8 (P_int rfl rfl rfl) ?_
      refine Gd (.bool ((decide (((x1).Yarn).Low ≤ ((x1).Yarn).High)))) rfl rfl (Zl (b:=k8) rfl (pick_t g8 rfl)) ?_
      refine Gd (.bool ((decide (((x1).Yarn).Low ≤ ((x1).Yarn).High)))) rfl rfl (P_assign rfl) ?_
      refine L_nil fun vD cF hall=>?_
      have hs:=hall.1
      have hfr:=hfr.ext hs
      have dF:=(word_all (A:=fun g w=>RV g.m w ([(x1).Colour]:List Int) o0∧OS 3007 g w 3 ([(x1).Colour]:List Int) o0∧FullV o0) 2 rfl hall).1
      have o341:=(word_all (A:=fun g w=>RV g.m w ([(x1).Colour]:List Int) o0∧OS 3007 g w 3 ([(x1).Colour]:List Int) o0∧FullV o0) 2 rfl hall).2.1
      have eF:=(word_all (A:=fun g w=>RV g.m w ([(x1).Side]:List Int) l5∧OS 3012 g w 3 ([(x1).Side]:List Int) l5∧FullV l5) 7 rfl hall).1
      have o346:=(word_all (A:=fun g w=>RV g.m w ([(x1).Side]:List Int) l5∧OS 3012 g w 3 ([(x1).Side]:List Int) l5∧FullV l5) 7 rfl hall).2.1
      have rF:=(word_all (A:=fun g w=>RV g.m w ([(x1).Box]:List Int) t5∧OS 3026 g w 3 ([(x1).Box]:List Int) t5∧FullV t5) 21 rfl hall).1
      have o360:=(word_all (A:=fun g w=>RV g.m w ([(x1).Box]:List Int) t5∧OS 3026 g w 3 ([(x1).Box]:List Int) t5∧FullV t5) 21 rfl hall).2.1
      have sF:=(word_all (A:=fun g w=>RV g.m w ([((x1).Yarn).Low,((x1).Yarn).High]:List Int) i7∧OS 3036 g w 3 ([((x1).Yarn).Low,((x1).Yarn).High]:List Int) i7∧FullV i7) 31 rfl hall).1
      have o370:=(word_all (A:=fun g w=>RV g.m w ([((x1).Yarn).Low,((x1).Yarn).High]:List Int) i7∧OS 3036 g w 3 ([((x1).Yarn).Low,((x1).Yarn).High]:List Int) i7∧FullV i7) 31 rfl hall).2.1
      clear hs hall
      refine Zb ?_
      obtain rfl:=sinj h
      exact hQ _ _ ⟨vD,hfr,rfl⟩
     ·refine E_drawL (g := g2) (n := 44) [(2, (fun v g w => RV g.m w ([(x1).Colour] : List Int) v ∧ OS 3007 g w 3 ([(x1).Colour] : List Int) v ∧ FullV v)), (3, (fun v g w => v = .bool (x6))), (7, (fun v g w => RV g.m w ([(x1).Side] : List Int) v ∧ OS 3012 g w 3 ([(x1).Side] : List Int) v ∧ FullV v)), (8, (fun v g w => v = .bool (y6))), (21, (fun v g w => RV g.m w ([(x1).Box] : List Int) v ∧ OS 3026 g w 3 ([(x1).Box] : List Int) v ∧ FullV v)), (22, (fun v g w => v = .bool (m7))), (31, (fun v g w => RV g.m w ([((x1).Yarn).Low, ((x1).Yarn).High] : List Int) v ∧ OS 3036 g w 3 ([((x1).Yarn).Low, ((x1).Yarn).High] : List Int) v ∧ FullV v)), (32, (fun v g w => v = .bool (k8)))] [0, 1, 2, 3, 4, 5, 6, 7, 8, 9, 10, 11, 12, 13, 14, 15, 16, 17, 18, 19, 20, 21, 22, 23, 24, 25, 26, 27, 28, 29, 30, 31, 32, 33, 34, 35, 36, 37, 38, 39, 40, 41, 42, 43] rfl mixed (by kernel_rfl) (⟨fun _ => up_and up_rv (up_and up_os (up_eq _)), fun _ => up_eq _, fun _ => up_and up_rv (up_and up_os (up_eq _)), fun _ => up_eq _, fun _ => up_and up_rv (up_and up_os (up_eq _)), fun _ => up_eq _, fun _ => up_and up_rv (up_and up_os (up_eq _)), fun _ => up_eq _, trivial⟩) ?_
      refine Gd (fPtr p2 0) rfl rfl (Zc at_37_0 rfl (PT.ptr q2)) ?_
      refine L_ld (c:=.int .i64 ((x1).Colour)) rfl rfl .plain (fun _ _ h=>h.ch) n8 rfl ?_
      refine L_do (φ:=fun v g w=>RV g.m w ([(x1).Colour]:List Int) v∧OS 3007 g w 3 ([(x1).Colour]:List Int) v∧FullV v) rfl rfl .plain (fun g w hd=>D_buildSlice (g:=g) 3007 (xs:=([(x1).Colour]:List Int)) (vs:=[.int .i64 ((x1).Colour)]) Try.underlying26 Try.sizeOf3 Try.zeroValue3 rfl rfl (.cons rfl .nil) (RVs.cons (Zj.2 rfl) RVs.nil) rfl rfl fun g' w' v hs o r hxt hfl=>⟨g',hxt,r,o,hfl⟩) (fun o0 hv=>?_)
      clear hv
      refine L_do (φ:=fun v g w=>v=.bool (x6)) rfl rfl .plain (fun g w hd=>Zp (g:=g) (vs:=[.int .i64 (0),.int .i64 (9),o0]) en138 (.cons rfl (.cons rfl (.cons rfl .nil))) (wk138 (word (A:=fun g w=>RV g.m w ([(x1).Colour]:List Int) o0∧OS 3007 g w 3 ([(x1).Colour]:List Int) o0∧FullV o0) 2 rfl rfl (deps_of hd)).1 r8) fun g' w' v hs hr=>⟨g',hs,hr⟩) (fun iA hv=>?_)
      obtain ⟨_,_,_,rfl⟩:=hv
      refine Gd (.bool (x6)) rfl rfl (Zk rfl) ?_
      refine L_y (fPtr p2 1) rfl rfl rfl rfl x5 (Zc at_37_1 rfl (PT.ptr q2)) ?_
      refine L_ld (c:=.int .i64 ((x1).Side)) rfl rfl (.yes2 rfl rfl x5) (fun _ _ h=>h.ch) x8 rfl ?_
      refine L_do (φ:=fun v g w=>RV g.m w ([(x1).Side]:List Int) v∧OS 3012 g w 3 ([(x1).Side]:List Int) v∧FullV v) rfl rfl (.yes2 rfl rfl x5) (fun g w hd=>D_buildSlice (g:=g) 3012 (xs:=([(x1).Side]:List Int)) (vs:=[.int .i64 ((x1).Side)]) Try.underlying26 Try.sizeOf3 Try.zeroValue3 rfl rfl (.cons rfl .nil) (RVs.cons (Zj.2 rfl) RVs.nil) rfl rfl fun g' w' v hs o r hxt hfl=>⟨g',hxt,r,o,hfl⟩) (fun l5 hv=>?_)
      clear hv
      refine L_do (φ:=fun v g w=>v=.bool (y6)) rfl rfl (.yes2 rfl rfl x5) (fun g w hd=>Zp (g:=g) (vs:=[.int .i64 (0),.int .i64 (1),l5]) en138 (.cons rfl (.cons rfl (.cons rfl .nil))) (wk138 (word (A:=fun g w=>RV g.m w ([(x1).Side]:List Int) l5∧OS 3012 g w 3 ([(x1).Side]:List Int) l5∧FullV l5) 7 rfl rfl (deps_of hd)).1 a9) fun g' w' v hs hr=>⟨g',hs,hr⟩) (fun aB hv=>?_)
      obtain ⟨_,_,_,rfl⟩:=hv
      refine Gd (.bool (y6)) rfl rfl (Zl (b:=x6) rfl (pick_t x5 rfl)) ?_
      refine Gd (.bool (y6)) rfl rfl (Zk rfl) ?_
      refine L_y (fPtr p1 0) rfl rfl rfl rfl u3 (Zc at_142_0 rfl (PT.ptr q1)) ?_
      refine L_y (fPtr (fPtr p1 0) 0) rfl rfl rfl rfl u3 (Zc at_40_0 rfl (PT.ptr k9)) ?_
      refine L_ld (c:=v8) rfl rfl (.yes2 rfl rfl u3) (fun _ _ h=>h.ch) n9 rfl ?_
      refine L_y (fPtr p2 1) rfl rfl rfl rfl u3 (Zc at_37_1 rfl (PT.ptr q2)) ?_
      refine L_ld (c:=.int .i64 ((x1).Side)) rfl rfl (.yes2 rfl rfl u3) (fun _ _ h=>h.ch) u9 rfl ?_
      refine L_y (ePtr v8 (x1).Side 1) rfl rfl rfl rfl u3 (Zh (α:=Int) Try.underlying26 Try.sizeOf3 rfl l9 rfl d9) ?_
      refine L_ld (c:=.int .i64 (l8)) rfl rfl (.yes2 rfl rfl u3) (fun _ _ h=>h.ch) y9 rfl ?_
      refine L_y (.int .i64 ((w64 (l8 - (1:Int))))) rfl rfl rfl rfl u3 (P_int rfl rfl rfl) ?_
      refine L_y (fPtr p2 2) rfl rfl rfl rfl u3 (Zc at_37_2 rfl (PT.ptr q2)) ?_
      refine L_ld (c:=.int .i64 ((x1).Box)) rfl rfl (.yes2 rfl rfl u3) (fun _ _ h=>h.ch) z9 rfl ?_
      refine L_do (φ:=fun v g w=>RV g.m w ([(x1).Box]:List Int) v∧OS 3026 g w 3 ([(x1).Box]:List Int) v∧FullV v) rfl rfl (.yes2 rfl rfl u3) (fun g w hd=>D_buildSlice (g:=g) 3026 (xs:=([(x1).Box]:List Int)) (vs:=[.int .i64 ((x1).Box)]) Try.underlying26 Try.sizeOf3 Try.zeroValue3 rfl rfl (.cons rfl .nil) (RVs.cons (Zj.2 rfl) RVs.nil) rfl rfl fun g' w' v hs o r hxt hfl=>⟨g',hxt,r,o,hfl⟩) (fun t5 hv=>?_)
      clear hv
      refine L_do (φ:=fun v g w=>v=.bool (m7)) rfl rfl (.yes2 rfl rfl u3) (fun g w hd=>Zp (g:=g) (vs:=[.int .i64 (0),.int .i64 ((w64 (l8 - (1:Int)))),t5]) en138 (.cons rfl (.cons rfl (.cons rfl .nil))) (wk138 (word (A:=fun g w=>RV g.m w ([(x1).Box]:List Int) t5∧OS 3026 g w 3 ([(x1).Box]:List Int) t5∧FullV t5) 21 rfl rfl (deps_of hd)).1 bA) fun g' w' v hs hr=>⟨g',hs,hr⟩) (fun oB hv=>?_)
      obtain ⟨_,_,_,rfl⟩:=hv
      refine Gd (.bool (m7)) rfl rfl (Zl (b:=y6) rfl (pick_t u3 rfl)) ?_
      refine Gd (.bool (m7)) rfl rfl (Zk rfl) ?_
      refine L_y (fPtr p2 3) rfl rfl rfl rfl i6 (Zc at_37_3 rfl (PT.ptr q2)) ?_
      refine L_y (fPtr (fPtr p2 3) 0) rfl rfl rfl rfl i6 (Zc at_35_0 rfl (PT.ptr rA)) ?_
      refine L_ld (c:=.int .i64 (((x1).Yarn).Low)) rfl rfl (.yes2 rfl rfl i6) (fun _ _ h=>h.ch) dB rfl ?_
      refine L_y (fPtr p2 3) rfl rfl rfl rfl i6 (Zc at_37_3 rfl (PT.ptr q2)) ?_
      refine L_y (fPtr (fPtr p2 3) 1) rfl rfl rfl rfl i6 (Zc at_35_1 rfl (PT.ptr yA)) ?_
      refine L_ld (c:=.int .i64 (((x1).Yarn).High)) rfl rfl (.yes2 rfl rfl i6) (fun _ _ h=>h.ch) iB rfl ?_
      refine L_do (φ:=fun v g w=>RV g.m w ([((x1).Yarn).Low,((x1).Yarn).High]:List Int) v∧OS 3036 g w 3 ([((x1).Yarn).Low,((x1).Yarn).High]:List Int) v∧FullV v) rfl rfl (.yes2 rfl rfl i6) (fun g w hd=>D_buildSlice (g:=g) 3036 (xs:=([((x1).Yarn).Low,((x1).Yarn).High]:List Int)) (vs:=[.int .i64 (((x1).Yarn).Low),.int .i64 (((x1).Yarn).High)]) Try.underlying26 Try.sizeOf3 Try.zeroValue3 rfl rfl (.cons rfl (.cons rfl .nil)) (RVs.cons (Zj.2 rfl) (RVs.cons (Zj.2 rfl) RVs.nil)) rfl rfl fun g' w' v hs o r hxt hfl=>⟨g',hxt,r,o,hfl⟩) (fun i7 hv=>?_)
      clear hv
      refine L_do (φ:=fun v g w=>v=.bool (k8)) rfl rfl (.yes2 rfl rfl i6) (fun g w hd=>Zp (g:=g) (vs:=[.int .i64 (0),.int .i64 (1000),i7]) en138 (.cons rfl (.cons rfl (.cons rfl .nil))) (wk138 (word (A:=fun g w=>RV g.m w ([((x1).Yarn).Low,((x1).Yarn).High]:List Int) i7∧OS 3036 g w 3 ([((x1).Yarn).Low,((x1).Yarn).High]:List Int) i7∧FullV i7) 31 rfl rfl (deps_of hd)).1 lB) fun g' w' v hs hr=>⟨g',hs,hr⟩) (fun uD hv=>?_)
      obtain ⟨_,_,_,rfl⟩:=hv
      refine Gd (.bool (k8)) rfl rfl (Zl (b:=m7) rfl (pick_t i6 rfl)) ?_
      refine Gd (.bool (k8)) rfl rfl (Zk rfl) ?_
      iterate 7 refine L_s rfl rfl rfl g8 rfl ?_
      refine Gd (.bool false) rfl rfl (Zl (b:=k8) rfl (pick_f g8 rfl)) ?_
      refine Gd (.bool false) rfl rfl (P_assign rfl) ?_
      refine L_nil fun xD tF hall=>?_
      have hs:=hall.1
      have hfr:=hfr.ext hs
      have uF:=(word_all (A:=fun g w=>RV g.m w ([(x1).Colour]:List Int) o0∧OS 3007 g w 3 ([(x1).Colour]:List Int) o0∧FullV o0) 2 rfl hall).1
      have o390:=(word_all (A:=fun g w=>RV g.m w ([(x1).Colour]:List Int) o0∧OS 3007 g w 3 ([(x1).Colour]:List Int) o0∧FullV o0) 2 rfl hall).2.1
      have vF:=(word_all (A:=fun g w=>RV g.m w ([(x1).Side]:List Int) l5∧OS 3012 g w 3 ([(x1).Side]:List Int) l5∧FullV l5) 7 rfl hall).1
      have o395:=(word_all (A:=fun g w=>RV g.m w ([(x1).Side]:List Int) l5∧OS 3012 g w 3 ([(x1).Side]:List Int) l5∧FullV l5) 7 rfl hall).2.1
      have xF:=(word_all (A:=fun g w=>RV g.m w ([(x1).Box]:List Int) t5∧OS 3026 g w 3 ([(x1).Box]:List Int) t5∧FullV t5) 21 rfl hall).1
      have o409:=(word_all (A:=fun g w=>RV g.m w ([(x1).Box]:List Int) t5∧OS 3026 g w 3 ([(x1).Box]:List Int) t5∧FullV t5) 21 rfl hall).2.1
      have yF:=(word_all (A:=fun g w=>RV g.m w ([((x1).Yarn).Low,((x1).Yarn).High]:List Int) i7∧OS 3036 g w 3 ([((x1).Yarn).Low,((x1).Yarn).High]:List Int) i7∧FullV i7) 31 rfl hall).1
      have o419:=(word_all (A:=fun g w=>RV g.m w ([((x1).Yarn).Low,((x1).Yarn).High]:List Int) i7∧OS 3036 g w 3 ([((x1).Yarn).Low,((x1).Yarn).High]:List Int) i7∧FullV i7) 31 rfl hall).2.1
      clear hs hall
      refine Zb ?_
      obtain rfl:=sinj h
      exact hQ _ _ ⟨xD,hfr,rfl⟩
    ·refine E_drawL (g := g2) (n := 44) [(2, (fun v g w => RV g.m w ([(x1).Colour] : List Int) v ∧ OS 3007 g w 3 ([(x1).Colour] : List Int) v ∧ FullV v)), (3, (fun v g w => v = .bool (x6))), (7, (fun v g w => RV g.m w ([(x1).Side] : List Int) v ∧ OS 3012 g w 3 ([(x1).Side] : List Int) v ∧ FullV v)), (8, (fun v g w => v = .bool (y6))), (21, (fun v g w => RV g.m w ([(x1).Box] : List Int) v ∧ OS 3026 g w 3 ([(x1).Box] : List Int) v ∧ FullV v)), (22, (fun v g w => v = .bool (m7)))] [0, 1, 2, 3, 4, 5, 6, 7, 8, 9, 10, 11, 12, 13, 14, 15, 16, 17, 18, 19, 20, 21, 22, 23, 24, 25, 26, 27, 28, 29, 30, 31, 32, 33, 34, 35, 36, 37, 38, 39, 40, 41, 42, 43] rfl mixed (by kernel_rfl) (⟨fun _ => up_and up_rv (up_and up_os (up_eq _)), fun _ => up_eq _, fun _ => up_and up_rv (up_and up_os (up_eq _)), fun _ => up_eq _, fun _ => up_and up_rv (up_and up_os (up_eq _)), fun _ => up_eq _, trivial⟩) ?_
     refine Gd (fPtr p2 0) rfl rfl (Zc at_37_0 rfl (PT.ptr q2)) ?_
     refine L_ld (c:=.int .i64 ((x1).Colour)) rfl rfl .plain (fun _ _ h=>h.ch) n8 rfl ?_
     refine L_do (φ:=fun v g w=>RV g.m w ([(x1).Colour]:List Int) v∧OS 3007 g w 3 ([(x1).Colour]:List Int) v∧FullV v) rfl rfl .plain (fun g w hd=>D_buildSlice (g:=g) 3007 (xs:=([(x1).Colour]:List Int)) (vs:=[.int .i64 ((x1).Colour)]) Try.underlying26 Try.sizeOf3 Try.zeroValue3 rfl rfl (.cons rfl .nil) (RVs.cons (Zj.2 rfl) RVs.nil) rfl rfl fun g' w' v hs o r hxt hfl=>⟨g',hxt,r,o,hfl⟩) (fun o0 hv=>?_)
     clear hv
     refine L_do (φ:=fun v g w=>v=.bool (x6)) rfl rfl .plain (fun g w hd=>Zp (g:=g) (vs:=[.int .i64 (0),.int .i64 (9),o0]) en138 (.cons rfl (.cons rfl (.cons rfl .nil))) (wk138 (word (A:=fun g w=>RV g.m w ([(x1).Colour]:List Int) o0∧OS 3007 g w 3 ([(x1).Colour]:List Int) o0∧FullV o0) 2 rfl rfl (deps_of hd)).1 r8) fun g' w' v hs hr=>⟨g',hs,hr⟩) (fun iA hv=>?_)
     obtain ⟨_,_,_,rfl⟩:=hv
     refine Gd (.bool (x6)) rfl rfl (Zk rfl) ?_
     refine L_y (fPtr p2 1) rfl rfl rfl rfl x5 (Zc at_37_1 rfl (PT.ptr q2)) ?_
     refine L_ld (c:=.int .i64 ((x1).Side)) rfl rfl (.yes2 rfl rfl x5) (fun _ _ h=>h.ch) x8 rfl ?_
     refine L_do (φ:=fun v g w=>RV g.m w ([(x1).Side]:List Int) v∧OS 3012 g w 3 ([(x1).Side]:List Int) v∧FullV v) rfl rfl (.yes2 rfl rfl x5) (fun g w hd=>D_buildSlice (g:=g) 3012 (xs:=([(x1).Side]:List Int)) (vs:=[.int .i64 ((x1).Side)]) Try.underlying26 Try.sizeOf3 Try.zeroValue3 rfl rfl (.cons rfl .nil) (RVs.cons (Zj.2 rfl) RVs.nil) rfl rfl fun g' w' v hs o r hxt hfl=>⟨g',hxt,r,o,hfl⟩) (fun l5 hv=>?_)
     clear hv
     refine L_do (φ:=fun v g w=>v=.bool (y6)) rfl rfl (.yes2 rfl rfl x5) (fun g w hd=>Zp (g:=g) (vs:=[.int .i64 (0),.int .i64 (1),l5]) en138 (.cons rfl (.cons rfl (.cons rfl .nil))) (wk138 (word (A:=fun g w=>RV g.m w ([(x1).Side]:List Int) l5∧OS 3012 g w 3 ([(x1).Side]:List Int) l5∧FullV l5) 7 rfl rfl (deps_of hd)).1 a9) fun g' w' v hs hr=>⟨g',hs,hr⟩) (fun aB hv=>?_)
     obtain ⟨_,_,_,rfl⟩:=hv
     refine Gd (.bool (y6)) rfl rfl (Zl (b:=x6) rfl (pick_t x5 rfl)) ?_
     refine Gd (.bool (y6)) rfl rfl (Zk rfl) ?_
     refine L_y (fPtr p1 0) rfl rfl rfl rfl u3 (Zc at_142_0 rfl (PT.ptr q1)) ?_
     refine L_y (fPtr (fPtr p1 0) 0) rfl rfl rfl rfl u3 (Zc at_40_0 rfl (PT.ptr k9)) ?_
     refine L_ld (c:=v8) rfl rfl (.yes2 rfl rfl u3) (fun _ _ h=>h.ch) n9 rfl ?_
     refine L_y (fPtr p2 1) rfl rfl rfl rfl u3 (Zc at_37_1 rfl (PT.ptr q2)) ?_
     refine L_ld (c:=.int .i64 ((x1).Side)) rfl rfl (.yes2 rfl rfl u3) (fun _ _ h=>h.ch) u9 rfl ?_
     refine L_y (ePtr v8 (x1).Side 1) rfl rfl rfl rfl u3 (Zh (α:=Int) Try.underlying26 Try.sizeOf3 rfl l9 rfl d9) ?_
     refine L_ld (c:=.int .i64 (l8)) rfl rfl (.yes2 rfl rfl u3) (fun _ _ h=>h.ch) y9 rfl ?_
     refine L_y (.int .i64 ((w64 (l8 - (1:Int))))) rfl rfl rfl rfl u3 (P_int rfl rfl rfl) ?_
     refine L_y (fPtr p2 2) rfl rfl rfl rfl u3 (Zc at_37_2 rfl (PT.ptr q2)) ?_
     refine L_ld (c:=.int .i64 ((x1).Box)) rfl rfl (.yes2 rfl rfl u3) (fun _ _ h=>h.ch) z9 rfl ?_
     refine L_do (φ:=fun v g w=>RV g.m w ([(x1).Box]:List Int) v∧OS 3026 g w 3 ([(x1).Box]:List Int) v∧FullV v) rfl rfl (.yes2 rfl rfl u3) (fun g w hd=>D_buildSlice (g:=g) 3026 (xs:=([(x1).Box]:List Int)) (vs:=[.int .i64 ((x1).Box)]) Try.underlying26 Try.sizeOf3 Try.zeroValue3 rfl rfl (.cons rfl .nil) (RVs.cons (Zj.2 rfl) RVs.nil) rfl rfl fun g' w' v hs o r hxt hfl=>⟨g',hxt,r,o,hfl⟩) (fun t5 hv=>?_)
     clear hv
     refine L_do (φ:=fun v g w=>v=.bool (m7)) rfl rfl (.yes2 rfl rfl u3) (fun g w hd=>Zp (g:=g) (vs:=[.int .i64 (0),.int .i64 ((w64 (l8 - (1:Int)))),t5]) en138 (.cons rfl (.cons rfl (.cons rfl .nil))) (wk138 (word (A:=fun g w=>RV g.m w ([(x1).Box]:List Int) t5∧OS 3026 g w 3 ([(x1).Box]:List Int) t5∧FullV t5) 21 rfl rfl (deps_of hd)).1 bA) fun g' w' v hs hr=>⟨g',hs,hr⟩) (fun oB hv=>?_)
     obtain ⟨_,_,_,rfl⟩:=hv
     refine Gd (.bool (m7)) rfl rfl (Zl (b:=y6) rfl (pick_t u3 rfl)) ?_
     refine Gd (.bool (m7)) rfl rfl (Zk rfl) ?_
     iterate 8 refine L_s rfl rfl rfl i6 rfl ?_
     refine Gd (.bool false) rfl rfl (Zl (b:=m7) rfl (pick_f i6 rfl)) ?_
     refine L_dead (fun _=>rfl) 9 rfl ?_
     refine Gd (.bool false) rfl rfl (P_assign rfl) ?_
     refine L_nil fun yD zF hall=>?_
     have hs:=hall.1
     have hfr:=hfr.ext hs
     have aG:=(word_all (A:=fun g w=>RV g.m w ([(x1).Colour]:List Int) o0∧OS 3007 g w 3 ([(x1).Colour]:List Int) o0∧FullV o0) 2 rfl hall).1
     have o439:=(word_all (A:=fun g w=>RV g.m w ([(x1).Colour]:List Int) o0∧OS 3007 g w 3 ([(x1).Colour]:List Int) o0∧FullV o0) 2 rfl hall).2.1
     have bG:=(word_all (A:=fun g w=>RV g.m w ([(x1).Side]:List Int) l5∧OS 3012 g w 3 ([(x1).Side]:List Int) l5∧FullV l5) 7 rfl hall).1
     have o444:=(word_all (A:=fun g w=>RV g.m w ([(x1).Side]:List Int) l5∧OS 3012 g w 3 ([(x1).Side]:List Int) l5∧FullV l5) 7 rfl hall).2.1
     have cG:=(word_all (A:=fun g w=>RV g.m w ([(x1).Box]:List Int) t5∧OS 3026 g w 3 ([(x1).Box]:List Int) t5∧FullV t5) 21 rfl hall).1
     have o458:=(word_all (A:=fun g w=>RV g.m w ([(x1).Box]:List Int) t5∧OS 3026 g w 3 ([(x1).Box]:List Int) t5∧FullV t5) 21 rfl hall).2.1
     clear hs hall
     refine Zb ?_
     obtain rfl:=sinj h
     exact hQ _ _ ⟨yD,hfr,rfl⟩
   ·refine E_drawL (g := g2) (n := 44) [(2, (fun v g w => RV g.m w ([(x1).Colour] : List Int) v ∧ OS 3007 g w 3 ([(x1).Colour] : List Int) v ∧ FullV v)), (3, (fun v g w => v = .bool (x6))), (7, (fun v g w => RV g.m w ([(x1).Side] : List Int) v ∧ OS 3012 g w 3 ([(x1).Side] : List Int) v ∧ FullV v)), (8, (fun v g w => v = .bool (y6)))] [0, 1, 2, 3, 4, 5, 6, 7, 8, 9, 10, 11, 12, 13, 14, 15, 16, 17, 18, 19, 20, 21, 22, 23, 24, 25, 26, 27, 28, 29, 30, 31, 32, 33, 34, 35, 36, 37, 38, 39, 40, 41, 42, 43] rfl mixed (by kernel_rfl) (⟨fun _ => up_and up_rv (up_and up_os (up_eq _)), fun _ => up_eq _, fun _ => up_and up_rv (up_and up_os (up_eq _)), fun _ => up_eq _, trivial⟩) ?_
    refine Gd (fPtr p2 0) rfl rfl (Zc at_37_0 rfl (PT.ptr q2)) ?_
    refine L_ld (c:=.int .i64 ((x1).Colour)) rfl rfl .plain (fun _ _ h=>h.ch) n8 rfl ?_
    refine L_do (φ:=fun v g w=>RV g.m w ([(x1).Colour]:List Int) v∧OS 3007 g w 3 ([(x1).Colour]:List Int) v∧FullV v) rfl rfl .plain (fun g w hd=>D_buildSlice (g:=g) 3007 (xs:=([(x1).Colour]:List Int)) (vs:=[.int .i64 ((x1).Colour)]) Try.underlying26 Try.sizeOf3 Try.zeroValue3 rfl rfl (.cons rfl .nil) (RVs.cons (Zj.2 rfl) RVs.nil) rfl rfl fun g' w' v hs o r hxt hfl=>⟨g',hxt,r,o,hfl⟩) (fun o0 hv=>?_)
    clear hv
    refine L_do (φ:=fun v g w=>v=.bool (x6)) rfl rfl .plain (fun g w hd=>Zp (g:=g) (vs:=[.int .i64 (0),.int .i64 (9),o0]) en138 (.cons rfl (.cons rfl (.cons rfl .nil))) (wk138 (word (A:=fun g w=>RV g.m w ([(x1).Colour]:List Int) o0∧OS 3007 g w 3 ([(x1).Colour]:List Int) o0∧FullV o0) 2 rfl rfl (deps_of hd)).1 r8) fun g' w' v hs hr=>⟨g',hs,hr⟩) (fun iA hv=>?_)
    obtain ⟨_,_,_,rfl⟩:=hv
    refine Gd (.bool (x6)) rfl rfl (Zk rfl) ?_
    refine L_y (fPtr p2 1) rfl rfl rfl rfl x5 (Zc at_37_1 rfl (PT.ptr q2)) ?_
    refine L_ld (c:=.int .i64 ((x1).Side)) rfl rfl (.yes2 rfl rfl x5) (fun _ _ h=>h.ch) x8 rfl ?_
    refine L_do (φ:=fun v g w=>RV g.m w ([(x1).Side]:List Int) v∧OS 3012 g w 3 ([(x1).Side]:List Int) v∧FullV v) rfl rfl (.yes2 rfl rfl x5) (fun g w hd=>D_buildSlice (g:=g) 3012 (xs:=([(x1).Side]:List Int)) (vs:=[.int .i64 ((x1).Side)]) Try.underlying26 Try.sizeOf3 Try.zeroValue3 rfl rfl (.cons rfl .nil) (RVs.cons (Zj.2 rfl) RVs.nil) rfl rfl fun g' w' v hs o r hxt hfl=>⟨g',hxt,r,o,hfl⟩) (fun l5 hv=>?_)
    clear hv
    refine L_do (φ:=fun v g w=>v=.bool (y6)) rfl rfl (.yes2 rfl rfl x5) (fun g w hd=>Zp (g:=g) (vs:=[.int .i64 (0),.int .i64 (1),l5]) en138 (.cons rfl (.cons rfl (.cons rfl .nil))) (wk138 (word (A:=fun g w=>RV g.m w ([(x1).Side]:List Int) l5∧OS 3012 g w 3 ([(x1).Side]:List Int) l5∧FullV l5) 7 rfl rfl (deps_of hd)).1 a9) fun g' w' v hs hr=>⟨g',hs,hr⟩) (fun aB hv=>?_)
    obtain ⟨_,_,_,rfl⟩:=hv
    refine Gd (.bool (y6)) rfl rfl (Zl (b:=x6) rfl (pick_t x5 rfl)) ?_
    refine Gd (.bool (y6)) rfl rfl (Zk rfl) ?_
    iterate 12 refine L_s rfl rfl rfl u3 rfl ?_
    refine Gd (.bool false) rfl rfl (Zl (b:=y6) rfl (pick_f u3 rfl)) ?_
    refine L_dead (fun _=>rfl) 19 rfl ?_
    refine Gd (.bool false) rfl rfl (P_assign rfl) ?_
    refine L_nil fun zD eG hall=>?_
    have hs:=hall.1
    have hfr:=hfr.ext hs
    have gG:=(word_all (A:=fun g w=>RV g.m w ([(x1).Colour]:List Int) o0∧OS 3007 g w 3 ([(x1).Colour]:List Int) o0∧FullV o0) 2 rfl hall).1
    have o488:=(word_all (A:=fun g w=>RV g.m w ([(x1).Colour]:List Int) o0∧OS 3007 g w 3 ([(x1).Colour]:List Int) o0∧FullV o0) 2 rfl hall).2.1
    have hG:=(word_all (A:=fun g w=>RV g.m w ([(x1).Side]:List Int) l5∧OS 3012 g w 3 ([(x1).Side]:List Int) l5∧FullV l5) 7 rfl hall).1
    have o493:=(word_all (A:=fun g w=>RV g.m w ([(x1).Side]:List Int) l5∧OS 3012 g w 3 ([(x1).Side]:List Int) l5∧FullV l5) 7 rfl hall).2.1
    clear hs hall
    refine Zb ?_
    obtain rfl:=sinj h
    exact hQ _ _ ⟨zD,hfr,rfl⟩
  ·refine E_drawL (g := g2) (n := 44) [(2, (fun v g w => RV g.m w ([(x1).Colour] : List Int) v ∧ OS 3007 g w 3 ([(x1).Colour] : List Int) v ∧ FullV v)), (3, (fun v g w => v = .bool (x6)))] [0, 1, 2, 3, 4, 5, 6, 7, 8, 9, 10, 11, 12, 13, 14, 15, 16, 17, 18, 19, 20, 21, 22, 23, 24, 25, 26, 27, 28, 29, 30, 31, 32, 33, 34, 35, 36, 37, 38, 39, 40, 41, 42, 43] rfl mixed (by kernel_rfl) (⟨fun _ => up_and up_rv (up_and up_os (up_eq _)), fun _ => up_eq _, trivial⟩) ?_
   refine Gd (fPtr p2 0) rfl rfl (Zc at_37_0 rfl (PT.ptr q2)) ?_
   refine L_ld (c:=.int .i64 ((x1).Colour)) rfl rfl .plain (fun _ _ h=>h.ch) n8 rfl ?_
   refine L_do (φ:=fun v g w=>RV g.m w ([(x1).Colour]:List Int) v∧OS 3007 g w 3 ([(x1).Colour]:List Int) v∧FullV v) rfl rfl .plain (fun g w hd=>D_buildSlice (g:=g) 3007 (xs:=([(x1).Colour]:List Int)) (vs:=[.int .i64 ((x1).Colour)]) Try.underlying26 Try.sizeOf3 Try.zeroValue3 rfl rfl (.cons rfl .nil) (RVs.cons (Zj.2 rfl) RVs.nil) rfl rfl fun g' w' v hs o r hxt hfl=>⟨g',hxt,r,o,hfl⟩) (fun o0 hv=>?_)
   clear hv
   refine L_do (φ:=fun v g w=>v=.bool (x6)) rfl rfl .plain (fun g w hd=>Zp (g:=g) (vs:=[.int .i64 (0),.int .i64 (9),o0]) en138 (.cons rfl (.cons rfl (.cons rfl .nil))) (wk138 (word (A:=fun g w=>RV g.m w ([(x1).Colour]:List Int) o0∧OS 3007 g w 3 ([(x1).Colour]:List Int) o0∧FullV o0) 2 rfl rfl (deps_of hd)).1 r8) fun g' w' v hs hr=>⟨g',hs,hr⟩) (fun iA hv=>?_)
   obtain ⟨_,_,_,rfl⟩:=hv
   refine Gd (.bool (x6)) rfl rfl (Zk rfl) ?_
   iterate 4 refine L_s rfl rfl rfl x5 rfl ?_
   refine Gd (.bool false) rfl rfl (Zl (b:=x6) rfl (pick_f x5 rfl)) ?_
   refine L_dead (fun _=>rfl) 33 rfl ?_
   refine Gd (.bool false) rfl rfl (P_assign rfl) ?_
   refine L_nil fun aE iG hall=>?_
   have hs:=hall.1
   have hfr:=hfr.ext hs
   have jG:=(word_all (A:=fun g w=>RV g.m w ([(x1).Colour]:List Int) o0∧OS 3007 g w 3 ([(x1).Colour]:List Int) o0∧FullV o0) 2 rfl hall).1
   have o537:=(word_all (A:=fun g w=>RV g.m w ([(x1).Colour]:List Int) o0∧OS 3007 g w 3 ([(x1).Colour]:List Int) o0∧FullV o0) 2 rfl hall).2.1
   clear hs hall
   refine Zb ?_
   obtain rfl:=sinj h
   exact hQ _ _ ⟨aE,hfr,rfl⟩
 ·clear hx
  obtain ⟨kG,hfr,tB⟩:=hR
  refine E_ret ?_
  obtain rfl:=sinj h
  exact end1 rfl rfl (show _=.bool (m8) from tB) ⟨_,hfr,rfl⟩
def f136 (x0:BoxBoxLoom):Option (Bool):=
 jn (σ:=Unit) (fun _=>
  some (true)
  ) fun oB=>
 lp (σ:=Int) (fun tB u3=>
  bif (decide (u3 < ((((x0).BoxLoom).Boxes).length : Int))) then
   jn (σ:=Unit) (fun _=>
    tB ((w64 (u3 + (1:Int))))
    ) fun x8=>
   (idx (((x0).BoxLoom).Boxes) u3).bind fun x5=>
   Option.bind (α:=Bool) (
    (f138 ((1:Int)) ((4:Int)) (([x5]:List Int))).bind fun y130=>
    bif (!y130) then
     some (true)
    else
     (idx (((x0).BoxLoom).At) u3).bind fun y135=>
     (f138 ((0:Int)) ((w64 (x5 - (1:Int)))) (([y135]:List Int))).bind fun y140=>
     some ((!y140))
    ) fun i6=>
   bif i6 then
    some (false)
   else
    x8 ()
  else
   oB ()
  ) big ((0:Int))
theorem en136:Enters Try.prog 136:=enters_of Try.func136 (by kernel_rfl) rfl
theorem wk136 {gI:Gh} {wI:World} {x0:BoxBoxLoom} {up0:Value} (rp0:RV gI.m wI x0 up0) {r:Bool} (h:f136 x0=some r):Fn Try.prog 136 #[up0] gI wI (fun _ _ v=>v=.bool (r)):=by
 unfold f136 at h
 refine fn_of_E Try.func136 rfl (Nat.le_of_ble_eq_true rfl) fun g0 hm hfr=>?_
 have rp0:RV g0.m wI x0 up0:=hm ▸ rp0
 show E _ 32 none _ _ _ _ _
 refine Zf (Za (Ze .plain rfl (D_box (g:=g0) rfl rp0 fun g1 w1 p1 hs q1=>?_)))
 have hfr:=hfr.ext hs
 refine Zg (.bool false) rfl rfl ?_
 refine Zb (Zd (Zq h (fun (s:Unit) e w=>∃ (g:Gh) ,Fr gI wI g w) (fun X73 oB zB h=>?_) ?_))
 ·refine Zf (Za (Ga (fPtr p1 0) (Zc at_142_0 rfl (PT.ptr q1)) rfl ?_))
  have vB:=Zm (part_BoxBoxLoom_0).1 q1
  refine Ga (fPtr (fPtr p1 0) 0) (Zc at_40_0 rfl (PT.ptr vB)) rfl ?_
  have sD:=Zm (part_BoxLoom_0).1 vB
  refine Ze .plain rfl (D_load (g:=g1) Try.isAgg26 Try.sizeOf26 rfl sD fun y6 yB=>?_)
  refine Ga (.int .i64 ((((x0).BoxLoom).Boxes).length:Int)) (P_len Try.underlying26 rfl yB) rfl ?_
  refine Zn (.int .i64 (0)) rfl rfl ?_
  refine Zb (Zd (Zr ?_))
  refine E_lp h (fun (s:Int) e w=>∃ (g:Gh) ,Fr gI wI g w∧e 1=p1∧PT g.m w (x0:BoxBoxLoom) p1∧e 7=y6∧RV g.m w (((x0).BoxLoom).Boxes:List Int) y6∧e 8=.int .i64 (((((x0).BoxLoom).Boxes).length:Int))∧e 9=.int .i64 (s)) ⟨g1,hfr,rfl,q1,rfl,yB,rfl,rfl⟩ (fun X77 tB cC=>?_)
  rintro u3 zD yE ⟨a9,hfr,m7,l5,g8,t5,k8,x6⟩ h
  refine Zf (Za (Ga (.bool ((decide (u3 < ((((x0).BoxLoom).Boxes).length:Int))))) (P_int x6 k8 rfl) rfl ?_))
  refine Zb (Zd (Zf ?_))
  rcases Zt h with ⟨n8,h⟩ | ⟨n8,h⟩
  ·refine E_ct n8 rfl ?_
   refine Zu (Zd (Zq h (fun (s:Unit) e w=>∃ (g:Gh) ,Fr gI wI g w∧e 1=p1∧PT g.m w (x0:BoxBoxLoom) p1∧e 7=y6∧RV g.m w (((x0).BoxLoom).Boxes:List Int) y6∧e 8=.int .i64 (((((x0).BoxLoom).Boxes).length:Int))∧e 9=.int .i64 (u3)) (fun X111 x8 lB h=>?_) ?_))
   ·refine Zr ?_
    refine Zf (Za (Zo x6 rfl ?_))
    obtain ⟨x5,r8,h⟩:=Ge h
    refine Ga (ePtr y6 u3 1) (Zh (α:=Int) Try.underlying26 Try.sizeOf3 g8 t5 x6 r8) rfl ?_
    have mC:=PT_idx t5 r8
    refine Ze .plain rfl (D_load (g:=a9) Try.isAgg3 Try.sizeOf3 rfl mC fun aE qC=>?_)
    obtain rfl:=Zj.1 qC
    refine Zg (.int .i64 (u3)) rfl rfl ?_
    refine Zg (.int .i64 (x5)) rfl rfl ?_
    refine Zb (Zd ?_)
    obtain ⟨i6,hx,h⟩:=Ge h
    refine E_join (fun e w=>∃ (g:Gh) ,Fr gI wI g w∧e 1=p1∧PT g.m w (x0:BoxBoxLoom) p1∧e 7=y6∧RV g.m w (((x0).BoxLoom).Boxes:List Int) y6∧e 8=.int .i64 (((((x0).BoxLoom).Boxes).length:Int))∧e 9=.int .i64 (u3)∧e 30=.bool (i6)) (fun Q' hQ=>?_) (fun tD bE hR=>?_)
    ·replace h := hx
     clear hx
     refine Za (Zn (.int .i64 (x5)) rfl rfl ?_)
     refine Ze .plain rfl (D_buildSlice (g:=a9) 3015 (xs:=([x5]:List Int)) (vs:=[.int .i64 (x5)]) Try.underlying26 Try.sizeOf3 Try.zeroValue3 rfl rfl (.cons rfl .nil) (RVs.cons (Zj.2 rfl) RVs.nil) rfl rfl fun rC iE uC hs o128 vC hxt hfl=>?_)
     have hfr:=hfr.stp hs
     have l5:=l5.stp hs
     have t5:=t5.stp hs
     obtain ⟨y130,mB,h⟩:=Ge h
     refine Ze .plain rfl (Zp (g:=rC) (vs:=[.int .i64 (1),.int .i64 (4),uC]) en138 (.cons rfl (.cons rfl (.cons rfl .nil))) (wk138 vC mB) fun l8 uD lE hs hr=>?_)
     have hfr:=hfr.ext hs
     have l5:=l5.ext hs
     have t5:=t5.ext hs
     subst hr
     refine Ga (.bool (!y130)) (P_not rfl) rfl ?_
     refine Zn (.bool (!y130)) rfl rfl ?_
     rcases Zt h with ⟨o0,h⟩ | ⟨o0,h⟩
     ·refine Gc rfl rfl o0 rfl rfl ?_
      iterate 10 refine Gc rfl rfl o0 rfl rfl ?_
      refine Ga (.bool true) (Zl (b:=(!y130)) rfl (pick_t o0 rfl)) rfl ?_
      refine Zb ?_
      obtain rfl:=sinj h
      exact hQ _ _ ⟨l8,hfr,m7,l5,g8,t5,k8,x6,rfl⟩
     ·refine Gb (.int .i64 (x5)) (Zk rfl) rfl rfl o0 rfl ?_
      refine Gb (.int .i64 ((w64 (x5 - (1:Int))))) (P_int rfl rfl rfl) rfl rfl o0 rfl ?_
      refine Gb (fPtr p1 0) (Zc at_142_0 m7 (PT.ptr l5)) rfl rfl o0 rfl ?_
      have d9:=Zm (part_BoxBoxLoom_0).1 l5
      refine Gb (fPtr (fPtr p1 0) 1) (Zc at_40_1 rfl (PT.ptr d9)) rfl rfl o0 rfl ?_
      have aD:=Zm (part_BoxLoom_1).1 d9
      refine Ze (.yes2 rfl rfl o0) rfl (D_load (g:=l8) Try.isAgg26 Try.sizeOf26 rfl aD fun bD k9=>?_)
      refine Gb (.int .i64 (u3)) (Zk rfl) rfl rfl o0 rfl ?_
      obtain ⟨y135,v8,h⟩:=Ge h
      refine Gb (ePtr bD u3 1) (Zh (α:=Int) Try.underlying26 Try.sizeOf3 rfl k9 rfl v8) rfl rfl o0 rfl ?_
      have cD:=PT_idx k9 v8
      refine Ze (.yes2 rfl rfl o0) rfl (D_load (g:=l8) Try.isAgg3 Try.sizeOf3 rfl cD fun mE eD=>?_)
      obtain rfl:=Zj.1 eD
      refine Ze (.yes2 rfl rfl o0) rfl (D_buildSlice (g:=l8) 3027 (xs:=([y135]:List Int)) (vs:=[.int .i64 (y135)]) Try.underlying26 Try.sizeOf3 Try.zeroValue3 rfl rfl (.cons rfl .nil) (RVs.cons (Zj.2 rfl) RVs.nil) rfl rfl fun gD oE iD hs o138 jD hxt hfl=>?_)
      have hfr:=hfr.stp hs
      have l5:=l5.stp hs
      have t5:=t5.stp hs
      obtain ⟨y140,nB,h⟩:=Ge h
      refine Ze (.yes2 rfl rfl o0) rfl (Zp (g:=gD) (vs:=[.int .i64 (0),.int .i64 ((w64 (x5 - (1:Int)))),iD]) en138 (.cons rfl (.cons rfl (.cons rfl .nil))) (wk138 jD nB) fun lD vD rE hs hr=>?_)
      have hfr:=hfr.ext hs
      have l5:=l5.ext hs
      have t5:=t5.ext hs
      subst hr
      refine Gb (.bool (!y140)) (P_not rfl) rfl rfl o0 rfl ?_
      refine Ga (.bool (!y140)) (Zl (b:=(!y130)) rfl (pick_f o0 rfl)) rfl ?_
      refine Zb ?_
      obtain rfl:=sinj h
      exact hQ _ _ ⟨lD,hfr,m7,l5,g8,t5,k8,x6,rfl⟩
    ·clear hx
     obtain ⟨nD,hfr,l9,n9,u9,y9,z9,bA,i7⟩:=hR
     rcases Zt h with ⟨m8,h⟩ | ⟨m8,h⟩
     ·refine E_cond_true (Eq.trans (show ev _ _ = .bool (i6) from i7) (congrArg Value.bool m8)) ?_
      refine Zf (Za (Zg (.bool false) rfl rfl ?_))
      refine Zb (Zd (E_ret (blk_r ?_)))
      refine thn_r ?_
      refine thn_r ?_
      refine blk_r ?_
      refine thn_r ?_
      obtain rfl:=sinj h
      exact end1 rfl rfl (show _=.bool false from rfl) ⟨_,hfr,rfl⟩
     ·refine E_cond_false (Eq.trans (show ev _ _ = .bool (i6) from i7) (congrArg Value.bool m8)) ?_
      exact Zu (blk_n (Zd (lB () _ _ ⟨nD,hfr,l9,n9,u9,y9,z9,bA⟩ h)))
   ·rintro _ xD uE ⟨oD, hfr, iA, rA, yA, aB, dB, iB⟩ h
    refine Za (EL_in (.int .i64 ((w64 (u3 + (1:Int))))) iB rfl rfl rfl ?_)
    refine Zn (.int .i64 ((w64 (u3 + (1:Int))))) rfl rfl ?_
    exact Zb (Zd (cC ((w64 (u3 + (1:Int)))) _ _ ⟨oD,hfr,iA,rA,yA,aB,dB,rfl⟩ h))
  ·refine E_cf n8 rfl ?_
   refine E_exit ?_
   refine thn_e ?_
   refine thn_e ?_
   refine blk_hit ?_
   exact Zd (zB () _ _ ⟨a9,hfr⟩ h)
 ·rintro _ yD vE ⟨xE, hfr⟩ h
  refine Zf (Za (Zg (.bool true) rfl rfl ?_))
  refine Zb (Zd (E_ret ?_))
  obtain rfl:=sinj h
  exact end1 rfl rfl (show _=.bool true from rfl) ⟨_,hfr,rfl⟩
def f142 (x0:BoxRace) (x1:List BoxPick):Option (BoxRun × Int × Int):=
 jn (σ:=BoxRun) (fun y9=>
  some (y9,(0:Int),(0:Int))
  ) fun uC=>
 lp (σ:=BoxRun × Int) (fun vC (y6,u3)=>
  bif (decide (u3 < ((x1).length : Int))) then
   jn (σ:=BoxRun) (fun n8=>
    vC (n8,(w64 (u3 + (1:Int))))
    ) fun aD=>
   (idx x1 u3).bind fun bD=>
   (f216 ((y6).last) bD).bind fun o0=>
   jn (σ:=BoxRun) (fun x5=>
    (apnd 8 ((x5).thrown) (([o0.2.1]:List Int))).bind fun i6=>
    aD ((⟨i6,o0.1,(w64 ((x5).moves + o0.2.2))⟩:BoxRun))
    ) fun cD=>
   bif (o0.2.1 == (0 : Int)) then
    some ((⟨[],⟨(⟨List.toArray [(⟨List.toArray [0,0,0,0],rfl⟩:Vector Int 4),(⟨List.toArray [0,0,0,0],rfl⟩:Vector Int 4)],rfl⟩:Vector (Vector Int 4) 2),⟨0,0⟩⟩,0⟩:BoxRun),u3,(9:Int))
   else
    cD (y6)
  else
   uC (y6)
  ) big ((⟨[],x0,0⟩:BoxRun),(0:Int))
theorem en142:Enters Try.prog 142:=enters_of Try.func142 (by kernel_rfl) rfl
theorem wk142 {gI:Gh} {wI:World} {x0:BoxRace} {x1:List BoxPick} {up0:Value} (rp0:RV gI.m wI x0 up0) {up1:Value} (rp1:RV gI.m wI x1 up1) {r:BoxRun × Int × Int} (h:f142 x0 x1=some r):Fn Try.prog 142 #[up0,up1] gI wI (fun m w v=>∃ y0 y1 y2,v=.tuple #[y0,y1,y2]∧RV m w (r.1) y0∧y1=.int .i64 (r.2.1)∧y2=.int .i64 (r.2.2)):=by
 unfold f142 at h
 refine fn_of_E Try.func142 rfl (Nat.le_of_ble_eq_true rfl) fun g0 hm hfr=>?_
 have rp0:RV g0.m wI x0 up0:=hm ▸ rp0
 have rp1:RV g0.m wI x1 up1:=hm ▸ rp1
 show E _ 46 none _ _ _ _ _
 refine Zf (Za (Ze .plain rfl (D_box (g:=g0) rfl rp0 fun g1 w1 p1 hs q1=>?_)))
 have hfr:=hfr.ext hs
 have rp1:=rp1.ext hs
 refine Ze .plain rfl (D_allocOc (g:=g1) 2004 (⟨[],⟨(⟨List.toArray [(⟨List.toArray [0,0,0,0],rfl⟩:Vector Int 4),(⟨List.toArray [0,0,0,0],rfl⟩:Vector Int 4)],rfl⟩:Vector (Vector Int 4) 2),⟨0,0⟩⟩,0⟩:BoxRun) Try.zeroValue164 (fun m w=>⟨_,(rep_two rep_nil (rep_two (rep_two (rep_vec (Zx (rep_vec (Zx Zy (Zx Zy (Zx Zy (Zx Zy flat_nil)))) rfl) (Zx (rep_vec (Zx Zy (Zx Zy (Zx Zy (Zx Zy flat_nil)))) rfl) flat_nil)) rfl) (rep_two Zy Zy)) Zy)),rfl⟩) fun g2 w2 p2 hs b2 cb=>?_)
 have hfr:=hfr.stp hs
 have rp1:=rp1.stp hs
 have q1:=q1.stp hs
 have bA:OSF 2004 60400 0 g2 w2 3 164 ([]:List Int) p2:=cb.osf (by rfl)
 clear cb
 refine Zg (.int .i64 (0)) rfl rfl ?_
 refine Zg (.int .i64 (0)) rfl rfl ?_
 refine Zb (Zd (Zf (Za (Ze .plain rfl (D_load (g:=g2) Try.isAgg153 Try.sizeOf153 rfl q1 fun v3 r3=>?_)))))
 refine Ga (fPtr p2 1) (Zc at_164_1 rfl (OB.ptr b2)) rfl ?_
 refine Ze .plain rfl (D_storeFc (g:=g2) part_BoxRun_1 Try.sizeOf153 rfl b2 rfl r3 fun g5 w5 hs b5 rst hos=>?_)
 have bA:=bA.rest hs rst
 clear rst hos
 have hfr:=hfr.stp hs
 have rp1:=rp1.stp hs
 refine Zb (Zd (Zq h (fun (s:BoxRun) e w=>∃ (g:Gh) ,Fr gI wI g w∧e 4=p2∧OB 2004 g w 164 (s:BoxRun) p2∧OSF 2004 60400 0 g w 3 164 ((s).thrown) p2) (fun X122 uC aE h=>?_) ?_))
 ·refine Zf (Za (Zn up1 rfl rfl ?_))
  refine Ga (.int .i64 ((x1).length:Int)) (P_len Try.underlying41 rfl rp1) rfl ?_
  refine Zn (.int .i64 (0)) rfl rfl ?_
  refine Zb (Zd (Zr ?_))
  refine E_lp h (fun (s:BoxRun × Int) e w=>∃ (g:Gh) ,Fr gI wI g w∧e 4=p2∧OB 2004 g w 164 (s.1:BoxRun) p2∧OSF 2004 60400 0 g w 3 164 ((s.1).thrown) p2∧e 14=up1∧RV g.m w (x1:List BoxPick) up1∧e 15=.int .i64 (((x1).length:Int))∧e 16=.int .i64 (s.2)) ⟨g5,hfr,rfl,b5,bA,rfl,rp1,rfl,rfl⟩ (fun X123 vC bE=>?_)
  rintro ⟨y6,u3⟩ yG gH ⟨iA,hfr,g8,t5,u4_0_124,a9,l5,d9,k8⟩ h
  refine Zf (Za (EL_in (.bool ((decide (u3 < ((x1).length:Int))))) k8 d9 rfl rfl ?_))
  refine Zb (Zd (Zf ?_))
  rcases Zt h with ⟨k9,h⟩ | ⟨k9,h⟩
  ·refine E_ct k9 rfl ?_
   refine Zu (Zd (Zq h (fun (s:BoxRun) e w=>∃ (g:Gh) ,Fr gI wI g w∧e 4=p2∧OB 2004 g w 164 (s:BoxRun) p2∧OSF 2004 60400 0 g w 3 164 ((s).thrown) p2∧e 14=up1∧RV g.m w (x1:List BoxPick) up1∧e 15=.int .i64 (((x1).length:Int))∧e 16=.int .i64 (u3)) (fun X181 aD iE h=>?_) ?_))
   ·refine Zr ?_
    refine Zf (Za (Zo k8 rfl ?_))
    obtain ⟨bD,lB,h⟩:=Ge h
    refine Ga (ePtr up1 u3 2) (Zh (α:=BoxPick) Try.underlying41 Try.sizeOf151 a9 l5 k8 lB) rfl ?_
    have zE:=PT_idx l5 lB
    refine Ze .plain rfl (D_load (g:=iA) Try.isAgg151 Try.sizeOf151 rfl zE fun cF rA=>?_)
    refine Ze .plain rfl (D_allocOc (g:=iA) 2008 (⟨0,0⟩:BoxPick) Try.zeroValue151 (fun m w=>⟨_,(rep_two Zy Zy),rfl⟩) fun dF iH jH hs b185 cb=>?_)
    have hfr:=hfr.stp hs
    have u4_0_124:=u4_0_124.stp hs rfl
    have t5:=t5.stp hs rfl
    have l5:=l5.stp hs
    have rA:=rA.stp hs
    clear cb
    refine Zg (.int .i64 (u3)) rfl rfl ?_
    refine Ze .plain rfl (D_storeOc (g:=dF) (v:=cF) Try.sizeOf151 rfl b185 rfl rA fun yA kH hs b186 cb=>?_)
    clear cb
    have hfr:=hfr.stp hs
    have u4_0_124:=u4_0_124.stp hs rfl
    have t5:=t5.stp hs rfl
    have l5:=l5.stp hs
    refine Zb (Zd (Zf (Za (Ga (fPtr p2 1) (Zc at_164_1 g8 (OB.ptr t5)) rfl ?_))))
    refine Ze .plain rfl (D_loadF (g:=yA) part_BoxRun_1.1 Try.isAgg153 Try.sizeOf153 rfl t5 fun eF rF=>?_)
    refine Ze .plain rfl (D_loadO (g:=yA) Try.isAgg151 Try.sizeOf151 rfl b186 fun sF tF=>?_)
    obtain ⟨o0,lE,h⟩:=Ge h
    refine Ze .plain rfl (Zp (g:=yA) (vs:=[eF,sF]) en216 (.cons rfl (.cons rfl .nil)) (wk216 rF tF lE) fun uF zG lH hs hr=>?_)
    have hfr:=hfr.ext hs
    have u4_0_124:=u4_0_124.ext hs
    have t5:=t5.ext hs
    have l5:=l5.ext hs
    obtain ⟨r8,mG,sG,rfl,v8,rfl,rfl⟩:=hr
    refine Zn (.tuple #[r8,.int .i64 (o0.2.1),.int .i64 (o0.2.2)]) rfl rfl ?_
    refine Ga r8 (Zi rfl rfl) rfl ?_
    refine Ga (.int .i64 (o0.2.1)) (Zi rfl rfl) rfl ?_
    refine Ga (.int .i64 (o0.2.2)) (Zi rfl rfl) rfl ?_
    refine Ze .plain rfl (D_allocOc (g:=uF) 2009 (⟨(⟨List.toArray [(⟨List.toArray [0,0,0,0],rfl⟩:Vector Int 4),(⟨List.toArray [0,0,0,0],rfl⟩:Vector Int 4)],rfl⟩:Vector (Vector Int 4) 2),⟨0,0⟩⟩:BoxRace) Try.zeroValue153 (fun m w=>⟨_,(rep_two (rep_vec (Zx (rep_vec (Zx Zy (Zx Zy (Zx Zy (Zx Zy flat_nil)))) rfl) (Zx (rep_vec (Zx Zy (Zx Zy (Zx Zy (Zx Zy flat_nil)))) rfl) flat_nil)) rfl) (rep_two Zy Zy)),rfl⟩) fun vF mH eD hs b192 cb=>?_)
    have hfr:=hfr.stp hs
    have u4_0_124:=u4_0_124.stp hs rfl
    have t5:=t5.stp hs rfl
    have l5:=l5.stp hs
    have v8:=v8.stp hs
    clear cb
    refine Ze .plain rfl (D_storeOc (g:=vF) (v:=r8) Try.sizeOf153 rfl b192 rfl v8 fun aB xF hs b193 cb=>?_)
    clear cb
    have hfr:=hfr.stp hs
    have u4_0_124:=u4_0_124.stp hs rfl
    have t5:=t5.stp hs rfl
    have l5:=l5.stp hs
    refine Zg (.int .i64 (o0.2.1)) rfl rfl ?_
    refine Zg (.int .i64 (o0.2.2)) rfl rfl ?_
    refine Zb (Zd (Zq h (fun (s:BoxRun) e w=>∃ (g:Gh) ,Fr gI wI g w∧e 4=p2∧OB 2004 g w 164 (s:BoxRun) p2∧OSF 2004 60400 0 g w 3 164 ((s).thrown) p2∧e 9=eD∧OB 2009 g w 153 (o0.1:BoxRace) eD∧e 10=.int .i64 (o0.2.1)∧e 11=.int .i64 (o0.2.2)∧e 14=up1∧RV g.m w (x1:List BoxPick) up1∧e 15=.int .i64 (((x1).length:Int))∧e 16=.int .i64 (u3)) (fun X198 cD mE h=>?_) ?_))
    ·refine Zf (Za (Zn (.int .i64 (o0.2.1)) rfl rfl ?_))
     refine EL_in (.bool ((o0.2.1 == (0:Int)))) rfl rfl rfl rfl ?_
     refine Zb (Zd ?_)
     rcases Zt h with ⟨l9,h⟩ | ⟨l9,h⟩
     ·refine E_ct l9 rfl ?_
      refine Zf (Za ?_)
      have gD:RV aB.m xF (⟨[],⟨(⟨List.toArray [(⟨List.toArray [0,0,0,0],rfl⟩:Vector Int 4),(⟨List.toArray [0,0,0,0],rfl⟩:Vector Int 4)],rfl⟩:Vector (Vector Int 4) 2),⟨0,0⟩⟩,0⟩:BoxRun) (.agg (setCh [[.slice none 0 0],[.int .i64 0,.int .i64 0,.int .i64 0,.int .i64 0,.int .i64 0,.int .i64 0,.int .i64 0,.int .i64 0,.int .i64 0,.int .i64 0],[.int .i64 0]] []).flatten.toArray):=RV_build rfl (rep_pair (rep_nil) (rep_pair ((rep_two (rep_vec (Zx (rep_vec (Zx Zy (Zx Zy (Zx Zy (Zx Zy flat_nil)))) rfl) (Zx (rep_vec (Zx Zy (Zx Zy (Zx Zy (Zx Zy flat_nil)))) rfl) flat_nil)) rfl) (rep_two Zy Zy))) (rep_last (Zy))))
      generalize mB:(Value.agg (setCh [[.slice none 0 0],[.int .i64 0,.int .i64 0,.int .i64 0,.int .i64 0,.int .i64 0,.int .i64 0,.int .i64 0,.int .i64 0,.int .i64 0,.int .i64 0],[.int .i64 0]] []).flatten.toArray)=iD at gD
      refine Ga iD (mB ▸ P_build (vs:=[]) [[.slice none 0 0],[.int .i64 0,.int .i64 0,.int .i64 0,.int .i64 0,.int .i64 0,.int .i64 0,.int .i64 0,.int .i64 0,.int .i64 0,.int .i64 0],[.int .i64 0]] lay_164 rfl rfl .nil trivial) rfl ?_
      refine Zn (.int .i64 (u3)) rfl rfl ?_
      refine Ze .plain rfl (D_storeOc (g:=aB) (v:=iD) Try.sizeOf164 g8 t5 rfl gD fun yF zF hs b201 cb=>?_)
      have xG:OSF 2004 60400 0 yF zF 3 164 ([]:List Int) p2:=cb.osf (by rw [← mB]; rfl)
      clear cb
      have hfr:=hfr.stp hs
      refine Zg (.int .i64 (u3)) rfl rfl ?_
      refine Zg (.int .i64 (9)) rfl rfl ?_
      refine Zb (Zd (E_ret (thn_r ?_)))
      refine blk_r ?_
      refine thn_r ?_
      refine thn_r ?_
      refine blk_r ?_
      refine thn_r ?_
      obtain rfl:=sinj h
      obtain ⟨ad202,cv202,hp202,oE,cr202⟩:=ob_read Try.isAgg164 Try.sizeOf164 b201
      exact endm_ctt rfl rfl ((show _=p2 from g8).trans hp202) oE (show _=.int .i64 (u3) from rfl) (show _=.int .i64 (9) from rfl) ⟨_,hfr,_,_,_,rfl,cr202,rfl,rfl⟩
     ·refine E_cf l9 rfl ?_
      exact Zu (Zd (mE (y6) _ _ ⟨aB,hfr,g8,t5,u4_0_124,rfl,b193,rfl,rfl,a9,l5,d9,k8⟩ h))
    ·rintro x5 aH aG ⟨bG, hfr, m8, x6, u4_0_203, jD, lD, oB, tB, vB, i7, yB, zB⟩ h
     refine L_loadFS (x:=.tmp 33) part_BoxRun_0.1 Try.isAgg26 Try.sizeOf26 x6 u4_0_203 fun nD cG o210 rE=>?_
     obtain ⟨i6,uE,h⟩:=Ge h
     refine L_loadO0 (x:=.tmp 9) Try.isAgg153 Try.sizeOf153 lD fun n9 u9 vE=>?_
     refine L_loadO (x:=.tmp 39) part_BoxRun_2.1 Try.isAgg3 Try.sizeOf3 x6 fun nH eG xE=>?_
     obtain rfl:=Zj.1 eG
     refine E_drawAS (g:=bG) (w:=aG) (i:=60400) (et:=3) (xs:=((x5).thrown:List Int)) (r:=i6) (u:=nD) cG o210 (n:=10) [(3,(fun v g w=>RV g.m w ([o0.2.1]:List Int) v∧OS 3036 g w 3 ([o0.2.1]:List Int) v∧FullV v)),(4,(fun v g w=>RV g.m w i6 v∧OS 60400 g w 3 i6 v))] [0,1,2,3,4,5,6,7,8,9] rfl mixed (by kernel_rfl) (⟨fun _=>up_and upS_rv (up_and upS_os (upS_eq _)),fun _=>up_as,trivial⟩) ?_
     refine Gd (fPtr p2 0) rfl rfl (Zc at_164_0 m8 (OB.ptr x6)) ?_
     refine L_ld (c:=nD) rfl rfl .plain (fun _ _ h=>⟨h.1.ch,fun b hb ho=>h.1.block b hb (by rw [ho]; decide)⟩) rE rfl ?_
     refine Gd (.int .i64 (o0.2.1)) rfl rfl (Zk oB) ?_
     refine L_do (φ:=fun v g w=>RV g.m w ([o0.2.1]:List Int) v∧OS 3036 g w 3 ([o0.2.1]:List Int) v∧FullV v) rfl rfl .plain (fun g w hd=>D_buildSlice (g:=g) 3036 (xs:=([o0.2.1]:List Int)) (vs:=[.int .i64 (o0.2.1)]) Try.underlying26 Try.sizeOf3 Try.zeroValue3 rfl rfl (.cons rfl .nil) (RVs.cons (Zj.2 rfl) RVs.nil) rfl rfl fun g' w' v hs o r hxt hfl=>⟨g',as_ext hxt,r,o,hfl⟩) (fun m7 hv=>?_)
     clear hv
     refine L_do (φ:=fun v g w=>RV g.m w i6 v∧OS 60400 g w 3 i6 v) rfl rfl .plain (fun g w hd=>D_appendS (g:=g) det_int rfl Try.underlying26 info_3 rfl rfl hd.1.2 rfl (word (A:=fun g w=>RV g.m w ([o0.2.1]:List Int) m7∧OS 3036 g w 3 ([o0.2.1]:List Int) m7∧FullV m7) 3 rfl rfl (deps_of hd)).1 uE) (fun l8 hv=>?_)
     clear hv
     refine L_ld (c:=n9) rfl rfl .plain (fun _ _ h=>⟨h.1.ch,fun b hb ho=>h.1.block b hb (by rw [ho]; decide)⟩) vE jD ?_
     refine Gd (fPtr p2 11) rfl rfl (Zc at_164_2 m8 (OB.ptr x6)) ?_
     refine L_ld (c:=.int .i64 ((x5).moves)) rfl rfl .plain (fun _ _ h=>⟨h.1.ch,fun b hb ho=>h.1.block b hb (by rw [ho]; decide)⟩) xE rfl ?_
     refine Gd (.int .i64 (o0.2.2)) rfl rfl (Zk tB) ?_
     refine Gd (.int .i64 ((w64 ((x5).moves + o0.2.2)))) rfl rfl (P_int rfl rfl rfl) ?_
     refine L_nil fun oD oH hall=>?_
     have hs:=hall.1.1
     have hfr:=hfr.stp hs
     have x6:=x6.stp hs rfl
     have i7:=i7.stp hs
     have u9:=u9.stp hs
     have pH:=(word_all (A:=fun g w=>RV g.m w ([o0.2.1]:List Int) m7∧OS 3036 g w 3 ([o0.2.1]:List Int) m7∧FullV m7) 3 rfl hall).1
     have o228:=(word_all (A:=fun g w=>RV g.m w ([o0.2.1]:List Int) m7∧OS 3036 g w 3 ([o0.2.1]:List Int) m7∧FullV m7) 3 rfl hall).2.1
     have dB:=(word_all (A:=fun g w=>RV g.m w i6 l8∧OS 60400 g w 3 i6 l8) 4 rfl hall).1
     have o229:=(word_all (A:=fun g w=>RV g.m w i6 l8∧OS 60400 g w 3 i6 l8) 4 rfl hall).2
     clear hs hall
     have sD:RV oD.m _ (⟨i6,o0.1,(w64 ((x5).moves + o0.2.2))⟩:BoxRun) (.agg (setCh [[.slice none 0 0],[.int .i64 0,.int .i64 0,.int .i64 0,.int .i64 0,.int .i64 0,.int .i64 0,.int .i64 0,.int .i64 0,.int .i64 0,.int .i64 0],[.int .i64 0]] [(0,l8),(1,n9),(2,.int .i64 ((w64 ((x5).moves + o0.2.2))))]).flatten.toArray):=RV_build rfl (rep_pair (RV.cells dB) (rep_pair (RV.cells u9) (rep_last (rfl))))
     generalize nB:(Value.agg (setCh [[.slice none 0 0],[.int .i64 0,.int .i64 0,.int .i64 0,.int .i64 0,.int .i64 0,.int .i64 0,.int .i64 0,.int .i64 0,.int .i64 0,.int .i64 0],[.int .i64 0]] [(0,l8),(1,n9),(2,.int .i64 ((w64 ((x5).moves + o0.2.2))))]).flatten.toArray)=tD at sD
     refine Ga tD (nB ▸ P_build (vs:=[(0,l8),(1,n9),(2,.int .i64 ((w64 ((x5).moves + o0.2.2))))]) [[.slice none 0 0],[.int .i64 0,.int .i64 0,.int .i64 0,.int .i64 0,.int .i64 0,.int .i64 0,.int .i64 0,.int .i64 0,.int .i64 0,.int .i64 0],[.int .i64 0]] lay_164 rfl rfl (.cons rfl (.cons rfl (.cons rfl .nil))) ⟨⟨_,rfl,cells_size dB⟩,⟨⟨_,rfl,cells_size u9⟩,⟨⟨_,rfl,rfl⟩,trivial⟩⟩⟩) rfl ?_
     refine Ze .plain rfl (D_storeOc (g:=oD) (v:=tD) Try.sizeOf164 m8 x6 rfl sD fun uD gG hs b236 cb=>?_)
     obtain ⟨kG,lG,iB,_,_⟩:=RV_list dB
     have vD:OSF 2004 60400 0 uD gG 3 164 (i6:List Int) p2:=cb.osfv (by rw [← nB,iB]; rfl) (o229.stp hs rfl)
     clear cb
     have hfr:=hfr.stp hs
     have i7:=i7.stp hs
     exact Zb (blk_n (Zd (iE ((⟨i6,o0.1,(w64 ((x5).moves + o0.2.2))⟩:BoxRun)) _ _ ⟨uD,hfr,m8,b236,vD,vB,i7,yB,zB⟩ h)))
   ·rintro n8 cH qH ⟨hG, hfr, xD, yD, u4_0_237, cC, mC, qC, rC⟩ h
    refine Za (EL_in (.int .i64 ((w64 (u3 + (1:Int))))) rC rfl rfl rfl ?_)
    refine Zn (.int .i64 ((w64 (u3 + (1:Int))))) rfl rfl ?_
    exact Zb (Zd (bE (n8,(w64 (u3 + (1:Int)))) _ _ ⟨hG,hfr,xD,yD,u4_0_237,cC,mC,qC,rfl⟩ h))
  ·refine E_cf k9 rfl ?_
   refine E_exit ?_
   refine thn_e ?_
   refine thn_e ?_
   refine blk_hit ?_
   exact Zd (aE (y6) _ _ ⟨iA,hfr,g8,t5,u4_0_124⟩ h)
 ·rintro y9 dH sH ⟨zD, hfr, x8, z9, u4_0_238⟩ h
  refine Zf (Za (Ze .plain rfl (D_loadO (g:=zD) Try.isAgg164 Try.sizeOf164 x8 z9 fun iG jG=>?_)))
  refine Ze .plain rfl (D_storeOc (g:=zD) (v:=iG) Try.sizeOf164 x8 z9 rfl jG fun tH uH hs b240 cb=>?_)
  clear cb
  have hfr:=hfr.stp hs
  refine Zg (.int .i64 (0)) rfl rfl ?_
  refine Zg (.int .i64 (0)) rfl rfl ?_
  refine Zb (Zd (E_ret ?_))
  obtain rfl:=sinj h
  obtain ⟨ad241,cv241,hp241,yE,cr241⟩:=ob_read Try.isAgg164 Try.sizeOf164 b240
  exact endm_ctt rfl rfl ((show _=p2 from x8).trans hp241) yE (show _=.int .i64 (0) from rfl) (show _=.int .i64 (0) from rfl) ⟨_,hfr,_,_,_,rfl,cr241,rfl,rfl⟩
def f146 (x0:List Zv) (x1:Zv→Zv→Option Int):Option ((List Zv)):=
 (f223 x0 (((x0).length:Int)) x1).bind fun y2=>
 some (y2)
theorem en146:Enters Try.prog 146:=enters_of Try.func146 (by kernel_rfl) rfl
theorem wk146 {iI:Nat} {gI:Gh} {wI:World} {x0:List Zv} {x1:Zv→Zv→Option Int} {up0:Value} (mp0:OM iI gI wI 56 x0 up0) {up1:Value} (rp1:FnV2 Try.prog x1 up1 gI wI) {r:(List Zv)} (h:f146 x0 x1=some r):FnM Try.prog 146 #[up0,up1] iI gI wI (fun g w v=>v=.tuple #[]∧OM iI g w 56 r up0):=by
 unfold f146 at h
 refine fnM_of_E Try.func146 rfl (Nat.le_of_ble_eq_true rfl) fun g0 hm hfr=>?_
 have o0:=mp0
 replace mp0:=mp0.enter
 rw [← hm] at mp0
 replace hm:g0.m=gI.m:=by rw [hm]
 obtain ⟨ff1,fa1,fc1,rfl,fen1,fcl1⟩:=rp1
 show E _ 9 none _ _ _ _ _
 refine Za (Zn up0 rfl rfl ?_)
 refine Zn up0 rfl rfl ?_
 refine Ga (.int .i64 ((x0).length:Int)) (P_lenM Try.underlying57 rfl mp0) rfl ?_
 refine Zn ((.func (.func ff1) fa1 fc1)) rfl rfl ?_
 obtain ⟨y2,hy2,h⟩:=Ge h
 refine Ze .plain rfl (D_callM (g:=g0) (i:=1) (vs:=[up0,.int .i64 ((x0).length:Int),(.func (.func ff1) fa1 fc1)]) en223 (.cons rfl (.cons rfl (.cons rfl .nil))) (wk223 mp0 (FnV2.ch ⟨_,_,_,rfl,fen1,fcl1⟩ hfr.ch) hy2) fun g1 w1_ v1 hs hr=>?_)
 obtain ⟨hrv,b1⟩:=hr
 have hfr:=hfr.stp hs
 subst hrv
 refine Zb ?_
 obtain rfl:=sinj h
 exact end0n rfl rfl ⟨_,hfr,rfl,o0.back b1⟩
def f215 (z0:Ptr BoxMill) (z1:BoxRace) (σ:Type) (cons:Cons σ (BoxPick × BoxStep)) (s0:σ):Option σ:=
 lp (σ:=σ × Int) (fun k5 (iA,u3)=>
  bif (decide (u3 < ((z0).x).left)) then
   jn (σ:=σ) (fun m8=>
    k5 (m8,(w64 (u3 + (1:Int))))
    ) fun rE=>
   lp (σ:=σ × Int) (fun uE (i7,l5)=>
    bif (decide (l5 < ((z0).x).right)) then
     jn (σ:=σ) (fun n8=>
      uE (n8,(w64 (l5 + (1:Int))))
      ) fun vE=>
     (f216 z1 ((⟨u3,l5⟩:BoxPick))).bind fun o0=>
     Option.bind (α:=σ × Bool) (
      bif (decide (o0.2.1 > (0 : Int))) then
       (cons i7 ((⟨u3,l5⟩:BoxPick),(⟨o0.1,(w64 (o0.2.1 - (1:Int))),o0.2.2⟩:BoxStep))).bind fun (g8,aB)=>
       some (aB,(!g8))
      else
       some (i7,false)
      ) fun (y6,x6)=>
     bif x6 then
      some y6
     else
      vE (y6)
    else
     rE (i7)
    ) big (iA,(0:Int))
  else
   some iA
  ) big (s0,(0:Int))
theorem en215:Enters Try.prog 215:=enters_of Try.func215 (by kernel_rfl) rfl
theorem wk215 {σ:Type} {cons:Cons σ (BoxPick × BoxStep)} {s0 r:σ} {gI:Gh} {wI:World} {z0:Ptr BoxMill} {z1:BoxRace} {pf0:Value} (qf0:PT gI.m wI z0 pf0) {pf1:Value} (qf1:PT gI.m wI z1 pf1) (h:f215 z0 z1 σ cons s0=some r):IterC Try.prog (RA2 (α:=BoxPick) (β:=BoxStep)) 215 #[] #[pf0,pf1] gI wI cons s0 r:=by
 unfold f215 at h
 refine iter_of_E Try.func215 rfl (Nat.le_of_ble_eq_true rfl) fun l B J g0 hm hAb hRo hfr=>?_
 have qf0:PT g0.m wI z0 pf0:=hm ▸ qf0
 have qf1:PT g0.m wI z1 pf1:=hm ▸ qf1
 show E _ 49 none _ _ (envAt #[.func (.yield l) #[] #[],pf0,pf1]) _ _
 refine Zf (Za (Ze .plain rfl (D_load (g:=g0) Try.isAgg158 Try.sizeOf158 rfl qf0 fun v1 r1=>?_)))
 replace r1:=RV_ptr.1 r1
 obtain ⟨pb2,po2,pe2⟩:=PT.ptr r1
 refine Ga v1 (P_nilCk rfl pe2) rfl ?_
 refine Ga (fPtr v1 0) (Zc at_274_0 rfl (PT.ptr r1)) rfl ?_
 have q3:=Zm (part_BoxMill_0).1 r1
 refine Ze .plain rfl (D_load (g:=g0) Try.isAgg3 Try.sizeOf3 rfl q3 fun v4 r4=>?_)
 obtain rfl:=Zj.1 r4
 refine Zn (.int .i64 (0)) rfl rfl ?_
 refine Zb (Zd (Zr ?_))
 refine E_lp h (fun (s:σ × Int) e w=>∃ (g:Gh) ,FrY gI wI B J (s.1) g w∧e 0=(.func (.yield l) #[] #[])∧e 1=pf0∧PT g.m w (z0:Ptr BoxMill) pf0∧e 2=pf1∧PT g.m w (z1:BoxRace) pf1∧e 13=.int .i64 (((z0).x).left)∧e 14=.int .i64 (s.2)) ⟨g0,hfr,rfl,rfl,qf0,rfl,qf1,rfl,rfl⟩ (fun X5 k5 hk5=>?_)
 rintro ⟨iA,u3⟩ sH w6 ⟨g6,hfr,zE,qC,rC,cF,dF,dB,n9⟩ h
 refine Zf (Za (EL_in (.bool ((decide (u3 < ((z0).x).left)))) n9 dB rfl rfl ?_))
 refine Zb (Zd (Zf ?_))
 rcases Zt h with ⟨uC,h⟩ | ⟨uC,h⟩
 ·refine E_ct uC rfl ?_
  refine Zu (Zd (Zq h (fun (s:σ) e w=>∃ (g:Gh) ,FrY gI wI B J (s) g w∧e 0=(.func (.yield l) #[] #[])∧e 1=pf0∧PT g.m w (z0:Ptr BoxMill) pf0∧e 2=pf1∧PT g.m w (z1:BoxRace) pf1∧e 13=.int .i64 (((z0).x).left)∧e 14=.int .i64 (u3)) (fun X63 rE eF h=>?_) ?_))
  ·refine Zr ?_
   refine Zf (Za (Zo n9 rfl ?_))
   refine Zg (.int .i64 (u3)) rfl rfl ?_
   refine Zb (Zd (Zf (Za (Ze .plain rfl (D_load (g:=g6) Try.isAgg158 Try.sizeOf158 qC rC fun xE bA=>?_)))))
   replace bA:=RV_ptr.1 bA
   obtain ⟨pb66,po66,pe66⟩:=PT.ptr bA
   refine Ga xE (P_nilCk rfl pe66) rfl ?_
   refine Ga (fPtr xE 1) (Zc at_274_1 rfl (PT.ptr bA)) rfl ?_
   have iG:=Zm (part_BoxMill_1).1 bA
   refine Ze .plain rfl (D_load (g:=g6) Try.isAgg3 Try.sizeOf3 rfl iG fun tH jG=>?_)
   obtain rfl:=Zj.1 jG
   refine Zn (.int .i64 (0)) rfl rfl ?_
   refine Zb (Zd (Zr ?_))
   refine E_lp h (fun (s:σ × Int) e w=>∃ (g:Gh) ,FrY gI wI B J (s.1) g w∧e 0=(.func (.yield l) #[] #[])∧e 1=pf0∧PT g.m w (z0:Ptr BoxMill) pf0∧e 2=pf1∧PT g.m w (z1:BoxRace) pf1∧e 4=.int .i64 (u3)∧e 13=.int .i64 (((z0).x).left)∧e 14=.int .i64 (u3)∧e 20=.int .i64 (((z0).x).right)∧e 21=.int .i64 (s.2)) ⟨g6,hfr,zE,qC,rC,cF,dF,rfl,dB,n9,rfl,rfl⟩ (fun X69 uE rF=>?_)
   rintro ⟨i7,l5⟩ gH kG ⟨vC,hfr,k8,u9,x5,l8,t5,y9,r8,v8,x8,m7⟩ h
   refine Zf (Za (EL_in (.bool ((decide (l5 < ((z0).x).right)))) m7 x8 rfl rfl ?_))
   refine Zb (Zd (Zf ?_))
   rcases Zt h with ⟨rA,h⟩ | ⟨rA,h⟩
   ·refine E_ct rA rfl ?_
    refine Zu (Zd (Zq h (fun (s:σ) e w=>∃ (g:Gh) ,FrY gI wI B J (s) g w∧e 0=(.func (.yield l) #[] #[])∧e 1=pf0∧PT g.m w (z0:Ptr BoxMill) pf0∧e 2=pf1∧PT g.m w (z1:BoxRace) pf1∧e 4=.int .i64 (u3)∧e 13=.int .i64 (((z0).x).left)∧e 14=.int .i64 (u3)∧e 20=.int .i64 (((z0).x).right)∧e 21=.int .i64 (l5)) (fun X95 vE sF h=>?_) ?_))
    ·refine Zr ?_
     refine Zf (Za (Zo m7 rfl ?_))
     refine Zg (.int .i64 (l5)) rfl rfl ?_
     refine Zb (Zd (Zf (Za (Zo y9 rfl ?_))))
     refine Zn (.int .i64 (l5)) rfl rfl ?_
     have iB:RV vC.m kG (⟨u3,l5⟩:BoxPick) (.agg (setCh [[.int .i64 0],[.int .i64 0]] [(0,.int .i64 (u3)),(1,.int .i64 (l5))]).flatten.toArray):=RV_build rfl (rep_pair (rfl) (rep_last (rfl)))
     generalize tF:(Value.agg (setCh [[.int .i64 0],[.int .i64 0]] [(0,.int .i64 (u3)),(1,.int .i64 (l5))]).flatten.toArray)=yE at iB
     refine Ga yE (tF ▸ P_build (vs:=[(0,.int .i64 (u3)),(1,.int .i64 (l5))]) [[.int .i64 0],[.int .i64 0]] lay_151 rfl rfl (.cons rfl (.cons rfl .nil)) ⟨⟨_,rfl,rfl⟩,⟨⟨_,rfl,rfl⟩,trivial⟩⟩) rfl ?_
     refine Ze .plain rfl (D_allocOc (g:=vC) 2006 (⟨0,0⟩:BoxPick) Try.zeroValue151 (fun m w=>⟨_,(rep_two Zy Zy),rfl⟩) fun lG uH xH hs b97 cb=>?_)
     have hfr:=hfr.stp_ hAb hs rfl
     have x5:=x5.stp hs
     have t5:=t5.stp hs
     have iB:=iB.stp hs
     clear cb
     refine Ze .plain rfl (D_storeOc (g:=lG) (v:=yE) Try.sizeOf151 rfl b97 rfl iB fun aD yH hs b98 cb=>?_)
     clear cb
     have hfr:=hfr.stp_ hAb hs rfl
     have x5:=x5.stp hs
     have t5:=t5.stp hs
     refine Zb (Zd (Zf (Za (Ze .plain rfl (D_load (g:=aD) Try.isAgg153 Try.sizeOf153 l8 t5 fun mG sG=>?_)))))
     refine Ze .plain rfl (D_loadO (g:=aD) Try.isAgg151 Try.sizeOf151 rfl b98 fun uF vF=>?_)
     obtain ⟨o0,lE,h⟩:=Ge h
     refine Ze .plain rfl (Zp (g:=aD) (vs:=[mG,uF]) en216 (.cons rfl (.cons rfl .nil)) (wk216 sG vF lE) fun xF zG iH hs hr=>?_)
     have hfr:=hfr.ext_ hAb hs
     have x5:=x5.ext hs
     have t5:=t5.ext hs
     have b98:=b98.ext hs
     obtain ⟨a9,xG,yG,rfl,d9,rfl,rfl⟩:=hr
     refine Zn (.tuple #[a9,.int .i64 (o0.2.1),.int .i64 (o0.2.2)]) rfl rfl ?_
     refine Ga a9 (Zi rfl rfl) rfl ?_
     refine Ga (.int .i64 (o0.2.1)) (Zi rfl rfl) rfl ?_
     refine Ga (.int .i64 (o0.2.2)) (Zi rfl rfl) rfl ?_
     refine Ze .plain rfl (D_allocOc (g:=xF) 2007 (⟨(⟨List.toArray [(⟨List.toArray [0,0,0,0],rfl⟩:Vector Int 4),(⟨List.toArray [0,0,0,0],rfl⟩:Vector Int 4)],rfl⟩:Vector (Vector Int 4) 2),⟨0,0⟩⟩:BoxRace) Try.zeroValue153 (fun m w=>⟨_,(rep_two (rep_vec (Zx (rep_vec (Zx Zy (Zx Zy (Zx Zy (Zx Zy flat_nil)))) rfl) (Zx (rep_vec (Zx Zy (Zx Zy (Zx Zy (Zx Zy flat_nil)))) rfl) flat_nil)) rfl) (rep_two Zy Zy)),rfl⟩) fun yF jH kH hs b103 cb=>?_)
     have hfr:=hfr.stp_ hAb hs rfl
     have x5:=x5.stp hs
     have t5:=t5.stp hs
     have b98:=b98.stp hs rfl
     have d9:=d9.stp hs
     clear cb
     refine Ze .plain rfl (D_storeOc (g:=yF) (v:=a9) Try.sizeOf153 rfl b103 rfl d9 fun k9 lH hs b104 cb=>?_)
     clear cb
     have hfr:=hfr.stp_ hAb hs rfl
     have x5:=x5.stp hs
     have t5:=t5.stp hs
     have b98:=b98.stp hs rfl
     refine Zg (.int .i64 (o0.2.1)) rfl rfl ?_
     refine Zg (.int .i64 (o0.2.2)) rfl rfl ?_
     refine Zb (Zd ?_)
     obtain ⟨⟨y6,x6⟩,hx,h⟩:=Ge h
     refine E_join (fun e w=>∃ (g:Gh) ,FrY gI wI B J (y6) g w∧e 0=(.func (.yield l) #[] #[])∧e 1=pf0∧PT g.m w (z0:Ptr BoxMill) pf0∧e 2=pf1∧PT g.m w (z1:BoxRace) pf1∧e 4=.int .i64 (u3)∧e 13=.int .i64 (((z0).x).left)∧e 14=.int .i64 (u3)∧e 20=.int .i64 (((z0).x).right)∧e 21=.int .i64 (l5)∧e 46=.bool (x6)) (fun Q' hQ=>?_) (fun aH mH hR=>?_)
     ·replace h := hx
      clear hx
      refine Za (Zn (.int .i64 (o0.2.1)) rfl rfl ?_)
      refine EL_in (.bool ((decide (o0.2.1 > (0:Int))))) rfl rfl rfl rfl ?_
      refine Zn (.bool ((decide (o0.2.1 > (0:Int))))) rfl rfl ?_
      rcases Zt h with ⟨i6,h⟩ | ⟨i6,h⟩
      ·refine Gb ((.func (.yield l) #[] #[])) (Zk k8) rfl rfl i6 rfl ?_
       refine Ze (.yes2 rfl rfl i6) rfl (D_loadO (g:=k9) Try.isAgg151 Try.sizeOf151 rfl b98 fun nH zF=>?_)
       refine Ze (.yes2 rfl rfl i6) rfl (D_loadO (g:=k9) Try.isAgg153 Try.sizeOf153 rfl b104 fun yA bD=>?_)
       refine Gb (.int .i64 (o0.2.1)) (Zk rfl) rfl rfl i6 rfl ?_
       refine Gb (.int .i64 ((w64 (o0.2.1 - (1:Int))))) (P_int rfl rfl rfl) rfl rfl i6 rfl ?_
       refine Gb (.int .i64 (o0.2.2)) (Zk rfl) rfl rfl i6 rfl ?_
       have cD:RV k9.m _ (⟨o0.1,(w64 (o0.2.1 - (1:Int))),o0.2.2⟩:BoxStep) (.agg (setCh [[.int .i64 0,.int .i64 0,.int .i64 0,.int .i64 0,.int .i64 0,.int .i64 0,.int .i64 0,.int .i64 0,.int .i64 0,.int .i64 0],[.int .i64 0],[.int .i64 0]] [(0,yA),(1,.int .i64 ((w64 (o0.2.1 - (1:Int))))),(2,.int .i64 (o0.2.2))]).flatten.toArray):=RV_build rfl (rep_pair (RV.cells bD) (rep_pair (rfl) (rep_last (rfl))))
       generalize mE:(Value.agg (setCh [[.int .i64 0,.int .i64 0,.int .i64 0,.int .i64 0,.int .i64 0,.int .i64 0,.int .i64 0,.int .i64 0,.int .i64 0,.int .i64 0],[.int .i64 0],[.int .i64 0]] [(0,yA),(1,.int .i64 ((w64 (o0.2.1 - (1:Int))))),(2,.int .i64 (o0.2.2))]).flatten.toArray)=aG at cD
       refine Gb aG (mE ▸ P_build (vs:=[(0,yA),(1,.int .i64 ((w64 (o0.2.1 - (1:Int))))),(2,.int .i64 (o0.2.2))]) [[.int .i64 0,.int .i64 0,.int .i64 0,.int .i64 0,.int .i64 0,.int .i64 0,.int .i64 0,.int .i64 0,.int .i64 0,.int .i64 0],[.int .i64 0],[.int .i64 0]] lay_279 rfl rfl (.cons rfl (.cons rfl (.cons rfl .nil))) ⟨⟨_,rfl,cells_size bD⟩,⟨⟨_,rfl,rfl⟩,⟨⟨_,rfl,rfl⟩,trivial⟩⟩⟩) rfl rfl i6 rfl ?_
       obtain ⟨bG,oE,h⟩:=Ge h
       obtain ⟨g8,aB⟩:=bG
       refine Ze (.yes2 rfl rfl i6) rfl (D_yield (g:=k9) (x:=((⟨u3,l5⟩:BoxPick),(⟨o0.1,(w64 (o0.2.1 - (1:Int))),o0.2.2⟩:BoxStep))) rfl (.cons rfl (.cons rfl .nil)) hRo hfr oE ⟨_,_,rfl,zF,cD⟩ fun cG oH hs hfrY=>?_)
       have x5:=x5.stp hs
       have t5:=t5.stp hs
       have hfr:=hfrY
       clear hfrY
       refine Gb (.bool (!g8)) (P_not rfl) rfl rfl i6 rfl ?_
       refine Ga (.bool (!g8)) (Zl (b:=(decide (o0.2.1 > (0:Int)))) rfl (pick_t i6 rfl)) rfl ?_
       refine Zb ?_
       obtain ⟨rfl,rfl⟩:=pairs2 h
       exact hQ _ _ ⟨cG,hfr,k8,u9,x5,l8,t5,y9,r8,v8,x8,m7,rfl⟩
      ·refine Gc rfl rfl i6 rfl rfl ?_
       iterate 8 refine Gc rfl rfl i6 rfl rfl ?_
       refine Ga (.bool false) (Zl (b:=(decide (o0.2.1 > (0:Int)))) rfl (pick_f i6 rfl)) rfl ?_
       refine Zb ?_
       obtain ⟨rfl,rfl⟩:=pairs2 h
       exact hQ _ _ ⟨k9,hfr,k8,u9,x5,l8,t5,y9,r8,v8,x8,m7,rfl⟩
     ·clear hx
      obtain ⟨eG,hfr,eD,gD,iD,jD,lD,nD,lB,mB,nB,oB,l9⟩:=hR
      rcases Zt h with ⟨z9,h⟩ | ⟨z9,h⟩
      ·refine E_cond_true (Eq.trans (show ev _ _ = .bool (x6) from l9) (congrArg Value.bool z9)) ?_
       refine E_ret (blk_r ?_)
       refine thn_r ?_
       refine thn_r ?_
       refine blk_r ?_
       refine blk_r ?_
       refine thn_r ?_
       refine thn_r ?_
       refine blk_r ?_
       obtain rfl:=sinj h
       exact end0 rfl rfl (FrY.done hfr)
      ·refine E_cond_false (Eq.trans (show ev _ _ = .bool (x6) from l9) (congrArg Value.bool z9)) ?_
       exact Zu (blk_n (Zd (sF (y6) _ _ ⟨eG,hfr,eD,gD,iD,jD,lD,nD,lB,mB,nB,oB⟩ h)))
    ·rintro n8 cH pH ⟨gG, hfr, oD, sD, tD, uD, vD, xD, tB, vB, yB, zB⟩ h
     refine Za (EL_in (.int .i64 ((w64 (l5 + (1:Int))))) zB rfl rfl rfl ?_)
     refine Zn (.int .i64 ((w64 (l5 + (1:Int))))) rfl rfl ?_
     exact Zb (Zd (rF (n8,(w64 (l5 + (1:Int)))) _ _ ⟨gG,hfr,oD,sD,tD,uD,vD,xD,tB,vB,yB,rfl⟩ h))
   ·refine E_cf rA rfl ?_
    refine E_exit ?_
    refine thn_e ?_
    refine thn_e ?_
    refine blk_hit ?_
    exact blk_n (Zd (eF (i7) _ _ ⟨vC,hfr,k8,u9,x5,l8,t5,r8,v8⟩ h))
  ·rintro m8 dH qH ⟨hG, hfr, yD, zD, aE, bE, iE, cC, mC⟩ h
   refine Za (EL_in (.int .i64 ((w64 (u3 + (1:Int))))) mC rfl rfl rfl ?_)
   refine Zn (.int .i64 ((w64 (u3 + (1:Int))))) rfl rfl ?_
   exact Zb (Zd (hk5 (m8,(w64 (u3 + (1:Int)))) _ _ ⟨hG,hfr,yD,zD,aE,bE,iE,cC,rfl⟩ h))
 ·refine E_cf uC rfl ?_
  refine E_exit ?_
  refine thn_e ?_
  refine thn_e ?_
  refine blk_hit ?_
  obtain rfl:=sinj h
  exact end0n rfl rfl (FrY.done hfr)
def f220 (x0:Zv) (z0:FaultLoom):Option (Bool):=
 (f221 ((⟨z0⟩:FaultFaultLoom)) x0).bind fun y6=>
 some ((!y6))
theorem en220:Enters Try.prog 220:=enters_of Try.func220 (by kernel_rfl) rfl
theorem wk220 {gI:Gh} {wI:World} {x0:Zv} {z0:FaultLoom} {up0:Value} (rp0:RV gI.m wI x0 up0) {pf0:Value} (qf0:PT gI.m wI z0 pf0) {r:Bool} (h:f220 x0 z0=some r):Fn Try.prog 220 #[up0,pf0] gI wI (fun _ _ v=>v=.bool (r)):=by
 unfold f220 at h
 refine fn_of_E Try.func220 rfl (Nat.le_of_ble_eq_true rfl) fun g0 hm hfr=>?_
 have qf0:PT g0.m wI z0 pf0:=hm ▸ qf0
 have rp0:RV g0.m wI x0 up0:=hm ▸ rp0
 show E _ 9 none _ _ _ _ _
 refine Zf (Za (Ze .plain rfl (D_box (g:=g0) rfl rp0 fun g1 w1 p1 hs q1=>?_)))
 have hfr:=hfr.ext hs
 have qf0:=qf0.ext hs
 refine Zg (.bool false) rfl rfl ?_
 refine Zb (Zd (Zf (Za (Ze .plain rfl (D_load (g:=g1) Try.isAgg32 Try.sizeOf32 rfl qf0 fun v2 r2=>?_)))))
 have r3:RV g1.m _ (⟨z0⟩:FaultFaultLoom) (.agg (setCh [[.int .i64 0,.slice none 0 0,.int .i64 0,.slice none 0 0]] [(0,v2)]).flatten.toArray):=RV_build rfl (rep_last (RV.cells r2))
 generalize hv3:(Value.agg (setCh [[.int .i64 0,.slice none 0 0,.int .i64 0,.slice none 0 0]] [(0,v2)]).flatten.toArray)=v3 at r3
 refine Ga v3 (hv3 ▸ P_build (vs:=[(0,v2)]) [[.int .i64 0,.slice none 0 0,.int .i64 0,.slice none 0 0]] lay_170 rfl rfl (.cons rfl .nil) ⟨⟨_,rfl,cells_size r2⟩,trivial⟩) rfl ?_
 refine Ze .plain rfl (D_load (g:=g1) Try.isAgg56 Try.sizeOf56 rfl q1 fun v4 r4=>?_)
 obtain ⟨y6,o0,h⟩:=Ge h
 refine Ze .plain rfl (Zp (g:=g1) (vs:=[v3,v4]) en221 (.cons rfl (.cons rfl .nil)) (wk221 r3 r4 o0) fun g5 w5_ v5 hs hr=>?_)
 have hfr:=hfr.ext hs
 subst hr
 refine Ga (.bool (!y6)) (P_not rfl) rfl ?_
 refine Zg (.bool (!y6)) rfl rfl ?_
 refine Zb (Zd (E_ret ?_))
 obtain rfl:=sinj h
 exact end1 rfl rfl (show _=.bool (!y6) from rfl) ⟨_,hfr,rfl⟩
def f39 (x0:TieHarness) (x1:Design):Option ((List Str) × Int):=
 jn (σ:=(List Str)) (fun l8=>
  jn (σ:=(List Str)) (fun rA=>
   Option.bind (α:=(List Str)) (
    lp (σ:=(List Str) × Int) (fun uD (m8,o0)=>
     bif (decide (o0 < (((x1).Rows).length : Int))) then
      Option.bind (α:=(List Str)) (
       (idx ((x1).Rows) o0).bind fun d9=>
       (f106 ((⟨x0⟩:TieTieHarness)) d9).bind fun y81=>
       (apnd 16 m8 (([y81]:List Str))).bind fun y84=>
       some (y84)
       ) fun y6=>
      uD (y6,(w64 (o0 + (1:Int))))
     else
      some (m8)
     ) big (rA,(0:Int))
    ) fun g8=>
   some (g8,(0:Int))
   ) fun vD=>
  (f102 x1).bind fun x6=>
  bif (x6 != (0 : Int)) then
   some ([],x6)
  else
   bif ((x1).Hooks != (x0).Hooks) then
    some ([],(4:Int))
   else
    vD (l8)
  ) fun k7=>
 (f105 x0).bind fun i7=>
 bif (i7 != (0 : Int)) then
  some ([],i7)
 else
  k7 ([])
theorem en39:Enters Try.prog 39:=enters_of Try.func39 (by kernel_rfl) rfl
theorem v145_0 {iO:Nat} {gI:Gh} {wI:World} {x0:List Zv} {up0:Value} (rp0:RV gI.m wI x0 up0) {r:List Zv} (h:f145 x0=some r):FnG Try.prog 145 #[up0] gI wI (fun g w v=>OM iO g w 56 r v):=by
 unfold f145 at h
 refine fnG_of_E Try.func145 rfl (Nat.le_of_ble_eq_true rfl) fun g0 hm hfr=>?_
 have rp0:RV g0.m wI x0 up0:=hm ▸ rp0
 show E _ 8 none _ _ _ _ _
 refine Zf (Za (Zg (.slice none 0 0) rfl rfl (Zb (Zd ?_))))
 refine Zf (Zf (Za (Zn up0 rfl rfl ?_)))
 obtain ⟨a,c,hv,hc,hrow⟩:=RV_list rp0
 refine Ga (.bool a.isNone) (P_slnil Try.underlying57 (show ev _ _=_ from hv)) rfl (Zb (Zd ?_))
 cases a with
 | none=>
  have hx:x0=[]:=by
   cases x0 with
   | nil=>rfl
   | cons y ys=>obtain ⟨b,off,hb,_⟩:=hrow (by simp); cases hb
  subst hx
  have hr:r=[]:=by unfold apnd at h; split at h <;> simp at h; exact h
  subst hr
  refine E_cond_true rfl (Zf (Za ?_))
  refine Zg (.slice none 0 0) rfl rfl (Zb (Zd ?_))
  obtain ⟨gh,hxh,homh⟩:=OM.handn (i:=iO) (t:=56) (α:=Zv) hfr; exact E_ret (thn_r (end1 rfl rfl (show _=.slice none 0 0 from rfl) ⟨gh,hxh,homh⟩))
 | some a=>
  refine E_cond_false rfl (Zu (Zd ?_))
  refine Zf (Za (Ze .plain rfl (D_buildSlice (g:=g0) 1 (xs:=([]:List Zv)) (vs:=[]) Try.underlying57 Try.sizeOf56 Try.zeroValue56 rfl rfl .nil RVs.nil rfl rfl fun g1 w1 v1 hs o1 r1 hxt hfl=>?_)))
  have hfr:=hfr.stp hs
  have rp0:=rp0.stp hs
  refine Zn up0 rfl rfl ?_
  refine Ze .plain rfl (D_append (g:=g1) (i:=1) Try.underlying57 info_56 rfl rfl o1 r1 rfl rp0 h fun g2 w2 v2 hs o2 r2 _=>?_)
  have hfr:=hfr.stp hs
  refine Zg v2 rfl rfl (Zb (Zd ?_))
  obtain ⟨gh,hxh,homh⟩:=OM.hand (i:=iO) plain_FaultDamage hfr o2 r2; exact E_ret (end1 rfl rfl (show _=v2 from rfl) ⟨gh,hxh,homh⟩)
def f95 (x0:FaultLoom):Option (Int):=
 jn (σ:=Unit) (fun _=>
  jn (σ:=Unit) (fun _=>
   jn (σ:=Unit) (fun _=>
    some ((0:Int))
    ) fun k33=>
   bif (((x0).Harness).Hooks != ((x0).Design).Hooks) then
    some ((4:Int))
   else
    k33 ()
   ) fun k19=>
  (f102 ((x0).Design)).bind fun y23=>
  bif (y23 != (0 : Int)) then
   some (y23)
  else
   k19 ()
  ) fun k7=>
 (f105 ((x0).Harness)).bind fun y11=>
 bif (y11 != (0 : Int)) then
  some (y11)
 else
  k7 ()
theorem en95:Enters Try.prog 95:=enters_of Try.func95 (by kernel_rfl) rfl
theorem wk95 {gI:Gh} {wI:World} {x0:FaultLoom} {up0:Value} (rp0:RV gI.m wI x0 up0) {r:Int} (h:f95 x0=some r):Fn Try.prog 95 #[up0] gI wI (fun _ _ v=>v=.int .i64 (r)):=by
 unfold f95 at h
 refine fn_of_E Try.func95 rfl (Nat.le_of_ble_eq_true rfl) fun g0 hm hfr=>?_
 have rp0:RV g0.m wI x0 up0:=hm ▸ rp0
 show E _ 24 none _ _ _ _ _
 refine Zf (Za (Ze .plain rfl (D_box (g:=g0) rfl rp0 fun g1 w1 p1 hs q1=>?_)))
 have hfr:=hfr.ext hs
 refine Zg (.int .i64 (0)) rfl rfl ?_
 refine Zb (Zd (Zq h (fun (s:Unit) e w=>∃ (g:Gh) ,Fr gI wI g w∧e 1=p1∧PT g.m w (x0:FaultLoom) p1) (fun X7 k7 hk7 h=>?_) ?_))
 ·refine Zf (Za (Ga (fPtr p1 0) (Zc at_32_0 rfl (PT.ptr q1)) rfl ?_))
  have q8:=Zm (part_FaultLoom_0).1 q1
  refine Ze .plain rfl (D_load (g:=g1) Try.isAgg28 Try.sizeOf28 rfl q8 fun v9 r9=>?_)
  obtain ⟨y11,k8,h⟩:=Ge h
  refine Ze .plain rfl (Zp (g:=g1) (vs:=[v9]) en105 (.cons rfl .nil) (wk105 r9 k8) fun r8 y9 yA hs hr=>?_)
  have hfr:=hfr.ext hs
  have q1:=q1.ext hs
  subst hr
  refine Zg (.int .i64 (y11)) rfl rfl ?_
  refine Zb (Zd (Zf (Za (Zn (.int .i64 (y11)) rfl rfl ?_))))
  refine EL_in (.bool ((y11 != (0:Int)))) rfl rfl rfl rfl ?_
  refine Zb (Zd ?_)
  rcases Zt h with ⟨l5,h⟩ | ⟨l5,h⟩
  ·refine E_ct l5 rfl ?_
   refine Zf (Za (Zn (.int .i64 (y11)) rfl rfl ?_))
   refine Zg (.int .i64 (y11)) rfl rfl ?_
   refine Zb (Zd (E_ret (thn_r ?_)))
   obtain rfl:=sinj h
   exact end1 rfl rfl (show _=.int .i64 (y11) from rfl) ⟨_,hfr,rfl⟩
  ·refine E_cf l5 rfl ?_
   exact Zu (Zd (hk7 () _ _ ⟨r8,hfr,rfl,q1⟩ h))
 ·rintro _ z9 aB ⟨i7, hfr, i6, o0⟩ h
  refine Zq h (fun (s:Unit) e w=>∃ (g:Gh) ,Fr gI wI g w∧e 1=p1∧PT g.m w (x0:FaultLoom) p1) (fun X19 k19 l8 h=>?_) ?_
  ·refine Zf (Za (Ga (fPtr p1 2) (Zc at_32_1 i6 (PT.ptr o0)) rfl ?_))
   have v8:=Zm (part_FaultLoom_1).1 o0
   refine Ze .plain rfl (D_load (g:=i7) Try.isAgg30 Try.sizeOf30 rfl v8 fun x8 a9=>?_)
   obtain ⟨y23,m8,h⟩:=Ge h
   refine Ze .plain rfl (Zp (g:=i7) (vs:=[x8]) en102 (.cons rfl .nil) (wk102 a9 m8) fun d9 bA dB hs hr=>?_)
   have hfr:=hfr.ext hs
   have o0:=o0.ext hs
   subst hr
   refine Zg (.int .i64 (y23)) rfl rfl ?_
   refine Zb (Zd (Zf (Za (Zn (.int .i64 (y23)) rfl rfl ?_))))
   refine EL_in (.bool ((y23 != (0:Int)))) rfl rfl rfl rfl ?_
   refine Zb (Zd ?_)
   rcases Zt h with ⟨t5,h⟩ | ⟨t5,h⟩
   ·refine E_ct t5 rfl ?_
    refine Zf (Za (Zn (.int .i64 (y23)) rfl rfl ?_))
    refine Zg (.int .i64 (y23)) rfl rfl ?_
    refine Zb (Zd (E_ret (thn_r ?_)))
    obtain rfl:=sinj h
    exact end1 rfl rfl (show _=.int .i64 (y23) from rfl) ⟨_,hfr,rfl⟩
   ·refine E_cf t5 rfl ?_
    exact Zu (Zd (l8 () _ _ ⟨d9,hfr,i6,o0⟩ h))
  ·rintro _ iA iB ⟨y6, hfr, x6, u3⟩ h
   refine Zq h (fun (s:Unit) e w=>∃ (g:Gh) ,Fr gI wI g w) (fun X33 k33 n8 h=>?_) ?_
   ·refine Zf (Za (Ga (fPtr p1 0) (Zc at_32_0 x6 (PT.ptr u3)) rfl ?_))
    have m7:=Zm (part_FaultLoom_0).1 u3
    refine Ga (fPtr (fPtr p1 0) 0) (Zc at_28_0 rfl (PT.ptr m7)) rfl ?_
    have k9:=Zm (part_TieHarness_0).1 m7
    refine Ze .plain rfl (D_load (g:=y6) Try.isAgg3 Try.sizeOf3 rfl k9 fun lB l9=>?_)
    obtain rfl:=Zj.1 l9
    refine Ga (fPtr p1 2) (Zc at_32_1 x6 (PT.ptr u3)) rfl ?_
    have g8:=Zm (part_FaultLoom_1).1 u3
    refine Ga (fPtr (fPtr p1 2) 0) (Zc at_30_0 rfl (PT.ptr g8)) rfl ?_
    have n9:=Zm (part_Design_0).1 g8
    refine Ze .plain rfl (D_load (g:=y6) Try.isAgg3 Try.sizeOf3 rfl n9 fun mB u9=>?_)
    obtain rfl:=Zj.1 u9
    refine EL_in (.bool ((((x0).Harness).Hooks != ((x0).Design).Hooks))) rfl rfl rfl rfl ?_
    refine Zb (Zd ?_)
    rcases Zt h with ⟨x5,h⟩ | ⟨x5,h⟩
    ·refine E_ct x5 rfl ?_
     refine Zf (Za (Zg (.int .i64 (4)) rfl rfl ?_))
     refine Zb (Zd (E_ret (thn_r ?_)))
     obtain rfl:=sinj h
     exact end1 rfl rfl (show _=.int .i64 (4) from rfl) ⟨_,hfr,rfl⟩
    ·refine E_cf x5 rfl ?_
     exact Zu (Zd (n8 () _ _ ⟨y6,hfr⟩ h))
   ·rintro _ rA nB ⟨oB, hfr⟩ h
    refine Zf (Za (Zg (.int .i64 (0)) rfl rfl ?_))
    refine Zb (Zd (E_ret ?_))
    obtain rfl:=sinj h
    exact end1 rfl rfl (show _=.int .i64 (0) from rfl) ⟨_,hfr,rfl⟩
def f134 (x0:Zw) (z0:BoxBoxLoom):Option (Bool):=
 (f135 z0 x0).bind fun y5=>
 some ((!y5))
theorem en134:Enters Try.prog 134:=enters_of Try.func134 (by kernel_rfl) rfl
theorem wk134 {gI:Gh} {wI:World} {x0:Zw} {z0:BoxBoxLoom} {up0:Value} (rp0:RV gI.m wI x0 up0) {pf0:Value} (qf0:PT gI.m wI z0 pf0) {r:Bool} (h:f134 x0 z0=some r):Fn Try.prog 134 #[up0,pf0] gI wI (fun _ _ v=>v=.bool (r)):=by
 unfold f134 at h
 refine fn_of_E Try.func134 rfl (Nat.le_of_ble_eq_true rfl) fun g0 hm hfr=>?_
 have qf0:PT g0.m wI z0 pf0:=hm ▸ qf0
 have rp0:RV g0.m wI x0 up0:=hm ▸ rp0
 show E _ 8 none _ _ _ _ _
 refine Zf (Za (Ze .plain rfl (D_box (g:=g0) rfl rp0 fun g1 w1 p1 hs q1=>?_)))
 have hfr:=hfr.ext hs
 have qf0:=qf0.ext hs
 refine Zg (.bool false) rfl rfl ?_
 refine Zb (Zd (Zf (Za (Ze .plain rfl (D_load (g:=g1) Try.isAgg142 Try.sizeOf142 rfl qf0 fun v2 r2=>?_)))))
 refine Ze .plain rfl (D_load (g:=g1) Try.isAgg37 Try.sizeOf37 rfl q1 fun v3 r3=>?_)
 obtain ⟨y5,hy5,h⟩:=Ge h
 refine Ze .plain rfl (Zp (g:=g1) (vs:=[v2,v3]) en135 (.cons rfl (.cons rfl .nil)) (wk135 r2 r3 hy5) fun g4 w4_ v4 hs hr=>?_)
 have hfr:=hfr.ext hs
 subst hr
 refine Ga (.bool (!y5)) (P_not rfl) rfl ?_
 refine Zg (.bool (!y5)) rfl rfl ?_
 refine Zb (Zd (E_ret ?_))
 obtain rfl:=sinj h
 exact end1 rfl rfl (show _=.bool (!y5) from rfl) ⟨_,hfr,rfl⟩
def f139 (x0:BoxMill) (x1:BoxRace):Option (It (BoxPick × BoxStep)):=
 some ((fun σ cons s=>f215 ((⟨x0⟩:Ptr BoxMill)) x1 σ cons s))
theorem en139:Enters Try.prog 139:=enters_of Try.func139 (by kernel_rfl) rfl
theorem wk139 {gI:Gh} {wI:World} {x0:BoxMill} {x1:BoxRace} {up0:Value} (rp0:PT gI.m wI x0 up0) {up1:Value} (rp1:RV gI.m wI x1 up1) {r:It (BoxPick × BoxStep)} (h:f139 x0 x1=some r):Fn Try.prog 139 #[up0,up1] gI wI (fun m w v=>ItV Try.prog (RA2 (α:=BoxPick) (β:=BoxStep)) (r) v m w):=by
 unfold f139 at h
 refine fn_of_E Try.func139 rfl (Nat.le_of_ble_eq_true rfl) fun g0 hm hfr=>?_
 have hone500200:=PT.one rp0
 have rp0:PT g0.m wI x0 up0:=hm ▸ rp0
 have rp1:RV g0.m wI x1 up1:=hm ▸ rp1
 show E _ 6 none _ _ _ _ _
 refine Zf (Za (Ze .plain rfl (D_box (g:=g0) (a:=(⟨up0,hone500200⟩:Fv)) rfl (RV_fv.2 rfl) fun g1 w1 p1 hs q1=>?_)))
 have hfr:=hfr.ext hs
 have rp0:=rp0.ext hs
 have rp1:=rp1.ext hs
 refine Ze .plain rfl (D_box (g:=g1) rfl rp1 fun g2 w2 p2 hs q2=>?_)
 have hfr:=hfr.ext hs
 have rp0:=rp0.ext hs
 have q1:=q1.ext hs
 refine Zg (.nilFunc) rfl rfl ?_
 refine Zb (Zd (Zf (Za (Ga ((.func (.func 215) #[] #[p1,p2])) (P_makeFunc (capf_0_2 (show ev _ _=p1 from rfl) (show ev _ _=p2 from rfl))) rfl ?_))))
 refine Zg ((.func (.func 215) #[] #[p1,p2])) rfl rfl ?_
 refine Zb (Zd (E_ret ?_))
 obtain rfl:=sinj h
 exact end1 rfl rfl (show _=(.func (.func 215) #[] #[p1,p2]) from rfl) ⟨_,hfr,(show ItV Try.prog (RA2 (α:=BoxPick) (β:=BoxStep)) (fun σ cons s=>f215 ((⟨x0⟩:Ptr BoxMill)) x1 σ cons s) ((.func (.func 215) #[] #[p1,p2])) g2.m w2 from ⟨215,#[],#[p1,p2],rfl,en215,fun g' w' hch σ cons s s' h=>wk215  ((PT.ptrOf q1 rp0).ch hch) (q2.ch hch) h⟩)⟩
def f144 (x0:FaultLoom) (x1:List Zv):Option (Int):=
 jn (σ:=Unit) (fun _=>
  jn (σ:=Unit) (fun _=>
   some ((0:Int))
   ) fun i7=>
  bif (decide (((x1).length : Int) > (100 : Int))) then
   some ((5:Int))
  else
   (f222 x1 ((fun a0=>f220 a0 x0))).bind fun i6=>
   bif i6 then
    some ((2:Int))
   else
    i7 ()
  ) fun k6=>
 (f95 x0).bind fun y9=>
 bif (y9 != (0 : Int)) then
  some (y9)
 else
  k6 ()
theorem en144:Enters Try.prog 144:=enters_of Try.func144 (by kernel_rfl) rfl
theorem wk144 {gI:Gh} {wI:World} {x0:FaultLoom} {x1:List Zv} {up0:Value} (rp0:RV gI.m wI x0 up0) {up1:Value} (rp1:RV gI.m wI x1 up1) {r:Int} (h:f144 x0 x1=some r):Fn Try.prog 144 #[up0,up1] gI wI (fun _ _ v=>v=.int .i64 (r)):=by
 unfold f144 at h
 refine fn_of_E Try.func144 rfl (Nat.le_of_ble_eq_true rfl) fun g0 hm hfr=>?_
 have rp0:RV g0.m wI x0 up0:=hm ▸ rp0
 have rp1:RV g0.m wI x1 up1:=hm ▸ rp1
 show E _ 21 none _ _ _ _ _
 refine Zf (Za (Ze .plain rfl (D_box (g:=g0) rfl rp0 fun g1 w1 p1 hs q1=>?_)))
 have hfr:=hfr.ext hs
 have rp1:=rp1.ext hs
 refine Zg (.int .i64 (0)) rfl rfl ?_
 refine Zb (Zd (Zq h (fun (s:Unit) e w=>∃ (g:Gh) ,Fr gI wI g w∧e 1=up1∧RV g.m w (x1:List Zv) up1∧e 2=p1∧PT g.m w (x0:FaultLoom) p1) (fun X6 k6 hk6 h=>?_) ?_))
 ·refine Zf (Za (Ze .plain rfl (D_load (g := g1) Try.isAgg32 Try.sizeOf32 rfl q1 fun v7 r7 => ?_)))
  obtain ⟨y9,l8,h⟩:=Ge h
  refine Ze .plain rfl (Zp (g:=g1) (vs:=[v7]) en95 (.cons rfl .nil) (wk95 r7 l8) fun g8 w8_ v8 hs hr=>?_)
  have hfr:=hfr.ext hs
  have rp1:=rp1.ext hs
  have q1:=q1.ext hs
  subst hr
  refine Zg (.int .i64 (y9)) rfl rfl ?_
  refine Zb (Zd (Zf (Za (Zn (.int .i64 (y9)) rfl rfl ?_))))
  refine EL_in (.bool ((y9 != (0:Int)))) rfl rfl rfl rfl ?_
  refine Zb (Zd ?_)
  rcases Zt h with ⟨o0,h⟩ | ⟨o0,h⟩
  ·refine E_ct o0 rfl ?_
   refine Zf (Za (Zn (.int .i64 (y9)) rfl rfl ?_))
   refine Zg (.int .i64 (y9)) rfl rfl ?_
   refine Zb (Zd (E_ret (thn_r ?_)))
   obtain rfl:=sinj h
   exact end1 rfl rfl (show _=.int .i64 (y9) from rfl) ⟨_,hfr,rfl⟩
  ·refine E_cf o0 rfl ?_
   exact Zu (Zd (hk6 () _ _ ⟨g8,hfr,rfl,rp1,rfl,q1⟩ h))
 ·rintro _ r8 d9 ⟨m8, hfr, t5, x5, x6, y6⟩ h
  refine Zf (Za (Ga ((.func (.func 220) #[] #[p1])) (P_makeFunc (capf_0_1 (show ev _ _=p1 from x6))) rfl ?_))
  refine Zg ((.func (.func 220) #[] #[p1])) rfl rfl ?_
  refine Zb (Zd (Zq h (fun (s:Unit) e w=>∃ (g:Gh) ,Fr gI wI g w) (fun X16 i7 m7 h=>?_) ?_))
  ·refine Zr ?_
   refine Zf (Za (Zo t5 rfl ?_))
   refine Ga (.int .i64 ((x1).length:Int)) (P_len Try.underlying57 rfl x5) rfl ?_
   refine EL_in (.bool ((decide (((x1).length:Int) > (100:Int))))) rfl rfl rfl rfl ?_
   refine Zg (.bool ((decide (((x1).length:Int) > (100:Int))))) rfl rfl ?_
   refine Zb (Zd ?_)
   rcases Zt h with ⟨u3,h⟩ | ⟨u3,h⟩
   ·refine E_ct u3 rfl ?_
    refine Zf (Za (Zg (.int .i64 (5)) rfl rfl ?_))
    refine Zb (Zd (E_ret (blk_r ?_)))
    refine thn_r ?_
    obtain rfl:=sinj h
    exact end1 rfl rfl (show _=.int .i64 (5) from rfl) ⟨_,hfr,rfl⟩
   ·refine E_cf u3 rfl ?_
    refine Zf (Za (Zo t5 rfl ?_))
    refine Zn ((.func (.func 220) #[] #[p1])) rfl rfl ?_
    obtain ⟨i6,k8,h⟩:=Ge h
    refine Ze .plain rfl (Zp (g:=m8) (vs:=[up1,(.func (.func 220) #[] #[p1])]) en222 (.cons rfl (.cons rfl .nil)) (wk222 x5 ⟨220,#[],#[p1],rfl,en220,fun g' w' hch a0 b0 r hu0 hr=>by exact Fn.mono (wk220 hu0 (y6.ch hch) hr) fun _ _ _ h=>RV_bool.2 h⟩ k8) fun n8 x8 k9 hs hr=>?_)
    have hfr:=hfr.ext hs
    subst hr
    refine Zg (.bool (i6)) rfl rfl ?_
    refine Zb (Zd ?_)
    rcases Zt h with ⟨l5,h⟩ | ⟨l5,h⟩
    ·refine E_ct l5 rfl ?_
     refine Zf (Za (Zg (.int .i64 (2)) rfl rfl ?_))
     refine Zb (Zd (E_ret (blk_r ?_)))
     refine thn_r ?_
     obtain rfl:=sinj h
     exact end1 rfl rfl (show _=.int .i64 (2) from rfl) ⟨_,hfr,rfl⟩
    ·refine E_cf l5 rfl ?_
     exact Zu (blk_n (Zd (m7 () _ _ ⟨n8,hfr⟩ h)))
  ·rintro _ a9 l9 ⟨n9, hfr⟩ h
   refine Zf (Za (Zg (.int .i64 (0)) rfl rfl ?_))
   refine Zb (Zd (E_ret ?_))
   obtain rfl:=sinj h
   exact end1 rfl rfl (show _=.int .i64 (0) from rfl) ⟨_,hfr,rfl⟩
def f62 (x0:BoxLoom):Option (BoxBoxLoom × Int):=
 jn (σ:=BoxBoxLoom) (fun o0=>
  Option.bind (α:=(List ((Vector Int 2) × Bool))) (
   lp (σ:=(List ((Vector Int 2) × Bool)) × Int) (fun lE (z9,u3)=>
    bif (decide (u3 < (((x0).Shuttles).length : Int))) then
     Option.bind (α:=(List ((Vector Int 2) × Bool))) (
      (idx ((x0).Shuttles) u3).bind fun m7=>
      some ((mset z9 ((⟨List.toArray [(m7).Side,(m7).Box],rfl⟩:Vector Int 2)) true))
      ) fun k9=>
     lE (k9,(w64 (u3 + (1:Int))))
    else
     some (z9)
    ) big (([]:List ((Vector Int 2) × Bool)),(0:Int))
   ) fun l9=>
  jn (σ:=BoxBoxLoom) (fun mE=>
   some ((⟨x0⟩:BoxBoxLoom),(0:Int))
   ) fun oE=>
  bif (decide (((l9).length : Int) < (((x0).Shuttles).length : Int))) then
   some ((⟨x0⟩:BoxBoxLoom),(6:Int))
  else
   oE (o0)
  ) fun k54=>
 Option.bind (α:=Bool) (
  bif ((((x0).Boxes).length : Int) != (2 : Int)) then
   some (((((x0).Boxes).length:Int) != (2:Int)))
  else
   some (((((x0).At).length:Int) != (2:Int)))
  ) fun l8=>
 bif l8 then
  some ((⟨x0⟩:BoxBoxLoom),(4:Int))
 else
  (f136 ((⟨x0⟩:BoxBoxLoom))).bind fun sD=>
  bif (!sD) then
   some ((⟨x0⟩:BoxBoxLoom),(3:Int))
  else
   bif (decide ((((x0).Shuttles).length : Int) > (6 : Int))) then
    some ((⟨x0⟩:BoxBoxLoom),(5:Int))
   else
    Option.bind (α:=Bool) (
     bif ((((x0).Shuttles).length : Int) == (0 : Int)) then
      some (((((x0).Shuttles).length:Int) == (0:Int)))
     else
      (f137 ((x0).Shuttles) ((fun a0=>f134 a0 ((⟨x0⟩:BoxBoxLoom))))).bind fun rE=>
      some (rE)
     ) fun m8=>
    bif m8 then
     some ((⟨x0⟩:BoxBoxLoom),(2:Int))
    else
     k54 ((⟨⟨[],[],[]⟩⟩:BoxBoxLoom))
theorem en62:Enters Try.prog 62:=enters_of Try.func62 (by kernel_rfl) rfl
theorem wk62 {gI:Gh} {wI:World} {x0:BoxLoom} {up0:Value} (rp0:RV gI.m wI x0 up0) {r:BoxBoxLoom × Int} (h:f62 x0=some r):Fn Try.prog 62 #[up0] gI wI (fun m w v=>∃ y0 y1,v=.tuple #[y0,y1]∧RV m w (r.1) y0∧y1=.int .i64 (r.2)):=by
 unfold f62 at h
 refine fn_of_E Try.func62 rfl (Nat.le_of_ble_eq_true rfl) fun g0 hm hfr=>?_
 have rp0:RV g0.m wI x0 up0:=hm ▸ rp0
 show E _ 66 none _ _ _ _ _
 refine Zf (Za (Ze .plain rfl (D_box (g:=g0) rfl rp0 fun g1 w1 p1 hs q1=>?_)))
 have hfr:=hfr.ext hs
 refine Ze .plain rfl (D_allocOc (g:=g1) 2002 (⟨⟨[],[],[]⟩⟩:BoxBoxLoom) Try.zeroValue142 (fun m w=>⟨_,(rep_two rep_nil (rep_two rep_nil rep_nil)),rfl⟩) fun g2 w2 p2 hs b2 cb=>?_)
 have hfr:=hfr.stp hs
 have q1:=q1.stp hs
 have n8:OSF 2002 60200 0 g2 w2 3 142 ([]:List Int) p2:=cb.osf (by rfl)
 have r8:OSF 2002 60201 1 g2 w2 3 142 ([]:List Int) p2:=cb.osf (by rfl)
 have v8:OSF 2002 60202 2 g2 w2 37 142 ([]:List Zw) p2:=cb.osf (by rfl)
 clear cb
 refine Zg (.int .i64 (0)) rfl rfl ?_
 refine Zb (Zd (Zf (Za (Ze .plain rfl (D_load (g:=g2) Try.isAgg40 Try.sizeOf40 rfl q1 fun v3 r3=>?_)))))
 have r4:RV g2.m _ (⟨x0⟩:BoxBoxLoom) (.agg (setCh [[.slice none 0 0,.slice none 0 0,.slice none 0 0]] [(0,v3)]).flatten.toArray):=RV_build rfl (rep_last (RV.cells r3))
 generalize lI:(Value.agg (setCh [[.slice none 0 0,.slice none 0 0,.slice none 0 0]] [(0,v3)]).flatten.toArray)=v4 at r4
 refine Ga v4 (lI ▸ P_build (vs:=[(0,v3)]) [[.slice none 0 0,.slice none 0 0,.slice none 0 0]] lay_142 rfl rfl (.cons rfl .nil) ⟨⟨_,rfl,cells_size r3⟩,trivial⟩) rfl ?_
 refine Ze .plain rfl (D_allocOc (g:=g2) 2004 (⟨⟨[],[],[]⟩⟩:BoxBoxLoom) Try.zeroValue142 (fun m w=>⟨_,(rep_two rep_nil (rep_two rep_nil rep_nil)),rfl⟩) fun g5 w5 p5 hs b5 cb=>?_)
 have hfr:=hfr.stp hs
 have q1:=q1.stp hs
 have n8:=n8.stp hs rfl
 have r8:=r8.stp hs rfl
 have v8:=v8.stp hs rfl
 have b2:=b2.stp hs rfl
 have r4:=r4.stp hs
 have yJ:OSF 2004 60400 0 g5 w5 3 142 ([]:List Int) p5:=cb.osf (by rfl)
 have zJ:OSF 2004 60401 1 g5 w5 3 142 ([]:List Int) p5:=cb.osf (by rfl)
 have aK:OSF 2004 60402 2 g5 w5 37 142 ([]:List Zw) p5:=cb.osf (by rfl)
 clear cb
 refine Ze .plain rfl (D_storeOc (g:=g5) (v:=v4) Try.sizeOf142 rfl b5 rfl r4 fun g6 w6 hs b6 cb=>?_)
 clear cb
 have hfr:=hfr.stp hs
 have q1:=q1.stp hs
 have n8:=n8.stp hs rfl
 have r8:=r8.stp hs rfl
 have v8:=v8.stp hs rfl
 have b2:=b2.stp hs rfl
 obtain ⟨gp6,hs,qp6⟩:=OB.pub b6
 have hfr:=hfr.stp hs
 have q1:=q1.stp hs
 have n8:=n8.stp hs rfl
 have r8:=r8.stp hs rfl
 have v8:=v8.stp hs rfl
 have b2:=b2.stp hs rfl
 refine Zb (Zd (Zf (Za (Ga ((.func (.func 134) #[] #[p5])) (P_makeFunc (capf_0_1 (show ev _ _=p5 from rfl))) rfl ?_))))
 refine Zg ((.func (.func 134) #[] #[p5])) rfl rfl ?_
 refine Zb (Zd (Zq h (fun (s:BoxBoxLoom) e w=>∃ (g:Gh) ,Fr gI wI g w∧e 1=p1∧PT g.m w (x0:BoxLoom) p1∧e 2=p2∧OB 2002 g w 142 (s:BoxBoxLoom) p2∧OSF 2002 60200 0 g w 3 142 (((s).BoxLoom).Boxes) p2∧OSF 2002 60201 1 g w 3 142 (((s).BoxLoom).At) p2∧OSF 2002 60202 2 g w 37 142 (((s).BoxLoom).Shuttles) p2∧e 4=p5∧PT g.m w ((⟨x0⟩:BoxBoxLoom):BoxBoxLoom) p5) (fun X54 k54 aH h=>?_) ?_))
 ·refine Zr ?_
  obtain ⟨l8,hx,h⟩:=Ge h
  refine E_join (fun e w=>∃ (g:Gh) ,Fr gI wI g w∧e 1=p1∧PT g.m w (x0:BoxLoom) p1∧e 2=p2∧OB 2002 g w 142 ((⟨⟨[],[],[]⟩⟩:BoxBoxLoom):BoxBoxLoom) p2∧OSF 2002 60200 0 g w 3 142 ((((⟨⟨[],[],[]⟩⟩:BoxBoxLoom)).BoxLoom).Boxes) p2∧OSF 2002 60201 1 g w 3 142 ((((⟨⟨[],[],[]⟩⟩:BoxBoxLoom)).BoxLoom).At) p2∧OSF 2002 60202 2 g w 37 142 ((((⟨⟨[],[],[]⟩⟩:BoxBoxLoom)).BoxLoom).Shuttles) p2∧e 4=p5∧PT g.m w ((⟨x0⟩:BoxBoxLoom):BoxBoxLoom) p5∧e 5=(.func (.func 134) #[] #[p5])∧e 12=.bool (l8)) (fun Q' hQ=>?_) (fun bK iL hR=>?_)
  ·replace h := hx
   clear hx
   refine Zf (Za (Ga (fPtr p1 0) (Zc at_40_0 rfl (PT.ptr q1)) rfl ?_))
   have mI:=Zm (part_BoxLoom_0).1 q1
   refine Ze .plain rfl (D_load (g:=gp6) Try.isAgg26 Try.sizeOf26 rfl mI fun jL nI=>?_)
   refine Ga (.int .i64 (((x0).Boxes).length:Int)) (P_len Try.underlying26 rfl nI) rfl ?_
   refine EL_in (.bool (((((x0).Boxes).length:Int) != (2:Int)))) rfl rfl rfl rfl ?_
   refine Zg (.bool (((((x0).Boxes).length:Int) != (2:Int)))) rfl rfl ?_
   refine Zb (Zd ?_)
   rcases Zt h with ⟨cD,h⟩ | ⟨cD,h⟩
   ·refine E_ct cD rfl ?_
    refine Zu ?_
    obtain rfl:=sinj h
    exact hQ _ _ ⟨gp6,hfr,rfl,q1,rfl,b2,n8,r8,v8,rfl,qp6,rfl,rfl⟩
   ·refine E_cf cD rfl ?_
    refine Za (Ga (fPtr p1 1) (Zc at_40_1 rfl (PT.ptr q1)) rfl ?_)
    have pI:=Zm (part_BoxLoom_1).1 q1
    refine Ze .plain rfl (D_load (g:=gp6) Try.isAgg26 Try.sizeOf26 rfl pI fun lL qI=>?_)
    refine Ga (.int .i64 (((x0).At).length:Int)) (P_len Try.underlying26 rfl qI) rfl ?_
    refine EL_in (.bool (((((x0).At).length:Int) != (2:Int)))) rfl rfl rfl rfl ?_
    refine Zg (.bool (((((x0).At).length:Int) != (2:Int)))) rfl rfl ?_
    refine Zb ?_
    obtain rfl:=sinj h
    exact hQ _ _ ⟨gp6,hfr,rfl,q1,rfl,b2,n8,r8,v8,rfl,qp6,rfl,rfl⟩
  ·clear hx
   obtain ⟨tD,hfr,n9,t5,g8,i7,u2_0_66,u2_1_66,u2_2_66,a9,x5,iG,vB⟩:=hR
   rcases Zt h with ⟨eD,h⟩ | ⟨eD,h⟩
   ·refine E_cond_true (Eq.trans (show ev _ _ = .bool (l8) from vB) (congrArg Value.bool eD)) ?_
    refine Zf (Za (Ze .plain rfl (D_load (g:=tD) Try.isAgg142 Try.sizeOf142 a9 x5 fun sI tI=>?_)))
    refine Ze .plain rfl (D_storeOc (g:=tD) (v:=sI) Try.sizeOf142 g8 i7 rfl tI fun mL nL hs b69 cb=>?_)
    clear cb
    have hfr:=hfr.stp hs
    refine Zg (.int .i64 (4)) rfl rfl ?_
    refine Zb (Zd (E_ret (blk_r ?_)))
    refine thn_r ?_
    obtain rfl:=sinj h
    obtain ⟨ad70,cv70,hp70,cH,cr70⟩:=ob_read Try.isAgg142 Try.sizeOf142 b69
    exact endm_ct rfl rfl ((show _=p2 from g8).trans hp70) cH (show _=.int .i64 (4) from rfl) ⟨_,hfr,_,_,rfl,cr70,rfl⟩
   ·refine E_cond_false (Eq.trans (show ev _ _ = .bool (l8) from vB) (congrArg Value.bool eD)) ?_
    refine Zf (Za (Ze .plain rfl (D_load (g:=tD) Try.isAgg142 Try.sizeOf142 a9 x5 fun uI vI=>?_)))
    obtain ⟨sD,dH,h⟩:=Ge h
    refine Ze .plain rfl (Zp (g:=tD) (vs:=[uI]) en136 (.cons rfl .nil) (wk136 vI dH) fun u9 cK oL hs hr=>?_)
    have hfr:=hfr.ext hs
    have t5:=t5.ext hs
    have u2_0_66:=u2_0_66.ext hs
    have u2_1_66:=u2_1_66.ext hs
    have u2_2_66:=u2_2_66.ext hs
    have i7:=i7.ext hs
    have x5:=x5.ext hs
    subst hr
    refine Ga (.bool (!sD)) (P_not rfl) rfl ?_
    refine Zg (.bool (!sD)) rfl rfl ?_
    refine Zb (Zd ?_)
    rcases Zt h with ⟨gD,h⟩ | ⟨gD,h⟩
    ·refine E_ct gD rfl ?_
     refine Zf (Za (Ze .plain rfl (D_load (g:=u9) Try.isAgg142 Try.sizeOf142 a9 x5 fun yI zI=>?_)))
     refine Ze .plain rfl (D_storeOc (g:=u9) (v:=yI) Try.sizeOf142 g8 i7 rfl zI fun pL qL hs b76 cb=>?_)
     clear cb
     have hfr:=hfr.stp hs
     refine Zg (.int .i64 (3)) rfl rfl ?_
     refine Zb (Zd (E_ret (blk_r ?_)))
     refine thn_r ?_
     obtain rfl:=sinj h
     obtain ⟨ad77,cv77,hp77,gH,cr77⟩:=ob_read Try.isAgg142 Try.sizeOf142 b76
     exact endm_ct rfl rfl ((show _=p2 from g8).trans hp77) gH (show _=.int .i64 (3) from rfl) ⟨_,hfr,_,_,rfl,cr77,rfl⟩
    ·refine E_cf gD rfl ?_
     refine Zf (Za (Ga (fPtr p1 2) (Zc at_40_2 n9 (PT.ptr t5)) rfl ?_))
     have eJ:=Zm (part_BoxLoom_2).1 t5
     refine Ze .plain rfl (D_load (g:=u9) Try.isAgg38 Try.sizeOf38 rfl eJ fun rL gJ=>?_)
     refine Ga (.int .i64 (((x0).Shuttles).length:Int)) (P_len Try.underlying38 rfl gJ) rfl ?_
     refine Ga (.bool ((decide ((((x0).Shuttles).length:Int) > (6:Int))))) (P_int rfl rfl rfl) rfl ?_
     refine Ga (.bool ((decide ((((x0).Shuttles).length:Int) > (6:Int))))) (P_assign rfl) rfl ?_
     refine Zb (Zd ?_)
     rcases Zt h with ⟨iD,h⟩ | ⟨iD,h⟩
     ·refine E_ct iD rfl ?_
      refine Zf (Za (Ze .plain rfl (D_load (g:=u9) Try.isAgg142 Try.sizeOf142 a9 x5 fun iJ jJ=>?_)))
      refine Ze .plain rfl (D_storeOc (g:=u9) (v:=iJ) Try.sizeOf142 g8 i7 rfl jJ fun tL uL hs b82 cb=>?_)
      clear cb
      have hfr:=hfr.stp hs
      refine Zg (.int .i64 (5)) rfl rfl ?_
      refine Zb (Zd (E_ret (blk_r ?_)))
      refine thn_r ?_
      obtain rfl:=sinj h
      obtain ⟨ad83,cv83,hp83,iH,cr83⟩:=ob_read Try.isAgg142 Try.sizeOf142 b82
      exact endm_ct rfl rfl ((show _=p2 from g8).trans hp83) iH (show _=.int .i64 (5) from rfl) ⟨_,hfr,_,_,rfl,cr83,rfl⟩
     ·refine E_cf iD rfl ?_
      obtain ⟨m8,hx,h⟩:=Ge h
      refine E_join (fun e w=>∃ (g:Gh) ,Fr gI wI g w∧e 1=p1∧PT g.m w (x0:BoxLoom) p1∧e 2=p2∧OB 2002 g w 142 ((⟨⟨[],[],[]⟩⟩:BoxBoxLoom):BoxBoxLoom) p2∧OSF 2002 60200 0 g w 3 142 ((((⟨⟨[],[],[]⟩⟩:BoxBoxLoom)).BoxLoom).Boxes) p2∧OSF 2002 60201 1 g w 3 142 ((((⟨⟨[],[],[]⟩⟩:BoxBoxLoom)).BoxLoom).At) p2∧OSF 2002 60202 2 g w 37 142 ((((⟨⟨[],[],[]⟩⟩:BoxBoxLoom)).BoxLoom).Shuttles) p2∧e 4=p5∧PT g.m w ((⟨x0⟩:BoxBoxLoom):BoxBoxLoom) p5∧e 33=.bool (m8)) (fun Q' hQ=>?_) (fun dK vL hR=>?_)
      ·replace h := hx
       clear hx
       refine Zf (Za (Ga (fPtr p1 2) (Zc at_40_2 n9 (PT.ptr t5)) rfl ?_))
       have kJ:=Zm (part_BoxLoom_2).1 t5
       refine Ze .plain rfl (D_load (g:=u9) Try.isAgg38 Try.sizeOf38 rfl kJ fun xL lJ=>?_)
       refine Ga (.int .i64 (((x0).Shuttles).length:Int)) (P_len Try.underlying38 rfl lJ) rfl ?_
       refine EL_in (.bool (((((x0).Shuttles).length:Int) == (0:Int)))) rfl rfl rfl rfl ?_
       refine Zg (.bool (((((x0).Shuttles).length:Int) == (0:Int)))) rfl rfl ?_
       refine Zb (Zd ?_)
       rcases Zt h with ⟨jD,h⟩ | ⟨jD,h⟩
       ·refine E_ct jD rfl ?_
        refine Zu ?_
        obtain rfl:=sinj h
        exact hQ _ _ ⟨u9,hfr,n9,t5,g8,i7,u2_0_66,u2_1_66,u2_2_66,a9,x5,rfl⟩
       ·refine E_cf jD rfl ?_
        refine Za (Ga (fPtr p1 2) (Zc at_40_2 n9 (PT.ptr t5)) rfl ?_)
        have mJ:=Zm (part_BoxLoom_2).1 t5
        refine Ze .plain rfl (D_load (g:=u9) Try.isAgg38 Try.sizeOf38 rfl mJ fun nJ oJ=>?_)
        refine Zo iG rfl ?_
        obtain ⟨rE,jH,h⟩:=Ge h
        refine Ze .plain rfl (Zp (g:=u9) (vs:=[nJ,(.func (.func 134) #[] #[p5])]) en137 (.cons rfl (.cons rfl .nil)) (wk137 oJ ⟨134,#[],#[p5],rfl,en134,fun g' w' hch a0 b0 r hu0 hr=>by exact Fn.mono (wk134 hu0 (x5.ch hch) hr) fun _ _ _ h=>RV_bool.2 h⟩ jH) fun pJ lK yL hs hr=>?_)
        have hfr:=hfr.ext hs
        have t5:=t5.ext hs
        have u2_0_66:=u2_0_66.ext hs
        have u2_1_66:=u2_1_66.ext hs
        have u2_2_66:=u2_2_66.ext hs
        have i7:=i7.ext hs
        have x5:=x5.ext hs
        subst hr
        refine Zg (.bool (rE)) rfl rfl ?_
        refine Zb ?_
        obtain rfl:=sinj h
        exact hQ _ _ ⟨pJ,hfr,n9,t5,g8,i7,u2_0_66,u2_1_66,u2_2_66,a9,x5,rfl⟩
      ·clear hx
       obtain ⟨uE,hfr,jG,kG,mB,uD,u2_0_98,u2_1_98,u2_2_98,vD,xD,yB⟩:=hR
       rcases Zt h with ⟨lD,h⟩ | ⟨lD,h⟩
       ·refine E_cond_true (Eq.trans (show ev _ _ = .bool (m8) from yB) (congrArg Value.bool lD)) ?_
        refine Zf (Za (Ze .plain rfl (D_load (g:=uE) Try.isAgg142 Try.sizeOf142 vD xD fun kH lH=>?_)))
        refine Ze .plain rfl (D_storeOc (g:=uE) (v:=kH) Try.sizeOf142 mB uD rfl lH fun mK nK hs b101 cb=>?_)
        clear cb
        have hfr:=hfr.stp hs
        refine Zg (.int .i64 (2)) rfl rfl ?_
        refine Zb (Zd (E_ret (blk_r ?_)))
        refine thn_r ?_
        obtain rfl:=sinj h
        obtain ⟨ad102,cv102,hp102,lG,cr102⟩:=ob_read Try.isAgg142 Try.sizeOf142 b101
        exact endm_ct rfl rfl ((show _=p2 from mB).trans hp102) lG (show _=.int .i64 (2) from rfl) ⟨_,hfr,_,_,rfl,cr102,rfl⟩
       ·refine E_cond_false (Eq.trans (show ev _ _ = .bool (m8) from yB) (congrArg Value.bool lD)) ?_
        exact Zu (blk_n (Zd (aH ((⟨⟨[],[],[]⟩⟩:BoxBoxLoom)) _ _ ⟨uE,hfr,jG,kG,mB,uD,u2_0_98,u2_1_98,u2_2_98,vD,xD⟩ h)))
 ·rintro o0 qJ oK ⟨mH, hfr, zB, x8, vE, bA, u2_0_103, u2_1_103, u2_2_103, xE, iA⟩ h
  refine Zf (Za (Ze .plain rfl (D_makeMap (g:=mH) (encK pl_75) Bool 8043 fun yE pK d9 hs m104=>?_)))
  have hfr:=hfr.stp hs
  have x8:=x8.stp hs
  have u2_0_103:=u2_0_103.stp hs rfl
  have u2_1_103:=u2_1_103.stp hs rfl
  have u2_2_103:=u2_2_103.stp hs rfl
  have bA:=bA.stp hs rfl
  have iA:=iA.stp hs
  refine Zg d9 rfl rfl ?_
  refine Zb (Zd ?_)
  obtain ⟨l9,hx,h⟩:=Ge h
  refine E_join (fun e w=>∃ (g:Gh) ,Fr gI wI g w∧e 1=p1∧PT g.m w (x0:BoxLoom) p1∧e 2=p2∧OB 2002 g w 142 (o0:BoxBoxLoom) p2∧OSF 2002 60200 0 g w 3 142 (((o0).BoxLoom).Boxes) p2∧OSF 2002 60201 1 g w 3 142 (((o0).BoxLoom).At) p2∧OSF 2002 60202 2 g w 37 142 (((o0).BoxLoom).Shuttles) p2∧e 4=p5∧PT g.m w ((⟨x0⟩:BoxBoxLoom):BoxBoxLoom) p5∧e 6=d9∧MP (encK pl_75) 8043 g w (l9:List ((Vector Int 2) × Bool)) d9) (fun Q' hQ=>?_) (fun rJ qK hR=>?_)
  ·replace h := hx
   clear hx
   refine Zf (Za (Ga (fPtr p1 2) (Zc at_40_2 zB (PT.ptr x8)) rfl ?_))
   have nH:=Zm (part_BoxLoom_2).1 x8
   refine Ze .plain rfl (D_load (g:=yE) Try.isAgg38 Try.sizeOf38 rfl nH fun rA zE=>?_)
   refine Ga (.int .i64 (((x0).Shuttles).length:Int)) (P_len Try.underlying38 rfl zE) rfl ?_
   refine Zn (.int .i64 (0)) rfl rfl ?_
   refine Zb (Zd (Zr ?_))
   refine E_lp h (fun (s:(List ((Vector Int 2) × Bool)) × Int) e w=>∃ (g:Gh) ,Fr gI wI g w∧e 1=p1∧PT g.m w (x0:BoxLoom) p1∧e 2=p2∧OB 2002 g w 142 (o0:BoxBoxLoom) p2∧OSF 2002 60200 0 g w 3 142 (((o0).BoxLoom).Boxes) p2∧OSF 2002 60201 1 g w 3 142 (((o0).BoxLoom).At) p2∧OSF 2002 60202 2 g w 37 142 (((o0).BoxLoom).Shuttles) p2∧e 4=p5∧PT g.m w ((⟨x0⟩:BoxBoxLoom):BoxBoxLoom) p5∧e 6=d9∧MP (encK pl_75) 8043 g w (s.1:List ((Vector Int 2) × Bool)) d9∧e 45=rA∧RV g.m w ((x0).Shuttles:List Zw) rA∧e 46=.int .i64 ((((x0).Shuttles).length:Int))∧e 47=.int .i64 (s.2)) ⟨yE,hfr,zB,x8,vE,bA,u2_0_103,u2_1_103,u2_2_103,xE,iA,rfl,m104,rfl,zE,rfl,rfl⟩ (fun X135 lE mG=>?_)
   rintro ⟨z9,u3⟩ sJ sK ⟨nD,hfr,cC,i6,mC,x6,u2_0_136,u2_1_136,u2_2_136,qC,y6,yA,k8,iB,l5,lB,y9⟩ h
   refine Zf (Za (Ga (.bool ((decide (u3 < (((x0).Shuttles).length:Int))))) (P_int y9 lB rfl) rfl ?_))
   refine Zb (Zd (Zf ?_))
   rcases Zt h with ⟨nB,h⟩ | ⟨nB,h⟩
   ·refine E_ct nB rfl ?_
    refine Zu (Zd ?_)
    obtain ⟨k9,hx,h⟩:=Ge h
    refine E_join (fun e w=>∃ (g:Gh) ,Fr gI wI g w∧e 1=p1∧PT g.m w (x0:BoxLoom) p1∧e 2=p2∧OB 2002 g w 142 (o0:BoxBoxLoom) p2∧OSF 2002 60200 0 g w 3 142 (((o0).BoxLoom).Boxes) p2∧OSF 2002 60201 1 g w 3 142 (((o0).BoxLoom).At) p2∧OSF 2002 60202 2 g w 37 142 (((o0).BoxLoom).Shuttles) p2∧e 4=p5∧PT g.m w ((⟨x0⟩:BoxBoxLoom):BoxBoxLoom) p5∧e 6=d9∧MP (encK pl_75) 8043 g w (k9:List ((Vector Int 2) × Bool)) d9∧e 45=rA∧RV g.m w ((x0).Shuttles:List Zw) rA∧e 46=.int .i64 ((((x0).Shuttles).length:Int))∧e 47=.int .i64 (u3)) (fun Q' hQ=>?_) (fun vJ tK hR=>?_)
    ·replace h := hx
     clear hx
     refine Zr ?_
     refine Zf (Za ?_)
     obtain ⟨m7,yD,h⟩:=Ge h
     refine Ga (ePtr rA u3 5) (Zh (α:=Zw) Try.underlying38 Try.sizeOf37 iB l5 y9 yD) rfl ?_
     have oH:=PT_idx l5 yD
     refine Ze .plain rfl (D_load (g:=nD) Try.isAgg37 Try.sizeOf37 rfl oH fun pH oD=>?_)
     refine Ze .plain rfl (D_allocOc (g:=nD) 2008 (⟨0,0,0,⟨0,0⟩⟩:Zw) Try.zeroValue37 (fun m w=>⟨_,(rep_two Zy (rep_two Zy (rep_two Zy (rep_two Zy Zy)))),rfl⟩) fun qH uK cF hs b152 cb=>?_)
     have hfr:=hfr.stp hs
     have i6:=i6.stp hs
     have u2_0_136:=u2_0_136.stp hs rfl
     have u2_1_136:=u2_1_136.stp hs rfl
     have u2_2_136:=u2_2_136.stp hs rfl
     have x6:=x6.stp hs rfl
     have y6:=y6.stp hs
     have k8:=k8.stp hs rfl
     have l5:=l5.stp hs
     have oD:=oD.stp hs
     clear cb
     refine Ze .plain rfl (D_storeOc (g:=qH) (v:=pH) Try.sizeOf37 rfl b152 rfl oD fun oB sH hs b153 cb=>?_)
     clear cb
     have hfr:=hfr.stp hs
     have i6:=i6.stp hs
     have u2_0_136:=u2_0_136.stp hs rfl
     have u2_1_136:=u2_1_136.stp hs rfl
     have u2_2_136:=u2_2_136.stp hs rfl
     have x6:=x6.stp hs rfl
     have y6:=y6.stp hs
     have k8:=k8.stp hs rfl
     have l5:=l5.stp hs
     refine Zb (Zd (Za (Zo yA rfl ?_)))
     refine Ga (fPtr cF 1) (Zc at_37_1 rfl (OB.ptr b153)) rfl ?_
     refine Ze .plain rfl (D_loadF (g:=oB) part_BoxShuttle_1.1 Try.isAgg3 Try.sizeOf3 rfl b153 fun vK tH=>?_)
     obtain rfl:=Zj.1 tH
     refine Ga (fPtr cF 2) (Zc at_37_2 rfl (OB.ptr b153)) rfl ?_
     refine Ze .plain rfl (D_loadF (g:=oB) part_BoxShuttle_2.1 Try.isAgg3 Try.sizeOf3 rfl b153 fun xK uH=>?_)
     obtain rfl:=Zj.1 uH
     have dF:RV oB.m sH (⟨List.toArray [(m7).Side,(m7).Box],rfl⟩:Vector Int 2) (.agg (setCh [[.int .i64 0],[.int .i64 0]] [(0,.int .i64 ((m7).Side)),(1,.int .i64 ((m7).Box))]).flatten.toArray):=RV_build rfl (rep_vec (Zx rfl (Zx rfl flat_nil)) rfl)
     generalize sG:(Value.agg (setCh [[.int .i64 0],[.int .i64 0]] [(0,.int .i64 ((m7).Side)),(1,.int .i64 ((m7).Box))]).flatten.toArray)=xH at dF
     refine Ga xH (sG ▸ P_buildA (vs:=[(0,.int .i64 ((m7).Side)),(1,.int .i64 ((m7).Box))]) [[.int .i64 0],[.int .i64 0]] Try.underlying75 layA_75 szA_3 rfl (by simp) (.cons rfl (.cons rfl .nil)) ⟨⟨_,rfl,rfl⟩,⟨⟨_,rfl,rfl⟩,trivial⟩⟩) rfl ?_
     refine Ze .plain rfl (D_mapUpdate (g:=oB) Try.underlying271 key_75 rfl k8 (rfl.trans (encK_of pl_75 dF)) rfl (RV_bool.2 rfl) fun yH yK hs m159=>?_)
     have hfr:=hfr.stp hs
     have i6:=i6.stp hs
     have u2_0_136:=u2_0_136.stp hs rfl
     have u2_1_136:=u2_1_136.stp hs rfl
     have u2_2_136:=u2_2_136.stp hs rfl
     have x6:=x6.stp hs rfl
     have y6:=y6.stp hs
     have l5:=l5.stp hs
     refine Zb (blk_n ?_)
     obtain rfl:=sinj h
     exact hQ _ _ ⟨yH,hfr,cC,i6,mC,x6,u2_0_136,u2_1_136,u2_2_136,qC,y6,yA,m159,iB,l5,lB,y9⟩
    ·clear hx
     obtain ⟨zH,hfr,eF,rF,sF,tF,u2_0_160,u2_1_160,u2_2_160,uF,vF,xF,yF,zD,aE,bE,iE⟩:=hR
     refine Za (EL_in (.int .i64 ((w64 (u3 + (1:Int))))) iE rfl rfl rfl ?_)
     refine Zn (.int .i64 ((w64 (u3 + (1:Int))))) rfl rfl ?_
     exact Zb (Zd (mG (k9,(w64 (u3 + (1:Int)))) _ _ ⟨zH,hfr,eF,rF,sF,tF,u2_0_160,u2_1_160,u2_2_160,uF,vF,xF,yF,zD,aE,bE,rfl⟩ h))
   ·refine E_cf nB rfl ?_
    refine E_exit ?_
    refine thn_e ?_
    refine thn_e ?_
    refine blk_hit ?_
    obtain rfl:=sinj h
    exact hQ _ _ ⟨nD,hfr,cC,i6,mC,x6,u2_0_136,u2_1_136,u2_2_136,qC,y6,yA,k8⟩
  ·clear hx
   obtain ⟨aB,hfr,zF,rC,dB,uC,u2_0_161,u2_1_161,u2_2_161,vC,aD,aG,bG⟩:=hR
   refine Zq h (fun (s:BoxBoxLoom) e w=>∃ (g:Gh) ,Fr gI wI g w∧e 2=p2∧OB 2002 g w 142 (s:BoxBoxLoom) p2∧OSF 2002 60200 0 g w 3 142 (((s).BoxLoom).Boxes) p2∧OSF 2002 60201 1 g w 3 142 (((s).BoxLoom).At) p2∧OSF 2002 60202 2 g w 37 142 (((s).BoxLoom).Shuttles) p2∧e 4=p5∧PT g.m w ((⟨x0⟩:BoxBoxLoom):BoxBoxLoom) p5) (fun X168 oE xG h=>?_) ?_
   ·refine Zf (Za (Zo aG rfl ?_))
    refine Ze .plain rfl (P_lenMap (g:=aB) Try.underlying271 rfl bG ?_)
    refine Ga (fPtr p1 2) (Zc at_40_2 zF (PT.ptr rC)) rfl ?_
    have aI:=Zm (part_BoxLoom_2).1 rC
    refine Ze .plain rfl (D_load (g:=aB) Try.isAgg38 Try.sizeOf38 rfl aI fun zK bI=>?_)
    refine Ga (.int .i64 (((x0).Shuttles).length:Int)) (P_len Try.underlying38 rfl bI) rfl ?_
    refine Ga (.bool ((decide (((l9).length:Int) < (((x0).Shuttles).length:Int))))) (P_int rfl rfl rfl) rfl ?_
    refine Zb (Zd ?_)
    rcases Zt h with ⟨tB,h⟩ | ⟨tB,h⟩
    ·refine E_ct tB rfl ?_
     refine Zf (Za (Ze .plain rfl (D_load (g:=aB) Try.isAgg142 Try.sizeOf142 vC aD fun dI iI=>?_)))
     refine Ze .plain rfl (D_storeOc (g:=aB) (v:=dI) Try.sizeOf142 dB uC rfl iI fun aL bL hs b173 cb=>?_)
     clear cb
     have hfr:=hfr.stp hs
     refine Zg (.int .i64 (6)) rfl rfl ?_
     refine Zb (Zd (E_ret (thn_r ?_)))
     obtain rfl:=sinj h
     obtain ⟨ad174,cv174,hp174,yG,cr174⟩:=ob_read Try.isAgg142 Try.sizeOf142 b173
     exact endm_ct rfl rfl ((show _=p2 from dB).trans hp174) yG (show _=.int .i64 (6) from rfl) ⟨_,hfr,_,_,rfl,cr174,rfl⟩
    ·refine E_cf tB rfl ?_
     exact Zu (Zd (xG (o0) _ _ ⟨aB,hfr,dB,uC,u2_0_161,u2_1_161,u2_2_161,vC,aD⟩ h))
   ·rintro mE xJ dL ⟨cG, hfr, bD, eG, u2_0_175, u2_1_175, u2_2_175, gG, hG⟩ h
    refine Zf (Za (Ze .plain rfl (D_load (g:=cG) Try.isAgg142 Try.sizeOf142 gG hG fun jI kI=>?_)))
    refine Ze .plain rfl (D_storeOc (g:=cG) (v:=jI) Try.sizeOf142 bD eG rfl kI fun eL gL hs b177 cb=>?_)
    clear cb
    have hfr:=hfr.stp hs
    refine Zg (.int .i64 (0)) rfl rfl ?_
    refine Zb (Zd (E_ret ?_))
    obtain rfl:=sinj h
    obtain ⟨ad178,cv178,hp178,zG,cr178⟩:=ob_read Try.isAgg142 Try.sizeOf142 b177
    exact endm_ct rfl rfl ((show _=p2 from bD).trans hp178) zG (show _=.int .i64 (0) from rfl) ⟨_,hfr,_,_,rfl,cr178,rfl⟩
def f68 : Nat → (BoxMill) → (List (BoxPoint × Int)) → (List (List Int)) → (BoxPoint) → Option (Int × (List (BoxPoint × Int)))
 | 0,_,_,_,_=>none
 | n + 1,x0,m0,x1,x2=>
  jn (σ:=Unit) (fun _=>
   jn (σ:=Unit) (fun _=>
    Option.bind (α:=Int × (List (BoxPoint × Int))) (
     (f139 x0 ((x2).race)).bind fun bD=>
     (bD (Int × (List (BoxPoint × Int))) (fun (u9,l9) (uD,x8)=>
      (f140 x2 x1 x8).bind fun aB=>
      bif aB.2 then
       (f68 n x0 l9 x1 (aB.1)).bind fun dB=>
       some (true,((min64 u9 (w64 ((x8).moves + dB.1))),dB.2))
      else
       some (true,(u9,l9))
      ) ((1073741824:Int),m0)).bind fun (vC,yA)=>
     some (vC,yA)
     ) fun (a9,n9)=>
    some (a9,(mset n9 x2 a9))
    ) fun lG=>
   bif ((mget m0 x2).isSome) then
    some (((mget m0 x2).getD (0:Int)),m0)
   else
    lG ()
   ) fun k9=>
  bif ((x2).group == ((x1).length : Int)) then
   some ((0:Int),m0)
  else
   k9 ()
theorem en68:Enters Try.prog 68:=enters_of Try.func68 (by kernel_rfl) rfl
theorem wk68 (n:Nat):∀ {iI:Nat} {gI:Gh} {wI:World} {x0:BoxMill} {m0:List (BoxPoint × Int)} {x1:List (List Int)} {x2:BoxPoint} {up0:Value} (rp0:PT gI.m wI x0 up0) {kv500000:Value} (fc0:FC gI.m wI 2 kv500000 up0) (mp500000:MP (encK pl_157) iI gI wI m0 kv500000) {up1:Value} (rp1:RV gI.m wI x1 up1) {up2:Value} (rp2:RV gI.m wI x2 up2) {r:Int × (List (BoxPoint × Int))} (h:f68 n x0 m0 x1 x2=some r),FnM Try.prog 68 #[up0,up1,up2] iI gI wI (fun g w v=>v=.int .i64 (r.1)∧MP (encK pl_157) iI g w (r.2) kv500000):=by
 induction n with
 | zero=>intros; rename_i h; cases h
 | succ n ih=>
 intro iI gI wI x0 m0 x1 x2 up0 rp0 kv500000 fc0 mp500000 up1 rp1 up2 rp2 r h
 simp only [f68] at h
 refine fnDM_of_E Try.func68 rfl (Nat.le_of_ble_eq_true rfl) fun g0 hm hfr=>?_
 have hmk:MkF g0 wI []:=MkF.start
 have bA:=mp500000
 replace mp500000:=mp500000.enter
 rw [← hm] at mp500000
 replace hm:g0.m=gI.m:=by rw [hm]
 have hone500200:=PT.one rp0
 have fc0:FC g0.m wI 2 kv500000 up0:=hm ▸ fc0
 have rp0:PT g0.m wI x0 up0:=hm ▸ rp0
 have rp1:RV g0.m wI x1 up1:=hm ▸ rp1
 have rp2:RV g0.m wI x2 up2:=hm ▸ rp2
 show E _ 60 none _ _ _ _ _
 refine Zf (Za (Ze .plain rfl (D_box (g:=g0) (a:=(⟨up0,hone500200⟩:Fv)) rfl (RV_fv.2 rfl) fun g1 w1 p1 hs q1=>?_)))
 have hfr:=hfr.ext hs
 have hmk:=hmk.ext hs
 have rp0:=rp0.ext hs
 have mp500000:=mp500000.ext hs
 have fc0:=fc0.ext hs
 have rp1:=rp1.ext hs
 have rp2:=rp2.ext hs
 refine Ze .plain rfl (D_box (g:=g1) rfl rp1 fun g2 w2 p2 hs q2=>?_)
 have hfr:=hfr.ext hs
 have hmk:=hmk.ext hs
 have rp0:=rp0.ext hs
 have mp500000:=mp500000.ext hs
 have fc0:=fc0.ext hs
 have rp2:=rp2.ext hs
 have q1:=q1.ext hs
 refine Ze .plain rfl (D_box (g:=g2) rfl rp2 fun g3 w3 p3 hs q3=>?_)
 have hfr:=hfr.ext hs
 have hmk:=hmk.ext hs
 have rp0:=rp0.ext hs
 have mp500000:=mp500000.ext hs
 have fc0:=fc0.ext hs
 have q1:=q1.ext hs
 have q2:=q2.ext hs
 refine Zg (.int .i64 (0)) rfl rfl ?_
 refine Zb (Zd (E_joinCD h (fun (s:Unit) e ds w=>∃ (g:Gh) ,FrM iI gI wI g w∧MkF g w ds∧e 3=p1∧PT g.m w (⟨up0,hone500200⟩:Fv) p1∧e 4=p2∧PT g.m w (x1:List (List Int)) p2∧e 5=p3∧PT g.m w (x2:BoxPoint) p3∧MP (encK pl_157) 1 g w (m0:List (BoxPoint × Int)) kv500000∧FC g.m w 2 kv500000 up0∧PT g.m w (x0:BoxMill) up0) (fun X9 k9 tI h=>?_) ?_))
 ·refine Zf (Za (Ga (fPtr p3 0) (Zc at_157_0 rfl (PT.ptr q3)) rfl ?_))
  have uI:=Zm (part_BoxPoint_0).1 q3
  refine Ze .plain rfl (D_load (g:=g3) Try.isAgg3 Try.sizeOf3 rfl uI fun dL vI=>?_)
  obtain rfl:=Zj.1 vI
  refine Ze .plain rfl (D_load (g:=g3) Try.isAgg146 Try.sizeOf146 rfl q2 fun eL yI=>?_)
  refine Ga (.int .i64 ((x1).length:Int)) (P_len Try.underlying146 rfl yI) rfl ?_
  refine EL_in (.bool (((x2).group == ((x1).length:Int)))) rfl rfl rfl rfl ?_
  refine Zb (Zd ?_)
  rcases Zt h with ⟨cD,h⟩ | ⟨cD,h⟩
  ·refine E_ct cD rfl ?_
   refine Zf (Za (Zg (.int .i64 (0)) rfl rfl ?_))
   refine Zb (Zd (E_ret (thn_r ?_)))
   refine endM (.inr rfl) hmk fun gL iL hs=>?_
   have hfr:=hfr.stp hs
   have mp500000:=mp500000.stp hs rfl
   obtain rfl:=sinj h
   exact end1 rfl rfl (show _=.int .i64 (0) from rfl) ⟨_,hfr,rfl,bA.back mp500000⟩
  ·refine E_cf cD rfl ?_
   exact Zu (Zd (tI () _ _ _ ⟨g3,hfr,hmk,rfl,q1,rfl,q2,rfl,q3,mp500000,fc0,rp0⟩ h))
 ·rintro _ yJ pJ w15 ⟨vD, hfr, hmk, lD, lB, vF, cC, nD, mB, g8, n8, m8⟩ h
  refine E_joinCD h (fun (s:Unit) e ds w=>∃ (g:Gh) ,FrM iI gI wI g w∧MkF g w ds∧e 3=p1∧PT g.m w (⟨up0,hone500200⟩:Fv) p1∧e 4=p2∧PT g.m w (x1:List (List Int)) p2∧e 5=p3∧PT g.m w (x2:BoxPoint) p3∧MP (encK pl_157) 1 g w (m0:List (BoxPoint × Int)) kv500000∧FC g.m w 2 kv500000 up0∧PT g.m w (x0:BoxMill) up0) (fun X31 lG xG h=>?_) ?_
  ·refine Zf (Zs (α := Fv) (x := .tmp 3) Try.isAgg158 Try.sizeOf158 lB fun mG sG yG => ?_)
   have e39:mG=up0:=RV_fv.1 sG
   clear sG
   subst mG
   obtain ⟨pb40,po40,pe40⟩:=PT.ptr m8
   have zG:=L_loadFC (P:=Try.prog) (x:=.tmp 22) Try.isAgg272 Try.sizeOf272 (mp_one g8) n8
   refine Zs (x:=.tmp 5) Try.isAgg157 Try.sizeOf157 mB fun zI xD aH=>?_
   refine E_drawC (g:=vD) (w:=w15) (n:=10) [0,1,2,3,4,6,7,8,9] [] [0,1,2,3,4,5,6,7,8,9] rfl mixed (by kernel_rfl) fun w_c38 hs hlt=>?_
   have hfr:=hfr.ext hs
   have hmk:=hmk.ext hs
   have lB:=lB.ext hs
   have cC:=cC.ext hs
   have mB:=mB.ext hs
   have g8:=g8.ext hs
   have n8:=n8.ext hs
   have m8:=m8.ext hs
   clear hs
   refine CH_ldP (c:=up0) rfl rfl .plain yG lD ?_
   refine CH_pur (c:=up0) rfl rfl .plain (P_nilCk rfl pe40) ?_
   refine CH_pur (c:=fPtr up0 2) rfl rfl .plain (Zc at_274_2 rfl (PT.ptr m8)) ?_
   refine CH_ldP (c:=kv500000) rfl rfl .plain zG rfl ?_
   refine CH_ldP (c:=zI) rfl rfl .plain aH nD ?_
   have xD:=xD.ch hlt.1
   refine CH_do rfl rfl .plain (D_lookupOk (g:=vD) (z0:=(0:Int)) Try.underlying272 key_157 Try.zeroValue3 (fun m w=>⟨_,Zy,rfl⟩) rfl g8 (rfl.trans (encK_of pl_157 xD)) fun jL eJ=>?_)
   obtain rfl:=Zj.1 eJ
   refine ⟨hlt.toW,?_⟩
   refine CH_pur (c:=.tuple #[.int .i64 (((mget m0 x2).getD (0:Int))),.bool ((mget m0 x2).isSome)]) rfl rfl .plain (Zk rfl) ?_
   refine CH_pur (c:=.int .i64 (((mget m0 x2).getD (0:Int)))) rfl rfl .plain (Zi rfl rfl) ?_
   refine CH_pur (c:=.bool ((mget m0 x2).isSome)) rfl rfl .plain (Zi rfl rfl) ?_
   refine CH_pur (c:=.int .i64 (((mget m0 x2).getD (0:Int)))) rfl rfl .plain (P_assign rfl) ?_
   refine CH_nil ?_
   clear hlt
   refine Zg (.bool ((mget m0 x2).isSome)) rfl rfl ?_
   refine Zb (Zd (Zf (Za (Zn (.bool ((mget m0 x2).isSome)) rfl rfl ?_))))
   refine Zb (Zd ?_)
   rcases Zt h with ⟨eD,h⟩ | ⟨eD,h⟩
   ·refine E_ct eD rfl ?_
    refine Zf (Za (Zn (.int .i64 (((mget m0 x2).getD (0:Int)))) rfl rfl ?_))
    refine Zg (.int .i64 (((mget m0 x2).getD (0:Int)))) rfl rfl ?_
    refine Zb (Zd (E_ret (thn_r ?_)))
    refine endM (.inr rfl) hmk fun lL mL hs=>?_
    have hfr:=hfr.stp hs
    have g8:=g8.stp hs rfl
    obtain rfl:=sinj h
    exact end1 rfl rfl (show _=.int .i64 (((mget m0 x2).getD (0:Int))) from rfl) ⟨_,hfr,rfl,bA.back g8⟩
   ·refine E_cf eD rfl ?_
    exact Zu (Zd (xG () _ _ _ ⟨vD,hfr,hmk,lD,lB,vF,cC,nD,mB,g8,n8,m8⟩ h))
  ·rintro _ zJ oD nL ⟨gJ, hfr, hmk, mC, d9, sD, iA, qC, v8, l8, k8, m7⟩ h
   refine Zf (Za (Ze .plain rfl (D_allocOc (g:=gJ) 2009 (0:Int) Try.zeroValue3 (fun m w=>⟨_,Zy,rfl⟩) fun iJ oL yD hs b48 cb=>?_)))
   have hfr:=hfr.stp hs
   have hmk:=hmk.stp hs
   have d9:=d9.stp hs
   have iA:=iA.stp hs
   have v8:=v8.stp hs
   have l8:=l8.stp hs rfl
   have k8:=k8.stp hs
   have m7:=m7.stp hs
   clear cb
   refine Ze .plain rfl (D_storeOc (g:=iJ) (v:=.int .i64 (1073741824)) Try.sizeOf3 rfl b48 rfl (Zj.2 rfl) fun zD pL hs b49 cb=>?_)
   clear cb
   have hfr:=hfr.stp hs
   have hmk:=hmk.stp hs
   have d9:=d9.stp hs
   have iA:=iA.stp hs
   have v8:=v8.stp hs
   have l8:=l8.stp hs rfl
   have k8:=k8.stp hs
   have m7:=m7.stp hs
   refine Zb (Zd ?_)
   obtain ⟨⟨a9,n9⟩,hx,h⟩:=Ge h
   refine E_joinD (fun e ds w=>∃ (g:Gh) ,FrM iI gI wI g w∧MkF g w ds∧e 3=p1∧PT g.m w (⟨up0,hone500200⟩:Fv) p1∧e 5=p3∧PT g.m w (x2:BoxPoint) p3∧e 9=yD∧OB 2009 g w 3 (a9:Int) yD∧MP (encK pl_157) 1 g w (n9:List (BoxPoint × Int)) kv500000∧FC g.m w 2 kv500000 up0∧PT g.m w (x0:BoxMill) up0) (fun Q' hQ=>?_) (fun qJ jJ aK hR=>?_)
   ·replace h := hx
    clear hx
    refine Zf (Za (Ze .plain rfl (D_load (α:=Fv) (g:=zD) Try.isAgg158 Try.sizeOf158 mC d9 fun aE bE=>?_)))
    have e114:aE=up0:=RV_fv.1 bE
    clear bE
    subst aE
    refine Ga (fPtr p3 2) (Zc at_157_2 qC (PT.ptr v8)) rfl ?_
    have cH:=Zm (part_BoxPoint_2).1 v8
    refine Ze .plain rfl (D_load (g:=zD) Try.isAgg153 Try.sizeOf153 rfl cH fun dH gH=>?_)
    obtain ⟨bD,xF,h⟩:=Ge h
    refine Ze .plain rfl (Zp (g:=zD) (vs:=[up0,dH]) en139 (.cons rfl (.cons rfl .nil)) (wk139 m7 gH xF) fun bK rJ iH hs hr=>?_)
    have hfr:=hfr.ext hs
    have hmk:=hmk.ext hs
    have d9:=d9.ext hs
    have iA:=iA.ext hs
    have v8:=v8.ext hs
    have l8:=l8.ext hs
    have k8:=k8.ext hs
    have m7:=m7.ext hs
    have b49:=b49.ext hs
    have iE:=hr
    refine Zb (Zd (Zr ?_))
    have hB0:=hfr.size
    have hmk0:=hmk
    obtain ⟨⟨vC,yA⟩,hφ,h⟩:=Ge h
    refine E_rangeFunc (σ:=(Int × (List (BoxPoint × Int)))) (s0:=((1073741824:Int),m0)) 10 rfl (fun _=>0) [] (fun (s:Int × (List (BoxPoint × Int))) (g:Gh) (w:World)=>FrM iI gI wI g w∧MkF g w oD∧PT g.m w (⟨up0,hone500200⟩:Fv) p1∧PT g.m w (x1:List (List Int)) p2∧PT g.m w (x2:BoxPoint) p3∧OB 2009 g w 3 (s.1:Int) yD∧ItV Try.prog (RA2 (α:=BoxPick) (β:=BoxStep)) bD iH g.m w∧MP (encK pl_157) 1 g w (s.2:List (BoxPoint × Int)) kv500000∧FC g.m w 2 kv500000 up0∧PT g.m w (x0:BoxMill) up0) rfl iE hφ (fun _ _ _ _=>rfl) rfl ra2_size rfl (fun _ _ _ _ _ hx hR=>by obtain ⟨hfr,hmk,z2,z3,z4,z5,z6,z7,z8,z9⟩:=hR; exact ⟨hfr.ist hx hB0,hmk.ist hx,z2.ist hx,z3.ist hx,z4.ist hx,z5.ist hx,z6.ist hx,z7.ist hx,z8.ist hx,z9.ist hx⟩) (fun _ _ _ _ _ hx hR=>by obtain ⟨hfr,hmk,z2,z3,z4,z5,z6,z7,z8,z9⟩:=hR; exact ⟨hfr.stp hx,hmk.stp hx,z2.stp hx,z3.stp hx,z4.stp hx,z5.stp hx rfl,z6.stp hx,z7.stp hx rfl,z8.stp hx,z9.stp hx⟩) ⟨hfr,hmk,d9,iA,v8,b49,iE,l8,k8,m7⟩ (fun _ h=>by cases h) ?_ ?_
    ·intro sJ kJ s x b s2 lE jH vs hsz h hR hrec_0 tD hrd
     obtain ⟨u9,l9⟩:=s
     obtain ⟨hfr,hmk,i6,x5,x6,y6,t5,l5,o0,u3⟩:=hR
     obtain ⟨uD,x8⟩:=x
     obtain ⟨lJ,mE,rfl,qI,iB⟩:=ra2_get hrd
     have i7:=RFr.refl lE jH
     refine Za (Ze .plain rfl (D_allocOc (g:=lE) 2011 (⟨⟨(⟨List.toArray [(⟨List.toArray [0,0,0,0],rfl⟩:Vector Int 4),(⟨List.toArray [0,0,0,0],rfl⟩:Vector Int 4)],rfl⟩:Vector (Vector Int 4) 2),⟨0,0⟩⟩,0,0⟩:BoxStep) Try.zeroValue279 (fun m w=>⟨_,(rep_two (rep_two (rep_vec (Zx (rep_vec (Zx Zy (Zx Zy (Zx Zy (Zx Zy flat_nil)))) rfl) (Zx (rep_vec (Zx Zy (Zx Zy (Zx Zy (Zx Zy flat_nil)))) rfl) flat_nil)) rfl) (rep_two Zy Zy)) (rep_two Zy Zy)),rfl⟩) fun kH cK lH hs b148 cb=>?_))
     have hfr:=hfr.stp hs
     have hmk:=hmk.stp hs
     have i7:=i7.stp hs
     have hrec_0:=hrec_0.stp hs rfl
     have i6:=i6.stp hs
     have x5:=x5.stp hs
     have x6:=x6.stp hs
     have y6:=y6.stp hs rfl
     have t5:=t5.stp hs
     have l5:=l5.stp hs rfl
     have o0:=o0.stp hs
     have u3:=u3.stp hs
     have iB:=iB.stp hs
     clear cb
     refine Ze .plain rfl (D_storeOc (g:=kH) (v:=mE) Try.sizeOf279 rfl b148 rfl iB fun rC dK hs b149 cb=>?_)
     clear cb
     have hfr:=hfr.stp hs
     have hmk:=hmk.stp hs
     have i7:=i7.stp hs
     have hrec_0:=hrec_0.stp hs rfl
     have i6:=i6.stp hs
     have x5:=x5.stp hs
     have x6:=x6.stp hs
     have y6:=y6.stp hs rfl
     have t5:=t5.stp hs
     have l5:=l5.stp hs rfl
     have o0:=o0.stp hs
     have u3:=u3.stp hs
     refine Zb (Zd ?_)
     obtain ⟨mH,hbr,hs,hrN⟩:=begin_round hrec_0 tD
     refine ⟨mH,hbr,?_⟩
     have hfr:=hfr.stp hs
     have hmk:=hmk.stp hs
     have i7:=i7.stp hs
     have i6:=i6.stp hs
     have x5:=x5.stp hs
     have x6:=x6.stp hs
     have y6:=y6.stp hs rfl
     have t5:=t5.stp hs
     have l5:=l5.stp hs rfl
     have o0:=o0.stp hs
     have u3:=u3.stp hs
     have b149:=b149.stp hs rfl
     have hrec_0:=hrN
     clear hbr hs hrN
     refine Zr ?_
     refine Zf (Za (Ze .plain rfl (D_load (g:=rC) Try.isAgg157 Try.sizeOf157 qC x6 fun nH oH=>?_)))
     refine Ze .plain rfl (D_load (g:=rC) Try.isAgg146 Try.sizeOf146 sD x5 fun pH qH=>?_)
     refine Ze .plain rfl (D_loadO (g:=rC) Try.isAgg279 Try.sizeOf279 rfl b149 fun sH tH=>?_)
     obtain ⟨aB,yF,h⟩:=Ge h
     refine Ze .plain rfl (Zp (g:=rC) (vs:=[nH,pH,sH]) en140 (.cons rfl (.cons rfl (.cons rfl .nil))) (wk140 oH qH tH yF) fun uH vJ lK hs hr=>?_)
     have hfr:=hfr.ext hs
     have hmk:=hmk.ext hs
     have i7:=i7.ext hs
     have hrec_0:=hrec_0.ext hs
     have i6:=i6.ext hs
     have x5:=x5.ext hs
     have x6:=x6.ext hs
     have y6:=y6.ext hs
     have t5:=t5.ext hs
     have l5:=l5.ext hs
     have o0:=o0.ext hs
     have u3:=u3.ext hs
     have b149:=b149.ext hs
     obtain ⟨nB,mJ,rfl,oB,rfl⟩:=hr
     refine Zn (.tuple #[nB,.bool (aB.2)]) rfl rfl ?_
     refine Ga nB (Zi rfl rfl) rfl ?_
     refine Ga (.bool (aB.2)) (Zi rfl rfl) rfl ?_
     refine Ze .plain rfl (D_allocOc (g:=uH) 2012 (⟨0,0,⟨(⟨List.toArray [(⟨List.toArray [0,0,0,0],rfl⟩:Vector Int 4),(⟨List.toArray [0,0,0,0],rfl⟩:Vector Int 4)],rfl⟩:Vector (Vector Int 4) 2),⟨0,0⟩⟩⟩:BoxPoint) Try.zeroValue157 (fun m w=>⟨_,(rep_two Zy (rep_two Zy (rep_two (rep_vec (Zx (rep_vec (Zx Zy (Zx Zy (Zx Zy (Zx Zy flat_nil)))) rfl) (Zx (rep_vec (Zx Zy (Zx Zy (Zx Zy (Zx Zy flat_nil)))) rfl) flat_nil)) rfl) (rep_two Zy Zy)))),rfl⟩) fun xH mK nK hs b156 cb=>?_)
     have hfr:=hfr.stp hs
     have hmk:=hmk.stp hs
     have i7:=i7.stp hs
     have hrec_0:=hrec_0.stp hs rfl
     have i6:=i6.stp hs
     have x5:=x5.stp hs
     have x6:=x6.stp hs
     have y6:=y6.stp hs rfl
     have t5:=t5.stp hs
     have l5:=l5.stp hs rfl
     have o0:=o0.stp hs
     have u3:=u3.stp hs
     have b149:=b149.stp hs rfl
     have oB:=oB.stp hs
     clear cb
     refine Ze .plain rfl (D_storeOc (g:=xH) (v:=nB) Try.sizeOf157 rfl b156 rfl oB fun oE yH hs b157 cb=>?_)
     clear cb
     have hfr:=hfr.stp hs
     have hmk:=hmk.stp hs
     have i7:=i7.stp hs
     have hrec_0:=hrec_0.stp hs rfl
     have i6:=i6.stp hs
     have x5:=x5.stp hs
     have x6:=x6.stp hs
     have y6:=y6.stp hs rfl
     have t5:=t5.stp hs
     have l5:=l5.stp hs rfl
     have o0:=o0.stp hs
     have u3:=u3.stp hs
     have b149:=b149.stp hs rfl
     refine Zg (.bool (aB.2)) rfl rfl ?_
     refine Zb (Zd (Zf (Za (Zn (.bool (aB.2)) rfl rfl ?_))))
     refine Zb (Zd ?_)
     rcases Zt h with ⟨uC,h⟩ | ⟨uC,h⟩
     ·refine E_ct uC rfl ?_
      refine L_loadO0 (x:=.tmp 9) Try.isAgg3 Try.sizeOf3 y6 fun oK zH zF=>?_
      obtain rfl:=Zj.1 zH
      refine L_loadO (x:=.tmp 45) part_BoxStep_2.1 Try.isAgg3 Try.sizeOf3 b149 fun pK aI aG=>?_
      obtain rfl:=Zj.1 aI
      refine Zs (α:=Fv) (x:=.tmp 3) Try.isAgg158 Try.sizeOf158 i6 fun rE uE bG=>?_
      have e169:rE=up0:=RV_fv.1 uE
      clear uE
      subst rE
      refine Zs (x:=.tmp 4) Try.isAgg146 Try.sizeOf146 x5 fun vE gD cG=>?_
      refine L_loadO0 (x:=.tmp 12) Try.isAgg157 Try.sizeOf157 b157 fun xE iD eG=>?_
      obtain ⟨dB,gG,h⟩:=Ge h
      refine E_drawC (g:=oE) (w:=yH) (n:=8) [0,1,2,3,4,5,7] [2009,2011,2012] [0,1,2,3,4,5,6,7] rfl mixed (by kernel_rfl) fun w_c165 hs hlt=>?_
      have hfr:=hfr.ext hs
      have hmk:=hmk.ext hs
      have i7:=i7.ext hs
      have hrec_0:=hrec_0.ext hs
      have i6:=i6.ext hs
      have x5:=x5.ext hs
      have x6:=x6.ext hs
      have y6:=y6.ext hs
      have t5:=t5.ext hs
      have l5:=l5.ext hs
      have o0:=o0.ext hs
      have u3:=u3.ext hs
      have b149:=b149.ext hs
      clear hs
      refine CH_ldO (n:=2009) (c:=.int .i64 (u9)) rfl rfl .plain zF rfl rfl ?_
      refine CH_pur (c:=fPtr lH 11) rfl rfl .plain (Zc at_279_2 rfl (OB.ptr b149)) ?_
      refine CH_ldO (n:=2011) (c:=.int .i64 ((x8).moves)) rfl rfl .plain aG rfl rfl ?_
      refine CH_ldP (c:=up0) rfl rfl .plain bG mC ?_
      refine CH_ldP (c:=vE) rfl rfl .plain cG sD ?_
      have gD:=gD.ch hlt.1
      refine CH_ldO (n:=2012) (c:=xE) rfl rfl .plain eG rfl rfl ?_
      have iD:=iD.ch hlt.1
      refine CH_do rfl rfl .plain (D_callM (g:=oE) (i:=1) (vs:=[up0,vE,xE]) en68 (.cons rfl (.cons rfl (.cons rfl .nil))) (ih u3 o0 l5 gD iD gG) fun bI xJ qK hs hr=>?_)
      obtain ⟨hrv,b172⟩:=hr
      have hfr:=hfr.stp hs
      have hmk:=hmk.stp hs
      have i7:=i7.stp hs
      have hrec_0:=hrec_0.stp hs rfl
      have hlt:=hlt.stp hs
      have i6:=i6.stp hs
      have x5:=x5.stp hs
      have x6:=x6.stp hs
      have y6:=y6.stp hs rfl
      have t5:=t5.stp hs
      have o0:=o0.stp hs
      have u3:=u3.stp hs
      subst hrv
      refine ⟨hlt.toW,?_⟩
      refine CH_pur (c:=.int .i64 ((w64 ((x8).moves + dB.1)))) rfl rfl .plain (P_int rfl rfl rfl) ?_
      refine CH_nil ?_
      clear hlt
      refine Ga (.int .i64 (min64 u9 (w64 ((x8).moves + dB.1)))) (P_min rfl rfl) rfl ?_
      refine Ze .plain rfl (D_storeOc (g:=bI) (v:=.int .i64 (min64 u9 (w64 ((x8).moves + dB.1)))) Try.sizeOf3 rfl y6 rfl (Zj.2 rfl) fun sK tK hs b174 cb=>?_)
      clear cb
      have hfr:=hfr.stp hs
      have hmk:=hmk.stp hs
      have i7:=i7.stp hs
      have hrec_0:=hrec_0.stp hs rfl
      have i6:=i6.stp hs
      have x5:=x5.stp hs
      have x6:=x6.stp hs
      have t5:=t5.stp hs
      have b172:=b172.stp hs rfl
      have o0:=o0.stp hs
      have u3:=u3.stp hs
      refine Zb (blk_n ?_)
      obtain ⟨rfl,rfl⟩:=pairs2 h
      exact ⟨_,i7,⟨hfr,hmk,i6,x5,x6,b174,t5,b172,o0,u3⟩,hrec_0,rfl,rfl⟩
     ·refine E_cf uC rfl ?_
      refine Zu (blk_n ?_)
      obtain ⟨rfl,rfl⟩:=pairs2 h
      exact ⟨_,i7,⟨hfr,hmk,i6,x5,x6,y6,t5,l5,o0,u3⟩,hrec_0,rfl,rfl⟩
    ·intro dI uK ds176 hsz hR hds
     obtain ⟨hfr,hmk,yE,nJ,zE,cF,sI,zB,tB,vB⟩:=hR
     obtain ⟨D,hdse,hD,hDb⟩:=hds.1 rfl
     subst hdse
     replace hmk:=MkF.push hmk0 hmk hD hDb
     clear hD hDb hds
     revert hmk
     generalize ({ target:=.collected D,args:=#[] } :: oD:List Deferred)=oJ
     intro hmk
     refine ⟨fun _=>?_,fun k c hs _=>absurd hs (Nat.succ_ne_zero k).symm⟩
     refine blk_n ?_
     obtain ⟨rfl,rfl⟩:=pairs2 h
     exact hQ _ _ _ ⟨dI,hfr,hmk,mC,yE,qC,zE,rfl,cF,zB,tB,vB⟩
   ·clear hx
    obtain ⟨jI,hfr,hmk,dF,eF,rF,sF,aD,y9,r8,yB,rA⟩:=hR
    refine Zf (Zs (α:=Fv) (x:=.tmp 3) Try.isAgg158 Try.sizeOf158 eF fun tF uF hG=>?_)
    have e178:tF=up0:=RV_fv.1 uF
    clear uF
    subst tF
    obtain ⟨pb179,po179,pe179⟩:=PT.ptr rA
    have iG:=L_loadFC (P:=Try.prog) (x:=.tmp 55) Try.isAgg272 Try.sizeOf272 (mp_one r8) yB
    refine Zs (x:=.tmp 5) Try.isAgg157 Try.sizeOf157 sF fun kI jD jG=>?_
    refine L_loadO0 (x:=.tmp 9) Try.isAgg3 Try.sizeOf3 y9 fun vK lI kG=>?_
    obtain rfl:=Zj.1 lI
    refine E_drawL (g:=jI) (n:=6) [] [0,1,2,3,4,5] rfl mixed (by kernel_rfl) trivial ?_
    refine L_ld (c:=up0) rfl rfl .plain (fun _ _ h=>h.ch) hG dF ?_
    refine Gd up0 rfl rfl (P_nilCk rfl pe179) ?_
    refine Gd (fPtr up0 2) rfl rfl (Zc at_274_2 rfl (PT.ptr rA)) ?_
    refine L_ld (c:=kv500000) rfl rfl .plain (fun _ _ h=>h.ch) iG rfl ?_
    refine L_ld (c:=kI) rfl rfl .plain (fun _ _ h=>h.ch) jG rF ?_
    refine L_ld (c:=.int .i64 (a9)) rfl rfl .plain (fun _ _ h=>⟨h.ch,fun b hb _=>h.below.block b hb⟩) kG aD ?_
    refine L_nl fun mI xK hs=>?_
    have hfr:=hfr.ext hs
    have hmk:=hmk.ext hs
    have y9:=y9.ext hs
    have r8:=r8.ext hs
    have jD:=jD.ext hs
    clear hs
    refine Ze .plain rfl (D_mapUpdate (g:=mI) Try.underlying272 key_157 rfl r8 (rfl.trans (encK_of pl_157 jD)) rfl (Zj.2 rfl) fun nI yK hs m197=>?_)
    have hfr:=hfr.stp hs
    have hmk:=hmk.stp hs
    have y9:=y9.stp hs rfl
    refine Zb (Zd (Zf (Za (Ze .plain rfl (D_loadO (g:=nI) Try.isAgg3 Try.sizeOf3 aD y9 fun zK pI=>?_)))))
    obtain rfl:=Zj.1 pI
    refine Zg (.int .i64 (a9)) rfl rfl ?_
    refine Zb (Zd (E_ret (endM (.inr rfl) hmk fun aL bL hs=>?_)))
    have hfr:=hfr.stp hs
    have m197:=m197.stp hs rfl
    obtain rfl:=sinj h
    exact end1 rfl rfl (show _=.int .i64 (a9) from rfl) ⟨_,hfr,rfl,bA.back m197⟩
def f69 (x0:BoxMill) (m0:List (BoxPoint × Int)) (x1:List (List Int)) (x2:BoxPoint):Option (BoxPick × BoxPoint × (List (BoxPoint × Int))):=
 jn (σ:=BoxPick × BoxPoint × (List (BoxPoint × Int))) (fun (nD,oD,dB)=>
  some (nD,oD,dB)
  ) fun mE=>
 (f139 x0 ((x2).race)).bind fun gD=>
 (gD (Nat × BoxPick × BoxPoint × (List (BoxPoint × Int))) (guardC fun (iB,mC,u9) (l9,n9)=>
  (f140 x2 x1 n9).bind fun r8=>
  Option.bind (α:=Bool × (List (BoxPoint × Int))) (
   bif r8.2 then
    (f68 big x0 u9 x1 (r8.1)).bind fun zB=>
    (f68 big x0 (zB.2) x1 x2).bind fun qC=>
    some (((w64 ((n9).moves + zB.1)) == qC.1),qC.2)
   else
    some (false,u9)
   ) fun (y9,x8)=>
  bif y9 then
   some (false,((1:Nat),(l9,r8.1,x8)))
  else
   some (true,((0:Nat),(iB,mC,x8)))
  ) (0,((⟨0,0⟩:BoxPick),(⟨0,0,⟨(⟨List.toArray [(⟨List.toArray [0,0,0,0],rfl⟩:Vector Int 4),(⟨List.toArray [0,0,0,0],rfl⟩:Vector Int 4)],rfl⟩:Vector (Vector Int 4) 2),⟨0,0⟩⟩⟩:BoxPoint),m0))).bind fun (lB,(mB,nB,a9))=>
 bif Nat.beq lB 0 then
  mE (mB,nB,a9)
 else
  some (mB,nB,a9)
theorem en69:Enters Try.prog 69:=enters_of Try.func69 (by kernel_rfl) rfl
theorem wk69 {iI:Nat} {gI:Gh} {wI:World} {x0:BoxMill} {m0:List (BoxPoint × Int)} {x1:List (List Int)} {x2:BoxPoint} {up0:Value} (rp0:PT gI.m wI x0 up0) {kv500000:Value} (fc0:FC gI.m wI 2 kv500000 up0) (mp500000:MP (encK pl_157) iI gI wI m0 kv500000) {up1:Value} (rp1:RV gI.m wI x1 up1) {up2:Value} (rp2:RV gI.m wI x2 up2) {r:BoxPick × BoxPoint × (List (BoxPoint × Int))} (h:f69 x0 m0 x1 x2=some r):FnM Try.prog 69 #[up0,up1,up2] iI gI wI (fun g w v=>(∃ y0 y1,v=.tuple #[y0,y1]∧RV g.m w (r.1) y0∧RV g.m w (r.2.1) y1)∧MP (encK pl_157) iI g w (r.2.2) kv500000):=by
 unfold f69 at h
 refine fnDM_of_E Try.func69 rfl (Nat.le_of_ble_eq_true rfl) fun g0 hm hfr=>?_
 have hmk:MkF g0 wI []:=MkF.start
 have oB:=mp500000
 replace mp500000:=mp500000.enter
 rw [← hm] at mp500000
 replace hm:g0.m=gI.m:=by rw [hm]
 have hone500200:=PT.one rp0
 have fc0:FC g0.m wI 2 kv500000 up0:=hm ▸ fc0
 have rp0:PT g0.m wI x0 up0:=hm ▸ rp0
 have rp1:RV g0.m wI x1 up1:=hm ▸ rp1
 have rp2:RV g0.m wI x2 up2:=hm ▸ rp2
 show E _ 44 none _ _ _ _ _
 refine Zf (Za (Ze .plain rfl (D_box (g:=g0) (a:=(⟨up0,hone500200⟩:Fv)) rfl (RV_fv.2 rfl) fun g1 w1 p1 hs q1=>?_)))
 have hfr:=hfr.ext hs
 have hmk:=hmk.ext hs
 have rp0:=rp0.ext hs
 have mp500000:=mp500000.ext hs
 have fc0:=fc0.ext hs
 have rp1:=rp1.ext hs
 have rp2:=rp2.ext hs
 refine Ze .plain rfl (D_box (g:=g1) rfl rp1 fun g2 w2 p2 hs q2=>?_)
 have hfr:=hfr.ext hs
 have hmk:=hmk.ext hs
 have rp0:=rp0.ext hs
 have mp500000:=mp500000.ext hs
 have fc0:=fc0.ext hs
 have rp2:=rp2.ext hs
 have q1:=q1.ext hs
 refine Ze .plain rfl (D_box (g:=g2) rfl rp2 fun g3 w3 p3 hs q3=>?_)
 have hfr:=hfr.ext hs
 have hmk:=hmk.ext hs
 have rp0:=rp0.ext hs
 have mp500000:=mp500000.ext hs
 have fc0:=fc0.ext hs
 have q1:=q1.ext hs
 have q2:=q2.ext hs
 refine Ze .plain rfl (D_allocOc (g:=g3) 2006 (⟨0,0⟩:BoxPick) Try.zeroValue151 (fun m w=>⟨_,(rep_two Zy Zy),rfl⟩) fun g4 w4 p4 hs b4 cb=>?_)
 have hfr:=hfr.stp hs
 have hmk:=hmk.stp hs
 have rp0:=rp0.stp hs
 have mp500000:=mp500000.stp hs rfl
 have fc0:=fc0.stp hs
 have q1:=q1.stp hs
 have q2:=q2.stp hs
 have q3:=q3.stp hs
 clear cb
 refine Ze .plain rfl (D_allocOc (g:=g4) 2007 (⟨0,0,⟨(⟨List.toArray [(⟨List.toArray [0,0,0,0],rfl⟩:Vector Int 4),(⟨List.toArray [0,0,0,0],rfl⟩:Vector Int 4)],rfl⟩:Vector (Vector Int 4) 2),⟨0,0⟩⟩⟩:BoxPoint) Try.zeroValue157 (fun m w=>⟨_,(rep_two Zy (rep_two Zy (rep_two (rep_vec (Zx (rep_vec (Zx Zy (Zx Zy (Zx Zy (Zx Zy flat_nil)))) rfl) (Zx (rep_vec (Zx Zy (Zx Zy (Zx Zy (Zx Zy flat_nil)))) rfl) flat_nil)) rfl) (rep_two Zy Zy)))),rfl⟩) fun g5 w5 p5 hs b5 cb=>?_)
 have hfr:=hfr.stp hs
 have hmk:=hmk.stp hs
 have rp0:=rp0.stp hs
 have mp500000:=mp500000.stp hs rfl
 have fc0:=fc0.stp hs
 have q1:=q1.stp hs
 have q2:=q2.stp hs
 have q3:=q3.stp hs
 have b4:=b4.stp hs rfl
 clear cb
 refine Zb (Zd (E_joinCD h (fun (s:BoxPick × BoxPoint × (List (BoxPoint × Int))) e ds w=>∃ (g:Gh) ,FrM iI gI wI g w∧MkF g w ds∧e 6=p4∧OB 2006 g w 151 (s.1:BoxPick) p4∧e 7=p5∧OB 2007 g w 157 (s.2.1:BoxPoint) p5∧MP (encK pl_157) 1 g w (s.2.2:List (BoxPoint × Int)) kv500000∧FC g.m w 2 kv500000 up0∧PT g.m w (x0:BoxMill) up0) (fun X171 mE jG h=>?_) ?_))
 ·refine Zf (Za (Ze .plain rfl (D_load (α := Fv) (g := g5) Try.isAgg158 Try.sizeOf158 rfl q1 fun oE rE => ?_)))
  have e172:oE=up0:=RV_fv.1 rE
  clear rE
  subst oE
  refine Ga (fPtr p3 2) (Zc at_157_2 rfl (PT.ptr q3)) rfl ?_
  have uH:=Zm (part_BoxPoint_2).1 q3
  refine Ze .plain rfl (D_load (g:=g5) Try.isAgg153 Try.sizeOf153 rfl uH fun xH yH=>?_)
  obtain ⟨gD,kG,h⟩:=Ge h
  refine Ze .plain rfl (Zp (g:=g5) (vs:=[up0,xH]) en139 (.cons rfl (.cons rfl .nil)) (wk139 rp0 yH kG) fun nK aK tD hs hr=>?_)
  have hfr:=hfr.ext hs
  have hmk:=hmk.ext hs
  have rp0:=rp0.ext hs
  have mp500000:=mp500000.ext hs
  have fc0:=fc0.ext hs
  have q1:=q1.ext hs
  have q2:=q2.ext hs
  have q3:=q3.ext hs
  have b4:=b4.ext hs
  have b5:=b5.ext hs
  have uE:=hr
  refine Zb (Zd (Zr ?_))
  have hB0:=hfr.size
  have hmk0:=hmk
  obtain ⟨⟨lB,⟨mB,nB,a9⟩⟩,hφ,h⟩:=Ge h
  refine E_rangeFunc (σ:=(Nat × BoxPick × BoxPoint × (List (BoxPoint × Int)))) (s0:=(0,((⟨0,0⟩:BoxPick),(⟨0,0,⟨(⟨List.toArray [(⟨List.toArray [0,0,0,0],rfl⟩:Vector Int 4),(⟨List.toArray [0,0,0,0],rfl⟩:Vector Int 4)],rfl⟩:Vector (Vector Int 4) 2),⟨0,0⟩⟩⟩:BoxPoint),m0))) 10 rfl (fun s=>s.1) [.ret] (fun (s:Nat × BoxPick × BoxPoint × (List (BoxPoint × Int))) (g:Gh) (w:World)=>FrM iI gI wI g w∧MkF g w []∧PT g.m w (⟨up0,hone500200⟩:Fv) p1∧PT g.m w (x1:List (List Int)) p2∧PT g.m w (x2:BoxPoint) p3∧OB 2006 g w 151 (s.2.1:BoxPick) p4∧OB 2007 g w 157 (s.2.2.1:BoxPoint) p5∧ItV Try.prog (RA2 (α:=BoxPick) (β:=BoxStep)) gD tD g.m w∧MP (encK pl_157) 1 g w (s.2.2.2:List (BoxPoint × Int)) kv500000∧FC g.m w 2 kv500000 up0∧PT g.m w (x0:BoxMill) up0) rfl uE hφ (fun _ _ _ h=>(guardC_h h).1) rfl ra2_size rfl (fun _ _ _ _ _ hx hR=>by obtain ⟨hfr,hmk,z2,z3,z4,z5,z6,z7,z8,z9,z10⟩:=hR; exact ⟨hfr.ist hx hB0,hmk.ist hx,z2.ist hx,z3.ist hx,z4.ist hx,z5.ist hx,z6.ist hx,z7.ist hx,z8.ist hx,z9.ist hx,z10.ist hx⟩) (fun _ _ _ _ _ hx hR=>by obtain ⟨hfr,hmk,z2,z3,z4,z5,z6,z7,z8,z9,z10⟩:=hR; exact ⟨hfr.stp hx,hmk.stp hx,z2.stp hx,z3.stp hx,z4.stp hx,z5.stp hx rfl,z6.stp hx rfl,z7.stp hx,z8.stp hx rfl,z9.stp hx,z10.stp hx⟩) ⟨hfr,hmk,q1,q2,q3,b4,b5,uE,mp500000,fc0,rp0⟩ (fun _ h=>by cases h) ?_ ?_
  ·intro lG vE s x b s2 uD xE vs hsz h hR hrec_0 bE hrd
   obtain ⟨hs0,h⟩:=guardC_h h
   obtain ⟨st,⟨iB,mC,u9⟩⟩:=s
   obtain ⟨hfr,hmk,i6,x5,x6,i7,m7,t5,l5,o0,u3⟩:=hR
   obtain ⟨l9,n9⟩:=x
   obtain ⟨yE,zE,rfl,cC,v8⟩:=ra2_get hrd
   have y6:=RFr.refl uD xE
   refine Zf (Za (Ze .plain rfl (D_allocOc (g:=uD) 2008 (⟨0,0⟩:BoxPick) Try.zeroValue151 (fun m w=>⟨_,(rep_two Zy Zy),rfl⟩) fun zH oK cF hs b255 cb=>?_)))
   have hfr:=hfr.stp hs
   have hmk:=hmk.stp hs
   have y6:=y6.stp hs
   have hrec_0:=hrec_0.stp hs rfl
   have i6:=i6.stp hs
   have x5:=x5.stp hs
   have x6:=x6.stp hs
   have i7:=i7.stp hs rfl
   have m7:=m7.stp hs rfl
   have t5:=t5.stp hs
   have l5:=l5.stp hs rfl
   have o0:=o0.stp hs
   have u3:=u3.stp hs
   have cC:=cC.stp hs
   have v8:=v8.stp hs
   clear cb
   refine Ze .plain rfl (D_storeOc (g:=zH) (v:=yE) Try.sizeOf151 rfl b255 rfl cC fun aI pK hs b256 cb=>?_)
   clear cb
   have hfr:=hfr.stp hs
   have hmk:=hmk.stp hs
   have y6:=y6.stp hs
   have hrec_0:=hrec_0.stp hs rfl
   have i6:=i6.stp hs
   have x5:=x5.stp hs
   have x6:=x6.stp hs
   have i7:=i7.stp hs rfl
   have m7:=m7.stp hs rfl
   have t5:=t5.stp hs
   have l5:=l5.stp hs rfl
   have o0:=o0.stp hs
   have u3:=u3.stp hs
   have v8:=v8.stp hs
   refine Zb (Zd (Za (Ze .plain rfl (D_allocOc (g:=aI) 2009 (⟨⟨(⟨List.toArray [(⟨List.toArray [0,0,0,0],rfl⟩:Vector Int 4),(⟨List.toArray [0,0,0,0],rfl⟩:Vector Int 4)],rfl⟩:Vector (Vector Int 4) 2),⟨0,0⟩⟩,0,0⟩:BoxStep) Try.zeroValue279 (fun m w=>⟨_,(rep_two (rep_two (rep_vec (Zx (rep_vec (Zx Zy (Zx Zy (Zx Zy (Zx Zy flat_nil)))) rfl) (Zx (rep_vec (Zx Zy (Zx Zy (Zx Zy (Zx Zy flat_nil)))) rfl) flat_nil)) rfl) (rep_two Zy Zy)) (rep_two Zy Zy)),rfl⟩) fun bI qK dI hs b257 cb=>?_))))
   have hfr:=hfr.stp hs
   have hmk:=hmk.stp hs
   have y6:=y6.stp hs
   have hrec_0:=hrec_0.stp hs rfl
   have i6:=i6.stp hs
   have x5:=x5.stp hs
   have x6:=x6.stp hs
   have i7:=i7.stp hs rfl
   have m7:=m7.stp hs rfl
   have t5:=t5.stp hs
   have l5:=l5.stp hs rfl
   have o0:=o0.stp hs
   have u3:=u3.stp hs
   have v8:=v8.stp hs
   have b256:=b256.stp hs rfl
   clear cb
   refine Ze .plain rfl (D_storeOc (g:=bI) (v:=zE) Try.sizeOf279 rfl b257 rfl v8 fun iD sK hs b258 cb=>?_)
   clear cb
   have hfr:=hfr.stp hs
   have hmk:=hmk.stp hs
   have y6:=y6.stp hs
   have hrec_0:=hrec_0.stp hs rfl
   have i6:=i6.stp hs
   have x5:=x5.stp hs
   have x6:=x6.stp hs
   have i7:=i7.stp hs rfl
   have m7:=m7.stp hs rfl
   have t5:=t5.stp hs
   have l5:=l5.stp hs rfl
   have o0:=o0.stp hs
   have u3:=u3.stp hs
   have b256:=b256.stp hs rfl
   refine Zb (Zd ?_)
   obtain ⟨jI,hbr,hs,hrN⟩:=begin_round hrec_0 bE
   refine ⟨jI,hbr,?_⟩
   have hfr:=hfr.stp hs
   have hmk:=hmk.stp hs
   have y6:=y6.stp hs
   have i6:=i6.stp hs
   have x5:=x5.stp hs
   have x6:=x6.stp hs
   have i7:=i7.stp hs rfl
   have m7:=m7.stp hs rfl
   have t5:=t5.stp hs
   have l5:=l5.stp hs rfl
   have o0:=o0.stp hs
   have u3:=u3.stp hs
   have b256:=b256.stp hs rfl
   have b258:=b258.stp hs rfl
   have hrec_0:=hrN
   clear hbr hs hrN
   refine Zr ?_
   refine Zf (Za (Ze .plain rfl (D_load (g:=iD) Try.isAgg157 Try.sizeOf157 rfl x6 fun kI lI=>?_)))
   refine Ze .plain rfl (D_load (g:=iD) Try.isAgg146 Try.sizeOf146 rfl x5 fun mI nI=>?_)
   refine Ze .plain rfl (D_loadO (g:=iD) Try.isAgg279 Try.sizeOf279 rfl b258 fun pI qI=>?_)
   obtain ⟨r8,mG,h⟩:=Ge h
   refine Ze .plain rfl (Zp (g:=iD) (vs:=[kI,mI,pI]) en140 (.cons rfl (.cons rfl (.cons rfl .nil))) (wk140 lI nI qI mG) fun sI bK tK hs hr=>?_)
   have hfr:=hfr.ext hs
   have hmk:=hmk.ext hs
   have y6:=y6.ext hs
   have hrec_0:=hrec_0.ext hs
   have i6:=i6.ext hs
   have x5:=x5.ext hs
   have x6:=x6.ext hs
   have i7:=i7.ext hs
   have m7:=m7.ext hs
   have t5:=t5.ext hs
   have l5:=l5.ext hs
   have o0:=o0.ext hs
   have u3:=u3.ext hs
   have b256:=b256.ext hs
   have b258:=b258.ext hs
   obtain ⟨rC,oJ,rfl,uC,rfl⟩:=hr
   refine Zn (.tuple #[rC,.bool (r8.2)]) rfl rfl ?_
   refine Ga rC (Zi rfl rfl) rfl ?_
   refine Ga (.bool (r8.2)) (Zi rfl rfl) rfl ?_
   refine Ze .plain rfl (D_allocOc (g:=sI) 2010 (⟨0,0,⟨(⟨List.toArray [(⟨List.toArray [0,0,0,0],rfl⟩:Vector Int 4),(⟨List.toArray [0,0,0,0],rfl⟩:Vector Int 4)],rfl⟩:Vector (Vector Int 4) 2),⟨0,0⟩⟩⟩:BoxPoint) Try.zeroValue157 (fun m w=>⟨_,(rep_two Zy (rep_two Zy (rep_two (rep_vec (Zx (rep_vec (Zx Zy (Zx Zy (Zx Zy (Zx Zy flat_nil)))) rfl) (Zx (rep_vec (Zx Zy (Zx Zy (Zx Zy (Zx Zy flat_nil)))) rfl) flat_nil)) rfl) (rep_two Zy Zy)))),rfl⟩) fun tI uK dF hs b265 cb=>?_)
   have hfr:=hfr.stp hs
   have hmk:=hmk.stp hs
   have y6:=y6.stp hs
   have hrec_0:=hrec_0.stp hs rfl
   have i6:=i6.stp hs
   have x5:=x5.stp hs
   have x6:=x6.stp hs
   have i7:=i7.stp hs rfl
   have m7:=m7.stp hs rfl
   have t5:=t5.stp hs
   have l5:=l5.stp hs rfl
   have o0:=o0.stp hs
   have u3:=u3.stp hs
   have b256:=b256.stp hs rfl
   have b258:=b258.stp hs rfl
   have uC:=uC.stp hs
   clear cb
   refine Ze .plain rfl (D_storeOc (g:=tI) (v:=rC) Try.sizeOf157 rfl b265 rfl uC fun jD eF hs b266 cb=>?_)
   clear cb
   have hfr:=hfr.stp hs
   have hmk:=hmk.stp hs
   have y6:=y6.stp hs
   have hrec_0:=hrec_0.stp hs rfl
   have i6:=i6.stp hs
   have x5:=x5.stp hs
   have x6:=x6.stp hs
   have i7:=i7.stp hs rfl
   have m7:=m7.stp hs rfl
   have t5:=t5.stp hs
   have l5:=l5.stp hs rfl
   have o0:=o0.stp hs
   have u3:=u3.stp hs
   have b256:=b256.stp hs rfl
   have b258:=b258.stp hs rfl
   refine Zg (.bool (r8.2)) rfl rfl ?_
   refine Zb (Zd ?_)
   obtain ⟨⟨y9,x8⟩,hx,h⟩:=Ge h
   refine E_join (fun e w=>∃ (g:Gh) ,FrM iI gI wI g w∧MkF g w []∧RFr uD xE g w∧HB 10 g w lG (.loop { vE with state:=.busy })∧e 3=p1∧PT g.m w (⟨up0,hone500200⟩:Fv) p1∧e 4=p2∧PT g.m w (x1:List (List Int)) p2∧e 5=p3∧PT g.m w (x2:BoxPoint) p3∧e 6=p4∧OB 2006 g w 151 (iB:BoxPick) p4∧e 7=p5∧OB 2007 g w 157 (mC:BoxPoint) p5∧e 8=cF∧OB 2008 g w 151 (l9:BoxPick) cF∧e 10=dF∧OB 2010 g w 157 (r8.1:BoxPoint) dF∧e 15=tD∧ItV Try.prog (RA2 (α:=BoxPick) (β:=BoxStep)) gD tD g.m w∧e 39=.bool (y9)∧MP (encK pl_157) 1 g w (x8:List (BoxPoint × Int)) kv500000∧FC g.m w 2 kv500000 up0∧PT g.m w (x0:BoxMill) up0) (fun Q' hQ=>?_) (fun cK vK hR=>?_)
   ·replace h := hx
    clear hx
    rcases Zt h with ⟨g8,h⟩ | ⟨g8,h⟩
    ·refine L_loadO (x := .tmp 27) part_BoxStep_2.1 Try.isAgg3 Try.sizeOf3 b258 fun xK uI sG => ?_
     obtain rfl:=Zj.1 uI
     refine Zs (α:=Fv) (x:=.tmp 3) Try.isAgg158 Try.sizeOf158 i6 fun rF sF xG=>?_
     have e297:rF=up0:=RV_fv.1 sF
     clear sF
     subst rF
     refine Zs (x:=.tmp 4) Try.isAgg146 Try.sizeOf146 x5 fun tF vD yG=>?_
     refine L_loadO0 (x:=.tmp 10) Try.isAgg157 Try.sizeOf157 b266 fun uF xD zG=>?_
     obtain ⟨zB,aH,h⟩:=Ge h
     refine Zs (α:=Fv) (x:=.tmp 3) Try.isAgg158 Try.sizeOf158 i6 fun vF xF cH=>?_
     have e302:vF=up0:=RV_fv.1 xF
     clear xF
     subst vF
     refine Zs (x:=.tmp 4) Try.isAgg146 Try.sizeOf146 x5 fun yF yD dH=>?_
     refine Zs (x:=.tmp 5) Try.isAgg157 Try.sizeOf157 x6 fun zF zD gH=>?_
     obtain ⟨qC,iH,h⟩:=Ge h
     refine E_drawC (g:=jD) (w:=eF) (n:=13) [0,1,2,3,4,5,6,8,9,10,11] [2009,2010] [0,1,2,3,4,5,6,7,8,9,10,11,12] rfl mixed (by kernel_rfl) fun w_c293 hs hlt=>?_
     have hfr:=hfr.ext hs
     have hmk:=hmk.ext hs
     have y6:=y6.ext hs
     have hrec_0:=hrec_0.ext hs
     have i6:=i6.ext hs
     have x5:=x5.ext hs
     have x6:=x6.ext hs
     have i7:=i7.ext hs
     have m7:=m7.ext hs
     have t5:=t5.ext hs
     have l5:=l5.ext hs
     have o0:=o0.ext hs
     have u3:=u3.ext hs
     have b256:=b256.ext hs
     have b258:=b258.ext hs
     have b266:=b266.ext hs
     clear hs
     refine CH_pur (c:=.bool (r8.2)) rfl rfl .plain (Zk rfl) ?_
     refine CH_pur (c:=.bool (r8.2)) rfl rfl .plain (Zk rfl) ?_
     refine CH_pur (c:=fPtr dI 11) rfl rfl (.yes2 rfl rfl g8) (Zc at_279_2 rfl (OB.ptr b258)) ?_
     refine CH_ldO (n:=2009) (c:=.int .i64 ((n9).moves)) rfl rfl (.yes2 rfl rfl g8) sG rfl rfl ?_
     refine CH_ldP (c:=up0) rfl rfl (.yes2 rfl rfl g8) xG rfl ?_
     refine CH_ldP (c:=tF) rfl rfl (.yes2 rfl rfl g8) yG rfl ?_
     have vD:=vD.ch hlt.1
     refine CH_ldO (n:=2010) (c:=uF) rfl rfl (.yes2 rfl rfl g8) zG rfl rfl ?_
     have xD:=xD.ch hlt.1
     refine CH_do rfl rfl (.yes2 rfl rfl g8) (D_callM (g:=jD) (i:=1) (vs:=[up0,tF,uF]) en68 (.cons rfl (.cons rfl (.cons rfl .nil))) (wk68 big u3 o0 l5 vD xD aH) fun vI dK yK hs hr=>?_)
     obtain ⟨hrv,b300⟩:=hr
     have hfr:=hfr.stp hs
     have hmk:=hmk.stp hs
     have y6:=y6.stp hs
     have hrec_0:=hrec_0.stp hs rfl
     have hlt:=hlt.stp hs
     have i6:=i6.stp hs
     have x5:=x5.stp hs
     have x6:=x6.stp hs
     have i7:=i7.stp hs rfl
     have m7:=m7.stp hs rfl
     have t5:=t5.stp hs
     have o0:=o0.stp hs
     have u3:=u3.stp hs
     have b256:=b256.stp hs rfl
     have b266:=b266.stp hs rfl
     subst hrv
     refine ⟨hlt.toW,?_⟩
     refine CH_pur (c:=.int .i64 ((w64 ((n9).moves + zB.1)))) rfl rfl (.yes2 rfl rfl g8) (P_int rfl rfl rfl) ?_
     refine CH_ldP (c:=up0) rfl rfl (.yes2 rfl rfl g8) cH rfl ?_
     refine CH_ldP (c:=yF) rfl rfl (.yes2 rfl rfl g8) dH rfl ?_
     have yD:=yD.ch hlt.1
     refine CH_ldP (c:=zF) rfl rfl (.yes2 rfl rfl g8) gH rfl ?_
     have zD:=zD.ch hlt.1
     refine CH_do rfl rfl (.yes2 rfl rfl g8) (D_callM (g:=vI) (i:=1) (vs:=[up0,yF,zF]) en68 (.cons rfl (.cons rfl (.cons rfl .nil))) (wk68 big u3 o0 b300 yD zD iH) fun yI lK zK hs hr=>?_)
     obtain ⟨hrv,b305⟩:=hr
     have hfr:=hfr.stp hs
     have hmk:=hmk.stp hs
     have y6:=y6.stp hs
     have hrec_0:=hrec_0.stp hs rfl
     have hlt:=hlt.stp hs
     have i6:=i6.stp hs
     have x5:=x5.stp hs
     have x6:=x6.stp hs
     have i7:=i7.stp hs rfl
     have m7:=m7.stp hs rfl
     have t5:=t5.stp hs
     have o0:=o0.stp hs
     have u3:=u3.stp hs
     have b256:=b256.stp hs rfl
     have b266:=b266.stp hs rfl
     subst hrv
     refine ⟨hlt.toW,?_⟩
     refine CH_nil ?_
     clear hlt
     refine Gb (.bool (((w64 ((n9).moves + zB.1)) == qC.1))) (P_int rfl rfl rfl) rfl rfl g8 rfl ?_
     refine Ga (.bool (((w64 ((n9).moves + zB.1)) == qC.1))) (Zl (b:=r8.2) rfl (pick_t g8 rfl)) rfl ?_
     refine Zb ?_
     obtain ⟨rfl,rfl⟩:=pairs2 h
     exact hQ _ _ ⟨yI,hfr,hmk,y6,hrec_0,rfl,i6,rfl,x5,rfl,x6,rfl,i7,rfl,m7,rfl,b256,rfl,b266,rfl,t5,rfl,b305,o0,u3⟩
    ·refine E_drawC (g := jD) (w := eF) (n := 13) [0, 1, 2, 3, 4, 5, 6, 7, 8, 9, 10, 11, 12] [] [0, 1, 2, 3, 4, 5, 6, 7, 8, 9, 10, 11, 12] rfl mixed (by kernel_rfl) fun w_c293 hs hlt => ?_
     have hfr:=hfr.ext hs
     have hmk:=hmk.ext hs
     have y6:=y6.ext hs
     have hrec_0:=hrec_0.ext hs
     have i6:=i6.ext hs
     have x5:=x5.ext hs
     have x6:=x6.ext hs
     have i7:=i7.ext hs
     have m7:=m7.ext hs
     have t5:=t5.ext hs
     have l5:=l5.ext hs
     have o0:=o0.ext hs
     have u3:=u3.ext hs
     have b256:=b256.ext hs
     have b266:=b266.ext hs
     clear hs
     refine CH_pur (c:=.bool (r8.2)) rfl rfl .plain (Zk rfl) ?_
     refine CH_pur (c:=.bool (r8.2)) rfl rfl .plain (Zk rfl) ?_
     iterate 11 refine CH_skip rfl (.no2 rfl rfl g8 rfl) ?_
     refine CH_nil ?_
     clear hlt
     refine Gc rfl rfl g8 rfl rfl ?_
     refine Ga (.bool false) (Zl (b:=r8.2) rfl (pick_f g8 rfl)) rfl ?_
     refine Zb ?_
     obtain ⟨rfl,rfl⟩:=pairs2 h
     exact hQ _ _ ⟨jD,hfr,hmk,y6,hrec_0,rfl,i6,rfl,x5,rfl,x6,rfl,i7,rfl,m7,rfl,b256,rfl,b266,rfl,t5,rfl,l5,o0,u3⟩
   ·clear hx
    obtain ⟨aL,hfr,hmk,y6,hrec_0,pJ,bA,qJ,iA,rJ,rA,aG,sD,bG,tB,cG,eG,iE,lE,mJ,k9,eD,m8,k8,l8⟩:=hR
    rcases Zt h with ⟨lD,h⟩ | ⟨lD,h⟩
    ·refine E_cond_true (Eq.trans (show ev _ _ = .bool (y9) from eD) (congrArg Value.bool lD)) ?_
     refine Zf (L_loadO0 (x:=.tmp 8) Try.isAgg151 Try.sizeOf151 eG fun zI eJ jH=>?_)
     refine L_loadO0 (x:=.tmp 10) Try.isAgg157 Try.sizeOf157 lE fun gG aE kH=>?_
     refine E_drawB (a0:=(iB:BoxPick)) (a1:=(l9:BoxPick)) sD (n:=3) [(2,(fun _ g w=>OB 2006 g w 151 (l9:BoxPick) p4))] [0,1,2] rfl mixed (by kernel_rfl) (⟨fun _=>up_box,trivial⟩) ?_
     refine L_ld (c:=zI) rfl rfl .plain (fun _ _ h=>⟨h.1.ch,fun b hb ho=>h.1.block b hb (by rw [ho]; decide)⟩) jH cG ?_
     refine L_ld (c:=gG) rfl rfl .plain (fun _ _ h=>⟨h.1.ch,fun b hb ho=>h.1.block b hb (by rw [ho]; decide)⟩) kH iE ?_
     refine L_do (φ:=fun _ g w=>OB 2006 g w 151 (l9:BoxPick) p4) rfl rfl .plain (fun g w hd=>D_storeR0 (g:=g) Try.sizeOf151 aG hd.1.2 rfl (eJ.stp hd.1.1)) (fun bL hv=>?_)
     clear hv
     refine L_nil fun gJ dL hall=>?_
     have hs:=hall.1.1
     have hfr:=hfr.stp hs
     have hmk:=hmk.stp hs
     have y6:=y6.stp hs
     have hrec_0:=hrec_0.stp hs rfl
     have bA:=bA.stp hs
     have iA:=iA.stp hs
     have rA:=rA.stp hs
     have tB:=tB.stp hs rfl
     have k9:=k9.stp hs
     have m8:=m8.stp hs rfl
     have k8:=k8.stp hs
     have l8:=l8.stp hs
     have aE:=aE.stp hs
     have b319:=(word_all (A:=fun g w=>OB 2006 g w 151 (l9:BoxPick) p4) 2 rfl hall)
     clear hs hall
     refine Ze .plain rfl (D_storeOc (g:=gJ) (v:=gG) Try.sizeOf157 bG tB rfl aE fun eL gL hs b330 cb=>?_)
     clear cb
     have hfr:=hfr.stp hs
     have hmk:=hmk.stp hs
     have y6:=y6.stp hs
     have hrec_0:=hrec_0.stp hs rfl
     have bA:=bA.stp hs
     have iA:=iA.stp hs
     have rA:=rA.stp hs
     have b319:=b319.stp hs rfl
     have k9:=k9.stp hs
     have m8:=m8.stp hs rfl
     have k8:=k8.stp hs
     have l8:=l8.stp hs
     refine Zb (Zd (E_ret (blk_r ?_)))
     obtain ⟨rfl,rfl⟩:=pairs2 h
     exact ⟨_,y6,⟨hfr,hmk,bA,iA,rA,b319,b330,k9,m8,k8,l8⟩,hrec_0,rfl,0,rfl,rfl⟩
    ·refine E_cond_false (Eq.trans (show ev _ _ = .bool (y9) from eD) (congrArg Value.bool lD)) ?_
     refine Zu (blk_n ?_)
     obtain ⟨rfl,rfl⟩:=pairs2 h
     exact ⟨_,y6,⟨hfr,hmk,bA,iA,rA,sD,tB,k9,m8,k8,l8⟩,hrec_0,rfl,rfl⟩
  ·intro iJ iL ds332 hsz hR hds
   obtain ⟨hfr,hmk,sJ,vJ,xJ,vB,yB,nJ,d9,vC,aD⟩:=hR
   obtain ⟨D,hdse,hD,hDb⟩:=hds.1 rfl
   subst hdse
   replace hmk:=MkF.push hmk0 hmk hD hDb
   clear hD hDb hds
   revert hmk
   generalize ({ target:=.collected D,args:=#[] } :: []:List Deferred)=yJ
   intro hmk
   refine ⟨fun hs=>?_,fun k c hs hc=>?_⟩
   ·have hs : lB = 0 := hs
    subst hs
    replace h:=cond_t h rfl
    exact blk_n (Zd (jG (mB,nB,a9) _ _ _ ⟨iJ,hfr,hmk,rfl,vB,rfl,yB,d9,vC,aD⟩ h))
   ·have hs : lB = k + 1 := hs
    match k,hs,hc with
    | 0,hs,hc=>
     subst hs
     obtain rfl:=sinj hc
     replace h:=cond_f h rfl
     refine E_ret (blk_r ?_)
     refine thn_r ?_
     refine endM (.inr rfl) hmk fun jL lL hs=>?_
     have hfr:=hfr.stp hs
     have vB:=vB.stp hs rfl
     have yB:=yB.stp hs rfl
     have d9:=d9.stp hs rfl
     obtain rfl:=sinj h
     obtain ⟨ad334,cv334,hp334,lH,cr334⟩:=ob_read Try.isAgg151 Try.sizeOf151 vB
     obtain ⟨ad335,cv335,hp335,mH,cr335⟩:=ob_read Try.isAgg157 Try.sizeOf157 yB
     exact endm_cc rfl rfl ((show _=p4 from rfl).trans hp334) lH ((show _=p5 from rfl).trans hp335) mH ⟨_,hfr,⟨_,_,rfl,cr334,cr335⟩,oB.back d9⟩
    | n + 1,_,hc=>exact absurd hc (by simp)
 ·rintro ⟨nD, oD, dB⟩ mK zJ mL ⟨jJ, hfr, hmk, bD, yA, cD, aB, n8, hG, iG⟩ h
  refine Zf (L_selfO Try.isAgg151 Try.sizeOf151 rfl yA fun kJ nH oH=>?_)
  refine L_selfO Try.isAgg157 Try.sizeOf157 rfl aB fun lJ pH qH=>?_
  refine E_drawL (g:=jJ) (n:=4) [(2,(fun _ _ _=>True)),(3,(fun _ _ _=>True))] [0,1,2,3] rfl mixed (by kernel_rfl) (⟨fun _=>(fun _ _ _ _ _ _=>trivial),fun _=>(fun _ _ _ _ _ _=>trivial),trivial⟩) ?_
  refine L_ld (c:=kJ) rfl rfl .plain (fun _ _ h=>⟨h.ch,fun b hb _=>h.below.block b hb⟩) (nH _) bD ?_
  refine L_ld (c:=lJ) rfl rfl .plain (fun _ _ h=>⟨h.ch,fun b hb _=>h.below.block b hb⟩) (pH _) cD ?_
  refine L_do (φ:=fun _ _ _=>True) rfl rfl .plain (fun g w hd=>oH _ _ _ g w ⟨hd.1.ch,fun b hb _=>hd.1.below.block b hb⟩ bD rfl) (fun nL hv=>?_)
  clear hv
  refine L_do (φ:=fun _ _ _=>True) rfl rfl .plain (fun g w hd=>qH _ _ _ g w ⟨hd.1.ch,fun b hb _=>hd.1.below.block b hb⟩ cD rfl) (fun oL hv=>?_)
  clear hv
  refine L_nl fun pL qL hs=>?_
  have hfr:=hfr.ext hs
  have hmk:=hmk.ext hs
  have yA:=yA.ext hs
  have aB:=aB.ext hs
  have n8:=n8.ext hs
  clear hs
  refine Zb (Zd (E_ret (endM (.inr rfl) hmk fun rL tL hs=>?_)))
  have hfr:=hfr.stp hs
  have yA:=yA.stp hs rfl
  have aB:=aB.stp hs rfl
  have n8:=n8.stp hs rfl
  obtain rfl:=sinj h
  obtain ⟨ad350,cv350,hp350,sH,cr350⟩:=ob_read Try.isAgg151 Try.sizeOf151 yA
  obtain ⟨ad351,cv351,hp351,tH,cr351⟩:=ob_read Try.isAgg157 Try.sizeOf157 aB
  exact endm_cc rfl rfl ((show _=p4 from bD).trans hp350) sH ((show _=p5 from cD).trans hp351) tH ⟨_,hfr,⟨_,_,rfl,cr350,cr351⟩,oB.back n8⟩
def f73 (x0:FaultLoom) (x1:List Zv) (x2:Int):Option (Int):=
 jn (σ:=Unit) (fun _=>
  jn (σ:=Unit) (fun _=>
   some ((0:Int))
   ) fun x5=>
  (f94 ((1:Int)) ((120:Int)) (([x2]:List Int))).bind fun l5=>
  bif (!l5) then
   some ((3:Int))
  else
   x5 ()
  ) fun k6=>
 (f144 x0 x1).bind fun y9=>
 bif (y9 != (0 : Int)) then
  some (y9)
 else
  k6 ()
theorem en73:Enters Try.prog 73:=enters_of Try.func73 (by kernel_rfl) rfl
theorem wk73 {gI:Gh} {wI:World} {x0:FaultLoom} {x1:List Zv} {x2:Int} {up0:Value} (rp0:RV gI.m wI x0 up0) {up1:Value} (rp1:RV gI.m wI x1 up1) {r:Int} (h:f73 x0 x1 x2=some r):Fn Try.prog 73 #[up0,up1,.int .i64 (x2)] gI wI (fun _ _ v=>v=.int .i64 (r)):=by
 unfold f73 at h
 refine fn_of_E Try.func73 rfl (Nat.le_of_ble_eq_true rfl) fun g0 hm hfr=>?_
 have rp0:RV g0.m wI x0 up0:=hm ▸ rp0
 have rp1:RV g0.m wI x1 up1:=hm ▸ rp1
 show E _ 18 none _ _ _ _ _
 refine Zf (Za (Ze .plain rfl (D_box (g:=g0) rfl rp0 fun g1 w1 p1 hs q1=>?_)))
 have hfr:=hfr.ext hs
 have rp1:=rp1.ext hs
 refine Zg (.int .i64 (0)) rfl rfl ?_
 refine Zb (Zd (Zq h (fun (s:Unit) e w=>∃ (g:Gh) ,Fr gI wI g w∧e 2=.int .i64 (x2)) (fun X6 k6 hk6 h=>?_) ?_))
 ·refine Zf (Za (Ze .plain rfl (D_load (g := g1) Try.isAgg32 Try.sizeOf32 rfl q1 fun v7 r7 => ?_)))
  refine Zn up1 rfl rfl ?_
  obtain ⟨y9,y6,h⟩:=Ge h
  refine Ze .plain rfl (Zp (g:=g1) (vs:=[v7,up1]) en144 (.cons rfl (.cons rfl .nil)) (wk144 r7 rp1 y6) fun g8 w8_ v8 hs hr=>?_)
  have hfr:=hfr.ext hs
  subst hr
  refine Zg (.int .i64 (y9)) rfl rfl ?_
  refine Zb (Zd (Zf (Za (Zn (.int .i64 (y9)) rfl rfl ?_))))
  refine EL_in (.bool ((y9 != (0:Int)))) rfl rfl rfl rfl ?_
  refine Zb (Zd ?_)
  rcases Zt h with ⟨o0,h⟩ | ⟨o0,h⟩
  ·refine E_ct o0 rfl ?_
   refine Zf (Za (Zn (.int .i64 (y9)) rfl rfl ?_))
   refine Zg (.int .i64 (y9)) rfl rfl ?_
   refine Zb (Zd (E_ret (thn_r ?_)))
   obtain rfl:=sinj h
   exact end1 rfl rfl (show _=.int .i64 (y9) from rfl) ⟨_,hfr,rfl⟩
  ·refine E_cf o0 rfl ?_
   exact Zu (Zd (hk6 () _ _ ⟨g8,hfr,rfl⟩ h))
 ·rintro _ n8 a9 ⟨i7, hfr, t5⟩ h
  refine Zq h (fun (s:Unit) e w=>∃ (g:Gh) ,Fr gI wI g w) (fun X16 x5 i6 h=>?_) ?_
  ·refine Zf (Za (Zo t5 rfl ?_))
   refine Ze .plain rfl (D_buildSlice (g:=i7) 3015 (xs:=([x2]:List Int)) (vs:=[.int .i64 (x2)]) Try.underlying26 Try.sizeOf3 Try.zeroValue3 rfl rfl (.cons rfl .nil) (RVs.cons (Zj.2 rfl) RVs.nil) rfl rfl fun m7 d9 k8 hs o17 l8 hxt hfl=>?_)
   have hfr:=hfr.stp hs
   obtain ⟨l5,x6,h⟩:=Ge h
   refine Ze .plain rfl (Zp (g:=m7) (vs:=[.int .i64 (1),.int .i64 (120),k8]) en94 (.cons rfl (.cons rfl (.cons rfl .nil))) (wk94 l8 x6) fun m8 r8 k9 hs hr=>?_)
   have hfr:=hfr.ext hs
   subst hr
   refine Ga (.bool (!l5)) (P_not rfl) rfl ?_
   refine Zb (Zd ?_)
   rcases Zt h with ⟨u3,h⟩ | ⟨u3,h⟩
   ·refine E_ct u3 rfl ?_
    refine Zf (Za (Zg (.int .i64 (3)) rfl rfl ?_))
    refine Zb (Zd (E_ret (thn_r ?_)))
    obtain rfl:=sinj h
    exact end1 rfl rfl (show _=.int .i64 (3) from rfl) ⟨_,hfr,rfl⟩
   ·refine E_cf u3 rfl ?_
    exact Zu (Zd (i6 () _ _ ⟨m8,hfr⟩ h))
  ·rintro _ x8 l9 ⟨n9, hfr⟩ h
   refine Zf (Za (Zg (.int .i64 (0)) rfl rfl ?_))
   refine Zb (Zd (E_ret ?_))
   obtain rfl:=sinj h
   exact end1 rfl rfl (show _=.int .i64 (0) from rfl) ⟨_,hfr,rfl⟩
end Go.Proofs.Ytjoniingnbmljaa
