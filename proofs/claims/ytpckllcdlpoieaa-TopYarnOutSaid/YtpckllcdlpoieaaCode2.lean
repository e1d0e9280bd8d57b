import Derived.Test.YtpckllcdlpoieaaCode1
set_option maxRecDepth 8000
set_option maxHeartbeats 4000000
namespace Go.Proofs.Ytpckllcdlpoieaa
open Go.RowKit
def f215 (z0:Ptr BoxMill) (z1:BoxRace) (σ:Type) (cons:Cons σ (BoxPick × BoxStep)) (s0:σ):Option σ:=
 lp (σ:=σ × Int) (fun k5 (iA,u3)=>
  bif (decide (u3 < ((z0).x).left)) then
   jn (σ:=σ) (fun m8=>
    k5 (m8,(w64 (u3 + (1:Int))))
    ) fun rE=>
   lp (σ:=σ × Int) (fun uE (i7,l5)=>
    bif (decide (l5 < ((z0).x).right)) then
     jn (σ:=σ) (fun n8=>
      uE (n8,(w64 (l5 + (1:Int))))
      ) fun vE=>
     (f216 z1 ((⟨u3,l5⟩:BoxPick))).bind fun o0=>
     Option.bind (α:=σ × Bool) (
      bif (decide (o0.2.1 > (0 : Int))) then
       (cons i7 ((⟨u3,l5⟩:BoxPick),(⟨o0.1,(w64 (o0.2.1 - (1:Int))),o0.2.2⟩:BoxStep))).bind fun (g8,aB)=>
       some (aB,(!g8))
      else
       some (i7,false)
      ) fun (y6,x6)=>
     bif x6 then
      some y6
     else
      vE (y6)
    else
     rE (i7)
    ) big (iA,(0:Int))
  else
   some iA
  ) big (s0,(0:Int))
theorem en215:Enters Try.prog 215:=enters_of Try.func215 (by kernel_rfl) rfl
theorem wk215 {σ:Type} {cons:Cons σ (BoxPick × BoxStep)} {s0 r:σ} {gI:Gh} {wI:World} {z0:Ptr BoxMill} {z1:BoxRace} {pf0:Value} (qf0:PT gI.m wI z0 pf0) {pf1:Value} (qf1:PT gI.m wI z1 pf1) (h:f215 z0 z1 σ cons s0=some r):IterC Try.prog (RA2 (α:=BoxPick) (β:=BoxStep)) 215 #[] #[pf0,pf1] gI wI cons s0 r:=by
 unfold f215 at h
 refine iter_of_E Try.func215 rfl (Nat.le_of_ble_eq_true rfl) fun l B J g0 hm hAb hRo hfr=>?_
 have qf0:PT g0.m wI z0 pf0:=hm ▸ qf0
 have qf1:PT g0.m wI z1 pf1:=hm ▸ qf1
 show E _ 49 none _ _ (envAt #[.func (.yield l) #[] #[],pf0,pf1]) _ _
 refine Zf (Za (Ze .plain rfl (D_load (g:=g0) Try.isAgg158 Try.sizeOf158 rfl qf0 fun v1 r1=>?_)))
 replace r1:=RV_ptr.1 r1
 obtain ⟨pb2,po2,pe2⟩:=PT.ptr r1
 refine EL_p v1 (P_nilCk rfl pe2) rfl ?_
 refine EL_p (fPtr v1 0) (Zc at_274_0 rfl (PT.ptr r1)) rfl ?_
 have q3:=Zm (part_BoxMill_0).1 r1
 refine Ze .plain rfl (D_load (g:=g0) Try.isAgg3 Try.sizeOf3 rfl q3 fun v4 r4=>?_)
 obtain rfl:=Zj.1 r4
 refine Zn (.int .i64 (0)) rfl rfl ?_
 refine Zb (Zd (Zr ?_))
 refine E_lp h (fun (s:σ × Int) e w=>∃ (g:Gh) ,FrY gI wI B J (s.1) g w∧e 0=(.func (.yield l) #[] #[])∧e 1=pf0∧PT g.m w (z0:Ptr BoxMill) pf0∧e 2=pf1∧PT g.m w (z1:BoxRace) pf1∧e 13=.int .i64 (((z0).x).left)∧e 14=.int .i64 (s.2)) ⟨g0,hfr,rfl,rfl,qf0,rfl,qf1,rfl,rfl⟩ (fun X5 k5 hk5=>?_)
 rintro ⟨iA,u3⟩ sH w6 ⟨g6,hfr,zE,qC,rC,cF,dF,dB,n9⟩ h
 refine Zf (Za (EL_in (.bool ((decide (u3 < ((z0).x).left)))) n9 dB rfl rfl ?_))
 refine Zb (Zd (Zf ?_))
 rcases Zt h with ⟨uC,h⟩ | ⟨uC,h⟩
 ·refine E_ct uC rfl ?_
  refine Zu (Zd (Zq h (fun (s:σ) e w=>∃ (g:Gh) ,FrY gI wI B J (s) g w∧e 0=(.func (.yield l) #[] #[])∧e 1=pf0∧PT g.m w (z0:Ptr BoxMill) pf0∧e 2=pf1∧PT g.m w (z1:BoxRace) pf1∧e 13=.int .i64 (((z0).x).left)∧e 14=.int .i64 (u3)) (fun X63 rE eF h=>?_) ?_))
  ·refine Zr ?_
   refine Zf (Za (Zo n9 rfl ?_))
   refine Zg (.int .i64 (u3)) rfl rfl ?_
   refine Zb (Zd (Zf (Za (Ze .plain rfl (D_load (g:=g6) Try.isAgg158 Try.sizeOf158 qC rC fun xE bA=>?_)))))
   replace bA:=RV_ptr.1 bA
   obtain ⟨pb66,po66,pe66⟩:=PT.ptr bA
   refine EL_p xE (P_nilCk rfl pe66) rfl ?_
   refine EL_p (fPtr xE 1) (Zc at_274_1 rfl (PT.ptr bA)) rfl ?_
   have iG:=Zm (part_BoxMill_1).1 bA
   refine Ze .plain rfl (D_load (g:=g6) Try.isAgg3 Try.sizeOf3 rfl iG fun tH jG=>?_)
   obtain rfl:=Zj.1 jG
   refine Zn (.int .i64 (0)) rfl rfl ?_
   refine Zb (Zd (Zr ?_))
   refine E_lp h (fun (s:σ × Int) e w=>∃ (g:Gh) ,FrY gI wI B J (s.1) g w∧e 0=(.func (.yield l) #[] #[])∧e 1=pf0∧PT g.m w (z0:Ptr BoxMill) pf0∧e 2=pf1∧PT g.m w (z1:BoxRace) pf1∧e 4=.int .i64 (u3)∧e 13=.int .i64 (((z0).x).left)∧e 14=.int .i64 (u3)∧e 20=.int .i64 (((z0).x).right)∧e 21=.int .i64 (s.2)) ⟨g6,hfr,zE,qC,rC,cF,dF,rfl,dB,n9,rfl,rfl⟩ (fun X69 uE rF=>?_)
   rintro ⟨i7,l5⟩ gH kG ⟨vC,hfr,k8,u9,x5,l8,t5,y9,r8,v8,x8,m7⟩ h
   refine Zf (Za (EL_in (.bool ((decide (l5 < ((z0).x).right)))) m7 x8 rfl rfl ?_))
   refine Zb (Zd (Zf ?_))
   rcases Zt h with ⟨rA,h⟩ | ⟨rA,h⟩
   ·refine E_ct rA rfl ?_
    refine Zu (Zd (Zq h (fun (s:σ) e w=>∃ (g:Gh) ,FrY gI wI B J (s) g w∧e 0=(.func (.yield l) #[] #[])∧e 1=pf0∧PT g.m w (z0:Ptr BoxMill) pf0∧e 2=pf1∧PT g.m w (z1:BoxRace) pf1∧e 4=.int .i64 (u3)∧e 13=.int .i64 (((z0).x).left)∧e 14=.int .i64 (u3)∧e 20=.int .i64 (((z0).x).right)∧e 21=.int .i64 (l5)) (fun X95 vE sF h=>?_) ?_))
    ·refine Zr ?_
     refine Zf (Za (Zo m7 rfl ?_))
     refine Zg (.int .i64 (l5)) rfl rfl ?_
     refine Zb (Zd (Zf (Za (Zo y9 rfl ?_))))
     refine Zn (.int .i64 (l5)) rfl rfl ?_
     have iB:RV vC.m kG (⟨u3,l5⟩:BoxPick) (.agg (setCh [[.int .i64 0],[.int .i64 0]] [(0,.int .i64 (u3)),(1,.int .i64 (l5))]).flatten.toArray):=RV_build rfl (rep_pair (rfl) (rep_last (rfl)))
     generalize tF:(Value.agg (setCh [[.int .i64 0],[.int .i64 0]] [(0,.int .i64 (u3)),(1,.int .i64 (l5))]).flatten.toArray)=yE at iB
     refine EL_p yE (tF ▸ P_build (vs:=[(0,.int .i64 (u3)),(1,.int .i64 (l5))]) [[.int .i64 0],[.int .i64 0]] lay_151 rfl rfl (.cons rfl (.cons rfl .nil)) ⟨⟨_,rfl,rfl⟩,⟨⟨_,rfl,rfl⟩,trivial⟩⟩) rfl ?_
     refine Ze .plain rfl (D_allocOc (g:=vC) 2006 (⟨0,0⟩:BoxPick) Try.zeroValue151 (fun m w=>⟨_,(rep_two rep_int rep_int),rfl⟩) fun lG uH xH hs b97 cb=>?_)
     have hfr:=hfr.stp_ hAb hs rfl
     have x5:=x5.stp hs
     have t5:=t5.stp hs
     have iB:=iB.stp hs
     clear cb
     refine Ze .plain rfl (D_storeOc (g:=lG) (v:=yE) Try.sizeOf151 rfl b97 rfl iB fun aD yH hs b98 cb=>?_)
     clear cb
     have hfr:=hfr.stp_ hAb hs rfl
     have x5:=x5.stp hs
     have t5:=t5.stp hs
     refine Zb (Zd (Zf (Za (Ze .plain rfl (D_load (g:=aD) Try.isAgg153 Try.sizeOf153 l8 t5 fun mG sG=>?_)))))
     refine Ze .plain rfl (D_loadO (g:=aD) Try.isAgg151 Try.sizeOf151 rfl b98 fun uF vF=>?_)
     obtain ⟨o0,lE,h⟩:=bsome h
     refine Ze .plain rfl (Zp (g:=aD) (vs:=[mG,uF]) en216 (.cons rfl (.cons rfl .nil)) (wk216 sG vF lE) fun xF zG iH hs hr=>?_)
     have hfr:=hfr.ext_ hAb hs
     have x5:=x5.ext hs
     have t5:=t5.ext hs
     have b98:=b98.ext hs
     obtain ⟨a9,xG,yG,rfl,d9,rfl,rfl⟩:=hr
     refine Zn (.tuple #[a9,.int .i64 (o0.2.1),.int .i64 (o0.2.2)]) rfl rfl ?_
     refine EL_p a9 (Zi rfl rfl) rfl ?_
     refine EL_p (.int .i64 (o0.2.1)) (Zi rfl rfl) rfl ?_
     refine EL_p (.int .i64 (o0.2.2)) (Zi rfl rfl) rfl ?_
     refine Ze .plain rfl (D_allocOc (g:=xF) 2007 (⟨(⟨List.toArray [(⟨List.toArray [0,0,0,0],rfl⟩:Vector Int 4),(⟨List.toArray [0,0,0,0],rfl⟩:Vector Int 4)],rfl⟩:Vector (Vector Int 4) 2),⟨0,0⟩⟩:BoxRace) Try.zeroValue153 (fun m w=>⟨_,(rep_two (rep_vec (flat_chunk (rep_vec (flat_chunk rep_int (flat_chunk rep_int (flat_chunk rep_int (flat_chunk rep_int flat_nil)))) rfl) (flat_chunk (rep_vec (flat_chunk rep_int (flat_chunk rep_int (flat_chunk rep_int (flat_chunk rep_int flat_nil)))) rfl) flat_nil)) rfl) (rep_two rep_int rep_int)),rfl⟩) fun yF jH kH hs b103 cb=>?_)
     have hfr:=hfr.stp_ hAb hs rfl
     have x5:=x5.stp hs
     have t5:=t5.stp hs
     have b98:=b98.stp hs rfl
     have d9:=d9.stp hs
     clear cb
     refine Ze .plain rfl (D_storeOc (g:=yF) (v:=a9) Try.sizeOf153 rfl b103 rfl d9 fun k9 lH hs b104 cb=>?_)
     clear cb
     have hfr:=hfr.stp_ hAb hs rfl
     have x5:=x5.stp hs
     have t5:=t5.stp hs
     have b98:=b98.stp hs rfl
     refine Zg (.int .i64 (o0.2.1)) rfl rfl ?_
     refine Zg (.int .i64 (o0.2.2)) rfl rfl ?_
     refine Zb (Zd ?_)
     obtain ⟨⟨y6,x6⟩,hx,h⟩:=bsome h
     refine E_join (fun e w=>∃ (g:Gh) ,FrY gI wI B J (y6) g w∧e 0=(.func (.yield l) #[] #[])∧e 1=pf0∧PT g.m w (z0:Ptr BoxMill) pf0∧e 2=pf1∧PT g.m w (z1:BoxRace) pf1∧e 4=.int .i64 (u3)∧e 13=.int .i64 (((z0).x).left)∧e 14=.int .i64 (u3)∧e 20=.int .i64 (((z0).x).right)∧e 21=.int .i64 (l5)∧e 46=.bool (x6)) (fun Q' hQ=>?_) (fun aH mH hR=>?_)
     ·replace h := hx
      clear hx
      refine Za (Zn (.int .i64 (o0.2.1)) rfl rfl ?_)
      refine EL_in (.bool ((decide (o0.2.1 > (0:Int))))) rfl rfl rfl rfl ?_
      refine Zn (.bool ((decide (o0.2.1 > (0:Int))))) rfl rfl ?_
      rcases Zt h with ⟨i6,h⟩ | ⟨i6,h⟩
      ·refine EL_y ((.func (.yield l) #[] #[])) (Zk k8) rfl rfl i6 rfl ?_
       refine Ze (.yes2 rfl rfl i6) rfl (D_loadO (g:=k9) Try.isAgg151 Try.sizeOf151 rfl b98 fun nH zF=>?_)
       refine Ze (.yes2 rfl rfl i6) rfl (D_loadO (g:=k9) Try.isAgg153 Try.sizeOf153 rfl b104 fun yA bD=>?_)
       refine EL_y (.int .i64 (o0.2.1)) (Zk rfl) rfl rfl i6 rfl ?_
       refine EL_y (.int .i64 ((w64 (o0.2.1 - (1:Int))))) (P_int rfl rfl rfl) rfl rfl i6 rfl ?_
       refine EL_y (.int .i64 (o0.2.2)) (Zk rfl) rfl rfl i6 rfl ?_
       have cD:RV k9.m _ (⟨o0.1,(w64 (o0.2.1 - (1:Int))),o0.2.2⟩:BoxStep) (.agg (setCh [[.int .i64 0,.int .i64 0,.int .i64 0,.int .i64 0,.int .i64 0,.int .i64 0,.int .i64 0,.int .i64 0,.int .i64 0,.int .i64 0],[.int .i64 0],[.int .i64 0]] [(0,yA),(1,.int .i64 ((w64 (o0.2.1 - (1:Int))))),(2,.int .i64 (o0.2.2))]).flatten.toArray):=RV_build rfl (rep_pair (RV.cells bD) (rep_pair (rfl) (rep_last (rfl))))
       generalize mE:(Value.agg (setCh [[.int .i64 0,.int .i64 0,.int .i64 0,.int .i64 0,.int .i64 0,.int .i64 0,.int .i64 0,.int .i64 0,.int .i64 0,.int .i64 0],[.int .i64 0],[.int .i64 0]] [(0,yA),(1,.int .i64 ((w64 (o0.2.1 - (1:Int))))),(2,.int .i64 (o0.2.2))]).flatten.toArray)=aG at cD
       refine EL_y aG (mE ▸ P_build (vs:=[(0,yA),(1,.int .i64 ((w64 (o0.2.1 - (1:Int))))),(2,.int .i64 (o0.2.2))]) [[.int .i64 0,.int .i64 0,.int .i64 0,.int .i64 0,.int .i64 0,.int .i64 0,.int .i64 0,.int .i64 0,.int .i64 0,.int .i64 0],[.int .i64 0],[.int .i64 0]] lay_279 rfl rfl (.cons rfl (.cons rfl (.cons rfl .nil))) ⟨⟨_,rfl,cells_size bD⟩,⟨⟨_,rfl,rfl⟩,⟨⟨_,rfl,rfl⟩,trivial⟩⟩⟩) rfl rfl i6 rfl ?_
       obtain ⟨bG,oE,h⟩:=bsome h
       obtain ⟨g8,aB⟩:=bG
       refine Ze (.yes2 rfl rfl i6) rfl (D_yield (g:=k9) (x:=((⟨u3,l5⟩:BoxPick),(⟨o0.1,(w64 (o0.2.1 - (1:Int))),o0.2.2⟩:BoxStep))) rfl (.cons rfl (.cons rfl .nil)) hRo hfr oE ⟨_,_,rfl,zF,cD⟩ fun cG oH hs hfrY=>?_)
       have x5:=x5.stp hs
       have t5:=t5.stp hs
       have hfr:=hfrY
       clear hfrY
       refine EL_y (.bool (!g8)) (P_not rfl) rfl rfl i6 rfl ?_
       refine EL_p (.bool (!g8)) (Zl (b:=(decide (o0.2.1 > (0:Int)))) rfl (pick_t i6 rfl)) rfl ?_
       refine Zb ?_
       obtain ⟨rfl,rfl⟩:=pairs2 h
       exact hQ _ _ ⟨cG,hfr,k8,u9,x5,l8,t5,y9,r8,v8,x8,m7,rfl⟩
      ·refine EL_s rfl rfl i6 rfl rfl ?_
       iterate 8 refine EL_s rfl rfl i6 rfl rfl ?_
       refine EL_p (.bool false) (Zl (b:=(decide (o0.2.1 > (0:Int)))) rfl (pick_f i6 rfl)) rfl ?_
       refine Zb ?_
       obtain ⟨rfl,rfl⟩:=pairs2 h
       exact hQ _ _ ⟨k9,hfr,k8,u9,x5,l8,t5,y9,r8,v8,x8,m7,rfl⟩
     ·clear hx
      obtain ⟨eG,hfr,eD,gD,iD,jD,lD,nD,lB,mB,nB,oB,l9⟩:=hR
      rcases Zt h with ⟨z9,h⟩ | ⟨z9,h⟩
      ·refine E_cond_true (Eq.trans (show ev _ _ = .bool (x6) from l9) (congrArg Value.bool z9)) ?_
       refine E_ret (blk_r ?_)
       refine thn_r ?_
       refine thn_r ?_
       refine blk_r ?_
       refine blk_r ?_
       refine thn_r ?_
       refine thn_r ?_
       refine blk_r ?_
       obtain rfl:=sinj h
       exact end0 rfl rfl (FrY.done hfr)
      ·refine E_cond_false (Eq.trans (show ev _ _ = .bool (x6) from l9) (congrArg Value.bool z9)) ?_
       exact Zu (blk_n (Zd (sF (y6) _ _ ⟨eG,hfr,eD,gD,iD,jD,lD,nD,lB,mB,nB,oB⟩ h)))
    ·rintro n8 cH pH ⟨gG, hfr, oD, sD, tD, uD, vD, xD, tB, vB, yB, zB⟩ h
     refine Za (EL_in (.int .i64 ((w64 (l5 + (1:Int))))) zB rfl rfl rfl ?_)
     refine Zn (.int .i64 ((w64 (l5 + (1:Int))))) rfl rfl ?_
     exact Zb (Zd (rF (n8,(w64 (l5 + (1:Int)))) _ _ ⟨gG,hfr,oD,sD,tD,uD,vD,xD,tB,vB,yB,rfl⟩ h))
   ·refine E_cf rA rfl ?_
    refine E_exit ?_
    refine thn_e ?_
    refine thn_e ?_
    refine blk_hit ?_
    exact blk_n (Zd (eF (i7) _ _ ⟨vC,hfr,k8,u9,x5,l8,t5,r8,v8⟩ h))
  ·rintro m8 dH qH ⟨hG, hfr, yD, zD, aE, bE, iE, cC, mC⟩ h
   refine Za (EL_in (.int .i64 ((w64 (u3 + (1:Int))))) mC rfl rfl rfl ?_)
   refine Zn (.int .i64 ((w64 (u3 + (1:Int))))) rfl rfl ?_
   exact Zb (Zd (hk5 (m8,(w64 (u3 + (1:Int)))) _ _ ⟨hG,hfr,yD,zD,aE,bE,iE,cC,rfl⟩ h))
 ·refine E_cf uC rfl ?_
  refine E_exit ?_
  refine thn_e ?_
  refine thn_e ?_
  refine blk_hit ?_
  obtain rfl:=sinj h
  exact end0n rfl rfl (FrY.done hfr)
def f134 (x0:BoxShuttle) (z0:BoxBoxLoom):Option (Bool):=
 (f135 z0 x0).bind fun y5=>
 some ((!y5))
theorem en134:Enters Try.prog 134:=enters_of Try.func134 (by kernel_rfl) rfl
theorem wk134 {gI:Gh} {wI:World} {x0:BoxShuttle} {z0:BoxBoxLoom} {up0:Value} (rp0:RV gI.m wI x0 up0) {pf0:Value} (qf0:PT gI.m wI z0 pf0) {r:Bool} (h:f134 x0 z0=some r):Fn Try.prog 134 #[up0,pf0] gI wI (fun _ _ v=>v=.bool (r)):=by
 unfold f134 at h
 refine fn_of_E Try.func134 rfl (Nat.le_of_ble_eq_true rfl) fun g0 hm hfr=>?_
 have qf0:PT g0.m wI z0 pf0:=hm ▸ qf0
 have rp0:RV g0.m wI x0 up0:=hm ▸ rp0
 show E _ 8 none _ _ _ _ _
 refine Zf (Za (Ze .plain rfl (D_box (g:=g0) rfl rp0 fun g1 w1 p1 hs q1=>?_)))
 have hfr:=hfr.ext hs
 have qf0:=qf0.ext hs
 refine Zg (.bool false) rfl rfl ?_
 refine Zb (Zd (Zf (Za (Ze .plain rfl (D_load (g:=g1) Try.isAgg142 Try.sizeOf142 rfl qf0 fun v2 r2=>?_)))))
 refine Ze .plain rfl (D_load (g:=g1) Try.isAgg37 Try.sizeOf37 rfl q1 fun v3 r3=>?_)
 obtain ⟨y5,hy5,h⟩:=bsome h
 refine Ze .plain rfl (Zp (g:=g1) (vs:=[v2,v3]) en135 (.cons rfl (.cons rfl .nil)) (wk135 r2 r3 hy5) fun g4 w4_ v4 hs hr=>?_)
 have hfr:=hfr.ext hs
 subst hr
 refine EL_p (.bool (!y5)) (P_not rfl) rfl ?_
 refine Zg (.bool (!y5)) rfl rfl ?_
 refine Zb (Zd (E_ret ?_))
 obtain rfl:=sinj h
 exact end1 rfl rfl (show _=.bool (!y5) from rfl) ⟨_,hfr,rfl⟩
def f139 (x0:BoxMill) (x1:BoxRace):Option (It (BoxPick × BoxStep)):=
 some ((fun σ cons s=>f215 ((⟨x0⟩:Ptr BoxMill)) x1 σ cons s))
theorem en139:Enters Try.prog 139:=enters_of Try.func139 (by kernel_rfl) rfl
theorem wk139 {gI:Gh} {wI:World} {x0:BoxMill} {x1:BoxRace} {up0:Value} (rp0:PT gI.m wI x0 up0) {up1:Value} (rp1:RV gI.m wI x1 up1) {r:It (BoxPick × BoxStep)} (h:f139 x0 x1=some r):Fn Try.prog 139 #[up0,up1] gI wI (fun m w v=>ItV Try.prog (RA2 (α:=BoxPick) (β:=BoxStep)) (r) v m w):=by
 unfold f139 at h
 refine fn_of_E Try.func139 rfl (Nat.le_of_ble_eq_true rfl) fun g0 hm hfr=>?_
 have hone500200:=PT.one rp0
 have rp0:PT g0.m wI x0 up0:=hm ▸ rp0
 have rp1:RV g0.m wI x1 up1:=hm ▸ rp1
 show E _ 6 none _ _ _ _ _
 refine Zf (Za (Ze .plain rfl (D_box (g:=g0) (a:=(⟨up0,hone500200⟩:Fv)) rfl (RV_fv.2 rfl) fun g1 w1 p1 hs q1=>?_)))
 have hfr:=hfr.ext hs
 have rp0:=rp0.ext hs
 have rp1:=rp1.ext hs
 refine Ze .plain rfl (D_box (g:=g1) rfl rp1 fun g2 w2 p2 hs q2=>?_)
 have hfr:=hfr.ext hs
 have rp0:=rp0.ext hs
 have q1:=q1.ext hs
 refine Zg (.nilFunc) rfl rfl ?_
 refine Zb (Zd (Zf (Za (EL_p ((.func (.func 215) #[] #[p1,p2])) (P_makeFunc (capf_0_2 (show ev _ _=p1 from rfl) (show ev _ _=p2 from rfl))) rfl ?_))))
 refine Zg ((.func (.func 215) #[] #[p1,p2])) rfl rfl ?_
 refine Zb (Zd (E_ret ?_))
 obtain rfl:=sinj h
 exact end1 rfl rfl (show _=(.func (.func 215) #[] #[p1,p2]) from rfl) ⟨_,hfr,(show ItV Try.prog (RA2 (α:=BoxPick) (β:=BoxStep)) (fun σ cons s=>f215 ((⟨x0⟩:Ptr BoxMill)) x1 σ cons s) ((.func (.func 215) #[] #[p1,p2])) g2.m w2 from ⟨215,#[],#[p1,p2],rfl,en215,fun g' w' hch σ cons s s' h=>wk215  ((PT.ptrOf q1 rp0).ch hch) (q2.ch hch) h⟩)⟩
def f153 (x0:BeamPair):Option (Bool):=
 (f154 (([(x0).Driver,(x0).Driven]:List Int))).bind fun y8=>
 some ((!y8))
theorem en153:Enters Try.prog 153:=enters_of Try.func153 (by kernel_rfl) rfl
theorem wk153 {gI:Gh} {wI:World} {x0:BeamPair} {up0:Value} (rp0:RV gI.m wI x0 up0) {r:Bool} (h:f153 x0=some r):Fn Try.prog 153 #[up0] gI wI (fun _ _ v=>v=.bool (r)):=by
 unfold f153 at h
 refine fn_of_E Try.func153 rfl (Nat.le_of_ble_eq_true rfl) fun g0 hm hfr=>?_
 have rp0:RV g0.m wI x0 up0:=hm ▸ rp0
 show E _ 10 none _ _ _ _ _
 refine Zf (Za (Ze .plain rfl (D_box (g:=g0) rfl rp0 fun g1 w1 p1 hs q1=>?_)))
 have hfr:=hfr.ext hs
 refine Zg (.bool false) rfl rfl ?_
 refine Zb (Zd (Zf (Za (EL_p (fPtr p1 0) (Zc at_175_0 rfl (PT.ptr q1)) rfl ?_))))
 have q2:=Zm (part_BeamPair_0).1 q1
 refine Ze .plain rfl (D_load (g:=g1) Try.isAgg3 Try.sizeOf3 rfl q2 fun v3 r3=>?_)
 obtain rfl:=Zj.1 r3
 refine EL_p (fPtr p1 1) (Zc at_175_1 rfl (PT.ptr q1)) rfl ?_
 have q4:=Zm (part_BeamPair_1).1 q1
 refine Ze .plain rfl (D_load (g:=g1) Try.isAgg3 Try.sizeOf3 rfl q4 fun v5 r5=>?_)
 obtain rfl:=Zj.1 r5
 refine Ze .plain rfl (D_buildSlice (g:=g1) 3007 (xs:=([(x0).Driver,(x0).Driven]:List Int)) (vs:=[.int .i64 ((x0).Driver),.int .i64 ((x0).Driven)]) Try.underlying26 Try.sizeOf3 Try.zeroValue3 rfl rfl (.cons rfl (.cons rfl .nil)) (RVs.cons (Zj.2 rfl) (RVs.cons (Zj.2 rfl) RVs.nil)) rfl rfl fun g6 w6 v6 hs o6 r6 hxt hfl=>?_)
 have hfr:=hfr.stp hs
 obtain ⟨y8,o0,h⟩:=bsome h
 refine Ze .plain rfl (Zp (g:=g6) (vs:=[v6]) en154 (.cons rfl .nil) (wk154 r6 o0) fun g7 w7_ v7 hs hr=>?_)
 have hfr:=hfr.ext hs
 subst hr
 refine EL_p (.bool (!y8)) (P_not rfl) rfl ?_
 refine Zg (.bool (!y8)) rfl rfl ?_
 refine Zb (Zd (E_ret ?_))
 obtain rfl:=sinj h
 exact end1 rfl rfl (show _=.bool (!y8) from rfl) ⟨_,hfr,rfl⟩
def f62 (x0:BoxLoom):Option (BoxBoxLoom × Int):=
 jn (σ:=BoxBoxLoom) (fun o0=>
  Option.bind (α:=(List ((Vector Int 2) × Bool))) (
   lp (σ:=(List ((Vector Int 2) × Bool)) × Int) (fun lE (z9,u3)=>
    bif (decide (u3 < (((x0).Shuttles).length : Int))) then
     Option.bind (α:=(List ((Vector Int 2) × Bool))) (
      (idx ((x0).Shuttles) u3).bind fun m7=>
      some ((mset z9 ((⟨List.toArray [(m7).Side,(m7).Box],rfl⟩:Vector Int 2)) true))
      ) fun k9=>
     lE (k9,(w64 (u3 + (1:Int))))
    else
     some (z9)
    ) big (([]:List ((Vector Int 2) × Bool)),(0:Int))
   ) fun l9=>
  jn (σ:=BoxBoxLoom) (fun mE=>
   some ((⟨x0⟩:BoxBoxLoom),(0:Int))
   ) fun oE=>
  bif (decide (((l9).length : Int) < (((x0).Shuttles).length : Int))) then
   some ((⟨x0⟩:BoxBoxLoom),(6:Int))
  else
   oE (o0)
  ) fun k54=>
 Option.bind (α:=Bool) (
  bif ((((x0).Boxes).length : Int) != (2 : Int)) then
   some (((((x0).Boxes).length:Int) != (2:Int)))
  else
   some (((((x0).At).length:Int) != (2:Int)))
  ) fun l8=>
 bif l8 then
  some ((⟨x0⟩:BoxBoxLoom),(4:Int))
 else
  (f136 ((⟨x0⟩:BoxBoxLoom))).bind fun sD=>
  bif (!sD) then
   some ((⟨x0⟩:BoxBoxLoom),(3:Int))
  else
   bif (decide ((((x0).Shuttles).length : Int) > (6 : Int))) then
    some ((⟨x0⟩:BoxBoxLoom),(5:Int))
   else
    Option.bind (α:=Bool) (
     bif ((((x0).Shuttles).length : Int) == (0 : Int)) then
      some (((((x0).Shuttles).length:Int) == (0:Int)))
     else
      (f137 ((x0).Shuttles) ((fun a0=>f134 a0 ((⟨x0⟩:BoxBoxLoom))))).bind fun rE=>
      some (rE)
     ) fun m8=>
    bif m8 then
     some ((⟨x0⟩:BoxBoxLoom),(2:Int))
    else
     k54 ((⟨⟨[],[],[]⟩⟩:BoxBoxLoom))
theorem en62:Enters Try.prog 62:=enters_of Try.func62 (by kernel_rfl) rfl
theorem wk62 {gI:Gh} {wI:World} {x0:BoxLoom} {up0:Value} (rp0:RV gI.m wI x0 up0) {r:BoxBoxLoom × Int} (h:f62 x0=some r):Fn Try.prog 62 #[up0] gI wI (fun m w v=>∃ y0 y1,v=.tuple #[y0,y1]∧RV m w (r.1) y0∧y1=.int .i64 (r.2)):=by
 unfold f62 at h
 refine fn_of_E Try.func62 rfl (Nat.le_of_ble_eq_true rfl) fun g0 hm hfr=>?_
 have rp0:RV g0.m wI x0 up0:=hm ▸ rp0
 show E _ 66 none _ _ _ _ _
 refine Zf (Za (Ze .plain rfl (D_box (g:=g0) rfl rp0 fun g1 w1 p1 hs q1=>?_)))
 have hfr:=hfr.ext hs
 refine Ze .plain rfl (D_allocOc (g:=g1) 2002 (⟨⟨[],[],[]⟩⟩:BoxBoxLoom) Try.zeroValue142 (fun m w=>⟨_,(rep_two rep_nil (rep_two rep_nil rep_nil)),rfl⟩) fun g2 w2 p2 hs b2 cb=>?_)
 have hfr:=hfr.stp hs
 have q1:=q1.stp hs
 have n8:OSF 2002 60200 0 g2 w2 3 142 ([]:List Int) p2:=cb.osf (by rfl)
 have r8:OSF 2002 60201 1 g2 w2 3 142 ([]:List Int) p2:=cb.osf (by rfl)
 have v8:OSF 2002 60202 2 g2 w2 37 142 ([]:List BoxShuttle) p2:=cb.osf (by rfl)
 clear cb
 refine Zg (.int .i64 (0)) rfl rfl ?_
 refine Zb (Zd (Zf (Za (Ze .plain rfl (D_load (g:=g2) Try.isAgg40 Try.sizeOf40 rfl q1 fun v3 r3=>?_)))))
 have r4:RV g2.m _ (⟨x0⟩:BoxBoxLoom) (.agg (setCh [[.slice none 0 0,.slice none 0 0,.slice none 0 0]] [(0,v3)]).flatten.toArray):=RV_build rfl (rep_last (RV.cells r3))
 generalize lI:(Value.agg (setCh [[.slice none 0 0,.slice none 0 0,.slice none 0 0]] [(0,v3)]).flatten.toArray)=v4 at r4
 refine EL_p v4 (lI ▸ P_build (vs:=[(0,v3)]) [[.slice none 0 0,.slice none 0 0,.slice none 0 0]] lay_142 rfl rfl (.cons rfl .nil) ⟨⟨_,rfl,cells_size r3⟩,trivial⟩) rfl ?_
 refine Ze .plain rfl (D_allocOc (g:=g2) 2004 (⟨⟨[],[],[]⟩⟩:BoxBoxLoom) Try.zeroValue142 (fun m w=>⟨_,(rep_two rep_nil (rep_two rep_nil rep_nil)),rfl⟩) fun g5 w5 p5 hs b5 cb=>?_)
 have hfr:=hfr.stp hs
 have q1:=q1.stp hs
 have n8:=n8.stp hs rfl
 have r8:=r8.stp hs rfl
 have v8:=v8.stp hs rfl
 have b2:=b2.stp hs rfl
 have r4:=r4.stp hs
 have yJ:OSF 2004 60400 0 g5 w5 3 142 ([]:List Int) p5:=cb.osf (by rfl)
 have zJ:OSF 2004 60401 1 g5 w5 3 142 ([]:List Int) p5:=cb.osf (by rfl)
 have aK:OSF 2004 60402 2 g5 w5 37 142 ([]:List BoxShuttle) p5:=cb.osf (by rfl)
 clear cb
 refine Ze .plain rfl (D_storeOc (g:=g5) (v:=v4) Try.sizeOf142 rfl b5 rfl r4 fun g6 w6 hs b6 cb=>?_)
 clear cb
 have hfr:=hfr.stp hs
 have q1:=q1.stp hs
 have n8:=n8.stp hs rfl
 have r8:=r8.stp hs rfl
 have v8:=v8.stp hs rfl
 have b2:=b2.stp hs rfl
 obtain ⟨gp6,hs,qp6⟩:=OB.pub b6
 have hfr:=hfr.stp hs
 have q1:=q1.stp hs
 have n8:=n8.stp hs rfl
 have r8:=r8.stp hs rfl
 have v8:=v8.stp hs rfl
 have b2:=b2.stp hs rfl
 refine Zb (Zd (Zf (Za (EL_p ((.func (.func 134) #[] #[p5])) (P_makeFunc (capf_0_1 (show ev _ _=p5 from rfl))) rfl ?_))))
 refine Zg ((.func (.func 134) #[] #[p5])) rfl rfl ?_
 refine Zb (Zd (Zq h (fun (s:BoxBoxLoom) e w=>∃ (g:Gh) ,Fr gI wI g w∧e 1=p1∧PT g.m w (x0:BoxLoom) p1∧e 2=p2∧OB 2002 g w 142 (s:BoxBoxLoom) p2∧OSF 2002 60200 0 g w 3 142 (((s).BoxLoom).Boxes) p2∧OSF 2002 60201 1 g w 3 142 (((s).BoxLoom).At) p2∧OSF 2002 60202 2 g w 37 142 (((s).BoxLoom).Shuttles) p2∧e 4=p5∧PT g.m w ((⟨x0⟩:BoxBoxLoom):BoxBoxLoom) p5) (fun X54 k54 aH h=>?_) ?_))
 ·refine Zr ?_
  obtain ⟨l8,hx,h⟩:=bsome h
  refine E_join (fun e w=>∃ (g:Gh) ,Fr gI wI g w∧e 1=p1∧PT g.m w (x0:BoxLoom) p1∧e 2=p2∧OB 2002 g w 142 ((⟨⟨[],[],[]⟩⟩:BoxBoxLoom):BoxBoxLoom) p2∧OSF 2002 60200 0 g w 3 142 ((((⟨⟨[],[],[]⟩⟩:BoxBoxLoom)).BoxLoom).Boxes) p2∧OSF 2002 60201 1 g w 3 142 ((((⟨⟨[],[],[]⟩⟩:BoxBoxLoom)).BoxLoom).At) p2∧OSF 2002 60202 2 g w 37 142 ((((⟨⟨[],[],[]⟩⟩:BoxBoxLoom)).BoxLoom).Shuttles) p2∧e 4=p5∧PT g.m w ((⟨x0⟩:BoxBoxLoom):BoxBoxLoom) p5∧e 5=(.func (.func 134) #[] #[p5])∧e 12=.bool (l8)) (fun Q' hQ=>?_) (fun bK iL hR=>?_)
  ·replace h := hx
   clear hx
   refine Zf (Za (EL_p (fPtr p1 0) (Zc at_40_0 rfl (PT.ptr q1)) rfl ?_))
   have mI:=Zm (part_BoxLoom_0).1 q1
   refine Ze .plain rfl (D_load (g:=gp6) Try.isAgg26 Try.sizeOf26 rfl mI fun jL nI=>?_)
   refine EL_p (.int .i64 (((x0).Boxes).length:Int)) (P_len Try.underlying26 rfl nI) rfl ?_
   refine EL_in (.bool (((((x0).Boxes).length:Int) != (2:Int)))) rfl rfl rfl rfl ?_
   refine Zg (.bool (((((x0).Boxes).length:Int) != (2:Int)))) rfl rfl ?_
   refine Zb (Zd ?_)
   rcases Zt h with ⟨cD,h⟩ | ⟨cD,h⟩
   ·refine E_ct cD rfl ?_
    refine Zu ?_
    obtain rfl:=sinj h
    exact hQ _ _ ⟨gp6,hfr,rfl,q1,rfl,b2,n8,r8,v8,rfl,qp6,rfl,rfl⟩
   ·refine E_cf cD rfl ?_
    refine Za (EL_p (fPtr p1 1) (Zc at_40_1 rfl (PT.ptr q1)) rfl ?_)
    have pI:=Zm (part_BoxLoom_1).1 q1
    refine Ze .plain rfl (D_load (g:=gp6) Try.isAgg26 Try.sizeOf26 rfl pI fun lL qI=>?_)
    refine EL_p (.int .i64 (((x0).At).length:Int)) (P_len Try.underlying26 rfl qI) rfl ?_
    refine EL_in (.bool (((((x0).At).length:Int) != (2:Int)))) rfl rfl rfl rfl ?_
    refine Zg (.bool (((((x0).At).length:Int) != (2:Int)))) rfl rfl ?_
    refine Zb ?_
    obtain rfl:=sinj h
    exact hQ _ _ ⟨gp6,hfr,rfl,q1,rfl,b2,n8,r8,v8,rfl,qp6,rfl,rfl⟩
  ·clear hx
   obtain ⟨tD,hfr,n9,t5,g8,i7,u2_0_66,u2_1_66,u2_2_66,a9,x5,iG,vB⟩:=hR
   rcases Zt h with ⟨eD,h⟩ | ⟨eD,h⟩
   ·refine E_cond_true (Eq.trans (show ev _ _ = .bool (l8) from vB) (congrArg Value.bool eD)) ?_
    refine Zf (Za (Ze .plain rfl (D_load (g:=tD) Try.isAgg142 Try.sizeOf142 a9 x5 fun sI tI=>?_)))
    refine Ze .plain rfl (D_storeOc (g:=tD) (v:=sI) Try.sizeOf142 g8 i7 rfl tI fun mL nL hs b69 cb=>?_)
    clear cb
    have hfr:=hfr.stp hs
    refine Zg (.int .i64 (4)) rfl rfl ?_
    refine Zb (Zd (E_ret (blk_r ?_)))
    refine thn_r ?_
    obtain rfl:=sinj h
    obtain ⟨ad70,cv70,hp70,cH,cr70⟩:=ob_read Try.isAgg142 Try.sizeOf142 b69
    exact endm_ct rfl rfl ((show _=p2 from g8).trans hp70) cH (show _=.int .i64 (4) from rfl) ⟨_,hfr,_,_,rfl,cr70,rfl⟩
   ·refine E_cond_false (Eq.trans (show ev _ _ = .bool (l8) from vB) (congrArg Value.bool eD)) ?_
    refine Zf (Za (Ze .plain rfl (D_load (g:=tD) Try.isAgg142 Try.sizeOf142 a9 x5 fun uI vI=>?_)))
    obtain ⟨sD,dH,h⟩:=bsome h
    refine Ze .plain rfl (Zp (g:=tD) (vs:=[uI]) en136 (.cons rfl .nil) (wk136 vI dH) fun u9 cK oL hs hr=>?_)
    have hfr:=hfr.ext hs
    have t5:=t5.ext hs
    have u2_0_66:=u2_0_66.ext hs
    have u2_1_66:=u2_1_66.ext hs
    have u2_2_66:=u2_2_66.ext hs
    have i7:=i7.ext hs
    have x5:=x5.ext hs
    subst hr
    refine EL_p (.bool (!sD)) (P_not rfl) rfl ?_
    refine Zg (.bool (!sD)) rfl rfl ?_
    refine Zb (Zd ?_)
    rcases Zt h with ⟨gD,h⟩ | ⟨gD,h⟩
    ·refine E_ct gD rfl ?_
     refine Zf (Za (Ze .plain rfl (D_load (g:=u9) Try.isAgg142 Try.sizeOf142 a9 x5 fun yI zI=>?_)))
     refine Ze .plain rfl (D_storeOc (g:=u9) (v:=yI) Try.sizeOf142 g8 i7 rfl zI fun pL qL hs b76 cb=>?_)
     clear cb
     have hfr:=hfr.stp hs
     refine Zg (.int .i64 (3)) rfl rfl ?_
     refine Zb (Zd (E_ret (blk_r ?_)))
     refine thn_r ?_
     obtain rfl:=sinj h
     obtain ⟨ad77,cv77,hp77,gH,cr77⟩:=ob_read Try.isAgg142 Try.sizeOf142 b76
     exact endm_ct rfl rfl ((show _=p2 from g8).trans hp77) gH (show _=.int .i64 (3) from rfl) ⟨_,hfr,_,_,rfl,cr77,rfl⟩
    ·refine E_cf gD rfl ?_
     refine Zf (Za (EL_p (fPtr p1 2) (Zc at_40_2 n9 (PT.ptr t5)) rfl ?_))
     have eJ:=Zm (part_BoxLoom_2).1 t5
     refine Ze .plain rfl (D_load (g:=u9) Try.isAgg38 Try.sizeOf38 rfl eJ fun rL gJ=>?_)
     refine EL_p (.int .i64 (((x0).Shuttles).length:Int)) (P_len Try.underlying38 rfl gJ) rfl ?_
     refine EL_p (.bool ((decide ((((x0).Shuttles).length:Int) > (6:Int))))) (P_int rfl rfl rfl) rfl ?_
     refine EL_p (.bool ((decide ((((x0).Shuttles).length:Int) > (6:Int))))) (P_assign rfl) rfl ?_
     refine Zb (Zd ?_)
     rcases Zt h with ⟨iD,h⟩ | ⟨iD,h⟩
     ·refine E_ct iD rfl ?_
      refine Zf (Za (Ze .plain rfl (D_load (g:=u9) Try.isAgg142 Try.sizeOf142 a9 x5 fun iJ jJ=>?_)))
      refine Ze .plain rfl (D_storeOc (g:=u9) (v:=iJ) Try.sizeOf142 g8 i7 rfl jJ fun tL uL hs b82 cb=>?_)
      clear cb
      have hfr:=hfr.stp hs
      refine Zg (.int .i64 (5)) rfl rfl ?_
      refine Zb (Zd (E_ret (blk_r ?_)))
      refine thn_r ?_
      obtain rfl:=sinj h
      obtain ⟨ad83,cv83,hp83,iH,cr83⟩:=ob_read Try.isAgg142 Try.sizeOf142 b82
      exact endm_ct rfl rfl ((show _=p2 from g8).trans hp83) iH (show _=.int .i64 (5) from rfl) ⟨_,hfr,_,_,rfl,cr83,rfl⟩
     ·refine E_cf iD rfl ?_
      obtain ⟨m8,hx,h⟩:=bsome h
      refine E_join (fun e w=>∃ (g:Gh) ,Fr gI wI g w∧e 1=p1∧PT g.m w (x0:BoxLoom) p1∧e 2=p2∧OB 2002 g w 142 ((⟨⟨[],[],[]⟩⟩:BoxBoxLoom):BoxBoxLoom) p2∧OSF 2002 60200 0 g w 3 142 ((((⟨⟨[],[],[]⟩⟩:BoxBoxLoom)).BoxLoom).Boxes) p2∧OSF 2002 60201 1 g w 3 142 ((((⟨⟨[],[],[]⟩⟩:BoxBoxLoom)).BoxLoom).At) p2∧OSF 2002 60202 2 g w 37 142 ((((⟨⟨[],[],[]⟩⟩:BoxBoxLoom)).BoxLoom).Shuttles) p2∧e 4=p5∧PT g.m w ((⟨x0⟩:BoxBoxLoom):BoxBoxLoom) p5∧e 33=.bool (m8)) (fun Q' hQ=>?_) (fun dK vL hR=>?_)
      ·replace h := hx
       clear hx
       refine Zf (Za (EL_p (fPtr p1 2) (Zc at_40_2 n9 (PT.ptr t5)) rfl ?_))
       have kJ:=Zm (part_BoxLoom_2).1 t5
       refine Ze .plain rfl (D_load (g:=u9) Try.isAgg38 Try.sizeOf38 rfl kJ fun xL lJ=>?_)
       refine EL_p (.int .i64 (((x0).Shuttles).length:Int)) (P_len Try.underlying38 rfl lJ) rfl ?_
       refine EL_in (.bool (((((x0).Shuttles).length:Int) == (0:Int)))) rfl rfl rfl rfl ?_
       refine Zg (.bool (((((x0).Shuttles).length:Int) == (0:Int)))) rfl rfl ?_
       refine Zb (Zd ?_)
       rcases Zt h with ⟨jD,h⟩ | ⟨jD,h⟩
       ·refine E_ct jD rfl ?_
        refine Zu ?_
        obtain rfl:=sinj h
        exact hQ _ _ ⟨u9,hfr,n9,t5,g8,i7,u2_0_66,u2_1_66,u2_2_66,a9,x5,rfl⟩
       ·refine E_cf jD rfl ?_
        refine Za (EL_p (fPtr p1 2) (Zc at_40_2 n9 (PT.ptr t5)) rfl ?_)
        have mJ:=Zm (part_BoxLoom_2).1 t5
        refine Ze .plain rfl (D_load (g:=u9) Try.isAgg38 Try.sizeOf38 rfl mJ fun nJ oJ=>?_)
        refine Zo iG rfl ?_
        obtain ⟨rE,jH,h⟩:=bsome h
        refine Ze .plain rfl (Zp (g:=u9) (vs:=[nJ,(.func (.func 134) #[] #[p5])]) en137 (.cons rfl (.cons rfl .nil)) (wk137 oJ ⟨134,#[],#[p5],rfl,en134,fun g' w' hch a0 b0 r hu0 hr=>by exact Fn.mono (wk134 hu0 (x5.ch hch) hr) fun _ _ _ h=>RV_bool.2 h⟩ jH) fun pJ lK yL hs hr=>?_)
        have hfr:=hfr.ext hs
        have t5:=t5.ext hs
        have u2_0_66:=u2_0_66.ext hs
        have u2_1_66:=u2_1_66.ext hs
        have u2_2_66:=u2_2_66.ext hs
        have i7:=i7.ext hs
        have x5:=x5.ext hs
        subst hr
        refine Zg (.bool (rE)) rfl rfl ?_
        refine Zb ?_
        obtain rfl:=sinj h
        exact hQ _ _ ⟨pJ,hfr,n9,t5,g8,i7,u2_0_66,u2_1_66,u2_2_66,a9,x5,rfl⟩
      ·clear hx
       obtain ⟨uE,hfr,jG,kG,mB,uD,u2_0_98,u2_1_98,u2_2_98,vD,xD,yB⟩:=hR
       rcases Zt h with ⟨lD,h⟩ | ⟨lD,h⟩
       ·refine E_cond_true (Eq.trans (show ev _ _ = .bool (m8) from yB) (congrArg Value.bool lD)) ?_
        refine Zf (Za (Ze .plain rfl (D_load (g:=uE) Try.isAgg142 Try.sizeOf142 vD xD fun kH lH=>?_)))
        refine Ze .plain rfl (D_storeOc (g:=uE) (v:=kH) Try.sizeOf142 mB uD rfl lH fun mK nK hs b101 cb=>?_)
        clear cb
        have hfr:=hfr.stp hs
        refine Zg (.int .i64 (2)) rfl rfl ?_
        refine Zb (Zd (E_ret (blk_r ?_)))
        refine thn_r ?_
        obtain rfl:=sinj h
        obtain ⟨ad102,cv102,hp102,lG,cr102⟩:=ob_read Try.isAgg142 Try.sizeOf142 b101
        exact endm_ct rfl rfl ((show _=p2 from mB).trans hp102) lG (show _=.int .i64 (2) from rfl) ⟨_,hfr,_,_,rfl,cr102,rfl⟩
       ·refine E_cond_false (Eq.trans (show ev _ _ = .bool (m8) from yB) (congrArg Value.bool lD)) ?_
        exact Zu (blk_n (Zd (aH ((⟨⟨[],[],[]⟩⟩:BoxBoxLoom)) _ _ ⟨uE,hfr,jG,kG,mB,uD,u2_0_98,u2_1_98,u2_2_98,vD,xD⟩ h)))
 ·rintro o0 qJ oK ⟨mH, hfr, zB, x8, vE, bA, u2_0_103, u2_1_103, u2_2_103, xE, iA⟩ h
  refine Zf (Za (Ze .plain rfl (D_makeMap (g:=mH) (encK pl_75) Bool 8043 fun yE pK d9 hs m104=>?_)))
  have hfr:=hfr.stp hs
  have x8:=x8.stp hs
  have u2_0_103:=u2_0_103.stp hs rfl
  have u2_1_103:=u2_1_103.stp hs rfl
  have u2_2_103:=u2_2_103.stp hs rfl
  have bA:=bA.stp hs rfl
  have iA:=iA.stp hs
  refine Zg d9 rfl rfl ?_
  refine Zb (Zd ?_)
  obtain ⟨l9,hx,h⟩:=bsome h
  refine E_join (fun e w=>∃ (g:Gh) ,Fr gI wI g w∧e 1=p1∧PT g.m w (x0:BoxLoom) p1∧e 2=p2∧OB 2002 g w 142 (o0:BoxBoxLoom) p2∧OSF 2002 60200 0 g w 3 142 (((o0).BoxLoom).Boxes) p2∧OSF 2002 60201 1 g w 3 142 (((o0).BoxLoom).At) p2∧OSF 2002 60202 2 g w 37 142 (((o0).BoxLoom).Shuttles) p2∧e 4=p5∧PT g.m w ((⟨x0⟩:BoxBoxLoom):BoxBoxLoom) p5∧e 6=d9∧MP (encK pl_75) 8043 g w (l9:List ((Vector Int 2) × Bool)) d9) (fun Q' hQ=>?_) (fun rJ qK hR=>?_)
  ·replace h := hx
   clear hx
   refine Zf (Za (EL_p (fPtr p1 2) (Zc at_40_2 zB (PT.ptr x8)) rfl ?_))
   have nH:=Zm (part_BoxLoom_2).1 x8
   refine Ze .plain rfl (D_load (g:=yE) Try.isAgg38 Try.sizeOf38 rfl nH fun rA zE=>?_)
   refine EL_p (.int .i64 (((x0).Shuttles).length:Int)) (P_len Try.underlying38 rfl zE) rfl ?_
   refine Zn (.int .i64 (0)) rfl rfl ?_
   refine Zb (Zd (Zr ?_))
   refine E_lp h (fun (s:(List ((Vector Int 2) × Bool)) × Int) e w=>∃ (g:Gh) ,Fr gI wI g w∧e 1=p1∧PT g.m w (x0:BoxLoom) p1∧e 2=p2∧OB 2002 g w 142 (o0:BoxBoxLoom) p2∧OSF 2002 60200 0 g w 3 142 (((o0).BoxLoom).Boxes) p2∧OSF 2002 60201 1 g w 3 142 (((o0).BoxLoom).At) p2∧OSF 2002 60202 2 g w 37 142 (((o0).BoxLoom).Shuttles) p2∧e 4=p5∧PT g.m w ((⟨x0⟩:BoxBoxLoom):BoxBoxLoom) p5∧e 6=d9∧MP (encK pl_75) 8043 g w (s.1:List ((Vector Int 2) × Bool)) d9∧e 45=rA∧RV g.m w ((x0).Shuttles:List BoxShuttle) rA∧e 46=.int .i64 ((((x0).Shuttles).length:Int))∧e 47=.int .i64 (s.2)) ⟨yE,hfr,zB,x8,vE,bA,u2_0_103,u2_1_103,u2_2_103,xE,iA,rfl,m104,rfl,zE,rfl,rfl⟩ (fun X135 lE mG=>?_)
   rintro ⟨z9,u3⟩ sJ sK ⟨nD,hfr,cC,i6,mC,x6,u2_0_136,u2_1_136,u2_2_136,qC,y6,yA,k8,iB,l5,lB,y9⟩ h
   refine Zf (Za (EL_p (.bool ((decide (u3 < (((x0).Shuttles).length:Int))))) (P_int y9 lB rfl) rfl ?_))
   refine Zb (Zd (Zf ?_))
   rcases Zt h with ⟨nB,h⟩ | ⟨nB,h⟩
   ·refine E_ct nB rfl ?_
    refine Zu (Zd ?_)
    obtain ⟨k9,hx,h⟩:=bsome h
    refine E_join (fun e w=>∃ (g:Gh) ,Fr gI wI g w∧e 1=p1∧PT g.m w (x0:BoxLoom) p1∧e 2=p2∧OB 2002 g w 142 (o0:BoxBoxLoom) p2∧OSF 2002 60200 0 g w 3 142 (((o0).BoxLoom).Boxes) p2∧OSF 2002 60201 1 g w 3 142 (((o0).BoxLoom).At) p2∧OSF 2002 60202 2 g w 37 142 (((o0).BoxLoom).Shuttles) p2∧e 4=p5∧PT g.m w ((⟨x0⟩:BoxBoxLoom):BoxBoxLoom) p5∧e 6=d9∧MP (encK pl_75) 8043 g w (k9:List ((Vector Int 2) × Bool)) d9∧e 45=rA∧RV g.m w ((x0).Shuttles:List BoxShuttle) rA∧e 46=.int .i64 ((((x0).Shuttles).length:Int))∧e 47=.int .i64 (u3)) (fun Q' hQ=>?_) (fun vJ tK hR=>?_)
    ·replace h := hx
     clear hx
     refine Zr ?_
     refine Zf (Za ?_)
     obtain ⟨m7,yD,h⟩:=bsome h
     refine EL_p (ePtr rA u3 5) (Zh (α:=BoxShuttle) Try.underlying38 Try.sizeOf37 iB l5 y9 yD) rfl ?_
     have oH:=PT_idx l5 yD
     refine Ze .plain rfl (D_load (g:=nD) Try.isAgg37 Try.sizeOf37 rfl oH fun pH oD=>?_)
     refine Ze .plain rfl (D_allocOc (g:=nD) 2008 (⟨0,0,0,⟨0,0⟩⟩:BoxShuttle) Try.zeroValue37 (fun m w=>⟨_,(rep_two rep_int (rep_two rep_int (rep_two rep_int (rep_two rep_int rep_int)))),rfl⟩) fun qH uK cF hs b152 cb=>?_)
     have hfr:=hfr.stp hs
     have i6:=i6.stp hs
     have u2_0_136:=u2_0_136.stp hs rfl
     have u2_1_136:=u2_1_136.stp hs rfl
     have u2_2_136:=u2_2_136.stp hs rfl
     have x6:=x6.stp hs rfl
     have y6:=y6.stp hs
     have k8:=k8.stp hs rfl
     have l5:=l5.stp hs
     have oD:=oD.stp hs
     clear cb
     refine Ze .plain rfl (D_storeOc (g:=qH) (v:=pH) Try.sizeOf37 rfl b152 rfl oD fun oB sH hs b153 cb=>?_)
     clear cb
     have hfr:=hfr.stp hs
     have i6:=i6.stp hs
     have u2_0_136:=u2_0_136.stp hs rfl
     have u2_1_136:=u2_1_136.stp hs rfl
     have u2_2_136:=u2_2_136.stp hs rfl
     have x6:=x6.stp hs rfl
     have y6:=y6.stp hs
     have k8:=k8.stp hs rfl
     have l5:=l5.stp hs
     refine Zb (Zd (Za (Zo yA rfl ?_)))
     refine EL_p (fPtr cF 1) (Zc at_37_1 rfl (OB.ptr b153)) rfl ?_
     refine Ze .plain rfl (D_loadF (g:=oB) part_BoxShuttle_1.1 Try.isAgg3 Try.sizeOf3 rfl b153 fun vK tH=>?_)
     obtain rfl:=Zj.1 tH
     refine EL_p (fPtr cF 2) (Zc at_37_2 rfl (OB.ptr b153)) rfl ?_
     refine Ze .plain rfl (D_loadF (g:=oB) part_BoxShuttle_2.1 Try.isAgg3 Try.sizeOf3 rfl b153 fun xK uH=>?_)
     obtain rfl:=Zj.1 uH
     have dF:RV oB.m sH (⟨List.toArray [(m7).Side,(m7).Box],rfl⟩:Vector Int 2) (.agg (setCh [[.int .i64 0],[.int .i64 0]] [(0,.int .i64 ((m7).Side)),(1,.int .i64 ((m7).Box))]).flatten.toArray):=RV_build rfl (rep_vec (flat_chunk rfl (flat_chunk rfl flat_nil)) rfl)
     generalize sG:(Value.agg (setCh [[.int .i64 0],[.int .i64 0]] [(0,.int .i64 ((m7).Side)),(1,.int .i64 ((m7).Box))]).flatten.toArray)=xH at dF
     refine EL_p xH (sG ▸ P_buildA (vs:=[(0,.int .i64 ((m7).Side)),(1,.int .i64 ((m7).Box))]) [[.int .i64 0],[.int .i64 0]] Try.underlying75 layA_75 szA_3 rfl (by simp) (.cons rfl (.cons rfl .nil)) ⟨⟨_,rfl,rfl⟩,⟨⟨_,rfl,rfl⟩,trivial⟩⟩) rfl ?_
     refine Ze .plain rfl (D_mapUpdate (g:=oB) Try.underlying271 key_75 rfl k8 (rfl.trans (encK_of pl_75 dF)) rfl (RV_bool.2 rfl) fun yH yK hs m159=>?_)
     have hfr:=hfr.stp hs
     have i6:=i6.stp hs
     have u2_0_136:=u2_0_136.stp hs rfl
     have u2_1_136:=u2_1_136.stp hs rfl
     have u2_2_136:=u2_2_136.stp hs rfl
     have x6:=x6.stp hs rfl
     have y6:=y6.stp hs
     have l5:=l5.stp hs
     refine Zb (blk_n ?_)
     obtain rfl:=sinj h
     exact hQ _ _ ⟨yH,hfr,cC,i6,mC,x6,u2_0_136,u2_1_136,u2_2_136,qC,y6,yA,m159,iB,l5,lB,y9⟩
    ·clear hx
     obtain ⟨zH,hfr,eF,rF,sF,tF,u2_0_160,u2_1_160,u2_2_160,uF,vF,xF,yF,zD,aE,bE,iE⟩:=hR
     refine Za (EL_in (.int .i64 ((w64 (u3 + (1:Int))))) iE rfl rfl rfl ?_)
     refine Zn (.int .i64 ((w64 (u3 + (1:Int))))) rfl rfl ?_
     exact Zb (Zd (mG (k9,(w64 (u3 + (1:Int)))) _ _ ⟨zH,hfr,eF,rF,sF,tF,u2_0_160,u2_1_160,u2_2_160,uF,vF,xF,yF,zD,aE,bE,rfl⟩ h))
   ·refine E_cf nB rfl ?_
    refine E_exit ?_
    refine thn_e ?_
    refine thn_e ?_
    refine blk_hit ?_
    obtain rfl:=sinj h
    exact hQ _ _ ⟨nD,hfr,cC,i6,mC,x6,u2_0_136,u2_1_136,u2_2_136,qC,y6,yA,k8⟩
  ·clear hx
   obtain ⟨aB,hfr,zF,rC,dB,uC,u2_0_161,u2_1_161,u2_2_161,vC,aD,aG,bG⟩:=hR
   refine Zq h (fun (s:BoxBoxLoom) e w=>∃ (g:Gh) ,Fr gI wI g w∧e 2=p2∧OB 2002 g w 142 (s:BoxBoxLoom) p2∧OSF 2002 60200 0 g w 3 142 (((s).BoxLoom).Boxes) p2∧OSF 2002 60201 1 g w 3 142 (((s).BoxLoom).At) p2∧OSF 2002 60202 2 g w 37 142 (((s).BoxLoom).Shuttles) p2∧e 4=p5∧PT g.m w ((⟨x0⟩:BoxBoxLoom):BoxBoxLoom) p5) (fun X168 oE xG h=>?_) ?_
   ·refine Zf (Za (Zo aG rfl ?_))
    refine Ze .plain rfl (P_lenMap (g:=aB) Try.underlying271 rfl bG ?_)
    refine EL_p (fPtr p1 2) (Zc at_40_2 zF (PT.ptr rC)) rfl ?_
    have aI:=Zm (part_BoxLoom_2).1 rC
    refine Ze .plain rfl (D_load (g:=aB) Try.isAgg38 Try.sizeOf38 rfl aI fun zK bI=>?_)
    refine EL_p (.int .i64 (((x0).Shuttles).length:Int)) (P_len Try.underlying38 rfl bI) rfl ?_
    refine EL_p (.bool ((decide (((l9).length:Int) < (((x0).Shuttles).length:Int))))) (P_int rfl rfl rfl) rfl ?_
    refine Zb (Zd ?_)
    rcases Zt h with ⟨tB,h⟩ | ⟨tB,h⟩
    ·refine E_ct tB rfl ?_
     refine Zf (Za (Ze .plain rfl (D_load (g:=aB) Try.isAgg142 Try.sizeOf142 vC aD fun dI iI=>?_)))
     refine Ze .plain rfl (D_storeOc (g:=aB) (v:=dI) Try.sizeOf142 dB uC rfl iI fun aL bL hs b173 cb=>?_)
     clear cb
     have hfr:=hfr.stp hs
     refine Zg (.int .i64 (6)) rfl rfl ?_
     refine Zb (Zd (E_ret (thn_r ?_)))
     obtain rfl:=sinj h
     obtain ⟨ad174,cv174,hp174,yG,cr174⟩:=ob_read Try.isAgg142 Try.sizeOf142 b173
     exact endm_ct rfl rfl ((show _=p2 from dB).trans hp174) yG (show _=.int .i64 (6) from rfl) ⟨_,hfr,_,_,rfl,cr174,rfl⟩
    ·refine E_cf tB rfl ?_
     exact Zu (Zd (xG (o0) _ _ ⟨aB,hfr,dB,uC,u2_0_161,u2_1_161,u2_2_161,vC,aD⟩ h))
   ·rintro mE xJ dL ⟨cG, hfr, bD, eG, u2_0_175, u2_1_175, u2_2_175, gG, hG⟩ h
    refine Zf (Za (Ze .plain rfl (D_load (g:=cG) Try.isAgg142 Try.sizeOf142 gG hG fun jI kI=>?_)))
    refine Ze .plain rfl (D_storeOc (g:=cG) (v:=jI) Try.sizeOf142 bD eG rfl kI fun eL gL hs b177 cb=>?_)
    clear cb
    have hfr:=hfr.stp hs
    refine Zg (.int .i64 (0)) rfl rfl ?_
    refine Zb (Zd (E_ret ?_))
    obtain rfl:=sinj h
    obtain ⟨ad178,cv178,hp178,zG,cr178⟩:=ob_read Try.isAgg142 Try.sizeOf142 b177
    exact endm_ct rfl rfl ((show _=p2 from bD).trans hp178) zG (show _=.int .i64 (0) from rfl) ⟨_,hfr,_,_,rfl,cr178,rfl⟩
def f68 : Nat → (BoxMill) → (List (BoxPoint × Int)) → (List (List Int)) → (BoxPoint) → Option (Int × (List (BoxPoint × Int)))
 | 0,_,_,_,_=>none
 | n + 1,x0,m0,x1,x2=>
  jn (σ:=Unit) (fun _=>
   jn (σ:=Unit) (fun _=>
    Option.bind (α:=Int × (List (BoxPoint × Int))) (
     (f139 x0 ((x2).race)).bind fun bD=>
     (bD (Int × (List (BoxPoint × Int))) (fun (u9,l9) (uD,x8)=>
      (f140 x2 x1 x8).bind fun aB=>
      bif aB.2 then
       (f68 n x0 l9 x1 (aB.1)).bind fun dB=>
       some (true,((min64 u9 (w64 ((x8).moves + dB.1))),dB.2))
      else
       some (true,(u9,l9))
      ) ((1073741824:Int),m0)).bind fun (vC,yA)=>
     some (vC,yA)
     ) fun (a9,n9)=>
    some (a9,(mset n9 x2 a9))
    ) fun lG=>
   bif ((mget m0 x2).isSome) then
    some (((mget m0 x2).getD (0:Int)),m0)
   else
    lG ()
   ) fun k9=>
  bif ((x2).group == ((x1).length : Int)) then
   some ((0:Int),m0)
  else
   k9 ()
theorem en68:Enters Try.prog 68:=enters_of Try.func68 (by kernel_rfl) rfl
theorem wk68 (n:Nat):∀ {iI:Nat} {gI:Gh} {wI:World} {x0:BoxMill} {m0:List (BoxPoint × Int)} {x1:List (List Int)} {x2:BoxPoint} {up0:Value} (rp0:PT gI.m wI x0 up0) {kv500000:Value} (fc0:FC gI.m wI 2 kv500000 up0) (mp500000:MP (encK pl_157) iI gI wI m0 kv500000) {up1:Value} (rp1:RV gI.m wI x1 up1) {up2:Value} (rp2:RV gI.m wI x2 up2) {r:Int × (List (BoxPoint × Int))} (h:f68 n x0 m0 x1 x2=some r),FnM Try.prog 68 #[up0,up1,up2] iI gI wI (fun g w v=>v=.int .i64 (r.1)∧MP (encK pl_157) iI g w (r.2) kv500000):=by
 induction n with
 | zero=>intros; rename_i h; cases h
 | succ n ih=>
 intro iI gI wI x0 m0 x1 x2 up0 rp0 kv500000 fc0 mp500000 up1 rp1 up2 rp2 r h
 simp only [f68] at h
 refine fnDM_of_E Try.func68 rfl (Nat.le_of_ble_eq_true rfl) fun g0 hm hfr=>?_
 have hmk:MkF g0 wI []:=MkF.start
 have bA:=mp500000
 replace mp500000:=mp500000.enter
 rw [← hm] at mp500000
 replace hm:g0.m=gI.m:=by rw [hm]
 have hone500200:=PT.one rp0
 have fc0:FC g0.m wI 2 kv500000 up0:=hm ▸ fc0
 have rp0:PT g0.m wI x0 up0:=hm ▸ rp0
 have rp1:RV g0.m wI x1 up1:=hm ▸ rp1
 have rp2:RV g0.m wI x2 up2:=hm ▸ rp2
 show E _ 60 none _ _ _ _ _
 refine Zf (Za (Ze .plain rfl (D_box (g:=g0) (a:=(⟨up0,hone500200⟩:Fv)) rfl (RV_fv.2 rfl) fun g1 w1 p1 hs q1=>?_)))
 have hfr:=hfr.ext hs
 have hmk:=hmk.ext hs
 have rp0:=rp0.ext hs
 have mp500000:=mp500000.ext hs
 have fc0:=fc0.ext hs
 have rp1:=rp1.ext hs
 have rp2:=rp2.ext hs
 refine Ze .plain rfl (D_box (g:=g1) rfl rp1 fun g2 w2 p2 hs q2=>?_)
 have hfr:=hfr.ext hs
 have hmk:=hmk.ext hs
 have rp0:=rp0.ext hs
 have mp500000:=mp500000.ext hs
 have fc0:=fc0.ext hs
 have rp2:=rp2.ext hs
 have q1:=q1.ext hs
 refine Ze .plain rfl (D_box (g:=g2) rfl rp2 fun g3 w3 p3 hs q3=>?_)
 have hfr:=hfr.ext hs
 have hmk:=hmk.ext hs
 have rp0:=rp0.ext hs
 have mp500000:=mp500000.ext hs
 have fc0:=fc0.ext hs
 have q1:=q1.ext hs
 have q2:=q2.ext hs
 refine Zg (.int .i64 (0)) rfl rfl ?_
 refine Zb (Zd (E_joinCD h (fun (s:Unit) e ds w=>∃ (g:Gh) ,FrM iI gI wI g w∧MkF g w ds∧e 3=p1∧PT g.m w (⟨up0,hone500200⟩:Fv) p1∧e 4=p2∧PT g.m w (x1:List (List Int)) p2∧e 5=p3∧PT g.m w (x2:BoxPoint) p3∧MP (encK pl_157) 1 g w (m0:List (BoxPoint × Int)) kv500000∧FC g.m w 2 kv500000 up0∧PT g.m w (x0:BoxMill) up0) (fun X9 k9 tI h=>?_) ?_))
 ·refine Zf (Za (EL_p (fPtr p3 0) (Zc at_157_0 rfl (PT.ptr q3)) rfl ?_))
  have uI:=Zm (part_BoxPoint_0).1 q3
  refine Ze .plain rfl (D_load (g:=g3) Try.isAgg3 Try.sizeOf3 rfl uI fun dL vI=>?_)
  obtain rfl:=Zj.1 vI
  refine Ze .plain rfl (D_load (g:=g3) Try.isAgg146 Try.sizeOf146 rfl q2 fun eL yI=>?_)
  refine EL_p (.int .i64 ((x1).length:Int)) (P_len Try.underlying146 rfl yI) rfl ?_
  refine EL_in (.bool (((x2).group == ((x1).length:Int)))) rfl rfl rfl rfl ?_
  refine Zb (Zd ?_)
  rcases Zt h with ⟨cD,h⟩ | ⟨cD,h⟩
  ·refine E_ct cD rfl ?_
   refine Zf (Za (Zg (.int .i64 (0)) rfl rfl ?_))
   refine Zb (Zd (E_ret (thn_r ?_)))
   refine endM (.inr rfl) hmk fun gL iL hs=>?_
   have hfr:=hfr.stp hs
   have mp500000:=mp500000.stp hs rfl
   obtain rfl:=sinj h
   exact end1 rfl rfl (show _=.int .i64 (0) from rfl) ⟨_,hfr,rfl,bA.back mp500000⟩
  ·refine E_cf cD rfl ?_
   exact Zu (Zd (tI () _ _ _ ⟨g3,hfr,hmk,rfl,q1,rfl,q2,rfl,q3,mp500000,fc0,rp0⟩ h))
 ·rintro _ yJ pJ w15 ⟨vD, hfr, hmk, lD, lB, vF, cC, nD, mB, g8, n8, m8⟩ h
  refine E_joinCD h (fun (s:Unit) e ds w=>∃ (g:Gh) ,FrM iI gI wI g w∧MkF g w ds∧e 3=p1∧PT g.m w (⟨up0,hone500200⟩:Fv) p1∧e 4=p2∧PT g.m w (x1:List (List Int)) p2∧e 5=p3∧PT g.m w (x2:BoxPoint) p3∧MP (encK pl_157) 1 g w (m0:List (BoxPoint × Int)) kv500000∧FC g.m w 2 kv500000 up0∧PT g.m w (x0:BoxMill) up0) (fun X31 lG xG h=>?_) ?_
  ·refine Zf (Zs (α := Fv) (x := .tmp 3) Try.isAgg158 Try.sizeOf158 lB fun mG sG yG => ?_)
   have e39:mG=up0:=RV_fv.1 sG
   clear sG
   subst mG
   obtain ⟨pb40,po40,pe40⟩:=PT.ptr m8
   have zG:=L_loadFC (P:=Try.prog) (x:=.tmp 22) Try.isAgg272 Try.sizeOf272 (mp_one g8) n8
   refine Zs (x:=.tmp 5) Try.isAgg157 Try.sizeOf157 mB fun zI xD aH=>?_
   refine E_drawC (g:=vD) (w:=w15) (n:=10) [0,1,2,3,4,6,7,8,9] [] [0,1,2,3,4,5,6,7,8,9] rfl mixed (by kernel_rfl) fun w_c38 hs hlt=>?_
   have hfr:=hfr.ext hs
   have hmk:=hmk.ext hs
   have lB:=lB.ext hs
   have cC:=cC.ext hs
   have mB:=mB.ext hs
   have g8:=g8.ext hs
   have n8:=n8.ext hs
   have m8:=m8.ext hs
   clear hs
   refine CH_ldP (c:=up0) rfl rfl .plain yG lD ?_
   refine CH_pur (c:=up0) rfl rfl .plain (P_nilCk rfl pe40) ?_
   refine CH_pur (c:=fPtr up0 2) rfl rfl .plain (Zc at_274_2 rfl (PT.ptr m8)) ?_
   refine CH_ldP (c:=kv500000) rfl rfl .plain zG rfl ?_
   refine CH_ldP (c:=zI) rfl rfl .plain aH nD ?_
   have xD:=xD.ch hlt.1
   refine CH_do rfl rfl .plain (D_lookupOk (g:=vD) (z0:=(0:Int)) Try.underlying272 key_157 Try.zeroValue3 (fun m w=>⟨_,rep_int,rfl⟩) rfl g8 (rfl.trans (encK_of pl_157 xD)) fun jL eJ=>?_)
   obtain rfl:=Zj.1 eJ
   refine ⟨hlt.toW,?_⟩
   refine CH_pur (c:=.tuple #[.int .i64 (((mget m0 x2).getD (0:Int))),.bool ((mget m0 x2).isSome)]) rfl rfl .plain (Zk rfl) ?_
   refine CH_pur (c:=.int .i64 (((mget m0 x2).getD (0:Int)))) rfl rfl .plain (Zi rfl rfl) ?_
   refine CH_pur (c:=.bool ((mget m0 x2).isSome)) rfl rfl .plain (Zi rfl rfl) ?_
   refine CH_pur (c:=.int .i64 (((mget m0 x2).getD (0:Int)))) rfl rfl .plain (P_assign rfl) ?_
   refine CH_nil ?_
   clear hlt
   refine Zg (.bool ((mget m0 x2).isSome)) rfl rfl ?_
   refine Zb (Zd (Zf (Za (Zn (.bool ((mget m0 x2).isSome)) rfl rfl ?_))))
   refine Zb (Zd ?_)
   rcases Zt h with ⟨eD,h⟩ | ⟨eD,h⟩
   ·refine E_ct eD rfl ?_
    refine Zf (Za (Zn (.int .i64 (((mget m0 x2).getD (0:Int)))) rfl rfl ?_))
    refine Zg (.int .i64 (((mget m0 x2).getD (0:Int)))) rfl rfl ?_
    refine Zb (Zd (E_ret (thn_r ?_)))
    refine endM (.inr rfl) hmk fun lL mL hs=>?_
    have hfr:=hfr.stp hs
    have g8:=g8.stp hs rfl
    obtain rfl:=sinj h
    exact end1 rfl rfl (show _=.int .i64 (((mget m0 x2).getD (0:Int))) from rfl) ⟨_,hfr,rfl,bA.back g8⟩
   ·refine E_cf eD rfl ?_
    exact Zu (Zd (xG () _ _ _ ⟨vD,hfr,hmk,lD,lB,vF,cC,nD,mB,g8,n8,m8⟩ h))
  ·rintro _ zJ oD nL ⟨gJ, hfr, hmk, mC, d9, sD, iA, qC, v8, l8, k8, m7⟩ h
   refine Zf (Za (Ze .plain rfl (D_allocOc (g:=gJ) 2009 (0:Int) Try.zeroValue3 (fun m w=>⟨_,rep_int,rfl⟩) fun iJ oL yD hs b48 cb=>?_)))
   have hfr:=hfr.stp hs
   have hmk:=hmk.stp hs
   have d9:=d9.stp hs
   have iA:=iA.stp hs
   have v8:=v8.stp hs
   have l8:=l8.stp hs rfl
   have k8:=k8.stp hs
   have m7:=m7.stp hs
   clear cb
   refine Ze .plain rfl (D_storeOc (g:=iJ) (v:=.int .i64 (1073741824)) Try.sizeOf3 rfl b48 rfl (Zj.2 rfl) fun zD pL hs b49 cb=>?_)
   clear cb
   have hfr:=hfr.stp hs
   have hmk:=hmk.stp hs
   have d9:=d9.stp hs
   have iA:=iA.stp hs
   have v8:=v8.stp hs
   have l8:=l8.stp hs rfl
   have k8:=k8.stp hs
   have m7:=m7.stp hs
   refine Zb (Zd ?_)
   obtain ⟨⟨a9,n9⟩,hx,h⟩:=bsome h
   refine E_joinD (fun e ds w=>∃ (g:Gh) ,FrM iI gI wI g w∧MkF g w ds∧e 3=p1∧PT g.m w (⟨up0,hone500200⟩:Fv) p1∧e 5=p3∧PT g.m w (x2:BoxPoint) p3∧e 9=yD∧OB 2009 g w 3 (a9:Int) yD∧MP (encK pl_157) 1 g w (n9:List (BoxPoint × Int)) kv500000∧FC g.m w 2 kv500000 up0∧PT g.m w (x0:BoxMill) up0) (fun Q' hQ=>?_) (fun qJ jJ aK hR=>?_)
   ·replace h := hx
    clear hx
    refine Zf (Za (Ze .plain rfl (D_load (α:=Fv) (g:=zD) Try.isAgg158 Try.sizeOf158 mC d9 fun aE bE=>?_)))
    have e114:aE=up0:=RV_fv.1 bE
    clear bE
    subst aE
    refine EL_p (fPtr p3 2) (Zc at_157_2 qC (PT.ptr v8)) rfl ?_
    have cH:=Zm (part_BoxPoint_2).1 v8
    refine Ze .plain rfl (D_load (g:=zD) Try.isAgg153 Try.sizeOf153 rfl cH fun dH gH=>?_)
    obtain ⟨bD,xF,h⟩:=bsome h
    refine Ze .plain rfl (Zp (g:=zD) (vs:=[up0,dH]) en139 (.cons rfl (.cons rfl .nil)) (wk139 m7 gH xF) fun bK rJ iH hs hr=>?_)
    have hfr:=hfr.ext hs
    have hmk:=hmk.ext hs
    have d9:=d9.ext hs
    have iA:=iA.ext hs
    have v8:=v8.ext hs
    have l8:=l8.ext hs
    have k8:=k8.ext hs
    have m7:=m7.ext hs
    have b49:=b49.ext hs
    have iE:=hr
    refine Zb (Zd (Zr ?_))
    have hB0:=hfr.size
    have hmk0:=hmk
    obtain ⟨⟨vC,yA⟩,hφ,h⟩:=bsome h
    refine E_rangeFunc (σ:=(Int × (List (BoxPoint × Int)))) (s0:=((1073741824:Int),m0)) 10 rfl (fun _=>0) [] (fun (s:Int × (List (BoxPoint × Int))) (g:Gh) (w:World)=>FrM iI gI wI g w∧MkF g w oD∧PT g.m w (⟨up0,hone500200⟩:Fv) p1∧PT g.m w (x1:List (List Int)) p2∧PT g.m w (x2:BoxPoint) p3∧OB 2009 g w 3 (s.1:Int) yD∧ItV Try.prog (RA2 (α:=BoxPick) (β:=BoxStep)) bD iH g.m w∧MP (encK pl_157) 1 g w (s.2:List (BoxPoint × Int)) kv500000∧FC g.m w 2 kv500000 up0∧PT g.m w (x0:BoxMill) up0) rfl iE hφ (fun _ _ _ _=>rfl) rfl ra2_size rfl (fun _ _ _ _ _ hx hR=>by obtain ⟨hfr,hmk,z2,z3,z4,z5,z6,z7,z8,z9⟩:=hR; exact ⟨hfr.ist hx hB0,hmk.ist hx,z2.ist hx,z3.ist hx,z4.ist hx,z5.ist hx,z6.ist hx,z7.ist hx,z8.ist hx,z9.ist hx⟩) (fun _ _ _ _ _ hx hR=>by obtain ⟨hfr,hmk,z2,z3,z4,z5,z6,z7,z8,z9⟩:=hR; exact ⟨hfr.stp hx,hmk.stp hx,z2.stp hx,z3.stp hx,z4.stp hx,z5.stp hx rfl,z6.stp hx,z7.stp hx rfl,z8.stp hx,z9.stp hx⟩) ⟨hfr,hmk,d9,iA,v8,b49,iE,l8,k8,m7⟩ (fun _ h=>by cases h) ?_ ?_
    ·intro sJ kJ s x b s2 lE jH vs hsz h hR hrec_0 tD hrd
     obtain ⟨u9,l9⟩:=s
     obtain ⟨hfr,hmk,i6,x5,x6,y6,t5,l5,o0,u3⟩:=hR
     obtain ⟨uD,x8⟩:=x
     obtain ⟨lJ,mE,rfl,qI,iB⟩:=ra2_get hrd
     have i7:=RFr.refl lE jH
     refine Za (Ze .plain rfl (D_allocOc (g:=lE) 2011 (⟨⟨(⟨List.toArray [(⟨List.toArray [0,0,0,0],rfl⟩:Vector Int 4),(⟨List.toArray [0,0,0,0],rfl⟩:Vector Int 4)],rfl⟩:Vector (Vector Int 4) 2),⟨0,0⟩⟩,0,0⟩:BoxStep) Try.zeroValue279 (fun m w=>⟨_,(rep_two (rep_two (rep_vec (flat_chunk (rep_vec (flat_chunk rep_int (flat_chunk rep_int (flat_chunk rep_int (flat_chunk rep_int flat_nil)))) rfl) (flat_chunk (rep_vec (flat_chunk rep_int (flat_chunk rep_int (flat_chunk rep_int (flat_chunk rep_int flat_nil)))) rfl) flat_nil)) rfl) (rep_two rep_int rep_int)) (rep_two rep_int rep_int)),rfl⟩) fun kH cK lH hs b148 cb=>?_))
     have hfr:=hfr.stp hs
     have hmk:=hmk.stp hs
     have i7:=i7.stp hs
     have hrec_0:=hrec_0.stp hs rfl
     have i6:=i6.stp hs
     have x5:=x5.stp hs
     have x6:=x6.stp hs
     have y6:=y6.stp hs rfl
     have t5:=t5.stp hs
     have l5:=l5.stp hs rfl
     have o0:=o0.stp hs
     have u3:=u3.stp hs
     have iB:=iB.stp hs
     clear cb
     refine Ze .plain rfl (D_storeOc (g:=kH) (v:=mE) Try.sizeOf279 rfl b148 rfl iB fun rC dK hs b149 cb=>?_)
     clear cb
     have hfr:=hfr.stp hs
     have hmk:=hmk.stp hs
     have i7:=i7.stp hs
     have hrec_0:=hrec_0.stp hs rfl
     have i6:=i6.stp hs
     have x5:=x5.stp hs
     have x6:=x6.stp hs
     have y6:=y6.stp hs rfl
     have t5:=t5.stp hs
     have l5:=l5.stp hs rfl
     have o0:=o0.stp hs
     have u3:=u3.stp hs
     refine Zb (Zd ?_)
     obtain ⟨mH,hbr,hs,hrN⟩:=begin_round hrec_0 tD
     refine ⟨mH,hbr,?_⟩
     have hfr:=hfr.stp hs
     have hmk:=hmk.stp hs
     have i7:=i7.stp hs
     have i6:=i6.stp hs
     have x5:=x5.stp hs
     have x6:=x6.stp hs
     have y6:=y6.stp hs rfl
     have t5:=t5.stp hs
     have l5:=l5.stp hs rfl
     have o0:=o0.stp hs
     have u3:=u3.stp hs
     have b149:=b149.stp hs rfl
     have hrec_0:=hrN
     clear hbr hs hrN
     refine Zr ?_
     refine Zf (Za (Ze .plain rfl (D_load (g:=rC) Try.isAgg157 Try.sizeOf157 qC x6 fun nH oH=>?_)))
     refine Ze .plain rfl (D_load (g:=rC) Try.isAgg146 Try.sizeOf146 sD x5 fun pH qH=>?_)
     refine Ze .plain rfl (D_loadO (g:=rC) Try.isAgg279 Try.sizeOf279 rfl b149 fun sH tH=>?_)
     obtain ⟨aB,yF,h⟩:=bsome h
     refine Ze .plain rfl (Zp (g:=rC) (vs:=[nH,pH,sH]) en140 (.cons rfl (.cons rfl (.cons rfl .nil))) (wk140 oH qH tH yF) fun uH vJ lK hs hr=>?_)
     have hfr:=hfr.ext hs
     have hmk:=hmk.ext hs
     have i7:=i7.ext hs
     have hrec_0:=hrec_0.ext hs
     have i6:=i6.ext hs
     have x5:=x5.ext hs
     have x6:=x6.ext hs
     have y6:=y6.ext hs
     have t5:=t5.ext hs
     have l5:=l5.ext hs
     have o0:=o0.ext hs
     have u3:=u3.ext hs
     have b149:=b149.ext hs
     obtain ⟨nB,mJ,rfl,oB,rfl⟩:=hr
     refine Zn (.tuple #[nB,.bool (aB.2)]) rfl rfl ?_
     refine EL_p nB (Zi rfl rfl) rfl ?_
     refine EL_p (.bool (aB.2)) (Zi rfl rfl) rfl ?_
     refine Ze .plain rfl (D_allocOc (g:=uH) 2012 (⟨0,0,⟨(⟨List.toArray [(⟨List.toArray [0,0,0,0],rfl⟩:Vector Int 4),(⟨List.toArray [0,0,0,0],rfl⟩:Vector Int 4)],rfl⟩:Vector (Vector Int 4) 2),⟨0,0⟩⟩⟩:BoxPoint) Try.zeroValue157 (fun m w=>⟨_,(rep_two rep_int (rep_two rep_int (rep_two (rep_vec (flat_chunk (rep_vec (flat_chunk rep_int (flat_chunk rep_int (flat_chunk rep_int (flat_chunk rep_int flat_nil)))) rfl) (flat_chunk (rep_vec (flat_chunk rep_int (flat_chunk rep_int (flat_chunk rep_int (flat_chunk rep_int flat_nil)))) rfl) flat_nil)) rfl) (rep_two rep_int rep_int)))),rfl⟩) fun xH mK nK hs b156 cb=>?_)
     have hfr:=hfr.stp hs
     have hmk:=hmk.stp hs
     have i7:=i7.stp hs
     have hrec_0:=hrec_0.stp hs rfl
     have i6:=i6.stp hs
     have x5:=x5.stp hs
     have x6:=x6.stp hs
     have y6:=y6.stp hs rfl
     have t5:=t5.stp hs
     have l5:=l5.stp hs rfl
     have o0:=o0.stp hs
     have u3:=u3.stp hs
     have b149:=b149.stp hs rfl
     have oB:=oB.stp hs
     clear cb
     refine Ze .plain rfl (D_storeOc (g:=xH) (v:=nB) Try.sizeOf157 rfl b156 rfl oB fun oE yH hs b157 cb=>?_)
     clear cb
     have hfr:=hfr.stp hs
     have hmk:=hmk.stp hs
     have i7:=i7.stp hs
     have hrec_0:=hrec_0.stp hs rfl
     have i6:=i6.stp hs
     have x5:=x5.stp hs
     have x6:=x6.stp hs
     have y6:=y6.stp hs rfl
     have t5:=t5.stp hs
     have l5:=l5.stp hs rfl
     have o0:=o0.stp hs
     have u3:=u3.stp hs
     have b149:=b149.stp hs rfl
     refine Zg (.bool (aB.2)) rfl rfl ?_
     refine Zb (Zd (Zf (Za (Zn (.bool (aB.2)) rfl rfl ?_))))
     refine Zb (Zd ?_)
     rcases Zt h with ⟨uC,h⟩ | ⟨uC,h⟩
     ·refine E_ct uC rfl ?_
      refine L_loadO0 (x:=.tmp 9) Try.isAgg3 Try.sizeOf3 y6 fun oK zH zF=>?_
      obtain rfl:=Zj.1 zH
      refine L_loadO (x:=.tmp 45) part_BoxStep_2.1 Try.isAgg3 Try.sizeOf3 b149 fun pK aI aG=>?_
      obtain rfl:=Zj.1 aI
      refine Zs (α:=Fv) (x:=.tmp 3) Try.isAgg158 Try.sizeOf158 i6 fun rE uE bG=>?_
      have e169:rE=up0:=RV_fv.1 uE
      clear uE
      subst rE
      refine Zs (x:=.tmp 4) Try.isAgg146 Try.sizeOf146 x5 fun vE gD cG=>?_
      refine L_loadO0 (x:=.tmp 12) Try.isAgg157 Try.sizeOf157 b157 fun xE iD eG=>?_
      obtain ⟨dB,gG,h⟩:=bsome h
      refine E_drawC (g:=oE) (w:=yH) (n:=8) [0,1,2,3,4,5,7] [2009,2011,2012] [0,1,2,3,4,5,6,7] rfl mixed (by kernel_rfl) fun w_c165 hs hlt=>?_
      have hfr:=hfr.ext hs
      have hmk:=hmk.ext hs
      have i7:=i7.ext hs
      have hrec_0:=hrec_0.ext hs
      have i6:=i6.ext hs
      have x5:=x5.ext hs
      have x6:=x6.ext hs
      have y6:=y6.ext hs
      have t5:=t5.ext hs
      have l5:=l5.ext hs
      have o0:=o0.ext hs
      have u3:=u3.ext hs
      have b149:=b149.ext hs
      clear hs
      refine CH_ldO (n:=2009) (c:=.int .i64 (u9)) rfl rfl .plain zF rfl rfl ?_
      refine CH_pur (c:=fPtr lH 11) rfl rfl .plain (Zc at_279_2 rfl (OB.ptr b149)) ?_
      refine CH_ldO (n:=2011) (c:=.int .i64 ((x8).moves)) rfl rfl .plain aG rfl rfl ?_
      refine CH_ldP (c:=up0) rfl rfl .plain bG mC ?_
      refine CH_ldP (c:=vE) rfl rfl .plain cG sD ?_
      have gD:=gD.ch hlt.1
      refine CH_ldO (n:=2012) (c:=xE) rfl rfl .plain eG rfl rfl ?_
      have iD:=iD.ch hlt.1
      refine CH_do rfl rfl .plain (D_callM (g:=oE) (i:=1) (vs:=[up0,vE,xE]) en68 (.cons rfl (.cons rfl (.cons rfl .nil))) (ih u3 o0 l5 gD iD gG) fun bI xJ qK hs hr=>?_)
      obtain ⟨hrv,b172⟩:=hr
      have hfr:=hfr.stp hs
      have hmk:=hmk.stp hs
      have i7:=i7.stp hs
      have hrec_0:=hrec_0.stp hs rfl
      have hlt:=hlt.stp hs
      have i6:=i6.stp hs
      have x5:=x5.stp hs
      have x6:=x6.stp hs
      have y6:=y6.stp hs rfl
      have t5:=t5.stp hs
      have o0:=o0.stp hs
      have u3:=u3.stp hs
      subst hrv
      refine ⟨hlt.toW,?_⟩
      refine CH_pur (c:=.int .i64 ((w64 ((x8).moves + dB.1)))) rfl rfl .plain (P_int rfl rfl rfl) ?_
      refine CH_nil ?_
      clear hlt
      refine EL_p (.int .i64 (min64 u9 (w64 ((x8).moves + dB.1)))) (P_min rfl rfl) rfl ?_
      refine Ze .plain rfl (D_storeOc (g:=bI) (v:=.int .i64 (min64 u9 (w64 ((x8).moves + dB.1)))) Try.sizeOf3 rfl y6 rfl (Zj.2 rfl) fun sK tK hs b174 cb=>?_)
      clear cb
      have hfr:=hfr.stp hs
      have hmk:=hmk.stp hs
      have i7:=i7.stp hs
      have hrec_0:=hrec_0.stp hs rfl
      have i6:=i6.stp hs
      have x5:=x5.stp hs
      have x6:=x6.stp hs
      have t5:=t5.stp hs
      have b172:=b172.stp hs rfl
      have o0:=o0.stp hs
      have u3:=u3.stp hs
      refine Zb (blk_n ?_)
      obtain ⟨rfl,rfl⟩:=pairs2 h
      exact ⟨_,i7,⟨hfr,hmk,i6,x5,x6,b174,t5,b172,o0,u3⟩,hrec_0,rfl,rfl⟩
     ·refine E_cf uC rfl ?_
      refine Zu (blk_n ?_)
      obtain ⟨rfl,rfl⟩:=pairs2 h
      exact ⟨_,i7,⟨hfr,hmk,i6,x5,x6,y6,t5,l5,o0,u3⟩,hrec_0,rfl,rfl⟩
    ·intro dI uK ds176 hsz hR hds
     obtain ⟨hfr,hmk,yE,nJ,zE,cF,sI,zB,tB,vB⟩:=hR
     obtain ⟨D,hdse,hD,hDb⟩:=hds.1 rfl
     subst hdse
     replace hmk:=MkF.push hmk0 hmk hD hDb
     clear hD hDb hds
     revert hmk
     generalize ({ target:=.collected D,args:=#[] } :: oD:List Deferred)=oJ
     intro hmk
     refine ⟨fun _=>?_,fun k c hs _=>absurd hs (Nat.succ_ne_zero k).symm⟩
     refine blk_n ?_
     obtain ⟨rfl,rfl⟩:=pairs2 h
     exact hQ _ _ _ ⟨dI,hfr,hmk,mC,yE,qC,zE,rfl,cF,zB,tB,vB⟩
   ·clear hx
    obtain ⟨jI,hfr,hmk,dF,eF,rF,sF,aD,y9,r8,yB,rA⟩:=hR
    refine Zf (Zs (α:=Fv) (x:=.tmp 3) Try.isAgg158 Try.sizeOf158 eF fun tF uF hG=>?_)
    have e178:tF=up0:=RV_fv.1 uF
    clear uF
    subst tF
    obtain ⟨pb179,po179,pe179⟩:=PT.ptr rA
    have iG:=L_loadFC (P:=Try.prog) (x:=.tmp 55) Try.isAgg272 Try.sizeOf272 (mp_one r8) yB
    refine Zs (x:=.tmp 5) Try.isAgg157 Try.sizeOf157 sF fun kI jD jG=>?_
    refine L_loadO0 (x:=.tmp 9) Try.isAgg3 Try.sizeOf3 y9 fun vK lI kG=>?_
    obtain rfl:=Zj.1 lI
    refine E_drawL (g:=jI) (n:=6) [] [0,1,2,3,4,5] rfl mixed (by kernel_rfl) trivial ?_
    refine L_ld (c:=up0) rfl rfl .plain (fun _ _ h=>h.ch) hG dF ?_
    refine L_p up0 rfl rfl (P_nilCk rfl pe179) ?_
    refine L_p (fPtr up0 2) rfl rfl (Zc at_274_2 rfl (PT.ptr rA)) ?_
    refine L_ld (c:=kv500000) rfl rfl .plain (fun _ _ h=>h.ch) iG rfl ?_
    refine L_ld (c:=kI) rfl rfl .plain (fun _ _ h=>h.ch) jG rF ?_
    refine L_ld (c:=.int .i64 (a9)) rfl rfl .plain (fun _ _ h=>⟨h.ch,fun b hb _=>h.below.block b hb⟩) kG aD ?_
    refine L_nl fun mI xK hs=>?_
    have hfr:=hfr.ext hs
    have hmk:=hmk.ext hs
    have y9:=y9.ext hs
    have r8:=r8.ext hs
    have jD:=jD.ext hs
    clear hs
    refine Ze .plain rfl (D_mapUpdate (g:=mI) Try.underlying272 key_157 rfl r8 (rfl.trans (encK_of pl_157 jD)) rfl (Zj.2 rfl) fun nI yK hs m197=>?_)
    have hfr:=hfr.stp hs
    have hmk:=hmk.stp hs
    have y9:=y9.stp hs rfl
    refine Zb (Zd (Zf (Za (Ze .plain rfl (D_loadO (g:=nI) Try.isAgg3 Try.sizeOf3 aD y9 fun zK pI=>?_)))))
    obtain rfl:=Zj.1 pI
    refine Zg (.int .i64 (a9)) rfl rfl ?_
    refine Zb (Zd (E_ret (endM (.inr rfl) hmk fun aL bL hs=>?_)))
    have hfr:=hfr.stp hs
    have m197:=m197.stp hs rfl
    obtain rfl:=sinj h
    exact end1 rfl rfl (show _=.int .i64 (a9) from rfl) ⟨_,hfr,rfl,bA.back m197⟩
def f69 (x0:BoxMill) (m0:List (BoxPoint × Int)) (x1:List (List Int)) (x2:BoxPoint):Option (BoxPick × BoxPoint × (List (BoxPoint × Int))):=
 jn (σ:=BoxPick × BoxPoint × (List (BoxPoint × Int))) (fun (nD,oD,dB)=>
  some (nD,oD,dB)
  ) fun mE=>
 (f139 x0 ((x2).race)).bind fun gD=>
 (gD (Nat × BoxPick × BoxPoint × (List (BoxPoint × Int))) (guardC fun (iB,mC,u9) (l9,n9)=>
  (f140 x2 x1 n9).bind fun r8=>
  Option.bind (α:=Bool × (List (BoxPoint × Int))) (
   bif r8.2 then
    (f68 big x0 u9 x1 (r8.1)).bind fun zB=>
    (f68 big x0 (zB.2) x1 x2).bind fun qC=>
    some (((w64 ((n9).moves + zB.1)) == qC.1),qC.2)
   else
    some (false,u9)
   ) fun (y9,x8)=>
  bif y9 then
   some (false,((1:Nat),(l9,r8.1,x8)))
  else
   some (true,((0:Nat),(iB,mC,x8)))
  ) (0,((⟨0,0⟩:BoxPick),(⟨0,0,⟨(⟨List.toArray [(⟨List.toArray [0,0,0,0],rfl⟩:Vector Int 4),(⟨List.toArray [0,0,0,0],rfl⟩:Vector Int 4)],rfl⟩:Vector (Vector Int 4) 2),⟨0,0⟩⟩⟩:BoxPoint),m0))).bind fun (lB,(mB,nB,a9))=>
 bif Nat.beq lB 0 then
  mE (mB,nB,a9)
 else
  some (mB,nB,a9)
theorem en69:Enters Try.prog 69:=enters_of Try.func69 (by kernel_rfl) rfl
theorem wk69 {iI:Nat} {gI:Gh} {wI:World} {x0:BoxMill} {m0:List (BoxPoint × Int)} {x1:List (List Int)} {x2:BoxPoint} {up0:Value} (rp0:PT gI.m wI x0 up0) {kv500000:Value} (fc0:FC gI.m wI 2 kv500000 up0) (mp500000:MP (encK pl_157) iI gI wI m0 kv500000) {up1:Value} (rp1:RV gI.m wI x1 up1) {up2:Value} (rp2:RV gI.m wI x2 up2) {r:BoxPick × BoxPoint × (List (BoxPoint × Int))} (h:f69 x0 m0 x1 x2=some r):FnM Try.prog 69 #[up0,up1,up2] iI gI wI (fun g w v=>(∃ y0 y1,v=.tuple #[y0,y1]∧RV g.m w (r.1) y0∧RV g.m w (r.2.1) y1)∧MP (encK pl_157) iI g w (r.2.2) kv500000):=by
 unfold f69 at h
 refine fnDM_of_E Try.func69 rfl (Nat.le_of_ble_eq_true rfl) fun g0 hm hfr=>?_
 have hmk:MkF g0 wI []:=MkF.start
 have oB:=mp500000
 replace mp500000:=mp500000.enter
 rw [← hm] at mp500000
 replace hm:g0.m=gI.m:=by rw [hm]
 have hone500200:=PT.one rp0
 have fc0:FC g0.m wI 2 kv500000 up0:=hm ▸ fc0
 have rp0:PT g0.m wI x0 up0:=hm ▸ rp0
 have rp1:RV g0.m wI x1 up1:=hm ▸ rp1
 have rp2:RV g0.m wI x2 up2:=hm ▸ rp2
 show E _ 44 none _ _ _ _ _
 refine Zf (Za (Ze .plain rfl (D_box (g:=g0) (a:=(⟨up0,hone500200⟩:Fv)) rfl (RV_fv.2 rfl) fun g1 w1 p1 hs q1=>?_)))
 have hfr:=hfr.ext hs
 have hmk:=hmk.ext hs
 have rp0:=rp0.ext hs
 have mp500000:=mp500000.ext hs
 have fc0:=fc0.ext hs
 have rp1:=rp1.ext hs
 have rp2:=rp2.ext hs
 refine Ze .plain rfl (D_box (g:=g1) rfl rp1 fun g2 w2 p2 hs q2=>?_)
 have hfr:=hfr.ext hs
 have hmk:=hmk.ext hs
 have rp0:=rp0.ext hs
 have mp500000:=mp500000.ext hs
 have fc0:=fc0.ext hs
 have rp2:=rp2.ext hs
 have q1:=q1.ext hs
 refine Ze .plain rfl (D_box (g:=g2) rfl rp2 fun g3 w3 p3 hs q3=>?_)
 have hfr:=hfr.ext hs
 have hmk:=hmk.ext hs
 have rp0:=rp0.ext hs
 have mp500000:=mp500000.ext hs
 have fc0:=fc0.ext hs
 have q1:=q1.ext hs
 have q2:=q2.ext hs
 refine Ze .plain rfl (D_allocOc (g:=g3) 2006 (⟨0,0⟩:BoxPick) Try.zeroValue151 (fun m w=>⟨_,(rep_two rep_int rep_int),rfl⟩) fun g4 w4 p4 hs b4 cb=>?_)
 have hfr:=hfr.stp hs
 have hmk:=hmk.stp hs
 have rp0:=rp0.stp hs
 have mp500000:=mp500000.stp hs rfl
 have fc0:=fc0.stp hs
 have q1:=q1.stp hs
 have q2:=q2.stp hs
 have q3:=q3.stp hs
 clear cb
 refine Ze .plain rfl (D_allocOc (g:=g4) 2007 (⟨0,0,⟨(⟨List.toArray [(⟨List.toArray [0,0,0,0],rfl⟩:Vector Int 4),(⟨List.toArray [0,0,0,0],rfl⟩:Vector Int 4)],rfl⟩:Vector (Vector Int 4) 2),⟨0,0⟩⟩⟩:BoxPoint) Try.zeroValue157 (fun m w=>⟨_,(rep_two rep_int (rep_two rep_int (rep_two (rep_vec (flat_chunk (rep_vec (flat_chunk rep_int (flat_chunk rep_int (flat_chunk rep_int (flat_chunk rep_int flat_nil)))) rfl) (flat_chunk (rep_vec (flat_chunk rep_int (flat_chunk rep_int (flat_chunk rep_int (flat_chunk rep_int flat_nil)))) rfl) flat_nil)) rfl) (rep_two rep_int rep_int)))),rfl⟩) fun g5 w5 p5 hs b5 cb=>?_)
 have hfr:=hfr.stp hs
 have hmk:=hmk.stp hs
 have rp0:=rp0.stp hs
 have mp500000:=mp500000.stp hs rfl
 have fc0:=fc0.stp hs
 have q1:=q1.stp hs
 have q2:=q2.stp hs
 have q3:=q3.stp hs
 have b4:=b4.stp hs rfl
 clear cb
 refine Zb (Zd (E_joinCD h (fun (s:BoxPick × BoxPoint × (List (BoxPoint × Int))) e ds w=>∃ (g:Gh) ,FrM iI gI wI g w∧MkF g w ds∧e 6=p4∧OB 2006 g w 151 (s.1:BoxPick) p4∧e 7=p5∧OB 2007 g w 157 (s.2.1:BoxPoint) p5∧MP (encK pl_157) 1 g w (s.2.2:List (BoxPoint × Int)) kv500000∧FC g.m w 2 kv500000 up0∧PT g.m w (x0:BoxMill) up0) (fun X171 mE jG h=>?_) ?_))
 ·refine Zf (Za (Ze .plain rfl (D_load (α := Fv) (g := g5) Try.isAgg158 Try.sizeOf158 rfl q1 fun oE rE => ?_)))
  have e172:oE=up0:=RV_fv.1 rE
  clear rE
  subst oE
  refine EL_p (fPtr p3 2) (Zc at_157_2 rfl (PT.ptr q3)) rfl ?_
  have uH:=Zm (part_BoxPoint_2).1 q3
  refine Ze .plain rfl (D_load (g:=g5) Try.isAgg153 Try.sizeOf153 rfl uH fun xH yH=>?_)
  obtain ⟨gD,kG,h⟩:=bsome h
  refine Ze .plain rfl (Zp (g:=g5) (vs:=[up0,xH]) en139 (.cons rfl (.cons rfl .nil)) (wk139 rp0 yH kG) fun nK aK tD hs hr=>?_)
  have hfr:=hfr.ext hs
  have hmk:=hmk.ext hs
  have rp0:=rp0.ext hs
  have mp500000:=mp500000.ext hs
  have fc0:=fc0.ext hs
  have q1:=q1.ext hs
  have q2:=q2.ext hs
  have q3:=q3.ext hs
  have b4:=b4.ext hs
  have b5:=b5.ext hs
  have uE:=hr
  refine Zb (Zd (Zr ?_))
  have hB0:=hfr.size
  have hmk0:=hmk
  obtain ⟨⟨lB,⟨mB,nB,a9⟩⟩,hφ,h⟩:=bsome h
  refine E_rangeFunc (σ:=(Nat × BoxPick × BoxPoint × (List (BoxPoint × Int)))) (s0:=(0,((⟨0,0⟩:BoxPick),(⟨0,0,⟨(⟨List.toArray [(⟨List.toArray [0,0,0,0],rfl⟩:Vector Int 4),(⟨List.toArray [0,0,0,0],rfl⟩:Vector Int 4)],rfl⟩:Vector (Vector Int 4) 2),⟨0,0⟩⟩⟩:BoxPoint),m0))) 10 rfl (fun s=>s.1) [.ret] (fun (s:Nat × BoxPick × BoxPoint × (List (BoxPoint × Int))) (g:Gh) (w:World)=>FrM iI gI wI g w∧MkF g w []∧PT g.m w (⟨up0,hone500200⟩:Fv) p1∧PT g.m w (x1:List (List Int)) p2∧PT g.m w (x2:BoxPoint) p3∧OB 2006 g w 151 (s.2.1:BoxPick) p4∧OB 2007 g w 157 (s.2.2.1:BoxPoint) p5∧ItV Try.prog (RA2 (α:=BoxPick) (β:=BoxStep)) gD tD g.m w∧MP (encK pl_157) 1 g w (s.2.2.2:List (BoxPoint × Int)) kv500000∧FC g.m w 2 kv500000 up0∧PT g.m w (x0:BoxMill) up0) rfl uE hφ (fun _ _ _ h=>(guardC_h h).1) rfl ra2_size rfl (fun _ _ _ _ _ hx hR=>by obtain ⟨hfr,hmk,z2,z3,z4,z5,z6,z7,z8,z9,z10⟩:=hR; exact ⟨hfr.ist hx hB0,hmk.ist hx,z2.ist hx,z3.ist hx,z4.ist hx,z5.ist hx,z6.ist hx,z7.ist hx,z8.ist hx,z9.ist hx,z10.ist hx⟩) (fun _ _ _ _ _ hx hR=>by obtain ⟨hfr,hmk,z2,z3,z4,z5,z6,z7,z8,z9,z10⟩:=hR; exact ⟨hfr.stp hx,hmk.stp hx,z2.stp hx,z3.stp hx,z4.stp hx,z5.stp hx rfl,z6.stp hx rfl,z7.stp hx,z8.stp hx rfl,z9.stp hx,z10.stp hx⟩) ⟨hfr,hmk,q1,q2,q3,b4,b5,uE,mp500000,fc0,rp0⟩ (fun _ h=>by cases h) ?_ ?_
  ·intro lG vE s x b s2 uD xE vs hsz h hR hrec_0 bE hrd
   obtain ⟨hs0,h⟩:=guardC_h h
   obtain ⟨st,⟨iB,mC,u9⟩⟩:=s
   obtain ⟨hfr,hmk,i6,x5,x6,i7,m7,t5,l5,o0,u3⟩:=hR
   obtain ⟨l9,n9⟩:=x
   obtain ⟨yE,zE,rfl,cC,v8⟩:=ra2_get hrd
   have y6:=RFr.refl uD xE
   refine Zf (Za (Ze .plain rfl (D_allocOc (g:=uD) 2008 (⟨0,0⟩:BoxPick) Try.zeroValue151 (fun m w=>⟨_,(rep_two rep_int rep_int),rfl⟩) fun zH oK cF hs b255 cb=>?_)))
   have hfr:=hfr.stp hs
   have hmk:=hmk.stp hs
   have y6:=y6.stp hs
   have hrec_0:=hrec_0.stp hs rfl
   have i6:=i6.stp hs
   have x5:=x5.stp hs
   have x6:=x6.stp hs
   have i7:=i7.stp hs rfl
   have m7:=m7.stp hs rfl
   have t5:=t5.stp hs
   have l5:=l5.stp hs rfl
   have o0:=o0.stp hs
   have u3:=u3.stp hs
   have cC:=cC.stp hs
   have v8:=v8.stp hs
   clear cb
   refine Ze .plain rfl (D_storeOc (g:=zH) (v:=yE) Try.sizeOf151 rfl b255 rfl cC fun aI pK hs b256 cb=>?_)
   clear cb
   have hfr:=hfr.stp hs
   have hmk:=hmk.stp hs
   have y6:=y6.stp hs
   have hrec_0:=hrec_0.stp hs rfl
   have i6:=i6.stp hs
   have x5:=x5.stp hs
   have x6:=x6.stp hs
   have i7:=i7.stp hs rfl
   have m7:=m7.stp hs rfl
   have t5:=t5.stp hs
   have l5:=l5.stp hs rfl
   have o0:=o0.stp hs
   have u3:=u3.stp hs
   have v8:=v8.stp hs
   refine Zb (Zd (Za (Ze .plain rfl (D_allocOc (g:=aI) 2009 (⟨⟨(⟨List.toArray [(⟨List.toArray [0,0,0,0],rfl⟩:Vector Int 4),(⟨List.toArray [0,0,0,0],rfl⟩:Vector Int 4)],rfl⟩:Vector (Vector Int 4) 2),⟨0,0⟩⟩,0,0⟩:BoxStep) Try.zeroValue279 (fun m w=>⟨_,(rep_two (rep_two (rep_vec (flat_chunk (rep_vec (flat_chunk rep_int (flat_chunk rep_int (flat_chunk rep_int (flat_chunk rep_int flat_nil)))) rfl) (flat_chunk (rep_vec (flat_chunk rep_int (flat_chunk rep_int (flat_chunk rep_int (flat_chunk rep_int flat_nil)))) rfl) flat_nil)) rfl) (rep_two rep_int rep_int)) (rep_two rep_int rep_int)),rfl⟩) fun bI qK dI hs b257 cb=>?_))))
   have hfr:=hfr.stp hs
   have hmk:=hmk.stp hs
   have y6:=y6.stp hs
   have hrec_0:=hrec_0.stp hs rfl
   have i6:=i6.stp hs
   have x5:=x5.stp hs
   have x6:=x6.stp hs
   have i7:=i7.stp hs rfl
   have m7:=m7.stp hs rfl
   have t5:=t5.stp hs
   have l5:=l5.stp hs rfl
   have o0:=o0.stp hs
   have u3:=u3.stp hs
   have v8:=v8.stp hs
   have b256:=b256.stp hs rfl
   clear cb
   refine Ze .plain rfl (D_storeOc (g:=bI) (v:=zE) Try.sizeOf279 rfl b257 rfl v8 fun iD sK hs b258 cb=>?_)
   clear cb
   have hfr:=hfr.stp hs
   have hmk:=hmk.stp hs
   have y6:=y6.stp hs
   have hrec_0:=hrec_0.stp hs rfl
   have i6:=i6.stp hs
   have x5:=x5.stp hs
   have x6:=x6.stp hs
   have i7:=i7.stp hs rfl
   have m7:=m7.stp hs rfl
   have t5:=t5.stp hs
   have l5:=l5.stp hs rfl
   have o0:=o0.stp hs
   have u3:=u3.stp hs
   have b256:=b256.stp hs rfl
   refine Zb (Zd ?_)
   obtain ⟨jI,hbr,hs,hrN⟩:=begin_round hrec_0 bE
   refine ⟨jI,hbr,?_⟩
   have hfr:=hfr.stp hs
   have hmk:=hmk.stp hs
   have y6:=y6.stp hs
   have i6:=i6.stp hs
   have x5:=x5.stp hs
   have x6:=x6.stp hs
   have i7:=i7.stp hs rfl
   have m7:=m7.stp hs rfl
   have t5:=t5.stp hs
   have l5:=l5.stp hs rfl
   have o0:=o0.stp hs
   have u3:=u3.stp hs
   have b256:=b256.stp hs rfl
   have b258:=b258.stp hs rfl
   have hrec_0:=hrN
   clear hbr hs hrN
   refine Zr ?_
   refine Zf (Za (Ze .plain rfl (D_load (g:=iD) Try.isAgg157 Try.sizeOf157 rfl x6 fun kI lI=>?_)))
   refine Ze .plain rfl (D_load (g:=iD) Try.isAgg146 Try.sizeOf146 rfl x5 fun mI nI=>?_)
   refine Ze .plain rfl (D_loadO (g:=iD) Try.isAgg279 Try.sizeOf279 rfl b258 fun pI qI=>?_)
   obtain ⟨r8,mG,h⟩:=bsome h
   refine Ze .plain rfl (Zp (g:=iD) (vs:=[kI,mI,pI]) en140 (.cons rfl (.cons rfl (.cons rfl .nil))) (wk140 lI nI qI mG) fun sI bK tK hs hr=>?_)
   have hfr:=hfr.ext hs
   have hmk:=hmk.ext hs
   have y6:=y6.ext hs
   have hrec_0:=hrec_0.ext hs
   have i6:=i6.ext hs
   have x5:=x5.ext hs
   have x6:=x6.ext hs
   have i7:=i7.ext hs
   have m7:=m7.ext hs
   have t5:=t5.ext hs
   have l5:=l5.ext hs
   have o0:=o0.ext hs
   have u3:=u3.ext hs
   have b256:=b256.ext hs
   have b258:=b258.ext hs
   obtain ⟨rC,oJ,rfl,uC,rfl⟩:=hr
   refine Zn (.tuple #[rC,.bool (r8.2)]) rfl rfl ?_
   refine EL_p rC (Zi rfl rfl) rfl ?_
   refine EL_p (.bool (r8.2)) (Zi rfl rfl) rfl ?_
   refine Ze .plain rfl (D_allocOc (g:=sI) 2010 (⟨0,0,⟨(⟨List.toArray [(⟨List.toArray [0,0,0,0],rfl⟩:Vector Int 4),(⟨List.toArray [0,0,0,0],rfl⟩:Vector Int 4)],rfl⟩:Vector (Vector Int 4) 2),⟨0,0⟩⟩⟩:BoxPoint) Try.zeroValue157 (fun m w=>⟨_,(rep_two rep_int (rep_two rep_int (rep_two (rep_vec (flat_chunk (rep_vec (flat_chunk rep_int (flat_chunk rep_int (flat_chunk rep_int (flat_chunk rep_int flat_nil)))) rfl) (flat_chunk (rep_vec (flat_chunk rep_int (flat_chunk rep_int (flat_chunk rep_int (flat_chunk rep_int flat_nil)))) rfl) flat_nil)) rfl) (rep_two rep_int rep_int)))),rfl⟩) fun tI uK dF hs b265 cb=>?_)
   have hfr:=hfr.stp hs
   have hmk:=hmk.stp hs
   have y6:=y6.stp hs
   have hrec_0:=hrec_0.stp hs rfl
   have i6:=i6.stp hs
   have x5:=x5.stp hs
   have x6:=x6.stp hs
   have i7:=i7.stp hs rfl
   have m7:=m7.stp hs rfl
   have t5:=t5.stp hs
   have l5:=l5.stp hs rfl
   have o0:=o0.stp hs
   have u3:=u3.stp hs
   have b256:=b256.stp hs rfl
   have b258:=b258.stp hs rfl
   have uC:=uC.stp hs
   clear cb
   refine Ze .plain rfl (D_storeOc (g:=tI) (v:=rC) Try.sizeOf157 rfl b265 rfl uC fun jD eF hs b266 cb=>?_)
   clear cb
   have hfr:=hfr.stp hs
   have hmk:=hmk.stp hs
   have y6:=y6.stp hs
   have hrec_0:=hrec_0.stp hs rfl
   have i6:=i6.stp hs
   have x5:=x5.stp hs
   have x6:=x6.stp hs
   have i7:=i7.stp hs rfl
   have m7:=m7.stp hs rfl
   have t5:=t5.stp hs
   have l5:=l5.stp hs rfl
   have o0:=o0.stp hs
   have u3:=u3.stp hs
   have b256:=b256.stp hs rfl
   have b258:=b258.stp hs rfl
   refine Zg (.bool (r8.2)) rfl rfl ?_
   refine Zb (Zd ?_)
   obtain ⟨⟨y9,x8⟩,hx,h⟩:=bsome h
   refine E_join (fun e w=>∃ (g:Gh) ,FrM iI gI wI g w∧MkF g w []∧RFr uD xE g w∧HB 10 g w lG (.loop { vE with state:=.busy })∧e 3=p1∧PT g.m w (⟨up0,hone500200⟩:Fv) p1∧e 4=p2∧PT g.m w (x1:List (List Int)) p2∧e 5=p3∧PT g.m w (x2:BoxPoint) p3∧e 6=p4∧OB 2006 g w 151 (iB:BoxPick) p4∧e 7=p5∧OB 2007 g w 157 (mC:BoxPoint) p5∧e 8=cF∧OB 2008 g w 151 (l9:BoxPick) cF∧e 10=dF∧OB 2010 g w 157 (r8.1:BoxPoint) dF∧e 15=tD∧ItV Try.prog (RA2 (α:=BoxPick) (β:=BoxStep)) gD tD g.m w∧e 39=.bool (y9)∧MP (encK pl_157) 1 g w (x8:List (BoxPoint × Int)) kv500000∧FC g.m w 2 kv500000 up0∧PT g.m w (x0:BoxMill) up0) (fun Q' hQ=>?_) (fun cK vK hR=>?_)
   ·replace h := hx
    clear hx
    rcases Zt h with ⟨g8,h⟩ | ⟨g8,h⟩
    ·refine L_loadO (x := .tmp 27) part_BoxStep_2.1 Try.isAgg3 Try.sizeOf3 b258 fun xK uI sG => ?_
     obtain rfl:=Zj.1 uI
     refine Zs (α:=Fv) (x:=.tmp 3) Try.isAgg158 Try.sizeOf158 i6 fun rF sF xG=>?_
     have e297:rF=up0:=RV_fv.1 sF
     clear sF
     subst rF
     refine Zs (x:=.tmp 4) Try.isAgg146 Try.sizeOf146 x5 fun tF vD yG=>?_
     refine L_loadO0 (x:=.tmp 10) Try.isAgg157 Try.sizeOf157 b266 fun uF xD zG=>?_
     obtain ⟨zB,aH,h⟩:=bsome h
     refine Zs (α:=Fv) (x:=.tmp 3) Try.isAgg158 Try.sizeOf158 i6 fun vF xF cH=>?_
     have e302:vF=up0:=RV_fv.1 xF
     clear xF
     subst vF
     refine Zs (x:=.tmp 4) Try.isAgg146 Try.sizeOf146 x5 fun yF yD dH=>?_
     refine Zs (x:=.tmp 5) Try.isAgg157 Try.sizeOf157 x6 fun zF zD gH=>?_
     obtain ⟨qC,iH,h⟩:=bsome h
     refine E_drawC (g:=jD) (w:=eF) (n:=13) [0,1,2,3,4,5,6,8,9,10,11] [2009,2010] [0,1,2,3,4,5,6,7,8,9,10,11,12] rfl mixed (by kernel_rfl) fun w_c293 hs hlt=>?_
     have hfr:=hfr.ext hs
     have hmk:=hmk.ext hs
     have y6:=y6.ext hs
     have hrec_0:=hrec_0.ext hs
     have i6:=i6.ext hs
     have x5:=x5.ext hs
     have x6:=x6.ext hs
     have i7:=i7.ext hs
     have m7:=m7.ext hs
     have t5:=t5.ext hs
     have l5:=l5.ext hs
     have o0:=o0.ext hs
     have u3:=u3.ext hs
     have b256:=b256.ext hs
     have b258:=b258.ext hs
     have b266:=b266.ext hs
     clear hs
     refine CH_pur (c:=.bool (r8.2)) rfl rfl .plain (Zk rfl) ?_
     refine CH_pur (c:=.bool (r8.2)) rfl rfl .plain (Zk rfl) ?_
     refine CH_pur (c:=fPtr dI 11) rfl rfl (.yes2 rfl rfl g8) (Zc at_279_2 rfl (OB.ptr b258)) ?_
     refine CH_ldO (n:=2009) (c:=.int .i64 ((n9).moves)) rfl rfl (.yes2 rfl rfl g8) sG rfl rfl ?_
     refine CH_ldP (c:=up0) rfl rfl (.yes2 rfl rfl g8) xG rfl ?_
     refine CH_ldP (c:=tF) rfl rfl (.yes2 rfl rfl g8) yG rfl ?_
     have vD:=vD.ch hlt.1
     refine CH_ldO (n:=2010) (c:=uF) rfl rfl (.yes2 rfl rfl g8) zG rfl rfl ?_
     have xD:=xD.ch hlt.1
     refine CH_do rfl rfl (.yes2 rfl rfl g8) (D_callM (g:=jD) (i:=1) (vs:=[up0,tF,uF]) en68 (.cons rfl (.cons rfl (.cons rfl .nil))) (wk68 big u3 o0 l5 vD xD aH) fun vI dK yK hs hr=>?_)
     obtain ⟨hrv,b300⟩:=hr
     have hfr:=hfr.stp hs
     have hmk:=hmk.stp hs
     have y6:=y6.stp hs
     have hrec_0:=hrec_0.stp hs rfl
     have hlt:=hlt.stp hs
     have i6:=i6.stp hs
     have x5:=x5.stp hs
     have x6:=x6.stp hs
     have i7:=i7.stp hs rfl
     have m7:=m7.stp hs rfl
     have t5:=t5.stp hs
     have o0:=o0.stp hs
     have u3:=u3.stp hs
     have b256:=b256.stp hs rfl
     have b266:=b266.stp hs rfl
     subst hrv
     refine ⟨hlt.toW,?_⟩
     refine CH_pur (c:=.int .i64 ((w64 ((n9).moves + zB.1)))) rfl rfl (.yes2 rfl rfl g8) (P_int rfl rfl rfl) ?_
     refine CH_ldP (c:=up0) rfl rfl (.yes2 rfl rfl g8) cH rfl ?_
     refine CH_ldP (c:=yF) rfl rfl (.yes2 rfl rfl g8) dH rfl ?_
     have yD:=yD.ch hlt.1
     refine CH_ldP (c:=zF) rfl rfl (.yes2 rfl rfl g8) gH rfl ?_
     have zD:=zD.ch hlt.1
     refine CH_do rfl rfl (.yes2 rfl rfl g8) (D_callM (g:=vI) (i:=1) (vs:=[up0,yF,zF]) en68 (.cons rfl (.cons rfl (.cons rfl .nil))) (wk68 big u3 o0 b300 yD zD iH) fun yI lK zK hs hr=>?_)
     obtain ⟨hrv,b305⟩:=hr
     have hfr:=hfr.stp hs
     have hmk:=hmk.stp hs
     have y6:=y6.stp hs
     have hrec_0:=hrec_0.stp hs rfl
     have hlt:=hlt.stp hs
     have i6:=i6.stp hs
     have x5:=x5.stp hs
     have x6:=x6.stp hs
     have i7:=i7.stp hs rfl
     have m7:=m7.stp hs rfl
     have t5:=t5.stp hs
     have o0:=o0.stp hs
     have u3:=u3.stp hs
     have b256:=b256.stp hs rfl
     have b266:=b266.stp hs rfl
     subst hrv
     refine ⟨hlt.toW,?_⟩
     refine CH_nil ?_
     clear hlt
     refine EL_y (.bool (((w64 ((n9).moves + zB.1)) == qC.1))) (P_int rfl rfl rfl) rfl rfl g8 rfl ?_
     refine EL_p (.bool (((w64 ((n9).moves + zB.1)) == qC.1))) (Zl (b:=r8.2) rfl (pick_t g8 rfl)) rfl ?_
     refine Zb ?_
     obtain ⟨rfl,rfl⟩:=pairs2 h
     exact hQ _ _ ⟨yI,hfr,hmk,y6,hrec_0,rfl,i6,rfl,x5,rfl,x6,rfl,i7,rfl,m7,rfl,b256,rfl,b266,rfl,t5,rfl,b305,o0,u3⟩
    ·refine E_drawC (g := jD) (w := eF) (n := 13) [0, 1, 2, 3, 4, 5, 6, 7, 8, 9, 10, 11, 12] [] [0, 1, 2, 3, 4, 5, 6, 7, 8, 9, 10, 11, 12] rfl mixed (by kernel_rfl) fun w_c293 hs hlt => ?_
     have hfr:=hfr.ext hs
     have hmk:=hmk.ext hs
     have y6:=y6.ext hs
     have hrec_0:=hrec_0.ext hs
     have i6:=i6.ext hs
     have x5:=x5.ext hs
     have x6:=x6.ext hs
     have i7:=i7.ext hs
     have m7:=m7.ext hs
     have t5:=t5.ext hs
     have l5:=l5.ext hs
     have o0:=o0.ext hs
     have u3:=u3.ext hs
     have b256:=b256.ext hs
     have b266:=b266.ext hs
     clear hs
     refine CH_pur (c:=.bool (r8.2)) rfl rfl .plain (Zk rfl) ?_
     refine CH_pur (c:=.bool (r8.2)) rfl rfl .plain (Zk rfl) ?_
     iterate 11 refine CH_skip rfl (.no2 rfl rfl g8 rfl) ?_
     refine CH_nil ?_
     clear hlt
     refine EL_s rfl rfl g8 rfl rfl ?_
     refine EL_p (.bool false) (Zl (b:=r8.2) rfl (pick_f g8 rfl)) rfl ?_
     refine Zb ?_
     obtain ⟨rfl,rfl⟩:=pairs2 h
     exact hQ _ _ ⟨jD,hfr,hmk,y6,hrec_0,rfl,i6,rfl,x5,rfl,x6,rfl,i7,rfl,m7,rfl,b256,rfl,b266,rfl,t5,rfl,l5,o0,u3⟩
   ·clear hx
    obtain ⟨aL,hfr,hmk,y6,hrec_0,pJ,bA,qJ,iA,rJ,rA,aG,sD,bG,tB,cG,eG,iE,lE,mJ,k9,eD,m8,k8,l8⟩:=hR
    rcases Zt h with ⟨lD,h⟩ | ⟨lD,h⟩
    ·refine E_cond_true (Eq.trans (show ev _ _ = .bool (y9) from eD) (congrArg Value.bool lD)) ?_
     refine Zf (L_loadO0 (x:=.tmp 8) Try.isAgg151 Try.sizeOf151 eG fun zI eJ jH=>?_)
     refine L_loadO0 (x:=.tmp 10) Try.isAgg157 Try.sizeOf157 lE fun gG aE kH=>?_
     refine E_drawB (a0:=(iB:BoxPick)) (a1:=(l9:BoxPick)) sD (n:=3) [(2,(fun _ g w=>OB 2006 g w 151 (l9:BoxPick) p4))] [0,1,2] rfl mixed (by kernel_rfl) (⟨fun _=>up_box,trivial⟩) ?_
     refine L_ld (c:=zI) rfl rfl .plain (fun _ _ h=>⟨h.1.ch,fun b hb ho=>h.1.block b hb (by rw [ho]; decide)⟩) jH cG ?_
     refine L_ld (c:=gG) rfl rfl .plain (fun _ _ h=>⟨h.1.ch,fun b hb ho=>h.1.block b hb (by rw [ho]; decide)⟩) kH iE ?_
     refine L_do (φ:=fun _ g w=>OB 2006 g w 151 (l9:BoxPick) p4) rfl rfl .plain (fun g w hd=>D_storeR0 (g:=g) Try.sizeOf151 aG hd.1.2 rfl (eJ.stp hd.1.1)) (fun bL hv=>?_)
     clear hv
     refine L_nil fun gJ dL hall=>?_
     have hs:=hall.1.1
     have hfr:=hfr.stp hs
     have hmk:=hmk.stp hs
     have y6:=y6.stp hs
     have hrec_0:=hrec_0.stp hs rfl
     have bA:=bA.stp hs
     have iA:=iA.stp hs
     have rA:=rA.stp hs
     have tB:=tB.stp hs rfl
     have k9:=k9.stp hs
     have m8:=m8.stp hs rfl
     have k8:=k8.stp hs
     have l8:=l8.stp hs
     have aE:=aE.stp hs
     have b319:=(word_all (A:=fun g w=>OB 2006 g w 151 (l9:BoxPick) p4) 2 rfl hall)
     clear hs hall
     refine Ze .plain rfl (D_storeOc (g:=gJ) (v:=gG) Try.sizeOf157 bG tB rfl aE fun eL gL hs b330 cb=>?_)
     clear cb
     have hfr:=hfr.stp hs
     have hmk:=hmk.stp hs
     have y6:=y6.stp hs
     have hrec_0:=hrec_0.stp hs rfl
     have bA:=bA.stp hs
     have iA:=iA.stp hs
     have rA:=rA.stp hs
     have b319:=b319.stp hs rfl
     have k9:=k9.stp hs
     have m8:=m8.stp hs rfl
     have k8:=k8.stp hs
     have l8:=l8.stp hs
     refine Zb (Zd (E_ret (blk_r ?_)))
     obtain ⟨rfl,rfl⟩:=pairs2 h
     exact ⟨_,y6,⟨hfr,hmk,bA,iA,rA,b319,b330,k9,m8,k8,l8⟩,hrec_0,rfl,0,rfl,rfl⟩
    ·refine E_cond_false (Eq.trans (show ev _ _ = .bool (y9) from eD) (congrArg Value.bool lD)) ?_
     refine Zu (blk_n ?_)
     obtain ⟨rfl,rfl⟩:=pairs2 h
     exact ⟨_,y6,⟨hfr,hmk,bA,iA,rA,sD,tB,k9,m8,k8,l8⟩,hrec_0,rfl,rfl⟩
  ·intro iJ iL ds332 hsz hR hds
   obtain ⟨hfr,hmk,sJ,vJ,xJ,vB,yB,nJ,d9,vC,aD⟩:=hR
   obtain ⟨D,hdse,hD,hDb⟩:=hds.1 rfl
   subst hdse
   replace hmk:=MkF.push hmk0 hmk hD hDb
   clear hD hDb hds
   revert hmk
   generalize ({ target:=.collected D,args:=#[] } :: []:List Deferred)=yJ
   intro hmk
   refine ⟨fun hs=>?_,fun k c hs hc=>?_⟩
   ·have hs : lB = 0 := hs
    subst hs
    replace h:=cond_t h rfl
    exact blk_n (Zd (jG (mB,nB,a9) _ _ _ ⟨iJ,hfr,hmk,rfl,vB,rfl,yB,d9,vC,aD⟩ h))
   ·have hs : lB = k + 1 := hs
    match k,hs,hc with
    | 0,hs,hc=>
     subst hs
     obtain rfl:=sinj hc
     replace h:=cond_f h rfl
     refine E_ret (blk_r ?_)
     refine thn_r ?_
     refine endM (.inr rfl) hmk fun jL lL hs=>?_
     have hfr:=hfr.stp hs
     have vB:=vB.stp hs rfl
     have yB:=yB.stp hs rfl
     have d9:=d9.stp hs rfl
     obtain rfl:=sinj h
     obtain ⟨ad334,cv334,hp334,lH,cr334⟩:=ob_read Try.isAgg151 Try.sizeOf151 vB
     obtain ⟨ad335,cv335,hp335,mH,cr335⟩:=ob_read Try.isAgg157 Try.sizeOf157 yB
     exact endm_cc rfl rfl ((show _=p4 from rfl).trans hp334) lH ((show _=p5 from rfl).trans hp335) mH ⟨_,hfr,⟨_,_,rfl,cr334,cr335⟩,oB.back d9⟩
    | n + 1,_,hc=>exact absurd hc (by simp)
 ·rintro ⟨nD, oD, dB⟩ mK zJ mL ⟨jJ, hfr, hmk, bD, yA, cD, aB, n8, hG, iG⟩ h
  refine Zf (L_selfO Try.isAgg151 Try.sizeOf151 rfl yA fun kJ nH oH=>?_)
  refine L_selfO Try.isAgg157 Try.sizeOf157 rfl aB fun lJ pH qH=>?_
  refine E_drawL (g:=jJ) (n:=4) [(2,(fun _ _ _=>True)),(3,(fun _ _ _=>True))] [0,1,2,3] rfl mixed (by kernel_rfl) (⟨fun _=>(fun _ _ _ _ _ _=>trivial),fun _=>(fun _ _ _ _ _ _=>trivial),trivial⟩) ?_
  refine L_ld (c:=kJ) rfl rfl .plain (fun _ _ h=>⟨h.ch,fun b hb _=>h.below.block b hb⟩) (nH _) bD ?_
  refine L_ld (c:=lJ) rfl rfl .plain (fun _ _ h=>⟨h.ch,fun b hb _=>h.below.block b hb⟩) (pH _) cD ?_
  refine L_do (φ:=fun _ _ _=>True) rfl rfl .plain (fun g w hd=>oH _ _ _ g w ⟨hd.1.ch,fun b hb _=>hd.1.below.block b hb⟩ bD rfl) (fun nL hv=>?_)
  clear hv
  refine L_do (φ:=fun _ _ _=>True) rfl rfl .plain (fun g w hd=>qH _ _ _ g w ⟨hd.1.ch,fun b hb _=>hd.1.below.block b hb⟩ cD rfl) (fun oL hv=>?_)
  clear hv
  refine L_nl fun pL qL hs=>?_
  have hfr:=hfr.ext hs
  have hmk:=hmk.ext hs
  have yA:=yA.ext hs
  have aB:=aB.ext hs
  have n8:=n8.ext hs
  clear hs
  refine Zb (Zd (E_ret (endM (.inr rfl) hmk fun rL tL hs=>?_)))
  have hfr:=hfr.stp hs
  have yA:=yA.stp hs rfl
  have aB:=aB.stp hs rfl
  have n8:=n8.stp hs rfl
  obtain rfl:=sinj h
  obtain ⟨ad350,cv350,hp350,sH,cr350⟩:=ob_read Try.isAgg151 Try.sizeOf151 yA
  obtain ⟨ad351,cv351,hp351,tH,cr351⟩:=ob_read Try.isAgg157 Try.sizeOf157 aB
  exact endm_cc rfl rfl ((show _=p4 from bD).trans hp350) sH ((show _=p5 from cD).trans hp351) tH ⟨_,hfr,⟨_,_,rfl,cr350,cr351⟩,oB.back n8⟩
def f79 (x0:BeamTake):Option (Int):=
 jn (σ:=Unit) (fun _=>
  some ((0:Int))
  ) fun n8=>
 bif (decide ((((x0).Pairs).length : Int) > (2 : Int))) then
  some ((5:Int))
 else
  Option.bind (α:=Bool) (
   (f154 (([(x0).Ratchet]:List Int))).bind fun l5=>
   bif (!l5) then
    some ((!l5))
   else
    (f155 ((1:Int)) ((5:Int)) (([(x0).Step]:List Int))).bind fun t5=>
    bif (!t5) then
     some ((!t5))
    else
     (f155 ((1:Int)) ((500000:Int)) (([(x0).Round]:List Int))).bind fun x5=>
     bif (!x5) then
      some ((!x5))
     else
      (f156 ((x0).Pairs) ((fun a0=>f153 a0))).bind fun g8=>
      some (g8)
   ) fun o0=>
  bif o0 then
   some ((2:Int))
  else
   n8 ()
theorem en79:Enters Try.prog 79:=enters_of Try.func79 (by kernel_rfl) rfl
theorem wk79 {gI:Gh} {wI:World} {x0:BeamTake} {up0:Value} (rp0:RV gI.m wI x0 up0) {r:Int} (h:f79 x0=some r):Fn Try.prog 79 #[up0] gI wI (fun _ _ v=>v=.int .i64 (r)):=by
 unfold f79 at h
 refine fn_of_E Try.func79 rfl (Nat.le_of_ble_eq_true rfl) fun g0 hm hfr=>?_
 have rp0:RV g0.m wI x0 up0:=hm ▸ rp0
 show E _ 29 none _ _ _ _ _
 refine Zf (Za (Ze .plain rfl (D_box (g:=g0) rfl rp0 fun g1 w1 p1 hs q1=>?_)))
 have hfr:=hfr.ext hs
 refine Zg (.int .i64 (0)) rfl rfl ?_
 refine Zb (Zd (Zf (Za (Zg (.func (.func 153) #[] #[]) rfl rfl ?_))))
 refine Zb (Zd (Zq h (fun (s:Unit) e w=>∃ (g:Gh) ,Fr gI wI g w) (fun X51 n8 r8 h=>?_) ?_))
 ·refine Zr ?_
  refine Zf (Za (EL_p (fPtr p1 2) (Zc at_68_2 rfl (PT.ptr q1)) rfl ?_))
  have l9:=Zm (part_BeamTake_2).1 q1
  refine Ze .plain rfl (D_load (g:=g1) Try.isAgg66 Try.sizeOf66 rfl l9 fun gD n9=>?_)
  refine EL_p (.int .i64 (((x0).Pairs).length:Int)) (P_len Try.underlying66 rfl n9) rfl ?_
  refine EL_p (.bool ((decide ((((x0).Pairs).length:Int) > (2:Int))))) (P_int rfl rfl rfl) rfl ?_
  refine EL_p (.bool ((decide ((((x0).Pairs).length:Int) > (2:Int))))) (P_assign rfl) rfl ?_
  refine Zb (Zd ?_)
  rcases Zt h with ⟨x6,h⟩ | ⟨x6,h⟩
  ·refine E_ct x6 rfl ?_
   refine Zf (Za (Zg (.int .i64 (5)) rfl rfl ?_))
   refine Zb (Zd (E_ret (blk_r ?_)))
   refine thn_r ?_
   obtain rfl:=sinj h
   exact end1 rfl rfl (show _=.int .i64 (5) from rfl) ⟨_,hfr,rfl⟩
  ·refine E_cf x6 rfl ?_
   obtain ⟨o0,hx,h⟩:=bsome h
   refine E_join (fun e w=>∃ (g:Gh) ,Fr gI wI g w∧e 9=.bool (o0)) (fun Q' hQ=>?_) (fun mC rC hR=>?_)
   ·replace h := hx
    clear hx
    refine Zf (Za (EL_p (fPtr p1 0) (Zc at_68_0 rfl (PT.ptr q1)) rfl ?_))
    have u9:=Zm (part_BeamTake_0).1 q1
    refine Ze .plain rfl (D_load (g:=g1) Try.isAgg3 Try.sizeOf3 rfl u9 fun iD y9=>?_)
    obtain rfl:=Zj.1 y9
    refine Ze .plain rfl (D_buildSlice (g:=g1) 3012 (xs:=([(x0).Ratchet]:List Int)) (vs:=[.int .i64 ((x0).Ratchet)]) Try.underlying26 Try.sizeOf3 Try.zeroValue3 rfl rfl (.cons rfl .nil) (RVs.cons (Zj.2 rfl) RVs.nil) rfl rfl fun z9 jD bA hs o80 iA hxt hfl=>?_)
    have hfr:=hfr.stp hs
    have q1:=q1.stp hs
    obtain ⟨l5,v8,h⟩:=bsome h
    refine Ze .plain rfl (Zp (g:=z9) (vs:=[bA]) en154 (.cons rfl .nil) (wk154 iA v8) fun k8 uC lD hs hr=>?_)
    have hfr:=hfr.ext hs
    have q1:=q1.ext hs
    subst hr
    refine EL_p (.bool (!l5)) (P_not rfl) rfl ?_
    refine Zg (.bool (!l5)) rfl rfl ?_
    refine Zb (Zd ?_)
    rcases Zt h with ⟨y6,h⟩ | ⟨y6,h⟩
    ·refine E_ct y6 rfl ?_
     refine Zu ?_
     obtain rfl:=sinj h
     exact hQ _ _ ⟨k8,hfr,rfl⟩
    ·refine E_cf y6 rfl ?_
     refine Zf (Za (EL_p (fPtr p1 1) (Zc at_68_1 rfl (PT.ptr q1)) rfl ?_))
     have rA:=Zm (part_BeamTake_1).1 q1
     refine Ze .plain rfl (D_load (g:=k8) Try.isAgg3 Try.sizeOf3 rfl rA fun nD yA=>?_)
     obtain rfl:=Zj.1 yA
     refine Ze .plain rfl (D_buildSlice (g:=k8) 3017 (xs:=([(x0).Step]:List Int)) (vs:=[.int .i64 ((x0).Step)]) Try.underlying26 Try.sizeOf3 Try.zeroValue3 rfl rfl (.cons rfl .nil) (RVs.cons (Zj.2 rfl) RVs.nil) rfl rfl fun aB oD dB hs o86 iB hxt hfl=>?_)
     have hfr:=hfr.stp hs
     have q1:=q1.stp hs
     obtain ⟨t5,x8,h⟩:=bsome h
     refine Ze .plain rfl (Zp (g:=aB) (vs:=[.int .i64 (1),.int .i64 (5),dB]) en155 (.cons rfl (.cons rfl (.cons rfl .nil))) (wk155 iB x8) fun l8 vC sD hs hr=>?_)
     have hfr:=hfr.ext hs
     have q1:=q1.ext hs
     subst hr
     refine EL_p (.bool (!t5)) (P_not rfl) rfl ?_
     refine Zg (.bool (!t5)) rfl rfl ?_
     refine Zb (Zd ?_)
     rcases Zt h with ⟨i7,h⟩ | ⟨i7,h⟩
     ·refine E_ct i7 rfl ?_
      refine Zu ?_
      obtain rfl:=sinj h
      exact hQ _ _ ⟨l8,hfr,rfl⟩
     ·refine E_cf i7 rfl ?_
      refine Zf (Za (EL_p (fPtr p1 3) (Zc at_68_3 rfl (PT.ptr q1)) rfl ?_))
      have lB:=Zm (part_BeamTake_3).1 q1
      refine Ze .plain rfl (D_load (g:=l8) Try.isAgg3 Try.sizeOf3 rfl lB fun tD mB=>?_)
      obtain rfl:=Zj.1 mB
      refine Ze .plain rfl (D_buildSlice (g:=l8) 3022 (xs:=([(x0).Round]:List Int)) (vs:=[.int .i64 ((x0).Round)]) Try.underlying26 Try.sizeOf3 Try.zeroValue3 rfl rfl (.cons rfl .nil) (RVs.cons (Zj.2 rfl) RVs.nil) rfl rfl fun nB uD oB hs o92 tB hxt hfl=>?_)
      have hfr:=hfr.stp hs
      have q1:=q1.stp hs
      obtain ⟨x5,a9,h⟩:=bsome h
      refine Ze .plain rfl (Zp (g:=nB) (vs:=[.int .i64 (1),.int .i64 (500000),oB]) en155 (.cons rfl (.cons rfl (.cons rfl .nil))) (wk155 tB a9) fun m8 aD vD hs hr=>?_)
      have hfr:=hfr.ext hs
      have q1:=q1.ext hs
      subst hr
      refine EL_p (.bool (!x5)) (P_not rfl) rfl ?_
      refine Zg (.bool (!x5)) rfl rfl ?_
      refine Zb (Zd ?_)
      rcases Zt h with ⟨m7,h⟩ | ⟨m7,h⟩
      ·refine E_ct m7 rfl ?_
       refine Zu ?_
       obtain rfl:=sinj h
       exact hQ _ _ ⟨m8,hfr,rfl⟩
      ·refine E_cf m7 rfl ?_
       refine Za (EL_p (fPtr p1 2) (Zc at_68_2 rfl (PT.ptr q1)) rfl ?_)
       have vB:=Zm (part_BeamTake_2).1 q1
       refine Ze .plain rfl (D_load (g:=m8) Try.isAgg66 Try.sizeOf66 rfl vB fun yB zB=>?_)
       refine Zn (.func (.func 153) #[] #[]) rfl rfl ?_
       obtain ⟨g8,d9,h⟩:=bsome h
       refine Ze .plain rfl (Zp (g:=m8) (vs:=[yB,.func (.func 153) #[] #[]]) en156 (.cons rfl (.cons rfl .nil)) (wk156 zB ⟨153,#[],#[],rfl,en153,fun g' w' hch a0 b0 r hu0 hr=>by exact Fn.mono (wk153 hu0  hr) fun _ _ _ h=>RV_bool.2 h⟩ d9) fun cC bD xD hs hr=>?_)
       have hfr:=hfr.ext hs
       subst hr
       refine Zg (.bool (g8)) rfl rfl ?_
       refine Zb ?_
       obtain rfl:=sinj h
       exact hQ _ _ ⟨cC,hfr,rfl⟩
   ·clear hx
    obtain ⟨k9,hfr,i6⟩:=hR
    rcases Zt h with ⟨u3,h⟩ | ⟨u3,h⟩
    ·refine E_cond_true (Eq.trans (show ev _ _ = .bool (o0) from i6) (congrArg Value.bool u3)) ?_
     refine Zf (Za (Zg (.int .i64 (2)) rfl rfl ?_))
     refine Zb (Zd (E_ret (blk_r ?_)))
     refine thn_r ?_
     obtain rfl:=sinj h
     exact end1 rfl rfl (show _=.int .i64 (2) from rfl) ⟨_,hfr,rfl⟩
    ·refine E_cond_false (Eq.trans (show ev _ _ = .bool (o0) from i6) (congrArg Value.bool u3)) ?_
     exact Zu (blk_n (Zd (r8 () _ _ ⟨k9,hfr⟩ h)))
 ·rintro _ qC cD ⟨eD, hfr⟩ h
  refine Zf (Za (Zg (.int .i64 (0)) rfl rfl ?_))
  refine Zb (Zd (E_ret ?_))
  obtain rfl:=sinj h
  exact end1 rfl rfl (show _=.int .i64 (0) from rfl) ⟨_,hfr,rfl⟩
def f141 (x0:BoxLoom) (x1:List BoxPick):Option (BoxBoxLoom × Int):=
 (f62 x0).bind fun y5=>
 jn (σ:=BoxBoxLoom) (fun k8=>
  some (y5.1,(0:Int))
  ) fun r8=>
 bif (y5.2 != (0 : Int)) then
  some (y5.1,y5.2)
 else
  bif (decide (((x1).length : Int) > (24 : Int))) then
   some (y5.1,(5:Int))
  else
   (f219 x1 ((fun a0=>f218 a0 (y5.1)))).bind fun m7=>
   bif m7 then
    some (y5.1,(2:Int))
   else
    r8 ((⟨⟨[],[],[]⟩⟩:BoxBoxLoom))
theorem en141:Enters Try.prog 141:=enters_of Try.func141 (by kernel_rfl) rfl
theorem wk141 {gI:Gh} {wI:World} {x0:BoxLoom} {x1:List BoxPick} {up0:Value} (rp0:RV gI.m wI x0 up0) {up1:Value} (rp1:RV gI.m wI x1 up1) {r:BoxBoxLoom × Int} (h:f141 x0 x1=some r):Fn Try.prog 141 #[up0,up1] gI wI (fun m w v=>∃ y0 y1,v=.tuple #[y0,y1]∧RV m w (r.1) y0∧y1=.int .i64 (r.2)):=by
 unfold f141 at h
 refine fn_of_E Try.func141 rfl (Nat.le_of_ble_eq_true rfl) fun g0 hm hfr=>?_
 have rp0:RV g0.m wI x0 up0:=hm ▸ rp0
 have rp1:RV g0.m wI x1 up1:=hm ▸ rp1
 show E _ 31 none _ _ _ _ _
 refine Zf (Za (Ze .plain rfl (D_box (g:=g0) rfl rp0 fun g1 w1 p1 hs q1=>?_)))
 have hfr:=hfr.ext hs
 have rp1:=rp1.ext hs
 refine Ze .plain rfl (D_allocOc (g:=g1) 2004 (⟨⟨[],[],[]⟩⟩:BoxBoxLoom) Try.zeroValue142 (fun m w=>⟨_,(rep_two rep_nil (rep_two rep_nil rep_nil)),rfl⟩) fun g2 w2 p2 hs b2 cb=>?_)
 have hfr:=hfr.stp hs
 have rp1:=rp1.stp hs
 have q1:=q1.stp hs
 have o0:OSF 2004 60400 0 g2 w2 3 142 ([]:List Int) p2:=cb.osf (by rfl)
 have u3:OSF 2004 60401 1 g2 w2 3 142 ([]:List Int) p2:=cb.osf (by rfl)
 have l5:OSF 2004 60402 2 g2 w2 37 142 ([]:List BoxShuttle) p2:=cb.osf (by rfl)
 clear cb
 refine Zg (.int .i64 (0)) rfl rfl ?_
 refine Zb (Zd (Zf (Za (Ze .plain rfl (D_load (g:=g2) Try.isAgg40 Try.sizeOf40 rfl q1 fun v3 r3=>?_)))))
 obtain ⟨y5,hy5,h⟩:=bsome h
 refine Ze .plain rfl (Zp (g:=g2) (vs:=[v3]) en62 (.cons rfl .nil) (wk62 r3 hy5) fun g4 w4_ v4 hs hr=>?_)
 have hfr:=hfr.ext hs
 have rp1:=rp1.ext hs
 have o0:=o0.ext hs
 have u3:=u3.ext hs
 have l5:=l5.ext hs
 have b2:=b2.ext hs
 obtain ⟨t5,dB,rfl,x5,rfl⟩:=hr
 refine Zn (.tuple #[t5,.int .i64 (y5.2)]) rfl rfl ?_
 refine EL_p t5 (Zi rfl rfl) rfl ?_
 refine EL_p (.int .i64 (y5.2)) (Zi rfl rfl) rfl ?_
 refine Ze .plain rfl (D_allocOc (g:=g4) 2006 (⟨⟨[],[],[]⟩⟩:BoxBoxLoom) Try.zeroValue142 (fun m w=>⟨_,(rep_two rep_nil (rep_two rep_nil rep_nil)),rfl⟩) fun g6 w6 p6 hs b6 cb=>?_)
 have hfr:=hfr.stp hs
 have rp1:=rp1.stp hs
 have o0:=o0.stp hs rfl
 have u3:=u3.stp hs rfl
 have l5:=l5.stp hs rfl
 have b2:=b2.stp hs rfl
 have x5:=x5.stp hs
 have iB:OSF 2006 60600 0 g6 w6 3 142 ([]:List Int) p6:=cb.osf (by rfl)
 have lB:OSF 2006 60601 1 g6 w6 3 142 ([]:List Int) p6:=cb.osf (by rfl)
 have mB:OSF 2006 60602 2 g6 w6 37 142 ([]:List BoxShuttle) p6:=cb.osf (by rfl)
 clear cb
 refine Ze .plain rfl (D_storeOc (g:=g6) (v:=t5) Try.sizeOf142 rfl b6 rfl x5 fun g7 w7 hs b7 cb=>?_)
 clear cb
 have hfr:=hfr.stp hs
 have rp1:=rp1.stp hs
 have o0:=o0.stp hs rfl
 have u3:=u3.stp hs rfl
 have l5:=l5.stp hs rfl
 have b2:=b2.stp hs rfl
 obtain ⟨gp7,hs,qp7⟩:=OB.pub b7
 have hfr:=hfr.stp hs
 have rp1:=rp1.stp hs
 have o0:=o0.stp hs rfl
 have u3:=u3.stp hs rfl
 have l5:=l5.stp hs rfl
 have b2:=b2.stp hs rfl
 refine Zg (.int .i64 (y5.2)) rfl rfl ?_
 refine Zb (Zd (Zf (Za (EL_p ((.func (.func 218) #[] #[p6])) (P_makeFunc (capf_0_1 (show ev _ _=p6 from rfl))) rfl ?_))))
 refine Zg ((.func (.func 218) #[] #[p6])) rfl rfl ?_
 refine Zb (Zd (Zq h (fun (s:BoxBoxLoom) e w=>∃ (g:Gh) ,Fr gI wI g w∧e 4=p2∧OB 2004 g w 142 (s:BoxBoxLoom) p2∧OSF 2004 60400 0 g w 3 142 (((s).BoxLoom).Boxes) p2∧OSF 2004 60401 1 g w 3 142 (((s).BoxLoom).At) p2∧OSF 2004 60402 2 g w 37 142 (((s).BoxLoom).Shuttles) p2∧e 6=p6∧PT g.m w (y5.1:BoxBoxLoom) p6) (fun X22 r8 x8 h=>?_) ?_))
 ·refine Zr ?_
  refine Zf (Za (Zn (.int .i64 (y5.2)) rfl rfl ?_))
  refine EL_in (.bool ((y5.2 != (0:Int)))) rfl rfl rfl rfl ?_
  refine Zg (.bool ((y5.2 != (0:Int)))) rfl rfl ?_
  refine Zb (Zd ?_)
  rcases Zt h with ⟨i6,h⟩ | ⟨i6,h⟩
  ·refine E_ct i6 rfl ?_
   refine Zf (Za (Ze .plain rfl (D_load (g:=gp7) Try.isAgg142 Try.sizeOf142 rfl qp7 fun u9 y9=>?_)))
   refine Zn (.int .i64 (y5.2)) rfl rfl ?_
   refine Ze .plain rfl (D_storeOc (g:=gp7) (v:=u9) Try.sizeOf142 rfl b2 rfl y9 fun tB vB hs b25 cb=>?_)
   clear cb
   have hfr:=hfr.stp hs
   refine Zg (.int .i64 (y5.2)) rfl rfl ?_
   refine Zb (Zd (E_ret (blk_r ?_)))
   refine thn_r ?_
   obtain rfl:=sinj h
   obtain ⟨ad26,cv26,hp26,a9,cr26⟩:=ob_read Try.isAgg142 Try.sizeOf142 b25
   exact endm_ct rfl rfl ((show _=p2 from rfl).trans hp26) a9 (show _=.int .i64 (y5.2) from rfl) ⟨_,hfr,_,_,rfl,cr26,rfl⟩
  ·refine E_cf i6 rfl ?_
   refine Zf (Za (Zn up1 rfl rfl ?_))
   refine EL_p (.int .i64 ((x1).length:Int)) (P_len Try.underlying41 rfl rp1) rfl ?_
   refine EL_in (.bool ((decide (((x1).length:Int) > (24:Int))))) rfl rfl rfl rfl ?_
   refine Zg (.bool ((decide (((x1).length:Int) > (24:Int))))) rfl rfl ?_
   refine Zb (Zd ?_)
   rcases Zt h with ⟨x6,h⟩ | ⟨x6,h⟩
   ·refine E_ct x6 rfl ?_
    refine Zf (Za (Ze .plain rfl (D_load (g:=gp7) Try.isAgg142 Try.sizeOf142 rfl qp7 fun z9 bA=>?_)))
    refine Ze .plain rfl (D_storeOc (g:=gp7) (v:=z9) Try.sizeOf142 rfl b2 rfl bA fun yB w29 hs b29 cb=>?_)
    clear cb
    have hfr:=hfr.stp hs
    refine Zg (.int .i64 (5)) rfl rfl ?_
    refine Zb (Zd (E_ret (blk_r ?_)))
    refine thn_r ?_
    obtain rfl:=sinj h
    obtain ⟨ad30,cv30,hp30,d9,cr30⟩:=ob_read Try.isAgg142 Try.sizeOf142 b29
    exact endm_ct rfl rfl ((show _=p2 from rfl).trans hp30) d9 (show _=.int .i64 (5) from rfl) ⟨_,hfr,_,_,rfl,cr30,rfl⟩
   ·refine E_cf x6 rfl ?_
    refine Zf (Za (Zn up1 rfl rfl ?_))
    refine Zn ((.func (.func 218) #[] #[p6])) rfl rfl ?_
    obtain ⟨m7,k9,h⟩:=bsome h
    refine Ze .plain rfl (Zp (g:=gp7) (vs:=[up1,(.func (.func 218) #[] #[p6])]) en219 (.cons rfl (.cons rfl .nil)) (wk219 rp1 ⟨218,#[],#[p6],rfl,en218,fun g' w' hch a0 b0 r hu0 hr=>by exact Fn.mono (wk218 hu0 (qp7.ch hch) hr) fun _ _ _ h=>RV_bool.2 h⟩ k9) fun g8 nB zB hs hr=>?_)
    have hfr:=hfr.ext hs
    have o0:=o0.ext hs
    have u3:=u3.ext hs
    have l5:=l5.ext hs
    have b2:=b2.ext hs
    have qp7:=qp7.ext hs
    subst hr
    refine Zg (.bool (m7)) rfl rfl ?_
    refine Zb (Zd ?_)
    rcases Zt h with ⟨y6,h⟩ | ⟨y6,h⟩
    ·refine E_ct y6 rfl ?_
     refine Zf (Za (Ze .plain rfl (D_load (g:=g8) Try.isAgg142 Try.sizeOf142 rfl qp7 fun iA rA=>?_)))
     refine Ze .plain rfl (D_storeOc (g:=g8) (v:=iA) Try.sizeOf142 rfl b2 rfl rA fun cC mC hs b35 cb=>?_)
     clear cb
     have hfr:=hfr.stp hs
     refine Zg (.int .i64 (2)) rfl rfl ?_
     refine Zb (Zd (E_ret (blk_r ?_)))
     refine thn_r ?_
     obtain rfl:=sinj h
     obtain ⟨ad36,cv36,hp36,l9,cr36⟩:=ob_read Try.isAgg142 Try.sizeOf142 b35
     exact endm_ct rfl rfl ((show _=p2 from rfl).trans hp36) l9 (show _=.int .i64 (2) from rfl) ⟨_,hfr,_,_,rfl,cr36,rfl⟩
    ·refine E_cf y6 rfl ?_
     exact Zu (blk_n (Zd (x8 ((⟨⟨[],[],[]⟩⟩:BoxBoxLoom)) _ _ ⟨g8,hfr,rfl,b2,o0,u3,l5,rfl,qp7⟩ h)))
 ·rintro k8 oB qC ⟨v8, hfr, i7, l8, u4_0_37, u4_1_37, u4_2_37, m8, n8⟩ h
  refine Zf (Za (Ze .plain rfl (D_load (g:=v8) Try.isAgg142 Try.sizeOf142 m8 n8 fun yA aB=>?_)))
  refine Ze .plain rfl (D_storeOc (g:=v8) (v:=yA) Try.sizeOf142 i7 l8 rfl aB fun rC uC hs b39 cb=>?_)
  clear cb
  have hfr:=hfr.stp hs
  refine Zg (.int .i64 (0)) rfl rfl ?_
  refine Zb (Zd (E_ret ?_))
  obtain rfl:=sinj h
  obtain ⟨ad40,cv40,hp40,n9,cr40⟩:=ob_read Try.isAgg142 Try.sizeOf142 b39
  exact endm_ct rfl rfl ((show _=p2 from i7).trans hp40) n9 (show _=.int .i64 (0) from rfl) ⟨_,hfr,_,_,rfl,cr40,rfl⟩
theorem N67 {iO:Nat} {gI:Gh} {wI:World} {x0:BoxBoxLoom} {up0:Value} (rp0:RV gI.m wI x0 up0) {r:BoxMill} (h:f67 x0=some r):FnG Try.prog 67 #[up0] gI wI (fun g w v=>∃ kv,PT g.m w r v∧FC g.m w 2 kv v∧MP (encK pl_157) iO g w ([]:List (BoxPoint × Int)) kv):=by
 unfold f67 at h
 refine fnG_of_E Try.func67 rfl (Nat.le_of_ble_eq_true rfl) fun g0 hm hfr=>?_
 have rp0:RV g0.m wI x0 up0:=hm ▸ rp0
 show E _ 16 none _ _ _ _ _
 refine Zf (Za (Ze .plain rfl (D_box (g:=g0) rfl rp0 fun g1 w1 p1 hs q1=>?_)))
 have hfr:=hfr.ext hs
 refine Zg (.pointer none) rfl rfl ?_
 refine Zb (Zd (Zf ?_))
 have q2:=Zm (part_BoxBoxLoom_0).1 q1
 have q3:=Zm (part_BoxLoom_0).1 q2
 refine Zs (x:=.tmp 4) Try.isAgg26 Try.sizeOf26 q3 fun v4 r4 n8=>?_
 obtain ⟨y5,hy5,h⟩:=bsome h
 have q6:=PT_idx r4 hy5
 refine Zs (x:=.tmp 6) Try.isAgg3 Try.sizeOf3 q6 fun v7 r7 hl7=>?_
 obtain rfl:=Zj.1 r7
 have q8:=Zm (part_BoxBoxLoom_0).1 q1
 have q9:=Zm (part_BoxLoom_0).1 q8
 refine Zs (x:=.tmp 9) Try.isAgg26 Try.sizeOf26 q9 fun x5 i6 l8=>?_
 obtain ⟨y11,l5,h⟩:=bsome h
 have r8:=PT_idx i6 l5
 refine Zs (x:=.tmp 11) Try.isAgg3 Try.sizeOf3 r8 fun a9 v8 m8=>?_
 obtain rfl:=Zj.1 v8
 refine E_drawTL (g:=g1) (n:=10) [0,1,2,3,4,5,6,7,8,9] [] [0,1,2,3,4,5,6,7,8,9] rfl mixed (by kernel_rfl) trivial rfl ?_
 refine L_purL (c:=fPtr p1 0) rfl rfl .plain (Zc at_142_0 rfl (PT.ptr q1)) ?_
 refine L_purL (c:=fPtr (fPtr p1 0) 0) rfl rfl .plain (Zc at_40_0 rfl (PT.ptr q2)) ?_
 refine L_ldL (c:=v4) rfl rfl .plain (fun _ _ h=>h.ch) rfl n8 rfl ?_
 refine L_purL (c:=ePtr v4 (0:Int) 1) rfl rfl .plain (Zh (α:=Int) Try.underlying26 Try.sizeOf3 rfl r4 rfl hy5) ?_
 refine L_ldL (c:=.int .i64 (y5)) rfl rfl .plain (fun _ _ h=>h.ch) rfl hl7 rfl ?_
 refine L_purL (c:=fPtr p1 0) rfl rfl .plain (Zc at_142_0 rfl (PT.ptr q1)) ?_
 refine L_purL (c:=fPtr (fPtr p1 0) 0) rfl rfl .plain (Zc at_40_0 rfl (PT.ptr q8)) ?_
 refine L_ldL (c:=x5) rfl rfl .plain (fun _ _ h=>h.ch) rfl l8 rfl ?_
 refine L_purL (c:=ePtr x5 (1:Int) 1) rfl rfl .plain (Zh (α:=Int) Try.underlying26 Try.sizeOf3 rfl i6 rfl l5) ?_
 refine L_ldL (c:=.int .i64 (y11)) rfl rfl .plain (fun _ _ h=>h.ch) rfl m8 rfl ?_
 refine L_nl fun x6 x8 hs=>?_
 have hlt:Lt g1.m w1 x6 x8:=hs.ch
 have hfr:=hfr.ext hs
 clear hs
 refine TL_do hlt.w .plain rfl (D_makeMap (g:=x6) (encK pl_157) Int 8013 fun u3 y6 o0 hs m28=>?_)
 have hfr:=hfr.stp hs
 have hlt:=hlt.stp hs
 have i7:RV u3.m _ (⟨y5,y11,⟨⟩⟩:BoxMill) (.agg (setCh [[.int .i64 0],[.int .i64 0],[.map none]] [(0,.int .i64 (y5)),(1,.int .i64 (y11)),(2,o0)]).flatten.toArray):=RV_build rfl (rep_pair (rfl) (rep_pair (rfl) (rep_last (RV.cells (m28.ref (m:=u3.m) (w':=y6))))))
 generalize t5:(Value.agg (setCh [[.int .i64 0],[.int .i64 0],[.map none]] [(0,.int .i64 (y5)),(1,.int .i64 (y11)),(2,o0)]).flatten.toArray)=m7 at i7
 refine TL_pur hlt.w (v:=m7) (t5 ▸ P_build (vs:=[(0,.int .i64 (y5)),(1,.int .i64 (y11)),(2,o0)]) [[.int .i64 0],[.int .i64 0],[.map none]] lay_274 rfl rfl (.cons rfl (.cons rfl (.cons rfl .nil))) ⟨⟨_,rfl,rfl⟩,⟨⟨_,rfl,rfl⟩,⟨⟨_,rfl,cells_size (m28.ref (m:=u3.m) (w':=y6))⟩,trivial⟩⟩⟩) .plain rfl ?_
 refine TL_do hlt.w .plain rfl (D_boxF (g:=u3) (v:=m7) (off:=2) (u:=o0) rfl i7 (by rw [← t5]; simp only [setCh,mp_cells m28]; rfl) fun d9 k9 g8 hs k8 fc30=>?_)
 have hfr:=hfr.ext hs
 have hlt:=hlt.ext hs
 have m28:=m28.ext hs
 have hone500215:=PT.one k8
 refine TL_pur hlt.w (v:=g8) (P_assign rfl) .plain rfl ?_
 refine TL_nil hlt.w ?_
 clear hlt
 refine Zd (E_ret ?_)
 obtain rfl:=sinj h
 obtain ⟨gh,hxh,hmh,mph⟩:=MP.handm (i:=iO) hfr m28
 exact end1 rfl rfl (show _=g8 from rfl) ⟨gh,hxh,o0,hmh ▸ k8,hmh ▸ fc30,mph⟩
def f24 (x0:BeamTake) (x1:Int):Option (Int × Int):=
 jn (σ:=Unit) (fun _=>
  jn (σ:=Unit) (fun _=>
   (f81 x0).bind fun x5=>
   (quo64 (w64 (x1 * ((x5).Ratio).Den)) ((x5).Ratio).Num).bind fun u3=>
   some (u3,(0:Int))
   ) fun n8=>
  (f80 (([x1]:List Int))).bind fun y6=>
  bif (!y6) then
   some ((0:Int),(3:Int))
  else
   n8 ()
  ) fun k6=>
 (f79 x0).bind fun y9=>
 bif (y9 != (0 : Int)) then
  some ((0:Int),y9)
 else
  k6 ()
theorem en24:Enters Try.prog 24:=enters_of Try.func24 (by kernel_rfl) rfl
theorem wk24 {gI:Gh} {wI:World} {x0:BeamTake} {x1:Int} {up0:Value} (rp0:RV gI.m wI x0 up0) {r:Int × Int} (h:f24 x0 x1=some r):Fn Try.prog 24 #[up0,.int .i64 (x1)] gI wI (fun m w v=>∃ y0 y1,v=.tuple #[y0,y1]∧y0=.int .i64 (r.1)∧y1=.int .i64 (r.2)):=by
 unfold f24 at h
 refine fn_of_E Try.func24 rfl (Nat.le_of_ble_eq_true rfl) fun g0 hm hfr=>?_
 have rp0:RV g0.m wI x0 up0:=hm ▸ rp0
 show E _ 28 none _ _ _ _ _
 refine Zf (Za (Ze .plain rfl (D_box (g:=g0) rfl rp0 fun g1 w1 p1 hs q1=>?_)))
 have hfr:=hfr.ext hs
 refine Zg (.int .i64 (0)) rfl rfl ?_
 refine Zg (.int .i64 (0)) rfl rfl ?_
 refine Zb (Zd (Zq h (fun (s:Unit) e w=>∃ (g:Gh) ,Fr gI wI g w∧e 1=.int .i64 (x1)∧e 2=p1∧PT g.m w (x0:BeamTake) p1) (fun X6 k6 hk6 h=>?_) ?_))
 ·refine Zf (Za (Ze .plain rfl (D_load (g := g1) Try.isAgg68 Try.sizeOf68 rfl q1 fun v7 r7 => ?_)))
  obtain ⟨y9,n9,h⟩:=bsome h
  refine Ze .plain rfl (Zp (g:=g1) (vs:=[v7]) en79 (.cons rfl .nil) (wk79 r7 n9) fun g8 w8_ v8 hs hr=>?_)
  have hfr:=hfr.ext hs
  have q1:=q1.ext hs
  subst hr
  refine Zg (.int .i64 (y9)) rfl rfl ?_
  refine Zb (Zd (Zf (Za (Zn (.int .i64 (y9)) rfl rfl ?_))))
  refine EL_in (.bool ((y9 != (0:Int)))) rfl rfl rfl rfl ?_
  refine Zb (Zd ?_)
  rcases Zt h with ⟨l5,h⟩ | ⟨l5,h⟩
  ·refine E_ct l5 rfl ?_
   refine Zf (Za (Zn (.int .i64 (y9)) rfl rfl ?_))
   refine Zg (.int .i64 (0)) rfl rfl ?_
   refine Zg (.int .i64 (y9)) rfl rfl ?_
   refine Zb (Zd (E_ret (thn_r ?_)))
   obtain rfl:=sinj h
   exact end2 rfl rfl (show _=.int .i64 (0) from rfl) (show _=.int .i64 (y9) from rfl) ⟨_,hfr,_,_,rfl,rfl,rfl⟩
  ·refine E_cf l5 rfl ?_
   exact Zu (Zd (hk6 () _ _ ⟨g8,hfr,rfl,rfl,q1⟩ h))
 ·rintro _ oB zB ⟨u9, hfr, i6, m7, o0⟩ h
  refine Zq h (fun (s:Unit) e w=>∃ (g:Gh) ,Fr gI wI g w∧e 1=.int .i64 (x1)∧e 2=p1∧PT g.m w (x0:BeamTake) p1) (fun X16 n8 a9 h=>?_) ?_
  ·refine Zf (Za (Zo i6 rfl ?_))
   refine Ze .plain rfl (D_buildSlice (g:=u9) 3014 (xs:=([x1]:List Int)) (vs:=[.int .i64 (x1)]) Try.underlying26 Try.sizeOf3 Try.zeroValue3 rfl rfl (.cons rfl .nil) (RVs.cons (Zj.2 rfl) RVs.nil) rfl rfl fun z9 cC bA hs o17 iA hxt hfl=>?_)
   have hfr:=hfr.stp hs
   have o0:=o0.stp hs
   obtain ⟨y6,d9,h⟩:=bsome h
   refine Ze .plain rfl (Zp (g:=z9) (vs:=[bA]) en80 (.cons rfl .nil) (wk80 iA d9) fun rA tB mC hs hr=>?_)
   have hfr:=hfr.ext hs
   have o0:=o0.ext hs
   subst hr
   refine EL_p (.bool (!y6)) (P_not rfl) rfl ?_
   refine Zb (Zd ?_)
   rcases Zt h with ⟨t5,h⟩ | ⟨t5,h⟩
   ·refine E_ct t5 rfl ?_
    refine Zf (Za (Zg (.int .i64 (0)) rfl rfl ?_))
    refine Zg (.int .i64 (3)) rfl rfl ?_
    refine Zb (Zd (E_ret (thn_r ?_)))
    obtain rfl:=sinj h
    exact end2 rfl rfl (show _=.int .i64 (0) from rfl) (show _=.int .i64 (3) from rfl) ⟨_,hfr,_,_,rfl,rfl,rfl⟩
   ·refine E_cf t5 rfl ?_
    exact Zu (Zd (a9 () _ _ ⟨rA,hfr,i6,m7,o0⟩ h))
  ·rintro _ vB qC ⟨r8, hfr, k8, l8, m8⟩ h
   refine Zf (Za (Ze .plain rfl (D_load (g:=r8) Try.isAgg68 Try.sizeOf68 l8 m8 fun yA aB=>?_)))
   obtain ⟨x5,k9,h⟩:=bsome h
   refine Ze .plain rfl (Zp (g:=r8) (vs:=[yA]) en81 (.cons rfl .nil) (wk81 aB k9) fun dB yB iB hs hr=>?_)
   have hfr:=hfr.ext hs
   have i7:=hr
   refine Ze .plain rfl (D_allocOc (g:=dB) 2007 (⟨⟨0,0⟩⟩:BeamRatio) Try.zeroValue182 (fun m w=>⟨_,(rep_two rep_int rep_int),rfl⟩) fun lB rC x6 hs b25 cb=>?_)
   have hfr:=hfr.stp hs
   have i7:=i7.stp hs
   clear cb
   refine Ze .plain rfl (D_storeOc (g:=lB) (v:=iB) Try.sizeOf182 rfl b25 rfl i7 fun x8 uC hs b26 cb=>?_)
   clear cb
   have hfr:=hfr.stp hs
   refine Zb (Zd (Zf (Za (Zo k8 rfl ?_))))
   refine EL_p (fPtr x6 0) (Zc at_182_0 rfl (OB.ptr b26)) rfl ?_
   refine EL_p (fPtr x6 1) (P_fieldAddr2 (o1:=0) rfl at_180_1 rfl (OB.ptr b26)) rfl ?_
   refine Ze .plain rfl (D_loadF (g:=x8) (SubS.comp part_BeamRatio_0 part_Ratio_1 rfl).1 Try.isAgg3 Try.sizeOf3 rfl b26 fun vC mB=>?_)
   obtain rfl:=Zj.1 mB
   refine EL_in (.int .i64 ((w64 (x1 * ((x5).Ratio).Den)))) rfl rfl rfl rfl ?_
   refine EL_p (fPtr x6 0) (Zc at_182_0 rfl (OB.ptr b26)) rfl ?_
   refine EL_p (fPtr x6 0) (P_fieldAddr2 (o1:=0) rfl at_180_0 rfl (OB.ptr b26)) rfl ?_
   refine Ze .plain rfl (D_loadF (g:=x8) (SubS.comp part_BeamRatio_0 part_Ratio_0 rfl).1 Try.isAgg3 Try.sizeOf3 rfl b26 fun aD nB=>?_)
   obtain rfl:=Zj.1 nB
   obtain ⟨u3,l9,h⟩:=bsome h
   refine EL_p (.int .i64 (u3)) (P_int rfl rfl (congrArg (Option.map (Value.int .i64)) l9)) rfl ?_
   refine Zg (.int .i64 (u3)) rfl rfl ?_
   refine Zg (.int .i64 (0)) rfl rfl ?_
   refine Zb (Zd (E_ret ?_))
   obtain rfl:=sinj h
   exact end2 rfl rfl (show _=.int .i64 (u3) from rfl) (show _=.int .i64 (0) from rfl) ⟨_,hfr,_,_,rfl,rfl,rfl⟩
def f70 (x0:BoxLoom) (x1:List BoxPick):Option (BoxBoxLoom × BoxRun × Int × Int):=
 jn (σ:=BoxBoxLoom × BoxRun) (fun (x6,k8)=>
  (f65 x6 ((fun a0 a1=>f143 a0 a1))).bind fun r8=>
  (f142 r8 x1).bind fun y71=>
  some (x6,y71.1,y71.2.1,y71.2.2)
  ) fun v8=>
 (f141 x0 x1).bind fun u3=>
 bif (u3.2 != (0 : Int)) then
  some (u3.1,(⟨[],⟨(⟨List.toArray [(⟨List.toArray [0,0,0,0],rfl⟩:Vector Int 4),(⟨List.toArray [0,0,0,0],rfl⟩:Vector Int 4)],rfl⟩:Vector (Vector Int 4) 2),⟨0,0⟩⟩,0⟩:BoxRun),(0:Int),u3.2)
 else
  v8 (u3.1,(⟨[],⟨(⟨List.toArray [(⟨List.toArray [0,0,0,0],rfl⟩:Vector Int 4),(⟨List.toArray [0,0,0,0],rfl⟩:Vector Int 4)],rfl⟩:Vector (Vector Int 4) 2),⟨0,0⟩⟩,0⟩:BoxRun))
theorem en70:Enters Try.prog 70:=enters_of Try.func70 (by kernel_rfl) rfl
theorem wk70 {gI:Gh} {wI:World} {x0:BoxLoom} {x1:List BoxPick} {up0:Value} (rp0:RV gI.m wI x0 up0) {up1:Value} (rp1:RV gI.m wI x1 up1) {r:BoxBoxLoom × BoxRun × Int × Int} (h:f70 x0 x1=some r):Fn Try.prog 70 #[up0,up1] gI wI (fun m w v=>∃ y0 y1 y2 y3,v=.tuple #[y0,y1,y2,y3]∧RV m w (r.1) y0∧RV m w (r.2.1) y1∧y2=.int .i64 (r.2.2.1)∧y3=.int .i64 (r.2.2.2)):=by
 unfold f70 at h
 refine fn_of_E Try.func70 rfl (Nat.le_of_ble_eq_true rfl) fun g0 hm hfr=>?_
 have rp0:RV g0.m wI x0 up0:=hm ▸ rp0
 have rp1:RV g0.m wI x1 up1:=hm ▸ rp1
 show E _ 31 none _ _ _ _ _
 refine Zf (Za (Ze .plain rfl (D_box (g:=g0) rfl rp0 fun g1 w1 p1 hs q1=>?_)))
 have hfr:=hfr.ext hs
 have rp1:=rp1.ext hs
 refine Ze .plain rfl (D_allocOc (g:=g1) 2004 (⟨⟨[],[],[]⟩⟩:BoxBoxLoom) Try.zeroValue142 (fun m w=>⟨_,(rep_two rep_nil (rep_two rep_nil rep_nil)),rfl⟩) fun g2 w2 p2 hs b2 cb=>?_)
 have hfr:=hfr.stp hs
 have rp1:=rp1.stp hs
 have q1:=q1.stp hs
 have iD:OSF 2004 60400 0 g2 w2 3 142 ([]:List Int) p2:=cb.osf (by rfl)
 have jD:OSF 2004 60401 1 g2 w2 3 142 ([]:List Int) p2:=cb.osf (by rfl)
 have lD:OSF 2004 60402 2 g2 w2 37 142 ([]:List BoxShuttle) p2:=cb.osf (by rfl)
 clear cb
 refine Ze .plain rfl (D_allocOc (g:=g2) 2005 (⟨[],⟨(⟨List.toArray [(⟨List.toArray [0,0,0,0],rfl⟩:Vector Int 4),(⟨List.toArray [0,0,0,0],rfl⟩:Vector Int 4)],rfl⟩:Vector (Vector Int 4) 2),⟨0,0⟩⟩,0⟩:BoxRun) Try.zeroValue164 (fun m w=>⟨_,(rep_two rep_nil (rep_two (rep_two (rep_vec (flat_chunk (rep_vec (flat_chunk rep_int (flat_chunk rep_int (flat_chunk rep_int (flat_chunk rep_int flat_nil)))) rfl) (flat_chunk (rep_vec (flat_chunk rep_int (flat_chunk rep_int (flat_chunk rep_int (flat_chunk rep_int flat_nil)))) rfl) flat_nil)) rfl) (rep_two rep_int rep_int)) rep_int)),rfl⟩) fun g3 w3 p3 hs b3 cb=>?_)
 have hfr:=hfr.stp hs
 have rp1:=rp1.stp hs
 have q1:=q1.stp hs
 have b2:=b2.stp hs rfl
 have i6:OSF 2005 60500 0 g3 w3 3 164 ([]:List Int) p3:=cb.osf (by rfl)
 clear cb
 refine Zg (.int .i64 (0)) rfl rfl ?_
 refine Zg (.int .i64 (0)) rfl rfl ?_
 refine Zb (Zd (Zq h (fun (s:BoxBoxLoom × BoxRun) e w=>∃ (g:Gh) ,Fr gI wI g w∧e 1=up1∧RV g.m w (x1:List BoxPick) up1∧e 4=p2∧OB 2004 g w 142 (s.1:BoxBoxLoom) p2∧e 5=p3∧OB 2005 g w 164 (s.2:BoxRun) p3∧OSF 2005 60500 0 g w 3 164 ((s.2).thrown) p3) (fun X34 v8 d9 h=>?_) ?_))
 ·refine Zf (Za (Ze .plain rfl (D_load (g := g3) Try.isAgg40 Try.sizeOf40 rfl q1 fun nB oB => ?_)))
  refine Zn up1 rfl rfl ?_
  obtain ⟨u3,k9,h⟩:=bsome h
  refine Ze .plain rfl (Zp (g:=g3) (vs:=[nB,up1]) en141 (.cons rfl (.cons rfl .nil)) (wk141 oB rp1 k9) fun tB nD uD hs hr=>?_)
  have hfr:=hfr.ext hs
  have rp1:=rp1.ext hs
  have b2:=b2.ext hs
  have i6:=i6.ext hs
  have b3:=b3.ext hs
  obtain ⟨y6,cD,rfl,l8,rfl⟩:=hr
  refine Zn (.tuple #[y6,.int .i64 (u3.2)]) rfl rfl ?_
  refine EL_p y6 (Zi rfl rfl) rfl ?_
  refine EL_p (.int .i64 (u3.2)) (Zi rfl rfl) rfl ?_
  refine Ze .plain rfl (D_storeOc (g:=tB) (v:=y6) Try.sizeOf142 rfl b2 rfl l8 fun x8 vD hs b38 cb=>?_)
  clear cb
  have hfr:=hfr.stp hs
  have rp1:=rp1.stp hs
  have i6:=i6.stp hs rfl
  have b3:=b3.stp hs rfl
  refine Zg (.int .i64 (u3.2)) rfl rfl ?_
  refine Zb (Zd (Zf (Za (Zn (.int .i64 (u3.2)) rfl rfl ?_))))
  refine EL_in (.bool ((u3.2 != (0:Int)))) rfl rfl rfl rfl ?_
  refine Zb (Zd ?_)
  rcases Zt h with ⟨g8,h⟩ | ⟨g8,h⟩
  ·refine E_ct g8 rfl ?_
   refine Zf (L_selfO Try.isAgg142 Try.sizeOf142 rfl b38 fun vB l9 n9=>?_)
   refine L_selfO Try.isAgg164 Try.sizeOf164 rfl b3 fun yB u9 y9=>?_
   refine E_drawL (g:=x8) (n:=7) [(3,(fun _ _ _=>True)),(4,(fun _ _ _=>True))] [0,1,2,3,4,5,6] rfl mixed (by kernel_rfl) (⟨fun _=>(fun _ _ _ _ _ _=>trivial),fun _=>(fun _ _ _ _ _ _=>trivial),trivial⟩) ?_
   refine L_ld (c:=vB) rfl rfl .plain (fun _ _ h=>⟨h.ch,fun b hb _=>h.below.block b hb⟩) (l9 _) rfl ?_
   refine L_ld (c:=yB) rfl rfl .plain (fun _ _ h=>⟨h.ch,fun b hb _=>h.below.block b hb⟩) (u9 _) rfl ?_
   refine L_p (.int .i64 (u3.2)) rfl rfl (Zk rfl) ?_
   refine L_do (φ:=fun _ _ _=>True) rfl rfl .plain (fun g w hd=>n9 _ _ _ g w ⟨hd.1.ch,fun b hb _=>hd.1.below.block b hb⟩ rfl rfl) (fun xD hv=>?_)
   clear hv
   refine L_do (φ:=fun _ _ _=>True) rfl rfl .plain (fun g w hd=>y9 _ _ _ g w ⟨hd.1.ch,fun b hb _=>hd.1.below.block b hb⟩ rfl rfl) (fun yD hv=>?_)
   clear hv
   refine L_p (.int .i64 (0)) rfl rfl (P_assign rfl) ?_
   refine L_p (.int .i64 (u3.2)) rfl rfl (P_assign rfl) ?_
   refine L_nl fun zD aE hs=>?_
   have hfr:=hfr.ext hs
   have b38:=b38.ext hs
   have b3:=b3.ext hs
   clear hs
   refine Zb (Zd (E_ret (thn_r ?_)))
   obtain rfl:=sinj h
   obtain ⟨ad63,cv63,hp63,z9,cr63⟩:=ob_read Try.isAgg142 Try.sizeOf142 b38
   obtain ⟨ad65,cv65,hp65,bA,cr65⟩:=ob_read Try.isAgg164 Try.sizeOf164 b3
   exact endm_cctt rfl rfl ((show _=p2 from rfl).trans hp63) z9 ((show _=p3 from rfl).trans hp65) bA (show _=.int .i64 (0) from rfl) (show _=.int .i64 (u3.2) from rfl) ⟨_,hfr,_,_,_,_,rfl,cr63,cr65,rfl,rfl⟩
  ·refine E_cf g8 rfl ?_
   exact Zu (Zd (d9 (u3.1,(⟨[],⟨(⟨List.toArray [(⟨List.toArray [0,0,0,0],rfl⟩:Vector Int 4),(⟨List.toArray [0,0,0,0],rfl⟩:Vector Int 4)],rfl⟩:Vector (Vector Int 4) 2),⟨0,0⟩⟩,0⟩:BoxRun)) _ _ ⟨x8,hfr,rfl,rp1,rfl,b38,rfl,b3,i6⟩ h))
 ·rintro ⟨x6, k8⟩ oD bE ⟨a9, hfr, m8, i7, t5, o0, x5, l5, u5_0_66⟩ h
  refine Zf (Za (Ze .plain rfl (D_loadO (g:=a9) Try.isAgg142 Try.sizeOf142 t5 o0 fun zB cC=>?_)))
  obtain ⟨r8,iA,h⟩:=bsome h
  refine Ze .plain rfl (Zp (g:=a9) (vs:=[zB,.func (.func 143) #[] #[]]) en65 (.cons rfl (.cons rfl .nil)) (wk65 cC ⟨143,#[],#[],rfl,en143,fun g' w' hch a0 a1 b0 b1 r hu0 hu1 hr=>by obtain rfl:=Zj.1 hu0; exact Fn.mono (wk143 hu1  hr) fun _ _ _ h=>Zj.2 h⟩ iA) fun mC sD qC hs hr=>?_)
  have hfr:=hfr.ext hs
  have i7:=i7.ext hs
  have o0:=o0.ext hs
  have l5:=l5.ext hs
  have rC:=hr
  refine Zo m8 rfl ?_
  obtain ⟨y71,rA,h⟩:=bsome h
  refine Ze .plain rfl (Zp (g:=mC) (vs:=[qC,up1]) en142 (.cons rfl (.cons rfl .nil)) (wk142 rC i7 rA) fun uC tD iE hs hr=>?_)
  have hfr:=hfr.ext hs
  have o0:=o0.ext hs
  have l5:=l5.ext hs
  obtain ⟨m7,eD,gD,rfl,n8,rfl,rfl⟩:=hr
  refine Zn (.tuple #[m7,.int .i64 (y71.2.1),.int .i64 (y71.2.2)]) rfl rfl ?_
  refine EL_p m7 (Zi rfl rfl) rfl ?_
  refine EL_p (.int .i64 (y71.2.1)) (Zi rfl rfl) rfl ?_
  refine EL_p (.int .i64 (y71.2.2)) (Zi rfl rfl) rfl ?_
  refine Ze .plain rfl (D_storeOc (g:=uC) (v:=m7) Try.sizeOf164 x5 l5 rfl n8 fun vC lE hs b72 cb=>?_)
  clear cb
  have hfr:=hfr.stp hs
  have o0:=o0.stp hs rfl
  refine Zg (.int .i64 (y71.2.1)) rfl rfl ?_
  refine Zg (.int .i64 (y71.2.2)) rfl rfl ?_
  refine Zb (Zd (Zf (L_selfO Try.isAgg142 Try.sizeOf142 rfl o0 fun aD yA aB=>?_)))
  refine L_selfO Try.isAgg164 Try.sizeOf164 rfl b72 fun bD dB iB=>?_
  refine E_drawL (g:=vC) (n:=8) [(4,(fun _ _ _=>True)),(5,(fun _ _ _=>True))] [0,1,2,3,4,5,6,7] rfl mixed (by kernel_rfl) (⟨fun _=>(fun _ _ _ _ _ _=>trivial),fun _=>(fun _ _ _ _ _ _=>trivial),trivial⟩) ?_
  refine L_ld (c:=aD) rfl rfl .plain (fun _ _ h=>⟨h.ch,fun b hb _=>h.below.block b hb⟩) (yA _) t5 ?_
  refine L_ld (c:=bD) rfl rfl .plain (fun _ _ h=>⟨h.ch,fun b hb _=>h.below.block b hb⟩) (dB _) x5 ?_
  refine L_p (.int .i64 (y71.2.1)) rfl rfl (Zk rfl) ?_
  refine L_p (.int .i64 (y71.2.2)) rfl rfl (Zk rfl) ?_
  refine L_do (φ:=fun _ _ _=>True) rfl rfl .plain (fun g w hd=>aB _ _ _ g w ⟨hd.1.ch,fun b hb _=>hd.1.below.block b hb⟩ t5 rfl) (fun mE hv=>?_)
  clear hv
  refine L_do (φ:=fun _ _ _=>True) rfl rfl .plain (fun g w hd=>iB _ _ _ g w ⟨hd.1.ch,fun b hb _=>hd.1.below.block b hb⟩ x5 rfl) (fun oE hv=>?_)
  clear hv
  refine L_p (.int .i64 (y71.2.1)) rfl rfl (P_assign rfl) ?_
  refine L_p (.int .i64 (y71.2.2)) rfl rfl (P_assign rfl) ?_
  refine L_nl fun rE uE hs=>?_
  have hfr:=hfr.ext hs
  have o0:=o0.ext hs
  have b72:=b72.ext hs
  clear hs
  refine Zb (Zd (E_ret ?_))
  obtain rfl:=sinj h
  obtain ⟨ad95,cv95,hp95,lB,cr95⟩:=ob_read Try.isAgg142 Try.sizeOf142 o0
  obtain ⟨ad96,cv96,hp96,mB,cr96⟩:=ob_read Try.isAgg164 Try.sizeOf164 b72
  exact endm_cctt rfl rfl ((show _=p2 from t5).trans hp95) lB ((show _=p3 from x5).trans hp96) mB (show _=.int .i64 (y71.2.1) from rfl) (show _=.int .i64 (y71.2.2) from rfl) ⟨_,hfr,_,_,_,_,rfl,cr95,cr96,rfl,rfl⟩
def f10 (x0:BoxLoom) (x1:List Int):Option ((List BoxPick) × Int × Int × Int):=
 (f62 x0).bind fun y4=>
 jn (σ:=(List BoxPick)) (fun cG=>
  (f64 x1).bind fun rA=>
  (f65 (y4.1) ((fun a0 a1=>f66 a0 a1))).bind fun y23=>
  jn (σ:=(List BoxPick)) (fun eG=>
   (f67 (y4.1)).bind fun qC=>
   (f68 big qC (([]:List (BoxPoint × Int))) rA ((⟨0,0,y23⟩:BoxPoint))).bind fun rC=>
   Option.bind (α:=(List BoxPick) × (List (BoxPoint × Int))) (
    lp (σ:=(List BoxPick) × BoxPoint × (List (BoxPoint × Int))) (fun cH (lB,yA,n8)=>
     jn (σ:=Unit) (fun _=>
      Option.bind (α:=(List BoxPick) × BoxPoint × (List (BoxPoint × Int))) (
       (f69 qC n8 rA yA).bind fun iD=>
       (apnd 16 lB (([iD.1]:List BoxPick))).bind fun dH=>
       some (dH,iD.2.1,iD.2.2)
       ) fun (mB,mC,r8)=>
      cH (mB,mC,r8)
      ) fun gH=>
     bif (decide ((yA).group < ((rA).length : Int))) then
      gH ()
     else
      some (lB,n8)
     ) big (eG,(⟨0,0,y23⟩:BoxPoint),rC.2)
    ) fun (bD,uC)=>
   some (bD,rC.1,(0:Int),(0:Int))
   ) fun aK=>
  lp (σ:=(List BoxPick) × Int) (fun bK (cD,i6)=>
   bif (decide (i6 < ((x1).length : Int))) then
    jn (σ:=(List BoxPick)) (fun yD=>
     bK (yD,(w64 (i6 + (1:Int))))
     ) fun cK=>
    (f67 (y4.1)).bind fun dK=>
    (cut rA 0 (w64 (i6 + (1:Int)))).bind fun y84=>
    (f68 big dK (([]:List (BoxPoint × Int))) y84 ((⟨0,0,y23⟩:BoxPoint))).bind fun iH=>
    bif (decide (iH.1 ≥ (1073741824 : Int))) then
     some ([],(0:Int),i6,(9:Int))
    else
     cK (cD)
   else
    aK (cD)
   ) big (cG,(0:Int))
  ) fun lK=>
 bif (y4.2 != (0 : Int)) then
  some ([],(0:Int),(0:Int),y4.2)
 else
  bif (decide (((x1).length : Int) > (24 : Int))) then
   some ([],(0:Int),(0:Int),(5:Int))
  else
   (f63 x1).bind fun gG=>
   bif (!gG) then
    some ([],(0:Int),(0:Int),(2:Int))
   else
    lK ([])
theorem en10:Enters Try.prog 10:=enters_of Try.func10 (by kernel_rfl) rfl
theorem wk10 {gI:Gh} {wI:World} {x0:BoxLoom} {x1:List Int} {up0:Value} (rp0:RV gI.m wI x0 up0) {up1:Value} (rp1:RV gI.m wI x1 up1) {r:(List BoxPick) × Int × Int × Int} (h:f10 x0 x1=some r):Fn Try.prog 10 #[up0,up1] gI wI (fun m w v=>∃ y0 y1 y2 y3,v=.tuple #[y0,y1,y2,y3]∧RV m w (r.1) y0∧y1=.int .i64 (r.2.1)∧y2=.int .i64 (r.2.2.1)∧y3=.int .i64 (r.2.2.2)):=by
 unfold f10 at h
 refine fn_of_E Try.func10 rfl (Nat.le_of_ble_eq_true rfl) fun g0 hm hfr=>?_
 have rp0:RV g0.m wI x0 up0:=hm ▸ rp0
 have rp1:RV g0.m wI x1 up1:=hm ▸ rp1
 show E _ 81 none _ _ _ _ _
 refine Zf (Za (Ze .plain rfl (D_box (g:=g0) rfl rp0 fun g1 w1 p1 hs q1=>?_)))
 have hfr:=hfr.ext hs
 have rp1:=rp1.ext hs
 refine Zg (.slice none 0 0) rfl rfl ?_
 iterate 3 refine Zg (.int .i64 (0)) rfl rfl ?_
 refine Zb (Zd (Zf (Za (Ze .plain rfl (D_load (g:=g1) Try.isAgg40 Try.sizeOf40 rfl q1 fun v2 r2=>?_)))))
 obtain ⟨y4,qM,h⟩:=bsome h
 refine Ze .plain rfl (Zp (g:=g1) (vs:=[v2]) en62 (.cons rfl .nil) (wk62 r2 qM) fun g3 w3_ v3 hs hr=>?_)
 have hfr:=hfr.ext hs
 have rp1:=rp1.ext hs
 obtain ⟨cF,sN,rfl,dF,rfl⟩:=hr
 refine Zn (.tuple #[cF,.int .i64 (y4.2)]) rfl rfl ?_
 refine EL_p cF (Zi rfl rfl) rfl ?_
 refine EL_p (.int .i64 (y4.2)) (Zi rfl rfl) rfl ?_
 refine Ze .plain rfl (D_allocOc (g:=g3) 2008 (⟨⟨[],[],[]⟩⟩:BoxBoxLoom) Try.zeroValue142 (fun m w=>⟨_,(rep_two rep_nil (rep_two rep_nil rep_nil)),rfl⟩) fun g5 w5 p5 hs b5 cb=>?_)
 have hfr:=hfr.stp hs
 have rp1:=rp1.stp hs
 have dF:=dF.stp hs
 have tN:OSF 2008 60800 0 g5 w5 3 142 ([]:List Int) p5:=cb.osf (by rfl)
 have uN:OSF 2008 60801 1 g5 w5 3 142 ([]:List Int) p5:=cb.osf (by rfl)
 have vN:OSF 2008 60802 2 g5 w5 37 142 ([]:List BoxShuttle) p5:=cb.osf (by rfl)
 clear cb
 refine Ze .plain rfl (D_storeOc (g:=g5) (v:=cF) Try.sizeOf142 rfl b5 rfl dF fun g6 w6 hs b6 cb=>?_)
 clear cb
 have hfr:=hfr.stp hs
 have rp1:=rp1.stp hs
 refine Zg (.int .i64 (y4.2)) rfl rfl ?_
 refine Zb (Zd (Zq h (fun (s:(List BoxPick)) e w=>∃ (g:Gh) (v4:Value),Fr gI wI g w∧e 1=up1∧RV g.m w (x1:List Int) up1∧e 4=v4∧RV g.m w (s:List BoxPick) v4∧OS 1004 g w 151 (s:List BoxPick) v4∧e 8=p5∧OB 2008 g w 142 (y4.1:BoxBoxLoom) p5) (fun X12 lK zK h=>?_) ?_))
 ·refine Zr ?_
  refine Zf (Za (Zn (.int .i64 (y4.2)) rfl rfl ?_))
  refine EL_in (.bool ((y4.2 != (0:Int)))) rfl rfl rfl rfl ?_
  refine Zg (.bool ((y4.2 != (0:Int)))) rfl rfl ?_
  refine Zb (Zd ?_)
  rcases Zt h with ⟨eF,h⟩ | ⟨eF,h⟩
  ·refine E_ct eF rfl ?_
   refine Zf (Za (Zn (.int .i64 (y4.2)) rfl rfl ?_))
   refine Zg (.slice none 0 0) rfl rfl ?_
   refine Zg (.int .i64 (0)) rfl rfl ?_
   refine Zg (.int .i64 (0)) rfl rfl ?_
   refine Zg (.int .i64 (y4.2)) rfl rfl ?_
   refine Zb (Zd (E_ret (blk_r ?_)))
   refine thn_r ?_
   obtain rfl:=sinj h
   exact end4 rfl rfl (show _=.slice none 0 0 from rfl) (show _=.int .i64 (0) from rfl) (show _=.int .i64 (0) from rfl) (show _=.int .i64 (y4.2) from rfl) ⟨_,hfr,_,_,_,_,rfl,RV_nil,rfl,rfl,rfl⟩
  ·refine E_cf eF rfl ?_
   refine Zf (Za (Zn up1 rfl rfl ?_))
   refine EL_p (.int .i64 ((x1).length:Int)) (P_len Try.underlying26 rfl rp1) rfl ?_
   refine EL_in (.bool ((decide (((x1).length:Int) > (24:Int))))) rfl rfl rfl rfl ?_
   refine Zg (.bool ((decide (((x1).length:Int) > (24:Int))))) rfl rfl ?_
   refine Zb (Zd ?_)
   rcases Zt h with ⟨rF,h⟩ | ⟨rF,h⟩
   ·refine E_ct rF rfl ?_
    refine Zf (Za (Zg (.slice none 0 0) rfl rfl ?_))
    refine Zg (.int .i64 (0)) rfl rfl ?_
    refine Zg (.int .i64 (0)) rfl rfl ?_
    refine Zg (.int .i64 (5)) rfl rfl ?_
    refine Zb (Zd (E_ret (blk_r ?_)))
    refine thn_r ?_
    obtain rfl:=sinj h
    exact end4 rfl rfl (show _=.slice none 0 0 from rfl) (show _=.int .i64 (0) from rfl) (show _=.int .i64 (0) from rfl) (show _=.int .i64 (5) from rfl) ⟨_,hfr,_,_,_,_,rfl,RV_nil,rfl,rfl,rfl⟩
   ·refine E_cf rF rfl ?_
    refine Zf (Za (Zn up1 rfl rfl ?_))
    obtain ⟨gG,aL,h⟩:=bsome h
    refine Ze .plain rfl (Zp (g:=g6) (vs:=[up1]) en63 (.cons rfl .nil) (wk63 rp1 aL) fun rM xN iP hs hr=>?_)
    have hfr:=hfr.ext hs
    have rp1:=rp1.ext hs
    have b6:=b6.ext hs
    subst hr
    refine EL_p (.bool (!gG)) (P_not rfl) rfl ?_
    refine Zg (.bool (!gG)) rfl rfl ?_
    refine Zb (Zd ?_)
    rcases Zt h with ⟨sF,h⟩ | ⟨sF,h⟩
    ·refine E_ct sF rfl ?_
     refine Zf (Za (Zg (.slice none 0 0) rfl rfl ?_))
     refine Zg (.int .i64 (0)) rfl rfl ?_
     refine Zg (.int .i64 (0)) rfl rfl ?_
     refine Zg (.int .i64 (2)) rfl rfl ?_
     refine Zb (Zd (E_ret (blk_r ?_)))
     refine thn_r ?_
     obtain rfl:=sinj h
     exact end4 rfl rfl (show _=.slice none 0 0 from rfl) (show _=.int .i64 (0) from rfl) (show _=.int .i64 (0) from rfl) (show _=.int .i64 (2) from rfl) ⟨_,hfr,_,_,_,_,rfl,RV_nil,rfl,rfl,rfl⟩
    ·refine E_cf sF rfl ?_
     exact Zu (blk_n (Zd (zK ([]) _ _ ⟨rM,(.slice none 0 0),hfr,rfl,rp1,rfl,RV_nil,OS.nil,rfl,b6⟩ h)))
 ·rintro cG yN jP ⟨sM, vI, hfr, hG, v8, yI, k9, l9, iG, x8⟩ h
  refine Zf (Za (Zo hG rfl ?_))
  obtain ⟨rA,hy20,h⟩:=bsome h
  refine Ze .plain rfl (Zp (g:=sM) (vs:=[up1]) en64 (.cons rfl .nil) (wk64 v8 hy20) fun mK zN l8 hs hr=>?_)
  have hfr:=hfr.ext hs
  have v8:=v8.ext hs
  have k9:=k9.ext hs
  have l9:=l9.ext hs
  have x8:=x8.ext hs
  have jD:=hr
  refine Zg l8 rfl rfl ?_
  refine Zb (Zd (Zf (Za (Ze .plain rfl (D_loadO (g:=mK) Try.isAgg142 Try.sizeOf142 iG x8 fun tM uM=>?_)))))
  obtain ⟨y23,bL,h⟩:=bsome h
  refine Ze .plain rfl (Zp (g:=mK) (vs:=[tM,.func (.func 66) #[] #[]]) en65 (.cons rfl (.cons rfl .nil)) (wk65 uM ⟨66,#[],#[],rfl,en66,fun g' w' hch a0 a1 b0 b1 r hu0 hu1 hr=>by obtain rfl:=Zj.1 hu0; exact Fn.mono (wk66 hu1  hr) fun _ _ _ h=>Zj.2 h⟩ bL) fun nK aO jH hs hr=>?_)
  have hfr:=hfr.ext hs
  have v8:=v8.ext hs
  have k9:=k9.ext hs
  have l9:=l9.ext hs
  have x8:=x8.ext hs
  have jD:=jD.ext hs
  have oK:=hr
  have jG:RV nK.m _ (⟨0,0,y23⟩:BoxPoint) (.agg (setCh [[.int .i64 0],[.int .i64 0],[.int .i64 0,.int .i64 0,.int .i64 0,.int .i64 0,.int .i64 0,.int .i64 0,.int .i64 0,.int .i64 0,.int .i64 0,.int .i64 0]] [(2,jH)]).flatten.toArray):=RV_build rfl (rep_pair (rep_int) (rep_pair (rep_int) (rep_last (RV.cells oK))))
  generalize dL:(Value.agg (setCh [[.int .i64 0],[.int .i64 0],[.int .i64 0,.int .i64 0,.int .i64 0,.int .i64 0,.int .i64 0,.int .i64 0,.int .i64 0,.int .i64 0,.int .i64 0,.int .i64 0]] [(2,jH)]).flatten.toArray)=pK at jG
  refine EL_p pK (dL ▸ P_build (vs:=[(2,jH)]) [[.int .i64 0],[.int .i64 0],[.int .i64 0,.int .i64 0,.int .i64 0,.int .i64 0,.int .i64 0,.int .i64 0,.int .i64 0,.int .i64 0,.int .i64 0,.int .i64 0]] lay_157 rfl rfl (.cons rfl .nil) ⟨⟨_,rfl,cells_size oK⟩,trivial⟩) rfl ?_
  refine Ze .plain rfl (D_allocOc (g:=nK) 2010 (⟨0,0,⟨(⟨List.toArray [(⟨List.toArray [0,0,0,0],rfl⟩:Vector Int 4),(⟨List.toArray [0,0,0,0],rfl⟩:Vector Int 4)],rfl⟩:Vector (Vector Int 4) 2),⟨0,0⟩⟩⟩:BoxPoint) Try.zeroValue157 (fun m w=>⟨_,(rep_two rep_int (rep_two rep_int (rep_two (rep_vec (flat_chunk (rep_vec (flat_chunk rep_int (flat_chunk rep_int (flat_chunk rep_int (flat_chunk rep_int flat_nil)))) rfl) (flat_chunk (rep_vec (flat_chunk rep_int (flat_chunk rep_int (flat_chunk rep_int (flat_chunk rep_int flat_nil)))) rfl) flat_nil)) rfl) (rep_two rep_int rep_int)))),rfl⟩) fun vM kP uD hs b25 cb=>?_)
  have hfr:=hfr.stp hs
  have v8:=v8.stp hs
  have k9:=k9.stp hs
  have l9:=l9.stp hs rfl
  have x8:=x8.stp hs rfl
  have jD:=jD.stp hs
  have jG:=jG.stp hs
  clear cb
  refine Ze .plain rfl (D_storeOc (g:=vM) (v:=pK) Try.sizeOf157 rfl b25 rfl jG fun xM lP hs b26 cb=>?_)
  clear cb
  have hfr:=hfr.stp hs
  have v8:=v8.stp hs
  have k9:=k9.stp hs
  have l9:=l9.stp hs rfl
  have x8:=x8.stp hs rfl
  have jD:=jD.stp hs
  refine Zb (Zd (Zq h (fun (s:(List BoxPick)) e w=>∃ (g:Gh) (v4:Value),Fr gI wI g w∧e 4=v4∧RV g.m w (s:List BoxPick) v4∧OS 1004 g w 151 (s:List BoxPick) v4∧e 8=p5∧OB 2008 g w 142 (y4.1:BoxBoxLoom) p5∧e 9=l8∧RV g.m w (rA:List (List Int)) l8∧e 10=uD∧OB 2010 g w 157 ((⟨0,0,y23⟩:BoxPoint):BoxPoint) uD) (fun X58 aK eL h=>?_) ?_))
  ·refine Zf (Za (Zo hG rfl ?_))
   refine EL_p (.int .i64 ((x1).length:Int)) (P_len Try.underlying26 rfl v8) rfl ?_
   refine Zn (.int .i64 (0)) rfl rfl ?_
   refine Zb (Zd (Zr ?_))
   refine E_lp h (fun (s:(List BoxPick) × Int) e w=>∃ (g:Gh) (v4:Value),Fr gI wI g w∧e 4=v4∧RV g.m w (s.1:List BoxPick) v4∧OS 1004 g w 151 (s.1:List BoxPick) v4∧e 8=p5∧OB 2008 g w 142 (y4.1:BoxBoxLoom) p5∧e 9=l8∧RV g.m w (rA:List (List Int)) l8∧e 10=uD∧OB 2010 g w 157 ((⟨0,0,y23⟩:BoxPoint):BoxPoint) uD∧e 39=.int .i64 (((x1).length:Int))∧e 40=.int .i64 (s.2)) ⟨xM,(vI),hfr,yI,k9,l9,iG,x8,rfl,jD,rfl,b26,rfl,rfl⟩ (fun X59 bK gL=>?_)
   rintro ⟨cD,i6⟩ bO bN ⟨kH,kG,hfr,lG,bA,iA,zD,n9,aE,a9,lD,k8,iE,nD⟩ h
   refine Zf (Za (EL_in (.bool ((decide (i6 < ((x1).length:Int))))) nD iE rfl rfl ?_))
   refine Zb (Zd (Zf ?_))
   rcases Zt h with ⟨tF,h⟩ | ⟨tF,h⟩
   ·refine E_ct tF rfl ?_
    refine Zu (Zd (Zq h (fun (s:(List BoxPick)) e w=>∃ (g:Gh) (v4:Value),Fr gI wI g w∧e 4=v4∧RV g.m w (s:List BoxPick) v4∧OS 1004 g w 151 (s:List BoxPick) v4∧e 8=p5∧OB 2008 g w 142 (y4.1:BoxBoxLoom) p5∧e 9=l8∧RV g.m w (rA:List (List Int)) l8∧e 10=uD∧OB 2010 g w 157 ((⟨0,0,y23⟩:BoxPoint):BoxPoint) uD∧e 39=.int .i64 (((x1).length:Int))∧e 40=.int .i64 (i6)) (fun X76 cK iL h=>?_) ?_))
    ·refine Zr ?_
     refine Zf (Za (Zo nD rfl ?_))
     refine Zg (.int .i64 (i6)) rfl rfl ?_
     refine Zb (Zd (Zf (L_loadO0 (x:=.tmp 8) Try.isAgg142 Try.sizeOf142 n9 fun qK lH jL=>?_)))
     obtain ⟨dK,lL,h⟩:=bsome h
     obtain ⟨y84,mH,h⟩:=bsome h
     have nH:=RV_cut a9 mH
     refine L_loadO0 (x:=.tmp 10) Try.isAgg157 Try.sizeOf157 k8 fun sK oH mL=>?_
     refine E_drawC (g:=kH) (w:=bN) (n:=7) [0,2,3,4,5,6] [2008,2010] [0,1,2,3,4,5,6] rfl mixed (by kernel_rfl) fun w_c80 hs hlt=>?_
     have hfr:=hfr.ext hs
     have bA:=bA.ext hs
     have iA:=iA.ext hs
     have n9:=n9.ext hs
     have a9:=a9.ext hs
     have k8:=k8.ext hs
     clear hs
     refine CH_ldO (n:=2008) (c:=qK) rfl rfl .plain jL zD rfl ?_
     have lH:=lH.ch hlt.1
     refine CH_do rfl rfl .plain (D_callG (g:=kH) (vs:=[qK]) en67 (.cons rfl .nil) (N67 (iO:=8044) lH lL) fun cN cO dN hs hr=>?_)
     have hfr:=hfr.ext hs
     have hlt:=hlt.ext hs
     have bA:=bA.ext hs
     have iA:=iA.ext hs
     have n9:=n9.ext hs
     have a9:=a9.ext hs
     have k8:=k8.ext hs
     obtain ⟨kv82,tK,fc82,m82⟩:=hr
     have hone500244:=PT.one tK
     refine ⟨hlt.toW,?_⟩
     refine CH_pur (c:=l8) rfl rfl .plain (Zk aE) ?_
     refine CH_pur (c:=.int .i64 (i6)) rfl rfl .plain (Zk rfl) ?_
     refine CH_pur (c:=.int .i64 ((w64 (i6 + (1:Int))))) rfl rfl .plain (P_int rfl rfl rfl) ?_
     refine CH_pur (c:=(cutV l8 (Int.toNat 0) (Int.toNat (w64 (i6 + (1:Int)))) 1)) rfl rfl .plain (P_slice Try.underlying146 Try.sizeOf26 rfl a9 rfl rfl mH) ?_
     have nH:=nH.ch hlt.1
     refine CH_ldO (n:=2010) (c:=sK) rfl rfl .plain mL lD rfl ?_
     have oH:=oH.ch hlt.1
     refine CH_nil ?_
     clear hlt
     obtain ⟨iH,nL,h⟩:=bsome h
     refine Ze .plain rfl (D_callM (g:=cN) (i:=8044) (vs:=[dN,(cutV l8 (Int.toNat 0) (Int.toNat (w64 (i6 + (1:Int)))) 1),sK]) en68 (.cons rfl (.cons rfl (.cons rfl .nil))) (wk68 big tK fc82 m82 nH oH nL) fun eN dO mP hs hr=>?_)
     obtain ⟨hrv,b87⟩:=hr
     have hfr:=hfr.stp hs
     have bA:=bA.stp hs
     have iA:=iA.stp hs rfl
     have n9:=n9.stp hs rfl
     have a9:=a9.stp hs
     have k8:=k8.stp hs rfl
     subst hrv
     refine EL_in (.bool ((decide (iH.1 ≥ (1073741824:Int))))) rfl rfl rfl rfl ?_
     refine Zb (Zd ?_)
     rcases Zt h with ⟨uF,h⟩ | ⟨uF,h⟩
     ·refine E_ct uF rfl ?_
      refine Zf (Za (Zn (.int .i64 (i6)) rfl rfl ?_))
      refine Zg (.slice none 0 0) rfl rfl ?_
      refine Zg (.int .i64 (0)) rfl rfl ?_
      refine Zg (.int .i64 (i6)) rfl rfl ?_
      refine Zg (.int .i64 (9)) rfl rfl ?_
      refine Zb (Zd (E_ret (blk_r ?_)))
      refine thn_r ?_
      refine thn_r ?_
      refine blk_r ?_
      refine thn_r ?_
      obtain rfl:=sinj h
      exact end4 rfl rfl (show _=.slice none 0 0 from rfl) (show _=.int .i64 (0) from rfl) (show _=.int .i64 (i6) from rfl) (show _=.int .i64 (9) from rfl) ⟨_,hfr,_,_,_,_,rfl,RV_nil,rfl,rfl,rfl⟩
     ·refine E_cf uF rfl ?_
      exact Zu (blk_n (Zd (iL (cD) _ _ ⟨eN,(kG),hfr,lG,bA,iA,zD,n9,aE,a9,lD,k8,iE,nD⟩ h)))
    ·rintro yD eO nP ⟨gN, zI, hfr, eJ, gJ, iJ, jJ, kJ, lJ, mJ, pH, qH, sH, tH⟩ h
     refine Za (EL_in (.int .i64 ((w64 (i6 + (1:Int))))) tH rfl rfl rfl ?_)
     refine Zn (.int .i64 ((w64 (i6 + (1:Int))))) rfl rfl ?_
     exact Zb (Zd (gL (yD,(w64 (i6 + (1:Int)))) _ _ ⟨gN,(zI),hfr,eJ,gJ,iJ,jJ,kJ,lJ,mJ,pH,qH,sH,rfl⟩ h))
   ·refine E_cf tF rfl ?_
    refine E_exit ?_
    refine thn_e ?_
    refine thn_e ?_
    refine blk_hit ?_
    exact Zd (eL (cD) _ _ ⟨kH,(kG),hfr,lG,bA,iA,zD,n9,aE,a9,lD,k8⟩ h)
  ·rintro eG gO oP ⟨uK, nJ, hfr, oJ, u9, y9, pJ, qJ, mG, d9, lE, aB⟩ h
   refine Zf (Za (Ze .plain rfl (D_loadO (g:=uK) Try.isAgg142 Try.sizeOf142 pJ qJ fun iN jN=>?_)))
   obtain ⟨qC,oL,h⟩:=bsome h
   refine Ze .plain rfl (D_callG (g:=uK) (vs:=[iN]) en67 (.cons rfl .nil) (N67 (iO:=8055) jN oL) fun vK jO m8 hs hr=>?_)
   have hfr:=hfr.ext hs
   have u9:=u9.ext hs
   have y9:=y9.ext hs
   have d9:=d9.ext hs
   have aB:=aB.ext hs
   obtain ⟨kv93,vC,fc93,m93⟩:=hr
   have hone500255:=PT.one vC
   refine Zg m8 rfl rfl ?_
   refine Zb (Zd (Zf (Za (Zn m8 rfl rfl ?_))))
   refine Zo mG rfl ?_
   refine Ze .plain rfl (D_loadO (g:=vK) Try.isAgg157 Try.sizeOf157 lE aB fun kN lN=>?_)
   obtain ⟨rC,pL,h⟩:=bsome h
   refine Ze .plain rfl (D_callM (g:=vK) (i:=8055) (vs:=[m8,l8,kN]) en68 (.cons rfl (.cons rfl (.cons rfl .nil))) (wk68 big vC fc93 m93 d9 lN pL) fun xK kO pP hs hr=>?_)
   obtain ⟨hrv,b96⟩:=hr
   have hfr:=hfr.stp hs
   have u9:=u9.stp hs
   have y9:=y9.stp hs rfl
   have d9:=d9.stp hs
   have aB:=aB.stp hs rfl
   have vC:=vC.stp hs
   have fc93:=fc93.stp hs
   subst hrv
   refine Zg (.int .i64 (rC.1)) rfl rfl ?_
   refine Zb (Zd ?_)
   obtain ⟨⟨bD,uC⟩,hx,h⟩:=bsome h
   refine E_join (fun e w=>∃ (g:Gh) (v4:Value),Fr gI wI g w∧e 4=v4∧RV g.m w (bD:List BoxPick) v4∧OS 1004 g w 151 (bD:List BoxPick) v4∧e 5=.int .i64 (rC.1)∧PT g.m w (qC:BoxMill) m8∧MP (encK pl_157) 8055 g w (uC:List (BoxPoint × Int)) kv93∧FC g.m w 2 kv93 m8) (fun Q' hQ=>?_) (fun nN lO hR=>?_)
   ·replace h := hx
    clear hx
    refine Zf (Za (Ze .plain rfl (D_loadO (g:=xK) Try.isAgg157 Try.sizeOf157 lE aB fun qL vF=>?_)))
    refine Ze .plain rfl (D_allocOc (g:=xK) 2013 (⟨0,0,⟨(⟨List.toArray [(⟨List.toArray [0,0,0,0],rfl⟩:Vector Int 4),(⟨List.toArray [0,0,0,0],rfl⟩:Vector Int 4)],rfl⟩:Vector (Vector Int 4) 2),⟨0,0⟩⟩⟩:BoxPoint) Try.zeroValue157 (fun m w=>⟨_,(rep_two rep_int (rep_two rep_int (rep_two (rep_vec (flat_chunk (rep_vec (flat_chunk rep_int (flat_chunk rep_int (flat_chunk rep_int (flat_chunk rep_int flat_nil)))) rfl) (flat_chunk (rep_vec (flat_chunk rep_int (flat_chunk rep_int (flat_chunk rep_int (flat_chunk rep_int flat_nil)))) rfl) flat_nil)) rfl) (rep_two rep_int rep_int)))),rfl⟩) fun rL mO tL hs b160 cb=>?_)
    have hfr:=hfr.stp hs
    have u9:=u9.stp hs
    have y9:=y9.stp hs rfl
    have d9:=d9.stp hs
    have vC:=vC.stp hs
    have b96:=b96.stp hs rfl
    have fc93:=fc93.stp hs
    have vF:=vF.stp hs
    clear cb
    refine Ze .plain rfl (D_storeOc (g:=rL) (v:=qL) Try.sizeOf157 rfl b160 rfl vF fun uL nO hs b161 cb=>?_)
    clear cb
    have hfr:=hfr.stp hs
    have u9:=u9.stp hs
    have y9:=y9.stp hs rfl
    have d9:=d9.stp hs
    have vC:=vC.stp hs
    have b96:=b96.stp hs rfl
    have fc93:=fc93.stp hs
    refine Zb (Zd (Zr ?_))
    refine E_lp h (fun (s:(List BoxPick) × BoxPoint × (List (BoxPoint × Int))) e w=>∃ (g:Gh) (v4 yK:Value),Fr gI wI g w∧e 4=v4∧RV g.m w (s.1:List BoxPick) v4∧OS 1004 g w 151 (s.1:List BoxPick) v4∧e 5=.int .i64 (rC.1)∧e 9=l8∧RV g.m w (rA:List (List Int)) l8∧e 12=m8∧PT g.m w (qC:BoxMill) m8∧e 13=yK∧OB 2013 g w 157 (s.2.1:BoxPoint) yK∧PT g.m w (qC:BoxMill) m8∧MP (encK pl_157) 8055 g w (s.2.2:List (BoxPoint × Int)) kv93∧FC g.m w 2 kv93 m8) ⟨uL,(nJ),(tL),hfr,oJ,u9,y9,rfl,mG,d9,rfl,vC,rfl,b161,vC,b96,fc93⟩ (fun X162 cH rJ=>?_)
    rintro ⟨lB,yA,n8⟩ oN oO ⟨xF,nB,dB,hfr,mE,oE,rE,uE,vE,xE,sG,xG,vD,eD,oB,aD,tB⟩ h
    refine Zq h (fun (s:Unit) e w=>∃ (g:Gh) ,Fr gI wI g w∧e 4=nB∧RV g.m w (lB:List BoxPick) nB∧OS 1004 g w 151 (lB:List BoxPick) nB∧e 5=.int .i64 (rC.1)∧e 9=l8∧RV g.m w (rA:List (List Int)) l8∧e 12=m8∧PT g.m w (qC:BoxMill) m8∧e 13=dB∧OB 2013 g w 157 (yA:BoxPoint) dB∧PT g.m w (qC:BoxMill) m8∧MP (encK pl_157) 8055 g w (n8:List (BoxPoint × Int)) kv93∧FC g.m w 2 kv93 m8) (fun X167 gH sJ h=>?_) ?_
    ·refine Zf (Za (EL_p (fPtr dB 0) (Zc at_157_0 vD (OB.ptr eD)) rfl ?_))
     refine Ze .plain rfl (D_loadF (g:=xF) part_BoxPoint_0.1 Try.isAgg3 Try.sizeOf3 rfl eD fun pO vL=>?_)
     obtain rfl:=Zj.1 vL
     refine Zo vE rfl ?_
     refine EL_p (.int .i64 ((rA).length:Int)) (P_len Try.underlying146 rfl xE) rfl ?_
     refine EL_in (.bool ((decide ((yA).group < ((rA).length:Int))))) rfl rfl rfl rfl ?_
     refine Zb (Zd ?_)
     rcases Zt h with ⟨bE,h⟩ | ⟨bE,h⟩
     ·refine E_ct bE rfl ?_
      exact Zu (Zd (sJ () _ _ ⟨xF,hfr,mE,oE,rE,uE,vE,xE,sG,xG,vD,eD,oB,aD,tB⟩ h))
     ·refine E_cf bE rfl ?_
      refine E_exit ?_
      refine thn_e ?_
      refine thn_e ?_
      refine blk_hit ?_
      obtain ⟨rfl,rfl⟩:=pairs2 h
      exact hQ _ _ ⟨xF,(nB),hfr,mE,oE,rE,uE,oB,aD,tB⟩
    ·rintro _ pN qO ⟨uH, hfr, xH, x6, y6, yH, yE, x5, xD, l5, gD, t5, u3, tD, o0⟩ h
     obtain ⟨⟨mB,mC,r8⟩,hx,h⟩:=bsome h
     refine E_join (fun e w=>∃ (g:Gh) (v4:Value),Fr gI wI g w∧e 4=v4∧RV g.m w (mB:List BoxPick) v4∧OS 1004 g w 151 (mB:List BoxPick) v4∧e 5=.int .i64 (rC.1)∧e 9=l8∧RV g.m w (rA:List (List Int)) l8∧e 12=m8∧PT g.m w (qC:BoxMill) m8∧e 13=dB∧OB 2013 g w 157 (mC:BoxPoint) dB∧PT g.m w (qC:BoxMill) m8∧MP (encK pl_157) 8055 g w (r8:List (BoxPoint × Int)) kv93∧FC g.m w 2 kv93 m8) (fun Q' hQ=>?_) (fun qN rO hR=>?_)
     ·replace h := hx
      clear hx
      refine Zr ?_
      refine Zf (Za (Zo xD rfl ?_))
      refine Zo yE rfl ?_
      refine Ze .plain rfl (D_loadO (g:=uH) Try.isAgg157 Try.sizeOf157 gD t5 fun xL yL=>?_)
      obtain ⟨iD,vJ,h⟩:=bsome h
      refine Ze .plain rfl (D_callM (g:=uH) (i:=8055) (vs:=[m8,l8,xL]) en69 (.cons rfl (.cons rfl (.cons rfl .nil))) (wk69 l5 o0 tD x5 yL vJ) fun zL rN sO hs hr=>?_)
      obtain ⟨hrv,b195⟩:=hr
      have hfr:=hfr.stp hs
      have x6:=x6.stp hs
      have y6:=y6.stp hs rfl
      have x5:=x5.stp hs
      have l5:=l5.stp hs
      have t5:=t5.stp hs rfl
      have u3:=u3.stp hs
      have o0:=o0.stp hs
      obtain ⟨oD,sD,rfl,vB,z9⟩:=hrv
      refine Zn (.tuple #[oD,sD]) rfl rfl ?_
      refine EL_p oD (Zi rfl rfl) rfl ?_
      refine EL_p sD (Zi rfl rfl) rfl ?_
      refine Ze .plain rfl (D_allocOc (g:=zL) 2014 (⟨0,0⟩:BoxPick) Try.zeroValue151 (fun m w=>⟨_,(rep_two rep_int rep_int),rfl⟩) fun aM tO uO hs b197 cb=>?_)
      have hfr:=hfr.stp hs
      have x6:=x6.stp hs
      have y6:=y6.stp hs rfl
      have x5:=x5.stp hs
      have l5:=l5.stp hs
      have t5:=t5.stp hs rfl
      have u3:=u3.stp hs
      have b195:=b195.stp hs rfl
      have o0:=o0.stp hs
      have vB:=vB.stp hs
      have z9:=z9.stp hs
      clear cb
      refine Ze .plain rfl (D_allocOc (g:=aM) 2015 (⟨0,0,⟨(⟨List.toArray [(⟨List.toArray [0,0,0,0],rfl⟩:Vector Int 4),(⟨List.toArray [0,0,0,0],rfl⟩:Vector Int 4)],rfl⟩:Vector (Vector Int 4) 2),⟨0,0⟩⟩⟩:BoxPoint) Try.zeroValue157 (fun m w=>⟨_,(rep_two rep_int (rep_two rep_int (rep_two (rep_vec (flat_chunk (rep_vec (flat_chunk rep_int (flat_chunk rep_int (flat_chunk rep_int (flat_chunk rep_int flat_nil)))) rfl) (flat_chunk (rep_vec (flat_chunk rep_int (flat_chunk rep_int (flat_chunk rep_int (flat_chunk rep_int flat_nil)))) rfl) flat_nil)) rfl) (rep_two rep_int rep_int)))),rfl⟩) fun bM vO xO hs b198 cb=>?_)
      have hfr:=hfr.stp hs
      have x6:=x6.stp hs
      have y6:=y6.stp hs rfl
      have x5:=x5.stp hs
      have l5:=l5.stp hs
      have t5:=t5.stp hs rfl
      have u3:=u3.stp hs
      have b195:=b195.stp hs rfl
      have o0:=o0.stp hs
      have vB:=vB.stp hs
      have z9:=z9.stp hs
      have b197:=b197.stp hs rfl
      clear cb
      refine Ze .plain rfl (D_storeOc (g:=bM) (v:=oD) Try.sizeOf151 rfl b197 rfl vB fun cM yO hs b199 cb=>?_)
      clear cb
      have hfr:=hfr.stp hs
      have x6:=x6.stp hs
      have y6:=y6.stp hs rfl
      have x5:=x5.stp hs
      have l5:=l5.stp hs
      have t5:=t5.stp hs rfl
      have u3:=u3.stp hs
      have b195:=b195.stp hs rfl
      have o0:=o0.stp hs
      have z9:=z9.stp hs
      have b198:=b198.stp hs rfl
      refine Ze .plain rfl (D_storeOc (g:=cM) (v:=sD) Try.sizeOf157 rfl b198 rfl z9 fun zH dM hs b200 cb=>?_)
      clear cb
      have hfr:=hfr.stp hs
      have x6:=x6.stp hs
      have y6:=y6.stp hs rfl
      have x5:=x5.stp hs
      have l5:=l5.stp hs
      have t5:=t5.stp hs rfl
      have u3:=u3.stp hs
      have b195:=b195.stp hs rfl
      have o0:=o0.stp hs
      have b199:=b199.stp hs rfl
      refine Zb (Zd (L_loadO0 (x:=.tmp 14) Try.isAgg151 Try.sizeOf151 b199 fun aI yF xJ=>?_))
      obtain ⟨dH,yJ,h⟩:=bsome h
      refine L_loadO0 (x:=.tmp 15) Try.isAgg157 Try.sizeOf157 b200 fun bI zF zJ=>?_
      refine E_drawC (g:=zH) (w:=dM) (n:=6) [0,1,4,5] [2014,2015] [0,1,2,3,4,5] rfl mixed (by kernel_rfl) fun w_c209 hs hlt=>?_
      have hfr:=hfr.ext hs
      have x6:=x6.ext hs
      have y6:=y6.ext hs
      have x5:=x5.ext hs
      have l5:=l5.ext hs
      have t5:=t5.ext hs
      have u3:=u3.ext hs
      have b195:=b195.ext hs
      have o0:=o0.ext hs
      clear hs
      refine CH_pur (c:=nB) rfl rfl .plain (Zk xH) ?_
      refine CH_ldO (n:=2014) (c:=aI) rfl rfl .plain xJ rfl rfl ?_
      have yF:=yF.ch hlt.1
      refine CH_do rfl rfl .plain (D_buildSlice (g:=zH) 3075 (xs:=([iD.1]:List BoxPick)) (vs:=[aI]) Try.underlying41 Try.sizeOf151 Try.zeroValue151 rfl rfl (.cons rfl .nil) (RVs.cons yF RVs.nil) rfl rfl fun eM zO aP hs o211 iM hxt hfl=>?_)
      have hfr:=hfr.stp hs
      have hlt:=hlt.stp hs
      have x6:=x6.stp hs
      have y6:=y6.stp hs rfl
      have x5:=x5.stp hs
      have l5:=l5.stp hs
      have t5:=t5.stp hs rfl
      have u3:=u3.stp hs
      have b195:=b195.stp hs rfl
      have o0:=o0.stp hs
      refine ⟨hlt.toW,?_⟩
      refine CH_do rfl rfl .plain (D_append (g:=eM) (i:=1004) Try.underlying41 info_151 rfl rfl y6 x6 rfl iM yJ fun jM bP dI hs o212 aG _=>?_)
      have hfr:=hfr.stp hs
      have hlt:=hlt.stp hs
      have x5:=x5.stp hs
      have l5:=l5.stp hs
      have t5:=t5.stp hs rfl
      have u3:=u3.stp hs
      have b195:=b195.stp hs rfl
      have o0:=o0.stp hs
      refine ⟨hlt.toW,?_⟩
      refine CH_ldO (n:=2015) (c:=bI) rfl rfl .plain zJ rfl rfl ?_
      have zF:=zF.ch hlt.1
      refine CH_pur (c:=dI) rfl rfl .plain (P_assign rfl) ?_
      refine CH_nil ?_
      clear hlt
      refine Ze .plain rfl (D_storeOc (g:=jM) (v:=bI) Try.sizeOf157 gD t5 rfl zF fun kM cP hs b215 cb=>?_)
      clear cb
      have hfr:=hfr.stp hs
      have aG:=aG.stp hs
      have o212:=o212.stp hs rfl
      have x5:=x5.stp hs
      have l5:=l5.stp hs
      have u3:=u3.stp hs
      have b195:=b195.stp hs rfl
      have o0:=o0.stp hs
      refine Zb (blk_n ?_)
      obtain ⟨rfl,rfl,rfl⟩:=pairs3 h
      exact hQ _ _ ⟨kM,(dI),hfr,rfl,aG,o212,yH,yE,x5,xD,l5,gD,b215,u3,b195,o0⟩
     ·clear hx
      obtain ⟨iI,jI,hfr,kI,yB,zB,lI,mI,cC,yG,iB,zG,aH,i7,g8,m7⟩:=hR
      refine Zf (Za (Ze .plain rfl (D_loadO (g:=iI) Try.isAgg157 Try.sizeOf157 zG aH fun mM bG=>?_)))
      refine Zb (Zd (Za (Ze .plain rfl (D_allocOc (g:=iI) 2013 (⟨0,0,⟨(⟨List.toArray [(⟨List.toArray [0,0,0,0],rfl⟩:Vector Int 4),(⟨List.toArray [0,0,0,0],rfl⟩:Vector Int 4)],rfl⟩:Vector (Vector Int 4) 2),⟨0,0⟩⟩⟩:BoxPoint) Try.zeroValue157 (fun m w=>⟨_,(rep_two rep_int (rep_two rep_int (rep_two (rep_vec (flat_chunk (rep_vec (flat_chunk rep_int (flat_chunk rep_int (flat_chunk rep_int (flat_chunk rep_int flat_nil)))) rfl) (flat_chunk (rep_vec (flat_chunk rep_int (flat_chunk rep_int (flat_chunk rep_int (flat_chunk rep_int flat_nil)))) rfl) flat_nil)) rfl) (rep_two rep_int rep_int)))),rfl⟩) fun nM dP oM hs b218 cb=>?_))))
      have hfr:=hfr.stp hs
      have yB:=yB.stp hs
      have zB:=zB.stp hs rfl
      have cC:=cC.stp hs
      have iB:=iB.stp hs
      have i7:=i7.stp hs
      have g8:=g8.stp hs rfl
      have m7:=m7.stp hs
      have bG:=bG.stp hs
      clear cb
      refine Ze .plain rfl (D_storeOc (g:=nM) (v:=mM) Try.sizeOf157 rfl b218 rfl bG fun pM eP hs b219 cb=>?_)
      clear cb
      have hfr:=hfr.stp hs
      have yB:=yB.stp hs
      have zB:=zB.stp hs rfl
      have cC:=cC.stp hs
      have iB:=iB.stp hs
      have i7:=i7.stp hs
      have g8:=g8.stp hs rfl
      have m7:=m7.stp hs
      exact Zb (Zd (rJ (mB,mC,r8) _ _ ⟨pM,(jI),(oM),hfr,kI,yB,zB,lI,mI,cC,yG,iB,rfl,b219,i7,g8,m7⟩ h))
   ·clear hx
    obtain ⟨gP,zE,hfr,nI,pI,mN,qI,sI,uI,tI⟩:=hR
    refine Zf (Za (Zo nI rfl ?_))
    refine Zo qI rfl ?_
    refine Zg zE rfl rfl ?_
    refine Zg (.int .i64 (rC.1)) rfl rfl ?_
    refine Zg (.int .i64 (0)) rfl rfl ?_
    refine Zg (.int .i64 (0)) rfl rfl ?_
    refine Zb (Zd (E_ret ?_))
    obtain rfl:=sinj h
    exact end4 rfl rfl (show _=zE from rfl) (show _=.int .i64 (rC.1) from rfl) (show _=.int .i64 (0) from rfl) (show _=.int .i64 (0) from rfl) ⟨_,hfr,_,_,_,_,rfl,pI,rfl,rfl,rfl⟩
def f23 (x0:BoxLoom) (x1:List BoxPick):Option (Int × Int × Int):=
 (f70 x0 x1).bind fun y4=>
 jn (σ:=Unit) (fun _=>
  (f78 (y4.1) ((y4.2.1).thrown) ((fun a0=>f76 a0))).bind fun t5=>
  (f78 (y4.1) ((y4.2.1).thrown) ((fun a0=>f77 a0))).bind fun x5=>
  some (t5,x5,(0:Int))
  ) fun l8=>
 bif (y4.2.2.2 != (0 : Int)) then
  some ((0:Int),(0:Int),y4.2.2.2)
 else
  l8 ()
theorem en23:Enters Try.prog 23:=enters_of Try.func23 (by kernel_rfl) rfl
theorem wk23 {gI:Gh} {wI:World} {x0:BoxLoom} {x1:List BoxPick} {up0:Value} (rp0:RV gI.m wI x0 up0) {up1:Value} (rp1:RV gI.m wI x1 up1) {r:Int × Int × Int} (h:f23 x0 x1=some r):Fn Try.prog 23 #[up0,up1] gI wI (fun m w v=>∃ y0 y1 y2,v=.tuple #[y0,y1,y2]∧y0=.int .i64 (r.1)∧y1=.int .i64 (r.2.1)∧y2=.int .i64 (r.2.2)):=by
 unfold f23 at h
 refine fn_of_E Try.func23 rfl (Nat.le_of_ble_eq_true rfl) fun g0 hm hfr=>?_
 have rp0:RV g0.m wI x0 up0:=hm ▸ rp0
 have rp1:RV g0.m wI x1 up1:=hm ▸ rp1
 show E _ 33 none _ _ _ _ _
 refine Zf (Za (Ze .plain rfl (D_box (g:=g0) rfl rp0 fun g1 w1 p1 hs q1=>?_)))
 have hfr:=hfr.ext hs
 have rp1:=rp1.ext hs
 iterate 3 refine Zg (.int .i64 (0)) rfl rfl ?_
 refine Zb (Zd (Zf (Za (Ze .plain rfl (D_load (g:=g1) Try.isAgg40 Try.sizeOf40 rfl q1 fun v2 r2=>?_)))))
 refine Zn up1 rfl rfl ?_
 obtain ⟨y4,y9,h⟩:=bsome h
 refine Ze .plain rfl (Zp (g:=g1) (vs:=[v2,up1]) en70 (.cons rfl (.cons rfl .nil)) (wk70 r2 rp1 y9) fun g3 w3_ v3 hs hr=>?_)
 have hfr:=hfr.ext hs
 obtain ⟨i6,x6,aB,dB,rfl,l5,o0,rfl,rfl⟩:=hr
 refine Zn (.tuple #[i6,x6,.int .i64 (y4.2.2.1),.int .i64 (y4.2.2.2)]) rfl rfl ?_
 refine EL_p i6 (Zi rfl rfl) rfl ?_
 refine EL_p x6 (Zi rfl rfl) rfl ?_
 refine EL_p (.int .i64 (y4.2.2.1)) (Zi rfl rfl) rfl ?_
 refine EL_p (.int .i64 (y4.2.2.2)) (Zi rfl rfl) rfl ?_
 refine Ze .plain rfl (D_allocOc (g:=g3) 2007 (⟨⟨[],[],[]⟩⟩:BoxBoxLoom) Try.zeroValue142 (fun m w=>⟨_,(rep_two rep_nil (rep_two rep_nil rep_nil)),rfl⟩) fun g5 w5 p5 hs b5 cb=>?_)
 have hfr:=hfr.stp hs
 have l5:=l5.stp hs
 have o0:=o0.stp hs
 have iB:OSF 2007 60700 0 g5 w5 3 142 ([]:List Int) p5:=cb.osf (by rfl)
 have lB:OSF 2007 60701 1 g5 w5 3 142 ([]:List Int) p5:=cb.osf (by rfl)
 have mB:OSF 2007 60702 2 g5 w5 37 142 ([]:List BoxShuttle) p5:=cb.osf (by rfl)
 clear cb
 refine Ze .plain rfl (D_allocOc (g:=g5) 2008 (⟨[],⟨(⟨List.toArray [(⟨List.toArray [0,0,0,0],rfl⟩:Vector Int 4),(⟨List.toArray [0,0,0,0],rfl⟩:Vector Int 4)],rfl⟩:Vector (Vector Int 4) 2),⟨0,0⟩⟩,0⟩:BoxRun) Try.zeroValue164 (fun m w=>⟨_,(rep_two rep_nil (rep_two (rep_two (rep_vec (flat_chunk (rep_vec (flat_chunk rep_int (flat_chunk rep_int (flat_chunk rep_int (flat_chunk rep_int flat_nil)))) rfl) (flat_chunk (rep_vec (flat_chunk rep_int (flat_chunk rep_int (flat_chunk rep_int (flat_chunk rep_int flat_nil)))) rfl) flat_nil)) rfl) (rep_two rep_int rep_int)) rep_int)),rfl⟩) fun g6 w6 p6 hs b6 cb=>?_)
 have hfr:=hfr.stp hs
 have l5:=l5.stp hs
 have o0:=o0.stp hs
 have b5:=b5.stp hs rfl
 have nB:OSF 2008 60800 0 g6 w6 3 164 ([]:List Int) p6:=cb.osf (by rfl)
 clear cb
 refine Ze .plain rfl (D_storeOc (g:=g6) (v:=i6) Try.sizeOf142 rfl b5 rfl l5 fun g7 w7 hs b7 cb=>?_)
 clear cb
 have hfr:=hfr.stp hs
 have o0:=o0.stp hs
 have b6:=b6.stp hs rfl
 refine Ze .plain rfl (D_storeOc (g:=g7) (v:=x6) Try.sizeOf164 rfl b6 rfl o0 fun g8 w8 hs b8 cb=>?_)
 clear cb
 have hfr:=hfr.stp hs
 have b7:=b7.stp hs rfl
 refine Zg (.int .i64 (y4.2.2.1)) rfl rfl ?_
 refine Zg (.int .i64 (y4.2.2.2)) rfl rfl ?_
 refine Zb (Zd (Zq h (fun (s:Unit) e w=>∃ (g:Gh) ,Fr gI wI g w∧e 7=p5∧OB 2007 g w 142 (y4.1:BoxBoxLoom) p5∧e 8=p6∧OB 2008 g w 164 (y4.2.1:BoxRun) p6) (fun X10 l8 x8 h=>?_) ?_))
 ·refine Zf (Za (Zn (.int .i64 (y4.2.2.2)) rfl rfl ?_))
  refine EL_in (.bool ((y4.2.2.2 != (0:Int)))) rfl rfl rfl rfl ?_
  refine Zb (Zd ?_)
  rcases Zt h with ⟨y6,h⟩ | ⟨y6,h⟩
  ·refine E_ct y6 rfl ?_
   refine Zf (Za (Zn (.int .i64 (y4.2.2.2)) rfl rfl ?_))
   refine Zg (.int .i64 (0)) rfl rfl ?_
   refine Zg (.int .i64 (0)) rfl rfl ?_
   refine Zg (.int .i64 (y4.2.2.2)) rfl rfl ?_
   refine Zb (Zd (E_ret (thn_r ?_)))
   obtain rfl:=sinj h
   exact end3 rfl rfl (show _=.int .i64 (0) from rfl) (show _=.int .i64 (0) from rfl) (show _=.int .i64 (y4.2.2.2) from rfl) ⟨_,hfr,_,_,_,rfl,rfl,rfl,rfl⟩
  ·refine E_cf y6 rfl ?_
   exact Zu (Zd (x8 () _ _ ⟨g8,hfr,rfl,b7,rfl,b8⟩ h))
 ·rintro _ oB tB ⟨z9, hfr, i7, m7, k8, u3⟩ h
  refine Zf (Za (Zg (.func (.func 76) #[] #[]) rfl rfl ?_))
  refine Zg (.func (.func 77) #[] #[]) rfl rfl ?_
  refine Zb (Zd (Zf (L_loadO0 (x:=.tmp 7) Try.isAgg142 Try.sizeOf142 m7 fun m8 bA a9=>?_)))
  refine L_loadO (x:=.tmp 24) part_BoxRun_0.1 Try.isAgg26 Try.sizeOf26 u3 fun n8 iA d9=>?_
  obtain ⟨t5,k9,h⟩:=bsome h
  refine L_loadO0 (x:=.tmp 7) Try.isAgg142 Try.sizeOf142 m7 fun r8 rA l9=>?_
  refine L_loadO (x:=.tmp 29) part_BoxRun_0.1 Try.isAgg26 Try.sizeOf26 u3 fun v8 yA n9=>?_
  obtain ⟨x5,u9,h⟩:=bsome h
  refine E_drawL (g:=z9) (n:=13) [(4,(fun v g w=>v=.int .i64 (t5))),(9,(fun v g w=>v=.int .i64 (x5)))] [0,1,2,3,4,5,6,7,8,9,10,11,12] rfl mixed (by kernel_rfl) (⟨fun _=>up_eq _,fun _=>up_eq _,trivial⟩) ?_
  refine L_ld (c:=m8) rfl rfl .plain (fun _ _ h=>⟨h.ch,fun b hb _=>h.below.block b hb⟩) a9 i7 ?_
  refine L_p (fPtr p6 0) rfl rfl (Zc at_164_0 k8 (OB.ptr u3)) ?_
  refine L_ld (c:=n8) rfl rfl .plain (fun _ _ h=>⟨h.ch,fun b hb _=>h.below.block b hb⟩) d9 rfl ?_
  refine L_p (.func (.func 76) #[] #[]) rfl rfl (Zk rfl) ?_
  refine L_do (φ:=fun v g w=>v=.int .i64 (t5)) rfl rfl .plain (fun g w hd=>Zp (g:=g) (vs:=[m8,n8,.func (.func 76) #[] #[]]) en78 (.cons rfl (.cons rfl (.cons rfl .nil))) (wk78 (bA.ext hd.1) (iA.ext hd.1) ⟨76,#[],#[],rfl,en76,fun g' w' hch a0 b0 r hu0 hr=>by exact Fn.mono (wk76 hu0  hr) fun _ _ _ h=>Zj.2 h⟩ k9) fun g' w' v hs hr=>⟨g',hs,hr⟩) (fun vB hv=>?_)
  obtain ⟨_,_,_,rfl⟩:=hv
  refine L_ld (c:=r8) rfl rfl .plain (fun _ _ h=>⟨h.ch,fun b hb _=>h.below.block b hb⟩) l9 i7 ?_
  refine L_p (fPtr p6 0) rfl rfl (Zc at_164_0 k8 (OB.ptr u3)) ?_
  refine L_ld (c:=v8) rfl rfl .plain (fun _ _ h=>⟨h.ch,fun b hb _=>h.below.block b hb⟩) n9 rfl ?_
  refine L_p (.func (.func 77) #[] #[]) rfl rfl (Zk rfl) ?_
  refine L_do (φ:=fun v g w=>v=.int .i64 (x5)) rfl rfl .plain (fun g w hd=>Zp (g:=g) (vs:=[r8,v8,.func (.func 77) #[] #[]]) en78 (.cons rfl (.cons rfl (.cons rfl .nil))) (wk78 (rA.ext hd.1) (yA.ext hd.1) ⟨77,#[],#[],rfl,en77,fun g' w' hch a0 b0 r hu0 hr=>by exact Fn.mono (wk77 hu0  hr) fun _ _ _ h=>Zj.2 h⟩ u9) fun g' w' v hs hr=>⟨g',hs,hr⟩) (fun yB hv=>?_)
  obtain ⟨_,_,_,rfl⟩:=hv
  refine L_p (.int .i64 (t5)) rfl rfl (P_assign rfl) ?_
  refine L_p (.int .i64 (x5)) rfl rfl (P_assign rfl) ?_
  refine L_p (.int .i64 (0)) rfl rfl (P_assign rfl) ?_
  refine L_nl fun zB cC hs=>?_
  have hfr:=hfr.ext hs
  clear hs
  refine Zb (Zd (E_ret ?_))
  obtain rfl:=sinj h
  exact end3 rfl rfl (show _=.int .i64 (t5) from rfl) (show _=.int .i64 (x5) from rfl) (show _=.int .i64 (0) from rfl) ⟨_,hfr,_,_,_,rfl,rfl,rfl,rfl⟩
def f4 (x0:Race) (x1:List UInt8) (x2:Vector UInt8 4):Option (Bool):=
 (f18 x0).bind fun y5=>
 (f19 x2).bind fun y8=>
 (f20 y8).bind fun u3=>
 Option.bind (α:=(List Int)) (
  lp (σ:=(List Int) × Int) (fun bQ (zB,t5)=>
   jn (σ:=Unit) (fun _=>
    Option.bind (α:=(List Int)) (
     (idx x1 t5).bind fun bM=>
     (rem64 ((bM).toNat:Int) (3:Int)).bind fun y81=>
     (apnd 8 zB (([y81]:List Int))).bind fun y84=>
     some (y84)
     ) fun nD=>
    bQ (nD,(w64 (t5 + (1:Int))))
    ) fun cQ=>
   Option.bind (α:=Bool) (
    bif (decide (t5 < ((x1).length : Int))) then
     some ((decide (t5 < (12:Int))))
    else
     some (false)
    ) fun vC=>
   bif vC then
    cQ ()
   else
    some (zB)
   ) big (([]:List Int),(0:Int))
  ) fun x8=>
 (f21 y5).bind fun dQ=>
 (f22 x8).bind fun eQ=>
 (f10 dQ eQ).bind fun x6=>
 Option.bind (α:=(List BoxPick) × Int) (
  Option.bind (α:=Bool) (
   bif (x6.2.2.2 == (9 : Int)) then
    bif (decide (x6.2.2.1 ≥ (0 : Int))) then
     some ((decide (x6.2.2.1 < ((x8).length:Int))))
    else
     some (false)
   else
    some (false)
   ) fun mB=>
  bif mB then
   (f21 y5).bind fun aE=>
   (cut x8 0 x6.2.2.1).bind fun y140=>
   (f22 y140).bind fun bE=>
   (f10 aE bE).bind fun l5=>
   some ((l5.1:List BoxPick),l5.2.2.2)
  else
   some (x6.1,x6.2.2.2)
  ) fun (o0,d9)=>
 jn (σ:=Unit) (fun _=>
  (f21 y5).bind fun y181=>
  (apnd 16 (([]:List BoxPick)) o0).bind fun cM=>
  (f23 y181 cM).bind fun y186=>
  jn (σ:=Unit) (fun _=>
   Option.bind (α:=Int) (
    bif (decide (y186.1 < (0 : Int))) then
     some (((o0).length:Int))
    else
     some (y186.1)
    ) fun y6=>
   Option.bind (α:=Int) (
    bif (decide (y186.2.1 < (0 : Int))) then
     some (((o0).length:Int))
    else
     some (y186.2.1)
    ) fun m7=>
   jn (σ:=Unit) (fun _=>
    Option.bind (α:=Bool) (
     (f26).bind fun vE=>
     bif vE then
      (f27).bind fun kG=>
      some (kG)
     else
      some (false)
     ) fun oD=>
    some (oD)
    ) fun dM=>
   lp (σ:=Int × Int) (fun eM (aB,g8)=>
    jn (σ:=Unit) (fun _=>
     jn (σ:=Int) (fun iE=>
      eM (iE,(w64 (g8 + (1:Int))))
      ) fun iM=>
     (idx ((⟨List.toArray [y6,m7],rfl⟩:Vector Int 2)).toList g8).bind fun n8=>
     (quo64 (w64 ((w64 ((w64 (n8 * u3.1)) + u3.2)) - (1:Int))) u3.2).bind fun r8=>
     (f25 y8).bind fun jM=>
     (f24 jM r8).bind fun k8=>
     jn (σ:=Unit) (fun _=>
      iM (r8)
      ) fun kM=>
     Option.bind (α:=Bool) (
      bif (k8.2 != (0 : Int)) then
       some (true)
      else
       bif (k8.1 != n8) then
        some (true)
       else
        some ((decide (r8 < aB)))
      ) fun dB=>
     bif dB then
      some (false)
     else
      kM ()
     ) fun mM=>
    bif (decide (g8 < (2 : Int))) then
     mM ()
    else
     dM ()
    ) big ((0:Int),(0:Int))
   ) fun nM=>
  Option.bind (α:=Bool) (
   bif (y186.2.2 != (0 : Int)) then
    some (true)
   else
    bif (decide (y186.1 < (-1 : Int))) then
     some (true)
    else
     bif (decide (y186.2.1 < (-1 : Int))) then
      some (true)
     else
      bif (decide (y186.1 ≥ ((o0).length : Int))) then
       some (true)
      else
       some ((decide (y186.2.1 ≥ ((o0).length:Int))))
   ) fun iB=>
  bif iB then
   some (false)
  else
   nM ()
  ) fun oM=>
 Option.bind (α:=Bool) (
  bif (d9 != (0 : Int)) then
   some (true)
  else
   some ((decide (((o0).length:Int) > (12:Int))))
  ) fun nB=>
 bif nB then
  some (false)
 else
  oM ()
theorem wk4 {gI:Gh} {wI:World} {x0:Race} {x1:List UInt8} {x2:Vector UInt8 4} {up0:Value} (rp0:RV gI.m wI x0 up0) {up1:Value} (rp1:RV gI.m wI x1 up1) {up2:Value} (rp2:RV gI.m wI x2 up2) {r:Bool} (h:f4 x0 x1 x2=some r):Fn Try.prog 4 #[up0,up1,up2] gI wI (fun _ _ v=>v=.bool (r)):=by
 unfold f4 at h
 refine fn_of_E Try.func4 rfl (Nat.le_of_ble_eq_true rfl) fun g0 hm hfr=>?_
 have rp0:RV g0.m wI x0 up0:=hm ▸ rp0
 have rp1:RV g0.m wI x1 up1:=hm ▸ rp1
 have rp2:RV g0.m wI x2 up2:=hm ▸ rp2
 show E _ 177 none _ _ _ _ _
 refine Zf (Za (Ze .plain rfl (D_box (g:=g0) rfl rp0 fun g1 w1 p1 hs q1=>?_)))
 have hfr:=hfr.ext hs
 have rp1:=rp1.ext hs
 have rp2:=rp2.ext hs
 refine Ze .plain rfl (D_box (g:=g1) rfl rp2 fun g2 w2 p2 hs q2=>?_)
 have hfr:=hfr.ext hs
 have rp1:=rp1.ext hs
 have q1:=q1.ext hs
 refine Zg (.bool false) rfl rfl ?_
 refine Zb (Zd (Zf (Zs (x:=.tmp 3) Try.isAgg63 Try.sizeOf63 q1 fun v3 r3 gS=>?_)))
 obtain ⟨y5,hy5,h⟩:=bsome h
 refine Zs (x:=.tmp 5) Try.isAgg64 Try.sizeOf64 q2 fun v6 r6 iS=>?_
 obtain ⟨y8,jS,h⟩:=bsome h
 refine E_drawVL (g:=g2) (w:=w2) (n:=9) [mkVd w2.heap.size 2007 40 (⟨[],[],[]⟩:BoxLoom) (y5:BoxLoom),mkVd w2.heap.size 2008 68 (⟨0,0,[],0⟩:BeamTake) (y8:BeamTake)] [(1,(fun _ v g w=>RV g.m w y5 v)),(3,(fun _ v g w=>RV g.m w y8 v)),(4,(fun _ v g w=>RV g.m w ([]:List Int) v∧OS 3030 g w 3 ([]:List Int) v∧FullV v)),(5,(fun _ v=>vA w2.heap.size 2007 40 (⟨[],[],[]⟩:BoxLoom) (y5:BoxLoom) v)),(6,(fun _ v=>vA w2.heap.size 2008 68 (⟨0,0,[],0⟩:BeamTake) (y8:BeamTake) v)),(7,(fun e _=>OBn w2.heap.size 2007 40 (y5:BoxLoom) (ev e (.tmp 7)))),(8,(fun e _=>OBn w2.heap.size 2008 68 (y8:BeamTake) (ev e (.tmp 8))))] [0,1,2,3,4,5,6,7,8] rfl mixed (by kernel_rfl) (⟨fun _ _=>upL_rv,fun _ _=>upL_rv,fun _ _=>upL_and upL_rv (upL_and (upL_os (noTag_cons rfl (noTag_cons rfl noTag_nil))) (upL_eq _)),fun _ _=>up_vA List.mem_cons_self,fun _ _=>up_vA (List.mem_cons_of_mem _ List.mem_cons_self),fun _ _=>up_vB List.mem_cons_self,fun _ _=>up_vB (List.mem_cons_of_mem _ List.mem_cons_self),trivial⟩) (⟨fun _ _ _ _ _ _=>rfl,fun _ _ _ _ _ _=>rfl,fun _ _ _ _ _ _=>rfl,fun _ _ _ _ _ _=>rfl,fun _ _ _ _ _ _=>rfl,wok_store (A:=fun p=>OBn w2.heap.size 2007 40 (y5:BoxLoom) p) rfl,wok_store (A:=fun p=>OBn w2.heap.size 2008 68 (y8:BeamTake) p) rfl,trivial⟩) ?_
 refine L_ld (c:=v3) rfl rfl .plain (fun _ _ h=>h.ch) gS rfl ?_
 refine L_do (φ:=fun v g w=>RV g.m w y5 v) rfl rfl .plain (fun g w hd=>Zp (g:=g) (vs:=[v3]) en18 (.cons rfl .nil) (wk18 (r3.ext hd.1) hy5) fun g' w' v hs hr=>⟨g',vl_ext hs,hr⟩) (fun v4 hv=>?_)
 obtain ⟨_,_,_,rq4⟩:=hv
 refine L_ld (c:=v6) rfl rfl .plain (fun _ _ h=>h.ch) iS rfl ?_
 refine L_do (φ:=fun v g w=>RV g.m w y8 v) rfl rfl .plain (fun g w hd=>Zp (g:=g) (vs:=[v6]) en19 (.cons rfl .nil) (wk19 (r6.ext hd.1) jS) fun g' w' v hs hr=>⟨g',vl_ext hs,hr⟩) (fun v7 hv=>?_)
 obtain ⟨_,_,_,rq7⟩:=hv
 refine L_do (φ:=fun v g w=>RV g.m w ([]:List Int) v∧OS 3030 g w 3 ([]:List Int) v∧FullV v) rfl rfl .plain (fun g w hd=>D_buildSlice (g:=g) 3030 (xs:=([]:List Int)) (vs:=[]) Try.underlying26 Try.sizeOf3 Try.zeroValue3 rfl rfl .nil RVs.nil rfl rfl fun g' w' v hs o r hxt hfl=>⟨g',vl_ext hxt,r,o,hfl⟩) (fun v9 hv=>?_)
 clear hv
 refine L_do (φ:=fun v=>vA w2.heap.size 2007 40 (⟨[],[],[]⟩:BoxLoom) (y5:BoxLoom) v) rfl rfl .plain (fun g w hd=>D_allocN (g:=g) hd.1 (⟨[],[],[]⟩:BoxLoom) (y5:BoxLoom) Try.zeroValue40 (fun m w=>⟨_,(rep_two rep_nil (rep_two rep_nil rep_nil)),rfl⟩) fun g' w' v hs b=>⟨g',vl_ext hs,b⟩) (fun m8 hv=>?_)
 clear hv
 refine L_do (φ:=fun v=>vA w2.heap.size 2008 68 (⟨0,0,[],0⟩:BeamTake) (y8:BeamTake) v) rfl rfl .plain (fun g w hd=>D_allocN (g:=g) hd.1 (⟨0,0,[],0⟩:BeamTake) (y8:BeamTake) Try.zeroValue68 (fun m w=>⟨_,(rep_two rep_int (rep_two rep_int (rep_two rep_nil rep_int))),rfl⟩) fun g' w' v hs b=>⟨g',vl_ext hs,b⟩) (fun x5 hv=>?_)
 clear hv
 refine L_do (φ:=fun _=>OBn w2.heap.size 2007 40 (y5:BoxLoom) m8) rfl rfl .plain (fun g w hd=>D_storeVL (g:=g) List.mem_cons_self (apartV_cons (.inl rfl) (apartV_cons (.inr (Nat.ne_of_beq_eq_false rfl)) apartV_nil)) hd.1 Try.sizeOf40 rfl (word (A:=vA w2.heap.size 2007 40 (⟨[],[],[]⟩:BoxLoom) (y5:BoxLoom) m8) 5 rfl rfl (deps_of hd)) rfl (word (A:=fun g w=>RV g.m w y5 v4) 1 rfl rfl (deps_of hd))) (fun pW hv=>?_)
 clear hv
 refine L_do (φ:=fun _=>OBn w2.heap.size 2008 68 (y8:BeamTake) x5) rfl rfl .plain (fun g w hd=>D_storeVL (g:=g) (List.mem_cons_of_mem _ List.mem_cons_self) (apartV_cons (.inr (Nat.ne_of_beq_eq_false rfl)) (apartV_cons (.inl rfl) apartV_nil)) hd.1 Try.sizeOf68 rfl (word (A:=vA w2.heap.size 2008 68 (⟨0,0,[],0⟩:BeamTake) (y8:BeamTake) x5) 6 rfl rfl (deps_of hd)) rfl (word (A:=fun g w=>RV g.m w y8 v7) 3 rfl rfl (deps_of hd))) (fun pM hv=>?_)
 clear hv
 refine L_nil fun gQ qW hall=>?_
 have hs:=hall.1
 have hfr:=hfr.ext hs
 have rp1:=rp1.ext hs
 have sW:=(word_all (A:=fun g w=>RV g.m w y5 v4) 1 rfl hall)
 have tW:=(word_all (A:=fun g w=>RV g.m w y8 v7) 3 rfl hall)
 have qM:=(word_all (A:=fun g w=>RV g.m w ([]:List Int) v9∧OS 3030 g w 3 ([]:List Int) v9∧FullV v9) 4 rfl hall).1
 have o25:=(word_all (A:=fun g w=>RV g.m w ([]:List Int) v9∧OS 3030 g w 3 ([]:List Int) v9∧FullV v9) 4 rfl hall).2.1
 have b26:=(And.left (word_all (A:=OBn w2.heap.size 2007 40 (y5:BoxLoom) m8) 7 rfl hall))
 have b27:=(And.left (word_all (A:=OBn w2.heap.size 2008 68 (y8:BeamTake) x5) 8 rfl hall))
 clear hs hall
 refine Zg v9 rfl rfl ?_
 refine Zb (Zd (Zf (Za (Ze .plain rfl (D_loadO (g:=gQ) Try.isAgg68 Try.sizeOf68 rfl b27 fun lS mS=>?_)))))
 obtain ⟨u3,nQ,h⟩:=bsome h
 refine Ze .plain rfl (Zp (g:=gQ) (vs:=[lS]) en20 (.cons rfl .nil) (wk20 mS nQ) fun nS aV uW hs hr=>?_)
 have hfr:=hfr.ext hs
 have rp1:=rp1.ext hs
 have qM:=qM.ext hs
 have o25:=o25.ext hs
 have b26:=b26.ext hs
 have b27:=b27.ext hs
 obtain ⟨xT,yT,rfl,rfl,rfl⟩:=hr
 refine Zn (.tuple #[.int .i64 (u3.1),.int .i64 (u3.2)]) rfl rfl ?_
 refine EL_p (.int .i64 (u3.1)) (Zi rfl rfl) rfl ?_
 refine EL_p (.int .i64 (u3.2)) (Zi rfl rfl) rfl ?_
 refine Zg (.int .i64 (u3.1)) rfl rfl ?_
 refine Zg (.int .i64 (u3.2)) rfl rfl ?_
 refine Zb (Zd ?_)
 obtain ⟨x8,hx,h⟩:=bsome h
 refine E_join (fun e w=>∃ (g:Gh) (v9:Value),Fr gI wI g w∧e 7=m8∧OB 2007 g w 40 (y5:BoxLoom) m8∧e 8=x5∧OB 2008 g w 68 (y8:BeamTake) x5∧e 9=v9∧RV g.m w (x8:List Int) v9∧OS 3030 g w 3 (x8:List Int) v9∧e 10=.int .i64 (u3.1)∧e 11=.int .i64 (u3.2)) (fun Q' hQ=>?_) (fun bV vW hR=>?_)
 ·replace h := hx
  clear hx
  refine Zf (Za (Zg (.int .i64 (0)) rfl rfl ?_))
  refine Zb (Zd (Zr ?_))
  refine E_lp h (fun (s:(List Int) × Int) e w=>∃ (g:Gh) (v9:Value),Fr gI wI g w∧e 1=up1∧RV g.m w (x1:List UInt8) up1∧e 7=m8∧OB 2007 g w 40 (y5:BoxLoom) m8∧e 8=x5∧OB 2008 g w 68 (y8:BeamTake) x5∧e 9=v9∧RV g.m w (s.1:List Int) v9∧OS 3030 g w 3 (s.1:List Int) v9∧e 10=.int .i64 (u3.1)∧e 11=.int .i64 (u3.2)∧e 12=.int .i64 (s.2)) ⟨nS,(v9),hfr,rfl,rp1,rfl,b26,rfl,b27,rfl,qM,o25,rfl,rfl,rfl⟩ (fun X58 bQ oQ=>?_)
  rintro ⟨zB,t5⟩ cV xW ⟨iQ,cC,hfr,lG,mG,qI,sI,tI,uI,vI,yI,zI,lH,mH,sD⟩ h
  refine Zq h (fun (s:Unit) e w=>∃ (g:Gh) ,Fr gI wI g w∧e 1=up1∧RV g.m w (x1:List UInt8) up1∧e 7=m8∧OB 2007 g w 40 (y5:BoxLoom) m8∧e 8=x5∧OB 2008 g w 68 (y8:BeamTake) x5∧e 9=cC∧RV g.m w (zB:List Int) cC∧OS 3030 g w 3 (zB:List Int) cC∧e 10=.int .i64 (u3.1)∧e 11=.int .i64 (u3.2)∧e 12=.int .i64 (t5)) (fun X65 cQ pQ h=>?_) ?_
  ·obtain ⟨vC, hx, h⟩ := bsome h
   refine E_join (fun e w=>∃ (g:Gh) ,Fr gI wI g w∧e 1=up1∧RV g.m w (x1:List UInt8) up1∧e 7=m8∧OB 2007 g w 40 (y5:BoxLoom) m8∧e 8=x5∧OB 2008 g w 68 (y8:BeamTake) x5∧e 9=cC∧RV g.m w (zB:List Int) cC∧OS 3030 g w 3 (zB:List Int) cC∧e 10=.int .i64 (u3.1)∧e 11=.int .i64 (u3.2)∧e 12=.int .i64 (t5)∧e 43=.bool (vC)) (fun Q' hQ=>?_) (fun dV yW hR=>?_)
   ·replace h := hx
    clear hx
    refine Za (Zo sD rfl ?_)
    refine Zo lG rfl ?_
    refine EL_p (.int .i64 ((x1).length:Int)) (P_len Try.underlying22 rfl mG) rfl ?_
    refine EL_in (.bool ((decide (t5 < ((x1).length:Int))))) rfl rfl rfl rfl ?_
    refine Zn (.bool ((decide (t5 < ((x1).length:Int))))) rfl rfl ?_
    rcases Zt h with ⟨lD,h⟩ | ⟨lD,h⟩
    ·refine EL_y (.int .i64 (t5)) (Zk sD) rfl rfl lD rfl ?_
     refine EL_y (.bool ((decide (t5 < (12:Int))))) (P_int rfl rfl rfl) rfl rfl lD rfl ?_
     refine EL_p (.bool ((decide (t5 < (12:Int))))) (Zl (b:=(decide (t5 < ((x1).length:Int)))) rfl (pick_t lD rfl)) rfl ?_
     refine Zb ?_
     obtain rfl:=sinj h
     exact hQ _ _ ⟨iQ,hfr,lG,mG,qI,sI,tI,uI,vI,yI,zI,lH,mH,sD,rfl⟩
    ·refine EL_s rfl rfl lD rfl rfl ?_
     refine EL_s rfl rfl lD rfl rfl ?_
     refine EL_p (.bool false) (Zl (b:=(decide (t5 < ((x1).length:Int)))) rfl (pick_f lD rfl)) rfl ?_
     refine Zb ?_
     obtain rfl:=sinj h
     exact hQ _ _ ⟨iQ,hfr,lG,mG,qI,sI,tI,uI,vI,yI,zI,lH,mH,sD,rfl⟩
   ·clear hx
    obtain ⟨jQ,hfr,lO,mO,eJ,gJ,iJ,jJ,kJ,lJ,mJ,nH,oH,rM,pH⟩:=hR
    rcases Zt h with ⟨jI,h⟩ | ⟨jI,h⟩
    ·refine E_cond_true (Eq.trans (show ev _ _ = .bool (vC) from pH) (congrArg Value.bool jI)) ?_
     exact Zu (Zd (pQ () _ _ ⟨jQ,hfr,lO,mO,eJ,gJ,iJ,jJ,kJ,lJ,mJ,nH,oH,rM⟩ h))
    ·refine E_cond_false (Eq.trans (show ev _ _ = .bool (vC) from pH) (congrArg Value.bool jI)) ?_
     refine E_exit ?_
     refine thn_e ?_
     refine thn_e ?_
     refine blk_hit ?_
     obtain rfl:=sinj h
     exact hQ _ _ ⟨jQ,(cC),hfr,eJ,gJ,iJ,jJ,kJ,lJ,mJ,nH,oH⟩
  ·rintro _ eV zW ⟨kQ, hfr, nJ, mC, nO, tD, oO, uD, pO, sG, xG, sM, tM, qH⟩ h
   obtain ⟨nD,hx,h⟩:=bsome h
   refine E_join (fun e w=>∃ (g:Gh) (v9:Value),Fr gI wI g w∧e 1=up1∧RV g.m w (x1:List UInt8) up1∧e 7=m8∧OB 2007 g w 40 (y5:BoxLoom) m8∧e 8=x5∧OB 2008 g w 68 (y8:BeamTake) x5∧e 9=v9∧RV g.m w (nD:List Int) v9∧OS 3030 g w 3 (nD:List Int) v9∧e 10=.int .i64 (u3.1)∧e 11=.int .i64 (u3.2)∧e 12=.int .i64 (t5)) (fun Q' hQ=>?_) (fun gV aX hR=>?_)
   ·replace h := hx
    clear hx
    refine Zr ?_
    refine Za (Zo pO rfl ?_)
    refine Zo nJ rfl ?_
    refine Zo qH rfl ?_
    obtain ⟨bM,uM,h⟩:=bsome h
    refine EL_p (ePtr up1 t5 1) (Zh (α:=UInt8) Try.underlying22 Try.sizeOf5 rfl mC rfl uM) rfl ?_
    have oS:=PT_idx mC uM
    refine Ze .plain rfl (D_load (g:=kQ) Try.isAgg5 Try.sizeOf5 rfl oS fun bX pS=>?_)
    obtain rfl:=RV_u8.1 pS
    refine EL_p (.int .i64 (((bM).toNat:Int))) (P_u8int Try.underlying5 Try.underlying3 rfl) rfl ?_
    obtain ⟨y81,qQ,h⟩:=bsome h
    refine EL_p (.int .i64 (y81)) (P_int rfl rfl (congrArg (Option.map (Value.int .i64)) qQ)) rfl ?_
    refine Ze .plain rfl (D_buildSlice (g:=kQ) 3053 (xs:=([y81]:List Int)) (vs:=[.int .i64 (y81)]) Try.underlying26 Try.sizeOf3 Try.zeroValue3 rfl rfl (.cons rfl .nil) (RVs.cons (Zj.2 rfl) RVs.nil) rfl rfl fun qS cX dX hs o82 rS hxt hfl=>?_)
    have hfr:=hfr.stp hs
    have mC:=mC.stp hs
    have tD:=tD.stp hs rfl
    have uD:=uD.stp hs rfl
    have sG:=sG.stp hs
    have xG:=xG.stp hs rfl
    obtain ⟨y84,rQ,h⟩:=bsome h
    refine Ze .plain rfl (D_append (g:=qS) (i:=3030) Try.underlying26 info_3 rfl rfl xG sG rfl rS rQ fun sS eX lQ hs o83 tS _=>?_)
    have hfr:=hfr.stp hs
    have mC:=mC.stp hs
    have tD:=tD.stp hs rfl
    have uD:=uD.stp hs rfl
    refine Zg lQ rfl rfl ?_
    refine Zb (blk_n ?_)
    obtain rfl:=sinj h
    exact hQ _ _ ⟨sS,(lQ),hfr,nJ,mC,nO,tD,oO,uD,rfl,tS,o83,sM,tM,qH⟩
   ·clear hx
    obtain ⟨uS,qO,hfr,rO,sO,tO,uO,vO,xO,yO,zO,aP,vM,xM,bN⟩:=hR
    refine Za (Zo bN rfl ?_)
    refine EL_in (.int .i64 ((w64 (t5 + (1:Int))))) rfl rfl rfl rfl ?_
    refine Zg (.int .i64 ((w64 (t5 + (1:Int))))) rfl rfl ?_
    exact Zb (Zd (oQ (nD,(w64 (t5 + (1:Int)))) _ _ ⟨uS,(qO),hfr,rO,sO,tO,uO,vO,xO,yO,zO,aP,vM,xM,rfl⟩ h))
 ·clear hx
  obtain ⟨mQ,lB,hfr,uE,k9,yG,n9,vD,a9,u9,xE,yE⟩:=hR
  refine Zf (Za (Ze .plain rfl (D_loadO (g:=mQ) Try.isAgg40 Try.sizeOf40 uE k9 fun vS xS=>?_)))
  obtain ⟨dQ,sQ,h⟩:=bsome h
  refine Ze .plain rfl (Zp (g:=mQ) (vs:=[vS]) en21 (.cons rfl .nil) (wk21 xS sQ) fun yS iV zS hs hr=>?_)
  have hfr:=hfr.ext hs
  have k9:=k9.ext hs
  have n9:=n9.ext hs
  have a9:=a9.ext hs
  have u9:=u9.ext hs
  have cN:=hr
  refine Zo vD rfl ?_
  obtain ⟨eQ,tQ,h⟩:=bsome h
  refine Ze .plain rfl (Zp (g:=yS) (vs:=[lB]) en22 (.cons rfl .nil) (wk22 a9 tQ) fun eT jV lT hs hr=>?_)
  have hfr:=hfr.ext hs
  have k9:=k9.ext hs
  have n9:=n9.ext hs
  have a9:=a9.ext hs
  have u9:=u9.ext hs
  have cN:=cN.ext hs
  have mT:=hr
  obtain ⟨x6,uQ,h⟩:=bsome h
  refine Ze .plain rfl (Zp (g:=eT) (vs:=[zS,lT]) en10 (.cons rfl (.cons rfl .nil)) (wk10 cN mT uQ) fun dN kV gX hs hr=>?_)
  have hfr:=hfr.ext hs
  have k9:=k9.ext hs
  have n9:=n9.ext hs
  have a9:=a9.ext hs
  have u9:=u9.ext hs
  obtain ⟨cD,zT,aU,bU,rfl,zG,rfl,rfl,rfl⟩:=hr
  refine Zn (.tuple #[cD,.int .i64 (x6.2.1),.int .i64 (x6.2.2.1),.int .i64 (x6.2.2.2)]) rfl rfl ?_
  refine EL_p cD (Zi rfl rfl) rfl ?_
  refine EL_p (.int .i64 (x6.2.1)) (Zi rfl rfl) rfl ?_
  refine EL_p (.int .i64 (x6.2.2.1)) (Zi rfl rfl) rfl ?_
  refine EL_p (.int .i64 (x6.2.2.2)) (Zi rfl rfl) rfl ?_
  refine Zg cD rfl rfl ?_
  refine Zg (.int .i64 (x6.2.1)) rfl rfl ?_
  refine Zg (.int .i64 (x6.2.2.1)) rfl rfl ?_
  refine Zg (.int .i64 (x6.2.2.2)) rfl rfl ?_
  refine Zb (Zd ?_)
  obtain ⟨⟨o0,d9⟩,hx,h⟩:=bsome h
  refine E_join (fun e w=>∃ (g:Gh) (pM:Value),Fr gI wI g w∧e 7=m8∧OB 2007 g w 40 (y5:BoxLoom) m8∧e 8=x5∧OB 2008 g w 68 (y8:BeamTake) x5∧e 10=.int .i64 (u3.1)∧e 11=.int .i64 (u3.2)∧e 13=pM∧RV g.m w (o0:List BoxPick) pM∧e 16=.int .i64 (d9)) (fun Q' hQ=>?_) (fun cU lV hR=>?_)
  ·replace h := hx
   clear hx
   obtain ⟨mB,hx,h⟩:=bsome h
   refine E_join (fun e w=>∃ (g:Gh) ,Fr gI wI g w∧e 7=m8∧OB 2007 g w 40 (y5:BoxLoom) m8∧e 8=x5∧OB 2008 g w 68 (y8:BeamTake) x5∧e 9=lB∧RV g.m w (x8:List Int) lB∧OS 3030 g w 3 (x8:List Int) lB∧e 10=.int .i64 (u3.1)∧e 11=.int .i64 (u3.2)∧e 13=cD∧RV g.m w (x6.1:List BoxPick) cD∧e 15=.int .i64 (x6.2.2.1)∧e 16=.int .i64 (x6.2.2.2)∧e 76=.bool (mB)) (fun Q' hQ=>?_) (fun dU mV hR=>?_)
   ·replace h := hx
    clear hx
    refine Za (Zn (.int .i64 (x6.2.2.2)) rfl rfl ?_)
    refine EL_in (.bool ((x6.2.2.2 == (9:Int)))) rfl rfl rfl rfl ?_
    refine Zn (.bool ((x6.2.2.2 == (9:Int)))) rfl rfl ?_
    rcases Zt h with ⟨qC,h⟩ | ⟨qC,h⟩
    ·refine EL_y (.int .i64 (x6.2.2.1)) (Zk rfl) rfl rfl qC rfl ?_
     refine EL_y (.bool ((decide (x6.2.2.1 ≥ (0:Int))))) (P_int rfl rfl rfl) rfl rfl qC rfl ?_
     refine EL_p (.bool ((decide (x6.2.2.1 ≥ (0:Int))))) (Zl (b:=(x6.2.2.2 == (9:Int))) rfl (pick_t qC rfl)) rfl ?_
     refine Zn (.bool ((decide (x6.2.2.1 ≥ (0:Int))))) rfl rfl ?_
     rcases Zt h with ⟨y9,h⟩ | ⟨y9,h⟩
     ·refine EL_y (.int .i64 (x6.2.2.1)) (Zk rfl) rfl rfl y9 rfl ?_
      refine EL_y lB (Zk vD) rfl rfl y9 rfl ?_
      refine EL_y (.int .i64 ((x8).length:Int)) (P_len Try.underlying26 rfl a9) rfl rfl y9 rfl ?_
      refine EL_y (.bool ((decide (x6.2.2.1 < ((x8).length:Int))))) (P_int rfl rfl rfl) rfl rfl y9 rfl ?_
      refine EL_p (.bool ((decide (x6.2.2.1 < ((x8).length:Int))))) (Zl (b:=(decide (x6.2.2.1 ≥ (0:Int)))) rfl (pick_t y9 rfl)) rfl ?_
      refine Zb ?_
      obtain rfl:=sinj h
      exact hQ _ _ ⟨dN,hfr,uE,k9,yG,n9,vD,a9,u9,xE,yE,rfl,zG,rfl,rfl,rfl⟩
     ·refine EL_s rfl rfl y9 rfl rfl ?_
      iterate 3 refine EL_s rfl rfl y9 rfl rfl ?_
      refine EL_p (.bool false) (Zl (b:=(decide (x6.2.2.1 ≥ (0:Int)))) rfl (pick_f y9 rfl)) rfl ?_
      refine Zb ?_
      obtain rfl:=sinj h
      exact hQ _ _ ⟨dN,hfr,uE,k9,yG,n9,vD,a9,u9,xE,yE,rfl,zG,rfl,rfl,rfl⟩
    ·refine EL_s rfl rfl qC rfl rfl ?_
     refine EL_s rfl rfl qC rfl rfl ?_
     refine EL_p (.bool false) (Zl (b:=(x6.2.2.2 == (9:Int))) rfl (pick_f qC rfl)) rfl ?_
     refine EL_dead 6 rfl ?_
     refine Zb ?_
     obtain rfl:=sinj h
     exact hQ _ _ ⟨dN,hfr,uE,k9,yG,n9,vD,a9,u9,xE,yE,rfl,zG,rfl,rfl,rfl⟩
   ·clear hx
    obtain ⟨eN,hfr,zE,aD,sH,xD,gN,tH,nT,sF,tF,qJ,rJ,sJ,vJ,uF⟩:=hR
    rcases Zt h with ⟨aH,h⟩ | ⟨aH,h⟩
    ·refine E_cond_true (Eq.trans (show ev _ _ = .bool (mB) from uF) (congrArg Value.bool aH)) ?_
     refine L_loadO0 (x:=.tmp 7) Try.isAgg40 Try.sizeOf40 aD fun iN vQ bP=>?_
     obtain ⟨aE,cP,h⟩:=bsome h
     obtain ⟨y140,oJ,h⟩:=bsome h
     have xQ:=RV_cut tH oJ
     obtain ⟨bE,dP,h⟩:=bsome h
     obtain ⟨l5,eP,h⟩:=bsome h
     refine E_drawL (g:=eN) (n:=14) [(1,(fun v g w=>RV g.m w aE v)),(5,(fun v g w=>RV g.m w bE v)),(6,(fun v g w=>∃ y0 y1 y2 y3:Value,v=.tuple #[y0,y1,y2,y3]∧RV g.m w (l5.1:List BoxPick) y0∧y1=.int .i64 (l5.2.1)∧y2=.int .i64 (l5.2.2.1)∧y3=.int .i64 (l5.2.2.2)))] [0,1,2,3,4,5,6,7,8,9,10,11,12,13] rfl mixed (by kernel_rfl) (⟨fun _=>up_rv,fun _=>up_rv,fun _=>(up_ex fun _=>(up_ex fun _=>(up_ex fun _=>(up_ex fun _=>(up_and (up_eq _) (up_and up_rv (up_and (up_eq _) (up_and (up_eq _) (up_eq _))))))))),trivial⟩) ?_
     refine L_ld (c:=iN) rfl rfl .plain (fun _ _ h=>⟨h.ch,fun b hb _=>h.below.block b hb⟩) bP zE ?_
     refine L_do (φ:=fun v g w=>RV g.m w aE v) rfl rfl .plain (fun g w hd=>Zp (g:=g) (vs:=[iN]) en21 (.cons rfl .nil) (wk21 (vQ.ext hd.1) cP) fun g' w' v hs hr=>⟨g',hs,hr⟩) (fun kI hv=>?_)
     obtain ⟨_,_,_,rq138⟩:=hv
     refine L_p lB rfl rfl (Zk gN) ?_
     refine L_p (.int .i64 (x6.2.2.1)) rfl rfl (Zk sJ) ?_
     refine L_p ((cutV lB (Int.toNat 0) (Int.toNat x6.2.2.1) 1)) rfl rfl (P_slice Try.underlying26 Try.sizeOf3 rfl tH rfl rfl oJ) ?_
     refine L_do (φ:=fun v g w=>RV g.m w bE v) rfl rfl .plain (fun g w hd=>Zp (g:=g) (vs:=[(cutV lB (Int.toNat 0) (Int.toNat x6.2.2.1) 1)]) en22 (.cons rfl .nil) (wk22 (xQ.ext hd.1) dP) fun g' w' v hs hr=>⟨g',hs,hr⟩) (fun lI hv=>?_)
     obtain ⟨_,_,_,rq142⟩:=hv
     refine L_do (φ:=fun v g w=>∃ y0 y1 y2 y3:Value,v=.tuple #[y0,y1,y2,y3]∧RV g.m w (l5.1:List BoxPick) y0∧y1=.int .i64 (l5.2.1)∧y2=.int .i64 (l5.2.2.1)∧y3=.int .i64 (l5.2.2.2)) rfl rfl .plain (fun g w hd=>Zp (g:=g) (vs:=[kI,lI]) en10 (.cons rfl (.cons rfl .nil)) (wk10 (word (A:=fun g w=>RV g.m w aE kI) 1 rfl rfl (deps_of hd)) (word (A:=fun g w=>RV g.m w bE lI) 5 rfl rfl (deps_of hd)) eP) fun g' w' v hs hr=>⟨g',hs,hr⟩) (fun nV hv=>?_)
     obtain ⟨_,_,_,oB,_,_,_,rfl,eS,rfl,rfl,rfl⟩:=hv
     refine L_p (.tuple #[oB,.int .i64 (l5.2.1),.int .i64 (l5.2.2.1),.int .i64 (l5.2.2.2)]) rfl rfl (Zk rfl) ?_
     refine L_p oB rfl rfl (Zi rfl rfl) ?_
     refine L_p (.int .i64 (l5.2.1)) rfl rfl (Zi rfl rfl) ?_
     refine L_p (.int .i64 (l5.2.2.1)) rfl rfl (Zi rfl rfl) ?_
     refine L_p (.int .i64 (l5.2.2.2)) rfl rfl (Zi rfl rfl) ?_
     refine L_p oB rfl rfl (P_assign rfl) ?_
     refine L_p (.int .i64 (l5.2.2.2)) rfl rfl (P_assign rfl) ?_
     refine L_nil fun yQ oV hall=>?_
     have hs:=hall.1
     have hfr:=hfr.ext hs
     have aD:=aD.ext hs
     have xD:=xD.ext hs
     have zQ:=(tup4_0 (word_all (A:=fun g w=>∃ y0 y1 y2 y3:Value,Value.tuple #[oB,.int .i64 (l5.2.1),.int .i64 (l5.2.2.1),.int .i64 (l5.2.2.2)]=.tuple #[y0,y1,y2,y3]∧RV g.m w (l5.1:List BoxPick) y0∧y1=.int .i64 (l5.2.1)∧y2=.int .i64 (l5.2.2.1)∧y3=.int .i64 (l5.2.2.2)) 6 rfl hall))
     have pV:=(word_all (A:=fun g w=>RV g.m w aE kI) 1 rfl hall)
     have qV:=(word_all (A:=fun g w=>RV g.m w bE lI) 5 rfl hall)
     have rV:=(tup4_0 (word_all (A:=fun g w=>∃ y0 y1 y2 y3:Value,Value.tuple #[oB,.int .i64 (l5.2.1),.int .i64 (l5.2.2.1),.int .i64 (l5.2.2.2)]=.tuple #[y0,y1,y2,y3]∧RV g.m w (l5.1:List BoxPick) y0∧y1=.int .i64 (l5.2.1)∧y2=.int .i64 (l5.2.2.1)∧y3=.int .i64 (l5.2.2.2)) 6 rfl hall))
     clear hs hall
     refine Zb ?_
     obtain ⟨rfl,rfl⟩:=pairs2 h
     exact hQ _ _ ⟨yQ,(oB),hfr,zE,aD,sH,xD,sF,tF,rfl,zQ,rfl⟩
    ·refine E_cond_false (Eq.trans (show ev _ _ = .bool (mB) from uF) (congrArg Value.bool aH)) ?_
     refine Zu ?_
     obtain ⟨rfl,rfl⟩:=pairs2 h
     exact hQ _ _ ⟨eN,(cD),hfr,zE,aD,sH,xD,sF,tF,qJ,rJ,vJ⟩
  ·clear hx
   obtain ⟨jN,i7,hfr,uH,xH,yH,zH,vF,xF,lE,mE,xJ⟩:=hR
   refine Zq h (fun (s:Unit) e w=>∃ (g:Gh) ,Fr gI wI g w∧e 7=m8∧OB 2007 g w 40 (y5:BoxLoom) m8∧e 8=x5∧OB 2008 g w 68 (y8:BeamTake) x5∧e 10=.int .i64 (u3.1)∧e 11=.int .i64 (u3.2)∧e 13=i7∧RV g.m w (o0:List BoxPick) i7) (fun X173 oM gP h=>?_) ?_
   ·obtain ⟨nB, hx, h⟩ := bsome h
    refine E_join (fun e w=>∃ (g:Gh) ,Fr gI wI g w∧e 7=m8∧OB 2007 g w 40 (y5:BoxLoom) m8∧e 8=x5∧OB 2008 g w 68 (y8:BeamTake) x5∧e 10=.int .i64 (u3.1)∧e 11=.int .i64 (u3.2)∧e 13=i7∧RV g.m w (o0:List BoxPick) i7∧e 95=.bool (nB)) (fun Q' hQ=>?_) (fun eU sV hR=>?_)
    ·replace h := hx
     clear hx
     refine Za (Zo xJ rfl ?_)
     refine EL_in (.bool ((d9 != (0:Int)))) rfl rfl rfl rfl ?_
     refine Zn (.bool ((d9 != (0:Int)))) rfl rfl ?_
     rcases Zt h with ⟨z9,h⟩ | ⟨z9,h⟩
     ·refine EL_s rfl rfl z9 rfl rfl ?_
      refine EL_s rfl rfl z9 rfl rfl ?_
      refine EL_s rfl rfl z9 rfl rfl ?_
      refine EL_p (.bool true) (Zl (b:=(d9 != (0:Int))) rfl (pick_t z9 rfl)) rfl ?_
      refine Zb ?_
      obtain rfl:=sinj h
      exact hQ _ _ ⟨jN,hfr,uH,xH,yH,zH,vF,xF,lE,mE,rfl⟩
     ·refine EL_y i7 (Zk lE) rfl rfl z9 rfl ?_
      refine EL_y (.int .i64 ((o0).length:Int)) (P_len Try.underlying41 rfl mE) rfl rfl z9 rfl ?_
      refine EL_y (.bool ((decide (((o0).length:Int) > (12:Int))))) (P_int rfl rfl rfl) rfl rfl z9 rfl ?_
      refine EL_p (.bool ((decide (((o0).length:Int) > (12:Int))))) (Zl (b:=(d9 != (0:Int))) rfl (pick_f z9 rfl)) rfl ?_
      refine Zb ?_
      obtain rfl:=sinj h
      exact hQ _ _ ⟨jN,hfr,uH,xH,yH,zH,vF,xF,lE,mE,rfl⟩
    ·clear hx
     obtain ⟨aR,hfr,kN,lN,mN,nN,yJ,zJ,aK,bK,yF⟩:=hR
     rcases Zt h with ⟨cH,h⟩ | ⟨cH,h⟩
     ·refine E_cond_true (Eq.trans (show ev _ _ = .bool (nB) from yF) (congrArg Value.bool cH)) ?_
      refine Zf (Za (Zg (.bool false) rfl rfl ?_))
      refine Zb (Zd (E_ret (thn_r ?_)))
      obtain rfl:=sinj h
      exact end1 rfl rfl (show _=.bool false from rfl) ⟨_,hfr,rfl⟩
     ·refine E_cond_false (Eq.trans (show ev _ _ = .bool (nB) from yF) (congrArg Value.bool cH)) ?_
      exact Zu (Zd (gP () _ _ ⟨aR,hfr,kN,lN,mN,nN,yJ,zJ,aK,bK⟩ h))
   ·rintro _ gU tV ⟨oN, hfr, pN, qN, bD, l8, tB, vB, v8, i6⟩ h
    refine Zf (Za (Ze .plain rfl (D_loadO (g:=oN) Try.isAgg40 Try.sizeOf40 pN qN fun bR cR=>?_)))
    obtain ⟨y181,iP,h⟩:=bsome h
    refine Ze .plain rfl (Zp (g:=oN) (vs:=[bR]) en21 (.cons rfl .nil) (wk21 cR iP) fun dR iU eR hs hr=>?_)
    have hfr:=hfr.ext hs
    have l8:=l8.ext hs
    have i6:=i6.ext hs
    have cF:=hr
    refine Ze .plain rfl (D_buildSlice (g:=dR) 3099 (xs:=([]:List BoxPick)) (vs:=[]) Try.underlying41 Try.sizeOf151 Try.zeroValue151 rfl rfl .nil RVs.nil rfl rfl fun gR uV vV hs o182 iR hxt hfl=>?_)
    have hfr:=hfr.stp hs
    have l8:=l8.stp hs rfl
    have i6:=i6.stp hs
    have cF:=cF.stp hs
    refine Zo v8 rfl ?_
    obtain ⟨cM,jP,h⟩:=bsome h
    refine Ze .plain rfl (D_append (g:=gR) (i:=3099) Try.underlying41 info_151 rfl rfl o182 iR rfl i6 jP fun jR xV lR hs o183 mR _=>?_)
    have hfr:=hfr.stp hs
    have l8:=l8.stp hs rfl
    have i6:=i6.stp hs
    have cF:=cF.stp hs
    obtain ⟨y186,kP,h⟩:=bsome h
    refine Ze .plain rfl (Zp (g:=jR) (vs:=[eR,lR]) en23 (.cons rfl (.cons rfl .nil)) (wk23 cF mR kP) fun dF jU yV hs hr=>?_)
    have hfr:=hfr.ext hs
    have l8:=l8.ext hs
    have i6:=i6.ext hs
    obtain ⟨oT,pT,sT,rfl,rfl,rfl,rfl⟩:=hr
    refine Zn (.tuple #[.int .i64 (y186.1),.int .i64 (y186.2.1),.int .i64 (y186.2.2)]) rfl rfl ?_
    refine EL_p (.int .i64 (y186.1)) (Zi rfl rfl) rfl ?_
    refine EL_p (.int .i64 (y186.2.1)) (Zi rfl rfl) rfl ?_
    refine EL_p (.int .i64 (y186.2.2)) (Zi rfl rfl) rfl ?_
    refine Zg (.int .i64 (y186.1)) rfl rfl ?_
    refine Zg (.int .i64 (y186.2.1)) rfl rfl ?_
    refine Zg (.int .i64 (y186.2.2)) rfl rfl ?_
    refine Zb (Zd (Zq h (fun (s:Unit) e w=>∃ (g:Gh) ,Fr gI wI g w∧e 8=x5∧OB 2008 g w 68 (y8:BeamTake) x5∧e 10=.int .i64 (u3.1)∧e 11=.int .i64 (u3.2)∧e 13=i7∧RV g.m w (o0:List BoxPick) i7∧e 17=.int .i64 (y186.1)∧e 18=.int .i64 (y186.2.1)) (fun X197 nM lP h=>?_) ?_))
    ·obtain ⟨iB, hx, h⟩ := bsome h
     refine E_join (fun e w=>∃ (g:Gh) ,Fr gI wI g w∧e 8=x5∧OB 2008 g w 68 (y8:BeamTake) x5∧e 10=.int .i64 (u3.1)∧e 11=.int .i64 (u3.2)∧e 13=i7∧RV g.m w (o0:List BoxPick) i7∧e 17=.int .i64 (y186.1)∧e 18=.int .i64 (y186.2.1)∧e 127=.bool (iB)) (fun Q' hQ=>?_) (fun kU zV hR=>?_)
     ·replace h := hx
      clear hx
      refine Za (Zn (.int .i64 (y186.2.2)) rfl rfl ?_)
      refine EL_in (.bool ((y186.2.2 != (0:Int)))) rfl rfl rfl rfl ?_
      refine Zn (.bool ((y186.2.2 != (0:Int)))) rfl rfl ?_
      rcases Zt h with ⟨rC,h⟩ | ⟨rC,h⟩
      ·refine EL_s rfl rfl rC rfl rfl ?_
       refine EL_s rfl rfl rC rfl rfl ?_
       refine EL_p (.bool true) (Zl (b:=(y186.2.2 != (0:Int))) rfl (pick_t rC rfl)) rfl ?_
       refine EL_dead 16 rfl ?_
       refine Zb ?_
       obtain rfl:=sinj h
       exact hQ _ _ ⟨dF,hfr,bD,l8,tB,vB,v8,i6,rfl,rfl,rfl⟩
      ·refine EL_y (.int .i64 (y186.1)) (Zk rfl) rfl rfl rC rfl ?_
       refine EL_y (.bool ((decide (y186.1 < (-1:Int))))) (P_int rfl rfl rfl) rfl rfl rC rfl ?_
       refine EL_p (.bool ((decide (y186.1 < (-1:Int))))) (Zl (b:=(y186.2.2 != (0:Int))) rfl (pick_f rC rfl)) rfl ?_
       refine Zn (.bool ((decide (y186.1 < (-1:Int))))) rfl rfl ?_
       rcases Zt h with ⟨uC,h⟩ | ⟨uC,h⟩
       ·refine EL_s rfl rfl uC rfl rfl ?_
        refine EL_s rfl rfl uC rfl rfl ?_
        refine EL_p (.bool true) (Zl (b:=(decide (y186.1 < (-1:Int)))) rfl (pick_t uC rfl)) rfl ?_
        refine EL_dead 12 rfl ?_
        refine Zb ?_
        obtain rfl:=sinj h
        exact hQ _ _ ⟨dF,hfr,bD,l8,tB,vB,v8,i6,rfl,rfl,rfl⟩
       ·refine EL_y (.int .i64 (y186.2.1)) (Zk rfl) rfl rfl uC rfl ?_
        refine EL_y (.bool ((decide (y186.2.1 < (-1:Int))))) (P_int rfl rfl rfl) rfl rfl uC rfl ?_
        refine EL_p (.bool ((decide (y186.2.1 < (-1:Int))))) (Zl (b:=(decide (y186.1 < (-1:Int)))) rfl (pick_f uC rfl)) rfl ?_
        refine Zn (.bool ((decide (y186.2.1 < (-1:Int))))) rfl rfl ?_
        rcases Zt h with ⟨bA,h⟩ | ⟨bA,h⟩
        ·refine EL_s rfl rfl bA rfl rfl ?_
         iterate 3 refine EL_s rfl rfl bA rfl rfl ?_
         refine EL_p (.bool true) (Zl (b:=(decide (y186.2.1 < (-1:Int)))) rfl (pick_t bA rfl)) rfl ?_
         refine EL_dead 6 rfl ?_
         refine Zb ?_
         obtain rfl:=sinj h
         exact hQ _ _ ⟨dF,hfr,bD,l8,tB,vB,v8,i6,rfl,rfl,rfl⟩
        ·refine EL_y (.int .i64 (y186.1)) (Zk rfl) rfl rfl bA rfl ?_
         refine EL_y i7 (Zk v8) rfl rfl bA rfl ?_
         refine EL_y (.int .i64 ((o0).length:Int)) (P_len Try.underlying41 rfl i6) rfl rfl bA rfl ?_
         refine EL_y (.bool ((decide (y186.1 ≥ ((o0).length:Int))))) (P_int rfl rfl rfl) rfl rfl bA rfl ?_
         refine EL_p (.bool ((decide (y186.1 ≥ ((o0).length:Int))))) (Zl (b:=(decide (y186.2.1 < (-1:Int)))) rfl (pick_f bA rfl)) rfl ?_
         refine Zn (.bool ((decide (y186.1 ≥ ((o0).length:Int))))) rfl rfl ?_
         rcases Zt h with ⟨iA,h⟩ | ⟨iA,h⟩
         ·refine EL_s rfl rfl iA rfl rfl ?_
          iterate 3 refine EL_s rfl rfl iA rfl rfl ?_
          refine EL_p (.bool true) (Zl (b:=(decide (y186.1 ≥ ((o0).length:Int)))) rfl (pick_t iA rfl)) rfl ?_
          refine Zb ?_
          obtain rfl:=sinj h
          exact hQ _ _ ⟨dF,hfr,bD,l8,tB,vB,v8,i6,rfl,rfl,rfl⟩
         ·refine EL_y (.int .i64 (y186.2.1)) (Zk rfl) rfl rfl iA rfl ?_
          refine EL_y i7 (Zk v8) rfl rfl iA rfl ?_
          refine EL_y (.int .i64 ((o0).length:Int)) (P_len Try.underlying41 rfl i6) rfl rfl iA rfl ?_
          refine EL_y (.bool ((decide (y186.2.1 ≥ ((o0).length:Int))))) (P_int rfl rfl rfl) rfl rfl iA rfl ?_
          refine EL_p (.bool ((decide (y186.2.1 ≥ ((o0).length:Int))))) (Zl (b:=(decide (y186.1 ≥ ((o0).length:Int)))) rfl (pick_f iA rfl)) rfl ?_
          refine Zb ?_
          obtain rfl:=sinj h
          exact hQ _ _ ⟨dF,hfr,bD,l8,tB,vB,v8,i6,rfl,rfl,rfl⟩
     ·clear hx
      obtain ⟨nR,hfr,rN,sN,cK,dK,lK,mK,nK,oK,eF⟩:=hR
      rcases Zt h with ⟨dH,h⟩ | ⟨dH,h⟩
      ·refine E_cond_true (Eq.trans (show ev _ _ = .bool (iB) from eF) (congrArg Value.bool dH)) ?_
       refine Zf (Za (Zg (.bool false) rfl rfl ?_))
       refine Zb (Zd (E_ret (thn_r ?_)))
       obtain rfl:=sinj h
       exact end1 rfl rfl (show _=.bool false from rfl) ⟨_,hfr,rfl⟩
      ·refine E_cond_false (Eq.trans (show ev _ _ = .bool (iB) from eF) (congrArg Value.bool dH)) ?_
       exact Zu (Zd (lP () _ _ ⟨nR,hfr,rN,sN,cK,dK,lK,mK,nK,oK⟩ h))
    ·rintro _ lU aW ⟨tN, hfr, aI, bI, zF, aG, oE, rE, bG, cG⟩ h
     obtain ⟨y6,hx,h⟩:=bsome h
     refine E_join (fun e w=>∃ (g:Gh) ,Fr gI wI g w∧e 8=x5∧OB 2008 g w 68 (y8:BeamTake) x5∧e 10=.int .i64 (u3.1)∧e 11=.int .i64 (u3.2)∧e 13=i7∧RV g.m w (o0:List BoxPick) i7∧e 17=.int .i64 (y6)∧e 18=.int .i64 (y186.2.1)) (fun Q' hQ=>?_) (fun mU bW hR=>?_)
     ·replace h := hx
      clear hx
      refine Zf (Za (Zo bG rfl ?_))
      refine EL_in (.bool ((decide (y186.1 < (0:Int))))) rfl rfl rfl rfl ?_
      refine Zb (Zd ?_)
      rcases Zt h with ⟨gH,h⟩ | ⟨gH,h⟩
      ·refine E_ct gH rfl ?_
       refine Za (Zo oE rfl ?_)
       refine EL_p (.int .i64 ((o0).length:Int)) (P_len Try.underlying41 rfl rE) rfl ?_
       refine Zg (.int .i64 ((o0).length:Int)) rfl rfl ?_
       refine Zb ?_
       obtain rfl:=sinj h
       exact hQ _ _ ⟨tN,hfr,aI,bI,zF,aG,oE,rE,rfl,cG⟩
      ·refine E_cf gH rfl ?_
       refine Zu ?_
       obtain rfl:=sinj h
       exact hQ _ _ ⟨tN,hfr,aI,bI,zF,aG,oE,rE,bG,cG⟩
     ·clear hx
      obtain ⟨uN,hfr,dI,iI,eG,gG,pK,qK,hG,iG⟩:=hR
      obtain ⟨m7,hx,h⟩:=bsome h
      refine E_join (fun e w=>∃ (g:Gh) ,Fr gI wI g w∧e 8=x5∧OB 2008 g w 68 (y8:BeamTake) x5∧e 10=.int .i64 (u3.1)∧e 11=.int .i64 (u3.2)∧e 17=.int .i64 (y6)∧e 18=.int .i64 (m7)) (fun Q' hQ=>?_) (fun nU cW hR=>?_)
      ·replace h := hx
       clear hx
       refine Zf (Za (Zo iG rfl ?_))
       refine EL_in (.bool ((decide (y186.2.1 < (0:Int))))) rfl rfl rfl rfl ?_
       refine Zb (Zd ?_)
       rcases Zt h with ⟨iH,h⟩ | ⟨iH,h⟩
       ·refine E_ct iH rfl ?_
        refine Za (Zo pK rfl ?_)
        refine EL_p (.int .i64 ((o0).length:Int)) (P_len Try.underlying41 rfl qK) rfl ?_
        refine Zg (.int .i64 ((o0).length:Int)) rfl rfl ?_
        refine Zb ?_
        obtain rfl:=sinj h
        exact hQ _ _ ⟨uN,hfr,dI,iI,eG,gG,hG,rfl⟩
       ·refine E_cf iH rfl ?_
        refine Zu ?_
        obtain rfl:=sinj h
        exact hQ _ _ ⟨uN,hfr,dI,iI,eG,gG,hG,iG⟩
      ·clear hx
       obtain ⟨oR,hfr,vN,xN,sK,tK,uK,vK⟩:=hR
       refine Zf (Za (Zg (.int .i64 (0)) rfl rfl ?_))
       refine Zb (Zd (Zq h (fun (s:Unit) e w=>∃ (g:Gh) ,Fr gI wI g w) (fun X269 dM mP h=>?_) ?_))
       ·refine Zf (Za (Zg (.int .i64 (0)) rfl rfl ?_))
        refine Zb (Zd (Zr ?_))
        refine E_lp h (fun (s:Int × Int) e w=>∃ (g:Gh) ,Fr gI wI g w∧e 8=x5∧OB 2008 g w 68 (y8:BeamTake) x5∧e 10=.int .i64 (u3.1)∧e 11=.int .i64 (u3.2)∧e 17=.int .i64 (y6)∧e 18=.int .i64 (m7)∧e 20=.int .i64 (s.1)∧e 21=.int .i64 (s.2)) ⟨oR,hfr,vN,xN,sK,tK,uK,vK,rfl,rfl⟩ (fun X270 eM nP=>?_)
        rintro ⟨aB,g8⟩ oU dW ⟨yN,hfr,zN,aO,xK,yK,zK,aL,bL,jG⟩ h
        refine Zq h (fun (s:Unit) e w=>∃ (g:Gh) ,Fr gI wI g w∧e 8=x5∧OB 2008 g w 68 (y8:BeamTake) x5∧e 10=.int .i64 (u3.1)∧e 11=.int .i64 (u3.2)∧e 17=.int .i64 (y6)∧e 18=.int .i64 (m7)∧e 20=.int .i64 (aB)∧e 21=.int .i64 (g8)) (fun X273 mM oP h=>?_) ?_
        ·refine Zf (Za (Zo jG rfl ?_))
         refine EL_in (.bool ((decide (g8 < (2:Int))))) rfl rfl rfl rfl ?_
         refine Zb (Zd ?_)
         rcases Zt h with ⟨jH,h⟩ | ⟨jH,h⟩
         ·refine E_ct jH rfl ?_
          exact Zu (Zd (oP () _ _ ⟨yN,hfr,zN,aO,xK,yK,zK,aL,bL,jG⟩ h))
         ·refine E_cf jH rfl ?_
          refine E_exit ?_
          refine thn_e ?_
          refine thn_e ?_
          refine blk_hit ?_
          exact Zd (mP () _ _ ⟨yN,hfr⟩ h)
        ·rintro _ pU pR ⟨mI, hfr, yD, l9, eD, yB, gD, iD, dL, jD⟩ h
         refine Zq h (fun (s:Int) e w=>∃ (g:Gh) ,Fr gI wI g w∧e 8=x5∧OB 2008 g w 68 (y8:BeamTake) x5∧e 10=.int .i64 (u3.1)∧e 11=.int .i64 (u3.2)∧e 17=.int .i64 (y6)∧e 18=.int .i64 (m7)∧e 20=.int .i64 (s)∧e 21=.int .i64 (g8)) (fun X299 iM pP h=>?_) ?_
         ·refine Zr ?_
          refine Zf (Za (Zo gD rfl ?_))
          refine Zo iD rfl ?_
          have nI:RV mI.m pR (⟨List.toArray [y6,m7],rfl⟩:Vector Int 2) (.agg (setCh [[.int .i64 0],[.int .i64 0]] [(0,.int .i64 (y6)),(1,.int .i64 (m7))]).flatten.toArray):=RV_build rfl (rep_vec (flat_chunk rfl (flat_chunk rfl flat_nil)) rfl)
          generalize sP:(Value.agg (setCh [[.int .i64 0],[.int .i64 0]] [(0,.int .i64 (y6)),(1,.int .i64 (m7))]).flatten.toArray)=qR at nI
          refine EL_p qR (sP ▸ P_buildA (vs:=[(0,.int .i64 (y6)),(1,.int .i64 (m7))]) [[.int .i64 0],[.int .i64 0]] Try.underlying75 layA_75 szA_3 rfl (by simp) (.cons rfl (.cons rfl .nil)) ⟨⟨_,rfl,rfl⟩,⟨⟨_,rfl,rfl⟩,trivial⟩⟩) rfl ?_
          refine Zo jD rfl ?_
          obtain ⟨n8,pJ,h⟩:=bsome h
          have rR:=RV_idxA nI pJ
          refine EL_p (.int .i64 (n8)) ((Zj.1 rR) ▸ P_indexA Try.underlying75 Try.isAgg3 Try.sizeOf3 rfl nI rfl pJ) rfl ?_
          refine Zg (.int .i64 (n8)) rfl rfl ?_
          refine Zb (Zd (Zf (Za (Zn (.int .i64 (n8)) rfl rfl ?_))))
          refine Zo eD rfl ?_
          refine EL_in (.int .i64 ((w64 (n8 * u3.1)))) rfl rfl rfl rfl ?_
          refine Zo yB rfl ?_
          refine EL_in (.int .i64 ((w64 ((w64 (n8 * u3.1)) + u3.2)))) rfl rfl rfl rfl ?_
          refine EL_p (.int .i64 ((w64 ((w64 ((w64 (n8 * u3.1)) + u3.2)) - (1:Int))))) (P_int rfl rfl rfl) rfl ?_
          refine Zo yB rfl ?_
          obtain ⟨r8,tP,h⟩:=bsome h
          refine EL_p (.int .i64 (r8)) (P_int rfl rfl (congrArg (Option.map (Value.int .i64)) tP)) rfl ?_
          refine Zg (.int .i64 (r8)) rfl rfl ?_
          refine Zb (Zd (Zf (Za (Ze .plain rfl (D_loadO (g:=mI) Try.isAgg68 Try.sizeOf68 yD l9 fun tR uR=>?_)))))
          obtain ⟨jM,uP,h⟩:=bsome h
          refine Ze .plain rfl (Zp (g:=mI) (vs:=[tR]) en25 (.cons rfl .nil) (wk25 uR uP) fun vR qU xR hs hr=>?_)
          have hfr:=hfr.ext hs
          have l9:=l9.ext hs
          have yR:=hr
          refine Zn (.int .i64 (r8)) rfl rfl ?_
          obtain ⟨k8,vP,h⟩:=bsome h
          refine Ze .plain rfl (Zp (g:=vR) (vs:=[xR,.int .i64 (r8)]) en24 (.cons rfl (.cons rfl .nil)) (wk24 yR vP) fun pI rU eW hs hr=>?_)
          have hfr:=hfr.ext hs
          have l9:=l9.ext hs
          obtain ⟨tT,uT,rfl,rfl,rfl⟩:=hr
          refine Zn (.tuple #[.int .i64 (k8.1),.int .i64 (k8.2)]) rfl rfl ?_
          refine EL_p (.int .i64 (k8.1)) (Zi rfl rfl) rfl ?_
          refine EL_p (.int .i64 (k8.2)) (Zi rfl rfl) rfl ?_
          refine Zg (.int .i64 (k8.1)) rfl rfl ?_
          refine Zg (.int .i64 (k8.2)) rfl rfl ?_
          refine Zb (Zd (Zq h (fun (s:Unit) e w=>∃ (g:Gh) ,Fr gI wI g w∧e 8=x5∧OB 2008 g w 68 (y8:BeamTake) x5∧e 10=.int .i64 (u3.1)∧e 11=.int .i64 (u3.2)∧e 17=.int .i64 (y6)∧e 18=.int .i64 (m7)∧e 21=.int .i64 (g8)∧e 23=.int .i64 (r8)) (fun X315 kM xP h=>?_) ?_))
          ·obtain ⟨dB, hx, h⟩ := bsome h
           refine E_join (fun e w=>∃ (g:Gh) ,Fr gI wI g w∧e 8=x5∧OB 2008 g w 68 (y8:BeamTake) x5∧e 10=.int .i64 (u3.1)∧e 11=.int .i64 (u3.2)∧e 17=.int .i64 (y6)∧e 18=.int .i64 (m7)∧e 21=.int .i64 (g8)∧e 23=.int .i64 (r8)∧e 171=.bool (dB)) (fun Q' hQ=>?_) (fun sU gW hR=>?_)
           ·replace h := hx
            clear hx
            refine Za (Zn (.int .i64 (k8.2)) rfl rfl ?_)
            refine EL_in (.bool ((k8.2 != (0:Int)))) rfl rfl rfl rfl ?_
            refine Zn (.bool ((k8.2 != (0:Int)))) rfl rfl ?_
            rcases Zt h with ⟨rA,h⟩ | ⟨rA,h⟩
            ·refine EL_s rfl rfl rA rfl rfl ?_
             refine EL_s rfl rfl rA rfl rfl ?_
             refine EL_s rfl rfl rA rfl rfl ?_
             refine EL_p (.bool true) (Zl (b:=(k8.2 != (0:Int))) rfl (pick_t rA rfl)) rfl ?_
             refine EL_dead 5 rfl ?_
             refine Zb ?_
             obtain rfl:=sinj h
             exact hQ _ _ ⟨pI,hfr,yD,l9,eD,yB,gD,iD,jD,rfl,rfl⟩
            ·refine EL_y (.int .i64 (k8.1)) (Zk rfl) rfl rfl rA rfl ?_
             refine EL_y (.int .i64 (n8)) (Zk rfl) rfl rfl rA rfl ?_
             refine EL_y (.bool ((k8.1 != n8))) (P_int rfl rfl rfl) rfl rfl rA rfl ?_
             refine EL_p (.bool ((k8.1 != n8))) (Zl (b:=(k8.2 != (0:Int))) rfl (pick_f rA rfl)) rfl ?_
             refine Zn (.bool ((k8.1 != n8))) rfl rfl ?_
             rcases Zt h with ⟨yA,h⟩ | ⟨yA,h⟩
             ·refine EL_s rfl rfl yA rfl rfl ?_
              refine EL_s rfl rfl yA rfl rfl ?_
              refine EL_s rfl rfl yA rfl rfl ?_
              refine EL_p (.bool true) (Zl (b:=(k8.1 != n8)) rfl (pick_t yA rfl)) rfl ?_
              refine Zb ?_
              obtain rfl:=sinj h
              exact hQ _ _ ⟨pI,hfr,yD,l9,eD,yB,gD,iD,jD,rfl,rfl⟩
             ·refine EL_y (.int .i64 (r8)) (Zk rfl) rfl rfl yA rfl ?_
              refine EL_y (.int .i64 (aB)) (Zk dL) rfl rfl yA rfl ?_
              refine EL_y (.bool ((decide (r8 < aB)))) (P_int rfl rfl rfl) rfl rfl yA rfl ?_
              refine EL_p (.bool ((decide (r8 < aB)))) (Zl (b:=(k8.1 != n8)) rfl (pick_f yA rfl)) rfl ?_
              refine Zb ?_
              obtain rfl:=sinj h
              exact hQ _ _ ⟨pI,hfr,yD,l9,eD,yB,gD,iD,jD,rfl,rfl⟩
           ·clear hx
            obtain ⟨zR,hfr,bO,cO,eL,gL,iL,jL,lL,mL,rF⟩:=hR
            rcases Zt h with ⟨kH,h⟩ | ⟨kH,h⟩
            ·refine E_cond_true (Eq.trans (show ev _ _ = .bool (dB) from rF) (congrArg Value.bool kH)) ?_
             refine Zf (Za (Zg (.bool false) rfl rfl ?_))
             refine Zb (Zd (E_ret (thn_r ?_)))
             refine blk_r ?_
             refine thn_r ?_
             refine thn_r ?_
             refine blk_r ?_
             refine thn_r ?_
             obtain rfl:=sinj h
             exact end1 rfl rfl (show _=.bool false from rfl) ⟨_,hfr,rfl⟩
            ·refine E_cond_false (Eq.trans (show ev _ _ = .bool (dB) from rF) (congrArg Value.bool kH)) ?_
             exact Zu (Zd (xP () _ _ ⟨zR,hfr,bO,cO,eL,gL,iL,jL,lL,mL⟩ h))
          ·rintro _ tU iW ⟨aS, hfr, dO, eO, nL, oL, pL, qL, rL, tL⟩ h
           refine Za (Zo tL rfl ?_)
           refine Zg (.int .i64 (r8)) rfl rfl ?_
           exact Zb (blk_n (Zd (pP (r8) _ _ ⟨aS,hfr,dO,eO,nL,oL,pL,qL,rfl,rL⟩ h)))
         ·rintro iE uU jW ⟨bS, hfr, gO, iO, uL, vL, xL, yL, zL, aM⟩ h
          refine Za (Zo aM rfl ?_)
          refine EL_in (.int .i64 ((w64 (g8 + (1:Int))))) rfl rfl rfl rfl ?_
          refine Zg (.int .i64 ((w64 (g8 + (1:Int))))) rfl rfl ?_
          exact Zb (Zd (nP (iE,(w64 (g8 + (1:Int)))) _ _ ⟨bS,hfr,gO,iO,uL,vL,xL,yL,zL,rfl⟩ h))
       ·rintro _ vU kW ⟨cS, hfr⟩ h
        obtain ⟨oD,hx,h⟩:=bsome h
        refine E_join (fun e w=>∃ (g:Gh) ,Fr gI wI g w∧e 6=.bool (oD)) (fun Q' hQ=>?_) (fun xU lW hR=>?_)
        ·replace h := hx
         clear hx
         refine Za ?_
         obtain ⟨vE,yP,h⟩:=bsome h
         refine Ze .plain rfl (Zp (g:=cS) (vs:=[]) en26 .nil (wk26  yP) fun jO yU mW hs hr=>?_)
         have hfr:=hfr.ext hs
         subst hr
         refine Zn (.bool (vE)) rfl rfl ?_
         rcases Zt h with ⟨zD,h⟩ | ⟨zD,h⟩
         ·obtain ⟨kG, zP, h⟩ := bsome h
          refine Ze (.yes2 rfl rfl zD) rfl (Zp (g:=jO) (vs:=[]) en27 .nil (wk27  zP) fun dS zU nW hs hr=>?_)
          have hfr:=hfr.ext hs
          subst hr
          refine EL_p (.bool (kG)) (Zl (b:=vE) rfl (pick_t zD rfl)) rfl ?_
          refine Zg (.bool (kG)) rfl rfl ?_
          refine Zb ?_
          obtain rfl:=sinj h
          exact hQ _ _ ⟨dS,hfr,rfl⟩
         ·refine EL_s rfl rfl zD rfl rfl ?_
          refine EL_p (.bool false) (Zl (b:=vE) rfl (pick_f zD rfl)) rfl ?_
          refine Zg (.bool false) rfl rfl ?_
          refine Zb ?_
          obtain rfl:=sinj h
          exact hQ _ _ ⟨jO,hfr,rfl⟩
        ·clear hx
         obtain ⟨oW,hfr,kO⟩:=hR
         refine E_ret ?_
         obtain rfl:=sinj h
         exact end1 rfl rfl (show _=.bool (oD) from kO) ⟨_,hfr,rfl⟩
end Go.Proofs.Ytpckllcdlpoieaa
