import Derived.Test.YtjoniingnbmljaaCode2
set_option maxRecDepth 8000
set_option maxHeartbeats 4000000
namespace Go.Proofs.Ytjoniingnbmljaa
open Go.RowKit
theorem v39_0 {iO:Nat} {gI:Gh} {wI:World} {x0:TieHarness} {x1:Design} {up0:Value} (rp0:RV gI.m wI x0 up0) {up1:Value} (rp1:RV gI.m wI x1 up1) {r:(List Str) × Int} (h:f39 x0 x1=some r):FnG Try.prog 39 #[up0,up1] gI wI (fun g w v=>∃ y0 y1,v=.tuple #[y0,y1]∧OM iO g w 9 (r.1) y0∧y1=.int .i64 (r.2)):=by
 unfold f39 at h
 refine fnG_of_E Try.func39 rfl (Nat.le_of_ble_eq_true rfl) fun g0 hm hfr=>?_
 have rp0:RV g0.m wI x0 up0:=hm ▸ rp0
 have rp1:RV g0.m wI x1 up1:=hm ▸ rp1
 show E _ 43 none _ _ _ _ _
 refine Zf (Za (Ze .plain rfl (D_box (g:=g0) rfl rp0 fun g1 w1 p1 hs q1=>?_)))
 have hfr:=hfr.ext hs
 have rp1:=rp1.ext hs
 refine Ze .plain rfl (D_box (g:=g1) rfl rp1 fun g2 w2 p2 hs q2=>?_)
 have hfr:=hfr.ext hs
 have q1:=q1.ext hs
 refine Zg (.slice none 0 0) rfl rfl ?_
 refine Zg (.int .i64 (0)) rfl rfl ?_
 refine Zb (Zd (Zq h (fun (s:(List Str)) e w=>∃ (g:Gh) (v4:Value),Fr gI wI g w∧e 2=p1∧PT g.m w (x0:TieHarness) p1∧e 3=p2∧PT g.m w (x1:Design) p2∧e 4=v4∧RV g.m w (s:List Str) v4∧OS 1004 g w 9 (s:List Str) v4) (fun X7 k7 hk7 h=>?_) ?_))
 ·refine Zf (Za (Ze .plain rfl (D_load (g := g2) Try.isAgg28 Try.sizeOf28 rfl q1 fun v8 r8 => ?_)))
  obtain ⟨m7,bE,h⟩:=Ge h
  refine Ze .plain rfl (Zp (g:=g2) (vs:=[v8]) en105 (.cons rfl .nil) (wk105 r8 bE) fun g9 w9_ v9 hs hr=>?_)
  have hfr:=hfr.ext hs
  have q1:=q1.ext hs
  have q2:=q2.ext hs
  subst hr
  refine Zg (.int .i64 (m7)) rfl rfl ?_
  refine Zb (Zd (Zf (Za (Zn (.int .i64 (m7)) rfl rfl ?_))))
  refine EL_in (.bool ((m7 != (0:Int)))) rfl rfl rfl rfl ?_
  refine Zb (Zd ?_)
  rcases Zt h with ⟨k9,h⟩ | ⟨k9,h⟩
  ·refine E_ct k9 rfl ?_
   refine Zf (Za (Zn (.int .i64 (m7)) rfl rfl ?_))
   refine Zg (.slice none 0 0) rfl rfl ?_
   refine Zg (.int .i64 (m7)) rfl rfl ?_
   refine Zb (Zd (E_ret (thn_r ?_)))
   obtain rfl:=sinj h
   obtain ⟨gh,hxh,homh⟩:=OM.handn (i:=iO) (t:=9) (α:=Str) hfr
   exact end2 rfl rfl (show _=.slice none 0 0 from rfl) (show _=.int .i64 (m7) from rfl) ⟨gh,hxh,_,_,rfl,homh,rfl⟩
  ·refine E_cf k9 rfl ?_
   exact Zu (Zd (hk7 ([]) _ _ ⟨g9,(.slice none 0 0),hfr,rfl,q1,rfl,q2,rfl,RV_nil,OS.nil⟩ h))
 ·rintro vB cG lG ⟨tD, yB, hfr, y9, x6, g8, t5, zB, k8, l8⟩ h
  refine Zq h (fun (s:(List Str)) e w=>∃ (g:Gh) (v4:Value),Fr gI wI g w∧e 2=p1∧PT g.m w (x0:TieHarness) p1∧e 3=p2∧PT g.m w (x1:Design) p2∧e 4=v4∧RV g.m w (s:List Str) v4∧OS 1004 g w 9 (s:List Str) v4) (fun X22 mG iE h=>?_) ?_
  ·refine Zf (Za (Ze .plain rfl (D_load (g := tD) Try.isAgg30 Try.sizeOf30 g8 t5 fun vE xE => ?_)))
   obtain ⟨y6,lE,h⟩:=Ge h
   refine Ze .plain rfl (Zp (g:=tD) (vs:=[vE]) en102 (.cons rfl .nil) (wk102 xE lE) fun aB eG sG hs hr=>?_)
   have hfr:=hfr.ext hs
   have x6:=x6.ext hs
   have t5:=t5.ext hs
   have k8:=k8.ext hs
   have l8:=l8.ext hs
   subst hr
   refine Zg (.int .i64 (y6)) rfl rfl ?_
   refine Zb (Zd (Zr ?_))
   refine Zf (Za (Zn (.int .i64 (y6)) rfl rfl ?_))
   refine EL_in (.bool ((y6 != (0:Int)))) rfl rfl rfl rfl ?_
   refine Zg (.bool ((y6 != (0:Int)))) rfl rfl ?_
   refine Zb (Zd ?_)
   rcases Zt h with ⟨l9,h⟩ | ⟨l9,h⟩
   ·refine E_ct l9 rfl ?_
    refine Zf (Za (Zn (.int .i64 (y6)) rfl rfl ?_))
    refine Zg (.slice none 0 0) rfl rfl ?_
    refine Zg (.int .i64 (y6)) rfl rfl ?_
    refine Zb (Zd (E_ret (blk_r ?_)))
    refine thn_r ?_
    obtain rfl:=sinj h
    obtain ⟨gh,hxh,homh⟩:=OM.handn (i:=iO) (t:=9) (α:=Str) hfr
    exact end2 rfl rfl (show _=.slice none 0 0 from rfl) (show _=.int .i64 (y6) from rfl) ⟨gh,hxh,_,_,rfl,homh,rfl⟩
   ·refine E_cf l9 rfl ?_
    refine Zf (Za (Ga (fPtr p2 0) (Zc at_30_0 g8 (PT.ptr t5)) rfl ?_))
    have yE:=Zm (part_Design_0).1 t5
    refine Ze .plain rfl (D_load (g:=aB) Try.isAgg3 Try.sizeOf3 rfl yE fun xG zE=>?_)
    obtain rfl:=Zj.1 zE
    refine Ga (fPtr p1 0) (Zc at_28_0 y9 (PT.ptr x6)) rfl ?_
    have cF:=Zm (part_TieHarness_0).1 x6
    refine Ze .plain rfl (D_load (g:=aB) Try.isAgg3 Try.sizeOf3 rfl cF fun yG dF=>?_)
    obtain rfl:=Zj.1 dF
    refine EL_in (.bool (((x1).Hooks != (x0).Hooks))) rfl rfl rfl rfl ?_
    refine Zg (.bool (((x1).Hooks != (x0).Hooks))) rfl rfl ?_
    refine Zb (Zd ?_)
    rcases Zt h with ⟨n9,h⟩ | ⟨n9,h⟩
    ·refine E_ct n9 rfl ?_
     refine Zf (Za (Zg (.slice none 0 0) rfl rfl ?_))
     refine Zg (.int .i64 (4)) rfl rfl ?_
     refine Zb (Zd (E_ret (blk_r ?_)))
     refine thn_r ?_
     obtain rfl:=sinj h
     obtain ⟨gh,hxh,homh⟩:=OM.handn (i:=iO) (t:=9) (α:=Str) hfr
     exact end2 rfl rfl (show _=.slice none 0 0 from rfl) (show _=.int .i64 (4) from rfl) ⟨gh,hxh,_,_,rfl,homh,rfl⟩
    ·refine E_cf n9 rfl ?_
     exact Zu (blk_n (Zd (iE (vB) _ _ ⟨aB,(yB),hfr,y9,x6,g8,t5,zB,k8,l8⟩ h)))
  ·rintro aG gG zG ⟨uD, cC, hfr, mC, qC, rC, z9, uC, vC, aD⟩ h
   obtain ⟨bA,hx,h⟩:=Ge h
   refine E_join (fun e w=>∃ (g:Gh) (v4:Value),Fr gI wI g w∧e 4=v4∧RV g.m w (bA:List Str) v4∧OS 1004 g w 9 (bA:List Str) v4) (fun Q' hQ=>?_) (fun hG aH hR=>?_)
   ·replace h := hx
    clear hx
    refine Zf (Za (Ga (fPtr p2 1) (Zc at_30_1 rC (PT.ptr z9)) rfl ?_))
    have eF:=Zm (part_Design_1).1 z9
    refine Ze .plain rfl (D_load (g:=uD) Try.isAgg26 Try.sizeOf26 rfl eF fun n8 vD=>?_)
    refine Ga (.int .i64 (((x1).Rows).length:Int)) (P_len Try.underlying26 rfl vD) rfl ?_
    refine Zn (.int .i64 (0)) rfl rfl ?_
    refine Zb (Zd (Zr ?_))
    refine E_lp h (fun (s:(List Str) × Int) e w=>∃ (g:Gh) (v4:Value),Fr gI wI g w∧e 2=p1∧PT g.m w (x0:TieHarness) p1∧e 4=v4∧RV g.m w (s.1:List Str) v4∧OS 1004 g w 9 (s.1:List Str) v4∧e 28=n8∧RV g.m w ((x1).Rows:List Int) n8∧e 29=.int .i64 ((((x1).Rows).length:Int))∧e 30=.int .i64 (s.2)) ⟨uD,(cC),hfr,mC,qC,uC,vC,aD,rfl,vD,rfl,rfl⟩ (fun X61 cH mE=>?_)
    rintro ⟨bG,l5⟩ iG dH ⟨x8,bD,hfr,iA,u3,rA,x5,i6,a9,o0,d9,i7⟩ h
    refine Zf (Za (Ga (.bool ((decide (l5 < (((x1).Rows).length:Int))))) (P_int i7 d9 rfl) rfl ?_))
    refine Zb (Zd (Zf ?_))
    rcases Zt h with ⟨u9,h⟩ | ⟨u9,h⟩
    ·refine E_ct u9 rfl ?_
     refine Zu (Zd ?_)
     obtain ⟨m8,hx,h⟩:=Ge h
     refine E_join (fun e w=>∃ (g:Gh) (v4:Value),Fr gI wI g w∧e 2=p1∧PT g.m w (x0:TieHarness) p1∧e 4=v4∧RV g.m w (m8:List Str) v4∧OS 1004 g w 9 (m8:List Str) v4∧e 28=n8∧RV g.m w ((x1).Rows:List Int) n8∧e 29=.int .i64 ((((x1).Rows).length:Int))∧e 30=.int .i64 (l5)) (fun Q' hQ=>?_) (fun jG gH hR=>?_)
     ·replace h := hx
      clear hx
      refine Zr ?_
      refine Zf (Za ?_)
      obtain ⟨dB,iB,h⟩:=Ge h
      refine Ga (ePtr n8 l5 1) (Zh (α:=Int) Try.underlying26 Try.sizeOf3 a9 o0 i7 iB) rfl ?_
      have rF:=PT_idx o0 iB
      refine Ze .plain rfl (D_load (g:=x8) Try.isAgg3 Try.sizeOf3 rfl rF fun iH sF=>?_)
      obtain rfl:=Zj.1 sF
      refine Zg (.int .i64 (dB)) rfl rfl ?_
      refine Zb (Zd (Za (Zo rA rfl ?_)))
      refine Ze .plain rfl (D_load (g:=x8) Try.isAgg28 Try.sizeOf28 iA u3 fun lB xD=>?_)
      have yD:RV x8.m _ (⟨x0⟩:TieTieHarness) (.agg (setCh [[.int .i64 0,.slice none 0 0]] [(0,lB)]).flatten.toArray):=RV_build rfl (rep_last (RV.cells xD))
      generalize oE:(Value.agg (setCh [[.int .i64 0,.slice none 0 0]] [(0,lB)]).flatten.toArray)=zD at yD
      refine Ga zD (oE ▸ P_build (vs:=[(0,lB)]) [[.int .i64 0,.slice none 0 0]] lay_221 rfl rfl (.cons rfl .nil) ⟨⟨_,rfl,cells_size xD⟩,trivial⟩) rfl ?_
      refine Zn (.int .i64 (dB)) rfl rfl ?_
      obtain ⟨y81,rE,h⟩:=Ge h
      refine Ze .plain rfl (Zp (g:=x8) (vs:=[zD,.int .i64 (dB)]) en106 (.cons rfl (.cons rfl .nil)) (wk106 yD rE) fun tF kG jH hs hr=>?_)
      have hfr:=hfr.ext hs
      have u3:=u3.ext hs
      have x5:=x5.ext hs
      have i6:=i6.ext hs
      have o0:=o0.ext hs
      subst hr
      refine Ze .plain rfl (D_buildSlice (g:=tF) 3039 (xs:=([y81]:List Str)) (vs:=[Str.v (y81)]) Try.underlying50 Try.sizeOf9 Try.zeroValue9 rfl rfl (.cons rfl .nil) (RVs.cons (RV_str.2 rfl) RVs.nil) rfl rfl fun uF kH lH hs o82 vF hxt hfl=>?_)
      have hfr:=hfr.stp hs
      have u3:=u3.stp hs
      have x5:=x5.stp hs
      have i6:=i6.stp hs rfl
      have o0:=o0.stp hs
      obtain ⟨y84,uE,h⟩:=Ge h
      refine Ze .plain rfl (D_append (g:=uF) (i:=1004) Try.underlying50 info_9 rfl rfl i6 x5 rfl vF uE fun xF mH aE hs o83 yF _=>?_)
      have hfr:=hfr.stp hs
      have u3:=u3.stp hs
      have o0:=o0.stp hs
      refine Zg aE rfl rfl ?_
      refine Zb (blk_n ?_)
      obtain rfl:=sinj h
      exact hQ _ _ ⟨xF,(aE),hfr,iA,u3,rfl,yF,o83,a9,o0,d9,i7⟩
     ·clear hx
      obtain ⟨zF,cD,hfr,eD,gD,iD,jD,lD,mB,nB,oB,tB⟩:=hR
      refine Za (EL_in (.int .i64 ((w64 (l5 + (1:Int))))) tB rfl rfl rfl ?_)
      refine Zn (.int .i64 ((w64 (l5 + (1:Int))))) rfl rfl ?_
      exact Zb (Zd (mE (m8,(w64 (l5 + (1:Int)))) _ _ ⟨zF,(cD),hfr,eD,gD,iD,jD,lD,mB,nB,oB,rfl⟩ h))
    ·refine E_cf u9 rfl ?_
     refine E_exit ?_
     refine thn_e ?_
     refine thn_e ?_
     refine blk_hit ?_
     obtain rfl:=sinj h
     exact hQ _ _ ⟨x8,(bD),hfr,rA,x5,i6⟩
   ·clear hx
    obtain ⟨nH,yA,hfr,nD,oD,sD⟩:=hR
    refine Zf (Za (Zo nD rfl ?_))
    refine Zg yA rfl rfl ?_
    refine Zg (.int .i64 (0)) rfl rfl ?_
    refine Zb (Zd (E_ret ?_))
    obtain rfl:=sinj h
    obtain ⟨gh,hxh,homh⟩:=OM.hand (i:=iO) plain_str hfr sD oD
    exact end2 rfl rfl (show _=yA from rfl) (show _=.int .i64 (0) from rfl) ⟨gh,hxh,_,_,rfl,homh,rfl⟩
def f141 (x0:BoxLoom) (x1:List BoxPick):Option (BoxBoxLoom × Int):=
 (f62 x0).bind fun y5=>
 jn (σ:=BoxBoxLoom) (fun k8=>
  some (y5.1,(0:Int))
  ) fun r8=>
 bif (y5.2 != (0 : Int)) then
  some (y5.1,y5.2)
 else
  bif (decide (((x1).length : Int) > (24 : Int))) then
   some (y5.1,(5:Int))
  else
   (f219 x1 ((fun a0=>f218 a0 (y5.1)))).bind fun m7=>
   bif m7 then
    some (y5.1,(2:Int))
   else
    r8 ((⟨⟨[],[],[]⟩⟩:BoxBoxLoom))
theorem en141:Enters Try.prog 141:=enters_of Try.func141 (by kernel_rfl) rfl
theorem wk141 {gI:Gh} {wI:World} {x0:BoxLoom} {x1:List BoxPick} {up0:Value} (rp0:RV gI.m wI x0 up0) {up1:Value} (rp1:RV gI.m wI x1 up1) {r:BoxBoxLoom × Int} (h:f141 x0 x1=some r):Fn Try.prog 141 #[up0,up1] gI wI (fun m w v=>∃ y0 y1,v=.tuple #[y0,y1]∧RV m w (r.1) y0∧y1=.int .i64 (r.2)):=by
 unfold f141 at h
 refine fn_of_E Try.func141 rfl (Nat.le_of_ble_eq_true rfl) fun g0 hm hfr=>?_
 have rp0:RV g0.m wI x0 up0:=hm ▸ rp0
 have rp1:RV g0.m wI x1 up1:=hm ▸ rp1
 show E _ 31 none _ _ _ _ _
 refine Zf (Za (Ze .plain rfl (D_box (g:=g0) rfl rp0 fun g1 w1 p1 hs q1=>?_)))
 have hfr:=hfr.ext hs
 have rp1:=rp1.ext hs
 refine Ze .plain rfl (D_allocOc (g:=g1) 2004 (⟨⟨[],[],[]⟩⟩:BoxBoxLoom) Try.zeroValue142 (fun m w=>⟨_,(rep_two rep_nil (rep_two rep_nil rep_nil)),rfl⟩) fun g2 w2 p2 hs b2 cb=>?_)
 have hfr:=hfr.stp hs
 have rp1:=rp1.stp hs
 have q1:=q1.stp hs
 have o0:OSF 2004 60400 0 g2 w2 3 142 ([]:List Int) p2:=cb.osf (by rfl)
 have u3:OSF 2004 60401 1 g2 w2 3 142 ([]:List Int) p2:=cb.osf (by rfl)
 have l5:OSF 2004 60402 2 g2 w2 37 142 ([]:List Zw) p2:=cb.osf (by rfl)
 clear cb
 refine Zg (.int .i64 (0)) rfl rfl ?_
 refine Zb (Zd (Zf (Za (Ze .plain rfl (D_load (g:=g2) Try.isAgg40 Try.sizeOf40 rfl q1 fun v3 r3=>?_)))))
 obtain ⟨y5,hy5,h⟩:=Ge h
 refine Ze .plain rfl (Zp (g:=g2) (vs:=[v3]) en62 (.cons rfl .nil) (wk62 r3 hy5) fun g4 w4_ v4 hs hr=>?_)
 have hfr:=hfr.ext hs
 have rp1:=rp1.ext hs
 have o0:=o0.ext hs
 have u3:=u3.ext hs
 have l5:=l5.ext hs
 have b2:=b2.ext hs
 obtain ⟨t5,dB,rfl,x5,rfl⟩:=hr
 refine Zn (.tuple #[t5,.int .i64 (y5.2)]) rfl rfl ?_
 refine Ga t5 (Zi rfl rfl) rfl ?_
 refine Ga (.int .i64 (y5.2)) (Zi rfl rfl) rfl ?_
 refine Ze .plain rfl (D_allocOc (g:=g4) 2006 (⟨⟨[],[],[]⟩⟩:BoxBoxLoom) Try.zeroValue142 (fun m w=>⟨_,(rep_two rep_nil (rep_two rep_nil rep_nil)),rfl⟩) fun g6 w6 p6 hs b6 cb=>?_)
 have hfr:=hfr.stp hs
 have rp1:=rp1.stp hs
 have o0:=o0.stp hs rfl
 have u3:=u3.stp hs rfl
 have l5:=l5.stp hs rfl
 have b2:=b2.stp hs rfl
 have x5:=x5.stp hs
 have iB:OSF 2006 60600 0 g6 w6 3 142 ([]:List Int) p6:=cb.osf (by rfl)
 have lB:OSF 2006 60601 1 g6 w6 3 142 ([]:List Int) p6:=cb.osf (by rfl)
 have mB:OSF 2006 60602 2 g6 w6 37 142 ([]:List Zw) p6:=cb.osf (by rfl)
 clear cb
 refine Ze .plain rfl (D_storeOc (g:=g6) (v:=t5) Try.sizeOf142 rfl b6 rfl x5 fun g7 w7 hs b7 cb=>?_)
 clear cb
 have hfr:=hfr.stp hs
 have rp1:=rp1.stp hs
 have o0:=o0.stp hs rfl
 have u3:=u3.stp hs rfl
 have l5:=l5.stp hs rfl
 have b2:=b2.stp hs rfl
 obtain ⟨gp7,hs,qp7⟩:=OB.pub b7
 have hfr:=hfr.stp hs
 have rp1:=rp1.stp hs
 have o0:=o0.stp hs rfl
 have u3:=u3.stp hs rfl
 have l5:=l5.stp hs rfl
 have b2:=b2.stp hs rfl
 refine Zg (.int .i64 (y5.2)) rfl rfl ?_
 refine Zb (Zd (Zf (Za (Ga ((.func (.func 218) #[] #[p6])) (P_makeFunc (capf_0_1 (show ev _ _=p6 from rfl))) rfl ?_))))
 refine Zg ((.func (.func 218) #[] #[p6])) rfl rfl ?_
 refine Zb (Zd (Zq h (fun (s:BoxBoxLoom) e w=>∃ (g:Gh) ,Fr gI wI g w∧e 4=p2∧OB 2004 g w 142 (s:BoxBoxLoom) p2∧OSF 2004 60400 0 g w 3 142 (((s).BoxLoom).Boxes) p2∧OSF 2004 60401 1 g w 3 142 (((s).BoxLoom).At) p2∧OSF 2004 60402 2 g w 37 142 (((s).BoxLoom).Shuttles) p2∧e 6=p6∧PT g.m w (y5.1:BoxBoxLoom) p6) (fun X22 r8 x8 h=>?_) ?_))
 ·refine Zr ?_
  refine Zf (Za (Zn (.int .i64 (y5.2)) rfl rfl ?_))
  refine EL_in (.bool ((y5.2 != (0:Int)))) rfl rfl rfl rfl ?_
  refine Zg (.bool ((y5.2 != (0:Int)))) rfl rfl ?_
  refine Zb (Zd ?_)
  rcases Zt h with ⟨i6,h⟩ | ⟨i6,h⟩
  ·refine E_ct i6 rfl ?_
   refine Zf (Za (Ze .plain rfl (D_load (g:=gp7) Try.isAgg142 Try.sizeOf142 rfl qp7 fun u9 y9=>?_)))
   refine Zn (.int .i64 (y5.2)) rfl rfl ?_
   refine Ze .plain rfl (D_storeOc (g:=gp7) (v:=u9) Try.sizeOf142 rfl b2 rfl y9 fun tB vB hs b25 cb=>?_)
   clear cb
   have hfr:=hfr.stp hs
   refine Zg (.int .i64 (y5.2)) rfl rfl ?_
   refine Zb (Zd (E_ret (blk_r ?_)))
   refine thn_r ?_
   obtain rfl:=sinj h
   obtain ⟨ad26,cv26,hp26,a9,cr26⟩:=ob_read Try.isAgg142 Try.sizeOf142 b25
   exact endm_ct rfl rfl ((show _=p2 from rfl).trans hp26) a9 (show _=.int .i64 (y5.2) from rfl) ⟨_,hfr,_,_,rfl,cr26,rfl⟩
  ·refine E_cf i6 rfl ?_
   refine Zf (Za (Zn up1 rfl rfl ?_))
   refine Ga (.int .i64 ((x1).length:Int)) (P_len Try.underlying41 rfl rp1) rfl ?_
   refine EL_in (.bool ((decide (((x1).length:Int) > (24:Int))))) rfl rfl rfl rfl ?_
   refine Zg (.bool ((decide (((x1).length:Int) > (24:Int))))) rfl rfl ?_
   refine Zb (Zd ?_)
   rcases Zt h with ⟨x6,h⟩ | ⟨x6,h⟩
   ·refine E_ct x6 rfl ?_
    refine Zf (Za (Ze .plain rfl (D_load (g:=gp7) Try.isAgg142 Try.sizeOf142 rfl qp7 fun z9 bA=>?_)))
    refine Ze .plain rfl (D_storeOc (g:=gp7) (v:=z9) Try.sizeOf142 rfl b2 rfl bA fun yB w29 hs b29 cb=>?_)
    clear cb
    have hfr:=hfr.stp hs
    refine Zg (.int .i64 (5)) rfl rfl ?_
    refine Zb (Zd (E_ret (blk_r ?_)))
    refine thn_r ?_
    obtain rfl:=sinj h
    obtain ⟨ad30,cv30,hp30,d9,cr30⟩:=ob_read Try.isAgg142 Try.sizeOf142 b29
    exact endm_ct rfl rfl ((show _=p2 from rfl).trans hp30) d9 (show _=.int .i64 (5) from rfl) ⟨_,hfr,_,_,rfl,cr30,rfl⟩
   ·refine E_cf x6 rfl ?_
    refine Zf (Za (Zn up1 rfl rfl ?_))
    refine Zn ((.func (.func 218) #[] #[p6])) rfl rfl ?_
    obtain ⟨m7,k9,h⟩:=Ge h
    refine Ze .plain rfl (Zp (g:=gp7) (vs:=[up1,(.func (.func 218) #[] #[p6])]) en219 (.cons rfl (.cons rfl .nil)) (wk219 rp1 ⟨218,#[],#[p6],rfl,en218,fun g' w' hch a0 b0 r hu0 hr=>by exact Fn.mono (wk218 hu0 (qp7.ch hch) hr) fun _ _ _ h=>RV_bool.2 h⟩ k9) fun g8 nB zB hs hr=>?_)
    have hfr:=hfr.ext hs
    have o0:=o0.ext hs
    have u3:=u3.ext hs
    have l5:=l5.ext hs
    have b2:=b2.ext hs
    have qp7:=qp7.ext hs
    subst hr
    refine Zg (.bool (m7)) rfl rfl ?_
    refine Zb (Zd ?_)
    rcases Zt h with ⟨y6,h⟩ | ⟨y6,h⟩
    ·refine E_ct y6 rfl ?_
     refine Zf (Za (Ze .plain rfl (D_load (g:=g8) Try.isAgg142 Try.sizeOf142 rfl qp7 fun iA rA=>?_)))
     refine Ze .plain rfl (D_storeOc (g:=g8) (v:=iA) Try.sizeOf142 rfl b2 rfl rA fun cC mC hs b35 cb=>?_)
     clear cb
     have hfr:=hfr.stp hs
     refine Zg (.int .i64 (2)) rfl rfl ?_
     refine Zb (Zd (E_ret (blk_r ?_)))
     refine thn_r ?_
     obtain rfl:=sinj h
     obtain ⟨ad36,cv36,hp36,l9,cr36⟩:=ob_read Try.isAgg142 Try.sizeOf142 b35
     exact endm_ct rfl rfl ((show _=p2 from rfl).trans hp36) l9 (show _=.int .i64 (2) from rfl) ⟨_,hfr,_,_,rfl,cr36,rfl⟩
    ·refine E_cf y6 rfl ?_
     exact Zu (blk_n (Zd (x8 ((⟨⟨[],[],[]⟩⟩:BoxBoxLoom)) _ _ ⟨g8,hfr,rfl,b2,o0,u3,l5,rfl,qp7⟩ h)))
 ·rintro k8 oB qC ⟨v8, hfr, i7, l8, u4_0_37, u4_1_37, u4_2_37, m8, n8⟩ h
  refine Zf (Za (Ze .plain rfl (D_load (g:=v8) Try.isAgg142 Try.sizeOf142 m8 n8 fun yA aB=>?_)))
  refine Ze .plain rfl (D_storeOc (g:=v8) (v:=yA) Try.sizeOf142 i7 l8 rfl aB fun rC uC hs b39 cb=>?_)
  clear cb
  have hfr:=hfr.stp hs
  refine Zg (.int .i64 (0)) rfl rfl ?_
  refine Zb (Zd (E_ret ?_))
  obtain rfl:=sinj h
  obtain ⟨ad40,cv40,hp40,n9,cr40⟩:=ob_read Try.isAgg142 Try.sizeOf142 b39
  exact endm_ct rfl rfl ((show _=p2 from i7).trans hp40) n9 (show _=.int .i64 (0) from rfl) ⟨_,hfr,_,_,rfl,cr40,rfl⟩
theorem N67 {iO:Nat} {gI:Gh} {wI:World} {x0:BoxBoxLoom} {up0:Value} (rp0:RV gI.m wI x0 up0) {r:BoxMill} (h:f67 x0=some r):FnG Try.prog 67 #[up0] gI wI (fun g w v=>∃ kv,PT g.m w r v∧FC g.m w 2 kv v∧MP (encK pl_157) iO g w ([]:List (BoxPoint × Int)) kv):=by
 unfold f67 at h
 refine fnG_of_E Try.func67 rfl (Nat.le_of_ble_eq_true rfl) fun g0 hm hfr=>?_
 have rp0:RV g0.m wI x0 up0:=hm ▸ rp0
 show E _ 16 none _ _ _ _ _
 refine Zf (Za (Ze .plain rfl (D_box (g:=g0) rfl rp0 fun g1 w1 p1 hs q1=>?_)))
 have hfr:=hfr.ext hs
 refine Zg (.pointer none) rfl rfl ?_
 refine Zb (Zd (Zf ?_))
 have q2:=Zm (part_BoxBoxLoom_0).1 q1
 have q3:=Zm (part_BoxLoom_0).1 q2
 refine Zs (x:=.tmp 4) Try.isAgg26 Try.sizeOf26 q3 fun v4 r4 n8=>?_
 obtain ⟨y5,hy5,h⟩:=Ge h
 have q6:=PT_idx r4 hy5
 refine Zs (x:=.tmp 6) Try.isAgg3 Try.sizeOf3 q6 fun v7 r7 hl7=>?_
 obtain rfl:=Zj.1 r7
 have q8:=Zm (part_BoxBoxLoom_0).1 q1
 have q9:=Zm (part_BoxLoom_0).1 q8
 refine Zs (x:=.tmp 9) Try.isAgg26 Try.sizeOf26 q9 fun x5 i6 l8=>?_
 obtain ⟨y11,l5,h⟩:=Ge h
 have r8:=PT_idx i6 l5
 refine Zs (x:=.tmp 11) Try.isAgg3 Try.sizeOf3 r8 fun a9 v8 m8=>?_
 obtain rfl:=Zj.1 v8
 refine E_drawTL (g:=g1) (n:=10) [0,1,2,3,4,5,6,7,8,9] [] [0,1,2,3,4,5,6,7,8,9] rfl mixed (by kernel_rfl) trivial rfl ?_
 refine L_purL (c:=fPtr p1 0) rfl rfl .plain (Zc at_142_0 rfl (PT.ptr q1)) ?_
 refine L_purL (c:=fPtr (fPtr p1 0) 0) rfl rfl .plain (Zc at_40_0 rfl (PT.ptr q2)) ?_
 refine L_ldL (c:=v4) rfl rfl .plain (fun _ _ h=>h.ch) rfl n8 rfl ?_
 refine L_purL (c:=ePtr v4 (0:Int) 1) rfl rfl .plain (Zh (α:=Int) Try.underlying26 Try.sizeOf3 rfl r4 rfl hy5) ?_
 refine L_ldL (c:=.int .i64 (y5)) rfl rfl .plain (fun _ _ h=>h.ch) rfl hl7 rfl ?_
 refine L_purL (c:=fPtr p1 0) rfl rfl .plain (Zc at_142_0 rfl (PT.ptr q1)) ?_
 refine L_purL (c:=fPtr (fPtr p1 0) 0) rfl rfl .plain (Zc at_40_0 rfl (PT.ptr q8)) ?_
 refine L_ldL (c:=x5) rfl rfl .plain (fun _ _ h=>h.ch) rfl l8 rfl ?_
 refine L_purL (c:=ePtr x5 (1:Int) 1) rfl rfl .plain (Zh (α:=Int) Try.underlying26 Try.sizeOf3 rfl i6 rfl l5) ?_
 refine L_ldL (c:=.int .i64 (y11)) rfl rfl .plain (fun _ _ h=>h.ch) rfl m8 rfl ?_
 refine L_nl fun x6 x8 hs=>?_
 have hlt:Lt g1.m w1 x6 x8:=hs.ch
 have hfr:=hfr.ext hs
 clear hs
 refine TL_do hlt.w .plain rfl (D_makeMap (g:=x6) (encK pl_157) Int 8013 fun u3 y6 o0 hs m28=>?_)
 have hfr:=hfr.stp hs
 have hlt:=hlt.stp hs
 have i7:RV u3.m _ (⟨y5,y11,⟨⟩⟩:BoxMill) (.agg (setCh [[.int .i64 0],[.int .i64 0],[.map none]] [(0,.int .i64 (y5)),(1,.int .i64 (y11)),(2,o0)]).flatten.toArray):=RV_build rfl (rep_pair (rfl) (rep_pair (rfl) (rep_last (RV.cells (m28.ref (m:=u3.m) (w':=y6))))))
 generalize t5:(Value.agg (setCh [[.int .i64 0],[.int .i64 0],[.map none]] [(0,.int .i64 (y5)),(1,.int .i64 (y11)),(2,o0)]).flatten.toArray)=m7 at i7
 refine TL_pur hlt.w (v:=m7) (t5 ▸ P_build (vs:=[(0,.int .i64 (y5)),(1,.int .i64 (y11)),(2,o0)]) [[.int .i64 0],[.int .i64 0],[.map none]] lay_274 rfl rfl (.cons rfl (.cons rfl (.cons rfl .nil))) ⟨⟨_,rfl,rfl⟩,⟨⟨_,rfl,rfl⟩,⟨⟨_,rfl,cells_size (m28.ref (m:=u3.m) (w':=y6))⟩,trivial⟩⟩⟩) .plain rfl ?_
 refine TL_do hlt.w .plain rfl (D_boxF (g:=u3) (v:=m7) (off:=2) (u:=o0) rfl i7 (by rw [← t5]; simp only [setCh,mp_cells m28]; rfl) fun d9 k9 g8 hs k8 fc30=>?_)
 have hfr:=hfr.ext hs
 have hlt:=hlt.ext hs
 have m28:=m28.ext hs
 have hone500215:=PT.one k8
 refine TL_pur hlt.w (v:=g8) (P_assign rfl) .plain rfl ?_
 refine TL_nil hlt.w ?_
 clear hlt
 refine Zd (E_ret ?_)
 obtain rfl:=sinj h
 obtain ⟨gh,hxh,hmh,mph⟩:=MP.handm (i:=iO) hfr m28
 exact end1 rfl rfl (show _=g8 from rfl) ⟨gh,hxh,o0,hmh ▸ k8,hmh ▸ fc30,mph⟩
def f70 (x0:BoxLoom) (x1:List BoxPick):Option (BoxBoxLoom × BoxRun × Int × Int):=
 jn (σ:=BoxBoxLoom × BoxRun) (fun (x6,k8)=>
  (f65 x6 ((fun a0 a1=>f143 a0 a1))).bind fun r8=>
  (f142 r8 x1).bind fun y71=>
  some (x6,y71.1,y71.2.1,y71.2.2)
  ) fun v8=>
 (f141 x0 x1).bind fun u3=>
 bif (u3.2 != (0 : Int)) then
  some (u3.1,(⟨[],⟨(⟨List.toArray [(⟨List.toArray [0,0,0,0],rfl⟩:Vector Int 4),(⟨List.toArray [0,0,0,0],rfl⟩:Vector Int 4)],rfl⟩:Vector (Vector Int 4) 2),⟨0,0⟩⟩,0⟩:BoxRun),(0:Int),u3.2)
 else
  v8 (u3.1,(⟨[],⟨(⟨List.toArray [(⟨List.toArray [0,0,0,0],rfl⟩:Vector Int 4),(⟨List.toArray [0,0,0,0],rfl⟩:Vector Int 4)],rfl⟩:Vector (Vector Int 4) 2),⟨0,0⟩⟩,0⟩:BoxRun))
theorem en70:Enters Try.prog 70:=enters_of Try.func70 (by kernel_rfl) rfl
theorem wk70 {gI:Gh} {wI:World} {x0:BoxLoom} {x1:List BoxPick} {up0:Value} (rp0:RV gI.m wI x0 up0) {up1:Value} (rp1:RV gI.m wI x1 up1) {r:BoxBoxLoom × BoxRun × Int × Int} (h:f70 x0 x1=some r):Fn Try.prog 70 #[up0,up1] gI wI (fun m w v=>∃ y0 y1 y2 y3,v=.tuple #[y0,y1,y2,y3]∧RV m w (r.1) y0∧RV m w (r.2.1) y1∧y2=.int .i64 (r.2.2.1)∧y3=.int .i64 (r.2.2.2)):=by
 unfold f70 at h
 refine fn_of_E Try.func70 rfl (Nat.le_of_ble_eq_true rfl) fun g0 hm hfr=>?_
 have rp0:RV g0.m wI x0 up0:=hm ▸ rp0
 have rp1:RV g0.m wI x1 up1:=hm ▸ rp1
 show E _ 31 none _ _ _ _ _
 refine Zf (Za (Ze .plain rfl (D_box (g:=g0) rfl rp0 fun g1 w1 p1 hs q1=>?_)))
 have hfr:=hfr.ext hs
 have rp1:=rp1.ext hs
 refine Ze .plain rfl (D_allocOc (g:=g1) 2004 (⟨⟨[],[],[]⟩⟩:BoxBoxLoom) Try.zeroValue142 (fun m w=>⟨_,(rep_two rep_nil (rep_two rep_nil rep_nil)),rfl⟩) fun g2 w2 p2 hs b2 cb=>?_)
 have hfr:=hfr.stp hs
 have rp1:=rp1.stp hs
 have q1:=q1.stp hs
 have iD:OSF 2004 60400 0 g2 w2 3 142 ([]:List Int) p2:=cb.osf (by rfl)
 have jD:OSF 2004 60401 1 g2 w2 3 142 ([]:List Int) p2:=cb.osf (by rfl)
 have lD:OSF 2004 60402 2 g2 w2 37 142 ([]:List Zw) p2:=cb.osf (by rfl)
 clear cb
 refine Ze .plain rfl (D_allocOc (g:=g2) 2005 (⟨[],⟨(⟨List.toArray [(⟨List.toArray [0,0,0,0],rfl⟩:Vector Int 4),(⟨List.toArray [0,0,0,0],rfl⟩:Vector Int 4)],rfl⟩:Vector (Vector Int 4) 2),⟨0,0⟩⟩,0⟩:BoxRun) Try.zeroValue164 (fun m w=>⟨_,(rep_two rep_nil (rep_two (rep_two (rep_vec (Zx (rep_vec (Zx Zy (Zx Zy (Zx Zy (Zx Zy flat_nil)))) rfl) (Zx (rep_vec (Zx Zy (Zx Zy (Zx Zy (Zx Zy flat_nil)))) rfl) flat_nil)) rfl) (rep_two Zy Zy)) Zy)),rfl⟩) fun g3 w3 p3 hs b3 cb=>?_)
 have hfr:=hfr.stp hs
 have rp1:=rp1.stp hs
 have q1:=q1.stp hs
 have b2:=b2.stp hs rfl
 have i6:OSF 2005 60500 0 g3 w3 3 164 ([]:List Int) p3:=cb.osf (by rfl)
 clear cb
 refine Zg (.int .i64 (0)) rfl rfl ?_
 refine Zg (.int .i64 (0)) rfl rfl ?_
 refine Zb (Zd (Zq h (fun (s:BoxBoxLoom × BoxRun) e w=>∃ (g:Gh) ,Fr gI wI g w∧e 1=up1∧RV g.m w (x1:List BoxPick) up1∧e 4=p2∧OB 2004 g w 142 (s.1:BoxBoxLoom) p2∧e 5=p3∧OB 2005 g w 164 (s.2:BoxRun) p3∧OSF 2005 60500 0 g w 3 164 ((s.2).thrown) p3) (fun X34 v8 d9 h=>?_) ?_))
 ·refine Zf (Za (Ze .plain rfl (D_load (g := g3) Try.isAgg40 Try.sizeOf40 rfl q1 fun nB oB => ?_)))
  refine Zn up1 rfl rfl ?_
  obtain ⟨u3,k9,h⟩:=Ge h
  refine Ze .plain rfl (Zp (g:=g3) (vs:=[nB,up1]) en141 (.cons rfl (.cons rfl .nil)) (wk141 oB rp1 k9) fun tB nD uD hs hr=>?_)
  have hfr:=hfr.ext hs
  have rp1:=rp1.ext hs
  have b2:=b2.ext hs
  have i6:=i6.ext hs
  have b3:=b3.ext hs
  obtain ⟨y6,cD,rfl,l8,rfl⟩:=hr
  refine Zn (.tuple #[y6,.int .i64 (u3.2)]) rfl rfl ?_
  refine Ga y6 (Zi rfl rfl) rfl ?_
  refine Ga (.int .i64 (u3.2)) (Zi rfl rfl) rfl ?_
  refine Ze .plain rfl (D_storeOc (g:=tB) (v:=y6) Try.sizeOf142 rfl b2 rfl l8 fun x8 vD hs b38 cb=>?_)
  clear cb
  have hfr:=hfr.stp hs
  have rp1:=rp1.stp hs
  have i6:=i6.stp hs rfl
  have b3:=b3.stp hs rfl
  refine Zg (.int .i64 (u3.2)) rfl rfl ?_
  refine Zb (Zd (Zf (Za (Zn (.int .i64 (u3.2)) rfl rfl ?_))))
  refine EL_in (.bool ((u3.2 != (0:Int)))) rfl rfl rfl rfl ?_
  refine Zb (Zd ?_)
  rcases Zt h with ⟨g8,h⟩ | ⟨g8,h⟩
  ·refine E_ct g8 rfl ?_
   refine Zf (L_selfO Try.isAgg142 Try.sizeOf142 rfl b38 fun vB l9 n9=>?_)
   refine L_selfO Try.isAgg164 Try.sizeOf164 rfl b3 fun yB u9 y9=>?_
   refine E_drawL (g:=x8) (n:=7) [(3,(fun _ _ _=>True)),(4,(fun _ _ _=>True))] [0,1,2,3,4,5,6] rfl mixed (by kernel_rfl) (⟨fun _=>(fun _ _ _ _ _ _=>trivial),fun _=>(fun _ _ _ _ _ _=>trivial),trivial⟩) ?_
   refine L_ld (c:=vB) rfl rfl .plain (fun _ _ h=>⟨h.ch,fun b hb _=>h.below.block b hb⟩) (l9 _) rfl ?_
   refine L_ld (c:=yB) rfl rfl .plain (fun _ _ h=>⟨h.ch,fun b hb _=>h.below.block b hb⟩) (u9 _) rfl ?_
   refine Gd (.int .i64 (u3.2)) rfl rfl (Zk rfl) ?_
   refine L_do (φ:=fun _ _ _=>True) rfl rfl .plain (fun g w hd=>n9 _ _ _ g w ⟨hd.1.ch,fun b hb _=>hd.1.below.block b hb⟩ rfl rfl) (fun xD hv=>?_)
   clear hv
   refine L_do (φ:=fun _ _ _=>True) rfl rfl .plain (fun g w hd=>y9 _ _ _ g w ⟨hd.1.ch,fun b hb _=>hd.1.below.block b hb⟩ rfl rfl) (fun yD hv=>?_)
   clear hv
   refine Gd (.int .i64 (0)) rfl rfl (P_assign rfl) ?_
   refine Gd (.int .i64 (u3.2)) rfl rfl (P_assign rfl) ?_
   refine L_nl fun zD aE hs=>?_
   have hfr:=hfr.ext hs
   have b38:=b38.ext hs
   have b3:=b3.ext hs
   clear hs
   refine Zb (Zd (E_ret (thn_r ?_)))
   obtain rfl:=sinj h
   obtain ⟨ad63,cv63,hp63,z9,cr63⟩:=ob_read Try.isAgg142 Try.sizeOf142 b38
   obtain ⟨ad65,cv65,hp65,bA,cr65⟩:=ob_read Try.isAgg164 Try.sizeOf164 b3
   exact endm_cctt rfl rfl ((show _=p2 from rfl).trans hp63) z9 ((show _=p3 from rfl).trans hp65) bA (show _=.int .i64 (0) from rfl) (show _=.int .i64 (u3.2) from rfl) ⟨_,hfr,_,_,_,_,rfl,cr63,cr65,rfl,rfl⟩
  ·refine E_cf g8 rfl ?_
   exact Zu (Zd (d9 (u3.1,(⟨[],⟨(⟨List.toArray [(⟨List.toArray [0,0,0,0],rfl⟩:Vector Int 4),(⟨List.toArray [0,0,0,0],rfl⟩:Vector Int 4)],rfl⟩:Vector (Vector Int 4) 2),⟨0,0⟩⟩,0⟩:BoxRun)) _ _ ⟨x8,hfr,rfl,rp1,rfl,b38,rfl,b3,i6⟩ h))
 ·rintro ⟨x6, k8⟩ oD bE ⟨a9, hfr, m8, i7, t5, o0, x5, l5, u5_0_66⟩ h
  refine Zf (Za (Ze .plain rfl (D_loadO (g:=a9) Try.isAgg142 Try.sizeOf142 t5 o0 fun zB cC=>?_)))
  obtain ⟨r8,iA,h⟩:=Ge h
  refine Ze .plain rfl (Zp (g:=a9) (vs:=[zB,.func (.func 143) #[] #[]]) en65 (.cons rfl (.cons rfl .nil)) (wk65 cC ⟨143,#[],#[],rfl,en143,fun g' w' hch a0 a1 b0 b1 r hu0 hu1 hr=>by obtain rfl:=Zj.1 hu0; exact Fn.mono (wk143 hu1  hr) fun _ _ _ h=>Zj.2 h⟩ iA) fun mC sD qC hs hr=>?_)
  have hfr:=hfr.ext hs
  have i7:=i7.ext hs
  have o0:=o0.ext hs
  have l5:=l5.ext hs
  have rC:=hr
  refine Zo m8 rfl ?_
  obtain ⟨y71,rA,h⟩:=Ge h
  refine Ze .plain rfl (Zp (g:=mC) (vs:=[qC,up1]) en142 (.cons rfl (.cons rfl .nil)) (wk142 rC i7 rA) fun uC tD iE hs hr=>?_)
  have hfr:=hfr.ext hs
  have o0:=o0.ext hs
  have l5:=l5.ext hs
  obtain ⟨m7,eD,gD,rfl,n8,rfl,rfl⟩:=hr
  refine Zn (.tuple #[m7,.int .i64 (y71.2.1),.int .i64 (y71.2.2)]) rfl rfl ?_
  refine Ga m7 (Zi rfl rfl) rfl ?_
  refine Ga (.int .i64 (y71.2.1)) (Zi rfl rfl) rfl ?_
  refine Ga (.int .i64 (y71.2.2)) (Zi rfl rfl) rfl ?_
  refine Ze .plain rfl (D_storeOc (g:=uC) (v:=m7) Try.sizeOf164 x5 l5 rfl n8 fun vC lE hs b72 cb=>?_)
  clear cb
  have hfr:=hfr.stp hs
  have o0:=o0.stp hs rfl
  refine Zg (.int .i64 (y71.2.1)) rfl rfl ?_
  refine Zg (.int .i64 (y71.2.2)) rfl rfl ?_
  refine Zb (Zd (Zf (L_selfO Try.isAgg142 Try.sizeOf142 rfl o0 fun aD yA aB=>?_)))
  refine L_selfO Try.isAgg164 Try.sizeOf164 rfl b72 fun bD dB iB=>?_
  refine E_drawL (g:=vC) (n:=8) [(4,(fun _ _ _=>True)),(5,(fun _ _ _=>True))] [0,1,2,3,4,5,6,7] rfl mixed (by kernel_rfl) (⟨fun _=>(fun _ _ _ _ _ _=>trivial),fun _=>(fun _ _ _ _ _ _=>trivial),trivial⟩) ?_
  refine L_ld (c:=aD) rfl rfl .plain (fun _ _ h=>⟨h.ch,fun b hb _=>h.below.block b hb⟩) (yA _) t5 ?_
  refine L_ld (c:=bD) rfl rfl .plain (fun _ _ h=>⟨h.ch,fun b hb _=>h.below.block b hb⟩) (dB _) x5 ?_
  refine Gd (.int .i64 (y71.2.1)) rfl rfl (Zk rfl) ?_
  refine Gd (.int .i64 (y71.2.2)) rfl rfl (Zk rfl) ?_
  refine L_do (φ:=fun _ _ _=>True) rfl rfl .plain (fun g w hd=>aB _ _ _ g w ⟨hd.1.ch,fun b hb _=>hd.1.below.block b hb⟩ t5 rfl) (fun mE hv=>?_)
  clear hv
  refine L_do (φ:=fun _ _ _=>True) rfl rfl .plain (fun g w hd=>iB _ _ _ g w ⟨hd.1.ch,fun b hb _=>hd.1.below.block b hb⟩ x5 rfl) (fun oE hv=>?_)
  clear hv
  refine Gd (.int .i64 (y71.2.1)) rfl rfl (P_assign rfl) ?_
  refine Gd (.int .i64 (y71.2.2)) rfl rfl (P_assign rfl) ?_
  refine L_nl fun rE uE hs=>?_
  have hfr:=hfr.ext hs
  have o0:=o0.ext hs
  have b72:=b72.ext hs
  clear hs
  refine Zb (Zd (E_ret ?_))
  obtain rfl:=sinj h
  obtain ⟨ad95,cv95,hp95,lB,cr95⟩:=ob_read Try.isAgg142 Try.sizeOf142 o0
  obtain ⟨ad96,cv96,hp96,mB,cr96⟩:=ob_read Try.isAgg164 Try.sizeOf164 b72
  exact endm_cctt rfl rfl ((show _=p2 from t5).trans hp95) lB ((show _=p3 from x5).trans hp96) mB (show _=.int .i64 (y71.2.1) from rfl) (show _=.int .i64 (y71.2.2) from rfl) ⟨_,hfr,_,_,_,_,rfl,cr95,cr96,rfl,rfl⟩
def f74 (x0:FaultFaultLoom) (x1:List Zv):Option ((List Str)):=
 (f71 ((((x0).FaultLoom).Design).Rows)).bind fun y8=>
 (f145 x1).bind fun y11=>
 (f146 y11 ((fun a0 a1=>f147 a0 a1))).bind fun l9=>
 Option.bind (α:=(List Int) × (List (Int × Bool))) (
  lp (σ:=(List Int) × (List (Int × Bool)) × Int) (fun oH (mC,qC,l5)=>
   bif (decide (l5 < ((l9).length : Int))) then
    Option.bind (α:=(List Int) × (List (Int × Bool))) (
     (idx l9 l5).bind fun y55=>
     (fchg ((y55).Kind) x0 y55 mC qC).bind fun cF=>
     some (cF.1,cF.2)
     ) fun (iA,rA)=>
    oH (iA,rA,(w64 (l5 + (1:Int))))
   else
    some (mC,qC)
   ) big (y8,([]:List (Int × Bool)),(0:Int))
  ) fun (yA,m8)=>
 (f39 (((x0).FaultLoom).Harness) ((⟨(((x0).FaultLoom).Design).Hooks,yA⟩:Design))).bind fun y79=>
 Option.bind (α:=(List Str)) (
  lp (σ:=(List Str) × Int) (fun dF (y6,o0)=>
   bif (decide (o0 < ((y79.1).length : Int))) then
    Option.bind (α:=(List Str)) (
     (idx y6 o0).bind fun dB=>
     Option.bind (α:=(List UInt8)) (
      lp (σ:=(List UInt8) × (List (Int × Bool))) (fun eF (i7,y9)=>
       bif y9.isEmpty then
        some (i7)
       else pickAll y9 fun n8 rm160=>
        (idx i7 n8.1).bind fun yH=>
        eF ((List.set i7 (Int.toNat n8.1) ((46:UInt8))),rm160)
       ) big ((dB).b,m8)
      ) fun v8=>
     (idx y6 o0).bind fun y165=>
     some ((List.set y6 (Int.toNat o0) ((⟨v8⟩:Str))))
     ) fun n9=>
    dF (n9,(w64 (o0 + (1:Int))))
   else
    some (y6)
   ) big (y79.1,(0:Int))
  ) fun iB=>
 some (iB)
theorem en74:Enters Try.prog 74:=enters_of Try.func74 (by kernel_rfl) rfl
theorem wk74 {gI:Gh} {wI:World} {x0:FaultFaultLoom} {x1:List Zv} {up0:Value} (rp0:RV gI.m wI x0 up0) {up1:Value} (rp1:RV gI.m wI x1 up1) {r:(List Str)} (h:f74 x0 x1=some r):Fn Try.prog 74 #[up0,up1] gI wI (fun m w v=>RV m w (r) v):=by
 unfold f74 at h
 refine fn_of_E Try.func74 rfl (Nat.le_of_ble_eq_true rfl) fun g0 hm hfr=>?_
 have rp0:RV g0.m wI x0 up0:=hm ▸ rp0
 have rp1:RV g0.m wI x1 up1:=hm ▸ rp1
 show E _ 79 none _ _ _ _ _
 refine Zf (Za (Ze .plain rfl (D_box (g:=g0) rfl rp0 fun g1 w1 p1 hs q1=>?_)))
 have hfr:=hfr.ext hs
 have rp1:=rp1.ext hs
 refine Zg (.slice none 0 0) rfl rfl ?_
 have b2:OA 4004 g1 w1 9 ([]:List Str) (.slice none 0 0):=OA.nil
 refine Zb (Zd (Zf (Za (Ga (fPtr p1 0) (Zc at_170_0 rfl (PT.ptr q1)) rfl ?_))))
 have q3:=Zm (part_FaultFaultLoom_0).1 q1
 refine Ga (fPtr (fPtr p1 0) 2) (Zc at_32_1 rfl (PT.ptr q3)) rfl ?_
 have q4:=Zm (part_FaultLoom_1).1 q3
 refine Ga (fPtr (fPtr (fPtr p1 0) 2) 1) (Zc at_30_1 rfl (PT.ptr q4)) rfl ?_
 have q5:=Zm (part_Design_1).1 q4
 refine Ze .plain rfl (D_load (g:=g1) Try.isAgg26 Try.sizeOf26 rfl q5 fun v6 r6=>?_)
 obtain ⟨y8,vI,h⟩:=Ge h
 refine Ze .plain rfl (D_callG (g:=g1) (vs:=[v6]) en71 (.cons rfl .nil) (v71_0 (iO:=9018) r6 vI) fun g7 w7_ v7 hs hr=>?_)
 have hfr:=hfr.ext hs
 have rp1:=rp1.ext hs
 have q1:=q1.ext hs
 have hm7:=hr
 refine Ze .plain rfl (D_makeMap (g:=g7) (Value.int .i64) Bool 8019 fun g9 w9 v9 hs m9=>?_)
 have hfr:=hfr.stp hs
 have rp1:=rp1.stp hs
 have q1:=q1.stp hs
 have hm7:=hm7.stp hs rfl
 refine Zg v7 rfl rfl ?_
 refine Zg v9 rfl rfl ?_
 refine Zb (Zd (Zf (Za (Zn up1 rfl rfl ?_))))
 obtain ⟨y11,zH,h⟩:=Ge h
 refine Ze .plain rfl (D_callG (g:=g9) (vs:=[up1]) en145 (.cons rfl .nil) (v145_0 (iO:=9021) rp1 zH) fun yI dK r8 hs hr=>?_)
 have hfr:=hfr.ext hs
 have q1:=q1.ext hs
 have hm7:=hm7.ext hs
 have m9:=m9.ext hs
 have hm10:=hr
 refine Zg r8 rfl rfl ?_
 refine Zb (Zd (Zf (Za (Zn r8 rfl rfl ?_))))
 obtain ⟨l9,aI,h⟩:=Ge h
 refine Ze .plain rfl (D_callM (g:=yI) (i:=9021) (vs:=[r8,.func (.func 147) #[] #[]]) en146 (.cons rfl (.cons rfl .nil)) (wk146 hm10 ⟨147,#[],#[],rfl,en147,fun g' w' hch a0 a1 b0 b1 r hu0 hu1 hr=>by exact Fn.mono (wk147 hu0 hu1  hr) fun _ _ _ h=>Zj.2 h⟩ aI) fun zI lK jL hs hr=>?_)
 obtain ⟨hrv,b12⟩:=hr
 have hfr:=hfr.stp hs
 have q1:=q1.stp hs
 have hm7:=hm7.stp hs rfl
 have m9:=m9.stp hs rfl
 subst hrv
 refine Zb (Zd (Zf (Za (Ze .plain rfl (D_callG (g:=zI) (vs:=[]) en149 .nil (wk149 (i:=8800)) fun eJ lL cD hs m14=>?_)))))
 have hfr:=hfr.ext hs
 have b12:=b12.ext hs
 have q1:=q1.ext hs
 have hm7:=hm7.ext hs
 have m9:=m9.ext hs
 refine Zg cD rfl rfl ?_
 refine Zb (Zd ?_)
 obtain ⟨⟨yA,m8⟩,hx,h⟩:=Ge h
 refine E_join (fun e w=>∃ (g:Gh) ,Fr gI wI g w∧e 2=p1∧PT g.m w (x0:FaultFaultLoom) p1∧e 5=v7∧OM 9018 g w 3 (yA:List Int) v7∧e 6=v9∧MP (Value.int .i64) 8019 g w (m8:List (Int × Bool)) v9) (fun Q' hQ=>?_) (fun mK mL hR=>?_)
 ·replace h := hx
  clear hx
  refine Zf (Za (Zn r8 rfl rfl ?_))
  refine Ga (.int .i64 ((l9).length:Int)) (P_lenM Try.underlying57 rfl b12) rfl ?_
  refine Zn (.int .i64 (0)) rfl rfl ?_
  refine Zb (Zd (Zr ?_))
  refine E_lp h (fun (s:(List Int) × (List (Int × Bool)) × Int) e w=>∃ (g:Gh) ,Fr gI wI g w∧e 1=r8∧OM 9021 g w 56 (l9:List Zv) r8∧e 2=p1∧PT g.m w (x0:FaultFaultLoom) p1∧e 5=v7∧OM 9018 g w 3 (s.1:List Int) v7∧e 6=v9∧MP (Value.int .i64) 8019 g w (s.2.1:List (Int × Bool)) v9∧e 7=cD∧MP (Value.int .i64) 8800 g w chgM cD∧e 25=r8∧e 26=.int .i64 (((l9).length:Int))∧e 27=.int .i64 (s.2.2)) ⟨eJ,hfr,rfl,b12,rfl,q1,rfl,hm7,rfl,m9,rfl,m14,rfl,rfl,rfl⟩ (fun X41 oH bI=>?_)
  rintro ⟨mC,qC,l5⟩ nK nL ⟨rF,hfr,lG,t5,rC,x5,uC,x8,vC,a9,yD,i6,eD,gD,lB⟩ h
  refine Zf (Za (EL_in (.bool ((decide (l5 < ((l9).length:Int))))) lB gD rfl rfl ?_))
  refine Zb (Zd (Zf ?_))
  rcases Zt h with ⟨uD,h⟩ | ⟨uD,h⟩
  ·refine E_ct uD rfl ?_
   refine Zu (Zd ?_)
   obtain ⟨⟨iA,rA⟩,hx,h⟩:=Ge h
   refine E_join (fun e w=>∃ (g:Gh) ,Fr gI wI g w∧e 1=r8∧OM 9021 g w 56 (l9:List Zv) r8∧e 2=p1∧PT g.m w (x0:FaultFaultLoom) p1∧e 5=v7∧OM 9018 g w 3 (iA:List Int) v7∧e 6=v9∧MP (Value.int .i64) 8019 g w (rA:List (Int × Bool)) v9∧e 7=cD∧MP (Value.int .i64) 8800 g w chgM cD∧e 25=r8∧e 26=.int .i64 (((l9).length:Int))∧e 27=.int .i64 (l5)) (fun Q' hQ=>?_) (fun oK oL hR=>?_)
   ·replace h := hx
    clear hx
    refine Zr ?_
    refine Zf (Za ?_)
    obtain ⟨y55,sF,h⟩:=Ge h
    refine Ga (ePtr r8 l5 5) (P_indexAddrM (α:=Zv) Try.underlying57 Try.sizeOf56 eD t5 lB sF) rfl ?_
    refine Ze .plain rfl (D_loadM (g:=rF) Try.isAgg56 Try.sizeOf56 rfl t5 sF fun gJ tF=>?_)
    refine Ze .plain rfl (D_allocOc (g:=rF) 2009 (⟨0,0,0,0,false⟩:Zv) Try.zeroValue56 (fun m w=>⟨_,(rep_two Zy (rep_two Zy (rep_two Zy (rep_two Zy rep_bool)))),rfl⟩) fun iJ pL jJ hs b57 cb=>?_)
    have hfr:=hfr.stp hs
    have t5:=t5.stp hs rfl
    have x5:=x5.stp hs
    have x8:=x8.stp hs rfl
    have a9:=a9.stp hs rfl
    have i6:=i6.stp hs rfl
    have tF:=tF.stp hs
    clear cb
    refine Ze .plain rfl (D_storeOc (g:=iJ) (v:=gJ) Try.sizeOf56 rfl b57 rfl tF fun iD qL hs b58 cb=>?_)
    clear cb
    have hfr:=hfr.stp hs
    have t5:=t5.stp hs rfl
    have x5:=x5.stp hs
    have x8:=x8.stp hs rfl
    have a9:=a9.stp hs rfl
    have i6:=i6.stp hs rfl
    refine Zb (Zd (Za (Zo yD rfl ?_)))
    refine Ga (fPtr jJ 0) (Zc at_56_0 rfl (OB.ptr b58)) rfl ?_
    refine Ze .plain rfl (D_loadF (g:=iD) part_FaultDamage_0.1 Try.isAgg54 Try.sizeOf54 rfl b58 fun rL kJ=>?_)
    obtain rfl:=Zj.1 kJ
    refine Ze .plain rfl (D_lookup (g:=iD) (z0:=fv0) Try.underlying290 key_54 Try.zeroValue293 (fun _ _=>RV_fv.2 rfl) rfl i6 rfl fun tL lJ=>?_)
    have dI:=RV_fv.1 lJ
    refine Ze .plain rfl (D_load (g:=iD) Try.isAgg170 Try.sizeOf170 rC x5 fun v62 mJ=>?_)
    refine Ze .plain rfl (D_loadO (g:=iD) Try.isAgg56 Try.sizeOf56 rfl b58 fun uL nJ=>?_)
    refine Zo uC rfl ?_
    refine Zo vC rfl ?_
    obtain ⟨cF,iI,h⟩:=Ge h
    refine Ze .plain rfl (D_chg (g:=iD) (i:=9018) (j:=8019) iI (show _=_ from dI) rfl rfl rfl rfl mJ nJ x8 a9 rfl rfl fun vL xL jI pK yL hs hs2 mr65 mb65=>?_)
    have hfr:=hfr.stp hs
    have t5:=t5.stp hs rfl
    have x5:=x5.stp hs
    have i6:=i6.stp hs rfl
    have hfr:=hfr.stp hs2
    have t5:=t5.stp hs2 rfl
    have x5:=x5.stp hs2
    have i6:=i6.stp hs2 rfl
    refine Zb (blk_n ?_)
    obtain ⟨rfl,rfl⟩:=pairs2 h
    exact hQ _ _ ⟨jI,hfr,lG,t5,rC,x5,uC,mr65,vC,mb65,yD,i6,eD,gD,lB⟩
   ·clear hx
    obtain ⟨oJ,hfr,mG,sG,xG,yG,zG,aH,cH,dH,gH,iH,uF,vF,xF⟩:=hR
    refine Za (EL_in (.int .i64 ((w64 (l5 + (1:Int))))) xF rfl rfl rfl ?_)
    refine Zn (.int .i64 ((w64 (l5 + (1:Int))))) rfl rfl ?_
    exact Zb (Zd (bI (iA,rA,(w64 (l5 + (1:Int)))) _ _ ⟨oJ,hfr,mG,sG,xG,yG,zG,aH,cH,dH,gH,iH,uF,vF,rfl⟩ h))
  ·refine E_cf uD rfl ?_
   refine E_exit ?_
   refine thn_e ?_
   refine thn_e ?_
   refine blk_hit ?_
   obtain ⟨rfl,rfl⟩:=pairs2 h
   exact hQ _ _ ⟨rF,hfr,rC,x5,uC,x8,vC,a9⟩
 ·clear hx
  obtain ⟨pH,hfr,zD,aB,jH,kH,lH,u9⟩:=hR
  refine Zf (Za (Ga (fPtr p1 0) (Zc at_170_0 zD (PT.ptr aB)) rfl ?_))
  have qH:=Zm (part_FaultFaultLoom_0).1 aB
  refine Ga (fPtr (fPtr p1 0) 0) (Zc at_32_0 rfl (PT.ptr qH)) rfl ?_
  have pJ:=Zm (part_FaultLoom_0).1 qH
  refine Ze .plain rfl (D_load (g:=pH) Try.isAgg28 Try.sizeOf28 rfl pJ fun qJ yF=>?_)
  refine Ga (fPtr p1 0) (Zc at_170_0 zD (PT.ptr aB)) rfl ?_
  have sH:=Zm (part_FaultFaultLoom_0).1 aB
  refine Ga (fPtr (fPtr p1 0) 2) (Zc at_32_1 rfl (PT.ptr sH)) rfl ?_
  have tH:=Zm (part_FaultLoom_1).1 sH
  refine Ga (fPtr (fPtr (fPtr p1 0) 2) 0) (Zc at_30_0 rfl (PT.ptr tH)) rfl ?_
  have rJ:=Zm (part_Design_0).1 tH
  refine Ze .plain rfl (D_load (g:=pH) Try.isAgg3 Try.sizeOf3 rfl rJ fun zL sJ=>?_)
  obtain rfl:=Zj.1 sJ
  refine Zo jH rfl ?_
  obtain ⟨gp77,hs,rp77⟩:=OM.pub kH
  have hfr:=hfr.stp hs
  have u9:=u9.stp hs rfl
  have yF:=yF.stp hs
  have uH:RV gp77.m _ (⟨(((x0).FaultLoom).Design).Hooks,yA⟩:Design) (.agg (setCh [[.int .i64 0],[.slice none 0 0]] [(0,.int .i64 ((((x0).FaultLoom).Design).Hooks)),(1,v7)]).flatten.toArray):=RV_build rfl (rep_pair (rfl) (rep_last (RV.cells rp77)))
  generalize kI:(Value.agg (setCh [[.int .i64 0],[.slice none 0 0]] [(0,.int .i64 ((((x0).FaultLoom).Design).Hooks)),(1,v7)]).flatten.toArray)=xH at uH
  refine Ga xH (kI ▸ P_build (vs:=[(0,.int .i64 ((((x0).FaultLoom).Design).Hooks)),(1,v7)]) [[.int .i64 0],[.slice none 0 0]] lay_30 rfl rfl (.cons rfl (.cons rfl .nil)) ⟨⟨_,rfl,rfl⟩,⟨⟨_,rfl,cells_size rp77⟩,trivial⟩⟩) rfl ?_
  obtain ⟨y79,lI,h⟩:=Ge h
  refine Ze .plain rfl (D_callG (g:=gp77) (vs:=[qJ,xH]) en39 (.cons rfl (.cons rfl .nil)) (v39_0 (iO:=9051) yF uH lI) fun vJ qK aM hs hr=>?_)
  have hfr:=hfr.ext hs
  have u9:=u9.ext hs
  obtain ⟨u3,xJ,rfl,hm78,rfl⟩:=hr
  refine Zn (.tuple #[u3,.int .i64 (y79.2)]) rfl rfl ?_
  refine Ga u3 (Zi rfl rfl) rfl ?_
  refine Ga (.int .i64 (y79.2)) (Zi rfl rfl) rfl ?_
  refine Zg u3 rfl rfl ?_
  refine Zb (Zd ?_)
  obtain ⟨iB,hx,h⟩:=Ge h
  refine E_join (fun e w=>∃ (g:Gh) ,Fr gI wI g w∧e 4=u3∧OM 9051 g w 9 (iB:List Str) u3) (fun Q' hQ=>?_) (fun yJ sK hR=>?_)
  ·replace h := hx
   clear hx
   refine Zf (Za (Zn u3 rfl rfl ?_))
   refine Ga (.int .i64 ((y79.1).length:Int)) (P_lenM Try.underlying50 rfl hm78) rfl ?_
   refine Zn (.int .i64 (0)) rfl rfl ?_
   refine Zb (Zd (Zr ?_))
   refine E_lp h (fun (s:(List Str) × Int) e w=>∃ (g:Gh) ,Fr gI wI g w∧e 4=u3∧OM 9051 g w 9 (s.1:List Str) u3∧e 6=v9∧MP (Value.int .i64) 8019 g w (m8:List (Int × Bool)) v9∧e 54=u3∧e 55=.int .i64 (((y79.1).length:Int))∧e 56=.int .i64 (s.2)) ⟨vJ,hfr,rfl,hm78,lH,u9,rfl,rfl,rfl⟩ (fun X124 dF mH=>?_)
   rintro ⟨y6,o0⟩ zJ tK ⟨vD,hfr,jD,x6,lD,m7,nB,oB,d9⟩ h
   refine Zf (Za (EL_in (.bool ((decide (o0 < ((y79.1).length:Int))))) d9 oB rfl rfl ?_))
   refine Zb (Zd (Zf ?_))
   rcases Zt h with ⟨aD,h⟩ | ⟨aD,h⟩
   ·refine E_ct aD rfl ?_
    refine Zu (Zd ?_)
    obtain ⟨n9,hx,h⟩:=Ge h
    refine E_join (fun e w=>∃ (g:Gh) ,Fr gI wI g w∧e 4=u3∧OM 9051 g w 9 (n9:List Str) u3∧e 6=v9∧MP (Value.int .i64) 8019 g w (m8:List (Int × Bool)) v9∧e 54=u3∧e 55=.int .i64 (((y79.1).length:Int))∧e 56=.int .i64 (o0)) (fun Q' hQ=>?_) (fun aK uK hR=>?_)
    ·replace h := hx
     clear hx
     refine Zr ?_
     refine Zf (Za (Zo d9 rfl ?_))
     obtain ⟨dB,aE,h⟩:=Ge h
     refine Ga (ePtr u3 o0 1) (P_indexAddrM (α:=Str) Try.underlying50 Try.sizeOf9 nB x6 d9 aE) rfl ?_
     refine Ze .plain rfl (D_loadM (g:=vD) Try.isAgg9 Try.sizeOf9 rfl x6 aE fun vK mI=>?_)
     obtain rfl:=RV_str.1 mI
     refine Zg (.int .i64 (o0)) rfl rfl ?_
     refine Zg (Str.v (dB)) rfl rfl ?_
     refine Zb (Zd (Zf (Za (Zn (Str.v (dB)) rfl rfl ?_))))
     refine Ze .plain rfl (D_convSB (g:=vD) (s:=dB) 9062 Try.underlying9 Try.underlying22 Try.underlying5 rfl fun nI xK z9 hs m149=>?_)
     have hfr:=hfr.stp hs
     have x6:=x6.stp hs rfl
     have m7:=m7.stp hs rfl
     refine Zg z9 rfl rfl ?_
     refine Zb (Zd ?_)
     obtain ⟨v8,hx,h⟩:=Ge h
     refine E_join (fun e w=>∃ (g:Gh) ,Fr gI wI g w∧e 4=u3∧OM 9051 g w 9 (y6:List Str) u3∧e 6=v9∧MP (Value.int .i64) 8019 g w (m8:List (Int × Bool)) v9∧e 10=.int .i64 (o0)∧e 12=z9∧OM 9062 g w 5 (v8:List UInt8) z9∧e 54=u3∧e 55=.int .i64 (((y79.1).length:Int))∧e 56=.int .i64 (o0)) (fun Q' hQ=>?_) (fun bK yK hR=>?_)
     ·replace h := hx
      clear hx
      refine Zf (Za (Zo lD rfl ?_))
      refine Ze .plain rfl (D_rangeM (g:=nI) 7564 Try.underlying203 rfl m7 fun pI zK zF hs b157=>?_)
      have hfr:=hfr.stp hs
      have x6:=x6.stp hs rfl
      have m7:=m7.stp hs rfl
      have m149:=m149.stp hs rfl
      refine Zb (Zd (Zr ?_))
      refine E_lp h (fun (s:(List UInt8) × (List (Int × Bool))) e w=>∃ (g:Gh) ,Fr gI wI g w∧e 4=u3∧OM 9051 g w 9 (y6:List Str) u3∧e 6=v9∧MP (Value.int .i64) 8019 g w (m8:List (Int × Bool)) v9∧e 10=.int .i64 (o0)∧e 12=z9∧OM 9062 g w 5 (s.1:List UInt8) z9∧e 54=u3∧e 55=.int .i64 (((y79.1).length:Int))∧e 56=.int .i64 (o0)∧e 64=zF∧MI (Value.int .i64) 7564 8019 g w (s.2:List (Int × Bool)) none zF) ⟨pI,hfr,jD,x6,lD,m7,rfl,rfl,m149,nB,oB,d9,rfl,b157.dropc⟩ (fun X158 eF nH=>?_)
      rintro ⟨i7,y9⟩ cK aL ⟨xD,hfr,nD,g8,oD,k8,tB,bA,l8,vB,yB,zB,k9,cC⟩ h
      refine Zf (Za ?_)
      rcases Zt h with ⟨bD,h⟩ | ⟨bD,h⟩
      ·refine Ze .plain rfl (D_nextM_f (g := xD) k9 cC bD ?_)
       refine Ga (.bool false) (Zi rfl rfl) rfl ?_
       refine Zb (Zd (Zf (E_cond_false (by rw [show ev _ _=_ from rfl]; exact congrArg Value.bool rfl) ?_)))
       refine E_exit ?_
       refine thn_e ?_
       refine thn_e ?_
       refine blk_hit ?_
       obtain rfl:=sinj h
       exact hQ _ _ ⟨xD,hfr,nD,g8,oD,k8,tB,bA,l8,vB,yB,zB⟩
      ·refine Ze .plain rfl (D_nextM_t (g := xD) k9 cC rfl bD fun n8 rm160 u160 aG bL hmem hs b160 ru160 => ?_)
       replace h:=pickAll_h h _ hmem
       clear hmem
       obtain rfl:=RV_bool.1 ru160
       have hfr:=hfr.stp hs
       have g8:=g8.stp hs rfl
       have k8:=k8.stp hs rfl
       have l8:=l8.stp hs rfl
       refine Ga (.bool true) (Zi rfl rfl) rfl ?_
       refine Zb (Zd (Zf (E_cond_true (by rw [show ev _ _=_ from rfl]; exact congrArg Value.bool rfl) ?_)))
       refine Zu (Zd (Zr ?_))
       refine Zf (Za (Ze .plain rfl (D_entry (g:=aG) k9 b160 fun dL qI=>?_)))
       obtain rfl:=RV_bool.1 qI
       refine Ga (.int .i64 (n8.1)) (Zi rfl rfl) rfl ?_
       refine Zg (.int .i64 (n8.1)) rfl rfl ?_
       refine Zb (Zd (Za (Zo bA rfl ?_)))
       refine Zn (.int .i64 (n8.1)) rfl rfl ?_
       obtain ⟨yH,bE,h⟩:=Ge h
       refine Ga (ePtr z9 n8.1 1) (P_indexAddrM (α:=UInt8) Try.underlying22 Try.sizeOf5 rfl l8 rfl bE) rfl ?_
       refine Ze .plain rfl (D_storeM (g:=aG) (α:=UInt8) (a':=((46:UInt8))) Try.sizeOf5 rfl l8 bE rfl (RV_u8.2 rfl) fun sI eL hs b163=>?_)
       have hfr:=hfr.stp hs
       have g8:=g8.stp hs rfl
       have k8:=k8.stp hs rfl
       have b160:=b160.stp hs rfl
       exact Zb (blk_n (Zd (nH ((List.set i7 (Int.toNat n8.1) ((46:UInt8))),rm160) _ _ ⟨sI,hfr,nD,g8,oD,k8,tB,bA,b163,vB,yB,zB,k9,b160.dropc⟩ h)))
     ·clear hx
      obtain ⟨bG,hfr,sD,tD,cG,mB,lE,mE,oE,rE,uE,vE⟩:=hR
      refine Za (Zo sD rfl ?_)
      refine Zo lE rfl ?_
      refine Zo mE rfl ?_
      refine Ze .plain rfl (D_convBS (g:=bG) Try.underlying22 Try.underlying9 Try.underlying5 rfl oE ?_)
      obtain ⟨y165,iE,h⟩:=Ge h
      refine Ga (ePtr u3 o0 1) (P_indexAddrM (α:=Str) Try.underlying50 Try.sizeOf9 rfl tD rfl iE) rfl ?_
      refine Ze .plain rfl (D_storeM (g:=bG) (α:=Str) (a':=((⟨v8⟩:Str))) Try.sizeOf9 rfl tD iE rfl (RV_str.2 rfl) fun tI gL hs b166=>?_)
      have hfr:=hfr.stp hs
      have mB:=mB.stp hs rfl
      refine Zb (blk_n ?_)
      obtain rfl:=sinj h
      exact hQ _ _ ⟨tI,hfr,sD,b166,cG,mB,rE,uE,vE⟩
    ·clear hx
     obtain ⟨uI,hfr,eG,gG,hG,iG,xE,yE,zE⟩:=hR
     refine Za (EL_in (.int .i64 ((w64 (o0 + (1:Int))))) zE rfl rfl rfl ?_)
     refine Zn (.int .i64 ((w64 (o0 + (1:Int))))) rfl rfl ?_
     exact Zb (Zd (mH (n9,(w64 (o0 + (1:Int)))) _ _ ⟨uI,hfr,eG,gG,hG,iG,xE,yE,rfl⟩ h))
   ·refine E_cf aD rfl ?_
    refine E_exit ?_
    refine thn_e ?_
    refine thn_e ?_
    refine blk_hit ?_
    obtain rfl:=sinj h
    exact hQ _ _ ⟨vD,hfr,jD,x6⟩
  ·clear hx
   obtain ⟨iL,hfr,jG,kG⟩:=hR
   refine Zf (Za (Zo jG rfl ?_))
   refine Zg u3 rfl rfl ?_
   refine Zb (Zd (E_ret ?_))
   obtain ⟨gp169,hs,rp169⟩:=OM.pub kG
   have hfr:=hfr.stp hs
   obtain rfl:=sinj h
   exact end1 rfl rfl (show _=u3 from rfl) ⟨_,hfr,rp169⟩
def f75 (x0:FaultLoom) (x1:Zv) (x2:Zv):Option (Int × Int × Int):=
 jn (σ:=Int × Int × Int) (fun (l9,n9,u9)=>
  jn (σ:=Int × Int × Int) (fun (mC,qC,rC)=>
   some ((0:Int),(0:Int),(7:Int))
   ) fun mE=>
  (f74 ((⟨x0⟩:FaultFaultLoom)) (([x1]:List Zv))).bind fun k9=>
  (f74 ((⟨x0⟩:FaultFaultLoom)) (([x2]:List Zv))).bind fun y98=>
  (f150 k9 y98).bind fun v8=>
  (v8 (Nat × Int × Int × Int) (guardC fun (uC,vC,aD) (t5,x5)=>
   some (false,((1:Nat),(t5,x5,(0:Int))))
   ) (0,(l9,n9,u9))).bind fun (m7,(g8,k8,l8))=>
  bif Nat.beq m7 0 then
   mE (g8,k8,l8)
  else
   some (g8,k8,l8)
  ) fun oE=>
 (f144 x0 (([x1,x2]:List Zv))).bind fun x8=>
 bif (x8 != (0 : Int)) then
  some ((0:Int),(0:Int),x8)
 else
  oE ((0:Int),(0:Int),(0:Int))
theorem en75:Enters Try.prog 75:=enters_of Try.func75 (by kernel_rfl) rfl
theorem wk75 {gI:Gh} {wI:World} {x0:FaultLoom} {x1:Zv} {x2:Zv} {up0:Value} (rp0:RV gI.m wI x0 up0) {up1:Value} (rp1:RV gI.m wI x1 up1) {up2:Value} (rp2:RV gI.m wI x2 up2) {r:Int × Int × Int} (h:f75 x0 x1 x2=some r):Fn Try.prog 75 #[up0,up1,up2] gI wI (fun m w v=>∃ y0 y1 y2,v=.tuple #[y0,y1,y2]∧y0=.int .i64 (r.1)∧y1=.int .i64 (r.2.1)∧y2=.int .i64 (r.2.2)):=by
 unfold f75 at h
 refine fnD_of_E Try.func75 rfl (Nat.le_of_ble_eq_true rfl) fun g0 hm hfr=>?_
 have hmk:MkF g0 wI []:=MkF.start
 have rp0:RV g0.m wI x0 up0:=hm ▸ rp0
 have rp1:RV g0.m wI x1 up1:=hm ▸ rp1
 have rp2:RV g0.m wI x2 up2:=hm ▸ rp2
 show E _ 35 none _ _ _ _ _
 refine Zf (Za (Ze .plain rfl (D_box (g:=g0) rfl rp0 fun g1 w1 p1 hs q1=>?_)))
 have hfr:=hfr.ext hs
 have hmk:=hmk.ext hs
 have rp1:=rp1.ext hs
 have rp2:=rp2.ext hs
 refine Ze .plain rfl (D_box (g:=g1) rfl rp1 fun g2 w2 p2 hs q2=>?_)
 have hfr:=hfr.ext hs
 have hmk:=hmk.ext hs
 have rp2:=rp2.ext hs
 have q1:=q1.ext hs
 refine Ze .plain rfl (D_box (g:=g2) rfl rp2 fun g3 w3 p3 hs q3=>?_)
 have hfr:=hfr.ext hs
 have hmk:=hmk.ext hs
 have q1:=q1.ext hs
 have q2:=q2.ext hs
 refine Ze .plain rfl (D_allocOc (g:=g3) 2006 (0:Int) Try.zeroValue3 (fun m w=>⟨_,Zy,rfl⟩) fun g4 w4 p4 hs b4 cb=>?_)
 have hfr:=hfr.stp hs
 have hmk:=hmk.stp hs
 have q1:=q1.stp hs
 have q2:=q2.stp hs
 have q3:=q3.stp hs
 clear cb
 refine Ze .plain rfl (D_allocOc (g:=g4) 2007 (0:Int) Try.zeroValue3 (fun m w=>⟨_,Zy,rfl⟩) fun g5 w5 p5 hs b5 cb=>?_)
 have hfr:=hfr.stp hs
 have hmk:=hmk.stp hs
 have q1:=q1.stp hs
 have q2:=q2.stp hs
 have q3:=q3.stp hs
 have b4:=b4.stp hs rfl
 clear cb
 refine Ze .plain rfl (D_allocOc (g:=g5) 2008 (0:Int) Try.zeroValue42 (fun m w=>⟨_,Zy,rfl⟩) fun g6 w6 p6 hs b6 cb=>?_)
 have hfr:=hfr.stp hs
 have hmk:=hmk.stp hs
 have q1:=q1.stp hs
 have q2:=q2.stp hs
 have q3:=q3.stp hs
 have b4:=b4.stp hs rfl
 have b5:=b5.stp hs rfl
 clear cb
 refine Zb (Zd (E_joinCD h (fun (s:Int × Int × Int) e ds w=>∃ (g:Gh) ,Fr gI wI g w∧MkF g w ds∧e 3=p1∧PT g.m w (x0:FaultLoom) p1∧e 4=p2∧PT g.m w (x1:Zv) p2∧e 5=p3∧PT g.m w (x2:Zv) p3∧e 6=p4∧OB 2006 g w 3 (s.1:Int) p4∧e 7=p5∧OB 2007 g w 3 (s.2.1:Int) p5∧e 8=p6∧OB 2008 g w 42 (s.2.2:Int) p6) (fun X21 oE sF h=>?_) ?_))
 ·refine Zf (Za (Ze .plain rfl (D_load (g := g6) Try.isAgg32 Try.sizeOf32 rfl q1 fun cH bD => ?_)))
  refine Ze .plain rfl (D_load (g:=g6) Try.isAgg56 Try.sizeOf56 rfl q2 fun dH gH=>?_)
  refine Ze .plain rfl (D_load (g:=g6) Try.isAgg56 Try.sizeOf56 rfl q3 fun iH jH=>?_)
  refine Ze .plain rfl (D_buildSlice (g:=g6) 3015 (xs:=([x1,x2]:List Zv)) (vs:=[dH,iH]) Try.underlying57 Try.sizeOf56 Try.zeroValue56 rfl rfl (.cons rfl (.cons rfl .nil)) (RVs.cons gH (RVs.cons jH RVs.nil)) rfl rfl fun kH kJ lH hs o25 mH hxt hfl=>?_)
  have hfr:=hfr.stp hs
  have hmk:=hmk.stp hs
  have q1:=q1.stp hs
  have q2:=q2.stp hs
  have q3:=q3.stp hs
  have b4:=b4.stp hs rfl
  have b5:=b5.stp hs rfl
  have b6:=b6.stp hs rfl
  have bD:=bD.stp hs
  obtain ⟨x8,tF,h⟩:=Ge h
  refine Ze .plain rfl (Zp (g:=kH) (vs:=[cH,lH]) en144 (.cons rfl (.cons rfl .nil)) (wk144 bD mH tF) fun rE zH lJ hs hr=>?_)
  have hfr:=hfr.ext hs
  have hmk:=hmk.ext hs
  have q1:=q1.ext hs
  have q2:=q2.ext hs
  have q3:=q3.ext hs
  have b4:=b4.ext hs
  have b5:=b5.ext hs
  have b6:=b6.ext hs
  subst hr
  refine Zg (.int .i64 (x8)) rfl rfl ?_
  refine Zb (Zd (Zf (Za (Zn (.int .i64 (x8)) rfl rfl ?_))))
  refine EL_in (.bool ((x8 != (0:Int)))) rfl rfl rfl rfl ?_
  refine Zb (Zd ?_)
  rcases Zt h with ⟨lB,h⟩ | ⟨lB,h⟩
  ·refine E_ct lB rfl ?_
   refine Zf (Za (Zn (.int .i64 (x8)) rfl rfl ?_))
   refine Ze .plain rfl (D_storeOc (g:=rE) (v:=.int .i64 (0)) Try.sizeOf3 rfl b4 rfl (Zj.2 rfl) fun nH w29 hs b29 cb=>?_)
   clear cb
   have hfr:=hfr.stp hs
   have hmk:=hmk.stp hs
   have b5:=b5.stp hs rfl
   have b6:=b6.stp hs rfl
   refine Ze .plain rfl (D_storeOc (g:=nH) (v:=.int .i64 (0)) Try.sizeOf3 rfl b5 rfl (Zj.2 rfl) fun oH mJ hs b30 cb=>?_)
   clear cb
   have hfr:=hfr.stp hs
   have hmk:=hmk.stp hs
   have b29:=b29.stp hs rfl
   have b6:=b6.stp hs rfl
   refine Ze .plain rfl (D_storeOc (g:=oH) (v:=.int .i64 (x8)) Try.sizeOf42 rfl b6 rfl (Zj.2 rfl) fun nJ oJ hs b31 cb=>?_)
   clear cb
   have hfr:=hfr.stp hs
   have hmk:=hmk.stp hs
   have b29:=b29.stp hs rfl
   have b30:=b30.stp hs rfl
   refine Zb (Zd (E_ret (thn_r ?_)))
   refine endM (.inr rfl) hmk fun pJ qJ hs=>?_
   have hfr:=hfr.stp hs
   have b29:=b29.stp hs rfl
   have b30:=b30.stp hs rfl
   have b31:=b31.stp hs rfl
   obtain rfl:=sinj h
   obtain ⟨ad33,cv33,hp33,uF,cr33⟩:=ob_read Try.isAgg3 Try.sizeOf3 b29
   obtain rfl:=Zj.1 cr33
   obtain ⟨ad34,cv34,hp34,vF,cr34⟩:=ob_read Try.isAgg3 Try.sizeOf3 b30
   obtain rfl:=Zj.1 cr34
   obtain ⟨ad35,cv35,hp35,xF,cr35⟩:=ob_read Try.isAgg42 Try.sizeOf42 b31
   obtain rfl:=Zj.1 cr35
   exact endm_ccc rfl rfl ((show _=p4 from rfl).trans hp33) uF ((show _=p5 from rfl).trans hp34) vF ((show _=p6 from rfl).trans hp35) xF ⟨_,hfr,_,_,_,rfl,rfl,rfl,rfl⟩
  ·refine E_cf lB rfl ?_
   exact Zu (Zd (sF ((0:Int),(0:Int),(0:Int)) _ _ _ ⟨rE,hfr,hmk,rfl,q1,rfl,q2,rfl,q3,rfl,b4,rfl,b5,rfl,b6⟩ h))
 ·rintro ⟨l9, n9, u9⟩ aI mB rJ ⟨cD, hfr, hmk, nB, oB, sD, tD, uD, vD, y9, z9, bA, iA, rA, yA⟩ h
  refine E_joinCD h (fun (s:Int × Int × Int) e ds w=>∃ (g:Gh) ,Fr gI wI g w∧MkF g w ds∧e 6=p4∧OB 2006 g w 3 (s.1:Int) p4∧e 7=p5∧OB 2007 g w 3 (s.2.1:Int) p5∧e 8=p6∧OB 2008 g w 42 (s.2.2:Int) p6) (fun X86 mE yF h=>?_) ?_
  ·refine Zf (Zs (x := .tmp 3) Try.isAgg32 Try.sizeOf32 oB fun tB uE zF => ?_)
   have vE:RV cD.m _ (⟨x0⟩:FaultFaultLoom) (.agg (setCh [[.int .i64 0,.slice none 0 0,.int .i64 0,.slice none 0 0]] [(0,tB)]).flatten.toArray):=RV_build rfl (rep_last (RV.cells uE))
   generalize aG:(Value.agg (setCh [[.int .i64 0,.slice none 0 0,.int .i64 0,.slice none 0 0]] [(0,tB)]).flatten.toArray)=xE at vE
   refine Zs (x:=.tmp 4) Try.isAgg56 Try.sizeOf56 tD fun yE pH bG=>?_
   obtain ⟨k9,cG,h⟩:=Ge h
   refine Zs (x:=.tmp 3) Try.isAgg32 Try.sizeOf32 oB fun vB zE eG=>?_
   have cF:RV cD.m _ (⟨x0⟩:FaultFaultLoom) (.agg (setCh [[.int .i64 0,.slice none 0 0,.int .i64 0,.slice none 0 0]] [(0,vB)]).flatten.toArray):=RV_build rfl (rep_last (RV.cells zE))
   generalize gG:(Value.agg (setCh [[.int .i64 0,.slice none 0 0,.int .i64 0,.slice none 0 0]] [(0,vB)]).flatten.toArray)=dF at cF
   refine Zs (x:=.tmp 5) Try.isAgg56 Try.sizeOf56 vD fun eF qH hG=>?_
   obtain ⟨y98,iG,h⟩:=Ge h
   obtain ⟨v8,xD,h⟩:=Ge h
   refine E_drawL (g:=cD) (n:=11) [(3,(fun v g w=>RV g.m w ([x1]:List Zv) v∧OS 3023 g w 56 ([x1]:List Zv) v∧FullV v)),(4,(fun v g w=>RV g.m w k9 v)),(8,(fun v g w=>RV g.m w ([x2]:List Zv) v∧OS 3028 g w 56 ([x2]:List Zv) v∧FullV v)),(9,(fun v g w=>RV g.m w y98 v)),(10,(fun v g w=>ItV Try.prog (RA2 (α:=Int) (β:=Int)) v8 v g.m w))] [0,1,2,3,4,5,6,7,8,9,10] rfl mixed (by kernel_rfl) (⟨fun _=>up_and up_rv (up_and up_os (up_eq _)),fun _=>up_rv,fun _=>up_and up_rv (up_and up_os (up_eq _)),fun _=>up_rv,fun _=>up_itv,trivial⟩) ?_
   refine L_ld (c:=tB) rfl rfl .plain (fun _ _ h=>h.ch) zF nB ?_
   refine Gd xE rfl rfl (aG ▸ P_build (vs:=[(0,tB)]) [[.int .i64 0,.slice none 0 0,.int .i64 0,.slice none 0 0]] lay_170 rfl rfl (.cons rfl .nil) ⟨⟨_,rfl,cells_size uE⟩,trivial⟩) ?_
   refine L_ld (c:=yE) rfl rfl .plain (fun _ _ h=>h.ch) bG sD ?_
   refine L_do (φ:=fun v g w=>RV g.m w ([x1]:List Zv) v∧OS 3023 g w 56 ([x1]:List Zv) v∧FullV v) rfl rfl .plain (fun g w hd=>D_buildSlice (g:=g) 3023 (xs:=([x1]:List Zv)) (vs:=[yE]) Try.underlying57 Try.sizeOf56 Try.zeroValue56 rfl rfl (.cons rfl .nil) (RVs.cons (pH.ext hd.1) RVs.nil) rfl rfl fun g' w' v hs o r hxt hfl=>⟨g',hxt,r,o,hfl⟩) (fun y6 hv=>?_)
   clear hv
   refine L_do (φ:=fun v g w=>RV g.m w k9 v) rfl rfl .plain (fun g w hd=>Zp (g:=g) (vs:=[xE,y6]) en74 (.cons rfl (.cons rfl .nil)) (wk74 (vE.ext hd.1) (word (A:=fun g w=>RV g.m w ([x1]:List Zv) y6∧OS 3023 g w 56 ([x1]:List Zv) y6∧FullV y6) 3 rfl rfl (deps_of hd)).1 cG) fun g' w' v hs hr=>⟨g',hs,hr⟩) (fun eD hv=>?_)
   obtain ⟨_,_,_,rq91⟩:=hv
   refine L_ld (c:=vB) rfl rfl .plain (fun _ _ h=>h.ch) eG nB ?_
   refine Gd dF rfl rfl (gG ▸ P_build (vs:=[(0,vB)]) [[.int .i64 0,.slice none 0 0,.int .i64 0,.slice none 0 0]] lay_170 rfl rfl (.cons rfl .nil) ⟨⟨_,rfl,cells_size zE⟩,trivial⟩) ?_
   refine L_ld (c:=eF) rfl rfl .plain (fun _ _ h=>h.ch) hG uD ?_
   refine L_do (φ:=fun v g w=>RV g.m w ([x2]:List Zv) v∧OS 3028 g w 56 ([x2]:List Zv) v∧FullV v) rfl rfl .plain (fun g w hd=>D_buildSlice (g:=g) 3028 (xs:=([x2]:List Zv)) (vs:=[eF]) Try.underlying57 Try.sizeOf56 Try.zeroValue56 rfl rfl (.cons rfl .nil) (RVs.cons (qH.ext hd.1) RVs.nil) rfl rfl fun g' w' v hs o r hxt hfl=>⟨g',hxt,r,o,hfl⟩) (fun i7 hv=>?_)
   clear hv
   refine L_do (φ:=fun v g w=>RV g.m w y98 v) rfl rfl .plain (fun g w hd=>Zp (g:=g) (vs:=[dF,i7]) en74 (.cons rfl (.cons rfl .nil)) (wk74 (cF.ext hd.1) (word (A:=fun g w=>RV g.m w ([x2]:List Zv) i7∧OS 3028 g w 56 ([x2]:List Zv) i7∧FullV i7) 8 rfl rfl (deps_of hd)).1 iG) fun g' w' v hs hr=>⟨g',hs,hr⟩) (fun gD hv=>?_)
   obtain ⟨_,_,_,rq97⟩:=hv
   refine L_do (φ:=fun v g w=>ItV Try.prog (RA2 (α:=Int) (β:=Int)) v8 v g.m w) rfl rfl .plain (fun g w hd=>Zp (g:=g) (vs:=[eD,gD]) en150 (.cons rfl (.cons rfl .nil)) (wk150 (word (A:=fun g w=>RV g.m w k9 eD) 4 rfl rfl (deps_of hd)) (word (A:=fun g w=>RV g.m w y98 gD) 9 rfl rfl (deps_of hd)) xD) fun g' w' v hs hr=>⟨g',hs,hr⟩) (fun rF hv=>?_)
   clear hv
   refine L_nil fun bI dI hall=>?_
   have hs:=hall.1
   have hfr:=hfr.ext hs
   have hmk:=hmk.ext hs
   have z9:=z9.ext hs
   have iA:=iA.ext hs
   have yA:=yA.ext hs
   have iI:=(word_all (A:=fun g w=>RV g.m w ([x1]:List Zv) y6∧OS 3023 g w 56 ([x1]:List Zv) y6∧FullV y6) 3 rfl hall).1
   have o111:=(word_all (A:=fun g w=>RV g.m w ([x1]:List Zv) y6∧OS 3023 g w 56 ([x1]:List Zv) y6∧FullV y6) 3 rfl hall).2.1
   have jI:=(word_all (A:=fun g w=>RV g.m w k9 eD) 4 rfl hall)
   have kI:=(word_all (A:=fun g w=>RV g.m w ([x2]:List Zv) i7∧OS 3028 g w 56 ([x2]:List Zv) i7∧FullV i7) 8 rfl hall).1
   have o116:=(word_all (A:=fun g w=>RV g.m w ([x2]:List Zv) i7∧OS 3028 g w 56 ([x2]:List Zv) i7∧FullV i7) 8 rfl hall).2.1
   have lI:=(word_all (A:=fun g w=>RV g.m w y98 gD) 9 rfl hall)
   have iD:=(word_all (A:=fun g w=>ItV Try.prog (RA2 (α:=Int) (β:=Int)) v8 rF g.m w) 10 rfl hall)
   clear hs hall
   refine Zb (Zd (Zr ?_))
   have hB0:=hfr.size
   have hmk0:=hmk
   obtain ⟨⟨m7,⟨g8,k8,l8⟩⟩,hφ,h⟩:=Ge h
   refine E_rangeFunc (σ:=(Nat × Int × Int × Int)) (s0:=(0,(l9,n9,u9))) 10 rfl (fun s=>s.1) [.ret] (fun (s:Nat × Int × Int × Int) (g:Gh) (w:World)=>Fr gI wI g w∧MkF g w mB∧OB 2006 g w 3 (s.2.1:Int) p4∧OB 2007 g w 3 (s.2.2.1:Int) p5∧OB 2008 g w 42 (s.2.2.2:Int) p6∧ItV Try.prog (RA2 (α:=Int) (β:=Int)) v8 rF g.m w) rfl iD hφ (fun _ _ _ h=>(guardC_h h).1) rfl ra2_size rfl (fun _ _ _ _ _ hx hR=>by obtain ⟨hfr,hmk,z2,z3,z4,z5⟩:=hR; exact ⟨hfr.ist hx hB0,hmk.ist hx,z2.ist hx,z3.ist hx,z4.ist hx,z5.ist hx⟩) (fun _ _ _ _ _ hx hR=>by obtain ⟨hfr,hmk,z2,z3,z4,z5⟩:=hR; exact ⟨hfr.stp hx,hmk.stp hx,z2.stp hx rfl,z3.stp hx rfl,z4.stp hx rfl,z5.stp hx⟩) ⟨hfr,hmk,z9,iA,yA,iD⟩ (fun _ h=>by cases h) ?_ ?_
   ·intro xH sH s x b s2 jD jG vs hsz h hR hrec_0 yB hrd
    obtain ⟨hs0,h⟩:=guardC_h h
    obtain ⟨st,⟨uC,vC,aD⟩⟩:=s
    obtain ⟨hfr,hmk,a9,i6,l5,o0⟩:=hR
    obtain ⟨t5,x5⟩:=x
    obtain ⟨lD,nD,rfl,zB,cC⟩:=ra2_get hrd
    obtain rfl:lD=.int .i64 (t5):=Zj.1 zB
    obtain rfl:nD=.int .i64 (x5):=Zj.1 cC
    have u3:=RFr.refl jD jG
    refine Zf (Za (Zg (.int .i64 (t5)) rfl rfl ?_))
    refine Zb (Zd (Za (Zg (.int .i64 (x5)) rfl rfl ?_)))
    refine Zb (Zd ?_)
    obtain ⟨kG,hbr,hs,hrN⟩:=begin_round hrec_0 yB
    refine ⟨kG,hbr,?_⟩
    have hfr:=hfr.stp hs
    have hmk:=hmk.stp hs
    have u3:=u3.stp hs
    have a9:=a9.stp hs rfl
    have i6:=i6.stp hs rfl
    have l5:=l5.stp hs rfl
    have o0:=o0.stp hs
    have hrec_0:=hrN
    clear hbr hs hrN
    refine Zr ?_
    refine Zf (Za (Zn (.int .i64 (t5)) rfl rfl ?_))
    refine Zn (.int .i64 (x5)) rfl rfl ?_
    refine Ze .plain rfl (D_storeOc (g:=jD) (v:=.int .i64 (t5)) Try.sizeOf3 y9 a9 rfl (Zj.2 rfl) fun lG mI hs b126 cb=>?_)
    clear cb
    have hfr:=hfr.stp hs
    have hmk:=hmk.stp hs
    have u3:=u3.stp hs
    have hrec_0:=hrec_0.stp hs rfl
    have i6:=i6.stp hs rfl
    have l5:=l5.stp hs rfl
    have o0:=o0.stp hs
    refine Ze .plain rfl (D_storeOc (g:=lG) (v:=.int .i64 (x5)) Try.sizeOf3 bA i6 rfl (Zj.2 rfl) fun mG nI hs b127 cb=>?_)
    clear cb
    have hfr:=hfr.stp hs
    have hmk:=hmk.stp hs
    have u3:=u3.stp hs
    have hrec_0:=hrec_0.stp hs rfl
    have b126:=b126.stp hs rfl
    have l5:=l5.stp hs rfl
    have o0:=o0.stp hs
    refine Ze .plain rfl (D_storeOc (g:=mG) (v:=.int .i64 (0)) Try.sizeOf42 rA l5 rfl (Zj.2 rfl) fun pI qI hs b128 cb=>?_)
    clear cb
    have hfr:=hfr.stp hs
    have hmk:=hmk.stp hs
    have u3:=u3.stp hs
    have hrec_0:=hrec_0.stp hs rfl
    have b126:=b126.stp hs rfl
    have b127:=b127.stp hs rfl
    have o0:=o0.stp hs
    refine Zb (Zd (E_ret (blk_r ?_)))
    obtain ⟨rfl,rfl⟩:=pairs2 h
    exact ⟨_,u3,⟨hfr,hmk,b126,b127,b128,o0⟩,hrec_0,rfl,0,rfl,rfl⟩
   ·intro sG sI ds130 hsz hR hds
    obtain ⟨hfr,hmk,m8,n8,r8,aH⟩:=hR
    obtain ⟨D,hdse,hD,hDb⟩:=hds.1 rfl
    subst hdse
    replace hmk:=MkF.push hmk0 hmk hD hDb
    clear hD hDb hds
    revert hmk
    generalize ({ target:=.collected D,args:=#[] } :: mB:List Deferred)=tH
    intro hmk
    refine ⟨fun hs=>?_,fun k c hs hc=>?_⟩
    ·have hs : m7 = 0 := hs
     subst hs
     replace h:=cond_t h rfl
     exact blk_n (Zd (yF (g8,k8,l8) _ _ _ ⟨sG,hfr,hmk,y9,m8,bA,n8,rA,r8⟩ h))
    ·have hs : m7 = k + 1 := hs
     match k,hs,hc with
     | 0,hs,hc=>
      subst hs
      obtain rfl:=sinj hc
      replace h:=cond_f h rfl
      refine E_ret (blk_r ?_)
      refine thn_r ?_
      refine endM (.inr rfl) hmk fun tI uI hs=>?_
      have hfr:=hfr.stp hs
      have m8:=m8.stp hs rfl
      have n8:=n8.stp hs rfl
      have r8:=r8.stp hs rfl
      obtain rfl:=sinj h
      obtain ⟨ad132,cv132,hp132,yD,cr132⟩:=ob_read Try.isAgg3 Try.sizeOf3 m8
      obtain rfl:=Zj.1 cr132
      obtain ⟨ad133,cv133,hp133,zD,cr133⟩:=ob_read Try.isAgg3 Try.sizeOf3 n8
      obtain rfl:=Zj.1 cr133
      obtain ⟨ad134,cv134,hp134,aE,cr134⟩:=ob_read Try.isAgg42 Try.sizeOf42 r8
      obtain rfl:=Zj.1 cr134
      exact endm_ccc rfl rfl ((show _=p4 from y9).trans hp132) yD ((show _=p5 from bA).trans hp133) zD ((show _=p6 from rA).trans hp134) aE ⟨_,hfr,_,_,_,rfl,rfl,rfl,rfl⟩
     | n + 1,_,hc=>exact absurd hc (by simp)
  ·rintro ⟨mC, qC, rC⟩ yH uH vI ⟨xG, hfr, hmk, aB, oD, dB, d9, iB, x6⟩ h
   refine Zf (Za (Ze .plain rfl (D_storeOc (g:=xG) (v:=.int .i64 (0)) Try.sizeOf3 aB oD rfl (Zj.2 rfl) fun yG yI hs b136 cb=>?_)))
   clear cb
   have hfr:=hfr.stp hs
   have hmk:=hmk.stp hs
   have d9:=d9.stp hs rfl
   have x6:=x6.stp hs rfl
   refine Ze .plain rfl (D_storeOc (g:=yG) (v:=.int .i64 (0)) Try.sizeOf3 dB d9 rfl (Zj.2 rfl) fun zG zI hs b137 cb=>?_)
   clear cb
   have hfr:=hfr.stp hs
   have hmk:=hmk.stp hs
   have b136:=b136.stp hs rfl
   have x6:=x6.stp hs rfl
   refine Ze .plain rfl (D_storeOc (g:=zG) (v:=.int .i64 (7)) Try.sizeOf42 iB x6 rfl (Zj.2 rfl) fun eJ gJ hs b138 cb=>?_)
   clear cb
   have hfr:=hfr.stp hs
   have hmk:=hmk.stp hs
   have b136:=b136.stp hs rfl
   have b137:=b137.stp hs rfl
   refine Zb (Zd (E_ret (endM (.inr rfl) hmk fun iJ jJ hs=>?_)))
   have hfr:=hfr.stp hs
   have b136:=b136.stp hs rfl
   have b137:=b137.stp hs rfl
   have b138:=b138.stp hs rfl
   obtain rfl:=sinj h
   obtain ⟨ad140,cv140,hp140,bE,cr140⟩:=ob_read Try.isAgg3 Try.sizeOf3 b136
   obtain rfl:=Zj.1 cr140
   obtain ⟨ad141,cv141,hp141,iE,cr141⟩:=ob_read Try.isAgg3 Try.sizeOf3 b137
   obtain rfl:=Zj.1 cr141
   obtain ⟨ad142,cv142,hp142,lE,cr142⟩:=ob_read Try.isAgg42 Try.sizeOf42 b138
   obtain rfl:=Zj.1 cr142
   exact endm_ccc rfl rfl ((show _=p4 from aB).trans hp140) bE ((show _=p5 from dB).trans hp141) iE ((show _=p6 from iB).trans hp142) lE ⟨_,hfr,_,_,_,rfl,rfl,rfl,rfl⟩
def f96 (x0:FaultFaultLoom) (σ:Type) (cons:Cons σ (Zv × (List Str))) (s0:σ):Option σ:=
 (f74 x0 ([])).bind fun y5=>
 ((fun σ cons s=>f170 x0 σ cons s) (Nat × σ) (guardC fun i7 i6=>
  (f74 x0 (([i6]:List Zv))).bind fun y44=>
  Option.bind (α:=σ × Bool) (
   (f171 y44 y5).bind fun y55=>
   bif (!y55) then
    (cons i7 (i6,y44)).bind fun (yb59,ys59)=>
    some (ys59,(!yb59))
   else
    some (i7,false)
   ) fun (cs_61,s26_61)=>
  bif s26_61 then
   some (false,((1:Nat),(cs_61)))
  else
   some (true,((0:Nat),(cs_61)))
  ) (0,(s0))).bind fun (x6,m7)=>
 bif Nat.beq x6 0 then
  some m7
 else
  some m7
theorem en96:Enters Try.prog 96:=enters_of Try.func96 (by kernel_rfl) rfl
theorem wk96 {σ:Type} {cons:Cons σ (Zv × (List Str))} {s0 r:σ} {gI:Gh} {wI:World} {x0:FaultFaultLoom} {up0:Value} (rp0:RV gI.m wI x0 up0) (h:f96 x0 σ cons s0=some r):IterC Try.prog (RA2 (α:=Zv) (β:=(List Str))) 96 #[up0] #[] gI wI cons s0 r:=by
 unfold f96 at h
 refine iterD_of_E Try.func96 rfl (Nat.le_of_ble_eq_true rfl) fun l B J g0 hm hAb hRo hfr=>?_
 have hmk:MkF g0 wI []:=MkF.start
 have rp0:RV g0.m wI x0 up0:=hm ▸ rp0
 show E _ 27 none _ _ (envAt #[up0,.func (.yield l) #[] #[]]) _ _
 refine Zf (Za (Ze .plain rfl (D_box (g:=g0) rfl rp0 fun g1 w1 p1 hs q1=>?_)))
 have hfr:=hfr.ext_ hAb hs
 have hmk:=hmk.ext hs
 refine Ze .plain rfl (D_box (g:=g1) (a:=(⟨(.func (.yield l) #[] #[]),rfl⟩:Fv)) rfl (RV_fv.2 rfl) fun g2 w2 p2 hs q2=>?_)
 have hfr:=hfr.ext_ hAb hs
 have hmk:=hmk.ext hs
 have q1:=q1.ext hs
 refine Zb (Zd (Zf (Za (Ze .plain rfl (D_load (g:=g2) Try.isAgg170 Try.sizeOf170 rfl q1 fun v3 r3=>?_)))))
 obtain ⟨y5,hy5,h⟩:=Ge h
 refine Ze .plain rfl (Zp (g:=g2) (vs:=[v3,.slice none 0 0]) en74 (.cons rfl (.cons rfl .nil)) (wk74 r3 RV_nil hy5) fun g4 w4_ v4 hs hr=>?_)
 have hfr:=hfr.ext_ hAb hs
 have hmk:=hmk.ext hs
 have q1:=q1.ext hs
 have q2:=q2.ext hs
 have r4:=hr
 refine Ze .plain rfl (D_allocOc (g:=g4) 2004 ([]:List Str) Try.zeroValue50 (fun m w=>⟨_,rep_nil,rfl⟩) fun g6 w6 p6 hs b6 cb=>?_)
 have hfr:=hfr.stp_ hAb hs rfl
 have hmk:=hmk.stp hs
 have q1:=q1.stp hs
 have q2:=q2.stp hs
 have r4:=r4.stp hs
 have nD:OSF 2004 60400 0 g6 w6 9 50 ([]:List Str) p6:=cb.osf (by rfl)
 clear cb
 refine Ze .plain rfl (D_storeOc (g:=g6) (v:=v4) Try.sizeOf50 rfl b6 rfl r4 fun g7 w7 hs b7 cb=>?_)
 clear cb
 have hfr:=hfr.stp_ hAb hs rfl
 have hmk:=hmk.stp hs
 have q1:=q1.stp hs
 have q2:=q2.stp hs
 refine Zb (Zd (Zf (Za (Ze .plain rfl (D_load (g:=g7) Try.isAgg170 Try.sizeOf170 rfl q1 fun v8 r8=>?_)))))
 refine Ga ((.func (.func 170) #[v8] #[])) (P_makeFunc (capf_1_0 (show ev _ _=v8 from rfl))) rfl ?_
 refine Zb (Zd (Zr ?_))
 have hB0:=hfr.hB
 have hmk0:=hmk
 obtain ⟨⟨x6,m7⟩,hφ,h⟩:=Ge h
 refine E_rangeFunc (σ:=(Nat × σ)) (s0:=(0,(s0))) 10 rfl (fun s=>s.1) [.ret] (fun (s:Nat × σ) (g:Gh) (w:World)=>FrY gI wI B J (s.2) g w∧MkF g w []∧PT g.m w (x0:FaultFaultLoom) p1∧PT g.m w (⟨(.func (.yield l) #[] #[]),rfl⟩:Fv) p2∧OB 2004 g w 50 (y5:List Str) p6) rfl (show ItV Try.prog (RA1 (α:=Zv)) (fun σ cons s=>f170 x0 σ cons s) ((.func (.func 170) #[v8] #[])) g7.m w7 from ⟨170,#[v8],#[],rfl,en170,fun g' w' hch σ cons s s' h=>wk170 (r8.ch hch)  h⟩) hφ (fun _ _ _ h=>(guardC_h h).1) rfl ra1_size rfl (fun _ _ _ _ _ hx hR=>by obtain ⟨hfr,hmk,z2,z3,z4⟩:=hR; exact ⟨hfr.ist_ hAb hx hB0,hmk.ist hx,z2.ist hx,z3.ist hx,z4.ist hx⟩) (fun _ _ _ _ _ hx hR=>by obtain ⟨hfr,hmk,z2,z3,z4⟩:=hR; exact ⟨hfr.stp_ hAb hx rfl,hmk.stp hx,z2.stp hx,z3.stp hx,z4.stp hx rfl⟩) ⟨hfr,hmk,q1,q2,b7⟩ (fun _ h=>by cases h) ?_ ?_
 ·intro aB y9 s x b s2 k9 bA vs hsz h hR hrec_0 l9 hrd
  obtain ⟨hs0,h⟩:=guardC_h h
  obtain ⟨st,i7⟩:=s
  obtain ⟨hfr,hmk,u3,l5,t5⟩:=hR
  obtain ⟨i6,hxe⟩:∃ y,y=x:=⟨x,rfl⟩
  subst hxe
  obtain ⟨z9,rfl,y6⟩:=ra1_get hrd
  have o0:=RFr.refl k9 bA
  refine Za (Ze .plain rfl (D_allocOc (g:=k9) 2005 (⟨0,0,0,0,false⟩:Zv) Try.zeroValue56 (fun m w=>⟨_,(rep_two Zy (rep_two Zy (rep_two Zy (rep_two Zy rep_bool)))),rfl⟩) fun mB uD vD hs b37 cb=>?_))
  have hfr:=hfr.stp_ hAb hs rfl
  have hmk:=hmk.stp hs
  have o0:=o0.stp hs
  have hrec_0:=hrec_0.stp hs rfl
  have u3:=u3.stp hs
  have l5:=l5.stp hs
  have t5:=t5.stp hs rfl
  have y6:=y6.stp hs
  clear cb
  refine Ze .plain rfl (D_storeOc (g:=mB) (v:=z9) Try.sizeOf56 rfl b37 rfl y6 fun n9 xD hs b38 cb=>?_)
  clear cb
  have hfr:=hfr.stp_ hAb hs rfl
  have hmk:=hmk.stp hs
  have o0:=o0.stp hs
  have hrec_0:=hrec_0.stp hs rfl
  have u3:=u3.stp hs
  have l5:=l5.stp hs
  have t5:=t5.stp hs rfl
  refine Zb (Zd ?_)
  obtain ⟨nB,hbr,hs,hrN⟩:=begin_round hrec_0 l9
  refine ⟨nB,hbr,?_⟩
  have hfr:=hfr.stp_ hAb hs rfl
  have hmk:=hmk.stp hs
  have o0:=o0.stp hs
  have u3:=u3.stp hs
  have l5:=l5.stp hs
  have t5:=t5.stp hs rfl
  have b38:=b38.stp hs rfl
  have hrec_0:=hrN
  clear hbr hs hrN
  refine Zr ?_
  refine Zf (Za (Ze .plain rfl (D_load (g:=n9) Try.isAgg170 Try.sizeOf170 rfl u3 fun oB u9=>?_)))
  refine Ze .plain rfl (D_loadO (g:=n9) Try.isAgg56 Try.sizeOf56 rfl b38 fun tB vB=>?_)
  refine Ze .plain rfl (D_buildSlice (g:=n9) 3014 (xs:=([i6]:List Zv)) (vs:=[tB]) Try.underlying57 Try.sizeOf56 Try.zeroValue56 rfl rfl (.cons rfl .nil) (RVs.cons vB RVs.nil) rfl rfl fun yB yD zB hs o42 cC hxt hfl=>?_)
  have hfr:=hfr.stp_ hAb hs rfl
  have hmk:=hmk.stp hs
  have o0:=o0.stp hs
  have hrec_0:=hrec_0.stp hs rfl
  have u3:=u3.stp hs
  have l5:=l5.stp hs
  have t5:=t5.stp hs rfl
  have b38:=b38.stp hs rfl
  have u9:=u9.stp hs
  obtain ⟨y44,dB,h⟩:=Ge h
  refine Ze .plain rfl (Zp (g:=yB) (vs:=[oB,zB]) en74 (.cons rfl (.cons rfl .nil)) (wk74 u9 cC dB) fun iA oD l8 hs hr=>?_)
  have hfr:=hfr.ext_ hAb hs
  have hmk:=hmk.ext hs
  have o0:=o0.ext hs
  have hrec_0:=hrec_0.ext hs
  have u3:=u3.ext hs
  have l5:=l5.ext hs
  have t5:=t5.ext hs
  have b38:=b38.ext hs
  have m8:=hr
  refine Zg l8 rfl rfl ?_
  refine Zb (Zd ?_)
  obtain ⟨⟨cs_61,s26_61⟩,hx,h⟩:=Ge h
  refine E_join (fun e w=>∃ (g:Gh) ,FrY gI wI B J (cs_61) g w∧MkF g w []∧RFr k9 bA g w∧HB 10 g w aB (.loop { y9 with state:=.busy })∧e 2=p1∧PT g.m w (x0:FaultFaultLoom) p1∧e 3=p2∧PT g.m w (⟨(.func (.yield l) #[] #[]),rfl⟩:Fv) p2∧e 4=p6∧OB 2004 g w 50 (y5:List Str) p6∧e 10=(.func (.func 170) #[v8] #[])∧e 26=.bool (s26_61)) (fun Q' hQ=>?_) (fun sD zD hR=>?_)
  ·replace h := hx
   clear hx
   refine Za (Zn l8 rfl rfl ?_)
   refine Ze .plain rfl (D_loadO (g:=iA) Try.isAgg50 Try.sizeOf50 rfl t5 fun mC qC=>?_)
   obtain ⟨y55,iB,h⟩:=Ge h
   refine Ze .plain rfl (Zp (g:=iA) (vs:=[l8,mC]) en171 (.cons rfl (.cons rfl .nil)) (wk171 m8 qC iB) fun n8 tD aE hs hr=>?_)
   have hfr:=hfr.ext_ hAb hs
   have hmk:=hmk.ext hs
   have o0:=o0.ext hs
   have hrec_0:=hrec_0.ext hs
   have u3:=u3.ext hs
   have l5:=l5.ext hs
   have t5:=t5.ext hs
   have b38:=b38.ext hs
   have m8:=m8.ext hs
   subst hr
   refine Ga (.bool (!y55)) (P_not rfl) rfl ?_
   refine Zn (.bool (!y55)) rfl rfl ?_
   rcases Zt h with ⟨x5,h⟩ | ⟨x5,h⟩
   ·refine Ze (.yes2 rfl rfl x5) rfl (D_load (α := Fv) (g := n8) Try.isAgg313 Try.sizeOf313 rfl l5 fun rA yA => ?_)
    have e57:rA=(.func (.yield l) #[] #[]):=RV_fv.1 yA
    clear yA
    subst rA
    refine Ze (.yes2 rfl rfl x5) rfl (D_loadO (g:=n8) Try.isAgg56 Try.sizeOf56 rfl b38 fun bE rC=>?_)
    refine Gb l8 (Zk rfl) rfl rfl x5 rfl ?_
    obtain ⟨uC,lB,h⟩:=Ge h
    obtain ⟨yb59,ys59⟩:=uC
    refine Ze (.yes2 rfl rfl x5) rfl (D_yield (g:=n8) (x:=(i6,y44)) rfl (.cons rfl (.cons rfl .nil)) hRo hfr lB ⟨_,_,rfl,rC,m8⟩ fun vC iE hs hfrY=>?_)
    have hmk:=hmk.stp hs
    have o0:=o0.stp hs
    have hrec_0:=hrec_0.stp hs rfl
    have u3:=u3.stp hs
    have l5:=l5.stp hs
    have t5:=t5.stp hs rfl
    have hfr:=hfrY
    clear hfrY
    refine Gb (.bool (!yb59)) (P_not rfl) rfl rfl x5 rfl ?_
    refine Ga (.bool (!yb59)) (Zl (b:=(!y55)) rfl (pick_t x5 rfl)) rfl ?_
    refine Zb ?_
    obtain ⟨rfl,rfl⟩:=pairs2 h
    exact hQ _ _ ⟨vC,hfr,hmk,o0,hrec_0,rfl,u3,rfl,l5,rfl,t5,rfl,rfl⟩
   ·refine Gc rfl rfl x5 rfl rfl ?_
    iterate 4 refine Gc rfl rfl x5 rfl rfl ?_
    refine Ga (.bool false) (Zl (b:=(!y55)) rfl (pick_f x5 rfl)) rfl ?_
    refine Zb ?_
    obtain ⟨rfl,rfl⟩:=pairs2 h
    exact hQ _ _ ⟨n8,hfr,hmk,o0,hrec_0,rfl,u3,rfl,l5,rfl,t5,rfl,rfl⟩
  ·clear hx
   obtain ⟨lE,hfr,hmk,o0,hrec_0,bD,x8,cD,a9,eD,d9,aD,g8⟩:=hR
   rcases Zt h with ⟨k8,h⟩ | ⟨k8,h⟩
   ·refine E_cond_true (Eq.trans (show ev _ _ = .bool (s26_61) from g8) (congrArg Value.bool k8)) ?_
    refine E_ret (blk_r ?_)
    obtain ⟨rfl,rfl⟩:=pairs2 h
    exact ⟨_,o0,⟨hfr,hmk,x8,a9,d9⟩,hrec_0,rfl,0,rfl,rfl⟩
   ·refine E_cond_false (Eq.trans (show ev _ _ = .bool (s26_61) from g8) (congrArg Value.bool k8)) ?_
    refine Zu (blk_n ?_)
    obtain ⟨rfl,rfl⟩:=pairs2 h
    exact ⟨_,o0,⟨hfr,hmk,x8,a9,d9⟩,hrec_0,rfl,rfl⟩
 ·intro mE oE ds65 hsz hR hds
  obtain ⟨hfr,hmk,gD,iD,jD⟩:=hR
  obtain ⟨D,hdse,hD,hDb⟩:=hds.1 rfl
  subst hdse
  replace hmk:=MkF.push hmk0 hmk hD hDb
  clear hD hDb hds
  revert hmk
  generalize ({ target:=.collected D,args:=#[] } :: []:List Deferred)=lD
  intro hmk
  refine ⟨fun hs=>?_,fun k c hs hc=>?_⟩
  ·have hs : x6 = 0 := hs
   subst hs
   replace h:=cond_t h rfl
   refine blk_n (endM (.inl rfl) hmk fun rE uE hs=>?_)
   have hfr:=hfr.stp_ hAb hs rfl
   obtain rfl:=sinj h
   exact end0n rfl rfl (FrY.done hfr)
  ·have hs : x6 = k + 1 := hs
   match k,hs,hc with
   | 0,hs,hc=>
    subst hs
    obtain rfl:=sinj hc
    replace h:=cond_f h rfl
    refine E_ret (blk_r ?_)
    refine endM (.inr rfl) hmk fun vE xE hs=>?_
    have hfr:=hfr.stp_ hAb hs rfl
    obtain rfl:=sinj h
    exact end0 rfl rfl (FrY.done hfr)
   | n + 1,_,hc=>exact absurd hc (by simp)
def f10 (x0:BoxLoom) (x1:List Int):Option ((List BoxPick) × Int × Int × Int):=
 (f62 x0).bind fun y4=>
 jn (σ:=(List BoxPick)) (fun cG=>
  (f64 x1).bind fun rA=>
  (f65 (y4.1) ((fun a0 a1=>f66 a0 a1))).bind fun y23=>
  jn (σ:=(List BoxPick)) (fun eG=>
   (f67 (y4.1)).bind fun qC=>
   (f68 big qC (([]:List (BoxPoint × Int))) rA ((⟨0,0,y23⟩:BoxPoint))).bind fun rC=>
   Option.bind (α:=(List BoxPick) × (List (BoxPoint × Int))) (
    lp (σ:=(List BoxPick) × BoxPoint × (List (BoxPoint × Int))) (fun cH (lB,yA,n8)=>
     jn (σ:=Unit) (fun _=>
      Option.bind (α:=(List BoxPick) × BoxPoint × (List (BoxPoint × Int))) (
       (f69 qC n8 rA yA).bind fun iD=>
       (apnd 16 lB (([iD.1]:List BoxPick))).bind fun dH=>
       some (dH,iD.2.1,iD.2.2)
       ) fun (mB,mC,r8)=>
      cH (mB,mC,r8)
      ) fun gH=>
     bif (decide ((yA).group < ((rA).length : Int))) then
      gH ()
     else
      some (lB,n8)
     ) big (eG,(⟨0,0,y23⟩:BoxPoint),rC.2)
    ) fun (bD,uC)=>
   some (bD,rC.1,(0:Int),(0:Int))
   ) fun aK=>
  lp (σ:=(List BoxPick) × Int) (fun bK (cD,i6)=>
   bif (decide (i6 < ((x1).length : Int))) then
    jn (σ:=(List BoxPick)) (fun yD=>
     bK (yD,(w64 (i6 + (1:Int))))
     ) fun cK=>
    (f67 (y4.1)).bind fun dK=>
    (cut rA 0 (w64 (i6 + (1:Int)))).bind fun y84=>
    (f68 big dK (([]:List (BoxPoint × Int))) y84 ((⟨0,0,y23⟩:BoxPoint))).bind fun iH=>
    bif (decide (iH.1 ≥ (1073741824 : Int))) then
     some ([],(0:Int),i6,(9:Int))
    else
     cK (cD)
   else
    aK (cD)
   ) big (cG,(0:Int))
  ) fun lK=>
 bif (y4.2 != (0 : Int)) then
  some ([],(0:Int),(0:Int),y4.2)
 else
  bif (decide (((x1).length : Int) > (24 : Int))) then
   some ([],(0:Int),(0:Int),(5:Int))
  else
   (f63 x1).bind fun gG=>
   bif (!gG) then
    some ([],(0:Int),(0:Int),(2:Int))
   else
    lK ([])
theorem en10:Enters Try.prog 10:=enters_of Try.func10 (by kernel_rfl) rfl
theorem wk10 {gI:Gh} {wI:World} {x0:BoxLoom} {x1:List Int} {up0:Value} (rp0:RV gI.m wI x0 up0) {up1:Value} (rp1:RV gI.m wI x1 up1) {r:(List BoxPick) × Int × Int × Int} (h:f10 x0 x1=some r):Fn Try.prog 10 #[up0,up1] gI wI (fun m w v=>∃ y0 y1 y2 y3,v=.tuple #[y0,y1,y2,y3]∧RV m w (r.1) y0∧y1=.int .i64 (r.2.1)∧y2=.int .i64 (r.2.2.1)∧y3=.int .i64 (r.2.2.2)):=by
 unfold f10 at h
 refine fn_of_E Try.func10 rfl (Nat.le_of_ble_eq_true rfl) fun g0 hm hfr=>?_
 have rp0:RV g0.m wI x0 up0:=hm ▸ rp0
 have rp1:RV g0.m wI x1 up1:=hm ▸ rp1
 show E _ 81 none _ _ _ _ _
 refine Zf (Za (Ze .plain rfl (D_box (g:=g0) rfl rp0 fun g1 w1 p1 hs q1=>?_)))
 have hfr:=hfr.ext hs
 have rp1:=rp1.ext hs
 refine Zg (.slice none 0 0) rfl rfl ?_
 iterate 3 refine Zg (.int .i64 (0)) rfl rfl ?_
 refine Zb (Zd (Zf (Za (Ze .plain rfl (D_load (g:=g1) Try.isAgg40 Try.sizeOf40 rfl q1 fun v2 r2=>?_)))))
 obtain ⟨y4,qM,h⟩:=Ge h
 refine Ze .plain rfl (Zp (g:=g1) (vs:=[v2]) en62 (.cons rfl .nil) (wk62 r2 qM) fun g3 w3_ v3 hs hr=>?_)
 have hfr:=hfr.ext hs
 have rp1:=rp1.ext hs
 obtain ⟨cF,sN,rfl,dF,rfl⟩:=hr
 refine Zn (.tuple #[cF,.int .i64 (y4.2)]) rfl rfl ?_
 refine Ga cF (Zi rfl rfl) rfl ?_
 refine Ga (.int .i64 (y4.2)) (Zi rfl rfl) rfl ?_
 refine Ze .plain rfl (D_allocOc (g:=g3) 2008 (⟨⟨[],[],[]⟩⟩:BoxBoxLoom) Try.zeroValue142 (fun m w=>⟨_,(rep_two rep_nil (rep_two rep_nil rep_nil)),rfl⟩) fun g5 w5 p5 hs b5 cb=>?_)
 have hfr:=hfr.stp hs
 have rp1:=rp1.stp hs
 have dF:=dF.stp hs
 have tN:OSF 2008 60800 0 g5 w5 3 142 ([]:List Int) p5:=cb.osf (by rfl)
 have uN:OSF 2008 60801 1 g5 w5 3 142 ([]:List Int) p5:=cb.osf (by rfl)
 have vN:OSF 2008 60802 2 g5 w5 37 142 ([]:List Zw) p5:=cb.osf (by rfl)
 clear cb
 refine Ze .plain rfl (D_storeOc (g:=g5) (v:=cF) Try.sizeOf142 rfl b5 rfl dF fun g6 w6 hs b6 cb=>?_)
 clear cb
 have hfr:=hfr.stp hs
 have rp1:=rp1.stp hs
 refine Zg (.int .i64 (y4.2)) rfl rfl ?_
 refine Zb (Zd (Zq h (fun (s:(List BoxPick)) e w=>∃ (g:Gh) (v4:Value),Fr gI wI g w∧e 1=up1∧RV g.m w (x1:List Int) up1∧e 4=v4∧RV g.m w (s:List BoxPick) v4∧OS 1004 g w 151 (s:List BoxPick) v4∧e 8=p5∧OB 2008 g w 142 (y4.1:BoxBoxLoom) p5) (fun X12 lK zK h=>?_) ?_))
 ·refine Zr ?_
  refine Zf (Za (Zn (.int .i64 (y4.2)) rfl rfl ?_))
  refine EL_in (.bool ((y4.2 != (0:Int)))) rfl rfl rfl rfl ?_
  refine Zg (.bool ((y4.2 != (0:Int)))) rfl rfl ?_
  refine Zb (Zd ?_)
  rcases Zt h with ⟨eF,h⟩ | ⟨eF,h⟩
  ·refine E_ct eF rfl ?_
   refine Zf (Za (Zn (.int .i64 (y4.2)) rfl rfl ?_))
   refine Zg (.slice none 0 0) rfl rfl ?_
   refine Zg (.int .i64 (0)) rfl rfl ?_
   refine Zg (.int .i64 (0)) rfl rfl ?_
   refine Zg (.int .i64 (y4.2)) rfl rfl ?_
   refine Zb (Zd (E_ret (blk_r ?_)))
   refine thn_r ?_
   obtain rfl:=sinj h
   exact end4 rfl rfl (show _=.slice none 0 0 from rfl) (show _=.int .i64 (0) from rfl) (show _=.int .i64 (0) from rfl) (show _=.int .i64 (y4.2) from rfl) ⟨_,hfr,_,_,_,_,rfl,RV_nil,rfl,rfl,rfl⟩
  ·refine E_cf eF rfl ?_
   refine Zf (Za (Zn up1 rfl rfl ?_))
   refine Ga (.int .i64 ((x1).length:Int)) (P_len Try.underlying26 rfl rp1) rfl ?_
   refine EL_in (.bool ((decide (((x1).length:Int) > (24:Int))))) rfl rfl rfl rfl ?_
   refine Zg (.bool ((decide (((x1).length:Int) > (24:Int))))) rfl rfl ?_
   refine Zb (Zd ?_)
   rcases Zt h with ⟨rF,h⟩ | ⟨rF,h⟩
   ·refine E_ct rF rfl ?_
    refine Zf (Za (Zg (.slice none 0 0) rfl rfl ?_))
    refine Zg (.int .i64 (0)) rfl rfl ?_
    refine Zg (.int .i64 (0)) rfl rfl ?_
    refine Zg (.int .i64 (5)) rfl rfl ?_
    refine Zb (Zd (E_ret (blk_r ?_)))
    refine thn_r ?_
    obtain rfl:=sinj h
    exact end4 rfl rfl (show _=.slice none 0 0 from rfl) (show _=.int .i64 (0) from rfl) (show _=.int .i64 (0) from rfl) (show _=.int .i64 (5) from rfl) ⟨_,hfr,_,_,_,_,rfl,RV_nil,rfl,rfl,rfl⟩
   ·refine E_cf rF rfl ?_
    refine Zf (Za (Zn up1 rfl rfl ?_))
    obtain ⟨gG,aL,h⟩:=Ge h
    refine Ze .plain rfl (Zp (g:=g6) (vs:=[up1]) en63 (.cons rfl .nil) (wk63 rp1 aL) fun rM xN iP hs hr=>?_)
    have hfr:=hfr.ext hs
    have rp1:=rp1.ext hs
    have b6:=b6.ext hs
    subst hr
    refine Ga (.bool (!gG)) (P_not rfl) rfl ?_
    refine Zg (.bool (!gG)) rfl rfl ?_
    refine Zb (Zd ?_)
    rcases Zt h with ⟨sF,h⟩ | ⟨sF,h⟩
    ·refine E_ct sF rfl ?_
     refine Zf (Za (Zg (.slice none 0 0) rfl rfl ?_))
     refine Zg (.int .i64 (0)) rfl rfl ?_
     refine Zg (.int .i64 (0)) rfl rfl ?_
     refine Zg (.int .i64 (2)) rfl rfl ?_
     refine Zb (Zd (E_ret (blk_r ?_)))
     refine thn_r ?_
     obtain rfl:=sinj h
     exact end4 rfl rfl (show _=.slice none 0 0 from rfl) (show _=.int .i64 (0) from rfl) (show _=.int .i64 (0) from rfl) (show _=.int .i64 (2) from rfl) ⟨_,hfr,_,_,_,_,rfl,RV_nil,rfl,rfl,rfl⟩
    ·refine E_cf sF rfl ?_
     exact Zu (blk_n (Zd (zK ([]) _ _ ⟨rM,(.slice none 0 0),hfr,rfl,rp1,rfl,RV_nil,OS.nil,rfl,b6⟩ h)))
 ·rintro cG yN jP ⟨sM, vI, hfr, hG, v8, yI, k9, l9, iG, x8⟩ h
  refine Zf (Za (Zo hG rfl ?_))
  obtain ⟨rA,hy20,h⟩:=Ge h
  refine Ze .plain rfl (Zp (g:=sM) (vs:=[up1]) en64 (.cons rfl .nil) (wk64 v8 hy20) fun mK zN l8 hs hr=>?_)
  have hfr:=hfr.ext hs
  have v8:=v8.ext hs
  have k9:=k9.ext hs
  have l9:=l9.ext hs
  have x8:=x8.ext hs
  have jD:=hr
  refine Zg l8 rfl rfl ?_
  refine Zb (Zd (Zf (Za (Ze .plain rfl (D_loadO (g:=mK) Try.isAgg142 Try.sizeOf142 iG x8 fun tM uM=>?_)))))
  obtain ⟨y23,bL,h⟩:=Ge h
  refine Ze .plain rfl (Zp (g:=mK) (vs:=[tM,.func (.func 66) #[] #[]]) en65 (.cons rfl (.cons rfl .nil)) (wk65 uM ⟨66,#[],#[],rfl,en66,fun g' w' hch a0 a1 b0 b1 r hu0 hu1 hr=>by obtain rfl:=Zj.1 hu0; exact Fn.mono (wk66 hu1  hr) fun _ _ _ h=>Zj.2 h⟩ bL) fun nK aO jH hs hr=>?_)
  have hfr:=hfr.ext hs
  have v8:=v8.ext hs
  have k9:=k9.ext hs
  have l9:=l9.ext hs
  have x8:=x8.ext hs
  have jD:=jD.ext hs
  have oK:=hr
  have jG:RV nK.m _ (⟨0,0,y23⟩:BoxPoint) (.agg (setCh [[.int .i64 0],[.int .i64 0],[.int .i64 0,.int .i64 0,.int .i64 0,.int .i64 0,.int .i64 0,.int .i64 0,.int .i64 0,.int .i64 0,.int .i64 0,.int .i64 0]] [(2,jH)]).flatten.toArray):=RV_build rfl (rep_pair (Zy) (rep_pair (Zy) (rep_last (RV.cells oK))))
  generalize dL:(Value.agg (setCh [[.int .i64 0],[.int .i64 0],[.int .i64 0,.int .i64 0,.int .i64 0,.int .i64 0,.int .i64 0,.int .i64 0,.int .i64 0,.int .i64 0,.int .i64 0,.int .i64 0]] [(2,jH)]).flatten.toArray)=pK at jG
  refine Ga pK (dL ▸ P_build (vs:=[(2,jH)]) [[.int .i64 0],[.int .i64 0],[.int .i64 0,.int .i64 0,.int .i64 0,.int .i64 0,.int .i64 0,.int .i64 0,.int .i64 0,.int .i64 0,.int .i64 0,.int .i64 0]] lay_157 rfl rfl (.cons rfl .nil) ⟨⟨_,rfl,cells_size oK⟩,trivial⟩) rfl ?_
  refine Ze .plain rfl (D_allocOc (g:=nK) 2010 (⟨0,0,⟨(⟨List.toArray [(⟨List.toArray [0,0,0,0],rfl⟩:Vector Int 4),(⟨List.toArray [0,0,0,0],rfl⟩:Vector Int 4)],rfl⟩:Vector (Vector Int 4) 2),⟨0,0⟩⟩⟩:BoxPoint) Try.zeroValue157 (fun m w=>⟨_,(rep_two Zy (rep_two Zy (rep_two (rep_vec (Zx (rep_vec (Zx Zy (Zx Zy (Zx Zy (Zx Zy flat_nil)))) rfl) (Zx (rep_vec (Zx Zy (Zx Zy (Zx Zy (Zx Zy flat_nil)))) rfl) flat_nil)) rfl) (rep_two Zy Zy)))),rfl⟩) fun vM kP uD hs b25 cb=>?_)
  have hfr:=hfr.stp hs
  have v8:=v8.stp hs
  have k9:=k9.stp hs
  have l9:=l9.stp hs rfl
  have x8:=x8.stp hs rfl
  have jD:=jD.stp hs
  have jG:=jG.stp hs
  clear cb
  refine Ze .plain rfl (D_storeOc (g:=vM) (v:=pK) Try.sizeOf157 rfl b25 rfl jG fun xM lP hs b26 cb=>?_)
  clear cb
  have hfr:=hfr.stp hs
  have v8:=v8.stp hs
  have k9:=k9.stp hs
  have l9:=l9.stp hs rfl
  have x8:=x8.stp hs rfl
  have jD:=jD.stp hs
  refine Zb (Zd (Zq h (fun (s:(List BoxPick)) e w=>∃ (g:Gh) (v4:Value),Fr gI wI g w∧e 4=v4∧RV g.m w (s:List BoxPick) v4∧OS 1004 g w 151 (s:List BoxPick) v4∧e 8=p5∧OB 2008 g w 142 (y4.1:BoxBoxLoom) p5∧e 9=l8∧RV g.m w (rA:List (List Int)) l8∧e 10=uD∧OB 2010 g w 157 ((⟨0,0,y23⟩:BoxPoint):BoxPoint) uD) (fun X58 aK eL h=>?_) ?_))
  ·refine Zf (Za (Zo hG rfl ?_))
   refine Ga (.int .i64 ((x1).length:Int)) (P_len Try.underlying26 rfl v8) rfl ?_
   refine Zn (.int .i64 (0)) rfl rfl ?_
   refine Zb (Zd (Zr ?_))
   refine E_lp h (fun (s:(List BoxPick) × Int) e w=>∃ (g:Gh) (v4:Value),Fr gI wI g w∧e 4=v4∧RV g.m w (s.1:List BoxPick) v4∧OS 1004 g w 151 (s.1:List BoxPick) v4∧e 8=p5∧OB 2008 g w 142 (y4.1:BoxBoxLoom) p5∧e 9=l8∧RV g.m w (rA:List (List Int)) l8∧e 10=uD∧OB 2010 g w 157 ((⟨0,0,y23⟩:BoxPoint):BoxPoint) uD∧e 39=.int .i64 (((x1).length:Int))∧e 40=.int .i64 (s.2)) ⟨xM,(vI),hfr,yI,k9,l9,iG,x8,rfl,jD,rfl,b26,rfl,rfl⟩ (fun X59 bK gL=>?_)
   rintro ⟨cD,i6⟩ bO bN ⟨kH,kG,hfr,lG,bA,iA,zD,n9,aE,a9,lD,k8,iE,nD⟩ h
   refine Zf (Za (EL_in (.bool ((decide (i6 < ((x1).length:Int))))) nD iE rfl rfl ?_))
   refine Zb (Zd (Zf ?_))
   rcases Zt h with ⟨tF,h⟩ | ⟨tF,h⟩
   ·refine E_ct tF rfl ?_
    refine Zu (Zd (Zq h (fun (s:(List BoxPick)) e w=>∃ (g:Gh) (v4:Value),Fr gI wI g w∧e 4=v4∧RV g.m w (s:List BoxPick) v4∧OS 1004 g w 151 (s:List BoxPick) v4∧e 8=p5∧OB 2008 g w 142 (y4.1:BoxBoxLoom) p5∧e 9=l8∧RV g.m w (rA:List (List Int)) l8∧e 10=uD∧OB 2010 g w 157 ((⟨0,0,y23⟩:BoxPoint):BoxPoint) uD∧e 39=.int .i64 (((x1).length:Int))∧e 40=.int .i64 (i6)) (fun X76 cK iL h=>?_) ?_))
    ·refine Zr ?_
     refine Zf (Za (Zo nD rfl ?_))
     refine Zg (.int .i64 (i6)) rfl rfl ?_
     refine Zb (Zd (Zf (L_loadO0 (x:=.tmp 8) Try.isAgg142 Try.sizeOf142 n9 fun qK lH jL=>?_)))
     obtain ⟨dK,lL,h⟩:=Ge h
     obtain ⟨y84,mH,h⟩:=Ge h
     have nH:=RV_cut a9 mH
     refine L_loadO0 (x:=.tmp 10) Try.isAgg157 Try.sizeOf157 k8 fun sK oH mL=>?_
     refine E_drawC (g:=kH) (w:=bN) (n:=7) [0,2,3,4,5,6] [2008,2010] [0,1,2,3,4,5,6] rfl mixed (by kernel_rfl) fun w_c80 hs hlt=>?_
     have hfr:=hfr.ext hs
     have bA:=bA.ext hs
     have iA:=iA.ext hs
     have n9:=n9.ext hs
     have a9:=a9.ext hs
     have k8:=k8.ext hs
     clear hs
     refine CH_ldO (n:=2008) (c:=qK) rfl rfl .plain jL zD rfl ?_
     have lH:=lH.ch hlt.1
     refine CH_do rfl rfl .plain (D_callG (g:=kH) (vs:=[qK]) en67 (.cons rfl .nil) (N67 (iO:=8044) lH lL) fun cN cO dN hs hr=>?_)
     have hfr:=hfr.ext hs
     have hlt:=hlt.ext hs
     have bA:=bA.ext hs
     have iA:=iA.ext hs
     have n9:=n9.ext hs
     have a9:=a9.ext hs
     have k8:=k8.ext hs
     obtain ⟨kv82,tK,fc82,m82⟩:=hr
     have hone500244:=PT.one tK
     refine ⟨hlt.toW,?_⟩
     refine CH_pur (c:=l8) rfl rfl .plain (Zk aE) ?_
     refine CH_pur (c:=.int .i64 (i6)) rfl rfl .plain (Zk rfl) ?_
     refine CH_pur (c:=.int .i64 ((w64 (i6 + (1:Int))))) rfl rfl .plain (P_int rfl rfl rfl) ?_
     refine CH_pur (c:=(cutV l8 (Int.toNat 0) (Int.toNat (w64 (i6 + (1:Int)))) 1)) rfl rfl .plain (P_slice Try.underlying146 Try.sizeOf26 rfl a9 rfl rfl mH) ?_
     have nH:=nH.ch hlt.1
     refine CH_ldO (n:=2010) (c:=sK) rfl rfl .plain mL lD rfl ?_
     have oH:=oH.ch hlt.1
     refine CH_nil ?_
     clear hlt
     obtain ⟨iH,nL,h⟩:=Ge h
     refine Ze .plain rfl (D_callM (g:=cN) (i:=8044) (vs:=[dN,(cutV l8 (Int.toNat 0) (Int.toNat (w64 (i6 + (1:Int)))) 1),sK]) en68 (.cons rfl (.cons rfl (.cons rfl .nil))) (wk68 big tK fc82 m82 nH oH nL) fun eN dO mP hs hr=>?_)
     obtain ⟨hrv,b87⟩:=hr
     have hfr:=hfr.stp hs
     have bA:=bA.stp hs
     have iA:=iA.stp hs rfl
     have n9:=n9.stp hs rfl
     have a9:=a9.stp hs
     have k8:=k8.stp hs rfl
     subst hrv
     refine EL_in (.bool ((decide (iH.1 ≥ (1073741824:Int))))) rfl rfl rfl rfl ?_
     refine Zb (Zd ?_)
     rcases Zt h with ⟨uF,h⟩ | ⟨uF,h⟩
     ·refine E_ct uF rfl ?_
      refine Zf (Za (Zn (.int .i64 (i6)) rfl rfl ?_))
      refine Zg (.slice none 0 0) rfl rfl ?_
      refine Zg (.int .i64 (0)) rfl rfl ?_
      refine Zg (.int .i64 (i6)) rfl rfl ?_
      refine Zg (.int .i64 (9)) rfl rfl ?_
      refine Zb (Zd (E_ret (blk_r ?_)))
      refine thn_r ?_
      refine thn_r ?_
      refine blk_r ?_
      refine thn_r ?_
      obtain rfl:=sinj h
      exact end4 rfl rfl (show _=.slice none 0 0 from rfl) (show _=.int .i64 (0) from rfl) (show _=.int .i64 (i6) from rfl) (show _=.int .i64 (9) from rfl) ⟨_,hfr,_,_,_,_,rfl,RV_nil,rfl,rfl,rfl⟩
     ·refine E_cf uF rfl ?_
      exact Zu (blk_n (Zd (iL (cD) _ _ ⟨eN,(kG),hfr,lG,bA,iA,zD,n9,aE,a9,lD,k8,iE,nD⟩ h)))
    ·rintro yD eO nP ⟨gN, zI, hfr, eJ, gJ, iJ, jJ, kJ, lJ, mJ, pH, qH, sH, tH⟩ h
     refine Za (EL_in (.int .i64 ((w64 (i6 + (1:Int))))) tH rfl rfl rfl ?_)
     refine Zn (.int .i64 ((w64 (i6 + (1:Int))))) rfl rfl ?_
     exact Zb (Zd (gL (yD,(w64 (i6 + (1:Int)))) _ _ ⟨gN,(zI),hfr,eJ,gJ,iJ,jJ,kJ,lJ,mJ,pH,qH,sH,rfl⟩ h))
   ·refine E_cf tF rfl ?_
    refine E_exit ?_
    refine thn_e ?_
    refine thn_e ?_
    refine blk_hit ?_
    exact Zd (eL (cD) _ _ ⟨kH,(kG),hfr,lG,bA,iA,zD,n9,aE,a9,lD,k8⟩ h)
  ·rintro eG gO oP ⟨uK, nJ, hfr, oJ, u9, y9, pJ, qJ, mG, d9, lE, aB⟩ h
   refine Zf (Za (Ze .plain rfl (D_loadO (g:=uK) Try.isAgg142 Try.sizeOf142 pJ qJ fun iN jN=>?_)))
   obtain ⟨qC,oL,h⟩:=Ge h
   refine Ze .plain rfl (D_callG (g:=uK) (vs:=[iN]) en67 (.cons rfl .nil) (N67 (iO:=8055) jN oL) fun vK jO m8 hs hr=>?_)
   have hfr:=hfr.ext hs
   have u9:=u9.ext hs
   have y9:=y9.ext hs
   have d9:=d9.ext hs
   have aB:=aB.ext hs
   obtain ⟨kv93,vC,fc93,m93⟩:=hr
   have hone500255:=PT.one vC
   refine Zg m8 rfl rfl ?_
   refine Zb (Zd (Zf (Za (Zn m8 rfl rfl ?_))))
   refine Zo mG rfl ?_
   refine Ze .plain rfl (D_loadO (g:=vK) Try.isAgg157 Try.sizeOf157 lE aB fun kN lN=>?_)
   obtain ⟨rC,pL,h⟩:=Ge h
   refine Ze .plain rfl (D_callM (g:=vK) (i:=8055) (vs:=[m8,l8,kN]) en68 (.cons rfl (.cons rfl (.cons rfl .nil))) (wk68 big vC fc93 m93 d9 lN pL) fun xK kO pP hs hr=>?_)
   obtain ⟨hrv,b96⟩:=hr
   have hfr:=hfr.stp hs
   have u9:=u9.stp hs
   have y9:=y9.stp hs rfl
   have d9:=d9.stp hs
   have aB:=aB.stp hs rfl
   have vC:=vC.stp hs
   have fc93:=fc93.stp hs
   subst hrv
   refine Zg (.int .i64 (rC.1)) rfl rfl ?_
   refine Zb (Zd ?_)
   obtain ⟨⟨bD,uC⟩,hx,h⟩:=Ge h
   refine E_join (fun e w=>∃ (g:Gh) (v4:Value),Fr gI wI g w∧e 4=v4∧RV g.m w (bD:List BoxPick) v4∧OS 1004 g w 151 (bD:List BoxPick) v4∧e 5=.int .i64 (rC.1)∧PT g.m w (qC:BoxMill) m8∧MP (encK pl_157) 8055 g w (uC:List (BoxPoint × Int)) kv93∧FC g.m w 2 kv93 m8) (fun Q' hQ=>?_) (fun nN lO hR=>?_)
   ·replace h := hx
    clear hx
    refine Zf (Za (Ze .plain rfl (D_loadO (g:=xK) Try.isAgg157 Try.sizeOf157 lE aB fun qL vF=>?_)))
    refine Ze .plain rfl (D_allocOc (g:=xK) 2013 (⟨0,0,⟨(⟨List.toArray [(⟨List.toArray [0,0,0,0],rfl⟩:Vector Int 4),(⟨List.toArray [0,0,0,0],rfl⟩:Vector Int 4)],rfl⟩:Vector (Vector Int 4) 2),⟨0,0⟩⟩⟩:BoxPoint) Try.zeroValue157 (fun m w=>⟨_,(rep_two Zy (rep_two Zy (rep_two (rep_vec (Zx (rep_vec (Zx Zy (Zx Zy (Zx Zy (Zx Zy flat_nil)))) rfl) (Zx (rep_vec (Zx Zy (Zx Zy (Zx Zy (Zx Zy flat_nil)))) rfl) flat_nil)) rfl) (rep_two Zy Zy)))),rfl⟩) fun rL mO tL hs b160 cb=>?_)
    have hfr:=hfr.stp hs
    have u9:=u9.stp hs
    have y9:=y9.stp hs rfl
    have d9:=d9.stp hs
    have vC:=vC.stp hs
    have b96:=b96.stp hs rfl
    have fc93:=fc93.stp hs
    have vF:=vF.stp hs
    clear cb
    refine Ze .plain rfl (D_storeOc (g:=rL) (v:=qL) Try.sizeOf157 rfl b160 rfl vF fun uL nO hs b161 cb=>?_)
    clear cb
    have hfr:=hfr.stp hs
    have u9:=u9.stp hs
    have y9:=y9.stp hs rfl
    have d9:=d9.stp hs
    have vC:=vC.stp hs
    have b96:=b96.stp hs rfl
    have fc93:=fc93.stp hs
    refine Zb (Zd (Zr ?_))
    refine E_lp h (fun (s:(List BoxPick) × BoxPoint × (List (BoxPoint × Int))) e w=>∃ (g:Gh) (v4 yK:Value),Fr gI wI g w∧e 4=v4∧RV g.m w (s.1:List BoxPick) v4∧OS 1004 g w 151 (s.1:List BoxPick) v4∧e 5=.int .i64 (rC.1)∧e 9=l8∧RV g.m w (rA:List (List Int)) l8∧e 12=m8∧PT g.m w (qC:BoxMill) m8∧e 13=yK∧OB 2013 g w 157 (s.2.1:BoxPoint) yK∧PT g.m w (qC:BoxMill) m8∧MP (encK pl_157) 8055 g w (s.2.2:List (BoxPoint × Int)) kv93∧FC g.m w 2 kv93 m8) ⟨uL,(nJ),(tL),hfr,oJ,u9,y9,rfl,mG,d9,rfl,vC,rfl,b161,vC,b96,fc93⟩ (fun X162 cH rJ=>?_)
    rintro ⟨lB,yA,n8⟩ oN oO ⟨xF,nB,dB,hfr,mE,oE,rE,uE,vE,xE,sG,xG,vD,eD,oB,aD,tB⟩ h
    refine Zq h (fun (s:Unit) e w=>∃ (g:Gh) ,Fr gI wI g w∧e 4=nB∧RV g.m w (lB:List BoxPick) nB∧OS 1004 g w 151 (lB:List BoxPick) nB∧e 5=.int .i64 (rC.1)∧e 9=l8∧RV g.m w (rA:List (List Int)) l8∧e 12=m8∧PT g.m w (qC:BoxMill) m8∧e 13=dB∧OB 2013 g w 157 (yA:BoxPoint) dB∧PT g.m w (qC:BoxMill) m8∧MP (encK pl_157) 8055 g w (n8:List (BoxPoint × Int)) kv93∧FC g.m w 2 kv93 m8) (fun X167 gH sJ h=>?_) ?_
    ·refine Zf (Za (Ga (fPtr dB 0) (Zc at_157_0 vD (OB.ptr eD)) rfl ?_))
     refine Ze .plain rfl (D_loadF (g:=xF) part_BoxPoint_0.1 Try.isAgg3 Try.sizeOf3 rfl eD fun pO vL=>?_)
     obtain rfl:=Zj.1 vL
     refine Zo vE rfl ?_
     refine Ga (.int .i64 ((rA).length:Int)) (P_len Try.underlying146 rfl xE) rfl ?_
     refine EL_in (.bool ((decide ((yA).group < ((rA).length:Int))))) rfl rfl rfl rfl ?_
     refine Zb (Zd ?_)
     rcases Zt h with ⟨bE,h⟩ | ⟨bE,h⟩
     ·refine E_ct bE rfl ?_
      exact Zu (Zd (sJ () _ _ ⟨xF,hfr,mE,oE,rE,uE,vE,xE,sG,xG,vD,eD,oB,aD,tB⟩ h))
     ·refine E_cf bE rfl ?_
      refine E_exit ?_
      refine thn_e ?_
      refine thn_e ?_
      refine blk_hit ?_
      obtain ⟨rfl,rfl⟩:=pairs2 h
      exact hQ _ _ ⟨xF,(nB),hfr,mE,oE,rE,uE,oB,aD,tB⟩
    ·rintro _ pN qO ⟨uH, hfr, xH, x6, y6, yH, yE, x5, xD, l5, gD, t5, u3, tD, o0⟩ h
     obtain ⟨⟨mB,mC,r8⟩,hx,h⟩:=Ge h
     refine E_join (fun e w=>∃ (g:Gh) (v4:Value),Fr gI wI g w∧e 4=v4∧RV g.m w (mB:List BoxPick) v4∧OS 1004 g w 151 (mB:List BoxPick) v4∧e 5=.int .i64 (rC.1)∧e 9=l8∧RV g.m w (rA:List (List Int)) l8∧e 12=m8∧PT g.m w (qC:BoxMill) m8∧e 13=dB∧OB 2013 g w 157 (mC:BoxPoint) dB∧PT g.m w (qC:BoxMill) m8∧MP (encK pl_157) 8055 g w (r8:List (BoxPoint × Int)) kv93∧FC g.m w 2 kv93 m8) (fun Q' hQ=>?_) (fun qN rO hR=>?_)
     ·replace h := hx
      clear hx
      refine Zr ?_
      refine Zf (Za (Zo xD rfl ?_))
      refine Zo yE rfl ?_
      refine Ze .plain rfl (D_loadO (g:=uH) Try.isAgg157 Try.sizeOf157 gD t5 fun xL yL=>?_)
      obtain ⟨iD,vJ,h⟩:=Ge h
      refine Ze .plain rfl (D_callM (g:=uH) (i:=8055) (vs:=[m8,l8,xL]) en69 (.cons rfl (.cons rfl (.cons rfl .nil))) (wk69 l5 o0 tD x5 yL vJ) fun zL rN sO hs hr=>?_)
      obtain ⟨hrv,b195⟩:=hr
      have hfr:=hfr.stp hs
      have x6:=x6.stp hs
      have y6:=y6.stp hs rfl
      have x5:=x5.stp hs
      have l5:=l5.stp hs
      have t5:=t5.stp hs rfl
      have u3:=u3.stp hs
      have o0:=o0.stp hs
      obtain ⟨oD,sD,rfl,vB,z9⟩:=hrv
      refine Zn (.tuple #[oD,sD]) rfl rfl ?_
      refine Ga oD (Zi rfl rfl) rfl ?_
      refine Ga sD (Zi rfl rfl) rfl ?_
      refine Ze .plain rfl (D_allocOc (g:=zL) 2014 (⟨0,0⟩:BoxPick) Try.zeroValue151 (fun m w=>⟨_,(rep_two Zy Zy),rfl⟩) fun aM tO uO hs b197 cb=>?_)
      have hfr:=hfr.stp hs
      have x6:=x6.stp hs
      have y6:=y6.stp hs rfl
      have x5:=x5.stp hs
      have l5:=l5.stp hs
      have t5:=t5.stp hs rfl
      have u3:=u3.stp hs
      have b195:=b195.stp hs rfl
      have o0:=o0.stp hs
      have vB:=vB.stp hs
      have z9:=z9.stp hs
      clear cb
      refine Ze .plain rfl (D_allocOc (g:=aM) 2015 (⟨0,0,⟨(⟨List.toArray [(⟨List.toArray [0,0,0,0],rfl⟩:Vector Int 4),(⟨List.toArray [0,0,0,0],rfl⟩:Vector Int 4)],rfl⟩:Vector (Vector Int 4) 2),⟨0,0⟩⟩⟩:BoxPoint) Try.zeroValue157 (fun m w=>⟨_,(rep_two Zy (rep_two Zy (rep_two (rep_vec (Zx (rep_vec (Zx Zy (Zx Zy (Zx Zy (Zx Zy flat_nil)))) rfl) (Zx (rep_vec (Zx Zy (Zx Zy (Zx Zy (Zx Zy flat_nil)))) rfl) flat_nil)) rfl) (rep_two Zy Zy)))),rfl⟩) fun bM vO xO hs b198 cb=>?_)
      have hfr:=hfr.stp hs
      have x6:=x6.stp hs
      have y6:=y6.stp hs rfl
      have x5:=x5.stp hs
      have l5:=l5.stp hs
      have t5:=t5.stp hs rfl
      have u3:=u3.stp hs
      have b195:=b195.stp hs rfl
      have o0:=o0.stp hs
      have vB:=vB.stp hs
      have z9:=z9.stp hs
      have b197:=b197.stp hs rfl
      clear cb
      refine Ze .plain rfl (D_storeOc (g:=bM) (v:=oD) Try.sizeOf151 rfl b197 rfl vB fun cM yO hs b199 cb=>?_)
      clear cb
      have hfr:=hfr.stp hs
      have x6:=x6.stp hs
      have y6:=y6.stp hs rfl
      have x5:=x5.stp hs
      have l5:=l5.stp hs
      have t5:=t5.stp hs rfl
      have u3:=u3.stp hs
      have b195:=b195.stp hs rfl
      have o0:=o0.stp hs
      have z9:=z9.stp hs
      have b198:=b198.stp hs rfl
      refine Ze .plain rfl (D_storeOc (g:=cM) (v:=sD) Try.sizeOf157 rfl b198 rfl z9 fun zH dM hs b200 cb=>?_)
      clear cb
      have hfr:=hfr.stp hs
      have x6:=x6.stp hs
      have y6:=y6.stp hs rfl
      have x5:=x5.stp hs
      have l5:=l5.stp hs
      have t5:=t5.stp hs rfl
      have u3:=u3.stp hs
      have b195:=b195.stp hs rfl
      have o0:=o0.stp hs
      have b199:=b199.stp hs rfl
      refine Zb (Zd (L_loadO0 (x:=.tmp 14) Try.isAgg151 Try.sizeOf151 b199 fun aI yF xJ=>?_))
      obtain ⟨dH,yJ,h⟩:=Ge h
      refine L_loadO0 (x:=.tmp 15) Try.isAgg157 Try.sizeOf157 b200 fun bI zF zJ=>?_
      refine E_drawC (g:=zH) (w:=dM) (n:=6) [0,1,4,5] [2014,2015] [0,1,2,3,4,5] rfl mixed (by kernel_rfl) fun w_c209 hs hlt=>?_
      have hfr:=hfr.ext hs
      have x6:=x6.ext hs
      have y6:=y6.ext hs
      have x5:=x5.ext hs
      have l5:=l5.ext hs
      have t5:=t5.ext hs
      have u3:=u3.ext hs
      have b195:=b195.ext hs
      have o0:=o0.ext hs
      clear hs
      refine CH_pur (c:=nB) rfl rfl .plain (Zk xH) ?_
      refine CH_ldO (n:=2014) (c:=aI) rfl rfl .plain xJ rfl rfl ?_
      have yF:=yF.ch hlt.1
      refine CH_do rfl rfl .plain (D_buildSlice (g:=zH) 3075 (xs:=([iD.1]:List BoxPick)) (vs:=[aI]) Try.underlying41 Try.sizeOf151 Try.zeroValue151 rfl rfl (.cons rfl .nil) (RVs.cons yF RVs.nil) rfl rfl fun eM zO aP hs o211 iM hxt hfl=>?_)
      have hfr:=hfr.stp hs
      have hlt:=hlt.stp hs
      have x6:=x6.stp hs
      have y6:=y6.stp hs rfl
      have x5:=x5.stp hs
      have l5:=l5.stp hs
      have t5:=t5.stp hs rfl
      have u3:=u3.stp hs
      have b195:=b195.stp hs rfl
      have o0:=o0.stp hs
      refine ⟨hlt.toW,?_⟩
      refine CH_do rfl rfl .plain (D_append (g:=eM) (i:=1004) Try.underlying41 info_151 rfl rfl y6 x6 rfl iM yJ fun jM bP dI hs o212 aG _=>?_)
      have hfr:=hfr.stp hs
      have hlt:=hlt.stp hs
      have x5:=x5.stp hs
      have l5:=l5.stp hs
      have t5:=t5.stp hs rfl
      have u3:=u3.stp hs
      have b195:=b195.stp hs rfl
      have o0:=o0.stp hs
      refine ⟨hlt.toW,?_⟩
      refine CH_ldO (n:=2015) (c:=bI) rfl rfl .plain zJ rfl rfl ?_
      have zF:=zF.ch hlt.1
      refine CH_pur (c:=dI) rfl rfl .plain (P_assign rfl) ?_
      refine CH_nil ?_
      clear hlt
      refine Ze .plain rfl (D_storeOc (g:=jM) (v:=bI) Try.sizeOf157 gD t5 rfl zF fun kM cP hs b215 cb=>?_)
      clear cb
      have hfr:=hfr.stp hs
      have aG:=aG.stp hs
      have o212:=o212.stp hs rfl
      have x5:=x5.stp hs
      have l5:=l5.stp hs
      have u3:=u3.stp hs
      have b195:=b195.stp hs rfl
      have o0:=o0.stp hs
      refine Zb (blk_n ?_)
      obtain ⟨rfl,rfl,rfl⟩:=pairs3 h
      exact hQ _ _ ⟨kM,(dI),hfr,rfl,aG,o212,yH,yE,x5,xD,l5,gD,b215,u3,b195,o0⟩
     ·clear hx
      obtain ⟨iI,jI,hfr,kI,yB,zB,lI,mI,cC,yG,iB,zG,aH,i7,g8,m7⟩:=hR
      refine Zf (Za (Ze .plain rfl (D_loadO (g:=iI) Try.isAgg157 Try.sizeOf157 zG aH fun mM bG=>?_)))
      refine Zb (Zd (Za (Ze .plain rfl (D_allocOc (g:=iI) 2013 (⟨0,0,⟨(⟨List.toArray [(⟨List.toArray [0,0,0,0],rfl⟩:Vector Int 4),(⟨List.toArray [0,0,0,0],rfl⟩:Vector Int 4)],rfl⟩:Vector (Vector Int 4) 2),⟨0,0⟩⟩⟩:BoxPoint) Try.zeroValue157 (fun m w=>⟨_,(rep_two Zy (rep_two Zy (rep_two (rep_vec (Zx (rep_vec (Zx Zy (Zx Zy (Zx Zy (Zx Zy flat_nil)))) rfl) (Zx (rep_vec (Zx Zy (Zx Zy (Zx Zy (Zx Zy flat_nil)))) rfl) flat_nil)) rfl) (rep_two Zy Zy)))),rfl⟩) fun nM dP oM hs b218 cb=>?_))))
      have hfr:=hfr.stp hs
      have yB:=yB.stp hs
      have zB:=zB.stp hs rfl
      have cC:=cC.stp hs
      have iB:=iB.stp hs
      have i7:=i7.stp hs
      have g8:=g8.stp hs rfl
      have m7:=m7.stp hs
      have bG:=bG.stp hs
      clear cb
      refine Ze .plain rfl (D_storeOc (g:=nM) (v:=mM) Try.sizeOf157 rfl b218 rfl bG fun pM eP hs b219 cb=>?_)
      clear cb
      have hfr:=hfr.stp hs
      have yB:=yB.stp hs
      have zB:=zB.stp hs rfl
      have cC:=cC.stp hs
      have iB:=iB.stp hs
      have i7:=i7.stp hs
      have g8:=g8.stp hs rfl
      have m7:=m7.stp hs
      exact Zb (Zd (rJ (mB,mC,r8) _ _ ⟨pM,(jI),(oM),hfr,kI,yB,zB,lI,mI,cC,yG,iB,rfl,b219,i7,g8,m7⟩ h))
   ·clear hx
    obtain ⟨gP,zE,hfr,nI,pI,mN,qI,sI,uI,tI⟩:=hR
    refine Zf (Za (Zo nI rfl ?_))
    refine Zo qI rfl ?_
    refine Zg zE rfl rfl ?_
    refine Zg (.int .i64 (rC.1)) rfl rfl ?_
    refine Zg (.int .i64 (0)) rfl rfl ?_
    refine Zg (.int .i64 (0)) rfl rfl ?_
    refine Zb (Zd (E_ret ?_))
    obtain rfl:=sinj h
    exact end4 rfl rfl (show _=zE from rfl) (show _=.int .i64 (rC.1) from rfl) (show _=.int .i64 (0) from rfl) (show _=.int .i64 (0) from rfl) ⟨_,hfr,_,_,_,_,rfl,pI,rfl,rfl,rfl⟩
theorem W71 {iO:Nat} {gI:Gh} {wI:World} {x0:List Int} {up0:Value} (rp0:RV gI.m wI x0 up0) {r:List Int} (h:f71 x0=some r):FnG Try.prog 71 #[up0] gI wI (fun g w v=>OWx (Ow.list 3 (Ow.sh Int)) iO g w r v):=by
 unfold f71 at h
 refine fnG_of_E Try.func71 rfl (Nat.le_of_ble_eq_true rfl) fun g0 hm hfr=>?_
 have rp0:RV g0.m wI x0 up0:=hm ▸ rp0
 show E _ 8 none _ _ _ _ _
 refine Zf (Za (Zg (.slice none 0 0) rfl rfl (Zb (Zd ?_))))
 refine Zf (Zf (Za (Zn up0 rfl rfl ?_)))
 obtain ⟨a,c,hv,hc,hrow⟩:=RV_list rp0
 refine Ga (.bool a.isNone) (P_slnil Try.underlying26 (show ev _ _=_ from hv)) rfl (Zb (Zd ?_))
 cases a with
 | none=>
  have hx:x0=[]:=by
   cases x0 with
   | nil=>rfl
   | cons y ys=>obtain ⟨b,off,hb,_⟩:=hrow (by simp); cases hb
  subst hx
  have hr:r=[]:=by unfold apnd at h; split at h <;> simp at h; exact h
  subst hr
  refine E_cond_true rfl (Zf (Za ?_))
  refine Zg (.slice none 0 0) rfl rfl (Zb (Zd ?_))
  obtain ⟨sk,ow,ok⟩:=OA.toW (OA.nil:OA 1 g0 wI 3 ([]:List Int) (.slice none 0 0))
  obtain ⟨gh,hxh,_,homh⟩:=OW.hand (i:=iO) hfr ow ok; exact E_ret (thn_r (end1 rfl rfl (show _=.slice none 0 0 from rfl) ⟨gh,hxh,homh⟩))
 | some a=>
  refine E_cond_false rfl (Zu (Zd ?_))
  refine Zf (Za (Ze .plain rfl (D_buildSlice (g:=g0) 1 (xs:=([]:List Int)) (vs:=[]) Try.underlying26 Try.sizeOf3 Try.zeroValue3 rfl rfl .nil RVs.nil rfl rfl fun g1 w1 v1 hs o1 r1 hxt hfl=>?_)))
  have hfr:=hfr.stp hs
  have rp0:=rp0.stp hs
  refine Zn up0 rfl rfl ?_
  refine Ze .plain rfl (D_appendE (g:=g1) plain_int (i:=1) Try.underlying26 info_3 rfl rfl o1 hfl rfl rp0 h fun g2 w2 v2 hs b2=>?_)
  have hfr:=hfr.ext hs
  refine Zg v2 rfl rfl (Zb (Zd ?_))
  obtain ⟨sk,ow,ok⟩:=OA.toW b2
  obtain ⟨gh,hxh,_,homh⟩:=OW.hand (i:=iO) hfr ow ok; exact E_ret (end1 rfl rfl (show _=v2 from rfl) ⟨gh,hxh,homh⟩)
def f14 (x0:FaultLoom) (x1:List Zv) (x2:Int):Option ((List Str) × Int):=
 jn (σ:=(List Str)) (fun a9=>
  (f74 ((⟨x0⟩:FaultFaultLoom)) x1).bind fun y6=>
  Option.bind (α:=(List Str)) (
   lp (σ:=(List Str) × Int) (fun uC (m7,o0)=>
    bif (decide (o0 < x2)) then
     Option.bind (α:=(List Str)) (
      (rem64 o0 ((y6).length:Int)).bind fun y44=>
      (idx y6 y44).bind fun d9=>
      (apnd 16 m7 (([d9]:List Str))).bind fun vC=>
      some (vC)
      ) fun l5=>
     uC (l5,(w64 (o0 + (1:Int))))
    else
     some (m7)
    ) big (a9,(0:Int))
   ) fun t5=>
  some (t5,(0:Int))
  ) fun k6=>
 (f73 x0 x1 x2).bind fun y9=>
 bif (y9 != (0 : Int)) then
  some ([],y9)
 else
  k6 ([])
theorem en14:Enters Try.prog 14:=enters_of Try.func14 (by kernel_rfl) rfl
theorem wk14 {gI:Gh} {wI:World} {x0:FaultLoom} {x1:List Zv} {x2:Int} {up0:Value} (rp0:RV gI.m wI x0 up0) {up1:Value} (rp1:RV gI.m wI x1 up1) {r:(List Str) × Int} (h:f14 x0 x1 x2=some r):Fn Try.prog 14 #[up0,up1,.int .i64 (x2)] gI wI (fun m w v=>∃ y0 y1,v=.tuple #[y0,y1]∧RV m w (r.1) y0∧y1=.int .i64 (r.2)):=by
 unfold f14 at h
 refine fn_of_E Try.func14 rfl (Nat.le_of_ble_eq_true rfl) fun g0 hm hfr=>?_
 have rp0:RV g0.m wI x0 up0:=hm ▸ rp0
 have rp1:RV g0.m wI x1 up1:=hm ▸ rp1
 show E _ 38 none _ _ _ _ _
 refine Zf (Za (Ze .plain rfl (D_box (g:=g0) rfl rp0 fun g1 w1 p1 hs q1=>?_)))
 have hfr:=hfr.ext hs
 have rp1:=rp1.ext hs
 refine Zg (.slice none 0 0) rfl rfl ?_
 refine Zg (.int .i64 (0)) rfl rfl ?_
 refine Zb (Zd (Zq h (fun (s:(List Str)) e w=>∃ (g:Gh) (v6:Value),Fr gI wI g w∧e 1=up1∧RV g.m w (x1:List Zv) up1∧e 2=.int .i64 (x2)∧e 3=p1∧PT g.m w (x0:FaultLoom) p1∧e 6=v6∧RV g.m w (s:List Str) v6∧OS 1006 g w 9 (s:List Str) v6) (fun X6 k6 hk6 h=>?_) ?_))
 ·refine Zf (Za (Ze .plain rfl (D_load (g := g1) Try.isAgg32 Try.sizeOf32 rfl q1 fun v7 r7 => ?_)))
  refine Zn up1 rfl rfl ?_
  refine Zn (.int .i64 (x2)) rfl rfl ?_
  obtain ⟨y9,oD,h⟩:=Ge h
  refine Ze .plain rfl (Zp (g:=g1) (vs:=[v7,up1,.int .i64 (x2)]) en73 (.cons rfl (.cons rfl (.cons rfl .nil))) (wk73 r7 rp1 oD) fun g8 w8_ v8 hs hr=>?_)
  have hfr:=hfr.ext hs
  have rp1:=rp1.ext hs
  have q1:=q1.ext hs
  subst hr
  refine Zg (.int .i64 (y9)) rfl rfl ?_
  refine Zb (Zd (Zf (Za (Zn (.int .i64 (y9)) rfl rfl ?_))))
  refine EL_in (.bool ((y9 != (0:Int)))) rfl rfl rfl rfl ?_
  refine Zb (Zd ?_)
  rcases Zt h with ⟨r8,h⟩ | ⟨r8,h⟩
  ·refine E_ct r8 rfl ?_
   refine Zf (Za (Zn (.int .i64 (y9)) rfl rfl ?_))
   refine Zg (.slice none 0 0) rfl rfl ?_
   refine Zg (.int .i64 (y9)) rfl rfl ?_
   refine Zb (Zd (E_ret (thn_r ?_)))
   obtain rfl:=sinj h
   exact end2 rfl rfl (show _=.slice none 0 0 from rfl) (show _=.int .i64 (y9) from rfl) ⟨_,hfr,_,_,rfl,RV_nil,rfl⟩
  ·refine E_cf r8 rfl ?_
   exact Zu (Zd (hk6 ([]) _ _ ⟨g8,(.slice none 0 0),hfr,rfl,rp1,rfl,rfl,q1,rfl,RV_nil,OS.nil⟩ h))
 ·rintro a9 lE vE ⟨n9, yA, hfr, aB, dB, iB, lB, mB, nB, k8, l8⟩ h
  refine Zf (Za (Ze .plain rfl (D_load (g:=n9) Try.isAgg32 Try.sizeOf32 lB mB fun u9 aD=>?_)))
  have bD:RV n9.m _ (⟨x0⟩:FaultFaultLoom) (.agg (setCh [[.int .i64 0,.slice none 0 0,.int .i64 0,.slice none 0 0]] [(0,u9)]).flatten.toArray):=RV_build rfl (rep_last (RV.cells aD))
  generalize gD:(Value.agg (setCh [[.int .i64 0,.slice none 0 0,.int .i64 0,.slice none 0 0]] [(0,u9)]).flatten.toArray)=cD at bD
  refine Ga cD (gD ▸ P_build (vs:=[(0,u9)]) [[.int .i64 0,.slice none 0 0,.int .i64 0,.slice none 0 0]] lay_170 rfl rfl (.cons rfl .nil) ⟨⟨_,rfl,cells_size aD⟩,trivial⟩) rfl ?_
  refine Zo aB rfl ?_
  obtain ⟨y6,iD,h⟩:=Ge h
  refine Ze .plain rfl (Zp (g:=n9) (vs:=[cD,up1]) en74 (.cons rfl (.cons rfl .nil)) (wk74 bD dB iD) fun sD mE i7 hs hr=>?_)
  have hfr:=hfr.ext hs
  have k8:=k8.ext hs
  have l8:=l8.ext hs
  have tD:=hr
  refine Zg i7 rfl rfl ?_
  refine Zb (Zd ?_)
  obtain ⟨t5,hx,h⟩:=Ge h
  refine E_join (fun e w=>∃ (g:Gh) (v6:Value),Fr gI wI g w∧e 6=v6∧RV g.m w (t5:List Str) v6∧OS 1006 g w 9 (t5:List Str) v6) (fun Q' hQ=>?_) (fun oE xE hR=>?_)
  ·replace h := hx
   clear hx
   refine Zf (Za (Zo iB rfl ?_))
   refine Zn (.int .i64 (0)) rfl rfl ?_
   refine Zb (Zd (Zr ?_))
   refine E_lp h (fun (s:(List Str) × Int) e w=>∃ (g:Gh) (v6:Value),Fr gI wI g w∧e 6=v6∧RV g.m w (s.1:List Str) v6∧OS 1006 g w 9 (s.1:List Str) v6∧e 9=i7∧RV g.m w (y6:List Str) i7∧e 22=.int .i64 (x2)∧e 23=.int .i64 (s.2)) ⟨sD,(yA),hfr,nB,k8,l8,rfl,tD,rfl,rfl⟩ (fun X34 uC jD=>?_)
   rintro ⟨m7,o0⟩ rE yE ⟨z9,oB,hfr,k9,x5,i6,m8,u3,n8,x6⟩ h
   refine Zf (Za (EL_in (.bool ((decide (o0 < x2)))) x6 n8 rfl rfl ?_))
   refine Zb (Zd (Zf ?_))
   rcases Zt h with ⟨x8,h⟩ | ⟨x8,h⟩
   ·refine E_ct x8 rfl ?_
    refine Zu (Zd ?_)
    obtain ⟨l5,hx,h⟩:=Ge h
    refine E_join (fun e w=>∃ (g:Gh) (v6:Value),Fr gI wI g w∧e 6=v6∧RV g.m w (l5:List Str) v6∧OS 1006 g w 9 (l5:List Str) v6∧e 9=i7∧RV g.m w (y6:List Str) i7∧e 22=.int .i64 (x2)∧e 23=.int .i64 (o0)) (fun Q' hQ=>?_) (fun uE zE hR=>?_)
    ·replace h := hx
     clear hx
     refine Zr ?_
     refine Zf (Za (Zo x6 rfl ?_))
     refine Zg (.int .i64 (o0)) rfl rfl ?_
     refine Zb (Zd (Za (Zo k9 rfl ?_)))
     refine Zo m8 rfl ?_
     refine Zn (.int .i64 (o0)) rfl rfl ?_
     refine Zo m8 rfl ?_
     refine Ga (.int .i64 ((y6).length:Int)) (P_len Try.underlying50 rfl u3) rfl ?_
     obtain ⟨y44,lD,h⟩:=Ge h
     refine Ga (.int .i64 (y44)) (P_int rfl rfl (congrArg (Option.map (Value.int .i64)) lD)) rfl ?_
     obtain ⟨d9,bA,h⟩:=Ge h
     refine Ga (ePtr i7 y44 1) (Zh (α:=Str) Try.underlying50 Try.sizeOf9 rfl u3 rfl bA) rfl ?_
     have uD:=PT_idx u3 bA
     refine Ze .plain rfl (D_load (g:=z9) Try.isAgg9 Try.sizeOf9 rfl uD fun cF vD=>?_)
     obtain rfl:=RV_str.1 vD
     refine Ze .plain rfl (D_buildSlice (g:=z9) 3034 (xs:=([d9]:List Str)) (vs:=[Str.v (d9)]) Try.underlying50 Try.sizeOf9 Try.zeroValue9 rfl rfl (.cons rfl .nil) (RVs.cons (RV_str.2 rfl) RVs.nil) rfl rfl fun xD dF eF hs o48 yD hxt hfl=>?_)
     have hfr:=hfr.stp hs
     have x5:=x5.stp hs
     have i6:=i6.stp hs rfl
     have u3:=u3.stp hs
     obtain ⟨vC,nD,h⟩:=Ge h
     refine Ze .plain rfl (D_append (g:=xD) (i:=1006) Try.underlying50 info_9 rfl rfl i6 x5 rfl yD nD fun zD rF eD hs o49 aE _=>?_)
     have hfr:=hfr.stp hs
     have u3:=u3.stp hs
     refine Zg eD rfl rfl ?_
     refine Zb (blk_n ?_)
     obtain rfl:=sinj h
     exact hQ _ _ ⟨zD,(eD),hfr,rfl,aE,o49,m8,u3,n8,x6⟩
    ·clear hx
     obtain ⟨bE,tB,hfr,vB,yB,zB,cC,mC,iA,rA⟩:=hR
     refine Za (EL_in (.int .i64 ((w64 (o0 + (1:Int))))) rA rfl rfl rfl ?_)
     refine Zn (.int .i64 ((w64 (o0 + (1:Int))))) rfl rfl ?_
     exact Zb (Zd (jD (l5,(w64 (o0 + (1:Int)))) _ _ ⟨bE,(tB),hfr,vB,yB,zB,cC,mC,iA,rfl⟩ h))
   ·refine E_cf x8 rfl ?_
    refine E_exit ?_
    refine thn_e ?_
    refine thn_e ?_
    refine blk_hit ?_
    obtain rfl:=sinj h
    exact hQ _ _ ⟨z9,(oB),hfr,k9,x5,i6⟩
  ·clear hx
   obtain ⟨sF,l9,hfr,qC,rC,iE⟩:=hR
   refine Zf (Za (Zo qC rfl ?_))
   refine Zg l9 rfl rfl ?_
   refine Zg (.int .i64 (0)) rfl rfl ?_
   refine Zb (Zd (E_ret ?_))
   obtain rfl:=sinj h
   exact end2 rfl rfl (show _=l9 from rfl) (show _=.int .i64 (0) from rfl) ⟨_,hfr,_,_,rfl,rC,rfl⟩
def f16 :Option (Bool):=
 (f10 ((⟨([(2:Int),(2:Int)]:List Int),([(0:Int),(0:Int)]:List Int),([(⟨(3:Int),0,0,(⟨(2:Int),(3:Int)⟩:Span)⟩:Zw),(⟨(5:Int),0,(1:Int),(⟨(1:Int),(1:Int)⟩:Span)⟩:Zw),(⟨(7:Int),(1:Int),(1:Int),(⟨(9:Int),(9:Int)⟩:Span)⟩:Zw)]:List Zw)⟩:BoxLoom)) (([(3:Int),(7:Int),(5:Int)]:List Int))).bind fun o0=>
 Option.bind (α:=Bool) (
  bif (o0.2.2.2 == (0 : Int)) then
   some ((o0.2.1 == (2:Int)))
  else
   some (false)
  ) fun l5=>
 some (l5)
theorem en16:Enters Try.prog 16:=enters_of Try.func16 (by kernel_rfl) rfl
theorem wk16 {gI:Gh} {wI:World}   {r:Bool} (h:f16 =some r):Fn Try.prog 16 #[] gI wI (fun _ _ v=>v=.bool (r)):=by
 unfold f16 at h
 refine fn_of_E Try.func16 rfl (Nat.le_of_ble_eq_true rfl) fun g0 hm hfr=>?_
 show E _ 30 none _ _ _ _ _
 refine Zf (Za (Zg (.bool false) rfl rfl ?_))
 refine Zb (Zd (Zf (Za (Ze .plain rfl (D_buildSlice (g:=g0) 3006 (xs:=([(2:Int),(2:Int)]:List Int)) (vs:=[.int .i64 (2),.int .i64 (2)]) Try.underlying26 Try.sizeOf3 Try.zeroValue3 rfl rfl (.cons rfl (.cons rfl .nil)) (RVs.cons (Zj.2 rfl) (RVs.cons (Zj.2 rfl) RVs.nil)) rfl rfl fun g1 w1 v1 hs o1 r1 hxt hfl=>?_)))))
 have hfr:=hfr.stp hs
 refine Ze .plain rfl (D_buildSlice (g:=g1) 3007 (xs:=([(0:Int),(0:Int)]:List Int)) (vs:=[.int .i64 (0),.int .i64 (0)]) Try.underlying26 Try.sizeOf3 Try.zeroValue3 rfl rfl (.cons rfl (.cons rfl .nil)) (RVs.cons (Zj.2 rfl) (RVs.cons (Zj.2 rfl) RVs.nil)) rfl rfl fun g2 w2 v2 hs o2 r2 hxt hfl=>?_)
 have hfr:=hfr.stp hs
 have r1:=r1.stp hs
 have o1:=o1.stp hs rfl
 have r3:RV g2.m w2 (⟨(2:Int),(3:Int)⟩:Span) (.agg (setCh [[.int .i64 0],[.int .i64 0]] [(0,.int .i64 (2)),(1,.int .i64 (3))]).flatten.toArray):=RV_build rfl (rep_pair (rfl) (rep_last (rfl)))
 generalize hv3:(Value.agg (setCh [[.int .i64 0],[.int .i64 0]] [(0,.int .i64 (2)),(1,.int .i64 (3))]).flatten.toArray)=v3 at r3
 refine Ga v3 (hv3 ▸ P_build (vs:=[(0,.int .i64 (2)),(1,.int .i64 (3))]) [[.int .i64 0],[.int .i64 0]] lay_35 rfl rfl (.cons rfl (.cons rfl .nil)) ⟨⟨_,rfl,rfl⟩,⟨⟨_,rfl,rfl⟩,trivial⟩⟩) rfl ?_
 have r4:RV g2.m _ (⟨(3:Int),0,0,(⟨(2:Int),(3:Int)⟩:Span)⟩:Zw) (.agg (setCh [[.int .i64 0],[.int .i64 0],[.int .i64 0],[.int .i64 0,.int .i64 0]] [(0,.int .i64 (3)),(3,v3)]).flatten.toArray):=RV_build rfl (rep_pair (rfl) (rep_pair (Zy) (rep_pair (Zy) (rep_last (RV.cells r3)))))
 generalize a9:(Value.agg (setCh [[.int .i64 0],[.int .i64 0],[.int .i64 0],[.int .i64 0,.int .i64 0]] [(0,.int .i64 (3)),(3,v3)]).flatten.toArray)=v4 at r4
 refine Ga v4 (a9 ▸ P_build (vs:=[(0,.int .i64 (3)),(3,v3)]) [[.int .i64 0],[.int .i64 0],[.int .i64 0],[.int .i64 0,.int .i64 0]] lay_37 rfl rfl (.cons rfl (.cons rfl .nil)) ⟨⟨_,rfl,rfl⟩,⟨⟨_,rfl,cells_size r3⟩,trivial⟩⟩) rfl ?_
 have r5:RV g2.m w2 (⟨(1:Int),(1:Int)⟩:Span) (.agg (setCh [[.int .i64 0],[.int .i64 0]] [(0,.int .i64 (1)),(1,.int .i64 (1))]).flatten.toArray):=RV_build rfl (rep_pair (rfl) (rep_last (rfl)))
 generalize d9:(Value.agg (setCh [[.int .i64 0],[.int .i64 0]] [(0,.int .i64 (1)),(1,.int .i64 (1))]).flatten.toArray)=v5 at r5
 refine Ga v5 (d9 ▸ P_build (vs:=[(0,.int .i64 (1)),(1,.int .i64 (1))]) [[.int .i64 0],[.int .i64 0]] lay_35 rfl rfl (.cons rfl (.cons rfl .nil)) ⟨⟨_,rfl,rfl⟩,⟨⟨_,rfl,rfl⟩,trivial⟩⟩) rfl ?_
 have r6:RV g2.m _ (⟨(5:Int),0,(1:Int),(⟨(1:Int),(1:Int)⟩:Span)⟩:Zw) (.agg (setCh [[.int .i64 0],[.int .i64 0],[.int .i64 0],[.int .i64 0,.int .i64 0]] [(0,.int .i64 (5)),(2,.int .i64 (1)),(3,v5)]).flatten.toArray):=RV_build rfl (rep_pair (rfl) (rep_pair (Zy) (rep_pair (rfl) (rep_last (RV.cells r5)))))
 generalize k9:(Value.agg (setCh [[.int .i64 0],[.int .i64 0],[.int .i64 0],[.int .i64 0,.int .i64 0]] [(0,.int .i64 (5)),(2,.int .i64 (1)),(3,v5)]).flatten.toArray)=v6 at r6
 refine Ga v6 (k9 ▸ P_build (vs:=[(0,.int .i64 (5)),(2,.int .i64 (1)),(3,v5)]) [[.int .i64 0],[.int .i64 0],[.int .i64 0],[.int .i64 0,.int .i64 0]] lay_37 rfl rfl (.cons rfl (.cons rfl (.cons rfl .nil))) ⟨⟨_,rfl,rfl⟩,⟨⟨_,rfl,rfl⟩,⟨⟨_,rfl,cells_size r5⟩,trivial⟩⟩⟩) rfl ?_
 have r7:RV g2.m w2 (⟨(9:Int),(9:Int)⟩:Span) (.agg (setCh [[.int .i64 0],[.int .i64 0]] [(0,.int .i64 (9)),(1,.int .i64 (9))]).flatten.toArray):=RV_build rfl (rep_pair (rfl) (rep_last (rfl)))
 generalize l9:(Value.agg (setCh [[.int .i64 0],[.int .i64 0]] [(0,.int .i64 (9)),(1,.int .i64 (9))]).flatten.toArray)=v7 at r7
 refine Ga v7 (l9 ▸ P_build (vs:=[(0,.int .i64 (9)),(1,.int .i64 (9))]) [[.int .i64 0],[.int .i64 0]] lay_35 rfl rfl (.cons rfl (.cons rfl .nil)) ⟨⟨_,rfl,rfl⟩,⟨⟨_,rfl,rfl⟩,trivial⟩⟩) rfl ?_
 have r8:RV g2.m _ (⟨(7:Int),(1:Int),(1:Int),(⟨(9:Int),(9:Int)⟩:Span)⟩:Zw) (.agg (setCh [[.int .i64 0],[.int .i64 0],[.int .i64 0],[.int .i64 0,.int .i64 0]] [(0,.int .i64 (7)),(1,.int .i64 (1)),(2,.int .i64 (1)),(3,v7)]).flatten.toArray):=RV_build rfl (rep_pair (rfl) (rep_pair (rfl) (rep_pair (rfl) (rep_last (RV.cells r7)))))
 generalize n9:(Value.agg (setCh [[.int .i64 0],[.int .i64 0],[.int .i64 0],[.int .i64 0,.int .i64 0]] [(0,.int .i64 (7)),(1,.int .i64 (1)),(2,.int .i64 (1)),(3,v7)]).flatten.toArray)=v8 at r8
 refine Ga v8 (n9 ▸ P_build (vs:=[(0,.int .i64 (7)),(1,.int .i64 (1)),(2,.int .i64 (1)),(3,v7)]) [[.int .i64 0],[.int .i64 0],[.int .i64 0],[.int .i64 0,.int .i64 0]] lay_37 rfl rfl (.cons rfl (.cons rfl (.cons rfl (.cons rfl .nil)))) ⟨⟨_,rfl,rfl⟩,⟨⟨_,rfl,rfl⟩,⟨⟨_,rfl,rfl⟩,⟨⟨_,rfl,cells_size r7⟩,trivial⟩⟩⟩⟩) rfl ?_
 refine Ze .plain rfl (D_buildSlice (g:=g2) 3014 (xs:=([(⟨(3:Int),0,0,(⟨(2:Int),(3:Int)⟩:Span)⟩:Zw),(⟨(5:Int),0,(1:Int),(⟨(1:Int),(1:Int)⟩:Span)⟩:Zw),(⟨(7:Int),(1:Int),(1:Int),(⟨(9:Int),(9:Int)⟩:Span)⟩:Zw)]:List Zw)) (vs:=[v4,v6,v8]) Try.underlying38 Try.sizeOf37 Try.zeroValue37 rfl rfl (.cons rfl (.cons rfl (.cons rfl .nil))) (RVs.cons r4 (RVs.cons r6 (RVs.cons r8 RVs.nil))) rfl rfl fun g9 w9 v9 hs o9 r9 hxt hfl=>?_)
 have hfr:=hfr.stp hs
 have r1:=r1.stp hs
 have o1:=o1.stp hs rfl
 have r2:=r2.stp hs
 have x5:RV g9.m _ (⟨([(2:Int),(2:Int)]:List Int),([(0:Int),(0:Int)]:List Int),([(⟨(3:Int),0,0,(⟨(2:Int),(3:Int)⟩:Span)⟩:Zw),(⟨(5:Int),0,(1:Int),(⟨(1:Int),(1:Int)⟩:Span)⟩:Zw),(⟨(7:Int),(1:Int),(1:Int),(⟨(9:Int),(9:Int)⟩:Span)⟩:Zw)]:List Zw)⟩:BoxLoom) (.agg (setCh [[.slice none 0 0],[.slice none 0 0],[.slice none 0 0]] [(0,v1),(1,v2),(2,v9)]).flatten.toArray):=RV_build rfl (rep_pair (RV.cells r1) (rep_pair (RV.cells r2) (rep_last (RV.cells r9))))
 generalize i7:(Value.agg (setCh [[.slice none 0 0],[.slice none 0 0],[.slice none 0 0]] [(0,v1),(1,v2),(2,v9)]).flatten.toArray)=m8 at x5
 refine Ga m8 (i7 ▸ P_build (vs:=[(0,v1),(1,v2),(2,v9)]) [[.slice none 0 0],[.slice none 0 0],[.slice none 0 0]] lay_40 rfl rfl (.cons rfl (.cons rfl (.cons rfl .nil))) ⟨⟨_,rfl,cells_size r1⟩,⟨⟨_,rfl,cells_size r2⟩,⟨⟨_,rfl,cells_size r9⟩,trivial⟩⟩⟩) rfl ?_
 refine Ze .plain rfl (D_allocOc (g:=g9) 2001 (⟨[],[],[]⟩:BoxLoom) Try.zeroValue40 (fun m w=>⟨_,(rep_two rep_nil (rep_two rep_nil rep_nil)),rfl⟩) fun i6 m7 x6 hs b11 cb=>?_)
 have hfr:=hfr.stp hs
 have r1:=r1.stp hs
 have o1:=o1.stp hs rfl
 have x5:=x5.stp hs
 have aB:OSF 2001 60100 0 i6 m7 3 40 ([]:List Int) x6:=cb.osf (by rfl)
 have dB:OSF 2001 60101 1 i6 m7 3 40 ([]:List Int) x6:=cb.osf (by rfl)
 have iB:OSF 2001 60102 2 i6 m7 37 40 ([]:List Zw) x6:=cb.osf (by rfl)
 clear cb
 refine Ze .plain rfl (D_storeOc (g:=i6) (v:=m8) Try.sizeOf40 rfl b11 rfl x5 fun g8 u9 hs b12 cb=>?_)
 obtain ⟨y9,z9,y6,_,_⟩:=RV_list r1
 have lB:OSF 2001 3006 0 g8 u9 3 40 (([(2:Int),(2:Int)]:List Int):List Int) x6:=cb.osfv (by rw [← i7,y6]; rfl) (o1.stp hs rfl)
 clear cb
 have hfr:=hfr.stp hs
 refine Zb (Zd (Zf (Za (Ze .plain rfl (D_loadO (g:=g8) Try.isAgg40 Try.sizeOf40 rfl b12 fun bA k8=>?_)))))
 refine Ze .plain rfl (D_buildSlice (g:=g8) 3018 (xs:=([(3:Int),(7:Int),(5:Int)]:List Int)) (vs:=[.int .i64 (3),.int .i64 (7),.int .i64 (5)]) Try.underlying26 Try.sizeOf3 Try.zeroValue3 rfl rfl (.cons rfl (.cons rfl (.cons rfl .nil))) (RVs.cons (Zj.2 rfl) (RVs.cons (Zj.2 rfl) (RVs.cons (Zj.2 rfl) RVs.nil))) rfl rfl fun iA zB rA hs o14 yA hxt hfl=>?_)
 have hfr:=hfr.stp hs
 have k8:=k8.stp hs
 obtain ⟨o0,x8,h⟩:=Ge h
 refine Ze .plain rfl (Zp (g:=iA) (vs:=[bA,rA]) en10 (.cons rfl (.cons rfl .nil)) (wk10 k8 yA x8) fun n8 vB cC hs hr=>?_)
 have hfr:=hfr.ext hs
 obtain ⟨t5,mB,nB,oB,rfl,tB,rfl,rfl,rfl⟩:=hr
 refine Zn (.tuple #[t5,.int .i64 (o0.2.1),.int .i64 (o0.2.2.1),.int .i64 (o0.2.2.2)]) rfl rfl ?_
 refine Ga t5 (Zi rfl rfl) rfl ?_
 refine Ga (.int .i64 (o0.2.1)) (Zi rfl rfl) rfl ?_
 refine Ga (.int .i64 (o0.2.2.1)) (Zi rfl rfl) rfl ?_
 refine Ga (.int .i64 (o0.2.2.2)) (Zi rfl rfl) rfl ?_
 refine Zg t5 rfl rfl ?_
 refine Zg (.int .i64 (o0.2.1)) rfl rfl ?_
 refine Zg (.int .i64 (o0.2.2.1)) rfl rfl ?_
 refine Zg (.int .i64 (o0.2.2.2)) rfl rfl ?_
 refine Zb (Zd ?_)
 obtain ⟨l5,hx,h⟩:=Ge h
 refine E_join (fun e w=>∃ (g:Gh) ,Fr gI wI g w∧e 0=.bool (l5)) (fun Q' hQ=>?_) (fun yB mC hR=>?_)
 ·replace h := hx
  clear hx
  refine Za (Zn (.int .i64 (o0.2.2.2)) rfl rfl ?_)
  refine EL_in (.bool ((o0.2.2.2 == (0:Int)))) rfl rfl rfl rfl ?_
  refine Zn (.bool ((o0.2.2.2 == (0:Int)))) rfl rfl ?_
  rcases Zt h with ⟨u3,h⟩ | ⟨u3,h⟩
  ·refine Gb (.int .i64 (o0.2.1)) (Zk rfl) rfl rfl u3 rfl ?_
   refine Gb (.bool ((o0.2.1 == (2:Int)))) (P_int rfl rfl rfl) rfl rfl u3 rfl ?_
   refine Ga (.bool ((o0.2.1 == (2:Int)))) (Zl (b:=(o0.2.2.2 == (0:Int))) rfl (pick_t u3 rfl)) rfl ?_
   refine Zg (.bool ((o0.2.1 == (2:Int)))) rfl rfl ?_
   refine Zb ?_
   obtain rfl:=sinj h
   exact hQ _ _ ⟨n8,hfr,rfl⟩
  ·refine Gc rfl rfl u3 rfl rfl ?_
   refine Gc rfl rfl u3 rfl rfl ?_
   refine Ga (.bool false) (Zl (b:=(o0.2.2.2 == (0:Int))) rfl (pick_f u3 rfl)) rfl ?_
   refine Zg (.bool false) rfl rfl ?_
   refine Zb ?_
   obtain rfl:=sinj h
   exact hQ _ _ ⟨n8,hfr,rfl⟩
 ·clear hx
  obtain ⟨qC,hfr,l8⟩:=hR
  refine E_ret ?_
  obtain rfl:=sinj h
  exact end1 rfl rfl (show _=.bool (l5) from l8) ⟨_,hfr,rfl⟩
def f34 (x0:FaultLoom) (x1:List Zz):Option ((List Zv) × Bool × Int):=
 jn (σ:=(List Zv)) (fun m8=>
  Option.bind (α:=(List Zv)) (
   ((fun σ cons s=>f96 ((⟨x0⟩:FaultFaultLoom)) σ cons s) ((List Zv)) (fun n8 (r8,aB)=>
    (f97 aB x1).bind fun iE=>
    bif iE then
     (apnd 40 n8 (([r8]:List Zv))).bind fun y9=>
     some (true,(y9))
    else
     some (true,(n8))
    ) (m8)).bind fun l9=>
   some (l9)
   ) fun i6=>
  (f74 ((⟨x0⟩:FaultFaultLoom)) ([])).bind fun i7=>
  (f97 i7 x1).bind fun m7=>
  some (i6,m7,(0:Int))
  ) fun lE=>
 (f95 x0).bind fun x6=>
 bif (x6 != (0 : Int)) then
  some ([],false,x6)
 else
  bif (decide (((x1).length : Int) > (60 : Int))) then
   some ([],false,(5:Int))
  else
   (f90 x1 ((fun a0=>f93 a0 x0))).bind fun nB=>
   bif nB then
    some ([],false,(2:Int))
   else
    lE (([]:List Zv))
theorem en34:Enters Try.prog 34:=enters_of Try.func34 (by kernel_rfl) rfl
theorem wk34 {gI:Gh} {wI:World} {x0:FaultLoom} {x1:List Zz} {up0:Value} (rp0:RV gI.m wI x0 up0) {up1:Value} (rp1:RV gI.m wI x1 up1) {r:(List Zv) × Bool × Int} (h:f34 x0 x1=some r):Fn Try.prog 34 #[up0,up1] gI wI (fun m w v=>∃ y0 y1 y2,v=.tuple #[y0,y1,y2]∧RV m w (r.1) y0∧y1=.bool (r.2.1)∧y2=.int .i64 (r.2.2)):=by
 unfold f34 at h
 refine fnD_of_E Try.func34 rfl (Nat.le_of_ble_eq_true rfl) fun g0 hm hfr=>?_
 have hmk:MkF g0 wI []:=MkF.start
 have rp0:RV g0.m wI x0 up0:=hm ▸ rp0
 have rp1:RV g0.m wI x1 up1:=hm ▸ rp1
 show E _ 44 none _ _ _ _ _
 refine Zf (Za (Ze .plain rfl (D_box (g:=g0) rfl rp0 fun g1 w1 p1 hs q1=>?_)))
 have hfr:=hfr.ext hs
 have hmk:=hmk.ext hs
 have rp1:=rp1.ext hs
 refine Ze .plain rfl (D_box (g:=g1) rfl rp1 fun g2 w2 p2 hs q2=>?_)
 have hfr:=hfr.ext hs
 have hmk:=hmk.ext hs
 have q1:=q1.ext hs
 refine Ze .plain rfl (D_allocOc (g:=g2) 2004 ([]:List Zv) Try.zeroValue57 (fun m w=>⟨_,rep_nil,rfl⟩) fun g3 w3 p3 hs b3 cb=>?_)
 have hfr:=hfr.stp hs
 have hmk:=hmk.stp hs
 have q1:=q1.stp hs
 have q2:=q2.stp hs
 have g8:OSF 2004 60400 0 g3 w3 56 57 ([]:List Zv) p3:=cb.osf (by rfl)
 clear cb
 refine Zg (.bool false) rfl rfl ?_
 refine Zg (.int .i64 (0)) rfl rfl ?_
 refine Zb (Zd (Zf (Za (Ga ((.func (.func 93) #[] #[p1])) (P_makeFunc (capf_0_1 (show ev _ _=p1 from rfl))) rfl ?_))))
 refine Zg ((.func (.func 93) #[] #[p1])) rfl rfl ?_
 refine Zb (Zd (E_joinCD h (fun (s:(List Zv)) e ds w=>∃ (g:Gh) ,Fr gI wI g w∧MkF g w ds∧e 2=p1∧PT g.m w (x0:FaultLoom) p1∧e 3=p2∧PT g.m w (x1:List Zz) p2∧e 4=p3∧OB 2004 g w 57 (s:List Zv) p3∧OSF 2004 60400 0 g w 56 57 (s) p3) (fun X23 lE xE h=>?_) ?_))
 ·refine Zf (Za (Ze .plain rfl (D_load (g := g3) Try.isAgg32 Try.sizeOf32 rfl q1 fun jG kG => ?_)))
  obtain ⟨x6,yE,h⟩:=Ge h
  refine Ze .plain rfl (Zp (g:=g3) (vs:=[jG]) en95 (.cons rfl .nil) (wk95 kG yE) fun n9 yH vI hs hr=>?_)
  have hfr:=hfr.ext hs
  have hmk:=hmk.ext hs
  have q1:=q1.ext hs
  have q2:=q2.ext hs
  have g8:=g8.ext hs
  have b3:=b3.ext hs
  subst hr
  refine Zg (.int .i64 (x6)) rfl rfl ?_
  refine Zb (Zd (Zr ?_))
  refine Zf (Za (Zn (.int .i64 (x6)) rfl rfl ?_))
  refine EL_in (.bool ((x6 != (0:Int)))) rfl rfl rfl rfl ?_
  refine Zg (.bool ((x6 != (0:Int)))) rfl rfl ?_
  refine Zb (Zd ?_)
  rcases Zt h with ⟨z9,h⟩ | ⟨z9,h⟩
  ·refine E_ct z9 rfl ?_
   refine Zf (Za (Zn (.int .i64 (x6)) rfl rfl ?_))
   refine Ze .plain rfl (D_storeOc (g:=n9) (v:=.slice none 0 0) Try.sizeOf57 rfl b3 rfl RV_nil fun lG mG hs b28 cb=>?_)
   have qH:OSF 2004 60400 0 lG mG 56 57 ([]:List Zv) p3:=cb.osfr (rfl) OS.nil
   clear cb
   have hfr:=hfr.stp hs
   have hmk:=hmk.stp hs
   refine Zg (.bool false) rfl rfl ?_
   refine Zg (.int .i64 (x6)) rfl rfl ?_
   refine Zb (Zd (E_ret (blk_r ?_)))
   refine thn_r ?_
   refine endM (.inr rfl) hmk fun yI w29 hs=>?_
   have hfr:=hfr.stp hs
   have b28:=b28.stp hs rfl
   obtain rfl:=sinj h
   obtain ⟨ad30,cv30,hp30,zE,cr30⟩:=ob_read Try.isAgg57 Try.sizeOf57 b28
   exact endm_ctt rfl rfl ((show _=p3 from rfl).trans hp30) zE (show _=.bool false from rfl) (show _=.int .i64 (x6) from rfl) ⟨_,hfr,_,_,_,rfl,cr30,rfl,rfl⟩
  ·refine E_cf z9 rfl ?_
   refine Zf (Za (Ze .plain rfl (D_load (g:=n9) Try.isAgg85 Try.sizeOf85 rfl q2 fun zI sG=>?_)))
   refine Ga (.int .i64 ((x1).length:Int)) (P_len Try.underlying85 rfl sG) rfl ?_
   refine EL_in (.bool ((decide (((x1).length:Int) > (60:Int))))) rfl rfl rfl rfl ?_
   refine Zg (.bool ((decide (((x1).length:Int) > (60:Int))))) rfl rfl ?_
   refine Zb (Zd ?_)
   rcases Zt h with ⟨bA,h⟩ | ⟨bA,h⟩
   ·refine E_ct bA rfl ?_
    refine Zf (Za (Ze .plain rfl (D_storeOc (g:=n9) (v:=.slice none 0 0) Try.sizeOf57 rfl b3 rfl RV_nil fun xG yG hs b33 cb=>?_)))
    have sH:OSF 2004 60400 0 xG yG 56 57 ([]:List Zv) p3:=cb.osfr (rfl) OS.nil
    clear cb
    have hfr:=hfr.stp hs
    have hmk:=hmk.stp hs
    refine Zg (.bool false) rfl rfl ?_
    refine Zg (.int .i64 (5)) rfl rfl ?_
    refine Zb (Zd (E_ret (blk_r ?_)))
    refine thn_r ?_
    refine endM (.inr rfl) hmk fun eJ gJ hs=>?_
    have hfr:=hfr.stp hs
    have b33:=b33.stp hs rfl
    obtain rfl:=sinj h
    obtain ⟨ad35,cv35,hp35,cF,cr35⟩:=ob_read Try.isAgg57 Try.sizeOf57 b33
    exact endm_ctt rfl rfl ((show _=p3 from rfl).trans hp35) cF (show _=.bool false from rfl) (show _=.int .i64 (5) from rfl) ⟨_,hfr,_,_,_,rfl,cr35,rfl,rfl⟩
   ·refine E_cf bA rfl ?_
    refine Zf (Za (Ze .plain rfl (D_load (g:=n9) Try.isAgg85 Try.sizeOf85 rfl q2 fun zG aH=>?_)))
    refine Zn ((.func (.func 93) #[] #[p1])) rfl rfl ?_
    obtain ⟨nB,dF,h⟩:=Ge h
    refine Ze .plain rfl (Zp (g:=n9) (vs:=[zG,(.func (.func 93) #[] #[p1])]) en90 (.cons rfl (.cons rfl .nil)) (wk90 aH ⟨93,#[],#[p1],rfl,en93,fun g' w' hch a0 b0 r hu0 hr=>by exact Fn.mono (wk93 hu0 (q1.ch hch) hr) fun _ _ _ h=>RV_bool.2 h⟩ dF) fun mE zH iJ hs hr=>?_)
    have hfr:=hfr.ext hs
    have hmk:=hmk.ext hs
    have q1:=q1.ext hs
    have q2:=q2.ext hs
    have g8:=g8.ext hs
    have b3:=b3.ext hs
    subst hr
    refine Zg (.bool (nB)) rfl rfl ?_
    refine Zb (Zd ?_)
    rcases Zt h with ⟨iA,h⟩ | ⟨iA,h⟩
    ·refine E_ct iA rfl ?_
     refine Zf (Za (Ze .plain rfl (D_storeOc (g:=mE) (v:=.slice none 0 0) Try.sizeOf57 rfl b3 rfl RV_nil fun cH dH hs b40 cb=>?_)))
     have tH:OSF 2004 60400 0 cH dH 56 57 ([]:List Zv) p3:=cb.osfr (rfl) OS.nil
     clear cb
     have hfr:=hfr.stp hs
     have hmk:=hmk.stp hs
     refine Zg (.bool false) rfl rfl ?_
     refine Zg (.int .i64 (2)) rfl rfl ?_
     refine Zb (Zd (E_ret (blk_r ?_)))
     refine thn_r ?_
     refine endM (.inr rfl) hmk fun jJ kJ hs=>?_
     have hfr:=hfr.stp hs
     have b40:=b40.stp hs rfl
     obtain rfl:=sinj h
     obtain ⟨ad42,cv42,hp42,eF,cr42⟩:=ob_read Try.isAgg57 Try.sizeOf57 b40
     exact endm_ctt rfl rfl ((show _=p3 from rfl).trans hp42) eF (show _=.bool false from rfl) (show _=.int .i64 (2) from rfl) ⟨_,hfr,_,_,_,rfl,cr42,rfl,rfl⟩
    ·refine E_cf iA rfl ?_
     exact Zu (blk_n (Zd (xE (([]:List Zv)) _ _ _ ⟨mE,hfr,hmk,rfl,q1,rfl,q2,rfl,b3,g8⟩ h)))
 ·rintro m8 aI dB gH ⟨oB, hfr, hmk, iB, lB, mB, nD, v8, oD, u4_0_43⟩ h
  obtain ⟨i6,hx,h⟩:=Ge h
  refine E_joinD (fun e ds w=>∃ (g:Gh) ,Fr gI wI g w∧MkF g w ds∧e 2=p1∧PT g.m w (x0:FaultLoom) p1∧e 3=p2∧PT g.m w (x1:List Zz) p2∧e 4=p3∧OB 2004 g w 57 (i6:List Zv) p3∧OSF 2004 60400 0 g w 56 57 (i6) p3) (fun Q' hQ=>?_) (fun uH iH bI hR=>?_)
  ·replace h := hx
   clear hx
   refine Zf (Za (Ze .plain rfl (D_load (g:=oB) Try.isAgg32 Try.sizeOf32 iB lB fun tB oE=>?_)))
   have rE:RV oB.m _ (⟨x0⟩:FaultFaultLoom) (.agg (setCh [[.int .i64 0,.slice none 0 0,.int .i64 0,.slice none 0 0]] [(0,tB)]).flatten.toArray):=RV_build rfl (rep_last (RV.cells oE))
   generalize rF:(Value.agg (setCh [[.int .i64 0,.slice none 0 0,.int .i64 0,.slice none 0 0]] [(0,tB)]).flatten.toArray)=u9 at rE
   refine Ga u9 (rF ▸ P_build (vs:=[(0,tB)]) [[.int .i64 0,.slice none 0 0,.int .i64 0,.slice none 0 0]] lay_170 rfl rfl (.cons rfl .nil) ⟨⟨_,rfl,cells_size oE⟩,trivial⟩) rfl ?_
   refine Ga ((.func (.func 96) #[u9] #[])) (P_makeFunc (capf_1_0 (show ev _ _=u9 from rfl))) rfl ?_
   refine Zb (Zd (Zr ?_))
   have hB0:=hfr.size
   have hmk0:=hmk
   obtain ⟨l9,hφ,h⟩:=Ge h
   refine E_rangeFunc (σ:=((List Zv))) (s0:=(m8)) 10 rfl (fun _=>0) [] (fun (s:(List Zv)) (g:Gh) (w:World)=>Fr gI wI g w∧MkF g w dB∧PT g.m w (x0:FaultLoom) p1∧PT g.m w (x1:List Zz) p2∧OB 2004 g w 57 (s:List Zv) p3∧OSF 2004 60400 0 g w 56 57 (s) p3) rfl (show ItV Try.prog (RA2 (α:=Zv) (β:=(List Str))) (fun σ cons s=>f96 ((⟨x0⟩:FaultFaultLoom)) σ cons s) ((.func (.func 96) #[u9] #[])) oB.m gH from ⟨96,#[u9],#[],rfl,en96,fun g' w' hch σ cons s s' h=>wk96 (rE.ch hch)  h⟩) hφ (fun _ _ _ _=>rfl) rfl ra2_size rfl (fun _ _ _ _ _ hx hR=>by obtain ⟨hfr,hmk,z2,z3,z4,z5⟩:=hR; exact ⟨hfr.ist hx hB0,hmk.ist hx,z2.ist hx,z3.ist hx,z4.ist hx,z5.ist hx⟩) (fun _ _ _ _ _ hx hR=>by obtain ⟨hfr,hmk,z2,z3,z4,z5⟩:=hR; exact ⟨hfr.stp hx,hmk.stp hx,z2.stp hx,z3.stp hx,z4.stp hx rfl,z5.stp hx rfl⟩) ⟨hfr,hmk,lB,nD,oD,u4_0_43⟩ (fun _ h=>by cases h) ?_ ?_
   ·intro dI xH s x b s2 uE jH vs hsz h hR hrec_0 vB hrd
    obtain ⟨n8,hse⟩:∃ y,y=s:=⟨s,rfl⟩
    subst hse
    obtain ⟨hfr,hmk,u3,o0,t5,u4_0_93⟩:=hR
    obtain ⟨r8,aB⟩:=x
    obtain ⟨sD,x8,rfl,k8,x5⟩:=ra2_get hrd
    have l5:=RFr.refl uE jH
    refine Zf (Za (Ze .plain rfl (D_allocOc (g:=uE) 2009 (⟨0,0,0,0,false⟩:Zv) Try.zeroValue56 (fun m w=>⟨_,(rep_two Zy (rep_two Zy (rep_two Zy (rep_two Zy rep_bool)))),rfl⟩) fun kH lJ mJ hs b94 cb=>?_)))
    have hfr:=hfr.stp hs
    have hmk:=hmk.stp hs
    have l5:=l5.stp hs
    have hrec_0:=hrec_0.stp hs rfl
    have u3:=u3.stp hs
    have o0:=o0.stp hs
    have u4_0_93:=u4_0_93.stp hs rfl
    have t5:=t5.stp hs rfl
    have k8:=k8.stp hs
    have x5:=x5.stp hs
    clear cb
    refine Ze .plain rfl (D_storeOc (g:=kH) (v:=sD) Try.sizeOf56 rfl b94 rfl k8 fun vE nJ hs b95 cb=>?_)
    clear cb
    have hfr:=hfr.stp hs
    have hmk:=hmk.stp hs
    have l5:=l5.stp hs
    have hrec_0:=hrec_0.stp hs rfl
    have u3:=u3.stp hs
    have o0:=o0.stp hs
    have u4_0_93:=u4_0_93.stp hs rfl
    have t5:=t5.stp hs rfl
    have x5:=x5.stp hs
    refine Zb (Zd (Za (Zg x8 rfl rfl ?_)))
    refine Zb (Zd ?_)
    obtain ⟨lH,hbr,hs,hrN⟩:=begin_round hrec_0 vB
    refine ⟨lH,hbr,?_⟩
    have hfr:=hfr.stp hs
    have hmk:=hmk.stp hs
    have l5:=l5.stp hs
    have u3:=u3.stp hs
    have o0:=o0.stp hs
    have u4_0_93:=u4_0_93.stp hs rfl
    have t5:=t5.stp hs rfl
    have x5:=x5.stp hs
    have b95:=b95.stp hs rfl
    have hrec_0:=hrN
    clear hbr hs hrN
    refine Zr ?_
    refine Zf (Za (Zn x8 rfl rfl ?_))
    refine Ze .plain rfl (D_load (g:=vE) Try.isAgg85 Try.sizeOf85 mB o0 fun mH nH=>?_)
    obtain ⟨iE,sF,h⟩:=Ge h
    refine Ze .plain rfl (Zp (g:=vE) (vs:=[x8,mH]) en97 (.cons rfl (.cons rfl .nil)) (wk97 x5 nH sF) fun yB iI oJ hs hr=>?_)
    have hfr:=hfr.ext hs
    have hmk:=hmk.ext hs
    have l5:=l5.ext hs
    have hrec_0:=hrec_0.ext hs
    have u3:=u3.ext hs
    have o0:=o0.ext hs
    have u4_0_93:=u4_0_93.ext hs
    have t5:=t5.ext hs
    have b95:=b95.ext hs
    subst hr
    refine Zb (Zd ?_)
    rcases Zt h with ⟨a9,h⟩ | ⟨a9,h⟩
    ·refine E_ct a9 rfl ?_
     refine Za (Ze .plain rfl (D_loadOS (g:=yB) Try.isAgg57 Try.sizeOf57 v8 t5 u4_0_93 fun jI rA o101=>?_))
     refine Ze .plain rfl (D_loadO (g:=yB) Try.isAgg56 Try.sizeOf56 rfl b95 fun tF uF=>?_)
     refine Ze .plain rfl (D_buildSlice (g:=yB) 3036 (xs:=([r8]:List Zv)) (vs:=[tF]) Try.underlying57 Try.sizeOf56 Try.zeroValue56 rfl rfl (.cons rfl .nil) (RVs.cons uF RVs.nil) rfl rfl fun vF kI lI hs o103 xF hxt hfl=>?_)
     have hfr:=hfr.stp hs
     have hmk:=hmk.stp hs
     have l5:=l5.stp hs
     have hrec_0:=hrec_0.stp hs rfl
     have u3:=u3.stp hs
     have o0:=o0.stp hs
     have t5:=t5.stp hs rfl
     have rA:=rA.stp hs
     have o101:=o101.stp hs rfl
     obtain ⟨y9,tD,h⟩:=Ge h
     refine Ze .plain rfl (D_append (g:=vF) (i:=60400) Try.underlying57 info_56 rfl rfl o101 rA rfl xF tD fun yF mI zF hs o104 zB _=>?_)
     have hfr:=hfr.stp hs
     have hmk:=hmk.stp hs
     have l5:=l5.stp hs
     have hrec_0:=hrec_0.stp hs rfl
     have u3:=u3.stp hs
     have o0:=o0.stp hs
     have t5:=t5.stp hs rfl
     refine Ze .plain rfl (D_storeOc (g:=yF) (v:=zF) Try.sizeOf57 v8 t5 rfl zB fun aG bG hs b106 cb=>?_)
     have cC:OSF 2004 60400 0 aG bG 56 57 (y9:List Zv) p3:=cb.osfr (rv_cells1 zB) (o104.stp hs rfl)
     clear cb
     have hfr:=hfr.stp hs
     have hmk:=hmk.stp hs
     have l5:=l5.stp hs
     have hrec_0:=hrec_0.stp hs rfl
     have u3:=u3.stp hs
     have o0:=o0.stp hs
     refine Zb (blk_n ?_)
     obtain ⟨rfl,rfl⟩:=pairs2 h
     exact ⟨_,l5,⟨hfr,hmk,u3,o0,b106,cC⟩,hrec_0,rfl,rfl⟩
    ·refine E_cf a9 rfl ?_
     refine Zu (blk_n ?_)
     obtain ⟨rfl,rfl⟩:=pairs2 h
     exact ⟨_,l5,⟨hfr,hmk,u3,o0,t5,u4_0_93⟩,hrec_0,rfl,rfl⟩
   ·intro cG nI ds108 hsz hR hds
    obtain ⟨hfr,hmk,mC,qC,rC,u4_0_108⟩:=hR
    obtain ⟨D,hdse,hD,hDb⟩:=hds.1 rfl
    subst hdse
    replace hmk:=MkF.push hmk0 hmk hD hDb
    clear hD hDb hds
    revert hmk
    generalize ({ target:=.collected D,args:=#[] } :: dB:List Deferred)=oH
    intro hmk
    refine ⟨fun _=>?_,fun k c hs _=>absurd hs (Nat.succ_ne_zero k).symm⟩
    refine blk_n ?_
    obtain rfl:=sinj h
    exact hQ _ _ _ ⟨cG,hfr,hmk,iB,mC,mB,qC,v8,rC,u4_0_108⟩
  ·clear hx
   obtain ⟨uC,hfr,hmk,vC,aD,bD,cD,l8,y6,u4_0_109⟩:=hR
   refine Zf (L_loadOS (x:=.tmp 4) Try.isAgg57 Try.sizeOf57 y6 u4_0_109 fun eD d9 o110 uD=>?_)
   refine Zs (x:=.tmp 2) Try.isAgg32 Try.sizeOf32 aD fun k9 gD vD=>?_
   have iD:RV uC.m _ (⟨x0⟩:FaultFaultLoom) (.agg (setCh [[.int .i64 0,.slice none 0 0,.int .i64 0,.slice none 0 0]] [(0,k9)]).flatten.toArray):=RV_build rfl (rep_last (RV.cells gD))
   generalize xD:(Value.agg (setCh [[.int .i64 0,.slice none 0 0,.int .i64 0,.slice none 0 0]] [(0,k9)]).flatten.toArray)=jD at iD
   obtain ⟨i7,yD,h⟩:=Ge h
   refine Zs (x:=.tmp 3) Try.isAgg85 Try.sizeOf85 cD fun lD eG zD=>?_
   obtain ⟨m7,aE,h⟩:=Ge h
   refine E_drawL (g:=uC) (n:=6) [(3,(fun v g w=>RV g.m w i7 v)),(5,(fun v g w=>v=.bool (m7)))] [0,1,2,3,4,5] rfl mixed (by kernel_rfl) (⟨fun _=>up_rv,fun _=>up_eq _,trivial⟩) ?_
   refine L_ld (c:=eD) rfl rfl .plain (fun _ _ h=>⟨h.ch,fun b hb _=>h.below.block b hb⟩) uD l8 ?_
   refine L_ld (c:=k9) rfl rfl .plain (fun _ _ h=>h.ch) vD vC ?_
   refine Gd jD rfl rfl (xD ▸ P_build (vs:=[(0,k9)]) [[.int .i64 0,.slice none 0 0,.int .i64 0,.slice none 0 0]] lay_170 rfl rfl (.cons rfl .nil) ⟨⟨_,rfl,cells_size gD⟩,trivial⟩) ?_
   refine L_do (φ:=fun v g w=>RV g.m w i7 v) rfl rfl .plain (fun g w hd=>Zp (g:=g) (vs:=[jD,.slice none 0 0]) en74 (.cons rfl (.cons rfl .nil)) (wk74 (iD.ext hd.1) RV_nil yD) fun g' w' v hs hr=>⟨g',hs,hr⟩) (fun yA hv=>?_)
   obtain ⟨_,_,_,rq113⟩:=hv
   refine L_ld (c:=lD) rfl rfl .plain (fun _ _ h=>h.ch) zD bD ?_
   refine L_do (φ:=fun v g w=>v=.bool (m7)) rfl rfl .plain (fun g w hd=>Zp (g:=g) (vs:=[yA,lD]) en97 (.cons rfl (.cons rfl .nil)) (wk97 (word (A:=fun g w=>RV g.m w i7 yA) 3 rfl rfl (deps_of hd)) (eG.ext hd.1) aE) fun g' w' v hs hr=>⟨g',hs,hr⟩) (fun pI hv=>?_)
   obtain ⟨_,_,_,rfl⟩:=hv
   refine L_nil fun gG qI hall=>?_
   have hs:=hall.1
   have hfr:=hfr.ext hs
   have hmk:=hmk.ext hs
   have y6:=y6.ext hs
   have d9:=d9.ext hs
   have o110:=o110.ext hs
   have sI:=(word_all (A:=fun g w=>RV g.m w i7 yA) 3 rfl hall)
   clear hs hall
   refine Ze .plain rfl (D_storeOc (g:=gG) (v:=eD) Try.sizeOf57 l8 y6 rfl d9 fun hG iG hs b128 cb=>?_)
   have pH:OSF 2004 60400 0 hG iG 56 57 (i6:List Zv) p3:=cb.osfr (rv_cells1 d9) (o110.stp hs rfl)
   clear cb
   have hfr:=hfr.stp hs
   have hmk:=hmk.stp hs
   refine Zg (.bool (m7)) rfl rfl ?_
   refine Zg (.int .i64 (0)) rfl rfl ?_
   refine Zb (Zd (E_ret (endM (.inr rfl) hmk fun tI uI hs=>?_)))
   have hfr:=hfr.stp hs
   have b128:=b128.stp hs rfl
   obtain rfl:=sinj h
   obtain ⟨ad130,cv130,hp130,bE,cr130⟩:=ob_read Try.isAgg57 Try.sizeOf57 b128
   exact endm_ctt rfl rfl ((show _=p3 from l8).trans hp130) bE (show _=.bool (m7) from rfl) (show _=.int .i64 (0) from rfl) ⟨_,hfr,_,_,_,rfl,cr130,rfl,rfl⟩
theorem W72 {iO:Nat} {gI:Gh} {wI:World} {x0:List Zw} {up0:Value} (rp0:RV gI.m wI x0 up0) {r:List Zw} (h:f72 x0=some r):FnG Try.prog 72 #[up0] gI wI (fun g w v=>OWx (Ow.list 37 (Ow.sh Zw)) iO g w r v):=by
 unfold f72 at h
 refine fnG_of_E Try.func72 rfl (Nat.le_of_ble_eq_true rfl) fun g0 hm hfr=>?_
 have rp0:RV g0.m wI x0 up0:=hm ▸ rp0
 show E _ 8 none _ _ _ _ _
 refine Zf (Za (Zg (.slice none 0 0) rfl rfl (Zb (Zd ?_))))
 refine Zf (Zf (Za (Zn up0 rfl rfl ?_)))
 obtain ⟨a,c,hv,hc,hrow⟩:=RV_list rp0
 refine Ga (.bool a.isNone) (P_slnil Try.underlying38 (show ev _ _=_ from hv)) rfl (Zb (Zd ?_))
 cases a with
 | none=>
  have hx:x0=[]:=by
   cases x0 with
   | nil=>rfl
   | cons y ys=>obtain ⟨b,off,hb,_⟩:=hrow (by simp); cases hb
  subst hx
  have hr:r=[]:=by unfold apnd at h; split at h <;> simp at h; exact h
  subst hr
  refine E_cond_true rfl (Zf (Za ?_))
  refine Zg (.slice none 0 0) rfl rfl (Zb (Zd ?_))
  obtain ⟨sk,ow,ok⟩:=OA.toW (OA.nil:OA 1 g0 wI 37 ([]:List Zw) (.slice none 0 0))
  obtain ⟨gh,hxh,_,homh⟩:=OW.hand (i:=iO) hfr ow ok; exact E_ret (thn_r (end1 rfl rfl (show _=.slice none 0 0 from rfl) ⟨gh,hxh,homh⟩))
 | some a=>
  refine E_cond_false rfl (Zu (Zd ?_))
  refine Zf (Za (Ze .plain rfl (D_buildSlice (g:=g0) 1 (xs:=([]:List Zw)) (vs:=[]) Try.underlying38 Try.sizeOf37 Try.zeroValue37 rfl rfl .nil RVs.nil rfl rfl fun g1 w1 v1 hs o1 r1 hxt hfl=>?_)))
  have hfr:=hfr.stp hs
  have rp0:=rp0.stp hs
  refine Zn up0 rfl rfl ?_
  refine Ze .plain rfl (D_appendE (g:=g1) plain_BoxShuttle (i:=1) Try.underlying38 info_37 rfl rfl o1 hfl rfl rp0 h fun g2 w2 v2 hs b2=>?_)
  have hfr:=hfr.ext hs
  refine Zg v2 rfl rfl (Zb (Zd ?_))
  obtain ⟨sk,ow,ok⟩:=OA.toW b2
  obtain ⟨gh,hxh,_,homh⟩:=OW.hand (i:=iO) hfr ow ok; exact E_ret (end1 rfl rfl (show _=v2 from rfl) ⟨gh,hxh,homh⟩)
def f17 :Option (Bool):=
 (f34 ((⟨(⟨(4:Int),([(0:Int),(1:Int),(2:Int),(3:Int),(2:Int),(1:Int)]:List Int)⟩:TieHarness),(⟨(4:Int),([(1:Int),(6:Int)]:List Int)⟩:Design)⟩:FaultLoom)) (([(⟨(1:Int),(4:Int),false⟩:Zz)]:List Zz))).bind fun u3=>
 (f75 ((⟨(⟨(4:Int),([(0:Int),(1:Int),(2:Int),(3:Int),(2:Int),(1:Int)]:List Int)⟩:TieHarness),(⟨(4:Int),([(1:Int),(6:Int)]:List Int)⟩:Design)⟩:FaultLoom)) ((⟨(1:Int),(1:Int),(2:Int),0,false⟩:Zv)) ((⟨(5:Int),0,0,(4:Int),false⟩:Zv))).bind fun o0=>
 Option.bind (α:=Bool) (
  bif (u3.2.2 == (0 : Int)) then
   bif (o0.2.2 == (0 : Int)) then
    bif (((u3.1).length : Int) == (5 : Int)) then
     bif (!u3.2.1) then
      bif (o0.1 == (1 : Int)) then
       some ((o0.2.1 == (2:Int)))
      else
       some (false)
     else
      some (false)
    else
     some (false)
   else
    some (false)
  else
   some (false)
  ) fun y6=>
 some (y6)
theorem en17:Enters Try.prog 17:=enters_of Try.func17 (by kernel_rfl) rfl
theorem wk17 {gI:Gh} {wI:World}   {r:Bool} (h:f17 =some r):Fn Try.prog 17 #[] gI wI (fun _ _ v=>v=.bool (r)):=by
 unfold f17 at h
 refine fn_of_E Try.func17 rfl (Nat.le_of_ble_eq_true rfl) fun g0 hm hfr=>?_
 show E _ 52 none _ _ _ _ _
 refine Zf (Za (Zg (.bool false) rfl rfl ?_))
 refine Zb (Zd (Zf (Za (Ze .plain rfl (D_buildSlice (g:=g0) 3008 (xs:=([(0:Int),(1:Int),(2:Int),(3:Int),(2:Int),(1:Int)]:List Int)) (vs:=[.int .i64 (0),.int .i64 (1),.int .i64 (2),.int .i64 (3),.int .i64 (2),.int .i64 (1)]) Try.underlying26 Try.sizeOf3 Try.zeroValue3 rfl rfl (.cons rfl (.cons rfl (.cons rfl (.cons rfl (.cons rfl (.cons rfl .nil)))))) (RVs.cons (Zj.2 rfl) (RVs.cons (Zj.2 rfl) (RVs.cons (Zj.2 rfl) (RVs.cons (Zj.2 rfl) (RVs.cons (Zj.2 rfl) (RVs.cons (Zj.2 rfl) RVs.nil)))))) rfl rfl fun g1 w1 v1 hs o1 r1 hxt hfl=>?_)))))
 have hfr:=hfr.stp hs
 have r2:RV g1.m _ (⟨(4:Int),([(0:Int),(1:Int),(2:Int),(3:Int),(2:Int),(1:Int)]:List Int)⟩:TieHarness) (.agg (setCh [[.int .i64 0],[.slice none 0 0]] [(0,.int .i64 (4)),(1,v1)]).flatten.toArray):=RV_build rfl (rep_pair (rfl) (rep_last (RV.cells r1)))
 generalize hv2:(Value.agg (setCh [[.int .i64 0],[.slice none 0 0]] [(0,.int .i64 (4)),(1,v1)]).flatten.toArray)=v2 at r2
 refine Ga v2 (hv2 ▸ P_build (vs:=[(0,.int .i64 (4)),(1,v1)]) [[.int .i64 0],[.slice none 0 0]] lay_28 rfl rfl (.cons rfl (.cons rfl .nil)) ⟨⟨_,rfl,rfl⟩,⟨⟨_,rfl,cells_size r1⟩,trivial⟩⟩) rfl ?_
 refine Ze .plain rfl (D_buildSlice (g:=g1) 3010 (xs:=([(1:Int),(6:Int)]:List Int)) (vs:=[.int .i64 (1),.int .i64 (6)]) Try.underlying26 Try.sizeOf3 Try.zeroValue3 rfl rfl (.cons rfl (.cons rfl .nil)) (RVs.cons (Zj.2 rfl) (RVs.cons (Zj.2 rfl) RVs.nil)) rfl rfl fun g3 w3 v3 hs o3 r3 hxt hfl=>?_)
 have hfr:=hfr.stp hs
 have r2:=r2.stp hs
 have r4:RV g3.m _ (⟨(4:Int),([(1:Int),(6:Int)]:List Int)⟩:Design) (.agg (setCh [[.int .i64 0],[.slice none 0 0]] [(0,.int .i64 (4)),(1,v3)]).flatten.toArray):=RV_build rfl (rep_pair (rfl) (rep_last (RV.cells r3)))
 generalize y9:(Value.agg (setCh [[.int .i64 0],[.slice none 0 0]] [(0,.int .i64 (4)),(1,v3)]).flatten.toArray)=v4 at r4
 refine Ga v4 (y9 ▸ P_build (vs:=[(0,.int .i64 (4)),(1,v3)]) [[.int .i64 0],[.slice none 0 0]] lay_30 rfl rfl (.cons rfl (.cons rfl .nil)) ⟨⟨_,rfl,rfl⟩,⟨⟨_,rfl,cells_size r3⟩,trivial⟩⟩) rfl ?_
 have r5:RV g3.m _ (⟨(⟨(4:Int),([(0:Int),(1:Int),(2:Int),(3:Int),(2:Int),(1:Int)]:List Int)⟩:TieHarness),(⟨(4:Int),([(1:Int),(6:Int)]:List Int)⟩:Design)⟩:FaultLoom) (.agg (setCh [[.int .i64 0,.slice none 0 0],[.int .i64 0,.slice none 0 0]] [(0,v2),(1,v4)]).flatten.toArray):=RV_build rfl (rep_pair (RV.cells r2) (rep_last (RV.cells r4)))
 generalize z9:(Value.agg (setCh [[.int .i64 0,.slice none 0 0],[.int .i64 0,.slice none 0 0]] [(0,v2),(1,v4)]).flatten.toArray)=v5 at r5
 refine Ga v5 (z9 ▸ P_build (vs:=[(0,v2),(1,v4)]) [[.int .i64 0,.slice none 0 0],[.int .i64 0,.slice none 0 0]] lay_32 rfl rfl (.cons rfl (.cons rfl .nil)) ⟨⟨_,rfl,cells_size r2⟩,⟨⟨_,rfl,cells_size r4⟩,trivial⟩⟩) rfl ?_
 refine Ze .plain rfl (D_allocOc (g:=g3) 2001 (⟨⟨0,[]⟩,⟨0,[]⟩⟩:FaultLoom) Try.zeroValue32 (fun m w=>⟨_,(rep_two (rep_two Zy rep_nil) (rep_two Zy rep_nil)),rfl⟩) fun g6 w6 p6 hs b6 cb=>?_)
 have hfr:=hfr.stp hs
 have r5:=r5.stp hs
 have tB:OSF 2001 60101 1 g6 w6 3 32 ([]:List Int) p6:=cb.osf (by rfl)
 have vB:OSF 2001 60103 3 g6 w6 3 32 ([]:List Int) p6:=cb.osf (by rfl)
 clear cb
 refine Ze .plain rfl (D_storeOc (g:=g6) (v:=v5) Try.sizeOf32 rfl b6 rfl r5 fun g7 w7 hs b7 cb=>?_)
 clear cb
 have hfr:=hfr.stp hs
 refine Zb (Zd (Zf (Za (Ze .plain rfl (D_loadO (g:=g7) Try.isAgg32 Try.sizeOf32 rfl b7 fun v8 r8=>?_)))))
 have r9:RV g7.m w7 (⟨(1:Int),(4:Int),false⟩:Zz) (.agg (setCh [[.int .i64 0],[.int .i64 0],[.bool false]] [(0,.int .i64 (1)),(1,.int .i64 (4))]).flatten.toArray):=RV_build rfl (rep_pair (rfl) (rep_pair (rfl) (rep_last (rep_bool))))
 generalize bA:(Value.agg (setCh [[.int .i64 0],[.int .i64 0],[.bool false]] [(0,.int .i64 (1)),(1,.int .i64 (4))]).flatten.toArray)=v9 at r9
 refine Ga v9 (bA ▸ P_build (vs:=[(0,.int .i64 (1)),(1,.int .i64 (4))]) [[.int .i64 0],[.int .i64 0],[.bool false]] lay_87 rfl rfl (.cons rfl (.cons rfl .nil)) ⟨⟨_,rfl,rfl⟩,⟨⟨_,rfl,rfl⟩,trivial⟩⟩) rfl ?_
 refine Ze .plain rfl (D_buildSlice (g:=g7) 3016 (xs:=([(⟨(1:Int),(4:Int),false⟩:Zz)]:List Zz)) (vs:=[v9]) Try.underlying85 Try.sizeOf87 Try.zeroValue87 rfl rfl (.cons rfl .nil) (RVs.cons r9 RVs.nil) rfl rfl fun iA cC rA hs o10 yA hxt hfl=>?_)
 have hfr:=hfr.stp hs
 have b7:=b7.stp hs rfl
 have r8:=r8.stp hs
 obtain ⟨u3,k9,h⟩:=Ge h
 refine Ze .plain rfl (Zp (g:=iA) (vs:=[v8,rA]) en34 (.cons rfl (.cons rfl .nil)) (wk34 r8 yA k9) fun k8 l8 mC hs hr=>?_)
 have hfr:=hfr.ext hs
 have b7:=b7.ext hs
 obtain ⟨i7,iB,lB,rfl,g8,rfl,rfl⟩:=hr
 refine Zn (.tuple #[i7,.bool (u3.2.1),.int .i64 (u3.2.2)]) rfl rfl ?_
 refine Ga i7 (Zi rfl rfl) rfl ?_
 refine Ga (.bool (u3.2.1)) (Zi rfl rfl) rfl ?_
 refine Ga (.int .i64 (u3.2.2)) (Zi rfl rfl) rfl ?_
 refine Zg i7 rfl rfl ?_
 refine Zg (.bool (u3.2.1)) rfl rfl ?_
 refine Zg (.int .i64 (u3.2.2)) rfl rfl ?_
 refine Zb (Zd (Zf (Za (Ze .plain rfl (D_loadO (g:=k8) Try.isAgg32 Try.sizeOf32 rfl b7 fun aB dB=>?_)))))
 have n8:RV k8.m l8 (⟨(1:Int),(1:Int),(2:Int),0,false⟩:Zv) (.agg (setCh [[.int .i64 0],[.int .i64 0],[.int .i64 0],[.int .i64 0],[.bool false]] [(0,.int .i64 (1)),(1,.int .i64 (1)),(2,.int .i64 (2))]).flatten.toArray):=RV_build rfl (rep_pair (rfl) (rep_pair (rfl) (rep_pair (rfl) (rep_pair (Zy) (rep_last (rep_bool))))))
 generalize l9:(Value.agg (setCh [[.int .i64 0],[.int .i64 0],[.int .i64 0],[.int .i64 0],[.bool false]] [(0,.int .i64 (1)),(1,.int .i64 (1)),(2,.int .i64 (2))]).flatten.toArray)=x8 at n8
 refine Ga x8 (l9 ▸ P_build (vs:=[(0,.int .i64 (1)),(1,.int .i64 (1)),(2,.int .i64 (2))]) [[.int .i64 0],[.int .i64 0],[.int .i64 0],[.int .i64 0],[.bool false]] lay_56 rfl rfl (.cons rfl (.cons rfl (.cons rfl .nil))) ⟨⟨_,rfl,rfl⟩,⟨⟨_,rfl,rfl⟩,⟨⟨_,rfl,rfl⟩,trivial⟩⟩⟩) rfl ?_
 have a9:RV k8.m l8 (⟨(5:Int),0,0,(4:Int),false⟩:Zv) (.agg (setCh [[.int .i64 0],[.int .i64 0],[.int .i64 0],[.int .i64 0],[.bool false]] [(0,.int .i64 (5)),(3,.int .i64 (4))]).flatten.toArray):=RV_build rfl (rep_pair (rfl) (rep_pair (Zy) (rep_pair (Zy) (rep_pair (rfl) (rep_last (rep_bool))))))
 generalize n9:(Value.agg (setCh [[.int .i64 0],[.int .i64 0],[.int .i64 0],[.int .i64 0],[.bool false]] [(0,.int .i64 (5)),(3,.int .i64 (4))]).flatten.toArray)=d9 at a9
 refine Ga d9 (n9 ▸ P_build (vs:=[(0,.int .i64 (5)),(3,.int .i64 (4))]) [[.int .i64 0],[.int .i64 0],[.int .i64 0],[.int .i64 0],[.bool false]] lay_56 rfl rfl (.cons rfl (.cons rfl .nil)) ⟨⟨_,rfl,rfl⟩,⟨⟨_,rfl,rfl⟩,trivial⟩⟩) rfl ?_
 obtain ⟨o0,u9,h⟩:=Ge h
 refine Ze .plain rfl (Zp (g:=k8) (vs:=[aB,x8,d9]) en75 (.cons rfl (.cons rfl (.cons rfl .nil))) (wk75 dB n8 a9 u9) fun m7 yB qC hs hr=>?_)
 have hfr:=hfr.ext hs
 have g8:=g8.ext hs
 obtain ⟨mB,nB,oB,rfl,rfl,rfl,rfl⟩:=hr
 refine Zn (.tuple #[.int .i64 (o0.1),.int .i64 (o0.2.1),.int .i64 (o0.2.2)]) rfl rfl ?_
 refine Ga (.int .i64 (o0.1)) (Zi rfl rfl) rfl ?_
 refine Ga (.int .i64 (o0.2.1)) (Zi rfl rfl) rfl ?_
 refine Ga (.int .i64 (o0.2.2)) (Zi rfl rfl) rfl ?_
 refine Zg (.int .i64 (o0.1)) rfl rfl ?_
 refine Zg (.int .i64 (o0.2.1)) rfl rfl ?_
 refine Zg (.int .i64 (o0.2.2)) rfl rfl ?_
 refine Zb (Zd ?_)
 obtain ⟨y6,hx,h⟩:=Ge h
 refine E_join (fun e w=>∃ (g:Gh) ,Fr gI wI g w∧e 0=.bool (y6)) (fun Q' hQ=>?_) (fun zB rC hR=>?_)
 ·replace h := hx
  clear hx
  refine Za (Zn (.int .i64 (u3.2.2)) rfl rfl ?_)
  refine EL_in (.bool ((u3.2.2 == (0:Int)))) rfl rfl rfl rfl ?_
  refine Zn (.bool ((u3.2.2 == (0:Int)))) rfl rfl ?_
  rcases Zt h with ⟨t5,h⟩ | ⟨t5,h⟩
  ·refine Gb (.int .i64 (o0.2.2)) (Zk rfl) rfl rfl t5 rfl ?_
   refine Gb (.bool ((o0.2.2 == (0:Int)))) (P_int rfl rfl rfl) rfl rfl t5 rfl ?_
   refine Ga (.bool ((o0.2.2 == (0:Int)))) (Zl (b:=(u3.2.2 == (0:Int))) rfl (pick_t t5 rfl)) rfl ?_
   refine Zn (.bool ((o0.2.2 == (0:Int)))) rfl rfl ?_
   rcases Zt h with ⟨l5,h⟩ | ⟨l5,h⟩
   ·refine Gb i7 (Zk rfl) rfl rfl l5 rfl ?_
    refine Gb (.int .i64 ((u3.1).length:Int)) (P_len Try.underlying57 rfl g8) rfl rfl l5 rfl ?_
    refine Gb (.bool ((((u3.1).length:Int) == (5:Int)))) (P_int rfl rfl rfl) rfl rfl l5 rfl ?_
    refine Ga (.bool ((((u3.1).length:Int) == (5:Int)))) (Zl (b:=(o0.2.2 == (0:Int))) rfl (pick_t l5 rfl)) rfl ?_
    refine Zn (.bool ((((u3.1).length:Int) == (5:Int)))) rfl rfl ?_
    rcases Zt h with ⟨x5,h⟩ | ⟨x5,h⟩
    ·refine Gb (.bool (u3.2.1)) (Zk rfl) rfl rfl x5 rfl ?_
     refine Gb (.bool (!u3.2.1)) (P_not rfl) rfl rfl x5 rfl ?_
     refine Ga (.bool (!u3.2.1)) (Zl (b:=(((u3.1).length:Int) == (5:Int))) rfl (pick_t x5 rfl)) rfl ?_
     refine Zn (.bool (!u3.2.1)) rfl rfl ?_
     rcases Zt h with ⟨i6,h⟩ | ⟨i6,h⟩
     ·refine Gb (.int .i64 (o0.1)) (Zk rfl) rfl rfl i6 rfl ?_
      refine Gb (.bool ((o0.1 == (1:Int)))) (P_int rfl rfl rfl) rfl rfl i6 rfl ?_
      refine Ga (.bool ((o0.1 == (1:Int)))) (Zl (b:=(!u3.2.1)) rfl (pick_t i6 rfl)) rfl ?_
      refine Zn (.bool ((o0.1 == (1:Int)))) rfl rfl ?_
      rcases Zt h with ⟨x6,h⟩ | ⟨x6,h⟩
      ·refine Gb (.int .i64 (o0.2.1)) (Zk rfl) rfl rfl x6 rfl ?_
       refine Gb (.bool ((o0.2.1 == (2:Int)))) (P_int rfl rfl rfl) rfl rfl x6 rfl ?_
       refine Ga (.bool ((o0.2.1 == (2:Int)))) (Zl (b:=(o0.1 == (1:Int))) rfl (pick_t x6 rfl)) rfl ?_
       refine Zg (.bool ((o0.2.1 == (2:Int)))) rfl rfl ?_
       refine Zb ?_
       obtain rfl:=sinj h
       exact hQ _ _ ⟨m7,hfr,rfl⟩
      ·refine Gc rfl rfl x6 rfl rfl ?_
       refine Gc rfl rfl x6 rfl rfl ?_
       refine Ga (.bool false) (Zl (b:=(o0.1 == (1:Int))) rfl (pick_f x6 rfl)) rfl ?_
       refine Zg (.bool false) rfl rfl ?_
       refine Zb ?_
       obtain rfl:=sinj h
       exact hQ _ _ ⟨m7,hfr,rfl⟩
     ·refine Gc rfl rfl i6 rfl rfl ?_
      refine Gc rfl rfl i6 rfl rfl ?_
      refine Ga (.bool false) (Zl (b:=(!u3.2.1)) rfl (pick_f i6 rfl)) rfl ?_
      refine EL_dead 4 rfl ?_
      refine Zg (.bool false) rfl rfl ?_
      refine Zb ?_
      obtain rfl:=sinj h
      exact hQ _ _ ⟨m7,hfr,rfl⟩
    ·refine Gc rfl rfl x5 rfl rfl ?_
     refine Gc rfl rfl x5 rfl rfl ?_
     refine Ga (.bool false) (Zl (b:=(((u3.1).length:Int) == (5:Int))) rfl (pick_f x5 rfl)) rfl ?_
     refine EL_dead 8 rfl ?_
     refine Zg (.bool false) rfl rfl ?_
     refine Zb ?_
     obtain rfl:=sinj h
     exact hQ _ _ ⟨m7,hfr,rfl⟩
   ·refine Gc rfl rfl l5 rfl rfl ?_
    refine Gc rfl rfl l5 rfl rfl ?_
    refine Gc rfl rfl l5 rfl rfl ?_
    refine Ga (.bool false) (Zl (b:=(o0.2.2 == (0:Int))) rfl (pick_f l5 rfl)) rfl ?_
    refine EL_dead 12 rfl ?_
    refine Zg (.bool false) rfl rfl ?_
    refine Zb ?_
    obtain rfl:=sinj h
    exact hQ _ _ ⟨m7,hfr,rfl⟩
  ·refine Gc rfl rfl t5 rfl rfl ?_
   refine Gc rfl rfl t5 rfl rfl ?_
   refine Ga (.bool false) (Zl (b:=(u3.2.2 == (0:Int))) rfl (pick_f t5 rfl)) rfl ?_
   refine EL_dead 17 rfl ?_
   refine Zg (.bool false) rfl rfl ?_
   refine Zb ?_
   obtain rfl:=sinj h
   exact hQ _ _ ⟨m7,hfr,rfl⟩
 ·clear hx
  obtain ⟨uC,hfr,m8⟩:=hR
  refine E_ret ?_
  obtain rfl:=sinj h
  exact end1 rfl rfl (show _=.bool (y6) from m8) ⟨_,hfr,rfl⟩
def f12 (x0:BoxLoom) (x1:List BoxPick):Option ((List Int) × BoxLoom × Int × Int × Int):=
 (f70 x0 x1).bind fun y5=>
 jn (σ:=(List Int) × BoxLoom) (fun (sG,l8)=>
  Option.bind (α:=(List Int)) (
   lp (σ:=(List Int) × Int) (fun nI (tD,i7)=>
    bif (decide (i7 < (((y5.2.1).thrown).length : Int))) then
     Option.bind (α:=(List Int)) (
      (idx ((y5.2.1).thrown) i7).bind fun cC=>
      (idx (((y5.1).BoxLoom).Shuttles) (w64 (cC - (1:Int)))).bind fun y125=>
      (apnd 8 tD (([(y125).Colour]:List Int))).bind fun pI=>
      some (pI)
      ) fun nB=>
     nI (nB,(w64 (i7 + (1:Int))))
    else
     some (tD)
    ) big (sG,(0:Int))
   ) fun y6=>
  (f71 (((y5.1).BoxLoom).Boxes)).bind fun mC=>
  (f72 (((y5.1).BoxLoom).Shuttles)).bind fun qC=>
  Option.bind (α:=BoxLoom) (
   lp (σ:=BoxLoom × Int) (fun qI (uD,u3)=>
    bif (decide (u3 < (2 : Int))) then
     Option.bind (α:=BoxLoom) (
      (idx (((y5.2.1).last).boxes).toList u3).bind fun zE=>
      lp (σ:=BoxLoom × Int) (fun sI (o0,x6)=>
       bif (decide (x6 < (4 : Int))) then
        Option.bind (α:=BoxLoom) (
         (idx (zE).toList x6).bind fun x5=>
         bif (decide (x5 > (0 : Int))) then
          (idx ((o0).Shuttles) ((w64 (x5 - (1:Int))))).bind fun m8=>
          (idx ((({ o0 with Shuttles:=(List.set ((o0).Shuttles) (Int.toNat ((w64 (x5 - (1:Int))))) ({ m8 with Side:=u3 }:Zw)) }:BoxLoom)).Shuttles) ((w64 (x5 - (1:Int))))).bind fun cF=>
          some (({ (({ o0 with Shuttles:=(List.set ((o0).Shuttles) (Int.toNat ((w64 (x5 - (1:Int))))) ({ m8 with Side:=u3 }:Zw)) }:BoxLoom)) with Shuttles:=(List.set ((({ o0 with Shuttles:=(List.set ((o0).Shuttles) (Int.toNat ((w64 (x5 - (1:Int))))) ({ m8 with Side:=u3 }:Zw)) }:BoxLoom)).Shuttles) (Int.toNat ((w64 (x5 - (1:Int))))) ({ cF with Box:=x6 }:Zw)) }:BoxLoom))
         else
          some (o0)
         ) fun uC=>
        sI (uC,(w64 (x6 + (1:Int))))
       else
        some (o0)
       ) big (uD,(0:Int))
      ) fun vC=>
     qI (vC,(w64 (u3 + (1:Int))))
    else
     some (uD)
    ) big ((⟨mC,([(((y5.2.1).last).at_).Left,(((y5.2.1).last).at_).Right]:List Int),qC⟩:BoxLoom),(0:Int))
   ) fun vD=>
  some (y6,vD,(y5.2.1).moves,(0:Int),(0:Int))
  ) fun yL=>
 bif (y5.2.2.2 != (0 : Int)) then
  some ([],(⟨[],[],[]⟩:BoxLoom),(0:Int),y5.2.2.1,y5.2.2.2)
 else
  yL ([],(⟨[],[],[]⟩:BoxLoom))
theorem en12:Enters Try.prog 12:=enters_of Try.func12 (by kernel_rfl) rfl
theorem wk12 {gI:Gh} {wI:World} {x0:BoxLoom} {x1:List BoxPick} {up0:Value} (rp0:RV gI.m wI x0 up0) {up1:Value} (rp1:RV gI.m wI x1 up1) {r:(List Int) × BoxLoom × Int × Int × Int} (h:f12 x0 x1=some r):Fn Try.prog 12 #[up0,up1] gI wI (fun m w v=>∃ y0 y1 y2 y3 y4,v=.tuple #[y0,y1,y2,y3,y4]∧RV m w (r.1) y0∧RV m w (r.2.1) y1∧y2=.int .i64 (r.2.2.1)∧y3=.int .i64 (r.2.2.2.1)∧y4=.int .i64 (r.2.2.2.2)):=by
 unfold f12 at h
 refine fn_of_E Try.func12 rfl (Nat.le_of_ble_eq_true rfl) fun g0 hm hfr=>?_
 have rp0:RV g0.m wI x0 up0:=hm ▸ rp0
 have rp1:RV g0.m wI x1 up1:=hm ▸ rp1
 show E _ 101 none _ _ _ _ _
 refine Zf (Za (Ze .plain rfl (D_box (g:=g0) rfl rp0 fun g1 w1 p1 hs q1=>?_)))
 have hfr:=hfr.ext hs
 have rp1:=rp1.ext hs
 refine Zg (.slice none 0 0) rfl rfl ?_
 refine Ze .plain rfl (D_allocOc (g:=g1) 2005 (⟨[],[],[]⟩:BoxLoom) Try.zeroValue40 (fun m w=>⟨_,(rep_two rep_nil (rep_two rep_nil rep_nil)),rfl⟩) fun g2 w2 p2 hs b2 cb=>?_)
 have hfr:=hfr.stp hs
 have rp1:=rp1.stp hs
 have q1:=q1.stp hs
 have u9:OSF 2005 60500 0 g2 w2 3 40 ([]:List Int) p2:=cb.osf (by rfl)
 have y9:OSF 2005 60501 1 g2 w2 3 40 ([]:List Int) p2:=cb.osf (by rfl)
 have z9:OSF 2005 60502 2 g2 w2 37 40 ([]:List Zw) p2:=cb.osf (by rfl)
 clear cb
 iterate 3 refine Zg (.int .i64 (0)) rfl rfl ?_
 refine Zb (Zd (Zf (Za (Ze .plain rfl (D_load (g:=g2) Try.isAgg40 Try.sizeOf40 rfl q1 fun v3 r3=>?_)))))
 refine Zn up1 rfl rfl ?_
 obtain ⟨y5,hy5,h⟩:=Ge h
 refine Ze .plain rfl (Zp (g:=g2) (vs:=[v3,up1]) en70 (.cons rfl (.cons rfl .nil)) (wk70 r3 rp1 hy5) fun g4 w4_ v4 hs hr=>?_)
 have hfr:=hfr.ext hs
 have u9:=u9.ext hs
 have y9:=y9.ext hs
 have z9:=z9.ext hs
 have b2:=b2.ext hs
 obtain ⟨gG,hG,eO,gO,rfl,xD,rC,rfl,rfl⟩:=hr
 refine Zn (.tuple #[gG,hG,.int .i64 (y5.2.2.1),.int .i64 (y5.2.2.2)]) rfl rfl ?_
 refine Ga gG (Zi rfl rfl) rfl ?_
 refine Ga hG (Zi rfl rfl) rfl ?_
 refine Ga (.int .i64 (y5.2.2.1)) (Zi rfl rfl) rfl ?_
 refine Ga (.int .i64 (y5.2.2.2)) (Zi rfl rfl) rfl ?_
 refine Ze .plain rfl (D_allocOc (g:=g4) 2009 (⟨⟨[],[],[]⟩⟩:BoxBoxLoom) Try.zeroValue142 (fun m w=>⟨_,(rep_two rep_nil (rep_two rep_nil rep_nil)),rfl⟩) fun g6 w6 p6 hs b6 cb=>?_)
 have hfr:=hfr.stp hs
 have u9:=u9.stp hs rfl
 have y9:=y9.stp hs rfl
 have z9:=z9.stp hs rfl
 have b2:=b2.stp hs rfl
 have xD:=xD.stp hs
 have rC:=rC.stp hs
 have jO:OSF 2009 60900 0 g6 w6 3 142 ([]:List Int) p6:=cb.osf (by rfl)
 have kO:OSF 2009 60901 1 g6 w6 3 142 ([]:List Int) p6:=cb.osf (by rfl)
 have lO:OSF 2009 60902 2 g6 w6 37 142 ([]:List Zw) p6:=cb.osf (by rfl)
 clear cb
 refine Ze .plain rfl (D_allocOc (g:=g6) 2010 (⟨[],⟨(⟨List.toArray [(⟨List.toArray [0,0,0,0],rfl⟩:Vector Int 4),(⟨List.toArray [0,0,0,0],rfl⟩:Vector Int 4)],rfl⟩:Vector (Vector Int 4) 2),⟨0,0⟩⟩,0⟩:BoxRun) Try.zeroValue164 (fun m w=>⟨_,(rep_two rep_nil (rep_two (rep_two (rep_vec (Zx (rep_vec (Zx Zy (Zx Zy (Zx Zy (Zx Zy flat_nil)))) rfl) (Zx (rep_vec (Zx Zy (Zx Zy (Zx Zy (Zx Zy flat_nil)))) rfl) flat_nil)) rfl) (rep_two Zy Zy)) Zy)),rfl⟩) fun g7 w7 p7 hs b7 cb=>?_)
 have hfr:=hfr.stp hs
 have u9:=u9.stp hs rfl
 have y9:=y9.stp hs rfl
 have z9:=z9.stp hs rfl
 have b2:=b2.stp hs rfl
 have xD:=xD.stp hs
 have rC:=rC.stp hs
 have b6:=b6.stp hs rfl
 have mO:OSF 2010 61000 0 g7 w7 3 164 ([]:List Int) p7:=cb.osf (by rfl)
 clear cb
 refine Ze .plain rfl (D_storeOc (g:=g7) (v:=gG) Try.sizeOf142 rfl b6 rfl xD fun g8 w8 hs b8 cb=>?_)
 clear cb
 have hfr:=hfr.stp hs
 have u9:=u9.stp hs rfl
 have y9:=y9.stp hs rfl
 have z9:=z9.stp hs rfl
 have b2:=b2.stp hs rfl
 have rC:=rC.stp hs
 have b7:=b7.stp hs rfl
 refine Ze .plain rfl (D_storeOc (g:=g8) (v:=hG) Try.sizeOf164 rfl b7 rfl rC fun g9 w9 hs b9 cb=>?_)
 clear cb
 have hfr:=hfr.stp hs
 have u9:=u9.stp hs rfl
 have y9:=y9.stp hs rfl
 have z9:=z9.stp hs rfl
 have b2:=b2.stp hs rfl
 have b8:=b8.stp hs rfl
 refine Zg (.int .i64 (y5.2.2.1)) rfl rfl ?_
 refine Zg (.int .i64 (y5.2.2.2)) rfl rfl ?_
 refine Zb (Zd (Zq h (fun (s:(List Int) × BoxLoom) e w=>∃ (g:Gh) (v4:Value),Fr gI wI g w∧e 4=v4∧RV g.m w (s.1:List Int) v4∧OS 1004 g w 3 (s.1:List Int) v4∧e 5=p2∧OB 2005 g w 40 (s.2:BoxLoom) p2∧OSF 2005 60500 0 g w 3 40 ((s.2).Boxes) p2∧OSF 2005 60501 1 g w 3 40 ((s.2).At) p2∧OSF 2005 60502 2 g w 37 40 ((s.2).Shuttles) p2∧e 9=p6∧OB 2009 g w 142 (y5.1:BoxBoxLoom) p6∧e 10=p7∧OB 2010 g w 164 (y5.2.1:BoxRun) p7) (fun X38 yL aM h=>?_) ?_))
 ·refine Zf (Za (Zn (.int .i64 (y5.2.2.2)) rfl rfl ?_))
  refine EL_in (.bool ((y5.2.2.2 != (0:Int)))) rfl rfl rfl rfl ?_
  refine Zb (Zd ?_)
  rcases Zt h with ⟨iG,h⟩ | ⟨iG,h⟩
  ·refine E_ct iG rfl ?_
   refine Zf (L_selfO Try.isAgg40 Try.sizeOf40 rfl b2 fun tN bM cM=>?_)
   refine E_drawL (g:=g9) (n:=8) [(4,(fun _ _ _=>True))] [0,1,2,3,4,5,6,7] rfl mixed (by kernel_rfl) (⟨fun _=>(fun _ _ _ _ _ _=>trivial),trivial⟩) ?_
   refine L_ld (c:=tN) rfl rfl .plain (fun _ _ h=>⟨h.ch,fun b hb _=>h.below.block b hb⟩) (bM _) rfl ?_
   refine Gd (.int .i64 (y5.2.2.1)) rfl rfl (Zk rfl) ?_
   refine Gd (.int .i64 (y5.2.2.2)) rfl rfl (Zk rfl) ?_
   refine Gd (.slice none 0 0) rfl rfl (P_assign rfl) ?_
   refine L_do (φ:=fun _ _ _=>True) rfl rfl .plain (fun g w hd=>cM _ _ _ g w ⟨hd.1.ch,fun b hb _=>hd.1.below.block b hb⟩ rfl rfl) (fun sP hv=>?_)
   clear hv
   refine Gd (.int .i64 (0)) rfl rfl (P_assign rfl) ?_
   refine Gd (.int .i64 (y5.2.2.1)) rfl rfl (P_assign rfl) ?_
   refine Gd (.int .i64 (y5.2.2.2)) rfl rfl (P_assign rfl) ?_
   refine L_nl fun tP uP hs=>?_
   have hfr:=hfr.ext hs
   have b2:=b2.ext hs
   clear hs
   refine Zb (Zd (E_ret (thn_r ?_)))
   obtain rfl:=sinj h
   obtain ⟨ad67,cv67,hp67,dM,cr67⟩:=ob_read Try.isAgg40 Try.sizeOf40 b2
   exact endm_tcttt rfl rfl (show _=.slice none 0 0 from rfl) ((show _=p2 from rfl).trans hp67) dM (show _=.int .i64 (0) from rfl) (show _=.int .i64 (y5.2.2.1) from rfl) (show _=.int .i64 (y5.2.2.2) from rfl) ⟨_,hfr,_,_,_,_,_,rfl,RV_nil,cr67,rfl,rfl,rfl⟩
  ·refine E_cf iG rfl ?_
   exact Zu (Zd (aM ([],(⟨[],[],[]⟩:BoxLoom)) _ _ ⟨g9,(.slice none 0 0),hfr,rfl,RV_nil,OS.nil,rfl,b2,u9,y9,z9,rfl,b8,rfl,b9⟩ h))
 ·rintro ⟨sG, l8⟩ nO vP ⟨zL, uK, hfr, vK, xK, yK, zK, aL, u5_0_68, u5_1_68, u5_2_68, bL, dL, xF, yD⟩ h
  obtain ⟨y6,hx,h⟩:=Ge h
  refine E_join (fun e w=>∃ (g:Gh) (v4:Value),Fr gI wI g w∧e 4=v4∧RV g.m w (y6:List Int) v4∧OS 1004 g w 3 (y6:List Int) v4∧e 5=p2∧OB 2005 g w 40 (l8:BoxLoom) p2∧OSF 2005 60500 0 g w 3 40 ((l8).Boxes) p2∧OSF 2005 60501 1 g w 3 40 ((l8).At) p2∧OSF 2005 60502 2 g w 37 40 ((l8).Shuttles) p2∧e 9=p6∧OB 2009 g w 142 (y5.1:BoxBoxLoom) p6∧e 10=p7∧OB 2010 g w 164 (y5.2.1:BoxRun) p7) (fun Q' hQ=>?_) (fun vN oO hR=>?_)
  ·replace h := hx
   clear hx
   refine Zf (Za (Ga (fPtr p7 0) (Zc at_164_0 xF (OB.ptr yD)) rfl ?_))
   refine Ze .plain rfl (D_loadF (g:=zL) part_BoxRun_0.1 Try.isAgg26 Try.sizeOf26 rfl yD fun zD tI=>?_)
   refine Ga (.int .i64 (((y5.2.1).thrown).length:Int)) (P_len Try.underlying26 rfl tI) rfl ?_
   refine Zn (.int .i64 (0)) rfl rfl ?_
   refine Zb (Zd (Zr ?_))
   refine E_lp h (fun (s:(List Int) × Int) e w=>∃ (g:Gh) (v4:Value),Fr gI wI g w∧e 4=v4∧RV g.m w (s.1:List Int) v4∧OS 1004 g w 3 (s.1:List Int) v4∧e 5=p2∧OB 2005 g w 40 (l8:BoxLoom) p2∧OSF 2005 60500 0 g w 3 40 ((l8).Boxes) p2∧OSF 2005 60501 1 g w 3 40 ((l8).At) p2∧OSF 2005 60502 2 g w 37 40 ((l8).Shuttles) p2∧e 9=p6∧OB 2009 g w 142 (y5.1:BoxBoxLoom) p6∧e 10=p7∧OB 2010 g w 164 (y5.2.1:BoxRun) p7∧e 31=zD∧RV g.m w ((y5.2.1).thrown:List Int) zD∧e 32=.int .i64 ((((y5.2.1).thrown).length:Int))∧e 33=.int .i64 (s.2)) ⟨zL,(uK),hfr,vK,xK,yK,zK,aL,u5_0_68,u5_1_68,u5_2_68,bL,dL,xF,yD,rfl,tI,rfl,rfl⟩ (fun X103 nI eL=>?_)
   rintro ⟨tD,i7⟩ xN pO ⟨aE,uI,hfr,yF,aD,bD,zF,yA,u5_0_104,u5_1_104,u5_2_104,bE,r8,mE,k9,oE,v8,rE,gD⟩ h
   refine Zf (Za (Ga (.bool ((decide (i7 < (((y5.2.1).thrown).length:Int))))) (P_int gD rE rfl) rfl ?_))
   refine Zb (Zd (Zf ?_))
   rcases Zt h with ⟨dF,h⟩ | ⟨dF,h⟩
   ·refine E_ct dF rfl ?_
    refine Zu (Zd ?_)
    obtain ⟨nB,hx,h⟩:=Ge h
    refine E_join (fun e w=>∃ (g:Gh) (v4:Value),Fr gI wI g w∧e 4=v4∧RV g.m w (nB:List Int) v4∧OS 1004 g w 3 (nB:List Int) v4∧e 5=p2∧OB 2005 g w 40 (l8:BoxLoom) p2∧OSF 2005 60500 0 g w 3 40 ((l8).Boxes) p2∧OSF 2005 60501 1 g w 3 40 ((l8).At) p2∧OSF 2005 60502 2 g w 37 40 ((l8).Shuttles) p2∧e 9=p6∧OB 2009 g w 142 (y5.1:BoxBoxLoom) p6∧e 10=p7∧OB 2010 g w 164 (y5.2.1:BoxRun) p7∧e 31=zD∧RV g.m w ((y5.2.1).thrown:List Int) zD∧e 32=.int .i64 ((((y5.2.1).thrown).length:Int))∧e 33=.int .i64 (i7)) (fun Q' hQ=>?_) (fun yN qO hR=>?_)
    ·replace h := hx
     clear hx
     refine Zr ?_
     refine Zf (Za ?_)
     obtain ⟨cC,xG,h⟩:=Ge h
     refine Ga (ePtr zD i7 1) (Zh (α:=Int) Try.underlying26 Try.sizeOf3 oE v8 gD xG) rfl ?_
     have eM:=PT_idx v8 xG
     refine Ze .plain rfl (D_load (g:=aE) Try.isAgg3 Try.sizeOf3 rfl eM fun rO iM=>?_)
     obtain rfl:=Zj.1 iM
     refine Zg (.int .i64 (cC)) rfl rfl ?_
     refine Zb (Zd (Za (Zo yF rfl ?_)))
     refine Ga (fPtr p6 0) (Zc at_142_0 bE (OB.ptr r8)) rfl ?_
     refine Ga (fPtr p6 2) (P_fieldAddr2 (o1:=0) rfl at_40_2 rfl (OB.ptr r8)) rfl ?_
     refine Ze .plain rfl (D_loadF (g:=aE) (SubS.comp part_BoxBoxLoom_0 part_BoxLoom_2 rfl).1 Try.isAgg38 Try.sizeOf38 rfl r8 fun vI yI=>?_)
     refine Zn (.int .i64 (cC)) rfl rfl ?_
     refine EL_in (.int .i64 ((w64 (cC - (1:Int))))) rfl rfl rfl rfl ?_
     obtain ⟨y125,yG,h⟩:=Ge h
     refine Ga (ePtr vI (w64 (cC - (1:Int))) 5) (Zh (α:=Zw) Try.underlying38 Try.sizeOf37 rfl yI rfl yG) rfl ?_
     have zI:=PT_idx yI yG
     refine Ga (fPtr (ePtr vI (w64 (cC - (1:Int))) 5) 0) (Zc at_37_0 rfl (PT.ptr zI)) rfl ?_
     have jM:=Zm (part_BoxShuttle_0).1 zI
     refine Ze .plain rfl (D_load (g:=aE) Try.isAgg3 Try.sizeOf3 rfl jM fun sO kM=>?_)
     obtain rfl:=Zj.1 kM
     refine Ze .plain rfl (D_buildSlice (g:=aE) 3046 (xs:=([(y125).Colour]:List Int)) (vs:=[.int .i64 ((y125).Colour)]) Try.underlying26 Try.sizeOf3 Try.zeroValue3 rfl rfl (.cons rfl .nil) (RVs.cons (Zj.2 rfl) RVs.nil) rfl rfl fun mM tO uO hs o129 nM hxt hfl=>?_)
     have hfr:=hfr.stp hs
     have aD:=aD.stp hs
     have bD:=bD.stp hs rfl
     have u5_0_104:=u5_0_104.stp hs rfl
     have u5_1_104:=u5_1_104.stp hs rfl
     have u5_2_104:=u5_2_104.stp hs rfl
     have yA:=yA.stp hs rfl
     have r8:=r8.stp hs rfl
     have k9:=k9.stp hs rfl
     have v8:=v8.stp hs
     obtain ⟨pI,gL,h⟩:=Ge h
     refine Ze .plain rfl (D_append (g:=mM) (i:=1004) Try.underlying26 info_3 rfl rfl bD aD rfl nM gL fun oM vO eJ hs o130 pM _=>?_)
     have hfr:=hfr.stp hs
     have u5_0_104:=u5_0_104.stp hs rfl
     have u5_1_104:=u5_1_104.stp hs rfl
     have u5_2_104:=u5_2_104.stp hs rfl
     have yA:=yA.stp hs rfl
     have r8:=r8.stp hs rfl
     have k9:=k9.stp hs rfl
     have v8:=v8.stp hs
     refine Zg eJ rfl rfl ?_
     refine Zb (blk_n ?_)
     obtain rfl:=sinj h
     exact hQ _ _ ⟨oM,(eJ),hfr,rfl,pM,o130,zF,yA,u5_0_104,u5_1_104,u5_2_104,bE,r8,mE,k9,oE,v8,rE,gD⟩
    ·clear hx
     obtain ⟨qM,gJ,hfr,iJ,jJ,kJ,lJ,mJ,u5_0_132,u5_1_132,u5_2_132,nJ,oJ,gH,iH,jH,kH,lH,mH⟩:=hR
     refine Za (EL_in (.int .i64 ((w64 (i7 + (1:Int))))) mH rfl rfl rfl ?_)
     refine Zn (.int .i64 ((w64 (i7 + (1:Int))))) rfl rfl ?_
     exact Zb (Zd (eL (nB,(w64 (i7 + (1:Int)))) _ _ ⟨qM,(gJ),hfr,iJ,jJ,kJ,lJ,mJ,u5_0_132,u5_1_132,u5_2_132,nJ,oJ,gH,iH,jH,kH,lH,rfl⟩ h))
   ·refine E_cf dF rfl ?_
    refine E_exit ?_
    refine thn_e ?_
    refine thn_e ?_
    refine blk_hit ?_
    obtain rfl:=sinj h
    exact hQ _ _ ⟨aE,(uI),hfr,yF,aD,bD,zF,yA,u5_0_104,u5_1_104,u5_2_104,bE,r8,mE,k9⟩
  ·clear hx
   obtain ⟨rM,i6,hfr,pJ,m7,k8,aG,bA,u5_0_133,u5_1_133,u5_2_133,bG,aB,yB,t5⟩:=hR
   refine Zf (L_loadO (x:=.tmp 50) (SubS.comp part_BoxBoxLoom_0 part_BoxLoom_0 rfl).1 Try.isAgg26 Try.sizeOf26 aB fun qJ sM iL=>?_)
   obtain ⟨mC,jL,h⟩:=Ge h
   refine L_loadO (x:=.tmp 55) (SubS.comp (SubS.comp part_BoxRun_1 part_BoxRace_1 rfl) part_BoxPick_0 rfl).1 Try.isAgg3 Try.sizeOf3 t5 fun xO tM lL=>?_
   obtain rfl:=Zj.1 tM
   refine L_loadO (x:=.tmp 59) (SubS.comp (SubS.comp part_BoxRun_1 part_BoxRace_1 rfl) part_BoxPick_1 rfl).1 Try.isAgg3 Try.sizeOf3 t5 fun yO uM mL=>?_
   obtain rfl:=Zj.1 uM
   refine L_loadO (x:=.tmp 63) (SubS.comp part_BoxBoxLoom_0 part_BoxLoom_2 rfl).1 Try.isAgg38 Try.sizeOf38 aB fun rJ vM nL=>?_
   obtain ⟨qC,oL,h⟩:=Ge h
   refine E_drawL (g:=rM) (n:=17) [(3,(fun v g w=>OWx (Ow.list 3 (Ow.sh Int)) 4052 g w mC v)),(12,(fun v g w=>OA 4061 g w 3 ([(((y5.2.1).last).at_).Left,(((y5.2.1).last).at_).Right]:List Int) v)),(16,(fun v g w=>OWx (Ow.list 37 (Ow.sh Zw)) 4065 g w qC v))] [0,1,2,3,4,5,6,7,8,9,10,11,12,13,14,15,16] rfl mixed (by kernel_rfl) (⟨fun _=>up_owx,fun _=>up_oa,fun _=>up_owx,trivial⟩) ?_
   refine Gd (fPtr p6 0) rfl rfl (Zc at_142_0 bG (OB.ptr aB)) ?_
   refine Gd (fPtr p6 0) rfl rfl (P_fieldAddr2 (o1:=0) rfl at_40_0 rfl (OB.ptr aB)) ?_
   refine L_ld (c:=qJ) rfl rfl .plain (fun _ _ h=>⟨h.ch,fun b hb _=>h.below.block b hb⟩) iL rfl ?_
   refine L_do (φ:=fun v g w=>OWx (Ow.list 3 (Ow.sh Int)) 4052 g w mC v) rfl rfl .plain (fun g w hd=>D_callG (g:=g) (vs:=[qJ]) en71 (.cons rfl .nil) (W71 (iO:=4052) (sM.ext hd.1) jL) fun g' w' v hs hr=>⟨g',hs,hr⟩) (fun jG hv=>?_)
   clear hv
   refine Gd (fPtr p7 1) rfl rfl (Zc at_164_1 yB (OB.ptr t5)) ?_
   refine Gd (fPtr p7 9) rfl rfl (P_fieldAddr2 (o1:=1) rfl at_153_1 rfl (OB.ptr t5)) ?_
   refine Gd (fPtr p7 9) rfl rfl (P_fieldAddr2 (o1:=9) rfl at_151_0 rfl (OB.ptr t5)) ?_
   refine L_ld (c:=.int .i64 ((((y5.2.1).last).at_).Left)) rfl rfl .plain (fun _ _ h=>⟨h.ch,fun b hb _=>h.below.block b hb⟩) lL rfl ?_
   refine Gd (fPtr p7 1) rfl rfl (Zc at_164_1 yB (OB.ptr t5)) ?_
   refine Gd (fPtr p7 9) rfl rfl (P_fieldAddr2 (o1:=1) rfl at_153_1 rfl (OB.ptr t5)) ?_
   refine Gd (fPtr p7 10) rfl rfl (P_fieldAddr2 (o1:=9) rfl at_151_1 rfl (OB.ptr t5)) ?_
   refine L_ld (c:=.int .i64 ((((y5.2.1).last).at_).Right)) rfl rfl .plain (fun _ _ h=>⟨h.ch,fun b hb _=>h.below.block b hb⟩) mL rfl ?_
   refine L_do (φ:=fun v g w=>OA 4061 g w 3 ([(((y5.2.1).last).at_).Left,(((y5.2.1).last).at_).Right]:List Int) v) rfl rfl .plain (fun g w hd=>D_buildSliceA (g:=g) 4061 (xs:=([(((y5.2.1).last).at_).Left,(((y5.2.1).last).at_).Right]:List Int)) (vs:=[.int .i64 ((((y5.2.1).last).at_).Left),.int .i64 ((((y5.2.1).last).at_).Right)]) Try.underlying26 Try.sizeOf3 Try.zeroValue3 rfl rfl (.cons rfl (.cons rfl .nil)) (RVs.cons (Zj.2 rfl) (RVs.cons (Zj.2 rfl) RVs.nil)) rfl rfl fun g' w' v hs b hxt=>⟨g',hxt,b⟩) (fun kG hv=>?_)
   clear hv
   refine Gd (fPtr p6 0) rfl rfl (Zc at_142_0 bG (OB.ptr aB)) ?_
   refine Gd (fPtr p6 2) rfl rfl (P_fieldAddr2 (o1:=0) rfl at_40_2 rfl (OB.ptr aB)) ?_
   refine L_ld (c:=rJ) rfl rfl .plain (fun _ _ h=>⟨h.ch,fun b hb _=>h.below.block b hb⟩) nL rfl ?_
   refine L_do (φ:=fun v g w=>OWx (Ow.list 37 (Ow.sh Zw)) 4065 g w qC v) rfl rfl .plain (fun g w hd=>D_callG (g:=g) (vs:=[rJ]) en72 (.cons rfl .nil) (W72 (iO:=4065) (vM.ext hd.1) oL) fun g' w' v hs hr=>⟨g',hs,hr⟩) (fun lG hv=>?_)
   clear hv
   refine L_nil fun zO xM hall=>?_
   have hs:=hall.1
   have hfr:=hfr.ext hs
   have m7:=m7.ext hs
   have k8:=k8.ext hs
   have bA:=bA.ext hs
   have t5:=t5.ext hs
   obtain ⟨sk161,ow161,ok161⟩:=(word_all (A:=fun g w=>OWx (Ow.list 3 (Ow.sh Int)) 4052 g w mC jG) 3 rfl hall)
   have b170:=(word_all (A:=fun g w=>OA 4061 g w 3 ([(((y5.2.1).last).at_).Left,(((y5.2.1).last).at_).Right]:List Int) kG) 12 rfl hall)
   obtain ⟨sk174,ow174,ok174⟩:=(word_all (A:=fun g w=>OWx (Ow.list 37 (Ow.sh Zw)) 4065 g w qC lG) 16 rfl hall)
   clear hs hall
   obtain ⟨sk176,ow176,ok176⟩:=OA.toW b170
   have wn177:=Wn.fl (OW.wn ow174)
   obtain ⟨gq178,hs,_,wn178⟩:=Wn.pair (OW.wn ow176) wn177 rfl
   have hfr:=hfr.stp hs
   have m7:=m7.stp hs
   have k8:=k8.stp hs rfl
   have bA:=bA.stp hs rfl
   have t5:=t5.stp hs rfl
   have ow161:=ow161.stp hs rfl
   obtain ⟨gq179,hs,_,wn179⟩:=Wn.pair (OW.wn ow161) wn178 rfl
   have hfr:=hfr.stp hs
   have m7:=m7.stp hs
   have k8:=k8.stp hs rfl
   have bA:=bA.stp hs rfl
   have t5:=t5.stp hs rfl
   obtain ⟨sJ,zG⟩:∃ v,v=(Value.agg (setCh [[.slice none 0 0],[.slice none 0 0],[.slice none 0 0]] [(0,jG),(1,kG),(2,lG)]).flatten.toArray):=⟨_,rfl⟩
   have ow175:OW ow_BoxLoom 4065 gq179 xM (⟨mC,([(((y5.2.1).last).at_).Left,(((y5.2.1).last).at_).Right]:List Int),qC⟩:BoxLoom) (sk161,(sk176,sk174)) sJ:=zG ▸ Wn.mk_ (Wn.struct (x:=((⟨mC,([(((y5.2.1).last).at_).Left,(((y5.2.1).last).at_).Right]:List Int),qC⟩:BoxLoom))) wn179)
   refine Ga sJ (zG ▸ P_build (vs:=[(0,jG),(1,kG),(2,lG)]) [[.slice none 0 0],[.slice none 0 0],[.slice none 0 0]] lay_40 rfl rfl (.cons rfl (.cons rfl (.cons rfl .nil))) ⟨⟨_,rfl,OW.csz ow161⟩,⟨⟨_,rfl,OW.csz ow176⟩,⟨⟨_,rfl,OW.csz ow174⟩,trivial⟩⟩⟩) rfl ?_
   refine Ze .plain rfl (D_storeOW (g:=gq179) Try.sizeOf40 aG bA rfl ow175 rfl fun gj180 vJ aP bk180 hsa hsb hpp b180=>?_)
   have hfr:=hfr.stp hsa
   have m7:=m7.stp hsa
   have k8:=k8.stp hsa rfl
   have t5:=t5.stp hsa rfl
   have hfr:=hfr.stp hsb
   have m7:=m7.stp hsb
   have k8:=k8.stp hsb rfl
   have t5:=t5.stp hsb rfl
   clear hsa hsb
   subst hpp
   refine Zb (Zd ?_)
   obtain ⟨vD,hx,h⟩:=Ge h
   refine E_join (fun e w=>∃ (g:Gh) ,Fr gI wI g w∧e 4=i6∧RV g.m w (y6:List Int) i6∧OS 1004 g w 3 (y6:List Int) i6∧e 5=(Value.pointer (some ⟨bk180,0,none⟩))∧OVb ow_BoxLoom 2005 g w 40 (vD:BoxLoom) bk180∧e 10=p7∧OB 2010 g w 164 (y5.2.1:BoxRun) p7) (fun Q' hQ=>?_) (fun zN bP hR=>?_)
   ·replace h := hx
    clear hx
    refine Zf (Za (Ga (fPtr p7 1) (Zc at_164_1 yB (OB.ptr t5)) rfl ?_))
    refine Ga (fPtr p7 1) (P_fieldAddr2 (o1:=1) rfl at_153_0 rfl (OB.ptr t5)) rfl ?_
    refine Ze .plain rfl (D_loadF (g:=vJ) (SubS.comp part_BoxRun_1 part_BoxRace_0 rfl).1 Try.isAgg149 Try.sizeOf149 rfl t5 fun oB bN=>?_)
    refine Zn (.int .i64 (0)) rfl rfl ?_
    refine Zb (Zd (Zr ?_))
    refine E_lp h (fun (s:BoxLoom × Int) e w=>∃ (g:Gh) ,Fr gI wI g w∧e 4=i6∧RV g.m w (y6:List Int) i6∧OS 1004 g w 3 (y6:List Int) i6∧e 5=(Value.pointer (some ⟨bk180,0,none⟩))∧OVb ow_BoxLoom 2005 g w 40 (s.1:BoxLoom) bk180∧e 10=p7∧OB 2010 g w 164 (y5.2.1:BoxRun) p7∧e 69=oB∧RV g.m w (((y5.2.1).last).boxes:Vector (Vector Int 4) 2) oB∧e 70=.int .i64 (s.2)) ⟨vJ,hfr,pJ,m7,k8,aG,⟨_,b180,(⟨ok161,⟨ok176,ok174⟩⟩:(ow_BoxLoom).ok (sk161,(sk176,sk174)))⟩,yB,t5,rfl,bN,rfl⟩ (fun X425 qI pL=>?_)
    rintro ⟨uD,u3⟩ aO cP ⟨xJ,hfr,cG,dB,iB,eG,⟨pN,lB,uE⟩,vE,l9,xE,x8,zB⟩ h
    refine Zf (Za (EL_in (.bool ((decide (u3 < (2:Int))))) zB rfl rfl rfl ?_))
    refine Zb (Zd (Zf ?_))
    rcases Zt h with ⟨eF,h⟩ | ⟨eF,h⟩
    ·refine E_ct eF rfl ?_
     refine Zu (Zd ?_)
     obtain ⟨vC,hx,h⟩:=Ge h
     refine E_join (fun e w=>∃ (g:Gh) ,Fr gI wI g w∧e 4=i6∧RV g.m w (y6:List Int) i6∧OS 1004 g w 3 (y6:List Int) i6∧e 5=(Value.pointer (some ⟨bk180,0,none⟩))∧OVb ow_BoxLoom 2005 g w 40 (vC:BoxLoom) bk180∧e 10=p7∧OB 2010 g w 164 (y5.2.1:BoxRun) p7∧e 69=oB∧RV g.m w (((y5.2.1).last).boxes:Vector (Vector Int 4) 2) oB∧e 70=.int .i64 (u3)) (fun Q' hQ=>?_) (fun bO dP hR=>?_)
     ·replace h := hx
      clear hx
      refine Zr ?_
      refine Zf (Za (Zo zB rfl ?_))
      obtain ⟨zE,aH,h⟩:=Ge h
      have rF:=RV_idxA x8 aH
      generalize qL:partV _ _ _ _=yJ at rF
      refine Ga yJ (qL ▸ P_indexA Try.underlying149 Try.isAgg148 Try.sizeOf148 xE x8 zB aH) rfl ?_
      refine Ze .plain rfl (D_allocOc (g:=xJ) 2014 ((⟨List.toArray [0,0,0,0],rfl⟩:Vector Int 4):Vector Int 4) Try.zeroValue148 (fun m w=>⟨_,(rep_vec (Zx Zy (Zx Zy (Zx Zy (Zx Zy flat_nil)))) rfl),rfl⟩) fun cN eP gP hs b547 cb=>?_)
      have hfr:=hfr.stp hs
      have dB:=dB.stp hs
      have iB:=iB.stp hs rfl
      have lB:=lB.stp hs rfl
      have l9:=l9.stp hs rfl
      have x8:=x8.stp hs
      have rF:=rF.stp hs
      clear cb
      refine Zg (.int .i64 (u3)) rfl rfl ?_
      refine Ze .plain rfl (D_storeOc (g:=cN) (v:=yJ) Try.sizeOf148 rfl b547 rfl rF fun zJ iP hs b548 cb=>?_)
      clear cb
      have hfr:=hfr.stp hs
      have dB:=dB.stp hs
      have iB:=iB.stp hs rfl
      have lB:=lB.stp hs rfl
      have l9:=l9.stp hs rfl
      have x8:=x8.stp hs
      refine Zb (Zd (Zf (Za (Ze .plain rfl (D_loadO (g:=zJ) Try.isAgg148 Try.sizeOf148 rfl b548 fun sF dN=>?_)))))
      refine Zn (.int .i64 (0)) rfl rfl ?_
      refine Zb (Zd (Zr ?_))
      refine E_lp h (fun (s:BoxLoom × Int) e w=>∃ (g:Gh) ,Fr gI wI g w∧e 4=i6∧RV g.m w (y6:List Int) i6∧OS 1004 g w 3 (y6:List Int) i6∧e 5=(Value.pointer (some ⟨bk180,0,none⟩))∧OVb ow_BoxLoom 2005 g w 40 (s.1:BoxLoom) bk180∧e 10=p7∧OB 2010 g w 164 (y5.2.1:BoxRun) p7∧e 13=.int .i64 (u3)∧e 69=oB∧RV g.m w (((y5.2.1).last).boxes:Vector (Vector Int 4) 2) oB∧e 70=.int .i64 (u3)∧e 74=sF∧RV g.m w (zE:Vector Int 4) sF∧e 75=.int .i64 (s.2)) ⟨zJ,hfr,cG,dB,iB,eG,⟨_,lB,uE⟩,vE,l9,rfl,xE,x8,zB,rfl,dN,rfl⟩ (fun X550 sI rL=>?_)
      rintro ⟨o0,x6⟩ cO eN ⟨mG,hfr,iE,iA,rA,tB,⟨l5,cD,n9⟩,iD,a9,jD,lD,d9,nD,oD,n8,mB⟩ h
      refine Zf (Za (EL_in (.bool ((decide (x6 < (4:Int))))) mB rfl rfl rfl ?_))
      refine Zb (Zd (Zf ?_))
      rcases Zt h with ⟨tF,h⟩ | ⟨tF,h⟩
      ·refine E_ct tF rfl ?_
       refine Zu (Zd ?_)
       obtain ⟨uC,hx,h⟩:=Ge h
       refine E_join (fun e w=>∃ (g:Gh) ,Fr gI wI g w∧e 4=i6∧RV g.m w (y6:List Int) i6∧OS 1004 g w 3 (y6:List Int) i6∧e 5=(Value.pointer (some ⟨bk180,0,none⟩))∧OVb ow_BoxLoom 2005 g w 40 (uC:BoxLoom) bk180∧e 10=p7∧OB 2010 g w 164 (y5.2.1:BoxRun) p7∧e 13=.int .i64 (u3)∧e 69=oB∧RV g.m w (((y5.2.1).last).boxes:Vector (Vector Int 4) 2) oB∧e 70=.int .i64 (u3)∧e 74=sF∧RV g.m w (zE:Vector Int 4) sF∧e 75=.int .i64 (x6)) (fun Q' hQ=>?_) (fun dO jP hR=>?_)
       ·replace h := hx
        clear hx
        refine Zr ?_
        refine Zf (Za (Zo mB rfl ?_))
        obtain ⟨x5,cH,h⟩:=Ge h
        have gN:=RV_idxA n8 cH
        refine Ga (.int .i64 (x5)) ((Zj.1 gN) ▸ P_indexA Try.underlying148 Try.isAgg3 Try.sizeOf3 oD n8 mB cH) rfl ?_
        refine Zg (.int .i64 (x6)) rfl rfl ?_
        refine Zg (.int .i64 (x5)) rfl rfl ?_
        refine Zb (Zd (Zf (Za (Zn (.int .i64 (x5)) rfl rfl ?_))))
        refine EL_in (.bool ((decide (x5 > (0:Int))))) rfl rfl rfl rfl ?_
        refine Zb (Zd ?_)
        rcases Zt h with ⟨uF,h⟩ | ⟨uF,h⟩
        ·refine E_ct uF rfl ?_
         obtain ⟨m8,sD,h⟩:=Ge h
         obtain ⟨bb623,cc623,ss623,hq623,dH⟩:=(OV.slice cD (Cxt.fld (Cxt.root ow_BoxLoom bk180) fl_BoxLoom_2 (o0) (l5)) rfl rfl ((n9.2).2)).2 sD
         obtain ⟨cF,vF,h⟩:=Ge h
         refine E_drawG (g:=mG) (w:=eN) (i:=2005) (A0:=fun g w=>OV ow_BoxLoom 2005 g w 40 (o0:BoxLoom) bk180 l5) (A1:=fun g w=>OV ow_BoxLoom 2005 g w 40 (({ o0 with Shuttles:=(List.set ((o0).Shuttles) (Int.toNat ((w64 (x5 - (1:Int))))) ({ m8 with Side:=u3 }:Zw)) }:BoxLoom):BoxLoom) bk180 l5) cD up_ov (n:=15) [(12,(fun _ g w=>OV ow_BoxLoom 2005 g w 40 (({ o0 with Shuttles:=(List.set ((o0).Shuttles) (Int.toNat ((w64 (x5 - (1:Int))))) ({ m8 with Side:=u3 }:Zw)) }:BoxLoom):BoxLoom) bk180 l5))] [0,1,2,3,4,5,6,7,8,9,10,11,12,13,14] rfl mixed (by kernel_rfl) (⟨fun _=>up_box,trivial⟩) ?_
         refine Gd ((.pointer (some ⟨bk180,(0 + 2),none⟩))) rfl rfl (P_fieldAddrH at_40_2 tB) ?_
         refine L_val (c:=(hdrV (Prod.snd (Prod.snd l5)) ((o0).Shuttles).length)) rfl rfl .plain (fun g w hd=>loadHAB (Cxt.fld (Cxt.root ow_BoxLoom bk180) fl_BoxLoom_2 (o0) (l5)) rfl rfl (Cxt.fld (Cxt.root ow_BoxLoom bk180) fl_BoxLoom_2 (({ o0 with Shuttles:=(List.set ((o0).Shuttles) (Int.toNat ((w64 (x5 - (1:Int))))) ({ m8 with Side:=u3 }:Zw)) }:BoxLoom)) (l5)) rfl rfl (by simp) ((n9.2).2) Try.isAgg38 rfl hd.1.2) ?_
         refine Gd (.int .i64 (x5)) rfl rfl (Zk rfl) ?_
         refine Gd (.int .i64 ((w64 (x5 - (1:Int))))) rfl rfl (P_int rfl rfl rfl) ?_
         refine Gd ((.pointer (some ⟨bk180,(0 + 2),none⟩))) rfl rfl (P_fieldAddrH at_40_2 tB) ?_
         refine L_val (c:=(hdrV (Prod.snd (Prod.snd l5)) ((o0).Shuttles).length)) rfl rfl .plain (fun g w hd=>loadHAB (Cxt.fld (Cxt.root ow_BoxLoom bk180) fl_BoxLoom_2 (o0) (l5)) rfl rfl (Cxt.fld (Cxt.root ow_BoxLoom bk180) fl_BoxLoom_2 (({ o0 with Shuttles:=(List.set ((o0).Shuttles) (Int.toNat ((w64 (x5 - (1:Int))))) ({ m8 with Side:=u3 }:Zw)) }:BoxLoom)) (l5)) rfl rfl (by simp) ((n9.2).2) Try.isAgg38 rfl hd.1.2) ?_
         refine Gd (.int .i64 (x5)) rfl rfl (Zk rfl) ?_
         refine Gd (.int .i64 ((w64 (x5 - (1:Int))))) rfl rfl (P_int rfl rfl rfl) ?_
         refine Gd (.int .i64 (u3)) rfl rfl (Zk jD) ?_
         refine Gd (.int .i64 (x6)) rfl rfl (Zk rfl) ?_
         refine Gd ((.pointer (some ⟨bb623,((Int.toNat ((w64 (x5 - (1:Int))))) * 5),none⟩))) rfl rfl (P_indexH Try.underlying38 Try.sizeOf37 (rfl.trans (hdr_at hq623 _)) rfl (idx_nat sD)) ?_
         refine Gd ((.pointer (some ⟨bb623,(((Int.toNat ((w64 (x5 - (1:Int))))) * 5) + 1),none⟩))) rfl rfl (P_fieldAddrH at_37_1 rfl) ?_
         refine L_do (φ:=fun _ g w=>OV ow_BoxLoom 2005 g w 40 (({ o0 with Shuttles:=(List.set ((o0).Shuttles) (Int.toNat ((w64 (x5 - (1:Int))))) ({ m8 with Side:=u3 }:Zw)) }:BoxLoom):BoxLoom) bk180 l5) rfl rfl .plain (fun g w hd=>D_storeOVR (g:=g) (u':=(u3:Int)) (Cxt.fld (Cxt.idx (Cxt.fld (Cxt.root ow_BoxLoom bk180) fl_BoxLoom_2 (o0) (l5)) ((o0).Shuttles) (Int.toNat ((w64 (x5 - (1:Int))))) bb623 cc623 ss623 (idx_nat sD).2 dH) fl_BoxShuttle_1 (m8) (())) ((congrArg (fun q=>({ o0 with Shuttles:=q }:BoxLoom)) (set_idx sD)).trans rfl) rfl (((congrArg (fun q=>((Prod.fst l5),((Prod.fst (Prod.snd l5)),(Sl.at bb623 cc623 q)))) set_unit).trans (congrArg (fun q=>((Prod.fst l5),((Prod.fst (Prod.snd l5)),q))) (hq623).symm)).trans rfl) Try.sizeOf3 rfl hd.1.2 rfl (Zj.2 rfl)) (fun kP hv=>?_)
         clear hv
         refine Gd ((.pointer (some ⟨bb623,((Int.toNat ((w64 (x5 - (1:Int))))) * 5),none⟩))) rfl rfl (P_indexH Try.underlying38 Try.sizeOf37 (rfl.trans (hdr_at hq623 _)) rfl (by simpa using idx_nat vF)) ?_
         refine Gd ((.pointer (some ⟨bb623,(((Int.toNat ((w64 (x5 - (1:Int))))) * 5) + 2),none⟩))) rfl rfl (P_fieldAddrH at_37_2 rfl) ?_
         refine L_nil fun iN lP hall=>?_
         have hs:=hall.1.1
         have hfr:=hfr.stp hs
         have iA:=iA.stp hs
         have rA:=rA.stp hs rfl
         have a9:=a9.stp hs rfl
         have d9:=d9.stp hs
         have n8:=n8.stp hs
         have b631:=(word_all (A:=fun g w=>OV ow_BoxLoom 2005 g w 40 (({ o0 with Shuttles:=(List.set ((o0).Shuttles) (Int.toNat ((w64 (x5 - (1:Int))))) ({ m8 with Side:=u3 }:Zw)) }:BoxLoom):BoxLoom) bk180 l5) 12 rfl hall)
         clear hs hall
         refine Ze .plain rfl (D_storeOV (g:=iN) (u':=(x6:Int)) (Cxt.fld (Cxt.idx (Cxt.fld (Cxt.root ow_BoxLoom bk180) fl_BoxLoom_2 (({ o0 with Shuttles:=(List.set ((o0).Shuttles) (Int.toNat ((w64 (x5 - (1:Int))))) ({ m8 with Side:=u3 }:Zw)) }:BoxLoom)) (l5)) ((({ o0 with Shuttles:=(List.set ((o0).Shuttles) (Int.toNat ((w64 (x5 - (1:Int))))) ({ m8 with Side:=u3 }:Zw)) }:BoxLoom)).Shuttles) (Int.toNat ((w64 (x5 - (1:Int))))) bb623 cc623 ss623 (idx_nat vF).2 (by simpa using dH)) fl_BoxShuttle_2 (cF) (())) ((congrArg (fun q=>({ (({ o0 with Shuttles:=(List.set ((o0).Shuttles) (Int.toNat ((w64 (x5 - (1:Int))))) ({ m8 with Side:=u3 }:Zw)) }:BoxLoom)) with Shuttles:=q }:BoxLoom)) (set_idx vF)).trans rfl) (((congrArg (fun q=>((Prod.fst l5),((Prod.fst (Prod.snd l5)),(Sl.at bb623 cc623 q)))) set_unit).trans (congrArg (fun q=>((Prod.fst l5),((Prod.fst (Prod.snd l5)),q))) (hq623).symm)).trans rfl) Try.sizeOf3 rfl b631 rfl (Zj.2 rfl) fun aK jN hs b660=>?_)
         have hfr:=hfr.stp hs
         have iA:=iA.stp hs
         have rA:=rA.stp hs rfl
         have a9:=a9.stp hs rfl
         have d9:=d9.stp hs
         have n8:=n8.stp hs
         replace b660:OV ow_BoxLoom 2005 aK jN 40 (({ (({ o0 with Shuttles:=(List.set ((o0).Shuttles) (Int.toNat ((w64 (x5 - (1:Int))))) ({ m8 with Side:=u3 }:Zw)) }:BoxLoom)) with Shuttles:=(List.set ((({ o0 with Shuttles:=(List.set ((o0).Shuttles) (Int.toNat ((w64 (x5 - (1:Int))))) ({ m8 with Side:=u3 }:Zw)) }:BoxLoom)).Shuttles) (Int.toNat ((w64 (x5 - (1:Int))))) ({ cF with Box:=x6 }:Zw)) }:BoxLoom):BoxLoom) bk180 l5:=b660
         refine Zb (blk_n ?_)
         obtain rfl:=sinj h
         exact hQ _ _ ⟨aK,hfr,iE,iA,rA,tB,⟨_,b660,n9⟩,iD,a9,jD,lD,d9,nD,oD,n8,mB⟩
        ·refine E_cf uF rfl ?_
         refine Zu (blk_n ?_)
         obtain rfl:=sinj h
         exact hQ _ _ ⟨mG,hfr,iE,iA,rA,tB,⟨_,cD,n9⟩,iD,a9,jD,lD,d9,nD,oD,n8,mB⟩
       ·clear hx
        obtain ⟨kN,hfr,bK,cK,dK,lK,⟨qN,mK,nH⟩,oH,pH,qH,sH,tH,uH,xH,yH,zH⟩:=hR
        refine Za (EL_in (.int .i64 ((w64 (x6 + (1:Int))))) zH rfl rfl rfl ?_)
        refine Zn (.int .i64 ((w64 (x6 + (1:Int))))) rfl rfl ?_
        exact Zb (Zd (rL (uC,(w64 (x6 + (1:Int)))) _ _ ⟨kN,hfr,bK,cK,dK,lK,⟨_,mK,nH⟩,oH,pH,qH,sH,tH,uH,xH,yH,rfl⟩ h))
      ·refine E_cf tF rfl ?_
       refine E_exit ?_
       refine thn_e ?_
       refine thn_e ?_
       refine blk_hit ?_
       refine blk_n ?_
       obtain rfl:=sinj h
       exact hQ _ _ ⟨mG,hfr,iE,iA,rA,tB,⟨_,cD,n9⟩,iD,a9,lD,d9,nD⟩
     ·clear hx
      obtain ⟨lN,hfr,nK,oK,pK,qK,⟨rN,sK,aI⟩,bI,dI,iI,jI,kI⟩:=hR
      refine Za (EL_in (.int .i64 ((w64 (u3 + (1:Int))))) kI rfl rfl rfl ?_)
      refine Zn (.int .i64 ((w64 (u3 + (1:Int))))) rfl rfl ?_
      exact Zb (Zd (pL (vC,(w64 (u3 + (1:Int)))) _ _ ⟨lN,hfr,nK,oK,pK,qK,⟨_,sK,aI⟩,bI,dI,iI,jI,rfl⟩ h))
    ·refine E_cf eF rfl ?_
     refine E_exit ?_
     refine thn_e ?_
     refine thn_e ?_
     refine blk_hit ?_
     obtain rfl:=sinj h
     exact hQ _ _ ⟨xJ,hfr,cG,dB,iB,eG,⟨_,lB,uE⟩,vE,l9⟩
   ·clear hx
    obtain ⟨mN,hfr,tK,vB,uN,lE,⟨sN,eD,lI⟩,mI,yE⟩:=hR
    refine Zf (L_self Try.isAgg40 Try.sizeOf40 rfl eD fun nN tL uL=>?_)
    refine L_loadO (x:=.tmp 99) part_BoxRun_2.1 Try.isAgg3 Try.sizeOf3 yE fun mP oN vL=>?_
    obtain rfl:=Zj.1 oN
    refine E_drawL (g:=mN) (n:=9) [(5,(fun _ _ _=>True))] [0,1,2,3,4,5,6,7,8] rfl mixed (by kernel_rfl) (⟨fun _=>(fun _ _ _ _ _ _=>trivial),trivial⟩) ?_
    refine Gd i6 rfl rfl (Zk tK) ?_
    refine L_ld (c:=nN) rfl rfl .plain (fun _ _ h=>⟨h.ch,fun b hb _=>h.below.block b hb⟩) (tL _) lE ?_
    refine Gd (fPtr p7 11) rfl rfl (Zc at_164_2 mI (OB.ptr yE)) ?_
    refine L_ld (c:=.int .i64 ((y5.2.1).moves)) rfl rfl .plain (fun _ _ h=>⟨h.ch,fun b hb _=>h.below.block b hb⟩) vL rfl ?_
    refine Gd i6 rfl rfl (P_assign rfl) ?_
    refine L_do (φ:=fun _ _ _=>True) rfl rfl .plain (fun g w hd=>uL _ _ _ g w ⟨hd.1.ch,fun b hb _=>hd.1.below.block b hb⟩ lE rfl) (fun nP hv=>?_)
    clear hv
    refine Gd (.int .i64 ((y5.2.1).moves)) rfl rfl (P_assign rfl) ?_
    refine Gd (.int .i64 (0)) rfl rfl (P_assign rfl) ?_
    refine Gd (.int .i64 (0)) rfl rfl (P_assign rfl) ?_
    refine L_nl fun oP pP hs=>?_
    have hfr:=hfr.ext hs
    have vB:=vB.ext hs
    have eD:=eD.ext hs
    clear hs
    refine Zb (Zd (E_ret ?_))
    obtain ⟨go680,hs,b680⟩:=OV.toOB eD lI
    have hfr:=hfr.stp hs
    have vB:=vB.stp hs
    obtain rfl:=sinj h
    obtain ⟨ad681,cv681,hp681,xL,cr681⟩:=ob_read Try.isAgg40 Try.sizeOf40 b680
    exact endm_tcttt rfl rfl (show _=i6 from rfl) ((show _=(Value.pointer (some ⟨bk180,0,none⟩)) from lE).trans hp681) xL (show _=.int .i64 ((y5.2.1).moves) from rfl) (show _=.int .i64 (0) from rfl) (show _=.int .i64 (0) from rfl) ⟨_,hfr,_,_,_,_,_,rfl,vB,cr681,rfl,rfl,rfl⟩
theorem v11_0 {iO:Nat} {gI:Gh} {wI:World} {x0:List Int} {up0:Value} (rp0:RV gI.m wI x0 up0) {r:(List Int)} (h:f11 x0=some r):FnG Try.prog 11 #[up0] gI wI (fun g w v=>OM iO g w 3 (r) v):=by
 unfold f11 at h
 refine fnG_of_E Try.func11 rfl (Nat.le_of_ble_eq_true rfl) fun g0 hm hfr=>?_
 have rp0:RV g0.m wI x0 up0:=hm ▸ rp0
 show E _ 6 none _ _ _ _ _
 refine Zf (Za (Zg (.slice none 0 0) rfl rfl ?_))
 refine Zb (Zd (Zf (Za (Ze .plain rfl (D_buildSlice (g:=g0) 3003 (xs:=([]:List Int)) (vs:=[]) Try.underlying26 Try.sizeOf3 Try.zeroValue3 rfl rfl .nil RVs.nil rfl rfl fun g1 w1 v1 hs o1 r1 hxt hfl=>?_)))))
 have hfr:=hfr.stp hs
 have rp0:=rp0.stp hs
 refine Zn up0 rfl rfl ?_
 obtain ⟨y3,hy3,h⟩:=Ge h
 refine Ze .plain rfl (D_append (g:=g1) (i:=3003) Try.underlying26 info_3 rfl rfl o1 r1 rfl rp0 hy3 fun g2 w2 v2 hs o2 r2 _=>?_)
 have hfr:=hfr.stp hs
 refine Zg v2 rfl rfl ?_
 refine Zb (Zd (E_ret ?_))
 obtain rfl:=sinj h
 obtain ⟨gh,hxh,homh⟩:=OM.hand (i:=iO) plain_int hfr o2 r2
 exact end1 rfl rfl (show _=v2 from rfl) ⟨gh,hxh,homh⟩
end Go.Proofs.Ytjoniingnbmljaa
