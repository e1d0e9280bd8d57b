import Derived.Test.YtjoniingnbmljaaCode1
set_option maxRecDepth 8000
set_option maxHeartbeats 4000000
namespace Go.Proofs.Ytjoniingnbmljaa
open Go.RowKit
def f221 (x0:FaultFaultLoom) (x1:Zv):Option (Bool):=
 Option.bind (α:=Zv × Bool) (
  bif ((x1).Kind == (1 : Int)) then
   some ((⟨(x1).Kind,(x1).Pick,(x1).Hook,0,false⟩:Zv),true)
  else
   bif ((x1).Kind == (2 : Int)) then
    some ((⟨(x1).Kind,0,(x1).Hook,0,(x1).Up⟩:Zv),true)
   else
    Option.bind (α:=Bool) (
     bif ((x1).Kind == (3 : Int)) then
      some (((x1).Kind == (3:Int)))
     else
      some (((x1).Kind == (4:Int)))
     ) fun m7=>
    bif m7 then
     some ((⟨(x1).Kind,(x1).Pick,0,0,false⟩:Zv),true)
    else
     bif ((x1).Kind == (5 : Int)) then
      some ((⟨(x1).Kind,0,0,(x1).Warp,false⟩:Zv),true)
     else
      some ((⟨(x1).Kind,0,0,0,false⟩:Zv),false)
  ) fun (x6,g8)=>
 Option.bind (α:=Bool) (
  bif g8 then
   bif (decide (x1 = x6)) then
    (f94 ((0:Int)) ((w64 ((((((x0).FaultLoom).Design).Rows).length:Int) - (1:Int)))) (([(x1).Pick]:List Int))).bind fun x8=>
    bif x8 then
     (f94 ((0:Int)) ((w64 ((((x0).FaultLoom).Design).Hooks - (1:Int)))) (([(x1).Hook]:List Int))).bind fun a9=>
     bif a9 then
      (f94 ((0:Int)) ((w64 ((((((x0).FaultLoom).Harness).Warps).length:Int) - (1:Int)))) (([(x1).Warp]:List Int))).bind fun u9=>
      some (u9)
     else
      some (false)
    else
     some (false)
   else
    some (false)
  else
   some (false)
  ) fun r8=>
 some (r8)
theorem en221:Enters Try.prog 221:=enters_of Try.func221 (by kernel_rfl) rfl
theorem wk221 {gI:Gh} {wI:World} {x0:FaultFaultLoom} {x1:Zv} {up0:Value} (rp0:RV gI.m wI x0 up0) {up1:Value} (rp1:RV gI.m wI x1 up1) {r:Bool} (h:f221 x0 x1=some r):Fn Try.prog 221 #[up0,up1] gI wI (fun _ _ v=>v=.bool (r)):=by
 unfold f221 at h
 refine fn_of_E Try.func221 rfl (Nat.le_of_ble_eq_true rfl) fun g0 hm hfr=>?_
 have rp0:RV g0.m wI x0 up0:=hm ▸ rp0
 have rp1:RV g0.m wI x1 up1:=hm ▸ rp1
 show E _ 80 none _ _ _ _ _
 refine Zf (Za (Ze .plain rfl (D_box (g:=g0) rfl rp0 fun g1 w1 p1 hs q1=>?_)))
 have hfr:=hfr.ext hs
 have rp1:=rp1.ext hs
 refine Ze .plain rfl (D_box (g:=g1) rfl rp1 fun g2 w2 p2 hs q2=>?_)
 have hfr:=hfr.ext hs
 have q1:=q1.ext hs
 refine Zg (.bool false) rfl rfl ?_
 refine Zb (Zd (Zf (Za (Ga (fPtr p2 0) (Zc at_56_0 rfl (PT.ptr q2)) rfl ?_))))
 have q3:=Zm (part_FaultDamage_0).1 q2
 refine Ze .plain rfl (D_load (g:=g2) Try.isAgg54 Try.sizeOf54 rfl q3 fun v4 r4=>?_)
 obtain rfl:=Zj.1 r4
 have r5:RV g2.m w2 (⟨(x1).Kind,0,0,0,false⟩:Zv) (.agg (setCh [[.int .i64 0],[.int .i64 0],[.int .i64 0],[.int .i64 0],[.bool false]] [(0,.int .i64 ((x1).Kind))]).flatten.toArray):=RV_build rfl (rep_pair (rfl) (rep_pair (Zy) (rep_pair (Zy) (rep_pair (Zy) (rep_last (rep_bool))))))
 generalize gG:(Value.agg (setCh [[.int .i64 0],[.int .i64 0],[.int .i64 0],[.int .i64 0],[.bool false]] [(0,.int .i64 ((x1).Kind))]).flatten.toArray)=v5 at r5
 refine Ga v5 (gG ▸ P_build (vs:=[(0,.int .i64 ((x1).Kind))]) [[.int .i64 0],[.int .i64 0],[.int .i64 0],[.int .i64 0],[.bool false]] lay_56 rfl rfl (.cons rfl .nil) ⟨⟨_,rfl,rfl⟩,trivial⟩) rfl ?_
 refine Ze .plain rfl (D_allocOc (g:=g2) 2005 (⟨0,0,0,0,false⟩:Zv) Try.zeroValue56 (fun m w=>⟨_,(rep_two Zy (rep_two Zy (rep_two Zy (rep_two Zy rep_bool)))),rfl⟩) fun g6 w6 p6 hs b6 cb=>?_)
 have hfr:=hfr.stp hs
 have q1:=q1.stp hs
 have q2:=q2.stp hs
 have r5:=r5.stp hs
 clear cb
 refine Ze .plain rfl (D_storeOc (g:=g6) (v:=v5) Try.sizeOf56 rfl b6 rfl r5 fun g7 w7 hs b7 cb=>?_)
 clear cb
 have hfr:=hfr.stp hs
 have q1:=q1.stp hs
 have q2:=q2.stp hs
 refine Zb (Zd (Zf (Za (Zg (.bool true) rfl rfl ?_))))
 refine Zb (Zd ?_)
 obtain ⟨⟨x6,g8⟩,hx,h⟩:=Ge h
 refine E_join (fun e w=>∃ (g:Gh) ,Fr gI wI g w∧e 2=p1∧PT g.m w (x0:FaultFaultLoom) p1∧e 3=p2∧PT g.m w (x1:Zv) p2∧e 5=p6∧OB 2005 g w 56 (x6:Zv) p6∧e 6=.bool (g8)) (fun Q' hQ=>?_) (fun xG gH hR=>?_)
 ·replace h := hx
  clear hx
  refine Zf (Za (Ga (fPtr p2 0) (Zc at_56_0 rfl (PT.ptr q2)) rfl ?_))
  have hG:=Zm (part_FaultDamage_0).1 q2
  refine Ze .plain rfl (D_load (g:=g7) Try.isAgg54 Try.sizeOf54 rfl hG fun tI iG=>?_)
  obtain rfl:=Zj.1 iG
  refine Zb (Zd (Zr ?_))
  refine Zf (Za (EL_in (.bool (((x1).Kind == (1:Int)))) rfl rfl rfl rfl ?_))
  refine Zg (.bool (((x1).Kind == (1:Int)))) rfl rfl ?_
  refine Zb (Zd ?_)
  rcases Zt h with ⟨dB,h⟩ | ⟨dB,h⟩
  ·refine E_ct dB rfl ?_
   have jG:=Zm (part_FaultDamage_1).1 q2
   refine Zs (x:=.tmp 14) Try.isAgg3 Try.sizeOf3 jG fun uI kG eD=>?_
   obtain rfl:=Zj.1 kG
   have lG:=Zm (part_FaultDamage_2).1 q2
   refine Zs (x:=.tmp 16) Try.isAgg3 Try.sizeOf3 lG fun vI mG gD=>?_
   obtain rfl:=Zj.1 mG
   refine E_drawTL (g:=g7) (n:=5) [2,3] [] [0,1,2,3,4] rfl mixed (by kernel_rfl) trivial rfl ?_
   refine Gd (fPtr p2 1) rfl rfl (Zc at_56_1 rfl (PT.ptr q2)) ?_
   refine L_ld (c:=.int .i64 ((x1).Pick)) rfl rfl .plain (fun _ _ h=>h.ch) eD rfl ?_
   refine L_purL (c:=fPtr p2 2) rfl rfl .plain (Zc at_56_2 rfl (PT.ptr q2)) ?_
   refine L_ldL (c:=.int .i64 ((x1).Hook)) rfl rfl .plain (fun _ _ h=>h.ch) rfl gD rfl ?_
   refine Gd (fPtr p6 1) rfl rfl (Zc at_56_1 rfl (OB.ptr b7)) ?_
   refine L_nl fun cD sG hs=>?_
   have hlt:Lt g7.m w7 cD sG:=hs.ch
   have hfr:=hfr.ext hs
   have q1:=q1.ext hs
   have q2:=q2.ext hs
   have b7:=b7.ext hs
   clear hs
   refine TL_do hlt.w .plain rfl (D_storeFc (g:=cD) part_FaultDamage_1 Try.sizeOf3 rfl b7 rfl (Zj.2 rfl) fun iD iH hs b112 rst hos=>?_)
   clear rst hos
   have hfr:=hfr.stp hs
   have hlt:=hlt.stp hs
   have q1:=q1.stp hs
   have q2:=q2.stp hs
   refine TL_pur hlt.w (v:=fPtr p6 2) (Zc at_56_2 rfl (OB.ptr b112)) .plain rfl ?_
   refine TL_do hlt.w .plain rfl (D_storeFc (g:=iD) part_FaultDamage_2 Try.sizeOf3 rfl b112 rfl (Zj.2 rfl) fun jD jH hs b114 rst hos=>?_)
   clear rst hos
   have hfr:=hfr.stp hs
   have hlt:=hlt.stp hs
   have q1:=q1.stp hs
   have q2:=q2.stp hs
   refine TL_nil hlt.w ?_
   clear hlt
   refine blk_n ?_
   obtain ⟨rfl,rfl⟩:=pairs2 h
   exact hQ _ _ ⟨jD,hfr,rfl,q1,rfl,q2,rfl,b114,rfl⟩
  ·refine E_cf dB rfl ?_
   refine Zf (Za (EL_in (.bool (((x1).Kind == (2:Int)))) rfl rfl rfl rfl ?_))
   refine Zg (.bool (((x1).Kind == (2:Int)))) rfl rfl ?_
   refine Zb (Zd ?_)
   rcases Zt h with ⟨y9,h⟩ | ⟨y9,h⟩
   ·refine E_ct y9 rfl ?_
    have lD:=Zm (part_FaultDamage_2).1 q2
    refine Zs (x:=.tmp 22) Try.isAgg3 Try.sizeOf3 lD fun kH nD rC=>?_
    obtain rfl:=Zj.1 nD
    have oD:=Zm (part_FaultDamage_4).1 q2
    refine Zs (x:=.tmp 24) Try.isAgg4 Try.sizeOf4 oD fun lH sD uC=>?_
    obtain rfl:=RV_bool.1 sD
    refine E_drawTL (g:=g7) (n:=5) [2,3] [] [0,1,2,3,4] rfl mixed (by kernel_rfl) trivial rfl ?_
    refine Gd (fPtr p2 2) rfl rfl (Zc at_56_2 rfl (PT.ptr q2)) ?_
    refine L_ld (c:=.int .i64 ((x1).Hook)) rfl rfl .plain (fun _ _ h=>h.ch) rC rfl ?_
    refine L_purL (c:=fPtr p2 4) rfl rfl .plain (Zc at_56_4 rfl (PT.ptr q2)) ?_
    refine L_ldL (c:=.bool ((x1).Up)) rfl rfl .plain (fun _ _ h=>h.ch) rfl uC rfl ?_
    refine Gd (fPtr p6 2) rfl rfl (Zc at_56_2 rfl (OB.ptr b7)) ?_
    refine L_nl fun lB tD hs=>?_
    have hlt:Lt g7.m w7 lB tD:=hs.ch
    have hfr:=hfr.ext hs
    have q1:=q1.ext hs
    have q2:=q2.ext hs
    have b7:=b7.ext hs
    clear hs
    refine TL_do hlt.w .plain rfl (D_storeFc (g:=lB) part_FaultDamage_2 Try.sizeOf3 rfl b7 rfl (Zj.2 rfl) fun uD mH hs b143 rst hos=>?_)
    clear rst hos
    have hfr:=hfr.stp hs
    have hlt:=hlt.stp hs
    have q1:=q1.stp hs
    have q2:=q2.stp hs
    refine TL_pur hlt.w (v:=fPtr p6 4) (Zc at_56_4 rfl (OB.ptr b143)) .plain rfl ?_
    refine TL_do hlt.w .plain rfl (D_storeFc (g:=uD) part_FaultDamage_4 Try.sizeOf4 rfl b143 rfl (RV_bool.2 rfl) fun vD nH hs b145 rst hos=>?_)
    clear rst hos
    have hfr:=hfr.stp hs
    have hlt:=hlt.stp hs
    have q1:=q1.stp hs
    have q2:=q2.stp hs
    refine TL_nil hlt.w ?_
    clear hlt
    refine blk_n ?_
    obtain ⟨rfl,rfl⟩:=pairs2 h
    exact hQ _ _ ⟨vD,hfr,rfl,q1,rfl,q2,rfl,b145,rfl⟩
   ·refine E_cf y9 rfl ?_
    obtain ⟨m7,hx,h⟩:=Ge h
    refine E_join (fun e w=>∃ (g:Gh) ,Fr gI wI g w∧e 2=p1∧PT g.m w (x0:FaultFaultLoom) p1∧e 3=p2∧PT g.m w (x1:Zv) p2∧e 5=p6∧OB 2005 g w 56 ((⟨(x1).Kind,0,0,0,false⟩:Zv):Zv) p6∧e 6=.bool (true)∧e 11=.int .i64 ((x1).Kind)∧e 28=.bool (m7)) (fun Q' hQ=>?_) (fun yG oH hR=>?_)
    ·replace h := hx
     clear hx
     refine Zf (Za (EL_in (.bool (((x1).Kind == (3:Int)))) rfl rfl rfl rfl ?_))
     refine Zg (.bool (((x1).Kind == (3:Int)))) rfl rfl ?_
     refine Zb (Zd ?_)
     rcases Zt h with ⟨z9,h⟩ | ⟨z9,h⟩
     ·refine E_ct z9 rfl ?_
      refine Zu ?_
      obtain rfl:=sinj h
      exact hQ _ _ ⟨g7,hfr,rfl,q1,rfl,q2,rfl,b7,rfl,rfl,rfl⟩
     ·refine E_cf z9 rfl ?_
      refine Za (EL_in (.bool (((x1).Kind == (4:Int)))) rfl rfl rfl rfl ?_)
      refine Zg (.bool (((x1).Kind == (4:Int)))) rfl rfl ?_
      refine Zb ?_
      obtain rfl:=sinj h
      exact hQ _ _ ⟨g7,hfr,rfl,q1,rfl,q2,rfl,b7,rfl,rfl,rfl⟩
    ·clear hx
     obtain ⟨d9,hfr,k9,i7,k8,i6,l8,m8,aB,iB,n9⟩:=hR
     rcases Zt h with ⟨bA,h⟩ | ⟨bA,h⟩
     ·refine E_cond_true (Eq.trans (show ev _ _ = .bool (m7) from n9) (congrArg Value.bool bA)) ?_
      refine Za (Ga (fPtr p2 1) (Zc at_56_1 k8 (PT.ptr i6)) rfl ?_)
      have xD:=Zm (part_FaultDamage_1).1 i6
      refine Ze .plain rfl (D_load (g:=d9) Try.isAgg3 Try.sizeOf3 rfl xD fun pH yD=>?_)
      obtain rfl:=Zj.1 yD
      refine Ga (fPtr p6 1) (Zc at_56_1 l8 (OB.ptr m8)) rfl ?_
      refine Ze .plain rfl (D_storeFc (g:=d9) part_FaultDamage_1 Try.sizeOf3 rfl m8 rfl (Zj.2 rfl) fun zD qH hs b153 rst hos=>?_)
      clear rst hos
      have hfr:=hfr.stp hs
      have i7:=i7.stp hs
      have i6:=i6.stp hs
      refine Zb (blk_n ?_)
      obtain ⟨rfl,rfl⟩:=pairs2 h
      exact hQ _ _ ⟨zD,hfr,k9,i7,k8,i6,l8,b153,aB⟩
     ·refine E_cond_false (Eq.trans (show ev _ _ = .bool (m7) from n9) (congrArg Value.bool bA)) ?_
      refine Zf (Za (EL_in (.bool (((x1).Kind == (5:Int)))) iB rfl rfl rfl ?_))
      refine Zg (.bool (((x1).Kind == (5:Int)))) rfl rfl ?_
      refine Zb (Zd ?_)
      rcases Zt h with ⟨iA,h⟩ | ⟨iA,h⟩
      ·refine E_ct iA rfl ?_
       refine Za (Ga (fPtr p2 3) (Zc at_56_3 k8 (PT.ptr i6)) rfl ?_)
       have aE:=Zm (part_FaultDamage_3).1 i6
       refine Ze .plain rfl (D_load (g:=d9) Try.isAgg3 Try.sizeOf3 rfl aE fun sH bE=>?_)
       obtain rfl:=Zj.1 bE
       refine Ga (fPtr p6 3) (Zc at_56_3 l8 (OB.ptr m8)) rfl ?_
       refine Ze .plain rfl (D_storeFc (g:=d9) part_FaultDamage_3 Try.sizeOf3 rfl m8 rfl (Zj.2 rfl) fun iE tH hs b158 rst hos=>?_)
       clear rst hos
       have hfr:=hfr.stp hs
       have i7:=i7.stp hs
       have i6:=i6.stp hs
       refine Zb (blk_n ?_)
       obtain ⟨rfl,rfl⟩:=pairs2 h
       exact hQ _ _ ⟨iE,hfr,k9,i7,k8,i6,l8,b158,aB⟩
      ·refine E_cf iA rfl ?_
       refine Za (Zg (.bool false) rfl rfl ?_)
       refine Zb (blk_n ?_)
       obtain ⟨rfl,rfl⟩:=pairs2 h
       exact hQ _ _ ⟨d9,hfr,k9,i7,k8,i6,l8,m8,rfl⟩
 ·clear hx
  obtain ⟨n8,hfr,l9,u3,v8,o0,mB,nB,oB⟩:=hR
  obtain ⟨r8,hx,h⟩:=Ge h
  refine E_join (fun e w=>∃ (g:Gh) ,Fr gI wI g w∧e 4=.bool (r8)) (fun Q' hQ=>?_) (fun zG uH hR=>?_)
  ·replace h := hx
   clear hx
   refine Za (Zo oB rfl ?_)
   refine Zn (.bool (g8)) rfl rfl ?_
   rcases Zt h with ⟨y6,h⟩ | ⟨y6,h⟩
   ·refine Ze (.yes2 rfl rfl y6) rfl (D_load (g := n8) Try.isAgg56 Try.sizeOf56 v8 o0 fun xH lE => ?_)
    refine Ze (.yes2 rfl rfl y6) rfl (D_loadO (g:=n8) Try.isAgg56 Try.sizeOf56 mB nB fun yH mE=>?_)
    refine Gb (.bool ((decide (x1=x6)))) (P_seq seq_56 rfl eg_56 rfl rfl lE mE) rfl rfl y6 rfl ?_
    refine Ga (.bool ((decide (x1=x6)))) (Zl (b:=g8) rfl (pick_t y6 rfl)) rfl ?_
    refine Zn (.bool ((decide (x1=x6)))) rfl rfl ?_
    rcases Zt h with ⟨l5,h⟩ | ⟨l5,h⟩
    ·refine Gb (fPtr p1 0) (Zc at_170_0 l9 (PT.ptr u3)) rfl rfl l5 rfl ?_
     have tB:=Zm (part_FaultFaultLoom_0).1 u3
     refine Gb (fPtr (fPtr p1 0) 2) (Zc at_32_1 rfl (PT.ptr tB)) rfl rfl l5 rfl ?_
     have vB:=Zm (part_FaultLoom_1).1 tB
     refine Gb (fPtr (fPtr (fPtr p1 0) 2) 1) (Zc at_30_1 rfl (PT.ptr vB)) rfl rfl l5 rfl ?_
     have oE:=Zm (part_Design_1).1 vB
     refine Ze (.yes2 rfl rfl l5) rfl (D_load (g:=n8) Try.isAgg26 Try.sizeOf26 rfl oE fun zH rE=>?_)
     refine Gb (.int .i64 (((((x0).FaultLoom).Design).Rows).length:Int)) (P_len Try.underlying26 rfl rE) rfl rfl l5 rfl ?_
     refine Gb (.int .i64 ((w64 ((((((x0).FaultLoom).Design).Rows).length:Int) - (1:Int))))) (P_int rfl rfl rfl) rfl rfl l5 rfl ?_
     refine Gb (fPtr p2 1) (Zc at_56_1 v8 (PT.ptr o0)) rfl rfl l5 rfl ?_
     have uE:=Zm (part_FaultDamage_1).1 o0
     refine Ze (.yes2 rfl rfl l5) rfl (D_load (g:=n8) Try.isAgg3 Try.sizeOf3 rfl uE fun aI vE=>?_)
     obtain rfl:=Zj.1 vE
     refine Ze (.yes2 rfl rfl l5) rfl (D_buildSlice (g:=n8) 3054 (xs:=([(x1).Pick]:List Int)) (vs:=[.int .i64 ((x1).Pick)]) Try.underlying26 Try.sizeOf3 Try.zeroValue3 rfl rfl (.cons rfl .nil) (RVs.cons (Zj.2 rfl) RVs.nil) rfl rfl fun xE bI yE hs o203 zE hxt hfl=>?_)
     have hfr:=hfr.stp hs
     have u3:=u3.stp hs
     have o0:=o0.stp hs
     obtain ⟨x8,vC,h⟩:=Ge h
     refine Ze (.yes2 rfl rfl l5) rfl (Zp (g:=xE) (vs:=[.int .i64 (0),.int .i64 ((w64 ((((((x0).FaultLoom).Design).Rows).length:Int) - (1:Int)))),yE]) en94 (.cons rfl (.cons rfl (.cons rfl .nil))) (wk94 zE vC) fun rA aH dI hs hr=>?_)
     have hfr:=hfr.ext hs
     have u3:=u3.ext hs
     have o0:=o0.ext hs
     subst hr
     refine Ga (.bool (x8)) (Zl (b:=(decide (x1=x6))) rfl (pick_t l5 rfl)) rfl ?_
     refine Zn (.bool (x8)) rfl rfl ?_
     rcases Zt h with ⟨x5,h⟩ | ⟨x5,h⟩
     ·refine Gb (fPtr p1 0) (Zc at_170_0 l9 (PT.ptr u3)) rfl rfl x5 rfl ?_
      have yB:=Zm (part_FaultFaultLoom_0).1 u3
      refine Gb (fPtr (fPtr p1 0) 2) (Zc at_32_1 rfl (PT.ptr yB)) rfl rfl x5 rfl ?_
      have zB:=Zm (part_FaultLoom_1).1 yB
      refine Gb (fPtr (fPtr (fPtr p1 0) 2) 0) (Zc at_30_0 rfl (PT.ptr zB)) rfl rfl x5 rfl ?_
      have cF:=Zm (part_Design_0).1 zB
      refine Ze (.yes2 rfl rfl x5) rfl (D_load (g:=rA) Try.isAgg3 Try.sizeOf3 rfl cF fun iI dF=>?_)
      obtain rfl:=Zj.1 dF
      refine Gb (.int .i64 ((w64 ((((x0).FaultLoom).Design).Hooks - (1:Int))))) (P_int rfl rfl rfl) rfl rfl x5 rfl ?_
      refine Gb (fPtr p2 2) (Zc at_56_2 v8 (PT.ptr o0)) rfl rfl x5 rfl ?_
      have eF:=Zm (part_FaultDamage_2).1 o0
      refine Ze (.yes2 rfl rfl x5) rfl (D_load (g:=rA) Try.isAgg3 Try.sizeOf3 rfl eF fun jI rF=>?_)
      obtain rfl:=Zj.1 rF
      refine Ze (.yes2 rfl rfl x5) rfl (D_buildSlice (g:=rA) 3065 (xs:=([(x1).Hook]:List Int)) (vs:=[.int .i64 ((x1).Hook)]) Try.underlying26 Try.sizeOf3 Try.zeroValue3 rfl rfl (.cons rfl .nil) (RVs.cons (Zj.2 rfl) RVs.nil) rfl rfl fun sF kI tF hs o213 uF hxt hfl=>?_)
      have hfr:=hfr.stp hs
      have u3:=u3.stp hs
      have o0:=o0.stp hs
      obtain ⟨a9,aD,h⟩:=Ge h
      refine Ze (.yes2 rfl rfl x5) rfl (Zp (g:=sF) (vs:=[.int .i64 (0),.int .i64 ((w64 ((((x0).FaultLoom).Design).Hooks - (1:Int)))),tF]) en94 (.cons rfl (.cons rfl (.cons rfl .nil))) (wk94 uF aD) fun yA cH lI hs hr=>?_)
      have hfr:=hfr.ext hs
      have u3:=u3.ext hs
      have o0:=o0.ext hs
      subst hr
      refine Ga (.bool (a9)) (Zl (b:=x8) rfl (pick_t x5 rfl)) rfl ?_
      refine Zn (.bool (a9)) rfl rfl ?_
      rcases Zt h with ⟨t5,h⟩ | ⟨t5,h⟩
      ·refine Gb (fPtr p1 0) (Zc at_170_0 l9 (PT.ptr u3)) rfl rfl t5 rfl ?_
       have cC:=Zm (part_FaultFaultLoom_0).1 u3
       refine Gb (fPtr (fPtr p1 0) 0) (Zc at_32_0 rfl (PT.ptr cC)) rfl rfl t5 rfl ?_
       have mC:=Zm (part_FaultLoom_0).1 cC
       refine Gb (fPtr (fPtr (fPtr p1 0) 0) 1) (Zc at_28_1 rfl (PT.ptr mC)) rfl rfl t5 rfl ?_
       have vF:=Zm (part_TieHarness_1).1 mC
       refine Ze (.yes2 rfl rfl t5) rfl (D_load (g:=yA) Try.isAgg26 Try.sizeOf26 rfl vF fun mI xF=>?_)
       refine Gb (.int .i64 (((((x0).FaultLoom).Harness).Warps).length:Int)) (P_len Try.underlying26 rfl xF) rfl rfl t5 rfl ?_
       refine Gb (.int .i64 ((w64 ((((((x0).FaultLoom).Harness).Warps).length:Int) - (1:Int))))) (P_int rfl rfl rfl) rfl rfl t5 rfl ?_
       refine Gb (fPtr p2 3) (Zc at_56_3 v8 (PT.ptr o0)) rfl rfl t5 rfl ?_
       have yF:=Zm (part_FaultDamage_3).1 o0
       refine Ze (.yes2 rfl rfl t5) rfl (D_load (g:=yA) Try.isAgg3 Try.sizeOf3 rfl yF fun nI zF=>?_)
       obtain rfl:=Zj.1 zF
       refine Ze (.yes2 rfl rfl t5) rfl (D_buildSlice (g:=yA) 3077 (xs:=([(x1).Warp]:List Int)) (vs:=[.int .i64 ((x1).Warp)]) Try.underlying26 Try.sizeOf3 Try.zeroValue3 rfl rfl (.cons rfl .nil) (RVs.cons (Zj.2 rfl) RVs.nil) rfl rfl fun aG pI bG hs o223 cG hxt hfl=>?_)
       have hfr:=hfr.stp hs
       obtain ⟨u9,bD,h⟩:=Ge h
       refine Ze (.yes2 rfl rfl t5) rfl (Zp (g:=aG) (vs:=[.int .i64 (0),.int .i64 ((w64 ((((((x0).FaultLoom).Harness).Warps).length:Int) - (1:Int)))),bG]) en94 (.cons rfl (.cons rfl (.cons rfl .nil))) (wk94 cG bD) fun eG dH qI hs hr=>?_)
       have hfr:=hfr.ext hs
       subst hr
       refine Ga (.bool (u9)) (Zl (b:=a9) rfl (pick_t t5 rfl)) rfl ?_
       refine Zg (.bool (u9)) rfl rfl ?_
       refine Zb ?_
       obtain rfl:=sinj h
       exact hQ _ _ ⟨eG,hfr,rfl⟩
      ·refine Gc rfl rfl t5 rfl rfl ?_
       iterate 9 refine Gc rfl rfl t5 rfl rfl ?_
       refine Ga (.bool false) (Zl (b:=a9) rfl (pick_f t5 rfl)) rfl ?_
       refine Zg (.bool false) rfl rfl ?_
       refine Zb ?_
       obtain rfl:=sinj h
       exact hQ _ _ ⟨yA,hfr,rfl⟩
     ·refine Gc rfl rfl x5 rfl rfl ?_
      iterate 8 refine Gc rfl rfl x5 rfl rfl ?_
      refine Ga (.bool false) (Zl (b:=x8) rfl (pick_f x5 rfl)) rfl ?_
      refine EL_dead 12 rfl ?_
      refine Zg (.bool false) rfl rfl ?_
      refine Zb ?_
      obtain rfl:=sinj h
      exact hQ _ _ ⟨rA,hfr,rfl⟩
    ·refine Gc rfl rfl l5 rfl rfl ?_
     iterate 9 refine Gc rfl rfl l5 rfl rfl ?_
     refine Ga (.bool false) (Zl (b:=(decide (x1=x6))) rfl (pick_f l5 rfl)) rfl ?_
     refine EL_dead 23 rfl ?_
     refine Zg (.bool false) rfl rfl ?_
     refine Zb ?_
     obtain rfl:=sinj h
     exact hQ _ _ ⟨n8,hfr,rfl⟩
   ·refine Gc rfl rfl y6 rfl rfl ?_
    refine Gc rfl rfl y6 rfl rfl ?_
    refine Gc rfl rfl y6 rfl rfl ?_
    refine Ga (.bool false) (Zl (b:=g8) rfl (pick_f y6 rfl)) rfl ?_
    refine EL_dead 35 rfl ?_
    refine Zg (.bool false) rfl rfl ?_
    refine Zb ?_
    obtain rfl:=sinj h
    exact hQ _ _ ⟨n8,hfr,rfl⟩
  ·clear hx
   obtain ⟨sI,hfr,qC⟩:=hR
   refine E_ret ?_
   obtain rfl:=sinj h
   exact end1 rfl rfl (show _=.bool (r8) from qC) ⟨_,hfr,rfl⟩
def f222 (x0:List Zv) (x1:Zv→Option Bool):Option (Bool):=
 (f269 x0 x1).bind fun y2=>
 some ((decide (y2 ≥ (0:Int))))
theorem en222:Enters Try.prog 222:=enters_of Try.func222 (by kernel_rfl) rfl
theorem wk222 {gI:Gh} {wI:World} {x0:List Zv} {x1:Zv→Option Bool} {up0:Value} (rp0:RV gI.m wI x0 up0) {up1:Value} (rp1:FnV1 Try.prog x1 up1 gI wI) {r:Bool} (h:f222 x0 x1=some r):Fn Try.prog 222 #[up0,up1] gI wI (fun _ _ v=>v=.bool (r)):=by
 unfold f222 at h
 refine fn_of_E Try.func222 rfl (Nat.le_of_ble_eq_true rfl) fun g0 hm hfr=>?_
 have rp0:RV g0.m wI x0 up0:=hm ▸ rp0
 obtain ⟨ff1,fa1,fc1,rfl,fen1,fcl1⟩:=rp1
 show E _ 9 none _ _ _ _ _
 refine Zf (Za (Zg (.bool false) rfl rfl ?_))
 refine Zb (Zd (Zf (Za (Zn up0 rfl rfl ?_))))
 refine Zn ((.func (.func ff1) fa1 fc1)) rfl rfl ?_
 obtain ⟨y2,hy2,h⟩:=Ge h
 refine Ze .plain rfl (Zp (g:=g0) (vs:=[up0,(.func (.func ff1) fa1 fc1)]) en269 (.cons rfl (.cons rfl .nil)) (wk269 rp0 (FnV1.ch ⟨_,_,_,rfl,fen1,fcl1⟩ hfr.ch) hy2) fun g1 w1_ v1 hs hr=>?_)
 have hfr:=hfr.ext hs
 subst hr
 refine EL_in (.bool ((decide (y2 ≥ (0:Int))))) rfl rfl rfl rfl ?_
 refine Zg (.bool ((decide (y2 ≥ (0:Int))))) rfl rfl ?_
 refine Zb (Zd (E_ret ?_))
 obtain rfl:=sinj h
 exact end1 rfl rfl (show _=.bool ((decide (y2 ≥ (0:Int)))) from rfl) ⟨_,hfr,rfl⟩
def f223 (x0:List Zv) (x1:Int) (x2:Zv→Zv→Option Int):Option ((List Zv)):=
 Option.bind (α:=(List Zv) × Int) (
  lp (σ:=(List Zv) × Int × Int) (fun k9 (x5,t5,u3)=>
   jn (σ:=Unit) (fun _=>
    (f270 x5 t5 u3 x2).bind fun cD=>
    k9 (cD,u3,(w64 (u3 + (20:Int))))
    ) fun xE=>
   bif (decide (u3 ≤ x1)) then
    xE ()
   else
    some (x5,t5)
   ) big (x0,(0:Int),(20:Int))
  ) fun (g8,i6)=>
 (f270 g8 i6 x1 x2).bind fun yE=>
 lp (σ:=(List Zv) × Int) (fun zE (x6,o0)=>
  jn (σ:=Unit) (fun _=>
   Option.bind (α:=(List Zv) × Int) (
    lp (σ:=(List Zv) × Int × Int) (fun zF (k8,y6,i7)=>
     jn (σ:=Unit) (fun _=>
      none
      ) fun cF=>
     bif (decide (i7 ≤ x1)) then
      cF ()
     else
      some (k8,y6)
     ) big (x6,(0:Int),(w64 ((2:Int) * o0)))
    ) fun (l8,l5)=>
   Option.bind (α:=(List Zv)) (
    bif (decide ((w64 (l5 + o0)) < x1)) then
     none
    else
     some (l8)
    ) fun m7=>
   zE (m7,(w64 (o0 * (2:Int))))
   ) fun dF=>
  bif (decide (o0 < x1)) then
   dF ()
  else
   some (x6)
  ) big (yE,(20:Int))
theorem en223:Enters Try.prog 223:=enters_of Try.func223 (by kernel_rfl) rfl
theorem wk223 {iI:Nat} {gI:Gh} {wI:World} {x0:List Zv} {x1:Int} {x2:Zv→Zv→Option Int} {up0:Value} (mp0:OM iI gI wI 56 x0 up0) {up2:Value} (rp2:FnV2 Try.prog x2 up2 gI wI) {r:(List Zv)} (h:f223 x0 x1 x2=some r):FnM Try.prog 223 #[up0,.int .i64 (x1),up2] iI gI wI (fun g w v=>v=.tuple #[]∧OM iI g w 56 r up0):=by
 unfold f223 at h
 refine fnM_of_E Try.func223 rfl (Nat.le_of_ble_eq_true rfl) fun g0 hm hfr=>?_
 have eD:=mp0
 replace mp0:=mp0.enter
 rw [← hm] at mp0
 replace hm:g0.m=gI.m:=by rw [hm]
 obtain ⟨ff2,fa2,fc2,rfl,fen2,fcl2⟩:=rp2
 show E _ 63 none _ _ _ _ _
 refine Zf (Za (Zg (.int .i64 (20)) rfl rfl ?_))
 refine Zb (Zd (Zf (Za (Zn (.int .i64 (20)) rfl rfl ?_))))
 refine Zg (.int .i64 (0)) rfl rfl ?_
 refine Zg (.int .i64 (20)) rfl rfl ?_
 refine Zb (Zd ?_)
 obtain ⟨⟨g8,i6⟩,hx,h⟩:=Ge h
 refine E_join (fun e w=>∃ (g:Gh) ,FrM iI gI wI g w∧e 0=up0∧OM 1 g w 56 (g8:List Zv) up0∧e 1=.int .i64 (x1)∧e 2=(.func (.func ff2) fa2 fc2)∧e 6=.int .i64 ((20:Int))∧e 7=.int .i64 (i6)) (fun Q' hQ=>?_) (fun sG mH hR=>?_)
 ·replace h := hx
  clear hx
  refine Zr ?_
  refine E_lp h (fun (s:(List Zv) × Int × Int) e w=>∃ (g:Gh) ,FrM iI gI wI g w∧e 0=up0∧OM 1 g w 56 (s.1:List Zv) up0∧e 1=.int .i64 (x1)∧e 2=(.func (.func ff2) fa2 fc2)∧e 6=.int .i64 ((20:Int))∧e 7=.int .i64 (s.2.1)∧e 8=.int .i64 (s.2.2)) ⟨g0,hfr,rfl,mp0,rfl,rfl,rfl,rfl,rfl⟩ (fun X9 k9 aG=>?_)
  rintro ⟨x5,t5,u3⟩ xG nH ⟨eF,hfr,n9,u9,m8,y9,z9,bA,iA⟩ h
  refine Zq h (fun (s:Unit) e w=>∃ (g:Gh) ,FrM iI gI wI g w∧e 0=up0∧OM 1 g w 56 (x5:List Zv) up0∧e 1=.int .i64 (x1)∧e 2=(.func (.func ff2) fa2 fc2)∧e 6=.int .i64 ((20:Int))∧e 7=.int .i64 (t5)∧e 8=.int .i64 (u3)) (fun X12 xE sF h=>?_) ?_
  ·refine Zf (Za (Zo iA rfl ?_))
   refine Zo m8 rfl ?_
   refine EL_in (.bool ((decide (u3 ≤ x1)))) rfl rfl rfl rfl ?_
   refine Zb (Zd ?_)
   rcases Zt h with ⟨x8,h⟩ | ⟨x8,h⟩
   ·refine E_ct x8 rfl ?_
    exact Zu (Zd (sF () _ _ ⟨eF,hfr,n9,u9,m8,y9,z9,bA,iA⟩ h))
   ·refine E_cf x8 rfl ?_
    refine E_exit ?_
    refine thn_e ?_
    refine thn_e ?_
    refine blk_hit ?_
    obtain ⟨rfl,rfl⟩:=pairs2 h
    exact hQ _ _ ⟨eF,hfr,n9,u9,m8,y9,z9,bA⟩
  ·rintro _ yG oH ⟨bG, hfr, rA, gD, iD, yA, aB, jD, n8⟩ h
   refine Zr ?_
   refine Zf (Za (Zo rA rfl ?_))
   refine Zo jD rfl ?_
   refine Zo n8 rfl ?_
   refine Zo yA rfl ?_
   obtain ⟨cD,tF,h⟩:=Ge h
   refine Ze .plain rfl (D_callM (g:=bG) (i:=1) (vs:=[up0,.int .i64 (t5),.int .i64 (u3),(.func (.func ff2) fa2 fc2)]) en270 (.cons rfl (.cons rfl (.cons rfl (.cons rfl .nil)))) (wk270 gD (FnV2.ch ⟨_,_,_,rfl,fen2,fcl2⟩ hfr.ch) tF) fun cG zG pH hs hr=>?_)
   obtain ⟨hrv,b15⟩:=hr
   have hfr:=hfr.stp hs
   subst hrv
   refine Zb (Zd (Zf (Za (Zo n8 rfl ?_))))
   refine Zg (.int .i64 (u3)) rfl rfl ?_
   refine Zb (Zd (Za (Zo n8 rfl ?_)))
   refine Zo aB rfl ?_
   refine EL_in (.int .i64 ((w64 (u3 + (20:Int))))) rfl rfl rfl rfl ?_
   refine Zg (.int .i64 ((w64 (u3 + (20:Int))))) rfl rfl ?_
   exact Zb (blk_n (Zd (aG (cD,u3,(w64 (u3 + (20:Int)))) _ _ ⟨cG,hfr,rA,b15,iD,yA,aB,rfl,rfl⟩ h)))
 ·clear hx
  obtain ⟨eG,hfr,dB,lD,iB,lB,nD,oD⟩:=hR
  refine Zf (Za (Zo dB rfl ?_))
  refine Zo oD rfl ?_
  refine Zo iB rfl ?_
  refine Zo lB rfl ?_
  obtain ⟨yE,uF,h⟩:=Ge h
  refine Ze .plain rfl (D_callM (g:=eG) (i:=1) (vs:=[up0,.int .i64 (i6),.int .i64 (x1),(.func (.func ff2) fa2 fc2)]) en270 (.cons rfl (.cons rfl (.cons rfl (.cons rfl .nil)))) (wk270 lD (FnV2.ch ⟨_,_,_,rfl,fen2,fcl2⟩ hfr.ch) uF) fun gG aH qH hs hr=>?_)
  obtain ⟨hrv,b18⟩:=hr
  have hfr:=hfr.stp hs
  subst hrv
  refine Zb (Zd (Zr ?_))
  refine E_lp h (fun (s:(List Zv) × Int) e w=>∃ (g:Gh) ,FrM iI gI wI g w∧e 0=up0∧OM 1 g w 56 (s.1:List Zv) up0∧e 1=.int .i64 (x1)∧e 2=(.func (.func ff2) fa2 fc2)∧e 6=.int .i64 (s.2)) ⟨gG,hfr,dB,b18,iB,lB,nD⟩ (fun X20 zE vF=>?_)
  rintro ⟨x6,o0⟩ cH sH ⟨hG,hfr,sD,mB,nB,tD,oB⟩ h
  refine Zq h (fun (s:Unit) e w=>∃ (g:Gh) ,FrM iI gI wI g w∧e 0=up0∧OM 1 g w 56 (x6:List Zv) up0∧e 1=.int .i64 (x1)∧e 2=(.func (.func ff2) fa2 fc2)∧e 6=.int .i64 (o0)) (fun X23 dF xF h=>?_) ?_
  ·refine Zf (Za (Zo oB rfl ?_))
   refine Zo nB rfl ?_
   refine EL_in (.bool ((decide (o0 < x1)))) rfl rfl rfl rfl ?_
   refine Zb (Zd ?_)
   rcases Zt h with ⟨a9,h⟩ | ⟨a9,h⟩
   ·refine E_ct a9 rfl ?_
    exact Zu (Zd (xF () _ _ ⟨hG,hfr,sD,mB,nB,tD,oB⟩ h))
   ·refine E_cf a9 rfl ?_
    refine E_exit ?_
    refine thn_e ?_
    refine thn_e ?_
    refine blk_hit ?_
    obtain rfl:=sinj h
    exact end0n rfl rfl ⟨_,hfr,rfl,eD.back mB⟩
  ·rintro _ dH tH ⟨iG, hfr, uD, vD, xD, yD, tB⟩ h
   refine Zr ?_
   refine Zf (Za (Zo tB rfl ?_))
   refine EL_in (.int .i64 ((w64 ((2:Int) * o0)))) rfl rfl rfl rfl ?_
   refine Zg (.int .i64 (0)) rfl rfl ?_
   refine Zg (.int .i64 ((w64 ((2:Int) * o0)))) rfl rfl ?_
   refine Zb (Zd ?_)
   obtain ⟨⟨l8,l5⟩,hx,h⟩:=Ge h
   refine E_join (fun e w=>∃ (g:Gh) ,FrM iI gI wI g w∧e 0=up0∧OM 1 g w 56 (l8:List Zv) up0∧e 1=.int .i64 (x1)∧e 2=(.func (.func ff2) fa2 fc2)∧e 6=.int .i64 (o0)∧e 7=.int .i64 (l5)) (fun Q' hQ=>?_) (fun gH uH hR=>?_)
   ·replace h := hx
    clear hx
    refine Zr ?_
    refine E_lp h (fun (s:(List Zv) × Int × Int) e w=>∃ (g:Gh) ,FrM iI gI wI g w∧e 0=up0∧OM 1 g w 56 (s.1:List Zv) up0∧e 1=.int .i64 (x1)∧e 2=(.func (.func ff2) fa2 fc2)∧e 6=.int .i64 (o0)∧e 7=.int .i64 (s.2.1)∧e 8=.int .i64 (s.2.2)) ⟨iG,hfr,uD,vD,xD,yD,tB,rfl,rfl⟩ (fun X32 zF iH=>?_)
    rintro ⟨k8,y6,i7⟩ jH xH ⟨rF,hfr,vB,yB,r8,zB,cC,mC,qC⟩ h
    refine Zq h (fun (s:Unit) e w=>∃ (g:Gh) ,FrM iI gI wI g w∧e 0=up0∧OM 1 g w 56 (k8:List Zv) up0∧e 1=.int .i64 (x1)∧e 2=(.func (.func ff2) fa2 fc2)∧e 6=.int .i64 (o0)∧e 7=.int .i64 (y6)∧e 8=.int .i64 (i7)) (fun X35 cF yF h=>?_) ?_
    ·refine Zf (Za (Zo qC rfl ?_))
     refine Zo r8 rfl ?_
     refine EL_in (.bool ((decide (i7 ≤ x1)))) rfl rfl rfl rfl ?_
     refine Zb (Zd ?_)
     rcases Zt h with ⟨d9,h⟩ | ⟨d9,h⟩
     ·refine E_ct d9 rfl ?_
      exact Zu (Zd (yF () _ _ ⟨rF,hfr,vB,yB,r8,zB,cC,mC,qC⟩ h))
     ·refine E_cf d9 rfl ?_
      refine E_exit ?_
      refine thn_e ?_
      refine thn_e ?_
      refine blk_hit ?_
      obtain ⟨rfl,rfl⟩:=pairs2 h
      exact hQ _ _ ⟨rF,hfr,vB,yB,r8,zB,cC,mC⟩
    ·rintro _ kH yH ⟨zH, hfr, zD, lG, mG, aE, bE, rC, iE⟩ h
     refine Zr ?_
     refine Zf (Za (Zo zD rfl ?_))
     refine Zo rC rfl ?_
     refine Zo rC rfl ?_
     refine Zo bE rfl ?_
     refine EL_in (.int .i64 ((w64 (y6 + o0)))) rfl rfl rfl rfl ?_
     refine Zo iE rfl ?_
     refine Zo aE rfl ?_
     cases h
   ·clear hx
    obtain ⟨jG,hfr,uC,lE,v8,vC,aD,bD⟩:=hR
    obtain ⟨m7,hx,h⟩:=Ge h
    refine E_join (fun e w=>∃ (g:Gh) ,FrM iI gI wI g w∧e 0=up0∧OM 1 g w 56 (m7:List Zv) up0∧e 1=.int .i64 (x1)∧e 2=(.func (.func ff2) fa2 fc2)∧e 6=.int .i64 (o0)) (fun Q' hQ=>?_) (fun lH aI hR=>?_)
    ·replace h := hx
     clear hx
     refine Zf (Za (Zo bD rfl ?_))
     refine Zo aD rfl ?_
     refine EL_in (.int .i64 ((w64 (l5 + o0)))) rfl rfl rfl rfl ?_
     refine Zg (.int .i64 ((w64 (l5 + o0)))) rfl rfl ?_
     refine Zb (Zd (Zf (Za (Zn (.int .i64 ((w64 (l5 + o0)))) rfl rfl ?_))))
     refine Zo v8 rfl ?_
     refine EL_in (.bool ((decide ((w64 (l5 + o0)) < x1)))) rfl rfl rfl rfl ?_
     refine Zb (Zd ?_)
     rcases Zt h with ⟨l9,h⟩ | ⟨l9,h⟩
     ·refine E_ct l9 rfl ?_
      refine Za (Zo uC rfl ?_)
      refine Zo bD rfl ?_
      refine Zn (.int .i64 ((w64 (l5 + o0)))) rfl rfl ?_
      refine Zo v8 rfl ?_
      refine Zo vC rfl ?_
      cases h
     ·refine E_cf l9 rfl ?_
      refine Zu ?_
      obtain rfl:=sinj h
      exact hQ _ _ ⟨jG,hfr,uC,lE,v8,vC,aD⟩
    ·clear hx
     obtain ⟨kG,hfr,mE,oE,rE,uE,vE⟩:=hR
     refine Za (Zo vE rfl ?_)
     refine EL_in (.int .i64 ((w64 (o0 * (2:Int))))) rfl rfl rfl rfl ?_
     refine Zg (.int .i64 ((w64 (o0 * (2:Int))))) rfl rfl ?_
     exact Zb (blk_n (Zd (vF (m7,(w64 (o0 * (2:Int)))) _ _ ⟨kG,hfr,mE,oE,rE,uE,rfl⟩ h)))
theorem v28_0 {iO:Nat} {gI:Gh} {wI:World} {x0:Int} {x1:List UInt8} {up1:Value} (rp1:RV gI.m wI x1 up1) {r:(List Int)} (h:f28 x0 x1=some r):FnG Try.prog 28 #[.int .i64 (x0),up1] gI wI (fun g w v=>OM iO g w 3 (r) v):=by
 unfold f28 at h
 refine fnG_of_E Try.func28 rfl (Nat.le_of_ble_eq_true rfl) fun g0 hm hfr=>?_
 have rp1:RV g0.m wI x1 up1:=hm ▸ rp1
 show E _ 64 none _ _ _ _ _
 refine Zf (Za (Zg (.slice none 0 0) rfl rfl ?_))
 refine Zb (Zd (Zf (Za (Ze .plain rfl (D_buildSlice (g:=g0) 3012 (xs:=([]:List Int)) (vs:=[]) Try.underlying26 Try.sizeOf3 Try.zeroValue3 rfl rfl .nil RVs.nil rfl rfl fun g1 w1 v1 hs o1 r1 hxt hfl=>?_)))))
 have hfr:=hfr.stp hs
 have rp1:=rp1.stp hs
 refine Zg v1 rfl rfl ?_
 refine Zb (Zd ?_)
 obtain ⟨u3,hx,h⟩:=Ge h
 refine E_join (fun e w=>∃ (g:Gh) (v5:Value),Fr gI wI g w∧e 1=up1∧RV g.m w (x1:List UInt8) up1∧e 4=.slice none 0 0∧RV g.m w ([]:List Int) (Value.slice none 0 0)∧e 5=v5∧RV g.m w (u3:List Int) v5∧OS 3012 g w 3 (u3:List Int) v5) (fun Q' hQ=>?_) (fun tF eG hR=>?_)
 ·replace h := hx
  clear hx
  refine Zf (Za (Zg (.int .i64 (0)) rfl rfl ?_))
  refine Zb (Zd (Zr ?_))
  refine E_lp h (fun (s:(List Int) × Int) e w=>∃ (g:Gh) (v5:Value),Fr gI wI g w∧e 0=.int .i64 (x0)∧e 1=up1∧RV g.m w (x1:List UInt8) up1∧e 4=.slice none 0 0∧RV g.m w ([]:List Int) (Value.slice none 0 0)∧e 5=v5∧RV g.m w (s.1:List Int) v5∧OS 3012 g w 3 (s.1:List Int) v5∧e 6=.int .i64 (s.2)) ⟨g1,(v1),hfr,rfl,rfl,rp1,rfl,RV_nil,rfl,r1,o1,rfl⟩ (fun X15 gG lE=>?_)
  rintro ⟨r8,l5⟩ uF hG ⟨zD,y6,hfr,v8,x8,a9,d9,k9,l9,n9,u9,y9⟩ h
  refine Zq h (fun (s:Unit) e w=>∃ (g:Gh) ,Fr gI wI g w∧e 0=.int .i64 (x0)∧e 1=up1∧RV g.m w (x1:List UInt8) up1∧e 4=.slice none 0 0∧RV g.m w ([]:List Int) (Value.slice none 0 0)∧e 5=y6∧RV g.m w (r8:List Int) y6∧OS 3012 g w 3 (r8:List Int) y6∧e 6=.int .i64 (l5)) (fun X18 k18 mE h=>?_) ?_
  ·refine Zf (Za (Zo y9 rfl ?_))
   refine Zo v8 rfl ?_
   refine EL_in (.bool ((decide (l5 < x0)))) rfl rfl rfl rfl ?_
   refine Zb (Zd ?_)
   rcases Zt h with ⟨m8,h⟩ | ⟨m8,h⟩
   ·refine E_ct m8 rfl ?_
    exact Zu (Zd (mE () _ _ ⟨zD,hfr,v8,x8,a9,d9,k9,l9,n9,u9,y9⟩ h))
   ·refine E_cf m8 rfl ?_
    refine E_exit ?_
    refine thn_e ?_
    refine thn_e ?_
    refine blk_hit ?_
    obtain rfl:=sinj h
    exact hQ _ _ ⟨zD,(y6),hfr,x8,a9,d9,k9,l9,n9,u9⟩
  ·rintro _ vF iG ⟨vE, hfr, iB, lB, i6, mB, x6, nB, m7, g8, z9⟩ h
   obtain ⟨k8,hx,h⟩:=Ge h
   refine E_join (fun e w=>∃ (g:Gh) (v5:Value),Fr gI wI g w∧e 0=.int .i64 (x0)∧e 1=up1∧RV g.m w (x1:List UInt8) up1∧e 4=.slice none 0 0∧RV g.m w ([]:List Int) (Value.slice none 0 0)∧e 5=v5∧RV g.m w (k8:List Int) v5∧OS 3012 g w 3 (k8:List Int) v5∧e 6=.int .i64 (l5)) (fun Q' hQ=>?_) (fun xF jG hR=>?_)
   ·replace h := hx
    clear hx
    refine Zr ?_
    refine Za (Zo nB rfl ?_)
    refine Zo z9 rfl ?_
    refine Ze .plain rfl (D_buildSlice (g:=vE) 3020 (xs:=([l5]:List Int)) (vs:=[.int .i64 (l5)]) Try.underlying26 Try.sizeOf3 Try.zeroValue3 rfl rfl (.cons rfl .nil) (RVs.cons (Zj.2 rfl) RVs.nil) rfl rfl fun xE kG lG hs o24 yE hxt hfl=>?_)
    have hfr:=hfr.stp hs
    have i6:=i6.stp hs
    have x6:=x6.stp hs
    have m7:=m7.stp hs
    have g8:=g8.stp hs rfl
    obtain ⟨mG,oE,h⟩:=Ge h
    refine Ze .plain rfl (D_append (g:=xE) (i:=3012) Try.underlying26 info_3 rfl rfl g8 m7 rfl yE oE fun zE sG aE hs o25 cF _=>?_)
    have hfr:=hfr.stp hs
    have i6:=i6.stp hs
    have x6:=x6.stp hs
    refine Zg aE rfl rfl ?_
    refine Zb (blk_n ?_)
    obtain rfl:=sinj h
    exact hQ _ _ ⟨zE,(aE),hfr,iB,lB,i6,mB,x6,rfl,cF,o25,z9⟩
   ·clear hx
    obtain ⟨dF,oB,hfr,tB,vB,yB,zB,cC,mC,qC,rC,uC⟩:=hR
    refine Za (Zo uC rfl ?_)
    refine EL_in (.int .i64 ((w64 (l5 + (1:Int))))) rfl rfl rfl rfl ?_
    refine Zg (.int .i64 ((w64 (l5 + (1:Int))))) rfl rfl ?_
    exact Zb (Zd (lE (k8,(w64 (l5 + (1:Int)))) _ _ ⟨dF,(oB),hfr,tB,vB,yB,zB,cC,mC,qC,rC,rfl⟩ h))
 ·clear hx
  obtain ⟨eF,o0,hfr,vC,aD,bD,cD,eD,gD,iD⟩:=hR
  refine Zq h (fun (s:Unit) e w=>∃ (g:Gh) ,Fr gI wI g w∧e 5=o0∧RV g.m w (u3:List Int) o0∧OS 3012 g w 3 (u3:List Int) o0) (fun X41 xG rE h=>?_) ?_
  ·refine Zf (Za (Zg (.int .i64 (0)) rfl rfl ?_))
   refine Zb (Zd (Zr ?_))
   refine E_lp h (fun (s:Int) e w=>∃ (g:Gh) ,Fr gI wI g w∧e 1=up1∧RV g.m w (x1:List UInt8) up1∧e 4=.slice none 0 0∧RV g.m w ([]:List Int) (Value.slice none 0 0)∧e 5=o0∧RV g.m w (u3:List Int) o0∧OS 3012 g w 3 (u3:List Int) o0∧e 7=.int .i64 (s)) ⟨eF,hfr,vC,aD,bD,cD,eD,gD,iD,rfl⟩ (fun X42 yG yF=>?_)
   rintro t5 zF zG ⟨bE,hfr,jD,lD,bA,iA,rA,yA,aB,dB⟩ h
   refine Zq h (fun (s:Unit) e w=>∃ (g:Gh) ,Fr gI wI g w∧e 4=.slice none 0 0∧RV g.m w ([]:List Int) (Value.slice none 0 0)) (fun X48 k48 uE h=>?_) ?_
   ·obtain ⟨i7, hx, h⟩ := Ge h
    refine E_join (fun e w=>∃ (g:Gh) ,Fr gI wI g w∧e 4=.slice none 0 0∧RV g.m w ([]:List Int) (Value.slice none 0 0)∧e 5=o0∧RV g.m w (u3:List Int) o0∧OS 3012 g w 3 (u3:List Int) o0∧e 29=.bool (i7)) (fun Q' hQ=>?_) (fun aG aH hR=>?_)
    ·replace h := hx
     clear hx
     refine Za (Zo dB rfl ?_)
     refine Zo jD rfl ?_
     refine Ga (.int .i64 ((x1).length:Int)) (P_len Try.underlying22 rfl lD) rfl ?_
     refine EL_in (.bool ((decide (t5 < ((x1).length:Int))))) rfl rfl rfl rfl ?_
     refine Zn (.bool ((decide (t5 < ((x1).length:Int))))) rfl rfl ?_
     rcases Zt h with ⟨x5,h⟩ | ⟨x5,h⟩
     ·refine Gb (.int .i64 (t5)) (Zk dB) rfl rfl x5 rfl ?_
      refine Gb (.bool ((decide (t5 < (12:Int))))) (P_int rfl rfl rfl) rfl rfl x5 rfl ?_
      refine Ga (.bool ((decide (t5 < (12:Int))))) (Zl (b:=(decide (t5 < ((x1).length:Int)))) rfl (pick_t x5 rfl)) rfl ?_
      refine Zb ?_
      obtain rfl:=sinj h
      exact hQ _ _ ⟨bE,hfr,bA,iA,rA,yA,aB,rfl⟩
     ·refine Gc rfl rfl x5 rfl rfl ?_
      refine Gc rfl rfl x5 rfl rfl ?_
      refine Ga (.bool false) (Zl (b:=(decide (t5 < ((x1).length:Int)))) rfl (pick_f x5 rfl)) rfl ?_
      refine Zb ?_
      obtain rfl:=sinj h
      exact hQ _ _ ⟨bE,hfr,bA,iA,rA,yA,aB,rfl⟩
    ·clear hx
     obtain ⟨iE,hfr,nD,oD,sD,tD,uD,l8⟩:=hR
     rcases Zt h with ⟨n8,h⟩ | ⟨n8,h⟩
     ·refine E_cond_true (Eq.trans (show ev _ _ = .bool (i7) from l8) (congrArg Value.bool n8)) ?_
      exact Zu (Zd (uE () _ _ ⟨iE,hfr,nD,oD⟩ h))
     ·refine E_cond_false (Eq.trans (show ev _ _ = .bool (i7) from l8) (congrArg Value.bool n8)) ?_
      refine E_exit ?_
      refine thn_e ?_
      refine thn_e ?_
      refine blk_hit ?_
      exact Zd (rE () _ _ ⟨iE,hfr,sD,tD,uD⟩ h)
   ·rintro _ bG cH ⟨dH, hfr, rF, sF⟩ h
    refine Zf (Zr ?_)
    cases h
  ·rintro _ cG gH ⟨iH, hfr, vD, xD, yD⟩ h
   refine Zf (Za (Zo vD rfl ?_))
   refine Zg o0 rfl rfl ?_
   refine Zb (Zd (E_ret ?_))
   obtain rfl:=sinj h
   obtain ⟨gh,hxh,homh⟩:=OM.hand (i:=iO) plain_int hfr yD xD
   exact end1 rfl rfl (show _=o0 from rfl) ⟨gh,hxh,homh⟩
def f87 (x0:Zz) (z0:TieHarness):Option (Bool):=
 Option.bind (α:=Bool) (
  (f88 ((0:Int)) ((119:Int)) (([(x0).Pick]:List Int))).bind fun l5=>
  bif (!l5) then
   some (true)
  else
   (f88 ((0:Int)) ((w64 ((((z0).Warps).length:Int) - (1:Int)))) (([(x0).Warp]:List Int))).bind fun t5=>
   some ((!t5))
  ) fun u3=>
 some (u3)
theorem en87:Enters Try.prog 87:=enters_of Try.func87 (by kernel_rfl) rfl
theorem wk87 {gI:Gh} {wI:World} {x0:Zz} {z0:TieHarness} {up0:Value} (rp0:RV gI.m wI x0 up0) {pf0:Value} (qf0:PT gI.m wI z0 pf0) {r:Bool} (h:f87 x0 z0=some r):Fn Try.prog 87 #[up0,pf0] gI wI (fun _ _ v=>v=.bool (r)):=by
 unfold f87 at h
 refine fn_of_E Try.func87 rfl (Nat.le_of_ble_eq_true rfl) fun g0 hm hfr=>?_
 have qf0:PT g0.m wI z0 pf0:=hm ▸ qf0
 have rp0:RV g0.m wI x0 up0:=hm ▸ rp0
 show E _ 20 none _ _ _ _ _
 refine Zf (Za (Ze .plain rfl (D_box (g:=g0) rfl rp0 fun g1 w1 p1 hs q1=>?_)))
 have hfr:=hfr.ext hs
 have qf0:=qf0.ext hs
 refine Zg (.bool false) rfl rfl ?_
 refine Zb (Zd ?_)
 obtain ⟨u3,hx,h⟩:=Ge h
 refine E_join (fun e w=>∃ (g:Gh) ,Fr gI wI g w∧e 3=.bool (u3)) (fun Q' hQ=>?_) (fun l9 y9 hR=>?_)
 ·replace h := hx
  clear hx
  refine Za (Ga (fPtr p1 0) (Zc at_87_0 rfl (PT.ptr q1)) rfl ?_)
  have i7:=Zm (part_FaultSight_0).1 q1
  refine Ze .plain rfl (D_load (g:=g1) Try.isAgg3 Try.sizeOf3 rfl i7 fun z9 m7=>?_)
  obtain rfl:=Zj.1 m7
  refine Ze .plain rfl (D_buildSlice (g:=g1) 3006 (xs:=([(x0).Pick]:List Int)) (vs:=[.int .i64 ((x0).Pick)]) Try.underlying26 Try.sizeOf3 Try.zeroValue3 rfl rfl (.cons rfl .nil) (RVs.cons (Zj.2 rfl) RVs.nil) rfl rfl fun g8 bA k8 hs o17 l8 hxt hfl=>?_)
  have hfr:=hfr.stp hs
  have qf0:=qf0.stp hs
  have q1:=q1.stp hs
  obtain ⟨l5,x6,h⟩:=Ge h
  refine Ze .plain rfl (Zp (g:=g8) (vs:=[.int .i64 (0),.int .i64 (119),k8]) en88 (.cons rfl (.cons rfl (.cons rfl .nil))) (wk88 l8 x6) fun x5 n9 iA hs hr=>?_)
  have hfr:=hfr.ext hs
  have qf0:=qf0.ext hs
  have q1:=q1.ext hs
  subst hr
  refine Ga (.bool (!l5)) (P_not rfl) rfl ?_
  refine Zn (.bool (!l5)) rfl rfl ?_
  rcases Zt h with ⟨o0,h⟩ | ⟨o0,h⟩
  ·refine Gc rfl rfl o0 rfl rfl ?_
   iterate 8 refine Gc rfl rfl o0 rfl rfl ?_
   refine Ga (.bool true) (Zl (b:=(!l5)) rfl (pick_t o0 rfl)) rfl ?_
   refine Zg (.bool true) rfl rfl ?_
   refine Zb ?_
   obtain rfl:=sinj h
   exact hQ _ _ ⟨x5,hfr,rfl⟩
  ·refine Gb (fPtr pf0 1) (Zc at_28_1 rfl (PT.ptr qf0)) rfl rfl o0 rfl ?_
   have m8:=Zm (part_TieHarness_1).1 qf0
   refine Ze (.yes2 rfl rfl o0) rfl (D_load (g:=x5) Try.isAgg26 Try.sizeOf26 rfl m8 fun rA n8=>?_)
   refine Gb (.int .i64 (((z0).Warps).length:Int)) (P_len Try.underlying26 rfl n8) rfl rfl o0 rfl ?_
   refine Gb (.int .i64 ((w64 ((((z0).Warps).length:Int) - (1:Int))))) (P_int rfl rfl rfl) rfl rfl o0 rfl ?_
   refine Gb (fPtr p1 1) (Zc at_87_1 rfl (PT.ptr q1)) rfl rfl o0 rfl ?_
   have r8:=Zm (part_FaultSight_1).1 q1
   refine Ze (.yes2 rfl rfl o0) rfl (D_load (g:=x5) Try.isAgg3 Try.sizeOf3 rfl r8 fun yA v8=>?_)
   obtain rfl:=Zj.1 v8
   refine Ze (.yes2 rfl rfl o0) rfl (D_buildSlice (g:=x5) 3016 (xs:=([(x0).Warp]:List Int)) (vs:=[.int .i64 ((x0).Warp)]) Try.underlying26 Try.sizeOf3 Try.zeroValue3 rfl rfl (.cons rfl .nil) (RVs.cons (Zj.2 rfl) RVs.nil) rfl rfl fun x8 aB a9 hs o25 d9 hxt hfl=>?_)
   have hfr:=hfr.stp hs
   obtain ⟨t5,y6,h⟩:=Ge h
   refine Ze (.yes2 rfl rfl o0) rfl (Zp (g:=x8) (vs:=[.int .i64 (0),.int .i64 ((w64 ((((z0).Warps).length:Int) - (1:Int)))),a9]) en88 (.cons rfl (.cons rfl (.cons rfl .nil))) (wk88 d9 y6) fun k9 u9 dB hs hr=>?_)
   have hfr:=hfr.ext hs
   subst hr
   refine Gb (.bool (!t5)) (P_not rfl) rfl rfl o0 rfl ?_
   refine Ga (.bool (!t5)) (Zl (b:=(!l5)) rfl (pick_f o0 rfl)) rfl ?_
   refine Zg (.bool (!t5)) rfl rfl ?_
   refine Zb ?_
   obtain rfl:=sinj h
   exact hQ _ _ ⟨k9,hfr,rfl⟩
 ·clear hx
  obtain ⟨iB,hfr,i6⟩:=hR
  refine E_ret ?_
  obtain rfl:=sinj h
  exact end1 rfl rfl (show _=.bool (u3) from i6) ⟨_,hfr,rfl⟩
def f93 (x0:Zz) (z0:FaultLoom):Option (Bool):=
 Option.bind (α:=Bool) (
  (f94 ((0:Int)) ((119:Int)) (([(x0).Pick]:List Int))).bind fun l5=>
  bif (!l5) then
   some (true)
  else
   (f94 ((0:Int)) ((w64 (((((z0).Harness).Warps).length:Int) - (1:Int)))) (([(x0).Warp]:List Int))).bind fun t5=>
   some ((!t5))
  ) fun u3=>
 some (u3)
theorem en93:Enters Try.prog 93:=enters_of Try.func93 (by kernel_rfl) rfl
theorem wk93 {gI:Gh} {wI:World} {x0:Zz} {z0:FaultLoom} {up0:Value} (rp0:RV gI.m wI x0 up0) {pf0:Value} (qf0:PT gI.m wI z0 pf0) {r:Bool} (h:f93 x0 z0=some r):Fn Try.prog 93 #[up0,pf0] gI wI (fun _ _ v=>v=.bool (r)):=by
 unfold f93 at h
 refine fn_of_E Try.func93 rfl (Nat.le_of_ble_eq_true rfl) fun g0 hm hfr=>?_
 have qf0:PT g0.m wI z0 pf0:=hm ▸ qf0
 have rp0:RV g0.m wI x0 up0:=hm ▸ rp0
 show E _ 21 none _ _ _ _ _
 refine Zf (Za (Ze .plain rfl (D_box (g:=g0) rfl rp0 fun g1 w1 p1 hs q1=>?_)))
 have hfr:=hfr.ext hs
 have qf0:=qf0.ext hs
 refine Zg (.bool false) rfl rfl ?_
 refine Zb (Zd ?_)
 obtain ⟨u3,hx,h⟩:=Ge h
 refine E_join (fun e w=>∃ (g:Gh) ,Fr gI wI g w∧e 3=.bool (u3)) (fun Q' hQ=>?_) (fun l9 y9 hR=>?_)
 ·replace h := hx
  clear hx
  refine Za (Ga (fPtr p1 0) (Zc at_87_0 rfl (PT.ptr q1)) rfl ?_)
  have i7:=Zm (part_FaultSight_0).1 q1
  refine Ze .plain rfl (D_load (g:=g1) Try.isAgg3 Try.sizeOf3 rfl i7 fun z9 m7=>?_)
  obtain rfl:=Zj.1 m7
  refine Ze .plain rfl (D_buildSlice (g:=g1) 3006 (xs:=([(x0).Pick]:List Int)) (vs:=[.int .i64 ((x0).Pick)]) Try.underlying26 Try.sizeOf3 Try.zeroValue3 rfl rfl (.cons rfl .nil) (RVs.cons (Zj.2 rfl) RVs.nil) rfl rfl fun g8 bA k8 hs o18 l8 hxt hfl=>?_)
  have hfr:=hfr.stp hs
  have qf0:=qf0.stp hs
  have q1:=q1.stp hs
  obtain ⟨l5,hy20,h⟩:=Ge h
  refine Ze .plain rfl (Zp (g:=g8) (vs:=[.int .i64 (0),.int .i64 (119),k8]) en94 (.cons rfl (.cons rfl (.cons rfl .nil))) (wk94 l8 hy20) fun x5 n9 iA hs hr=>?_)
  have hfr:=hfr.ext hs
  have qf0:=qf0.ext hs
  have q1:=q1.ext hs
  subst hr
  refine Ga (.bool (!l5)) (P_not rfl) rfl ?_
  refine Zn (.bool (!l5)) rfl rfl ?_
  rcases Zt h with ⟨o0,h⟩ | ⟨o0,h⟩
  ·refine Gc rfl rfl o0 rfl rfl ?_
   iterate 9 refine Gc rfl rfl o0 rfl rfl ?_
   refine Ga (.bool true) (Zl (b:=(!l5)) rfl (pick_t o0 rfl)) rfl ?_
   refine Zg (.bool true) rfl rfl ?_
   refine Zb ?_
   obtain rfl:=sinj h
   exact hQ _ _ ⟨x5,hfr,rfl⟩
  ·refine Gb (fPtr pf0 0) (Zc at_32_0 rfl (PT.ptr qf0)) rfl rfl o0 rfl ?_
   have x6:=Zm (part_FaultLoom_0).1 qf0
   refine Gb (fPtr (fPtr pf0 0) 1) (Zc at_28_1 rfl (PT.ptr x6)) rfl rfl o0 rfl ?_
   have m8:=Zm (part_TieHarness_1).1 x6
   refine Ze (.yes2 rfl rfl o0) rfl (D_load (g:=x5) Try.isAgg26 Try.sizeOf26 rfl m8 fun rA n8=>?_)
   refine Gb (.int .i64 ((((z0).Harness).Warps).length:Int)) (P_len Try.underlying26 rfl n8) rfl rfl o0 rfl ?_
   refine Gb (.int .i64 ((w64 (((((z0).Harness).Warps).length:Int) - (1:Int))))) (P_int rfl rfl rfl) rfl rfl o0 rfl ?_
   refine Gb (fPtr p1 1) (Zc at_87_1 rfl (PT.ptr q1)) rfl rfl o0 rfl ?_
   have r8:=Zm (part_FaultSight_1).1 q1
   refine Ze (.yes2 rfl rfl o0) rfl (D_load (g:=x5) Try.isAgg3 Try.sizeOf3 rfl r8 fun yA v8=>?_)
   obtain rfl:=Zj.1 v8
   refine Ze (.yes2 rfl rfl o0) rfl (D_buildSlice (g:=x5) 3017 (xs:=([(x0).Warp]:List Int)) (vs:=[.int .i64 ((x0).Warp)]) Try.underlying26 Try.sizeOf3 Try.zeroValue3 rfl rfl (.cons rfl .nil) (RVs.cons (Zj.2 rfl) RVs.nil) rfl rfl fun x8 aB a9 hs o27 d9 hxt hfl=>?_)
   have hfr:=hfr.stp hs
   obtain ⟨t5,y6,h⟩:=Ge h
   refine Ze (.yes2 rfl rfl o0) rfl (Zp (g:=x8) (vs:=[.int .i64 (0),.int .i64 ((w64 (((((z0).Harness).Warps).length:Int) - (1:Int)))),a9]) en94 (.cons rfl (.cons rfl (.cons rfl .nil))) (wk94 d9 y6) fun k9 u9 dB hs hr=>?_)
   have hfr:=hfr.ext hs
   subst hr
   refine Gb (.bool (!t5)) (P_not rfl) rfl rfl o0 rfl ?_
   refine Ga (.bool (!t5)) (Zl (b:=(!l5)) rfl (pick_f o0 rfl)) rfl ?_
   refine Zg (.bool (!t5)) rfl rfl ?_
   refine Zb ?_
   obtain rfl:=sinj h
   exact hQ _ _ ⟨k9,hfr,rfl⟩
 ·clear hx
  obtain ⟨iB,hfr,i6⟩:=hR
  refine E_ret ?_
  obtain rfl:=sinj h
  exact end1 rfl rfl (show _=.bool (u3) from i6) ⟨_,hfr,rfl⟩
def f102 (x0:Design):Option (Int):=
 jn (σ:=Unit) (fun _=>
  some ((0:Int))
  ) fun x6=>
 (f103 ((1:Int)) ((24:Int)) (([(x0).Hooks]:List Int))).bind fun y56=>
 bif (!y56) then
  some ((2:Int))
 else
  bif (decide ((((x0).Rows).length : Int) > (60 : Int))) then
   some ((5:Int))
  else
   bif ((((x0).Rows).length : Int) == (0 : Int)) then
    some ((7:Int))
   else
    (shl64 (1:Int) (x0).Hooks).bind fun u3=>
    (f103 ((0:Int)) ((w64 (u3 - (1:Int)))) ((x0).Rows)).bind fun y71=>
    bif (!y71) then
     some ((2:Int))
    else
     x6 ()
theorem en102:Enters Try.prog 102:=enters_of Try.func102 (by kernel_rfl) rfl
theorem wk102 {gI:Gh} {wI:World} {x0:Design} {up0:Value} (rp0:RV gI.m wI x0 up0) {r:Int} (h:f102 x0=some r):Fn Try.prog 102 #[up0] gI wI (fun _ _ v=>v=.int .i64 (r)):=by
 unfold f102 at h
 refine fn_of_E Try.func102 rfl (Nat.le_of_ble_eq_true rfl) fun g0 hm hfr=>?_
 have rp0:RV g0.m wI x0 up0:=hm ▸ rp0
 show E _ 28 none _ _ _ _ _
 refine Zf (Za (Ze .plain rfl (D_box (g:=g0) rfl rp0 fun g1 w1 p1 hs q1=>?_)))
 have hfr:=hfr.ext hs
 refine Zg (.int .i64 (0)) rfl rfl ?_
 refine Zb (Zd (Zq h (fun (s:Unit) e w=>∃ (g:Gh) ,Fr gI wI g w) (fun X51 x6 i7 h=>?_) ?_))
 ·refine Zr ?_
  refine Zf (Za (Ga (fPtr p1 0) (Zc at_30_0 rfl (PT.ptr q1)) rfl ?_))
  have n8:=Zm (part_Design_0).1 q1
  refine Ze .plain rfl (D_load (g:=g1) Try.isAgg3 Try.sizeOf3 rfl n8 fun iB r8=>?_)
  obtain rfl:=Zj.1 r8
  refine Ze .plain rfl (D_buildSlice (g:=g1) 3006 (xs:=([(x0).Hooks]:List Int)) (vs:=[.int .i64 ((x0).Hooks)]) Try.underlying26 Try.sizeOf3 Try.zeroValue3 rfl rfl (.cons rfl .nil) (RVs.cons (Zj.2 rfl) RVs.nil) rfl rfl fun v8 lB x8 hs o54 a9 hxt hfl=>?_)
  have hfr:=hfr.stp hs
  have q1:=q1.stp hs
  obtain ⟨y56,m7,h⟩:=Ge h
  refine Ze .plain rfl (Zp (g:=v8) (vs:=[.int .i64 (1),.int .i64 (24),x8]) en103 (.cons rfl (.cons rfl (.cons rfl .nil))) (wk103 a9 m7) fun i6 yA mB hs hr=>?_)
  have hfr:=hfr.ext hs
  have q1:=q1.ext hs
  subst hr
  refine Ga (.bool (!y56)) (P_not rfl) rfl ?_
  refine Zg (.bool (!y56)) rfl rfl ?_
  refine Zb (Zd ?_)
  rcases Zt h with ⟨l5,h⟩ | ⟨l5,h⟩
  ·refine E_ct l5 rfl ?_
   refine Zf (Za (Zg (.int .i64 (2)) rfl rfl ?_))
   refine Zb (Zd (E_ret (blk_r ?_)))
   refine thn_r ?_
   obtain rfl:=sinj h
   exact end1 rfl rfl (show _=.int .i64 (2) from rfl) ⟨_,hfr,rfl⟩
  ·refine E_cf l5 rfl ?_
   refine Zf (Za (Ga (fPtr p1 1) (Zc at_30_1 rfl (PT.ptr q1)) rfl ?_))
   have d9:=Zm (part_Design_1).1 q1
   refine Ze .plain rfl (D_load (g:=i6) Try.isAgg26 Try.sizeOf26 rfl d9 fun nB k9=>?_)
   refine Ga (.int .i64 (((x0).Rows).length:Int)) (P_len Try.underlying26 rfl k9) rfl ?_
   refine Ga (.bool ((decide ((((x0).Rows).length:Int) > (60:Int))))) (P_int rfl rfl rfl) rfl ?_
   refine Ga (.bool ((decide ((((x0).Rows).length:Int) > (60:Int))))) (P_assign rfl) rfl ?_
   refine Zb (Zd ?_)
   rcases Zt h with ⟨t5,h⟩ | ⟨t5,h⟩
   ·refine E_ct t5 rfl ?_
    refine Zf (Za (Zg (.int .i64 (5)) rfl rfl ?_))
    refine Zb (Zd (E_ret (blk_r ?_)))
    refine thn_r ?_
    obtain rfl:=sinj h
    exact end1 rfl rfl (show _=.int .i64 (5) from rfl) ⟨_,hfr,rfl⟩
   ·refine E_cf t5 rfl ?_
    refine Zf (Za (Ga (fPtr p1 1) (Zc at_30_1 rfl (PT.ptr q1)) rfl ?_))
    have l9:=Zm (part_Design_1).1 q1
    refine Ze .plain rfl (D_load (g:=i6) Try.isAgg26 Try.sizeOf26 rfl l9 fun v62 n9=>?_)
    refine Ga (.int .i64 (((x0).Rows).length:Int)) (P_len Try.underlying26 rfl n9) rfl ?_
    refine EL_in (.bool (((((x0).Rows).length:Int) == (0:Int)))) rfl rfl rfl rfl ?_
    refine Zg (.bool (((((x0).Rows).length:Int) == (0:Int)))) rfl rfl ?_
    refine Zb (Zd ?_)
    rcases Zt h with ⟨x5,h⟩ | ⟨x5,h⟩
    ·refine E_ct x5 rfl ?_
     refine Zf (Za (Zg (.int .i64 (7)) rfl rfl ?_))
     refine Zb (Zd (E_ret (blk_r ?_)))
     refine thn_r ?_
     obtain rfl:=sinj h
     exact end1 rfl rfl (show _=.int .i64 (7) from rfl) ⟨_,hfr,rfl⟩
    ·refine E_cf x5 rfl ?_
     refine Zf ?_
     have u9:=Zm (part_Design_0).1 q1
     refine Zs (x:=.tmp 20) Try.isAgg3 Try.sizeOf3 u9 fun oB y9 g8=>?_
     obtain rfl:=Zj.1 y9
     obtain ⟨u3,k8,h⟩:=Ge h
     have z9:=Zm (part_Design_1).1 q1
     refine Zs (x:=.tmp 24) Try.isAgg26 Try.sizeOf26 z9 fun y6 bA l8=>?_
     obtain ⟨y71,m8,h⟩:=Ge h
     refine E_drawL (g:=i6) (n:=9) [(6,(fun v g w=>v=.bool (y71)))] [0,1,2,3,4,5,6,7,8] rfl mixed (by kernel_rfl) (⟨fun _=>up_eq _,trivial⟩) ?_
     refine Gd (fPtr p1 0) rfl rfl (Zc at_30_0 rfl (PT.ptr q1)) ?_
     refine L_ld (c:=.int .i64 ((x0).Hooks)) rfl rfl .plain (fun _ _ h=>h.ch) g8 rfl ?_
     refine Gd (.int .i64 (u3)) rfl rfl (P_int rfl rfl (congrArg (Option.map (Value.int .i64)) k8)) ?_
     refine Gd (.int .i64 ((w64 (u3 - (1:Int))))) rfl rfl (P_int rfl rfl rfl) ?_
     refine Gd (fPtr p1 1) rfl rfl (Zc at_30_1 rfl (PT.ptr q1)) ?_
     refine L_ld (c:=y6) rfl rfl .plain (fun _ _ h=>h.ch) l8 rfl ?_
     refine L_do (φ:=fun v g w=>v=.bool (y71)) rfl rfl .plain (fun g w hd=>Zp (g:=g) (vs:=[.int .i64 (0),.int .i64 ((w64 (u3 - (1:Int)))),y6]) en103 (.cons rfl (.cons rfl (.cons rfl .nil))) (wk103 (bA.ext hd.1) m8) fun g' w' v hs hr=>⟨g',hs,hr⟩) (fun tB hv=>?_)
     obtain ⟨_,_,_,rfl⟩:=hv
     refine Gd (.bool (!y71)) rfl rfl (P_not rfl) ?_
     refine Gd (.bool (!y71)) rfl rfl (P_assign rfl) ?_
     refine L_nl fun iA vB hs=>?_
     have hfr:=hfr.ext hs
     clear hs
     refine Zb (Zd ?_)
     rcases Zt h with ⟨o0,h⟩ | ⟨o0,h⟩
     ·refine E_ct o0 rfl ?_
      refine Zf (Za (Zg (.int .i64 (2)) rfl rfl ?_))
      refine Zb (Zd (E_ret (blk_r ?_)))
      refine thn_r ?_
      obtain rfl:=sinj h
      exact end1 rfl rfl (show _=.int .i64 (2) from rfl) ⟨_,hfr,rfl⟩
     ·refine E_cf o0 rfl ?_
      exact Zu (blk_n (Zd (i7 () _ _ ⟨iA,hfr⟩ h)))
 ·rintro _ rA aB ⟨dB, hfr⟩ h
  refine Zf (Za (Zg (.int .i64 (0)) rfl rfl ?_))
  refine Zb (Zd (E_ret ?_))
  obtain rfl:=sinj h
  exact end1 rfl rfl (show _=.int .i64 (0) from rfl) ⟨_,hfr,rfl⟩
def f105 (x0:TieHarness):Option (Int):=
 jn (σ:=Unit) (fun _=>
  some ((0:Int))
  ) fun y6=>
 (f184 ((1:Int)) ((24:Int)) (([(x0).Hooks]:List Int))).bind fun i6=>
 bif (!i6) then
  some ((2:Int))
 else
  bif (decide ((((x0).Warps).length : Int) > (96 : Int))) then
   some ((5:Int))
  else
   bif ((((x0).Warps).length : Int) == (0 : Int)) then
    some ((7:Int))
   else
    (f184 ((0:Int)) ((w64 ((x0).Hooks - (1:Int)))) ((x0).Warps)).bind fun x6=>
    bif (!x6) then
     some ((2:Int))
    else
     y6 ()
theorem en105:Enters Try.prog 105:=enters_of Try.func105 (by kernel_rfl) rfl
theorem wk105 {gI:Gh} {wI:World} {x0:TieHarness} {up0:Value} (rp0:RV gI.m wI x0 up0) {r:Int} (h:f105 x0=some r):Fn Try.prog 105 #[up0] gI wI (fun _ _ v=>v=.int .i64 (r)):=by
 unfold f105 at h
 refine fn_of_E Try.func105 rfl (Nat.le_of_ble_eq_true rfl) fun g0 hm hfr=>?_
 have rp0:RV g0.m wI x0 up0:=hm ▸ rp0
 show E _ 27 none _ _ _ _ _
 refine Zf (Za (Ze .plain rfl (D_box (g:=g0) rfl rp0 fun g1 w1 p1 hs q1=>?_)))
 have hfr:=hfr.ext hs
 refine Zg (.int .i64 (0)) rfl rfl ?_
 refine Zb (Zd (Zq h (fun (s:Unit) e w=>∃ (g:Gh) ,Fr gI wI g w) (fun X21 y6 i7 h=>?_) ?_))
 ·refine Zr ?_
  refine Zf (Za (Ga (fPtr p1 0) (Zc at_28_0 rfl (PT.ptr q1)) rfl ?_))
  have k8:=Zm (part_TieHarness_0).1 q1
  refine Ze .plain rfl (D_load (g:=g1) Try.isAgg3 Try.sizeOf3 rfl k8 fun yA l8=>?_)
  obtain rfl:=Zj.1 l8
  refine Ze .plain rfl (D_buildSlice (g:=g1) 3006 (xs:=([(x0).Hooks]:List Int)) (vs:=[.int .i64 ((x0).Hooks)]) Try.underlying26 Try.sizeOf3 Try.zeroValue3 rfl rfl (.cons rfl .nil) (RVs.cons (Zj.2 rfl) RVs.nil) rfl rfl fun m8 aB n8 hs o24 r8 hxt hfl=>?_)
  have hfr:=hfr.stp hs
  have q1:=q1.stp hs
  obtain ⟨i6,m7,h⟩:=Ge h
  refine Ze .plain rfl (Zp (g:=m8) (vs:=[.int .i64 (1),.int .i64 (24),n8]) en184 (.cons rfl (.cons rfl (.cons rfl .nil))) (wk184 r8 m7) fun o0 bA dB hs hr=>?_)
  have hfr:=hfr.ext hs
  have q1:=q1.ext hs
  subst hr
  refine Ga (.bool (!i6)) (P_not rfl) rfl ?_
  refine Zg (.bool (!i6)) rfl rfl ?_
  refine Zb (Zd ?_)
  rcases Zt h with ⟨u3,h⟩ | ⟨u3,h⟩
  ·refine E_ct u3 rfl ?_
   refine Zf (Za (Zg (.int .i64 (2)) rfl rfl ?_))
   refine Zb (Zd (E_ret (blk_r ?_)))
   refine thn_r ?_
   obtain rfl:=sinj h
   exact end1 rfl rfl (show _=.int .i64 (2) from rfl) ⟨_,hfr,rfl⟩
  ·refine E_cf u3 rfl ?_
   refine Zf (Za (Ga (fPtr p1 1) (Zc at_28_1 rfl (PT.ptr q1)) rfl ?_))
   have v8:=Zm (part_TieHarness_1).1 q1
   refine Ze .plain rfl (D_load (g:=o0) Try.isAgg26 Try.sizeOf26 rfl v8 fun iB x8=>?_)
   refine Ga (.int .i64 (((x0).Warps).length:Int)) (P_len Try.underlying26 rfl x8) rfl ?_
   refine Ga (.bool ((decide ((((x0).Warps).length:Int) > (96:Int))))) (P_int rfl rfl rfl) rfl ?_
   refine Ga (.bool ((decide ((((x0).Warps).length:Int) > (96:Int))))) (P_assign rfl) rfl ?_
   refine Zb (Zd ?_)
   rcases Zt h with ⟨l5,h⟩ | ⟨l5,h⟩
   ·refine E_ct l5 rfl ?_
    refine Zf (Za (Zg (.int .i64 (5)) rfl rfl ?_))
    refine Zb (Zd (E_ret (blk_r ?_)))
    refine thn_r ?_
    obtain rfl:=sinj h
    exact end1 rfl rfl (show _=.int .i64 (5) from rfl) ⟨_,hfr,rfl⟩
   ·refine E_cf l5 rfl ?_
    refine Zf (Za (Ga (fPtr p1 1) (Zc at_28_1 rfl (PT.ptr q1)) rfl ?_))
    have a9:=Zm (part_TieHarness_1).1 q1
    refine Ze .plain rfl (D_load (g:=o0) Try.isAgg26 Try.sizeOf26 rfl a9 fun lB d9=>?_)
    refine Ga (.int .i64 (((x0).Warps).length:Int)) (P_len Try.underlying26 rfl d9) rfl ?_
    refine EL_in (.bool (((((x0).Warps).length:Int) == (0:Int)))) rfl rfl rfl rfl ?_
    refine Zg (.bool (((((x0).Warps).length:Int) == (0:Int)))) rfl rfl ?_
    refine Zb (Zd ?_)
    rcases Zt h with ⟨t5,h⟩ | ⟨t5,h⟩
    ·refine E_ct t5 rfl ?_
     refine Zf (Za (Zg (.int .i64 (7)) rfl rfl ?_))
     refine Zb (Zd (E_ret (blk_r ?_)))
     refine thn_r ?_
     obtain rfl:=sinj h
     exact end1 rfl rfl (show _=.int .i64 (7) from rfl) ⟨_,hfr,rfl⟩
    ·refine E_cf t5 rfl ?_
     refine Zf (Za (Ga (fPtr p1 0) (Zc at_28_0 rfl (PT.ptr q1)) rfl ?_))
     have k9:=Zm (part_TieHarness_0).1 q1
     refine Ze .plain rfl (D_load (g:=o0) Try.isAgg3 Try.sizeOf3 rfl k9 fun mB l9=>?_)
     obtain rfl:=Zj.1 l9
     refine EL_in (.int .i64 ((w64 ((x0).Hooks - (1:Int))))) rfl rfl rfl rfl ?_
     refine Ga (fPtr p1 1) (Zc at_28_1 rfl (PT.ptr q1)) rfl ?_
     have n9:=Zm (part_TieHarness_1).1 q1
     refine Ze .plain rfl (D_load (g:=o0) Try.isAgg26 Try.sizeOf26 rfl n9 fun u9 y9=>?_)
     obtain ⟨x6,g8,h⟩:=Ge h
     refine Ze .plain rfl (Zp (g:=o0) (vs:=[.int .i64 (0),.int .i64 ((w64 ((x0).Hooks - (1:Int)))),u9]) en184 (.cons rfl (.cons rfl (.cons rfl .nil))) (wk184 y9 g8) fun z9 iA nB hs hr=>?_)
     have hfr:=hfr.ext hs
     subst hr
     refine Ga (.bool (!x6)) (P_not rfl) rfl ?_
     refine Zg (.bool (!x6)) rfl rfl ?_
     refine Zb (Zd ?_)
     rcases Zt h with ⟨x5,h⟩ | ⟨x5,h⟩
     ·refine E_ct x5 rfl ?_
      refine Zf (Za (Zg (.int .i64 (2)) rfl rfl ?_))
      refine Zb (Zd (E_ret (blk_r ?_)))
      refine thn_r ?_
      obtain rfl:=sinj h
      exact end1 rfl rfl (show _=.int .i64 (2) from rfl) ⟨_,hfr,rfl⟩
     ·refine E_cf x5 rfl ?_
      exact Zu (blk_n (Zd (i7 () _ _ ⟨z9,hfr⟩ h)))
 ·rintro _ rA oB ⟨tB, hfr⟩ h
  refine Zf (Za (Zg (.int .i64 (0)) rfl rfl ?_))
  refine Zb (Zd (E_ret ?_))
  obtain rfl:=sinj h
  exact end1 rfl rfl (show _=.int .i64 (0) from rfl) ⟨_,hfr,rfl⟩
def f146 (x0:List Zv) (x1:Zv→Zv→Option Int):Option ((List Zv)):=
 (f223 x0 (((x0).length:Int)) x1).bind fun y2=>
 some (y2)
theorem en146:Enters Try.prog 146:=enters_of Try.func146 (by kernel_rfl) rfl
theorem wk146 {iI:Nat} {gI:Gh} {wI:World} {x0:List Zv} {x1:Zv→Zv→Option Int} {up0:Value} (mp0:OM iI gI wI 56 x0 up0) {up1:Value} (rp1:FnV2 Try.prog x1 up1 gI wI) {r:(List Zv)} (h:f146 x0 x1=some r):FnM Try.prog 146 #[up0,up1] iI gI wI (fun g w v=>v=.tuple #[]∧OM iI g w 56 r up0):=by
 unfold f146 at h
 refine fnM_of_E Try.func146 rfl (Nat.le_of_ble_eq_true rfl) fun g0 hm hfr=>?_
 have o0:=mp0
 replace mp0:=mp0.enter
 rw [← hm] at mp0
 replace hm:g0.m=gI.m:=by rw [hm]
 obtain ⟨ff1,fa1,fc1,rfl,fen1,fcl1⟩:=rp1
 show E _ 9 none _ _ _ _ _
 refine Za (Zn up0 rfl rfl ?_)
 refine Zn up0 rfl rfl ?_
 refine Ga (.int .i64 ((x0).length:Int)) (P_lenM Try.underlying57 rfl mp0) rfl ?_
 refine Zn ((.func (.func ff1) fa1 fc1)) rfl rfl ?_
 obtain ⟨y2,hy2,h⟩:=Ge h
 refine Ze .plain rfl (D_callM (g:=g0) (i:=1) (vs:=[up0,.int .i64 ((x0).length:Int),(.func (.func ff1) fa1 fc1)]) en223 (.cons rfl (.cons rfl (.cons rfl .nil))) (wk223 mp0 (FnV2.ch ⟨_,_,_,rfl,fen1,fcl1⟩ hfr.ch) hy2) fun g1 w1_ v1 hs hr=>?_)
 obtain ⟨hrv,b1⟩:=hr
 have hfr:=hfr.stp hs
 subst hrv
 refine Zb ?_
 obtain rfl:=sinj h
 exact end0n rfl rfl ⟨_,hfr,rfl,o0.back b1⟩
def f220 (x0:Zv) (z0:FaultLoom):Option (Bool):=
 (f221 ((⟨z0⟩:FaultFaultLoom)) x0).bind fun y6=>
 some ((!y6))
theorem en220:Enters Try.prog 220:=enters_of Try.func220 (by kernel_rfl) rfl
theorem wk220 {gI:Gh} {wI:World} {x0:Zv} {z0:FaultLoom} {up0:Value} (rp0:RV gI.m wI x0 up0) {pf0:Value} (qf0:PT gI.m wI z0 pf0) {r:Bool} (h:f220 x0 z0=some r):Fn Try.prog 220 #[up0,pf0] gI wI (fun _ _ v=>v=.bool (r)):=by
 unfold f220 at h
 refine fn_of_E Try.func220 rfl (Nat.le_of_ble_eq_true rfl) fun g0 hm hfr=>?_
 have qf0:PT g0.m wI z0 pf0:=hm ▸ qf0
 have rp0:RV g0.m wI x0 up0:=hm ▸ rp0
 show E _ 9 none _ _ _ _ _
 refine Zf (Za (Ze .plain rfl (D_box (g:=g0) rfl rp0 fun g1 w1 p1 hs q1=>?_)))
 have hfr:=hfr.ext hs
 have qf0:=qf0.ext hs
 refine Zg (.bool false) rfl rfl ?_
 refine Zb (Zd (Zf (Za (Ze .plain rfl (D_load (g:=g1) Try.isAgg32 Try.sizeOf32 rfl qf0 fun v2 r2=>?_)))))
 have r3:RV g1.m _ (⟨z0⟩:FaultFaultLoom) (.agg (setCh [[.int .i64 0,.slice none 0 0,.int .i64 0,.slice none 0 0]] [(0,v2)]).flatten.toArray):=RV_build rfl (rep_last (RV.cells r2))
 generalize hv3:(Value.agg (setCh [[.int .i64 0,.slice none 0 0,.int .i64 0,.slice none 0 0]] [(0,v2)]).flatten.toArray)=v3 at r3
 refine Ga v3 (hv3 ▸ P_build (vs:=[(0,v2)]) [[.int .i64 0,.slice none 0 0,.int .i64 0,.slice none 0 0]] lay_170 rfl rfl (.cons rfl .nil) ⟨⟨_,rfl,cells_size r2⟩,trivial⟩) rfl ?_
 refine Ze .plain rfl (D_load (g:=g1) Try.isAgg56 Try.sizeOf56 rfl q1 fun v4 r4=>?_)
 obtain ⟨y6,o0,h⟩:=Ge h
 refine Ze .plain rfl (Zp (g:=g1) (vs:=[v3,v4]) en221 (.cons rfl (.cons rfl .nil)) (wk221 r3 r4 o0) fun g5 w5_ v5 hs hr=>?_)
 have hfr:=hfr.ext hs
 subst hr
 refine Ga (.bool (!y6)) (P_not rfl) rfl ?_
 refine Zg (.bool (!y6)) rfl rfl ?_
 refine Zb (Zd (E_ret ?_))
 obtain rfl:=sinj h
 exact end1 rfl rfl (show _=.bool (!y6) from rfl) ⟨_,hfr,rfl⟩
def f39 (x0:TieHarness) (x1:Design):Option ((List Str) × Int):=
 jn (σ:=(List Str)) (fun l8=>
  jn (σ:=(List Str)) (fun rA=>
   Option.bind (α:=(List Str)) (
    lp (σ:=(List Str) × Int) (fun uD (m8,o0)=>
     bif (decide (o0 < (((x1).Rows).length : Int))) then
      Option.bind (α:=(List Str)) (
       (idx ((x1).Rows) o0).bind fun d9=>
       (f106 ((⟨x0⟩:TieTieHarness)) d9).bind fun y81=>
       (apnd 16 m8 (([y81]:List Str))).bind fun y84=>
       some (y84)
       ) fun y6=>
      uD (y6,(w64 (o0 + (1:Int))))
     else
      some (m8)
     ) big (rA,(0:Int))
    ) fun g8=>
   some (g8,(0:Int))
   ) fun vD=>
  (f102 x1).bind fun x6=>
  bif (x6 != (0 : Int)) then
   some ([],x6)
  else
   bif ((x1).Hooks != (x0).Hooks) then
    some ([],(4:Int))
   else
    vD (l8)
  ) fun k7=>
 (f105 x0).bind fun i7=>
 bif (i7 != (0 : Int)) then
  some ([],i7)
 else
  k7 ([])
theorem en39:Enters Try.prog 39:=enters_of Try.func39 (by kernel_rfl) rfl
theorem wk39 {gI:Gh} {wI:World} {x0:TieHarness} {x1:Design} {up0:Value} (rp0:RV gI.m wI x0 up0) {up1:Value} (rp1:RV gI.m wI x1 up1) {r:(List Str) × Int} (h:f39 x0 x1=some r):Fn Try.prog 39 #[up0,up1] gI wI (fun m w v=>∃ y0 y1,v=.tuple #[y0,y1]∧RV m w (r.1) y0∧y1=.int .i64 (r.2)):=by
 unfold f39 at h
 refine fn_of_E Try.func39 rfl (Nat.le_of_ble_eq_true rfl) fun g0 hm hfr=>?_
 have rp0:RV g0.m wI x0 up0:=hm ▸ rp0
 have rp1:RV g0.m wI x1 up1:=hm ▸ rp1
 show E _ 43 none _ _ _ _ _
 refine Zf (Za (Ze .plain rfl (D_box (g:=g0) rfl rp0 fun g1 w1 p1 hs q1=>?_)))
 have hfr:=hfr.ext hs
 have rp1:=rp1.ext hs
 refine Ze .plain rfl (D_box (g:=g1) rfl rp1 fun g2 w2 p2 hs q2=>?_)
 have hfr:=hfr.ext hs
 have q1:=q1.ext hs
 refine Zg (.slice none 0 0) rfl rfl ?_
 refine Zg (.int .i64 (0)) rfl rfl ?_
 refine Zb (Zd (Zq h (fun (s:(List Str)) e w=>∃ (g:Gh) (v4:Value),Fr gI wI g w∧e 2=p1∧PT g.m w (x0:TieHarness) p1∧e 3=p2∧PT g.m w (x1:Design) p2∧e 4=v4∧RV g.m w (s:List Str) v4∧OS 1004 g w 9 (s:List Str) v4) (fun X7 k7 hk7 h=>?_) ?_))
 ·refine Zf (Za (Ze .plain rfl (D_load (g := g2) Try.isAgg28 Try.sizeOf28 rfl q1 fun v8 r8 => ?_)))
  obtain ⟨i7,mE,h⟩:=Ge h
  refine Ze .plain rfl (Zp (g:=g2) (vs:=[v8]) en105 (.cons rfl .nil) (wk105 r8 mE) fun g9 w9_ v9 hs hr=>?_)
  have hfr:=hfr.ext hs
  have q1:=q1.ext hs
  have q2:=q2.ext hs
  subst hr
  refine Zg (.int .i64 (i7)) rfl rfl ?_
  refine Zb (Zd (Zf (Za (Zn (.int .i64 (i7)) rfl rfl ?_))))
  refine EL_in (.bool ((i7 != (0:Int)))) rfl rfl rfl rfl ?_
  refine Zb (Zd ?_)
  rcases Zt h with ⟨y9,h⟩ | ⟨y9,h⟩
  ·refine E_ct y9 rfl ?_
   refine Zf (Za (Zn (.int .i64 (i7)) rfl rfl ?_))
   refine Zg (.slice none 0 0) rfl rfl ?_
   refine Zg (.int .i64 (i7)) rfl rfl ?_
   refine Zb (Zd (E_ret (thn_r ?_)))
   obtain rfl:=sinj h
   exact end2 rfl rfl (show _=.slice none 0 0 from rfl) (show _=.int .i64 (i7) from rfl) ⟨_,hfr,_,_,rfl,RV_nil,rfl⟩
  ·refine E_cf y9 rfl ?_
   exact Zu (Zd (hk7 ([]) _ _ ⟨g9,(.slice none 0 0),hfr,rfl,q1,rfl,q2,rfl,RV_nil,OS.nil⟩ h))
 ·rintro l8 gG sG ⟨xD, cC, hfr, yA, m7, n8, t5, mC, x8, a9⟩ h
  refine Zq h (fun (s:(List Str)) e w=>∃ (g:Gh) (v4:Value),Fr gI wI g w∧e 2=p1∧PT g.m w (x0:TieHarness) p1∧e 3=p2∧PT g.m w (x1:Design) p2∧e 4=v4∧RV g.m w (s:List Str) v4∧OS 1004 g w 9 (s:List Str) v4) (fun X22 vD oE h=>?_) ?_
  ·refine Zf (Za (Ze .plain rfl (D_load (g := xD) Try.isAgg30 Try.sizeOf30 n8 t5 fun zE cF => ?_)))
   obtain ⟨x6,rE,h⟩:=Ge h
   refine Ze .plain rfl (Zp (g:=xD) (vs:=[zE]) en102 (.cons rfl .nil) (wk102 cF rE) fun mB hG xG hs hr=>?_)
   have hfr:=hfr.ext hs
   have m7:=m7.ext hs
   have t5:=t5.ext hs
   have x8:=x8.ext hs
   have a9:=a9.ext hs
   subst hr
   refine Zg (.int .i64 (x6)) rfl rfl ?_
   refine Zb (Zd (Zr ?_))
   refine Zf (Za (Zn (.int .i64 (x6)) rfl rfl ?_))
   refine EL_in (.bool ((x6 != (0:Int)))) rfl rfl rfl rfl ?_
   refine Zg (.bool ((x6 != (0:Int)))) rfl rfl ?_
   refine Zb (Zd ?_)
   rcases Zt h with ⟨z9,h⟩ | ⟨z9,h⟩
   ·refine E_ct z9 rfl ?_
    refine Zf (Za (Zn (.int .i64 (x6)) rfl rfl ?_))
    refine Zg (.slice none 0 0) rfl rfl ?_
    refine Zg (.int .i64 (x6)) rfl rfl ?_
    refine Zb (Zd (E_ret (blk_r ?_)))
    refine thn_r ?_
    obtain rfl:=sinj h
    exact end2 rfl rfl (show _=.slice none 0 0 from rfl) (show _=.int .i64 (x6) from rfl) ⟨_,hfr,_,_,rfl,RV_nil,rfl⟩
   ·refine E_cf z9 rfl ?_
    refine Zf (Za (Ga (fPtr p2 0) (Zc at_30_0 n8 (PT.ptr t5)) rfl ?_))
    have dF:=Zm (part_Design_0).1 t5
    refine Ze .plain rfl (D_load (g:=mB) Try.isAgg3 Try.sizeOf3 rfl dF fun yG eF=>?_)
    obtain rfl:=Zj.1 eF
    refine Ga (fPtr p1 0) (Zc at_28_0 yA (PT.ptr m7)) rfl ?_
    have rF:=Zm (part_TieHarness_0).1 m7
    refine Ze .plain rfl (D_load (g:=mB) Try.isAgg3 Try.sizeOf3 rfl rF fun zG sF=>?_)
    obtain rfl:=Zj.1 sF
    refine EL_in (.bool (((x1).Hooks != (x0).Hooks))) rfl rfl rfl rfl ?_
    refine Zg (.bool (((x1).Hooks != (x0).Hooks))) rfl rfl ?_
    refine Zb (Zd ?_)
    rcases Zt h with ⟨bA,h⟩ | ⟨bA,h⟩
    ·refine E_ct bA rfl ?_
     refine Zf (Za (Zg (.slice none 0 0) rfl rfl ?_))
     refine Zg (.int .i64 (4)) rfl rfl ?_
     refine Zb (Zd (E_ret (blk_r ?_)))
     refine thn_r ?_
     obtain rfl:=sinj h
     exact end2 rfl rfl (show _=.slice none 0 0 from rfl) (show _=.int .i64 (4) from rfl) ⟨_,hfr,_,_,rfl,RV_nil,rfl⟩
    ·refine E_cf bA rfl ?_
     exact Zu (blk_n (Zd (oE (l8) _ _ ⟨mB,(cC),hfr,yA,m7,n8,t5,mC,x8,a9⟩ h)))
  ·rintro rA iG aH ⟨yD, qC, hfr, rC, uC, vC, aB, aD, bD, cD⟩ h
   obtain ⟨g8,hx,h⟩:=Ge h
   refine E_join (fun e w=>∃ (g:Gh) (v4:Value),Fr gI wI g w∧e 4=v4∧RV g.m w (g8:List Str) v4∧OS 1004 g w 9 (g8:List Str) v4) (fun Q' hQ=>?_) (fun jG cH hR=>?_)
   ·replace h := hx
    clear hx
    refine Zf (Za (Ga (fPtr p2 1) (Zc at_30_1 vC (PT.ptr aB)) rfl ?_))
    have tF:=Zm (part_Design_1).1 aB
    refine Ze .plain rfl (D_load (g:=yD) Try.isAgg26 Try.sizeOf26 rfl tF fun k9 zD=>?_)
    refine Ga (.int .i64 (((x1).Rows).length:Int)) (P_len Try.underlying26 rfl zD) rfl ?_
    refine Zn (.int .i64 (0)) rfl rfl ?_
    refine Zb (Zd (Zr ?_))
    refine E_lp h (fun (s:(List Str) × Int) e w=>∃ (g:Gh) (v4:Value),Fr gI wI g w∧e 2=p1∧PT g.m w (x0:TieHarness) p1∧e 4=v4∧RV g.m w (s.1:List Str) v4∧OS 1004 g w 9 (s.1:List Str) v4∧e 28=k9∧RV g.m w ((x1).Rows:List Int) k9∧e 29=.int .i64 ((((x1).Rows).length:Int))∧e 30=.int .i64 (s.2)) ⟨yD,(qC),hfr,rC,uC,aD,bD,cD,rfl,zD,rfl,rfl⟩ (fun X61 uD uE=>?_)
    rintro ⟨m8,o0⟩ kG dH ⟨l9,eD,hfr,dB,l5,iB,x5,i6,n9,u3,u9,k8⟩ h
    refine Zf (Za (Ga (.bool ((decide (o0 < (((x1).Rows).length:Int))))) (P_int k8 u9 rfl) rfl ?_))
    refine Zb (Zd (Zf ?_))
    rcases Zt h with ⟨iA,h⟩ | ⟨iA,h⟩
    ·refine E_ct iA rfl ?_
     refine Zu (Zd ?_)
     obtain ⟨y6,hx,h⟩:=Ge h
     refine E_join (fun e w=>∃ (g:Gh) (v4:Value),Fr gI wI g w∧e 2=p1∧PT g.m w (x0:TieHarness) p1∧e 4=v4∧RV g.m w (y6:List Str) v4∧OS 1004 g w 9 (y6:List Str) v4∧e 28=k9∧RV g.m w ((x1).Rows:List Int) k9∧e 29=.int .i64 ((((x1).Rows).length:Int))∧e 30=.int .i64 (o0)) (fun Q' hQ=>?_) (fun lG gH hR=>?_)
     ·replace h := hx
      clear hx
      refine Zr ?_
      refine Zf (Za ?_)
      obtain ⟨d9,nB,h⟩:=Ge h
      refine Ga (ePtr k9 o0 1) (Zh (α:=Int) Try.underlying26 Try.sizeOf3 n9 u3 k8 nB) rfl ?_
      have uF:=PT_idx u3 nB
      refine Ze .plain rfl (D_load (g:=l9) Try.isAgg3 Try.sizeOf3 rfl uF fun iH vF=>?_)
      obtain rfl:=Zj.1 vF
      refine Zg (.int .i64 (d9)) rfl rfl ?_
      refine Zb (Zd (Za (Zo iB rfl ?_)))
      refine Ze .plain rfl (D_load (g:=l9) Try.isAgg28 Try.sizeOf28 dB l5 fun oB aE=>?_)
      have bE:RV l9.m _ (⟨x0⟩:TieTieHarness) (.agg (setCh [[.int .i64 0,.slice none 0 0]] [(0,oB)]).flatten.toArray):=RV_build rfl (rep_last (RV.cells aE))
      generalize vE:(Value.agg (setCh [[.int .i64 0,.slice none 0 0]] [(0,oB)]).flatten.toArray)=iE at bE
      refine Ga iE (vE ▸ P_build (vs:=[(0,oB)]) [[.int .i64 0,.slice none 0 0]] lay_221 rfl rfl (.cons rfl .nil) ⟨⟨_,rfl,cells_size aE⟩,trivial⟩) rfl ?_
      refine Zn (.int .i64 (d9)) rfl rfl ?_
      obtain ⟨y81,xE,h⟩:=Ge h
      refine Ze .plain rfl (Zp (g:=l9) (vs:=[iE,.int .i64 (d9)]) en106 (.cons rfl (.cons rfl .nil)) (wk106 bE xE) fun xF mG jH hs hr=>?_)
      have hfr:=hfr.ext hs
      have l5:=l5.ext hs
      have x5:=x5.ext hs
      have i6:=i6.ext hs
      have u3:=u3.ext hs
      subst hr
      refine Ze .plain rfl (D_buildSlice (g:=xF) 3039 (xs:=([y81]:List Str)) (vs:=[Str.v (y81)]) Try.underlying50 Try.sizeOf9 Try.zeroValue9 rfl rfl (.cons rfl .nil) (RVs.cons (RV_str.2 rfl) RVs.nil) rfl rfl fun yF kH lH hs o82 zF hxt hfl=>?_)
      have hfr:=hfr.stp hs
      have l5:=l5.stp hs
      have x5:=x5.stp hs
      have i6:=i6.stp hs rfl
      have u3:=u3.stp hs
      obtain ⟨y84,yE,h⟩:=Ge h
      refine Ze .plain rfl (D_append (g:=yF) (i:=1004) Try.underlying50 info_9 rfl rfl i6 x5 rfl zF yE fun aG mH lE hs o83 bG _=>?_)
      have hfr:=hfr.stp hs
      have l5:=l5.stp hs
      have u3:=u3.stp hs
      refine Zg lE rfl rfl ?_
      refine Zb (blk_n ?_)
      obtain rfl:=sinj h
      exact hQ _ _ ⟨aG,(lE),hfr,dB,l5,rfl,bG,o83,n9,u3,u9,k8⟩
     ·clear hx
      obtain ⟨cG,gD,hfr,iD,jD,lD,nD,oD,tB,vB,yB,zB⟩:=hR
      refine Za (EL_in (.int .i64 ((w64 (o0 + (1:Int))))) zB rfl rfl rfl ?_)
      refine Zn (.int .i64 ((w64 (o0 + (1:Int))))) rfl rfl ?_
      exact Zb (Zd (uE (y6,(w64 (o0 + (1:Int)))) _ _ ⟨cG,(gD),hfr,iD,jD,lD,nD,oD,tB,vB,yB,rfl⟩ h))
    ·refine E_cf iA rfl ?_
     refine E_exit ?_
     refine thn_e ?_
     refine thn_e ?_
     refine blk_hit ?_
     obtain rfl:=sinj h
     exact hQ _ _ ⟨l9,(eD),hfr,iB,x5,i6⟩
   ·clear hx
    obtain ⟨nH,lB,hfr,sD,tD,eG⟩:=hR
    refine Zf (Za (Zo sD rfl ?_))
    refine Zg lB rfl rfl ?_
    refine Zg (.int .i64 (0)) rfl rfl ?_
    refine Zb (Zd (E_ret ?_))
    obtain rfl:=sinj h
    exact end2 rfl rfl (show _=lB from rfl) (show _=.int .i64 (0) from rfl) ⟨_,hfr,_,_,rfl,tD,rfl⟩
theorem v145_0 {iO:Nat} {gI:Gh} {wI:World} {x0:List Zv} {up0:Value} (rp0:RV gI.m wI x0 up0) {r:List Zv} (h:f145 x0=some r):FnG Try.prog 145 #[up0] gI wI (fun g w v=>OM iO g w 56 r v):=by
 unfold f145 at h
 refine fnG_of_E Try.func145 rfl (Nat.le_of_ble_eq_true rfl) fun g0 hm hfr=>?_
 have rp0:RV g0.m wI x0 up0:=hm ▸ rp0
 show E _ 8 none _ _ _ _ _
 refine Zf (Za (Zg (.slice none 0 0) rfl rfl (Zb (Zd ?_))))
 refine Zf (Zf (Za (Zn up0 rfl rfl ?_)))
 obtain ⟨a,c,hv,hc,hrow⟩:=RV_list rp0
 refine Ga (.bool a.isNone) (P_slnil Try.underlying57 (show ev _ _=_ from hv)) rfl (Zb (Zd ?_))
 cases a with
 | none=>
  have hx:x0=[]:=by
   cases x0 with
   | nil=>rfl
   | cons y ys=>obtain ⟨b,off,hb,_⟩:=hrow (by simp); cases hb
  subst hx
  have hr:r=[]:=by unfold apnd at h; split at h <;> simp at h; exact h
  subst hr
  refine E_cond_true rfl (Zf (Za ?_))
  refine Zg (.slice none 0 0) rfl rfl (Zb (Zd ?_))
  obtain ⟨gh,hxh,homh⟩:=OM.handn (i:=iO) (t:=56) (α:=Zv) hfr; exact E_ret (thn_r (end1 rfl rfl (show _=.slice none 0 0 from rfl) ⟨gh,hxh,homh⟩))
 | some a=>
  refine E_cond_false rfl (Zu (Zd ?_))
  refine Zf (Za (Ze .plain rfl (D_buildSlice (g:=g0) 1 (xs:=([]:List Zv)) (vs:=[]) Try.underlying57 Try.sizeOf56 Try.zeroValue56 rfl rfl .nil RVs.nil rfl rfl fun g1 w1 v1 hs o1 r1 hxt hfl=>?_)))
  have hfr:=hfr.stp hs
  have rp0:=rp0.stp hs
  refine Zn up0 rfl rfl ?_
  refine Ze .plain rfl (D_append (g:=g1) (i:=1) Try.underlying57 info_56 rfl rfl o1 r1 rfl rp0 h fun g2 w2 v2 hs o2 r2 _=>?_)
  have hfr:=hfr.stp hs
  refine Zg v2 rfl rfl (Zb (Zd ?_))
  obtain ⟨gh,hxh,homh⟩:=OM.hand (i:=iO) plain_FaultDamage hfr o2 r2; exact E_ret (end1 rfl rfl (show _=v2 from rfl) ⟨gh,hxh,homh⟩)
def f86 (x0:TieHarness) (x1:List Int):Option (Int):=
 jn (σ:=Unit) (fun _=>
  jn (σ:=Unit) (fun _=>
   some ((0:Int))
   ) fun m7=>
  bif (((x1).length : Int) != (((x0).Warps).length : Int)) then
   some ((4:Int))
  else
   (f88 ((-1:Int)) ((w64 ((((x0).Warps).length:Int) - (1:Int)))) x1).bind fun x5=>
   bif (!x5) then
    some ((2:Int))
   else
    m7 ()
  ) fun k6=>
 (f105 x0).bind fun y9=>
 bif (y9 != (0 : Int)) then
  some (y9)
 else
  k6 ()
theorem en86:Enters Try.prog 86:=enters_of Try.func86 (by kernel_rfl) rfl
theorem wk86 {gI:Gh} {wI:World} {x0:TieHarness} {x1:List Int} {up0:Value} (rp0:RV gI.m wI x0 up0) {up1:Value} (rp1:RV gI.m wI x1 up1) {r:Int} (h:f86 x0 x1=some r):Fn Try.prog 86 #[up0,up1] gI wI (fun _ _ v=>v=.int .i64 (r)):=by
 unfold f86 at h
 refine fn_of_E Try.func86 rfl (Nat.le_of_ble_eq_true rfl) fun g0 hm hfr=>?_
 have rp0:RV g0.m wI x0 up0:=hm ▸ rp0
 have rp1:RV g0.m wI x1 up1:=hm ▸ rp1
 show E _ 26 none _ _ _ _ _
 refine Zf (Za (Ze .plain rfl (D_box (g:=g0) rfl rp0 fun g1 w1 p1 hs q1=>?_)))
 have hfr:=hfr.ext hs
 have rp1:=rp1.ext hs
 refine Zg (.int .i64 (0)) rfl rfl ?_
 refine Zb (Zd (Zq h (fun (s:Unit) e w=>∃ (g:Gh) ,Fr gI wI g w∧e 1=up1∧RV g.m w (x1:List Int) up1∧e 2=p1∧PT g.m w (x0:TieHarness) p1) (fun X6 k6 hk6 h=>?_) ?_))
 ·refine Zf (Za (Ze .plain rfl (D_load (g := g1) Try.isAgg28 Try.sizeOf28 rfl q1 fun v7 r7 => ?_)))
  obtain ⟨y9,m8,h⟩:=Ge h
  refine Ze .plain rfl (Zp (g:=g1) (vs:=[v7]) en105 (.cons rfl .nil) (wk105 r7 m8) fun g8 w8_ v8 hs hr=>?_)
  have hfr:=hfr.ext hs
  have rp1:=rp1.ext hs
  have q1:=q1.ext hs
  subst hr
  refine Zg (.int .i64 (y9)) rfl rfl ?_
  refine Zb (Zd (Zf (Za (Zn (.int .i64 (y9)) rfl rfl ?_))))
  refine EL_in (.bool ((y9 != (0:Int)))) rfl rfl rfl rfl ?_
  refine Zb (Zd ?_)
  rcases Zt h with ⟨u3,h⟩ | ⟨u3,h⟩
  ·refine E_ct u3 rfl ?_
   refine Zf (Za (Zn (.int .i64 (y9)) rfl rfl ?_))
   refine Zg (.int .i64 (y9)) rfl rfl ?_
   refine Zb (Zd (E_ret (thn_r ?_)))
   obtain rfl:=sinj h
   exact end1 rfl rfl (show _=.int .i64 (y9) from rfl) ⟨_,hfr,rfl⟩
  ·refine E_cf u3 rfl ?_
   exact Zu (Zd (hk6 () _ _ ⟨g8,hfr,rfl,rp1,rfl,q1⟩ h))
 ·rintro _ k9 u9 ⟨i7, hfr, i6, x6, y6, o0⟩ h
  refine Zq h (fun (s:Unit) e w=>∃ (g:Gh) ,Fr gI wI g w) (fun X20 m7 k8 h=>?_) ?_
  ·refine Zr ?_
   refine Zf (Za (Zo i6 rfl ?_))
   refine Ga (.int .i64 ((x1).length:Int)) (P_len Try.underlying26 rfl x6) rfl ?_
   refine Ga (fPtr p1 1) (Zc at_28_1 y6 (PT.ptr o0)) rfl ?_
   have n8:=Zm (part_TieHarness_1).1 o0
   refine Ze .plain rfl (D_load (g:=i7) Try.isAgg26 Try.sizeOf26 rfl n8 fun z9 r8=>?_)
   refine Ga (.int .i64 (((x0).Warps).length:Int)) (P_len Try.underlying26 rfl r8) rfl ?_
   refine EL_in (.bool ((((x1).length:Int) != (((x0).Warps).length:Int)))) rfl rfl rfl rfl ?_
   refine Zg (.bool ((((x1).length:Int) != (((x0).Warps).length:Int)))) rfl rfl ?_
   refine Zb (Zd ?_)
   rcases Zt h with ⟨l5,h⟩ | ⟨l5,h⟩
   ·refine E_ct l5 rfl ?_
    refine Zf (Za (Zg (.int .i64 (4)) rfl rfl ?_))
    refine Zb (Zd (E_ret (blk_r ?_)))
    refine thn_r ?_
    obtain rfl:=sinj h
    exact end1 rfl rfl (show _=.int .i64 (4) from rfl) ⟨_,hfr,rfl⟩
   ·refine E_cf l5 rfl ?_
    refine Zf (Za (Ga (fPtr p1 1) (Zc at_28_1 y6 (PT.ptr o0)) rfl ?_))
    have x8:=Zm (part_TieHarness_1).1 o0
    refine Ze .plain rfl (D_load (g:=i7) Try.isAgg26 Try.sizeOf26 rfl x8 fun bA a9=>?_)
    refine Ga (.int .i64 (((x0).Warps).length:Int)) (P_len Try.underlying26 rfl a9) rfl ?_
    refine Ga (.int .i64 ((w64 ((((x0).Warps).length:Int) - (1:Int))))) (P_int rfl rfl rfl) rfl ?_
    refine Zo i6 rfl ?_
    obtain ⟨x5,l8,h⟩:=Ge h
    refine Ze .plain rfl (Zp (g:=i7) (vs:=[.int .i64 (-1),.int .i64 ((w64 ((((x0).Warps).length:Int) - (1:Int)))),up1]) en88 (.cons rfl (.cons rfl (.cons rfl .nil))) (wk88 x6 l8) fun d9 l9 iA hs hr=>?_)
    have hfr:=hfr.ext hs
    subst hr
    refine Ga (.bool (!x5)) (P_not rfl) rfl ?_
    refine Zg (.bool (!x5)) rfl rfl ?_
    refine Zb (Zd ?_)
    rcases Zt h with ⟨t5,h⟩ | ⟨t5,h⟩
    ·refine E_ct t5 rfl ?_
     refine Zf (Za (Zg (.int .i64 (2)) rfl rfl ?_))
     refine Zb (Zd (E_ret (blk_r ?_)))
     refine thn_r ?_
     obtain rfl:=sinj h
     exact end1 rfl rfl (show _=.int .i64 (2) from rfl) ⟨_,hfr,rfl⟩
    ·refine E_cf t5 rfl ?_
     exact Zu (blk_n (Zd (k8 () _ _ ⟨d9,hfr⟩ h)))
  ·rintro _ n9 w29 ⟨rA, hfr⟩ h
   refine Zf (Za (Zg (.int .i64 (0)) rfl rfl ?_))
   refine Zb (Zd (E_ret ?_))
   obtain rfl:=sinj h
   exact end1 rfl rfl (show _=.int .i64 (0) from rfl) ⟨_,hfr,rfl⟩
def f89 (x0:TieHarness) (x1:Design):Option (Int):=
 jn (σ:=Unit) (fun _=>
  jn (σ:=Unit) (fun _=>
   jn (σ:=Unit) (fun _=>
    some ((0:Int))
    ) fun k28=>
   bif ((x0).Hooks != (x1).Hooks) then
    some ((4:Int))
   else
    k28 ()
   ) fun n8=>
  (f102 x1).bind fun o0=>
  bif (o0 != (0 : Int)) then
   some (o0)
  else
   n8 ()
  ) fun k7=>
 (f105 x0).bind fun u3=>
 bif (u3 != (0 : Int)) then
  some (u3)
 else
  k7 ()
theorem en89:Enters Try.prog 89:=enters_of Try.func89 (by kernel_rfl) rfl
theorem wk89 {gI:Gh} {wI:World} {x0:TieHarness} {x1:Design} {up0:Value} (rp0:RV gI.m wI x0 up0) {up1:Value} (rp1:RV gI.m wI x1 up1) {r:Int} (h:f89 x0 x1=some r):Fn Try.prog 89 #[up0,up1] gI wI (fun _ _ v=>v=.int .i64 (r)):=by
 unfold f89 at h
 refine fn_of_E Try.func89 rfl (Nat.le_of_ble_eq_true rfl) fun g0 hm hfr=>?_
 have rp0:RV g0.m wI x0 up0:=hm ▸ rp0
 have rp1:RV g0.m wI x1 up1:=hm ▸ rp1
 show E _ 22 none _ _ _ _ _
 refine Zf (Za (Ze .plain rfl (D_box (g:=g0) rfl rp0 fun g1 w1 p1 hs q1=>?_)))
 have hfr:=hfr.ext hs
 have rp1:=rp1.ext hs
 refine Ze .plain rfl (D_box (g:=g1) rfl rp1 fun g2 w2 p2 hs q2=>?_)
 have hfr:=hfr.ext hs
 have q1:=q1.ext hs
 refine Zg (.int .i64 (0)) rfl rfl ?_
 refine Zb (Zd (Zq h (fun (s:Unit) e w=>∃ (g:Gh) ,Fr gI wI g w∧e 2=p1∧PT g.m w (x0:TieHarness) p1∧e 3=p2∧PT g.m w (x1:Design) p2) (fun X7 k7 hk7 h=>?_) ?_))
 ·refine Zf (Za (Ze .plain rfl (D_load (g := g2) Try.isAgg28 Try.sizeOf28 rfl q1 fun v8 r8 => ?_)))
  obtain ⟨u3,a9,h⟩:=Ge h
  refine Ze .plain rfl (Zp (g:=g2) (vs:=[v8]) en105 (.cons rfl .nil) (wk105 r8 a9) fun g9 w9_ v9 hs hr=>?_)
  have hfr:=hfr.ext hs
  have q1:=q1.ext hs
  have q2:=q2.ext hs
  subst hr
  refine Zg (.int .i64 (u3)) rfl rfl ?_
  refine Zb (Zd (Zf (Za (Zn (.int .i64 (u3)) rfl rfl ?_))))
  refine EL_in (.bool ((u3 != (0:Int)))) rfl rfl rfl rfl ?_
  refine Zb (Zd ?_)
  rcases Zt h with ⟨x5,h⟩ | ⟨x5,h⟩
  ·refine E_ct x5 rfl ?_
   refine Zf (Za (Zn (.int .i64 (u3)) rfl rfl ?_))
   refine Zg (.int .i64 (u3)) rfl rfl ?_
   refine Zb (Zd (E_ret (thn_r ?_)))
   obtain rfl:=sinj h
   exact end1 rfl rfl (show _=.int .i64 (u3) from rfl) ⟨_,hfr,rfl⟩
  ·refine E_cf x5 rfl ?_
   exact Zu (Zd (hk7 () _ _ ⟨g9,hfr,rfl,q1,rfl,q2⟩ h))
 ·rintro _ rA iB ⟨x8, hfr, k8, t5, y6, l5⟩ h
  refine Zq h (fun (s:Unit) e w=>∃ (g:Gh) ,Fr gI wI g w∧e 2=p1∧PT g.m w (x0:TieHarness) p1∧e 3=p2∧PT g.m w (x1:Design) p2) (fun X17 n8 d9 h=>?_) ?_
  ·refine Zf (Za (Ze .plain rfl (D_load (g := x8) Try.isAgg30 Try.sizeOf30 y6 l5 fun l9 n9 => ?_)))
   obtain ⟨o0,hy20,h⟩:=Ge h
   refine Ze .plain rfl (Zp (g:=x8) (vs:=[l9]) en102 (.cons rfl .nil) (wk102 n9 hy20) fun u9 yA lB hs hr=>?_)
   have hfr:=hfr.ext hs
   have t5:=t5.ext hs
   have l5:=l5.ext hs
   subst hr
   refine Zg (.int .i64 (o0)) rfl rfl ?_
   refine Zb (Zd (Zf (Za (Zn (.int .i64 (o0)) rfl rfl ?_))))
   refine EL_in (.bool ((o0 != (0:Int)))) rfl rfl rfl rfl ?_
   refine Zb (Zd ?_)
   rcases Zt h with ⟨i6,h⟩ | ⟨i6,h⟩
   ·refine E_ct i6 rfl ?_
    refine Zf (Za (Zn (.int .i64 (o0)) rfl rfl ?_))
    refine Zg (.int .i64 (o0)) rfl rfl ?_
    refine Zb (Zd (E_ret (thn_r ?_)))
    obtain rfl:=sinj h
    exact end1 rfl rfl (show _=.int .i64 (o0) from rfl) ⟨_,hfr,rfl⟩
   ·refine E_cf i6 rfl ?_
    exact Zu (Zd (d9 () _ _ ⟨u9,hfr,k8,t5,y6,l5⟩ h))
  ·rintro _ aB mB ⟨g8, hfr, l8, i7, m8, m7⟩ h
   refine Zq h (fun (s:Unit) e w=>∃ (g:Gh) ,Fr gI wI g w) (fun X28 k28 k9 h=>?_) ?_
   ·refine Zf (Za (Ga (fPtr p1 0) (Zc at_28_0 l8 (PT.ptr i7)) rfl ?_))
    have y9:=Zm (part_TieHarness_0).1 i7
    refine Ze .plain rfl (D_load (g:=g8) Try.isAgg3 Try.sizeOf3 rfl y9 fun nB z9=>?_)
    obtain rfl:=Zj.1 z9
    refine Ga (fPtr p2 0) (Zc at_30_0 m8 (PT.ptr m7)) rfl ?_
    have bA:=Zm (part_Design_0).1 m7
    refine Ze .plain rfl (D_load (g:=g8) Try.isAgg3 Try.sizeOf3 rfl bA fun oB iA=>?_)
    obtain rfl:=Zj.1 iA
    refine EL_in (.bool (((x0).Hooks != (x1).Hooks))) rfl rfl rfl rfl ?_
    refine Zb (Zd ?_)
    rcases Zt h with ⟨x6,h⟩ | ⟨x6,h⟩
    ·refine E_ct x6 rfl ?_
     refine Zf (Za (Zg (.int .i64 (4)) rfl rfl ?_))
     refine Zb (Zd (E_ret (thn_r ?_)))
     obtain rfl:=sinj h
     exact end1 rfl rfl (show _=.int .i64 (4) from rfl) ⟨_,hfr,rfl⟩
    ·refine E_cf x6 rfl ?_
     exact Zu (Zd (k9 () _ _ ⟨g8,hfr⟩ h))
   ·rintro _ dB tB ⟨vB, hfr⟩ h
    refine Zf (Za (Zg (.int .i64 (0)) rfl rfl ?_))
    refine Zb (Zd (E_ret ?_))
    obtain rfl:=sinj h
    exact end1 rfl rfl (show _=.int .i64 (0) from rfl) ⟨_,hfr,rfl⟩
def f95 (x0:FaultLoom):Option (Int):=
 jn (σ:=Unit) (fun _=>
  jn (σ:=Unit) (fun _=>
   jn (σ:=Unit) (fun _=>
    some ((0:Int))
    ) fun k33=>
   bif (((x0).Harness).Hooks != ((x0).Design).Hooks) then
    some ((4:Int))
   else
    k33 ()
   ) fun k19=>
  (f102 ((x0).Design)).bind fun y23=>
  bif (y23 != (0 : Int)) then
   some (y23)
  else
   k19 ()
  ) fun k7=>
 (f105 ((x0).Harness)).bind fun y11=>
 bif (y11 != (0 : Int)) then
  some (y11)
 else
  k7 ()
theorem en95:Enters Try.prog 95:=enters_of Try.func95 (by kernel_rfl) rfl
theorem wk95 {gI:Gh} {wI:World} {x0:FaultLoom} {up0:Value} (rp0:RV gI.m wI x0 up0) {r:Int} (h:f95 x0=some r):Fn Try.prog 95 #[up0] gI wI (fun _ _ v=>v=.int .i64 (r)):=by
 unfold f95 at h
 refine fn_of_E Try.func95 rfl (Nat.le_of_ble_eq_true rfl) fun g0 hm hfr=>?_
 have rp0:RV g0.m wI x0 up0:=hm ▸ rp0
 show E _ 24 none _ _ _ _ _
 refine Zf (Za (Ze .plain rfl (D_box (g:=g0) rfl rp0 fun g1 w1 p1 hs q1=>?_)))
 have hfr:=hfr.ext hs
 refine Zg (.int .i64 (0)) rfl rfl ?_
 refine Zb (Zd (Zq h (fun (s:Unit) e w=>∃ (g:Gh) ,Fr gI wI g w∧e 1=p1∧PT g.m w (x0:FaultLoom) p1) (fun X7 k7 hk7 h=>?_) ?_))
 ·refine Zf (Za (Ga (fPtr p1 0) (Zc at_32_0 rfl (PT.ptr q1)) rfl ?_))
  have q8:=Zm (part_FaultLoom_0).1 q1
  refine Ze .plain rfl (D_load (g:=g1) Try.isAgg28 Try.sizeOf28 rfl q8 fun v9 r9=>?_)
  obtain ⟨y11,k8,h⟩:=Ge h
  refine Ze .plain rfl (Zp (g:=g1) (vs:=[v9]) en105 (.cons rfl .nil) (wk105 r9 k8) fun r8 y9 yA hs hr=>?_)
  have hfr:=hfr.ext hs
  have q1:=q1.ext hs
  subst hr
  refine Zg (.int .i64 (y11)) rfl rfl ?_
  refine Zb (Zd (Zf (Za (Zn (.int .i64 (y11)) rfl rfl ?_))))
  refine EL_in (.bool ((y11 != (0:Int)))) rfl rfl rfl rfl ?_
  refine Zb (Zd ?_)
  rcases Zt h with ⟨l5,h⟩ | ⟨l5,h⟩
  ·refine E_ct l5 rfl ?_
   refine Zf (Za (Zn (.int .i64 (y11)) rfl rfl ?_))
   refine Zg (.int .i64 (y11)) rfl rfl ?_
   refine Zb (Zd (E_ret (thn_r ?_)))
   obtain rfl:=sinj h
   exact end1 rfl rfl (show _=.int .i64 (y11) from rfl) ⟨_,hfr,rfl⟩
  ·refine E_cf l5 rfl ?_
   exact Zu (Zd (hk7 () _ _ ⟨r8,hfr,rfl,q1⟩ h))
 ·rintro _ z9 aB ⟨i7, hfr, i6, o0⟩ h
  refine Zq h (fun (s:Unit) e w=>∃ (g:Gh) ,Fr gI wI g w∧e 1=p1∧PT g.m w (x0:FaultLoom) p1) (fun X19 k19 l8 h=>?_) ?_
  ·refine Zf (Za (Ga (fPtr p1 2) (Zc at_32_1 i6 (PT.ptr o0)) rfl ?_))
   have v8:=Zm (part_FaultLoom_1).1 o0
   refine Ze .plain rfl (D_load (g:=i7) Try.isAgg30 Try.sizeOf30 rfl v8 fun x8 a9=>?_)
   obtain ⟨y23,m8,h⟩:=Ge h
   refine Ze .plain rfl (Zp (g:=i7) (vs:=[x8]) en102 (.cons rfl .nil) (wk102 a9 m8) fun d9 bA dB hs hr=>?_)
   have hfr:=hfr.ext hs
   have o0:=o0.ext hs
   subst hr
   refine Zg (.int .i64 (y23)) rfl rfl ?_
   refine Zb (Zd (Zf (Za (Zn (.int .i64 (y23)) rfl rfl ?_))))
   refine EL_in (.bool ((y23 != (0:Int)))) rfl rfl rfl rfl ?_
   refine Zb (Zd ?_)
   rcases Zt h with ⟨t5,h⟩ | ⟨t5,h⟩
   ·refine E_ct t5 rfl ?_
    refine Zf (Za (Zn (.int .i64 (y23)) rfl rfl ?_))
    refine Zg (.int .i64 (y23)) rfl rfl ?_
    refine Zb (Zd (E_ret (thn_r ?_)))
    obtain rfl:=sinj h
    exact end1 rfl rfl (show _=.int .i64 (y23) from rfl) ⟨_,hfr,rfl⟩
   ·refine E_cf t5 rfl ?_
    exact Zu (Zd (l8 () _ _ ⟨d9,hfr,i6,o0⟩ h))
  ·rintro _ iA iB ⟨y6, hfr, x6, u3⟩ h
   refine Zq h (fun (s:Unit) e w=>∃ (g:Gh) ,Fr gI wI g w) (fun X33 k33 n8 h=>?_) ?_
   ·refine Zf (Za (Ga (fPtr p1 0) (Zc at_32_0 x6 (PT.ptr u3)) rfl ?_))
    have m7:=Zm (part_FaultLoom_0).1 u3
    refine Ga (fPtr (fPtr p1 0) 0) (Zc at_28_0 rfl (PT.ptr m7)) rfl ?_
    have k9:=Zm (part_TieHarness_0).1 m7
    refine Ze .plain rfl (D_load (g:=y6) Try.isAgg3 Try.sizeOf3 rfl k9 fun lB l9=>?_)
    obtain rfl:=Zj.1 l9
    refine Ga (fPtr p1 2) (Zc at_32_1 x6 (PT.ptr u3)) rfl ?_
    have g8:=Zm (part_FaultLoom_1).1 u3
    refine Ga (fPtr (fPtr p1 2) 0) (Zc at_30_0 rfl (PT.ptr g8)) rfl ?_
    have n9:=Zm (part_Design_0).1 g8
    refine Ze .plain rfl (D_load (g:=y6) Try.isAgg3 Try.sizeOf3 rfl n9 fun mB u9=>?_)
    obtain rfl:=Zj.1 u9
    refine EL_in (.bool ((((x0).Harness).Hooks != ((x0).Design).Hooks))) rfl rfl rfl rfl ?_
    refine Zb (Zd ?_)
    rcases Zt h with ⟨x5,h⟩ | ⟨x5,h⟩
    ·refine E_ct x5 rfl ?_
     refine Zf (Za (Zg (.int .i64 (4)) rfl rfl ?_))
     refine Zb (Zd (E_ret (thn_r ?_)))
     obtain rfl:=sinj h
     exact end1 rfl rfl (show _=.int .i64 (4) from rfl) ⟨_,hfr,rfl⟩
    ·refine E_cf x5 rfl ?_
     exact Zu (Zd (n8 () _ _ ⟨y6,hfr⟩ h))
   ·rintro _ rA nB ⟨oB, hfr⟩ h
    refine Zf (Za (Zg (.int .i64 (0)) rfl rfl ?_))
    refine Zb (Zd (E_ret ?_))
    obtain rfl:=sinj h
    exact end1 rfl rfl (show _=.int .i64 (0) from rfl) ⟨_,hfr,rfl⟩
def f144 (x0:FaultLoom) (x1:List Zv):Option (Int):=
 jn (σ:=Unit) (fun _=>
  jn (σ:=Unit) (fun _=>
   some ((0:Int))
   ) fun i7=>
  bif (decide (((x1).length : Int) > (100 : Int))) then
   some ((5:Int))
  else
   (f222 x1 ((fun a0=>f220 a0 x0))).bind fun i6=>
   bif i6 then
    some ((2:Int))
   else
    i7 ()
  ) fun k6=>
 (f95 x0).bind fun y9=>
 bif (y9 != (0 : Int)) then
  some (y9)
 else
  k6 ()
theorem en144:Enters Try.prog 144:=enters_of Try.func144 (by kernel_rfl) rfl
theorem wk144 {gI:Gh} {wI:World} {x0:FaultLoom} {x1:List Zv} {up0:Value} (rp0:RV gI.m wI x0 up0) {up1:Value} (rp1:RV gI.m wI x1 up1) {r:Int} (h:f144 x0 x1=some r):Fn Try.prog 144 #[up0,up1] gI wI (fun _ _ v=>v=.int .i64 (r)):=by
 unfold f144 at h
 refine fn_of_E Try.func144 rfl (Nat.le_of_ble_eq_true rfl) fun g0 hm hfr=>?_
 have rp0:RV g0.m wI x0 up0:=hm ▸ rp0
 have rp1:RV g0.m wI x1 up1:=hm ▸ rp1
 show E _ 21 none _ _ _ _ _
 refine Zf (Za (Ze .plain rfl (D_box (g:=g0) rfl rp0 fun g1 w1 p1 hs q1=>?_)))
 have hfr:=hfr.ext hs
 have rp1:=rp1.ext hs
 refine Zg (.int .i64 (0)) rfl rfl ?_
 refine Zb (Zd (Zq h (fun (s:Unit) e w=>∃ (g:Gh) ,Fr gI wI g w∧e 1=up1∧RV g.m w (x1:List Zv) up1∧e 2=p1∧PT g.m w (x0:FaultLoom) p1) (fun X6 k6 hk6 h=>?_) ?_))
 ·refine Zf (Za (Ze .plain rfl (D_load (g := g1) Try.isAgg32 Try.sizeOf32 rfl q1 fun v7 r7 => ?_)))
  obtain ⟨y9,l8,h⟩:=Ge h
  refine Ze .plain rfl (Zp (g:=g1) (vs:=[v7]) en95 (.cons rfl .nil) (wk95 r7 l8) fun g8 w8_ v8 hs hr=>?_)
  have hfr:=hfr.ext hs
  have rp1:=rp1.ext hs
  have q1:=q1.ext hs
  subst hr
  refine Zg (.int .i64 (y9)) rfl rfl ?_
  refine Zb (Zd (Zf (Za (Zn (.int .i64 (y9)) rfl rfl ?_))))
  refine EL_in (.bool ((y9 != (0:Int)))) rfl rfl rfl rfl ?_
  refine Zb (Zd ?_)
  rcases Zt h with ⟨o0,h⟩ | ⟨o0,h⟩
  ·refine E_ct o0 rfl ?_
   refine Zf (Za (Zn (.int .i64 (y9)) rfl rfl ?_))
   refine Zg (.int .i64 (y9)) rfl rfl ?_
   refine Zb (Zd (E_ret (thn_r ?_)))
   obtain rfl:=sinj h
   exact end1 rfl rfl (show _=.int .i64 (y9) from rfl) ⟨_,hfr,rfl⟩
  ·refine E_cf o0 rfl ?_
   exact Zu (Zd (hk6 () _ _ ⟨g8,hfr,rfl,rp1,rfl,q1⟩ h))
 ·rintro _ r8 d9 ⟨m8, hfr, t5, x5, x6, y6⟩ h
  refine Zf (Za (Ga ((.func (.func 220) #[] #[p1])) (P_makeFunc (capf_0_1 (show ev _ _=p1 from x6))) rfl ?_))
  refine Zg ((.func (.func 220) #[] #[p1])) rfl rfl ?_
  refine Zb (Zd (Zq h (fun (s:Unit) e w=>∃ (g:Gh) ,Fr gI wI g w) (fun X16 i7 m7 h=>?_) ?_))
  ·refine Zr ?_
   refine Zf (Za (Zo t5 rfl ?_))
   refine Ga (.int .i64 ((x1).length:Int)) (P_len Try.underlying57 rfl x5) rfl ?_
   refine EL_in (.bool ((decide (((x1).length:Int) > (100:Int))))) rfl rfl rfl rfl ?_
   refine Zg (.bool ((decide (((x1).length:Int) > (100:Int))))) rfl rfl ?_
   refine Zb (Zd ?_)
   rcases Zt h with ⟨u3,h⟩ | ⟨u3,h⟩
   ·refine E_ct u3 rfl ?_
    refine Zf (Za (Zg (.int .i64 (5)) rfl rfl ?_))
    refine Zb (Zd (E_ret (blk_r ?_)))
    refine thn_r ?_
    obtain rfl:=sinj h
    exact end1 rfl rfl (show _=.int .i64 (5) from rfl) ⟨_,hfr,rfl⟩
   ·refine E_cf u3 rfl ?_
    refine Zf (Za (Zo t5 rfl ?_))
    refine Zn ((.func (.func 220) #[] #[p1])) rfl rfl ?_
    obtain ⟨i6,k8,h⟩:=Ge h
    refine Ze .plain rfl (Zp (g:=m8) (vs:=[up1,(.func (.func 220) #[] #[p1])]) en222 (.cons rfl (.cons rfl .nil)) (wk222 x5 ⟨220,#[],#[p1],rfl,en220,fun g' w' hch a0 b0 r hu0 hr=>by exact Fn.mono (wk220 hu0 (y6.ch hch) hr) fun _ _ _ h=>RV_bool.2 h⟩ k8) fun n8 x8 k9 hs hr=>?_)
    have hfr:=hfr.ext hs
    subst hr
    refine Zg (.bool (i6)) rfl rfl ?_
    refine Zb (Zd ?_)
    rcases Zt h with ⟨l5,h⟩ | ⟨l5,h⟩
    ·refine E_ct l5 rfl ?_
     refine Zf (Za (Zg (.int .i64 (2)) rfl rfl ?_))
     refine Zb (Zd (E_ret (blk_r ?_)))
     refine thn_r ?_
     obtain rfl:=sinj h
     exact end1 rfl rfl (show _=.int .i64 (2) from rfl) ⟨_,hfr,rfl⟩
    ·refine E_cf l5 rfl ?_
     exact Zu (blk_n (Zd (m7 () _ _ ⟨n8,hfr⟩ h)))
  ·rintro _ a9 l9 ⟨n9, hfr⟩ h
   refine Zf (Za (Zg (.int .i64 (0)) rfl rfl ?_))
   refine Zb (Zd (E_ret ?_))
   obtain rfl:=sinj h
   exact end1 rfl rfl (show _=.int .i64 (0) from rfl) ⟨_,hfr,rfl⟩
def f29 (x0:TieHarness) (x1:List Int) (x2:Design):Option ((List Str) × Int):=
 jn (σ:=(List Str)) (fun rC=>
  (f39 x0 x2).bind fun x5=>
  jn (σ:=(List Str)) (fun vD=>
   Option.bind (α:=(List Str)) (
    lp (σ:=(List Str) × Int) (fun aG (g8,o0)=>
     bif (decide (o0 < ((x5.1).length : Int))) then
      Option.bind (α:=(List Str)) (
       (idx (x5.1) o0).bind fun nB=>
       Option.bind (α:=(List UInt8)) (
        lp (σ:=(List UInt8) × Int) (fun bG (l9,i6)=>
         bif (decide (i6 < ((x1).length : Int))) then
          Option.bind (α:=(List UInt8)) (
           (idx x1 i6).bind fun u9=>
           bif (u9 == (-1 : Int)) then
            (apnd 1 l9 (([(46:UInt8)]:List UInt8))).bind fun cG=>
            some (cG)
           else
            (idx (nB).b u9).bind fun oB=>
            (apnd 1 l9 (([oB]:List UInt8))).bind fun eG=>
            some (eG)
           ) fun n8=>
          bG (n8,(w64 (i6 + (1:Int))))
         else
          some (l9)
         ) big ([],(0:Int))
        ) fun m8=>
       (apnd 16 g8 (([(⟨m8⟩:Str)]:List Str))).bind fun gG=>
       some (gG)
       ) fun a9=>
      aG (a9,(w64 (o0 + (1:Int))))
     else
      some (g8)
     ) big (vD,(0:Int))
    ) fun y9=>
   some (y9,(0:Int))
   ) fun k18=>
  bif (x5.2 != (0 : Int)) then
   some ([],x5.2)
  else
   k18 (rC)
  ) fun k7=>
 (f86 x0 x1).bind fun z9=>
 bif (z9 != (0 : Int)) then
  some ([],z9)
 else
  k7 ([])
theorem en29:Enters Try.prog 29:=enters_of Try.func29 (by kernel_rfl) rfl
theorem wk29 {gI:Gh} {wI:World} {x0:TieHarness} {x1:List Int} {x2:Design} {up0:Value} (rp0:RV gI.m wI x0 up0) {up1:Value} (rp1:RV gI.m wI x1 up1) {up2:Value} (rp2:RV gI.m wI x2 up2) {r:(List Str) × Int} (h:f29 x0 x1 x2=some r):Fn Try.prog 29 #[up0,up1,up2] gI wI (fun m w v=>∃ y0 y1,v=.tuple #[y0,y1]∧RV m w (r.1) y0∧y1=.int .i64 (r.2)):=by
 unfold f29 at h
 refine fn_of_E Try.func29 rfl (Nat.le_of_ble_eq_true rfl) fun g0 hm hfr=>?_
 have rp0:RV g0.m wI x0 up0:=hm ▸ rp0
 have rp1:RV g0.m wI x1 up1:=hm ▸ rp1
 have rp2:RV g0.m wI x2 up2:=hm ▸ rp2
 show E _ 61 none _ _ _ _ _
 refine Zf (Za (Ze .plain rfl (D_box (g:=g0) rfl rp0 fun g1 w1 p1 hs q1=>?_)))
 have hfr:=hfr.ext hs
 have rp1:=rp1.ext hs
 have rp2:=rp2.ext hs
 refine Ze .plain rfl (D_box (g:=g1) rfl rp2 fun g2 w2 p2 hs q2=>?_)
 have hfr:=hfr.ext hs
 have rp1:=rp1.ext hs
 have q1:=q1.ext hs
 refine Zg (.slice none 0 0) rfl rfl ?_
 refine Zg (.int .i64 (0)) rfl rfl ?_
 refine Zb (Zd (Zq h (fun (s:(List Str)) e w=>∃ (g:Gh) (v6:Value),Fr gI wI g w∧e 1=up1∧RV g.m w (x1:List Int) up1∧e 3=p1∧PT g.m w (x0:TieHarness) p1∧e 5=p2∧PT g.m w (x2:Design) p2∧e 6=v6∧RV g.m w (s:List Str) v6∧OS 1006 g w 9 (s:List Str) v6) (fun X7 k7 hk7 h=>?_) ?_))
 ·refine Zf (Za (Ze .plain rfl (D_load (g := g2) Try.isAgg28 Try.sizeOf28 rfl q1 fun v8 r8 => ?_)))
  refine Zn up1 rfl rfl ?_
  obtain ⟨z9,sI,h⟩:=Ge h
  refine Ze .plain rfl (Zp (g:=g2) (vs:=[v8,up1]) en86 (.cons rfl (.cons rfl .nil)) (wk86 r8 rp1 sI) fun g9 w9_ v9 hs hr=>?_)
  have hfr:=hfr.ext hs
  have rp1:=rp1.ext hs
  have q1:=q1.ext hs
  have q2:=q2.ext hs
  subst hr
  refine Zg (.int .i64 (z9)) rfl rfl ?_
  refine Zb (Zd (Zf (Za (Zn (.int .i64 (z9)) rfl rfl ?_))))
  refine EL_in (.bool ((z9 != (0:Int)))) rfl rfl rfl rfl ?_
  refine Zb (Zd ?_)
  rcases Zt h with ⟨sD,h⟩ | ⟨sD,h⟩
  ·refine E_ct sD rfl ?_
   refine Zf (Za (Zn (.int .i64 (z9)) rfl rfl ?_))
   refine Zg (.slice none 0 0) rfl rfl ?_
   refine Zg (.int .i64 (z9)) rfl rfl ?_
   refine Zb (Zd (E_ret (thn_r ?_)))
   obtain rfl:=sinj h
   exact end2 rfl rfl (show _=.slice none 0 0 from rfl) (show _=.int .i64 (z9) from rfl) ⟨_,hfr,_,_,rfl,RV_nil,rfl⟩
  ·refine E_cf sD rfl ?_
   exact Zu (Zd (hk7 ([]) _ _ ⟨g9,(.slice none 0 0),hfr,rfl,rp1,rfl,q1,rfl,q2,rfl,RV_nil,OS.nil⟩ h))
 ·rintro rC yK zL ⟨hG, nH, hfr, oH, uC, pH, qH, sH, tH, uH, vC, aD⟩ h
  refine Zf (Za (Ze .plain rfl (D_load (g:=hG) Try.isAgg28 Try.sizeOf28 pH qH fun bK cK=>?_)))
  refine Ze .plain rfl (D_load (g:=hG) Try.isAgg30 Try.sizeOf30 sH tH fun dK lK=>?_)
  obtain ⟨x5,tI,h⟩:=Ge h
  refine Ze .plain rfl (Zp (g:=hG) (vs:=[bK,dK]) en39 (.cons rfl (.cons rfl .nil)) (wk39 cK lK tI) fun mK zK aM hs hr=>?_)
  have hfr:=hfr.ext hs
  have uC:=uC.ext hs
  have vC:=vC.ext hs
  have aD:=aD.ext hs
  obtain ⟨l5,pK,rfl,xH,rfl⟩:=hr
  refine Zn (.tuple #[l5,.int .i64 (x5.2)]) rfl rfl ?_
  refine Ga l5 (Zi rfl rfl) rfl ?_
  refine Ga (.int .i64 (x5.2)) (Zi rfl rfl) rfl ?_
  refine Zg l5 rfl rfl ?_
  refine Zg (.int .i64 (x5.2)) rfl rfl ?_
  refine Zb (Zd (Zq h (fun (s:(List Str)) e w=>∃ (g:Gh) (v6:Value),Fr gI wI g w∧e 1=up1∧RV g.m w (x1:List Int) up1∧e 6=v6∧RV g.m w (s:List Str) v6∧OS 1006 g w 9 (s:List Str) v6∧e 9=l5∧RV g.m w (x5.1:List Str) l5) (fun X18 k18 uI h=>?_) ?_))
  ·refine Zf (Za (Zn (.int .i64 (x5.2)) rfl rfl ?_))
   refine EL_in (.bool ((x5.2 != (0:Int)))) rfl rfl rfl rfl ?_
   refine Zb (Zd ?_)
   rcases Zt h with ⟨tD,h⟩ | ⟨tD,h⟩
   ·refine E_ct tD rfl ?_
    refine Zf (Za (Zn (.int .i64 (x5.2)) rfl rfl ?_))
    refine Zg (.slice none 0 0) rfl rfl ?_
    refine Zg (.int .i64 (x5.2)) rfl rfl ?_
    refine Zb (Zd (E_ret (thn_r ?_)))
    obtain rfl:=sinj h
    exact end2 rfl rfl (show _=.slice none 0 0 from rfl) (show _=.int .i64 (x5.2) from rfl) ⟨_,hfr,_,_,rfl,RV_nil,rfl⟩
   ·refine E_cf tD rfl ?_
    exact Zu (Zd (uI (rC) _ _ ⟨mK,(nH),hfr,oH,uC,uH,vC,aD,rfl,xH⟩ h))
  ·rintro vD aL bM ⟨nK, yH, hfr, zH, aI, bI, dI, iI, jI, xD⟩ h
   obtain ⟨y9,hx,h⟩:=Ge h
   refine E_join (fun e w=>∃ (g:Gh) (v6:Value),Fr gI wI g w∧e 6=v6∧RV g.m w (y9:List Str) v6∧OS 1006 g w 9 (y9:List Str) v6) (fun Q' hQ=>?_) (fun qK bL hR=>?_)
   ·replace h := hx
    clear hx
    refine Zf (Za (Zo jI rfl ?_))
    refine Ga (.int .i64 ((x5.1).length:Int)) (P_len Try.underlying50 rfl xD) rfl ?_
    refine Zn (.int .i64 (0)) rfl rfl ?_
    refine Zb (Zd (Zr ?_))
    refine E_lp h (fun (s:(List Str) × Int) e w=>∃ (g:Gh) (v6:Value),Fr gI wI g w∧e 1=up1∧RV g.m w (x1:List Int) up1∧e 6=v6∧RV g.m w (s.1:List Str) v6∧OS 1006 g w 9 (s.1:List Str) v6∧e 30=l5∧RV g.m w (x5.1:List Str) l5∧e 31=.int .i64 (((x5.1).length:Int))∧e 32=.int .i64 (s.2)) ⟨nK,(yH),hfr,zH,aI,bI,dI,iI,rfl,xD,rfl,rfl⟩ (fun X144 aG kI=>?_)
    rintro ⟨g8,o0⟩ sK dL ⟨uD,m7,hfr,iD,tB,jD,lD,nD,mC,bA,qC,iA⟩ h
    refine Zf (Za (EL_in (.bool ((decide (o0 < ((x5.1).length:Int))))) iA qC rfl rfl ?_))
    refine Zb (Zd (Zf ?_))
    rcases Zt h with ⟨bD,h⟩ | ⟨bD,h⟩
    ·refine E_ct bD rfl ?_
     refine Zu (Zd ?_)
     obtain ⟨a9,hx,h⟩:=Ge h
     refine E_join (fun e w=>∃ (g:Gh) (v6:Value),Fr gI wI g w∧e 1=up1∧RV g.m w (x1:List Int) up1∧e 6=v6∧RV g.m w (a9:List Str) v6∧OS 1006 g w 9 (a9:List Str) v6∧e 30=l5∧RV g.m w (x5.1:List Str) l5∧e 31=.int .i64 (((x5.1).length:Int))∧e 32=.int .i64 (o0)) (fun Q' hQ=>?_) (fun tK eL hR=>?_)
     ·replace h := hx
      clear hx
      refine Zr ?_
      refine Zf (Za ?_)
      obtain ⟨nB,yD,h⟩:=Ge h
      refine Ga (ePtr l5 o0 1) (Zh (α:=Str) Try.underlying50 Try.sizeOf9 mC bA iA yD) rfl ?_
      have vI:=PT_idx bA yD
      refine Ze .plain rfl (D_load (g:=uD) Try.isAgg9 Try.sizeOf9 rfl vI fun gL yI=>?_)
      obtain rfl:=RV_str.1 yI
      refine Zg (Str.v (nB)) rfl rfl ?_
      refine Zb (Zd (Zf (Za (Zg (.slice none 0 0) rfl rfl ?_))))
      refine Zb (Zd ?_)
      obtain ⟨m8,hx,h⟩:=Ge h
      refine E_join (fun e w=>∃ (g:Gh) (d9:Value),Fr gI wI g w∧e 1=up1∧RV g.m w (x1:List Int) up1∧e 6=m7∧RV g.m w (g8:List Str) m7∧OS 1006 g w 9 (g8:List Str) m7∧e 12=d9∧RV g.m w (m8:List UInt8) d9∧OS 1012 g w 5 (m8:List UInt8) d9∧e 30=l5∧RV g.m w (x5.1:List Str) l5∧e 31=.int .i64 (((x5.1).length:Int))∧e 32=.int .i64 (o0)) (fun Q' hQ=>?_) (fun uK iL hR=>?_)
      ·replace h := hx
       clear hx
       refine Zf (Za (Zo iD rfl ?_))
       refine Ga (.int .i64 ((x1).length:Int)) (P_len Try.underlying26 rfl tB) rfl ?_
       refine Zn (.int .i64 (0)) rfl rfl ?_
       refine Zb (Zd (Zr ?_))
       refine E_lp h (fun (s:(List UInt8) × Int) e w=>∃ (g:Gh) (d9:Value),Fr gI wI g w∧e 1=up1∧RV g.m w (x1:List Int) up1∧e 6=m7∧RV g.m w (g8:List Str) m7∧OS 1006 g w 9 (g8:List Str) m7∧e 11=Str.v (nB)∧e 12=d9∧RV g.m w (s.1:List UInt8) d9∧OS 1012 g w 5 (s.1:List UInt8) d9∧e 30=l5∧RV g.m w (x5.1:List Str) l5∧e 31=.int .i64 (((x5.1).length:Int))∧e 32=.int .i64 (o0)∧e 36=up1∧RV g.m w (x1:List Int) up1∧e 37=.int .i64 (((x1).length:Int))∧e 38=.int .i64 (s.2)) ⟨uD,(.slice none 0 0),hfr,iD,tB,jD,lD,nD,rfl,rfl,RV_nil,OS.nil,mC,bA,qC,iA,rfl,tB,rfl,rfl⟩ (fun X235 bG lI=>?_)
       rintro ⟨l9,i6⟩ vK jL ⟨cD,aE,hfr,vB,x6,yB,y6,i7,rA,yA,k8,l8,aB,t5,dB,iB,lB,u3,mB,n9⟩ h
       refine Zf (Za (EL_in (.bool ((decide (i6 < ((x1).length:Int))))) n9 mB rfl rfl ?_))
       refine Zb (Zd (Zf ?_))
       rcases Zt h with ⟨eD,h⟩ | ⟨eD,h⟩
       ·refine E_ct eD rfl ?_
        refine Zu (Zd ?_)
        obtain ⟨n8,hx,h⟩:=Ge h
        refine E_join (fun e w=>∃ (g:Gh) (d9:Value),Fr gI wI g w∧e 1=up1∧RV g.m w (x1:List Int) up1∧e 6=m7∧RV g.m w (g8:List Str) m7∧OS 1006 g w 9 (g8:List Str) m7∧e 11=Str.v (nB)∧e 12=d9∧RV g.m w (n8:List UInt8) d9∧OS 1012 g w 5 (n8:List UInt8) d9∧e 30=l5∧RV g.m w (x5.1:List Str) l5∧e 31=.int .i64 (((x5.1).length:Int))∧e 32=.int .i64 (o0)∧e 36=up1∧RV g.m w (x1:List Int) up1∧e 37=.int .i64 (((x1).length:Int))∧e 38=.int .i64 (i6)) (fun Q' hQ=>?_) (fun xK lL hR=>?_)
        ·replace h := hx
         clear hx
         refine Zr ?_
         refine Zf (Za ?_)
         obtain ⟨u9,zD,h⟩:=Ge h
         refine Ga (ePtr up1 i6 1) (Zh (α:=Int) Try.underlying26 Try.sizeOf3 lB u3 n9 zD) rfl ?_
         have zI:=PT_idx u3 zD
         refine Ze .plain rfl (D_load (g:=cD) Try.isAgg3 Try.sizeOf3 rfl zI fun mL eJ=>?_)
         obtain rfl:=Zj.1 eJ
         refine Zg (.int .i64 (u9)) rfl rfl ?_
         refine Zb (Zd (Zf (Za (Zn (.int .i64 (u9)) rfl rfl ?_))))
         refine EL_in (.bool ((u9 == (-1:Int)))) rfl rfl rfl rfl ?_
         refine Zb (Zd ?_)
         rcases Zt h with ⟨gD,h⟩ | ⟨gD,h⟩
         ·refine E_ct gD rfl ?_
          refine Za (Zo yA rfl ?_)
          refine Ze .plain rfl (D_buildSlice (g:=cD) 3045 (xs:=([(46:UInt8)]:List UInt8)) (vs:=[.int .u8 (UInt8.toNat 46)]) Try.underlying22 Try.sizeOf5 Try.zeroValue5 rfl rfl (.cons rfl .nil) (RVs.cons (RV_u8.2 rfl) RVs.nil) rfl rfl fun gJ nL oL hs o253 iJ hxt hfl=>?_)
          have hfr:=hfr.stp hs
          have x6:=x6.stp hs
          have y6:=y6.stp hs
          have i7:=i7.stp hs rfl
          have k8:=k8.stp hs
          have l8:=l8.stp hs rfl
          have t5:=t5.stp hs
          have u3:=u3.stp hs
          obtain ⟨cG,mI,h⟩:=Ge h
          refine Ze .plain rfl (D_append (g:=gJ) (i:=1012) Try.underlying22 info_5 rfl rfl l8 k8 rfl iJ mI fun jJ pL iG hs o254 kJ _=>?_)
          have hfr:=hfr.stp hs
          have x6:=x6.stp hs
          have y6:=y6.stp hs
          have i7:=i7.stp hs rfl
          have t5:=t5.stp hs
          have u3:=u3.stp hs
          refine Zg iG rfl rfl ?_
          refine Zb (blk_n ?_)
          obtain rfl:=sinj h
          exact hQ _ _ ⟨jJ,(iG),hfr,vB,x6,yB,y6,i7,rA,rfl,kJ,o254,aB,t5,dB,iB,lB,u3,mB,n9⟩
         ·refine E_cf gD rfl ?_
          refine Za (Zo yA rfl ?_)
          refine Zo rA rfl ?_
          refine Zn (.int .i64 (u9)) rfl rfl ?_
          obtain ⟨oB,nI,h⟩:=Ge h
          refine Ga (.int .u8 (UInt8.toNat (oB))) (P_indexS Try.underlying9 rfl rfl nI) rfl ?_
          refine Ze .plain rfl (D_buildSlice (g:=cD) 3051 (xs:=([oB]:List UInt8)) (vs:=[.int .u8 (UInt8.toNat (oB))]) Try.underlying22 Try.sizeOf5 Try.zeroValue5 rfl rfl (.cons rfl .nil) (RVs.cons (RV_u8.2 rfl) RVs.nil) rfl rfl fun lJ qL rL hs o257 mJ hxt hfl=>?_)
          have hfr:=hfr.stp hs
          have x6:=x6.stp hs
          have y6:=y6.stp hs
          have i7:=i7.stp hs rfl
          have k8:=k8.stp hs
          have l8:=l8.stp hs rfl
          have t5:=t5.stp hs
          have u3:=u3.stp hs
          obtain ⟨eG,pI,h⟩:=Ge h
          refine Ze .plain rfl (D_append (g:=lJ) (i:=1012) Try.underlying22 info_5 rfl rfl l8 k8 rfl mJ pI fun nJ tL jG hs o258 oJ _=>?_)
          have hfr:=hfr.stp hs
          have x6:=x6.stp hs
          have y6:=y6.stp hs
          have i7:=i7.stp hs rfl
          have t5:=t5.stp hs
          have u3:=u3.stp hs
          refine Zg jG rfl rfl ?_
          refine Zb (blk_n ?_)
          obtain rfl:=sinj h
          exact hQ _ _ ⟨nJ,(jG),hfr,vB,x6,yB,y6,i7,rA,rfl,oJ,o258,aB,t5,dB,iB,lB,u3,mB,n9⟩
        ·clear hx
         obtain ⟨pJ,bE,hfr,kG,lG,mG,sG,xG,iE,lE,mE,oE,rE,uE,vE,xE,yE,zE,cF,dF⟩:=hR
         refine Za (EL_in (.int .i64 ((w64 (i6 + (1:Int))))) dF rfl rfl rfl ?_)
         refine Zn (.int .i64 ((w64 (i6 + (1:Int))))) rfl rfl ?_
         exact Zb (Zd (lI (n8,(w64 (i6 + (1:Int)))) _ _ ⟨pJ,(bE),hfr,kG,lG,mG,sG,xG,iE,lE,mE,oE,rE,uE,vE,xE,yE,zE,cF,rfl⟩ h))
       ·refine E_cf eD rfl ?_
        refine E_exit ?_
        refine thn_e ?_
        refine thn_e ?_
        refine blk_hit ?_
        obtain rfl:=sinj h
        exact hQ _ _ ⟨cD,(aE),hfr,vB,x6,yB,y6,i7,yA,k8,l8,aB,t5,dB,iB⟩
      ·clear hx
       obtain ⟨qJ,zJ,hfr,yG,k9,zG,zB,cC,eF,rF,aK,sF,x8,tF,uF⟩:=hR
       refine Za (Zo zG rfl ?_)
       refine Zo eF rfl ?_
       refine Ze .plain rfl (D_convBSr Try.underlying22 Try.underlying9 Try.underlying5 rfl rF ?_)
       refine Ze .plain rfl (D_buildSlice (g:=qJ) 3057 (xs:=([(⟨m8⟩:Str)]:List Str)) (vs:=[Str.v (⟨m8⟩:Str)]) Try.underlying50 Try.sizeOf9 Try.zeroValue9 rfl rfl (.cons rfl .nil) (RVs.cons (RV_str.2 rfl) RVs.nil) rfl rfl fun rJ uL vL hs o262 sJ hxt hfl=>?_)
       have hfr:=hfr.stp hs
       have k9:=k9.stp hs
       have zB:=zB.stp hs
       have cC:=cC.stp hs rfl
       have x8:=x8.stp hs
       obtain ⟨gG,qI,h⟩:=Ge h
       refine Ze .plain rfl (D_append (g:=rJ) (i:=1006) Try.underlying50 info_9 rfl rfl cC zB rfl sJ qI fun vJ xL aH hs o263 xJ _=>?_)
       have hfr:=hfr.stp hs
       have k9:=k9.stp hs
       have x8:=x8.stp hs
       refine Zg aH rfl rfl ?_
       refine Zb (blk_n ?_)
       obtain rfl:=sinj h
       exact hQ _ _ ⟨vJ,(aH),hfr,yG,k9,rfl,xJ,o263,sF,x8,tF,uF⟩
     ·clear hx
      obtain ⟨yJ,cH,hfr,dH,gH,iH,jH,kH,vF,xF,yF,zF⟩:=hR
      refine Za (EL_in (.int .i64 ((w64 (o0 + (1:Int))))) zF rfl rfl rfl ?_)
      refine Zn (.int .i64 ((w64 (o0 + (1:Int))))) rfl rfl ?_
      exact Zb (Zd (kI (a9,(w64 (o0 + (1:Int)))) _ _ ⟨yJ,(cH),hfr,dH,gH,iH,jH,kH,vF,xF,yF,rfl⟩ h))
    ·refine E_cf bD rfl ?_
     refine E_exit ?_
     refine thn_e ?_
     refine thn_e ?_
     refine blk_hit ?_
     obtain rfl:=sinj h
     exact hQ _ _ ⟨uD,(m7),hfr,jD,lD,nD⟩
   ·clear hx
    obtain ⟨yL,oD,hfr,lH,mH,oK⟩:=hR
    refine Zf (Za (Zo lH rfl ?_))
    refine Zg oD rfl rfl ?_
    refine Zg (.int .i64 (0)) rfl rfl ?_
    refine Zb (Zd (E_ret ?_))
    obtain rfl:=sinj h
    exact end2 rfl rfl (show _=oD from rfl) (show _=.int .i64 (0) from rfl) ⟨_,hfr,_,_,rfl,mH,rfl⟩
theorem v92_0 {iO:Nat} {gI:Gh} {wI:World} {x0:List Bool} {x1:Int} {up0:Value} (rp0:RV gI.m wI x0 up0) {r:(List Bool)} (h:f92 x0 x1=some r):FnG Try.prog 92 #[up0,.int .i64 (x1)] gI wI (fun g w v=>OM iO g w 4 (r) v):=by
 unfold f92 at h
 refine fnG_of_E Try.func92 rfl (Nat.le_of_ble_eq_true rfl) fun g0 hm hfr=>?_
 have rp0:RV g0.m wI x0 up0:=hm ▸ rp0
 show E _ 48 none _ _ _ _ _
 refine Zf (Za (Zg (.slice none 0 0) rfl rfl ?_))
 have b1:OA 4004 g0 wI 4 ([]:List Bool) (.slice none 0 0):=OA.nil
 refine Zb (Zd ?_)
 obtain ⟨_,hx,h⟩:=Ge h
 refine E_join (fun e w=>∃ (g:Gh) ,Fr gI wI g w∧e 0=up0∧RV g.m w (x0:List Bool) up0∧e 1=.int .i64 (x1)) (fun Q' hQ=>?_) (fun vC w4 hR=>?_)
 ·replace h := hx
  clear hx
  refine Zf (Za (Zn (.int .i64 (x1)) rfl rfl ?_))
  refine EL_in (.bool ((decide (x1 < (0:Int))))) rfl rfl rfl rfl ?_
  refine Zb (Zd ?_)
  rcases Zt h with ⟨hc3,h⟩ | ⟨hc3,h⟩
  ·refine E_ct hc3 rfl ?_
   refine Za ?_
   cases h
  ·refine E_cf hc3 rfl ?_
   refine Zu ?_
   obtain rfl:=sinj h
   exact hQ _ _ ⟨g0,hfr,rfl,rp0,rfl⟩
 ·clear hx
  obtain ⟨g4,hfr,l8,m8,aB⟩:=hR
  refine Zf (Za (Zo l8 rfl ?_))
  refine Ga (.int .i64 ((x0).length:Int)) (P_len Try.underlying88 rfl m8) rfl ?_
  refine Ga (.int .u64 (wu64 ((x0).length:Int))) (P_intu64 Try.underlying3 Try.underlying95 rfl) rfl ?_
  refine Zo aB rfl ?_
  refine Ga (.int .u64 (wu64 x1)) (P_intu64 Try.underlying3 Try.underlying95 rfl) rfl ?_
  obtain ⟨y5,hy5,h⟩:=Ge h
  refine Ze .plain rfl (D_mulU en168 mul_ok rfl rfl hy5 ?_)
  refine Zn (.tuple #[.int .u64 y5.1,.int .u64 y5.2]) rfl rfl ?_
  refine Ga (.int .u64 y5.1) (Zi rfl rfl) rfl ?_
  refine Ga (.int .u64 y5.2) (Zi rfl rfl) rfl ?_
  refine Zg (.int .u64 y5.1) rfl rfl ?_
  refine Zg (.int .u64 y5.2) rfl rfl ?_
  refine Zb (Zd ?_)
  obtain ⟨_,hx,h⟩:=Ge h
  refine E_join (fun e w=>∃ (g:Gh) ,Fr gI wI g w∧e 0=up0∧RV g.m w (x0:List Bool) up0∧e 6=.int .u64 y5.2) (fun Q' hQ=>?_) (fun cC aD hR=>?_)
  ·replace h := hx
   clear hx
   obtain ⟨i6,hx,h⟩:=Ge h
   refine E_join (fun e w=>∃ (g:Gh) ,Fr gI wI g w∧e 0=up0∧RV g.m w (x0:List Bool) up0∧e 6=.int .u64 y5.2∧e 26=.bool (i6)) (fun Q' hQ=>?_) (fun mC bD hR=>?_)
   ·replace h := hx
    clear hx
    refine Za (Zn (.int .u64 y5.1) rfl rfl ?_)
    refine Ga (.bool (decide (y5.1 > (0:Int)))) (P_u64cmp rfl rfl rfl) rfl ?_
    refine Zn (.bool (decide (y5.1 > (0:Int)))) rfl rfl ?_
    rcases Zt h with ⟨l5,h⟩ | ⟨l5,h⟩
    ·refine Gc rfl rfl l5 rfl rfl ?_
     refine Gc rfl rfl l5 rfl rfl ?_
     refine Ga (.bool true) (Zl (b:=(decide (y5.1 > (0:Int)))) rfl (pick_t l5 rfl)) rfl ?_
     refine Zb ?_
     obtain rfl:=sinj h
     exact hQ _ _ ⟨g4,hfr,l8,m8,rfl,rfl⟩
    ·refine Gb (.int .u64 y5.2) (Zk rfl) rfl rfl l5 rfl ?_
     refine Gb (.bool (decide (y5.2 > (9223372036854775807:Int)))) (P_u64cmp rfl rfl rfl) rfl rfl l5 rfl ?_
     refine Ga (.bool (decide (y5.2 > (9223372036854775807:Int)))) (Zl (b:=(decide (y5.1 > (0:Int)))) rfl (pick_f l5 rfl)) rfl ?_
     refine Zb ?_
     obtain rfl:=sinj h
     exact hQ _ _ ⟨g4,hfr,l8,m8,rfl,rfl⟩
   ·clear hx
    obtain ⟨mB,hfr,k9,l9,n9,k8⟩:=hR
    rcases Zt h with ⟨n8,h⟩ | ⟨n8,h⟩
    ·refine E_cond_true (Eq.trans (show ev _ _ = .bool (i6) from k8) (congrArg Value.bool n8)) ?_
     refine Za ?_
     cases h
    ·refine E_cond_false (Eq.trans (show ev _ _ = .bool (i6) from k8) (congrArg Value.bool n8)) ?_
     refine Zu ?_
     obtain rfl:=sinj h
     exact hQ _ _ ⟨mB,hfr,k9,l9,n9⟩
  ·clear hx
   obtain ⟨nB,hfr,u9,x6,y9⟩:=hR
   refine Zf (Za (Zo y9 rfl ?_))
   refine Ga (.int .i64 ((w64 y5.2))) (P_u64int Try.underlying95 Try.underlying3 rfl) rfl ?_
   obtain ⟨oB,dB,h⟩:=Ge h
   refine Ze .plain rfl (D_makeSliceM (g:=nB) 9030 (false:Bool) rfl Try.underlying88 info_4 rfl (fun _ _=>rfl) rfl rfl dB fun tB cD u3 hs b16=>?_)
   have hfr:=hfr.stp hs
   have x6:=x6.stp hs
   refine Zg u3 rfl rfl ?_
   refine Zb (Zd (Zf (Za (Zn u3 rfl rfl ?_))))
   refine Zo u9 rfl ?_
   refine Ze .plain rfl (D_copyM (g:=tB) (α:=Bool) Try.underlying88 info_4 rfl b16 rfl x6 fun vB eD hs b17=>?_)
   have hfr:=hfr.stp hs
   refine Zg (.int .i64 ((min (x0).length (oB).length:Nat):Int)) rfl rfl ?_
   refine Zb (Zd ?_)
   obtain ⟨z9,hx,h⟩:=Ge h
   refine E_join (fun e w=>∃ (g:Gh) ,Fr gI wI g w∧e 7=u3∧OM 9030 g w 4 (z9:List Bool) u3) (fun Q' hQ=>?_) (fun qC gD hR=>?_)
   ·replace h := hx
    clear hx
    refine Zr ?_
    refine E_lp h (fun (s:(List Bool) × Int) e w=>∃ (g:Gh) ,Fr gI wI g w∧e 7=u3∧OM 9030 g w 4 (s.1:List Bool) u3∧e 8=.int .i64 (s.2)) ⟨vB,hfr,rfl,b17,rfl⟩ (fun X30 iD iB=>?_)
    rintro ⟨t5,o0⟩ rC jD ⟨rA,hfr,y6,i7,v8⟩ h
    refine Zq h (fun (s:Unit) e w=>∃ (g:Gh) ,Fr gI wI g w∧e 7=u3∧OM 9030 g w 4 (t5:List Bool) u3∧e 8=.int .i64 (o0)) (fun X33 k33 lB h=>?_) ?_
    ·refine Zf (Za (Zo v8 rfl ?_))
     refine Zo y6 rfl ?_
     refine Ga (.int .i64 ((t5).length:Int)) (P_lenM Try.underlying88 rfl i7) rfl ?_
     refine EL_in (.bool ((decide (o0 < ((t5).length:Int))))) rfl rfl rfl rfl ?_
     refine Zb (Zd ?_)
     rcases Zt h with ⟨r8,h⟩ | ⟨r8,h⟩
     ·refine E_ct r8 rfl ?_
      exact Zu (Zd (lB () _ _ ⟨rA,hfr,y6,i7,v8⟩ h))
     ·refine E_cf r8 rfl ?_
      refine E_exit ?_
      refine thn_e ?_
      refine thn_e ?_
      refine blk_hit ?_
      obtain rfl:=sinj h
      exact hQ _ _ ⟨rA,hfr,y6,i7⟩
    ·rintro _ uC yB ⟨yA, hfr, m7, x5, g8⟩ h
     refine Zr ?_
     obtain ⟨x8,a9,h⟩:=Ge h
     obtain ⟨y40,d9,h⟩:=Ge h
     refine E_drawC (g:=yA) (w:=yB) (n:=8) [0,1,2,3,4,5,6] [] [0,1,2,3,4,5,6,7] rfl mixed (by kernel_rfl) fun w_c38 hs hlt=>?_
     have hfr:=hfr.ext hs
     have x5:=x5.ext hs
     clear hs
     refine CH_pur (c:=.int .i64 (o0)) rfl rfl .plain (Zk g8) ?_
     refine CH_pur (c:=u3) rfl rfl .plain (Zk m7) ?_
     refine CH_pur (c:=.int .i64 (o0)) rfl rfl .plain (Zk g8) ?_
     refine CH_pur (c:=(cutV u3 (Int.toNat o0) (Int.toNat ((t5).length:Int)) 1)) rfl rfl .plain (P_cutM (α:=Bool) Try.underlying88 Try.sizeOf4 rfl (OM.hdr x5) rfl rfl a9) ?_
     refine CH_pur (c:=u3) rfl rfl .plain (Zk m7) ?_
     refine CH_pur (c:=.int .i64 (o0)) rfl rfl .plain (Zk g8) ?_
     refine CH_pur (c:=(cutV u3 0 (Int.toNat o0) 1)) rfl rfl .plain (P_cutM (α:=Bool) Try.underlying88 Try.sizeOf4 rfl (OM.hdr x5) rfl rfl d9) ?_
     refine CH_do rfl rfl .plain (D_copyMM (g:=yA) (α:=Bool) Try.underlying88 info_4 rfl x5 rfl a9 d9 fun zB lD hs b41=>?_)
     have hfr:=hfr.stp hs
     have hlt:=hlt.stp hs
     refine ⟨hlt.toW,?_⟩
     refine CH_nil ?_
     clear hlt
     refine Ga (.int .i64 ((w64 (o0 + ((min (y40).length (x8).length:Nat):Int))))) (P_int rfl rfl rfl) rfl ?_
     refine Ga (.int .i64 ((w64 (o0 + ((min (y40).length (x8).length:Nat):Int))))) (P_assign rfl) rfl ?_
     exact Zb (blk_n (Zd (iB ((cpy t5 o0 x8 y40),(w64 (o0 + ((min (y40).length (x8).length:Nat):Int)))) _ _ ⟨zB,hfr,m7,b41,rfl⟩ h)))
   ·clear hx
    obtain ⟨nD,hfr,bA,iA⟩:=hR
    refine Zf (Za (Zo bA rfl ?_))
    refine Zg u3 rfl rfl ?_
    refine Zb (Zd (E_ret ?_))
    obtain rfl:=sinj h
    obtain ⟨gh,hxh,hmh,homh⟩:=OM.handM (i:=iO) hfr iA
    exact end1 rfl rfl (show _=u3 from rfl) ⟨gh,hxh,homh⟩
def f35 (x0:TieHarness) (x1:List Int):Option ((List Int) × (List Int) × Int):=
 jn (σ:=(List Int)) (fun xG=>
  (f71 x1).bind fun nH=>
  Option.bind (α:=(List Int) × (List (Int × Bool))) (
   (f98 x1).bind fun mI=>
   (mI ((List Int) × (List (Int × Bool))) (fun (cD,u9) (g8,r8)=>
    Option.bind (α:=Bool) (
     (f99 ((⟨x0,x1⟩:EyeBoard)) g8).bind fun mE=>
     bif mE then
      some ((!((mget u9 r8).getD (false:Bool))))
     else
      some (false)
     ) fun aB=>
    bif aB then
     some (true,(cD,(mset u9 r8 true)))
    else
     (apnd 8 cD (([g8]:List Int))).bind fun y130=>
     some (true,(y130,u9))
    ) (xG,([]:List (Int × Bool)))).bind fun (oH,pH)=>
   some (oH,pH)
   ) fun (oE,rE)=>
  (f100 oE).bind fun y137=>
  Option.bind (α:=(List Int)) (
   lp (σ:=(List Int) × (List (Int × Bool)) × Int) (fun yJ (uE,qH,l5)=>
    bif (decide (l5 < ((y137).length : Int))) then
     Option.bind (α:=(List Int) × (List (Int × Bool))) (
      (idx y137 l5).bind fun y324=>
      lp (σ:=(List Int) × (List (Int × Bool)) × Int) (fun zJ (y9,v8,u3)=>
       bif (decide (u3 < (((x0).Warps).length : Int))) then
        jn (σ:=(List Int) × (List (Int × Bool))) (fun (vE,xE)=>
         zJ (vE,xE,(w64 (u3 + (1:Int))))
         ) fun aK=>
        (idx ((x0).Warps) u3).bind fun cC=>
        Option.bind (α:=Bool) (
         (idx ((x0).Warps) y324).bind fun tD=>
         bif (cC == tD) then
          some ((!((mget v8 u3).getD (false:Bool))))
         else
          some (false)
         ) fun dB=>
        bif dB then
         (idx y9 y324).bind fun kO=>
         some ((List.set y9 (Int.toNat y324) u3),(mset v8 u3 true))
        else
         aK (y9,v8)
       else
        some (y9,v8)
       ) big (uE,qH,(0:Int))
      ) fun (eD,gD)=>
     yJ (eD,gD,(w64 (l5 + (1:Int))))
    else
     some (uE)
    ) big (nH,rE,(0:Int))
   ) fun yE=>
  some (y137,yE,(0:Int))
  ) fun aO=>
 (f86 x0 x1).bind fun iD=>
 bif (iD != (0 : Int)) then
  some ([],([]:List Int),iD)
 else
  aO (([]:List Int))
theorem en35:Enters Try.prog 35:=enters_of Try.func35 (by kernel_rfl) rfl
theorem wk35 {gI:Gh} {wI:World} {x0:TieHarness} {x1:List Int} {up0:Value} (rp0:RV gI.m wI x0 up0) {up1:Value} (rp1:RV gI.m wI x1 up1) {r:(List Int) × (List Int) × Int} (h:f35 x0 x1=some r):Fn Try.prog 35 #[up0,up1] gI wI (fun m w v=>∃ y0 y1 y2,v=.tuple #[y0,y1,y2]∧RV m w (r.1) y0∧RV m w (r.2.1) y1∧y2=.int .i64 (r.2.2)):=by
 unfold f35 at h
 refine fnD_of_E Try.func35 rfl (Nat.le_of_ble_eq_true rfl) fun g0 hm hfr=>?_
 have hmk:MkF g0 wI []:=MkF.start
 have rp0:RV g0.m wI x0 up0:=hm ▸ rp0
 have rp1:RV g0.m wI x1 up1:=hm ▸ rp1
 show E _ 86 none _ _ _ _ _
 refine Zf (Za (Ze .plain rfl (D_box (g:=g0) rfl rp0 fun g1 w1 p1 hs q1=>?_)))
 have hfr:=hfr.ext hs
 have hmk:=hmk.ext hs
 have rp1:=rp1.ext hs
 refine Ze .plain rfl (D_allocOc (g:=g1) 2004 (⟨.slice none 0 0,rfl⟩:Fv) Try.zeroValue26 (fun _ _=>fv0_rep) fun g2 w2 p2 hs b2 cb=>?_)
 clear cb
 have hfr:=hfr.stp hs
 have hmk:=hmk.stp hs
 have rp1:=rp1.stp hs
 have q1:=q1.stp hs
 have z2:OA 4004 g2 w2 3 ([]:List Int) (.slice none 0 0):=OA.nil
 refine Zg (.slice none 0 0) rfl rfl ?_
 have b3:OA 4005 g2 w2 3 ([]:List Int) (.slice none 0 0):=OA.nil
 refine Zg (.int .i64 (0)) rfl rfl ?_
 refine Zb (Zd (E_joinCD h (fun (s:(List Int)) e ds w=>∃ (g:Gh) ,Fr gI wI g w∧MkF g w ds∧e 1=up1∧RV g.m w (x1:List Int) up1∧e 2=p1∧PT g.m w (x0:TieHarness) p1∧e 4=p2∧BXA 2004 4004 g w 3 26 (s:List Int) p2) (fun X13 aO lO h=>?_) ?_))
 ·refine Zf (Za (Ze .plain rfl (D_load (g := g2) Try.isAgg28 Try.sizeOf28 rfl q1 fun tP uP => ?_)))
  refine Zn up1 rfl rfl ?_
  obtain ⟨iD,mO,h⟩:=Ge h
  refine Ze .plain rfl (Zp (g:=g2) (vs:=[tP,up1]) en86 (.cons rfl (.cons rfl .nil)) (wk86 uP rp1 mO) fun bO pR mT hs hr=>?_)
  have hfr:=hfr.ext hs
  have hmk:=hmk.ext hs
  have rp1:=rp1.ext hs
  have q1:=q1.ext hs
  have b2:=b2.ext hs
  have z2:=z2.ext hs
  subst hr
  refine Zg (.int .i64 (iD)) rfl rfl ?_
  refine Zb (Zd (Zf (Za (Zn (.int .i64 (iD)) rfl rfl ?_))))
  refine EL_in (.bool ((iD != (0:Int)))) rfl rfl rfl rfl ?_
  refine Zb (Zd ?_)
  rcases Zt h with ⟨kI,h⟩ | ⟨kI,h⟩
  ·refine E_ct kI rfl ?_
   refine Zf (Za (Zn (.int .i64 (iD)) rfl rfl ?_))
   refine Ze .plain rfl (D_storeO2 (g:=bO) (α:=Fv) (b:=([]:List Int)) rfl Try.sizeOf26 rfl b2 rfl RV_nil fun vP xP hs b18=>?_)
   have hfr:=hfr.stp hs
   have hmk:=hmk.stp hs
   refine Zg (.slice none 0 0) rfl rfl ?_
   have b19:OA 4005 vP xP 3 ([]:List Int) (.slice none 0 0):=OA.nil
   refine Zg (.int .i64 (iD)) rfl rfl ?_
   refine Zb (Zd (E_ret (thn_r ?_)))
   refine endM (.inr rfl) hmk fun nT oT hs=>?_
   have hfr:=hfr.stp hs
   have b18:=b18.stp hs rfl
   have b19:=b19.stp hs rfl
   obtain ⟨gp21,hs,rp21⟩:=OM.pub (b19.toM)
   have hfr:=hfr.stp hs
   have b18:=b18.stp hs rfl
   obtain rfl:=sinj h
   obtain ⟨ad22,cv22,hp22,nO,cr22⟩:=ob_read Try.isAgg26 Try.sizeOf26 b18
   exact endm_ctt rfl rfl ((show _=p2 from rfl).trans hp22) nO (show _=.slice none 0 0 from rfl) (show _=.int .i64 (iD) from rfl) ⟨_,hfr,_,_,_,rfl,cr22,rp21,rfl⟩
  ·refine E_cf kI rfl ?_
   exact Zu (Zd (lO (([]:List Int)) _ _ _ ⟨bO,hfr,hmk,rfl,rp1,rfl,q1,rfl,⟨_,b2,z2⟩⟩ h))
 ·rintro xG qR yG pT ⟨bK, hfr, hmk, zG, x5, lE, i6, aH, ⟨zQ, x6, y6⟩⟩ h
  refine Zf (Za (Ze .plain rfl (D_load (g:=bK) Try.isAgg28 Try.sizeOf28 lE i6 fun cK cO=>?_)))
  refine Zo zG rfl ?_
  have iE:RV bK.m _ (⟨x0,x1⟩:EyeBoard) (.agg (setCh [[.int .i64 0,.slice none 0 0],[.slice none 0 0]] [(0,cK),(1,up1)]).flatten.toArray):=RV_build rfl (rep_pair (RV.cells cO) (rep_last (RV.cells x5)))
  generalize oO:(Value.agg (setCh [[.int .i64 0,.slice none 0 0],[.slice none 0 0]] [(0,cK),(1,up1)]).flatten.toArray)=dO at iE
  refine Ga dO (oO ▸ P_build (vs:=[(0,cK),(1,up1)]) [[.int .i64 0,.slice none 0 0],[.slice none 0 0]] lay_202 rfl rfl (.cons rfl (.cons rfl .nil)) ⟨⟨_,rfl,cells_size cO⟩,⟨⟨_,rfl,cells_size x5⟩,trivial⟩⟩) rfl ?_
  refine Ze .plain rfl (D_makeMap (g:=bK) (Value.int .i64) Bool 8025 fun yP sT eO hs m26=>?_)
  have hfr:=hfr.stp hs
  have hmk:=hmk.stp hs
  have x5:=x5.stp hs
  have i6:=i6.stp hs
  have x6:=x6.stp hs rfl
  have y6:=y6.stp hs rfl
  have iE:=iE.stp hs
  refine Ze .plain rfl (D_allocOc (g:=yP) 2008 (⟨⟨0,[]⟩,[]⟩:EyeBoard) Try.zeroValue202 (fun m w=>⟨_,(rep_two (rep_two Zy rep_nil) rep_nil),rfl⟩) fun dK gO sH hs b27 cb=>?_)
  have hfr:=hfr.stp hs
  have hmk:=hmk.stp hs
  have x5:=x5.stp hs
  have i6:=i6.stp hs
  have x6:=x6.stp hs rfl
  have y6:=y6.stp hs rfl
  have iE:=iE.stp hs
  have m26:=m26.stp hs rfl
  have aR:OSF 2008 60801 1 dK gO 3 202 ([]:List Int) sH:=cb.osf (by rfl)
  have bR:OSF 2008 60802 2 dK gO 3 202 ([]:List Int) sH:=cb.osf (by rfl)
  clear cb
  refine Ze .plain rfl (D_allocOc (g:=dK) 2009 (⟨.map none,rfl⟩:Fv) Try.zeroValue203 (fun _ _=>fvm_rep) fun zP tT z9 hs b28 cb=>?_)
  clear cb
  have hfr:=hfr.stp hs
  have hmk:=hmk.stp hs
  have x5:=x5.stp hs
  have i6:=i6.stp hs
  have x6:=x6.stp hs rfl
  have y6:=y6.stp hs rfl
  have iE:=iE.stp hs
  have m26:=m26.stp hs rfl
  have b27:=b27.stp hs rfl
  refine Ze .plain rfl (D_storeOc (g:=zP) (v:=dO) Try.sizeOf202 rfl b27 rfl iE fun bQ w29 hs b29 cb=>?_)
  clear cb
  have hfr:=hfr.stp hs
  have hmk:=hmk.stp hs
  have x5:=x5.stp hs
  have i6:=i6.stp hs
  have x6:=x6.stp hs rfl
  have y6:=y6.stp hs rfl
  have m26:=m26.stp hs rfl
  have b28:=b28.stp hs rfl
  have on30:=mp_one m26
  refine Ze .plain rfl (D_storeOc (g:=bQ) (v:=eO) (a':=(⟨eO,on30⟩:Fv)) Try.sizeOf203 rfl b28 rfl (RV_fv.2 rfl) fun cQ uT hs b30 cb=>?_)
  clear cb
  have hfr:=hfr.stp hs
  have hmk:=hmk.stp hs
  have x5:=x5.stp hs
  have i6:=i6.stp hs
  have x6:=x6.stp hs rfl
  have y6:=y6.stp hs rfl
  have m26:=m26.stp hs rfl
  have b29:=b29.stp hs rfl
  refine Zb (Zd (Zf (Za (Zo zG rfl ?_))))
  obtain ⟨nH,pO,h⟩:=Ge h
  refine Ze .plain rfl (D_callG (g:=cQ) (vs:=[up1]) en71 (.cons rfl .nil) (v71_0 (iO:=9027) x5 pO) fun dQ rR k8 hs hr=>?_)
  have hfr:=hfr.ext hs
  have hmk:=hmk.ext hs
  have x5:=x5.ext hs
  have i6:=i6.ext hs
  have x6:=x6.ext hs
  have y6:=y6.ext hs
  have b29:=b29.ext hs
  have b30:=b30.ext hs
  have m26:=m26.ext hs
  have hm31:=hr
  refine Zg k8 rfl rfl ?_
  refine Zb (Zd ?_)
  obtain ⟨⟨oE,rE⟩,hx,h⟩:=Ge h
  refine E_joinD (fun e ds w=>∃ (g:Gh) ,Fr gI wI g w∧MkF g w ds∧e 2=p1∧PT g.m w (x0:TieHarness) p1∧e 4=p2∧BXA 2004 4004 g w 3 26 (oE:List Int) p2∧e 5=k8∧OM 9027 g w 3 (nH:List Int) k8∧e 9=z9∧BM (Value.int .i64) 2009 8025 g w 203 (rE:List (Int × Bool)) z9) (fun Q' hQ=>?_) (fun cR eQ tR hR=>?_)
  ·replace h := hx
   clear hx
   refine Zf (Za (Zo zG rfl ?_))
   obtain ⟨mI,qO,h⟩:=Ge h
   refine Ze .plain rfl (Zp (g:=dQ) (vs:=[up1]) en98 (.cons rfl .nil) (wk98 x5 qO) fun xT uR lK hs hr=>?_)
   have hfr:=hfr.ext hs
   have hmk:=hmk.ext hs
   have i6:=i6.ext hs
   have x6:=x6.ext hs
   have y6:=y6.ext hs
   have b29:=b29.ext hs
   have b30:=b30.ext hs
   have m26:=m26.ext hs
   have hm31:=hm31.ext hs
   have jO:=hr
   refine Zb (Zd (Zr ?_))
   have hB0:=hfr.size
   have hmk0:=hmk
   obtain ⟨⟨oH,pH⟩,hφ,h⟩:=Ge h
   refine E_rangeFunc (σ:=((List Int) × (List (Int × Bool)))) (s0:=(xG,([]:List (Int × Bool)))) 10 rfl (fun _=>0) [] (fun (s:(List Int) × (List (Int × Bool))) (g:Gh) (w:World)=>Fr gI wI g w∧MkF g w yG∧PT g.m w (x0:TieHarness) p1∧BXA 2004 4004 g w 3 26 (s.1:List Int) p2∧OM 9027 g w 3 (nH:List Int) k8∧OB 2008 g w 202 ((⟨x0,x1⟩:EyeBoard):EyeBoard) sH∧BM (Value.int .i64) 2009 8025 g w 203 (s.2:List (Int × Bool)) z9∧ItV Try.prog (RA2 (α:=Int) (β:=Int)) mI lK g.m w) rfl jO hφ (fun _ _ _ _=>rfl) rfl ra2_size rfl (fun _ _ _ _ _ hx hR=>by obtain ⟨hfr,hmk,z2,z3,z4,z5,z6,z7⟩:=hR; exact ⟨hfr.ist hx hB0,hmk.ist hx,z2.ist hx,z3.ist hx,z4.ist hx,z5.ist hx,z6.ist hx,z7.ist hx⟩) (fun _ _ _ _ _ hx hR=>by obtain ⟨hfr,hmk,z2,z3,z4,z5,z6,z7⟩:=hR; exact ⟨hfr.stp hx,hmk.stp hx,z2.stp hx,z3.stp hx rfl,z4.stp hx rfl,z5.stp hx rfl,z6.stp hx rfl,z7.stp hx⟩) ⟨hfr,hmk,i6,⟨_,x6,y6⟩,hm31,b29,⟨_,b30,m26⟩,jO⟩ (fun _ h=>by cases h) ?_ ?_
   ·intro rN mK s x b s2 cH nK vs hsz h hR hrec_0 tI hrd
    obtain ⟨cD,u9⟩:=s
    obtain ⟨hfr,hmk,iB,⟨zE,lB,mB⟩,nB,bA,⟨oK,iA,rA⟩,n9⟩:=hR
    obtain ⟨g8,r8⟩:=x
    obtain ⟨pK,qK,rfl,uI,vI⟩:=ra2_get hrd
    obtain rfl:pK=.int .i64 (g8):=Zj.1 uI
    obtain rfl:qK=.int .i64 (r8):=Zj.1 vI
    have t5:=RFr.refl cH nK
    refine Zf (Za (Zg (.int .i64 (g8)) rfl rfl ?_))
    refine Zb (Zd (Za (Zg (.int .i64 (r8)) rfl rfl ?_)))
    refine Zb (Zd ?_)
    obtain ⟨rO,hbr,hs,hrN⟩:=begin_round hrec_0 tI
    refine ⟨rO,hbr,?_⟩
    have hfr:=hfr.stp hs
    have hmk:=hmk.stp hs
    have t5:=t5.stp hs
    have iB:=iB.stp hs
    have lB:=lB.stp hs rfl
    have mB:=mB.stp hs rfl
    have nB:=nB.stp hs rfl
    have bA:=bA.stp hs rfl
    have iA:=iA.stp hs rfl
    have rA:=rA.stp hs rfl
    have n9:=n9.stp hs
    have hrec_0:=hrN
    clear hbr hs hrN
    refine Zr ?_
    obtain ⟨aB,hx,h⟩:=Ge h
    refine E_join (fun e w=>∃ (g:Gh) ,Fr gI wI g w∧MkF g w yG∧RFr cH nK g w∧HB 10 g w rN (.loop { mK with state:=.busy })∧e 2=p1∧PT g.m w (x0:TieHarness) p1∧e 4=p2∧BXAF 2004 4004 g w 3 26 zE zE.v (cD:List Int) p2∧e 5=k8∧OM 9027 g w 3 (nH:List Int) k8∧e 8=sH∧OB 2008 g w 202 ((⟨x0,x1⟩:EyeBoard):EyeBoard) sH∧e 9=z9∧BM (Value.int .i64) 2009 8025 g w 203 (u9:List (Int × Bool)) z9∧e 10=.int .i64 (g8)∧e 11=.int .i64 (r8)∧e 29=lK∧ItV Try.prog (RA2 (α:=Int) (β:=Int)) mI lK g.m w∧e 40=.bool (aB)) (fun Q' hQ=>?_) (fun dR vR hR=>?_)
    ·replace h := hx
     clear hx
     refine Za (Ze .plain rfl (D_loadO (g:=cH) Try.isAgg202 Try.sizeOf202 rfl bA fun sO tO=>?_))
     refine Zn (.int .i64 (g8)) rfl rfl ?_
     obtain ⟨mE,sN,h⟩:=Ge h
     refine Ze .plain rfl (Zp (g:=cH) (vs:=[sO,.int .i64 (g8)]) en99 (.cons rfl (.cons rfl .nil)) (wk99 tO sN) fun dH eR xR hs hr=>?_)
     have hfr:=hfr.ext hs
     have hmk:=hmk.ext hs
     have t5:=t5.ext hs
     have hrec_0:=hrec_0.ext hs
     have iB:=iB.ext hs
     have lB:=lB.ext hs
     have mB:=mB.ext hs
     have nB:=nB.ext hs
     have bA:=bA.ext hs
     have iA:=iA.ext hs
     have rA:=rA.ext hs
     have n9:=n9.ext hs
     subst hr
     refine Zn (.bool (mE)) rfl rfl ?_
     rcases Zt h with ⟨k9,h⟩ | ⟨k9,h⟩
     ·refine Ze (.yes2 rfl rfl k9) rfl (D_loadO (α := Fv) (g := dH) Try.isAgg203 Try.sizeOf203 rfl iA fun sK tK => ?_)
      have e121:sK=oK.v:=RV_fv.1 tK
      clear tK
      subst sK
      refine Gb (.int .i64 (r8)) (Zk rfl) rfl rfl k9 rfl ?_
      refine Ze (.yes2 rfl rfl k9) rfl (D_lookup (g:=dH) (z0:=(false:Bool)) Try.underlying203 key_3 Try.zeroValue4 (fun m w=>⟨_,rep_bool,rfl⟩) rfl rA rfl fun yR uO=>?_)
      obtain rfl:=RV_bool.1 uO
      refine Gb (.bool (!((mget u9 r8).getD (false:Bool)))) (P_not rfl) rfl rfl k9 rfl ?_
      refine Ga (.bool (!((mget u9 r8).getD (false:Bool)))) (Zl (b:=mE) rfl (pick_t k9 rfl)) rfl ?_
      refine Zb ?_
      obtain rfl:=sinj h
      exact hQ _ _ ⟨dH,hfr,hmk,t5,hrec_0,lE,iB,aH,⟨lB,mB⟩,rfl,nB,rfl,bA,rfl,⟨_,iA,rA⟩,rfl,rfl,rfl,n9,rfl⟩
     ·refine Gc rfl rfl k9 rfl rfl ?_
      iterate 3 refine Gc rfl rfl k9 rfl rfl ?_
      refine Ga (.bool false) (Zl (b:=mE) rfl (pick_f k9 rfl)) rfl ?_
      refine Zb ?_
      obtain rfl:=sinj h
      exact hQ _ _ ⟨dH,hfr,hmk,t5,hrec_0,lE,iB,aH,⟨lB,mB⟩,rfl,nB,rfl,bA,rfl,⟨_,iA,rA⟩,rfl,rfl,rfl,n9,rfl⟩
    ·clear hx
     obtain ⟨gH,hfr,hmk,t5,hrec_0,gQ,l8,tH,⟨x8,oB⟩,iQ,m8,jQ,n8,uK,⟨vK,m7,a9⟩,yI,zI,pP,i7,eG⟩:=hR
     rcases Zt h with ⟨iH,h⟩ | ⟨iH,h⟩
     ·refine E_cond_true (Eq.trans (show ev _ _ = .bool (aB) from eG) (congrArg Value.bool iH)) ?_
      refine Za (Ze .plain rfl (D_loadO (α:=Fv) (g:=gH) Try.isAgg203 Try.sizeOf203 uK m7 fun xK yK=>?_))
      have e125:xK=vK.v:=RV_fv.1 yK
      clear yK
      subst xK
      refine Zo zI rfl ?_
      refine Ze .plain rfl (D_mapUpdate (g:=gH) Try.underlying203 key_3 rfl a9 rfl rfl (RV_bool.2 rfl) fun zR aS hs m126=>?_)
      have hfr:=hfr.stp hs
      have hmk:=hmk.stp hs
      have t5:=t5.stp hs
      have hrec_0:=hrec_0.stp hs rfl
      have l8:=l8.stp hs
      have x8:=x8.stp hs rfl
      have oB:=oB.stp hs rfl
      have m8:=m8.stp hs rfl
      have n8:=n8.stp hs rfl
      have m7:=m7.stp hs rfl
      have i7:=i7.stp hs
      refine Zb (blk_n ?_)
      obtain ⟨rfl,rfl⟩:=pairs2 h
      exact ⟨_,t5,⟨hfr,hmk,l8,⟨_,x8,oB⟩,m8,n8,⟨_,m7,m126⟩,i7⟩,hrec_0,rfl,rfl⟩
     ·refine E_cond_false (Eq.trans (show ev _ _ = .bool (aB) from eG) (congrArg Value.bool iH)) ?_
      refine Za (Ze .plain rfl (D_loadO (α:=Fv) (g:=gH) Try.isAgg26 Try.sizeOf26 tH x8 fun zK aL=>?_))
      have e127:zK=zE.v:=RV_fv.1 aL
      clear aL
      subst zK
      refine Zo yI rfl ?_
      refine Ze .plain rfl (D_buildSlice (g:=gH) 3045 (xs:=([g8]:List Int)) (vs:=[.int .i64 (g8)]) Try.underlying26 Try.sizeOf3 Try.zeroValue3 rfl rfl (.cons rfl .nil) (RVs.cons (Zj.2 rfl) RVs.nil) rfl rfl fun vO bS cS hs o128 xO hxt hfl=>?_)
      have hfr:=hfr.stp hs
      have hmk:=hmk.stp hs
      have t5:=t5.stp hs
      have hrec_0:=hrec_0.stp hs rfl
      have l8:=l8.stp hs
      have x8:=x8.stp hs rfl
      have oB:=oB.stp hs rfl
      have m8:=m8.stp hs rfl
      have n8:=n8.stp hs rfl
      have m7:=m7.stp hs rfl
      have a9:=a9.stp hs rfl
      have i7:=i7.stp hs
      obtain ⟨y130,tN,h⟩:=Ge h
      refine Ze .plain rfl (D_appendA (g:=vO) plain_int (i:=4004) Try.underlying26 info_3 rfl rfl oB rfl xO tN fun yO dS bL hs b129=>?_)
      have hfr:=hfr.stp hs
      have hmk:=hmk.stp hs
      have t5:=t5.stp hs
      have hrec_0:=hrec_0.stp hs rfl
      have l8:=l8.stp hs
      have x8:=x8.stp hs rfl
      have m8:=m8.stp hs rfl
      have n8:=n8.stp hs rfl
      have m7:=m7.stp hs rfl
      have a9:=a9.stp hs rfl
      have i7:=i7.stp hs
      have on131:=om_one (b129.toM)
      refine Ze .plain rfl (D_storeOc (g:=yO) (v:=bL) (a':=(⟨bL,on131⟩:Fv)) Try.sizeOf26 tH x8 rfl (RV_fv.2 rfl) fun eS gS hs b131 cb=>?_)
      clear cb
      have hfr:=hfr.stp hs
      have hmk:=hmk.stp hs
      have t5:=t5.stp hs
      have hrec_0:=hrec_0.stp hs rfl
      have l8:=l8.stp hs
      have m8:=m8.stp hs rfl
      have n8:=n8.stp hs rfl
      have m7:=m7.stp hs rfl
      have a9:=a9.stp hs rfl
      have i7:=i7.stp hs
      have b129:=b129.stp hs rfl
      refine Zb (blk_n ?_)
      obtain ⟨rfl,rfl⟩:=pairs2 h
      exact ⟨_,t5,⟨hfr,hmk,l8,⟨_,b131,b129⟩,m8,n8,⟨_,m7,a9⟩,i7⟩,hrec_0,rfl,rfl⟩
   ·intro zO iS ds133 hsz hR hds
    obtain ⟨hfr,hmk,dL,⟨kQ,eL,gL⟩,iL,lQ,⟨mQ,jL,lL⟩,sP⟩:=hR
    obtain ⟨D,hdse,hD,hDb⟩:=hds.1 rfl
    subst hdse
    replace hmk:=MkF.push hmk0 hmk hD hDb
    clear hD hDb hds
    revert hmk
    generalize ({ target:=.collected D,args:=#[] } :: yG:List Deferred)=nQ
    intro hmk
    refine ⟨fun _=>?_,fun k c hs _=>absurd hs (Nat.succ_ne_zero k).symm⟩
    refine blk_n ?_
    obtain ⟨rfl,rfl⟩:=pairs2 h
    exact hQ _ _ _ ⟨zO,hfr,hmk,lE,dL,aH,⟨_,eL,gL⟩,rfl,iL,rfl,⟨_,jL,lL⟩⟩
  ·clear hx
   obtain ⟨mL,hfr,hmk,nL,cF,dF,⟨o0,mC,oL⟩,pL,eF,qL,⟨oQ,rF,sF⟩⟩:=hR
   refine Zf (Za (Ze .plain rfl (D_loadO (α:=Fv) (g:=mL) Try.isAgg26 Try.sizeOf26 dF mC fun rL tL=>?_)))
   have e135:rL=o0.v:=RV_fv.1 tL
   clear tL
   subst rL
   obtain ⟨y137,uN,h⟩:=Ge h
   refine Ze .plain rfl (D_callM (g:=mL) (i:=4004) (vs:=[o0.v]) en100 (.cons rfl .nil) (wk100 (oL.toM) uN) fun uL gR jS hs hr=>?_)
   obtain ⟨hrv,b136⟩:=hr
   have hfr:=hfr.stp hs
   have hmk:=hmk.stp hs
   have cF:=cF.stp hs
   have mC:=mC.stp hs rfl
   have eF:=eF.stp hs rfl
   have rF:=rF.stp hs rfl
   have sF:=sF.stp hs rfl
   subst hrv
   refine Zb (Zd ?_)
   obtain ⟨yE,hx,h⟩:=Ge h
   refine E_joinD (fun e ds w=>∃ (g:Gh) ,Fr gI wI g w∧MkF g w ds∧e 4=p2∧BXF 2004 4004 g w 3 26 o0 o0.v (y137:List Int) p2∧e 5=k8∧OM 9027 g w 3 (yE:List Int) k8) (fun Q' hQ=>?_) (fun iR pQ lS hR=>?_)
   ·replace h := hx
    clear hx
    refine Zf (Za (Ze .plain rfl (D_loadO (α:=Fv) (g:=uL) Try.isAgg26 Try.sizeOf26 dF mC fun vL xL=>?_)))
    have e261:vL=o0.v:=RV_fv.1 xL
    clear xL
    subst vL
    refine Ga (.int .i64 ((y137).length:Int)) (P_lenM Try.underlying26 rfl b136) rfl ?_
    refine Zn (.int .i64 (0)) rfl rfl ?_
    refine Zb (Zd (Zr ?_))
    refine E_lpD h (fun (s:(List Int) × (List (Int × Bool)) × Int) e ds w=>∃ (g:Gh) ,Fr gI wI g w∧MkF g w ds∧e 2=p1∧PT g.m w (x0:TieHarness) p1∧e 4=p2∧BXF 2004 4004 g w 3 26 o0 o0.v (y137:List Int) p2∧e 5=k8∧OM 9027 g w 3 (s.1:List Int) k8∧e 9=z9∧BM (Value.int .i64) 2009 8025 g w 203 (s.2.1:List (Int × Bool)) z9∧e 49=o0.v∧e 50=.int .i64 (((y137).length:Int))∧e 51=.int .i64 (s.2.2)) ⟨uL,hfr,hmk,nL,cF,dF,⟨mC,b136⟩,pL,eF,qL,⟨_,rF,sF⟩,rfl,rfl,rfl⟩ (fun X262 yJ vN=>?_)
    rintro ⟨uE,qH,l5⟩ jR qQ mS ⟨jH,hfr,hmk,uH,tF,xH,⟨yH,jD⟩,zH,aI,yL,⟨rQ,zL,aM⟩,gG,hG,uD⟩ h
    refine Zf (Za (EL_in (.bool ((decide (l5 < ((y137).length:Int))))) uD hG rfl rfl ?_))
    refine Zb (Zd (Zf ?_))
    rcases Zt h with ⟨kH,h⟩ | ⟨kH,h⟩
    ·refine E_ct kH rfl ?_
     refine Zu (Zd ?_)
     obtain ⟨⟨eD,gD⟩,hx,h⟩:=Ge h
     refine E_joinD (fun e ds w=>∃ (g:Gh) ,Fr gI wI g w∧MkF g w ds∧e 2=p1∧PT g.m w (x0:TieHarness) p1∧e 4=p2∧BXF 2004 4004 g w 3 26 o0 o0.v (y137:List Int) p2∧e 5=k8∧OM 9027 g w 3 (eD:List Int) k8∧e 9=z9∧BM (Value.int .i64) 2009 8025 g w 203 (gD:List (Int × Bool)) z9∧e 49=o0.v∧e 50=.int .i64 (((y137).length:Int))∧e 51=.int .i64 (l5)) (fun Q' hQ=>?_) (fun lR sQ nS hR=>?_)
     ·replace h := hx
      clear hx
      refine Zr ?_
      refine Zf (Za ?_)
      obtain ⟨y324,nI,h⟩:=Ge h
      refine Ga (ePtr (o0.v) l5 1) (P_indexAddrM (α:=Int) Try.underlying26 Try.sizeOf3 gG jD uD nI) rfl ?_
      refine Ze .plain rfl (D_loadM (g:=jH) Try.isAgg3 Try.sizeOf3 rfl jD nI fun oS aP=>?_)
      obtain rfl:=Zj.1 aP
      refine Zg (.int .i64 (y324)) rfl rfl ?_
      refine Zb (Zd (Zf (Za (Ga (fPtr p1 1) (Zc at_28_1 uH (PT.ptr tF)) rfl ?_))))
      have bP:=Zm (part_TieHarness_1).1 tF
      refine Ze .plain rfl (D_load (g:=jH) Try.isAgg26 Try.sizeOf26 rfl bP fun bD bM=>?_)
      refine Ga (.int .i64 (((x0).Warps).length:Int)) (P_len Try.underlying26 rfl bM) rfl ?_
      refine Zn (.int .i64 (0)) rfl rfl ?_
      refine Zb (Zd (Zr ?_))
      refine E_lpD h (fun (s:(List Int) × (List (Int × Bool)) × Int) e ds w=>∃ (g:Gh) ,Fr gI wI g w∧MkF g w ds∧e 2=p1∧PT g.m w (x0:TieHarness) p1∧e 4=p2∧BXF 2004 4004 g w 3 26 o0 o0.v (y137:List Int) p2∧e 5=k8∧OM 9027 g w 3 (s.1:List Int) k8∧e 9=z9∧BM (Value.int .i64) 2009 8025 g w 203 (s.2.1:List (Int × Bool)) z9∧e 13=.int .i64 (y324)∧e 49=o0.v∧e 50=.int .i64 (((y137).length:Int))∧e 51=.int .i64 (l5)∧e 56=bD∧RV g.m w ((x0).Warps:List Int) bD∧e 57=.int .i64 ((((x0).Warps).length:Int))∧e 58=.int .i64 (s.2.2)) ⟨jH,hfr,hmk,uH,tF,xH,⟨yH,jD⟩,zH,aI,yL,⟨_,zL,aM⟩,rfl,gG,hG,uD,rfl,bM,rfl,rfl⟩ (fun X328 zJ xN=>?_)
      rintro ⟨y9,v8,u3⟩ mR tQ pS ⟨qC,hfr,hmk,lD,rC,uF,⟨vF,xF⟩,yF,zF,nD,⟨cM,oD,sD⟩,vD,xD,yD,zD,aE,aD,bE,tB⟩ h
      refine Zf (Za (Ga (.bool ((decide (u3 < (((x0).Warps).length:Int))))) (P_int tB bE rfl) rfl ?_))
      refine Zb (Zd (Zf ?_))
      rcases Zt h with ⟨lH,h⟩ | ⟨lH,h⟩
      ·refine E_ct lH rfl ?_
       refine Zu (Zd (E_joinCD h (fun (s:(List Int) × (List (Int × Bool))) e ds w=>∃ (g:Gh) ,Fr gI wI g w∧MkF g w ds∧e 2=p1∧PT g.m w (x0:TieHarness) p1∧e 4=p2∧BXF 2004 4004 g w 3 26 o0 o0.v (y137:List Int) p2∧e 5=k8∧OM 9027 g w 3 (s.1:List Int) k8∧e 9=z9∧BM (Value.int .i64) 2009 8025 g w 203 (s.2:List (Int × Bool)) z9∧e 13=.int .i64 (y324)∧e 49=o0.v∧e 50=.int .i64 (((y137).length:Int))∧e 51=.int .i64 (l5)∧e 56=bD∧RV g.m w ((x0).Warps:List Int) bD∧e 57=.int .i64 ((((x0).Warps).length:Int))∧e 58=.int .i64 (u3)) (fun X356 aK yN h=>?_) ?_))
       ·refine Zr ?_
        refine Zf (Za (Zo tB rfl ?_))
        obtain ⟨cC,pI,h⟩:=Ge h
        refine Ga (ePtr bD u3 1) (Zh (α:=Int) Try.underlying26 Try.sizeOf3 aE aD tB pI) rfl ?_
        have cP:=PT_idx aD pI
        refine Ze .plain rfl (D_load (g:=qC) Try.isAgg3 Try.sizeOf3 rfl cP fun qS dP=>?_)
        obtain rfl:=Zj.1 dP
        refine Zg (.int .i64 (u3)) rfl rfl ?_
        refine Zg (.int .i64 (cC)) rfl rfl ?_
        refine Zb (Zd ?_)
        obtain ⟨dB,hx,h⟩:=Ge h
        refine E_joinD (fun e ds w=>∃ (g:Gh) ,Fr gI wI g w∧MkF g w ds∧e 2=p1∧PT g.m w (x0:TieHarness) p1∧e 4=p2∧BXF 2004 4004 g w 3 26 o0 o0.v (y137:List Int) p2∧e 5=k8∧OM 9027 g w 3 (y9:List Int) k8∧e 9=z9∧BM (Value.int .i64) 2009 8025 g w 203 (v8:List (Int × Bool)) z9∧e 13=.int .i64 (y324)∧e 14=.int .i64 (u3)∧e 49=o0.v∧e 50=.int .i64 (((y137).length:Int))∧e 51=.int .i64 (l5)∧e 56=bD∧RV g.m w ((x0).Warps:List Int) bD∧e 57=.int .i64 ((((x0).Warps).length:Int))∧e 58=.int .i64 (u3)∧e 75=.bool (dB)) (fun Q' hQ=>?_) (fun nR uQ rS hR=>?_)
        ·replace h := hx
         clear hx
         refine Za (Zn (.int .i64 (cC)) rfl rfl ?_)
         refine Ga (fPtr p1 1) (Zc at_28_1 lD (PT.ptr rC)) rfl ?_
         have eP:=Zm (part_TieHarness_1).1 rC
         refine Ze .plain rfl (D_load (g:=qC) Try.isAgg26 Try.sizeOf26 rfl eP fun gP dM=>?_)
         refine Zo vD rfl ?_
         obtain ⟨tD,qI,h⟩:=Ge h
         refine Ga (ePtr gP y324 1) (Zh (α:=Int) Try.underlying26 Try.sizeOf3 rfl dM rfl qI) rfl ?_
         have iP:=PT_idx dM qI
         refine Ze .plain rfl (D_load (g:=qC) Try.isAgg3 Try.sizeOf3 rfl iP fun sS jP=>?_)
         obtain rfl:=Zj.1 jP
         refine EL_in (.bool ((cC == tD))) rfl rfl rfl rfl ?_
         refine Zn (.bool ((cC == tD))) rfl rfl ?_
         rcases Zt h with ⟨l9,h⟩ | ⟨l9,h⟩
         ·refine Ze (.yes2 rfl rfl l9) rfl (D_loadO (α := Fv) (g := qC) Try.isAgg203 Try.sizeOf203 nD oD fun eM iM => ?_)
          have e374:eM=cM.v:=RV_fv.1 iM
          clear iM
          subst eM
          refine Gb (.int .i64 (u3)) (Zk rfl) rfl rfl l9 rfl ?_
          refine Ze (.yes2 rfl rfl l9) rfl (D_lookup (g:=qC) (z0:=(false:Bool)) Try.underlying203 key_3 Try.zeroValue4 (fun m w=>⟨_,rep_bool,rfl⟩) rfl sD rfl fun tS kP=>?_)
          obtain rfl:=RV_bool.1 kP
          refine Gb (.bool (!((mget v8 u3).getD (false:Bool)))) (P_not rfl) rfl rfl l9 rfl ?_
          refine Ga (.bool (!((mget v8 u3).getD (false:Bool)))) (Zl (b:=(cC == tD)) rfl (pick_t l9 rfl)) rfl ?_
          refine Zb ?_
          obtain rfl:=sinj h
          exact hQ _ _ _ ⟨qC,hfr,hmk,lD,rC,uF,⟨vF,xF⟩,yF,zF,nD,⟨_,oD,sD⟩,vD,rfl,xD,yD,zD,aE,aD,bE,tB,rfl⟩
         ·refine Gc rfl rfl l9 rfl rfl ?_
          iterate 3 refine Gc rfl rfl l9 rfl rfl ?_
          refine Ga (.bool false) (Zl (b:=(cC == tD)) rfl (pick_f l9 rfl)) rfl ?_
          refine Zb ?_
          obtain rfl:=sinj h
          exact hQ _ _ _ ⟨qC,hfr,hmk,lD,rC,uF,⟨vF,xF⟩,yF,zF,nD,⟨_,oD,sD⟩,vD,rfl,xD,yD,zD,aE,aD,bE,tB,rfl⟩
        ·clear hx
         obtain ⟨lI,hfr,hmk,bI,vB,dI,⟨yB,zB⟩,aG,uC,bG,⟨jM,yA,iI⟩,iG,jG,kG,lG,mG,eJ,gJ,iJ,jJ,sG⟩:=hR
         rcases Zt h with ⟨mH,h⟩ | ⟨mH,h⟩
         ·refine E_cond_true (Eq.trans (show ev _ _ = .bool (dB) from sG) (congrArg Value.bool mH)) ?_
          refine Zf (Za (Ze .plain rfl (D_loadO (α:=Fv) (g:=lI) Try.isAgg203 Try.sizeOf203 bG yA fun kM mM=>?_)))
          have e378:kM=jM.v:=RV_fv.1 mM
          clear mM
          subst kM
          refine Zo jG rfl ?_
          refine Zo aG rfl ?_
          refine Zo iG rfl ?_
          refine Zo jG rfl ?_
          refine Ze .plain rfl (D_mapUpdate (g:=lI) Try.underlying203 key_3 rfl iI rfl rfl (RV_bool.2 rfl) fun lP uS hs m379=>?_)
          have hfr:=hfr.stp hs
          have hmk:=hmk.stp hs
          have vB:=vB.stp hs
          have yB:=yB.stp hs rfl
          have zB:=zB.stp hs rfl
          have uC:=uC.stp hs rfl
          have yA:=yA.stp hs rfl
          obtain ⟨kO,sI,h⟩:=Ge h
          refine Ga (ePtr k8 y324 1) (P_indexAddrM (α:=Int) Try.underlying26 Try.sizeOf3 rfl uC rfl sI) rfl ?_
          refine Ze .plain rfl (D_storeM (g:=lP) (α:=Int) (a':=u3) Try.sizeOf3 rfl uC sI rfl (Zj.2 rfl) fun mP vS hs b381=>?_)
          have hfr:=hfr.stp hs
          have hmk:=hmk.stp hs
          have vB:=vB.stp hs
          have yB:=yB.stp hs rfl
          have zB:=zB.stp hs rfl
          have yA:=yA.stp hs rfl
          have m379:=m379.stp hs rfl
          refine Zb (Zd (E_exit ?_))
          refine blk_miss rfl ?_
          refine thn_e ?_
          refine thn_e ?_
          refine blk_hit ?_
          refine blk_n ?_
          obtain ⟨rfl,rfl⟩:=pairs2 h
          exact hQ _ _ _ ⟨mP,hfr,hmk,bI,vB,dI,⟨yB,zB⟩,aG,b381,bG,⟨_,yA,m379⟩,kG,lG,mG⟩
         ·refine E_cond_false (Eq.trans (show ev _ _ = .bool (dB) from sG) (congrArg Value.bool mH)) ?_
          exact Zu (blk_n (Zd (yN (y9,v8) _ _ _ ⟨lI,hfr,hmk,bI,vB,dI,⟨yB,zB⟩,aG,uC,bG,⟨_,yA,iI⟩,iG,kG,lG,mG,eJ,gJ,iJ,jJ⟩ h)))
       ·rintro ⟨vE, xE⟩ oR vQ xS ⟨nP, hfr, hmk, nM, oM, pM, ⟨qM, rM⟩, sM, tM, uM, ⟨xQ, vM, xM⟩, kJ, lJ, mJ, nJ, oJ, pJ, qJ, rJ⟩ h
        refine Za (EL_in (.int .i64 ((w64 (u3 + (1:Int))))) rJ rfl rfl rfl ?_)
        refine Zn (.int .i64 ((w64 (u3 + (1:Int))))) rfl rfl ?_
        exact Zb (Zd (xN (vE,xE,(w64 (u3 + (1:Int)))) _ _ _ ⟨nP,hfr,hmk,nM,oM,pM,⟨qM,rM⟩,sM,tM,uM,⟨_,vM,xM⟩,kJ,lJ,mJ,nJ,oJ,pJ,qJ,rfl⟩ h))
      ·refine E_cf lH rfl ?_
       refine E_exit ?_
       refine thn_e ?_
       refine thn_e ?_
       refine blk_hit ?_
       refine blk_n ?_
       obtain ⟨rfl,rfl⟩:=pairs2 h
       exact hQ _ _ _ ⟨qC,hfr,hmk,lD,rC,uF,⟨vF,xF⟩,yF,zF,nD,⟨_,oD,sD⟩,xD,yD,zD⟩
     ·clear hx
      obtain ⟨oP,hfr,hmk,bN,cN,dN,⟨eN,gN⟩,iN,jN,kN,⟨yQ,lN,mN⟩,sJ,vJ,xJ⟩:=hR
      refine Za (EL_in (.int .i64 ((w64 (l5 + (1:Int))))) xJ rfl rfl rfl ?_)
      refine Zn (.int .i64 ((w64 (l5 + (1:Int))))) rfl rfl ?_
      exact Zb (Zd (vN (eD,gD,(w64 (l5 + (1:Int)))) _ _ _ ⟨oP,hfr,hmk,bN,cN,dN,⟨eN,gN⟩,iN,jN,kN,⟨_,lN,mN⟩,sJ,vJ,rfl⟩ h))
    ·refine E_cf kH rfl ?_
     refine E_exit ?_
     refine thn_e ?_
     refine thn_e ?_
     refine blk_hit ?_
     obtain rfl:=sinj h
     exact hQ _ _ _ ⟨jH,hfr,hmk,xH,⟨yH,jD⟩,zH,aI⟩
   ·clear hx
    obtain ⟨nN,hfr,hmk,cG,⟨jI,d9⟩,oN,vC⟩:=hR
    refine Zf (Za (Ze .plain rfl (D_loadO (α:=Fv) (g:=nN) Try.isAgg26 Try.sizeOf26 cG jI fun pN qN=>?_)))
    have e385:pN=o0.v:=RV_fv.1 qN
    clear qN
    subst pN
    refine Zo oN rfl ?_
    have on386:=om_one d9
    refine Ze .plain rfl (D_storeOc (g:=nN) (v:=o0.v) (a':=(⟨o0.v,on386⟩:Fv)) Try.sizeOf26 cG jI rfl (RV_fv.2 rfl) fun yS zS hs b386 cb=>?_)
    clear cb
    have hfr:=hfr.stp hs
    have hmk:=hmk.stp hs
    have d9:=d9.stp hs rfl
    have vC:=vC.stp hs rfl
    refine Zg k8 rfl rfl ?_
    refine Zg (.int .i64 (0)) rfl rfl ?_
    refine Zb (Zd (E_ret (endM (.inr rfl) hmk fun eT lT hs=>?_)))
    have hfr:=hfr.stp hs
    have b386:=b386.stp hs rfl
    have d9:=d9.stp hs rfl
    have vC:=vC.stp hs rfl
    obtain ⟨gp388,hs,rp388⟩:=OM.pub vC
    have hfr:=hfr.stp hs
    have b386:=b386.stp hs rfl
    have d9:=d9.stp hs rfl
    obtain ⟨gp389,hs,rp389⟩:=OM.pub d9
    have hfr:=hfr.stp hs
    have b386:=b386.stp hs rfl
    have rp388:=rp388.stp hs
    have ub389:=OB.ofRV b386 rp389
    obtain rfl:=sinj h
    obtain ⟨ad390,cv390,hp390,zN,cr390⟩:=ob_read Try.isAgg26 Try.sizeOf26 ub389
    exact endm_ctt rfl rfl ((show _=p2 from cG).trans hp390) zN (show _=k8 from rfl) (show _=.int .i64 (0) from rfl) ⟨_,hfr,_,_,_,rfl,cr390,rp388,rfl⟩
def f73 (x0:FaultLoom) (x1:List Zv) (x2:Int):Option (Int):=
 jn (σ:=Unit) (fun _=>
  jn (σ:=Unit) (fun _=>
   some ((0:Int))
   ) fun x5=>
  (f94 ((1:Int)) ((120:Int)) (([x2]:List Int))).bind fun l5=>
  bif (!l5) then
   some ((3:Int))
  else
   x5 ()
  ) fun k6=>
 (f144 x0 x1).bind fun y9=>
 bif (y9 != (0 : Int)) then
  some (y9)
 else
  k6 ()
theorem en73:Enters Try.prog 73:=enters_of Try.func73 (by kernel_rfl) rfl
theorem wk73 {gI:Gh} {wI:World} {x0:FaultLoom} {x1:List Zv} {x2:Int} {up0:Value} (rp0:RV gI.m wI x0 up0) {up1:Value} (rp1:RV gI.m wI x1 up1) {r:Int} (h:f73 x0 x1 x2=some r):Fn Try.prog 73 #[up0,up1,.int .i64 (x2)] gI wI (fun _ _ v=>v=.int .i64 (r)):=by
 unfold f73 at h
 refine fn_of_E Try.func73 rfl (Nat.le_of_ble_eq_true rfl) fun g0 hm hfr=>?_
 have rp0:RV g0.m wI x0 up0:=hm ▸ rp0
 have rp1:RV g0.m wI x1 up1:=hm ▸ rp1
 show E _ 18 none _ _ _ _ _
 refine Zf (Za (Ze .plain rfl (D_box (g:=g0) rfl rp0 fun g1 w1 p1 hs q1=>?_)))
 have hfr:=hfr.ext hs
 have rp1:=rp1.ext hs
 refine Zg (.int .i64 (0)) rfl rfl ?_
 refine Zb (Zd (Zq h (fun (s:Unit) e w=>∃ (g:Gh) ,Fr gI wI g w∧e 2=.int .i64 (x2)) (fun X6 k6 hk6 h=>?_) ?_))
 ·refine Zf (Za (Ze .plain rfl (D_load (g := g1) Try.isAgg32 Try.sizeOf32 rfl q1 fun v7 r7 => ?_)))
  refine Zn up1 rfl rfl ?_
  obtain ⟨y9,y6,h⟩:=Ge h
  refine Ze .plain rfl (Zp (g:=g1) (vs:=[v7,up1]) en144 (.cons rfl (.cons rfl .nil)) (wk144 r7 rp1 y6) fun g8 w8_ v8 hs hr=>?_)
  have hfr:=hfr.ext hs
  subst hr
  refine Zg (.int .i64 (y9)) rfl rfl ?_
  refine Zb (Zd (Zf (Za (Zn (.int .i64 (y9)) rfl rfl ?_))))
  refine EL_in (.bool ((y9 != (0:Int)))) rfl rfl rfl rfl ?_
  refine Zb (Zd ?_)
  rcases Zt h with ⟨o0,h⟩ | ⟨o0,h⟩
  ·refine E_ct o0 rfl ?_
   refine Zf (Za (Zn (.int .i64 (y9)) rfl rfl ?_))
   refine Zg (.int .i64 (y9)) rfl rfl ?_
   refine Zb (Zd (E_ret (thn_r ?_)))
   obtain rfl:=sinj h
   exact end1 rfl rfl (show _=.int .i64 (y9) from rfl) ⟨_,hfr,rfl⟩
  ·refine E_cf o0 rfl ?_
   exact Zu (Zd (hk6 () _ _ ⟨g8,hfr,rfl⟩ h))
 ·rintro _ n8 a9 ⟨i7, hfr, t5⟩ h
  refine Zq h (fun (s:Unit) e w=>∃ (g:Gh) ,Fr gI wI g w) (fun X16 x5 i6 h=>?_) ?_
  ·refine Zf (Za (Zo t5 rfl ?_))
   refine Ze .plain rfl (D_buildSlice (g:=i7) 3015 (xs:=([x2]:List Int)) (vs:=[.int .i64 (x2)]) Try.underlying26 Try.sizeOf3 Try.zeroValue3 rfl rfl (.cons rfl .nil) (RVs.cons (Zj.2 rfl) RVs.nil) rfl rfl fun m7 d9 k8 hs o17 l8 hxt hfl=>?_)
   have hfr:=hfr.stp hs
   obtain ⟨l5,x6,h⟩:=Ge h
   refine Ze .plain rfl (Zp (g:=m7) (vs:=[.int .i64 (1),.int .i64 (120),k8]) en94 (.cons rfl (.cons rfl (.cons rfl .nil))) (wk94 l8 x6) fun m8 r8 k9 hs hr=>?_)
   have hfr:=hfr.ext hs
   subst hr
   refine Ga (.bool (!l5)) (P_not rfl) rfl ?_
   refine Zb (Zd ?_)
   rcases Zt h with ⟨u3,h⟩ | ⟨u3,h⟩
   ·refine E_ct u3 rfl ?_
    refine Zf (Za (Zg (.int .i64 (3)) rfl rfl ?_))
    refine Zb (Zd (E_ret (thn_r ?_)))
    obtain rfl:=sinj h
    exact end1 rfl rfl (show _=.int .i64 (3) from rfl) ⟨_,hfr,rfl⟩
   ·refine E_cf u3 rfl ?_
    exact Zu (Zd (i6 () _ _ ⟨m8,hfr⟩ h))
  ·rintro _ x8 l9 ⟨n9, hfr⟩ h
   refine Zf (Za (Zg (.int .i64 (0)) rfl rfl ?_))
   refine Zb (Zd (E_ret ?_))
   obtain rfl:=sinj h
   exact end1 rfl rfl (show _=.int .i64 (0) from rfl) ⟨_,hfr,rfl⟩
theorem v39_0 {iO:Nat} {gI:Gh} {wI:World} {x0:TieHarness} {x1:Design} {up0:Value} (rp0:RV gI.m wI x0 up0) {up1:Value} (rp1:RV gI.m wI x1 up1) {r:(List Str) × Int} (h:f39 x0 x1=some r):FnG Try.prog 39 #[up0,up1] gI wI (fun g w v=>∃ y0 y1,v=.tuple #[y0,y1]∧OM iO g w 9 (r.1) y0∧y1=.int .i64 (r.2)):=by
 unfold f39 at h
 refine fnG_of_E Try.func39 rfl (Nat.le_of_ble_eq_true rfl) fun g0 hm hfr=>?_
 have rp0:RV g0.m wI x0 up0:=hm ▸ rp0
 have rp1:RV g0.m wI x1 up1:=hm ▸ rp1
 show E _ 43 none _ _ _ _ _
 refine Zf (Za (Ze .plain rfl (D_box (g:=g0) rfl rp0 fun g1 w1 p1 hs q1=>?_)))
 have hfr:=hfr.ext hs
 have rp1:=rp1.ext hs
 refine Ze .plain rfl (D_box (g:=g1) rfl rp1 fun g2 w2 p2 hs q2=>?_)
 have hfr:=hfr.ext hs
 have q1:=q1.ext hs
 refine Zg (.slice none 0 0) rfl rfl ?_
 refine Zg (.int .i64 (0)) rfl rfl ?_
 refine Zb (Zd (Zq h (fun (s:(List Str)) e w=>∃ (g:Gh) (v4:Value),Fr gI wI g w∧e 2=p1∧PT g.m w (x0:TieHarness) p1∧e 3=p2∧PT g.m w (x1:Design) p2∧e 4=v4∧RV g.m w (s:List Str) v4∧OS 1004 g w 9 (s:List Str) v4) (fun X7 k7 hk7 h=>?_) ?_))
 ·refine Zf (Za (Ze .plain rfl (D_load (g := g2) Try.isAgg28 Try.sizeOf28 rfl q1 fun v8 r8 => ?_)))
  obtain ⟨m7,bE,h⟩:=Ge h
  refine Ze .plain rfl (Zp (g:=g2) (vs:=[v8]) en105 (.cons rfl .nil) (wk105 r8 bE) fun g9 w9_ v9 hs hr=>?_)
  have hfr:=hfr.ext hs
  have q1:=q1.ext hs
  have q2:=q2.ext hs
  subst hr
  refine Zg (.int .i64 (m7)) rfl rfl ?_
  refine Zb (Zd (Zf (Za (Zn (.int .i64 (m7)) rfl rfl ?_))))
  refine EL_in (.bool ((m7 != (0:Int)))) rfl rfl rfl rfl ?_
  refine Zb (Zd ?_)
  rcases Zt h with ⟨k9,h⟩ | ⟨k9,h⟩
  ·refine E_ct k9 rfl ?_
   refine Zf (Za (Zn (.int .i64 (m7)) rfl rfl ?_))
   refine Zg (.slice none 0 0) rfl rfl ?_
   refine Zg (.int .i64 (m7)) rfl rfl ?_
   refine Zb (Zd (E_ret (thn_r ?_)))
   obtain rfl:=sinj h
   obtain ⟨gh,hxh,homh⟩:=OM.handn (i:=iO) (t:=9) (α:=Str) hfr
   exact end2 rfl rfl (show _=.slice none 0 0 from rfl) (show _=.int .i64 (m7) from rfl) ⟨gh,hxh,_,_,rfl,homh,rfl⟩
  ·refine E_cf k9 rfl ?_
   exact Zu (Zd (hk7 ([]) _ _ ⟨g9,(.slice none 0 0),hfr,rfl,q1,rfl,q2,rfl,RV_nil,OS.nil⟩ h))
 ·rintro vB cG lG ⟨tD, yB, hfr, y9, x6, g8, t5, zB, k8, l8⟩ h
  refine Zq h (fun (s:(List Str)) e w=>∃ (g:Gh) (v4:Value),Fr gI wI g w∧e 2=p1∧PT g.m w (x0:TieHarness) p1∧e 3=p2∧PT g.m w (x1:Design) p2∧e 4=v4∧RV g.m w (s:List Str) v4∧OS 1004 g w 9 (s:List Str) v4) (fun X22 mG iE h=>?_) ?_
  ·refine Zf (Za (Ze .plain rfl (D_load (g := tD) Try.isAgg30 Try.sizeOf30 g8 t5 fun vE xE => ?_)))
   obtain ⟨y6,lE,h⟩:=Ge h
   refine Ze .plain rfl (Zp (g:=tD) (vs:=[vE]) en102 (.cons rfl .nil) (wk102 xE lE) fun aB eG sG hs hr=>?_)
   have hfr:=hfr.ext hs
   have x6:=x6.ext hs
   have t5:=t5.ext hs
   have k8:=k8.ext hs
   have l8:=l8.ext hs
   subst hr
   refine Zg (.int .i64 (y6)) rfl rfl ?_
   refine Zb (Zd (Zr ?_))
   refine Zf (Za (Zn (.int .i64 (y6)) rfl rfl ?_))
   refine EL_in (.bool ((y6 != (0:Int)))) rfl rfl rfl rfl ?_
   refine Zg (.bool ((y6 != (0:Int)))) rfl rfl ?_
   refine Zb (Zd ?_)
   rcases Zt h with ⟨l9,h⟩ | ⟨l9,h⟩
   ·refine E_ct l9 rfl ?_
    refine Zf (Za (Zn (.int .i64 (y6)) rfl rfl ?_))
    refine Zg (.slice none 0 0) rfl rfl ?_
    refine Zg (.int .i64 (y6)) rfl rfl ?_
    refine Zb (Zd (E_ret (blk_r ?_)))
    refine thn_r ?_
    obtain rfl:=sinj h
    obtain ⟨gh,hxh,homh⟩:=OM.handn (i:=iO) (t:=9) (α:=Str) hfr
    exact end2 rfl rfl (show _=.slice none 0 0 from rfl) (show _=.int .i64 (y6) from rfl) ⟨gh,hxh,_,_,rfl,homh,rfl⟩
   ·refine E_cf l9 rfl ?_
    refine Zf (Za (Ga (fPtr p2 0) (Zc at_30_0 g8 (PT.ptr t5)) rfl ?_))
    have yE:=Zm (part_Design_0).1 t5
    refine Ze .plain rfl (D_load (g:=aB) Try.isAgg3 Try.sizeOf3 rfl yE fun xG zE=>?_)
    obtain rfl:=Zj.1 zE
    refine Ga (fPtr p1 0) (Zc at_28_0 y9 (PT.ptr x6)) rfl ?_
    have cF:=Zm (part_TieHarness_0).1 x6
    refine Ze .plain rfl (D_load (g:=aB) Try.isAgg3 Try.sizeOf3 rfl cF fun yG dF=>?_)
    obtain rfl:=Zj.1 dF
    refine EL_in (.bool (((x1).Hooks != (x0).Hooks))) rfl rfl rfl rfl ?_
    refine Zg (.bool (((x1).Hooks != (x0).Hooks))) rfl rfl ?_
    refine Zb (Zd ?_)
    rcases Zt h with ⟨n9,h⟩ | ⟨n9,h⟩
    ·refine E_ct n9 rfl ?_
     refine Zf (Za (Zg (.slice none 0 0) rfl rfl ?_))
     refine Zg (.int .i64 (4)) rfl rfl ?_
     refine Zb (Zd (E_ret (blk_r ?_)))
     refine thn_r ?_
     obtain rfl:=sinj h
     obtain ⟨gh,hxh,homh⟩:=OM.handn (i:=iO) (t:=9) (α:=Str) hfr
     exact end2 rfl rfl (show _=.slice none 0 0 from rfl) (show _=.int .i64 (4) from rfl) ⟨gh,hxh,_,_,rfl,homh,rfl⟩
    ·refine E_cf n9 rfl ?_
     exact Zu (blk_n (Zd (iE (vB) _ _ ⟨aB,(yB),hfr,y9,x6,g8,t5,zB,k8,l8⟩ h)))
  ·rintro aG gG zG ⟨uD, cC, hfr, mC, qC, rC, z9, uC, vC, aD⟩ h
   obtain ⟨bA,hx,h⟩:=Ge h
   refine E_join (fun e w=>∃ (g:Gh) (v4:Value),Fr gI wI g w∧e 4=v4∧RV g.m w (bA:List Str) v4∧OS 1004 g w 9 (bA:List Str) v4) (fun Q' hQ=>?_) (fun hG aH hR=>?_)
   ·replace h := hx
    clear hx
    refine Zf (Za (Ga (fPtr p2 1) (Zc at_30_1 rC (PT.ptr z9)) rfl ?_))
    have eF:=Zm (part_Design_1).1 z9
    refine Ze .plain rfl (D_load (g:=uD) Try.isAgg26 Try.sizeOf26 rfl eF fun n8 vD=>?_)
    refine Ga (.int .i64 (((x1).Rows).length:Int)) (P_len Try.underlying26 rfl vD) rfl ?_
    refine Zn (.int .i64 (0)) rfl rfl ?_
    refine Zb (Zd (Zr ?_))
    refine E_lp h (fun (s:(List Str) × Int) e w=>∃ (g:Gh) (v4:Value),Fr gI wI g w∧e 2=p1∧PT g.m w (x0:TieHarness) p1∧e 4=v4∧RV g.m w (s.1:List Str) v4∧OS 1004 g w 9 (s.1:List Str) v4∧e 28=n8∧RV g.m w ((x1).Rows:List Int) n8∧e 29=.int .i64 ((((x1).Rows).length:Int))∧e 30=.int .i64 (s.2)) ⟨uD,(cC),hfr,mC,qC,uC,vC,aD,rfl,vD,rfl,rfl⟩ (fun X61 cH mE=>?_)
    rintro ⟨bG,l5⟩ iG dH ⟨x8,bD,hfr,iA,u3,rA,x5,i6,a9,o0,d9,i7⟩ h
    refine Zf (Za (Ga (.bool ((decide (l5 < (((x1).Rows).length:Int))))) (P_int i7 d9 rfl) rfl ?_))
    refine Zb (Zd (Zf ?_))
    rcases Zt h with ⟨u9,h⟩ | ⟨u9,h⟩
    ·refine E_ct u9 rfl ?_
     refine Zu (Zd ?_)
     obtain ⟨m8,hx,h⟩:=Ge h
     refine E_join (fun e w=>∃ (g:Gh) (v4:Value),Fr gI wI g w∧e 2=p1∧PT g.m w (x0:TieHarness) p1∧e 4=v4∧RV g.m w (m8:List Str) v4∧OS 1004 g w 9 (m8:List Str) v4∧e 28=n8∧RV g.m w ((x1).Rows:List Int) n8∧e 29=.int .i64 ((((x1).Rows).length:Int))∧e 30=.int .i64 (l5)) (fun Q' hQ=>?_) (fun jG gH hR=>?_)
     ·replace h := hx
      clear hx
      refine Zr ?_
      refine Zf (Za ?_)
      obtain ⟨dB,iB,h⟩:=Ge h
      refine Ga (ePtr n8 l5 1) (Zh (α:=Int) Try.underlying26 Try.sizeOf3 a9 o0 i7 iB) rfl ?_
      have rF:=PT_idx o0 iB
      refine Ze .plain rfl (D_load (g:=x8) Try.isAgg3 Try.sizeOf3 rfl rF fun iH sF=>?_)
      obtain rfl:=Zj.1 sF
      refine Zg (.int .i64 (dB)) rfl rfl ?_
      refine Zb (Zd (Za (Zo rA rfl ?_)))
      refine Ze .plain rfl (D_load (g:=x8) Try.isAgg28 Try.sizeOf28 iA u3 fun lB xD=>?_)
      have yD:RV x8.m _ (⟨x0⟩:TieTieHarness) (.agg (setCh [[.int .i64 0,.slice none 0 0]] [(0,lB)]).flatten.toArray):=RV_build rfl (rep_last (RV.cells xD))
      generalize oE:(Value.agg (setCh [[.int .i64 0,.slice none 0 0]] [(0,lB)]).flatten.toArray)=zD at yD
      refine Ga zD (oE ▸ P_build (vs:=[(0,lB)]) [[.int .i64 0,.slice none 0 0]] lay_221 rfl rfl (.cons rfl .nil) ⟨⟨_,rfl,cells_size xD⟩,trivial⟩) rfl ?_
      refine Zn (.int .i64 (dB)) rfl rfl ?_
      obtain ⟨y81,rE,h⟩:=Ge h
      refine Ze .plain rfl (Zp (g:=x8) (vs:=[zD,.int .i64 (dB)]) en106 (.cons rfl (.cons rfl .nil)) (wk106 yD rE) fun tF kG jH hs hr=>?_)
      have hfr:=hfr.ext hs
      have u3:=u3.ext hs
      have x5:=x5.ext hs
      have i6:=i6.ext hs
      have o0:=o0.ext hs
      subst hr
      refine Ze .plain rfl (D_buildSlice (g:=tF) 3039 (xs:=([y81]:List Str)) (vs:=[Str.v (y81)]) Try.underlying50 Try.sizeOf9 Try.zeroValue9 rfl rfl (.cons rfl .nil) (RVs.cons (RV_str.2 rfl) RVs.nil) rfl rfl fun uF kH lH hs o82 vF hxt hfl=>?_)
      have hfr:=hfr.stp hs
      have u3:=u3.stp hs
      have x5:=x5.stp hs
      have i6:=i6.stp hs rfl
      have o0:=o0.stp hs
      obtain ⟨y84,uE,h⟩:=Ge h
      refine Ze .plain rfl (D_append (g:=uF) (i:=1004) Try.underlying50 info_9 rfl rfl i6 x5 rfl vF uE fun xF mH aE hs o83 yF _=>?_)
      have hfr:=hfr.stp hs
      have u3:=u3.stp hs
      have o0:=o0.stp hs
      refine Zg aE rfl rfl ?_
      refine Zb (blk_n ?_)
      obtain rfl:=sinj h
      exact hQ _ _ ⟨xF,(aE),hfr,iA,u3,rfl,yF,o83,a9,o0,d9,i7⟩
     ·clear hx
      obtain ⟨zF,cD,hfr,eD,gD,iD,jD,lD,mB,nB,oB,tB⟩:=hR
      refine Za (EL_in (.int .i64 ((w64 (l5 + (1:Int))))) tB rfl rfl rfl ?_)
      refine Zn (.int .i64 ((w64 (l5 + (1:Int))))) rfl rfl ?_
      exact Zb (Zd (mE (m8,(w64 (l5 + (1:Int)))) _ _ ⟨zF,(cD),hfr,eD,gD,iD,jD,lD,mB,nB,oB,rfl⟩ h))
    ·refine E_cf u9 rfl ?_
     refine E_exit ?_
     refine thn_e ?_
     refine thn_e ?_
     refine blk_hit ?_
     obtain rfl:=sinj h
     exact hQ _ _ ⟨x8,(bD),hfr,rA,x5,i6⟩
   ·clear hx
    obtain ⟨nH,yA,hfr,nD,oD,sD⟩:=hR
    refine Zf (Za (Zo nD rfl ?_))
    refine Zg yA rfl rfl ?_
    refine Zg (.int .i64 (0)) rfl rfl ?_
    refine Zb (Zd (E_ret ?_))
    obtain rfl:=sinj h
    obtain ⟨gh,hxh,homh⟩:=OM.hand (i:=iO) plain_str hfr sD oD
    exact end2 rfl rfl (show _=yA from rfl) (show _=.int .i64 (0) from rfl) ⟨gh,hxh,_,_,rfl,homh,rfl⟩
def f33 (x0:TieHarness) (x1:Design) (x2:List Zz):Option ((List Int) × (List Bool) × Int):=
 jn (σ:=Unit) (fun _=>
  Option.bind (α:=Int) (
   lp (σ:=Int × Int) (fun xH (k8,y6)=>
    bif (decide (y6 < (((x0).Warps).length : Int))) then
     Option.bind (α:=Int) (
      (idx ((x0).Warps) y6).bind fun oD=>
      (shl64 (1:Int) oD).bind fun mC=>
      some ((bit64 .or k8 mC))
      ) fun k9=>
     xH (k9,(w64 (y6 + (1:Int))))
    else
     some (k8)
    ) big ((0:Int),(0:Int))
   ) fun l5=>
  (f91 (([l5]:List Int)) ((((x0).Warps).length:Int))).bind fun qC=>
  (f92 (([true]:List Bool)) ((((x0).Warps).length:Int))).bind fun rC=>
  Option.bind (α:=(List Int) × (List Bool)) (
   lp (σ:=(List Int) × (List Bool) × Int) (fun cF (i7,l8,i6)=>
    bif (decide (i6 < ((x2).length : Int))) then
     Option.bind (α:=(List Int) × (List Bool)) (
      (idx x2 i6).bind fun x6=>
      (rem64 (x6).Pick (((x1).Rows).length:Int)).bind fun nB=>
      (idx ((x1).Rows) nB).bind fun m7=>
      bif (x6).Lifted then
       (idx i7 (x6).Warp).bind fun y324=>
       (idx i7 (x6).Warp).bind fun bI=>
       (idx l8 (x6).Warp).bind fun dI=>
       some ((List.set i7 (Int.toNat (x6).Warp) ((bit64 .and y324 m7))),(List.set l8 (Int.toNat (x6).Warp) false))
      else
       (idx i7 (x6).Warp).bind fun oB=>
       (idx i7 (x6).Warp).bind fun iI=>
       some ((List.set i7 (Int.toNat (x6).Warp) ((bit64 .andNot oB m7))),l8)
      ) fun (l9,n9)=>
     cF (l9,n9,(w64 (i6 + (1:Int))))
    else
     some (i7,l8)
    ) big (qC,rC,(0:Int))
   ) fun (yA,aB)=>
  some (yA,aB,(0:Int))
  ) fun yH=>
 (f89 x0 x1).bind fun v8=>
 bif (v8 != (0 : Int)) then
  some (([]:List Int),([]:List Bool),v8)
 else
  bif (decide (((x2).length : Int) > (60 : Int))) then
   some (([]:List Int),([]:List Bool),(5:Int))
  else
   (f90 x2 ((fun a0=>f87 a0 x0))).bind fun dF=>
   bif dF then
    some (([]:List Int),([]:List Bool),(2:Int))
   else
    yH ()
theorem en33:Enters Try.prog 33:=enters_of Try.func33 (by kernel_rfl) rfl
theorem wk33 {gI:Gh} {wI:World} {x0:TieHarness} {x1:Design} {x2:List Zz} {up0:Value} (rp0:RV gI.m wI x0 up0) {up1:Value} (rp1:RV gI.m wI x1 up1) {up2:Value} (rp2:RV gI.m wI x2 up2) {r:(List Int) × (List Bool) × Int} (h:f33 x0 x1 x2=some r):Fn Try.prog 33 #[up0,up1,up2] gI wI (fun m w v=>∃ y0 y1 y2,v=.tuple #[y0,y1,y2]∧RV m w (r.1) y0∧RV m w (r.2.1) y1∧y2=.int .i64 (r.2.2)):=by
 unfold f33 at h
 refine fn_of_E Try.func33 rfl (Nat.le_of_ble_eq_true rfl) fun g0 hm hfr=>?_
 have rp0:RV g0.m wI x0 up0:=hm ▸ rp0
 have rp1:RV g0.m wI x1 up1:=hm ▸ rp1
 have rp2:RV g0.m wI x2 up2:=hm ▸ rp2
 show E _ 97 none _ _ _ _ _
 refine Zf (Za (Ze .plain rfl (D_box (g:=g0) rfl rp0 fun g1 w1 p1 hs q1=>?_)))
 have hfr:=hfr.ext hs
 have rp1:=rp1.ext hs
 have rp2:=rp2.ext hs
 refine Ze .plain rfl (D_box (g:=g1) rfl rp1 fun g2 w2 p2 hs q2=>?_)
 have hfr:=hfr.ext hs
 have rp2:=rp2.ext hs
 have q1:=q1.ext hs
 refine Zg (.slice none 0 0) rfl rfl ?_
 have b3:OA 4006 g2 w2 3 ([]:List Int) (.slice none 0 0):=OA.nil
 refine Zg (.slice none 0 0) rfl rfl ?_
 have b4:OA 4007 g2 w2 4 ([]:List Bool) (.slice none 0 0):=OA.nil
 refine Zg (.int .i64 (0)) rfl rfl ?_
 refine Zb (Zd (Zf (Za (Ga ((.func (.func 87) #[] #[p1])) (P_makeFunc (capf_0_1 (show ev _ _=p1 from rfl))) rfl ?_))))
 refine Zg ((.func (.func 87) #[] #[p1])) rfl rfl ?_
 refine Zb (Zd (Zq h (fun (s:Unit) e w=>∃ (g:Gh) ,Fr gI wI g w∧e 2=up2∧RV g.m w (x2:List Zz) up2∧e 3=p1∧PT g.m w (x0:TieHarness) p1∧e 4=p2∧PT g.m w (x1:Design) p2) (fun X26 yH jI h=>?_) ?_))
 ·refine Zf (Za (Ze .plain rfl (D_load (g := g2) Try.isAgg28 Try.sizeOf28 rfl q1 fun zJ aK => ?_)))
  refine Ze .plain rfl (D_load (g:=g2) Try.isAgg30 Try.sizeOf30 rfl q2 fun bK cK=>?_)
  obtain ⟨v8,kI,h⟩:=Ge h
  refine Ze .plain rfl (Zp (g:=g2) (vs:=[zJ,bK]) en89 (.cons rfl (.cons rfl .nil)) (wk89 aK cK kI) fun uC tB eM hs hr=>?_)
  have hfr:=hfr.ext hs
  have rp2:=rp2.ext hs
  have q1:=q1.ext hs
  have q2:=q2.ext hs
  subst hr
  refine Zg (.int .i64 (v8)) rfl rfl ?_
  refine Zb (Zd (Zr ?_))
  refine Zf (Za (Zn (.int .i64 (v8)) rfl rfl ?_))
  refine EL_in (.bool ((v8 != (0:Int)))) rfl rfl rfl rfl ?_
  refine Zg (.bool ((v8 != (0:Int)))) rfl rfl ?_
  refine Zb (Zd ?_)
  rcases Zt h with ⟨eD,h⟩ | ⟨eD,h⟩
  ·refine E_ct eD rfl ?_
   refine Zf (Za (Zn (.int .i64 (v8)) rfl rfl ?_))
   refine Zg (.slice none 0 0) rfl rfl ?_
   have b32:OA 4006 uC tB 3 ([]:List Int) (.slice none 0 0):=OA.nil
   refine Zg (.slice none 0 0) rfl rfl ?_
   have b33:OA 4007 uC tB 4 ([]:List Bool) (.slice none 0 0):=OA.nil
   refine Zg (.int .i64 (v8)) rfl rfl ?_
   refine Zb (Zd (E_ret (blk_r ?_)))
   refine thn_r ?_
   obtain ⟨gp34,hs,rp34⟩:=OM.pub (b32.toM)
   have hfr:=hfr.stp hs
   have b33:=b33.stp hs rfl
   obtain ⟨gp35,hs,rp35⟩:=OM.pub (b33.toM)
   have hfr:=hfr.stp hs
   have rp34:=rp34.stp hs
   obtain rfl:=sinj h
   exact end3 rfl rfl (show _=.slice none 0 0 from rfl) (show _=.slice none 0 0 from rfl) (show _=.int .i64 (v8) from rfl) ⟨_,hfr,_,_,_,rfl,rp34,rp35,rfl⟩
  ·refine E_cf eD rfl ?_
   refine Zf (Za (Zn up2 rfl rfl ?_))
   refine Ga (.int .i64 ((x2).length:Int)) (P_len Try.underlying85 rfl rp2) rfl ?_
   refine EL_in (.bool ((decide (((x2).length:Int) > (60:Int))))) rfl rfl rfl rfl ?_
   refine Zg (.bool ((decide (((x2).length:Int) > (60:Int))))) rfl rfl ?_
   refine Zb (Zd ?_)
   rcases Zt h with ⟨gD,h⟩ | ⟨gD,h⟩
   ·refine E_ct gD rfl ?_
    refine Zf (Za (Zg (.slice none 0 0) rfl rfl ?_))
    have b37:OA 4006 uC tB 3 ([]:List Int) (.slice none 0 0):=OA.nil
    refine Zg (.slice none 0 0) rfl rfl ?_
    have b38:OA 4007 uC tB 4 ([]:List Bool) (.slice none 0 0):=OA.nil
    refine Zg (.int .i64 (5)) rfl rfl ?_
    refine Zb (Zd (E_ret (blk_r ?_)))
    refine thn_r ?_
    obtain ⟨gp39,hs,rp39⟩:=OM.pub (b37.toM)
    have hfr:=hfr.stp hs
    have b38:=b38.stp hs rfl
    obtain ⟨gp40,hs,rp40⟩:=OM.pub (b38.toM)
    have hfr:=hfr.stp hs
    have rp39:=rp39.stp hs
    obtain rfl:=sinj h
    exact end3 rfl rfl (show _=.slice none 0 0 from rfl) (show _=.slice none 0 0 from rfl) (show _=.int .i64 (5) from rfl) ⟨_,hfr,_,_,_,rfl,rp39,rp40,rfl⟩
   ·refine E_cf gD rfl ?_
    refine Zf (Za (Zn up2 rfl rfl ?_))
    refine Zn ((.func (.func 87) #[] #[p1])) rfl rfl ?_
    obtain ⟨dF,lI,h⟩:=Ge h
    refine Ze .plain rfl (Zp (g:=uC) (vs:=[up2,(.func (.func 87) #[] #[p1])]) en90 (.cons rfl (.cons rfl .nil)) (wk90 rp2 ⟨87,#[],#[p1],rfl,en87,fun g' w' hch a0 b0 r hu0 hr=>by exact Fn.mono (wk87 hu0 (q1.ch hch) hr) fun _ _ _ h=>RV_bool.2 h⟩ lI) fun eF rF iM hs hr=>?_)
    have hfr:=hfr.ext hs
    have rp2:=rp2.ext hs
    have q1:=q1.ext hs
    have q2:=q2.ext hs
    subst hr
    refine Zg (.bool (dF)) rfl rfl ?_
    refine Zb (Zd ?_)
    rcases Zt h with ⟨iD,h⟩ | ⟨iD,h⟩
    ·refine E_ct iD rfl ?_
     refine Zf (Za (Zg (.slice none 0 0) rfl rfl ?_))
     have b44:OA 4006 eF rF 3 ([]:List Int) (.slice none 0 0):=OA.nil
     refine Zg (.slice none 0 0) rfl rfl ?_
     have b45:OA 4007 eF rF 4 ([]:List Bool) (.slice none 0 0):=OA.nil
     refine Zg (.int .i64 (2)) rfl rfl ?_
     refine Zb (Zd (E_ret (blk_r ?_)))
     refine thn_r ?_
     obtain ⟨gp46,hs,rp46⟩:=OM.pub (b44.toM)
     have hfr:=hfr.stp hs
     have b45:=b45.stp hs rfl
     obtain ⟨gp47,hs,rp47⟩:=OM.pub (b45.toM)
     have hfr:=hfr.stp hs
     have rp46:=rp46.stp hs
     obtain rfl:=sinj h
     exact end3 rfl rfl (show _=.slice none 0 0 from rfl) (show _=.slice none 0 0 from rfl) (show _=.int .i64 (2) from rfl) ⟨_,hfr,_,_,_,rfl,rp46,rp47,rfl⟩
    ·refine E_cf iD rfl ?_
     exact Zu (blk_n (Zd (jI () _ _ ⟨eF,hfr,rfl,rp2,rfl,q1,rfl,q2⟩ h)))
 ·rintro _ bL jM ⟨zH, hfr, yG, zG, sD, vB, aH, cH⟩ h
  refine Zf (Za (Zg (.int .i64 (0)) rfl rfl ?_))
  refine Zb (Zd ?_)
  obtain ⟨l5,hx,h⟩:=Ge h
  refine E_join (fun e w=>∃ (g:Gh) ,Fr gI wI g w∧e 2=up2∧RV g.m w (x2:List Zz) up2∧e 3=p1∧PT g.m w (x0:TieHarness) p1∧e 4=p2∧PT g.m w (x1:Design) p2∧e 11=.int .i64 (l5)) (fun Q' hQ=>?_) (fun dL kM hR=>?_)
  ·replace h := hx
   clear hx
   refine Zf (Za (Ga (fPtr p1 1) (Zc at_28_1 sD (PT.ptr vB)) rfl ?_))
   have dK:=Zm (part_TieHarness_1).1 vB
   refine Ze .plain rfl (D_load (g:=zH) Try.isAgg26 Try.sizeOf26 rfl dK fun vC aI=>?_)
   refine Ga (.int .i64 (((x0).Warps).length:Int)) (P_len Try.underlying26 rfl aI) rfl ?_
   refine Zn (.int .i64 (0)) rfl rfl ?_
   refine Zb (Zd (Zr ?_))
   refine E_lp h (fun (s:Int × Int) e w=>∃ (g:Gh) ,Fr gI wI g w∧e 2=up2∧RV g.m w (x2:List Zz) up2∧e 3=p1∧PT g.m w (x0:TieHarness) p1∧e 4=p2∧PT g.m w (x1:Design) p2∧e 11=.int .i64 (s.1)∧e 34=vC∧RV g.m w ((x0).Warps:List Int) vC∧e 35=.int .i64 ((((x0).Warps).length:Int))∧e 36=.int .i64 (s.2)) ⟨zH,hfr,yG,zG,sD,vB,aH,cH,rfl,rfl,aI,rfl,rfl⟩ (fun X66 xH mI=>?_)
   rintro ⟨k8,y6⟩ eL mM ⟨sF,hfr,tD,uD,vD,xD,yD,zD,aD,bD,dB,cD,iB⟩ h
   refine Zf (Za (Ga (.bool ((decide (y6 < (((x0).Warps).length:Int))))) (P_int iB cD rfl) rfl ?_))
   refine Zb (Zd (Zf ?_))
   rcases Zt h with ⟨jD,h⟩ | ⟨jD,h⟩
   ·refine E_ct jD rfl ?_
    refine Zu (Zd ?_)
    obtain ⟨k9,hx,h⟩:=Ge h
    refine E_join (fun e w=>∃ (g:Gh) ,Fr gI wI g w∧e 2=up2∧RV g.m w (x2:List Zz) up2∧e 3=p1∧PT g.m w (x0:TieHarness) p1∧e 4=p2∧PT g.m w (x1:Design) p2∧e 11=.int .i64 (k9)∧e 34=vC∧RV g.m w ((x0).Warps:List Int) vC∧e 35=.int .i64 ((((x0).Warps).length:Int))∧e 36=.int .i64 (y6)) (fun Q' hQ=>?_) (fun gL nM hR=>?_)
    ·replace h := hx
     clear hx
     refine Zr ?_
     refine Zf (Za ?_)
     obtain ⟨oD,tF,h⟩:=Ge h
     refine Ga (ePtr vC y6 1) (Zh (α:=Int) Try.underlying26 Try.sizeOf3 bD dB iB tF) rfl ?_
     have lK:=PT_idx dB tF
     refine Ze .plain rfl (D_load (g:=sF) Try.isAgg3 Try.sizeOf3 rfl lK fun oM mK=>?_)
     obtain rfl:=Zj.1 mK
     refine Zg (.int .i64 (oD)) rfl rfl ?_
     refine Zb (Zd (Za (Zo aD rfl ?_)))
     refine Zn (.int .i64 (oD)) rfl rfl ?_
     obtain ⟨mC,nI,h⟩:=Ge h
     refine Ga (.int .i64 (mC)) (P_int rfl rfl (congrArg (Option.map (Value.int .i64)) nI)) rfl ?_
     refine EL_in (.int .i64 ((bit64 .or k8 mC))) rfl rfl rfl rfl ?_
     refine Zg (.int .i64 ((bit64 .or k8 mC))) rfl rfl ?_
     refine Zb (blk_n ?_)
     obtain rfl:=sinj h
     exact hQ _ _ ⟨sF,hfr,tD,uD,vD,xD,yD,zD,rfl,bD,dB,cD,iB⟩
    ·clear hx
     obtain ⟨nK,hfr,dH,gH,iH,jH,kH,lH,uF,vF,xF,yF,zF⟩:=hR
     refine Za (EL_in (.int .i64 ((w64 (y6 + (1:Int))))) zF rfl rfl rfl ?_)
     refine Zn (.int .i64 ((w64 (y6 + (1:Int))))) rfl rfl ?_
     exact Zb (Zd (mI (k9,(w64 (y6 + (1:Int)))) _ _ ⟨nK,hfr,dH,gH,iH,jH,kH,lH,uF,vF,xF,yF,rfl⟩ h))
   ·refine E_cf jD rfl ?_
    refine E_exit ?_
    refine thn_e ?_
    refine thn_e ?_
    refine blk_hit ?_
    obtain rfl:=sinj h
    exact hQ _ _ ⟨sF,hfr,tD,uD,vD,xD,yD,zD,aD⟩
  ·clear hx
   obtain ⟨oK,hfr,mH,iA,aE,rA,nH,yB,aG⟩:=hR
   refine Zf ?_
   have pK:=Zm (part_TieHarness_1).1 rA
   refine Zs (x:=.tmp 47) Try.isAgg26 Try.sizeOf26 pK fun qK sK pI=>?_
   obtain ⟨qC,qI,h⟩:=Ge h
   have tK:=Zm (part_TieHarness_1).1 rA
   refine Zs (x:=.tmp 52) Try.isAgg26 Try.sizeOf26 tK fun uK vK sI=>?_
   obtain ⟨rC,tI,h⟩:=Ge h
   refine E_drawL (g:=oK) (n:=13) [(1,(fun v g w=>RV g.m w ([l5]:List Int) v∧OS 3046 g w 3 ([l5]:List Int) v∧FullV v)),(5,(fun v g w=>OM 9050 g w 3 qC v)),(6,(fun v g w=>RV g.m w ([true]:List Bool) v∧OS 3051 g w 4 ([true]:List Bool) v∧FullV v)),(10,(fun v g w=>OM 9055 g w 4 rC v))] [0,1,2,3,4,5,6,7,8,9,10,11,12] rfl mixed (by kernel_rfl) (⟨fun _=>up_and up_rv (up_and up_os (up_eq _)),fun _=>up_om,fun _=>up_and up_rv (up_and up_os (up_eq _)),fun _=>up_om,trivial⟩) ?_
   refine Gd (.int .i64 (l5)) rfl rfl (Zk aG) ?_
   refine L_do (φ:=fun v g w=>RV g.m w ([l5]:List Int) v∧OS 3046 g w 3 ([l5]:List Int) v∧FullV v) rfl rfl .plain (fun g w hd=>D_buildSlice (g:=g) 3046 (xs:=([l5]:List Int)) (vs:=[.int .i64 (l5)]) Try.underlying26 Try.sizeOf3 Try.zeroValue3 rfl rfl (.cons rfl .nil) (RVs.cons (Zj.2 rfl) RVs.nil) rfl rfl fun g' w' v hs o r hxt hfl=>⟨g',hxt,r,o,hfl⟩) (fun x8 hv=>?_)
   clear hv
   refine Gd (fPtr p1 1) rfl rfl (Zc at_28_1 aE (PT.ptr rA)) ?_
   refine L_ld (c:=qK) rfl rfl .plain (fun _ _ h=>h.ch) pI rfl ?_
   refine Gd (.int .i64 (((x0).Warps).length:Int)) rfl rfl (P_len Try.underlying26 rfl sK) ?_
   refine L_do (φ:=fun v g w=>OM 9050 g w 3 qC v) rfl rfl .plain (fun g w hd=>D_callG (g:=g) (vs:=[x8,.int .i64 (((x0).Warps).length:Int)]) en91 (.cons rfl (.cons rfl .nil)) (v91_0 (iO:=9050) (word (A:=fun g w=>RV g.m w ([l5]:List Int) x8∧OS 3046 g w 3 ([l5]:List Int) x8∧FullV x8) 1 rfl rfl (deps_of hd)).1 qI) fun g' w' v hs hr=>⟨g',hs,hr⟩) (fun g8 hv=>?_)
   clear hv
   refine L_do (φ:=fun v g w=>RV g.m w ([true]:List Bool) v∧OS 3051 g w 4 ([true]:List Bool) v∧FullV v) rfl rfl .plain (fun g w hd=>D_buildSlice (g:=g) 3051 (xs:=([true]:List Bool)) (vs:=[.bool true]) Try.underlying88 Try.sizeOf4 Try.zeroValue4 rfl rfl (.cons rfl .nil) (RVs.cons (RV_bool.2 rfl) RVs.nil) rfl rfl fun g' w' v hs o r hxt hfl=>⟨g',hxt,r,o,hfl⟩) (fun a9 hv=>?_)
   clear hv
   refine Gd (fPtr p1 1) rfl rfl (Zc at_28_1 aE (PT.ptr rA)) ?_
   refine L_ld (c:=uK) rfl rfl .plain (fun _ _ h=>h.ch) sI rfl ?_
   refine Gd (.int .i64 (((x0).Warps).length:Int)) rfl rfl (P_len Try.underlying26 rfl vK) ?_
   refine L_do (φ:=fun v g w=>OM 9055 g w 4 rC v) rfl rfl .plain (fun g w hd=>D_callG (g:=g) (vs:=[a9,.int .i64 (((x0).Warps).length:Int)]) en92 (.cons rfl (.cons rfl .nil)) (v92_0 (iO:=9055) (word (A:=fun g w=>RV g.m w ([true]:List Bool) a9∧OS 3051 g w 4 ([true]:List Bool) a9∧FullV a9) 6 rfl rfl (deps_of hd)).1 tI) fun g' w' v hs hr=>⟨g',hs,hr⟩) (fun m8 hv=>?_)
   clear hv
   refine Gd g8 rfl rfl (P_assign rfl) ?_
   refine Gd m8 rfl rfl (P_assign rfl) ?_
   refine L_nil fun xK pM hall=>?_
   have hs:=hall.1
   have hfr:=hfr.ext hs
   have iA:=iA.ext hs
   have yB:=yB.ext hs
   have qM:=(word_all (A:=fun g w=>RV g.m w ([l5]:List Int) x8∧OS 3046 g w 3 ([l5]:List Int) x8∧FullV x8) 1 rfl hall).1
   have o95:=(word_all (A:=fun g w=>RV g.m w ([l5]:List Int) x8∧OS 3046 g w 3 ([l5]:List Int) x8∧FullV x8) 1 rfl hall).2.1
   have iL:=(word_all (A:=fun g w=>RV g.m w ([true]:List Bool) a9∧OS 3051 g w 4 ([true]:List Bool) a9∧FullV a9) 6 rfl hall).1
   have o100:=(word_all (A:=fun g w=>RV g.m w ([true]:List Bool) a9∧OS 3051 g w 4 ([true]:List Bool) a9∧FullV a9) 6 rfl hall).2.1
   have b105:=(word_all (A:=fun g w=>OM 9050 g w 3 qC g8) 5 rfl hall)
   have b106:=(word_all (A:=fun g w=>OM 9055 g w 4 rC m8) 10 rfl hall)
   clear hs hall
   refine Zb (Zd ?_)
   obtain ⟨⟨yA,aB⟩,hx,h⟩:=Ge h
   refine E_join (fun e w=>∃ (g:Gh) ,Fr gI wI g w∧e 6=g8∧OM 9050 g w 3 (yA:List Int) g8∧e 7=m8∧OM 9055 g w 4 (aB:List Bool) m8) (fun Q' hQ=>?_) (fun yK jL hR=>?_)
   ·replace h := hx
    clear hx
    refine Zf (Za (Zo mH rfl ?_))
    refine Ga (.int .i64 ((x2).length:Int)) (P_len Try.underlying85 rfl iA) rfl ?_
    refine Zn (.int .i64 (0)) rfl rfl ?_
    refine Zb (Zd (Zr ?_))
    refine E_lp h (fun (s:(List Int) × (List Bool) × Int) e w=>∃ (g:Gh) ,Fr gI wI g w∧e 4=p2∧PT g.m w (x1:Design) p2∧e 6=g8∧OM 9050 g w 3 (s.1:List Int) g8∧e 7=m8∧OM 9055 g w 4 (s.2.1:List Bool) m8∧e 56=up2∧RV g.m w (x2:List Zz) up2∧e 57=.int .i64 (((x2).length:Int))∧e 58=.int .i64 (s.2.2)) ⟨xK,hfr,nH,yB,rfl,b105,rfl,b106,rfl,iA,rfl,rfl⟩ (fun X223 cF oH=>?_)
    rintro ⟨i7,l8,i6⟩ zK lL ⟨lD,hfr,u9,u3,n8,t5,y9,x5,z9,o0,bA,r8⟩ h
    refine Zf (Za (EL_in (.bool ((decide (i6 < ((x2).length:Int))))) r8 bA rfl rfl ?_))
    refine Zb (Zd (Zf ?_))
    rcases Zt h with ⟨zB,h⟩ | ⟨zB,h⟩
    ·refine E_ct zB rfl ?_
     refine Zu (Zd ?_)
     obtain ⟨⟨l9,n9⟩,hx,h⟩:=Ge h
     refine E_join (fun e w=>∃ (g:Gh) ,Fr gI wI g w∧e 4=p2∧PT g.m w (x1:Design) p2∧e 6=g8∧OM 9050 g w 3 (l9:List Int) g8∧e 7=m8∧OM 9055 g w 4 (n9:List Bool) m8∧e 56=up2∧RV g.m w (x2:List Zz) up2∧e 57=.int .i64 (((x2).length:Int))∧e 58=.int .i64 (i6)) (fun Q' hQ=>?_) (fun aL mL hR=>?_)
     ·replace h := hx
      clear hx
      refine Zr ?_
      refine Zf (Za ?_)
      obtain ⟨x6,bE,h⟩:=Ge h
      refine Ga (ePtr up2 i6 3) (Zh (α:=Zz) Try.underlying85 Try.sizeOf87 z9 o0 r8 bE) rfl ?_
      have uI:=PT_idx o0 bE
      refine Ze .plain rfl (D_load (g:=lD) Try.isAgg87 Try.sizeOf87 rfl uI fun vI nD=>?_)
      refine Ze .plain rfl (D_allocOc (g:=lD) 2015 (⟨0,0,false⟩:Zz) Try.zeroValue87 (fun m w=>⟨_,(rep_two Zy (rep_two Zy rep_bool)),rfl⟩) fun yI nL lB hs b285 cb=>?_)
      have hfr:=hfr.stp hs
      have u3:=u3.stp hs
      have t5:=t5.stp hs rfl
      have x5:=x5.stp hs rfl
      have o0:=o0.stp hs
      have nD:=nD.stp hs
      clear cb
      refine Ze .plain rfl (D_storeOc (g:=yI) (v:=vI) Try.sizeOf87 rfl b285 rfl nD fun zI oL hs b286 cb=>?_)
      clear cb
      have hfr:=hfr.stp hs
      have u3:=u3.stp hs
      have t5:=t5.stp hs rfl
      have x5:=x5.stp hs rfl
      have o0:=o0.stp hs
      refine Zb (Zd (Zf ?_))
      have eJ:=Zm (part_Design_1).1 u3
      refine Zs (x:=.tmp 62) Try.isAgg26 Try.sizeOf26 eJ fun bG cG pH=>?_
      refine L_loadO (x:=.tmp 64) part_FaultSight_0.1 Try.isAgg3 Try.sizeOf3 b286 fun pL gJ qH=>?_
      obtain rfl:=Zj.1 gJ
      have iJ:=Zm (part_Design_1).1 u3
      refine Zs (x:=.tmp 66) Try.isAgg26 Try.sizeOf26 iJ fun jJ kJ sH=>?_
      obtain ⟨nB,tH,h⟩:=Ge h
      obtain ⟨m7,iE,h⟩:=Ge h
      have lJ:=PT_idx cG iE
      refine Zs (x:=.tmp 70) Try.isAgg3 Try.sizeOf3 lJ fun qL mJ uH=>?_
      obtain rfl:=Zj.1 mJ
      refine E_drawL (g:=zI) (n:=11) [] [0,1,2,3,4,5,6,7,8,9,10] rfl mixed (by kernel_rfl) trivial ?_
      refine Gd (fPtr p2 1) rfl rfl (Zc at_30_1 u9 (PT.ptr u3)) ?_
      refine L_ld (c:=bG) rfl rfl .plain (fun _ _ h=>h.ch) pH rfl ?_
      refine Gd (fPtr lB 0) rfl rfl (Zc at_87_0 rfl (OB.ptr b286)) ?_
      refine L_ld (c:=.int .i64 ((x6).Pick)) rfl rfl .plain (fun _ _ h=>⟨h.ch,fun b hb _=>h.below.block b hb⟩) qH rfl ?_
      refine Gd (fPtr p2 1) rfl rfl (Zc at_30_1 u9 (PT.ptr u3)) ?_
      refine L_ld (c:=jJ) rfl rfl .plain (fun _ _ h=>h.ch) sH rfl ?_
      refine Gd (.int .i64 (((x1).Rows).length:Int)) rfl rfl (P_len Try.underlying26 rfl kJ) ?_
      refine Gd (.int .i64 (nB)) rfl rfl (P_int rfl rfl (congrArg (Option.map (Value.int .i64)) tH)) ?_
      refine Gd (ePtr bG nB 1) rfl rfl (Zh (α:=Int) Try.underlying26 Try.sizeOf3 rfl cG rfl iE) ?_
      refine L_ld (c:=.int .i64 (m7)) rfl rfl .plain (fun _ _ h=>h.ch) uH rfl ?_
      refine Gd (.int .i64 (m7)) rfl rfl (P_assign rfl) ?_
      refine L_nl fun d9 rL hs=>?_
      have hfr:=hfr.ext hs
      have u3:=u3.ext hs
      have t5:=t5.ext hs
      have x5:=x5.ext hs
      have o0:=o0.ext hs
      have b286:=b286.ext hs
      clear hs
      refine Zb (Zd (Zf (Za (Ga (fPtr lB 2) (Zc at_87_2 rfl (OB.ptr b286)) rfl ?_))))
      refine Ze .plain rfl (D_loadF (g:=d9) part_FaultSight_2.1 Try.isAgg4 Try.sizeOf4 rfl b286 fun tL nJ=>?_)
      obtain rfl:=RV_bool.1 nJ
      refine Zb (Zd ?_)
      rcases Zt h with ⟨cC,h⟩ | ⟨cC,h⟩
      ·refine E_ct cC rfl ?_
       refine Zf (Za (Zo n8 rfl ?_))
       refine Ga (fPtr lB 1) (Zc at_87_1 rfl (OB.ptr b286)) rfl ?_
       refine Ze .plain rfl (D_loadF (g:=d9) part_FaultSight_1.1 Try.isAgg3 Try.sizeOf3 rfl b286 fun uL oJ=>?_)
       obtain rfl:=Zj.1 oJ
       obtain ⟨y324,lE,h⟩:=Ge h
       refine Ga (ePtr g8 (x6).Warp 1) (P_indexAddrM (α:=Int) Try.underlying26 Try.sizeOf3 rfl t5 rfl lE) rfl ?_
       refine Ze .plain rfl (D_loadM (g:=d9) Try.isAgg3 Try.sizeOf3 rfl t5 lE fun vL pJ=>?_)
       obtain rfl:=Zj.1 pJ
       refine Zn (.int .i64 (m7)) rfl rfl ?_
       refine EL_in (.int .i64 ((bit64 .and y324 m7))) rfl rfl rfl rfl ?_
       obtain ⟨bI,mE,h⟩:=Ge h
       refine Ga (ePtr g8 (x6).Warp 1) (P_indexAddrM (α:=Int) Try.underlying26 Try.sizeOf3 rfl t5 rfl mE) rfl ?_
       refine Ze .plain rfl (D_storeM (g:=d9) (α:=Int) (a':=((bit64 .and y324 m7))) Try.sizeOf3 rfl t5 mE rfl (Zj.2 rfl) fun eG xL hs b327=>?_)
       have hfr:=hfr.stp hs
       have u3:=u3.stp hs
       have x5:=x5.stp hs rfl
       have o0:=o0.stp hs
       have b286:=b286.stp hs rfl
       refine Zb (Zd (Za (Zo y9 rfl ?_)))
       refine Ga (fPtr lB 1) (Zc at_87_1 rfl (OB.ptr b286)) rfl ?_
       refine Ze .plain rfl (D_loadF (g:=eG) part_FaultSight_1.1 Try.isAgg3 Try.sizeOf3 rfl b286 fun yL qJ=>?_)
       obtain rfl:=Zj.1 qJ
       obtain ⟨dI,oE,h⟩:=Ge h
       refine Ga (ePtr m8 (x6).Warp 1) (P_indexAddrM (α:=Bool) Try.underlying88 Try.sizeOf4 rfl x5 rfl oE) rfl ?_
       refine Ze .plain rfl (D_storeM (g:=eG) (α:=Bool) (a':=false) Try.sizeOf4 rfl x5 oE rfl (RV_bool.2 rfl) fun rJ zL hs b331=>?_)
       have hfr:=hfr.stp hs
       have u3:=u3.stp hs
       have b327:=b327.stp hs rfl
       have o0:=o0.stp hs
       refine Zb (blk_n ?_)
       obtain ⟨rfl,rfl⟩:=pairs2 h
       exact hQ _ _ ⟨rJ,hfr,u9,u3,n8,b327,y9,b331,z9,o0,bA,r8⟩
      ·refine E_cf cC rfl ?_
       refine Za (Zo n8 rfl ?_)
       refine Ga (fPtr lB 1) (Zc at_87_1 rfl (OB.ptr b286)) rfl ?_
       refine Ze .plain rfl (D_loadF (g:=d9) part_FaultSight_1.1 Try.isAgg3 Try.sizeOf3 rfl b286 fun aM sJ=>?_)
       obtain rfl:=Zj.1 sJ
       obtain ⟨oB,rE,h⟩:=Ge h
       refine Ga (ePtr g8 (x6).Warp 1) (P_indexAddrM (α:=Int) Try.underlying26 Try.sizeOf3 rfl t5 rfl rE) rfl ?_
       refine Ze .plain rfl (D_loadM (g:=d9) Try.isAgg3 Try.sizeOf3 rfl t5 rE fun bM vJ=>?_)
       obtain rfl:=Zj.1 vJ
       refine Zn (.int .i64 (m7)) rfl rfl ?_
       refine EL_in (.int .i64 ((bit64 .andNot oB m7))) rfl rfl rfl rfl ?_
       obtain ⟨iI,uE,h⟩:=Ge h
       refine Ga (ePtr g8 (x6).Warp 1) (P_indexAddrM (α:=Int) Try.underlying26 Try.sizeOf3 rfl t5 rfl uE) rfl ?_
       refine Ze .plain rfl (D_storeM (g:=d9) (α:=Int) (a':=((bit64 .andNot oB m7))) Try.sizeOf3 rfl t5 uE rfl (Zj.2 rfl) fun xJ cM hs b337=>?_)
       have hfr:=hfr.stp hs
       have u3:=u3.stp hs
       have x5:=x5.stp hs rfl
       have o0:=o0.stp hs
       refine Zb (blk_n ?_)
       obtain ⟨rfl,rfl⟩:=pairs2 h
       exact hQ _ _ ⟨xJ,hfr,u9,u3,n8,b337,y9,x5,z9,o0,bA,r8⟩
     ·clear hx
      obtain ⟨yJ,hfr,gG,hG,iG,jG,kG,lG,vE,xE,yE,zE⟩:=hR
      refine Za (EL_in (.int .i64 ((w64 (i6 + (1:Int))))) zE rfl rfl rfl ?_)
      refine Zn (.int .i64 ((w64 (i6 + (1:Int))))) rfl rfl ?_
      exact Zb (Zd (oH (l9,n9,(w64 (i6 + (1:Int)))) _ _ ⟨yJ,hfr,gG,hG,iG,jG,kG,lG,vE,xE,yE,rfl⟩ h))
    ·refine E_cf zB rfl ?_
     refine E_exit ?_
     refine thn_e ?_
     refine thn_e ?_
     refine blk_hit ?_
     obtain ⟨rfl,rfl⟩:=pairs2 h
     exact hQ _ _ ⟨lD,hfr,n8,t5,y9,x5⟩
   ·clear hx
    obtain ⟨dM,hfr,mG,sG,xG,mB⟩:=hR
    refine Zf (Za (Zo mG rfl ?_))
    refine Zo xG rfl ?_
    refine Zg g8 rfl rfl ?_
    refine Zg m8 rfl rfl ?_
    refine Zg (.int .i64 (0)) rfl rfl ?_
    refine Zb (Zd (E_ret ?_))
    obtain ⟨gp340,hs,rp340⟩:=OM.pub sG
    have hfr:=hfr.stp hs
    have mB:=mB.stp hs rfl
    obtain ⟨gp341,hs,rp341⟩:=OM.pub mB
    have hfr:=hfr.stp hs
    have rp340:=rp340.stp hs
    obtain rfl:=sinj h
    exact end3 rfl rfl (show _=g8 from rfl) (show _=m8 from rfl) (show _=.int .i64 (0) from rfl) ⟨_,hfr,_,_,_,rfl,rp340,rp341,rfl⟩
def f74 (x0:FaultFaultLoom) (x1:List Zv):Option ((List Str)):=
 (f71 ((((x0).FaultLoom).Design).Rows)).bind fun y8=>
 (f145 x1).bind fun y11=>
 (f146 y11 ((fun a0 a1=>f147 a0 a1))).bind fun l9=>
 Option.bind (α:=(List Int) × (List (Int × Bool))) (
  lp (σ:=(List Int) × (List (Int × Bool)) × Int) (fun oH (mC,qC,l5)=>
   bif (decide (l5 < ((l9).length : Int))) then
    Option.bind (α:=(List Int) × (List (Int × Bool))) (
     (idx l9 l5).bind fun y55=>
     (fchg ((y55).Kind) x0 y55 mC qC).bind fun cF=>
     some (cF.1,cF.2)
     ) fun (iA,rA)=>
    oH (iA,rA,(w64 (l5 + (1:Int))))
   else
    some (mC,qC)
   ) big (y8,([]:List (Int × Bool)),(0:Int))
  ) fun (yA,m8)=>
 (f39 (((x0).FaultLoom).Harness) ((⟨(((x0).FaultLoom).Design).Hooks,yA⟩:Design))).bind fun y79=>
 Option.bind (α:=(List Str)) (
  lp (σ:=(List Str) × Int) (fun dF (y6,o0)=>
   bif (decide (o0 < ((y79.1).length : Int))) then
    Option.bind (α:=(List Str)) (
     (idx y6 o0).bind fun dB=>
     Option.bind (α:=(List UInt8)) (
      lp (σ:=(List UInt8) × (List (Int × Bool))) (fun eF (i7,y9)=>
       bif y9.isEmpty then
        some (i7)
       else pickAll y9 fun n8 rm160=>
        (idx i7 n8.1).bind fun yH=>
        eF ((List.set i7 (Int.toNat n8.1) ((46:UInt8))),rm160)
       ) big ((dB).b,m8)
      ) fun v8=>
     (idx y6 o0).bind fun y165=>
     some ((List.set y6 (Int.toNat o0) ((⟨v8⟩:Str))))
     ) fun n9=>
    dF (n9,(w64 (o0 + (1:Int))))
   else
    some (y6)
   ) big (y79.1,(0:Int))
  ) fun iB=>
 some (iB)
theorem en74:Enters Try.prog 74:=enters_of Try.func74 (by kernel_rfl) rfl
theorem wk74 {gI:Gh} {wI:World} {x0:FaultFaultLoom} {x1:List Zv} {up0:Value} (rp0:RV gI.m wI x0 up0) {up1:Value} (rp1:RV gI.m wI x1 up1) {r:(List Str)} (h:f74 x0 x1=some r):Fn Try.prog 74 #[up0,up1] gI wI (fun m w v=>RV m w (r) v):=by
 unfold f74 at h
 refine fn_of_E Try.func74 rfl (Nat.le_of_ble_eq_true rfl) fun g0 hm hfr=>?_
 have rp0:RV g0.m wI x0 up0:=hm ▸ rp0
 have rp1:RV g0.m wI x1 up1:=hm ▸ rp1
 show E _ 79 none _ _ _ _ _
 refine Zf (Za (Ze .plain rfl (D_box (g:=g0) rfl rp0 fun g1 w1 p1 hs q1=>?_)))
 have hfr:=hfr.ext hs
 have rp1:=rp1.ext hs
 refine Zg (.slice none 0 0) rfl rfl ?_
 have b2:OA 4004 g1 w1 9 ([]:List Str) (.slice none 0 0):=OA.nil
 refine Zb (Zd (Zf (Za (Ga (fPtr p1 0) (Zc at_170_0 rfl (PT.ptr q1)) rfl ?_))))
 have q3:=Zm (part_FaultFaultLoom_0).1 q1
 refine Ga (fPtr (fPtr p1 0) 2) (Zc at_32_1 rfl (PT.ptr q3)) rfl ?_
 have q4:=Zm (part_FaultLoom_1).1 q3
 refine Ga (fPtr (fPtr (fPtr p1 0) 2) 1) (Zc at_30_1 rfl (PT.ptr q4)) rfl ?_
 have q5:=Zm (part_Design_1).1 q4
 refine Ze .plain rfl (D_load (g:=g1) Try.isAgg26 Try.sizeOf26 rfl q5 fun v6 r6=>?_)
 obtain ⟨y8,vI,h⟩:=Ge h
 refine Ze .plain rfl (D_callG (g:=g1) (vs:=[v6]) en71 (.cons rfl .nil) (v71_0 (iO:=9018) r6 vI) fun g7 w7_ v7 hs hr=>?_)
 have hfr:=hfr.ext hs
 have rp1:=rp1.ext hs
 have q1:=q1.ext hs
 have hm7:=hr
 refine Ze .plain rfl (D_makeMap (g:=g7) (Value.int .i64) Bool 8019 fun g9 w9 v9 hs m9=>?_)
 have hfr:=hfr.stp hs
 have rp1:=rp1.stp hs
 have q1:=q1.stp hs
 have hm7:=hm7.stp hs rfl
 refine Zg v7 rfl rfl ?_
 refine Zg v9 rfl rfl ?_
 refine Zb (Zd (Zf (Za (Zn up1 rfl rfl ?_))))
 obtain ⟨y11,zH,h⟩:=Ge h
 refine Ze .plain rfl (D_callG (g:=g9) (vs:=[up1]) en145 (.cons rfl .nil) (v145_0 (iO:=9021) rp1 zH) fun yI dK r8 hs hr=>?_)
 have hfr:=hfr.ext hs
 have q1:=q1.ext hs
 have hm7:=hm7.ext hs
 have m9:=m9.ext hs
 have hm10:=hr
 refine Zg r8 rfl rfl ?_
 refine Zb (Zd (Zf (Za (Zn r8 rfl rfl ?_))))
 obtain ⟨l9,aI,h⟩:=Ge h
 refine Ze .plain rfl (D_callM (g:=yI) (i:=9021) (vs:=[r8,.func (.func 147) #[] #[]]) en146 (.cons rfl (.cons rfl .nil)) (wk146 hm10 ⟨147,#[],#[],rfl,en147,fun g' w' hch a0 a1 b0 b1 r hu0 hu1 hr=>by exact Fn.mono (wk147 hu0 hu1  hr) fun _ _ _ h=>Zj.2 h⟩ aI) fun zI lK jL hs hr=>?_)
 obtain ⟨hrv,b12⟩:=hr
 have hfr:=hfr.stp hs
 have q1:=q1.stp hs
 have hm7:=hm7.stp hs rfl
 have m9:=m9.stp hs rfl
 subst hrv
 refine Zb (Zd (Zf (Za (Ze .plain rfl (D_callG (g:=zI) (vs:=[]) en149 .nil (wk149 (i:=8800)) fun eJ lL cD hs m14=>?_)))))
 have hfr:=hfr.ext hs
 have b12:=b12.ext hs
 have q1:=q1.ext hs
 have hm7:=hm7.ext hs
 have m9:=m9.ext hs
 refine Zg cD rfl rfl ?_
 refine Zb (Zd ?_)
 obtain ⟨⟨yA,m8⟩,hx,h⟩:=Ge h
 refine E_join (fun e w=>∃ (g:Gh) ,Fr gI wI g w∧e 2=p1∧PT g.m w (x0:FaultFaultLoom) p1∧e 5=v7∧OM 9018 g w 3 (yA:List Int) v7∧e 6=v9∧MP (Value.int .i64) 8019 g w (m8:List (Int × Bool)) v9) (fun Q' hQ=>?_) (fun mK mL hR=>?_)
 ·replace h := hx
  clear hx
  refine Zf (Za (Zn r8 rfl rfl ?_))
  refine Ga (.int .i64 ((l9).length:Int)) (P_lenM Try.underlying57 rfl b12) rfl ?_
  refine Zn (.int .i64 (0)) rfl rfl ?_
  refine Zb (Zd (Zr ?_))
  refine E_lp h (fun (s:(List Int) × (List (Int × Bool)) × Int) e w=>∃ (g:Gh) ,Fr gI wI g w∧e 1=r8∧OM 9021 g w 56 (l9:List Zv) r8∧e 2=p1∧PT g.m w (x0:FaultFaultLoom) p1∧e 5=v7∧OM 9018 g w 3 (s.1:List Int) v7∧e 6=v9∧MP (Value.int .i64) 8019 g w (s.2.1:List (Int × Bool)) v9∧e 7=cD∧MP (Value.int .i64) 8800 g w chgM cD∧e 25=r8∧e 26=.int .i64 (((l9).length:Int))∧e 27=.int .i64 (s.2.2)) ⟨eJ,hfr,rfl,b12,rfl,q1,rfl,hm7,rfl,m9,rfl,m14,rfl,rfl,rfl⟩ (fun X41 oH bI=>?_)
  rintro ⟨mC,qC,l5⟩ nK nL ⟨rF,hfr,lG,t5,rC,x5,uC,x8,vC,a9,yD,i6,eD,gD,lB⟩ h
  refine Zf (Za (EL_in (.bool ((decide (l5 < ((l9).length:Int))))) lB gD rfl rfl ?_))
  refine Zb (Zd (Zf ?_))
  rcases Zt h with ⟨uD,h⟩ | ⟨uD,h⟩
  ·refine E_ct uD rfl ?_
   refine Zu (Zd ?_)
   obtain ⟨⟨iA,rA⟩,hx,h⟩:=Ge h
   refine E_join (fun e w=>∃ (g:Gh) ,Fr gI wI g w∧e 1=r8∧OM 9021 g w 56 (l9:List Zv) r8∧e 2=p1∧PT g.m w (x0:FaultFaultLoom) p1∧e 5=v7∧OM 9018 g w 3 (iA:List Int) v7∧e 6=v9∧MP (Value.int .i64) 8019 g w (rA:List (Int × Bool)) v9∧e 7=cD∧MP (Value.int .i64) 8800 g w chgM cD∧e 25=r8∧e 26=.int .i64 (((l9).length:Int))∧e 27=.int .i64 (l5)) (fun Q' hQ=>?_) (fun oK oL hR=>?_)
   ·replace h := hx
    clear hx
    refine Zr ?_
    refine Zf (Za ?_)
    obtain ⟨y55,sF,h⟩:=Ge h
    refine Ga (ePtr r8 l5 5) (P_indexAddrM (α:=Zv) Try.underlying57 Try.sizeOf56 eD t5 lB sF) rfl ?_
    refine Ze .plain rfl (D_loadM (g:=rF) Try.isAgg56 Try.sizeOf56 rfl t5 sF fun gJ tF=>?_)
    refine Ze .plain rfl (D_allocOc (g:=rF) 2009 (⟨0,0,0,0,false⟩:Zv) Try.zeroValue56 (fun m w=>⟨_,(rep_two Zy (rep_two Zy (rep_two Zy (rep_two Zy rep_bool)))),rfl⟩) fun iJ pL jJ hs b57 cb=>?_)
    have hfr:=hfr.stp hs
    have t5:=t5.stp hs rfl
    have x5:=x5.stp hs
    have x8:=x8.stp hs rfl
    have a9:=a9.stp hs rfl
    have i6:=i6.stp hs rfl
    have tF:=tF.stp hs
    clear cb
    refine Ze .plain rfl (D_storeOc (g:=iJ) (v:=gJ) Try.sizeOf56 rfl b57 rfl tF fun iD qL hs b58 cb=>?_)
    clear cb
    have hfr:=hfr.stp hs
    have t5:=t5.stp hs rfl
    have x5:=x5.stp hs
    have x8:=x8.stp hs rfl
    have a9:=a9.stp hs rfl
    have i6:=i6.stp hs rfl
    refine Zb (Zd (Za (Zo yD rfl ?_)))
    refine Ga (fPtr jJ 0) (Zc at_56_0 rfl (OB.ptr b58)) rfl ?_
    refine Ze .plain rfl (D_loadF (g:=iD) part_FaultDamage_0.1 Try.isAgg54 Try.sizeOf54 rfl b58 fun rL kJ=>?_)
    obtain rfl:=Zj.1 kJ
    refine Ze .plain rfl (D_lookup (g:=iD) (z0:=fv0) Try.underlying290 key_54 Try.zeroValue293 (fun _ _=>RV_fv.2 rfl) rfl i6 rfl fun tL lJ=>?_)
    have dI:=RV_fv.1 lJ
    refine Ze .plain rfl (D_load (g:=iD) Try.isAgg170 Try.sizeOf170 rC x5 fun v62 mJ=>?_)
    refine Ze .plain rfl (D_loadO (g:=iD) Try.isAgg56 Try.sizeOf56 rfl b58 fun uL nJ=>?_)
    refine Zo uC rfl ?_
    refine Zo vC rfl ?_
    obtain ⟨cF,iI,h⟩:=Ge h
    refine Ze .plain rfl (D_chg (g:=iD) (i:=9018) (j:=8019) iI (show _=_ from dI) rfl rfl rfl rfl mJ nJ x8 a9 rfl rfl fun vL xL jI pK yL hs hs2 mr65 mb65=>?_)
    have hfr:=hfr.stp hs
    have t5:=t5.stp hs rfl
    have x5:=x5.stp hs
    have i6:=i6.stp hs rfl
    have hfr:=hfr.stp hs2
    have t5:=t5.stp hs2 rfl
    have x5:=x5.stp hs2
    have i6:=i6.stp hs2 rfl
    refine Zb (blk_n ?_)
    obtain ⟨rfl,rfl⟩:=pairs2 h
    exact hQ _ _ ⟨jI,hfr,lG,t5,rC,x5,uC,mr65,vC,mb65,yD,i6,eD,gD,lB⟩
   ·clear hx
    obtain ⟨oJ,hfr,mG,sG,xG,yG,zG,aH,cH,dH,gH,iH,uF,vF,xF⟩:=hR
    refine Za (EL_in (.int .i64 ((w64 (l5 + (1:Int))))) xF rfl rfl rfl ?_)
    refine Zn (.int .i64 ((w64 (l5 + (1:Int))))) rfl rfl ?_
    exact Zb (Zd (bI (iA,rA,(w64 (l5 + (1:Int)))) _ _ ⟨oJ,hfr,mG,sG,xG,yG,zG,aH,cH,dH,gH,iH,uF,vF,rfl⟩ h))
  ·refine E_cf uD rfl ?_
   refine E_exit ?_
   refine thn_e ?_
   refine thn_e ?_
   refine blk_hit ?_
   obtain ⟨rfl,rfl⟩:=pairs2 h
   exact hQ _ _ ⟨rF,hfr,rC,x5,uC,x8,vC,a9⟩
 ·clear hx
  obtain ⟨pH,hfr,zD,aB,jH,kH,lH,u9⟩:=hR
  refine Zf (Za (Ga (fPtr p1 0) (Zc at_170_0 zD (PT.ptr aB)) rfl ?_))
  have qH:=Zm (part_FaultFaultLoom_0).1 aB
  refine Ga (fPtr (fPtr p1 0) 0) (Zc at_32_0 rfl (PT.ptr qH)) rfl ?_
  have pJ:=Zm (part_FaultLoom_0).1 qH
  refine Ze .plain rfl (D_load (g:=pH) Try.isAgg28 Try.sizeOf28 rfl pJ fun qJ yF=>?_)
  refine Ga (fPtr p1 0) (Zc at_170_0 zD (PT.ptr aB)) rfl ?_
  have sH:=Zm (part_FaultFaultLoom_0).1 aB
  refine Ga (fPtr (fPtr p1 0) 2) (Zc at_32_1 rfl (PT.ptr sH)) rfl ?_
  have tH:=Zm (part_FaultLoom_1).1 sH
  refine Ga (fPtr (fPtr (fPtr p1 0) 2) 0) (Zc at_30_0 rfl (PT.ptr tH)) rfl ?_
  have rJ:=Zm (part_Design_0).1 tH
  refine Ze .plain rfl (D_load (g:=pH) Try.isAgg3 Try.sizeOf3 rfl rJ fun zL sJ=>?_)
  obtain rfl:=Zj.1 sJ
  refine Zo jH rfl ?_
  obtain ⟨gp77,hs,rp77⟩:=OM.pub kH
  have hfr:=hfr.stp hs
  have u9:=u9.stp hs rfl
  have yF:=yF.stp hs
  have uH:RV gp77.m _ (⟨(((x0).FaultLoom).Design).Hooks,yA⟩:Design) (.agg (setCh [[.int .i64 0],[.slice none 0 0]] [(0,.int .i64 ((((x0).FaultLoom).Design).Hooks)),(1,v7)]).flatten.toArray):=RV_build rfl (rep_pair (rfl) (rep_last (RV.cells rp77)))
  generalize kI:(Value.agg (setCh [[.int .i64 0],[.slice none 0 0]] [(0,.int .i64 ((((x0).FaultLoom).Design).Hooks)),(1,v7)]).flatten.toArray)=xH at uH
  refine Ga xH (kI ▸ P_build (vs:=[(0,.int .i64 ((((x0).FaultLoom).Design).Hooks)),(1,v7)]) [[.int .i64 0],[.slice none 0 0]] lay_30 rfl rfl (.cons rfl (.cons rfl .nil)) ⟨⟨_,rfl,rfl⟩,⟨⟨_,rfl,cells_size rp77⟩,trivial⟩⟩) rfl ?_
  obtain ⟨y79,lI,h⟩:=Ge h
  refine Ze .plain rfl (D_callG (g:=gp77) (vs:=[qJ,xH]) en39 (.cons rfl (.cons rfl .nil)) (v39_0 (iO:=9051) yF uH lI) fun vJ qK aM hs hr=>?_)
  have hfr:=hfr.ext hs
  have u9:=u9.ext hs
  obtain ⟨u3,xJ,rfl,hm78,rfl⟩:=hr
  refine Zn (.tuple #[u3,.int .i64 (y79.2)]) rfl rfl ?_
  refine Ga u3 (Zi rfl rfl) rfl ?_
  refine Ga (.int .i64 (y79.2)) (Zi rfl rfl) rfl ?_
  refine Zg u3 rfl rfl ?_
  refine Zb (Zd ?_)
  obtain ⟨iB,hx,h⟩:=Ge h
  refine E_join (fun e w=>∃ (g:Gh) ,Fr gI wI g w∧e 4=u3∧OM 9051 g w 9 (iB:List Str) u3) (fun Q' hQ=>?_) (fun yJ sK hR=>?_)
  ·replace h := hx
   clear hx
   refine Zf (Za (Zn u3 rfl rfl ?_))
   refine Ga (.int .i64 ((y79.1).length:Int)) (P_lenM Try.underlying50 rfl hm78) rfl ?_
   refine Zn (.int .i64 (0)) rfl rfl ?_
   refine Zb (Zd (Zr ?_))
   refine E_lp h (fun (s:(List Str) × Int) e w=>∃ (g:Gh) ,Fr gI wI g w∧e 4=u3∧OM 9051 g w 9 (s.1:List Str) u3∧e 6=v9∧MP (Value.int .i64) 8019 g w (m8:List (Int × Bool)) v9∧e 54=u3∧e 55=.int .i64 (((y79.1).length:Int))∧e 56=.int .i64 (s.2)) ⟨vJ,hfr,rfl,hm78,lH,u9,rfl,rfl,rfl⟩ (fun X124 dF mH=>?_)
   rintro ⟨y6,o0⟩ zJ tK ⟨vD,hfr,jD,x6,lD,m7,nB,oB,d9⟩ h
   refine Zf (Za (EL_in (.bool ((decide (o0 < ((y79.1).length:Int))))) d9 oB rfl rfl ?_))
   refine Zb (Zd (Zf ?_))
   rcases Zt h with ⟨aD,h⟩ | ⟨aD,h⟩
   ·refine E_ct aD rfl ?_
    refine Zu (Zd ?_)
    obtain ⟨n9,hx,h⟩:=Ge h
    refine E_join (fun e w=>∃ (g:Gh) ,Fr gI wI g w∧e 4=u3∧OM 9051 g w 9 (n9:List Str) u3∧e 6=v9∧MP (Value.int .i64) 8019 g w (m8:List (Int × Bool)) v9∧e 54=u3∧e 55=.int .i64 (((y79.1).length:Int))∧e 56=.int .i64 (o0)) (fun Q' hQ=>?_) (fun aK uK hR=>?_)
    ·replace h := hx
     clear hx
     refine Zr ?_
     refine Zf (Za (Zo d9 rfl ?_))
     obtain ⟨dB,aE,h⟩:=Ge h
     refine Ga (ePtr u3 o0 1) (P_indexAddrM (α:=Str) Try.underlying50 Try.sizeOf9 nB x6 d9 aE) rfl ?_
     refine Ze .plain rfl (D_loadM (g:=vD) Try.isAgg9 Try.sizeOf9 rfl x6 aE fun vK mI=>?_)
     obtain rfl:=RV_str.1 mI
     refine Zg (.int .i64 (o0)) rfl rfl ?_
     refine Zg (Str.v (dB)) rfl rfl ?_
     refine Zb (Zd (Zf (Za (Zn (Str.v (dB)) rfl rfl ?_))))
     refine Ze .plain rfl (D_convSB (g:=vD) (s:=dB) 9062 Try.underlying9 Try.underlying22 Try.underlying5 rfl fun nI xK z9 hs m149=>?_)
     have hfr:=hfr.stp hs
     have x6:=x6.stp hs rfl
     have m7:=m7.stp hs rfl
     refine Zg z9 rfl rfl ?_
     refine Zb (Zd ?_)
     obtain ⟨v8,hx,h⟩:=Ge h
     refine E_join (fun e w=>∃ (g:Gh) ,Fr gI wI g w∧e 4=u3∧OM 9051 g w 9 (y6:List Str) u3∧e 6=v9∧MP (Value.int .i64) 8019 g w (m8:List (Int × Bool)) v9∧e 10=.int .i64 (o0)∧e 12=z9∧OM 9062 g w 5 (v8:List UInt8) z9∧e 54=u3∧e 55=.int .i64 (((y79.1).length:Int))∧e 56=.int .i64 (o0)) (fun Q' hQ=>?_) (fun bK yK hR=>?_)
     ·replace h := hx
      clear hx
      refine Zf (Za (Zo lD rfl ?_))
      refine Ze .plain rfl (D_rangeM (g:=nI) 7564 Try.underlying203 rfl m7 fun pI zK zF hs b157=>?_)
      have hfr:=hfr.stp hs
      have x6:=x6.stp hs rfl
      have m7:=m7.stp hs rfl
      have m149:=m149.stp hs rfl
      refine Zb (Zd (Zr ?_))
      refine E_lp h (fun (s:(List UInt8) × (List (Int × Bool))) e w=>∃ (g:Gh) ,Fr gI wI g w∧e 4=u3∧OM 9051 g w 9 (y6:List Str) u3∧e 6=v9∧MP (Value.int .i64) 8019 g w (m8:List (Int × Bool)) v9∧e 10=.int .i64 (o0)∧e 12=z9∧OM 9062 g w 5 (s.1:List UInt8) z9∧e 54=u3∧e 55=.int .i64 (((y79.1).length:Int))∧e 56=.int .i64 (o0)∧e 64=zF∧MI (Value.int .i64) 7564 8019 g w (s.2:List (Int × Bool)) none zF) ⟨pI,hfr,jD,x6,lD,m7,rfl,rfl,m149,nB,oB,d9,rfl,b157.dropc⟩ (fun X158 eF nH=>?_)
      rintro ⟨i7,y9⟩ cK aL ⟨xD,hfr,nD,g8,oD,k8,tB,bA,l8,vB,yB,zB,k9,cC⟩ h
      refine Zf (Za ?_)
      rcases Zt h with ⟨bD,h⟩ | ⟨bD,h⟩
      ·refine Ze .plain rfl (D_nextM_f (g := xD) k9 cC bD ?_)
       refine Ga (.bool false) (Zi rfl rfl) rfl ?_
       refine Zb (Zd (Zf (E_cond_false (by rw [show ev _ _=_ from rfl]; exact congrArg Value.bool rfl) ?_)))
       refine E_exit ?_
       refine thn_e ?_
       refine thn_e ?_
       refine blk_hit ?_
       obtain rfl:=sinj h
       exact hQ _ _ ⟨xD,hfr,nD,g8,oD,k8,tB,bA,l8,vB,yB,zB⟩
      ·refine Ze .plain rfl (D_nextM_t (g := xD) k9 cC rfl bD fun n8 rm160 u160 aG bL hmem hs b160 ru160 => ?_)
       replace h:=pickAll_h h _ hmem
       clear hmem
       obtain rfl:=RV_bool.1 ru160
       have hfr:=hfr.stp hs
       have g8:=g8.stp hs rfl
       have k8:=k8.stp hs rfl
       have l8:=l8.stp hs rfl
       refine Ga (.bool true) (Zi rfl rfl) rfl ?_
       refine Zb (Zd (Zf (E_cond_true (by rw [show ev _ _=_ from rfl]; exact congrArg Value.bool rfl) ?_)))
       refine Zu (Zd (Zr ?_))
       refine Zf (Za (Ze .plain rfl (D_entry (g:=aG) k9 b160 fun dL qI=>?_)))
       obtain rfl:=RV_bool.1 qI
       refine Ga (.int .i64 (n8.1)) (Zi rfl rfl) rfl ?_
       refine Zg (.int .i64 (n8.1)) rfl rfl ?_
       refine Zb (Zd (Za (Zo bA rfl ?_)))
       refine Zn (.int .i64 (n8.1)) rfl rfl ?_
       obtain ⟨yH,bE,h⟩:=Ge h
       refine Ga (ePtr z9 n8.1 1) (P_indexAddrM (α:=UInt8) Try.underlying22 Try.sizeOf5 rfl l8 rfl bE) rfl ?_
       refine Ze .plain rfl (D_storeM (g:=aG) (α:=UInt8) (a':=((46:UInt8))) Try.sizeOf5 rfl l8 bE rfl (RV_u8.2 rfl) fun sI eL hs b163=>?_)
       have hfr:=hfr.stp hs
       have g8:=g8.stp hs rfl
       have k8:=k8.stp hs rfl
       have b160:=b160.stp hs rfl
       exact Zb (blk_n (Zd (nH ((List.set i7 (Int.toNat n8.1) ((46:UInt8))),rm160) _ _ ⟨sI,hfr,nD,g8,oD,k8,tB,bA,b163,vB,yB,zB,k9,b160.dropc⟩ h)))
     ·clear hx
      obtain ⟨bG,hfr,sD,tD,cG,mB,lE,mE,oE,rE,uE,vE⟩:=hR
      refine Za (Zo sD rfl ?_)
      refine Zo lE rfl ?_
      refine Zo mE rfl ?_
      refine Ze .plain rfl (D_convBS (g:=bG) Try.underlying22 Try.underlying9 Try.underlying5 rfl oE ?_)
      obtain ⟨y165,iE,h⟩:=Ge h
      refine Ga (ePtr u3 o0 1) (P_indexAddrM (α:=Str) Try.underlying50 Try.sizeOf9 rfl tD rfl iE) rfl ?_
      refine Ze .plain rfl (D_storeM (g:=bG) (α:=Str) (a':=((⟨v8⟩:Str))) Try.sizeOf9 rfl tD iE rfl (RV_str.2 rfl) fun tI gL hs b166=>?_)
      have hfr:=hfr.stp hs
      have mB:=mB.stp hs rfl
      refine Zb (blk_n ?_)
      obtain rfl:=sinj h
      exact hQ _ _ ⟨tI,hfr,sD,b166,cG,mB,rE,uE,vE⟩
    ·clear hx
     obtain ⟨uI,hfr,eG,gG,hG,iG,xE,yE,zE⟩:=hR
     refine Za (EL_in (.int .i64 ((w64 (o0 + (1:Int))))) zE rfl rfl rfl ?_)
     refine Zn (.int .i64 ((w64 (o0 + (1:Int))))) rfl rfl ?_
     exact Zb (Zd (mH (n9,(w64 (o0 + (1:Int)))) _ _ ⟨uI,hfr,eG,gG,hG,iG,xE,yE,rfl⟩ h))
   ·refine E_cf aD rfl ?_
    refine E_exit ?_
    refine thn_e ?_
    refine thn_e ?_
    refine blk_hit ?_
    obtain rfl:=sinj h
    exact hQ _ _ ⟨vD,hfr,jD,x6⟩
  ·clear hx
   obtain ⟨iL,hfr,jG,kG⟩:=hR
   refine Zf (Za (Zo jG rfl ?_))
   refine Zg u3 rfl rfl ?_
   refine Zb (Zd (E_ret ?_))
   obtain ⟨gp169,hs,rp169⟩:=OM.pub kG
   have hfr:=hfr.stp hs
   obtain rfl:=sinj h
   exact end1 rfl rfl (show _=u3 from rfl) ⟨_,hfr,rp169⟩
def f75 (x0:FaultLoom) (x1:Zv) (x2:Zv):Option (Int × Int × Int):=
 jn (σ:=Int × Int × Int) (fun (l9,n9,u9)=>
  jn (σ:=Int × Int × Int) (fun (mC,qC,rC)=>
   some ((0:Int),(0:Int),(7:Int))
   ) fun mE=>
  (f74 ((⟨x0⟩:FaultFaultLoom)) (([x1]:List Zv))).bind fun k9=>
  (f74 ((⟨x0⟩:FaultFaultLoom)) (([x2]:List Zv))).bind fun y98=>
  (f150 k9 y98).bind fun v8=>
  (v8 (Nat × Int × Int × Int) (guardC fun (uC,vC,aD) (t5,x5)=>
   some (false,((1:Nat),(t5,x5,(0:Int))))
   ) (0,(l9,n9,u9))).bind fun (m7,(g8,k8,l8))=>
  bif Nat.beq m7 0 then
   mE (g8,k8,l8)
  else
   some (g8,k8,l8)
  ) fun oE=>
 (f144 x0 (([x1,x2]:List Zv))).bind fun x8=>
 bif (x8 != (0 : Int)) then
  some ((0:Int),(0:Int),x8)
 else
  oE ((0:Int),(0:Int),(0:Int))
theorem en75:Enters Try.prog 75:=enters_of Try.func75 (by kernel_rfl) rfl
theorem wk75 {gI:Gh} {wI:World} {x0:FaultLoom} {x1:Zv} {x2:Zv} {up0:Value} (rp0:RV gI.m wI x0 up0) {up1:Value} (rp1:RV gI.m wI x1 up1) {up2:Value} (rp2:RV gI.m wI x2 up2) {r:Int × Int × Int} (h:f75 x0 x1 x2=some r):Fn Try.prog 75 #[up0,up1,up2] gI wI (fun m w v=>∃ y0 y1 y2,v=.tuple #[y0,y1,y2]∧y0=.int .i64 (r.1)∧y1=.int .i64 (r.2.1)∧y2=.int .i64 (r.2.2)):=by
 unfold f75 at h
 refine fnD_of_E Try.func75 rfl (Nat.le_of_ble_eq_true rfl) fun g0 hm hfr=>?_
 have hmk:MkF g0 wI []:=MkF.start
 have rp0:RV g0.m wI x0 up0:=hm ▸ rp0
 have rp1:RV g0.m wI x1 up1:=hm ▸ rp1
 have rp2:RV g0.m wI x2 up2:=hm ▸ rp2
 show E _ 35 none _ _ _ _ _
 refine Zf (Za (Ze .plain rfl (D_box (g:=g0) rfl rp0 fun g1 w1 p1 hs q1=>?_)))
 have hfr:=hfr.ext hs
 have hmk:=hmk.ext hs
 have rp1:=rp1.ext hs
 have rp2:=rp2.ext hs
 refine Ze .plain rfl (D_box (g:=g1) rfl rp1 fun g2 w2 p2 hs q2=>?_)
 have hfr:=hfr.ext hs
 have hmk:=hmk.ext hs
 have rp2:=rp2.ext hs
 have q1:=q1.ext hs
 refine Ze .plain rfl (D_box (g:=g2) rfl rp2 fun g3 w3 p3 hs q3=>?_)
 have hfr:=hfr.ext hs
 have hmk:=hmk.ext hs
 have q1:=q1.ext hs
 have q2:=q2.ext hs
 refine Ze .plain rfl (D_allocOc (g:=g3) 2006 (0:Int) Try.zeroValue3 (fun m w=>⟨_,Zy,rfl⟩) fun g4 w4 p4 hs b4 cb=>?_)
 have hfr:=hfr.stp hs
 have hmk:=hmk.stp hs
 have q1:=q1.stp hs
 have q2:=q2.stp hs
 have q3:=q3.stp hs
 clear cb
 refine Ze .plain rfl (D_allocOc (g:=g4) 2007 (0:Int) Try.zeroValue3 (fun m w=>⟨_,Zy,rfl⟩) fun g5 w5 p5 hs b5 cb=>?_)
 have hfr:=hfr.stp hs
 have hmk:=hmk.stp hs
 have q1:=q1.stp hs
 have q2:=q2.stp hs
 have q3:=q3.stp hs
 have b4:=b4.stp hs rfl
 clear cb
 refine Ze .plain rfl (D_allocOc (g:=g5) 2008 (0:Int) Try.zeroValue42 (fun m w=>⟨_,Zy,rfl⟩) fun g6 w6 p6 hs b6 cb=>?_)
 have hfr:=hfr.stp hs
 have hmk:=hmk.stp hs
 have q1:=q1.stp hs
 have q2:=q2.stp hs
 have q3:=q3.stp hs
 have b4:=b4.stp hs rfl
 have b5:=b5.stp hs rfl
 clear cb
 refine Zb (Zd (E_joinCD h (fun (s:Int × Int × Int) e ds w=>∃ (g:Gh) ,Fr gI wI g w∧MkF g w ds∧e 3=p1∧PT g.m w (x0:FaultLoom) p1∧e 4=p2∧PT g.m w (x1:Zv) p2∧e 5=p3∧PT g.m w (x2:Zv) p3∧e 6=p4∧OB 2006 g w 3 (s.1:Int) p4∧e 7=p5∧OB 2007 g w 3 (s.2.1:Int) p5∧e 8=p6∧OB 2008 g w 42 (s.2.2:Int) p6) (fun X21 oE sF h=>?_) ?_))
 ·refine Zf (Za (Ze .plain rfl (D_load (g := g6) Try.isAgg32 Try.sizeOf32 rfl q1 fun cH bD => ?_)))
  refine Ze .plain rfl (D_load (g:=g6) Try.isAgg56 Try.sizeOf56 rfl q2 fun dH gH=>?_)
  refine Ze .plain rfl (D_load (g:=g6) Try.isAgg56 Try.sizeOf56 rfl q3 fun iH jH=>?_)
  refine Ze .plain rfl (D_buildSlice (g:=g6) 3015 (xs:=([x1,x2]:List Zv)) (vs:=[dH,iH]) Try.underlying57 Try.sizeOf56 Try.zeroValue56 rfl rfl (.cons rfl (.cons rfl .nil)) (RVs.cons gH (RVs.cons jH RVs.nil)) rfl rfl fun kH kJ lH hs o25 mH hxt hfl=>?_)
  have hfr:=hfr.stp hs
  have hmk:=hmk.stp hs
  have q1:=q1.stp hs
  have q2:=q2.stp hs
  have q3:=q3.stp hs
  have b4:=b4.stp hs rfl
  have b5:=b5.stp hs rfl
  have b6:=b6.stp hs rfl
  have bD:=bD.stp hs
  obtain ⟨x8,tF,h⟩:=Ge h
  refine Ze .plain rfl (Zp (g:=kH) (vs:=[cH,lH]) en144 (.cons rfl (.cons rfl .nil)) (wk144 bD mH tF) fun rE zH lJ hs hr=>?_)
  have hfr:=hfr.ext hs
  have hmk:=hmk.ext hs
  have q1:=q1.ext hs
  have q2:=q2.ext hs
  have q3:=q3.ext hs
  have b4:=b4.ext hs
  have b5:=b5.ext hs
  have b6:=b6.ext hs
  subst hr
  refine Zg (.int .i64 (x8)) rfl rfl ?_
  refine Zb (Zd (Zf (Za (Zn (.int .i64 (x8)) rfl rfl ?_))))
  refine EL_in (.bool ((x8 != (0:Int)))) rfl rfl rfl rfl ?_
  refine Zb (Zd ?_)
  rcases Zt h with ⟨lB,h⟩ | ⟨lB,h⟩
  ·refine E_ct lB rfl ?_
   refine Zf (Za (Zn (.int .i64 (x8)) rfl rfl ?_))
   refine Ze .plain rfl (D_storeOc (g:=rE) (v:=.int .i64 (0)) Try.sizeOf3 rfl b4 rfl (Zj.2 rfl) fun nH w29 hs b29 cb=>?_)
   clear cb
   have hfr:=hfr.stp hs
   have hmk:=hmk.stp hs
   have b5:=b5.stp hs rfl
   have b6:=b6.stp hs rfl
   refine Ze .plain rfl (D_storeOc (g:=nH) (v:=.int .i64 (0)) Try.sizeOf3 rfl b5 rfl (Zj.2 rfl) fun oH mJ hs b30 cb=>?_)
   clear cb
   have hfr:=hfr.stp hs
   have hmk:=hmk.stp hs
   have b29:=b29.stp hs rfl
   have b6:=b6.stp hs rfl
   refine Ze .plain rfl (D_storeOc (g:=oH) (v:=.int .i64 (x8)) Try.sizeOf42 rfl b6 rfl (Zj.2 rfl) fun nJ oJ hs b31 cb=>?_)
   clear cb
   have hfr:=hfr.stp hs
   have hmk:=hmk.stp hs
   have b29:=b29.stp hs rfl
   have b30:=b30.stp hs rfl
   refine Zb (Zd (E_ret (thn_r ?_)))
   refine endM (.inr rfl) hmk fun pJ qJ hs=>?_
   have hfr:=hfr.stp hs
   have b29:=b29.stp hs rfl
   have b30:=b30.stp hs rfl
   have b31:=b31.stp hs rfl
   obtain rfl:=sinj h
   obtain ⟨ad33,cv33,hp33,uF,cr33⟩:=ob_read Try.isAgg3 Try.sizeOf3 b29
   obtain rfl:=Zj.1 cr33
   obtain ⟨ad34,cv34,hp34,vF,cr34⟩:=ob_read Try.isAgg3 Try.sizeOf3 b30
   obtain rfl:=Zj.1 cr34
   obtain ⟨ad35,cv35,hp35,xF,cr35⟩:=ob_read Try.isAgg42 Try.sizeOf42 b31
   obtain rfl:=Zj.1 cr35
   exact endm_ccc rfl rfl ((show _=p4 from rfl).trans hp33) uF ((show _=p5 from rfl).trans hp34) vF ((show _=p6 from rfl).trans hp35) xF ⟨_,hfr,_,_,_,rfl,rfl,rfl,rfl⟩
  ·refine E_cf lB rfl ?_
   exact Zu (Zd (sF ((0:Int),(0:Int),(0:Int)) _ _ _ ⟨rE,hfr,hmk,rfl,q1,rfl,q2,rfl,q3,rfl,b4,rfl,b5,rfl,b6⟩ h))
 ·rintro ⟨l9, n9, u9⟩ aI mB rJ ⟨cD, hfr, hmk, nB, oB, sD, tD, uD, vD, y9, z9, bA, iA, rA, yA⟩ h
  refine E_joinCD h (fun (s:Int × Int × Int) e ds w=>∃ (g:Gh) ,Fr gI wI g w∧MkF g w ds∧e 6=p4∧OB 2006 g w 3 (s.1:Int) p4∧e 7=p5∧OB 2007 g w 3 (s.2.1:Int) p5∧e 8=p6∧OB 2008 g w 42 (s.2.2:Int) p6) (fun X86 mE yF h=>?_) ?_
  ·refine Zf (Zs (x := .tmp 3) Try.isAgg32 Try.sizeOf32 oB fun tB uE zF => ?_)
   have vE:RV cD.m _ (⟨x0⟩:FaultFaultLoom) (.agg (setCh [[.int .i64 0,.slice none 0 0,.int .i64 0,.slice none 0 0]] [(0,tB)]).flatten.toArray):=RV_build rfl (rep_last (RV.cells uE))
   generalize aG:(Value.agg (setCh [[.int .i64 0,.slice none 0 0,.int .i64 0,.slice none 0 0]] [(0,tB)]).flatten.toArray)=xE at vE
   refine Zs (x:=.tmp 4) Try.isAgg56 Try.sizeOf56 tD fun yE pH bG=>?_
   obtain ⟨k9,cG,h⟩:=Ge h
   refine Zs (x:=.tmp 3) Try.isAgg32 Try.sizeOf32 oB fun vB zE eG=>?_
   have cF:RV cD.m _ (⟨x0⟩:FaultFaultLoom) (.agg (setCh [[.int .i64 0,.slice none 0 0,.int .i64 0,.slice none 0 0]] [(0,vB)]).flatten.toArray):=RV_build rfl (rep_last (RV.cells zE))
   generalize gG:(Value.agg (setCh [[.int .i64 0,.slice none 0 0,.int .i64 0,.slice none 0 0]] [(0,vB)]).flatten.toArray)=dF at cF
   refine Zs (x:=.tmp 5) Try.isAgg56 Try.sizeOf56 vD fun eF qH hG=>?_
   obtain ⟨y98,iG,h⟩:=Ge h
   obtain ⟨v8,xD,h⟩:=Ge h
   refine E_drawL (g:=cD) (n:=11) [(3,(fun v g w=>RV g.m w ([x1]:List Zv) v∧OS 3023 g w 56 ([x1]:List Zv) v∧FullV v)),(4,(fun v g w=>RV g.m w k9 v)),(8,(fun v g w=>RV g.m w ([x2]:List Zv) v∧OS 3028 g w 56 ([x2]:List Zv) v∧FullV v)),(9,(fun v g w=>RV g.m w y98 v)),(10,(fun v g w=>ItV Try.prog (RA2 (α:=Int) (β:=Int)) v8 v g.m w))] [0,1,2,3,4,5,6,7,8,9,10] rfl mixed (by kernel_rfl) (⟨fun _=>up_and up_rv (up_and up_os (up_eq _)),fun _=>up_rv,fun _=>up_and up_rv (up_and up_os (up_eq _)),fun _=>up_rv,fun _=>up_itv,trivial⟩) ?_
   refine L_ld (c:=tB) rfl rfl .plain (fun _ _ h=>h.ch) zF nB ?_
   refine Gd xE rfl rfl (aG ▸ P_build (vs:=[(0,tB)]) [[.int .i64 0,.slice none 0 0,.int .i64 0,.slice none 0 0]] lay_170 rfl rfl (.cons rfl .nil) ⟨⟨_,rfl,cells_size uE⟩,trivial⟩) ?_
   refine L_ld (c:=yE) rfl rfl .plain (fun _ _ h=>h.ch) bG sD ?_
   refine L_do (φ:=fun v g w=>RV g.m w ([x1]:List Zv) v∧OS 3023 g w 56 ([x1]:List Zv) v∧FullV v) rfl rfl .plain (fun g w hd=>D_buildSlice (g:=g) 3023 (xs:=([x1]:List Zv)) (vs:=[yE]) Try.underlying57 Try.sizeOf56 Try.zeroValue56 rfl rfl (.cons rfl .nil) (RVs.cons (pH.ext hd.1) RVs.nil) rfl rfl fun g' w' v hs o r hxt hfl=>⟨g',hxt,r,o,hfl⟩) (fun y6 hv=>?_)
   clear hv
   refine L_do (φ:=fun v g w=>RV g.m w k9 v) rfl rfl .plain (fun g w hd=>Zp (g:=g) (vs:=[xE,y6]) en74 (.cons rfl (.cons rfl .nil)) (wk74 (vE.ext hd.1) (word (A:=fun g w=>RV g.m w ([x1]:List Zv) y6∧OS 3023 g w 56 ([x1]:List Zv) y6∧FullV y6) 3 rfl rfl (deps_of hd)).1 cG) fun g' w' v hs hr=>⟨g',hs,hr⟩) (fun eD hv=>?_)
   obtain ⟨_,_,_,rq91⟩:=hv
   refine L_ld (c:=vB) rfl rfl .plain (fun _ _ h=>h.ch) eG nB ?_
   refine Gd dF rfl rfl (gG ▸ P_build (vs:=[(0,vB)]) [[.int .i64 0,.slice none 0 0,.int .i64 0,.slice none 0 0]] lay_170 rfl rfl (.cons rfl .nil) ⟨⟨_,rfl,cells_size zE⟩,trivial⟩) ?_
   refine L_ld (c:=eF) rfl rfl .plain (fun _ _ h=>h.ch) hG uD ?_
   refine L_do (φ:=fun v g w=>RV g.m w ([x2]:List Zv) v∧OS 3028 g w 56 ([x2]:List Zv) v∧FullV v) rfl rfl .plain (fun g w hd=>D_buildSlice (g:=g) 3028 (xs:=([x2]:List Zv)) (vs:=[eF]) Try.underlying57 Try.sizeOf56 Try.zeroValue56 rfl rfl (.cons rfl .nil) (RVs.cons (qH.ext hd.1) RVs.nil) rfl rfl fun g' w' v hs o r hxt hfl=>⟨g',hxt,r,o,hfl⟩) (fun i7 hv=>?_)
   clear hv
   refine L_do (φ:=fun v g w=>RV g.m w y98 v) rfl rfl .plain (fun g w hd=>Zp (g:=g) (vs:=[dF,i7]) en74 (.cons rfl (.cons rfl .nil)) (wk74 (cF.ext hd.1) (word (A:=fun g w=>RV g.m w ([x2]:List Zv) i7∧OS 3028 g w 56 ([x2]:List Zv) i7∧FullV i7) 8 rfl rfl (deps_of hd)).1 iG) fun g' w' v hs hr=>⟨g',hs,hr⟩) (fun gD hv=>?_)
   obtain ⟨_,_,_,rq97⟩:=hv
   refine L_do (φ:=fun v g w=>ItV Try.prog (RA2 (α:=Int) (β:=Int)) v8 v g.m w) rfl rfl .plain (fun g w hd=>Zp (g:=g) (vs:=[eD,gD]) en150 (.cons rfl (.cons rfl .nil)) (wk150 (word (A:=fun g w=>RV g.m w k9 eD) 4 rfl rfl (deps_of hd)) (word (A:=fun g w=>RV g.m w y98 gD) 9 rfl rfl (deps_of hd)) xD) fun g' w' v hs hr=>⟨g',hs,hr⟩) (fun rF hv=>?_)
   clear hv
   refine L_nil fun bI dI hall=>?_
   have hs:=hall.1
   have hfr:=hfr.ext hs
   have hmk:=hmk.ext hs
   have z9:=z9.ext hs
   have iA:=iA.ext hs
   have yA:=yA.ext hs
   have iI:=(word_all (A:=fun g w=>RV g.m w ([x1]:List Zv) y6∧OS 3023 g w 56 ([x1]:List Zv) y6∧FullV y6) 3 rfl hall).1
   have o111:=(word_all (A:=fun g w=>RV g.m w ([x1]:List Zv) y6∧OS 3023 g w 56 ([x1]:List Zv) y6∧FullV y6) 3 rfl hall).2.1
   have jI:=(word_all (A:=fun g w=>RV g.m w k9 eD) 4 rfl hall)
   have kI:=(word_all (A:=fun g w=>RV g.m w ([x2]:List Zv) i7∧OS 3028 g w 56 ([x2]:List Zv) i7∧FullV i7) 8 rfl hall).1
   have o116:=(word_all (A:=fun g w=>RV g.m w ([x2]:List Zv) i7∧OS 3028 g w 56 ([x2]:List Zv) i7∧FullV i7) 8 rfl hall).2.1
   have lI:=(word_all (A:=fun g w=>RV g.m w y98 gD) 9 rfl hall)
   have iD:=(word_all (A:=fun g w=>ItV Try.prog (RA2 (α:=Int) (β:=Int)) v8 rF g.m w) 10 rfl hall)
   clear hs hall
   refine Zb (Zd (Zr ?_))
   have hB0:=hfr.size
   have hmk0:=hmk
   obtain ⟨⟨m7,⟨g8,k8,l8⟩⟩,hφ,h⟩:=Ge h
   refine E_rangeFunc (σ:=(Nat × Int × Int × Int)) (s0:=(0,(l9,n9,u9))) 10 rfl (fun s=>s.1) [.ret] (fun (s:Nat × Int × Int × Int) (g:Gh) (w:World)=>Fr gI wI g w∧MkF g w mB∧OB 2006 g w 3 (s.2.1:Int) p4∧OB 2007 g w 3 (s.2.2.1:Int) p5∧OB 2008 g w 42 (s.2.2.2:Int) p6∧ItV Try.prog (RA2 (α:=Int) (β:=Int)) v8 rF g.m w) rfl iD hφ (fun _ _ _ h=>(guardC_h h).1) rfl ra2_size rfl (fun _ _ _ _ _ hx hR=>by obtain ⟨hfr,hmk,z2,z3,z4,z5⟩:=hR; exact ⟨hfr.ist hx hB0,hmk.ist hx,z2.ist hx,z3.ist hx,z4.ist hx,z5.ist hx⟩) (fun _ _ _ _ _ hx hR=>by obtain ⟨hfr,hmk,z2,z3,z4,z5⟩:=hR; exact ⟨hfr.stp hx,hmk.stp hx,z2.stp hx rfl,z3.stp hx rfl,z4.stp hx rfl,z5.stp hx⟩) ⟨hfr,hmk,z9,iA,yA,iD⟩ (fun _ h=>by cases h) ?_ ?_
   ·intro xH sH s x b s2 jD jG vs hsz h hR hrec_0 yB hrd
    obtain ⟨hs0,h⟩:=guardC_h h
    obtain ⟨st,⟨uC,vC,aD⟩⟩:=s
    obtain ⟨hfr,hmk,a9,i6,l5,o0⟩:=hR
    obtain ⟨t5,x5⟩:=x
    obtain ⟨lD,nD,rfl,zB,cC⟩:=ra2_get hrd
    obtain rfl:lD=.int .i64 (t5):=Zj.1 zB
    obtain rfl:nD=.int .i64 (x5):=Zj.1 cC
    have u3:=RFr.refl jD jG
    refine Zf (Za (Zg (.int .i64 (t5)) rfl rfl ?_))
    refine Zb (Zd (Za (Zg (.int .i64 (x5)) rfl rfl ?_)))
    refine Zb (Zd ?_)
    obtain ⟨kG,hbr,hs,hrN⟩:=begin_round hrec_0 yB
    refine ⟨kG,hbr,?_⟩
    have hfr:=hfr.stp hs
    have hmk:=hmk.stp hs
    have u3:=u3.stp hs
    have a9:=a9.stp hs rfl
    have i6:=i6.stp hs rfl
    have l5:=l5.stp hs rfl
    have o0:=o0.stp hs
    have hrec_0:=hrN
    clear hbr hs hrN
    refine Zr ?_
    refine Zf (Za (Zn (.int .i64 (t5)) rfl rfl ?_))
    refine Zn (.int .i64 (x5)) rfl rfl ?_
    refine Ze .plain rfl (D_storeOc (g:=jD) (v:=.int .i64 (t5)) Try.sizeOf3 y9 a9 rfl (Zj.2 rfl) fun lG mI hs b126 cb=>?_)
    clear cb
    have hfr:=hfr.stp hs
    have hmk:=hmk.stp hs
    have u3:=u3.stp hs
    have hrec_0:=hrec_0.stp hs rfl
    have i6:=i6.stp hs rfl
    have l5:=l5.stp hs rfl
    have o0:=o0.stp hs
    refine Ze .plain rfl (D_storeOc (g:=lG) (v:=.int .i64 (x5)) Try.sizeOf3 bA i6 rfl (Zj.2 rfl) fun mG nI hs b127 cb=>?_)
    clear cb
    have hfr:=hfr.stp hs
    have hmk:=hmk.stp hs
    have u3:=u3.stp hs
    have hrec_0:=hrec_0.stp hs rfl
    have b126:=b126.stp hs rfl
    have l5:=l5.stp hs rfl
    have o0:=o0.stp hs
    refine Ze .plain rfl (D_storeOc (g:=mG) (v:=.int .i64 (0)) Try.sizeOf42 rA l5 rfl (Zj.2 rfl) fun pI qI hs b128 cb=>?_)
    clear cb
    have hfr:=hfr.stp hs
    have hmk:=hmk.stp hs
    have u3:=u3.stp hs
    have hrec_0:=hrec_0.stp hs rfl
    have b126:=b126.stp hs rfl
    have b127:=b127.stp hs rfl
    have o0:=o0.stp hs
    refine Zb (Zd (E_ret (blk_r ?_)))
    obtain ⟨rfl,rfl⟩:=pairs2 h
    exact ⟨_,u3,⟨hfr,hmk,b126,b127,b128,o0⟩,hrec_0,rfl,0,rfl,rfl⟩
   ·intro sG sI ds130 hsz hR hds
    obtain ⟨hfr,hmk,m8,n8,r8,aH⟩:=hR
    obtain ⟨D,hdse,hD,hDb⟩:=hds.1 rfl
    subst hdse
    replace hmk:=MkF.push hmk0 hmk hD hDb
    clear hD hDb hds
    revert hmk
    generalize ({ target:=.collected D,args:=#[] } :: mB:List Deferred)=tH
    intro hmk
    refine ⟨fun hs=>?_,fun k c hs hc=>?_⟩
    ·have hs : m7 = 0 := hs
     subst hs
     replace h:=cond_t h rfl
     exact blk_n (Zd (yF (g8,k8,l8) _ _ _ ⟨sG,hfr,hmk,y9,m8,bA,n8,rA,r8⟩ h))
    ·have hs : m7 = k + 1 := hs
     match k,hs,hc with
     | 0,hs,hc=>
      subst hs
      obtain rfl:=sinj hc
      replace h:=cond_f h rfl
      refine E_ret (blk_r ?_)
      refine thn_r ?_
      refine endM (.inr rfl) hmk fun tI uI hs=>?_
      have hfr:=hfr.stp hs
      have m8:=m8.stp hs rfl
      have n8:=n8.stp hs rfl
      have r8:=r8.stp hs rfl
      obtain rfl:=sinj h
      obtain ⟨ad132,cv132,hp132,yD,cr132⟩:=ob_read Try.isAgg3 Try.sizeOf3 m8
      obtain rfl:=Zj.1 cr132
      obtain ⟨ad133,cv133,hp133,zD,cr133⟩:=ob_read Try.isAgg3 Try.sizeOf3 n8
      obtain rfl:=Zj.1 cr133
      obtain ⟨ad134,cv134,hp134,aE,cr134⟩:=ob_read Try.isAgg42 Try.sizeOf42 r8
      obtain rfl:=Zj.1 cr134
      exact endm_ccc rfl rfl ((show _=p4 from y9).trans hp132) yD ((show _=p5 from bA).trans hp133) zD ((show _=p6 from rA).trans hp134) aE ⟨_,hfr,_,_,_,rfl,rfl,rfl,rfl⟩
     | n + 1,_,hc=>exact absurd hc (by simp)
  ·rintro ⟨mC, qC, rC⟩ yH uH vI ⟨xG, hfr, hmk, aB, oD, dB, d9, iB, x6⟩ h
   refine Zf (Za (Ze .plain rfl (D_storeOc (g:=xG) (v:=.int .i64 (0)) Try.sizeOf3 aB oD rfl (Zj.2 rfl) fun yG yI hs b136 cb=>?_)))
   clear cb
   have hfr:=hfr.stp hs
   have hmk:=hmk.stp hs
   have d9:=d9.stp hs rfl
   have x6:=x6.stp hs rfl
   refine Ze .plain rfl (D_storeOc (g:=yG) (v:=.int .i64 (0)) Try.sizeOf3 dB d9 rfl (Zj.2 rfl) fun zG zI hs b137 cb=>?_)
   clear cb
   have hfr:=hfr.stp hs
   have hmk:=hmk.stp hs
   have b136:=b136.stp hs rfl
   have x6:=x6.stp hs rfl
   refine Ze .plain rfl (D_storeOc (g:=zG) (v:=.int .i64 (7)) Try.sizeOf42 iB x6 rfl (Zj.2 rfl) fun eJ gJ hs b138 cb=>?_)
   clear cb
   have hfr:=hfr.stp hs
   have hmk:=hmk.stp hs
   have b136:=b136.stp hs rfl
   have b137:=b137.stp hs rfl
   refine Zb (Zd (E_ret (endM (.inr rfl) hmk fun iJ jJ hs=>?_)))
   have hfr:=hfr.stp hs
   have b136:=b136.stp hs rfl
   have b137:=b137.stp hs rfl
   have b138:=b138.stp hs rfl
   obtain rfl:=sinj h
   obtain ⟨ad140,cv140,hp140,bE,cr140⟩:=ob_read Try.isAgg3 Try.sizeOf3 b136
   obtain rfl:=Zj.1 cr140
   obtain ⟨ad141,cv141,hp141,iE,cr141⟩:=ob_read Try.isAgg3 Try.sizeOf3 b137
   obtain rfl:=Zj.1 cr141
   obtain ⟨ad142,cv142,hp142,lE,cr142⟩:=ob_read Try.isAgg42 Try.sizeOf42 b138
   obtain rfl:=Zj.1 cr142
   exact endm_ccc rfl rfl ((show _=p4 from aB).trans hp140) bE ((show _=p5 from dB).trans hp141) iE ((show _=p6 from iB).trans hp142) lE ⟨_,hfr,_,_,_,rfl,rfl,rfl,rfl⟩
def f96 (x0:FaultFaultLoom) (σ:Type) (cons:Cons σ (Zv × (List Str))) (s0:σ):Option σ:=
 (f74 x0 ([])).bind fun y5=>
 ((fun σ cons s=>f170 x0 σ cons s) (Nat × σ) (guardC fun i7 i6=>
  (f74 x0 (([i6]:List Zv))).bind fun y44=>
  Option.bind (α:=σ × Bool) (
   (f171 y44 y5).bind fun y55=>
   bif (!y55) then
    (cons i7 (i6,y44)).bind fun (yb59,ys59)=>
    some (ys59,(!yb59))
   else
    some (i7,false)
   ) fun (cs_61,s26_61)=>
  bif s26_61 then
   some (false,((1:Nat),(cs_61)))
  else
   some (true,((0:Nat),(cs_61)))
  ) (0,(s0))).bind fun (x6,m7)=>
 bif Nat.beq x6 0 then
  some m7
 else
  some m7
theorem en96:Enters Try.prog 96:=enters_of Try.func96 (by kernel_rfl) rfl
theorem wk96 {σ:Type} {cons:Cons σ (Zv × (List Str))} {s0 r:σ} {gI:Gh} {wI:World} {x0:FaultFaultLoom} {up0:Value} (rp0:RV gI.m wI x0 up0) (h:f96 x0 σ cons s0=some r):IterC Try.prog (RA2 (α:=Zv) (β:=(List Str))) 96 #[up0] #[] gI wI cons s0 r:=by
 unfold f96 at h
 refine iterD_of_E Try.func96 rfl (Nat.le_of_ble_eq_true rfl) fun l B J g0 hm hAb hRo hfr=>?_
 have hmk:MkF g0 wI []:=MkF.start
 have rp0:RV g0.m wI x0 up0:=hm ▸ rp0
 show E _ 27 none _ _ (envAt #[up0,.func (.yield l) #[] #[]]) _ _
 refine Zf (Za (Ze .plain rfl (D_box (g:=g0) rfl rp0 fun g1 w1 p1 hs q1=>?_)))
 have hfr:=hfr.ext_ hAb hs
 have hmk:=hmk.ext hs
 refine Ze .plain rfl (D_box (g:=g1) (a:=(⟨(.func (.yield l) #[] #[]),rfl⟩:Fv)) rfl (RV_fv.2 rfl) fun g2 w2 p2 hs q2=>?_)
 have hfr:=hfr.ext_ hAb hs
 have hmk:=hmk.ext hs
 have q1:=q1.ext hs
 refine Zb (Zd (Zf (Za (Ze .plain rfl (D_load (g:=g2) Try.isAgg170 Try.sizeOf170 rfl q1 fun v3 r3=>?_)))))
 obtain ⟨y5,hy5,h⟩:=Ge h
 refine Ze .plain rfl (Zp (g:=g2) (vs:=[v3,.slice none 0 0]) en74 (.cons rfl (.cons rfl .nil)) (wk74 r3 RV_nil hy5) fun g4 w4_ v4 hs hr=>?_)
 have hfr:=hfr.ext_ hAb hs
 have hmk:=hmk.ext hs
 have q1:=q1.ext hs
 have q2:=q2.ext hs
 have r4:=hr
 refine Ze .plain rfl (D_allocOc (g:=g4) 2004 ([]:List Str) Try.zeroValue50 (fun m w=>⟨_,rep_nil,rfl⟩) fun g6 w6 p6 hs b6 cb=>?_)
 have hfr:=hfr.stp_ hAb hs rfl
 have hmk:=hmk.stp hs
 have q1:=q1.stp hs
 have q2:=q2.stp hs
 have r4:=r4.stp hs
 have nD:OSF 2004 60400 0 g6 w6 9 50 ([]:List Str) p6:=cb.osf (by rfl)
 clear cb
 refine Ze .plain rfl (D_storeOc (g:=g6) (v:=v4) Try.sizeOf50 rfl b6 rfl r4 fun g7 w7 hs b7 cb=>?_)
 clear cb
 have hfr:=hfr.stp_ hAb hs rfl
 have hmk:=hmk.stp hs
 have q1:=q1.stp hs
 have q2:=q2.stp hs
 refine Zb (Zd (Zf (Za (Ze .plain rfl (D_load (g:=g7) Try.isAgg170 Try.sizeOf170 rfl q1 fun v8 r8=>?_)))))
 refine Ga ((.func (.func 170) #[v8] #[])) (P_makeFunc (capf_1_0 (show ev _ _=v8 from rfl))) rfl ?_
 refine Zb (Zd (Zr ?_))
 have hB0:=hfr.hB
 have hmk0:=hmk
 obtain ⟨⟨x6,m7⟩,hφ,h⟩:=Ge h
 refine E_rangeFunc (σ:=(Nat × σ)) (s0:=(0,(s0))) 10 rfl (fun s=>s.1) [.ret] (fun (s:Nat × σ) (g:Gh) (w:World)=>FrY gI wI B J (s.2) g w∧MkF g w []∧PT g.m w (x0:FaultFaultLoom) p1∧PT g.m w (⟨(.func (.yield l) #[] #[]),rfl⟩:Fv) p2∧OB 2004 g w 50 (y5:List Str) p6) rfl (show ItV Try.prog (RA1 (α:=Zv)) (fun σ cons s=>f170 x0 σ cons s) ((.func (.func 170) #[v8] #[])) g7.m w7 from ⟨170,#[v8],#[],rfl,en170,fun g' w' hch σ cons s s' h=>wk170 (r8.ch hch)  h⟩) hφ (fun _ _ _ h=>(guardC_h h).1) rfl ra1_size rfl (fun _ _ _ _ _ hx hR=>by obtain ⟨hfr,hmk,z2,z3,z4⟩:=hR; exact ⟨hfr.ist_ hAb hx hB0,hmk.ist hx,z2.ist hx,z3.ist hx,z4.ist hx⟩) (fun _ _ _ _ _ hx hR=>by obtain ⟨hfr,hmk,z2,z3,z4⟩:=hR; exact ⟨hfr.stp_ hAb hx rfl,hmk.stp hx,z2.stp hx,z3.stp hx,z4.stp hx rfl⟩) ⟨hfr,hmk,q1,q2,b7⟩ (fun _ h=>by cases h) ?_ ?_
 ·intro aB y9 s x b s2 k9 bA vs hsz h hR hrec_0 l9 hrd
  obtain ⟨hs0,h⟩:=guardC_h h
  obtain ⟨st,i7⟩:=s
  obtain ⟨hfr,hmk,u3,l5,t5⟩:=hR
  obtain ⟨i6,hxe⟩:∃ y,y=x:=⟨x,rfl⟩
  subst hxe
  obtain ⟨z9,rfl,y6⟩:=ra1_get hrd
  have o0:=RFr.refl k9 bA
  refine Za (Ze .plain rfl (D_allocOc (g:=k9) 2005 (⟨0,0,0,0,false⟩:Zv) Try.zeroValue56 (fun m w=>⟨_,(rep_two Zy (rep_two Zy (rep_two Zy (rep_two Zy rep_bool)))),rfl⟩) fun mB uD vD hs b37 cb=>?_))
  have hfr:=hfr.stp_ hAb hs rfl
  have hmk:=hmk.stp hs
  have o0:=o0.stp hs
  have hrec_0:=hrec_0.stp hs rfl
  have u3:=u3.stp hs
  have l5:=l5.stp hs
  have t5:=t5.stp hs rfl
  have y6:=y6.stp hs
  clear cb
  refine Ze .plain rfl (D_storeOc (g:=mB) (v:=z9) Try.sizeOf56 rfl b37 rfl y6 fun n9 xD hs b38 cb=>?_)
  clear cb
  have hfr:=hfr.stp_ hAb hs rfl
  have hmk:=hmk.stp hs
  have o0:=o0.stp hs
  have hrec_0:=hrec_0.stp hs rfl
  have u3:=u3.stp hs
  have l5:=l5.stp hs
  have t5:=t5.stp hs rfl
  refine Zb (Zd ?_)
  obtain ⟨nB,hbr,hs,hrN⟩:=begin_round hrec_0 l9
  refine ⟨nB,hbr,?_⟩
  have hfr:=hfr.stp_ hAb hs rfl
  have hmk:=hmk.stp hs
  have o0:=o0.stp hs
  have u3:=u3.stp hs
  have l5:=l5.stp hs
  have t5:=t5.stp hs rfl
  have b38:=b38.stp hs rfl
  have hrec_0:=hrN
  clear hbr hs hrN
  refine Zr ?_
  refine Zf (Za (Ze .plain rfl (D_load (g:=n9) Try.isAgg170 Try.sizeOf170 rfl u3 fun oB u9=>?_)))
  refine Ze .plain rfl (D_loadO (g:=n9) Try.isAgg56 Try.sizeOf56 rfl b38 fun tB vB=>?_)
  refine Ze .plain rfl (D_buildSlice (g:=n9) 3014 (xs:=([i6]:List Zv)) (vs:=[tB]) Try.underlying57 Try.sizeOf56 Try.zeroValue56 rfl rfl (.cons rfl .nil) (RVs.cons vB RVs.nil) rfl rfl fun yB yD zB hs o42 cC hxt hfl=>?_)
  have hfr:=hfr.stp_ hAb hs rfl
  have hmk:=hmk.stp hs
  have o0:=o0.stp hs
  have hrec_0:=hrec_0.stp hs rfl
  have u3:=u3.stp hs
  have l5:=l5.stp hs
  have t5:=t5.stp hs rfl
  have b38:=b38.stp hs rfl
  have u9:=u9.stp hs
  obtain ⟨y44,dB,h⟩:=Ge h
  refine Ze .plain rfl (Zp (g:=yB) (vs:=[oB,zB]) en74 (.cons rfl (.cons rfl .nil)) (wk74 u9 cC dB) fun iA oD l8 hs hr=>?_)
  have hfr:=hfr.ext_ hAb hs
  have hmk:=hmk.ext hs
  have o0:=o0.ext hs
  have hrec_0:=hrec_0.ext hs
  have u3:=u3.ext hs
  have l5:=l5.ext hs
  have t5:=t5.ext hs
  have b38:=b38.ext hs
  have m8:=hr
  refine Zg l8 rfl rfl ?_
  refine Zb (Zd ?_)
  obtain ⟨⟨cs_61,s26_61⟩,hx,h⟩:=Ge h
  refine E_join (fun e w=>∃ (g:Gh) ,FrY gI wI B J (cs_61) g w∧MkF g w []∧RFr k9 bA g w∧HB 10 g w aB (.loop { y9 with state:=.busy })∧e 2=p1∧PT g.m w (x0:FaultFaultLoom) p1∧e 3=p2∧PT g.m w (⟨(.func (.yield l) #[] #[]),rfl⟩:Fv) p2∧e 4=p6∧OB 2004 g w 50 (y5:List Str) p6∧e 10=(.func (.func 170) #[v8] #[])∧e 26=.bool (s26_61)) (fun Q' hQ=>?_) (fun sD zD hR=>?_)
  ·replace h := hx
   clear hx
   refine Za (Zn l8 rfl rfl ?_)
   refine Ze .plain rfl (D_loadO (g:=iA) Try.isAgg50 Try.sizeOf50 rfl t5 fun mC qC=>?_)
   obtain ⟨y55,iB,h⟩:=Ge h
   refine Ze .plain rfl (Zp (g:=iA) (vs:=[l8,mC]) en171 (.cons rfl (.cons rfl .nil)) (wk171 m8 qC iB) fun n8 tD aE hs hr=>?_)
   have hfr:=hfr.ext_ hAb hs
   have hmk:=hmk.ext hs
   have o0:=o0.ext hs
   have hrec_0:=hrec_0.ext hs
   have u3:=u3.ext hs
   have l5:=l5.ext hs
   have t5:=t5.ext hs
   have b38:=b38.ext hs
   have m8:=m8.ext hs
   subst hr
   refine Ga (.bool (!y55)) (P_not rfl) rfl ?_
   refine Zn (.bool (!y55)) rfl rfl ?_
   rcases Zt h with ⟨x5,h⟩ | ⟨x5,h⟩
   ·refine Ze (.yes2 rfl rfl x5) rfl (D_load (α := Fv) (g := n8) Try.isAgg313 Try.sizeOf313 rfl l5 fun rA yA => ?_)
    have e57:rA=(.func (.yield l) #[] #[]):=RV_fv.1 yA
    clear yA
    subst rA
    refine Ze (.yes2 rfl rfl x5) rfl (D_loadO (g:=n8) Try.isAgg56 Try.sizeOf56 rfl b38 fun bE rC=>?_)
    refine Gb l8 (Zk rfl) rfl rfl x5 rfl ?_
    obtain ⟨uC,lB,h⟩:=Ge h
    obtain ⟨yb59,ys59⟩:=uC
    refine Ze (.yes2 rfl rfl x5) rfl (D_yield (g:=n8) (x:=(i6,y44)) rfl (.cons rfl (.cons rfl .nil)) hRo hfr lB ⟨_,_,rfl,rC,m8⟩ fun vC iE hs hfrY=>?_)
    have hmk:=hmk.stp hs
    have o0:=o0.stp hs
    have hrec_0:=hrec_0.stp hs rfl
    have u3:=u3.stp hs
    have l5:=l5.stp hs
    have t5:=t5.stp hs rfl
    have hfr:=hfrY
    clear hfrY
    refine Gb (.bool (!yb59)) (P_not rfl) rfl rfl x5 rfl ?_
    refine Ga (.bool (!yb59)) (Zl (b:=(!y55)) rfl (pick_t x5 rfl)) rfl ?_
    refine Zb ?_
    obtain ⟨rfl,rfl⟩:=pairs2 h
    exact hQ _ _ ⟨vC,hfr,hmk,o0,hrec_0,rfl,u3,rfl,l5,rfl,t5,rfl,rfl⟩
   ·refine Gc rfl rfl x5 rfl rfl ?_
    iterate 4 refine Gc rfl rfl x5 rfl rfl ?_
    refine Ga (.bool false) (Zl (b:=(!y55)) rfl (pick_f x5 rfl)) rfl ?_
    refine Zb ?_
    obtain ⟨rfl,rfl⟩:=pairs2 h
    exact hQ _ _ ⟨n8,hfr,hmk,o0,hrec_0,rfl,u3,rfl,l5,rfl,t5,rfl,rfl⟩
  ·clear hx
   obtain ⟨lE,hfr,hmk,o0,hrec_0,bD,x8,cD,a9,eD,d9,aD,g8⟩:=hR
   rcases Zt h with ⟨k8,h⟩ | ⟨k8,h⟩
   ·refine E_cond_true (Eq.trans (show ev _ _ = .bool (s26_61) from g8) (congrArg Value.bool k8)) ?_
    refine E_ret (blk_r ?_)
    obtain ⟨rfl,rfl⟩:=pairs2 h
    exact ⟨_,o0,⟨hfr,hmk,x8,a9,d9⟩,hrec_0,rfl,0,rfl,rfl⟩
   ·refine E_cond_false (Eq.trans (show ev _ _ = .bool (s26_61) from g8) (congrArg Value.bool k8)) ?_
    refine Zu (blk_n ?_)
    obtain ⟨rfl,rfl⟩:=pairs2 h
    exact ⟨_,o0,⟨hfr,hmk,x8,a9,d9⟩,hrec_0,rfl,rfl⟩
 ·intro mE oE ds65 hsz hR hds
  obtain ⟨hfr,hmk,gD,iD,jD⟩:=hR
  obtain ⟨D,hdse,hD,hDb⟩:=hds.1 rfl
  subst hdse
  replace hmk:=MkF.push hmk0 hmk hD hDb
  clear hD hDb hds
  revert hmk
  generalize ({ target:=.collected D,args:=#[] } :: []:List Deferred)=lD
  intro hmk
  refine ⟨fun hs=>?_,fun k c hs hc=>?_⟩
  ·have hs : x6 = 0 := hs
   subst hs
   replace h:=cond_t h rfl
   refine blk_n (endM (.inl rfl) hmk fun rE uE hs=>?_)
   have hfr:=hfr.stp_ hAb hs rfl
   obtain rfl:=sinj h
   exact end0n rfl rfl (FrY.done hfr)
  ·have hs : x6 = k + 1 := hs
   match k,hs,hc with
   | 0,hs,hc=>
    subst hs
    obtain rfl:=sinj hc
    replace h:=cond_f h rfl
    refine E_ret (blk_r ?_)
    refine endM (.inr rfl) hmk fun vE xE hs=>?_
    have hfr:=hfr.stp_ hAb hs rfl
    obtain rfl:=sinj h
    exact end0 rfl rfl (FrY.done hfr)
   | n + 1,_,hc=>exact absurd hc (by simp)
def f14 (x0:FaultLoom) (x1:List Zv) (x2:Int):Option ((List Str) × Int):=
 jn (σ:=(List Str)) (fun a9=>
  (f74 ((⟨x0⟩:FaultFaultLoom)) x1).bind fun y6=>
  Option.bind (α:=(List Str)) (
   lp (σ:=(List Str) × Int) (fun uC (m7,o0)=>
    bif (decide (o0 < x2)) then
     Option.bind (α:=(List Str)) (
      (rem64 o0 ((y6).length:Int)).bind fun y44=>
      (idx y6 y44).bind fun d9=>
      (apnd 16 m7 (([d9]:List Str))).bind fun vC=>
      some (vC)
      ) fun l5=>
     uC (l5,(w64 (o0 + (1:Int))))
    else
     some (m7)
    ) big (a9,(0:Int))
   ) fun t5=>
  some (t5,(0:Int))
  ) fun k6=>
 (f73 x0 x1 x2).bind fun y9=>
 bif (y9 != (0 : Int)) then
  some ([],y9)
 else
  k6 ([])
theorem en14:Enters Try.prog 14:=enters_of Try.func14 (by kernel_rfl) rfl
theorem wk14 {gI:Gh} {wI:World} {x0:FaultLoom} {x1:List Zv} {x2:Int} {up0:Value} (rp0:RV gI.m wI x0 up0) {up1:Value} (rp1:RV gI.m wI x1 up1) {r:(List Str) × Int} (h:f14 x0 x1 x2=some r):Fn Try.prog 14 #[up0,up1,.int .i64 (x2)] gI wI (fun m w v=>∃ y0 y1,v=.tuple #[y0,y1]∧RV m w (r.1) y0∧y1=.int .i64 (r.2)):=by
 unfold f14 at h
 refine fn_of_E Try.func14 rfl (Nat.le_of_ble_eq_true rfl) fun g0 hm hfr=>?_
 have rp0:RV g0.m wI x0 up0:=hm ▸ rp0
 have rp1:RV g0.m wI x1 up1:=hm ▸ rp1
 show E _ 38 none _ _ _ _ _
 refine Zf (Za (Ze .plain rfl (D_box (g:=g0) rfl rp0 fun g1 w1 p1 hs q1=>?_)))
 have hfr:=hfr.ext hs
 have rp1:=rp1.ext hs
 refine Zg (.slice none 0 0) rfl rfl ?_
 refine Zg (.int .i64 (0)) rfl rfl ?_
 refine Zb (Zd (Zq h (fun (s:(List Str)) e w=>∃ (g:Gh) (v6:Value),Fr gI wI g w∧e 1=up1∧RV g.m w (x1:List Zv) up1∧e 2=.int .i64 (x2)∧e 3=p1∧PT g.m w (x0:FaultLoom) p1∧e 6=v6∧RV g.m w (s:List Str) v6∧OS 1006 g w 9 (s:List Str) v6) (fun X6 k6 hk6 h=>?_) ?_))
 ·refine Zf (Za (Ze .plain rfl (D_load (g := g1) Try.isAgg32 Try.sizeOf32 rfl q1 fun v7 r7 => ?_)))
  refine Zn up1 rfl rfl ?_
  refine Zn (.int .i64 (x2)) rfl rfl ?_
  obtain ⟨y9,oD,h⟩:=Ge h
  refine Ze .plain rfl (Zp (g:=g1) (vs:=[v7,up1,.int .i64 (x2)]) en73 (.cons rfl (.cons rfl (.cons rfl .nil))) (wk73 r7 rp1 oD) fun g8 w8_ v8 hs hr=>?_)
  have hfr:=hfr.ext hs
  have rp1:=rp1.ext hs
  have q1:=q1.ext hs
  subst hr
  refine Zg (.int .i64 (y9)) rfl rfl ?_
  refine Zb (Zd (Zf (Za (Zn (.int .i64 (y9)) rfl rfl ?_))))
  refine EL_in (.bool ((y9 != (0:Int)))) rfl rfl rfl rfl ?_
  refine Zb (Zd ?_)
  rcases Zt h with ⟨r8,h⟩ | ⟨r8,h⟩
  ·refine E_ct r8 rfl ?_
   refine Zf (Za (Zn (.int .i64 (y9)) rfl rfl ?_))
   refine Zg (.slice none 0 0) rfl rfl ?_
   refine Zg (.int .i64 (y9)) rfl rfl ?_
   refine Zb (Zd (E_ret (thn_r ?_)))
   obtain rfl:=sinj h
   exact end2 rfl rfl (show _=.slice none 0 0 from rfl) (show _=.int .i64 (y9) from rfl) ⟨_,hfr,_,_,rfl,RV_nil,rfl⟩
  ·refine E_cf r8 rfl ?_
   exact Zu (Zd (hk6 ([]) _ _ ⟨g8,(.slice none 0 0),hfr,rfl,rp1,rfl,rfl,q1,rfl,RV_nil,OS.nil⟩ h))
 ·rintro a9 lE vE ⟨n9, yA, hfr, aB, dB, iB, lB, mB, nB, k8, l8⟩ h
  refine Zf (Za (Ze .plain rfl (D_load (g:=n9) Try.isAgg32 Try.sizeOf32 lB mB fun u9 aD=>?_)))
  have bD:RV n9.m _ (⟨x0⟩:FaultFaultLoom) (.agg (setCh [[.int .i64 0,.slice none 0 0,.int .i64 0,.slice none 0 0]] [(0,u9)]).flatten.toArray):=RV_build rfl (rep_last (RV.cells aD))
  generalize gD:(Value.agg (setCh [[.int .i64 0,.slice none 0 0,.int .i64 0,.slice none 0 0]] [(0,u9)]).flatten.toArray)=cD at bD
  refine Ga cD (gD ▸ P_build (vs:=[(0,u9)]) [[.int .i64 0,.slice none 0 0,.int .i64 0,.slice none 0 0]] lay_170 rfl rfl (.cons rfl .nil) ⟨⟨_,rfl,cells_size aD⟩,trivial⟩) rfl ?_
  refine Zo aB rfl ?_
  obtain ⟨y6,iD,h⟩:=Ge h
  refine Ze .plain rfl (Zp (g:=n9) (vs:=[cD,up1]) en74 (.cons rfl (.cons rfl .nil)) (wk74 bD dB iD) fun sD mE i7 hs hr=>?_)
  have hfr:=hfr.ext hs
  have k8:=k8.ext hs
  have l8:=l8.ext hs
  have tD:=hr
  refine Zg i7 rfl rfl ?_
  refine Zb (Zd ?_)
  obtain ⟨t5,hx,h⟩:=Ge h
  refine E_join (fun e w=>∃ (g:Gh) (v6:Value),Fr gI wI g w∧e 6=v6∧RV g.m w (t5:List Str) v6∧OS 1006 g w 9 (t5:List Str) v6) (fun Q' hQ=>?_) (fun oE xE hR=>?_)
  ·replace h := hx
   clear hx
   refine Zf (Za (Zo iB rfl ?_))
   refine Zn (.int .i64 (0)) rfl rfl ?_
   refine Zb (Zd (Zr ?_))
   refine E_lp h (fun (s:(List Str) × Int) e w=>∃ (g:Gh) (v6:Value),Fr gI wI g w∧e 6=v6∧RV g.m w (s.1:List Str) v6∧OS 1006 g w 9 (s.1:List Str) v6∧e 9=i7∧RV g.m w (y6:List Str) i7∧e 22=.int .i64 (x2)∧e 23=.int .i64 (s.2)) ⟨sD,(yA),hfr,nB,k8,l8,rfl,tD,rfl,rfl⟩ (fun X34 uC jD=>?_)
   rintro ⟨m7,o0⟩ rE yE ⟨z9,oB,hfr,k9,x5,i6,m8,u3,n8,x6⟩ h
   refine Zf (Za (EL_in (.bool ((decide (o0 < x2)))) x6 n8 rfl rfl ?_))
   refine Zb (Zd (Zf ?_))
   rcases Zt h with ⟨x8,h⟩ | ⟨x8,h⟩
   ·refine E_ct x8 rfl ?_
    refine Zu (Zd ?_)
    obtain ⟨l5,hx,h⟩:=Ge h
    refine E_join (fun e w=>∃ (g:Gh) (v6:Value),Fr gI wI g w∧e 6=v6∧RV g.m w (l5:List Str) v6∧OS 1006 g w 9 (l5:List Str) v6∧e 9=i7∧RV g.m w (y6:List Str) i7∧e 22=.int .i64 (x2)∧e 23=.int .i64 (o0)) (fun Q' hQ=>?_) (fun uE zE hR=>?_)
    ·replace h := hx
     clear hx
     refine Zr ?_
     refine Zf (Za (Zo x6 rfl ?_))
     refine Zg (.int .i64 (o0)) rfl rfl ?_
     refine Zb (Zd (Za (Zo k9 rfl ?_)))
     refine Zo m8 rfl ?_
     refine Zn (.int .i64 (o0)) rfl rfl ?_
     refine Zo m8 rfl ?_
     refine Ga (.int .i64 ((y6).length:Int)) (P_len Try.underlying50 rfl u3) rfl ?_
     obtain ⟨y44,lD,h⟩:=Ge h
     refine Ga (.int .i64 (y44)) (P_int rfl rfl (congrArg (Option.map (Value.int .i64)) lD)) rfl ?_
     obtain ⟨d9,bA,h⟩:=Ge h
     refine Ga (ePtr i7 y44 1) (Zh (α:=Str) Try.underlying50 Try.sizeOf9 rfl u3 rfl bA) rfl ?_
     have uD:=PT_idx u3 bA
     refine Ze .plain rfl (D_load (g:=z9) Try.isAgg9 Try.sizeOf9 rfl uD fun cF vD=>?_)
     obtain rfl:=RV_str.1 vD
     refine Ze .plain rfl (D_buildSlice (g:=z9) 3034 (xs:=([d9]:List Str)) (vs:=[Str.v (d9)]) Try.underlying50 Try.sizeOf9 Try.zeroValue9 rfl rfl (.cons rfl .nil) (RVs.cons (RV_str.2 rfl) RVs.nil) rfl rfl fun xD dF eF hs o48 yD hxt hfl=>?_)
     have hfr:=hfr.stp hs
     have x5:=x5.stp hs
     have i6:=i6.stp hs rfl
     have u3:=u3.stp hs
     obtain ⟨vC,nD,h⟩:=Ge h
     refine Ze .plain rfl (D_append (g:=xD) (i:=1006) Try.underlying50 info_9 rfl rfl i6 x5 rfl yD nD fun zD rF eD hs o49 aE _=>?_)
     have hfr:=hfr.stp hs
     have u3:=u3.stp hs
     refine Zg eD rfl rfl ?_
     refine Zb (blk_n ?_)
     obtain rfl:=sinj h
     exact hQ _ _ ⟨zD,(eD),hfr,rfl,aE,o49,m8,u3,n8,x6⟩
    ·clear hx
     obtain ⟨bE,tB,hfr,vB,yB,zB,cC,mC,iA,rA⟩:=hR
     refine Za (EL_in (.int .i64 ((w64 (o0 + (1:Int))))) rA rfl rfl rfl ?_)
     refine Zn (.int .i64 ((w64 (o0 + (1:Int))))) rfl rfl ?_
     exact Zb (Zd (jD (l5,(w64 (o0 + (1:Int)))) _ _ ⟨bE,(tB),hfr,vB,yB,zB,cC,mC,iA,rfl⟩ h))
   ·refine E_cf x8 rfl ?_
    refine E_exit ?_
    refine thn_e ?_
    refine thn_e ?_
    refine blk_hit ?_
    obtain rfl:=sinj h
    exact hQ _ _ ⟨z9,(oB),hfr,k9,x5,i6⟩
  ·clear hx
   obtain ⟨sF,l9,hfr,qC,rC,iE⟩:=hR
   refine Zf (Za (Zo qC rfl ?_))
   refine Zg l9 rfl rfl ?_
   refine Zg (.int .i64 (0)) rfl rfl ?_
   refine Zb (Zd (E_ret ?_))
   obtain rfl:=sinj h
   exact end2 rfl rfl (show _=l9 from rfl) (show _=.int .i64 (0) from rfl) ⟨_,hfr,_,_,rfl,rC,rfl⟩
def f34 (x0:FaultLoom) (x1:List Zz):Option ((List Zv) × Bool × Int):=
 jn (σ:=(List Zv)) (fun m8=>
  Option.bind (α:=(List Zv)) (
   ((fun σ cons s=>f96 ((⟨x0⟩:FaultFaultLoom)) σ cons s) ((List Zv)) (fun n8 (r8,aB)=>
    (f97 aB x1).bind fun iE=>
    bif iE then
     (apnd 40 n8 (([r8]:List Zv))).bind fun y9=>
     some (true,(y9))
    else
     some (true,(n8))
    ) (m8)).bind fun l9=>
   some (l9)
   ) fun i6=>
  (f74 ((⟨x0⟩:FaultFaultLoom)) ([])).bind fun i7=>
  (f97 i7 x1).bind fun m7=>
  some (i6,m7,(0:Int))
  ) fun lE=>
 (f95 x0).bind fun x6=>
 bif (x6 != (0 : Int)) then
  some ([],false,x6)
 else
  bif (decide (((x1).length : Int) > (60 : Int))) then
   some ([],false,(5:Int))
  else
   (f90 x1 ((fun a0=>f93 a0 x0))).bind fun nB=>
   bif nB then
    some ([],false,(2:Int))
   else
    lE (([]:List Zv))
theorem en34:Enters Try.prog 34:=enters_of Try.func34 (by kernel_rfl) rfl
theorem wk34 {gI:Gh} {wI:World} {x0:FaultLoom} {x1:List Zz} {up0:Value} (rp0:RV gI.m wI x0 up0) {up1:Value} (rp1:RV gI.m wI x1 up1) {r:(List Zv) × Bool × Int} (h:f34 x0 x1=some r):Fn Try.prog 34 #[up0,up1] gI wI (fun m w v=>∃ y0 y1 y2,v=.tuple #[y0,y1,y2]∧RV m w (r.1) y0∧y1=.bool (r.2.1)∧y2=.int .i64 (r.2.2)):=by
 unfold f34 at h
 refine fnD_of_E Try.func34 rfl (Nat.le_of_ble_eq_true rfl) fun g0 hm hfr=>?_
 have hmk:MkF g0 wI []:=MkF.start
 have rp0:RV g0.m wI x0 up0:=hm ▸ rp0
 have rp1:RV g0.m wI x1 up1:=hm ▸ rp1
 show E _ 44 none _ _ _ _ _
 refine Zf (Za (Ze .plain rfl (D_box (g:=g0) rfl rp0 fun g1 w1 p1 hs q1=>?_)))
 have hfr:=hfr.ext hs
 have hmk:=hmk.ext hs
 have rp1:=rp1.ext hs
 refine Ze .plain rfl (D_box (g:=g1) rfl rp1 fun g2 w2 p2 hs q2=>?_)
 have hfr:=hfr.ext hs
 have hmk:=hmk.ext hs
 have q1:=q1.ext hs
 refine Ze .plain rfl (D_allocOc (g:=g2) 2004 ([]:List Zv) Try.zeroValue57 (fun m w=>⟨_,rep_nil,rfl⟩) fun g3 w3 p3 hs b3 cb=>?_)
 have hfr:=hfr.stp hs
 have hmk:=hmk.stp hs
 have q1:=q1.stp hs
 have q2:=q2.stp hs
 have g8:OSF 2004 60400 0 g3 w3 56 57 ([]:List Zv) p3:=cb.osf (by rfl)
 clear cb
 refine Zg (.bool false) rfl rfl ?_
 refine Zg (.int .i64 (0)) rfl rfl ?_
 refine Zb (Zd (Zf (Za (Ga ((.func (.func 93) #[] #[p1])) (P_makeFunc (capf_0_1 (show ev _ _=p1 from rfl))) rfl ?_))))
 refine Zg ((.func (.func 93) #[] #[p1])) rfl rfl ?_
 refine Zb (Zd (E_joinCD h (fun (s:(List Zv)) e ds w=>∃ (g:Gh) ,Fr gI wI g w∧MkF g w ds∧e 2=p1∧PT g.m w (x0:FaultLoom) p1∧e 3=p2∧PT g.m w (x1:List Zz) p2∧e 4=p3∧OB 2004 g w 57 (s:List Zv) p3∧OSF 2004 60400 0 g w 56 57 (s) p3) (fun X23 lE xE h=>?_) ?_))
 ·refine Zf (Za (Ze .plain rfl (D_load (g := g3) Try.isAgg32 Try.sizeOf32 rfl q1 fun jG kG => ?_)))
  obtain ⟨x6,yE,h⟩:=Ge h
  refine Ze .plain rfl (Zp (g:=g3) (vs:=[jG]) en95 (.cons rfl .nil) (wk95 kG yE) fun n9 yH vI hs hr=>?_)
  have hfr:=hfr.ext hs
  have hmk:=hmk.ext hs
  have q1:=q1.ext hs
  have q2:=q2.ext hs
  have g8:=g8.ext hs
  have b3:=b3.ext hs
  subst hr
  refine Zg (.int .i64 (x6)) rfl rfl ?_
  refine Zb (Zd (Zr ?_))
  refine Zf (Za (Zn (.int .i64 (x6)) rfl rfl ?_))
  refine EL_in (.bool ((x6 != (0:Int)))) rfl rfl rfl rfl ?_
  refine Zg (.bool ((x6 != (0:Int)))) rfl rfl ?_
  refine Zb (Zd ?_)
  rcases Zt h with ⟨z9,h⟩ | ⟨z9,h⟩
  ·refine E_ct z9 rfl ?_
   refine Zf (Za (Zn (.int .i64 (x6)) rfl rfl ?_))
   refine Ze .plain rfl (D_storeOc (g:=n9) (v:=.slice none 0 0) Try.sizeOf57 rfl b3 rfl RV_nil fun lG mG hs b28 cb=>?_)
   have qH:OSF 2004 60400 0 lG mG 56 57 ([]:List Zv) p3:=cb.osfr (rfl) OS.nil
   clear cb
   have hfr:=hfr.stp hs
   have hmk:=hmk.stp hs
   refine Zg (.bool false) rfl rfl ?_
   refine Zg (.int .i64 (x6)) rfl rfl ?_
   refine Zb (Zd (E_ret (blk_r ?_)))
   refine thn_r ?_
   refine endM (.inr rfl) hmk fun yI w29 hs=>?_
   have hfr:=hfr.stp hs
   have b28:=b28.stp hs rfl
   obtain rfl:=sinj h
   obtain ⟨ad30,cv30,hp30,zE,cr30⟩:=ob_read Try.isAgg57 Try.sizeOf57 b28
   exact endm_ctt rfl rfl ((show _=p3 from rfl).trans hp30) zE (show _=.bool false from rfl) (show _=.int .i64 (x6) from rfl) ⟨_,hfr,_,_,_,rfl,cr30,rfl,rfl⟩
  ·refine E_cf z9 rfl ?_
   refine Zf (Za (Ze .plain rfl (D_load (g:=n9) Try.isAgg85 Try.sizeOf85 rfl q2 fun zI sG=>?_)))
   refine Ga (.int .i64 ((x1).length:Int)) (P_len Try.underlying85 rfl sG) rfl ?_
   refine EL_in (.bool ((decide (((x1).length:Int) > (60:Int))))) rfl rfl rfl rfl ?_
   refine Zg (.bool ((decide (((x1).length:Int) > (60:Int))))) rfl rfl ?_
   refine Zb (Zd ?_)
   rcases Zt h with ⟨bA,h⟩ | ⟨bA,h⟩
   ·refine E_ct bA rfl ?_
    refine Zf (Za (Ze .plain rfl (D_storeOc (g:=n9) (v:=.slice none 0 0) Try.sizeOf57 rfl b3 rfl RV_nil fun xG yG hs b33 cb=>?_)))
    have sH:OSF 2004 60400 0 xG yG 56 57 ([]:List Zv) p3:=cb.osfr (rfl) OS.nil
    clear cb
    have hfr:=hfr.stp hs
    have hmk:=hmk.stp hs
    refine Zg (.bool false) rfl rfl ?_
    refine Zg (.int .i64 (5)) rfl rfl ?_
    refine Zb (Zd (E_ret (blk_r ?_)))
    refine thn_r ?_
    refine endM (.inr rfl) hmk fun eJ gJ hs=>?_
    have hfr:=hfr.stp hs
    have b33:=b33.stp hs rfl
    obtain rfl:=sinj h
    obtain ⟨ad35,cv35,hp35,cF,cr35⟩:=ob_read Try.isAgg57 Try.sizeOf57 b33
    exact endm_ctt rfl rfl ((show _=p3 from rfl).trans hp35) cF (show _=.bool false from rfl) (show _=.int .i64 (5) from rfl) ⟨_,hfr,_,_,_,rfl,cr35,rfl,rfl⟩
   ·refine E_cf bA rfl ?_
    refine Zf (Za (Ze .plain rfl (D_load (g:=n9) Try.isAgg85 Try.sizeOf85 rfl q2 fun zG aH=>?_)))
    refine Zn ((.func (.func 93) #[] #[p1])) rfl rfl ?_
    obtain ⟨nB,dF,h⟩:=Ge h
    refine Ze .plain rfl (Zp (g:=n9) (vs:=[zG,(.func (.func 93) #[] #[p1])]) en90 (.cons rfl (.cons rfl .nil)) (wk90 aH ⟨93,#[],#[p1],rfl,en93,fun g' w' hch a0 b0 r hu0 hr=>by exact Fn.mono (wk93 hu0 (q1.ch hch) hr) fun _ _ _ h=>RV_bool.2 h⟩ dF) fun mE zH iJ hs hr=>?_)
    have hfr:=hfr.ext hs
    have hmk:=hmk.ext hs
    have q1:=q1.ext hs
    have q2:=q2.ext hs
    have g8:=g8.ext hs
    have b3:=b3.ext hs
    subst hr
    refine Zg (.bool (nB)) rfl rfl ?_
    refine Zb (Zd ?_)
    rcases Zt h with ⟨iA,h⟩ | ⟨iA,h⟩
    ·refine E_ct iA rfl ?_
     refine Zf (Za (Ze .plain rfl (D_storeOc (g:=mE) (v:=.slice none 0 0) Try.sizeOf57 rfl b3 rfl RV_nil fun cH dH hs b40 cb=>?_)))
     have tH:OSF 2004 60400 0 cH dH 56 57 ([]:List Zv) p3:=cb.osfr (rfl) OS.nil
     clear cb
     have hfr:=hfr.stp hs
     have hmk:=hmk.stp hs
     refine Zg (.bool false) rfl rfl ?_
     refine Zg (.int .i64 (2)) rfl rfl ?_
     refine Zb (Zd (E_ret (blk_r ?_)))
     refine thn_r ?_
     refine endM (.inr rfl) hmk fun jJ kJ hs=>?_
     have hfr:=hfr.stp hs
     have b40:=b40.stp hs rfl
     obtain rfl:=sinj h
     obtain ⟨ad42,cv42,hp42,eF,cr42⟩:=ob_read Try.isAgg57 Try.sizeOf57 b40
     exact endm_ctt rfl rfl ((show _=p3 from rfl).trans hp42) eF (show _=.bool false from rfl) (show _=.int .i64 (2) from rfl) ⟨_,hfr,_,_,_,rfl,cr42,rfl,rfl⟩
    ·refine E_cf iA rfl ?_
     exact Zu (blk_n (Zd (xE (([]:List Zv)) _ _ _ ⟨mE,hfr,hmk,rfl,q1,rfl,q2,rfl,b3,g8⟩ h)))
 ·rintro m8 aI dB gH ⟨oB, hfr, hmk, iB, lB, mB, nD, v8, oD, u4_0_43⟩ h
  obtain ⟨i6,hx,h⟩:=Ge h
  refine E_joinD (fun e ds w=>∃ (g:Gh) ,Fr gI wI g w∧MkF g w ds∧e 2=p1∧PT g.m w (x0:FaultLoom) p1∧e 3=p2∧PT g.m w (x1:List Zz) p2∧e 4=p3∧OB 2004 g w 57 (i6:List Zv) p3∧OSF 2004 60400 0 g w 56 57 (i6) p3) (fun Q' hQ=>?_) (fun uH iH bI hR=>?_)
  ·replace h := hx
   clear hx
   refine Zf (Za (Ze .plain rfl (D_load (g:=oB) Try.isAgg32 Try.sizeOf32 iB lB fun tB oE=>?_)))
   have rE:RV oB.m _ (⟨x0⟩:FaultFaultLoom) (.agg (setCh [[.int .i64 0,.slice none 0 0,.int .i64 0,.slice none 0 0]] [(0,tB)]).flatten.toArray):=RV_build rfl (rep_last (RV.cells oE))
   generalize rF:(Value.agg (setCh [[.int .i64 0,.slice none 0 0,.int .i64 0,.slice none 0 0]] [(0,tB)]).flatten.toArray)=u9 at rE
   refine Ga u9 (rF ▸ P_build (vs:=[(0,tB)]) [[.int .i64 0,.slice none 0 0,.int .i64 0,.slice none 0 0]] lay_170 rfl rfl (.cons rfl .nil) ⟨⟨_,rfl,cells_size oE⟩,trivial⟩) rfl ?_
   refine Ga ((.func (.func 96) #[u9] #[])) (P_makeFunc (capf_1_0 (show ev _ _=u9 from rfl))) rfl ?_
   refine Zb (Zd (Zr ?_))
   have hB0:=hfr.size
   have hmk0:=hmk
   obtain ⟨l9,hφ,h⟩:=Ge h
   refine E_rangeFunc (σ:=((List Zv))) (s0:=(m8)) 10 rfl (fun _=>0) [] (fun (s:(List Zv)) (g:Gh) (w:World)=>Fr gI wI g w∧MkF g w dB∧PT g.m w (x0:FaultLoom) p1∧PT g.m w (x1:List Zz) p2∧OB 2004 g w 57 (s:List Zv) p3∧OSF 2004 60400 0 g w 56 57 (s) p3) rfl (show ItV Try.prog (RA2 (α:=Zv) (β:=(List Str))) (fun σ cons s=>f96 ((⟨x0⟩:FaultFaultLoom)) σ cons s) ((.func (.func 96) #[u9] #[])) oB.m gH from ⟨96,#[u9],#[],rfl,en96,fun g' w' hch σ cons s s' h=>wk96 (rE.ch hch)  h⟩) hφ (fun _ _ _ _=>rfl) rfl ra2_size rfl (fun _ _ _ _ _ hx hR=>by obtain ⟨hfr,hmk,z2,z3,z4,z5⟩:=hR; exact ⟨hfr.ist hx hB0,hmk.ist hx,z2.ist hx,z3.ist hx,z4.ist hx,z5.ist hx⟩) (fun _ _ _ _ _ hx hR=>by obtain ⟨hfr,hmk,z2,z3,z4,z5⟩:=hR; exact ⟨hfr.stp hx,hmk.stp hx,z2.stp hx,z3.stp hx,z4.stp hx rfl,z5.stp hx rfl⟩) ⟨hfr,hmk,lB,nD,oD,u4_0_43⟩ (fun _ h=>by cases h) ?_ ?_
   ·intro dI xH s x b s2 uE jH vs hsz h hR hrec_0 vB hrd
    obtain ⟨n8,hse⟩:∃ y,y=s:=⟨s,rfl⟩
    subst hse
    obtain ⟨hfr,hmk,u3,o0,t5,u4_0_93⟩:=hR
    obtain ⟨r8,aB⟩:=x
    obtain ⟨sD,x8,rfl,k8,x5⟩:=ra2_get hrd
    have l5:=RFr.refl uE jH
    refine Zf (Za (Ze .plain rfl (D_allocOc (g:=uE) 2009 (⟨0,0,0,0,false⟩:Zv) Try.zeroValue56 (fun m w=>⟨_,(rep_two Zy (rep_two Zy (rep_two Zy (rep_two Zy rep_bool)))),rfl⟩) fun kH lJ mJ hs b94 cb=>?_)))
    have hfr:=hfr.stp hs
    have hmk:=hmk.stp hs
    have l5:=l5.stp hs
    have hrec_0:=hrec_0.stp hs rfl
    have u3:=u3.stp hs
    have o0:=o0.stp hs
    have u4_0_93:=u4_0_93.stp hs rfl
    have t5:=t5.stp hs rfl
    have k8:=k8.stp hs
    have x5:=x5.stp hs
    clear cb
    refine Ze .plain rfl (D_storeOc (g:=kH) (v:=sD) Try.sizeOf56 rfl b94 rfl k8 fun vE nJ hs b95 cb=>?_)
    clear cb
    have hfr:=hfr.stp hs
    have hmk:=hmk.stp hs
    have l5:=l5.stp hs
    have hrec_0:=hrec_0.stp hs rfl
    have u3:=u3.stp hs
    have o0:=o0.stp hs
    have u4_0_93:=u4_0_93.stp hs rfl
    have t5:=t5.stp hs rfl
    have x5:=x5.stp hs
    refine Zb (Zd (Za (Zg x8 rfl rfl ?_)))
    refine Zb (Zd ?_)
    obtain ⟨lH,hbr,hs,hrN⟩:=begin_round hrec_0 vB
    refine ⟨lH,hbr,?_⟩
    have hfr:=hfr.stp hs
    have hmk:=hmk.stp hs
    have l5:=l5.stp hs
    have u3:=u3.stp hs
    have o0:=o0.stp hs
    have u4_0_93:=u4_0_93.stp hs rfl
    have t5:=t5.stp hs rfl
    have x5:=x5.stp hs
    have b95:=b95.stp hs rfl
    have hrec_0:=hrN
    clear hbr hs hrN
    refine Zr ?_
    refine Zf (Za (Zn x8 rfl rfl ?_))
    refine Ze .plain rfl (D_load (g:=vE) Try.isAgg85 Try.sizeOf85 mB o0 fun mH nH=>?_)
    obtain ⟨iE,sF,h⟩:=Ge h
    refine Ze .plain rfl (Zp (g:=vE) (vs:=[x8,mH]) en97 (.cons rfl (.cons rfl .nil)) (wk97 x5 nH sF) fun yB iI oJ hs hr=>?_)
    have hfr:=hfr.ext hs
    have hmk:=hmk.ext hs
    have l5:=l5.ext hs
    have hrec_0:=hrec_0.ext hs
    have u3:=u3.ext hs
    have o0:=o0.ext hs
    have u4_0_93:=u4_0_93.ext hs
    have t5:=t5.ext hs
    have b95:=b95.ext hs
    subst hr
    refine Zb (Zd ?_)
    rcases Zt h with ⟨a9,h⟩ | ⟨a9,h⟩
    ·refine E_ct a9 rfl ?_
     refine Za (Ze .plain rfl (D_loadOS (g:=yB) Try.isAgg57 Try.sizeOf57 v8 t5 u4_0_93 fun jI rA o101=>?_))
     refine Ze .plain rfl (D_loadO (g:=yB) Try.isAgg56 Try.sizeOf56 rfl b95 fun tF uF=>?_)
     refine Ze .plain rfl (D_buildSlice (g:=yB) 3036 (xs:=([r8]:List Zv)) (vs:=[tF]) Try.underlying57 Try.sizeOf56 Try.zeroValue56 rfl rfl (.cons rfl .nil) (RVs.cons uF RVs.nil) rfl rfl fun vF kI lI hs o103 xF hxt hfl=>?_)
     have hfr:=hfr.stp hs
     have hmk:=hmk.stp hs
     have l5:=l5.stp hs
     have hrec_0:=hrec_0.stp hs rfl
     have u3:=u3.stp hs
     have o0:=o0.stp hs
     have t5:=t5.stp hs rfl
     have rA:=rA.stp hs
     have o101:=o101.stp hs rfl
     obtain ⟨y9,tD,h⟩:=Ge h
     refine Ze .plain rfl (D_append (g:=vF) (i:=60400) Try.underlying57 info_56 rfl rfl o101 rA rfl xF tD fun yF mI zF hs o104 zB _=>?_)
     have hfr:=hfr.stp hs
     have hmk:=hmk.stp hs
     have l5:=l5.stp hs
     have hrec_0:=hrec_0.stp hs rfl
     have u3:=u3.stp hs
     have o0:=o0.stp hs
     have t5:=t5.stp hs rfl
     refine Ze .plain rfl (D_storeOc (g:=yF) (v:=zF) Try.sizeOf57 v8 t5 rfl zB fun aG bG hs b106 cb=>?_)
     have cC:OSF 2004 60400 0 aG bG 56 57 (y9:List Zv) p3:=cb.osfr (rv_cells1 zB) (o104.stp hs rfl)
     clear cb
     have hfr:=hfr.stp hs
     have hmk:=hmk.stp hs
     have l5:=l5.stp hs
     have hrec_0:=hrec_0.stp hs rfl
     have u3:=u3.stp hs
     have o0:=o0.stp hs
     refine Zb (blk_n ?_)
     obtain ⟨rfl,rfl⟩:=pairs2 h
     exact ⟨_,l5,⟨hfr,hmk,u3,o0,b106,cC⟩,hrec_0,rfl,rfl⟩
    ·refine E_cf a9 rfl ?_
     refine Zu (blk_n ?_)
     obtain ⟨rfl,rfl⟩:=pairs2 h
     exact ⟨_,l5,⟨hfr,hmk,u3,o0,t5,u4_0_93⟩,hrec_0,rfl,rfl⟩
   ·intro cG nI ds108 hsz hR hds
    obtain ⟨hfr,hmk,mC,qC,rC,u4_0_108⟩:=hR
    obtain ⟨D,hdse,hD,hDb⟩:=hds.1 rfl
    subst hdse
    replace hmk:=MkF.push hmk0 hmk hD hDb
    clear hD hDb hds
    revert hmk
    generalize ({ target:=.collected D,args:=#[] } :: dB:List Deferred)=oH
    intro hmk
    refine ⟨fun _=>?_,fun k c hs _=>absurd hs (Nat.succ_ne_zero k).symm⟩
    refine blk_n ?_
    obtain rfl:=sinj h
    exact hQ _ _ _ ⟨cG,hfr,hmk,iB,mC,mB,qC,v8,rC,u4_0_108⟩
  ·clear hx
   obtain ⟨uC,hfr,hmk,vC,aD,bD,cD,l8,y6,u4_0_109⟩:=hR
   refine Zf (L_loadOS (x:=.tmp 4) Try.isAgg57 Try.sizeOf57 y6 u4_0_109 fun eD d9 o110 uD=>?_)
   refine Zs (x:=.tmp 2) Try.isAgg32 Try.sizeOf32 aD fun k9 gD vD=>?_
   have iD:RV uC.m _ (⟨x0⟩:FaultFaultLoom) (.agg (setCh [[.int .i64 0,.slice none 0 0,.int .i64 0,.slice none 0 0]] [(0,k9)]).flatten.toArray):=RV_build rfl (rep_last (RV.cells gD))
   generalize xD:(Value.agg (setCh [[.int .i64 0,.slice none 0 0,.int .i64 0,.slice none 0 0]] [(0,k9)]).flatten.toArray)=jD at iD
   obtain ⟨i7,yD,h⟩:=Ge h
   refine Zs (x:=.tmp 3) Try.isAgg85 Try.sizeOf85 cD fun lD eG zD=>?_
   obtain ⟨m7,aE,h⟩:=Ge h
   refine E_drawL (g:=uC) (n:=6) [(3,(fun v g w=>RV g.m w i7 v)),(5,(fun v g w=>v=.bool (m7)))] [0,1,2,3,4,5] rfl mixed (by kernel_rfl) (⟨fun _=>up_rv,fun _=>up_eq _,trivial⟩) ?_
   refine L_ld (c:=eD) rfl rfl .plain (fun _ _ h=>⟨h.ch,fun b hb _=>h.below.block b hb⟩) uD l8 ?_
   refine L_ld (c:=k9) rfl rfl .plain (fun _ _ h=>h.ch) vD vC ?_
   refine Gd jD rfl rfl (xD ▸ P_build (vs:=[(0,k9)]) [[.int .i64 0,.slice none 0 0,.int .i64 0,.slice none 0 0]] lay_170 rfl rfl (.cons rfl .nil) ⟨⟨_,rfl,cells_size gD⟩,trivial⟩) ?_
   refine L_do (φ:=fun v g w=>RV g.m w i7 v) rfl rfl .plain (fun g w hd=>Zp (g:=g) (vs:=[jD,.slice none 0 0]) en74 (.cons rfl (.cons rfl .nil)) (wk74 (iD.ext hd.1) RV_nil yD) fun g' w' v hs hr=>⟨g',hs,hr⟩) (fun yA hv=>?_)
   obtain ⟨_,_,_,rq113⟩:=hv
   refine L_ld (c:=lD) rfl rfl .plain (fun _ _ h=>h.ch) zD bD ?_
   refine L_do (φ:=fun v g w=>v=.bool (m7)) rfl rfl .plain (fun g w hd=>Zp (g:=g) (vs:=[yA,lD]) en97 (.cons rfl (.cons rfl .nil)) (wk97 (word (A:=fun g w=>RV g.m w i7 yA) 3 rfl rfl (deps_of hd)) (eG.ext hd.1) aE) fun g' w' v hs hr=>⟨g',hs,hr⟩) (fun pI hv=>?_)
   obtain ⟨_,_,_,rfl⟩:=hv
   refine L_nil fun gG qI hall=>?_
   have hs:=hall.1
   have hfr:=hfr.ext hs
   have hmk:=hmk.ext hs
   have y6:=y6.ext hs
   have d9:=d9.ext hs
   have o110:=o110.ext hs
   have sI:=(word_all (A:=fun g w=>RV g.m w i7 yA) 3 rfl hall)
   clear hs hall
   refine Ze .plain rfl (D_storeOc (g:=gG) (v:=eD) Try.sizeOf57 l8 y6 rfl d9 fun hG iG hs b128 cb=>?_)
   have pH:OSF 2004 60400 0 hG iG 56 57 (i6:List Zv) p3:=cb.osfr (rv_cells1 d9) (o110.stp hs rfl)
   clear cb
   have hfr:=hfr.stp hs
   have hmk:=hmk.stp hs
   refine Zg (.bool (m7)) rfl rfl ?_
   refine Zg (.int .i64 (0)) rfl rfl ?_
   refine Zb (Zd (E_ret (endM (.inr rfl) hmk fun tI uI hs=>?_)))
   have hfr:=hfr.stp hs
   have b128:=b128.stp hs rfl
   obtain rfl:=sinj h
   obtain ⟨ad130,cv130,hp130,bE,cr130⟩:=ob_read Try.isAgg57 Try.sizeOf57 b128
   exact endm_ctt rfl rfl ((show _=p3 from l8).trans hp130) bE (show _=.bool (m7) from rfl) (show _=.int .i64 (0) from rfl) ⟨_,hfr,_,_,_,rfl,cr130,rfl,rfl⟩
end Go.Proofs.Ytjoniingnbmljaa
