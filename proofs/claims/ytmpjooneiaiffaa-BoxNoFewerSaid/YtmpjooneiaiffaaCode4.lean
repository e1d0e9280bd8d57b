import Derived.Test.YtmpjooneiaiffaaCode3
set_option maxRecDepth 8000
set_option maxHeartbeats 4000000
namespace Go.Proofs.Ytmpjooneiaiffaa
open Go.RowKit
def f57 : Nat → (BoxMill) → (List (BoxPoint × Int)) → (List (List Int)) → (BoxPoint) → Option (Int × (List (BoxPoint × Int)))
 | 0,_,_,_,_=>none
 | n + 1,x0,m0,x1,x2=>
  jn (σ:=Unit) (fun _=>
   jn (σ:=Unit) (fun _=>
    Option.bind (α:=Int × (List (BoxPoint × Int))) (
     (f80 x0 ((x2).race)).bind fun iB=>
     (iB (Int × (List (BoxPoint × Int))) (fun (m8,k8) (cC,v7)=>
      (f88 x2 x1 v7).bind fun x8=>
      bif x8.2 then
       (f57 n x0 k8 x1 (x8.1)).bind fun a9=>
       some (true,((min64 m8 (w64 ((v7).moves + a9.1))),a9.2))
      else
       some (true,(m8,k8))
      ) ((1073741824:Int),m0)).bind fun (aB,v8)=>
     some (aB,v8)
     ) fun (g8,l8)=>
    some (g8,(mset l8 x2 g8))
    ) fun lE=>
   bif ((mget m0 x2).isSome) then
    some (((mget m0 x2).getD (0:Int)),m0)
   else
    lE ()
   ) fun k9=>
  bif ((x2).group == ((x1).length : Int)) then
   some ((0:Int),m0)
  else
   k9 ()
theorem en57:Enters Try.prog 57:=enters_of Try.func57 (by kernel_rfl) rfl
theorem wk57 (n:Nat):∀ {iI:Nat} {gI:Gh} {wI:World} {x0:BoxMill} {m0:List (BoxPoint × Int)} {x1:List (List Int)} {x2:BoxPoint} {up0:Value} (rp0:PT gI.m wI x0 up0) {kv500000:Value} (fc0:FC gI.m wI 2 kv500000 up0) (mp500000:MP (encK pl_112) iI gI wI m0 kv500000) {up1:Value} (rp1:RV gI.m wI x1 up1) {up2:Value} (rp2:RV gI.m wI x2 up2) {r:Int × (List (BoxPoint × Int))} (h:f57 n x0 m0 x1 x2=some r),FnM Try.prog 57 #[up0,up1,up2] iI gI wI (fun g w v=>v=.int .i64 (r.1)∧MP (encK pl_112) iI g w (r.2) kv500000):=by
 induction n with
 | zero=>intros; rename_i h; cases h
 | succ n ih=>
 intro iI gI wI x0 m0 x1 x2 up0 rp0 kv500000 fc0 mp500000 up1 rp1 up2 rp2 r h
 simp only [f57] at h
 refine fnDM_of_E Try.func57 rfl (Nat.le_of_ble_eq_true rfl) fun g0 hm hfr=>?_
 have hmk:MkF g0 wI []:=MkF.start
 have q8:=mp500000
 replace mp500000:=mp500000.enter
 rw [← hm] at mp500000
 replace hm:g0.m=gI.m:=by rw [hm]
 have hone500200:=PT.one rp0
 have fc0:FC g0.m wI 2 kv500000 up0:=hm ▸ fc0
 have rp0:PT g0.m wI x0 up0:=hm ▸ rp0
 have rp1:RV g0.m wI x1 up1:=hm ▸ rp1
 have rp2:RV g0.m wI x2 up2:=hm ▸ rp2
 show E _ 60 none _ _ _ _ _
 refine Zf (Za (Ze .plain rfl (D_box (g:=g0) (a:=(⟨up0,hone500200⟩:Fv)) rfl (RV_fv.2 rfl) fun g1 w1 p1 hs q1=>?_)))
 have hfr:=hfr.ext hs
 have hmk:=hmk.ext hs
 have rp0:=rp0.ext hs
 have mp500000:=mp500000.ext hs
 have fc0:=fc0.ext hs
 have rp1:=rp1.ext hs
 have rp2:=rp2.ext hs
 refine Ze .plain rfl (D_box (g:=g1) rfl rp1 fun g2 w2 p2 hs q2=>?_)
 have hfr:=hfr.ext hs
 have hmk:=hmk.ext hs
 have rp0:=rp0.ext hs
 have mp500000:=mp500000.ext hs
 have fc0:=fc0.ext hs
 have rp2:=rp2.ext hs
 have q1:=q1.ext hs
 refine Ze .plain rfl (D_box (g:=g2) rfl rp2 fun g3 w3 p3 hs q3=>?_)
 have hfr:=hfr.ext hs
 have hmk:=hmk.ext hs
 have rp0:=rp0.ext hs
 have mp500000:=mp500000.ext hs
 have fc0:=fc0.ext hs
 have q1:=q1.ext hs
 have q2:=q2.ext hs
 refine Zg (.int .i64 (0)) rfl rfl ?_
 refine Zb (Zd (E_joinCD h (fun (s:Unit) e ds w=>∃ (g:Gh) ,FrM iI gI wI g w∧MkF g w ds∧e 3=p1∧PT g.m w (⟨up0,hone500200⟩:Fv) p1∧e 4=p2∧PT g.m w (x1:List (List Int)) p2∧e 5=p3∧PT g.m w (x2:BoxPoint) p3∧MP (encK pl_112) 1 g w (m0:List (BoxPoint × Int)) kv500000∧FC g.m w 2 kv500000 up0∧PT g.m w (x0:BoxMill) up0) (fun X9 k9 jG h=>?_) ?_))
 ·refine Zf (Za (EL_p (fPtr p3 0) (Zc at_112_0 rfl (PT.ptr q3)) rfl ?_))
  have kG:=Zm (part_BoxPoint_0).1 q3
  refine Ze .plain rfl (D_load (g:=g3) Try.isAgg3 Try.sizeOf3 rfl kG fun kI lG=>?_)
  obtain rfl:=Zj.1 lG
  refine Ze .plain rfl (D_load (g:=g3) Try.isAgg42 Try.sizeOf42 rfl q2 fun lI mG=>?_)
  refine EL_p (.int .i64 ((x1).length:Int)) (P_len Try.underlying42 rfl mG) rfl ?_
  refine EL_in (.bool (((x2).group == ((x1).length:Int)))) rfl rfl rfl rfl ?_
  refine Zb (Zd ?_)
  rcases Zt h with ⟨jB,h⟩ | ⟨jB,h⟩
  ·refine E_ct jB rfl ?_
   refine Zf (Za (Zg (.int .i64 (0)) rfl rfl ?_))
   refine Zb (Zd (E_ret (thn_r ?_)))
   refine endM (.inr rfl) hmk fun mI nI hs=>?_
   have hfr:=hfr.stp hs
   have mp500000:=mp500000.stp hs rfl
   obtain rfl:=sinj h
   exact end1 rfl rfl (show _=.int .i64 (0) from rfl) ⟨_,hfr,rfl,q8.back mp500000⟩
  ·refine E_cf jB rfl ?_
   exact Zu (Zd (jG () _ _ _ ⟨g3,hfr,hmk,rfl,q1,rfl,q2,rfl,q3,mp500000,fc0,rp0⟩ h))
 ·rintro _ gH yG w15 ⟨eC, hfr, hmk, tB, l9, vD, mA, vB, n9, x6, i7, d7⟩ h
  refine E_joinCD h (fun (s:Unit) e ds w=>∃ (g:Gh) ,FrM iI gI wI g w∧MkF g w ds∧e 3=p1∧PT g.m w (⟨up0,hone500200⟩:Fv) p1∧e 4=p2∧PT g.m w (x1:List (List Int)) p2∧e 5=p3∧PT g.m w (x2:BoxPoint) p3∧MP (encK pl_112) 1 g w (m0:List (BoxPoint × Int)) kv500000∧FC g.m w 2 kv500000 up0∧PT g.m w (x0:BoxMill) up0) (fun X31 lE oE h=>?_) ?_
  ·refine Zf (Zs (α := Fv) (x := .tmp 3) Try.isAgg113 Try.sizeOf113 l9 fun mE nE rE => ?_)
   have e39:mE=up0:=RV_fv.1 nE
   clear nE
   subst mE
   obtain ⟨pb40,po40,pe40⟩:=PT.ptr d7
   have sE:=L_loadFC (P:=Try.prog) (x:=.tmp 22) Try.isAgg124 Try.sizeOf124 (mp_one x6) i7
   refine Zs (x:=.tmp 5) Try.isAgg112 Try.sizeOf112 n9 fun nG iC tE=>?_
   refine E_drawC (g:=eC) (w:=w15) (n:=10) [0,1,2,3,4,6,7,8,9] [] [0,1,2,3,4,5,6,7,8,9] rfl mixed (by kernel_rfl) fun w_c38 hs hlt=>?_
   have hfr:=hfr.ext hs
   have hmk:=hmk.ext hs
   have l9:=l9.ext hs
   have mA:=mA.ext hs
   have n9:=n9.ext hs
   have x6:=x6.ext hs
   have i7:=i7.ext hs
   have d7:=d7.ext hs
   clear hs
   refine CH_ldP (c:=up0) rfl rfl .plain rE tB ?_
   refine CH_pur (c:=up0) rfl rfl .plain (P_nilCk rfl pe40) ?_
   refine CH_pur (c:=fPtr up0 2) rfl rfl .plain (Zc at_154_2 rfl (PT.ptr d7)) ?_
   refine CH_ldP (c:=kv500000) rfl rfl .plain sE rfl ?_
   refine CH_ldP (c:=nG) rfl rfl .plain tE vB ?_
   have iC:=iC.ch hlt.1
   refine CH_do rfl rfl .plain (D_lookupOk (g:=eC) (z0:=(0:Int)) Try.underlying124 key_112 Try.zeroValue3 (fun m w=>⟨_,rep_int,rfl⟩) rfl x6 (rfl.trans (encK_of pl_112 iC)) fun pI oG=>?_)
   obtain rfl:=Zj.1 oG
   refine ⟨hlt.toW,?_⟩
   refine CH_pur (c:=.tuple #[.int .i64 (((mget m0 x2).getD (0:Int))),.bool ((mget m0 x2).isSome)]) rfl rfl .plain (Zk rfl) ?_
   refine CH_pur (c:=.int .i64 (((mget m0 x2).getD (0:Int)))) rfl rfl .plain (Zi rfl rfl) ?_
   refine CH_pur (c:=.bool ((mget m0 x2).isSome)) rfl rfl .plain (Zi rfl rfl) ?_
   refine CH_pur (c:=.int .i64 (((mget m0 x2).getD (0:Int)))) rfl rfl .plain (P_assign rfl) ?_
   refine CH_nil ?_
   clear hlt
   refine Zg (.bool ((mget m0 x2).isSome)) rfl rfl ?_
   refine Zb (Zd (Zf (Za (Zn (.bool ((mget m0 x2).isSome)) rfl rfl ?_))))
   refine Zb (Zd ?_)
   rcases Zt h with ⟨lB,h⟩ | ⟨lB,h⟩
   ·refine E_ct lB rfl ?_
    refine Zf (Za (Zn (.int .i64 (((mget m0 x2).getD (0:Int)))) rfl rfl ?_))
    refine Zg (.int .i64 (((mget m0 x2).getD (0:Int)))) rfl rfl ?_
    refine Zb (Zd (E_ret (thn_r ?_)))
    refine endM (.inr rfl) hmk fun qI rI hs=>?_
    have hfr:=hfr.stp hs
    have x6:=x6.stp hs rfl
    obtain rfl:=sinj h
    exact end1 rfl rfl (show _=.int .i64 (((mget m0 x2).getD (0:Int))) from rfl) ⟨_,hfr,rfl,q8.back x6⟩
   ·refine E_cf lB rfl ?_
    exact Zu (Zd (oE () _ _ _ ⟨eC,hfr,hmk,tB,l9,vD,mA,vB,n9,x6,i7,d7⟩ h))
  ·rintro _ iH yB sI ⟨pG, hfr, hmk, pA, i8, zB, r8, qA, m7, a7, y6, v6⟩ h
   refine Zf (Za (Ze .plain rfl (D_allocOc (g:=pG) 2009 (0:Int) Try.zeroValue3 (fun m w=>⟨_,rep_int,rfl⟩) fun qG tI lC hs b48 cb=>?_)))
   have hfr:=hfr.stp hs
   have hmk:=hmk.stp hs
   have i8:=i8.stp hs
   have r8:=r8.stp hs
   have m7:=m7.stp hs
   have a7:=a7.stp hs rfl
   have y6:=y6.stp hs
   have v6:=v6.stp hs
   clear cb
   refine Ze .plain rfl (D_storeOc (g:=qG) (v:=.int .i64 (1073741824)) Try.sizeOf3 rfl b48 rfl (Zj.2 rfl) fun mC uI hs b49 cb=>?_)
   clear cb
   have hfr:=hfr.stp hs
   have hmk:=hmk.stp hs
   have i8:=i8.stp hs
   have r8:=r8.stp hs
   have m7:=m7.stp hs
   have a7:=a7.stp hs rfl
   have y6:=y6.stp hs
   have v6:=v6.stp hs
   refine Zb (Zd ?_)
   obtain ⟨⟨g8,l8⟩,hx,h⟩:=bsome h
   refine E_joinD (fun e ds w=>∃ (g:Gh) ,FrM iI gI wI g w∧MkF g w ds∧e 3=p1∧PT g.m w (⟨up0,hone500200⟩:Fv) p1∧e 5=p3∧PT g.m w (x2:BoxPoint) p3∧e 9=lC∧OB 2009 g w 3 (g8:Int) lC∧MP (encK pl_112) 1 g w (l8:List (BoxPoint × Int)) kv500000∧FC g.m w 2 kv500000 up0∧PT g.m w (x0:BoxMill) up0) (fun Q' hQ=>?_) (fun zG rG jH hR=>?_)
   ·replace h := hx
    clear hx
    refine Zf (Za (Ze .plain rfl (D_load (α:=Fv) (g:=mC) Try.isAgg113 Try.sizeOf113 pA i8 fun qC rC=>?_)))
    have e114:qC=up0:=RV_fv.1 rC
    clear rC
    subst qC
    refine EL_p (fPtr p3 2) (Zc at_112_2 qA (PT.ptr m7)) rfl ?_
    have uE:=Zm (part_BoxPoint_2).1 m7
    refine Ze .plain rfl (D_load (g:=mC) Try.isAgg108 Try.sizeOf108 rfl uE fun vE xE=>?_)
    obtain ⟨iB,xD,h⟩:=bsome h
    refine Ze .plain rfl (Zp (g:=mC) (vs:=[up0,vE]) en80 (.cons rfl (.cons rfl .nil)) (wk80 v6 xE xD) fun kH aH yE hs hr=>?_)
    have hfr:=hfr.ext hs
    have hmk:=hmk.ext hs
    have i8:=i8.ext hs
    have r8:=r8.ext hs
    have m7:=m7.ext hs
    have a7:=a7.ext hs
    have y6:=y6.ext hs
    have v6:=v6.ext hs
    have b49:=b49.ext hs
    have uC:=hr
    refine Zb (Zd (Zr ?_))
    have hB0:=hfr.size
    have hmk0:=hmk
    obtain ⟨⟨aB,v8⟩,hφ,h⟩:=bsome h
    refine E_rangeFunc (σ:=(Int × (List (BoxPoint × Int)))) (s0:=((1073741824:Int),m0)) 10 rfl (fun _=>0) [] (fun (s:Int × (List (BoxPoint × Int))) (g:Gh) (w:World)=>FrM iI gI wI g w∧MkF g w yB∧PT g.m w (⟨up0,hone500200⟩:Fv) p1∧PT g.m w (x1:List (List Int)) p2∧PT g.m w (x2:BoxPoint) p3∧OB 2009 g w 3 (s.1:Int) lC∧ItV Try.prog (RA2 (α:=BoxPick) (β:=BoxStep)) iB yE g.m w∧MP (encK pl_112) 1 g w (s.2:List (BoxPoint × Int)) kv500000∧FC g.m w 2 kv500000 up0∧PT g.m w (x0:BoxMill) up0) rfl uC hφ (fun _ _ _ _=>rfl) rfl ra2_size rfl (fun _ _ _ _ _ hx hR=>by obtain ⟨hfr,hmk,z2,z3,z4,z5,z6,z7,z8,z9⟩:=hR; exact ⟨hfr.ist hx hB0,hmk.ist hx,z2.ist hx,z3.ist hx,z4.ist hx,z5.ist hx,z6.ist hx,z7.ist hx,z8.ist hx,z9.ist hx⟩) (fun _ _ _ _ _ hx hR=>by obtain ⟨hfr,hmk,z2,z3,z4,z5,z6,z7,z8,z9⟩:=hR; exact ⟨hfr.stp hx,hmk.stp hx,z2.stp hx,z3.stp hx,z4.stp hx,z5.stp hx rfl,z6.stp hx,z7.stp hx rfl,z8.stp hx,z9.stp hx⟩) ⟨hfr,hmk,i8,r8,m7,b49,uC,a7,y6,v6⟩ (fun _ h=>by cases h) ?_ ?_
    ·intro bH sG s x b s2 vC zE vs hsz h hR hrec_0 aC hrd
     obtain ⟨m8,k8⟩:=s
     obtain ⟨hfr,hmk,t5,l5,x5,i6,i5,u3,o0,i3⟩:=hR
     obtain ⟨cC,v7⟩:=x
     obtain ⟨tG,aD,rfl,hG,d9⟩:=ra2_get hrd
     have j6:=RFr.refl vC zE
     refine Za (Ze .plain rfl (D_allocOc (g:=vC) 2011 (⟨⟨(⟨List.toArray [(⟨List.toArray [0,0,0,0],rfl⟩:Vector Int 4),(⟨List.toArray [0,0,0,0],rfl⟩:Vector Int 4)],rfl⟩:Vector (Vector Int 4) 2),⟨0,0⟩⟩,0,0⟩:BoxStep) Try.zeroValue144 (fun m w=>⟨_,(rep_two (rep_two (rep_vec (flat_chunk (rep_vec (flat_chunk rep_int (flat_chunk rep_int (flat_chunk rep_int (flat_chunk rep_int flat_nil)))) rfl) (flat_chunk (rep_vec (flat_chunk rep_int (flat_chunk rep_int (flat_chunk rep_int (flat_chunk rep_int flat_nil)))) rfl) flat_nil)) rfl) (rep_two rep_int rep_int)) (rep_two rep_int rep_int)),rfl⟩) fun cF lH dF hs b148 cb=>?_))
     have hfr:=hfr.stp hs
     have hmk:=hmk.stp hs
     have j6:=j6.stp hs
     have hrec_0:=hrec_0.stp hs rfl
     have t5:=t5.stp hs
     have l5:=l5.stp hs
     have x5:=x5.stp hs
     have i6:=i6.stp hs rfl
     have i5:=i5.stp hs
     have u3:=u3.stp hs rfl
     have o0:=o0.stp hs
     have i3:=i3.stp hs
     have d9:=d9.stp hs
     clear cb
     refine Ze .plain rfl (D_storeOc (g:=cF) (v:=aD) Try.sizeOf144 rfl b148 rfl d9 fun rA mH hs b149 cb=>?_)
     clear cb
     have hfr:=hfr.stp hs
     have hmk:=hmk.stp hs
     have j6:=j6.stp hs
     have hrec_0:=hrec_0.stp hs rfl
     have t5:=t5.stp hs
     have l5:=l5.stp hs
     have x5:=x5.stp hs
     have i6:=i6.stp hs rfl
     have i5:=i5.stp hs
     have u3:=u3.stp hs rfl
     have o0:=o0.stp hs
     have i3:=i3.stp hs
     refine Zb (Zd ?_)
     obtain ⟨eF,hbr,hs,hrN⟩:=begin_round hrec_0 aC
     refine ⟨eF,hbr,?_⟩
     have hfr:=hfr.stp hs
     have hmk:=hmk.stp hs
     have j6:=j6.stp hs
     have t5:=t5.stp hs
     have l5:=l5.stp hs
     have x5:=x5.stp hs
     have i6:=i6.stp hs rfl
     have i5:=i5.stp hs
     have u3:=u3.stp hs rfl
     have o0:=o0.stp hs
     have i3:=i3.stp hs
     have b149:=b149.stp hs rfl
     have hrec_0:=hrN
     clear hbr hs hrN
     refine Zr ?_
     refine Zf (Za (Ze .plain rfl (D_load (g:=rA) Try.isAgg112 Try.sizeOf112 qA x5 fun iF nF=>?_)))
     refine Ze .plain rfl (D_load (g:=rA) Try.isAgg42 Try.sizeOf42 zB l5 fun oF pF=>?_)
     refine Ze .plain rfl (D_loadO (g:=rA) Try.isAgg144 Try.sizeOf144 rfl b149 fun qF rF=>?_)
     obtain ⟨x8,yD,h⟩:=bsome h
     refine Ze .plain rfl (Zp (g:=rA) (vs:=[iF,oF,qF]) en88 (.cons rfl (.cons rfl (.cons rfl .nil))) (wk88 nF pF rF yD) fun sF cH nH hs hr=>?_)
     have hfr:=hfr.ext hs
     have hmk:=hmk.ext hs
     have j6:=j6.ext hs
     have hrec_0:=hrec_0.ext hs
     have t5:=t5.ext hs
     have l5:=l5.ext hs
     have x5:=x5.ext hs
     have i6:=i6.ext hs
     have i5:=i5.ext hs
     have u3:=u3.ext hs
     have o0:=o0.ext hs
     have i3:=i3.ext hs
     have b149:=b149.ext hs
     obtain ⟨u9,uG,rfl,y9,rfl⟩:=hr
     refine Zn (.tuple #[u9,.bool (x8.2)]) rfl rfl ?_
     refine EL_p u9 (Zi rfl rfl) rfl ?_
     refine EL_p (.bool (x8.2)) (Zi rfl rfl) rfl ?_
     refine Ze .plain rfl (D_allocOc (g:=sF) 2012 (⟨0,0,⟨(⟨List.toArray [(⟨List.toArray [0,0,0,0],rfl⟩:Vector Int 4),(⟨List.toArray [0,0,0,0],rfl⟩:Vector Int 4)],rfl⟩:Vector (Vector Int 4) 2),⟨0,0⟩⟩⟩:BoxPoint) Try.zeroValue112 (fun m w=>⟨_,(rep_two rep_int (rep_two rep_int (rep_two (rep_vec (flat_chunk (rep_vec (flat_chunk rep_int (flat_chunk rep_int (flat_chunk rep_int (flat_chunk rep_int flat_nil)))) rfl) (flat_chunk (rep_vec (flat_chunk rep_int (flat_chunk rep_int (flat_chunk rep_int (flat_chunk rep_int flat_nil)))) rfl) flat_nil)) rfl) (rep_two rep_int rep_int)))),rfl⟩) fun tF oH pH hs b156 cb=>?_)
     have hfr:=hfr.stp hs
     have hmk:=hmk.stp hs
     have j6:=j6.stp hs
     have hrec_0:=hrec_0.stp hs rfl
     have t5:=t5.stp hs
     have l5:=l5.stp hs
     have x5:=x5.stp hs
     have i6:=i6.stp hs rfl
     have i5:=i5.stp hs
     have u3:=u3.stp hs rfl
     have o0:=o0.stp hs
     have i3:=i3.stp hs
     have b149:=b149.stp hs rfl
     have y9:=y9.stp hs
     clear cb
     refine Ze .plain rfl (D_storeOc (g:=tF) (v:=u9) Try.sizeOf112 rfl b156 rfl y9 fun bD uF hs b157 cb=>?_)
     clear cb
     have hfr:=hfr.stp hs
     have hmk:=hmk.stp hs
     have j6:=j6.stp hs
     have hrec_0:=hrec_0.stp hs rfl
     have t5:=t5.stp hs
     have l5:=l5.stp hs
     have x5:=x5.stp hs
     have i6:=i6.stp hs rfl
     have i5:=i5.stp hs
     have u3:=u3.stp hs rfl
     have o0:=o0.stp hs
     have i3:=i3.stp hs
     have b149:=b149.stp hs rfl
     refine Zg (.bool (x8.2)) rfl rfl ?_
     refine Zb (Zd (Zf (Za (Zn (.bool (x8.2)) rfl rfl ?_))))
     refine Zb (Zd ?_)
     rcases Zt h with ⟨yA,h⟩ | ⟨yA,h⟩
     ·refine E_ct yA rfl ?_
      refine L_loadO0 (x:=.tmp 9) Try.isAgg3 Try.sizeOf3 i6 fun qH vF zD=>?_
      obtain rfl:=Zj.1 vF
      refine L_loadO (x:=.tmp 45) part_BoxStep_2.1 Try.isAgg3 Try.sizeOf3 b149 fun sH xF aE=>?_
      obtain rfl:=Zj.1 xF
      refine Zs (α:=Fv) (x:=.tmp 3) Try.isAgg113 Try.sizeOf113 t5 fun cD eD bE=>?_
      have e169:cD=up0:=RV_fv.1 eD
      clear eD
      subst cD
      refine Zs (x:=.tmp 4) Try.isAgg42 Try.sizeOf42 l5 fun gD mB cE=>?_
      refine L_loadO0 (x:=.tmp 12) Try.isAgg112 Try.sizeOf112 b157 fun iD nB dE=>?_
      obtain ⟨a9,eE,h⟩:=bsome h
      refine E_drawC (g:=bD) (w:=uF) (n:=8) [0,1,2,3,4,5,7] [2009,2011,2012] [0,1,2,3,4,5,6,7] rfl mixed (by kernel_rfl) fun w_c165 hs hlt=>?_
      have hfr:=hfr.ext hs
      have hmk:=hmk.ext hs
      have j6:=j6.ext hs
      have hrec_0:=hrec_0.ext hs
      have t5:=t5.ext hs
      have l5:=l5.ext hs
      have x5:=x5.ext hs
      have i6:=i6.ext hs
      have i5:=i5.ext hs
      have u3:=u3.ext hs
      have o0:=o0.ext hs
      have i3:=i3.ext hs
      have b149:=b149.ext hs
      clear hs
      refine CH_ldO (n:=2009) (c:=.int .i64 (m8)) rfl rfl .plain zD rfl rfl ?_
      refine CH_pur (c:=fPtr dF 11) rfl rfl .plain (Zc at_144_2 rfl (OB.ptr b149)) ?_
      refine CH_ldO (n:=2011) (c:=.int .i64 ((v7).moves)) rfl rfl .plain aE rfl rfl ?_
      refine CH_ldP (c:=up0) rfl rfl .plain bE pA ?_
      refine CH_ldP (c:=gD) rfl rfl .plain cE zB ?_
      have mB:=mB.ch hlt.1
      refine CH_ldO (n:=2012) (c:=iD) rfl rfl .plain dE rfl rfl ?_
      have nB:=nB.ch hlt.1
      refine CH_do rfl rfl .plain (D_callM (g:=bD) (i:=1) (vs:=[up0,gD,iD]) en57 (.cons rfl (.cons rfl (.cons rfl .nil))) (ih i3 o0 u3 mB nB eE) fun yF dH tH hs hr=>?_)
      obtain ⟨hrv,b172⟩:=hr
      have hfr:=hfr.stp hs
      have hmk:=hmk.stp hs
      have j6:=j6.stp hs
      have hrec_0:=hrec_0.stp hs rfl
      have hlt:=hlt.stp hs
      have t5:=t5.stp hs
      have l5:=l5.stp hs
      have x5:=x5.stp hs
      have i6:=i6.stp hs rfl
      have i5:=i5.stp hs
      have o0:=o0.stp hs
      have i3:=i3.stp hs
      subst hrv
      refine ⟨hlt.toW,?_⟩
      refine CH_pur (c:=.int .i64 ((w64 ((v7).moves + a9.1)))) rfl rfl .plain (P_int rfl rfl rfl) ?_
      refine CH_nil ?_
      clear hlt
      refine EL_p (.int .i64 (min64 m8 (w64 ((v7).moves + a9.1)))) (P_min rfl rfl) rfl ?_
      refine Ze .plain rfl (D_storeOc (g:=yF) (v:=.int .i64 (min64 m8 (w64 ((v7).moves + a9.1)))) Try.sizeOf3 rfl i6 rfl (Zj.2 rfl) fun uH xH hs b174 cb=>?_)
      clear cb
      have hfr:=hfr.stp hs
      have hmk:=hmk.stp hs
      have j6:=j6.stp hs
      have hrec_0:=hrec_0.stp hs rfl
      have t5:=t5.stp hs
      have l5:=l5.stp hs
      have x5:=x5.stp hs
      have i5:=i5.stp hs
      have b172:=b172.stp hs rfl
      have o0:=o0.stp hs
      have i3:=i3.stp hs
      refine Zb (blk_n ?_)
      obtain ⟨rfl,rfl⟩:=pairs2 h
      exact ⟨_,j6,⟨hfr,hmk,t5,l5,x5,b174,i5,b172,o0,i3⟩,hrec_0,rfl,rfl⟩
     ·refine E_cf yA rfl ?_
      refine Zu (blk_n ?_)
      obtain ⟨rfl,rfl⟩:=pairs2 h
      exact ⟨_,j6,⟨hfr,hmk,t5,l5,x5,i6,i5,u3,o0,i3⟩,hrec_0,rfl,rfl⟩
    ·intro zF yH ds176 hsz hR hds
     obtain ⟨hfr,hmk,jD,vG,kD,lD,iG,jA,bA,gA⟩:=hR
     obtain ⟨D,hdse,hD,hDb⟩:=hds.1 rfl
     subst hdse
     replace hmk:=MkF.push hmk0 hmk hD hDb
     clear hD hDb hds
     revert hmk
     generalize ({ target:=.collected D,args:=#[] } :: yB:List Deferred)=xG
     intro hmk
     refine ⟨fun _=>?_,fun k c hs _=>absurd hs (Nat.succ_ne_zero k).symm⟩
     refine blk_n ?_
     obtain ⟨rfl,rfl⟩:=pairs2 h
     exact hQ _ _ _ ⟨zF,hfr,hmk,pA,jD,qA,kD,rfl,lD,jA,bA,gA⟩
   ·clear hx
    obtain ⟨aG,hfr,hmk,mD,nD,oD,sD,dB,n8,j7,iA,t8⟩:=hR
    refine Zf (Zs (α:=Fv) (x:=.tmp 3) Try.isAgg113 Try.sizeOf113 nD fun tD uD gE=>?_)
    have e178:tD=up0:=RV_fv.1 uD
    clear uD
    subst tD
    obtain ⟨pb179,po179,pe179⟩:=PT.ptr t8
    have iE:=L_loadFC (P:=Try.prog) (x:=.tmp 55) Try.isAgg124 Try.sizeOf124 (mp_one j7) iA
    refine Zs (x:=.tmp 5) Try.isAgg112 Try.sizeOf112 sD fun bG oB jE=>?_
    refine L_loadO0 (x:=.tmp 9) Try.isAgg3 Try.sizeOf3 n8 fun zH cG kE=>?_
    obtain rfl:=Zj.1 cG
    refine E_drawL (g:=aG) (n:=6) [] [0,1,2,3,4,5] rfl mixed (by kernel_rfl) trivial ?_
    refine L_ld (c:=up0) rfl rfl .plain (fun _ _ h=>h.ch) gE mD ?_
    refine L_p up0 rfl rfl (P_nilCk rfl pe179) ?_
    refine L_p (fPtr up0 2) rfl rfl (Zc at_154_2 rfl (PT.ptr t8)) ?_
    refine L_ld (c:=kv500000) rfl rfl .plain (fun _ _ h=>h.ch) iE rfl ?_
    refine L_ld (c:=bG) rfl rfl .plain (fun _ _ h=>h.ch) jE oD ?_
    refine L_ld (c:=.int .i64 (g8)) rfl rfl .plain (fun _ _ h=>⟨h.ch,fun b hb _=>h.below.block b hb⟩) kE dB ?_
    refine L_nl fun dG aI hs=>?_
    have hfr:=hfr.ext hs
    have hmk:=hmk.ext hs
    have n8:=n8.ext hs
    have j7:=j7.ext hs
    have oB:=oB.ext hs
    clear hs
    refine Ze .plain rfl (D_mapUpdate (g:=dG) Try.underlying124 key_112 rfl j7 (rfl.trans (encK_of pl_112 oB)) rfl (Zj.2 rfl) fun eG bI hs m197=>?_)
    have hfr:=hfr.stp hs
    have hmk:=hmk.stp hs
    have n8:=n8.stp hs rfl
    refine Zb (Zd (Zf (Za (Ze .plain rfl (D_loadO (g:=eG) Try.isAgg3 Try.sizeOf3 dB n8 fun cI gG=>?_)))))
    obtain rfl:=Zj.1 gG
    refine Zg (.int .i64 (g8)) rfl rfl ?_
    refine Zb (Zd (E_ret (endM (.inr rfl) hmk fun dI jI hs=>?_)))
    have hfr:=hfr.stp hs
    have m197:=m197.stp hs rfl
    obtain rfl:=sinj h
    exact end1 rfl rfl (show _=.int .i64 (g8) from rfl) ⟨_,hfr,rfl,q8.back m197⟩
def f58 (x0:BoxMill) (m0:List (BoxPoint × Int)) (x1:List (List Int)) (x2:BoxPoint):Option (BoxPick × BoxPoint × (List (BoxPoint × Int))):=
 jn (σ:=BoxPick × BoxPoint × (List (BoxPoint × Int))) (fun (vB,yB,d9)=>
  some (vB,yB,d9)
  ) fun aD=>
 (f80 x0 ((x2).race)).bind fun mB=>
 (mB (Nat × BoxPick × BoxPoint × (List (BoxPoint × Int))) (guardC fun (k9,pA,n8) (l8,m8)=>
  (f88 x2 x1 m8).bind fun j7=>
  Option.bind (α:=Bool × (List (BoxPoint × Int))) (
   bif j7.2 then
    (f57 big x0 n8 x1 (j7.1)).bind fun jA=>
    (f57 big x0 (jA.2) x1 x2).bind fun qA=>
    some (((w64 ((m8).moves + jA.1)) == qA.1),qA.2)
   else
    some (false,n8)
   ) fun (q8,v7)=>
  bif q8 then
   some (false,((1:Nat),(l8,j7.1,v7)))
  else
   some (true,((0:Nat),(k9,pA,v7)))
  ) (0,((⟨0,0⟩:BoxPick),(⟨0,0,⟨(⟨List.toArray [(⟨List.toArray [0,0,0,0],rfl⟩:Vector Int 4),(⟨List.toArray [0,0,0,0],rfl⟩:Vector Int 4)],rfl⟩:Vector (Vector Int 4) 2),⟨0,0⟩⟩⟩:BoxPoint),m0))).bind fun (l9,(n9,u9,g8))=>
 bif Nat.beq l9 0 then
  aD (n9,u9,g8)
 else
  some (n9,u9,g8)
theorem en58:Enters Try.prog 58:=enters_of Try.func58 (by kernel_rfl) rfl
theorem wk58 {iI:Nat} {gI:Gh} {wI:World} {x0:BoxMill} {m0:List (BoxPoint × Int)} {x1:List (List Int)} {x2:BoxPoint} {up0:Value} (rp0:PT gI.m wI x0 up0) {kv500000:Value} (fc0:FC gI.m wI 2 kv500000 up0) (mp500000:MP (encK pl_112) iI gI wI m0 kv500000) {up1:Value} (rp1:RV gI.m wI x1 up1) {up2:Value} (rp2:RV gI.m wI x2 up2) {r:BoxPick × BoxPoint × (List (BoxPoint × Int))} (h:f58 x0 m0 x1 x2=some r):FnM Try.prog 58 #[up0,up1,up2] iI gI wI (fun g w v=>(∃ y0 y1,v=.tuple #[y0,y1]∧RV g.m w (r.1) y0∧RV g.m w (r.2.1) y1)∧MP (encK pl_112) iI g w (r.2.2) kv500000):=by
 unfold f58 at h
 refine fnDM_of_E Try.func58 rfl (Nat.le_of_ble_eq_true rfl) fun g0 hm hfr=>?_
 have hmk:MkF g0 wI []:=MkF.start
 have y9:=mp500000
 replace mp500000:=mp500000.enter
 rw [← hm] at mp500000
 replace hm:g0.m=gI.m:=by rw [hm]
 have hone500200:=PT.one rp0
 have fc0:FC g0.m wI 2 kv500000 up0:=hm ▸ fc0
 have rp0:PT g0.m wI x0 up0:=hm ▸ rp0
 have rp1:RV g0.m wI x1 up1:=hm ▸ rp1
 have rp2:RV g0.m wI x2 up2:=hm ▸ rp2
 show E _ 44 none _ _ _ _ _
 refine Zf (Za (Ze .plain rfl (D_box (g:=g0) (a:=(⟨up0,hone500200⟩:Fv)) rfl (RV_fv.2 rfl) fun g1 w1 p1 hs q1=>?_)))
 have hfr:=hfr.ext hs
 have hmk:=hmk.ext hs
 have rp0:=rp0.ext hs
 have mp500000:=mp500000.ext hs
 have fc0:=fc0.ext hs
 have rp1:=rp1.ext hs
 have rp2:=rp2.ext hs
 refine Ze .plain rfl (D_box (g:=g1) rfl rp1 fun g2 w2 p2 hs q2=>?_)
 have hfr:=hfr.ext hs
 have hmk:=hmk.ext hs
 have rp0:=rp0.ext hs
 have mp500000:=mp500000.ext hs
 have fc0:=fc0.ext hs
 have rp2:=rp2.ext hs
 have q1:=q1.ext hs
 refine Ze .plain rfl (D_box (g:=g2) rfl rp2 fun g3 w3 p3 hs q3=>?_)
 have hfr:=hfr.ext hs
 have hmk:=hmk.ext hs
 have rp0:=rp0.ext hs
 have mp500000:=mp500000.ext hs
 have fc0:=fc0.ext hs
 have q1:=q1.ext hs
 have q2:=q2.ext hs
 refine Ze .plain rfl (D_allocOc (g:=g3) 2006 (⟨0,0⟩:BoxPick) Try.zeroValue83 (fun m w=>⟨_,(rep_two rep_int rep_int),rfl⟩) fun g4 w4 p4 hs b4 cb=>?_)
 have hfr:=hfr.stp hs
 have hmk:=hmk.stp hs
 have rp0:=rp0.stp hs
 have mp500000:=mp500000.stp hs rfl
 have fc0:=fc0.stp hs
 have q1:=q1.stp hs
 have q2:=q2.stp hs
 have q3:=q3.stp hs
 clear cb
 refine Ze .plain rfl (D_allocOc (g:=g4) 2007 (⟨0,0,⟨(⟨List.toArray [(⟨List.toArray [0,0,0,0],rfl⟩:Vector Int 4),(⟨List.toArray [0,0,0,0],rfl⟩:Vector Int 4)],rfl⟩:Vector (Vector Int 4) 2),⟨0,0⟩⟩⟩:BoxPoint) Try.zeroValue112 (fun m w=>⟨_,(rep_two rep_int (rep_two rep_int (rep_two (rep_vec (flat_chunk (rep_vec (flat_chunk rep_int (flat_chunk rep_int (flat_chunk rep_int (flat_chunk rep_int flat_nil)))) rfl) (flat_chunk (rep_vec (flat_chunk rep_int (flat_chunk rep_int (flat_chunk rep_int (flat_chunk rep_int flat_nil)))) rfl) flat_nil)) rfl) (rep_two rep_int rep_int)))),rfl⟩) fun g5 w5 p5 hs b5 cb=>?_)
 have hfr:=hfr.stp hs
 have hmk:=hmk.stp hs
 have rp0:=rp0.stp hs
 have mp500000:=mp500000.stp hs rfl
 have fc0:=fc0.stp hs
 have q1:=q1.stp hs
 have q2:=q2.stp hs
 have q3:=q3.stp hs
 have b4:=b4.stp hs rfl
 clear cb
 refine Zb (Zd (E_joinCD h (fun (s:BoxPick × BoxPoint × (List (BoxPoint × Int))) e ds w=>∃ (g:Gh) ,FrM iI gI wI g w∧MkF g w ds∧e 6=p4∧OB 2006 g w 83 (s.1:BoxPick) p4∧e 7=p5∧OB 2007 g w 112 (s.2.1:BoxPoint) p5∧MP (encK pl_112) 1 g w (s.2.2:List (BoxPoint × Int)) kv500000∧FC g.m w 2 kv500000 up0∧PT g.m w (x0:BoxMill) up0) (fun X171 aD jE h=>?_) ?_))
 ·refine Zf (Za (Ze .plain rfl (D_load (α := Fv) (g := g5) Try.isAgg113 Try.sizeOf113 rfl q1 fun bD cD => ?_)))
  have e172:bD=up0:=RV_fv.1 cD
  clear cD
  subst bD
  refine EL_p (fPtr p3 2) (Zc at_112_2 rfl (PT.ptr q3)) rfl ?_
  have sF:=Zm (part_BoxPoint_2).1 q3
  refine Ze .plain rfl (D_load (g:=g5) Try.isAgg108 Try.sizeOf108 rfl sF fun tF uF=>?_)
  obtain ⟨mB,kE,h⟩:=bsome h
  refine Ze .plain rfl (Zp (g:=g5) (vs:=[up0,tF]) en80 (.cons rfl (.cons rfl .nil)) (wk80 rp0 uF kE) fun pH jH aC hs hr=>?_)
  have hfr:=hfr.ext hs
  have hmk:=hmk.ext hs
  have rp0:=rp0.ext hs
  have mp500000:=mp500000.ext hs
  have fc0:=fc0.ext hs
  have q1:=q1.ext hs
  have q2:=q2.ext hs
  have q3:=q3.ext hs
  have b4:=b4.ext hs
  have b5:=b5.ext hs
  have eD:=hr
  refine Zb (Zd (Zr ?_))
  have hB0:=hfr.size
  have hmk0:=hmk
  obtain ⟨⟨l9,⟨n9,u9,g8⟩⟩,hφ,h⟩:=bsome h
  refine E_rangeFunc (σ:=(Nat × BoxPick × BoxPoint × (List (BoxPoint × Int)))) (s0:=(0,((⟨0,0⟩:BoxPick),(⟨0,0,⟨(⟨List.toArray [(⟨List.toArray [0,0,0,0],rfl⟩:Vector Int 4),(⟨List.toArray [0,0,0,0],rfl⟩:Vector Int 4)],rfl⟩:Vector (Vector Int 4) 2),⟨0,0⟩⟩⟩:BoxPoint),m0))) 10 rfl (fun s=>s.1) [.ret] (fun (s:Nat × BoxPick × BoxPoint × (List (BoxPoint × Int))) (g:Gh) (w:World)=>FrM iI gI wI g w∧MkF g w []∧PT g.m w (⟨up0,hone500200⟩:Fv) p1∧PT g.m w (x1:List (List Int)) p2∧PT g.m w (x2:BoxPoint) p3∧OB 2006 g w 83 (s.2.1:BoxPick) p4∧OB 2007 g w 112 (s.2.2.1:BoxPoint) p5∧ItV Try.prog (RA2 (α:=BoxPick) (β:=BoxStep)) mB aC g.m w∧MP (encK pl_112) 1 g w (s.2.2.2:List (BoxPoint × Int)) kv500000∧FC g.m w 2 kv500000 up0∧PT g.m w (x0:BoxMill) up0) rfl eD hφ (fun _ _ _ h=>(guardC_h h).1) rfl ra2_size rfl (fun _ _ _ _ _ hx hR=>by obtain ⟨hfr,hmk,z2,z3,z4,z5,z6,z7,z8,z9,z10⟩:=hR; exact ⟨hfr.ist hx hB0,hmk.ist hx,z2.ist hx,z3.ist hx,z4.ist hx,z5.ist hx,z6.ist hx,z7.ist hx,z8.ist hx,z9.ist hx,z10.ist hx⟩) (fun _ _ _ _ _ hx hR=>by obtain ⟨hfr,hmk,z2,z3,z4,z5,z6,z7,z8,z9,z10⟩:=hR; exact ⟨hfr.stp hx,hmk.stp hx,z2.stp hx,z3.stp hx,z4.stp hx,z5.stp hx rfl,z6.stp hx rfl,z7.stp hx,z8.stp hx rfl,z9.stp hx,z10.stp hx⟩) ⟨hfr,hmk,q1,q2,q3,b4,b5,eD,mp500000,fc0,rp0⟩ (fun _ h=>by cases h) ?_ ?_
  ·intro lE gD s x b s2 cC iD vs hsz h hR hrec_0 rC hrd
   obtain ⟨hs0,h⟩:=guardC_h h
   obtain ⟨st,⟨k9,pA,n8⟩⟩:=s
   obtain ⟨hfr,hmk,t5,l5,x5,j6,v6,i5,u3,o0,i3⟩:=hR
   obtain ⟨l8,m8⟩:=x
   obtain ⟨jD,kD,rfl,mA,m7⟩:=ra2_get hrd
   have i6:=RFr.refl cC iD
   refine Zf (Za (Ze .plain rfl (D_allocOc (g:=cC) 2008 (⟨0,0⟩:BoxPick) Try.zeroValue83 (fun m w=>⟨_,(rep_two rep_int rep_int),rfl⟩) fun vF qH lD hs b255 cb=>?_)))
   have hfr:=hfr.stp hs
   have hmk:=hmk.stp hs
   have i6:=i6.stp hs
   have hrec_0:=hrec_0.stp hs rfl
   have t5:=t5.stp hs
   have l5:=l5.stp hs
   have x5:=x5.stp hs
   have j6:=j6.stp hs rfl
   have v6:=v6.stp hs rfl
   have i5:=i5.stp hs
   have u3:=u3.stp hs rfl
   have o0:=o0.stp hs
   have i3:=i3.stp hs
   have mA:=mA.stp hs
   have m7:=m7.stp hs
   clear cb
   refine Ze .plain rfl (D_storeOc (g:=vF) (v:=jD) Try.sizeOf83 rfl b255 rfl mA fun xF sH hs b256 cb=>?_)
   clear cb
   have hfr:=hfr.stp hs
   have hmk:=hmk.stp hs
   have i6:=i6.stp hs
   have hrec_0:=hrec_0.stp hs rfl
   have t5:=t5.stp hs
   have l5:=l5.stp hs
   have x5:=x5.stp hs
   have j6:=j6.stp hs rfl
   have v6:=v6.stp hs rfl
   have i5:=i5.stp hs
   have u3:=u3.stp hs rfl
   have o0:=o0.stp hs
   have i3:=i3.stp hs
   have m7:=m7.stp hs
   refine Zb (Zd (Za (Ze .plain rfl (D_allocOc (g:=xF) 2009 (⟨⟨(⟨List.toArray [(⟨List.toArray [0,0,0,0],rfl⟩:Vector Int 4),(⟨List.toArray [0,0,0,0],rfl⟩:Vector Int 4)],rfl⟩:Vector (Vector Int 4) 2),⟨0,0⟩⟩,0,0⟩:BoxStep) Try.zeroValue144 (fun m w=>⟨_,(rep_two (rep_two (rep_vec (flat_chunk (rep_vec (flat_chunk rep_int (flat_chunk rep_int (flat_chunk rep_int (flat_chunk rep_int flat_nil)))) rfl) (flat_chunk (rep_vec (flat_chunk rep_int (flat_chunk rep_int (flat_chunk rep_int (flat_chunk rep_int flat_nil)))) rfl) flat_nil)) rfl) (rep_two rep_int rep_int)) (rep_two rep_int rep_int)),rfl⟩) fun yF tH zF hs b257 cb=>?_))))
   have hfr:=hfr.stp hs
   have hmk:=hmk.stp hs
   have i6:=i6.stp hs
   have hrec_0:=hrec_0.stp hs rfl
   have t5:=t5.stp hs
   have l5:=l5.stp hs
   have x5:=x5.stp hs
   have j6:=j6.stp hs rfl
   have v6:=v6.stp hs rfl
   have i5:=i5.stp hs
   have u3:=u3.stp hs rfl
   have o0:=o0.stp hs
   have i3:=i3.stp hs
   have m7:=m7.stp hs
   have b256:=b256.stp hs rfl
   clear cb
   refine Ze .plain rfl (D_storeOc (g:=yF) (v:=kD) Try.sizeOf144 rfl b257 rfl m7 fun nB uH hs b258 cb=>?_)
   clear cb
   have hfr:=hfr.stp hs
   have hmk:=hmk.stp hs
   have i6:=i6.stp hs
   have hrec_0:=hrec_0.stp hs rfl
   have t5:=t5.stp hs
   have l5:=l5.stp hs
   have x5:=x5.stp hs
   have j6:=j6.stp hs rfl
   have v6:=v6.stp hs rfl
   have i5:=i5.stp hs
   have u3:=u3.stp hs rfl
   have o0:=o0.stp hs
   have i3:=i3.stp hs
   have b256:=b256.stp hs rfl
   refine Zb (Zd ?_)
   obtain ⟨aG,hbr,hs,hrN⟩:=begin_round hrec_0 rC
   refine ⟨aG,hbr,?_⟩
   have hfr:=hfr.stp hs
   have hmk:=hmk.stp hs
   have i6:=i6.stp hs
   have t5:=t5.stp hs
   have l5:=l5.stp hs
   have x5:=x5.stp hs
   have j6:=j6.stp hs rfl
   have v6:=v6.stp hs rfl
   have i5:=i5.stp hs
   have u3:=u3.stp hs rfl
   have o0:=o0.stp hs
   have i3:=i3.stp hs
   have b256:=b256.stp hs rfl
   have b258:=b258.stp hs rfl
   have hrec_0:=hrN
   clear hbr hs hrN
   refine Zr ?_
   refine Zf (Za (Ze .plain rfl (D_load (g:=nB) Try.isAgg112 Try.sizeOf112 rfl x5 fun bG cG=>?_)))
   refine Ze .plain rfl (D_load (g:=nB) Try.isAgg42 Try.sizeOf42 rfl l5 fun dG eG=>?_)
   refine Ze .plain rfl (D_loadO (g:=nB) Try.isAgg144 Try.sizeOf144 rfl b258 fun gG hG=>?_)
   obtain ⟨j7,mE,h⟩:=bsome h
   refine Ze .plain rfl (Zp (g:=nB) (vs:=[bG,dG,gG]) en88 (.cons rfl (.cons rfl (.cons rfl .nil))) (wk88 cG eG hG mE) fun iG kH xH hs hr=>?_)
   have hfr:=hfr.ext hs
   have hmk:=hmk.ext hs
   have i6:=i6.ext hs
   have hrec_0:=hrec_0.ext hs
   have t5:=t5.ext hs
   have l5:=l5.ext hs
   have x5:=x5.ext hs
   have j6:=j6.ext hs
   have v6:=v6.ext hs
   have i5:=i5.ext hs
   have u3:=u3.ext hs
   have o0:=o0.ext hs
   have i3:=i3.ext hs
   have b256:=b256.ext hs
   have b258:=b258.ext hs
   obtain ⟨rA,xG,rfl,yA,rfl⟩:=hr
   refine Zn (.tuple #[rA,.bool (j7.2)]) rfl rfl ?_
   refine EL_p rA (Zi rfl rfl) rfl ?_
   refine EL_p (.bool (j7.2)) (Zi rfl rfl) rfl ?_
   refine Ze .plain rfl (D_allocOc (g:=iG) 2010 (⟨0,0,⟨(⟨List.toArray [(⟨List.toArray [0,0,0,0],rfl⟩:Vector Int 4),(⟨List.toArray [0,0,0,0],rfl⟩:Vector Int 4)],rfl⟩:Vector (Vector Int 4) 2),⟨0,0⟩⟩⟩:BoxPoint) Try.zeroValue112 (fun m w=>⟨_,(rep_two rep_int (rep_two rep_int (rep_two (rep_vec (flat_chunk (rep_vec (flat_chunk rep_int (flat_chunk rep_int (flat_chunk rep_int (flat_chunk rep_int flat_nil)))) rfl) (flat_chunk (rep_vec (flat_chunk rep_int (flat_chunk rep_int (flat_chunk rep_int (flat_chunk rep_int flat_nil)))) rfl) flat_nil)) rfl) (rep_two rep_int rep_int)))),rfl⟩) fun jG yH mD hs b265 cb=>?_)
   have hfr:=hfr.stp hs
   have hmk:=hmk.stp hs
   have i6:=i6.stp hs
   have hrec_0:=hrec_0.stp hs rfl
   have t5:=t5.stp hs
   have l5:=l5.stp hs
   have x5:=x5.stp hs
   have j6:=j6.stp hs rfl
   have v6:=v6.stp hs rfl
   have i5:=i5.stp hs
   have u3:=u3.stp hs rfl
   have o0:=o0.stp hs
   have i3:=i3.stp hs
   have b256:=b256.stp hs rfl
   have b258:=b258.stp hs rfl
   have yA:=yA.stp hs
   clear cb
   refine Ze .plain rfl (D_storeOc (g:=jG) (v:=rA) Try.sizeOf112 rfl b265 rfl yA fun oB nD hs b266 cb=>?_)
   clear cb
   have hfr:=hfr.stp hs
   have hmk:=hmk.stp hs
   have i6:=i6.stp hs
   have hrec_0:=hrec_0.stp hs rfl
   have t5:=t5.stp hs
   have l5:=l5.stp hs
   have x5:=x5.stp hs
   have j6:=j6.stp hs rfl
   have v6:=v6.stp hs rfl
   have i5:=i5.stp hs
   have u3:=u3.stp hs rfl
   have o0:=o0.stp hs
   have i3:=i3.stp hs
   have b256:=b256.stp hs rfl
   have b258:=b258.stp hs rfl
   refine Zg (.bool (j7.2)) rfl rfl ?_
   refine Zb (Zd ?_)
   obtain ⟨⟨q8,v7⟩,hx,h⟩:=bsome h
   refine E_join (fun e w=>∃ (g:Gh) ,FrM iI gI wI g w∧MkF g w []∧RFr cC iD g w∧HB 10 g w lE (.loop { gD with state:=.busy })∧e 3=p1∧PT g.m w (⟨up0,hone500200⟩:Fv) p1∧e 4=p2∧PT g.m w (x1:List (List Int)) p2∧e 5=p3∧PT g.m w (x2:BoxPoint) p3∧e 6=p4∧OB 2006 g w 83 (k9:BoxPick) p4∧e 7=p5∧OB 2007 g w 112 (pA:BoxPoint) p5∧e 8=lD∧OB 2008 g w 83 (l8:BoxPick) lD∧e 10=mD∧OB 2010 g w 112 (j7.1:BoxPoint) mD∧e 15=aC∧ItV Try.prog (RA2 (α:=BoxPick) (β:=BoxStep)) mB aC g.m w∧e 39=.bool (q8)∧MP (encK pl_112) 1 g w (v7:List (BoxPoint × Int)) kv500000∧FC g.m w 2 kv500000 up0∧PT g.m w (x0:BoxMill) up0) (fun Q' hQ=>?_) (fun lH zH hR=>?_)
   ·replace h := hx
    clear hx
    rcases Zt h with ⟨x6,h⟩ | ⟨x6,h⟩
    ·refine L_loadO (x := .tmp 27) part_BoxStep_2.1 Try.isAgg3 Try.sizeOf3 b258 fun aI kG nE => ?_
     obtain rfl:=Zj.1 kG
     refine Zs (α:=Fv) (x:=.tmp 3) Try.isAgg113 Try.sizeOf113 t5 fun oD sD oE=>?_
     have e297:oD=up0:=RV_fv.1 sD
     clear sD
     subst oD
     refine Zs (x:=.tmp 4) Try.isAgg42 Try.sizeOf42 l5 fun tD eC rE=>?_
     refine L_loadO0 (x:=.tmp 10) Try.isAgg112 Try.sizeOf112 b266 fun uD iC sE=>?_
     obtain ⟨jA,tE,h⟩:=bsome h
     refine Zs (α:=Fv) (x:=.tmp 3) Try.isAgg113 Try.sizeOf113 t5 fun vD xD uE=>?_
     have e302:vD=up0:=RV_fv.1 xD
     clear xD
     subst vD
     refine Zs (x:=.tmp 4) Try.isAgg42 Try.sizeOf42 l5 fun yD lC vE=>?_
     refine Zs (x:=.tmp 5) Try.isAgg112 Try.sizeOf112 x5 fun zD mC xE=>?_
     obtain ⟨qA,yE,h⟩:=bsome h
     refine E_drawC (g:=oB) (w:=nD) (n:=13) [0,1,2,3,4,5,6,8,9,10,11] [2009,2010] [0,1,2,3,4,5,6,7,8,9,10,11,12] rfl mixed (by kernel_rfl) fun w_c293 hs hlt=>?_
     have hfr:=hfr.ext hs
     have hmk:=hmk.ext hs
     have i6:=i6.ext hs
     have hrec_0:=hrec_0.ext hs
     have t5:=t5.ext hs
     have l5:=l5.ext hs
     have x5:=x5.ext hs
     have j6:=j6.ext hs
     have v6:=v6.ext hs
     have i5:=i5.ext hs
     have u3:=u3.ext hs
     have o0:=o0.ext hs
     have i3:=i3.ext hs
     have b256:=b256.ext hs
     have b258:=b258.ext hs
     have b266:=b266.ext hs
     clear hs
     refine CH_pur (c:=.bool (j7.2)) rfl rfl .plain (Zk rfl) ?_
     refine CH_pur (c:=.bool (j7.2)) rfl rfl .plain (Zk rfl) ?_
     refine CH_pur (c:=fPtr zF 11) rfl rfl (.yes2 rfl rfl x6) (Zc at_144_2 rfl (OB.ptr b258)) ?_
     refine CH_ldO (n:=2009) (c:=.int .i64 ((m8).moves)) rfl rfl (.yes2 rfl rfl x6) nE rfl rfl ?_
     refine CH_ldP (c:=up0) rfl rfl (.yes2 rfl rfl x6) oE rfl ?_
     refine CH_ldP (c:=tD) rfl rfl (.yes2 rfl rfl x6) rE rfl ?_
     have eC:=eC.ch hlt.1
     refine CH_ldO (n:=2010) (c:=uD) rfl rfl (.yes2 rfl rfl x6) sE rfl rfl ?_
     have iC:=iC.ch hlt.1
     refine CH_do rfl rfl (.yes2 rfl rfl x6) (D_callM (g:=oB) (i:=1) (vs:=[up0,tD,uD]) en57 (.cons rfl (.cons rfl (.cons rfl .nil))) (wk57 big i3 o0 u3 eC iC tE) fun lG mH bI hs hr=>?_)
     obtain ⟨hrv,b300⟩:=hr
     have hfr:=hfr.stp hs
     have hmk:=hmk.stp hs
     have i6:=i6.stp hs
     have hrec_0:=hrec_0.stp hs rfl
     have hlt:=hlt.stp hs
     have t5:=t5.stp hs
     have l5:=l5.stp hs
     have x5:=x5.stp hs
     have j6:=j6.stp hs rfl
     have v6:=v6.stp hs rfl
     have i5:=i5.stp hs
     have o0:=o0.stp hs
     have i3:=i3.stp hs
     have b256:=b256.stp hs rfl
     have b266:=b266.stp hs rfl
     subst hrv
     refine ⟨hlt.toW,?_⟩
     refine CH_pur (c:=.int .i64 ((w64 ((m8).moves + jA.1)))) rfl rfl (.yes2 rfl rfl x6) (P_int rfl rfl rfl) ?_
     refine CH_ldP (c:=up0) rfl rfl (.yes2 rfl rfl x6) uE rfl ?_
     refine CH_ldP (c:=yD) rfl rfl (.yes2 rfl rfl x6) vE rfl ?_
     have lC:=lC.ch hlt.1
     refine CH_ldP (c:=zD) rfl rfl (.yes2 rfl rfl x6) xE rfl ?_
     have mC:=mC.ch hlt.1
     refine CH_do rfl rfl (.yes2 rfl rfl x6) (D_callM (g:=lG) (i:=1) (vs:=[up0,yD,zD]) en57 (.cons rfl (.cons rfl (.cons rfl .nil))) (wk57 big i3 o0 b300 lC mC yE) fun mG nH cI hs hr=>?_)
     obtain ⟨hrv,b305⟩:=hr
     have hfr:=hfr.stp hs
     have hmk:=hmk.stp hs
     have i6:=i6.stp hs
     have hrec_0:=hrec_0.stp hs rfl
     have hlt:=hlt.stp hs
     have t5:=t5.stp hs
     have l5:=l5.stp hs
     have x5:=x5.stp hs
     have j6:=j6.stp hs rfl
     have v6:=v6.stp hs rfl
     have i5:=i5.stp hs
     have o0:=o0.stp hs
     have i3:=i3.stp hs
     have b256:=b256.stp hs rfl
     have b266:=b266.stp hs rfl
     subst hrv
     refine ⟨hlt.toW,?_⟩
     refine CH_nil ?_
     clear hlt
     refine EL_y (.bool (((w64 ((m8).moves + jA.1)) == qA.1))) (P_int rfl rfl rfl) rfl rfl x6 rfl ?_
     refine EL_p (.bool (((w64 ((m8).moves + jA.1)) == qA.1))) (Zl (b:=j7.2) rfl (pick_t x6 rfl)) rfl ?_
     refine Zb ?_
     obtain ⟨rfl,rfl⟩:=pairs2 h
     exact hQ _ _ ⟨mG,hfr,hmk,i6,hrec_0,rfl,t5,rfl,l5,rfl,x5,rfl,j6,rfl,v6,rfl,b256,rfl,b266,rfl,i5,rfl,b305,o0,i3⟩
    ·refine E_drawC (g := oB) (w := nD) (n := 13) [0, 1, 2, 3, 4, 5, 6, 7, 8, 9, 10, 11, 12] [] [0, 1, 2, 3, 4, 5, 6, 7, 8, 9, 10, 11, 12] rfl mixed (by kernel_rfl) fun w_c293 hs hlt => ?_
     have hfr:=hfr.ext hs
     have hmk:=hmk.ext hs
     have i6:=i6.ext hs
     have hrec_0:=hrec_0.ext hs
     have t5:=t5.ext hs
     have l5:=l5.ext hs
     have x5:=x5.ext hs
     have j6:=j6.ext hs
     have v6:=v6.ext hs
     have i5:=i5.ext hs
     have u3:=u3.ext hs
     have o0:=o0.ext hs
     have i3:=i3.ext hs
     have b256:=b256.ext hs
     have b266:=b266.ext hs
     clear hs
     refine CH_pur (c:=.bool (j7.2)) rfl rfl .plain (Zk rfl) ?_
     refine CH_pur (c:=.bool (j7.2)) rfl rfl .plain (Zk rfl) ?_
     iterate 11 refine CH_skip rfl (.no2 rfl rfl x6 rfl) ?_
     refine CH_nil ?_
     clear hlt
     refine EL_s rfl rfl x6 rfl rfl ?_
     refine EL_p (.bool false) (Zl (b:=j7.2) rfl (pick_f x6 rfl)) rfl ?_
     refine Zb ?_
     obtain ⟨rfl,rfl⟩:=pairs2 h
     exact hQ _ _ ⟨oB,hfr,hmk,i6,hrec_0,rfl,t5,rfl,l5,rfl,x5,rfl,j6,rfl,v6,rfl,b256,rfl,b266,rfl,i5,rfl,u3,o0,i3⟩
   ·clear hx
    obtain ⟨dI,hfr,hmk,i6,hrec_0,yG,r8,zG,t8,aH,v8,aE,zB,bE,bA,cE,dE,uC,vC,uG,k8,lB,d7,y6,a7⟩:=hR
    rcases Zt h with ⟨tB,h⟩ | ⟨tB,h⟩
    ·refine E_cond_true (Eq.trans (show ev _ _ = .bool (q8) from lB) (congrArg Value.bool tB)) ?_
     refine Zf (L_loadO0 (x:=.tmp 8) Try.isAgg83 Try.sizeOf83 dE fun nG oG zE=>?_)
     refine L_loadO0 (x:=.tmp 10) Try.isAgg112 Try.sizeOf112 vC fun eE qC cF=>?_
     refine E_drawB (a0:=(k9:BoxPick)) (a1:=(l8:BoxPick)) zB (n:=3) [(2,(fun _ g w=>OB 2006 g w 83 (l8:BoxPick) p4))] [0,1,2] rfl mixed (by kernel_rfl) (⟨fun _=>up_box,trivial⟩) ?_
     refine L_ld (c:=nG) rfl rfl .plain (fun _ _ h=>⟨h.1.ch,fun b hb ho=>h.1.block b hb (by rw [ho]; decide)⟩) zE cE ?_
     refine L_ld (c:=eE) rfl rfl .plain (fun _ _ h=>⟨h.1.ch,fun b hb ho=>h.1.block b hb (by rw [ho]; decide)⟩) cF uC ?_
     refine L_do (φ:=fun _ g w=>OB 2006 g w 83 (l8:BoxPick) p4) rfl rfl .plain (fun g w hd=>D_storeR0 (g:=g) Try.sizeOf83 aE hd.1.2 rfl (oG.stp hd.1.1)) (fun jI hv=>?_)
     clear hv
     refine L_nil fun pG kI hall=>?_
     have hs:=hall.1.1
     have hfr:=hfr.stp hs
     have hmk:=hmk.stp hs
     have i6:=i6.stp hs
     have hrec_0:=hrec_0.stp hs rfl
     have r8:=r8.stp hs
     have t8:=t8.stp hs
     have v8:=v8.stp hs
     have bA:=bA.stp hs rfl
     have k8:=k8.stp hs
     have d7:=d7.stp hs rfl
     have y6:=y6.stp hs
     have a7:=a7.stp hs
     have qC:=qC.stp hs
     have b319:=(word_all (A:=fun g w=>OB 2006 g w 83 (l8:BoxPick) p4) 2 rfl hall)
     clear hs hall
     refine Ze .plain rfl (D_storeOc (g:=pG) (v:=eE) Try.sizeOf112 bE bA rfl qC fun lI mI hs b330 cb=>?_)
     clear cb
     have hfr:=hfr.stp hs
     have hmk:=hmk.stp hs
     have i6:=i6.stp hs
     have hrec_0:=hrec_0.stp hs rfl
     have r8:=r8.stp hs
     have t8:=t8.stp hs
     have v8:=v8.stp hs
     have b319:=b319.stp hs rfl
     have k8:=k8.stp hs
     have d7:=d7.stp hs rfl
     have y6:=y6.stp hs
     have a7:=a7.stp hs
     refine Zb (Zd (E_ret (blk_r ?_)))
     obtain ⟨rfl,rfl⟩:=pairs2 h
     exact ⟨_,i6,⟨hfr,hmk,r8,t8,v8,b319,b330,k8,d7,y6,a7⟩,hrec_0,rfl,0,rfl,rfl⟩
    ·refine E_cond_false (Eq.trans (show ev _ _ = .bool (q8) from lB) (congrArg Value.bool tB)) ?_
     refine Zu (blk_n ?_)
     obtain ⟨rfl,rfl⟩:=pairs2 h
     exact ⟨_,i6,⟨hfr,hmk,r8,t8,v8,zB,bA,k8,d7,y6,a7⟩,hrec_0,rfl,rfl⟩
  ·intro qG nI ds332 hsz hR hds
   obtain ⟨hfr,hmk,bH,cH,dH,gA,iA,vG,i8,aB,dB⟩:=hR
   obtain ⟨D,hdse,hD,hDb⟩:=hds.1 rfl
   subst hdse
   replace hmk:=MkF.push hmk0 hmk hD hDb
   clear hD hDb hds
   revert hmk
   generalize ({ target:=.collected D,args:=#[] } :: []:List Deferred)=gH
   intro hmk
   refine ⟨fun hs=>?_,fun k c hs hc=>?_⟩
   ·have hs : l9 = 0 := hs
    subst hs
    replace h:=cond_t h rfl
    exact blk_n (Zd (jE (n9,u9,g8) _ _ _ ⟨qG,hfr,hmk,rfl,gA,rfl,iA,i8,aB,dB⟩ h))
   ·have hs : l9 = k + 1 := hs
    match k,hs,hc with
    | 0,hs,hc=>
     subst hs
     obtain rfl:=sinj hc
     replace h:=cond_f h rfl
     refine E_ret (blk_r ?_)
     refine thn_r ?_
     refine endM (.inr rfl) hmk fun pI qI hs=>?_
     have hfr:=hfr.stp hs
     have gA:=gA.stp hs rfl
     have iA:=iA.stp hs rfl
     have i8:=i8.stp hs rfl
     obtain rfl:=sinj h
     obtain ⟨ad334,cv334,hp334,dF,cr334⟩:=ob_read Try.isAgg83 Try.sizeOf83 gA
     obtain ⟨ad335,cv335,hp335,eF,cr335⟩:=ob_read Try.isAgg112 Try.sizeOf112 iA
     exact endm_cc rfl rfl ((show _=p4 from rfl).trans hp334) dF ((show _=p5 from rfl).trans hp335) eF ⟨_,hfr,⟨_,_,rfl,cr334,cr335⟩,y9.back i8⟩
    | n + 1,_,hc=>exact absurd hc (by simp)
 ·rintro ⟨vB, yB, d9⟩ oH iH rI ⟨rG, hfr, hmk, iB, x8, jB, a9, i7, gE, iE⟩ h
  refine Zf (L_selfO Try.isAgg83 Try.sizeOf83 rfl x8 fun sG iF nF=>?_)
  refine L_selfO Try.isAgg112 Try.sizeOf112 rfl a9 fun tG oF pF=>?_
  refine E_drawL (g:=rG) (n:=4) [(2,(fun _ _ _=>True)),(3,(fun _ _ _=>True))] [0,1,2,3] rfl mixed (by kernel_rfl) (⟨fun _=>(fun _ _ _ _ _ _=>trivial),fun _=>(fun _ _ _ _ _ _=>trivial),trivial⟩) ?_
  refine L_ld (c:=sG) rfl rfl .plain (fun _ _ h=>⟨h.ch,fun b hb _=>h.below.block b hb⟩) (iF _) iB ?_
  refine L_ld (c:=tG) rfl rfl .plain (fun _ _ h=>⟨h.ch,fun b hb _=>h.below.block b hb⟩) (oF _) jB ?_
  refine L_do (φ:=fun _ _ _=>True) rfl rfl .plain (fun g w hd=>nF _ _ _ g w ⟨hd.1.ch,fun b hb _=>hd.1.below.block b hb⟩ iB rfl) (fun sI hv=>?_)
  clear hv
  refine L_do (φ:=fun _ _ _=>True) rfl rfl .plain (fun g w hd=>pF _ _ _ g w ⟨hd.1.ch,fun b hb _=>hd.1.below.block b hb⟩ jB rfl) (fun tI hv=>?_)
  clear hv
  refine L_nl fun uI vI hs=>?_
  have hfr:=hfr.ext hs
  have hmk:=hmk.ext hs
  have x8:=x8.ext hs
  have a9:=a9.ext hs
  have i7:=i7.ext hs
  clear hs
  refine Zb (Zd (E_ret (endM (.inr rfl) hmk fun xI yI hs=>?_)))
  have hfr:=hfr.stp hs
  have x8:=x8.stp hs rfl
  have a9:=a9.stp hs rfl
  have i7:=i7.stp hs rfl
  obtain rfl:=sinj h
  obtain ⟨ad350,cv350,hp350,qF,cr350⟩:=ob_read Try.isAgg83 Try.sizeOf83 x8
  obtain ⟨ad351,cv351,hp351,rF,cr351⟩:=ob_read Try.isAgg112 Try.sizeOf112 a9
  exact endm_cc rfl rfl ((show _=p4 from iB).trans hp350) qF ((show _=p5 from jB).trans hp351) rF ⟨_,hfr,⟨_,_,rfl,cr350,cr351⟩,y9.back i7⟩
def f83 (x0:BoxShuttle) (z0:BoxBoxLoom):Option (Bool):=
 (f84 z0 x0).bind fun y5=>
 some ((!y5))
theorem en83:Enters Try.prog 83:=enters_of Try.func83 (by kernel_rfl) rfl
theorem wk83 {gI:Gh} {wI:World} {x0:BoxShuttle} {z0:BoxBoxLoom} {up0:Value} (rp0:RV gI.m wI x0 up0) {pf0:Value} (qf0:PT gI.m wI z0 pf0) {r:Bool} (h:f83 x0 z0=some r):Fn Try.prog 83 #[up0,pf0] gI wI (fun _ _ v=>v=.bool (r)):=by
 unfold f83 at h
 refine fn_of_E Try.func83 rfl (Nat.le_of_ble_eq_true rfl) fun g0 hm hfr=>?_
 have qf0:PT g0.m wI z0 pf0:=hm ▸ qf0
 have rp0:RV g0.m wI x0 up0:=hm ▸ rp0
 show E _ 8 none _ _ _ _ _
 refine Zf (Za (Ze .plain rfl (D_box (g:=g0) rfl rp0 fun g1 w1 p1 hs q1=>?_)))
 have hfr:=hfr.ext hs
 have qf0:=qf0.ext hs
 refine Zg (.bool false) rfl rfl ?_
 refine Zb (Zd (Zf (Za (Ze .plain rfl (D_load (g:=g1) Try.isAgg102 Try.sizeOf102 rfl qf0 fun v2 r2=>?_)))))
 refine Ze .plain rfl (D_load (g:=g1) Try.isAgg87 Try.sizeOf87 rfl q1 fun v3 r3=>?_)
 obtain ⟨y5,hy5,h⟩:=bsome h
 refine Ze .plain rfl (Zp (g:=g1) (vs:=[v2,v3]) en84 (.cons rfl (.cons rfl .nil)) (wk84 r2 r3 hy5) fun g4 w4_ v4 hs hr=>?_)
 have hfr:=hfr.ext hs
 subst hr
 refine EL_p (.bool (!y5)) (P_not rfl) rfl ?_
 refine Zg (.bool (!y5)) rfl rfl ?_
 refine Zb (Zd (E_ret ?_))
 obtain rfl:=sinj h
 exact end1 rfl rfl (show _=.bool (!y5) from rfl) ⟨_,hfr,rfl⟩
def f51 (x0:BoxLoom):Option (BoxBoxLoom × Int):=
 jn (σ:=BoxBoxLoom) (fun o0=>
  Option.bind (α:=(List ((Vector Int 2) × Bool))) (
   lp (σ:=(List ((Vector Int 2) × Bool)) × Int) (fun vC (r8,i3)=>
    bif (decide (i3 < (((x0).Shuttles).length : Int))) then
     Option.bind (α:=(List ((Vector Int 2) × Bool))) (
      (idx ((x0).Shuttles) i3).bind fun v6=>
      some ((mset r8 ((⟨List.toArray [(v6).Side,(v6).Box],rfl⟩:Vector Int 2)) true))
      ) fun k8=>
     vC (k8,(w64 (i3 + (1:Int))))
    else
     some (r8)
    ) big (([]:List ((Vector Int 2) × Bool)),(0:Int))
   ) fun l8=>
  jn (σ:=BoxBoxLoom) (fun aD=>
   some ((⟨x0⟩:BoxBoxLoom),(0:Int))
   ) fun bD=>
  bif (decide (((l8).length : Int) < (((x0).Shuttles).length : Int))) then
   some ((⟨x0⟩:BoxBoxLoom),(6:Int))
  else
   bD (o0)
  ) fun k54=>
 Option.bind (α:=Bool) (
  bif ((((x0).Boxes).length : Int) != (2 : Int)) then
   some (((((x0).Boxes).length:Int) != (2:Int)))
  else
   some (((((x0).At).length:Int) != (2:Int)))
  ) fun a7=>
 bif a7 then
  some ((⟨x0⟩:BoxBoxLoom),(4:Int))
 else
  (f85 ((⟨x0⟩:BoxBoxLoom))).bind fun zB=>
  bif (!zB) then
   some ((⟨x0⟩:BoxBoxLoom),(3:Int))
  else
   bif (decide ((((x0).Shuttles).length : Int) > (6 : Int))) then
    some ((⟨x0⟩:BoxBoxLoom),(5:Int))
   else
    Option.bind (α:=Bool) (
     bif ((((x0).Shuttles).length : Int) == (0 : Int)) then
      some (((((x0).Shuttles).length:Int) == (0:Int)))
     else
      (f86 ((x0).Shuttles) ((fun a0=>f83 a0 ((⟨x0⟩:BoxBoxLoom))))).bind fun cD=>
      some (cD)
     ) fun d7=>
    bif d7 then
     some ((⟨x0⟩:BoxBoxLoom),(2:Int))
    else
     k54 ((⟨⟨[],[],[]⟩⟩:BoxBoxLoom))
theorem en51:Enters Try.prog 51:=enters_of Try.func51 (by kernel_rfl) rfl
theorem wk51 {gI:Gh} {wI:World} {x0:BoxLoom} {up0:Value} (rp0:RV gI.m wI x0 up0) {r:BoxBoxLoom × Int} (h:f51 x0=some r):Fn Try.prog 51 #[up0] gI wI (fun m w v=>∃ y0 y1,v=.tuple #[y0,y1]∧RV m w (r.1) y0∧y1=.int .i64 (r.2)):=by
 unfold f51 at h
 refine fn_of_E Try.func51 rfl (Nat.le_of_ble_eq_true rfl) fun g0 hm hfr=>?_
 have rp0:RV g0.m wI x0 up0:=hm ▸ rp0
 show E _ 66 none _ _ _ _ _
 refine Zf (Za (Ze .plain rfl (D_box (g:=g0) rfl rp0 fun g1 w1 p1 hs q1=>?_)))
 have hfr:=hfr.ext hs
 refine Ze .plain rfl (D_allocOc (g:=g1) 2002 (⟨⟨[],[],[]⟩⟩:BoxBoxLoom) Try.zeroValue102 (fun m w=>⟨_,(rep_two rep_nil (rep_two rep_nil rep_nil)),rfl⟩) fun g2 w2 p2 hs b2 cb=>?_)
 have hfr:=hfr.stp hs
 have q1:=q1.stp hs
 have i7:OSF 2002 60200 0 g2 w2 3 102 ([]:List Int) p2:=cb.osf (by rfl)
 have j7:OSF 2002 60201 1 g2 w2 3 102 ([]:List Int) p2:=cb.osf (by rfl)
 have m7:OSF 2002 60202 2 g2 w2 87 102 ([]:List BoxShuttle) p2:=cb.osf (by rfl)
 clear cb
 refine Zg (.int .i64 (0)) rfl rfl ?_
 refine Zb (Zd (Zf (Za (Ze .plain rfl (D_load (g:=g2) Try.isAgg25 Try.sizeOf25 rfl q1 fun v3 r3=>?_)))))
 have r4:RV g2.m _ (⟨x0⟩:BoxBoxLoom) (.agg (setCh [[.slice none 0 0,.slice none 0 0,.slice none 0 0]] [(0,v3)]).flatten.toArray):=RV_build rfl (rep_last (RV.cells r3))
 generalize dG:(Value.agg (setCh [[.slice none 0 0,.slice none 0 0,.slice none 0 0]] [(0,v3)]).flatten.toArray)=v4 at r4
 refine EL_p v4 (dG ▸ P_build (vs:=[(0,v3)]) [[.slice none 0 0,.slice none 0 0,.slice none 0 0]] lay_102 rfl rfl (.cons rfl .nil) ⟨⟨_,rfl,cells_size r3⟩,trivial⟩) rfl ?_
 refine Ze .plain rfl (D_allocOc (g:=g2) 2004 (⟨⟨[],[],[]⟩⟩:BoxBoxLoom) Try.zeroValue102 (fun m w=>⟨_,(rep_two rep_nil (rep_two rep_nil rep_nil)),rfl⟩) fun g5 w5 p5 hs b5 cb=>?_)
 have hfr:=hfr.stp hs
 have q1:=q1.stp hs
 have i7:=i7.stp hs rfl
 have j7:=j7.stp hs rfl
 have m7:=m7.stp hs rfl
 have b2:=b2.stp hs rfl
 have r4:=r4.stp hs
 have iH:OSF 2004 60400 0 g5 w5 3 102 ([]:List Int) p5:=cb.osf (by rfl)
 have jH:OSF 2004 60401 1 g5 w5 3 102 ([]:List Int) p5:=cb.osf (by rfl)
 have kH:OSF 2004 60402 2 g5 w5 87 102 ([]:List BoxShuttle) p5:=cb.osf (by rfl)
 clear cb
 refine Ze .plain rfl (D_storeOc (g:=g5) (v:=v4) Try.sizeOf102 rfl b5 rfl r4 fun g6 w6 hs b6 cb=>?_)
 clear cb
 have hfr:=hfr.stp hs
 have q1:=q1.stp hs
 have i7:=i7.stp hs rfl
 have j7:=j7.stp hs rfl
 have m7:=m7.stp hs rfl
 have b2:=b2.stp hs rfl
 obtain ⟨gp6,hs,qp6⟩:=OB.pub b6
 have hfr:=hfr.stp hs
 have q1:=q1.stp hs
 have i7:=i7.stp hs rfl
 have j7:=j7.stp hs rfl
 have m7:=m7.stp hs rfl
 have b2:=b2.stp hs rfl
 refine Zb (Zd (Zf (Za (EL_p ((.func (.func 83) #[] #[p5])) (P_makeFunc (capf_0_1 (show ev _ _=p5 from rfl))) rfl ?_))))
 refine Zg ((.func (.func 83) #[] #[p5])) rfl rfl ?_
 refine Zb (Zd (Zq h (fun (s:BoxBoxLoom) e w=>∃ (g:Gh) ,Fr gI wI g w∧e 1=p1∧PT g.m w (x0:BoxLoom) p1∧e 2=p2∧OB 2002 g w 102 (s:BoxBoxLoom) p2∧OSF 2002 60200 0 g w 3 102 (((s).BoxLoom).Boxes) p2∧OSF 2002 60201 1 g w 3 102 (((s).BoxLoom).At) p2∧OSF 2002 60202 2 g w 87 102 (((s).BoxLoom).Shuttles) p2∧e 4=p5∧PT g.m w ((⟨x0⟩:BoxBoxLoom):BoxBoxLoom) p5) (fun X54 k54 tE h=>?_) ?_))
 ·refine Zr ?_
  obtain ⟨a7,hx,h⟩:=bsome h
  refine E_join (fun e w=>∃ (g:Gh) ,Fr gI wI g w∧e 1=p1∧PT g.m w (x0:BoxLoom) p1∧e 2=p2∧OB 2002 g w 102 ((⟨⟨[],[],[]⟩⟩:BoxBoxLoom):BoxBoxLoom) p2∧OSF 2002 60200 0 g w 3 102 ((((⟨⟨[],[],[]⟩⟩:BoxBoxLoom)).BoxLoom).Boxes) p2∧OSF 2002 60201 1 g w 3 102 ((((⟨⟨[],[],[]⟩⟩:BoxBoxLoom)).BoxLoom).At) p2∧OSF 2002 60202 2 g w 87 102 ((((⟨⟨[],[],[]⟩⟩:BoxBoxLoom)).BoxLoom).Shuttles) p2∧e 4=p5∧PT g.m w ((⟨x0⟩:BoxBoxLoom):BoxBoxLoom) p5∧e 5=(.func (.func 83) #[] #[p5])∧e 12=.bool (a7)) (fun Q' hQ=>?_) (fun lH nI hR=>?_)
  ·replace h := hx
   clear hx
   refine Zf (Za (EL_p (fPtr p1 0) (Zc at_25_0 rfl (PT.ptr q1)) rfl ?_))
   have eG:=Zm (part_BoxLoom_0).1 q1
   refine Ze .plain rfl (D_load (g:=gp6) Try.isAgg22 Try.sizeOf22 rfl eG fun pI gG=>?_)
   refine EL_p (.int .i64 (((x0).Boxes).length:Int)) (P_len Try.underlying22 rfl gG) rfl ?_
   refine EL_in (.bool (((((x0).Boxes).length:Int) != (2:Int)))) rfl rfl rfl rfl ?_
   refine Zg (.bool (((((x0).Boxes).length:Int) != (2:Int)))) rfl rfl ?_
   refine Zb (Zd ?_)
   rcases Zt h with ⟨jB,h⟩ | ⟨jB,h⟩
   ·refine E_ct jB rfl ?_
    refine Zu ?_
    obtain rfl:=sinj h
    exact hQ _ _ ⟨gp6,hfr,rfl,q1,rfl,b2,i7,j7,m7,rfl,qp6,rfl,rfl⟩
   ·refine E_cf jB rfl ?_
    refine Za (EL_p (fPtr p1 1) (Zc at_25_1 rfl (PT.ptr q1)) rfl ?_)
    have hG:=Zm (part_BoxLoom_1).1 q1
    refine Ze .plain rfl (D_load (g:=gp6) Try.isAgg22 Try.sizeOf22 rfl hG fun qI iG=>?_)
    refine EL_p (.int .i64 (((x0).At).length:Int)) (P_len Try.underlying22 rfl iG) rfl ?_
    refine EL_in (.bool (((((x0).At).length:Int) != (2:Int)))) rfl rfl rfl rfl ?_
    refine Zg (.bool (((((x0).At).length:Int) != (2:Int)))) rfl rfl ?_
    refine Zb ?_
    obtain rfl:=sinj h
    exact hQ _ _ ⟨gp6,hfr,rfl,q1,rfl,b2,i7,j7,m7,rfl,qp6,rfl,rfl⟩
  ·clear hx
   obtain ⟨aC,hfr,m8,i5,x6,j6,u2_0_66,u2_1_66,u2_2_66,g8,l5,iE,gA⟩:=hR
   rcases Zt h with ⟨lB,h⟩ | ⟨lB,h⟩
   ·refine E_cond_true (Eq.trans (show ev _ _ = .bool (a7) from gA) (congrArg Value.bool lB)) ?_
    refine Zf (Za (Ze .plain rfl (D_load (g:=aC) Try.isAgg102 Try.sizeOf102 g8 l5 fun jG kG=>?_)))
    refine Ze .plain rfl (D_storeOc (g:=aC) (v:=jG) Try.sizeOf102 x6 j6 rfl kG fun rI sI hs b69 cb=>?_)
    clear cb
    have hfr:=hfr.stp hs
    refine Zg (.int .i64 (4)) rfl rfl ?_
    refine Zb (Zd (E_ret (blk_r ?_)))
    refine thn_r ?_
    obtain rfl:=sinj h
    obtain ⟨ad70,cv70,hp70,uE,cr70⟩:=ob_read Try.isAgg102 Try.sizeOf102 b69
    exact endm_ct rfl rfl ((show _=p2 from x6).trans hp70) uE (show _=.int .i64 (4) from rfl) ⟨_,hfr,_,_,rfl,cr70,rfl⟩
   ·refine E_cond_false (Eq.trans (show ev _ _ = .bool (a7) from gA) (congrArg Value.bool lB)) ?_
    refine Zf (Za (Ze .plain rfl (D_load (g:=aC) Try.isAgg102 Try.sizeOf102 g8 l5 fun lG mG=>?_)))
    obtain ⟨zB,vE,h⟩:=bsome h
    refine Ze .plain rfl (Zp (g:=aC) (vs:=[lG]) en85 (.cons rfl .nil) (wk85 mG vE) fun n8 mH tI hs hr=>?_)
    have hfr:=hfr.ext hs
    have i5:=i5.ext hs
    have u2_0_66:=u2_0_66.ext hs
    have u2_1_66:=u2_1_66.ext hs
    have u2_2_66:=u2_2_66.ext hs
    have j6:=j6.ext hs
    have l5:=l5.ext hs
    subst hr
    refine EL_p (.bool (!zB)) (P_not rfl) rfl ?_
    refine Zg (.bool (!zB)) rfl rfl ?_
    refine Zb (Zd ?_)
    rcases Zt h with ⟨mB,h⟩ | ⟨mB,h⟩
    ·refine E_ct mB rfl ?_
     refine Zf (Za (Ze .plain rfl (D_load (g:=n8) Try.isAgg102 Try.sizeOf102 g8 l5 fun nG oG=>?_)))
     refine Ze .plain rfl (D_storeOc (g:=n8) (v:=nG) Try.sizeOf102 x6 j6 rfl oG fun uI vI hs b76 cb=>?_)
     clear cb
     have hfr:=hfr.stp hs
     refine Zg (.int .i64 (3)) rfl rfl ?_
     refine Zb (Zd (E_ret (blk_r ?_)))
     refine thn_r ?_
     obtain rfl:=sinj h
     obtain ⟨ad77,cv77,hp77,xE,cr77⟩:=ob_read Try.isAgg102 Try.sizeOf102 b76
     exact endm_ct rfl rfl ((show _=p2 from x6).trans hp77) xE (show _=.int .i64 (3) from rfl) ⟨_,hfr,_,_,rfl,cr77,rfl⟩
    ·refine E_cf mB rfl ?_
     refine Zf (Za (EL_p (fPtr p1 2) (Zc at_25_2 m8 (PT.ptr i5)) rfl ?_))
     have pG:=Zm (part_BoxLoom_2).1 i5
     refine Ze .plain rfl (D_load (g:=n8) Try.isAgg23 Try.sizeOf23 rfl pG fun xI qG=>?_)
     refine EL_p (.int .i64 (((x0).Shuttles).length:Int)) (P_len Try.underlying23 rfl qG) rfl ?_
     refine EL_p (.bool ((decide ((((x0).Shuttles).length:Int) > (6:Int))))) (P_int rfl rfl rfl) rfl ?_
     refine EL_p (.bool ((decide ((((x0).Shuttles).length:Int) > (6:Int))))) (P_assign rfl) rfl ?_
     refine Zb (Zd ?_)
     rcases Zt h with ⟨nB,h⟩ | ⟨nB,h⟩
     ·refine E_ct nB rfl ?_
      refine Zf (Za (Ze .plain rfl (D_load (g:=n8) Try.isAgg102 Try.sizeOf102 g8 l5 fun rG sG=>?_)))
      refine Ze .plain rfl (D_storeOc (g:=n8) (v:=rG) Try.sizeOf102 x6 j6 rfl sG fun yI zI hs b82 cb=>?_)
      clear cb
      have hfr:=hfr.stp hs
      refine Zg (.int .i64 (5)) rfl rfl ?_
      refine Zb (Zd (E_ret (blk_r ?_)))
      refine thn_r ?_
      obtain rfl:=sinj h
      obtain ⟨ad83,cv83,hp83,yE,cr83⟩:=ob_read Try.isAgg102 Try.sizeOf102 b82
      exact endm_ct rfl rfl ((show _=p2 from x6).trans hp83) yE (show _=.int .i64 (5) from rfl) ⟨_,hfr,_,_,rfl,cr83,rfl⟩
     ·refine E_cf nB rfl ?_
      obtain ⟨d7,hx,h⟩:=bsome h
      refine E_join (fun e w=>∃ (g:Gh) ,Fr gI wI g w∧e 1=p1∧PT g.m w (x0:BoxLoom) p1∧e 2=p2∧OB 2002 g w 102 ((⟨⟨[],[],[]⟩⟩:BoxBoxLoom):BoxBoxLoom) p2∧OSF 2002 60200 0 g w 3 102 ((((⟨⟨[],[],[]⟩⟩:BoxBoxLoom)).BoxLoom).Boxes) p2∧OSF 2002 60201 1 g w 3 102 ((((⟨⟨[],[],[]⟩⟩:BoxBoxLoom)).BoxLoom).At) p2∧OSF 2002 60202 2 g w 87 102 ((((⟨⟨[],[],[]⟩⟩:BoxBoxLoom)).BoxLoom).Shuttles) p2∧e 4=p5∧PT g.m w ((⟨x0⟩:BoxBoxLoom):BoxBoxLoom) p5∧e 33=.bool (d7)) (fun Q' hQ=>?_) (fun nH aJ hR=>?_)
      ·replace h := hx
       clear hx
       refine Zf (Za (EL_p (fPtr p1 2) (Zc at_25_2 m8 (PT.ptr i5)) rfl ?_))
       have tG:=Zm (part_BoxLoom_2).1 i5
       refine Ze .plain rfl (D_load (g:=n8) Try.isAgg23 Try.sizeOf23 rfl tG fun bJ uG=>?_)
       refine EL_p (.int .i64 (((x0).Shuttles).length:Int)) (P_len Try.underlying23 rfl uG) rfl ?_
       refine EL_in (.bool (((((x0).Shuttles).length:Int) == (0:Int)))) rfl rfl rfl rfl ?_
       refine Zg (.bool (((((x0).Shuttles).length:Int) == (0:Int)))) rfl rfl ?_
       refine Zb (Zd ?_)
       rcases Zt h with ⟨oB,h⟩ | ⟨oB,h⟩
       ·refine E_ct oB rfl ?_
        refine Zu ?_
        obtain rfl:=sinj h
        exact hQ _ _ ⟨n8,hfr,m8,i5,x6,j6,u2_0_66,u2_1_66,u2_2_66,g8,l5,rfl⟩
       ·refine E_cf oB rfl ?_
        refine Za (EL_p (fPtr p1 2) (Zc at_25_2 m8 (PT.ptr i5)) rfl ?_)
        have vG:=Zm (part_BoxLoom_2).1 i5
        refine Ze .plain rfl (D_load (g:=n8) Try.isAgg23 Try.sizeOf23 rfl vG fun xG yG=>?_)
        refine Zo iE rfl ?_
        obtain ⟨cD,zE,h⟩:=bsome h
        refine Ze .plain rfl (Zp (g:=n8) (vs:=[xG,(.func (.func 83) #[] #[p5])]) en86 (.cons rfl (.cons rfl .nil)) (wk86 yG ⟨83,#[],#[p5],rfl,en83,fun g' w' hch a0 b0 r hu0 hr=>by exact Fn.mono (wk83 hu0 (l5.ch hch) hr) fun _ _ _ h=>RV_bool.2 h⟩ zE) fun zG oH cJ hs hr=>?_)
        have hfr:=hfr.ext hs
        have i5:=i5.ext hs
        have u2_0_66:=u2_0_66.ext hs
        have u2_1_66:=u2_1_66.ext hs
        have u2_2_66:=u2_2_66.ext hs
        have j6:=j6.ext hs
        have l5:=l5.ext hs
        subst hr
        refine Zg (.bool (cD)) rfl rfl ?_
        refine Zb ?_
        obtain rfl:=sinj h
        exact hQ _ _ ⟨zG,hfr,m8,i5,x6,j6,u2_0_66,u2_1_66,u2_2_66,g8,l5,rfl⟩
      ·clear hx
       obtain ⟨eD,hfr,jE,kE,u9,cC,u2_0_98,u2_1_98,u2_2_98,eC,iC,iA⟩:=hR
       rcases Zt h with ⟨tB,h⟩ | ⟨tB,h⟩
       ·refine E_cond_true (Eq.trans (show ev _ _ = .bool (d7) from iA) (congrArg Value.bool tB)) ?_
        refine Zf (Za (Ze .plain rfl (D_load (g:=eD) Try.isAgg102 Try.sizeOf102 eC iC fun cF dF=>?_)))
        refine Ze .plain rfl (D_storeOc (g:=eD) (v:=cF) Try.sizeOf102 u9 cC rfl dF fun pH qH hs b101 cb=>?_)
        clear cb
        have hfr:=hfr.stp hs
        refine Zg (.int .i64 (2)) rfl rfl ?_
        refine Zb (Zd (E_ret (blk_r ?_)))
        refine thn_r ?_
        obtain rfl:=sinj h
        obtain ⟨ad102,cv102,hp102,lE,cr102⟩:=ob_read Try.isAgg102 Try.sizeOf102 b101
        exact endm_ct rfl rfl ((show _=p2 from u9).trans hp102) lE (show _=.int .i64 (2) from rfl) ⟨_,hfr,_,_,rfl,cr102,rfl⟩
       ·refine E_cond_false (Eq.trans (show ev _ _ = .bool (d7) from iA) (congrArg Value.bool tB)) ?_
        exact Zu (blk_n (Zd (tE ((⟨⟨[],[],[]⟩⟩:BoxBoxLoom)) _ _ ⟨eD,hfr,jE,kE,u9,cC,u2_0_98,u2_1_98,u2_2_98,eC,iC⟩ h)))
 ·rintro o0 aH sH ⟨eF, hfr, jA, v7, gD, t8, u2_0_103, u2_1_103, u2_2_103, iD, v8⟩ h
  refine Zf (Za (Ze .plain rfl (D_makeMap (g:=eF) (encK pl_138) Bool 8043 fun jD tH i8 hs m104=>?_)))
  have hfr:=hfr.stp hs
  have v7:=v7.stp hs
  have u2_0_103:=u2_0_103.stp hs rfl
  have u2_1_103:=u2_1_103.stp hs rfl
  have u2_2_103:=u2_2_103.stp hs rfl
  have t8:=t8.stp hs rfl
  have v8:=v8.stp hs
  refine Zg i8 rfl rfl ?_
  refine Zb (Zd ?_)
  obtain ⟨l8,hx,h⟩:=bsome h
  refine E_join (fun e w=>∃ (g:Gh) ,Fr gI wI g w∧e 1=p1∧PT g.m w (x0:BoxLoom) p1∧e 2=p2∧OB 2002 g w 102 (o0:BoxBoxLoom) p2∧OSF 2002 60200 0 g w 3 102 (((o0).BoxLoom).Boxes) p2∧OSF 2002 60201 1 g w 3 102 (((o0).BoxLoom).At) p2∧OSF 2002 60202 2 g w 87 102 (((o0).BoxLoom).Shuttles) p2∧e 4=p5∧PT g.m w ((⟨x0⟩:BoxBoxLoom):BoxBoxLoom) p5∧e 6=i8∧MP (encK pl_138) 8043 g w (l8:List ((Vector Int 2) × Bool)) i8) (fun Q' hQ=>?_) (fun bH uH hR=>?_)
  ·replace h := hx
   clear hx
   refine Zf (Za (EL_p (fPtr p1 2) (Zc at_25_2 jA (PT.ptr v7)) rfl ?_))
   have iF:=Zm (part_BoxLoom_2).1 v7
   refine Ze .plain rfl (D_load (g:=jD) Try.isAgg23 Try.sizeOf23 rfl iF fun x8 kD=>?_)
   refine EL_p (.int .i64 (((x0).Shuttles).length:Int)) (P_len Try.underlying23 rfl kD) rfl ?_
   refine Zn (.int .i64 (0)) rfl rfl ?_
   refine Zb (Zd (Zr ?_))
   refine E_lp h (fun (s:(List ((Vector Int 2) × Bool)) × Int) e w=>∃ (g:Gh) ,Fr gI wI g w∧e 1=p1∧PT g.m w (x0:BoxLoom) p1∧e 2=p2∧OB 2002 g w 102 (o0:BoxBoxLoom) p2∧OSF 2002 60200 0 g w 3 102 (((o0).BoxLoom).Boxes) p2∧OSF 2002 60201 1 g w 3 102 (((o0).BoxLoom).At) p2∧OSF 2002 60202 2 g w 87 102 (((o0).BoxLoom).Shuttles) p2∧e 4=p5∧PT g.m w ((⟨x0⟩:BoxBoxLoom):BoxBoxLoom) p5∧e 6=i8∧MP (encK pl_138) 8043 g w (s.1:List ((Vector Int 2) × Bool)) i8∧e 45=x8∧RV g.m w ((x0).Shuttles:List BoxShuttle) x8∧e 46=.int .i64 ((((x0).Shuttles).length:Int))∧e 47=.int .i64 (s.2)) ⟨jD,hfr,jA,v7,gD,t8,u2_0_103,u2_1_103,u2_2_103,iD,v8,rfl,m104,rfl,kD,rfl,rfl⟩ (fun X135 vC mE=>?_)
   rintro ⟨r8,i3⟩ cH xH ⟨vB,hfr,mA,t5,pA,x5,u2_0_136,u2_1_136,u2_2_136,qA,i6,a9,y6,l9,u3,n9,q8⟩ h
   refine Zf (Za (EL_p (.bool ((decide (i3 < (((x0).Shuttles).length:Int))))) (P_int q8 n9 rfl) rfl ?_))
   refine Zb (Zd (Zf ?_))
   rcases Zt h with ⟨y9,h⟩ | ⟨y9,h⟩
   ·refine E_ct y9 rfl ?_
    refine Zu (Zd ?_)
    obtain ⟨k8,hx,h⟩:=bsome h
    refine E_join (fun e w=>∃ (g:Gh) ,Fr gI wI g w∧e 1=p1∧PT g.m w (x0:BoxLoom) p1∧e 2=p2∧OB 2002 g w 102 (o0:BoxBoxLoom) p2∧OSF 2002 60200 0 g w 3 102 (((o0).BoxLoom).Boxes) p2∧OSF 2002 60201 1 g w 3 102 (((o0).BoxLoom).At) p2∧OSF 2002 60202 2 g w 87 102 (((o0).BoxLoom).Shuttles) p2∧e 4=p5∧PT g.m w ((⟨x0⟩:BoxBoxLoom):BoxBoxLoom) p5∧e 6=i8∧MP (encK pl_138) 8043 g w (k8:List ((Vector Int 2) × Bool)) i8∧e 45=x8∧RV g.m w ((x0).Shuttles:List BoxShuttle) x8∧e 46=.int .i64 ((((x0).Shuttles).length:Int))∧e 47=.int .i64 (i3)) (fun Q' hQ=>?_) (fun dH yH hR=>?_)
    ·replace h := hx
     clear hx
     refine Zr ?_
     refine Zf (Za ?_)
     obtain ⟨v6,lC,h⟩:=bsome h
     refine EL_p (ePtr x8 i3 5) (Zh (α:=BoxShuttle) Try.underlying23 Try.sizeOf87 l9 u3 q8 lC) rfl ?_
     have nF:=PT_idx u3 lC
     refine Ze .plain rfl (D_load (g:=vB) Try.isAgg87 Try.sizeOf87 rfl nF fun oF yB=>?_)
     refine Ze .plain rfl (D_allocOc (g:=vB) 2008 (⟨0,0,0,⟨0,0⟩⟩:BoxShuttle) Try.zeroValue87 (fun m w=>⟨_,(rep_two rep_int (rep_two rep_int (rep_two rep_int (rep_two rep_int rep_int)))),rfl⟩) fun pF zH lD hs b152 cb=>?_)
     have hfr:=hfr.stp hs
     have t5:=t5.stp hs
     have u2_0_136:=u2_0_136.stp hs rfl
     have u2_1_136:=u2_1_136.stp hs rfl
     have u2_2_136:=u2_2_136.stp hs rfl
     have x5:=x5.stp hs rfl
     have i6:=i6.stp hs
     have y6:=y6.stp hs rfl
     have u3:=u3.stp hs
     have yB:=yB.stp hs
     clear cb
     refine Ze .plain rfl (D_storeOc (g:=pF) (v:=oF) Try.sizeOf87 rfl b152 rfl yB fun z9 qF hs b153 cb=>?_)
     clear cb
     have hfr:=hfr.stp hs
     have t5:=t5.stp hs
     have u2_0_136:=u2_0_136.stp hs rfl
     have u2_1_136:=u2_1_136.stp hs rfl
     have u2_2_136:=u2_2_136.stp hs rfl
     have x5:=x5.stp hs rfl
     have i6:=i6.stp hs
     have y6:=y6.stp hs rfl
     have u3:=u3.stp hs
     refine Zb (Zd (Za (Zo a9 rfl ?_)))
     refine EL_p (fPtr lD 1) (Zc at_87_1 rfl (OB.ptr b153)) rfl ?_
     refine Ze .plain rfl (D_loadF (g:=z9) part_BoxShuttle_1.1 Try.isAgg3 Try.sizeOf3 rfl b153 fun aI rF=>?_)
     obtain rfl:=Zj.1 rF
     refine EL_p (fPtr lD 2) (Zc at_87_2 rfl (OB.ptr b153)) rfl ?_
     refine Ze .plain rfl (D_loadF (g:=z9) part_BoxShuttle_2.1 Try.isAgg3 Try.sizeOf3 rfl b153 fun bI sF=>?_)
     obtain rfl:=Zj.1 sF
     have mD:RV z9.m qF (⟨List.toArray [(v6).Side,(v6).Box],rfl⟩:Vector Int 2) (.agg (setCh [[.int .i64 0],[.int .i64 0]] [(0,.int .i64 ((v6).Side)),(1,.int .i64 ((v6).Box))]).flatten.toArray):=RV_build rfl (rep_vec (flat_chunk rfl (flat_chunk rfl flat_nil)) rfl)
     generalize nE:(Value.agg (setCh [[.int .i64 0],[.int .i64 0]] [(0,.int .i64 ((v6).Side)),(1,.int .i64 ((v6).Box))]).flatten.toArray)=tF at mD
     refine EL_p tF (nE ▸ P_buildA (vs:=[(0,.int .i64 ((v6).Side)),(1,.int .i64 ((v6).Box))]) [[.int .i64 0],[.int .i64 0]] Try.underlying138 layA_138 szA_3 rfl (by simp) (.cons rfl (.cons rfl .nil)) ⟨⟨_,rfl,rfl⟩,⟨⟨_,rfl,rfl⟩,trivial⟩⟩) rfl ?_
     refine Ze .plain rfl (D_mapUpdate (g:=z9) Try.underlying151 key_138 rfl y6 (rfl.trans (encK_of pl_138 mD)) rfl (RV_bool.2 rfl) fun uF cI hs m159=>?_)
     have hfr:=hfr.stp hs
     have t5:=t5.stp hs
     have u2_0_136:=u2_0_136.stp hs rfl
     have u2_1_136:=u2_1_136.stp hs rfl
     have u2_2_136:=u2_2_136.stp hs rfl
     have x5:=x5.stp hs rfl
     have i6:=i6.stp hs
     have u3:=u3.stp hs
     refine Zb (blk_n ?_)
     obtain rfl:=sinj h
     exact hQ _ _ ⟨uF,hfr,mA,t5,pA,x5,u2_0_136,u2_1_136,u2_2_136,qA,i6,a9,m159,l9,u3,n9,q8⟩
    ·clear hx
     obtain ⟨vF,hfr,nD,oD,sD,tD,u2_0_160,u2_1_160,u2_2_160,uD,vD,xD,yD,mC,qC,rC,uC⟩:=hR
     refine Za (EL_in (.int .i64 ((w64 (i3 + (1:Int))))) uC rfl rfl rfl ?_)
     refine Zn (.int .i64 ((w64 (i3 + (1:Int))))) rfl rfl ?_
     exact Zb (Zd (mE (k8,(w64 (i3 + (1:Int)))) _ _ ⟨vF,hfr,nD,oD,sD,tD,u2_0_160,u2_1_160,u2_2_160,uD,vD,xD,yD,mC,qC,rC,rfl⟩ h))
   ·refine E_cf y9 rfl ?_
    refine E_exit ?_
    refine thn_e ?_
    refine thn_e ?_
    refine blk_hit ?_
    obtain rfl:=sinj h
    exact hQ _ _ ⟨vB,hfr,mA,t5,pA,x5,u2_0_136,u2_1_136,u2_2_136,qA,i6,a9,y6⟩
  ·clear hx
   obtain ⟨d9,hfr,zD,rA,k9,yA,u2_0_161,u2_1_161,u2_2_161,aB,dB,aE,bE⟩:=hR
   refine Zq h (fun (s:BoxBoxLoom) e w=>∃ (g:Gh) ,Fr gI wI g w∧e 2=p2∧OB 2002 g w 102 (s:BoxBoxLoom) p2∧OSF 2002 60200 0 g w 3 102 (((s).BoxLoom).Boxes) p2∧OSF 2002 60201 1 g w 3 102 (((s).BoxLoom).At) p2∧OSF 2002 60202 2 g w 87 102 (((s).BoxLoom).Shuttles) p2∧e 4=p5∧PT g.m w ((⟨x0⟩:BoxBoxLoom):BoxBoxLoom) p5) (fun X168 bD oE h=>?_) ?_
   ·refine Zf (Za (Zo aE rfl ?_))
    refine Ze .plain rfl (P_lenMap (g:=d9) Try.underlying151 rfl bE ?_)
    refine EL_p (fPtr p1 2) (Zc at_25_2 zD (PT.ptr rA)) rfl ?_
    have xF:=Zm (part_BoxLoom_2).1 rA
    refine Ze .plain rfl (D_load (g:=d9) Try.isAgg23 Try.sizeOf23 rfl xF fun dI yF=>?_)
    refine EL_p (.int .i64 (((x0).Shuttles).length:Int)) (P_len Try.underlying23 rfl yF) rfl ?_
    refine EL_p (.bool ((decide (((l8).length:Int) < (((x0).Shuttles).length:Int))))) (P_int rfl rfl rfl) rfl ?_
    refine Zb (Zd ?_)
    rcases Zt h with ⟨bA,h⟩ | ⟨bA,h⟩
    ·refine E_ct bA rfl ?_
     refine Zf (Za (Ze .plain rfl (D_load (g:=d9) Try.isAgg102 Try.sizeOf102 aB dB fun zF aG=>?_)))
     refine Ze .plain rfl (D_storeOc (g:=d9) (v:=zF) Try.sizeOf102 k9 yA rfl aG fun iI jI hs b173 cb=>?_)
     clear cb
     have hfr:=hfr.stp hs
     refine Zg (.int .i64 (6)) rfl rfl ?_
     refine Zb (Zd (E_ret (thn_r ?_)))
     obtain rfl:=sinj h
     obtain ⟨ad174,cv174,hp174,rE,cr174⟩:=ob_read Try.isAgg102 Try.sizeOf102 b173
     exact endm_ct rfl rfl ((show _=p2 from k9).trans hp174) rE (show _=.int .i64 (6) from rfl) ⟨_,hfr,_,_,rfl,cr174,rfl⟩
    ·refine E_cf bA rfl ?_
     exact Zu (Zd (oE (o0) _ _ ⟨d9,hfr,k9,yA,u2_0_161,u2_1_161,u2_2_161,aB,dB⟩ h))
   ·rintro aD gH kI ⟨cE, hfr, iB, dE, u2_0_175, u2_1_175, u2_2_175, eE, gE⟩ h
    refine Zf (Za (Ze .plain rfl (D_load (g:=cE) Try.isAgg102 Try.sizeOf102 eE gE fun bG cG=>?_)))
    refine Ze .plain rfl (D_storeOc (g:=cE) (v:=bG) Try.sizeOf102 iB dE rfl cG fun lI mI hs b177 cb=>?_)
    clear cb
    have hfr:=hfr.stp hs
    refine Zg (.int .i64 (0)) rfl rfl ?_
    refine Zb (Zd (E_ret ?_))
    obtain rfl:=sinj h
    obtain ⟨ad178,cv178,hp178,sE,cr178⟩:=ob_read Try.isAgg102 Try.sizeOf102 b177
    exact endm_ct rfl rfl ((show _=p2 from iB).trans hp178) sE (show _=.int .i64 (0) from rfl) ⟨_,hfr,_,_,rfl,cr178,rfl⟩
def f74 (x0:BoxLoom) (x1:List BoxPick):Option (BoxBoxLoom × Int):=
 (f51 x0).bind fun y5=>
 jn (σ:=BoxBoxLoom) (fun y6=>
  some (y5.1,(0:Int))
  ) fun j7=>
 bif (y5.2 != (0 : Int)) then
  some (y5.1,y5.2)
 else
  bif (decide (((x1).length : Int) > (24 : Int))) then
   some (y5.1,(5:Int))
  else
   (f96 x1 ((fun a0=>f95 a0 (y5.1)))).bind fun v6=>
   bif v6 then
    some (y5.1,(2:Int))
   else
    j7 ((⟨⟨[],[],[]⟩⟩:BoxBoxLoom))
theorem en74:Enters Try.prog 74:=enters_of Try.func74 (by kernel_rfl) rfl
theorem wk74 {gI:Gh} {wI:World} {x0:BoxLoom} {x1:List BoxPick} {up0:Value} (rp0:RV gI.m wI x0 up0) {up1:Value} (rp1:RV gI.m wI x1 up1) {r:BoxBoxLoom × Int} (h:f74 x0 x1=some r):Fn Try.prog 74 #[up0,up1] gI wI (fun m w v=>∃ y0 y1,v=.tuple #[y0,y1]∧RV m w (r.1) y0∧y1=.int .i64 (r.2)):=by
 unfold f74 at h
 refine fn_of_E Try.func74 rfl (Nat.le_of_ble_eq_true rfl) fun g0 hm hfr=>?_
 have rp0:RV g0.m wI x0 up0:=hm ▸ rp0
 have rp1:RV g0.m wI x1 up1:=hm ▸ rp1
 show E _ 31 none _ _ _ _ _
 refine Zf (Za (Ze .plain rfl (D_box (g:=g0) rfl rp0 fun g1 w1 p1 hs q1=>?_)))
 have hfr:=hfr.ext hs
 have rp1:=rp1.ext hs
 refine Ze .plain rfl (D_allocOc (g:=g1) 2004 (⟨⟨[],[],[]⟩⟩:BoxBoxLoom) Try.zeroValue102 (fun m w=>⟨_,(rep_two rep_nil (rep_two rep_nil rep_nil)),rfl⟩) fun g2 w2 p2 hs b2 cb=>?_)
 have hfr:=hfr.stp hs
 have rp1:=rp1.stp hs
 have q1:=q1.stp hs
 have o0:OSF 2004 60400 0 g2 w2 3 102 ([]:List Int) p2:=cb.osf (by rfl)
 have i3:OSF 2004 60401 1 g2 w2 3 102 ([]:List Int) p2:=cb.osf (by rfl)
 have u3:OSF 2004 60402 2 g2 w2 87 102 ([]:List BoxShuttle) p2:=cb.osf (by rfl)
 clear cb
 refine Zg (.int .i64 (0)) rfl rfl ?_
 refine Zb (Zd (Zf (Za (Ze .plain rfl (D_load (g:=g2) Try.isAgg25 Try.sizeOf25 rfl q1 fun v3 r3=>?_)))))
 obtain ⟨y5,hy5,h⟩:=bsome h
 refine Ze .plain rfl (Zp (g:=g2) (vs:=[v3]) en51 (.cons rfl .nil) (wk51 r3 hy5) fun g4 w4_ v4 hs hr=>?_)
 have hfr:=hfr.ext hs
 have rp1:=rp1.ext hs
 have o0:=o0.ext hs
 have i3:=i3.ext hs
 have u3:=u3.ext hs
 have b2:=b2.ext hs
 obtain ⟨i5,k9,rfl,l5,rfl⟩:=hr
 refine Zn (.tuple #[i5,.int .i64 (y5.2)]) rfl rfl ?_
 refine EL_p i5 (Zi rfl rfl) rfl ?_
 refine EL_p (.int .i64 (y5.2)) (Zi rfl rfl) rfl ?_
 refine Ze .plain rfl (D_allocOc (g:=g4) 2006 (⟨⟨[],[],[]⟩⟩:BoxBoxLoom) Try.zeroValue102 (fun m w=>⟨_,(rep_two rep_nil (rep_two rep_nil rep_nil)),rfl⟩) fun g6 w6 p6 hs b6 cb=>?_)
 have hfr:=hfr.stp hs
 have rp1:=rp1.stp hs
 have o0:=o0.stp hs rfl
 have i3:=i3.stp hs rfl
 have u3:=u3.stp hs rfl
 have b2:=b2.stp hs rfl
 have l5:=l5.stp hs
 have l9:OSF 2006 60600 0 g6 w6 3 102 ([]:List Int) p6:=cb.osf (by rfl)
 have n9:OSF 2006 60601 1 g6 w6 3 102 ([]:List Int) p6:=cb.osf (by rfl)
 have u9:OSF 2006 60602 2 g6 w6 87 102 ([]:List BoxShuttle) p6:=cb.osf (by rfl)
 clear cb
 refine Ze .plain rfl (D_storeOc (g:=g6) (v:=i5) Try.sizeOf102 rfl b6 rfl l5 fun g7 w7 hs b7 cb=>?_)
 clear cb
 have hfr:=hfr.stp hs
 have rp1:=rp1.stp hs
 have o0:=o0.stp hs rfl
 have i3:=i3.stp hs rfl
 have u3:=u3.stp hs rfl
 have b2:=b2.stp hs rfl
 obtain ⟨gp7,hs,qp7⟩:=OB.pub b7
 have hfr:=hfr.stp hs
 have rp1:=rp1.stp hs
 have o0:=o0.stp hs rfl
 have i3:=i3.stp hs rfl
 have u3:=u3.stp hs rfl
 have b2:=b2.stp hs rfl
 refine Zg (.int .i64 (y5.2)) rfl rfl ?_
 refine Zb (Zd (Zf (Za (EL_p ((.func (.func 95) #[] #[p6])) (P_makeFunc (capf_0_1 (show ev _ _=p6 from rfl))) rfl ?_))))
 refine Zg ((.func (.func 95) #[] #[p6])) rfl rfl ?_
 refine Zb (Zd (Zq h (fun (s:BoxBoxLoom) e w=>∃ (g:Gh) ,Fr gI wI g w∧e 4=p2∧OB 2004 g w 102 (s:BoxBoxLoom) p2∧OSF 2004 60400 0 g w 3 102 (((s).BoxLoom).Boxes) p2∧OSF 2004 60401 1 g w 3 102 (((s).BoxLoom).At) p2∧OSF 2004 60402 2 g w 87 102 (((s).BoxLoom).Shuttles) p2∧e 6=p6∧PT g.m w (y5.1:BoxBoxLoom) p6) (fun X22 j7 v7 h=>?_) ?_))
 ·refine Zr ?_
  refine Zf (Za (Zn (.int .i64 (y5.2)) rfl rfl ?_))
  refine EL_in (.bool ((y5.2 != (0:Int)))) rfl rfl rfl rfl ?_
  refine Zg (.bool ((y5.2 != (0:Int)))) rfl rfl ?_
  refine Zb (Zd ?_)
  rcases Zt h with ⟨t5,h⟩ | ⟨t5,h⟩
  ·refine E_ct t5 rfl ?_
   refine Zf (Za (Ze .plain rfl (D_load (g:=gp7) Try.isAgg102 Try.sizeOf102 rfl qp7 fun n8 q8=>?_)))
   refine Zn (.int .i64 (y5.2)) rfl rfl ?_
   refine Ze .plain rfl (D_storeOc (g:=gp7) (v:=n8) Try.sizeOf102 rfl b2 rfl q8 fun bA gA hs b25 cb=>?_)
   clear cb
   have hfr:=hfr.stp hs
   refine Zg (.int .i64 (y5.2)) rfl rfl ?_
   refine Zb (Zd (E_ret (blk_r ?_)))
   refine thn_r ?_
   obtain rfl:=sinj h
   obtain ⟨ad26,cv26,hp26,g8,cr26⟩:=ob_read Try.isAgg102 Try.sizeOf102 b25
   exact endm_ct rfl rfl ((show _=p2 from rfl).trans hp26) g8 (show _=.int .i64 (y5.2) from rfl) ⟨_,hfr,_,_,rfl,cr26,rfl⟩
  ·refine E_cf t5 rfl ?_
   refine Zf (Za (Zn up1 rfl rfl ?_))
   refine EL_p (.int .i64 ((x1).length:Int)) (P_len Try.underlying30 rfl rp1) rfl ?_
   refine EL_in (.bool ((decide (((x1).length:Int) > (24:Int))))) rfl rfl rfl rfl ?_
   refine Zg (.bool ((decide (((x1).length:Int) > (24:Int))))) rfl rfl ?_
   refine Zb (Zd ?_)
   rcases Zt h with ⟨x5,h⟩ | ⟨x5,h⟩
   ·refine E_ct x5 rfl ?_
    refine Zf (Za (Ze .plain rfl (D_load (g:=gp7) Try.isAgg102 Try.sizeOf102 rfl qp7 fun r8 t8=>?_)))
    refine Ze .plain rfl (D_storeOc (g:=gp7) (v:=r8) Try.sizeOf102 rfl b2 rfl t8 fun iA jA hs b29 cb=>?_)
    clear cb
    have hfr:=hfr.stp hs
    refine Zg (.int .i64 (5)) rfl rfl ?_
    refine Zb (Zd (E_ret (blk_r ?_)))
    refine thn_r ?_
    obtain rfl:=sinj h
    obtain ⟨ad30,cv30,hp30,i8,cr30⟩:=ob_read Try.isAgg102 Try.sizeOf102 b29
    exact endm_ct rfl rfl ((show _=p2 from rfl).trans hp30) i8 (show _=.int .i64 (5) from rfl) ⟨_,hfr,_,_,rfl,cr30,rfl⟩
   ·refine E_cf x5 rfl ?_
    refine Zf (Za (Zn up1 rfl rfl ?_))
    refine Zn ((.func (.func 95) #[] #[p6])) rfl rfl ?_
    obtain ⟨v6,k8,h⟩:=bsome h
    refine Ze .plain rfl (Zp (g:=gp7) (vs:=[up1,(.func (.func 95) #[] #[p6])]) en96 (.cons rfl (.cons rfl .nil)) (wk96 rp1 ⟨95,#[],#[p6],rfl,en95,fun g' w' hch a0 b0 r hu0 hr=>by exact Fn.mono (wk95 hu0 (qp7.ch hch) hr) fun _ _ _ h=>RV_bool.2 h⟩ k8) fun x6 y9 mA hs hr=>?_)
    have hfr:=hfr.ext hs
    have o0:=o0.ext hs
    have i3:=i3.ext hs
    have u3:=u3.ext hs
    have b2:=b2.ext hs
    have qp7:=qp7.ext hs
    subst hr
    refine Zg (.bool (v6)) rfl rfl ?_
    refine Zb (Zd ?_)
    rcases Zt h with ⟨i6,h⟩ | ⟨i6,h⟩
    ·refine E_ct i6 rfl ?_
     refine Zf (Za (Ze .plain rfl (D_load (g:=x6) Try.isAgg102 Try.sizeOf102 rfl qp7 fun v8 x8=>?_)))
     refine Ze .plain rfl (D_storeOc (g:=x6) (v:=v8) Try.sizeOf102 rfl b2 rfl x8 fun pA qA hs b35 cb=>?_)
     clear cb
     have hfr:=hfr.stp hs
     refine Zg (.int .i64 (2)) rfl rfl ?_
     refine Zb (Zd (E_ret (blk_r ?_)))
     refine thn_r ?_
     obtain rfl:=sinj h
     obtain ⟨ad36,cv36,hp36,l8,cr36⟩:=ob_read Try.isAgg102 Try.sizeOf102 b35
     exact endm_ct rfl rfl ((show _=p2 from rfl).trans hp36) l8 (show _=.int .i64 (2) from rfl) ⟨_,hfr,_,_,rfl,cr36,rfl⟩
    ·refine E_cf i6 rfl ?_
     exact Zu (blk_n (Zd (v7 ((⟨⟨[],[],[]⟩⟩:BoxBoxLoom)) _ _ ⟨x6,hfr,rfl,b2,o0,i3,u3,rfl,qp7⟩ h)))
 ·rintro y6 z9 rA ⟨m7, hfr, j6, a7, u4_0_37, u4_1_37, u4_2_37, d7, i7⟩ h
  refine Zf (Za (Ze .plain rfl (D_load (g:=m7) Try.isAgg102 Try.sizeOf102 d7 i7 fun a9 d9=>?_)))
  refine Ze .plain rfl (D_storeOc (g:=m7) (v:=a9) Try.sizeOf102 j6 a7 rfl d9 fun yA aB hs b39 cb=>?_)
  clear cb
  have hfr:=hfr.stp hs
  refine Zg (.int .i64 (0)) rfl rfl ?_
  refine Zb (Zd (E_ret ?_))
  obtain rfl:=sinj h
  obtain ⟨ad40,cv40,hp40,m8,cr40⟩:=ob_read Try.isAgg102 Try.sizeOf102 b39
  exact endm_ct rfl rfl ((show _=p2 from j6).trans hp40) m8 (show _=.int .i64 (0) from rfl) ⟨_,hfr,_,_,rfl,cr40,rfl⟩
theorem N56 {iO:Nat} {gI:Gh} {wI:World} {x0:BoxBoxLoom} {up0:Value} (rp0:RV gI.m wI x0 up0) {r:BoxMill} (h:f56 x0=some r):FnG Try.prog 56 #[up0] gI wI (fun g w v=>∃ kv,PT g.m w r v∧FC g.m w 2 kv v∧MP (encK pl_112) iO g w ([]:List (BoxPoint × Int)) kv):=by
 unfold f56 at h
 refine fnG_of_E Try.func56 rfl (Nat.le_of_ble_eq_true rfl) fun g0 hm hfr=>?_
 have rp0:RV g0.m wI x0 up0:=hm ▸ rp0
 show E _ 16 none _ _ _ _ _
 refine Zf (Za (Ze .plain rfl (D_box (g:=g0) rfl rp0 fun g1 w1 p1 hs q1=>?_)))
 have hfr:=hfr.ext hs
 refine Zg (.pointer none) rfl rfl ?_
 refine Zb (Zd (Zf ?_))
 have q2:=Zm (part_BoxBoxLoom_0).1 q1
 have q3:=Zm (part_BoxLoom_0).1 q2
 refine Zs (x:=.tmp 4) Try.isAgg22 Try.sizeOf22 q3 fun v4 r4 i7=>?_
 obtain ⟨y5,hy5,h⟩:=bsome h
 have q6:=PT_idx r4 hy5
 refine Zs (x:=.tmp 6) Try.isAgg3 Try.sizeOf3 q6 fun v7 r7 hl7=>?_
 obtain rfl:=Zj.1 r7
 have q8:=Zm (part_BoxBoxLoom_0).1 q1
 have q9:=Zm (part_BoxLoom_0).1 q8
 refine Zs (x:=.tmp 9) Try.isAgg22 Try.sizeOf22 q9 fun l5 t5 a7=>?_
 obtain ⟨y11,u3,h⟩:=bsome h
 have j7:=PT_idx t5 u3
 refine Zs (x:=.tmp 11) Try.isAgg3 Try.sizeOf3 j7 fun i8 m7 d7=>?_
 obtain rfl:=Zj.1 m7
 refine E_drawTL (g:=g1) (n:=10) [0,1,2,3,4,5,6,7,8,9] [] [0,1,2,3,4,5,6,7,8,9] rfl mixed (by kernel_rfl) trivial rfl ?_
 refine L_purL (c:=fPtr p1 0) rfl rfl .plain (Zc at_102_0 rfl (PT.ptr q1)) ?_
 refine L_purL (c:=fPtr (fPtr p1 0) 0) rfl rfl .plain (Zc at_25_0 rfl (PT.ptr q2)) ?_
 refine L_ldL (c:=v4) rfl rfl .plain (fun _ _ h=>h.ch) rfl i7 rfl ?_
 refine L_purL (c:=ePtr v4 (0:Int) 1) rfl rfl .plain (Zh (α:=Int) Try.underlying22 Try.sizeOf3 rfl r4 rfl hy5) ?_
 refine L_ldL (c:=.int .i64 (y5)) rfl rfl .plain (fun _ _ h=>h.ch) rfl hl7 rfl ?_
 refine L_purL (c:=fPtr p1 0) rfl rfl .plain (Zc at_102_0 rfl (PT.ptr q1)) ?_
 refine L_purL (c:=fPtr (fPtr p1 0) 0) rfl rfl .plain (Zc at_25_0 rfl (PT.ptr q8)) ?_
 refine L_ldL (c:=l5) rfl rfl .plain (fun _ _ h=>h.ch) rfl a7 rfl ?_
 refine L_purL (c:=ePtr l5 (1:Int) 1) rfl rfl .plain (Zh (α:=Int) Try.underlying22 Try.sizeOf3 rfl t5 rfl u3) ?_
 refine L_ldL (c:=.int .i64 (y11)) rfl rfl .plain (fun _ _ h=>h.ch) rfl d7 rfl ?_
 refine L_nl fun x5 g8 hs=>?_
 have hlt:Lt g1.m w1 x5 g8:=hs.ch
 have hfr:=hfr.ext hs
 clear hs
 refine TL_do hlt.w .plain rfl (D_makeMap (g:=x5) (encK pl_112) Int 8013 fun i3 i6 o0 hs m28=>?_)
 have hfr:=hfr.stp hs
 have hlt:=hlt.stp hs
 have j6:RV i3.m _ (⟨y5,y11,⟨⟩⟩:BoxMill) (.agg (setCh [[.int .i64 0],[.int .i64 0],[.map none]] [(0,.int .i64 (y5)),(1,.int .i64 (y11)),(2,o0)]).flatten.toArray):=RV_build rfl (rep_pair (rfl) (rep_pair (rfl) (rep_last (RV.cells (m28.ref (m:=i3.m) (w':=i6))))))
 generalize i5:(Value.agg (setCh [[.int .i64 0],[.int .i64 0],[.map none]] [(0,.int .i64 (y5)),(1,.int .i64 (y11)),(2,o0)]).flatten.toArray)=v6 at j6
 refine TL_pur hlt.w (v:=v6) (i5 ▸ P_build (vs:=[(0,.int .i64 (y5)),(1,.int .i64 (y11)),(2,o0)]) [[.int .i64 0],[.int .i64 0],[.map none]] lay_154 rfl rfl (.cons rfl (.cons rfl (.cons rfl .nil))) ⟨⟨_,rfl,rfl⟩,⟨⟨_,rfl,rfl⟩,⟨⟨_,rfl,cells_size (m28.ref (m:=i3.m) (w':=i6))⟩,trivial⟩⟩⟩) .plain rfl ?_
 refine TL_do hlt.w .plain rfl (D_boxF (g:=i3) (v:=v6) (off:=2) (u:=o0) rfl j6 (by rw [← i5]; simp only [setCh,mp_cells m28]; rfl) fun k8 l8 x6 hs y6 fc30=>?_)
 have hfr:=hfr.ext hs
 have hlt:=hlt.ext hs
 have m28:=m28.ext hs
 have hone500215:=PT.one y6
 refine TL_pur hlt.w (v:=x6) (P_assign rfl) .plain rfl ?_
 refine TL_nil hlt.w ?_
 clear hlt
 refine Zd (E_ret ?_)
 obtain rfl:=sinj h
 obtain ⟨gh,hxh,hmh,mph⟩:=MP.handm (i:=iO) hfr m28
 exact end1 rfl rfl (show _=x6 from rfl) ⟨gh,hxh,o0,hmh ▸ y6,hmh ▸ fc30,mph⟩
def f70 (x0:BoxLoom) (x1:List BoxPick):Option (BoxBoxLoom × BoxRun × Int × Int):=
 jn (σ:=BoxBoxLoom × BoxRun) (fun (x5,y6)=>
  (f54 x5 ((fun a0 a1=>f75 a0 a1))).bind fun j7=>
  (f76 j7 x1).bind fun y71=>
  some (x5,y71.1,y71.2.1,y71.2.2)
  ) fun m7=>
 (f74 x0 x1).bind fun i3=>
 bif (i3.2 != (0 : Int)) then
  some (i3.1,(⟨[],⟨(⟨List.toArray [(⟨List.toArray [0,0,0,0],rfl⟩:Vector Int 4),(⟨List.toArray [0,0,0,0],rfl⟩:Vector Int 4)],rfl⟩:Vector (Vector Int 4) 2),⟨0,0⟩⟩,0⟩:BoxRun),(0:Int),i3.2)
 else
  m7 (i3.1,(⟨[],⟨(⟨List.toArray [(⟨List.toArray [0,0,0,0],rfl⟩:Vector Int 4),(⟨List.toArray [0,0,0,0],rfl⟩:Vector Int 4)],rfl⟩:Vector (Vector Int 4) 2),⟨0,0⟩⟩,0⟩:BoxRun))
theorem en70:Enters Try.prog 70:=enters_of Try.func70 (by kernel_rfl) rfl
theorem wk70 {gI:Gh} {wI:World} {x0:BoxLoom} {x1:List BoxPick} {up0:Value} (rp0:RV gI.m wI x0 up0) {up1:Value} (rp1:RV gI.m wI x1 up1) {r:BoxBoxLoom × BoxRun × Int × Int} (h:f70 x0 x1=some r):Fn Try.prog 70 #[up0,up1] gI wI (fun m w v=>∃ y0 y1 y2 y3,v=.tuple #[y0,y1,y2,y3]∧RV m w (r.1) y0∧RV m w (r.2.1) y1∧y2=.int .i64 (r.2.2.1)∧y3=.int .i64 (r.2.2.2)):=by
 unfold f70 at h
 refine fn_of_E Try.func70 rfl (Nat.le_of_ble_eq_true rfl) fun g0 hm hfr=>?_
 have rp0:RV g0.m wI x0 up0:=hm ▸ rp0
 have rp1:RV g0.m wI x1 up1:=hm ▸ rp1
 show E _ 31 none _ _ _ _ _
 refine Zf (Za (Ze .plain rfl (D_box (g:=g0) rfl rp0 fun g1 w1 p1 hs q1=>?_)))
 have hfr:=hfr.ext hs
 have rp1:=rp1.ext hs
 refine Ze .plain rfl (D_allocOc (g:=g1) 2004 (⟨⟨[],[],[]⟩⟩:BoxBoxLoom) Try.zeroValue102 (fun m w=>⟨_,(rep_two rep_nil (rep_two rep_nil rep_nil)),rfl⟩) fun g2 w2 p2 hs b2 cb=>?_)
 have hfr:=hfr.stp hs
 have rp1:=rp1.stp hs
 have q1:=q1.stp hs
 have nB:OSF 2004 60400 0 g2 w2 3 102 ([]:List Int) p2:=cb.osf (by rfl)
 have oB:OSF 2004 60401 1 g2 w2 3 102 ([]:List Int) p2:=cb.osf (by rfl)
 have tB:OSF 2004 60402 2 g2 w2 87 102 ([]:List BoxShuttle) p2:=cb.osf (by rfl)
 clear cb
 refine Ze .plain rfl (D_allocOc (g:=g2) 2005 (⟨[],⟨(⟨List.toArray [(⟨List.toArray [0,0,0,0],rfl⟩:Vector Int 4),(⟨List.toArray [0,0,0,0],rfl⟩:Vector Int 4)],rfl⟩:Vector (Vector Int 4) 2),⟨0,0⟩⟩,0⟩:BoxRun) Try.zeroValue129 (fun m w=>⟨_,(rep_two rep_nil (rep_two (rep_two (rep_vec (flat_chunk (rep_vec (flat_chunk rep_int (flat_chunk rep_int (flat_chunk rep_int (flat_chunk rep_int flat_nil)))) rfl) (flat_chunk (rep_vec (flat_chunk rep_int (flat_chunk rep_int (flat_chunk rep_int (flat_chunk rep_int flat_nil)))) rfl) flat_nil)) rfl) (rep_two rep_int rep_int)) rep_int)),rfl⟩) fun g3 w3 p3 hs b3 cb=>?_)
 have hfr:=hfr.stp hs
 have rp1:=rp1.stp hs
 have q1:=q1.stp hs
 have b2:=b2.stp hs rfl
 have t5:OSF 2005 60500 0 g3 w3 3 129 ([]:List Int) p3:=cb.osf (by rfl)
 clear cb
 refine Zg (.int .i64 (0)) rfl rfl ?_
 refine Zg (.int .i64 (0)) rfl rfl ?_
 refine Zb (Zd (Zq h (fun (s:BoxBoxLoom × BoxRun) e w=>∃ (g:Gh) ,Fr gI wI g w∧e 1=up1∧RV g.m w (x1:List BoxPick) up1∧e 4=p2∧OB 2004 g w 102 (s.1:BoxBoxLoom) p2∧e 5=p3∧OB 2005 g w 129 (s.2:BoxRun) p3∧OSF 2005 60500 0 g w 3 129 ((s.2).thrown) p3) (fun X34 m7 i8 h=>?_) ?_))
 ·refine Zf (Za (Ze .plain rfl (D_load (g := g3) Try.isAgg25 Try.sizeOf25 rfl q1 fun y9 z9 => ?_)))
  refine Zn up1 rfl rfl ?_
  obtain ⟨i3,k8,h⟩:=bsome h
  refine Ze .plain rfl (Zp (g:=g3) (vs:=[y9,up1]) en74 (.cons rfl (.cons rfl .nil)) (wk74 z9 rp1 k8) fun bA vB cC hs hr=>?_)
  have hfr:=hfr.ext hs
  have rp1:=rp1.ext hs
  have b2:=b2.ext hs
  have t5:=t5.ext hs
  have b3:=b3.ext hs
  obtain ⟨i6,jB,rfl,a7,rfl⟩:=hr
  refine Zn (.tuple #[i6,.int .i64 (i3.2)]) rfl rfl ?_
  refine EL_p i6 (Zi rfl rfl) rfl ?_
  refine EL_p (.int .i64 (i3.2)) (Zi rfl rfl) rfl ?_
  refine Ze .plain rfl (D_storeOc (g:=bA) (v:=i6) Try.sizeOf102 rfl b2 rfl a7 fun v7 eC hs b38 cb=>?_)
  clear cb
  have hfr:=hfr.stp hs
  have rp1:=rp1.stp hs
  have t5:=t5.stp hs rfl
  have b3:=b3.stp hs rfl
  refine Zg (.int .i64 (i3.2)) rfl rfl ?_
  refine Zb (Zd (Zf (Za (Zn (.int .i64 (i3.2)) rfl rfl ?_))))
  refine EL_in (.bool ((i3.2 != (0:Int)))) rfl rfl rfl rfl ?_
  refine Zb (Zd ?_)
  rcases Zt h with ⟨x6,h⟩ | ⟨x6,h⟩
  ·refine E_ct x6 rfl ?_
   refine Zf (L_selfO Try.isAgg102 Try.sizeOf102 rfl b38 fun gA l8 m8=>?_)
   refine L_selfO Try.isAgg129 Try.sizeOf129 rfl b3 fun iA n8 q8=>?_
   refine E_drawL (g:=v7) (n:=7) [(3,(fun _ _ _=>True)),(4,(fun _ _ _=>True))] [0,1,2,3,4,5,6] rfl mixed (by kernel_rfl) (⟨fun _=>(fun _ _ _ _ _ _=>trivial),fun _=>(fun _ _ _ _ _ _=>trivial),trivial⟩) ?_
   refine L_ld (c:=gA) rfl rfl .plain (fun _ _ h=>⟨h.ch,fun b hb _=>h.below.block b hb⟩) (l8 _) rfl ?_
   refine L_ld (c:=iA) rfl rfl .plain (fun _ _ h=>⟨h.ch,fun b hb _=>h.below.block b hb⟩) (n8 _) rfl ?_
   refine L_p (.int .i64 (i3.2)) rfl rfl (Zk rfl) ?_
   refine L_do (φ:=fun _ _ _=>True) rfl rfl .plain (fun g w hd=>m8 _ _ _ g w ⟨hd.1.ch,fun b hb _=>hd.1.below.block b hb⟩ rfl rfl) (fun iC hv=>?_)
   clear hv
   refine L_do (φ:=fun _ _ _=>True) rfl rfl .plain (fun g w hd=>q8 _ _ _ g w ⟨hd.1.ch,fun b hb _=>hd.1.below.block b hb⟩ rfl rfl) (fun lC hv=>?_)
   clear hv
   refine L_p (.int .i64 (0)) rfl rfl (P_assign rfl) ?_
   refine L_p (.int .i64 (i3.2)) rfl rfl (P_assign rfl) ?_
   refine L_nl fun mC qC hs=>?_
   have hfr:=hfr.ext hs
   have b38:=b38.ext hs
   have b3:=b3.ext hs
   clear hs
   refine Zb (Zd (E_ret (thn_r ?_)))
   obtain rfl:=sinj h
   obtain ⟨ad63,cv63,hp63,r8,cr63⟩:=ob_read Try.isAgg102 Try.sizeOf102 b38
   obtain ⟨ad65,cv65,hp65,t8,cr65⟩:=ob_read Try.isAgg129 Try.sizeOf129 b3
   exact endm_cctt rfl rfl ((show _=p2 from rfl).trans hp63) r8 ((show _=p3 from rfl).trans hp65) t8 (show _=.int .i64 (0) from rfl) (show _=.int .i64 (i3.2) from rfl) ⟨_,hfr,_,_,_,_,rfl,cr63,cr65,rfl,rfl⟩
  ·refine E_cf x6 rfl ?_
   exact Zu (Zd (i8 (i3.1,(⟨[],⟨(⟨List.toArray [(⟨List.toArray [0,0,0,0],rfl⟩:Vector Int 4),(⟨List.toArray [0,0,0,0],rfl⟩:Vector Int 4)],rfl⟩:Vector (Vector Int 4) 2),⟨0,0⟩⟩,0⟩:BoxRun)) _ _ ⟨v7,hfr,rfl,rp1,rfl,b38,rfl,b3,t5⟩ h))
 ·rintro ⟨x5, y6⟩ yB rC ⟨g8, hfr, d7, j6, i5, o0, l5, u3, u5_0_66⟩ h
  refine Zf (Za (Ze .plain rfl (D_loadO (g:=g8) Try.isAgg102 Try.sizeOf102 i5 o0 fun jA mA=>?_)))
  obtain ⟨j7,v8,h⟩:=bsome h
  refine Ze .plain rfl (Zp (g:=g8) (vs:=[jA,.func (.func 75) #[] #[]]) en54 (.cons rfl (.cons rfl .nil)) (wk54 mA ⟨75,#[],#[],rfl,en75,fun g' w' hch a0 a1 b0 b1 r hu0 hu1 hr=>by obtain rfl:=Zj.1 hu0; exact Fn.mono (wk75 hu1  hr) fun _ _ _ h=>Zj.2 h⟩ v8) fun pA zB qA hs hr=>?_)
  have hfr:=hfr.ext hs
  have j6:=j6.ext hs
  have o0:=o0.ext hs
  have u3:=u3.ext hs
  have rA:=hr
  refine Zo d7 rfl ?_
  obtain ⟨y71,x8,h⟩:=bsome h
  refine Ze .plain rfl (Zp (g:=pA) (vs:=[qA,up1]) en76 (.cons rfl (.cons rfl .nil)) (wk76 rA j6 x8) fun yA aC uC hs hr=>?_)
  have hfr:=hfr.ext hs
  have o0:=o0.ext hs
  have u3:=u3.ext hs
  obtain ⟨v6,lB,mB,rfl,i7,rfl,rfl⟩:=hr
  refine Zn (.tuple #[v6,.int .i64 (y71.2.1),.int .i64 (y71.2.2)]) rfl rfl ?_
  refine EL_p v6 (Zi rfl rfl) rfl ?_
  refine EL_p (.int .i64 (y71.2.1)) (Zi rfl rfl) rfl ?_
  refine EL_p (.int .i64 (y71.2.2)) (Zi rfl rfl) rfl ?_
  refine Ze .plain rfl (D_storeOc (g:=yA) (v:=v6) Try.sizeOf129 l5 u3 rfl i7 fun aB vC hs b72 cb=>?_)
  clear cb
  have hfr:=hfr.stp hs
  have o0:=o0.stp hs rfl
  refine Zg (.int .i64 (y71.2.1)) rfl rfl ?_
  refine Zg (.int .i64 (y71.2.2)) rfl rfl ?_
  refine Zb (Zd (Zf (L_selfO Try.isAgg102 Try.sizeOf102 rfl o0 fun dB a9 d9=>?_)))
  refine L_selfO Try.isAgg129 Try.sizeOf129 rfl b72 fun iB k9 l9=>?_
  refine E_drawL (g:=aB) (n:=8) [(4,(fun _ _ _=>True)),(5,(fun _ _ _=>True))] [0,1,2,3,4,5,6,7] rfl mixed (by kernel_rfl) (⟨fun _=>(fun _ _ _ _ _ _=>trivial),fun _=>(fun _ _ _ _ _ _=>trivial),trivial⟩) ?_
  refine L_ld (c:=dB) rfl rfl .plain (fun _ _ h=>⟨h.ch,fun b hb _=>h.below.block b hb⟩) (a9 _) i5 ?_
  refine L_ld (c:=iB) rfl rfl .plain (fun _ _ h=>⟨h.ch,fun b hb _=>h.below.block b hb⟩) (k9 _) l5 ?_
  refine L_p (.int .i64 (y71.2.1)) rfl rfl (Zk rfl) ?_
  refine L_p (.int .i64 (y71.2.2)) rfl rfl (Zk rfl) ?_
  refine L_do (φ:=fun _ _ _=>True) rfl rfl .plain (fun g w hd=>d9 _ _ _ g w ⟨hd.1.ch,fun b hb _=>hd.1.below.block b hb⟩ i5 rfl) (fun aD hv=>?_)
  clear hv
  refine L_do (φ:=fun _ _ _=>True) rfl rfl .plain (fun g w hd=>l9 _ _ _ g w ⟨hd.1.ch,fun b hb _=>hd.1.below.block b hb⟩ l5 rfl) (fun bD hv=>?_)
  clear hv
  refine L_p (.int .i64 (y71.2.1)) rfl rfl (P_assign rfl) ?_
  refine L_p (.int .i64 (y71.2.2)) rfl rfl (P_assign rfl) ?_
  refine L_nl fun cD eD hs=>?_
  have hfr:=hfr.ext hs
  have o0:=o0.ext hs
  have b72:=b72.ext hs
  clear hs
  refine Zb (Zd (E_ret ?_))
  obtain rfl:=sinj h
  obtain ⟨ad95,cv95,hp95,n9,cr95⟩:=ob_read Try.isAgg102 Try.sizeOf102 o0
  obtain ⟨ad96,cv96,hp96,u9,cr96⟩:=ob_read Try.isAgg129 Try.sizeOf129 b72
  exact endm_cctt rfl rfl ((show _=p2 from i5).trans hp95) n9 ((show _=p3 from l5).trans hp96) u9 (show _=.int .i64 (y71.2.1) from rfl) (show _=.int .i64 (y71.2.2) from rfl) ⟨_,hfr,_,_,_,_,rfl,cr95,cr96,rfl,rfl⟩
def f17 (x0:BoxLoom) (x1:List Int):Option ((List BoxPick) × Int × Int × Int):=
 (f51 x0).bind fun y4=>
 jn (σ:=(List BoxPick)) (fun cE=>
  (f53 x1).bind fun x8=>
  (f54 (y4.1) ((fun a0 a1=>f55 a0 a1))).bind fun y23=>
  jn (σ:=(List BoxPick)) (fun dE=>
   (f56 (y4.1)).bind fun qA=>
   (f57 big qA (([]:List (BoxPoint × Int))) x8 ((⟨0,0,y23⟩:BoxPoint))).bind fun rA=>
   Option.bind (α:=(List BoxPick) × (List (BoxPoint × Int))) (
    lp (σ:=(List BoxPick) × BoxPoint × (List (BoxPoint × Int))) (fun uE (n9,a9,i7)=>
     jn (σ:=Unit) (fun _=>
      Option.bind (α:=(List BoxPick) × BoxPoint × (List (BoxPoint × Int))) (
       (f58 qA i7 x8 a9).bind fun nB=>
       (apnd 16 n9 (([nB.1]:List BoxPick))).bind fun vE=>
       some (vE,nB.2.1,nB.2.2)
       ) fun (u9,pA,j7)=>
      uE (u9,pA,j7)
      ) fun xE=>
     bif (decide ((a9).group < ((x8).length : Int))) then
      xE ()
     else
      some (n9,i7)
     ) big (dE,(⟨0,0,y23⟩:BoxPoint),rA.2)
    ) fun (iB,yA)=>
   some (iB,rA.1,(0:Int),(0:Int))
   ) fun kH=>
  lp (σ:=(List BoxPick) × Int) (fun lH (jB,t5)=>
   bif (decide (t5 < ((x1).length : Int))) then
    jn (σ:=(List BoxPick)) (fun lC=>
     lH (lC,(w64 (t5 + (1:Int))))
     ) fun mH=>
    (f56 (y4.1)).bind fun nH=>
    (cut x8 0 (w64 (t5 + (1:Int)))).bind fun y84=>
    (f57 big nH (([]:List (BoxPoint × Int))) y84 ((⟨0,0,y23⟩:BoxPoint))).bind fun yE=>
    bif (decide (yE.1 ≥ (1073741824 : Int))) then
     some ([],(0:Int),t5,(9:Int))
    else
     mH (jB)
   else
    kH (jB)
   ) big (cE,(0:Int))
  ) fun oH=>
 bif (y4.2 != (0 : Int)) then
  some ([],(0:Int),(0:Int),y4.2)
 else
  bif (decide (((x1).length : Int) > (24 : Int))) then
   some ([],(0:Int),(0:Int),(5:Int))
  else
   (f52 x1).bind fun eE=>
   bif (!eE) then
    some ([],(0:Int),(0:Int),(2:Int))
   else
    oH ([])
theorem en17:Enters Try.prog 17:=enters_of Try.func17 (by kernel_rfl) rfl
theorem wk17 {gI:Gh} {wI:World} {x0:BoxLoom} {x1:List Int} {up0:Value} (rp0:RV gI.m wI x0 up0) {up1:Value} (rp1:RV gI.m wI x1 up1) {r:(List BoxPick) × Int × Int × Int} (h:f17 x0 x1=some r):Fn Try.prog 17 #[up0,up1] gI wI (fun m w v=>∃ y0 y1 y2 y3,v=.tuple #[y0,y1,y2,y3]∧RV m w (r.1) y0∧y1=.int .i64 (r.2.1)∧y2=.int .i64 (r.2.2.1)∧y3=.int .i64 (r.2.2.2)):=by
 unfold f17 at h
 refine fn_of_E Try.func17 rfl (Nat.le_of_ble_eq_true rfl) fun g0 hm hfr=>?_
 have rp0:RV g0.m wI x0 up0:=hm ▸ rp0
 have rp1:RV g0.m wI x1 up1:=hm ▸ rp1
 show E _ 81 none _ _ _ _ _
 refine Zf (Za (Ze .plain rfl (D_box (g:=g0) rfl rp0 fun g1 w1 p1 hs q1=>?_)))
 have hfr:=hfr.ext hs
 have rp1:=rp1.ext hs
 refine Zg (.slice none 0 0) rfl rfl ?_
 iterate 3 refine Zg (.int .i64 (0)) rfl rfl ?_
 refine Zb (Zd (Zf (Za (Ze .plain rfl (D_load (g:=g1) Try.isAgg25 Try.sizeOf25 rfl q1 fun v2 r2=>?_)))))
 obtain ⟨y4,tJ,h⟩:=bsome h
 refine Ze .plain rfl (Zp (g:=g1) (vs:=[v2]) en51 (.cons rfl .nil) (wk51 r2 tJ) fun g3 w3_ v3 hs hr=>?_)
 have hfr:=hfr.ext hs
 have rp1:=rp1.ext hs
 obtain ⟨lD,yK,rfl,mD,rfl⟩:=hr
 refine Zn (.tuple #[lD,.int .i64 (y4.2)]) rfl rfl ?_
 refine EL_p lD (Zi rfl rfl) rfl ?_
 refine EL_p (.int .i64 (y4.2)) (Zi rfl rfl) rfl ?_
 refine Ze .plain rfl (D_allocOc (g:=g3) 2008 (⟨⟨[],[],[]⟩⟩:BoxBoxLoom) Try.zeroValue102 (fun m w=>⟨_,(rep_two rep_nil (rep_two rep_nil rep_nil)),rfl⟩) fun g5 w5 p5 hs b5 cb=>?_)
 have hfr:=hfr.stp hs
 have rp1:=rp1.stp hs
 have mD:=mD.stp hs
 have zK:OSF 2008 60800 0 g5 w5 3 102 ([]:List Int) p5:=cb.osf (by rfl)
 have aL:OSF 2008 60801 1 g5 w5 3 102 ([]:List Int) p5:=cb.osf (by rfl)
 have bL:OSF 2008 60802 2 g5 w5 87 102 ([]:List BoxShuttle) p5:=cb.osf (by rfl)
 clear cb
 refine Ze .plain rfl (D_storeOc (g:=g5) (v:=lD) Try.sizeOf102 rfl b5 rfl mD fun g6 w6 hs b6 cb=>?_)
 clear cb
 have hfr:=hfr.stp hs
 have rp1:=rp1.stp hs
 refine Zg (.int .i64 (y4.2)) rfl rfl ?_
 refine Zb (Zd (Zq h (fun (s:(List BoxPick)) e w=>∃ (g:Gh) (v4:Value),Fr gI wI g w∧e 1=up1∧RV g.m w (x1:List Int) up1∧e 4=v4∧RV g.m w (s:List BoxPick) v4∧OS 1004 g w 83 (s:List BoxPick) v4∧e 8=p5∧OB 2008 g w 102 (y4.1:BoxBoxLoom) p5) (fun X12 oH dI h=>?_) ?_))
 ·refine Zr ?_
  refine Zf (Za (Zn (.int .i64 (y4.2)) rfl rfl ?_))
  refine EL_in (.bool ((y4.2 != (0:Int)))) rfl rfl rfl rfl ?_
  refine Zg (.bool ((y4.2 != (0:Int)))) rfl rfl ?_
  refine Zb (Zd ?_)
  rcases Zt h with ⟨nD,h⟩ | ⟨nD,h⟩
  ·refine E_ct nD rfl ?_
   refine Zf (Za (Zn (.int .i64 (y4.2)) rfl rfl ?_))
   refine Zg (.slice none 0 0) rfl rfl ?_
   refine Zg (.int .i64 (0)) rfl rfl ?_
   refine Zg (.int .i64 (0)) rfl rfl ?_
   refine Zg (.int .i64 (y4.2)) rfl rfl ?_
   refine Zb (Zd (E_ret (blk_r ?_)))
   refine thn_r ?_
   obtain rfl:=sinj h
   exact end4 rfl rfl (show _=.slice none 0 0 from rfl) (show _=.int .i64 (0) from rfl) (show _=.int .i64 (0) from rfl) (show _=.int .i64 (y4.2) from rfl) ⟨_,hfr,_,_,_,_,rfl,RV_nil,rfl,rfl,rfl⟩
  ·refine E_cf nD rfl ?_
   refine Zf (Za (Zn up1 rfl rfl ?_))
   refine EL_p (.int .i64 ((x1).length:Int)) (P_len Try.underlying22 rfl rp1) rfl ?_
   refine EL_in (.bool ((decide (((x1).length:Int) > (24:Int))))) rfl rfl rfl rfl ?_
   refine Zg (.bool ((decide (((x1).length:Int) > (24:Int))))) rfl rfl ?_
   refine Zb (Zd ?_)
   rcases Zt h with ⟨oD,h⟩ | ⟨oD,h⟩
   ·refine E_ct oD rfl ?_
    refine Zf (Za (Zg (.slice none 0 0) rfl rfl ?_))
    refine Zg (.int .i64 (0)) rfl rfl ?_
    refine Zg (.int .i64 (0)) rfl rfl ?_
    refine Zg (.int .i64 (5)) rfl rfl ?_
    refine Zb (Zd (E_ret (blk_r ?_)))
    refine thn_r ?_
    obtain rfl:=sinj h
    exact end4 rfl rfl (show _=.slice none 0 0 from rfl) (show _=.int .i64 (0) from rfl) (show _=.int .i64 (0) from rfl) (show _=.int .i64 (5) from rfl) ⟨_,hfr,_,_,_,_,rfl,RV_nil,rfl,rfl,rfl⟩
   ·refine E_cf oD rfl ?_
    refine Zf (Za (Zn up1 rfl rfl ?_))
    obtain ⟨eE,iI,h⟩:=bsome h
    refine Ze .plain rfl (Zp (g:=g6) (vs:=[up1]) en52 (.cons rfl .nil) (wk52 rp1 iI) fun uJ cL qM hs hr=>?_)
    have hfr:=hfr.ext hs
    have rp1:=rp1.ext hs
    have b6:=b6.ext hs
    subst hr
    refine EL_p (.bool (!eE)) (P_not rfl) rfl ?_
    refine Zg (.bool (!eE)) rfl rfl ?_
    refine Zb (Zd ?_)
    rcases Zt h with ⟨sD,h⟩ | ⟨sD,h⟩
    ·refine E_ct sD rfl ?_
     refine Zf (Za (Zg (.slice none 0 0) rfl rfl ?_))
     refine Zg (.int .i64 (0)) rfl rfl ?_
     refine Zg (.int .i64 (0)) rfl rfl ?_
     refine Zg (.int .i64 (2)) rfl rfl ?_
     refine Zb (Zd (E_ret (blk_r ?_)))
     refine thn_r ?_
     obtain rfl:=sinj h
     exact end4 rfl rfl (show _=.slice none 0 0 from rfl) (show _=.int .i64 (0) from rfl) (show _=.int .i64 (0) from rfl) (show _=.int .i64 (2) from rfl) ⟨_,hfr,_,_,_,_,rfl,RV_nil,rfl,rfl,rfl⟩
    ·refine E_cf sD rfl ?_
     exact Zu (blk_n (Zd (dI ([]) _ _ ⟨uJ,(.slice none 0 0),hfr,rfl,rp1,rfl,RV_nil,OS.nil,rfl,b6⟩ h)))
 ·rintro cE dL rM ⟨vJ, mG, hfr, gE, m7, nG, k8, l8, iE, v7⟩ h
  refine Zf (Za (Zo gE rfl ?_))
  obtain ⟨x8,jI,h⟩:=bsome h
  refine Ze .plain rfl (Zp (g:=vJ) (vs:=[up1]) en53 (.cons rfl .nil) (wk53 m7 jI) fun pH eL a7 hs hr=>?_)
  have hfr:=hfr.ext hs
  have m7:=m7.ext hs
  have k8:=k8.ext hs
  have l8:=l8.ext hs
  have v7:=v7.ext hs
  have oB:=hr
  refine Zg a7 rfl rfl ?_
  refine Zb (Zd (Zf (Za (Ze .plain rfl (D_loadO (g:=pH) Try.isAgg102 Try.sizeOf102 iE v7 fun xJ yJ=>?_)))))
  obtain ⟨y23,kI,h⟩:=bsome h
  refine Ze .plain rfl (Zp (g:=pH) (vs:=[xJ,.func (.func 55) #[] #[]]) en54 (.cons rfl (.cons rfl .nil)) (wk54 yJ ⟨55,#[],#[],rfl,en55,fun g' w' hch a0 a1 b0 b1 r hu0 hu1 hr=>by obtain rfl:=Zj.1 hu0; exact Fn.mono (wk55 hu1  hr) fun _ _ _ h=>Zj.2 h⟩ kI) fun qH gL zE hs hr=>?_)
  have hfr:=hfr.ext hs
  have m7:=m7.ext hs
  have k8:=k8.ext hs
  have l8:=l8.ext hs
  have v7:=v7.ext hs
  have oB:=oB.ext hs
  have sH:=hr
  have jE:RV qH.m _ (⟨0,0,y23⟩:BoxPoint) (.agg (setCh [[.int .i64 0],[.int .i64 0],[.int .i64 0,.int .i64 0,.int .i64 0,.int .i64 0,.int .i64 0,.int .i64 0,.int .i64 0,.int .i64 0,.int .i64 0,.int .i64 0]] [(2,zE)]).flatten.toArray):=RV_build rfl (rep_pair (rep_int) (rep_pair (rep_int) (rep_last (RV.cells sH))))
  generalize lI:(Value.agg (setCh [[.int .i64 0],[.int .i64 0],[.int .i64 0,.int .i64 0,.int .i64 0,.int .i64 0,.int .i64 0,.int .i64 0,.int .i64 0,.int .i64 0,.int .i64 0,.int .i64 0]] [(2,zE)]).flatten.toArray)=tH at jE
  refine EL_p tH (lI ▸ P_build (vs:=[(2,zE)]) [[.int .i64 0],[.int .i64 0],[.int .i64 0,.int .i64 0,.int .i64 0,.int .i64 0,.int .i64 0,.int .i64 0,.int .i64 0,.int .i64 0,.int .i64 0,.int .i64 0]] lay_112 rfl rfl (.cons rfl .nil) ⟨⟨_,rfl,cells_size sH⟩,trivial⟩) rfl ?_
  refine Ze .plain rfl (D_allocOc (g:=qH) 2010 (⟨0,0,⟨(⟨List.toArray [(⟨List.toArray [0,0,0,0],rfl⟩:Vector Int 4),(⟨List.toArray [0,0,0,0],rfl⟩:Vector Int 4)],rfl⟩:Vector (Vector Int 4) 2),⟨0,0⟩⟩⟩:BoxPoint) Try.zeroValue112 (fun m w=>⟨_,(rep_two rep_int (rep_two rep_int (rep_two (rep_vec (flat_chunk (rep_vec (flat_chunk rep_int (flat_chunk rep_int (flat_chunk rep_int (flat_chunk rep_int flat_nil)))) rfl) (flat_chunk (rep_vec (flat_chunk rep_int (flat_chunk rep_int (flat_chunk rep_int (flat_chunk rep_int flat_nil)))) rfl) flat_nil)) rfl) (rep_two rep_int rep_int)))),rfl⟩) fun zJ sM cC hs b25 cb=>?_)
  have hfr:=hfr.stp hs
  have m7:=m7.stp hs
  have k8:=k8.stp hs
  have l8:=l8.stp hs rfl
  have v7:=v7.stp hs rfl
  have oB:=oB.stp hs
  have jE:=jE.stp hs
  clear cb
  refine Ze .plain rfl (D_storeOc (g:=zJ) (v:=tH) Try.sizeOf112 rfl b25 rfl jE fun aK tM hs b26 cb=>?_)
  clear cb
  have hfr:=hfr.stp hs
  have m7:=m7.stp hs
  have k8:=k8.stp hs
  have l8:=l8.stp hs rfl
  have v7:=v7.stp hs rfl
  have oB:=oB.stp hs
  refine Zb (Zd (Zq h (fun (s:(List BoxPick)) e w=>∃ (g:Gh) (v4:Value),Fr gI wI g w∧e 4=v4∧RV g.m w (s:List BoxPick) v4∧OS 1004 g w 83 (s:List BoxPick) v4∧e 8=p5∧OB 2008 g w 102 (y4.1:BoxBoxLoom) p5∧e 9=a7∧RV g.m w (x8:List (List Int)) a7∧e 10=cC∧OB 2010 g w 112 ((⟨0,0,y23⟩:BoxPoint):BoxPoint) cC) (fun X58 kH mI h=>?_) ?_))
  ·refine Zf (Za (Zo gE rfl ?_))
   refine EL_p (.int .i64 ((x1).length:Int)) (P_len Try.underlying22 rfl m7) rfl ?_
   refine Zn (.int .i64 (0)) rfl rfl ?_
   refine Zb (Zd (Zr ?_))
   refine E_lp h (fun (s:(List BoxPick) × Int) e w=>∃ (g:Gh) (v4:Value),Fr gI wI g w∧e 4=v4∧RV g.m w (s.1:List BoxPick) v4∧OS 1004 g w 83 (s.1:List BoxPick) v4∧e 8=p5∧OB 2008 g w 102 (y4.1:BoxBoxLoom) p5∧e 9=a7∧RV g.m w (x8:List (List Int)) a7∧e 10=cC∧OB 2010 g w 112 ((⟨0,0,y23⟩:BoxPoint):BoxPoint) cC∧e 39=.int .i64 (((x1).length:Int))∧e 40=.int .i64 (s.2)) ⟨aK,(mG),hfr,nG,k8,l8,iE,v7,rfl,oB,rfl,b26,rfl,rfl⟩ (fun X59 lH nI=>?_)
   rintro ⟨jB,t5⟩ iL bK ⟨cF,kE,hfr,lE,t8,v8,mC,m8,qC,g8,tB,y6,uC,vB⟩ h
   refine Zf (Za (EL_in (.bool ((decide (t5 < ((x1).length:Int))))) vB uC rfl rfl ?_))
   refine Zb (Zd (Zf ?_))
   rcases Zt h with ⟨tD,h⟩ | ⟨tD,h⟩
   ·refine E_ct tD rfl ?_
    refine Zu (Zd (Zq h (fun (s:(List BoxPick)) e w=>∃ (g:Gh) (v4:Value),Fr gI wI g w∧e 4=v4∧RV g.m w (s:List BoxPick) v4∧OS 1004 g w 83 (s:List BoxPick) v4∧e 8=p5∧OB 2008 g w 102 (y4.1:BoxBoxLoom) p5∧e 9=a7∧RV g.m w (x8:List (List Int)) a7∧e 10=cC∧OB 2010 g w 112 ((⟨0,0,y23⟩:BoxPoint):BoxPoint) cC∧e 39=.int .i64 (((x1).length:Int))∧e 40=.int .i64 (t5)) (fun X76 mH pI h=>?_) ?_))
    ·refine Zr ?_
     refine Zf (Za (Zo vB rfl ?_))
     refine Zg (.int .i64 (t5)) rfl rfl ?_
     refine Zb (Zd (Zf (L_loadO0 (x:=.tmp 8) Try.isAgg102 Try.sizeOf102 m8 fun uH dF qI=>?_)))
     obtain ⟨nH,rI,h⟩:=bsome h
     obtain ⟨y84,eF,h⟩:=bsome h
     have iF:=RV_cut g8 eF
     refine L_loadO0 (x:=.tmp 10) Try.isAgg112 Try.sizeOf112 y6 fun xH nF sI=>?_
     refine E_drawC (g:=cF) (w:=bK) (n:=7) [0,2,3,4,5,6] [2008,2010] [0,1,2,3,4,5,6] rfl mixed (by kernel_rfl) fun w_c80 hs hlt=>?_
     have hfr:=hfr.ext hs
     have t8:=t8.ext hs
     have v8:=v8.ext hs
     have m8:=m8.ext hs
     have g8:=g8.ext hs
     have y6:=y6.ext hs
     clear hs
     refine CH_ldO (n:=2008) (c:=uH) rfl rfl .plain qI mC rfl ?_
     have dF:=dF.ch hlt.1
     refine CH_do rfl rfl .plain (D_callG (g:=cF) (vs:=[uH]) en56 (.cons rfl .nil) (N56 (iO:=8044) dF rI) fun cK jL dK hs hr=>?_)
     have hfr:=hfr.ext hs
     have hlt:=hlt.ext hs
     have t8:=t8.ext hs
     have v8:=v8.ext hs
     have m8:=m8.ext hs
     have g8:=g8.ext hs
     have y6:=y6.ext hs
     obtain ⟨kv82,yH,fc82,m82⟩:=hr
     have hone500244:=PT.one yH
     refine ⟨hlt.toW,?_⟩
     refine CH_pur (c:=a7) rfl rfl .plain (Zk qC) ?_
     refine CH_pur (c:=.int .i64 (t5)) rfl rfl .plain (Zk rfl) ?_
     refine CH_pur (c:=.int .i64 ((w64 (t5 + (1:Int))))) rfl rfl .plain (P_int rfl rfl rfl) ?_
     refine CH_pur (c:=(cutV a7 (Int.toNat 0) (Int.toNat (w64 (t5 + (1:Int)))) 1)) rfl rfl .plain (P_slice Try.underlying42 Try.sizeOf22 rfl g8 rfl rfl eF) ?_
     have iF:=iF.ch hlt.1
     refine CH_ldO (n:=2010) (c:=xH) rfl rfl .plain sI tB rfl ?_
     have nF:=nF.ch hlt.1
     refine CH_nil ?_
     clear hlt
     obtain ⟨yE,tI,h⟩:=bsome h
     refine Ze .plain rfl (D_callM (g:=cK) (i:=8044) (vs:=[dK,(cutV a7 (Int.toNat 0) (Int.toNat (w64 (t5 + (1:Int)))) 1),xH]) en57 (.cons rfl (.cons rfl (.cons rfl .nil))) (wk57 big yH fc82 m82 iF nF tI) fun eK lL uM hs hr=>?_)
     obtain ⟨hrv,b87⟩:=hr
     have hfr:=hfr.stp hs
     have t8:=t8.stp hs
     have v8:=v8.stp hs rfl
     have m8:=m8.stp hs rfl
     have g8:=g8.stp hs
     have y6:=y6.stp hs rfl
     subst hrv
     refine EL_in (.bool ((decide (yE.1 ≥ (1073741824:Int))))) rfl rfl rfl rfl ?_
     refine Zb (Zd ?_)
     rcases Zt h with ⟨uD,h⟩ | ⟨uD,h⟩
     ·refine E_ct uD rfl ?_
      refine Zf (Za (Zn (.int .i64 (t5)) rfl rfl ?_))
      refine Zg (.slice none 0 0) rfl rfl ?_
      refine Zg (.int .i64 (0)) rfl rfl ?_
      refine Zg (.int .i64 (t5)) rfl rfl ?_
      refine Zg (.int .i64 (9)) rfl rfl ?_
      refine Zb (Zd (E_ret (blk_r ?_)))
      refine thn_r ?_
      refine thn_r ?_
      refine blk_r ?_
      refine thn_r ?_
      obtain rfl:=sinj h
      exact end4 rfl rfl (show _=.slice none 0 0 from rfl) (show _=.int .i64 (0) from rfl) (show _=.int .i64 (t5) from rfl) (show _=.int .i64 (9) from rfl) ⟨_,hfr,_,_,_,_,rfl,RV_nil,rfl,rfl,rfl⟩
     ·refine E_cf uD rfl ?_
      exact Zu (blk_n (Zd (pI (jB) _ _ ⟨eK,(kE),hfr,lE,t8,v8,mC,m8,qC,g8,tB,y6,uC,vB⟩ h)))
    ·rintro lC mL vM ⟨lK, oG, hfr, pG, qG, rG, sG, tG, uG, vG, oF, pF, qF, rF⟩ h
     refine Za (EL_in (.int .i64 ((w64 (t5 + (1:Int))))) rF rfl rfl rfl ?_)
     refine Zn (.int .i64 ((w64 (t5 + (1:Int))))) rfl rfl ?_
     exact Zb (Zd (nI (lC,(w64 (t5 + (1:Int)))) _ _ ⟨lK,(oG),hfr,pG,qG,rG,sG,tG,uG,vG,oF,pF,qF,rfl⟩ h))
   ·refine E_cf tD rfl ?_
    refine E_exit ?_
    refine thn_e ?_
    refine thn_e ?_
    refine blk_hit ?_
    exact Zd (mI (jB) _ _ ⟨cF,(kE),hfr,lE,t8,v8,mC,m8,qC,g8,tB,y6⟩ h)
  ·rintro dE nL xM ⟨zH, xG, hfr, yG, n8, q8, zG, aH, mE, i8, vC, d9⟩ h
   refine Zf (Za (Ze .plain rfl (D_loadO (g:=zH) Try.isAgg102 Try.sizeOf102 zG aH fun mK nK=>?_)))
   obtain ⟨qA,uI,h⟩:=bsome h
   refine Ze .plain rfl (D_callG (g:=zH) (vs:=[mK]) en56 (.cons rfl .nil) (N56 (iO:=8055) nK uI) fun aI oL d7 hs hr=>?_)
   have hfr:=hfr.ext hs
   have n8:=n8.ext hs
   have q8:=q8.ext hs
   have i8:=i8.ext hs
   have d9:=d9.ext hs
   obtain ⟨kv93,aB,fc93,m93⟩:=hr
   have hone500255:=PT.one aB
   refine Zg d7 rfl rfl ?_
   refine Zb (Zd (Zf (Za (Zn d7 rfl rfl ?_))))
   refine Zo mE rfl ?_
   refine Ze .plain rfl (D_loadO (g:=aI) Try.isAgg112 Try.sizeOf112 vC d9 fun oK pK=>?_)
   obtain ⟨rA,vI,h⟩:=bsome h
   refine Ze .plain rfl (D_callM (g:=aI) (i:=8055) (vs:=[d7,a7,oK]) en57 (.cons rfl (.cons rfl (.cons rfl .nil))) (wk57 big aB fc93 m93 i8 pK vI) fun bI pL yM hs hr=>?_)
   obtain ⟨hrv,b96⟩:=hr
   have hfr:=hfr.stp hs
   have n8:=n8.stp hs
   have q8:=q8.stp hs rfl
   have i8:=i8.stp hs
   have d9:=d9.stp hs rfl
   have aB:=aB.stp hs
   have fc93:=fc93.stp hs
   subst hrv
   refine Zg (.int .i64 (rA.1)) rfl rfl ?_
   refine Zb (Zd ?_)
   obtain ⟨⟨iB,yA⟩,hx,h⟩:=bsome h
   refine E_join (fun e w=>∃ (g:Gh) (v4:Value),Fr gI wI g w∧e 4=v4∧RV g.m w (iB:List BoxPick) v4∧OS 1004 g w 83 (iB:List BoxPick) v4∧e 5=.int .i64 (rA.1)∧PT g.m w (qA:BoxMill) d7∧MP (encK pl_112) 8055 g w (yA:List (BoxPoint × Int)) kv93∧FC g.m w 2 kv93 d7) (fun Q' hQ=>?_) (fun sK qL hR=>?_)
   ·replace h := hx
    clear hx
    refine Zf (Za (Ze .plain rfl (D_loadO (g:=bI) Try.isAgg112 Try.sizeOf112 vC d9 fun xI vD=>?_)))
    refine Ze .plain rfl (D_allocOc (g:=bI) 2013 (⟨0,0,⟨(⟨List.toArray [(⟨List.toArray [0,0,0,0],rfl⟩:Vector Int 4),(⟨List.toArray [0,0,0,0],rfl⟩:Vector Int 4)],rfl⟩:Vector (Vector Int 4) 2),⟨0,0⟩⟩⟩:BoxPoint) Try.zeroValue112 (fun m w=>⟨_,(rep_two rep_int (rep_two rep_int (rep_two (rep_vec (flat_chunk (rep_vec (flat_chunk rep_int (flat_chunk rep_int (flat_chunk rep_int (flat_chunk rep_int flat_nil)))) rfl) (flat_chunk (rep_vec (flat_chunk rep_int (flat_chunk rep_int (flat_chunk rep_int (flat_chunk rep_int flat_nil)))) rfl) flat_nil)) rfl) (rep_two rep_int rep_int)))),rfl⟩) fun yI rL zI hs b160 cb=>?_)
    have hfr:=hfr.stp hs
    have n8:=n8.stp hs
    have q8:=q8.stp hs rfl
    have i8:=i8.stp hs
    have aB:=aB.stp hs
    have b96:=b96.stp hs rfl
    have fc93:=fc93.stp hs
    have vD:=vD.stp hs
    clear cb
    refine Ze .plain rfl (D_storeOc (g:=yI) (v:=xI) Try.sizeOf112 rfl b160 rfl vD fun aJ tL hs b161 cb=>?_)
    clear cb
    have hfr:=hfr.stp hs
    have n8:=n8.stp hs
    have q8:=q8.stp hs rfl
    have i8:=i8.stp hs
    have aB:=aB.stp hs
    have b96:=b96.stp hs rfl
    have fc93:=fc93.stp hs
    refine Zb (Zd (Zr ?_))
    refine E_lp h (fun (s:(List BoxPick) × BoxPoint × (List (BoxPoint × Int))) e w=>∃ (g:Gh) (v4 cI:Value),Fr gI wI g w∧e 4=v4∧RV g.m w (s.1:List BoxPick) v4∧OS 1004 g w 83 (s.1:List BoxPick) v4∧e 5=.int .i64 (rA.1)∧e 9=a7∧RV g.m w (x8:List (List Int)) a7∧e 12=d7∧PT g.m w (qA:BoxMill) d7∧e 13=cI∧OB 2013 g w 112 (s.2.1:BoxPoint) cI∧PT g.m w (qA:BoxMill) d7∧MP (encK pl_112) 8055 g w (s.2.2:List (BoxPoint × Int)) kv93∧FC g.m w 2 kv93 d7) ⟨aJ,(xG),(zI),hfr,yG,n8,q8,rfl,mE,i8,rfl,aB,rfl,b161,aB,b96,fc93⟩ (fun X162 uE bH=>?_)
    rintro ⟨n9,a9,i7⟩ tK uL ⟨xD,y9,k9,hfr,aD,bD,cD,eD,gD,iD,nE,oE,eC,lB,z9,dB,bA⟩ h
    refine Zq h (fun (s:Unit) e w=>∃ (g:Gh) ,Fr gI wI g w∧e 4=y9∧RV g.m w (n9:List BoxPick) y9∧OS 1004 g w 83 (n9:List BoxPick) y9∧e 5=.int .i64 (rA.1)∧e 9=a7∧RV g.m w (x8:List (List Int)) a7∧e 12=d7∧PT g.m w (qA:BoxMill) d7∧e 13=k9∧OB 2013 g w 112 (a9:BoxPoint) k9∧PT g.m w (qA:BoxMill) d7∧MP (encK pl_112) 8055 g w (i7:List (BoxPoint × Int)) kv93∧FC g.m w 2 kv93 d7) (fun X167 xE cH h=>?_) ?_
    ·refine Zf (Za (EL_p (fPtr k9 0) (Zc at_112_0 eC (OB.ptr lB)) rfl ?_))
     refine Ze .plain rfl (D_loadF (g:=xD) part_BoxPoint_0.1 Try.isAgg3 Try.sizeOf3 rfl lB fun vL bJ=>?_)
     obtain rfl:=Zj.1 bJ
     refine Zo gD rfl ?_
     refine EL_p (.int .i64 ((x8).length:Int)) (P_len Try.underlying42 rfl iD) rfl ?_
     refine EL_in (.bool ((decide ((a9).group < ((x8).length:Int))))) rfl rfl rfl rfl ?_
     refine Zb (Zd ?_)
     rcases Zt h with ⟨rC,h⟩ | ⟨rC,h⟩
     ·refine E_ct rC rfl ?_
      exact Zu (Zd (cH () _ _ ⟨xD,hfr,aD,bD,cD,eD,gD,iD,nE,oE,eC,lB,z9,dB,bA⟩ h))
     ·refine E_cf rC rfl ?_
      refine E_exit ?_
      refine thn_e ?_
      refine thn_e ?_
      refine blk_hit ?_
      obtain ⟨rfl,rfl⟩:=pairs2 h
      exact hQ _ _ ⟨xD,(y9),hfr,aD,bD,cD,eD,z9,dB,bA⟩
    ·rintro _ uK xL ⟨sF, hfr, tF, x5, i6, uF, jD, l5, iC, u3, mB, i5, i3, aC, o0⟩ h
     obtain ⟨⟨u9,pA,j7⟩,hx,h⟩:=bsome h
     refine E_join (fun e w=>∃ (g:Gh) (v4:Value),Fr gI wI g w∧e 4=v4∧RV g.m w (u9:List BoxPick) v4∧OS 1004 g w 83 (u9:List BoxPick) v4∧e 5=.int .i64 (rA.1)∧e 9=a7∧RV g.m w (x8:List (List Int)) a7∧e 12=d7∧PT g.m w (qA:BoxMill) d7∧e 13=k9∧OB 2013 g w 112 (pA:BoxPoint) k9∧PT g.m w (qA:BoxMill) d7∧MP (encK pl_112) 8055 g w (j7:List (BoxPoint × Int)) kv93∧FC g.m w 2 kv93 d7) (fun Q' hQ=>?_) (fun vK yL hR=>?_)
     ·replace h := hx
      clear hx
      refine Zr ?_
      refine Zf (Za (Zo iC rfl ?_))
      refine Zo jD rfl ?_
      refine Ze .plain rfl (D_loadO (g:=sF) Try.isAgg112 Try.sizeOf112 mB i5 fun cJ dJ=>?_)
      obtain ⟨nB,dH,h⟩:=bsome h
      refine Ze .plain rfl (D_callM (g:=sF) (i:=8055) (vs:=[d7,a7,cJ]) en58 (.cons rfl (.cons rfl (.cons rfl .nil))) (wk58 u3 o0 aC l5 dJ dH) fun eJ xK zL hs hr=>?_)
      obtain ⟨hrv,b195⟩:=hr
      have hfr:=hfr.stp hs
      have x5:=x5.stp hs
      have i6:=i6.stp hs rfl
      have l5:=l5.stp hs
      have u3:=u3.stp hs
      have i5:=i5.stp hs rfl
      have i3:=i3.stp hs
      have o0:=o0.stp hs
      obtain ⟨yB,zB,rfl,gA,r8⟩:=hrv
      refine Zn (.tuple #[yB,zB]) rfl rfl ?_
      refine EL_p yB (Zi rfl rfl) rfl ?_
      refine EL_p zB (Zi rfl rfl) rfl ?_
      refine Ze .plain rfl (D_allocOc (g:=eJ) 2014 (⟨0,0⟩:BoxPick) Try.zeroValue83 (fun m w=>⟨_,(rep_two rep_int rep_int),rfl⟩) fun gJ aM bM hs b197 cb=>?_)
      have hfr:=hfr.stp hs
      have x5:=x5.stp hs
      have i6:=i6.stp hs rfl
      have l5:=l5.stp hs
      have u3:=u3.stp hs
      have i5:=i5.stp hs rfl
      have i3:=i3.stp hs
      have b195:=b195.stp hs rfl
      have o0:=o0.stp hs
      have gA:=gA.stp hs
      have r8:=r8.stp hs
      clear cb
      refine Ze .plain rfl (D_allocOc (g:=gJ) 2015 (⟨0,0,⟨(⟨List.toArray [(⟨List.toArray [0,0,0,0],rfl⟩:Vector Int 4),(⟨List.toArray [0,0,0,0],rfl⟩:Vector Int 4)],rfl⟩:Vector (Vector Int 4) 2),⟨0,0⟩⟩⟩:BoxPoint) Try.zeroValue112 (fun m w=>⟨_,(rep_two rep_int (rep_two rep_int (rep_two (rep_vec (flat_chunk (rep_vec (flat_chunk rep_int (flat_chunk rep_int (flat_chunk rep_int (flat_chunk rep_int flat_nil)))) rfl) (flat_chunk (rep_vec (flat_chunk rep_int (flat_chunk rep_int (flat_chunk rep_int (flat_chunk rep_int flat_nil)))) rfl) flat_nil)) rfl) (rep_two rep_int rep_int)))),rfl⟩) fun iJ cM dM hs b198 cb=>?_)
      have hfr:=hfr.stp hs
      have x5:=x5.stp hs
      have i6:=i6.stp hs rfl
      have l5:=l5.stp hs
      have u3:=u3.stp hs
      have i5:=i5.stp hs rfl
      have i3:=i3.stp hs
      have b195:=b195.stp hs rfl
      have o0:=o0.stp hs
      have gA:=gA.stp hs
      have r8:=r8.stp hs
      have b197:=b197.stp hs rfl
      clear cb
      refine Ze .plain rfl (D_storeOc (g:=iJ) (v:=yB) Try.sizeOf83 rfl b197 rfl gA fun jJ eM hs b199 cb=>?_)
      clear cb
      have hfr:=hfr.stp hs
      have x5:=x5.stp hs
      have i6:=i6.stp hs rfl
      have l5:=l5.stp hs
      have u3:=u3.stp hs
      have i5:=i5.stp hs rfl
      have i3:=i3.stp hs
      have b195:=b195.stp hs rfl
      have o0:=o0.stp hs
      have r8:=r8.stp hs
      have b198:=b198.stp hs rfl
      refine Ze .plain rfl (D_storeOc (g:=jJ) (v:=zB) Try.sizeOf112 rfl b198 rfl r8 fun vF kJ hs b200 cb=>?_)
      clear cb
      have hfr:=hfr.stp hs
      have x5:=x5.stp hs
      have i6:=i6.stp hs rfl
      have l5:=l5.stp hs
      have u3:=u3.stp hs
      have i5:=i5.stp hs rfl
      have i3:=i3.stp hs
      have b195:=b195.stp hs rfl
      have o0:=o0.stp hs
      have b199:=b199.stp hs rfl
      refine Zb (Zd (L_loadO0 (x:=.tmp 14) Try.isAgg83 Try.sizeOf83 b199 fun xF yD gH=>?_))
      obtain ⟨vE,iH,h⟩:=bsome h
      refine L_loadO0 (x:=.tmp 15) Try.isAgg112 Try.sizeOf112 b200 fun yF zD jH=>?_
      refine E_drawC (g:=vF) (w:=kJ) (n:=6) [0,1,4,5] [2014,2015] [0,1,2,3,4,5] rfl mixed (by kernel_rfl) fun w_c209 hs hlt=>?_
      have hfr:=hfr.ext hs
      have x5:=x5.ext hs
      have i6:=i6.ext hs
      have l5:=l5.ext hs
      have u3:=u3.ext hs
      have i5:=i5.ext hs
      have i3:=i3.ext hs
      have b195:=b195.ext hs
      have o0:=o0.ext hs
      clear hs
      refine CH_pur (c:=y9) rfl rfl .plain (Zk tF) ?_
      refine CH_ldO (n:=2014) (c:=xF) rfl rfl .plain gH rfl rfl ?_
      have yD:=yD.ch hlt.1
      refine CH_do rfl rfl .plain (D_buildSlice (g:=vF) 3075 (xs:=([nB.1]:List BoxPick)) (vs:=[xF]) Try.underlying30 Try.sizeOf83 Try.zeroValue83 rfl rfl (.cons rfl .nil) (RVs.cons yD RVs.nil) rfl rfl fun lJ iM jM hs o211 mJ hxt hfl=>?_)
      have hfr:=hfr.stp hs
      have hlt:=hlt.stp hs
      have x5:=x5.stp hs
      have i6:=i6.stp hs rfl
      have l5:=l5.stp hs
      have u3:=u3.stp hs
      have i5:=i5.stp hs rfl
      have i3:=i3.stp hs
      have b195:=b195.stp hs rfl
      have o0:=o0.stp hs
      refine ⟨hlt.toW,?_⟩
      refine CH_do rfl rfl .plain (D_append (g:=lJ) (i:=1004) Try.underlying30 info_83 rfl rfl i6 x5 rfl mJ iH fun nJ kM zF hs o212 aE _=>?_)
      have hfr:=hfr.stp hs
      have hlt:=hlt.stp hs
      have l5:=l5.stp hs
      have u3:=u3.stp hs
      have i5:=i5.stp hs rfl
      have i3:=i3.stp hs
      have b195:=b195.stp hs rfl
      have o0:=o0.stp hs
      refine ⟨hlt.toW,?_⟩
      refine CH_ldO (n:=2015) (c:=yF) rfl rfl .plain jH rfl rfl ?_
      have zD:=zD.ch hlt.1
      refine CH_pur (c:=zF) rfl rfl .plain (P_assign rfl) ?_
      refine CH_nil ?_
      clear hlt
      refine Ze .plain rfl (D_storeOc (g:=nJ) (v:=yF) Try.sizeOf112 mB i5 rfl zD fun oJ mM hs b215 cb=>?_)
      clear cb
      have hfr:=hfr.stp hs
      have aE:=aE.stp hs
      have o212:=o212.stp hs rfl
      have l5:=l5.stp hs
      have u3:=u3.stp hs
      have i3:=i3.stp hs
      have b195:=b195.stp hs rfl
      have o0:=o0.stp hs
      refine Zb (blk_n ?_)
      obtain ⟨rfl,rfl,rfl⟩:=pairs3 h
      exact hQ _ _ ⟨oJ,(zF),hfr,rfl,aE,o212,uF,jD,l5,iC,u3,mB,b215,i3,b195,o0⟩
     ·clear hx
      obtain ⟨aG,bG,hfr,cG,iA,jA,dG,eG,mA,rE,l9,sE,tE,j6,x6,v6⟩:=hR
      refine Zf (Za (Ze .plain rfl (D_loadO (g:=aG) Try.isAgg112 Try.sizeOf112 sE tE fun pJ bE=>?_)))
      refine Zb (Zd (Za (Ze .plain rfl (D_allocOc (g:=aG) 2013 (⟨0,0,⟨(⟨List.toArray [(⟨List.toArray [0,0,0,0],rfl⟩:Vector Int 4),(⟨List.toArray [0,0,0,0],rfl⟩:Vector Int 4)],rfl⟩:Vector (Vector Int 4) 2),⟨0,0⟩⟩⟩:BoxPoint) Try.zeroValue112 (fun m w=>⟨_,(rep_two rep_int (rep_two rep_int (rep_two (rep_vec (flat_chunk (rep_vec (flat_chunk rep_int (flat_chunk rep_int (flat_chunk rep_int (flat_chunk rep_int flat_nil)))) rfl) (flat_chunk (rep_vec (flat_chunk rep_int (flat_chunk rep_int (flat_chunk rep_int (flat_chunk rep_int flat_nil)))) rfl) flat_nil)) rfl) (rep_two rep_int rep_int)))),rfl⟩) fun qJ nM rJ hs b218 cb=>?_))))
      have hfr:=hfr.stp hs
      have iA:=iA.stp hs
      have jA:=jA.stp hs rfl
      have mA:=mA.stp hs
      have l9:=l9.stp hs
      have j6:=j6.stp hs
      have x6:=x6.stp hs rfl
      have v6:=v6.stp hs
      have bE:=bE.stp hs
      clear cb
      refine Ze .plain rfl (D_storeOc (g:=qJ) (v:=pJ) Try.sizeOf112 rfl b218 rfl bE fun sJ oM hs b219 cb=>?_)
      clear cb
      have hfr:=hfr.stp hs
      have iA:=iA.stp hs
      have jA:=jA.stp hs rfl
      have mA:=mA.stp hs
      have l9:=l9.stp hs
      have j6:=j6.stp hs
      have x6:=x6.stp hs rfl
      have v6:=v6.stp hs
      exact Zb (Zd (bH (u9,pA,j7) _ _ ⟨sJ,(bG),(rJ),hfr,cG,iA,jA,dG,eG,mA,rE,l9,rfl,b219,j6,x6,v6⟩ h))
   ·clear hx
    obtain ⟨pM,kD,hfr,gG,hG,qK,iG,jG,lG,kG⟩:=hR
    refine Zf (Za (Zo gG rfl ?_))
    refine Zo iG rfl ?_
    refine Zg kD rfl rfl ?_
    refine Zg (.int .i64 (rA.1)) rfl rfl ?_
    refine Zg (.int .i64 (0)) rfl rfl ?_
    refine Zg (.int .i64 (0)) rfl rfl ?_
    refine Zb (Zd (E_ret ?_))
    obtain rfl:=sinj h
    exact end4 rfl rfl (show _=kD from rfl) (show _=.int .i64 (rA.1) from rfl) (show _=.int .i64 (0) from rfl) (show _=.int .i64 (0) from rfl) ⟨_,hfr,_,_,_,_,rfl,hG,rfl,rfl,rfl⟩
end Go.Proofs.Ytmpjooneiaiffaa
