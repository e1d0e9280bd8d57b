import Derived.Test.YtkfdjkkbnfohjaaGreatCode2
set_option maxRecDepth 8000
set_option maxHeartbeats 4000000
namespace Go.Proofs.YtkfdjkkbnfohjaaGreat
open Go.RowKit
def f14 (x0:BoxLoom) (x1:List BoxPick):Option ((List Span) × Int × Int):=
 (f35 x0 x1).bind fun y5=>
 jn (σ:=(List Span)) (fun oB=>
  Option.bind (α:=(List Span)) (
   lp (σ:=(List Span) × Int) (fun k48 (n9,t5)=>
    bif (decide (t5 < ((((y5.1).BoxLoom).Shuttles).length : Int))) then
     Option.bind (α:=(List Span)) (
      (idx (((y5.1).BoxLoom).Shuttles) t5).bind fun aD=>
      (apnd 16 n9 (([(aD).Yarn]:List Span))).bind fun y71=>
      some (y71)
      ) fun r8=>
     k48 (r8,(w64 (t5 + (1:Int))))
    else
     some (n9)
    ) big (oB,(0:Int))
   ) fun u9=>
  Option.bind (α:=(List Span)) (
   lp (σ:=(List Span) × Int) (fun bD (m7,o0)=>
    bif (decide (o0 < (((y5.2.1).thrown).length : Int))) then
     Option.bind (α:=(List Span)) (
      (idx ((y5.2.1).thrown) o0).bind fun y6=>
      (idx m7 (w64 (y6 - (1:Int)))).bind fun y130=>
      (idx m7 (w64 (y6 - (1:Int)))).bind fun zF=>
      some ((List.set m7 (Int.toNat (w64 (y6 - (1:Int)))) ((⟨(max64 (0:Int) (w64 ((y130).Low - (1:Int)))),(max64 (0:Int) (w64 ((y130).High - (1:Int))))⟩:Span))))
      ) fun l8=>
     bD (l8,(w64 (o0 + (1:Int))))
    else
     some (m7)
    ) big (u9,(0:Int))
   ) fun v8=>
  some (v8,(0:Int),(0:Int))
  ) fun sF=>
 bif (y5.2.2.2 != (0 : Int)) then
  some (([]:List Span),y5.2.2.1,y5.2.2.2)
 else
  sF (([]:List Span))
theorem en14:Enters Tryz.prog 14:=enters_of Tryz.func14 (by kernel_rfl) rfl
theorem wk14 {gI:Gh} {wI:World} {x0:BoxLoom} {x1:List BoxPick} {up0:Value} (rp0:RV gI.m wI x0 up0) {up1:Value} (rp1:RV gI.m wI x1 up1) {r:(List Span) × Int × Int} (h:f14 x0 x1=some r):Fn Tryz.prog 14 #[up0,up1] gI wI (fun m w v=>∃ y0 y1 y2,v=.tuple #[y0,y1,y2]∧RV m w (r.1) y0∧y1=.int .i64 (r.2.1)∧y2=.int .i64 (r.2.2)):=by
 unfold f14 at h
 refine fn_of_E Tryz.func14 rfl (Nat.le_of_ble_eq_true rfl) fun g0 hm hfr=>?_
 have rp0:RV g0.m wI x0 up0:=hm ▸ rp0
 have rp1:RV g0.m wI x1 up1:=hm ▸ rp1
 show E _ 67 none _ _ _ _ _
 refine E_seq (E_region (EL_do .plain rfl (D_box (g:=g0) rfl rp0 fun g1 w1 p1 hs q1=>?_)))
 have hfr:=hfr.ext hs
 have rp1:=rp1.ext hs
 refine EL_at (.slice none 0 0) rfl rfl ?_
 have b2:OA 4004 g1 w1 63 ([]:List Span) (.slice none 0 0):=OA.nil
 refine EL_at (.int .i64 (0)) rfl rfl ?_
 refine EL_at (.int .i64 (0)) rfl rfl ?_
 refine EL_nil (thn_n (E_seq (E_region (EL_do .plain rfl (D_load (g:=g1) Tryz.isAgg33 Tryz.sizeOf33 rfl q1 fun v3 r3=>?_)))))
 refine EL_mw up1 rfl rfl ?_
 obtain ⟨y5,hy5,h⟩:=bsome h
 refine EL_do .plain rfl (D_call (g:=g1) (vs:=[v3,up1]) en35 (.cons rfl (.cons rfl .nil)) (wk35 r3 rp1 hy5) fun g4 w4_ v4 hs hr=>?_)
 have hfr:=hfr.ext hs
 have b2:=b2.ext hs
 obtain ⟨dB,iB,oH,pH,rfl,x8,k8,rfl,rfl⟩:=hr
 refine EL_mw (.tuple #[dB,iB,.int .i64 (y5.2.2.1),.int .i64 (y5.2.2.2)]) rfl rfl ?_
 refine EL_p dB (P_extract rfl rfl) rfl ?_
 refine EL_p iB (P_extract rfl rfl) rfl ?_
 refine EL_p (.int .i64 (y5.2.2.1)) (P_extract rfl rfl) rfl ?_
 refine EL_p (.int .i64 (y5.2.2.2)) (P_extract rfl rfl) rfl ?_
 refine EL_do .plain rfl (D_allocOc (g:=g4) 2007 (⟨⟨[],[],[]⟩⟩:BoxBoxLoom) Tryz.zeroValue83 (fun m w=>⟨_,(rep_two rep_nil (rep_two rep_nil rep_nil)),rfl⟩) fun g6 w6 p6 hs b6 cb=>?_)
 have hfr:=hfr.stp hs
 have b2:=b2.stp hs rfl
 have x8:=x8.stp hs
 have k8:=k8.stp hs
 have qH:OSF 2007 60700 0 g6 w6 3 83 ([]:List Int) p6:=cb.osf (by rfl)
 have sH:OSF 2007 60701 1 g6 w6 3 83 ([]:List Int) p6:=cb.osf (by rfl)
 have tH:OSF 2007 60702 2 g6 w6 65 83 ([]:List BoxShuttle) p6:=cb.osf (by rfl)
 clear cb
 refine EL_do .plain rfl (D_allocOc (g:=g6) 2008 (⟨[],⟨(⟨List.toArray [(⟨List.toArray [0,0,0,0],rfl⟩:Vector Int 4),(⟨List.toArray [0,0,0,0],rfl⟩:Vector Int 4)],rfl⟩:Vector (Vector Int 4) 2),⟨0,0⟩⟩,0⟩:BoxRun) Tryz.zeroValue105 (fun m w=>⟨_,(rep_two rep_nil (rep_two (rep_two (rep_vec (flat_chunk (rep_vec (flat_chunk rep_int (flat_chunk rep_int (flat_chunk rep_int (flat_chunk rep_int flat_nil)))) rfl) (flat_chunk (rep_vec (flat_chunk rep_int (flat_chunk rep_int (flat_chunk rep_int (flat_chunk rep_int flat_nil)))) rfl) flat_nil)) rfl) (rep_two rep_int rep_int)) rep_int)),rfl⟩) fun g7 w7 p7 hs b7 cb=>?_)
 have hfr:=hfr.stp hs
 have b2:=b2.stp hs rfl
 have x8:=x8.stp hs
 have k8:=k8.stp hs
 have b6:=b6.stp hs rfl
 have uH:OSF 2008 60800 0 g7 w7 3 105 ([]:List Int) p7:=cb.osf (by rfl)
 clear cb
 refine EL_do .plain rfl (D_storeOc (g:=g7) (v:=dB) Tryz.sizeOf83 rfl b6 rfl x8 fun g8 w8 hs b8 cb=>?_)
 clear cb
 have hfr:=hfr.stp hs
 have b2:=b2.stp hs rfl
 have k8:=k8.stp hs
 have b7:=b7.stp hs rfl
 refine EL_do .plain rfl (D_storeOc (g:=g8) (v:=iB) Tryz.sizeOf105 rfl b7 rfl k8 fun g9 w9 hs b9 cb=>?_)
 clear cb
 have hfr:=hfr.stp hs
 have b2:=b2.stp hs rfl
 have b8:=b8.stp hs rfl
 refine EL_at (.int .i64 (y5.2.2.1)) rfl rfl ?_
 refine EL_at (.int .i64 (y5.2.2.2)) rfl rfl ?_
 refine EL_nil (thn_n (E_joinC h (fun (s:(List Span)) e w=>∃ (g:Gh) (v4:Value),Fr gI wI g w∧e 4=v4∧OA 4004 g w 63 (s:List Span) v4∧e 7=p6∧OB 2007 g w 83 (y5.1:BoxBoxLoom) p6∧e 8=p7∧OB 2008 g w 105 (y5.2.1:BoxRun) p7) (fun X13 sF aG h=>?_) ?_))
 ·refine E_seq (E_region (EL_mw (.int .i64 (y5.2.2.2)) rfl rfl ?_))
  refine EL_in (.bool ((y5.2.2.2 != (0:Int)))) rfl rfl rfl rfl ?_
  refine EL_nil (thn_n ?_)
  rcases csome h with ⟨lB,h⟩ | ⟨lB,h⟩
  ·refine E_ct lB rfl ?_
   refine E_seq (E_region (EL_mw (.int .i64 (y5.2.2.1)) rfl rfl ?_))
   refine EL_mw (.int .i64 (y5.2.2.2)) rfl rfl ?_
   refine EL_at (.slice none 0 0) rfl rfl ?_
   have b15:OA 4004 g9 w9 63 ([]:List Span) (.slice none 0 0):=OA.nil
   refine EL_at (.int .i64 (y5.2.2.1)) rfl rfl ?_
   refine EL_at (.int .i64 (y5.2.2.2)) rfl rfl ?_
   refine EL_nil (thn_n (E_ret (thn_r ?_)))
   obtain ⟨gp16,hs,rp16⟩:=OM.pub (b15.toM)
   have hfr:=hfr.stp hs
   obtain rfl:=sinj h
   exact end3 rfl rfl (show _=.slice none 0 0 from rfl) (show _=.int .i64 (y5.2.2.1) from rfl) (show _=.int .i64 (y5.2.2.2) from rfl) ⟨_,hfr,_,_,_,rfl,rp16,rfl,rfl⟩
  ·refine E_cf lB rfl ?_
   exact E_skip (thn_n (aG (([]:List Span)) _ _ ⟨g9,(.slice none 0 0),hfr,rfl,b2,rfl,b8,rfl,b9⟩ h))
 ·rintro oB xH qI ⟨tF, zD, hfr, aE, bE, iE, y9, lE, mE⟩ h
  obtain ⟨u9,hx,h⟩:=bsome h
  refine E_join (fun e w=>∃ (g:Gh) (v4:Value),Fr gI wI g w∧e 4=v4∧OA 4004 g w 63 (u9:List Span) v4∧e 8=p7∧OB 2008 g w 105 (y5.2.1:BoxRun) p7) (fun Q' hQ=>?_) (fun yH sI hR=>?_)
  ·replace h := hx
   clear hx
   refine E_seq (E_region (EL_p (fPtr p6 0) (P_fieldAddr at_83_0 iE (OB.ptr y9)) rfl ?_))
   refine EL_p (fPtr p6 2) (P_fieldAddr2 (o1:=0) rfl at_33_2 rfl (OB.ptr y9)) rfl ?_
   refine EL_do .plain rfl (D_loadF (g:=tF) (SubS.comp part_BoxBoxLoom_0 part_BoxLoom_2 rfl).1 Tryz.isAgg31 Tryz.sizeOf31 rfl y9 fun rA uF=>?_)
   refine EL_p (.int .i64 ((((y5.1).BoxLoom).Shuttles).length:Int)) (P_len Tryz.underlying31 rfl uF) rfl ?_
   refine EL_mw (.int .i64 (0)) rfl rfl ?_
   refine EL_nil (thn_n (E_block ?_))
   refine E_lp h (fun (s:(List Span) × Int) e w=>∃ (g:Gh) (v4:Value),Fr gI wI g w∧e 4=v4∧OA 4004 g w 63 (s.1:List Span) v4∧e 8=p7∧OB 2008 g w 105 (y5.2.1:BoxRun) p7∧e 28=rA∧RV g.m w (((y5.1).BoxLoom).Shuttles:List BoxShuttle) rA∧e 29=.int .i64 (((((y5.1).BoxLoom).Shuttles).length:Int))∧e 30=.int .i64 (s.2)) ⟨tF,(zD),hfr,aE,bE,lE,mE,rfl,uF,rfl,rfl⟩ (fun X48 k48 bG=>?_)
   rintro ⟨n9,t5⟩ zH tI ⟨cD,oE,hfr,tB,i7,vB,i6,yA,u3,aB,a9⟩ h
   refine E_seq (E_region (EL_p (.bool ((decide (t5 < ((((y5.1).BoxLoom).Shuttles).length:Int))))) (P_int a9 aB rfl) rfl ?_))
   refine EL_nil (thn_n (E_seq ?_))
   rcases csome h with ⟨mB,h⟩ | ⟨mB,h⟩
   ·refine E_ct mB rfl ?_
    refine E_skip (thn_n ?_)
    obtain ⟨r8,hx,h⟩:=bsome h
    refine E_join (fun e w=>∃ (g:Gh) (v4:Value),Fr gI wI g w∧e 4=v4∧OA 4004 g w 63 (r8:List Span) v4∧e 8=p7∧OB 2008 g w 105 (y5.2.1:BoxRun) p7∧e 28=rA∧RV g.m w (((y5.1).BoxLoom).Shuttles:List BoxShuttle) rA∧e 29=.int .i64 (((((y5.1).BoxLoom).Shuttles).length:Int))∧e 30=.int .i64 (t5)) (fun Q' hQ=>?_) (fun aI uI hR=>?_)
    ·replace h := hx
     clear hx
     refine E_block ?_
     refine E_seq (E_region ?_)
     obtain ⟨aD,eD,h⟩:=bsome h
     refine EL_p (ePtr rA t5 5) (P_indexAddr (α:=BoxShuttle) Tryz.underlying31 Tryz.sizeOf65 yA u3 a9 eD) rfl ?_
     have q62:=PT_idx u3 eD
     refine EL_do .plain rfl (D_load (g:=cD) Tryz.isAgg65 Tryz.sizeOf65 rfl q62 fun yG gD=>?_)
     refine EL_do .plain rfl (D_allocOc (g:=cD) 2010 (⟨0,0,0,⟨0,0⟩⟩:BoxShuttle) Tryz.zeroValue65 (fun m w=>⟨_,(rep_two rep_int (rep_two rep_int (rep_two rep_int (rep_two rep_int rep_int)))),rfl⟩) fun zG vI aH hs b65 cb=>?_)
     have hfr:=hfr.stp hs
     have i7:=i7.stp hs rfl
     have i6:=i6.stp hs rfl
     have u3:=u3.stp hs
     have gD:=gD.stp hs
     clear cb
     refine EL_do .plain rfl (D_storeOc (g:=zG) (v:=yG) Tryz.sizeOf65 rfl b65 rfl gD fun vF yI hs b66 cb=>?_)
     clear cb
     have hfr:=hfr.stp hs
     have i7:=i7.stp hs rfl
     have i6:=i6.stp hs rfl
     have u3:=u3.stp hs
     refine EL_nil (thn_n (E_region (EL_mv tB rfl ?_)))
     refine EL_p (fPtr aH 3) (P_fieldAddr at_65_3 rfl (OB.ptr b66)) rfl ?_
     refine EL_do .plain rfl (D_loadF (g:=vF) part_BoxShuttle_3.1 Tryz.isAgg63 Tryz.sizeOf63 rfl b66 fun cH dH=>?_)
     refine EL_do .plain rfl (D_buildSlice (g:=vF) 3037 (xs:=([(aD).Yarn]:List Span)) (vs:=[cH]) Tryz.underlying56 Tryz.sizeOf63 Tryz.zeroValue63 rfl rfl (.cons rfl .nil) (RVs.cons dH RVs.nil) rfl rfl fun gH zI eJ hs o69 iH hxt hfl=>?_)
     have hfr:=hfr.stp hs
     have i7:=i7.stp hs rfl
     have i6:=i6.stp hs rfl
     have u3:=u3.stp hs
     obtain ⟨y71,cG,h⟩:=bsome h
     refine EL_do .plain rfl (D_appendA (g:=gH) plain_Span (i:=4004) Tryz.underlying56 info_63 rfl rfl i7 rfl iH cG fun jH gJ xF hs b70=>?_)
     have hfr:=hfr.stp hs
     have i6:=i6.stp hs rfl
     have u3:=u3.stp hs
     refine EL_at xF rfl rfl ?_
     refine EL_nil (blk_n ?_)
     obtain rfl:=sinj h
     exact hQ _ _ ⟨jH,(xF),hfr,rfl,b70,vB,i6,yA,u3,aB,a9⟩
    ·clear hx
     obtain ⟨kH,rE,hfr,uE,vE,xE,yE,iD,jD,lD,nD⟩:=hR
     refine E_region (EL_in (.int .i64 ((w64 (t5 + (1:Int))))) nD rfl rfl rfl ?_)
     refine EL_mw (.int .i64 ((w64 (t5 + (1:Int))))) rfl rfl ?_
     exact EL_nil (thn_n (bG (r8,(w64 (t5 + (1:Int)))) _ _ ⟨kH,(rE),hfr,uE,vE,xE,yE,iD,jD,lD,rfl⟩ h))
   ·refine E_cf mB rfl ?_
    refine E_exit ?_
    refine thn_e ?_
    refine thn_e ?_
    refine blk_hit ?_
    obtain rfl:=sinj h
    exact hQ _ _ ⟨cD,(oE),hfr,tB,i7,vB,i6⟩
  ·clear hx
   obtain ⟨yF,x6,hfr,zE,cF,dF,yB⟩:=hR
   obtain ⟨v8,hx,h⟩:=bsome h
   refine E_join (fun e w=>∃ (g:Gh) ,Fr gI wI g w∧e 4=x6∧OA 4004 g w 63 (v8:List Span) x6) (fun Q' hQ=>?_) (fun lH bI hR=>?_)
   ·replace h := hx
    clear hx
    refine E_seq (E_region (EL_p (fPtr p7 0) (P_fieldAddr at_105_0 dF (OB.ptr yB)) rfl ?_))
    refine EL_do .plain rfl (D_loadF (g:=yF) part_BoxRun_0.1 Tryz.isAgg27 Tryz.sizeOf27 rfl yB fun d9 oD=>?_)
    refine EL_p (.int .i64 (((y5.2.1).thrown).length:Int)) (P_len Tryz.underlying27 rfl oD) rfl ?_
    refine EL_mw (.int .i64 (0)) rfl rfl ?_
    refine EL_nil (thn_n (E_block ?_))
    refine E_lp h (fun (s:(List Span) × Int) e w=>∃ (g:Gh) ,Fr gI wI g w∧e 4=x6∧OA 4004 g w 63 (s.1:List Span) x6∧e 41=d9∧RV g.m w ((y5.2.1).thrown:List Int) d9∧e 42=.int .i64 ((((y5.2.1).thrown).length:Int))∧e 43=.int .i64 (s.2)) ⟨yF,hfr,zE,cF,rfl,oD,rfl,rfl⟩ (fun X110 bD eF=>?_)
    rintro ⟨m7,o0⟩ mH dI ⟨z9,hfr,m8,x5,k9,l5,l9,n8⟩ h
    refine E_seq (E_region (EL_p (.bool ((decide (o0 < (((y5.2.1).thrown).length:Int))))) (P_int n8 l9 rfl) rfl ?_))
    refine EL_nil (thn_n (E_seq ?_))
    rcases csome h with ⟨bA,h⟩ | ⟨bA,h⟩
    ·refine E_ct bA rfl ?_
     refine E_skip (thn_n ?_)
     obtain ⟨l8,hx,h⟩:=bsome h
     refine E_join (fun e w=>∃ (g:Gh) ,Fr gI wI g w∧e 4=x6∧OA 4004 g w 63 (l8:List Span) x6∧e 41=d9∧RV g.m w ((y5.2.1).thrown:List Int) d9∧e 42=.int .i64 ((((y5.2.1).thrown).length:Int))∧e 43=.int .i64 (o0)) (fun Q' hQ=>?_) (fun nH iI hR=>?_)
     ·replace h := hx
      clear hx
      refine E_block ?_
      refine E_seq (E_region ?_)
      obtain ⟨y6,zB,h⟩:=bsome h
      refine EL_p (ePtr d9 o0 1) (P_indexAddr (α:=Int) Tryz.underlying27 Tryz.sizeOf3 k9 l5 n8 zB) rfl ?_
      have eG:=PT_idx l5 zB
      refine EL_do .plain rfl (D_load (g:=z9) Tryz.isAgg3 Tryz.sizeOf3 rfl eG fun jI gG=>?_)
      obtain rfl:=RV_int.1 gG
      refine EL_at (.int .i64 (y6)) rfl rfl ?_
      refine EL_nil (thn_n (E_seq (E_region (EL_mv m8 rfl ?_))))
      refine EL_mw (.int .i64 (y6)) rfl rfl ?_
      refine EL_in (.int .i64 ((w64 (y6 - (1:Int))))) rfl rfl rfl rfl ?_
      obtain ⟨y130,cC,h⟩:=bsome h
      refine EL_p (ePtr x6 (w64 (y6 - (1:Int))) 2) (P_indexAddrM (α:=Span) Tryz.underlying56 Tryz.sizeOf63 rfl (x5.toM) rfl cC) rfl ?_
      refine EL_do .plain rfl (D_loadM (g:=z9) Tryz.isAgg63 Tryz.sizeOf63 rfl (x5.toM) cC fun hG nB=>?_)
      refine EL_do .plain rfl (D_allocOc (g:=z9) 2013 (⟨0,0⟩:Span) Tryz.zeroValue63 (fun m w=>⟨_,(rep_two rep_int rep_int),rfl⟩) fun iG kI sD hs b132 cb=>?_)
      have hfr:=hfr.stp hs
      have x5:=x5.stp hs rfl
      have l5:=l5.stp hs
      have nB:=nB.stp hs
      clear cb
      refine EL_do .plain rfl (D_storeOc (g:=iG) (v:=hG) Tryz.sizeOf63 rfl b132 rfl nB fun iA jG hs b133 cb=>?_)
      clear cb
      have hfr:=hfr.stp hs
      have x5:=x5.stp hs rfl
      have l5:=l5.stp hs
      refine EL_nil (thn_n (E_region (EL_mv m8 rfl ?_)))
      refine EL_mw (.int .i64 (y6)) rfl rfl ?_
      refine EL_in (.int .i64 ((w64 (y6 - (1:Int))))) rfl rfl rfl rfl ?_
      refine EL_p (fPtr sD 0) (P_fieldAddr at_63_0 rfl (OB.ptr b133)) rfl ?_
      refine EL_do .plain rfl (D_loadF (g:=iA) part_Span_0.1 Tryz.isAgg3 Tryz.sizeOf3 rfl b133 fun lI kG=>?_)
      obtain rfl:=RV_int.1 kG
      refine EL_in (.int .i64 ((w64 ((y130).Low - (1:Int))))) rfl rfl rfl rfl ?_
      refine EL_p (.int .i64 (max64 (0:Int) (w64 ((y130).Low - (1:Int))))) (P_max rfl rfl) rfl ?_
      refine EL_p (fPtr sD 1) (P_fieldAddr at_63_1 rfl (OB.ptr b133)) rfl ?_
      refine EL_do .plain rfl (D_loadF (g:=iA) part_Span_1.1 Tryz.isAgg3 Tryz.sizeOf3 rfl b133 fun mI lG=>?_)
      obtain rfl:=RV_int.1 lG
      refine EL_in (.int .i64 ((w64 ((y130).High - (1:Int))))) rfl rfl rfl rfl ?_
      refine EL_p (.int .i64 (max64 (0:Int) (w64 ((y130).High - (1:Int))))) (P_max rfl rfl) rfl ?_
      have tD:RV iA.m jG (⟨(max64 (0:Int) (w64 ((y130).Low - (1:Int)))),(max64 (0:Int) (w64 ((y130).High - (1:Int))))⟩:Span) (.agg (setCh [[.int .i64 0],[.int .i64 0]] [(0,.int .i64 (max64 (0:Int) (w64 ((y130).Low - (1:Int))))),(1,.int .i64 (max64 (0:Int) (w64 ((y130).High - (1:Int)))))]).flatten.toArray):=RV_build rfl (rep_pair (rfl) (rep_last (rfl)))
      generalize rF:(Value.agg (setCh [[.int .i64 0],[.int .i64 0]] [(0,.int .i64 (max64 (0:Int) (w64 ((y130).Low - (1:Int))))),(1,.int .i64 (max64 (0:Int) (w64 ((y130).High - (1:Int)))))]).flatten.toArray)=mG at tD
      refine EL_p mG (rF ▸ P_build (vs:=[(0,.int .i64 (max64 (0:Int) (w64 ((y130).Low - (1:Int))))),(1,.int .i64 (max64 (0:Int) (w64 ((y130).High - (1:Int)))))]) [[.int .i64 0],[.int .i64 0]] lay_63 rfl rfl (.cons rfl (.cons rfl .nil)) ⟨⟨_,rfl,rfl⟩,⟨⟨_,rfl,rfl⟩,trivial⟩⟩) rfl ?_
      obtain ⟨zF,mC,h⟩:=bsome h
      refine EL_p (ePtr x6 (w64 (y6 - (1:Int))) 2) (P_indexAddrM (α:=Span) Tryz.underlying56 Tryz.sizeOf63 rfl (x5.toM) rfl mC) rfl ?_
      refine EL_do .plain rfl (D_storeA (g:=iA) (α:=Span) (a':=((⟨(max64 (0:Int) (w64 ((y130).Low - (1:Int)))),(max64 (0:Int) (w64 ((y130).High - (1:Int))))⟩:Span))) Tryz.sizeOf63 rfl x5 mC rfl tD fun sG nI hs b140=>?_)
      have hfr:=hfr.stp hs
      have l5:=l5.stp hs
      refine EL_nil (blk_n ?_)
      obtain rfl:=sinj h
      exact hQ _ _ ⟨sG,hfr,m8,b140,k9,l5,l9,n8⟩
     ·clear hx
      obtain ⟨xG,hfr,uD,vD,qC,rC,uC,vC⟩:=hR
      refine E_region (EL_in (.int .i64 ((w64 (o0 + (1:Int))))) vC rfl rfl rfl ?_)
      refine EL_mw (.int .i64 ((w64 (o0 + (1:Int))))) rfl rfl ?_
      exact EL_nil (thn_n (eF (l8,(w64 (o0 + (1:Int)))) _ _ ⟨xG,hfr,uD,vD,qC,rC,uC,rfl⟩ h))
    ·refine E_cf bA rfl ?_
     refine E_exit ?_
     refine thn_e ?_
     refine thn_e ?_
     refine blk_hit ?_
     obtain rfl:=sinj h
     exact hQ _ _ ⟨z9,hfr,m8,x5⟩
   ·clear hx
    obtain ⟨pI,hfr,xD,yD⟩:=hR
    refine E_seq (E_region (EL_mv xD rfl ?_))
    refine EL_at x6 rfl rfl ?_
    refine EL_at (.int .i64 (0)) rfl rfl ?_
    refine EL_at (.int .i64 (0)) rfl rfl ?_
    refine EL_nil (thn_n (E_ret ?_))
    obtain ⟨gp143,hs,rp143⟩:=OM.pub (yD.toM)
    have hfr:=hfr.stp hs
    obtain rfl:=sinj h
    exact end3 rfl rfl (show _=x6 from rfl) (show _=.int .i64 (0) from rfl) (show _=.int .i64 (0) from rfl) ⟨_,hfr,_,_,_,rfl,rp143,rfl,rfl⟩
def f15 (x0:BoxLoom) (x1:List BoxPick):Option (Int × Int × Int):=
 (f35 x0 x1).bind fun y4=>
 jn (σ:=Unit) (fun _=>
  (f40 (y4.1) ((y4.2.1).thrown) ((fun a0=>f38 a0))).bind fun t5=>
  (f40 (y4.1) ((y4.2.1).thrown) ((fun a0=>f39 a0))).bind fun x5=>
  some (t5,x5,(0:Int))
  ) fun l8=>
 bif (y4.2.2.2 != (0 : Int)) then
  some ((0:Int),(0:Int),y4.2.2.2)
 else
  l8 ()
theorem en15:Enters Tryz.prog 15:=enters_of Tryz.func15 (by kernel_rfl) rfl
theorem wk15 {gI:Gh} {wI:World} {x0:BoxLoom} {x1:List BoxPick} {up0:Value} (rp0:RV gI.m wI x0 up0) {up1:Value} (rp1:RV gI.m wI x1 up1) {r:Int × Int × Int} (h:f15 x0 x1=some r):Fn Tryz.prog 15 #[up0,up1] gI wI (fun m w v=>∃ y0 y1 y2,v=.tuple #[y0,y1,y2]∧y0=.int .i64 (r.1)∧y1=.int .i64 (r.2.1)∧y2=.int .i64 (r.2.2)):=by
 unfold f15 at h
 refine fn_of_E Tryz.func15 rfl (Nat.le_of_ble_eq_true rfl) fun g0 hm hfr=>?_
 have rp0:RV g0.m wI x0 up0:=hm ▸ rp0
 have rp1:RV g0.m wI x1 up1:=hm ▸ rp1
 show E _ 33 none _ _ _ _ _
 refine E_seq (E_region (EL_do .plain rfl (D_box (g:=g0) rfl rp0 fun g1 w1 p1 hs q1=>?_)))
 have hfr:=hfr.ext hs
 have rp1:=rp1.ext hs
 iterate 3 refine EL_at (.int .i64 (0)) rfl rfl ?_
 refine EL_nil (thn_n (E_seq (E_region (EL_do .plain rfl (D_load (g:=g1) Tryz.isAgg33 Tryz.sizeOf33 rfl q1 fun v2 r2=>?_)))))
 refine EL_mw up1 rfl rfl ?_
 obtain ⟨y4,u9,h⟩:=bsome h
 refine EL_do .plain rfl (D_call (g:=g1) (vs:=[v2,up1]) en35 (.cons rfl (.cons rfl .nil)) (wk35 r2 rp1 u9) fun g3 w3_ v3 hs hr=>?_)
 have hfr:=hfr.ext hs
 obtain ⟨i6,x6,yA,aB,rfl,l5,o0,rfl,rfl⟩:=hr
 refine EL_mw (.tuple #[i6,x6,.int .i64 (y4.2.2.1),.int .i64 (y4.2.2.2)]) rfl rfl ?_
 refine EL_p i6 (P_extract rfl rfl) rfl ?_
 refine EL_p x6 (P_extract rfl rfl) rfl ?_
 refine EL_p (.int .i64 (y4.2.2.1)) (P_extract rfl rfl) rfl ?_
 refine EL_p (.int .i64 (y4.2.2.2)) (P_extract rfl rfl) rfl ?_
 refine EL_do .plain rfl (D_allocOc (g:=g3) 2007 (⟨⟨[],[],[]⟩⟩:BoxBoxLoom) Tryz.zeroValue83 (fun m w=>⟨_,(rep_two rep_nil (rep_two rep_nil rep_nil)),rfl⟩) fun g5 w5 p5 hs b5 cb=>?_)
 have hfr:=hfr.stp hs
 have l5:=l5.stp hs
 have o0:=o0.stp hs
 have dB:OSF 2007 60700 0 g5 w5 3 83 ([]:List Int) p5:=cb.osf (by rfl)
 have iB:OSF 2007 60701 1 g5 w5 3 83 ([]:List Int) p5:=cb.osf (by rfl)
 have lB:OSF 2007 60702 2 g5 w5 65 83 ([]:List BoxShuttle) p5:=cb.osf (by rfl)
 clear cb
 refine EL_do .plain rfl (D_allocOc (g:=g5) 2008 (⟨[],⟨(⟨List.toArray [(⟨List.toArray [0,0,0,0],rfl⟩:Vector Int 4),(⟨List.toArray [0,0,0,0],rfl⟩:Vector Int 4)],rfl⟩:Vector (Vector Int 4) 2),⟨0,0⟩⟩,0⟩:BoxRun) Tryz.zeroValue105 (fun m w=>⟨_,(rep_two rep_nil (rep_two (rep_two (rep_vec (flat_chunk (rep_vec (flat_chunk rep_int (flat_chunk rep_int (flat_chunk rep_int (flat_chunk rep_int flat_nil)))) rfl) (flat_chunk (rep_vec (flat_chunk rep_int (flat_chunk rep_int (flat_chunk rep_int (flat_chunk rep_int flat_nil)))) rfl) flat_nil)) rfl) (rep_two rep_int rep_int)) rep_int)),rfl⟩) fun g6 w6 p6 hs b6 cb=>?_)
 have hfr:=hfr.stp hs
 have l5:=l5.stp hs
 have o0:=o0.stp hs
 have b5:=b5.stp hs rfl
 have mB:OSF 2008 60800 0 g6 w6 3 105 ([]:List Int) p6:=cb.osf (by rfl)
 clear cb
 refine EL_do .plain rfl (D_storeOc (g:=g6) (v:=i6) Tryz.sizeOf83 rfl b5 rfl l5 fun g7 w7 hs b7 cb=>?_)
 clear cb
 have hfr:=hfr.stp hs
 have o0:=o0.stp hs
 have b6:=b6.stp hs rfl
 refine EL_do .plain rfl (D_storeOc (g:=g7) (v:=x6) Tryz.sizeOf105 rfl b6 rfl o0 fun g8 w8 hs b8 cb=>?_)
 clear cb
 have hfr:=hfr.stp hs
 have b7:=b7.stp hs rfl
 refine EL_at (.int .i64 (y4.2.2.1)) rfl rfl ?_
 refine EL_at (.int .i64 (y4.2.2.2)) rfl rfl ?_
 refine EL_nil (thn_n (E_joinC h (fun (s:Unit) e w=>∃ (g:Gh) ,Fr gI wI g w∧e 7=p5∧OB 2007 g w 83 (y4.1:BoxBoxLoom) p5∧e 8=p6∧OB 2008 g w 105 (y4.2.1:BoxRun) p6) (fun X10 l8 x8 h=>?_) ?_))
 ·refine E_seq (E_region (EL_mw (.int .i64 (y4.2.2.2)) rfl rfl ?_))
  refine EL_in (.bool ((y4.2.2.2 != (0:Int)))) rfl rfl rfl rfl ?_
  refine EL_nil (thn_n ?_)
  rcases csome h with ⟨y6,h⟩ | ⟨y6,h⟩
  ·refine E_ct y6 rfl ?_
   refine E_seq (E_region (EL_mw (.int .i64 (y4.2.2.2)) rfl rfl ?_))
   refine EL_at (.int .i64 (0)) rfl rfl ?_
   refine EL_at (.int .i64 (0)) rfl rfl ?_
   refine EL_at (.int .i64 (y4.2.2.2)) rfl rfl ?_
   refine EL_nil (thn_n (E_ret (thn_r ?_)))
   obtain rfl:=sinj h
   exact end3 rfl rfl (show _=.int .i64 (0) from rfl) (show _=.int .i64 (0) from rfl) (show _=.int .i64 (y4.2.2.2) from rfl) ⟨_,hfr,_,_,_,rfl,rfl,rfl,rfl⟩
  ·refine E_cf y6 rfl ?_
   exact E_skip (thn_n (x8 () _ _ ⟨g8,hfr,rfl,b7,rfl,b8⟩ h))
 ·rintro _ nB oB ⟨y9, hfr, i7, m7, k8, u3⟩ h
  refine E_seq (E_region (EL_at (.func (.func 38) #[] #[]) rfl rfl ?_))
  refine EL_at (.func (.func 39) #[] #[]) rfl rfl ?_
  refine EL_nil (thn_n (E_seq (L_loadO0 (x:=.tmp 7) Tryz.isAgg83 Tryz.sizeOf83 m7 fun m8 z9 a9=>?_)))
  refine L_loadO (x:=.tmp 24) part_BoxRun_0.1 Tryz.isAgg27 Tryz.sizeOf27 u3 fun n8 bA d9=>?_
  obtain ⟨t5,k9,h⟩:=bsome h
  refine L_loadO0 (x:=.tmp 7) Tryz.isAgg83 Tryz.sizeOf83 m7 fun r8 iA l9=>?_
  refine L_loadO (x:=.tmp 29) part_BoxRun_0.1 Tryz.isAgg27 Tryz.sizeOf27 u3 fun v8 rA hl20=>?_
  obtain ⟨x5,n9,h⟩:=bsome h
  refine E_drawL (g:=y9) (n:=13) [(4,(fun v g w=>v=.int .i64 (t5))),(9,(fun v g w=>v=.int .i64 (x5)))] [0,1,2,3,4,5,6,7,8,9,10,11,12] rfl mixed (by kernel_rfl) (⟨fun _=>up_eq _,fun _=>up_eq _,trivial⟩) ?_
  refine L_ld (c:=m8) rfl rfl .plain (fun _ _ h=>⟨h.ch,fun b hb _=>h.below.block b hb⟩) a9 i7 ?_
  refine L_p (fPtr p6 0) rfl rfl (P_fieldAddr at_105_0 k8 (OB.ptr u3)) ?_
  refine L_ld (c:=n8) rfl rfl .plain (fun _ _ h=>⟨h.ch,fun b hb _=>h.below.block b hb⟩) d9 rfl ?_
  refine L_p (.func (.func 38) #[] #[]) rfl rfl (P_move rfl) ?_
  refine L_do (φ:=fun v g w=>v=.int .i64 (t5)) rfl rfl .plain (fun g w hd=>D_call (g:=g) (vs:=[m8,n8,.func (.func 38) #[] #[]]) en40 (.cons rfl (.cons rfl (.cons rfl .nil))) (wk40 (z9.ext hd.1) (bA.ext hd.1) ⟨38,#[],#[],rfl,en38,fun g' w' hch a0 b0 r hu0 hr=>by exact Fn.mono (wk38 hu0  hr) fun _ _ _ h=>RV_int.2 h⟩ k9) fun g' w' v hs hr=>⟨g',hs,hr⟩) (fun tB hv=>?_)
  obtain ⟨_,_,_,rfl⟩:=hv
  refine L_ld (c:=r8) rfl rfl .plain (fun _ _ h=>⟨h.ch,fun b hb _=>h.below.block b hb⟩) l9 i7 ?_
  refine L_p (fPtr p6 0) rfl rfl (P_fieldAddr at_105_0 k8 (OB.ptr u3)) ?_
  refine L_ld (c:=v8) rfl rfl .plain (fun _ _ h=>⟨h.ch,fun b hb _=>h.below.block b hb⟩) hl20 rfl ?_
  refine L_p (.func (.func 39) #[] #[]) rfl rfl (P_move rfl) ?_
  refine L_do (φ:=fun v g w=>v=.int .i64 (x5)) rfl rfl .plain (fun g w hd=>D_call (g:=g) (vs:=[r8,v8,.func (.func 39) #[] #[]]) en40 (.cons rfl (.cons rfl (.cons rfl .nil))) (wk40 (iA.ext hd.1) (rA.ext hd.1) ⟨39,#[],#[],rfl,en39,fun g' w' hch a0 b0 r hu0 hr=>by exact Fn.mono (wk39 hu0  hr) fun _ _ _ h=>RV_int.2 h⟩ n9) fun g' w' v hs hr=>⟨g',hs,hr⟩) (fun vB hv=>?_)
  obtain ⟨_,_,_,rfl⟩:=hv
  refine L_p (.int .i64 (t5)) rfl rfl (P_assign rfl) ?_
  refine L_p (.int .i64 (x5)) rfl rfl (P_assign rfl) ?_
  refine L_p (.int .i64 (0)) rfl rfl (P_assign rfl) ?_
  refine L_nl fun yB zB hs=>?_
  have hfr:=hfr.ext hs
  clear hs
  refine EL_nil (thn_n (E_ret ?_))
  obtain rfl:=sinj h
  exact end3 rfl rfl (show _=.int .i64 (t5) from rfl) (show _=.int .i64 (x5) from rfl) (show _=.int .i64 (0) from rfl) ⟨_,hfr,_,_,_,rfl,rfl,rfl,rfl⟩
def f18 :Option (Bool):=
 (f19 ((2:Int)) ((3:Int))).bind fun y4=>
 (f19 ((1:Int)) ((1:Int))).bind fun y7=>
 (f19 ((9:Int)) ((9:Int))).bind fun x8=>
 (f11 ((⟨([(2:Int),(2:Int)]:List Int),([(0:Int),(0:Int)]:List Int),([(⟨(3:Int),0,0,y4⟩:BoxShuttle),(⟨(5:Int),0,(1:Int),y7⟩:BoxShuttle),(⟨(7:Int),(1:Int),(1:Int),x8⟩:BoxShuttle)]:List BoxShuttle)⟩:BoxLoom))).bind fun mB=>
 (f10 mB (([(3:Int),(7:Int),(5:Int)]:List Int))).bind fun o0=>
 (f11 ((⟨([(2:Int),(2:Int)]:List Int),([(0:Int),(0:Int)]:List Int),([(⟨(3:Int),0,0,y4⟩:BoxShuttle),(⟨(5:Int),0,(1:Int),y7⟩:BoxShuttle),(⟨(7:Int),(1:Int),(1:Int),x8⟩:BoxShuttle)]:List BoxShuttle)⟩:BoxLoom))).bind fun nB=>
 (f41 nB).bind fun x6=>
 (f11 ((⟨([(2:Int),(2:Int)]:List Int),([(0:Int),(0:Int)]:List Int),([(⟨(3:Int),0,0,y4⟩:BoxShuttle),(⟨(5:Int),0,(1:Int),y7⟩:BoxShuttle),(⟨(7:Int),(1:Int),(1:Int),x8⟩:BoxShuttle)]:List BoxShuttle)⟩:BoxLoom))).bind fun oB=>
 (f15 oB (([(⟨0,0⟩:BoxPick),(⟨0,0⟩:BoxPick),(⟨0,0⟩:BoxPick),(⟨0,0⟩:BoxPick)]:List BoxPick))).bind fun u3=>
 Option.bind (α:=Bool) (
  bif (o0.2.2.2 == (0 : Int)) then
   bif (x6.2 == (0 : Int)) then
    bif (u3.2.2 == (0 : Int)) then
     bif (((o0.1).length : Int) == (3 : Int)) then
      bif (o0.2.1 == (2 : Int)) then
       (f16 (x6.1) (([(3:Int),(5:Int)]:List Int))).bind fun a9=>
       bif a9 then
        bif (u3.1 == (2 : Int)) then
         some ((u3.2.1 == (3:Int)))
        else
         some (false)
       else
        some (false)
      else
       some (false)
     else
      some (false)
    else
     some (false)
   else
    some (false)
  else
   some (false)
  ) fun m8=>
 some (m8)
theorem en18:Enters Tryz.prog 18:=enters_of Tryz.func18 (by kernel_rfl) rfl
theorem wk18 {gI:Gh} {wI:World}   {r:Bool} (h:f18 =some r):Fn Tryz.prog 18 #[] gI wI (fun _ _ v=>v=.bool (r)):=by
 unfold f18 at h
 refine fn_of_E Tryz.func18 rfl (Nat.le_of_ble_eq_true rfl) fun g0 hm hfr=>?_
 show E _ 80 none _ _ _ _ _
 refine E_seq (E_region (EL_at (.bool false) rfl rfl ?_))
 refine EL_nil (thn_n (E_seq (E_region (EL_do .plain rfl (D_buildSlice (g:=g0) 3011 (xs:=([(2:Int),(2:Int)]:List Int)) (vs:=[.int .i64 (2),.int .i64 (2)]) Tryz.underlying27 Tryz.sizeOf3 Tryz.zeroValue3 rfl rfl (.cons rfl (.cons rfl .nil)) (RVs.cons (RV_int.2 rfl) (RVs.cons (RV_int.2 rfl) RVs.nil)) rfl rfl fun g1 w1 v1 hs o1 r1 hxt hfl=>?_)))))
 have hfr:=hfr.stp hs
 refine EL_do .plain rfl (D_buildSlice (g:=g1) 3012 (xs:=([(0:Int),(0:Int)]:List Int)) (vs:=[.int .i64 (0),.int .i64 (0)]) Tryz.underlying27 Tryz.sizeOf3 Tryz.zeroValue3 rfl rfl (.cons rfl (.cons rfl .nil)) (RVs.cons (RV_int.2 rfl) (RVs.cons (RV_int.2 rfl) RVs.nil)) rfl rfl fun g2 w2 v2 hs o2 r2 hxt hfl=>?_)
 have hfr:=hfr.stp hs
 have r1:=r1.stp hs
 have o1:=o1.stp hs rfl
 obtain ⟨y4,bE,h⟩:=bsome h
 refine EL_do .plain rfl (D_call (g:=g2) (vs:=[.int .i64 (2),.int .i64 (3)]) en19 (.cons rfl (.cons rfl .nil)) (wk19  bE) fun g3 w3_ v3 hs hr=>?_)
 have hfr:=hfr.ext hs
 have r1:=r1.ext hs
 have o1:=o1.ext hs
 have r2:=r2.ext hs
 have r3:=hr
 have r5:RV g3.m _ (⟨(3:Int),0,0,y4⟩:BoxShuttle) (.agg (setCh [[.int .i64 0],[.int .i64 0],[.int .i64 0],[.int .i64 0,.int .i64 0]] [(0,.int .i64 (3)),(3,v3)]).flatten.toArray):=RV_build rfl (rep_pair (rfl) (rep_pair (rep_int) (rep_pair (rep_int) (rep_last (RV.cells r3)))))
 generalize iE:(Value.agg (setCh [[.int .i64 0],[.int .i64 0],[.int .i64 0],[.int .i64 0,.int .i64 0]] [(0,.int .i64 (3)),(3,v3)]).flatten.toArray)=v5 at r5
 refine EL_p v5 (iE ▸ P_build (vs:=[(0,.int .i64 (3)),(3,v3)]) [[.int .i64 0],[.int .i64 0],[.int .i64 0],[.int .i64 0,.int .i64 0]] lay_65 rfl rfl (.cons rfl (.cons rfl .nil)) ⟨⟨_,rfl,rfl⟩,⟨⟨_,rfl,cells_size r3⟩,trivial⟩⟩) rfl ?_
 obtain ⟨y7,lE,h⟩:=bsome h
 refine EL_do .plain rfl (D_call (g:=g3) (vs:=[.int .i64 (1),.int .i64 (1)]) en19 (.cons rfl (.cons rfl .nil)) (wk19  lE) fun g6 w6_ v6 hs hr=>?_)
 have hfr:=hfr.ext hs
 have r1:=r1.ext hs
 have o1:=o1.ext hs
 have r2:=r2.ext hs
 have r5:=r5.ext hs
 have r6:=hr
 have r8:RV g6.m _ (⟨(5:Int),0,(1:Int),y7⟩:BoxShuttle) (.agg (setCh [[.int .i64 0],[.int .i64 0],[.int .i64 0],[.int .i64 0,.int .i64 0]] [(0,.int .i64 (5)),(2,.int .i64 (1)),(3,v6)]).flatten.toArray):=RV_build rfl (rep_pair (rfl) (rep_pair (rep_int) (rep_pair (rfl) (rep_last (RV.cells r6)))))
 generalize mE:(Value.agg (setCh [[.int .i64 0],[.int .i64 0],[.int .i64 0],[.int .i64 0,.int .i64 0]] [(0,.int .i64 (5)),(2,.int .i64 (1)),(3,v6)]).flatten.toArray)=v8 at r8
 refine EL_p v8 (mE ▸ P_build (vs:=[(0,.int .i64 (5)),(2,.int .i64 (1)),(3,v6)]) [[.int .i64 0],[.int .i64 0],[.int .i64 0],[.int .i64 0,.int .i64 0]] lay_65 rfl rfl (.cons rfl (.cons rfl (.cons rfl .nil))) ⟨⟨_,rfl,rfl⟩,⟨⟨_,rfl,rfl⟩,⟨⟨_,rfl,cells_size r6⟩,trivial⟩⟩⟩) rfl ?_
 obtain ⟨x8,iD,h⟩:=bsome h
 refine EL_do .plain rfl (D_call (g:=g6) (vs:=[.int .i64 (9),.int .i64 (9)]) en19 (.cons rfl (.cons rfl .nil)) (wk19  iD) fun g9 w9_ v9 hs hr=>?_)
 have hfr:=hfr.ext hs
 have r1:=r1.ext hs
 have o1:=o1.ext hs
 have r2:=r2.ext hs
 have r5:=r5.ext hs
 have r8:=r8.ext hs
 have r9:=hr
 have tB:RV g9.m _ (⟨(7:Int),(1:Int),(1:Int),x8⟩:BoxShuttle) (.agg (setCh [[.int .i64 0],[.int .i64 0],[.int .i64 0],[.int .i64 0,.int .i64 0]] [(0,.int .i64 (7)),(1,.int .i64 (1)),(2,.int .i64 (1)),(3,v9)]).flatten.toArray):=RV_build rfl (rep_pair (rfl) (rep_pair (rfl) (rep_pair (rfl) (rep_last (RV.cells r9)))))
 generalize jD:(Value.agg (setCh [[.int .i64 0],[.int .i64 0],[.int .i64 0],[.int .i64 0,.int .i64 0]] [(0,.int .i64 (7)),(1,.int .i64 (1)),(2,.int .i64 (1)),(3,v9)]).flatten.toArray)=vB at tB
 refine EL_p vB (jD ▸ P_build (vs:=[(0,.int .i64 (7)),(1,.int .i64 (1)),(2,.int .i64 (1)),(3,v9)]) [[.int .i64 0],[.int .i64 0],[.int .i64 0],[.int .i64 0,.int .i64 0]] lay_65 rfl rfl (.cons rfl (.cons rfl (.cons rfl (.cons rfl .nil)))) ⟨⟨_,rfl,rfl⟩,⟨⟨_,rfl,rfl⟩,⟨⟨_,rfl,rfl⟩,⟨⟨_,rfl,cells_size r9⟩,trivial⟩⟩⟩⟩) rfl ?_
 refine EL_do .plain rfl (D_buildSlice (g:=g9) 3019 (xs:=([(⟨(3:Int),0,0,y4⟩:BoxShuttle),(⟨(5:Int),0,(1:Int),y7⟩:BoxShuttle),(⟨(7:Int),(1:Int),(1:Int),x8⟩:BoxShuttle)]:List BoxShuttle)) (vs:=[v5,v8,vB]) Tryz.underlying31 Tryz.sizeOf65 Tryz.zeroValue65 rfl rfl (.cons rfl (.cons rfl (.cons rfl .nil))) (RVs.cons r5 (RVs.cons r8 (RVs.cons tB RVs.nil))) rfl rfl fun yB mH bA hs o12 zB hxt hfl=>?_)
 have hfr:=hfr.stp hs
 have r1:=r1.stp hs
 have o1:=o1.stp hs rfl
 have r2:=r2.stp hs
 have n9:RV yB.m _ (⟨([(2:Int),(2:Int)]:List Int),([(0:Int),(0:Int)]:List Int),([(⟨(3:Int),0,0,y4⟩:BoxShuttle),(⟨(5:Int),0,(1:Int),y7⟩:BoxShuttle),(⟨(7:Int),(1:Int),(1:Int),x8⟩:BoxShuttle)]:List BoxShuttle)⟩:BoxLoom) (.agg (setCh [[.slice none 0 0],[.slice none 0 0],[.slice none 0 0]] [(0,v1),(1,v2),(2,bA)]).flatten.toArray):=RV_build rfl (rep_pair (RV.cells r1) (rep_pair (RV.cells r2) (rep_last (RV.cells zB))))
 generalize iA:(Value.agg (setCh [[.slice none 0 0],[.slice none 0 0],[.slice none 0 0]] [(0,v1),(1,v2),(2,bA)]).flatten.toArray)=cC at n9
 refine EL_p cC (iA ▸ P_build (vs:=[(0,v1),(1,v2),(2,bA)]) [[.slice none 0 0],[.slice none 0 0],[.slice none 0 0]] lay_33 rfl rfl (.cons rfl (.cons rfl (.cons rfl .nil))) ⟨⟨_,rfl,cells_size r1⟩,⟨⟨_,rfl,cells_size r2⟩,⟨⟨_,rfl,cells_size zB⟩,trivial⟩⟩⟩) rfl ?_
 refine EL_do .plain rfl (D_allocOc (g:=yB) 2001 (⟨[],[],[]⟩:BoxLoom) Tryz.zeroValue33 (fun m w=>⟨_,(rep_two rep_nil (rep_two rep_nil rep_nil)),rfl⟩) fun u9 rA y9 hs b14 cb=>?_)
 have hfr:=hfr.stp hs
 have r1:=r1.stp hs
 have o1:=o1.stp hs rfl
 have n9:=n9.stp hs
 have hG:OSF 2001 60100 0 u9 rA 3 33 ([]:List Int) y9:=cb.osf (by rfl)
 have iG:OSF 2001 60101 1 u9 rA 3 33 ([]:List Int) y9:=cb.osf (by rfl)
 have jG:OSF 2001 60102 2 u9 rA 65 33 ([]:List BoxShuttle) y9:=cb.osf (by rfl)
 clear cb
 refine EL_do .plain rfl (D_storeOc (g:=u9) (v:=cC) Tryz.sizeOf33 rfl b14 rfl n9 fun yA w15 hs b15 cb=>?_)
 obtain ⟨oE,rE,z9,_,_⟩:=RV_list r1
 have kG:OSF 2001 3011 0 yA w15 3 33 (([(2:Int),(2:Int)]:List Int):List Int) y9:=cb.osfv (by rw [← iA,z9]; rfl) (o1.stp hs rfl)
 clear cb
 have hfr:=hfr.stp hs
 refine EL_nil (thn_n (E_seq (E_region (EL_do .plain rfl (D_loadO (g:=yA) Tryz.isAgg33 Tryz.sizeOf33 rfl b15 fun uE vE=>?_)))))
 obtain ⟨mB,lD,h⟩:=bsome h
 refine EL_do .plain rfl (D_call (g:=yA) (vs:=[uE]) en11 (.cons rfl .nil) (wk11 vE lD) fun xE cH yE hs hr=>?_)
 have hfr:=hfr.ext hs
 have b15:=b15.ext hs
 have aB:=hr
 refine EL_do .plain rfl (D_buildSlice (g:=xE) 3024 (xs:=([(3:Int),(7:Int),(5:Int)]:List Int)) (vs:=[.int .i64 (3),.int .i64 (7),.int .i64 (5)]) Tryz.underlying27 Tryz.sizeOf3 Tryz.zeroValue3 rfl rfl (.cons rfl (.cons rfl (.cons rfl .nil))) (RVs.cons (RV_int.2 rfl) (RVs.cons (RV_int.2 rfl) (RVs.cons (RV_int.2 rfl) RVs.nil))) rfl rfl fun zE nH cF hs o19 dF hxt hfl=>?_)
 have hfr:=hfr.stp hs
 have b15:=b15.stp hs rfl
 have aB:=aB.stp hs
 obtain ⟨o0,nD,h⟩:=bsome h
 refine EL_do .plain rfl (D_call (g:=zE) (vs:=[yE,cF]) en10 (.cons rfl (.cons rfl .nil)) (wk10 aB dF nD) fun mC dH oH hs hr=>?_)
 have hfr:=hfr.ext hs
 have b15:=b15.ext hs
 obtain ⟨n8,lG,mG,sG,rfl,l5,rfl,rfl,rfl⟩:=hr
 refine EL_mw (.tuple #[n8,.int .i64 (o0.2.1),.int .i64 (o0.2.2.1),.int .i64 (o0.2.2.2)]) rfl rfl ?_
 refine EL_p n8 (P_extract rfl rfl) rfl ?_
 refine EL_p (.int .i64 (o0.2.1)) (P_extract rfl rfl) rfl ?_
 refine EL_p (.int .i64 (o0.2.2.1)) (P_extract rfl rfl) rfl ?_
 refine EL_p (.int .i64 (o0.2.2.2)) (P_extract rfl rfl) rfl ?_
 refine EL_at n8 rfl rfl ?_
 refine EL_at (.int .i64 (o0.2.1)) rfl rfl ?_
 refine EL_at (.int .i64 (o0.2.2.1)) rfl rfl ?_
 refine EL_at (.int .i64 (o0.2.2.2)) rfl rfl ?_
 refine EL_nil (thn_n (E_seq (E_region (EL_do .plain rfl (D_loadO (g:=mC) Tryz.isAgg33 Tryz.sizeOf33 rfl b15 fun eF rF=>?_)))))
 obtain ⟨nB,oD,h⟩:=bsome h
 refine EL_do .plain rfl (D_call (g:=mC) (vs:=[eF]) en11 (.cons rfl .nil) (wk11 rF oD) fun sF gH tF hs hr=>?_)
 have hfr:=hfr.ext hs
 have b15:=b15.ext hs
 have l5:=l5.ext hs
 have uF:=hr
 obtain ⟨x6,sD,h⟩:=bsome h
 refine EL_do .plain rfl (D_call (g:=sF) (vs:=[tF]) en41 (.cons rfl .nil) (wk41 uF sD) fun qC iH pH hs hr=>?_)
 have hfr:=hfr.ext hs
 have b15:=b15.ext hs
 have l5:=l5.ext hs
 obtain ⟨l8,xG,rfl,t5,rfl⟩:=hr
 refine EL_mw (.tuple #[l8,.int .i64 (x6.2)]) rfl rfl ?_
 refine EL_p l8 (P_extract rfl rfl) rfl ?_
 refine EL_p (.int .i64 (x6.2)) (P_extract rfl rfl) rfl ?_
 refine EL_at l8 rfl rfl ?_
 refine EL_at (.int .i64 (x6.2)) rfl rfl ?_
 refine EL_nil (thn_n (E_seq (E_region (EL_do .plain rfl (D_loadO (g:=qC) Tryz.isAgg33 Tryz.sizeOf33 rfl b15 fun vF xF=>?_)))))
 obtain ⟨oB,tD,h⟩:=bsome h
 refine EL_do .plain rfl (D_call (g:=qC) (vs:=[vF]) en11 (.cons rfl .nil) (wk11 xF tD) fun l9 k9 yF hs hr=>?_)
 have hfr:=hfr.ext hs
 have l5:=l5.ext hs
 have t5:=t5.ext hs
 have dB:=hr
 have rC:RV l9.m k9 (⟨0,0⟩:BoxPick) (.agg (setCh [[.int .i64 0],[.int .i64 0]] []).flatten.toArray):=RV_build rfl (rep_pair (rep_int) (rep_last (rep_int)))
 generalize uD:(Value.agg (setCh [[.int .i64 0],[.int .i64 0]] []).flatten.toArray)=uC at rC
 refine EL_p uC (uD ▸ P_build (vs:=[]) [[.int .i64 0],[.int .i64 0]] lay_92 rfl rfl .nil trivial) rfl ?_
 have vC:RV l9.m k9 (⟨0,0⟩:BoxPick) (.agg (setCh [[.int .i64 0],[.int .i64 0]] []).flatten.toArray):=RV_build rfl (rep_pair (rep_int) (rep_last (rep_int)))
 generalize vD:(Value.agg (setCh [[.int .i64 0],[.int .i64 0]] []).flatten.toArray)=aD at vC
 refine EL_p aD (vD ▸ P_build (vs:=[]) [[.int .i64 0],[.int .i64 0]] lay_92 rfl rfl .nil trivial) rfl ?_
 have bD:RV l9.m k9 (⟨0,0⟩:BoxPick) (.agg (setCh [[.int .i64 0],[.int .i64 0]] []).flatten.toArray):=RV_build rfl (rep_pair (rep_int) (rep_last (rep_int)))
 generalize xD:(Value.agg (setCh [[.int .i64 0],[.int .i64 0]] []).flatten.toArray)=cD at bD
 refine EL_p cD (xD ▸ P_build (vs:=[]) [[.int .i64 0],[.int .i64 0]] lay_92 rfl rfl .nil trivial) rfl ?_
 have eD:RV l9.m k9 (⟨0,0⟩:BoxPick) (.agg (setCh [[.int .i64 0],[.int .i64 0]] []).flatten.toArray):=RV_build rfl (rep_pair (rep_int) (rep_last (rep_int)))
 generalize yD:(Value.agg (setCh [[.int .i64 0],[.int .i64 0]] []).flatten.toArray)=gD at eD
 refine EL_p gD (yD ▸ P_build (vs:=[]) [[.int .i64 0],[.int .i64 0]] lay_92 rfl rfl .nil trivial) rfl ?_
 refine EL_do .plain rfl (D_buildSlice (g:=l9) 3043 (xs:=([(⟨0,0⟩:BoxPick),(⟨0,0⟩:BoxPick),(⟨0,0⟩:BoxPick),(⟨0,0⟩:BoxPick)]:List BoxPick)) (vs:=[uC,aD,cD,gD]) Tryz.underlying49 Tryz.sizeOf92 Tryz.zeroValue92 rfl rfl (.cons rfl (.cons rfl (.cons rfl (.cons rfl .nil)))) (RVs.cons rC (RVs.cons vC (RVs.cons bD (RVs.cons eD RVs.nil)))) rfl rfl fun zF qH aG hs o34 bG hxt hfl=>?_)
 have hfr:=hfr.stp hs
 have l5:=l5.stp hs
 have t5:=t5.stp hs
 have dB:=dB.stp hs
 obtain ⟨u3,zD,h⟩:=bsome h
 refine EL_do .plain rfl (D_call (g:=zF) (vs:=[yF,aG]) en15 (.cons rfl (.cons rfl .nil)) (wk15 dB bG zD) fun d9 jH sH hs hr=>?_)
 have hfr:=hfr.ext hs
 have l5:=l5.ext hs
 have t5:=t5.ext hs
 obtain ⟨yG,zG,aH,rfl,rfl,rfl,rfl⟩:=hr
 refine EL_mw (.tuple #[.int .i64 (u3.1),.int .i64 (u3.2.1),.int .i64 (u3.2.2)]) rfl rfl ?_
 refine EL_p (.int .i64 (u3.1)) (P_extract rfl rfl) rfl ?_
 refine EL_p (.int .i64 (u3.2.1)) (P_extract rfl rfl) rfl ?_
 refine EL_p (.int .i64 (u3.2.2)) (P_extract rfl rfl) rfl ?_
 refine EL_at (.int .i64 (u3.1)) rfl rfl ?_
 refine EL_at (.int .i64 (u3.2.1)) rfl rfl ?_
 refine EL_at (.int .i64 (u3.2.2)) rfl rfl ?_
 refine EL_nil (thn_n ?_)
 obtain ⟨m8,hx,h⟩:=bsome h
 refine E_join (fun e w=>∃ (g:Gh) ,Fr gI wI g w∧e 0=.bool (m8)) (fun Q' hQ=>?_) (fun kH tH hR=>?_)
 ·replace h := hx
  clear hx
  refine E_region (EL_mw (.int .i64 (o0.2.2.2)) rfl rfl ?_)
  refine EL_in (.bool ((o0.2.2.2 == (0:Int)))) rfl rfl rfl rfl ?_
  refine EL_mw (.bool ((o0.2.2.2 == (0:Int)))) rfl rfl ?_
  rcases csome h with ⟨y6,h⟩ | ⟨y6,h⟩
  ·refine EL_y (.int .i64 (x6.2)) (P_move rfl) rfl rfl y6 rfl ?_
   refine EL_y (.bool ((x6.2 == (0:Int)))) (P_int rfl rfl rfl) rfl rfl y6 rfl ?_
   refine EL_p (.bool ((x6.2 == (0:Int)))) (P_pick (b:=(o0.2.2.2 == (0:Int))) rfl (pick_t y6 rfl)) rfl ?_
   refine EL_mw (.bool ((x6.2 == (0:Int)))) rfl rfl ?_
   rcases csome h with ⟨i7,h⟩ | ⟨i7,h⟩
   ·refine EL_y (.int .i64 (u3.2.2)) (P_move rfl) rfl rfl i7 rfl ?_
    refine EL_y (.bool ((u3.2.2 == (0:Int)))) (P_int rfl rfl rfl) rfl rfl i7 rfl ?_
    refine EL_p (.bool ((u3.2.2 == (0:Int)))) (P_pick (b:=(x6.2 == (0:Int))) rfl (pick_t i7 rfl)) rfl ?_
    refine EL_mw (.bool ((u3.2.2 == (0:Int)))) rfl rfl ?_
    rcases csome h with ⟨x5,h⟩ | ⟨x5,h⟩
    ·refine EL_y n8 (P_move rfl) rfl rfl x5 rfl ?_
     refine EL_y (.int .i64 ((o0.1).length:Int)) (P_len Tryz.underlying49 rfl l5) rfl rfl x5 rfl ?_
     refine EL_y (.bool ((((o0.1).length:Int) == (3:Int)))) (P_int rfl rfl rfl) rfl rfl x5 rfl ?_
     refine EL_p (.bool ((((o0.1).length:Int) == (3:Int)))) (P_pick (b:=(u3.2.2 == (0:Int))) rfl (pick_t x5 rfl)) rfl ?_
     refine EL_mw (.bool ((((o0.1).length:Int) == (3:Int)))) rfl rfl ?_
     rcases csome h with ⟨m7,h⟩ | ⟨m7,h⟩
     ·refine EL_y (.int .i64 (o0.2.1)) (P_move rfl) rfl rfl m7 rfl ?_
      refine EL_y (.bool ((o0.2.1 == (2:Int)))) (P_int rfl rfl rfl) rfl rfl m7 rfl ?_
      refine EL_p (.bool ((o0.2.1 == (2:Int)))) (P_pick (b:=(((o0.1).length:Int) == (3:Int))) rfl (pick_t m7 rfl)) rfl ?_
      refine EL_mw (.bool ((o0.2.1 == (2:Int)))) rfl rfl ?_
      rcases csome h with ⟨i6,h⟩ | ⟨i6,h⟩
      ·refine EL_y l8 (P_move rfl) rfl rfl i6 rfl ?_
       refine EL_do (.yes2 rfl rfl i6) rfl (D_buildSlice (g:=d9) 3069 (xs:=([(3:Int),(5:Int)]:List Int)) (vs:=[.int .i64 (3),.int .i64 (5)]) Tryz.underlying27 Tryz.sizeOf3 Tryz.zeroValue3 rfl rfl (.cons rfl (.cons rfl .nil)) (RVs.cons (RV_int.2 rfl) (RVs.cons (RV_int.2 rfl) RVs.nil)) rfl rfl fun cG uH eG hs o52 gG hxt hfl=>?_)
       have hfr:=hfr.stp hs
       have t5:=t5.stp hs
       obtain ⟨a9,aE,h⟩:=bsome h
       refine EL_do (.yes2 rfl rfl i6) rfl (D_call (g:=cG) (vs:=[l8,eG]) en16 (.cons rfl (.cons rfl .nil)) (wk16 t5 gG aE) fun iB lH xH hs hr=>?_)
       have hfr:=hfr.ext hs
       subst hr
       refine EL_p (.bool (a9)) (P_pick (b:=(o0.2.1 == (2:Int))) rfl (pick_t i6 rfl)) rfl ?_
       refine EL_mw (.bool (a9)) rfl rfl ?_
       rcases csome h with ⟨g8,h⟩ | ⟨g8,h⟩
       ·refine EL_y (.int .i64 (u3.1)) (P_move rfl) rfl rfl g8 rfl ?_
        refine EL_y (.bool ((u3.1 == (2:Int)))) (P_int rfl rfl rfl) rfl rfl g8 rfl ?_
        refine EL_p (.bool ((u3.1 == (2:Int)))) (P_pick (b:=a9) rfl (pick_t g8 rfl)) rfl ?_
        refine EL_mw (.bool ((u3.1 == (2:Int)))) rfl rfl ?_
        rcases csome h with ⟨k8,h⟩ | ⟨k8,h⟩
        ·refine EL_y (.int .i64 (u3.2.1)) (P_move rfl) rfl rfl k8 rfl ?_
         refine EL_y (.bool ((u3.2.1 == (3:Int)))) (P_int rfl rfl rfl) rfl rfl k8 rfl ?_
         refine EL_p (.bool ((u3.2.1 == (3:Int)))) (P_pick (b:=(u3.1 == (2:Int))) rfl (pick_t k8 rfl)) rfl ?_
         refine EL_at (.bool ((u3.2.1 == (3:Int)))) rfl rfl ?_
         refine EL_nil ?_
         obtain rfl:=sinj h
         exact hQ _ _ ⟨iB,hfr,rfl⟩
        ·refine EL_s rfl rfl k8 rfl rfl ?_
         refine EL_s rfl rfl k8 rfl rfl ?_
         refine EL_p (.bool false) (P_pick (b:=(u3.1 == (2:Int))) rfl (pick_f k8 rfl)) rfl ?_
         refine EL_at (.bool false) rfl rfl ?_
         refine EL_nil ?_
         obtain rfl:=sinj h
         exact hQ _ _ ⟨iB,hfr,rfl⟩
       ·refine EL_s rfl rfl g8 rfl rfl ?_
        refine EL_s rfl rfl g8 rfl rfl ?_
        refine EL_p (.bool false) (P_pick (b:=a9) rfl (pick_f g8 rfl)) rfl ?_
        refine EL_dead 4 rfl ?_
        refine EL_at (.bool false) rfl rfl ?_
        refine EL_nil ?_
        obtain rfl:=sinj h
        exact hQ _ _ ⟨iB,hfr,rfl⟩
      ·refine EL_s rfl rfl i6 rfl rfl ?_
       refine EL_s rfl rfl i6 rfl rfl ?_
       refine EL_s rfl rfl i6 rfl rfl ?_
       refine EL_p (.bool false) (P_pick (b:=(o0.2.1 == (2:Int))) rfl (pick_f i6 rfl)) rfl ?_
       refine EL_dead 8 rfl ?_
       refine EL_at (.bool false) rfl rfl ?_
       refine EL_nil ?_
       obtain rfl:=sinj h
       exact hQ _ _ ⟨d9,hfr,rfl⟩
     ·refine EL_s rfl rfl m7 rfl rfl ?_
      refine EL_s rfl rfl m7 rfl rfl ?_
      refine EL_p (.bool false) (P_pick (b:=(((o0.1).length:Int) == (3:Int))) rfl (pick_f m7 rfl)) rfl ?_
      refine EL_dead 13 rfl ?_
      refine EL_at (.bool false) rfl rfl ?_
      refine EL_nil ?_
      obtain rfl:=sinj h
      exact hQ _ _ ⟨d9,hfr,rfl⟩
    ·refine EL_s rfl rfl x5 rfl rfl ?_
     refine EL_s rfl rfl x5 rfl rfl ?_
     refine EL_s rfl rfl x5 rfl rfl ?_
     refine EL_p (.bool false) (P_pick (b:=(u3.2.2 == (0:Int))) rfl (pick_f x5 rfl)) rfl ?_
     refine EL_dead 17 rfl ?_
     refine EL_at (.bool false) rfl rfl ?_
     refine EL_nil ?_
     obtain rfl:=sinj h
     exact hQ _ _ ⟨d9,hfr,rfl⟩
   ·refine EL_s rfl rfl i7 rfl rfl ?_
    refine EL_s rfl rfl i7 rfl rfl ?_
    refine EL_p (.bool false) (P_pick (b:=(x6.2 == (0:Int))) rfl (pick_f i7 rfl)) rfl ?_
    refine EL_dead 22 rfl ?_
    refine EL_at (.bool false) rfl rfl ?_
    refine EL_nil ?_
    obtain rfl:=sinj h
    exact hQ _ _ ⟨d9,hfr,rfl⟩
  ·refine EL_s rfl rfl y6 rfl rfl ?_
   refine EL_s rfl rfl y6 rfl rfl ?_
   refine EL_p (.bool false) (P_pick (b:=(o0.2.2.2 == (0:Int))) rfl (pick_f y6 rfl)) rfl ?_
   refine EL_dead 26 rfl ?_
   refine EL_at (.bool false) rfl rfl ?_
   refine EL_nil ?_
   obtain rfl:=sinj h
   exact hQ _ _ ⟨d9,hfr,rfl⟩
 ·clear hx
  obtain ⟨yH,hfr,lB⟩:=hR
  refine E_ret ?_
  obtain rfl:=sinj h
  exact end1 rfl rfl (show _=.bool (m8) from lB) ⟨_,hfr,rfl⟩
theorem W37 {iO:Nat} {gI:Gh} {wI:World} {x0:List BoxShuttle} {up0:Value} (rp0:RV gI.m wI x0 up0) {r:List BoxShuttle} (h:f37 x0=some r):FnG Tryz.prog 37 #[up0] gI wI (fun g w v=>OWx (Ow.list 65 (Ow.sh BoxShuttle)) iO g w r v):=by
 unfold f37 at h
 refine fnG_of_E Tryz.func37 rfl (Nat.le_of_ble_eq_true rfl) fun g0 hm hfr=>?_
 have rp0:RV g0.m wI x0 up0:=hm ▸ rp0
 show E _ 8 none _ _ _ _ _
 refine E_seq (E_region (EL_at (.slice none 0 0) rfl rfl (EL_nil (thn_n ?_))))
 refine E_seq (E_seq (E_region (EL_mw up0 rfl rfl ?_)))
 obtain ⟨a,c,hv,hc,hrow⟩:=RV_list rp0
 refine EL_p (.bool a.isNone) (P_slnil Tryz.underlying31 (show ev _ _=_ from hv)) rfl (EL_nil (thn_n ?_))
 cases a with
 | none=>
  have hx:x0=[]:=by
   cases x0 with
   | nil=>rfl
   | cons y ys=>obtain ⟨b,off,hb,_⟩:=hrow (by simp); cases hb
  subst hx
  have hr:r=[]:=by unfold apnd at h; split at h <;> simp at h; exact h
  subst hr
  refine E_cond_true rfl (E_seq (E_region ?_))
  refine EL_at (.slice none 0 0) rfl rfl (EL_nil (thn_n ?_))
  obtain ⟨sk,ow,ok⟩:=OA.toW (OA.nil:OA 1 g0 wI 65 ([]:List BoxShuttle) (.slice none 0 0))
  obtain ⟨gh,hxh,_,homh⟩:=OW.hand (i:=iO) hfr ow ok; exact E_ret (thn_r (end1 rfl rfl (show _=.slice none 0 0 from rfl) ⟨gh,hxh,homh⟩))
 | some a=>
  refine E_cond_false rfl (E_skip (thn_n ?_))
  refine E_seq (E_region (EL_do .plain rfl (D_buildSlice (g:=g0) 1 (xs:=([]:List BoxShuttle)) (vs:=[]) Tryz.underlying31 Tryz.sizeOf65 Tryz.zeroValue65 rfl rfl .nil RVs.nil rfl rfl fun g1 w1 v1 hs o1 r1 hxt hfl=>?_)))
  have hfr:=hfr.stp hs
  have rp0:=rp0.stp hs
  refine EL_mw up0 rfl rfl ?_
  refine EL_do .plain rfl (D_appendE (g:=g1) plain_BoxShuttle (i:=1) Tryz.underlying31 info_65 rfl rfl o1 hfl rfl rp0 h fun g2 w2 v2 hs b2=>?_)
  have hfr:=hfr.ext hs
  refine EL_at v2 rfl rfl (EL_nil (thn_n ?_))
  obtain ⟨sk,ow,ok⟩:=OA.toW b2
  obtain ⟨gh,hxh,_,homh⟩:=OW.hand (i:=iO) hfr ow ok; exact E_ret (end1 rfl rfl (show _=v2 from rfl) ⟨gh,hxh,homh⟩)
def f13 (x0:BoxLoom) (x1:List BoxPick):Option ((List Int) × BoxLoom × Int × Int × Int):=
 (f35 x0 x1).bind fun y5=>
 jn (σ:=(List Int) × BoxLoom) (fun (sG,l8)=>
  Option.bind (α:=(List Int)) (
   lp (σ:=(List Int) × Int) (fun nI (tD,i7)=>
    bif (decide (i7 < (((y5.2.1).thrown).length : Int))) then
     Option.bind (α:=(List Int)) (
      (idx ((y5.2.1).thrown) i7).bind fun cC=>
      (idx (((y5.1).BoxLoom).Shuttles) (w64 (cC - (1:Int)))).bind fun y125=>
      (apnd 8 tD (([(y125).Colour]:List Int))).bind fun pI=>
      some (pI)
      ) fun nB=>
     nI (nB,(w64 (i7 + (1:Int))))
    else
     some (tD)
    ) big (sG,(0:Int))
   ) fun y6=>
  (f36 (((y5.1).BoxLoom).Boxes)).bind fun mC=>
  (f37 (((y5.1).BoxLoom).Shuttles)).bind fun qC=>
  Option.bind (α:=BoxLoom) (
   lp (σ:=BoxLoom × Int) (fun qI (uD,u3)=>
    bif (decide (u3 < (2 : Int))) then
     Option.bind (α:=BoxLoom) (
      (idx (((y5.2.1).last).boxes).toList u3).bind fun zE=>
      lp (σ:=BoxLoom × Int) (fun sI (o0,x6)=>
       bif (decide (x6 < (4 : Int))) then
        Option.bind (α:=BoxLoom) (
         (idx (zE).toList x6).bind fun x5=>
         bif (decide (x5 > (0 : Int))) then
          (idx ((o0).Shuttles) ((w64 (x5 - (1:Int))))).bind fun m8=>
          (idx ((({ o0 with Shuttles:=(List.set ((o0).Shuttles) (Int.toNat ((w64 (x5 - (1:Int))))) ({ m8 with Side:=u3 }:BoxShuttle)) }:BoxLoom)).Shuttles) ((w64 (x5 - (1:Int))))).bind fun cF=>
          some (({ (({ o0 with Shuttles:=(List.set ((o0).Shuttles) (Int.toNat ((w64 (x5 - (1:Int))))) ({ m8 with Side:=u3 }:BoxShuttle)) }:BoxLoom)) with Shuttles:=(List.set ((({ o0 with Shuttles:=(List.set ((o0).Shuttles) (Int.toNat ((w64 (x5 - (1:Int))))) ({ m8 with Side:=u3 }:BoxShuttle)) }:BoxLoom)).Shuttles) (Int.toNat ((w64 (x5 - (1:Int))))) ({ cF with Box:=x6 }:BoxShuttle)) }:BoxLoom))
         else
          some (o0)
         ) fun uC=>
        sI (uC,(w64 (x6 + (1:Int))))
       else
        some (o0)
       ) big (uD,(0:Int))
      ) fun vC=>
     qI (vC,(w64 (u3 + (1:Int))))
    else
     some (uD)
    ) big ((⟨mC,([(((y5.2.1).last).at_).Left,(((y5.2.1).last).at_).Right]:List Int),qC⟩:BoxLoom),(0:Int))
   ) fun vD=>
  some (y6,vD,(y5.2.1).moves,(0:Int),(0:Int))
  ) fun yL=>
 bif (y5.2.2.2 != (0 : Int)) then
  some ([],(⟨[],[],[]⟩:BoxLoom),(0:Int),y5.2.2.1,y5.2.2.2)
 else
  yL ([],(⟨[],[],[]⟩:BoxLoom))
theorem en13:Enters Tryz.prog 13:=enters_of Tryz.func13 (by kernel_rfl) rfl
theorem wk13 {gI:Gh} {wI:World} {x0:BoxLoom} {x1:List BoxPick} {up0:Value} (rp0:RV gI.m wI x0 up0) {up1:Value} (rp1:RV gI.m wI x1 up1) {r:(List Int) × BoxLoom × Int × Int × Int} (h:f13 x0 x1=some r):Fn Tryz.prog 13 #[up0,up1] gI wI (fun m w v=>∃ y0 y1 y2 y3 y4,v=.tuple #[y0,y1,y2,y3,y4]∧RV m w (r.1) y0∧RV m w (r.2.1) y1∧y2=.int .i64 (r.2.2.1)∧y3=.int .i64 (r.2.2.2.1)∧y4=.int .i64 (r.2.2.2.2)):=by
 unfold f13 at h
 refine fn_of_E Tryz.func13 rfl (Nat.le_of_ble_eq_true rfl) fun g0 hm hfr=>?_
 have rp0:RV g0.m wI x0 up0:=hm ▸ rp0
 have rp1:RV g0.m wI x1 up1:=hm ▸ rp1
 show E _ 101 none _ _ _ _ _
 refine E_seq (E_region (EL_do .plain rfl (D_box (g:=g0) rfl rp0 fun g1 w1 p1 hs q1=>?_)))
 have hfr:=hfr.ext hs
 have rp1:=rp1.ext hs
 refine EL_at (.slice none 0 0) rfl rfl ?_
 refine EL_do .plain rfl (D_allocOc (g:=g1) 2005 (⟨[],[],[]⟩:BoxLoom) Tryz.zeroValue33 (fun m w=>⟨_,(rep_two rep_nil (rep_two rep_nil rep_nil)),rfl⟩) fun g2 w2 p2 hs b2 cb=>?_)
 have hfr:=hfr.stp hs
 have rp1:=rp1.stp hs
 have q1:=q1.stp hs
 have u9:OSF 2005 60500 0 g2 w2 3 33 ([]:List Int) p2:=cb.osf (by rfl)
 have y9:OSF 2005 60501 1 g2 w2 3 33 ([]:List Int) p2:=cb.osf (by rfl)
 have z9:OSF 2005 60502 2 g2 w2 65 33 ([]:List BoxShuttle) p2:=cb.osf (by rfl)
 clear cb
 iterate 3 refine EL_at (.int .i64 (0)) rfl rfl ?_
 refine EL_nil (thn_n (E_seq (E_region (EL_do .plain rfl (D_load (g:=g2) Tryz.isAgg33 Tryz.sizeOf33 rfl q1 fun v3 r3=>?_)))))
 refine EL_mw up1 rfl rfl ?_
 obtain ⟨y5,hy5,h⟩:=bsome h
 refine EL_do .plain rfl (D_call (g:=g2) (vs:=[v3,up1]) en35 (.cons rfl (.cons rfl .nil)) (wk35 r3 rp1 hy5) fun g4 w4_ v4 hs hr=>?_)
 have hfr:=hfr.ext hs
 have u9:=u9.ext hs
 have y9:=y9.ext hs
 have z9:=z9.ext hs
 have b2:=b2.ext hs
 obtain ⟨gG,hG,eO,gO,rfl,xD,rC,rfl,rfl⟩:=hr
 refine EL_mw (.tuple #[gG,hG,.int .i64 (y5.2.2.1),.int .i64 (y5.2.2.2)]) rfl rfl ?_
 refine EL_p gG (P_extract rfl rfl) rfl ?_
 refine EL_p hG (P_extract rfl rfl) rfl ?_
 refine EL_p (.int .i64 (y5.2.2.1)) (P_extract rfl rfl) rfl ?_
 refine EL_p (.int .i64 (y5.2.2.2)) (P_extract rfl rfl) rfl ?_
 refine EL_do .plain rfl (D_allocOc (g:=g4) 2009 (⟨⟨[],[],[]⟩⟩:BoxBoxLoom) Tryz.zeroValue83 (fun m w=>⟨_,(rep_two rep_nil (rep_two rep_nil rep_nil)),rfl⟩) fun g6 w6 p6 hs b6 cb=>?_)
 have hfr:=hfr.stp hs
 have u9:=u9.stp hs rfl
 have y9:=y9.stp hs rfl
 have z9:=z9.stp hs rfl
 have b2:=b2.stp hs rfl
 have xD:=xD.stp hs
 have rC:=rC.stp hs
 have jO:OSF 2009 60900 0 g6 w6 3 83 ([]:List Int) p6:=cb.osf (by rfl)
 have kO:OSF 2009 60901 1 g6 w6 3 83 ([]:List Int) p6:=cb.osf (by rfl)
 have lO:OSF 2009 60902 2 g6 w6 65 83 ([]:List BoxShuttle) p6:=cb.osf (by rfl)
 clear cb
 refine EL_do .plain rfl (D_allocOc (g:=g6) 2010 (⟨[],⟨(⟨List.toArray [(⟨List.toArray [0,0,0,0],rfl⟩:Vector Int 4),(⟨List.toArray [0,0,0,0],rfl⟩:Vector Int 4)],rfl⟩:Vector (Vector Int 4) 2),⟨0,0⟩⟩,0⟩:BoxRun) Tryz.zeroValue105 (fun m w=>⟨_,(rep_two rep_nil (rep_two (rep_two (rep_vec (flat_chunk (rep_vec (flat_chunk rep_int (flat_chunk rep_int (flat_chunk rep_int (flat_chunk rep_int flat_nil)))) rfl) (flat_chunk (rep_vec (flat_chunk rep_int (flat_chunk rep_int (flat_chunk rep_int (flat_chunk rep_int flat_nil)))) rfl) flat_nil)) rfl) (rep_two rep_int rep_int)) rep_int)),rfl⟩) fun g7 w7 p7 hs b7 cb=>?_)
 have hfr:=hfr.stp hs
 have u9:=u9.stp hs rfl
 have y9:=y9.stp hs rfl
 have z9:=z9.stp hs rfl
 have b2:=b2.stp hs rfl
 have xD:=xD.stp hs
 have rC:=rC.stp hs
 have b6:=b6.stp hs rfl
 have mO:OSF 2010 61000 0 g7 w7 3 105 ([]:List Int) p7:=cb.osf (by rfl)
 clear cb
 refine EL_do .plain rfl (D_storeOc (g:=g7) (v:=gG) Tryz.sizeOf83 rfl b6 rfl xD fun g8 w8 hs b8 cb=>?_)
 clear cb
 have hfr:=hfr.stp hs
 have u9:=u9.stp hs rfl
 have y9:=y9.stp hs rfl
 have z9:=z9.stp hs rfl
 have b2:=b2.stp hs rfl
 have rC:=rC.stp hs
 have b7:=b7.stp hs rfl
 refine EL_do .plain rfl (D_storeOc (g:=g8) (v:=hG) Tryz.sizeOf105 rfl b7 rfl rC fun g9 w9 hs b9 cb=>?_)
 clear cb
 have hfr:=hfr.stp hs
 have u9:=u9.stp hs rfl
 have y9:=y9.stp hs rfl
 have z9:=z9.stp hs rfl
 have b2:=b2.stp hs rfl
 have b8:=b8.stp hs rfl
 refine EL_at (.int .i64 (y5.2.2.1)) rfl rfl ?_
 refine EL_at (.int .i64 (y5.2.2.2)) rfl rfl ?_
 refine EL_nil (thn_n (E_joinC h (fun (s:(List Int) × BoxLoom) e w=>∃ (g:Gh) (v4:Value),Fr gI wI g w∧e 4=v4∧RV g.m w (s.1:List Int) v4∧OS 1004 g w 3 (s.1:List Int) v4∧e 5=p2∧OB 2005 g w 33 (s.2:BoxLoom) p2∧OSF 2005 60500 0 g w 3 33 ((s.2).Boxes) p2∧OSF 2005 60501 1 g w 3 33 ((s.2).At) p2∧OSF 2005 60502 2 g w 65 33 ((s.2).Shuttles) p2∧e 9=p6∧OB 2009 g w 83 (y5.1:BoxBoxLoom) p6∧e 10=p7∧OB 2010 g w 105 (y5.2.1:BoxRun) p7) (fun X38 yL aM h=>?_) ?_))
 ·refine E_seq (E_region (EL_mw (.int .i64 (y5.2.2.2)) rfl rfl ?_))
  refine EL_in (.bool ((y5.2.2.2 != (0:Int)))) rfl rfl rfl rfl ?_
  refine EL_nil (thn_n ?_)
  rcases csome h with ⟨iG,h⟩ | ⟨iG,h⟩
  ·refine E_ct iG rfl ?_
   refine E_seq (L_selfO Tryz.isAgg33 Tryz.sizeOf33 rfl b2 fun tN bM cM=>?_)
   refine E_drawL (g:=g9) (n:=8) [(4,(fun _ _ _=>True))] [0,1,2,3,4,5,6,7] rfl mixed (by kernel_rfl) (⟨fun _=>(fun _ _ _ _ _ _=>trivial),trivial⟩) ?_
   refine L_ld (c:=tN) rfl rfl .plain (fun _ _ h=>⟨h.ch,fun b hb _=>h.below.block b hb⟩) (bM _) rfl ?_
   refine L_p (.int .i64 (y5.2.2.1)) rfl rfl (P_move rfl) ?_
   refine L_p (.int .i64 (y5.2.2.2)) rfl rfl (P_move rfl) ?_
   refine L_p (.slice none 0 0) rfl rfl (P_assign rfl) ?_
   refine L_do (φ:=fun _ _ _=>True) rfl rfl .plain (fun g w hd=>cM _ _ _ g w ⟨hd.1.ch,fun b hb _=>hd.1.below.block b hb⟩ rfl rfl) (fun sP hv=>?_)
   clear hv
   refine L_p (.int .i64 (0)) rfl rfl (P_assign rfl) ?_
   refine L_p (.int .i64 (y5.2.2.1)) rfl rfl (P_assign rfl) ?_
   refine L_p (.int .i64 (y5.2.2.2)) rfl rfl (P_assign rfl) ?_
   refine L_nl fun tP uP hs=>?_
   have hfr:=hfr.ext hs
   have b2:=b2.ext hs
   clear hs
   refine EL_nil (thn_n (E_ret (thn_r ?_)))
   obtain rfl:=sinj h
   obtain ⟨ad67,cv67,hp67,dM,cr67⟩:=ob_read Tryz.isAgg33 Tryz.sizeOf33 b2
   exact endm_tcttt rfl rfl (show _=.slice none 0 0 from rfl) ((show _=p2 from rfl).trans hp67) dM (show _=.int .i64 (0) from rfl) (show _=.int .i64 (y5.2.2.1) from rfl) (show _=.int .i64 (y5.2.2.2) from rfl) ⟨_,hfr,_,_,_,_,_,rfl,RV_nil,cr67,rfl,rfl,rfl⟩
  ·refine E_cf iG rfl ?_
   exact E_skip (thn_n (aM ([],(⟨[],[],[]⟩:BoxLoom)) _ _ ⟨g9,(.slice none 0 0),hfr,rfl,RV_nil,OS.nil,rfl,b2,u9,y9,z9,rfl,b8,rfl,b9⟩ h))
 ·rintro ⟨sG, l8⟩ nO vP ⟨zL, uK, hfr, vK, xK, yK, zK, aL, u5_0_68, u5_1_68, u5_2_68, bL, dL, xF, yD⟩ h
  obtain ⟨y6,hx,h⟩:=bsome h
  refine E_join (fun e w=>∃ (g:Gh) (v4:Value),Fr gI wI g w∧e 4=v4∧RV g.m w (y6:List Int) v4∧OS 1004 g w 3 (y6:List Int) v4∧e 5=p2∧OB 2005 g w 33 (l8:BoxLoom) p2∧OSF 2005 60500 0 g w 3 33 ((l8).Boxes) p2∧OSF 2005 60501 1 g w 3 33 ((l8).At) p2∧OSF 2005 60502 2 g w 65 33 ((l8).Shuttles) p2∧e 9=p6∧OB 2009 g w 83 (y5.1:BoxBoxLoom) p6∧e 10=p7∧OB 2010 g w 105 (y5.2.1:BoxRun) p7) (fun Q' hQ=>?_) (fun vN oO hR=>?_)
  ·replace h := hx
   clear hx
   refine E_seq (E_region (EL_p (fPtr p7 0) (P_fieldAddr at_105_0 xF (OB.ptr yD)) rfl ?_))
   refine EL_do .plain rfl (D_loadF (g:=zL) part_BoxRun_0.1 Tryz.isAgg27 Tryz.sizeOf27 rfl yD fun zD tI=>?_)
   refine EL_p (.int .i64 (((y5.2.1).thrown).length:Int)) (P_len Tryz.underlying27 rfl tI) rfl ?_
   refine EL_mw (.int .i64 (0)) rfl rfl ?_
   refine EL_nil (thn_n (E_block ?_))
   refine E_lp h (fun (s:(List Int) × Int) e w=>∃ (g:Gh) (v4:Value),Fr gI wI g w∧e 4=v4∧RV g.m w (s.1:List Int) v4∧OS 1004 g w 3 (s.1:List Int) v4∧e 5=p2∧OB 2005 g w 33 (l8:BoxLoom) p2∧OSF 2005 60500 0 g w 3 33 ((l8).Boxes) p2∧OSF 2005 60501 1 g w 3 33 ((l8).At) p2∧OSF 2005 60502 2 g w 65 33 ((l8).Shuttles) p2∧e 9=p6∧OB 2009 g w 83 (y5.1:BoxBoxLoom) p6∧e 10=p7∧OB 2010 g w 105 (y5.2.1:BoxRun) p7∧e 31=zD∧RV g.m w ((y5.2.1).thrown:List Int) zD∧e 32=.int .i64 ((((y5.2.1).thrown).length:Int))∧e 33=.int .i64 (s.2)) ⟨zL,(uK),hfr,vK,xK,yK,zK,aL,u5_0_68,u5_1_68,u5_2_68,bL,dL,xF,yD,rfl,tI,rfl,rfl⟩ (fun X103 nI eL=>?_)
   rintro ⟨tD,i7⟩ xN pO ⟨aE,uI,hfr,yF,aD,bD,zF,yA,u5_0_104,u5_1_104,u5_2_104,bE,r8,mE,k9,oE,v8,rE,gD⟩ h
   refine E_seq (E_region (EL_p (.bool ((decide (i7 < (((y5.2.1).thrown).length:Int))))) (P_int gD rE rfl) rfl ?_))
   refine EL_nil (thn_n (E_seq ?_))
   rcases csome h with ⟨dF,h⟩ | ⟨dF,h⟩
   ·refine E_ct dF rfl ?_
    refine E_skip (thn_n ?_)
    obtain ⟨nB,hx,h⟩:=bsome h
    refine E_join (fun e w=>∃ (g:Gh) (v4:Value),Fr gI wI g w∧e 4=v4∧RV g.m w (nB:List Int) v4∧OS 1004 g w 3 (nB:List Int) v4∧e 5=p2∧OB 2005 g w 33 (l8:BoxLoom) p2∧OSF 2005 60500 0 g w 3 33 ((l8).Boxes) p2∧OSF 2005 60501 1 g w 3 33 ((l8).At) p2∧OSF 2005 60502 2 g w 65 33 ((l8).Shuttles) p2∧e 9=p6∧OB 2009 g w 83 (y5.1:BoxBoxLoom) p6∧e 10=p7∧OB 2010 g w 105 (y5.2.1:BoxRun) p7∧e 31=zD∧RV g.m w ((y5.2.1).thrown:List Int) zD∧e 32=.int .i64 ((((y5.2.1).thrown).length:Int))∧e 33=.int .i64 (i7)) (fun Q' hQ=>?_) (fun yN qO hR=>?_)
    ·replace h := hx
     clear hx
     refine E_block ?_
     refine E_seq (E_region ?_)
     obtain ⟨cC,xG,h⟩:=bsome h
     refine EL_p (ePtr zD i7 1) (P_indexAddr (α:=Int) Tryz.underlying27 Tryz.sizeOf3 oE v8 gD xG) rfl ?_
     have eM:=PT_idx v8 xG
     refine EL_do .plain rfl (D_load (g:=aE) Tryz.isAgg3 Tryz.sizeOf3 rfl eM fun rO iM=>?_)
     obtain rfl:=RV_int.1 iM
     refine EL_at (.int .i64 (cC)) rfl rfl ?_
     refine EL_nil (thn_n (E_region (EL_mv yF rfl ?_)))
     refine EL_p (fPtr p6 0) (P_fieldAddr at_83_0 bE (OB.ptr r8)) rfl ?_
     refine EL_p (fPtr p6 2) (P_fieldAddr2 (o1:=0) rfl at_33_2 rfl (OB.ptr r8)) rfl ?_
     refine EL_do .plain rfl (D_loadF (g:=aE) (SubS.comp part_BoxBoxLoom_0 part_BoxLoom_2 rfl).1 Tryz.isAgg31 Tryz.sizeOf31 rfl r8 fun vI yI=>?_)
     refine EL_mw (.int .i64 (cC)) rfl rfl ?_
     refine EL_in (.int .i64 ((w64 (cC - (1:Int))))) rfl rfl rfl rfl ?_
     obtain ⟨y125,yG,h⟩:=bsome h
     refine EL_p (ePtr vI (w64 (cC - (1:Int))) 5) (P_indexAddr (α:=BoxShuttle) Tryz.underlying31 Tryz.sizeOf65 rfl yI rfl yG) rfl ?_
     have zI:=PT_idx yI yG
     refine EL_p (fPtr (ePtr vI (w64 (cC - (1:Int))) 5) 0) (P_fieldAddr at_65_0 rfl (PT.ptr zI)) rfl ?_
     have jM:=PT_field (part_BoxShuttle_0).1 zI
     refine EL_do .plain rfl (D_load (g:=aE) Tryz.isAgg3 Tryz.sizeOf3 rfl jM fun sO kM=>?_)
     obtain rfl:=RV_int.1 kM
     refine EL_do .plain rfl (D_buildSlice (g:=aE) 3046 (xs:=([(y125).Colour]:List Int)) (vs:=[.int .i64 ((y125).Colour)]) Tryz.underlying27 Tryz.sizeOf3 Tryz.zeroValue3 rfl rfl (.cons rfl .nil) (RVs.cons (RV_int.2 rfl) RVs.nil) rfl rfl fun mM tO uO hs o129 nM hxt hfl=>?_)
     have hfr:=hfr.stp hs
     have aD:=aD.stp hs
     have bD:=bD.stp hs rfl
     have u5_0_104:=u5_0_104.stp hs rfl
     have u5_1_104:=u5_1_104.stp hs rfl
     have u5_2_104:=u5_2_104.stp hs rfl
     have yA:=yA.stp hs rfl
     have r8:=r8.stp hs rfl
     have k9:=k9.stp hs rfl
     have v8:=v8.stp hs
     obtain ⟨pI,gL,h⟩:=bsome h
     refine EL_do .plain rfl (D_append (g:=mM) (i:=1004) Tryz.underlying27 info_3 rfl rfl bD aD rfl nM gL fun oM vO eJ hs o130 pM _=>?_)
     have hfr:=hfr.stp hs
     have u5_0_104:=u5_0_104.stp hs rfl
     have u5_1_104:=u5_1_104.stp hs rfl
     have u5_2_104:=u5_2_104.stp hs rfl
     have yA:=yA.stp hs rfl
     have r8:=r8.stp hs rfl
     have k9:=k9.stp hs rfl
     have v8:=v8.stp hs
     refine EL_at eJ rfl rfl ?_
     refine EL_nil (blk_n ?_)
     obtain rfl:=sinj h
     exact hQ _ _ ⟨oM,(eJ),hfr,rfl,pM,o130,zF,yA,u5_0_104,u5_1_104,u5_2_104,bE,r8,mE,k9,oE,v8,rE,gD⟩
    ·clear hx
     obtain ⟨qM,gJ,hfr,iJ,jJ,kJ,lJ,mJ,u5_0_132,u5_1_132,u5_2_132,nJ,oJ,gH,iH,jH,kH,lH,mH⟩:=hR
     refine E_region (EL_in (.int .i64 ((w64 (i7 + (1:Int))))) mH rfl rfl rfl ?_)
     refine EL_mw (.int .i64 ((w64 (i7 + (1:Int))))) rfl rfl ?_
     exact EL_nil (thn_n (eL (nB,(w64 (i7 + (1:Int)))) _ _ ⟨qM,(gJ),hfr,iJ,jJ,kJ,lJ,mJ,u5_0_132,u5_1_132,u5_2_132,nJ,oJ,gH,iH,jH,kH,lH,rfl⟩ h))
   ·refine E_cf dF rfl ?_
    refine E_exit ?_
    refine thn_e ?_
    refine thn_e ?_
    refine blk_hit ?_
    obtain rfl:=sinj h
    exact hQ _ _ ⟨aE,(uI),hfr,yF,aD,bD,zF,yA,u5_0_104,u5_1_104,u5_2_104,bE,r8,mE,k9⟩
  ·clear hx
   obtain ⟨rM,i6,hfr,pJ,m7,k8,aG,bA,u5_0_133,u5_1_133,u5_2_133,bG,aB,yB,t5⟩:=hR
   refine E_seq (L_loadO (x:=.tmp 50) (SubS.comp part_BoxBoxLoom_0 part_BoxLoom_0 rfl).1 Tryz.isAgg27 Tryz.sizeOf27 aB fun qJ sM iL=>?_)
   obtain ⟨mC,jL,h⟩:=bsome h
   refine L_loadO (x:=.tmp 55) (SubS.comp (SubS.comp part_BoxRun_1 part_BoxRace_1 rfl) part_BoxPick_0 rfl).1 Tryz.isAgg3 Tryz.sizeOf3 t5 fun xO tM lL=>?_
   obtain rfl:=RV_int.1 tM
   refine L_loadO (x:=.tmp 59) (SubS.comp (SubS.comp part_BoxRun_1 part_BoxRace_1 rfl) part_BoxPick_1 rfl).1 Tryz.isAgg3 Tryz.sizeOf3 t5 fun yO uM mL=>?_
   obtain rfl:=RV_int.1 uM
   refine L_loadO (x:=.tmp 63) (SubS.comp part_BoxBoxLoom_0 part_BoxLoom_2 rfl).1 Tryz.isAgg31 Tryz.sizeOf31 aB fun rJ vM nL=>?_
   obtain ⟨qC,oL,h⟩:=bsome h
   refine E_drawL (g:=rM) (n:=17) [(3,(fun v g w=>OWx (Ow.list 3 (Ow.sh Int)) 4052 g w mC v)),(12,(fun v g w=>OA 4061 g w 3 ([(((y5.2.1).last).at_).Left,(((y5.2.1).last).at_).Right]:List Int) v)),(16,(fun v g w=>OWx (Ow.list 65 (Ow.sh BoxShuttle)) 4065 g w qC v))] [0,1,2,3,4,5,6,7,8,9,10,11,12,13,14,15,16] rfl mixed (by kernel_rfl) (⟨fun _=>up_owx,fun _=>up_oa,fun _=>up_owx,trivial⟩) ?_
   refine L_p (fPtr p6 0) rfl rfl (P_fieldAddr at_83_0 bG (OB.ptr aB)) ?_
   refine L_p (fPtr p6 0) rfl rfl (P_fieldAddr2 (o1:=0) rfl at_33_0 rfl (OB.ptr aB)) ?_
   refine L_ld (c:=qJ) rfl rfl .plain (fun _ _ h=>⟨h.ch,fun b hb _=>h.below.block b hb⟩) iL rfl ?_
   refine L_do (φ:=fun v g w=>OWx (Ow.list 3 (Ow.sh Int)) 4052 g w mC v) rfl rfl .plain (fun g w hd=>D_callG (g:=g) (vs:=[qJ]) en36 (.cons rfl .nil) (W36 (iO:=4052) (sM.ext hd.1) jL) fun g' w' v hs hr=>⟨g',hs,hr⟩) (fun jG hv=>?_)
   clear hv
   refine L_p (fPtr p7 1) rfl rfl (P_fieldAddr at_105_1 yB (OB.ptr t5)) ?_
   refine L_p (fPtr p7 9) rfl rfl (P_fieldAddr2 (o1:=1) rfl at_94_1 rfl (OB.ptr t5)) ?_
   refine L_p (fPtr p7 9) rfl rfl (P_fieldAddr2 (o1:=9) rfl at_92_0 rfl (OB.ptr t5)) ?_
   refine L_ld (c:=.int .i64 ((((y5.2.1).last).at_).Left)) rfl rfl .plain (fun _ _ h=>⟨h.ch,fun b hb _=>h.below.block b hb⟩) lL rfl ?_
   refine L_p (fPtr p7 1) rfl rfl (P_fieldAddr at_105_1 yB (OB.ptr t5)) ?_
   refine L_p (fPtr p7 9) rfl rfl (P_fieldAddr2 (o1:=1) rfl at_94_1 rfl (OB.ptr t5)) ?_
   refine L_p (fPtr p7 10) rfl rfl (P_fieldAddr2 (o1:=9) rfl at_92_1 rfl (OB.ptr t5)) ?_
   refine L_ld (c:=.int .i64 ((((y5.2.1).last).at_).Right)) rfl rfl .plain (fun _ _ h=>⟨h.ch,fun b hb _=>h.below.block b hb⟩) mL rfl ?_
   refine L_do (φ:=fun v g w=>OA 4061 g w 3 ([(((y5.2.1).last).at_).Left,(((y5.2.1).last).at_).Right]:List Int) v) rfl rfl .plain (fun g w hd=>D_buildSliceA (g:=g) 4061 (xs:=([(((y5.2.1).last).at_).Left,(((y5.2.1).last).at_).Right]:List Int)) (vs:=[.int .i64 ((((y5.2.1).last).at_).Left),.int .i64 ((((y5.2.1).last).at_).Right)]) Tryz.underlying27 Tryz.sizeOf3 Tryz.zeroValue3 rfl rfl (.cons rfl (.cons rfl .nil)) (RVs.cons (RV_int.2 rfl) (RVs.cons (RV_int.2 rfl) RVs.nil)) rfl rfl fun g' w' v hs b hxt=>⟨g',hxt,b⟩) (fun kG hv=>?_)
   clear hv
   refine L_p (fPtr p6 0) rfl rfl (P_fieldAddr at_83_0 bG (OB.ptr aB)) ?_
   refine L_p (fPtr p6 2) rfl rfl (P_fieldAddr2 (o1:=0) rfl at_33_2 rfl (OB.ptr aB)) ?_
   refine L_ld (c:=rJ) rfl rfl .plain (fun _ _ h=>⟨h.ch,fun b hb _=>h.below.block b hb⟩) nL rfl ?_
   refine L_do (φ:=fun v g w=>OWx (Ow.list 65 (Ow.sh BoxShuttle)) 4065 g w qC v) rfl rfl .plain (fun g w hd=>D_callG (g:=g) (vs:=[rJ]) en37 (.cons rfl .nil) (W37 (iO:=4065) (vM.ext hd.1) oL) fun g' w' v hs hr=>⟨g',hs,hr⟩) (fun lG hv=>?_)
   clear hv
   refine L_nil fun zO xM hall=>?_
   have hs:=hall.1
   have hfr:=hfr.ext hs
   have m7:=m7.ext hs
   have k8:=k8.ext hs
   have bA:=bA.ext hs
   have t5:=t5.ext hs
   obtain ⟨sk161,ow161,ok161⟩:=(word_all (A:=fun g w=>OWx (Ow.list 3 (Ow.sh Int)) 4052 g w mC jG) 3 rfl hall)
   have b170:=(word_all (A:=fun g w=>OA 4061 g w 3 ([(((y5.2.1).last).at_).Left,(((y5.2.1).last).at_).Right]:List Int) kG) 12 rfl hall)
   obtain ⟨sk174,ow174,ok174⟩:=(word_all (A:=fun g w=>OWx (Ow.list 65 (Ow.sh BoxShuttle)) 4065 g w qC lG) 16 rfl hall)
   clear hs hall
   obtain ⟨sk176,ow176,ok176⟩:=OA.toW b170
   have wn177:=Wn.fl (OW.wn ow174)
   obtain ⟨gq178,hs,_,wn178⟩:=Wn.pair (OW.wn ow176) wn177 rfl
   have hfr:=hfr.stp hs
   have m7:=m7.stp hs
   have k8:=k8.stp hs rfl
   have bA:=bA.stp hs rfl
   have t5:=t5.stp hs rfl
   have ow161:=ow161.stp hs rfl
   obtain ⟨gq179,hs,_,wn179⟩:=Wn.pair (OW.wn ow161) wn178 rfl
   have hfr:=hfr.stp hs
   have m7:=m7.stp hs
   have k8:=k8.stp hs rfl
   have bA:=bA.stp hs rfl
   have t5:=t5.stp hs rfl
   obtain ⟨sJ,zG⟩:∃ v,v=(Value.agg (setCh [[.slice none 0 0],[.slice none 0 0],[.slice none 0 0]] [(0,jG),(1,kG),(2,lG)]).flatten.toArray):=⟨_,rfl⟩
   have ow175:OW ow_BoxLoom 4065 gq179 xM (⟨mC,([(((y5.2.1).last).at_).Left,(((y5.2.1).last).at_).Right]:List Int),qC⟩:BoxLoom) (sk161,(sk176,sk174)) sJ:=zG ▸ Wn.mk_ (Wn.struct (x:=((⟨mC,([(((y5.2.1).last).at_).Left,(((y5.2.1).last).at_).Right]:List Int),qC⟩:BoxLoom))) wn179)
   refine EL_p sJ (zG ▸ P_build (vs:=[(0,jG),(1,kG),(2,lG)]) [[.slice none 0 0],[.slice none 0 0],[.slice none 0 0]] lay_33 rfl rfl (.cons rfl (.cons rfl (.cons rfl .nil))) ⟨⟨_,rfl,OW.csz ow161⟩,⟨⟨_,rfl,OW.csz ow176⟩,⟨⟨_,rfl,OW.csz ow174⟩,trivial⟩⟩⟩) rfl ?_
   refine EL_do .plain rfl (D_storeOW (g:=gq179) Tryz.sizeOf33 aG bA rfl ow175 rfl fun gj180 vJ aP bk180 hsa hsb hpp b180=>?_)
   have hfr:=hfr.stp hsa
   have m7:=m7.stp hsa
   have k8:=k8.stp hsa rfl
   have t5:=t5.stp hsa rfl
   have hfr:=hfr.stp hsb
   have m7:=m7.stp hsb
   have k8:=k8.stp hsb rfl
   have t5:=t5.stp hsb rfl
   clear hsa hsb
   subst hpp
   refine EL_nil (thn_n ?_)
   obtain ⟨vD,hx,h⟩:=bsome h
   refine E_join (fun e w=>∃ (g:Gh) ,Fr gI wI g w∧e 4=i6∧RV g.m w (y6:List Int) i6∧OS 1004 g w 3 (y6:List Int) i6∧e 5=(Value.pointer (some ⟨bk180,0,none⟩))∧OVb ow_BoxLoom 2005 g w 33 (vD:BoxLoom) bk180∧e 10=p7∧OB 2010 g w 105 (y5.2.1:BoxRun) p7) (fun Q' hQ=>?_) (fun zN bP hR=>?_)
   ·replace h := hx
    clear hx
    refine E_seq (E_region (EL_p (fPtr p7 1) (P_fieldAddr at_105_1 yB (OB.ptr t5)) rfl ?_))
    refine EL_p (fPtr p7 1) (P_fieldAddr2 (o1:=1) rfl at_94_0 rfl (OB.ptr t5)) rfl ?_
    refine EL_do .plain rfl (D_loadF (g:=vJ) (SubS.comp part_BoxRun_1 part_BoxRace_0 rfl).1 Tryz.isAgg90 Tryz.sizeOf90 rfl t5 fun oB bN=>?_)
    refine EL_mw (.int .i64 (0)) rfl rfl ?_
    refine EL_nil (thn_n (E_block ?_))
    refine E_lp h (fun (s:BoxLoom × Int) e w=>∃ (g:Gh) ,Fr gI wI g w∧e 4=i6∧RV g.m w (y6:List Int) i6∧OS 1004 g w 3 (y6:List Int) i6∧e 5=(Value.pointer (some ⟨bk180,0,none⟩))∧OVb ow_BoxLoom 2005 g w 33 (s.1:BoxLoom) bk180∧e 10=p7∧OB 2010 g w 105 (y5.2.1:BoxRun) p7∧e 69=oB∧RV g.m w (((y5.2.1).last).boxes:Vector (Vector Int 4) 2) oB∧e 70=.int .i64 (s.2)) ⟨vJ,hfr,pJ,m7,k8,aG,⟨_,b180,(⟨ok161,⟨ok176,ok174⟩⟩:(ow_BoxLoom).ok (sk161,(sk176,sk174)))⟩,yB,t5,rfl,bN,rfl⟩ (fun X425 qI pL=>?_)
    rintro ⟨uD,u3⟩ aO cP ⟨xJ,hfr,cG,dB,iB,eG,⟨pN,lB,uE⟩,vE,l9,xE,x8,zB⟩ h
    refine E_seq (E_region (EL_in (.bool ((decide (u3 < (2:Int))))) zB rfl rfl rfl ?_))
    refine EL_nil (thn_n (E_seq ?_))
    rcases csome h with ⟨eF,h⟩ | ⟨eF,h⟩
    ·refine E_ct eF rfl ?_
     refine E_skip (thn_n ?_)
     obtain ⟨vC,hx,h⟩:=bsome h
     refine E_join (fun e w=>∃ (g:Gh) ,Fr gI wI g w∧e 4=i6∧RV g.m w (y6:List Int) i6∧OS 1004 g w 3 (y6:List Int) i6∧e 5=(Value.pointer (some ⟨bk180,0,none⟩))∧OVb ow_BoxLoom 2005 g w 33 (vC:BoxLoom) bk180∧e 10=p7∧OB 2010 g w 105 (y5.2.1:BoxRun) p7∧e 69=oB∧RV g.m w (((y5.2.1).last).boxes:Vector (Vector Int 4) 2) oB∧e 70=.int .i64 (u3)) (fun Q' hQ=>?_) (fun bO dP hR=>?_)
     ·replace h := hx
      clear hx
      refine E_block ?_
      refine E_seq (E_region (EL_mv zB rfl ?_))
      obtain ⟨zE,aH,h⟩:=bsome h
      have rF:=RV_idxA x8 aH
      generalize qL:partV _ _ _ _=yJ at rF
      refine EL_p yJ (qL ▸ P_indexA Tryz.underlying90 Tryz.isAgg89 Tryz.sizeOf89 xE x8 zB aH) rfl ?_
      refine EL_do .plain rfl (D_allocOc (g:=xJ) 2014 ((⟨List.toArray [0,0,0,0],rfl⟩:Vector Int 4):Vector Int 4) Tryz.zeroValue89 (fun m w=>⟨_,(rep_vec (flat_chunk rep_int (flat_chunk rep_int (flat_chunk rep_int (flat_chunk rep_int flat_nil)))) rfl),rfl⟩) fun cN eP gP hs b547 cb=>?_)
      have hfr:=hfr.stp hs
      have dB:=dB.stp hs
      have iB:=iB.stp hs rfl
      have lB:=lB.stp hs rfl
      have l9:=l9.stp hs rfl
      have x8:=x8.stp hs
      have rF:=rF.stp hs
      clear cb
      refine EL_at (.int .i64 (u3)) rfl rfl ?_
      refine EL_do .plain rfl (D_storeOc (g:=cN) (v:=yJ) Tryz.sizeOf89 rfl b547 rfl rF fun zJ iP hs b548 cb=>?_)
      clear cb
      have hfr:=hfr.stp hs
      have dB:=dB.stp hs
      have iB:=iB.stp hs rfl
      have lB:=lB.stp hs rfl
      have l9:=l9.stp hs rfl
      have x8:=x8.stp hs
      refine EL_nil (thn_n (E_seq (E_region (EL_do .plain rfl (D_loadO (g:=zJ) Tryz.isAgg89 Tryz.sizeOf89 rfl b548 fun sF dN=>?_)))))
      refine EL_mw (.int .i64 (0)) rfl rfl ?_
      refine EL_nil (thn_n (E_block ?_))
      refine E_lp h (fun (s:BoxLoom × Int) e w=>∃ (g:Gh) ,Fr gI wI g w∧e 4=i6∧RV g.m w (y6:List Int) i6∧OS 1004 g w 3 (y6:List Int) i6∧e 5=(Value.pointer (some ⟨bk180,0,none⟩))∧OVb ow_BoxLoom 2005 g w 33 (s.1:BoxLoom) bk180∧e 10=p7∧OB 2010 g w 105 (y5.2.1:BoxRun) p7∧e 13=.int .i64 (u3)∧e 69=oB∧RV g.m w (((y5.2.1).last).boxes:Vector (Vector Int 4) 2) oB∧e 70=.int .i64 (u3)∧e 74=sF∧RV g.m w (zE:Vector Int 4) sF∧e 75=.int .i64 (s.2)) ⟨zJ,hfr,cG,dB,iB,eG,⟨_,lB,uE⟩,vE,l9,rfl,xE,x8,zB,rfl,dN,rfl⟩ (fun X550 sI rL=>?_)
      rintro ⟨o0,x6⟩ cO eN ⟨mG,hfr,iE,iA,rA,tB,⟨l5,cD,n9⟩,iD,a9,jD,lD,d9,nD,oD,n8,mB⟩ h
      refine E_seq (E_region (EL_in (.bool ((decide (x6 < (4:Int))))) mB rfl rfl rfl ?_))
      refine EL_nil (thn_n (E_seq ?_))
      rcases csome h with ⟨tF,h⟩ | ⟨tF,h⟩
      ·refine E_ct tF rfl ?_
       refine E_skip (thn_n ?_)
       obtain ⟨uC,hx,h⟩:=bsome h
       refine E_join (fun e w=>∃ (g:Gh) ,Fr gI wI g w∧e 4=i6∧RV g.m w (y6:List Int) i6∧OS 1004 g w 3 (y6:List Int) i6∧e 5=(Value.pointer (some ⟨bk180,0,none⟩))∧OVb ow_BoxLoom 2005 g w 33 (uC:BoxLoom) bk180∧e 10=p7∧OB 2010 g w 105 (y5.2.1:BoxRun) p7∧e 13=.int .i64 (u3)∧e 69=oB∧RV g.m w (((y5.2.1).last).boxes:Vector (Vector Int 4) 2) oB∧e 70=.int .i64 (u3)∧e 74=sF∧RV g.m w (zE:Vector Int 4) sF∧e 75=.int .i64 (x6)) (fun Q' hQ=>?_) (fun dO jP hR=>?_)
       ·replace h := hx
        clear hx
        refine E_block ?_
        refine E_seq (E_region (EL_mv mB rfl ?_))
        obtain ⟨x5,cH,h⟩:=bsome h
        have gN:=RV_idxA n8 cH
        refine EL_p (.int .i64 (x5)) ((RV_int.1 gN) ▸ P_indexA Tryz.underlying89 Tryz.isAgg3 Tryz.sizeOf3 oD n8 mB cH) rfl ?_
        refine EL_at (.int .i64 (x6)) rfl rfl ?_
        refine EL_at (.int .i64 (x5)) rfl rfl ?_
        refine EL_nil (thn_n (E_seq (E_region (EL_mw (.int .i64 (x5)) rfl rfl ?_))))
        refine EL_in (.bool ((decide (x5 > (0:Int))))) rfl rfl rfl rfl ?_
        refine EL_nil (thn_n ?_)
        rcases csome h with ⟨uF,h⟩ | ⟨uF,h⟩
        ·refine E_ct uF rfl ?_
         obtain ⟨m8,sD,h⟩:=bsome h
         obtain ⟨bb623,cc623,ss623,hq623,dH⟩:=(OV.slice cD (Cxt.fld (Cxt.root ow_BoxLoom bk180) fl_BoxLoom_2 (o0) (l5)) rfl rfl ((n9.2).2)).2 sD
         obtain ⟨cF,vF,h⟩:=bsome h
         refine E_drawG (g:=mG) (w:=eN) (i:=2005) (A0:=fun g w=>OV ow_BoxLoom 2005 g w 33 (o0:BoxLoom) bk180 l5) (A1:=fun g w=>OV ow_BoxLoom 2005 g w 33 (({ o0 with Shuttles:=(List.set ((o0).Shuttles) (Int.toNat ((w64 (x5 - (1:Int))))) ({ m8 with Side:=u3 }:BoxShuttle)) }:BoxLoom):BoxLoom) bk180 l5) cD up_ov (n:=15) [(12,(fun _ g w=>OV ow_BoxLoom 2005 g w 33 (({ o0 with Shuttles:=(List.set ((o0).Shuttles) (Int.toNat ((w64 (x5 - (1:Int))))) ({ m8 with Side:=u3 }:BoxShuttle)) }:BoxLoom):BoxLoom) bk180 l5))] [0,1,2,3,4,5,6,7,8,9,10,11,12,13,14] rfl mixed (by kernel_rfl) (⟨fun _=>up_box,trivial⟩) ?_
         refine L_p ((.pointer (some ⟨bk180,(0 + 2),none⟩))) rfl rfl (P_fieldAddrH at_33_2 tB) ?_
         refine L_val (c:=(hdrV (Prod.snd (Prod.snd l5)) ((o0).Shuttles).length)) rfl rfl .plain (fun g w hd=>loadHAB (Cxt.fld (Cxt.root ow_BoxLoom bk180) fl_BoxLoom_2 (o0) (l5)) rfl rfl (Cxt.fld (Cxt.root ow_BoxLoom bk180) fl_BoxLoom_2 (({ o0 with Shuttles:=(List.set ((o0).Shuttles) (Int.toNat ((w64 (x5 - (1:Int))))) ({ m8 with Side:=u3 }:BoxShuttle)) }:BoxLoom)) (l5)) rfl rfl (by simp) ((n9.2).2) Tryz.isAgg31 rfl hd.1.2) ?_
         refine L_p (.int .i64 (x5)) rfl rfl (P_move rfl) ?_
         refine L_p (.int .i64 ((w64 (x5 - (1:Int))))) rfl rfl (P_int rfl rfl rfl) ?_
         refine L_p ((.pointer (some ⟨bk180,(0 + 2),none⟩))) rfl rfl (P_fieldAddrH at_33_2 tB) ?_
         refine L_val (c:=(hdrV (Prod.snd (Prod.snd l5)) ((o0).Shuttles).length)) rfl rfl .plain (fun g w hd=>loadHAB (Cxt.fld (Cxt.root ow_BoxLoom bk180) fl_BoxLoom_2 (o0) (l5)) rfl rfl (Cxt.fld (Cxt.root ow_BoxLoom bk180) fl_BoxLoom_2 (({ o0 with Shuttles:=(List.set ((o0).Shuttles) (Int.toNat ((w64 (x5 - (1:Int))))) ({ m8 with Side:=u3 }:BoxShuttle)) }:BoxLoom)) (l5)) rfl rfl (by simp) ((n9.2).2) Tryz.isAgg31 rfl hd.1.2) ?_
         refine L_p (.int .i64 (x5)) rfl rfl (P_move rfl) ?_
         refine L_p (.int .i64 ((w64 (x5 - (1:Int))))) rfl rfl (P_int rfl rfl rfl) ?_
         refine L_p (.int .i64 (u3)) rfl rfl (P_move jD) ?_
         refine L_p (.int .i64 (x6)) rfl rfl (P_move rfl) ?_
         refine L_p ((.pointer (some ⟨bb623,((Int.toNat ((w64 (x5 - (1:Int))))) * 5),none⟩))) rfl rfl (P_indexH Tryz.underlying31 Tryz.sizeOf65 (rfl.trans (hdr_at hq623 _)) rfl (idx_nat sD)) ?_
         refine L_p ((.pointer (some ⟨bb623,(((Int.toNat ((w64 (x5 - (1:Int))))) * 5) + 1),none⟩))) rfl rfl (P_fieldAddrH at_65_1 rfl) ?_
         refine L_do (φ:=fun _ g w=>OV ow_BoxLoom 2005 g w 33 (({ o0 with Shuttles:=(List.set ((o0).Shuttles) (Int.toNat ((w64 (x5 - (1:Int))))) ({ m8 with Side:=u3 }:BoxShuttle)) }:BoxLoom):BoxLoom) bk180 l5) rfl rfl .plain (fun g w hd=>D_storeOVR (g:=g) (u':=(u3:Int)) (Cxt.fld (Cxt.idx (Cxt.fld (Cxt.root ow_BoxLoom bk180) fl_BoxLoom_2 (o0) (l5)) ((o0).Shuttles) (Int.toNat ((w64 (x5 - (1:Int))))) bb623 cc623 ss623 (idx_nat sD).2 dH) fl_BoxShuttle_1 (m8) (())) ((congrArg (fun q=>({ o0 with Shuttles:=q }:BoxLoom)) (set_idx sD)).trans rfl) rfl (((congrArg (fun q=>((Prod.fst l5),((Prod.fst (Prod.snd l5)),(Sl.at bb623 cc623 q)))) set_unit).trans (congrArg (fun q=>((Prod.fst l5),((Prod.fst (Prod.snd l5)),q))) (hq623).symm)).trans rfl) Tryz.sizeOf3 rfl hd.1.2 rfl (RV_int.2 rfl)) (fun kP hv=>?_)
         clear hv
         refine L_p ((.pointer (some ⟨bb623,((Int.toNat ((w64 (x5 - (1:Int))))) * 5),none⟩))) rfl rfl (P_indexH Tryz.underlying31 Tryz.sizeOf65 (rfl.trans (hdr_at hq623 _)) rfl (by simpa using idx_nat vF)) ?_
         refine L_p ((.pointer (some ⟨bb623,(((Int.toNat ((w64 (x5 - (1:Int))))) * 5) + 2),none⟩))) rfl rfl (P_fieldAddrH at_65_2 rfl) ?_
         refine L_nil fun iN lP hall=>?_
         have hs:=hall.1.1
         have hfr:=hfr.stp hs
         have iA:=iA.stp hs
         have rA:=rA.stp hs rfl
         have a9:=a9.stp hs rfl
         have d9:=d9.stp hs
         have n8:=n8.stp hs
         have b631:=(word_all (A:=fun g w=>OV ow_BoxLoom 2005 g w 33 (({ o0 with Shuttles:=(List.set ((o0).Shuttles) (Int.toNat ((w64 (x5 - (1:Int))))) ({ m8 with Side:=u3 }:BoxShuttle)) }:BoxLoom):BoxLoom) bk180 l5) 12 rfl hall)
         clear hs hall
         refine EL_do .plain rfl (D_storeOV (g:=iN) (u':=(x6:Int)) (Cxt.fld (Cxt.idx (Cxt.fld (Cxt.root ow_BoxLoom bk180) fl_BoxLoom_2 (({ o0 with Shuttles:=(List.set ((o0).Shuttles) (Int.toNat ((w64 (x5 - (1:Int))))) ({ m8 with Side:=u3 }:BoxShuttle)) }:BoxLoom)) (l5)) ((({ o0 with Shuttles:=(List.set ((o0).Shuttles) (Int.toNat ((w64 (x5 - (1:Int))))) ({ m8 with Side:=u3 }:BoxShuttle)) }:BoxLoom)).Shuttles) (Int.toNat ((w64 (x5 - (1:Int))))) bb623 cc623 ss623 (idx_nat vF).2 (by simpa using dH)) fl_BoxShuttle_2 (cF) (())) ((congrArg (fun q=>({ (({ o0 with Shuttles:=(List.set ((o0).Shuttles) (Int.toNat ((w64 (x5 - (1:Int))))) ({ m8 with Side:=u3 }:BoxShuttle)) }:BoxLoom)) with Shuttles:=q }:BoxLoom)) (set_idx vF)).trans rfl) (((congrArg (fun q=>((Prod.fst l5),((Prod.fst (Prod.snd l5)),(Sl.at bb623 cc623 q)))) set_unit).trans (congrArg (fun q=>((Prod.fst l5),((Prod.fst (Prod.snd l5)),q))) (hq623).symm)).trans rfl) Tryz.sizeOf3 rfl b631 rfl (RV_int.2 rfl) fun aK jN hs b660=>?_)
         have hfr:=hfr.stp hs
         have iA:=iA.stp hs
         have rA:=rA.stp hs rfl
         have a9:=a9.stp hs rfl
         have d9:=d9.stp hs
         have n8:=n8.stp hs
         replace b660:OV ow_BoxLoom 2005 aK jN 33 (({ (({ o0 with Shuttles:=(List.set ((o0).Shuttles) (Int.toNat ((w64 (x5 - (1:Int))))) ({ m8 with Side:=u3 }:BoxShuttle)) }:BoxLoom)) with Shuttles:=(List.set ((({ o0 with Shuttles:=(List.set ((o0).Shuttles) (Int.toNat ((w64 (x5 - (1:Int))))) ({ m8 with Side:=u3 }:BoxShuttle)) }:BoxLoom)).Shuttles) (Int.toNat ((w64 (x5 - (1:Int))))) ({ cF with Box:=x6 }:BoxShuttle)) }:BoxLoom):BoxLoom) bk180 l5:=b660
         refine EL_nil (blk_n ?_)
         obtain rfl:=sinj h
         exact hQ _ _ ⟨aK,hfr,iE,iA,rA,tB,⟨_,b660,n9⟩,iD,a9,jD,lD,d9,nD,oD,n8,mB⟩
        ·refine E_cf uF rfl ?_
         refine E_skip (blk_n ?_)
         obtain rfl:=sinj h
         exact hQ _ _ ⟨mG,hfr,iE,iA,rA,tB,⟨_,cD,n9⟩,iD,a9,jD,lD,d9,nD,oD,n8,mB⟩
       ·clear hx
        obtain ⟨kN,hfr,bK,cK,dK,lK,⟨qN,mK,nH⟩,oH,pH,qH,sH,tH,uH,xH,yH,zH⟩:=hR
        refine E_region (EL_in (.int .i64 ((w64 (x6 + (1:Int))))) zH rfl rfl rfl ?_)
        refine EL_mw (.int .i64 ((w64 (x6 + (1:Int))))) rfl rfl ?_
        exact EL_nil (thn_n (rL (uC,(w64 (x6 + (1:Int)))) _ _ ⟨kN,hfr,bK,cK,dK,lK,⟨_,mK,nH⟩,oH,pH,qH,sH,tH,uH,xH,yH,rfl⟩ h))
      ·refine E_cf tF rfl ?_
       refine E_exit ?_
       refine thn_e ?_
       refine thn_e ?_
       refine blk_hit ?_
       refine blk_n ?_
       obtain rfl:=sinj h
       exact hQ _ _ ⟨mG,hfr,iE,iA,rA,tB,⟨_,cD,n9⟩,iD,a9,lD,d9,nD⟩
     ·clear hx
      obtain ⟨lN,hfr,nK,oK,pK,qK,⟨rN,sK,aI⟩,bI,dI,iI,jI,kI⟩:=hR
      refine E_region (EL_in (.int .i64 ((w64 (u3 + (1:Int))))) kI rfl rfl rfl ?_)
      refine EL_mw (.int .i64 ((w64 (u3 + (1:Int))))) rfl rfl ?_
      exact EL_nil (thn_n (pL (vC,(w64 (u3 + (1:Int)))) _ _ ⟨lN,hfr,nK,oK,pK,qK,⟨_,sK,aI⟩,bI,dI,iI,jI,rfl⟩ h))
    ·refine E_cf eF rfl ?_
     refine E_exit ?_
     refine thn_e ?_
     refine thn_e ?_
     refine blk_hit ?_
     obtain rfl:=sinj h
     exact hQ _ _ ⟨xJ,hfr,cG,dB,iB,eG,⟨_,lB,uE⟩,vE,l9⟩
   ·clear hx
    obtain ⟨mN,hfr,tK,vB,uN,lE,⟨sN,eD,lI⟩,mI,yE⟩:=hR
    refine E_seq (L_self Tryz.isAgg33 Tryz.sizeOf33 rfl eD fun nN tL uL=>?_)
    refine L_loadO (x:=.tmp 99) part_BoxRun_2.1 Tryz.isAgg3 Tryz.sizeOf3 yE fun mP oN vL=>?_
    obtain rfl:=RV_int.1 oN
    refine E_drawL (g:=mN) (n:=9) [(5,(fun _ _ _=>True))] [0,1,2,3,4,5,6,7,8] rfl mixed (by kernel_rfl) (⟨fun _=>(fun _ _ _ _ _ _=>trivial),trivial⟩) ?_
    refine L_p i6 rfl rfl (P_move tK) ?_
    refine L_ld (c:=nN) rfl rfl .plain (fun _ _ h=>⟨h.ch,fun b hb _=>h.below.block b hb⟩) (tL _) lE ?_
    refine L_p (fPtr p7 11) rfl rfl (P_fieldAddr at_105_2 mI (OB.ptr yE)) ?_
    refine L_ld (c:=.int .i64 ((y5.2.1).moves)) rfl rfl .plain (fun _ _ h=>⟨h.ch,fun b hb _=>h.below.block b hb⟩) vL rfl ?_
    refine L_p i6 rfl rfl (P_assign rfl) ?_
    refine L_do (φ:=fun _ _ _=>True) rfl rfl .plain (fun g w hd=>uL _ _ _ g w ⟨hd.1.ch,fun b hb _=>hd.1.below.block b hb⟩ lE rfl) (fun nP hv=>?_)
    clear hv
    refine L_p (.int .i64 ((y5.2.1).moves)) rfl rfl (P_assign rfl) ?_
    refine L_p (.int .i64 (0)) rfl rfl (P_assign rfl) ?_
    refine L_p (.int .i64 (0)) rfl rfl (P_assign rfl) ?_
    refine L_nl fun oP pP hs=>?_
    have hfr:=hfr.ext hs
    have vB:=vB.ext hs
    have eD:=eD.ext hs
    clear hs
    refine EL_nil (thn_n (E_ret ?_))
    obtain ⟨go680,hs,b680⟩:=OV.toOB eD lI
    have hfr:=hfr.stp hs
    have vB:=vB.stp hs
    obtain rfl:=sinj h
    obtain ⟨ad681,cv681,hp681,xL,cr681⟩:=ob_read Tryz.isAgg33 Tryz.sizeOf33 b680
    exact endm_tcttt rfl rfl (show _=i6 from rfl) ((show _=(Value.pointer (some ⟨bk180,0,none⟩)) from lE).trans hp681) xL (show _=.int .i64 ((y5.2.1).moves) from rfl) (show _=.int .i64 (0) from rfl) (show _=.int .i64 (0) from rfl) ⟨_,hfr,_,_,_,_,_,rfl,vB,cr681,rfl,rfl,rfl⟩
def f3 (x0:UInt8) (x1:List UInt16) (x2:Race):Option (Bool):=
 (f4 x0 x1).bind fun y3=>
 (f5 x2).bind fun y6=>
 (f6 ((y3).Hooks) (([(⟨0,(w64 ((y3).Hooks - (1:Int))),(2:Int),(2:Int)⟩:TieGroup)]:List TieGroup))).bind fun vC=>
 (f8 y3).bind fun dH=>
 (f7 (vC.1) dH).bind fun i6=>
 jn (σ:=Unit) (fun _=>
  (f9 ((y3).Rows) ((12:Int))).bind fun eD=>
  (f11 y6).bind fun gO=>
  (f12 eD).bind fun iO=>
  (f10 gO iO).bind fun y110=>
  Option.bind (α:=(List Int) × (List BoxPick) × Int) (
   Option.bind (α:=Bool) (
    bif (y110.2.2.2 == (9 : Int)) then
     bif (decide (y110.2.2.1 ≥ (0 : Int))) then
      some ((decide (y110.2.2.1 < ((eD).length:Int))))
     else
      some (false)
    else
     some (false)
    ) fun aD=>
   bif aD then
    (cut eD 0 y110.2.2.1).bind fun y132=>
    (f11 y6).bind fun jO=>
    (f12 y132).bind fun kO=>
    (f10 jO kO).bind fun y140=>
    some (y132,y140.1,y140.2.2.2)
   else
    some (eD,y110.1,y110.2.2.2)
   ) fun (o0,bD,z9)=>
  (f11 y6).bind fun lO=>
  (apnd 16 (([]:List BoxPick)) bD).bind fun mO=>
  (f13 lO mO).bind fun a9=>
  (f11 y6).bind fun nO=>
  (apnd 16 (([]:List BoxPick)) bD).bind fun y157=>
  (f14 nO y157).bind fun y159=>
  (f11 y6).bind fun oO=>
  (apnd 16 (([]:List BoxPick)) bD).bind fun y165=>
  (f15 oO y165).bind fun g8=>
  jn (σ:=Unit) (fun _=>
   jn (σ:=Int) (fun k8=>
    Option.bind (α:=Bool) (
     bif (decide (g8.2.1 ≥ (0 : Int))) then
      bif (decide (g8.2.1 < (0 : Int))) then
       bif (decide (((o0).length : Int) ≤ (((i6.1 : List Str)).length : Int))) then
        (f17).bind fun yE=>
        bif yE then
         (f18).bind fun uI=>
         some (uI)
        else
         some (false)
       else
        some (false)
      else
       bif (decide (k8 < ((o0).length : Int))) then
        bif (decide (((o0).length : Int) ≤ (((i6.1 : List Str)).length : Int))) then
         (f17).bind fun zE=>
         bif zE then
          (f18).bind fun vI=>
          some (vI)
         else
          some (false)
        else
         some (false)
       else
        some (false)
     else
      bif (k8 == ((o0).length : Int)) then
       bif (decide (g8.2.1 < (0 : Int))) then
        bif (decide (((o0).length : Int) ≤ (((i6.1 : List Str)).length : Int))) then
         (f17).bind fun cF=>
         bif cF then
          (f18).bind fun yI=>
          some (yI)
         else
          some (false)
        else
         some (false)
       else
        bif (decide (k8 < ((o0).length : Int))) then
         bif (decide (((o0).length : Int) ≤ (((i6.1 : List Str)).length : Int))) then
          (f17).bind fun dF=>
          bif dF then
           (f18).bind fun zI=>
           some (zI)
          else
           some (false)
         else
          some (false)
        else
         some (false)
      else
       some (false)
     ) fun aE=>
    some (aE)
    ) fun pO=>
   lp (σ:=Int × Int) (fun qO (r8,m7)=>
    jn (σ:=Unit) (fun _=>
     jn (σ:=Int) (fun eF=>
      qO (eF,(w64 (m7 + (1:Int))))
      ) fun rO=>
     Option.bind (α:=Int) (
      lp (σ:=Int × Int) (fun sO (bA,x8)=>
       jn (σ:=Unit) (fun _=>
        Option.bind (α:=Int) (
         (idx o0 x8).bind fun zJ=>
         bif (zJ == m7) then
          some ((w64 (bA + (1:Int))))
         else
          some (bA)
         ) fun tD=>
        sO (tD,(w64 (x8 + (1:Int))))
        ) fun tO=>
       bif (decide (x8 < ((o0).length : Int))) then
        tO ()
       else
        some (bA)
       ) big ((0:Int),(0:Int))
      ) fun zB=>
     (idx ((y6).Shuttles) m7).bind fun iA=>
     jn (σ:=Unit) (fun _=>
      (idx (y159.1) m7).bind fun rF=>
      rO ((w64 (r8 + (w64 (((iA).Yarn).High - (rF).High)))))
      ) fun uO=>
     (idx (y159.1) m7).bind fun aK=>
     bif ((aK).High != (max64 (0 : Int) (w64 (((iA).Yarn).High - zB)))) then
      some (false)
     else
      uO ()
     ) fun vO=>
    bif (decide (m7 < (3 : Int))) then
     vO ()
    else
     pO (r8)
    ) big ((0:Int),(0:Int))
   ) fun xO=>
  Option.bind (α:=Bool) (
   bif (z9 != (0 : Int)) then
    some (true)
   else
    bif (a9.2.2.2.2 != (0 : Int)) then
     some (true)
    else
     bif (y159.2.2 != (0 : Int)) then
      some (true)
     else
      bif (g8.2.2 != (0 : Int)) then
       some (true)
      else
       (f16 (a9.1) o0).bind fun yD=>
       bif (!yD) then
        some (true)
       else
        some ((((y159.1).length:Int) != (3:Int)))
   ) fun mC=>
  bif mC then
   some (false)
  else
   xO ()
  ) fun mS=>
 Option.bind (α:=Bool) (
  bif (vC.2.2 != (0 : Int)) then
   some (true)
  else
   bif (i6.2 != (0 : Int)) then
    some (true)
   else
    some (((((i6.1:List Str)).length:Int) != (((y3).Rows).length:Int)))
  ) fun nD=>
 bif nD then
  some (false)
 else
  mS ()
theorem wk3 {gI:Gh} {wI:World} {x0:UInt8} {x1:List UInt16} {x2:Race} {up1:Value} (rp1:RV gI.m wI x1 up1) {up2:Value} (rp2:RV gI.m wI x2 up2) {r:Bool} (h:f3 x0 x1 x2=some r):Fn Tryz.prog 3 #[.int .u8 (UInt8.toNat (x0)),up1,up2] gI wI (fun _ _ v=>v=.bool (r)):=by
 unfold f3 at h
 refine fn_of_E Tryz.func3 rfl (Nat.le_of_ble_eq_true rfl) fun g0 hm hfr=>?_
 have rp1:RV g0.m wI x1 up1:=hm ▸ rp1
 have rp2:RV g0.m wI x2 up2:=hm ▸ rp2
 show E _ 243 none _ _ _ _ _
 refine E_seq (E_region (EL_do .plain rfl (D_box (g:=g0) rfl rp2 fun g1 w1 p1 hs q1=>?_)))
 have hfr:=hfr.ext hs
 have rp1:=rp1.ext hs
 refine EL_at (.bool false) rfl rfl ?_
 refine EL_nil (thn_n (E_seq ?_))
 obtain ⟨y3,hy3,h⟩:=bsome h
 refine L_load (x:=.tmp 5) Tryz.isAgg26 Tryz.sizeOf26 q1 fun v4 r4 kW=>?_
 obtain ⟨y6,lW,h⟩:=bsome h
 refine E_drawL (g:=g1) (n:=7) [(2,(fun v g w=>RV g.m w y3 v)),(4,(fun v g w=>RV g.m w y6 v)),(5,(fun v g w=>OB 2007 g w 29 (⟨0,[]⟩:Design) v)),(6,(fun v g w=>OB 2008 g w 33 (⟨[],[],[]⟩:BoxLoom) v))] [0,1,2,3,4,5,6] rfl mixed (by kernel_rfl) (⟨fun _=>up_rv,fun _=>up_rv,fun _=>up_ob,fun _=>up_ob,trivial⟩) ?_
 refine L_p (.int .u8 (UInt8.toNat (x0))) rfl rfl (P_move rfl) ?_
 refine L_p up1 rfl rfl (P_move rfl) ?_
 refine L_do (φ:=fun v g w=>RV g.m w y3 v) rfl rfl .plain (fun g w hd=>D_call (g:=g) (vs:=[.int .u8 (UInt8.toNat (x0)),up1]) en4 (.cons rfl (.cons rfl .nil)) (wk4 (rp1.ext hd.1) hy3) fun g' w' v hs hr=>⟨g',hs,hr⟩) (fun v2 hv=>?_)
 obtain ⟨_,_,_,rq2⟩:=hv
 refine L_ld (c:=v4) rfl rfl .plain (fun _ _ h=>h.ch) kW rfl ?_
 refine L_do (φ:=fun v g w=>RV g.m w y6 v) rfl rfl .plain (fun g w hd=>D_call (g:=g) (vs:=[v4]) en5 (.cons rfl .nil) (wk5 (r4.ext hd.1) lW) fun g' w' v hs hr=>⟨g',hs,hr⟩) (fun v5 hv=>?_)
 obtain ⟨_,_,_,rq5⟩:=hv
 refine L_do (φ:=fun v g w=>OB 2007 g w 29 (⟨0,[]⟩:Design) v) rfl rfl .plain (fun g w hd=>D_allocX (g:=g) 2007 (⟨0,[]⟩:Design) Tryz.zeroValue29 (fun m w=>⟨_,(rep_two rep_int rep_nil),rfl⟩) fun g' w' v hs b=>⟨g',hs,b⟩) (fun v7 hv=>?_)
 clear hv
 refine L_do (φ:=fun v g w=>OB 2008 g w 33 (⟨[],[],[]⟩:BoxLoom) v) rfl rfl .plain (fun g w hd=>D_allocX (g:=g) 2008 (⟨[],[],[]⟩:BoxLoom) Tryz.zeroValue33 (fun m w=>⟨_,(rep_two rep_nil (rep_two rep_nil rep_nil)),rfl⟩) fun g' w' v hs b=>⟨g',hs,b⟩) (fun v8 hv=>?_)
 clear hv
 refine L_nil fun g9 w9 hall=>?_
 have hs:=hall.1
 have hfr:=hfr.ext hs
 have mW:=(word_all (A:=fun g w=>RV g.m w y3 v2) 2 rfl hall)
 have yO:=(word_all (A:=fun g w=>RV g.m w y6 v5) 4 rfl hall)
 have b20:=(word_all (A:=fun g w=>OB 2007 g w 29 (⟨0,[]⟩:Design) v7) 5 rfl hall)
 have b21:=(word_all (A:=fun g w=>OB 2008 g w 33 (⟨[],[],[]⟩:BoxLoom) v8) 6 rfl hall)
 clear hs hall
 refine EL_do .plain rfl (D_storeOc (g:=g9) (v:=v2) Tryz.sizeOf29 rfl b20 rfl mW fun nW w22 hs b22 cb=>?_)
 clear cb
 have hfr:=hfr.stp hs
 have yO:=yO.stp hs
 have b21:=b21.stp hs rfl
 refine EL_do .plain rfl (D_storeOc (g:=nW) (v:=v5) Tryz.sizeOf33 rfl b21 rfl yO fun sK oW hs b23 cb=>?_)
 clear cb
 have hfr:=hfr.stp hs
 have b22:=b22.stp hs rfl
 refine EL_nil (thn_n (E_seq (E_region (EL_p (fPtr v7 0) (P_fieldAddr at_29_0 rfl (OB.ptr b22)) rfl ?_))))
 refine EL_do .plain rfl (D_loadF (g:=sK) part_Design_0.1 Tryz.isAgg3 Tryz.sizeOf3 rfl b22 fun v25 pW=>?_)
 obtain rfl:=RV_int.1 pW
 refine EL_p (fPtr v7 0) (P_fieldAddr at_29_0 rfl (OB.ptr b22)) rfl ?_
 refine EL_do .plain rfl (D_loadF (g:=sK) part_Design_0.1 Tryz.isAgg3 Tryz.sizeOf3 rfl b22 fun v27 qW=>?_)
 obtain rfl:=RV_int.1 qW
 refine EL_in (.int .i64 ((w64 ((y3).Hooks - (1:Int))))) rfl rfl rfl rfl ?_
 have nS:RV sK.m oW (⟨0,(w64 ((y3).Hooks - (1:Int))),(2:Int),(2:Int)⟩:TieGroup) (.agg (setCh [[.int .i64 0],[.int .i64 0],[.int .i64 0],[.int .i64 0]] [(1,.int .i64 ((w64 ((y3).Hooks - (1:Int))))),(2,.int .i64 (2)),(3,.int .i64 (2))]).flatten.toArray):=RV_build rfl (rep_pair (rep_int) (rep_pair (rfl) (rep_pair (rfl) (rep_last (rfl)))))
 generalize vS:(Value.agg (setCh [[.int .i64 0],[.int .i64 0],[.int .i64 0],[.int .i64 0]] [(1,.int .i64 ((w64 ((y3).Hooks - (1:Int))))),(2,.int .i64 (2)),(3,.int .i64 (2))]).flatten.toArray)=oS at nS
 refine EL_p oS (vS ▸ P_build (vs:=[(1,.int .i64 ((w64 ((y3).Hooks - (1:Int))))),(2,.int .i64 (2)),(3,.int .i64 (2))]) [[.int .i64 0],[.int .i64 0],[.int .i64 0],[.int .i64 0]] lay_42 rfl rfl (.cons rfl (.cons rfl (.cons rfl .nil))) ⟨⟨_,rfl,rfl⟩,⟨⟨_,rfl,rfl⟩,⟨⟨_,rfl,rfl⟩,trivial⟩⟩⟩) rfl ?_
 refine EL_do .plain rfl (D_buildSlice (g:=sK) 3047 (xs:=([(⟨0,(w64 ((y3).Hooks - (1:Int))),(2:Int),(2:Int)⟩:TieGroup)]:List TieGroup)) (vs:=[oS]) Tryz.underlying43 Tryz.sizeOf42 Tryz.zeroValue42 rfl rfl (.cons rfl .nil) (RVs.cons nS RVs.nil) rfl rfl fun sW w29 tW hs o29 uW hxt hfl=>?_)
 have hfr:=hfr.stp hs
 have b22:=b22.stp hs rfl
 have b23:=b23.stp hs rfl
 obtain ⟨vC,xS,h⟩:=bsome h
 refine EL_do .plain rfl (D_call (g:=sW) (vs:=[.int .i64 ((y3).Hooks),tW]) en6 (.cons rfl (.cons rfl .nil)) (wk6 uW xS) fun vW c00 v30 hs hr=>?_)
 have hfr:=hfr.ext hs
 have b22:=b22.ext hs
 have b23:=b23.ext hs
 obtain ⟨eJ,zX,aY,rfl,gJ,rfl,rfl⟩:=hr
 refine EL_mw (.tuple #[eJ,.int .i64 (vC.2.1),.int .i64 (vC.2.2)]) rfl rfl ?_
 refine EL_p eJ (P_extract rfl rfl) rfl ?_
 refine EL_p (.int .i64 (vC.2.1)) (P_extract rfl rfl) rfl ?_
 refine EL_p (.int .i64 (vC.2.2)) (P_extract rfl rfl) rfl ?_
 refine EL_do .plain rfl (D_allocOc (g:=vW) 2009 (⟨0,[]⟩:TieHarness) Tryz.zeroValue36 (fun m w=>⟨_,(rep_two rep_int rep_nil),rfl⟩) fun pS xW yW hs b32 cb=>?_)
 have hfr:=hfr.stp hs
 have b22:=b22.stp hs rfl
 have b23:=b23.stp hs rfl
 have gJ:=gJ.stp hs
 have bY:OSF 2009 60901 1 pS xW 3 36 ([]:List Int) yW:=cb.osf (by rfl)
 clear cb
 refine EL_do .plain rfl (D_storeOc (g:=pS) (v:=eJ) Tryz.sizeOf36 rfl b32 rfl gJ fun zW w33 hs b33 cb=>?_)
 clear cb
 have hfr:=hfr.stp hs
 have b22:=b22.stp hs rfl
 have b23:=b23.stp hs rfl
 refine EL_at (.int .i64 (vC.2.1)) rfl rfl ?_
 refine EL_at (.int .i64 (vC.2.2)) rfl rfl ?_
 refine EL_nil (thn_n (E_seq (L_loadO0 (x:=.tmp 9) Tryz.isAgg36 Tryz.sizeOf36 b33 fun qS aX yS=>?_)))
 refine L_loadO0 (x:=.tmp 7) Tryz.isAgg29 Tryz.sizeOf29 b22 fun rS bX zS=>?_
 obtain ⟨dH,eT,h⟩:=bsome h
 obtain ⟨i6,lT,h⟩:=bsome h
 refine E_drawL (g:=zW) (n:=9) [(2,(fun v g w=>RV g.m w dH v)),(3,(fun v g w=>∃ y0 y1:Value,v=.tuple #[y0,y1]∧RV g.m w (i6.1:List Str) y0∧y1=.int .i64 (i6.2)))] [0,1,2,3,4,5,6,7,8] rfl mixed (by kernel_rfl) (⟨fun _=>up_rv,fun _=>(up_ex fun _=>(up_ex fun _=>(up_and (up_eq _) (up_and up_rv (up_eq _))))),trivial⟩) ?_
 refine L_ld (c:=qS) rfl rfl .plain (fun _ _ h=>⟨h.ch,fun b hb _=>h.below.block b hb⟩) yS rfl ?_
 refine L_ld (c:=rS) rfl rfl .plain (fun _ _ h=>⟨h.ch,fun b hb _=>h.below.block b hb⟩) zS rfl ?_
 refine L_do (φ:=fun v g w=>RV g.m w dH v) rfl rfl .plain (fun g w hd=>D_call (g:=g) (vs:=[rS]) en8 (.cons rfl .nil) (wk8 (bX.ext hd.1) eT) fun g' w' v hs hr=>⟨g',hs,hr⟩) (fun zO hv=>?_)
 obtain ⟨_,_,_,rq36⟩:=hv
 refine L_do (φ:=fun v g w=>∃ y0 y1:Value,v=.tuple #[y0,y1]∧RV g.m w (i6.1:List Str) y0∧y1=.int .i64 (i6.2)) rfl rfl .plain (fun g w hd=>D_call (g:=g) (vs:=[qS,zO]) en7 (.cons rfl (.cons rfl .nil)) (wk7 (aX.ext hd.1) (word (A:=fun g w=>RV g.m w dH zO) 2 rfl rfl (deps_of hd)) lT) fun g' w' v hs hr=>⟨g',hs,hr⟩) (fun v38 hv=>?_)
 obtain ⟨_,_,_,x6,_,rfl,cX,rfl⟩:=hv
 refine L_p (.tuple #[x6,.int .i64 (i6.2)]) rfl rfl (P_move rfl) ?_
 refine L_p x6 rfl rfl (P_extract rfl rfl) ?_
 refine L_p (.int .i64 (i6.2)) rfl rfl (P_extract rfl rfl) ?_
 refine L_p x6 rfl rfl (P_assign rfl) ?_
 refine L_p (.int .i64 (i6.2)) rfl rfl (P_assign rfl) ?_
 refine L_nil fun tK w40 hall=>?_
 have hs:=hall.1
 have hfr:=hfr.ext hs
 have b22:=b22.ext hs
 have b23:=b23.ext hs
 have r71:=(word_all (A:=fun g w=>RV g.m w dH zO) 2 rfl hall)
 have r74:=(tup2_0 (word_all (A:=fun g w=>∃ y0 y1:Value,Value.tuple #[x6,.int .i64 (i6.2)]=.tuple #[y0,y1]∧RV g.m w (i6.1:List Str) y0∧y1=.int .i64 (i6.2)) 3 rfl hall))
 have uK:=(tup2_0 (word_all (A:=fun g w=>∃ y0 y1:Value,Value.tuple #[x6,.int .i64 (i6.2)]=.tuple #[y0,y1]∧RV g.m w (i6.1:List Str) y0∧y1=.int .i64 (i6.2)) 3 rfl hall))
 clear hs hall
 refine EL_nil (thn_n (E_joinC h (fun (s:Unit) e w=>∃ (g:Gh) ,Fr gI wI g w∧e 7=v7∧OB 2007 g w 29 (y3:Design) v7∧e 8=v8∧OB 2008 g w 33 (y6:BoxLoom) v8∧e 12=x6∧RV g.m w ((i6.1:List Str):List Str) x6) (fun X88 mS mT h=>?_) ?_))
 ·obtain ⟨nD, hx, h⟩ := bsome h
  refine E_join (fun e w=>∃ (g:Gh) ,Fr gI wI g w∧e 7=v7∧OB 2007 g w 29 (y3:Design) v7∧e 8=v8∧OB 2008 g w 33 (y6:BoxLoom) v8∧e 12=x6∧RV g.m w ((i6.1:List Str):List Str) x6∧e 72=.bool (nD)) (fun Q' hQ=>?_) (fun d00 w97 hR=>?_)
  ·replace h := hx
   clear hx
   refine E_region (EL_mw (.int .i64 (vC.2.2)) rfl rfl ?_)
   refine EL_in (.bool ((vC.2.2 != (0:Int)))) rfl rfl rfl rfl ?_
   refine EL_mw (.bool ((vC.2.2 != (0:Int)))) rfl rfl ?_
   rcases csome h with ⟨zD,h⟩ | ⟨zD,h⟩
   ·refine EL_s rfl rfl zD rfl rfl ?_
    refine EL_s rfl rfl zD rfl rfl ?_
    refine EL_p (.bool true) (P_pick (b:=(vC.2.2 != (0:Int))) rfl (pick_t zD rfl)) rfl ?_
    refine EL_dead 8 rfl ?_
    refine EL_nil ?_
    obtain rfl:=sinj h
    exact hQ _ _ ⟨tK,hfr,rfl,b22,rfl,b23,rfl,uK,rfl⟩
   ·refine EL_y (.int .i64 (i6.2)) (P_move rfl) rfl rfl zD rfl ?_
    refine EL_y (.bool ((i6.2 != (0:Int)))) (P_int rfl rfl rfl) rfl rfl zD rfl ?_
    refine EL_p (.bool ((i6.2 != (0:Int)))) (P_pick (b:=(vC.2.2 != (0:Int))) rfl (pick_f zD rfl)) rfl ?_
    refine EL_mw (.bool ((i6.2 != (0:Int)))) rfl rfl ?_
    rcases csome h with ⟨qC,h⟩ | ⟨qC,h⟩
    ·refine EL_s rfl rfl qC rfl rfl ?_
     iterate 5 refine EL_s rfl rfl qC rfl rfl ?_
     refine EL_p (.bool true) (P_pick (b:=(i6.2 != (0:Int))) rfl (pick_t qC rfl)) rfl ?_
     refine EL_nil ?_
     obtain rfl:=sinj h
     exact hQ _ _ ⟨tK,hfr,rfl,b22,rfl,b23,rfl,uK,rfl⟩
    ·refine EL_y x6 (P_move rfl) rfl rfl qC rfl ?_
     refine EL_y (.int .i64 (((i6.1:List Str)).length:Int)) (P_len Tryz.underlying44 rfl uK) rfl rfl qC rfl ?_
     refine EL_y (fPtr v7 1) (P_fieldAddr at_29_1 rfl (OB.ptr b22)) rfl rfl qC rfl ?_
     refine EL_do (.yes2 rfl rfl qC) rfl (D_loadF (g:=tK) part_Design_1.1 Tryz.isAgg27 Tryz.sizeOf27 rfl b22 fun v96 dX=>?_)
     refine EL_y (.int .i64 (((y3).Rows).length:Int)) (P_len Tryz.underlying27 rfl dX) rfl rfl qC rfl ?_
     refine EL_y (.bool (((((i6.1:List Str)).length:Int) != (((y3).Rows).length:Int)))) (P_int rfl rfl rfl) rfl rfl qC rfl ?_
     refine EL_p (.bool (((((i6.1:List Str)).length:Int) != (((y3).Rows).length:Int)))) (P_pick (b:=(i6.2 != (0:Int))) rfl (pick_f qC rfl)) rfl ?_
     refine EL_nil ?_
     obtain rfl:=sinj h
     exact hQ _ _ ⟨tK,hfr,rfl,b22,rfl,b23,rfl,uK,rfl⟩
  ·clear hx
   obtain ⟨eX,hfr,rQ,sQ,tQ,uQ,aP,bP,qJ⟩:=hR
   rcases csome h with ⟨bK,h⟩ | ⟨bK,h⟩
   ·refine E_cond_true (Eq.trans (show ev _ _ = .bool (nD) from qJ) (congrArg Value.bool bK)) ?_
    refine E_seq (E_region (EL_at (.bool false) rfl rfl ?_))
    refine EL_nil (thn_n (E_ret (thn_r ?_)))
    obtain rfl:=sinj h
    exact end1 rfl rfl (show _=.bool false from rfl) ⟨_,hfr,rfl⟩
   ·refine E_cond_false (Eq.trans (show ev _ _ = .bool (nD) from qJ) (congrArg Value.bool bK)) ?_
    exact E_skip (thn_n (mT () _ _ ⟨eX,hfr,rQ,sQ,tQ,uQ,aP,bP⟩ h))
 ·rintro _ g00 w99 ⟨sS, hfr, vQ, vK, hG, l9, iG, d9⟩ h
  refine E_seq (E_region (EL_p (fPtr v7 1) (P_fieldAddr at_29_1 vQ (OB.ptr vK)) rfl ?_))
  refine EL_do .plain rfl (D_loadF (g:=sS) part_Design_1.1 Tryz.isAgg27 Tryz.sizeOf27 rfl vK fun nT oT=>?_)
  obtain ⟨eD,xQ,h⟩:=bsome h
  refine EL_do .plain rfl (D_call (g:=sS) (vs:=[nT,.int .i64 (12)]) en9 (.cons rfl (.cons rfl .nil)) (wk9 oT xQ) fun cP cY lB hs hr=>?_)
  have hfr:=hfr.ext hs
  have l9:=l9.ext hs
  have d9:=d9.ext hs
  have rC:=hr
  refine EL_at lB rfl rfl ?_
  refine EL_nil (thn_n (E_seq (E_region (EL_do .plain rfl (D_loadO (g:=cP) Tryz.isAgg33 Tryz.sizeOf33 hG l9 fun pT sT=>?_)))))
  obtain ⟨gO,yQ,h⟩:=bsome h
  refine EL_do .plain rfl (D_call (g:=cP) (vs:=[pT]) en11 (.cons rfl .nil) (wk11 sT yQ) fun tT dY uT hs hr=>?_)
  have hfr:=hfr.ext hs
  have l9:=l9.ext hs
  have d9:=d9.ext hs
  have rC:=rC.ext hs
  have cK:=hr
  refine EL_mw lB rfl rfl ?_
  obtain ⟨iO,zQ,h⟩:=bsome h
  refine EL_do .plain rfl (D_call (g:=tT) (vs:=[lB]) en12 (.cons rfl .nil) (wk12 rC zQ) fun xT eY yT hs hr=>?_)
  have hfr:=hfr.ext hs
  have l9:=l9.ext hs
  have d9:=d9.ext hs
  have rC:=rC.ext hs
  have cK:=cK.ext hs
  have zT:=hr
  obtain ⟨y110,aR,h⟩:=bsome h
  refine EL_do .plain rfl (D_call (g:=xT) (vs:=[uT,yT]) en10 (.cons rfl (.cons rfl .nil)) (wk10 cK zT aR) fun dK gY h00 hs hr=>?_)
  have hfr:=hfr.ext hs
  have l9:=l9.ext hs
  have d9:=d9.ext hs
  have rC:=rC.ext hs
  obtain ⟨cD,gX,iX,jX,rfl,jG,rfl,rfl,rfl⟩:=hr
  refine EL_mw (.tuple #[cD,.int .i64 (y110.2.1),.int .i64 (y110.2.2.1),.int .i64 (y110.2.2.2)]) rfl rfl ?_
  refine EL_p cD (P_extract rfl rfl) rfl ?_
  refine EL_p (.int .i64 (y110.2.1)) (P_extract rfl rfl) rfl ?_
  refine EL_p (.int .i64 (y110.2.2.1)) (P_extract rfl rfl) rfl ?_
  refine EL_p (.int .i64 (y110.2.2.2)) (P_extract rfl rfl) rfl ?_
  refine EL_at cD rfl rfl ?_
  refine EL_at (.int .i64 (y110.2.1)) rfl rfl ?_
  refine EL_at (.int .i64 (y110.2.2.1)) rfl rfl ?_
  refine EL_at (.int .i64 (y110.2.2.2)) rfl rfl ?_
  refine EL_nil (thn_n ?_)
  obtain ⟨⟨o0,bD,z9⟩,hx,h⟩:=bsome h
  refine E_join (fun e w=>∃ (g:Gh) (tS uS:Value),Fr gI wI g w∧e 8=v8∧OB 2008 g w 33 (y6:BoxLoom) v8∧e 12=x6∧RV g.m w ((i6.1:List Str):List Str) x6∧e 14=tS∧RV g.m w (o0:List Int) tS∧e 15=uS∧RV g.m w (bD:List BoxPick) uS∧e 18=.int .i64 (z9)) (fun Q' hQ=>?_) (fun iY i00 hR=>?_)
  ·replace h := hx
   clear hx
   obtain ⟨aD,hx,h⟩:=bsome h
   refine E_join (fun e w=>∃ (g:Gh) ,Fr gI wI g w∧e 8=v8∧OB 2008 g w 33 (y6:BoxLoom) v8∧e 12=x6∧RV g.m w ((i6.1:List Str):List Str) x6∧e 14=lB∧RV g.m w (eD:List Int) lB∧e 15=cD∧RV g.m w (y110.1:List BoxPick) cD∧e 17=.int .i64 (y110.2.2.1)∧e 18=.int .i64 (y110.2.2.2)∧e 97=.bool (aD)) (fun Q' hQ=>?_) (fun jY j00 hR=>?_)
   ·replace h := hx
    clear hx
    refine E_region (EL_mw (.int .i64 (y110.2.2.2)) rfl rfl ?_)
    refine EL_in (.bool ((y110.2.2.2 == (9:Int)))) rfl rfl rfl rfl ?_
    refine EL_mw (.bool ((y110.2.2.2 == (9:Int)))) rfl rfl ?_
    rcases csome h with ⟨gD,h⟩ | ⟨gD,h⟩
    ·refine EL_y (.int .i64 (y110.2.2.1)) (P_move rfl) rfl rfl gD rfl ?_
     refine EL_y (.bool ((decide (y110.2.2.1 ≥ (0:Int))))) (P_int rfl rfl rfl) rfl rfl gD rfl ?_
     refine EL_p (.bool ((decide (y110.2.2.1 ≥ (0:Int))))) (P_pick (b:=(y110.2.2.2 == (9:Int))) rfl (pick_t gD rfl)) rfl ?_
     refine EL_mw (.bool ((decide (y110.2.2.1 ≥ (0:Int))))) rfl rfl ?_
     rcases csome h with ⟨mB,h⟩ | ⟨mB,h⟩
     ·refine EL_y (.int .i64 (y110.2.2.1)) (P_move rfl) rfl rfl mB rfl ?_
      refine EL_y lB (P_move rfl) rfl rfl mB rfl ?_
      refine EL_y (.int .i64 ((eD).length:Int)) (P_len Tryz.underlying27 rfl rC) rfl rfl mB rfl ?_
      refine EL_y (.bool ((decide (y110.2.2.1 < ((eD).length:Int))))) (P_int rfl rfl rfl) rfl rfl mB rfl ?_
      refine EL_p (.bool ((decide (y110.2.2.1 < ((eD).length:Int))))) (P_pick (b:=(decide (y110.2.2.1 ≥ (0:Int)))) rfl (pick_t mB rfl)) rfl ?_
      refine EL_nil ?_
      obtain rfl:=sinj h
      exact hQ _ _ ⟨dK,hfr,hG,l9,iG,d9,rfl,rC,rfl,jG,rfl,rfl,rfl⟩
     ·refine EL_s rfl rfl mB rfl rfl ?_
      iterate 3 refine EL_s rfl rfl mB rfl rfl ?_
      refine EL_p (.bool false) (P_pick (b:=(decide (y110.2.2.1 ≥ (0:Int)))) rfl (pick_f mB rfl)) rfl ?_
      refine EL_nil ?_
      obtain rfl:=sinj h
      exact hQ _ _ ⟨dK,hfr,hG,l9,iG,d9,rfl,rC,rfl,jG,rfl,rfl,rfl⟩
    ·refine EL_s rfl rfl gD rfl rfl ?_
     refine EL_s rfl rfl gD rfl rfl ?_
     refine EL_p (.bool false) (P_pick (b:=(y110.2.2.2 == (9:Int))) rfl (pick_f gD rfl)) rfl ?_
     refine EL_dead 6 rfl ?_
     refine EL_nil ?_
     obtain rfl:=sinj h
     exact hQ _ _ ⟨dK,hfr,hG,l9,iG,d9,rfl,rC,rfl,jG,rfl,rfl,rfl⟩
   ·clear hx
    obtain ⟨lK,hfr,kG,u9,gH,n9,iH,sF,dL,eL,gL,iL,jH⟩:=hR
    rcases csome h with ⟨iJ,h⟩ | ⟨iJ,h⟩
    ·refine E_cond_true (Eq.trans (show ev _ _ = .bool (aD) from jH) (congrArg Value.bool iJ)) ?_
     refine E_seq (E_region (EL_mv iH rfl ?_))
     refine EL_mv gL rfl ?_
     obtain ⟨y132,xK,h⟩:=bsome h
     have oD:=RV_cut sF xK
     refine EL_p ((cutV lB (Int.toNat 0) (Int.toNat y110.2.2.1) 1)) (P_slice Tryz.underlying27 Tryz.sizeOf3 rfl sF rfl rfl xK) rfl ?_
     refine EL_at ((cutV lB (Int.toNat 0) (Int.toNat y110.2.2.1) 1)) rfl rfl ?_
     refine EL_nil (thn_n (E_region (EL_do .plain rfl (D_loadO (g:=lK) Tryz.isAgg33 Tryz.sizeOf33 kG u9 fun aU bU=>?_))))
     obtain ⟨jO,bR,h⟩:=bsome h
     refine EL_do .plain rfl (D_call (g:=lK) (vs:=[aU]) en11 (.cons rfl .nil) (wk11 bU bR) fun cU kY dU hs hr=>?_)
     have hfr:=hfr.ext hs
     have u9:=u9.ext hs
     have n9:=n9.ext hs
     have oD:=oD.ext hs
     have mK:=hr
     refine EL_mw ((cutV lB (Int.toNat 0) (Int.toNat y110.2.2.1) 1)) rfl rfl ?_
     obtain ⟨kO,cR,h⟩:=bsome h
     refine EL_do .plain rfl (D_call (g:=cU) (vs:=[(cutV lB (Int.toNat 0) (Int.toNat y110.2.2.1) 1)]) en12 (.cons rfl .nil) (wk12 oD cR) fun eU mY gU hs hr=>?_)
     have hfr:=hfr.ext hs
     have u9:=u9.ext hs
     have n9:=n9.ext hs
     have oD:=oD.ext hs
     have mK:=mK.ext hs
     have iU:=hr
     obtain ⟨y140,dR,h⟩:=bsome h
     refine EL_do .plain rfl (D_call (g:=eU) (vs:=[dU,gU]) en10 (.cons rfl (.cons rfl .nil)) (wk10 mK iU dR) fun jU nY k00 hs hr=>?_)
     have hfr:=hfr.ext hs
     have u9:=u9.ext hs
     have n9:=n9.ext hs
     have oD:=oD.ext hs
     obtain ⟨bE,kX,lX,mX,rfl,dP,rfl,rfl,rfl⟩:=hr
     refine EL_mw (.tuple #[bE,.int .i64 (y140.2.1),.int .i64 (y140.2.2.1),.int .i64 (y140.2.2.2)]) rfl rfl ?_
     refine EL_p bE (P_extract rfl rfl) rfl ?_
     refine EL_p (.int .i64 (y140.2.1)) (P_extract rfl rfl) rfl ?_
     refine EL_p (.int .i64 (y140.2.2.1)) (P_extract rfl rfl) rfl ?_
     refine EL_p (.int .i64 (y140.2.2.2)) (P_extract rfl rfl) rfl ?_
     refine EL_at bE rfl rfl ?_
     refine EL_at (.int .i64 (y140.2.2.2)) rfl rfl ?_
     refine EL_nil ?_
     obtain ⟨rfl,rfl,rfl⟩:=pairs3 h
     exact hQ _ _ ⟨jU,((cutV lB (Int.toNat 0) (Int.toNat y110.2.2.1) 1)),(bE),hfr,kG,u9,gH,n9,rfl,oD,rfl,dP,rfl⟩
    ·refine E_cond_false (Eq.trans (show ev _ _ = .bool (aD) from jH) (congrArg Value.bool iJ)) ?_
     refine E_skip ?_
     obtain ⟨rfl,rfl,rfl⟩:=pairs3 h
     exact hQ _ _ ⟨lK,(lB),(cD),hfr,kG,u9,gH,n9,iH,sF,dL,eL,iL⟩
  ·clear hx
   obtain ⟨eP,x5,jW,hfr,y9,t5,cC,l5,rA,u3,tF,i7,jL⟩:=hR
   refine E_seq (E_region (EL_do .plain rfl (D_loadO (g:=eP) Tryz.isAgg33 Tryz.sizeOf33 y9 t5 fun kU lU=>?_)))
   obtain ⟨lO,eR,h⟩:=bsome h
   refine EL_do .plain rfl (D_call (g:=eP) (vs:=[kU]) en11 (.cons rfl .nil) (wk11 lU eR) fun mU oY nU hs hr=>?_)
   have hfr:=hfr.ext hs
   have t5:=t5.ext hs
   have l5:=l5.ext hs
   have u3:=u3.ext hs
   have i7:=i7.ext hs
   have lG:=hr
   refine EL_do .plain rfl (D_buildSlice (g:=mU) 3114 (xs:=([]:List BoxPick)) (vs:=[]) Tryz.underlying49 Tryz.sizeOf92 Tryz.zeroValue92 rfl rfl .nil RVs.nil rfl rfl fun oU l00 m00 hs o145 pU hxt hfl=>?_)
   have hfr:=hfr.stp hs
   have t5:=t5.stp hs rfl
   have l5:=l5.stp hs
   have u3:=u3.stp hs
   have i7:=i7.stp hs
   have lG:=lG.stp hs
   refine EL_mv tF rfl ?_
   obtain ⟨mO,gR,h⟩:=bsome h
   refine EL_do .plain rfl (D_append (g:=oU) (i:=3114) Tryz.underlying49 info_92 rfl rfl o145 pU rfl i7 gR fun qU n00 rU hs o146 sU _=>?_)
   have hfr:=hfr.stp hs
   have t5:=t5.stp hs rfl
   have l5:=l5.stp hs
   have u3:=u3.stp hs
   have i7:=i7.stp hs
   have lG:=lG.stp hs
   obtain ⟨a9,iR,h⟩:=bsome h
   refine EL_do .plain rfl (D_call (g:=qU) (vs:=[nU,rU]) en13 (.cons rfl (.cons rfl .nil)) (wk13 lG sU iR) fun tU pY o00 hs hr=>?_)
   have hfr:=hfr.ext hs
   have t5:=t5.ext hs
   have l5:=l5.ext hs
   have u3:=u3.ext hs
   have i7:=i7.ext hs
   obtain ⟨sD,mG,nX,oX,pX,rfl,m8,sG,rfl,rfl,rfl⟩:=hr
   refine EL_mw (.tuple #[sD,mG,.int .i64 (a9.2.2.1),.int .i64 (a9.2.2.2.1),.int .i64 (a9.2.2.2.2)]) rfl rfl ?_
   refine EL_p sD (P_extract rfl rfl) rfl ?_
   refine EL_p mG (P_extract rfl rfl) rfl ?_
   refine EL_p (.int .i64 (a9.2.2.1)) (P_extract rfl rfl) rfl ?_
   refine EL_p (.int .i64 (a9.2.2.2.1)) (P_extract rfl rfl) rfl ?_
   refine EL_p (.int .i64 (a9.2.2.2.2)) (P_extract rfl rfl) rfl ?_
   refine EL_do .plain rfl (D_allocOc (g:=tU) 2020 (⟨[],[],[]⟩:BoxLoom) Tryz.zeroValue33 (fun m w=>⟨_,(rep_two rep_nil (rep_two rep_nil rep_nil)),rfl⟩) fun jJ nK oK hs b150 cb=>?_)
   have hfr:=hfr.stp hs
   have t5:=t5.stp hs rfl
   have l5:=l5.stp hs
   have u3:=u3.stp hs
   have i7:=i7.stp hs
   have m8:=m8.stp hs
   have sG:=sG.stp hs
   have qX:OSF 2020 62000 0 jJ nK 3 33 ([]:List Int) oK:=cb.osf (by rfl)
   have rX:OSF 2020 62001 1 jJ nK 3 33 ([]:List Int) oK:=cb.osf (by rfl)
   have sX:OSF 2020 62002 2 jJ nK 65 33 ([]:List BoxShuttle) oK:=cb.osf (by rfl)
   clear cb
   refine EL_at sD rfl rfl ?_
   refine EL_do .plain rfl (D_storeOc (g:=jJ) (v:=mG) Tryz.sizeOf33 rfl b150 rfl sG fun gP p00 hs b151 cb=>?_)
   clear cb
   have hfr:=hfr.stp hs
   have t5:=t5.stp hs rfl
   have l5:=l5.stp hs
   have u3:=u3.stp hs
   have i7:=i7.stp hs
   have m8:=m8.stp hs
   refine EL_at (.int .i64 (a9.2.2.1)) rfl rfl ?_
   refine EL_at (.int .i64 (a9.2.2.2.1)) rfl rfl ?_
   refine EL_at (.int .i64 (a9.2.2.2.2)) rfl rfl ?_
   refine EL_nil (thn_n (E_seq (E_region (EL_do .plain rfl (D_loadO (g:=gP) Tryz.isAgg33 Tryz.sizeOf33 y9 t5 fun uU vU=>?_)))))
   obtain ⟨nO,jR,h⟩:=bsome h
   refine EL_do .plain rfl (D_call (g:=gP) (vs:=[uU]) en11 (.cons rfl .nil) (wk11 vU jR) fun xU qY yU hs hr=>?_)
   have hfr:=hfr.ext hs
   have t5:=t5.ext hs
   have l5:=l5.ext hs
   have u3:=u3.ext hs
   have i7:=i7.ext hs
   have m8:=m8.ext hs
   have xG:=hr
   refine EL_do .plain rfl (D_buildSlice (g:=xU) 3126 (xs:=([]:List BoxPick)) (vs:=[]) Tryz.underlying49 Tryz.sizeOf92 Tryz.zeroValue92 rfl rfl .nil RVs.nil rfl rfl fun zU q00 r00 hs o155 aV hxt hfl=>?_)
   have hfr:=hfr.stp hs
   have t5:=t5.stp hs rfl
   have l5:=l5.stp hs
   have u3:=u3.stp hs
   have i7:=i7.stp hs
   have m8:=m8.stp hs
   have xG:=xG.stp hs
   refine EL_mv tF rfl ?_
   obtain ⟨y157,lR,h⟩:=bsome h
   refine EL_do .plain rfl (D_append (g:=zU) (i:=3126) Tryz.underlying49 info_92 rfl rfl o155 aV rfl i7 lR fun bV s00 cV hs o156 dV _=>?_)
   have hfr:=hfr.stp hs
   have t5:=t5.stp hs rfl
   have l5:=l5.stp hs
   have u3:=u3.stp hs
   have i7:=i7.stp hs
   have m8:=m8.stp hs
   have xG:=xG.stp hs
   obtain ⟨y159,mR,h⟩:=bsome h
   refine EL_do .plain rfl (D_call (g:=bV) (vs:=[yU,cV]) en14 (.cons rfl (.cons rfl .nil)) (wk14 xG dV mR) fun iP uY t00 hs hr=>?_)
   have hfr:=hfr.ext hs
   have t5:=t5.ext hs
   have l5:=l5.ext hs
   have u3:=u3.ext hs
   have i7:=i7.ext hs
   have m8:=m8.ext hs
   obtain ⟨l8,tX,uX,rfl,n8,rfl,rfl⟩:=hr
   refine EL_mw (.tuple #[l8,.int .i64 (y159.2.1),.int .i64 (y159.2.2)]) rfl rfl ?_
   refine EL_p l8 (P_extract rfl rfl) rfl ?_
   refine EL_p (.int .i64 (y159.2.1)) (P_extract rfl rfl) rfl ?_
   refine EL_p (.int .i64 (y159.2.2)) (P_extract rfl rfl) rfl ?_
   refine EL_at l8 rfl rfl ?_
   refine EL_at (.int .i64 (y159.2.1)) rfl rfl ?_
   refine EL_at (.int .i64 (y159.2.2)) rfl rfl ?_
   refine EL_nil (thn_n (E_seq (E_region (EL_do .plain rfl (D_loadO (g:=iP) Tryz.isAgg33 Tryz.sizeOf33 y9 t5 fun eV gV=>?_)))))
   obtain ⟨oO,nR,h⟩:=bsome h
   refine EL_do .plain rfl (D_call (g:=iP) (vs:=[eV]) en11 (.cons rfl .nil) (wk11 gV nR) fun iV vY jV hs hr=>?_)
   have hfr:=hfr.ext hs
   have t5:=t5.ext hs
   have l5:=l5.ext hs
   have u3:=u3.ext hs
   have i7:=i7.ext hs
   have m8:=m8.ext hs
   have n8:=n8.ext hs
   have yG:=hr
   refine EL_do .plain rfl (D_buildSlice (g:=iV) 3136 (xs:=([]:List BoxPick)) (vs:=[]) Tryz.underlying49 Tryz.sizeOf92 Tryz.zeroValue92 rfl rfl .nil RVs.nil rfl rfl fun kV u00 v00 hs o163 lV hxt hfl=>?_)
   have hfr:=hfr.stp hs
   have t5:=t5.stp hs rfl
   have l5:=l5.stp hs
   have u3:=u3.stp hs
   have i7:=i7.stp hs
   have m8:=m8.stp hs
   have n8:=n8.stp hs
   have yG:=yG.stp hs
   refine EL_mv tF rfl ?_
   obtain ⟨y165,oR,h⟩:=bsome h
   refine EL_do .plain rfl (D_append (g:=kV) (i:=3136) Tryz.underlying49 info_92 rfl rfl o163 lV rfl i7 oR fun mV x00 nV hs o164 oV _=>?_)
   have hfr:=hfr.stp hs
   have t5:=t5.stp hs rfl
   have l5:=l5.stp hs
   have u3:=u3.stp hs
   have m8:=m8.stp hs
   have n8:=n8.stp hs
   have yG:=yG.stp hs
   obtain ⟨g8,pR,h⟩:=bsome h
   refine EL_do .plain rfl (D_call (g:=mV) (vs:=[jV,nV]) en15 (.cons rfl (.cons rfl .nil)) (wk15 yG oV pR) fun zG xY y00 hs hr=>?_)
   have hfr:=hfr.ext hs
   have t5:=t5.ext hs
   have l5:=l5.ext hs
   have u3:=u3.ext hs
   have m8:=m8.ext hs
   have n8:=n8.ext hs
   obtain ⟨vX,xX,yX,rfl,rfl,rfl,rfl⟩:=hr
   refine EL_mw (.tuple #[.int .i64 (g8.1),.int .i64 (g8.2.1),.int .i64 (g8.2.2)]) rfl rfl ?_
   refine EL_p (.int .i64 (g8.1)) (P_extract rfl rfl) rfl ?_
   refine EL_p (.int .i64 (g8.2.1)) (P_extract rfl rfl) rfl ?_
   refine EL_p (.int .i64 (g8.2.2)) (P_extract rfl rfl) rfl ?_
   refine EL_at (.int .i64 (g8.1)) rfl rfl ?_
   refine EL_at (.int .i64 (g8.2.1)) rfl rfl ?_
   refine EL_at (.int .i64 (g8.2.2)) rfl rfl ?_
   refine EL_nil (thn_n (E_joinC h (fun (s:Unit) e w=>∃ (g:Gh) ,Fr gI wI g w∧e 8=v8∧OB 2008 g w 33 (y6:BoxLoom) v8∧e 12=x6∧RV g.m w ((i6.1:List Str):List Str) x6∧e 14=x5∧RV g.m w (o0:List Int) x5∧e 24=l8∧RV g.m w (y159.1:List Span) l8∧e 28=.int .i64 (g8.2.1)) (fun X184 xO qR h=>?_) ?_))
   ·obtain ⟨mC, hx, h⟩ := bsome h
    refine E_join (fun e w=>∃ (g:Gh) ,Fr gI wI g w∧e 8=v8∧OB 2008 g w 33 (y6:BoxLoom) v8∧e 12=x6∧RV g.m w ((i6.1:List Str):List Str) x6∧e 14=x5∧RV g.m w (o0:List Int) x5∧e 24=l8∧RV g.m w (y159.1:List Span) l8∧e 28=.int .i64 (g8.2.1)∧e 167=.bool (mC)) (fun Q' hQ=>?_) (fun yY z00 hR=>?_)
    ·replace h := hx
     clear hx
     refine E_region (EL_mv jL rfl ?_)
     refine EL_in (.bool ((z9 != (0:Int)))) rfl rfl rfl rfl ?_
     refine EL_mw (.bool ((z9 != (0:Int)))) rfl rfl ?_
     rcases csome h with ⟨iD,h⟩ | ⟨iD,h⟩
     ·refine EL_s rfl rfl iD rfl rfl ?_
      refine EL_s rfl rfl iD rfl rfl ?_
      refine EL_p (.bool true) (P_pick (b:=(z9 != (0:Int))) rfl (pick_t iD rfl)) rfl ?_
      refine EL_dead 19 rfl ?_
      refine EL_nil ?_
      obtain rfl:=sinj h
      exact hQ _ _ ⟨zG,hfr,y9,t5,cC,l5,rA,u3,rfl,n8,rfl,rfl⟩
     ·refine EL_y (.int .i64 (a9.2.2.2.2)) (P_move rfl) rfl rfl iD rfl ?_
      refine EL_y (.bool ((a9.2.2.2.2 != (0:Int)))) (P_int rfl rfl rfl) rfl rfl iD rfl ?_
      refine EL_p (.bool ((a9.2.2.2.2 != (0:Int)))) (P_pick (b:=(z9 != (0:Int))) rfl (pick_f iD rfl)) rfl ?_
      refine EL_mw (.bool ((a9.2.2.2.2 != (0:Int)))) rfl rfl ?_
      rcases csome h with ⟨jD,h⟩ | ⟨jD,h⟩
      ·refine EL_s rfl rfl jD rfl rfl ?_
       refine EL_s rfl rfl jD rfl rfl ?_
       refine EL_p (.bool true) (P_pick (b:=(a9.2.2.2.2 != (0:Int))) rfl (pick_t jD rfl)) rfl ?_
       refine EL_dead 15 rfl ?_
       refine EL_nil ?_
       obtain rfl:=sinj h
       exact hQ _ _ ⟨zG,hfr,y9,t5,cC,l5,rA,u3,rfl,n8,rfl,rfl⟩
      ·refine EL_y (.int .i64 (y159.2.2)) (P_move rfl) rfl rfl jD rfl ?_
       refine EL_y (.bool ((y159.2.2 != (0:Int)))) (P_int rfl rfl rfl) rfl rfl jD rfl ?_
       refine EL_p (.bool ((y159.2.2 != (0:Int)))) (P_pick (b:=(a9.2.2.2.2 != (0:Int))) rfl (pick_f jD rfl)) rfl ?_
       refine EL_mw (.bool ((y159.2.2 != (0:Int)))) rfl rfl ?_
       rcases csome h with ⟨lD,h⟩ | ⟨lD,h⟩
       ·refine EL_s rfl rfl lD rfl rfl ?_
        refine EL_s rfl rfl lD rfl rfl ?_
        refine EL_p (.bool true) (P_pick (b:=(y159.2.2 != (0:Int))) rfl (pick_t lD rfl)) rfl ?_
        refine EL_dead 11 rfl ?_
        refine EL_nil ?_
        obtain rfl:=sinj h
        exact hQ _ _ ⟨zG,hfr,y9,t5,cC,l5,rA,u3,rfl,n8,rfl,rfl⟩
       ·refine EL_y (.int .i64 (g8.2.2)) (P_move rfl) rfl rfl lD rfl ?_
        refine EL_y (.bool ((g8.2.2 != (0:Int)))) (P_int rfl rfl rfl) rfl rfl lD rfl ?_
        refine EL_p (.bool ((g8.2.2 != (0:Int)))) (P_pick (b:=(y159.2.2 != (0:Int))) rfl (pick_f lD rfl)) rfl ?_
        refine EL_mw (.bool ((g8.2.2 != (0:Int)))) rfl rfl ?_
        rcases csome h with ⟨nB,h⟩ | ⟨nB,h⟩
        ·refine EL_s rfl rfl nB rfl rfl ?_
         iterate 3 refine EL_s rfl rfl nB rfl rfl ?_
         refine EL_p (.bool true) (P_pick (b:=(g8.2.2 != (0:Int))) rfl (pick_t nB rfl)) rfl ?_
         refine EL_dead 5 rfl ?_
         refine EL_nil ?_
         obtain rfl:=sinj h
         exact hQ _ _ ⟨zG,hfr,y9,t5,cC,l5,rA,u3,rfl,n8,rfl,rfl⟩
        ·refine EL_y sD (P_move rfl) rfl rfl nB rfl ?_
         refine EL_y x5 (P_move rA) rfl rfl nB rfl ?_
         obtain ⟨yD,rR,h⟩:=bsome h
         refine EL_do (.yes2 rfl rfl nB) rfl (D_call (g:=zG) (vs:=[sD,x5]) en16 (.cons rfl (.cons rfl .nil)) (wk16 m8 u3 rR) fun jP zY a01 hs hr=>?_)
         have hfr:=hfr.ext hs
         have t5:=t5.ext hs
         have l5:=l5.ext hs
         have u3:=u3.ext hs
         have n8:=n8.ext hs
         subst hr
         refine EL_y (.bool (!yD)) (P_not rfl) rfl rfl nB rfl ?_
         refine EL_p (.bool (!yD)) (P_pick (b:=(g8.2.2 != (0:Int))) rfl (pick_f nB rfl)) rfl ?_
         refine EL_mw (.bool (!yD)) rfl rfl ?_
         rcases csome h with ⟨oB,h⟩ | ⟨oB,h⟩
         ·refine EL_s rfl rfl oB rfl rfl ?_
          refine EL_s rfl rfl oB rfl rfl ?_
          refine EL_s rfl rfl oB rfl rfl ?_
          refine EL_p (.bool true) (P_pick (b:=(!yD)) rfl (pick_t oB rfl)) rfl ?_
          refine EL_nil ?_
          obtain rfl:=sinj h
          exact hQ _ _ ⟨jP,hfr,y9,t5,cC,l5,rA,u3,rfl,n8,rfl,rfl⟩
         ·refine EL_y l8 (P_move rfl) rfl rfl oB rfl ?_
          refine EL_y (.int .i64 ((y159.1).length:Int)) (P_len Tryz.underlying56 rfl n8) rfl rfl oB rfl ?_
          refine EL_y (.bool ((((y159.1).length:Int) != (3:Int)))) (P_int rfl rfl rfl) rfl rfl oB rfl ?_
          refine EL_p (.bool ((((y159.1).length:Int) != (3:Int)))) (P_pick (b:=(!yD)) rfl (pick_f oB rfl)) rfl ?_
          refine EL_nil ?_
          obtain rfl:=sinj h
          exact hQ _ _ ⟨jP,hfr,y9,t5,cC,l5,rA,u3,rfl,n8,rfl,rfl⟩
    ·clear hx
     obtain ⟨pV,hfr,kP,lP,lL,mL,nL,oL,pL,qL,rL,aH⟩:=hR
     rcases csome h with ⟨kJ,h⟩ | ⟨kJ,h⟩
     ·refine E_cond_true (Eq.trans (show ev _ _ = .bool (mC) from aH) (congrArg Value.bool kJ)) ?_
      refine E_seq (E_region (EL_at (.bool false) rfl rfl ?_))
      refine EL_nil (thn_n (E_ret (thn_r ?_)))
      obtain rfl:=sinj h
      exact end1 rfl rfl (show _=.bool false from rfl) ⟨_,hfr,rfl⟩
     ·refine E_cond_false (Eq.trans (show ev _ _ = .bool (mC) from aH) (congrArg Value.bool kJ)) ?_
      exact E_skip (thn_n (qR () _ _ ⟨pV,hfr,kP,lP,lL,mL,nL,oL,pL,qL,rL⟩ h))
   ·rintro _ aZ b01 ⟨qV, hfr, mP, nP, tL, uL, vL, xL, yL, zL, aM⟩ h
    refine E_seq (E_region (EL_at (.int .i64 (0)) rfl rfl ?_))
    refine EL_nil (thn_n (E_joinC h (fun (s:Int) e w=>∃ (g:Gh) ,Fr gI wI g w∧e 12=x6∧RV g.m w ((i6.1:List Str):List Str) x6∧e 14=x5∧RV g.m w (o0:List Int) x5∧e 28=.int .i64 (g8.2.1)∧e 30=.int .i64 (s)) (fun X318 pO tR h=>?_) ?_))
    ·refine E_seq (E_region (EL_at (.int .i64 (0)) rfl rfl ?_))
     refine EL_nil (thn_n (E_block ?_))
     refine E_lp h (fun (s:Int × Int) e w=>∃ (g:Gh) ,Fr gI wI g w∧e 8=v8∧OB 2008 g w 33 (y6:BoxLoom) v8∧e 12=x6∧RV g.m w ((i6.1:List Str):List Str) x6∧e 14=x5∧RV g.m w (o0:List Int) x5∧e 24=l8∧RV g.m w (y159.1:List Span) l8∧e 28=.int .i64 (g8.2.1)∧e 30=.int .i64 (s.1)∧e 31=.int .i64 (s.2)) ⟨qV,hfr,mP,nP,tL,uL,vL,xL,yL,zL,aM,rfl,rfl⟩ (fun X319 qO uR=>?_)
     rintro ⟨r8,m7⟩ bZ c01 ⟨oP,hfr,pP,sP,kH,lH,mH,nH,bM,cM,oH,pH,qH⟩ h
     refine E_joinC h (fun (s:Unit) e w=>∃ (g:Gh) ,Fr gI wI g w∧e 8=v8∧OB 2008 g w 33 (y6:BoxLoom) v8∧e 12=x6∧RV g.m w ((i6.1:List Str):List Str) x6∧e 14=x5∧RV g.m w (o0:List Int) x5∧e 24=l8∧RV g.m w (y159.1:List Span) l8∧e 28=.int .i64 (g8.2.1)∧e 30=.int .i64 (r8)∧e 31=.int .i64 (m7)) (fun X322 vO vR h=>?_) ?_
     ·refine E_seq (E_region (EL_mv qH rfl ?_))
      refine EL_in (.bool ((decide (m7 < (3:Int))))) rfl rfl rfl rfl ?_
      refine EL_nil (thn_n ?_)
      rcases csome h with ⟨lJ,h⟩ | ⟨lJ,h⟩
      ·refine E_ct lJ rfl ?_
       exact E_skip (thn_n (vR () _ _ ⟨oP,hfr,pP,sP,kH,lH,mH,nH,bM,cM,oH,pH,qH⟩ h))
      ·refine E_cf lJ rfl ?_
       refine E_exit ?_
       refine thn_e ?_
       refine thn_e ?_
       refine blk_hit ?_
       exact thn_n (tR (r8) _ _ ⟨oP,hfr,kH,lH,mH,nH,oH,pH⟩ h)
     ·rintro _ cZ d01 ⟨rV, hfr, tP, uP, dM, eM, iM, jM, kM, mM, nM, oM, pM⟩ h
      refine E_joinC h (fun (s:Int) e w=>∃ (g:Gh) ,Fr gI wI g w∧e 8=v8∧OB 2008 g w 33 (y6:BoxLoom) v8∧e 12=x6∧RV g.m w ((i6.1:List Str):List Str) x6∧e 14=x5∧RV g.m w (o0:List Int) x5∧e 24=l8∧RV g.m w (y159.1:List Span) l8∧e 28=.int .i64 (g8.2.1)∧e 30=.int .i64 (s)∧e 31=.int .i64 (m7)) (fun X379 rO xR h=>?_) ?_
      ·refine E_block ?_
       refine E_seq (E_region (EL_at (.int .i64 (0)) rfl rfl ?_))
       refine EL_nil (thn_n ?_)
       obtain ⟨zB,hx,h⟩:=bsome h
       refine E_join (fun e w=>∃ (g:Gh) ,Fr gI wI g w∧e 8=v8∧OB 2008 g w 33 (y6:BoxLoom) v8∧e 12=x6∧RV g.m w ((i6.1:List Str):List Str) x6∧e 14=x5∧RV g.m w (o0:List Int) x5∧e 24=l8∧RV g.m w (y159.1:List Span) l8∧e 28=.int .i64 (g8.2.1)∧e 30=.int .i64 (r8)∧e 31=.int .i64 (m7)∧e 32=.int .i64 (zB)) (fun Q' hQ=>?_) (fun dZ e01 hR=>?_)
       ·replace h := hx
        clear hx
        refine E_seq (E_region (EL_at (.int .i64 (0)) rfl rfl ?_))
        refine EL_nil (thn_n (E_block ?_))
        refine E_lp h (fun (s:Int × Int) e w=>∃ (g:Gh) ,Fr gI wI g w∧e 8=v8∧OB 2008 g w 33 (y6:BoxLoom) v8∧e 12=x6∧RV g.m w ((i6.1:List Str):List Str) x6∧e 14=x5∧RV g.m w (o0:List Int) x5∧e 24=l8∧RV g.m w (y159.1:List Span) l8∧e 28=.int .i64 (g8.2.1)∧e 30=.int .i64 (r8)∧e 31=.int .i64 (m7)∧e 32=.int .i64 (s.1)∧e 33=.int .i64 (s.2)) ⟨rV,hfr,tP,uP,dM,eM,iM,jM,kM,mM,nM,oM,pM,rfl,rfl⟩ (fun X395 sO yR=>?_)
        rintro ⟨bA,x8⟩ mZ g01 ⟨vP,hfr,rJ,sJ,sH,tH,uF,vF,uH,xH,yH,zH,aI,bI,dI⟩ h
        refine E_joinC h (fun (s:Unit) e w=>∃ (g:Gh) ,Fr gI wI g w∧e 8=v8∧OB 2008 g w 33 (y6:BoxLoom) v8∧e 12=x6∧RV g.m w ((i6.1:List Str):List Str) x6∧e 14=x5∧RV g.m w (o0:List Int) x5∧e 24=l8∧RV g.m w (y159.1:List Span) l8∧e 28=.int .i64 (g8.2.1)∧e 30=.int .i64 (r8)∧e 31=.int .i64 (m7)∧e 32=.int .i64 (bA)∧e 33=.int .i64 (x8)) (fun X398 tO zR h=>?_) ?_
        ·refine E_seq (E_region (EL_mv dI rfl ?_))
         refine EL_mv uF rfl ?_
         refine EL_p (.int .i64 ((o0).length:Int)) (P_len Tryz.underlying27 rfl vF) rfl ?_
         refine EL_in (.bool ((decide (x8 < ((o0).length:Int))))) rfl rfl rfl rfl ?_
         refine EL_nil (thn_n ?_)
         rcases csome h with ⟨mJ,h⟩ | ⟨mJ,h⟩
         ·refine E_ct mJ rfl ?_
          exact E_skip (thn_n (zR () _ _ ⟨vP,hfr,rJ,sJ,sH,tH,uF,vF,uH,xH,yH,zH,aI,bI,dI⟩ h))
         ·refine E_cf mJ rfl ?_
          refine E_exit ?_
          refine thn_e ?_
          refine thn_e ?_
          refine blk_hit ?_
          obtain rfl:=sinj h
          exact hQ _ _ ⟨vP,hfr,rJ,sJ,sH,tH,uF,vF,uH,xH,yH,zH,aI,bI⟩
        ·rintro _ nZ h01 ⟨pK, hfr, vJ, xJ, iI, jI, xF, uD, kI, lI, mI, nI, yF, pI, zF⟩ h
         obtain ⟨tD,hx,h⟩:=bsome h
         refine E_join (fun e w=>∃ (g:Gh) ,Fr gI wI g w∧e 8=v8∧OB 2008 g w 33 (y6:BoxLoom) v8∧e 12=x6∧RV g.m w ((i6.1:List Str):List Str) x6∧e 14=x5∧RV g.m w (o0:List Int) x5∧e 24=l8∧RV g.m w (y159.1:List Span) l8∧e 28=.int .i64 (g8.2.1)∧e 30=.int .i64 (r8)∧e 31=.int .i64 (m7)∧e 32=.int .i64 (tD)∧e 33=.int .i64 (x8)) (fun Q' hQ=>?_) (fun oZ i01 hR=>?_)
         ·replace h := hx
          clear hx
          refine E_block ?_
          refine E_seq (E_region (EL_mv xF rfl ?_))
          refine EL_mv zF rfl ?_
          obtain ⟨zJ,yK,h⟩:=bsome h
          refine EL_p (ePtr x5 x8 1) (P_indexAddr (α:=Int) Tryz.underlying27 Tryz.sizeOf3 rfl uD rfl yK) rfl ?_
          have sV:=PT_idx uD yK
          refine EL_do .plain rfl (D_load (g:=pK) Tryz.isAgg3 Tryz.sizeOf3 rfl sV fun j01 tV=>?_)
          obtain rfl:=RV_int.1 tV
          refine EL_mv yF rfl ?_
          refine EL_in (.bool ((zJ == m7))) rfl rfl rfl rfl ?_
          refine EL_nil (thn_n ?_)
          rcases csome h with ⟨nJ,h⟩ | ⟨nJ,h⟩
          ·refine E_ct nJ rfl ?_
           refine E_region (EL_mv pI rfl ?_)
           refine EL_in (.int .i64 ((w64 (bA + (1:Int))))) rfl rfl rfl rfl ?_
           refine EL_at (.int .i64 ((w64 (bA + (1:Int))))) rfl rfl ?_
           refine EL_nil (blk_n ?_)
           obtain rfl:=sinj h
           exact hQ _ _ ⟨pK,hfr,vJ,xJ,iI,jI,xF,uD,kI,lI,mI,nI,yF,rfl,zF⟩
          ·refine E_cf nJ rfl ?_
           refine E_skip (blk_n ?_)
           obtain rfl:=sinj h
           exact hQ _ _ ⟨pK,hfr,vJ,xJ,iI,jI,xF,uD,kI,lI,mI,nI,yF,pI,zF⟩
         ·clear hx
          obtain ⟨uV,hfr,xP,yP,qM,rM,sM,tM,uM,vM,xM,bN,cN,dN,eN⟩:=hR
          refine E_region (EL_mv eN rfl ?_)
          refine EL_in (.int .i64 ((w64 (x8 + (1:Int))))) rfl rfl rfl rfl ?_
          refine EL_at (.int .i64 ((w64 (x8 + (1:Int))))) rfl rfl ?_
          exact EL_nil (thn_n (yR (tD,(w64 (x8 + (1:Int)))) _ _ ⟨uV,hfr,xP,yP,qM,rM,sM,tM,uM,vM,xM,bN,cN,dN,rfl⟩ h))
       ·clear hx
        obtain ⟨oJ,hfr,yJ,cH,gN,iN,jN,kN,qI,aG,lN,mN,bG,nN⟩:=hR
        refine E_seq (E_region (EL_p (fPtr v8 2) (P_fieldAddr at_33_2 yJ (OB.ptr cH)) rfl ?_))
        refine EL_do .plain rfl (D_loadF (g:=oJ) part_BoxLoom_2.1 Tryz.isAgg31 Tryz.sizeOf31 rfl cH fun qK zP=>?_)
        refine EL_mv bG rfl ?_
        obtain ⟨iA,zK,h⟩:=bsome h
        refine EL_p (ePtr qK m7 5) (P_indexAddr (α:=BoxShuttle) Tryz.underlying31 Tryz.sizeOf65 rfl zP rfl zK) rfl ?_
        have bQ:=PT_idx zP zK
        refine EL_p (fPtr (ePtr qK m7 5) 3) (P_fieldAddr at_65_3 rfl (PT.ptr bQ)) rfl ?_
        have cQ:=PT_field (part_BoxShuttle_3).1 bQ
        refine EL_p (fPtr (fPtr (ePtr qK m7 5) 3) 1) (P_fieldAddr at_63_1 rfl (PT.ptr cQ)) rfl ?_
        have vV:=PT_field (part_Span_1).1 cQ
        refine EL_do .plain rfl (D_load (g:=oJ) Tryz.isAgg3 Tryz.sizeOf3 rfl vV fun k01 xV=>?_)
        obtain rfl:=RV_int.1 xV
        refine EL_at (.int .i64 (((iA).Yarn).High)) rfl rfl ?_
        refine EL_nil (thn_n (E_joinC h (fun (s:Unit) e w=>∃ (g:Gh) ,Fr gI wI g w∧e 8=v8∧OB 2008 g w 33 (y6:BoxLoom) v8∧e 12=x6∧RV g.m w ((i6.1:List Str):List Str) x6∧e 14=x5∧RV g.m w (o0:List Int) x5∧e 24=l8∧RV g.m w (y159.1:List Span) l8∧e 28=.int .i64 (g8.2.1)∧e 30=.int .i64 (r8)∧e 31=.int .i64 (m7)∧e 34=.int .i64 (((iA).Yarn).High)) (fun X423 uO aS h=>?_) ?_))
        ·refine E_seq (E_region (EL_mv qI rfl ?_))
         refine EL_mv bG rfl ?_
         obtain ⟨aK,aL,h⟩:=bsome h
         refine EL_p (ePtr l8 m7 2) (P_indexAddr (α:=Span) Tryz.underlying56 Tryz.sizeOf63 rfl aG rfl aL) rfl ?_
         have dQ:=PT_idx aG aL
         refine EL_p (fPtr (ePtr l8 m7 2) 1) (P_fieldAddr at_63_1 rfl (PT.ptr dQ)) rfl ?_
         have yV:=PT_field (part_Span_1).1 dQ
         refine EL_do .plain rfl (D_load (g:=oJ) Tryz.isAgg3 Tryz.sizeOf3 rfl yV fun l01 zV=>?_)
         obtain rfl:=RV_int.1 zV
         refine EL_mw (.int .i64 (((iA).Yarn).High)) rfl rfl ?_
         refine EL_mv nN rfl ?_
         refine EL_in (.int .i64 ((w64 (((iA).Yarn).High - zB)))) rfl rfl rfl rfl ?_
         refine EL_p (.int .i64 (max64 (0:Int) (w64 (((iA).Yarn).High - zB)))) (P_max rfl rfl) rfl ?_
         refine EL_p (.bool (((aK).High != (max64 (0:Int) (w64 (((iA).Yarn).High - zB)))))) (P_int rfl rfl rfl) rfl ?_
         refine EL_nil (thn_n ?_)
         rcases csome h with ⟨pJ,h⟩ | ⟨pJ,h⟩
         ·refine E_ct pJ rfl ?_
          refine E_seq (E_region (EL_at (.bool false) rfl rfl ?_))
          refine EL_nil (thn_n (E_ret (thn_r ?_)))
          refine blk_r ?_
          refine thn_r ?_
          refine thn_r ?_
          refine blk_r ?_
          refine thn_r ?_
          obtain rfl:=sinj h
          exact end1 rfl rfl (show _=.bool false from rfl) ⟨_,hfr,rfl⟩
         ·refine E_cf pJ rfl ?_
          exact E_skip (thn_n (aS () _ _ ⟨oJ,hfr,yJ,cH,gN,iN,jN,kN,qI,aG,lN,mN,bG,rfl⟩ h))
        ·rintro _ pZ m01 ⟨eQ, hfr, gQ, iQ, oN, pN, qN, rN, sI, cG, sN, tN, tI, uN⟩ h
         refine E_region (EL_mv tN rfl ?_)
         refine EL_mv uN rfl ?_
         refine EL_mv sI rfl ?_
         refine EL_mv tI rfl ?_
         obtain ⟨rF,bL,h⟩:=bsome h
         refine EL_p (ePtr l8 m7 2) (P_indexAddr (α:=Span) Tryz.underlying56 Tryz.sizeOf63 rfl cG rfl bL) rfl ?_
         have jQ:=PT_idx cG bL
         refine EL_p (fPtr (ePtr l8 m7 2) 1) (P_fieldAddr at_63_1 rfl (PT.ptr jQ)) rfl ?_
         have aW:=PT_field (part_Span_1).1 jQ
         refine EL_do .plain rfl (D_load (g:=eQ) Tryz.isAgg3 Tryz.sizeOf3 rfl aW fun n01 bW=>?_)
         obtain rfl:=RV_int.1 bW
         refine EL_in (.int .i64 ((w64 (((iA).Yarn).High - (rF).High)))) rfl rfl rfl rfl ?_
         refine EL_p (.int .i64 ((w64 (r8 + (w64 (((iA).Yarn).High - (rF).High)))))) (P_int rfl rfl rfl) rfl ?_
         refine EL_p (.int .i64 ((w64 (r8 + (w64 (((iA).Yarn).High - (rF).High)))))) (P_assign rfl) rfl ?_
         exact EL_nil (blk_n (thn_n (xR ((w64 (r8 + (w64 (((iA).Yarn).High - (rF).High))))) _ _ ⟨eQ,hfr,gQ,iQ,oN,pN,qN,rN,sI,cG,sN,rfl,tI⟩ h)))
      ·rintro eF qZ o01 ⟨cW, hfr, kQ, lQ, vN, xN, yN, zN, aO, bO, cO, dO, eO⟩ h
       refine E_region (EL_mv eO rfl ?_)
       refine EL_in (.int .i64 ((w64 (m7 + (1:Int))))) rfl rfl rfl rfl ?_
       refine EL_at (.int .i64 ((w64 (m7 + (1:Int))))) rfl rfl ?_
       exact EL_nil (thn_n (uR (eF,(w64 (m7 + (1:Int)))) _ _ ⟨cW,hfr,kQ,lQ,vN,xN,yN,zN,aO,bO,cO,dO,rfl⟩ h))
    ·rintro k8 rZ p01 ⟨uC, hfr, vD, xD, yA, aB, eG, gG⟩ h
     obtain ⟨aE,hx,h⟩:=bsome h
     refine E_join (fun e w=>∃ (g:Gh) ,Fr gI wI g w∧e 6=.bool (aE)) (fun Q' hQ=>?_) (fun sZ q01 hR=>?_)
     ·replace h := hx
      clear hx
      refine E_region (EL_mv eG rfl ?_)
      refine EL_in (.bool ((decide (g8.2.1 ≥ (0:Int))))) rfl rfl rfl rfl ?_
      refine EL_mw (.bool ((decide (g8.2.1 ≥ (0:Int))))) rfl rfl ?_
      rcases csome h with ⟨tB,h⟩ | ⟨tB,h⟩
      ·refine EL_s rfl rfl tB rfl rfl ?_
       iterate 3 refine EL_s rfl rfl tB rfl rfl ?_
       refine EL_p (.bool true) (P_pick (b:=(decide (g8.2.1 ≥ (0:Int)))) rfl (pick_t tB rfl)) rfl ?_
       refine EL_mw (.bool true) rfl rfl ?_
       refine EL_y (.int .i64 (g8.2.1)) (P_move eG) rfl rfl rfl rfl ?_
       refine EL_y (.bool ((decide (g8.2.1 < (0:Int))))) (P_int rfl rfl rfl) rfl rfl rfl rfl ?_
       refine EL_y (.bool ((decide (g8.2.1 < (0:Int))))) (P_move rfl) rfl rfl rfl rfl ?_
       rcases csome h with ⟨vB,h⟩ | ⟨vB,h⟩
       ·refine EL_s rfl rfl vB rfl rfl ?_
        iterate 3 refine EL_s rfl rfl vB rfl rfl ?_
        refine EL_y (.bool true) (P_pick (b:=(decide (g8.2.1 < (0:Int)))) rfl (pick_t vB rfl)) rfl rfl rfl rfl ?_
        refine EL_p (.bool true) (P_pick (b:=true) rfl (pick_t rfl rfl)) rfl ?_
        refine EL_mw (.bool true) rfl rfl ?_
        refine EL_y x5 (P_move yA) rfl rfl rfl rfl ?_
        refine EL_y (.int .i64 ((o0).length:Int)) (P_len Tryz.underlying27 rfl aB) rfl rfl rfl rfl ?_
        refine EL_y x6 (P_move vD) rfl rfl rfl rfl ?_
        refine EL_y (.int .i64 (((i6.1:List Str)).length:Int)) (P_len Tryz.underlying44 rfl xD) rfl rfl rfl rfl ?_
        refine EL_y (.bool ((decide (((o0).length:Int) ≤ (((i6.1:List Str)).length:Int))))) (P_int rfl rfl rfl) rfl rfl rfl rfl ?_
        refine EL_p (.bool ((decide (((o0).length:Int) ≤ (((i6.1:List Str)).length:Int))))) (P_pick (b:=true) rfl (pick_t rfl rfl)) rfl ?_
        refine EL_p (.bool ((decide (((o0).length:Int) ≤ (((i6.1:List Str)).length:Int))))) (P_move rfl) rfl ?_
        rcases csome h with ⟨iE,h⟩ | ⟨iE,h⟩
        ·obtain ⟨yE, bS, h⟩ := bsome h
         refine EL_do (.yes2 rfl rfl iE) rfl (D_call (g:=uC) (vs:=[]) en17 .nil (wk17  bS) fun mQ tZ r01 hs hr=>?_)
         have hfr:=hfr.ext hs
         subst hr
         refine EL_p (.bool (yE)) (P_pick (b:=(decide (((o0).length:Int) ≤ (((i6.1:List Str)).length:Int)))) rfl (pick_t iE rfl)) rfl ?_
         refine EL_mw (.bool (yE)) rfl rfl ?_
         rcases csome h with ⟨lE,h⟩ | ⟨lE,h⟩
         ·obtain ⟨uI, cS, h⟩ := bsome h
          refine EL_do (.yes2 rfl rfl lE) rfl (D_call (g:=mQ) (vs:=[]) en18 .nil (wk18  cS) fun dW uZ s01 hs hr=>?_)
          have hfr:=hfr.ext hs
          subst hr
          refine EL_p (.bool (uI)) (P_pick (b:=yE) rfl (pick_t lE rfl)) rfl ?_
          refine EL_at (.bool (uI)) rfl rfl ?_
          refine EL_nil ?_
          obtain rfl:=sinj h
          exact hQ _ _ ⟨dW,hfr,rfl⟩
         ·refine EL_s rfl rfl lE rfl rfl ?_
          refine EL_p (.bool false) (P_pick (b:=yE) rfl (pick_f lE rfl)) rfl ?_
          refine EL_at (.bool false) rfl rfl ?_
          refine EL_nil ?_
          obtain rfl:=sinj h
          exact hQ _ _ ⟨mQ,hfr,rfl⟩
        ·refine EL_s rfl rfl iE rfl rfl ?_
         refine EL_p (.bool false) (P_pick (b:=(decide (((o0).length:Int) ≤ (((i6.1:List Str)).length:Int)))) rfl (pick_f iE rfl)) rfl ?_
         refine EL_dead 3 rfl ?_
         refine EL_at (.bool false) rfl rfl ?_
         refine EL_nil ?_
         obtain rfl:=sinj h
         exact hQ _ _ ⟨uC,hfr,rfl⟩
       ·refine EL_y (.int .i64 (k8)) (P_move gG) rfl rfl vB rfl ?_
        refine EL_y x5 (P_move yA) rfl rfl vB rfl ?_
        refine EL_y (.int .i64 ((o0).length:Int)) (P_len Tryz.underlying27 rfl aB) rfl rfl vB rfl ?_
        refine EL_y (.bool ((decide (k8 < ((o0).length:Int))))) (P_int rfl rfl rfl) rfl rfl vB rfl ?_
        refine EL_y (.bool ((decide (k8 < ((o0).length:Int))))) (P_pick (b:=(decide (g8.2.1 < (0:Int)))) rfl (pick_f vB rfl)) rfl rfl rfl rfl ?_
        refine EL_p (.bool ((decide (k8 < ((o0).length:Int))))) (P_pick (b:=true) rfl (pick_t rfl rfl)) rfl ?_
        refine EL_mw (.bool ((decide (k8 < ((o0).length:Int))))) rfl rfl ?_
        rcases csome h with ⟨dB,h⟩ | ⟨dB,h⟩
        ·refine EL_y x5 (P_move yA) rfl rfl dB rfl ?_
         refine EL_y (.int .i64 ((o0).length:Int)) (P_len Tryz.underlying27 rfl aB) rfl rfl dB rfl ?_
         refine EL_y x6 (P_move vD) rfl rfl dB rfl ?_
         refine EL_y (.int .i64 (((i6.1:List Str)).length:Int)) (P_len Tryz.underlying44 rfl xD) rfl rfl dB rfl ?_
         refine EL_y (.bool ((decide (((o0).length:Int) ≤ (((i6.1:List Str)).length:Int))))) (P_int rfl rfl rfl) rfl rfl dB rfl ?_
         refine EL_p (.bool ((decide (((o0).length:Int) ≤ (((i6.1:List Str)).length:Int))))) (P_pick (b:=(decide (k8 < ((o0).length:Int)))) rfl (pick_t dB rfl)) rfl ?_
         refine EL_p (.bool ((decide (((o0).length:Int) ≤ (((i6.1:List Str)).length:Int))))) (P_move rfl) rfl ?_
         rcases csome h with ⟨mE,h⟩ | ⟨mE,h⟩
         ·obtain ⟨zE, dS, h⟩ := bsome h
          refine EL_do (.yes2 rfl rfl mE) rfl (D_call (g:=uC) (vs:=[]) en17 .nil (wk17  dS) fun nQ vZ t01 hs hr=>?_)
          have hfr:=hfr.ext hs
          subst hr
          refine EL_p (.bool (zE)) (P_pick (b:=(decide (((o0).length:Int) ≤ (((i6.1:List Str)).length:Int)))) rfl (pick_t mE rfl)) rfl ?_
          refine EL_mw (.bool (zE)) rfl rfl ?_
          rcases csome h with ⟨oE,h⟩ | ⟨oE,h⟩
          ·obtain ⟨vI, eS, h⟩ := bsome h
           refine EL_do (.yes2 rfl rfl oE) rfl (D_call (g:=nQ) (vs:=[]) en18 .nil (wk18  eS) fun eW xZ u01 hs hr=>?_)
           have hfr:=hfr.ext hs
           subst hr
           refine EL_p (.bool (vI)) (P_pick (b:=zE) rfl (pick_t oE rfl)) rfl ?_
           refine EL_at (.bool (vI)) rfl rfl ?_
           refine EL_nil ?_
           obtain rfl:=sinj h
           exact hQ _ _ ⟨eW,hfr,rfl⟩
          ·refine EL_s rfl rfl oE rfl rfl ?_
           refine EL_p (.bool false) (P_pick (b:=zE) rfl (pick_f oE rfl)) rfl ?_
           refine EL_at (.bool false) rfl rfl ?_
           refine EL_nil ?_
           obtain rfl:=sinj h
           exact hQ _ _ ⟨nQ,hfr,rfl⟩
         ·refine EL_s rfl rfl mE rfl rfl ?_
          refine EL_p (.bool false) (P_pick (b:=(decide (((o0).length:Int) ≤ (((i6.1:List Str)).length:Int)))) rfl (pick_f mE rfl)) rfl ?_
          refine EL_dead 3 rfl ?_
          refine EL_at (.bool false) rfl rfl ?_
          refine EL_nil ?_
          obtain rfl:=sinj h
          exact hQ _ _ ⟨uC,hfr,rfl⟩
        ·refine EL_s rfl rfl dB rfl rfl ?_
         iterate 4 refine EL_s rfl rfl dB rfl rfl ?_
         refine EL_p (.bool false) (P_pick (b:=(decide (k8 < ((o0).length:Int)))) rfl (pick_f dB rfl)) rfl ?_
         refine EL_dead 6 rfl ?_
         refine EL_at (.bool false) rfl rfl ?_
         refine EL_nil ?_
         obtain rfl:=sinj h
         exact hQ _ _ ⟨uC,hfr,rfl⟩
      ·refine EL_y (.int .i64 (k8)) (P_move gG) rfl rfl tB rfl ?_
       refine EL_y x5 (P_move yA) rfl rfl tB rfl ?_
       refine EL_y (.int .i64 ((o0).length:Int)) (P_len Tryz.underlying27 rfl aB) rfl rfl tB rfl ?_
       refine EL_y (.bool ((k8 == ((o0).length:Int)))) (P_int rfl rfl rfl) rfl rfl tB rfl ?_
       refine EL_p (.bool ((k8 == ((o0).length:Int)))) (P_pick (b:=(decide (g8.2.1 ≥ (0:Int)))) rfl (pick_f tB rfl)) rfl ?_
       refine EL_mw (.bool ((k8 == ((o0).length:Int)))) rfl rfl ?_
       rcases csome h with ⟨k9,h⟩ | ⟨k9,h⟩
       ·refine EL_y (.int .i64 (g8.2.1)) (P_move eG) rfl rfl k9 rfl ?_
        refine EL_y (.bool ((decide (g8.2.1 < (0:Int))))) (P_int rfl rfl rfl) rfl rfl k9 rfl ?_
        refine EL_y (.bool ((decide (g8.2.1 < (0:Int))))) (P_move rfl) rfl rfl k9 rfl ?_
        rcases csome h with ⟨yB,h⟩ | ⟨yB,h⟩
        ·refine EL_s rfl rfl yB rfl rfl ?_
         iterate 3 refine EL_s rfl rfl yB rfl rfl ?_
         refine EL_y (.bool true) (P_pick (b:=(decide (g8.2.1 < (0:Int)))) rfl (pick_t yB rfl)) rfl rfl k9 rfl ?_
         refine EL_p (.bool true) (P_pick (b:=(k8 == ((o0).length:Int))) rfl (pick_t k9 rfl)) rfl ?_
         refine EL_mw (.bool true) rfl rfl ?_
         refine EL_y x5 (P_move yA) rfl rfl rfl rfl ?_
         refine EL_y (.int .i64 ((o0).length:Int)) (P_len Tryz.underlying27 rfl aB) rfl rfl rfl rfl ?_
         refine EL_y x6 (P_move vD) rfl rfl rfl rfl ?_
         refine EL_y (.int .i64 (((i6.1:List Str)).length:Int)) (P_len Tryz.underlying44 rfl xD) rfl rfl rfl rfl ?_
         refine EL_y (.bool ((decide (((o0).length:Int) ≤ (((i6.1:List Str)).length:Int))))) (P_int rfl rfl rfl) rfl rfl rfl rfl ?_
         refine EL_p (.bool ((decide (((o0).length:Int) ≤ (((i6.1:List Str)).length:Int))))) (P_pick (b:=true) rfl (pick_t rfl rfl)) rfl ?_
         refine EL_p (.bool ((decide (((o0).length:Int) ≤ (((i6.1:List Str)).length:Int))))) (P_move rfl) rfl ?_
         rcases csome h with ⟨rE,h⟩ | ⟨rE,h⟩
         ·obtain ⟨cF, gS, h⟩ := bsome h
          refine EL_do (.yes2 rfl rfl rE) rfl (D_call (g:=uC) (vs:=[]) en17 .nil (wk17  gS) fun oQ yZ v01 hs hr=>?_)
          have hfr:=hfr.ext hs
          subst hr
          refine EL_p (.bool (cF)) (P_pick (b:=(decide (((o0).length:Int) ≤ (((i6.1:List Str)).length:Int)))) rfl (pick_t rE rfl)) rfl ?_
          refine EL_mw (.bool (cF)) rfl rfl ?_
          rcases csome h with ⟨uE,h⟩ | ⟨uE,h⟩
          ·obtain ⟨yI, iS, h⟩ := bsome h
           refine EL_do (.yes2 rfl rfl uE) rfl (D_call (g:=oQ) (vs:=[]) en18 .nil (wk18  iS) fun gW zZ x01 hs hr=>?_)
           have hfr:=hfr.ext hs
           subst hr
           refine EL_p (.bool (yI)) (P_pick (b:=cF) rfl (pick_t uE rfl)) rfl ?_
           refine EL_at (.bool (yI)) rfl rfl ?_
           refine EL_nil ?_
           obtain rfl:=sinj h
           exact hQ _ _ ⟨gW,hfr,rfl⟩
          ·refine EL_s rfl rfl uE rfl rfl ?_
           refine EL_p (.bool false) (P_pick (b:=cF) rfl (pick_f uE rfl)) rfl ?_
           refine EL_at (.bool false) rfl rfl ?_
           refine EL_nil ?_
           obtain rfl:=sinj h
           exact hQ _ _ ⟨oQ,hfr,rfl⟩
         ·refine EL_s rfl rfl rE rfl rfl ?_
          refine EL_p (.bool false) (P_pick (b:=(decide (((o0).length:Int) ≤ (((i6.1:List Str)).length:Int)))) rfl (pick_f rE rfl)) rfl ?_
          refine EL_dead 3 rfl ?_
          refine EL_at (.bool false) rfl rfl ?_
          refine EL_nil ?_
          obtain rfl:=sinj h
          exact hQ _ _ ⟨uC,hfr,rfl⟩
        ·refine EL_y (.int .i64 (k8)) (P_move gG) rfl rfl yB rfl ?_
         refine EL_y x5 (P_move yA) rfl rfl yB rfl ?_
         refine EL_y (.int .i64 ((o0).length:Int)) (P_len Tryz.underlying27 rfl aB) rfl rfl yB rfl ?_
         refine EL_y (.bool ((decide (k8 < ((o0).length:Int))))) (P_int rfl rfl rfl) rfl rfl yB rfl ?_
         refine EL_y (.bool ((decide (k8 < ((o0).length:Int))))) (P_pick (b:=(decide (g8.2.1 < (0:Int)))) rfl (pick_f yB rfl)) rfl rfl k9 rfl ?_
         refine EL_p (.bool ((decide (k8 < ((o0).length:Int))))) (P_pick (b:=(k8 == ((o0).length:Int))) rfl (pick_t k9 rfl)) rfl ?_
         refine EL_mw (.bool ((decide (k8 < ((o0).length:Int))))) rfl rfl ?_
         rcases csome h with ⟨iB,h⟩ | ⟨iB,h⟩
         ·refine EL_y x5 (P_move yA) rfl rfl iB rfl ?_
          refine EL_y (.int .i64 ((o0).length:Int)) (P_len Tryz.underlying27 rfl aB) rfl rfl iB rfl ?_
          refine EL_y x6 (P_move vD) rfl rfl iB rfl ?_
          refine EL_y (.int .i64 (((i6.1:List Str)).length:Int)) (P_len Tryz.underlying44 rfl xD) rfl rfl iB rfl ?_
          refine EL_y (.bool ((decide (((o0).length:Int) ≤ (((i6.1:List Str)).length:Int))))) (P_int rfl rfl rfl) rfl rfl iB rfl ?_
          refine EL_p (.bool ((decide (((o0).length:Int) ≤ (((i6.1:List Str)).length:Int))))) (P_pick (b:=(decide (k8 < ((o0).length:Int)))) rfl (pick_t iB rfl)) rfl ?_
          refine EL_p (.bool ((decide (((o0).length:Int) ≤ (((i6.1:List Str)).length:Int))))) (P_move rfl) rfl ?_
          rcases csome h with ⟨vE,h⟩ | ⟨vE,h⟩
          ·obtain ⟨dF, jS, h⟩ := bsome h
           refine EL_do (.yes2 rfl rfl vE) rfl (D_call (g:=uC) (vs:=[]) en17 .nil (wk17  jS) fun pQ a00 y01 hs hr=>?_)
           have hfr:=hfr.ext hs
           subst hr
           refine EL_p (.bool (dF)) (P_pick (b:=(decide (((o0).length:Int) ≤ (((i6.1:List Str)).length:Int)))) rfl (pick_t vE rfl)) rfl ?_
           refine EL_mw (.bool (dF)) rfl rfl ?_
           rcases csome h with ⟨xE,h⟩ | ⟨xE,h⟩
           ·obtain ⟨zI, lS, h⟩ := bsome h
            refine EL_do (.yes2 rfl rfl xE) rfl (D_call (g:=pQ) (vs:=[]) en18 .nil (wk18  lS) fun iW b00 z01 hs hr=>?_)
            have hfr:=hfr.ext hs
            subst hr
            refine EL_p (.bool (zI)) (P_pick (b:=dF) rfl (pick_t xE rfl)) rfl ?_
            refine EL_at (.bool (zI)) rfl rfl ?_
            refine EL_nil ?_
            obtain rfl:=sinj h
            exact hQ _ _ ⟨iW,hfr,rfl⟩
           ·refine EL_s rfl rfl xE rfl rfl ?_
            refine EL_p (.bool false) (P_pick (b:=dF) rfl (pick_f xE rfl)) rfl ?_
            refine EL_at (.bool false) rfl rfl ?_
            refine EL_nil ?_
            obtain rfl:=sinj h
            exact hQ _ _ ⟨pQ,hfr,rfl⟩
          ·refine EL_s rfl rfl vE rfl rfl ?_
           refine EL_p (.bool false) (P_pick (b:=(decide (((o0).length:Int) ≤ (((i6.1:List Str)).length:Int)))) rfl (pick_f vE rfl)) rfl ?_
           refine EL_dead 3 rfl ?_
           refine EL_at (.bool false) rfl rfl ?_
           refine EL_nil ?_
           obtain rfl:=sinj h
           exact hQ _ _ ⟨uC,hfr,rfl⟩
         ·refine EL_s rfl rfl iB rfl rfl ?_
          iterate 4 refine EL_s rfl rfl iB rfl rfl ?_
          refine EL_p (.bool false) (P_pick (b:=(decide (k8 < ((o0).length:Int)))) rfl (pick_f iB rfl)) rfl ?_
          refine EL_dead 6 rfl ?_
          refine EL_at (.bool false) rfl rfl ?_
          refine EL_nil ?_
          obtain rfl:=sinj h
          exact hQ _ _ ⟨uC,hfr,rfl⟩
       ·refine EL_s rfl rfl k9 rfl rfl ?_
        refine EL_s rfl rfl k9 rfl rfl ?_
        refine EL_s rfl rfl k9 rfl rfl ?_
        refine EL_dead 4 rfl ?_
        refine EL_s rfl rfl k9 rfl rfl ?_
        refine EL_p (.bool false) (P_pick (b:=(k8 == ((o0).length:Int))) rfl (pick_f k9 rfl)) rfl ?_
        refine EL_dead 13 rfl ?_
        refine EL_at (.bool false) rfl rfl ?_
        refine EL_nil ?_
        obtain rfl:=sinj h
        exact hQ _ _ ⟨uC,hfr,rfl⟩
     ·clear hx
      obtain ⟨a02,hfr,qQ⟩:=hR
      refine E_ret ?_
      obtain rfl:=sinj h
      exact end1 rfl rfl (show _=.bool (aE) from qQ) ⟨_,hfr,rfl⟩
end Go.Proofs.YtkfdjkkbnfohjaaGreat
