import Derived.Test.YtmpjooneiaiffaaCode4
set_option maxRecDepth 8000
set_option maxHeartbeats 4000000
namespace Go.Proofs.Ytmpjooneiaiffaa
open Go.RowKit
def f29 (x0:BoxLoom) (x1:List BoxPick):Option ((List Span) × Int × Int):=
 (f70 x0 x1).bind fun y5=>
 jn (σ:=(List Span)) (fun z9=>
  Option.bind (α:=(List Span)) (
   lp (σ:=(List Span) × Int) (fun k48 (m8,i5)=>
    bif (decide (i5 < ((((y5.1).BoxLoom).Shuttles).length : Int))) then
     Option.bind (α:=(List Span)) (
      (idx (((y5.1).BoxLoom).Shuttles) i5).bind fun dB=>
      (apnd 16 m8 (([(dB).Yarn]:List Span))).bind fun y71=>
      some (y71)
      ) fun i7=>
     k48 (i7,(w64 (i5 + (1:Int))))
    else
     some (m8)
    ) big (z9,(0:Int))
   ) fun n8=>
  Option.bind (α:=(List Span)) (
   lp (σ:=(List Span) × Int) (fun iB (v6,o0)=>
    bif (decide (o0 < (((y5.2.1).thrown).length : Int))) then
     Option.bind (α:=(List Span)) (
      (idx ((y5.2.1).thrown) o0).bind fun i6=>
      (idx v6 (w64 (i6 - (1:Int)))).bind fun y130=>
      (idx v6 (w64 (i6 - (1:Int)))).bind fun zD=>
      some ((List.set v6 (Int.toNat (w64 (i6 - (1:Int)))) ((⟨(max64 (0:Int) (w64 ((y130).Low - (1:Int)))),(max64 (0:Int) (w64 ((y130).High - (1:Int))))⟩:Span))))
      ) fun y6=>
     iB (y6,(w64 (o0 + (1:Int))))
    else
     some (v6)
    ) big (n8,(0:Int))
   ) fun j7=>
  some (j7,(0:Int),(0:Int))
  ) fun sD=>
 bif (y5.2.2.2 != (0 : Int)) then
  some (([]:List Span),y5.2.2.1,y5.2.2.2)
 else
  sD (([]:List Span))
theorem en29:Enters Try.prog 29:=enters_of Try.func29 (by kernel_rfl) rfl
theorem wk29 {gI:Gh} {wI:World} {x0:BoxLoom} {x1:List BoxPick} {up0:Value} (rp0:RV gI.m wI x0 up0) {up1:Value} (rp1:RV gI.m wI x1 up1) {r:(List Span) × Int × Int} (h:f29 x0 x1=some r):Fn Try.prog 29 #[up0,up1] gI wI (fun m w v=>∃ y0 y1 y2,v=.tuple #[y0,y1,y2]∧RV m w (r.1) y0∧y1=.int .i64 (r.2.1)∧y2=.int .i64 (r.2.2)):=by
 unfold f29 at h
 refine fn_of_E Try.func29 rfl (Nat.le_of_ble_eq_true rfl) fun g0 hm hfr=>?_
 have rp0:RV g0.m wI x0 up0:=hm ▸ rp0
 have rp1:RV g0.m wI x1 up1:=hm ▸ rp1
 show E _ 67 none _ _ _ _ _
 refine Zf (Za (Ze .plain rfl (D_box (g:=g0) rfl rp0 fun g1 w1 p1 hs q1=>?_)))
 have hfr:=hfr.ext hs
 have rp1:=rp1.ext hs
 refine Zg (.slice none 0 0) rfl rfl ?_
 have b2:OA 4004 g1 w1 85 ([]:List Span) (.slice none 0 0):=OA.nil
 refine Zg (.int .i64 (0)) rfl rfl ?_
 refine Zg (.int .i64 (0)) rfl rfl ?_
 refine Zb (Zd (Zf (Za (Ze .plain rfl (D_load (g:=g1) Try.isAgg25 Try.sizeOf25 rfl q1 fun v3 r3=>?_)))))
 refine Zn up1 rfl rfl ?_
 obtain ⟨y5,hy5,h⟩:=bsome h
 refine Ze .plain rfl (Zp (g:=g1) (vs:=[v3,up1]) en70 (.cons rfl (.cons rfl .nil)) (wk70 r3 rp1 hy5) fun g4 w4_ v4 hs hr=>?_)
 have hfr:=hfr.ext hs
 have b2:=b2.ext hs
 obtain ⟨k9,l9,nF,oF,rfl,m7,x6,rfl,rfl⟩:=hr
 refine Zn (.tuple #[k9,l9,.int .i64 (y5.2.2.1),.int .i64 (y5.2.2.2)]) rfl rfl ?_
 refine EL_p k9 (Zi rfl rfl) rfl ?_
 refine EL_p l9 (Zi rfl rfl) rfl ?_
 refine EL_p (.int .i64 (y5.2.2.1)) (Zi rfl rfl) rfl ?_
 refine EL_p (.int .i64 (y5.2.2.2)) (Zi rfl rfl) rfl ?_
 refine Ze .plain rfl (D_allocOc (g:=g4) 2007 (⟨⟨[],[],[]⟩⟩:BoxBoxLoom) Try.zeroValue102 (fun m w=>⟨_,(rep_two rep_nil (rep_two rep_nil rep_nil)),rfl⟩) fun g6 w6 p6 hs b6 cb=>?_)
 have hfr:=hfr.stp hs
 have b2:=b2.stp hs rfl
 have m7:=m7.stp hs
 have x6:=x6.stp hs
 have pF:OSF 2007 60700 0 g6 w6 3 102 ([]:List Int) p6:=cb.osf (by rfl)
 have qF:OSF 2007 60701 1 g6 w6 3 102 ([]:List Int) p6:=cb.osf (by rfl)
 have rF:OSF 2007 60702 2 g6 w6 87 102 ([]:List BoxShuttle) p6:=cb.osf (by rfl)
 clear cb
 refine Ze .plain rfl (D_allocOc (g:=g6) 2008 (⟨[],⟨(⟨List.toArray [(⟨List.toArray [0,0,0,0],rfl⟩:Vector Int 4),(⟨List.toArray [0,0,0,0],rfl⟩:Vector Int 4)],rfl⟩:Vector (Vector Int 4) 2),⟨0,0⟩⟩,0⟩:BoxRun) Try.zeroValue129 (fun m w=>⟨_,(rep_two rep_nil (rep_two (rep_two (rep_vec (flat_chunk (rep_vec (flat_chunk rep_int (flat_chunk rep_int (flat_chunk rep_int (flat_chunk rep_int flat_nil)))) rfl) (flat_chunk (rep_vec (flat_chunk rep_int (flat_chunk rep_int (flat_chunk rep_int (flat_chunk rep_int flat_nil)))) rfl) flat_nil)) rfl) (rep_two rep_int rep_int)) rep_int)),rfl⟩) fun g7 w7 p7 hs b7 cb=>?_)
 have hfr:=hfr.stp hs
 have b2:=b2.stp hs rfl
 have m7:=m7.stp hs
 have x6:=x6.stp hs
 have b6:=b6.stp hs rfl
 have sF:OSF 2008 60800 0 g7 w7 3 129 ([]:List Int) p7:=cb.osf (by rfl)
 clear cb
 refine Ze .plain rfl (D_storeOc (g:=g7) (v:=k9) Try.sizeOf102 rfl b6 rfl m7 fun g8 w8 hs b8 cb=>?_)
 clear cb
 have hfr:=hfr.stp hs
 have b2:=b2.stp hs rfl
 have x6:=x6.stp hs
 have b7:=b7.stp hs rfl
 refine Ze .plain rfl (D_storeOc (g:=g8) (v:=l9) Try.sizeOf129 rfl b7 rfl x6 fun g9 w9 hs b9 cb=>?_)
 clear cb
 have hfr:=hfr.stp hs
 have b2:=b2.stp hs rfl
 have b8:=b8.stp hs rfl
 refine Zg (.int .i64 (y5.2.2.1)) rfl rfl ?_
 refine Zg (.int .i64 (y5.2.2.2)) rfl rfl ?_
 refine Zb (Zd (Zq h (fun (s:(List Span)) e w=>∃ (g:Gh) (v4:Value),Fr gI wI g w∧e 4=v4∧OA 4004 g w 85 (s:List Span) v4∧e 7=p6∧OB 2007 g w 102 (y5.1:BoxBoxLoom) p6∧e 8=p7∧OB 2008 g w 129 (y5.2.1:BoxRun) p7) (fun X13 sD aE h=>?_) ?_))
 ·refine Zf (Za (Zn (.int .i64 (y5.2.2.2)) rfl rfl ?_))
  refine EL_in (.bool ((y5.2.2.2 != (0:Int)))) rfl rfl rfl rfl ?_
  refine Zb (Zd ?_)
  rcases Zt h with ⟨n9,h⟩ | ⟨n9,h⟩
  ·refine E_ct n9 rfl ?_
   refine Zf (Za (Zn (.int .i64 (y5.2.2.1)) rfl rfl ?_))
   refine Zn (.int .i64 (y5.2.2.2)) rfl rfl ?_
   refine Zg (.slice none 0 0) rfl rfl ?_
   have b15:OA 4004 g9 w9 85 ([]:List Span) (.slice none 0 0):=OA.nil
   refine Zg (.int .i64 (y5.2.2.1)) rfl rfl ?_
   refine Zg (.int .i64 (y5.2.2.2)) rfl rfl ?_
   refine Zb (Zd (E_ret (thn_r ?_)))
   obtain ⟨gp16,hs,rp16⟩:=OM.pub (b15.toM)
   have hfr:=hfr.stp hs
   obtain rfl:=sinj h
   exact end3 rfl rfl (show _=.slice none 0 0 from rfl) (show _=.int .i64 (y5.2.2.1) from rfl) (show _=.int .i64 (y5.2.2.2) from rfl) ⟨_,hfr,_,_,_,rfl,rp16,rfl,rfl⟩
  ·refine E_cf n9 rfl ?_
   exact Zu (Zd (aE (([]:List Span)) _ _ ⟨g9,(.slice none 0 0),hfr,rfl,b2,rfl,b8,rfl,b9⟩ h))
 ·rintro z9 tF iG ⟨tD, mC, hfr, qC, rC, uC, q8, vC, aD⟩ h
  obtain ⟨n8,hx,h⟩:=bsome h
  refine E_join (fun e w=>∃ (g:Gh) (v4:Value),Fr gI wI g w∧e 4=v4∧OA 4004 g w 85 (n8:List Span) v4∧e 8=p7∧OB 2008 g w 129 (y5.2.1:BoxRun) p7) (fun Q' hQ=>?_) (fun uF jG hR=>?_)
  ·replace h := hx
   clear hx
   refine Zf (Za (EL_p (fPtr p6 0) (Zc at_102_0 uC (OB.ptr q8)) rfl ?_))
   refine EL_p (fPtr p6 2) (P_fieldAddr2 (o1:=0) rfl at_25_2 rfl (OB.ptr q8)) rfl ?_
   refine Ze .plain rfl (D_loadF (g:=tD) (SubS.comp part_BoxBoxLoom_0 part_BoxLoom_2 rfl).1 Try.isAgg23 Try.sizeOf23 rfl q8 fun x8 uD=>?_)
   refine EL_p (.int .i64 ((((y5.1).BoxLoom).Shuttles).length:Int)) (P_len Try.underlying23 rfl uD) rfl ?_
   refine Zn (.int .i64 (0)) rfl rfl ?_
   refine Zb (Zd (Zr ?_))
   refine E_lp h (fun (s:(List Span) × Int) e w=>∃ (g:Gh) (v4:Value),Fr gI wI g w∧e 4=v4∧OA 4004 g w 85 (s.1:List Span) v4∧e 8=p7∧OB 2008 g w 129 (y5.2.1:BoxRun) p7∧e 28=x8∧RV g.m w (((y5.1).BoxLoom).Shuttles:List BoxShuttle) x8∧e 29=.int .i64 (((((y5.1).BoxLoom).Shuttles).length:Int))∧e 30=.int .i64 (s.2)) ⟨tD,(mC),hfr,qC,rC,vC,aD,rfl,uD,rfl,rfl⟩ (fun X48 k48 bE=>?_)
   rintro ⟨m8,i5⟩ vF kG ⟨jB,bD,hfr,bA,j6,gA,t5,a9,i3,d9,v7⟩ h
   refine Zf (Za (EL_p (.bool ((decide (i5 < ((((y5.1).BoxLoom).Shuttles).length:Int))))) (P_int v7 d9 rfl) rfl ?_))
   refine Zb (Zd (Zf ?_))
   rcases Zt h with ⟨u9,h⟩ | ⟨u9,h⟩
   ·refine E_ct u9 rfl ?_
    refine Zu (Zd ?_)
    obtain ⟨i7,hx,h⟩:=bsome h
    refine E_join (fun e w=>∃ (g:Gh) (v4:Value),Fr gI wI g w∧e 4=v4∧OA 4004 g w 85 (i7:List Span) v4∧e 8=p7∧OB 2008 g w 129 (y5.2.1:BoxRun) p7∧e 28=x8∧RV g.m w (((y5.1).BoxLoom).Shuttles:List BoxShuttle) x8∧e 29=.int .i64 (((((y5.1).BoxLoom).Shuttles).length:Int))∧e 30=.int .i64 (i5)) (fun Q' hQ=>?_) (fun xF lG hR=>?_)
    ·replace h := hx
     clear hx
     refine Zr ?_
     refine Zf (Za ?_)
     obtain ⟨dB,lB,h⟩:=bsome h
     refine EL_p (ePtr x8 i5 5) (Zh (α:=BoxShuttle) Try.underlying23 Try.sizeOf87 a9 i3 v7 lB) rfl ?_
     have q62:=PT_idx i3 lB
     refine Ze .plain rfl (D_load (g:=jB) Try.isAgg87 Try.sizeOf87 rfl q62 fun rE mB=>?_)
     refine Ze .plain rfl (D_allocOc (g:=jB) 2010 (⟨0,0,0,⟨0,0⟩⟩:BoxShuttle) Try.zeroValue87 (fun m w=>⟨_,(rep_two rep_int (rep_two rep_int (rep_two rep_int (rep_two rep_int rep_int)))),rfl⟩) fun sE mG tE hs b65 cb=>?_)
     have hfr:=hfr.stp hs
     have j6:=j6.stp hs rfl
     have t5:=t5.stp hs rfl
     have i3:=i3.stp hs
     have mB:=mB.stp hs
     clear cb
     refine Ze .plain rfl (D_storeOc (g:=sE) (v:=rE) Try.sizeOf87 rfl b65 rfl mB fun vD nG hs b66 cb=>?_)
     clear cb
     have hfr:=hfr.stp hs
     have j6:=j6.stp hs rfl
     have t5:=t5.stp hs rfl
     have i3:=i3.stp hs
     refine Zb (Zd (Za (Zo bA rfl ?_)))
     refine EL_p (fPtr tE 3) (Zc at_87_3 rfl (OB.ptr b66)) rfl ?_
     refine Ze .plain rfl (D_loadF (g:=vD) part_BoxShuttle_3.1 Try.isAgg85 Try.sizeOf85 rfl b66 fun uE vE=>?_)
     refine Ze .plain rfl (D_buildSlice (g:=vD) 3037 (xs:=([(dB).Yarn]:List Span)) (vs:=[uE]) Try.underlying51 Try.sizeOf85 Try.zeroValue85 rfl rfl (.cons rfl .nil) (RVs.cons vE RVs.nil) rfl rfl fun xE oG pG hs o69 yE hxt hfl=>?_)
     have hfr:=hfr.stp hs
     have j6:=j6.stp hs rfl
     have t5:=t5.stp hs rfl
     have i3:=i3.stp hs
     obtain ⟨y71,cE,h⟩:=bsome h
     refine Ze .plain rfl (D_appendA (g:=xE) plain_Span (i:=4004) Try.underlying51 info_85 rfl rfl j6 rfl yE cE fun zE qG xD hs b70=>?_)
     have hfr:=hfr.stp hs
     have t5:=t5.stp hs rfl
     have i3:=i3.stp hs
     refine Zg xD rfl rfl ?_
     refine Zb (blk_n ?_)
     obtain rfl:=sinj h
     exact hQ _ _ ⟨zE,(xD),hfr,rfl,b70,gA,t5,a9,i3,d9,v7⟩
    ·clear hx
     obtain ⟨cF,cD,hfr,eD,gD,iD,jD,nB,oB,tB,vB⟩:=hR
     refine Za (EL_in (.int .i64 ((w64 (i5 + (1:Int))))) vB rfl rfl rfl ?_)
     refine Zn (.int .i64 ((w64 (i5 + (1:Int))))) rfl rfl ?_
     exact Zb (Zd (bE (i7,(w64 (i5 + (1:Int)))) _ _ ⟨cF,(cD),hfr,eD,gD,iD,jD,nB,oB,tB,rfl⟩ h))
   ·refine E_cf u9 rfl ?_
    refine E_exit ?_
    refine thn_e ?_
    refine thn_e ?_
    refine blk_hit ?_
    obtain rfl:=sinj h
    exact hQ _ _ ⟨jB,(bD),hfr,bA,j6,gA,t5⟩
  ·clear hx
   obtain ⟨yD,x5,hfr,kD,lD,mD,iA⟩:=hR
   obtain ⟨j7,hx,h⟩:=bsome h
   refine E_join (fun e w=>∃ (g:Gh) ,Fr gI wI g w∧e 4=x5∧OA 4004 g w 85 (j7:List Span) x5) (fun Q' hQ=>?_) (fun dF yF hR=>?_)
   ·replace h := hx
    clear hx
    refine Zf (Za (EL_p (fPtr p7 0) (Zc at_129_0 mD (OB.ptr iA)) rfl ?_))
    refine Ze .plain rfl (D_loadF (g:=yD) part_BoxRun_0.1 Try.isAgg22 Try.sizeOf22 rfl iA fun i8 yB=>?_)
    refine EL_p (.int .i64 (((y5.2.1).thrown).length:Int)) (P_len Try.underlying22 rfl yB) rfl ?_
    refine Zn (.int .i64 (0)) rfl rfl ?_
    refine Zb (Zd (Zr ?_))
    refine E_lp h (fun (s:(List Span) × Int) e w=>∃ (g:Gh) ,Fr gI wI g w∧e 4=x5∧OA 4004 g w 85 (s.1:List Span) x5∧e 41=i8∧RV g.m w ((y5.2.1).thrown:List Int) i8∧e 42=.int .i64 ((((y5.2.1).thrown).length:Int))∧e 43=.int .i64 (s.2)) ⟨yD,hfr,kD,lD,rfl,yB,rfl,rfl⟩ (fun X110 iB nD=>?_)
    rintro ⟨v6,o0⟩ eF zF ⟨r8,hfr,a7,l5,k8,u3,l8,d7⟩ h
    refine Zf (Za (EL_p (.bool ((decide (o0 < (((y5.2.1).thrown).length:Int))))) (P_int d7 l8 rfl) rfl ?_))
    refine Zb (Zd (Zf ?_))
    rcases Zt h with ⟨t8,h⟩ | ⟨t8,h⟩
    ·refine E_ct t8 rfl ?_
     refine Zu (Zd ?_)
     obtain ⟨y6,hx,h⟩:=bsome h
     refine E_join (fun e w=>∃ (g:Gh) ,Fr gI wI g w∧e 4=x5∧OA 4004 g w 85 (y6:List Span) x5∧e 41=i8∧RV g.m w ((y5.2.1).thrown:List Int) i8∧e 42=.int .i64 ((((y5.2.1).thrown).length:Int))∧e 43=.int .i64 (o0)) (fun Q' hQ=>?_) (fun iF aG hR=>?_)
     ·replace h := hx
      clear hx
      refine Zr ?_
      refine Zf (Za ?_)
      obtain ⟨i6,jA,h⟩:=bsome h
      refine EL_p (ePtr i8 o0 1) (Zh (α:=Int) Try.underlying22 Try.sizeOf3 k8 u3 d7 jA) rfl ?_
      have dE:=PT_idx u3 jA
      refine Ze .plain rfl (D_load (g:=r8) Try.isAgg3 Try.sizeOf3 rfl dE fun bG eE=>?_)
      obtain rfl:=Zj.1 eE
      refine Zg (.int .i64 (i6)) rfl rfl ?_
      refine Zb (Zd (Zf (Za (Zo a7 rfl ?_))))
      refine Zn (.int .i64 (i6)) rfl rfl ?_
      refine EL_in (.int .i64 ((w64 (i6 - (1:Int))))) rfl rfl rfl rfl ?_
      obtain ⟨y130,mA,h⟩:=bsome h
      refine EL_p (ePtr x5 (w64 (i6 - (1:Int))) 2) (P_indexAddrM (α:=Span) Try.underlying51 Try.sizeOf85 rfl (l5.toM) rfl mA) rfl ?_
      refine Ze .plain rfl (D_loadM (g:=r8) Try.isAgg85 Try.sizeOf85 rfl (l5.toM) mA fun gE y9=>?_)
      refine Ze .plain rfl (D_allocOc (g:=r8) 2013 (⟨0,0⟩:Span) Try.zeroValue85 (fun m w=>⟨_,(rep_two rep_int rep_int),rfl⟩) fun iE cG zB hs b132 cb=>?_)
      have hfr:=hfr.stp hs
      have l5:=l5.stp hs rfl
      have u3:=u3.stp hs
      have y9:=y9.stp hs
      clear cb
      refine Ze .plain rfl (D_storeOc (g:=iE) (v:=gE) Try.sizeOf85 rfl b132 rfl y9 fun v8 jE hs b133 cb=>?_)
      clear cb
      have hfr:=hfr.stp hs
      have l5:=l5.stp hs rfl
      have u3:=u3.stp hs
      refine Zb (Zd (Za (Zo a7 rfl ?_)))
      refine Zn (.int .i64 (i6)) rfl rfl ?_
      refine EL_in (.int .i64 ((w64 (i6 - (1:Int))))) rfl rfl rfl rfl ?_
      refine EL_p (fPtr zB 0) (Zc at_85_0 rfl (OB.ptr b133)) rfl ?_
      refine Ze .plain rfl (D_loadF (g:=v8) part_Span_0.1 Try.isAgg3 Try.sizeOf3 rfl b133 fun dG kE=>?_)
      obtain rfl:=Zj.1 kE
      refine EL_in (.int .i64 ((w64 ((y130).Low - (1:Int))))) rfl rfl rfl rfl ?_
      refine EL_p (.int .i64 (max64 (0:Int) (w64 ((y130).Low - (1:Int))))) (P_max rfl rfl) rfl ?_
      refine EL_p (fPtr zB 1) (Zc at_85_1 rfl (OB.ptr b133)) rfl ?_
      refine Ze .plain rfl (D_loadF (g:=v8) part_Span_1.1 Try.isAgg3 Try.sizeOf3 rfl b133 fun eG lE=>?_)
      obtain rfl:=Zj.1 lE
      refine EL_in (.int .i64 ((w64 ((y130).High - (1:Int))))) rfl rfl rfl rfl ?_
      refine EL_p (.int .i64 (max64 (0:Int) (w64 ((y130).High - (1:Int))))) (P_max rfl rfl) rfl ?_
      have aC:RV v8.m jE (⟨(max64 (0:Int) (w64 ((y130).Low - (1:Int)))),(max64 (0:Int) (w64 ((y130).High - (1:Int))))⟩:Span) (.agg (setCh [[.int .i64 0],[.int .i64 0]] [(0,.int .i64 (max64 (0:Int) (w64 ((y130).Low - (1:Int))))),(1,.int .i64 (max64 (0:Int) (w64 ((y130).High - (1:Int)))))]).flatten.toArray):=RV_build rfl (rep_pair (rfl) (rep_last (rfl)))
      generalize oD:(Value.agg (setCh [[.int .i64 0],[.int .i64 0]] [(0,.int .i64 (max64 (0:Int) (w64 ((y130).Low - (1:Int))))),(1,.int .i64 (max64 (0:Int) (w64 ((y130).High - (1:Int)))))]).flatten.toArray)=mE at aC
      refine EL_p mE (oD ▸ P_build (vs:=[(0,.int .i64 (max64 (0:Int) (w64 ((y130).Low - (1:Int))))),(1,.int .i64 (max64 (0:Int) (w64 ((y130).High - (1:Int)))))]) [[.int .i64 0],[.int .i64 0]] lay_85 rfl rfl (.cons rfl (.cons rfl .nil)) ⟨⟨_,rfl,rfl⟩,⟨⟨_,rfl,rfl⟩,trivial⟩⟩) rfl ?_
      obtain ⟨zD,pA,h⟩:=bsome h
      refine EL_p (ePtr x5 (w64 (i6 - (1:Int))) 2) (P_indexAddrM (α:=Span) Try.underlying51 Try.sizeOf85 rfl (l5.toM) rfl pA) rfl ?_
      refine Ze .plain rfl (D_storeA (g:=v8) (α:=Span) (a':=((⟨(max64 (0:Int) (w64 ((y130).Low - (1:Int)))),(max64 (0:Int) (w64 ((y130).High - (1:Int))))⟩:Span))) Try.sizeOf85 rfl l5 pA rfl aC fun nE gG hs b140=>?_)
      have hfr:=hfr.stp hs
      have u3:=u3.stp hs
      refine Zb (blk_n ?_)
      obtain rfl:=sinj h
      exact hQ _ _ ⟨nE,hfr,a7,b140,k8,u3,l8,d7⟩
     ·clear hx
      obtain ⟨oE,hfr,cC,eC,qA,rA,yA,aB⟩:=hR
      refine Za (EL_in (.int .i64 ((w64 (o0 + (1:Int))))) aB rfl rfl rfl ?_)
      refine Zn (.int .i64 ((w64 (o0 + (1:Int))))) rfl rfl ?_
      exact Zb (Zd (nD (y6,(w64 (o0 + (1:Int)))) _ _ ⟨oE,hfr,cC,eC,qA,rA,yA,rfl⟩ h))
    ·refine E_cf t8 rfl ?_
     refine E_exit ?_
     refine thn_e ?_
     refine thn_e ?_
     refine blk_hit ?_
     obtain rfl:=sinj h
     exact hQ _ _ ⟨r8,hfr,a7,l5⟩
   ·clear hx
    obtain ⟨hG,hfr,iC,lC⟩:=hR
    refine Zf (Za (Zo iC rfl ?_))
    refine Zg x5 rfl rfl ?_
    refine Zg (.int .i64 (0)) rfl rfl ?_
    refine Zg (.int .i64 (0)) rfl rfl ?_
    refine Zb (Zd (E_ret ?_))
    obtain ⟨gp143,hs,rp143⟩:=OM.pub (lC.toM)
    have hfr:=hfr.stp hs
    obtain rfl:=sinj h
    exact end3 rfl rfl (show _=x5 from rfl) (show _=.int .i64 (0) from rfl) (show _=.int .i64 (0) from rfl) ⟨_,hfr,_,_,_,rfl,rp143,rfl,rfl⟩
theorem W78 {iO:Nat} {gI:Gh} {wI:World} {x0:List Int} {up0:Value} (rp0:RV gI.m wI x0 up0) {r:List Int} (h:f78 x0=some r):FnG Try.prog 78 #[up0] gI wI (fun g w v=>OWx (Ow.list 3 (Ow.sh Int)) iO g w r v):=by
 unfold f78 at h
 refine fnG_of_E Try.func78 rfl (Nat.le_of_ble_eq_true rfl) fun g0 hm hfr=>?_
 have rp0:RV g0.m wI x0 up0:=hm ▸ rp0
 show E _ 8 none _ _ _ _ _
 refine Zf (Za (Zg (.slice none 0 0) rfl rfl (Zb (Zd ?_))))
 refine Zf (Zf (Za (Zn up0 rfl rfl ?_)))
 obtain ⟨a,c,hv,hc,hrow⟩:=RV_list rp0
 refine EL_p (.bool a.isNone) (P_slnil Try.underlying22 (show ev _ _=_ from hv)) rfl (Zb (Zd ?_))
 cases a with
 | none=>
  have hx:x0=[]:=by
   cases x0 with
   | nil=>rfl
   | cons y ys=>obtain ⟨b,off,hb,_⟩:=hrow (by simp); cases hb
  subst hx
  have hr:r=[]:=by unfold apnd at h; split at h <;> simp at h; exact h
  subst hr
  refine E_cond_true rfl (Zf (Za ?_))
  refine Zg (.slice none 0 0) rfl rfl (Zb (Zd ?_))
  obtain ⟨sk,ow,ok⟩:=OA.toW (OA.nil:OA 1 g0 wI 3 ([]:List Int) (.slice none 0 0))
  obtain ⟨gh,hxh,_,homh⟩:=OW.hand (i:=iO) hfr ow ok; exact E_ret (thn_r (end1 rfl rfl (show _=.slice none 0 0 from rfl) ⟨gh,hxh,homh⟩))
 | some a=>
  refine E_cond_false rfl (Zu (Zd ?_))
  refine Zf (Za (Ze .plain rfl (D_buildSlice (g:=g0) 1 (xs:=([]:List Int)) (vs:=[]) Try.underlying22 Try.sizeOf3 Try.zeroValue3 rfl rfl .nil RVs.nil rfl rfl fun g1 w1 v1 hs o1 r1 hxt hfl=>?_)))
  have hfr:=hfr.stp hs
  have rp0:=rp0.stp hs
  refine Zn up0 rfl rfl ?_
  refine Ze .plain rfl (D_appendE (g:=g1) plain_int (i:=1) Try.underlying22 info_3 rfl rfl o1 hfl rfl rp0 h fun g2 w2 v2 hs b2=>?_)
  have hfr:=hfr.ext hs
  refine Zg v2 rfl rfl (Zb (Zd ?_))
  obtain ⟨sk,ow,ok⟩:=OA.toW b2
  obtain ⟨gh,hxh,_,homh⟩:=OW.hand (i:=iO) hfr ow ok; exact E_ret (end1 rfl rfl (show _=v2 from rfl) ⟨gh,hxh,homh⟩)
theorem W79 {iO:Nat} {gI:Gh} {wI:World} {x0:List BoxShuttle} {up0:Value} (rp0:RV gI.m wI x0 up0) {r:List BoxShuttle} (h:f79 x0=some r):FnG Try.prog 79 #[up0] gI wI (fun g w v=>OWx (Ow.list 87 (Ow.sh BoxShuttle)) iO g w r v):=by
 unfold f79 at h
 refine fnG_of_E Try.func79 rfl (Nat.le_of_ble_eq_true rfl) fun g0 hm hfr=>?_
 have rp0:RV g0.m wI x0 up0:=hm ▸ rp0
 show E _ 8 none _ _ _ _ _
 refine Zf (Za (Zg (.slice none 0 0) rfl rfl (Zb (Zd ?_))))
 refine Zf (Zf (Za (Zn up0 rfl rfl ?_)))
 obtain ⟨a,c,hv,hc,hrow⟩:=RV_list rp0
 refine EL_p (.bool a.isNone) (P_slnil Try.underlying23 (show ev _ _=_ from hv)) rfl (Zb (Zd ?_))
 cases a with
 | none=>
  have hx:x0=[]:=by
   cases x0 with
   | nil=>rfl
   | cons y ys=>obtain ⟨b,off,hb,_⟩:=hrow (by simp); cases hb
  subst hx
  have hr:r=[]:=by unfold apnd at h; split at h <;> simp at h; exact h
  subst hr
  refine E_cond_true rfl (Zf (Za ?_))
  refine Zg (.slice none 0 0) rfl rfl (Zb (Zd ?_))
  obtain ⟨sk,ow,ok⟩:=OA.toW (OA.nil:OA 1 g0 wI 87 ([]:List BoxShuttle) (.slice none 0 0))
  obtain ⟨gh,hxh,_,homh⟩:=OW.hand (i:=iO) hfr ow ok; exact E_ret (thn_r (end1 rfl rfl (show _=.slice none 0 0 from rfl) ⟨gh,hxh,homh⟩))
 | some a=>
  refine E_cond_false rfl (Zu (Zd ?_))
  refine Zf (Za (Ze .plain rfl (D_buildSlice (g:=g0) 1 (xs:=([]:List BoxShuttle)) (vs:=[]) Try.underlying23 Try.sizeOf87 Try.zeroValue87 rfl rfl .nil RVs.nil rfl rfl fun g1 w1 v1 hs o1 r1 hxt hfl=>?_)))
  have hfr:=hfr.stp hs
  have rp0:=rp0.stp hs
  refine Zn up0 rfl rfl ?_
  refine Ze .plain rfl (D_appendE (g:=g1) plain_BoxShuttle (i:=1) Try.underlying23 info_87 rfl rfl o1 hfl rfl rp0 h fun g2 w2 v2 hs b2=>?_)
  have hfr:=hfr.ext hs
  refine Zg v2 rfl rfl (Zb (Zd ?_))
  obtain ⟨sk,ow,ok⟩:=OA.toW b2
  obtain ⟨gh,hxh,_,homh⟩:=OW.hand (i:=iO) hfr ow ok; exact E_ret (end1 rfl rfl (show _=v2 from rfl) ⟨gh,hxh,homh⟩)
def f40 (x0:BoxLoom) (x1:List BoxPick):Option ((List Int) × BoxLoom × Int × Int × Int):=
 (f70 x0 x1).bind fun y5=>
 jn (σ:=(List Int) × BoxLoom) (fun (nE,y6)=>
  Option.bind (α:=(List Int)) (
   lp (σ:=(List Int) × Int) (fun gG (aC,j6)=>
    bif (decide (j6 < (((y5.2.1).thrown).length : Int))) then
     Option.bind (α:=(List Int)) (
      (idx ((y5.2.1).thrown) j6).bind fun mA=>
      (idx (((y5.1).BoxLoom).Shuttles) (w64 (mA - (1:Int)))).bind fun y125=>
      (apnd 8 aC (([(y125).Colour]:List Int))).bind fun hG=>
      some (hG)
      ) fun y9=>
     gG (y9,(w64 (j6 + (1:Int))))
    else
     some (aC)
    ) big (nE,(0:Int))
   ) fun i6=>
  (f78 (((y5.1).BoxLoom).Boxes)).bind fun pA=>
  (f79 (((y5.1).BoxLoom).Shuttles)).bind fun qA=>
  Option.bind (α:=BoxLoom) (
   lp (σ:=BoxLoom × Int) (fun iG (cC,i3)=>
    bif (decide (i3 < (2 : Int))) then
     Option.bind (α:=BoxLoom) (
      (idx (((y5.2.1).last).boxes).toList i3).bind fun kD=>
      lp (σ:=BoxLoom × Int) (fun jG (o0,x5)=>
       bif (decide (x5 < (4 : Int))) then
        Option.bind (α:=BoxLoom) (
         (idx (kD).toList x5).bind fun l5=>
         bif (decide (l5 > (0 : Int))) then
          (idx ((o0).Shuttles) ((w64 (l5 - (1:Int))))).bind fun a7=>
          (idx ((({ o0 with Shuttles:=(List.set ((o0).Shuttles) (Int.toNat ((w64 (l5 - (1:Int))))) ({ a7 with Side:=i3 }:BoxShuttle)) }:BoxLoom)).Shuttles) ((w64 (l5 - (1:Int))))).bind fun lD=>
          some (({ (({ o0 with Shuttles:=(List.set ((o0).Shuttles) (Int.toNat ((w64 (l5 - (1:Int))))) ({ a7 with Side:=i3 }:BoxShuttle)) }:BoxLoom)) with Shuttles:=(List.set ((({ o0 with Shuttles:=(List.set ((o0).Shuttles) (Int.toNat ((w64 (l5 - (1:Int))))) ({ a7 with Side:=i3 }:BoxShuttle)) }:BoxLoom)).Shuttles) (Int.toNat ((w64 (l5 - (1:Int))))) ({ lD with Box:=x5 }:BoxShuttle)) }:BoxLoom))
         else
          some (o0)
         ) fun yA=>
        jG (yA,(w64 (x5 + (1:Int))))
       else
        some (o0)
       ) big (cC,(0:Int))
      ) fun aB=>
     iG (aB,(w64 (i3 + (1:Int))))
    else
     some (cC)
    ) big ((⟨pA,([(((y5.2.1).last).at_).Left,(((y5.2.1).last).at_).Right]:List Int),qA⟩:BoxLoom),(0:Int))
   ) fun eC=>
  some (i6,eC,(y5.2.1).moves,(0:Int),(0:Int))
  ) fun cJ=>
 bif (y5.2.2.2 != (0 : Int)) then
  some ([],(⟨[],[],[]⟩:BoxLoom),(0:Int),y5.2.2.1,y5.2.2.2)
 else
  cJ ([],(⟨[],[],[]⟩:BoxLoom))
theorem en40:Enters Try.prog 40:=enters_of Try.func40 (by kernel_rfl) rfl
theorem wk40 {gI:Gh} {wI:World} {x0:BoxLoom} {x1:List BoxPick} {up0:Value} (rp0:RV gI.m wI x0 up0) {up1:Value} (rp1:RV gI.m wI x1 up1) {r:(List Int) × BoxLoom × Int × Int × Int} (h:f40 x0 x1=some r):Fn Try.prog 40 #[up0,up1] gI wI (fun m w v=>∃ y0 y1 y2 y3 y4,v=.tuple #[y0,y1,y2,y3,y4]∧RV m w (r.1) y0∧RV m w (r.2.1) y1∧y2=.int .i64 (r.2.2.1)∧y3=.int .i64 (r.2.2.2.1)∧y4=.int .i64 (r.2.2.2.2)):=by
 unfold f40 at h
 refine fn_of_E Try.func40 rfl (Nat.le_of_ble_eq_true rfl) fun g0 hm hfr=>?_
 have rp0:RV g0.m wI x0 up0:=hm ▸ rp0
 have rp1:RV g0.m wI x1 up1:=hm ▸ rp1
 show E _ 101 none _ _ _ _ _
 refine Zf (Za (Ze .plain rfl (D_box (g:=g0) rfl rp0 fun g1 w1 p1 hs q1=>?_)))
 have hfr:=hfr.ext hs
 have rp1:=rp1.ext hs
 refine Zg (.slice none 0 0) rfl rfl ?_
 refine Ze .plain rfl (D_allocOc (g:=g1) 2005 (⟨[],[],[]⟩:BoxLoom) Try.zeroValue25 (fun m w=>⟨_,(rep_two rep_nil (rep_two rep_nil rep_nil)),rfl⟩) fun g2 w2 p2 hs b2 cb=>?_)
 have hfr:=hfr.stp hs
 have rp1:=rp1.stp hs
 have q1:=q1.stp hs
 have n8:OSF 2005 60500 0 g2 w2 3 25 ([]:List Int) p2:=cb.osf (by rfl)
 have q8:OSF 2005 60501 1 g2 w2 3 25 ([]:List Int) p2:=cb.osf (by rfl)
 have r8:OSF 2005 60502 2 g2 w2 87 25 ([]:List BoxShuttle) p2:=cb.osf (by rfl)
 clear cb
 iterate 3 refine Zg (.int .i64 (0)) rfl rfl ?_
 refine Zb (Zd (Zf (Za (Ze .plain rfl (D_load (g:=g2) Try.isAgg25 Try.sizeOf25 rfl q1 fun v3 r3=>?_)))))
 refine Zn up1 rfl rfl ?_
 obtain ⟨y5,hy5,h⟩:=bsome h
 refine Ze .plain rfl (Zp (g:=g2) (vs:=[v3,up1]) en70 (.cons rfl (.cons rfl .nil)) (wk70 r3 rp1 hy5) fun g4 w4_ v4 hs hr=>?_)
 have hfr:=hfr.ext hs
 have n8:=n8.ext hs
 have q8:=q8.ext hs
 have r8:=r8.ext hs
 have b2:=b2.ext hs
 obtain ⟨eE,gE,lL,mL,rfl,iC,rA,rfl,rfl⟩:=hr
 refine Zn (.tuple #[eE,gE,.int .i64 (y5.2.2.1),.int .i64 (y5.2.2.2)]) rfl rfl ?_
 refine EL_p eE (Zi rfl rfl) rfl ?_
 refine EL_p gE (Zi rfl rfl) rfl ?_
 refine EL_p (.int .i64 (y5.2.2.1)) (Zi rfl rfl) rfl ?_
 refine EL_p (.int .i64 (y5.2.2.2)) (Zi rfl rfl) rfl ?_
 refine Ze .plain rfl (D_allocOc (g:=g4) 2009 (⟨⟨[],[],[]⟩⟩:BoxBoxLoom) Try.zeroValue102 (fun m w=>⟨_,(rep_two rep_nil (rep_two rep_nil rep_nil)),rfl⟩) fun g6 w6 p6 hs b6 cb=>?_)
 have hfr:=hfr.stp hs
 have n8:=n8.stp hs rfl
 have q8:=q8.stp hs rfl
 have r8:=r8.stp hs rfl
 have b2:=b2.stp hs rfl
 have iC:=iC.stp hs
 have rA:=rA.stp hs
 have nL:OSF 2009 60900 0 g6 w6 3 102 ([]:List Int) p6:=cb.osf (by rfl)
 have oL:OSF 2009 60901 1 g6 w6 3 102 ([]:List Int) p6:=cb.osf (by rfl)
 have pL:OSF 2009 60902 2 g6 w6 87 102 ([]:List BoxShuttle) p6:=cb.osf (by rfl)
 clear cb
 refine Ze .plain rfl (D_allocOc (g:=g6) 2010 (⟨[],⟨(⟨List.toArray [(⟨List.toArray [0,0,0,0],rfl⟩:Vector Int 4),(⟨List.toArray [0,0,0,0],rfl⟩:Vector Int 4)],rfl⟩:Vector (Vector Int 4) 2),⟨0,0⟩⟩,0⟩:BoxRun) Try.zeroValue129 (fun m w=>⟨_,(rep_two rep_nil (rep_two (rep_two (rep_vec (flat_chunk (rep_vec (flat_chunk rep_int (flat_chunk rep_int (flat_chunk rep_int (flat_chunk rep_int flat_nil)))) rfl) (flat_chunk (rep_vec (flat_chunk rep_int (flat_chunk rep_int (flat_chunk rep_int (flat_chunk rep_int flat_nil)))) rfl) flat_nil)) rfl) (rep_two rep_int rep_int)) rep_int)),rfl⟩) fun g7 w7 p7 hs b7 cb=>?_)
 have hfr:=hfr.stp hs
 have n8:=n8.stp hs rfl
 have q8:=q8.stp hs rfl
 have r8:=r8.stp hs rfl
 have b2:=b2.stp hs rfl
 have iC:=iC.stp hs
 have rA:=rA.stp hs
 have b6:=b6.stp hs rfl
 have qL:OSF 2010 61000 0 g7 w7 3 129 ([]:List Int) p7:=cb.osf (by rfl)
 clear cb
 refine Ze .plain rfl (D_storeOc (g:=g7) (v:=eE) Try.sizeOf102 rfl b6 rfl iC fun g8 w8 hs b8 cb=>?_)
 clear cb
 have hfr:=hfr.stp hs
 have n8:=n8.stp hs rfl
 have q8:=q8.stp hs rfl
 have r8:=r8.stp hs rfl
 have b2:=b2.stp hs rfl
 have rA:=rA.stp hs
 have b7:=b7.stp hs rfl
 refine Ze .plain rfl (D_storeOc (g:=g8) (v:=gE) Try.sizeOf129 rfl b7 rfl rA fun g9 w9 hs b9 cb=>?_)
 clear cb
 have hfr:=hfr.stp hs
 have n8:=n8.stp hs rfl
 have q8:=q8.stp hs rfl
 have r8:=r8.stp hs rfl
 have b2:=b2.stp hs rfl
 have b8:=b8.stp hs rfl
 refine Zg (.int .i64 (y5.2.2.1)) rfl rfl ?_
 refine Zg (.int .i64 (y5.2.2.2)) rfl rfl ?_
 refine Zb (Zd (Zq h (fun (s:(List Int) × BoxLoom) e w=>∃ (g:Gh) (v4:Value),Fr gI wI g w∧e 4=v4∧RV g.m w (s.1:List Int) v4∧OS 1004 g w 3 (s.1:List Int) v4∧e 5=p2∧OB 2005 g w 25 (s.2:BoxLoom) p2∧OSF 2005 60500 0 g w 3 25 ((s.2).Boxes) p2∧OSF 2005 60501 1 g w 3 25 ((s.2).At) p2∧OSF 2005 60502 2 g w 87 25 ((s.2).Shuttles) p2∧e 9=p6∧OB 2009 g w 102 (y5.1:BoxBoxLoom) p6∧e 10=p7∧OB 2010 g w 129 (y5.2.1:BoxRun) p7) (fun X38 cJ eJ h=>?_) ?_))
 ·refine Zf (Za (Zn (.int .i64 (y5.2.2.2)) rfl rfl ?_))
  refine EL_in (.bool ((y5.2.2.2 != (0:Int)))) rfl rfl rfl rfl ?_
  refine Zb (Zd ?_)
  rcases Zt h with ⟨iE,h⟩ | ⟨iE,h⟩
  ·refine E_ct iE rfl ?_
   refine Zf (L_selfO Try.isAgg25 Try.sizeOf25 rfl b2 fun yK gJ iJ=>?_)
   refine E_drawL (g:=g9) (n:=8) [(4,(fun _ _ _=>True))] [0,1,2,3,4,5,6,7] rfl mixed (by kernel_rfl) (⟨fun _=>(fun _ _ _ _ _ _=>trivial),trivial⟩) ?_
   refine L_ld (c:=yK) rfl rfl .plain (fun _ _ h=>⟨h.ch,fun b hb _=>h.below.block b hb⟩) (gJ _) rfl ?_
   refine L_p (.int .i64 (y5.2.2.1)) rfl rfl (Zk rfl) ?_
   refine L_p (.int .i64 (y5.2.2.2)) rfl rfl (Zk rfl) ?_
   refine L_p (.slice none 0 0) rfl rfl (P_assign rfl) ?_
   refine L_do (φ:=fun _ _ _=>True) rfl rfl .plain (fun g w hd=>iJ _ _ _ g w ⟨hd.1.ch,fun b hb _=>hd.1.below.block b hb⟩ rfl rfl) (fun yM hv=>?_)
   clear hv
   refine L_p (.int .i64 (0)) rfl rfl (P_assign rfl) ?_
   refine L_p (.int .i64 (y5.2.2.1)) rfl rfl (P_assign rfl) ?_
   refine L_p (.int .i64 (y5.2.2.2)) rfl rfl (P_assign rfl) ?_
   refine L_nl fun zM bN hs=>?_
   have hfr:=hfr.ext hs
   have b2:=b2.ext hs
   clear hs
   refine Zb (Zd (E_ret (thn_r ?_)))
   obtain rfl:=sinj h
   obtain ⟨ad67,cv67,hp67,jJ,cr67⟩:=ob_read Try.isAgg25 Try.sizeOf25 b2
   exact endm_tcttt rfl rfl (show _=.slice none 0 0 from rfl) ((show _=p2 from rfl).trans hp67) jJ (show _=.int .i64 (0) from rfl) (show _=.int .i64 (y5.2.2.1) from rfl) (show _=.int .i64 (y5.2.2.2) from rfl) ⟨_,hfr,_,_,_,_,_,rfl,RV_nil,cr67,rfl,rfl,rfl⟩
  ·refine E_cf iE rfl ?_
   exact Zu (Zd (eJ ([],(⟨[],[],[]⟩:BoxLoom)) _ _ ⟨g9,(.slice none 0 0),hfr,rfl,RV_nil,OS.nil,rfl,b2,n8,q8,r8,rfl,b8,rfl,b9⟩ h))
 ·rintro ⟨nE, y6⟩ rL cN ⟨dJ, zH, hfr, aI, bI, cI, dI, iI, u5_0_68, u5_1_68, u5_2_68, jI, kI, xD, lC⟩ h
  obtain ⟨i6,hx,h⟩:=bsome h
  refine E_join (fun e w=>∃ (g:Gh) (v4:Value),Fr gI wI g w∧e 4=v4∧RV g.m w (i6:List Int) v4∧OS 1004 g w 3 (i6:List Int) v4∧e 5=p2∧OB 2005 g w 25 (y6:BoxLoom) p2∧OSF 2005 60500 0 g w 3 25 ((y6).Boxes) p2∧OSF 2005 60501 1 g w 3 25 ((y6).At) p2∧OSF 2005 60502 2 g w 87 25 ((y6).Shuttles) p2∧e 9=p6∧OB 2009 g w 102 (y5.1:BoxBoxLoom) p6∧e 10=p7∧OB 2010 g w 129 (y5.2.1:BoxRun) p7) (fun Q' hQ=>?_) (fun aL tL hR=>?_)
  ·replace h := hx
   clear hx
   refine Zf (Za (EL_p (fPtr p7 0) (Zc at_129_0 xD (OB.ptr lC)) rfl ?_))
   refine Ze .plain rfl (D_loadF (g:=dJ) part_BoxRun_0.1 Try.isAgg22 Try.sizeOf22 rfl lC fun mC kG=>?_)
   refine EL_p (.int .i64 (((y5.2.1).thrown).length:Int)) (P_len Try.underlying22 rfl kG) rfl ?_
   refine Zn (.int .i64 (0)) rfl rfl ?_
   refine Zb (Zd (Zr ?_))
   refine E_lp h (fun (s:(List Int) × Int) e w=>∃ (g:Gh) (v4:Value),Fr gI wI g w∧e 4=v4∧RV g.m w (s.1:List Int) v4∧OS 1004 g w 3 (s.1:List Int) v4∧e 5=p2∧OB 2005 g w 25 (y6:BoxLoom) p2∧OSF 2005 60500 0 g w 3 25 ((y6).Boxes) p2∧OSF 2005 60501 1 g w 3 25 ((y6).At) p2∧OSF 2005 60502 2 g w 87 25 ((y6).Shuttles) p2∧e 9=p6∧OB 2009 g w 102 (y5.1:BoxBoxLoom) p6∧e 10=p7∧OB 2010 g w 129 (y5.2.1:BoxRun) p7∧e 31=mC∧RV g.m w ((y5.2.1).thrown:List Int) mC∧e 32=.int .i64 ((((y5.2.1).thrown).length:Int))∧e 33=.int .i64 (s.2)) ⟨dJ,(zH),hfr,aI,bI,cI,dI,iI,u5_0_68,u5_1_68,u5_2_68,jI,kI,xD,lC,rfl,kG,rfl,rfl⟩ (fun X103 gG lI=>?_)
   rintro ⟨aC,j6⟩ bL uL ⟨qC,lG,hfr,yD,dB,iB,zD,a9,u5_0_104,u5_1_104,u5_2_104,rC,i7,aD,k8,bD,j7,cD,mB⟩ h
   refine Zf (Za (EL_p (.bool ((decide (j6 < (((y5.2.1).thrown).length:Int))))) (P_int mB cD rfl) rfl ?_))
   refine Zb (Zd (Zf ?_))
   rcases Zt h with ⟨mD,h⟩ | ⟨mD,h⟩
   ·refine E_ct mD rfl ?_
    refine Zu (Zd ?_)
    obtain ⟨y9,hx,h⟩:=bsome h
    refine E_join (fun e w=>∃ (g:Gh) (v4:Value),Fr gI wI g w∧e 4=v4∧RV g.m w (y9:List Int) v4∧OS 1004 g w 3 (y9:List Int) v4∧e 5=p2∧OB 2005 g w 25 (y6:BoxLoom) p2∧OSF 2005 60500 0 g w 3 25 ((y6).Boxes) p2∧OSF 2005 60501 1 g w 3 25 ((y6).At) p2∧OSF 2005 60502 2 g w 87 25 ((y6).Shuttles) p2∧e 9=p6∧OB 2009 g w 102 (y5.1:BoxBoxLoom) p6∧e 10=p7∧OB 2010 g w 129 (y5.2.1:BoxRun) p7∧e 31=mC∧RV g.m w ((y5.2.1).thrown:List Int) mC∧e 32=.int .i64 ((((y5.2.1).thrown).length:Int))∧e 33=.int .i64 (j6)) (fun Q' hQ=>?_) (fun cL vL hR=>?_)
    ·replace h := hx
     clear hx
     refine Zr ?_
     refine Zf (Za ?_)
     obtain ⟨mA,oE,h⟩:=bsome h
     refine EL_p (ePtr mC j6 1) (Zh (α:=Int) Try.underlying22 Try.sizeOf3 bD j7 mB oE) rfl ?_
     have kJ:=PT_idx j7 oE
     refine Ze .plain rfl (D_load (g:=qC) Try.isAgg3 Try.sizeOf3 rfl kJ fun xL lJ=>?_)
     obtain rfl:=Zj.1 lJ
     refine Zg (.int .i64 (mA)) rfl rfl ?_
     refine Zb (Zd (Za (Zo yD rfl ?_)))
     refine EL_p (fPtr p6 0) (Zc at_102_0 rC (OB.ptr i7)) rfl ?_
     refine EL_p (fPtr p6 2) (P_fieldAddr2 (o1:=0) rfl at_25_2 rfl (OB.ptr i7)) rfl ?_
     refine Ze .plain rfl (D_loadF (g:=qC) (SubS.comp part_BoxBoxLoom_0 part_BoxLoom_2 rfl).1 Try.isAgg23 Try.sizeOf23 rfl i7 fun mG nG=>?_)
     refine Zn (.int .i64 (mA)) rfl rfl ?_
     refine EL_in (.int .i64 ((w64 (mA - (1:Int))))) rfl rfl rfl rfl ?_
     obtain ⟨y125,rE,h⟩:=bsome h
     refine EL_p (ePtr mG (w64 (mA - (1:Int))) 5) (Zh (α:=BoxShuttle) Try.underlying23 Try.sizeOf87 rfl nG rfl rE) rfl ?_
     have oG:=PT_idx nG rE
     refine EL_p (fPtr (ePtr mG (w64 (mA - (1:Int))) 5) 0) (Zc at_87_0 rfl (PT.ptr oG)) rfl ?_
     have mJ:=Zm (part_BoxShuttle_0).1 oG
     refine Ze .plain rfl (D_load (g:=qC) Try.isAgg3 Try.sizeOf3 rfl mJ fun yL nJ=>?_)
     obtain rfl:=Zj.1 nJ
     refine Ze .plain rfl (D_buildSlice (g:=qC) 3046 (xs:=([(y125).Colour]:List Int)) (vs:=[.int .i64 ((y125).Colour)]) Try.underlying22 Try.sizeOf3 Try.zeroValue3 rfl rfl (.cons rfl .nil) (RVs.cons (Zj.2 rfl) RVs.nil) rfl rfl fun oJ zL aM hs o129 pJ hxt hfl=>?_)
     have hfr:=hfr.stp hs
     have dB:=dB.stp hs
     have iB:=iB.stp hs rfl
     have u5_0_104:=u5_0_104.stp hs rfl
     have u5_1_104:=u5_1_104.stp hs rfl
     have u5_2_104:=u5_2_104.stp hs rfl
     have a9:=a9.stp hs rfl
     have i7:=i7.stp hs rfl
     have k8:=k8.stp hs rfl
     have j7:=j7.stp hs
     obtain ⟨hG,mI,h⟩:=bsome h
     refine Ze .plain rfl (D_append (g:=oJ) (i:=1004) Try.underlying22 info_3 rfl rfl iB dB rfl pJ mI fun qJ bM pG hs o130 rJ _=>?_)
     have hfr:=hfr.stp hs
     have u5_0_104:=u5_0_104.stp hs rfl
     have u5_1_104:=u5_1_104.stp hs rfl
     have u5_2_104:=u5_2_104.stp hs rfl
     have a9:=a9.stp hs rfl
     have i7:=i7.stp hs rfl
     have k8:=k8.stp hs rfl
     have j7:=j7.stp hs
     refine Zg pG rfl rfl ?_
     refine Zb (blk_n ?_)
     obtain rfl:=sinj h
     exact hQ _ _ ⟨qJ,(pG),hfr,rfl,rJ,o130,zD,a9,u5_0_104,u5_1_104,u5_2_104,rC,i7,aD,k8,bD,j7,cD,mB⟩
    ·clear hx
     obtain ⟨sJ,qG,hfr,rG,sG,tG,uG,vG,u5_0_132,u5_1_132,u5_2_132,xG,yG,xE,yE,zE,cF,dF,eF⟩:=hR
     refine Za (EL_in (.int .i64 ((w64 (j6 + (1:Int))))) eF rfl rfl rfl ?_)
     refine Zn (.int .i64 ((w64 (j6 + (1:Int))))) rfl rfl ?_
     exact Zb (Zd (lI (y9,(w64 (j6 + (1:Int)))) _ _ ⟨sJ,(qG),hfr,rG,sG,tG,uG,vG,u5_0_132,u5_1_132,u5_2_132,xG,yG,xE,yE,zE,cF,dF,rfl⟩ h))
   ·refine E_cf mD rfl ?_
    refine E_exit ?_
    refine thn_e ?_
    refine thn_e ?_
    refine blk_hit ?_
    obtain rfl:=sinj h
    exact hQ _ _ ⟨qC,(lG),hfr,yD,dB,iB,zD,a9,u5_0_104,u5_1_104,u5_2_104,rC,i7,aD,k8⟩
  ·clear hx
   obtain ⟨tJ,t5,hfr,zG,v6,x6,aE,t8,u5_0_133,u5_1_133,u5_2_133,bE,d9,iA,i5⟩:=hR
   refine Zf (L_loadO (x:=.tmp 50) (SubS.comp part_BoxBoxLoom_0 part_BoxLoom_0 rfl).1 Try.isAgg22 Try.sizeOf22 d9 fun aH uJ nI=>?_)
   obtain ⟨pA,pI,h⟩:=bsome h
   refine L_loadO (x:=.tmp 55) (SubS.comp (SubS.comp part_BoxRun_1 part_BoxRace_1 rfl) part_BoxPick_0 rfl).1 Try.isAgg3 Try.sizeOf3 i5 fun cM vJ qI=>?_
   obtain rfl:=Zj.1 vJ
   refine L_loadO (x:=.tmp 59) (SubS.comp (SubS.comp part_BoxRun_1 part_BoxRace_1 rfl) part_BoxPick_1 rfl).1 Try.isAgg3 Try.sizeOf3 i5 fun dM xJ rI=>?_
   obtain rfl:=Zj.1 xJ
   refine L_loadO (x:=.tmp 63) (SubS.comp part_BoxBoxLoom_0 part_BoxLoom_2 rfl).1 Try.isAgg23 Try.sizeOf23 d9 fun bH yJ sI=>?_
   obtain ⟨qA,tI,h⟩:=bsome h
   refine E_drawL (g:=tJ) (n:=17) [(3,(fun v g w=>OWx (Ow.list 3 (Ow.sh Int)) 4052 g w pA v)),(12,(fun v g w=>OA 4061 g w 3 ([(((y5.2.1).last).at_).Left,(((y5.2.1).last).at_).Right]:List Int) v)),(16,(fun v g w=>OWx (Ow.list 87 (Ow.sh BoxShuttle)) 4065 g w qA v))] [0,1,2,3,4,5,6,7,8,9,10,11,12,13,14,15,16] rfl mixed (by kernel_rfl) (⟨fun _=>up_owx,fun _=>up_oa,fun _=>up_owx,trivial⟩) ?_
   refine L_p (fPtr p6 0) rfl rfl (Zc at_102_0 bE (OB.ptr d9)) ?_
   refine L_p (fPtr p6 0) rfl rfl (P_fieldAddr2 (o1:=0) rfl at_25_0 rfl (OB.ptr d9)) ?_
   refine L_ld (c:=aH) rfl rfl .plain (fun _ _ h=>⟨h.ch,fun b hb _=>h.below.block b hb⟩) nI rfl ?_
   refine L_do (φ:=fun v g w=>OWx (Ow.list 3 (Ow.sh Int)) 4052 g w pA v) rfl rfl .plain (fun g w hd=>D_callG (g:=g) (vs:=[aH]) en78 (.cons rfl .nil) (W78 (iO:=4052) (uJ.ext hd.1) pI) fun g' w' v hs hr=>⟨g',hs,hr⟩) (fun jE hv=>?_)
   clear hv
   refine L_p (fPtr p7 1) rfl rfl (Zc at_129_1 iA (OB.ptr i5)) ?_
   refine L_p (fPtr p7 9) rfl rfl (P_fieldAddr2 (o1:=1) rfl at_108_1 rfl (OB.ptr i5)) ?_
   refine L_p (fPtr p7 9) rfl rfl (P_fieldAddr2 (o1:=9) rfl at_83_0 rfl (OB.ptr i5)) ?_
   refine L_ld (c:=.int .i64 ((((y5.2.1).last).at_).Left)) rfl rfl .plain (fun _ _ h=>⟨h.ch,fun b hb _=>h.below.block b hb⟩) qI rfl ?_
   refine L_p (fPtr p7 1) rfl rfl (Zc at_129_1 iA (OB.ptr i5)) ?_
   refine L_p (fPtr p7 9) rfl rfl (P_fieldAddr2 (o1:=1) rfl at_108_1 rfl (OB.ptr i5)) ?_
   refine L_p (fPtr p7 10) rfl rfl (P_fieldAddr2 (o1:=9) rfl at_83_1 rfl (OB.ptr i5)) ?_
   refine L_ld (c:=.int .i64 ((((y5.2.1).last).at_).Right)) rfl rfl .plain (fun _ _ h=>⟨h.ch,fun b hb _=>h.below.block b hb⟩) rI rfl ?_
   refine L_do (φ:=fun v g w=>OA 4061 g w 3 ([(((y5.2.1).last).at_).Left,(((y5.2.1).last).at_).Right]:List Int) v) rfl rfl .plain (fun g w hd=>D_buildSliceA (g:=g) 4061 (xs:=([(((y5.2.1).last).at_).Left,(((y5.2.1).last).at_).Right]:List Int)) (vs:=[.int .i64 ((((y5.2.1).last).at_).Left),.int .i64 ((((y5.2.1).last).at_).Right)]) Try.underlying22 Try.sizeOf3 Try.zeroValue3 rfl rfl (.cons rfl (.cons rfl .nil)) (RVs.cons (Zj.2 rfl) (RVs.cons (Zj.2 rfl) RVs.nil)) rfl rfl fun g' w' v hs b hxt=>⟨g',hxt,b⟩) (fun kE hv=>?_)
   clear hv
   refine L_p (fPtr p6 0) rfl rfl (Zc at_102_0 bE (OB.ptr d9)) ?_
   refine L_p (fPtr p6 2) rfl rfl (P_fieldAddr2 (o1:=0) rfl at_25_2 rfl (OB.ptr d9)) ?_
   refine L_ld (c:=bH) rfl rfl .plain (fun _ _ h=>⟨h.ch,fun b hb _=>h.below.block b hb⟩) sI rfl ?_
   refine L_do (φ:=fun v g w=>OWx (Ow.list 87 (Ow.sh BoxShuttle)) 4065 g w qA v) rfl rfl .plain (fun g w hd=>D_callG (g:=g) (vs:=[bH]) en79 (.cons rfl .nil) (W79 (iO:=4065) (yJ.ext hd.1) tI) fun g' w' v hs hr=>⟨g',hs,hr⟩) (fun lE hv=>?_)
   clear hv
   refine L_nil fun eM zJ hall=>?_
   have hs:=hall.1
   have hfr:=hfr.ext hs
   have v6:=v6.ext hs
   have x6:=x6.ext hs
   have t8:=t8.ext hs
   have i5:=i5.ext hs
   obtain ⟨sk161,ow161,ok161⟩:=(word_all (A:=fun g w=>OWx (Ow.list 3 (Ow.sh Int)) 4052 g w pA jE) 3 rfl hall)
   have b170:=(word_all (A:=fun g w=>OA 4061 g w 3 ([(((y5.2.1).last).at_).Left,(((y5.2.1).last).at_).Right]:List Int) kE) 12 rfl hall)
   obtain ⟨sk174,ow174,ok174⟩:=(word_all (A:=fun g w=>OWx (Ow.list 87 (Ow.sh BoxShuttle)) 4065 g w qA lE) 16 rfl hall)
   clear hs hall
   obtain ⟨sk176,ow176,ok176⟩:=OA.toW b170
   have wn177:=Wn.fl (OW.wn ow174)
   obtain ⟨gq178,hs,_,wn178⟩:=Wn.pair (OW.wn ow176) wn177 rfl
   have hfr:=hfr.stp hs
   have v6:=v6.stp hs
   have x6:=x6.stp hs rfl
   have t8:=t8.stp hs rfl
   have i5:=i5.stp hs rfl
   have ow161:=ow161.stp hs rfl
   obtain ⟨gq179,hs,_,wn179⟩:=Wn.pair (OW.wn ow161) wn178 rfl
   have hfr:=hfr.stp hs
   have v6:=v6.stp hs
   have x6:=x6.stp hs rfl
   have t8:=t8.stp hs rfl
   have i5:=i5.stp hs rfl
   obtain ⟨cH,sE⟩:∃ v,v=(Value.agg (setCh [[.slice none 0 0],[.slice none 0 0],[.slice none 0 0]] [(0,jE),(1,kE),(2,lE)]).flatten.toArray):=⟨_,rfl⟩
   have ow175:OW ow_BoxLoom 4065 gq179 zJ (⟨pA,([(((y5.2.1).last).at_).Left,(((y5.2.1).last).at_).Right]:List Int),qA⟩:BoxLoom) (sk161,(sk176,sk174)) cH:=sE ▸ Wn.mk_ (Wn.struct (x:=((⟨pA,([(((y5.2.1).last).at_).Left,(((y5.2.1).last).at_).Right]:List Int),qA⟩:BoxLoom))) wn179)
   refine EL_p cH (sE ▸ P_build (vs:=[(0,jE),(1,kE),(2,lE)]) [[.slice none 0 0],[.slice none 0 0],[.slice none 0 0]] lay_25 rfl rfl (.cons rfl (.cons rfl (.cons rfl .nil))) ⟨⟨_,rfl,OW.csz ow161⟩,⟨⟨_,rfl,OW.csz ow176⟩,⟨⟨_,rfl,OW.csz ow174⟩,trivial⟩⟩⟩) rfl ?_
   refine Ze .plain rfl (D_storeOW (g:=gq179) Try.sizeOf25 aE t8 rfl ow175 rfl fun gj180 dH iM bk180 hsa hsb hpp b180=>?_)
   have hfr:=hfr.stp hsa
   have v6:=v6.stp hsa
   have x6:=x6.stp hsa rfl
   have i5:=i5.stp hsa rfl
   have hfr:=hfr.stp hsb
   have v6:=v6.stp hsb
   have x6:=x6.stp hsb rfl
   have i5:=i5.stp hsb rfl
   clear hsa hsb
   subst hpp
   refine Zb (Zd ?_)
   obtain ⟨eC,hx,h⟩:=bsome h
   refine E_join (fun e w=>∃ (g:Gh) ,Fr gI wI g w∧e 4=t5∧RV g.m w (i6:List Int) t5∧OS 1004 g w 3 (i6:List Int) t5∧e 5=(Value.pointer (some ⟨bk180,0,none⟩))∧OVb ow_BoxLoom 2005 g w 25 (eC:BoxLoom) bk180∧e 10=p7∧OB 2010 g w 129 (y5.2.1:BoxRun) p7) (fun Q' hQ=>?_) (fun dL jM hR=>?_)
   ·replace h := hx
    clear hx
    refine Zf (Za (EL_p (fPtr p7 1) (Zc at_129_1 iA (OB.ptr i5)) rfl ?_))
    refine EL_p (fPtr p7 1) (P_fieldAddr2 (o1:=1) rfl at_108_0 rfl (OB.ptr i5)) rfl ?_
    refine Ze .plain rfl (D_loadF (g:=dH) (SubS.comp part_BoxRun_1 part_BoxRace_0 rfl).1 Try.isAgg76 Try.sizeOf76 rfl i5 fun z9 aK=>?_)
    refine Zn (.int .i64 (0)) rfl rfl ?_
    refine Zb (Zd (Zr ?_))
    refine E_lp h (fun (s:BoxLoom × Int) e w=>∃ (g:Gh) ,Fr gI wI g w∧e 4=t5∧RV g.m w (i6:List Int) t5∧OS 1004 g w 3 (i6:List Int) t5∧e 5=(Value.pointer (some ⟨bk180,0,none⟩))∧OVb ow_BoxLoom 2005 g w 25 (s.1:BoxLoom) bk180∧e 10=p7∧OB 2010 g w 129 (y5.2.1:BoxRun) p7∧e 69=z9∧RV g.m w (((y5.2.1).last).boxes:Vector (Vector Int 4) 2) z9∧e 70=.int .i64 (s.2)) ⟨dH,hfr,zG,v6,x6,aE,⟨_,b180,(⟨ok161,⟨ok176,ok174⟩⟩:(ow_BoxLoom).ok (sk161,(sk176,sk174)))⟩,iA,i5,rfl,aK,rfl⟩ (fun X425 iG uI=>?_)
    rintro ⟨cC,i3⟩ eL kM ⟨gH,hfr,cE,k9,l9,dE,⟨tK,n9,eD⟩,gD,l8,iD,m7,jA⟩ h
    refine Zf (Za (EL_in (.bool ((decide (i3 < (2:Int))))) jA rfl rfl rfl ?_))
    refine Zb (Zd (Zf ?_))
    rcases Zt h with ⟨nD,h⟩ | ⟨nD,h⟩
    ·refine E_ct nD rfl ?_
     refine Zu (Zd ?_)
     obtain ⟨aB,hx,h⟩:=bsome h
     refine E_join (fun e w=>∃ (g:Gh) ,Fr gI wI g w∧e 4=t5∧RV g.m w (i6:List Int) t5∧OS 1004 g w 3 (i6:List Int) t5∧e 5=(Value.pointer (some ⟨bk180,0,none⟩))∧OVb ow_BoxLoom 2005 g w 25 (aB:BoxLoom) bk180∧e 10=p7∧OB 2010 g w 129 (y5.2.1:BoxRun) p7∧e 69=z9∧RV g.m w (((y5.2.1).last).boxes:Vector (Vector Int 4) 2) z9∧e 70=.int .i64 (i3)) (fun Q' hQ=>?_) (fun gL mM hR=>?_)
     ·replace h := hx
      clear hx
      refine Zr ?_
      refine Zf (Za (Zo jA rfl ?_))
      obtain ⟨kD,tE,h⟩:=bsome h
      have oD:=RV_idxA m7 tE
      generalize vI:partV _ _ _ _=iH at oD
      refine EL_p iH (vI ▸ P_indexA Try.underlying76 Try.isAgg75 Try.sizeOf75 iD m7 jA tE) rfl ?_
      refine Ze .plain rfl (D_allocOc (g:=gH) 2014 ((⟨List.toArray [0,0,0,0],rfl⟩:Vector Int 4):Vector Int 4) Try.zeroValue75 (fun m w=>⟨_,(rep_vec (flat_chunk rep_int (flat_chunk rep_int (flat_chunk rep_int (flat_chunk rep_int flat_nil)))) rfl),rfl⟩) fun bK nM oM hs b547 cb=>?_)
      have hfr:=hfr.stp hs
      have k9:=k9.stp hs
      have l9:=l9.stp hs rfl
      have n9:=n9.stp hs rfl
      have l8:=l8.stp hs rfl
      have m7:=m7.stp hs
      have oD:=oD.stp hs
      clear cb
      refine Zg (.int .i64 (i3)) rfl rfl ?_
      refine Ze .plain rfl (D_storeOc (g:=bK) (v:=iH) Try.sizeOf75 rfl b547 rfl oD fun jH pM hs b548 cb=>?_)
      clear cb
      have hfr:=hfr.stp hs
      have k9:=k9.stp hs
      have l9:=l9.stp hs rfl
      have n9:=n9.stp hs rfl
      have l8:=l8.stp hs rfl
      have m7:=m7.stp hs
      refine Zb (Zd (Zf (Za (Ze .plain rfl (D_loadO (g:=jH) Try.isAgg75 Try.sizeOf75 rfl b548 fun sD cK=>?_)))))
      refine Zn (.int .i64 (0)) rfl rfl ?_
      refine Zb (Zd (Zr ?_))
      refine E_lp h (fun (s:BoxLoom × Int) e w=>∃ (g:Gh) ,Fr gI wI g w∧e 4=t5∧RV g.m w (i6:List Int) t5∧OS 1004 g w 3 (i6:List Int) t5∧e 5=(Value.pointer (some ⟨bk180,0,none⟩))∧OVb ow_BoxLoom 2005 g w 25 (s.1:BoxLoom) bk180∧e 10=p7∧OB 2010 g w 129 (y5.2.1:BoxRun) p7∧e 13=.int .i64 (i3)∧e 69=z9∧RV g.m w (((y5.2.1).last).boxes:Vector (Vector Int 4) 2) z9∧e 70=.int .i64 (i3)∧e 74=sD∧RV g.m w (kD:Vector Int 4) sD∧e 75=.int .i64 (s.2)) ⟨jH,hfr,cE,k9,l9,dE,⟨_,n9,eD⟩,gD,l8,rfl,iD,m7,jA,rfl,cK,rfl⟩ (fun X550 jG xI=>?_)
      rintro ⟨o0,x5⟩ iL dK ⟨mE,hfr,uC,v8,x8,bA,⟨u3,jB,m8⟩,nB,v7,oB,tB,i8,vB,yB,d7,u9⟩ h
      refine Zf (Za (EL_in (.bool ((decide (x5 < (4:Int))))) u9 rfl rfl rfl ?_))
      refine Zb (Zd (Zf ?_))
      rcases Zt h with ⟨tD,h⟩ | ⟨tD,h⟩
      ·refine E_ct tD rfl ?_
       refine Zu (Zd ?_)
       obtain ⟨yA,hx,h⟩:=bsome h
       refine E_join (fun e w=>∃ (g:Gh) ,Fr gI wI g w∧e 4=t5∧RV g.m w (i6:List Int) t5∧OS 1004 g w 3 (i6:List Int) t5∧e 5=(Value.pointer (some ⟨bk180,0,none⟩))∧OVb ow_BoxLoom 2005 g w 25 (yA:BoxLoom) bk180∧e 10=p7∧OB 2010 g w 129 (y5.2.1:BoxRun) p7∧e 13=.int .i64 (i3)∧e 69=z9∧RV g.m w (((y5.2.1).last).boxes:Vector (Vector Int 4) 2) z9∧e 70=.int .i64 (i3)∧e 74=sD∧RV g.m w (kD:Vector Int 4) sD∧e 75=.int .i64 (x5)) (fun Q' hQ=>?_) (fun jL qM hR=>?_)
       ·replace h := hx
        clear hx
        refine Zr ?_
        refine Zf (Za (Zo u9 rfl ?_))
        obtain ⟨l5,uE,h⟩:=bsome h
        have eK:=RV_idxA d7 uE
        refine EL_p (.int .i64 (l5)) ((Zj.1 eK) ▸ P_indexA Try.underlying75 Try.isAgg3 Try.sizeOf3 yB d7 u9 uE) rfl ?_
        refine Zg (.int .i64 (x5)) rfl rfl ?_
        refine Zg (.int .i64 (l5)) rfl rfl ?_
        refine Zb (Zd (Zf (Za (Zn (.int .i64 (l5)) rfl rfl ?_))))
        refine EL_in (.bool ((decide (l5 > (0:Int))))) rfl rfl rfl rfl ?_
        refine Zb (Zd ?_)
        rcases Zt h with ⟨uD,h⟩ | ⟨uD,h⟩
        ·refine E_ct uD rfl ?_
         obtain ⟨a7,zB,h⟩:=bsome h
         obtain ⟨bb623,cc623,ss623,hq623,vE⟩:=(OV.slice jB (Cxt.fld (Cxt.root ow_BoxLoom bk180) fl_BoxLoom_2 (o0) (u3)) rfl rfl ((m8.2).2)).2 zB
         obtain ⟨lD,vD,h⟩:=bsome h
         refine E_drawG (g:=mE) (w:=dK) (i:=2005) (A0:=fun g w=>OV ow_BoxLoom 2005 g w 25 (o0:BoxLoom) bk180 u3) (A1:=fun g w=>OV ow_BoxLoom 2005 g w 25 (({ o0 with Shuttles:=(List.set ((o0).Shuttles) (Int.toNat ((w64 (l5 - (1:Int))))) ({ a7 with Side:=i3 }:BoxShuttle)) }:BoxLoom):BoxLoom) bk180 u3) jB up_ov (n:=15) [(12,(fun _ g w=>OV ow_BoxLoom 2005 g w 25 (({ o0 with Shuttles:=(List.set ((o0).Shuttles) (Int.toNat ((w64 (l5 - (1:Int))))) ({ a7 with Side:=i3 }:BoxShuttle)) }:BoxLoom):BoxLoom) bk180 u3))] [0,1,2,3,4,5,6,7,8,9,10,11,12,13,14] rfl mixed (by kernel_rfl) (⟨fun _=>up_box,trivial⟩) ?_
         refine L_p ((.pointer (some ⟨bk180,(0 + 2),none⟩))) rfl rfl (P_fieldAddrH at_25_2 bA) ?_
         refine L_val (c:=(hdrV (Prod.snd (Prod.snd u3)) ((o0).Shuttles).length)) rfl rfl .plain (fun g w hd=>loadHAB (Cxt.fld (Cxt.root ow_BoxLoom bk180) fl_BoxLoom_2 (o0) (u3)) rfl rfl (Cxt.fld (Cxt.root ow_BoxLoom bk180) fl_BoxLoom_2 (({ o0 with Shuttles:=(List.set ((o0).Shuttles) (Int.toNat ((w64 (l5 - (1:Int))))) ({ a7 with Side:=i3 }:BoxShuttle)) }:BoxLoom)) (u3)) rfl rfl (by simp) ((m8.2).2) Try.isAgg23 rfl hd.1.2) ?_
         refine L_p (.int .i64 (l5)) rfl rfl (Zk rfl) ?_
         refine L_p (.int .i64 ((w64 (l5 - (1:Int))))) rfl rfl (P_int rfl rfl rfl) ?_
         refine L_p ((.pointer (some ⟨bk180,(0 + 2),none⟩))) rfl rfl (P_fieldAddrH at_25_2 bA) ?_
         refine L_val (c:=(hdrV (Prod.snd (Prod.snd u3)) ((o0).Shuttles).length)) rfl rfl .plain (fun g w hd=>loadHAB (Cxt.fld (Cxt.root ow_BoxLoom bk180) fl_BoxLoom_2 (o0) (u3)) rfl rfl (Cxt.fld (Cxt.root ow_BoxLoom bk180) fl_BoxLoom_2 (({ o0 with Shuttles:=(List.set ((o0).Shuttles) (Int.toNat ((w64 (l5 - (1:Int))))) ({ a7 with Side:=i3 }:BoxShuttle)) }:BoxLoom)) (u3)) rfl rfl (by simp) ((m8.2).2) Try.isAgg23 rfl hd.1.2) ?_
         refine L_p (.int .i64 (l5)) rfl rfl (Zk rfl) ?_
         refine L_p (.int .i64 ((w64 (l5 - (1:Int))))) rfl rfl (P_int rfl rfl rfl) ?_
         refine L_p (.int .i64 (i3)) rfl rfl (Zk oB) ?_
         refine L_p (.int .i64 (x5)) rfl rfl (Zk rfl) ?_
         refine L_p ((.pointer (some ⟨bb623,((Int.toNat ((w64 (l5 - (1:Int))))) * 5),none⟩))) rfl rfl (P_indexH Try.underlying23 Try.sizeOf87 (rfl.trans (hdr_at hq623 _)) rfl (idx_nat zB)) ?_
         refine L_p ((.pointer (some ⟨bb623,(((Int.toNat ((w64 (l5 - (1:Int))))) * 5) + 1),none⟩))) rfl rfl (P_fieldAddrH at_87_1 rfl) ?_
         refine L_do (φ:=fun _ g w=>OV ow_BoxLoom 2005 g w 25 (({ o0 with Shuttles:=(List.set ((o0).Shuttles) (Int.toNat ((w64 (l5 - (1:Int))))) ({ a7 with Side:=i3 }:BoxShuttle)) }:BoxLoom):BoxLoom) bk180 u3) rfl rfl .plain (fun g w hd=>D_storeOVR (g:=g) (u':=(i3:Int)) (Cxt.fld (Cxt.idx (Cxt.fld (Cxt.root ow_BoxLoom bk180) fl_BoxLoom_2 (o0) (u3)) ((o0).Shuttles) (Int.toNat ((w64 (l5 - (1:Int))))) bb623 cc623 ss623 (idx_nat zB).2 vE) fl_BoxShuttle_1 (a7) (())) ((congrArg (fun q=>({ o0 with Shuttles:=q }:BoxLoom)) (set_idx zB)).trans rfl) rfl (((congrArg (fun q=>(Prod.fst u3,(Prod.fst (Prod.snd u3),(Sl.at bb623 cc623 q)))) set_unit).trans (congrArg (fun q=>(Prod.fst u3,(Prod.fst (Prod.snd u3),q))) (hq623).symm)).trans rfl) Try.sizeOf3 rfl hd.1.2 rfl (Zj.2 rfl)) (fun rM hv=>?_)
         clear hv
         refine L_p ((.pointer (some ⟨bb623,((Int.toNat ((w64 (l5 - (1:Int))))) * 5),none⟩))) rfl rfl (P_indexH Try.underlying23 Try.sizeOf87 (rfl.trans (hdr_at hq623 _)) rfl (by simpa using idx_nat vD)) ?_
         refine L_p ((.pointer (some ⟨bb623,(((Int.toNat ((w64 (l5 - (1:Int))))) * 5) + 2),none⟩))) rfl rfl (P_fieldAddrH at_87_2 rfl) ?_
         refine L_nil fun lK sM hall=>?_
         have hs:=hall.1.1
         have hfr:=hfr.stp hs
         have v8:=v8.stp hs
         have x8:=x8.stp hs rfl
         have v7:=v7.stp hs rfl
         have i8:=i8.stp hs
         have d7:=d7.stp hs
         have b631:=(word_all (A:=fun g w=>OV ow_BoxLoom 2005 g w 25 (({ o0 with Shuttles:=(List.set ((o0).Shuttles) (Int.toNat ((w64 (l5 - (1:Int))))) ({ a7 with Side:=i3 }:BoxShuttle)) }:BoxLoom):BoxLoom) bk180 u3) 12 rfl hall)
         clear hs hall
         refine Ze .plain rfl (D_storeOV (g:=lK) (u':=(x5:Int)) (Cxt.fld (Cxt.idx (Cxt.fld (Cxt.root ow_BoxLoom bk180) fl_BoxLoom_2 (({ o0 with Shuttles:=(List.set ((o0).Shuttles) (Int.toNat ((w64 (l5 - (1:Int))))) ({ a7 with Side:=i3 }:BoxShuttle)) }:BoxLoom)) (u3)) ((({ o0 with Shuttles:=(List.set ((o0).Shuttles) (Int.toNat ((w64 (l5 - (1:Int))))) ({ a7 with Side:=i3 }:BoxShuttle)) }:BoxLoom)).Shuttles) (Int.toNat ((w64 (l5 - (1:Int))))) bb623 cc623 ss623 (idx_nat vD).2 (by simpa using vE)) fl_BoxShuttle_2 (lD) (())) ((congrArg (fun q=>({ (({ o0 with Shuttles:=(List.set ((o0).Shuttles) (Int.toNat ((w64 (l5 - (1:Int))))) ({ a7 with Side:=i3 }:BoxShuttle)) }:BoxLoom)) with Shuttles:=q }:BoxLoom)) (set_idx vD)).trans rfl) (((congrArg (fun q=>(Prod.fst u3,(Prod.fst (Prod.snd u3),(Sl.at bb623 cc623 q)))) set_unit).trans (congrArg (fun q=>(Prod.fst u3,(Prod.fst (Prod.snd u3),q))) (hq623).symm)).trans rfl) Try.sizeOf3 rfl b631 rfl (Zj.2 rfl) fun kH mK hs b660=>?_)
         have hfr:=hfr.stp hs
         have v8:=v8.stp hs
         have x8:=x8.stp hs rfl
         have v7:=v7.stp hs rfl
         have i8:=i8.stp hs
         have d7:=d7.stp hs
         replace b660:OV ow_BoxLoom 2005 kH mK 25 (({ (({ o0 with Shuttles:=(List.set ((o0).Shuttles) (Int.toNat ((w64 (l5 - (1:Int))))) ({ a7 with Side:=i3 }:BoxShuttle)) }:BoxLoom)) with Shuttles:=(List.set ((({ o0 with Shuttles:=(List.set ((o0).Shuttles) (Int.toNat ((w64 (l5 - (1:Int))))) ({ a7 with Side:=i3 }:BoxShuttle)) }:BoxLoom)).Shuttles) (Int.toNat ((w64 (l5 - (1:Int))))) ({ lD with Box:=x5 }:BoxShuttle)) }:BoxLoom):BoxLoom) bk180 u3:=b660
         refine Zb (blk_n ?_)
         obtain rfl:=sinj h
         exact hQ _ _ ⟨kH,hfr,uC,v8,x8,bA,⟨_,b660,m8⟩,nB,v7,oB,tB,i8,vB,yB,d7,u9⟩
        ·refine E_cf uD rfl ?_
         refine Zu (blk_n ?_)
         obtain rfl:=sinj h
         exact hQ _ _ ⟨mE,hfr,uC,v8,x8,bA,⟨_,jB,m8⟩,nB,v7,oB,tB,i8,vB,yB,d7,u9⟩
       ·clear hx
        obtain ⟨nK,hfr,lH,mH,nH,oH,⟨uK,pH,iF⟩,nF,oF,pF,qF,rF,sF,tF,uF,vF⟩:=hR
        refine Za (EL_in (.int .i64 ((w64 (x5 + (1:Int))))) vF rfl rfl rfl ?_)
        refine Zn (.int .i64 ((w64 (x5 + (1:Int))))) rfl rfl ?_
        exact Zb (Zd (xI (yA,(w64 (x5 + (1:Int)))) _ _ ⟨nK,hfr,lH,mH,nH,oH,⟨_,pH,iF⟩,nF,oF,pF,qF,rF,sF,tF,uF,rfl⟩ h))
      ·refine E_cf tD rfl ?_
       refine E_exit ?_
       refine thn_e ?_
       refine thn_e ?_
       refine blk_hit ?_
       refine blk_n ?_
       obtain rfl:=sinj h
       exact hQ _ _ ⟨mE,hfr,uC,v8,x8,bA,⟨_,jB,m8⟩,nB,v7,tB,i8,vB⟩
     ·clear hx
      obtain ⟨oK,hfr,qH,sH,tH,uH,⟨vK,xH,xF⟩,yF,zF,aG,bG,cG⟩:=hR
      refine Za (EL_in (.int .i64 ((w64 (i3 + (1:Int))))) cG rfl rfl rfl ?_)
      refine Zn (.int .i64 ((w64 (i3 + (1:Int))))) rfl rfl ?_
      exact Zb (Zd (uI (aB,(w64 (i3 + (1:Int)))) _ _ ⟨oK,hfr,qH,sH,tH,uH,⟨_,xH,xF⟩,yF,zF,aG,bG,rfl⟩ h))
    ·refine E_cf nD rfl ?_
     refine E_exit ?_
     refine thn_e ?_
     refine thn_e ?_
     refine blk_hit ?_
     obtain rfl:=sinj h
     exact hQ _ _ ⟨gH,hfr,cE,k9,l9,dE,⟨_,n9,eD⟩,gD,l8⟩
   ·clear hx
    obtain ⟨pK,hfr,yH,gA,zK,vC,⟨xK,lB,dG⟩,eG,jD⟩:=hR
    refine Zf (L_self Try.isAgg25 Try.sizeOf25 rfl lB fun qK yI zI=>?_)
    refine L_loadO (x:=.tmp 99) part_BoxRun_2.1 Try.isAgg3 Try.sizeOf3 jD fun tM sK aJ=>?_
    obtain rfl:=Zj.1 sK
    refine E_drawL (g:=pK) (n:=9) [(5,(fun _ _ _=>True))] [0,1,2,3,4,5,6,7,8] rfl mixed (by kernel_rfl) (⟨fun _=>(fun _ _ _ _ _ _=>trivial),trivial⟩) ?_
    refine L_p t5 rfl rfl (Zk yH) ?_
    refine L_ld (c:=qK) rfl rfl .plain (fun _ _ h=>⟨h.ch,fun b hb _=>h.below.block b hb⟩) (yI _) vC ?_
    refine L_p (fPtr p7 11) rfl rfl (Zc at_129_2 eG (OB.ptr jD)) ?_
    refine L_ld (c:=.int .i64 ((y5.2.1).moves)) rfl rfl .plain (fun _ _ h=>⟨h.ch,fun b hb _=>h.below.block b hb⟩) aJ rfl ?_
    refine L_p t5 rfl rfl (P_assign rfl) ?_
    refine L_do (φ:=fun _ _ _=>True) rfl rfl .plain (fun g w hd=>zI _ _ _ g w ⟨hd.1.ch,fun b hb _=>hd.1.below.block b hb⟩ vC rfl) (fun uM hv=>?_)
    clear hv
    refine L_p (.int .i64 ((y5.2.1).moves)) rfl rfl (P_assign rfl) ?_
    refine L_p (.int .i64 (0)) rfl rfl (P_assign rfl) ?_
    refine L_p (.int .i64 (0)) rfl rfl (P_assign rfl) ?_
    refine L_nl fun vM xM hs=>?_
    have hfr:=hfr.ext hs
    have gA:=gA.ext hs
    have lB:=lB.ext hs
    clear hs
    refine Zb (Zd (E_ret ?_))
    obtain ⟨go680,hs,b680⟩:=OV.toOB lB dG
    have hfr:=hfr.stp hs
    have gA:=gA.stp hs
    obtain rfl:=sinj h
    obtain ⟨ad681,cv681,hp681,bJ,cr681⟩:=ob_read Try.isAgg25 Try.sizeOf25 b680
    exact endm_tcttt rfl rfl (show _=t5 from rfl) ((show _=(Value.pointer (some ⟨bk180,0,none⟩)) from vC).trans hp681) bJ (show _=.int .i64 ((y5.2.1).moves) from rfl) (show _=.int .i64 (0) from rfl) (show _=.int .i64 (0) from rfl) ⟨_,hfr,_,_,_,_,_,rfl,gA,cr681,rfl,rfl,rfl⟩
def f7 (x0:Race):Option (Bool):=
 (f38 x0).bind fun y4=>
 (f39 x0 y4 ((24:Int))).bind fun i3=>
 (f15 y4).bind fun oT=>
 (f28 (i3.1)).bind fun pT=>
 (f40 oT pT).bind fun i5=>
 (f15 y4).bind fun sT=>
 (f28 (i3.1)).bind fun tT=>
 (f29 sT tT).bind fun d7=>
 jn (σ:=Unit) (fun _=>
  jn (σ:=Unit) (fun _=>
   (mks 8 (0:Int) ((((y4).Shuttles).length:Int))).bind fun eN=>
   jn (σ:=(List Int)) (fun rA=>
    jn (σ:=Unit) (fun _=>
     jn (σ:=Unit) (fun _=>
      (f14).bind fun kE=>
      some (kE)
      ) fun vG=>
     bif (decide (((i3.1).length : Int) > (0 : Int))) then
      (f15 y4).bind fun xJ=>
      (f43 xJ).bind fun x6=>
      jn (σ:=Bool) (fun aB=>
       Option.bind (α:=Bool) (
        bif (x6.2 != (0 : Int)) then
         some (true)
        else
         some ((!aB))
        ) fun iA=>
       bif iA then
        some (false)
       else
        vG ()
       ) fun yJ=>
      lp (σ:=Bool × Int) (fun zJ (m7,o0)=>
       jn (σ:=Unit) (fun _=>
        jn (σ:=Bool) (fun jD=>
         zJ (jD,(w64 (o0 + (1:Int))))
         ) fun aK=>
        Option.bind (α:=Bool) (
         bif m7 then
          some (true)
         else
          (idx (x6.1) o0).bind fun bD=>
          (idx (i5.1) (0:Int)).bind fun cD=>
          some ((bD == cD))
         ) fun dB=>
        Option.bind (α:=Bool) (
         bif (decide (o0 > (0 : Int))) then
          (idx (x6.1) o0).bind fun tD=>
          (idx (x6.1) (w64 (o0 - (1:Int)))).bind fun uD=>
          some ((decide (tD ≤ uD)))
         else
          some (false)
         ) fun jA=>
        bif jA then
         some (false)
        else
         aK (dB)
        ) fun bK=>
       bif (decide (o0 < ((x6.1).length : Int))) then
        bK ()
       else
        yJ (m7)
       ) big (false,(0:Int))
     else
      vG ()
     ) fun cK=>
    lp (σ:=Int) (fun dK t5=>
     jn (σ:=Unit) (fun _=>
      jn (σ:=Unit) (fun _=>
       dK ((w64 (t5 + (1:Int))))
       ) fun eK=>
      (idx ((y4).Shuttles) t5).bind fun n9=>
      (idx (d7.1) t5).bind fun xG=>
      (idx rA t5).bind fun eD=>
      (idx rA t5).bind fun gD=>
      (f42 ((max64 (0:Int) (w64 (((n9).Yarn).Low - eD)))) ((max64 (0:Int) (w64 (((n9).Yarn).High - gD))))).bind fun zB=>
      bif (!(decide (xG = zB))) then
       some (false)
      else
       eK ()
      ) fun lK=>
     bif (decide (t5 < ((d7.1).length : Int))) then
      lK ()
     else
      cK ()
     ) big ((0:Int))
    ) fun gN=>
   lp (σ:=(List Int) × Int) (fun iN (a9,y6)=>
    jn (σ:=Unit) (fun _=>
     jn (σ:=(List Int)) (fun xD=>
      iN (xD,(w64 (y6 + (1:Int))))
      ) fun jN=>
     jn (σ:=Unit) (fun _=>
      (idx (i3.2.1) y6).bind fun kD=>
      (idx a9 kD).bind fun lE=>
      (idx a9 kD).bind fun yT=>
      jN ((List.set a9 (Int.toNat kD) ((w64 (lE + (1:Int))))))
      ) fun kN=>
     (idx (i5.1) y6).bind fun yG=>
     (idx (i3.2.1) y6).bind fun mE=>
     (idx ((y4).Shuttles) mE).bind fun zG=>
     bif (yG != (zG).Colour) then
      some (false)
     else
      kN ()
     ) fun lN=>
    bif (decide (y6 < ((i5.1).length : Int))) then
     lN ()
    else
     gN (a9)
    ) big (eN,(0:Int))
   ) fun mN=>
  Option.bind (α:=Bool) (
   bif (decide (((i3.1).length : Int) > (0 : Int))) then
    (idx ((i5.2.1).At) (0:Int)).bind fun nB=>
    (idx (i3.1) (w64 (((i3.1).length:Int) - (1:Int)))).bind fun oB=>
    bif (nB != (oB).Left) then
     some (true)
    else
     (idx ((i5.2.1).At) (1:Int)).bind fun yD=>
     (idx (i3.1) (w64 (((i3.1).length:Int) - (1:Int)))).bind fun zD=>
     some ((yD != (zD).Right))
   else
    some (false)
   ) fun iB=>
  bif iB then
   some (false)
  else
   mN ()
  ) fun uT=>
 Option.bind (α:=Bool) (
  bif (i5.2.2.2.2 != (0 : Int)) then
   some (true)
  else
   bif (d7.2.2 != (0 : Int)) then
    some (true)
   else
    bif (i5.2.2.2.1 != (0 : Int)) then
     some (true)
    else
     bif (i5.2.2.1 != i3.2.2.2) then
      some (true)
     else
      bif (((i5.1).length : Int) != ((i3.1).length : Int)) then
       some (true)
      else
       bif (((d7.1).length : Int) != (((y4).Shuttles).length : Int)) then
        some (true)
       else
        (f41 (i5.2.1) y4 (i3.2.2.1)).bind fun nE=>
        bif (!nE) then
         some (true)
        else
         some (((((i5.2.1).At).length:Int) != (2:Int)))
  ) fun iC=>
 bif iC then
  some (false)
 else
  uT ()
theorem wk7 {gI:Gh} {wI:World} {x0:Race} {up0:Value} (rp0:RV gI.m wI x0 up0) {r:Bool} (h:f7 x0=some r):Fn Try.prog 7 #[up0] gI wI (fun _ _ v=>v=.bool (r)):=by
 unfold f7 at h
 refine fn_of_E Try.func7 rfl (Nat.le_of_ble_eq_true rfl) fun g0 hm hfr=>?_
 have rp0:RV g0.m wI x0 up0:=hm ▸ rp0
 show E _ 242 none _ _ _ _ _
 refine Zf (Za (Ze .plain rfl (D_box (g:=g0) rfl rp0 fun g1 w1 p1 hs q1=>?_)))
 have hfr:=hfr.ext hs
 refine Zg (.bool false) rfl rfl ?_
 refine Zb (Zd (Zf (Za (Ze .plain rfl (D_load (g:=g1) Try.isAgg73 Try.sizeOf73 rfl q1 fun v2 r2=>?_)))))
 obtain ⟨y4,qV,h⟩:=bsome h
 refine Ze .plain rfl (Zp (g:=g1) (vs:=[v2]) en38 (.cons rfl .nil) (wk38 r2 qV) fun g3 w3_ v3 hs hr=>?_)
 have hfr:=hfr.ext hs
 have q1:=q1.ext hs
 have r3:=hr
 refine Ze .plain rfl (D_allocOc (g:=g3) 2003 (⟨[],[],[]⟩:BoxLoom) Try.zeroValue25 (fun m w=>⟨_,(rep_two rep_nil (rep_two rep_nil rep_nil)),rfl⟩) fun g5 w5 p5 hs b5 cb=>?_)
 have hfr:=hfr.stp hs
 have q1:=q1.stp hs
 have r3:=r3.stp hs
 have xZ:OSF 2003 60300 0 g5 w5 3 25 ([]:List Int) p5:=cb.osf (by rfl)
 have yZ:OSF 2003 60301 1 g5 w5 3 25 ([]:List Int) p5:=cb.osf (by rfl)
 have zZ:OSF 2003 60302 2 g5 w5 87 25 ([]:List BoxShuttle) p5:=cb.osf (by rfl)
 clear cb
 refine Ze .plain rfl (D_storeOc (g:=g5) (v:=v3) Try.sizeOf25 rfl b5 rfl r3 fun g6 w6 hs b6 cb=>?_)
 clear cb
 have hfr:=hfr.stp hs
 have q1:=q1.stp hs
 refine Zb (Zd (Zf (Za (Ze .plain rfl (D_load (g:=g6) Try.isAgg73 Try.sizeOf73 rfl q1 fun v7 r7=>?_)))))
 refine Ze .plain rfl (D_loadO (g:=g6) Try.isAgg25 Try.sizeOf25 rfl b6 fun v8 r8=>?_)
 obtain ⟨i3,zT,h⟩:=bsome h
 refine Ze .plain rfl (Zp (g:=g6) (vs:=[v7,v8,.int .i64 (24)]) en39 (.cons rfl (.cons rfl (.cons rfl .nil))) (wk39 r7 r8 zT) fun g9 w9_ v9 hs hr=>?_)
 have hfr:=hfr.ext hs
 have b6:=b6.ext hs
 obtain ⟨l5,k8,tI,a00,rfl,v6,a7,uI,rfl⟩:=hr
 refine Zn (.tuple #[l5,k8,tI,.int .i64 (i3.2.2.2)]) rfl rfl ?_
 refine EL_p l5 (Zi rfl rfl) rfl ?_
 refine EL_p k8 (Zi rfl rfl) rfl ?_
 refine EL_p tI (Zi rfl rfl) rfl ?_
 refine EL_p (.int .i64 (i3.2.2.2)) (Zi rfl rfl) rfl ?_
 refine Ze .plain rfl (D_allocOc (g:=g9) 2006 ((⟨List.toArray [(⟨List.toArray [0,0,0,0],rfl⟩:Vector Int 4),(⟨List.toArray [0,0,0,0],rfl⟩:Vector Int 4)],rfl⟩:Vector (Vector Int 4) 2):Vector (Vector Int 4) 2) Try.zeroValue76 (fun m w=>⟨_,(rep_vec (flat_chunk (rep_vec (flat_chunk rep_int (flat_chunk rep_int (flat_chunk rep_int (flat_chunk rep_int flat_nil)))) rfl) (flat_chunk (rep_vec (flat_chunk rep_int (flat_chunk rep_int (flat_chunk rep_int (flat_chunk rep_int flat_nil)))) rfl) flat_nil)) rfl),rfl⟩) fun rV w11 p11 hs b11 cb=>?_)
 have hfr:=hfr.stp hs
 have b6:=b6.stp hs rfl
 have v6:=v6.stp hs
 have a7:=a7.stp hs
 have uI:=uI.stp hs
 clear cb
 refine Zg l5 rfl rfl ?_
 refine Zg k8 rfl rfl ?_
 refine Ze .plain rfl (D_storeOc (g:=rV) (v:=tI) Try.sizeOf76 rfl b11 rfl uI fun vT w12 hs b12 cb=>?_)
 clear cb
 have hfr:=hfr.stp hs
 have b6:=b6.stp hs rfl
 have v6:=v6.stp hs
 have a7:=a7.stp hs
 refine Zg (.int .i64 (i3.2.2.2)) rfl rfl ?_
 refine Zb (Zd (Zf (Za (Ze .plain rfl (D_loadO (g:=vT) Try.isAgg25 Try.sizeOf25 rfl b6 fun sV tV=>?_)))))
 obtain ⟨oT,aU,h⟩:=bsome h
 refine Ze .plain rfl (Zp (g:=vT) (vs:=[sV]) en15 (.cons rfl .nil) (wk15 tV aU) fun uV b00 vV hs hr=>?_)
 have hfr:=hfr.ext hs
 have b6:=b6.ext hs
 have v6:=v6.ext hs
 have a7:=a7.ext hs
 have b12:=b12.ext hs
 have nN:=hr
 refine Zn l5 rfl rfl ?_
 obtain ⟨pT,bU,h⟩:=bsome h
 refine Ze .plain rfl (Zp (g:=uV) (vs:=[l5]) en28 (.cons rfl .nil) (wk28 v6 bU) fun xV c00 yV hs hr=>?_)
 have hfr:=hfr.ext hs
 have b6:=b6.ext hs
 have v6:=v6.ext hs
 have a7:=a7.ext hs
 have b12:=b12.ext hs
 have nN:=nN.ext hs
 have zV:=hr
 obtain ⟨i5,cU,h⟩:=bsome h
 refine Ze .plain rfl (Zp (g:=xV) (vs:=[vV,yV]) en40 (.cons rfl (.cons rfl .nil)) (wk40 nN zV cU) fun aW d00 v18 hs hr=>?_)
 have hfr:=hfr.ext hs
 have b6:=b6.ext hs
 have v6:=v6.ext hs
 have a7:=a7.ext hs
 have b12:=b12.ext hs
 obtain ⟨u3,aH,mX,nX,oX,rfl,i7,bH,rfl,rfl,rfl⟩:=hr
 refine Zn (.tuple #[u3,aH,.int .i64 (i5.2.2.1),.int .i64 (i5.2.2.2.1),.int .i64 (i5.2.2.2.2)]) rfl rfl ?_
 refine EL_p u3 (Zi rfl rfl) rfl ?_
 refine EL_p aH (Zi rfl rfl) rfl ?_
 refine EL_p (.int .i64 (i5.2.2.1)) (Zi rfl rfl) rfl ?_
 refine EL_p (.int .i64 (i5.2.2.2.1)) (Zi rfl rfl) rfl ?_
 refine EL_p (.int .i64 (i5.2.2.2.2)) (Zi rfl rfl) rfl ?_
 refine Ze .plain rfl (D_allocOc (g:=aW) 2009 (⟨[],[],[]⟩:BoxLoom) Try.zeroValue25 (fun m w=>⟨_,(rep_two rep_nil (rep_two rep_nil rep_nil)),rfl⟩) fun mK oN lC hs b20 cb=>?_)
 have hfr:=hfr.stp hs
 have b6:=b6.stp hs rfl
 have v6:=v6.stp hs
 have a7:=a7.stp hs
 have b12:=b12.stp hs rfl
 have i7:=i7.stp hs
 have bH:=bH.stp hs
 have pX:OSF 2009 60900 0 mK oN 3 25 ([]:List Int) lC:=cb.osf (by rfl)
 have qX:OSF 2009 60901 1 mK oN 3 25 ([]:List Int) lC:=cb.osf (by rfl)
 have rX:OSF 2009 60902 2 mK oN 87 25 ([]:List BoxShuttle) lC:=cb.osf (by rfl)
 clear cb
 refine Zg u3 rfl rfl ?_
 refine Ze .plain rfl (D_storeOc (g:=mK) (v:=aH) Try.sizeOf25 rfl b20 rfl bH fun xT w21 hs b21 cb=>?_)
 clear cb
 have hfr:=hfr.stp hs
 have b6:=b6.stp hs rfl
 have v6:=v6.stp hs
 have a7:=a7.stp hs
 have b12:=b12.stp hs rfl
 have i7:=i7.stp hs
 refine Zg (.int .i64 (i5.2.2.1)) rfl rfl ?_
 refine Zg (.int .i64 (i5.2.2.2.1)) rfl rfl ?_
 refine Zg (.int .i64 (i5.2.2.2.2)) rfl rfl ?_
 refine Zb (Zd (Zf (Za (Ze .plain rfl (D_loadO (g:=xT) Try.isAgg25 Try.sizeOf25 rfl b6 fun bW cW=>?_)))))
 obtain ⟨sT,dU,h⟩:=bsome h
 refine Ze .plain rfl (Zp (g:=xT) (vs:=[bW]) en15 (.cons rfl .nil) (wk15 cW dU) fun dW g00 eW hs hr=>?_)
 have hfr:=hfr.ext hs
 have b6:=b6.ext hs
 have v6:=v6.ext hs
 have a7:=a7.ext hs
 have b12:=b12.ext hs
 have i7:=i7.ext hs
 have b21:=b21.ext hs
 have pN:=hr
 refine Zn l5 rfl rfl ?_
 obtain ⟨tT,eU,h⟩:=bsome h
 refine Ze .plain rfl (Zp (g:=dW) (vs:=[l5]) en28 (.cons rfl .nil) (wk28 v6 eU) fun gW h00 iW hs hr=>?_)
 have hfr:=hfr.ext hs
 have b6:=b6.ext hs
 have v6:=v6.ext hs
 have a7:=a7.ext hs
 have b12:=b12.ext hs
 have i7:=i7.ext hs
 have b21:=b21.ext hs
 have pN:=pN.ext hs
 have jW:=hr
 obtain ⟨d7,gU,h⟩:=bsome h
 refine Ze .plain rfl (Zp (g:=gW) (vs:=[eW,iW]) en29 (.cons rfl (.cons rfl .nil)) (wk29 pN jW gU) fun mC i00 v27 hs hr=>?_)
 have hfr:=hfr.ext hs
 have b6:=b6.ext hs
 have v6:=v6.ext hs
 have a7:=a7.ext hs
 have b12:=b12.ext hs
 have i7:=i7.ext hs
 have b21:=b21.ext hs
 obtain ⟨i6,sX,tX,rfl,u9,rfl,rfl⟩:=hr
 refine Zn (.tuple #[i6,.int .i64 (d7.2.1),.int .i64 (d7.2.2)]) rfl rfl ?_
 refine EL_p i6 (Zi rfl rfl) rfl ?_
 refine EL_p (.int .i64 (d7.2.1)) (Zi rfl rfl) rfl ?_
 refine EL_p (.int .i64 (d7.2.2)) (Zi rfl rfl) rfl ?_
 refine Zg i6 rfl rfl ?_
 refine Zg (.int .i64 (d7.2.1)) rfl rfl ?_
 refine Zg (.int .i64 (d7.2.2)) rfl rfl ?_
 refine Zb (Zd (Zq h (fun (s:Unit) e w=>∃ (g:Gh) ,Fr gI wI g w∧e 3=p5∧OB 2003 g w 25 (y4:BoxLoom) p5∧e 4=l5∧RV g.m w (i3.1:List BoxPick) l5∧e 5=k8∧RV g.m w (i3.2.1:List Int) k8∧e 8=u3∧RV g.m w (i5.1:List Int) u3∧e 9=lC∧OB 2009 g w 25 (i5.2.1:BoxLoom) lC∧e 13=i6∧RV g.m w (d7.1:List Span) i6) (fun X63 uT iU h=>?_) ?_))
 ·obtain ⟨iC, hx, h⟩ := bsome h
  refine E_join (fun e w=>∃ (g:Gh) ,Fr gI wI g w∧e 3=p5∧OB 2003 g w 25 (y4:BoxLoom) p5∧e 4=l5∧RV g.m w (i3.1:List BoxPick) l5∧e 5=k8∧RV g.m w (i3.2.1:List Int) k8∧e 8=u3∧RV g.m w (i5.1:List Int) u3∧e 9=lC∧OB 2009 g w 25 (i5.2.1:BoxLoom) lC∧e 13=i6∧RV g.m w (d7.1:List Span) i6∧e 96=.bool (iC)) (fun Q' hQ=>?_) (fun j00 w97 hR=>?_)
  ·replace h := hx
   clear hx
   refine Za (Zn (.int .i64 (i5.2.2.2.2)) rfl rfl ?_)
   refine EL_in (.bool ((i5.2.2.2.2 != (0:Int)))) rfl rfl rfl rfl ?_
   refine Zn (.bool ((i5.2.2.2.2 != (0:Int)))) rfl rfl ?_
   rcases Zt h with ⟨lD,h⟩ | ⟨lD,h⟩
   ·refine EL_s rfl rfl lD rfl rfl ?_
    refine EL_s rfl rfl lD rfl rfl ?_
    refine EL_p (.bool true) (Zl (b:=(i5.2.2.2.2 != (0:Int))) rfl (pick_t lD rfl)) rfl ?_
    refine EL_dead 37 rfl ?_
    refine Zb ?_
    obtain rfl:=sinj h
    exact hQ _ _ ⟨mC,hfr,rfl,b6,rfl,v6,rfl,a7,rfl,i7,rfl,b21,rfl,u9,rfl⟩
   ·refine EL_y (.int .i64 (d7.2.2)) (Zk rfl) rfl rfl lD rfl ?_
    refine EL_y (.bool ((d7.2.2 != (0:Int)))) (P_int rfl rfl rfl) rfl rfl lD rfl ?_
    refine EL_p (.bool ((d7.2.2 != (0:Int)))) (Zl (b:=(i5.2.2.2.2 != (0:Int))) rfl (pick_f lD rfl)) rfl ?_
    refine Zn (.bool ((d7.2.2 != (0:Int)))) rfl rfl ?_
    rcases Zt h with ⟨mD,h⟩ | ⟨mD,h⟩
    ·refine EL_s rfl rfl mD rfl rfl ?_
     refine EL_s rfl rfl mD rfl rfl ?_
     refine EL_p (.bool true) (Zl (b:=(d7.2.2 != (0:Int))) rfl (pick_t mD rfl)) rfl ?_
     refine EL_dead 33 rfl ?_
     refine Zb ?_
     obtain rfl:=sinj h
     exact hQ _ _ ⟨mC,hfr,rfl,b6,rfl,v6,rfl,a7,rfl,i7,rfl,b21,rfl,u9,rfl⟩
    ·refine EL_y (.int .i64 (i5.2.2.2.1)) (Zk rfl) rfl rfl mD rfl ?_
     refine EL_y (.bool ((i5.2.2.2.1 != (0:Int)))) (P_int rfl rfl rfl) rfl rfl mD rfl ?_
     refine EL_p (.bool ((i5.2.2.2.1 != (0:Int)))) (Zl (b:=(d7.2.2 != (0:Int))) rfl (pick_f mD rfl)) rfl ?_
     refine Zn (.bool ((i5.2.2.2.1 != (0:Int)))) rfl rfl ?_
     rcases Zt h with ⟨aC,h⟩ | ⟨aC,h⟩
     ·refine EL_s rfl rfl aC rfl rfl ?_
      refine EL_s rfl rfl aC rfl rfl ?_
      refine EL_s rfl rfl aC rfl rfl ?_
      refine EL_p (.bool true) (Zl (b:=(i5.2.2.2.1 != (0:Int))) rfl (pick_t aC rfl)) rfl ?_
      refine EL_dead 28 rfl ?_
      refine Zb ?_
      obtain rfl:=sinj h
      exact hQ _ _ ⟨mC,hfr,rfl,b6,rfl,v6,rfl,a7,rfl,i7,rfl,b21,rfl,u9,rfl⟩
     ·refine EL_y (.int .i64 (i5.2.2.1)) (Zk rfl) rfl rfl aC rfl ?_
      refine EL_y (.int .i64 (i3.2.2.2)) (Zk rfl) rfl rfl aC rfl ?_
      refine EL_y (.bool ((i5.2.2.1 != i3.2.2.2))) (P_int rfl rfl rfl) rfl rfl aC rfl ?_
      refine EL_p (.bool ((i5.2.2.1 != i3.2.2.2))) (Zl (b:=(i5.2.2.2.1 != (0:Int))) rfl (pick_f aC rfl)) rfl ?_
      refine Zn (.bool ((i5.2.2.1 != i3.2.2.2))) rfl rfl ?_
      rcases Zt h with ⟨tB,h⟩ | ⟨tB,h⟩
      ·refine EL_s rfl rfl tB rfl rfl ?_
       iterate 4 refine EL_s rfl rfl tB rfl rfl ?_
       refine EL_p (.bool true) (Zl (b:=(i5.2.2.1 != i3.2.2.2)) rfl (pick_t tB rfl)) rfl ?_
       refine EL_dead 21 rfl ?_
       refine Zb ?_
       obtain rfl:=sinj h
       exact hQ _ _ ⟨mC,hfr,rfl,b6,rfl,v6,rfl,a7,rfl,i7,rfl,b21,rfl,u9,rfl⟩
      ·refine EL_y u3 (Zk rfl) rfl rfl tB rfl ?_
       refine EL_y (.int .i64 ((i5.1).length:Int)) (P_len Try.underlying22 rfl i7) rfl rfl tB rfl ?_
       refine EL_y l5 (Zk rfl) rfl rfl tB rfl ?_
       refine EL_y (.int .i64 ((i3.1).length:Int)) (P_len Try.underlying30 rfl v6) rfl rfl tB rfl ?_
       refine EL_y (.bool ((((i5.1).length:Int) != ((i3.1).length:Int)))) (P_int rfl rfl rfl) rfl rfl tB rfl ?_
       refine EL_p (.bool ((((i5.1).length:Int) != ((i3.1).length:Int)))) (Zl (b:=(i5.2.2.1 != i3.2.2.2)) rfl (pick_f tB rfl)) rfl ?_
       refine Zn (.bool ((((i5.1).length:Int) != ((i3.1).length:Int)))) rfl rfl ?_
       rcases Zt h with ⟨jB,h⟩ | ⟨jB,h⟩
       ·refine EL_s rfl rfl jB rfl rfl ?_
        iterate 5 refine EL_s rfl rfl jB rfl rfl ?_
        refine EL_p (.bool true) (Zl (b:=(((i5.1).length:Int) != ((i3.1).length:Int))) rfl (pick_t jB rfl)) rfl ?_
        refine EL_dead 13 rfl ?_
        refine Zb ?_
        obtain rfl:=sinj h
        exact hQ _ _ ⟨mC,hfr,rfl,b6,rfl,v6,rfl,a7,rfl,i7,rfl,b21,rfl,u9,rfl⟩
       ·refine EL_y i6 (Zk rfl) rfl rfl jB rfl ?_
        refine EL_y (.int .i64 ((d7.1).length:Int)) (P_len Try.underlying51 rfl u9) rfl rfl jB rfl ?_
        refine EL_y (fPtr p5 2) (Zc at_25_2 rfl (OB.ptr b6)) rfl rfl jB rfl ?_
        refine Ze (.yes2 rfl rfl jB) rfl (D_loadF (g:=mC) part_BoxLoom_2.1 Try.isAgg23 Try.sizeOf23 rfl b6 fun v87 kW=>?_)
        refine EL_y (.int .i64 (((y4).Shuttles).length:Int)) (P_len Try.underlying23 rfl kW) rfl rfl jB rfl ?_
        refine EL_y (.bool ((((d7.1).length:Int) != (((y4).Shuttles).length:Int)))) (P_int rfl rfl rfl) rfl rfl jB rfl ?_
        refine EL_p (.bool ((((d7.1).length:Int) != (((y4).Shuttles).length:Int)))) (Zl (b:=(((i5.1).length:Int) != ((i3.1).length:Int))) rfl (pick_f jB rfl)) rfl ?_
        refine Zn (.bool ((((d7.1).length:Int) != (((y4).Shuttles).length:Int)))) rfl rfl ?_
        rcases Zt h with ⟨vB,h⟩ | ⟨vB,h⟩
        ·refine EL_s rfl rfl vB rfl rfl ?_
         iterate 4 refine EL_s rfl rfl vB rfl rfl ?_
         refine EL_p (.bool true) (Zl (b:=(((d7.1).length:Int) != (((y4).Shuttles).length:Int))) rfl (pick_t vB rfl)) rfl ?_
         refine EL_dead 6 rfl ?_
         refine Zb ?_
         obtain rfl:=sinj h
         exact hQ _ _ ⟨mC,hfr,rfl,b6,rfl,v6,rfl,a7,rfl,i7,rfl,b21,rfl,u9,rfl⟩
        ·refine Ze (.yes2 rfl rfl vB) rfl (D_loadO (g := mC) Try.isAgg25 Try.sizeOf25 rfl b21 fun lW mW => ?_)
         refine Ze (.yes2 rfl rfl vB) rfl (D_loadO (g:=mC) Try.isAgg25 Try.sizeOf25 rfl b6 fun nW oW=>?_)
         refine Ze (.yes2 rfl rfl vB) rfl (D_loadO (g:=mC) Try.isAgg76 Try.sizeOf76 rfl b12 fun pW qW=>?_)
         obtain ⟨nE,jU,h⟩:=bsome h
         refine Ze (.yes2 rfl rfl vB) rfl (Zp (g:=mC) (vs:=[lW,nW,pW]) en41 (.cons rfl (.cons rfl (.cons rfl .nil))) (wk41 mW oW qW jU) fun qN k00 v92 hs hr=>?_)
         have hfr:=hfr.ext hs
         have b6:=b6.ext hs
         have v6:=v6.ext hs
         have a7:=a7.ext hs
         have i7:=i7.ext hs
         have b21:=b21.ext hs
         have u9:=u9.ext hs
         subst hr
         refine EL_y (.bool (!nE)) (P_not rfl) rfl rfl vB rfl ?_
         refine EL_p (.bool (!nE)) (Zl (b:=(((d7.1).length:Int) != (((y4).Shuttles).length:Int))) rfl (pick_f vB rfl)) rfl ?_
         refine Zn (.bool (!nE)) rfl rfl ?_
         rcases Zt h with ⟨cC,h⟩ | ⟨cC,h⟩
         ·refine EL_s rfl rfl cC rfl rfl ?_
          iterate 3 refine EL_s rfl rfl cC rfl rfl ?_
          refine EL_p (.bool true) (Zl (b:=(!nE)) rfl (pick_t cC rfl)) rfl ?_
          refine Zb ?_
          obtain rfl:=sinj h
          exact hQ _ _ ⟨qN,hfr,rfl,b6,rfl,v6,rfl,a7,rfl,i7,rfl,b21,rfl,u9,rfl⟩
         ·refine EL_y (fPtr lC 1) (Zc at_25_1 rfl (OB.ptr b21)) rfl rfl cC rfl ?_
          refine Ze (.yes2 rfl rfl cC) rfl (D_loadF (g:=qN) part_BoxLoom_1.1 Try.isAgg22 Try.sizeOf22 rfl b21 fun v96 sW=>?_)
          refine EL_y (.int .i64 (((i5.2.1).At).length:Int)) (P_len Try.underlying22 rfl sW) rfl rfl cC rfl ?_
          refine EL_y (.bool (((((i5.2.1).At).length:Int) != (2:Int)))) (P_int rfl rfl rfl) rfl rfl cC rfl ?_
          refine EL_p (.bool (((((i5.2.1).At).length:Int) != (2:Int)))) (Zl (b:=(!nE)) rfl (pick_f cC rfl)) rfl ?_
          refine Zb ?_
          obtain rfl:=sinj h
          exact hQ _ _ ⟨qN,hfr,rfl,b6,rfl,v6,rfl,a7,rfl,i7,rfl,b21,rfl,u9,rfl⟩
  ·clear hx
   obtain ⟨tW,hfr,nQ,oQ,pQ,qQ,rQ,sQ,tQ,uQ,vQ,xQ,rN,sN,tH⟩:=hR
   rcases Zt h with ⟨vI,h⟩ | ⟨vI,h⟩
   ·refine E_cond_true (Eq.trans (show ev _ _ = .bool (iC) from tH) (congrArg Value.bool vI)) ?_
    refine Zf (Za (Zg (.bool false) rfl rfl ?_))
    refine Zb (Zd (E_ret (thn_r ?_)))
    obtain rfl:=sinj h
    exact end1 rfl rfl (show _=.bool false from rfl) ⟨_,hfr,rfl⟩
   ·refine E_cond_false (Eq.trans (show ev _ _ = .bool (iC) from tH) (congrArg Value.bool vI)) ?_
    exact Zu (Zd (iU () _ _ ⟨tW,hfr,nQ,oQ,pQ,qQ,rQ,sQ,tQ,uQ,vQ,xQ,rN,sN⟩ h))
 ·rintro _ l00 w99 ⟨tN, hfr, cH, mA, k9, j7, dH, pA, gH, qA, iH, vD, oE, y9⟩ h
  refine Zq h (fun (s:Unit) e w=>∃ (g:Gh) ,Fr gI wI g w∧e 3=p5∧OB 2003 g w 25 (y4:BoxLoom) p5∧e 4=l5∧RV g.m w (i3.1:List BoxPick) l5∧e 5=k8∧RV g.m w (i3.2.1:List Int) k8∧e 8=u3∧RV g.m w (i5.1:List Int) u3∧e 13=i6∧RV g.m w (d7.1:List Span) i6) (fun X370 mN yQ h=>?_) ?_
  ·obtain ⟨iB, hx, h⟩ := bsome h
   refine E_join (fun e w=>∃ (g:Gh) ,Fr gI wI g w∧e 3=p5∧OB 2003 g w 25 (y4:BoxLoom) p5∧e 4=l5∧RV g.m w (i3.1:List BoxPick) l5∧e 5=k8∧RV g.m w (i3.2.1:List Int) k8∧e 8=u3∧RV g.m w (i5.1:List Int) u3∧e 13=i6∧RV g.m w (d7.1:List Span) i6∧e 127=.bool (iB)) (fun Q' hQ=>?_) (fun uX m00 hR=>?_)
   ·replace h := hx
    clear hx
    rcases Zt h with ⟨x5,h⟩ | ⟨x5,h⟩
    ·refine L_loadO (x := .tmp 101) part_BoxLoom_1.1 Try.isAgg22 Try.sizeOf22 vD fun jH xI nK => ?_
     obtain ⟨nB,kH,h⟩:=bsome h
     have kU:=PT_idx xI kH
     refine Zs (x:=.tmp 103) Try.isAgg3 Try.sizeOf3 kU fun n00 lU oK=>?_
     obtain rfl:=Zj.1 lU
     obtain ⟨oB,lH,h⟩:=bsome h
     have yI:=PT_idx j7 lH
     have mU:=Zm (part_BoxPick_0).1 yI
     refine Zs (x:=.tmp 110) Try.isAgg3 Try.sizeOf3 mU fun o00 nU pK=>?_
     obtain rfl:=Zj.1 nU
     rcases Zt h with ⟨n8,h⟩ | ⟨n8,h⟩
     ·refine E_drawL (g := tN) (n := 31) [] [0, 1, 2, 3, 4, 5, 6, 7, 8, 9, 10, 11, 12, 13, 14, 15, 16, 17, 18, 19, 20, 21, 22, 23, 24, 25, 26, 27, 28, 29, 30] rfl mixed (by kernel_rfl) trivial ?_
      refine L_p l5 rfl rfl (Zk k9) ?_
      refine L_p (.int .i64 ((i3.1).length:Int)) rfl rfl (P_len Try.underlying30 rfl j7) ?_
      refine L_p (.bool ((decide (((i3.1).length:Int) > (0:Int))))) rfl rfl (P_int rfl rfl rfl) ?_
      refine L_p (.bool ((decide (((i3.1).length:Int) > (0:Int))))) rfl rfl (Zk rfl) ?_
      refine L_y (fPtr lC 1) rfl rfl rfl rfl x5 (Zc at_25_1 iH (OB.ptr vD)) ?_
      refine L_ld (c:=jH) rfl rfl (.yes2 rfl rfl x5) (fun _ _ h=>⟨h.ch,fun b hb _=>h.below.block b hb⟩) nK rfl ?_
      refine L_y (ePtr jH (0:Int) 1) rfl rfl rfl rfl x5 (Zh (α:=Int) Try.underlying22 Try.sizeOf3 rfl xI rfl kH) ?_
      refine L_ld (c:=.int .i64 (nB)) rfl rfl (.yes2 rfl rfl x5) (fun _ _ h=>h.ch) oK rfl ?_
      refine L_y l5 rfl rfl rfl rfl x5 (Zk k9) ?_
      refine L_y l5 rfl rfl rfl rfl x5 (Zk k9) ?_
      refine L_y (.int .i64 ((i3.1).length:Int)) rfl rfl rfl rfl x5 (P_len Try.underlying30 rfl j7) ?_
      refine L_y (.int .i64 ((w64 (((i3.1).length:Int) - (1:Int))))) rfl rfl rfl rfl x5 (P_int rfl rfl rfl) ?_
      refine L_y (ePtr l5 (w64 (((i3.1).length:Int) - (1:Int))) 2) rfl rfl rfl rfl x5 (Zh (α:=BoxPick) Try.underlying30 Try.sizeOf83 rfl j7 rfl lH) ?_
      refine L_y (fPtr (ePtr l5 (w64 (((i3.1).length:Int) - (1:Int))) 2) 0) rfl rfl rfl rfl x5 (Zc at_83_0 rfl (PT.ptr yI)) ?_
      refine L_ld (c:=.int .i64 ((oB).Left)) rfl rfl (.yes2 rfl rfl x5) (fun _ _ h=>h.ch) pK rfl ?_
      refine L_y (.bool ((nB != (oB).Left))) rfl rfl rfl rfl x5 (P_int rfl rfl rfl) ?_
      refine L_y (.bool ((nB != (oB).Left))) rfl rfl rfl rfl x5 (Zk rfl) ?_
      iterate 12 refine L_s rfl rfl rfl n8 rfl ?_
      refine L_y (.bool true) rfl rfl rfl rfl x5 (Zl (b:=(nB != (oB).Left)) rfl (pick_t n8 rfl)) ?_
      refine L_p (.bool true) rfl rfl (Zl (b:=(decide (((i3.1).length:Int) > (0:Int)))) rfl (pick_t x5 rfl)) ?_
      refine L_nl fun oU p00 hs=>?_
      have hfr:=hfr.ext hs
      have mA:=mA.ext hs
      have j7:=j7.ext hs
      have pA:=pA.ext hs
      have qA:=qA.ext hs
      have y9:=y9.ext hs
      clear hs
      refine Zb ?_
      obtain rfl:=sinj h
      exact hQ _ _ ⟨oU,hfr,cH,mA,k9,j7,dH,pA,gH,qA,oE,y9,rfl⟩
     ·refine L_loadO (x := .tmp 114) part_BoxLoom_1.1 Try.isAgg22 Try.sizeOf22 vD fun uN vN zQ => ?_
      obtain ⟨yD,qK,h⟩:=bsome h
      have pU:=PT_idx vN qK
      refine Zs (x:=.tmp 116) Try.isAgg3 Try.sizeOf3 pU fun q00 qU aR=>?_
      obtain rfl:=Zj.1 qU
      obtain ⟨zD,sK,h⟩:=bsome h
      have xN:=PT_idx j7 sK
      have rU:=Zm (part_BoxPick_1).1 xN
      refine Zs (x:=.tmp 123) Try.isAgg3 Try.sizeOf3 rU fun r00 sU bR=>?_
      obtain rfl:=Zj.1 sU
      refine E_drawL (g:=tN) (n:=31) [] [0,1,2,3,4,5,6,7,8,9,10,11,12,13,14,15,16,17,18,19,20,21,22,23,24,25,26,27,28,29,30] rfl mixed (by kernel_rfl) trivial ?_
      refine L_p l5 rfl rfl (Zk k9) ?_
      refine L_p (.int .i64 ((i3.1).length:Int)) rfl rfl (P_len Try.underlying30 rfl j7) ?_
      refine L_p (.bool ((decide (((i3.1).length:Int) > (0:Int))))) rfl rfl (P_int rfl rfl rfl) ?_
      refine L_p (.bool ((decide (((i3.1).length:Int) > (0:Int))))) rfl rfl (Zk rfl) ?_
      refine L_y (fPtr lC 1) rfl rfl rfl rfl x5 (Zc at_25_1 iH (OB.ptr vD)) ?_
      refine L_ld (c:=jH) rfl rfl (.yes2 rfl rfl x5) (fun _ _ h=>⟨h.ch,fun b hb _=>h.below.block b hb⟩) nK rfl ?_
      refine L_y (ePtr jH (0:Int) 1) rfl rfl rfl rfl x5 (Zh (α:=Int) Try.underlying22 Try.sizeOf3 rfl xI rfl kH) ?_
      refine L_ld (c:=.int .i64 (nB)) rfl rfl (.yes2 rfl rfl x5) (fun _ _ h=>h.ch) oK rfl ?_
      refine L_y l5 rfl rfl rfl rfl x5 (Zk k9) ?_
      refine L_y l5 rfl rfl rfl rfl x5 (Zk k9) ?_
      refine L_y (.int .i64 ((i3.1).length:Int)) rfl rfl rfl rfl x5 (P_len Try.underlying30 rfl j7) ?_
      refine L_y (.int .i64 ((w64 (((i3.1).length:Int) - (1:Int))))) rfl rfl rfl rfl x5 (P_int rfl rfl rfl) ?_
      refine L_y (ePtr l5 (w64 (((i3.1).length:Int) - (1:Int))) 2) rfl rfl rfl rfl x5 (Zh (α:=BoxPick) Try.underlying30 Try.sizeOf83 rfl j7 rfl lH) ?_
      refine L_y (fPtr (ePtr l5 (w64 (((i3.1).length:Int) - (1:Int))) 2) 0) rfl rfl rfl rfl x5 (Zc at_83_0 rfl (PT.ptr yI)) ?_
      refine L_ld (c:=.int .i64 ((oB).Left)) rfl rfl (.yes2 rfl rfl x5) (fun _ _ h=>h.ch) pK rfl ?_
      refine L_y (.bool ((nB != (oB).Left))) rfl rfl rfl rfl x5 (P_int rfl rfl rfl) ?_
      refine L_y (.bool ((nB != (oB).Left))) rfl rfl rfl rfl x5 (Zk rfl) ?_
      refine L_y (fPtr lC 1) rfl rfl rfl rfl n8 (Zc at_25_1 iH (OB.ptr vD)) ?_
      refine L_ld (c:=uN) rfl rfl (.yes2 rfl rfl n8) (fun _ _ h=>⟨h.ch,fun b hb _=>h.below.block b hb⟩) zQ rfl ?_
      refine L_y (ePtr uN (1:Int) 1) rfl rfl rfl rfl n8 (Zh (α:=Int) Try.underlying22 Try.sizeOf3 rfl vN rfl qK) ?_
      refine L_ld (c:=.int .i64 (yD)) rfl rfl (.yes2 rfl rfl n8) (fun _ _ h=>h.ch) aR rfl ?_
      refine L_y l5 rfl rfl rfl rfl n8 (Zk k9) ?_
      refine L_y l5 rfl rfl rfl rfl n8 (Zk k9) ?_
      refine L_y (.int .i64 ((i3.1).length:Int)) rfl rfl rfl rfl n8 (P_len Try.underlying30 rfl j7) ?_
      refine L_y (.int .i64 ((w64 (((i3.1).length:Int) - (1:Int))))) rfl rfl rfl rfl n8 (P_int rfl rfl rfl) ?_
      refine L_y (ePtr l5 (w64 (((i3.1).length:Int) - (1:Int))) 2) rfl rfl rfl rfl n8 (Zh (α:=BoxPick) Try.underlying30 Try.sizeOf83 rfl j7 rfl sK) ?_
      refine L_y (fPtr (ePtr l5 (w64 (((i3.1).length:Int) - (1:Int))) 2) 1) rfl rfl rfl rfl n8 (Zc at_83_1 rfl (PT.ptr xN)) ?_
      refine L_ld (c:=.int .i64 ((zD).Right)) rfl rfl (.yes2 rfl rfl n8) (fun _ _ h=>h.ch) bR rfl ?_
      refine L_y (.bool ((yD != (zD).Right))) rfl rfl rfl rfl n8 (P_int rfl rfl rfl) ?_
      refine L_y (.bool ((yD != (zD).Right))) rfl rfl rfl rfl x5 (Zl (b:=(nB != (oB).Left)) rfl (pick_f n8 rfl)) ?_
      refine L_p (.bool ((yD != (zD).Right))) rfl rfl (Zl (b:=(decide (((i3.1).length:Int) > (0:Int)))) rfl (pick_t x5 rfl)) ?_
      refine L_nl fun tU s00 hs=>?_
      have hfr:=hfr.ext hs
      have mA:=mA.ext hs
      have j7:=j7.ext hs
      have pA:=pA.ext hs
      have qA:=qA.ext hs
      have y9:=y9.ext hs
      clear hs
      refine Zb ?_
      obtain rfl:=sinj h
      exact hQ _ _ ⟨tU,hfr,cH,mA,k9,j7,dH,pA,gH,qA,oE,y9,rfl⟩
    ·refine E_drawL (g := tN) (n := 31) [] [0, 1, 2, 3, 4, 5, 6, 7, 8, 9, 10, 11, 12, 13, 14, 15, 16, 17, 18, 19, 20, 21, 22, 23, 24, 25, 26, 27, 28, 29, 30] rfl mixed (by kernel_rfl) trivial ?_
     refine L_p l5 rfl rfl (Zk k9) ?_
     refine L_p (.int .i64 ((i3.1).length:Int)) rfl rfl (P_len Try.underlying30 rfl j7) ?_
     refine L_p (.bool ((decide (((i3.1).length:Int) > (0:Int))))) rfl rfl (P_int rfl rfl rfl) ?_
     refine L_p (.bool ((decide (((i3.1).length:Int) > (0:Int))))) rfl rfl (Zk rfl) ?_
     iterate 13 refine L_s rfl rfl rfl x5 rfl ?_
     refine L_dead (fun _=>rfl) 12 rfl ?_
     refine L_s rfl rfl rfl x5 rfl ?_
     refine L_p (.bool false) rfl rfl (Zl (b:=(decide (((i3.1).length:Int) > (0:Int)))) rfl (pick_f x5 rfl)) ?_
     refine L_nl fun uU t00 hs=>?_
     have hfr:=hfr.ext hs
     have mA:=mA.ext hs
     have j7:=j7.ext hs
     have pA:=pA.ext hs
     have qA:=qA.ext hs
     have y9:=y9.ext hs
     clear hs
     refine Zb ?_
     obtain rfl:=sinj h
     exact hQ _ _ ⟨uU,hfr,cH,mA,k9,j7,dH,pA,gH,qA,oE,y9,rfl⟩
   ·clear hx
    obtain ⟨vU,hfr,yN,zN,aO,bO,cO,dO,eO,gO,nL,oL,rE⟩:=hR
    rcases Zt h with ⟨mH,h⟩ | ⟨mH,h⟩
    ·refine E_cond_true (Eq.trans (show ev _ _ = .bool (iB) from rE) (congrArg Value.bool mH)) ?_
     refine Zf (Za (Zg (.bool false) rfl rfl ?_))
     refine Zb (Zd (E_ret (thn_r ?_)))
     obtain rfl:=sinj h
     exact end1 rfl rfl (show _=.bool false from rfl) ⟨_,hfr,rfl⟩
    ·refine E_cond_false (Eq.trans (show ev _ _ = .bool (iB) from rE) (congrArg Value.bool mH)) ?_
     exact Zu (Zd (yQ () _ _ ⟨vU,hfr,yN,zN,aO,bO,cO,dO,eO,gO,nL,oL⟩ h))
  ·rintro _ vX u00 ⟨iO, hfr, uH, qC, jO, sE, kO, tE, lO, uE, pL, aE⟩ h
   refine Zf (Za (EL_p (fPtr p5 2) (Zc at_25_2 uH (OB.ptr qC)) rfl ?_))
   refine Ze .plain rfl (D_loadF (g:=iO) part_BoxLoom_2.1 Try.isAgg23 Try.sizeOf23 rfl qC fun v00 xU=>?_)
   refine EL_p (.int .i64 (((y4).Shuttles).length:Int)) (P_len Try.underlying23 rfl xU) rfl ?_
   obtain ⟨eN,cR,h⟩:=bsome h
   refine Ze .plain rfl (D_makeSliceM (g:=iO) 9131 (0:Int) rfl Try.underlying22 info_3 rfl (fun _ _=>rfl) rfl rfl cR fun yU x00 g8 hs b645=>?_)
   have hfr:=hfr.stp hs
   have qC:=qC.stp hs rfl
   have sE:=sE.stp hs
   have tE:=tE.stp hs
   have uE:=uE.stp hs
   have aE:=aE.stp hs
   refine Zg g8 rfl rfl ?_
   refine Zb (Zd (Zq h (fun (s:(List Int)) e w=>∃ (g:Gh) ,Fr gI wI g w∧e 3=p5∧OB 2003 g w 25 (y4:BoxLoom) p5∧e 4=l5∧RV g.m w (i3.1:List BoxPick) l5∧e 8=u3∧RV g.m w (i5.1:List Int) u3∧e 13=i6∧RV g.m w (d7.1:List Span) i6∧e 16=g8∧OM 9131 g w 3 (s:List Int) g8) (fun X812 gN dR h=>?_) ?_))
   ·refine Zf (Za (Zg (.int .i64 (0)) rfl rfl ?_))
    refine Zb (Zd (Zr ?_))
    refine E_lp h (fun (s:(List Int) × Int) e w=>∃ (g:Gh) ,Fr gI wI g w∧e 3=p5∧OB 2003 g w 25 (y4:BoxLoom) p5∧e 4=l5∧RV g.m w (i3.1:List BoxPick) l5∧e 5=k8∧RV g.m w (i3.2.1:List Int) k8∧e 8=u3∧RV g.m w (i5.1:List Int) u3∧e 13=i6∧RV g.m w (d7.1:List Span) i6∧e 16=g8∧OM 9131 g w 3 (s.1:List Int) g8∧e 17=.int .i64 (s.2)) ⟨yU,hfr,uH,qC,jO,sE,kO,tE,lO,uE,pL,aE,rfl,b645,rfl⟩ (fun X813 iN eR=>?_)
    rintro ⟨a9,y6⟩ xX y00 ⟨mO,hfr,xH,yH,zH,aI,nO,oO,vE,xE,gG,hG,iG,jG,kG⟩ h
    refine Zq h (fun (s:Unit) e w=>∃ (g:Gh) ,Fr gI wI g w∧e 3=p5∧OB 2003 g w 25 (y4:BoxLoom) p5∧e 4=l5∧RV g.m w (i3.1:List BoxPick) l5∧e 5=k8∧RV g.m w (i3.2.1:List Int) k8∧e 8=u3∧RV g.m w (i5.1:List Int) u3∧e 13=i6∧RV g.m w (d7.1:List Span) i6∧e 16=g8∧OM 9131 g w 3 (a9:List Int) g8∧e 17=.int .i64 (y6)) (fun X816 lN gR h=>?_) ?_
    ·refine Zf (Za (Zo kG rfl ?_))
     refine Zo vE rfl ?_
     refine EL_p (.int .i64 ((i5.1).length:Int)) (P_len Try.underlying22 rfl xE) rfl ?_
     refine EL_in (.bool ((decide (y6 < ((i5.1).length:Int))))) rfl rfl rfl rfl ?_
     refine Zb (Zd ?_)
     rcases Zt h with ⟨nH,h⟩ | ⟨nH,h⟩
     ·refine E_ct nH rfl ?_
      exact Zu (Zd (gR () _ _ ⟨mO,hfr,xH,yH,zH,aI,nO,oO,vE,xE,gG,hG,iG,jG,kG⟩ h))
     ·refine E_cf nH rfl ?_
      refine E_exit ?_
      refine thn_e ?_
      refine thn_e ?_
      refine blk_hit ?_
      exact Zd (dR (a9) _ _ ⟨mO,hfr,xH,yH,zH,aI,vE,xE,gG,hG,iG,jG⟩ h)
    ·rintro _ yX z00 ⟨zU, hfr, bI, rC, pO, yE, cI, uC, dI, vC, qL, bE, rL, cE, dE⟩ h
     refine Zq h (fun (s:(List Int)) e w=>∃ (g:Gh) ,Fr gI wI g w∧e 3=p5∧OB 2003 g w 25 (y4:BoxLoom) p5∧e 4=l5∧RV g.m w (i3.1:List BoxPick) l5∧e 5=k8∧RV g.m w (i3.2.1:List Int) k8∧e 8=u3∧RV g.m w (i5.1:List Int) u3∧e 13=i6∧RV g.m w (d7.1:List Span) i6∧e 16=g8∧OM 9131 g w 3 (s:List Int) g8∧e 17=.int .i64 (y6)) (fun X898 jN iR h=>?_) ?_
     ·refine Zr ?_
      refine Zq h (fun (s:Unit) e w=>∃ (g:Gh) ,Fr gI wI g w∧e 3=p5∧OB 2003 g w 25 (y4:BoxLoom) p5∧e 4=l5∧RV g.m w (i3.1:List BoxPick) l5∧e 5=k8∧RV g.m w (i3.2.1:List Int) k8∧e 8=u3∧RV g.m w (i5.1:List Int) u3∧e 13=i6∧RV g.m w (d7.1:List Span) i6∧e 16=g8∧OM 9131 g w 3 (a9:List Int) g8∧e 17=.int .i64 (y6)) (fun X934 kN jR h=>?_) ?_
      ·refine Zf ?_
       obtain ⟨yG,tK,h⟩:=bsome h
       have aV:=PT_idx vC tK
       refine Zs (x:=.tmp 140) Try.isAgg3 Try.sizeOf3 aV fun a01 bV lR=>?_
       obtain rfl:=Zj.1 bV
       refine L_loadO (x:=.tmp 142) part_BoxLoom_2.1 Try.isAgg23 Try.sizeOf23 rC fun zI qO mR=>?_
       obtain ⟨mE,uK,h⟩:=bsome h
       have cV:=PT_idx uC uK
       refine Zs (x:=.tmp 146) Try.isAgg3 Try.sizeOf3 cV fun b01 dV nR=>?_
       obtain rfl:=Zj.1 dV
       obtain ⟨zG,vK,h⟩:=bsome h
       have rO:=PT_idx qO vK
       have eV:=Zm (part_BoxShuttle_0).1 rO
       refine Zs (x:=.tmp 149) Try.isAgg3 Try.sizeOf3 eV fun c01 gV oR=>?_
       obtain rfl:=Zj.1 gV
       refine E_drawL (g:=zU) (n:=14) [] [0,1,2,3,4,5,6,7,8,9,10,11,12,13] rfl mixed (by kernel_rfl) trivial ?_
       refine L_p u3 rfl rfl (Zk dI) ?_
       refine L_p (.int .i64 (y6)) rfl rfl (Zk dE) ?_
       refine L_p (ePtr u3 y6 1) rfl rfl (Zh (α:=Int) Try.underlying22 Try.sizeOf3 rfl vC rfl tK) ?_
       refine L_ld (c:=.int .i64 (yG)) rfl rfl .plain (fun _ _ h=>h.ch) lR rfl ?_
       refine L_p (fPtr p5 2) rfl rfl (Zc at_25_2 bI (OB.ptr rC)) ?_
       refine L_ld (c:=zI) rfl rfl .plain (fun _ _ h=>⟨h.ch,fun b hb _=>h.below.block b hb⟩) mR rfl ?_
       refine L_p k8 rfl rfl (Zk cI) ?_
       refine L_p (.int .i64 (y6)) rfl rfl (Zk dE) ?_
       refine L_p (ePtr k8 y6 1) rfl rfl (Zh (α:=Int) Try.underlying22 Try.sizeOf3 rfl uC rfl uK) ?_
       refine L_ld (c:=.int .i64 (mE)) rfl rfl .plain (fun _ _ h=>h.ch) nR rfl ?_
       refine L_p (ePtr zI mE 5) rfl rfl (Zh (α:=BoxShuttle) Try.underlying23 Try.sizeOf87 rfl qO rfl vK) ?_
       refine L_p (fPtr (ePtr zI mE 5) 0) rfl rfl (Zc at_87_0 rfl (PT.ptr rO)) ?_
       refine L_ld (c:=.int .i64 ((zG).Colour)) rfl rfl .plain (fun _ _ h=>h.ch) oR rfl ?_
       refine L_p (.bool ((yG != (zG).Colour))) rfl rfl (P_int rfl rfl rfl) ?_
       refine L_nl fun iV d01 hs=>?_
       have hfr:=hfr.ext hs
       have rC:=rC.ext hs
       have yE:=yE.ext hs
       have uC:=uC.ext hs
       have vC:=vC.ext hs
       have bE:=bE.ext hs
       have cE:=cE.ext hs
       clear hs
       refine Zb (Zd ?_)
       rcases Zt h with ⟨oH,h⟩ | ⟨oH,h⟩
       ·refine E_ct oH rfl ?_
        refine Zf (Za (Zg (.bool false) rfl rfl ?_))
        refine Zb (Zd (E_ret (thn_r ?_)))
        refine blk_r ?_
        refine thn_r ?_
        refine thn_r ?_
        refine blk_r ?_
        refine thn_r ?_
        obtain rfl:=sinj h
        exact end1 rfl rfl (show _=.bool false from rfl) ⟨_,hfr,rfl⟩
       ·refine E_cf oH rfl ?_
        exact Zu (Zd (jR () _ _ ⟨iV,hfr,bI,rC,pO,yE,cI,uC,dI,vC,qL,bE,rL,cE,dE⟩ h))
      ·rintro _ zX e01 ⟨aJ, hfr, sO, zE, tO, cF, iI, aD, uO, dF, tL, eE, lG, iD, mG⟩ h
       refine Za (Zo lG rfl ?_)
       refine Zo iI rfl ?_
       refine Zo mG rfl ?_
       obtain ⟨kD,xK,h⟩:=bsome h
       refine EL_p (ePtr k8 y6 1) (Zh (α:=Int) Try.underlying22 Try.sizeOf3 rfl aD rfl xK) rfl ?_
       have jV:=PT_idx aD xK
       refine Ze .plain rfl (D_load (g:=aJ) Try.isAgg3 Try.sizeOf3 rfl jV fun g01 kV=>?_)
       obtain rfl:=Zj.1 kV
       obtain ⟨lE,yK,h⟩:=bsome h
       refine EL_p (ePtr g8 kD 1) (P_indexAddrM (α:=Int) Try.underlying22 Try.sizeOf3 rfl iD rfl yK) rfl ?_
       refine Ze .plain rfl (D_loadM (g:=aJ) Try.isAgg3 Try.sizeOf3 rfl iD yK fun h01 lV=>?_)
       obtain rfl:=Zj.1 lV
       refine EL_in (.int .i64 ((w64 (lE + (1:Int))))) rfl rfl rfl rfl ?_
       obtain ⟨yT,zK,h⟩:=bsome h
       refine EL_p (ePtr g8 kD 1) (P_indexAddrM (α:=Int) Try.underlying22 Try.sizeOf3 rfl iD rfl zK) rfl ?_
       refine Ze .plain rfl (D_storeM (g:=aJ) (α:=Int) (a':=((w64 (lE + (1:Int))))) Try.sizeOf3 rfl iD zK rfl (Zj.2 rfl) fun mV i01 hs b977=>?_)
       have hfr:=hfr.stp hs
       have zE:=zE.stp hs rfl
       have cF:=cF.stp hs
       have aD:=aD.stp hs
       have dF:=dF.stp hs
       have eE:=eE.stp hs
       exact Zb (blk_n (Zd (iR ((List.set a9 (Int.toNat kD) ((w64 (lE + (1:Int)))))) _ _ ⟨mV,hfr,sO,zE,tO,cF,iI,aD,uO,dF,tL,eE,lG,b977,mG⟩ h)))
     ·rintro xD aY j01 ⟨nV, hfr, vO, xO, yO, zO, aP, bP, cP, dP, uL, vL, xL, yL, zL⟩ h
      refine Za (Zo zL rfl ?_)
      refine EL_in (.int .i64 ((w64 (y6 + (1:Int))))) rfl rfl rfl rfl ?_
      refine Zg (.int .i64 ((w64 (y6 + (1:Int))))) rfl rfl ?_
      exact Zb (Zd (eR (xD,(w64 (y6 + (1:Int)))) _ _ ⟨nV,hfr,vO,xO,yO,zO,aP,bP,cP,dP,uL,vL,xL,yL,rfl⟩ h))
   ·rintro rA bY k01 ⟨oV, hfr, eP, gP, iP, jP, kP, lP, aM, bM, cM, dM⟩ h
    refine Zq h (fun (s:Unit) e w=>∃ (g:Gh) ,Fr gI wI g w∧e 3=p5∧OB 2003 g w 25 (y4:BoxLoom) p5∧e 4=l5∧RV g.m w (i3.1:List BoxPick) l5∧e 8=u3∧RV g.m w (i5.1:List Int) u3) (fun X1104 cK mP h=>?_) ?_
    ·refine Zf (Za (Zg (.int .i64 (0)) rfl rfl ?_))
     refine Zb (Zd (Zr ?_))
     refine E_lp h (fun (s:Int) e w=>∃ (g:Gh) ,Fr gI wI g w∧e 3=p5∧OB 2003 g w 25 (y4:BoxLoom) p5∧e 4=l5∧RV g.m w (i3.1:List BoxPick) l5∧e 8=u3∧RV g.m w (i5.1:List Int) u3∧e 13=i6∧RV g.m w (d7.1:List Span) i6∧e 16=g8∧OM 9131 g w 3 (rA:List Int) g8∧e 18=.int .i64 (s)) ⟨oV,hfr,eP,gP,iP,jP,kP,lP,aM,bM,cM,dM,rfl⟩ (fun X1105 dK nP=>?_)
     rintro t5 uW cY ⟨aL,hfr,nG,oG,pG,qG,rG,sG,eF,iF,bJ,cJ,nF⟩ h
     refine Zq h (fun (s:Unit) e w=>∃ (g:Gh) ,Fr gI wI g w∧e 3=p5∧OB 2003 g w 25 (y4:BoxLoom) p5∧e 4=l5∧RV g.m w (i3.1:List BoxPick) l5∧e 8=u3∧RV g.m w (i5.1:List Int) u3∧e 13=i6∧RV g.m w (d7.1:List Span) i6∧e 16=g8∧OM 9131 g w 3 (rA:List Int) g8∧e 18=.int .i64 (t5)) (fun X1108 lK oP h=>?_) ?_
     ·refine Zf (Za (Zo nF rfl ?_))
      refine Zo eF rfl ?_
      refine EL_p (.int .i64 ((d7.1).length:Int)) (P_len Try.underlying51 rfl iF) rfl ?_
      refine EL_in (.bool ((decide (t5 < ((d7.1).length:Int))))) rfl rfl rfl rfl ?_
      refine Zb (Zd ?_)
      rcases Zt h with ⟨oF,h⟩ | ⟨oF,h⟩
      ·refine E_ct oF rfl ?_
       exact Zu (Zd (oP () _ _ ⟨aL,hfr,nG,oG,pG,qG,rG,sG,eF,iF,bJ,cJ,nF⟩ h))
      ·refine E_cf oF rfl ?_
       refine E_exit ?_
       refine thn_e ?_
       refine thn_e ?_
       refine blk_hit ?_
       exact Zd (mP () _ _ ⟨aL,hfr,nG,oG,pG,qG,rG,sG⟩ h)
     ·rintro _ vW dY ⟨pH, hfr, tG, d9, eM, z9, iM, bA, pF, q8, nD, i8, lB⟩ h
      refine Zq h (fun (s:Unit) e w=>∃ (g:Gh) ,Fr gI wI g w∧e 3=p5∧OB 2003 g w 25 (y4:BoxLoom) p5∧e 4=l5∧RV g.m w (i3.1:List BoxPick) l5∧e 8=u3∧RV g.m w (i5.1:List Int) u3∧e 13=i6∧RV g.m w (d7.1:List Span) i6∧e 16=g8∧OM 9131 g w 3 (rA:List Int) g8∧e 18=.int .i64 (t5)) (fun X1169 eK pP h=>?_) ?_
      ·refine Zr ?_
       refine Zf (Za (EL_p (fPtr p5 2) (Zc at_25_2 tG (OB.ptr d9)) rfl ?_))
       refine Ze .plain rfl (D_loadF (g:=pH) part_BoxLoom_2.1 Try.isAgg23 Try.sizeOf23 rfl d9 fun bL cL=>?_)
       refine Zo lB rfl ?_
       obtain ⟨n9,jI,h⟩:=bsome h
       refine EL_p (ePtr bL t5 5) (Zh (α:=BoxShuttle) Try.underlying23 Try.sizeOf87 rfl cL rfl jI) rfl ?_
       have dL:=PT_idx cL jI
       refine EL_p (fPtr (ePtr bL t5 5) 3) (Zc at_87_3 rfl (PT.ptr dL)) rfl ?_
       have pR:=Zm (part_BoxShuttle_3).1 dL
       refine Ze .plain rfl (D_load (g:=pH) Try.isAgg85 Try.sizeOf85 rfl pR fun qR qH=>?_)
       refine Ze .plain rfl (D_allocOc (g:=pH) 2019 (⟨0,0⟩:Span) Try.zeroValue85 (fun m w=>⟨_,(rep_two rep_int rep_int),rfl⟩) fun rR eY eL hs b1176 cb=>?_)
       have hfr:=hfr.stp hs
       have d9:=d9.stp hs rfl
       have z9:=z9.stp hs
       have bA:=bA.stp hs
       have q8:=q8.stp hs
       have i8:=i8.stp hs rfl
       have qH:=qH.stp hs
       clear cb
       refine Ze .plain rfl (D_storeOc (g:=rR) (v:=qR) Try.sizeOf85 rfl b1176 rfl qH fun tR gY hs b1177 cb=>?_)
       clear cb
       have hfr:=hfr.stp hs
       have d9:=d9.stp hs rfl
       have z9:=z9.stp hs
       have bA:=bA.stp hs
       have q8:=q8.stp hs
       have i8:=i8.stp hs rfl
       refine Zb (Zd (Zf ?_))
       obtain ⟨xG,kI,h⟩:=bsome h
       have uR:=PT_idx q8 kI
       refine Zs (x:=.tmp 175) Try.isAgg85 Try.sizeOf85 uR fun vR xR sP=>?_
       refine L_loadO (x:=.tmp 177) part_Span_0.1 Try.isAgg3 Try.sizeOf3 b1177 fun iY yR tP=>?_
       obtain rfl:=Zj.1 yR
       obtain ⟨eD,lI,h⟩:=bsome h
       refine L_loadM (x:=.tmp 181) Try.isAgg3 Try.sizeOf3 i8 lI fun jY zR uP=>?_
       obtain rfl:=Zj.1 zR
       refine L_loadO (x:=.tmp 185) part_Span_1.1 Try.isAgg3 Try.sizeOf3 b1177 fun kY aS vP=>?_
       obtain rfl:=Zj.1 aS
       obtain ⟨gD,mI,h⟩:=bsome h
       refine L_loadM (x:=.tmp 189) Try.isAgg3 Try.sizeOf3 i8 mI fun mY bS xP=>?_
       obtain rfl:=Zj.1 bS
       obtain ⟨zB,yP,h⟩:=bsome h
       refine E_drawL (g:=tR) (n:=22) [(20,(fun v g w=>RV g.m w zB v))] [0,1,2,3,4,5,6,7,8,9,10,11,12,13,14,15,16,17,18,19,20,21] rfl mixed (by kernel_rfl) (⟨fun _=>up_rv,trivial⟩) ?_
       refine L_p i6 rfl rfl (Zk pF) ?_
       refine L_p (.int .i64 (t5)) rfl rfl (Zk lB) ?_
       refine L_p (ePtr i6 t5 2) rfl rfl (Zh (α:=Span) Try.underlying51 Try.sizeOf85 rfl q8 rfl kI) ?_
       refine L_ld (c:=vR) rfl rfl .plain (fun _ _ h=>h.ch) sP rfl ?_
       refine L_p (fPtr eL 0) rfl rfl (Zc at_85_0 rfl (OB.ptr b1177)) ?_
       refine L_ld (c:=.int .i64 (((n9).Yarn).Low)) rfl rfl .plain (fun _ _ h=>⟨h.ch,fun b hb _=>h.below.block b hb⟩) tP rfl ?_
       refine L_p g8 rfl rfl (Zk nD) ?_
       refine L_p (.int .i64 (t5)) rfl rfl (Zk lB) ?_
       refine L_p (ePtr g8 t5 1) rfl rfl (P_indexAddrM (α:=Int) Try.underlying22 Try.sizeOf3 rfl i8 rfl lI) ?_
       refine L_ld (c:=.int .i64 (eD)) rfl rfl .plain (fun _ _ h=>⟨h.ch,fun b hb _=>h.below.block b hb⟩) uP rfl ?_
       refine L_p (.int .i64 ((w64 (((n9).Yarn).Low - eD)))) rfl rfl (P_int rfl rfl rfl) ?_
       refine L_p (.int .i64 (max64 (0:Int) (w64 (((n9).Yarn).Low - eD)))) rfl rfl (P_max rfl rfl) ?_
       refine L_p (fPtr eL 1) rfl rfl (Zc at_85_1 rfl (OB.ptr b1177)) ?_
       refine L_ld (c:=.int .i64 (((n9).Yarn).High)) rfl rfl .plain (fun _ _ h=>⟨h.ch,fun b hb _=>h.below.block b hb⟩) vP rfl ?_
       refine L_p g8 rfl rfl (Zk nD) ?_
       refine L_p (.int .i64 (t5)) rfl rfl (Zk lB) ?_
       refine L_p (ePtr g8 t5 1) rfl rfl (P_indexAddrM (α:=Int) Try.underlying22 Try.sizeOf3 rfl i8 rfl mI) ?_
       refine L_ld (c:=.int .i64 (gD)) rfl rfl .plain (fun _ _ h=>⟨h.ch,fun b hb _=>h.below.block b hb⟩) xP rfl ?_
       refine L_p (.int .i64 ((w64 (((n9).Yarn).High - gD)))) rfl rfl (P_int rfl rfl rfl) ?_
       refine L_p (.int .i64 (max64 (0:Int) (w64 (((n9).Yarn).High - gD)))) rfl rfl (P_max rfl rfl) ?_
       refine L_do (φ:=fun v g w=>RV g.m w zB v) rfl rfl .plain (fun g w hd=>Zp (g:=g) (vs:=[.int .i64 (max64 (0:Int) (w64 (((n9).Yarn).Low - eD))),.int .i64 (max64 (0:Int) (w64 (((n9).Yarn).High - gD)))]) en42 (.cons rfl (.cons rfl .nil)) (wk42  yP) fun g' w' v hs hr=>⟨g',hs,hr⟩) (fun gL hv=>?_)
       obtain ⟨_,_,_,rq1189⟩:=hv
       refine L_pur (c:=.bool ((!(decide (xG=zB))))) rfl rfl .plain (fun _ _ hd=>P_sne seq_85 rfl eg_85 rfl rfl xR (word (A:=fun g w=>RV g.m w zB gL) 20 rfl rfl (deps_of hd))) ?_
       refine L_nil fun cS nY hall=>?_
       have hs:=hall.1
       have hfr:=hfr.ext hs
       have d9:=d9.ext hs
       have z9:=z9.ext hs
       have bA:=bA.ext hs
       have q8:=q8.ext hs
       have i8:=i8.ext hs
       have oY:=(word_all (A:=fun g w=>RV g.m w zB gL) 20 rfl hall)
       clear hs hall
       refine Zb (Zd ?_)
       rcases Zt h with ⟨qF,h⟩ | ⟨qF,h⟩
       ·refine E_ct qF rfl ?_
        refine Zf (Za (Zg (.bool false) rfl rfl ?_))
        refine Zb (Zd (E_ret (blk_r ?_)))
        refine thn_r ?_
        refine thn_r ?_
        refine blk_r ?_
        refine thn_r ?_
        obtain rfl:=sinj h
        exact end1 rfl rfl (show _=.bool false from rfl) ⟨_,hfr,rfl⟩
       ·refine E_cf qF rfl ?_
        exact Zu (blk_n (Zd (pP () _ _ ⟨cS,hfr,tG,d9,eM,z9,iM,bA,pF,q8,nD,i8,lB⟩ h)))
      ·rintro _ xW pY ⟨dS, hfr, jM, kM, mM, nM, oM, pM, dJ, eJ, gJ, iJ, jJ⟩ h
       refine Za (Zo jJ rfl ?_)
       refine EL_in (.int .i64 ((w64 (t5 + (1:Int))))) rfl rfl rfl rfl ?_
       refine Zg (.int .i64 ((w64 (t5 + (1:Int))))) rfl rfl ?_
       exact Zb (Zd (nP ((w64 (t5 + (1:Int)))) _ _ ⟨dS,hfr,jM,kM,mM,nM,oM,pM,dJ,eJ,gJ,iJ,rfl⟩ h))
    ·rintro _ yW qY ⟨sH, hfr, qM, rM, sM, tM, uM, yB⟩ h
     refine Zq h (fun (s:Unit) e w=>∃ (g:Gh) ,Fr gI wI g w) (fun X1974 vG nI h=>?_) ?_
     ·refine Zf (Za (Zo sM rfl ?_))
      refine EL_p (.int .i64 ((i3.1).length:Int)) (P_len Try.underlying30 rfl tM) rfl ?_
      refine EL_in (.bool ((decide (((i3.1).length:Int) > (0:Int))))) rfl rfl rfl rfl ?_
      refine Zb (Zd ?_)
      rcases Zt h with ⟨rF,h⟩ | ⟨rF,h⟩
      ·refine E_ct rF rfl ?_
       refine Zf (Za (Ze .plain rfl (D_loadO (g:=sH) Try.isAgg25 Try.sizeOf25 qM rM fun eS gS=>?_)))
       obtain ⟨xJ,zP,h⟩:=bsome h
       refine Ze .plain rfl (Zp (g:=sH) (vs:=[eS]) en15 (.cons rfl .nil) (wk15 gS zP) fun iS zW jS hs hr=>?_)
       have hfr:=hfr.ext hs
       have yB:=yB.ext hs
       have lS:=hr
       obtain ⟨x6,bQ,h⟩:=bsome h
       refine Ze .plain rfl (Zp (g:=iS) (vs:=[jS]) en43 (.cons rfl .nil) (wk43 lS bQ) fun mS aX uY hs hr=>?_)
       have hfr:=hfr.ext hs
       have yB:=yB.ext hs
       obtain ⟨j6,pV,rfl,vM,rfl⟩:=hr
       refine Zn (.tuple #[j6,.int .i64 (x6.2)]) rfl rfl ?_
       refine EL_p j6 (Zi rfl rfl) rfl ?_
       refine EL_p (.int .i64 (x6.2)) (Zi rfl rfl) rfl ?_
       refine Zg j6 rfl rfl ?_
       refine Zg (.int .i64 (x6.2)) rfl rfl ?_
       refine Zb (Zd (Zf (Za (Zg (.bool false) rfl rfl ?_))))
       refine Zb (Zd (Zq h (fun (s:Bool) e w=>∃ (g:Gh) ,Fr gI wI g w∧e 21=.int .i64 (x6.2)∧e 22=.bool (s)) (fun X2347 yJ cQ h=>?_) ?_))
       ·refine Zf (Za (Zg (.int .i64 (0)) rfl rfl ?_))
        refine Zb (Zd (Zr ?_))
        refine E_lp h (fun (s:Bool × Int) e w=>∃ (g:Gh) ,Fr gI wI g w∧e 8=u3∧RV g.m w (i5.1:List Int) u3∧e 20=j6∧RV g.m w (x6.1:List Int) j6∧e 21=.int .i64 (x6.2)∧e 22=.bool (s.1)∧e 23=.int .i64 (s.2)) ⟨mS,hfr,uM,yB,rfl,vM,rfl,rfl,rfl⟩ (fun X2348 zJ dQ=>?_)
        rintro ⟨m7,o0⟩ bX vY ⟨iL,hfr,xM,yM,sF,tF,uF,vF,xF⟩ h
        refine Zq h (fun (s:Unit) e w=>∃ (g:Gh) ,Fr gI wI g w∧e 8=u3∧RV g.m w (i5.1:List Int) u3∧e 20=j6∧RV g.m w (x6.1:List Int) j6∧e 21=.int .i64 (x6.2)∧e 22=.bool (m7)∧e 23=.int .i64 (o0)) (fun X2351 bK eQ h=>?_) ?_
        ·refine Zf (Za (Zo xF rfl ?_))
         refine Zo sF rfl ?_
         refine EL_p (.int .i64 ((x6.1).length:Int)) (P_len Try.underlying22 rfl tF) rfl ?_
         refine EL_in (.bool ((decide (o0 < ((x6.1).length:Int))))) rfl rfl rfl rfl ?_
         refine Zb (Zd ?_)
         rcases Zt h with ⟨yF,h⟩ | ⟨yF,h⟩
         ·refine E_ct yF rfl ?_
          exact Zu (Zd (eQ () _ _ ⟨iL,hfr,xM,yM,sF,tF,uF,vF,xF⟩ h))
         ·refine E_cf yF rfl ?_
          refine E_exit ?_
          refine thn_e ?_
          refine thn_e ?_
          refine blk_hit ?_
          exact Zd (cQ (m7) _ _ ⟨iL,hfr,uF,vF⟩ h)
        ·rintro _ cX xY ⟨jL, hfr, gE, l9, oD, x8, zF, aG, sD⟩ h
         refine Zq h (fun (s:Bool) e w=>∃ (g:Gh) ,Fr gI wI g w∧e 8=u3∧RV g.m w (i5.1:List Int) u3∧e 20=j6∧RV g.m w (x6.1:List Int) j6∧e 21=.int .i64 (x6.2)∧e 22=.bool (s)∧e 23=.int .i64 (o0)) (fun X2533 aK gQ h=>?_) ?_
         ·refine Zr ?_
          obtain ⟨dB,hx,h⟩:=bsome h
          refine E_join (fun e w=>∃ (g:Gh) ,Fr gI wI g w∧e 8=u3∧RV g.m w (i5.1:List Int) u3∧e 20=j6∧RV g.m w (x6.1:List Int) j6∧e 21=.int .i64 (x6.2)∧e 22=.bool (dB)∧e 23=.int .i64 (o0)) (fun Q' hQ=>?_) (fun dX yY hR=>?_)
          ·replace h := hx
           clear hx
           rcases Zt h with ⟨t8,h⟩ | ⟨t8,h⟩
           ·refine E_drawL (g := jL) (n := 12) [] [0, 1, 2, 3, 4, 5, 6, 7, 8, 9, 10, 11] rfl mixed (by kernel_rfl) trivial ?_
            refine L_p (.bool (m7)) rfl rfl (Zk aG) ?_
            refine L_p (.bool (m7)) rfl rfl (Zk rfl) ?_
            iterate 8 refine L_s rfl rfl rfl t8 rfl ?_
            refine L_p (.bool true) rfl rfl (Zl (b:=m7) rfl (pick_t t8 rfl)) ?_
            refine L_p (.bool true) rfl rfl (P_assign rfl) ?_
            refine L_nl fun nS zY hs=>?_
            have hfr:=hfr.ext hs
            have l9:=l9.ext hs
            have x8:=x8.ext hs
            clear hs
            refine Zb ?_
            obtain rfl:=sinj h
            exact hQ _ _ ⟨nS,hfr,gE,l9,oD,x8,zF,rfl,sD⟩
           ·obtain ⟨bD, pI, h⟩ := bsome h
            have oS:=PT_idx x8 pI
            refine Zs (x:=.tmp 214) Try.isAgg3 Try.sizeOf3 oS fun aZ pS iQ=>?_
            obtain rfl:=Zj.1 pS
            obtain ⟨cD,qI,h⟩:=bsome h
            have qS:=PT_idx l9 qI
            refine Zs (x:=.tmp 217) Try.isAgg3 Try.sizeOf3 qS fun bZ rS jQ=>?_
            obtain rfl:=Zj.1 rS
            refine E_drawL (g:=jL) (n:=12) [] [0,1,2,3,4,5,6,7,8,9,10,11] rfl mixed (by kernel_rfl) trivial ?_
            refine L_p (.bool (m7)) rfl rfl (Zk aG) ?_
            refine L_p (.bool (m7)) rfl rfl (Zk rfl) ?_
            refine L_y j6 rfl rfl rfl rfl t8 (Zk oD) ?_
            refine L_y (.int .i64 (o0)) rfl rfl rfl rfl t8 (Zk sD) ?_
            refine L_y (ePtr j6 o0 1) rfl rfl rfl rfl t8 (Zh (α:=Int) Try.underlying22 Try.sizeOf3 rfl x8 rfl pI) ?_
            refine L_ld (c:=.int .i64 (bD)) rfl rfl (.yes2 rfl rfl t8) (fun _ _ h=>h.ch) iQ rfl ?_
            refine L_y u3 rfl rfl rfl rfl t8 (Zk gE) ?_
            refine L_y (ePtr u3 (0:Int) 1) rfl rfl rfl rfl t8 (Zh (α:=Int) Try.underlying22 Try.sizeOf3 rfl l9 rfl qI) ?_
            refine L_ld (c:=.int .i64 (cD)) rfl rfl (.yes2 rfl rfl t8) (fun _ _ h=>h.ch) jQ rfl ?_
            refine L_y (.bool ((bD == cD))) rfl rfl rfl rfl t8 (P_int rfl rfl rfl) ?_
            refine L_p (.bool ((bD == cD))) rfl rfl (Zl (b:=m7) rfl (pick_f t8 rfl)) ?_
            refine L_p (.bool ((bD == cD))) rfl rfl (P_assign rfl) ?_
            refine L_nl fun sS cZ hs=>?_
            have hfr:=hfr.ext hs
            have l9:=l9.ext hs
            have x8:=x8.ext hs
            clear hs
            refine Zb ?_
            obtain rfl:=sinj h
            exact hQ _ _ ⟨sS,hfr,gE,l9,oD,x8,zF,rfl,sD⟩
          ·clear hx
           obtain ⟨lL,hfr,uG,yA,eC,m8,bG,cG,gA⟩:=hR
           obtain ⟨jA,hx,h⟩:=bsome h
           refine E_join (fun e w=>∃ (g:Gh) ,Fr gI wI g w∧e 8=u3∧RV g.m w (i5.1:List Int) u3∧e 20=j6∧RV g.m w (x6.1:List Int) j6∧e 21=.int .i64 (x6.2)∧e 22=.bool (dB)∧e 23=.int .i64 (o0)∧e 234=.bool (jA)) (fun Q' hQ=>?_) (fun eX dZ hR=>?_)
           ·replace h := hx
            clear hx
            rcases Zt h with ⟨l8,h⟩ | ⟨l8,h⟩
            ·obtain ⟨tD, rI, h⟩ := bsome h
             have tS:=PT_idx m8 rI
             refine Zs (x:=.tmp 226) Try.isAgg3 Try.sizeOf3 tS fun mZ uS kQ=>?_
             obtain rfl:=Zj.1 uS
             obtain ⟨uD,sI,h⟩:=bsome h
             have vS:=PT_idx m8 sI
             refine Zs (x:=.tmp 231) Try.isAgg3 Try.sizeOf3 vS fun nZ xS lQ=>?_
             obtain rfl:=Zj.1 xS
             refine E_drawL (g:=lL) (n:=14) [] [0,1,2,3,4,5,6,7,8,9,10,11,12,13] rfl mixed (by kernel_rfl) trivial ?_
             refine L_p (.int .i64 (o0)) rfl rfl (Zk gA) ?_
             refine L_p (.bool ((decide (o0 > (0:Int))))) rfl rfl (P_int rfl rfl rfl) ?_
             refine L_p (.bool ((decide (o0 > (0:Int))))) rfl rfl (Zk rfl) ?_
             refine L_y j6 rfl rfl rfl rfl l8 (Zk eC) ?_
             refine L_y (.int .i64 (o0)) rfl rfl rfl rfl l8 (Zk gA) ?_
             refine L_y (ePtr j6 o0 1) rfl rfl rfl rfl l8 (Zh (α:=Int) Try.underlying22 Try.sizeOf3 rfl m8 rfl rI) ?_
             refine L_ld (c:=.int .i64 (tD)) rfl rfl (.yes2 rfl rfl l8) (fun _ _ h=>h.ch) kQ rfl ?_
             refine L_y j6 rfl rfl rfl rfl l8 (Zk eC) ?_
             refine L_y (.int .i64 (o0)) rfl rfl rfl rfl l8 (Zk gA) ?_
             refine L_y (.int .i64 ((w64 (o0 - (1:Int))))) rfl rfl rfl rfl l8 (P_int rfl rfl rfl) ?_
             refine L_y (ePtr j6 (w64 (o0 - (1:Int))) 1) rfl rfl rfl rfl l8 (Zh (α:=Int) Try.underlying22 Try.sizeOf3 rfl m8 rfl sI) ?_
             refine L_ld (c:=.int .i64 (uD)) rfl rfl (.yes2 rfl rfl l8) (fun _ _ h=>h.ch) lQ rfl ?_
             refine L_y (.bool ((decide (tD ≤ uD)))) rfl rfl rfl rfl l8 (P_int rfl rfl rfl) ?_
             refine L_p (.bool ((decide (tD ≤ uD)))) rfl rfl (Zl (b:=(decide (o0 > (0:Int)))) rfl (pick_t l8 rfl)) ?_
             refine L_nl fun yS oZ hs=>?_
             have hfr:=hfr.ext hs
             have yA:=yA.ext hs
             have m8:=m8.ext hs
             clear hs
             refine Zb ?_
             obtain rfl:=sinj h
             exact hQ _ _ ⟨yS,hfr,uG,yA,eC,m8,bG,cG,gA,rfl⟩
            ·refine E_drawL (g := lL) (n := 14) [] [0, 1, 2, 3, 4, 5, 6, 7, 8, 9, 10, 11, 12, 13] rfl mixed (by kernel_rfl) trivial ?_
             refine L_p (.int .i64 (o0)) rfl rfl (Zk gA) ?_
             refine L_p (.bool ((decide (o0 > (0:Int))))) rfl rfl (P_int rfl rfl rfl) ?_
             refine L_p (.bool ((decide (o0 > (0:Int))))) rfl rfl (Zk rfl) ?_
             iterate 10 refine L_s rfl rfl rfl l8 rfl ?_
             refine L_p (.bool false) rfl rfl (Zl (b:=(decide (o0 > (0:Int)))) rfl (pick_f l8 rfl)) ?_
             refine L_nl fun zS pZ hs=>?_
             have hfr:=hfr.ext hs
             have yA:=yA.ext hs
             have m8:=m8.ext hs
             clear hs
             refine Zb ?_
             obtain rfl:=sinj h
             exact hQ _ _ ⟨zS,hfr,uG,yA,eC,m8,bG,cG,gA,rfl⟩
           ·clear hx
            obtain ⟨eT,hfr,zM,bN,kJ,lJ,mJ,nJ,oJ,iE⟩:=hR
            rcases Zt h with ⟨dG,h⟩ | ⟨dG,h⟩
            ·refine E_cond_true (Eq.trans (show ev _ _ = .bool (jA) from iE) (congrArg Value.bool dG)) ?_
             refine Zf (Za (Zg (.bool false) rfl rfl ?_))
             refine Zb (Zd (E_ret (blk_r ?_)))
             refine thn_r ?_
             refine thn_r ?_
             refine blk_r ?_
             refine thn_r ?_
             refine thn_r ?_
             obtain rfl:=sinj h
             exact end1 rfl rfl (show _=.bool false from rfl) ⟨_,hfr,rfl⟩
            ·refine E_cond_false (Eq.trans (show ev _ _ = .bool (jA) from iE) (congrArg Value.bool dG)) ?_
             exact Zu (blk_n (Zd (gQ (dB) _ _ ⟨eT,hfr,zM,bN,kJ,lJ,mJ,nJ,oJ⟩ h)))
         ·rintro jD gX qZ ⟨lT, hfr, cN, dN, pJ, qJ, rJ, sJ, tJ⟩ h
          refine Za (Zo tJ rfl ?_)
          refine EL_in (.int .i64 ((w64 (o0 + (1:Int))))) rfl rfl rfl rfl ?_
          refine Zg (.int .i64 ((w64 (o0 + (1:Int))))) rfl rfl ?_
          exact Zb (Zd (dQ (jD,(w64 (o0 + (1:Int)))) _ _ ⟨lT,hfr,cN,dN,pJ,qJ,rJ,sJ,rfl⟩ h))
       ·rintro aB iX rZ ⟨mL, hfr, uJ, vJ⟩ h
        obtain ⟨iA,hx,h⟩:=bsome h
        refine E_join (fun e w=>∃ (g:Gh) ,Fr gI wI g w∧e 240=.bool (iA)) (fun Q' hQ=>?_) (fun jX sZ hR=>?_)
        ·replace h := hx
         clear hx
         refine Za (Zo uJ rfl ?_)
         refine EL_in (.bool ((x6.2 != (0:Int)))) rfl rfl rfl rfl ?_
         refine Zn (.bool ((x6.2 != (0:Int)))) rfl rfl ?_
         rcases Zt h with ⟨mB,h⟩ | ⟨mB,h⟩
         ·refine EL_s rfl rfl mB rfl rfl ?_
          refine EL_s rfl rfl mB rfl rfl ?_
          refine EL_p (.bool true) (Zl (b:=(x6.2 != (0:Int))) rfl (pick_t mB rfl)) rfl ?_
          refine Zb ?_
          obtain rfl:=sinj h
          exact hQ _ _ ⟨mL,hfr,rfl⟩
         ·refine EL_y (.bool (aB)) (Zk vJ) rfl rfl mB rfl ?_
          refine EL_y (.bool (!aB)) (P_not rfl) rfl rfl mB rfl ?_
          refine EL_p (.bool (!aB)) (Zl (b:=(x6.2 != (0:Int))) rfl (pick_f mB rfl)) rfl ?_
          refine Zb ?_
          obtain rfl:=sinj h
          exact hQ _ _ ⟨mL,hfr,rfl⟩
        ·clear hx
         obtain ⟨mT,hfr,jE⟩:=hR
         rcases Zt h with ⟨eG,h⟩ | ⟨eG,h⟩
         ·refine E_cond_true (Eq.trans (show ev _ _ = .bool (iA) from jE) (congrArg Value.bool eG)) ?_
          refine Zf (Za (Zg (.bool false) rfl rfl ?_))
          refine Zb (Zd (E_ret (thn_r ?_)))
          obtain rfl:=sinj h
          exact end1 rfl rfl (show _=.bool false from rfl) ⟨_,hfr,rfl⟩
         ·refine E_cond_false (Eq.trans (show ev _ _ = .bool (iA) from jE) (congrArg Value.bool eG)) ?_
          exact Zu (Zd (nI () _ _ ⟨mT,hfr⟩ h))
      ·refine E_cf rF rfl ?_
       exact Zu (Zd (nI () _ _ ⟨sH,hfr⟩ h))
     ·rintro _ kX tZ ⟨nT, hfr⟩ h
      refine Zf (Za ?_)
      obtain ⟨kE,mQ,h⟩:=bsome h
      refine Ze .plain rfl (Zp (g:=nT) (vs:=[]) en14 .nil (wk14  mQ) fun uZ lX vZ hs hr=>?_)
      have hfr:=hfr.ext hs
      subst hr
      refine Zg (.bool (kE)) rfl rfl ?_
      refine Zb (Zd (E_ret ?_))
      obtain rfl:=sinj h
      exact end1 rfl rfl (show _=.bool (kE) from rfl) ⟨_,hfr,rfl⟩
end Go.Proofs.Ytmpjooneiaiffaa
