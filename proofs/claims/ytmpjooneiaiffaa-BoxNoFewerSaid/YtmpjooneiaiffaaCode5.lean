import Derived.Test.YtmpjooneiaiffaaCode4
set_option maxRecDepth 8000
set_option maxHeartbeats 4000000
namespace Go.Proofs.Ytmpjooneiaiffaa
open Go.RowKit
theorem W78 {iO:Nat} {gI:Gh} {wI:World} {x0:List Int} {up0:Value} (rp0:RV gI.m wI x0 up0) {r:List Int} (h:f78 x0=some r):FnG Try.prog 78 #[up0] gI wI (fun g w v=>OWx (Ow.list 3 (Ow.sh Int)) iO g w r v):=by
 unfold f78 at h
 refine fnG_of_E Try.func78 rfl (Nat.le_of_ble_eq_true rfl) fun g0 hm hfr=>?_
 have rp0:RV g0.m wI x0 up0:=hm ▸ rp0
 show E _ 8 none _ _ _ _ _
 refine Zf (Za (Zg (.slice none 0 0) rfl rfl (Zb (Zd ?_))))
 refine Zf (Zf (Za (Zn up0 rfl rfl ?_)))
 obtain ⟨a,c,hv,hc,hrow⟩:=RV_list rp0
 refine EL_p (.bool a.isNone) (P_slnil Try.underlying22 (show ev _ _=_ from hv)) rfl (Zb (Zd ?_))
 cases a with
 | none=>
  have hx:x0=[]:=by
   cases x0 with
   | nil=>rfl
   | cons y ys=>obtain ⟨b,off,hb,_⟩:=hrow (by simp); cases hb
  subst hx
  have hr:r=[]:=by unfold apnd at h; split at h <;> simp at h; exact h
  subst hr
  refine E_cond_true rfl (Zf (Za ?_))
  refine Zg (.slice none 0 0) rfl rfl (Zb (Zd ?_))
  obtain ⟨sk,ow,ok⟩:=OA.toW (OA.nil:OA 1 g0 wI 3 ([]:List Int) (.slice none 0 0))
  obtain ⟨gh,hxh,_,homh⟩:=OW.hand (i:=iO) hfr ow ok; exact E_ret (thn_r (end1 rfl rfl (show _=.slice none 0 0 from rfl) ⟨gh,hxh,homh⟩))
 | some a=>
  refine E_cond_false rfl (Zu (Zd ?_))
  refine Zf (Za (Ze .plain rfl (D_buildSlice (g:=g0) 1 (xs:=([]:List Int)) (vs:=[]) Try.underlying22 Try.sizeOf3 Try.zeroValue3 rfl rfl .nil RVs.nil rfl rfl fun g1 w1 v1 hs o1 r1 hxt hfl=>?_)))
  have hfr:=hfr.stp hs
  have rp0:=rp0.stp hs
  refine Zn up0 rfl rfl ?_
  refine Ze .plain rfl (D_appendE (g:=g1) plain_int (i:=1) Try.underlying22 info_3 rfl rfl o1 hfl rfl rp0 h fun g2 w2 v2 hs b2=>?_)
  have hfr:=hfr.ext hs
  refine Zg v2 rfl rfl (Zb (Zd ?_))
  obtain ⟨sk,ow,ok⟩:=OA.toW b2
  obtain ⟨gh,hxh,_,homh⟩:=OW.hand (i:=iO) hfr ow ok; exact E_ret (end1 rfl rfl (show _=v2 from rfl) ⟨gh,hxh,homh⟩)
theorem W15 {iO:Nat} {gI:Gh} {wI:World} {x0:BoxLoom} {up0:Value} (rp0:RV gI.m wI x0 up0) {r:BoxLoom} (h:f15 x0=some r):FnG Try.prog 15 #[up0] gI wI (fun g w v=>OWx ow_BoxLoom iO g w r v):=by
 unfold f15 at h
 refine fnG_of_E Try.func15 rfl (Nat.le_of_ble_eq_true rfl) fun g0 hm hfr=>?_
 have rp0:RV g0.m wI x0 up0:=hm ▸ rp0
 show E _ 5 none _ _ _ _ _
 refine Zf (Za (Ze .plain rfl (D_box (g:=g0) rfl rp0 fun g1 w1 p1 hs q1=>?_)))
 have hfr:=hfr.ext hs
 refine Ze .plain rfl (D_allocOc (g:=g1) 2002 (⟨[],[],[]⟩:BoxLoom) Try.zeroValue25 (fun m w=>⟨_,(rep_two rep_nil (rep_two rep_nil rep_nil)),rfl⟩) fun g2 w2 p2 hs b2 cb=>?_)
 have hfr:=hfr.stp hs
 have q1:=q1.stp hs
 have o0:OSF 2002 60200 0 g2 w2 3 25 ([]:List Int) p2:=cb.osf (by rfl)
 have i3:OSF 2002 60201 1 g2 w2 3 25 ([]:List Int) p2:=cb.osf (by rfl)
 have u3:OSF 2002 60202 2 g2 w2 87 25 ([]:List BoxShuttle) p2:=cb.osf (by rfl)
 clear cb
 refine Zb (Zd (Zf (Za (Ze .plain rfl (D_load (g:=g2) Try.isAgg25 Try.sizeOf25 rfl q1 fun v3 r3=>?_)))))
 obtain ⟨y5,hy5,h⟩:=bsome h
 refine Ze .plain rfl (D_callG (g:=g2) (vs:=[v3]) en50 (.cons rfl .nil) (W50 (iO:=4004) r3 hy5) fun g4 w4 v4 hs hm4=>?_)
 have hfr:=hfr.ext hs
 have b2:=b2.ext hs
 obtain ⟨sk4,ow4,ok4⟩:=hm4
 refine Ze .plain rfl (D_storeOW (g:=g4) Try.sizeOf25 rfl b2 rfl ow4 rfl fun gj6 g6 w6 bk6 hsa hsb hpp b6=>?_)
 have hfr:=hfr.stp hsa
 have hfr:=hfr.stp hsb
 clear hsa hsb
 subst hpp
 refine Zb (Zd (E_ret ?_))
 obtain rfl:=sinj h
 obtain ⟨v7,hl7,ow7⟩:=OV.read (t:=25) Try.isAgg25 Try.sizeOf25 b6 rfl
 obtain ⟨gh,hxh,_,homh⟩:=OW.hand (i:=iO) hfr ow7 ok4
 exact endm_c rfl rfl (show _=(Value.pointer (some ⟨bk6,0,none⟩)) from rfl) hl7 ⟨gh,hxh,homh⟩
theorem W79 {iO:Nat} {gI:Gh} {wI:World} {x0:List BoxShuttle} {up0:Value} (rp0:RV gI.m wI x0 up0) {r:List BoxShuttle} (h:f79 x0=some r):FnG Try.prog 79 #[up0] gI wI (fun g w v=>OWx (Ow.list 87 (Ow.sh BoxShuttle)) iO g w r v):=by
 unfold f79 at h
 refine fnG_of_E Try.func79 rfl (Nat.le_of_ble_eq_true rfl) fun g0 hm hfr=>?_
 have rp0:RV g0.m wI x0 up0:=hm ▸ rp0
 show E _ 8 none _ _ _ _ _
 refine Zf (Za (Zg (.slice none 0 0) rfl rfl (Zb (Zd ?_))))
 refine Zf (Zf (Za (Zn up0 rfl rfl ?_)))
 obtain ⟨a,c,hv,hc,hrow⟩:=RV_list rp0
 refine EL_p (.bool a.isNone) (P_slnil Try.underlying23 (show ev _ _=_ from hv)) rfl (Zb (Zd ?_))
 cases a with
 | none=>
  have hx:x0=[]:=by
   cases x0 with
   | nil=>rfl
   | cons y ys=>obtain ⟨b,off,hb,_⟩:=hrow (by simp); cases hb
  subst hx
  have hr:r=[]:=by unfold apnd at h; split at h <;> simp at h; exact h
  subst hr
  refine E_cond_true rfl (Zf (Za ?_))
  refine Zg (.slice none 0 0) rfl rfl (Zb (Zd ?_))
  obtain ⟨sk,ow,ok⟩:=OA.toW (OA.nil:OA 1 g0 wI 87 ([]:List BoxShuttle) (.slice none 0 0))
  obtain ⟨gh,hxh,_,homh⟩:=OW.hand (i:=iO) hfr ow ok; exact E_ret (thn_r (end1 rfl rfl (show _=.slice none 0 0 from rfl) ⟨gh,hxh,homh⟩))
 | some a=>
  refine E_cond_false rfl (Zu (Zd ?_))
  refine Zf (Za (Ze .plain rfl (D_buildSlice (g:=g0) 1 (xs:=([]:List BoxShuttle)) (vs:=[]) Try.underlying23 Try.sizeOf87 Try.zeroValue87 rfl rfl .nil RVs.nil rfl rfl fun g1 w1 v1 hs o1 r1 hxt hfl=>?_)))
  have hfr:=hfr.stp hs
  have rp0:=rp0.stp hs
  refine Zn up0 rfl rfl ?_
  refine Ze .plain rfl (D_appendE (g:=g1) plain_BoxShuttle (i:=1) Try.underlying23 info_87 rfl rfl o1 hfl rfl rp0 h fun g2 w2 v2 hs b2=>?_)
  have hfr:=hfr.ext hs
  refine Zg v2 rfl rfl (Zb (Zd ?_))
  obtain ⟨sk,ow,ok⟩:=OA.toW b2
  obtain ⟨gh,hxh,_,homh⟩:=OW.hand (i:=iO) hfr ow ok; exact E_ret (end1 rfl rfl (show _=v2 from rfl) ⟨gh,hxh,homh⟩)
def f40 (x0:BoxLoom) (x1:List BoxPick):Option ((List Int) × BoxLoom × Int × Int × Int):=
 (f70 x0 x1).bind fun y5=>
 jn (σ:=(List Int) × BoxLoom) (fun (nE,y6)=>
  Option.bind (α:=(List Int)) (
   lp (σ:=(List Int) × Int) (fun gG (aC,j6)=>
    bif (decide (j6 < (((y5.2.1).thrown).length : Int))) then
     Option.bind (α:=(List Int)) (
      (idx ((y5.2.1).thrown) j6).bind fun mA=>
      (idx (((y5.1).BoxLoom).Shuttles) (w64 (mA - (1:Int)))).bind fun y125=>
      (apnd 8 aC (([(y125).Colour]:List Int))).bind fun hG=>
      some (hG)
      ) fun y9=>
     gG (y9,(w64 (j6 + (1:Int))))
    else
     some (aC)
    ) big (nE,(0:Int))
   ) fun i6=>
  (f78 (((y5.1).BoxLoom).Boxes)).bind fun pA=>
  (f79 (((y5.1).BoxLoom).Shuttles)).bind fun qA=>
  Option.bind (α:=BoxLoom) (
   lp (σ:=BoxLoom × Int) (fun iG (cC,i3)=>
    bif (decide (i3 < (2 : Int))) then
     Option.bind (α:=BoxLoom) (
      (idx (((y5.2.1).last).boxes).toList i3).bind fun kD=>
      lp (σ:=BoxLoom × Int) (fun jG (o0,x5)=>
       bif (decide (x5 < (4 : Int))) then
        Option.bind (α:=BoxLoom) (
         (idx (kD).toList x5).bind fun l5=>
         bif (decide (l5 > (0 : Int))) then
          (idx ((o0).Shuttles) ((w64 (l5 - (1:Int))))).bind fun a7=>
          (idx ((({ o0 with Shuttles:=(List.set ((o0).Shuttles) (Int.toNat ((w64 (l5 - (1:Int))))) ({ a7 with Side:=i3 }:BoxShuttle)) }:BoxLoom)).Shuttles) ((w64 (l5 - (1:Int))))).bind fun lD=>
          some (({ (({ o0 with Shuttles:=(List.set ((o0).Shuttles) (Int.toNat ((w64 (l5 - (1:Int))))) ({ a7 with Side:=i3 }:BoxShuttle)) }:BoxLoom)) with Shuttles:=(List.set ((({ o0 with Shuttles:=(List.set ((o0).Shuttles) (Int.toNat ((w64 (l5 - (1:Int))))) ({ a7 with Side:=i3 }:BoxShuttle)) }:BoxLoom)).Shuttles) (Int.toNat ((w64 (l5 - (1:Int))))) ({ lD with Box:=x5 }:BoxShuttle)) }:BoxLoom))
         else
          some (o0)
         ) fun yA=>
        jG (yA,(w64 (x5 + (1:Int))))
       else
        some (o0)
       ) big (cC,(0:Int))
      ) fun aB=>
     iG (aB,(w64 (i3 + (1:Int))))
    else
     some (cC)
    ) big ((⟨pA,([(((y5.2.1).last).at_).Left,(((y5.2.1).last).at_).Right]:List Int),qA⟩:BoxLoom),(0:Int))
   ) fun eC=>
  some (i6,eC,(y5.2.1).moves,(0:Int),(0:Int))
  ) fun cJ=>
 bif (y5.2.2.2 != (0 : Int)) then
  some ([],(⟨[],[],[]⟩:BoxLoom),(0:Int),y5.2.2.1,y5.2.2.2)
 else
  cJ ([],(⟨[],[],[]⟩:BoxLoom))
theorem en40:Enters Try.prog 40:=enters_of Try.func40 (by kernel_rfl) rfl
theorem wk40 {gI:Gh} {wI:World} {x0:BoxLoom} {x1:List BoxPick} {up0:Value} (rp0:RV gI.m wI x0 up0) {up1:Value} (rp1:RV gI.m wI x1 up1) {r:(List Int) × BoxLoom × Int × Int × Int} (h:f40 x0 x1=some r):Fn Try.prog 40 #[up0,up1] gI wI (fun m w v=>∃ y0 y1 y2 y3 y4,v=.tuple #[y0,y1,y2,y3,y4]∧RV m w (r.1) y0∧RV m w (r.2.1) y1∧y2=.int .i64 (r.2.2.1)∧y3=.int .i64 (r.2.2.2.1)∧y4=.int .i64 (r.2.2.2.2)):=by
 unfold f40 at h
 refine fn_of_E Try.func40 rfl (Nat.le_of_ble_eq_true rfl) fun g0 hm hfr=>?_
 have rp0:RV g0.m wI x0 up0:=hm ▸ rp0
 have rp1:RV g0.m wI x1 up1:=hm ▸ rp1
 show E _ 101 none _ _ _ _ _
 refine Zf (Za (Ze .plain rfl (D_box (g:=g0) rfl rp0 fun g1 w1 p1 hs q1=>?_)))
 have hfr:=hfr.ext hs
 have rp1:=rp1.ext hs
 refine Zg (.slice none 0 0) rfl rfl ?_
 refine Ze .plain rfl (D_allocOc (g:=g1) 2005 (⟨[],[],[]⟩:BoxLoom) Try.zeroValue25 (fun m w=>⟨_,(rep_two rep_nil (rep_two rep_nil rep_nil)),rfl⟩) fun g2 w2 p2 hs b2 cb=>?_)
 have hfr:=hfr.stp hs
 have rp1:=rp1.stp hs
 have q1:=q1.stp hs
 have n8:OSF 2005 60500 0 g2 w2 3 25 ([]:List Int) p2:=cb.osf (by rfl)
 have q8:OSF 2005 60501 1 g2 w2 3 25 ([]:List Int) p2:=cb.osf (by rfl)
 have r8:OSF 2005 60502 2 g2 w2 87 25 ([]:List BoxShuttle) p2:=cb.osf (by rfl)
 clear cb
 iterate 3 refine Zg (.int .i64 (0)) rfl rfl ?_
 refine Zb (Zd (Zf (Za (Ze .plain rfl (D_load (g:=g2) Try.isAgg25 Try.sizeOf25 rfl q1 fun v3 r3=>?_)))))
 refine Zn up1 rfl rfl ?_
 obtain ⟨y5,hy5,h⟩:=bsome h
 refine Ze .plain rfl (Zp (g:=g2) (vs:=[v3,up1]) en70 (.cons rfl (.cons rfl .nil)) (wk70 r3 rp1 hy5) fun g4 w4_ v4 hs hr=>?_)
 have hfr:=hfr.ext hs
 have n8:=n8.ext hs
 have q8:=q8.ext hs
 have r8:=r8.ext hs
 have b2:=b2.ext hs
 obtain ⟨eE,gE,lL,mL,rfl,iC,rA,rfl,rfl⟩:=hr
 refine Zn (.tuple #[eE,gE,.int .i64 (y5.2.2.1),.int .i64 (y5.2.2.2)]) rfl rfl ?_
 refine EL_p eE (Zi rfl rfl) rfl ?_
 refine EL_p gE (Zi rfl rfl) rfl ?_
 refine EL_p (.int .i64 (y5.2.2.1)) (Zi rfl rfl) rfl ?_
 refine EL_p (.int .i64 (y5.2.2.2)) (Zi rfl rfl) rfl ?_
 refine Ze .plain rfl (D_allocOc (g:=g4) 2009 (⟨⟨[],[],[]⟩⟩:BoxBoxLoom) Try.zeroValue102 (fun m w=>⟨_,(rep_two rep_nil (rep_two rep_nil rep_nil)),rfl⟩) fun g6 w6 p6 hs b6 cb=>?_)
 have hfr:=hfr.stp hs
 have n8:=n8.stp hs rfl
 have q8:=q8.stp hs rfl
 have r8:=r8.stp hs rfl
 have b2:=b2.stp hs rfl
 have iC:=iC.stp hs
 have rA:=rA.stp hs
 have nL:OSF 2009 60900 0 g6 w6 3 102 ([]:List Int) p6:=cb.osf (by rfl)
 have oL:OSF 2009 60901 1 g6 w6 3 102 ([]:List Int) p6:=cb.osf (by rfl)
 have pL:OSF 2009 60902 2 g6 w6 87 102 ([]:List BoxShuttle) p6:=cb.osf (by rfl)
 clear cb
 refine Ze .plain rfl (D_allocOc (g:=g6) 2010 (⟨[],⟨(⟨List.toArray [(⟨List.toArray [0,0,0,0],rfl⟩:Vector Int 4),(⟨List.toArray [0,0,0,0],rfl⟩:Vector Int 4)],rfl⟩:Vector (Vector Int 4) 2),⟨0,0⟩⟩,0⟩:BoxRun) Try.zeroValue129 (fun m w=>⟨_,(rep_two rep_nil (rep_two (rep_two (rep_vec (flat_chunk (rep_vec (flat_chunk rep_int (flat_chunk rep_int (flat_chunk rep_int (flat_chunk rep_int flat_nil)))) rfl) (flat_chunk (rep_vec (flat_chunk rep_int (flat_chunk rep_int (flat_chunk rep_int (flat_chunk rep_int flat_nil)))) rfl) flat_nil)) rfl) (rep_two rep_int rep_int)) rep_int)),rfl⟩) fun g7 w7 p7 hs b7 cb=>?_)
 have hfr:=hfr.stp hs
 have n8:=n8.stp hs rfl
 have q8:=q8.stp hs rfl
 have r8:=r8.stp hs rfl
 have b2:=b2.stp hs rfl
 have iC:=iC.stp hs
 have rA:=rA.stp hs
 have b6:=b6.stp hs rfl
 have qL:OSF 2010 61000 0 g7 w7 3 129 ([]:List Int) p7:=cb.osf (by rfl)
 clear cb
 refine Ze .plain rfl (D_storeOc (g:=g7) (v:=eE) Try.sizeOf102 rfl b6 rfl iC fun g8 w8 hs b8 cb=>?_)
 clear cb
 have hfr:=hfr.stp hs
 have n8:=n8.stp hs rfl
 have q8:=q8.stp hs rfl
 have r8:=r8.stp hs rfl
 have b2:=b2.stp hs rfl
 have rA:=rA.stp hs
 have b7:=b7.stp hs rfl
 refine Ze .plain rfl (D_storeOc (g:=g8) (v:=gE) Try.sizeOf129 rfl b7 rfl rA fun g9 w9 hs b9 cb=>?_)
 clear cb
 have hfr:=hfr.stp hs
 have n8:=n8.stp hs rfl
 have q8:=q8.stp hs rfl
 have r8:=r8.stp hs rfl
 have b2:=b2.stp hs rfl
 have b8:=b8.stp hs rfl
 refine Zg (.int .i64 (y5.2.2.1)) rfl rfl ?_
 refine Zg (.int .i64 (y5.2.2.2)) rfl rfl ?_
 refine Zb (Zd (Zq h (fun (s:(List Int) × BoxLoom) e w=>∃ (g:Gh) (v4:Value),Fr gI wI g w∧e 4=v4∧RV g.m w (s.1:List Int) v4∧OS 1004 g w 3 (s.1:List Int) v4∧e 5=p2∧OB 2005 g w 25 (s.2:BoxLoom) p2∧OSF 2005 60500 0 g w 3 25 ((s.2).Boxes) p2∧OSF 2005 60501 1 g w 3 25 ((s.2).At) p2∧OSF 2005 60502 2 g w 87 25 ((s.2).Shuttles) p2∧e 9=p6∧OB 2009 g w 102 (y5.1:BoxBoxLoom) p6∧e 10=p7∧OB 2010 g w 129 (y5.2.1:BoxRun) p7) (fun X38 cJ eJ h=>?_) ?_))
 ·refine Zf (Za (Zn (.int .i64 (y5.2.2.2)) rfl rfl ?_))
  refine EL_in (.bool ((y5.2.2.2 != (0:Int)))) rfl rfl rfl rfl ?_
  refine Zb (Zd ?_)
  rcases Zt h with ⟨iE,h⟩ | ⟨iE,h⟩
  ·refine E_ct iE rfl ?_
   refine Zf (L_selfO Try.isAgg25 Try.sizeOf25 rfl b2 fun yK gJ iJ=>?_)
   refine E_drawL (g:=g9) (n:=8) [(4,(fun _ _ _=>True))] [0,1,2,3,4,5,6,7] rfl mixed (by kernel_rfl) (⟨fun _=>(fun _ _ _ _ _ _=>trivial),trivial⟩) ?_
   refine L_ld (c:=yK) rfl rfl .plain (fun _ _ h=>⟨h.ch,fun b hb _=>h.below.block b hb⟩) (gJ _) rfl ?_
   refine L_p (.int .i64 (y5.2.2.1)) rfl rfl (Zk rfl) ?_
   refine L_p (.int .i64 (y5.2.2.2)) rfl rfl (Zk rfl) ?_
   refine L_p (.slice none 0 0) rfl rfl (P_assign rfl) ?_
   refine L_do (φ:=fun _ _ _=>True) rfl rfl .plain (fun g w hd=>iJ _ _ _ g w ⟨hd.1.ch,fun b hb _=>hd.1.below.block b hb⟩ rfl rfl) (fun yM hv=>?_)
   clear hv
   refine L_p (.int .i64 (0)) rfl rfl (P_assign rfl) ?_
   refine L_p (.int .i64 (y5.2.2.1)) rfl rfl (P_assign rfl) ?_
   refine L_p (.int .i64 (y5.2.2.2)) rfl rfl (P_assign rfl) ?_
   refine L_nl fun zM bN hs=>?_
   have hfr:=hfr.ext hs
   have b2:=b2.ext hs
   clear hs
   refine Zb (Zd (E_ret (thn_r ?_)))
   obtain rfl:=sinj h
   obtain ⟨ad67,cv67,hp67,jJ,cr67⟩:=ob_read Try.isAgg25 Try.sizeOf25 b2
   exact endm_tcttt rfl rfl (show _=.slice none 0 0 from rfl) ((show _=p2 from rfl).trans hp67) jJ (show _=.int .i64 (0) from rfl) (show _=.int .i64 (y5.2.2.1) from rfl) (show _=.int .i64 (y5.2.2.2) from rfl) ⟨_,hfr,_,_,_,_,_,rfl,RV_nil,cr67,rfl,rfl,rfl⟩
  ·refine E_cf iE rfl ?_
   exact Zu (Zd (eJ ([],(⟨[],[],[]⟩:BoxLoom)) _ _ ⟨g9,(.slice none 0 0),hfr,rfl,RV_nil,OS.nil,rfl,b2,n8,q8,r8,rfl,b8,rfl,b9⟩ h))
 ·rintro ⟨nE, y6⟩ rL cN ⟨dJ, zH, hfr, aI, bI, cI, dI, iI, u5_0_68, u5_1_68, u5_2_68, jI, kI, xD, lC⟩ h
  obtain ⟨i6,hx,h⟩:=bsome h
  refine E_join (fun e w=>∃ (g:Gh) (v4:Value),Fr gI wI g w∧e 4=v4∧RV g.m w (i6:List Int) v4∧OS 1004 g w 3 (i6:List Int) v4∧e 5=p2∧OB 2005 g w 25 (y6:BoxLoom) p2∧OSF 2005 60500 0 g w 3 25 ((y6).Boxes) p2∧OSF 2005 60501 1 g w 3 25 ((y6).At) p2∧OSF 2005 60502 2 g w 87 25 ((y6).Shuttles) p2∧e 9=p6∧OB 2009 g w 102 (y5.1:BoxBoxLoom) p6∧e 10=p7∧OB 2010 g w 129 (y5.2.1:BoxRun) p7) (fun Q' hQ=>?_) (fun aL tL hR=>?_)
  ·replace h := hx
   clear hx
   refine Zf (Za (EL_p (fPtr p7 0) (Zc at_129_0 xD (OB.ptr lC)) rfl ?_))
   refine Ze .plain rfl (D_loadF (g:=dJ) part_BoxRun_0.1 Try.isAgg22 Try.sizeOf22 rfl lC fun mC kG=>?_)
   refine EL_p (.int .i64 (((y5.2.1).thrown).length:Int)) (P_len Try.underlying22 rfl kG) rfl ?_
   refine Zn (.int .i64 (0)) rfl rfl ?_
   refine Zb (Zd (Zr ?_))
   refine E_lp h (fun (s:(List Int) × Int) e w=>∃ (g:Gh) (v4:Value),Fr gI wI g w∧e 4=v4∧RV g.m w (s.1:List Int) v4∧OS 1004 g w 3 (s.1:List Int) v4∧e 5=p2∧OB 2005 g w 25 (y6:BoxLoom) p2∧OSF 2005 60500 0 g w 3 25 ((y6).Boxes) p2∧OSF 2005 60501 1 g w 3 25 ((y6).At) p2∧OSF 2005 60502 2 g w 87 25 ((y6).Shuttles) p2∧e 9=p6∧OB 2009 g w 102 (y5.1:BoxBoxLoom) p6∧e 10=p7∧OB 2010 g w 129 (y5.2.1:BoxRun) p7∧e 31=mC∧RV g.m w ((y5.2.1).thrown:List Int) mC∧e 32=.int .i64 ((((y5.2.1).thrown).length:Int))∧e 33=.int .i64 (s.2)) ⟨dJ,(zH),hfr,aI,bI,cI,dI,iI,u5_0_68,u5_1_68,u5_2_68,jI,kI,xD,lC,rfl,kG,rfl,rfl⟩ (fun X103 gG lI=>?_)
   rintro ⟨aC,j6⟩ bL uL ⟨qC,lG,hfr,yD,dB,iB,zD,a9,u5_0_104,u5_1_104,u5_2_104,rC,i7,aD,k8,bD,j7,cD,mB⟩ h
   refine Zf (Za (EL_p (.bool ((decide (j6 < (((y5.2.1).thrown).length:Int))))) (P_int mB cD rfl) rfl ?_))
   refine Zb (Zd (Zf ?_))
   rcases Zt h with ⟨mD,h⟩ | ⟨mD,h⟩
   ·refine E_ct mD rfl ?_
    refine Zu (Zd ?_)
    obtain ⟨y9,hx,h⟩:=bsome h
    refine E_join (fun e w=>∃ (g:Gh) (v4:Value),Fr gI wI g w∧e 4=v4∧RV g.m w (y9:List Int) v4∧OS 1004 g w 3 (y9:List Int) v4∧e 5=p2∧OB 2005 g w 25 (y6:BoxLoom) p2∧OSF 2005 60500 0 g w 3 25 ((y6).Boxes) p2∧OSF 2005 60501 1 g w 3 25 ((y6).At) p2∧OSF 2005 60502 2 g w 87 25 ((y6).Shuttles) p2∧e 9=p6∧OB 2009 g w 102 (y5.1:BoxBoxLoom) p6∧e 10=p7∧OB 2010 g w 129 (y5.2.1:BoxRun) p7∧e 31=mC∧RV g.m w ((y5.2.1).thrown:List Int) mC∧e 32=.int .i64 ((((y5.2.1).thrown).length:Int))∧e 33=.int .i64 (j6)) (fun Q' hQ=>?_) (fun cL vL hR=>?_)
    ·replace h := hx
     clear hx
     refine Zr ?_
     refine Zf (Za ?_)
     obtain ⟨mA,oE,h⟩:=bsome h
     refine EL_p (ePtr mC j6 1) (Zh (α:=Int) Try.underlying22 Try.sizeOf3 bD j7 mB oE) rfl ?_
     have kJ:=PT_idx j7 oE
     refine Ze .plain rfl (D_load (g:=qC) Try.isAgg3 Try.sizeOf3 rfl kJ fun xL lJ=>?_)
     obtain rfl:=Zj.1 lJ
     refine Zg (.int .i64 (mA)) rfl rfl ?_
     refine Zb (Zd (Za (Zo yD rfl ?_)))
     refine EL_p (fPtr p6 0) (Zc at_102_0 rC (OB.ptr i7)) rfl ?_
     refine EL_p (fPtr p6 2) (P_fieldAddr2 (o1:=0) rfl at_25_2 rfl (OB.ptr i7)) rfl ?_
     refine Ze .plain rfl (D_loadF (g:=qC) (SubS.comp part_BoxBoxLoom_0 part_BoxLoom_2 rfl).1 Try.isAgg23 Try.sizeOf23 rfl i7 fun mG nG=>?_)
     refine Zn (.int .i64 (mA)) rfl rfl ?_
     refine EL_in (.int .i64 ((w64 (mA - (1:Int))))) rfl rfl rfl rfl ?_
     obtain ⟨y125,rE,h⟩:=bsome h
     refine EL_p (ePtr mG (w64 (mA - (1:Int))) 5) (Zh (α:=BoxShuttle) Try.underlying23 Try.sizeOf87 rfl nG rfl rE) rfl ?_
     have oG:=PT_idx nG rE
     refine EL_p (fPtr (ePtr mG (w64 (mA - (1:Int))) 5) 0) (Zc at_87_0 rfl (PT.ptr oG)) rfl ?_
     have mJ:=Zm (part_BoxShuttle_0).1 oG
     refine Ze .plain rfl (D_load (g:=qC) Try.isAgg3 Try.sizeOf3 rfl mJ fun yL nJ=>?_)
     obtain rfl:=Zj.1 nJ
     refine Ze .plain rfl (D_buildSlice (g:=qC) 3046 (xs:=([(y125).Colour]:List Int)) (vs:=[.int .i64 ((y125).Colour)]) Try.underlying22 Try.sizeOf3 Try.zeroValue3 rfl rfl (.cons rfl .nil) (RVs.cons (Zj.2 rfl) RVs.nil) rfl rfl fun oJ zL aM hs o129 pJ hxt hfl=>?_)
     have hfr:=hfr.stp hs
     have dB:=dB.stp hs
     have iB:=iB.stp hs rfl
     have u5_0_104:=u5_0_104.stp hs rfl
     have u5_1_104:=u5_1_104.stp hs rfl
     have u5_2_104:=u5_2_104.stp hs rfl
     have a9:=a9.stp hs rfl
     have i7:=i7.stp hs rfl
     have k8:=k8.stp hs rfl
     have j7:=j7.stp hs
     obtain ⟨hG,mI,h⟩:=bsome h
     refine Ze .plain rfl (D_append (g:=oJ) (i:=1004) Try.underlying22 info_3 rfl rfl iB dB rfl pJ mI fun qJ bM pG hs o130 rJ _=>?_)
     have hfr:=hfr.stp hs
     have u5_0_104:=u5_0_104.stp hs rfl
     have u5_1_104:=u5_1_104.stp hs rfl
     have u5_2_104:=u5_2_104.stp hs rfl
     have a9:=a9.stp hs rfl
     have i7:=i7.stp hs rfl
     have k8:=k8.stp hs rfl
     have j7:=j7.stp hs
     refine Zg pG rfl rfl ?_
     refine Zb (blk_n ?_)
     obtain rfl:=sinj h
     exact hQ _ _ ⟨qJ,(pG),hfr,rfl,rJ,o130,zD,a9,u5_0_104,u5_1_104,u5_2_104,rC,i7,aD,k8,bD,j7,cD,mB⟩
    ·clear hx
     obtain ⟨sJ,qG,hfr,rG,sG,tG,uG,vG,u5_0_132,u5_1_132,u5_2_132,xG,yG,xE,yE,zE,cF,dF,eF⟩:=hR
     refine Za (EL_in (.int .i64 ((w64 (j6 + (1:Int))))) eF rfl rfl rfl ?_)
     refine Zn (.int .i64 ((w64 (j6 + (1:Int))))) rfl rfl ?_
     exact Zb (Zd (lI (y9,(w64 (j6 + (1:Int)))) _ _ ⟨sJ,(qG),hfr,rG,sG,tG,uG,vG,u5_0_132,u5_1_132,u5_2_132,xG,yG,xE,yE,zE,cF,dF,rfl⟩ h))
   ·refine E_cf mD rfl ?_
    refine E_exit ?_
    refine thn_e ?_
    refine thn_e ?_
    refine blk_hit ?_
    obtain rfl:=sinj h
    exact hQ _ _ ⟨qC,(lG),hfr,yD,dB,iB,zD,a9,u5_0_104,u5_1_104,u5_2_104,rC,i7,aD,k8⟩
  ·clear hx
   obtain ⟨tJ,t5,hfr,zG,v6,x6,aE,t8,u5_0_133,u5_1_133,u5_2_133,bE,d9,iA,i5⟩:=hR
   refine Zf (L_loadO (x:=.tmp 50) (SubS.comp part_BoxBoxLoom_0 part_BoxLoom_0 rfl).1 Try.isAgg22 Try.sizeOf22 d9 fun aH uJ nI=>?_)
   obtain ⟨pA,pI,h⟩:=bsome h
   refine L_loadO (x:=.tmp 55) (SubS.comp (SubS.comp part_BoxRun_1 part_BoxRace_1 rfl) part_BoxPick_0 rfl).1 Try.isAgg3 Try.sizeOf3 i5 fun cM vJ qI=>?_
   obtain rfl:=Zj.1 vJ
   refine L_loadO (x:=.tmp 59) (SubS.comp (SubS.comp part_BoxRun_1 part_BoxRace_1 rfl) part_BoxPick_1 rfl).1 Try.isAgg3 Try.sizeOf3 i5 fun dM xJ rI=>?_
   obtain rfl:=Zj.1 xJ
   refine L_loadO (x:=.tmp 63) (SubS.comp part_BoxBoxLoom_0 part_BoxLoom_2 rfl).1 Try.isAgg23 Try.sizeOf23 d9 fun bH yJ sI=>?_
   obtain ⟨qA,tI,h⟩:=bsome h
   refine E_drawL (g:=tJ) (n:=17) [(3,(fun v g w=>OWx (Ow.list 3 (Ow.sh Int)) 4052 g w pA v)),(12,(fun v g w=>OA 4061 g w 3 ([(((y5.2.1).last).at_).Left,(((y5.2.1).last).at_).Right]:List Int) v)),(16,(fun v g w=>OWx (Ow.list 87 (Ow.sh BoxShuttle)) 4065 g w qA v))] [0,1,2,3,4,5,6,7,8,9,10,11,12,13,14,15,16] rfl mixed (by kernel_rfl) (⟨fun _=>up_owx,fun _=>up_oa,fun _=>up_owx,trivial⟩) ?_
   refine L_p (fPtr p6 0) rfl rfl (Zc at_102_0 bE (OB.ptr d9)) ?_
   refine L_p (fPtr p6 0) rfl rfl (P_fieldAddr2 (o1:=0) rfl at_25_0 rfl (OB.ptr d9)) ?_
   refine L_ld (c:=aH) rfl rfl .plain (fun _ _ h=>⟨h.ch,fun b hb _=>h.below.block b hb⟩) nI rfl ?_
   refine L_do (φ:=fun v g w=>OWx (Ow.list 3 (Ow.sh Int)) 4052 g w pA v) rfl rfl .plain (fun g w hd=>D_callG (g:=g) (vs:=[aH]) en78 (.cons rfl .nil) (W78 (iO:=4052) (uJ.ext hd.1) pI) fun g' w' v hs hr=>⟨g',hs,hr⟩) (fun jE hv=>?_)
   clear hv
   refine L_p (fPtr p7 1) rfl rfl (Zc at_129_1 iA (OB.ptr i5)) ?_
   refine L_p (fPtr p7 9) rfl rfl (P_fieldAddr2 (o1:=1) rfl at_108_1 rfl (OB.ptr i5)) ?_
   refine L_p (fPtr p7 9) rfl rfl (P_fieldAddr2 (o1:=9) rfl at_83_0 rfl (OB.ptr i5)) ?_
   refine L_ld (c:=.int .i64 ((((y5.2.1).last).at_).Left)) rfl rfl .plain (fun _ _ h=>⟨h.ch,fun b hb _=>h.below.block b hb⟩) qI rfl ?_
   refine L_p (fPtr p7 1) rfl rfl (Zc at_129_1 iA (OB.ptr i5)) ?_
   refine L_p (fPtr p7 9) rfl rfl (P_fieldAddr2 (o1:=1) rfl at_108_1 rfl (OB.ptr i5)) ?_
   refine L_p (fPtr p7 10) rfl rfl (P_fieldAddr2 (o1:=9) rfl at_83_1 rfl (OB.ptr i5)) ?_
   refine L_ld (c:=.int .i64 ((((y5.2.1).last).at_).Right)) rfl rfl .plain (fun _ _ h=>⟨h.ch,fun b hb _=>h.below.block b hb⟩) rI rfl ?_
   refine L_do (φ:=fun v g w=>OA 4061 g w 3 ([(((y5.2.1).last).at_).Left,(((y5.2.1).last).at_).Right]:List Int) v) rfl rfl .plain (fun g w hd=>D_buildSliceA (g:=g) 4061 (xs:=([(((y5.2.1).last).at_).Left,(((y5.2.1).last).at_).Right]:List Int)) (vs:=[.int .i64 ((((y5.2.1).last).at_).Left),.int .i64 ((((y5.2.1).last).at_).Right)]) Try.underlying22 Try.sizeOf3 Try.zeroValue3 rfl rfl (.cons rfl (.cons rfl .nil)) (RVs.cons (Zj.2 rfl) (RVs.cons (Zj.2 rfl) RVs.nil)) rfl rfl fun g' w' v hs b hxt=>⟨g',hxt,b⟩) (fun kE hv=>?_)
   clear hv
   refine L_p (fPtr p6 0) rfl rfl (Zc at_102_0 bE (OB.ptr d9)) ?_
   refine L_p (fPtr p6 2) rfl rfl (P_fieldAddr2 (o1:=0) rfl at_25_2 rfl (OB.ptr d9)) ?_
   refine L_ld (c:=bH) rfl rfl .plain (fun _ _ h=>⟨h.ch,fun b hb _=>h.below.block b hb⟩) sI rfl ?_
   refine L_do (φ:=fun v g w=>OWx (Ow.list 87 (Ow.sh BoxShuttle)) 4065 g w qA v) rfl rfl .plain (fun g w hd=>D_callG (g:=g) (vs:=[bH]) en79 (.cons rfl .nil) (W79 (iO:=4065) (yJ.ext hd.1) tI) fun g' w' v hs hr=>⟨g',hs,hr⟩) (fun lE hv=>?_)
   clear hv
   refine L_nil fun eM zJ hall=>?_
   have hs:=hall.1
   have hfr:=hfr.ext hs
   have v6:=v6.ext hs
   have x6:=x6.ext hs
   have t8:=t8.ext hs
   have i5:=i5.ext hs
   obtain ⟨sk161,ow161,ok161⟩:=(word_all (A:=fun g w=>OWx (Ow.list 3 (Ow.sh Int)) 4052 g w pA jE) 3 rfl hall)
   have b170:=(word_all (A:=fun g w=>OA 4061 g w 3 ([(((y5.2.1).last).at_).Left,(((y5.2.1).last).at_).Right]:List Int) kE) 12 rfl hall)
   obtain ⟨sk174,ow174,ok174⟩:=(word_all (A:=fun g w=>OWx (Ow.list 87 (Ow.sh BoxShuttle)) 4065 g w qA lE) 16 rfl hall)
   clear hs hall
   obtain ⟨sk176,ow176,ok176⟩:=OA.toW b170
   have wn177:=Wn.fl (OW.wn ow174)
   obtain ⟨gq178,hs,_,wn178⟩:=Wn.pair (OW.wn ow176) wn177 rfl
   have hfr:=hfr.stp hs
   have v6:=v6.stp hs
   have x6:=x6.stp hs rfl
   have t8:=t8.stp hs rfl
   have i5:=i5.stp hs rfl
   have ow161:=ow161.stp hs rfl
   obtain ⟨gq179,hs,_,wn179⟩:=Wn.pair (OW.wn ow161) wn178 rfl
   have hfr:=hfr.stp hs
   have v6:=v6.stp hs
   have x6:=x6.stp hs rfl
   have t8:=t8.stp hs rfl
   have i5:=i5.stp hs rfl
   obtain ⟨cH,sE⟩:∃ v,v=(Value.agg (setCh [[.slice none 0 0],[.slice none 0 0],[.slice none 0 0]] [(0,jE),(1,kE),(2,lE)]).flatten.toArray):=⟨_,rfl⟩
   have ow175:OW ow_BoxLoom 4065 gq179 zJ (⟨pA,([(((y5.2.1).last).at_).Left,(((y5.2.1).last).at_).Right]:List Int),qA⟩:BoxLoom) (sk161,(sk176,sk174)) cH:=sE ▸ Wn.mk_ (Wn.struct (x:=((⟨pA,([(((y5.2.1).last).at_).Left,(((y5.2.1).last).at_).Right]:List Int),qA⟩:BoxLoom))) wn179)
   refine EL_p cH (sE ▸ P_build (vs:=[(0,jE),(1,kE),(2,lE)]) [[.slice none 0 0],[.slice none 0 0],[.slice none 0 0]] lay_25 rfl rfl (.cons rfl (.cons rfl (.cons rfl .nil))) ⟨⟨_,rfl,OW.csz ow161⟩,⟨⟨_,rfl,OW.csz ow176⟩,⟨⟨_,rfl,OW.csz ow174⟩,trivial⟩⟩⟩) rfl ?_
   refine Ze .plain rfl (D_storeOW (g:=gq179) Try.sizeOf25 aE t8 rfl ow175 rfl fun gj180 dH iM bk180 hsa hsb hpp b180=>?_)
   have hfr:=hfr.stp hsa
   have v6:=v6.stp hsa
   have x6:=x6.stp hsa rfl
   have i5:=i5.stp hsa rfl
   have hfr:=hfr.stp hsb
   have v6:=v6.stp hsb
   have x6:=x6.stp hsb rfl
   have i5:=i5.stp hsb rfl
   clear hsa hsb
   subst hpp
   refine Zb (Zd ?_)
   obtain ⟨eC,hx,h⟩:=bsome h
   refine E_join (fun e w=>∃ (g:Gh) ,Fr gI wI g w∧e 4=t5∧RV g.m w (i6:List Int) t5∧OS 1004 g w 3 (i6:List Int) t5∧e 5=(Value.pointer (some ⟨bk180,0,none⟩))∧OVb ow_BoxLoom 2005 g w 25 (eC:BoxLoom) bk180∧e 10=p7∧OB 2010 g w 129 (y5.2.1:BoxRun) p7) (fun Q' hQ=>?_) (fun dL jM hR=>?_)
   ·replace h := hx
    clear hx
    refine Zf (Za (EL_p (fPtr p7 1) (Zc at_129_1 iA (OB.ptr i5)) rfl ?_))
    refine EL_p (fPtr p7 1) (P_fieldAddr2 (o1:=1) rfl at_108_0 rfl (OB.ptr i5)) rfl ?_
    refine Ze .plain rfl (D_loadF (g:=dH) (SubS.comp part_BoxRun_1 part_BoxRace_0 rfl).1 Try.isAgg76 Try.sizeOf76 rfl i5 fun z9 aK=>?_)
    refine Zn (.int .i64 (0)) rfl rfl ?_
    refine Zb (Zd (Zr ?_))
    refine E_lp h (fun (s:BoxLoom × Int) e w=>∃ (g:Gh) ,Fr gI wI g w∧e 4=t5∧RV g.m w (i6:List Int) t5∧OS 1004 g w 3 (i6:List Int) t5∧e 5=(Value.pointer (some ⟨bk180,0,none⟩))∧OVb ow_BoxLoom 2005 g w 25 (s.1:BoxLoom) bk180∧e 10=p7∧OB 2010 g w 129 (y5.2.1:BoxRun) p7∧e 69=z9∧RV g.m w (((y5.2.1).last).boxes:Vector (Vector Int 4) 2) z9∧e 70=.int .i64 (s.2)) ⟨dH,hfr,zG,v6,x6,aE,⟨_,b180,(⟨ok161,⟨ok176,ok174⟩⟩:(ow_BoxLoom).ok (sk161,(sk176,sk174)))⟩,iA,i5,rfl,aK,rfl⟩ (fun X425 iG uI=>?_)
    rintro ⟨cC,i3⟩ eL kM ⟨gH,hfr,cE,k9,l9,dE,⟨tK,n9,eD⟩,gD,l8,iD,m7,jA⟩ h
    refine Zf (Za (EL_in (.bool ((decide (i3 < (2:Int))))) jA rfl rfl rfl ?_))
    refine Zb (Zd (Zf ?_))
    rcases Zt h with ⟨nD,h⟩ | ⟨nD,h⟩
    ·refine E_ct nD rfl ?_
     refine Zu (Zd ?_)
     obtain ⟨aB,hx,h⟩:=bsome h
     refine E_join (fun e w=>∃ (g:Gh) ,Fr gI wI g w∧e 4=t5∧RV g.m w (i6:List Int) t5∧OS 1004 g w 3 (i6:List Int) t5∧e 5=(Value.pointer (some ⟨bk180,0,none⟩))∧OVb ow_BoxLoom 2005 g w 25 (aB:BoxLoom) bk180∧e 10=p7∧OB 2010 g w 129 (y5.2.1:BoxRun) p7∧e 69=z9∧RV g.m w (((y5.2.1).last).boxes:Vector (Vector Int 4) 2) z9∧e 70=.int .i64 (i3)) (fun Q' hQ=>?_) (fun gL mM hR=>?_)
     ·replace h := hx
      clear hx
      refine Zr ?_
      refine Zf (Za (Zo jA rfl ?_))
      obtain ⟨kD,tE,h⟩:=bsome h
      have oD:=RV_idxA m7 tE
      generalize vI:partV _ _ _ _=iH at oD
      refine EL_p iH (vI ▸ P_indexA Try.underlying76 Try.isAgg75 Try.sizeOf75 iD m7 jA tE) rfl ?_
      refine Ze .plain rfl (D_allocOc (g:=gH) 2014 ((⟨List.toArray [0,0,0,0],rfl⟩:Vector Int 4):Vector Int 4) Try.zeroValue75 (fun m w=>⟨_,(rep_vec (flat_chunk rep_int (flat_chunk rep_int (flat_chunk rep_int (flat_chunk rep_int flat_nil)))) rfl),rfl⟩) fun bK nM oM hs b547 cb=>?_)
      have hfr:=hfr.stp hs
      have k9:=k9.stp hs
      have l9:=l9.stp hs rfl
      have n9:=n9.stp hs rfl
      have l8:=l8.stp hs rfl
      have m7:=m7.stp hs
      have oD:=oD.stp hs
      clear cb
      refine Zg (.int .i64 (i3)) rfl rfl ?_
      refine Ze .plain rfl (D_storeOc (g:=bK) (v:=iH) Try.sizeOf75 rfl b547 rfl oD fun jH pM hs b548 cb=>?_)
      clear cb
      have hfr:=hfr.stp hs
      have k9:=k9.stp hs
      have l9:=l9.stp hs rfl
      have n9:=n9.stp hs rfl
      have l8:=l8.stp hs rfl
      have m7:=m7.stp hs
      refine Zb (Zd (Zf (Za (Ze .plain rfl (D_loadO (g:=jH) Try.isAgg75 Try.sizeOf75 rfl b548 fun sD cK=>?_)))))
      refine Zn (.int .i64 (0)) rfl rfl ?_
      refine Zb (Zd (Zr ?_))
      refine E_lp h (fun (s:BoxLoom × Int) e w=>∃ (g:Gh) ,Fr gI wI g w∧e 4=t5∧RV g.m w (i6:List Int) t5∧OS 1004 g w 3 (i6:List Int) t5∧e 5=(Value.pointer (some ⟨bk180,0,none⟩))∧OVb ow_BoxLoom 2005 g w 25 (s.1:BoxLoom) bk180∧e 10=p7∧OB 2010 g w 129 (y5.2.1:BoxRun) p7∧e 13=.int .i64 (i3)∧e 69=z9∧RV g.m w (((y5.2.1).last).boxes:Vector (Vector Int 4) 2) z9∧e 70=.int .i64 (i3)∧e 74=sD∧RV g.m w (kD:Vector Int 4) sD∧e 75=.int .i64 (s.2)) ⟨jH,hfr,cE,k9,l9,dE,⟨_,n9,eD⟩,gD,l8,rfl,iD,m7,jA,rfl,cK,rfl⟩ (fun X550 jG xI=>?_)
      rintro ⟨o0,x5⟩ iL dK ⟨mE,hfr,uC,v8,x8,bA,⟨u3,jB,m8⟩,nB,v7,oB,tB,i8,vB,yB,d7,u9⟩ h
      refine Zf (Za (EL_in (.bool ((decide (x5 < (4:Int))))) u9 rfl rfl rfl ?_))
      refine Zb (Zd (Zf ?_))
      rcases Zt h with ⟨tD,h⟩ | ⟨tD,h⟩
      ·refine E_ct tD rfl ?_
       refine Zu (Zd ?_)
       obtain ⟨yA,hx,h⟩:=bsome h
       refine E_join (fun e w=>∃ (g:Gh) ,Fr gI wI g w∧e 4=t5∧RV g.m w (i6:List Int) t5∧OS 1004 g w 3 (i6:List Int) t5∧e 5=(Value.pointer (some ⟨bk180,0,none⟩))∧OVb ow_BoxLoom 2005 g w 25 (yA:BoxLoom) bk180∧e 10=p7∧OB 2010 g w 129 (y5.2.1:BoxRun) p7∧e 13=.int .i64 (i3)∧e 69=z9∧RV g.m w (((y5.2.1).last).boxes:Vector (Vector Int 4) 2) z9∧e 70=.int .i64 (i3)∧e 74=sD∧RV g.m w (kD:Vector Int 4) sD∧e 75=.int .i64 (x5)) (fun Q' hQ=>?_) (fun jL qM hR=>?_)
       ·replace h := hx
        clear hx
        refine Zr ?_
        refine Zf (Za (Zo u9 rfl ?_))
        obtain ⟨l5,uE,h⟩:=bsome h
        have eK:=RV_idxA d7 uE
        refine EL_p (.int .i64 (l5)) ((Zj.1 eK) ▸ P_indexA Try.underlying75 Try.isAgg3 Try.sizeOf3 yB d7 u9 uE) rfl ?_
        refine Zg (.int .i64 (x5)) rfl rfl ?_
        refine Zg (.int .i64 (l5)) rfl rfl ?_
        refine Zb (Zd (Zf (Za (Zn (.int .i64 (l5)) rfl rfl ?_))))
        refine EL_in (.bool ((decide (l5 > (0:Int))))) rfl rfl rfl rfl ?_
        refine Zb (Zd ?_)
        rcases Zt h with ⟨uD,h⟩ | ⟨uD,h⟩
        ·refine E_ct uD rfl ?_
         obtain ⟨a7,zB,h⟩:=bsome h
         obtain ⟨bb623,cc623,ss623,hq623,vE⟩:=(OV.slice jB (Cxt.fld (Cxt.root ow_BoxLoom bk180) fl_BoxLoom_2 (o0) (u3)) rfl rfl ((m8.2).2)).2 zB
         obtain ⟨lD,vD,h⟩:=bsome h
         refine E_drawG (g:=mE) (w:=dK) (i:=2005) (A0:=fun g w=>OV ow_BoxLoom 2005 g w 25 (o0:BoxLoom) bk180 u3) (A1:=fun g w=>OV ow_BoxLoom 2005 g w 25 (({ o0 with Shuttles:=(List.set ((o0).Shuttles) (Int.toNat ((w64 (l5 - (1:Int))))) ({ a7 with Side:=i3 }:BoxShuttle)) }:BoxLoom):BoxLoom) bk180 u3) jB up_ov (n:=15) [(12,(fun _ g w=>OV ow_BoxLoom 2005 g w 25 (({ o0 with Shuttles:=(List.set ((o0).Shuttles) (Int.toNat ((w64 (l5 - (1:Int))))) ({ a7 with Side:=i3 }:BoxShuttle)) }:BoxLoom):BoxLoom) bk180 u3))] [0,1,2,3,4,5,6,7,8,9,10,11,12,13,14] rfl mixed (by kernel_rfl) (⟨fun _=>up_box,trivial⟩) ?_
         refine L_p ((.pointer (some ⟨bk180,(0 + 2),none⟩))) rfl rfl (P_fieldAddrH at_25_2 bA) ?_
         refine L_val (c:=(hdrV (Prod.snd (Prod.snd u3)) ((o0).Shuttles).length)) rfl rfl .plain (fun g w hd=>loadHAB (Cxt.fld (Cxt.root ow_BoxLoom bk180) fl_BoxLoom_2 (o0) (u3)) rfl rfl (Cxt.fld (Cxt.root ow_BoxLoom bk180) fl_BoxLoom_2 (({ o0 with Shuttles:=(List.set ((o0).Shuttles) (Int.toNat ((w64 (l5 - (1:Int))))) ({ a7 with Side:=i3 }:BoxShuttle)) }:BoxLoom)) (u3)) rfl rfl (by simp) ((m8.2).2) Try.isAgg23 rfl hd.1.2) ?_
         refine L_p (.int .i64 (l5)) rfl rfl (Zk rfl) ?_
         refine L_p (.int .i64 ((w64 (l5 - (1:Int))))) rfl rfl (P_int rfl rfl rfl) ?_
         refine L_p ((.pointer (some ⟨bk180,(0 + 2),none⟩))) rfl rfl (P_fieldAddrH at_25_2 bA) ?_
         refine L_val (c:=(hdrV (Prod.snd (Prod.snd u3)) ((o0).Shuttles).length)) rfl rfl .plain (fun g w hd=>loadHAB (Cxt.fld (Cxt.root ow_BoxLoom bk180) fl_BoxLoom_2 (o0) (u3)) rfl rfl (Cxt.fld (Cxt.root ow_BoxLoom bk180) fl_BoxLoom_2 (({ o0 with Shuttles:=(List.set ((o0).Shuttles) (Int.toNat ((w64 (l5 - (1:Int))))) ({ a7 with Side:=i3 }:BoxShuttle)) }:BoxLoom)) (u3)) rfl rfl (by simp) ((m8.2).2) Try.isAgg23 rfl hd.1.2) ?_
         refine L_p (.int .i64 (l5)) rfl rfl (Zk rfl) ?_
         refine L_p (.int .i64 ((w64 (l5 - (1:Int))))) rfl rfl (P_int rfl rfl rfl) ?_
         refine L_p (.int .i64 (i3)) rfl rfl (Zk oB) ?_
         refine L_p (.int .i64 (x5)) rfl rfl (Zk rfl) ?_
         refine L_p ((.pointer (some ⟨bb623,((Int.toNat ((w64 (l5 - (1:Int))))) * 5),none⟩))) rfl rfl (P_indexH Try.underlying23 Try.sizeOf87 (rfl.trans (hdr_at hq623 _)) rfl (idx_nat zB)) ?_
         refine L_p ((.pointer (some ⟨bb623,(((Int.toNat ((w64 (l5 - (1:Int))))) * 5) + 1),none⟩))) rfl rfl (P_fieldAddrH at_87_1 rfl) ?_
         refine L_do (φ:=fun _ g w=>OV ow_BoxLoom 2005 g w 25 (({ o0 with Shuttles:=(List.set ((o0).Shuttles) (Int.toNat ((w64 (l5 - (1:Int))))) ({ a7 with Side:=i3 }:BoxShuttle)) }:BoxLoom):BoxLoom) bk180 u3) rfl rfl .plain (fun g w hd=>D_storeOVR (g:=g) (u':=(i3:Int)) (Cxt.fld (Cxt.idx (Cxt.fld (Cxt.root ow_BoxLoom bk180) fl_BoxLoom_2 (o0) (u3)) ((o0).Shuttles) (Int.toNat ((w64 (l5 - (1:Int))))) bb623 cc623 ss623 (idx_nat zB).2 vE) fl_BoxShuttle_1 (a7) (())) ((congrArg (fun q=>({ o0 with Shuttles:=q }:BoxLoom)) (set_idx zB)).trans rfl) rfl (((congrArg (fun q=>(Prod.fst u3,(Prod.fst (Prod.snd u3),(Sl.at bb623 cc623 q)))) set_unit).trans (congrArg (fun q=>(Prod.fst u3,(Prod.fst (Prod.snd u3),q))) (hq623).symm)).trans rfl) Try.sizeOf3 rfl hd.1.2 rfl (Zj.2 rfl)) (fun rM hv=>?_)
         clear hv
         refine L_p ((.pointer (some ⟨bb623,((Int.toNat ((w64 (l5 - (1:Int))))) * 5),none⟩))) rfl rfl (P_indexH Try.underlying23 Try.sizeOf87 (rfl.trans (hdr_at hq623 _)) rfl (by simpa using idx_nat vD)) ?_
         refine L_p ((.pointer (some ⟨bb623,(((Int.toNat ((w64 (l5 - (1:Int))))) * 5) + 2),none⟩))) rfl rfl (P_fieldAddrH at_87_2 rfl) ?_
         refine L_nil fun lK sM hall=>?_
         have hs:=hall.1.1
         have hfr:=hfr.stp hs
         have v8:=v8.stp hs
         have x8:=x8.stp hs rfl
         have v7:=v7.stp hs rfl
         have i8:=i8.stp hs
         have d7:=d7.stp hs
         have b631:=(word_all (A:=fun g w=>OV ow_BoxLoom 2005 g w 25 (({ o0 with Shuttles:=(List.set ((o0).Shuttles) (Int.toNat ((w64 (l5 - (1:Int))))) ({ a7 with Side:=i3 }:BoxShuttle)) }:BoxLoom):BoxLoom) bk180 u3) 12 rfl hall)
         clear hs hall
         refine Ze .plain rfl (D_storeOV (g:=lK) (u':=(x5:Int)) (Cxt.fld (Cxt.idx (Cxt.fld (Cxt.root ow_BoxLoom bk180) fl_BoxLoom_2 (({ o0 with Shuttles:=(List.set ((o0).Shuttles) (Int.toNat ((w64 (l5 - (1:Int))))) ({ a7 with Side:=i3 }:BoxShuttle)) }:BoxLoom)) (u3)) ((({ o0 with Shuttles:=(List.set ((o0).Shuttles) (Int.toNat ((w64 (l5 - (1:Int))))) ({ a7 with Side:=i3 }:BoxShuttle)) }:BoxLoom)).Shuttles) (Int.toNat ((w64 (l5 - (1:Int))))) bb623 cc623 ss623 (idx_nat vD).2 (by simpa using vE)) fl_BoxShuttle_2 (lD) (())) ((congrArg (fun q=>({ (({ o0 with Shuttles:=(List.set ((o0).Shuttles) (Int.toNat ((w64 (l5 - (1:Int))))) ({ a7 with Side:=i3 }:BoxShuttle)) }:BoxLoom)) with Shuttles:=q }:BoxLoom)) (set_idx vD)).trans rfl) (((congrArg (fun q=>(Prod.fst u3,(Prod.fst (Prod.snd u3),(Sl.at bb623 cc623 q)))) set_unit).trans (congrArg (fun q=>(Prod.fst u3,(Prod.fst (Prod.snd u3),q))) (hq623).symm)).trans rfl) Try.sizeOf3 rfl b631 rfl (Zj.2 rfl) fun kH mK hs b660=>?_)
         have hfr:=hfr.stp hs
         have v8:=v8.stp hs
         have x8:=x8.stp hs rfl
         have v7:=v7.stp hs rfl
         have i8:=i8.stp hs
         have d7:=d7.stp hs
         replace b660:OV ow_BoxLoom 2005 kH mK 25 (({ (({ o0 with Shuttles:=(List.set ((o0).Shuttles) (Int.toNat ((w64 (l5 - (1:Int))))) ({ a7 with Side:=i3 }:BoxShuttle)) }:BoxLoom)) with Shuttles:=(List.set ((({ o0 with Shuttles:=(List.set ((o0).Shuttles) (Int.toNat ((w64 (l5 - (1:Int))))) ({ a7 with Side:=i3 }:BoxShuttle)) }:BoxLoom)).Shuttles) (Int.toNat ((w64 (l5 - (1:Int))))) ({ lD with Box:=x5 }:BoxShuttle)) }:BoxLoom):BoxLoom) bk180 u3:=b660
         refine Zb (blk_n ?_)
         obtain rfl:=sinj h
         exact hQ _ _ ⟨kH,hfr,uC,v8,x8,bA,⟨_,b660,m8⟩,nB,v7,oB,tB,i8,vB,yB,d7,u9⟩
        ·refine E_cf uD rfl ?_
         refine Zu (blk_n ?_)
         obtain rfl:=sinj h
         exact hQ _ _ ⟨mE,hfr,uC,v8,x8,bA,⟨_,jB,m8⟩,nB,v7,oB,tB,i8,vB,yB,d7,u9⟩
       ·clear hx
        obtain ⟨nK,hfr,lH,mH,nH,oH,⟨uK,pH,iF⟩,nF,oF,pF,qF,rF,sF,tF,uF,vF⟩:=hR
        refine Za (EL_in (.int .i64 ((w64 (x5 + (1:Int))))) vF rfl rfl rfl ?_)
        refine Zn (.int .i64 ((w64 (x5 + (1:Int))))) rfl rfl ?_
        exact Zb (Zd (xI (yA,(w64 (x5 + (1:Int)))) _ _ ⟨nK,hfr,lH,mH,nH,oH,⟨_,pH,iF⟩,nF,oF,pF,qF,rF,sF,tF,uF,rfl⟩ h))
      ·refine E_cf tD rfl ?_
       refine E_exit ?_
       refine thn_e ?_
       refine thn_e ?_
       refine blk_hit ?_
       refine blk_n ?_
       obtain rfl:=sinj h
       exact hQ _ _ ⟨mE,hfr,uC,v8,x8,bA,⟨_,jB,m8⟩,nB,v7,tB,i8,vB⟩
     ·clear hx
      obtain ⟨oK,hfr,qH,sH,tH,uH,⟨vK,xH,xF⟩,yF,zF,aG,bG,cG⟩:=hR
      refine Za (EL_in (.int .i64 ((w64 (i3 + (1:Int))))) cG rfl rfl rfl ?_)
      refine Zn (.int .i64 ((w64 (i3 + (1:Int))))) rfl rfl ?_
      exact Zb (Zd (uI (aB,(w64 (i3 + (1:Int)))) _ _ ⟨oK,hfr,qH,sH,tH,uH,⟨_,xH,xF⟩,yF,zF,aG,bG,rfl⟩ h))
    ·refine E_cf nD rfl ?_
     refine E_exit ?_
     refine thn_e ?_
     refine thn_e ?_
     refine blk_hit ?_
     obtain rfl:=sinj h
     exact hQ _ _ ⟨gH,hfr,cE,k9,l9,dE,⟨_,n9,eD⟩,gD,l8⟩
   ·clear hx
    obtain ⟨pK,hfr,yH,gA,zK,vC,⟨xK,lB,dG⟩,eG,jD⟩:=hR
    refine Zf (L_self Try.isAgg25 Try.sizeOf25 rfl lB fun qK yI zI=>?_)
    refine L_loadO (x:=.tmp 99) part_BoxRun_2.1 Try.isAgg3 Try.sizeOf3 jD fun tM sK aJ=>?_
    obtain rfl:=Zj.1 sK
    refine E_drawL (g:=pK) (n:=9) [(5,(fun _ _ _=>True))] [0,1,2,3,4,5,6,7,8] rfl mixed (by kernel_rfl) (⟨fun _=>(fun _ _ _ _ _ _=>trivial),trivial⟩) ?_
    refine L_p t5 rfl rfl (Zk yH) ?_
    refine L_ld (c:=qK) rfl rfl .plain (fun _ _ h=>⟨h.ch,fun b hb _=>h.below.block b hb⟩) (yI _) vC ?_
    refine L_p (fPtr p7 11) rfl rfl (Zc at_129_2 eG (OB.ptr jD)) ?_
    refine L_ld (c:=.int .i64 ((y5.2.1).moves)) rfl rfl .plain (fun _ _ h=>⟨h.ch,fun b hb _=>h.below.block b hb⟩) aJ rfl ?_
    refine L_p t5 rfl rfl (P_assign rfl) ?_
    refine L_do (φ:=fun _ _ _=>True) rfl rfl .plain (fun g w hd=>zI _ _ _ g w ⟨hd.1.ch,fun b hb _=>hd.1.below.block b hb⟩ vC rfl) (fun uM hv=>?_)
    clear hv
    refine L_p (.int .i64 ((y5.2.1).moves)) rfl rfl (P_assign rfl) ?_
    refine L_p (.int .i64 (0)) rfl rfl (P_assign rfl) ?_
    refine L_p (.int .i64 (0)) rfl rfl (P_assign rfl) ?_
    refine L_nl fun vM xM hs=>?_
    have hfr:=hfr.ext hs
    have gA:=gA.ext hs
    have lB:=lB.ext hs
    clear hs
    refine Zb (Zd (E_ret ?_))
    obtain ⟨go680,hs,b680⟩:=OV.toOB lB dG
    have hfr:=hfr.stp hs
    have gA:=gA.stp hs
    obtain rfl:=sinj h
    obtain ⟨ad681,cv681,hp681,bJ,cr681⟩:=ob_read Try.isAgg25 Try.sizeOf25 b680
    exact endm_tcttt rfl rfl (show _=t5 from rfl) ((show _=(Value.pointer (some ⟨bk180,0,none⟩)) from vC).trans hp681) bJ (show _=.int .i64 ((y5.2.1).moves) from rfl) (show _=.int .i64 (0) from rfl) (show _=.int .i64 (0) from rfl) ⟨_,hfr,_,_,_,_,_,rfl,gA,cr681,rfl,rfl,rfl⟩
end Go.Proofs.Ytmpjooneiaiffaa
