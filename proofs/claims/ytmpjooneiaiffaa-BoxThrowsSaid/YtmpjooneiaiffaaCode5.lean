import Derived.Test.YtmpjooneiaiffaaCode4
set_option maxRecDepth 8000
set_option maxHeartbeats 4000000
namespace Go.Proofs.Ytmpjooneiaiffaa
open Go.RowKit
def f29 (x0:BoxLoom) (x1:List BoxPick):Option ((List Span) × Int × Int):=
 (f70 x0 x1).bind fun y5=>
 jn (σ:=(List Span)) (fun n9=>
  Option.bind (α:=(List Span)) (
   lp (σ:=(List Span) × Int) (fun k48 (m8,i5)=>
    bif (decide (i5 < ((((y5.1).BoxLoom).Shuttles).length : Int))) then
     Option.bind (α:=(List Span)) (
      (idx (((y5.1).BoxLoom).Shuttles) i5).bind fun pA=>
      (apnd 16 m8 (([(pA).Yarn]:List Span))).bind fun y71=>
      some (y71)
      ) fun i7=>
     k48 (i7,(w64 (i5 + (1:Int))))
    else
     some (m8)
    ) big (n9,(0:Int))
   ) fun n8=>
  Option.bind (α:=(List Span)) (
   lp (σ:=(List Span) × Int) (fun qA (v6,o0)=>
    bif (decide (o0 < (((y5.2.1).thrown).length : Int))) then
     Option.bind (α:=(List Span)) (
      (idx ((y5.2.1).thrown) o0).bind fun i6=>
      (idx v6 (w64 (i6 - (1:Int)))).bind fun y130=>
      (idx v6 (w64 (i6 - (1:Int)))).bind fun bD=>
      some ((List.set v6 (Int.toNat (w64 (i6 - (1:Int)))) ((⟨(max64 (0:Int) (w64 ((y130).Low - (1:Int)))),(max64 (0:Int) (w64 ((y130).High - (1:Int))))⟩:Span))))
      ) fun y6=>
     qA (y6,(w64 (o0 + (1:Int))))
    else
     some (v6)
    ) big (n8,(0:Int))
   ) fun j7=>
  some (j7,(0:Int),(0:Int))
  ) fun tC=>
 bif (y5.2.2.2 != (0 : Int)) then
  some (([]:List Span),y5.2.2.1,y5.2.2.2)
 else
  tC (([]:List Span))
theorem W78 {iO:Nat} {gI:Gh} {wI:World} {x0:List Int} {up0:Value} (rp0:RV gI.m wI x0 up0) {r:List Int} (h:f78 x0=some r):FnG Try.prog 78 #[up0] gI wI (fun g w v=>OWx (Ow.list 3 (Ow.sh Int)) iO g w r v):=by
 unfold f78 at h
 refine fnG_of_E Try.func78 rfl (Nat.le_of_ble_eq_true rfl) fun g0 hm hfr=>?_
 have rp0:RV g0.m wI x0 up0:=hm ▸ rp0
 show E _ 8 none _ _ _ _ _
 refine Zf (Za (Zg (.slice none 0 0) rfl rfl (Zb (Zd ?_))))
 refine Zf (Zf (Za (Zn up0 rfl rfl ?_)))
 obtain ⟨a,c,hv,hc,hrow⟩:=RV_list rp0
 refine EL_p (.bool a.isNone) (P_slnil Try.underlying22 (show ev _ _=_ from hv)) rfl (Zb (Zd ?_))
 cases a with
 | none=>
  have hx:x0=[]:=by
   cases x0 with
   | nil=>rfl
   | cons y ys=>obtain ⟨b,off,hb,_⟩:=hrow (by simp); cases hb
  subst hx
  have hr:r=[]:=by unfold apnd at h; split at h <;> simp at h; exact h
  subst hr
  refine E_cond_true rfl (Zf (Za ?_))
  refine Zg (.slice none 0 0) rfl rfl (Zb (Zd ?_))
  obtain ⟨sk,ow,ok⟩:=OA.toW (OA.nil:OA 1 g0 wI 3 ([]:List Int) (.slice none 0 0))
  obtain ⟨gh,hxh,_,homh⟩:=OW.hand (i:=iO) hfr ow ok; exact E_ret (thn_r (end1 rfl rfl (show _=.slice none 0 0 from rfl) ⟨gh,hxh,homh⟩))
 | some a=>
  refine E_cond_false rfl (Zu (Zd ?_))
  refine Zf (Za (Ze .plain rfl (D_buildSlice (g:=g0) 1 (xs:=([]:List Int)) (vs:=[]) Try.underlying22 Try.sizeOf3 Try.zeroValue3 rfl rfl .nil RVs.nil rfl rfl fun g1 w1 v1 hs o1 r1 hxt hfl=>?_)))
  have hfr:=hfr.stp hs
  have rp0:=rp0.stp hs
  refine Zn up0 rfl rfl ?_
  refine Ze .plain rfl (D_appendE (g:=g1) plain_int (i:=1) Try.underlying22 info_3 rfl rfl o1 hfl rfl rp0 h fun g2 w2 v2 hs b2=>?_)
  have hfr:=hfr.ext hs
  refine Zg v2 rfl rfl (Zb (Zd ?_))
  obtain ⟨sk,ow,ok⟩:=OA.toW b2
  obtain ⟨gh,hxh,_,homh⟩:=OW.hand (i:=iO) hfr ow ok; exact E_ret (end1 rfl rfl (show _=v2 from rfl) ⟨gh,hxh,homh⟩)
def f3 (x0:BoxLoom) (x1:List Int):Option (Bool):=
 jn (σ:=Unit) (fun _=>
  (f15 x0).bind fun vB=>
  (f16 x1).bind fun y40=>
  (f17 vB y40).bind fun o0=>
  jn (σ:=Unit) (fun _=>
   (f20 x0).bind fun d9=>
   jn (σ:=Int × Int) (fun (b7,t5)=>
    Option.bind (α:=Bool) (
     bif (o0.2.2.2 == b7) then
      bif (o0.2.2.1 == t5) then
       bif (((o0.1).length : Int) == (0 : Int)) then
        bif (o0.2.1 == (0 : Int)) then
         (f14).bind fun bA=>
         some (bA)
        else
         some (false)
       else
        some (false)
      else
       some (false)
     else
      some (false)
     ) fun o8=>
    some (o8)
    ) fun u9=>
   bif (d9 != (0 : Int)) then
    u9 (d9,(0:Int))
   else
    bif (decide (((x1).length : Int) > (24 : Int))) then
     u9 ((5:Int),(0:Int))
    else
     (f21 x1).bind fun gA=>
     bif (!gA) then
      u9 ((2:Int),(0:Int))
     else
      (f22 big x0 x1).bind fun i5=>
      jn (σ:=Unit) (fun _=>
       u9 ((9:Int),i5.2.2)
       ) fun yB=>
      bif (i5.2.2 == ((x1).length : Int)) then
       Option.bind (α:=Bool) (
        bif (o0.2.2.2 == (0 : Int)) then
         (f23 (o0.1) (i5.1)).bind fun a9=>
         bif a9 then
          bif (o0.2.1 == i5.2.1) then
           bif (o0.2.2.1 == (0 : Int)) then
            (f14).bind fun iA=>
            some (iA)
           else
            some (false)
          else
           some (false)
         else
          some (false)
        else
         some (false)
        ) fun q8=>
       some (q8)
      else
       yB ()
   ) fun yD=>
  Option.bind (α:=Bool) (
   (f18 vB x0).bind fun y74=>
   bif (!y74) then
    some (true)
   else
    (f19 y40 x1).bind fun cB=>
    some ((!cB))
   ) fun v7=>
  bif v7 then
   some (false)
  else
   yD ()
  ) fun k18=>
 Option.bind (α:=Bool) (
  (f13 x0).bind fun z9=>
  bif z9 then
   some (true)
  else
   bif (decide (((x1).length : Int) > (4 : Int))) then
    bif (decide (((x1).length : Int) ≤ (24 : Int))) then
     some (true)
    else
     some ((decide (((x1).length:Int) > (30:Int))))
   else
    some ((decide (((x1).length:Int) > (30:Int))))
  ) fun g8=>
 bif g8 then
  (f14).bind fun dB=>
  some (dB)
 else
  k18 ()
theorem W79 {iO:Nat} {gI:Gh} {wI:World} {x0:List BoxShuttle} {up0:Value} (rp0:RV gI.m wI x0 up0) {r:List BoxShuttle} (h:f79 x0=some r):FnG Try.prog 79 #[up0] gI wI (fun g w v=>OWx (Ow.list 87 (Ow.sh BoxShuttle)) iO g w r v):=by
 unfold f79 at h
 refine fnG_of_E Try.func79 rfl (Nat.le_of_ble_eq_true rfl) fun g0 hm hfr=>?_
 have rp0:RV g0.m wI x0 up0:=hm ▸ rp0
 show E _ 8 none _ _ _ _ _
 refine Zf (Za (Zg (.slice none 0 0) rfl rfl (Zb (Zd ?_))))
 refine Zf (Zf (Za (Zn up0 rfl rfl ?_)))
 obtain ⟨a,c,hv,hc,hrow⟩:=RV_list rp0
 refine EL_p (.bool a.isNone) (P_slnil Try.underlying23 (show ev _ _=_ from hv)) rfl (Zb (Zd ?_))
 cases a with
 | none=>
  have hx:x0=[]:=by
   cases x0 with
   | nil=>rfl
   | cons y ys=>obtain ⟨b,off,hb,_⟩:=hrow (by simp); cases hb
  subst hx
  have hr:r=[]:=by unfold apnd at h; split at h <;> simp at h; exact h
  subst hr
  refine E_cond_true rfl (Zf (Za ?_))
  refine Zg (.slice none 0 0) rfl rfl (Zb (Zd ?_))
  obtain ⟨sk,ow,ok⟩:=OA.toW (OA.nil:OA 1 g0 wI 87 ([]:List BoxShuttle) (.slice none 0 0))
  obtain ⟨gh,hxh,_,homh⟩:=OW.hand (i:=iO) hfr ow ok; exact E_ret (thn_r (end1 rfl rfl (show _=.slice none 0 0 from rfl) ⟨gh,hxh,homh⟩))
 | some a=>
  refine E_cond_false rfl (Zu (Zd ?_))
  refine Zf (Za (Ze .plain rfl (D_buildSlice (g:=g0) 1 (xs:=([]:List BoxShuttle)) (vs:=[]) Try.underlying23 Try.sizeOf87 Try.zeroValue87 rfl rfl .nil RVs.nil rfl rfl fun g1 w1 v1 hs o1 r1 hxt hfl=>?_)))
  have hfr:=hfr.stp hs
  have rp0:=rp0.stp hs
  refine Zn up0 rfl rfl ?_
  refine Ze .plain rfl (D_appendE (g:=g1) plain_BoxShuttle (i:=1) Try.underlying23 info_87 rfl rfl o1 hfl rfl rp0 h fun g2 w2 v2 hs b2=>?_)
  have hfr:=hfr.ext hs
  refine Zg v2 rfl rfl (Zb (Zd ?_))
  obtain ⟨sk,ow,ok⟩:=OA.toW b2
  obtain ⟨gh,hxh,_,homh⟩:=OW.hand (i:=iO) hfr ow ok; exact E_ret (end1 rfl rfl (show _=v2 from rfl) ⟨gh,hxh,homh⟩)
def f40 (x0:BoxLoom) (x1:List BoxPick):Option ((List Int) × BoxLoom × Int × Int × Int):=
 (f70 x0 x1).bind fun y5=>
 jn (σ:=(List Int) × BoxLoom) (fun (tD,y6)=>
  Option.bind (α:=(List Int)) (
   lp (σ:=(List Int) × Int) (fun nF (eB,j6)=>
    bif (decide (j6 < (((y5.2.1).thrown).length : Int))) then
     Option.bind (α:=(List Int)) (
      (idx ((y5.2.1).thrown) j6).bind fun gA=>
      (idx (((y5.1).BoxLoom).Shuttles) (w64 (gA - (1:Int)))).bind fun y125=>
      (apnd 8 eB (([(y125).Colour]:List Int))).bind fun oF=>
      some (oF)
      ) fun l9=>
     nF (l9,(w64 (j6 + (1:Int))))
    else
     some (eB)
    ) big (tD,(0:Int))
   ) fun i6=>
  (f78 (((y5.1).BoxLoom).Boxes)).bind fun iA=>
  (f79 (((y5.1).BoxLoom).Shuttles)).bind fun jA=>
  Option.bind (α:=BoxLoom) (
   lp (σ:=BoxLoom × Int) (fun pF (iB,i3)=>
    bif (decide (i3 < (2 : Int))) then
     Option.bind (α:=BoxLoom) (
      (idx (((y5.2.1).last).boxes).toList i3).bind fun kC=>
      lp (σ:=BoxLoom × Int) (fun qF (o0,x5)=>
       bif (decide (x5 < (4 : Int))) then
        Option.bind (α:=BoxLoom) (
         (idx (kC).toList x5).bind fun l5=>
         bif (decide (l5 > (0 : Int))) then
          (idx ((o0).Shuttles) ((w64 (l5 - (1:Int))))).bind fun a7=>
          (idx ((({ o0 with Shuttles:=(List.set ((o0).Shuttles) (Int.toNat ((w64 (l5 - (1:Int))))) ({ a7 with Side:=i3 }:BoxShuttle)) }:BoxLoom)).Shuttles) ((w64 (l5 - (1:Int))))).bind fun lC=>
          some (({ (({ o0 with Shuttles:=(List.set ((o0).Shuttles) (Int.toNat ((w64 (l5 - (1:Int))))) ({ a7 with Side:=i3 }:BoxShuttle)) }:BoxLoom)) with Shuttles:=(List.set ((({ o0 with Shuttles:=(List.set ((o0).Shuttles) (Int.toNat ((w64 (l5 - (1:Int))))) ({ a7 with Side:=i3 }:BoxShuttle)) }:BoxLoom)).Shuttles) (Int.toNat ((w64 (l5 - (1:Int))))) ({ lC with Box:=x5 }:BoxShuttle)) }:BoxLoom))
         else
          some (o0)
         ) fun nA=>
        qF (nA,(w64 (x5 + (1:Int))))
       else
        some (o0)
       ) big (iB,(0:Int))
      ) fun oA=>
     pF (oA,(w64 (i3 + (1:Int))))
    else
     some (iB)
    ) big ((⟨iA,([(((y5.2.1).last).at_).Left,(((y5.2.1).last).at_).Right]:List Int),jA⟩:BoxLoom),(0:Int))
   ) fun jB=>
  some (i6,jB,(y5.2.1).moves,(0:Int),(0:Int))
  ) fun iI=>
 bif (y5.2.2.2 != (0 : Int)) then
  some ([],(⟨[],[],[]⟩:BoxLoom),(0:Int),y5.2.2.1,y5.2.2.2)
 else
  iI ([],(⟨[],[],[]⟩:BoxLoom))
theorem en40:Enters Try.prog 40:=enters_of Try.func40 (by kernel_rfl) rfl
theorem wk40 {gI:Gh} {wI:World} {x0:BoxLoom} {x1:List BoxPick} {up0:Value} (rp0:RV gI.m wI x0 up0) {up1:Value} (rp1:RV gI.m wI x1 up1) {r:(List Int) × BoxLoom × Int × Int × Int} (h:f40 x0 x1=some r):Fn Try.prog 40 #[up0,up1] gI wI (fun m w v=>∃ y0 y1 y2 y3 y4,v=.tuple #[y0,y1,y2,y3,y4]∧RV m w (r.1) y0∧RV m w (r.2.1) y1∧y2=.int .i64 (r.2.2.1)∧y3=.int .i64 (r.2.2.2.1)∧y4=.int .i64 (r.2.2.2.2)):=by
 unfold f40 at h
 refine fn_of_E Try.func40 rfl (Nat.le_of_ble_eq_true rfl) fun g0 hm hfr=>?_
 have rp0:RV g0.m wI x0 up0:=hm ▸ rp0
 have rp1:RV g0.m wI x1 up1:=hm ▸ rp1
 show E _ 101 none _ _ _ _ _
 refine Zf (Za (Ze .plain rfl (D_box (g:=g0) rfl rp0 fun g1 w1 p1 hs q1=>?_)))
 have hfr:=hfr.ext hs
 have rp1:=rp1.ext hs
 refine Zg (.slice none 0 0) rfl rfl ?_
 refine Ze .plain rfl (D_allocOc (g:=g1) 2005 (⟨[],[],[]⟩:BoxLoom) Try.zeroValue25 (fun m w=>⟨_,(rep_two rep_nil (rep_two rep_nil rep_nil)),rfl⟩) fun g2 w2 p2 hs b2 cb=>?_)
 have hfr:=hfr.stp hs
 have rp1:=rp1.stp hs
 have q1:=q1.stp hs
 have n8:OSF 2005 60500 0 g2 w2 3 25 ([]:List Int) p2:=cb.osf (by rfl)
 have o8:OSF 2005 60501 1 g2 w2 3 25 ([]:List Int) p2:=cb.osf (by rfl)
 have q8:OSF 2005 60502 2 g2 w2 87 25 ([]:List BoxShuttle) p2:=cb.osf (by rfl)
 clear cb
 iterate 3 refine Zg (.int .i64 (0)) rfl rfl ?_
 refine Zb (Zd (Zf (Za (Ze .plain rfl (D_load (g:=g2) Try.isAgg25 Try.sizeOf25 rfl q1 fun v3 r3=>?_)))))
 refine Zn up1 rfl rfl ?_
 obtain ⟨y5,hy5,h⟩:=bsome h
 refine Ze .plain rfl (Zp (g:=g2) (vs:=[v3,up1]) en70 (.cons rfl (.cons rfl .nil)) (wk70 r3 rp1 hy5) fun g4 w4_ v4 hs hr=>?_)
 have hfr:=hfr.ext hs
 have n8:=n8.ext hs
 have o8:=o8.ext hs
 have q8:=q8.ext hs
 have b2:=b2.ext hs
 obtain ⟨jD,kD,oK,pK,rfl,lB,mA,rfl,rfl⟩:=hr
 refine Zn (.tuple #[jD,kD,.int .i64 (y5.2.2.1),.int .i64 (y5.2.2.2)]) rfl rfl ?_
 refine EL_p jD (Zi rfl rfl) rfl ?_
 refine EL_p kD (Zi rfl rfl) rfl ?_
 refine EL_p (.int .i64 (y5.2.2.1)) (Zi rfl rfl) rfl ?_
 refine EL_p (.int .i64 (y5.2.2.2)) (Zi rfl rfl) rfl ?_
 refine Ze .plain rfl (D_allocOc (g:=g4) 2009 (⟨⟨[],[],[]⟩⟩:BoxBoxLoom) Try.zeroValue102 (fun m w=>⟨_,(rep_two rep_nil (rep_two rep_nil rep_nil)),rfl⟩) fun g6 w6 p6 hs b6 cb=>?_)
 have hfr:=hfr.stp hs
 have n8:=n8.stp hs rfl
 have o8:=o8.stp hs rfl
 have q8:=q8.stp hs rfl
 have b2:=b2.stp hs rfl
 have lB:=lB.stp hs
 have mA:=mA.stp hs
 have qK:OSF 2009 60900 0 g6 w6 3 102 ([]:List Int) p6:=cb.osf (by rfl)
 have sK:OSF 2009 60901 1 g6 w6 3 102 ([]:List Int) p6:=cb.osf (by rfl)
 have tK:OSF 2009 60902 2 g6 w6 87 102 ([]:List BoxShuttle) p6:=cb.osf (by rfl)
 clear cb
 refine Ze .plain rfl (D_allocOc (g:=g6) 2010 (⟨[],⟨(⟨List.toArray [(⟨List.toArray [0,0,0,0],rfl⟩:Vector Int 4),(⟨List.toArray [0,0,0,0],rfl⟩:Vector Int 4)],rfl⟩:Vector (Vector Int 4) 2),⟨0,0⟩⟩,0⟩:BoxRun) Try.zeroValue129 (fun m w=>⟨_,(rep_two rep_nil (rep_two (rep_two (rep_vec (flat_chunk (rep_vec (flat_chunk rep_int (flat_chunk rep_int (flat_chunk rep_int (flat_chunk rep_int flat_nil)))) rfl) (flat_chunk (rep_vec (flat_chunk rep_int (flat_chunk rep_int (flat_chunk rep_int (flat_chunk rep_int flat_nil)))) rfl) flat_nil)) rfl) (rep_two rep_int rep_int)) rep_int)),rfl⟩) fun g7 w7 p7 hs b7 cb=>?_)
 have hfr:=hfr.stp hs
 have n8:=n8.stp hs rfl
 have o8:=o8.stp hs rfl
 have q8:=q8.stp hs rfl
 have b2:=b2.stp hs rfl
 have lB:=lB.stp hs
 have mA:=mA.stp hs
 have b6:=b6.stp hs rfl
 have uK:OSF 2010 61000 0 g7 w7 3 129 ([]:List Int) p7:=cb.osf (by rfl)
 clear cb
 refine Ze .plain rfl (D_storeOc (g:=g7) (v:=jD) Try.sizeOf102 rfl b6 rfl lB fun g8 w8 hs b8 cb=>?_)
 clear cb
 have hfr:=hfr.stp hs
 have n8:=n8.stp hs rfl
 have o8:=o8.stp hs rfl
 have q8:=q8.stp hs rfl
 have b2:=b2.stp hs rfl
 have mA:=mA.stp hs
 have b7:=b7.stp hs rfl
 refine Ze .plain rfl (D_storeOc (g:=g8) (v:=kD) Try.sizeOf129 rfl b7 rfl mA fun g9 w9 hs b9 cb=>?_)
 clear cb
 have hfr:=hfr.stp hs
 have n8:=n8.stp hs rfl
 have o8:=o8.stp hs rfl
 have q8:=q8.stp hs rfl
 have b2:=b2.stp hs rfl
 have b8:=b8.stp hs rfl
 refine Zg (.int .i64 (y5.2.2.1)) rfl rfl ?_
 refine Zg (.int .i64 (y5.2.2.2)) rfl rfl ?_
 refine Zb (Zd (Zq h (fun (s:(List Int) × BoxLoom) e w=>∃ (g:Gh) (v4:Value),Fr gI wI g w∧e 4=v4∧RV g.m w (s.1:List Int) v4∧OS 1004 g w 3 (s.1:List Int) v4∧e 5=p2∧OB 2005 g w 25 (s.2:BoxLoom) p2∧OSF 2005 60500 0 g w 3 25 ((s.2).Boxes) p2∧OSF 2005 60501 1 g w 3 25 ((s.2).At) p2∧OSF 2005 60502 2 g w 87 25 ((s.2).Shuttles) p2∧e 9=p6∧OB 2009 g w 102 (y5.1:BoxBoxLoom) p6∧e 10=p7∧OB 2010 g w 129 (y5.2.1:BoxRun) p7) (fun X38 iI kI h=>?_) ?_))
 ·refine Zf (Za (Zn (.int .i64 (y5.2.2.2)) rfl rfl ?_))
  refine EL_in (.bool ((y5.2.2.2 != (0:Int)))) rfl rfl rfl rfl ?_
  refine Zb (Zd ?_)
  rcases Zt h with ⟨lD,h⟩ | ⟨lD,h⟩
  ·refine E_ct lD rfl ?_
   refine Zf (L_selfO Try.isAgg25 Try.sizeOf25 rfl b2 fun yJ lI mI=>?_)
   refine E_drawL (g:=g9) (n:=8) [(4,(fun _ _ _=>True))] [0,1,2,3,4,5,6,7] rfl mixed (by kernel_rfl) (⟨fun _=>(fun _ _ _ _ _ _=>trivial),trivial⟩) ?_
   refine L_ld (c:=yJ) rfl rfl .plain (fun _ _ h=>⟨h.ch,fun b hb _=>h.below.block b hb⟩) (lI _) rfl ?_
   refine L_p (.int .i64 (y5.2.2.1)) rfl rfl (Zk rfl) ?_
   refine L_p (.int .i64 (y5.2.2.2)) rfl rfl (Zk rfl) ?_
   refine L_p (.slice none 0 0) rfl rfl (P_assign rfl) ?_
   refine L_do (φ:=fun _ _ _=>True) rfl rfl .plain (fun g w hd=>mI _ _ _ g w ⟨hd.1.ch,fun b hb _=>hd.1.below.block b hb⟩ rfl rfl) (fun bM hv=>?_)
   clear hv
   refine L_p (.int .i64 (0)) rfl rfl (P_assign rfl) ?_
   refine L_p (.int .i64 (y5.2.2.1)) rfl rfl (P_assign rfl) ?_
   refine L_p (.int .i64 (y5.2.2.2)) rfl rfl (P_assign rfl) ?_
   refine L_nl fun cM dM hs=>?_
   have hfr:=hfr.ext hs
   have b2:=b2.ext hs
   clear hs
   refine Zb (Zd (E_ret (thn_r ?_)))
   obtain rfl:=sinj h
   obtain ⟨ad67,cv67,hp67,nI,cr67⟩:=ob_read Try.isAgg25 Try.sizeOf25 b2
   exact endm_tcttt rfl rfl (show _=.slice none 0 0 from rfl) ((show _=p2 from rfl).trans hp67) nI (show _=.int .i64 (0) from rfl) (show _=.int .i64 (y5.2.2.1) from rfl) (show _=.int .i64 (y5.2.2.2) from rfl) ⟨_,hfr,_,_,_,_,_,rfl,RV_nil,cr67,rfl,rfl,rfl⟩
  ·refine E_cf lD rfl ?_
   exact Zu (Zd (kI ([],(⟨[],[],[]⟩:BoxLoom)) _ _ ⟨g9,(.slice none 0 0),hfr,rfl,RV_nil,OS.nil,rfl,b2,n8,o8,q8,rfl,b8,rfl,b9⟩ h))
 ·rintro ⟨tD, y6⟩ vK eM ⟨jI, cH, hfr, dH, gH, iH, jH, kH, u5_0_68, u5_1_68, u5_2_68, lH, mH, yC, mB⟩ h
  obtain ⟨i6,hx,h⟩:=bsome h
  refine E_join (fun e w=>∃ (g:Gh) (v4:Value),Fr gI wI g w∧e 4=v4∧RV g.m w (i6:List Int) v4∧OS 1004 g w 3 (i6:List Int) v4∧e 5=p2∧OB 2005 g w 25 (y6:BoxLoom) p2∧OSF 2005 60500 0 g w 3 25 ((y6).Boxes) p2∧OSF 2005 60501 1 g w 3 25 ((y6).At) p2∧OSF 2005 60502 2 g w 87 25 ((y6).Shuttles) p2∧e 9=p6∧OB 2009 g w 102 (y5.1:BoxBoxLoom) p6∧e 10=p7∧OB 2010 g w 129 (y5.2.1:BoxRun) p7) (fun Q' hQ=>?_) (fun aK xK hR=>?_)
  ·replace h := hx
   clear hx
   refine Zf (Za (EL_p (fPtr p7 0) (Zc at_129_0 yC (OB.ptr mB)) rfl ?_))
   refine Ze .plain rfl (D_loadF (g:=jI) part_BoxRun_0.1 Try.isAgg22 Try.sizeOf22 rfl mB fun nB rF=>?_)
   refine EL_p (.int .i64 (((y5.2.1).thrown).length:Int)) (P_len Try.underlying22 rfl rF) rfl ?_
   refine Zn (.int .i64 (0)) rfl rfl ?_
   refine Zb (Zd (Zr ?_))
   refine E_lp h (fun (s:(List Int) × Int) e w=>∃ (g:Gh) (v4:Value),Fr gI wI g w∧e 4=v4∧RV g.m w (s.1:List Int) v4∧OS 1004 g w 3 (s.1:List Int) v4∧e 5=p2∧OB 2005 g w 25 (y6:BoxLoom) p2∧OSF 2005 60500 0 g w 3 25 ((y6).Boxes) p2∧OSF 2005 60501 1 g w 3 25 ((y6).At) p2∧OSF 2005 60502 2 g w 87 25 ((y6).Shuttles) p2∧e 9=p6∧OB 2009 g w 102 (y5.1:BoxBoxLoom) p6∧e 10=p7∧OB 2010 g w 129 (y5.2.1:BoxRun) p7∧e 31=nB∧RV g.m w ((y5.2.1).thrown:List Int) nB∧e 32=.int .i64 ((((y5.2.1).thrown).length:Int))∧e 33=.int .i64 (s.2)) ⟨jI,(cH),hfr,dH,gH,iH,jH,kH,u5_0_68,u5_1_68,u5_2_68,lH,mH,yC,mB,rfl,rF,rfl,rfl⟩ (fun X103 nF nH=>?_)
   rintro ⟨eB,j6⟩ bK yK ⟨oB,sF,hfr,aD,pA,qA,bD,x8,u5_0_104,u5_1_104,u5_2_104,tB,i7,zB,k8,aC,j7,cC,xA⟩ h
   refine Zf (Za (EL_p (.bool ((decide (j6 < (((y5.2.1).thrown).length:Int))))) (P_int xA cC rfl) rfl ?_))
   refine Zb (Zd (Zf ?_))
   rcases Zt h with ⟨mC,h⟩ | ⟨mC,h⟩
   ·refine E_ct mC rfl ?_
    refine Zu (Zd ?_)
    obtain ⟨l9,hx,h⟩:=bsome h
    refine E_join (fun e w=>∃ (g:Gh) (v4:Value),Fr gI wI g w∧e 4=v4∧RV g.m w (l9:List Int) v4∧OS 1004 g w 3 (l9:List Int) v4∧e 5=p2∧OB 2005 g w 25 (y6:BoxLoom) p2∧OSF 2005 60500 0 g w 3 25 ((y6).Boxes) p2∧OSF 2005 60501 1 g w 3 25 ((y6).At) p2∧OSF 2005 60502 2 g w 87 25 ((y6).Shuttles) p2∧e 9=p6∧OB 2009 g w 102 (y5.1:BoxBoxLoom) p6∧e 10=p7∧OB 2010 g w 129 (y5.2.1:BoxRun) p7∧e 31=nB∧RV g.m w ((y5.2.1).thrown:List Int) nB∧e 32=.int .i64 ((((y5.2.1).thrown).length:Int))∧e 33=.int .i64 (j6)) (fun Q' hQ=>?_) (fun cK zK hR=>?_)
    ·replace h := hx
     clear hx
     refine Zr ?_
     refine Zf (Za ?_)
     obtain ⟨gA,uD,h⟩:=bsome h
     refine EL_p (ePtr nB j6 1) (Zh (α:=Int) Try.underlying22 Try.sizeOf3 aC j7 xA uD) rfl ?_
     have pI:=PT_idx j7 uD
     refine Ze .plain rfl (D_load (g:=oB) Try.isAgg3 Try.sizeOf3 rfl pI fun aL qI=>?_)
     obtain rfl:=Zj.1 qI
     refine Zg (.int .i64 (gA)) rfl rfl ?_
     refine Zb (Zd (Za (Zo aD rfl ?_)))
     refine EL_p (fPtr p6 0) (Zc at_102_0 tB (OB.ptr i7)) rfl ?_
     refine EL_p (fPtr p6 2) (P_fieldAddr2 (o1:=0) rfl at_25_2 rfl (OB.ptr i7)) rfl ?_
     refine Ze .plain rfl (D_loadF (g:=oB) (SubS.comp part_BoxBoxLoom_0 part_BoxLoom_2 rfl).1 Try.isAgg23 Try.sizeOf23 rfl i7 fun tF uF=>?_)
     refine Zn (.int .i64 (gA)) rfl rfl ?_
     refine EL_in (.int .i64 ((w64 (gA - (1:Int))))) rfl rfl rfl rfl ?_
     obtain ⟨y125,vD,h⟩:=bsome h
     refine EL_p (ePtr tF (w64 (gA - (1:Int))) 5) (Zh (α:=BoxShuttle) Try.underlying23 Try.sizeOf87 rfl uF rfl vD) rfl ?_
     have vF:=PT_idx uF vD
     refine EL_p (fPtr (ePtr tF (w64 (gA - (1:Int))) 5) 0) (Zc at_87_0 rfl (PT.ptr vF)) rfl ?_
     have rI:=Zm (part_BoxShuttle_0).1 vF
     refine Ze .plain rfl (D_load (g:=oB) Try.isAgg3 Try.sizeOf3 rfl rI fun bL sI=>?_)
     obtain rfl:=Zj.1 sI
     refine Ze .plain rfl (D_buildSlice (g:=oB) 3046 (xs:=([(y125).Colour]:List Int)) (vs:=[.int .i64 ((y125).Colour)]) Try.underlying22 Try.sizeOf3 Try.zeroValue3 rfl rfl (.cons rfl .nil) (RVs.cons (Zj.2 rfl) RVs.nil) rfl rfl fun tI cL dL hs o129 uI hxt hfl=>?_)
     have hfr:=hfr.stp hs
     have pA:=pA.stp hs
     have qA:=qA.stp hs rfl
     have u5_0_104:=u5_0_104.stp hs rfl
     have u5_1_104:=u5_1_104.stp hs rfl
     have u5_2_104:=u5_2_104.stp hs rfl
     have x8:=x8.stp hs rfl
     have i7:=i7.stp hs rfl
     have k8:=k8.stp hs rfl
     have j7:=j7.stp hs
     obtain ⟨oF,oH,h⟩:=bsome h
     refine Ze .plain rfl (D_append (g:=tI) (i:=1004) Try.underlying22 info_3 rfl rfl qA pA rfl uI oH fun vI eL xF hs o130 xI _=>?_)
     have hfr:=hfr.stp hs
     have u5_0_104:=u5_0_104.stp hs rfl
     have u5_1_104:=u5_1_104.stp hs rfl
     have u5_2_104:=u5_2_104.stp hs rfl
     have x8:=x8.stp hs rfl
     have i7:=i7.stp hs rfl
     have k8:=k8.stp hs rfl
     have j7:=j7.stp hs
     refine Zg xF rfl rfl ?_
     refine Zb (blk_n ?_)
     obtain rfl:=sinj h
     exact hQ _ _ ⟨vI,(xF),hfr,rfl,xI,o130,bD,x8,u5_0_104,u5_1_104,u5_2_104,tB,i7,zB,k8,aC,j7,cC,xA⟩
    ·clear hx
     obtain ⟨yI,yF,hfr,zF,aG,bG,cG,dG,u5_0_132,u5_1_132,u5_2_132,eG,gG,bE,cE,dE,eE,gE,iE⟩:=hR
     refine Za (EL_in (.int .i64 ((w64 (j6 + (1:Int))))) iE rfl rfl rfl ?_)
     refine Zn (.int .i64 ((w64 (j6 + (1:Int))))) rfl rfl ?_
     exact Zb (Zd (nH (l9,(w64 (j6 + (1:Int)))) _ _ ⟨yI,(yF),hfr,zF,aG,bG,cG,dG,u5_0_132,u5_1_132,u5_2_132,eG,gG,bE,cE,dE,eE,gE,rfl⟩ h))
   ·refine E_cf mC rfl ?_
    refine E_exit ?_
    refine thn_e ?_
    refine thn_e ?_
    refine blk_hit ?_
    obtain rfl:=sinj h
    exact hQ _ _ ⟨oB,(sF),hfr,aD,pA,qA,bD,x8,u5_0_104,u5_1_104,u5_2_104,tB,i7,zB,k8⟩
  ·clear hx
   obtain ⟨zI,t5,hfr,hG,v6,x6,cD,r8,u5_0_133,u5_1_133,u5_2_133,eD,y8,z9,i5⟩:=hR
   refine Zf (L_loadO (x:=.tmp 50) (SubS.comp part_BoxBoxLoom_0 part_BoxLoom_0 rfl).1 Try.isAgg22 Try.sizeOf22 y8 fun iG aJ pH=>?_)
   obtain ⟨iA,qH,h⟩:=bsome h
   refine L_loadO (x:=.tmp 55) (SubS.comp (SubS.comp part_BoxRun_1 part_BoxRace_1 rfl) part_BoxPick_0 rfl).1 Try.isAgg3 Try.sizeOf3 i5 fun gL bJ sH=>?_
   obtain rfl:=Zj.1 bJ
   refine L_loadO (x:=.tmp 59) (SubS.comp (SubS.comp part_BoxRun_1 part_BoxRace_1 rfl) part_BoxPick_1 rfl).1 Try.isAgg3 Try.sizeOf3 i5 fun iL cJ tH=>?_
   obtain rfl:=Zj.1 cJ
   refine L_loadO (x:=.tmp 63) (SubS.comp part_BoxBoxLoom_0 part_BoxLoom_2 rfl).1 Try.isAgg23 Try.sizeOf23 y8 fun jG dJ uH=>?_
   obtain ⟨jA,vH,h⟩:=bsome h
   refine E_drawL (g:=zI) (n:=17) [(3,(fun v g w=>OWx (Ow.list 3 (Ow.sh Int)) 4052 g w iA v)),(12,(fun v g w=>OA 4061 g w 3 ([(((y5.2.1).last).at_).Left,(((y5.2.1).last).at_).Right]:List Int) v)),(16,(fun v g w=>OWx (Ow.list 87 (Ow.sh BoxShuttle)) 4065 g w jA v))] [0,1,2,3,4,5,6,7,8,9,10,11,12,13,14,15,16] rfl mixed (by kernel_rfl) (⟨fun _=>up_owx,fun _=>up_oa,fun _=>up_owx,trivial⟩) ?_
   refine L_p (fPtr p6 0) rfl rfl (Zc at_102_0 eD (OB.ptr y8)) ?_
   refine L_p (fPtr p6 0) rfl rfl (P_fieldAddr2 (o1:=0) rfl at_25_0 rfl (OB.ptr y8)) ?_
   refine L_ld (c:=iG) rfl rfl .plain (fun _ _ h=>⟨h.ch,fun b hb _=>h.below.block b hb⟩) pH rfl ?_
   refine L_do (φ:=fun v g w=>OWx (Ow.list 3 (Ow.sh Int)) 4052 g w iA v) rfl rfl .plain (fun g w hd=>D_callG (g:=g) (vs:=[iG]) en78 (.cons rfl .nil) (W78 (iO:=4052) (aJ.ext hd.1) qH) fun g' w' v hs hr=>⟨g',hs,hr⟩) (fun mD hv=>?_)
   clear hv
   refine L_p (fPtr p7 1) rfl rfl (Zc at_129_1 z9 (OB.ptr i5)) ?_
   refine L_p (fPtr p7 9) rfl rfl (P_fieldAddr2 (o1:=1) rfl at_108_1 rfl (OB.ptr i5)) ?_
   refine L_p (fPtr p7 9) rfl rfl (P_fieldAddr2 (o1:=9) rfl at_83_0 rfl (OB.ptr i5)) ?_
   refine L_ld (c:=.int .i64 ((((y5.2.1).last).at_).Left)) rfl rfl .plain (fun _ _ h=>⟨h.ch,fun b hb _=>h.below.block b hb⟩) sH rfl ?_
   refine L_p (fPtr p7 1) rfl rfl (Zc at_129_1 z9 (OB.ptr i5)) ?_
   refine L_p (fPtr p7 9) rfl rfl (P_fieldAddr2 (o1:=1) rfl at_108_1 rfl (OB.ptr i5)) ?_
   refine L_p (fPtr p7 10) rfl rfl (P_fieldAddr2 (o1:=9) rfl at_83_1 rfl (OB.ptr i5)) ?_
   refine L_ld (c:=.int .i64 ((((y5.2.1).last).at_).Right)) rfl rfl .plain (fun _ _ h=>⟨h.ch,fun b hb _=>h.below.block b hb⟩) tH rfl ?_
   refine L_do (φ:=fun v g w=>OA 4061 g w 3 ([(((y5.2.1).last).at_).Left,(((y5.2.1).last).at_).Right]:List Int) v) rfl rfl .plain (fun g w hd=>D_buildSliceA (g:=g) 4061 (xs:=([(((y5.2.1).last).at_).Left,(((y5.2.1).last).at_).Right]:List Int)) (vs:=[.int .i64 ((((y5.2.1).last).at_).Left),.int .i64 ((((y5.2.1).last).at_).Right)]) Try.underlying22 Try.sizeOf3 Try.zeroValue3 rfl rfl (.cons rfl (.cons rfl .nil)) (RVs.cons (Zj.2 rfl) (RVs.cons (Zj.2 rfl) RVs.nil)) rfl rfl fun g' w' v hs b hxt=>⟨g',hxt,b⟩) (fun nD hv=>?_)
   clear hv
   refine L_p (fPtr p6 0) rfl rfl (Zc at_102_0 eD (OB.ptr y8)) ?_
   refine L_p (fPtr p6 2) rfl rfl (P_fieldAddr2 (o1:=0) rfl at_25_2 rfl (OB.ptr y8)) ?_
   refine L_ld (c:=jG) rfl rfl .plain (fun _ _ h=>⟨h.ch,fun b hb _=>h.below.block b hb⟩) uH rfl ?_
   refine L_do (φ:=fun v g w=>OWx (Ow.list 87 (Ow.sh BoxShuttle)) 4065 g w jA v) rfl rfl .plain (fun g w hd=>D_callG (g:=g) (vs:=[jG]) en79 (.cons rfl .nil) (W79 (iO:=4065) (dJ.ext hd.1) vH) fun g' w' v hs hr=>⟨g',hs,hr⟩) (fun oD hv=>?_)
   clear hv
   refine L_nil fun jL eJ hall=>?_
   have hs:=hall.1
   have hfr:=hfr.ext hs
   have v6:=v6.ext hs
   have x6:=x6.ext hs
   have r8:=r8.ext hs
   have i5:=i5.ext hs
   obtain ⟨sk161,ow161,ok161⟩:=(word_all (A:=fun g w=>OWx (Ow.list 3 (Ow.sh Int)) 4052 g w iA mD) 3 rfl hall)
   have b170:=(word_all (A:=fun g w=>OA 4061 g w 3 ([(((y5.2.1).last).at_).Left,(((y5.2.1).last).at_).Right]:List Int) nD) 12 rfl hall)
   obtain ⟨sk174,ow174,ok174⟩:=(word_all (A:=fun g w=>OWx (Ow.list 87 (Ow.sh BoxShuttle)) 4065 g w jA oD) 16 rfl hall)
   clear hs hall
   obtain ⟨sk176,ow176,ok176⟩:=OA.toW b170
   have wn177:=Wn.fl (OW.wn ow174)
   obtain ⟨gq178,hs,_,wn178⟩:=Wn.pair (OW.wn ow176) wn177 rfl
   have hfr:=hfr.stp hs
   have v6:=v6.stp hs
   have x6:=x6.stp hs rfl
   have r8:=r8.stp hs rfl
   have i5:=i5.stp hs rfl
   have ow161:=ow161.stp hs rfl
   obtain ⟨gq179,hs,_,wn179⟩:=Wn.pair (OW.wn ow161) wn178 rfl
   have hfr:=hfr.stp hs
   have v6:=v6.stp hs
   have x6:=x6.stp hs rfl
   have r8:=r8.stp hs rfl
   have i5:=i5.stp hs rfl
   obtain ⟨kG,xD⟩:∃ v,v=(Value.agg (setCh [[.slice none 0 0],[.slice none 0 0],[.slice none 0 0]] [(0,mD),(1,nD),(2,oD)]).flatten.toArray):=⟨_,rfl⟩
   have ow175:OW ow_BoxLoom 4065 gq179 eJ (⟨iA,([(((y5.2.1).last).at_).Left,(((y5.2.1).last).at_).Right]:List Int),jA⟩:BoxLoom) (sk161,(sk176,sk174)) kG:=xD ▸ Wn.mk_ (Wn.struct (x:=((⟨iA,([(((y5.2.1).last).at_).Left,(((y5.2.1).last).at_).Right]:List Int),jA⟩:BoxLoom))) wn179)
   refine EL_p kG (xD ▸ P_build (vs:=[(0,mD),(1,nD),(2,oD)]) [[.slice none 0 0],[.slice none 0 0],[.slice none 0 0]] lay_25 rfl rfl (.cons rfl (.cons rfl (.cons rfl .nil))) ⟨⟨_,rfl,OW.csz ow161⟩,⟨⟨_,rfl,OW.csz ow176⟩,⟨⟨_,rfl,OW.csz ow174⟩,trivial⟩⟩⟩) rfl ?_
   refine Ze .plain rfl (D_storeOW (g:=gq179) Try.sizeOf25 cD r8 rfl ow175 rfl fun gj180 lG lL bk180 hsa hsb hpp b180=>?_)
   have hfr:=hfr.stp hsa
   have v6:=v6.stp hsa
   have x6:=x6.stp hsa rfl
   have i5:=i5.stp hsa rfl
   have hfr:=hfr.stp hsb
   have v6:=v6.stp hsb
   have x6:=x6.stp hsb rfl
   have i5:=i5.stp hsb rfl
   clear hsa hsb
   subst hpp
   refine Zb (Zd ?_)
   obtain ⟨jB,hx,h⟩:=bsome h
   refine E_join (fun e w=>∃ (g:Gh) ,Fr gI wI g w∧e 4=t5∧RV g.m w (i6:List Int) t5∧OS 1004 g w 3 (i6:List Int) t5∧e 5=(Value.pointer (some ⟨bk180,0,none⟩))∧OVb ow_BoxLoom 2005 g w 25 (jB:BoxLoom) bk180∧e 10=p7∧OB 2010 g w 129 (y5.2.1:BoxRun) p7) (fun Q' hQ=>?_) (fun dK mL hR=>?_)
   ·replace h := hx
    clear hx
    refine Zf (Za (EL_p (fPtr p7 1) (Zc at_129_1 z9 (OB.ptr i5)) rfl ?_))
    refine EL_p (fPtr p7 1) (P_fieldAddr2 (o1:=1) rfl at_108_0 rfl (OB.ptr i5)) rfl ?_
    refine Ze .plain rfl (D_loadF (g:=lG) (SubS.comp part_BoxRun_1 part_BoxRace_0 rfl).1 Try.isAgg76 Try.sizeOf76 rfl i5 fun n9 gJ=>?_)
    refine Zn (.int .i64 (0)) rfl rfl ?_
    refine Zb (Zd (Zr ?_))
    refine E_lp h (fun (s:BoxLoom × Int) e w=>∃ (g:Gh) ,Fr gI wI g w∧e 4=t5∧RV g.m w (i6:List Int) t5∧OS 1004 g w 3 (i6:List Int) t5∧e 5=(Value.pointer (some ⟨bk180,0,none⟩))∧OVb ow_BoxLoom 2005 g w 25 (s.1:BoxLoom) bk180∧e 10=p7∧OB 2010 g w 129 (y5.2.1:BoxRun) p7∧e 69=n9∧RV g.m w (((y5.2.1).last).boxes:Vector (Vector Int 4) 2) n9∧e 70=.int .i64 (s.2)) ⟨lG,hfr,hG,v6,x6,cD,⟨_,b180,(⟨ok161,⟨ok176,ok174⟩⟩:(ow_BoxLoom).ok (sk161,(sk176,sk174)))⟩,z9,i5,rfl,gJ,rfl⟩ (fun X425 pF xH=>?_)
    rintro ⟨iB,i3⟩ eK nL ⟨mG,hfr,gD,a9,d9,iD,⟨tJ,i9,dC⟩,eC,l8,iC,m7,bA⟩ h
    refine Zf (Za (EL_in (.bool ((decide (i3 < (2:Int))))) bA rfl rfl rfl ?_))
    refine Zb (Zd (Zf ?_))
    rcases Zt h with ⟨qC,h⟩ | ⟨qC,h⟩
    ·refine E_ct qC rfl ?_
     refine Zu (Zd ?_)
     obtain ⟨oA,hx,h⟩:=bsome h
     refine E_join (fun e w=>∃ (g:Gh) ,Fr gI wI g w∧e 4=t5∧RV g.m w (i6:List Int) t5∧OS 1004 g w 3 (i6:List Int) t5∧e 5=(Value.pointer (some ⟨bk180,0,none⟩))∧OVb ow_BoxLoom 2005 g w 25 (oA:BoxLoom) bk180∧e 10=p7∧OB 2010 g w 129 (y5.2.1:BoxRun) p7∧e 69=n9∧RV g.m w (((y5.2.1).last).boxes:Vector (Vector Int 4) 2) n9∧e 70=.int .i64 (i3)) (fun Q' hQ=>?_) (fun lK oL hR=>?_)
     ·replace h := hx
      clear hx
      refine Zr ?_
      refine Zf (Za (Zo bA rfl ?_))
      obtain ⟨kC,yD,h⟩:=bsome h
      have rC:=RV_idxA m7 yD
      generalize yH:partV _ _ _ _=nG at rC
      refine EL_p nG (yH ▸ P_indexA Try.underlying76 Try.isAgg75 Try.sizeOf75 iC m7 bA yD) rfl ?_
      refine Ze .plain rfl (D_allocOc (g:=mG) 2014 ((⟨List.toArray [0,0,0,0],rfl⟩:Vector Int 4):Vector Int 4) Try.zeroValue75 (fun m w=>⟨_,(rep_vec (flat_chunk rep_int (flat_chunk rep_int (flat_chunk rep_int (flat_chunk rep_int flat_nil)))) rfl),rfl⟩) fun iJ pL qL hs b547 cb=>?_)
      have hfr:=hfr.stp hs
      have a9:=a9.stp hs
      have d9:=d9.stp hs rfl
      have i9:=i9.stp hs rfl
      have l8:=l8.stp hs rfl
      have m7:=m7.stp hs
      have rC:=rC.stp hs
      clear cb
      refine Zg (.int .i64 (i3)) rfl rfl ?_
      refine Ze .plain rfl (D_storeOc (g:=iJ) (v:=nG) Try.sizeOf75 rfl b547 rfl rC fun oG rL hs b548 cb=>?_)
      clear cb
      have hfr:=hfr.stp hs
      have a9:=a9.stp hs
      have d9:=d9.stp hs rfl
      have i9:=i9.stp hs rfl
      have l8:=l8.stp hs rfl
      have m7:=m7.stp hs
      refine Zb (Zd (Zf (Za (Ze .plain rfl (D_loadO (g:=oG) Try.isAgg75 Try.sizeOf75 rfl b548 fun tC jJ=>?_)))))
      refine Zn (.int .i64 (0)) rfl rfl ?_
      refine Zb (Zd (Zr ?_))
      refine E_lp h (fun (s:BoxLoom × Int) e w=>∃ (g:Gh) ,Fr gI wI g w∧e 4=t5∧RV g.m w (i6:List Int) t5∧OS 1004 g w 3 (i6:List Int) t5∧e 5=(Value.pointer (some ⟨bk180,0,none⟩))∧OVb ow_BoxLoom 2005 g w 25 (s.1:BoxLoom) bk180∧e 10=p7∧OB 2010 g w 129 (y5.2.1:BoxRun) p7∧e 13=.int .i64 (i3)∧e 69=n9∧RV g.m w (((y5.2.1).last).boxes:Vector (Vector Int 4) 2) n9∧e 70=.int .i64 (i3)∧e 74=tC∧RV g.m w (kC:Vector Int 4) tC∧e 75=.int .i64 (s.2)) ⟨oG,hfr,gD,a9,d9,iD,⟨_,i9,dC⟩,eC,l8,rfl,iC,m7,bA,rfl,jJ,rfl⟩ (fun X550 qF zH=>?_)
      rintro ⟨o0,x5⟩ mK kJ ⟨sD,hfr,vB,t8,v8,u9,⟨u3,rA,m8⟩,yA,v7,zA,aB,i8,bB,cB,d7,k9⟩ h
      refine Zf (Za (EL_in (.bool ((decide (x5 < (4:Int))))) k9 rfl rfl rfl ?_))
      refine Zb (Zd (Zf ?_))
      rcases Zt h with ⟨uC,h⟩ | ⟨uC,h⟩
      ·refine E_ct uC rfl ?_
       refine Zu (Zd ?_)
       obtain ⟨nA,hx,h⟩:=bsome h
       refine E_join (fun e w=>∃ (g:Gh) ,Fr gI wI g w∧e 4=t5∧RV g.m w (i6:List Int) t5∧OS 1004 g w 3 (i6:List Int) t5∧e 5=(Value.pointer (some ⟨bk180,0,none⟩))∧OVb ow_BoxLoom 2005 g w 25 (nA:BoxLoom) bk180∧e 10=p7∧OB 2010 g w 129 (y5.2.1:BoxRun) p7∧e 13=.int .i64 (i3)∧e 69=n9∧RV g.m w (((y5.2.1).last).boxes:Vector (Vector Int 4) 2) n9∧e 70=.int .i64 (i3)∧e 74=tC∧RV g.m w (kC:Vector Int 4) tC∧e 75=.int .i64 (x5)) (fun Q' hQ=>?_) (fun nK tL hR=>?_)
       ·replace h := hx
        clear hx
        refine Zr ?_
        refine Zf (Za (Zo k9 rfl ?_))
        obtain ⟨l5,zD,h⟩:=bsome h
        have lJ:=RV_idxA d7 zD
        refine EL_p (.int .i64 (l5)) ((Zj.1 lJ) ▸ P_indexA Try.underlying75 Try.isAgg3 Try.sizeOf3 cB d7 k9 zD) rfl ?_
        refine Zg (.int .i64 (x5)) rfl rfl ?_
        refine Zg (.int .i64 (l5)) rfl rfl ?_
        refine Zb (Zd (Zf (Za (Zn (.int .i64 (l5)) rfl rfl ?_))))
        refine EL_in (.bool ((decide (l5 > (0:Int))))) rfl rfl rfl rfl ?_
        refine Zb (Zd ?_)
        rcases Zt h with ⟨vC,h⟩ | ⟨vC,h⟩
        ·refine E_ct vC rfl ?_
         obtain ⟨a7,dB,h⟩:=bsome h
         obtain ⟨bb623,cc623,ss623,hq623,aE⟩:=(OV.slice rA (Cxt.fld (Cxt.root ow_BoxLoom bk180) fl_BoxLoom_2 (o0) (u3)) rfl rfl ((m8.2).2)).2 dB
         obtain ⟨lC,xC,h⟩:=bsome h
         refine E_drawG (g:=sD) (w:=kJ) (i:=2005) (A0:=fun g w=>OV ow_BoxLoom 2005 g w 25 (o0:BoxLoom) bk180 u3) (A1:=fun g w=>OV ow_BoxLoom 2005 g w 25 (({ o0 with Shuttles:=(List.set ((o0).Shuttles) (Int.toNat ((w64 (l5 - (1:Int))))) ({ a7 with Side:=i3 }:BoxShuttle)) }:BoxLoom):BoxLoom) bk180 u3) rA up_ov (n:=15) [(12,(fun _ g w=>OV ow_BoxLoom 2005 g w 25 (({ o0 with Shuttles:=(List.set ((o0).Shuttles) (Int.toNat ((w64 (l5 - (1:Int))))) ({ a7 with Side:=i3 }:BoxShuttle)) }:BoxLoom):BoxLoom) bk180 u3))] [0,1,2,3,4,5,6,7,8,9,10,11,12,13,14] rfl mixed (by kernel_rfl) (⟨fun _=>up_box,trivial⟩) ?_
         refine L_p ((.pointer (some ⟨bk180,(0 + 2),none⟩))) rfl rfl (P_fieldAddrH at_25_2 u9) ?_
         refine L_val (c:=(hdrV (Prod.snd (Prod.snd u3)) ((o0).Shuttles).length)) rfl rfl .plain (fun g w hd=>loadHAB (Cxt.fld (Cxt.root ow_BoxLoom bk180) fl_BoxLoom_2 (o0) (u3)) rfl rfl (Cxt.fld (Cxt.root ow_BoxLoom bk180) fl_BoxLoom_2 (({ o0 with Shuttles:=(List.set ((o0).Shuttles) (Int.toNat ((w64 (l5 - (1:Int))))) ({ a7 with Side:=i3 }:BoxShuttle)) }:BoxLoom)) (u3)) rfl rfl (by simp) ((m8.2).2) Try.isAgg23 rfl hd.1.2) ?_
         refine L_p (.int .i64 (l5)) rfl rfl (Zk rfl) ?_
         refine L_p (.int .i64 ((w64 (l5 - (1:Int))))) rfl rfl (P_int rfl rfl rfl) ?_
         refine L_p ((.pointer (some ⟨bk180,(0 + 2),none⟩))) rfl rfl (P_fieldAddrH at_25_2 u9) ?_
         refine L_val (c:=(hdrV (Prod.snd (Prod.snd u3)) ((o0).Shuttles).length)) rfl rfl .plain (fun g w hd=>loadHAB (Cxt.fld (Cxt.root ow_BoxLoom bk180) fl_BoxLoom_2 (o0) (u3)) rfl rfl (Cxt.fld (Cxt.root ow_BoxLoom bk180) fl_BoxLoom_2 (({ o0 with Shuttles:=(List.set ((o0).Shuttles) (Int.toNat ((w64 (l5 - (1:Int))))) ({ a7 with Side:=i3 }:BoxShuttle)) }:BoxLoom)) (u3)) rfl rfl (by simp) ((m8.2).2) Try.isAgg23 rfl hd.1.2) ?_
         refine L_p (.int .i64 (l5)) rfl rfl (Zk rfl) ?_
         refine L_p (.int .i64 ((w64 (l5 - (1:Int))))) rfl rfl (P_int rfl rfl rfl) ?_
         refine L_p (.int .i64 (i3)) rfl rfl (Zk zA) ?_
         refine L_p (.int .i64 (x5)) rfl rfl (Zk rfl) ?_
         refine L_p ((.pointer (some ⟨bb623,((Int.toNat ((w64 (l5 - (1:Int))))) * 5),none⟩))) rfl rfl (P_indexH Try.underlying23 Try.sizeOf87 (rfl.trans (hdr_at hq623 _)) rfl (idx_nat dB)) ?_
         refine L_p ((.pointer (some ⟨bb623,(((Int.toNat ((w64 (l5 - (1:Int))))) * 5) + 1),none⟩))) rfl rfl (P_fieldAddrH at_87_1 rfl) ?_
         refine L_do (φ:=fun _ g w=>OV ow_BoxLoom 2005 g w 25 (({ o0 with Shuttles:=(List.set ((o0).Shuttles) (Int.toNat ((w64 (l5 - (1:Int))))) ({ a7 with Side:=i3 }:BoxShuttle)) }:BoxLoom):BoxLoom) bk180 u3) rfl rfl .plain (fun g w hd=>D_storeOVR (g:=g) (u':=(i3:Int)) (Cxt.fld (Cxt.idx (Cxt.fld (Cxt.root ow_BoxLoom bk180) fl_BoxLoom_2 (o0) (u3)) ((o0).Shuttles) (Int.toNat ((w64 (l5 - (1:Int))))) bb623 cc623 ss623 (idx_nat dB).2 aE) fl_BoxShuttle_1 (a7) (())) ((congrArg (fun q=>({ o0 with Shuttles:=q }:BoxLoom)) (set_idx dB)).trans rfl) rfl (((congrArg (fun q=>(Prod.fst u3,(Prod.fst (Prod.snd u3),(Sl.at bb623 cc623 q)))) set_unit).trans (congrArg (fun q=>(Prod.fst u3,(Prod.fst (Prod.snd u3),q))) (hq623).symm)).trans rfl) Try.sizeOf3 rfl hd.1.2 rfl (Zj.2 rfl)) (fun uL hv=>?_)
         clear hv
         refine L_p ((.pointer (some ⟨bb623,((Int.toNat ((w64 (l5 - (1:Int))))) * 5),none⟩))) rfl rfl (P_indexH Try.underlying23 Try.sizeOf87 (rfl.trans (hdr_at hq623 _)) rfl (by simpa using idx_nat xC)) ?_
         refine L_p ((.pointer (some ⟨bb623,(((Int.toNat ((w64 (l5 - (1:Int))))) * 5) + 2),none⟩))) rfl rfl (P_fieldAddrH at_87_2 rfl) ?_
         refine L_nil fun mJ vL hall=>?_
         have hs:=hall.1.1
         have hfr:=hfr.stp hs
         have t8:=t8.stp hs
         have v8:=v8.stp hs rfl
         have v7:=v7.stp hs rfl
         have i8:=i8.stp hs
         have d7:=d7.stp hs
         have b631:=(word_all (A:=fun g w=>OV ow_BoxLoom 2005 g w 25 (({ o0 with Shuttles:=(List.set ((o0).Shuttles) (Int.toNat ((w64 (l5 - (1:Int))))) ({ a7 with Side:=i3 }:BoxShuttle)) }:BoxLoom):BoxLoom) bk180 u3) 12 rfl hall)
         clear hs hall
         refine Ze .plain rfl (D_storeOV (g:=mJ) (u':=(x5:Int)) (Cxt.fld (Cxt.idx (Cxt.fld (Cxt.root ow_BoxLoom bk180) fl_BoxLoom_2 (({ o0 with Shuttles:=(List.set ((o0).Shuttles) (Int.toNat ((w64 (l5 - (1:Int))))) ({ a7 with Side:=i3 }:BoxShuttle)) }:BoxLoom)) (u3)) ((({ o0 with Shuttles:=(List.set ((o0).Shuttles) (Int.toNat ((w64 (l5 - (1:Int))))) ({ a7 with Side:=i3 }:BoxShuttle)) }:BoxLoom)).Shuttles) (Int.toNat ((w64 (l5 - (1:Int))))) bb623 cc623 ss623 (idx_nat xC).2 (by simpa using aE)) fl_BoxShuttle_2 (lC) (())) ((congrArg (fun q=>({ (({ o0 with Shuttles:=(List.set ((o0).Shuttles) (Int.toNat ((w64 (l5 - (1:Int))))) ({ a7 with Side:=i3 }:BoxShuttle)) }:BoxLoom)) with Shuttles:=q }:BoxLoom)) (set_idx xC)).trans rfl) (((congrArg (fun q=>(Prod.fst u3,(Prod.fst (Prod.snd u3),(Sl.at bb623 cc623 q)))) set_unit).trans (congrArg (fun q=>(Prod.fst u3,(Prod.fst (Prod.snd u3),q))) (hq623).symm)).trans rfl) Try.sizeOf3 rfl b631 rfl (Zj.2 rfl) fun pG nJ hs b660=>?_)
         have hfr:=hfr.stp hs
         have t8:=t8.stp hs
         have v8:=v8.stp hs rfl
         have v7:=v7.stp hs rfl
         have i8:=i8.stp hs
         have d7:=d7.stp hs
         replace b660:OV ow_BoxLoom 2005 pG nJ 25 (({ (({ o0 with Shuttles:=(List.set ((o0).Shuttles) (Int.toNat ((w64 (l5 - (1:Int))))) ({ a7 with Side:=i3 }:BoxShuttle)) }:BoxLoom)) with Shuttles:=(List.set ((({ o0 with Shuttles:=(List.set ((o0).Shuttles) (Int.toNat ((w64 (l5 - (1:Int))))) ({ a7 with Side:=i3 }:BoxShuttle)) }:BoxLoom)).Shuttles) (Int.toNat ((w64 (l5 - (1:Int))))) ({ lC with Box:=x5 }:BoxShuttle)) }:BoxLoom):BoxLoom) bk180 u3:=b660
         refine Zb (blk_n ?_)
         obtain rfl:=sinj h
         exact hQ _ _ ⟨pG,hfr,vB,t8,v8,u9,⟨_,b660,m8⟩,yA,v7,zA,aB,i8,bB,cB,d7,k9⟩
        ·refine E_cf vC rfl ?_
         refine Zu (blk_n ?_)
         obtain rfl:=sinj h
         exact hQ _ _ ⟨sD,hfr,vB,t8,v8,u9,⟨_,rA,m8⟩,yA,v7,zA,aB,i8,bB,cB,d7,k9⟩
       ·clear hx
        obtain ⟨oJ,hfr,qG,rG,sG,tG,⟨uJ,uG,jE⟩,kE,lE,mE,nE,oE,rE,sE,tE,uE⟩:=hR
        refine Za (EL_in (.int .i64 ((w64 (x5 + (1:Int))))) uE rfl rfl rfl ?_)
        refine Zn (.int .i64 ((w64 (x5 + (1:Int))))) rfl rfl ?_
        exact Zb (Zd (zH (nA,(w64 (x5 + (1:Int)))) _ _ ⟨oJ,hfr,qG,rG,sG,tG,⟨_,uG,jE⟩,kE,lE,mE,nE,oE,rE,sE,tE,rfl⟩ h))
      ·refine E_cf uC rfl ?_
       refine E_exit ?_
       refine thn_e ?_
       refine thn_e ?_
       refine blk_hit ?_
       refine blk_n ?_
       obtain rfl:=sinj h
       exact hQ _ _ ⟨sD,hfr,vB,t8,v8,u9,⟨_,rA,m8⟩,yA,v7,aB,i8,bB⟩
     ·clear hx
      obtain ⟨pJ,hfr,vG,xG,yG,zG,⟨vJ,aH,vE⟩,xE,yE,zE,cF,dF⟩:=hR
      refine Za (EL_in (.int .i64 ((w64 (i3 + (1:Int))))) dF rfl rfl rfl ?_)
      refine Zn (.int .i64 ((w64 (i3 + (1:Int))))) rfl rfl ?_
      exact Zb (Zd (xH (oA,(w64 (i3 + (1:Int)))) _ _ ⟨pJ,hfr,vG,xG,yG,zG,⟨_,aH,vE⟩,xE,yE,zE,cF,rfl⟩ h))
    ·refine E_cf qC rfl ?_
     refine E_exit ?_
     refine thn_e ?_
     refine thn_e ?_
     refine blk_hit ?_
     obtain rfl:=sinj h
     exact hQ _ _ ⟨mG,hfr,gD,a9,d9,iD,⟨_,i9,dC⟩,eC,l8⟩
   ·clear hx
    obtain ⟨qJ,hfr,bH,y9,zJ,yB,⟨xJ,uA,eF⟩,iF,jC⟩:=hR
    refine Zf (L_self Try.isAgg25 Try.sizeOf25 rfl uA fun rJ aI bI=>?_)
    refine L_loadO (x:=.tmp 99) part_BoxRun_2.1 Try.isAgg3 Try.sizeOf3 jC fun xL sJ cI=>?_
    obtain rfl:=Zj.1 sJ
    refine E_drawL (g:=qJ) (n:=9) [(5,(fun _ _ _=>True))] [0,1,2,3,4,5,6,7,8] rfl mixed (by kernel_rfl) (⟨fun _=>(fun _ _ _ _ _ _=>trivial),trivial⟩) ?_
    refine L_p t5 rfl rfl (Zk bH) ?_
    refine L_ld (c:=rJ) rfl rfl .plain (fun _ _ h=>⟨h.ch,fun b hb _=>h.below.block b hb⟩) (aI _) yB ?_
    refine L_p (fPtr p7 11) rfl rfl (Zc at_129_2 iF (OB.ptr jC)) ?_
    refine L_ld (c:=.int .i64 ((y5.2.1).moves)) rfl rfl .plain (fun _ _ h=>⟨h.ch,fun b hb _=>h.below.block b hb⟩) cI rfl ?_
    refine L_p t5 rfl rfl (P_assign rfl) ?_
    refine L_do (φ:=fun _ _ _=>True) rfl rfl .plain (fun g w hd=>bI _ _ _ g w ⟨hd.1.ch,fun b hb _=>hd.1.below.block b hb⟩ yB rfl) (fun yL hv=>?_)
    clear hv
    refine L_p (.int .i64 ((y5.2.1).moves)) rfl rfl (P_assign rfl) ?_
    refine L_p (.int .i64 (0)) rfl rfl (P_assign rfl) ?_
    refine L_p (.int .i64 (0)) rfl rfl (P_assign rfl) ?_
    refine L_nl fun zL aM hs=>?_
    have hfr:=hfr.ext hs
    have y9:=y9.ext hs
    have uA:=uA.ext hs
    clear hs
    refine Zb (Zd (E_ret ?_))
    obtain ⟨go680,hs,b680⟩:=OV.toOB uA eF
    have hfr:=hfr.stp hs
    have y9:=y9.stp hs
    obtain rfl:=sinj h
    obtain ⟨ad681,cv681,hp681,dI,cr681⟩:=ob_read Try.isAgg25 Try.sizeOf25 b680
    exact endm_tcttt rfl rfl (show _=t5 from rfl) ((show _=(Value.pointer (some ⟨bk180,0,none⟩)) from yB).trans hp681) dI (show _=.int .i64 ((y5.2.1).moves) from rfl) (show _=.int .i64 (0) from rfl) (show _=.int .i64 (0) from rfl) ⟨_,hfr,_,_,_,_,_,rfl,y9,cr681,rfl,rfl,rfl⟩
def f7 (x0:Race):Option (Bool):=
 (f38 x0).bind fun y4=>
 (f39 x0 y4 ((24:Int))).bind fun i3=>
 (f15 y4).bind fun gS=>
 (f28 (i3.1)).bind fun iS=>
 (f40 gS iS).bind fun i5=>
 (f15 y4).bind fun jS=>
 (f28 (i3.1)).bind fun lS=>
 (f29 jS lS).bind fun b7=>
 jn (σ:=Unit) (fun _=>
  jn (σ:=Unit) (fun _=>
   (mks 8 (0:Int) ((((y4).Shuttles).length:Int))).bind fun eM=>
   jn (σ:=(List Int)) (fun iA=>
    jn (σ:=Unit) (fun _=>
     jn (σ:=Unit) (fun _=>
      (f14).bind fun lD=>
      some (lD)
      ) fun bG=>
     bif (decide (((i3.1).length : Int) > (0 : Int))) then
      (f15 y4).bind fun aJ=>
      (f43 aJ).bind fun x6=>
      jn (σ:=Bool) (fun mA=>
       Option.bind (α:=Bool) (
        bif (x6.2 != (0 : Int)) then
         some (true)
        else
         some ((!mA))
        ) fun u9=>
       bif u9 then
        some (false)
       else
        bG ()
       ) fun bJ=>
      lp (σ:=Bool × Int) (fun cJ (i7,o0)=>
       jn (σ:=Unit) (fun _=>
        jn (σ:=Bool) (fun eC=>
         cJ (eC,(w64 (o0 + (1:Int))))
         ) fun dJ=>
        Option.bind (α:=Bool) (
         bif i7 then
          some (true)
         else
          (idx (x6.1) o0).bind fun yB=>
          (idx (i5.1) (0:Int)).bind fun zB=>
          some ((yB == zB))
         ) fun nA=>
        Option.bind (α:=Bool) (
         bif (decide (o0 > (0 : Int))) then
          (idx (x6.1) o0).bind fun rC=>
          (idx (x6.1) (w64 (o0 - (1:Int)))).bind fun tC=>
          some ((decide (rC ≤ tC)))
         else
          some (false)
         ) fun y9=>
        bif y9 then
         some (false)
        else
         dJ (nA)
        ) fun eJ=>
       bif (decide (o0 < ((x6.1).length : Int))) then
        eJ ()
       else
        bJ (i7)
       ) big (false,(0:Int))
     else
      bG ()
     ) fun gJ=>
    lp (σ:=Int) (fun iJ t5=>
     jn (σ:=Unit) (fun _=>
      jn (σ:=Unit) (fun _=>
       iJ ((w64 (t5 + (1:Int))))
       ) fun jJ=>
      (idx ((y4).Shuttles) t5).bind fun a9=>
      (idx (b7.1) t5).bind fun cG=>
      (idx iA t5).bind fun aC=>
      (idx iA t5).bind fun cC=>
      (f42 ((max64 (0:Int) (w64 (((a9).Yarn).Low - aC)))) ((max64 (0:Int) (w64 (((a9).Yarn).High - cC))))).bind fun bB=>
      bif (!(decide (cG = bB))) then
       some (false)
      else
       jJ ()
      ) fun kJ=>
     bif (decide (t5 < ((b7.1).length : Int))) then
      kJ ()
     else
      gJ ()
     ) big ((0:Int))
    ) fun gM=>
   lp (σ:=(List Int) × Int) (fun iM (q8,y6)=>
    jn (σ:=Unit) (fun _=>
     jn (σ:=(List Int)) (fun vC=>
      iM (vC,(w64 (y6 + (1:Int))))
      ) fun jM=>
     jn (σ:=Unit) (fun _=>
      (idx (i3.2.1) y6).bind fun iC=>
      (idx q8 iC).bind fun mD=>
      (idx q8 iC).bind fun pS=>
      jM ((List.set q8 (Int.toNat iC) ((w64 (mD + (1:Int))))))
      ) fun kM=>
     (idx (i5.1) y6).bind fun dG=>
     (idx (i3.2.1) y6).bind fun nD=>
     (idx ((y4).Shuttles) nD).bind fun eG=>
     bif (dG != (eG).Colour) then
      some (false)
     else
      kM ()
     ) fun mM=>
    bif (decide (y6 < ((i5.1).length : Int))) then
     mM ()
    else
     gM (q8)
    ) big (eM,(0:Int))
   ) fun nM=>
  Option.bind (α:=Bool) (
   bif (decide (((i3.1).length : Int) > (0 : Int))) then
    (idx ((i5.2.1).At) (0:Int)).bind fun uA=>
    (idx (i3.1) (w64 (((i3.1).length:Int) - (1:Int)))).bind fun xA=>
    bif (uA != (xA).Left) then
     some (true)
    else
     (idx ((i5.2.1).At) (1:Int)).bind fun xC=>
     (idx (i3.1) (w64 (((i3.1).length:Int) - (1:Int)))).bind fun yC=>
     some ((xC != (yC).Right))
   else
    some (false)
   ) fun oA=>
  bif oA then
   some (false)
  else
   nM ()
  ) fun mS=>
 Option.bind (α:=Bool) (
  bif (i5.2.2.2.2 != (0 : Int)) then
   some (true)
  else
   bif (b7.2.2 != (0 : Int)) then
    some (true)
   else
    bif (i5.2.2.2.1 != (0 : Int)) then
     some (true)
    else
     bif (i5.2.2.1 != i3.2.2.2) then
      some (true)
     else
      bif (((i5.1).length : Int) != ((i3.1).length : Int)) then
       some (true)
      else
       bif (((b7.1).length : Int) != (((y4).Shuttles).length : Int)) then
        some (true)
       else
        (f41 (i5.2.1) y4 (i3.2.2.1)).bind fun oD=>
        bif (!oD) then
         some (true)
        else
         some (((((i5.2.1).At).length:Int) != (2:Int)))
  ) fun iB=>
 bif iB then
  some (false)
 else
  mS ()
def f10 (x0:Race):Option (Bool):=
 (f38 x0).bind fun y4=>
 (f39 x0 y4 ((12:Int))).bind fun x5=>
 (f15 y4).bind fun tQ=>
 (f28 (x5.1)).bind fun uQ=>
 (f40 tQ uQ).bind fun u3=>
 jn (σ:=Unit) (fun _=>
  Option.bind (α:=(List BoxPick)) (
   lp (σ:=(List BoxPick) × Int) (fun vQ (uA,g8)=>
    jn (σ:=Unit) (fun _=>
     Option.bind (α:=(List BoxPick)) (
      (idx (x5.1) g8).bind fun tK=>
      (apnd 16 uA (([tK]:List BoxPick))).bind fun xQ=>
      some (xQ)
      ) fun xA=>
     vQ (xA,(w64 (g8 - (1:Int))))
     ) fun k80=>
    bif (decide (g8 ≥ (0 : Int))) then
     k80 ()
    else
     some (uA)
    ) big (([]:List BoxPick),(w64 (((x5.1).length:Int) - (1:Int))))
   ) fun nB=>
  (f15 (u3.2.1)).bind fun yQ=>
  (f40 yQ nB).bind fun i5=>
  jn (σ:=Unit) (fun _=>
   jn (σ:=Unit) (fun _=>
    (f15 y4).bind fun uK=>
    (f28 (x5.1)).bind fun vK=>
    (f36 uK vK).bind fun o0=>
    jn (σ:=Unit) (fun _=>
     (f15 y4).bind fun xK=>
     jn (σ:=Bool) (fun k9=>
      Option.bind (α:=Bool) (
       bif k9 then
        bif (o0.2 == (9 : Int)) then
         bif (o0.1 == (0 : Int)) then
          (f14).bind fun qC=>
          some (qC)
         else
          some (false)
        else
         some (false)
       else
        some (false)
       ) fun bB=>
      some (bB)
      ) fun rG=>
     lp (σ:=BoxLoom × Bool × Int) (fun yK (d9,i9,t5)=>
      jn (σ:=Unit) (fun _=>
       jn (σ:=BoxLoom × Bool) (fun (iB,jB)=>
        yK (iB,jB,(w64 (t5 + (1:Int))))
        ) fun zK=>
       (f15 d9).bind fun aL=>
       (f28 (x5.1)).bind fun bL=>
       (f40 aL bL).bind fun i6=>
       jn (σ:=Bool) (fun l9=>
        jn (σ:=Unit) (fun _=>
         (f45 y4).bind fun cB=>
         (f41 (i6.2.1) y4 cB).bind fun rC=>
         bif rC then
          Option.bind (α:=Bool) (
           bif (o0.2 == (0 : Int)) then
            bif (o0.1 == t5) then
             (f14).bind fun tC=>
             some (tC)
            else
             some (false)
           else
            some (false)
           ) fun dB=>
          some (dB)
         else
          zK (i6.2.1,l9)
         ) fun lI=>
        Option.bind (α:=Bool) (
         bif (i6.2.2.2.2 != (0 : Int)) then
          some (true)
         else
          some (((((i6.2.1).Shuttles).length:Int) != (((y4).Shuttles).length:Int)))
         ) fun x8=>
        bif x8 then
         some (false)
        else
         lI ()
        ) fun mI=>
       bif (i6.2.2.2.2 == (9 : Int)) then
        rG (true)
       else
        mI (i9)
       ) fun cL=>
      bif (decide (t5 ≤ (15 : Int))) then
       cL ()
      else
       rG (i9)
      ) big (xK,false,(1:Int))
     ) fun dL=>
    bif (((x5.1).length : Int) == (0 : Int)) then
     Option.bind (α:=Bool) (
      bif (o0.2 == (7 : Int)) then
       bif (o0.1 == (0 : Int)) then
        (f14).bind fun yE=>
        some (yE)
       else
        some (false)
      else
       some (false)
      ) fun oB=>
     some (oB)
    else
     dL ()
    ) fun eL=>
   lp (σ:=Int) (fun gL j6=>
    jn (σ:=Unit) (fun _=>
     jn (σ:=Unit) (fun _=>
      gL ((w64 (j6 + (1:Int))))
      ) fun iL=>
     (idx (i5.1) j6).bind fun zE=>
     (idx (u3.1) (w64 ((w64 (((u3.1).length:Int) - (1:Int))) - j6))).bind fun cF=>
     bif (zE != cF) then
      some (false)
     else
      iL ()
     ) fun jL=>
    bif (decide (j6 < ((u3.1).length : Int))) then
     jL ()
    else
     eL ()
    ) big ((0:Int))
   ) fun lL=>
  Option.bind (α:=Bool) (
   bif (i5.2.2.2.2 != (0 : Int)) then
    some (true)
   else
    bif (((i5.1).length : Int) != ((u3.1).length : Int)) then
     some (true)
    else
     (f45 y4).bind fun eC=>
     (f41 (i5.2.1) y4 eC).bind fun iC=>
     some ((!iC))
   ) fun n9=>
  bif n9 then
   some (false)
  else
   lL ()
  ) fun zQ=>
 Option.bind (α:=Bool) (
  bif (u3.2.2.2.2 != (0 : Int)) then
   some (true)
  else
   bif (((u3.1).length : Int) != ((x5.1).length : Int)) then
    some (true)
   else
    (f41 (u3.2.1) y4 (x5.2.2.1)).bind fun nI=>
    some ((!nI))
  ) fun yA=>
 bif yA then
  some (false)
 else
  zQ ()
def f12 (x0:BoxLoom) (x1:List BoxPick):Option (Bool):=
 jn (σ:=Unit) (fun _=>
  (f15 x0).bind fun dE=>
  (f28 x1).bind fun mH=>
  (f46 dE).bind fun t5=>
  (f40 dE mH).bind fun y40=>
  (f43 dE).bind fun d7=>
  jn (σ:=Unit) (fun _=>
   jn (σ:=Unit) (fun _=>
    (f31 x0 x1).bind fun jB=>
    jn (σ:=Int × Int) (fun (o8,x6)=>
     Option.bind (α:=Bool) (
      bif (y40.2.2.2.2 == o8) then
       bif (y40.2.2.2.1 == x6) then
        bif (((y40.1).length : Int) == (0 : Int)) then
         bif (y40.2.2.1 == (0 : Int)) then
          (f18 (y40.2.1) ((⟨[],[],[]⟩:BoxLoom))).bind fun bB=>
          bif bB then
           (f14).bind fun dC=>
           some (dC)
          else
           some (false)
         else
          some (false)
        else
         some (false)
       else
        some (false)
      else
       some (false)
      ) fun cB=>
     some (cB)
     ) fun uE=>
    bif (jB == (0 : Int)) then
     (f32 x0 x1).bind fun i5=>
     jn (σ:=Unit) (fun _=>
      uE ((9:Int),(((i5.1).Thrown).length:Int))
      ) fun nH=>
     bif i5.2 then
      jn (σ:=Unit) (fun _=>
       jn (σ:=Unit) (fun _=>
        Option.bind (α:=Bool) (
         bif (y40.2.2.2.2 == (0 : Int)) then
          (f18 (y40.2.1) ((i5.1).After)).bind fun dB=>
          bif dB then
           bif (y40.2.2.1 == (i5.1).Moves) then
            bif (y40.2.2.2.1 == (0 : Int)) then
             (f14).bind fun eC=>
             some (eC)
            else
             some (false)
           else
            some (false)
          else
           some (false)
         else
          some (false)
         ) fun eB=>
        some (eB)
        ) fun oH=>
       lp (σ:=Int) (fun pH l5=>
        jn (σ:=Unit) (fun _=>
         jn (σ:=Unit) (fun _=>
          pH ((w64 (l5 + (1:Int))))
          ) fun qH=>
         (idx (y40.1) l5).bind fun mD=>
         (idx ((i5.1).Thrown) l5).bind fun iC=>
         (idx ((x0).Shuttles) iC).bind fun nD=>
         bif (mD != (nD).Colour) then
          some (false)
         else
          qH ()
         ) fun sH=>
        bif (decide (l5 < ((y40.1).length : Int))) then
         sH ()
        else
         oH ()
        ) big ((0:Int))
       ) fun tH=>
      bif (((y40.1).length : Int) != (((i5.1).Thrown).length : Int)) then
       some (false)
      else
       tH ()
     else
      nH ()
    else
     uE (jB,(0:Int))
    ) fun uH=>
   Option.bind (α:=Bool) (
    bif (t5 == (0 : Int)) then
     (f47 x0).bind fun vH=>
     (f19 (d7.1) vH).bind fun nA=>
     bif (!nA) then
      some (true)
     else
      bif (t5 != (0 : Int)) then
       some ((((d7.1).length:Int) != (0:Int)))
      else
       some (false)
    else
     bif (t5 != (0 : Int)) then
      some ((((d7.1).length:Int) != (0:Int)))
     else
      some (false)
    ) fun i9=>
   bif i9 then
    some (false)
   else
    uH ()
   ) fun gM=>
  Option.bind (α:=Bool) (
   (f18 dE x0).bind fun yC=>
   bif (!yC) then
    some (true)
   else
    (f23 mH x1).bind fun jC=>
    bif (!jC) then
     some (true)
    else
     (f20 x0).bind fun kC=>
     bif (t5 != kC) then
      some (true)
     else
      some ((d7.2 != t5))
   ) fun oA=>
  bif oA then
   some (false)
  else
   gM ()
  ) fun iM=>
 Option.bind (α:=Bool) (
  (f13 x0).bind fun eE=>
  bif eE then
   some (true)
  else
   some ((decide (((x1).length:Int) > (30:Int))))
  ) fun pA=>
 bif pA then
  (f14).bind fun uF=>
  some (uF)
 else
  iM ()
theorem wk12 {gI:Gh} {wI:World} {x0:BoxLoom} {x1:List BoxPick} {up0:Value} (rp0:RV gI.m wI x0 up0) {up1:Value} (rp1:RV gI.m wI x1 up1) {r:Bool} (h:f12 x0 x1=some r):Fn Try.prog 12 #[up0,up1] gI wI (fun _ _ v=>v=.bool (r)):=by
 unfold f12 at h
 refine fn_of_E Try.func12 rfl (Nat.le_of_ble_eq_true rfl) fun g0 hm hfr=>?_
 have rp0:RV g0.m wI x0 up0:=hm ▸ rp0
 have rp1:RV g0.m wI x1 up1:=hm ▸ rp1
 show E _ 175 none _ _ _ _ _
 refine Zf (Za (Ze .plain rfl (D_box (g:=g0) rfl rp0 fun g1 w1 p1 hs q1=>?_)))
 have hfr:=hfr.ext hs
 have rp1:=rp1.ext hs
 refine Zg (.bool false) rfl rfl ?_
 refine Zb (Zd (Zq h (fun (s:Unit) e w=>∃ (g:Gh) ,Fr gI wI g w∧e 1=up1∧RV g.m w (x1:List BoxPick) up1∧e 2=p1∧PT g.m w (x0:BoxLoom) p1) (fun X14 iM sM h=>?_) ?_))
 ·obtain ⟨pA, hx, h⟩ := bsome h
  refine E_join (fun e w=>∃ (g:Gh) ,Fr gI wI g w∧e 1=up1∧RV g.m w (x1:List BoxPick) up1∧e 2=p1∧PT g.m w (x0:BoxLoom) p1∧e 26=.bool (pA)) (fun Q' hQ=>?_) (fun jR tS hR=>?_)
  ·replace h := hx
   clear hx
   refine Za (Ze .plain rfl (D_load (g:=g1) Try.isAgg25 Try.sizeOf25 rfl q1 fun iO jO=>?_))
   obtain ⟨eE,tM,h⟩:=bsome h
   refine Ze .plain rfl (Zp (g:=g1) (vs:=[iO]) en13 (.cons rfl .nil) (wk13 jO tM) fun jM lR uS hs hr=>?_)
   have hfr:=hfr.ext hs
   have rp1:=rp1.ext hs
   have q1:=q1.ext hs
   subst hr
   refine Zn (.bool (eE)) rfl rfl ?_
   rcases Zt h with ⟨z9,h⟩ | ⟨z9,h⟩
   ·refine EL_s rfl rfl z9 rfl rfl ?_
    refine EL_s rfl rfl z9 rfl rfl ?_
    refine EL_s rfl rfl z9 rfl rfl ?_
    refine EL_p (.bool true) (Zl (b:=eE) rfl (pick_t z9 rfl)) rfl ?_
    refine Zb ?_
    obtain rfl:=sinj h
    exact hQ _ _ ⟨jM,hfr,rfl,rp1,rfl,q1,rfl⟩
   ·refine EL_y up1 (Zk rfl) rfl rfl z9 rfl ?_
    refine EL_y (.int .i64 ((x1).length:Int)) (P_len Try.underlying30 rfl rp1) rfl rfl z9 rfl ?_
    refine EL_y (.bool ((decide (((x1).length:Int) > (30:Int))))) (P_int rfl rfl rfl) rfl rfl z9 rfl ?_
    refine EL_p (.bool ((decide (((x1).length:Int) > (30:Int))))) (Zl (b:=eE) rfl (pick_f z9 rfl)) rfl ?_
    refine Zb ?_
    obtain rfl:=sinj h
    exact hQ _ _ ⟨jM,hfr,rfl,rp1,rfl,q1,rfl⟩
  ·clear hx
   obtain ⟨kM,hfr,bK,cK,dK,eK,gE⟩:=hR
   rcases Zt h with ⟨vE,h⟩ | ⟨vE,h⟩
   ·refine E_cond_true (Eq.trans (show ev _ _ = .bool (pA) from gE) (congrArg Value.bool vE)) ?_
    refine Zf (Za ?_)
    obtain ⟨uF,uM,h⟩:=bsome h
    refine Ze .plain rfl (Zp (g:=kM) (vs:=[]) en14 .nil (wk14  uM) fun vS mR xS hs hr=>?_)
    have hfr:=hfr.ext hs
    subst hr
    refine Zg (.bool (uF)) rfl rfl ?_
    refine Zb (Zd (E_ret (thn_r ?_)))
    obtain rfl:=sinj h
    exact end1 rfl rfl (show _=.bool (uF) from rfl) ⟨_,hfr,rfl⟩
   ·refine E_cond_false (Eq.trans (show ev _ _ = .bool (pA) from gE) (congrArg Value.bool vE)) ?_
    exact Zu (Zd (sM () _ _ ⟨kM,hfr,bK,cK,dK,eK⟩ h))
 ·rintro _ nR yS ⟨mM, hfr, iB, i3, bA, o0⟩ h
  refine Zf (Za (Ze .plain rfl (D_load (g:=mM) Try.isAgg25 Try.sizeOf25 bA o0 fun kO lO=>?_)))
  obtain ⟨dE,vM,h⟩:=bsome h
  refine Ze .plain rfl (Zp (g:=mM) (vs:=[kO]) en15 (.cons rfl .nil) (wk15 lO vM) fun mO oR nO hs hr=>?_)
  have hfr:=hfr.ext hs
  have i3:=i3.ext hs
  have o0:=o0.ext hs
  have iE:=hr
  refine Zo iB rfl ?_
  obtain ⟨mH,xM,h⟩:=bsome h
  refine Ze .plain rfl (Zp (g:=mO) (vs:=[up1]) en28 (.cons rfl .nil) (wk28 i3 xM) fun oO pR jE hs hr=>?_)
  have hfr:=hfr.ext hs
  have i3:=i3.ext hs
  have o0:=o0.ext hs
  have iE:=iE.ext hs
  have n8:=hr
  refine Ze .plain rfl (D_allocOc (g:=oO) 2005 (⟨[],[],[]⟩:BoxLoom) Try.zeroValue25 (fun m w=>⟨_,(rep_two rep_nil (rep_two rep_nil rep_nil)),rfl⟩) fun vF xH yH hs b33 cb=>?_)
  have hfr:=hfr.stp hs
  have i3:=i3.stp hs
  have o0:=o0.stp hs
  have iE:=iE.stp hs
  have n8:=n8.stp hs
  have vP:OSF 2005 60500 0 vF xH 3 25 ([]:List Int) yH:=cb.osf (by rfl)
  have xP:OSF 2005 60501 1 vF xH 3 25 ([]:List Int) yH:=cb.osf (by rfl)
  have yP:OSF 2005 60502 2 vF xH 87 25 ([]:List BoxShuttle) yH:=cb.osf (by rfl)
  clear cb
  refine Ze .plain rfl (D_storeOc (g:=vF) (v:=nO) Try.sizeOf25 rfl b33 rfl iE fun nM zS hs b34 cb=>?_)
  clear cb
  have hfr:=hfr.stp hs
  have i3:=i3.stp hs
  have o0:=o0.stp hs
  have n8:=n8.stp hs
  refine Zg jE rfl rfl ?_
  refine Zb (Zd (Zf (Za (Ze .plain rfl (D_loadO (g:=nM) Try.isAgg25 Try.sizeOf25 rfl b34 fun pO qO=>?_)))))
  obtain ⟨t5,yM,h⟩:=bsome h
  refine Ze .plain rfl (Zp (g:=nM) (vs:=[pO]) en46 (.cons rfl .nil) (wk46 qO yM) fun oM qR eT hs hr=>?_)
  have hfr:=hfr.ext hs
  have i3:=i3.ext hs
  have o0:=o0.ext hs
  have n8:=n8.ext hs
  have b34:=b34.ext hs
  subst hr
  refine Zg (.int .i64 (t5)) rfl rfl ?_
  refine Zb (Zd (Zf (Za (Ze .plain rfl (D_loadO (g:=oM) Try.isAgg25 Try.sizeOf25 rfl b34 fun rO sO=>?_)))))
  refine Zn jE rfl rfl ?_
  obtain ⟨y40,zM,h⟩:=bsome h
  refine Ze .plain rfl (Zp (g:=oM) (vs:=[rO,jE]) en40 (.cons rfl (.cons rfl .nil)) (wk40 sO n8 zM) fun tO rR lT hs hr=>?_)
  have hfr:=hfr.ext hs
  have i3:=i3.ext hs
  have o0:=o0.ext hs
  have n8:=n8.ext hs
  have b34:=b34.ext hs
  obtain ⟨u3,oD,zP,bQ,cQ,rfl,i6,sD,rfl,rfl,rfl⟩:=hr
  refine Zn (.tuple #[u3,oD,.int .i64 (y40.2.2.1),.int .i64 (y40.2.2.2.1),.int .i64 (y40.2.2.2.2)]) rfl rfl ?_
  refine EL_p u3 (Zi rfl rfl) rfl ?_
  refine EL_p oD (Zi rfl rfl) rfl ?_
  refine EL_p (.int .i64 (y40.2.2.1)) (Zi rfl rfl) rfl ?_
  refine EL_p (.int .i64 (y40.2.2.2.1)) (Zi rfl rfl) rfl ?_
  refine EL_p (.int .i64 (y40.2.2.2.2)) (Zi rfl rfl) rfl ?_
  refine Ze .plain rfl (D_allocOc (g:=tO) 2009 (⟨[],[],[]⟩:BoxLoom) Try.zeroValue25 (fun m w=>⟨_,(rep_two rep_nil (rep_two rep_nil rep_nil)),rfl⟩) fun xF zH j6 hs b41 cb=>?_)
  have hfr:=hfr.stp hs
  have i3:=i3.stp hs
  have o0:=o0.stp hs
  have n8:=n8.stp hs
  have b34:=b34.stp hs rfl
  have i6:=i6.stp hs
  have sD:=sD.stp hs
  have dQ:OSF 2009 60900 0 xF zH 3 25 ([]:List Int) j6:=cb.osf (by rfl)
  have eQ:OSF 2009 60901 1 xF zH 3 25 ([]:List Int) j6:=cb.osf (by rfl)
  have gQ:OSF 2009 60902 2 xF zH 87 25 ([]:List BoxShuttle) j6:=cb.osf (by rfl)
  clear cb
  refine Zg u3 rfl rfl ?_
  refine Ze .plain rfl (D_storeOc (g:=xF) (v:=oD) Try.sizeOf25 rfl b41 rfl sD fun pM mT hs b42 cb=>?_)
  clear cb
  have hfr:=hfr.stp hs
  have i3:=i3.stp hs
  have o0:=o0.stp hs
  have n8:=n8.stp hs
  have b34:=b34.stp hs rfl
  have i6:=i6.stp hs
  refine Zg (.int .i64 (y40.2.2.1)) rfl rfl ?_
  refine Zg (.int .i64 (y40.2.2.2.1)) rfl rfl ?_
  refine Zg (.int .i64 (y40.2.2.2.2)) rfl rfl ?_
  refine Zb (Zd (Zf (Za (Ze .plain rfl (D_loadO (g:=pM) Try.isAgg25 Try.sizeOf25 rfl b34 fun uO vO=>?_)))))
  obtain ⟨d7,bN,h⟩:=bsome h
  refine Ze .plain rfl (Zp (g:=pM) (vs:=[uO]) en43 (.cons rfl .nil) (wk43 vO bN) fun aI tR nT hs hr=>?_)
  have hfr:=hfr.ext hs
  have i3:=i3.ext hs
  have o0:=o0.ext hs
  have n8:=n8.ext hs
  have b34:=b34.ext hs
  have i6:=i6.ext hs
  have b42:=b42.ext hs
  obtain ⟨i7,iQ,rfl,r8,rfl⟩:=hr
  refine Zn (.tuple #[i7,.int .i64 (d7.2)]) rfl rfl ?_
  refine EL_p i7 (Zi rfl rfl) rfl ?_
  refine EL_p (.int .i64 (d7.2)) (Zi rfl rfl) rfl ?_
  refine Zg i7 rfl rfl ?_
  refine Zg (.int .i64 (d7.2)) rfl rfl ?_
  refine Zb (Zd (Zq h (fun (s:Unit) e w=>∃ (g:Gh) ,Fr gI wI g w∧e 1=up1∧RV g.m w (x1:List BoxPick) up1∧e 2=p1∧PT g.m w (x0:BoxLoom) p1∧e 7=.int .i64 (t5)∧e 8=u3∧RV g.m w (y40.1:List Int) u3∧e 9=j6∧OB 2009 g w 25 (y40.2.1:BoxLoom) j6∧e 10=.int .i64 (y40.2.2.1)∧e 11=.int .i64 (y40.2.2.2.1)∧e 12=.int .i64 (y40.2.2.2.2)∧e 13=i7∧RV g.m w (d7.1:List Int) i7) (fun X73 gM cN h=>?_) ?_))
  ·obtain ⟨oA, hx, h⟩ := bsome h
   refine E_join (fun e w=>∃ (g:Gh) ,Fr gI wI g w∧e 1=up1∧RV g.m w (x1:List BoxPick) up1∧e 2=p1∧PT g.m w (x0:BoxLoom) p1∧e 7=.int .i64 (t5)∧e 8=u3∧RV g.m w (y40.1:List Int) u3∧e 9=j6∧OB 2009 g w 25 (y40.2.1:BoxLoom) j6∧e 10=.int .i64 (y40.2.2.1)∧e 11=.int .i64 (y40.2.2.2.1)∧e 12=.int .i64 (y40.2.2.2.2)∧e 13=i7∧RV g.m w (d7.1:List Int) i7∧e 68=.bool (oA)) (fun Q' hQ=>?_) (fun uR oT hR=>?_)
   ·replace h := hx
    clear hx
    refine Za (Ze .plain rfl (D_loadO (g:=aI) Try.isAgg25 Try.sizeOf25 rfl b34 fun xO yO=>?_))
    refine Ze .plain rfl (D_load (g:=aI) Try.isAgg25 Try.sizeOf25 bA o0 fun zO aP=>?_)
    obtain ⟨yC,dN,h⟩:=bsome h
    refine Ze .plain rfl (Zp (g:=aI) (vs:=[xO,zO]) en18 (.cons rfl (.cons rfl .nil)) (wk18 yO aP dN) fun qM vR pT hs hr=>?_)
    have hfr:=hfr.ext hs
    have i3:=i3.ext hs
    have o0:=o0.ext hs
    have n8:=n8.ext hs
    have i6:=i6.ext hs
    have b42:=b42.ext hs
    have r8:=r8.ext hs
    subst hr
    refine EL_p (.bool (!yC)) (P_not rfl) rfl ?_
    refine Zn (.bool (!yC)) rfl rfl ?_
    rcases Zt h with ⟨gA,h⟩ | ⟨gA,h⟩
    ·refine EL_s rfl rfl gA rfl rfl ?_
     iterate 3 refine EL_s rfl rfl gA rfl rfl ?_
     refine EL_p (.bool true) (Zl (b:=(!yC)) rfl (pick_t gA rfl)) rfl ?_
     refine EL_dead 11 rfl ?_
     refine Zb ?_
     obtain rfl:=sinj h
     exact hQ _ _ ⟨qM,hfr,iB,i3,bA,o0,rfl,rfl,i6,rfl,b42,rfl,rfl,rfl,rfl,r8,rfl⟩
    ·refine EL_y jE (Zk rfl) rfl rfl gA rfl ?_
     refine EL_y up1 (Zk iB) rfl rfl gA rfl ?_
     obtain ⟨jC,eN,h⟩:=bsome h
     refine Ze (.yes2 rfl rfl gA) rfl (Zp (g:=qM) (vs:=[jE,up1]) en23 (.cons rfl (.cons rfl .nil)) (wk23 n8 i3 eN) fun bI xR sT hs hr=>?_)
     have hfr:=hfr.ext hs
     have i3:=i3.ext hs
     have o0:=o0.ext hs
     have i6:=i6.ext hs
     have b42:=b42.ext hs
     have r8:=r8.ext hs
     subst hr
     refine EL_y (.bool (!jC)) (P_not rfl) rfl rfl gA rfl ?_
     refine EL_p (.bool (!jC)) (Zl (b:=(!yC)) rfl (pick_f gA rfl)) rfl ?_
     refine Zn (.bool (!jC)) rfl rfl ?_
     rcases Zt h with ⟨iA,h⟩ | ⟨iA,h⟩
     ·refine EL_s rfl rfl iA rfl rfl ?_
      iterate 3 refine EL_s rfl rfl iA rfl rfl ?_
      refine EL_p (.bool true) (Zl (b:=(!jC)) rfl (pick_t iA rfl)) rfl ?_
      refine EL_dead 5 rfl ?_
      refine Zb ?_
      obtain rfl:=sinj h
      exact hQ _ _ ⟨bI,hfr,iB,i3,bA,o0,rfl,rfl,i6,rfl,b42,rfl,rfl,rfl,rfl,r8,rfl⟩
     ·refine EL_y (.int .i64 (t5)) (Zk rfl) rfl rfl iA rfl ?_
      refine Ze (.yes2 rfl rfl iA) rfl (D_load (g:=bI) Try.isAgg25 Try.sizeOf25 bA o0 fun bP cP=>?_)
      obtain ⟨kC,gN,h⟩:=bsome h
      refine Ze (.yes2 rfl rfl iA) rfl (Zp (g:=bI) (vs:=[bP]) en20 (.cons rfl .nil) (wk20 cP gN) fun rM yR tT hs hr=>?_)
      have hfr:=hfr.ext hs
      have i3:=i3.ext hs
      have o0:=o0.ext hs
      have i6:=i6.ext hs
      have b42:=b42.ext hs
      have r8:=r8.ext hs
      subst hr
      refine EL_y (.bool ((t5 != kC))) (P_int rfl rfl rfl) rfl rfl iA rfl ?_
      refine EL_p (.bool ((t5 != kC))) (Zl (b:=(!jC)) rfl (pick_f iA rfl)) rfl ?_
      refine Zn (.bool ((t5 != kC))) rfl rfl ?_
      rcases Zt h with ⟨jA,h⟩ | ⟨jA,h⟩
      ·refine EL_s rfl rfl jA rfl rfl ?_
       refine EL_s rfl rfl jA rfl rfl ?_
       refine EL_s rfl rfl jA rfl rfl ?_
       refine EL_p (.bool true) (Zl (b:=(t5 != kC)) rfl (pick_t jA rfl)) rfl ?_
       refine Zb ?_
       obtain rfl:=sinj h
       exact hQ _ _ ⟨rM,hfr,iB,i3,bA,o0,rfl,rfl,i6,rfl,b42,rfl,rfl,rfl,rfl,r8,rfl⟩
      ·refine EL_y (.int .i64 (d7.2)) (Zk rfl) rfl rfl jA rfl ?_
       refine EL_y (.int .i64 (t5)) (Zk rfl) rfl rfl jA rfl ?_
       refine EL_y (.bool ((d7.2 != t5))) (P_int rfl rfl rfl) rfl rfl jA rfl ?_
       refine EL_p (.bool ((d7.2 != t5))) (Zl (b:=(t5 != kC)) rfl (pick_f jA rfl)) rfl ?_
       refine Zb ?_
       obtain rfl:=sinj h
       exact hQ _ _ ⟨rM,hfr,iB,i3,bA,o0,rfl,rfl,i6,rfl,b42,rfl,rfl,rfl,rfl,r8,rfl⟩
   ·clear hx
    obtain ⟨dP,hfr,lK,mK,nK,oK,pK,qK,sK,tK,uK,cI,dI,iI,jI,kI,kE⟩:=hR
    rcases Zt h with ⟨xE,h⟩ | ⟨xE,h⟩
    ·refine E_cond_true (Eq.trans (show ev _ _ = .bool (oA) from kE) (congrArg Value.bool xE)) ?_
     refine Zf (Za (Zg (.bool false) rfl rfl ?_))
     refine Zb (Zd (E_ret (thn_r ?_)))
     obtain rfl:=sinj h
     exact end1 rfl rfl (show _=.bool false from rfl) ⟨_,hfr,rfl⟩
    ·refine E_cond_false (Eq.trans (show ev _ _ = .bool (oA) from kE) (congrArg Value.bool xE)) ?_
     exact Zu (Zd (cN () _ _ ⟨dP,hfr,lK,mK,nK,oK,pK,qK,sK,tK,uK,cI,dI,iI,jI,kI⟩ h))
  ·rintro _ jQ zR ⟨tD, hfr, qA, j7, k9, g7, lC, rA, m7, uA, v7, l9, n9, u9, oB, q8⟩ h
   refine Zq h (fun (s:Unit) e w=>∃ (g:Gh) ,Fr gI wI g w∧e 1=up1∧RV g.m w (x1:List BoxPick) up1∧e 2=p1∧PT g.m w (x0:BoxLoom) p1∧e 8=u3∧RV g.m w (y40.1:List Int) u3∧e 9=j6∧OB 2009 g w 25 (y40.2.1:BoxLoom) j6∧e 10=.int .i64 (y40.2.2.1)∧e 11=.int .i64 (y40.2.2.2.1)∧e 12=.int .i64 (y40.2.2.2.2)) (fun X121 uH vK h=>?_) ?_
   ·obtain ⟨i9, hx, h⟩ := bsome h
    refine E_join (fun e w=>∃ (g:Gh) ,Fr gI wI g w∧e 1=up1∧RV g.m w (x1:List BoxPick) up1∧e 2=p1∧PT g.m w (x0:BoxLoom) p1∧e 8=u3∧RV g.m w (y40.1:List Int) u3∧e 9=j6∧OB 2009 g w 25 (y40.2.1:BoxLoom) j6∧e 10=.int .i64 (y40.2.2.1)∧e 11=.int .i64 (y40.2.2.2.1)∧e 12=.int .i64 (y40.2.2.2.2)∧e 86=.bool (i9)) (fun Q' hQ=>?_) (fun kQ aS hR=>?_)
    ·replace h := hx
     clear hx
     refine Za (Zo lC rfl ?_)
     refine EL_in (.bool ((t5 == (0:Int)))) rfl rfl rfl rfl ?_
     refine Zn (.bool ((t5 == (0:Int)))) rfl rfl ?_
     rcases Zt h with ⟨t8,h⟩ | ⟨t8,h⟩
     ·refine EL_y i7 (Zk oB) rfl rfl t8 rfl ?_
      refine Ze (.yes2 rfl rfl t8) rfl (D_load (g:=tD) Try.isAgg25 Try.sizeOf25 k9 g7 fun iN jN=>?_)
      obtain ⟨vH,xK,h⟩:=bsome h
      refine Ze (.yes2 rfl rfl t8) rfl (Zp (g:=tD) (vs:=[iN]) en47 (.cons rfl .nil) (wk47 jN xK) fun kN lQ lN hs hr=>?_)
      have hfr:=hfr.ext hs
      have j7:=j7.ext hs
      have g7:=g7.ext hs
      have m7:=m7.ext hs
      have v7:=v7.ext hs
      have q8:=q8.ext hs
      have mN:=hr
      obtain ⟨nA,yK,h⟩:=bsome h
      refine Ze (.yes2 rfl rfl t8) rfl (Zp (g:=kN) (vs:=[i7,lN]) en19 (.cons rfl (.cons rfl .nil)) (wk19 q8 mN yK) fun yE mQ bS hs hr=>?_)
      have hfr:=hfr.ext hs
      have j7:=j7.ext hs
      have g7:=g7.ext hs
      have m7:=m7.ext hs
      have v7:=v7.ext hs
      have q8:=q8.ext hs
      subst hr
      refine EL_y (.bool (!nA)) (P_not rfl) rfl rfl t8 rfl ?_
      refine EL_p (.bool (!nA)) (Zl (b:=(t5 == (0:Int))) rfl (pick_t t8 rfl)) rfl ?_
      refine Zn (.bool (!nA)) rfl rfl ?_
      rcases Zt h with ⟨b7,h⟩ | ⟨b7,h⟩
      ·refine EL_s rfl rfl b7 rfl rfl ?_
       refine EL_s rfl rfl b7 rfl rfl ?_
       refine EL_s rfl rfl b7 rfl rfl ?_
       refine EL_dead 3 rfl ?_
       refine EL_s rfl rfl b7 rfl rfl ?_
       refine EL_p (.bool true) (Zl (b:=(!nA)) rfl (pick_t b7 rfl)) rfl ?_
       refine Zb ?_
       obtain rfl:=sinj h
       exact hQ _ _ ⟨yE,hfr,qA,j7,k9,g7,rA,m7,uA,v7,l9,n9,u9,rfl⟩
      ·refine EL_y (.int .i64 (t5)) (Zk lC) rfl rfl b7 rfl ?_
       refine EL_y (.bool ((t5 != (0:Int)))) (P_int rfl rfl rfl) rfl rfl b7 rfl ?_
       refine EL_y (.bool ((t5 != (0:Int)))) (Zk rfl) rfl rfl b7 rfl ?_
       rcases Zt h with ⟨v8,h⟩ | ⟨v8,h⟩
       ·refine EL_y i7 (Zk oB) rfl rfl v8 rfl ?_
        refine EL_y (.int .i64 ((d7.1).length:Int)) (P_len Try.underlying22 rfl q8) rfl rfl v8 rfl ?_
        refine EL_y (.bool ((((d7.1).length:Int) != (0:Int)))) (P_int rfl rfl rfl) rfl rfl v8 rfl ?_
        refine EL_y (.bool ((((d7.1).length:Int) != (0:Int)))) (Zl (b:=(t5 != (0:Int))) rfl (pick_t v8 rfl)) rfl rfl b7 rfl ?_
        refine EL_p (.bool ((((d7.1).length:Int) != (0:Int)))) (Zl (b:=(!nA)) rfl (pick_f b7 rfl)) rfl ?_
        refine Zb ?_
        obtain rfl:=sinj h
        exact hQ _ _ ⟨yE,hfr,qA,j7,k9,g7,rA,m7,uA,v7,l9,n9,u9,rfl⟩
       ·refine EL_s rfl rfl v8 rfl rfl ?_
        refine EL_s rfl rfl v8 rfl rfl ?_
        refine EL_s rfl rfl v8 rfl rfl ?_
        refine EL_y (.bool false) (Zl (b:=(t5 != (0:Int))) rfl (pick_f v8 rfl)) rfl rfl b7 rfl ?_
        refine EL_p (.bool false) (Zl (b:=(!nA)) rfl (pick_f b7 rfl)) rfl ?_
        refine Zb ?_
        obtain rfl:=sinj h
        exact hQ _ _ ⟨yE,hfr,qA,j7,k9,g7,rA,m7,uA,v7,l9,n9,u9,rfl⟩
     ·refine EL_s rfl rfl t8 rfl rfl ?_
      iterate 4 refine EL_s rfl rfl t8 rfl rfl ?_
      refine EL_p (.bool false) (Zl (b:=(t5 == (0:Int))) rfl (pick_f t8 rfl)) rfl ?_
      refine Zn (.bool false) rfl rfl ?_
      refine EL_y (.int .i64 (t5)) (Zk lC) rfl rfl rfl rfl ?_
      refine EL_y (.bool ((t5 != (0:Int)))) (P_int rfl rfl rfl) rfl rfl rfl rfl ?_
      refine EL_y (.bool ((t5 != (0:Int)))) (Zk rfl) rfl rfl rfl rfl ?_
      rcases Zt h with ⟨x8,h⟩ | ⟨x8,h⟩
      ·refine EL_y i7 (Zk oB) rfl rfl x8 rfl ?_
       refine EL_y (.int .i64 ((d7.1).length:Int)) (P_len Try.underlying22 rfl q8) rfl rfl x8 rfl ?_
       refine EL_y (.bool ((((d7.1).length:Int) != (0:Int)))) (P_int rfl rfl rfl) rfl rfl x8 rfl ?_
       refine EL_y (.bool ((((d7.1).length:Int) != (0:Int)))) (Zl (b:=(t5 != (0:Int))) rfl (pick_t x8 rfl)) rfl rfl rfl rfl ?_
       refine EL_p (.bool ((((d7.1).length:Int) != (0:Int)))) (Zl (b:=false) rfl (pick_f rfl rfl)) rfl ?_
       refine Zb ?_
       obtain rfl:=sinj h
       exact hQ _ _ ⟨tD,hfr,qA,j7,k9,g7,rA,m7,uA,v7,l9,n9,u9,rfl⟩
      ·refine EL_s rfl rfl x8 rfl rfl ?_
       refine EL_s rfl rfl x8 rfl rfl ?_
       refine EL_s rfl rfl x8 rfl rfl ?_
       refine EL_y (.bool false) (Zl (b:=(t5 != (0:Int))) rfl (pick_f x8 rfl)) rfl rfl rfl rfl ?_
       refine EL_p (.bool false) (Zl (b:=false) rfl (pick_f rfl rfl)) rfl ?_
       refine Zb ?_
       obtain rfl:=sinj h
       exact hQ _ _ ⟨tD,hfr,qA,j7,k9,g7,rA,m7,uA,v7,l9,n9,u9,rfl⟩
    ·clear hx
     obtain ⟨nN,hfr,lI,mI,nI,pI,qI,rI,sI,tI,gG,hG,iG,aD⟩:=hR
     rcases Zt h with ⟨uD,h⟩ | ⟨uD,h⟩
     ·refine E_cond_true (Eq.trans (show ev _ _ = .bool (i9) from aD) (congrArg Value.bool uD)) ?_
      refine Zf (Za (Zg (.bool false) rfl rfl ?_))
      refine Zb (Zd (E_ret (thn_r ?_)))
      obtain rfl:=sinj h
      exact end1 rfl rfl (show _=.bool false from rfl) ⟨_,hfr,rfl⟩
     ·refine E_cond_false (Eq.trans (show ev _ _ = .bool (i9) from aD) (congrArg Value.bool uD)) ?_
      exact Zu (Zd (vK () _ _ ⟨nN,hfr,lI,mI,nI,pI,qI,rI,sI,tI,gG,hG,iG⟩ h))
   ·rintro _ nQ cS ⟨uI, hfr, lE, lB, mC, y6, mB, v6, qC, a7, tB, vB, yB⟩ h
    refine Zf (Za (Ze .plain rfl (D_load (g:=uI) Try.isAgg25 Try.sizeOf25 mC y6 fun oN pN=>?_)))
    refine Zo lE rfl ?_
    obtain ⟨jB,zK,h⟩:=bsome h
    refine Ze .plain rfl (Zp (g:=uI) (vs:=[oN,up1]) en31 (.cons rfl (.cons rfl .nil)) (wk31 pN lB zK) fun zE oQ dS hs hr=>?_)
    have hfr:=hfr.ext hs
    have lB:=lB.ext hs
    have y6:=y6.ext hs
    have v6:=v6.ext hs
    have a7:=a7.ext hs
    subst hr
    refine Zg (.int .i64 (jB)) rfl rfl ?_
    refine Zg (.int .i64 (0)) rfl rfl ?_
    refine Zb (Zd (Zq h (fun (s:Int × Int) e w=>∃ (g:Gh) ,Fr gI wI g w∧e 8=u3∧RV g.m w (y40.1:List Int) u3∧e 9=j6∧OB 2009 g w 25 (y40.2.1:BoxLoom) j6∧e 10=.int .i64 (y40.2.2.1)∧e 11=.int .i64 (y40.2.2.2.1)∧e 12=.int .i64 (y40.2.2.2.2)∧e 15=.int .i64 (s.1)∧e 16=.int .i64 (s.2)) (fun X588 uE yF h=>?_) ?_))
    ·refine Zf (Za (Zn (.int .i64 (jB)) rfl rfl ?_))
     refine EL_in (.bool ((jB == (0:Int)))) rfl rfl rfl rfl ?_
     refine Zb (Zd ?_)
     rcases Zt h with ⟨vD,h⟩ | ⟨vD,h⟩
     ·refine E_ct vD rfl ?_
      refine Zf (Za (Ze .plain rfl (D_load (g:=zE) Try.isAgg25 Try.sizeOf25 mC y6 fun qN rN=>?_)))
      refine Zo lE rfl ?_
      obtain ⟨i5,aL,h⟩:=bsome h
      refine Ze .plain rfl (Zp (g:=zE) (vs:=[qN,up1]) en32 (.cons rfl (.cons rfl .nil)) (wk32 rN lB aL) fun sN pQ eS hs hr=>?_)
      have hfr:=hfr.ext hs
      have y6:=y6.ext hs
      have v6:=v6.ext hs
      have a7:=a7.ext hs
      obtain ⟨rC,eP,rfl,tC,rfl⟩:=hr
      refine Zn (.tuple #[rC,.bool (i5.2)]) rfl rfl ?_
      refine EL_p rC (Zi rfl rfl) rfl ?_
      refine EL_p (.bool (i5.2)) (Zi rfl rfl) rfl ?_
      refine Ze .plain rfl (D_allocOc (g:=sN) 2017 (⟨[],⟨[],[],[]⟩,0⟩:Grifferef04Run) Try.zeroValue58 (fun m w=>⟨_,(rep_two rep_nil (rep_two (rep_two rep_nil (rep_two rep_nil rep_nil)) rep_int)),rfl⟩) fun uC xD x5 hs b593 cb=>?_)
      have hfr:=hfr.stp hs
      have y6:=y6.stp hs
      have v6:=v6.stp hs
      have a7:=a7.stp hs rfl
      have tC:=tC.stp hs
      have gP:OSF 2017 61700 0 uC xD 3 58 ([]:List Int) x5:=cb.osf (by rfl)
      have iP:OSF 2017 61701 1 uC xD 3 58 ([]:List Int) x5:=cb.osf (by rfl)
      have jP:OSF 2017 61702 2 uC xD 3 58 ([]:List Int) x5:=cb.osf (by rfl)
      have kP:OSF 2017 61703 3 uC xD 87 58 ([]:List BoxShuttle) x5:=cb.osf (by rfl)
      clear cb
      refine Ze .plain rfl (D_storeOc (g:=uC) (v:=rC) Try.sizeOf58 rfl b593 rfl tC fun cF gS hs b594 cb=>?_)
      clear cb
      have hfr:=hfr.stp hs
      have y6:=y6.stp hs
      have v6:=v6.stp hs
      have a7:=a7.stp hs rfl
      refine Zg (.bool (i5.2)) rfl rfl ?_
      refine Zb (Zd (Zq h (fun (s:Unit) e w=>∃ (g:Gh) ,Fr gI wI g w∧e 8=u3∧RV g.m w (y40.1:List Int) u3∧e 9=j6∧OB 2009 g w 25 (y40.2.1:BoxLoom) j6∧e 10=.int .i64 (y40.2.2.1)∧e 11=.int .i64 (y40.2.2.2.1)∧e 12=.int .i64 (y40.2.2.2.2)∧e 17=x5∧OB 2017 g w 58 (i5.1:Grifferef04Run) x5) (fun X805 nH bL h=>?_) ?_))
      ·refine Zf (Za (Zn (.bool (i5.2)) rfl rfl ?_))
       refine Zb (Zd ?_)
       rcases Zt h with ⟨yD,h⟩ | ⟨yD,h⟩
       ·refine E_ct yD rfl ?_
        refine Zq h (fun (s:Unit) e w=>∃ (g:Gh) ,Fr gI wI g w∧e 2=p1∧PT g.m w (x0:BoxLoom) p1∧e 8=u3∧RV g.m w (y40.1:List Int) u3∧e 9=j6∧OB 2009 g w 25 (y40.2.1:BoxLoom) j6∧e 10=.int .i64 (y40.2.2.1)∧e 11=.int .i64 (y40.2.2.2.1)∧e 12=.int .i64 (y40.2.2.2.2)∧e 17=x5∧OB 2017 g w 58 (i5.1:Grifferef04Run) x5) (fun X810 tH cL h=>?_) ?_
        ·refine Zf (Za (Zo mB rfl ?_))
         refine EL_p (.int .i64 ((y40.1).length:Int)) (P_len Try.underlying22 rfl v6) rfl ?_
         refine EL_p (fPtr x5 0) (Zc at_58_0 rfl (OB.ptr b594)) rfl ?_
         refine Ze .plain rfl (D_loadF (g:=cF) part_Grifferef04Run_0.1 Try.isAgg22 Try.sizeOf22 rfl b594 fun iS tN=>?_)
         refine EL_p (.int .i64 (((i5.1).Thrown).length:Int)) (P_len Try.underlying22 rfl tN) rfl ?_
         refine EL_in (.bool ((((y40.1).length:Int) != (((i5.1).Thrown).length:Int)))) rfl rfl rfl rfl ?_
         refine Zb (Zd ?_)
         rcases Zt h with ⟨zD,h⟩ | ⟨zD,h⟩
         ·refine E_ct zD rfl ?_
          refine Zf (Za (Zg (.bool false) rfl rfl ?_))
          refine Zb (Zd (E_ret ?_))
          iterate 3 refine thn_r ?_
          obtain rfl:=sinj h
          exact end1 rfl rfl (show _=.bool false from rfl) ⟨_,hfr,rfl⟩
         ·refine E_cf zD rfl ?_
          exact Zu (Zd (cL () _ _ ⟨cF,hfr,mC,y6,mB,v6,qC,a7,tB,vB,yB,rfl,b594⟩ h))
        ·rintro _ qQ jS ⟨uN, hfr, vI, xI, yI, zI, aJ, bJ, jG, kG, lG, mG, nG⟩ h
         refine Zq h (fun (s:Unit) e w=>∃ (g:Gh) ,Fr gI wI g w∧e 9=j6∧OB 2009 g w 25 (y40.2.1:BoxLoom) j6∧e 10=.int .i64 (y40.2.2.1)∧e 11=.int .i64 (y40.2.2.2.1)∧e 12=.int .i64 (y40.2.2.2.2)∧e 17=x5∧OB 2017 g w 58 (i5.1:Grifferef04Run) x5) (fun X901 oH dL h=>?_) ?_
         ·refine Zf (Za (Zg (.int .i64 (0)) rfl rfl ?_))
          refine Zb (Zd (Zr ?_))
          refine E_lp h (fun (s:Int) e w=>∃ (g:Gh) ,Fr gI wI g w∧e 2=p1∧PT g.m w (x0:BoxLoom) p1∧e 8=u3∧RV g.m w (y40.1:List Int) u3∧e 9=j6∧OB 2009 g w 25 (y40.2.1:BoxLoom) j6∧e 10=.int .i64 (y40.2.2.1)∧e 11=.int .i64 (y40.2.2.2.1)∧e 12=.int .i64 (y40.2.2.2.2)∧e 17=x5∧OB 2017 g w 58 (i5.1:Grifferef04Run) x5∧e 19=.int .i64 (s)) ⟨uN,hfr,vI,xI,yI,zI,aJ,bJ,jG,kG,lG,mG,nG,rfl⟩ (fun X902 pH eL=>?_)
          rintro l5 rQ lS ⟨cJ,hfr,dJ,eJ,mE,nE,oE,rE,bD,cD,eD,gD,iD,jD⟩ h
          refine Zq h (fun (s:Unit) e w=>∃ (g:Gh) ,Fr gI wI g w∧e 2=p1∧PT g.m w (x0:BoxLoom) p1∧e 8=u3∧RV g.m w (y40.1:List Int) u3∧e 9=j6∧OB 2009 g w 25 (y40.2.1:BoxLoom) j6∧e 10=.int .i64 (y40.2.2.1)∧e 11=.int .i64 (y40.2.2.2.1)∧e 12=.int .i64 (y40.2.2.2.2)∧e 17=x5∧OB 2017 g w 58 (i5.1:Grifferef04Run) x5∧e 19=.int .i64 (l5)) (fun X905 sH gL h=>?_) ?_
          ·refine Zf (Za (Zo jD rfl ?_))
           refine Zo mE rfl ?_
           refine EL_p (.int .i64 ((y40.1).length:Int)) (P_len Try.underlying22 rfl nE) rfl ?_
           refine EL_in (.bool ((decide (l5 < ((y40.1).length:Int))))) rfl rfl rfl rfl ?_
           refine Zb (Zd ?_)
           rcases Zt h with ⟨aE,h⟩ | ⟨aE,h⟩
           ·refine E_ct aE rfl ?_
            exact Zu (Zd (gL () _ _ ⟨cJ,hfr,dJ,eJ,mE,nE,oE,rE,bD,cD,eD,gD,iD,jD⟩ h))
           ·refine E_cf aE rfl ?_
            refine E_exit ?_
            refine thn_e ?_
            refine thn_e ?_
            refine blk_hit ?_
            exact Zd (dL () _ _ ⟨cJ,hfr,oE,rE,bD,cD,eD,gD,iD⟩ h)
          ·rintro _ sQ mS ⟨vN, hfr, sE, xA, tE, yA, gJ, vC, oG, pG, qG, kD, y9, zB⟩ h
           refine Zq h (fun (s:Unit) e w=>∃ (g:Gh) ,Fr gI wI g w∧e 2=p1∧PT g.m w (x0:BoxLoom) p1∧e 8=u3∧RV g.m w (y40.1:List Int) u3∧e 9=j6∧OB 2009 g w 25 (y40.2.1:BoxLoom) j6∧e 10=.int .i64 (y40.2.2.1)∧e 11=.int .i64 (y40.2.2.2.1)∧e 12=.int .i64 (y40.2.2.2.2)∧e 17=x5∧OB 2017 g w 58 (i5.1:Grifferef04Run) x5∧e 19=.int .i64 (l5)) (fun X947 qH iL h=>?_) ?_
           ·refine Zr ?_
            refine Zf ?_
            obtain ⟨mD,zF,h⟩:=bsome h
            have xN:=PT_idx yA zF
            refine Zs (x:=.tmp 113) Try.isAgg3 Try.sizeOf3 xN fun nS yN jL=>?_
            obtain rfl:=Zj.1 yN
            have zN:=Zm (part_BoxLoom_2).1 xA
            refine Zs (x:=.tmp 115) Try.isAgg23 Try.sizeOf23 zN fun dF iJ lL=>?_
            refine L_loadO (x:=.tmp 117) part_Grifferef04Run_0.1 Try.isAgg22 Try.sizeOf22 y9 fun jJ kJ mL=>?_
            obtain ⟨iC,aG,h⟩:=bsome h
            have aO:=PT_idx kJ aG
            refine Zs (x:=.tmp 120) Try.isAgg3 Try.sizeOf3 aO fun oS bO nL=>?_
            obtain rfl:=Zj.1 bO
            obtain ⟨nD,bG,h⟩:=bsome h
            have lJ:=PT_idx iJ bG
            have cO:=Zm (part_BoxShuttle_0).1 lJ
            refine Zs (x:=.tmp 123) Try.isAgg3 Try.sizeOf3 cO fun pS dO oL=>?_
            obtain rfl:=Zj.1 dO
            refine E_drawL (g:=vN) (n:=15) [] [0,1,2,3,4,5,6,7,8,9,10,11,12,13,14] rfl mixed (by kernel_rfl) trivial ?_
            refine L_p u3 rfl rfl (Zk tE) ?_
            refine L_p (.int .i64 (l5)) rfl rfl (Zk zB) ?_
            refine L_p (ePtr u3 l5 1) rfl rfl (Zh (α:=Int) Try.underlying22 Try.sizeOf3 rfl yA rfl zF) ?_
            refine L_ld (c:=.int .i64 (mD)) rfl rfl .plain (fun _ _ h=>h.ch) jL rfl ?_
            refine L_p (fPtr p1 2) rfl rfl (Zc at_25_2 sE (PT.ptr xA)) ?_
            refine L_ld (c:=dF) rfl rfl .plain (fun _ _ h=>h.ch) lL rfl ?_
            refine L_p (fPtr x5 0) rfl rfl (Zc at_58_0 kD (OB.ptr y9)) ?_
            refine L_ld (c:=jJ) rfl rfl .plain (fun _ _ h=>⟨h.ch,fun b hb _=>h.below.block b hb⟩) mL rfl ?_
            refine L_p (.int .i64 (l5)) rfl rfl (Zk zB) ?_
            refine L_p (ePtr jJ l5 1) rfl rfl (Zh (α:=Int) Try.underlying22 Try.sizeOf3 rfl kJ rfl aG) ?_
            refine L_ld (c:=.int .i64 (iC)) rfl rfl .plain (fun _ _ h=>h.ch) nL rfl ?_
            refine L_p (ePtr dF iC 5) rfl rfl (Zh (α:=BoxShuttle) Try.underlying23 Try.sizeOf87 rfl iJ rfl bG) ?_
            refine L_p (fPtr (ePtr dF iC 5) 0) rfl rfl (Zc at_87_0 rfl (PT.ptr lJ)) ?_
            refine L_ld (c:=.int .i64 ((nD).Colour)) rfl rfl .plain (fun _ _ h=>h.ch) oL rfl ?_
            refine L_p (.bool ((mD != (nD).Colour))) rfl rfl (P_int rfl rfl rfl) ?_
            refine L_nl fun eO qS hs=>?_
            have hfr:=hfr.ext hs
            have xA:=xA.ext hs
            have yA:=yA.ext hs
            have vC:=vC.ext hs
            have y9:=y9.ext hs
            clear hs
            refine Zb (Zd ?_)
            rcases Zt h with ⟨bE,h⟩ | ⟨bE,h⟩
            ·refine E_ct bE rfl ?_
             refine Zf (Za (Zg (.bool false) rfl rfl ?_))
             refine Zb (Zd (E_ret (blk_r ?_)))
             refine thn_r ?_
             refine thn_r ?_
             refine blk_r ?_
             iterate 3 refine thn_r ?_
             obtain rfl:=sinj h
             exact end1 rfl rfl (show _=.bool false from rfl) ⟨_,hfr,rfl⟩
            ·refine E_cf bE rfl ?_
             exact Zu (blk_n (Zd (iL () _ _ ⟨eO,hfr,sE,xA,tE,yA,gJ,vC,oG,pG,qG,kD,y9,zB⟩ h)))
           ·rintro _ tQ rS ⟨gO, hfr, mJ, nJ, oJ, pJ, qJ, rJ, rG, sG, tG, uG, vG, xG⟩ h
            refine Za (Zo xG rfl ?_)
            refine EL_in (.int .i64 ((w64 (l5 + (1:Int))))) rfl rfl rfl rfl ?_
            refine Zg (.int .i64 ((w64 (l5 + (1:Int))))) rfl rfl ?_
            exact Zb (Zd (eL ((w64 (l5 + (1:Int)))) _ _ ⟨gO,hfr,mJ,nJ,oJ,pJ,qJ,rJ,rG,sG,tG,uG,vG,rfl⟩ h))
         ·rintro _ uQ sS ⟨cE, hfr, sJ, tJ, yG, zG, aH, lD, y8⟩ h
          obtain ⟨eB,hx,h⟩:=bsome h
          refine E_join (fun e w=>∃ (g:Gh) ,Fr gI wI g w∧e 4=.bool (eB)) (fun Q' hQ=>?_) (fun lP vQ hR=>?_)
          ·replace h := hx
           clear hx
           refine Za (Zo aH rfl ?_)
           refine EL_in (.bool ((y40.2.2.2.2 == (0:Int)))) rfl rfl rfl rfl ?_
           refine Zn (.bool ((y40.2.2.2.2 == (0:Int)))) rfl rfl ?_
           rcases Zt h with ⟨g8,h⟩ | ⟨g8,h⟩
           ·refine Ze (.yes2 rfl rfl g8) rfl (D_loadO (g := cE) Try.isAgg25 Try.sizeOf25 sJ tJ fun pL qL => ?_)
            refine EL_y (fPtr x5 1) (Zc at_58_1 lD (OB.ptr y8)) rfl rfl g8 rfl ?_
            refine Ze (.yes2 rfl rfl g8) rfl (D_loadF (g:=cE) part_Grifferef04Run_1.1 Try.isAgg25 Try.sizeOf25 rfl y8 fun rL tL=>?_)
            obtain ⟨dB,uJ,h⟩:=bsome h
            refine Ze (.yes2 rfl rfl g8) rfl (Zp (g:=cE) (vs:=[pL,rL]) en18 (.cons rfl (.cons rfl .nil)) (wk18 qL tL uJ) fun nB mP xQ hs hr=>?_)
            have hfr:=hfr.ext hs
            have y8:=y8.ext hs
            subst hr
            refine EL_p (.bool (dB)) (Zl (b:=(y40.2.2.2.2 == (0:Int))) rfl (pick_t g8 rfl)) rfl ?_
            refine Zn (.bool (dB)) rfl rfl ?_
            rcases Zt h with ⟨i8,h⟩ | ⟨i8,h⟩
            ·refine EL_y (.int .i64 (y40.2.2.1)) (Zk yG) rfl rfl i8 rfl ?_
             refine EL_y (fPtr x5 4) (Zc at_58_2 lD (OB.ptr y8)) rfl rfl i8 rfl ?_
             refine Ze (.yes2 rfl rfl i8) rfl (D_loadF (g:=nB) part_Grifferef04Run_2.1 Try.isAgg3 Try.sizeOf3 rfl y8 fun yQ uL=>?_)
             obtain rfl:=Zj.1 uL
             refine EL_y (.bool ((y40.2.2.1 == (i5.1).Moves))) (P_int rfl rfl rfl) rfl rfl i8 rfl ?_
             refine EL_p (.bool ((y40.2.2.1 == (i5.1).Moves))) (Zl (b:=dB) rfl (pick_t i8 rfl)) rfl ?_
             refine Zn (.bool ((y40.2.2.1 == (i5.1).Moves))) rfl rfl ?_
             rcases Zt h with ⟨a9,h⟩ | ⟨a9,h⟩
             ·refine EL_y (.int .i64 (y40.2.2.2.1)) (Zk zG) rfl rfl a9 rfl ?_
              refine EL_y (.bool ((y40.2.2.2.1 == (0:Int)))) (P_int rfl rfl rfl) rfl rfl a9 rfl ?_
              refine EL_p (.bool ((y40.2.2.2.1 == (0:Int)))) (Zl (b:=(y40.2.2.1 == (i5.1).Moves)) rfl (pick_t a9 rfl)) rfl ?_
              refine Zn (.bool ((y40.2.2.2.1 == (0:Int)))) rfl rfl ?_
              rcases Zt h with ⟨zA,h⟩ | ⟨zA,h⟩
              ·obtain ⟨eC, vJ, h⟩ := bsome h
               refine Ze (.yes2 rfl rfl zA) rfl (Zp (g:=nB) (vs:=[]) en14 .nil (wk14  vJ) fun vL nP zQ hs hr=>?_)
               have hfr:=hfr.ext hs
               subst hr
               refine EL_p (.bool (eC)) (Zl (b:=(y40.2.2.2.1 == (0:Int))) rfl (pick_t zA rfl)) rfl ?_
               refine Zg (.bool (eC)) rfl rfl ?_
               refine Zb ?_
               obtain rfl:=sinj h
               exact hQ _ _ ⟨vL,hfr,rfl⟩
              ·refine EL_s rfl rfl zA rfl rfl ?_
               refine EL_p (.bool false) (Zl (b:=(y40.2.2.2.1 == (0:Int))) rfl (pick_f zA rfl)) rfl ?_
               refine Zg (.bool false) rfl rfl ?_
               refine Zb ?_
               obtain rfl:=sinj h
               exact hQ _ _ ⟨nB,hfr,rfl⟩
             ·refine EL_s rfl rfl a9 rfl rfl ?_
              refine EL_s rfl rfl a9 rfl rfl ?_
              refine EL_p (.bool false) (Zl (b:=(y40.2.2.1 == (i5.1).Moves)) rfl (pick_f a9 rfl)) rfl ?_
              refine EL_dead 3 rfl ?_
              refine Zg (.bool false) rfl rfl ?_
              refine Zb ?_
              obtain rfl:=sinj h
              exact hQ _ _ ⟨nB,hfr,rfl⟩
            ·refine EL_s rfl rfl i8 rfl rfl ?_
             iterate 3 refine EL_s rfl rfl i8 rfl rfl ?_
             refine EL_p (.bool false) (Zl (b:=dB) rfl (pick_f i8 rfl)) rfl ?_
             refine EL_dead 7 rfl ?_
             refine Zg (.bool false) rfl rfl ?_
             refine Zb ?_
             obtain rfl:=sinj h
             exact hQ _ _ ⟨nB,hfr,rfl⟩
           ·refine EL_s rfl rfl g8 rfl rfl ?_
            iterate 3 refine EL_s rfl rfl g8 rfl rfl ?_
            refine EL_p (.bool false) (Zl (b:=(y40.2.2.2.2 == (0:Int))) rfl (pick_f g8 rfl)) rfl ?_
            refine EL_dead 13 rfl ?_
            refine Zg (.bool false) rfl rfl ?_
            refine Zb ?_
            obtain rfl:=sinj h
            exact hQ _ _ ⟨cE,hfr,rfl⟩
          ·clear hx
           obtain ⟨aR,hfr,bH⟩:=hR
           refine E_ret (thn_r ?_)
           refine thn_r ?_
           obtain rfl:=sinj h
           exact end1 rfl rfl (show _=.bool (eB) from bH) ⟨_,hfr,rfl⟩
       ·refine E_cf yD rfl ?_
        exact Zu (Zd (bL () _ _ ⟨cF,hfr,mB,v6,qC,a7,tB,vB,yB,rfl,b594⟩ h))
      ·rintro _ oP bR ⟨xL, hfr, cH, aC, dH, cC, eF, iF, nF, oF, xC⟩ h
       refine L_loadO (x:=.tmp 147) part_Grifferef04Run_0.1 Try.isAgg22 Try.sizeOf22 xC fun yL zL xJ=>?_
       refine E_drawL (g:=xL) (n:=5) [] [0,1,2,3,4] rfl mixed (by kernel_rfl) trivial ?_
       refine L_p (fPtr x5 0) rfl rfl (Zc at_58_0 oF (OB.ptr xC)) ?_
       refine L_ld (c:=yL) rfl rfl .plain (fun _ _ h=>⟨h.ch,fun b hb _=>h.below.block b hb⟩) xJ rfl ?_
       refine L_p (.int .i64 (((i5.1).Thrown).length:Int)) rfl rfl (P_len Try.underlying22 rfl zL) ?_
       refine L_p (.int .i64 (9)) rfl rfl (P_assign rfl) ?_
       refine L_p (.int .i64 (((i5.1).Thrown).length:Int)) rfl rfl (P_assign rfl) ?_
       refine L_nl fun aM cR hs=>?_
       have hfr:=hfr.ext hs
       have aC:=aC.ext hs
       have cC:=cC.ext hs
       clear hs
       exact Zb (Zd (yF ((9:Int),(((i5.1).Thrown).length:Int)) _ _ ⟨aM,hfr,cH,aC,dH,cC,eF,iF,nF,rfl,rfl⟩ h))
     ·refine E_cf vD rfl ?_
      exact Zu (Zd (yF (jB,(0:Int)) _ _ ⟨zE,hfr,mB,v6,qC,a7,tB,vB,yB,rfl,rfl⟩ h))
    ·rintro ⟨o8, x6⟩ pP bM ⟨mA, hfr, gH, iH, jH, kH, pF, qF, rF, sF, tF⟩ h
     obtain ⟨cB,hx,h⟩:=bsome h
     refine E_join (fun e w=>∃ (g:Gh) ,Fr gI wI g w∧e 4=.bool (cB)) (fun Q' hQ=>?_) (fun sP dR hR=>?_)
     ·replace h := hx
      clear hx
      refine Za (Zo rF rfl ?_)
      refine Zo sF rfl ?_
      refine EL_in (.bool ((y40.2.2.2.2 == o8))) rfl rfl rfl rfl ?_
      refine Zn (.bool ((y40.2.2.2.2 == o8))) rfl rfl ?_
      rcases Zt h with ⟨k8,h⟩ | ⟨k8,h⟩
      ·refine EL_y (.int .i64 (y40.2.2.2.1)) (Zk qF) rfl rfl k8 rfl ?_
       refine EL_y (.int .i64 (x6)) (Zk tF) rfl rfl k8 rfl ?_
       refine EL_y (.bool ((y40.2.2.2.1 == x6))) (P_int rfl rfl rfl) rfl rfl k8 rfl ?_
       refine EL_p (.bool ((y40.2.2.2.1 == x6))) (Zl (b:=(y40.2.2.2.2 == o8)) rfl (pick_t k8 rfl)) rfl ?_
       refine Zn (.bool ((y40.2.2.2.1 == x6))) rfl rfl ?_
       rcases Zt h with ⟨l8,h⟩ | ⟨l8,h⟩
       ·refine EL_y u3 (Zk gH) rfl rfl l8 rfl ?_
        refine EL_y (.int .i64 ((y40.1).length:Int)) (P_len Try.underlying22 rfl iH) rfl rfl l8 rfl ?_
        refine EL_y (.bool ((((y40.1).length:Int) == (0:Int)))) (P_int rfl rfl rfl) rfl rfl l8 rfl ?_
        refine EL_p (.bool ((((y40.1).length:Int) == (0:Int)))) (Zl (b:=(y40.2.2.2.1 == x6)) rfl (pick_t l8 rfl)) rfl ?_
        refine Zn (.bool ((((y40.1).length:Int) == (0:Int)))) rfl rfl ?_
        rcases Zt h with ⟨d9,h⟩ | ⟨d9,h⟩
        ·refine EL_y (.int .i64 (y40.2.2.1)) (Zk pF) rfl rfl d9 rfl ?_
         refine EL_y (.bool ((y40.2.2.1 == (0:Int)))) (P_int rfl rfl rfl) rfl rfl d9 rfl ?_
         refine EL_p (.bool ((y40.2.2.1 == (0:Int)))) (Zl (b:=(((y40.1).length:Int) == (0:Int))) rfl (pick_t d9 rfl)) rfl ?_
         refine Zn (.bool ((y40.2.2.1 == (0:Int)))) rfl rfl ?_
         rcases Zt h with ⟨m8,h⟩ | ⟨m8,h⟩
         ·refine Ze (.yes2 rfl rfl m8) rfl (D_loadO (g := mA) Try.isAgg25 Try.sizeOf25 jH kH fun cM dM => ?_)
          have cG:RV mA.m bM (⟨[],[],[]⟩:BoxLoom) (.agg (setCh [[.slice none 0 0],[.slice none 0 0],[.slice none 0 0]] []).flatten.toArray):=RV_build rfl (rep_pair (rep_nil) (rep_pair (rep_nil) (rep_last (rep_nil))))
          generalize yJ:(Value.agg (setCh [[.slice none 0 0],[.slice none 0 0],[.slice none 0 0]] []).flatten.toArray)=dG at cG
          refine EL_y dG (yJ ▸ P_build (vs:=[]) [[.slice none 0 0],[.slice none 0 0],[.slice none 0 0]] lay_25 rfl rfl .nil trivial) rfl rfl m8 rfl ?_
          obtain ⟨bB,zJ,h⟩:=bsome h
          refine Ze (.yes2 rfl rfl m8) rfl (Zp (g:=mA) (vs:=[cM,dG]) en18 (.cons rfl (.cons rfl .nil)) (wk18 dM cG zJ) fun eG tP eR hs hr=>?_)
          have hfr:=hfr.ext hs
          subst hr
          refine EL_p (.bool (bB)) (Zl (b:=(y40.2.2.1 == (0:Int))) rfl (pick_t m8 rfl)) rfl ?_
          refine Zn (.bool (bB)) rfl rfl ?_
          rcases Zt h with ⟨aB,h⟩ | ⟨aB,h⟩
          ·obtain ⟨dC, aK, h⟩ := bsome h
           refine Ze (.yes2 rfl rfl aB) rfl (Zp (g:=eG) (vs:=[]) en14 .nil (wk14  aK) fun eM uP gR hs hr=>?_)
           have hfr:=hfr.ext hs
           subst hr
           refine EL_p (.bool (dC)) (Zl (b:=bB) rfl (pick_t aB rfl)) rfl ?_
           refine Zg (.bool (dC)) rfl rfl ?_
           refine Zb ?_
           obtain rfl:=sinj h
           exact hQ _ _ ⟨eM,hfr,rfl⟩
          ·refine EL_s rfl rfl aB rfl rfl ?_
           refine EL_p (.bool false) (Zl (b:=bB) rfl (pick_f aB rfl)) rfl ?_
           refine Zg (.bool false) rfl rfl ?_
           refine Zb ?_
           obtain rfl:=sinj h
           exact hQ _ _ ⟨eG,hfr,rfl⟩
         ·refine EL_s rfl rfl m8 rfl rfl ?_
          refine EL_s rfl rfl m8 rfl rfl ?_
          refine EL_s rfl rfl m8 rfl rfl ?_
          refine EL_p (.bool false) (Zl (b:=(y40.2.2.1 == (0:Int))) rfl (pick_f m8 rfl)) rfl ?_
          refine EL_dead 3 rfl ?_
          refine Zg (.bool false) rfl rfl ?_
          refine Zb ?_
          obtain rfl:=sinj h
          exact hQ _ _ ⟨mA,hfr,rfl⟩
        ·refine EL_s rfl rfl d9 rfl rfl ?_
         refine EL_s rfl rfl d9 rfl rfl ?_
         refine EL_p (.bool false) (Zl (b:=(((y40.1).length:Int) == (0:Int))) rfl (pick_f d9 rfl)) rfl ?_
         refine EL_dead 8 rfl ?_
         refine Zg (.bool false) rfl rfl ?_
         refine Zb ?_
         obtain rfl:=sinj h
         exact hQ _ _ ⟨mA,hfr,rfl⟩
       ·refine EL_s rfl rfl l8 rfl rfl ?_
        refine EL_s rfl rfl l8 rfl rfl ?_
        refine EL_s rfl rfl l8 rfl rfl ?_
        refine EL_p (.bool false) (Zl (b:=(y40.2.2.2.1 == x6)) rfl (pick_f l8 rfl)) rfl ?_
        refine EL_dead 12 rfl ?_
        refine Zg (.bool false) rfl rfl ?_
        refine Zb ?_
        obtain rfl:=sinj h
        exact hQ _ _ ⟨mA,hfr,rfl⟩
      ·refine EL_s rfl rfl k8 rfl rfl ?_
       refine EL_s rfl rfl k8 rfl rfl ?_
       refine EL_s rfl rfl k8 rfl rfl ?_
       refine EL_p (.bool false) (Zl (b:=(y40.2.2.2.2 == o8)) rfl (pick_f k8 rfl)) rfl ?_
       refine EL_dead 17 rfl ?_
       refine Zg (.bool false) rfl rfl ?_
       refine Zb ?_
       obtain rfl:=sinj h
       exact hQ _ _ ⟨mA,hfr,rfl⟩
     ·clear hx
      obtain ⟨iR,hfr,lH⟩:=hR
      refine E_ret ?_
      obtain rfl:=sinj h
      exact end1 rfl rfl (show _=.bool (cB) from lH) ⟨_,hfr,rfl⟩
end Go.Proofs.Ytmpjooneiaiffaa
