import Derived.Test.YtmpjooneiaiffaaCode2
set_option maxRecDepth 8000
set_option maxHeartbeats 4000000
namespace Go.Proofs.Ytmpjooneiaiffaa
open Go.RowKit
def f97 (x0:BoxRace) (x1:BoxPick):Option (BoxRace × Int × Int):=
 (idx ((x0).boxes).toList (0:Int)).bind fun y7=>
 (idx (y7).toList (x1).Left).bind fun y9=>
 (idx ((x0).boxes).toList (1:Int)).bind fun q8=>
 (idx (q8).toList (x1).Right).bind fun u3=>
 jn (σ:=BoxRace) (fun n8=>
  (f106 (((x0).at_).Left) ((x1).Left)).bind fun t5=>
  (f106 (((x0).at_).Right) ((x1).Right)).bind fun x5=>
  (idx ((x0).boxes).toList (0:Int)).bind fun r8=>
  (idx (r8).toList (x1).Left).bind fun uA=>
  (idx (({ x0 with boxes:=(vmod ((x0).boxes) ((0:Int)) (fun b=>(vset b ((x1).Left) u3))) }).boxes).toList (1:Int)).bind fun t8=>
  (idx (t8).toList (x1).Right).bind fun a9=>
  some ({ { { x0 with boxes:=(vmod ((x0).boxes) ((0:Int)) (fun b=>(vset b ((x1).Left) u3))) } with boxes:=(vmod (({ x0 with boxes:=(vmod ((x0).boxes) ((0:Int)) (fun b=>(vset b ((x1).Left) u3))) }).boxes) ((1:Int)) (fun b=>(vset b ((x1).Right) y9))) } with at_:=x1 },(w64 (y9 + u3)),(w64 (t5 + x5)))
  ) fun v8=>
 bif ((y9 == (0 : Int)) == (u3 == (0 : Int))) then
  some (x0,(0:Int),(0:Int))
 else
  v8 ((⟨(⟨List.toArray [(⟨List.toArray [0,0,0,0],rfl⟩:Vector Int 4),(⟨List.toArray [0,0,0,0],rfl⟩:Vector Int 4)],rfl⟩:Vector (Vector Int 4) 2),⟨0,0⟩⟩:BoxRace))
theorem en97:Enters Try.prog 97:=enters_of Try.func97 (by kernel_rfl) rfl
theorem wk97 {gI:Gh} {wI:World} {x0:BoxRace} {x1:BoxPick} {up0:Value} (rp0:RV gI.m wI x0 up0) {up1:Value} (rp1:RV gI.m wI x1 up1) {r:BoxRace × Int × Int} (h:f97 x0 x1=some r):Fn Try.prog 97 #[up0,up1] gI wI (fun m w v=>∃ y0 y1 y2,v=.tuple #[y0,y1,y2]∧RV m w (r.1) y0∧y1=.int .i64 (r.2.1)∧y2=.int .i64 (r.2.2)):=by
 unfold f97 at h
 refine fn_of_E Try.func97 rfl (Nat.le_of_ble_eq_true rfl) fun g0 hm hfr=>?_
 have rp0:RV g0.m wI x0 up0:=hm ▸ rp0
 have rp1:RV g0.m wI x1 up1:=hm ▸ rp1
 show E _ 59 none _ _ _ _ _
 refine Zf (Za (Ze .plain rfl (D_boxO (g:=g0) 2002 rfl rp0 fun g1 w1 p1 hs b1=>?_)))
 have hfr:=hfr.stp hs
 have rp0:=rp0.stp hs
 have rp1:=rp1.stp hs
 refine Ze .plain rfl (D_box (g:=g1) rfl rp1 fun g2 w2 p2 hs q2=>?_)
 have hfr:=hfr.ext hs
 have rp0:=rp0.ext hs
 have rp1:=rp1.ext hs
 have b1:=b1.ext hs
 refine Ze .plain rfl (D_allocOc (g:=g2) 2004 (⟨(⟨List.toArray [(⟨List.toArray [0,0,0,0],rfl⟩:Vector Int 4),(⟨List.toArray [0,0,0,0],rfl⟩:Vector Int 4)],rfl⟩:Vector (Vector Int 4) 2),⟨0,0⟩⟩:BoxRace) Try.zeroValue108 (fun m w=>⟨_,(rep_two (rep_vec (flat_chunk (rep_vec (flat_chunk rep_int (flat_chunk rep_int (flat_chunk rep_int (flat_chunk rep_int flat_nil)))) rfl) (flat_chunk (rep_vec (flat_chunk rep_int (flat_chunk rep_int (flat_chunk rep_int (flat_chunk rep_int flat_nil)))) rfl) flat_nil)) rfl) (rep_two rep_int rep_int)),rfl⟩) fun g3 w3 p3 hs b3 cb=>?_)
 have hfr:=hfr.stp hs
 have rp0:=rp0.stp hs
 have rp1:=rp1.stp hs
 have b1:=b1.stp hs rfl
 have q2:=q2.stp hs
 clear cb
 refine Zg (.int .i64 (0)) rfl rfl ?_
 refine Zg (.int .i64 (0)) rfl rfl ?_
 refine Zb (Zd (Zf ?_))
 have q4:=Zm (part_BoxPick_0).1 q2
 refine Zs (x:=.tmp 9) Try.isAgg3 Try.sizeOf3 q4 fun v5 r5 xA=>?_
 obtain rfl:=Zj.1 r5
 obtain ⟨y7,x8,h⟩:=bsome h
 obtain ⟨hi8,he8⟩:=vat_idx x8
 obtain ⟨y9,y8,h⟩:=bsome h
 obtain ⟨hi10,he10⟩:=vat_idx y8
 refine L_loadOD (off:=((0 + ((0:Int):Int).toNat * 4) + ((x1).Left:Int).toNat * 1)) (x:=.tmp 13) (SubS.at_ (SubS.comp part_BoxRace_0 (SubS.dynC hi8 (SubS.dyn hi10) rfl) rfl) (by first | rfl | exact Nat.add_assoc _ _ _ | simp only [Nat.add_assoc,Nat.zero_add] | omega)).1 ((congrArg (vat _ hi10) he8).trans he10) Try.isAgg3 Try.sizeOf3 b1 fun dC yA d9=>?_
 obtain rfl:=Zj.1 yA
 have d7:=Zm (part_BoxPick_1).1 q2
 refine Zs (x:=.tmp 15) Try.isAgg3 Try.sizeOf3 d7 fun eC zA i9=>?_
 obtain rfl:=Zj.1 zA
 obtain ⟨q8,g7,h⟩:=bsome h
 obtain ⟨hi16,he16⟩:=vat_idx g7
 obtain ⟨u3,i7,h⟩:=bsome h
 obtain ⟨hi18,he18⟩:=vat_idx i7
 refine L_loadOD (off:=((0 + ((1:Int):Int).toNat * 4) + ((x1).Right:Int).toNat * 1)) (x:=.tmp 19) (SubS.at_ (SubS.comp part_BoxRace_0 (SubS.dynC hi16 (SubS.dyn hi18) rfl) rfl) (by first | rfl | exact Nat.add_assoc _ _ _ | simp only [Nat.add_assoc,Nat.zero_add] | omega)).1 ((congrArg (vat _ hi18) he16).trans he18) Try.isAgg3 Try.sizeOf3 b1 fun iC aB k9=>?_
 obtain rfl:=Zj.1 aB
 refine E_drawL (g:=g3) (n:=14) [] [0,1,2,3,4,5,6,7,8,9,10,11,12,13] rfl mixed (by kernel_rfl) trivial ?_
 refine L_p (fPtr p2 0) rfl rfl (Zc at_83_0 rfl (PT.ptr q2)) ?_
 refine L_ld (c:=.int .i64 ((x1).Left)) rfl rfl .plain (fun _ _ h=>h.ch) xA rfl ?_
 refine L_p (fPtr p1 0) rfl rfl (Zc at_108_0 rfl (OB.ptr b1)) ?_
 refine L_p (fPtr p1 (0 + ((0:Int):Int).toNat * 4)) rfl rfl (P_indexAddrA2 (α:=Vector Int 4) (o1:=0) rfl Try.underlying76 Try.sizeOf75 rfl (OB.ptr b1) rfl x8) ?_
 refine L_p (fPtr p1 ((0 + ((0:Int):Int).toNat * 4) + ((x1).Left:Int).toNat * 1)) rfl rfl (P_indexAddrA2 (α:=Int) (o1:=(0 + ((0:Int):Int).toNat * 4)) rfl Try.underlying75 Try.sizeOf3 rfl (OB.ptr b1) rfl y8) ?_
 refine L_ld (c:=.int .i64 (y9)) rfl rfl .plain (fun _ _ h=>⟨h.ch,fun b hb _=>h.below.block b hb⟩) d9 rfl ?_
 refine L_p (fPtr p2 1) rfl rfl (Zc at_83_1 rfl (PT.ptr q2)) ?_
 refine L_ld (c:=.int .i64 ((x1).Right)) rfl rfl .plain (fun _ _ h=>h.ch) i9 rfl ?_
 refine L_p (fPtr p1 0) rfl rfl (Zc at_108_0 rfl (OB.ptr b1)) ?_
 refine L_p (fPtr p1 (0 + ((1:Int):Int).toNat * 4)) rfl rfl (P_indexAddrA2 (α:=Vector Int 4) (o1:=0) rfl Try.underlying76 Try.sizeOf75 rfl (OB.ptr b1) rfl g7) ?_
 refine L_p (fPtr p1 ((0 + ((1:Int):Int).toNat * 4) + ((x1).Right:Int).toNat * 1)) rfl rfl (P_indexAddrA2 (α:=Int) (o1:=(0 + ((1:Int):Int).toNat * 4)) rfl Try.underlying75 Try.sizeOf3 rfl (OB.ptr b1) rfl i7) ?_
 refine L_ld (c:=.int .i64 (u3)) rfl rfl .plain (fun _ _ h=>⟨h.ch,fun b hb _=>h.below.block b hb⟩) k9 rfl ?_
 refine L_p (.int .i64 (y9)) rfl rfl (P_assign rfl) ?_
 refine L_p (.int .i64 (u3)) rfl rfl (P_assign rfl) ?_
 refine L_nl fun j7 jC hs=>?_
 have hfr:=hfr.ext hs
 have rp0:=rp0.ext hs
 have rp1:=rp1.ext hs
 have b1:=b1.ext hs
 have q2:=q2.ext hs
 have b3:=b3.ext hs
 have q4:=q4.ext hs
 have d7:=d7.ext hs
 clear hs
 refine Zb (Zd (Zq h (fun (s:BoxRace) e w=>∃ (g:Gh) ,Fr gI wI g w∧e 2=p1∧OB 2002 g w 108 (x0:BoxRace) p1∧e 3=p2∧PT g.m w (x1:BoxPick) p2∧e 4=p3∧OB 2004 g w 108 (s:BoxRace) p3∧e 7=.int .i64 (y9)∧e 8=.int .i64 (u3)) (fun X46 v8 l9 h=>?_) ?_))
 ·refine Zf (Za (Zn (.int .i64 (y9)) rfl rfl ?_))
  refine EL_in (.bool ((y9 == (0:Int)))) rfl rfl rfl rfl ?_
  refine Zn (.int .i64 (u3)) rfl rfl ?_
  refine EL_in (.bool ((u3 == (0:Int)))) rfl rfl rfl rfl ?_
  refine EL_p (.bool (((y9 == (0:Int)) == (u3 == (0:Int))))) (P_bool Try.underlying4 rfl rfl rfl) rfl ?_
  refine Zb (Zd ?_)
  rcases Zt h with ⟨v6,h⟩ | ⟨v6,h⟩
  ·refine E_ct v6 rfl ?_
   refine Zf (Za (Ze .plain rfl (D_loadO (g:=j7) Try.isAgg108 Try.sizeOf108 rfl b1 fun bB cB=>?_)))
   refine Ze .plain rfl (D_storeOc (g:=j7) (v:=bB) Try.sizeOf108 rfl b3 rfl cB fun kC lC hs b49 cb=>?_)
   clear cb
   have hfr:=hfr.stp hs
   refine Zg (.int .i64 (0)) rfl rfl ?_
   refine Zg (.int .i64 (0)) rfl rfl ?_
   refine Zb (Zd (E_ret (thn_r ?_)))
   obtain rfl:=sinj h
   obtain ⟨ad50,cv50,hp50,n9,cr50⟩:=ob_read Try.isAgg108 Try.sizeOf108 b49
   exact endm_ctt rfl rfl ((show _=p3 from rfl).trans hp50) n9 (show _=.int .i64 (0) from rfl) (show _=.int .i64 (0) from rfl) ⟨_,hfr,_,_,_,rfl,cr50,rfl,rfl⟩
  ·refine E_cf v6 rfl ?_
   exact Zu (Zd (l9 ((⟨(⟨List.toArray [(⟨List.toArray [0,0,0,0],rfl⟩:Vector Int 4),(⟨List.toArray [0,0,0,0],rfl⟩:Vector Int 4)],rfl⟩:Vector (Vector Int 4) 2),⟨0,0⟩⟩:BoxRace)) _ _ ⟨j7,hfr,rfl,b1,rfl,q2,rfl,b3,rfl,rfl⟩ h))
 ·rintro n8 oB mC ⟨dB, hfr, l5, o0, i6, i3, x6, i5, y6, a7⟩ h
  refine Zf (L_loadO (x:=.tmp 28) (SubS.comp part_BoxRace_1 part_BoxPick_0 rfl).1 Try.isAgg3 Try.sizeOf3 o0 fun qC eB u9=>?_)
  obtain rfl:=Zj.1 eB
  have j6:=Zm (part_BoxPick_0).1 i3
  refine Zs (x:=.tmp 30) Try.isAgg3 Try.sizeOf3 j6 fun rC iB z9=>?_
  obtain rfl:=Zj.1 iB
  obtain ⟨t5,bA,h⟩:=bsome h
  refine L_loadO (x:=.tmp 34) (SubS.comp part_BoxRace_1 part_BoxPick_1 rfl).1 Try.isAgg3 Try.sizeOf3 o0 fun tC jB gA=>?_
  obtain rfl:=Zj.1 jB
  have q62:=Zm (part_BoxPick_1).1 i3
  refine Zs (x:=.tmp 36) Try.isAgg3 Try.sizeOf3 q62 fun uC lB iA=>?_
  obtain rfl:=Zj.1 lB
  obtain ⟨x5,jA,h⟩:=bsome h
  refine E_drawL (g:=dB) (n:=14) [(5,(fun v g w=>v=.int .i64 (t5))),(11,(fun v g w=>v=.int .i64 (x5)))] [0,1,2,3,4,5,6,7,8,9,10,11,12,13] rfl mixed (by kernel_rfl) (⟨fun _=>up_eq _,fun _=>up_eq _,trivial⟩) ?_
  refine L_p (fPtr p1 8) rfl rfl (Zc at_108_1 l5 (OB.ptr o0)) ?_
  refine L_p (fPtr p1 8) rfl rfl (P_fieldAddr2 (o1:=8) rfl at_83_0 rfl (OB.ptr o0)) ?_
  refine L_ld (c:=.int .i64 (((x0).at_).Left)) rfl rfl .plain (fun _ _ h=>⟨h.ch,fun b hb _=>h.below.block b hb⟩) u9 rfl ?_
  refine L_p (fPtr p2 0) rfl rfl (Zc at_83_0 i6 (PT.ptr i3)) ?_
  refine L_ld (c:=.int .i64 ((x1).Left)) rfl rfl .plain (fun _ _ h=>h.ch) z9 rfl ?_
  refine L_do (φ:=fun v g w=>v=.int .i64 (t5)) rfl rfl .plain (fun g w hd=>Zp (g:=g) (vs:=[.int .i64 (((x0).at_).Left),.int .i64 ((x1).Left)]) en106 (.cons rfl (.cons rfl .nil)) (wk106  bA) fun g' w' v hs hr=>⟨g',hs,hr⟩) (fun vC hv=>?_)
  obtain ⟨_,_,_,rfl⟩:=hv
  refine L_p (fPtr p1 8) rfl rfl (Zc at_108_1 l5 (OB.ptr o0)) ?_
  refine L_p (fPtr p1 9) rfl rfl (P_fieldAddr2 (o1:=8) rfl at_83_1 rfl (OB.ptr o0)) ?_
  refine L_ld (c:=.int .i64 (((x0).at_).Right)) rfl rfl .plain (fun _ _ h=>⟨h.ch,fun b hb _=>h.below.block b hb⟩) gA rfl ?_
  refine L_p (fPtr p2 1) rfl rfl (Zc at_83_1 i6 (PT.ptr i3)) ?_
  refine L_ld (c:=.int .i64 ((x1).Right)) rfl rfl .plain (fun _ _ h=>h.ch) iA rfl ?_
  refine L_do (φ:=fun v g w=>v=.int .i64 (x5)) rfl rfl .plain (fun g w hd=>Zp (g:=g) (vs:=[.int .i64 (((x0).at_).Right),.int .i64 ((x1).Right)]) en106 (.cons rfl (.cons rfl .nil)) (wk106  jA) fun g' w' v hs hr=>⟨g',hs,hr⟩) (fun xC hv=>?_)
  obtain ⟨_,_,_,rfl⟩:=hv
  refine L_p (.int .i64 ((w64 (t5 + x5)))) rfl rfl (P_int rfl rfl rfl) ?_
  refine L_p (.int .i64 ((w64 (t5 + x5)))) rfl rfl (P_assign rfl) ?_
  refine L_nl fun yC aD hs=>?_
  have hfr:=hfr.ext hs
  have o0:=o0.ext hs
  have i3:=i3.ext hs
  have i5:=i5.ext hs
  have j6:=j6.ext hs
  have q62:=q62.ext hs
  clear hs
  refine Zb (Zd (Zf ?_))
  have m7:=Zm (part_BoxPick_0).1 i3
  refine Zs (x:=.tmp 40) Try.isAgg3 Try.sizeOf3 m7 fun bD mB mA=>?_
  obtain rfl:=Zj.1 mB
  have v7:=Zm (part_BoxPick_1).1 i3
  refine Zs (x:=.tmp 42) Try.isAgg3 Try.sizeOf3 v7 fun cD nB nA=>?_
  obtain rfl:=Zj.1 nB
  obtain ⟨r8,g8,h⟩:=bsome h
  obtain ⟨hi93,he93⟩:=vat_idx g8
  obtain ⟨uA,i8,h⟩:=bsome h
  obtain ⟨hi95,he95⟩:=vat_idx i8
  obtain ⟨t8,k8,h⟩:=bsome h
  obtain ⟨hi100,he100⟩:=vat_idx k8
  obtain ⟨a9,b7,h⟩:=bsome h
  obtain ⟨hi102,he102⟩:=vat_idx b7
  refine E_drawB (a0:=(x0:BoxRace)) (a1:=({ x0 with boxes:=(vmod ((x0).boxes) ((0:Int)) (fun b=>(vset b ((x1).Left) u3))) }:BoxRace)) o0 (n:=13) [(9,(fun _ g w=>OB 2002 g w 108 ({ x0 with boxes:=(vmod ((x0).boxes) ((0:Int)) (fun b=>(vset b ((x1).Left) u3))) }:BoxRace) p1))] [0,1,2,3,4,5,6,7,8,9,10,11,12] rfl mixed (by kernel_rfl) (⟨fun _=>up_box,trivial⟩) ?_
  refine L_p (fPtr p2 0) rfl rfl (Zc at_83_0 i6 (PT.ptr i3)) ?_
  refine L_ld (c:=.int .i64 ((x1).Left)) rfl rfl .plain (fun _ _ h=>h.1.ch) mA rfl ?_
  refine L_p (fPtr p2 1) rfl rfl (Zc at_83_1 i6 (PT.ptr i3)) ?_
  refine L_ld (c:=.int .i64 ((x1).Right)) rfl rfl .plain (fun _ _ h=>h.1.ch) nA rfl ?_
  refine L_p (.int .i64 (u3)) rfl rfl (Zk a7) ?_
  refine L_p (.int .i64 (y9)) rfl rfl (Zk y6) ?_
  refine L_p (fPtr p1 0) rfl rfl (Zc at_108_0 l5 (OB.ptr o0)) ?_
  refine L_p (fPtr p1 (0 + ((0:Int):Int).toNat * 4)) rfl rfl (P_indexAddrA2 (α:=Vector Int 4) (o1:=0) rfl Try.underlying76 Try.sizeOf75 rfl (OB.ptr o0) rfl g8) ?_
  refine L_p (fPtr p1 ((0 + ((0:Int):Int).toNat * 4) + ((x1).Left:Int).toNat * 1)) rfl rfl (P_indexAddrA2 (α:=Int) (o1:=(0 + ((0:Int):Int).toNat * 4)) rfl Try.underlying75 Try.sizeOf3 rfl (OB.ptr o0) rfl i8) ?_
  refine L_do (φ:=fun _ g w=>OB 2002 g w 108 ({ x0 with boxes:=(vmod ((x0).boxes) ((0:Int)) (fun b=>(vset b ((x1).Left) u3))) }:BoxRace) p1) rfl rfl .plain (fun g w hd=>D_storeR (g:=g) (by rfl) (by exact (congrArg (fun y=>{ x0 with boxes:=y }) (vmod_vmod (h:=fun b=>(vset b ((x1).Left) u3)) fun b=>(vset_vset _ _ _)))) (SubS.at_ (SubS.comp part_BoxRace_0 (SubS.dynC hi93 (SubS.dyn hi95) rfl) rfl) (by first | rfl | exact Nat.add_assoc _ _ _ | simp only [Nat.add_assoc,Nat.zero_add] | omega)) Try.sizeOf3 rfl hd.1.2 rfl (Zj.2 rfl)) (fun eD hv=>?_)
  clear hv
  refine L_p (fPtr p1 0) rfl rfl (Zc at_108_0 l5 (OB.ptr o0)) ?_
  refine L_p (fPtr p1 (0 + ((1:Int):Int).toNat * 4)) rfl rfl (P_indexAddrA2 (α:=Vector Int 4) (o1:=0) rfl Try.underlying76 Try.sizeOf75 rfl (OB.ptr o0) rfl k8) ?_
  refine L_p (fPtr p1 ((0 + ((1:Int):Int).toNat * 4) + ((x1).Right:Int).toNat * 1)) rfl rfl (P_indexAddrA2 (α:=Int) (o1:=(0 + ((1:Int):Int).toNat * 4)) rfl Try.underlying75 Try.sizeOf3 rfl (OB.ptr o0) rfl b7) ?_
  refine L_nil fun oA tB hall=>?_
  have hs:=hall.1.1
  have hfr:=hfr.stp hs
  have i3:=i3.stp hs
  have i5:=i5.stp hs rfl
  have j6:=j6.stp hs
  have q62:=q62.stp hs
  have m7:=m7.stp hs
  have v7:=v7.stp hs
  have b104:=(word_all (A:=fun g w=>OB 2002 g w 108 ({ x0 with boxes:=(vmod ((x0).boxes) ((0:Int)) (fun b=>(vset b ((x1).Left) u3))) }:BoxRace) p1) 9 rfl hall)
  clear hs hall
  refine Ze .plain rfl (D_storeFc (g:=oA) (SubS.at_ (SubS.comp part_BoxRace_0 (SubS.dynC hi100 (SubS.dyn hi102) rfl) rfl) (by first | rfl | exact Nat.add_assoc _ _ _ | simp only [Nat.add_assoc,Nat.zero_add] | omega)) Try.sizeOf3 rfl b104 rfl (Zj.2 rfl) fun l8 vB hs b135 rst hos=>?_)
  clear rst hos
  have hfr:=hfr.stp hs
  have i3:=i3.stp hs
  have i5:=i5.stp hs rfl
  refine Zb (Zd (Zf (Za (Ze .plain rfl (D_load (g:=l8) Try.isAgg83 Try.sizeOf83 i6 i3 fun yB pA=>?_)))))
  refine EL_p (fPtr p1 8) (Zc at_108_1 l5 (OB.ptr b135)) rfl ?_
  refine Ze .plain rfl (D_storeFc (g:=l8) part_BoxRace_1 Try.sizeOf83 rfl b135 rfl pA fun m8 zB hs b138 rst hos=>?_)
  clear rst hos
  have hfr:=hfr.stp hs
  have i5:=i5.stp hs rfl
  refine Zb (Zd (Zf (Za (Ze .plain rfl (D_loadO (g:=m8) Try.isAgg108 Try.sizeOf108 l5 b138 fun qA rA=>?_)))))
  refine Zo y6 rfl ?_
  refine Zo a7 rfl ?_
  refine EL_in (.int .i64 ((w64 (y9 + u3)))) rfl rfl rfl rfl ?_
  refine Zn (.int .i64 ((w64 (t5 + x5)))) rfl rfl ?_
  refine Ze .plain rfl (D_storeOc (g:=m8) (v:=qA) Try.sizeOf108 x6 i5 rfl rA fun aC cC hs b140 cb=>?_)
  clear cb
  have hfr:=hfr.stp hs
  refine Zg (.int .i64 ((w64 (y9 + u3)))) rfl rfl ?_
  refine Zg (.int .i64 ((w64 (t5 + x5)))) rfl rfl ?_
  refine Zb (Zd (E_ret ?_))
  obtain rfl:=sinj h
  obtain ⟨ad141,cv141,hp141,o8,cr141⟩:=ob_read Try.isAgg108 Try.sizeOf108 b140
  exact endm_ctt rfl rfl ((show _=p3 from x6).trans hp141) o8 (show _=.int .i64 ((w64 (y9 + u3))) from rfl) (show _=.int .i64 ((w64 (t5 + x5))) from rfl) ⟨_,hfr,_,_,_,rfl,cr141,rfl,rfl⟩
def f98 (z0:Ptr BoxMill) (z1:BoxRace) (σ:Type) (cons:Cons σ (BoxPick × BoxStep)) (s0:σ):Option σ:=
 lp (σ:=σ × Int) (fun k5 (q8,i3)=>
  bif (decide (i3 < ((z0).x).left)) then
   jn (σ:=σ) (fun b7=>
    k5 (b7,(w64 (i3 + (1:Int))))
    ) fun zB=>
   lp (σ:=σ × Int) (fun aC (j6,u3)=>
    bif (decide (u3 < ((z0).x).right)) then
     jn (σ:=σ) (fun d7=>
      aC (d7,(w64 (u3 + (1:Int))))
      ) fun cC=>
     (f97 z1 ((⟨i3,u3⟩:BoxPick))).bind fun o0=>
     Option.bind (α:=σ × Bool) (
      bif (decide (o0.2.1 > (0 : Int))) then
       (cons j6 ((⟨i3,u3⟩:BoxPick),(⟨o0.1,(w64 (o0.2.1 - (1:Int))),o0.2.2⟩:BoxStep))).bind fun (x6,v8)=>
       some (v8,(!x6))
      else
       some (j6,false)
      ) fun (i6,x5)=>
     bif x5 then
      some i6
     else
      cC (i6)
    else
     zB (j6)
    ) big (q8,(0:Int))
  else
   some q8
  ) big (s0,(0:Int))
theorem en98:Enters Try.prog 98:=enters_of Try.func98 (by kernel_rfl) rfl
theorem wk98 {σ:Type} {cons:Cons σ (BoxPick × BoxStep)} {s0 r:σ} {gI:Gh} {wI:World} {z0:Ptr BoxMill} {z1:BoxRace} {pf0:Value} (qf0:PT gI.m wI z0 pf0) {pf1:Value} (qf1:PT gI.m wI z1 pf1) (h:f98 z0 z1 σ cons s0=some r):IterC Try.prog (RA2 (α:=BoxPick) (β:=BoxStep)) 98 #[] #[pf0,pf1] gI wI cons s0 r:=by
 unfold f98 at h
 refine iter_of_E Try.func98 rfl (Nat.le_of_ble_eq_true rfl) fun l B J g0 hm hAb hRo hfr=>?_
 have qf0:PT g0.m wI z0 pf0:=hm ▸ qf0
 have qf1:PT g0.m wI z1 pf1:=hm ▸ qf1
 show E _ 49 none _ _ (envAt #[.func (.yield l) #[] #[],pf0,pf1]) _ _
 refine Zf (Za (Ze .plain rfl (D_load (g:=g0) Try.isAgg113 Try.sizeOf113 rfl qf0 fun v1 r1=>?_)))
 replace r1:=RV_ptr.1 r1
 obtain ⟨pb2,po2,pe2⟩:=PT.ptr r1
 refine EL_p v1 (P_nilCk rfl pe2) rfl ?_
 refine EL_p (fPtr v1 0) (Zc at_154_0 rfl (PT.ptr r1)) rfl ?_
 have q3:=Zm (part_BoxMill_0).1 r1
 refine Ze .plain rfl (D_load (g:=g0) Try.isAgg3 Try.sizeOf3 rfl q3 fun v4 r4=>?_)
 obtain rfl:=Zj.1 r4
 refine Zn (.int .i64 (0)) rfl rfl ?_
 refine Zb (Zd (Zr ?_))
 refine E_lp h (fun (s:σ × Int) e w=>∃ (g:Gh) ,FrY gI wI B J (s.1) g w∧e 0=(.func (.yield l) #[] #[])∧e 1=pf0∧PT g.m w (z0:Ptr BoxMill) pf0∧e 2=pf1∧PT g.m w (z1:BoxRace) pf1∧e 13=.int .i64 (((z0).x).left)∧e 14=.int .i64 (s.2)) ⟨g0,hfr,rfl,rfl,qf0,rfl,qf1,rfl,rfl⟩ (fun X5 k5 hk5=>?_)
 rintro ⟨q8,i3⟩ lE w6 ⟨g6,hfr,iC,gA,iA,jC,kC,x8,k8⟩ h
 refine Zf (Za (EL_in (.bool ((decide (i3 < ((z0).x).left)))) k8 x8 rfl rfl ?_))
 refine Zb (Zd (Zf ?_))
 rcases Zt h with ⟨jA,h⟩ | ⟨jA,h⟩
 ·refine E_ct jA rfl ?_
  refine Zu (Zd (Zq h (fun (s:σ) e w=>∃ (g:Gh) ,FrY gI wI B J (s) g w∧e 0=(.func (.yield l) #[] #[])∧e 1=pf0∧PT g.m w (z0:Ptr BoxMill) pf0∧e 2=pf1∧PT g.m w (z1:BoxRace) pf1∧e 13=.int .i64 (((z0).x).left)∧e 14=.int .i64 (i3)) (fun X63 zB lC h=>?_) ?_))
  ·refine Zr ?_
   refine Zf (Za (Zo k8 rfl ?_))
   refine Zg (.int .i64 (i3)) rfl rfl ?_
   refine Zb (Zd (Zf (Za (Ze .plain rfl (D_load (g:=g6) Try.isAgg113 Try.sizeOf113 gA iA fun dC o8=>?_)))))
   replace o8:=RV_ptr.1 o8
   obtain ⟨pb66,po66,pe66⟩:=PT.ptr o8
   refine EL_p dC (P_nilCk rfl pe66) rfl ?_
   refine EL_p (fPtr dC 1) (Zc at_154_1 rfl (PT.ptr o8)) rfl ?_
   have jD:=Zm (part_BoxMill_1).1 o8
   refine Ze .plain rfl (D_load (g:=g6) Try.isAgg3 Try.sizeOf3 rfl jD fun mE kD=>?_)
   obtain rfl:=Zj.1 kD
   refine Zn (.int .i64 (0)) rfl rfl ?_
   refine Zb (Zd (Zr ?_))
   refine E_lp h (fun (s:σ × Int) e w=>∃ (g:Gh) ,FrY gI wI B J (s.1) g w∧e 0=(.func (.yield l) #[] #[])∧e 1=pf0∧PT g.m w (z0:Ptr BoxMill) pf0∧e 2=pf1∧PT g.m w (z1:BoxRace) pf1∧e 4=.int .i64 (i3)∧e 13=.int .i64 (((z0).x).left)∧e 14=.int .i64 (i3)∧e 20=.int .i64 (((z0).x).right)∧e 21=.int .i64 (s.2)) ⟨g6,hfr,iC,gA,iA,jC,kC,rfl,x8,k8,rfl,rfl⟩ (fun X69 aC mC=>?_)
   rintro ⟨j6,u3⟩ zD lD ⟨mA,hfr,y6,l8,l5,a7,i5,m8,g7,i7,j7,v6⟩ h
   refine Zf (Za (EL_in (.bool ((decide (u3 < ((z0).x).right)))) v6 j7 rfl rfl ?_))
   refine Zb (Zd (Zf ?_))
   rcases Zt h with ⟨r8,h⟩ | ⟨r8,h⟩
   ·refine E_ct r8 rfl ?_
    refine Zu (Zd (Zq h (fun (s:σ) e w=>∃ (g:Gh) ,FrY gI wI B J (s) g w∧e 0=(.func (.yield l) #[] #[])∧e 1=pf0∧PT g.m w (z0:Ptr BoxMill) pf0∧e 2=pf1∧PT g.m w (z1:BoxRace) pf1∧e 4=.int .i64 (i3)∧e 13=.int .i64 (((z0).x).left)∧e 14=.int .i64 (i3)∧e 20=.int .i64 (((z0).x).right)∧e 21=.int .i64 (u3)) (fun X95 cC qC h=>?_) ?_))
    ·refine Zr ?_
     refine Zf (Za (Zo v6 rfl ?_))
     refine Zg (.int .i64 (u3)) rfl rfl ?_
     refine Zb (Zd (Zf (Za (Zo m8 rfl ?_))))
     refine Zn (.int .i64 (u3)) rfl rfl ?_
     have y8:RV mA.m lD (⟨i3,u3⟩:BoxPick) (.agg (setCh [[.int .i64 0],[.int .i64 0]] [(0,.int .i64 (i3)),(1,.int .i64 (u3))]).flatten.toArray):=RV_build rfl (rep_pair (rfl) (rep_last (rfl)))
     generalize rC:(Value.agg (setCh [[.int .i64 0],[.int .i64 0]] [(0,.int .i64 (i3)),(1,.int .i64 (u3))]).flatten.toArray)=eC at y8
     refine EL_p eC (rC ▸ P_build (vs:=[(0,.int .i64 (i3)),(1,.int .i64 (u3))]) [[.int .i64 0],[.int .i64 0]] lay_83 rfl rfl (.cons rfl (.cons rfl .nil)) ⟨⟨_,rfl,rfl⟩,⟨⟨_,rfl,rfl⟩,trivial⟩⟩) rfl ?_
     refine Ze .plain rfl (D_allocOc (g:=mA) 2006 (⟨0,0⟩:BoxPick) Try.zeroValue83 (fun m w=>⟨_,(rep_two rep_int rep_int),rfl⟩) fun mD nE oE hs b97 cb=>?_)
     have hfr:=hfr.stp_ hAb hs rfl
     have l5:=l5.stp hs
     have i5:=i5.stp hs
     have y8:=y8.stp hs
     clear cb
     refine Ze .plain rfl (D_storeOc (g:=mD) (v:=eC) Try.sizeOf83 rfl b97 rfl y8 fun nA rE hs b98 cb=>?_)
     clear cb
     have hfr:=hfr.stp_ hAb hs rfl
     have l5:=l5.stp hs
     have i5:=i5.stp hs
     refine Zb (Zd (Zf (Za (Ze .plain rfl (D_load (g:=nA) Try.isAgg108 Try.sizeOf108 a7 i5 fun nD oD=>?_)))))
     refine Ze .plain rfl (D_loadO (g:=nA) Try.isAgg83 Try.sizeOf83 rfl b98 fun tC uC=>?_)
     obtain ⟨o0,tB,h⟩:=bsome h
     refine Ze .plain rfl (Zp (g:=nA) (vs:=[nD,tC]) en97 (.cons rfl (.cons rfl .nil)) (wk97 oD uC tB) fun vC uD aE hs hr=>?_)
     have hfr:=hfr.ext_ hAb hs
     have l5:=l5.ext hs
     have i5:=i5.ext hs
     have b98:=b98.ext hs
     obtain ⟨m7,sD,tD,rfl,v7,rfl,rfl⟩:=hr
     refine Zn (.tuple #[m7,.int .i64 (o0.2.1),.int .i64 (o0.2.2)]) rfl rfl ?_
     refine EL_p m7 (Zi rfl rfl) rfl ?_
     refine EL_p (.int .i64 (o0.2.1)) (Zi rfl rfl) rfl ?_
     refine EL_p (.int .i64 (o0.2.2)) (Zi rfl rfl) rfl ?_
     refine Ze .plain rfl (D_allocOc (g:=vC) 2007 (⟨(⟨List.toArray [(⟨List.toArray [0,0,0,0],rfl⟩:Vector Int 4),(⟨List.toArray [0,0,0,0],rfl⟩:Vector Int 4)],rfl⟩:Vector (Vector Int 4) 2),⟨0,0⟩⟩:BoxRace) Try.zeroValue108 (fun m w=>⟨_,(rep_two (rep_vec (flat_chunk (rep_vec (flat_chunk rep_int (flat_chunk rep_int (flat_chunk rep_int (flat_chunk rep_int flat_nil)))) rfl) (flat_chunk (rep_vec (flat_chunk rep_int (flat_chunk rep_int (flat_chunk rep_int (flat_chunk rep_int flat_nil)))) rfl) flat_nil)) rfl) (rep_two rep_int rep_int)),rfl⟩) fun xC bE cE hs b103 cb=>?_)
     have hfr:=hfr.stp_ hAb hs rfl
     have l5:=l5.stp hs
     have i5:=i5.stp hs
     have b98:=b98.stp hs rfl
     have v7:=v7.stp hs
     clear cb
     refine Ze .plain rfl (D_storeOc (g:=xC) (v:=m7) Try.sizeOf108 rfl b103 rfl v7 fun g8 dE hs b104 cb=>?_)
     clear cb
     have hfr:=hfr.stp_ hAb hs rfl
     have l5:=l5.stp hs
     have i5:=i5.stp hs
     have b98:=b98.stp hs rfl
     refine Zg (.int .i64 (o0.2.1)) rfl rfl ?_
     refine Zg (.int .i64 (o0.2.2)) rfl rfl ?_
     refine Zb (Zd ?_)
     obtain ⟨⟨i6,x5⟩,hx,h⟩:=bsome h
     refine E_join (fun e w=>∃ (g:Gh) ,FrY gI wI B J (i6) g w∧e 0=(.func (.yield l) #[] #[])∧e 1=pf0∧PT g.m w (z0:Ptr BoxMill) pf0∧e 2=pf1∧PT g.m w (z1:BoxRace) pf1∧e 4=.int .i64 (i3)∧e 13=.int .i64 (((z0).x).left)∧e 14=.int .i64 (i3)∧e 20=.int .i64 (((z0).x).right)∧e 21=.int .i64 (u3)∧e 46=.bool (x5)) (fun Q' hQ=>?_) (fun vD eE hR=>?_)
     ·replace h := hx
      clear hx
      refine Za (Zn (.int .i64 (o0.2.1)) rfl rfl ?_)
      refine EL_in (.bool ((decide (o0.2.1 > (0:Int))))) rfl rfl rfl rfl ?_
      refine Zn (.bool ((decide (o0.2.1 > (0:Int))))) rfl rfl ?_
      rcases Zt h with ⟨t5,h⟩ | ⟨t5,h⟩
      ·refine EL_y ((.func (.yield l) #[] #[])) (Zk y6) rfl rfl t5 rfl ?_
       refine Ze (.yes2 rfl rfl t5) rfl (D_loadO (g:=g8) Try.isAgg83 Try.sizeOf83 rfl b98 fun gE yC=>?_)
       refine Ze (.yes2 rfl rfl t5) rfl (D_loadO (g:=g8) Try.isAgg108 Try.sizeOf108 rfl b104 fun t8 oA=>?_)
       refine EL_y (.int .i64 (o0.2.1)) (Zk rfl) rfl rfl t5 rfl ?_
       refine EL_y (.int .i64 ((w64 (o0.2.1 - (1:Int))))) (P_int rfl rfl rfl) rfl rfl t5 rfl ?_
       refine EL_y (.int .i64 (o0.2.2)) (Zk rfl) rfl rfl t5 rfl ?_
       have pA:RV g8.m _ (⟨o0.1,(w64 (o0.2.1 - (1:Int))),o0.2.2⟩:BoxStep) (.agg (setCh [[.int .i64 0,.int .i64 0,.int .i64 0,.int .i64 0,.int .i64 0,.int .i64 0,.int .i64 0,.int .i64 0,.int .i64 0,.int .i64 0],[.int .i64 0],[.int .i64 0]] [(0,t8),(1,.int .i64 ((w64 (o0.2.1 - (1:Int))))),(2,.int .i64 (o0.2.2))]).flatten.toArray):=RV_build rfl (rep_pair (RV.cells oA) (rep_pair (rfl) (rep_last (rfl))))
       generalize vB:(Value.agg (setCh [[.int .i64 0,.int .i64 0,.int .i64 0,.int .i64 0,.int .i64 0,.int .i64 0,.int .i64 0,.int .i64 0,.int .i64 0,.int .i64 0],[.int .i64 0],[.int .i64 0]] [(0,t8),(1,.int .i64 ((w64 (o0.2.1 - (1:Int))))),(2,.int .i64 (o0.2.2))]).flatten.toArray)=aD at pA
       refine EL_y aD (vB ▸ P_build (vs:=[(0,t8),(1,.int .i64 ((w64 (o0.2.1 - (1:Int))))),(2,.int .i64 (o0.2.2))]) [[.int .i64 0,.int .i64 0,.int .i64 0,.int .i64 0,.int .i64 0,.int .i64 0,.int .i64 0,.int .i64 0,.int .i64 0,.int .i64 0],[.int .i64 0],[.int .i64 0]] lay_144 rfl rfl (.cons rfl (.cons rfl (.cons rfl .nil))) ⟨⟨_,rfl,cells_size oA⟩,⟨⟨_,rfl,rfl⟩,⟨⟨_,rfl,rfl⟩,trivial⟩⟩⟩) rfl rfl t5 rfl ?_
       obtain ⟨bD,yB,h⟩:=bsome h
       obtain ⟨x6,v8⟩:=bD
       refine Ze (.yes2 rfl rfl t5) rfl (D_yield (g:=g8) (x:=((⟨i3,u3⟩:BoxPick),(⟨o0.1,(w64 (o0.2.1 - (1:Int))),o0.2.2⟩:BoxStep))) rfl (.cons rfl (.cons rfl .nil)) hRo hfr yB ⟨_,_,rfl,yC,pA⟩ fun cD iE hs hfrY=>?_)
       have l5:=l5.stp hs
       have i5:=i5.stp hs
       have hfr:=hfrY
       clear hfrY
       refine EL_y (.bool (!x6)) (P_not rfl) rfl rfl t5 rfl ?_
       refine EL_p (.bool (!x6)) (Zl (b:=(decide (o0.2.1 > (0:Int)))) rfl (pick_t t5 rfl)) rfl ?_
       refine Zb ?_
       obtain ⟨rfl,rfl⟩:=pairs2 h
       exact hQ _ _ ⟨cD,hfr,y6,l8,l5,a7,i5,m8,g7,i7,j7,v6,rfl⟩
      ·refine EL_s rfl rfl t5 rfl rfl ?_
       iterate 8 refine EL_s rfl rfl t5 rfl rfl ?_
       refine EL_p (.bool false) (Zl (b:=(decide (o0.2.1 > (0:Int)))) rfl (pick_f t5 rfl)) rfl ?_
       refine Zb ?_
       obtain ⟨rfl,rfl⟩:=pairs2 h
       exact hQ _ _ ⟨g8,hfr,y6,l8,l5,a7,i5,m8,g7,i7,j7,v6,rfl⟩
     ·clear hx
      obtain ⟨eD,hfr,qA,rA,uA,xA,yA,zA,a9,d9,i9,k9,i8⟩:=hR
      rcases Zt h with ⟨n8,h⟩ | ⟨n8,h⟩
      ·refine E_cond_true (Eq.trans (show ev _ _ = .bool (x5) from i8) (congrArg Value.bool n8)) ?_
       refine E_ret (blk_r ?_)
       refine thn_r ?_
       refine thn_r ?_
       refine blk_r ?_
       refine blk_r ?_
       refine thn_r ?_
       refine thn_r ?_
       refine blk_r ?_
       obtain rfl:=sinj h
       exact end0 rfl rfl (FrY.done hfr)
      ·refine E_cond_false (Eq.trans (show ev _ _ = .bool (x5) from i8) (congrArg Value.bool n8)) ?_
       exact Zu (blk_n (Zd (qC (i6) _ _ ⟨eD,hfr,qA,rA,uA,xA,yA,zA,a9,d9,i9,k9⟩ h)))
    ·rintro d7 xD jE ⟨gD, hfr, aB, bB, cB, dB, eB, iB, l9, n9, u9, y9⟩ h
     refine Za (EL_in (.int .i64 ((w64 (u3 + (1:Int))))) y9 rfl rfl rfl ?_)
     refine Zn (.int .i64 ((w64 (u3 + (1:Int))))) rfl rfl ?_
     exact Zb (Zd (mC (d7,(w64 (u3 + (1:Int)))) _ _ ⟨gD,hfr,aB,bB,cB,dB,eB,iB,l9,n9,u9,rfl⟩ h))
   ·refine E_cf r8 rfl ?_
    refine E_exit ?_
    refine thn_e ?_
    refine thn_e ?_
    refine blk_hit ?_
    exact blk_n (Zd (lC (j6) _ _ ⟨mA,hfr,y6,l8,l5,a7,i5,g7,i7⟩ h))
  ·rintro b7 yD kE ⟨iD, hfr, jB, lB, mB, nB, oB, z9, bA⟩ h
   refine Za (EL_in (.int .i64 ((w64 (i3 + (1:Int))))) bA rfl rfl rfl ?_)
   refine Zn (.int .i64 ((w64 (i3 + (1:Int))))) rfl rfl ?_
   exact Zb (Zd (hk5 (b7,(w64 (i3 + (1:Int)))) _ _ ⟨iD,hfr,jB,lB,mB,nB,oB,z9,rfl⟩ h))
 ·refine E_cf jA rfl ?_
  refine E_exit ?_
  refine thn_e ?_
  refine thn_e ?_
  refine blk_hit ?_
  obtain rfl:=sinj h
  exact end0n rfl rfl (FrY.done hfr)
def f116 (x0:Int) (x1:Int):Option (Bool):=
 Option.bind (α:=Bool) (
  (f126 x0).bind fun y8=>
  bif y8 then
   (f126 x1).bind fun y11=>
   bif (!y11) then
    some (true)
   else
    some ((decide (x0 < x1)))
  else
   some ((decide (x0 < x1)))
  ) fun u3=>
 some (u3)
def f117 (x0:List Int) (x1:Int) (x2:Int) (x3:Int):Option (Int × (List Int)):=
 (idx x0 x3).bind fun y1=>
 (idx x0 x1).bind fun y3=>
 (idx x0 x1).bind fun y5=>
 (idx ((List.set x0 (Int.toNat x1) y1)) x3).bind fun sF=>
 Option.bind (α:=(List Int) × Int) (
  lp (σ:=(List Int) × Int × Int) (fun kD (l5,xA,t5)=>
   Option.bind (α:=Int) (
    lp (σ:=Int) (fun nB u3=>
     jn (σ:=Unit) (fun _=>
      nB ((w64 (u3 + (1:Int))))
      ) fun oB=>
     Option.bind (α:=Bool) (
      bif (decide (u3 ≤ t5)) then
       (idx l5 x1).bind fun x8=>
       (idx l5 u3).bind fun y8=>
       (f116 x8 y8).bind fun m7=>
       some ((!m7))
      else
       some (false)
      ) fun y6=>
     bif y6 then
      oB ()
     else
      some (u3)
     ) big (xA)
    ) fun o0=>
   Option.bind (α:=Int) (
    lp (σ:=Int) (fun tB i3=>
     jn (σ:=Unit) (fun _=>
      tB ((w64 (i3 - (1:Int))))
      ) fun vB=>
     Option.bind (α:=Bool) (
      bif (decide (o0 ≤ i3)) then
       (idx l5 x1).bind fun a9=>
       (idx l5 i3).bind fun d9=>
       (f116 a9 d9).bind fun m8=>
       some (m8)
      else
       some (false)
      ) fun a7=>
     bif a7 then
      vB ()
     else
      some (i3)
     ) big (t5)
    ) fun i5=>
   jn (σ:=Unit) (fun _=>
    (idx l5 i5).bind fun v7=>
    (idx l5 o0).bind fun n8=>
    (idx l5 o0).bind fun jE=>
    (idx ((List.set l5 (Int.toNat o0) v7)) i5).bind fun kE=>
    kD ((List.set ((List.set l5 (Int.toNat o0) v7)) (Int.toNat i5) n8),(w64 (o0 + (1:Int))),(w64 (i5 - (1:Int))))
    ) fun yB=>
   bif (decide (o0 > i5)) then
    some (l5,o0)
   else
    yB ()
   ) big ((List.set ((List.set x0 (Int.toNat x1) y1)) (Int.toNat x3) y3),(w64 (x1 + (1:Int))),(w64 (x2 - (1:Int))))
  ) fun (o8,d7)=>
 some (d7,o8)
def f118 (x0:List Int) (x1:Int) (x2:Int) (x3:Int):Option (Int × Bool × (List Int)):=
 (idx x0 x3).bind fun y1=>
 (idx x0 x1).bind fun y3=>
 (idx x0 x1).bind fun y5=>
 (idx ((List.set x0 (Int.toNat x1) y1)) x3).bind fun yM=>
 Option.bind (α:=Int) (
  lp (σ:=Int) (fun tH i6=>
   jn (σ:=Unit) (fun _=>
    tH ((w64 (i6 + (1:Int))))
    ) fun uH=>
   Option.bind (α:=Bool) (
    bif (decide (i6 ≤ (w64 (x2 - (1 : Int))))) then
     (idx ((List.set ((List.set x0 (Int.toNat x1) y1)) (Int.toNat x3) y3)) i6).bind fun sD=>
     (idx ((List.set ((List.set x0 (Int.toNat x1) y1)) (Int.toNat x3) y3)) x1).bind fun tD=>
     (f116 sD tD).bind fun tB=>
     some (tB)
    else
     some (false)
    ) fun r8=>
   bif r8 then
    uH ()
   else
    some (i6)
   ) big ((w64 (x1 + (1:Int))))
  ) fun i3=>
 Option.bind (α:=Int) (
  lp (σ:=Int) (fun vH j6=>
   jn (σ:=Unit) (fun _=>
    vH ((w64 (j6 - (1:Int))))
    ) fun xH=>
   Option.bind (α:=Bool) (
    bif (decide (i3 ≤ j6)) then
     (idx ((List.set ((List.set x0 (Int.toNat x1) y1)) (Int.toNat x3) y3)) j6).bind fun uD=>
     (idx ((List.set ((List.set x0 (Int.toNat x1) y1)) (Int.toNat x3) y3)) x1).bind fun vD=>
     (f116 uD vD).bind fun zA=>
     some ((!zA))
    else
     some (false)
    ) fun t8=>
   bif t8 then
    xH ()
   else
    some (j6)
   ) big ((w64 (x2 - (1:Int))))
  ) fun u3=>
 jn (σ:=(List Int)) (fun v8=>
  (idx v8 u3).bind fun vB=>
  (idx v8 i3).bind fun xD=>
  (idx v8 i3).bind fun tL=>
  (idx ((List.set v8 (Int.toNat i3) vB)) u3).bind fun uL=>
  Option.bind (α:=(List Int) × Int) (
   lp (σ:=(List Int) × Int × Int) (fun rF (t5,yB,v6)=>
    Option.bind (α:=Int) (
     lp (σ:=Int) (fun sF i5=>
      jn (σ:=Unit) (fun _=>
       sF ((w64 (i5 + (1:Int))))
       ) fun tF=>
      Option.bind (α:=Bool) (
       bif (decide (i5 ≤ v6)) then
        (idx t5 i5).bind fun jB=>
        (idx t5 x1).bind fun lB=>
        (f116 jB lB).bind fun qA=>
        some (qA)
       else
        some (false)
       ) fun l8=>
      bif l8 then
       tF ()
      else
       some (i5)
      ) big (yB)
     ) fun o0=>
    Option.bind (α:=Int) (
     lp (σ:=Int) (fun uF l5=>
      jn (σ:=Unit) (fun _=>
       uF ((w64 (l5 - (1:Int))))
       ) fun vF=>
      Option.bind (α:=Bool) (
       bif (decide (o0 ≤ l5)) then
        (idx t5 l5).bind fun mB=>
        (idx t5 x1).bind fun nB=>
        (f116 mB nB).bind fun u9=>
        some ((!u9))
       else
        some (false)
       ) fun m8=>
      bif m8 then
       vF ()
      else
       some (l5)
      ) big (v6)
     ) fun x5=>
    jn (σ:=Unit) (fun _=>
     (idx t5 x5).bind fun y9=>
     (idx t5 o0).bind fun rA=>
     (idx t5 o0).bind fun qJ=>
     (idx ((List.set t5 (Int.toNat o0) y9)) x5).bind fun rJ=>
     rF ((List.set ((List.set t5 (Int.toNat o0) y9)) (Int.toNat x5) rA),(w64 (o0 + (1:Int))),(w64 (x5 - (1:Int))))
     ) fun xF=>
    bif (decide (o0 > x5)) then
     some (t5,x5)
    else
     xF ()
    ) big ((List.set ((List.set v8 (Int.toNat i3) vB)) (Int.toNat u3) xD),(w64 (i3 + (1:Int))),(w64 (u3 - (1:Int))))
   ) fun (k8,x6)=>
  (idx k8 x1).bind fun uA=>
  (idx k8 x6).bind fun oB=>
  (idx k8 x6).bind fun sJ=>
  (idx ((List.set k8 (Int.toNat x6) uA)) x1).bind fun tJ=>
  some (x6,false,(List.set ((List.set k8 (Int.toNat x6) uA)) (Int.toNat x1) oB))
  ) fun yH=>
 bif (decide (i3 > u3)) then
  (idx ((List.set ((List.set x0 (Int.toNat x1) y1)) (Int.toNat x3) y3)) x1).bind fun zB=>
  (idx ((List.set ((List.set x0 (Int.toNat x1) y1)) (Int.toNat x3) y3)) u3).bind fun yD=>
  (idx ((List.set ((List.set x0 (Int.toNat x1) y1)) (Int.toNat x3) y3)) u3).bind fun vL=>
  (idx ((List.set ((List.set ((List.set x0 (Int.toNat x1) y1)) (Int.toNat x3) y3)) (Int.toNat u3) zB)) x1).bind fun xL=>
  some (u3,true,(List.set ((List.set ((List.set ((List.set x0 (Int.toNat x1) y1)) (Int.toNat x3) y3)) (Int.toNat u3) zB)) (Int.toNat x1) yD))
 else
  yH ((List.set ((List.set x0 (Int.toNat x1) y1)) (Int.toNat x3) y3))
def f121 (x0:List Int) (x1:Int) (x2:Int) (x3:Int):Option ((List Int)):=
 lp (σ:=(List Int) × Int) (fun k1 (i5,o0)=>
  jn (σ:=Unit) (fun _=>
   Option.bind (α:=Int) (
    Option.bind (α:=Bool) (
     bif (decide ((w64 ((w64 ((w64 ((2 : Int) * o0)) + (1 : Int))) + (1 : Int))) < x2)) then
      (idx i5 (w64 (x3 + (w64 ((w64 ((2:Int) * o0)) + (1:Int)))))).bind fun v7=>
      (idx i5 (w64 ((w64 (x3 + (w64 ((w64 ((2:Int) * o0)) + (1:Int))))) + (1:Int)))).bind fun g8=>
      (f116 v7 g8).bind fun a7=>
      some (a7)
     else
      some (false)
     ) fun i6=>
    bif i6 then
     some ((w64 ((w64 ((w64 ((2:Int) * o0)) + (1:Int))) + (1:Int))))
    else
     some ((w64 ((w64 ((2:Int) * o0)) + (1:Int))))
    ) fun i3=>
   jn (σ:=Unit) (fun _=>
    (idx i5 (w64 (x3 + i3))).bind fun x6=>
    (idx i5 (w64 (x3 + o0))).bind fun b7=>
    (idx i5 (w64 (x3 + o0))).bind fun mB=>
    (idx ((List.set i5 (Int.toNat (w64 (x3 + o0))) x6)) (w64 (x3 + i3))).bind fun nB=>
    k1 ((List.set ((List.set i5 (Int.toNat (w64 (x3 + o0))) x6)) (Int.toNat (w64 (x3 + i3))) b7),i3)
    ) fun jA=>
   (idx i5 (w64 (x3 + o0))).bind fun y277=>
   (idx i5 (w64 (x3 + i3))).bind fun i8=>
   (f116 y277 i8).bind fun d7=>
   bif (!d7) then
    some (i5)
   else
    jA ()
   ) fun k4=>
  bif (decide ((w64 ((w64 ((2 : Int) * o0)) + (1 : Int))) ≥ x2)) then
   some (i5)
  else
   k4 ()
  ) big (x0,x1)
def f52 (x0:List Int):Option (Bool):=
 (f87 ((0:Int)) ((9:Int)) x0).bind fun y2=>
 some (y2)
def f61 (x0:BoxLoom) (x1:BoxPick):Option (BoxLoom × Int × Int × Bool):=
 (f89 x0 ((0:Int)) ((x1).Left)).bind fun y8=>
 (f89 x0 ((1:Int)) ((x1).Right)).bind fun o0=>
 jn (σ:=BoxLoom) (fun q8=>
  (f50 x0).bind fun y63=>
  Option.bind (α:=BoxLoom × Int) (
   bif (decide (y8 ≥ (0 : Int))) then
    (idx ((y63).Shuttles) y8).bind fun y180=>
    (idx ((({ y63 with Shuttles:=(List.set ((y63).Shuttles) (Int.toNat y8) ({ y180 with Side:=(1:Int) }:BoxShuttle)) }:BoxLoom)).Shuttles) y8).bind fun k9=>
    some (({ (({ y63 with Shuttles:=(List.set ((y63).Shuttles) (Int.toNat y8) ({ y180 with Side:=(1:Int) }:BoxShuttle)) }:BoxLoom)) with Shuttles:=(List.set ((({ y63 with Shuttles:=(List.set ((y63).Shuttles) (Int.toNat y8) ({ y180 with Side:=(1:Int) }:BoxShuttle)) }:BoxLoom)).Shuttles) (Int.toNat y8) ({ k9 with Box:=(x1).Right }:BoxShuttle)) }:BoxLoom),y8)
   else
    (idx ((y63).Shuttles) o0).bind fun x5=>
    (idx ((({ y63 with Shuttles:=(List.set ((y63).Shuttles) (Int.toNat o0) ({ x5 with Side:=(0:Int) }:BoxShuttle)) }:BoxLoom)).Shuttles) o0).bind fun l9=>
    some (({ (({ y63 with Shuttles:=(List.set ((y63).Shuttles) (Int.toNat o0) ({ x5 with Side:=(0:Int) }:BoxShuttle)) }:BoxLoom)) with Shuttles:=(List.set ((({ y63 with Shuttles:=(List.set ((y63).Shuttles) (Int.toNat o0) ({ x5 with Side:=(0:Int) }:BoxShuttle)) }:BoxLoom)).Shuttles) (Int.toNat o0) ({ l9 with Box:=(x1).Left }:BoxShuttle)) }:BoxLoom),o0)
   ) fun (b7,d7)=>
  (idx ((x0).At) (0:Int)).bind fun x6=>
  (idx ((x0).At) (0:Int)).bind fun y6=>
  (idx ((x0).At) (1:Int)).bind fun a7=>
  (idx ((x0).At) (1:Int)).bind fun j7=>
  some (({ b7 with At:=([(x1).Left,(x1).Right]:List Int) }:BoxLoom),d7,(w64 ((w64 ((w64 ((max64 (x1).Left x6) - (min64 (x1).Left y6))) + (max64 (x1).Right a7))) - (min64 (x1).Right j7))),true)
  ) fun jD=>
 Option.bind (α:=Bool) (
  bif (decide (y8 ≥ (0 : Int))) then
   bif (decide (o0 ≥ (0 : Int))) then
    some (true)
   else
    bif (decide (y8 < (0 : Int))) then
     some ((decide (o0 < (0:Int))))
    else
     some (false)
  else
   bif (decide (y8 < (0 : Int))) then
    some ((decide (o0 < (0:Int))))
   else
    some (false)
  ) fun m7=>
 bif m7 then
  some (x0,(0:Int),(0:Int),false)
 else
  jD ((⟨[],[],[]⟩:BoxLoom))
theorem en61:Enters Try.prog 61:=enters_of Try.func61 (by kernel_rfl) rfl
theorem wk61 {gI:Gh} {wI:World} {x0:BoxLoom} {x1:BoxPick} {up0:Value} (rp0:RV gI.m wI x0 up0) {up1:Value} (rp1:RV gI.m wI x1 up1) {r:BoxLoom × Int × Int × Bool} (h:f61 x0 x1=some r):Fn Try.prog 61 #[up0,up1] gI wI (fun m w v=>∃ y0 y1 y2 y3,v=.tuple #[y0,y1,y2,y3]∧RV m w (r.1) y0∧y1=.int .i64 (r.2.1)∧y2=.int .i64 (r.2.2.1)∧y3=.bool (r.2.2.2)):=by
 unfold f61 at h
 refine fn_of_E Try.func61 rfl (Nat.le_of_ble_eq_true rfl) fun g0 hm hfr=>?_
 have rp0:RV g0.m wI x0 up0:=hm ▸ rp0
 have rp1:RV g0.m wI x1 up1:=hm ▸ rp1
 show E _ 106 none _ _ _ _ _
 refine Zf (Za (Ze .plain rfl (D_box (g:=g0) rfl rp0 fun g1 w1 p1 hs q1=>?_)))
 have hfr:=hfr.ext hs
 have rp1:=rp1.ext hs
 refine Ze .plain rfl (D_box (g:=g1) rfl rp1 fun g2 w2 p2 hs q2=>?_)
 have hfr:=hfr.ext hs
 have q1:=q1.ext hs
 refine Ze .plain rfl (D_allocOc (g:=g2) 2004 (⟨[],[],[]⟩:BoxLoom) Try.zeroValue25 (fun m w=>⟨_,(rep_two rep_nil (rep_two rep_nil rep_nil)),rfl⟩) fun g3 w3 p3 hs b3 cb=>?_)
 have hfr:=hfr.stp hs
 have q1:=q1.stp hs
 have q2:=q2.stp hs
 have g8:OSF 2004 60400 0 g3 w3 3 25 ([]:List Int) p3:=cb.osf (by rfl)
 have i8:OSF 2004 60401 1 g3 w3 3 25 ([]:List Int) p3:=cb.osf (by rfl)
 have k8:OSF 2004 60402 2 g3 w3 87 25 ([]:List BoxShuttle) p3:=cb.osf (by rfl)
 clear cb
 refine Zg (.int .i64 (0)) rfl rfl ?_
 refine Zg (.int .i64 (0)) rfl rfl ?_
 refine Zg (.bool false) rfl rfl ?_
 refine Zb (Zd (Zf (Zs (x:=.tmp 2) Try.isAgg25 Try.sizeOf25 q1 fun v4 r4 xF=>?_)))
 have q5:=Zm (part_BoxPick_0).1 q2
 refine Zs (x:=.tmp 14) Try.isAgg3 Try.sizeOf3 q5 fun v6 r6 yF=>?_
 obtain rfl:=Zj.1 r6
 obtain ⟨y8,zF,h⟩:=bsome h
 refine Zs (x:=.tmp 2) Try.isAgg25 Try.sizeOf25 q1 fun v9 r9 aG=>?_
 have bG:=Zm (part_BoxPick_1).1 q2
 refine Zs (x:=.tmp 18) Try.isAgg3 Try.sizeOf3 bG fun pH cG nD=>?_
 obtain rfl:=Zj.1 cG
 obtain ⟨o0,oD,h⟩:=bsome h
 refine E_drawL (g:=g3) (n:=10) [(3,(fun v g w=>v=.int .i64 (y8))),(7,(fun v g w=>v=.int .i64 (o0)))] [0,1,2,3,4,5,6,7,8,9] rfl mixed (by kernel_rfl) (⟨fun _=>up_eq _,fun _=>up_eq _,trivial⟩) ?_
 refine L_ld (c:=v4) rfl rfl .plain (fun _ _ h=>h.ch) xF rfl ?_
 refine L_p (fPtr p2 0) rfl rfl (Zc at_83_0 rfl (PT.ptr q2)) ?_
 refine L_ld (c:=.int .i64 ((x1).Left)) rfl rfl .plain (fun _ _ h=>h.ch) yF rfl ?_
 refine L_do (φ:=fun v g w=>v=.int .i64 (y8)) rfl rfl .plain (fun g w hd=>Zp (g:=g) (vs:=[v4,.int .i64 (0),.int .i64 ((x1).Left)]) en89 (.cons rfl (.cons rfl (.cons rfl .nil))) (wk89 (r4.ext hd.1) zF) fun g' w' v hs hr=>⟨g',hs,hr⟩) (fun v7 hv=>?_)
 obtain ⟨_,_,_,rfl⟩:=hv
 refine L_ld (c:=v9) rfl rfl .plain (fun _ _ h=>h.ch) aG rfl ?_
 refine L_p (fPtr p2 1) rfl rfl (Zc at_83_1 rfl (PT.ptr q2)) ?_
 refine L_ld (c:=.int .i64 ((x1).Right)) rfl rfl .plain (fun _ _ h=>h.ch) nD rfl ?_
 refine L_do (φ:=fun v g w=>v=.int .i64 (o0)) rfl rfl .plain (fun g w hd=>Zp (g:=g) (vs:=[v9,.int .i64 (1),.int .i64 ((x1).Right)]) en89 (.cons rfl (.cons rfl (.cons rfl .nil))) (wk89 (r9.ext hd.1) oD) fun g' w' v hs hr=>⟨g',hs,hr⟩) (fun qH hv=>?_)
 obtain ⟨_,_,_,rfl⟩:=hv
 refine L_p (.int .i64 (y8)) rfl rfl (P_assign rfl) ?_
 refine L_p (.int .i64 (o0)) rfl rfl (P_assign rfl) ?_
 refine L_nl fun iA sH hs=>?_
 have hfr:=hfr.ext hs
 have q1:=q1.ext hs
 have q2:=q2.ext hs
 have g8:=g8.ext hs
 have i8:=i8.ext hs
 have k8:=k8.ext hs
 have b3:=b3.ext hs
 clear hs
 refine Zb (Zd (Zq h (fun (s:BoxLoom) e w=>∃ (g:Gh) ,Fr gI wI g w∧e 2=p1∧PT g.m w (x0:BoxLoom) p1∧e 3=p2∧PT g.m w (x1:BoxPick) p2∧e 4=p3∧OB 2004 g w 25 (s:BoxLoom) p3∧OSF 2004 60400 0 g w 3 25 ((s).Boxes) p3∧OSF 2004 60401 1 g w 3 25 ((s).At) p3∧OSF 2004 60402 2 g w 87 25 ((s).Shuttles) p3∧e 8=.int .i64 (y8)∧e 9=.int .i64 (o0)) (fun X46 jD sD h=>?_) ?_))
 ·obtain ⟨m7, hx, h⟩ := bsome h
  refine E_join (fun e w=>∃ (g:Gh) ,Fr gI wI g w∧e 2=p1∧PT g.m w (x0:BoxLoom) p1∧e 3=p2∧PT g.m w (x1:BoxPick) p2∧e 4=p3∧OB 2004 g w 25 ((⟨[],[],[]⟩:BoxLoom):BoxLoom) p3∧OSF 2004 60400 0 g w 3 25 (((⟨[],[],[]⟩:BoxLoom)).Boxes) p3∧OSF 2004 60401 1 g w 3 25 (((⟨[],[],[]⟩:BoxLoom)).At) p3∧OSF 2004 60402 2 g w 87 25 (((⟨[],[],[]⟩:BoxLoom)).Shuttles) p3∧e 8=.int .i64 (y8)∧e 9=.int .i64 (o0)∧e 34=.bool (m7)) (fun Q' hQ=>?_) (fun nG tH hR=>?_)
  ·replace h := hx
   clear hx
   refine Za (Zn (.int .i64 (y8)) rfl rfl ?_)
   refine EL_in (.bool ((decide (y8 ≥ (0:Int))))) rfl rfl rfl rfl ?_
   refine Zn (.bool ((decide (y8 ≥ (0:Int))))) rfl rfl ?_
   rcases Zt h with ⟨l8,h⟩ | ⟨l8,h⟩
   ·refine EL_y (.int .i64 (o0)) (Zk rfl) rfl rfl l8 rfl ?_
    refine EL_y (.bool ((decide (o0 ≥ (0:Int))))) (P_int rfl rfl rfl) rfl rfl l8 rfl ?_
    refine EL_p (.bool ((decide (o0 ≥ (0:Int))))) (Zl (b:=(decide (y8 ≥ (0:Int)))) rfl (pick_t l8 rfl)) rfl ?_
    refine Zn (.bool ((decide (o0 ≥ (0:Int))))) rfl rfl ?_
    rcases Zt h with ⟨i6,h⟩ | ⟨i6,h⟩
    ·refine EL_s rfl rfl i6 rfl rfl ?_
     refine EL_s rfl rfl i6 rfl rfl ?_
     refine EL_s rfl rfl i6 rfl rfl ?_
     refine EL_skip (.off rfl rfl) rfl ?_
     refine EL_skip (.off rfl rfl) rfl ?_
     refine EL_s rfl rfl i6 rfl rfl ?_
     refine EL_p (.bool true) (Zl (b:=(decide (o0 ≥ (0:Int)))) rfl (pick_t i6 rfl)) rfl ?_
     refine Zb ?_
     obtain rfl:=sinj h
     exact hQ _ _ ⟨iA,hfr,rfl,q1,rfl,q2,rfl,b3,g8,i8,k8,rfl,rfl,rfl⟩
    ·refine EL_y (.int .i64 (y8)) (Zk rfl) rfl rfl i6 rfl ?_
     refine EL_y (.bool ((decide (y8 < (0:Int))))) (P_int rfl rfl rfl) rfl rfl i6 rfl ?_
     refine EL_y (.bool ((decide (y8 < (0:Int))))) (Zk rfl) rfl rfl i6 rfl ?_
     rcases Zt h with ⟨m8,h⟩ | ⟨m8,h⟩
     ·refine EL_y (.int .i64 (o0)) (Zk rfl) rfl rfl m8 rfl ?_
      refine EL_y (.bool ((decide (o0 < (0:Int))))) (P_int rfl rfl rfl) rfl rfl m8 rfl ?_
      refine EL_y (.bool ((decide (o0 < (0:Int))))) (Zl (b:=(decide (y8 < (0:Int)))) rfl (pick_t m8 rfl)) rfl rfl i6 rfl ?_
      refine EL_p (.bool ((decide (o0 < (0:Int))))) (Zl (b:=(decide (o0 ≥ (0:Int)))) rfl (pick_f i6 rfl)) rfl ?_
      refine Zb ?_
      obtain rfl:=sinj h
      exact hQ _ _ ⟨iA,hfr,rfl,q1,rfl,q2,rfl,b3,g8,i8,k8,rfl,rfl,rfl⟩
     ·refine EL_s rfl rfl m8 rfl rfl ?_
      refine EL_s rfl rfl m8 rfl rfl ?_
      refine EL_y (.bool false) (Zl (b:=(decide (y8 < (0:Int)))) rfl (pick_f m8 rfl)) rfl rfl i6 rfl ?_
      refine EL_p (.bool false) (Zl (b:=(decide (o0 ≥ (0:Int)))) rfl (pick_f i6 rfl)) rfl ?_
      refine Zb ?_
      obtain rfl:=sinj h
      exact hQ _ _ ⟨iA,hfr,rfl,q1,rfl,q2,rfl,b3,g8,i8,k8,rfl,rfl,rfl⟩
   ·refine EL_s rfl rfl l8 rfl rfl ?_
    refine EL_s rfl rfl l8 rfl rfl ?_
    refine EL_p (.bool false) (Zl (b:=(decide (y8 ≥ (0:Int)))) rfl (pick_f l8 rfl)) rfl ?_
    refine Zn (.bool false) rfl rfl ?_
    refine EL_y (.int .i64 (y8)) (Zk rfl) rfl rfl rfl rfl ?_
    refine EL_y (.bool ((decide (y8 < (0:Int))))) (P_int rfl rfl rfl) rfl rfl rfl rfl ?_
    refine EL_y (.bool ((decide (y8 < (0:Int))))) (Zk rfl) rfl rfl rfl rfl ?_
    rcases Zt h with ⟨n8,h⟩ | ⟨n8,h⟩
    ·refine EL_y (.int .i64 (o0)) (Zk rfl) rfl rfl n8 rfl ?_
     refine EL_y (.bool ((decide (o0 < (0:Int))))) (P_int rfl rfl rfl) rfl rfl n8 rfl ?_
     refine EL_y (.bool ((decide (o0 < (0:Int))))) (Zl (b:=(decide (y8 < (0:Int)))) rfl (pick_t n8 rfl)) rfl rfl rfl rfl ?_
     refine EL_p (.bool ((decide (o0 < (0:Int))))) (Zl (b:=false) rfl (pick_f rfl rfl)) rfl ?_
     refine Zb ?_
     obtain rfl:=sinj h
     exact hQ _ _ ⟨iA,hfr,rfl,q1,rfl,q2,rfl,b3,g8,i8,k8,rfl,rfl,rfl⟩
    ·refine EL_s rfl rfl n8 rfl rfl ?_
     refine EL_s rfl rfl n8 rfl rfl ?_
     refine EL_y (.bool false) (Zl (b:=(decide (y8 < (0:Int)))) rfl (pick_f n8 rfl)) rfl rfl rfl rfl ?_
     refine EL_p (.bool false) (Zl (b:=false) rfl (pick_f rfl rfl)) rfl ?_
     refine Zb ?_
     obtain rfl:=sinj h
     exact hQ _ _ ⟨iA,hfr,rfl,q1,rfl,q2,rfl,b3,g8,i8,k8,rfl,rfl,rfl⟩
  ·clear hx
   obtain ⟨iB,hfr,pA,qA,eC,iC,n9,rA,u4_0_55,u4_1_55,u4_2_55,jC,kC,jA⟩:=hR
   rcases Zt h with ⟨nA,h⟩ | ⟨nA,h⟩
   ·refine E_cond_true (Eq.trans (show ev _ _ = .bool (m7) from jA) (congrArg Value.bool nA)) ?_
    refine Zf (Za (Ze .plain rfl (D_load (g:=iB) Try.isAgg25 Try.sizeOf25 pA qA fun dG eG=>?_)))
    refine Ze .plain rfl (D_storeOc (g:=iB) (v:=dG) Try.sizeOf25 n9 rA rfl eG fun uH vH hs b58 cb=>?_)
    clear cb
    have hfr:=hfr.stp hs
    refine Zg (.int .i64 (0)) rfl rfl ?_
    refine Zg (.int .i64 (0)) rfl rfl ?_
    refine Zg (.bool false) rfl rfl ?_
    refine Zb (Zd (E_ret (thn_r ?_)))
    obtain rfl:=sinj h
    obtain ⟨ad59,cv59,hp59,tD,cr59⟩:=ob_read Try.isAgg25 Try.sizeOf25 b58
    exact endm_cttt rfl rfl ((show _=p3 from n9).trans hp59) tD (show _=.int .i64 (0) from rfl) (show _=.int .i64 (0) from rfl) (show _=.bool false from rfl) ⟨_,hfr,_,_,_,_,rfl,cr59,rfl,rfl,rfl⟩
   ·refine E_cond_false (Eq.trans (show ev _ _ = .bool (m7) from jA) (congrArg Value.bool nA)) ?_
    exact Zu (Zd (sD ((⟨[],[],[]⟩:BoxLoom)) _ _ ⟨iB,hfr,pA,qA,eC,iC,n9,rA,u4_0_55,u4_1_55,u4_2_55,jC,kC⟩ h))
 ·rintro q8 oG xH ⟨kD, hfr, u9, u3, t8, i3, uA, i5, u4_0_60, u4_1_60, u4_2_60, v8, y9⟩ h
  refine Zf (Za (Ze .plain rfl (D_load (g:=kD) Try.isAgg25 Try.sizeOf25 u9 u3 fun gG hG=>?_)))
  obtain ⟨y63,uD,h⟩:=bsome h
  refine Ze .plain rfl (D_callG (g:=kD) (vs:=[gG]) en50 (.cons rfl .nil) (W50 (iO:=4037) hG uD) fun iG yH v62 hs hm62=>?_)
  have hfr:=hfr.ext hs
  have u3:=u3.ext hs
  have i3:=i3.ext hs
  have u4_0_60:=u4_0_60.ext hs
  have u4_1_60:=u4_1_60.ext hs
  have u4_2_60:=u4_2_60.ext hs
  have i5:=i5.ext hs
  obtain ⟨sk62,ow62,ok62⟩:=hm62
  refine Ze .plain rfl (D_allocOc (g:=iG) 2010 (⟨[],[],[]⟩:BoxLoom) Try.zeroValue25 (fun m w=>⟨_,(rep_two rep_nil (rep_two rep_nil rep_nil)),rfl⟩) fun xA jB lB hs b65 cb=>?_)
  have hfr:=hfr.stp hs
  have u3:=u3.stp hs
  have i3:=i3.stp hs
  have u4_0_60:=u4_0_60.stp hs rfl
  have u4_1_60:=u4_1_60.stp hs rfl
  have u4_2_60:=u4_2_60.stp hs rfl
  have i5:=i5.stp hs rfl
  have ow62:=ow62.stp hs rfl
  have jG:OSF 2010 61000 0 xA jB 3 25 ([]:List Int) lB:=cb.osf (by rfl)
  have kG:OSF 2010 61001 1 xA jB 3 25 ([]:List Int) lB:=cb.osf (by rfl)
  have lG:OSF 2010 61002 2 xA jB 87 25 ([]:List BoxShuttle) lB:=cb.osf (by rfl)
  clear cb
  refine Ze .plain rfl (D_storeOW (g:=xA) Try.sizeOf25 rfl b65 rfl ow62 rfl fun gj66 lD mD bk66 hsa hsb hpp b66=>?_)
  have hfr:=hfr.stp hsa
  have u3:=u3.stp hsa
  have i3:=i3.stp hsa
  have u4_0_60:=u4_0_60.stp hsa rfl
  have u4_1_60:=u4_1_60.stp hsa rfl
  have u4_2_60:=u4_2_60.stp hsa rfl
  have i5:=i5.stp hsa rfl
  have hfr:=hfr.stp hsb
  have u3:=u3.stp hsb
  have i3:=i3.stp hsb
  have u4_0_60:=u4_0_60.stp hsb rfl
  have u4_1_60:=u4_1_60.stp hsb rfl
  have u4_2_60:=u4_2_60.stp hsb rfl
  have i5:=i5.stp hsb rfl
  clear hsa hsb
  subst hpp
  refine Zb (Zd (Zf (Za (Zo v8 rfl ?_))))
  refine Zg (.int .i64 (y8)) rfl rfl ?_
  refine Zb (Zd ?_)
  obtain ⟨⟨b7,d7⟩,hx,h⟩:=bsome h
  refine E_join (fun e w=>∃ (g:Gh) ,Fr gI wI g w∧e 2=p1∧PT g.m w (x0:BoxLoom) p1∧e 3=p2∧PT g.m w (x1:BoxPick) p2∧e 4=p3∧OB 2004 g w 25 (q8:BoxLoom) p3∧OSF 2004 60400 0 g w 3 25 ((q8).Boxes) p3∧OSF 2004 60401 1 g w 3 25 ((q8).At) p3∧OSF 2004 60402 2 g w 87 25 ((q8).Shuttles) p3∧e 10=(Value.pointer (some ⟨bk66,0,none⟩))∧OVb ow_BoxLoom 2010 g w 25 (b7:BoxLoom) bk66∧e 11=.int .i64 (d7)) (fun Q' hQ=>?_) (fun mG pG hR=>?_)
  ·replace h := hx
   clear hx
   refine Zf (Za (Zo v8 rfl ?_))
   refine EL_in (.bool ((decide (y8 ≥ (0:Int))))) rfl rfl rfl rfl ?_
   refine Zb (Zd ?_)
   rcases Zt h with ⟨z9,h⟩ | ⟨z9,h⟩
   ·refine E_ct z9 rfl ?_
    have vD:=Zm (part_BoxPick_1).1 i3
    refine Zs (x:=.tmp 47) Try.isAgg3 Try.sizeOf3 vD fun qG xD lC=>?_
    obtain rfl:=Zj.1 xD
    obtain ⟨y180,x8,h⟩:=bsome h
    obtain ⟨bb181,cc181,ss181,hq181,yA⟩:=(OV.slice b66 (Cxt.fld (Cxt.root ow_BoxLoom bk66) fl_BoxLoom_2 (y63) (sk62)) rfl rfl ((ok62.2).2)).2 x8
    obtain ⟨k9,bA,h⟩:=bsome h
    refine E_drawG (g:=lD) (w:=mD) (i:=2010) (A0:=fun g w=>OV ow_BoxLoom 2010 g w 25 (y63:BoxLoom) bk66 sk62) (A1:=fun g w=>OV ow_BoxLoom 2010 g w 25 (({ y63 with Shuttles:=(List.set ((y63).Shuttles) (Int.toNat y8) ({ y180 with Side:=(1:Int) }:BoxShuttle)) }:BoxLoom):BoxLoom) bk66 sk62) b66 up_ov (n:=13) [(10,(fun _ g w=>OV ow_BoxLoom 2010 g w 25 (({ y63 with Shuttles:=(List.set ((y63).Shuttles) (Int.toNat y8) ({ y180 with Side:=(1:Int) }:BoxShuttle)) }:BoxLoom):BoxLoom) bk66 sk62))] [0,1,2,3,4,5,6,7,8,9,10,11,12] rfl mixed (by kernel_rfl) (⟨fun _=>up_box,trivial⟩) ?_
    refine L_p ((.pointer (some ⟨bk66,(0 + 2),none⟩))) rfl rfl (P_fieldAddrH at_25_2 rfl) ?_
    refine L_val (c:=(hdrV (Prod.snd (Prod.snd sk62)) ((y63).Shuttles).length)) rfl rfl .plain (fun g w hd=>loadHAB (Cxt.fld (Cxt.root ow_BoxLoom bk66) fl_BoxLoom_2 (y63) (sk62)) rfl rfl (Cxt.fld (Cxt.root ow_BoxLoom bk66) fl_BoxLoom_2 (({ y63 with Shuttles:=(List.set ((y63).Shuttles) (Int.toNat y8) ({ y180 with Side:=(1:Int) }:BoxShuttle)) }:BoxLoom)) (sk62)) rfl rfl (by simp) ((ok62.2).2) Try.isAgg23 rfl hd.1.2) ?_
    refine L_p (.int .i64 (y8)) rfl rfl (Zk v8) ?_
    refine L_p ((.pointer (some ⟨bk66,(0 + 2),none⟩))) rfl rfl (P_fieldAddrH at_25_2 rfl) ?_
    refine L_val (c:=(hdrV (Prod.snd (Prod.snd sk62)) ((y63).Shuttles).length)) rfl rfl .plain (fun g w hd=>loadHAB (Cxt.fld (Cxt.root ow_BoxLoom bk66) fl_BoxLoom_2 (y63) (sk62)) rfl rfl (Cxt.fld (Cxt.root ow_BoxLoom bk66) fl_BoxLoom_2 (({ y63 with Shuttles:=(List.set ((y63).Shuttles) (Int.toNat y8) ({ y180 with Side:=(1:Int) }:BoxShuttle)) }:BoxLoom)) (sk62)) rfl rfl (by simp) ((ok62.2).2) Try.isAgg23 rfl hd.1.2) ?_
    refine L_p (.int .i64 (y8)) rfl rfl (Zk v8) ?_
    refine L_p (fPtr p2 1) rfl rfl (Zc at_83_1 t8 (PT.ptr i3)) ?_
    refine L_ld (c:=.int .i64 ((x1).Right)) rfl rfl .plain (fun _ _ h=>h.1.ch) lC rfl ?_
    refine L_p ((.pointer (some ⟨bb181,((Int.toNat y8) * 5),none⟩))) rfl rfl (P_indexH Try.underlying23 Try.sizeOf87 (rfl.trans (hdr_at hq181 _)) rfl (idx_nat x8)) ?_
    refine L_p ((.pointer (some ⟨bb181,(((Int.toNat y8) * 5) + 1),none⟩))) rfl rfl (P_fieldAddrH at_87_1 rfl) ?_
    refine L_do (φ:=fun _ g w=>OV ow_BoxLoom 2010 g w 25 (({ y63 with Shuttles:=(List.set ((y63).Shuttles) (Int.toNat y8) ({ y180 with Side:=(1:Int) }:BoxShuttle)) }:BoxLoom):BoxLoom) bk66 sk62) rfl rfl .plain (fun g w hd=>D_storeOVR (g:=g) (u':=((1:Int):Int)) (Cxt.fld (Cxt.idx (Cxt.fld (Cxt.root ow_BoxLoom bk66) fl_BoxLoom_2 (y63) (sk62)) ((y63).Shuttles) (Int.toNat y8) bb181 cc181 ss181 (idx_nat x8).2 yA) fl_BoxShuttle_1 (y180) (())) ((congrArg (fun q=>({ y63 with Shuttles:=q }:BoxLoom)) (set_idx x8)).trans rfl) rfl (((congrArg (fun q=>(Prod.fst sk62,(Prod.fst (Prod.snd sk62),(Sl.at bb181 cc181 q)))) set_unit).trans (congrArg (fun q=>(Prod.fst sk62,(Prod.fst (Prod.snd sk62),q))) (hq181).symm)).trans rfl) Try.sizeOf3 rfl hd.1.2 rfl (Zj.2 rfl)) (fun rG hv=>?_)
    clear hv
    refine L_p ((.pointer (some ⟨bb181,((Int.toNat y8) * 5),none⟩))) rfl rfl (P_indexH Try.underlying23 Try.sizeOf87 (rfl.trans (hdr_at hq181 _)) rfl (by simpa using idx_nat bA)) ?_
    refine L_p ((.pointer (some ⟨bb181,(((Int.toNat y8) * 5) + 2),none⟩))) rfl rfl (P_fieldAddrH at_87_2 rfl) ?_
    refine L_nil fun yD sG hall=>?_
    have hs:=hall.1.1
    have hfr:=hfr.stp hs
    have u3:=u3.stp hs
    have i3:=i3.stp hs
    have u4_0_60:=u4_0_60.stp hs rfl
    have u4_1_60:=u4_1_60.stp hs rfl
    have u4_2_60:=u4_2_60.stp hs rfl
    have i5:=i5.stp hs rfl
    have b195:=(word_all (A:=fun g w=>OV ow_BoxLoom 2010 g w 25 (({ y63 with Shuttles:=(List.set ((y63).Shuttles) (Int.toNat y8) ({ y180 with Side:=(1:Int) }:BoxShuttle)) }:BoxLoom):BoxLoom) bk66 sk62) 10 rfl hall)
    clear hs hall
    refine Ze .plain rfl (D_storeOV (g:=yD) (u':=((x1).Right:Int)) (Cxt.fld (Cxt.idx (Cxt.fld (Cxt.root ow_BoxLoom bk66) fl_BoxLoom_2 (({ y63 with Shuttles:=(List.set ((y63).Shuttles) (Int.toNat y8) ({ y180 with Side:=(1:Int) }:BoxShuttle)) }:BoxLoom)) (sk62)) ((({ y63 with Shuttles:=(List.set ((y63).Shuttles) (Int.toNat y8) ({ y180 with Side:=(1:Int) }:BoxShuttle)) }:BoxLoom)).Shuttles) (Int.toNat y8) bb181 cc181 ss181 (idx_nat bA).2 (by simpa using yA)) fl_BoxShuttle_2 (k9) (())) ((congrArg (fun q=>({ (({ y63 with Shuttles:=(List.set ((y63).Shuttles) (Int.toNat y8) ({ y180 with Side:=(1:Int) }:BoxShuttle)) }:BoxLoom)) with Shuttles:=q }:BoxLoom)) (set_idx bA)).trans rfl) (((congrArg (fun q=>(Prod.fst sk62,(Prod.fst (Prod.snd sk62),(Sl.at bb181 cc181 q)))) set_unit).trans (congrArg (fun q=>(Prod.fst sk62,(Prod.fst (Prod.snd sk62),q))) (hq181).symm)).trans rfl) Try.sizeOf3 rfl b195 rfl (Zj.2 rfl) fun mB zD hs b213=>?_)
    have hfr:=hfr.stp hs
    have u3:=u3.stp hs
    have i3:=i3.stp hs
    have u4_0_60:=u4_0_60.stp hs rfl
    have u4_1_60:=u4_1_60.stp hs rfl
    have u4_2_60:=u4_2_60.stp hs rfl
    have i5:=i5.stp hs rfl
    replace b213:OV ow_BoxLoom 2010 mB zD 25 (({ (({ y63 with Shuttles:=(List.set ((y63).Shuttles) (Int.toNat y8) ({ y180 with Side:=(1:Int) }:BoxShuttle)) }:BoxLoom)) with Shuttles:=(List.set ((({ y63 with Shuttles:=(List.set ((y63).Shuttles) (Int.toNat y8) ({ y180 with Side:=(1:Int) }:BoxShuttle)) }:BoxLoom)).Shuttles) (Int.toNat y8) ({ k9 with Box:=(x1).Right }:BoxShuttle)) }:BoxLoom):BoxLoom) bk66 sk62:=b213
    refine Zb ?_
    obtain ⟨rfl,rfl⟩:=pairs2 h
    exact hQ _ _ ⟨mB,hfr,u9,u3,t8,i3,uA,i5,u4_0_60,u4_1_60,u4_2_60,rfl,⟨_,b213,ok62⟩,rfl⟩
   ·refine E_cf z9 rfl ?_
    refine Zf (Za (Zo y9 rfl ?_))
    refine Zg (.int .i64 (o0)) rfl rfl ?_
    refine Zb (Zd ?_)
    have aE:=Zm (part_BoxPick_0).1 i3
    refine Zs (x:=.tmp 60) Try.isAgg3 Try.sizeOf3 aE fun tG bE mC=>?_
    obtain rfl:=Zj.1 bE
    obtain ⟨x5,a9,h⟩:=bsome h
    obtain ⟨bb229,cc229,ss229,hq229,zA⟩:=(OV.slice b66 (Cxt.fld (Cxt.root ow_BoxLoom bk66) fl_BoxLoom_2 (y63) (sk62)) rfl rfl ((ok62.2).2)).2 a9
    obtain ⟨l9,gA,h⟩:=bsome h
    refine E_drawG (g:=lD) (w:=mD) (i:=2010) (A0:=fun g w=>OV ow_BoxLoom 2010 g w 25 (y63:BoxLoom) bk66 sk62) (A1:=fun g w=>OV ow_BoxLoom 2010 g w 25 (({ y63 with Shuttles:=(List.set ((y63).Shuttles) (Int.toNat o0) ({ x5 with Side:=(0:Int) }:BoxShuttle)) }:BoxLoom):BoxLoom) bk66 sk62) b66 up_ov (n:=13) [(10,(fun _ g w=>OV ow_BoxLoom 2010 g w 25 (({ y63 with Shuttles:=(List.set ((y63).Shuttles) (Int.toNat o0) ({ x5 with Side:=(0:Int) }:BoxShuttle)) }:BoxLoom):BoxLoom) bk66 sk62))] [0,1,2,3,4,5,6,7,8,9,10,11,12] rfl mixed (by kernel_rfl) (⟨fun _=>up_box,trivial⟩) ?_
    refine L_p ((.pointer (some ⟨bk66,(0 + 2),none⟩))) rfl rfl (P_fieldAddrH at_25_2 rfl) ?_
    refine L_val (c:=(hdrV (Prod.snd (Prod.snd sk62)) ((y63).Shuttles).length)) rfl rfl .plain (fun g w hd=>loadHAB (Cxt.fld (Cxt.root ow_BoxLoom bk66) fl_BoxLoom_2 (y63) (sk62)) rfl rfl (Cxt.fld (Cxt.root ow_BoxLoom bk66) fl_BoxLoom_2 (({ y63 with Shuttles:=(List.set ((y63).Shuttles) (Int.toNat o0) ({ x5 with Side:=(0:Int) }:BoxShuttle)) }:BoxLoom)) (sk62)) rfl rfl (by simp) ((ok62.2).2) Try.isAgg23 rfl hd.1.2) ?_
    refine L_p (.int .i64 (o0)) rfl rfl (Zk y9) ?_
    refine L_p ((.pointer (some ⟨bk66,(0 + 2),none⟩))) rfl rfl (P_fieldAddrH at_25_2 rfl) ?_
    refine L_val (c:=(hdrV (Prod.snd (Prod.snd sk62)) ((y63).Shuttles).length)) rfl rfl .plain (fun g w hd=>loadHAB (Cxt.fld (Cxt.root ow_BoxLoom bk66) fl_BoxLoom_2 (y63) (sk62)) rfl rfl (Cxt.fld (Cxt.root ow_BoxLoom bk66) fl_BoxLoom_2 (({ y63 with Shuttles:=(List.set ((y63).Shuttles) (Int.toNat o0) ({ x5 with Side:=(0:Int) }:BoxShuttle)) }:BoxLoom)) (sk62)) rfl rfl (by simp) ((ok62.2).2) Try.isAgg23 rfl hd.1.2) ?_
    refine L_p (.int .i64 (o0)) rfl rfl (Zk y9) ?_
    refine L_p (fPtr p2 0) rfl rfl (Zc at_83_0 t8 (PT.ptr i3)) ?_
    refine L_ld (c:=.int .i64 ((x1).Left)) rfl rfl .plain (fun _ _ h=>h.1.ch) mC rfl ?_
    refine L_p ((.pointer (some ⟨bb229,((Int.toNat o0) * 5),none⟩))) rfl rfl (P_indexH Try.underlying23 Try.sizeOf87 (rfl.trans (hdr_at hq229 _)) rfl (idx_nat a9)) ?_
    refine L_p ((.pointer (some ⟨bb229,(((Int.toNat o0) * 5) + 1),none⟩))) rfl rfl (P_fieldAddrH at_87_1 rfl) ?_
    refine L_do (φ:=fun _ g w=>OV ow_BoxLoom 2010 g w 25 (({ y63 with Shuttles:=(List.set ((y63).Shuttles) (Int.toNat o0) ({ x5 with Side:=(0:Int) }:BoxShuttle)) }:BoxLoom):BoxLoom) bk66 sk62) rfl rfl .plain (fun g w hd=>D_storeOVR (g:=g) (u':=((0:Int):Int)) (Cxt.fld (Cxt.idx (Cxt.fld (Cxt.root ow_BoxLoom bk66) fl_BoxLoom_2 (y63) (sk62)) ((y63).Shuttles) (Int.toNat o0) bb229 cc229 ss229 (idx_nat a9).2 zA) fl_BoxShuttle_1 (x5) (())) ((congrArg (fun q=>({ y63 with Shuttles:=q }:BoxLoom)) (set_idx a9)).trans rfl) rfl (((congrArg (fun q=>(Prod.fst sk62,(Prod.fst (Prod.snd sk62),(Sl.at bb229 cc229 q)))) set_unit).trans (congrArg (fun q=>(Prod.fst sk62,(Prod.fst (Prod.snd sk62),q))) (hq229).symm)).trans rfl) Try.sizeOf3 rfl hd.1.2 rfl (Zj.2 rfl)) (fun uG hv=>?_)
    clear hv
    refine L_p ((.pointer (some ⟨bb229,((Int.toNat o0) * 5),none⟩))) rfl rfl (P_indexH Try.underlying23 Try.sizeOf87 (rfl.trans (hdr_at hq229 _)) rfl (by simpa using idx_nat gA)) ?_
    refine L_p ((.pointer (some ⟨bb229,(((Int.toNat o0) * 5) + 2),none⟩))) rfl rfl (P_fieldAddrH at_87_2 rfl) ?_
    refine L_nil fun cE vG hall=>?_
    have hs:=hall.1.1
    have hfr:=hfr.stp hs
    have u3:=u3.stp hs
    have i3:=i3.stp hs
    have u4_0_60:=u4_0_60.stp hs rfl
    have u4_1_60:=u4_1_60.stp hs rfl
    have u4_2_60:=u4_2_60.stp hs rfl
    have i5:=i5.stp hs rfl
    have b243:=(word_all (A:=fun g w=>OV ow_BoxLoom 2010 g w 25 (({ y63 with Shuttles:=(List.set ((y63).Shuttles) (Int.toNat o0) ({ x5 with Side:=(0:Int) }:BoxShuttle)) }:BoxLoom):BoxLoom) bk66 sk62) 10 rfl hall)
    clear hs hall
    refine Ze .plain rfl (D_storeOV (g:=cE) (u':=((x1).Left:Int)) (Cxt.fld (Cxt.idx (Cxt.fld (Cxt.root ow_BoxLoom bk66) fl_BoxLoom_2 (({ y63 with Shuttles:=(List.set ((y63).Shuttles) (Int.toNat o0) ({ x5 with Side:=(0:Int) }:BoxShuttle)) }:BoxLoom)) (sk62)) ((({ y63 with Shuttles:=(List.set ((y63).Shuttles) (Int.toNat o0) ({ x5 with Side:=(0:Int) }:BoxShuttle)) }:BoxLoom)).Shuttles) (Int.toNat o0) bb229 cc229 ss229 (idx_nat gA).2 (by simpa using zA)) fl_BoxShuttle_2 (l9) (())) ((congrArg (fun q=>({ (({ y63 with Shuttles:=(List.set ((y63).Shuttles) (Int.toNat o0) ({ x5 with Side:=(0:Int) }:BoxShuttle)) }:BoxLoom)) with Shuttles:=q }:BoxLoom)) (set_idx gA)).trans rfl) (((congrArg (fun q=>(Prod.fst sk62,(Prod.fst (Prod.snd sk62),(Sl.at bb229 cc229 q)))) set_unit).trans (congrArg (fun q=>(Prod.fst sk62,(Prod.fst (Prod.snd sk62),q))) (hq229).symm)).trans rfl) Try.sizeOf3 rfl b243 rfl (Zj.2 rfl) fun nB dE hs b262=>?_)
    have hfr:=hfr.stp hs
    have u3:=u3.stp hs
    have i3:=i3.stp hs
    have u4_0_60:=u4_0_60.stp hs rfl
    have u4_1_60:=u4_1_60.stp hs rfl
    have u4_2_60:=u4_2_60.stp hs rfl
    have i5:=i5.stp hs rfl
    replace b262:OV ow_BoxLoom 2010 nB dE 25 (({ (({ y63 with Shuttles:=(List.set ((y63).Shuttles) (Int.toNat o0) ({ x5 with Side:=(0:Int) }:BoxShuttle)) }:BoxLoom)) with Shuttles:=(List.set ((({ y63 with Shuttles:=(List.set ((y63).Shuttles) (Int.toNat o0) ({ x5 with Side:=(0:Int) }:BoxShuttle)) }:BoxLoom)).Shuttles) (Int.toNat o0) ({ l9 with Box:=(x1).Left }:BoxShuttle)) }:BoxLoom):BoxLoom) bk66 sk62:=b262
    refine Zb ?_
    obtain ⟨rfl,rfl⟩:=pairs2 h
    exact hQ _ _ ⟨nB,hfr,u9,u3,t8,i3,uA,i5,u4_0_60,u4_1_60,u4_2_60,rfl,⟨_,b262,ok62⟩,rfl⟩
  ·clear hx
   obtain ⟨eE,hfr,r8,j6,g7,l5,mA,t5,u4_0_263,u4_1_263,u4_2_263,i9,⟨o8,i7,d9⟩,eB⟩:=hR
   refine Zf ?_
   have gE:=Zm (part_BoxPick_0).1 l5
   refine Zs (x:=.tmp 66) Try.isAgg3 Try.sizeOf3 gE fun xG iE qC=>?_
   obtain rfl:=Zj.1 iE
   have jE:=Zm (part_BoxLoom_1).1 j6
   refine Zs (x:=.tmp 68) Try.isAgg22 Try.sizeOf22 jE fun oB tB rC=>?_
   obtain ⟨x6,aB,h⟩:=bsome h
   have kE:=PT_idx tB aB
   refine Zs (x:=.tmp 70) Try.isAgg3 Try.sizeOf3 kE fun yG lE tC=>?_
   obtain rfl:=Zj.1 lE
   have mE:=Zm (part_BoxPick_0).1 l5
   refine Zs (x:=.tmp 73) Try.isAgg3 Try.sizeOf3 mE fun zG nE uC=>?_
   obtain rfl:=Zj.1 nE
   have oE:=Zm (part_BoxLoom_1).1 j6
   refine Zs (x:=.tmp 75) Try.isAgg22 Try.sizeOf22 oE fun vB yB vC=>?_
   obtain ⟨y6,bB,h⟩:=bsome h
   have rE:=PT_idx yB bB
   refine Zs (x:=.tmp 77) Try.isAgg3 Try.sizeOf3 rE fun aH sE xC=>?_
   obtain rfl:=Zj.1 sE
   have tE:=Zm (part_BoxPick_1).1 l5
   refine Zs (x:=.tmp 81) Try.isAgg3 Try.sizeOf3 tE fun bH uE yC=>?_
   obtain rfl:=Zj.1 uE
   have vE:=Zm (part_BoxLoom_1).1 j6
   refine Zs (x:=.tmp 83) Try.isAgg22 Try.sizeOf22 vE fun zB aC aD=>?_
   obtain ⟨a7,cB,h⟩:=bsome h
   have xE:=PT_idx aC cB
   refine Zs (x:=.tmp 85) Try.isAgg3 Try.sizeOf3 xE fun cH yE bD=>?_
   obtain rfl:=Zj.1 yE
   have zE:=Zm (part_BoxPick_1).1 l5
   refine Zs (x:=.tmp 89) Try.isAgg3 Try.sizeOf3 zE fun dH cF cD=>?_
   obtain rfl:=Zj.1 cF
   have dF:=Zm (part_BoxLoom_1).1 j6
   refine Zs (x:=.tmp 91) Try.isAgg22 Try.sizeOf22 dF fun cC dC eD=>?_
   obtain ⟨j7,dB,h⟩:=bsome h
   have eF:=PT_idx dC dB
   refine Zs (x:=.tmp 93) Try.isAgg3 Try.sizeOf3 eF fun gH iF gD=>?_
   obtain rfl:=Zj.1 iF
   refine E_drawL (g:=eE) (n:=32) [] [0,1,2,3,4,5,6,7,8,9,10,11,12,13,14,15,16,17,18,19,20,21,22,23,24,25,26,27,28,29,30,31] rfl mixed (by kernel_rfl) trivial ?_
   refine L_p (fPtr p2 0) rfl rfl (Zc at_83_0 g7 (PT.ptr l5)) ?_
   refine L_ld (c:=.int .i64 ((x1).Left)) rfl rfl .plain (fun _ _ h=>h.ch) qC rfl ?_
   refine L_p (fPtr p1 1) rfl rfl (Zc at_25_1 r8 (PT.ptr j6)) ?_
   refine L_ld (c:=oB) rfl rfl .plain (fun _ _ h=>h.ch) rC rfl ?_
   refine L_p (ePtr oB (0:Int) 1) rfl rfl (Zh (α:=Int) Try.underlying22 Try.sizeOf3 rfl tB rfl aB) ?_
   refine L_ld (c:=.int .i64 (x6)) rfl rfl .plain (fun _ _ h=>h.ch) tC rfl ?_
   refine L_p (.int .i64 (max64 (x1).Left x6)) rfl rfl (P_max rfl rfl) ?_
   refine L_p (fPtr p2 0) rfl rfl (Zc at_83_0 g7 (PT.ptr l5)) ?_
   refine L_ld (c:=.int .i64 ((x1).Left)) rfl rfl .plain (fun _ _ h=>h.ch) uC rfl ?_
   refine L_p (fPtr p1 1) rfl rfl (Zc at_25_1 r8 (PT.ptr j6)) ?_
   refine L_ld (c:=vB) rfl rfl .plain (fun _ _ h=>h.ch) vC rfl ?_
   refine L_p (ePtr vB (0:Int) 1) rfl rfl (Zh (α:=Int) Try.underlying22 Try.sizeOf3 rfl yB rfl bB) ?_
   refine L_ld (c:=.int .i64 (y6)) rfl rfl .plain (fun _ _ h=>h.ch) xC rfl ?_
   refine L_p (.int .i64 (min64 (x1).Left y6)) rfl rfl (P_min rfl rfl) ?_
   refine L_p (.int .i64 ((w64 ((max64 (x1).Left x6) - (min64 (x1).Left y6))))) rfl rfl (P_int rfl rfl rfl) ?_
   refine L_p (fPtr p2 1) rfl rfl (Zc at_83_1 g7 (PT.ptr l5)) ?_
   refine L_ld (c:=.int .i64 ((x1).Right)) rfl rfl .plain (fun _ _ h=>h.ch) yC rfl ?_
   refine L_p (fPtr p1 1) rfl rfl (Zc at_25_1 r8 (PT.ptr j6)) ?_
   refine L_ld (c:=zB) rfl rfl .plain (fun _ _ h=>h.ch) aD rfl ?_
   refine L_p (ePtr zB (1:Int) 1) rfl rfl (Zh (α:=Int) Try.underlying22 Try.sizeOf3 rfl aC rfl cB) ?_
   refine L_ld (c:=.int .i64 (a7)) rfl rfl .plain (fun _ _ h=>h.ch) bD rfl ?_
   refine L_p (.int .i64 (max64 (x1).Right a7)) rfl rfl (P_max rfl rfl) ?_
   refine L_p (.int .i64 ((w64 ((w64 ((max64 (x1).Left x6) - (min64 (x1).Left y6))) + (max64 (x1).Right a7))))) rfl rfl (P_int rfl rfl rfl) ?_
   refine L_p (fPtr p2 1) rfl rfl (Zc at_83_1 g7 (PT.ptr l5)) ?_
   refine L_ld (c:=.int .i64 ((x1).Right)) rfl rfl .plain (fun _ _ h=>h.ch) cD rfl ?_
   refine L_p (fPtr p1 1) rfl rfl (Zc at_25_1 r8 (PT.ptr j6)) ?_
   refine L_ld (c:=cC) rfl rfl .plain (fun _ _ h=>h.ch) eD rfl ?_
   refine L_p (ePtr cC (1:Int) 1) rfl rfl (Zh (α:=Int) Try.underlying22 Try.sizeOf3 rfl dC rfl dB) ?_
   refine L_ld (c:=.int .i64 (j7)) rfl rfl .plain (fun _ _ h=>h.ch) gD rfl ?_
   refine L_p (.int .i64 (min64 (x1).Right j7)) rfl rfl (P_min rfl rfl) ?_
   refine L_p (.int .i64 ((w64 ((w64 ((w64 ((max64 (x1).Left x6) - (min64 (x1).Left y6))) + (max64 (x1).Right a7))) - (min64 (x1).Right j7))))) rfl rfl (P_int rfl rfl rfl) ?_
   refine L_p (.int .i64 ((w64 ((w64 ((w64 ((max64 (x1).Left x6) - (min64 (x1).Left y6))) + (max64 (x1).Right a7))) - (min64 (x1).Right j7))))) rfl rfl (P_assign rfl) ?_
   refine L_nl fun oA iH hs=>?_
   have hfr:=hfr.ext hs
   have l5:=l5.ext hs
   have t5:=t5.ext hs
   have i7:=i7.ext hs
   clear hs
   refine Zb (Zd (Zf (Za (EL_p (fPtr p2 0) (Zc at_83_0 g7 (PT.ptr l5)) rfl ?_))))
   have nF:=Zm (part_BoxPick_0).1 l5
   refine Ze .plain rfl (D_load (g:=oA) Try.isAgg3 Try.sizeOf3 rfl nF fun jH oF=>?_)
   obtain rfl:=Zj.1 oF
   refine EL_p (fPtr p2 1) (Zc at_83_1 g7 (PT.ptr l5)) rfl ?_
   have pF:=Zm (part_BoxPick_1).1 l5
   refine Ze .plain rfl (D_load (g:=oA) Try.isAgg3 Try.sizeOf3 rfl pF fun kH qF=>?_)
   obtain rfl:=Zj.1 qF
   refine Ze .plain rfl (D_buildSliceA (g:=oA) 4101 (xs:=([(x1).Left,(x1).Right]:List Int)) (vs:=[.int .i64 ((x1).Left),.int .i64 ((x1).Right)]) Try.underlying22 Try.sizeOf3 Try.zeroValue3 rfl rfl (.cons rfl (.cons rfl .nil)) (RVs.cons (Zj.2 rfl) (RVs.cons (Zj.2 rfl) RVs.nil)) rfl rfl fun rF lH mH hs b334 _=>?_)
   have hfr:=hfr.stp hs
   have t5:=t5.stp hs rfl
   have i7:=i7.stp hs rfl
   refine EL_p ((.pointer (some ⟨bk66,(0 + 1),none⟩))) (P_fieldAddrH at_25_1 i9) rfl ?_
   obtain ⟨sk337,ow337,ok337⟩:=OA.toW b334
   refine Ze .plain rfl (D_storeW (g:=rF) (Cxt.fld (Cxt.root ow_BoxLoom bk66) fl_BoxLoom_1 (b7) (o8)) rfl rfl Try.sizeOf22 rfl i7 rfl ow337 rfl fun gj338 sF tF hsa hsb b338=>?_)
   have hfr:=hfr.stp hsa
   have t5:=t5.stp hsa rfl
   have hfr:=hfr.stp hsb
   have t5:=t5.stp hsb rfl
   clear hsa hsb
   replace b338:OV ow_BoxLoom 2010 sF tF 25 (({ b7 with At:=([(x1).Left,(x1).Right]:List Int) }:BoxLoom):BoxLoom) bk66 (Prod.fst o8,(sk337,Prod.snd (Prod.snd o8))):=b338
   refine Zb (Zd (Zf (Za ?_)))
   obtain ⟨go340,hs,b340⟩:=OV.toOB b338 ⟨(d9.1),⟨ok337,((d9.2).2)⟩⟩
   have hfr:=hfr.stp hs
   have t5:=t5.stp hs rfl
   refine Ze .plain rfl (D_loadO (g:=go340) Try.isAgg25 Try.sizeOf25 i9 b340 fun uF vF=>?_)
   refine Zo eB rfl ?_
   refine EL_p (.int .i64 ((w64 ((w64 ((w64 ((max64 (x1).Left x6) - (min64 (x1).Left y6))) + (max64 (x1).Right a7))) - (min64 (x1).Right j7))))) (Zk rfl) rfl ?_
   refine Ze .plain rfl (D_storeOc (g:=go340) (v:=uF) Try.sizeOf25 mA t5 rfl vF fun nH oH hs b342 cb=>?_)
   clear cb
   have hfr:=hfr.stp hs
   refine Zg (.int .i64 (d7)) rfl rfl ?_
   refine EL_p (.int .i64 ((w64 ((w64 ((w64 ((max64 (x1).Left x6) - (min64 (x1).Left y6))) + (max64 (x1).Right a7))) - (min64 (x1).Right j7))))) (P_assign rfl) rfl ?_
   refine Zg (.bool true) rfl rfl ?_
   refine Zb (Zd (E_ret ?_))
   obtain rfl:=sinj h
   obtain ⟨ad343,cv343,hp343,iD,cr343⟩:=ob_read Try.isAgg25 Try.sizeOf25 b342
   exact endm_cttt rfl rfl ((show _=p3 from mA).trans hp343) iD (show _=.int .i64 (d7) from rfl) (show _=.int .i64 ((w64 ((w64 ((w64 ((max64 (x1).Left x6) - (min64 (x1).Left y6))) + (max64 (x1).Right a7))) - (min64 (x1).Right j7)))) from rfl) (show _=.bool true from rfl) ⟨_,hfr,_,_,_,_,rfl,cr343,rfl,rfl,rfl⟩
def f63 (x0:List Int):Option (Bool):=
 (f52 x0).bind fun y2=>
 some ((!y2))
def f76 (x0:BoxRace) (x1:List BoxPick):Option (BoxRun × Int × Int):=
 jn (σ:=BoxRun) (fun m8=>
  some (m8,(0:Int),(0:Int))
  ) fun jA=>
 lp (σ:=BoxRun × Int) (fun mA (i6,i3)=>
  bif (decide (i3 < ((x1).length : Int))) then
   jn (σ:=BoxRun) (fun d7=>
    mA (d7,(w64 (i3 + (1:Int))))
    ) fun nA=>
   (idx x1 i3).bind fun oA=>
   (f97 ((i6).last) oA).bind fun o0=>
   jn (σ:=BoxRun) (fun l5=>
    (apnd 8 ((l5).thrown) (([o0.2.1]:List Int))).bind fun t5=>
    nA ((⟨t5,o0.1,(w64 ((l5).moves + o0.2.2))⟩:BoxRun))
    ) fun pA=>
   bif (o0.2.1 == (0 : Int)) then
    some ((⟨[],⟨(⟨List.toArray [(⟨List.toArray [0,0,0,0],rfl⟩:Vector Int 4),(⟨List.toArray [0,0,0,0],rfl⟩:Vector Int 4)],rfl⟩:Vector (Vector Int 4) 2),⟨0,0⟩⟩,0⟩:BoxRun),i3,(9:Int))
   else
    pA (i6)
  else
   jA (i6)
  ) big ((⟨[],x0,0⟩:BoxRun),(0:Int))
theorem en76:Enters Try.prog 76:=enters_of Try.func76 (by kernel_rfl) rfl
theorem wk76 {gI:Gh} {wI:World} {x0:BoxRace} {x1:List BoxPick} {up0:Value} (rp0:RV gI.m wI x0 up0) {up1:Value} (rp1:RV gI.m wI x1 up1) {r:BoxRun × Int × Int} (h:f76 x0 x1=some r):Fn Try.prog 76 #[up0,up1] gI wI (fun m w v=>∃ y0 y1 y2,v=.tuple #[y0,y1,y2]∧RV m w (r.1) y0∧y1=.int .i64 (r.2.1)∧y2=.int .i64 (r.2.2)):=by
 unfold f76 at h
 refine fn_of_E Try.func76 rfl (Nat.le_of_ble_eq_true rfl) fun g0 hm hfr=>?_
 have rp0:RV g0.m wI x0 up0:=hm ▸ rp0
 have rp1:RV g0.m wI x1 up1:=hm ▸ rp1
 show E _ 46 none _ _ _ _ _
 refine Zf (Za (Ze .plain rfl (D_box (g:=g0) rfl rp0 fun g1 w1 p1 hs q1=>?_)))
 have hfr:=hfr.ext hs
 have rp1:=rp1.ext hs
 refine Ze .plain rfl (D_allocOc (g:=g1) 2004 (⟨[],⟨(⟨List.toArray [(⟨List.toArray [0,0,0,0],rfl⟩:Vector Int 4),(⟨List.toArray [0,0,0,0],rfl⟩:Vector Int 4)],rfl⟩:Vector (Vector Int 4) 2),⟨0,0⟩⟩,0⟩:BoxRun) Try.zeroValue129 (fun m w=>⟨_,(rep_two rep_nil (rep_two (rep_two (rep_vec (flat_chunk (rep_vec (flat_chunk rep_int (flat_chunk rep_int (flat_chunk rep_int (flat_chunk rep_int flat_nil)))) rfl) (flat_chunk (rep_vec (flat_chunk rep_int (flat_chunk rep_int (flat_chunk rep_int (flat_chunk rep_int flat_nil)))) rfl) flat_nil)) rfl) (rep_two rep_int rep_int)) rep_int)),rfl⟩) fun g2 w2 p2 hs b2 cb=>?_)
 have hfr:=hfr.stp hs
 have rp1:=rp1.stp hs
 have q1:=q1.stp hs
 have o8:OSF 2004 60400 0 g2 w2 3 129 ([]:List Int) p2:=cb.osf (by rfl)
 clear cb
 refine Zg (.int .i64 (0)) rfl rfl ?_
 refine Zg (.int .i64 (0)) rfl rfl ?_
 refine Zb (Zd (Zf (Za (Ze .plain rfl (D_load (g:=g2) Try.isAgg108 Try.sizeOf108 rfl q1 fun v3 r3=>?_)))))
 refine EL_p (fPtr p2 1) (Zc at_129_1 rfl (OB.ptr b2)) rfl ?_
 refine Ze .plain rfl (D_storeFc (g:=g2) part_BoxRun_1 Try.sizeOf108 rfl b2 rfl r3 fun g5 w5 hs b5 rst hos=>?_)
 have o8:=o8.rest hs rst
 clear rst hos
 have hfr:=hfr.stp hs
 have rp1:=rp1.stp hs
 refine Zb (Zd (Zq h (fun (s:BoxRun) e w=>∃ (g:Gh) ,Fr gI wI g w∧e 4=p2∧OB 2004 g w 129 (s:BoxRun) p2∧OSF 2004 60400 0 g w 3 129 ((s).thrown) p2) (fun X122 jA mB h=>?_) ?_))
 ·refine Zf (Za (Zn up1 rfl rfl ?_))
  refine EL_p (.int .i64 ((x1).length:Int)) (P_len Try.underlying30 rfl rp1) rfl ?_
  refine Zn (.int .i64 (0)) rfl rfl ?_
  refine Zb (Zd (Zr ?_))
  refine E_lp h (fun (s:BoxRun × Int) e w=>∃ (g:Gh) ,Fr gI wI g w∧e 4=p2∧OB 2004 g w 129 (s.1:BoxRun) p2∧OSF 2004 60400 0 g w 3 129 ((s.1).thrown) p2∧e 14=up1∧RV g.m w (x1:List BoxPick) up1∧e 15=.int .i64 (((x1).length:Int))∧e 16=.int .i64 (s.2)) ⟨g5,hfr,rfl,b5,o8,rfl,rp1,rfl,rfl⟩ (fun X123 mA nB=>?_)
  rintro ⟨i6,i3⟩ tD zD ⟨q8,hfr,x6,i5,u4_0_124,m7,u3,v7,y6⟩ h
  refine Zf (Za (EL_in (.bool ((decide (i3 < ((x1).length:Int))))) y6 v7 rfl rfl ?_))
  refine Zb (Zd (Zf ?_))
  rcases Zt h with ⟨g8,h⟩ | ⟨g8,h⟩
  ·refine E_ct g8 rfl ?_
   refine Zu (Zd (Zq h (fun (s:BoxRun) e w=>∃ (g:Gh) ,Fr gI wI g w∧e 4=p2∧OB 2004 g w 129 (s:BoxRun) p2∧OSF 2004 60400 0 g w 3 129 ((s).thrown) p2∧e 14=up1∧RV g.m w (x1:List BoxPick) up1∧e 15=.int .i64 (((x1).length:Int))∧e 16=.int .i64 (i3)) (fun X181 nA oB h=>?_) ?_))
   ·refine Zr ?_
    refine Zf (Za (Zo y6 rfl ?_))
    obtain ⟨oA,a9,h⟩:=bsome h
    refine EL_p (ePtr up1 i3 2) (Zh (α:=BoxPick) Try.underlying30 Try.sizeOf83 m7 u3 y6 a9) rfl ?_
    have iC:=PT_idx u3 a9
    refine Ze .plain rfl (D_load (g:=q8) Try.isAgg83 Try.sizeOf83 rfl iC fun jC r8=>?_)
    refine Ze .plain rfl (D_allocOc (g:=q8) 2008 (⟨0,0⟩:BoxPick) Try.zeroValue83 (fun m w=>⟨_,(rep_two rep_int rep_int),rfl⟩) fun kC aE bE hs b185 cb=>?_)
    have hfr:=hfr.stp hs
    have u4_0_124:=u4_0_124.stp hs rfl
    have i5:=i5.stp hs rfl
    have u3:=u3.stp hs
    have r8:=r8.stp hs
    clear cb
    refine Zg (.int .i64 (i3)) rfl rfl ?_
    refine Ze .plain rfl (D_storeOc (g:=kC) (v:=jC) Try.sizeOf83 rfl b185 rfl r8 fun t8 cE hs b186 cb=>?_)
    clear cb
    have hfr:=hfr.stp hs
    have u4_0_124:=u4_0_124.stp hs rfl
    have i5:=i5.stp hs rfl
    have u3:=u3.stp hs
    refine Zb (Zd (Zf (Za (EL_p (fPtr p2 1) (Zc at_129_1 x6 (OB.ptr i5)) rfl ?_))))
    refine Ze .plain rfl (D_loadF (g:=t8) part_BoxRun_1.1 Try.isAgg108 Try.sizeOf108 rfl i5 fun lC mC=>?_)
    refine Ze .plain rfl (D_loadO (g:=t8) Try.isAgg83 Try.sizeOf83 rfl b186 fun qC rC=>?_)
    obtain ⟨o0,tB,h⟩:=bsome h
    refine Ze .plain rfl (Zp (g:=t8) (vs:=[lC,qC]) en97 (.cons rfl (.cons rfl .nil)) (wk97 mC rC tB) fun tC uD dE hs hr=>?_)
    have hfr:=hfr.ext hs
    have u4_0_124:=u4_0_124.ext hs
    have i5:=i5.ext hs
    have u3:=u3.ext hs
    obtain ⟨g7,nD,oD,rfl,i7,rfl,rfl⟩:=hr
    refine Zn (.tuple #[g7,.int .i64 (o0.2.1),.int .i64 (o0.2.2)]) rfl rfl ?_
    refine EL_p g7 (Zi rfl rfl) rfl ?_
    refine EL_p (.int .i64 (o0.2.1)) (Zi rfl rfl) rfl ?_
    refine EL_p (.int .i64 (o0.2.2)) (Zi rfl rfl) rfl ?_
    refine Ze .plain rfl (D_allocOc (g:=tC) 2009 (⟨(⟨List.toArray [(⟨List.toArray [0,0,0,0],rfl⟩:Vector Int 4),(⟨List.toArray [0,0,0,0],rfl⟩:Vector Int 4)],rfl⟩:Vector (Vector Int 4) 2),⟨0,0⟩⟩:BoxRace) Try.zeroValue108 (fun m w=>⟨_,(rep_two (rep_vec (flat_chunk (rep_vec (flat_chunk rep_int (flat_chunk rep_int (flat_chunk rep_int (flat_chunk rep_int flat_nil)))) rfl) (flat_chunk (rep_vec (flat_chunk rep_int (flat_chunk rep_int (flat_chunk rep_int (flat_chunk rep_int flat_nil)))) rfl) flat_nil)) rfl) (rep_two rep_int rep_int)),rfl⟩) fun uC eE qA hs b192 cb=>?_)
    have hfr:=hfr.stp hs
    have u4_0_124:=u4_0_124.stp hs rfl
    have i5:=i5.stp hs rfl
    have u3:=u3.stp hs
    have i7:=i7.stp hs
    clear cb
    refine Ze .plain rfl (D_storeOc (g:=uC) (v:=g7) Try.sizeOf108 rfl b192 rfl i7 fun v8 vC hs b193 cb=>?_)
    clear cb
    have hfr:=hfr.stp hs
    have u4_0_124:=u4_0_124.stp hs rfl
    have i5:=i5.stp hs rfl
    have u3:=u3.stp hs
    refine Zg (.int .i64 (o0.2.1)) rfl rfl ?_
    refine Zg (.int .i64 (o0.2.2)) rfl rfl ?_
    refine Zb (Zd (Zq h (fun (s:BoxRun) e w=>∃ (g:Gh) ,Fr gI wI g w∧e 4=p2∧OB 2004 g w 129 (s:BoxRun) p2∧OSF 2004 60400 0 g w 3 129 ((s).thrown) p2∧e 9=qA∧OB 2009 g w 108 (o0.1:BoxRace) qA∧e 10=.int .i64 (o0.2.1)∧e 11=.int .i64 (o0.2.2)∧e 14=up1∧RV g.m w (x1:List BoxPick) up1∧e 15=.int .i64 (((x1).length:Int))∧e 16=.int .i64 (i3)) (fun X198 pA vB h=>?_) ?_))
    ·refine Zf (Za (Zn (.int .i64 (o0.2.1)) rfl rfl ?_))
     refine EL_in (.bool ((o0.2.1 == (0:Int)))) rfl rfl rfl rfl ?_
     refine Zb (Zd ?_)
     rcases Zt h with ⟨i8,h⟩ | ⟨i8,h⟩
     ·refine E_ct i8 rfl ?_
      refine Zf (Za ?_)
      have rA:RV v8.m vC (⟨[],⟨(⟨List.toArray [(⟨List.toArray [0,0,0,0],rfl⟩:Vector Int 4),(⟨List.toArray [0,0,0,0],rfl⟩:Vector Int 4)],rfl⟩:Vector (Vector Int 4) 2),⟨0,0⟩⟩,0⟩:BoxRun) (.agg (setCh [[.slice none 0 0],[.int .i64 0,.int .i64 0,.int .i64 0,.int .i64 0,.int .i64 0,.int .i64 0,.int .i64 0,.int .i64 0,.int .i64 0,.int .i64 0],[.int .i64 0]] []).flatten.toArray):=RV_build rfl (rep_pair (rep_nil) (rep_pair ((rep_two (rep_vec (flat_chunk (rep_vec (flat_chunk rep_int (flat_chunk rep_int (flat_chunk rep_int (flat_chunk rep_int flat_nil)))) rfl) (flat_chunk (rep_vec (flat_chunk rep_int (flat_chunk rep_int (flat_chunk rep_int (flat_chunk rep_int flat_nil)))) rfl) flat_nil)) rfl) (rep_two rep_int rep_int))) (rep_last (rep_int))))
      generalize d9:(Value.agg (setCh [[.slice none 0 0],[.int .i64 0,.int .i64 0,.int .i64 0,.int .i64 0,.int .i64 0,.int .i64 0,.int .i64 0,.int .i64 0,.int .i64 0,.int .i64 0],[.int .i64 0]] []).flatten.toArray)=uA at rA
      refine EL_p uA (d9 ▸ P_build (vs:=[]) [[.slice none 0 0],[.int .i64 0,.int .i64 0,.int .i64 0,.int .i64 0,.int .i64 0,.int .i64 0,.int .i64 0,.int .i64 0,.int .i64 0,.int .i64 0],[.int .i64 0]] lay_129 rfl rfl .nil trivial) rfl ?_
      refine Zn (.int .i64 (i3)) rfl rfl ?_
      refine Ze .plain rfl (D_storeOc (g:=v8) (v:=uA) Try.sizeOf129 x6 i5 rfl rA fun xC yC hs b201 cb=>?_)
      have sD:OSF 2004 60400 0 xC yC 3 129 ([]:List Int) p2:=cb.osf (by rw [← d9]; rfl)
      clear cb
      have hfr:=hfr.stp hs
      refine Zg (.int .i64 (i3)) rfl rfl ?_
      refine Zg (.int .i64 (9)) rfl rfl ?_
      refine Zb (Zd (E_ret (thn_r ?_)))
      refine blk_r ?_
      refine thn_r ?_
      refine thn_r ?_
      refine blk_r ?_
      refine thn_r ?_
      obtain rfl:=sinj h
      obtain ⟨ad202,cv202,hp202,yB,cr202⟩:=ob_read Try.isAgg129 Try.sizeOf129 b201
      exact endm_ctt rfl rfl ((show _=p2 from x6).trans hp202) yB (show _=.int .i64 (i3) from rfl) (show _=.int .i64 (9) from rfl) ⟨_,hfr,_,_,_,rfl,cr202,rfl,rfl⟩
     ·refine E_cf i8 rfl ?_
      exact Zu (Zd (vB (i6) _ _ ⟨v8,hfr,x6,i5,u4_0_124,rfl,b193,rfl,rfl,m7,u3,v7,y6⟩ h))
    ·rintro l5 vD aD ⟨bD, hfr, b7, x5, u4_0_203, xA, yA, k9, l9, n9, j6, u9, y9⟩ h
     refine L_loadFS (x:=.tmp 33) part_BoxRun_0.1 Try.isAgg22 Try.sizeOf22 x5 u4_0_203 fun zA cD o210 zB=>?_
     obtain ⟨t5,aC,h⟩:=bsome h
     refine L_loadO0 (x:=.tmp 9) Try.isAgg108 Try.sizeOf108 yA fun k8 l8 cC=>?_
     refine L_loadO (x:=.tmp 39) part_BoxRun_2.1 Try.isAgg3 Try.sizeOf3 x5 fun gE eD dC=>?_
     obtain rfl:=Zj.1 eD
     refine E_drawAS (g:=bD) (w:=aD) (i:=60400) (et:=3) (xs:=((l5).thrown:List Int)) (r:=t5) (u:=zA) cD o210 (n:=10) [(3,(fun v g w=>RV g.m w ([o0.2.1]:List Int) v∧OS 3036 g w 3 ([o0.2.1]:List Int) v∧FullV v)),(4,(fun v g w=>RV g.m w t5 v∧OS 60400 g w 3 t5 v))] [0,1,2,3,4,5,6,7,8,9] rfl mixed (by kernel_rfl) (⟨fun _=>up_and upS_rv (up_and upS_os (upS_eq _)),fun _=>up_as,trivial⟩) ?_
     refine L_p (fPtr p2 0) rfl rfl (Zc at_129_0 b7 (OB.ptr x5)) ?_
     refine L_ld (c:=zA) rfl rfl .plain (fun _ _ h=>⟨h.1.ch,fun b hb ho=>h.1.block b hb (by rw [ho]; decide)⟩) zB rfl ?_
     refine L_p (.int .i64 (o0.2.1)) rfl rfl (Zk k9) ?_
     refine L_do (φ:=fun v g w=>RV g.m w ([o0.2.1]:List Int) v∧OS 3036 g w 3 ([o0.2.1]:List Int) v∧FullV v) rfl rfl .plain (fun g w hd=>D_buildSlice (g:=g) 3036 (xs:=([o0.2.1]:List Int)) (vs:=[.int .i64 (o0.2.1)]) Try.underlying22 Try.sizeOf3 Try.zeroValue3 rfl rfl (.cons rfl .nil) (RVs.cons (Zj.2 rfl) RVs.nil) rfl rfl fun g' w' v hs o r hxt hfl=>⟨g',as_ext hxt,r,o,hfl⟩) (fun v6 hv=>?_)
     clear hv
     refine L_do (φ:=fun v g w=>RV g.m w t5 v∧OS 60400 g w 3 t5 v) rfl rfl .plain (fun g w hd=>D_appendS (g:=g) det_int rfl Try.underlying22 info_3 rfl rfl hd.1.2 rfl (word (A:=fun g w=>RV g.m w ([o0.2.1]:List Int) v6∧OS 3036 g w 3 ([o0.2.1]:List Int) v6∧FullV v6) 3 rfl rfl (deps_of hd)).1 aC) (fun a7 hv=>?_)
     clear hv
     refine L_ld (c:=k8) rfl rfl .plain (fun _ _ h=>⟨h.1.ch,fun b hb ho=>h.1.block b hb (by rw [ho]; decide)⟩) cC xA ?_
     refine L_p (fPtr p2 11) rfl rfl (Zc at_129_2 b7 (OB.ptr x5)) ?_
     refine L_ld (c:=.int .i64 ((l5).moves)) rfl rfl .plain (fun _ _ h=>⟨h.1.ch,fun b hb ho=>h.1.block b hb (by rw [ho]; decide)⟩) dC rfl ?_
     refine L_p (.int .i64 (o0.2.2)) rfl rfl (Zk l9) ?_
     refine L_p (.int .i64 ((w64 ((l5).moves + o0.2.2)))) rfl rfl (P_int rfl rfl rfl) ?_
     refine L_nil fun aB iE hall=>?_
     have hs:=hall.1.1
     have hfr:=hfr.stp hs
     have x5:=x5.stp hs rfl
     have j6:=j6.stp hs
     have l8:=l8.stp hs
     have jE:=(word_all (A:=fun g w=>RV g.m w ([o0.2.1]:List Int) v6∧OS 3036 g w 3 ([o0.2.1]:List Int) v6∧FullV v6) 3 rfl hall).1
     have o228:=(word_all (A:=fun g w=>RV g.m w ([o0.2.1]:List Int) v6∧OS 3036 g w 3 ([o0.2.1]:List Int) v6∧FullV v6) 3 rfl hall).2.1
     have x8:=(word_all (A:=fun g w=>RV g.m w t5 a7∧OS 60400 g w 3 t5 a7) 4 rfl hall).1
     have o229:=(word_all (A:=fun g w=>RV g.m w t5 a7∧OS 60400 g w 3 t5 a7) 4 rfl hall).2
     clear hs hall
     have bB:RV aB.m _ (⟨t5,o0.1,(w64 ((l5).moves + o0.2.2))⟩:BoxRun) (.agg (setCh [[.slice none 0 0],[.int .i64 0,.int .i64 0,.int .i64 0,.int .i64 0,.int .i64 0,.int .i64 0,.int .i64 0,.int .i64 0,.int .i64 0,.int .i64 0],[.int .i64 0]] [(0,a7),(1,k8),(2,.int .i64 ((w64 ((l5).moves + o0.2.2))))]).flatten.toArray):=RV_build rfl (rep_pair (RV.cells x8) (rep_pair (RV.cells l8) (rep_last (rfl))))
     generalize i9:(Value.agg (setCh [[.slice none 0 0],[.int .i64 0,.int .i64 0,.int .i64 0,.int .i64 0,.int .i64 0,.int .i64 0,.int .i64 0,.int .i64 0,.int .i64 0,.int .i64 0],[.int .i64 0]] [(0,a7),(1,k8),(2,.int .i64 ((w64 ((l5).moves + o0.2.2))))]).flatten.toArray)=cB at bB
     refine EL_p cB (i9 ▸ P_build (vs:=[(0,a7),(1,k8),(2,.int .i64 ((w64 ((l5).moves + o0.2.2))))]) [[.slice none 0 0],[.int .i64 0,.int .i64 0,.int .i64 0,.int .i64 0,.int .i64 0,.int .i64 0,.int .i64 0,.int .i64 0,.int .i64 0,.int .i64 0],[.int .i64 0]] lay_129 rfl rfl (.cons rfl (.cons rfl (.cons rfl .nil))) ⟨⟨_,rfl,cells_size x8⟩,⟨⟨_,rfl,cells_size l8⟩,⟨⟨_,rfl,rfl⟩,trivial⟩⟩⟩) rfl ?_
     refine Ze .plain rfl (D_storeOc (g:=aB) (v:=cB) Try.sizeOf129 b7 x5 rfl bB fun dB gD hs b236 cb=>?_)
     obtain ⟨lD,mD,y8,_,_⟩:=RV_list x8
     have eB:OSF 2004 60400 0 dB gD 3 129 (t5:List Int) p2:=cb.osfv (by rw [← i9,y8]; rfl) (o229.stp hs rfl)
     clear cb
     have hfr:=hfr.stp hs
     have j6:=j6.stp hs
     exact Zb (blk_n (Zd (oB ((⟨t5,o0.1,(w64 ((l5).moves + o0.2.2))⟩:BoxRun)) _ _ ⟨dB,hfr,b7,b236,eB,n9,j6,u9,y9⟩ h)))
   ·rintro d7 xD kE ⟨iD, hfr, iB, jB, u4_0_237, z9, bA, gA, iA⟩ h
    refine Za (EL_in (.int .i64 ((w64 (i3 + (1:Int))))) iA rfl rfl rfl ?_)
    refine Zn (.int .i64 ((w64 (i3 + (1:Int))))) rfl rfl ?_
    exact Zb (Zd (nB (d7,(w64 (i3 + (1:Int)))) _ _ ⟨iD,hfr,iB,jB,u4_0_237,z9,bA,gA,rfl⟩ h))
  ·refine E_cf g8 rfl ?_
   refine E_exit ?_
   refine thn_e ?_
   refine thn_e ?_
   refine blk_hit ?_
   exact Zd (mB (i6) _ _ ⟨q8,hfr,x6,i5,u4_0_124⟩ h)
 ·rintro m8 yD lE ⟨lB, hfr, j7, n8, u4_0_238⟩ h
  refine Zf (Za (Ze .plain rfl (D_loadO (g:=lB) Try.isAgg129 Try.sizeOf129 j7 n8 fun jD kD=>?_)))
  refine Ze .plain rfl (D_storeOc (g:=lB) (v:=jD) Try.sizeOf129 j7 n8 rfl kD fun mE nE hs b240 cb=>?_)
  clear cb
  have hfr:=hfr.stp hs
  refine Zg (.int .i64 (0)) rfl rfl ?_
  refine Zg (.int .i64 (0)) rfl rfl ?_
  refine Zb (Zd (E_ret ?_))
  obtain rfl:=sinj h
  obtain ⟨ad241,cv241,hp241,eC,cr241⟩:=ob_read Try.isAgg129 Try.sizeOf129 b240
  exact endm_ctt rfl rfl ((show _=p2 from j7).trans hp241) eC (show _=.int .i64 (0) from rfl) (show _=.int .i64 (0) from rfl) ⟨_,hfr,_,_,_,rfl,cr241,rfl,rfl⟩
def f80 (x0:BoxMill) (x1:BoxRace):Option (It (BoxPick × BoxStep)):=
 some ((fun σ cons s=>f98 ((⟨x0⟩:Ptr BoxMill)) x1 σ cons s))
theorem en80:Enters Try.prog 80:=enters_of Try.func80 (by kernel_rfl) rfl
theorem wk80 {gI:Gh} {wI:World} {x0:BoxMill} {x1:BoxRace} {up0:Value} (rp0:PT gI.m wI x0 up0) {up1:Value} (rp1:RV gI.m wI x1 up1) {r:It (BoxPick × BoxStep)} (h:f80 x0 x1=some r):Fn Try.prog 80 #[up0,up1] gI wI (fun m w v=>ItV Try.prog (RA2 (α:=BoxPick) (β:=BoxStep)) (r) v m w):=by
 unfold f80 at h
 refine fn_of_E Try.func80 rfl (Nat.le_of_ble_eq_true rfl) fun g0 hm hfr=>?_
 have hone500200:=PT.one rp0
 have rp0:PT g0.m wI x0 up0:=hm ▸ rp0
 have rp1:RV g0.m wI x1 up1:=hm ▸ rp1
 show E _ 6 none _ _ _ _ _
 refine Zf (Za (Ze .plain rfl (D_box (g:=g0) (a:=(⟨up0,hone500200⟩:Fv)) rfl (RV_fv.2 rfl) fun g1 w1 p1 hs q1=>?_)))
 have hfr:=hfr.ext hs
 have rp0:=rp0.ext hs
 have rp1:=rp1.ext hs
 refine Ze .plain rfl (D_box (g:=g1) rfl rp1 fun g2 w2 p2 hs q2=>?_)
 have hfr:=hfr.ext hs
 have rp0:=rp0.ext hs
 have q1:=q1.ext hs
 refine Zg (.nilFunc) rfl rfl ?_
 refine Zb (Zd (Zf (Za (EL_p ((.func (.func 98) #[] #[p1,p2])) (P_makeFunc (capf_0_2 (show ev _ _=p1 from rfl) (show ev _ _=p2 from rfl))) rfl ?_))))
 refine Zg ((.func (.func 98) #[] #[p1,p2])) rfl rfl ?_
 refine Zb (Zd (E_ret ?_))
 obtain rfl:=sinj h
 exact end1 rfl rfl (show _=(.func (.func 98) #[] #[p1,p2]) from rfl) ⟨_,hfr,(show ItV Try.prog (RA2 (α:=BoxPick) (β:=BoxStep)) (fun σ cons s=>f98 ((⟨x0⟩:Ptr BoxMill)) x1 σ cons s) ((.func (.func 98) #[] #[p1,p2])) g2.m w2 from ⟨98,#[],#[p1,p2],rfl,en98,fun g' w' hch σ cons s s' h=>wk98  ((PT.ptrOf q1 rp0).ch hch) (q2.ch hch) h⟩)⟩
def f84 (x0:BoxBoxLoom) (x1:BoxShuttle):Option (Bool):=
 Option.bind (α:=Bool) (
  (f87 ((0:Int)) ((9:Int)) (([(x1).Colour]:List Int))).bind fun x5=>
  bif x5 then
   (f87 ((0:Int)) ((1:Int)) (([(x1).Side]:List Int))).bind fun i6=>
   bif i6 then
    (idx (((x0).BoxLoom).Boxes) (x1).Side).bind fun a7=>
    (f87 ((0:Int)) ((w64 (a7 - (1:Int)))) (([(x1).Box]:List Int))).bind fun v6=>
    bif v6 then
     (f87 ((0:Int)) ((1000:Int)) (([((x1).Yarn).Low,((x1).Yarn).High]:List Int))).bind fun y6=>
     bif y6 then
      some ((decide (((x1).Yarn).Low ≤ ((x1).Yarn).High)))
     else
      some (false)
    else
     some (false)
   else
    some (false)
  else
   some (false)
  ) fun b7=>
 some (b7)
theorem en84:Enters Try.prog 84:=enters_of Try.func84 (by kernel_rfl) rfl
theorem wk84 {gI:Gh} {wI:World} {x0:BoxBoxLoom} {x1:BoxShuttle} {up0:Value} (rp0:RV gI.m wI x0 up0) {up1:Value} (rp1:RV gI.m wI x1 up1) {r:Bool} (h:f84 x0 x1=some r):Fn Try.prog 84 #[up0,up1] gI wI (fun _ _ v=>v=.bool (r)):=by
 unfold f84 at h
 refine fn_of_E Try.func84 rfl (Nat.le_of_ble_eq_true rfl) fun g0 hm hfr=>?_
 have rp0:RV g0.m wI x0 up0:=hm ▸ rp0
 have rp1:RV g0.m wI x1 up1:=hm ▸ rp1
 show E _ 48 none _ _ _ _ _
 refine Zf (Za (Ze .plain rfl (D_box (g:=g0) rfl rp0 fun g1 w1 p1 hs q1=>?_)))
 have hfr:=hfr.ext hs
 have rp1:=rp1.ext hs
 refine Ze .plain rfl (D_box (g:=g1) rfl rp1 fun g2 w2 p2 hs q2=>?_)
 have hfr:=hfr.ext hs
 have q1:=q1.ext hs
 refine Zg (.bool false) rfl rfl ?_
 refine Zb (Zd ?_)
 obtain ⟨b7,hx,h⟩:=bsome h
 refine E_join (fun e w=>∃ (g:Gh) ,Fr gI wI g w∧e 4=.bool (b7)) (fun Q' hQ=>?_) (fun nB oB hR=>?_)
 ·replace h := hx
  clear hx
  have y9:=Zm (part_BoxShuttle_0).1 q2
  refine Zs (x:=.tmp 5) Try.isAgg3 Try.sizeOf3 y9 fun tB z9 d7=>?_
  obtain rfl:=Zj.1 z9
  obtain ⟨x5,g7,h⟩:=bsome h
  rcases Zt h with ⟨l5,h⟩ | ⟨l5,h⟩
  ·have bA := Zm (part_BoxShuttle_1).1 q2
   refine Zs (x:=.tmp 10) Try.isAgg3 Try.sizeOf3 bA fun vB gA j7=>?_
   obtain rfl:=Zj.1 gA
   obtain ⟨i6,m7,h⟩:=bsome h
   rcases Zt h with ⟨i3,h⟩ | ⟨i3,h⟩
   ·have g8 := Zm (part_BoxBoxLoom_0).1 q1
    have iA:=Zm (part_BoxLoom_0).1 g8
    refine Zs (x:=.tmp 17) Try.isAgg22 Try.sizeOf22 iA fun i7 i8 k8=>?_
    have jA:=Zm (part_BoxShuttle_1).1 q2
    refine Zs (x:=.tmp 19) Try.isAgg3 Try.sizeOf3 jA fun yB mA l8=>?_
    obtain rfl:=Zj.1 mA
    obtain ⟨a7,v7,h⟩:=bsome h
    have nA:=PT_idx i8 v7
    refine Zs (x:=.tmp 21) Try.isAgg3 Try.sizeOf3 nA fun zB oA m8=>?_
    obtain rfl:=Zj.1 oA
    have pA:=Zm (part_BoxShuttle_2).1 q2
    refine Zs (x:=.tmp 24) Try.isAgg3 Try.sizeOf3 pA fun aC qA n8=>?_
    obtain rfl:=Zj.1 qA
    obtain ⟨v6,o8,h⟩:=bsome h
    rcases Zt h with ⟨t5,h⟩ | ⟨t5,h⟩
    ·have r8 := Zm (part_BoxShuttle_3).1 q2
     have rA:=Zm (part_Span_0).1 r8
     refine Zs (x:=.tmp 31) Try.isAgg3 Try.sizeOf3 rA fun cC uA x8=>?_
     obtain rfl:=Zj.1 uA
     have t8:=Zm (part_BoxShuttle_3).1 q2
     have xA:=Zm (part_Span_1).1 t8
     refine Zs (x:=.tmp 34) Try.isAgg3 Try.sizeOf3 xA fun dC yA y8=>?_
     obtain rfl:=Zj.1 yA
     obtain ⟨y6,a9,h⟩:=bsome h
     rcases Zt h with ⟨x6,h⟩ | ⟨x6,h⟩
     ·have d9 := Zm (part_BoxShuttle_3).1 q2
      have zA:=Zm (part_Span_0).1 d9
      refine Zs (x:=.tmp 41) Try.isAgg3 Try.sizeOf3 zA fun eC aB n9=>?_
      obtain rfl:=Zj.1 aB
      have i9:=Zm (part_BoxShuttle_3).1 q2
      have bB:=Zm (part_Span_1).1 i9
      refine Zs (x:=.tmp 44) Try.isAgg3 Try.sizeOf3 bB fun iC cB u9=>?_
      obtain rfl:=Zj.1 cB
      refine E_drawL (g:=g2) (n:=44) [(2,(fun v g w=>RV g.m w ([(x1).Colour]:List Int) v∧OS 3007 g w 3 ([(x1).Colour]:List Int) v∧FullV v)),(3,(fun v g w=>v=.bool (x5))),(7,(fun v g w=>RV g.m w ([(x1).Side]:List Int) v∧OS 3012 g w 3 ([(x1).Side]:List Int) v∧FullV v)),(8,(fun v g w=>v=.bool (i6))),(21,(fun v g w=>RV g.m w ([(x1).Box]:List Int) v∧OS 3026 g w 3 ([(x1).Box]:List Int) v∧FullV v)),(22,(fun v g w=>v=.bool (v6))),(31,(fun v g w=>RV g.m w ([((x1).Yarn).Low,((x1).Yarn).High]:List Int) v∧OS 3036 g w 3 ([((x1).Yarn).Low,((x1).Yarn).High]:List Int) v∧FullV v)),(32,(fun v g w=>v=.bool (y6)))] [0,1,2,3,4,5,6,7,8,9,10,11,12,13,14,15,16,17,18,19,20,21,22,23,24,25,26,27,28,29,30,31,32,33,34,35,36,37,38,39,40,41,42,43] rfl mixed (by kernel_rfl) (⟨fun _=>up_and up_rv (up_and up_os (up_eq _)),fun _=>up_eq _,fun _=>up_and up_rv (up_and up_os (up_eq _)),fun _=>up_eq _,fun _=>up_and up_rv (up_and up_os (up_eq _)),fun _=>up_eq _,fun _=>up_and up_rv (up_and up_os (up_eq _)),fun _=>up_eq _,trivial⟩) ?_
      refine L_p (fPtr p2 0) rfl rfl (Zc at_87_0 rfl (PT.ptr q2)) ?_
      refine L_ld (c:=.int .i64 ((x1).Colour)) rfl rfl .plain (fun _ _ h=>h.ch) d7 rfl ?_
      refine L_do (φ:=fun v g w=>RV g.m w ([(x1).Colour]:List Int) v∧OS 3007 g w 3 ([(x1).Colour]:List Int) v∧FullV v) rfl rfl .plain (fun g w hd=>D_buildSlice (g:=g) 3007 (xs:=([(x1).Colour]:List Int)) (vs:=[.int .i64 ((x1).Colour)]) Try.underlying22 Try.sizeOf3 Try.zeroValue3 rfl rfl (.cons rfl .nil) (RVs.cons (Zj.2 rfl) RVs.nil) rfl rfl fun g' w' v hs o r hxt hfl=>⟨g',hxt,r,o,hfl⟩) (fun o0 hv=>?_)
      clear hv
      refine L_do (φ:=fun v g w=>v=.bool (x5)) rfl rfl .plain (fun g w hd=>Zp (g:=g) (vs:=[.int .i64 (0),.int .i64 (9),o0]) en87 (.cons rfl (.cons rfl (.cons rfl .nil))) (wk87 (word (A:=fun g w=>RV g.m w ([(x1).Colour]:List Int) o0∧OS 3007 g w 3 ([(x1).Colour]:List Int) o0∧FullV o0) 2 rfl rfl (deps_of hd)).1 g7) fun g' w' v hs hr=>⟨g',hs,hr⟩) (fun q8 hv=>?_)
      obtain ⟨_,_,_,rfl⟩:=hv
      refine L_p (.bool (x5)) rfl rfl (Zk rfl) ?_
      refine L_y (fPtr p2 1) rfl rfl rfl rfl l5 (Zc at_87_1 rfl (PT.ptr q2)) ?_
      refine L_ld (c:=.int .i64 ((x1).Side)) rfl rfl (.yes2 rfl rfl l5) (fun _ _ h=>h.ch) j7 rfl ?_
      refine L_do (φ:=fun v g w=>RV g.m w ([(x1).Side]:List Int) v∧OS 3012 g w 3 ([(x1).Side]:List Int) v∧FullV v) rfl rfl (.yes2 rfl rfl l5) (fun g w hd=>D_buildSlice (g:=g) 3012 (xs:=([(x1).Side]:List Int)) (vs:=[.int .i64 ((x1).Side)]) Try.underlying22 Try.sizeOf3 Try.zeroValue3 rfl rfl (.cons rfl .nil) (RVs.cons (Zj.2 rfl) RVs.nil) rfl rfl fun g' w' v hs o r hxt hfl=>⟨g',hxt,r,o,hfl⟩) (fun u3 hv=>?_)
      clear hv
      refine L_do (φ:=fun v g w=>v=.bool (i6)) rfl rfl (.yes2 rfl rfl l5) (fun g w hd=>Zp (g:=g) (vs:=[.int .i64 (0),.int .i64 (1),u3]) en87 (.cons rfl (.cons rfl (.cons rfl .nil))) (wk87 (word (A:=fun g w=>RV g.m w ([(x1).Side]:List Int) u3∧OS 3012 g w 3 ([(x1).Side]:List Int) u3∧FullV u3) 7 rfl rfl (deps_of hd)).1 m7) fun g' w' v hs hr=>⟨g',hs,hr⟩) (fun v8 hv=>?_)
      obtain ⟨_,_,_,rfl⟩:=hv
      refine L_p (.bool (i6)) rfl rfl (Zl (b:=x5) rfl (pick_t l5 rfl)) ?_
      refine L_p (.bool (i6)) rfl rfl (Zk rfl) ?_
      refine L_y (fPtr p1 0) rfl rfl rfl rfl i3 (Zc at_102_0 rfl (PT.ptr q1)) ?_
      refine L_y (fPtr (fPtr p1 0) 0) rfl rfl rfl rfl i3 (Zc at_25_0 rfl (PT.ptr g8)) ?_
      refine L_ld (c:=i7) rfl rfl (.yes2 rfl rfl i3) (fun _ _ h=>h.ch) k8 rfl ?_
      refine L_y (fPtr p2 1) rfl rfl rfl rfl i3 (Zc at_87_1 rfl (PT.ptr q2)) ?_
      refine L_ld (c:=.int .i64 ((x1).Side)) rfl rfl (.yes2 rfl rfl i3) (fun _ _ h=>h.ch) l8 rfl ?_
      refine L_y (ePtr i7 (x1).Side 1) rfl rfl rfl rfl i3 (Zh (α:=Int) Try.underlying22 Try.sizeOf3 rfl i8 rfl v7) ?_
      refine L_ld (c:=.int .i64 (a7)) rfl rfl (.yes2 rfl rfl i3) (fun _ _ h=>h.ch) m8 rfl ?_
      refine L_y (.int .i64 ((w64 (a7 - (1:Int))))) rfl rfl rfl rfl i3 (P_int rfl rfl rfl) ?_
      refine L_y (fPtr p2 2) rfl rfl rfl rfl i3 (Zc at_87_2 rfl (PT.ptr q2)) ?_
      refine L_ld (c:=.int .i64 ((x1).Box)) rfl rfl (.yes2 rfl rfl i3) (fun _ _ h=>h.ch) n8 rfl ?_
      refine L_do (φ:=fun v g w=>RV g.m w ([(x1).Box]:List Int) v∧OS 3026 g w 3 ([(x1).Box]:List Int) v∧FullV v) rfl rfl (.yes2 rfl rfl i3) (fun g w hd=>D_buildSlice (g:=g) 3026 (xs:=([(x1).Box]:List Int)) (vs:=[.int .i64 ((x1).Box)]) Try.underlying22 Try.sizeOf3 Try.zeroValue3 rfl rfl (.cons rfl .nil) (RVs.cons (Zj.2 rfl) RVs.nil) rfl rfl fun g' w' v hs o r hxt hfl=>⟨g',hxt,r,o,hfl⟩) (fun i5 hv=>?_)
      clear hv
      refine L_do (φ:=fun v g w=>v=.bool (v6)) rfl rfl (.yes2 rfl rfl i3) (fun g w hd=>Zp (g:=g) (vs:=[.int .i64 (0),.int .i64 ((w64 (a7 - (1:Int)))),i5]) en87 (.cons rfl (.cons rfl (.cons rfl .nil))) (wk87 (word (A:=fun g w=>RV g.m w ([(x1).Box]:List Int) i5∧OS 3026 g w 3 ([(x1).Box]:List Int) i5∧FullV i5) 21 rfl rfl (deps_of hd)).1 o8) fun g' w' v hs hr=>⟨g',hs,hr⟩) (fun k9 hv=>?_)
      obtain ⟨_,_,_,rfl⟩:=hv
      refine L_p (.bool (v6)) rfl rfl (Zl (b:=i6) rfl (pick_t i3 rfl)) ?_
      refine L_p (.bool (v6)) rfl rfl (Zk rfl) ?_
      refine L_y (fPtr p2 3) rfl rfl rfl rfl t5 (Zc at_87_3 rfl (PT.ptr q2)) ?_
      refine L_y (fPtr (fPtr p2 3) 0) rfl rfl rfl rfl t5 (Zc at_85_0 rfl (PT.ptr r8)) ?_
      refine L_ld (c:=.int .i64 (((x1).Yarn).Low)) rfl rfl (.yes2 rfl rfl t5) (fun _ _ h=>h.ch) x8 rfl ?_
      refine L_y (fPtr p2 3) rfl rfl rfl rfl t5 (Zc at_87_3 rfl (PT.ptr q2)) ?_
      refine L_y (fPtr (fPtr p2 3) 1) rfl rfl rfl rfl t5 (Zc at_85_1 rfl (PT.ptr t8)) ?_
      refine L_ld (c:=.int .i64 (((x1).Yarn).High)) rfl rfl (.yes2 rfl rfl t5) (fun _ _ h=>h.ch) y8 rfl ?_
      refine L_do (φ:=fun v g w=>RV g.m w ([((x1).Yarn).Low,((x1).Yarn).High]:List Int) v∧OS 3036 g w 3 ([((x1).Yarn).Low,((x1).Yarn).High]:List Int) v∧FullV v) rfl rfl (.yes2 rfl rfl t5) (fun g w hd=>D_buildSlice (g:=g) 3036 (xs:=([((x1).Yarn).Low,((x1).Yarn).High]:List Int)) (vs:=[.int .i64 (((x1).Yarn).Low),.int .i64 (((x1).Yarn).High)]) Try.underlying22 Try.sizeOf3 Try.zeroValue3 rfl rfl (.cons rfl (.cons rfl .nil)) (RVs.cons (Zj.2 rfl) (RVs.cons (Zj.2 rfl) RVs.nil)) rfl rfl fun g' w' v hs o r hxt hfl=>⟨g',hxt,r,o,hfl⟩) (fun j6 hv=>?_)
      clear hv
      refine L_do (φ:=fun v g w=>v=.bool (y6)) rfl rfl (.yes2 rfl rfl t5) (fun g w hd=>Zp (g:=g) (vs:=[.int .i64 (0),.int .i64 (1000),j6]) en87 (.cons rfl (.cons rfl (.cons rfl .nil))) (wk87 (word (A:=fun g w=>RV g.m w ([((x1).Yarn).Low,((x1).Yarn).High]:List Int) j6∧OS 3036 g w 3 ([((x1).Yarn).Low,((x1).Yarn).High]:List Int) j6∧FullV j6) 31 rfl rfl (deps_of hd)).1 a9) fun g' w' v hs hr=>⟨g',hs,hr⟩) (fun dB hv=>?_)
      obtain ⟨_,_,_,rfl⟩:=hv
      refine L_p (.bool (y6)) rfl rfl (Zl (b:=v6) rfl (pick_t t5 rfl)) ?_
      refine L_p (.bool (y6)) rfl rfl (Zk rfl) ?_
      refine L_y (fPtr p2 3) rfl rfl rfl rfl x6 (Zc at_87_3 rfl (PT.ptr q2)) ?_
      refine L_y (fPtr (fPtr p2 3) 0) rfl rfl rfl rfl x6 (Zc at_85_0 rfl (PT.ptr d9)) ?_
      refine L_ld (c:=.int .i64 (((x1).Yarn).Low)) rfl rfl (.yes2 rfl rfl x6) (fun _ _ h=>h.ch) n9 rfl ?_
      refine L_y (fPtr p2 3) rfl rfl rfl rfl x6 (Zc at_87_3 rfl (PT.ptr q2)) ?_
      refine L_y (fPtr (fPtr p2 3) 1) rfl rfl rfl rfl x6 (Zc at_85_1 rfl (PT.ptr i9)) ?_
      refine L_ld (c:=.int .i64 (((x1).Yarn).High)) rfl rfl (.yes2 rfl rfl x6) (fun _ _ h=>h.ch) u9 rfl ?_
      refine L_y (.bool ((decide (((x1).Yarn).Low ≤ ((x1).Yarn).High)))) rfl rfl rfl rfl x6 (P_int rfl rfl rfl) ?_
      refine L_p (.bool ((decide (((x1).Yarn).Low ≤ ((x1).Yarn).High)))) rfl rfl (Zl (b:=y6) rfl (pick_t x6 rfl)) ?_
      refine L_p (.bool ((decide (((x1).Yarn).Low ≤ ((x1).Yarn).High)))) rfl rfl (P_assign rfl) ?_
      refine L_nil fun eB jC hall=>?_
      have hs:=hall.1
      have hfr:=hfr.ext hs
      have kC:=(word_all (A:=fun g w=>RV g.m w ([(x1).Colour]:List Int) o0∧OS 3007 g w 3 ([(x1).Colour]:List Int) o0∧FullV o0) 2 rfl hall).1
      have o341:=(word_all (A:=fun g w=>RV g.m w ([(x1).Colour]:List Int) o0∧OS 3007 g w 3 ([(x1).Colour]:List Int) o0∧FullV o0) 2 rfl hall).2.1
      have lC:=(word_all (A:=fun g w=>RV g.m w ([(x1).Side]:List Int) u3∧OS 3012 g w 3 ([(x1).Side]:List Int) u3∧FullV u3) 7 rfl hall).1
      have o346:=(word_all (A:=fun g w=>RV g.m w ([(x1).Side]:List Int) u3∧OS 3012 g w 3 ([(x1).Side]:List Int) u3∧FullV u3) 7 rfl hall).2.1
      have mC:=(word_all (A:=fun g w=>RV g.m w ([(x1).Box]:List Int) i5∧OS 3026 g w 3 ([(x1).Box]:List Int) i5∧FullV i5) 21 rfl hall).1
      have o360:=(word_all (A:=fun g w=>RV g.m w ([(x1).Box]:List Int) i5∧OS 3026 g w 3 ([(x1).Box]:List Int) i5∧FullV i5) 21 rfl hall).2.1
      have qC:=(word_all (A:=fun g w=>RV g.m w ([((x1).Yarn).Low,((x1).Yarn).High]:List Int) j6∧OS 3036 g w 3 ([((x1).Yarn).Low,((x1).Yarn).High]:List Int) j6∧FullV j6) 31 rfl hall).1
      have o370:=(word_all (A:=fun g w=>RV g.m w ([((x1).Yarn).Low,((x1).Yarn).High]:List Int) j6∧OS 3036 g w 3 ([((x1).Yarn).Low,((x1).Yarn).High]:List Int) j6∧FullV j6) 31 rfl hall).2.1
      clear hs hall
      refine Zb ?_
      obtain rfl:=sinj h
      exact hQ _ _ ⟨eB,hfr,rfl⟩
     ·refine E_drawL (g := g2) (n := 44) [(2, (fun v g w => RV g.m w ([(x1).Colour] : List Int) v ∧ OS 3007 g w 3 ([(x1).Colour] : List Int) v ∧ FullV v)), (3, (fun v g w => v = .bool (x5))), (7, (fun v g w => RV g.m w ([(x1).Side] : List Int) v ∧ OS 3012 g w 3 ([(x1).Side] : List Int) v ∧ FullV v)), (8, (fun v g w => v = .bool (i6))), (21, (fun v g w => RV g.m w ([(x1).Box] : List Int) v ∧ OS 3026 g w 3 ([(x1).Box] : List Int) v ∧ FullV v)), (22, (fun v g w => v = .bool (v6))), (31, (fun v g w => RV g.m w ([((x1).Yarn).Low, ((x1).Yarn).High] : List Int) v ∧ OS 3036 g w 3 ([((x1).Yarn).Low, ((x1).Yarn).High] : List Int) v ∧ FullV v)), (32, (fun v g w => v = .bool (y6)))] [0, 1, 2, 3, 4, 5, 6, 7, 8, 9, 10, 11, 12, 13, 14, 15, 16, 17, 18, 19, 20, 21, 22, 23, 24, 25, 26, 27, 28, 29, 30, 31, 32, 33, 34, 35, 36, 37, 38, 39, 40, 41, 42, 43] rfl mixed (by kernel_rfl) (⟨fun _ => up_and up_rv (up_and up_os (up_eq _)), fun _ => up_eq _, fun _ => up_and up_rv (up_and up_os (up_eq _)), fun _ => up_eq _, fun _ => up_and up_rv (up_and up_os (up_eq _)), fun _ => up_eq _, fun _ => up_and up_rv (up_and up_os (up_eq _)), fun _ => up_eq _, trivial⟩) ?_
      refine L_p (fPtr p2 0) rfl rfl (Zc at_87_0 rfl (PT.ptr q2)) ?_
      refine L_ld (c:=.int .i64 ((x1).Colour)) rfl rfl .plain (fun _ _ h=>h.ch) d7 rfl ?_
      refine L_do (φ:=fun v g w=>RV g.m w ([(x1).Colour]:List Int) v∧OS 3007 g w 3 ([(x1).Colour]:List Int) v∧FullV v) rfl rfl .plain (fun g w hd=>D_buildSlice (g:=g) 3007 (xs:=([(x1).Colour]:List Int)) (vs:=[.int .i64 ((x1).Colour)]) Try.underlying22 Try.sizeOf3 Try.zeroValue3 rfl rfl (.cons rfl .nil) (RVs.cons (Zj.2 rfl) RVs.nil) rfl rfl fun g' w' v hs o r hxt hfl=>⟨g',hxt,r,o,hfl⟩) (fun o0 hv=>?_)
      clear hv
      refine L_do (φ:=fun v g w=>v=.bool (x5)) rfl rfl .plain (fun g w hd=>Zp (g:=g) (vs:=[.int .i64 (0),.int .i64 (9),o0]) en87 (.cons rfl (.cons rfl (.cons rfl .nil))) (wk87 (word (A:=fun g w=>RV g.m w ([(x1).Colour]:List Int) o0∧OS 3007 g w 3 ([(x1).Colour]:List Int) o0∧FullV o0) 2 rfl rfl (deps_of hd)).1 g7) fun g' w' v hs hr=>⟨g',hs,hr⟩) (fun q8 hv=>?_)
      obtain ⟨_,_,_,rfl⟩:=hv
      refine L_p (.bool (x5)) rfl rfl (Zk rfl) ?_
      refine L_y (fPtr p2 1) rfl rfl rfl rfl l5 (Zc at_87_1 rfl (PT.ptr q2)) ?_
      refine L_ld (c:=.int .i64 ((x1).Side)) rfl rfl (.yes2 rfl rfl l5) (fun _ _ h=>h.ch) j7 rfl ?_
      refine L_do (φ:=fun v g w=>RV g.m w ([(x1).Side]:List Int) v∧OS 3012 g w 3 ([(x1).Side]:List Int) v∧FullV v) rfl rfl (.yes2 rfl rfl l5) (fun g w hd=>D_buildSlice (g:=g) 3012 (xs:=([(x1).Side]:List Int)) (vs:=[.int .i64 ((x1).Side)]) Try.underlying22 Try.sizeOf3 Try.zeroValue3 rfl rfl (.cons rfl .nil) (RVs.cons (Zj.2 rfl) RVs.nil) rfl rfl fun g' w' v hs o r hxt hfl=>⟨g',hxt,r,o,hfl⟩) (fun u3 hv=>?_)
      clear hv
      refine L_do (φ:=fun v g w=>v=.bool (i6)) rfl rfl (.yes2 rfl rfl l5) (fun g w hd=>Zp (g:=g) (vs:=[.int .i64 (0),.int .i64 (1),u3]) en87 (.cons rfl (.cons rfl (.cons rfl .nil))) (wk87 (word (A:=fun g w=>RV g.m w ([(x1).Side]:List Int) u3∧OS 3012 g w 3 ([(x1).Side]:List Int) u3∧FullV u3) 7 rfl rfl (deps_of hd)).1 m7) fun g' w' v hs hr=>⟨g',hs,hr⟩) (fun v8 hv=>?_)
      obtain ⟨_,_,_,rfl⟩:=hv
      refine L_p (.bool (i6)) rfl rfl (Zl (b:=x5) rfl (pick_t l5 rfl)) ?_
      refine L_p (.bool (i6)) rfl rfl (Zk rfl) ?_
      refine L_y (fPtr p1 0) rfl rfl rfl rfl i3 (Zc at_102_0 rfl (PT.ptr q1)) ?_
      refine L_y (fPtr (fPtr p1 0) 0) rfl rfl rfl rfl i3 (Zc at_25_0 rfl (PT.ptr g8)) ?_
      refine L_ld (c:=i7) rfl rfl (.yes2 rfl rfl i3) (fun _ _ h=>h.ch) k8 rfl ?_
      refine L_y (fPtr p2 1) rfl rfl rfl rfl i3 (Zc at_87_1 rfl (PT.ptr q2)) ?_
      refine L_ld (c:=.int .i64 ((x1).Side)) rfl rfl (.yes2 rfl rfl i3) (fun _ _ h=>h.ch) l8 rfl ?_
      refine L_y (ePtr i7 (x1).Side 1) rfl rfl rfl rfl i3 (Zh (α:=Int) Try.underlying22 Try.sizeOf3 rfl i8 rfl v7) ?_
      refine L_ld (c:=.int .i64 (a7)) rfl rfl (.yes2 rfl rfl i3) (fun _ _ h=>h.ch) m8 rfl ?_
      refine L_y (.int .i64 ((w64 (a7 - (1:Int))))) rfl rfl rfl rfl i3 (P_int rfl rfl rfl) ?_
      refine L_y (fPtr p2 2) rfl rfl rfl rfl i3 (Zc at_87_2 rfl (PT.ptr q2)) ?_
      refine L_ld (c:=.int .i64 ((x1).Box)) rfl rfl (.yes2 rfl rfl i3) (fun _ _ h=>h.ch) n8 rfl ?_
      refine L_do (φ:=fun v g w=>RV g.m w ([(x1).Box]:List Int) v∧OS 3026 g w 3 ([(x1).Box]:List Int) v∧FullV v) rfl rfl (.yes2 rfl rfl i3) (fun g w hd=>D_buildSlice (g:=g) 3026 (xs:=([(x1).Box]:List Int)) (vs:=[.int .i64 ((x1).Box)]) Try.underlying22 Try.sizeOf3 Try.zeroValue3 rfl rfl (.cons rfl .nil) (RVs.cons (Zj.2 rfl) RVs.nil) rfl rfl fun g' w' v hs o r hxt hfl=>⟨g',hxt,r,o,hfl⟩) (fun i5 hv=>?_)
      clear hv
      refine L_do (φ:=fun v g w=>v=.bool (v6)) rfl rfl (.yes2 rfl rfl i3) (fun g w hd=>Zp (g:=g) (vs:=[.int .i64 (0),.int .i64 ((w64 (a7 - (1:Int)))),i5]) en87 (.cons rfl (.cons rfl (.cons rfl .nil))) (wk87 (word (A:=fun g w=>RV g.m w ([(x1).Box]:List Int) i5∧OS 3026 g w 3 ([(x1).Box]:List Int) i5∧FullV i5) 21 rfl rfl (deps_of hd)).1 o8) fun g' w' v hs hr=>⟨g',hs,hr⟩) (fun k9 hv=>?_)
      obtain ⟨_,_,_,rfl⟩:=hv
      refine L_p (.bool (v6)) rfl rfl (Zl (b:=i6) rfl (pick_t i3 rfl)) ?_
      refine L_p (.bool (v6)) rfl rfl (Zk rfl) ?_
      refine L_y (fPtr p2 3) rfl rfl rfl rfl t5 (Zc at_87_3 rfl (PT.ptr q2)) ?_
      refine L_y (fPtr (fPtr p2 3) 0) rfl rfl rfl rfl t5 (Zc at_85_0 rfl (PT.ptr r8)) ?_
      refine L_ld (c:=.int .i64 (((x1).Yarn).Low)) rfl rfl (.yes2 rfl rfl t5) (fun _ _ h=>h.ch) x8 rfl ?_
      refine L_y (fPtr p2 3) rfl rfl rfl rfl t5 (Zc at_87_3 rfl (PT.ptr q2)) ?_
      refine L_y (fPtr (fPtr p2 3) 1) rfl rfl rfl rfl t5 (Zc at_85_1 rfl (PT.ptr t8)) ?_
      refine L_ld (c:=.int .i64 (((x1).Yarn).High)) rfl rfl (.yes2 rfl rfl t5) (fun _ _ h=>h.ch) y8 rfl ?_
      refine L_do (φ:=fun v g w=>RV g.m w ([((x1).Yarn).Low,((x1).Yarn).High]:List Int) v∧OS 3036 g w 3 ([((x1).Yarn).Low,((x1).Yarn).High]:List Int) v∧FullV v) rfl rfl (.yes2 rfl rfl t5) (fun g w hd=>D_buildSlice (g:=g) 3036 (xs:=([((x1).Yarn).Low,((x1).Yarn).High]:List Int)) (vs:=[.int .i64 (((x1).Yarn).Low),.int .i64 (((x1).Yarn).High)]) Try.underlying22 Try.sizeOf3 Try.zeroValue3 rfl rfl (.cons rfl (.cons rfl .nil)) (RVs.cons (Zj.2 rfl) (RVs.cons (Zj.2 rfl) RVs.nil)) rfl rfl fun g' w' v hs o r hxt hfl=>⟨g',hxt,r,o,hfl⟩) (fun j6 hv=>?_)
      clear hv
      refine L_do (φ:=fun v g w=>v=.bool (y6)) rfl rfl (.yes2 rfl rfl t5) (fun g w hd=>Zp (g:=g) (vs:=[.int .i64 (0),.int .i64 (1000),j6]) en87 (.cons rfl (.cons rfl (.cons rfl .nil))) (wk87 (word (A:=fun g w=>RV g.m w ([((x1).Yarn).Low,((x1).Yarn).High]:List Int) j6∧OS 3036 g w 3 ([((x1).Yarn).Low,((x1).Yarn).High]:List Int) j6∧FullV j6) 31 rfl rfl (deps_of hd)).1 a9) fun g' w' v hs hr=>⟨g',hs,hr⟩) (fun dB hv=>?_)
      obtain ⟨_,_,_,rfl⟩:=hv
      refine L_p (.bool (y6)) rfl rfl (Zl (b:=v6) rfl (pick_t t5 rfl)) ?_
      refine L_p (.bool (y6)) rfl rfl (Zk rfl) ?_
      iterate 7 refine L_s rfl rfl rfl x6 rfl ?_
      refine L_p (.bool false) rfl rfl (Zl (b:=y6) rfl (pick_f x6 rfl)) ?_
      refine L_p (.bool false) rfl rfl (P_assign rfl) ?_
      refine L_nil fun iB rC hall=>?_
      have hs:=hall.1
      have hfr:=hfr.ext hs
      have tC:=(word_all (A:=fun g w=>RV g.m w ([(x1).Colour]:List Int) o0∧OS 3007 g w 3 ([(x1).Colour]:List Int) o0∧FullV o0) 2 rfl hall).1
      have o390:=(word_all (A:=fun g w=>RV g.m w ([(x1).Colour]:List Int) o0∧OS 3007 g w 3 ([(x1).Colour]:List Int) o0∧FullV o0) 2 rfl hall).2.1
      have uC:=(word_all (A:=fun g w=>RV g.m w ([(x1).Side]:List Int) u3∧OS 3012 g w 3 ([(x1).Side]:List Int) u3∧FullV u3) 7 rfl hall).1
      have o395:=(word_all (A:=fun g w=>RV g.m w ([(x1).Side]:List Int) u3∧OS 3012 g w 3 ([(x1).Side]:List Int) u3∧FullV u3) 7 rfl hall).2.1
      have vC:=(word_all (A:=fun g w=>RV g.m w ([(x1).Box]:List Int) i5∧OS 3026 g w 3 ([(x1).Box]:List Int) i5∧FullV i5) 21 rfl hall).1
      have o409:=(word_all (A:=fun g w=>RV g.m w ([(x1).Box]:List Int) i5∧OS 3026 g w 3 ([(x1).Box]:List Int) i5∧FullV i5) 21 rfl hall).2.1
      have xC:=(word_all (A:=fun g w=>RV g.m w ([((x1).Yarn).Low,((x1).Yarn).High]:List Int) j6∧OS 3036 g w 3 ([((x1).Yarn).Low,((x1).Yarn).High]:List Int) j6∧FullV j6) 31 rfl hall).1
      have o419:=(word_all (A:=fun g w=>RV g.m w ([((x1).Yarn).Low,((x1).Yarn).High]:List Int) j6∧OS 3036 g w 3 ([((x1).Yarn).Low,((x1).Yarn).High]:List Int) j6∧FullV j6) 31 rfl hall).2.1
      clear hs hall
      refine Zb ?_
      obtain rfl:=sinj h
      exact hQ _ _ ⟨iB,hfr,rfl⟩
    ·refine E_drawL (g := g2) (n := 44) [(2, (fun v g w => RV g.m w ([(x1).Colour] : List Int) v ∧ OS 3007 g w 3 ([(x1).Colour] : List Int) v ∧ FullV v)), (3, (fun v g w => v = .bool (x5))), (7, (fun v g w => RV g.m w ([(x1).Side] : List Int) v ∧ OS 3012 g w 3 ([(x1).Side] : List Int) v ∧ FullV v)), (8, (fun v g w => v = .bool (i6))), (21, (fun v g w => RV g.m w ([(x1).Box] : List Int) v ∧ OS 3026 g w 3 ([(x1).Box] : List Int) v ∧ FullV v)), (22, (fun v g w => v = .bool (v6)))] [0, 1, 2, 3, 4, 5, 6, 7, 8, 9, 10, 11, 12, 13, 14, 15, 16, 17, 18, 19, 20, 21, 22, 23, 24, 25, 26, 27, 28, 29, 30, 31, 32, 33, 34, 35, 36, 37, 38, 39, 40, 41, 42, 43] rfl mixed (by kernel_rfl) (⟨fun _ => up_and up_rv (up_and up_os (up_eq _)), fun _ => up_eq _, fun _ => up_and up_rv (up_and up_os (up_eq _)), fun _ => up_eq _, fun _ => up_and up_rv (up_and up_os (up_eq _)), fun _ => up_eq _, trivial⟩) ?_
     refine L_p (fPtr p2 0) rfl rfl (Zc at_87_0 rfl (PT.ptr q2)) ?_
     refine L_ld (c:=.int .i64 ((x1).Colour)) rfl rfl .plain (fun _ _ h=>h.ch) d7 rfl ?_
     refine L_do (φ:=fun v g w=>RV g.m w ([(x1).Colour]:List Int) v∧OS 3007 g w 3 ([(x1).Colour]:List Int) v∧FullV v) rfl rfl .plain (fun g w hd=>D_buildSlice (g:=g) 3007 (xs:=([(x1).Colour]:List Int)) (vs:=[.int .i64 ((x1).Colour)]) Try.underlying22 Try.sizeOf3 Try.zeroValue3 rfl rfl (.cons rfl .nil) (RVs.cons (Zj.2 rfl) RVs.nil) rfl rfl fun g' w' v hs o r hxt hfl=>⟨g',hxt,r,o,hfl⟩) (fun o0 hv=>?_)
     clear hv
     refine L_do (φ:=fun v g w=>v=.bool (x5)) rfl rfl .plain (fun g w hd=>Zp (g:=g) (vs:=[.int .i64 (0),.int .i64 (9),o0]) en87 (.cons rfl (.cons rfl (.cons rfl .nil))) (wk87 (word (A:=fun g w=>RV g.m w ([(x1).Colour]:List Int) o0∧OS 3007 g w 3 ([(x1).Colour]:List Int) o0∧FullV o0) 2 rfl rfl (deps_of hd)).1 g7) fun g' w' v hs hr=>⟨g',hs,hr⟩) (fun q8 hv=>?_)
     obtain ⟨_,_,_,rfl⟩:=hv
     refine L_p (.bool (x5)) rfl rfl (Zk rfl) ?_
     refine L_y (fPtr p2 1) rfl rfl rfl rfl l5 (Zc at_87_1 rfl (PT.ptr q2)) ?_
     refine L_ld (c:=.int .i64 ((x1).Side)) rfl rfl (.yes2 rfl rfl l5) (fun _ _ h=>h.ch) j7 rfl ?_
     refine L_do (φ:=fun v g w=>RV g.m w ([(x1).Side]:List Int) v∧OS 3012 g w 3 ([(x1).Side]:List Int) v∧FullV v) rfl rfl (.yes2 rfl rfl l5) (fun g w hd=>D_buildSlice (g:=g) 3012 (xs:=([(x1).Side]:List Int)) (vs:=[.int .i64 ((x1).Side)]) Try.underlying22 Try.sizeOf3 Try.zeroValue3 rfl rfl (.cons rfl .nil) (RVs.cons (Zj.2 rfl) RVs.nil) rfl rfl fun g' w' v hs o r hxt hfl=>⟨g',hxt,r,o,hfl⟩) (fun u3 hv=>?_)
     clear hv
     refine L_do (φ:=fun v g w=>v=.bool (i6)) rfl rfl (.yes2 rfl rfl l5) (fun g w hd=>Zp (g:=g) (vs:=[.int .i64 (0),.int .i64 (1),u3]) en87 (.cons rfl (.cons rfl (.cons rfl .nil))) (wk87 (word (A:=fun g w=>RV g.m w ([(x1).Side]:List Int) u3∧OS 3012 g w 3 ([(x1).Side]:List Int) u3∧FullV u3) 7 rfl rfl (deps_of hd)).1 m7) fun g' w' v hs hr=>⟨g',hs,hr⟩) (fun v8 hv=>?_)
     obtain ⟨_,_,_,rfl⟩:=hv
     refine L_p (.bool (i6)) rfl rfl (Zl (b:=x5) rfl (pick_t l5 rfl)) ?_
     refine L_p (.bool (i6)) rfl rfl (Zk rfl) ?_
     refine L_y (fPtr p1 0) rfl rfl rfl rfl i3 (Zc at_102_0 rfl (PT.ptr q1)) ?_
     refine L_y (fPtr (fPtr p1 0) 0) rfl rfl rfl rfl i3 (Zc at_25_0 rfl (PT.ptr g8)) ?_
     refine L_ld (c:=i7) rfl rfl (.yes2 rfl rfl i3) (fun _ _ h=>h.ch) k8 rfl ?_
     refine L_y (fPtr p2 1) rfl rfl rfl rfl i3 (Zc at_87_1 rfl (PT.ptr q2)) ?_
     refine L_ld (c:=.int .i64 ((x1).Side)) rfl rfl (.yes2 rfl rfl i3) (fun _ _ h=>h.ch) l8 rfl ?_
     refine L_y (ePtr i7 (x1).Side 1) rfl rfl rfl rfl i3 (Zh (α:=Int) Try.underlying22 Try.sizeOf3 rfl i8 rfl v7) ?_
     refine L_ld (c:=.int .i64 (a7)) rfl rfl (.yes2 rfl rfl i3) (fun _ _ h=>h.ch) m8 rfl ?_
     refine L_y (.int .i64 ((w64 (a7 - (1:Int))))) rfl rfl rfl rfl i3 (P_int rfl rfl rfl) ?_
     refine L_y (fPtr p2 2) rfl rfl rfl rfl i3 (Zc at_87_2 rfl (PT.ptr q2)) ?_
     refine L_ld (c:=.int .i64 ((x1).Box)) rfl rfl (.yes2 rfl rfl i3) (fun _ _ h=>h.ch) n8 rfl ?_
     refine L_do (φ:=fun v g w=>RV g.m w ([(x1).Box]:List Int) v∧OS 3026 g w 3 ([(x1).Box]:List Int) v∧FullV v) rfl rfl (.yes2 rfl rfl i3) (fun g w hd=>D_buildSlice (g:=g) 3026 (xs:=([(x1).Box]:List Int)) (vs:=[.int .i64 ((x1).Box)]) Try.underlying22 Try.sizeOf3 Try.zeroValue3 rfl rfl (.cons rfl .nil) (RVs.cons (Zj.2 rfl) RVs.nil) rfl rfl fun g' w' v hs o r hxt hfl=>⟨g',hxt,r,o,hfl⟩) (fun i5 hv=>?_)
     clear hv
     refine L_do (φ:=fun v g w=>v=.bool (v6)) rfl rfl (.yes2 rfl rfl i3) (fun g w hd=>Zp (g:=g) (vs:=[.int .i64 (0),.int .i64 ((w64 (a7 - (1:Int)))),i5]) en87 (.cons rfl (.cons rfl (.cons rfl .nil))) (wk87 (word (A:=fun g w=>RV g.m w ([(x1).Box]:List Int) i5∧OS 3026 g w 3 ([(x1).Box]:List Int) i5∧FullV i5) 21 rfl rfl (deps_of hd)).1 o8) fun g' w' v hs hr=>⟨g',hs,hr⟩) (fun k9 hv=>?_)
     obtain ⟨_,_,_,rfl⟩:=hv
     refine L_p (.bool (v6)) rfl rfl (Zl (b:=i6) rfl (pick_t i3 rfl)) ?_
     refine L_p (.bool (v6)) rfl rfl (Zk rfl) ?_
     iterate 8 refine L_s rfl rfl rfl t5 rfl ?_
     refine L_p (.bool false) rfl rfl (Zl (b:=v6) rfl (pick_f t5 rfl)) ?_
     refine L_dead (fun _=>rfl) 9 rfl ?_
     refine L_p (.bool false) rfl rfl (P_assign rfl) ?_
     refine L_nil fun jB yC hall=>?_
     have hs:=hall.1
     have hfr:=hfr.ext hs
     have aD:=(word_all (A:=fun g w=>RV g.m w ([(x1).Colour]:List Int) o0∧OS 3007 g w 3 ([(x1).Colour]:List Int) o0∧FullV o0) 2 rfl hall).1
     have o439:=(word_all (A:=fun g w=>RV g.m w ([(x1).Colour]:List Int) o0∧OS 3007 g w 3 ([(x1).Colour]:List Int) o0∧FullV o0) 2 rfl hall).2.1
     have bD:=(word_all (A:=fun g w=>RV g.m w ([(x1).Side]:List Int) u3∧OS 3012 g w 3 ([(x1).Side]:List Int) u3∧FullV u3) 7 rfl hall).1
     have o444:=(word_all (A:=fun g w=>RV g.m w ([(x1).Side]:List Int) u3∧OS 3012 g w 3 ([(x1).Side]:List Int) u3∧FullV u3) 7 rfl hall).2.1
     have cD:=(word_all (A:=fun g w=>RV g.m w ([(x1).Box]:List Int) i5∧OS 3026 g w 3 ([(x1).Box]:List Int) i5∧FullV i5) 21 rfl hall).1
     have o458:=(word_all (A:=fun g w=>RV g.m w ([(x1).Box]:List Int) i5∧OS 3026 g w 3 ([(x1).Box]:List Int) i5∧FullV i5) 21 rfl hall).2.1
     clear hs hall
     refine Zb ?_
     obtain rfl:=sinj h
     exact hQ _ _ ⟨jB,hfr,rfl⟩
   ·refine E_drawL (g := g2) (n := 44) [(2, (fun v g w => RV g.m w ([(x1).Colour] : List Int) v ∧ OS 3007 g w 3 ([(x1).Colour] : List Int) v ∧ FullV v)), (3, (fun v g w => v = .bool (x5))), (7, (fun v g w => RV g.m w ([(x1).Side] : List Int) v ∧ OS 3012 g w 3 ([(x1).Side] : List Int) v ∧ FullV v)), (8, (fun v g w => v = .bool (i6)))] [0, 1, 2, 3, 4, 5, 6, 7, 8, 9, 10, 11, 12, 13, 14, 15, 16, 17, 18, 19, 20, 21, 22, 23, 24, 25, 26, 27, 28, 29, 30, 31, 32, 33, 34, 35, 36, 37, 38, 39, 40, 41, 42, 43] rfl mixed (by kernel_rfl) (⟨fun _ => up_and up_rv (up_and up_os (up_eq _)), fun _ => up_eq _, fun _ => up_and up_rv (up_and up_os (up_eq _)), fun _ => up_eq _, trivial⟩) ?_
    refine L_p (fPtr p2 0) rfl rfl (Zc at_87_0 rfl (PT.ptr q2)) ?_
    refine L_ld (c:=.int .i64 ((x1).Colour)) rfl rfl .plain (fun _ _ h=>h.ch) d7 rfl ?_
    refine L_do (φ:=fun v g w=>RV g.m w ([(x1).Colour]:List Int) v∧OS 3007 g w 3 ([(x1).Colour]:List Int) v∧FullV v) rfl rfl .plain (fun g w hd=>D_buildSlice (g:=g) 3007 (xs:=([(x1).Colour]:List Int)) (vs:=[.int .i64 ((x1).Colour)]) Try.underlying22 Try.sizeOf3 Try.zeroValue3 rfl rfl (.cons rfl .nil) (RVs.cons (Zj.2 rfl) RVs.nil) rfl rfl fun g' w' v hs o r hxt hfl=>⟨g',hxt,r,o,hfl⟩) (fun o0 hv=>?_)
    clear hv
    refine L_do (φ:=fun v g w=>v=.bool (x5)) rfl rfl .plain (fun g w hd=>Zp (g:=g) (vs:=[.int .i64 (0),.int .i64 (9),o0]) en87 (.cons rfl (.cons rfl (.cons rfl .nil))) (wk87 (word (A:=fun g w=>RV g.m w ([(x1).Colour]:List Int) o0∧OS 3007 g w 3 ([(x1).Colour]:List Int) o0∧FullV o0) 2 rfl rfl (deps_of hd)).1 g7) fun g' w' v hs hr=>⟨g',hs,hr⟩) (fun q8 hv=>?_)
    obtain ⟨_,_,_,rfl⟩:=hv
    refine L_p (.bool (x5)) rfl rfl (Zk rfl) ?_
    refine L_y (fPtr p2 1) rfl rfl rfl rfl l5 (Zc at_87_1 rfl (PT.ptr q2)) ?_
    refine L_ld (c:=.int .i64 ((x1).Side)) rfl rfl (.yes2 rfl rfl l5) (fun _ _ h=>h.ch) j7 rfl ?_
    refine L_do (φ:=fun v g w=>RV g.m w ([(x1).Side]:List Int) v∧OS 3012 g w 3 ([(x1).Side]:List Int) v∧FullV v) rfl rfl (.yes2 rfl rfl l5) (fun g w hd=>D_buildSlice (g:=g) 3012 (xs:=([(x1).Side]:List Int)) (vs:=[.int .i64 ((x1).Side)]) Try.underlying22 Try.sizeOf3 Try.zeroValue3 rfl rfl (.cons rfl .nil) (RVs.cons (Zj.2 rfl) RVs.nil) rfl rfl fun g' w' v hs o r hxt hfl=>⟨g',hxt,r,o,hfl⟩) (fun u3 hv=>?_)
    clear hv
    refine L_do (φ:=fun v g w=>v=.bool (i6)) rfl rfl (.yes2 rfl rfl l5) (fun g w hd=>Zp (g:=g) (vs:=[.int .i64 (0),.int .i64 (1),u3]) en87 (.cons rfl (.cons rfl (.cons rfl .nil))) (wk87 (word (A:=fun g w=>RV g.m w ([(x1).Side]:List Int) u3∧OS 3012 g w 3 ([(x1).Side]:List Int) u3∧FullV u3) 7 rfl rfl (deps_of hd)).1 m7) fun g' w' v hs hr=>⟨g',hs,hr⟩) (fun v8 hv=>?_)
    obtain ⟨_,_,_,rfl⟩:=hv
    refine L_p (.bool (i6)) rfl rfl (Zl (b:=x5) rfl (pick_t l5 rfl)) ?_
    refine L_p (.bool (i6)) rfl rfl (Zk rfl) ?_
    iterate 12 refine L_s rfl rfl rfl i3 rfl ?_
    refine L_p (.bool false) rfl rfl (Zl (b:=i6) rfl (pick_f i3 rfl)) ?_
    refine L_dead (fun _=>rfl) 19 rfl ?_
    refine L_p (.bool false) rfl rfl (P_assign rfl) ?_
    refine L_nil fun lB eD hall=>?_
    have hs:=hall.1
    have hfr:=hfr.ext hs
    have gD:=(word_all (A:=fun g w=>RV g.m w ([(x1).Colour]:List Int) o0∧OS 3007 g w 3 ([(x1).Colour]:List Int) o0∧FullV o0) 2 rfl hall).1
    have o488:=(word_all (A:=fun g w=>RV g.m w ([(x1).Colour]:List Int) o0∧OS 3007 g w 3 ([(x1).Colour]:List Int) o0∧FullV o0) 2 rfl hall).2.1
    have iD:=(word_all (A:=fun g w=>RV g.m w ([(x1).Side]:List Int) u3∧OS 3012 g w 3 ([(x1).Side]:List Int) u3∧FullV u3) 7 rfl hall).1
    have o493:=(word_all (A:=fun g w=>RV g.m w ([(x1).Side]:List Int) u3∧OS 3012 g w 3 ([(x1).Side]:List Int) u3∧FullV u3) 7 rfl hall).2.1
    clear hs hall
    refine Zb ?_
    obtain rfl:=sinj h
    exact hQ _ _ ⟨lB,hfr,rfl⟩
  ·refine E_drawL (g := g2) (n := 44) [(2, (fun v g w => RV g.m w ([(x1).Colour] : List Int) v ∧ OS 3007 g w 3 ([(x1).Colour] : List Int) v ∧ FullV v)), (3, (fun v g w => v = .bool (x5)))] [0, 1, 2, 3, 4, 5, 6, 7, 8, 9, 10, 11, 12, 13, 14, 15, 16, 17, 18, 19, 20, 21, 22, 23, 24, 25, 26, 27, 28, 29, 30, 31, 32, 33, 34, 35, 36, 37, 38, 39, 40, 41, 42, 43] rfl mixed (by kernel_rfl) (⟨fun _ => up_and up_rv (up_and up_os (up_eq _)), fun _ => up_eq _, trivial⟩) ?_
   refine L_p (fPtr p2 0) rfl rfl (Zc at_87_0 rfl (PT.ptr q2)) ?_
   refine L_ld (c:=.int .i64 ((x1).Colour)) rfl rfl .plain (fun _ _ h=>h.ch) d7 rfl ?_
   refine L_do (φ:=fun v g w=>RV g.m w ([(x1).Colour]:List Int) v∧OS 3007 g w 3 ([(x1).Colour]:List Int) v∧FullV v) rfl rfl .plain (fun g w hd=>D_buildSlice (g:=g) 3007 (xs:=([(x1).Colour]:List Int)) (vs:=[.int .i64 ((x1).Colour)]) Try.underlying22 Try.sizeOf3 Try.zeroValue3 rfl rfl (.cons rfl .nil) (RVs.cons (Zj.2 rfl) RVs.nil) rfl rfl fun g' w' v hs o r hxt hfl=>⟨g',hxt,r,o,hfl⟩) (fun o0 hv=>?_)
   clear hv
   refine L_do (φ:=fun v g w=>v=.bool (x5)) rfl rfl .plain (fun g w hd=>Zp (g:=g) (vs:=[.int .i64 (0),.int .i64 (9),o0]) en87 (.cons rfl (.cons rfl (.cons rfl .nil))) (wk87 (word (A:=fun g w=>RV g.m w ([(x1).Colour]:List Int) o0∧OS 3007 g w 3 ([(x1).Colour]:List Int) o0∧FullV o0) 2 rfl rfl (deps_of hd)).1 g7) fun g' w' v hs hr=>⟨g',hs,hr⟩) (fun q8 hv=>?_)
   obtain ⟨_,_,_,rfl⟩:=hv
   refine L_p (.bool (x5)) rfl rfl (Zk rfl) ?_
   iterate 4 refine L_s rfl rfl rfl l5 rfl ?_
   refine L_p (.bool false) rfl rfl (Zl (b:=x5) rfl (pick_f l5 rfl)) ?_
   refine L_dead (fun _=>rfl) 33 rfl ?_
   refine L_p (.bool false) rfl rfl (P_assign rfl) ?_
   refine L_nil fun mB jD hall=>?_
   have hs:=hall.1
   have hfr:=hfr.ext hs
   have kD:=(word_all (A:=fun g w=>RV g.m w ([(x1).Colour]:List Int) o0∧OS 3007 g w 3 ([(x1).Colour]:List Int) o0∧FullV o0) 2 rfl hall).1
   have o537:=(word_all (A:=fun g w=>RV g.m w ([(x1).Colour]:List Int) o0∧OS 3007 g w 3 ([(x1).Colour]:List Int) o0∧FullV o0) 2 rfl hall).2.1
   clear hs hall
   refine Zb ?_
   obtain rfl:=sinj h
   exact hQ _ _ ⟨mB,hfr,rfl⟩
 ·clear hx
  obtain ⟨lD,hfr,l9⟩:=hR
  refine E_ret ?_
  obtain rfl:=sinj h
  exact end1 rfl rfl (show _=.bool (b7) from l9) ⟨_,hfr,rfl⟩
def f85 (x0:BoxBoxLoom):Option (Bool):=
 jn (σ:=Unit) (fun _=>
  some (true)
  ) fun k9=>
 lp (σ:=Int) (fun l9 i3=>
  bif (decide (i3 < ((((x0).BoxLoom).Boxes).length : Int))) then
   jn (σ:=Unit) (fun _=>
    l9 ((w64 (i3 + (1:Int))))
    ) fun j7=>
   (idx (((x0).BoxLoom).Boxes) i3).bind fun l5=>
   Option.bind (α:=Bool) (
    (f87 ((1:Int)) ((4:Int)) (([l5]:List Int))).bind fun y130=>
    bif (!y130) then
     some (true)
    else
     (idx (((x0).BoxLoom).At) i3).bind fun y135=>
     (f87 ((0:Int)) ((w64 (l5 - (1:Int)))) (([y135]:List Int))).bind fun y140=>
     some ((!y140))
    ) fun t5=>
   bif t5 then
    some (false)
   else
    j7 ()
  else
   k9 ()
  ) big ((0:Int))
theorem en85:Enters Try.prog 85:=enters_of Try.func85 (by kernel_rfl) rfl
theorem wk85 {gI:Gh} {wI:World} {x0:BoxBoxLoom} {up0:Value} (rp0:RV gI.m wI x0 up0) {r:Bool} (h:f85 x0=some r):Fn Try.prog 85 #[up0] gI wI (fun _ _ v=>v=.bool (r)):=by
 unfold f85 at h
 refine fn_of_E Try.func85 rfl (Nat.le_of_ble_eq_true rfl) fun g0 hm hfr=>?_
 have rp0:RV g0.m wI x0 up0:=hm ▸ rp0
 show E _ 32 none _ _ _ _ _
 refine Zf (Za (Ze .plain rfl (D_box (g:=g0) rfl rp0 fun g1 w1 p1 hs q1=>?_)))
 have hfr:=hfr.ext hs
 refine Zg (.bool false) rfl rfl ?_
 refine Zb (Zd (Zq h (fun (s:Unit) e w=>∃ (g:Gh) ,Fr gI wI g w) (fun X73 k9 y9 h=>?_) ?_))
 ·refine Zf (Za (EL_p (fPtr p1 0) (Zc at_102_0 rfl (PT.ptr q1)) rfl ?_))
  have n9:=Zm (part_BoxBoxLoom_0).1 q1
  refine EL_p (fPtr (fPtr p1 0) 0) (Zc at_25_0 rfl (PT.ptr n9)) rfl ?_
  have bB:=Zm (part_BoxLoom_0).1 n9
  refine Ze .plain rfl (D_load (g:=g1) Try.isAgg22 Try.sizeOf22 rfl bB fun i6 u9=>?_)
  refine EL_p (.int .i64 ((((x0).BoxLoom).Boxes).length:Int)) (P_len Try.underlying22 rfl u9) rfl ?_
  refine Zn (.int .i64 (0)) rfl rfl ?_
  refine Zb (Zd (Zr ?_))
  refine E_lp h (fun (s:Int) e w=>∃ (g:Gh) ,Fr gI wI g w∧e 1=p1∧PT g.m w (x0:BoxBoxLoom) p1∧e 7=i6∧RV g.m w (((x0).BoxLoom).Boxes:List Int) i6∧e 8=.int .i64 (((((x0).BoxLoom).Boxes).length:Int))∧e 9=.int .i64 (s)) ⟨g1,hfr,rfl,q1,rfl,u9,rfl,rfl⟩ (fun X77 l9 z9=>?_)
  rintro i3 lB eC ⟨m7,hfr,v6,u3,x6,i5,y6,x5⟩ h
  refine Zf (Za (EL_p (.bool ((decide (i3 < ((((x0).BoxLoom).Boxes).length:Int))))) (P_int x5 y6 rfl) rfl ?_))
  refine Zb (Zd (Zf ?_))
  rcases Zt h with ⟨d7,h⟩ | ⟨d7,h⟩
  ·refine E_ct d7 rfl ?_
   refine Zu (Zd (Zq h (fun (s:Unit) e w=>∃ (g:Gh) ,Fr gI wI g w∧e 1=p1∧PT g.m w (x0:BoxBoxLoom) p1∧e 7=i6∧RV g.m w (((x0).BoxLoom).Boxes:List Int) i6∧e 8=.int .i64 (((((x0).BoxLoom).Boxes).length:Int))∧e 9=.int .i64 (i3)) (fun X111 j7 a9 h=>?_) ?_))
   ·refine Zr ?_
    refine Zf (Za (Zo x5 rfl ?_))
    obtain ⟨l5,g7,h⟩:=bsome h
    refine EL_p (ePtr i6 i3 1) (Zh (α:=Int) Try.underlying22 Try.sizeOf3 x6 i5 x5 g7) rfl ?_
    have bA:=PT_idx i5 g7
    refine Ze .plain rfl (D_load (g:=m7) Try.isAgg3 Try.sizeOf3 rfl bA fun mB gA=>?_)
    obtain rfl:=Zj.1 gA
    refine Zg (.int .i64 (i3)) rfl rfl ?_
    refine Zg (.int .i64 (l5)) rfl rfl ?_
    refine Zb (Zd ?_)
    obtain ⟨t5,hx,h⟩:=bsome h
    refine E_join (fun e w=>∃ (g:Gh) ,Fr gI wI g w∧e 1=p1∧PT g.m w (x0:BoxBoxLoom) p1∧e 7=i6∧RV g.m w (((x0).BoxLoom).Boxes:List Int) i6∧e 8=.int .i64 (((((x0).BoxLoom).Boxes).length:Int))∧e 9=.int .i64 (i3)∧e 30=.bool (t5)) (fun Q' hQ=>?_) (fun cB nB hR=>?_)
    ·replace h := hx
     clear hx
     refine Za (Zn (.int .i64 (l5)) rfl rfl ?_)
     refine Ze .plain rfl (D_buildSlice (g:=m7) 3015 (xs:=([l5]:List Int)) (vs:=[.int .i64 (l5)]) Try.underlying22 Try.sizeOf3 Try.zeroValue3 rfl rfl (.cons rfl .nil) (RVs.cons (Zj.2 rfl) RVs.nil) rfl rfl fun iA oB jA hs o128 mA hxt hfl=>?_)
     have hfr:=hfr.stp hs
     have u3:=u3.stp hs
     have i5:=i5.stp hs
     obtain ⟨y130,d9,h⟩:=bsome h
     refine Ze .plain rfl (Zp (g:=iA) (vs:=[.int .i64 (1),.int .i64 (4),jA]) en87 (.cons rfl (.cons rfl (.cons rfl .nil))) (wk87 mA d9) fun a7 dB tB hs hr=>?_)
     have hfr:=hfr.ext hs
     have u3:=u3.ext hs
     have i5:=i5.ext hs
     subst hr
     refine EL_p (.bool (!y130)) (P_not rfl) rfl ?_
     refine Zn (.bool (!y130)) rfl rfl ?_
     rcases Zt h with ⟨o0,h⟩ | ⟨o0,h⟩
     ·refine EL_s rfl rfl o0 rfl rfl ?_
      iterate 10 refine EL_s rfl rfl o0 rfl rfl ?_
      refine EL_p (.bool true) (Zl (b:=(!y130)) rfl (pick_t o0 rfl)) rfl ?_
      refine Zb ?_
      obtain rfl:=sinj h
      exact hQ _ _ ⟨a7,hfr,v6,u3,x6,i5,y6,x5,rfl⟩
     ·refine EL_y (.int .i64 (l5)) (Zk rfl) rfl rfl o0 rfl ?_
      refine EL_y (.int .i64 ((w64 (l5 - (1:Int))))) (P_int rfl rfl rfl) rfl rfl o0 rfl ?_
      refine EL_y (fPtr p1 0) (Zc at_102_0 v6 (PT.ptr u3)) rfl rfl o0 rfl ?_
      have v7:=Zm (part_BoxBoxLoom_0).1 u3
      refine EL_y (fPtr (fPtr p1 0) 1) (Zc at_25_1 rfl (PT.ptr v7)) rfl rfl o0 rfl ?_
      have nA:=Zm (part_BoxLoom_1).1 v7
      refine Ze (.yes2 rfl rfl o0) rfl (D_load (g:=a7) Try.isAgg22 Try.sizeOf22 rfl nA fun oA g8=>?_)
      refine EL_y (.int .i64 (i3)) (Zk rfl) rfl rfl o0 rfl ?_
      obtain ⟨y135,i7,h⟩:=bsome h
      refine EL_y (ePtr oA i3 1) (Zh (α:=Int) Try.underlying22 Try.sizeOf3 rfl g8 rfl i7) rfl rfl o0 rfl ?_
      have pA:=PT_idx g8 i7
      refine Ze (.yes2 rfl rfl o0) rfl (D_load (g:=a7) Try.isAgg3 Try.sizeOf3 rfl pA fun vB qA=>?_)
      obtain rfl:=Zj.1 qA
      refine Ze (.yes2 rfl rfl o0) rfl (D_buildSlice (g:=a7) 3027 (xs:=([y135]:List Int)) (vs:=[.int .i64 (y135)]) Try.underlying22 Try.sizeOf3 Try.zeroValue3 rfl rfl (.cons rfl .nil) (RVs.cons (Zj.2 rfl) RVs.nil) rfl rfl fun rA yB uA hs o138 xA hxt hfl=>?_)
      have hfr:=hfr.stp hs
      have u3:=u3.stp hs
      have i5:=i5.stp hs
      obtain ⟨y140,i9,h⟩:=bsome h
      refine Ze (.yes2 rfl rfl o0) rfl (Zp (g:=rA) (vs:=[.int .i64 (0),.int .i64 ((w64 (l5 - (1:Int)))),uA]) en87 (.cons rfl (.cons rfl (.cons rfl .nil))) (wk87 xA i9) fun yA eB zB hs hr=>?_)
      have hfr:=hfr.ext hs
      have u3:=u3.ext hs
      have i5:=i5.ext hs
      subst hr
      refine EL_y (.bool (!y140)) (P_not rfl) rfl rfl o0 rfl ?_
      refine EL_p (.bool (!y140)) (Zl (b:=(!y130)) rfl (pick_f o0 rfl)) rfl ?_
      refine Zb ?_
      obtain rfl:=sinj h
      exact hQ _ _ ⟨yA,hfr,v6,u3,x6,i5,y6,x5,rfl⟩
    ·clear hx
     obtain ⟨zA,hfr,i8,k8,l8,m8,n8,o8,j6⟩:=hR
     rcases Zt h with ⟨b7,h⟩ | ⟨b7,h⟩
     ·refine E_cond_true (Eq.trans (show ev _ _ = .bool (t5) from j6) (congrArg Value.bool b7)) ?_
      refine Zf (Za (Zg (.bool false) rfl rfl ?_))
      refine Zb (Zd (E_ret (blk_r ?_)))
      refine thn_r ?_
      refine thn_r ?_
      refine blk_r ?_
      refine thn_r ?_
      obtain rfl:=sinj h
      exact end1 rfl rfl (show _=.bool false from rfl) ⟨_,hfr,rfl⟩
     ·refine E_cond_false (Eq.trans (show ev _ _ = .bool (t5) from j6) (congrArg Value.bool b7)) ?_
      exact Zu (blk_n (Zd (a9 () _ _ ⟨zA,hfr,i8,k8,l8,m8,n8,o8⟩ h)))
   ·rintro _ iB aC ⟨aB, hfr, q8, r8, t8, v8, x8, y8⟩ h
    refine Za (EL_in (.int .i64 ((w64 (i3 + (1:Int))))) y8 rfl rfl rfl ?_)
    refine Zn (.int .i64 ((w64 (i3 + (1:Int))))) rfl rfl ?_
    exact Zb (Zd (z9 ((w64 (i3 + (1:Int)))) _ _ ⟨aB,hfr,q8,r8,t8,v8,x8,rfl⟩ h))
  ·refine E_cf d7 rfl ?_
   refine E_exit ?_
   refine thn_e ?_
   refine thn_e ?_
   refine blk_hit ?_
   exact Zd (y9 () _ _ ⟨m7,hfr⟩ h)
 ·rintro _ jB cC ⟨dC, hfr⟩ h
  refine Zf (Za (Zg (.bool true) rfl rfl ?_))
  refine Zb (Zd (E_ret ?_))
  obtain rfl:=sinj h
  exact end1 rfl rfl (show _=.bool true from rfl) ⟨_,hfr,rfl⟩
def f110 (x0:List Int) (x1:Int) (x2:Int):Option ((List Int)):=
 lp (σ:=(List Int) × Int) (fun k1 (j7,l5)=>
  jn (σ:=Unit) (fun _=>
   Option.bind (α:=(List Int)) (
    lp (σ:=(List Int) × Int) (fun i9 (u3,o0)=>
     jn (σ:=Unit) (fun _=>
      Option.bind (α:=(List Int)) (
       (idx u3 (w64 (o0 - (1:Int)))).bind fun d7=>
       (idx u3 o0).bind fun m7=>
       (idx u3 o0).bind fun vB=>
       (idx ((List.set u3 (Int.toNat o0) d7)) (w64 (o0 - (1:Int)))).bind fun yB=>
       some ((List.set ((List.set u3 (Int.toNat o0) d7)) (Int.toNat (w64 (o0 - (1:Int)))) m7))
       ) fun x6=>
      i9 (x6,(w64 (o0 - (1:Int))))
      ) fun k9=>
     Option.bind (α:=Bool) (
      bif (decide (o0 > x1)) then
       (idx u3 o0).bind fun v7=>
       (idx u3 (w64 (o0 - (1:Int)))).bind fun g8=>
       (f116 v7 g8).bind fun g7=>
       some (g7)
      else
       some (false)
      ) fun x5=>
     bif x5 then
      k9 ()
     else
      some (u3)
     ) big (j7,l5)
    ) fun y6=>
   k1 (y6,(w64 (l5 + (1:Int))))
   ) fun k4=>
  bif (decide (l5 < x2)) then
   k4 ()
  else
   some (j7)
  ) big (x0,(w64 (x1 + (1:Int))))
def f111 (x0:List Int) (x1:Int) (x2:Int):Option ((List Int)):=
 Option.bind (α:=(List Int)) (
  (quo64 (w64 ((w64 (x2 - x1)) - (1:Int))) (2:Int)).bind fun g7=>
  lp (σ:=(List Int) × Int) (fun zA (i6,i3)=>
   jn (σ:=Unit) (fun _=>
    Option.bind (α:=(List Int)) (
     (f121 i6 i3 ((w64 (x2 - x1))) x1).bind fun y23=>
     some (y23)
     ) fun j6=>
    zA (j6,(w64 (i3 - (1:Int))))
    ) fun aB=>
   bif (decide (i3 ≥ (0 : Int))) then
    aB ()
   else
    some (i6)
   ) big (x0,g7)
  ) fun x6=>
 lp (σ:=(List Int) × Int) (fun bB (u3,o0)=>
  jn (σ:=Unit) (fun _=>
   Option.bind (α:=(List Int)) (
    (idx u3 (w64 (x1 + o0))).bind fun y6=>
    (idx u3 x1).bind fun i7=>
    (idx u3 x1).bind fun cC=>
    (idx ((List.set u3 (Int.toNat x1) y6)) (w64 (x1 + o0))).bind fun dC=>
    (f121 ((List.set ((List.set u3 (Int.toNat x1) y6)) (Int.toNat (w64 (x1 + o0))) i7)) ((0:Int)) o0 x1).bind fun cB=>
    some (cB)
    ) fun v6=>
   bB (v6,(w64 (o0 - (1:Int))))
   ) fun dB=>
  bif (decide (o0 ≥ (0 : Int))) then
   dB ()
  else
   some (u3)
  ) big (x6,(w64 ((w64 (x2 - x1)) - (1:Int))))
def f115 (x0:List Int) (x1:Int) (x2:Int):Option (Bool × (List Int)):=
 jn (σ:=(List Int)) (fun vB=>
  some (false,vB)
  ) fun oF=>
 lp (σ:=(List Int) × Int × Int) (fun pF (t5,u9,i5)=>
  jn (σ:=Unit) (fun _=>
   jn (σ:=(List Int) × Int) (fun (y9,z9)=>
    pF (y9,z9,(w64 (i5 + (1:Int))))
    ) fun oA=>
   Option.bind (α:=Int) (
    lp (σ:=Int) (fun qF l5=>
     jn (σ:=Unit) (fun _=>
      qF ((w64 (l5 + (1:Int))))
      ) fun rF=>
     Option.bind (α:=Bool) (
      bif (decide (l5 < x2)) then
       (idx t5 l5).bind fun pA=>
       (idx t5 (w64 (l5 - (1:Int)))).bind fun qA=>
       (f116 pA qA).bind fun m8=>
       some ((!m8))
      else
       some (false)
      ) fun m7=>
     bif m7 then
      rF ()
     else
      some (l5)
     ) big (u9)
    ) fun o0=>
   jn (σ:=Unit) (fun _=>
    jn (σ:=Unit) (fun _=>
     (idx t5 (w64 (o0 - (1:Int)))).bind fun n8=>
     (idx t5 o0).bind fun d9=>
     (idx t5 o0).bind fun sK=>
     (idx ((List.set t5 (Int.toNat o0) n8)) (w64 (o0 - (1:Int)))).bind fun tK=>
     Option.bind (α:=(List Int)) (
      bif (decide ((w64 (o0 - x1)) ≥ (2 : Int))) then
       lp (σ:=(List Int) × Int) (fun sF (i6,u3)=>
        jn (σ:=Unit) (fun _=>
         jn (σ:=(List Int)) (fun bA=>
          sF (bA,(w64 (u3 - (1:Int))))
          ) fun tF=>
         jn (σ:=Unit) (fun _=>
          (idx i6 (w64 (u3 - (1:Int)))).bind fun o8=>
          (idx i6 u3).bind fun i9=>
          (idx i6 u3).bind fun uK=>
          (idx ((List.set i6 (Int.toNat u3) o8)) (w64 (u3 - (1:Int)))).bind fun vK=>
          tF ((List.set ((List.set i6 (Int.toNat u3) o8)) (Int.toNat (w64 (u3 - (1:Int)))) i9))
          ) fun uF=>
         (idx i6 u3).bind fun rA=>
         (idx i6 (w64 (u3 - (1:Int)))).bind fun uA=>
         (f116 rA uA).bind fun k9=>
         bif (!k9) then
          some (i6)
         else
          uF ()
         ) fun vF=>
        bif (decide (u3 ≥ (1 : Int))) then
         vF ()
        else
         some (i6)
        ) big ((List.set ((List.set t5 (Int.toNat o0) n8)) (Int.toNat (w64 (o0 - (1:Int)))) d9),(w64 (o0 - (1:Int))))
      else
       some ((List.set ((List.set t5 (Int.toNat o0) n8)) (Int.toNat (w64 (o0 - (1:Int)))) d9))
      ) fun g8=>
     bif (decide ((w64 (x2 - o0)) ≥ (2 : Int))) then
      lp (σ:=(List Int) × Int) (fun xF (x5,i3)=>
       jn (σ:=Unit) (fun _=>
        jn (σ:=(List Int)) (fun gA=>
         xF (gA,(w64 (i3 + (1:Int))))
         ) fun yF=>
        jn (σ:=Unit) (fun _=>
         (idx x5 (w64 (i3 - (1:Int)))).bind fun q8=>
         (idx x5 i3).bind fun l9=>
         (idx x5 i3).bind fun xK=>
         (idx ((List.set x5 (Int.toNat i3) q8)) (w64 (i3 - (1:Int)))).bind fun yK=>
         yF ((List.set ((List.set x5 (Int.toNat i3) q8)) (Int.toNat (w64 (i3 - (1:Int)))) l9))
         ) fun zF=>
        (idx x5 i3).bind fun xA=>
        (idx x5 (w64 (i3 - (1:Int)))).bind fun yA=>
        (f116 xA yA).bind fun n9=>
        bif (!n9) then
         oA (x5,o0)
        else
         zF ()
        ) fun aG=>
       bif (decide (i3 < x2)) then
        aG ()
       else
        oA (x5,o0)
       ) big (g8,(w64 (o0 + (1:Int))))
     else
      oA (g8,o0)
     ) fun bG=>
    bif (decide ((w64 (x2 - x1)) < (50 : Int))) then
     some (false,t5)
    else
     bG ()
    ) fun cG=>
   bif (o0 == x2) then
    some (true,t5)
   else
    cG ()
   ) fun dG=>
  bif (decide (i5 < (5 : Int))) then
   dG ()
  else
   oF (t5)
  ) big (x0,(w64 (x1 + (1:Int))),(0:Int))
end Go.Proofs.Ytmpjooneiaiffaa
