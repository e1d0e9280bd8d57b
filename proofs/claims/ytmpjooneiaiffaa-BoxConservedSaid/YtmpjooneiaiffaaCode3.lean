import Derived.Test.YtmpjooneiaiffaaCode2
set_option maxRecDepth 8000
set_option maxHeartbeats 4000000
namespace Go.Proofs.Ytmpjooneiaiffaa
open Go.RowKit
def f97 (x0:BoxRace) (x1:BoxPick):Option (BoxRace × Int × Int):=
 (idx ((x0).boxes).toList (0:Int)).bind fun y7=>
 (idx (y7).toList (x1).Left).bind fun y9=>
 (idx ((x0).boxes).toList (1:Int)).bind fun v8=>
 (idx (v8).toList (x1).Right).bind fun u3=>
 jn (σ:=BoxRace) (fun r8=>
  (f106 (((x0).at_).Left) ((x1).Left)).bind fun t5=>
  (f106 (((x0).at_).Right) ((x1).Right)).bind fun x5=>
  (idx ((x0).boxes).toList (0:Int)).bind fun x8=>
  (idx (x8).toList (x1).Left).bind fun nB=>
  (idx (({ x0 with boxes:=(vmod ((x0).boxes) ((0:Int)) (fun b=>(vset b ((x1).Left) u3))) }).boxes).toList (1:Int)).bind fun a9=>
  (idx (a9).toList (x1).Right).bind fun n9=>
  some ({ { { x0 with boxes:=(vmod ((x0).boxes) ((0:Int)) (fun b=>(vset b ((x1).Left) u3))) } with boxes:=(vmod (({ x0 with boxes:=(vmod ((x0).boxes) ((0:Int)) (fun b=>(vset b ((x1).Left) u3))) }).boxes) ((1:Int)) (fun b=>(vset b ((x1).Right) y9))) } with at_:=x1 },(w64 (y9 + u3)),(w64 (t5 + x5)))
  ) fun d9=>
 bif ((y9 == (0 : Int)) == (u3 == (0 : Int))) then
  some (x0,(0:Int),(0:Int))
 else
  d9 ((⟨(⟨List.toArray [(⟨List.toArray [0,0,0,0],rfl⟩:Vector Int 4),(⟨List.toArray [0,0,0,0],rfl⟩:Vector Int 4)],rfl⟩:Vector (Vector Int 4) 2),⟨0,0⟩⟩:BoxRace))
theorem en97:Enters Try.prog 97:=enters_of Try.func97 (by kernel_rfl) rfl
theorem wk97 {gI:Gh} {wI:World} {x0:BoxRace} {x1:BoxPick} {up0:Value} (rp0:RV gI.m wI x0 up0) {up1:Value} (rp1:RV gI.m wI x1 up1) {r:BoxRace × Int × Int} (h:f97 x0 x1=some r):Fn Try.prog 97 #[up0,up1] gI wI (fun m w v=>∃ y0 y1 y2,v=.tuple #[y0,y1,y2]∧RV m w (r.1) y0∧y1=.int .i64 (r.2.1)∧y2=.int .i64 (r.2.2)):=by
 unfold f97 at h
 refine fn_of_E Try.func97 rfl (Nat.le_of_ble_eq_true rfl) fun g0 hm hfr=>?_
 have rp0:RV g0.m wI x0 up0:=hm ▸ rp0
 have rp1:RV g0.m wI x1 up1:=hm ▸ rp1
 show E _ 59 none _ _ _ _ _
 refine Zf (Za (Ze .plain rfl (D_boxO (g:=g0) 2002 rfl rp0 fun g1 w1 p1 hs b1=>?_)))
 have hfr:=hfr.stp hs
 have rp0:=rp0.stp hs
 have rp1:=rp1.stp hs
 refine Ze .plain rfl (D_box (g:=g1) rfl rp1 fun g2 w2 p2 hs q2=>?_)
 have hfr:=hfr.ext hs
 have rp0:=rp0.ext hs
 have rp1:=rp1.ext hs
 have b1:=b1.ext hs
 refine Ze .plain rfl (D_allocOc (g:=g2) 2004 (⟨(⟨List.toArray [(⟨List.toArray [0,0,0,0],rfl⟩:Vector Int 4),(⟨List.toArray [0,0,0,0],rfl⟩:Vector Int 4)],rfl⟩:Vector (Vector Int 4) 2),⟨0,0⟩⟩:BoxRace) Try.zeroValue108 (fun m w=>⟨_,(rep_two (rep_vec (flat_chunk (rep_vec (flat_chunk rep_int (flat_chunk rep_int (flat_chunk rep_int (flat_chunk rep_int flat_nil)))) rfl) (flat_chunk (rep_vec (flat_chunk rep_int (flat_chunk rep_int (flat_chunk rep_int (flat_chunk rep_int flat_nil)))) rfl) flat_nil)) rfl) (rep_two rep_int rep_int)),rfl⟩) fun g3 w3 p3 hs b3 cb=>?_)
 have hfr:=hfr.stp hs
 have rp0:=rp0.stp hs
 have rp1:=rp1.stp hs
 have b1:=b1.stp hs rfl
 have q2:=q2.stp hs
 clear cb
 refine Zg (.int .i64 (0)) rfl rfl ?_
 refine Zg (.int .i64 (0)) rfl rfl ?_
 refine Zb (Zd (Zf ?_))
 have q4:=Zm (part_BoxPick_0).1 q2
 refine Zs (x:=.tmp 9) Try.isAgg3 Try.sizeOf3 q4 fun v5 r5 oB=>?_
 obtain rfl:=Zj.1 r5
 obtain ⟨y7,k9,h⟩:=bsome h
 obtain ⟨hi8,he8⟩:=vat_idx k9
 obtain ⟨y9,l9,h⟩:=bsome h
 obtain ⟨hi10,he10⟩:=vat_idx l9
 refine L_loadOD (off:=((0 + ((0:Int):Int).toNat * 4) + ((x1).Left:Int).toNat * 1)) (x:=.tmp 13) (SubS.at_ (SubS.comp part_BoxRace_0 (SubS.dynC hi8 (SubS.dyn hi10) rfl) rfl) (by first | rfl | exact Nat.add_assoc _ _ _ | simp only [Nat.add_assoc,Nat.zero_add] | omega)).1 ((congrArg (vat _ hi10) he8).trans he10) Try.isAgg3 Try.sizeOf3 b1 fun iD tB u9=>?_
 obtain rfl:=Zj.1 tB
 have i7:=Zm (part_BoxPick_1).1 q2
 refine Zs (x:=.tmp 15) Try.isAgg3 Try.sizeOf3 i7 fun jD vB z9=>?_
 obtain rfl:=Zj.1 vB
 obtain ⟨v8,j7,h⟩:=bsome h
 obtain ⟨hi16,he16⟩:=vat_idx j7
 obtain ⟨u3,m7,h⟩:=bsome h
 obtain ⟨hi18,he18⟩:=vat_idx m7
 refine L_loadOD (off:=((0 + ((1:Int):Int).toNat * 4) + ((x1).Right:Int).toNat * 1)) (x:=.tmp 19) (SubS.at_ (SubS.comp part_BoxRace_0 (SubS.dynC hi16 (SubS.dyn hi18) rfl) rfl) (by first | rfl | exact Nat.add_assoc _ _ _ | simp only [Nat.add_assoc,Nat.zero_add] | omega)).1 ((congrArg (vat _ hi18) he16).trans he18) Try.isAgg3 Try.sizeOf3 b1 fun kD yB bA=>?_
 obtain rfl:=Zj.1 yB
 refine E_drawL (g:=g3) (n:=14) [] [0,1,2,3,4,5,6,7,8,9,10,11,12,13] rfl mixed (by kernel_rfl) trivial ?_
 refine L_p (fPtr p2 0) rfl rfl (Zc at_83_0 rfl (PT.ptr q2)) ?_
 refine L_ld (c:=.int .i64 ((x1).Left)) rfl rfl .plain (fun _ _ h=>h.ch) oB rfl ?_
 refine L_p (fPtr p1 0) rfl rfl (Zc at_108_0 rfl (OB.ptr b1)) ?_
 refine L_p (fPtr p1 (0 + ((0:Int):Int).toNat * 4)) rfl rfl (P_indexAddrA2 (α:=Vector Int 4) (o1:=0) rfl Try.underlying76 Try.sizeOf75 rfl (OB.ptr b1) rfl k9) ?_
 refine L_p (fPtr p1 ((0 + ((0:Int):Int).toNat * 4) + ((x1).Left:Int).toNat * 1)) rfl rfl (P_indexAddrA2 (α:=Int) (o1:=(0 + ((0:Int):Int).toNat * 4)) rfl Try.underlying75 Try.sizeOf3 rfl (OB.ptr b1) rfl l9) ?_
 refine L_ld (c:=.int .i64 (y9)) rfl rfl .plain (fun _ _ h=>⟨h.ch,fun b hb _=>h.below.block b hb⟩) u9 rfl ?_
 refine L_p (fPtr p2 1) rfl rfl (Zc at_83_1 rfl (PT.ptr q2)) ?_
 refine L_ld (c:=.int .i64 ((x1).Right)) rfl rfl .plain (fun _ _ h=>h.ch) z9 rfl ?_
 refine L_p (fPtr p1 0) rfl rfl (Zc at_108_0 rfl (OB.ptr b1)) ?_
 refine L_p (fPtr p1 (0 + ((1:Int):Int).toNat * 4)) rfl rfl (P_indexAddrA2 (α:=Vector Int 4) (o1:=0) rfl Try.underlying76 Try.sizeOf75 rfl (OB.ptr b1) rfl j7) ?_
 refine L_p (fPtr p1 ((0 + ((1:Int):Int).toNat * 4) + ((x1).Right:Int).toNat * 1)) rfl rfl (P_indexAddrA2 (α:=Int) (o1:=(0 + ((1:Int):Int).toNat * 4)) rfl Try.underlying75 Try.sizeOf3 rfl (OB.ptr b1) rfl m7) ?_
 refine L_ld (c:=.int .i64 (u3)) rfl rfl .plain (fun _ _ h=>⟨h.ch,fun b hb _=>h.below.block b hb⟩) bA rfl ?_
 refine L_p (.int .i64 (y9)) rfl rfl (P_assign rfl) ?_
 refine L_p (.int .i64 (u3)) rfl rfl (P_assign rfl) ?_
 refine L_nl fun v7 lD hs=>?_
 have hfr:=hfr.ext hs
 have rp0:=rp0.ext hs
 have rp1:=rp1.ext hs
 have b1:=b1.ext hs
 have q2:=q2.ext hs
 have b3:=b3.ext hs
 have q4:=q4.ext hs
 have i7:=i7.ext hs
 clear hs
 refine Zb (Zd (Zq h (fun (s:BoxRace) e w=>∃ (g:Gh) ,Fr gI wI g w∧e 2=p1∧OB 2002 g w 108 (x0:BoxRace) p1∧e 3=p2∧PT g.m w (x1:BoxPick) p2∧e 4=p3∧OB 2004 g w 108 (s:BoxRace) p3∧e 7=.int .i64 (y9)∧e 8=.int .i64 (u3)) (fun X46 d9 gA h=>?_) ?_))
 ·refine Zf (Za (Zn (.int .i64 (y9)) rfl rfl ?_))
  refine EL_in (.bool ((y9 == (0:Int)))) rfl rfl rfl rfl ?_
  refine Zn (.int .i64 (u3)) rfl rfl ?_
  refine EL_in (.bool ((u3 == (0:Int)))) rfl rfl rfl rfl ?_
  refine EL_p (.bool (((y9 == (0:Int)) == (u3 == (0:Int))))) (P_bool Try.underlying4 rfl rfl rfl) rfl ?_
  refine Zb (Zd ?_)
  rcases Zt h with ⟨v6,h⟩ | ⟨v6,h⟩
  ·refine E_ct v6 rfl ?_
   refine Zf (Za (Ze .plain rfl (D_loadO (g:=v7) Try.isAgg108 Try.sizeOf108 rfl b1 fun zB aC=>?_)))
   refine Ze .plain rfl (D_storeOc (g:=v7) (v:=zB) Try.sizeOf108 rfl b3 rfl aC fun mD nD hs b49 cb=>?_)
   clear cb
   have hfr:=hfr.stp hs
   refine Zg (.int .i64 (0)) rfl rfl ?_
   refine Zg (.int .i64 (0)) rfl rfl ?_
   refine Zb (Zd (E_ret (thn_r ?_)))
   obtain rfl:=sinj h
   obtain ⟨ad50,cv50,hp50,iA,cr50⟩:=ob_read Try.isAgg108 Try.sizeOf108 b49
   exact endm_ctt rfl rfl ((show _=p3 from rfl).trans hp50) iA (show _=.int .i64 (0) from rfl) (show _=.int .i64 (0) from rfl) ⟨_,hfr,_,_,_,rfl,cr50,rfl,rfl⟩
  ·refine E_cf v6 rfl ?_
   exact Zu (Zd (gA ((⟨(⟨List.toArray [(⟨List.toArray [0,0,0,0],rfl⟩:Vector Int 4),(⟨List.toArray [0,0,0,0],rfl⟩:Vector Int 4)],rfl⟩:Vector (Vector Int 4) 2),⟨0,0⟩⟩:BoxRace)) _ _ ⟨v7,hfr,rfl,b1,rfl,q2,rfl,b3,rfl,rfl⟩ h))
 ·rintro r8 uC oD ⟨cC, hfr, l5, o0, i6, i3, x6, i5, y6, a7⟩ h
  refine Zf (L_loadO (x:=.tmp 28) (SubS.comp part_BoxRace_1 part_BoxPick_0 rfl).1 Try.isAgg3 Try.sizeOf3 o0 fun sD eC jA=>?_)
  obtain rfl:=Zj.1 eC
  have j6:=Zm (part_BoxPick_0).1 i3
  refine Zs (x:=.tmp 30) Try.isAgg3 Try.sizeOf3 j6 fun tD iC mA=>?_
  obtain rfl:=Zj.1 iC
  obtain ⟨t5,pA,h⟩:=bsome h
  refine L_loadO (x:=.tmp 34) (SubS.comp part_BoxRace_1 part_BoxPick_1 rfl).1 Try.isAgg3 Try.sizeOf3 o0 fun uD lC qA=>?_
  obtain rfl:=Zj.1 lC
  have q62:=Zm (part_BoxPick_1).1 i3
  refine Zs (x:=.tmp 36) Try.isAgg3 Try.sizeOf3 q62 fun vD mC rA=>?_
  obtain rfl:=Zj.1 mC
  obtain ⟨x5,yA,h⟩:=bsome h
  refine E_drawL (g:=cC) (n:=14) [(5,(fun v g w=>v=.int .i64 (t5))),(11,(fun v g w=>v=.int .i64 (x5)))] [0,1,2,3,4,5,6,7,8,9,10,11,12,13] rfl mixed (by kernel_rfl) (⟨fun _=>up_eq _,fun _=>up_eq _,trivial⟩) ?_
  refine L_p (fPtr p1 8) rfl rfl (Zc at_108_1 l5 (OB.ptr o0)) ?_
  refine L_p (fPtr p1 8) rfl rfl (P_fieldAddr2 (o1:=8) rfl at_83_0 rfl (OB.ptr o0)) ?_
  refine L_ld (c:=.int .i64 (((x0).at_).Left)) rfl rfl .plain (fun _ _ h=>⟨h.ch,fun b hb _=>h.below.block b hb⟩) jA rfl ?_
  refine L_p (fPtr p2 0) rfl rfl (Zc at_83_0 i6 (PT.ptr i3)) ?_
  refine L_ld (c:=.int .i64 ((x1).Left)) rfl rfl .plain (fun _ _ h=>h.ch) mA rfl ?_
  refine L_do (φ:=fun v g w=>v=.int .i64 (t5)) rfl rfl .plain (fun g w hd=>Zp (g:=g) (vs:=[.int .i64 (((x0).at_).Left),.int .i64 ((x1).Left)]) en106 (.cons rfl (.cons rfl .nil)) (wk106  pA) fun g' w' v hs hr=>⟨g',hs,hr⟩) (fun xD hv=>?_)
  obtain ⟨_,_,_,rfl⟩:=hv
  refine L_p (fPtr p1 8) rfl rfl (Zc at_108_1 l5 (OB.ptr o0)) ?_
  refine L_p (fPtr p1 9) rfl rfl (P_fieldAddr2 (o1:=8) rfl at_83_1 rfl (OB.ptr o0)) ?_
  refine L_ld (c:=.int .i64 (((x0).at_).Right)) rfl rfl .plain (fun _ _ h=>⟨h.ch,fun b hb _=>h.below.block b hb⟩) qA rfl ?_
  refine L_p (fPtr p2 1) rfl rfl (Zc at_83_1 i6 (PT.ptr i3)) ?_
  refine L_ld (c:=.int .i64 ((x1).Right)) rfl rfl .plain (fun _ _ h=>h.ch) rA rfl ?_
  refine L_do (φ:=fun v g w=>v=.int .i64 (x5)) rfl rfl .plain (fun g w hd=>Zp (g:=g) (vs:=[.int .i64 (((x0).at_).Right),.int .i64 ((x1).Right)]) en106 (.cons rfl (.cons rfl .nil)) (wk106  yA) fun g' w' v hs hr=>⟨g',hs,hr⟩) (fun yD hv=>?_)
  obtain ⟨_,_,_,rfl⟩:=hv
  refine L_p (.int .i64 ((w64 (t5 + x5)))) rfl rfl (P_int rfl rfl rfl) ?_
  refine L_p (.int .i64 ((w64 (t5 + x5)))) rfl rfl (P_assign rfl) ?_
  refine L_nl fun zD aE hs=>?_
  have hfr:=hfr.ext hs
  have o0:=o0.ext hs
  have i3:=i3.ext hs
  have i5:=i5.ext hs
  have j6:=j6.ext hs
  have q62:=q62.ext hs
  clear hs
  refine Zb (Zd (Zf ?_))
  have g8:=Zm (part_BoxPick_0).1 i3
  refine Zs (x:=.tmp 40) Try.isAgg3 Try.sizeOf3 g8 fun bE qC aB=>?_
  obtain rfl:=Zj.1 qC
  have i8:=Zm (part_BoxPick_1).1 i3
  refine Zs (x:=.tmp 42) Try.isAgg3 Try.sizeOf3 i8 fun cE rC dB=>?_
  obtain rfl:=Zj.1 rC
  obtain ⟨x8,k8,h⟩:=bsome h
  obtain ⟨hi93,he93⟩:=vat_idx k8
  obtain ⟨nB,l8,h⟩:=bsome h
  obtain ⟨hi95,he95⟩:=vat_idx l8
  obtain ⟨a9,m8,h⟩:=bsome h
  obtain ⟨hi100,he100⟩:=vat_idx m8
  obtain ⟨n9,d7,h⟩:=bsome h
  obtain ⟨hi102,he102⟩:=vat_idx d7
  refine E_drawB (a0:=(x0:BoxRace)) (a1:=({ x0 with boxes:=(vmod ((x0).boxes) ((0:Int)) (fun b=>(vset b ((x1).Left) u3))) }:BoxRace)) o0 (n:=13) [(9,(fun _ g w=>OB 2002 g w 108 ({ x0 with boxes:=(vmod ((x0).boxes) ((0:Int)) (fun b=>(vset b ((x1).Left) u3))) }:BoxRace) p1))] [0,1,2,3,4,5,6,7,8,9,10,11,12] rfl mixed (by kernel_rfl) (⟨fun _=>up_box,trivial⟩) ?_
  refine L_p (fPtr p2 0) rfl rfl (Zc at_83_0 i6 (PT.ptr i3)) ?_
  refine L_ld (c:=.int .i64 ((x1).Left)) rfl rfl .plain (fun _ _ h=>h.1.ch) aB rfl ?_
  refine L_p (fPtr p2 1) rfl rfl (Zc at_83_1 i6 (PT.ptr i3)) ?_
  refine L_ld (c:=.int .i64 ((x1).Right)) rfl rfl .plain (fun _ _ h=>h.1.ch) dB rfl ?_
  refine L_p (.int .i64 (u3)) rfl rfl (Zk a7) ?_
  refine L_p (.int .i64 (y9)) rfl rfl (Zk y6) ?_
  refine L_p (fPtr p1 0) rfl rfl (Zc at_108_0 l5 (OB.ptr o0)) ?_
  refine L_p (fPtr p1 (0 + ((0:Int):Int).toNat * 4)) rfl rfl (P_indexAddrA2 (α:=Vector Int 4) (o1:=0) rfl Try.underlying76 Try.sizeOf75 rfl (OB.ptr o0) rfl k8) ?_
  refine L_p (fPtr p1 ((0 + ((0:Int):Int).toNat * 4) + ((x1).Left:Int).toNat * 1)) rfl rfl (P_indexAddrA2 (α:=Int) (o1:=(0 + ((0:Int):Int).toNat * 4)) rfl Try.underlying75 Try.sizeOf3 rfl (OB.ptr o0) rfl l8) ?_
  refine L_do (φ:=fun _ g w=>OB 2002 g w 108 ({ x0 with boxes:=(vmod ((x0).boxes) ((0:Int)) (fun b=>(vset b ((x1).Left) u3))) }:BoxRace) p1) rfl rfl .plain (fun g w hd=>D_storeR (g:=g) (by rfl) (by exact (congrArg (fun y=>{ x0 with boxes:=y }) (vmod_vmod (h:=fun b=>(vset b ((x1).Left) u3)) fun b=>(vset_vset _ _ _)))) (SubS.at_ (SubS.comp part_BoxRace_0 (SubS.dynC hi93 (SubS.dyn hi95) rfl) rfl) (by first | rfl | exact Nat.add_assoc _ _ _ | simp only [Nat.add_assoc,Nat.zero_add] | omega)) Try.sizeOf3 rfl hd.1.2 rfl (Zj.2 rfl)) (fun dE hv=>?_)
  clear hv
  refine L_p (fPtr p1 0) rfl rfl (Zc at_108_0 l5 (OB.ptr o0)) ?_
  refine L_p (fPtr p1 (0 + ((1:Int):Int).toNat * 4)) rfl rfl (P_indexAddrA2 (α:=Vector Int 4) (o1:=0) rfl Try.underlying76 Try.sizeOf75 rfl (OB.ptr o0) rfl m8) ?_
  refine L_p (fPtr p1 ((0 + ((1:Int):Int).toNat * 4) + ((x1).Right:Int).toNat * 1)) rfl rfl (P_indexAddrA2 (α:=Int) (o1:=(0 + ((1:Int):Int).toNat * 4)) rfl Try.underlying75 Try.sizeOf3 rfl (OB.ptr o0) rfl d7) ?_
  refine L_nil fun iB vC hall=>?_
  have hs:=hall.1.1
  have hfr:=hfr.stp hs
  have i3:=i3.stp hs
  have i5:=i5.stp hs rfl
  have j6:=j6.stp hs
  have q62:=q62.stp hs
  have g8:=g8.stp hs
  have i8:=i8.stp hs
  have b104:=(word_all (A:=fun g w=>OB 2002 g w 108 ({ x0 with boxes:=(vmod ((x0).boxes) ((0:Int)) (fun b=>(vset b ((x1).Left) u3))) }:BoxRace) p1) 9 rfl hall)
  clear hs hall
  refine Ze .plain rfl (D_storeFc (g:=iB) (SubS.at_ (SubS.comp part_BoxRace_0 (SubS.dynC hi100 (SubS.dyn hi102) rfl) rfl) (by first | rfl | exact Nat.add_assoc _ _ _ | simp only [Nat.add_assoc,Nat.zero_add] | omega)) Try.sizeOf3 rfl b104 rfl (Zj.2 rfl) fun n8 aD hs b135 rst hos=>?_)
  clear rst hos
  have hfr:=hfr.stp hs
  have i3:=i3.stp hs
  have i5:=i5.stp hs rfl
  refine Zb (Zd (Zf (Za (Ze .plain rfl (D_load (g:=n8) Try.isAgg83 Try.sizeOf83 i6 i3 fun bD jB=>?_)))))
  refine EL_p (fPtr p1 8) (Zc at_108_1 l5 (OB.ptr b135)) rfl ?_
  refine Ze .plain rfl (D_storeFc (g:=n8) part_BoxRace_1 Try.sizeOf83 rfl b135 rfl jB fun q8 cD hs b138 rst hos=>?_)
  clear rst hos
  have hfr:=hfr.stp hs
  have i5:=i5.stp hs rfl
  refine Zb (Zd (Zf (Za (Ze .plain rfl (D_loadO (g:=q8) Try.isAgg108 Try.sizeOf108 l5 b138 fun lB mB=>?_)))))
  refine Zo y6 rfl ?_
  refine Zo a7 rfl ?_
  refine EL_in (.int .i64 ((w64 (y9 + u3)))) rfl rfl rfl rfl ?_
  refine Zn (.int .i64 ((w64 (t5 + x5)))) rfl rfl ?_
  refine Ze .plain rfl (D_storeOc (g:=q8) (v:=lB) Try.sizeOf108 x6 i5 rfl mB fun eD gD hs b140 cb=>?_)
  clear cb
  have hfr:=hfr.stp hs
  refine Zg (.int .i64 ((w64 (y9 + u3)))) rfl rfl ?_
  refine Zg (.int .i64 ((w64 (t5 + x5)))) rfl rfl ?_
  refine Zb (Zd (E_ret ?_))
  obtain rfl:=sinj h
  obtain ⟨ad141,cv141,hp141,t8,cr141⟩:=ob_read Try.isAgg108 Try.sizeOf108 b140
  exact endm_ctt rfl rfl ((show _=p3 from x6).trans hp141) t8 (show _=.int .i64 ((w64 (y9 + u3))) from rfl) (show _=.int .i64 ((w64 (t5 + x5))) from rfl) ⟨_,hfr,_,_,_,rfl,cr141,rfl,rfl⟩
def f98 (z0:Ptr BoxMill) (z1:BoxRace) (σ:Type) (cons:Cons σ (BoxPick × BoxStep)) (s0:σ):Option σ:=
 lp (σ:=σ × Int) (fun k5 (v8,i3)=>
  bif (decide (i3 < ((z0).x).left)) then
   jn (σ:=σ) (fun d7=>
    k5 (d7,(w64 (i3 + (1:Int))))
    ) fun cD=>
   lp (σ:=σ × Int) (fun eD (j6,u3)=>
    bif (decide (u3 < ((z0).x).right)) then
     jn (σ:=σ) (fun i7=>
      eD (i7,(w64 (u3 + (1:Int))))
      ) fun gD=>
     (f97 z1 ((⟨i3,u3⟩:BoxPick))).bind fun o0=>
     Option.bind (α:=σ × Bool) (
      bif (decide (o0.2.1 > (0 : Int))) then
       (cons j6 ((⟨i3,u3⟩:BoxPick),(⟨o0.1,(w64 (o0.2.1 - (1:Int))),o0.2.2⟩:BoxStep))).bind fun (x6,d9)=>
       some (d9,(!x6))
      else
       some (j6,false)
      ) fun (i6,x5)=>
     bif x5 then
      some i6
     else
      gD (i6)
    else
     cD (j6)
    ) big (v8,(0:Int))
  else
   some v8
  ) big (s0,(0:Int))
theorem en98:Enters Try.prog 98:=enters_of Try.func98 (by kernel_rfl) rfl
theorem wk98 {σ:Type} {cons:Cons σ (BoxPick × BoxStep)} {s0 r:σ} {gI:Gh} {wI:World} {z0:Ptr BoxMill} {z1:BoxRace} {pf0:Value} (qf0:PT gI.m wI z0 pf0) {pf1:Value} (qf1:PT gI.m wI z1 pf1) (h:f98 z0 z1 σ cons s0=some r):IterC Try.prog (RA2 (α:=BoxPick) (β:=BoxStep)) 98 #[] #[pf0,pf1] gI wI cons s0 r:=by
 unfold f98 at h
 refine iter_of_E Try.func98 rfl (Nat.le_of_ble_eq_true rfl) fun l B J g0 hm hAb hRo hfr=>?_
 have qf0:PT g0.m wI z0 pf0:=hm ▸ qf0
 have qf1:PT g0.m wI z1 pf1:=hm ▸ qf1
 show E _ 49 none _ _ (envAt #[.func (.yield l) #[] #[],pf0,pf1]) _ _
 refine Zf (Za (Ze .plain rfl (D_load (g:=g0) Try.isAgg113 Try.sizeOf113 rfl qf0 fun v1 r1=>?_)))
 replace r1:=RV_ptr.1 r1
 obtain ⟨pb2,po2,pe2⟩:=PT.ptr r1
 refine EL_p v1 (P_nilCk rfl pe2) rfl ?_
 refine EL_p (fPtr v1 0) (Zc at_154_0 rfl (PT.ptr r1)) rfl ?_
 have q3:=Zm (part_BoxMill_0).1 r1
 refine Ze .plain rfl (D_load (g:=g0) Try.isAgg3 Try.sizeOf3 rfl q3 fun v4 r4=>?_)
 obtain rfl:=Zj.1 r4
 refine Zn (.int .i64 (0)) rfl rfl ?_
 refine Zb (Zd (Zr ?_))
 refine E_lp h (fun (s:σ × Int) e w=>∃ (g:Gh) ,FrY gI wI B J (s.1) g w∧e 0=(.func (.yield l) #[] #[])∧e 1=pf0∧PT g.m w (z0:Ptr BoxMill) pf0∧e 2=pf1∧PT g.m w (z1:BoxRace) pf1∧e 13=.int .i64 (((z0).x).left)∧e 14=.int .i64 (s.2)) ⟨g0,hfr,rfl,rfl,qf0,rfl,qf1,rfl,rfl⟩ (fun X5 k5 hk5=>?_)
 rintro ⟨v8,i3⟩ qF w6 ⟨g6,hfr,kD,qA,rA,lD,mD,k9,m8⟩ h
 refine Zf (Za (EL_in (.bool ((decide (i3 < ((z0).x).left)))) m8 k9 rfl rfl ?_))
 refine Zb (Zd (Zf ?_))
 rcases Zt h with ⟨yA,h⟩ | ⟨yA,h⟩
 ·refine E_ct yA rfl ?_
  refine Zu (Zd (Zq h (fun (s:σ) e w=>∃ (g:Gh) ,FrY gI wI B J (s) g w∧e 0=(.func (.yield l) #[] #[])∧e 1=pf0∧PT g.m w (z0:Ptr BoxMill) pf0∧e 2=pf1∧PT g.m w (z1:BoxRace) pf1∧e 13=.int .i64 (((z0).x).left)∧e 14=.int .i64 (i3)) (fun X63 cD nD h=>?_) ?_))
  ·refine Zr ?_
   refine Zf (Za (Zo m8 rfl ?_))
   refine Zg (.int .i64 (i3)) rfl rfl ?_
   refine Zb (Zd (Zf (Za (Ze .plain rfl (D_load (g:=g6) Try.isAgg113 Try.sizeOf113 qA rA fun iD t8=>?_)))))
   replace t8:=RV_ptr.1 t8
   obtain ⟨pb66,po66,pe66⟩:=PT.ptr t8
   refine EL_p iD (P_nilCk rfl pe66) rfl ?_
   refine EL_p (fPtr iD 1) (Zc at_154_1 rfl (PT.ptr t8)) rfl ?_
   have iE:=Zm (part_BoxMill_1).1 t8
   refine Ze .plain rfl (D_load (g:=g6) Try.isAgg3 Try.sizeOf3 rfl iE fun rF jE=>?_)
   obtain rfl:=Zj.1 jE
   refine Zn (.int .i64 (0)) rfl rfl ?_
   refine Zb (Zd (Zr ?_))
   refine E_lp h (fun (s:σ × Int) e w=>∃ (g:Gh) ,FrY gI wI B J (s.1) g w∧e 0=(.func (.yield l) #[] #[])∧e 1=pf0∧PT g.m w (z0:Ptr BoxMill) pf0∧e 2=pf1∧PT g.m w (z1:BoxRace) pf1∧e 4=.int .i64 (i3)∧e 13=.int .i64 (((z0).x).left)∧e 14=.int .i64 (i3)∧e 20=.int .i64 (((z0).x).right)∧e 21=.int .i64 (s.2)) ⟨g6,hfr,kD,qA,rA,lD,mD,rfl,k9,m8,rfl,rfl⟩ (fun X69 eD oD=>?_)
   rintro ⟨j6,u3⟩ xE kE ⟨aB,hfr,y6,n8,l5,a7,i5,q8,j7,m7,v7,v6⟩ h
   refine Zf (Za (EL_in (.bool ((decide (u3 < ((z0).x).right)))) v6 v7 rfl rfl ?_))
   refine Zb (Zd (Zf ?_))
   rcases Zt h with ⟨x8,h⟩ | ⟨x8,h⟩
   ·refine E_ct x8 rfl ?_
    refine Zu (Zd (Zq h (fun (s:σ) e w=>∃ (g:Gh) ,FrY gI wI B J (s) g w∧e 0=(.func (.yield l) #[] #[])∧e 1=pf0∧PT g.m w (z0:Ptr BoxMill) pf0∧e 2=pf1∧PT g.m w (z1:BoxRace) pf1∧e 4=.int .i64 (i3)∧e 13=.int .i64 (((z0).x).left)∧e 14=.int .i64 (i3)∧e 20=.int .i64 (((z0).x).right)∧e 21=.int .i64 (u3)) (fun X95 gD sD h=>?_) ?_))
    ·refine Zr ?_
     refine Zf (Za (Zo v6 rfl ?_))
     refine Zg (.int .i64 (u3)) rfl rfl ?_
     refine Zb (Zd (Zf (Za (Zo q8 rfl ?_))))
     refine Zn (.int .i64 (u3)) rfl rfl ?_
     have l9:RV aB.m kE (⟨i3,u3⟩:BoxPick) (.agg (setCh [[.int .i64 0],[.int .i64 0]] [(0,.int .i64 (i3)),(1,.int .i64 (u3))]).flatten.toArray):=RV_build rfl (rep_pair (rfl) (rep_last (rfl)))
     generalize tD:(Value.agg (setCh [[.int .i64 0],[.int .i64 0]] [(0,.int .i64 (i3)),(1,.int .i64 (u3))]).flatten.toArray)=jD at l9
     refine EL_p jD (tD ▸ P_build (vs:=[(0,.int .i64 (i3)),(1,.int .i64 (u3))]) [[.int .i64 0],[.int .i64 0]] lay_83 rfl rfl (.cons rfl (.cons rfl .nil)) ⟨⟨_,rfl,rfl⟩,⟨⟨_,rfl,rfl⟩,trivial⟩⟩) rfl ?_
     refine Ze .plain rfl (D_allocOc (g:=aB) 2006 (⟨0,0⟩:BoxPick) Try.zeroValue83 (fun m w=>⟨_,(rep_two rep_int rep_int),rfl⟩) fun lE sF tF hs b97 cb=>?_)
     have hfr:=hfr.stp_ hAb hs rfl
     have l5:=l5.stp hs
     have i5:=i5.stp hs
     have l9:=l9.stp hs
     clear cb
     refine Ze .plain rfl (D_storeOc (g:=lE) (v:=jD) Try.sizeOf83 rfl b97 rfl l9 fun dB uF hs b98 cb=>?_)
     clear cb
     have hfr:=hfr.stp_ hAb hs rfl
     have l5:=l5.stp hs
     have i5:=i5.stp hs
     refine Zb (Zd (Zf (Za (Ze .plain rfl (D_load (g:=dB) Try.isAgg108 Try.sizeOf108 a7 i5 fun mE nE=>?_)))))
     refine Ze .plain rfl (D_loadO (g:=dB) Try.isAgg83 Try.sizeOf83 rfl b98 fun uD vD=>?_)
     obtain ⟨o0,vC,h⟩:=bsome h
     refine Ze .plain rfl (Zp (g:=dB) (vs:=[mE,uD]) en97 (.cons rfl (.cons rfl .nil)) (wk97 nE vD vC) fun xD sE yE hs hr=>?_)
     have hfr:=hfr.ext_ hAb hs
     have l5:=l5.ext hs
     have i5:=i5.ext hs
     have b98:=b98.ext hs
     obtain ⟨g8,oE,rE,rfl,i8,rfl,rfl⟩:=hr
     refine Zn (.tuple #[g8,.int .i64 (o0.2.1),.int .i64 (o0.2.2)]) rfl rfl ?_
     refine EL_p g8 (Zi rfl rfl) rfl ?_
     refine EL_p (.int .i64 (o0.2.1)) (Zi rfl rfl) rfl ?_
     refine EL_p (.int .i64 (o0.2.2)) (Zi rfl rfl) rfl ?_
     refine Ze .plain rfl (D_allocOc (g:=xD) 2007 (⟨(⟨List.toArray [(⟨List.toArray [0,0,0,0],rfl⟩:Vector Int 4),(⟨List.toArray [0,0,0,0],rfl⟩:Vector Int 4)],rfl⟩:Vector (Vector Int 4) 2),⟨0,0⟩⟩:BoxRace) Try.zeroValue108 (fun m w=>⟨_,(rep_two (rep_vec (flat_chunk (rep_vec (flat_chunk rep_int (flat_chunk rep_int (flat_chunk rep_int (flat_chunk rep_int flat_nil)))) rfl) (flat_chunk (rep_vec (flat_chunk rep_int (flat_chunk rep_int (flat_chunk rep_int (flat_chunk rep_int flat_nil)))) rfl) flat_nil)) rfl) (rep_two rep_int rep_int)),rfl⟩) fun yD zE cF hs b103 cb=>?_)
     have hfr:=hfr.stp_ hAb hs rfl
     have l5:=l5.stp hs
     have i5:=i5.stp hs
     have b98:=b98.stp hs rfl
     have i8:=i8.stp hs
     clear cb
     refine Ze .plain rfl (D_storeOc (g:=yD) (v:=g8) Try.sizeOf108 rfl b103 rfl i8 fun k8 dF hs b104 cb=>?_)
     clear cb
     have hfr:=hfr.stp_ hAb hs rfl
     have l5:=l5.stp hs
     have i5:=i5.stp hs
     have b98:=b98.stp hs rfl
     refine Zg (.int .i64 (o0.2.1)) rfl rfl ?_
     refine Zg (.int .i64 (o0.2.2)) rfl rfl ?_
     refine Zb (Zd ?_)
     obtain ⟨⟨i6,x5⟩,hx,h⟩:=bsome h
     refine E_join (fun e w=>∃ (g:Gh) ,FrY gI wI B J (i6) g w∧e 0=(.func (.yield l) #[] #[])∧e 1=pf0∧PT g.m w (z0:Ptr BoxMill) pf0∧e 2=pf1∧PT g.m w (z1:BoxRace) pf1∧e 4=.int .i64 (i3)∧e 13=.int .i64 (((z0).x).left)∧e 14=.int .i64 (i3)∧e 20=.int .i64 (((z0).x).right)∧e 21=.int .i64 (u3)∧e 46=.bool (x5)) (fun Q' hQ=>?_) (fun tE eF hR=>?_)
     ·replace h := hx
      clear hx
      refine Za (Zn (.int .i64 (o0.2.1)) rfl rfl ?_)
      refine EL_in (.bool ((decide (o0.2.1 > (0:Int))))) rfl rfl rfl rfl ?_
      refine Zn (.bool ((decide (o0.2.1 > (0:Int))))) rfl rfl ?_
      rcases Zt h with ⟨t5,h⟩ | ⟨t5,h⟩
      ·refine EL_y ((.func (.yield l) #[] #[])) (Zk y6) rfl rfl t5 rfl ?_
       refine Ze (.yes2 rfl rfl t5) rfl (D_loadO (g:=k8) Try.isAgg83 Try.sizeOf83 rfl b98 fun iF zD=>?_)
       refine Ze (.yes2 rfl rfl t5) rfl (D_loadO (g:=k8) Try.isAgg108 Try.sizeOf108 rfl b104 fun a9 iB=>?_)
       refine EL_y (.int .i64 (o0.2.1)) (Zk rfl) rfl rfl t5 rfl ?_
       refine EL_y (.int .i64 ((w64 (o0.2.1 - (1:Int))))) (P_int rfl rfl rfl) rfl rfl t5 rfl ?_
       refine EL_y (.int .i64 (o0.2.2)) (Zk rfl) rfl rfl t5 rfl ?_
       have jB:RV k8.m _ (⟨o0.1,(w64 (o0.2.1 - (1:Int))),o0.2.2⟩:BoxStep) (.agg (setCh [[.int .i64 0,.int .i64 0,.int .i64 0,.int .i64 0,.int .i64 0,.int .i64 0,.int .i64 0,.int .i64 0,.int .i64 0,.int .i64 0],[.int .i64 0],[.int .i64 0]] [(0,a9),(1,.int .i64 ((w64 (o0.2.1 - (1:Int))))),(2,.int .i64 (o0.2.2))]).flatten.toArray):=RV_build rfl (rep_pair (RV.cells iB) (rep_pair (rfl) (rep_last (rfl))))
       generalize aD:(Value.agg (setCh [[.int .i64 0,.int .i64 0,.int .i64 0,.int .i64 0,.int .i64 0,.int .i64 0,.int .i64 0,.int .i64 0,.int .i64 0,.int .i64 0],[.int .i64 0],[.int .i64 0]] [(0,a9),(1,.int .i64 ((w64 (o0.2.1 - (1:Int))))),(2,.int .i64 (o0.2.2))]).flatten.toArray)=aE at jB
       refine EL_y aE (aD ▸ P_build (vs:=[(0,a9),(1,.int .i64 ((w64 (o0.2.1 - (1:Int))))),(2,.int .i64 (o0.2.2))]) [[.int .i64 0,.int .i64 0,.int .i64 0,.int .i64 0,.int .i64 0,.int .i64 0,.int .i64 0,.int .i64 0,.int .i64 0,.int .i64 0],[.int .i64 0],[.int .i64 0]] lay_144 rfl rfl (.cons rfl (.cons rfl (.cons rfl .nil))) ⟨⟨_,rfl,cells_size iB⟩,⟨⟨_,rfl,rfl⟩,⟨⟨_,rfl,rfl⟩,trivial⟩⟩⟩) rfl rfl t5 rfl ?_
       obtain ⟨bE,bD,h⟩:=bsome h
       obtain ⟨x6,d9⟩:=bE
       refine Ze (.yes2 rfl rfl t5) rfl (D_yield (g:=k8) (x:=((⟨i3,u3⟩:BoxPick),(⟨o0.1,(w64 (o0.2.1 - (1:Int))),o0.2.2⟩:BoxStep))) rfl (.cons rfl (.cons rfl .nil)) hRo hfr bD ⟨_,_,rfl,zD,jB⟩ fun cE nF hs hfrY=>?_)
       have l5:=l5.stp hs
       have i5:=i5.stp hs
       have hfr:=hfrY
       clear hfrY
       refine EL_y (.bool (!x6)) (P_not rfl) rfl rfl t5 rfl ?_
       refine EL_p (.bool (!x6)) (Zl (b:=(decide (o0.2.1 > (0:Int)))) rfl (pick_t t5 rfl)) rfl ?_
       refine Zb ?_
       obtain ⟨rfl,rfl⟩:=pairs2 h
       exact hQ _ _ ⟨cE,hfr,y6,n8,l5,a7,i5,q8,j7,m7,v7,v6,rfl⟩
      ·refine EL_s rfl rfl t5 rfl rfl ?_
       iterate 8 refine EL_s rfl rfl t5 rfl rfl ?_
       refine EL_p (.bool false) (Zl (b:=(decide (o0.2.1 > (0:Int)))) rfl (pick_f t5 rfl)) rfl ?_
       refine Zb ?_
       obtain ⟨rfl,rfl⟩:=pairs2 h
       exact hQ _ _ ⟨k8,hfr,y6,n8,l5,a7,i5,q8,j7,m7,v7,v6,rfl⟩
     ·clear hx
      obtain ⟨dE,hfr,lB,mB,nB,oB,tB,vB,n9,u9,y9,z9,l8⟩:=hR
      rcases Zt h with ⟨r8,h⟩ | ⟨r8,h⟩
      ·refine E_cond_true (Eq.trans (show ev _ _ = .bool (x5) from l8) (congrArg Value.bool r8)) ?_
       refine E_ret (blk_r ?_)
       refine thn_r ?_
       refine thn_r ?_
       refine blk_r ?_
       refine blk_r ?_
       refine thn_r ?_
       refine thn_r ?_
       refine blk_r ?_
       obtain rfl:=sinj h
       exact end0 rfl rfl (FrY.done hfr)
      ·refine E_cond_false (Eq.trans (show ev _ _ = .bool (x5) from l8) (congrArg Value.bool r8)) ?_
       exact Zu (blk_n (Zd (sD (i6) _ _ ⟨dE,hfr,lB,mB,nB,oB,tB,vB,n9,u9,y9,z9⟩ h)))
    ·rintro i7 uE oF ⟨eE, hfr, yB, zB, aC, cC, eC, iC, bA, gA, iA, jA⟩ h
     refine Za (EL_in (.int .i64 ((w64 (u3 + (1:Int))))) jA rfl rfl rfl ?_)
     refine Zn (.int .i64 ((w64 (u3 + (1:Int))))) rfl rfl ?_
     exact Zb (Zd (oD (i7,(w64 (u3 + (1:Int)))) _ _ ⟨eE,hfr,yB,zB,aC,cC,eC,iC,bA,gA,iA,rfl⟩ h))
   ·refine E_cf x8 rfl ?_
    refine E_exit ?_
    refine thn_e ?_
    refine thn_e ?_
    refine blk_hit ?_
    exact blk_n (Zd (nD (j6) _ _ ⟨aB,hfr,y6,n8,l5,a7,i5,j7,m7⟩ h))
  ·rintro d7 vE pF ⟨gE, hfr, lC, mC, qC, rC, uC, mA, pA⟩ h
   refine Za (EL_in (.int .i64 ((w64 (i3 + (1:Int))))) pA rfl rfl rfl ?_)
   refine Zn (.int .i64 ((w64 (i3 + (1:Int))))) rfl rfl ?_
   exact Zb (Zd (hk5 (d7,(w64 (i3 + (1:Int)))) _ _ ⟨gE,hfr,lC,mC,qC,rC,uC,mA,rfl⟩ h))
 ·refine E_cf yA rfl ?_
  refine E_exit ?_
  refine thn_e ?_
  refine thn_e ?_
  refine blk_hit ?_
  obtain rfl:=sinj h
  exact end0n rfl rfl (FrY.done hfr)
def f76 (x0:BoxRace) (x1:List BoxPick):Option (BoxRun × Int × Int):=
 jn (σ:=BoxRun) (fun q8=>
  some (q8,(0:Int),(0:Int))
  ) fun yA=>
 lp (σ:=BoxRun × Int) (fun aB (i6,i3)=>
  bif (decide (i3 < ((x1).length : Int))) then
   jn (σ:=BoxRun) (fun i7=>
    aB (i7,(w64 (i3 + (1:Int))))
    ) fun dB=>
   (idx x1 i3).bind fun iB=>
   (f97 ((i6).last) iB).bind fun o0=>
   jn (σ:=BoxRun) (fun l5=>
    (apnd 8 ((l5).thrown) (([o0.2.1]:List Int))).bind fun t5=>
    dB ((⟨t5,o0.1,(w64 ((l5).moves + o0.2.2))⟩:BoxRun))
    ) fun jB=>
   bif (o0.2.1 == (0 : Int)) then
    some ((⟨[],⟨(⟨List.toArray [(⟨List.toArray [0,0,0,0],rfl⟩:Vector Int 4),(⟨List.toArray [0,0,0,0],rfl⟩:Vector Int 4)],rfl⟩:Vector (Vector Int 4) 2),⟨0,0⟩⟩,0⟩:BoxRun),i3,(9:Int))
   else
    jB (i6)
  else
   yA (i6)
  ) big ((⟨[],x0,0⟩:BoxRun),(0:Int))
theorem en76:Enters Try.prog 76:=enters_of Try.func76 (by kernel_rfl) rfl
theorem wk76 {gI:Gh} {wI:World} {x0:BoxRace} {x1:List BoxPick} {up0:Value} (rp0:RV gI.m wI x0 up0) {up1:Value} (rp1:RV gI.m wI x1 up1) {r:BoxRun × Int × Int} (h:f76 x0 x1=some r):Fn Try.prog 76 #[up0,up1] gI wI (fun m w v=>∃ y0 y1 y2,v=.tuple #[y0,y1,y2]∧RV m w (r.1) y0∧y1=.int .i64 (r.2.1)∧y2=.int .i64 (r.2.2)):=by
 unfold f76 at h
 refine fn_of_E Try.func76 rfl (Nat.le_of_ble_eq_true rfl) fun g0 hm hfr=>?_
 have rp0:RV g0.m wI x0 up0:=hm ▸ rp0
 have rp1:RV g0.m wI x1 up1:=hm ▸ rp1
 show E _ 46 none _ _ _ _ _
 refine Zf (Za (Ze .plain rfl (D_box (g:=g0) rfl rp0 fun g1 w1 p1 hs q1=>?_)))
 have hfr:=hfr.ext hs
 have rp1:=rp1.ext hs
 refine Ze .plain rfl (D_allocOc (g:=g1) 2004 (⟨[],⟨(⟨List.toArray [(⟨List.toArray [0,0,0,0],rfl⟩:Vector Int 4),(⟨List.toArray [0,0,0,0],rfl⟩:Vector Int 4)],rfl⟩:Vector (Vector Int 4) 2),⟨0,0⟩⟩,0⟩:BoxRun) Try.zeroValue129 (fun m w=>⟨_,(rep_two rep_nil (rep_two (rep_two (rep_vec (flat_chunk (rep_vec (flat_chunk rep_int (flat_chunk rep_int (flat_chunk rep_int (flat_chunk rep_int flat_nil)))) rfl) (flat_chunk (rep_vec (flat_chunk rep_int (flat_chunk rep_int (flat_chunk rep_int (flat_chunk rep_int flat_nil)))) rfl) flat_nil)) rfl) (rep_two rep_int rep_int)) rep_int)),rfl⟩) fun g2 w2 p2 hs b2 cb=>?_)
 have hfr:=hfr.stp hs
 have rp1:=rp1.stp hs
 have q1:=q1.stp hs
 have t8:OSF 2004 60400 0 g2 w2 3 129 ([]:List Int) p2:=cb.osf (by rfl)
 clear cb
 refine Zg (.int .i64 (0)) rfl rfl ?_
 refine Zg (.int .i64 (0)) rfl rfl ?_
 refine Zb (Zd (Zf (Za (Ze .plain rfl (D_load (g:=g2) Try.isAgg108 Try.sizeOf108 rfl q1 fun v3 r3=>?_)))))
 refine EL_p (fPtr p2 1) (Zc at_129_1 rfl (OB.ptr b2)) rfl ?_
 refine Ze .plain rfl (D_storeFc (g:=g2) part_BoxRun_1 Try.sizeOf108 rfl b2 rfl r3 fun g5 w5 hs b5 rst hos=>?_)
 have t8:=t8.rest hs rst
 clear rst hos
 have hfr:=hfr.stp hs
 have rp1:=rp1.stp hs
 refine Zb (Zd (Zq h (fun (s:BoxRun) e w=>∃ (g:Gh) ,Fr gI wI g w∧e 4=p2∧OB 2004 g w 129 (s:BoxRun) p2∧OSF 2004 60400 0 g w 3 129 ((s).thrown) p2) (fun X122 yA qC h=>?_) ?_))
 ·refine Zf (Za (Zn up1 rfl rfl ?_))
  refine EL_p (.int .i64 ((x1).length:Int)) (P_len Try.underlying30 rfl rp1) rfl ?_
  refine Zn (.int .i64 (0)) rfl rfl ?_
  refine Zb (Zd (Zr ?_))
  refine E_lp h (fun (s:BoxRun × Int) e w=>∃ (g:Gh) ,Fr gI wI g w∧e 4=p2∧OB 2004 g w 129 (s.1:BoxRun) p2∧OSF 2004 60400 0 g w 3 129 ((s.1).thrown) p2∧e 14=up1∧RV g.m w (x1:List BoxPick) up1∧e 15=.int .i64 (((x1).length:Int))∧e 16=.int .i64 (s.2)) ⟨g5,hfr,rfl,b5,t8,rfl,rp1,rfl,rfl⟩ (fun X123 aB rC=>?_)
  rintro ⟨i6,i3⟩ rE xE ⟨v8,hfr,x6,i5,u4_0_124,g8,u3,i8,y6⟩ h
  refine Zf (Za (EL_in (.bool ((decide (i3 < ((x1).length:Int))))) y6 i8 rfl rfl ?_))
  refine Zb (Zd (Zf ?_))
  rcases Zt h with ⟨k8,h⟩ | ⟨k8,h⟩
  ·refine E_ct k8 rfl ?_
   refine Zu (Zd (Zq h (fun (s:BoxRun) e w=>∃ (g:Gh) ,Fr gI wI g w∧e 4=p2∧OB 2004 g w 129 (s:BoxRun) p2∧OSF 2004 60400 0 g w 3 129 ((s).thrown) p2∧e 14=up1∧RV g.m w (x1:List BoxPick) up1∧e 15=.int .i64 (((x1).length:Int))∧e 16=.int .i64 (i3)) (fun X181 dB uC h=>?_) ?_))
   ·refine Zr ?_
    refine Zf (Za (Zo y6 rfl ?_))
    obtain ⟨iB,n9,h⟩:=bsome h
    refine EL_p (ePtr up1 i3 2) (Zh (α:=BoxPick) Try.underlying30 Try.sizeOf83 g8 u3 y6 n9) rfl ?_
    have kD:=PT_idx u3 n9
    refine Ze .plain rfl (D_load (g:=v8) Try.isAgg83 Try.sizeOf83 rfl kD fun lD x8=>?_)
    refine Ze .plain rfl (D_allocOc (g:=v8) 2008 (⟨0,0⟩:BoxPick) Try.zeroValue83 (fun m w=>⟨_,(rep_two rep_int rep_int),rfl⟩) fun mD yE zE hs b185 cb=>?_)
    have hfr:=hfr.stp hs
    have u4_0_124:=u4_0_124.stp hs rfl
    have i5:=i5.stp hs rfl
    have u3:=u3.stp hs
    have x8:=x8.stp hs
    clear cb
    refine Zg (.int .i64 (i3)) rfl rfl ?_
    refine Ze .plain rfl (D_storeOc (g:=mD) (v:=lD) Try.sizeOf83 rfl b185 rfl x8 fun a9 cF hs b186 cb=>?_)
    clear cb
    have hfr:=hfr.stp hs
    have u4_0_124:=u4_0_124.stp hs rfl
    have i5:=i5.stp hs rfl
    have u3:=u3.stp hs
    refine Zb (Zd (Zf (Za (EL_p (fPtr p2 1) (Zc at_129_1 x6 (OB.ptr i5)) rfl ?_))))
    refine Ze .plain rfl (D_loadF (g:=a9) part_BoxRun_1.1 Try.isAgg108 Try.sizeOf108 rfl i5 fun nD oD=>?_)
    refine Ze .plain rfl (D_loadO (g:=a9) Try.isAgg83 Try.sizeOf83 rfl b186 fun sD tD=>?_)
    obtain ⟨o0,vC,h⟩:=bsome h
    refine Ze .plain rfl (Zp (g:=a9) (vs:=[nD,sD]) en97 (.cons rfl (.cons rfl .nil)) (wk97 oD tD vC) fun uD sE dF hs hr=>?_)
    have hfr:=hfr.ext hs
    have u4_0_124:=u4_0_124.ext hs
    have i5:=i5.ext hs
    have u3:=u3.ext hs
    obtain ⟨j7,mE,nE,rfl,m7,rfl,rfl⟩:=hr
    refine Zn (.tuple #[j7,.int .i64 (o0.2.1),.int .i64 (o0.2.2)]) rfl rfl ?_
    refine EL_p j7 (Zi rfl rfl) rfl ?_
    refine EL_p (.int .i64 (o0.2.1)) (Zi rfl rfl) rfl ?_
    refine EL_p (.int .i64 (o0.2.2)) (Zi rfl rfl) rfl ?_
    refine Ze .plain rfl (D_allocOc (g:=uD) 2009 (⟨(⟨List.toArray [(⟨List.toArray [0,0,0,0],rfl⟩:Vector Int 4),(⟨List.toArray [0,0,0,0],rfl⟩:Vector Int 4)],rfl⟩:Vector (Vector Int 4) 2),⟨0,0⟩⟩:BoxRace) Try.zeroValue108 (fun m w=>⟨_,(rep_two (rep_vec (flat_chunk (rep_vec (flat_chunk rep_int (flat_chunk rep_int (flat_chunk rep_int (flat_chunk rep_int flat_nil)))) rfl) (flat_chunk (rep_vec (flat_chunk rep_int (flat_chunk rep_int (flat_chunk rep_int (flat_chunk rep_int flat_nil)))) rfl) flat_nil)) rfl) (rep_two rep_int rep_int)),rfl⟩) fun vD eF lB hs b192 cb=>?_)
    have hfr:=hfr.stp hs
    have u4_0_124:=u4_0_124.stp hs rfl
    have i5:=i5.stp hs rfl
    have u3:=u3.stp hs
    have m7:=m7.stp hs
    clear cb
    refine Ze .plain rfl (D_storeOc (g:=vD) (v:=j7) Try.sizeOf108 rfl b192 rfl m7 fun d9 xD hs b193 cb=>?_)
    clear cb
    have hfr:=hfr.stp hs
    have u4_0_124:=u4_0_124.stp hs rfl
    have i5:=i5.stp hs rfl
    have u3:=u3.stp hs
    refine Zg (.int .i64 (o0.2.1)) rfl rfl ?_
    refine Zg (.int .i64 (o0.2.2)) rfl rfl ?_
    refine Zb (Zd (Zq h (fun (s:BoxRun) e w=>∃ (g:Gh) ,Fr gI wI g w∧e 4=p2∧OB 2004 g w 129 (s:BoxRun) p2∧OSF 2004 60400 0 g w 3 129 ((s).thrown) p2∧e 9=lB∧OB 2009 g w 108 (o0.1:BoxRace) lB∧e 10=.int .i64 (o0.2.1)∧e 11=.int .i64 (o0.2.2)∧e 14=up1∧RV g.m w (x1:List BoxPick) up1∧e 15=.int .i64 (((x1).length:Int))∧e 16=.int .i64 (i3)) (fun X198 jB aD h=>?_) ?_))
    ·refine Zf (Za (Zn (.int .i64 (o0.2.1)) rfl rfl ?_))
     refine EL_in (.bool ((o0.2.1 == (0:Int)))) rfl rfl rfl rfl ?_
     refine Zb (Zd ?_)
     rcases Zt h with ⟨l8,h⟩ | ⟨l8,h⟩
     ·refine E_ct l8 rfl ?_
      refine Zf (Za ?_)
      have mB:RV d9.m xD (⟨[],⟨(⟨List.toArray [(⟨List.toArray [0,0,0,0],rfl⟩:Vector Int 4),(⟨List.toArray [0,0,0,0],rfl⟩:Vector Int 4)],rfl⟩:Vector (Vector Int 4) 2),⟨0,0⟩⟩,0⟩:BoxRun) (.agg (setCh [[.slice none 0 0],[.int .i64 0,.int .i64 0,.int .i64 0,.int .i64 0,.int .i64 0,.int .i64 0,.int .i64 0,.int .i64 0,.int .i64 0,.int .i64 0],[.int .i64 0]] []).flatten.toArray):=RV_build rfl (rep_pair (rep_nil) (rep_pair ((rep_two (rep_vec (flat_chunk (rep_vec (flat_chunk rep_int (flat_chunk rep_int (flat_chunk rep_int (flat_chunk rep_int flat_nil)))) rfl) (flat_chunk (rep_vec (flat_chunk rep_int (flat_chunk rep_int (flat_chunk rep_int (flat_chunk rep_int flat_nil)))) rfl) flat_nil)) rfl) (rep_two rep_int rep_int))) (rep_last (rep_int))))
      generalize u9:(Value.agg (setCh [[.slice none 0 0],[.int .i64 0,.int .i64 0,.int .i64 0,.int .i64 0,.int .i64 0,.int .i64 0,.int .i64 0,.int .i64 0,.int .i64 0,.int .i64 0],[.int .i64 0]] []).flatten.toArray)=nB at mB
      refine EL_p nB (u9 ▸ P_build (vs:=[]) [[.slice none 0 0],[.int .i64 0,.int .i64 0,.int .i64 0,.int .i64 0,.int .i64 0,.int .i64 0,.int .i64 0,.int .i64 0,.int .i64 0,.int .i64 0],[.int .i64 0]] lay_129 rfl rfl .nil trivial) rfl ?_
      refine Zn (.int .i64 (i3)) rfl rfl ?_
      refine Ze .plain rfl (D_storeOc (g:=d9) (v:=nB) Try.sizeOf129 x6 i5 rfl mB fun yD zD hs b201 cb=>?_)
      have oE:OSF 2004 60400 0 yD zD 3 129 ([]:List Int) p2:=cb.osf (by rw [← u9]; rfl)
      clear cb
      have hfr:=hfr.stp hs
      refine Zg (.int .i64 (i3)) rfl rfl ?_
      refine Zg (.int .i64 (9)) rfl rfl ?_
      refine Zb (Zd (E_ret (thn_r ?_)))
      refine blk_r ?_
      refine thn_r ?_
      refine thn_r ?_
      refine blk_r ?_
      refine thn_r ?_
      obtain rfl:=sinj h
      obtain ⟨ad202,cv202,hp202,bD,cr202⟩:=ob_read Try.isAgg129 Try.sizeOf129 b201
      exact endm_ctt rfl rfl ((show _=p2 from x6).trans hp202) bD (show _=.int .i64 (i3) from rfl) (show _=.int .i64 (9) from rfl) ⟨_,hfr,_,_,_,rfl,cr202,rfl,rfl⟩
     ·refine E_cf l8 rfl ?_
      exact Zu (Zd (aD (i6) _ _ ⟨d9,hfr,x6,i5,u4_0_124,rfl,b193,rfl,rfl,g8,u3,i8,y6⟩ h))
    ·rintro l5 tE aE ⟨bE, hfr, d7, x5, u4_0_203, oB, tB, z9, bA, gA, j6, iA, jA⟩ h
     refine L_loadFS (x:=.tmp 33) part_BoxRun_0.1 Try.isAgg22 Try.sizeOf22 x5 u4_0_203 fun vB cE o210 cD=>?_
     obtain ⟨t5,eD,h⟩:=bsome h
     refine L_loadO0 (x:=.tmp 9) Try.isAgg108 Try.sizeOf108 tB fun m8 n8 gD=>?_
     refine L_loadO (x:=.tmp 39) part_BoxRun_2.1 Try.isAgg3 Try.sizeOf3 x5 fun iF dE iD=>?_
     obtain rfl:=Zj.1 dE
     refine E_drawAS (g:=bE) (w:=aE) (i:=60400) (et:=3) (xs:=((l5).thrown:List Int)) (r:=t5) (u:=vB) cE o210 (n:=10) [(3,(fun v g w=>RV g.m w ([o0.2.1]:List Int) v∧OS 3036 g w 3 ([o0.2.1]:List Int) v∧FullV v)),(4,(fun v g w=>RV g.m w t5 v∧OS 60400 g w 3 t5 v))] [0,1,2,3,4,5,6,7,8,9] rfl mixed (by kernel_rfl) (⟨fun _=>up_and upS_rv (up_and upS_os (upS_eq _)),fun _=>up_as,trivial⟩) ?_
     refine L_p (fPtr p2 0) rfl rfl (Zc at_129_0 d7 (OB.ptr x5)) ?_
     refine L_ld (c:=vB) rfl rfl .plain (fun _ _ h=>⟨h.1.ch,fun b hb ho=>h.1.block b hb (by rw [ho]; decide)⟩) cD rfl ?_
     refine L_p (.int .i64 (o0.2.1)) rfl rfl (Zk z9) ?_
     refine L_do (φ:=fun v g w=>RV g.m w ([o0.2.1]:List Int) v∧OS 3036 g w 3 ([o0.2.1]:List Int) v∧FullV v) rfl rfl .plain (fun g w hd=>D_buildSlice (g:=g) 3036 (xs:=([o0.2.1]:List Int)) (vs:=[.int .i64 (o0.2.1)]) Try.underlying22 Try.sizeOf3 Try.zeroValue3 rfl rfl (.cons rfl .nil) (RVs.cons (Zj.2 rfl) RVs.nil) rfl rfl fun g' w' v hs o r hxt hfl=>⟨g',as_ext hxt,r,o,hfl⟩) (fun v6 hv=>?_)
     clear hv
     refine L_do (φ:=fun v g w=>RV g.m w t5 v∧OS 60400 g w 3 t5 v) rfl rfl .plain (fun g w hd=>D_appendS (g:=g) det_int rfl Try.underlying22 info_3 rfl rfl hd.1.2 rfl (word (A:=fun g w=>RV g.m w ([o0.2.1]:List Int) v6∧OS 3036 g w 3 ([o0.2.1]:List Int) v6∧FullV v6) 3 rfl rfl (deps_of hd)).1 eD) (fun a7 hv=>?_)
     clear hv
     refine L_ld (c:=m8) rfl rfl .plain (fun _ _ h=>⟨h.1.ch,fun b hb ho=>h.1.block b hb (by rw [ho]; decide)⟩) gD oB ?_
     refine L_p (fPtr p2 11) rfl rfl (Zc at_129_2 d7 (OB.ptr x5)) ?_
     refine L_ld (c:=.int .i64 ((l5).moves)) rfl rfl .plain (fun _ _ h=>⟨h.1.ch,fun b hb ho=>h.1.block b hb (by rw [ho]; decide)⟩) iD rfl ?_
     refine L_p (.int .i64 (o0.2.2)) rfl rfl (Zk bA) ?_
     refine L_p (.int .i64 ((w64 ((l5).moves + o0.2.2)))) rfl rfl (P_int rfl rfl rfl) ?_
     refine L_nil fun yB nF hall=>?_
     have hs:=hall.1.1
     have hfr:=hfr.stp hs
     have x5:=x5.stp hs rfl
     have j6:=j6.stp hs
     have n8:=n8.stp hs
     have oF:=(word_all (A:=fun g w=>RV g.m w ([o0.2.1]:List Int) v6∧OS 3036 g w 3 ([o0.2.1]:List Int) v6∧FullV v6) 3 rfl hall).1
     have o228:=(word_all (A:=fun g w=>RV g.m w ([o0.2.1]:List Int) v6∧OS 3036 g w 3 ([o0.2.1]:List Int) v6∧FullV v6) 3 rfl hall).2.1
     have k9:=(word_all (A:=fun g w=>RV g.m w t5 a7∧OS 60400 g w 3 t5 a7) 4 rfl hall).1
     have o229:=(word_all (A:=fun g w=>RV g.m w t5 a7∧OS 60400 g w 3 t5 a7) 4 rfl hall).2
     clear hs hall
     have zB:RV yB.m _ (⟨t5,o0.1,(w64 ((l5).moves + o0.2.2))⟩:BoxRun) (.agg (setCh [[.slice none 0 0],[.int .i64 0,.int .i64 0,.int .i64 0,.int .i64 0,.int .i64 0,.int .i64 0,.int .i64 0,.int .i64 0,.int .i64 0,.int .i64 0],[.int .i64 0]] [(0,a7),(1,m8),(2,.int .i64 ((w64 ((l5).moves + o0.2.2))))]).flatten.toArray):=RV_build rfl (rep_pair (RV.cells k9) (rep_pair (RV.cells n8) (rep_last (rfl))))
     generalize y9:(Value.agg (setCh [[.slice none 0 0],[.int .i64 0,.int .i64 0,.int .i64 0,.int .i64 0,.int .i64 0,.int .i64 0,.int .i64 0,.int .i64 0,.int .i64 0,.int .i64 0],[.int .i64 0]] [(0,a7),(1,m8),(2,.int .i64 ((w64 ((l5).moves + o0.2.2))))]).flatten.toArray)=aC at zB
     refine EL_p aC (y9 ▸ P_build (vs:=[(0,a7),(1,m8),(2,.int .i64 ((w64 ((l5).moves + o0.2.2))))]) [[.slice none 0 0],[.int .i64 0,.int .i64 0,.int .i64 0,.int .i64 0,.int .i64 0,.int .i64 0,.int .i64 0,.int .i64 0,.int .i64 0,.int .i64 0],[.int .i64 0]] lay_129 rfl rfl (.cons rfl (.cons rfl (.cons rfl .nil))) ⟨⟨_,rfl,cells_size k9⟩,⟨⟨_,rfl,cells_size n8⟩,⟨⟨_,rfl,rfl⟩,trivial⟩⟩⟩) rfl ?_
     refine Ze .plain rfl (D_storeOc (g:=yB) (v:=aC) Try.sizeOf129 d7 x5 rfl zB fun cC eE hs b236 cb=>?_)
     obtain ⟨kE,lE,l9,_,_⟩:=RV_list k9
     have eC:OSF 2004 60400 0 cC eE 3 129 (t5:List Int) p2:=cb.osfv (by rw [← y9,l9]; rfl) (o229.stp hs rfl)
     clear cb
     have hfr:=hfr.stp hs
     have j6:=j6.stp hs
     exact Zb (blk_n (Zd (uC ((⟨t5,o0.1,(w64 ((l5).moves + o0.2.2))⟩:BoxRun)) _ _ ⟨cC,hfr,d7,b236,eC,gA,j6,iA,jA⟩ h)))
   ·rintro i7 uE pF ⟨gE, hfr, iC, lC, u4_0_237, mA, pA, qA, rA⟩ h
    refine Za (EL_in (.int .i64 ((w64 (i3 + (1:Int))))) rA rfl rfl rfl ?_)
    refine Zn (.int .i64 ((w64 (i3 + (1:Int))))) rfl rfl ?_
    exact Zb (Zd (rC (i7,(w64 (i3 + (1:Int)))) _ _ ⟨gE,hfr,iC,lC,u4_0_237,mA,pA,qA,rfl⟩ h))
  ·refine E_cf k8 rfl ?_
   refine E_exit ?_
   refine thn_e ?_
   refine thn_e ?_
   refine blk_hit ?_
   exact Zd (qC (i6) _ _ ⟨v8,hfr,x6,i5,u4_0_124⟩ h)
 ·rintro q8 vE qF ⟨mC, hfr, v7, r8, u4_0_238⟩ h
  refine Zf (Za (Ze .plain rfl (D_loadO (g:=mC) Try.isAgg129 Try.sizeOf129 v7 r8 fun iE jE=>?_)))
  refine Ze .plain rfl (D_storeOc (g:=mC) (v:=iE) Try.sizeOf129 v7 r8 rfl jE fun rF sF hs b240 cb=>?_)
  clear cb
  have hfr:=hfr.stp hs
  refine Zg (.int .i64 (0)) rfl rfl ?_
  refine Zg (.int .i64 (0)) rfl rfl ?_
  refine Zb (Zd (E_ret ?_))
  obtain rfl:=sinj h
  obtain ⟨ad241,cv241,hp241,jD,cr241⟩:=ob_read Try.isAgg129 Try.sizeOf129 b240
  exact endm_ctt rfl rfl ((show _=p2 from v7).trans hp241) jD (show _=.int .i64 (0) from rfl) (show _=.int .i64 (0) from rfl) ⟨_,hfr,_,_,_,rfl,cr241,rfl,rfl⟩
def f80 (x0:BoxMill) (x1:BoxRace):Option (It (BoxPick × BoxStep)):=
 some ((fun σ cons s=>f98 ((⟨x0⟩:Ptr BoxMill)) x1 σ cons s))
theorem en80:Enters Try.prog 80:=enters_of Try.func80 (by kernel_rfl) rfl
theorem wk80 {gI:Gh} {wI:World} {x0:BoxMill} {x1:BoxRace} {up0:Value} (rp0:PT gI.m wI x0 up0) {up1:Value} (rp1:RV gI.m wI x1 up1) {r:It (BoxPick × BoxStep)} (h:f80 x0 x1=some r):Fn Try.prog 80 #[up0,up1] gI wI (fun m w v=>ItV Try.prog (RA2 (α:=BoxPick) (β:=BoxStep)) (r) v m w):=by
 unfold f80 at h
 refine fn_of_E Try.func80 rfl (Nat.le_of_ble_eq_true rfl) fun g0 hm hfr=>?_
 have hone500200:=PT.one rp0
 have rp0:PT g0.m wI x0 up0:=hm ▸ rp0
 have rp1:RV g0.m wI x1 up1:=hm ▸ rp1
 show E _ 6 none _ _ _ _ _
 refine Zf (Za (Ze .plain rfl (D_box (g:=g0) (a:=(⟨up0,hone500200⟩:Fv)) rfl (RV_fv.2 rfl) fun g1 w1 p1 hs q1=>?_)))
 have hfr:=hfr.ext hs
 have rp0:=rp0.ext hs
 have rp1:=rp1.ext hs
 refine Ze .plain rfl (D_box (g:=g1) rfl rp1 fun g2 w2 p2 hs q2=>?_)
 have hfr:=hfr.ext hs
 have rp0:=rp0.ext hs
 have q1:=q1.ext hs
 refine Zg (.nilFunc) rfl rfl ?_
 refine Zb (Zd (Zf (Za (EL_p ((.func (.func 98) #[] #[p1,p2])) (P_makeFunc (capf_0_2 (show ev _ _=p1 from rfl) (show ev _ _=p2 from rfl))) rfl ?_))))
 refine Zg ((.func (.func 98) #[] #[p1,p2])) rfl rfl ?_
 refine Zb (Zd (E_ret ?_))
 obtain rfl:=sinj h
 exact end1 rfl rfl (show _=(.func (.func 98) #[] #[p1,p2]) from rfl) ⟨_,hfr,(show ItV Try.prog (RA2 (α:=BoxPick) (β:=BoxStep)) (fun σ cons s=>f98 ((⟨x0⟩:Ptr BoxMill)) x1 σ cons s) ((.func (.func 98) #[] #[p1,p2])) g2.m w2 from ⟨98,#[],#[p1,p2],rfl,en98,fun g' w' hch σ cons s s' h=>wk98  ((PT.ptrOf q1 rp0).ch hch) (q2.ch hch) h⟩)⟩
def f84 (x0:BoxBoxLoom) (x1:BoxShuttle):Option (Bool):=
 Option.bind (α:=Bool) (
  (f87 ((0:Int)) ((9:Int)) (([(x1).Colour]:List Int))).bind fun x5=>
  bif x5 then
   (f87 ((0:Int)) ((1:Int)) (([(x1).Side]:List Int))).bind fun i6=>
   bif i6 then
    (idx (((x0).BoxLoom).Boxes) (x1).Side).bind fun a7=>
    (f87 ((0:Int)) ((w64 (a7 - (1:Int)))) (([(x1).Box]:List Int))).bind fun v6=>
    bif v6 then
     (f87 ((0:Int)) ((1000:Int)) (([((x1).Yarn).Low,((x1).Yarn).High]:List Int))).bind fun y6=>
     bif y6 then
      some ((decide (((x1).Yarn).Low ≤ ((x1).Yarn).High)))
     else
      some (false)
    else
     some (false)
   else
    some (false)
  else
   some (false)
  ) fun d7=>
 some (d7)
theorem en84:Enters Try.prog 84:=enters_of Try.func84 (by kernel_rfl) rfl
theorem wk84 {gI:Gh} {wI:World} {x0:BoxBoxLoom} {x1:BoxShuttle} {up0:Value} (rp0:RV gI.m wI x0 up0) {up1:Value} (rp1:RV gI.m wI x1 up1) {r:Bool} (h:f84 x0 x1=some r):Fn Try.prog 84 #[up0,up1] gI wI (fun _ _ v=>v=.bool (r)):=by
 unfold f84 at h
 refine fn_of_E Try.func84 rfl (Nat.le_of_ble_eq_true rfl) fun g0 hm hfr=>?_
 have rp0:RV g0.m wI x0 up0:=hm ▸ rp0
 have rp1:RV g0.m wI x1 up1:=hm ▸ rp1
 show E _ 48 none _ _ _ _ _
 refine Zf (Za (Ze .plain rfl (D_box (g:=g0) rfl rp0 fun g1 w1 p1 hs q1=>?_)))
 have hfr:=hfr.ext hs
 have rp1:=rp1.ext hs
 refine Ze .plain rfl (D_box (g:=g1) rfl rp1 fun g2 w2 p2 hs q2=>?_)
 have hfr:=hfr.ext hs
 have q1:=q1.ext hs
 refine Zg (.bool false) rfl rfl ?_
 refine Zb (Zd ?_)
 obtain ⟨d7,hx,h⟩:=bsome h
 refine E_join (fun e w=>∃ (g:Gh) ,Fr gI wI g w∧e 4=.bool (d7)) (fun Q' hQ=>?_) (fun rC uC hR=>?_)
 ·replace h := hx
  clear hx
  have jA:=Zm (part_BoxShuttle_0).1 q2
  refine Zs (x:=.tmp 5) Try.isAgg3 Try.sizeOf3 jA fun vC mA i7=>?_
  obtain rfl:=Zj.1 mA
  obtain ⟨x5,j7,h⟩:=bsome h
  rcases Zt h with ⟨l5,h⟩ | ⟨l5,h⟩
  ·have pA := Zm (part_BoxShuttle_1).1 q2
   refine Zs (x:=.tmp 10) Try.isAgg3 Try.sizeOf3 pA fun aD qA v7=>?_
   obtain rfl:=Zj.1 qA
   obtain ⟨i6,g8,h⟩:=bsome h
   rcases Zt h with ⟨i3,h⟩ | ⟨i3,h⟩
   ·have k8 := Zm (part_BoxBoxLoom_0).1 q1
    have rA:=Zm (part_BoxLoom_0).1 k8
    refine Zs (x:=.tmp 17) Try.isAgg22 Try.sizeOf22 rA fun m7 l8 m8=>?_
    have yA:=Zm (part_BoxShuttle_1).1 q2
    refine Zs (x:=.tmp 19) Try.isAgg3 Try.sizeOf3 yA fun bD aB n8=>?_
    obtain rfl:=Zj.1 aB
    obtain ⟨a7,i8,h⟩:=bsome h
    have dB:=PT_idx l8 i8
    refine Zs (x:=.tmp 21) Try.isAgg3 Try.sizeOf3 dB fun cD iB q8=>?_
    obtain rfl:=Zj.1 iB
    have jB:=Zm (part_BoxShuttle_2).1 q2
    refine Zs (x:=.tmp 24) Try.isAgg3 Try.sizeOf3 jB fun eD lB r8=>?_
    obtain rfl:=Zj.1 lB
    obtain ⟨v6,t8,h⟩:=bsome h
    rcases Zt h with ⟨t5,h⟩ | ⟨t5,h⟩
    ·have x8 := Zm (part_BoxShuttle_3).1 q2
     have mB:=Zm (part_Span_0).1 x8
     refine Zs (x:=.tmp 31) Try.isAgg3 Try.sizeOf3 mB fun gD nB k9=>?_
     obtain rfl:=Zj.1 nB
     have a9:=Zm (part_BoxShuttle_3).1 q2
     have oB:=Zm (part_Span_1).1 a9
     refine Zs (x:=.tmp 34) Try.isAgg3 Try.sizeOf3 oB fun iD tB l9=>?_
     obtain rfl:=Zj.1 tB
     obtain ⟨y6,n9,h⟩:=bsome h
     rcases Zt h with ⟨x6,h⟩ | ⟨x6,h⟩
     ·have u9 := Zm (part_BoxShuttle_3).1 q2
      have vB:=Zm (part_Span_0).1 u9
      refine Zs (x:=.tmp 41) Try.isAgg3 Try.sizeOf3 vB fun jD yB gA=>?_
      obtain rfl:=Zj.1 yB
      have y9:=Zm (part_BoxShuttle_3).1 q2
      have zB:=Zm (part_Span_1).1 y9
      refine Zs (x:=.tmp 44) Try.isAgg3 Try.sizeOf3 zB fun kD aC iA=>?_
      obtain rfl:=Zj.1 aC
      refine E_drawL (g:=g2) (n:=44) [(2,(fun v g w=>RV g.m w ([(x1).Colour]:List Int) v∧OS 3007 g w 3 ([(x1).Colour]:List Int) v∧FullV v)),(3,(fun v g w=>v=.bool (x5))),(7,(fun v g w=>RV g.m w ([(x1).Side]:List Int) v∧OS 3012 g w 3 ([(x1).Side]:List Int) v∧FullV v)),(8,(fun v g w=>v=.bool (i6))),(21,(fun v g w=>RV g.m w ([(x1).Box]:List Int) v∧OS 3026 g w 3 ([(x1).Box]:List Int) v∧FullV v)),(22,(fun v g w=>v=.bool (v6))),(31,(fun v g w=>RV g.m w ([((x1).Yarn).Low,((x1).Yarn).High]:List Int) v∧OS 3036 g w 3 ([((x1).Yarn).Low,((x1).Yarn).High]:List Int) v∧FullV v)),(32,(fun v g w=>v=.bool (y6)))] [0,1,2,3,4,5,6,7,8,9,10,11,12,13,14,15,16,17,18,19,20,21,22,23,24,25,26,27,28,29,30,31,32,33,34,35,36,37,38,39,40,41,42,43] rfl mixed (by kernel_rfl) (⟨fun _=>up_and up_rv (up_and up_os (up_eq _)),fun _=>up_eq _,fun _=>up_and up_rv (up_and up_os (up_eq _)),fun _=>up_eq _,fun _=>up_and up_rv (up_and up_os (up_eq _)),fun _=>up_eq _,fun _=>up_and up_rv (up_and up_os (up_eq _)),fun _=>up_eq _,trivial⟩) ?_
      refine L_p (fPtr p2 0) rfl rfl (Zc at_87_0 rfl (PT.ptr q2)) ?_
      refine L_ld (c:=.int .i64 ((x1).Colour)) rfl rfl .plain (fun _ _ h=>h.ch) i7 rfl ?_
      refine L_do (φ:=fun v g w=>RV g.m w ([(x1).Colour]:List Int) v∧OS 3007 g w 3 ([(x1).Colour]:List Int) v∧FullV v) rfl rfl .plain (fun g w hd=>D_buildSlice (g:=g) 3007 (xs:=([(x1).Colour]:List Int)) (vs:=[.int .i64 ((x1).Colour)]) Try.underlying22 Try.sizeOf3 Try.zeroValue3 rfl rfl (.cons rfl .nil) (RVs.cons (Zj.2 rfl) RVs.nil) rfl rfl fun g' w' v hs o r hxt hfl=>⟨g',hxt,r,o,hfl⟩) (fun o0 hv=>?_)
      clear hv
      refine L_do (φ:=fun v g w=>v=.bool (x5)) rfl rfl .plain (fun g w hd=>Zp (g:=g) (vs:=[.int .i64 (0),.int .i64 (9),o0]) en87 (.cons rfl (.cons rfl (.cons rfl .nil))) (wk87 (word (A:=fun g w=>RV g.m w ([(x1).Colour]:List Int) o0∧OS 3007 g w 3 ([(x1).Colour]:List Int) o0∧FullV o0) 2 rfl rfl (deps_of hd)).1 j7) fun g' w' v hs hr=>⟨g',hs,hr⟩) (fun v8 hv=>?_)
      obtain ⟨_,_,_,rfl⟩:=hv
      refine L_p (.bool (x5)) rfl rfl (Zk rfl) ?_
      refine L_y (fPtr p2 1) rfl rfl rfl rfl l5 (Zc at_87_1 rfl (PT.ptr q2)) ?_
      refine L_ld (c:=.int .i64 ((x1).Side)) rfl rfl (.yes2 rfl rfl l5) (fun _ _ h=>h.ch) v7 rfl ?_
      refine L_do (φ:=fun v g w=>RV g.m w ([(x1).Side]:List Int) v∧OS 3012 g w 3 ([(x1).Side]:List Int) v∧FullV v) rfl rfl (.yes2 rfl rfl l5) (fun g w hd=>D_buildSlice (g:=g) 3012 (xs:=([(x1).Side]:List Int)) (vs:=[.int .i64 ((x1).Side)]) Try.underlying22 Try.sizeOf3 Try.zeroValue3 rfl rfl (.cons rfl .nil) (RVs.cons (Zj.2 rfl) RVs.nil) rfl rfl fun g' w' v hs o r hxt hfl=>⟨g',hxt,r,o,hfl⟩) (fun u3 hv=>?_)
      clear hv
      refine L_do (φ:=fun v g w=>v=.bool (i6)) rfl rfl (.yes2 rfl rfl l5) (fun g w hd=>Zp (g:=g) (vs:=[.int .i64 (0),.int .i64 (1),u3]) en87 (.cons rfl (.cons rfl (.cons rfl .nil))) (wk87 (word (A:=fun g w=>RV g.m w ([(x1).Side]:List Int) u3∧OS 3012 g w 3 ([(x1).Side]:List Int) u3∧FullV u3) 7 rfl rfl (deps_of hd)).1 g8) fun g' w' v hs hr=>⟨g',hs,hr⟩) (fun d9 hv=>?_)
      obtain ⟨_,_,_,rfl⟩:=hv
      refine L_p (.bool (i6)) rfl rfl (Zl (b:=x5) rfl (pick_t l5 rfl)) ?_
      refine L_p (.bool (i6)) rfl rfl (Zk rfl) ?_
      refine L_y (fPtr p1 0) rfl rfl rfl rfl i3 (Zc at_102_0 rfl (PT.ptr q1)) ?_
      refine L_y (fPtr (fPtr p1 0) 0) rfl rfl rfl rfl i3 (Zc at_25_0 rfl (PT.ptr k8)) ?_
      refine L_ld (c:=m7) rfl rfl (.yes2 rfl rfl i3) (fun _ _ h=>h.ch) m8 rfl ?_
      refine L_y (fPtr p2 1) rfl rfl rfl rfl i3 (Zc at_87_1 rfl (PT.ptr q2)) ?_
      refine L_ld (c:=.int .i64 ((x1).Side)) rfl rfl (.yes2 rfl rfl i3) (fun _ _ h=>h.ch) n8 rfl ?_
      refine L_y (ePtr m7 (x1).Side 1) rfl rfl rfl rfl i3 (Zh (α:=Int) Try.underlying22 Try.sizeOf3 rfl l8 rfl i8) ?_
      refine L_ld (c:=.int .i64 (a7)) rfl rfl (.yes2 rfl rfl i3) (fun _ _ h=>h.ch) q8 rfl ?_
      refine L_y (.int .i64 ((w64 (a7 - (1:Int))))) rfl rfl rfl rfl i3 (P_int rfl rfl rfl) ?_
      refine L_y (fPtr p2 2) rfl rfl rfl rfl i3 (Zc at_87_2 rfl (PT.ptr q2)) ?_
      refine L_ld (c:=.int .i64 ((x1).Box)) rfl rfl (.yes2 rfl rfl i3) (fun _ _ h=>h.ch) r8 rfl ?_
      refine L_do (φ:=fun v g w=>RV g.m w ([(x1).Box]:List Int) v∧OS 3026 g w 3 ([(x1).Box]:List Int) v∧FullV v) rfl rfl (.yes2 rfl rfl i3) (fun g w hd=>D_buildSlice (g:=g) 3026 (xs:=([(x1).Box]:List Int)) (vs:=[.int .i64 ((x1).Box)]) Try.underlying22 Try.sizeOf3 Try.zeroValue3 rfl rfl (.cons rfl .nil) (RVs.cons (Zj.2 rfl) RVs.nil) rfl rfl fun g' w' v hs o r hxt hfl=>⟨g',hxt,r,o,hfl⟩) (fun i5 hv=>?_)
      clear hv
      refine L_do (φ:=fun v g w=>v=.bool (v6)) rfl rfl (.yes2 rfl rfl i3) (fun g w hd=>Zp (g:=g) (vs:=[.int .i64 (0),.int .i64 ((w64 (a7 - (1:Int)))),i5]) en87 (.cons rfl (.cons rfl (.cons rfl .nil))) (wk87 (word (A:=fun g w=>RV g.m w ([(x1).Box]:List Int) i5∧OS 3026 g w 3 ([(x1).Box]:List Int) i5∧FullV i5) 21 rfl rfl (deps_of hd)).1 t8) fun g' w' v hs hr=>⟨g',hs,hr⟩) (fun z9 hv=>?_)
      obtain ⟨_,_,_,rfl⟩:=hv
      refine L_p (.bool (v6)) rfl rfl (Zl (b:=i6) rfl (pick_t i3 rfl)) ?_
      refine L_p (.bool (v6)) rfl rfl (Zk rfl) ?_
      refine L_y (fPtr p2 3) rfl rfl rfl rfl t5 (Zc at_87_3 rfl (PT.ptr q2)) ?_
      refine L_y (fPtr (fPtr p2 3) 0) rfl rfl rfl rfl t5 (Zc at_85_0 rfl (PT.ptr x8)) ?_
      refine L_ld (c:=.int .i64 (((x1).Yarn).Low)) rfl rfl (.yes2 rfl rfl t5) (fun _ _ h=>h.ch) k9 rfl ?_
      refine L_y (fPtr p2 3) rfl rfl rfl rfl t5 (Zc at_87_3 rfl (PT.ptr q2)) ?_
      refine L_y (fPtr (fPtr p2 3) 1) rfl rfl rfl rfl t5 (Zc at_85_1 rfl (PT.ptr a9)) ?_
      refine L_ld (c:=.int .i64 (((x1).Yarn).High)) rfl rfl (.yes2 rfl rfl t5) (fun _ _ h=>h.ch) l9 rfl ?_
      refine L_do (φ:=fun v g w=>RV g.m w ([((x1).Yarn).Low,((x1).Yarn).High]:List Int) v∧OS 3036 g w 3 ([((x1).Yarn).Low,((x1).Yarn).High]:List Int) v∧FullV v) rfl rfl (.yes2 rfl rfl t5) (fun g w hd=>D_buildSlice (g:=g) 3036 (xs:=([((x1).Yarn).Low,((x1).Yarn).High]:List Int)) (vs:=[.int .i64 (((x1).Yarn).Low),.int .i64 (((x1).Yarn).High)]) Try.underlying22 Try.sizeOf3 Try.zeroValue3 rfl rfl (.cons rfl (.cons rfl .nil)) (RVs.cons (Zj.2 rfl) (RVs.cons (Zj.2 rfl) RVs.nil)) rfl rfl fun g' w' v hs o r hxt hfl=>⟨g',hxt,r,o,hfl⟩) (fun j6 hv=>?_)
      clear hv
      refine L_do (φ:=fun v g w=>v=.bool (y6)) rfl rfl (.yes2 rfl rfl t5) (fun g w hd=>Zp (g:=g) (vs:=[.int .i64 (0),.int .i64 (1000),j6]) en87 (.cons rfl (.cons rfl (.cons rfl .nil))) (wk87 (word (A:=fun g w=>RV g.m w ([((x1).Yarn).Low,((x1).Yarn).High]:List Int) j6∧OS 3036 g w 3 ([((x1).Yarn).Low,((x1).Yarn).High]:List Int) j6∧FullV j6) 31 rfl rfl (deps_of hd)).1 n9) fun g' w' v hs hr=>⟨g',hs,hr⟩) (fun cC hv=>?_)
      obtain ⟨_,_,_,rfl⟩:=hv
      refine L_p (.bool (y6)) rfl rfl (Zl (b:=v6) rfl (pick_t t5 rfl)) ?_
      refine L_p (.bool (y6)) rfl rfl (Zk rfl) ?_
      refine L_y (fPtr p2 3) rfl rfl rfl rfl x6 (Zc at_87_3 rfl (PT.ptr q2)) ?_
      refine L_y (fPtr (fPtr p2 3) 0) rfl rfl rfl rfl x6 (Zc at_85_0 rfl (PT.ptr u9)) ?_
      refine L_ld (c:=.int .i64 (((x1).Yarn).Low)) rfl rfl (.yes2 rfl rfl x6) (fun _ _ h=>h.ch) gA rfl ?_
      refine L_y (fPtr p2 3) rfl rfl rfl rfl x6 (Zc at_87_3 rfl (PT.ptr q2)) ?_
      refine L_y (fPtr (fPtr p2 3) 1) rfl rfl rfl rfl x6 (Zc at_85_1 rfl (PT.ptr y9)) ?_
      refine L_ld (c:=.int .i64 (((x1).Yarn).High)) rfl rfl (.yes2 rfl rfl x6) (fun _ _ h=>h.ch) iA rfl ?_
      refine L_y (.bool ((decide (((x1).Yarn).Low ≤ ((x1).Yarn).High)))) rfl rfl rfl rfl x6 (P_int rfl rfl rfl) ?_
      refine L_p (.bool ((decide (((x1).Yarn).Low ≤ ((x1).Yarn).High)))) rfl rfl (Zl (b:=y6) rfl (pick_t x6 rfl)) ?_
      refine L_p (.bool ((decide (((x1).Yarn).Low ≤ ((x1).Yarn).High)))) rfl rfl (P_assign rfl) ?_
      refine L_nil fun eC lD hall=>?_
      have hs:=hall.1
      have hfr:=hfr.ext hs
      have mD:=(word_all (A:=fun g w=>RV g.m w ([(x1).Colour]:List Int) o0∧OS 3007 g w 3 ([(x1).Colour]:List Int) o0∧FullV o0) 2 rfl hall).1
      have o341:=(word_all (A:=fun g w=>RV g.m w ([(x1).Colour]:List Int) o0∧OS 3007 g w 3 ([(x1).Colour]:List Int) o0∧FullV o0) 2 rfl hall).2.1
      have nD:=(word_all (A:=fun g w=>RV g.m w ([(x1).Side]:List Int) u3∧OS 3012 g w 3 ([(x1).Side]:List Int) u3∧FullV u3) 7 rfl hall).1
      have o346:=(word_all (A:=fun g w=>RV g.m w ([(x1).Side]:List Int) u3∧OS 3012 g w 3 ([(x1).Side]:List Int) u3∧FullV u3) 7 rfl hall).2.1
      have oD:=(word_all (A:=fun g w=>RV g.m w ([(x1).Box]:List Int) i5∧OS 3026 g w 3 ([(x1).Box]:List Int) i5∧FullV i5) 21 rfl hall).1
      have o360:=(word_all (A:=fun g w=>RV g.m w ([(x1).Box]:List Int) i5∧OS 3026 g w 3 ([(x1).Box]:List Int) i5∧FullV i5) 21 rfl hall).2.1
      have sD:=(word_all (A:=fun g w=>RV g.m w ([((x1).Yarn).Low,((x1).Yarn).High]:List Int) j6∧OS 3036 g w 3 ([((x1).Yarn).Low,((x1).Yarn).High]:List Int) j6∧FullV j6) 31 rfl hall).1
      have o370:=(word_all (A:=fun g w=>RV g.m w ([((x1).Yarn).Low,((x1).Yarn).High]:List Int) j6∧OS 3036 g w 3 ([((x1).Yarn).Low,((x1).Yarn).High]:List Int) j6∧FullV j6) 31 rfl hall).2.1
      clear hs hall
      refine Zb ?_
      obtain rfl:=sinj h
      exact hQ _ _ ⟨eC,hfr,rfl⟩
     ·refine E_drawL (g := g2) (n := 44) [(2, (fun v g w => RV g.m w ([(x1).Colour] : List Int) v ∧ OS 3007 g w 3 ([(x1).Colour] : List Int) v ∧ FullV v)), (3, (fun v g w => v = .bool (x5))), (7, (fun v g w => RV g.m w ([(x1).Side] : List Int) v ∧ OS 3012 g w 3 ([(x1).Side] : List Int) v ∧ FullV v)), (8, (fun v g w => v = .bool (i6))), (21, (fun v g w => RV g.m w ([(x1).Box] : List Int) v ∧ OS 3026 g w 3 ([(x1).Box] : List Int) v ∧ FullV v)), (22, (fun v g w => v = .bool (v6))), (31, (fun v g w => RV g.m w ([((x1).Yarn).Low, ((x1).Yarn).High] : List Int) v ∧ OS 3036 g w 3 ([((x1).Yarn).Low, ((x1).Yarn).High] : List Int) v ∧ FullV v)), (32, (fun v g w => v = .bool (y6)))] [0, 1, 2, 3, 4, 5, 6, 7, 8, 9, 10, 11, 12, 13, 14, 15, 16, 17, 18, 19, 20, 21, 22, 23, 24, 25, 26, 27, 28, 29, 30, 31, 32, 33, 34, 35, 36, 37, 38, 39, 40, 41, 42, 43] rfl mixed (by kernel_rfl) (⟨fun _ => up_and up_rv (up_and up_os (up_eq _)), fun _ => up_eq _, fun _ => up_and up_rv (up_and up_os (up_eq _)), fun _ => up_eq _, fun _ => up_and up_rv (up_and up_os (up_eq _)), fun _ => up_eq _, fun _ => up_and up_rv (up_and up_os (up_eq _)), fun _ => up_eq _, trivial⟩) ?_
      refine L_p (fPtr p2 0) rfl rfl (Zc at_87_0 rfl (PT.ptr q2)) ?_
      refine L_ld (c:=.int .i64 ((x1).Colour)) rfl rfl .plain (fun _ _ h=>h.ch) i7 rfl ?_
      refine L_do (φ:=fun v g w=>RV g.m w ([(x1).Colour]:List Int) v∧OS 3007 g w 3 ([(x1).Colour]:List Int) v∧FullV v) rfl rfl .plain (fun g w hd=>D_buildSlice (g:=g) 3007 (xs:=([(x1).Colour]:List Int)) (vs:=[.int .i64 ((x1).Colour)]) Try.underlying22 Try.sizeOf3 Try.zeroValue3 rfl rfl (.cons rfl .nil) (RVs.cons (Zj.2 rfl) RVs.nil) rfl rfl fun g' w' v hs o r hxt hfl=>⟨g',hxt,r,o,hfl⟩) (fun o0 hv=>?_)
      clear hv
      refine L_do (φ:=fun v g w=>v=.bool (x5)) rfl rfl .plain (fun g w hd=>Zp (g:=g) (vs:=[.int .i64 (0),.int .i64 (9),o0]) en87 (.cons rfl (.cons rfl (.cons rfl .nil))) (wk87 (word (A:=fun g w=>RV g.m w ([(x1).Colour]:List Int) o0∧OS 3007 g w 3 ([(x1).Colour]:List Int) o0∧FullV o0) 2 rfl rfl (deps_of hd)).1 j7) fun g' w' v hs hr=>⟨g',hs,hr⟩) (fun v8 hv=>?_)
      obtain ⟨_,_,_,rfl⟩:=hv
      refine L_p (.bool (x5)) rfl rfl (Zk rfl) ?_
      refine L_y (fPtr p2 1) rfl rfl rfl rfl l5 (Zc at_87_1 rfl (PT.ptr q2)) ?_
      refine L_ld (c:=.int .i64 ((x1).Side)) rfl rfl (.yes2 rfl rfl l5) (fun _ _ h=>h.ch) v7 rfl ?_
      refine L_do (φ:=fun v g w=>RV g.m w ([(x1).Side]:List Int) v∧OS 3012 g w 3 ([(x1).Side]:List Int) v∧FullV v) rfl rfl (.yes2 rfl rfl l5) (fun g w hd=>D_buildSlice (g:=g) 3012 (xs:=([(x1).Side]:List Int)) (vs:=[.int .i64 ((x1).Side)]) Try.underlying22 Try.sizeOf3 Try.zeroValue3 rfl rfl (.cons rfl .nil) (RVs.cons (Zj.2 rfl) RVs.nil) rfl rfl fun g' w' v hs o r hxt hfl=>⟨g',hxt,r,o,hfl⟩) (fun u3 hv=>?_)
      clear hv
      refine L_do (φ:=fun v g w=>v=.bool (i6)) rfl rfl (.yes2 rfl rfl l5) (fun g w hd=>Zp (g:=g) (vs:=[.int .i64 (0),.int .i64 (1),u3]) en87 (.cons rfl (.cons rfl (.cons rfl .nil))) (wk87 (word (A:=fun g w=>RV g.m w ([(x1).Side]:List Int) u3∧OS 3012 g w 3 ([(x1).Side]:List Int) u3∧FullV u3) 7 rfl rfl (deps_of hd)).1 g8) fun g' w' v hs hr=>⟨g',hs,hr⟩) (fun d9 hv=>?_)
      obtain ⟨_,_,_,rfl⟩:=hv
      refine L_p (.bool (i6)) rfl rfl (Zl (b:=x5) rfl (pick_t l5 rfl)) ?_
      refine L_p (.bool (i6)) rfl rfl (Zk rfl) ?_
      refine L_y (fPtr p1 0) rfl rfl rfl rfl i3 (Zc at_102_0 rfl (PT.ptr q1)) ?_
      refine L_y (fPtr (fPtr p1 0) 0) rfl rfl rfl rfl i3 (Zc at_25_0 rfl (PT.ptr k8)) ?_
      refine L_ld (c:=m7) rfl rfl (.yes2 rfl rfl i3) (fun _ _ h=>h.ch) m8 rfl ?_
      refine L_y (fPtr p2 1) rfl rfl rfl rfl i3 (Zc at_87_1 rfl (PT.ptr q2)) ?_
      refine L_ld (c:=.int .i64 ((x1).Side)) rfl rfl (.yes2 rfl rfl i3) (fun _ _ h=>h.ch) n8 rfl ?_
      refine L_y (ePtr m7 (x1).Side 1) rfl rfl rfl rfl i3 (Zh (α:=Int) Try.underlying22 Try.sizeOf3 rfl l8 rfl i8) ?_
      refine L_ld (c:=.int .i64 (a7)) rfl rfl (.yes2 rfl rfl i3) (fun _ _ h=>h.ch) q8 rfl ?_
      refine L_y (.int .i64 ((w64 (a7 - (1:Int))))) rfl rfl rfl rfl i3 (P_int rfl rfl rfl) ?_
      refine L_y (fPtr p2 2) rfl rfl rfl rfl i3 (Zc at_87_2 rfl (PT.ptr q2)) ?_
      refine L_ld (c:=.int .i64 ((x1).Box)) rfl rfl (.yes2 rfl rfl i3) (fun _ _ h=>h.ch) r8 rfl ?_
      refine L_do (φ:=fun v g w=>RV g.m w ([(x1).Box]:List Int) v∧OS 3026 g w 3 ([(x1).Box]:List Int) v∧FullV v) rfl rfl (.yes2 rfl rfl i3) (fun g w hd=>D_buildSlice (g:=g) 3026 (xs:=([(x1).Box]:List Int)) (vs:=[.int .i64 ((x1).Box)]) Try.underlying22 Try.sizeOf3 Try.zeroValue3 rfl rfl (.cons rfl .nil) (RVs.cons (Zj.2 rfl) RVs.nil) rfl rfl fun g' w' v hs o r hxt hfl=>⟨g',hxt,r,o,hfl⟩) (fun i5 hv=>?_)
      clear hv
      refine L_do (φ:=fun v g w=>v=.bool (v6)) rfl rfl (.yes2 rfl rfl i3) (fun g w hd=>Zp (g:=g) (vs:=[.int .i64 (0),.int .i64 ((w64 (a7 - (1:Int)))),i5]) en87 (.cons rfl (.cons rfl (.cons rfl .nil))) (wk87 (word (A:=fun g w=>RV g.m w ([(x1).Box]:List Int) i5∧OS 3026 g w 3 ([(x1).Box]:List Int) i5∧FullV i5) 21 rfl rfl (deps_of hd)).1 t8) fun g' w' v hs hr=>⟨g',hs,hr⟩) (fun z9 hv=>?_)
      obtain ⟨_,_,_,rfl⟩:=hv
      refine L_p (.bool (v6)) rfl rfl (Zl (b:=i6) rfl (pick_t i3 rfl)) ?_
      refine L_p (.bool (v6)) rfl rfl (Zk rfl) ?_
      refine L_y (fPtr p2 3) rfl rfl rfl rfl t5 (Zc at_87_3 rfl (PT.ptr q2)) ?_
      refine L_y (fPtr (fPtr p2 3) 0) rfl rfl rfl rfl t5 (Zc at_85_0 rfl (PT.ptr x8)) ?_
      refine L_ld (c:=.int .i64 (((x1).Yarn).Low)) rfl rfl (.yes2 rfl rfl t5) (fun _ _ h=>h.ch) k9 rfl ?_
      refine L_y (fPtr p2 3) rfl rfl rfl rfl t5 (Zc at_87_3 rfl (PT.ptr q2)) ?_
      refine L_y (fPtr (fPtr p2 3) 1) rfl rfl rfl rfl t5 (Zc at_85_1 rfl (PT.ptr a9)) ?_
      refine L_ld (c:=.int .i64 (((x1).Yarn).High)) rfl rfl (.yes2 rfl rfl t5) (fun _ _ h=>h.ch) l9 rfl ?_
      refine L_do (φ:=fun v g w=>RV g.m w ([((x1).Yarn).Low,((x1).Yarn).High]:List Int) v∧OS 3036 g w 3 ([((x1).Yarn).Low,((x1).Yarn).High]:List Int) v∧FullV v) rfl rfl (.yes2 rfl rfl t5) (fun g w hd=>D_buildSlice (g:=g) 3036 (xs:=([((x1).Yarn).Low,((x1).Yarn).High]:List Int)) (vs:=[.int .i64 (((x1).Yarn).Low),.int .i64 (((x1).Yarn).High)]) Try.underlying22 Try.sizeOf3 Try.zeroValue3 rfl rfl (.cons rfl (.cons rfl .nil)) (RVs.cons (Zj.2 rfl) (RVs.cons (Zj.2 rfl) RVs.nil)) rfl rfl fun g' w' v hs o r hxt hfl=>⟨g',hxt,r,o,hfl⟩) (fun j6 hv=>?_)
      clear hv
      refine L_do (φ:=fun v g w=>v=.bool (y6)) rfl rfl (.yes2 rfl rfl t5) (fun g w hd=>Zp (g:=g) (vs:=[.int .i64 (0),.int .i64 (1000),j6]) en87 (.cons rfl (.cons rfl (.cons rfl .nil))) (wk87 (word (A:=fun g w=>RV g.m w ([((x1).Yarn).Low,((x1).Yarn).High]:List Int) j6∧OS 3036 g w 3 ([((x1).Yarn).Low,((x1).Yarn).High]:List Int) j6∧FullV j6) 31 rfl rfl (deps_of hd)).1 n9) fun g' w' v hs hr=>⟨g',hs,hr⟩) (fun cC hv=>?_)
      obtain ⟨_,_,_,rfl⟩:=hv
      refine L_p (.bool (y6)) rfl rfl (Zl (b:=v6) rfl (pick_t t5 rfl)) ?_
      refine L_p (.bool (y6)) rfl rfl (Zk rfl) ?_
      iterate 7 refine L_s rfl rfl rfl x6 rfl ?_
      refine L_p (.bool false) rfl rfl (Zl (b:=y6) rfl (pick_f x6 rfl)) ?_
      refine L_p (.bool false) rfl rfl (P_assign rfl) ?_
      refine L_nil fun iC tD hall=>?_
      have hs:=hall.1
      have hfr:=hfr.ext hs
      have uD:=(word_all (A:=fun g w=>RV g.m w ([(x1).Colour]:List Int) o0∧OS 3007 g w 3 ([(x1).Colour]:List Int) o0∧FullV o0) 2 rfl hall).1
      have o390:=(word_all (A:=fun g w=>RV g.m w ([(x1).Colour]:List Int) o0∧OS 3007 g w 3 ([(x1).Colour]:List Int) o0∧FullV o0) 2 rfl hall).2.1
      have vD:=(word_all (A:=fun g w=>RV g.m w ([(x1).Side]:List Int) u3∧OS 3012 g w 3 ([(x1).Side]:List Int) u3∧FullV u3) 7 rfl hall).1
      have o395:=(word_all (A:=fun g w=>RV g.m w ([(x1).Side]:List Int) u3∧OS 3012 g w 3 ([(x1).Side]:List Int) u3∧FullV u3) 7 rfl hall).2.1
      have xD:=(word_all (A:=fun g w=>RV g.m w ([(x1).Box]:List Int) i5∧OS 3026 g w 3 ([(x1).Box]:List Int) i5∧FullV i5) 21 rfl hall).1
      have o409:=(word_all (A:=fun g w=>RV g.m w ([(x1).Box]:List Int) i5∧OS 3026 g w 3 ([(x1).Box]:List Int) i5∧FullV i5) 21 rfl hall).2.1
      have yD:=(word_all (A:=fun g w=>RV g.m w ([((x1).Yarn).Low,((x1).Yarn).High]:List Int) j6∧OS 3036 g w 3 ([((x1).Yarn).Low,((x1).Yarn).High]:List Int) j6∧FullV j6) 31 rfl hall).1
      have o419:=(word_all (A:=fun g w=>RV g.m w ([((x1).Yarn).Low,((x1).Yarn).High]:List Int) j6∧OS 3036 g w 3 ([((x1).Yarn).Low,((x1).Yarn).High]:List Int) j6∧FullV j6) 31 rfl hall).2.1
      clear hs hall
      refine Zb ?_
      obtain rfl:=sinj h
      exact hQ _ _ ⟨iC,hfr,rfl⟩
    ·refine E_drawL (g := g2) (n := 44) [(2, (fun v g w => RV g.m w ([(x1).Colour] : List Int) v ∧ OS 3007 g w 3 ([(x1).Colour] : List Int) v ∧ FullV v)), (3, (fun v g w => v = .bool (x5))), (7, (fun v g w => RV g.m w ([(x1).Side] : List Int) v ∧ OS 3012 g w 3 ([(x1).Side] : List Int) v ∧ FullV v)), (8, (fun v g w => v = .bool (i6))), (21, (fun v g w => RV g.m w ([(x1).Box] : List Int) v ∧ OS 3026 g w 3 ([(x1).Box] : List Int) v ∧ FullV v)), (22, (fun v g w => v = .bool (v6)))] [0, 1, 2, 3, 4, 5, 6, 7, 8, 9, 10, 11, 12, 13, 14, 15, 16, 17, 18, 19, 20, 21, 22, 23, 24, 25, 26, 27, 28, 29, 30, 31, 32, 33, 34, 35, 36, 37, 38, 39, 40, 41, 42, 43] rfl mixed (by kernel_rfl) (⟨fun _ => up_and up_rv (up_and up_os (up_eq _)), fun _ => up_eq _, fun _ => up_and up_rv (up_and up_os (up_eq _)), fun _ => up_eq _, fun _ => up_and up_rv (up_and up_os (up_eq _)), fun _ => up_eq _, trivial⟩) ?_
     refine L_p (fPtr p2 0) rfl rfl (Zc at_87_0 rfl (PT.ptr q2)) ?_
     refine L_ld (c:=.int .i64 ((x1).Colour)) rfl rfl .plain (fun _ _ h=>h.ch) i7 rfl ?_
     refine L_do (φ:=fun v g w=>RV g.m w ([(x1).Colour]:List Int) v∧OS 3007 g w 3 ([(x1).Colour]:List Int) v∧FullV v) rfl rfl .plain (fun g w hd=>D_buildSlice (g:=g) 3007 (xs:=([(x1).Colour]:List Int)) (vs:=[.int .i64 ((x1).Colour)]) Try.underlying22 Try.sizeOf3 Try.zeroValue3 rfl rfl (.cons rfl .nil) (RVs.cons (Zj.2 rfl) RVs.nil) rfl rfl fun g' w' v hs o r hxt hfl=>⟨g',hxt,r,o,hfl⟩) (fun o0 hv=>?_)
     clear hv
     refine L_do (φ:=fun v g w=>v=.bool (x5)) rfl rfl .plain (fun g w hd=>Zp (g:=g) (vs:=[.int .i64 (0),.int .i64 (9),o0]) en87 (.cons rfl (.cons rfl (.cons rfl .nil))) (wk87 (word (A:=fun g w=>RV g.m w ([(x1).Colour]:List Int) o0∧OS 3007 g w 3 ([(x1).Colour]:List Int) o0∧FullV o0) 2 rfl rfl (deps_of hd)).1 j7) fun g' w' v hs hr=>⟨g',hs,hr⟩) (fun v8 hv=>?_)
     obtain ⟨_,_,_,rfl⟩:=hv
     refine L_p (.bool (x5)) rfl rfl (Zk rfl) ?_
     refine L_y (fPtr p2 1) rfl rfl rfl rfl l5 (Zc at_87_1 rfl (PT.ptr q2)) ?_
     refine L_ld (c:=.int .i64 ((x1).Side)) rfl rfl (.yes2 rfl rfl l5) (fun _ _ h=>h.ch) v7 rfl ?_
     refine L_do (φ:=fun v g w=>RV g.m w ([(x1).Side]:List Int) v∧OS 3012 g w 3 ([(x1).Side]:List Int) v∧FullV v) rfl rfl (.yes2 rfl rfl l5) (fun g w hd=>D_buildSlice (g:=g) 3012 (xs:=([(x1).Side]:List Int)) (vs:=[.int .i64 ((x1).Side)]) Try.underlying22 Try.sizeOf3 Try.zeroValue3 rfl rfl (.cons rfl .nil) (RVs.cons (Zj.2 rfl) RVs.nil) rfl rfl fun g' w' v hs o r hxt hfl=>⟨g',hxt,r,o,hfl⟩) (fun u3 hv=>?_)
     clear hv
     refine L_do (φ:=fun v g w=>v=.bool (i6)) rfl rfl (.yes2 rfl rfl l5) (fun g w hd=>Zp (g:=g) (vs:=[.int .i64 (0),.int .i64 (1),u3]) en87 (.cons rfl (.cons rfl (.cons rfl .nil))) (wk87 (word (A:=fun g w=>RV g.m w ([(x1).Side]:List Int) u3∧OS 3012 g w 3 ([(x1).Side]:List Int) u3∧FullV u3) 7 rfl rfl (deps_of hd)).1 g8) fun g' w' v hs hr=>⟨g',hs,hr⟩) (fun d9 hv=>?_)
     obtain ⟨_,_,_,rfl⟩:=hv
     refine L_p (.bool (i6)) rfl rfl (Zl (b:=x5) rfl (pick_t l5 rfl)) ?_
     refine L_p (.bool (i6)) rfl rfl (Zk rfl) ?_
     refine L_y (fPtr p1 0) rfl rfl rfl rfl i3 (Zc at_102_0 rfl (PT.ptr q1)) ?_
     refine L_y (fPtr (fPtr p1 0) 0) rfl rfl rfl rfl i3 (Zc at_25_0 rfl (PT.ptr k8)) ?_
     refine L_ld (c:=m7) rfl rfl (.yes2 rfl rfl i3) (fun _ _ h=>h.ch) m8 rfl ?_
     refine L_y (fPtr p2 1) rfl rfl rfl rfl i3 (Zc at_87_1 rfl (PT.ptr q2)) ?_
     refine L_ld (c:=.int .i64 ((x1).Side)) rfl rfl (.yes2 rfl rfl i3) (fun _ _ h=>h.ch) n8 rfl ?_
     refine L_y (ePtr m7 (x1).Side 1) rfl rfl rfl rfl i3 (Zh (α:=Int) Try.underlying22 Try.sizeOf3 rfl l8 rfl i8) ?_
     refine L_ld (c:=.int .i64 (a7)) rfl rfl (.yes2 rfl rfl i3) (fun _ _ h=>h.ch) q8 rfl ?_
     refine L_y (.int .i64 ((w64 (a7 - (1:Int))))) rfl rfl rfl rfl i3 (P_int rfl rfl rfl) ?_
     refine L_y (fPtr p2 2) rfl rfl rfl rfl i3 (Zc at_87_2 rfl (PT.ptr q2)) ?_
     refine L_ld (c:=.int .i64 ((x1).Box)) rfl rfl (.yes2 rfl rfl i3) (fun _ _ h=>h.ch) r8 rfl ?_
     refine L_do (φ:=fun v g w=>RV g.m w ([(x1).Box]:List Int) v∧OS 3026 g w 3 ([(x1).Box]:List Int) v∧FullV v) rfl rfl (.yes2 rfl rfl i3) (fun g w hd=>D_buildSlice (g:=g) 3026 (xs:=([(x1).Box]:List Int)) (vs:=[.int .i64 ((x1).Box)]) Try.underlying22 Try.sizeOf3 Try.zeroValue3 rfl rfl (.cons rfl .nil) (RVs.cons (Zj.2 rfl) RVs.nil) rfl rfl fun g' w' v hs o r hxt hfl=>⟨g',hxt,r,o,hfl⟩) (fun i5 hv=>?_)
     clear hv
     refine L_do (φ:=fun v g w=>v=.bool (v6)) rfl rfl (.yes2 rfl rfl i3) (fun g w hd=>Zp (g:=g) (vs:=[.int .i64 (0),.int .i64 ((w64 (a7 - (1:Int)))),i5]) en87 (.cons rfl (.cons rfl (.cons rfl .nil))) (wk87 (word (A:=fun g w=>RV g.m w ([(x1).Box]:List Int) i5∧OS 3026 g w 3 ([(x1).Box]:List Int) i5∧FullV i5) 21 rfl rfl (deps_of hd)).1 t8) fun g' w' v hs hr=>⟨g',hs,hr⟩) (fun z9 hv=>?_)
     obtain ⟨_,_,_,rfl⟩:=hv
     refine L_p (.bool (v6)) rfl rfl (Zl (b:=i6) rfl (pick_t i3 rfl)) ?_
     refine L_p (.bool (v6)) rfl rfl (Zk rfl) ?_
     iterate 8 refine L_s rfl rfl rfl t5 rfl ?_
     refine L_p (.bool false) rfl rfl (Zl (b:=v6) rfl (pick_f t5 rfl)) ?_
     refine L_dead (fun _=>rfl) 9 rfl ?_
     refine L_p (.bool false) rfl rfl (P_assign rfl) ?_
     refine L_nil fun lC zD hall=>?_
     have hs:=hall.1
     have hfr:=hfr.ext hs
     have aE:=(word_all (A:=fun g w=>RV g.m w ([(x1).Colour]:List Int) o0∧OS 3007 g w 3 ([(x1).Colour]:List Int) o0∧FullV o0) 2 rfl hall).1
     have o439:=(word_all (A:=fun g w=>RV g.m w ([(x1).Colour]:List Int) o0∧OS 3007 g w 3 ([(x1).Colour]:List Int) o0∧FullV o0) 2 rfl hall).2.1
     have bE:=(word_all (A:=fun g w=>RV g.m w ([(x1).Side]:List Int) u3∧OS 3012 g w 3 ([(x1).Side]:List Int) u3∧FullV u3) 7 rfl hall).1
     have o444:=(word_all (A:=fun g w=>RV g.m w ([(x1).Side]:List Int) u3∧OS 3012 g w 3 ([(x1).Side]:List Int) u3∧FullV u3) 7 rfl hall).2.1
     have cE:=(word_all (A:=fun g w=>RV g.m w ([(x1).Box]:List Int) i5∧OS 3026 g w 3 ([(x1).Box]:List Int) i5∧FullV i5) 21 rfl hall).1
     have o458:=(word_all (A:=fun g w=>RV g.m w ([(x1).Box]:List Int) i5∧OS 3026 g w 3 ([(x1).Box]:List Int) i5∧FullV i5) 21 rfl hall).2.1
     clear hs hall
     refine Zb ?_
     obtain rfl:=sinj h
     exact hQ _ _ ⟨lC,hfr,rfl⟩
   ·refine E_drawL (g := g2) (n := 44) [(2, (fun v g w => RV g.m w ([(x1).Colour] : List Int) v ∧ OS 3007 g w 3 ([(x1).Colour] : List Int) v ∧ FullV v)), (3, (fun v g w => v = .bool (x5))), (7, (fun v g w => RV g.m w ([(x1).Side] : List Int) v ∧ OS 3012 g w 3 ([(x1).Side] : List Int) v ∧ FullV v)), (8, (fun v g w => v = .bool (i6)))] [0, 1, 2, 3, 4, 5, 6, 7, 8, 9, 10, 11, 12, 13, 14, 15, 16, 17, 18, 19, 20, 21, 22, 23, 24, 25, 26, 27, 28, 29, 30, 31, 32, 33, 34, 35, 36, 37, 38, 39, 40, 41, 42, 43] rfl mixed (by kernel_rfl) (⟨fun _ => up_and up_rv (up_and up_os (up_eq _)), fun _ => up_eq _, fun _ => up_and up_rv (up_and up_os (up_eq _)), fun _ => up_eq _, trivial⟩) ?_
    refine L_p (fPtr p2 0) rfl rfl (Zc at_87_0 rfl (PT.ptr q2)) ?_
    refine L_ld (c:=.int .i64 ((x1).Colour)) rfl rfl .plain (fun _ _ h=>h.ch) i7 rfl ?_
    refine L_do (φ:=fun v g w=>RV g.m w ([(x1).Colour]:List Int) v∧OS 3007 g w 3 ([(x1).Colour]:List Int) v∧FullV v) rfl rfl .plain (fun g w hd=>D_buildSlice (g:=g) 3007 (xs:=([(x1).Colour]:List Int)) (vs:=[.int .i64 ((x1).Colour)]) Try.underlying22 Try.sizeOf3 Try.zeroValue3 rfl rfl (.cons rfl .nil) (RVs.cons (Zj.2 rfl) RVs.nil) rfl rfl fun g' w' v hs o r hxt hfl=>⟨g',hxt,r,o,hfl⟩) (fun o0 hv=>?_)
    clear hv
    refine L_do (φ:=fun v g w=>v=.bool (x5)) rfl rfl .plain (fun g w hd=>Zp (g:=g) (vs:=[.int .i64 (0),.int .i64 (9),o0]) en87 (.cons rfl (.cons rfl (.cons rfl .nil))) (wk87 (word (A:=fun g w=>RV g.m w ([(x1).Colour]:List Int) o0∧OS 3007 g w 3 ([(x1).Colour]:List Int) o0∧FullV o0) 2 rfl rfl (deps_of hd)).1 j7) fun g' w' v hs hr=>⟨g',hs,hr⟩) (fun v8 hv=>?_)
    obtain ⟨_,_,_,rfl⟩:=hv
    refine L_p (.bool (x5)) rfl rfl (Zk rfl) ?_
    refine L_y (fPtr p2 1) rfl rfl rfl rfl l5 (Zc at_87_1 rfl (PT.ptr q2)) ?_
    refine L_ld (c:=.int .i64 ((x1).Side)) rfl rfl (.yes2 rfl rfl l5) (fun _ _ h=>h.ch) v7 rfl ?_
    refine L_do (φ:=fun v g w=>RV g.m w ([(x1).Side]:List Int) v∧OS 3012 g w 3 ([(x1).Side]:List Int) v∧FullV v) rfl rfl (.yes2 rfl rfl l5) (fun g w hd=>D_buildSlice (g:=g) 3012 (xs:=([(x1).Side]:List Int)) (vs:=[.int .i64 ((x1).Side)]) Try.underlying22 Try.sizeOf3 Try.zeroValue3 rfl rfl (.cons rfl .nil) (RVs.cons (Zj.2 rfl) RVs.nil) rfl rfl fun g' w' v hs o r hxt hfl=>⟨g',hxt,r,o,hfl⟩) (fun u3 hv=>?_)
    clear hv
    refine L_do (φ:=fun v g w=>v=.bool (i6)) rfl rfl (.yes2 rfl rfl l5) (fun g w hd=>Zp (g:=g) (vs:=[.int .i64 (0),.int .i64 (1),u3]) en87 (.cons rfl (.cons rfl (.cons rfl .nil))) (wk87 (word (A:=fun g w=>RV g.m w ([(x1).Side]:List Int) u3∧OS 3012 g w 3 ([(x1).Side]:List Int) u3∧FullV u3) 7 rfl rfl (deps_of hd)).1 g8) fun g' w' v hs hr=>⟨g',hs,hr⟩) (fun d9 hv=>?_)
    obtain ⟨_,_,_,rfl⟩:=hv
    refine L_p (.bool (i6)) rfl rfl (Zl (b:=x5) rfl (pick_t l5 rfl)) ?_
    refine L_p (.bool (i6)) rfl rfl (Zk rfl) ?_
    iterate 12 refine L_s rfl rfl rfl i3 rfl ?_
    refine L_p (.bool false) rfl rfl (Zl (b:=i6) rfl (pick_f i3 rfl)) ?_
    refine L_dead (fun _=>rfl) 19 rfl ?_
    refine L_p (.bool false) rfl rfl (P_assign rfl) ?_
    refine L_nil fun mC dE hall=>?_
    have hs:=hall.1
    have hfr:=hfr.ext hs
    have eE:=(word_all (A:=fun g w=>RV g.m w ([(x1).Colour]:List Int) o0∧OS 3007 g w 3 ([(x1).Colour]:List Int) o0∧FullV o0) 2 rfl hall).1
    have o488:=(word_all (A:=fun g w=>RV g.m w ([(x1).Colour]:List Int) o0∧OS 3007 g w 3 ([(x1).Colour]:List Int) o0∧FullV o0) 2 rfl hall).2.1
    have gE:=(word_all (A:=fun g w=>RV g.m w ([(x1).Side]:List Int) u3∧OS 3012 g w 3 ([(x1).Side]:List Int) u3∧FullV u3) 7 rfl hall).1
    have o493:=(word_all (A:=fun g w=>RV g.m w ([(x1).Side]:List Int) u3∧OS 3012 g w 3 ([(x1).Side]:List Int) u3∧FullV u3) 7 rfl hall).2.1
    clear hs hall
    refine Zb ?_
    obtain rfl:=sinj h
    exact hQ _ _ ⟨mC,hfr,rfl⟩
  ·refine E_drawL (g := g2) (n := 44) [(2, (fun v g w => RV g.m w ([(x1).Colour] : List Int) v ∧ OS 3007 g w 3 ([(x1).Colour] : List Int) v ∧ FullV v)), (3, (fun v g w => v = .bool (x5)))] [0, 1, 2, 3, 4, 5, 6, 7, 8, 9, 10, 11, 12, 13, 14, 15, 16, 17, 18, 19, 20, 21, 22, 23, 24, 25, 26, 27, 28, 29, 30, 31, 32, 33, 34, 35, 36, 37, 38, 39, 40, 41, 42, 43] rfl mixed (by kernel_rfl) (⟨fun _ => up_and up_rv (up_and up_os (up_eq _)), fun _ => up_eq _, trivial⟩) ?_
   refine L_p (fPtr p2 0) rfl rfl (Zc at_87_0 rfl (PT.ptr q2)) ?_
   refine L_ld (c:=.int .i64 ((x1).Colour)) rfl rfl .plain (fun _ _ h=>h.ch) i7 rfl ?_
   refine L_do (φ:=fun v g w=>RV g.m w ([(x1).Colour]:List Int) v∧OS 3007 g w 3 ([(x1).Colour]:List Int) v∧FullV v) rfl rfl .plain (fun g w hd=>D_buildSlice (g:=g) 3007 (xs:=([(x1).Colour]:List Int)) (vs:=[.int .i64 ((x1).Colour)]) Try.underlying22 Try.sizeOf3 Try.zeroValue3 rfl rfl (.cons rfl .nil) (RVs.cons (Zj.2 rfl) RVs.nil) rfl rfl fun g' w' v hs o r hxt hfl=>⟨g',hxt,r,o,hfl⟩) (fun o0 hv=>?_)
   clear hv
   refine L_do (φ:=fun v g w=>v=.bool (x5)) rfl rfl .plain (fun g w hd=>Zp (g:=g) (vs:=[.int .i64 (0),.int .i64 (9),o0]) en87 (.cons rfl (.cons rfl (.cons rfl .nil))) (wk87 (word (A:=fun g w=>RV g.m w ([(x1).Colour]:List Int) o0∧OS 3007 g w 3 ([(x1).Colour]:List Int) o0∧FullV o0) 2 rfl rfl (deps_of hd)).1 j7) fun g' w' v hs hr=>⟨g',hs,hr⟩) (fun v8 hv=>?_)
   obtain ⟨_,_,_,rfl⟩:=hv
   refine L_p (.bool (x5)) rfl rfl (Zk rfl) ?_
   iterate 4 refine L_s rfl rfl rfl l5 rfl ?_
   refine L_p (.bool false) rfl rfl (Zl (b:=x5) rfl (pick_f l5 rfl)) ?_
   refine L_dead (fun _=>rfl) 33 rfl ?_
   refine L_p (.bool false) rfl rfl (P_assign rfl) ?_
   refine L_nil fun qC iE hall=>?_
   have hs:=hall.1
   have hfr:=hfr.ext hs
   have jE:=(word_all (A:=fun g w=>RV g.m w ([(x1).Colour]:List Int) o0∧OS 3007 g w 3 ([(x1).Colour]:List Int) o0∧FullV o0) 2 rfl hall).1
   have o537:=(word_all (A:=fun g w=>RV g.m w ([(x1).Colour]:List Int) o0∧OS 3007 g w 3 ([(x1).Colour]:List Int) o0∧FullV o0) 2 rfl hall).2.1
   clear hs hall
   refine Zb ?_
   obtain rfl:=sinj h
   exact hQ _ _ ⟨qC,hfr,rfl⟩
 ·clear hx
  obtain ⟨kE,hfr,bA⟩:=hR
  refine E_ret ?_
  obtain rfl:=sinj h
  exact end1 rfl rfl (show _=.bool (d7) from bA) ⟨_,hfr,rfl⟩
def f85 (x0:BoxBoxLoom):Option (Bool):=
 jn (σ:=Unit) (fun _=>
  some (true)
  ) fun z9=>
 lp (σ:=Int) (fun bA i3=>
  bif (decide (i3 < ((((x0).BoxLoom).Boxes).length : Int))) then
   jn (σ:=Unit) (fun _=>
    bA ((w64 (i3 + (1:Int))))
    ) fun v7=>
   (idx (((x0).BoxLoom).Boxes) i3).bind fun l5=>
   Option.bind (α:=Bool) (
    (f87 ((1:Int)) ((4:Int)) (([l5]:List Int))).bind fun y130=>
    bif (!y130) then
     some (true)
    else
     (idx (((x0).BoxLoom).At) i3).bind fun y135=>
     (f87 ((0:Int)) ((w64 (l5 - (1:Int)))) (([y135]:List Int))).bind fun y140=>
     some ((!y140))
    ) fun t5=>
   bif t5 then
    some (false)
   else
    v7 ()
  else
   z9 ()
  ) big ((0:Int))
theorem en85:Enters Try.prog 85:=enters_of Try.func85 (by kernel_rfl) rfl
theorem wk85 {gI:Gh} {wI:World} {x0:BoxBoxLoom} {up0:Value} (rp0:RV gI.m wI x0 up0) {r:Bool} (h:f85 x0=some r):Fn Try.prog 85 #[up0] gI wI (fun _ _ v=>v=.bool (r)):=by
 unfold f85 at h
 refine fn_of_E Try.func85 rfl (Nat.le_of_ble_eq_true rfl) fun g0 hm hfr=>?_
 have rp0:RV g0.m wI x0 up0:=hm ▸ rp0
 show E _ 32 none _ _ _ _ _
 refine Zf (Za (Ze .plain rfl (D_box (g:=g0) rfl rp0 fun g1 w1 p1 hs q1=>?_)))
 have hfr:=hfr.ext hs
 refine Zg (.bool false) rfl rfl ?_
 refine Zb (Zd (Zq h (fun (s:Unit) e w=>∃ (g:Gh) ,Fr gI wI g w) (fun X73 z9 jA h=>?_) ?_))
 ·refine Zf (Za (EL_p (fPtr p1 0) (Zc at_102_0 rfl (PT.ptr q1)) rfl ?_))
  have gA:=Zm (part_BoxBoxLoom_0).1 q1
  refine EL_p (fPtr (fPtr p1 0) 0) (Zc at_25_0 rfl (PT.ptr gA)) rfl ?_
  have zB:=Zm (part_BoxLoom_0).1 gA
  refine Ze .plain rfl (D_load (g:=g1) Try.isAgg22 Try.sizeOf22 rfl zB fun i6 iA=>?_)
  refine EL_p (.int .i64 ((((x0).BoxLoom).Boxes).length:Int)) (P_len Try.underlying22 rfl iA) rfl ?_
  refine Zn (.int .i64 (0)) rfl rfl ?_
  refine Zb (Zd (Zr ?_))
  refine E_lp h (fun (s:Int) e w=>∃ (g:Gh) ,Fr gI wI g w∧e 1=p1∧PT g.m w (x0:BoxBoxLoom) p1∧e 7=i6∧RV g.m w (((x0).BoxLoom).Boxes:List Int) i6∧e 8=.int .i64 (((((x0).BoxLoom).Boxes).length:Int))∧e 9=.int .i64 (s)) ⟨g1,hfr,rfl,q1,rfl,iA,rfl,rfl⟩ (fun X77 bA mA=>?_)
  rintro i3 mC jD ⟨g8,hfr,v6,u3,x6,i5,y6,x5⟩ h
  refine Zf (Za (EL_p (.bool ((decide (i3 < ((((x0).BoxLoom).Boxes).length:Int))))) (P_int x5 y6 rfl) rfl ?_))
  refine Zb (Zd (Zf ?_))
  rcases Zt h with ⟨i7,h⟩ | ⟨i7,h⟩
  ·refine E_ct i7 rfl ?_
   refine Zu (Zd (Zq h (fun (s:Unit) e w=>∃ (g:Gh) ,Fr gI wI g w∧e 1=p1∧PT g.m w (x0:BoxBoxLoom) p1∧e 7=i6∧RV g.m w (((x0).BoxLoom).Boxes:List Int) i6∧e 8=.int .i64 (((((x0).BoxLoom).Boxes).length:Int))∧e 9=.int .i64 (i3)) (fun X111 v7 n9 h=>?_) ?_))
   ·refine Zr ?_
    refine Zf (Za (Zo x5 rfl ?_))
    obtain ⟨l5,j7,h⟩:=bsome h
    refine EL_p (ePtr i6 i3 1) (Zh (α:=Int) Try.underlying22 Try.sizeOf3 x6 i5 x5 j7) rfl ?_
    have pA:=PT_idx i5 j7
    refine Ze .plain rfl (D_load (g:=g8) Try.isAgg3 Try.sizeOf3 rfl pA fun qC qA=>?_)
    obtain rfl:=Zj.1 qA
    refine Zg (.int .i64 (i3)) rfl rfl ?_
    refine Zg (.int .i64 (l5)) rfl rfl ?_
    refine Zb (Zd ?_)
    obtain ⟨t5,hx,h⟩:=bsome h
    refine E_join (fun e w=>∃ (g:Gh) ,Fr gI wI g w∧e 1=p1∧PT g.m w (x0:BoxBoxLoom) p1∧e 7=i6∧RV g.m w (((x0).BoxLoom).Boxes:List Int) i6∧e 8=.int .i64 (((((x0).BoxLoom).Boxes).length:Int))∧e 9=.int .i64 (i3)∧e 30=.bool (t5)) (fun Q' hQ=>?_) (fun aC rC hR=>?_)
    ·replace h := hx
     clear hx
     refine Za (Zn (.int .i64 (l5)) rfl rfl ?_)
     refine Ze .plain rfl (D_buildSlice (g:=g8) 3015 (xs:=([l5]:List Int)) (vs:=[.int .i64 (l5)]) Try.underlying22 Try.sizeOf3 Try.zeroValue3 rfl rfl (.cons rfl .nil) (RVs.cons (Zj.2 rfl) RVs.nil) rfl rfl fun rA uC yA hs o128 aB hxt hfl=>?_)
     have hfr:=hfr.stp hs
     have u3:=u3.stp hs
     have i5:=i5.stp hs
     obtain ⟨y130,u9,h⟩:=bsome h
     refine Ze .plain rfl (Zp (g:=rA) (vs:=[.int .i64 (1),.int .i64 (4),yA]) en87 (.cons rfl (.cons rfl (.cons rfl .nil))) (wk87 aB u9) fun a7 cC vC hs hr=>?_)
     have hfr:=hfr.ext hs
     have u3:=u3.ext hs
     have i5:=i5.ext hs
     subst hr
     refine EL_p (.bool (!y130)) (P_not rfl) rfl ?_
     refine Zn (.bool (!y130)) rfl rfl ?_
     rcases Zt h with ⟨o0,h⟩ | ⟨o0,h⟩
     ·refine EL_s rfl rfl o0 rfl rfl ?_
      iterate 10 refine EL_s rfl rfl o0 rfl rfl ?_
      refine EL_p (.bool true) (Zl (b:=(!y130)) rfl (pick_t o0 rfl)) rfl ?_
      refine Zb ?_
      obtain rfl:=sinj h
      exact hQ _ _ ⟨a7,hfr,v6,u3,x6,i5,y6,x5,rfl⟩
     ·refine EL_y (.int .i64 (l5)) (Zk rfl) rfl rfl o0 rfl ?_
      refine EL_y (.int .i64 ((w64 (l5 - (1:Int))))) (P_int rfl rfl rfl) rfl rfl o0 rfl ?_
      refine EL_y (fPtr p1 0) (Zc at_102_0 v6 (PT.ptr u3)) rfl rfl o0 rfl ?_
      have i8:=Zm (part_BoxBoxLoom_0).1 u3
      refine EL_y (fPtr (fPtr p1 0) 1) (Zc at_25_1 rfl (PT.ptr i8)) rfl rfl o0 rfl ?_
      have dB:=Zm (part_BoxLoom_1).1 i8
      refine Ze (.yes2 rfl rfl o0) rfl (D_load (g:=a7) Try.isAgg22 Try.sizeOf22 rfl dB fun iB k8=>?_)
      refine EL_y (.int .i64 (i3)) (Zk rfl) rfl rfl o0 rfl ?_
      obtain ⟨y135,m7,h⟩:=bsome h
      refine EL_y (ePtr iB i3 1) (Zh (α:=Int) Try.underlying22 Try.sizeOf3 rfl k8 rfl m7) rfl rfl o0 rfl ?_
      have jB:=PT_idx k8 m7
      refine Ze (.yes2 rfl rfl o0) rfl (D_load (g:=a7) Try.isAgg3 Try.sizeOf3 rfl jB fun aD lB=>?_)
      obtain rfl:=Zj.1 lB
      refine Ze (.yes2 rfl rfl o0) rfl (D_buildSlice (g:=a7) 3027 (xs:=([y135]:List Int)) (vs:=[.int .i64 (y135)]) Try.underlying22 Try.sizeOf3 Try.zeroValue3 rfl rfl (.cons rfl .nil) (RVs.cons (Zj.2 rfl) RVs.nil) rfl rfl fun mB bD nB hs o138 oB hxt hfl=>?_)
      have hfr:=hfr.stp hs
      have u3:=u3.stp hs
      have i5:=i5.stp hs
      obtain ⟨y140,y9,h⟩:=bsome h
      refine Ze (.yes2 rfl rfl o0) rfl (Zp (g:=mB) (vs:=[.int .i64 (0),.int .i64 ((w64 (l5 - (1:Int)))),nB]) en87 (.cons rfl (.cons rfl (.cons rfl .nil))) (wk87 oB y9) fun tB eC cD hs hr=>?_)
      have hfr:=hfr.ext hs
      have u3:=u3.ext hs
      have i5:=i5.ext hs
      subst hr
      refine EL_y (.bool (!y140)) (P_not rfl) rfl rfl o0 rfl ?_
      refine EL_p (.bool (!y140)) (Zl (b:=(!y130)) rfl (pick_f o0 rfl)) rfl ?_
      refine Zb ?_
      obtain rfl:=sinj h
      exact hQ _ _ ⟨tB,hfr,v6,u3,x6,i5,y6,x5,rfl⟩
    ·clear hx
     obtain ⟨vB,hfr,l8,m8,n8,q8,r8,t8,j6⟩:=hR
     rcases Zt h with ⟨d7,h⟩ | ⟨d7,h⟩
     ·refine E_cond_true (Eq.trans (show ev _ _ = .bool (t5) from j6) (congrArg Value.bool d7)) ?_
      refine Zf (Za (Zg (.bool false) rfl rfl ?_))
      refine Zb (Zd (E_ret (blk_r ?_)))
      refine thn_r ?_
      refine thn_r ?_
      refine blk_r ?_
      refine thn_r ?_
      obtain rfl:=sinj h
      exact end1 rfl rfl (show _=.bool false from rfl) ⟨_,hfr,rfl⟩
     ·refine E_cond_false (Eq.trans (show ev _ _ = .bool (t5) from j6) (congrArg Value.bool d7)) ?_
      exact Zu (blk_n (Zd (n9 () _ _ ⟨vB,hfr,l8,m8,n8,q8,r8,t8⟩ h)))
   ·rintro _ iC eD ⟨yB, hfr, v8, x8, a9, d9, k9, l9⟩ h
    refine Za (EL_in (.int .i64 ((w64 (i3 + (1:Int))))) l9 rfl rfl rfl ?_)
    refine Zn (.int .i64 ((w64 (i3 + (1:Int))))) rfl rfl ?_
    exact Zb (Zd (mA ((w64 (i3 + (1:Int)))) _ _ ⟨yB,hfr,v8,x8,a9,d9,k9,rfl⟩ h))
  ·refine E_cf i7 rfl ?_
   refine E_exit ?_
   refine thn_e ?_
   refine thn_e ?_
   refine blk_hit ?_
   exact Zd (jA () _ _ ⟨g8,hfr⟩ h)
 ·rintro _ lC gD ⟨iD, hfr⟩ h
  refine Zf (Za (Zg (.bool true) rfl rfl ?_))
  refine Zb (Zd (E_ret ?_))
  obtain rfl:=sinj h
  exact end1 rfl rfl (show _=.bool true from rfl) ⟨_,hfr,rfl⟩
end Go.Proofs.Ytmpjooneiaiffaa
