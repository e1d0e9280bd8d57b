import Derived.Test.YtlmibfohllgmeaaGreatCode2
set_option maxRecDepth 8000
set_option maxHeartbeats 4000000
namespace Go.Proofs.YtlmibfohllgmeaaGreat
open Go.RowKit
def f20 (x0:PayList) (x1:List PayPiece):Option ((List Int) × (List Int) × Int × Int):=
 jn (σ:=(List Int)) (fun eD=>
  jn (σ:=(List Int)) (fun dF=>
   jn (σ:=(List Int) × (List (Int × Int))) (fun (uD,m8)=>
    (keysS m8).bind fun k8=>
    Option.bind (α:=(List Int)) (
     lp (σ:=(List Int) × Int) (fun kG (yB,x6)=>
      bif (decide (x6 < ((k8).length : Int))) then
       Option.bind (α:=(List Int)) (
        (idx k8 x6).bind fun mB=>
        (apnd 8 yB (([((mget m8 mB).getD (0:Int))]:List Int))).bind fun lG=>
        some (lG)
        ) fun l9=>
       kG (l9,(w64 (x6 + (1:Int))))
      else
       some (yB)
      ) big (uD,(0:Int))
     ) fun aB=>
    some (k8,aB,(0:Int),(0:Int))
    ) fun mG=>
   lp (σ:=(List Int) × (List (Int × Int)) × Int) (fun sG (n9,y6,o0)=>
    bif (decide (o0 < ((x1).length : Int))) then
     jn (σ:=(List Int) × (List (Int × Int))) (fun (zB,cC)=>
      sG (zB,cC,(w64 (o0 + (1:Int))))
      ) fun xG=>
     (idx x1 o0).bind fun i7=>
     (f56 x0 i7).bind fun y168=>
     jn (σ:=(List Int)) (fun mC=>
      (f59 (y168.1) i7 ((i7).Faults)).bind fun nB=>
      xG (mC,(mset y6 ((i7).Weaver) ((w64 (((mget y6 ((i7).Weaver)).getD (0:Int)) + nB)))))
      ) fun yG=>
     bif (y168.2 != (0 : Int)) then
      some ([],[],o0,y168.2)
     else
      yG (n9)
    else
     mG (n9,y6)
    ) big (dF,([]:List (Int × Int)),(0:Int))
   ) fun aK=>
  bif (decide (((x1).length : Int) > (50 : Int))) then
   some ([],[],(0:Int),(5:Int))
  else
   aK (eD)
  ) fun k6=>
 (f60 x0).bind fun y9=>
 bif (y9 != (0 : Int)) then
  some ([],[],(0:Int),y9)
 else
  k6 ([])
theorem en20:Enters Tryz.prog 20:=enters_of Tryz.func20 (by kernel_rfl) rfl
theorem wk20 {gI:Gh} {wI:World} {x0:PayList} {x1:List PayPiece} {up0:Value} (rp0:RV gI.m wI x0 up0) {up1:Value} (rp1:RV gI.m wI x1 up1) {r:(List Int) × (List Int) × Int × Int} (h:f20 x0 x1=some r):Fn Tryz.prog 20 #[up0,up1] gI wI (fun m w v=>∃ y0 y1 y2 y3,v=.tuple #[y0,y1,y2,y3]∧RV m w (r.1) y0∧RV m w (r.2.1) y1∧y2=.int .i64 (r.2.2.1)∧y3=.int .i64 (r.2.2.2)):=by
 unfold f20 at h
 refine fn_of_E Tryz.func20 rfl (Nat.le_of_ble_eq_true rfl) fun g0 hm hfr=>?_
 have rp0:RV g0.m wI x0 up0:=hm ▸ rp0
 have rp1:RV g0.m wI x1 up1:=hm ▸ rp1
 show E _ 71 none _ _ _ _ _
 refine Zf (Za (Ze .plain rfl (D_box (g:=g0) rfl rp0 fun g1 w1 p1 hs q1=>?_)))
 have hfr:=hfr.ext hs
 have rp1:=rp1.ext hs
 refine Zg (.slice none 0 0) rfl rfl ?_
 refine Zg (.slice none 0 0) rfl rfl ?_
 refine Zg (.int .i64 (0)) rfl rfl ?_
 refine Zg (.int .i64 (0)) rfl rfl ?_
 refine Zb (Zd (Zq h (fun (s:(List Int)) e w=>∃ (g:Gh) (v5:Value),Fr gI wI g w∧e 1=up1∧RV g.m w (x1:List PayPiece) up1∧e 2=p1∧PT g.m w (x0:PayList) p1∧e 5=v5∧RV g.m w (s:List Int) v5∧OS 1005 g w 3 (s:List Int) v5) (fun X6 k6 hk6 h=>?_) ?_))
 ·refine Zf (Za (Ze .plain rfl (D_load (g := g1) Tryz.isAgg59 Tryz.sizeOf59 rfl q1 fun v7 r7 => ?_)))
  obtain ⟨y9,tL,h⟩:=bsome h
  refine Ze .plain rfl (Zp (g:=g1) (vs:=[v7]) en60 (.cons rfl .nil) (wk60 r7 tL) fun g8 w8_ v8 hs hr=>?_)
  have hfr:=hfr.ext hs
  have rp1:=rp1.ext hs
  have q1:=q1.ext hs
  subst hr
  refine Zg (.int .i64 (y9)) rfl rfl ?_
  refine Zb (Zd (Zf (Za (Zn (.int .i64 (y9)) rfl rfl ?_))))
  refine EL_in (.bool ((y9 != (0:Int)))) rfl rfl rfl rfl ?_
  refine Zb (Zd ?_)
  rcases Zt h with ⟨rE,h⟩ | ⟨rE,h⟩
  ·refine E_ct rE rfl ?_
   refine Zf (Za (Zn (.int .i64 (y9)) rfl rfl ?_))
   refine Zg (.slice none 0 0) rfl rfl ?_
   refine Zg (.slice none 0 0) rfl rfl ?_
   refine Zg (.int .i64 (0)) rfl rfl ?_
   refine Zg (.int .i64 (y9)) rfl rfl ?_
   refine Zb (Zd (E_ret (thn_r ?_)))
   obtain rfl:=sinj h
   exact end4 rfl rfl (show _=.slice none 0 0 from rfl) (show _=.slice none 0 0 from rfl) (show _=.int .i64 (0) from rfl) (show _=.int .i64 (y9) from rfl) ⟨_,hfr,_,_,_,_,rfl,RV_nil,RV_nil,rfl,rfl⟩
  ·refine E_cf rE rfl ?_
   exact Zu (Zd (hk6 ([]) _ _ ⟨g8,(.slice none 0 0),hfr,rfl,rp1,rfl,q1,rfl,RV_nil,OS.nil⟩ h))
 ·rintro eD pM vN ⟨uL, sI, hfr, eF, rF, tI, uI, vI, yI, zI⟩ h
  refine Zq h (fun (s:(List Int)) e w=>∃ (g:Gh) (v5:Value),Fr gI wI g w∧e 1=up1∧RV g.m w (x1:List PayPiece) up1∧e 2=p1∧PT g.m w (x0:PayList) p1∧e 5=v5∧RV g.m w (s:List Int) v5∧OS 1005 g w 3 (s:List Int) v5) (fun X13 aK bK h=>?_) ?_
  ·refine Zf (Za (Zo eF rfl ?_))
   refine EL_p (.int .i64 ((x1).length:Int)) (P_len Tryz.underlying56 rfl rF) rfl ?_
   refine EL_in (.bool ((decide (((x1).length:Int) > (50:Int))))) rfl rfl rfl rfl ?_
   refine Zb (Zd ?_)
   rcases Zt h with ⟨uE,h⟩ | ⟨uE,h⟩
   ·refine E_ct uE rfl ?_
    refine Zf (Za (Zg (.slice none 0 0) rfl rfl ?_))
    refine Zg (.slice none 0 0) rfl rfl ?_
    refine Zg (.int .i64 (0)) rfl rfl ?_
    refine Zg (.int .i64 (5)) rfl rfl ?_
    refine Zb (Zd (E_ret (thn_r ?_)))
    obtain rfl:=sinj h
    exact end4 rfl rfl (show _=.slice none 0 0 from rfl) (show _=.slice none 0 0 from rfl) (show _=.int .i64 (0) from rfl) (show _=.int .i64 (5) from rfl) ⟨_,hfr,_,_,_,_,rfl,RV_nil,RV_nil,rfl,rfl⟩
   ·refine E_cf uE rfl ?_
    exact Zu (Zd (bK (eD) _ _ ⟨uL,(sI),hfr,eF,rF,tI,uI,vI,yI,zI⟩ h))
  ·rintro dF qM w15 ⟨vL, eJ, hfr, gJ, vB, iJ, gD, jJ, iD, jD⟩ h
   refine Zf (Za (Ze .plain rfl (D_makeMap (g:=vL) (Value.int .i64) Int 8024 fun xL xN n8 hs m16=>?_)))
   have hfr:=hfr.stp hs
   have vB:=vB.stp hs
   have gD:=gD.stp hs
   have iD:=iD.stp hs
   have jD:=jD.stp hs rfl
   refine Zg n8 rfl rfl ?_
   refine Zb (Zd (Zq h (fun (s:(List Int) × (List (Int × Int))) e w=>∃ (g:Gh) (v5:Value),Fr gI wI g w∧e 5=v5∧RV g.m w (s.1:List Int) v5∧OS 1005 g w 3 (s.1:List Int) v5∧e 9=n8∧MP (Value.int .i64) 8024 g w (s.2:List (Int × Int)) n8) (fun X111 mG kJ h=>?_) ?_))
   ·refine Zf (Za (Zo gJ rfl ?_))
    refine EL_p (.int .i64 ((x1).length:Int)) (P_len Tryz.underlying56 rfl vB) rfl ?_
    refine Zn (.int .i64 (0)) rfl rfl ?_
    refine Zb (Zd (Zr ?_))
    refine E_lp h (fun (s:(List Int) × (List (Int × Int)) × Int) e w=>∃ (g:Gh) (v5:Value),Fr gI wI g w∧e 2=p1∧PT g.m w (x0:PayList) p1∧e 5=v5∧RV g.m w (s.1:List Int) v5∧OS 1005 g w 3 (s.1:List Int) v5∧e 9=n8∧MP (Value.int .i64) 8024 g w (s.2.1:List (Int × Int)) n8∧e 25=up1∧RV g.m w (x1:List PayPiece) up1∧e 26=.int .i64 (((x1).length:Int))∧e 27=.int .i64 (s.2.2)) ⟨xL,(eJ),hfr,iJ,gD,jJ,iD,jD,rfl,m16,rfl,vB,rfl,rfl⟩ (fun X112 sG lJ=>?_)
    rintro ⟨n9,y6,o0⟩ dM rM ⟨vE,vD,hfr,xD,l5,yD,t5,x5,zD,i6,vC,u3,aD,yA⟩ h
    refine Zf (Za (EL_in (.bool ((decide (o0 < ((x1).length:Int))))) yA aD rfl rfl ?_))
    refine Zb (Zd (Zf ?_))
    rcases Zt h with ⟨lD,h⟩ | ⟨lD,h⟩
    ·refine E_ct lD rfl ?_
     refine Zu (Zd (Zq h (fun (s:(List Int) × (List (Int × Int))) e w=>∃ (g:Gh) (v5:Value),Fr gI wI g w∧e 2=p1∧PT g.m w (x0:PayList) p1∧e 5=v5∧RV g.m w (s.1:List Int) v5∧OS 1005 g w 3 (s.1:List Int) v5∧e 9=n8∧MP (Value.int .i64) 8024 g w (s.2:List (Int × Int)) n8∧e 25=up1∧RV g.m w (x1:List PayPiece) up1∧e 26=.int .i64 (((x1).length:Int))∧e 27=.int .i64 (o0)) (fun X159 xG mJ h=>?_) ?_))
     ·refine Zr ?_
      refine Zf (Za (Zo yA rfl ?_))
      obtain ⟨i7,sF,h⟩:=bsome h
      refine EL_p (ePtr up1 o0 5) (Zh (α:=PayPiece) Tryz.underlying56 Tryz.sizeOf68 vC u3 yA sF) rfl ?_
      have cK:=PT_idx u3 sF
      refine Ze .plain rfl (D_load (g:=vE) Tryz.isAgg68 Tryz.sizeOf68 rfl cK fun dK xE=>?_)
      refine Ze .plain rfl (D_allocOc (g:=vE) 2011 (⟨0,0,0,[],0⟩:PayPiece) Tryz.zeroValue68 (fun m w=>⟨_,(rep_two rep_int (rep_two rep_int (rep_two rep_int (rep_two rep_nil rep_int)))),rfl⟩) fun zG lK qC hs b163 cb=>?_)
      have hfr:=hfr.stp hs
      have l5:=l5.stp hs
      have t5:=t5.stp hs
      have x5:=x5.stp hs rfl
      have i6:=i6.stp hs rfl
      have u3:=u3.stp hs
      have xE:=xE.stp hs
      have yL:OSF 2011 61103 3 zG lK 3 68 ([]:List Int) qC:=cb.osf (by rfl)
      clear cb
      refine Zg (.int .i64 (o0)) rfl rfl ?_
      refine Ze .plain rfl (D_storeOc (g:=zG) (v:=dK) Tryz.sizeOf68 rfl b163 rfl xE fun yE sM hs b164 cb=>?_)
      clear cb
      have hfr:=hfr.stp hs
      have l5:=l5.stp hs
      have t5:=t5.stp hs
      have x5:=x5.stp hs rfl
      have i6:=i6.stp hs rfl
      have u3:=u3.stp hs
      refine Zb (Zd (Zf (Za (Ze .plain rfl (D_load (g:=yE) Tryz.isAgg59 Tryz.sizeOf59 xD l5 fun mK nK=>?_)))))
      refine Ze .plain rfl (D_loadO (g:=yE) Tryz.isAgg68 Tryz.sizeOf68 rfl b164 fun oK pK=>?_)
      obtain ⟨y168,nJ,h⟩:=bsome h
      refine Ze .plain rfl (Zp (g:=yE) (vs:=[mK,oK]) en56 (.cons rfl (.cons rfl .nil)) (wk56 nK pK nJ) fun qK eM tM hs hr=>?_)
      have hfr:=hfr.ext hs
      have l5:=l5.ext hs
      have t5:=t5.ext hs
      have x5:=x5.ext hs
      have i6:=i6.ext hs
      have u3:=u3.ext hs
      have b164:=b164.ext hs
      obtain ⟨rC,zL,rfl,uC,rfl⟩:=hr
      refine Zn (.tuple #[rC,.int .i64 (y168.2)]) rfl rfl ?_
      refine EL_p rC (Zi rfl rfl) rfl ?_
      refine EL_p (.int .i64 (y168.2)) (Zi rfl rfl) rfl ?_
      refine Ze .plain rfl (D_allocOc (g:=qK) 2012 (⟨⟨[],[],0,0⟩⟩:PayPayList) Tryz.zeroValue153 (fun m w=>⟨_,(rep_two rep_nil (rep_two rep_nil (rep_two rep_int rep_int))),rfl⟩) fun zE aH nD hs b169 cb=>?_)
      have hfr:=hfr.stp hs
      have l5:=l5.stp hs
      have t5:=t5.stp hs
      have x5:=x5.stp hs rfl
      have i6:=i6.stp hs rfl
      have u3:=u3.stp hs
      have b164:=b164.stp hs rfl
      have uC:=uC.stp hs
      have aM:OSF 2012 61200 0 zE aH 148 153 ([]:List PayRate) nD:=cb.osf (by rfl)
      have bM:OSF 2012 61201 1 zE aH 3 153 ([]:List Int) nD:=cb.osf (by rfl)
      clear cb
      refine Ze .plain rfl (D_storeOc (g:=zE) (v:=rC) Tryz.sizeOf153 rfl b169 rfl uC fun sK uM hs b170 cb=>?_)
      clear cb
      have hfr:=hfr.stp hs
      have l5:=l5.stp hs
      have t5:=t5.stp hs
      have x5:=x5.stp hs rfl
      have i6:=i6.stp hs rfl
      have u3:=u3.stp hs
      have b164:=b164.stp hs rfl
      refine Zg (.int .i64 (y168.2)) rfl rfl ?_
      refine Zb (Zd (Zq h (fun (s:(List Int)) e w=>∃ (g:Gh) (v5:Value),Fr gI wI g w∧e 2=p1∧PT g.m w (x0:PayList) p1∧e 5=v5∧RV g.m w (s:List Int) v5∧OS 1005 g w 3 (s:List Int) v5∧e 9=n8∧MP (Value.int .i64) 8024 g w (y6:List (Int × Int)) n8∧e 11=qC∧OB 2011 g w 68 (i7:PayPiece) qC∧e 12=nD∧OB 2012 g w 153 (y168.1:PayPayList) nD∧e 25=up1∧RV g.m w (x1:List PayPiece) up1∧e 26=.int .i64 (((x1).length:Int))∧e 27=.int .i64 (o0)) (fun X172 yG oJ h=>?_) ?_))
      ·refine Zf (Za (Zn (.int .i64 (y168.2)) rfl rfl ?_))
       refine EL_in (.bool ((y168.2 != (0:Int)))) rfl rfl rfl rfl ?_
       refine Zb (Zd ?_)
       rcases Zt h with ⟨oD,h⟩ | ⟨oD,h⟩
       ·refine E_ct oD rfl ?_
        refine Zf (Za (Zn (.int .i64 (o0)) rfl rfl ?_))
        refine Zn (.int .i64 (y168.2)) rfl rfl ?_
        refine Zg (.slice none 0 0) rfl rfl ?_
        refine Zg (.slice none 0 0) rfl rfl ?_
        refine Zg (.int .i64 (o0)) rfl rfl ?_
        refine Zg (.int .i64 (y168.2)) rfl rfl ?_
        refine Zb (Zd (E_ret (thn_r ?_)))
        refine blk_r ?_
        refine thn_r ?_
        refine thn_r ?_
        refine blk_r ?_
        refine thn_r ?_
        obtain rfl:=sinj h
        exact end4 rfl rfl (show _=.slice none 0 0 from rfl) (show _=.slice none 0 0 from rfl) (show _=.int .i64 (o0) from rfl) (show _=.int .i64 (y168.2) from rfl) ⟨_,hfr,_,_,_,_,rfl,RV_nil,RV_nil,rfl,rfl⟩
       ·refine E_cf oD rfl ?_
        exact Zu (Zd (oJ (n9) _ _ ⟨sK,(vD),hfr,xD,l5,yD,t5,x5,zD,i6,rfl,b164,rfl,b170,vC,u3,aD,yA⟩ h))
      ·rintro mC iM vM ⟨tK, cH, hfr, dH, u9, gH, z9, bA, aE, dB, oB, x8, uF, vF, xF, a9, yF, zF⟩ h
       refine L_loadO (x:=.tmp 43) part_PayPiece_0.1 Tryz.isAgg3 Tryz.sizeOf3 x8 fun xM uK pJ=>?_
       obtain rfl:=Zj.1 uK
       refine L_loadO0 (x:=.tmp 12) Tryz.isAgg153 Tryz.sizeOf153 vF fun iH vK qJ=>?_
       refine L_loadO0 (x:=.tmp 11) Tryz.isAgg68 Tryz.sizeOf68 x8 fun jH xK rJ=>?_
       refine L_loadO (x:=.tmp 48) part_PayPiece_4.1 Tryz.isAgg3 Tryz.sizeOf3 x8 fun bN yK sJ=>?_
       obtain rfl:=Zj.1 yK
       obtain ⟨nB,vJ,h⟩:=bsome h
       refine E_drawL (g:=tK) (n:=10) [(3,(fun v _ _=>v=.int .i64 (((mget y6 ((i7).Weaver)).getD (0:Int))))),(8,(fun v g w=>v=.int .i64 (nB)))] [0,1,2,3,4,5,6,7,8,9] rfl mixed (by kernel_rfl) (⟨fun _=>up_eq _,fun _=>up_eq _,trivial⟩) ?_
       refine L_p n8 rfl rfl (Zk aE) ?_
       refine L_p (fPtr qC 0) rfl rfl (Zc at_68_0 oB (OB.ptr x8)) ?_
       refine L_ld (c:=.int .i64 ((i7).Weaver)) rfl rfl .plain (fun _ _ h=>⟨h.ch,fun b hb _=>h.below.block b hb⟩) pJ rfl ?_
       refine L_do (φ:=(fun v _ _=>v=.int .i64 (((mget y6 ((i7).Weaver)).getD (0:Int))))) rfl rfl .plain (fun g w hd=>D_lookup (g:=g) (z0:=(0:Int)) Tryz.underlying160 key_3 Tryz.zeroValue3 (fun m w=>⟨_,rep_int,rfl⟩) rfl (dB.ext hd.1) rfl fun v r=>⟨g,Ext.refl g w,Zj.1 r⟩) (fun cN hv=>?_)
       obtain ⟨_,_,_,rfl⟩:=hv
       refine L_ld (c:=iH) rfl rfl .plain (fun _ _ h=>⟨h.ch,fun b hb _=>h.below.block b hb⟩) qJ uF ?_
       refine L_ld (c:=jH) rfl rfl .plain (fun _ _ h=>⟨h.ch,fun b hb _=>h.below.block b hb⟩) rJ oB ?_
       refine L_p (fPtr qC 4) rfl rfl (Zc at_68_4 oB (OB.ptr x8)) ?_
       refine L_ld (c:=.int .i64 ((i7).Faults)) rfl rfl .plain (fun _ _ h=>⟨h.ch,fun b hb _=>h.below.block b hb⟩) sJ rfl ?_
       refine L_do (φ:=fun v g w=>v=.int .i64 (nB)) rfl rfl .plain (fun g w hd=>Zp (g:=g) (vs:=[iH,jH,.int .i64 ((i7).Faults)]) en59 (.cons rfl (.cons rfl (.cons rfl .nil))) (wk59 (vK.ext hd.1) (xK.ext hd.1) vJ) fun g' w' v hs hr=>⟨g',hs,hr⟩) (fun dN hv=>?_)
       obtain ⟨_,_,_,rfl⟩:=hv
       refine L_p (.int .i64 ((w64 (((mget y6 ((i7).Weaver)).getD (0:Int)) + nB)))) rfl rfl (P_int rfl rfl rfl) ?_
       refine L_nl fun zK eN hs=>?_
       have hfr:=hfr.ext hs
       have u9:=u9.ext hs
       have z9:=z9.ext hs
       have bA:=bA.ext hs
       have dB:=dB.ext hs
       have a9:=a9.ext hs
       clear hs
       refine Ze .plain rfl (D_mapUpdate (g:=zK) Tryz.underlying160 key_3 rfl dB rfl rfl (Zj.2 rfl) fun aL gN hs m203=>?_)
       have hfr:=hfr.stp hs
       have u9:=u9.stp hs
       have z9:=z9.stp hs
       have bA:=bA.stp hs rfl
       have a9:=a9.stp hs
       exact Zb (blk_n (Zd (mJ (mC,(mset y6 ((i7).Weaver) ((w64 (((mget y6 ((i7).Weaver)).getD (0:Int)) + nB))))) _ _ ⟨aL,(cH),hfr,dH,u9,gH,z9,bA,aE,m203,xF,a9,yF,zF⟩ h)))
     ·rintro ⟨zB, cC⟩ jM iN ⟨bL, kH, hfr, lH, mH, nH, oH, pH, qH, sH, aG, bG, cG, eG⟩ h
      refine Za (EL_in (.int .i64 ((w64 (o0 + (1:Int))))) eG rfl rfl rfl ?_)
      refine Zn (.int .i64 ((w64 (o0 + (1:Int))))) rfl rfl ?_
      exact Zb (Zd (lJ (zB,cC,(w64 (o0 + (1:Int)))) _ _ ⟨bL,(kH),hfr,lH,mH,nH,oH,pH,qH,sH,aG,bG,cG,rfl⟩ h))
    ·refine E_cf lD rfl ?_
     refine E_exit ?_
     refine thn_e ?_
     refine thn_e ?_
     refine blk_hit ?_
     exact Zd (kJ (n9,y6) _ _ ⟨vE,(vD),hfr,yD,t5,x5,zD,i6⟩ h)
   ·rintro ⟨uD, m8⟩ kM jN ⟨dL, tH, hfr, uH, iA, rA, bE, r8⟩ h
    refine Zf (Za (Zo bE rfl ?_))
    refine Ze .plain rfl (D_callG (g:=dL) (vs:=[n8]) en62 (.cons rfl .nil) (keys_fnG Tryz.keys_ok r8) fun eL kN gL hs m206=>?_)
    have hfr:=hfr.ext hs
    have iA:=iA.ext hs
    have rA:=rA.ext hs
    have r8:=r8.ext hs
    obtain ⟨k8,xJ,h⟩:=bsome h
    refine Ze .plain rfl (D_callG (g:=eL) (vs:=[gL]) en61 (.cons rfl .nil) (sorted_fnG Tryz.underlying3 Tryz.sorted_ok r8 m206 xJ) fun iL lN m7 hs cF=>?_)
    have hfr:=hfr.ext hs
    have iA:=iA.ext hs
    have rA:=rA.ext hs
    have r8:=r8.ext hs
    refine Zg m7 rfl rfl ?_
    refine Zb (Zd ?_)
    obtain ⟨aB,hx,h⟩:=bsome h
    refine E_join (fun e w=>∃ (g:Gh) (v5:Value),Fr gI wI g w∧e 4=m7∧RV g.m w (k8:List Int) m7∧e 5=v5∧RV g.m w (aB:List Int) v5∧OS 1005 g w 3 (aB:List Int) v5) (fun Q' hQ=>?_) (fun mM mN hR=>?_)
    ·replace h := hx
     clear hx
     refine Zf (Za (Zn m7 rfl rfl ?_))
     refine EL_p (.int .i64 ((k8).length:Int)) (P_len Tryz.underlying28 rfl cF) rfl ?_
     refine Zn (.int .i64 (0)) rfl rfl ?_
     refine Zb (Zd (Zr ?_))
     refine E_lp h (fun (s:(List Int) × Int) e w=>∃ (g:Gh) (v5:Value),Fr gI wI g w∧e 4=m7∧RV g.m w (k8:List Int) m7∧e 5=v5∧RV g.m w (s.1:List Int) v5∧OS 1005 g w 3 (s.1:List Int) v5∧e 9=n8∧MP (Value.int .i64) 8024 g w (m8:List (Int × Int)) n8∧e 56=m7∧RV g.m w (k8:List Int) m7∧e 57=.int .i64 (((k8).length:Int))∧e 58=.int .i64 (s.2)) ⟨iL,(tH),hfr,rfl,cF,uH,iA,rA,bE,r8,rfl,cF,rfl,rfl⟩ (fun X227 kG yJ=>?_)
     rintro ⟨yB,x6⟩ nM nN ⟨sD,xH,hfr,iE,d9,lE,iB,lB,mE,k9,bD,l8,cD,tB⟩ h
     refine Zf (Za (EL_in (.bool ((decide (x6 < ((k8).length:Int))))) tB cD rfl rfl ?_))
     refine Zb (Zd (Zf ?_))
     rcases Zt h with ⟨tD,h⟩ | ⟨tD,h⟩
     ·refine E_ct tD rfl ?_
      refine Zu (Zd ?_)
      obtain ⟨l9,hx,h⟩:=bsome h
      refine E_join (fun e w=>∃ (g:Gh) (v5:Value),Fr gI wI g w∧e 4=m7∧RV g.m w (k8:List Int) m7∧e 5=v5∧RV g.m w (l9:List Int) v5∧OS 1005 g w 3 (l9:List Int) v5∧e 9=n8∧MP (Value.int .i64) 8024 g w (m8:List (Int × Int)) n8∧e 56=m7∧RV g.m w (k8:List Int) m7∧e 57=.int .i64 (((k8).length:Int))∧e 58=.int .i64 (x6)) (fun Q' hQ=>?_) (fun oM oN hR=>?_)
      ·replace h := hx
       clear hx
       refine Zr ?_
       refine Zf (Za ?_)
       obtain ⟨mB,tF,h⟩:=bsome h
       refine EL_p (ePtr m7 x6 1) (Zh (α:=Int) Tryz.underlying28 Tryz.sizeOf3 bD l8 tB tF) rfl ?_
       have jL:=PT_idx l8 tF
       refine Ze .plain rfl (D_load (g:=sD) Tryz.isAgg3 Tryz.sizeOf3 rfl jL fun pN lL=>?_)
       obtain rfl:=Zj.1 lL
       refine Zg (.int .i64 (mB)) rfl rfl ?_
       refine Zb (Zd (Za (Zo lE rfl ?_)))
       refine Zo mE rfl ?_
       refine Zn (.int .i64 (mB)) rfl rfl ?_
       refine Ze .plain rfl (D_lookup (g:=sD) (z0:=(0:Int)) Tryz.underlying160 key_3 Tryz.zeroValue3 (fun m w=>⟨_,rep_int,rfl⟩) rfl k9 rfl fun qN mL=>?_)
       obtain rfl:=Zj.1 mL
       refine Ze .plain rfl (D_buildSlice (g:=sD) 3066 (xs:=([((mget m8 mB).getD (0:Int))]:List Int)) (vs:=[.int .i64 (((mget m8 mB).getD (0:Int)))]) Tryz.underlying28 Tryz.sizeOf3 Tryz.zeroValue3 rfl rfl (.cons rfl .nil) (RVs.cons (Zj.2 rfl) RVs.nil) rfl rfl fun nL rN sN hs o241 oL hxt hfl=>?_)
       have hfr:=hfr.stp hs
       have d9:=d9.stp hs
       have iB:=iB.stp hs
       have lB:=lB.stp hs rfl
       have k9:=k9.stp hs rfl
       have l8:=l8.stp hs
       obtain ⟨lG,zJ,h⟩:=bsome h
       refine Ze .plain rfl (D_append (g:=nL) (i:=1005) Tryz.underlying28 info_3 rfl rfl lB iB rfl oL zJ fun pL tN yH hs o242 qL _=>?_)
       have hfr:=hfr.stp hs
       have d9:=d9.stp hs
       have k9:=k9.stp hs rfl
       have l8:=l8.stp hs
       refine Zg yH rfl rfl ?_
       refine Zb (blk_n ?_)
       obtain rfl:=sinj h
       exact hQ _ _ ⟨pL,(yH),hfr,iE,d9,rfl,qL,o242,mE,k9,bD,l8,cD,tB⟩
      ·clear hx
       obtain ⟨rL,zH,hfr,aI,bI,dI,iI,jI,kI,lI,gG,hG,iG,jG⟩:=hR
       refine Za (EL_in (.int .i64 ((w64 (x6 + (1:Int))))) jG rfl rfl rfl ?_)
       refine Zn (.int .i64 ((w64 (x6 + (1:Int))))) rfl rfl ?_
       exact Zb (Zd (yJ (l9,(w64 (x6 + (1:Int)))) _ _ ⟨rL,(zH),hfr,aI,bI,dI,iI,jI,kI,lI,gG,hG,iG,rfl⟩ h))
     ·refine E_cf tD rfl ?_
      refine E_exit ?_
      refine thn_e ?_
      refine thn_e ?_
      refine blk_hit ?_
      obtain rfl:=sinj h
      exact hQ _ _ ⟨sD,(xH),hfr,iE,d9,lE,iB,lB⟩
    ·clear hx
     obtain ⟨uN,oE,hfr,mI,nI,pI,qI,cM⟩:=hR
     refine Zf (Za (Zo mI rfl ?_))
     refine Zo pI rfl ?_
     refine Zg m7 rfl rfl ?_
     refine Zg oE rfl rfl ?_
     refine Zg (.int .i64 (0)) rfl rfl ?_
     refine Zg (.int .i64 (0)) rfl rfl ?_
     refine Zb (Zd (E_ret ?_))
     obtain rfl:=sinj h
     exact end4 rfl rfl (show _=m7 from rfl) (show _=oE from rfl) (show _=.int .i64 (0) from rfl) (show _=.int .i64 (0) from rfl) ⟨_,hfr,_,_,_,_,rfl,nI,qI,rfl,rfl⟩
def f21 (x0:Int) (x1:List Int):Option ((List Int) × Int):=
 Option.bind (α:=Int) (
  lp (σ:=Int × Int) (fun bL (rA,t5)=>
   bif (decide (t5 < ((x1).length : Int))) then
    Option.bind (α:=Int) (
     (idx x1 t5).bind fun vB=>
     some ((w64 (rA + (min64 (max64 vB (0:Int)) (1000:Int)))))
     ) fun yB=>
    bL (yB,(w64 (t5 + (1:Int))))
   else
    some (rA)
   ) big ((0:Int),(0:Int))
  ) fun i6=>
 jn (σ:=(List Int)) (fun eG=>
  (mks 8 (0:Int) (((x1).length:Int))).bind fun zE=>
  Option.bind (α:=(List Int) × Int × (List Int)) (
   lp (σ:=(List Int) × Int × (List Int) × Int) (fun sH (vC,d9,z9,o0)=>
    bif (decide (o0 < ((x1).length : Int))) then
     Option.bind (α:=(List Int) × Int × (List Int)) (
      (idx x1 o0).bind fun aD=>
      (quo64 (w64 (x0 * aD)) i6).bind fun y158=>
      (apnd 8 vC (([y158]:List Int))).bind fun y161=>
      (idx z9 o0).bind fun lL=>
      (idx y161 o0).bind fun zD=>
      some (y161,(w64 (d9 - zD)),(List.set z9 (Int.toNat o0) o0))
      ) fun (yA,aB,bA)=>
     sH (yA,aB,bA,(w64 (o0 + (1:Int))))
    else
     some (vC,d9,z9)
    ) big (eG,x0,zE,(0:Int))
   ) fun (bD,x6,mB)=>
  (f64 mB ((fun a0 a1=>f65 a0 a1 x0 x1 i6))).bind fun tH=>
  Option.bind (α:=(List Int)) (
   (cut tH 0 x6).bind fun a9=>
   lp (σ:=(List Int) × Int) (fun uH (k9,u3)=>
    bif (decide (u3 < ((a9).length : Int))) then
     Option.bind (α:=(List Int)) (
      (idx a9 u3).bind fun l9=>
      (idx k9 l9).bind fun aE=>
      (idx k9 l9).bind fun mL=>
      some ((List.set k9 (Int.toNat l9) ((w64 (aE + (1:Int))))))
      ) fun dB=>
     uH (dB,(w64 (u3 + (1:Int))))
    else
     some (k9)
    ) big (bD,(0:Int))
   ) fun cD=>
  some (cD,(0:Int))
  ) fun dL=>
 (f63 ((0:Int)) ((1000000000:Int)) (([x0]:List Int))).bind fun gG=>
 bif (!gG) then
  some (([]:List Int),(3:Int))
 else
  bif (decide (((x1).length : Int) > (10 : Int))) then
   some (([]:List Int),(5:Int))
  else
   Option.bind (α:=Bool) (
    (f63 ((0:Int)) ((1000:Int)) x1).bind fun cF=>
    bif (!cF) then
     some ((!cF))
    else
     some ((i6 == (0:Int)))
    ) fun n9=>
   bif n9 then
    some (([]:List Int),(2:Int))
   else
    dL (([]:List Int))
theorem en21:Enters Tryz.prog 21:=enters_of Tryz.func21 (by kernel_rfl) rfl
theorem wk21 {gI:Gh} {wI:World} {x0:Int} {x1:List Int} {up1:Value} (rp1:RV gI.m wI x1 up1) {r:(List Int) × Int} (h:f21 x0 x1=some r):Fn Tryz.prog 21 #[.int .i64 (x0),up1] gI wI (fun m w v=>∃ y0 y1,v=.tuple #[y0,y1]∧RV m w (r.1) y0∧y1=.int .i64 (r.2)):=by
 unfold f21 at h
 refine fn_of_E Tryz.func21 rfl (Nat.le_of_ble_eq_true rfl) fun g0 hm hfr=>?_
 have rp1:RV g0.m wI x1 up1:=hm ▸ rp1
 show E _ 91 none _ _ _ _ _
 refine Zf (Za (Ze .plain rfl (D_box (g:=g0) rfl (Zj.2 rfl) fun g1 w1 p1 hs q1=>?_)))
 have hfr:=hfr.ext hs
 have rp1:=rp1.ext hs
 refine Ze .plain rfl (D_box (g:=g1) rfl rp1 fun g2 w2 p2 hs q2=>?_)
 have hfr:=hfr.ext hs
 have q1:=q1.ext hs
 refine Zg (.slice none 0 0) rfl rfl ?_
 have b3:OA 4004 g2 w2 3 ([]:List Int) (.slice none 0 0):=OA.nil
 refine Zg (.int .i64 (0)) rfl rfl ?_
 refine Zb (Zd (Zf (Za (Ze .plain rfl (D_allocOc (g:=g2) 2006 (0:Int) Tryz.zeroValue3 (fun m w=>⟨_,rep_int,rfl⟩) fun g4 w4 p4 hs b4 cb=>?_)))))
 have hfr:=hfr.stp hs
 have q1:=q1.stp hs
 have q2:=q2.stp hs
 have b3:=b3.stp hs rfl
 clear cb
 refine Ze .plain rfl (D_storeOc (g:=g4) (v:=.int .i64 (0)) Tryz.sizeOf3 rfl b4 rfl (Zj.2 rfl) fun g5 w5 hs b5 cb=>?_)
 clear cb
 have hfr:=hfr.stp hs
 have q1:=q1.stp hs
 have q2:=q2.stp hs
 have b3:=b3.stp hs rfl
 refine Zb (Zd ?_)
 obtain ⟨i6,hx,h⟩:=bsome h
 refine E_join (fun e w=>∃ (g:Gh) ,Fr gI wI g w∧e 2=p1∧PT g.m w (x0:Int) p1∧e 3=p2∧PT g.m w (x1:List Int) p2∧e 4=.slice none 0 0∧OA 4004 g w 3 (([]:List Int):List Int) (Value.slice none 0 0)∧e 6=p4∧OB 2006 g w 3 (i6:Int) p4) (fun Q' hQ=>?_) (fun tN yO hR=>?_)
 ·replace h := hx
  clear hx
  refine Zf (Za (Ze .plain rfl (D_load (g:=g5) Tryz.isAgg28 Tryz.sizeOf28 rfl q2 fun dF eL=>?_)))
  refine EL_p (.int .i64 ((x1).length:Int)) (P_len Tryz.underlying28 rfl eL) rfl ?_
  refine Zn (.int .i64 (0)) rfl rfl ?_
  refine Zb (Zd (Zr ?_))
  refine E_lp h (fun (s:Int × Int) e w=>∃ (g:Gh) ,Fr gI wI g w∧e 2=p1∧PT g.m w (x0:Int) p1∧e 3=p2∧PT g.m w (x1:List Int) p2∧e 4=.slice none 0 0∧OA 4004 g w 3 (([]:List Int):List Int) (Value.slice none 0 0)∧e 6=p4∧OB 2006 g w 3 (s.1:Int) p4∧e 15=dF∧RV g.m w (x1:List Int) dF∧e 16=.int .i64 (((x1).length:Int))∧e 17=.int .i64 (s.2)) ⟨g5,hfr,rfl,q1,rfl,q2,rfl,b3,rfl,b5,rfl,eL,rfl,rfl⟩ (fun X22 bL nL=>?_)
  rintro ⟨rA,t5⟩ uN zO ⟨hG,hfr,iG,zB,jG,cC,kG,mC,qC,bE,eF,u9,rF,eD⟩ h
  refine Zf (Za (EL_in (.bool ((decide (t5 < ((x1).length:Int))))) eD rF rfl rfl ?_))
  refine Zb (Zd (Zf ?_))
  rcases Zt h with ⟨yF,h⟩ | ⟨yF,h⟩
  ·refine E_ct yF rfl ?_
   refine Zu (Zd ?_)
   obtain ⟨yB,hx,h⟩:=bsome h
   refine E_join (fun e w=>∃ (g:Gh) ,Fr gI wI g w∧e 2=p1∧PT g.m w (x0:Int) p1∧e 3=p2∧PT g.m w (x1:List Int) p2∧e 4=.slice none 0 0∧OA 4004 g w 3 (([]:List Int):List Int) (Value.slice none 0 0)∧e 6=p4∧OB 2006 g w 3 (yB:Int) p4∧e 15=dF∧RV g.m w (x1:List Int) dF∧e 16=.int .i64 (((x1).length:Int))∧e 17=.int .i64 (t5)) (fun Q' hQ=>?_) (fun vN aP hR=>?_)
   ·replace h := hx
    clear hx
    refine Zr ?_
    refine Zf (Za ?_)
    obtain ⟨vB,xH,h⟩:=bsome h
    refine EL_p (ePtr dF t5 1) (Zh (α:=Int) Tryz.underlying28 Tryz.sizeOf3 eF u9 eD xH) rfl ?_
    have oM:=PT_idx u9 xH
    refine Ze .plain rfl (D_load (g:=hG) Tryz.isAgg3 Tryz.sizeOf3 rfl oM fun bP pM=>?_)
    obtain rfl:=Zj.1 pM
    refine Zg (.int .i64 (vB)) rfl rfl ?_
    refine Zb (Zd (Za (Ze .plain rfl (D_loadO (g:=hG) Tryz.isAgg3 Tryz.sizeOf3 qC bE fun cP qM=>?_))))
    obtain rfl:=Zj.1 qM
    refine Zn (.int .i64 (vB)) rfl rfl ?_
    refine EL_p (.int .i64 (max64 vB (0:Int))) (P_max rfl rfl) rfl ?_
    refine EL_p (.int .i64 (min64 (max64 vB (0:Int)) (1000:Int))) (P_min rfl rfl) rfl ?_
    refine EL_p (.int .i64 ((w64 (rA + (min64 (max64 vB (0:Int)) (1000:Int)))))) (P_int rfl rfl rfl) rfl ?_
    refine Ze .plain rfl (D_storeOc (g:=hG) (v:=.int .i64 ((w64 (rA + (min64 (max64 vB (0:Int)) (1000:Int)))))) Tryz.sizeOf3 qC bE rfl (Zj.2 rfl) fun rM dP hs b34 cb=>?_)
    clear cb
    have hfr:=hfr.stp hs
    have zB:=zB.stp hs
    have cC:=cC.stp hs
    have mC:=mC.stp hs rfl
    have u9:=u9.stp hs
    refine Zb (blk_n ?_)
    obtain rfl:=sinj h
    exact hQ _ _ ⟨rM,hfr,iG,zB,jG,cC,kG,mC,qC,b34,eF,u9,rF,eD⟩
   ·clear hx
    obtain ⟨sM,hfr,rJ,sJ,vJ,xJ,yJ,zJ,aK,bK,yH,zH,aI,bI⟩:=hR
    refine Za (EL_in (.int .i64 ((w64 (t5 + (1:Int))))) bI rfl rfl rfl ?_)
    refine Zn (.int .i64 ((w64 (t5 + (1:Int))))) rfl rfl ?_
    exact Zb (Zd (nL (yB,(w64 (t5 + (1:Int)))) _ _ ⟨sM,hfr,rJ,sJ,vJ,xJ,yJ,zJ,aK,bK,yH,zH,aI,rfl⟩ h))
  ·refine E_cf yF rfl ?_
   refine E_exit ?_
   refine thn_e ?_
   refine thn_e ?_
   refine blk_hit ?_
   obtain rfl:=sinj h
   exact hQ _ _ ⟨hG,hfr,iG,zB,jG,cC,kG,mC,qC,bE⟩
 ·clear hx
  obtain ⟨gL,hfr,iE,m8,rC,g8,lG,v8,lE,n8⟩:=hR
  refine Zq h (fun (s:(List Int)) e w=>∃ (g:Gh) (v4:Value),Fr gI wI g w∧e 2=p1∧PT g.m w (x0:Int) p1∧e 3=p2∧PT g.m w (x1:List Int) p2∧e 4=v4∧OA 4004 g w 3 (s:List Int) v4∧e 6=p4∧OB 2006 g w 3 (i6:Int) p4) (fun X62 dL oL h=>?_) ?_
  ·refine Zr ?_
   refine Zf (Za (Ze .plain rfl (D_load (g:=gL) Tryz.isAgg3 Tryz.sizeOf3 iE m8 fun eP tM=>?_)))
   obtain rfl:=Zj.1 tM
   refine Ze .plain rfl (D_buildSlice (g:=gL) 3029 (xs:=([x0]:List Int)) (vs:=[.int .i64 (x0)]) Tryz.underlying28 Tryz.sizeOf3 Tryz.zeroValue3 rfl rfl (.cons rfl .nil) (RVs.cons (Zj.2 rfl) RVs.nil) rfl rfl fun uM gP vM hs o65 xM hxt hfl=>?_)
   have hfr:=hfr.stp hs
   have m8:=m8.stp hs
   have g8:=g8.stp hs
   have v8:=v8.stp hs rfl
   have n8:=n8.stp hs rfl
   obtain ⟨gG,pL,h⟩:=bsome h
   refine Ze .plain rfl (Zp (g:=uM) (vs:=[.int .i64 (0),.int .i64 (1000000000),vM]) en63 (.cons rfl (.cons rfl (.cons rfl .nil))) (wk63 xM pL) fun sF dI iP hs hr=>?_)
   have hfr:=hfr.ext hs
   have m8:=m8.ext hs
   have g8:=g8.ext hs
   have v8:=v8.ext hs
   have n8:=n8.ext hs
   subst hr
   refine EL_p (.bool (!gG)) (P_not rfl) rfl ?_
   refine Zg (.bool (!gG)) rfl rfl ?_
   refine Zb (Zd ?_)
   rcases Zt h with ⟨zF,h⟩ | ⟨zF,h⟩
   ·refine E_ct zF rfl ?_
    refine Zf (Za (Zg (.slice none 0 0) rfl rfl ?_))
    have b69:OA 4004 sF dI 3 ([]:List Int) (.slice none 0 0):=OA.nil
    refine Zg (.int .i64 (3)) rfl rfl ?_
    refine Zb (Zd (E_ret (blk_r ?_)))
    refine thn_r ?_
    obtain ⟨gp70,hs,rp70⟩:=OM.pub (b69.toM)
    have hfr:=hfr.stp hs
    obtain rfl:=sinj h
    exact end2 rfl rfl (show _=.slice none 0 0 from rfl) (show _=.int .i64 (3) from rfl) ⟨_,hfr,_,_,rfl,rp70,rfl⟩
   ·refine E_cf zF rfl ?_
    refine Zf (Za (Ze .plain rfl (D_load (g:=sF) Tryz.isAgg28 Tryz.sizeOf28 rC g8 fun jP bN=>?_)))
    refine EL_p (.int .i64 ((x1).length:Int)) (P_len Tryz.underlying28 rfl bN) rfl ?_
    refine EL_in (.bool ((decide (((x1).length:Int) > (10:Int))))) rfl rfl rfl rfl ?_
    refine Zg (.bool ((decide (((x1).length:Int) > (10:Int))))) rfl rfl ?_
    refine Zb (Zd ?_)
    rcases Zt h with ⟨aG,h⟩ | ⟨aG,h⟩
    ·refine E_ct aG rfl ?_
     refine Zf (Za (Zg (.slice none 0 0) rfl rfl ?_))
     have b73:OA 4004 sF dI 3 ([]:List Int) (.slice none 0 0):=OA.nil
     refine Zg (.int .i64 (5)) rfl rfl ?_
     refine Zb (Zd (E_ret (blk_r ?_)))
     refine thn_r ?_
     obtain ⟨gp74,hs,rp74⟩:=OM.pub (b73.toM)
     have hfr:=hfr.stp hs
     obtain rfl:=sinj h
     exact end2 rfl rfl (show _=.slice none 0 0 from rfl) (show _=.int .i64 (5) from rfl) ⟨_,hfr,_,_,rfl,rp74,rfl⟩
    ·refine E_cf aG rfl ?_
     obtain ⟨n9,hx,h⟩:=bsome h
     refine E_join (fun e w=>∃ (g:Gh) ,Fr gI wI g w∧e 2=p1∧PT g.m w (x0:Int) p1∧e 3=p2∧PT g.m w (x1:List Int) p2∧e 4=.slice none 0 0∧OA 4004 g w 3 (([]:List Int):List Int) (Value.slice none 0 0)∧e 6=p4∧OB 2006 g w 3 (i6:Int) p4∧e 36=.bool (n9)) (fun Q' hQ=>?_) (fun xN cN hR=>?_)
     ·replace h := hx
      clear hx
      refine Zf (Za (Ze .plain rfl (D_load (g:=sF) Tryz.isAgg28 Tryz.sizeOf28 rC g8 fun dN eN=>?_)))
      obtain ⟨cF,qL,h⟩:=bsome h
      refine Ze .plain rfl (Zp (g:=sF) (vs:=[.int .i64 (0),.int .i64 (1000),dN]) en63 (.cons rfl (.cons rfl (.cons rfl .nil))) (wk63 eN qL) fun iI yN kP hs hr=>?_)
      have hfr:=hfr.ext hs
      have m8:=m8.ext hs
      have g8:=g8.ext hs
      have v8:=v8.ext hs
      have n8:=n8.ext hs
      subst hr
      refine EL_p (.bool (!cF)) (P_not rfl) rfl ?_
      refine Zg (.bool (!cF)) rfl rfl ?_
      refine Zb (Zd ?_)
      rcases Zt h with ⟨bG,h⟩ | ⟨bG,h⟩
      ·refine E_ct bG rfl ?_
       refine Zu ?_
       obtain rfl:=sinj h
       exact hQ _ _ ⟨iI,hfr,iE,m8,rC,g8,lG,v8,lE,n8,rfl⟩
      ·refine E_cf bG rfl ?_
       refine Za (Ze .plain rfl (D_loadO (g:=iI) Tryz.isAgg3 Tryz.sizeOf3 lE n8 fun lP gN=>?_))
       obtain rfl:=Zj.1 gN
       refine EL_in (.bool ((i6 == (0:Int)))) rfl rfl rfl rfl ?_
       refine Zg (.bool ((i6 == (0:Int)))) rfl rfl ?_
       refine Zb ?_
       obtain rfl:=sinj h
       exact hQ _ _ ⟨iI,hfr,iE,m8,rC,g8,lG,v8,lE,n8,rfl⟩
     ·clear hx
      obtain ⟨iL,hfr,cK,dK,lK,mK,nK,oK,pK,qK,tF⟩:=hR
      rcases Zt h with ⟨cG,h⟩ | ⟨cG,h⟩
      ·refine E_cond_true (Eq.trans (show ev _ _ = .bool (n9) from tF) (congrArg Value.bool cG)) ?_
       refine Zf (Za (Zg (.slice none 0 0) rfl rfl ?_))
       have b87:OA 4004 iL cN 3 ([]:List Int) (.slice none 0 0):=OA.nil
       refine Zg (.int .i64 (2)) rfl rfl ?_
       refine Zb (Zd (E_ret (blk_r ?_)))
       refine thn_r ?_
       obtain ⟨gp88,hs,rp88⟩:=OM.pub (b87.toM)
       have hfr:=hfr.stp hs
       obtain rfl:=sinj h
       exact end2 rfl rfl (show _=.slice none 0 0 from rfl) (show _=.int .i64 (2) from rfl) ⟨_,hfr,_,_,rfl,rp88,rfl⟩
      ·refine E_cond_false (Eq.trans (show ev _ _ = .bool (n9) from tF) (congrArg Value.bool cG)) ?_
       exact Zu (blk_n (Zd (oL (([]:List Int)) _ _ ⟨iL,(.slice none 0 0),hfr,cK,dK,lK,mK,nK,oK,pK,qK⟩ h)))
  ·rintro eG zN mP ⟨iN, sK, hfr, mG, uC, mE, iB, tK, oE, uK, rE⟩ h
   refine Zf (Zs (x:=.tmp 2) Tryz.isAgg3 Tryz.sizeOf3 uC fun nP jN rL=>?_)
   obtain rfl:=Zj.1 jN
   refine Zs (x:=.tmp 3) Tryz.isAgg28 Tryz.sizeOf28 iB fun kN lN tL=>?_
   obtain ⟨zE,uL,h⟩:=bsome h
   refine E_drawL (g:=iN) (n:=6) [(3,(fun v g w=>OM 9045 g w 3 zE v))] [0,1,2,3,4,5] rfl mixed (by kernel_rfl) (⟨fun _=>up_om,trivial⟩) ?_
   refine L_ld (c:=.int .i64 (x0)) rfl rfl .plain (fun _ _ h=>h.ch) rL mG ?_
   refine L_ld (c:=kN) rfl rfl .plain (fun _ _ h=>h.ch) tL mE ?_
   refine L_p (.int .i64 ((x1).length:Int)) rfl rfl (P_len Tryz.underlying28 rfl lN) ?_
   refine L_do (φ:=fun v g w=>OM 9045 g w 3 zE v) rfl rfl .plain (fun g w hd=>D_makeSliceX (g:=g) 9045 (0:Int) rfl Tryz.underlying28 info_3 rfl (fun _ _=>rfl) rfl rfl uL fun g' w' v hs b=>⟨g',hs,b⟩) (fun l8 hv=>?_)
   clear hv
   refine L_p (.int .i64 (x0)) rfl rfl (P_assign rfl) ?_
   refine L_p l8 rfl rfl (P_assign rfl) ?_
   refine L_nil fun jL oP hall=>?_
   have hs:=hall.1
   have hfr:=hfr.ext hs
   have uC:=uC.ext hs
   have iB:=iB.ext hs
   have oE:=oE.ext hs
   have rE:=rE.ext hs
   have b104:=(word_all (A:=fun g w=>OM 9045 g w 3 zE l8) 3 rfl hall)
   clear hs hall
   refine Zb (Zd ?_)
   obtain ⟨⟨bD,x6,mB⟩,hx,h⟩:=bsome h
   refine E_join (fun e w=>∃ (g:Gh) (v4:Value),Fr gI wI g w∧e 2=p1∧PT g.m w (x0:Int) p1∧e 3=p2∧PT g.m w (x1:List Int) p2∧e 4=v4∧OA 4004 g w 3 (bD:List Int) v4∧e 6=p4∧OB 2006 g w 3 (i6:Int) p4∧e 9=.int .i64 (x6)∧e 10=l8∧OM 9045 g w 3 (mB:List Int) l8) (fun Q' hQ=>?_) (fun mN aO hR=>?_)
   ·replace h := hx
    clear hx
    refine Zf (Za (Ze .plain rfl (D_load (g:=jL) Tryz.isAgg28 Tryz.sizeOf28 mE iB fun gD jI=>?_)))
    refine EL_p (.int .i64 ((x1).length:Int)) (P_len Tryz.underlying28 rfl jI) rfl ?_
    refine Zn (.int .i64 (0)) rfl rfl ?_
    refine Zb (Zd (Zr ?_))
    refine E_lp h (fun (s:(List Int) × Int × (List Int) × Int) e w=>∃ (g:Gh) (v4:Value),Fr gI wI g w∧e 2=p1∧PT g.m w (x0:Int) p1∧e 3=p2∧PT g.m w (x1:List Int) p2∧e 4=v4∧OA 4004 g w 3 (s.1:List Int) v4∧e 6=p4∧OB 2006 g w 3 (i6:Int) p4∧e 9=.int .i64 (s.2.1)∧e 10=l8∧OM 9045 g w 3 (s.2.2.1:List Int) l8∧e 46=gD∧RV g.m w (x1:List Int) gD∧e 47=.int .i64 (((x1).length:Int))∧e 48=.int .i64 (s.2.2.2)) ⟨jL,(sK),hfr,mG,uC,mE,iB,tK,oE,uK,rE,rfl,rfl,b104,rfl,jI,rfl,rfl⟩ (fun X137 sH vK=>?_)
    rintro ⟨vC,d9,z9,o0⟩ nN bO ⟨iD,kI,hfr,jD,y6,uF,k8,vF,lB,lD,i7,xF,nB,m7,tD,l5,uD,iA⟩ h
    refine Zf (Za (EL_in (.bool ((decide (o0 < ((x1).length:Int))))) iA uD rfl rfl ?_))
    refine Zb (Zd (Zf ?_))
    rcases Zt h with ⟨uE,h⟩ | ⟨uE,h⟩
    ·refine E_ct uE rfl ?_
     refine Zu (Zd ?_)
     obtain ⟨⟨yA,aB,bA⟩,hx,h⟩:=bsome h
     refine E_join (fun e w=>∃ (g:Gh) (v4:Value),Fr gI wI g w∧e 2=p1∧PT g.m w (x0:Int) p1∧e 3=p2∧PT g.m w (x1:List Int) p2∧e 4=v4∧OA 4004 g w 3 (yA:List Int) v4∧e 6=p4∧OB 2006 g w 3 (i6:Int) p4∧e 9=.int .i64 (aB)∧e 10=l8∧OM 9045 g w 3 (bA:List Int) l8∧e 46=gD∧RV g.m w (x1:List Int) gD∧e 47=.int .i64 (((x1).length:Int))∧e 48=.int .i64 (o0)) (fun Q' hQ=>?_) (fun oN cO hR=>?_)
     ·replace h := hx
      clear hx
      refine Zr ?_
      refine Zf (Za (Zo iA rfl ?_))
      obtain ⟨aD,sG,h⟩:=bsome h
      refine EL_p (ePtr gD o0 1) (Zh (α:=Int) Tryz.underlying28 Tryz.sizeOf3 tD l5 iA sG) rfl ?_
      have vL:=PT_idx l5 sG
      refine Ze .plain rfl (D_load (g:=iD) Tryz.isAgg3 Tryz.sizeOf3 rfl vL fun dO xL=>?_)
      obtain rfl:=Zj.1 xL
      refine Zg (.int .i64 (o0)) rfl rfl ?_
      refine Zg (.int .i64 (aD)) rfl rfl ?_
      refine Zb (Zd (Zf (Za (Zo nB rfl ?_))))
      refine Zn (.int .i64 (o0)) rfl rfl ?_
      refine Zo vF rfl ?_
      refine Ze .plain rfl (D_load (g:=iD) Tryz.isAgg3 Tryz.sizeOf3 jD y6 fun eO yL=>?_)
      obtain rfl:=Zj.1 yL
      refine Zn (.int .i64 (aD)) rfl rfl ?_
      refine EL_in (.int .i64 ((w64 (x0 * aD)))) rfl rfl rfl rfl ?_
      refine Ze .plain rfl (D_loadO (g:=iD) Tryz.isAgg3 Tryz.sizeOf3 lD i7 fun gO zL=>?_)
      obtain rfl:=Zj.1 zL
      obtain ⟨y158,xK,h⟩:=bsome h
      refine EL_p (.int .i64 (y158)) (P_int rfl rfl (congrArg (Option.map (Value.int .i64)) xK)) rfl ?_
      refine Ze .plain rfl (D_buildSlice (g:=iD) 3061 (xs:=([y158]:List Int)) (vs:=[.int .i64 (y158)]) Tryz.underlying28 Tryz.sizeOf3 Tryz.zeroValue3 rfl rfl (.cons rfl .nil) (RVs.cons (Zj.2 rfl) RVs.nil) rfl rfl fun aM iO jO hs o159 bM hxt hfl=>?_)
      have hfr:=hfr.stp hs
      have y6:=y6.stp hs
      have k8:=k8.stp hs
      have lB:=lB.stp hs rfl
      have i7:=i7.stp hs rfl
      have m7:=m7.stp hs rfl
      have l5:=l5.stp hs
      obtain ⟨y161,yK,h⟩:=bsome h
      refine Ze .plain rfl (D_appendA (g:=aM) plain_int (i:=4004) Tryz.underlying28 info_3 rfl rfl lB rfl bM yK fun cM kO vE hs b160=>?_)
      have hfr:=hfr.stp hs
      have y6:=y6.stp hs
      have k8:=k8.stp hs
      have i7:=i7.stp hs rfl
      have m7:=m7.stp hs rfl
      have l5:=l5.stp hs
      refine Zn (.int .i64 (o0)) rfl rfl ?_
      refine Zg vE rfl rfl ?_
      obtain ⟨lL,xG,h⟩:=bsome h
      refine EL_p (ePtr l8 o0 1) (P_indexAddrM (α:=Int) Tryz.underlying28 Tryz.sizeOf3 rfl m7 rfl xG) rfl ?_
      refine Ze .plain rfl (D_storeM (g:=cM) (α:=Int) (a':=o0) Tryz.sizeOf3 rfl m7 xG rfl (Zj.2 rfl) fun lI lO hs b163=>?_)
      have hfr:=hfr.stp hs
      have y6:=y6.stp hs
      have k8:=k8.stp hs
      have b160:=b160.stp hs rfl
      have i7:=i7.stp hs rfl
      have l5:=l5.stp hs
      refine Zb (Zd (Za (Zo xF rfl ?_)))
      refine Zn vE rfl rfl ?_
      refine Zn (.int .i64 (o0)) rfl rfl ?_
      obtain ⟨zD,yG,h⟩:=bsome h
      refine EL_p (ePtr vE o0 1) (P_indexAddrM (α:=Int) Tryz.underlying28 Tryz.sizeOf3 rfl (b160.toM) rfl yG) rfl ?_
      refine Ze .plain rfl (D_loadM (g:=lI) Tryz.isAgg3 Tryz.sizeOf3 rfl (b160.toM) yG fun mO dM=>?_)
      obtain rfl:=Zj.1 dM
      refine EL_in (.int .i64 ((w64 (d9 - zD)))) rfl rfl rfl rfl ?_
      refine Zg (.int .i64 ((w64 (d9 - zD)))) rfl rfl ?_
      refine Zb (blk_n ?_)
      obtain ⟨rfl,rfl,rfl⟩:=pairs3 h
      exact hQ _ _ ⟨lI,(vE),hfr,jD,y6,uF,k8,rfl,b160,lD,i7,rfl,nB,b163,tD,l5,uD,iA⟩
     ·clear hx
      obtain ⟨eM,mI,hfr,nI,pI,qI,sI,tI,uI,vI,yI,zI,gH,iH,jH,kH,lH,mH⟩:=hR
      refine Za (EL_in (.int .i64 ((w64 (o0 + (1:Int))))) mH rfl rfl rfl ?_)
      refine Zn (.int .i64 ((w64 (o0 + (1:Int))))) rfl rfl ?_
      exact Zb (Zd (vK (yA,aB,bA,(w64 (o0 + (1:Int)))) _ _ ⟨eM,(mI),hfr,nI,pI,qI,sI,tI,uI,vI,yI,zI,gH,iH,jH,kH,lH,rfl⟩ h))
    ·refine E_cf uE rfl ?_
     refine E_exit ?_
     refine thn_e ?_
     refine thn_e ?_
     refine blk_hit ?_
     obtain ⟨rfl,rfl,rfl⟩:=pairs3 h
     exact hQ _ _ ⟨iD,(kI),hfr,jD,y6,uF,k8,vF,lB,lD,i7,xF,nB,m7⟩
   ·clear hx
    obtain ⟨nO,x5,hfr,eJ,nD,gJ,oD,iJ,r8,jJ,kJ,lJ,vD,oB⟩:=hR
    refine Zf (Za (Zo vD rfl ?_))
    obtain ⟨gp168,hs,rp168⟩:=OB.pub kJ
    have hfr:=hfr.stp hs
    have nD:=nD.stp hs
    have oD:=oD.stp hs
    have r8:=r8.stp hs rfl
    have oB:=oB.stp hs rfl
    refine EL_p ((.func (.func 65) #[] #[p1,p2,p4])) (P_makeFunc (capf_0_3 (show ev _ _=p1 from eJ) (show ev _ _=p2 from gJ) (show ev _ _=p4 from jJ))) rfl ?_
    obtain ⟨tH,zK,h⟩:=bsome h
    refine Ze .plain rfl (D_callM (g:=gp168) (i:=9045) (vs:=[l8,(.func (.func 65) #[] #[p1,p2,p4])]) en64 (.cons rfl (.cons rfl .nil)) (wk64 oB ⟨65,#[],#[p1,p2,p4],rfl,en65,fun g' w' hch a0 a1 b0 b1 r hu0 hu1 hr=>by obtain rfl:=Zj.1 hu0; obtain rfl:=Zj.1 hu1; exact Fn.mono (wk65  (nD.ch hch) (oD.ch hch) (rp168.ch hch) hr) fun _ _ _ h=>Zj.2 h⟩ zK) fun oO pN pO hs hr=>?_)
    obtain ⟨hrv,b169⟩:=hr
    have hfr:=hfr.stp hs
    have r8:=r8.stp hs rfl
    subst hrv
    refine Zb (Zd ?_)
    obtain ⟨cD,hx,h⟩:=bsome h
    refine E_join (fun e w=>∃ (g:Gh) ,Fr gI wI g w∧e 4=x5∧OA 4004 g w 3 (cD:List Int) x5) (fun Q' hQ=>?_) (fun qN qO hR=>?_)
    ·replace h := hx
     clear hx
     refine Zf (Za (Zo vD rfl ?_))
     refine Zo lJ rfl ?_
     obtain ⟨gp192,hs,rp192⟩:=OM.pub b169
     have hfr:=hfr.stp hs
     have r8:=r8.stp hs rfl
     obtain ⟨a9,zG,h⟩:=bsome h
     have mJ:=RV_cut rp192 zG
     refine EL_p ((cutV l8 (Int.toNat 0) (Int.toNat x6) 1)) (P_slice Tryz.underlying28 Tryz.sizeOf3 rfl rp192 rfl rfl zG) rfl ?_
     refine EL_p (.int .i64 ((a9).length:Int)) (P_len Tryz.underlying28 rfl mJ) rfl ?_
     refine Zn (.int .i64 (0)) rfl rfl ?_
     refine Zb (Zd (Zr ?_))
     refine E_lp h (fun (s:(List Int) × Int) e w=>∃ (g:Gh) ,Fr gI wI g w∧e 4=x5∧OA 4004 g w 3 (s.1:List Int) x5∧e 77=(cutV l8 (Int.toNat 0) (Int.toNat x6) 1)∧RV g.m w (a9:List Int) (cutV l8 (Int.toNat 0) (Int.toNat x6) 1)∧e 78=.int .i64 (((a9).length:Int))∧e 79=.int .i64 (s.2)) ⟨gp192,hfr,iJ,r8,rfl,mJ,rfl,rfl⟩ (fun X195 uH aL=>?_)
     rintro ⟨k9,u3⟩ rN rO ⟨xE,hfr,sD,y9,xD,x8,yD,tB⟩ h
     refine Zf (Za (EL_in (.bool ((decide (u3 < ((a9).length:Int))))) tB yD rfl rfl ?_))
     refine Zb (Zd (Zf ?_))
     rcases Zt h with ⟨yE,h⟩ | ⟨yE,h⟩
     ·refine E_ct yE rfl ?_
      refine Zu (Zd ?_)
      obtain ⟨dB,hx,h⟩:=bsome h
      refine E_join (fun e w=>∃ (g:Gh) ,Fr gI wI g w∧e 4=x5∧OA 4004 g w 3 (dB:List Int) x5∧e 77=(cutV l8 (Int.toNat 0) (Int.toNat x6) 1)∧RV g.m w (a9:List Int) (cutV l8 (Int.toNat 0) (Int.toNat x6) 1)∧e 78=.int .i64 (((a9).length:Int))∧e 79=.int .i64 (u3)) (fun Q' hQ=>?_) (fun sN sO hR=>?_)
      ·replace h := hx
       clear hx
       refine Zr ?_
       refine Zf (Za ?_)
       obtain ⟨l9,aH,h⟩:=bsome h
       refine EL_p (ePtr ((cutV l8 (Int.toNat 0) (Int.toNat x6) 1)) u3 1) (Zh (α:=Int) Tryz.underlying28 Tryz.sizeOf3 xD x8 tB aH) rfl ?_
       have iM:=PT_idx x8 aH
       refine Ze .plain rfl (D_load (g:=xE) Tryz.isAgg3 Tryz.sizeOf3 rfl iM fun tO jM=>?_)
       obtain rfl:=Zj.1 jM
       refine Zg (.int .i64 (l9)) rfl rfl ?_
       refine Zb (Zd (Za (Zo sD rfl ?_)))
       refine Zn (.int .i64 (l9)) rfl rfl ?_
       obtain ⟨aE,cH,h⟩:=bsome h
       refine EL_p (ePtr x5 l9 1) (P_indexAddrM (α:=Int) Tryz.underlying28 Tryz.sizeOf3 rfl (y9.toM) rfl cH) rfl ?_
       refine Ze .plain rfl (D_loadM (g:=xE) Tryz.isAgg3 Tryz.sizeOf3 rfl (y9.toM) cH fun uO kM=>?_)
       obtain rfl:=Zj.1 kM
       refine EL_in (.int .i64 ((w64 (aE + (1:Int))))) rfl rfl rfl rfl ?_
       obtain ⟨mL,dH,h⟩:=bsome h
       refine EL_p (ePtr x5 l9 1) (P_indexAddrM (α:=Int) Tryz.underlying28 Tryz.sizeOf3 rfl (y9.toM) rfl dH) rfl ?_
       refine Ze .plain rfl (D_storeA (g:=xE) (α:=Int) (a':=((w64 (aE + (1:Int))))) Tryz.sizeOf3 rfl y9 dH rfl (Zj.2 rfl) fun mM vO hs b211=>?_)
       have hfr:=hfr.stp hs
       have x8:=x8.stp hs
       refine Zb (blk_n ?_)
       obtain rfl:=sinj h
       exact hQ _ _ ⟨mM,hfr,sD,b211,xD,x8,yD,tB⟩
      ·clear hx
       obtain ⟨nM,hfr,nJ,oJ,nH,oH,pH,qH⟩:=hR
       refine Za (EL_in (.int .i64 ((w64 (u3 + (1:Int))))) qH rfl rfl rfl ?_)
       refine Zn (.int .i64 ((w64 (u3 + (1:Int))))) rfl rfl ?_
       exact Zb (Zd (aL (dB,(w64 (u3 + (1:Int)))) _ _ ⟨nM,hfr,nJ,oJ,nH,oH,pH,rfl⟩ h))
     ·refine E_cf yE rfl ?_
      refine E_exit ?_
      refine thn_e ?_
      refine thn_e ?_
      refine blk_hit ?_
      obtain rfl:=sinj h
      exact hQ _ _ ⟨xE,hfr,sD,y9⟩
    ·clear hx
     obtain ⟨xO,hfr,pJ,qJ⟩:=hR
     refine Zf (Za (Zo pJ rfl ?_))
     refine Zg x5 rfl rfl ?_
     refine Zg (.int .i64 (0)) rfl rfl ?_
     refine Zb (Zd (E_ret ?_))
     obtain ⟨gp214,hs,rp214⟩:=OM.pub (qJ.toM)
     have hfr:=hfr.stp hs
     obtain rfl:=sinj h
     exact end2 rfl rfl (show _=x5 from rfl) (show _=.int .i64 (0) from rfl) ⟨_,hfr,_,_,rfl,rp214,rfl⟩
def f30 (x0:PayTable):Option (PayEntry × Int):=
 (f70 x0).bind fun y5=>
 jn (σ:=PayEntry) (fun nB=>
  (f71 (y5.1)).bind fun o0=>
  (f74 (o0.1)).bind fun l5=>
  (f74 (o0.2.1)).bind fun u3=>
  jn (σ:=PayEntry × Bool) (fun (jG,zF)=>
   jn (σ:=PayEntry) (fun xH=>
    some (xH,(0:Int))
    ) fun lJ=>
   bif (!zF) then
    some ((⟨0,0,0,0⟩:PayEntry),(9:Int))
   else
    lJ (jG)
   ) fun kG=>
  Option.bind (α:=Bool) (
   bif (l5.2 == (0 : Int)) then
    bif (u3.2 == (0 : Int)) then
     bif (o0.2.2.1 == (0 : Int)) then
      some ((o0.2.2.2 == (0:Int)))
     else
      some (false)
    else
     some (false)
   else
    some (false)
   ) fun xD=>
  bif xD then
   some (nB,(0:Int))
  else
   Option.bind (α:=Bool) (
    bif (l5.2 == (1 : Int)) then
     bif (u3.2 == (1 : Int)) then
      bif (o0.2.2.1 == (0 : Int)) then
       bif (o0.2.2.2 == (0 : Int)) then
        (idx (o0.1) l5.1).bind fun lG=>
        (idx (o0.2.1) u3.1).bind fun mG=>
        some ((lG == mG))
       else
        some (false)
      else
       some (false)
     else
      some (false)
    else
     some (false)
    ) fun bD=>
   bif bD then
    (idx (((y5.1).PayTable).Rows) l5.1).bind fun mJ=>
    (idx mJ u3.1).bind fun v8=>
    (idx (o0.1) l5.1).bind fun x8=>
    (f63 ((0:Int)) ((1000000:Int)) (([(w64 (v8 - x8))]:List Int))).bind fun gH=>
    kG ((⟨(1:Int),l5.1,u3.1,(w64 (v8 - x8))⟩:PayEntry),gH)
   else
    Option.bind (α:=Bool) (
     bif (l5.2 == (1 : Int)) then
      bif (u3.2 == (0 : Int)) then
       bif (o0.2.2.2 == (0 : Int)) then
        (idx (o0.1) l5.1).bind fun cG=>
        some ((cG == (w64 (0 - o0.2.2.1))))
       else
        some (false)
      else
       some (false)
     else
      some (false)
     ) fun aB=>
    bif aB then
     (idx (((y5.1).PayTable).Across) l5.1).bind fun oB=>
     (idx (o0.1) l5.1).bind fun tB=>
     kG ((⟨(2:Int),l5.1,0,(w64 (oB + tB))⟩:PayEntry),true)
    else
     Option.bind (α:=Bool) (
      bif (l5.2 == (0 : Int)) then
       bif (u3.2 == (1 : Int)) then
        bif (o0.2.2.1 == (0 : Int)) then
         (idx (o0.2.1) u3.1).bind fun eG=>
         some ((eG == (w64 (0 - o0.2.2.2))))
        else
         some (false)
       else
        some (false)
      else
       some (false)
      ) fun dB=>
     bif dB then
      (idx (((y5.1).PayTable).Down) u3.1).bind fun vB=>
      (idx (o0.2.1) u3.1).bind fun yB=>
      kG ((⟨(3:Int),0,u3.1,(w64 (vB + yB))⟩:PayEntry),true)
     else
      Option.bind (α:=Bool) (
       bif (l5.2 == (0 : Int)) then
        bif (u3.2 == (0 : Int)) then
         some ((o0.2.2.1 == o0.2.2.2))
        else
         some (false)
       else
        some (false)
       ) fun iB=>
      bif iB then
       (f75 (([(w64 (((y5.1).PayTable).Total + o0.2.2.1))]:List Int))).bind fun iH=>
       kG ((⟨(4:Int),0,0,(w64 (((y5.1).PayTable).Total + o0.2.2.1))⟩:PayEntry),iH)
      else
       kG (nB,false)
  ) fun bO=>
 bif (y5.2 != (0 : Int)) then
  some ((⟨0,0,0,0⟩:PayEntry),y5.2)
 else
  bO ((⟨0,0,0,0⟩:PayEntry))
theorem en30:Enters Tryz.prog 30:=enters_of Tryz.func30 (by kernel_rfl) rfl
theorem wk30 {gI:Gh} {wI:World} {x0:PayTable} {up0:Value} (rp0:RV gI.m wI x0 up0) {r:PayEntry × Int} (h:f30 x0=some r):Fn Tryz.prog 30 #[up0] gI wI (fun m w v=>∃ y0 y1,v=.tuple #[y0,y1]∧RV m w (r.1) y0∧y1=.int .i64 (r.2)):=by
 unfold f30 at h
 refine fn_of_E Tryz.func30 rfl (Nat.le_of_ble_eq_true rfl) fun g0 hm hfr=>?_
 have rp0:RV g0.m wI x0 up0:=hm ▸ rp0
 show E _ 195 none _ _ _ _ _
 refine Zf (Za (Ze .plain rfl (D_box (g:=g0) rfl rp0 fun g1 w1 p1 hs q1=>?_)))
 have hfr:=hfr.ext hs
 refine Ze .plain rfl (D_allocOc (g:=g1) 2002 (⟨0,0,0,0⟩:PayEntry) Tryz.zeroValue98 (fun m w=>⟨_,(rep_two rep_int (rep_two rep_int (rep_two rep_int rep_int))),rfl⟩) fun g2 w2 p2 hs b2 cb=>?_)
 have hfr:=hfr.stp hs
 have q1:=q1.stp hs
 clear cb
 refine Zg (.int .i64 (0)) rfl rfl ?_
 refine Zb (Zd (Zf (Za (Ze .plain rfl (D_load (g:=g2) Tryz.isAgg91 Tryz.sizeOf91 rfl q1 fun v3 r3=>?_)))))
 obtain ⟨y5,hy5,h⟩:=bsome h
 refine Ze .plain rfl (Zp (g:=g2) (vs:=[v3]) en70 (.cons rfl .nil) (wk70 r3 hy5) fun g4 w4_ v4 hs hr=>?_)
 have hfr:=hfr.ext hs
 have b2:=b2.ext hs
 obtain ⟨yI,aR,rfl,zI,rfl⟩:=hr
 refine Zn (.tuple #[yI,.int .i64 (y5.2)]) rfl rfl ?_
 refine EL_p yI (Zi rfl rfl) rfl ?_
 refine EL_p (.int .i64 (y5.2)) (Zi rfl rfl) rfl ?_
 refine Ze .plain rfl (D_allocOc (g:=g4) 2004 (⟨⟨[],[],[],0⟩⟩:PaySheet) Tryz.zeroValue173 (fun m w=>⟨_,(rep_two rep_nil (rep_two rep_nil (rep_two rep_nil rep_int))),rfl⟩) fun g6 w6 p6 hs b6 cb=>?_)
 have hfr:=hfr.stp hs
 have b2:=b2.stp hs rfl
 have zI:=zI.stp hs
 have bR:OSF 2004 60400 0 g6 w6 28 173 ([]:List (List Int)) p6:=cb.osf (by rfl)
 have cR:OSF 2004 60401 1 g6 w6 3 173 ([]:List Int) p6:=cb.osf (by rfl)
 have dR:OSF 2004 60402 2 g6 w6 3 173 ([]:List Int) p6:=cb.osf (by rfl)
 clear cb
 refine Ze .plain rfl (D_storeOc (g:=g6) (v:=yI) Tryz.sizeOf173 rfl b6 rfl zI fun g7 w7 hs b7 cb=>?_)
 clear cb
 have hfr:=hfr.stp hs
 have b2:=b2.stp hs rfl
 refine Zg (.int .i64 (y5.2)) rfl rfl ?_
 refine Zb (Zd (Zq h (fun (s:PayEntry) e w=>∃ (g:Gh) ,Fr gI wI g w∧e 2=p2∧OB 2002 g w 98 (s:PayEntry) p2∧e 4=p6∧OB 2004 g w 173 (y5.1:PaySheet) p6) (fun X12 bO dO h=>?_) ?_))
 ·refine Zf (Za (Zn (.int .i64 (y5.2)) rfl rfl ?_))
  refine EL_in (.bool ((y5.2 != (0:Int)))) rfl rfl rfl rfl ?_
  refine Zb (Zd ?_)
  rcases Zt h with ⟨eJ,h⟩ | ⟨eJ,h⟩
  ·refine E_ct eJ rfl ?_
   refine Zf (Za (Ze .plain rfl (D_loadO (g:=g7) Tryz.isAgg98 Tryz.sizeOf98 rfl b2 fun uO vO=>?_)))
   refine Zn (.int .i64 (y5.2)) rfl rfl ?_
   refine Ze .plain rfl (D_storeOc (g:=g7) (v:=uO) Tryz.sizeOf98 rfl b2 rfl vO fun xR w15 hs b15 cb=>?_)
   clear cb
   have hfr:=hfr.stp hs
   refine Zg (.int .i64 (y5.2)) rfl rfl ?_
   refine Zb (Zd (E_ret (thn_r ?_)))
   obtain rfl:=sinj h
   obtain ⟨ad16,cv16,hp16,eO,cr16⟩:=ob_read Tryz.isAgg98 Tryz.sizeOf98 b15
   exact endm_ct rfl rfl ((show _=p2 from rfl).trans hp16) eO (show _=.int .i64 (y5.2) from rfl) ⟨_,hfr,_,_,rfl,cr16,rfl⟩
  ·refine E_cf eJ rfl ?_
   exact Zu (Zd (dO ((⟨0,0,0,0⟩:PayEntry)) _ _ ⟨g7,hfr,rfl,b2,rfl,b7⟩ h))
 ·rintro nB eR yR ⟨cO, hfr, jH, rA, gG, k9⟩ h
  refine Zf (Za (Ze .plain rfl (D_loadO (g:=cO) Tryz.isAgg173 Tryz.sizeOf173 gG k9 fun xO yO=>?_)))
  obtain ⟨o0,hy20,h⟩:=bsome h
  refine Ze .plain rfl (Zp (g:=cO) (vs:=[xO]) en71 (.cons rfl .nil) (wk71 yO hy20) fun zO gR zR hs hr=>?_)
  have hfr:=hfr.ext hs
  have rA:=rA.ext hs
  have k9:=k9.ext hs
  obtain ⟨x6,y6,lP,mP,rfl,zB,cC,rfl,rfl⟩:=hr
  refine Zn (.tuple #[x6,y6,.int .i64 (o0.2.2.1),.int .i64 (o0.2.2.2)]) rfl rfl ?_
  refine EL_p x6 (Zi rfl rfl) rfl ?_
  refine EL_p y6 (Zi rfl rfl) rfl ?_
  refine EL_p (.int .i64 (o0.2.2.1)) (Zi rfl rfl) rfl ?_
  refine EL_p (.int .i64 (o0.2.2.2)) (Zi rfl rfl) rfl ?_
  refine Zg x6 rfl rfl ?_
  refine Zg y6 rfl rfl ?_
  refine Zg (.int .i64 (o0.2.2.1)) rfl rfl ?_
  refine Zg (.int .i64 (o0.2.2.2)) rfl rfl ?_
  refine Zb (Zd (Zf (Za (Zn x6 rfl rfl ?_))))
  obtain ⟨l5,gO,h⟩:=bsome h
  refine Ze .plain rfl (Zp (g:=zO) (vs:=[x6]) en74 (.cons rfl .nil) (wk74 zB gO) fun aP iR aS hs hr=>?_)
  have hfr:=hfr.ext hs
  have rA:=rA.ext hs
  have k9:=k9.ext hs
  have zB:=zB.ext hs
  have cC:=cC.ext hs
  obtain ⟨nP,oP,rfl,rfl,rfl⟩:=hr
  refine Zn (.tuple #[.int .i64 (l5.1),.int .i64 (l5.2)]) rfl rfl ?_
  refine EL_p (.int .i64 (l5.1)) (Zi rfl rfl) rfl ?_
  refine EL_p (.int .i64 (l5.2)) (Zi rfl rfl) rfl ?_
  refine Zg (.int .i64 (l5.1)) rfl rfl ?_
  refine Zg (.int .i64 (l5.2)) rfl rfl ?_
  refine Zb (Zd (Zf (Za (Zn y6 rfl rfl ?_))))
  obtain ⟨u3,iO,h⟩:=bsome h
  refine Ze .plain rfl (Zp (g:=aP) (vs:=[y6]) en74 (.cons rfl .nil) (wk74 cC iO) fun nJ jR bS hs hr=>?_)
  have hfr:=hfr.ext hs
  have rA:=rA.ext hs
  have k9:=k9.ext hs
  have zB:=zB.ext hs
  have cC:=cC.ext hs
  obtain ⟨pP,sP,rfl,rfl,rfl⟩:=hr
  refine Zn (.tuple #[.int .i64 (u3.1),.int .i64 (u3.2)]) rfl rfl ?_
  refine EL_p (.int .i64 (u3.1)) (Zi rfl rfl) rfl ?_
  refine EL_p (.int .i64 (u3.2)) (Zi rfl rfl) rfl ?_
  refine Zg (.int .i64 (u3.1)) rfl rfl ?_
  refine Zg (.int .i64 (u3.2)) rfl rfl ?_
  refine Zb (Zd (Zf (Za (Zg (.bool true) rfl rfl ?_))))
  refine Zb (Zd (Zq h (fun (s:PayEntry × Bool) e w=>∃ (g:Gh) ,Fr gI wI g w∧e 2=p2∧OB 2002 g w 98 (s.1:PayEntry) p2∧e 13=.bool (s.2)) (fun X614 kG hG h=>?_) ?_))
  ·refine Zr ?_
   obtain ⟨xD,hx,h⟩:=bsome h
   refine E_join (fun e w=>∃ (g:Gh) ,Fr gI wI g w∧e 2=p2∧OB 2002 g w 98 (nB:PayEntry) p2∧e 4=p6∧OB 2004 g w 173 (y5.1:PaySheet) p6∧e 5=x6∧RV g.m w (o0.1:List Int) x6∧e 6=y6∧RV g.m w (o0.2.1:List Int) y6∧e 7=.int .i64 (o0.2.2.1)∧e 8=.int .i64 (o0.2.2.2)∧e 9=.int .i64 (l5.1)∧e 10=.int .i64 (l5.2)∧e 11=.int .i64 (u3.1)∧e 12=.int .i64 (u3.2)∧e 13=.bool (true)∧e 40=.bool (xD)) (fun Q' hQ=>?_) (fun tP lR hR=>?_)
   ·replace h := hx
    clear hx
    refine Za (Zn (.int .i64 (l5.2)) rfl rfl ?_)
    refine EL_in (.bool ((l5.2 == (0:Int)))) rfl rfl rfl rfl ?_
    refine Zn (.bool ((l5.2 == (0:Int)))) rfl rfl ?_
    rcases Zt h with ⟨yE,h⟩ | ⟨yE,h⟩
    ·refine EL_y (.int .i64 (u3.2)) (Zk rfl) rfl rfl yE rfl ?_
     refine EL_y (.bool ((u3.2 == (0:Int)))) (P_int rfl rfl rfl) rfl rfl yE rfl ?_
     refine EL_p (.bool ((u3.2 == (0:Int)))) (Zl (b:=(l5.2 == (0:Int))) rfl (pick_t yE rfl)) rfl ?_
     refine Zn (.bool ((u3.2 == (0:Int)))) rfl rfl ?_
     rcases Zt h with ⟨zE,h⟩ | ⟨zE,h⟩
     ·refine EL_y (.int .i64 (o0.2.2.1)) (Zk rfl) rfl rfl zE rfl ?_
      refine EL_y (.bool ((o0.2.2.1 == (0:Int)))) (P_int rfl rfl rfl) rfl rfl zE rfl ?_
      refine EL_p (.bool ((o0.2.2.1 == (0:Int)))) (Zl (b:=(u3.2 == (0:Int))) rfl (pick_t zE rfl)) rfl ?_
      refine Zn (.bool ((o0.2.2.1 == (0:Int)))) rfl rfl ?_
      rcases Zt h with ⟨cF,h⟩ | ⟨cF,h⟩
      ·refine EL_y (.int .i64 (o0.2.2.2)) (Zk rfl) rfl rfl cF rfl ?_
       refine EL_y (.bool ((o0.2.2.2 == (0:Int)))) (P_int rfl rfl rfl) rfl rfl cF rfl ?_
       refine EL_p (.bool ((o0.2.2.2 == (0:Int)))) (Zl (b:=(o0.2.2.1 == (0:Int))) rfl (pick_t cF rfl)) rfl ?_
       refine Zg (.bool ((o0.2.2.2 == (0:Int)))) rfl rfl ?_
       refine Zb ?_
       obtain rfl:=sinj h
       exact hQ _ _ ⟨nJ,hfr,jH,rA,gG,k9,rfl,zB,rfl,cC,rfl,rfl,rfl,rfl,rfl,rfl,rfl,rfl⟩
      ·refine EL_s rfl rfl cF rfl rfl ?_
       refine EL_s rfl rfl cF rfl rfl ?_
       refine EL_p (.bool false) (Zl (b:=(o0.2.2.1 == (0:Int))) rfl (pick_f cF rfl)) rfl ?_
       refine Zg (.bool false) rfl rfl ?_
       refine Zb ?_
       obtain rfl:=sinj h
       exact hQ _ _ ⟨nJ,hfr,jH,rA,gG,k9,rfl,zB,rfl,cC,rfl,rfl,rfl,rfl,rfl,rfl,rfl,rfl⟩
     ·refine EL_s rfl rfl zE rfl rfl ?_
      refine EL_s rfl rfl zE rfl rfl ?_
      refine EL_p (.bool false) (Zl (b:=(u3.2 == (0:Int))) rfl (pick_f zE rfl)) rfl ?_
      refine EL_dead 4 rfl ?_
      refine Zg (.bool false) rfl rfl ?_
      refine Zb ?_
      obtain rfl:=sinj h
      exact hQ _ _ ⟨nJ,hfr,jH,rA,gG,k9,rfl,zB,rfl,cC,rfl,rfl,rfl,rfl,rfl,rfl,rfl,rfl⟩
    ·refine EL_s rfl rfl yE rfl rfl ?_
     refine EL_s rfl rfl yE rfl rfl ?_
     refine EL_p (.bool false) (Zl (b:=(l5.2 == (0:Int))) rfl (pick_f yE rfl)) rfl ?_
     refine EL_dead 8 rfl ?_
     refine Zg (.bool false) rfl rfl ?_
     refine Zb ?_
     obtain rfl:=sinj h
     exact hQ _ _ ⟨nJ,hfr,jH,rA,gG,k9,rfl,zB,rfl,cC,rfl,rfl,rfl,rfl,rfl,rfl,rfl,rfl⟩
   ·clear hx
    obtain ⟨aG,hfr,lB,t5,sF,i7,yD,x5,zD,i6,mB,cD,aE,l8,mC,m8,bE,yH⟩:=hR
    rcases Zt h with ⟨jI,h⟩ | ⟨jI,h⟩
    ·refine E_cond_true (Eq.trans (show ev _ _ = .bool (xD) from yH) (congrArg Value.bool jI)) ?_
     refine Zf (Za (Ze .plain rfl (D_loadO (g:=aG) Tryz.isAgg98 Tryz.sizeOf98 lB t5 fun jO kO=>?_)))
     refine Ze .plain rfl (D_storeOc (g:=aG) (v:=jO) Tryz.sizeOf98 lB t5 rfl kO fun mR nR hs b624 cb=>?_)
     clear cb
     have hfr:=hfr.stp hs
     refine Zg (.int .i64 (0)) rfl rfl ?_
     refine Zb (Zd (E_ret (blk_r ?_)))
     refine thn_r ?_
     obtain rfl:=sinj h
     obtain ⟨ad625,cv625,hp625,zL,cr625⟩:=ob_read Tryz.isAgg98 Tryz.sizeOf98 b624
     exact endm_ct rfl rfl ((show _=p2 from lB).trans hp625) zL (show _=.int .i64 (0) from rfl) ⟨_,hfr,_,_,rfl,cr625,rfl⟩
    ·refine E_cond_false (Eq.trans (show ev _ _ = .bool (xD) from yH) (congrArg Value.bool jI)) ?_
     obtain ⟨bD,hx,h⟩:=bsome h
     refine E_join (fun e w=>∃ (g:Gh) ,Fr gI wI g w∧e 2=p2∧OB 2002 g w 98 (nB:PayEntry) p2∧e 4=p6∧OB 2004 g w 173 (y5.1:PaySheet) p6∧e 5=x6∧RV g.m w (o0.1:List Int) x6∧e 6=y6∧RV g.m w (o0.2.1:List Int) y6∧e 7=.int .i64 (o0.2.2.1)∧e 8=.int .i64 (o0.2.2.2)∧e 9=.int .i64 (l5.1)∧e 10=.int .i64 (l5.2)∧e 11=.int .i64 (u3.1)∧e 12=.int .i64 (u3.2)∧e 13=.bool (true)∧e 56=.bool (bD)) (fun Q' hQ=>?_) (fun bP aM hR=>?_)
     ·replace h := hx
      clear hx
      rcases Zt h with ⟨m7,h⟩ | ⟨m7,h⟩
      ·rcases Zt h with ⟨n8, h⟩ | ⟨n8, h⟩
       ·rcases Zt h with ⟨yA, h⟩ | ⟨yA, h⟩
        ·rcases Zt h with ⟨r8, h⟩ | ⟨r8, h⟩
         ·obtain ⟨lG, oJ, h⟩ := bsome h
          have lO:=PT_idx x5 oJ
          refine Zs (x:=.tmp 74) Tryz.isAgg3 Tryz.sizeOf3 lO fun oR mO bM=>?_
          obtain rfl:=Zj.1 mO
          obtain ⟨mG,pJ,h⟩:=bsome h
          have nO:=PT_idx i6 pJ
          refine Zs (x:=.tmp 78) Tryz.isAgg3 Tryz.sizeOf3 nO fun pR oO cM=>?_
          obtain rfl:=Zj.1 oO
          refine E_drawL (g:=aG) (n:=26) [] [0,1,2,3,4,5,6,7,8,9,10,11,12,13,14,15,16,17,18,19,20,21,22,23,24,25] rfl mixed (by kernel_rfl) trivial ?_
          refine L_p (.int .i64 (l5.2)) rfl rfl (Zk l8) ?_
          refine L_p (.bool ((l5.2 == (1:Int)))) rfl rfl (P_int rfl rfl rfl) ?_
          refine L_p (.bool ((l5.2 == (1:Int)))) rfl rfl (Zk rfl) ?_
          refine L_y (.int .i64 (u3.2)) rfl rfl rfl rfl m7 (Zk m8) ?_
          refine L_y (.bool ((u3.2 == (1:Int)))) rfl rfl rfl rfl m7 (P_int rfl rfl rfl) ?_
          refine L_p (.bool ((u3.2 == (1:Int)))) rfl rfl (Zl (b:=(l5.2 == (1:Int))) rfl (pick_t m7 rfl)) ?_
          refine L_p (.bool ((u3.2 == (1:Int)))) rfl rfl (Zk rfl) ?_
          refine L_y (.int .i64 (o0.2.2.1)) rfl rfl rfl rfl n8 (Zk mB) ?_
          refine L_y (.bool ((o0.2.2.1 == (0:Int)))) rfl rfl rfl rfl n8 (P_int rfl rfl rfl) ?_
          refine L_p (.bool ((o0.2.2.1 == (0:Int)))) rfl rfl (Zl (b:=(u3.2 == (1:Int))) rfl (pick_t n8 rfl)) ?_
          refine L_p (.bool ((o0.2.2.1 == (0:Int)))) rfl rfl (Zk rfl) ?_
          refine L_y (.int .i64 (o0.2.2.2)) rfl rfl rfl rfl yA (Zk cD) ?_
          refine L_y (.bool ((o0.2.2.2 == (0:Int)))) rfl rfl rfl rfl yA (P_int rfl rfl rfl) ?_
          refine L_p (.bool ((o0.2.2.2 == (0:Int)))) rfl rfl (Zl (b:=(o0.2.2.1 == (0:Int))) rfl (pick_t yA rfl)) ?_
          refine L_p (.bool ((o0.2.2.2 == (0:Int)))) rfl rfl (Zk rfl) ?_
          refine L_y x6 rfl rfl rfl rfl r8 (Zk yD) ?_
          refine L_y (.int .i64 (l5.1)) rfl rfl rfl rfl r8 (Zk aE) ?_
          refine L_y (ePtr x6 l5.1 1) rfl rfl rfl rfl r8 (Zh (α:=Int) Tryz.underlying28 Tryz.sizeOf3 rfl x5 rfl oJ) ?_
          refine L_ld (c:=.int .i64 (lG)) rfl rfl (.yes2 rfl rfl r8) (fun _ _ h=>h.ch) bM rfl ?_
          refine L_y y6 rfl rfl rfl rfl r8 (Zk zD) ?_
          refine L_y (.int .i64 (u3.1)) rfl rfl rfl rfl r8 (Zk mC) ?_
          refine L_y (ePtr y6 u3.1 1) rfl rfl rfl rfl r8 (Zh (α:=Int) Tryz.underlying28 Tryz.sizeOf3 rfl i6 rfl pJ) ?_
          refine L_ld (c:=.int .i64 (mG)) rfl rfl (.yes2 rfl rfl r8) (fun _ _ h=>h.ch) cM rfl ?_
          refine L_y (.bool ((lG == mG))) rfl rfl rfl rfl r8 (P_int rfl rfl rfl) ?_
          refine L_p (.bool ((lG == mG))) rfl rfl (Zl (b:=(o0.2.2.2 == (0:Int))) rfl (pick_t r8 rfl)) ?_
          refine L_p (.bool ((lG == mG))) rfl rfl (P_assign rfl) ?_
          refine L_nl fun pO qR hs=>?_
          have hfr:=hfr.ext hs
          have t5:=t5.ext hs
          have i7:=i7.ext hs
          have x5:=x5.ext hs
          have i6:=i6.ext hs
          clear hs
          refine Zb ?_
          obtain rfl:=sinj h
          exact hQ _ _ ⟨pO,hfr,lB,t5,sF,i7,yD,x5,zD,i6,mB,cD,aE,l8,mC,m8,bE,rfl⟩
         ·refine E_drawL (g := aG) (n := 26) [] [0, 1, 2, 3, 4, 5, 6, 7, 8, 9, 10, 11, 12, 13, 14, 15, 16, 17, 18, 19, 20, 21, 22, 23, 24, 25] rfl mixed (by kernel_rfl) trivial ?_
          refine L_p (.int .i64 (l5.2)) rfl rfl (Zk l8) ?_
          refine L_p (.bool ((l5.2 == (1:Int)))) rfl rfl (P_int rfl rfl rfl) ?_
          refine L_p (.bool ((l5.2 == (1:Int)))) rfl rfl (Zk rfl) ?_
          refine L_y (.int .i64 (u3.2)) rfl rfl rfl rfl m7 (Zk m8) ?_
          refine L_y (.bool ((u3.2 == (1:Int)))) rfl rfl rfl rfl m7 (P_int rfl rfl rfl) ?_
          refine L_p (.bool ((u3.2 == (1:Int)))) rfl rfl (Zl (b:=(l5.2 == (1:Int))) rfl (pick_t m7 rfl)) ?_
          refine L_p (.bool ((u3.2 == (1:Int)))) rfl rfl (Zk rfl) ?_
          refine L_y (.int .i64 (o0.2.2.1)) rfl rfl rfl rfl n8 (Zk mB) ?_
          refine L_y (.bool ((o0.2.2.1 == (0:Int)))) rfl rfl rfl rfl n8 (P_int rfl rfl rfl) ?_
          refine L_p (.bool ((o0.2.2.1 == (0:Int)))) rfl rfl (Zl (b:=(u3.2 == (1:Int))) rfl (pick_t n8 rfl)) ?_
          refine L_p (.bool ((o0.2.2.1 == (0:Int)))) rfl rfl (Zk rfl) ?_
          refine L_y (.int .i64 (o0.2.2.2)) rfl rfl rfl rfl yA (Zk cD) ?_
          refine L_y (.bool ((o0.2.2.2 == (0:Int)))) rfl rfl rfl rfl yA (P_int rfl rfl rfl) ?_
          refine L_p (.bool ((o0.2.2.2 == (0:Int)))) rfl rfl (Zl (b:=(o0.2.2.1 == (0:Int))) rfl (pick_t yA rfl)) ?_
          refine L_p (.bool ((o0.2.2.2 == (0:Int)))) rfl rfl (Zk rfl) ?_
          iterate 9 refine L_s rfl rfl rfl r8 rfl ?_
          refine L_p (.bool false) rfl rfl (Zl (b:=(o0.2.2.2 == (0:Int))) rfl (pick_f r8 rfl)) ?_
          refine L_p (.bool false) rfl rfl (P_assign rfl) ?_
          refine L_nl fun qO rR hs=>?_
          have hfr:=hfr.ext hs
          have t5:=t5.ext hs
          have i7:=i7.ext hs
          have x5:=x5.ext hs
          have i6:=i6.ext hs
          clear hs
          refine Zb ?_
          obtain rfl:=sinj h
          exact hQ _ _ ⟨qO,hfr,lB,t5,sF,i7,yD,x5,zD,i6,mB,cD,aE,l8,mC,m8,bE,rfl⟩
        ·refine E_drawL (g := aG) (n := 26) [] [0, 1, 2, 3, 4, 5, 6, 7, 8, 9, 10, 11, 12, 13, 14, 15, 16, 17, 18, 19, 20, 21, 22, 23, 24, 25] rfl mixed (by kernel_rfl) trivial ?_
         refine L_p (.int .i64 (l5.2)) rfl rfl (Zk l8) ?_
         refine L_p (.bool ((l5.2 == (1:Int)))) rfl rfl (P_int rfl rfl rfl) ?_
         refine L_p (.bool ((l5.2 == (1:Int)))) rfl rfl (Zk rfl) ?_
         refine L_y (.int .i64 (u3.2)) rfl rfl rfl rfl m7 (Zk m8) ?_
         refine L_y (.bool ((u3.2 == (1:Int)))) rfl rfl rfl rfl m7 (P_int rfl rfl rfl) ?_
         refine L_p (.bool ((u3.2 == (1:Int)))) rfl rfl (Zl (b:=(l5.2 == (1:Int))) rfl (pick_t m7 rfl)) ?_
         refine L_p (.bool ((u3.2 == (1:Int)))) rfl rfl (Zk rfl) ?_
         refine L_y (.int .i64 (o0.2.2.1)) rfl rfl rfl rfl n8 (Zk mB) ?_
         refine L_y (.bool ((o0.2.2.1 == (0:Int)))) rfl rfl rfl rfl n8 (P_int rfl rfl rfl) ?_
         refine L_p (.bool ((o0.2.2.1 == (0:Int)))) rfl rfl (Zl (b:=(u3.2 == (1:Int))) rfl (pick_t n8 rfl)) ?_
         refine L_p (.bool ((o0.2.2.1 == (0:Int)))) rfl rfl (Zk rfl) ?_
         refine L_s rfl rfl rfl yA rfl ?_
         refine L_s rfl rfl rfl yA rfl ?_
         refine L_p (.bool false) rfl rfl (Zl (b:=(o0.2.2.1 == (0:Int))) rfl (pick_f yA rfl)) ?_
         refine L_dead (fun _=>rfl) 11 rfl ?_
         refine L_p (.bool false) rfl rfl (P_assign rfl) ?_
         refine L_nl fun rO tR hs=>?_
         have hfr:=hfr.ext hs
         have t5:=t5.ext hs
         have i7:=i7.ext hs
         have x5:=x5.ext hs
         have i6:=i6.ext hs
         clear hs
         refine Zb ?_
         obtain rfl:=sinj h
         exact hQ _ _ ⟨rO,hfr,lB,t5,sF,i7,yD,x5,zD,i6,mB,cD,aE,l8,mC,m8,bE,rfl⟩
       ·refine E_drawL (g := aG) (n := 26) [] [0, 1, 2, 3, 4, 5, 6, 7, 8, 9, 10, 11, 12, 13, 14, 15, 16, 17, 18, 19, 20, 21, 22, 23, 24, 25] rfl mixed (by kernel_rfl) trivial ?_
        refine L_p (.int .i64 (l5.2)) rfl rfl (Zk l8) ?_
        refine L_p (.bool ((l5.2 == (1:Int)))) rfl rfl (P_int rfl rfl rfl) ?_
        refine L_p (.bool ((l5.2 == (1:Int)))) rfl rfl (Zk rfl) ?_
        refine L_y (.int .i64 (u3.2)) rfl rfl rfl rfl m7 (Zk m8) ?_
        refine L_y (.bool ((u3.2 == (1:Int)))) rfl rfl rfl rfl m7 (P_int rfl rfl rfl) ?_
        refine L_p (.bool ((u3.2 == (1:Int)))) rfl rfl (Zl (b:=(l5.2 == (1:Int))) rfl (pick_t m7 rfl)) ?_
        refine L_p (.bool ((u3.2 == (1:Int)))) rfl rfl (Zk rfl) ?_
        refine L_s rfl rfl rfl n8 rfl ?_
        refine L_s rfl rfl rfl n8 rfl ?_
        refine L_p (.bool false) rfl rfl (Zl (b:=(u3.2 == (1:Int))) rfl (pick_f n8 rfl)) ?_
        refine L_dead (fun _=>rfl) 15 rfl ?_
        refine L_p (.bool false) rfl rfl (P_assign rfl) ?_
        refine L_nl fun sO uR hs=>?_
        have hfr:=hfr.ext hs
        have t5:=t5.ext hs
        have i7:=i7.ext hs
        have x5:=x5.ext hs
        have i6:=i6.ext hs
        clear hs
        refine Zb ?_
        obtain rfl:=sinj h
        exact hQ _ _ ⟨sO,hfr,lB,t5,sF,i7,yD,x5,zD,i6,mB,cD,aE,l8,mC,m8,bE,rfl⟩
      ·refine E_drawL (g := aG) (n := 26) [] [0, 1, 2, 3, 4, 5, 6, 7, 8, 9, 10, 11, 12, 13, 14, 15, 16, 17, 18, 19, 20, 21, 22, 23, 24, 25] rfl mixed (by kernel_rfl) trivial ?_
       refine L_p (.int .i64 (l5.2)) rfl rfl (Zk l8) ?_
       refine L_p (.bool ((l5.2 == (1:Int)))) rfl rfl (P_int rfl rfl rfl) ?_
       refine L_p (.bool ((l5.2 == (1:Int)))) rfl rfl (Zk rfl) ?_
       refine L_s rfl rfl rfl m7 rfl ?_
       refine L_s rfl rfl rfl m7 rfl ?_
       refine L_p (.bool false) rfl rfl (Zl (b:=(l5.2 == (1:Int))) rfl (pick_f m7 rfl)) ?_
       refine L_dead (fun _=>rfl) 19 rfl ?_
       refine L_p (.bool false) rfl rfl (P_assign rfl) ?_
       refine L_nl fun tO vR hs=>?_
       have hfr:=hfr.ext hs
       have t5:=t5.ext hs
       have i7:=i7.ext hs
       have x5:=x5.ext hs
       have i6:=i6.ext hs
       clear hs
       refine Zb ?_
       obtain rfl:=sinj h
       exact hQ _ _ ⟨tO,hfr,lB,t5,sF,i7,yD,x5,zD,i6,mB,cD,aE,l8,mC,m8,bE,rfl⟩
     ·clear hx
      obtain ⟨dF,hfr,n9,u9,iE,y9,qC,a9,tF,uF,lE,mE,d9,eD,z9,gD,eF,oH⟩:=hR
      rcases Zt h with ⟨pH,h⟩ | ⟨pH,h⟩
      ·refine E_cond_true (Eq.trans (show ev _ _ = .bool (bD) from oH) (congrArg Value.bool pH)) ?_
       refine Zf (L_loadO (x:=.tmp 85) (SubS.comp part_PaySheet_0 part_PayTable_0 rfl).1 Tryz.isAgg35 Tryz.sizeOf35 y9 fun qJ rJ zK=>?_)
       obtain ⟨mJ,lI,h⟩:=bsome h
       have dM:=PT_idx rJ lI
       refine Zs (x:=.tmp 88) Tryz.isAgg28 Tryz.sizeOf28 dM fun sJ vJ aL=>?_
       obtain ⟨v8,mI,h⟩:=bsome h
       have eM:=PT_idx vJ mI
       refine Zs (x:=.tmp 91) Tryz.isAgg3 Tryz.sizeOf3 eM fun uP iM bL=>?_
       obtain rfl:=Zj.1 iM
       obtain ⟨x8,nI,h⟩:=bsome h
       have jM:=PT_idx a9 nI
       refine Zs (x:=.tmp 95) Tryz.isAgg3 Tryz.sizeOf3 jM fun vP kM dL=>?_
       obtain rfl:=Zj.1 kM
       have kH:RV dF.m aM (⟨(1:Int),l5.1,u3.1,(w64 (v8 - x8))⟩:PayEntry) (.agg (setCh [[.int .i64 0],[.int .i64 0],[.int .i64 0],[.int .i64 0]] [(0,.int .i64 (1)),(1,.int .i64 (l5.1)),(2,.int .i64 (u3.1)),(3,.int .i64 ((w64 (v8 - x8))))]).flatten.toArray):=RV_build rfl (rep_pair (rfl) (rep_pair (rfl) (rep_pair (rfl) (rep_last (rfl)))))
       generalize eL:(Value.agg (setCh [[.int .i64 0],[.int .i64 0],[.int .i64 0],[.int .i64 0]] [(0,.int .i64 (1)),(1,.int .i64 (l5.1)),(2,.int .i64 (u3.1)),(3,.int .i64 ((w64 (v8 - x8))))]).flatten.toArray)=xJ at kH
       refine E_drawL (g:=dF) (n:=17) [] [0,1,2,3,4,5,6,7,8,9,10,11,12,13,14,15,16] rfl mixed (by kernel_rfl) trivial ?_
       refine L_p (.int .i64 (l5.1)) rfl rfl (Zk d9) ?_
       refine L_p (.int .i64 (u3.1)) rfl rfl (Zk z9) ?_
       refine L_p (fPtr p6 0) rfl rfl (Zc at_173_0 iE (OB.ptr y9)) ?_
       refine L_p (fPtr p6 0) rfl rfl (P_fieldAddr2 (o1:=0) rfl at_91_0 rfl (OB.ptr y9)) ?_
       refine L_ld (c:=qJ) rfl rfl .plain (fun _ _ h=>⟨h.ch,fun b hb _=>h.below.block b hb⟩) zK rfl ?_
       refine L_p (.int .i64 (l5.1)) rfl rfl (Zk d9) ?_
       refine L_p (ePtr qJ l5.1 1) rfl rfl (Zh (α:=List Int) Tryz.underlying35 Tryz.sizeOf28 rfl rJ rfl lI) ?_
       refine L_ld (c:=sJ) rfl rfl .plain (fun _ _ h=>h.ch) aL rfl ?_
       refine L_p (.int .i64 (u3.1)) rfl rfl (Zk z9) ?_
       refine L_p (ePtr sJ u3.1 1) rfl rfl (Zh (α:=Int) Tryz.underlying28 Tryz.sizeOf3 rfl vJ rfl mI) ?_
       refine L_ld (c:=.int .i64 (v8)) rfl rfl .plain (fun _ _ h=>h.ch) bL rfl ?_
       refine L_p x6 rfl rfl (Zk qC) ?_
       refine L_p (.int .i64 (l5.1)) rfl rfl (Zk d9) ?_
       refine L_p (ePtr x6 l5.1 1) rfl rfl (Zh (α:=Int) Tryz.underlying28 Tryz.sizeOf3 rfl a9 rfl nI) ?_
       refine L_ld (c:=.int .i64 (x8)) rfl rfl .plain (fun _ _ h=>h.ch) dL rfl ?_
       refine L_p (.int .i64 ((w64 (v8 - x8)))) rfl rfl (P_int rfl rfl rfl) ?_
       refine L_p xJ rfl rfl (eL ▸ P_build (vs:=[(0,.int .i64 (1)),(1,.int .i64 (l5.1)),(2,.int .i64 (u3.1)),(3,.int .i64 ((w64 (v8 - x8))))]) [[.int .i64 0],[.int .i64 0],[.int .i64 0],[.int .i64 0]] lay_98 rfl rfl (.cons rfl (.cons rfl (.cons rfl (.cons rfl .nil)))) ⟨⟨_,rfl,rfl⟩,⟨⟨_,rfl,rfl⟩,⟨⟨_,rfl,rfl⟩,⟨⟨_,rfl,rfl⟩,trivial⟩⟩⟩⟩) ?_
       refine L_nl fun mM xP hs=>?_
       have hfr:=hfr.ext hs
       have u9:=u9.ext hs
       have kH:=kH.ext hs
       clear hs
       refine Ze .plain rfl (D_storeOc (g:=mM) (v:=xJ) Tryz.sizeOf98 n9 u9 rfl kH fun yJ yP hs b1081 cb=>?_)
       clear cb
       have hfr:=hfr.stp hs
       refine Zb (Zd (Za (EL_p (fPtr p2 3) (Zc at_98_3 n9 (OB.ptr b1081)) rfl ?_)))
       refine Ze .plain rfl (D_loadF (g:=yJ) part_PayEntry_3.1 Tryz.isAgg3 Tryz.sizeOf3 rfl b1081 fun zP nM=>?_)
       obtain rfl:=Zj.1 nM
       refine Ze .plain rfl (D_buildSlice (g:=yJ) 3101 (xs:=([(w64 (v8 - x8))]:List Int)) (vs:=[.int .i64 ((w64 (v8 - x8)))]) Tryz.underlying28 Tryz.sizeOf3 Tryz.zeroValue3 rfl rfl (.cons rfl .nil) (RVs.cons (Zj.2 rfl) RVs.nil) rfl rfl fun oM bQ pM hs o1084 qM hxt hfl=>?_)
       have hfr:=hfr.stp hs
       have b1081:=b1081.stp hs rfl
       obtain ⟨gH,gL,h⟩:=bsome h
       refine Ze .plain rfl (Zp (g:=oM) (vs:=[.int .i64 (0),.int .i64 (1000000),pM]) en63 (.cons rfl (.cons rfl (.cons rfl .nil))) (wk63 qM gL) fun rM cP cQ hs hr=>?_)
       have hfr:=hfr.ext hs
       have b1081:=b1081.ext hs
       subst hr
       refine Zg (.bool (gH)) rfl rfl ?_
       exact Zb (blk_n (Zd (hG ((⟨(1:Int),l5.1,u3.1,(w64 (v8 - x8))⟩:PayEntry),gH) _ _ ⟨rM,hfr,n9,b1081,rfl⟩ h)))
      ·refine E_cond_false (Eq.trans (show ev _ _ = .bool (bD) from oH) (congrArg Value.bool pH)) ?_
       obtain ⟨aB,hx,h⟩:=bsome h
       refine E_join (fun e w=>∃ (g:Gh) ,Fr gI wI g w∧e 2=p2∧OB 2002 g w 98 (nB:PayEntry) p2∧e 4=p6∧OB 2004 g w 173 (y5.1:PaySheet) p6∧e 5=x6∧RV g.m w (o0.1:List Int) x6∧e 6=y6∧RV g.m w (o0.2.1:List Int) y6∧e 7=.int .i64 (o0.2.2.1)∧e 8=.int .i64 (o0.2.2.2)∧e 9=.int .i64 (l5.1)∧e 10=.int .i64 (l5.2)∧e 11=.int .i64 (u3.1)∧e 12=.int .i64 (u3.2)∧e 13=.bool (true)∧e 103=.bool (aB)) (fun Q' hQ=>?_) (fun dP sM hR=>?_)
       ·replace h := hx
        clear hx
        refine Za (Zo eD rfl ?_)
        refine EL_in (.bool ((l5.2 == (1:Int)))) rfl rfl rfl rfl ?_
        refine Zn (.bool ((l5.2 == (1:Int)))) rfl rfl ?_
        rcases Zt h with ⟨iD,h⟩ | ⟨iD,h⟩
        ·refine EL_y (.int .i64 (u3.2)) (Zk gD) rfl rfl iD rfl ?_
         refine EL_y (.bool ((u3.2 == (0:Int)))) (P_int rfl rfl rfl) rfl rfl iD rfl ?_
         refine EL_p (.bool ((u3.2 == (0:Int)))) (Zl (b:=(l5.2 == (1:Int))) rfl (pick_t iD rfl)) rfl ?_
         refine Zn (.bool ((u3.2 == (0:Int)))) rfl rfl ?_
         rcases Zt h with ⟨jD,h⟩ | ⟨jD,h⟩
         ·refine EL_y (.int .i64 (o0.2.2.2)) (Zk mE) rfl rfl jD rfl ?_
          refine EL_y (.bool ((o0.2.2.2 == (0:Int)))) (P_int rfl rfl rfl) rfl rfl jD rfl ?_
          refine EL_p (.bool ((o0.2.2.2 == (0:Int)))) (Zl (b:=(u3.2 == (0:Int))) rfl (pick_t jD rfl)) rfl ?_
          refine Zn (.bool ((o0.2.2.2 == (0:Int)))) rfl rfl ?_
          rcases Zt h with ⟨g8,h⟩ | ⟨g8,h⟩
          ·refine EL_y x6 (Zk qC) rfl rfl g8 rfl ?_
           refine EL_y (.int .i64 (l5.1)) (Zk d9) rfl rfl g8 rfl ?_
           obtain ⟨cG,pI,h⟩:=bsome h
           refine EL_y (ePtr x6 l5.1 1) (Zh (α:=Int) Tryz.underlying28 Tryz.sizeOf3 rfl a9 rfl pI) rfl rfl g8 rfl ?_
           have tM:=PT_idx a9 pI
           refine Ze (.yes2 rfl rfl g8) rfl (D_load (g:=dF) Tryz.isAgg3 Tryz.sizeOf3 rfl tM fun dQ uM=>?_)
           obtain rfl:=Zj.1 uM
           refine EL_y (.int .i64 (o0.2.2.1)) (Zk lE) rfl rfl g8 rfl ?_
           refine EL_y (.int .i64 (w64 (0 - o0.2.2.1))) (P_neg rfl) rfl rfl g8 rfl ?_
           refine EL_y (.bool ((cG == (w64 (0 - o0.2.2.1))))) (P_int rfl rfl rfl) rfl rfl g8 rfl ?_
           refine EL_p (.bool ((cG == (w64 (0 - o0.2.2.1))))) (Zl (b:=(o0.2.2.2 == (0:Int))) rfl (pick_t g8 rfl)) rfl ?_
           refine Zg (.bool ((cG == (w64 (0 - o0.2.2.1))))) rfl rfl ?_
           refine Zb ?_
           obtain rfl:=sinj h
           exact hQ _ _ ⟨dF,hfr,n9,u9,iE,y9,qC,a9,tF,uF,lE,mE,d9,eD,z9,gD,eF,rfl⟩
          ·refine EL_s rfl rfl g8 rfl rfl ?_
           iterate 6 refine EL_s rfl rfl g8 rfl rfl ?_
           refine EL_p (.bool false) (Zl (b:=(o0.2.2.2 == (0:Int))) rfl (pick_f g8 rfl)) rfl ?_
           refine Zg (.bool false) rfl rfl ?_
           refine Zb ?_
           obtain rfl:=sinj h
           exact hQ _ _ ⟨dF,hfr,n9,u9,iE,y9,qC,a9,tF,uF,lE,mE,d9,eD,z9,gD,eF,rfl⟩
         ·refine EL_s rfl rfl jD rfl rfl ?_
          refine EL_s rfl rfl jD rfl rfl ?_
          refine EL_p (.bool false) (Zl (b:=(u3.2 == (0:Int))) rfl (pick_f jD rfl)) rfl ?_
          refine EL_dead 9 rfl ?_
          refine Zg (.bool false) rfl rfl ?_
          refine Zb ?_
          obtain rfl:=sinj h
          exact hQ _ _ ⟨dF,hfr,n9,u9,iE,y9,qC,a9,tF,uF,lE,mE,d9,eD,z9,gD,eF,rfl⟩
        ·refine EL_s rfl rfl iD rfl rfl ?_
         refine EL_s rfl rfl iD rfl rfl ?_
         refine EL_p (.bool false) (Zl (b:=(l5.2 == (1:Int))) rfl (pick_f iD rfl)) rfl ?_
         refine EL_dead 13 rfl ?_
         refine Zg (.bool false) rfl rfl ?_
         refine Zb ?_
         obtain rfl:=sinj h
         exact hQ _ _ ⟨dF,hfr,n9,u9,iE,y9,qC,a9,tF,uF,lE,mE,d9,eD,z9,gD,eF,rfl⟩
       ·clear hx
        obtain ⟨rF,hfr,rC,bA,oE,iA,tK,zH,rE,uC,uE,vE,sG,lD,nD,oD,sD,aH⟩:=hR
        rcases Zt h with ⟨qH,h⟩ | ⟨qH,h⟩
        ·refine E_cond_true (Eq.trans (show ev _ _ = .bool (aB) from aH) (congrArg Value.bool qH)) ?_
         refine L_loadO (x:=.tmp 125) (SubS.comp part_PaySheet_0 part_PayTable_1 rfl).1 Tryz.isAgg28 Tryz.sizeOf28 iA fun zJ aK iL=>?_
         obtain ⟨oB,qI,h⟩:=bsome h
         have vM:=PT_idx aK qI
         refine Zs (x:=.tmp 128) Tryz.isAgg3 Tryz.sizeOf3 vM fun eQ xM jL=>?_
         obtain rfl:=Zj.1 xM
         obtain ⟨tB,sI,h⟩:=bsome h
         have bN:=PT_idx zH sI
         refine Zs (x:=.tmp 132) Tryz.isAgg3 Tryz.sizeOf3 bN fun gQ cN lL=>?_
         obtain rfl:=Zj.1 cN
         have lH:RV rF.m sM (⟨(2:Int),l5.1,0,(w64 (oB + tB))⟩:PayEntry) (.agg (setCh [[.int .i64 0],[.int .i64 0],[.int .i64 0],[.int .i64 0]] [(0,.int .i64 (2)),(1,.int .i64 (l5.1)),(3,.int .i64 ((w64 (oB + tB))))]).flatten.toArray):=RV_build rfl (rep_pair (rfl) (rep_pair (rfl) (rep_pair (rep_int) (rep_last (rfl)))))
         generalize mL:(Value.agg (setCh [[.int .i64 0],[.int .i64 0],[.int .i64 0],[.int .i64 0]] [(0,.int .i64 (2)),(1,.int .i64 (l5.1)),(3,.int .i64 ((w64 (oB + tB))))]).flatten.toArray)=bK at lH
         refine E_drawL (g:=rF) (n:=13) [] [0,1,2,3,4,5,6,7,8,9,10,11,12] rfl mixed (by kernel_rfl) trivial ?_
         refine L_p (.int .i64 (l5.1)) rfl rfl (Zk sG) ?_
         refine L_p (fPtr p6 0) rfl rfl (Zc at_173_0 oE (OB.ptr iA)) ?_
         refine L_p (fPtr p6 1) rfl rfl (P_fieldAddr2 (o1:=0) rfl at_91_1 rfl (OB.ptr iA)) ?_
         refine L_ld (c:=zJ) rfl rfl .plain (fun _ _ h=>⟨h.ch,fun b hb _=>h.below.block b hb⟩) iL rfl ?_
         refine L_p (.int .i64 (l5.1)) rfl rfl (Zk sG) ?_
         refine L_p (ePtr zJ l5.1 1) rfl rfl (Zh (α:=Int) Tryz.underlying28 Tryz.sizeOf3 rfl aK rfl qI) ?_
         refine L_ld (c:=.int .i64 (oB)) rfl rfl .plain (fun _ _ h=>h.ch) jL rfl ?_
         refine L_p x6 rfl rfl (Zk tK) ?_
         refine L_p (.int .i64 (l5.1)) rfl rfl (Zk sG) ?_
         refine L_p (ePtr x6 l5.1 1) rfl rfl (Zh (α:=Int) Tryz.underlying28 Tryz.sizeOf3 rfl zH rfl sI) ?_
         refine L_ld (c:=.int .i64 (tB)) rfl rfl .plain (fun _ _ h=>h.ch) lL rfl ?_
         refine L_p (.int .i64 ((w64 (oB + tB)))) rfl rfl (P_int rfl rfl rfl) ?_
         refine L_p bK rfl rfl (mL ▸ P_build (vs:=[(0,.int .i64 (2)),(1,.int .i64 (l5.1)),(3,.int .i64 ((w64 (oB + tB))))]) [[.int .i64 0],[.int .i64 0],[.int .i64 0],[.int .i64 0]] lay_98 rfl rfl (.cons rfl (.cons rfl (.cons rfl .nil))) ⟨⟨_,rfl,rfl⟩,⟨⟨_,rfl,rfl⟩,⟨⟨_,rfl,rfl⟩,trivial⟩⟩⟩) ?_
         refine L_nl fun dN iQ hs=>?_
         have hfr:=hfr.ext hs
         have bA:=bA.ext hs
         have lH:=lH.ext hs
         clear hs
         refine Ze .plain rfl (D_storeOc (g:=dN) (v:=bK) Tryz.sizeOf98 rC bA rfl lH fun eN jQ hs b1137 cb=>?_)
         clear cb
         have hfr:=hfr.stp hs
         exact Zb (blk_n (Zd (hG ((⟨(2:Int),l5.1,0,(w64 (oB + tB))⟩:PayEntry),true) _ _ ⟨eN,hfr,rC,b1137,sD⟩ h)))
        ·refine E_cond_false (Eq.trans (show ev _ _ = .bool (aB) from aH) (congrArg Value.bool qH)) ?_
         obtain ⟨dB,hx,h⟩:=bsome h
         refine E_join (fun e w=>∃ (g:Gh) ,Fr gI wI g w∧e 2=p2∧OB 2002 g w 98 (nB:PayEntry) p2∧e 4=p6∧OB 2004 g w 173 (y5.1:PaySheet) p6∧e 6=y6∧RV g.m w (o0.2.1:List Int) y6∧e 7=.int .i64 (o0.2.2.1)∧e 8=.int .i64 (o0.2.2.2)∧e 10=.int .i64 (l5.2)∧e 11=.int .i64 (u3.1)∧e 12=.int .i64 (u3.2)∧e 13=.bool (true)∧e 136=.bool (dB)) (fun Q' hQ=>?_) (fun eP gN hR=>?_)
         ·replace h := hx
          clear hx
          refine Za (Zo lD rfl ?_)
          refine EL_in (.bool ((l5.2 == (0:Int)))) rfl rfl rfl rfl ?_
          refine Zn (.bool ((l5.2 == (0:Int)))) rfl rfl ?_
          rcases Zt h with ⟨tD,h⟩ | ⟨tD,h⟩
          ·refine EL_y (.int .i64 (u3.2)) (Zk oD) rfl rfl tD rfl ?_
           refine EL_y (.bool ((u3.2 == (1:Int)))) (P_int rfl rfl rfl) rfl rfl tD rfl ?_
           refine EL_p (.bool ((u3.2 == (1:Int)))) (Zl (b:=(l5.2 == (0:Int))) rfl (pick_t tD rfl)) rfl ?_
           refine Zn (.bool ((u3.2 == (1:Int)))) rfl rfl ?_
           rcases Zt h with ⟨uD,h⟩ | ⟨uD,h⟩
           ·refine EL_y (.int .i64 (o0.2.2.1)) (Zk uE) rfl rfl uD rfl ?_
            refine EL_y (.bool ((o0.2.2.1 == (0:Int)))) (P_int rfl rfl rfl) rfl rfl uD rfl ?_
            refine EL_p (.bool ((o0.2.2.1 == (0:Int)))) (Zl (b:=(u3.2 == (1:Int))) rfl (pick_t uD rfl)) rfl ?_
            refine Zn (.bool ((o0.2.2.1 == (0:Int)))) rfl rfl ?_
            rcases Zt h with ⟨k8,h⟩ | ⟨k8,h⟩
            ·refine EL_y y6 (Zk rE) rfl rfl k8 rfl ?_
             refine EL_y (.int .i64 (u3.1)) (Zk nD) rfl rfl k8 rfl ?_
             obtain ⟨eG,tI,h⟩:=bsome h
             refine EL_y (ePtr y6 u3.1 1) (Zh (α:=Int) Tryz.underlying28 Tryz.sizeOf3 rfl uC rfl tI) rfl rfl k8 rfl ?_
             have iN:=PT_idx uC tI
             refine Ze (.yes2 rfl rfl k8) rfl (D_load (g:=rF) Tryz.isAgg3 Tryz.sizeOf3 rfl iN fun kQ jN=>?_)
             obtain rfl:=Zj.1 jN
             refine EL_y (.int .i64 (o0.2.2.2)) (Zk vE) rfl rfl k8 rfl ?_
             refine EL_y (.int .i64 (w64 (0 - o0.2.2.2))) (P_neg rfl) rfl rfl k8 rfl ?_
             refine EL_y (.bool ((eG == (w64 (0 - o0.2.2.2))))) (P_int rfl rfl rfl) rfl rfl k8 rfl ?_
             refine EL_p (.bool ((eG == (w64 (0 - o0.2.2.2))))) (Zl (b:=(o0.2.2.1 == (0:Int))) rfl (pick_t k8 rfl)) rfl ?_
             refine Zg (.bool ((eG == (w64 (0 - o0.2.2.2))))) rfl rfl ?_
             refine Zb ?_
             obtain rfl:=sinj h
             exact hQ _ _ ⟨rF,hfr,rC,bA,oE,iA,rE,uC,uE,vE,lD,nD,oD,sD,rfl⟩
            ·refine EL_s rfl rfl k8 rfl rfl ?_
             iterate 6 refine EL_s rfl rfl k8 rfl rfl ?_
             refine EL_p (.bool false) (Zl (b:=(o0.2.2.1 == (0:Int))) rfl (pick_f k8 rfl)) rfl ?_
             refine Zg (.bool false) rfl rfl ?_
             refine Zb ?_
             obtain rfl:=sinj h
             exact hQ _ _ ⟨rF,hfr,rC,bA,oE,iA,rE,uC,uE,vE,lD,nD,oD,sD,rfl⟩
           ·refine EL_s rfl rfl uD rfl rfl ?_
            refine EL_s rfl rfl uD rfl rfl ?_
            refine EL_p (.bool false) (Zl (b:=(u3.2 == (1:Int))) rfl (pick_f uD rfl)) rfl ?_
            refine EL_dead 9 rfl ?_
            refine Zg (.bool false) rfl rfl ?_
            refine Zb ?_
            obtain rfl:=sinj h
            exact hQ _ _ ⟨rF,hfr,rC,bA,oE,iA,rE,uC,uE,vE,lD,nD,oD,sD,rfl⟩
          ·refine EL_s rfl rfl tD rfl rfl ?_
           refine EL_s rfl rfl tD rfl rfl ?_
           refine EL_p (.bool false) (Zl (b:=(l5.2 == (0:Int))) rfl (pick_f tD rfl)) rfl ?_
           refine EL_dead 13 rfl ?_
           refine Zg (.bool false) rfl rfl ?_
           refine Zb ?_
           obtain rfl:=sinj h
           exact hQ _ _ ⟨rF,hfr,rC,bA,oE,iA,rE,uC,uE,vE,lD,nD,oD,sD,rfl⟩
         ·clear hx
          obtain ⟨iG,hfr,xE,vC,vF,aD,uK,aI,xF,vK,gJ,bG,iJ,jJ,cH⟩:=hR
          rcases Zt h with ⟨sH,h⟩ | ⟨sH,h⟩
          ·refine E_cond_true (Eq.trans (show ev _ _ = .bool (dB) from cH) (congrArg Value.bool sH)) ?_
           refine L_loadO (x:=.tmp 158) (SubS.comp part_PaySheet_0 part_PayTable_2 rfl).1 Tryz.isAgg28 Tryz.sizeOf28 aD fun cK dK nL=>?_
           obtain ⟨vB,uI,h⟩:=bsome h
           have kN:=PT_idx dK uI
           refine Zs (x:=.tmp 161) Tryz.isAgg3 Tryz.sizeOf3 kN fun lQ lN oL=>?_
           obtain rfl:=Zj.1 lN
           obtain ⟨yB,vI,h⟩:=bsome h
           have mN:=PT_idx aI vI
           refine Zs (x:=.tmp 165) Tryz.isAgg3 Tryz.sizeOf3 mN fun mQ nN pL=>?_
           obtain rfl:=Zj.1 nN
           have mH:RV iG.m gN (⟨(3:Int),0,u3.1,(w64 (vB + yB))⟩:PayEntry) (.agg (setCh [[.int .i64 0],[.int .i64 0],[.int .i64 0],[.int .i64 0]] [(0,.int .i64 (3)),(2,.int .i64 (u3.1)),(3,.int .i64 ((w64 (vB + yB))))]).flatten.toArray):=RV_build rfl (rep_pair (rfl) (rep_pair (rep_int) (rep_pair (rfl) (rep_last (rfl)))))
           generalize qL:(Value.agg (setCh [[.int .i64 0],[.int .i64 0],[.int .i64 0],[.int .i64 0]] [(0,.int .i64 (3)),(2,.int .i64 (u3.1)),(3,.int .i64 ((w64 (vB + yB))))]).flatten.toArray)=lK at mH
           refine E_drawL (g:=iG) (n:=13) [] [0,1,2,3,4,5,6,7,8,9,10,11,12] rfl mixed (by kernel_rfl) trivial ?_
           refine L_p (.int .i64 (u3.1)) rfl rfl (Zk bG) ?_
           refine L_p (fPtr p6 0) rfl rfl (Zc at_173_0 vF (OB.ptr aD)) ?_
           refine L_p (fPtr p6 2) rfl rfl (P_fieldAddr2 (o1:=0) rfl at_91_2 rfl (OB.ptr aD)) ?_
           refine L_ld (c:=cK) rfl rfl .plain (fun _ _ h=>⟨h.ch,fun b hb _=>h.below.block b hb⟩) nL rfl ?_
           refine L_p (.int .i64 (u3.1)) rfl rfl (Zk bG) ?_
           refine L_p (ePtr cK u3.1 1) rfl rfl (Zh (α:=Int) Tryz.underlying28 Tryz.sizeOf3 rfl dK rfl uI) ?_
           refine L_ld (c:=.int .i64 (vB)) rfl rfl .plain (fun _ _ h=>h.ch) oL rfl ?_
           refine L_p y6 rfl rfl (Zk uK) ?_
           refine L_p (.int .i64 (u3.1)) rfl rfl (Zk bG) ?_
           refine L_p (ePtr y6 u3.1 1) rfl rfl (Zh (α:=Int) Tryz.underlying28 Tryz.sizeOf3 rfl aI rfl vI) ?_
           refine L_ld (c:=.int .i64 (yB)) rfl rfl .plain (fun _ _ h=>h.ch) pL rfl ?_
           refine L_p (.int .i64 ((w64 (vB + yB)))) rfl rfl (P_int rfl rfl rfl) ?_
           refine L_p lK rfl rfl (qL ▸ P_build (vs:=[(0,.int .i64 (3)),(2,.int .i64 (u3.1)),(3,.int .i64 ((w64 (vB + yB))))]) [[.int .i64 0],[.int .i64 0],[.int .i64 0],[.int .i64 0]] lay_98 rfl rfl (.cons rfl (.cons rfl (.cons rfl .nil))) ⟨⟨_,rfl,rfl⟩,⟨⟨_,rfl,rfl⟩,⟨⟨_,rfl,rfl⟩,trivial⟩⟩⟩) ?_
           refine L_nl fun oN nQ hs=>?_
           have hfr:=hfr.ext hs
           have vC:=vC.ext hs
           have mH:=mH.ext hs
           clear hs
           refine Ze .plain rfl (D_storeOc (g:=oN) (v:=lK) Tryz.sizeOf98 xE vC rfl mH fun pN oQ hs b1186 cb=>?_)
           clear cb
           have hfr:=hfr.stp hs
           exact Zb (blk_n (Zd (hG ((⟨(3:Int),0,u3.1,(w64 (vB + yB))⟩:PayEntry),true) _ _ ⟨pN,hfr,xE,b1186,jJ⟩ h)))
          ·refine E_cond_false (Eq.trans (show ev _ _ = .bool (dB) from cH) (congrArg Value.bool sH)) ?_
           obtain ⟨iB,hx,h⟩:=bsome h
           refine E_join (fun e w=>∃ (g:Gh) ,Fr gI wI g w∧e 2=p2∧OB 2002 g w 98 (nB:PayEntry) p2∧e 4=p6∧OB 2004 g w 173 (y5.1:PaySheet) p6∧e 7=.int .i64 (o0.2.2.1)∧e 169=.bool (iB)) (fun Q' hQ=>?_) (fun gP qN hR=>?_)
           ·replace h := hx
            clear hx
            refine Za (Zo gJ rfl ?_)
            refine EL_in (.bool ((l5.2 == (0:Int)))) rfl rfl rfl rfl ?_
            refine Zn (.bool ((l5.2 == (0:Int)))) rfl rfl ?_
            rcases Zt h with ⟨vD,h⟩ | ⟨vD,h⟩
            ·refine EL_y (.int .i64 (u3.2)) (Zk iJ) rfl rfl vD rfl ?_
             refine EL_y (.bool ((u3.2 == (0:Int)))) (P_int rfl rfl rfl) rfl rfl vD rfl ?_
             refine EL_p (.bool ((u3.2 == (0:Int)))) (Zl (b:=(l5.2 == (0:Int))) rfl (pick_t vD rfl)) rfl ?_
             refine Zn (.bool ((u3.2 == (0:Int)))) rfl rfl ?_
             rcases Zt h with ⟨l9,h⟩ | ⟨l9,h⟩
             ·refine EL_y (.int .i64 (o0.2.2.1)) (Zk xF) rfl rfl l9 rfl ?_
              refine EL_y (.int .i64 (o0.2.2.2)) (Zk vK) rfl rfl l9 rfl ?_
              refine EL_y (.bool ((o0.2.2.1 == o0.2.2.2))) (P_int rfl rfl rfl) rfl rfl l9 rfl ?_
              refine EL_p (.bool ((o0.2.2.1 == o0.2.2.2))) (Zl (b:=(u3.2 == (0:Int))) rfl (pick_t l9 rfl)) rfl ?_
              refine Zg (.bool ((o0.2.2.1 == o0.2.2.2))) rfl rfl ?_
              refine Zb ?_
              obtain rfl:=sinj h
              exact hQ _ _ ⟨iG,hfr,xE,vC,vF,aD,xF,rfl⟩
             ·refine EL_s rfl rfl l9 rfl rfl ?_
              refine EL_s rfl rfl l9 rfl rfl ?_
              refine EL_s rfl rfl l9 rfl rfl ?_
              refine EL_p (.bool false) (Zl (b:=(u3.2 == (0:Int))) rfl (pick_f l9 rfl)) rfl ?_
              refine Zg (.bool false) rfl rfl ?_
              refine Zb ?_
              obtain rfl:=sinj h
              exact hQ _ _ ⟨iG,hfr,xE,vC,vF,aD,xF,rfl⟩
            ·refine EL_s rfl rfl vD rfl rfl ?_
             refine EL_s rfl rfl vD rfl rfl ?_
             refine EL_p (.bool false) (Zl (b:=(l5.2 == (0:Int))) rfl (pick_f vD rfl)) rfl ?_
             refine EL_dead 5 rfl ?_
             refine Zg (.bool false) rfl rfl ?_
             refine Zb ?_
             obtain rfl:=sinj h
             exact hQ _ _ ⟨iG,hfr,xE,vC,vF,aD,xF,rfl⟩
           ·clear hx
            obtain ⟨nH,hfr,yF,bI,xK,xG,yK,dH⟩:=hR
            rcases Zt h with ⟨tH,h⟩ | ⟨tH,h⟩
            ·refine E_cond_true (Eq.trans (show ev _ _ = .bool (iB) from dH) (congrArg Value.bool tH)) ?_
             refine Zf (Za (EL_p (fPtr p6 0) (Zc at_173_0 xK (OB.ptr xG)) rfl ?_))
             refine EL_p (fPtr p6 3) (P_fieldAddr2 (o1:=0) rfl at_91_3 rfl (OB.ptr xG)) rfl ?_
             refine Ze .plain rfl (D_loadF (g:=nH) (SubS.comp part_PaySheet_0 part_PayTable_3 rfl).1 Tryz.isAgg3 Tryz.sizeOf3 rfl xG fun pQ rN=>?_)
             obtain rfl:=Zj.1 rN
             refine Zo yK rfl ?_
             refine EL_in (.int .i64 ((w64 (((y5.1).PayTable).Total + o0.2.2.1)))) rfl rfl rfl rfl ?_
             have mK:RV nH.m qN (⟨(4:Int),0,0,(w64 (((y5.1).PayTable).Total + o0.2.2.1))⟩:PayEntry) (.agg (setCh [[.int .i64 0],[.int .i64 0],[.int .i64 0],[.int .i64 0]] [(0,.int .i64 (4)),(3,.int .i64 ((w64 (((y5.1).PayTable).Total + o0.2.2.1))))]).flatten.toArray):=RV_build rfl (rep_pair (rfl) (rep_pair (rep_int) (rep_pair (rep_int) (rep_last (rfl)))))
             generalize rL:(Value.agg (setCh [[.int .i64 0],[.int .i64 0],[.int .i64 0],[.int .i64 0]] [(0,.int .i64 (4)),(3,.int .i64 ((w64 (((y5.1).PayTable).Total + o0.2.2.1))))]).flatten.toArray)=nK at mK
             refine EL_p nK (rL ▸ P_build (vs:=[(0,.int .i64 (4)),(3,.int .i64 ((w64 (((y5.1).PayTable).Total + o0.2.2.1))))]) [[.int .i64 0],[.int .i64 0],[.int .i64 0],[.int .i64 0]] lay_98 rfl rfl (.cons rfl (.cons rfl .nil)) ⟨⟨_,rfl,rfl⟩,⟨⟨_,rfl,rfl⟩,trivial⟩⟩) rfl ?_
             refine Ze .plain rfl (D_storeOc (g:=nH) (v:=nK) Tryz.sizeOf98 yF bI rfl mK fun oK qQ hs b1197 cb=>?_)
             clear cb
             have hfr:=hfr.stp hs
             refine Zb (Zd (Za (EL_p (fPtr p2 3) (Zc at_98_3 yF (OB.ptr b1197)) rfl ?_)))
             refine Ze .plain rfl (D_loadF (g:=oK) part_PayEntry_3.1 Tryz.isAgg3 Tryz.sizeOf3 rfl b1197 fun rQ sN=>?_)
             obtain rfl:=Zj.1 sN
             refine Ze .plain rfl (D_buildSlice (g:=oK) 3189 (xs:=([(w64 (((y5.1).PayTable).Total + o0.2.2.1))]:List Int)) (vs:=[.int .i64 ((w64 (((y5.1).PayTable).Total + o0.2.2.1)))]) Tryz.underlying28 Tryz.sizeOf3 Tryz.zeroValue3 rfl rfl (.cons rfl .nil) (RVs.cons (Zj.2 rfl) RVs.nil) rfl rfl fun tN sQ uN hs o1200 vN hxt hfl=>?_)
             have hfr:=hfr.stp hs
             have b1197:=b1197.stp hs rfl
             obtain ⟨iH,tL,h⟩:=bsome h
             refine Ze .plain rfl (Zp (g:=tN) (vs:=[uN]) en75 (.cons rfl .nil) (wk75 vN tL) fun xN iP tQ hs hr=>?_)
             have hfr:=hfr.ext hs
             have b1197:=b1197.ext hs
             subst hr
             refine Zg (.bool (iH)) rfl rfl ?_
             exact Zb (blk_n (Zd (hG ((⟨(4:Int),0,0,(w64 (((y5.1).PayTable).Total + o0.2.2.1))⟩:PayEntry),iH) _ _ ⟨xN,hfr,yF,b1197,rfl⟩ h)))
            ·refine E_cond_false (Eq.trans (show ev _ _ = .bool (iB) from dH) (congrArg Value.bool tH)) ?_
             refine Za (Zg (.bool false) rfl rfl ?_)
             exact Zb (blk_n (Zd (hG (nB,false) _ _ ⟨nH,hfr,yF,bI,rfl⟩ h)))
  ·rintro ⟨jG, zF⟩ jP yN ⟨kI, hfr, yG, dI, kJ⟩ h
   refine Zq h (fun (s:PayEntry) e w=>∃ (g:Gh) ,Fr gI wI g w∧e 2=p2∧OB 2002 g w 98 (s:PayEntry) p2) (fun X1208 lJ uL h=>?_) ?_
   ·refine Zf (Za (Zo kJ rfl ?_))
    refine EL_p (.bool (!zF)) (P_not rfl) rfl ?_
    refine Zb (Zd ?_)
    rcases Zt h with ⟨uH,h⟩ | ⟨uH,h⟩
    ·refine E_ct uH rfl ?_
     refine Zf (Za ?_)
     have pK:RV kI.m yN (⟨0,0,0,0⟩:PayEntry) (.agg (setCh [[.int .i64 0],[.int .i64 0],[.int .i64 0],[.int .i64 0]] []).flatten.toArray):=RV_build rfl (rep_pair (rep_int) (rep_pair (rep_int) (rep_pair (rep_int) (rep_last (rep_int)))))
     generalize vL:(Value.agg (setCh [[.int .i64 0],[.int .i64 0],[.int .i64 0],[.int .i64 0]] []).flatten.toArray)=qK at pK
     refine EL_p qK (vL ▸ P_build (vs:=[]) [[.int .i64 0],[.int .i64 0],[.int .i64 0],[.int .i64 0]] lay_98 rfl rfl .nil trivial) rfl ?_
     refine Ze .plain rfl (D_storeOc (g:=kI) (v:=qK) Tryz.sizeOf98 yG dI rfl pK fun uQ vQ hs b1211 cb=>?_)
     clear cb
     have hfr:=hfr.stp hs
     refine Zg (.int .i64 (9)) rfl rfl ?_
     refine Zb (Zd (E_ret (thn_r ?_)))
     obtain rfl:=sinj h
     obtain ⟨ad1212,cv1212,hp1212,xL,cr1212⟩:=ob_read Tryz.isAgg98 Tryz.sizeOf98 b1211
     exact endm_ct rfl rfl ((show _=p2 from yG).trans hp1212) xL (show _=.int .i64 (9) from rfl) ⟨_,hfr,_,_,rfl,cr1212,rfl⟩
    ·refine E_cf uH rfl ?_
     exact Zu (Zd (uL (jG) _ _ ⟨kI,hfr,yG,dI⟩ h))
   ·rintro xH kP xQ ⟨sK, hfr, zG, iI⟩ h
    refine Zf (Za (Ze .plain rfl (D_loadO (g:=sK) Tryz.isAgg98 Tryz.sizeOf98 zG iI fun zN aO=>?_)))
    refine Ze .plain rfl (D_storeOc (g:=sK) (v:=zN) Tryz.sizeOf98 zG iI rfl aO fun yQ zQ hs b1215 cb=>?_)
    clear cb
    have hfr:=hfr.stp hs
    refine Zg (.int .i64 (0)) rfl rfl ?_
    refine Zb (Zd (E_ret ?_))
    obtain rfl:=sinj h
    obtain ⟨ad1216,cv1216,hp1216,yL,cr1216⟩:=ob_read Tryz.isAgg98 Tryz.sizeOf98 b1215
    exact endm_ct rfl rfl ((show _=p2 from zG).trans hp1216) yL (show _=.int .i64 (0) from rfl) ⟨_,hfr,_,_,rfl,cr1216,rfl⟩
def f22 :Option (Bool):=
 (f19 ((⟨([(⟨0,(20:Int)⟩:PayRate),(⟨(60:Int),(30:Int)⟩:PayRate)]:List PayRate),([(100:Int),(250:Int)]:List Int),(12:Int),(100:Int)⟩:PayList))).bind fun bA=>
 (f18 bA ((⟨0,(60:Int),(50000:Int),([(0:Int),(1:Int)]:List Int),(20:Int)⟩:PayPiece))).bind fun u3=>
 (f21 ((10:Int)) (([(2:Int),(2:Int),(3:Int)]:List Int))).bind fun i6=>
 (f30 ((⟨([([(5:Int),(8:Int)]:List Int),([(1:Int),(2:Int)]:List Int)]:List (List Int)),([(12:Int),(3:Int)]:List Int),([(6:Int),(9:Int)]:List Int),(15:Int)⟩:PayTable))).bind fun l5=>
 Option.bind (α:=Bool) (
  bif (u3.2.2.2 == (0 : Int)) then
   bif (i6.2 == (0 : Int)) then
    bif (l5.2 == (0 : Int)) then
     bif (u3.2.2.1 == (1823 : Int)) then
      (f23 (i6.1) (([(3:Int),(3:Int),(4:Int)]:List Int))).bind fun y44=>
      bif y44 then
       some (((l5.1).Number == (7:Int)))
      else
       some (false)
     else
      some (false)
    else
     some (false)
   else
    some (false)
  else
   some (false)
  ) fun g8=>
 some (g8)
theorem en22:Enters Tryz.prog 22:=enters_of Tryz.func22 (by kernel_rfl) rfl
theorem wk22 {gI:Gh} {wI:World}   {r:Bool} (h:f22 =some r):Fn Tryz.prog 22 #[] gI wI (fun _ _ v=>v=.bool (r)):=by
 unfold f22 at h
 refine fn_of_E Tryz.func22 rfl (Nat.le_of_ble_eq_true rfl) fun g0 hm hfr=>?_
 show E _ 64 none _ _ _ _ _
 refine Zf (Za (Zg (.bool false) rfl rfl ?_))
 refine Zb (Zd (Zf (Za ?_)))
 have r1:RV g0.m wI (⟨0,(20:Int)⟩:PayRate) (.agg (setCh [[.int .i64 0],[.int .i64 0]] [(1,.int .i64 (20))]).flatten.toArray):=RV_build rfl (rep_pair (rep_int) (rep_last (rfl)))
 generalize hv1:(Value.agg (setCh [[.int .i64 0],[.int .i64 0]] [(1,.int .i64 (20))]).flatten.toArray)=v1 at r1
 refine EL_p v1 (hv1 ▸ P_build (vs:=[(1,.int .i64 (20))]) [[.int .i64 0],[.int .i64 0]] lay_148 rfl rfl (.cons rfl .nil) ⟨⟨_,rfl,rfl⟩,trivial⟩) rfl ?_
 have r2:RV g0.m wI (⟨(60:Int),(30:Int)⟩:PayRate) (.agg (setCh [[.int .i64 0],[.int .i64 0]] [(0,.int .i64 (60)),(1,.int .i64 (30))]).flatten.toArray):=RV_build rfl (rep_pair (rfl) (rep_last (rfl)))
 generalize hv2:(Value.agg (setCh [[.int .i64 0],[.int .i64 0]] [(0,.int .i64 (60)),(1,.int .i64 (30))]).flatten.toArray)=v2 at r2
 refine EL_p v2 (hv2 ▸ P_build (vs:=[(0,.int .i64 (60)),(1,.int .i64 (30))]) [[.int .i64 0],[.int .i64 0]] lay_148 rfl rfl (.cons rfl (.cons rfl .nil)) ⟨⟨_,rfl,rfl⟩,⟨⟨_,rfl,rfl⟩,trivial⟩⟩) rfl ?_
 refine Ze .plain rfl (D_buildSlice (g:=g0) 3012 (xs:=([(⟨0,(20:Int)⟩:PayRate),(⟨(60:Int),(30:Int)⟩:PayRate)]:List PayRate)) (vs:=[v1,v2]) Tryz.underlying57 Tryz.sizeOf148 Tryz.zeroValue148 rfl rfl (.cons rfl (.cons rfl .nil)) (RVs.cons r1 (RVs.cons r2 RVs.nil)) rfl rfl fun g3 w3 v3 hs o3 r3 hxt hfl=>?_)
 have hfr:=hfr.stp hs
 refine Ze .plain rfl (D_buildSlice (g:=g3) 3013 (xs:=([(100:Int),(250:Int)]:List Int)) (vs:=[.int .i64 (100),.int .i64 (250)]) Tryz.underlying28 Tryz.sizeOf3 Tryz.zeroValue3 rfl rfl (.cons rfl (.cons rfl .nil)) (RVs.cons (Zj.2 rfl) (RVs.cons (Zj.2 rfl) RVs.nil)) rfl rfl fun g4 w4 v4 hs o4 r4 hxt hfl=>?_)
 have hfr:=hfr.stp hs
 have r3:=r3.stp hs
 have o3:=o3.stp hs rfl
 have r5:RV g4.m _ (⟨([(⟨0,(20:Int)⟩:PayRate),(⟨(60:Int),(30:Int)⟩:PayRate)]:List PayRate),([(100:Int),(250:Int)]:List Int),(12:Int),(100:Int)⟩:PayList) (.agg (setCh [[.slice none 0 0],[.slice none 0 0],[.int .i64 0],[.int .i64 0]] [(0,v3),(1,v4),(2,.int .i64 (12)),(3,.int .i64 (100))]).flatten.toArray):=RV_build rfl (rep_pair (RV.cells r3) (rep_pair (RV.cells r4) (rep_pair (rfl) (rep_last (rfl)))))
 generalize iA:(Value.agg (setCh [[.slice none 0 0],[.slice none 0 0],[.int .i64 0],[.int .i64 0]] [(0,v3),(1,v4),(2,.int .i64 (12)),(3,.int .i64 (100))]).flatten.toArray)=v5 at r5
 refine EL_p v5 (iA ▸ P_build (vs:=[(0,v3),(1,v4),(2,.int .i64 (12)),(3,.int .i64 (100))]) [[.slice none 0 0],[.slice none 0 0],[.int .i64 0],[.int .i64 0]] lay_59 rfl rfl (.cons rfl (.cons rfl (.cons rfl (.cons rfl .nil)))) ⟨⟨_,rfl,cells_size r3⟩,⟨⟨_,rfl,cells_size r4⟩,⟨⟨_,rfl,rfl⟩,⟨⟨_,rfl,rfl⟩,trivial⟩⟩⟩⟩) rfl ?_
 refine Ze .plain rfl (D_allocOc (g:=g4) 2001 (⟨[],[],0,0⟩:PayList) Tryz.zeroValue59 (fun m w=>⟨_,(rep_two rep_nil (rep_two rep_nil (rep_two rep_int rep_int))),rfl⟩) fun g6 w6 p6 hs b6 cb=>?_)
 have hfr:=hfr.stp hs
 have r3:=r3.stp hs
 have o3:=o3.stp hs rfl
 have r5:=r5.stp hs
 have rE:OSF 2001 60100 0 g6 w6 148 59 ([]:List PayRate) p6:=cb.osf (by rfl)
 have uE:OSF 2001 60101 1 g6 w6 3 59 ([]:List Int) p6:=cb.osf (by rfl)
 clear cb
 refine Ze .plain rfl (D_storeOc (g:=g6) (v:=v5) Tryz.sizeOf59 rfl b6 rfl r5 fun g7 w7 hs b7 cb=>?_)
 obtain ⟨yD,zD,a9,_,_⟩:=RV_list r3
 have vE:OSF 2001 3012 0 g7 w7 148 59 (([(⟨0,(20:Int)⟩:PayRate),(⟨(60:Int),(30:Int)⟩:PayRate)]:List PayRate):List PayRate) p6:=cb.osfv (by rw [← iA,a9]; rfl) (o3.stp hs rfl)
 clear cb
 have hfr:=hfr.stp hs
 refine Zb (Zd (Zf (Za (Ze .plain rfl (D_loadO (g:=g7) Tryz.isAgg59 Tryz.sizeOf59 rfl b7 fun v8 r8=>?_)))))
 obtain ⟨bA,oB,h⟩:=bsome h
 refine Ze .plain rfl (Zp (g:=g7) (vs:=[v8]) en19 (.cons rfl .nil) (wk19 r8 oB) fun g9 w9_ v9 hs hr=>?_)
 have hfr:=hfr.ext hs
 have r9:=hr
 refine Ze .plain rfl (D_buildSlice (g:=g9) 3018 (xs:=([(0:Int),(1:Int)]:List Int)) (vs:=[.int .i64 (0),.int .i64 (1)]) Tryz.underlying28 Tryz.sizeOf3 Tryz.zeroValue3 rfl rfl (.cons rfl (.cons rfl .nil)) (RVs.cons (Zj.2 rfl) (RVs.cons (Zj.2 rfl) RVs.nil)) rfl rfl fun rA eF d9 hs o11 yA hxt hfl=>?_)
 have hfr:=hfr.stp hs
 have r9:=r9.stp hs
 have aB:RV rA.m _ (⟨0,(60:Int),(50000:Int),([(0:Int),(1:Int)]:List Int),(20:Int)⟩:PayPiece) (.agg (setCh [[.int .i64 0],[.int .i64 0],[.int .i64 0],[.slice none 0 0],[.int .i64 0]] [(1,.int .i64 (60)),(2,.int .i64 (50000)),(3,d9),(4,.int .i64 (20))]).flatten.toArray):=RV_build rfl (rep_pair (rep_int) (rep_pair (rfl) (rep_pair (rfl) (rep_pair (RV.cells yA) (rep_last (rfl))))))
 generalize tB:(Value.agg (setCh [[.int .i64 0],[.int .i64 0],[.int .i64 0],[.slice none 0 0],[.int .i64 0]] [(1,.int .i64 (60)),(2,.int .i64 (50000)),(3,d9),(4,.int .i64 (20))]).flatten.toArray)=dB at aB
 refine EL_p dB (tB ▸ P_build (vs:=[(1,.int .i64 (60)),(2,.int .i64 (50000)),(3,d9),(4,.int .i64 (20))]) [[.int .i64 0],[.int .i64 0],[.int .i64 0],[.slice none 0 0],[.int .i64 0]] lay_68 rfl rfl (.cons rfl (.cons rfl (.cons rfl (.cons rfl .nil)))) ⟨⟨_,rfl,rfl⟩,⟨⟨_,rfl,rfl⟩,⟨⟨_,rfl,cells_size yA⟩,⟨⟨_,rfl,rfl⟩,trivial⟩⟩⟩⟩) rfl ?_
 obtain ⟨u3,vB,h⟩:=bsome h
 refine Ze .plain rfl (Zp (g:=rA) (vs:=[v9,dB]) en18 (.cons rfl (.cons rfl .nil)) (wk18 r9 aB vB) fun qC xE rF hs hr=>?_)
 have hfr:=hfr.ext hs
 obtain ⟨aE,bE,iE,lE,rfl,rfl,rfl,rfl,rfl⟩:=hr
 refine Zn (.tuple #[.int .i64 (u3.1),.int .i64 (u3.2.1),.int .i64 (u3.2.2.1),.int .i64 (u3.2.2.2)]) rfl rfl ?_
 refine EL_p (.int .i64 (u3.1)) (Zi rfl rfl) rfl ?_
 refine EL_p (.int .i64 (u3.2.1)) (Zi rfl rfl) rfl ?_
 refine EL_p (.int .i64 (u3.2.2.1)) (Zi rfl rfl) rfl ?_
 refine EL_p (.int .i64 (u3.2.2.2)) (Zi rfl rfl) rfl ?_
 refine Zg (.int .i64 (u3.1)) rfl rfl ?_
 refine Zg (.int .i64 (u3.2.1)) rfl rfl ?_
 refine Zg (.int .i64 (u3.2.2.1)) rfl rfl ?_
 refine Zg (.int .i64 (u3.2.2.2)) rfl rfl ?_
 refine Zb (Zd (Zf (Za (Ze .plain rfl (D_buildSlice (g:=qC) 3026 (xs:=([(2:Int),(2:Int),(3:Int)]:List Int)) (vs:=[.int .i64 (2),.int .i64 (2),.int .i64 (3)]) Tryz.underlying28 Tryz.sizeOf3 Tryz.zeroValue3 rfl rfl (.cons rfl (.cons rfl (.cons rfl .nil))) (RVs.cons (Zj.2 rfl) (RVs.cons (Zj.2 rfl) (RVs.cons (Zj.2 rfl) RVs.nil))) rfl rfl fun rC w15 uC hs o15 vC hxt hfl=>?_)))))
 have hfr:=hfr.stp hs
 obtain ⟨i6,yB,h⟩:=bsome h
 refine Ze .plain rfl (Zp (g:=rC) (vs:=[.int .i64 (10),uC]) en21 (.cons rfl (.cons rfl .nil)) (wk21 vC yB) fun aD yE sF hs hr=>?_)
 have hfr:=hfr.ext hs
 obtain ⟨m7,mE,rfl,o0,rfl⟩:=hr
 refine Zn (.tuple #[m7,.int .i64 (i6.2)]) rfl rfl ?_
 refine EL_p m7 (Zi rfl rfl) rfl ?_
 refine EL_p (.int .i64 (i6.2)) (Zi rfl rfl) rfl ?_
 refine Zg m7 rfl rfl ?_
 refine Zg (.int .i64 (i6.2)) rfl rfl ?_
 refine Zb (Zd (Zf (Za (Ze .plain rfl (D_buildSlice (g:=aD) 3031 (xs:=([(5:Int),(8:Int)]:List Int)) (vs:=[.int .i64 (5),.int .i64 (8)]) Tryz.underlying28 Tryz.sizeOf3 Tryz.zeroValue3 rfl rfl (.cons rfl (.cons rfl .nil)) (RVs.cons (Zj.2 rfl) (RVs.cons (Zj.2 rfl) RVs.nil)) rfl rfl fun bD tF cD hs o18 k9 hxt hfl=>?_)))))
 have hfr:=hfr.stp hs
 have o0:=o0.stp hs
 refine Ze .plain rfl (D_buildSlice (g:=bD) 3032 (xs:=([(1:Int),(2:Int)]:List Int)) (vs:=[.int .i64 (1),.int .i64 (2)]) Tryz.underlying28 Tryz.sizeOf3 Tryz.zeroValue3 rfl rfl (.cons rfl (.cons rfl .nil)) (RVs.cons (Zj.2 rfl) (RVs.cons (Zj.2 rfl) RVs.nil)) rfl rfl fun eD uF gD hs o19 iD hxt hfl=>?_)
 have hfr:=hfr.stp hs
 have o0:=o0.stp hs
 have k9:=k9.stp hs
 refine Ze .plain rfl (D_buildSlice (g:=eD) 3033 (xs:=([([(5:Int),(8:Int)]:List Int),([(1:Int),(2:Int)]:List Int)]:List (List Int))) (vs:=[cD,gD]) Tryz.underlying35 Tryz.sizeOf28 Tryz.zeroValue28 rfl rfl (.cons rfl (.cons rfl .nil)) (RVs.cons k9 (RVs.cons iD RVs.nil)) rfl rfl fun jD vF l9 hs o20 k8 hxt hfl=>?_)
 have hfr:=hfr.stp hs
 have o0:=o0.stp hs
 refine Ze .plain rfl (D_buildSlice (g:=jD) 3034 (xs:=([(12:Int),(3:Int)]:List Int)) (vs:=[.int .i64 (12),.int .i64 (3)]) Tryz.underlying28 Tryz.sizeOf3 Tryz.zeroValue3 rfl rfl (.cons rfl (.cons rfl .nil)) (RVs.cons (Zj.2 rfl) (RVs.cons (Zj.2 rfl) RVs.nil)) rfl rfl fun lD xF n9 hs o21 x8 hxt hfl=>?_)
 have hfr:=hfr.stp hs
 have o0:=o0.stp hs
 have k8:=k8.stp hs
 refine Ze .plain rfl (D_buildSlice (g:=lD) 3035 (xs:=([(6:Int),(9:Int)]:List Int)) (vs:=[.int .i64 (6),.int .i64 (9)]) Tryz.underlying28 Tryz.sizeOf3 Tryz.zeroValue3 rfl rfl (.cons rfl (.cons rfl .nil)) (RVs.cons (Zj.2 rfl) (RVs.cons (Zj.2 rfl) RVs.nil)) rfl rfl fun iB yF u9 hs o22 lB hxt hfl=>?_)
 have hfr:=hfr.stp hs
 have o0:=o0.stp hs
 have k8:=k8.stp hs
 have x8:=x8.stp hs
 have mB:RV iB.m _ (⟨([([(5:Int),(8:Int)]:List Int),([(1:Int),(2:Int)]:List Int)]:List (List Int)),([(12:Int),(3:Int)]:List Int),([(6:Int),(9:Int)]:List Int),(15:Int)⟩:PayTable) (.agg (setCh [[.slice none 0 0],[.slice none 0 0],[.slice none 0 0],[.int .i64 0]] [(0,l9),(1,n9),(2,u9),(3,.int .i64 (15))]).flatten.toArray):=RV_build rfl (rep_pair (RV.cells k8) (rep_pair (RV.cells x8) (rep_pair (RV.cells lB) (rep_last (rfl)))))
 generalize zB:(Value.agg (setCh [[.slice none 0 0],[.slice none 0 0],[.slice none 0 0],[.int .i64 0]] [(0,l9),(1,n9),(2,u9),(3,.int .i64 (15))]).flatten.toArray)=nB at mB
 refine EL_p nB (zB ▸ P_build (vs:=[(0,l9),(1,n9),(2,u9),(3,.int .i64 (15))]) [[.slice none 0 0],[.slice none 0 0],[.slice none 0 0],[.int .i64 0]] lay_91 rfl rfl (.cons rfl (.cons rfl (.cons rfl (.cons rfl .nil)))) ⟨⟨_,rfl,cells_size k8⟩,⟨⟨_,rfl,cells_size x8⟩,⟨⟨_,rfl,cells_size lB⟩,⟨⟨_,rfl,rfl⟩,trivial⟩⟩⟩⟩) rfl ?_
 obtain ⟨l5,cC,h⟩:=bsome h
 refine Ze .plain rfl (Zp (g:=iB) (vs:=[nB]) en30 (.cons rfl .nil) (wk30 mB cC) fun nD zE zF hs hr=>?_)
 have hfr:=hfr.ext hs
 have o0:=o0.ext hs
 obtain ⟨l8,oE,rfl,m8,rfl⟩:=hr
 refine Zn (.tuple #[l8,.int .i64 (l5.2)]) rfl rfl ?_
 refine EL_p l8 (Zi rfl rfl) rfl ?_
 refine EL_p (.int .i64 (l5.2)) (Zi rfl rfl) rfl ?_
 refine Ze .plain rfl (D_allocOc (g:=nD) 2008 (⟨0,0,0,0⟩:PayEntry) Tryz.zeroValue98 (fun m w=>⟨_,(rep_two rep_int (rep_two rep_int (rep_two rep_int rep_int))),rfl⟩) fun oD aG sD hs b26 cb=>?_)
 have hfr:=hfr.stp hs
 have o0:=o0.stp hs
 have m8:=m8.stp hs
 clear cb
 refine Ze .plain rfl (D_storeOc (g:=oD) (v:=l8) Tryz.sizeOf98 rfl b26 rfl m8 fun n8 bG hs b27 cb=>?_)
 clear cb
 have hfr:=hfr.stp hs
 have o0:=o0.stp hs
 refine Zg (.int .i64 (l5.2)) rfl rfl ?_
 refine Zb (Zd ?_)
 obtain ⟨g8,hx,h⟩:=bsome h
 refine E_join (fun e w=>∃ (g:Gh) ,Fr gI wI g w∧e 0=.bool (g8)) (fun Q' hQ=>?_) (fun cF cG hR=>?_)
 ·replace h := hx
  clear hx
  refine Za (Zn (.int .i64 (u3.2.2.2)) rfl rfl ?_)
  refine EL_in (.bool ((u3.2.2.2 == (0:Int)))) rfl rfl rfl rfl ?_
  refine Zn (.bool ((u3.2.2.2 == (0:Int)))) rfl rfl ?_
  rcases Zt h with ⟨x6,h⟩ | ⟨x6,h⟩
  ·refine EL_y (.int .i64 (i6.2)) (Zk rfl) rfl rfl x6 rfl ?_
   refine EL_y (.bool ((i6.2 == (0:Int)))) (P_int rfl rfl rfl) rfl rfl x6 rfl ?_
   refine EL_p (.bool ((i6.2 == (0:Int)))) (Zl (b:=(u3.2.2.2 == (0:Int))) rfl (pick_t x6 rfl)) rfl ?_
   refine Zn (.bool ((i6.2 == (0:Int)))) rfl rfl ?_
   rcases Zt h with ⟨y6,h⟩ | ⟨y6,h⟩
   ·refine EL_y (.int .i64 (l5.2)) (Zk rfl) rfl rfl y6 rfl ?_
    refine EL_y (.bool ((l5.2 == (0:Int)))) (P_int rfl rfl rfl) rfl rfl y6 rfl ?_
    refine EL_p (.bool ((l5.2 == (0:Int)))) (Zl (b:=(i6.2 == (0:Int))) rfl (pick_t y6 rfl)) rfl ?_
    refine Zn (.bool ((l5.2 == (0:Int)))) rfl rfl ?_
    rcases Zt h with ⟨i7,h⟩ | ⟨i7,h⟩
    ·refine EL_y (.int .i64 (u3.2.2.1)) (Zk rfl) rfl rfl i7 rfl ?_
     refine EL_y (.bool ((u3.2.2.1 == (1823:Int)))) (P_int rfl rfl rfl) rfl rfl i7 rfl ?_
     refine EL_p (.bool ((u3.2.2.1 == (1823:Int)))) (Zl (b:=(l5.2 == (0:Int))) rfl (pick_t i7 rfl)) rfl ?_
     refine Zn (.bool ((u3.2.2.1 == (1823:Int)))) rfl rfl ?_
     rcases Zt h with ⟨t5,h⟩ | ⟨t5,h⟩
     ·refine EL_y m7 (Zk rfl) rfl rfl t5 rfl ?_
      refine Ze (.yes2 rfl rfl t5) rfl (D_buildSlice (g:=n8) 3056 (xs:=([(3:Int),(3:Int),(4:Int)]:List Int)) (vs:=[.int .i64 (3),.int .i64 (3),.int .i64 (4)]) Tryz.underlying28 Tryz.sizeOf3 Tryz.zeroValue3 rfl rfl (.cons rfl (.cons rfl (.cons rfl .nil))) (RVs.cons (Zj.2 rfl) (RVs.cons (Zj.2 rfl) (RVs.cons (Zj.2 rfl) RVs.nil))) rfl rfl fun tD eG uD hs o42 vD hxt hfl=>?_)
      have hfr:=hfr.stp hs
      have o0:=o0.stp hs
      have b27:=b27.stp hs rfl
      obtain ⟨y44,mC,h⟩:=bsome h
      refine Ze (.yes2 rfl rfl t5) rfl (Zp (g:=tD) (vs:=[m7,uD]) en23 (.cons rfl (.cons rfl .nil)) (wk23 o0 vD mC) fun y9 dF gG hs hr=>?_)
      have hfr:=hfr.ext hs
      have b27:=b27.ext hs
      subst hr
      refine EL_p (.bool (y44)) (Zl (b:=(u3.2.2.1 == (1823:Int))) rfl (pick_t t5 rfl)) rfl ?_
      refine Zn (.bool (y44)) rfl rfl ?_
      rcases Zt h with ⟨x5,h⟩ | ⟨x5,h⟩
      ·refine EL_y (fPtr sD 3) (Zc at_98_3 rfl (OB.ptr b27)) rfl rfl x5 rfl ?_
       refine Ze (.yes2 rfl rfl x5) rfl (D_loadF (g:=y9) part_PayEntry_3.1 Tryz.isAgg3 Tryz.sizeOf3 rfl b27 fun hG xD=>?_)
       obtain rfl:=Zj.1 xD
       refine EL_y (.bool (((l5.1).Number == (7:Int)))) (P_int rfl rfl rfl) rfl rfl x5 rfl ?_
       refine EL_p (.bool (((l5.1).Number == (7:Int)))) (Zl (b:=y44) rfl (pick_t x5 rfl)) rfl ?_
       refine Zg (.bool (((l5.1).Number == (7:Int)))) rfl rfl ?_
       refine Zb ?_
       obtain rfl:=sinj h
       exact hQ _ _ ⟨y9,hfr,rfl⟩
      ·refine EL_s rfl rfl x5 rfl rfl ?_
       refine EL_s rfl rfl x5 rfl rfl ?_
       refine EL_s rfl rfl x5 rfl rfl ?_
       refine EL_p (.bool false) (Zl (b:=y44) rfl (pick_f x5 rfl)) rfl ?_
       refine Zg (.bool false) rfl rfl ?_
       refine Zb ?_
       obtain rfl:=sinj h
       exact hQ _ _ ⟨y9,hfr,rfl⟩
     ·refine EL_s rfl rfl t5 rfl rfl ?_
      refine EL_s rfl rfl t5 rfl rfl ?_
      refine EL_s rfl rfl t5 rfl rfl ?_
      refine EL_p (.bool false) (Zl (b:=(u3.2.2.1 == (1823:Int))) rfl (pick_f t5 rfl)) rfl ?_
      refine EL_dead 5 rfl ?_
      refine Zg (.bool false) rfl rfl ?_
      refine Zb ?_
      obtain rfl:=sinj h
      exact hQ _ _ ⟨n8,hfr,rfl⟩
    ·refine EL_s rfl rfl i7 rfl rfl ?_
     refine EL_s rfl rfl i7 rfl rfl ?_
     refine EL_p (.bool false) (Zl (b:=(l5.2 == (0:Int))) rfl (pick_f i7 rfl)) rfl ?_
     refine EL_dead 10 rfl ?_
     refine Zg (.bool false) rfl rfl ?_
     refine Zb ?_
     obtain rfl:=sinj h
     exact hQ _ _ ⟨n8,hfr,rfl⟩
   ·refine EL_s rfl rfl y6 rfl rfl ?_
    refine EL_s rfl rfl y6 rfl rfl ?_
    refine EL_p (.bool false) (Zl (b:=(i6.2 == (0:Int))) rfl (pick_f y6 rfl)) rfl ?_
    refine EL_dead 14 rfl ?_
    refine Zg (.bool false) rfl rfl ?_
    refine Zb ?_
    obtain rfl:=sinj h
    exact hQ _ _ ⟨n8,hfr,rfl⟩
  ·refine EL_s rfl rfl x6 rfl rfl ?_
   refine EL_s rfl rfl x6 rfl rfl ?_
   refine EL_p (.bool false) (Zl (b:=(u3.2.2.2 == (0:Int))) rfl (pick_f x6 rfl)) rfl ?_
   refine EL_dead 18 rfl ?_
   refine Zg (.bool false) rfl rfl ?_
   refine Zb ?_
   obtain rfl:=sinj h
   exact hQ _ _ ⟨n8,hfr,rfl⟩
 ·clear hx
  obtain ⟨iG,hfr,z9⟩:=hR
  refine E_ret ?_
  obtain rfl:=sinj h
  exact end1 rfl rfl (show _=.bool (g8) from z9) ⟨_,hfr,rfl⟩
def f15 :Option (Bool):=
 (f13 ((⟨([(10:Int),(20:Int)]:List Int),(2:Int)⟩:LoomMill))).bind fun y11=>
 (f7 (([(⟨(5:Int),(1:Int),(10:Int),0,(20:Int)⟩:LoomOrder),(⟨(15:Int),(2:Int),(12:Int),0,(20:Int)⟩:LoomOrder),(⟨(5:Int),(1:Int),(8:Int),0,(20:Int)⟩:LoomOrder)]:List LoomOrder))).bind fun rA=>
 (f17 y11 rA).bind fun u3=>
 (idx (([(⟨(5:Int),(1:Int),(10:Int),0,(20:Int)⟩:LoomOrder),(⟨(15:Int),(2:Int),(12:Int),0,(20:Int)⟩:LoomOrder),(⟨(5:Int),(1:Int),(8:Int),0,(20:Int)⟩:LoomOrder)]:List LoomOrder)) (2:Int)).bind fun k9=>
 (idx ((List.set (([(⟨(5:Int),(1:Int),(10:Int),0,(20:Int)⟩:LoomOrder),(⟨(15:Int),(2:Int),(12:Int),0,(20:Int)⟩:LoomOrder),(⟨(5:Int),(1:Int),(8:Int),0,(20:Int)⟩:LoomOrder)]:List LoomOrder)) (Int.toNat ((2:Int))) ({ k9 with Chain:=(3:Int) }))) (2:Int)).bind fun yA=>
 (f13 ((⟨([(10:Int),(20:Int)]:List Int),(2:Int)⟩:LoomMill))).bind fun aB=>
 (f7 ((List.set ((List.set (([(⟨(5:Int),(1:Int),(10:Int),0,(20:Int)⟩:LoomOrder),(⟨(15:Int),(2:Int),(12:Int),0,(20:Int)⟩:LoomOrder),(⟨(5:Int),(1:Int),(8:Int),0,(20:Int)⟩:LoomOrder)]:List LoomOrder)) (Int.toNat ((2:Int))) ({ k9 with Chain:=(3:Int) }))) (Int.toNat ((2:Int))) ({ yA with Woven:=(9:Int) })))).bind fun dB=>
 (f54 aB dB).bind fun i6=>
 Option.bind (α:=Bool) (
  bif (u3.2 == (0 : Int)) then
   bif (i6.2 == (0 : Int)) then
    bif (((u3.1).length : Int) == (3 : Int)) then
     (idx (u3.1) (2:Int)).bind fun k8=>
     bif (decide (k8 = (⟨(2 : Int), 0, (10 : Int)⟩ : LoomRun))) then
      (f23 (i6.1) (([(0:Int),(1:Int),(2:Int)]:List Int))).bind fun d9=>
      some (d9)
     else
      some (false)
    else
     some (false)
   else
    some (false)
  else
   some (false)
  ) fun m7=>
 some (m7)
theorem en15:Enters Tryz.prog 15:=enters_of Tryz.func15 (by kernel_rfl) rfl
theorem wk15 {gI:Gh} {wI:World}   {r:Bool} (h:f15 =some r):Fn Tryz.prog 15 #[] gI wI (fun _ _ v=>v=.bool (r)):=by
 unfold f15 at h
 refine fn_of_E Tryz.func15 rfl (Nat.le_of_ble_eq_true rfl) fun g0 hm hfr=>?_
 show E _ 58 none _ _ _ _ _
 refine Zf (Za (Zg (.bool false) rfl rfl ?_))
 refine Zb (Zd (Zf (Za (Ze .plain rfl (D_buildSlice (g:=g0) 3007 (xs:=([(10:Int),(20:Int)]:List Int)) (vs:=[.int .i64 (10),.int .i64 (20)]) Tryz.underlying28 Tryz.sizeOf3 Tryz.zeroValue3 rfl rfl (.cons rfl (.cons rfl .nil)) (RVs.cons (Zj.2 rfl) (RVs.cons (Zj.2 rfl) RVs.nil)) rfl rfl fun g1 w1 v1 hs o1 r1 hxt hfl=>?_)))))
 have hfr:=hfr.stp hs
 have r2:RV g1.m _ (⟨([(10:Int),(20:Int)]:List Int),(2:Int)⟩:LoomMill) (.agg (setCh [[.slice none 0 0],[.int .i64 0]] [(0,v1),(1,.int .i64 (2))]).flatten.toArray):=RV_build rfl (rep_pair (RV.cells r1) (rep_last (rfl)))
 generalize hv2:(Value.agg (setCh [[.slice none 0 0],[.int .i64 0]] [(0,v1),(1,.int .i64 (2))]).flatten.toArray)=v2 at r2
 refine EL_p v2 (hv2 ▸ P_build (vs:=[(0,v1),(1,.int .i64 (2))]) [[.slice none 0 0],[.int .i64 0]] lay_30 rfl rfl (.cons rfl (.cons rfl .nil)) ⟨⟨_,rfl,cells_size r1⟩,⟨⟨_,rfl,rfl⟩,trivial⟩⟩) rfl ?_
 refine Ze .plain rfl (D_allocOc (g:=g1) 2001 (⟨[],0⟩:LoomMill) Tryz.zeroValue30 (fun m w=>⟨_,(rep_two rep_nil rep_int),rfl⟩) fun g3 w3 p3 hs b3 cb=>?_)
 have hfr:=hfr.stp hs
 have r1:=r1.stp hs
 have o1:=o1.stp hs rfl
 have r2:=r2.stp hs
 have oE:OSF 2001 60100 0 g3 w3 3 30 ([]:List Int) p3:=cb.osf (by rfl)
 clear cb
 refine Ze .plain rfl (D_storeOc (g:=g3) (v:=v2) Tryz.sizeOf30 rfl b3 rfl r2 fun g4 w4 hs b4 cb=>?_)
 obtain ⟨bE,iE,l9,_,_⟩:=RV_list r1
 have rE:OSF 2001 3007 0 g4 w4 3 30 (([(10:Int),(20:Int)]:List Int):List Int) p3:=cb.osfv (by rw [← hv2,l9]; rfl) (o1.stp hs rfl)
 clear cb
 have hfr:=hfr.stp hs
 refine Zb (Zd (Zf (Za ?_)))
 have r5:RV g4.m w4 (⟨(5:Int),(1:Int),(10:Int),0,(20:Int)⟩:LoomOrder) (.agg (setCh [[.int .i64 0],[.int .i64 0],[.int .i64 0],[.int .i64 0],[.int .i64 0]] [(0,.int .i64 (5)),(1,.int .i64 (1)),(2,.int .i64 (10)),(4,.int .i64 (20))]).flatten.toArray):=RV_build rfl (rep_pair (rfl) (rep_pair (rfl) (rep_pair (rfl) (rep_pair (rep_int) (rep_last (rfl))))))
 generalize uC:(Value.agg (setCh [[.int .i64 0],[.int .i64 0],[.int .i64 0],[.int .i64 0],[.int .i64 0]] [(0,.int .i64 (5)),(1,.int .i64 (1)),(2,.int .i64 (10)),(4,.int .i64 (20))]).flatten.toArray)=v5 at r5
 refine EL_p v5 (uC ▸ P_build (vs:=[(0,.int .i64 (5)),(1,.int .i64 (1)),(2,.int .i64 (10)),(4,.int .i64 (20))]) [[.int .i64 0],[.int .i64 0],[.int .i64 0],[.int .i64 0],[.int .i64 0]] lay_49 rfl rfl (.cons rfl (.cons rfl (.cons rfl (.cons rfl .nil)))) ⟨⟨_,rfl,rfl⟩,⟨⟨_,rfl,rfl⟩,⟨⟨_,rfl,rfl⟩,⟨⟨_,rfl,rfl⟩,trivial⟩⟩⟩⟩) rfl ?_
 have r6:RV g4.m w4 (⟨(15:Int),(2:Int),(12:Int),0,(20:Int)⟩:LoomOrder) (.agg (setCh [[.int .i64 0],[.int .i64 0],[.int .i64 0],[.int .i64 0],[.int .i64 0]] [(0,.int .i64 (15)),(1,.int .i64 (2)),(2,.int .i64 (12)),(4,.int .i64 (20))]).flatten.toArray):=RV_build rfl (rep_pair (rfl) (rep_pair (rfl) (rep_pair (rfl) (rep_pair (rep_int) (rep_last (rfl))))))
 generalize vC:(Value.agg (setCh [[.int .i64 0],[.int .i64 0],[.int .i64 0],[.int .i64 0],[.int .i64 0]] [(0,.int .i64 (15)),(1,.int .i64 (2)),(2,.int .i64 (12)),(4,.int .i64 (20))]).flatten.toArray)=v6 at r6
 refine EL_p v6 (vC ▸ P_build (vs:=[(0,.int .i64 (15)),(1,.int .i64 (2)),(2,.int .i64 (12)),(4,.int .i64 (20))]) [[.int .i64 0],[.int .i64 0],[.int .i64 0],[.int .i64 0],[.int .i64 0]] lay_49 rfl rfl (.cons rfl (.cons rfl (.cons rfl (.cons rfl .nil)))) ⟨⟨_,rfl,rfl⟩,⟨⟨_,rfl,rfl⟩,⟨⟨_,rfl,rfl⟩,⟨⟨_,rfl,rfl⟩,trivial⟩⟩⟩⟩) rfl ?_
 have r7:RV g4.m w4 (⟨(5:Int),(1:Int),(8:Int),0,(20:Int)⟩:LoomOrder) (.agg (setCh [[.int .i64 0],[.int .i64 0],[.int .i64 0],[.int .i64 0],[.int .i64 0]] [(0,.int .i64 (5)),(1,.int .i64 (1)),(2,.int .i64 (8)),(4,.int .i64 (20))]).flatten.toArray):=RV_build rfl (rep_pair (rfl) (rep_pair (rfl) (rep_pair (rfl) (rep_pair (rep_int) (rep_last (rfl))))))
 generalize aD:(Value.agg (setCh [[.int .i64 0],[.int .i64 0],[.int .i64 0],[.int .i64 0],[.int .i64 0]] [(0,.int .i64 (5)),(1,.int .i64 (1)),(2,.int .i64 (8)),(4,.int .i64 (20))]).flatten.toArray)=v7 at r7
 refine EL_p v7 (aD ▸ P_build (vs:=[(0,.int .i64 (5)),(1,.int .i64 (1)),(2,.int .i64 (8)),(4,.int .i64 (20))]) [[.int .i64 0],[.int .i64 0],[.int .i64 0],[.int .i64 0],[.int .i64 0]] lay_49 rfl rfl (.cons rfl (.cons rfl (.cons rfl (.cons rfl .nil)))) ⟨⟨_,rfl,rfl⟩,⟨⟨_,rfl,rfl⟩,⟨⟨_,rfl,rfl⟩,⟨⟨_,rfl,rfl⟩,trivial⟩⟩⟩⟩) rfl ?_
 refine Ze .plain rfl (D_buildSliceA (g:=g4) 4002 (xs:=([(⟨(5:Int),(1:Int),(10:Int),0,(20:Int)⟩:LoomOrder),(⟨(15:Int),(2:Int),(12:Int),0,(20:Int)⟩:LoomOrder),(⟨(5:Int),(1:Int),(8:Int),0,(20:Int)⟩:LoomOrder)]:List LoomOrder)) (vs:=[v5,v6,v7]) Tryz.underlying31 Tryz.sizeOf49 Tryz.zeroValue49 rfl rfl (.cons rfl (.cons rfl (.cons rfl .nil))) (RVs.cons r5 (RVs.cons r6 (RVs.cons r7 RVs.nil))) rfl rfl fun g8 w8 v8 hs b8 _=>?_)
 have hfr:=hfr.stp hs
 have b4:=b4.stp hs rfl
 refine Zg v8 rfl rfl ?_
 refine Zb (Zd (Zf (Za (Ze .plain rfl (D_loadO (g:=g8) Tryz.isAgg30 Tryz.sizeOf30 rfl b4 fun v9 r9=>?_)))))
 obtain ⟨y11,mB,h⟩:=bsome h
 refine Ze .plain rfl (Zp (g:=g8) (vs:=[v9]) en13 (.cons rfl .nil) (wk13 r9 mB) fun n9 u9 bD hs hr=>?_)
 have hfr:=hfr.ext hs
 have b4:=b4.ext hs
 have b8:=b8.ext hs
 have n8:=hr
 refine Zn v8 rfl rfl ?_
 obtain ⟨rA,nB,h⟩:=bsome h
 refine Ze .plain rfl (D_callGF (g:=n9) (vs:=[v8]) en7 (.cons rfl .nil) (v7_0 (iO:=9017) (OM.lent (b8.toM)) nB) fun gl12 oB cD hxl hr=>?_)
 have hm12:=OM.unlend plain_LoomOrder hxl hr
 obtain ⟨eD,hge12⟩:∃ g,g={ m:=fun b=>if b < u9.heap.size then n9.m b else gl12.m b,o:=gl12.o:Gh }:=⟨_,rfl⟩
 rw [← hge12] at hm12
 have hs:Ext n9 u9 eD oB:=hge12 ▸ unlend hxl
 clear hxl hr hge12
 have hfr:=hfr.ext hs
 have b4:=b4.ext hs
 have b8:=b8.ext hs
 have n8:=n8.ext hs
 obtain ⟨gp14,hs,rp14⟩:=OM.pub hm12
 have hfr:=hfr.stp hs
 have b4:=b4.stp hs rfl
 have b8:=b8.stp hs rfl
 have n8:=n8.stp hs
 obtain ⟨u3,tB,h⟩:=bsome h
 refine Ze .plain rfl (Zp (g:=gp14) (vs:=[bD,cD]) en17 (.cons rfl (.cons rfl .nil)) (wk17 n8 rp14 tB) fun gD uE yE hs hr=>?_)
 have hfr:=hfr.ext hs
 have b4:=b4.ext hs
 have b8:=b8.ext hs
 obtain ⟨x6,lE,rfl,o0,rfl⟩:=hr
 refine Zn (.tuple #[x6,.int .i64 (u3.2)]) rfl rfl ?_
 refine EL_p x6 (Zi rfl rfl) rfl ?_
 refine EL_p (.int .i64 (u3.2)) (Zi rfl rfl) rfl ?_
 refine Zg x6 rfl rfl ?_
 refine Zg (.int .i64 (u3.2)) rfl rfl ?_
 refine Zb (Zd (Zf (Za (Zn v8 rfl rfl ?_))))
 refine Zn v8 rfl rfl ?_
 obtain ⟨k9,x8,h⟩:=bsome h
 refine EL_p (ePtr v8 (2:Int) 5) (P_indexAddrM (α:=LoomOrder) Tryz.underlying31 Tryz.sizeOf49 rfl (b8.toM) rfl x8) rfl ?_
 obtain ⟨pb19,po19,pe19⟩:=OM.ptrE (k:=5) (b8.toM) x8
 refine EL_p (fPtr (ePtr v8 (2:Int) 5) 1) (Zc at_49_1 rfl ⟨_,_,pe19⟩) rfl ?_
 refine Ze .plain rfl (D_storeAF (g:=gD) part_LoomOrder_1 Tryz.sizeOf3 rfl b8 x8 rfl (Zj.2 rfl) fun iD zE hs b20=>?_)
 have hfr:=hfr.stp hs
 have b4:=b4.stp hs rfl
 have o0:=o0.stp hs
 obtain ⟨yA,a9,h⟩:=bsome h
 refine EL_p (ePtr v8 (2:Int) 5) (P_indexAddrM (α:=LoomOrder) Tryz.underlying31 Tryz.sizeOf49 rfl (b20.toM) rfl a9) rfl ?_
 obtain ⟨pb23,po23,pe23⟩:=OM.ptrE (k:=5) (b20.toM) a9
 refine EL_p (fPtr (ePtr v8 (2:Int) 5) 2) (Zc at_49_2 rfl ⟨_,_,pe23⟩) rfl ?_
 refine Ze .plain rfl (D_storeAF (g:=iD) part_LoomOrder_2 Tryz.sizeOf3 rfl b20 a9 rfl (Zj.2 rfl) fun iB cF hs b24=>?_)
 have hfr:=hfr.stp hs
 have b4:=b4.stp hs rfl
 have o0:=o0.stp hs
 refine Zb (Zd (Zf (Za (Ze .plain rfl (D_loadO (g:=iB) Tryz.isAgg30 Tryz.sizeOf30 rfl b4 fun jD lD=>?_)))))
 obtain ⟨aB,vB,h⟩:=bsome h
 refine Ze .plain rfl (Zp (g:=iB) (vs:=[jD]) en13 (.cons rfl .nil) (wk13 lD vB) fun y9 z9 nD hs hr=>?_)
 have hfr:=hfr.ext hs
 have b24:=b24.ext hs
 have o0:=o0.ext hs
 have r8:=hr
 refine Zn v8 rfl rfl ?_
 obtain ⟨dB,yB,h⟩:=bsome h
 refine Ze .plain rfl (D_callGF (g:=y9) (vs:=[v8]) en7 (.cons rfl .nil) (v7_0 (iO:=9031) (OM.lent (b24.toM)) yB) fun gl28 zB oD hxl hr=>?_)
 have hm28:=OM.unlend plain_LoomOrder hxl hr
 obtain ⟨sD,hge28⟩:∃ g,g={ m:=fun b=>if b < z9.heap.size then y9.m b else gl28.m b,o:=gl28.o:Gh }:=⟨_,rfl⟩
 rw [← hge28] at hm28
 have hs:Ext y9 z9 sD zB:=hge28 ▸ unlend hxl
 clear hxl hr hge28
 have hfr:=hfr.ext hs
 have o0:=o0.ext hs
 have r8:=r8.ext hs
 obtain ⟨gp30,hs,rp30⟩:=OM.pub hm28
 have hfr:=hfr.stp hs
 have o0:=o0.stp hs
 have r8:=r8.stp hs
 obtain ⟨i6,cC,h⟩:=bsome h
 refine Ze .plain rfl (Zp (g:=gp30) (vs:=[nD,oD]) en54 (.cons rfl (.cons rfl .nil)) (wk54 r8 rp30 cC) fun l8 mC dF hs hr=>?_)
 have hfr:=hfr.ext hs
 have o0:=o0.ext hs
 obtain ⟨i7,mE,rfl,m8,rfl⟩:=hr
 refine Zn (.tuple #[i7,.int .i64 (i6.2)]) rfl rfl ?_
 refine EL_p i7 (Zi rfl rfl) rfl ?_
 refine EL_p (.int .i64 (i6.2)) (Zi rfl rfl) rfl ?_
 refine Zg i7 rfl rfl ?_
 refine Zg (.int .i64 (i6.2)) rfl rfl ?_
 refine Zb (Zd ?_)
 obtain ⟨m7,hx,h⟩:=bsome h
 refine E_join (fun e w=>∃ (g:Gh) ,Fr gI wI g w∧e 0=.bool (m7)) (fun Q' hQ=>?_) (fun vE eF hR=>?_)
 ·replace h := hx
  clear hx
  refine Za (Zn (.int .i64 (u3.2)) rfl rfl ?_)
  refine EL_in (.bool ((u3.2 == (0:Int)))) rfl rfl rfl rfl ?_
  refine Zn (.bool ((u3.2 == (0:Int)))) rfl rfl ?_
  rcases Zt h with ⟨y6,h⟩ | ⟨y6,h⟩
  ·refine EL_y (.int .i64 (i6.2)) (Zk rfl) rfl rfl y6 rfl ?_
   refine EL_y (.bool ((i6.2 == (0:Int)))) (P_int rfl rfl rfl) rfl rfl y6 rfl ?_
   refine EL_p (.bool ((i6.2 == (0:Int)))) (Zl (b:=(u3.2 == (0:Int))) rfl (pick_t y6 rfl)) rfl ?_
   refine Zn (.bool ((i6.2 == (0:Int)))) rfl rfl ?_
   rcases Zt h with ⟨t5,h⟩ | ⟨t5,h⟩
   ·refine EL_y x6 (Zk rfl) rfl rfl t5 rfl ?_
    refine EL_y (.int .i64 ((u3.1).length:Int)) (P_len Tryz.underlying61 rfl o0) rfl rfl t5 rfl ?_
    refine EL_y (.bool ((((u3.1).length:Int) == (3:Int)))) (P_int rfl rfl rfl) rfl rfl t5 rfl ?_
    refine EL_p (.bool ((((u3.1).length:Int) == (3:Int)))) (Zl (b:=(i6.2 == (0:Int))) rfl (pick_t t5 rfl)) rfl ?_
    refine Zn (.bool ((((u3.1).length:Int) == (3:Int)))) rfl rfl ?_
    rcases Zt h with ⟨l5,h⟩ | ⟨l5,h⟩
    ·refine EL_y x6 (Zk rfl) rfl rfl l5 rfl ?_
     obtain ⟨k8,bA,h⟩:=bsome h
     refine EL_y (ePtr x6 (2:Int) 3) (Zh (α:=LoomRun) Tryz.underlying61 Tryz.sizeOf66 rfl o0 rfl bA) rfl rfl l5 rfl ?_
     have tD:=PT_idx o0 bA
     refine Ze (.yes2 rfl rfl l5) rfl (D_load (g:=l8) Tryz.isAgg66 Tryz.sizeOf66 rfl tD fun rF uD=>?_)
     have lB:RV l8.m mC (⟨(2:Int),0,(10:Int)⟩:LoomRun) (.agg (setCh [[.int .i64 0],[.int .i64 0],[.int .i64 0]] [(0,.int .i64 (2)),(2,.int .i64 (10))]).flatten.toArray):=RV_build rfl (rep_pair (rfl) (rep_pair (rep_int) (rep_last (rfl))))
     generalize qC:(Value.agg (setCh [[.int .i64 0],[.int .i64 0],[.int .i64 0]] [(0,.int .i64 (2)),(2,.int .i64 (10))]).flatten.toArray)=vD at lB
     refine EL_y vD (qC ▸ P_build (vs:=[(0,.int .i64 (2)),(2,.int .i64 (10))]) [[.int .i64 0],[.int .i64 0],[.int .i64 0]] lay_66 rfl rfl (.cons rfl (.cons rfl .nil)) ⟨⟨_,rfl,rfl⟩,⟨⟨_,rfl,rfl⟩,trivial⟩⟩) rfl rfl l5 rfl ?_
     refine EL_y (.bool ((decide (k8=(⟨(2:Int),0,(10:Int)⟩:LoomRun))))) (P_seq seq_66 rfl eg_66 rfl rfl uD lB) rfl rfl l5 rfl ?_
     refine EL_p (.bool ((decide (k8=(⟨(2:Int),0,(10:Int)⟩:LoomRun))))) (Zl (b:=(((u3.1).length:Int) == (3:Int))) rfl (pick_t l5 rfl)) rfl ?_
     refine Zn (.bool ((decide (k8=(⟨(2:Int),0,(10:Int)⟩:LoomRun))))) rfl rfl ?_
     rcases Zt h with ⟨x5,h⟩ | ⟨x5,h⟩
     ·refine EL_y i7 (Zk rfl) rfl rfl x5 rfl ?_
      refine Ze (.yes2 rfl rfl x5) rfl (D_buildSlice (g:=l8) 3055 (xs:=([(0:Int),(1:Int),(2:Int)]:List Int)) (vs:=[.int .i64 (0),.int .i64 (1),.int .i64 (2)]) Tryz.underlying28 Tryz.sizeOf3 Tryz.zeroValue3 rfl rfl (.cons rfl (.cons rfl (.cons rfl .nil))) (RVs.cons (Zj.2 rfl) (RVs.cons (Zj.2 rfl) (RVs.cons (Zj.2 rfl) RVs.nil))) rfl rfl fun xD sF yD hs o52 zD hxt hfl=>?_)
      have hfr:=hfr.stp hs
      have m8:=m8.stp hs
      obtain ⟨d9,rC,h⟩:=bsome h
      refine Ze (.yes2 rfl rfl x5) rfl (Zp (g:=xD) (vs:=[i7,yD]) en23 (.cons rfl (.cons rfl .nil)) (wk23 m8 zD rC) fun aE xE tF hs hr=>?_)
      have hfr:=hfr.ext hs
      subst hr
      refine EL_p (.bool (d9)) (Zl (b:=(decide (k8=(⟨(2:Int),0,(10:Int)⟩:LoomRun)))) rfl (pick_t x5 rfl)) rfl ?_
      refine Zg (.bool (d9)) rfl rfl ?_
      refine Zb ?_
      obtain rfl:=sinj h
      exact hQ _ _ ⟨aE,hfr,rfl⟩
     ·refine EL_s rfl rfl x5 rfl rfl ?_
      refine EL_s rfl rfl x5 rfl rfl ?_
      refine EL_s rfl rfl x5 rfl rfl ?_
      refine EL_p (.bool false) (Zl (b:=(decide (k8=(⟨(2:Int),0,(10:Int)⟩:LoomRun)))) rfl (pick_f x5 rfl)) rfl ?_
      refine Zg (.bool false) rfl rfl ?_
      refine Zb ?_
      obtain rfl:=sinj h
      exact hQ _ _ ⟨l8,hfr,rfl⟩
    ·refine EL_s rfl rfl l5 rfl rfl ?_
     iterate 4 refine EL_s rfl rfl l5 rfl rfl ?_
     refine EL_p (.bool false) (Zl (b:=(((u3.1).length:Int) == (3:Int))) rfl (pick_f l5 rfl)) rfl ?_
     refine EL_dead 5 rfl ?_
     refine Zg (.bool false) rfl rfl ?_
     refine Zb ?_
     obtain rfl:=sinj h
     exact hQ _ _ ⟨l8,hfr,rfl⟩
   ·refine EL_s rfl rfl t5 rfl rfl ?_
    refine EL_s rfl rfl t5 rfl rfl ?_
    refine EL_s rfl rfl t5 rfl rfl ?_
    refine EL_p (.bool false) (Zl (b:=(i6.2 == (0:Int))) rfl (pick_f t5 rfl)) rfl ?_
    refine EL_dead 12 rfl ?_
    refine Zg (.bool false) rfl rfl ?_
    refine Zb ?_
    obtain rfl:=sinj h
    exact hQ _ _ ⟨l8,hfr,rfl⟩
  ·refine EL_s rfl rfl y6 rfl rfl ?_
   refine EL_s rfl rfl y6 rfl rfl ?_
   refine EL_p (.bool false) (Zl (b:=(u3.2 == (0:Int))) rfl (pick_f y6 rfl)) rfl ?_
   refine EL_dead 17 rfl ?_
   refine Zg (.bool false) rfl rfl ?_
   refine Zb ?_
   obtain rfl:=sinj h
   exact hQ _ _ ⟨l8,hfr,rfl⟩
 ·clear hx
  obtain ⟨uF,hfr,iA⟩:=hR
  refine E_ret ?_
  obtain rfl:=sinj h
  exact end1 rfl rfl (show _=.bool (m7) from iA) ⟨_,hfr,rfl⟩
def f4 (x0:List (Vector UInt8 3)) (x1:UInt8) (x2:Vector UInt8 4):Option (Bool):=
 (idx (x2).toList (0:Int)).bind fun y2=>
 (f6 x1 y2 x0).bind fun y6=>
 (f16 x2).bind fun uH=>
 (f13 (y6.1)).bind fun y17=>
 (f7 (y6.2)).bind fun y19=>
 (f17 y17 y19).bind fun aD=>
 jn (σ:=Unit) (fun _=>
  jn (σ:=(List PayPiece) × (Vector Int 3) × (List Int) × Int) (fun (qN,eD,l9,u9)=>
   (f19 uH).bind fun qU=>
   (f20 qU qN).bind fun x6=>
   jn (σ:=Unit) (fun _=>
    jn (σ:=Unit) (fun _=>
     Option.bind (α:=Int) (
      lp (σ:=Int × Int) (fun mO (gD,mB)=>
       jn (σ:=Unit) (fun _=>
        Option.bind (α:=Int) (
         (idx l9 mB).bind fun aM=>
         bif (decide (aM > (0 : Int))) then
          some ((w64 (gD + (1:Int))))
         else
          some (gD)
         ) fun aG=>
        mO (aG,(w64 (mB + (1:Int))))
        ) fun nO=>
       bif (decide (mB < (3 : Int))) then
        nO ()
       else
        some (gD)
       ) big ((0:Int),(0:Int))
      ) fun bG=>
     jn (σ:=Unit) (fun _=>
      (f8 l9).bind fun oO=>
      (f21 u9 oO).bind fun lB=>
      jn (σ:=Unit) (fun _=>
       Option.bind (α:=Bool) (
        bif (lB.2 == (0 : Int)) then
         (f23 (lB.1) l9).bind fun iG=>
         bif iG then
          (f15).bind fun jG=>
          bif jG then
           (f22).bind fun nJ=>
           some (nJ)
          else
           some (false)
         else
          some (false)
        else
         some (false)
        ) fun iH=>
       some (iH)
       ) fun pO=>
      bif (u9 == (0 : Int)) then
       Option.bind (α:=Bool) (
        bif (lB.2 == (2 : Int)) then
         (f15).bind fun kG=>
         bif kG then
          (f22).bind fun oJ=>
          some (oJ)
         else
          some (false)
        else
         some (false)
        ) fun jH=>
       some (jH)
      else
       pO ()
      ) fun qO=>
     bif (bG != ((x6.1).length : Int)) then
      some (false)
     else
      qO ()
     ) fun rU=>
    lp (σ:=Int) (fun sU o0=>
     jn (σ:=Unit) (fun _=>
      jn (σ:=Unit) (fun _=>
       sU ((w64 (o0 + (1:Int))))
       ) fun rO=>
      Option.bind (α:=Bool) (
       (idx (x6.1) o0).bind fun a9=>
       bif (decide (a9 < (0 : Int))) then
        some (true)
       else
        (idx (x6.1) o0).bind fun x8=>
        bif (decide (x8 > (2 : Int))) then
         some (true)
        else
         (idx (x6.1) o0).bind fun oD=>
         (idx l9 oD).bind fun z9=>
         bif (z9 == (0 : Int)) then
          some (true)
         else
          (idx (x6.2.1) o0).bind fun nB=>
          (idx (x6.1) o0).bind fun mE=>
          (idx (eD).toList mE).bind fun oB=>
          bif (nB != oB) then
           some (true)
          else
           bif (decide (o0 > (0 : Int))) then
            (idx (x6.1) o0).bind fun lG=>
            (idx (x6.1) (w64 (o0 - (1:Int)))).bind fun mG=>
            some ((decide (lG ≤ mG)))
           else
            some (false)
       ) fun oE=>
      bif oE then
       some (false)
      else
       rO ()
      ) fun tU=>
     bif (decide (o0 < ((x6.1).length : Int))) then
      tU ()
     else
      rU ()
     ) big ((0:Int))
    ) fun uU=>
   Option.bind (α:=Bool) (
    bif (x6.2.2.2 != (0 : Int)) then
     some (true)
    else
     some ((((x6.1).length:Int) != ((x6.2.1).length:Int)))
    ) fun eF=>
   bif eF then
    some (false)
   else
    uU ()
   ) fun vU=>
  lp (σ:=(List PayPiece) × (Vector Int 3) × (List Int) × Int × Int) (fun xU (uC,yB,zB,aB,t5)=>
   jn (σ:=Unit) (fun _=>
    jn (σ:=(List PayPiece) × (Vector Int 3) × (List Int) × Int) (fun (sJ,tI,uI,vI)=>
     xU (sJ,tI,uI,vI,(w64 (t5 + (1:Int))))
     ) fun yU=>
    (idx (aD.1) t5).bind fun k8=>
    jn (σ:=Unit) (fun _=>
     (idx (x2).toList (1:Int)).bind fun uD=>
     (idx (y6.2) t5).bind fun vD=>
     (f19 uH).bind fun aI=>
     (f18 aI ((⟨(k8).Loom,((uD).toNat:Int),(w64 ((1000:Int) * (vD).Woven)),[],0⟩:PayPiece))).bind fun k9=>
     jn (σ:=Unit) (fun _=>
      (apnd 56 uC (([(⟨(k8).Loom,((uD).toNat:Int),(w64 ((1000:Int) * (vD).Woven)),[],0⟩:PayPiece)]:List PayPiece))).bind fun tL=>
      (idx (yB).toList (k8).Loom).bind fun bI=>
      (idx zB (k8).Loom).bind fun cG=>
      (idx (y6.2) t5).bind fun rF=>
      (idx (y6.2) t5).bind fun eG=>
      (idx (yB).toList (k8).Loom).bind fun u00=>
      (idx zB (k8).Loom).bind fun v00=>
      yU (tL,(vset yB ((k8).Loom) ((w64 (bI + k9.2.2.1)))),(List.set zB (Int.toNat (k8).Loom) ((w64 (cG + (rF).Woven)))),(w64 (aB + (eG).Woven)))
      ) fun zU=>
     bif (k9.2.2.2 != (0 : Int)) then
      some (false)
     else
      zU ()
     ) fun aV=>
    Option.bind (α:=Bool) (
     (idx (aD.1) t5).bind fun dI=>
     bif ((dI).Order != t5) then
      some (true)
     else
      bif (decide ((k8).Loom < (0 : Int))) then
       some (true)
      else
       some ((decide ((k8).Loom ≥ (((y6.1).Widths).length:Int))))
     ) fun uF=>
    bif uF then
     some (false)
    else
     aV ()
    ) fun bV=>
   bif (decide (t5 < ((aD.1).length : Int))) then
    bV ()
   else
    vU (uC,yB,zB,aB)
   ) big (([]:List PayPiece),(⟨List.toArray [0,0,0],rfl⟩:Vector Int 3),([(0:Int),(0:Int),(0:Int)]:List Int),(0:Int),(0:Int))
  ) fun k26=>
 Option.bind (α:=Bool) (
  bif (aD.2 != (0 : Int)) then
   some (true)
  else
   some ((((aD.1).length:Int) != ((y6.2).length:Int)))
  ) fun xH=>
 bif xH then
  some (false)
 else
  k26 ()
theorem wk4 {gI:Gh} {wI:World} {x0:List (Vector UInt8 3)} {x1:UInt8} {x2:Vector UInt8 4} {up0:Value} (rp0:RV gI.m wI x0 up0) {up2:Value} (rp2:RV gI.m wI x2 up2) {r:Bool} (h:f4 x0 x1 x2=some r):Fn Tryz.prog 4 #[up0,.int .u8 (UInt8.toNat (x1)),up2] gI wI (fun _ _ v=>v=.bool (r)):=by
 unfold f4 at h
 refine fn_of_E Tryz.func4 rfl (Nat.le_of_ble_eq_true rfl) fun g0 hm hfr=>?_
 have rp0:RV g0.m wI x0 up0:=hm ▸ rp0
 have rp2:RV g0.m wI x2 up2:=hm ▸ rp2
 show E _ 264 none _ _ _ _ _
 refine Zf (Za (Ze .plain rfl (D_box (g:=g0) rfl rp2 fun g1 w1 p1 hs q1=>?_)))
 have hfr:=hfr.ext hs
 have rp0:=rp0.ext hs
 refine Zg (.bool false) rfl rfl ?_
 refine Zb (Zd (Zf (Za (Zn (.int .u8 (UInt8.toNat (x1))) rfl rfl ?_))))
 obtain ⟨y2,hy2,h⟩:=bsome h
 refine EL_p (fPtr p1 (((0:Int):Int).toNat * 1)) (P_indexAddrA (α:=UInt8) Tryz.underlying55 Tryz.sizeOf5 rfl (PT.ptr q1) rfl hy2) rfl ?_
 have q3:=PT_idxA q1 hy2
 refine Ze .plain rfl (D_load (g:=g1) Tryz.isAgg5 Tryz.sizeOf5 rfl q3 fun v4 r4=>?_)
 obtain rfl:=RV_u8.1 r4
 refine Zn up0 rfl rfl ?_
 obtain ⟨y6,hy6,h⟩:=bsome h
 refine Ze .plain rfl (Zp (g:=g1) (vs:=[.int .u8 (UInt8.toNat (x1)),.int .u8 (UInt8.toNat (y2)),up0]) en6 (.cons rfl (.cons rfl (.cons rfl .nil))) (wk6 rp0 hy6) fun g5 w5_ v5 hs hr=>?_)
 have hfr:=hfr.ext hs
 have q1:=q1.ext hs
 obtain ⟨nR,rA,rfl,oR,rC⟩:=hr
 refine Zn (.tuple #[nR,rA]) rfl rfl ?_
 refine EL_p nR (Zi rfl rfl) rfl ?_
 refine EL_p rA (Zi rfl rfl) rfl ?_
 refine Ze .plain rfl (D_allocOc (g:=g5) 2007 (⟨[],0⟩:LoomMill) Tryz.zeroValue30 (fun m w=>⟨_,(rep_two rep_nil rep_int),rfl⟩) fun g7 w7 p7 hs b7 cb=>?_)
 have hfr:=hfr.stp hs
 have q1:=q1.stp hs
 have oR:=oR.stp hs
 have rC:=rC.stp hs
 have i08:OSF 2007 60700 0 g7 w7 3 30 ([]:List Int) p7:=cb.osf (by rfl)
 clear cb
 refine Ze .plain rfl (D_storeOc (g:=g7) (v:=nR) Tryz.sizeOf30 rfl b7 rfl oR fun g8 w8 hs b8 cb=>?_)
 clear cb
 have hfr:=hfr.stp hs
 have q1:=q1.stp hs
 have rC:=rC.stp hs
 refine Zg rA rfl rfl ?_
 refine Zb (Zd (Zf (Za (Ze .plain rfl (D_buildSlice (g:=g8) 3040 (xs:=([]:List PayPiece)) (vs:=[]) Tryz.underlying56 Tryz.sizeOf68 Tryz.zeroValue68 rfl rfl .nil RVs.nil rfl rfl fun g9 w9 v9 hs o9 r9 hxt hfl=>?_)))))
 have hfr:=hfr.stp hs
 have q1:=q1.stp hs
 have rC:=rC.stp hs
 have b8:=b8.stp hs rfl
 refine Ze .plain rfl (D_load (g:=g9) Tryz.isAgg55 Tryz.sizeOf55 rfl q1 fun v10 r10=>?_)
 obtain ⟨uH,g03,h⟩:=bsome h
 refine Ze .plain rfl (Zp (g:=g9) (vs:=[v10]) en16 (.cons rfl .nil) (wk16 r10 g03) fun g11 j08 v11 hs hr=>?_)
 have hfr:=hfr.ext hs
 have q1:=q1.ext hs
 have rC:=rC.ext hs
 have b8:=b8.ext hs
 have r9:=r9.ext hs
 have o9:=o9.ext hs
 have qX:=hr
 refine Ze .plain rfl (D_allocOc (g:=g11) 2010 (⟨[],[],0,0⟩:PayList) Tryz.zeroValue59 (fun m w=>⟨_,(rep_two rep_nil (rep_two rep_nil (rep_two rep_int rep_int))),rfl⟩) fun rX w13 lE hs b13 cb=>?_)
 have hfr:=hfr.stp hs
 have q1:=q1.stp hs
 have rC:=rC.stp hs
 have b8:=b8.stp hs rfl
 have r9:=r9.stp hs
 have o9:=o9.stp hs rfl
 have qX:=qX.stp hs
 have d07:OSF 2010 61000 0 rX w13 148 59 ([]:List PayRate) lE:=cb.osf (by rfl)
 have e07:OSF 2010 61001 1 rX w13 3 59 ([]:List Int) lE:=cb.osf (by rfl)
 clear cb
 refine Zg v9 rfl rfl ?_
 refine Ze .plain rfl (D_storeOc (g:=rX) (v:=v11) Tryz.sizeOf59 rfl b13 rfl qX fun g14 w14 hs b14 cb=>?_)
 clear cb
 have hfr:=hfr.stp hs
 have q1:=q1.stp hs
 have rC:=rC.stp hs
 have b8:=b8.stp hs rfl
 have r9:=r9.stp hs
 have o9:=o9.stp hs rfl
 refine Zb (Zd (Zf (Za (Ze .plain rfl (D_loadO (g:=g14) Tryz.isAgg30 Tryz.sizeOf30 rfl b8 fun v15 r15=>?_)))))
 obtain ⟨y17,h03,h⟩:=bsome h
 refine Ze .plain rfl (Zp (g:=g14) (vs:=[v15]) en13 (.cons rfl .nil) (wk13 r15 h03) fun g16 k08 v16 hs hr=>?_)
 have hfr:=hfr.ext hs
 have q1:=q1.ext hs
 have rC:=rC.ext hs
 have b8:=b8.ext hs
 have r9:=r9.ext hs
 have o9:=o9.ext hs
 have b14:=b14.ext hs
 have sX:=hr
 refine Zn rA rfl rfl ?_
 obtain ⟨y19,i03,h⟩:=bsome h
 refine Ze .plain rfl (Zp (g:=g16) (vs:=[rA]) en7 (.cons rfl .nil) (wk7 rC i03) fun g18 l08 v18 hs hr=>?_)
 have hfr:=hfr.ext hs
 have q1:=q1.ext hs
 have rC:=rC.ext hs
 have b8:=b8.ext hs
 have r9:=r9.ext hs
 have o9:=o9.ext hs
 have b14:=b14.ext hs
 have sX:=sX.ext hs
 have r18:=hr
 obtain ⟨aD,j03,h⟩:=bsome h
 refine Ze .plain rfl (Zp (g:=g18) (vs:=[v16,v18]) en17 (.cons rfl (.cons rfl .nil)) (wk17 sX r18 j03) fun g20 m08 v20 hs hr=>?_)
 have hfr:=hfr.ext hs
 have q1:=q1.ext hs
 have rC:=rC.ext hs
 have b8:=b8.ext hs
 have r9:=r9.ext hs
 have o9:=o9.ext hs
 have b14:=b14.ext hs
 obtain ⟨yA,g07,rfl,dO,rfl⟩:=hr
 refine Zn (.tuple #[yA,.int .i64 (aD.2)]) rfl rfl ?_
 refine EL_p yA (Zi rfl rfl) rfl ?_
 refine EL_p (.int .i64 (aD.2)) (Zi rfl rfl) rfl ?_
 refine Zg yA rfl rfl ?_
 refine Zg (.int .i64 (aD.2)) rfl rfl ?_
 refine Zb (Zd (Zq h (fun (s:Unit) e w=>∃ (g:Gh) ,Fr gI wI g w∧e 5=p1∧PT g.m w (x2:Vector UInt8 4) p1∧e 7=p7∧OB 2007 g w 30 (y6.1:LoomMill) p7∧e 8=rA∧RV g.m w (y6.2:List LoomOrder) rA∧e 9=v9∧RV g.m w (([]:List PayPiece):List PayPiece) v9∧OS 3040 g w 68 (([]:List PayPiece):List PayPiece) v9∧e 10=lE∧OB 2010 g w 59 (uH:PayList) lE∧e 11=yA∧RV g.m w (aD.1:List LoomRun) yA) (fun X26 k26 k03 h=>?_) ?_))
 ·obtain ⟨xH, hx, h⟩ := bsome h
  refine E_join (fun e w=>∃ (g:Gh) ,Fr gI wI g w∧e 5=p1∧PT g.m w (x2:Vector UInt8 4) p1∧e 7=p7∧OB 2007 g w 30 (y6.1:LoomMill) p7∧e 8=rA∧RV g.m w (y6.2:List LoomOrder) rA∧e 9=v9∧RV g.m w (([]:List PayPiece):List PayPiece) v9∧OS 3040 g w 68 (([]:List PayPiece):List PayPiece) v9∧e 10=lE∧OB 2010 g w 59 (uH:PayList) lE∧e 11=yA∧RV g.m w (aD.1:List LoomRun) yA∧e 59=.bool (xH)) (fun Q' hQ=>?_) (fun n08 w29 hR=>?_)
  ·replace h := hx
   clear hx
   refine Za (Zn (.int .i64 (aD.2)) rfl rfl ?_)
   refine EL_in (.bool ((aD.2 != (0:Int)))) rfl rfl rfl rfl ?_
   refine Zn (.bool ((aD.2 != (0:Int)))) rfl rfl ?_
   rcases Zt h with ⟨hG,h⟩ | ⟨hG,h⟩
   ·refine EL_s rfl rfl hG rfl rfl ?_
    iterate 4 refine EL_s rfl rfl hG rfl rfl ?_
    refine EL_p (.bool true) (Zl (b:=(aD.2 != (0:Int))) rfl (pick_t hG rfl)) rfl ?_
    refine Zb ?_
    obtain rfl:=sinj h
    exact hQ _ _ ⟨g20,hfr,rfl,q1,rfl,b8,rfl,rC,rfl,r9,o9,rfl,b14,rfl,dO,rfl⟩
   ·refine EL_y yA (Zk rfl) rfl rfl hG rfl ?_
    refine EL_y (.int .i64 ((aD.1).length:Int)) (P_len Tryz.underlying61 rfl dO) rfl rfl hG rfl ?_
    refine EL_y rA (Zk rfl) rfl rfl hG rfl ?_
    refine EL_y (.int .i64 ((y6.2).length:Int)) (P_len Tryz.underlying31 rfl rC) rfl rfl hG rfl ?_
    refine EL_y (.bool ((((aD.1).length:Int) != ((y6.2).length:Int)))) (P_int rfl rfl rfl) rfl rfl hG rfl ?_
    refine EL_p (.bool ((((aD.1).length:Int) != ((y6.2).length:Int)))) (Zl (b:=(aD.2 != (0:Int))) rfl (pick_f hG rfl)) rfl ?_
    refine Zb ?_
    obtain rfl:=sinj h
    exact hQ _ _ ⟨g20,hfr,rfl,q1,rfl,b8,rfl,rC,rfl,r9,o9,rfl,b14,rfl,dO,rfl⟩
  ·clear hx
   obtain ⟨g29,hfr,x00,y00,z00,a01,b01,c01,d01,e01,g01,tX,uX,vX,xX,sO⟩:=hR
   rcases Zt h with ⟨pR,h⟩ | ⟨pR,h⟩
   ·refine E_cond_true (Eq.trans (show ev _ _ = .bool (xH) from sO) (congrArg Value.bool pR)) ?_
    refine Zf (Za (Zg (.bool false) rfl rfl ?_))
    refine Zb (Zd (E_ret (thn_r ?_)))
    obtain rfl:=sinj h
    exact end1 rfl rfl (show _=.bool false from rfl) ⟨_,hfr,rfl⟩
   ·refine E_cond_false (Eq.trans (show ev _ _ = .bool (xH) from sO) (congrArg Value.bool pR)) ?_
    exact Zu (Zd (k03 () _ _ ⟨g29,hfr,x00,y00,z00,a01,b01,c01,d01,e01,g01,tX,uX,vX,xX⟩ h))
 ·rintro _ o08 w31 ⟨g31, hfr, h01, kH, i01, lH, j01, mH, k01, nH, oH, yX, vF, zX, xF⟩ h
  refine Zf (Za ?_)
  have rN:RV g31.m w31 (⟨List.toArray [0,0,0],rfl⟩:Vector Int 3) (.agg (setCh [[.int .i64 0],[.int .i64 0],[.int .i64 0]] []).flatten.toArray):=RV_build rfl (rep_vec (flat_chunk rep_int (flat_chunk rep_int (flat_chunk rep_int flat_nil))) rfl)
  generalize l03:(Value.agg (setCh [[.int .i64 0],[.int .i64 0],[.int .i64 0]] []).flatten.toArray)=v32 at rN
  refine EL_p v32 (l03 ▸ P_buildA (vs:=[]) [[.int .i64 0],[.int .i64 0],[.int .i64 0]] Tryz.underlying64 layA_64 szA_3 rfl (by simp) .nil trivial) rfl ?_
  refine Ze .plain rfl (D_buildSliceA (g:=g31) 4014 (xs:=([(0:Int),(0:Int),(0:Int)]:List Int)) (vs:=[.int .i64 (0),.int .i64 (0),.int .i64 (0)]) Tryz.underlying28 Tryz.sizeOf3 Tryz.zeroValue3 rfl rfl (.cons rfl (.cons rfl (.cons rfl .nil))) (RVs.cons (Zj.2 rfl) (RVs.cons (Zj.2 rfl) (RVs.cons (Zj.2 rfl) RVs.nil))) rfl rfl fun g33 w33 v8 hs b33 _=>?_)
  have hfr:=hfr.stp hs
  have kH:=kH.stp hs
  have lH:=lH.stp hs rfl
  have mH:=mH.stp hs
  have nH:=nH.stp hs
  have oH:=oH.stp hs rfl
  have vF:=vF.stp hs rfl
  have xF:=xF.stp hs
  have rN:=rN.stp hs
  refine Ze .plain rfl (D_allocOc (g:=g33) 2013 ((⟨List.toArray [0,0,0],rfl⟩:Vector Int 3):Vector Int 3) Tryz.zeroValue64 (fun m w=>⟨_,(rep_vec (flat_chunk rep_int (flat_chunk rep_int (flat_chunk rep_int flat_nil))) rfl),rfl⟩) fun g34 w34 mC hs b34 cb=>?_)
  have hfr:=hfr.stp hs
  have kH:=kH.stp hs
  have lH:=lH.stp hs rfl
  have mH:=mH.stp hs
  have nH:=nH.stp hs
  have oH:=oH.stp hs rfl
  have vF:=vF.stp hs rfl
  have xF:=xF.stp hs
  have rN:=rN.stp hs
  have b33:=b33.stp hs rfl
  clear cb
  refine Ze .plain rfl (D_storeOc (g:=g34) (v:=v32) Tryz.sizeOf64 rfl b34 rfl rN fun g35 w35 hs b35 cb=>?_)
  clear cb
  have hfr:=hfr.stp hs
  have kH:=kH.stp hs
  have lH:=lH.stp hs rfl
  have mH:=mH.stp hs
  have nH:=nH.stp hs
  have oH:=oH.stp hs rfl
  have vF:=vF.stp hs rfl
  have xF:=xF.stp hs
  have b33:=b33.stp hs rfl
  refine Zg v8 rfl rfl ?_
  refine Zg (.int .i64 (0)) rfl rfl ?_
  refine Zb (Zd (Zq h (fun (s:(List PayPiece) × (Vector Int 3) × (List Int) × Int) e w=>∃ (g:Gh) (v9:Value),Fr gI wI g w∧e 9=v9∧RV g.m w (s.1:List PayPiece) v9∧OS 3040 g w 68 (s.1:List PayPiece) v9∧e 10=lE∧OB 2010 g w 59 (uH:PayList) lE∧e 13=mC∧OB 2013 g w 64 (s.2.1:Vector Int 3) mC∧e 14=v8∧OA 4014 g w 3 (s.2.2.1:List Int) v8∧e 15=.int .i64 (s.2.2.2)) (fun X3961 vU aY h=>?_) ?_))
  ·refine Zf (Za (Zg (.int .i64 (0)) rfl rfl ?_))
   refine Zb (Zd (Zr ?_))
   refine E_lp h (fun (s:(List PayPiece) × (Vector Int 3) × (List Int) × Int × Int) e w=>∃ (g:Gh) (v9:Value),Fr gI wI g w∧e 5=p1∧PT g.m w (x2:Vector UInt8 4) p1∧e 7=p7∧OB 2007 g w 30 (y6.1:LoomMill) p7∧e 8=rA∧RV g.m w (y6.2:List LoomOrder) rA∧e 9=v9∧RV g.m w (s.1:List PayPiece) v9∧OS 3040 g w 68 (s.1:List PayPiece) v9∧e 10=lE∧OB 2010 g w 59 (uH:PayList) lE∧e 11=yA∧RV g.m w (aD.1:List LoomRun) yA∧e 13=mC∧OB 2013 g w 64 (s.2.1:Vector Int 3) mC∧e 14=v8∧OA 4014 g w 3 (s.2.2.1:List Int) v8∧e 15=.int .i64 (s.2.2.2.1)∧e 16=.int .i64 (s.2.2.2.2)) ⟨g35,(v9),hfr,h01,kH,i01,lH,j01,mH,k01,nH,oH,yX,vF,zX,xF,rfl,b35,rfl,b33,rfl,rfl⟩ (fun X3962 xU bY=>?_)
   rintro ⟨uC,yB,zB,aB,t5⟩ c05 h07 ⟨cV,cC,hfr,rV,sV,tV,uV,vV,xV,sN,tN,uN,bM,cM,dM,eM,iM,jM,kM,mM,nM,oM⟩ h
   refine Zq h (fun (s:Unit) e w=>∃ (g:Gh) ,Fr gI wI g w∧e 5=p1∧PT g.m w (x2:Vector UInt8 4) p1∧e 7=p7∧OB 2007 g w 30 (y6.1:LoomMill) p7∧e 8=rA∧RV g.m w (y6.2:List LoomOrder) rA∧e 9=cC∧RV g.m w (uC:List PayPiece) cC∧OS 3040 g w 68 (uC:List PayPiece) cC∧e 10=lE∧OB 2010 g w 59 (uH:PayList) lE∧e 11=yA∧RV g.m w (aD.1:List LoomRun) yA∧e 13=mC∧OB 2013 g w 64 (yB:Vector Int 3) mC∧e 14=v8∧OA 4014 g w 3 (zB:List Int) v8∧e 15=.int .i64 (aB)∧e 16=.int .i64 (t5)) (fun X3965 bV cY h=>?_) ?_
   ·refine Zf (Za (Zo oM rfl ?_))
    refine Zo dM rfl ?_
    refine EL_p (.int .i64 ((aD.1).length:Int)) (P_len Tryz.underlying61 rfl eM) rfl ?_
    refine EL_in (.bool ((decide (t5 < ((aD.1).length:Int))))) rfl rfl rfl rfl ?_
    refine Zb (Zd ?_)
    rcases Zt h with ⟨pM,h⟩ | ⟨pM,h⟩
    ·refine E_ct pM rfl ?_
     exact Zu (Zd (cY () _ _ ⟨cV,hfr,rV,sV,tV,uV,vV,xV,sN,tN,uN,bM,cM,dM,eM,iM,jM,kM,mM,nM,oM⟩ h))
    ·refine E_cf pM rfl ?_
     refine E_exit ?_
     refine thn_e ?_
     refine thn_e ?_
     refine blk_hit ?_
     exact Zd (aY (uC,yB,zB,aB) _ _ ⟨cV,(cC),hfr,sN,tN,uN,bM,cM,iM,jM,kM,mM,nM⟩ h)
   ·rintro _ d05 i07 ⟨iI, hfr, vJ, xJ, jI, sG, yJ, zJ, aK, bK, cK, yI, zI, yF, yD, eJ, gJ, iJ, jJ, kJ, rE⟩ h
    refine Zq h (fun (s:(List PayPiece) × (Vector Int 3) × (List Int) × Int) e w=>∃ (g:Gh) (v9:Value),Fr gI wI g w∧e 5=p1∧PT g.m w (x2:Vector UInt8 4) p1∧e 7=p7∧OB 2007 g w 30 (y6.1:LoomMill) p7∧e 8=rA∧RV g.m w (y6.2:List LoomOrder) rA∧e 9=v9∧RV g.m w (s.1:List PayPiece) v9∧OS 3040 g w 68 (s.1:List PayPiece) v9∧e 10=lE∧OB 2010 g w 59 (uH:PayList) lE∧e 11=yA∧RV g.m w (aD.1:List LoomRun) yA∧e 13=mC∧OB 2013 g w 64 (s.2.1:Vector Int 3) mC∧e 14=v8∧OA 4014 g w 3 (s.2.2.1:List Int) v8∧e 15=.int .i64 (s.2.2.2)∧e 16=.int .i64 (t5)) (fun X5926 yU tO h=>?_) ?_
    ·refine Zr ?_
     refine Zf (Za (Zo yF rfl ?_))
     refine Zo rE rfl ?_
     obtain ⟨k8,uO,h⟩:=bsome h
     refine EL_p (ePtr yA t5 3) (Zh (α:=LoomRun) Tryz.underlying61 Tryz.sizeOf66 rfl yD rfl uO) rfl ?_
     have dV:=PT_idx yD uO
     refine EL_p (fPtr (ePtr yA t5 3) 1) (Zc at_66_1 rfl (PT.ptr dV)) rfl ?_
     have l01:=Zm (part_LoomRun_1).1 dV
     refine Ze .plain rfl (D_load (g:=iI) Tryz.isAgg3 Tryz.sizeOf3 rfl l01 fun j07 m01=>?_)
     obtain rfl:=Zj.1 m01
     refine Zg (.int .i64 ((k8).Loom)) rfl rfl ?_
     refine Zb (Zd (Zq h (fun (s:Unit) e w=>∃ (g:Gh) ,Fr gI wI g w∧e 5=p1∧PT g.m w (x2:Vector UInt8 4) p1∧e 7=p7∧OB 2007 g w 30 (y6.1:LoomMill) p7∧e 8=rA∧RV g.m w (y6.2:List LoomOrder) rA∧e 9=cC∧RV g.m w (uC:List PayPiece) cC∧OS 3040 g w 68 (uC:List PayPiece) cC∧e 10=lE∧OB 2010 g w 59 (uH:PayList) lE∧e 11=yA∧RV g.m w (aD.1:List LoomRun) yA∧e 13=mC∧OB 2013 g w 64 (yB:Vector Int 3) mC∧e 14=v8∧OA 4014 g w 3 (zB:List Int) v8∧e 15=.int .i64 (aB)∧e 16=.int .i64 (t5)∧e 17=.int .i64 ((k8).Loom)) (fun X5949 aV dY h=>?_) ?_))
     ·obtain ⟨uF, hx, h⟩ := bsome h
      refine E_join (fun e w=>∃ (g:Gh) ,Fr gI wI g w∧e 5=p1∧PT g.m w (x2:Vector UInt8 4) p1∧e 7=p7∧OB 2007 g w 30 (y6.1:LoomMill) p7∧e 8=rA∧RV g.m w (y6.2:List LoomOrder) rA∧e 9=cC∧RV g.m w (uC:List PayPiece) cC∧OS 3040 g w 68 (uC:List PayPiece) cC∧e 10=lE∧OB 2010 g w 59 (uH:PayList) lE∧e 11=yA∧RV g.m w (aD.1:List LoomRun) yA∧e 13=mC∧OB 2013 g w 64 (yB:Vector Int 3) mC∧e 14=v8∧OA 4014 g w 3 (zB:List Int) v8∧e 15=.int .i64 (aB)∧e 16=.int .i64 (t5)∧e 17=.int .i64 ((k8).Loom)∧e 90=.bool (uF)) (fun Q' hQ=>?_) (fun e05 k07 hR=>?_)
      ·replace h := hx
       clear hx
       refine Za (Zo yF rfl ?_)
       refine Zo rE rfl ?_
       obtain ⟨dI,vO,h⟩:=bsome h
       refine EL_p (ePtr yA t5 3) (Zh (α:=LoomRun) Tryz.underlying61 Tryz.sizeOf66 rfl yD rfl vO) rfl ?_
       have eV:=PT_idx yD vO
       refine EL_p (fPtr (ePtr yA t5 3) 0) (Zc at_66_0 rfl (PT.ptr eV)) rfl ?_
       have n01:=Zm (part_LoomRun_0).1 eV
       refine Ze .plain rfl (D_load (g:=iI) Tryz.isAgg3 Tryz.sizeOf3 rfl n01 fun l07 o01=>?_)
       obtain rfl:=Zj.1 o01
       refine Zo rE rfl ?_
       refine EL_in (.bool (((dI).Order != t5))) rfl rfl rfl rfl ?_
       refine Zn (.bool (((dI).Order != t5))) rfl rfl ?_
       rcases Zt h with ⟨zF,h⟩ | ⟨zF,h⟩
       ·refine EL_s rfl rfl zF rfl rfl ?_
        refine EL_s rfl rfl zF rfl rfl ?_
        refine EL_p (.bool true) (Zl (b:=((dI).Order != t5)) rfl (pick_t zF rfl)) rfl ?_
        refine EL_dead 7 rfl ?_
        refine Zb ?_
        obtain rfl:=sinj h
        exact hQ _ _ ⟨iI,hfr,vJ,xJ,jI,sG,yJ,zJ,aK,bK,cK,yI,zI,yF,yD,eJ,gJ,iJ,jJ,kJ,rE,rfl,rfl⟩
       ·refine EL_y (.int .i64 ((k8).Loom)) (Zk rfl) rfl rfl zF rfl ?_
        refine EL_y (.bool ((decide ((k8).Loom < (0:Int))))) (P_int rfl rfl rfl) rfl rfl zF rfl ?_
        refine EL_p (.bool ((decide ((k8).Loom < (0:Int))))) (Zl (b:=((dI).Order != t5)) rfl (pick_f zF rfl)) rfl ?_
        refine Zn (.bool ((decide ((k8).Loom < (0:Int))))) rfl rfl ?_
        rcases Zt h with ⟨sD,h⟩ | ⟨sD,h⟩
        ·refine EL_s rfl rfl sD rfl rfl ?_
         iterate 4 refine EL_s rfl rfl sD rfl rfl ?_
         refine EL_p (.bool true) (Zl (b:=(decide ((k8).Loom < (0:Int)))) rfl (pick_t sD rfl)) rfl ?_
         refine Zb ?_
         obtain rfl:=sinj h
         exact hQ _ _ ⟨iI,hfr,vJ,xJ,jI,sG,yJ,zJ,aK,bK,cK,yI,zI,yF,yD,eJ,gJ,iJ,jJ,kJ,rE,rfl,rfl⟩
        ·refine EL_y (.int .i64 ((k8).Loom)) (Zk rfl) rfl rfl sD rfl ?_
         refine EL_y (fPtr p7 0) (Zc at_30_0 jI (OB.ptr sG)) rfl rfl sD rfl ?_
         refine Ze (.yes2 rfl rfl sD) rfl (D_loadF (g:=iI) part_LoomMill_0.1 Tryz.isAgg28 Tryz.sizeOf28 rfl sG fun m07 p01=>?_)
         refine EL_y (.int .i64 (((y6.1).Widths).length:Int)) (P_len Tryz.underlying28 rfl p01) rfl rfl sD rfl ?_
         refine EL_y (.bool ((decide ((k8).Loom ≥ (((y6.1).Widths).length:Int))))) (P_int rfl rfl rfl) rfl rfl sD rfl ?_
         refine EL_p (.bool ((decide ((k8).Loom ≥ (((y6.1).Widths).length:Int))))) (Zl (b:=(decide ((k8).Loom < (0:Int)))) rfl (pick_f sD rfl)) rfl ?_
         refine Zb ?_
         obtain rfl:=sinj h
         exact hQ _ _ ⟨iI,hfr,vJ,xJ,jI,sG,yJ,zJ,aK,bK,cK,yI,zI,yF,yD,eJ,gJ,iJ,jJ,kJ,rE,rfl,rfl⟩
      ·clear hx
       obtain ⟨q01,hfr,yV,zV,aW,bW,cW,dW,eW,gW,iW,qR,rR,tR,uR,vR,xR,yR,zR,aS,bS,cS,qM⟩:=hR
       rcases Zt h with ⟨rM,h⟩ | ⟨rM,h⟩
       ·refine E_cond_true (Eq.trans (show ev _ _ = .bool (uF) from qM) (congrArg Value.bool rM)) ?_
        refine Zf (Za (Zg (.bool false) rfl rfl ?_))
        refine Zb (Zd (E_ret (thn_r ?_)))
        refine blk_r ?_
        refine thn_r ?_
        refine thn_r ?_
        refine blk_r ?_
        refine thn_r ?_
        obtain rfl:=sinj h
        exact end1 rfl rfl (show _=.bool false from rfl) ⟨_,hfr,rfl⟩
       ·refine E_cond_false (Eq.trans (show ev _ _ = .bool (uF) from qM) (congrArg Value.bool rM)) ?_
        exact Zu (Zd (dY () _ _ ⟨q01,hfr,yV,zV,aW,bW,cW,dW,eW,gW,iW,qR,rR,tR,uR,vR,xR,yR,zR,aS,bS,cS⟩ h))
     ·rintro _ g05 r01 ⟨gV, hfr, vN, jD, jW, uE, xN, lD, kW, vE, xE, sM, iD, dS, zD, eS, aE, gS, bE, iS, tM, uM⟩ h
      refine Zf ?_
      obtain ⟨uD,xO,h⟩:=bsome h
      have s01:=PT_idxA jD xO
      refine Zs (x:=.tmp 92) Tryz.isAgg5 Tryz.sizeOf5 s01 fun n07 t01 eY=>?_
      obtain rfl:=RV_u8.1 t01
      obtain ⟨vD,yO,h⟩:=bsome h
      have iV:=PT_idx lD yO
      have u01:=Zm (part_LoomOrder_2).1 iV
      refine Zs (x:=.tmp 98) Tryz.isAgg3 Tryz.sizeOf3 u01 fun o07 v01 gY=>?_
      obtain rfl:=Zj.1 v01
      have uL:RV gV.m r01 (⟨(k8).Loom,((uD).toNat:Int),(w64 ((1000:Int) * (vD).Woven)),[],0⟩:PayPiece) (.agg (setCh [[.int .i64 0],[.int .i64 0],[.int .i64 0],[.slice none 0 0],[.int .i64 0]] [(0,.int .i64 ((k8).Loom)),(1,.int .i64 (((uD).toNat:Int))),(2,.int .i64 ((w64 ((1000:Int) * (vD).Woven))))]).flatten.toArray):=RV_build rfl (rep_pair (rfl) (rep_pair (rfl) (rep_pair (rfl) (rep_pair (rep_nil) (rep_last (rep_int))))))
      generalize zO:(Value.agg (setCh [[.int .i64 0],[.int .i64 0],[.int .i64 0],[.slice none 0 0],[.int .i64 0]] [(0,.int .i64 ((k8).Loom)),(1,.int .i64 (((uD).toNat:Int))),(2,.int .i64 ((w64 ((1000:Int) * (vD).Woven))))]).flatten.toArray)=jV at uL
      refine E_drawL (g:=gV) (n:=12) [(11,(fun v g w=>OB 2018 g w 68 (⟨0,0,0,[],0⟩:PayPiece) v))] [0,1,2,3,4,5,6,7,8,9,10,11] rfl mixed (by kernel_rfl) (⟨fun _=>up_ob,trivial⟩) ?_
      refine L_p (.int .i64 ((k8).Loom)) rfl rfl (Zk uM) ?_
      refine L_p (fPtr p1 (((1:Int):Int).toNat * 1)) rfl rfl (P_indexAddrA (α:=UInt8) Tryz.underlying55 Tryz.sizeOf5 vN (PT.ptr jD) rfl xO) ?_
      refine L_ld (c:=.int .u8 (UInt8.toNat (uD))) rfl rfl .plain (fun _ _ h=>h.ch) eY rfl ?_
      refine L_p (.int .i64 (((uD).toNat:Int))) rfl rfl (P_u8int Tryz.underlying5 Tryz.underlying3 rfl) ?_
      refine L_p rA rfl rfl (Zk xN) ?_
      refine L_p (.int .i64 (t5)) rfl rfl (Zk tM) ?_
      refine L_p (ePtr rA t5 5) rfl rfl (Zh (α:=LoomOrder) Tryz.underlying31 Tryz.sizeOf49 rfl lD rfl yO) ?_
      refine L_p (fPtr (ePtr rA t5 5) 2) rfl rfl (Zc at_49_2 rfl (PT.ptr iV)) ?_
      refine L_ld (c:=.int .i64 ((vD).Woven)) rfl rfl .plain (fun _ _ h=>h.ch) gY rfl ?_
      refine L_p (.int .i64 ((w64 ((1000:Int) * (vD).Woven)))) rfl rfl (P_int rfl rfl rfl) ?_
      refine L_p jV rfl rfl (zO ▸ P_build (vs:=[(0,.int .i64 ((k8).Loom)),(1,.int .i64 (((uD).toNat:Int))),(2,.int .i64 ((w64 ((1000:Int) * (vD).Woven))))]) [[.int .i64 0],[.int .i64 0],[.int .i64 0],[.slice none 0 0],[.int .i64 0]] lay_68 rfl rfl (.cons rfl (.cons rfl (.cons rfl .nil))) ⟨⟨_,rfl,rfl⟩,⟨⟨_,rfl,rfl⟩,⟨⟨_,rfl,rfl⟩,trivial⟩⟩⟩) ?_
      refine L_do (φ:=fun v g w=>OB 2018 g w 68 (⟨0,0,0,[],0⟩:PayPiece) v) rfl rfl .plain (fun g w hd=>D_allocX (g:=g) 2018 (⟨0,0,0,[],0⟩:PayPiece) Tryz.zeroValue68 (fun m w=>⟨_,(rep_two rep_int (rep_two rep_int (rep_two rep_int (rep_two rep_nil rep_int)))),rfl⟩) fun g' w' v hs b=>⟨g',hs,b⟩) (fun pJ hv=>?_)
      clear hv
      refine L_nil fun x01 p07 hall=>?_
      have hs:=hall.1
      have hfr:=hfr.ext hs
      have jD:=jD.ext hs
      have uE:=uE.ext hs
      have lD:=lD.ext hs
      have vE:=vE.ext hs
      have xE:=xE.ext hs
      have iD:=iD.ext hs
      have zD:=zD.ext hs
      have aE:=aE.ext hs
      have bE:=bE.ext hs
      have uL:=uL.ext hs
      have b6001:=(word_all (A:=fun g w=>OB 2018 g w 68 (⟨0,0,0,[],0⟩:PayPiece) pJ) 11 rfl hall)
      clear hs hall
      refine Ze .plain rfl (D_storeOc (g:=x01) (v:=jV) Tryz.sizeOf68 rfl b6001 rfl uL fun kV y01 hs b6002 cb=>?_)
      have dK:OSF 2018 61803 3 kV y01 3 68 ([]:List Int) pJ:=cb.osf (by rw [← zO]; rfl)
      clear cb
      have hfr:=hfr.stp hs
      have jD:=jD.stp hs
      have uE:=uE.stp hs rfl
      have lD:=lD.stp hs
      have vE:=vE.stp hs
      have xE:=xE.stp hs rfl
      have iD:=iD.stp hs rfl
      have zD:=zD.stp hs
      have aE:=aE.stp hs rfl
      have bE:=bE.stp hs rfl
      refine Zb (Zd (Zf (L_loadO0 (x:=.tmp 10) Tryz.isAgg59 Tryz.sizeOf59 iD fun lV z01 iY=>?_)))
      obtain ⟨aI,jY,h⟩:=bsome h
      refine L_loadO0 (x:=.tmp 18) Tryz.isAgg68 Tryz.sizeOf68 b6002 fun mV a02 kY=>?_
      obtain ⟨k9,mY,h⟩:=bsome h
      refine E_drawL (g:=kV) (n:=13) [(1,(fun v g w=>RV g.m w aI v)),(3,(fun v g w=>∃ y0 y1 y2 y3:Value,v=.tuple #[y0,y1,y2,y3]∧y0=.int .i64 (k9.1)∧y1=.int .i64 (k9.2.1)∧y2=.int .i64 (k9.2.2.1)∧y3=.int .i64 (k9.2.2.2)))] [0,1,2,3,4,5,6,7,8,9,10,11,12] rfl mixed (by kernel_rfl) (⟨fun _=>up_rv,fun _=>(up_ex fun _=>(up_ex fun _=>(up_ex fun _=>(up_ex fun _=>(up_and (up_eq _) (up_and (up_eq _) (up_and (up_eq _) (up_and (up_eq _) (up_eq _))))))))),trivial⟩) ?_
      refine L_ld (c:=lV) rfl rfl .plain (fun _ _ h=>⟨h.ch,fun b hb _=>h.below.block b hb⟩) iY sM ?_
      refine L_do (φ:=fun v g w=>RV g.m w aI v) rfl rfl .plain (fun g w hd=>Zp (g:=g) (vs:=[lV]) en19 (.cons rfl .nil) (wk19 (z01.ext hd.1) jY) fun g' w' v hs hr=>⟨g',hs,hr⟩) (fun eO hv=>?_)
      obtain ⟨_,_,_,rq6004⟩:=hv
      refine L_ld (c:=mV) rfl rfl .plain (fun _ _ h=>⟨h.ch,fun b hb _=>h.below.block b hb⟩) kY rfl ?_
      refine L_do (φ:=fun v g w=>∃ y0 y1 y2 y3:Value,v=.tuple #[y0,y1,y2,y3]∧y0=.int .i64 (k9.1)∧y1=.int .i64 (k9.2.1)∧y2=.int .i64 (k9.2.2.1)∧y3=.int .i64 (k9.2.2.2)) rfl rfl .plain (fun g w hd=>Zp (g:=g) (vs:=[eO,mV]) en18 (.cons rfl (.cons rfl .nil)) (wk18 (word (A:=fun g w=>RV g.m w aI eO) 1 rfl rfl (deps_of hd)) (a02.ext hd.1) mY) fun g' w' v hs hr=>⟨g',hs,hr⟩) (fun q07 hv=>?_)
      obtain ⟨_,_,_,_,_,_,_,rfl,rfl,rfl,rfl,rfl⟩:=hv
      refine L_p (.tuple #[.int .i64 (k9.1),.int .i64 (k9.2.1),.int .i64 (k9.2.2.1),.int .i64 (k9.2.2.2)]) rfl rfl (Zk rfl) ?_
      refine L_p (.int .i64 (k9.1)) rfl rfl (Zi rfl rfl) ?_
      refine L_p (.int .i64 (k9.2.1)) rfl rfl (Zi rfl rfl) ?_
      refine L_p (.int .i64 (k9.2.2.1)) rfl rfl (Zi rfl rfl) ?_
      refine L_p (.int .i64 (k9.2.2.2)) rfl rfl (Zi rfl rfl) ?_
      refine L_p (.int .i64 (k9.1)) rfl rfl (P_assign rfl) ?_
      refine L_p (.int .i64 (k9.2.1)) rfl rfl (P_assign rfl) ?_
      refine L_p (.int .i64 (k9.2.2.1)) rfl rfl (P_assign rfl) ?_
      refine L_p (.int .i64 (k9.2.2.2)) rfl rfl (P_assign rfl) ?_
      refine L_nil fun b02 r07 hall=>?_
      have hs:=hall.1
      have hfr:=hfr.ext hs
      have jD:=jD.ext hs
      have uE:=uE.ext hs
      have lD:=lD.ext hs
      have vE:=vE.ext hs
      have xE:=xE.ext hs
      have iD:=iD.ext hs
      have zD:=zD.ext hs
      have aE:=aE.ext hs
      have bE:=bE.ext hs
      have dK:=dK.ext hs
      have b6002:=b6002.ext hs
      have s07:=(word_all (A:=fun g w=>RV g.m w aI eO) 1 rfl hall)
      clear hs hall
      refine Zb (Zd (Zq h (fun (s:Unit) e w=>∃ (g:Gh) ,Fr gI wI g w∧e 5=p1∧PT g.m w (x2:Vector UInt8 4) p1∧e 7=p7∧OB 2007 g w 30 (y6.1:LoomMill) p7∧e 8=rA∧RV g.m w (y6.2:List LoomOrder) rA∧e 9=cC∧RV g.m w (uC:List PayPiece) cC∧OS 3040 g w 68 (uC:List PayPiece) cC∧e 10=lE∧OB 2010 g w 59 (uH:PayList) lE∧e 11=yA∧RV g.m w (aD.1:List LoomRun) yA∧e 13=mC∧OB 2013 g w 64 (yB:Vector Int 3) mC∧e 14=v8∧OA 4014 g w 3 (zB:List Int) v8∧e 15=.int .i64 (aB)∧e 16=.int .i64 (t5)∧e 17=.int .i64 ((k8).Loom)∧e 18=pJ∧OB 2018 g w 68 ((⟨(k8).Loom,((uD).toNat:Int),(w64 ((1000:Int) * (vD).Woven)),[],0⟩:PayPiece):PayPiece) pJ∧OSF 2018 61803 3 g w 3 68 (((⟨(k8).Loom,((uD).toNat:Int),(w64 ((1000:Int) * (vD).Woven)),[],0⟩:PayPiece)).Extras) pJ∧e 21=.int .i64 (k9.2.2.1)) (fun X6047 zU nY h=>?_) ?_))
      ·refine Zf (Za (Zn (.int .i64 (k9.2.2.2)) rfl rfl ?_))
       refine EL_in (.bool ((k9.2.2.2 != (0:Int)))) rfl rfl rfl rfl ?_
       refine Zb (Zd ?_)
       rcases Zt h with ⟨vM,h⟩ | ⟨vM,h⟩
       ·refine E_ct vM rfl ?_
        refine Zf (Za (Zg (.bool false) rfl rfl ?_))
        refine Zb (Zd (E_ret (thn_r ?_)))
        refine blk_r ?_
        refine thn_r ?_
        refine thn_r ?_
        refine blk_r ?_
        refine thn_r ?_
        obtain rfl:=sinj h
        exact end1 rfl rfl (show _=.bool false from rfl) ⟨_,hfr,rfl⟩
       ·refine E_cf vM rfl ?_
        exact Zu (Zd (nY () _ _ ⟨b02,hfr,vN,jD,jW,uE,xN,lD,kW,vE,xE,sM,iD,dS,zD,eS,aE,gS,bE,iS,tM,uM,rfl,b6002,dK,rfl⟩ h))
      ·rintro _ h05 t07 ⟨nV, hfr, yN, dB, zN, iB, kI, n9, lW, lK, mK, xM, bA, bN, iA, pH, qC, qH, y9, jS, sH, tH, lS, mS, u18_3_6049, nS⟩ h
       refine Zf (Za (Zo lW rfl ?_))
       refine Ze .plain rfl (D_loadO (g:=nV) Tryz.isAgg68 Tryz.sizeOf68 lS mS fun c02 d02=>?_)
       refine Ze .plain rfl (D_buildSlice (g:=nV) 3115 (xs:=([(⟨(k8).Loom,((uD).toNat:Int),(w64 ((1000:Int) * (vD).Woven)),[],0⟩:PayPiece)]:List PayPiece)) (vs:=[c02]) Tryz.underlying56 Tryz.sizeOf68 Tryz.zeroValue68 rfl rfl (.cons rfl .nil) (RVs.cons d02 RVs.nil) rfl rfl fun e02 u07 v07 hs o6051 g02 hxt hfl=>?_)
       have hfr:=hfr.stp hs
       have dB:=dB.stp hs
       have iB:=iB.stp hs rfl
       have n9:=n9.stp hs
       have lK:=lK.stp hs
       have mK:=mK.stp hs rfl
       have bA:=bA.stp hs rfl
       have iA:=iA.stp hs
       have qC:=qC.stp hs rfl
       have y9:=y9.stp hs rfl
       obtain ⟨tL,oY,h⟩:=bsome h
       refine Ze .plain rfl (D_append (g:=e02) (i:=3040) Tryz.underlying56 info_68 rfl rfl mK lK rfl g02 oY fun vL h02 gO hs o6052 xD _=>?_)
       have hfr:=hfr.stp hs
       have dB:=dB.stp hs
       have iB:=iB.stp hs rfl
       have n9:=n9.stp hs
       have bA:=bA.stp hs rfl
       have iA:=iA.stp hs
       have qC:=qC.stp hs rfl
       have y9:=y9.stp hs rfl
       refine Zg gO rfl rfl ?_
       refine Zb (Zd ?_)
       obtain ⟨bI,aP,h⟩:=bsome h
       obtain ⟨hi6326,he6326⟩:=vat_idx aP
       refine L_loadOD (off:=(((k8).Loom:Int).toNat * 1)) (x:=.tmp 121) (SubS.dyn hi6326).1 he6326 Tryz.isAgg3 Tryz.sizeOf3 qC fun x07 i02 pY=>?_
       obtain rfl:=Zj.1 i02
       obtain ⟨cG,cN,h⟩:=bsome h
       obtain ⟨rF,bP,h⟩:=bsome h
       have xL:=PT_idx n9 bP
       have iO:=Zm (part_LoomOrder_2).1 xL
       refine Zs (x:=.tmp 132) Tryz.isAgg3 Tryz.sizeOf3 iO fun y07 j02 qY=>?_
       obtain rfl:=Zj.1 j02
       obtain ⟨eG,cP,h⟩:=bsome h
       have yL:=PT_idx n9 cP
       have jO:=Zm (part_LoomOrder_2).1 yL
       refine Zs (x:=.tmp 139) Tryz.isAgg3 Tryz.sizeOf3 jO fun z07 k02 uY=>?_
       obtain rfl:=Zj.1 k02
       obtain ⟨u00,dP,h⟩:=bsome h
       obtain ⟨hi7586,he7586⟩:=vat_idx dP
       obtain ⟨v00,qJ,h⟩:=bsome h
       refine E_drawT_ (g:=vL) (w:=h02) (n:=29) [0,1,2,3,4,6,7,8,9,10,12,13,14,15,16,17,18,19,20,21,22,23,24,25,27] [5] [2013] [] 26 (.step 0 (.step 1 (.step 2 (.step 3 (.step 4 (.step 5 (.step 6 (.step 7 (.step 8 (.step 9 (.step 10 (.step 12 (.step 13 (.step 14 (.step 15 (.step 16 (.step 18 (.step 19 (.step 20 (.step 21 (.step 22 (.step 23 (.step 24 (.step 25 (.alt 11 (.step 17 (.step 26 (.step 27 (.step 28 .done)))) (.alt 26 (.step 11 (.step 17 (.step 27 (.step 28 .done)))) .stop)))))))))))))))))))))))))) mixed (by kernel_rfl) rfl fun w_c6065 hs hlt=>?_
       have hfr:=hfr.ext hs
       have dB:=dB.ext hs
       have iB:=iB.ext hs
       have n9:=n9.ext hs
       have xD:=xD.ext hs
       have o6052:=o6052.ext hs
       have bA:=bA.ext hs
       have iA:=iA.ext hs
       have qC:=qC.ext hs
       have y9:=y9.ext hs
       clear hs
       refine CT_pur (c:=.int .i64 ((k8).Loom)) rfl rfl .plain (Zk tH) ?_
       refine CT_pur (c:=v8) rfl rfl .plain (Zk qH) ?_
       refine CT_pur (c:=.int .i64 ((k8).Loom)) rfl rfl .plain (Zk tH) ?_
       refine CT_pur (c:=.int .i64 ((k8).Loom)) rfl rfl .plain (Zk tH) ?_
       refine CT_pur (c:=fPtr mC (((k8).Loom:Int).toNat * 1)) rfl rfl .plain (P_indexAddrA (α:=Int) Tryz.underlying64 Tryz.sizeOf3 pH (OB.ptr qC) rfl aP) ?_
       refine CT_ldO true (n:=2013) (c:=.int .i64 (bI)) rfl rfl .plain pY rfl rfl ?_
       refine CT_pur (c:=.int .i64 (k9.2.2.1)) rfl rfl .plain (Zk nS) ?_
       refine CT_pur (c:=.int .i64 ((w64 (bI + k9.2.2.1)))) rfl rfl .plain (P_int rfl rfl rfl) ?_
       refine CT_pur (c:=v8) rfl rfl .plain (Zk qH) ?_
       refine CT_pur (c:=.int .i64 ((k8).Loom)) rfl rfl .plain (Zk tH) ?_
       refine CT_pur (c:=ePtr v8 (k8).Loom 1) rfl rfl .plain (P_indexAddrM (α:=Int) Tryz.underlying28 Tryz.sizeOf3 rfl (y9.toM) rfl cN) ?_
       refine CT_pur (c:=rA) rfl rfl .plain (Zk kI) ?_
       refine CT_pur (c:=.int .i64 (t5)) rfl rfl .plain (Zk sH) ?_
       refine CT_pur (c:=ePtr rA t5 5) rfl rfl .plain (Zh (α:=LoomOrder) Tryz.underlying31 Tryz.sizeOf49 rfl n9 rfl bP) ?_
       have xL:=xL.ch hlt.1
       refine CT_pur (c:=fPtr (ePtr rA t5 5) 2) rfl rfl .plain (Zc at_49_2 rfl (PT.ptr xL)) ?_
       have iO:=iO.ch hlt.1
       refine CT_ldP (c:=.int .i64 ((rF).Woven)) rfl rfl .plain qY rfl ?_
       refine CT_pur (c:=.int .i64 (aB)) rfl rfl .plain (Zk jS) ?_
       refine CT_pur (c:=rA) rfl rfl .plain (Zk kI) ?_
       refine CT_pur (c:=.int .i64 (t5)) rfl rfl .plain (Zk sH) ?_
       refine CT_pur (c:=ePtr rA t5 5) rfl rfl .plain (Zh (α:=LoomOrder) Tryz.underlying31 Tryz.sizeOf49 rfl n9 rfl cP) ?_
       have yL:=yL.ch hlt.1
       refine CT_pur (c:=fPtr (ePtr rA t5 5) 2) rfl rfl .plain (Zc at_49_2 rfl (PT.ptr yL)) ?_
       have jO:=jO.ch hlt.1
       refine CT_ldP (c:=.int .i64 ((eG).Woven)) rfl rfl .plain uY rfl ?_
       refine CT_pur (c:=.int .i64 ((w64 (aB + (eG).Woven)))) rfl rfl .plain (P_int rfl rfl rfl) ?_
       refine CT_pur (c:=fPtr mC (((k8).Loom:Int).toNat * 1)) rfl rfl .plain (P_indexAddrA (α:=Int) Tryz.underlying64 Tryz.sizeOf3 pH (OB.ptr qC) rfl dP) ?_
       refine CT_alt ?_ (CT_alt ?_ CT_stop)
       ·refine CT_do [2013] rfl rfl rfl .plain (D_loadM (g := vL) Tryz.isAgg3 Tryz.sizeOf3 rfl (y9.toM) cN fun l02 kO => ?_)
        obtain rfl:=Zj.1 kO
        refine ⟨hlt.toW,?_⟩
        refine CT_pur (c:=.int .i64 ((w64 (cG + (rF).Woven)))) rfl rfl .plain (P_int rfl rfl rfl) ?_
        replace hlt:=hlt.weak (U:=[]) rfl
        refine CT_do [] rfl rfl rfl .plain (D_storeFc (g:=vL) (SubS.dyn hi7586) Tryz.sizeOf3 rfl qC rfl (Zj.2 rfl) fun zL m02 hs b7645 rst hos=>?_)
        clear rst hos
        have hfr:=hfr.stp hs
        have hlt:=hlt.stp hs
        have dB:=dB.stp hs
        have iB:=iB.stp hs rfl
        have n9:=n9.stp hs
        have xD:=xD.stp hs
        have o6052:=o6052.stp hs rfl
        have bA:=bA.stp hs rfl
        have iA:=iA.stp hs
        have y9:=y9.stp hs rfl
        refine ⟨hlt.toW,?_⟩
        refine CT_pur (c:=ePtr v8 (k8).Loom 1) rfl rfl .plain (P_indexAddrM (α:=Int) Tryz.underlying28 Tryz.sizeOf3 rfl (y9.toM) rfl qJ) ?_
        refine CT_do [] rfl rfl rfl .plain (D_storeA (g:=zL) (α:=Int) (a':=((w64 (cG + (rF).Woven)))) Tryz.sizeOf3 rfl y9 qJ rfl (Zj.2 rfl) fun lO n02 hs b7765=>?_)
        have hfr:=hfr.stp hs
        have hlt:=hlt.stp hs
        have dB:=dB.stp hs
        have iB:=iB.stp hs rfl
        have n9:=n9.stp hs
        have xD:=xD.stp hs
        have o6052:=o6052.stp hs rfl
        have bA:=bA.stp hs rfl
        have iA:=iA.stp hs
        have b7645:=b7645.stp hs rfl
        refine ⟨hlt.toW,?_⟩
        refine CT_nil ?_
        clear hlt
        refine Zg (.int .i64 ((w64 (aB + (eG).Woven)))) rfl rfl ?_
        exact Zb (blk_n (Zd (tO (tL,(vset yB ((k8).Loom) ((w64 (bI + k9.2.2.1)))),(List.set zB (Int.toNat (k8).Loom) ((w64 (cG + (rF).Woven)))),(w64 (aB + (eG).Woven))) _ _ ⟨lO,(gO),hfr,yN,dB,zN,iB,kI,n9,rfl,xD,o6052,xM,bA,bN,iA,pH,b7645,qH,b7765,rfl,sH⟩ h)))
       ·replace hlt := hlt.weak (U := []) rfl
        refine CT_do [] rfl rfl rfl .plain (D_storeFc (g:=vL) (SubS.dyn hi7586) Tryz.sizeOf3 rfl qC rfl (Zj.2 rfl) fun zL m02 hs b7645 rst hos=>?_)
        clear rst hos
        have hfr:=hfr.stp hs
        have hlt:=hlt.stp hs
        have dB:=dB.stp hs
        have iB:=iB.stp hs rfl
        have n9:=n9.stp hs
        have xD:=xD.stp hs
        have o6052:=o6052.stp hs rfl
        have bA:=bA.stp hs rfl
        have iA:=iA.stp hs
        have y9:=y9.stp hs rfl
        refine ⟨hlt.toW,?_⟩
        refine CT_do [] rfl rfl rfl .plain (D_loadM (g:=zL) Tryz.isAgg3 Tryz.sizeOf3 rfl (y9.toM) cN fun l02 kO=>?_)
        obtain rfl:=Zj.1 kO
        refine ⟨hlt.toW,?_⟩
        refine CT_pur (c:=.int .i64 ((w64 (cG + (rF).Woven)))) rfl rfl .plain (P_int rfl rfl rfl) ?_
        refine CT_pur (c:=ePtr v8 (k8).Loom 1) rfl rfl .plain (P_indexAddrM (α:=Int) Tryz.underlying28 Tryz.sizeOf3 rfl (y9.toM) rfl qJ) ?_
        refine CT_do [] rfl rfl rfl .plain (D_storeA (g:=zL) (α:=Int) (a':=((w64 (cG + (rF).Woven)))) Tryz.sizeOf3 rfl y9 qJ rfl (Zj.2 rfl) fun lO n02 hs b7765=>?_)
        have hfr:=hfr.stp hs
        have hlt:=hlt.stp hs
        have dB:=dB.stp hs
        have iB:=iB.stp hs rfl
        have n9:=n9.stp hs
        have xD:=xD.stp hs
        have o6052:=o6052.stp hs rfl
        have bA:=bA.stp hs rfl
        have iA:=iA.stp hs
        have b7645:=b7645.stp hs rfl
        refine ⟨hlt.toW,?_⟩
        refine CT_nil ?_
        clear hlt
        refine Zg (.int .i64 ((w64 (aB + (eG).Woven)))) rfl rfl ?_
        exact Zb (blk_n (Zd (tO (tL,(vset yB ((k8).Loom) ((w64 (bI + k9.2.2.1)))),(List.set zB (Int.toNat (k8).Loom) ((w64 (cG + (rF).Woven)))),(w64 (aB + (eG).Woven))) _ _ ⟨lO,(gO),hfr,yN,dB,zN,iB,kI,n9,rfl,xD,o6052,xM,bA,bN,iA,pH,b7645,qH,b7765,rfl,sH⟩ h)))
    ·rintro ⟨sJ, tI, uI, vI⟩ i05 a08 ⟨o02, mW, hfr, nW, oW, pW, qW, sW, tW, uW, vW, xW, oS, pS, qS, rS, sS, tS, uS, vS, xS, yS⟩ h
     refine Za (Zo yS rfl ?_)
     refine EL_in (.int .i64 ((w64 (t5 + (1:Int))))) rfl rfl rfl rfl ?_
     refine Zg (.int .i64 ((w64 (t5 + (1:Int))))) rfl rfl ?_
     exact Zb (Zd (bY (sJ,tI,uI,vI,(w64 (t5 + (1:Int)))) _ _ ⟨o02,(mW),hfr,nW,oW,pW,qW,sW,tW,uW,vW,xW,oS,pS,qS,rS,sS,tS,uS,vS,xS,rfl⟩ h))
  ·rintro ⟨qN, eD, l9, u9⟩ j05 b08 ⟨oV, yW, hfr, zW, nK, n03, zS, eT, dN, yE, eN, zE, gN⟩ h
   refine Zf (Za (Ze .plain rfl (D_loadO (g:=oV) Tryz.isAgg59 Tryz.sizeOf59 zS eT fun p02 q02=>?_)))
   obtain ⟨qU,vY,h⟩:=bsome h
   refine Ze .plain rfl (Zp (g:=oV) (vs:=[p02]) en19 (.cons rfl .nil) (wk19 q02 vY) fun r02 k05 s02 hs hr=>?_)
   have hfr:=hfr.ext hs
   have nK:=nK.ext hs
   have yE:=yE.ext hs
   have zE:=zE.ext hs
   have t02:=hr
   refine Zo zW rfl ?_
   obtain ⟨x6,xY,h⟩:=bsome h
   refine Ze .plain rfl (Zp (g:=r02) (vs:=[s02,yW]) en20 (.cons rfl (.cons rfl .nil)) (wk20 t02 nK xY) fun pV l05 c08 hs hr=>?_)
   have hfr:=hfr.ext hs
   have yE:=yE.ext hs
   have zE:=zE.ext hs
   obtain ⟨u3,d9,o03,p03,rfl,oK,pK,rfl,rfl⟩:=hr
   refine Zn (.tuple #[u3,d9,.int .i64 (x6.2.2.1),.int .i64 (x6.2.2.2)]) rfl rfl ?_
   refine EL_p u3 (Zi rfl rfl) rfl ?_
   refine EL_p d9 (Zi rfl rfl) rfl ?_
   refine EL_p (.int .i64 (x6.2.2.1)) (Zi rfl rfl) rfl ?_
   refine EL_p (.int .i64 (x6.2.2.2)) (Zi rfl rfl) rfl ?_
   refine Zg u3 rfl rfl ?_
   refine Zg d9 rfl rfl ?_
   refine Zg (.int .i64 (x6.2.2.1)) rfl rfl ?_
   refine Zg (.int .i64 (x6.2.2.2)) rfl rfl ?_
   refine Zb (Zd (Zq h (fun (s:Unit) e w=>∃ (g:Gh) ,Fr gI wI g w∧e 13=mC∧OB 2013 g w 64 (eD:Vector Int 3) mC∧e 14=v8∧OA 4014 g w 3 (l9:List Int) v8∧e 15=.int .i64 (u9)∧e 23=u3∧RV g.m w (x6.1:List Int) u3∧e 24=d9∧RV g.m w (x6.2.1:List Int) d9) (fun X7896 uU yY h=>?_) ?_))
   ·obtain ⟨eF, hx, h⟩ := bsome h
    refine E_join (fun e w=>∃ (g:Gh) ,Fr gI wI g w∧e 13=mC∧OB 2013 g w 64 (eD:Vector Int 3) mC∧e 14=v8∧OA 4014 g w 3 (l9:List Int) v8∧e 15=.int .i64 (u9)∧e 23=u3∧RV g.m w (x6.1:List Int) u3∧e 24=d9∧RV g.m w (x6.2.1:List Int) d9∧e 161=.bool (eF)) (fun Q' hQ=>?_) (fun m05 d08 hR=>?_)
    ·replace h := hx
     clear hx
     refine Za (Zn (.int .i64 (x6.2.2.2)) rfl rfl ?_)
     refine EL_in (.bool ((x6.2.2.2 != (0:Int)))) rfl rfl rfl rfl ?_
     refine Zn (.bool ((x6.2.2.2 != (0:Int)))) rfl rfl ?_
     rcases Zt h with ⟨tD,h⟩ | ⟨tD,h⟩
     ·refine EL_s rfl rfl tD rfl rfl ?_
      iterate 4 refine EL_s rfl rfl tD rfl rfl ?_
      refine EL_p (.bool true) (Zl (b:=(x6.2.2.2 != (0:Int))) rfl (pick_t tD rfl)) rfl ?_
      refine Zb ?_
      obtain rfl:=sinj h
      exact hQ _ _ ⟨pV,hfr,dN,yE,eN,zE,gN,rfl,oK,rfl,pK,rfl⟩
     ·refine EL_y u3 (Zk rfl) rfl rfl tD rfl ?_
      refine EL_y (.int .i64 ((x6.1).length:Int)) (P_len Tryz.underlying28 rfl oK) rfl rfl tD rfl ?_
      refine EL_y d9 (Zk rfl) rfl rfl tD rfl ?_
      refine EL_y (.int .i64 ((x6.2.1).length:Int)) (P_len Tryz.underlying28 rfl pK) rfl rfl tD rfl ?_
      refine EL_y (.bool ((((x6.1).length:Int) != ((x6.2.1).length:Int)))) (P_int rfl rfl rfl) rfl rfl tD rfl ?_
      refine EL_p (.bool ((((x6.1).length:Int) != ((x6.2.1).length:Int)))) (Zl (b:=(x6.2.2.2 != (0:Int))) rfl (pick_f tD rfl)) rfl ?_
      refine Zb ?_
      obtain rfl:=sinj h
      exact hQ _ _ ⟨pV,hfr,dN,yE,eN,zE,gN,rfl,oK,rfl,pK,rfl⟩
    ·clear hx
     obtain ⟨u02,hfr,lT,mT,nT,oT,pT,sT,tT,uT,xT,aL⟩:=hR
     rcases Zt h with ⟨iN,h⟩ | ⟨iN,h⟩
     ·refine E_cond_true (Eq.trans (show ev _ _ = .bool (eF) from aL) (congrArg Value.bool iN)) ?_
      refine Zf (Za (Zg (.bool false) rfl rfl ?_))
      refine Zb (Zd (E_ret (thn_r ?_)))
      obtain rfl:=sinj h
      exact end1 rfl rfl (show _=.bool false from rfl) ⟨_,hfr,rfl⟩
     ·refine E_cond_false (Eq.trans (show ev _ _ = .bool (eF) from aL) (congrArg Value.bool iN)) ?_
      exact Zu (Zd (yY () _ _ ⟨u02,hfr,lT,mT,nT,oT,pT,sT,tT,uT,xT⟩ h))
   ·rintro _ n05 e08 ⟨v02, hfr, yT, zT, aU, bU, cU, dU, eU, gU, iU⟩ h
    refine Zq h (fun (s:Unit) e w=>∃ (g:Gh) ,Fr gI wI g w∧e 14=v8∧OA 4014 g w 3 (l9:List Int) v8∧e 15=.int .i64 (u9)∧e 23=u3∧RV g.m w (x6.1:List Int) u3) (fun X9430 rU zY h=>?_) ?_
    ·refine Zf (Za (Zg (.int .i64 (0)) rfl rfl ?_))
     refine Zb (Zd (Zr ?_))
     refine E_lp h (fun (s:Int) e w=>∃ (g:Gh) ,Fr gI wI g w∧e 13=mC∧OB 2013 g w 64 (eD:Vector Int 3) mC∧e 14=v8∧OA 4014 g w 3 (l9:List Int) v8∧e 15=.int .i64 (u9)∧e 23=u3∧RV g.m w (x6.1:List Int) u3∧e 24=d9∧RV g.m w (x6.2.1:List Int) d9∧e 27=.int .i64 (s)) ⟨v02,hfr,yT,zT,aU,bU,cU,dU,eU,gU,iU,rfl⟩ (fun X9431 sU aZ=>?_)
     rintro o0 o05 g08 ⟨qV,hfr,jU,kU,jN,kN,lN,lJ,mJ,lU,mU,mN⟩ h
     refine Zq h (fun (s:Unit) e w=>∃ (g:Gh) ,Fr gI wI g w∧e 13=mC∧OB 2013 g w 64 (eD:Vector Int 3) mC∧e 14=v8∧OA 4014 g w 3 (l9:List Int) v8∧e 15=.int .i64 (u9)∧e 23=u3∧RV g.m w (x6.1:List Int) u3∧e 24=d9∧RV g.m w (x6.2.1:List Int) d9∧e 27=.int .i64 (o0)) (fun X9434 tU bZ h=>?_) ?_
     ·refine Zf (Za (Zo mN rfl ?_))
      refine Zo lJ rfl ?_
      refine EL_p (.int .i64 ((x6.1).length:Int)) (P_len Tryz.underlying28 rfl mJ) rfl ?_
      refine EL_in (.bool ((decide (o0 < ((x6.1).length:Int))))) rfl rfl rfl rfl ?_
      refine Zb (Zd ?_)
      rcases Zt h with ⟨nN,h⟩ | ⟨nN,h⟩
      ·refine E_ct nN rfl ?_
       exact Zu (Zd (bZ () _ _ ⟨qV,hfr,jU,kU,jN,kN,lN,lJ,mJ,lU,mU,mN⟩ h))
      ·refine E_cf nN rfl ?_
       refine E_exit ?_
       refine thn_e ?_
       refine thn_e ?_
       refine blk_hit ?_
       exact Zd (zY () _ _ ⟨qV,hfr,jN,kN,lN,lJ,mJ⟩ h)
     ·rintro _ p05 h08 ⟨lI, hfr, bD, n8, vC, m8, cF, l8, l5, cD, r8, i7⟩ h
      refine Zq h (fun (s:Unit) e w=>∃ (g:Gh) ,Fr gI wI g w∧e 13=mC∧OB 2013 g w 64 (eD:Vector Int 3) mC∧e 14=v8∧OA 4014 g w 3 (l9:List Int) v8∧e 15=.int .i64 (u9)∧e 23=u3∧RV g.m w (x6.1:List Int) u3∧e 24=d9∧RV g.m w (x6.2.1:List Int) d9∧e 27=.int .i64 (o0)) (fun X10197 rO aX h=>?_) ?_
      ·refine Zr ?_
       obtain ⟨oE,hx,h⟩:=bsome h
       refine E_join (fun e w=>∃ (g:Gh) ,Fr gI wI g w∧e 13=mC∧OB 2013 g w 64 (eD:Vector Int 3) mC∧e 14=v8∧OA 4014 g w 3 (l9:List Int) v8∧e 15=.int .i64 (u9)∧e 23=u3∧RV g.m w (x6.1:List Int) u3∧e 24=d9∧RV g.m w (x6.2.1:List Int) d9∧e 27=.int .i64 (o0)∧e 218=.bool (oE)) (fun Q' hQ=>?_) (fun q03 q05 hR=>?_)
       ·replace h := hx
        clear hx
        obtain ⟨a9,dF,h⟩:=bsome h
        have cZ:=PT_idx l5 dF
        refine Zs (x:=.tmp 170) Tryz.isAgg3 Tryz.sizeOf3 cZ fun r05 dZ sF=>?_
        obtain rfl:=Zj.1 dZ
        rcases Zt h with ⟨m7,h⟩ | ⟨m7,h⟩
        ·refine E_drawL (g := lI) (n := 51) [] [0, 1, 2, 3, 4, 5, 6, 7, 8, 9, 10, 11, 12, 13, 14, 15, 16, 17, 18, 19, 20, 21, 22, 23, 24, 25, 26, 27, 28, 29, 30, 31, 32, 33, 34, 35, 36, 37, 38, 39, 40, 41, 42, 43, 44, 45, 46, 47, 48, 49, 50] rfl mixed (by kernel_rfl) trivial ?_
         refine L_p u3 rfl rfl (Zk l8) ?_
         refine L_p (.int .i64 (o0)) rfl rfl (Zk i7) ?_
         refine L_p (ePtr u3 o0 1) rfl rfl (Zh (α:=Int) Tryz.underlying28 Tryz.sizeOf3 rfl l5 rfl dF) ?_
         refine L_ld (c:=.int .i64 (a9)) rfl rfl .plain (fun _ _ h=>h.ch) sF rfl ?_
         refine L_p (.bool ((decide (a9 < (0:Int))))) rfl rfl (P_int rfl rfl rfl) ?_
         refine L_p (.bool ((decide (a9 < (0:Int))))) rfl rfl (Zk rfl) ?_
         iterate 5 refine L_s rfl rfl rfl m7 rfl ?_
         refine L_p (.bool true) rfl rfl (Zl (b:=(decide (a9 < (0:Int)))) rfl (pick_t m7 rfl)) ?_
         refine L_dead (fun _=>rfl) 39 rfl ?_
         refine L_nl fun mZ s05 hs=>?_
         have hfr:=hfr.ext hs
         have n8:=n8.ext hs
         have m8:=m8.ext hs
         have l5:=l5.ext hs
         have r8:=r8.ext hs
         clear hs
         refine Zb ?_
         obtain rfl:=sinj h
         exact hQ _ _ ⟨mZ,hfr,bD,n8,vC,m8,cF,l8,l5,cD,r8,i7,rfl⟩
        ·obtain ⟨x8, tF, h⟩ := bsome h
         have nZ:=PT_idx l5 tF
         refine Zs (x:=.tmp 176) Tryz.isAgg3 Tryz.sizeOf3 nZ fun t05 oZ xG=>?_
         obtain rfl:=Zj.1 oZ
         rcases Zt h with ⟨x5,h⟩ | ⟨x5,h⟩
         ·refine E_drawL (g := lI) (n := 51) [] [0, 1, 2, 3, 4, 5, 6, 7, 8, 9, 10, 11, 12, 13, 14, 15, 16, 17, 18, 19, 20, 21, 22, 23, 24, 25, 26, 27, 28, 29, 30, 31, 32, 33, 34, 35, 36, 37, 38, 39, 40, 41, 42, 43, 44, 45, 46, 47, 48, 49, 50] rfl mixed (by kernel_rfl) trivial ?_
          refine L_p u3 rfl rfl (Zk l8) ?_
          refine L_p (.int .i64 (o0)) rfl rfl (Zk i7) ?_
          refine L_p (ePtr u3 o0 1) rfl rfl (Zh (α:=Int) Tryz.underlying28 Tryz.sizeOf3 rfl l5 rfl dF) ?_
          refine L_ld (c:=.int .i64 (a9)) rfl rfl .plain (fun _ _ h=>h.ch) sF rfl ?_
          refine L_p (.bool ((decide (a9 < (0:Int))))) rfl rfl (P_int rfl rfl rfl) ?_
          refine L_p (.bool ((decide (a9 < (0:Int))))) rfl rfl (Zk rfl) ?_
          refine L_y u3 rfl rfl rfl rfl m7 (Zk l8) ?_
          refine L_y (.int .i64 (o0)) rfl rfl rfl rfl m7 (Zk i7) ?_
          refine L_y (ePtr u3 o0 1) rfl rfl rfl rfl m7 (Zh (α:=Int) Tryz.underlying28 Tryz.sizeOf3 rfl l5 rfl tF) ?_
          refine L_ld (c:=.int .i64 (x8)) rfl rfl (.yes2 rfl rfl m7) (fun _ _ h=>h.ch) xG rfl ?_
          refine L_y (.bool ((decide (x8 > (2:Int))))) rfl rfl rfl rfl m7 (P_int rfl rfl rfl) ?_
          refine L_p (.bool ((decide (x8 > (2:Int))))) rfl rfl (Zl (b:=(decide (a9 < (0:Int)))) rfl (pick_f m7 rfl)) ?_
          refine L_p (.bool ((decide (x8 > (2:Int))))) rfl rfl (Zk rfl) ?_
          iterate 8 refine L_s rfl rfl rfl x5 rfl ?_
          refine L_p (.bool true) rfl rfl (Zl (b:=(decide (x8 > (2:Int)))) rfl (pick_t x5 rfl)) ?_
          refine L_dead (fun _=>rfl) 29 rfl ?_
          refine L_nl fun pZ u05 hs=>?_
          have hfr:=hfr.ext hs
          have n8:=n8.ext hs
          have m8:=m8.ext hs
          have l5:=l5.ext hs
          have r8:=r8.ext hs
          clear hs
          refine Zb ?_
          obtain rfl:=sinj h
          exact hQ _ _ ⟨pZ,hfr,bD,n8,vC,m8,cF,l8,l5,cD,r8,i7,rfl⟩
         ·obtain ⟨oD, yG, h⟩ := bsome h
          have qZ:=PT_idx l5 yG
          refine Zs (x:=.tmp 184) Tryz.isAgg3 Tryz.sizeOf3 qZ fun v05 rZ mI=>?_
          obtain rfl:=Zj.1 rZ
          obtain ⟨z9,zG,h⟩:=bsome h
          refine L_loadM (x:=.tmp 186) Tryz.isAgg3 Tryz.sizeOf3 (m8.toM) zG fun x05 sZ nI=>?_
          obtain rfl:=Zj.1 sZ
          rcases Zt h with ⟨i6,h⟩ | ⟨i6,h⟩
          ·refine E_drawL (g := lI) (n := 51) [] [0, 1, 2, 3, 4, 5, 6, 7, 8, 9, 10, 11, 12, 13, 14, 15, 16, 17, 18, 19, 20, 21, 22, 23, 24, 25, 26, 27, 28, 29, 30, 31, 32, 33, 34, 35, 36, 37, 38, 39, 40, 41, 42, 43, 44, 45, 46, 47, 48, 49, 50] rfl mixed (by kernel_rfl) trivial ?_
           refine L_p u3 rfl rfl (Zk l8) ?_
           refine L_p (.int .i64 (o0)) rfl rfl (Zk i7) ?_
           refine L_p (ePtr u3 o0 1) rfl rfl (Zh (α:=Int) Tryz.underlying28 Tryz.sizeOf3 rfl l5 rfl dF) ?_
           refine L_ld (c:=.int .i64 (a9)) rfl rfl .plain (fun _ _ h=>h.ch) sF rfl ?_
           refine L_p (.bool ((decide (a9 < (0:Int))))) rfl rfl (P_int rfl rfl rfl) ?_
           refine L_p (.bool ((decide (a9 < (0:Int))))) rfl rfl (Zk rfl) ?_
           refine L_y u3 rfl rfl rfl rfl m7 (Zk l8) ?_
           refine L_y (.int .i64 (o0)) rfl rfl rfl rfl m7 (Zk i7) ?_
           refine L_y (ePtr u3 o0 1) rfl rfl rfl rfl m7 (Zh (α:=Int) Tryz.underlying28 Tryz.sizeOf3 rfl l5 rfl tF) ?_
           refine L_ld (c:=.int .i64 (x8)) rfl rfl (.yes2 rfl rfl m7) (fun _ _ h=>h.ch) xG rfl ?_
           refine L_y (.bool ((decide (x8 > (2:Int))))) rfl rfl rfl rfl m7 (P_int rfl rfl rfl) ?_
           refine L_p (.bool ((decide (x8 > (2:Int))))) rfl rfl (Zl (b:=(decide (a9 < (0:Int)))) rfl (pick_f m7 rfl)) ?_
           refine L_p (.bool ((decide (x8 > (2:Int))))) rfl rfl (Zk rfl) ?_
           refine L_y v8 rfl rfl rfl rfl x5 (Zk vC) ?_
           refine L_y u3 rfl rfl rfl rfl x5 (Zk l8) ?_
           refine L_y (.int .i64 (o0)) rfl rfl rfl rfl x5 (Zk i7) ?_
           refine L_y (ePtr u3 o0 1) rfl rfl rfl rfl x5 (Zh (α:=Int) Tryz.underlying28 Tryz.sizeOf3 rfl l5 rfl yG) ?_
           refine L_ld (c:=.int .i64 (oD)) rfl rfl (.yes2 rfl rfl x5) (fun _ _ h=>h.ch) mI rfl ?_
           refine L_y (ePtr v8 oD 1) rfl rfl rfl rfl x5 (P_indexAddrM (α:=Int) Tryz.underlying28 Tryz.sizeOf3 rfl (m8.toM) rfl zG) ?_
           refine L_ld (c:=.int .i64 (z9)) rfl rfl (.yes2 rfl rfl x5) (fun _ _ h=>⟨h.ch,fun b hb _=>h.below.block b hb⟩) nI rfl ?_
           refine L_y (.bool ((z9 == (0:Int)))) rfl rfl rfl rfl x5 (P_int rfl rfl rfl) ?_
           refine L_p (.bool ((z9 == (0:Int)))) rfl rfl (Zl (b:=(decide (x8 > (2:Int)))) rfl (pick_f x5 rfl)) ?_
           refine L_p (.bool ((z9 == (0:Int)))) rfl rfl (Zk rfl) ?_
           iterate 11 refine L_s rfl rfl rfl i6 rfl ?_
           refine L_p (.bool true) rfl rfl (Zl (b:=(z9 == (0:Int))) rfl (pick_t i6 rfl)) ?_
           refine L_dead (fun _=>rfl) 16 rfl ?_
           refine L_nl fun tZ y05 hs=>?_
           have hfr:=hfr.ext hs
           have n8:=n8.ext hs
           have m8:=m8.ext hs
           have l5:=l5.ext hs
           have r8:=r8.ext hs
           clear hs
           refine Zb ?_
           obtain rfl:=sinj h
           exact hQ _ _ ⟨tZ,hfr,bD,n8,vC,m8,cF,l8,l5,cD,r8,i7,rfl⟩
          ·obtain ⟨nB, pI, h⟩ := bsome h
           have uZ:=PT_idx r8 pI
           refine Zs (x:=.tmp 193) Tryz.isAgg3 Tryz.sizeOf3 uZ fun z05 vZ qK=>?_
           obtain rfl:=Zj.1 vZ
           obtain ⟨mE,qI,h⟩:=bsome h
           have xZ:=PT_idx l5 qI
           refine Zs (x:=.tmp 197) Tryz.isAgg3 Tryz.sizeOf3 xZ fun a06 yZ sK=>?_
           obtain rfl:=Zj.1 yZ
           obtain ⟨oB,sI,h⟩:=bsome h
           obtain ⟨hi10772,he10772⟩:=vat_idx sI
           refine L_loadOD (off:=((mE:Int).toNat * 1)) (x:=.tmp 199) (SubS.dyn hi10772).1 he10772 Tryz.isAgg3 Tryz.sizeOf3 n8 fun b06 zZ tK=>?_
           obtain rfl:=Zj.1 zZ
           rcases Zt h with ⟨tB,h⟩ | ⟨tB,h⟩
           ·refine E_drawL (g := lI) (n := 51) [] [0, 1, 2, 3, 4, 5, 6, 7, 8, 9, 10, 11, 12, 13, 14, 15, 16, 17, 18, 19, 20, 21, 22, 23, 24, 25, 26, 27, 28, 29, 30, 31, 32, 33, 34, 35, 36, 37, 38, 39, 40, 41, 42, 43, 44, 45, 46, 47, 48, 49, 50] rfl mixed (by kernel_rfl) trivial ?_
            refine L_p u3 rfl rfl (Zk l8) ?_
            refine L_p (.int .i64 (o0)) rfl rfl (Zk i7) ?_
            refine L_p (ePtr u3 o0 1) rfl rfl (Zh (α:=Int) Tryz.underlying28 Tryz.sizeOf3 rfl l5 rfl dF) ?_
            refine L_ld (c:=.int .i64 (a9)) rfl rfl .plain (fun _ _ h=>h.ch) sF rfl ?_
            refine L_p (.bool ((decide (a9 < (0:Int))))) rfl rfl (P_int rfl rfl rfl) ?_
            refine L_p (.bool ((decide (a9 < (0:Int))))) rfl rfl (Zk rfl) ?_
            refine L_y u3 rfl rfl rfl rfl m7 (Zk l8) ?_
            refine L_y (.int .i64 (o0)) rfl rfl rfl rfl m7 (Zk i7) ?_
            refine L_y (ePtr u3 o0 1) rfl rfl rfl rfl m7 (Zh (α:=Int) Tryz.underlying28 Tryz.sizeOf3 rfl l5 rfl tF) ?_
            refine L_ld (c:=.int .i64 (x8)) rfl rfl (.yes2 rfl rfl m7) (fun _ _ h=>h.ch) xG rfl ?_
            refine L_y (.bool ((decide (x8 > (2:Int))))) rfl rfl rfl rfl m7 (P_int rfl rfl rfl) ?_
            refine L_p (.bool ((decide (x8 > (2:Int))))) rfl rfl (Zl (b:=(decide (a9 < (0:Int)))) rfl (pick_f m7 rfl)) ?_
            refine L_p (.bool ((decide (x8 > (2:Int))))) rfl rfl (Zk rfl) ?_
            refine L_y v8 rfl rfl rfl rfl x5 (Zk vC) ?_
            refine L_y u3 rfl rfl rfl rfl x5 (Zk l8) ?_
            refine L_y (.int .i64 (o0)) rfl rfl rfl rfl x5 (Zk i7) ?_
            refine L_y (ePtr u3 o0 1) rfl rfl rfl rfl x5 (Zh (α:=Int) Tryz.underlying28 Tryz.sizeOf3 rfl l5 rfl yG) ?_
            refine L_ld (c:=.int .i64 (oD)) rfl rfl (.yes2 rfl rfl x5) (fun _ _ h=>h.ch) mI rfl ?_
            refine L_y (ePtr v8 oD 1) rfl rfl rfl rfl x5 (P_indexAddrM (α:=Int) Tryz.underlying28 Tryz.sizeOf3 rfl (m8.toM) rfl zG) ?_
            refine L_ld (c:=.int .i64 (z9)) rfl rfl (.yes2 rfl rfl x5) (fun _ _ h=>⟨h.ch,fun b hb _=>h.below.block b hb⟩) nI rfl ?_
            refine L_y (.bool ((z9 == (0:Int)))) rfl rfl rfl rfl x5 (P_int rfl rfl rfl) ?_
            refine L_p (.bool ((z9 == (0:Int)))) rfl rfl (Zl (b:=(decide (x8 > (2:Int)))) rfl (pick_f x5 rfl)) ?_
            refine L_p (.bool ((z9 == (0:Int)))) rfl rfl (Zk rfl) ?_
            refine L_y d9 rfl rfl rfl rfl i6 (Zk cD) ?_
            refine L_y (.int .i64 (o0)) rfl rfl rfl rfl i6 (Zk i7) ?_
            refine L_y (ePtr d9 o0 1) rfl rfl rfl rfl i6 (Zh (α:=Int) Tryz.underlying28 Tryz.sizeOf3 rfl r8 rfl pI) ?_
            refine L_ld (c:=.int .i64 (nB)) rfl rfl (.yes2 rfl rfl i6) (fun _ _ h=>h.ch) qK rfl ?_
            refine L_y u3 rfl rfl rfl rfl i6 (Zk l8) ?_
            refine L_y (.int .i64 (o0)) rfl rfl rfl rfl i6 (Zk i7) ?_
            refine L_y (ePtr u3 o0 1) rfl rfl rfl rfl i6 (Zh (α:=Int) Tryz.underlying28 Tryz.sizeOf3 rfl l5 rfl qI) ?_
            refine L_ld (c:=.int .i64 (mE)) rfl rfl (.yes2 rfl rfl i6) (fun _ _ h=>h.ch) sK rfl ?_
            refine L_y (fPtr mC ((mE:Int).toNat * 1)) rfl rfl rfl rfl i6 (P_indexAddrA (α:=Int) Tryz.underlying64 Tryz.sizeOf3 bD (OB.ptr n8) rfl sI) ?_
            refine L_ld (c:=.int .i64 (oB)) rfl rfl (.yes2 rfl rfl i6) (fun _ _ h=>⟨h.ch,fun b hb _=>h.below.block b hb⟩) tK rfl ?_
            refine L_y (.bool ((nB != oB))) rfl rfl rfl rfl i6 (P_int rfl rfl rfl) ?_
            refine L_p (.bool ((nB != oB))) rfl rfl (Zl (b:=(z9 == (0:Int))) rfl (pick_f i6 rfl)) ?_
            refine L_p (.bool ((nB != oB))) rfl rfl (Zk rfl) ?_
            iterate 3 refine L_s rfl rfl rfl tB rfl ?_
            refine L_dead (fun _=>rfl) 10 rfl ?_
            refine L_s rfl rfl rfl tB rfl ?_
            refine L_p (.bool true) rfl rfl (Zl (b:=(nB != oB)) rfl (pick_t tB rfl)) ?_
            refine L_nl fun a00 c06 hs=>?_
            have hfr:=hfr.ext hs
            have n8:=n8.ext hs
            have m8:=m8.ext hs
            have l5:=l5.ext hs
            have r8:=r8.ext hs
            clear hs
            refine Zb ?_
            obtain rfl:=sinj h
            exact hQ _ _ ⟨a00,hfr,bD,n8,vC,m8,cF,l8,l5,cD,r8,i7,rfl⟩
           ·rcases Zt h with ⟨vB, h⟩ | ⟨vB, h⟩
            ·obtain ⟨lG, aO, h⟩ := bsome h
             have b00:=PT_idx l5 aO
             refine Zs (x:=.tmp 209) Tryz.isAgg3 Tryz.sizeOf3 b00 fun d06 c00 bX=>?_
             obtain rfl:=Zj.1 c00
             obtain ⟨mG,bO,h⟩:=bsome h
             have d00:=PT_idx l5 bO
             refine Zs (x:=.tmp 214) Tryz.isAgg3 Tryz.sizeOf3 d00 fun e06 g00 cX=>?_
             obtain rfl:=Zj.1 g00
             refine E_drawL (g:=lI) (n:=51) [] [0,1,2,3,4,5,6,7,8,9,10,11,12,13,14,15,16,17,18,19,20,21,22,23,24,25,26,27,28,29,30,31,32,33,34,35,36,37,38,39,40,41,42,43,44,45,46,47,48,49,50] rfl mixed (by kernel_rfl) trivial ?_
             refine L_p u3 rfl rfl (Zk l8) ?_
             refine L_p (.int .i64 (o0)) rfl rfl (Zk i7) ?_
             refine L_p (ePtr u3 o0 1) rfl rfl (Zh (α:=Int) Tryz.underlying28 Tryz.sizeOf3 rfl l5 rfl dF) ?_
             refine L_ld (c:=.int .i64 (a9)) rfl rfl .plain (fun _ _ h=>h.ch) sF rfl ?_
             refine L_p (.bool ((decide (a9 < (0:Int))))) rfl rfl (P_int rfl rfl rfl) ?_
             refine L_p (.bool ((decide (a9 < (0:Int))))) rfl rfl (Zk rfl) ?_
             refine L_y u3 rfl rfl rfl rfl m7 (Zk l8) ?_
             refine L_y (.int .i64 (o0)) rfl rfl rfl rfl m7 (Zk i7) ?_
             refine L_y (ePtr u3 o0 1) rfl rfl rfl rfl m7 (Zh (α:=Int) Tryz.underlying28 Tryz.sizeOf3 rfl l5 rfl tF) ?_
             refine L_ld (c:=.int .i64 (x8)) rfl rfl (.yes2 rfl rfl m7) (fun _ _ h=>h.ch) xG rfl ?_
             refine L_y (.bool ((decide (x8 > (2:Int))))) rfl rfl rfl rfl m7 (P_int rfl rfl rfl) ?_
             refine L_p (.bool ((decide (x8 > (2:Int))))) rfl rfl (Zl (b:=(decide (a9 < (0:Int)))) rfl (pick_f m7 rfl)) ?_
             refine L_p (.bool ((decide (x8 > (2:Int))))) rfl rfl (Zk rfl) ?_
             refine L_y v8 rfl rfl rfl rfl x5 (Zk vC) ?_
             refine L_y u3 rfl rfl rfl rfl x5 (Zk l8) ?_
             refine L_y (.int .i64 (o0)) rfl rfl rfl rfl x5 (Zk i7) ?_
             refine L_y (ePtr u3 o0 1) rfl rfl rfl rfl x5 (Zh (α:=Int) Tryz.underlying28 Tryz.sizeOf3 rfl l5 rfl yG) ?_
             refine L_ld (c:=.int .i64 (oD)) rfl rfl (.yes2 rfl rfl x5) (fun _ _ h=>h.ch) mI rfl ?_
             refine L_y (ePtr v8 oD 1) rfl rfl rfl rfl x5 (P_indexAddrM (α:=Int) Tryz.underlying28 Tryz.sizeOf3 rfl (m8.toM) rfl zG) ?_
             refine L_ld (c:=.int .i64 (z9)) rfl rfl (.yes2 rfl rfl x5) (fun _ _ h=>⟨h.ch,fun b hb _=>h.below.block b hb⟩) nI rfl ?_
             refine L_y (.bool ((z9 == (0:Int)))) rfl rfl rfl rfl x5 (P_int rfl rfl rfl) ?_
             refine L_p (.bool ((z9 == (0:Int)))) rfl rfl (Zl (b:=(decide (x8 > (2:Int)))) rfl (pick_f x5 rfl)) ?_
             refine L_p (.bool ((z9 == (0:Int)))) rfl rfl (Zk rfl) ?_
             refine L_y d9 rfl rfl rfl rfl i6 (Zk cD) ?_
             refine L_y (.int .i64 (o0)) rfl rfl rfl rfl i6 (Zk i7) ?_
             refine L_y (ePtr d9 o0 1) rfl rfl rfl rfl i6 (Zh (α:=Int) Tryz.underlying28 Tryz.sizeOf3 rfl r8 rfl pI) ?_
             refine L_ld (c:=.int .i64 (nB)) rfl rfl (.yes2 rfl rfl i6) (fun _ _ h=>h.ch) qK rfl ?_
             refine L_y u3 rfl rfl rfl rfl i6 (Zk l8) ?_
             refine L_y (.int .i64 (o0)) rfl rfl rfl rfl i6 (Zk i7) ?_
             refine L_y (ePtr u3 o0 1) rfl rfl rfl rfl i6 (Zh (α:=Int) Tryz.underlying28 Tryz.sizeOf3 rfl l5 rfl qI) ?_
             refine L_ld (c:=.int .i64 (mE)) rfl rfl (.yes2 rfl rfl i6) (fun _ _ h=>h.ch) sK rfl ?_
             refine L_y (fPtr mC ((mE:Int).toNat * 1)) rfl rfl rfl rfl i6 (P_indexAddrA (α:=Int) Tryz.underlying64 Tryz.sizeOf3 bD (OB.ptr n8) rfl sI) ?_
             refine L_ld (c:=.int .i64 (oB)) rfl rfl (.yes2 rfl rfl i6) (fun _ _ h=>⟨h.ch,fun b hb _=>h.below.block b hb⟩) tK rfl ?_
             refine L_y (.bool ((nB != oB))) rfl rfl rfl rfl i6 (P_int rfl rfl rfl) ?_
             refine L_p (.bool ((nB != oB))) rfl rfl (Zl (b:=(z9 == (0:Int))) rfl (pick_f i6 rfl)) ?_
             refine L_p (.bool ((nB != oB))) rfl rfl (Zk rfl) ?_
             refine L_y (.int .i64 (o0)) rfl rfl rfl rfl tB (Zk i7) ?_
             refine L_y (.bool ((decide (o0 > (0:Int))))) rfl rfl rfl rfl tB (P_int rfl rfl rfl) ?_
             refine L_y (.bool ((decide (o0 > (0:Int))))) rfl rfl rfl rfl tB (Zk rfl) ?_
             refine L_y u3 rfl rfl rfl rfl vB (Zk l8) ?_
             refine L_y (.int .i64 (o0)) rfl rfl rfl rfl vB (Zk i7) ?_
             refine L_y (ePtr u3 o0 1) rfl rfl rfl rfl vB (Zh (α:=Int) Tryz.underlying28 Tryz.sizeOf3 rfl l5 rfl aO) ?_
             refine L_ld (c:=.int .i64 (lG)) rfl rfl (.yes2 rfl rfl vB) (fun _ _ h=>h.ch) bX rfl ?_
             refine L_y u3 rfl rfl rfl rfl vB (Zk l8) ?_
             refine L_y (.int .i64 (o0)) rfl rfl rfl rfl vB (Zk i7) ?_
             refine L_y (.int .i64 ((w64 (o0 - (1:Int))))) rfl rfl rfl rfl vB (P_int rfl rfl rfl) ?_
             refine L_y (ePtr u3 (w64 (o0 - (1:Int))) 1) rfl rfl rfl rfl vB (Zh (α:=Int) Tryz.underlying28 Tryz.sizeOf3 rfl l5 rfl bO) ?_
             refine L_ld (c:=.int .i64 (mG)) rfl rfl (.yes2 rfl rfl vB) (fun _ _ h=>h.ch) cX rfl ?_
             refine L_y (.bool ((decide (lG ≤ mG)))) rfl rfl rfl rfl vB (P_int rfl rfl rfl) ?_
             refine L_y (.bool ((decide (lG ≤ mG)))) rfl rfl rfl rfl tB (Zl (b:=(decide (o0 > (0:Int)))) rfl (pick_t vB rfl)) ?_
             refine L_p (.bool ((decide (lG ≤ mG)))) rfl rfl (Zl (b:=(nB != oB)) rfl (pick_f tB rfl)) ?_
             refine L_nl fun h00 g06 hs=>?_
             have hfr:=hfr.ext hs
             have n8:=n8.ext hs
             have m8:=m8.ext hs
             have l5:=l5.ext hs
             have r8:=r8.ext hs
             clear hs
             refine Zb ?_
             obtain rfl:=sinj h
             exact hQ _ _ ⟨h00,hfr,bD,n8,vC,m8,cF,l8,l5,cD,r8,i7,rfl⟩
            ·refine E_drawL (g := lI) (n := 51) [] [0, 1, 2, 3, 4, 5, 6, 7, 8, 9, 10, 11, 12, 13, 14, 15, 16, 17, 18, 19, 20, 21, 22, 23, 24, 25, 26, 27, 28, 29, 30, 31, 32, 33, 34, 35, 36, 37, 38, 39, 40, 41, 42, 43, 44, 45, 46, 47, 48, 49, 50] rfl mixed (by kernel_rfl) trivial ?_
             refine L_p u3 rfl rfl (Zk l8) ?_
             refine L_p (.int .i64 (o0)) rfl rfl (Zk i7) ?_
             refine L_p (ePtr u3 o0 1) rfl rfl (Zh (α:=Int) Tryz.underlying28 Tryz.sizeOf3 rfl l5 rfl dF) ?_
             refine L_ld (c:=.int .i64 (a9)) rfl rfl .plain (fun _ _ h=>h.ch) sF rfl ?_
             refine L_p (.bool ((decide (a9 < (0:Int))))) rfl rfl (P_int rfl rfl rfl) ?_
             refine L_p (.bool ((decide (a9 < (0:Int))))) rfl rfl (Zk rfl) ?_
             refine L_y u3 rfl rfl rfl rfl m7 (Zk l8) ?_
             refine L_y (.int .i64 (o0)) rfl rfl rfl rfl m7 (Zk i7) ?_
             refine L_y (ePtr u3 o0 1) rfl rfl rfl rfl m7 (Zh (α:=Int) Tryz.underlying28 Tryz.sizeOf3 rfl l5 rfl tF) ?_
             refine L_ld (c:=.int .i64 (x8)) rfl rfl (.yes2 rfl rfl m7) (fun _ _ h=>h.ch) xG rfl ?_
             refine L_y (.bool ((decide (x8 > (2:Int))))) rfl rfl rfl rfl m7 (P_int rfl rfl rfl) ?_
             refine L_p (.bool ((decide (x8 > (2:Int))))) rfl rfl (Zl (b:=(decide (a9 < (0:Int)))) rfl (pick_f m7 rfl)) ?_
             refine L_p (.bool ((decide (x8 > (2:Int))))) rfl rfl (Zk rfl) ?_
             refine L_y v8 rfl rfl rfl rfl x5 (Zk vC) ?_
             refine L_y u3 rfl rfl rfl rfl x5 (Zk l8) ?_
             refine L_y (.int .i64 (o0)) rfl rfl rfl rfl x5 (Zk i7) ?_
             refine L_y (ePtr u3 o0 1) rfl rfl rfl rfl x5 (Zh (α:=Int) Tryz.underlying28 Tryz.sizeOf3 rfl l5 rfl yG) ?_
             refine L_ld (c:=.int .i64 (oD)) rfl rfl (.yes2 rfl rfl x5) (fun _ _ h=>h.ch) mI rfl ?_
             refine L_y (ePtr v8 oD 1) rfl rfl rfl rfl x5 (P_indexAddrM (α:=Int) Tryz.underlying28 Tryz.sizeOf3 rfl (m8.toM) rfl zG) ?_
             refine L_ld (c:=.int .i64 (z9)) rfl rfl (.yes2 rfl rfl x5) (fun _ _ h=>⟨h.ch,fun b hb _=>h.below.block b hb⟩) nI rfl ?_
             refine L_y (.bool ((z9 == (0:Int)))) rfl rfl rfl rfl x5 (P_int rfl rfl rfl) ?_
             refine L_p (.bool ((z9 == (0:Int)))) rfl rfl (Zl (b:=(decide (x8 > (2:Int)))) rfl (pick_f x5 rfl)) ?_
             refine L_p (.bool ((z9 == (0:Int)))) rfl rfl (Zk rfl) ?_
             refine L_y d9 rfl rfl rfl rfl i6 (Zk cD) ?_
             refine L_y (.int .i64 (o0)) rfl rfl rfl rfl i6 (Zk i7) ?_
             refine L_y (ePtr d9 o0 1) rfl rfl rfl rfl i6 (Zh (α:=Int) Tryz.underlying28 Tryz.sizeOf3 rfl r8 rfl pI) ?_
             refine L_ld (c:=.int .i64 (nB)) rfl rfl (.yes2 rfl rfl i6) (fun _ _ h=>h.ch) qK rfl ?_
             refine L_y u3 rfl rfl rfl rfl i6 (Zk l8) ?_
             refine L_y (.int .i64 (o0)) rfl rfl rfl rfl i6 (Zk i7) ?_
             refine L_y (ePtr u3 o0 1) rfl rfl rfl rfl i6 (Zh (α:=Int) Tryz.underlying28 Tryz.sizeOf3 rfl l5 rfl qI) ?_
             refine L_ld (c:=.int .i64 (mE)) rfl rfl (.yes2 rfl rfl i6) (fun _ _ h=>h.ch) sK rfl ?_
             refine L_y (fPtr mC ((mE:Int).toNat * 1)) rfl rfl rfl rfl i6 (P_indexAddrA (α:=Int) Tryz.underlying64 Tryz.sizeOf3 bD (OB.ptr n8) rfl sI) ?_
             refine L_ld (c:=.int .i64 (oB)) rfl rfl (.yes2 rfl rfl i6) (fun _ _ h=>⟨h.ch,fun b hb _=>h.below.block b hb⟩) tK rfl ?_
             refine L_y (.bool ((nB != oB))) rfl rfl rfl rfl i6 (P_int rfl rfl rfl) ?_
             refine L_p (.bool ((nB != oB))) rfl rfl (Zl (b:=(z9 == (0:Int))) rfl (pick_f i6 rfl)) ?_
             refine L_p (.bool ((nB != oB))) rfl rfl (Zk rfl) ?_
             refine L_y (.int .i64 (o0)) rfl rfl rfl rfl tB (Zk i7) ?_
             refine L_y (.bool ((decide (o0 > (0:Int))))) rfl rfl rfl rfl tB (P_int rfl rfl rfl) ?_
             refine L_y (.bool ((decide (o0 > (0:Int))))) rfl rfl rfl rfl tB (Zk rfl) ?_
             iterate 10 refine L_s rfl rfl rfl vB rfl ?_
             refine L_y (.bool false) rfl rfl rfl rfl tB (Zl (b:=(decide (o0 > (0:Int)))) rfl (pick_f vB rfl)) ?_
             refine L_p (.bool false) rfl rfl (Zl (b:=(nB != oB)) rfl (pick_f tB rfl)) ?_
             refine L_nl fun i00 h06 hs=>?_
             have hfr:=hfr.ext hs
             have n8:=n8.ext hs
             have m8:=m8.ext hs
             have l5:=l5.ext hs
             have r8:=r8.ext hs
             clear hs
             refine Zb ?_
             obtain rfl:=sinj h
             exact hQ _ _ ⟨i00,hfr,bD,n8,vC,m8,cF,l8,l5,cD,r8,i7,rfl⟩
       ·clear hx
        obtain ⟨j00,hfr,eP,gP,iP,jP,kP,lP,mP,nP,oP,pP,rJ⟩:=hR
        rcases Zt h with ⟨uK,h⟩ | ⟨uK,h⟩
        ·refine E_cond_true (Eq.trans (show ev _ _ = .bool (oE) from rJ) (congrArg Value.bool uK)) ?_
         refine Zf (Za (Zg (.bool false) rfl rfl ?_))
         refine Zb (Zd (E_ret (blk_r ?_)))
         refine thn_r ?_
         refine thn_r ?_
         refine blk_r ?_
         refine thn_r ?_
         obtain rfl:=sinj h
         exact end1 rfl rfl (show _=.bool false from rfl) ⟨_,hfr,rfl⟩
        ·refine E_cond_false (Eq.trans (show ev _ _ = .bool (oE) from rJ) (congrArg Value.bool uK)) ?_
         exact Zu (blk_n (Zd (aX () _ _ ⟨j00,hfr,eP,gP,iP,jP,kP,lP,mP,nP,oP,pP⟩ h)))
      ·rintro _ r03 i06 ⟨k00, hfr, sP, tP, uP, vP, xP, yP, zP, bQ, cQ, dQ⟩ h
       refine Za (Zo dQ rfl ?_)
       refine EL_in (.int .i64 ((w64 (o0 + (1:Int))))) rfl rfl rfl rfl ?_
       refine Zg (.int .i64 ((w64 (o0 + (1:Int))))) rfl rfl ?_
       exact Zb (Zd (aZ ((w64 (o0 + (1:Int)))) _ _ ⟨k00,hfr,sP,tP,uP,vP,xP,yP,zP,bQ,cQ,rfl⟩ h))
    ·rintro _ s03 j06 ⟨l00, hfr, eQ, gQ, iQ, jQ, kQ⟩ h
     refine Zf (Za (Zg (.int .i64 (0)) rfl rfl ?_))
     refine Zb (Zd ?_)
     obtain ⟨bG,hx,h⟩:=bsome h
     refine E_join (fun e w=>∃ (g:Gh) ,Fr gI wI g w∧e 14=v8∧OA 4014 g w 3 (l9:List Int) v8∧e 15=.int .i64 (u9)∧e 23=u3∧RV g.m w (x6.1:List Int) u3∧e 28=.int .i64 (bG)) (fun Q' hQ=>?_) (fun t03 k06 hR=>?_)
     ·replace h := hx
      clear hx
      refine Zf (Za (Zg (.int .i64 (0)) rfl rfl ?_))
      refine Zb (Zd (Zr ?_))
      refine E_lp h (fun (s:Int × Int) e w=>∃ (g:Gh) ,Fr gI wI g w∧e 14=v8∧OA 4014 g w 3 (l9:List Int) v8∧e 15=.int .i64 (u9)∧e 23=u3∧RV g.m w (x6.1:List Int) u3∧e 28=.int .i64 (s.1)∧e 29=.int .i64 (s.2)) ⟨l00,hfr,eQ,gQ,iQ,jQ,kQ,rfl,rfl⟩ (fun X10973 mO dX=>?_)
      rintro ⟨gD,mB⟩ u03 l06 ⟨lQ,hfr,bL,dL,eL,gL,iL,jL,lL⟩ h
      refine Zq h (fun (s:Unit) e w=>∃ (g:Gh) ,Fr gI wI g w∧e 14=v8∧OA 4014 g w 3 (l9:List Int) v8∧e 15=.int .i64 (u9)∧e 23=u3∧RV g.m w (x6.1:List Int) u3∧e 28=.int .i64 (gD)∧e 29=.int .i64 (mB)) (fun X10976 nO eX h=>?_) ?_
      ·refine Zf (Za (Zo lL rfl ?_))
       refine EL_in (.bool ((decide (mB < (3:Int))))) rfl rfl rfl rfl ?_
       refine Zb (Zd ?_)
       rcases Zt h with ⟨vK,h⟩ | ⟨vK,h⟩
       ·refine E_ct vK rfl ?_
        exact Zu (Zd (eX () _ _ ⟨lQ,hfr,bL,dL,eL,gL,iL,jL,lL⟩ h))
       ·refine E_cf vK rfl ?_
        refine E_exit ?_
        refine thn_e ?_
        refine thn_e ?_
        refine blk_hit ?_
        obtain rfl:=sinj h
        exact hQ _ _ ⟨lQ,hfr,bL,dL,eL,gL,iL,jL⟩
      ·rintro _ v03 m06 ⟨oN, hfr, yH, gG, mL, nL, oL, pL, zH⟩ h
       obtain ⟨aG,hx,h⟩:=bsome h
       refine E_join (fun e w=>∃ (g:Gh) ,Fr gI wI g w∧e 14=v8∧OA 4014 g w 3 (l9:List Int) v8∧e 15=.int .i64 (u9)∧e 23=u3∧RV g.m w (x6.1:List Int) u3∧e 28=.int .i64 (aG)∧e 29=.int .i64 (mB)) (fun Q' hQ=>?_) (fun x03 n06 hR=>?_)
       ·replace h := hx
        clear hx
        refine Zr ?_
        refine Zf (Za (Zo yH rfl ?_))
        refine Zo zH rfl ?_
        obtain ⟨aM,cO,h⟩:=bsome h
        refine EL_p (ePtr v8 mB 1) (P_indexAddrM (α:=Int) Tryz.underlying28 Tryz.sizeOf3 rfl (gG.toM) rfl cO) rfl ?_
        refine Ze .plain rfl (D_loadM (g:=oN) Tryz.isAgg3 Tryz.sizeOf3 rfl (gG.toM) cO fun o06 m00=>?_)
        obtain rfl:=Zj.1 m00
        refine EL_in (.bool ((decide (aM > (0:Int))))) rfl rfl rfl rfl ?_
        refine Zb (Zd ?_)
        rcases Zt h with ⟨xK,h⟩ | ⟨xK,h⟩
        ·refine E_ct xK rfl ?_
         refine Za (Zo pL rfl ?_)
         refine EL_in (.int .i64 ((w64 (gD + (1:Int))))) rfl rfl rfl rfl ?_
         refine Zg (.int .i64 ((w64 (gD + (1:Int))))) rfl rfl ?_
         refine Zb (blk_n ?_)
         obtain rfl:=sinj h
         exact hQ _ _ ⟨oN,hfr,yH,gG,mL,nL,oL,rfl,zH⟩
        ·refine E_cf xK rfl ?_
         refine Zu (blk_n ?_)
         obtain rfl:=sinj h
         exact hQ _ _ ⟨oN,hfr,yH,gG,mL,nL,oL,pL,zH⟩
       ·clear hx
        obtain ⟨n00,hfr,mQ,nQ,oQ,pQ,qQ,rQ,sQ⟩:=hR
        refine Za (Zo sQ rfl ?_)
        refine EL_in (.int .i64 ((w64 (mB + (1:Int))))) rfl rfl rfl rfl ?_
        refine Zg (.int .i64 ((w64 (mB + (1:Int))))) rfl rfl ?_
        exact Zb (Zd (dX (aG,(w64 (mB + (1:Int)))) _ _ ⟨n00,hfr,mQ,nQ,oQ,pQ,qQ,rQ,rfl⟩ h))
     ·clear hx
      obtain ⟨o00,hfr,tQ,uQ,vQ,xQ,yQ,zQ⟩:=hR
      refine Zq h (fun (s:Unit) e w=>∃ (g:Gh) ,Fr gI wI g w∧e 14=v8∧OA 4014 g w 3 (l9:List Int) v8∧e 15=.int .i64 (u9)) (fun X10988 qO gX h=>?_) ?_
      ·refine Zf (Za (Zo zQ rfl ?_))
       refine Zo xQ rfl ?_
       refine EL_p (.int .i64 ((x6.1).length:Int)) (P_len Tryz.underlying28 rfl yQ) rfl ?_
       refine EL_in (.bool ((bG != ((x6.1).length:Int)))) rfl rfl rfl rfl ?_
       refine Zb (Zd ?_)
       rcases Zt h with ⟨yK,h⟩ | ⟨yK,h⟩
       ·refine E_ct yK rfl ?_
        refine Zf (Za (Zg (.bool false) rfl rfl ?_))
        refine Zb (Zd (E_ret (thn_r ?_)))
        obtain rfl:=sinj h
        exact end1 rfl rfl (show _=.bool false from rfl) ⟨_,hfr,rfl⟩
       ·refine E_cf yK rfl ?_
        exact Zu (Zd (gX () _ _ ⟨o00,hfr,tQ,uQ,vQ⟩ h))
      ·rintro _ y03 p06 ⟨q06, hfr, qL, aR, rL⟩ h
       refine Zf (Za (Zo rL rfl ?_))
       refine Zo qL rfl ?_
       obtain ⟨gp10991,hs,rp10991⟩:=OM.pub (aR.toM)
       have hfr:=hfr.stp hs
       obtain ⟨oO,iX,h⟩:=bsome h
       refine Ze .plain rfl (Zp (g:=gp10991) (vs:=[v8]) en8 (.cons rfl .nil) (wk8 rp10991 iX) fun p00 z03 q00 hs hr=>?_)
       have hfr:=hfr.ext hs
       have rp10991:=rp10991.ext hs
       have r00:=hr
       obtain ⟨lB,jX,h⟩:=bsome h
       refine Ze .plain rfl (Zp (g:=p00) (vs:=[.int .i64 (u9),q00]) en21 (.cons rfl (.cons rfl .nil)) (wk21 r00 jX) fun pN a04 r06 hs hr=>?_)
       have hfr:=hfr.ext hs
       have rp10991:=rp10991.ext hs
       obtain ⟨iE,m03,rfl,nU,rfl⟩:=hr
       refine Zn (.tuple #[iE,.int .i64 (lB.2)]) rfl rfl ?_
       refine EL_p iE (Zi rfl rfl) rfl ?_
       refine EL_p (.int .i64 (lB.2)) (Zi rfl rfl) rfl ?_
       refine Zg iE rfl rfl ?_
       refine Zg (.int .i64 (lB.2)) rfl rfl ?_
       refine Zb (Zd (Zq h (fun (s:Unit) e w=>∃ (g:Gh) ,Fr gI wI g w∧e 14=v8∧RV g.m w (l9:List Int) v8∧e 30=iE∧RV g.m w (lB.1:List Int) iE∧e 31=.int .i64 (lB.2)) (fun X11010 pO kX h=>?_) ?_))
       ·refine Zf (Za (Zo rL rfl ?_))
        refine EL_in (.bool ((u9 == (0:Int)))) rfl rfl rfl rfl ?_
        refine Zb (Zd ?_)
        rcases Zt h with ⟨zK,h⟩ | ⟨zK,h⟩
        ·refine E_ct zK rfl ?_
         obtain ⟨jH,hx,h⟩:=bsome h
         refine E_join (fun e w=>∃ (g:Gh) ,Fr gI wI g w∧e 6=.bool (jH)) (fun Q' hQ=>?_) (fun b04 s06 hR=>?_)
         ·replace h := hx
          clear hx
          refine Za (Zn (.int .i64 (lB.2)) rfl rfl ?_)
          refine EL_in (.bool ((lB.2 == (2:Int)))) rfl rfl rfl rfl ?_
          refine Zn (.bool ((lB.2 == (2:Int)))) rfl rfl ?_
          rcases Zt h with ⟨aH,h⟩ | ⟨aH,h⟩
          ·obtain ⟨kG, lX, h⟩ := bsome h
           refine Ze (.yes2 rfl rfl aH) rfl (Zp (g:=pN) (vs:=[]) en15 .nil (wk15  lX) fun bR c04 t06 hs hr=>?_)
           have hfr:=hfr.ext hs
           subst hr
           refine EL_p (.bool (kG)) (Zl (b:=(lB.2 == (2:Int))) rfl (pick_t aH rfl)) rfl ?_
           refine Zn (.bool (kG)) rfl rfl ?_
           rcases Zt h with ⟨cH,h⟩ | ⟨cH,h⟩
           ·obtain ⟨oJ, mX, h⟩ := bsome h
            refine Ze (.yes2 rfl rfl cH) rfl (Zp (g:=bR) (vs:=[]) en22 .nil (wk22  mX) fun s00 d04 u06 hs hr=>?_)
            have hfr:=hfr.ext hs
            subst hr
            refine EL_p (.bool (oJ)) (Zl (b:=kG) rfl (pick_t cH rfl)) rfl ?_
            refine Zg (.bool (oJ)) rfl rfl ?_
            refine Zb ?_
            obtain rfl:=sinj h
            exact hQ _ _ ⟨s00,hfr,rfl⟩
           ·refine EL_s rfl rfl cH rfl rfl ?_
            refine EL_p (.bool false) (Zl (b:=kG) rfl (pick_f cH rfl)) rfl ?_
            refine Zg (.bool false) rfl rfl ?_
            refine Zb ?_
            obtain rfl:=sinj h
            exact hQ _ _ ⟨bR,hfr,rfl⟩
          ·refine EL_s rfl rfl aH rfl rfl ?_
           refine EL_p (.bool false) (Zl (b:=(lB.2 == (2:Int))) rfl (pick_f aH rfl)) rfl ?_
           refine EL_dead 3 rfl ?_
           refine Zg (.bool false) rfl rfl ?_
           refine Zb ?_
           obtain rfl:=sinj h
           exact hQ _ _ ⟨pN,hfr,rfl⟩
         ·clear hx
          obtain ⟨v06,hfr,oU⟩:=hR
          refine E_ret (thn_r ?_)
          obtain rfl:=sinj h
          exact end1 rfl rfl (show _=.bool (jH) from oU) ⟨_,hfr,rfl⟩
        ·refine E_cf zK rfl ?_
         exact Zu (Zd (kX () _ _ ⟨pN,hfr,qL,rp10991,rfl,nU,rfl⟩ h))
       ·rintro _ e04 x06 ⟨cR, hfr, dR, eR, gR, iR, jR⟩ h
        obtain ⟨iH,hx,h⟩:=bsome h
        refine E_join (fun e w=>∃ (g:Gh) ,Fr gI wI g w∧e 6=.bool (iH)) (fun Q' hQ=>?_) (fun g04 y06 hR=>?_)
        ·replace h := hx
         clear hx
         refine Za (Zo jR rfl ?_)
         refine EL_in (.bool ((lB.2 == (0:Int)))) rfl rfl rfl rfl ?_
         refine Zn (.bool ((lB.2 == (0:Int)))) rfl rfl ?_
         rcases Zt h with ⟨nD,h⟩ | ⟨nD,h⟩
         ·refine EL_y iE (Zk gR) rfl rfl nD rfl ?_
          refine EL_y v8 (Zk dR) rfl rfl nD rfl ?_
          obtain ⟨iG,nX,h⟩:=bsome h
          refine Ze (.yes2 rfl rfl nD) rfl (Zp (g:=cR) (vs:=[iE,v8]) en23 (.cons rfl (.cons rfl .nil)) (wk23 iR eR nX) fun lR h04 z06 hs hr=>?_)
          have hfr:=hfr.ext hs
          subst hr
          refine EL_p (.bool (iG)) (Zl (b:=(lB.2 == (0:Int))) rfl (pick_t nD rfl)) rfl ?_
          refine Zn (.bool (iG)) rfl rfl ?_
          rcases Zt h with ⟨dH,h⟩ | ⟨dH,h⟩
          ·obtain ⟨jG, oX, h⟩ := bsome h
           refine Ze (.yes2 rfl rfl dH) rfl (Zp (g:=lR) (vs:=[]) en15 .nil (wk15  oX) fun mR i04 a07 hs hr=>?_)
           have hfr:=hfr.ext hs
           subst hr
           refine EL_p (.bool (jG)) (Zl (b:=iG) rfl (pick_t dH rfl)) rfl ?_
           refine Zn (.bool (jG)) rfl rfl ?_
           rcases Zt h with ⟨gH,h⟩ | ⟨gH,h⟩
           ·obtain ⟨nJ, pX, h⟩ := bsome h
            refine Ze (.yes2 rfl rfl gH) rfl (Zp (g:=mR) (vs:=[]) en22 .nil (wk22  pX) fun t00 j04 b07 hs hr=>?_)
            have hfr:=hfr.ext hs
            subst hr
            refine EL_p (.bool (nJ)) (Zl (b:=jG) rfl (pick_t gH rfl)) rfl ?_
            refine Zg (.bool (nJ)) rfl rfl ?_
            refine Zb ?_
            obtain rfl:=sinj h
            exact hQ _ _ ⟨t00,hfr,rfl⟩
           ·refine EL_s rfl rfl gH rfl rfl ?_
            refine EL_p (.bool false) (Zl (b:=jG) rfl (pick_f gH rfl)) rfl ?_
            refine Zg (.bool false) rfl rfl ?_
            refine Zb ?_
            obtain rfl:=sinj h
            exact hQ _ _ ⟨mR,hfr,rfl⟩
          ·refine EL_s rfl rfl dH rfl rfl ?_
           refine EL_p (.bool false) (Zl (b:=iG) rfl (pick_f dH rfl)) rfl ?_
           refine EL_dead 3 rfl ?_
           refine Zg (.bool false) rfl rfl ?_
           refine Zb ?_
           obtain rfl:=sinj h
           exact hQ _ _ ⟨lR,hfr,rfl⟩
         ·refine EL_s rfl rfl nD rfl rfl ?_
          refine EL_s rfl rfl nD rfl rfl ?_
          refine EL_s rfl rfl nD rfl rfl ?_
          refine EL_p (.bool false) (Zl (b:=(lB.2 == (0:Int))) rfl (pick_f nD rfl)) rfl ?_
          refine EL_dead 6 rfl ?_
          refine Zg (.bool false) rfl rfl ?_
          refine Zb ?_
          obtain rfl:=sinj h
          exact hQ _ _ ⟨cR,hfr,rfl⟩
        ·clear hx
         obtain ⟨c07,hfr,pU⟩:=hR
         refine E_ret ?_
         obtain rfl:=sinj h
         exact end1 rfl rfl (show _=.bool (iH) from pU) ⟨_,hfr,rfl⟩
end Go.Proofs.YtlmibfohllgmeaaGreat
