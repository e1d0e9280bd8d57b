import Derived.Test.YtomjodbnpgbjnaaGreatCode2
set_option maxRecDepth 8000
set_option maxHeartbeats 4000000
namespace Go.Proofs.YtomjodbnpgbjnaaGreat
open Go.RowKit
def f75 (x0:TieHarness) (x1:Design):Option ((List Str) × Int):=
 jn (σ:=(List Str)) (fun l5=>
  jn (σ:=(List Str)) (fun g7=>
   Option.bind (α:=(List Str)) (
    lp (σ:=(List Str) × Int) (fun y9 (q5,o0)=>
     bif (decide (o0 < (((x1).Rows).length : Int))) then
      Option.bind (α:=(List Str)) (
       (idx ((x1).Rows) o0).bind fun j6=>
       (f96 ((⟨x0⟩:TieTieHarness)) j6).bind fun y81=>
       (apnd 16 q5 (([y81]:List Str))).bind fun y84=>
       some (y84)
       ) fun o3=>
      y9 (o3,(w64 (o0 + (1:Int))))
     else
      some (q5)
     ) big (g7,(0:Int))
    ) fun z4=>
   some (z4,(0:Int))
   ) fun z9=>
  (f66 x1).bind fun j3=>
  bif (j3 != (0 : Int)) then
   some ([],j3)
  else
   bif ((x1).Hooks != (x0).Hooks) then
    some ([],(4:Int))
   else
    z9 (l5)
  ) fun k7=>
 (f65 x0).bind fun u3=>
 bif (u3 != (0 : Int)) then
  some ([],u3)
 else
  k7 ([])
theorem en75:Enters Tryz.prog 75:=enters_of Tryz.func75 (by kernel_rfl) rfl
def f113 : Nat → (List FaultDamage) → (Int) → (Int) → (Int) → (FaultDamage → FaultDamage → Option Int) → Option ((List FaultDamage))
 | 0,_,_,_,_,_=>none
 | n + 1,x0,x1,x2,x3,x4=>
  jn (σ:=(List FaultDamage)) (fun x5=>
   jn (σ:=(List FaultDamage)) (fun q5=>
    (shr64 (wu64 (w64 (x1 + x3))) (1:Int)).bind fun u0=>
    Option.bind (α:=Int × Int) (
     bif (decide (x2 > (w64 u0))) then
      some ((w64 ((w64 ((w64 u0) + x2)) - x3)),(w64 u0))
     else
      some (x1,x2)
     ) fun (a9,d9)=>
    Option.bind (α:=Int) (
     lp (σ:=Int × Int) (fun yF (i3,u3)=>
      jn (σ:=Unit) (fun _=>
       (shr64 (wu64 (w64 (i3 + u3))) (1:Int)).bind fun d3=>
       (idx q5 (w64 ((w64 ((w64 ((w64 u0) + x2)) - (1:Int))) - (w64 d3)))).bind fun sH=>
       (idx q5 (w64 d3)).bind fun tH=>
       (x4 sH tH).bind fun e9=>
       bif (!(decide (e9 < (0 : Int)))) then
        yF ((w64 ((w64 d3) + (1:Int))),u3)
       else
        yF (i3,(w64 d3))
       ) fun uH=>
      bif (decide (i3 < u3)) then
       uH ()
      else
       some (i3)
      ) big (a9,d9)
     ) fun o0=>
    Option.bind (α:=(List FaultDamage)) (
     Option.bind (α:=Bool) (
      bif (decide (o0 < x2)) then
       some ((decide (x2 < (w64 ((w64 ((w64 u0) + x2)) - o0)))))
      else
       some (false)
      ) fun i7=>
     bif i7 then
      (f123 q5 o0 x2 ((w64 ((w64 ((w64 u0) + x2)) - o0))) x4).bind fun vH=>
      some (vH)
     else
      some (q5)
     ) fun u7=>
    Option.bind (α:=(List FaultDamage)) (
     Option.bind (α:=Bool) (
      bif (decide (x1 < o0)) then
       some ((decide (o0 < (w64 u0))))
      else
       some (false)
      ) fun j7=>
     bif j7 then
      (f113 n u7 x1 o0 ((w64 u0)) x4).bind fun xH=>
      some (xH)
     else
      some (u7)
     ) fun v7=>
    Option.bind (α:=Bool) (
     bif (decide ((w64 u0) < (w64 ((w64 ((w64 u0) + x2)) - o0)))) then
      some ((decide ((w64 ((w64 ((w64 u0) + x2)) - o0)) < x3)))
     else
      some (false)
     ) fun m7=>
    bif m7 then
     (f113 n v7 ((w64 u0)) ((w64 ((w64 ((w64 u0) + x2)) - o0))) x3 x4).bind fun yH=>
     some (yH)
    else
     some (v7)
    ) fun zH=>
   bif ((w64 (x3 - x2)) == (1 : Int)) then
    Option.bind (α:=Int) (
     lp (σ:=Int × Int) (fun zF (j3,z3)=>
      jn (σ:=Unit) (fun _=>
       (shr64 (wu64 (w64 (j3 + z3))) (1:Int)).bind fun i5=>
       (idx x5 x2).bind fun aI=>
       (idx x5 (w64 i5)).bind fun bI=>
       (x4 aI bI).bind fun i9=>
       bif (!(decide (i9 < (0 : Int)))) then
        zF ((w64 ((w64 i5) + (1:Int))),z3)
       else
        zF (j3,(w64 i5))
       ) fun cI=>
      bif (decide (j3 < z3)) then
       cI ()
      else
       some (j3)
      ) big (x1,x2)
     ) fun i6=>
    Option.bind (α:=(List FaultDamage)) (
     lp (σ:=(List FaultDamage) × Int) (fun dI (j6,j1)=>
      jn (σ:=Unit) (fun _=>
       Option.bind (α:=(List FaultDamage)) (
        (idx j6 (w64 (j1 - (1:Int)))).bind fun qC=>
        (idx j6 j1).bind fun aG=>
        (idx j6 j1).bind fun jM=>
        (idx ((List.set j6 (Int.toNat j1) qC)) (w64 (j1 - (1:Int)))).bind fun kM=>
        some ((List.set ((List.set j6 (Int.toNat j1) qC)) (Int.toNat (w64 (j1 - (1:Int)))) aG))
        ) fun m8=>
       dI (m8,(w64 (j1 - (1:Int))))
       ) fun jI=>
      bif (decide (j1 > i6)) then
       jI ()
      else
       some (j6)
      ) big (x5,x2)
     ) fun iA=>
    some (iA)
   else
    zH (x5)
   ) fun kI=>
  bif ((w64 (x2 - x1)) == (1 : Int)) then
   Option.bind (α:=Int) (
    lp (σ:=Int × Int) (fun bG (o3,z4)=>
     jn (σ:=Unit) (fun _=>
      (shr64 (wu64 (w64 (o3 + z4))) (1:Int)).bind fun l5=>
      (idx x0 (w64 l5)).bind fun lI=>
      (idx x0 x1).bind fun mI=>
      (x4 lI mI).bind fun jA=>
      bif (decide (jA < (0 : Int))) then
       bG ((w64 ((w64 l5) + (1:Int))),z4)
      else
       bG (o3,(w64 l5))
      ) fun nI=>
     bif (decide (o3 < z4)) then
      nI ()
     else
      some (o3)
     ) big (x2,x3)
    ) fun t5=>
   Option.bind (α:=(List FaultDamage)) (
    lp (σ:=(List FaultDamage) × Int) (fun oI (v6,z2)=>
     jn (σ:=Unit) (fun _=>
      Option.bind (α:=(List FaultDamage)) (
       (idx v6 (w64 (z2 + (1:Int)))).bind fun rC=>
       (idx v6 z2).bind fun cG=>
       (idx v6 z2).bind fun mM=>
       (idx ((List.set v6 (Int.toNat z2) rC)) (w64 (z2 + (1:Int)))).bind fun nM=>
       some ((List.set ((List.set v6 (Int.toNat z2) rC)) (Int.toNat (w64 (z2 + (1:Int)))) cG))
       ) fun n8=>
      oI (n8,(w64 (z2 + (1:Int))))
      ) fun pI=>
     bif (decide (z2 < (w64 (t5 - (1 : Int))))) then
      pI ()
     else
      some (v6)
     ) big (x0,x1)
    ) fun kA=>
   some (kA)
  else
   kI (x0)
theorem en113:Enters Tryz.prog 113:=enters_of Tryz.func113 (by kernel_rfl) rfl
theorem wk113 (n:Nat):∀ {iI:Nat} {gI:Gh} {wI:World} {x0:List FaultDamage} {x1:Int} {x2:Int} {x3:Int} {x4:FaultDamage→FaultDamage→Option Int} {up0:Value} (mp0:OM iI gI wI 45 x0 up0) {up4:Value} (rp4:FnV2 Tryz.prog x4 up4 gI wI) {r:(List FaultDamage)} (h:f113 n x0 x1 x2 x3 x4=some r),FnM Tryz.prog 113 #[up0,.int .i64 (x1),.int .i64 (x2),.int .i64 (x3),up4] iI gI wI (fun g w v=>v=.tuple #[]∧OM iI g w 45 r up0):=by
 induction n with
 | zero=>intros; rename_i h; cases h
 | succ n ih=>
 intro iI gI wI x0 x1 x2 x3 x4 up0 mp0 up4 rp4 r h
 simp only [f113] at h
 refine fnM_of_E Tryz.func113 rfl (Nat.le_of_ble_eq_true rfl) fun g0 hm hfr=>?_
 have gA:=mp0
 replace mp0:=mp0.enter
 rw [← hm] at mp0
 replace hm:g0.m=gI.m:=by rw [hm]
 obtain ⟨ff4,fa4,fc4,rfl,fen4,fcl4⟩:=rp4
 show E _ 220 none _ _ _ _ _
 refine Zq h (fun (s:(List FaultDamage)) e w=>∃ (g:Gh) ,FrM iI gI wI g w∧e 0=up0∧OM 1 g w 45 (s:List FaultDamage) up0∧e 1=.int .i64 (x1)∧e 2=.int .i64 (x2)∧e 3=.int .i64 (x3)∧e 4=(.func (.func ff4) fa4 fc4)) (fun X203 kI aL h=>?_) ?_
 ·refine Zf (Za (Zn (.int .i64 (x2)) rfl rfl ?_))
  refine Zn (.int .i64 (x1)) rfl rfl ?_
  refine EL_in (.int .i64 ((w64 (x2 - x1)))) rfl rfl rfl rfl ?_
  refine EL_in (.bool (((w64 (x2 - x1)) == (1:Int)))) rfl rfl rfl rfl ?_
  refine Zb (Zd ?_)
  rcases Zt h with ⟨tC,h⟩ | ⟨tC,h⟩
  ·refine E_ct tC rfl ?_
   refine Zf (Za (Zn (.int .i64 (x2)) rfl rfl ?_))
   refine Zg (.int .i64 (x2)) rfl rfl ?_
   refine Zb (Zd (Zf (Za (Zn (.int .i64 (x3)) rfl rfl ?_))))
   refine Zg (.int .i64 (x3)) rfl rfl ?_
   refine Zb (Zd ?_)
   obtain ⟨t5,hx,h⟩:=bsome h
   refine E_join (fun e w=>∃ (g:Gh) ,FrM iI gI wI g w∧e 0=up0∧OM 1 g w 45 (x0:List FaultDamage) up0∧e 1=.int .i64 (x1)∧e 10=.int .i64 (t5)) (fun Q' hQ=>?_) (fun yN dP hR=>?_)
   ·replace h := hx
    clear hx
    refine Zr ?_
    refine E_lp h (fun (s:Int × Int) e w=>∃ (g:Gh) ,FrM iI gI wI g w∧e 0=up0∧OM 1 g w 45 (x0:List FaultDamage) up0∧e 1=.int .i64 (x1)∧e 4=(.func (.func ff4) fa4 fc4)∧e 10=.int .i64 (s.1)∧e 11=.int .i64 (s.2)) ⟨g0,hfr,rfl,mp0,rfl,rfl,rfl,rfl⟩ (fun X243 bG gG=>?_)
    rintro ⟨o3,z4⟩ zN eP ⟨qI,hfr,mD,nD,oD,rI,k9,eB⟩ h
    refine Zq h (fun (s:Unit) e w=>∃ (g:Gh) ,FrM iI gI wI g w∧e 0=up0∧OM 1 g w 45 (x0:List FaultDamage) up0∧e 1=.int .i64 (x1)∧e 4=(.func (.func ff4) fa4 fc4)∧e 10=.int .i64 (o3)∧e 11=.int .i64 (z4)) (fun X246 nI bL h=>?_) ?_
    ·refine Zf (Za (Zo k9 rfl ?_))
     refine Zo eB rfl ?_
     refine EL_in (.bool ((decide (o3 < z4)))) rfl rfl rfl rfl ?_
     refine Zb (Zd ?_)
     rcases Zt h with ⟨uC,h⟩ | ⟨uC,h⟩
     ·refine E_ct uC rfl ?_
      exact Zu (Zd (bL () _ _ ⟨qI,hfr,mD,nD,oD,rI,k9,eB⟩ h))
     ·refine E_cf uC rfl ?_
      refine E_exit ?_
      refine thn_e ?_
      refine thn_e ?_
      refine blk_hit ?_
      obtain rfl:=sinj h
      exact hQ _ _ ⟨qI,hfr,mD,nD,oD,k9⟩
    ·rintro _ aO gP ⟨oM, hfr, o8, x6, lA, mA, iB, jB⟩ h
     refine Zr ?_
     refine Zf (Za (Zo iB rfl ?_))
     refine Zo jB rfl ?_
     refine EL_in (.int .i64 ((w64 (o3 + z4)))) rfl rfl rfl rfl ?_
     refine EL_p (.int .u64 (wu64 (w64 (o3 + z4)))) (P_intu64 Tryz.underlying3 Tryz.underlying110 rfl) rfl ?_
     obtain ⟨l5,cL,h⟩:=bsome h
     refine EL_p (.int .u64 (l5)) (P_shrU rfl rfl cL) rfl ?_
     refine EL_p (.int .i64 ((w64 l5))) (P_u64int Tryz.underlying110 Tryz.underlying3 rfl) rfl ?_
     refine Zg (.int .i64 ((w64 l5))) rfl rfl ?_
     refine Zb (Zd (Zf ?_))
     obtain ⟨lI,hG,h⟩:=bsome h
     refine L_loadM (x:=.tmp 43) Tryz.isAgg45 Tryz.sizeOf45 x6 hG fun sI pM dL=>?_
     obtain ⟨mI,iG,h⟩:=bsome h
     refine L_loadM (x:=.tmp 47) Tryz.isAgg45 Tryz.sizeOf45 x6 iG fun tI qM eL=>?_
     obtain ⟨jA,gL,h⟩:=bsome h
     refine E_drawL (g:=oM) (n:=11) [(9,(fun v g w=>v=.int .i64 (jA)))] [0,1,2,3,4,5,6,7,8,9,10] rfl mixed (by kernel_rfl) (⟨fun _=>up_eq _,trivial⟩) ?_
     refine L_p ((.func (.func ff4) fa4 fc4)) rfl rfl (Zk mA) ?_
     refine L_p up0 rfl rfl (Zk o8) ?_
     refine L_p (.int .i64 ((w64 l5))) rfl rfl (Zk rfl) ?_
     refine L_p (ePtr up0 (w64 l5) 5) rfl rfl (P_indexAddrM (α:=FaultDamage) Tryz.underlying47 Tryz.sizeOf45 rfl x6 rfl hG) ?_
     refine L_ld (c:=sI) rfl rfl .plain (fun _ _ h=>⟨h.ch,fun b hb _=>h.below.block b hb⟩) dL rfl ?_
     refine L_p up0 rfl rfl (Zk o8) ?_
     refine L_p (.int .i64 (x1)) rfl rfl (Zk lA) ?_
     refine L_p (ePtr up0 x1 5) rfl rfl (P_indexAddrM (α:=FaultDamage) Tryz.underlying47 Tryz.sizeOf45 rfl x6 rfl iG) ?_
     refine L_ld (c:=tI) rfl rfl .plain (fun _ _ h=>⟨h.ch,fun b hb _=>h.below.block b hb⟩) eL rfl ?_
     refine L_do (φ:=fun v g w=>v=.int .i64 (jA)) rfl rfl .plain (fun g w hd=>D_callv (g:=g) (vs:=[sI,tI]) rfl fen4 (.cons rfl (.cons rfl .nil)) (fcl4 _ _ (hfr.ext hd.1).ch _ _ _ _ _  (pM.ext hd.1) (qM.ext hd.1) gL) fun g' w' v hs hr=>⟨g',hs,Zj.1 hr⟩) (fun iP hv=>?_)
     obtain ⟨_,_,_,rfl⟩:=hv
     refine L_p (.bool ((decide (jA < (0:Int))))) rfl rfl (P_int rfl rfl rfl) ?_
     refine L_nl fun uI jP hs=>?_
     have hfr:=hfr.ext hs
     have x6:=x6.ext hs
     clear hs
     refine Zb (Zd ?_)
     rcases Zt h with ⟨vC,h⟩ | ⟨vC,h⟩
     ·refine E_ct vC rfl ?_
      refine Za (Zn (.int .i64 ((w64 l5))) rfl rfl ?_)
      refine EL_in (.int .i64 ((w64 ((w64 l5) + (1:Int))))) rfl rfl rfl rfl ?_
      refine Zg (.int .i64 ((w64 ((w64 l5) + (1:Int))))) rfl rfl ?_
      exact Zb (blk_n (Zd (gG ((w64 ((w64 l5) + (1:Int))),z4) _ _ ⟨uI,hfr,o8,x6,lA,mA,rfl,jB⟩ h)))
     ·refine E_cf vC rfl ?_
      refine Za (Zn (.int .i64 ((w64 l5))) rfl rfl ?_)
      refine Zg (.int .i64 ((w64 l5))) rfl rfl ?_
      exact Zb (blk_n (Zd (gG (o3,(w64 l5)) _ _ ⟨uI,hfr,o8,x6,lA,mA,iB,rfl⟩ h)))
   ·clear hx
    obtain ⟨rM,hfr,vI,xI,yI,yG⟩:=hR
    obtain ⟨kA,hx,h⟩:=bsome h
    refine E_join (fun e w=>∃ (g:Gh) ,FrM iI gI wI g w∧e 0=up0∧OM 1 g w 45 (kA:List FaultDamage) up0) (fun Q' hQ=>?_) (fun bO kP hR=>?_)
    ·replace h := hx
     clear hx
     refine Zf (Za (Zo yI rfl ?_))
     refine Zg (.int .i64 (x1)) rfl rfl ?_
     refine Zb (Zd (Zr ?_))
     refine E_lp h (fun (s:(List FaultDamage) × Int) e w=>∃ (g:Gh) ,FrM iI gI wI g w∧e 0=up0∧OM 1 g w 45 (s.1:List FaultDamage) up0∧e 10=.int .i64 (t5)∧e 13=.int .i64 (s.2)) ⟨rM,hfr,vI,xI,yG,rfl⟩ (fun X343 oI iL=>?_)
     rintro ⟨v6,z2⟩ cO lP ⟨zI,hfr,sD,tD,kB,lB⟩ h
     refine Zq h (fun (s:Unit) e w=>∃ (g:Gh) ,FrM iI gI wI g w∧e 0=up0∧OM 1 g w 45 (v6:List FaultDamage) up0∧e 10=.int .i64 (t5)∧e 13=.int .i64 (z2)) (fun X346 pI jL h=>?_) ?_
     ·refine Zf (Za (Zo lB rfl ?_))
      refine Zo kB rfl ?_
      refine EL_in (.int .i64 ((w64 (t5 - (1:Int))))) rfl rfl rfl rfl ?_
      refine EL_p (.bool ((decide (z2 < (w64 (t5 - (1:Int))))))) (P_int rfl rfl rfl) rfl ?_
      refine Zb (Zd ?_)
      rcases Zt h with ⟨xC,h⟩ | ⟨xC,h⟩
      ·refine E_ct xC rfl ?_
       exact Zu (Zd (jL () _ _ ⟨zI,hfr,sD,tD,kB,lB⟩ h))
      ·refine E_cf xC rfl ?_
       refine E_exit ?_
       refine thn_e ?_
       refine thn_e ?_
       refine blk_hit ?_
       obtain rfl:=sinj h
       exact hQ _ _ ⟨zI,hfr,sD,tD⟩
     ·rintro _ dO sM ⟨aJ, hfr, c8, y6, zG, n7⟩ h
      obtain ⟨n8,hx,h⟩:=bsome h
      refine E_join (fun e w=>∃ (g:Gh) ,FrM iI gI wI g w∧e 0=up0∧OM 1 g w 45 (n8:List FaultDamage) up0∧e 10=.int .i64 (t5)∧e 13=.int .i64 (z2)) (fun Q' hQ=>?_) (fun eO mP hR=>?_)
      ·replace h := hx
       clear hx
       refine Zr ?_
       obtain ⟨rC,jG,h⟩:=bsome h
       refine L_loadM (x:=.tmp 69) Tryz.isAgg45 Tryz.sizeOf45 y6 jG fun tM dG kL=>?_
       obtain ⟨cG,kG,h⟩:=bsome h
       refine L_loadM (x:=.tmp 73) Tryz.isAgg45 Tryz.sizeOf45 y6 kG fun uM nA lL=>?_
       obtain ⟨mM,lG,h⟩:=bsome h
       refine E_drawTL (g:=aJ) (n:=15) [2,3,4] [] [0,1,2,3,4,5,6,7,8,9,10,11,12,13,14] rfl mixed (by kernel_rfl) trivial rfl ?_
       refine L_p up0 rfl rfl (Zk c8) ?_
       refine L_p (.int .i64 (z2)) rfl rfl (Zk n7) ?_
       refine L_purL (c:=up0) rfl rfl .plain (Zk c8) ?_
       refine L_purL (c:=.int .i64 (z2)) rfl rfl .plain (Zk n7) ?_
       refine L_purL (c:=.int .i64 ((w64 (z2 + (1:Int))))) rfl rfl .plain (P_int rfl rfl rfl) ?_
       refine L_p up0 rfl rfl (Zk c8) ?_
       refine L_p (.int .i64 (z2)) rfl rfl (Zk n7) ?_
       refine L_p (.int .i64 ((w64 (z2 + (1:Int))))) rfl rfl (P_int rfl rfl rfl) ?_
       refine L_p (ePtr up0 (w64 (z2 + (1:Int))) 5) rfl rfl (P_indexAddrM (α:=FaultDamage) Tryz.underlying47 Tryz.sizeOf45 rfl y6 rfl jG) ?_
       refine L_ld (c:=tM) rfl rfl .plain (fun _ _ h=>⟨h.ch,fun b hb _=>h.below.block b hb⟩) kL rfl ?_
       refine L_p up0 rfl rfl (Zk c8) ?_
       refine L_p (.int .i64 (z2)) rfl rfl (Zk n7) ?_
       refine L_p (ePtr up0 z2 5) rfl rfl (P_indexAddrM (α:=FaultDamage) Tryz.underlying47 Tryz.sizeOf45 rfl y6 rfl kG) ?_
       refine L_ld (c:=uM) rfl rfl .plain (fun _ _ h=>⟨h.ch,fun b hb _=>h.below.block b hb⟩) lL rfl ?_
       refine L_p (ePtr up0 z2 5) rfl rfl (P_indexAddrM (α:=FaultDamage) Tryz.underlying47 Tryz.sizeOf45 rfl y6 rfl lG) ?_
       refine L_nl fun bJ vM hs=>?_
       have hlt:Lt aJ.m sM bJ vM:=hs.ch
       have hfr:=hfr.ext hs
       have y6:=y6.ext hs
       have dG:=dG.ext hs
       have nA:=nA.ext hs
       clear hs
       refine TL_do hlt.w .plain rfl (D_storeM (g:=bJ) (α:=FaultDamage) (a':=rC) Tryz.sizeOf45 rfl y6 lG rfl dG fun xM nP hs b400=>?_)
       have hfr:=hfr.stp hs
       have hlt:=hlt.stp hs
       have nA:=nA.stp hs
       obtain ⟨nM,mG,h⟩:=bsome h
       refine TL_pur hlt.w (v:=ePtr up0 (w64 (z2 + (1:Int))) 5) (P_indexAddrM (α:=FaultDamage) Tryz.underlying47 Tryz.sizeOf45 rfl b400 rfl mG) .plain rfl ?_
       refine TL_do hlt.w .plain rfl (D_storeM (g:=xM) (α:=FaultDamage) (a':=cG) Tryz.sizeOf45 rfl b400 mG rfl nA fun yM oP hs b402=>?_)
       have hfr:=hfr.stp hs
       have hlt:=hlt.stp hs
       refine TL_nil hlt.w ?_
       clear hlt
       refine blk_n ?_
       obtain rfl:=sinj h
       exact hQ _ _ ⟨yM,hfr,c8,b402,zG,n7⟩
      ·clear hx
       obtain ⟨zM,hfr,cJ,dJ,aH,bH⟩:=hR
       refine Za (Zo bH rfl ?_)
       refine EL_in (.int .i64 ((w64 (z2 + (1:Int))))) rfl rfl rfl rfl ?_
       refine Zg (.int .i64 ((w64 (z2 + (1:Int))))) rfl rfl ?_
       exact Zb (Zd (iL (n8,(w64 (z2 + (1:Int)))) _ _ ⟨zM,hfr,cJ,dJ,aH,rfl⟩ h))
    ·clear hx
     obtain ⟨pP,hfr,vN,eJ⟩:=hR
     refine E_ret (thn_r ?_)
     obtain rfl:=sinj h
     exact end0 rfl rfl ⟨_,hfr,rfl,gA.back eJ⟩
  ·refine E_cf tC rfl ?_
   exact Zu (Zd (aL (x0) _ _ ⟨g0,hfr,rfl,mp0,rfl,rfl,rfl,rfl⟩ h))
 ·rintro x5 gO sP ⟨gJ, hfr, uD, vD, xD, q8, yD, zD⟩ h
  refine Zq h (fun (s:(List FaultDamage)) e w=>∃ (g:Gh) ,FrM iI gI wI g w∧e 0=up0∧OM 1 g w 45 (s:List FaultDamage) up0∧e 1=.int .i64 (x1)∧e 2=.int .i64 (x2)∧e 3=.int .i64 (x3)∧e 4=(.func (.func ff4) fa4 fc4)) (fun X609 zH mL h=>?_) ?_
  ·refine Zf (Za (Zo yD rfl ?_))
   refine Zo q8 rfl ?_
   refine EL_in (.int .i64 ((w64 (x3 - x2)))) rfl rfl rfl rfl ?_
   refine EL_in (.bool (((w64 (x3 - x2)) == (1:Int)))) rfl rfl rfl rfl ?_
   refine Zb (Zd ?_)
   rcases Zt h with ⟨yC,h⟩ | ⟨yC,h⟩
   ·refine E_ct yC rfl ?_
    refine Zf (Za (Zo xD rfl ?_))
    refine Zg (.int .i64 (x1)) rfl rfl ?_
    refine Zb (Zd (Zf (Za (Zo q8 rfl ?_))))
    refine Zg (.int .i64 (x2)) rfl rfl ?_
    refine Zb (Zd ?_)
    obtain ⟨i6,hx,h⟩:=bsome h
    refine E_join (fun e w=>∃ (g:Gh) ,FrM iI gI wI g w∧e 0=up0∧OM 1 g w 45 (x5:List FaultDamage) up0∧e 2=.int .i64 (x2)∧e 14=.int .i64 (i6)) (fun Q' hQ=>?_) (fun iO tP hR=>?_)
    ·replace h := hx
     clear hx
     refine Zr ?_
     refine E_lp h (fun (s:Int × Int) e w=>∃ (g:Gh) ,FrM iI gI wI g w∧e 0=up0∧OM 1 g w 45 (x5:List FaultDamage) up0∧e 2=.int .i64 (x2)∧e 4=(.func (.func ff4) fa4 fc4)∧e 14=.int .i64 (s.1)∧e 15=.int .i64 (s.2)) ⟨gJ,hfr,uD,vD,q8,zD,rfl,rfl⟩ (fun X650 zF nG=>?_)
     rintro ⟨j3,z3⟩ jO uP ⟨iJ,hfr,aE,bE,cE,jJ,l9,mB⟩ h
     refine Zq h (fun (s:Unit) e w=>∃ (g:Gh) ,FrM iI gI wI g w∧e 0=up0∧OM 1 g w 45 (x5:List FaultDamage) up0∧e 2=.int .i64 (x2)∧e 4=(.func (.func ff4) fa4 fc4)∧e 14=.int .i64 (j3)∧e 15=.int .i64 (z3)) (fun X653 cI nL h=>?_) ?_
     ·refine Zf (Za (Zo l9 rfl ?_))
      refine Zo mB rfl ?_
      refine EL_in (.bool ((decide (j3 < z3)))) rfl rfl rfl rfl ?_
      refine Zb (Zd ?_)
      rcases Zt h with ⟨aD,h⟩ | ⟨aD,h⟩
      ·refine E_ct aD rfl ?_
       exact Zu (Zd (nL () _ _ ⟨iJ,hfr,aE,bE,cE,jJ,l9,mB⟩ h))
      ·refine E_cf aD rfl ?_
       refine E_exit ?_
       refine thn_e ?_
       refine thn_e ?_
       refine blk_hit ?_
       obtain rfl:=sinj h
       exact hQ _ _ ⟨iJ,hfr,aE,bE,cE,l9⟩
     ·rintro _ kO vP ⟨bN, hfr, r8, a7, oA, pA, nB, oB⟩ h
      refine Zr ?_
      refine Zf (Za (Zo nB rfl ?_))
      refine Zo oB rfl ?_
      refine EL_in (.int .i64 ((w64 (j3 + z3)))) rfl rfl rfl rfl ?_
      refine EL_p (.int .u64 (wu64 (w64 (j3 + z3)))) (P_intu64 Tryz.underlying3 Tryz.underlying110 rfl) rfl ?_
      obtain ⟨i5,oL,h⟩:=bsome h
      refine EL_p (.int .u64 (i5)) (P_shrU rfl rfl oL) rfl ?_
      refine EL_p (.int .i64 ((w64 i5))) (P_u64int Tryz.underlying110 Tryz.underlying3 rfl) rfl ?_
      refine Zg (.int .i64 ((w64 i5))) rfl rfl ?_
      refine Zb (Zd (Zf ?_))
      obtain ⟨aI,oG,h⟩:=bsome h
      refine L_loadM (x:=.tmp 95) Tryz.isAgg45 Tryz.sizeOf45 a7 oG fun kJ cN pL=>?_
      obtain ⟨bI,pG,h⟩:=bsome h
      refine L_loadM (x:=.tmp 99) Tryz.isAgg45 Tryz.sizeOf45 a7 pG fun lJ dN qL=>?_
      obtain ⟨i9,rL,h⟩:=bsome h
      refine E_drawL (g:=bN) (n:=12) [(9,(fun v g w=>v=.int .i64 (i9)))] [0,1,2,3,4,5,6,7,8,9,10,11] rfl mixed (by kernel_rfl) (⟨fun _=>up_eq _,trivial⟩) ?_
      refine L_p ((.func (.func ff4) fa4 fc4)) rfl rfl (Zk pA) ?_
      refine L_p up0 rfl rfl (Zk r8) ?_
      refine L_p (.int .i64 (x2)) rfl rfl (Zk oA) ?_
      refine L_p (ePtr up0 x2 5) rfl rfl (P_indexAddrM (α:=FaultDamage) Tryz.underlying47 Tryz.sizeOf45 rfl a7 rfl oG) ?_
      refine L_ld (c:=kJ) rfl rfl .plain (fun _ _ h=>⟨h.ch,fun b hb _=>h.below.block b hb⟩) pL rfl ?_
      refine L_p up0 rfl rfl (Zk r8) ?_
      refine L_p (.int .i64 ((w64 i5))) rfl rfl (Zk rfl) ?_
      refine L_p (ePtr up0 (w64 i5) 5) rfl rfl (P_indexAddrM (α:=FaultDamage) Tryz.underlying47 Tryz.sizeOf45 rfl a7 rfl pG) ?_
      refine L_ld (c:=lJ) rfl rfl .plain (fun _ _ h=>⟨h.ch,fun b hb _=>h.below.block b hb⟩) qL rfl ?_
      refine L_do (φ:=fun v g w=>v=.int .i64 (i9)) rfl rfl .plain (fun g w hd=>D_callv (g:=g) (vs:=[kJ,lJ]) rfl fen4 (.cons rfl (.cons rfl .nil)) (fcl4 _ _ (hfr.ext hd.1).ch _ _ _ _ _  (cN.ext hd.1) (dN.ext hd.1) rL) fun g' w' v hs hr=>⟨g',hs,Zj.1 hr⟩) (fun xP hv=>?_)
      obtain ⟨_,_,_,rfl⟩:=hv
      refine L_p (.bool ((decide (i9 < (0:Int))))) rfl rfl (P_int rfl rfl rfl) ?_
      refine L_p (.bool (!(decide (i9 < (0:Int))))) rfl rfl (P_not rfl) ?_
      refine L_nl fun mJ yP hs=>?_
      have hfr:=hfr.ext hs
      have a7:=a7.ext hs
      clear hs
      refine Zb (Zd ?_)
      rcases Zt h with ⟨bD,h⟩ | ⟨bD,h⟩
      ·refine E_ct bD rfl ?_
       refine Za (Zn (.int .i64 ((w64 i5))) rfl rfl ?_)
       refine EL_in (.int .i64 ((w64 ((w64 i5) + (1:Int))))) rfl rfl rfl rfl ?_
       refine Zg (.int .i64 ((w64 ((w64 i5) + (1:Int))))) rfl rfl ?_
       exact Zb (blk_n (Zd (nG ((w64 ((w64 i5) + (1:Int))),z3) _ _ ⟨mJ,hfr,r8,a7,oA,pA,rfl,oB⟩ h)))
      ·refine E_cf bD rfl ?_
       refine Za (Zn (.int .i64 ((w64 i5))) rfl rfl ?_)
       refine Zg (.int .i64 ((w64 i5))) rfl rfl ?_
       exact Zb (blk_n (Zd (nG (j3,(w64 i5)) _ _ ⟨mJ,hfr,r8,a7,oA,pA,nB,rfl⟩ h)))
    ·clear hx
     obtain ⟨eN,hfr,nJ,oJ,pJ,cH⟩:=hR
     obtain ⟨iA,hx,h⟩:=bsome h
     refine E_join (fun e w=>∃ (g:Gh) ,FrM iI gI wI g w∧e 0=up0∧OM 1 g w 45 (iA:List FaultDamage) up0) (fun Q' hQ=>?_) (fun lO zP hR=>?_)
     ·replace h := hx
      clear hx
      refine Zf (Za (Zo pJ rfl ?_))
      refine Zg (.int .i64 (x2)) rfl rfl ?_
      refine Zb (Zd (Zr ?_))
      refine E_lp h (fun (s:(List FaultDamage) × Int) e w=>∃ (g:Gh) ,FrM iI gI wI g w∧e 0=up0∧OM 1 g w 45 (s.1:List FaultDamage) up0∧e 14=.int .i64 (i6)∧e 17=.int .i64 (s.2)) ⟨eN,hfr,nJ,oJ,cH,rfl⟩ (fun X751 dI tL=>?_)
      rintro ⟨j6,j1⟩ mO bQ ⟨qJ,hfr,dE,eE,tB,vB⟩ h
      refine Zq h (fun (s:Unit) e w=>∃ (g:Gh) ,FrM iI gI wI g w∧e 0=up0∧OM 1 g w 45 (j6:List FaultDamage) up0∧e 14=.int .i64 (i6)∧e 17=.int .i64 (j1)) (fun X754 jI uL h=>?_) ?_
      ·refine Zf (Za (Zo vB rfl ?_))
       refine Zo tB rfl ?_
       refine EL_in (.bool ((decide (j1 > i6)))) rfl rfl rfl rfl ?_
       refine Zb (Zd ?_)
       rcases Zt h with ⟨cD,h⟩ | ⟨cD,h⟩
       ·refine E_ct cD rfl ?_
        exact Zu (Zd (uL () _ _ ⟨qJ,hfr,dE,eE,tB,vB⟩ h))
       ·refine E_cf cD rfl ?_
        refine E_exit ?_
        refine thn_e ?_
        refine thn_e ?_
        refine blk_hit ?_
        obtain rfl:=sinj h
        exact hQ _ _ ⟨qJ,hfr,dE,eE⟩
      ·rintro _ nO gN ⟨rJ, hfr, e8, b7, dH, o7⟩ h
       obtain ⟨m8,hx,h⟩:=bsome h
       refine E_join (fun e w=>∃ (g:Gh) ,FrM iI gI wI g w∧e 0=up0∧OM 1 g w 45 (m8:List FaultDamage) up0∧e 14=.int .i64 (i6)∧e 17=.int .i64 (j1)) (fun Q' hQ=>?_) (fun oO cQ hR=>?_)
       ·replace h := hx
        clear hx
        refine Zr ?_
        obtain ⟨qC,qG,h⟩:=bsome h
        refine L_loadM (x:=.tmp 121) Tryz.isAgg45 Tryz.sizeOf45 b7 qG fun iN eG vL=>?_
        obtain ⟨aG,rG,h⟩:=bsome h
        refine L_loadM (x:=.tmp 125) Tryz.isAgg45 Tryz.sizeOf45 b7 rG fun jN qA xL=>?_
        obtain ⟨jM,sG,h⟩:=bsome h
        refine E_drawTL (g:=rJ) (n:=15) [2,3,4] [] [0,1,2,3,4,5,6,7,8,9,10,11,12,13,14] rfl mixed (by kernel_rfl) trivial rfl ?_
        refine L_p up0 rfl rfl (Zk e8) ?_
        refine L_p (.int .i64 (j1)) rfl rfl (Zk o7) ?_
        refine L_purL (c:=up0) rfl rfl .plain (Zk e8) ?_
        refine L_purL (c:=.int .i64 (j1)) rfl rfl .plain (Zk o7) ?_
        refine L_purL (c:=.int .i64 ((w64 (j1 - (1:Int))))) rfl rfl .plain (P_int rfl rfl rfl) ?_
        refine L_p up0 rfl rfl (Zk e8) ?_
        refine L_p (.int .i64 (j1)) rfl rfl (Zk o7) ?_
        refine L_p (.int .i64 ((w64 (j1 - (1:Int))))) rfl rfl (P_int rfl rfl rfl) ?_
        refine L_p (ePtr up0 (w64 (j1 - (1:Int))) 5) rfl rfl (P_indexAddrM (α:=FaultDamage) Tryz.underlying47 Tryz.sizeOf45 rfl b7 rfl qG) ?_
        refine L_ld (c:=iN) rfl rfl .plain (fun _ _ h=>⟨h.ch,fun b hb _=>h.below.block b hb⟩) vL rfl ?_
        refine L_p up0 rfl rfl (Zk e8) ?_
        refine L_p (.int .i64 (j1)) rfl rfl (Zk o7) ?_
        refine L_p (ePtr up0 j1 5) rfl rfl (P_indexAddrM (α:=FaultDamage) Tryz.underlying47 Tryz.sizeOf45 rfl b7 rfl rG) ?_
        refine L_ld (c:=jN) rfl rfl .plain (fun _ _ h=>⟨h.ch,fun b hb _=>h.below.block b hb⟩) xL rfl ?_
        refine L_p (ePtr up0 j1 5) rfl rfl (P_indexAddrM (α:=FaultDamage) Tryz.underlying47 Tryz.sizeOf45 rfl b7 rfl sG) ?_
        refine L_nl fun sJ kN hs=>?_
        have hlt:Lt rJ.m gN sJ kN:=hs.ch
        have hfr:=hfr.ext hs
        have b7:=b7.ext hs
        have eG:=eG.ext hs
        have qA:=qA.ext hs
        clear hs
        refine TL_do hlt.w .plain rfl (D_storeM (g:=sJ) (α:=FaultDamage) (a':=qC) Tryz.sizeOf45 rfl b7 sG rfl eG fun lN dQ hs b808=>?_)
        have hfr:=hfr.stp hs
        have hlt:=hlt.stp hs
        have qA:=qA.stp hs
        obtain ⟨kM,tG,h⟩:=bsome h
        refine TL_pur hlt.w (v:=ePtr up0 (w64 (j1 - (1:Int))) 5) (P_indexAddrM (α:=FaultDamage) Tryz.underlying47 Tryz.sizeOf45 rfl b808 rfl tG) .plain rfl ?_
        refine TL_do hlt.w .plain rfl (D_storeM (g:=lN) (α:=FaultDamage) (a':=aG) Tryz.sizeOf45 rfl b808 tG rfl qA fun mN eQ hs b810=>?_)
        have hfr:=hfr.stp hs
        have hlt:=hlt.stp hs
        refine TL_nil hlt.w ?_
        clear hlt
        refine blk_n ?_
        obtain rfl:=sinj h
        exact hQ _ _ ⟨mN,hfr,e8,b810,dH,o7⟩
       ·clear hx
        obtain ⟨nN,hfr,tJ,uJ,gH,iH⟩:=hR
        refine Za (Zo iH rfl ?_)
        refine EL_in (.int .i64 ((w64 (j1 - (1:Int))))) rfl rfl rfl rfl ?_
        refine Zg (.int .i64 ((w64 (j1 - (1:Int))))) rfl rfl ?_
        exact Zb (Zd (tL (m8,(w64 (j1 - (1:Int)))) _ _ ⟨nN,hfr,tJ,uJ,gH,rfl⟩ h))
     ·clear hx
      obtain ⟨gQ,hfr,xN,vJ⟩:=hR
      refine E_ret (thn_r ?_)
      obtain rfl:=sinj h
      exact end0 rfl rfl ⟨_,hfr,rfl,gA.back vJ⟩
   ·refine E_cf yC rfl ?_
    exact Zu (Zd (mL (x5) _ _ ⟨gJ,hfr,uD,vD,xD,q8,yD,zD⟩ h))
  ·rintro q5 pO iQ ⟨xJ, hfr, gE, iE, t8, g8, v8, jE⟩ h
   refine Zf (Za (Zo t8 rfl ?_))
   refine Zo v8 rfl ?_
   refine EL_in (.int .i64 ((w64 (x1 + x3)))) rfl rfl rfl rfl ?_
   refine EL_p (.int .u64 (wu64 (w64 (x1 + x3)))) (P_intu64 Tryz.underlying3 Tryz.underlying110 rfl) rfl ?_
   obtain ⟨u0,yL,h⟩:=bsome h
   refine EL_p (.int .u64 (u0)) (P_shrU rfl rfl yL) rfl ?_
   refine EL_p (.int .i64 ((w64 u0))) (P_u64int Tryz.underlying110 Tryz.underlying3 rfl) rfl ?_
   refine Zg (.int .i64 ((w64 u0))) rfl rfl ?_
   refine Zb (Zd (Zf (Za (Zn (.int .i64 ((w64 u0))) rfl rfl ?_))))
   refine Zo g8 rfl ?_
   refine EL_in (.int .i64 ((w64 ((w64 u0) + x2)))) rfl rfl rfl rfl ?_
   refine Zg (.int .i64 ((w64 ((w64 u0) + x2)))) rfl rfl ?_
   refine Zb (Zd (Zf (Za (Zg (.int .i64 (0)) rfl rfl ?_))))
   refine Zg (.int .i64 (0)) rfl rfl ?_
   refine Zb (Zd ?_)
   obtain ⟨⟨a9,d9⟩,hx,h⟩:=bsome h
   refine E_join (fun e w=>∃ (g:Gh) ,FrM iI gI wI g w∧e 0=up0∧OM 1 g w 45 (q5:List FaultDamage) up0∧e 1=.int .i64 (x1)∧e 2=.int .i64 (x2)∧e 3=.int .i64 (x3)∧e 4=(.func (.func ff4) fa4 fc4)∧e 18=.int .i64 ((w64 u0))∧e 19=.int .i64 ((w64 ((w64 u0) + x2)))∧e 20=.int .i64 (a9)∧e 21=.int .i64 (d9)) (fun Q' hQ=>?_) (fun qO jQ hR=>?_)
   ·replace h := hx
    clear hx
    refine Zf (Za (Zo g8 rfl ?_))
    refine Zn (.int .i64 ((w64 u0))) rfl rfl ?_
    refine EL_in (.bool ((decide (x2 > (w64 u0))))) rfl rfl rfl rfl ?_
    refine Zb (Zd ?_)
    rcases Zt h with ⟨eD,h⟩ | ⟨eD,h⟩
    ·refine E_ct eD rfl ?_
     refine Zf (Za (Zn (.int .i64 ((w64 ((w64 u0) + x2)))) rfl rfl ?_))
     refine Zo v8 rfl ?_
     refine EL_p (.int .i64 ((w64 ((w64 ((w64 u0) + x2)) - x3)))) (P_int rfl rfl rfl) rfl ?_
     refine EL_p (.int .i64 ((w64 ((w64 ((w64 u0) + x2)) - x3)))) (P_assign rfl) rfl ?_
     refine Zb (Zd (Za (Zn (.int .i64 ((w64 u0))) rfl rfl ?_)))
     refine Zg (.int .i64 ((w64 u0))) rfl rfl ?_
     refine Zb ?_
     obtain ⟨rfl,rfl⟩:=pairs2 h
     exact hQ _ _ ⟨xJ,hfr,gE,iE,t8,g8,v8,jE,rfl,rfl,rfl,rfl⟩
    ·refine E_cf eD rfl ?_
     refine Zf (Za (Zo t8 rfl ?_))
     refine Zg (.int .i64 (x1)) rfl rfl ?_
     refine Zb (Zd (Za (Zo g8 rfl ?_)))
     refine Zg (.int .i64 (x2)) rfl rfl ?_
     refine Zb ?_
     obtain ⟨rfl,rfl⟩:=pairs2 h
     exact hQ _ _ ⟨xJ,hfr,gE,iE,t8,g8,v8,jE,rfl,rfl,rfl,rfl⟩
   ·clear hx
    obtain ⟨oN,hfr,yJ,zJ,aK,bK,cK,dK,jH,xB,kH,lH⟩:=hR
    refine Zf (Za (Zo xB rfl ?_))
    refine EL_p (.int .i64 ((w64 ((w64 ((w64 u0) + x2)) - (1:Int))))) (P_int rfl rfl rfl) rfl ?_
    refine EL_p (.int .i64 ((w64 ((w64 ((w64 u0) + x2)) - (1:Int))))) (P_assign rfl) rfl ?_
    refine Zb (Zd ?_)
    obtain ⟨o0,hx,h⟩:=bsome h
    refine E_join (fun e w=>∃ (g:Gh) ,FrM iI gI wI g w∧e 0=up0∧OM 1 g w 45 (q5:List FaultDamage) up0∧e 1=.int .i64 (x1)∧e 2=.int .i64 (x2)∧e 3=.int .i64 (x3)∧e 4=(.func (.func ff4) fa4 fc4)∧e 18=.int .i64 ((w64 u0))∧e 19=.int .i64 ((w64 ((w64 u0) + x2)))∧e 20=.int .i64 (o0)) (fun Q' hQ=>?_) (fun rO kQ hR=>?_)
    ·replace h := hx
     clear hx
     refine Zr ?_
     refine E_lp h (fun (s:Int × Int) e w=>∃ (g:Gh) ,FrM iI gI wI g w∧e 0=up0∧OM 1 g w 45 (q5:List FaultDamage) up0∧e 1=.int .i64 (x1)∧e 2=.int .i64 (x2)∧e 3=.int .i64 (x3)∧e 4=(.func (.func ff4) fa4 fc4)∧e 18=.int .i64 ((w64 u0))∧e 19=.int .i64 ((w64 ((w64 u0) + x2)))∧e 20=.int .i64 (s.1)∧e 21=.int .i64 (s.2)∧e 22=.int .i64 ((w64 ((w64 ((w64 u0) + x2)) - (1:Int))))) ⟨oN,hfr,yJ,zJ,aK,bK,cK,dK,jH,xB,kH,lH,rfl⟩ (fun X864 yF uG=>?_)
     rintro ⟨i3,u3⟩ sO lQ ⟨eK,hfr,kE,lE,mE,nE,oE,rE,yB,zB,n9,aC,mH⟩ h
     refine Zq h (fun (s:Unit) e w=>∃ (g:Gh) ,FrM iI gI wI g w∧e 0=up0∧OM 1 g w 45 (q5:List FaultDamage) up0∧e 1=.int .i64 (x1)∧e 2=.int .i64 (x2)∧e 3=.int .i64 (x3)∧e 4=(.func (.func ff4) fa4 fc4)∧e 18=.int .i64 ((w64 u0))∧e 19=.int .i64 ((w64 ((w64 u0) + x2)))∧e 20=.int .i64 (i3)∧e 21=.int .i64 (u3)∧e 22=.int .i64 ((w64 ((w64 ((w64 u0) + x2)) - (1:Int))))) (fun X867 uH zL h=>?_) ?_
     ·refine Zf (Za (Zo n9 rfl ?_))
      refine Zo aC rfl ?_
      refine EL_in (.bool ((decide (i3 < u3)))) rfl rfl rfl rfl ?_
      refine Zb (Zd ?_)
      rcases Zt h with ⟨gD,h⟩ | ⟨gD,h⟩
      ·refine E_ct gD rfl ?_
       exact Zu (Zd (zL () _ _ ⟨eK,hfr,kE,lE,mE,nE,oE,rE,yB,zB,n9,aC,mH⟩ h))
      ·refine E_cf gD rfl ?_
       refine E_exit ?_
       refine thn_e ?_
       refine thn_e ?_
       refine blk_hit ?_
       obtain rfl:=sinj h
       exact hQ _ _ ⟨eK,hfr,kE,lE,mE,nE,oE,rE,yB,zB,n9⟩
     ·rintro _ tO mQ ⟨pN, hfr, x8, c7, sE, tE, uE, rA, cC, dC, eC, iC, o9⟩ h
      refine Zr ?_
      refine Zf (Za (Zo eC rfl ?_))
      refine Zo iC rfl ?_
      refine EL_in (.int .i64 ((w64 (i3 + u3)))) rfl rfl rfl rfl ?_
      refine EL_p (.int .u64 (wu64 (w64 (i3 + u3)))) (P_intu64 Tryz.underlying3 Tryz.underlying110 rfl) rfl ?_
      obtain ⟨d3,aM,h⟩:=bsome h
      refine EL_p (.int .u64 (d3)) (P_shrU rfl rfl aM) rfl ?_
      refine EL_p (.int .i64 ((w64 d3))) (P_u64int Tryz.underlying110 Tryz.underlying3 rfl) rfl ?_
      refine Zg (.int .i64 ((w64 d3))) rfl rfl ?_
      refine Zb (Zd (Zf ?_))
      obtain ⟨sH,vG,h⟩:=bsome h
      refine L_loadM (x:=.tmp 163) Tryz.isAgg45 Tryz.sizeOf45 c7 vG fun lK qN bM=>?_
      obtain ⟨tH,xG,h⟩:=bsome h
      refine L_loadM (x:=.tmp 167) Tryz.isAgg45 Tryz.sizeOf45 c7 xG fun mK rN cM=>?_
      obtain ⟨e9,dM,h⟩:=bsome h
      refine E_drawL (g:=pN) (n:=14) [(11,(fun v g w=>v=.int .i64 (e9)))] [0,1,2,3,4,5,6,7,8,9,10,11,12,13] rfl mixed (by kernel_rfl) (⟨fun _=>up_eq _,trivial⟩) ?_
      refine L_p ((.func (.func ff4) fa4 fc4)) rfl rfl (Zk rA) ?_
      refine L_p up0 rfl rfl (Zk x8) ?_
      refine L_p (.int .i64 ((w64 ((w64 ((w64 u0) + x2)) - (1:Int))))) rfl rfl (Zk o9) ?_
      refine L_p (.int .i64 ((w64 d3))) rfl rfl (Zk rfl) ?_
      refine L_p (.int .i64 ((w64 ((w64 ((w64 ((w64 u0) + x2)) - (1:Int))) - (w64 d3))))) rfl rfl (P_int rfl rfl rfl) ?_
      refine L_p (ePtr up0 (w64 ((w64 ((w64 ((w64 u0) + x2)) - (1:Int))) - (w64 d3))) 5) rfl rfl (P_indexAddrM (α:=FaultDamage) Tryz.underlying47 Tryz.sizeOf45 rfl c7 rfl vG) ?_
      refine L_ld (c:=lK) rfl rfl .plain (fun _ _ h=>⟨h.ch,fun b hb _=>h.below.block b hb⟩) bM rfl ?_
      refine L_p up0 rfl rfl (Zk x8) ?_
      refine L_p (.int .i64 ((w64 d3))) rfl rfl (Zk rfl) ?_
      refine L_p (ePtr up0 (w64 d3) 5) rfl rfl (P_indexAddrM (α:=FaultDamage) Tryz.underlying47 Tryz.sizeOf45 rfl c7 rfl xG) ?_
      refine L_ld (c:=mK) rfl rfl .plain (fun _ _ h=>⟨h.ch,fun b hb _=>h.below.block b hb⟩) cM rfl ?_
      refine L_do (φ:=fun v g w=>v=.int .i64 (e9)) rfl rfl .plain (fun g w hd=>D_callv (g:=g) (vs:=[lK,mK]) rfl fen4 (.cons rfl (.cons rfl .nil)) (fcl4 _ _ (hfr.ext hd.1).ch _ _ _ _ _  (qN.ext hd.1) (rN.ext hd.1) dM) fun g' w' v hs hr=>⟨g',hs,Zj.1 hr⟩) (fun nQ hv=>?_)
      obtain ⟨_,_,_,rfl⟩:=hv
      refine L_p (.bool ((decide (e9 < (0:Int))))) rfl rfl (P_int rfl rfl rfl) ?_
      refine L_p (.bool (!(decide (e9 < (0:Int))))) rfl rfl (P_not rfl) ?_
      refine L_nl fun nK oQ hs=>?_
      have hfr:=hfr.ext hs
      have c7:=c7.ext hs
      clear hs
      refine Zb (Zd ?_)
      rcases Zt h with ⟨iD,h⟩ | ⟨iD,h⟩
      ·refine E_ct iD rfl ?_
       refine Za (Zn (.int .i64 ((w64 d3))) rfl rfl ?_)
       refine EL_in (.int .i64 ((w64 ((w64 d3) + (1:Int))))) rfl rfl rfl rfl ?_
       refine Zg (.int .i64 ((w64 ((w64 d3) + (1:Int))))) rfl rfl ?_
       exact Zb (blk_n (Zd (uG ((w64 ((w64 d3) + (1:Int))),u3) _ _ ⟨nK,hfr,x8,c7,sE,tE,uE,rA,cC,dC,rfl,iC,o9⟩ h)))
      ·refine E_cf iD rfl ?_
       refine Za (Zn (.int .i64 ((w64 d3))) rfl rfl ?_)
       refine Zg (.int .i64 ((w64 d3))) rfl rfl ?_
       exact Zb (blk_n (Zd (uG (i3,(w64 d3)) _ _ ⟨nK,hfr,x8,c7,sE,tE,uE,rA,cC,dC,eC,rfl,o9⟩ h)))
    ·clear hx
     obtain ⟨oK,hfr,vE,xE,yE,y8,zE,cF,jC,nH,i8⟩:=hR
     refine Zf (Za (Zo nH rfl ?_))
     refine Zo i8 rfl ?_
     refine EL_p (.int .i64 ((w64 ((w64 ((w64 u0) + x2)) - o0)))) (P_int rfl rfl rfl) rfl ?_
     refine EL_p (.int .i64 ((w64 ((w64 ((w64 u0) + x2)) - o0)))) (P_assign rfl) rfl ?_
     refine Zb (Zd ?_)
     obtain ⟨u7,hx,h⟩:=bsome h
     refine E_join (fun e w=>∃ (g:Gh) ,FrM iI gI wI g w∧e 0=up0∧OM 1 g w 45 (u7:List FaultDamage) up0∧e 1=.int .i64 (x1)∧e 3=.int .i64 (x3)∧e 4=(.func (.func ff4) fa4 fc4)∧e 18=.int .i64 ((w64 u0))∧e 20=.int .i64 (o0)∧e 24=.int .i64 ((w64 ((w64 ((w64 u0) + x2)) - o0)))) (fun Q' hQ=>?_) (fun uO pQ hR=>?_)
     ·replace h := hx
      clear hx
      obtain ⟨i7,hx,h⟩:=bsome h
      refine E_join (fun e w=>∃ (g:Gh) ,FrM iI gI wI g w∧e 0=up0∧OM 1 g w 45 (q5:List FaultDamage) up0∧e 1=.int .i64 (x1)∧e 2=.int .i64 (x2)∧e 3=.int .i64 (x3)∧e 4=(.func (.func ff4) fa4 fc4)∧e 18=.int .i64 ((w64 u0))∧e 20=.int .i64 (o0)∧e 24=.int .i64 ((w64 ((w64 ((w64 u0) + x2)) - o0)))∧e 185=.bool (i7)) (fun Q' hQ=>?_) (fun vO qQ hR=>?_)
      ·replace h := hx
       clear hx
       refine Za (Zo i8 rfl ?_)
       refine Zo y8 rfl ?_
       refine EL_in (.bool ((decide (o0 < x2)))) rfl rfl rfl rfl ?_
       refine Zn (.bool ((decide (o0 < x2)))) rfl rfl ?_
       rcases Zt h with ⟨d7,h⟩ | ⟨d7,h⟩
       ·refine EL_y (.int .i64 (x2)) (Zk y8) rfl rfl d7 rfl ?_
        refine EL_y (.int .i64 ((w64 ((w64 ((w64 u0) + x2)) - o0)))) (Zk rfl) rfl rfl d7 rfl ?_
        refine EL_y (.bool ((decide (x2 < (w64 ((w64 ((w64 u0) + x2)) - o0)))))) (P_int rfl rfl rfl) rfl rfl d7 rfl ?_
        refine EL_p (.bool ((decide (x2 < (w64 ((w64 ((w64 u0) + x2)) - o0)))))) (Zl (b:=(decide (o0 < x2))) rfl (pick_t d7 rfl)) rfl ?_
        refine Zb ?_
        obtain rfl:=sinj h
        exact hQ _ _ ⟨oK,hfr,vE,xE,yE,y8,zE,cF,jC,i8,rfl,rfl⟩
       ·refine EL_s rfl rfl d7 rfl rfl ?_
        refine EL_s rfl rfl d7 rfl rfl ?_
        refine EL_s rfl rfl d7 rfl rfl ?_
        refine EL_p (.bool false) (Zl (b:=(decide (o0 < x2))) rfl (pick_f d7 rfl)) rfl ?_
        refine Zb ?_
        obtain rfl:=sinj h
        exact hQ _ _ ⟨oK,hfr,vE,xE,yE,y8,zE,cF,jC,i8,rfl,rfl⟩
      ·clear hx
       obtain ⟨pK,hfr,sA,dF,eF,qK,iF,uA,kC,t9,u9,xA⟩:=hR
       rcases Zt h with ⟨jD,h⟩ | ⟨jD,h⟩
       ·refine E_cond_true (Eq.trans (show ev _ _ = .bool (i7) from xA) (congrArg Value.bool jD)) ?_
        refine Za (Zo sA rfl ?_)
        refine Zo t9 rfl ?_
        refine Zo qK rfl ?_
        refine EL_p (.int .i64 ((w64 ((w64 ((w64 u0) + x2)) - o0)))) (Zk u9) rfl ?_
        refine Zo uA rfl ?_
        obtain ⟨vH,eM,h⟩:=bsome h
        refine Ze .plain rfl (D_callM (g:=pK) (i:=1) (vs:=[up0,.int .i64 (o0),.int .i64 (x2),.int .i64 ((w64 ((w64 ((w64 u0) + x2)) - o0))),(.func (.func ff4) fa4 fc4)]) en123 (.cons rfl (.cons rfl (.cons rfl (.cons rfl (.cons rfl .nil))))) (wk123 dF (FnV2.ch ⟨_,_,_,rfl,fen4,fcl4⟩ hfr.ch) eM) fun sN xO rQ hs hr=>?_)
        obtain ⟨hrv,b921⟩:=hr
        have hfr:=hfr.stp hs
        subst hrv
        refine Zb ?_
        obtain rfl:=sinj h
        exact hQ _ _ ⟨sN,hfr,sA,b921,eF,iF,uA,kC,t9,u9⟩
       ·refine E_cond_false (Eq.trans (show ev _ _ = .bool (i7) from xA) (congrArg Value.bool jD)) ?_
        refine Zu ?_
        obtain rfl:=sinj h
        exact hQ _ _ ⟨pK,hfr,sA,dF,eF,iF,uA,kC,t9,u9⟩
     ·clear hx
      obtain ⟨sK,hfr,nF,oF,yA,pF,qF,y9,k8,lC⟩:=hR
      obtain ⟨v7,hx,h⟩:=bsome h
      refine E_join (fun e w=>∃ (g:Gh) ,FrM iI gI wI g w∧e 0=up0∧OM 1 g w 45 (v7:List FaultDamage) up0∧e 3=.int .i64 (x3)∧e 4=(.func (.func ff4) fa4 fc4)∧e 18=.int .i64 ((w64 u0))∧e 24=.int .i64 ((w64 ((w64 ((w64 u0) + x2)) - o0)))) (fun Q' hQ=>?_) (fun yO sQ hR=>?_)
      ·replace h := hx
       clear hx
       obtain ⟨j7,hx,h⟩:=bsome h
       refine E_join (fun e w=>∃ (g:Gh) ,FrM iI gI wI g w∧e 0=up0∧OM 1 g w 45 (u7:List FaultDamage) up0∧e 1=.int .i64 (x1)∧e 3=.int .i64 (x3)∧e 4=(.func (.func ff4) fa4 fc4)∧e 18=.int .i64 ((w64 u0))∧e 20=.int .i64 (o0)∧e 24=.int .i64 ((w64 ((w64 ((w64 u0) + x2)) - o0)))∧e 199=.bool (j7)) (fun Q' hQ=>?_) (fun zO tQ hR=>?_)
       ·replace h := hx
        clear hx
        refine Za (Zo yA rfl ?_)
        refine Zo k8 rfl ?_
        refine EL_in (.bool ((decide (x1 < o0)))) rfl rfl rfl rfl ?_
        refine Zn (.bool ((decide (x1 < o0)))) rfl rfl ?_
        rcases Zt h with ⟨e7,h⟩ | ⟨e7,h⟩
        ·refine EL_y (.int .i64 (o0)) (Zk k8) rfl rfl e7 rfl ?_
         refine EL_y (.int .i64 ((w64 u0))) (Zk y9) rfl rfl e7 rfl ?_
         refine EL_y (.bool ((decide (o0 < (w64 u0))))) (P_int rfl rfl rfl) rfl rfl e7 rfl ?_
         refine EL_p (.bool ((decide (o0 < (w64 u0))))) (Zl (b:=(decide (x1 < o0))) rfl (pick_t e7 rfl)) rfl ?_
         refine Zb ?_
         obtain rfl:=sinj h
         exact hQ _ _ ⟨sK,hfr,nF,oF,yA,pF,qF,y9,k8,lC,rfl⟩
        ·refine EL_s rfl rfl e7 rfl rfl ?_
         refine EL_s rfl rfl e7 rfl rfl ?_
         refine EL_s rfl rfl e7 rfl rfl ?_
         refine EL_p (.bool false) (Zl (b:=(decide (x1 < o0))) rfl (pick_f e7 rfl)) rfl ?_
         refine Zb ?_
         obtain rfl:=sinj h
         exact hQ _ _ ⟨sK,hfr,nF,oF,yA,pF,qF,y9,k8,lC,rfl⟩
       ·clear hx
        obtain ⟨tK,hfr,zA,rF,uK,sF,aB,z9,oH,mC,bB⟩:=hR
        rcases Zt h with ⟨kD,h⟩ | ⟨kD,h⟩
        ·refine E_cond_true (Eq.trans (show ev _ _ = .bool (j7) from bB) (congrArg Value.bool kD)) ?_
         refine Za (Zo zA rfl ?_)
         refine Zo uK rfl ?_
         refine Zo oH rfl ?_
         refine Zo z9 rfl ?_
         refine Zo aB rfl ?_
         obtain ⟨xH,gM,h⟩:=bsome h
         refine Ze .plain rfl (D_callM (g:=tK) (i:=1) (vs:=[up0,.int .i64 (x1),.int .i64 (o0),.int .i64 ((w64 u0)),(.func (.func ff4) fa4 fc4)]) en113 (.cons rfl (.cons rfl (.cons rfl (.cons rfl (.cons rfl .nil))))) (ih rF (FnV2.ch ⟨_,_,_,rfl,fen4,fcl4⟩ hfr.ch) gM) fun tN aP uQ hs hr=>?_)
         obtain ⟨hrv,b934⟩:=hr
         have hfr:=hfr.stp hs
         subst hrv
         refine Zb ?_
         obtain rfl:=sinj h
         exact hQ _ _ ⟨tN,hfr,zA,b934,sF,aB,z9,mC⟩
        ·refine E_cond_false (Eq.trans (show ev _ _ = .bool (j7) from bB) (congrArg Value.bool kD)) ?_
         refine Zu ?_
         obtain rfl:=sinj h
         exact hQ _ _ ⟨tK,hfr,zA,rF,sF,aB,z9,mC⟩
      ·clear hx
       obtain ⟨vK,hfr,tF,uF,cB,vF,bA,l8⟩:=hR
       obtain ⟨m7,hx,h⟩:=bsome h
       refine E_join (fun e w=>∃ (g:Gh) ,FrM iI gI wI g w∧e 0=up0∧OM 1 g w 45 (v7:List FaultDamage) up0∧e 3=.int .i64 (x3)∧e 4=(.func (.func ff4) fa4 fc4)∧e 18=.int .i64 ((w64 u0))∧e 24=.int .i64 ((w64 ((w64 ((w64 u0) + x2)) - o0)))∧e 213=.bool (m7)) (fun Q' hQ=>?_) (fun bP vQ hR=>?_)
       ·replace h := hx
        clear hx
        refine Za (Zo bA rfl ?_)
        refine EL_p (.int .i64 ((w64 ((w64 ((w64 u0) + x2)) - o0)))) (Zk l8) rfl ?_
        refine EL_p (.bool ((decide ((w64 u0) < (w64 ((w64 ((w64 u0) + x2)) - o0)))))) (P_int rfl rfl rfl) rfl ?_
        refine EL_p (.bool ((decide ((w64 u0) < (w64 ((w64 ((w64 u0) + x2)) - o0)))))) (Zk rfl) rfl ?_
        rcases Zt h with ⟨g7,h⟩ | ⟨g7,h⟩
        ·refine EL_y (.int .i64 ((w64 ((w64 ((w64 u0) + x2)) - o0)))) (Zk l8) rfl rfl g7 rfl ?_
         refine EL_y (.int .i64 (x3)) (Zk cB) rfl rfl g7 rfl ?_
         refine EL_y (.bool ((decide ((w64 ((w64 ((w64 u0) + x2)) - o0)) < x3)))) (P_int rfl rfl rfl) rfl rfl g7 rfl ?_
         refine EL_p (.bool ((decide ((w64 ((w64 ((w64 u0) + x2)) - o0)) < x3)))) (Zl (b:=(decide ((w64 u0) < (w64 ((w64 ((w64 u0) + x2)) - o0))))) rfl (pick_t g7 rfl)) rfl ?_
         refine Zb ?_
         obtain rfl:=sinj h
         exact hQ _ _ ⟨vK,hfr,tF,uF,cB,vF,bA,l8,rfl⟩
        ·refine EL_s rfl rfl g7 rfl rfl ?_
         refine EL_s rfl rfl g7 rfl rfl ?_
         refine EL_s rfl rfl g7 rfl rfl ?_
         refine EL_p (.bool false) (Zl (b:=(decide ((w64 u0) < (w64 ((w64 ((w64 u0) + x2)) - o0))))) rfl (pick_f g7 rfl)) rfl ?_
         refine Zb ?_
         obtain rfl:=sinj h
         exact hQ _ _ ⟨vK,hfr,tF,uF,cB,vF,bA,l8,rfl⟩
       ·clear hx
        obtain ⟨uN,hfr,xK,xF,yK,zK,pH,qH,dB⟩:=hR
        rcases Zt h with ⟨lD,h⟩ | ⟨lD,h⟩
        ·refine E_cond_true (Eq.trans (show ev _ _ = .bool (m7) from dB) (congrArg Value.bool lD)) ?_
         refine Za (Zo xK rfl ?_)
         refine Zo pH rfl ?_
         refine EL_p (.int .i64 ((w64 ((w64 ((w64 u0) + x2)) - o0)))) (Zk qH) rfl ?_
         refine Zo yK rfl ?_
         refine Zo zK rfl ?_
         obtain ⟨yH,iM,h⟩:=bsome h
         refine Ze .plain rfl (D_callM (g:=uN) (i:=1) (vs:=[up0,.int .i64 ((w64 u0)),.int .i64 ((w64 ((w64 ((w64 u0) + x2)) - o0))),.int .i64 (x3),(.func (.func ff4) fa4 fc4)]) en113 (.cons rfl (.cons rfl (.cons rfl (.cons rfl (.cons rfl .nil))))) (ih xF (FnV2.ch ⟨_,_,_,rfl,fen4,fcl4⟩ hfr.ch) iM) fun xQ cP yQ hs hr=>?_)
         obtain ⟨hrv,b941⟩:=hr
         have hfr:=hfr.stp hs
         subst hrv
         refine Zb ?_
         obtain rfl:=sinj h
         exact end0n rfl rfl ⟨_,hfr,rfl,gA.back b941⟩
        ·refine E_cond_false (Eq.trans (show ev _ _ = .bool (m7) from dB) (congrArg Value.bool lD)) ?_
         refine Zu ?_
         obtain rfl:=sinj h
         exact end0n rfl rfl ⟨_,hfr,rfl,gA.back xF⟩
def f25 (x0:LoomLoomMill) (x1:List Int) (x2:List (Int × LoomRun)):Option ((List Bool)):=
 (shl64 (1:Int) (((x0).orders).length:Int)).bind fun y4=>
 (mks 1 (false:Bool) y4).bind fun y5=>
 (idx y5 (0:Int)).bind fun mI=>
 Option.bind (α:=(List Bool)) (
  lp (σ:=(List Bool) × Int) (fun uD (i7,x5)=>
   bif (decide (x5 < ((x1).length : Int))) then
    Option.bind (α:=(List Bool)) (
     (idx x1 x5).bind fun o9=>
     (f53 x0 o9 x2).bind fun j6=>
     (mks 1 (false:Bool) (((i7).length:Int))).bind fun i8=>
     Option.bind (α:=(List Bool)) (
      lp (σ:=(List Bool) × Int) (fun vD (v8,o0)=>
       bif (decide (o0 < ((i8).length : Int))) then
        Option.bind (α:=(List Bool)) (
         (f54 o0).bind fun oB=>
         (oB ((List Bool)) (fun y6 i6=>
          (idx y6 o0).bind fun c8=>
          bif c8 then
           (idx y6 o0).bind fun kG=>
           some (true,((List.set y6 (Int.toNat o0) true)))
          else
           (idx j6 i6).bind fun n8=>
           bif n8 then
            (idx i7 (bit64 .andNot o0 i6)).bind fun a9=>
            (idx y6 o0).bind fun lG=>
            some (true,((List.set y6 (Int.toNat o0) a9)))
           else
            (idx y6 o0).bind fun mG=>
            some (true,((List.set y6 (Int.toNat o0) false)))
          ) (v8)).bind fun mA=>
         some (mA)
         ) fun x8=>
        vD (x8,(w64 (o0 + (1:Int))))
       else
        some (v8)
       ) big (i8,(0:Int))
      ) fun i9=>
     some (i9)
     ) fun d9=>
    uD (d9,(w64 (x5 + (1:Int))))
   else
    some (i7)
   ) big ((List.set y5 (Int.toNat (0:Int)) true),(0:Int))
  ) fun u9=>
 some (u9)
theorem en25:Enters Tryz.prog 25:=enters_of Tryz.func25 (by kernel_rfl) rfl
theorem wk25 {gI:Gh} {wI:World} {x0:LoomLoomMill} {x1:List Int} {x2:List (Int × LoomRun)} {up0:Value} (rp0:RV gI.m wI x0 up0) {up1:Value} (rp1:RV gI.m wI x1 up1) {up2:Value} (mq2:MR (Value.int .i64) gI wI x2 up2) {r:(List Bool)} (h:f25 x0 x1 x2=some r):Fn Tryz.prog 25 #[up0,up1,up2] gI wI (fun m w v=>RV m w (r) v):=by
 unfold f25 at h
 refine fnD_of_E Tryz.func25 rfl (Nat.le_of_ble_eq_true rfl) fun g0 hm hfr=>?_
 have hmk:MkF g0 wI []:=MkF.start
 have rp0:RV g0.m wI x0 up0:=hm ▸ rp0
 have rp1:RV g0.m wI x1 up1:=hm ▸ rp1
 have mq2:=MQ.enter mq2 hm hfr
 show E _ 67 none _ _ _ _ _
 refine Zf (Za (Ze .plain rfl (D_box (g:=g0) rfl rp0 fun g1 w1 p1 hs q1=>?_)))
 have hfr:=hfr.ext hs
 have hmk:=hmk.ext hs
 have rp1:=rp1.ext hs
 have mq2:=mq2.ext hs
 refine Zg (.slice none 0 0) rfl rfl ?_
 refine Zb (Zd (Zf (Za (EL_p (fPtr p1 2) (Zc at_81_1 rfl (PT.ptr q1)) rfl ?_))))
 have q2:=Zm (part_LoomLoomMill_1).1 q1
 refine Ze .plain rfl (D_load (g:=g1) Tryz.isAgg29 Tryz.sizeOf29 rfl q2 fun v3 r3=>?_)
 refine EL_p (.int .i64 (((x0).orders).length:Int)) (P_len Tryz.underlying29 rfl r3) rfl ?_
 obtain ⟨y4,nI,h⟩:=bsome h
 refine EL_p (.int .i64 (y4)) (P_int rfl rfl (congrArg (Option.map (Value.int .i64)) nI)) rfl ?_
 obtain ⟨y5,hy5,h⟩:=bsome h
 refine Ze .plain rfl (D_makeSliceM (g:=g1) 9018 (false:Bool) rfl Tryz.underlying86 info_4 rfl (fun _ _=>rfl) rfl rfl hy5 fun g6 w6 v6 hs b6=>?_)
 have hfr:=hfr.stp hs
 have hmk:=hmk.stp hs
 have rp1:=rp1.stp hs
 have mq2:=mq2.stp hs
 have q1:=q1.stp hs
 refine Ze .plain rfl (D_allocOc (g:=g6) 2007 (⟨.slice none 0 0,rfl⟩:Fv) Tryz.zeroValue86 (fun _ _=>fv0_rep) fun g7 w7 p7 hs b7 cb=>?_)
 clear cb
 have hfr:=hfr.stp hs
 have hmk:=hmk.stp hs
 have rp1:=rp1.stp hs
 have mq2:=mq2.stp hs
 have q1:=q1.stp hs
 have b6:=b6.stp hs rfl
 have z7:OA 4007 g7 w7 4 ([]:List Bool) (.slice none 0 0):=OA.nil
 have on8:=om_one b6
 refine Ze .plain rfl (D_storeOc (g:=g7) (v:=v6) (a':=(⟨v6,on8⟩:Fv)) Tryz.sizeOf86 rfl b7 rfl (RV_fv.2 rfl) fun g8 w8 hs b8 cb=>?_)
 clear cb
 have hfr:=hfr.stp hs
 have hmk:=hmk.stp hs
 have rp1:=rp1.stp hs
 have mq2:=mq2.stp hs
 have q1:=q1.stp hs
 have b6:=b6.stp hs rfl
 refine Zb (Zd (Zf (Za (Ze .plain rfl (D_loadO (α:=Fv) (g:=g8) Tryz.isAgg86 Tryz.sizeOf86 rfl b8 fun v9 r9=>?_)))))
 have e9:v9=v6:=RV_fv.1 r9
 clear r9
 subst v9
 obtain ⟨mI,yF,h⟩:=bsome h
 refine EL_p (ePtr v6 (0:Int) 1) (P_indexAddrM (α:=Bool) Tryz.underlying86 Tryz.sizeOf4 rfl b6 rfl yF) rfl ?_
 refine Ze .plain rfl (D_storeM (g:=g8) (α:=Bool) (a':=true) Tryz.sizeOf4 rfl b6 yF rfl (RV_bool.2 rfl) fun nK oK hs b11=>?_)
 have hfr:=hfr.stp hs
 have hmk:=hmk.stp hs
 have rp1:=rp1.stp hs
 have mq2:=mq2.stp hs
 have q1:=q1.stp hs
 have b8:=b8.stp hs rfl
 refine Zb (Zd ?_)
 obtain ⟨u9,hx,h⟩:=bsome h
 refine E_joinD (fun e ds w=>∃ (g:Gh) ,Fr gI wI g w∧MkF g w ds∧e 7=p7∧OB 2007 g w 86 (u9:List Bool) p7) (fun Q' hQ=>?_) (fun oI bI xI hR=>?_)
 ·replace h := hx
  clear hx
  refine Zf (Za (Zn up1 rfl rfl ?_))
  refine EL_p (.int .i64 ((x1).length:Int)) (P_len Tryz.underlying26 rfl rp1) rfl ?_
  refine Zn (.int .i64 (0)) rfl rfl ?_
  refine Zb (Zd (Zr ?_))
  obtain ⟨gp2346,hs,rp2346⟩:=OM.pub b11
  have hfr:=hfr.stp hs
  have hmk:=hmk.stp hs
  have rp1:=rp1.stp hs
  have mq2:=mq2.stp hs
  have q1:=q1.stp hs
  have b8:=b8.stp hs rfl
  have ub2346:=OB.ofRV b8 rp2346
  refine E_lpD h (fun (s:(List Bool) × Int) e ds w=>∃ (g:Gh) ,Fr gI wI g w∧MkF g w ds∧e 2=up2∧MQ (Value.int .i64) wI.heap.size g w (x2:List (Int × LoomRun)) up2∧e 3=p1∧PT g.m w (x0:LoomLoomMill) p1∧e 7=p7∧OB 2007 g w 86 (s.1:List Bool) p7∧e 21=up1∧RV g.m w (x1:List Int) up1∧e 22=.int .i64 (((x1).length:Int))∧e 23=.int .i64 (s.2)) ⟨gp2346,hfr,hmk,rfl,mq2,rfl,q1,rfl,ub2346,rfl,rp1,rfl,rfl⟩ (fun X2347 uD zF=>?_)
  rintro ⟨i7,x5⟩ pI cI xD ⟨iA,hfr,hmk,iB,k8,jB,l8,y9,e8,nA,m7,oA,k9⟩ h
  refine Zf (Za (EL_in (.bool ((decide (x5 < ((x1).length:Int))))) k9 oA rfl rfl ?_))
  refine Zb (Zd (Zf ?_))
  rcases Zt h with ⟨pA,h⟩ | ⟨pA,h⟩
  ·refine E_ct pA rfl ?_
   refine Zu (Zd ?_)
   obtain ⟨d9,hx,h⟩:=bsome h
   refine E_joinD (fun e ds w=>∃ (g:Gh) ,Fr gI wI g w∧MkF g w ds∧e 2=up2∧MQ (Value.int .i64) wI.heap.size g w (x2:List (Int × LoomRun)) up2∧e 3=p1∧PT g.m w (x0:LoomLoomMill) p1∧e 7=p7∧OB 2007 g w 86 (d9:List Bool) p7∧e 21=up1∧RV g.m w (x1:List Int) up1∧e 22=.int .i64 (((x1).length:Int))∧e 23=.int .i64 (x5)) (fun Q' hQ=>?_) (fun qI dI yI hR=>?_)
   ·replace h := hx
    clear hx
    refine Zr ?_
    refine Zf (Za ?_)
    obtain ⟨o9,xB,h⟩:=bsome h
    refine EL_p (ePtr up1 x5 1) (Zh (α:=Int) Tryz.underlying26 Tryz.sizeOf3 nA m7 k9 xB) rfl ?_
    have nG:=PT_idx m7 xB
    refine Ze .plain rfl (D_load (g:=iA) Tryz.isAgg3 Tryz.sizeOf3 rfl nG fun zI oG=>?_)
    obtain rfl:=Zj.1 oG
    refine Zg (.int .i64 (o9)) rfl rfl ?_
    refine Zb (Zd (Zf (Zs (x:=.tmp 3) Tryz.isAgg81 Tryz.sizeOf81 l8 fun yD pG aG=>?_)))
    obtain ⟨j6,bG,h⟩:=bsome h
    refine L_loadO0 (x:=.tmp 7) Tryz.isAgg86 Tryz.sizeOf86 e8 fun qG rG cG=>?_
    obtain ⟨i8,dG,h⟩:=bsome h
    have z3524:OA 4011 iA xD 4 ([]:List Bool) (.slice none 0 0):=OA.nil
    refine E_drawV (g:=iA) (w:=xD) (i:=2010) (t2:=86) (a0:=([]:List Bool)) (a1:=(j6:List Bool)) (n:=10) [(3,(fun _ v g w=>RV g.m w j6 v)),(6,(fun _ v g w=>OM 9033 g w 4 i8 v)),(7,(fun _ v=>varA 2010 86 ([]:List Bool) (j6:List Bool) v)),(8,(fun _ v g w=>OB 2011 g w 86 (⟨.slice none 0 0,rfl⟩:Fv) v)),(9,(fun e _ g w=>OB 2010 g w 86 (j6:List Bool) (ev e (.tmp 10))))] [0,1,2,3,4,5,6,7,8,9] rfl mixed (by kernel_rfl) (⟨fun _ _=>upV_rv,fun _ _=>upV_om,fun _ _=>up_var0,fun _ _=>upV_ob,fun _ _=>up_var1,trivial⟩) (⟨fun _ _ _ _ _ _=>rfl,fun _ _ _ _ _ _=>rfl,fun _ _ _ _ _ _=>rfl,fun _ _ _ _ _ _=>rfl,wok_store (A:=fun p g w=>OB 2010 g w 86 (j6:List Bool) p) rfl,trivial⟩) ?_
    refine L_ld (c:=yD) rfl rfl .plain (fun _ _ h=>h.ch) aG jB ?_
    refine L_p (.int .i64 (o9)) rfl rfl (Zk rfl) ?_
    refine L_p up2 rfl rfl (Zk iB) ?_
    refine L_do (φ:=fun v g w=>RV g.m w j6 v) rfl rfl .plain (fun g w hd=>Zp (g:=g) (vs:=[yD,.int .i64 (o9),up2]) en53 (.cons rfl (.cons rfl (.cons rfl .nil))) (wk53 (pG.stp hd.1) (k8.stp hd.1).r bG) fun g' w' v hs hr=>⟨g',var_ext hs,hr⟩) (fun zD hv=>?_)
    obtain ⟨_,_,_,rq3518⟩:=hv
    refine L_ld (c:=qG) rfl rfl .plain (fun _ _ h=>⟨h.ch,fun b hb ho=>h.block b hb (by rw [ho]; decide)⟩) cG y9 ?_
    refine L_p (.int .i64 ((i7).length:Int)) rfl rfl (P_len Tryz.underlying86 rfl rG) ?_
    refine L_do (φ:=fun v g w=>OM 9033 g w 4 i8 v) rfl rfl .plain (fun g w hd=>D_makeSliceX (g:=g) 9033 (false:Bool) rfl Tryz.underlying86 info_4 rfl (fun _ _=>rfl) rfl rfl dG fun g' w' v hs b=>⟨g',var_ext hs,b⟩) (fun jA hv=>?_)
    clear hv
    refine L_do (φ:=fun v=>varA 2010 86 ([]:List Bool) (j6:List Bool) v) rfl rfl .plain (fun g w hd=>D_allocX (g:=g) 2010 ([]:List Bool) Tryz.zeroValue86 (fun m w=>⟨_,rep_nil,rfl⟩) fun g' w' v hs b=>⟨g',var_ext hs,.inl b⟩) (fun o8 hv=>?_)
    clear hv
    refine L_do (φ:=fun v g w=>OB 2011 g w 86 (⟨.slice none 0 0,rfl⟩:Fv) v) rfl rfl .plain (fun g w hd=>D_allocX (g:=g) 2011 (⟨.slice none 0 0,rfl⟩:Fv) Tryz.zeroValue86 (fun _ _=>fv0_rep) fun g' w' v hs b=>⟨g',var_ext hs,b⟩) (fun q8 hv=>?_)
    clear hv
    refine L_do (φ:=fun _ g w=>OB 2010 g w 86 (j6:List Bool) o8) rfl rfl .plain (fun g w hd=>D_storeV (g:=g) Tryz.sizeOf86 rfl (word (A:=varA 2010 86 ([]:List Bool) (j6:List Bool) o8) 7 rfl rfl (deps_of hd)) rfl (word (A:=fun g w=>RV g.m w j6 zD) 3 rfl rfl (deps_of hd))) (fun aJ hv=>?_)
    clear hv
    refine L_nil fun sG bJ hall=>?_
    have hs:=hall.1
    have hfr:=hfr.stp hs
    have hmk:=hmk.stp hs
    have k8:=k8.stp hs
    have l8:=l8.stp hs
    have e8:=e8.stp hs rfl
    have m7:=m7.stp hs
    have cJ:=(word_all (A:=fun g w=>RV g.m w j6 zD) 3 rfl hall)
    have b3543:=(word_all (A:=fun g w=>OM 9033 g w 4 i8 jA) 6 rfl hall)
    have b3544:=(word_all (A:=fun g w=>OB 2010 g w 86 (j6:List Bool) o8) 9 rfl hall)
    have b3545:=(word_all (A:=fun g w=>OB 2011 g w 86 (⟨.slice none 0 0,rfl⟩:Fv) q8) 8 rfl hall)
    clear hs hall
    have on3547:=om_one b3543
    refine Ze .plain rfl (D_storeOc (g:=sG) (v:=jA) (a':=(⟨jA,on3547⟩:Fv)) Tryz.sizeOf86 rfl b3545 rfl (RV_fv.2 rfl) fun aE dJ hs b3547 cb=>?_)
    clear cb
    have hfr:=hfr.stp hs
    have hmk:=hmk.stp hs
    have k8:=k8.stp hs
    have l8:=l8.stp hs
    have e8:=e8.stp hs rfl
    have m7:=m7.stp hs
    have b3543:=b3543.stp hs rfl
    have b3544:=b3544.stp hs rfl
    refine Zb (Zd ?_)
    obtain ⟨i9,hx,h⟩:=bsome h
    refine E_joinD (fun e ds w=>∃ (g:Gh) ,Fr gI wI g w∧MkF g w ds∧e 2=up2∧MQ (Value.int .i64) wI.heap.size g w (x2:List (Int × LoomRun)) up2∧e 3=p1∧PT g.m w (x0:LoomLoomMill) p1∧e 7=p7∧OB 2007 g w 86 (i7:List Bool) p7∧e 11=q8∧BX 2011 9033 g w 4 86 (i9:List Bool) q8∧e 21=up1∧RV g.m w (x1:List Int) up1∧e 22=.int .i64 (((x1).length:Int))∧e 23=.int .i64 (x5)) (fun Q' hQ=>?_) (fun rI iI eJ hR=>?_)
    ·replace h := hx
     clear hx
     refine Zf (Za (Ze .plain rfl (D_loadO (α:=Fv) (g:=aE) Tryz.isAgg86 Tryz.sizeOf86 rfl b3547 fun bE cE=>?_)))
     have e4111:bE=jA:=RV_fv.1 cE
     clear cE
     subst bE
     refine EL_p (.int .i64 ((i8).length:Int)) (P_lenM Tryz.underlying86 rfl b3543) rfl ?_
     refine Zn (.int .i64 (0)) rfl rfl ?_
     refine Zb (Zd (Zr ?_))
     refine E_lpD h (fun (s:(List Bool) × Int) e ds w=>∃ (g:Gh) ,Fr gI wI g w∧MkF g w ds∧e 2=up2∧MQ (Value.int .i64) wI.heap.size g w (x2:List (Int × LoomRun)) up2∧e 3=p1∧PT g.m w (x0:LoomLoomMill) p1∧e 7=p7∧OB 2007 g w 86 (i7:List Bool) p7∧e 10=o8∧OB 2010 g w 86 (j6:List Bool) o8∧e 11=q8∧BX 2011 9033 g w 4 86 (s.1:List Bool) q8∧e 21=up1∧RV g.m w (x1:List Int) up1∧e 22=.int .i64 (((x1).length:Int))∧e 23=.int .i64 (x5)∧e 35=.int .i64 (((i8).length:Int))∧e 36=.int .i64 (s.2)) ⟨aE,hfr,hmk,iB,k8,jB,l8,y9,e8,rfl,b3544,rfl,⟨_,b3547,b3543⟩,nA,m7,oA,k9,rfl,rfl⟩ (fun X4112 vD eG=>?_)
     rintro ⟨v8,o0⟩ sI kB gJ ⟨dE,hfr,hmk,lB,o7,mB,u7,bA,v7,l9,n7,a7,⟨vH,c7,d7⟩,qA,e7,rA,sA,uA,n9⟩ h
     refine Zf (Za (EL_in (.bool ((decide (o0 < ((i8).length:Int))))) n9 uA rfl rfl ?_))
     refine Zb (Zd (Zf ?_))
     rcases Zt h with ⟨xA,h⟩ | ⟨xA,h⟩
     ·refine E_ct xA rfl ?_
      refine Zu (Zd ?_)
      obtain ⟨x8,hx,h⟩:=bsome h
      refine E_joinD (fun e ds w=>∃ (g:Gh) ,Fr gI wI g w∧MkF g w ds∧e 2=up2∧MQ (Value.int .i64) wI.heap.size g w (x2:List (Int × LoomRun)) up2∧e 3=p1∧PT g.m w (x0:LoomLoomMill) p1∧e 7=p7∧OB 2007 g w 86 (i7:List Bool) p7∧e 10=o8∧OB 2010 g w 86 (j6:List Bool) o8∧e 11=q8∧BX 2011 9033 g w 4 86 (x8:List Bool) q8∧e 21=up1∧RV g.m w (x1:List Int) up1∧e 22=.int .i64 (((x1).length:Int))∧e 23=.int .i64 (x5)∧e 35=.int .i64 (((i8).length:Int))∧e 36=.int .i64 (o0)) (fun Q' hQ=>?_) (fun tI jI iJ hR=>?_)
      ·replace h := hx
       clear hx
       refine Zr ?_
       refine Zf (Za (Zo n9 rfl ?_))
       refine Ze .plain rfl (D_allocOc (g:=dE) 2012 (0:Int) Tryz.zeroValue3 (fun m w=>⟨_,rep_int,rfl⟩) fun tG jJ uG hs b4394 cb=>?_)
       have hfr:=hfr.stp hs
       have hmk:=hmk.stp hs
       have o7:=o7.stp hs
       have u7:=u7.stp hs
       have v7:=v7.stp hs rfl
       have n7:=n7.stp hs rfl
       have c7:=c7.stp hs rfl
       have d7:=d7.stp hs rfl
       have e7:=e7.stp hs
       clear cb
       refine Ze .plain rfl (D_storeOc (g:=tG) (v:=.int .i64 (o0)) Tryz.sizeOf3 rfl b4394 rfl (Zj.2 rfl) fun eE kJ hs b4395 cb=>?_)
       clear cb
       have hfr:=hfr.stp hs
       have hmk:=hmk.stp hs
       have o7:=o7.stp hs
       have u7:=u7.stp hs
       have v7:=v7.stp hs rfl
       have n7:=n7.stp hs rfl
       have c7:=c7.stp hs rfl
       have d7:=d7.stp hs rfl
       have e7:=e7.stp hs
       refine Zb (Zd (Zf (Za (Ze .plain rfl (D_loadO (g:=eE) Tryz.isAgg3 Tryz.sizeOf3 rfl b4395 fun lJ vG=>?_)))))
       obtain rfl:=Zj.1 vG
       obtain ⟨oB,gG,h⟩:=bsome h
       refine Ze .plain rfl (Zp (g:=eE) (vs:=[.int .i64 (o0)]) en54 (.cons rfl .nil) (wk54  gG) fun mJ uI xG hs hr=>?_)
       have hfr:=hfr.ext hs
       have hmk:=hmk.ext hs
       have o7:=o7.ext hs
       have u7:=u7.ext hs
       have v7:=v7.ext hs
       have n7:=n7.ext hs
       have c7:=c7.ext hs
       have d7:=d7.ext hs
       have e7:=e7.ext hs
       have b4395:=b4395.ext hs
       have gE:=hr
       refine Zb (Zd (Zr ?_))
       have hB0:=hfr.size
       have hmk0:=hmk
       obtain ⟨mA,hφ,h⟩:=bsome h
       refine E_rangeFunc (σ:=((List Bool))) (s0:=(v8)) 10 rfl (fun _=>0) [] (fun (s:(List Bool)) (g:Gh) (w:World)=>Fr gI wI g w∧MkF g w kB∧MQ (Value.int .i64) wI.heap.size g w (x2:List (Int × LoomRun)) up2∧PT g.m w (x0:LoomLoomMill) p1∧OB 2007 g w 86 (i7:List Bool) p7∧OB 2010 g w 86 (j6:List Bool) o8∧BX 2011 9033 g w 4 86 (s:List Bool) q8∧OB 2012 g w 3 (o0:Int) uG∧RV g.m w (x1:List Int) up1∧ItV Tryz.prog (RA1 (α:=Int)) oB xG g.m w) rfl gE hφ (fun _ _ _ _=>rfl) rfl ra1_size rfl (fun _ _ _ _ _ hx hR=>by obtain ⟨hfr,hmk,z2,z3,z4,z5,z6,z7,z8,z9⟩:=hR; exact ⟨hfr.ist hx hB0,hmk.ist hx,z2.ist hx hB0,z3.ist hx,z4.ist hx,z5.ist hx,z6.ist hx,z7.ist hx,z8.ist hx,z9.ist hx⟩) (fun _ _ _ _ _ hx hR=>by obtain ⟨hfr,hmk,z2,z3,z4,z5,z6,z7,z8,z9⟩:=hR; exact ⟨hfr.stp hx,hmk.stp hx,z2.stp hx,z3.stp hx,z4.stp hx rfl,z5.stp hx rfl,z6.stp hx rfl,z7.stp hx rfl,z8.stp hx,z9.stp hx⟩) ⟨hfr,hmk,o7,u7,v7,n7,⟨_,c7,d7⟩,b4395,e7,gE⟩ (fun _ h=>by cases h) ?_ ?_
       ·intro vI kI s x b s2 kA yG vs hsz h hR hrec_0 iC hrd
        obtain ⟨y6,hse⟩:∃ y,y=s:=⟨s,rfl⟩
        subst hse
        obtain ⟨hfr,hmk,i5,l5,u3,d3,⟨q5,j1,i3⟩,u0,j3,o3⟩:=hR
        obtain ⟨i6,hxe⟩:∃ y,y=x:=⟨x,rfl⟩
        subst hxe
        obtain ⟨tE,rfl,jC⟩:=ra1_get hrd
        obtain rfl:tE=.int .i64 (i6):=Zj.1 jC
        have x6:=RFr.refl kA yG
        refine Za (Zg (.int .i64 (i6)) rfl rfl ?_)
        refine Zb (Zd ?_)
        obtain ⟨zG,hbr,hs,hrN⟩:=begin_round hrec_0 iC
        refine ⟨zG,hbr,?_⟩
        have hfr:=hfr.stp hs
        have hmk:=hmk.stp hs
        have x6:=x6.stp hs
        have i5:=i5.stp hs
        have l5:=l5.stp hs
        have u3:=u3.stp hs rfl
        have d3:=d3.stp hs rfl
        have j1:=j1.stp hs rfl
        have i3:=i3.stp hs rfl
        have u0:=u0.stp hs rfl
        have j3:=j3.stp hs
        have o3:=o3.stp hs
        have hrec_0:=hrN
        clear hbr hs hrN
        refine Zr ?_
        refine L_loadO0 (α:=Fv) (x:=.tmp 11) Tryz.isAgg86 Tryz.sizeOf86 j1 fun iE jE yA=>?_
        have e4537:iE=q5.v:=RV_fv.1 jE
        clear jE
        subst iE
        refine L_loadO0 (x:=.tmp 12) Tryz.isAgg3 Tryz.sizeOf3 u0 fun nJ aH zA=>?_
        obtain rfl:=Zj.1 aH
        refine L_loadO0 (α:=Fv) (x:=.tmp 11) Tryz.isAgg86 Tryz.sizeOf86 j1 fun kE lE aB=>?_
        have e4539:kE=q5.v:=RV_fv.1 lE
        clear lE
        subst kE
        refine L_loadO0 (x:=.tmp 12) Tryz.isAgg3 Tryz.sizeOf3 u0 fun oJ bH bB=>?_
        obtain rfl:=Zj.1 bH
        obtain ⟨c8,t9,h⟩:=bsome h
        refine L_loadM (x:=.tmp 46) Tryz.isAgg4 Tryz.sizeOf4 i3 t9 fun pJ cH cB=>?_
        obtain rfl:=RV_bool.1 cH
        rcases Zt h with ⟨t5,h⟩ | ⟨t5,h⟩
        ·obtain ⟨kG, yB, h⟩ := bsome h
         refine E_drawL (g:=kA) (n:=21) [] [0,1,2,3,4,5,6,7,8,9,10,11,12,13,14,15,16,17,18,19,20] rfl mixed (by kernel_rfl) trivial ?_
         refine L_ld (c:=q5.v) rfl rfl .plain (fun _ _ h=>⟨h.ch,fun b hb _=>h.below.block b hb⟩) yA a7 ?_
         refine L_ld (c:=.int .i64 (o0)) rfl rfl .plain (fun _ _ h=>⟨h.ch,fun b hb _=>h.below.block b hb⟩) zA rfl ?_
         refine L_ld (c:=q5.v) rfl rfl .plain (fun _ _ h=>⟨h.ch,fun b hb _=>h.below.block b hb⟩) aB a7 ?_
         refine L_ld (c:=.int .i64 (o0)) rfl rfl .plain (fun _ _ h=>⟨h.ch,fun b hb _=>h.below.block b hb⟩) bB rfl ?_
         refine L_p (ePtr (q5.v) o0 1) rfl rfl (P_indexAddrM (α:=Bool) Tryz.underlying86 Tryz.sizeOf4 rfl i3 rfl t9) ?_
         refine L_ld (c:=.bool (c8)) rfl rfl .plain (fun _ _ h=>⟨h.ch,fun b hb _=>h.below.block b hb⟩) cB rfl ?_
         refine L_p (.bool (c8)) rfl rfl (Zk rfl) ?_
         iterate 5 refine L_s rfl rfl rfl t5 rfl ?_
         refine L_dead (fun _=>rfl) 6 rfl ?_
         refine L_s rfl rfl rfl t5 rfl ?_
         refine L_p (.bool true) rfl rfl (Zl (b:=c8) rfl (pick_t t5 rfl)) ?_
         refine L_p (ePtr (q5.v) o0 1) rfl rfl (P_indexAddrM (α:=Bool) Tryz.underlying86 Tryz.sizeOf4 rfl i3 rfl yB) ?_
         refine L_nl fun dH qJ hs=>?_
         have hfr:=hfr.ext hs
         have hmk:=hmk.ext hs
         have x6:=x6.ext hs
         have hrec_0:=hrec_0.ext hs
         have i5:=i5.ext hs
         have l5:=l5.ext hs
         have u3:=u3.ext hs
         have d3:=d3.ext hs
         have j1:=j1.ext hs
         have i3:=i3.ext hs
         have u0:=u0.ext hs
         have j3:=j3.ext hs
         have o3:=o3.ext hs
         clear hs
         refine Ze .plain rfl (D_storeM (g:=dH) (α:=Bool) (a':=true) Tryz.sizeOf4 rfl i3 yB rfl (RV_bool.2 rfl) fun rJ sJ hs b4582=>?_)
         have hfr:=hfr.stp hs
         have hmk:=hmk.stp hs
         have x6:=x6.stp hs
         have hrec_0:=hrec_0.stp hs rfl
         have i5:=i5.stp hs
         have l5:=l5.stp hs
         have u3:=u3.stp hs rfl
         have d3:=d3.stp hs rfl
         have j1:=j1.stp hs rfl
         have u0:=u0.stp hs rfl
         have j3:=j3.stp hs
         have o3:=o3.stp hs
         refine Zb (blk_n ?_)
         obtain ⟨rfl,rfl⟩:=pairs2 h
         exact ⟨_,x6,⟨hfr,hmk,i5,l5,u3,d3,⟨_,j1,b4582⟩,u0,j3,o3⟩,hrec_0,rfl,rfl⟩
        ·refine L_loadO0 (x := .tmp 10) Tryz.isAgg86 Tryz.sizeOf86 d3 fun lA tB zB => ?_
         obtain ⟨n8,dB,h⟩:=bsome h
         have gH:=PT_idx tB dB
         refine Zs (x:=.tmp 51) Tryz.isAgg4 Tryz.sizeOf4 gH fun tJ iH aC=>?_
         obtain rfl:=RV_bool.1 iH
         rcases Zt h with ⟨j7,h⟩ | ⟨j7,h⟩
         ·refine L_loadO0 (x := .tmp 7) Tryz.isAgg86 Tryz.sizeOf86 u3 fun mE nE hG => ?_
          refine L_loadO0 (x:=.tmp 12) Tryz.isAgg3 Tryz.sizeOf3 u0 fun uJ jH iG=>?_
          obtain rfl:=Zj.1 jH
          obtain ⟨a9,cC,h⟩:=bsome h
          have kH:=PT_idx nE cC
          refine Zs (x:=.tmp 58) Tryz.isAgg4 Tryz.sizeOf4 kH fun vJ lH jG=>?_
          obtain rfl:=RV_bool.1 lH
          obtain ⟨lG,dC,h⟩:=bsome h
          refine E_drawL (g:=kA) (n:=21) [] [0,1,2,3,4,5,6,7,8,9,10,11,12,13,14,15,16,17,18,19,20] rfl mixed (by kernel_rfl) trivial ?_
          refine L_ld (c:=q5.v) rfl rfl .plain (fun _ _ h=>⟨h.ch,fun b hb _=>h.below.block b hb⟩) yA a7 ?_
          refine L_ld (c:=.int .i64 (o0)) rfl rfl .plain (fun _ _ h=>⟨h.ch,fun b hb _=>h.below.block b hb⟩) zA rfl ?_
          refine L_ld (c:=q5.v) rfl rfl .plain (fun _ _ h=>⟨h.ch,fun b hb _=>h.below.block b hb⟩) aB a7 ?_
          refine L_ld (c:=.int .i64 (o0)) rfl rfl .plain (fun _ _ h=>⟨h.ch,fun b hb _=>h.below.block b hb⟩) bB rfl ?_
          refine L_p (ePtr (q5.v) o0 1) rfl rfl (P_indexAddrM (α:=Bool) Tryz.underlying86 Tryz.sizeOf4 rfl i3 rfl t9) ?_
          refine L_ld (c:=.bool (c8)) rfl rfl .plain (fun _ _ h=>⟨h.ch,fun b hb _=>h.below.block b hb⟩) cB rfl ?_
          refine L_p (.bool (c8)) rfl rfl (Zk rfl) ?_
          refine L_ld (c:=lA) rfl rfl (.yes2 rfl rfl t5) (fun _ _ h=>⟨h.ch,fun b hb _=>h.below.block b hb⟩) zB l9 ?_
          refine L_y (.int .i64 (i6)) rfl rfl rfl rfl t5 (Zk rfl) ?_
          refine L_y (ePtr lA i6 1) rfl rfl rfl rfl t5 (Zh (α:=Bool) Tryz.underlying86 Tryz.sizeOf4 rfl tB rfl dB) ?_
          refine L_ld (c:=.bool (n8)) rfl rfl (.yes2 rfl rfl t5) (fun _ _ h=>h.ch) aC rfl ?_
          refine L_y (.bool (n8)) rfl rfl rfl rfl t5 (Zk rfl) ?_
          refine L_ld (c:=mE) rfl rfl (.yes2 rfl rfl j7) (fun _ _ h=>⟨h.ch,fun b hb _=>h.below.block b hb⟩) hG bA ?_
          refine L_ld (c:=.int .i64 (o0)) rfl rfl (.yes2 rfl rfl j7) (fun _ _ h=>⟨h.ch,fun b hb _=>h.below.block b hb⟩) iG rfl ?_
          refine L_y (.int .i64 (i6)) rfl rfl rfl rfl j7 (Zk rfl) ?_
          refine L_y (.int .i64 ((bit64 .andNot o0 i6))) rfl rfl rfl rfl j7 (P_int rfl rfl rfl) ?_
          refine L_y (ePtr mE (bit64 .andNot o0 i6) 1) rfl rfl rfl rfl j7 (Zh (α:=Bool) Tryz.underlying86 Tryz.sizeOf4 rfl nE rfl cC) ?_
          refine L_ld (c:=.bool (a9)) rfl rfl (.yes2 rfl rfl j7) (fun _ _ h=>h.ch) jG rfl ?_
          refine L_y (.bool (a9)) rfl rfl rfl rfl t5 (Zl (b:=n8) rfl (pick_t j7 rfl)) ?_
          refine L_p (.bool (a9)) rfl rfl (Zl (b:=c8) rfl (pick_f t5 rfl)) ?_
          refine L_p (ePtr (q5.v) o0 1) rfl rfl (P_indexAddrM (α:=Bool) Tryz.underlying86 Tryz.sizeOf4 rfl i3 rfl dC) ?_
          refine L_nl fun mH xJ hs=>?_
          have hfr:=hfr.ext hs
          have hmk:=hmk.ext hs
          have x6:=x6.ext hs
          have hrec_0:=hrec_0.ext hs
          have i5:=i5.ext hs
          have l5:=l5.ext hs
          have u3:=u3.ext hs
          have d3:=d3.ext hs
          have j1:=j1.ext hs
          have i3:=i3.ext hs
          have u0:=u0.ext hs
          have j3:=j3.ext hs
          have o3:=o3.ext hs
          clear hs
          refine Ze .plain rfl (D_storeM (g:=mH) (α:=Bool) (a':=a9) Tryz.sizeOf4 rfl i3 dC rfl (RV_bool.2 rfl) fun yJ zJ hs b4631=>?_)
          have hfr:=hfr.stp hs
          have hmk:=hmk.stp hs
          have x6:=x6.stp hs
          have hrec_0:=hrec_0.stp hs rfl
          have i5:=i5.stp hs
          have l5:=l5.stp hs
          have u3:=u3.stp hs rfl
          have d3:=d3.stp hs rfl
          have j1:=j1.stp hs rfl
          have u0:=u0.stp hs rfl
          have j3:=j3.stp hs
          have o3:=o3.stp hs
          refine Zb (blk_n ?_)
          obtain ⟨rfl,rfl⟩:=pairs2 h
          exact ⟨_,x6,⟨hfr,hmk,i5,l5,u3,d3,⟨_,j1,b4631⟩,u0,j3,o3⟩,hrec_0,rfl,rfl⟩
         ·obtain ⟨mG, eC, h⟩ := bsome h
          refine E_drawL (g:=kA) (n:=21) [] [0,1,2,3,4,5,6,7,8,9,10,11,12,13,14,15,16,17,18,19,20] rfl mixed (by kernel_rfl) trivial ?_
          refine L_ld (c:=q5.v) rfl rfl .plain (fun _ _ h=>⟨h.ch,fun b hb _=>h.below.block b hb⟩) yA a7 ?_
          refine L_ld (c:=.int .i64 (o0)) rfl rfl .plain (fun _ _ h=>⟨h.ch,fun b hb _=>h.below.block b hb⟩) zA rfl ?_
          refine L_ld (c:=q5.v) rfl rfl .plain (fun _ _ h=>⟨h.ch,fun b hb _=>h.below.block b hb⟩) aB a7 ?_
          refine L_ld (c:=.int .i64 (o0)) rfl rfl .plain (fun _ _ h=>⟨h.ch,fun b hb _=>h.below.block b hb⟩) bB rfl ?_
          refine L_p (ePtr (q5.v) o0 1) rfl rfl (P_indexAddrM (α:=Bool) Tryz.underlying86 Tryz.sizeOf4 rfl i3 rfl t9) ?_
          refine L_ld (c:=.bool (c8)) rfl rfl .plain (fun _ _ h=>⟨h.ch,fun b hb _=>h.below.block b hb⟩) cB rfl ?_
          refine L_p (.bool (c8)) rfl rfl (Zk rfl) ?_
          refine L_ld (c:=lA) rfl rfl (.yes2 rfl rfl t5) (fun _ _ h=>⟨h.ch,fun b hb _=>h.below.block b hb⟩) zB l9 ?_
          refine L_y (.int .i64 (i6)) rfl rfl rfl rfl t5 (Zk rfl) ?_
          refine L_y (ePtr lA i6 1) rfl rfl rfl rfl t5 (Zh (α:=Bool) Tryz.underlying86 Tryz.sizeOf4 rfl tB rfl dB) ?_
          refine L_ld (c:=.bool (n8)) rfl rfl (.yes2 rfl rfl t5) (fun _ _ h=>h.ch) aC rfl ?_
          refine L_y (.bool (n8)) rfl rfl rfl rfl t5 (Zk rfl) ?_
          iterate 6 refine L_s rfl rfl rfl j7 rfl ?_
          refine L_y (.bool false) rfl rfl rfl rfl t5 (Zl (b:=n8) rfl (pick_f j7 rfl)) ?_
          refine L_p (.bool false) rfl rfl (Zl (b:=c8) rfl (pick_f t5 rfl)) ?_
          refine L_p (ePtr (q5.v) o0 1) rfl rfl (P_indexAddrM (α:=Bool) Tryz.underlying86 Tryz.sizeOf4 rfl i3 rfl eC) ?_
          refine L_nl fun nH aK hs=>?_
          have hfr:=hfr.ext hs
          have hmk:=hmk.ext hs
          have x6:=x6.ext hs
          have hrec_0:=hrec_0.ext hs
          have i5:=i5.ext hs
          have l5:=l5.ext hs
          have u3:=u3.ext hs
          have d3:=d3.ext hs
          have j1:=j1.ext hs
          have i3:=i3.ext hs
          have u0:=u0.ext hs
          have j3:=j3.ext hs
          have o3:=o3.ext hs
          clear hs
          refine Ze .plain rfl (D_storeM (g:=nH) (α:=Bool) (a':=false) Tryz.sizeOf4 rfl i3 eC rfl (RV_bool.2 rfl) fun bK cK hs b4670=>?_)
          have hfr:=hfr.stp hs
          have hmk:=hmk.stp hs
          have x6:=x6.stp hs
          have hrec_0:=hrec_0.stp hs rfl
          have i5:=i5.stp hs
          have l5:=l5.stp hs
          have u3:=u3.stp hs rfl
          have d3:=d3.stp hs rfl
          have j1:=j1.stp hs rfl
          have u0:=u0.stp hs rfl
          have j3:=j3.stp hs
          have o3:=o3.stp hs
          refine Zb (blk_n ?_)
          obtain ⟨rfl,rfl⟩:=pairs2 h
          exact ⟨_,x6,⟨hfr,hmk,i5,l5,u3,d3,⟨_,j1,b4670⟩,u0,j3,o3⟩,hrec_0,rfl,rfl⟩
       ·intro oH dK ds4672 hsz hR hds
        obtain ⟨hfr,hmk,uE,vE,xE,kC,⟨xH,lC,mC⟩,yH,qC,zH⟩:=hR
        obtain ⟨D,hdse,hD,hDb⟩:=hds.1 rfl
        subst hdse
        replace hmk:=MkF.push hmk0 hmk hD hDb
        clear hD hDb hds
        revert hmk
        generalize ({ target:=.collected D,args:=#[] } :: kB:List Deferred)=lI
        intro hmk
        refine ⟨fun _=>?_,fun k c hs _=>absurd hs (Nat.succ_ne_zero k).symm⟩
        refine blk_n (blk_n ?_)
        obtain rfl:=sinj h
        exact hQ _ _ _ ⟨oH,hfr,hmk,lB,uE,mB,vE,bA,xE,l9,kC,a7,⟨_,lC,mC⟩,qA,qC,rA,sA,uA,n9⟩
      ·clear hx
       obtain ⟨pH,hfr,hmk,yE,zE,cF,dF,eF,iF,rC,tC,uC,⟨aI,vC,xC⟩,yC,aD,bD,cD,eD,gD⟩:=hR
       refine Za (EL_in (.int .i64 ((w64 (o0 + (1:Int))))) gD rfl rfl rfl ?_)
       refine Zn (.int .i64 ((w64 (o0 + (1:Int))))) rfl rfl ?_
       exact Zb (Zd (eG (x8,(w64 (o0 + (1:Int)))) _ _ _ ⟨pH,hfr,hmk,yE,zE,cF,dF,eF,iF,rC,tC,uC,⟨_,vC,xC⟩,yC,aD,bD,cD,eD,rfl⟩ h))
     ·refine E_cf xA rfl ?_
      refine E_exit ?_
      refine thn_e ?_
      refine thn_e ?_
      refine blk_hit ?_
      obtain rfl:=sinj h
      exact hQ _ _ _ ⟨dE,hfr,hmk,lB,o7,mB,u7,bA,v7,a7,⟨_,c7,d7⟩,qA,e7,rA,sA⟩
    ·clear hx
     obtain ⟨qH,hfr,hmk,nF,r8,oF,t8,nB,gA,iD,⟨eB,y8,jD⟩,kD,m8,lD,mD⟩:=hR
     refine Za (Ze .plain rfl (D_loadO (α:=Fv) (g:=qH) Tryz.isAgg86 Tryz.sizeOf86 iD y8 fun oE rE=>?_))
     have e4675:oE=eB.v:=RV_fv.1 rE
     clear rE
     subst oE
     obtain ⟨gp4677,hs,rp4677⟩:=OM.pub jD
     have hfr:=hfr.stp hs
     have hmk:=hmk.stp hs
     have r8:=r8.stp hs
     have t8:=t8.stp hs
     have gA:=gA.stp hs rfl
     have y8:=y8.stp hs rfl
     have m8:=m8.stp hs
     have ub4677:=OB.ofRV y8 rp4677
     refine Ze .plain rfl (D_storeOc (g:=gp4677) (v:=eB.v) Tryz.sizeOf86 nB gA rfl rp4677 fun sH eK hs b4676 cb=>?_)
     clear cb
     have hfr:=hfr.stp hs
     have hmk:=hmk.stp hs
     have r8:=r8.stp hs
     have t8:=t8.stp hs
     have m8:=m8.stp hs
     refine Zb (blk_n ?_)
     obtain rfl:=sinj h
     exact hQ _ _ _ ⟨sH,hfr,hmk,nF,r8,oF,t8,nB,b4676,kD,m8,lD,mD⟩
   ·clear hx
    obtain ⟨tH,hfr,hmk,pF,qF,rF,sF,tF,uF,nD,oD,sD,tD⟩:=hR
    refine Za (EL_in (.int .i64 ((w64 (x5 + (1:Int))))) tD rfl rfl rfl ?_)
    refine Zn (.int .i64 ((w64 (x5 + (1:Int))))) rfl rfl ?_
    exact Zb (Zd (zF (d9,(w64 (x5 + (1:Int)))) _ _ _ ⟨tH,hfr,hmk,pF,qF,rF,sF,tF,uF,nD,oD,sD,rfl⟩ h))
  ·refine E_cf pA rfl ?_
   refine E_exit ?_
   refine thn_e ?_
   refine thn_e ?_
   refine blk_hit ?_
   obtain rfl:=sinj h
   exact hQ _ _ _ ⟨iA,hfr,hmk,y9,e8⟩
 ·clear hx
  obtain ⟨uH,hfr,hmk,vF,xF⟩:=hR
  refine Zf (Za (Ze .plain rfl (D_loadO (g:=uH) Tryz.isAgg86 Tryz.sizeOf86 vF xF fun sE vB=>?_)))
  refine Zg sE rfl rfl ?_
  refine Zb (Zd (E_ret (endM (.inr rfl) hmk fun lK mK hs=>?_)))
  have hfr:=hfr.stp hs
  have vB:=vB.stp hs
  obtain rfl:=sinj h
  exact end1 rfl rfl (show _=sE from rfl) ⟨_,hfr,vB⟩
def f28 (x0:LoomLoomMill) (x1:Int) (x2:List (Int × LoomRun)):Option (Bool × (List (Int × LoomRun))):=
 (idx ((x0).orders) x1).bind fun y4=>
 jn (σ:=(List (Int × LoomRun))) (fun m8=>
  some (false,m8)
  ) fun l9=>
 lp (σ:=(List (Int × LoomRun)) × Int) (fun n9 (u3,o0)=>
  jn (σ:=Unit) (fun _=>
   jn (σ:=(List (Int × LoomRun))) (fun x6=>
    n9 (x6,(w64 (o0 + (1:Int))))
    ) fun o9=>
   (f26 x0).bind fun o3=>
   lp (σ:=(List (Int × LoomRun)) × Int) (fun t9 (d3,u0)=>
    bif (decide (u0 < ((o3).length : Int))) then
     jn (σ:=(List (Int × LoomRun))) (fun y6=>
      t9 (y6,(w64 (u0 + (1:Int))))
      ) fun u9=>
     (idx o3 u0).bind fun i3=>
     (f26 x0).bind fun i6=>
     (f25 x0 i6 ((mset d3 x1 ((⟨x1,i3,o0⟩:LoomRun))))).bind fun z3=>
     (f27 x0).bind fun a7=>
     (idx z3 a7).bind fun u7=>
     bif u7 then
      some (true,(mset d3 x1 ((⟨x1,i3,o0⟩:LoomRun))))
     else
      u9 ((mset d3 x1 ((⟨x1,i3,o0⟩:LoomRun))))
    else
     o9 (d3)
    ) big (u3,(0:Int))
   ) fun y9=>
  bif (decide ((w64 (o0 + (y4).Woven)) ≤ (y4).Late)) then
   y9 ()
  else
   l9 (u3)
  ) big (x2,(y4).Early)
theorem en28:Enters Tryz.prog 28:=enters_of Tryz.func28 (by kernel_rfl) rfl
theorem wk28 {iI:Nat} {gI:Gh} {wI:World} {x0:LoomLoomMill} {x1:Int} {x2:List (Int × LoomRun)} {up0:Value} (rp0:RV gI.m wI x0 up0) {up2:Value} (mp2:MP (Value.int .i64) iI gI wI x2 up2) {r:Bool × (List (Int × LoomRun))} (h:f28 x0 x1 x2=some r):FnM Tryz.prog 28 #[up0,.int .i64 (x1),up2] iI gI wI (fun g w v=>v=.bool (r.1)∧MP (Value.int .i64) iI g w r.2 up2):=by
 unfold f28 at h
 refine fnM_of_E Tryz.func28 rfl (Nat.le_of_ble_eq_true rfl) fun g0 hm hfr=>?_
 have y8:=mp2
 replace mp2:=mp2.enter
 rw [← hm] at mp2
 replace hm:g0.m=gI.m:=by rw [hm]
 have rp0:RV g0.m wI x0 up0:=hm ▸ rp0
 show E _ 50 none _ _ _ _ _
 refine Zf (Za (Ze .plain rfl (D_box (g:=g0) rfl rp0 fun g1 w1 p1 hs q1=>?_)))
 have hfr:=hfr.ext hs
 have mp2:=mp2.ext hs
 refine Zg (.bool false) rfl rfl ?_
 refine Zb (Zd (Zf (Za (EL_p (fPtr p1 2) (Zc at_81_1 rfl (PT.ptr q1)) rfl ?_))))
 have q2:=Zm (part_LoomLoomMill_1).1 q1
 refine Ze .plain rfl (D_load (g:=g1) Tryz.isAgg29 Tryz.sizeOf29 rfl q2 fun v3 r3=>?_)
 refine Zn (.int .i64 (x1)) rfl rfl ?_
 obtain ⟨y4,qC,h⟩:=bsome h
 refine EL_p (ePtr v3 x1 5) (Zh (α:=LoomOrder) Tryz.underlying29 Tryz.sizeOf67 rfl r3 rfl qC) rfl ?_
 have q5:=PT_idx r3 qC
 refine Ze .plain rfl (D_load (g:=g1) Tryz.isAgg67 Tryz.sizeOf67 rfl q5 fun v6 r6=>?_)
 refine Ze .plain rfl (D_allocOc (g:=g1) 2007 (⟨0,0,0,0,0⟩:LoomOrder) Tryz.zeroValue67 (fun m w=>⟨_,(rep_two rep_int (rep_two rep_int (rep_two rep_int (rep_two rep_int rep_int)))),rfl⟩) fun g7 w7 p7 hs b7 cb=>?_)
 have hfr:=hfr.stp hs
 have mp2:=mp2.stp hs rfl
 have q1:=q1.stp hs
 have r6:=r6.stp hs
 clear cb
 refine Ze .plain rfl (D_storeOc (g:=g7) (v:=v6) Tryz.sizeOf67 rfl b7 rfl r6 fun g8 w8 hs b8 cb=>?_)
 clear cb
 have hfr:=hfr.stp hs
 have mp2:=mp2.stp hs rfl
 have q1:=q1.stp hs
 refine Zb (Zd (Zq h (fun (s:(List (Int × LoomRun))) e w=>∃ (g:Gh) ,FrM iI gI wI g w∧e 2=up2∧MP (Value.int .i64) 1 g w (s:List (Int × LoomRun)) up2) (fun X228 l9 tB h=>?_) ?_))
 ·refine Zf (Za (EL_p (fPtr p7 3) (Zc at_67_3 rfl (OB.ptr b8)) rfl ?_))
  refine Ze .plain rfl (D_loadF (g:=g8) part_LoomOrder_3.1 Tryz.isAgg3 Tryz.sizeOf3 rfl b8 fun aE rC=>?_)
  obtain rfl:=Zj.1 rC
  refine Zg (.int .i64 ((y4).Early)) rfl rfl ?_
  refine Zb (Zd (Zr ?_))
  refine E_lp h (fun (s:(List (Int × LoomRun)) × Int) e w=>∃ (g:Gh) ,FrM iI gI wI g w∧e 1=.int .i64 (x1)∧e 2=up2∧MP (Value.int .i64) 1 g w (s.1:List (Int × LoomRun)) up2∧e 3=p1∧PT g.m w (x0:LoomLoomMill) p1∧e 7=p7∧OB 2007 g w 67 (y4:LoomOrder) p7∧e 8=.int .i64 (s.2)) ⟨g8,hfr,rfl,rfl,mp2,rfl,q1,rfl,b8,rfl⟩ (fun X231 n9 vB=>?_)
  rintro ⟨u3,o0⟩ sD bE ⟨v7,hfr,z9,n8,o8,bA,gA,c7,z4,q8⟩ h
  refine Zq h (fun (s:Unit) e w=>∃ (g:Gh) ,FrM iI gI wI g w∧e 1=.int .i64 (x1)∧e 2=up2∧MP (Value.int .i64) 1 g w (u3:List (Int × LoomRun)) up2∧e 3=p1∧PT g.m w (x0:LoomLoomMill) p1∧e 7=p7∧OB 2007 g w 67 (y4:LoomOrder) p7∧e 8=.int .i64 (o0)) (fun X238 y9 xB h=>?_) ?_
  ·refine Zf (Za (Zo q8 rfl ?_))
   refine EL_p (fPtr p7 2) (Zc at_67_2 c7 (OB.ptr z4)) rfl ?_
   refine Ze .plain rfl (D_loadF (g:=v7) part_LoomOrder_2.1 Tryz.isAgg3 Tryz.sizeOf3 rfl z4 fun cE tC=>?_)
   obtain rfl:=Zj.1 tC
   refine EL_in (.int .i64 ((w64 (o0 + (y4).Woven)))) rfl rfl rfl rfl ?_
   refine EL_p (fPtr p7 4) (Zc at_67_4 c7 (OB.ptr z4)) rfl ?_
   refine Ze .plain rfl (D_loadF (g:=v7) part_LoomOrder_4.1 Tryz.isAgg3 Tryz.sizeOf3 rfl z4 fun dE uC=>?_)
   obtain rfl:=Zj.1 uC
   refine EL_p (.bool ((decide ((w64 (o0 + (y4).Woven)) ≤ (y4).Late)))) (P_int rfl rfl rfl) rfl ?_
   refine Zb (Zd ?_)
   rcases Zt h with ⟨c8,h⟩ | ⟨c8,h⟩
   ·refine E_ct c8 rfl ?_
    exact Zu (Zd (xB () _ _ ⟨v7,hfr,z9,n8,o8,bA,gA,c7,z4,q8⟩ h))
   ·refine E_cf c8 rfl ?_
    refine E_exit ?_
    refine thn_e ?_
    refine thn_e ?_
    refine blk_hit ?_
    exact Zd (tB (u3) _ _ ⟨v7,hfr,n8,o8⟩ h)
  ·rintro _ tD eE ⟨iA, hfr, jA, kA, d7, r8, l5, lA, e7, mA⟩ h
   refine Zq h (fun (s:(List (Int × LoomRun))) e w=>∃ (g:Gh) ,FrM iI gI wI g w∧e 1=.int .i64 (x1)∧e 2=up2∧MP (Value.int .i64) 1 g w (s:List (Int × LoomRun)) up2∧e 3=p1∧PT g.m w (x0:LoomLoomMill) p1∧e 7=p7∧OB 2007 g w 67 (y4:LoomOrder) p7∧e 8=.int .i64 (o0)) (fun X345 o9 yB h=>?_) ?_
   ·refine Zr ?_
    refine Zf (Za (Ze .plain rfl (D_load (g:=iA) Tryz.isAgg81 Tryz.sizeOf81 r8 l5 fun vC xC=>?_)))
    obtain ⟨o3,zB,h⟩:=bsome h
    refine Ze .plain rfl (Zp (g:=iA) (vs:=[vC]) en26 (.cons rfl .nil) (wk26 xC zB) fun yC uD i7 hs hr=>?_)
    have hfr:=hfr.ext hs
    have d7:=d7.ext hs
    have l5:=l5.ext hs
    have e7:=e7.ext hs
    have nA:=hr
    refine EL_p (.int .i64 ((o3).length:Int)) (P_len Tryz.underlying26 rfl nA) rfl ?_
    refine Zn (.int .i64 (0)) rfl rfl ?_
    refine Zb (Zd (Zr ?_))
    refine E_lp h (fun (s:(List (Int × LoomRun)) × Int) e w=>∃ (g:Gh) ,FrM iI gI wI g w∧e 1=.int .i64 (x1)∧e 2=up2∧MP (Value.int .i64) 1 g w (s.1:List (Int × LoomRun)) up2∧e 3=p1∧PT g.m w (x0:LoomLoomMill) p1∧e 7=p7∧OB 2007 g w 67 (y4:LoomOrder) p7∧e 8=.int .i64 (o0)∧e 28=i7∧RV g.m w (o3:List Int) i7∧e 29=.int .i64 (((o3).length:Int))∧e 30=.int .i64 (s.2)) ⟨yC,hfr,jA,kA,d7,r8,l5,lA,e7,mA,rfl,nA,rfl,rfl⟩ (fun X349 t9 aC=>?_)
    rintro ⟨d3,u0⟩ vD aD ⟨e8,hfr,t5,x5,t8,i5,j1,v8,j3,j7,n7,z2,o7,j6⟩ h
    refine Zf (Za (EL_in (.bool ((decide (u0 < ((o3).length:Int))))) j6 o7 rfl rfl ?_))
    refine Zb (Zd (Zf ?_))
    rcases Zt h with ⟨i8,h⟩ | ⟨i8,h⟩
    ·refine E_ct i8 rfl ?_
     refine Zu (Zd (Zq h (fun (s:(List (Int × LoomRun))) e w=>∃ (g:Gh) ,FrM iI gI wI g w∧e 1=.int .i64 (x1)∧e 2=up2∧MP (Value.int .i64) 1 g w (s:List (Int × LoomRun)) up2∧e 3=p1∧PT g.m w (x0:LoomLoomMill) p1∧e 7=p7∧OB 2007 g w 67 (y4:LoomOrder) p7∧e 8=.int .i64 (o0)∧e 28=i7∧RV g.m w (o3:List Int) i7∧e 29=.int .i64 (((o3).length:Int))∧e 30=.int .i64 (u0)) (fun X398 u9 cC h=>?_) ?_))
     ·refine Zr ?_
      refine Zf (Za ?_)
      obtain ⟨i3,a9,h⟩:=bsome h
      refine EL_p (ePtr i7 u0 1) (Zh (α:=Int) Tryz.underlying26 Tryz.sizeOf3 n7 z2 j6 a9) rfl ?_
      have bD:=PT_idx z2 a9
      refine Ze .plain rfl (D_load (g:=e8) Tryz.isAgg3 Tryz.sizeOf3 rfl bD fun gE cD=>?_)
      obtain rfl:=Zj.1 cD
      refine Zg (.int .i64 (i3)) rfl rfl ?_
      refine Zb (Zd (Zf (Za (Zo x5 rfl ?_))))
      refine Zo t5 rfl ?_
      refine Zo t5 rfl ?_
      refine Zn (.int .i64 (i3)) rfl rfl ?_
      refine Zo j7 rfl ?_
      have oA:RV e8.m aD (⟨x1,i3,o0⟩:LoomRun) (.agg (setCh [[.int .i64 0],[.int .i64 0],[.int .i64 0]] [(0,.int .i64 (x1)),(1,.int .i64 (i3)),(2,.int .i64 (o0))]).flatten.toArray):=RV_build rfl (rep_pair (rfl) (rep_pair (rfl) (rep_last (rfl))))
      generalize dC:(Value.agg (setCh [[.int .i64 0],[.int .i64 0],[.int .i64 0]] [(0,.int .i64 (x1)),(1,.int .i64 (i3)),(2,.int .i64 (o0))]).flatten.toArray)=eD at oA
      refine EL_p eD (dC ▸ P_build (vs:=[(0,.int .i64 (x1)),(1,.int .i64 (i3)),(2,.int .i64 (o0))]) [[.int .i64 0],[.int .i64 0],[.int .i64 0]] lay_65 rfl rfl (.cons rfl (.cons rfl (.cons rfl .nil))) ⟨⟨_,rfl,rfl⟩,⟨⟨_,rfl,rfl⟩,⟨⟨_,rfl,rfl⟩,trivial⟩⟩⟩) rfl ?_
      refine Ze .plain rfl (D_mapUpdate (g:=e8) Tryz.underlying85 key_3 rfl t8 rfl rfl oA fun gD iE hs m403=>?_)
      have hfr:=hfr.stp hs
      have j1:=j1.stp hs
      have j3:=j3.stp hs rfl
      have z2:=z2.stp hs
      refine Zb (Zd (Zf (Zs (x:=.tmp 3) Tryz.isAgg81 Tryz.sizeOf81 j1 fun pA iD eC=>?_)))
      refine Zs (x:=.tmp 3) Tryz.isAgg81 Tryz.sizeOf81 j1 fun qA jD iC=>?_
      obtain ⟨i6,jC,h⟩:=bsome h
      obtain ⟨z3,kC,h⟩:=bsome h
      refine Zs (x:=.tmp 3) Tryz.isAgg81 Tryz.sizeOf81 j1 fun rA kD lC=>?_
      obtain ⟨a7,mC,h⟩:=bsome h
      obtain ⟨u7,k8,h⟩:=bsome h
      refine E_drawL (g:=gD) (n:=9) [(2,(fun v g w=>RV g.m w i6 v)),(4,(fun v g w=>RV g.m w z3 v)),(6,(fun v g w=>v=.int .i64 (a7))),(8,(fun v _ _=>v=.bool (u7)))] [0,1,2,3,4,5,6,7,8] rfl mixed (by kernel_rfl) (⟨fun _=>up_rv,fun _=>up_rv,fun _=>up_eq _,fun _=>up_eq _,trivial⟩) ?_
      refine L_ld (c:=pA) rfl rfl .plain (fun _ _ h=>h.ch) eC i5 ?_
      refine L_ld (c:=qA) rfl rfl .plain (fun _ _ h=>h.ch) iC i5 ?_
      refine L_do (φ:=fun v g w=>RV g.m w i6 v) rfl rfl .plain (fun g w hd=>Zp (g:=g) (vs:=[qA]) en26 (.cons rfl .nil) (wk26 (jD.ext hd.1) jC) fun g' w' v hs hr=>⟨g',hs,hr⟩) (fun x8 hv=>?_)
      obtain ⟨_,_,_,rq406⟩:=hv
      refine L_p up2 rfl rfl (Zk x5) ?_
      refine L_do (φ:=fun v g w=>RV g.m w z3 v) rfl rfl .plain (fun g w hd=>Zp (g:=g) (vs:=[pA,x8,up2]) en25 (.cons rfl (.cons rfl (.cons rfl .nil))) (wk25 (iD.ext hd.1) (word (A:=fun g w=>RV g.m w i6 x8) 2 rfl rfl (deps_of hd)) (m403.ext hd.1).r kC) fun g' w' v hs hr=>⟨g',hs,hr⟩) (fun m7 hv=>?_)
      obtain ⟨_,_,_,rq408⟩:=hv
      refine L_ld (c:=rA) rfl rfl .plain (fun _ _ h=>h.ch) lC i5 ?_
      refine L_do (φ:=fun v g w=>v=.int .i64 (a7)) rfl rfl .plain (fun g w hd=>Zp (g:=g) (vs:=[rA]) en27 (.cons rfl .nil) (wk27 (kD.ext hd.1) mC) fun g' w' v hs hr=>⟨g',hs,hr⟩) (fun jE hv=>?_)
      obtain ⟨_,_,_,rfl⟩:=hv
      refine L_pur (c:=ePtr m7 a7 1) rfl rfl .plain (fun _ _ hd=>Zh (α:=Bool) Tryz.underlying86 Tryz.sizeOf4 rfl (word (A:=fun g w=>RV g.m w z3 m7) 4 rfl rfl (deps_of hd)) rfl k8) ?_
      refine L_do (φ:=(fun v _ _=>v=.bool (u7))) rfl rfl .plain (fun g w hd=>D_load (g:=g) Tryz.isAgg4 Tryz.sizeOf4 rfl (PT_idx (word (A:=fun g w=>RV g.m w z3 m7) 4 rfl rfl (hop 7 rfl rfl (deps_of hd))) k8) fun v r=>⟨g,Ext.refl g w,RV_bool.1 r⟩) (fun kE hv=>?_)
      obtain ⟨_,_,_,rfl⟩:=hv
      refine L_nil fun lD lE hall=>?_
      have hs:=hall.1
      have hfr:=hfr.ext hs
      have m403:=m403.ext hs
      have j1:=j1.ext hs
      have j3:=j3.ext hs
      have z2:=z2.ext hs
      have mE:=(word_all (A:=fun g w=>RV g.m w i6 x8) 2 rfl hall)
      have nE:=(word_all (A:=fun g w=>RV g.m w z3 m7) 4 rfl hall)
      have oE:=(PT_idx (word_all (A:=fun g w=>RV g.m w z3 m7) 4 rfl hall) k8)
      clear hs hall
      refine Zb (Zd ?_)
      rcases Zt h with ⟨l8,h⟩ | ⟨l8,h⟩
      ·refine E_ct l8 rfl ?_
       refine Zf (Za (Zg (.bool true) rfl rfl ?_))
       refine Zb (Zd (E_ret (blk_r ?_)))
       refine thn_r ?_
       refine thn_r ?_
       refine blk_r ?_
       refine blk_r ?_
       refine thn_r ?_
       refine thn_r ?_
       refine blk_r ?_
       refine thn_r ?_
       obtain rfl:=sinj h
       exact end1 rfl rfl (show _=.bool true from rfl) ⟨_,hfr,rfl,y8.back m403⟩
      ·refine E_cf l8 rfl ?_
       exact Zu (blk_n (Zd (cC ((mset d3 x1 ((⟨x1,i3,o0⟩:LoomRun)))) _ _ ⟨lD,hfr,t5,x5,m403,i5,j1,v8,j3,j7,n7,z2,o7,j6⟩ h)))
     ·rintro y6 xD rE ⟨mD, hfr, sA, uA, xA, yA, zA, aB, bB, cB, d9, e9, i9, k9⟩ h
      refine Za (EL_in (.int .i64 ((w64 (u0 + (1:Int))))) k9 rfl rfl rfl ?_)
      refine Zn (.int .i64 ((w64 (u0 + (1:Int))))) rfl rfl ?_
      exact Zb (Zd (aC (y6,(w64 (u0 + (1:Int)))) _ _ ⟨mD,hfr,sA,uA,xA,yA,zA,aB,bB,cB,d9,e9,i9,rfl⟩ h))
    ·refine E_cf i8 rfl ?_
     refine E_exit ?_
     refine thn_e ?_
     refine thn_e ?_
     refine blk_hit ?_
     exact blk_n (Zd (yB (d3) _ _ ⟨e8,hfr,t5,x5,t8,i5,j1,v8,j3,j7⟩ h))
   ·rintro x6 yD sE ⟨nD, hfr, dB, eB, iB, jB, kB, lB, mB, nB⟩ h
    refine Za (Zo nB rfl ?_)
    refine EL_in (.int .i64 ((w64 (o0 + (1:Int))))) rfl rfl rfl rfl ?_
    refine Zg (.int .i64 ((w64 (o0 + (1:Int))))) rfl rfl ?_
    exact Zb (Zd (vB (x6,(w64 (o0 + (1:Int)))) _ _ ⟨nD,hfr,dB,eB,iB,jB,kB,lB,mB,rfl⟩ h))
 ·rintro m8 zD tE ⟨uE, hfr, oD, oB⟩ h
  refine Zf (Za (Zg (.bool false) rfl rfl ?_))
  refine Zb (Zd (E_ret ?_))
  obtain rfl:=sinj h
  exact end1 rfl rfl (show _=.bool false from rfl) ⟨_,hfr,rfl,y8.back oB⟩
def f36 (x0:List LoomRun) (x1:Int):Option ((List Int)):=
 Option.bind (α:=(List Int)) (
  lp (σ:=(List Int) × Int) (fun i8 (i3,o0)=>
   bif (decide (o0 < ((x0).length : Int))) then
    Option.bind (α:=(List Int)) (
     (idx x0 o0).bind fun x6=>
     bif ((x6).Loom == x1) then
      (apnd 8 i3 (([o0]:List Int))).bind fun y55=>
      some (y55)
     else
      some (i3)
     ) fun j3=>
    i8 (j3,(w64 (o0 + (1:Int))))
   else
    some (i3)
   ) big (([]:List Int),(0:Int))
  ) fun o3=>
 (f60 o3 ((fun a0 a1=>f61 a0 a1 x0))).bind fun k8=>
 some (k8)
theorem en36:Enters Tryz.prog 36:=enters_of Tryz.func36 (by kernel_rfl) rfl
theorem wk36 {gI:Gh} {wI:World} {x0:List LoomRun} {x1:Int} {up0:Value} (rp0:RV gI.m wI x0 up0) {r:(List Int)} (h:f36 x0 x1=some r):Fn Tryz.prog 36 #[up0,.int .i64 (x1)] gI wI (fun m w v=>RV m w (r) v):=by
 unfold f36 at h
 refine fn_of_E Tryz.func36 rfl (Nat.le_of_ble_eq_true rfl) fun g0 hm hfr=>?_
 have rp0:RV g0.m wI x0 up0:=hm ▸ rp0
 show E _ 27 none _ _ _ _ _
 refine Zf (Za (Ze .plain rfl (D_box (g:=g0) rfl rp0 fun g1 w1 p1 hs q1=>?_)))
 have hfr:=hfr.ext hs
 refine Zg (.slice none 0 0) rfl rfl ?_
 have b2:OA 4004 g1 w1 3 ([]:List Int) (.slice none 0 0):=OA.nil
 refine Zb (Zd ?_)
 obtain ⟨o3,hx,h⟩:=bsome h
 refine E_join (fun e w=>∃ (g:Gh) (v4:Value),Fr gI wI g w∧e 2=p1∧PT g.m w (x0:List LoomRun) p1∧e 4=v4∧OA 4004 g w 3 (o3:List Int) v4) (fun Q' hQ=>?_) (fun l9 u9 hR=>?_)
 ·replace h := hx
  clear hx
  refine Zf (Za (Ze .plain rfl (D_load (g:=g1) Tryz.isAgg48 Tryz.sizeOf48 rfl q1 fun t5 l8=>?_)))
  refine EL_p (.int .i64 ((x0).length:Int)) (P_len Tryz.underlying48 rfl l8) rfl ?_
  refine Zn (.int .i64 (0)) rfl rfl ?_
  refine Zb (Zd (Zr ?_))
  refine E_lp h (fun (s:(List Int) × Int) e w=>∃ (g:Gh) (v4:Value),Fr gI wI g w∧e 1=.int .i64 (x1)∧e 2=p1∧PT g.m w (x0:List LoomRun) p1∧e 4=v4∧OA 4004 g w 3 (s.1:List Int) v4∧e 7=t5∧RV g.m w (x0:List LoomRun) t5∧e 8=.int .i64 (((x0).length:Int))∧e 9=.int .i64 (s.2)) ⟨g1,(.slice none 0 0),hfr,rfl,rfl,q1,rfl,b2,rfl,l8,rfl,rfl⟩ (fun X31 i8 n8=>?_)
  rintro ⟨i3,o0⟩ n9 y9 ⟨y6,j6,hfr,u3,z3,j1,z4,z2,i5,u0,l5,d3⟩ h
  refine Zf (Za (EL_in (.bool ((decide (o0 < ((x0).length:Int))))) d3 l5 rfl rfl ?_))
  refine Zb (Zd (Zf ?_))
  rcases Zt h with ⟨x5,h⟩ | ⟨x5,h⟩
  ·refine E_ct x5 rfl ?_
   refine Zu (Zd ?_)
   obtain ⟨j3,hx,h⟩:=bsome h
   refine E_join (fun e w=>∃ (g:Gh) (v4:Value),Fr gI wI g w∧e 1=.int .i64 (x1)∧e 2=p1∧PT g.m w (x0:List LoomRun) p1∧e 4=v4∧OA 4004 g w 3 (j3:List Int) v4∧e 7=t5∧RV g.m w (x0:List LoomRun) t5∧e 8=.int .i64 (((x0).length:Int))∧e 9=.int .i64 (o0)) (fun Q' hQ=>?_) (fun o9 z9 hR=>?_)
   ·replace h := hx
    clear hx
    refine Zr ?_
    refine Zf (Za (Zo d3 rfl ?_))
    obtain ⟨x6,a7,h⟩:=bsome h
    refine EL_p (ePtr t5 o0 3) (Zh (α:=LoomRun) Tryz.underlying48 Tryz.sizeOf65 i5 u0 d3 a7) rfl ?_
    have r8:=PT_idx u0 a7
    refine Ze .plain rfl (D_load (g:=y6) Tryz.isAgg65 Tryz.sizeOf65 rfl r8 fun t8 b7=>?_)
    refine Ze .plain rfl (D_allocOc (g:=y6) 2006 (⟨0,0,0⟩:LoomRun) Tryz.zeroValue65 (fun m w=>⟨_,(rep_two rep_int (rep_two rep_int rep_int)),rfl⟩) fun v8 bA x8 hs b48 cb=>?_)
    have hfr:=hfr.stp hs
    have j1:=j1.stp hs
    have z2:=z2.stp hs rfl
    have u0:=u0.stp hs
    have b7:=b7.stp hs
    clear cb
    refine Zg (.int .i64 (o0)) rfl rfl ?_
    refine Ze .plain rfl (D_storeOc (g:=v8) (v:=t8) Tryz.sizeOf65 rfl b48 rfl b7 fun c7 gA hs b49 cb=>?_)
    clear cb
    have hfr:=hfr.stp hs
    have j1:=j1.stp hs
    have z2:=z2.stp hs rfl
    have u0:=u0.stp hs
    refine Zb (Zd (Zf (Za (EL_p (fPtr x8 1) (Zc at_65_1 rfl (OB.ptr b49)) rfl ?_))))
    refine Ze .plain rfl (D_loadF (g:=c7) part_LoomRun_1.1 Tryz.isAgg3 Tryz.sizeOf3 rfl b49 fun iA y8=>?_)
    obtain rfl:=Zj.1 y8
    refine Zo u3 rfl ?_
    refine EL_in (.bool (((x6).Loom == x1))) rfl rfl rfl rfl ?_
    refine Zb (Zd ?_)
    rcases Zt h with ⟨i6,h⟩ | ⟨i6,h⟩
    ·refine E_ct i6 rfl ?_
     refine Za (Zo z4 rfl ?_)
     refine Zn (.int .i64 (o0)) rfl rfl ?_
     refine Ze .plain rfl (D_buildSlice (g:=c7) 3020 (xs:=([o0]:List Int)) (vs:=[.int .i64 (o0)]) Tryz.underlying26 Tryz.sizeOf3 Tryz.zeroValue3 rfl rfl (.cons rfl .nil) (RVs.cons (Zj.2 rfl) RVs.nil) rfl rfl fun a9 jA kA hs o53 d9 hxt hfl=>?_)
     have hfr:=hfr.stp hs
     have j1:=j1.stp hs
     have z2:=z2.stp hs rfl
     have u0:=u0.stp hs
     obtain ⟨y55,o8,h⟩:=bsome h
     refine Ze .plain rfl (D_appendA (g:=a9) plain_int (i:=4004) Tryz.underlying26 info_3 rfl rfl z2 rfl d9 o8 fun e9 lA m8 hs b54=>?_)
     have hfr:=hfr.stp hs
     have j1:=j1.stp hs
     have u0:=u0.stp hs
     refine Zg m8 rfl rfl ?_
     refine Zb (blk_n ?_)
     obtain rfl:=sinj h
     exact hQ _ _ ⟨e9,(m8),hfr,u3,z3,j1,rfl,b54,i5,u0,l5,d3⟩
    ·refine E_cf i6 rfl ?_
     refine Zu (blk_n ?_)
     obtain rfl:=sinj h
     exact hQ _ _ ⟨c7,(j6),hfr,u3,z3,j1,z4,z2,i5,u0,l5,d3⟩
   ·clear hx
    obtain ⟨i9,d7,hfr,e7,g7,i7,j7,m7,n7,o7,u7,v7⟩:=hR
    refine Za (EL_in (.int .i64 ((w64 (o0 + (1:Int))))) v7 rfl rfl rfl ?_)
    refine Zn (.int .i64 ((w64 (o0 + (1:Int))))) rfl rfl ?_
    exact Zb (Zd (n8 (j3,(w64 (o0 + (1:Int)))) _ _ ⟨i9,(d7),hfr,e7,g7,i7,j7,m7,n7,o7,u7,rfl⟩ h))
  ·refine E_cf x5 rfl ?_
   refine E_exit ?_
   refine thn_e ?_
   refine thn_e ?_
   refine blk_hit ?_
   obtain rfl:=sinj h
   exact hQ _ _ ⟨y6,(j6),hfr,z3,j1,z4,z2⟩
 ·clear hx
  obtain ⟨k9,q5,hfr,c8,e8,v6,g8⟩:=hR
  refine Zf (Za (Zo v6 rfl ?_))
  refine EL_p ((.func (.func 61) #[] #[p1])) (P_makeFunc (capf_0_1 (show ev _ _=p1 from c8))) rfl ?_
  obtain ⟨k8,q8,h⟩:=bsome h
  refine Ze .plain rfl (D_callM (g:=k9) (i:=4004) (vs:=[q5,(.func (.func 61) #[] #[p1])]) en60 (.cons rfl (.cons rfl .nil)) (wk60 (g8.toM) ⟨61,#[],#[p1],rfl,en61,fun g' w' hch a0 a1 b0 b1 r hu0 hu1 hr=>by obtain rfl:=Zj.1 hu0; obtain rfl:=Zj.1 hu1; exact Fn.mono (wk61  (e8.ch hch) hr) fun _ _ _ h=>Zj.2 h⟩ q8) fun mA t9 nA hs hr=>?_)
  obtain ⟨hrv,b58⟩:=hr
  have hfr:=hfr.stp hs
  subst hrv
  refine Zb (Zd (Zf (Za (Zo v6 rfl ?_))))
  refine Zg q5 rfl rfl ?_
  refine Zb (Zd (E_ret ?_))
  obtain ⟨gp60,hs,rp60⟩:=OM.pub b58
  have hfr:=hfr.stp hs
  obtain rfl:=sinj h
  exact end1 rfl rfl (show _=q5 from rfl) ⟨_,hfr,rp60⟩
def f40 (x0:List Int):Option (Bool):=
 (f51 ((0:Int)) ((300:Int)) x0).bind fun y2=>
 some (y2)
theorem en40:Enters Tryz.prog 40:=enters_of Tryz.func40 (by kernel_rfl) rfl
theorem wk40 {gI:Gh} {wI:World} {x0:List Int} {up0:Value} (rp0:RV gI.m wI x0 up0) {r:Bool} (h:f40 x0=some r):Fn Tryz.prog 40 #[up0] gI wI (fun _ _ v=>v=.bool (r)):=by
 unfold f40 at h
 refine fn_of_E Tryz.func40 rfl (Nat.le_of_ble_eq_true rfl) fun g0 hm hfr=>?_
 have rp0:RV g0.m wI x0 up0:=hm ▸ rp0
 show E _ 5 none _ _ _ _ _
 refine Zf (Za (Zg (.bool false) rfl rfl ?_))
 refine Zb (Zd (Zf (Za (Zn up0 rfl rfl ?_))))
 obtain ⟨y2,hy2,h⟩:=bsome h
 refine Ze .plain rfl (Zp (g:=g0) (vs:=[.int .i64 (0),.int .i64 (300),up0]) en51 (.cons rfl (.cons rfl (.cons rfl .nil))) (wk51 rp0 hy2) fun g1 w1_ v1 hs hr=>?_)
 have hfr:=hfr.ext hs
 subst hr
 refine Zg (.bool (y2)) rfl rfl ?_
 refine Zb (Zd (E_ret ?_))
 obtain rfl:=sinj h
 exact end1 rfl rfl (show _=.bool (y2) from rfl) ⟨_,hfr,rfl⟩
def f43 (x0:FaultLoom):Option (Int):=
 jn (σ:=Unit) (fun _=>
  jn (σ:=Unit) (fun _=>
   jn (σ:=Unit) (fun _=>
    some ((0:Int))
    ) fun k33=>
   bif (((x0).Harness).Hooks != ((x0).Design).Hooks) then
    some ((4:Int))
   else
    k33 ()
   ) fun k19=>
  (f66 ((x0).Design)).bind fun y23=>
  bif (y23 != (0 : Int)) then
   some (y23)
  else
   k19 ()
  ) fun k7=>
 (f65 ((x0).Harness)).bind fun y11=>
 bif (y11 != (0 : Int)) then
  some (y11)
 else
  k7 ()
theorem en43:Enters Tryz.prog 43:=enters_of Tryz.func43 (by kernel_rfl) rfl
theorem wk43 {gI:Gh} {wI:World} {x0:FaultLoom} {up0:Value} (rp0:RV gI.m wI x0 up0) {r:Int} (h:f43 x0=some r):Fn Tryz.prog 43 #[up0] gI wI (fun _ _ v=>v=.int .i64 (r)):=by
 unfold f43 at h
 refine fn_of_E Tryz.func43 rfl (Nat.le_of_ble_eq_true rfl) fun g0 hm hfr=>?_
 have rp0:RV g0.m wI x0 up0:=hm ▸ rp0
 show E _ 24 none _ _ _ _ _
 refine Zf (Za (Ze .plain rfl (D_box (g:=g0) rfl rp0 fun g1 w1 p1 hs q1=>?_)))
 have hfr:=hfr.ext hs
 refine Zg (.int .i64 (0)) rfl rfl ?_
 refine Zb (Zd (Zq h (fun (s:Unit) e w=>∃ (g:Gh) ,Fr gI wI g w∧e 1=p1∧PT g.m w (x0:FaultLoom) p1) (fun X7 k7 hk7 h=>?_) ?_))
 ·refine Zf (Za (EL_p (fPtr p1 0) (Zc at_37_0 rfl (PT.ptr q1)) rfl ?_))
  have q8:=Zm (part_FaultLoom_0).1 q1
  refine Ze .plain rfl (D_load (g:=g1) Tryz.isAgg33 Tryz.sizeOf33 rfl q8 fun v9 r9=>?_)
  obtain ⟨y11,i5,h⟩:=bsome h
  refine Ze .plain rfl (Zp (g:=g1) (vs:=[v9]) en65 (.cons rfl .nil) (wk65 r9 i5) fun x5 d7 m7 hs hr=>?_)
  have hfr:=hfr.ext hs
  have q1:=q1.ext hs
  subst hr
  refine Zg (.int .i64 (y11)) rfl rfl ?_
  refine Zb (Zd (Zf (Za (Zn (.int .i64 (y11)) rfl rfl ?_))))
  refine EL_in (.bool ((y11 != (0:Int)))) rfl rfl rfl rfl ?_
  refine Zb (Zd ?_)
  rcases Zt h with ⟨j1,h⟩ | ⟨j1,h⟩
  ·refine E_ct j1 rfl ?_
   refine Zf (Za (Zn (.int .i64 (y11)) rfl rfl ?_))
   refine Zg (.int .i64 (y11)) rfl rfl ?_
   refine Zb (Zd (E_ret (thn_r ?_)))
   obtain rfl:=sinj h
   exact end1 rfl rfl (show _=.int .i64 (y11) from rfl) ⟨_,hfr,rfl⟩
  ·refine E_cf j1 rfl ?_
   exact Zu (Zd (hk7 () _ _ ⟨x5,hfr,rfl,q1⟩ h))
 ·rintro _ e7 n7 ⟨u3, hfr, i3, o0⟩ h
  refine Zq h (fun (s:Unit) e w=>∃ (g:Gh) ,Fr gI wI g w∧e 1=p1∧PT g.m w (x0:FaultLoom) p1) (fun X19 k19 l5 h=>?_) ?_
  ·refine Zf (Za (EL_p (fPtr p1 2) (Zc at_37_1 i3 (PT.ptr o0)) rfl ?_))
   have i6:=Zm (part_FaultLoom_1).1 o0
   refine Ze .plain rfl (D_load (g:=u3) Tryz.isAgg35 Tryz.sizeOf35 rfl i6 fun j6 v6=>?_)
   obtain ⟨y23,q5,h⟩:=bsome h
   refine Ze .plain rfl (Zp (g:=u3) (vs:=[j6]) en66 (.cons rfl .nil) (wk66 v6 q5) fun x6 g7 o7 hs hr=>?_)
   have hfr:=hfr.ext hs
   have o0:=o0.ext hs
   subst hr
   refine Zg (.int .i64 (y23)) rfl rfl ?_
   refine Zb (Zd (Zf (Za (Zn (.int .i64 (y23)) rfl rfl ?_))))
   refine EL_in (.bool ((y23 != (0:Int)))) rfl rfl rfl rfl ?_
   refine Zb (Zd ?_)
   rcases Zt h with ⟨z2,h⟩ | ⟨z2,h⟩
   ·refine E_ct z2 rfl ?_
    refine Zf (Za (Zn (.int .i64 (y23)) rfl rfl ?_))
    refine Zg (.int .i64 (y23)) rfl rfl ?_
    refine Zb (Zd (E_ret (thn_r ?_)))
    obtain rfl:=sinj h
    exact end1 rfl rfl (show _=.int .i64 (y23) from rfl) ⟨_,hfr,rfl⟩
   ·refine E_cf z2 rfl ?_
    exact Zu (Zd (l5 () _ _ ⟨x6,hfr,i3,o0⟩ h))
  ·rintro _ i7 u7 ⟨o3, hfr, j3, u0⟩ h
   refine Zq h (fun (s:Unit) e w=>∃ (g:Gh) ,Fr gI wI g w) (fun X33 k33 t5 h=>?_) ?_
   ·refine Zf (Za (EL_p (fPtr p1 0) (Zc at_37_0 j3 (PT.ptr u0)) rfl ?_))
    have z3:=Zm (part_FaultLoom_0).1 u0
    refine EL_p (fPtr (fPtr p1 0) 0) (Zc at_33_0 rfl (PT.ptr z3)) rfl ?_
    have y6:=Zm (part_TieHarness_0).1 z3
    refine Ze .plain rfl (D_load (g:=o3) Tryz.isAgg3 Tryz.sizeOf3 rfl y6 fun v7 a7=>?_)
    obtain rfl:=Zj.1 a7
    refine EL_p (fPtr p1 2) (Zc at_37_1 j3 (PT.ptr u0)) rfl ?_
    have z4:=Zm (part_FaultLoom_1).1 u0
    refine EL_p (fPtr (fPtr p1 2) 0) (Zc at_35_0 rfl (PT.ptr z4)) rfl ?_
    have b7:=Zm (part_Design_0).1 z4
    refine Ze .plain rfl (D_load (g:=o3) Tryz.isAgg3 Tryz.sizeOf3 rfl b7 fun c8 c7=>?_)
    obtain rfl:=Zj.1 c7
    refine EL_in (.bool ((((x0).Harness).Hooks != ((x0).Design).Hooks))) rfl rfl rfl rfl ?_
    refine Zb (Zd ?_)
    rcases Zt h with ⟨d3,h⟩ | ⟨d3,h⟩
    ·refine E_ct d3 rfl ?_
     refine Zf (Za (Zg (.int .i64 (4)) rfl rfl ?_))
     refine Zb (Zd (E_ret (thn_r ?_)))
     obtain rfl:=sinj h
     exact end1 rfl rfl (show _=.int .i64 (4) from rfl) ⟨_,hfr,rfl⟩
    ·refine E_cf d3 rfl ?_
     exact Zu (Zd (t5 () _ _ ⟨o3,hfr⟩ h))
   ·rintro _ j7 e8 ⟨g8, hfr⟩ h
    refine Zf (Za (Zg (.int .i64 (0)) rfl rfl ?_))
    refine Zb (Zd (E_ret ?_))
    obtain rfl:=sinj h
    exact end1 rfl rfl (show _=.int .i64 (0) from rfl) ⟨_,hfr,rfl⟩
def f45 (x0:FaultFaultLoom) (x1:FaultDamage):Option (Bool):=
 Option.bind (α:=FaultDamage × Bool) (
  bif ((x1).Kind == (1 : Int)) then
   some ((⟨(x1).Kind,(x1).Pick,(x1).Hook,0,false⟩:FaultDamage),true)
  else
   bif ((x1).Kind == (2 : Int)) then
    some ((⟨(x1).Kind,0,(x1).Hook,0,(x1).Up⟩:FaultDamage),true)
   else
    Option.bind (α:=Bool) (
     bif ((x1).Kind == (3 : Int)) then
      some (((x1).Kind == (3:Int)))
     else
      some (((x1).Kind == (4:Int)))
     ) fun z3=>
    bif z3 then
     some ((⟨(x1).Kind,(x1).Pick,0,0,false⟩:FaultDamage),true)
    else
     bif ((x1).Kind == (5 : Int)) then
      some ((⟨(x1).Kind,0,0,(x1).Warp,false⟩:FaultDamage),true)
     else
      some ((⟨(x1).Kind,0,0,0,false⟩:FaultDamage),false)
  ) fun (j3,z4)=>
 Option.bind (α:=Bool) (
  bif z4 then
   bif (decide (x1 = j3)) then
    (f67 ((0:Int)) ((w64 ((((((x0).FaultLoom).Design).Rows).length:Int) - (1:Int)))) (([(x1).Pick]:List Int))).bind fun j6=>
    bif j6 then
     (f67 ((0:Int)) ((w64 ((((x0).FaultLoom).Design).Hooks - (1:Int)))) (([(x1).Hook]:List Int))).bind fun v6=>
     bif v6 then
      (f67 ((0:Int)) ((w64 ((((((x0).FaultLoom).Harness).Warps).length:Int) - (1:Int)))) (([(x1).Warp]:List Int))).bind fun d7=>
      some (d7)
     else
      some (false)
    else
     some (false)
   else
    some (false)
  else
   some (false)
  ) fun x5=>
 some (x5)
theorem en45:Enters Tryz.prog 45:=enters_of Tryz.func45 (by kernel_rfl) rfl
theorem wk45 {gI:Gh} {wI:World} {x0:FaultFaultLoom} {x1:FaultDamage} {up0:Value} (rp0:RV gI.m wI x0 up0) {up1:Value} (rp1:RV gI.m wI x1 up1) {r:Bool} (h:f45 x0 x1=some r):Fn Tryz.prog 45 #[up0,up1] gI wI (fun _ _ v=>v=.bool (r)):=by
 unfold f45 at h
 refine fn_of_E Tryz.func45 rfl (Nat.le_of_ble_eq_true rfl) fun g0 hm hfr=>?_
 have rp0:RV g0.m wI x0 up0:=hm ▸ rp0
 have rp1:RV g0.m wI x1 up1:=hm ▸ rp1
 show E _ 80 none _ _ _ _ _
 refine Zf (Za (Ze .plain rfl (D_box (g:=g0) rfl rp0 fun g1 w1 p1 hs q1=>?_)))
 have hfr:=hfr.ext hs
 have rp1:=rp1.ext hs
 refine Ze .plain rfl (D_box (g:=g1) rfl rp1 fun g2 w2 p2 hs q2=>?_)
 have hfr:=hfr.ext hs
 have q1:=q1.ext hs
 refine Zg (.bool false) rfl rfl ?_
 refine Zb (Zd (Zf (Za (EL_p (fPtr p2 0) (Zc at_45_0 rfl (PT.ptr q2)) rfl ?_))))
 have q3:=Zm (part_FaultDamage_0).1 q2
 refine Ze .plain rfl (D_load (g:=g2) Tryz.isAgg43 Tryz.sizeOf43 rfl q3 fun v4 r4=>?_)
 obtain rfl:=Zj.1 r4
 have r5:RV g2.m w2 (⟨(x1).Kind,0,0,0,false⟩:FaultDamage) (.agg (setCh [[.int .i64 0],[.int .i64 0],[.int .i64 0],[.int .i64 0],[.bool false]] [(0,.int .i64 ((x1).Kind))]).flatten.toArray):=RV_build rfl (rep_pair (rfl) (rep_pair (rep_int) (rep_pair (rep_int) (rep_pair (rep_int) (rep_last (rep_bool))))))
 generalize yB:(Value.agg (setCh [[.int .i64 0],[.int .i64 0],[.int .i64 0],[.int .i64 0],[.bool false]] [(0,.int .i64 ((x1).Kind))]).flatten.toArray)=v5 at r5
 refine EL_p v5 (yB ▸ P_build (vs:=[(0,.int .i64 ((x1).Kind))]) [[.int .i64 0],[.int .i64 0],[.int .i64 0],[.int .i64 0],[.bool false]] lay_45 rfl rfl (.cons rfl .nil) ⟨⟨_,rfl,rfl⟩,trivial⟩) rfl ?_
 refine Ze .plain rfl (D_allocOc (g:=g2) 2005 (⟨0,0,0,0,false⟩:FaultDamage) Tryz.zeroValue45 (fun m w=>⟨_,(rep_two rep_int (rep_two rep_int (rep_two rep_int (rep_two rep_int rep_bool)))),rfl⟩) fun g6 w6 p6 hs b6 cb=>?_)
 have hfr:=hfr.stp hs
 have q1:=q1.stp hs
 have q2:=q2.stp hs
 have r5:=r5.stp hs
 clear cb
 refine Ze .plain rfl (D_storeOc (g:=g6) (v:=v5) Tryz.sizeOf45 rfl b6 rfl r5 fun g7 w7 hs b7 cb=>?_)
 clear cb
 have hfr:=hfr.stp hs
 have q1:=q1.stp hs
 have q2:=q2.stp hs
 refine Zb (Zd (Zf (Za (Zg (.bool true) rfl rfl ?_))))
 refine Zb (Zd ?_)
 obtain ⟨⟨j3,z4⟩,hx,h⟩:=bsome h
 refine E_join (fun e w=>∃ (g:Gh) ,Fr gI wI g w∧e 2=p1∧PT g.m w (x0:FaultFaultLoom) p1∧e 3=p2∧PT g.m w (x1:FaultDamage) p2∧e 5=p6∧OB 2005 g w 45 (j3:FaultDamage) p6∧e 6=.bool (z4)) (fun Q' hQ=>?_) (fun kC uC hR=>?_)
 ·replace h := hx
  clear hx
  refine Zf (Za (EL_p (fPtr p2 0) (Zc at_45_0 rfl (PT.ptr q2)) rfl ?_))
  have zB:=Zm (part_FaultDamage_0).1 q2
  refine Ze .plain rfl (D_load (g:=g7) Tryz.isAgg43 Tryz.sizeOf43 rfl zB fun gE aC=>?_)
  obtain rfl:=Zj.1 aC
  refine Zb (Zd (Zr ?_))
  refine Zf (Za (EL_in (.bool (((x1).Kind == (1:Int)))) rfl rfl rfl rfl ?_))
  refine Zg (.bool (((x1).Kind == (1:Int)))) rfl rfl ?_
  refine Zb (Zd ?_)
  rcases Zt h with ⟨v7,h⟩ | ⟨v7,h⟩
  ·refine E_ct v7 rfl ?_
   have cC:=Zm (part_FaultDamage_1).1 q2
   refine Zs (x:=.tmp 14) Tryz.isAgg3 Tryz.sizeOf3 cC fun iE dC i9=>?_
   obtain rfl:=Zj.1 dC
   have eC:=Zm (part_FaultDamage_2).1 q2
   refine Zs (x:=.tmp 16) Tryz.isAgg3 Tryz.sizeOf3 eC fun jE iC k9=>?_
   obtain rfl:=Zj.1 iC
   refine E_drawTL (g:=g7) (n:=5) [2,3] [] [0,1,2,3,4] rfl mixed (by kernel_rfl) trivial rfl ?_
   refine L_p (fPtr p2 1) rfl rfl (Zc at_45_1 rfl (PT.ptr q2)) ?_
   refine L_ld (c:=.int .i64 ((x1).Pick)) rfl rfl .plain (fun _ _ h=>h.ch) i9 rfl ?_
   refine L_purL (c:=fPtr p2 2) rfl rfl .plain (Zc at_45_2 rfl (PT.ptr q2)) ?_
   refine L_ldL (c:=.int .i64 ((x1).Hook)) rfl rfl .plain (fun _ _ h=>h.ch) rfl k9 rfl ?_
   refine L_p (fPtr p6 1) rfl rfl (Zc at_45_1 rfl (OB.ptr b7)) ?_
   refine L_nl fun e9 jC hs=>?_
   have hlt:Lt g7.m w7 e9 jC:=hs.ch
   have hfr:=hfr.ext hs
   have q1:=q1.ext hs
   have q2:=q2.ext hs
   have b7:=b7.ext hs
   clear hs
   refine TL_do hlt.w .plain rfl (D_storeFc (g:=e9) part_FaultDamage_1 Tryz.sizeOf3 rfl b7 rfl (Zj.2 rfl) fun l9 vC hs b112 rst hos=>?_)
   clear rst hos
   have hfr:=hfr.stp hs
   have hlt:=hlt.stp hs
   have q1:=q1.stp hs
   have q2:=q2.stp hs
   refine TL_pur hlt.w (v:=fPtr p6 2) (Zc at_45_2 rfl (OB.ptr b112)) .plain rfl ?_
   refine TL_do hlt.w .plain rfl (D_storeFc (g:=l9) part_FaultDamage_2 Tryz.sizeOf3 rfl b112 rfl (Zj.2 rfl) fun n9 xC hs b114 rst hos=>?_)
   clear rst hos
   have hfr:=hfr.stp hs
   have hlt:=hlt.stp hs
   have q1:=q1.stp hs
   have q2:=q2.stp hs
   refine TL_nil hlt.w ?_
   clear hlt
   refine blk_n ?_
   obtain ⟨rfl,rfl⟩:=pairs2 h
   exact hQ _ _ ⟨n9,hfr,rfl,q1,rfl,q2,rfl,b114,rfl⟩
  ·refine E_cf v7 rfl ?_
   refine Zf (Za (EL_in (.bool (((x1).Kind == (2:Int)))) rfl rfl rfl rfl ?_))
   refine Zg (.bool (((x1).Kind == (2:Int)))) rfl rfl ?_
   refine Zb (Zd ?_)
   rcases Zt h with ⟨e7,h⟩ | ⟨e7,h⟩
   ·refine E_ct e7 rfl ?_
    have o9:=Zm (part_FaultDamage_2).1 q2
    refine Zs (x:=.tmp 22) Tryz.isAgg3 Tryz.sizeOf3 o9 fun yC t9 v8=>?_
    obtain rfl:=Zj.1 t9
    have u9:=Zm (part_FaultDamage_4).1 q2
    refine Zs (x:=.tmp 24) Tryz.isAgg4 Tryz.sizeOf4 u9 fun aD y9 x8=>?_
    obtain rfl:=RV_bool.1 y9
    refine E_drawTL (g:=g7) (n:=5) [2,3] [] [0,1,2,3,4] rfl mixed (by kernel_rfl) trivial rfl ?_
    refine L_p (fPtr p2 2) rfl rfl (Zc at_45_2 rfl (PT.ptr q2)) ?_
    refine L_ld (c:=.int .i64 ((x1).Hook)) rfl rfl .plain (fun _ _ h=>h.ch) v8 rfl ?_
    refine L_purL (c:=fPtr p2 4) rfl rfl .plain (Zc at_45_4 rfl (PT.ptr q2)) ?_
    refine L_ldL (c:=.bool ((x1).Up)) rfl rfl .plain (fun _ _ h=>h.ch) rfl x8 rfl ?_
    refine L_p (fPtr p6 2) rfl rfl (Zc at_45_2 rfl (OB.ptr b7)) ?_
    refine L_nl fun e8 z9 hs=>?_
    have hlt:Lt g7.m w7 e8 z9:=hs.ch
    have hfr:=hfr.ext hs
    have q1:=q1.ext hs
    have q2:=q2.ext hs
    have b7:=b7.ext hs
    clear hs
    refine TL_do hlt.w .plain rfl (D_storeFc (g:=e8) part_FaultDamage_2 Tryz.sizeOf3 rfl b7 rfl (Zj.2 rfl) fun bA bD hs b143 rst hos=>?_)
    clear rst hos
    have hfr:=hfr.stp hs
    have hlt:=hlt.stp hs
    have q1:=q1.stp hs
    have q2:=q2.stp hs
    refine TL_pur hlt.w (v:=fPtr p6 4) (Zc at_45_4 rfl (OB.ptr b143)) .plain rfl ?_
    refine TL_do hlt.w .plain rfl (D_storeFc (g:=bA) part_FaultDamage_4 Tryz.sizeOf4 rfl b143 rfl (RV_bool.2 rfl) fun gA cD hs b145 rst hos=>?_)
    clear rst hos
    have hfr:=hfr.stp hs
    have hlt:=hlt.stp hs
    have q1:=q1.stp hs
    have q2:=q2.stp hs
    refine TL_nil hlt.w ?_
    clear hlt
    refine blk_n ?_
    obtain ⟨rfl,rfl⟩:=pairs2 h
    exact hQ _ _ ⟨gA,hfr,rfl,q1,rfl,q2,rfl,b145,rfl⟩
   ·refine E_cf e7 rfl ?_
    obtain ⟨z3,hx,h⟩:=bsome h
    refine E_join (fun e w=>∃ (g:Gh) ,Fr gI wI g w∧e 2=p1∧PT g.m w (x0:FaultFaultLoom) p1∧e 3=p2∧PT g.m w (x1:FaultDamage) p2∧e 5=p6∧OB 2005 g w 45 ((⟨(x1).Kind,0,0,0,false⟩:FaultDamage):FaultDamage) p6∧e 6=.bool (true)∧e 11=.int .i64 ((x1).Kind)∧e 28=.bool (z3)) (fun Q' hQ=>?_) (fun lC eD hR=>?_)
    ·replace h := hx
     clear hx
     refine Zf (Za (EL_in (.bool (((x1).Kind == (3:Int)))) rfl rfl rfl rfl ?_))
     refine Zg (.bool (((x1).Kind == (3:Int)))) rfl rfl ?_
     refine Zb (Zd ?_)
     rcases Zt h with ⟨i7,h⟩ | ⟨i7,h⟩
     ·refine E_ct i7 rfl ?_
      refine Zu ?_
      obtain rfl:=sinj h
      exact hQ _ _ ⟨g7,hfr,rfl,q1,rfl,q2,rfl,b7,rfl,rfl,rfl⟩
     ·refine E_cf i7 rfl ?_
      refine Za (EL_in (.bool (((x1).Kind == (4:Int)))) rfl rfl rfl rfl ?_)
      refine Zg (.bool (((x1).Kind == (4:Int)))) rfl rfl ?_
      refine Zb ?_
      obtain rfl:=sinj h
      exact hQ _ _ ⟨g7,hfr,rfl,q1,rfl,q2,rfl,b7,rfl,rfl,rfl⟩
    ·clear hx
     obtain ⟨x6,hfr,y6,u3,i5,i3,l5,q5,u7,c8,c7⟩:=hR
     rcases Zt h with ⟨j7,h⟩ | ⟨j7,h⟩
     ·refine E_cond_true (Eq.trans (show ev _ _ = .bool (z3) from c7) (congrArg Value.bool j7)) ?_
      refine Za (EL_p (fPtr p2 1) (Zc at_45_1 i5 (PT.ptr i3)) rfl ?_)
      have iA:=Zm (part_FaultDamage_1).1 i3
      refine Ze .plain rfl (D_load (g:=x6) Tryz.isAgg3 Tryz.sizeOf3 rfl iA fun gD jA=>?_)
      obtain rfl:=Zj.1 jA
      refine EL_p (fPtr p6 1) (Zc at_45_1 l5 (OB.ptr q5)) rfl ?_
      refine Ze .plain rfl (D_storeFc (g:=x6) part_FaultDamage_1 Tryz.sizeOf3 rfl q5 rfl (Zj.2 rfl) fun kA iD hs b153 rst hos=>?_)
      clear rst hos
      have hfr:=hfr.stp hs
      have u3:=u3.stp hs
      have i3:=i3.stp hs
      refine Zb (blk_n ?_)
      obtain ⟨rfl,rfl⟩:=pairs2 h
      exact hQ _ _ ⟨kA,hfr,y6,u3,i5,i3,l5,b153,u7⟩
     ·refine E_cond_false (Eq.trans (show ev _ _ = .bool (z3) from c7) (congrArg Value.bool j7)) ?_
      refine Zf (Za (EL_in (.bool (((x1).Kind == (5:Int)))) c8 rfl rfl rfl ?_))
      refine Zg (.bool (((x1).Kind == (5:Int)))) rfl rfl ?_
      refine Zb (Zd ?_)
      rcases Zt h with ⟨m7,h⟩ | ⟨m7,h⟩
      ·refine E_ct m7 rfl ?_
       refine Za (EL_p (fPtr p2 3) (Zc at_45_3 i5 (PT.ptr i3)) rfl ?_)
       have lA:=Zm (part_FaultDamage_3).1 i3
       refine Ze .plain rfl (D_load (g:=x6) Tryz.isAgg3 Tryz.sizeOf3 rfl lA fun jD mA=>?_)
       obtain rfl:=Zj.1 mA
       refine EL_p (fPtr p6 3) (Zc at_45_3 l5 (OB.ptr q5)) rfl ?_
       refine Ze .plain rfl (D_storeFc (g:=x6) part_FaultDamage_3 Tryz.sizeOf3 rfl q5 rfl (Zj.2 rfl) fun nA kD hs b158 rst hos=>?_)
       clear rst hos
       have hfr:=hfr.stp hs
       have u3:=u3.stp hs
       have i3:=i3.stp hs
       refine Zb (blk_n ?_)
       obtain ⟨rfl,rfl⟩:=pairs2 h
       exact hQ _ _ ⟨nA,hfr,y6,u3,i5,i3,l5,b158,u7⟩
      ·refine E_cf m7 rfl ?_
       refine Za (Zg (.bool false) rfl rfl ?_)
       refine Zb (blk_n ?_)
       obtain ⟨rfl,rfl⟩:=pairs2 h
       exact hQ _ _ ⟨x6,hfr,y6,u3,i5,i3,l5,q5,rfl⟩
 ·clear hx
  obtain ⟨t5,hfr,a7,u0,i6,o0,g8,i8,k8⟩:=hR
  obtain ⟨x5,hx,h⟩:=bsome h
  refine E_join (fun e w=>∃ (g:Gh) ,Fr gI wI g w∧e 4=.bool (x5)) (fun Q' hQ=>?_) (fun mC lD hR=>?_)
  ·replace h := hx
   clear hx
   refine Za (Zo k8 rfl ?_)
   refine Zn (.bool (z4)) rfl rfl ?_
   rcases Zt h with ⟨o3,h⟩ | ⟨o3,h⟩
   ·refine Ze (.yes2 rfl rfl o3) rfl (D_load (g := t5) Tryz.isAgg45 Tryz.sizeOf45 i6 o0 fun mD oA => ?_)
    refine Ze (.yes2 rfl rfl o3) rfl (D_loadO (g:=t5) Tryz.isAgg45 Tryz.sizeOf45 g8 i8 fun nD pA=>?_)
    refine EL_y (.bool ((decide (x1=j3)))) (P_seq seq_45 rfl eg_45 rfl rfl oA pA) rfl rfl o3 rfl ?_
    refine EL_p (.bool ((decide (x1=j3)))) (Zl (b:=z4) rfl (pick_t o3 rfl)) rfl ?_
    refine Zn (.bool ((decide (x1=j3)))) rfl rfl ?_
    rcases Zt h with ⟨j1,h⟩ | ⟨j1,h⟩
    ·refine EL_y (fPtr p1 0) (Zc at_73_0 a7 (PT.ptr u0)) rfl rfl j1 rfl ?_
     have l8:=Zm (part_FaultFaultLoom_0).1 u0
     refine EL_y (fPtr (fPtr p1 0) 2) (Zc at_37_1 rfl (PT.ptr l8)) rfl rfl j1 rfl ?_
     have m8:=Zm (part_FaultLoom_1).1 l8
     refine EL_y (fPtr (fPtr (fPtr p1 0) 2) 1) (Zc at_35_1 rfl (PT.ptr m8)) rfl rfl j1 rfl ?_
     have qA:=Zm (part_Design_1).1 m8
     refine Ze (.yes2 rfl rfl j1) rfl (D_load (g:=t5) Tryz.isAgg26 Tryz.sizeOf26 rfl qA fun oD rA=>?_)
     refine EL_y (.int .i64 (((((x0).FaultLoom).Design).Rows).length:Int)) (P_len Tryz.underlying26 rfl rA) rfl rfl j1 rfl ?_
     refine EL_y (.int .i64 ((w64 ((((((x0).FaultLoom).Design).Rows).length:Int) - (1:Int))))) (P_int rfl rfl rfl) rfl rfl j1 rfl ?_
     refine EL_y (fPtr p2 1) (Zc at_45_1 i6 (PT.ptr o0)) rfl rfl j1 rfl ?_
     have sA:=Zm (part_FaultDamage_1).1 o0
     refine Ze (.yes2 rfl rfl j1) rfl (D_load (g:=t5) Tryz.isAgg3 Tryz.sizeOf3 rfl sA fun sD uA=>?_)
     obtain rfl:=Zj.1 uA
     refine Ze (.yes2 rfl rfl j1) rfl (D_buildSlice (g:=t5) 3054 (xs:=([(x1).Pick]:List Int)) (vs:=[.int .i64 ((x1).Pick)]) Tryz.underlying26 Tryz.sizeOf3 Tryz.zeroValue3 rfl rfl (.cons rfl .nil) (RVs.cons (Zj.2 rfl) RVs.nil) rfl rfl fun xA tD yA hs o203 zA hxt hfl=>?_)
     have hfr:=hfr.stp hs
     have u0:=u0.stp hs
     have o0:=o0.stp hs
     obtain ⟨j6,y8,h⟩:=bsome h
     refine Ze (.yes2 rfl rfl j1) rfl (Zp (g:=xA) (vs:=[.int .i64 (0),.int .i64 ((w64 ((((((x0).FaultLoom).Design).Rows).length:Int) - (1:Int)))),yA]) en67 (.cons rfl (.cons rfl (.cons rfl .nil))) (wk67 zA y8) fun n7 qC uD hs hr=>?_)
     have hfr:=hfr.ext hs
     have u0:=u0.ext hs
     have o0:=o0.ext hs
     subst hr
     refine EL_p (.bool (j6)) (Zl (b:=(decide (x1=j3))) rfl (pick_t j1 rfl)) rfl ?_
     refine Zn (.bool (j6)) rfl rfl ?_
     rcases Zt h with ⟨d3,h⟩ | ⟨d3,h⟩
     ·refine EL_y (fPtr p1 0) (Zc at_73_0 a7 (PT.ptr u0)) rfl rfl d3 rfl ?_
      have n8:=Zm (part_FaultFaultLoom_0).1 u0
      refine EL_y (fPtr (fPtr p1 0) 2) (Zc at_37_1 rfl (PT.ptr n8)) rfl rfl d3 rfl ?_
      have o8:=Zm (part_FaultLoom_1).1 n8
      refine EL_y (fPtr (fPtr (fPtr p1 0) 2) 0) (Zc at_35_0 rfl (PT.ptr o8)) rfl rfl d3 rfl ?_
      have aB:=Zm (part_Design_0).1 o8
      refine Ze (.yes2 rfl rfl d3) rfl (D_load (g:=n7) Tryz.isAgg3 Tryz.sizeOf3 rfl aB fun vD bB=>?_)
      obtain rfl:=Zj.1 bB
      refine EL_y (.int .i64 ((w64 ((((x0).FaultLoom).Design).Hooks - (1:Int))))) (P_int rfl rfl rfl) rfl rfl d3 rfl ?_
      refine EL_y (fPtr p2 2) (Zc at_45_2 i6 (PT.ptr o0)) rfl rfl d3 rfl ?_
      have cB:=Zm (part_FaultDamage_2).1 o0
      refine Ze (.yes2 rfl rfl d3) rfl (D_load (g:=n7) Tryz.isAgg3 Tryz.sizeOf3 rfl cB fun xD dB=>?_)
      obtain rfl:=Zj.1 dB
      refine Ze (.yes2 rfl rfl d3) rfl (D_buildSlice (g:=n7) 3065 (xs:=([(x1).Hook]:List Int)) (vs:=[.int .i64 ((x1).Hook)]) Tryz.underlying26 Tryz.sizeOf3 Tryz.zeroValue3 rfl rfl (.cons rfl .nil) (RVs.cons (Zj.2 rfl) RVs.nil) rfl rfl fun eB yD iB hs o213 jB hxt hfl=>?_)
      have hfr:=hfr.stp hs
      have u0:=u0.stp hs
      have o0:=o0.stp hs
      obtain ⟨v6,a9,h⟩:=bsome h
      refine Ze (.yes2 rfl rfl d3) rfl (Zp (g:=eB) (vs:=[.int .i64 (0),.int .i64 ((w64 ((((x0).FaultLoom).Design).Hooks - (1:Int)))),iB]) en67 (.cons rfl (.cons rfl (.cons rfl .nil))) (wk67 jB a9) fun o7 rC zD hs hr=>?_)
      have hfr:=hfr.ext hs
      have u0:=u0.ext hs
      have o0:=o0.ext hs
      subst hr
      refine EL_p (.bool (v6)) (Zl (b:=j6) rfl (pick_t d3 rfl)) rfl ?_
      refine Zn (.bool (v6)) rfl rfl ?_
      rcases Zt h with ⟨z2,h⟩ | ⟨z2,h⟩
      ·refine EL_y (fPtr p1 0) (Zc at_73_0 a7 (PT.ptr u0)) rfl rfl z2 rfl ?_
       have q8:=Zm (part_FaultFaultLoom_0).1 u0
       refine EL_y (fPtr (fPtr p1 0) 0) (Zc at_37_0 rfl (PT.ptr q8)) rfl rfl z2 rfl ?_
       have r8:=Zm (part_FaultLoom_0).1 q8
       refine EL_y (fPtr (fPtr (fPtr p1 0) 0) 1) (Zc at_33_1 rfl (PT.ptr r8)) rfl rfl z2 rfl ?_
       have kB:=Zm (part_TieHarness_1).1 r8
       refine Ze (.yes2 rfl rfl z2) rfl (D_load (g:=o7) Tryz.isAgg26 Tryz.sizeOf26 rfl kB fun aE lB=>?_)
       refine EL_y (.int .i64 (((((x0).FaultLoom).Harness).Warps).length:Int)) (P_len Tryz.underlying26 rfl lB) rfl rfl z2 rfl ?_
       refine EL_y (.int .i64 ((w64 ((((((x0).FaultLoom).Harness).Warps).length:Int) - (1:Int))))) (P_int rfl rfl rfl) rfl rfl z2 rfl ?_
       refine EL_y (fPtr p2 3) (Zc at_45_3 i6 (PT.ptr o0)) rfl rfl z2 rfl ?_
       have mB:=Zm (part_FaultDamage_3).1 o0
       refine Ze (.yes2 rfl rfl z2) rfl (D_load (g:=o7) Tryz.isAgg3 Tryz.sizeOf3 rfl mB fun bE nB=>?_)
       obtain rfl:=Zj.1 nB
       refine Ze (.yes2 rfl rfl z2) rfl (D_buildSlice (g:=o7) 3077 (xs:=([(x1).Warp]:List Int)) (vs:=[.int .i64 ((x1).Warp)]) Tryz.underlying26 Tryz.sizeOf3 Tryz.zeroValue3 rfl rfl (.cons rfl .nil) (RVs.cons (Zj.2 rfl) RVs.nil) rfl rfl fun oB cE tB hs o223 vB hxt hfl=>?_)
       have hfr:=hfr.stp hs
       obtain ⟨d7,d9,h⟩:=bsome h
       refine Ze (.yes2 rfl rfl z2) rfl (Zp (g:=oB) (vs:=[.int .i64 (0),.int .i64 ((w64 ((((((x0).FaultLoom).Harness).Warps).length:Int) - (1:Int)))),tB]) en67 (.cons rfl (.cons rfl (.cons rfl .nil))) (wk67 vB d9) fun xB tC dE hs hr=>?_)
       have hfr:=hfr.ext hs
       subst hr
       refine EL_p (.bool (d7)) (Zl (b:=v6) rfl (pick_t z2 rfl)) rfl ?_
       refine Zg (.bool (d7)) rfl rfl ?_
       refine Zb ?_
       obtain rfl:=sinj h
       exact hQ _ _ ⟨xB,hfr,rfl⟩
      ·refine EL_s rfl rfl z2 rfl rfl ?_
       iterate 9 refine EL_s rfl rfl z2 rfl rfl ?_
       refine EL_p (.bool false) (Zl (b:=v6) rfl (pick_f z2 rfl)) rfl ?_
       refine Zg (.bool false) rfl rfl ?_
       refine Zb ?_
       obtain rfl:=sinj h
       exact hQ _ _ ⟨o7,hfr,rfl⟩
     ·refine EL_s rfl rfl d3 rfl rfl ?_
      iterate 8 refine EL_s rfl rfl d3 rfl rfl ?_
      refine EL_p (.bool false) (Zl (b:=j6) rfl (pick_f d3 rfl)) rfl ?_
      refine EL_dead 12 rfl ?_
      refine Zg (.bool false) rfl rfl ?_
      refine Zb ?_
      obtain rfl:=sinj h
      exact hQ _ _ ⟨n7,hfr,rfl⟩
    ·refine EL_s rfl rfl j1 rfl rfl ?_
     iterate 9 refine EL_s rfl rfl j1 rfl rfl ?_
     refine EL_p (.bool false) (Zl (b:=(decide (x1=j3))) rfl (pick_f j1 rfl)) rfl ?_
     refine EL_dead 23 rfl ?_
     refine Zg (.bool false) rfl rfl ?_
     refine Zb ?_
     obtain rfl:=sinj h
     exact hQ _ _ ⟨t5,hfr,rfl⟩
   ·refine EL_s rfl rfl o3 rfl rfl ?_
    refine EL_s rfl rfl o3 rfl rfl ?_
    refine EL_s rfl rfl o3 rfl rfl ?_
    refine EL_p (.bool false) (Zl (b:=z4) rfl (pick_f o3 rfl)) rfl ?_
    refine EL_dead 35 rfl ?_
    refine Zg (.bool false) rfl rfl ?_
    refine Zb ?_
    obtain rfl:=sinj h
    exact hQ _ _ ⟨t5,hfr,rfl⟩
  ·clear hx
   obtain ⟨eE,hfr,t8⟩:=hR
   refine E_ret ?_
   obtain rfl:=sinj h
   exact end1 rfl rfl (show _=.bool (x5) from t8) ⟨_,hfr,rfl⟩
def f50 (x0:LoomOrder):Option (Bool):=
 Option.bind (α:=Bool) (
  (f51 ((1:Int)) ((100:Int)) (([(x0).Width]:List Int))).bind fun i3=>
  bif i3 then
   (f51 ((0:Int)) ((100:Int)) (([(x0).Chain]:List Int))).bind fun d3=>
   bif d3 then
    (f51 ((1:Int)) ((100:Int)) (([(x0).Woven]:List Int))).bind fun y43=>
    bif y43 then
     (f40 (([(x0).Early,(x0).Late]:List Int))).bind fun j3=>
     some (j3)
    else
     some (false)
   else
    some (false)
  else
   some (false)
  ) fun z2=>
 some (z2)
theorem en50:Enters Tryz.prog 50:=enters_of Tryz.func50 (by kernel_rfl) rfl
theorem wk50 {gI:Gh} {wI:World} {x0:LoomOrder} {up0:Value} (rp0:RV gI.m wI x0 up0) {r:Bool} (h:f50 x0=some r):Fn Tryz.prog 50 #[up0] gI wI (fun _ _ v=>v=.bool (r)):=by
 unfold f50 at h
 refine fn_of_E Tryz.func50 rfl (Nat.le_of_ble_eq_true rfl) fun g0 hm hfr=>?_
 have rp0:RV g0.m wI x0 up0:=hm ▸ rp0
 show E _ 27 none _ _ _ _ _
 refine Zf (Za (Ze .plain rfl (D_box (g:=g0) rfl rp0 fun g1 w1 p1 hs q1=>?_)))
 have hfr:=hfr.ext hs
 refine Zg (.bool false) rfl rfl ?_
 refine Zb (Zd ?_)
 obtain ⟨z2,hx,h⟩:=bsome h
 refine E_join (fun e w=>∃ (g:Gh) ,Fr gI wI g w∧e 2=.bool (z2)) (fun Q' hQ=>?_) (fun k8 q8 hR=>?_)
 ·replace h := hx
  clear hx
  refine Za (EL_p (fPtr p1 0) (Zc at_67_0 rfl (PT.ptr q1)) rfl ?_)
  have x5:=Zm (part_LoomOrder_0).1 q1
  refine Ze .plain rfl (D_load (g:=g1) Tryz.isAgg3 Tryz.sizeOf3 rfl x5 fun r8 i6=>?_)
  obtain rfl:=Zj.1 i6
  refine Ze .plain rfl (D_buildSlice (g:=g1) 3005 (xs:=([(x0).Width]:List Int)) (vs:=[.int .i64 ((x0).Width)]) Tryz.underlying26 Tryz.sizeOf3 Tryz.zeroValue3 rfl rfl (.cons rfl .nil) (RVs.cons (Zj.2 rfl) RVs.nil) rfl rfl fun j6 t8 v6 hs o29 x6 hxt hfl=>?_)
  have hfr:=hfr.stp hs
  have q1:=q1.stp hs
  obtain ⟨i3,i5,h⟩:=bsome h
  refine Ze .plain rfl (Zp (g:=j6) (vs:=[.int .i64 (1),.int .i64 (100),v6]) en51 (.cons rfl (.cons rfl (.cons rfl .nil))) (wk51 x6 i5) fun u3 l8 v8 hs hr=>?_)
  have hfr:=hfr.ext hs
  have q1:=q1.ext hs
  subst hr
  refine Zn (.bool (i3)) rfl rfl ?_
  rcases Zt h with ⟨u0,h⟩ | ⟨u0,h⟩
  ·refine EL_y (fPtr p1 1) (Zc at_67_1 rfl (PT.ptr q1)) rfl rfl u0 rfl ?_
   have y6:=Zm (part_LoomOrder_1).1 q1
   refine Ze (.yes2 rfl rfl u0) rfl (D_load (g:=u3) Tryz.isAgg3 Tryz.sizeOf3 rfl y6 fun x8 a7=>?_)
   obtain rfl:=Zj.1 a7
   refine Ze (.yes2 rfl rfl u0) rfl (D_buildSlice (g:=u3) 3010 (xs:=([(x0).Chain]:List Int)) (vs:=[.int .i64 ((x0).Chain)]) Tryz.underlying26 Tryz.sizeOf3 Tryz.zeroValue3 rfl rfl (.cons rfl .nil) (RVs.cons (Zj.2 rfl) RVs.nil) rfl rfl fun b7 y8 c7 hs o35 d7 hxt hfl=>?_)
   have hfr:=hfr.stp hs
   have q1:=q1.stp hs
   obtain ⟨d3,l5,h⟩:=bsome h
   refine Ze (.yes2 rfl rfl u0) rfl (Zp (g:=b7) (vs:=[.int .i64 (0),.int .i64 (100),c7]) en51 (.cons rfl (.cons rfl (.cons rfl .nil))) (wk51 d7 l5) fun z3 m8 a9 hs hr=>?_)
   have hfr:=hfr.ext hs
   have q1:=q1.ext hs
   subst hr
   refine EL_p (.bool (d3)) (Zl (b:=i3) rfl (pick_t u0 rfl)) rfl ?_
   refine Zn (.bool (d3)) rfl rfl ?_
   rcases Zt h with ⟨j1,h⟩ | ⟨j1,h⟩
   ·refine EL_y (fPtr p1 2) (Zc at_67_2 rfl (PT.ptr q1)) rfl rfl j1 rfl ?_
    have e7:=Zm (part_LoomOrder_2).1 q1
    refine Ze (.yes2 rfl rfl j1) rfl (D_load (g:=z3) Tryz.isAgg3 Tryz.sizeOf3 rfl e7 fun d9 g7=>?_)
    obtain rfl:=Zj.1 g7
    refine Ze (.yes2 rfl rfl j1) rfl (D_buildSlice (g:=z3) 3016 (xs:=([(x0).Woven]:List Int)) (vs:=[.int .i64 ((x0).Woven)]) Tryz.underlying26 Tryz.sizeOf3 Tryz.zeroValue3 rfl rfl (.cons rfl .nil) (RVs.cons (Zj.2 rfl) RVs.nil) rfl rfl fun i7 e9 j7 hs o41 m7 hxt hfl=>?_)
    have hfr:=hfr.stp hs
    have q1:=q1.stp hs
    obtain ⟨y43,q5,h⟩:=bsome h
    refine Ze (.yes2 rfl rfl j1) rfl (Zp (g:=i7) (vs:=[.int .i64 (1),.int .i64 (100),j7]) en51 (.cons rfl (.cons rfl (.cons rfl .nil))) (wk51 m7 q5) fun o3 n8 i9 hs hr=>?_)
    have hfr:=hfr.ext hs
    have q1:=q1.ext hs
    subst hr
    refine EL_p (.bool (y43)) (Zl (b:=d3) rfl (pick_t j1 rfl)) rfl ?_
    refine Zn (.bool (y43)) rfl rfl ?_
    rcases Zt h with ⟨o0,h⟩ | ⟨o0,h⟩
    ·refine EL_y (fPtr p1 3) (Zc at_67_3 rfl (PT.ptr q1)) rfl rfl o0 rfl ?_
     have n7:=Zm (part_LoomOrder_3).1 q1
     refine Ze (.yes2 rfl rfl o0) rfl (D_load (g:=o3) Tryz.isAgg3 Tryz.sizeOf3 rfl n7 fun k9 o7=>?_)
     obtain rfl:=Zj.1 o7
     refine EL_y (fPtr p1 4) (Zc at_67_4 rfl (PT.ptr q1)) rfl rfl o0 rfl ?_
     have u7:=Zm (part_LoomOrder_4).1 q1
     refine Ze (.yes2 rfl rfl o0) rfl (D_load (g:=o3) Tryz.isAgg3 Tryz.sizeOf3 rfl u7 fun l9 v7=>?_)
     obtain rfl:=Zj.1 v7
     refine Ze (.yes2 rfl rfl o0) rfl (D_buildSlice (g:=o3) 3024 (xs:=([(x0).Early,(x0).Late]:List Int)) (vs:=[.int .i64 ((x0).Early),.int .i64 ((x0).Late)]) Tryz.underlying26 Tryz.sizeOf3 Tryz.zeroValue3 rfl rfl (.cons rfl (.cons rfl .nil)) (RVs.cons (Zj.2 rfl) (RVs.cons (Zj.2 rfl) RVs.nil)) rfl rfl fun c8 n9 e8 hs o49 g8 hxt hfl=>?_)
     have hfr:=hfr.stp hs
     obtain ⟨j3,t5,h⟩:=bsome h
     refine Ze (.yes2 rfl rfl o0) rfl (Zp (g:=c8) (vs:=[e8]) en40 (.cons rfl .nil) (wk40 g8 t5) fun i8 o8 o9 hs hr=>?_)
     have hfr:=hfr.ext hs
     subst hr
     refine EL_p (.bool (j3)) (Zl (b:=y43) rfl (pick_t o0 rfl)) rfl ?_
     refine Zg (.bool (j3)) rfl rfl ?_
     refine Zb ?_
     obtain rfl:=sinj h
     exact hQ _ _ ⟨i8,hfr,rfl⟩
    ·refine EL_s rfl rfl o0 rfl rfl ?_
     iterate 5 refine EL_s rfl rfl o0 rfl rfl ?_
     refine EL_p (.bool false) (Zl (b:=y43) rfl (pick_f o0 rfl)) rfl ?_
     refine Zg (.bool false) rfl rfl ?_
     refine Zb ?_
     obtain rfl:=sinj h
     exact hQ _ _ ⟨o3,hfr,rfl⟩
   ·refine EL_s rfl rfl j1 rfl rfl ?_
    iterate 3 refine EL_s rfl rfl j1 rfl rfl ?_
    refine EL_p (.bool false) (Zl (b:=d3) rfl (pick_f j1 rfl)) rfl ?_
    refine EL_dead 8 rfl ?_
    refine Zg (.bool false) rfl rfl ?_
    refine Zb ?_
    obtain rfl:=sinj h
    exact hQ _ _ ⟨z3,hfr,rfl⟩
  ·refine EL_s rfl rfl u0 rfl rfl ?_
   iterate 3 refine EL_s rfl rfl u0 rfl rfl ?_
   refine EL_p (.bool false) (Zl (b:=i3) rfl (pick_f u0 rfl)) rfl ?_
   refine EL_dead 14 rfl ?_
   refine Zg (.bool false) rfl rfl ?_
   refine Zb ?_
   obtain rfl:=sinj h
   exact hQ _ _ ⟨u3,hfr,rfl⟩
 ·clear hx
  obtain ⟨t9,hfr,z4⟩:=hR
  refine E_ret ?_
  obtain rfl:=sinj h
  exact end1 rfl rfl (show _=.bool (z2) from z4) ⟨_,hfr,rfl⟩
def f82 (x0:LoomLoomMill) (x1:List LoomRun) (x2:Int):Option (Int):=
 (idx x1 x2).bind fun y2=>
 jn (σ:=Unit) (fun _=>
  some ((0:Int))
  ) fun q8=>
 Option.bind (α:=Bool) (
  (f51 ((0:Int)) ((w64 ((((x0).orders).length:Int) - (1:Int)))) (([(y2).Order]:List Int))).bind fun q5=>
  bif (!q5) then
   some ((!q5))
  else
   (f51 ((0:Int)) ((w64 (((((x0).LoomMill).Widths).length:Int) - (1:Int)))) (([(y2).Loom]:List Int))).bind fun t5=>
   bif (!t5) then
    some ((!t5))
   else
    (f40 (([(y2).From]:List Int))).bind fun c7=>
    some ((!c7))
  ) fun d3=>
 bif d3 then
  some ((7:Int))
 else
  Option.bind (α:=Bool) (
   bif (decide (x2 > (0 : Int))) then
    (idx x1 (w64 (x2 - (1:Int)))).bind fun z4=>
    some ((decide ((y2).Order ≤ (z4).Order)))
   else
    some (false)
   ) fun i3=>
  bif i3 then
   some ((4:Int))
  else
   (idx ((x0).orders) (y2).Order).bind fun x5=>
   (idx (((x0).LoomMill).Widths) (y2).Loom).bind fun i6=>
   bif (decide ((x5).Width > i6)) then
    some ((2:Int))
   else
    Option.bind (α:=Bool) (
     (idx ((x0).orders) (y2).Order).bind fun i5=>
     bif (decide ((y2).From < (i5).Early)) then
      some ((decide ((y2).From < (i5).Early)))
     else
      (f42 x0 y2).bind fun l5=>
      (idx ((x0).orders) (y2).Order).bind fun j6=>
      some ((decide (l5 > (j6).Late)))
     ) fun j3=>
    bif j3 then
     some ((3:Int))
    else
     q8 ()
theorem en82:Enters Tryz.prog 82:=enters_of Tryz.func82 (by kernel_rfl) rfl
theorem wk82 {gI:Gh} {wI:World} {x0:LoomLoomMill} {x1:List LoomRun} {x2:Int} {up0:Value} (rp0:RV gI.m wI x0 up0) {up1:Value} (rp1:RV gI.m wI x1 up1) {r:Int} (h:f82 x0 x1 x2=some r):Fn Tryz.prog 82 #[up0,up1,.int .i64 (x2)] gI wI (fun _ _ v=>v=.int .i64 (r)):=by
 unfold f82 at h
 refine fn_of_E Tryz.func82 rfl (Nat.le_of_ble_eq_true rfl) fun g0 hm hfr=>?_
 have rp0:RV g0.m wI x0 up0:=hm ▸ rp0
 have rp1:RV g0.m wI x1 up1:=hm ▸ rp1
 show E _ 89 none _ _ _ _ _
 refine Zf (Za (Ze .plain rfl (D_box (g:=g0) rfl rp0 fun g1 w1 p1 hs q1=>?_)))
 have hfr:=hfr.ext hs
 have rp1:=rp1.ext hs
 refine Zg (.int .i64 (0)) rfl rfl ?_
 refine Zb (Zd (Zf (Za (Zn up1 rfl rfl ?_))))
 refine Zn (.int .i64 (x2)) rfl rfl ?_
 obtain ⟨y2,hy2,h⟩:=bsome h
 refine EL_p (ePtr up1 x2 3) (Zh (α:=LoomRun) Tryz.underlying48 Tryz.sizeOf65 rfl rp1 rfl hy2) rfl ?_
 have q3:=PT_idx rp1 hy2
 refine Ze .plain rfl (D_load (g:=g1) Tryz.isAgg65 Tryz.sizeOf65 rfl q3 fun v4 r4=>?_)
 refine Ze .plain rfl (D_allocOc (g:=g1) 2007 (⟨0,0,0⟩:LoomRun) Tryz.zeroValue65 (fun m w=>⟨_,(rep_two rep_int (rep_two rep_int rep_int)),rfl⟩) fun g5 w5 p5 hs b5 cb=>?_)
 have hfr:=hfr.stp hs
 have rp1:=rp1.stp hs
 have q1:=q1.stp hs
 have r4:=r4.stp hs
 clear cb
 refine Ze .plain rfl (D_storeOc (g:=g5) (v:=v4) Tryz.sizeOf65 rfl b5 rfl r4 fun g6 w6 hs b6 cb=>?_)
 clear cb
 have hfr:=hfr.stp hs
 have rp1:=rp1.stp hs
 have q1:=q1.stp hs
 refine Zb (Zd (Zq h (fun (s:Unit) e w=>∃ (g:Gh) ,Fr gI wI g w) (fun X381 q8 z9 h=>?_) ?_))
 ·refine Zr ?_
  obtain ⟨d3,hx,h⟩:=bsome h
  refine E_join (fun e w=>∃ (g:Gh) ,Fr gI wI g w∧e 1=up1∧RV g.m w (x1:List LoomRun) up1∧e 2=.int .i64 (x2)∧e 3=p1∧PT g.m w (x0:LoomLoomMill) p1∧e 7=p5∧OB 2007 g w 65 (y2:LoomRun) p5∧e 12=.bool (d3)) (fun Q' hQ=>?_) (fun xD eE hR=>?_)
  ·replace h := hx
   clear hx
   refine Zf (Za (EL_p (fPtr p1 2) (Zc at_81_1 rfl (PT.ptr q1)) rfl ?_))
   have eB:=Zm (part_LoomLoomMill_1).1 q1
   refine Ze .plain rfl (D_load (g:=g6) Tryz.isAgg29 Tryz.sizeOf29 rfl eB fun gE iB=>?_)
   refine EL_p (.int .i64 (((x0).orders).length:Int)) (P_len Tryz.underlying29 rfl iB) rfl ?_
   refine EL_p (.int .i64 ((w64 ((((x0).orders).length:Int) - (1:Int))))) (P_int rfl rfl rfl) rfl ?_
   refine EL_p (fPtr p5 0) (Zc at_65_0 rfl (OB.ptr b6)) rfl ?_
   refine Ze .plain rfl (D_loadF (g:=g6) part_LoomRun_0.1 Tryz.isAgg3 Tryz.sizeOf3 rfl b6 fun iE jB=>?_)
   obtain rfl:=Zj.1 jB
   refine Ze .plain rfl (D_buildSlice (g:=g6) 3019 (xs:=([(y2).Order]:List Int)) (vs:=[.int .i64 ((y2).Order)]) Tryz.underlying26 Tryz.sizeOf3 Tryz.zeroValue3 rfl rfl (.cons rfl .nil) (RVs.cons (Zj.2 rfl) RVs.nil) rfl rfl fun kB jE lB hs o408 mB hxt hfl=>?_)
   have hfr:=hfr.stp hs
   have rp1:=rp1.stp hs
   have q1:=q1.stp hs
   have b6:=b6.stp hs rfl
   obtain ⟨q5,bA,h⟩:=bsome h
   refine Ze .plain rfl (Zp (g:=kB) (vs:=[.int .i64 (0),.int .i64 ((w64 ((((x0).orders).length:Int) - (1:Int)))),lB]) en51 (.cons rfl (.cons rfl (.cons rfl .nil))) (wk51 mB bA) fun d7 yD kE hs hr=>?_)
   have hfr:=hfr.ext hs
   have rp1:=rp1.ext hs
   have q1:=q1.ext hs
   have b6:=b6.ext hs
   subst hr
   refine EL_p (.bool (!q5)) (P_not rfl) rfl ?_
   refine Zg (.bool (!q5)) rfl rfl ?_
   refine Zb (Zd ?_)
   rcases Zt h with ⟨e7,h⟩ | ⟨e7,h⟩
   ·refine E_ct e7 rfl ?_
    refine Zu ?_
    obtain rfl:=sinj h
    exact hQ _ _ ⟨d7,hfr,rfl,rp1,rfl,rfl,q1,rfl,b6,rfl⟩
   ·refine E_cf e7 rfl ?_
    refine Zf (Za (EL_p (fPtr p1 0) (Zc at_81_0 rfl (PT.ptr q1)) rfl ?_))
    have r8:=Zm (part_LoomLoomMill_0).1 q1
    refine EL_p (fPtr (fPtr p1 0) 0) (Zc at_28_0 rfl (PT.ptr r8)) rfl ?_
    have nB:=Zm (part_LoomMill_0).1 r8
    refine Ze .plain rfl (D_load (g:=d7) Tryz.isAgg26 Tryz.sizeOf26 rfl nB fun lE oB=>?_)
    refine EL_p (.int .i64 ((((x0).LoomMill).Widths).length:Int)) (P_len Tryz.underlying26 rfl oB) rfl ?_
    refine EL_p (.int .i64 ((w64 (((((x0).LoomMill).Widths).length:Int) - (1:Int))))) (P_int rfl rfl rfl) rfl ?_
    refine EL_p (fPtr p5 1) (Zc at_65_1 rfl (OB.ptr b6)) rfl ?_
    refine Ze .plain rfl (D_loadF (g:=d7) part_LoomRun_1.1 Tryz.isAgg3 Tryz.sizeOf3 rfl b6 fun mE tB=>?_)
    obtain rfl:=Zj.1 tB
    refine Ze .plain rfl (D_buildSlice (g:=d7) 3029 (xs:=([(y2).Loom]:List Int)) (vs:=[.int .i64 ((y2).Loom)]) Tryz.underlying26 Tryz.sizeOf3 Tryz.zeroValue3 rfl rfl (.cons rfl .nil) (RVs.cons (Zj.2 rfl) RVs.nil) rfl rfl fun vB nE xB hs o417 yB hxt hfl=>?_)
    have hfr:=hfr.stp hs
    have rp1:=rp1.stp hs
    have q1:=q1.stp hs
    have b6:=b6.stp hs rfl
    obtain ⟨t5,gA,h⟩:=bsome h
    refine Ze .plain rfl (Zp (g:=vB) (vs:=[.int .i64 (0),.int .i64 ((w64 (((((x0).LoomMill).Widths).length:Int) - (1:Int)))),xB]) en51 (.cons rfl (.cons rfl (.cons rfl .nil))) (wk51 yB gA) fun c8 zD oE hs hr=>?_)
    have hfr:=hfr.ext hs
    have rp1:=rp1.ext hs
    have q1:=q1.ext hs
    have b6:=b6.ext hs
    subst hr
    refine EL_p (.bool (!t5)) (P_not rfl) rfl ?_
    refine Zg (.bool (!t5)) rfl rfl ?_
    refine Zb (Zd ?_)
    rcases Zt h with ⟨g7,h⟩ | ⟨g7,h⟩
    ·refine E_ct g7 rfl ?_
     refine Zu ?_
     obtain rfl:=sinj h
     exact hQ _ _ ⟨c8,hfr,rfl,rp1,rfl,rfl,q1,rfl,b6,rfl⟩
    ·refine E_cf g7 rfl ?_
     refine Za (EL_p (fPtr p5 2) (Zc at_65_2 rfl (OB.ptr b6)) rfl ?_)
     refine Ze .plain rfl (D_loadF (g:=c8) part_LoomRun_2.1 Tryz.isAgg3 Tryz.sizeOf3 rfl b6 fun rE zB=>?_)
     obtain rfl:=Zj.1 zB
     refine Ze .plain rfl (D_buildSlice (g:=c8) 3034 (xs:=([(y2).From]:List Int)) (vs:=[.int .i64 ((y2).From)]) Tryz.underlying26 Tryz.sizeOf3 Tryz.zeroValue3 rfl rfl (.cons rfl .nil) (RVs.cons (Zj.2 rfl) RVs.nil) rfl rfl fun aC sE cC hs o423 dC hxt hfl=>?_)
     have hfr:=hfr.stp hs
     have rp1:=rp1.stp hs
     have q1:=q1.stp hs
     have b6:=b6.stp hs rfl
     obtain ⟨c7,iA,h⟩:=bsome h
     refine Ze .plain rfl (Zp (g:=aC) (vs:=[cC]) en40 (.cons rfl .nil) (wk40 dC iA) fun eC aE tE hs hr=>?_)
     have hfr:=hfr.ext hs
     have rp1:=rp1.ext hs
     have q1:=q1.ext hs
     have b6:=b6.ext hs
     subst hr
     refine EL_p (.bool (!c7)) (P_not rfl) rfl ?_
     refine Zg (.bool (!c7)) rfl rfl ?_
     refine Zb ?_
     obtain rfl:=sinj h
     exact hQ _ _ ⟨eC,hfr,rfl,rp1,rfl,rfl,q1,rfl,b6,rfl⟩
  ·clear hx
   obtain ⟨t8,hfr,v8,u7,v6,v7,o3,x6,z2,y6⟩:=hR
   rcases Zt h with ⟨i7,h⟩ | ⟨i7,h⟩
   ·refine E_cond_true (Eq.trans (show ev _ _ = .bool (d3) from y6) (congrArg Value.bool i7)) ?_
    refine Zf (Za (Zg (.int .i64 (7)) rfl rfl ?_))
    refine Zb (Zd (E_ret (blk_r ?_)))
    refine thn_r ?_
    obtain rfl:=sinj h
    exact end1 rfl rfl (show _=.int .i64 (7) from rfl) ⟨_,hfr,rfl⟩
   ·refine E_cond_false (Eq.trans (show ev _ _ = .bool (d3) from y6) (congrArg Value.bool i7)) ?_
    obtain ⟨i3,hx,h⟩:=bsome h
    refine E_join (fun e w=>∃ (g:Gh) ,Fr gI wI g w∧e 3=p1∧PT g.m w (x0:LoomLoomMill) p1∧e 7=p5∧OB 2007 g w 65 (y2:LoomRun) p5∧e 37=.bool (i3)) (fun Q' hQ=>?_) (fun bE uE hR=>?_)
    ·replace h := hx
     clear hx
     rcases Zt h with ⟨j1,h⟩ | ⟨j1,h⟩
     ·refine L_loadO (x := .tmp 41) part_LoomRun_0.1 Tryz.isAgg3 Tryz.sizeOf3 z2 fun vE iC jA => ?_
      obtain rfl:=Zj.1 iC
      obtain ⟨z4,k8,h⟩:=bsome h
      have x8:=PT_idx u7 k8
      have jC:=Zm (part_LoomRun_0).1 x8
      refine Zs (x:=.tmp 47) Tryz.isAgg3 Tryz.sizeOf3 jC fun xE kC kA=>?_
      obtain rfl:=Zj.1 kC
      refine E_drawL (g:=t8) (n:=14) [] [0,1,2,3,4,5,6,7,8,9,10,11,12,13] rfl mixed (by kernel_rfl) trivial ?_
      refine L_p (.int .i64 (x2)) rfl rfl (Zk v6) ?_
      refine L_p (.bool ((decide (x2 > (0:Int))))) rfl rfl (P_int rfl rfl rfl) ?_
      refine L_p (.bool ((decide (x2 > (0:Int))))) rfl rfl (Zk rfl) ?_
      refine L_y (fPtr p5 0) rfl rfl rfl rfl j1 (Zc at_65_0 x6 (OB.ptr z2)) ?_
      refine L_ld (c:=.int .i64 ((y2).Order)) rfl rfl (.yes2 rfl rfl j1) (fun _ _ h=>⟨h.ch,fun b hb _=>h.below.block b hb⟩) jA rfl ?_
      refine L_y up1 rfl rfl rfl rfl j1 (Zk v8) ?_
      refine L_y (.int .i64 (x2)) rfl rfl rfl rfl j1 (Zk v6) ?_
      refine L_y (.int .i64 ((w64 (x2 - (1:Int))))) rfl rfl rfl rfl j1 (P_int rfl rfl rfl) ?_
      refine L_y (ePtr up1 (w64 (x2 - (1:Int))) 3) rfl rfl rfl rfl j1 (Zh (α:=LoomRun) Tryz.underlying48 Tryz.sizeOf65 rfl u7 rfl k8) ?_
      refine L_y (fPtr (ePtr up1 (w64 (x2 - (1:Int))) 3) 0) rfl rfl rfl rfl j1 (Zc at_65_0 rfl (PT.ptr x8)) ?_
      refine L_ld (c:=.int .i64 ((z4).Order)) rfl rfl (.yes2 rfl rfl j1) (fun _ _ h=>h.ch) kA rfl ?_
      refine L_y (.bool ((decide ((y2).Order ≤ (z4).Order)))) rfl rfl rfl rfl j1 (P_int rfl rfl rfl) ?_
      refine L_p (.bool ((decide ((y2).Order ≤ (z4).Order)))) rfl rfl (Zl (b:=(decide (x2 > (0:Int)))) rfl (pick_t j1 rfl)) ?_
      refine L_p (.bool ((decide ((y2).Order ≤ (z4).Order)))) rfl rfl (P_assign rfl) ?_
      refine L_nl fun lC yE hs=>?_
      have hfr:=hfr.ext hs
      have o3:=o3.ext hs
      have z2:=z2.ext hs
      clear hs
      refine Zb ?_
      obtain rfl:=sinj h
      exact hQ _ _ ⟨lC,hfr,v7,o3,x6,z2,rfl⟩
     ·refine E_drawL (g := t8) (n := 14) [] [0, 1, 2, 3, 4, 5, 6, 7, 8, 9, 10, 11, 12, 13] rfl mixed (by kernel_rfl) trivial ?_
      refine L_p (.int .i64 (x2)) rfl rfl (Zk v6) ?_
      refine L_p (.bool ((decide (x2 > (0:Int))))) rfl rfl (P_int rfl rfl rfl) ?_
      refine L_p (.bool ((decide (x2 > (0:Int))))) rfl rfl (Zk rfl) ?_
      iterate 9 refine L_s rfl rfl rfl j1 rfl ?_
      refine L_p (.bool false) rfl rfl (Zl (b:=(decide (x2 > (0:Int)))) rfl (pick_f j1 rfl)) ?_
      refine L_p (.bool false) rfl rfl (P_assign rfl) ?_
      refine L_nl fun mC zE hs=>?_
      have hfr:=hfr.ext hs
      have o3:=o3.ext hs
      have z2:=z2.ext hs
      clear hs
      refine Zb ?_
      obtain rfl:=sinj h
      exact hQ _ _ ⟨mC,hfr,v7,o3,x6,z2,rfl⟩
    ·clear hx
     obtain ⟨qC,hfr,z3,u0,u3,o0,a7⟩:=hR
     rcases Zt h with ⟨j7,h⟩ | ⟨j7,h⟩
     ·refine E_cond_true (Eq.trans (show ev _ _ = .bool (i3) from a7) (congrArg Value.bool j7)) ?_
      refine Zf (Za (Zg (.int .i64 (4)) rfl rfl ?_))
      refine Zb (Zd (E_ret (blk_r ?_)))
      refine thn_r ?_
      obtain rfl:=sinj h
      exact end1 rfl rfl (show _=.int .i64 (4) from rfl) ⟨_,hfr,rfl⟩
     ·refine E_cond_false (Eq.trans (show ev _ _ = .bool (i3) from a7) (congrArg Value.bool j7)) ?_
      refine Zf ?_
      have rC:=Zm (part_LoomLoomMill_1).1 u0
      refine Zs (x:=.tmp 52) Tryz.isAgg29 Tryz.sizeOf29 rC fun e8 y8 lA=>?_
      refine L_loadO (x:=.tmp 54) part_LoomRun_0.1 Tryz.isAgg3 Tryz.sizeOf3 o0 fun cF tC mA=>?_
      obtain rfl:=Zj.1 tC
      obtain ⟨x5,l8,h⟩:=bsome h
      have a9:=PT_idx y8 l8
      have uC:=Zm (part_LoomOrder_0).1 a9
      refine Zs (x:=.tmp 57) Tryz.isAgg3 Tryz.sizeOf3 uC fun dF vC nA=>?_
      obtain rfl:=Zj.1 vC
      have d9:=Zm (part_LoomLoomMill_0).1 u0
      have xC:=Zm (part_LoomMill_0).1 d9
      refine Zs (x:=.tmp 60) Tryz.isAgg26 Tryz.sizeOf26 xC fun e9 i9 oA=>?_
      refine L_loadO (x:=.tmp 62) part_LoomRun_1.1 Tryz.isAgg3 Tryz.sizeOf3 o0 fun eF yC pA=>?_
      obtain rfl:=Zj.1 yC
      obtain ⟨i6,m8,h⟩:=bsome h
      have aD:=PT_idx i9 m8
      refine Zs (x:=.tmp 64) Tryz.isAgg3 Tryz.sizeOf3 aD fun iF bD qA=>?_
      obtain rfl:=Zj.1 bD
      refine E_drawL (g:=qC) (n:=16) [] [0,1,2,3,4,5,6,7,8,9,10,11,12,13,14,15] rfl mixed (by kernel_rfl) trivial ?_
      refine L_p (fPtr p1 2) rfl rfl (Zc at_81_1 z3 (PT.ptr u0)) ?_
      refine L_ld (c:=e8) rfl rfl .plain (fun _ _ h=>h.ch) lA rfl ?_
      refine L_p (fPtr p5 0) rfl rfl (Zc at_65_0 u3 (OB.ptr o0)) ?_
      refine L_ld (c:=.int .i64 ((y2).Order)) rfl rfl .plain (fun _ _ h=>⟨h.ch,fun b hb _=>h.below.block b hb⟩) mA rfl ?_
      refine L_p (ePtr e8 (y2).Order 5) rfl rfl (Zh (α:=LoomOrder) Tryz.underlying29 Tryz.sizeOf67 rfl y8 rfl l8) ?_
      refine L_p (fPtr (ePtr e8 (y2).Order 5) 0) rfl rfl (Zc at_67_0 rfl (PT.ptr a9)) ?_
      refine L_ld (c:=.int .i64 ((x5).Width)) rfl rfl .plain (fun _ _ h=>h.ch) nA rfl ?_
      refine L_p (fPtr p1 0) rfl rfl (Zc at_81_0 z3 (PT.ptr u0)) ?_
      refine L_p (fPtr (fPtr p1 0) 0) rfl rfl (Zc at_28_0 rfl (PT.ptr d9)) ?_
      refine L_ld (c:=e9) rfl rfl .plain (fun _ _ h=>h.ch) oA rfl ?_
      refine L_p (fPtr p5 1) rfl rfl (Zc at_65_1 u3 (OB.ptr o0)) ?_
      refine L_ld (c:=.int .i64 ((y2).Loom)) rfl rfl .plain (fun _ _ h=>⟨h.ch,fun b hb _=>h.below.block b hb⟩) pA rfl ?_
      refine L_p (ePtr e9 (y2).Loom 1) rfl rfl (Zh (α:=Int) Tryz.underlying26 Tryz.sizeOf3 rfl i9 rfl m8) ?_
      refine L_ld (c:=.int .i64 (i6)) rfl rfl .plain (fun _ _ h=>h.ch) qA rfl ?_
      refine L_p (.bool ((decide ((x5).Width > i6)))) rfl rfl (P_int rfl rfl rfl) ?_
      refine L_p (.bool ((decide ((x5).Width > i6)))) rfl rfl (P_assign rfl) ?_
      refine L_nl fun cD nF hs=>?_
      have hfr:=hfr.ext hs
      have u0:=u0.ext hs
      have o0:=o0.ext hs
      clear hs
      refine Zb (Zd ?_)
      rcases Zt h with ⟨m7,h⟩ | ⟨m7,h⟩
      ·refine E_ct m7 rfl ?_
       refine Zf (Za (Zg (.int .i64 (2)) rfl rfl ?_))
       refine Zb (Zd (E_ret (blk_r ?_)))
       refine thn_r ?_
       obtain rfl:=sinj h
       exact end1 rfl rfl (show _=.int .i64 (2) from rfl) ⟨_,hfr,rfl⟩
      ·refine E_cf m7 rfl ?_
       obtain ⟨j3,hx,h⟩:=bsome h
       refine E_join (fun e w=>∃ (g:Gh) ,Fr gI wI g w∧e 67=.bool (j3)) (fun Q' hQ=>?_) (fun cE oF hR=>?_)
       ·replace h := hx
        clear hx
        refine Zf (L_loadO (x:=.tmp 68) part_LoomRun_2.1 Tryz.isAgg3 Tryz.sizeOf3 o0 fun pF eD rA=>?_)
        obtain rfl:=Zj.1 eD
        have gD:=Zm (part_LoomLoomMill_1).1 u0
        refine Zs (x:=.tmp 70) Tryz.isAgg29 Tryz.sizeOf29 gD fun g8 k9 sA=>?_
        refine L_loadO (x:=.tmp 72) part_LoomRun_0.1 Tryz.isAgg3 Tryz.sizeOf3 o0 fun qF iD uA=>?_
        obtain rfl:=Zj.1 iD
        obtain ⟨i5,n8,h⟩:=bsome h
        have l9:=PT_idx k9 n8
        have jD:=Zm (part_LoomOrder_3).1 l9
        refine Zs (x:=.tmp 75) Tryz.isAgg3 Tryz.sizeOf3 jD fun rF kD xA=>?_
        obtain rfl:=Zj.1 kD
        refine E_drawL (g:=cD) (n:=11) [] [0,1,2,3,4,5,6,7,8,9,10] rfl mixed (by kernel_rfl) trivial ?_
        refine L_p (fPtr p5 2) rfl rfl (Zc at_65_2 u3 (OB.ptr o0)) ?_
        refine L_ld (c:=.int .i64 ((y2).From)) rfl rfl .plain (fun _ _ h=>⟨h.ch,fun b hb _=>h.below.block b hb⟩) rA rfl ?_
        refine L_p (fPtr p1 2) rfl rfl (Zc at_81_1 z3 (PT.ptr u0)) ?_
        refine L_ld (c:=g8) rfl rfl .plain (fun _ _ h=>h.ch) sA rfl ?_
        refine L_p (fPtr p5 0) rfl rfl (Zc at_65_0 u3 (OB.ptr o0)) ?_
        refine L_ld (c:=.int .i64 ((y2).Order)) rfl rfl .plain (fun _ _ h=>⟨h.ch,fun b hb _=>h.below.block b hb⟩) uA rfl ?_
        refine L_p (ePtr g8 (y2).Order 5) rfl rfl (Zh (α:=LoomOrder) Tryz.underlying29 Tryz.sizeOf67 rfl k9 rfl n8) ?_
        refine L_p (fPtr (ePtr g8 (y2).Order 5) 3) rfl rfl (Zc at_67_3 rfl (PT.ptr l9)) ?_
        refine L_ld (c:=.int .i64 ((i5).Early)) rfl rfl .plain (fun _ _ h=>h.ch) xA rfl ?_
        refine L_p (.bool ((decide ((y2).From < (i5).Early)))) rfl rfl (P_int rfl rfl rfl) ?_
        refine L_p (.bool ((decide ((y2).From < (i5).Early)))) rfl rfl (P_assign rfl) ?_
        refine L_nl fun n9 sF hs=>?_
        have hfr:=hfr.ext hs
        have u0:=u0.ext hs
        have o0:=o0.ext hs
        clear hs
        refine Zb (Zd ?_)
        rcases Zt h with ⟨n7,h⟩ | ⟨n7,h⟩
        ·refine E_ct n7 rfl ?_
         refine Zu ?_
         obtain rfl:=sinj h
         exact hQ _ _ ⟨n9,hfr,rfl⟩
        ·refine E_cf n7 rfl ?_
         refine Zs (x:=.tmp 3) Tryz.isAgg81 Tryz.sizeOf81 u0 fun o9 lD yA=>?_
         refine L_loadO0 (x:=.tmp 7) Tryz.isAgg65 Tryz.sizeOf65 o0 fun t9 mD zA=>?_
         obtain ⟨l5,aB,h⟩:=bsome h
         have nD:=Zm (part_LoomLoomMill_1).1 u0
         refine Zs (x:=.tmp 81) Tryz.isAgg29 Tryz.sizeOf29 nD fun i8 u9 bB=>?_
         refine L_loadO (x:=.tmp 83) part_LoomRun_0.1 Tryz.isAgg3 Tryz.sizeOf3 o0 fun tF oD cB=>?_
         obtain rfl:=Zj.1 oD
         obtain ⟨j6,o8,h⟩:=bsome h
         have y9:=PT_idx u9 o8
         have sD:=Zm (part_LoomOrder_4).1 y9
         refine Zs (x:=.tmp 86) Tryz.isAgg3 Tryz.sizeOf3 sD fun uF tD dB=>?_
         obtain rfl:=Zj.1 tD
         refine E_drawL (g:=n9) (n:=12) [(2,(fun v g w=>v=.int .i64 (l5)))] [0,1,2,3,4,5,6,7,8,9,10,11] rfl mixed (by kernel_rfl) (⟨fun _=>up_eq _,trivial⟩) ?_
         refine L_ld (c:=o9) rfl rfl .plain (fun _ _ h=>h.ch) yA z3 ?_
         refine L_ld (c:=t9) rfl rfl .plain (fun _ _ h=>⟨h.ch,fun b hb _=>h.below.block b hb⟩) zA u3 ?_
         refine L_do (φ:=fun v g w=>v=.int .i64 (l5)) rfl rfl .plain (fun g w hd=>Zp (g:=g) (vs:=[o9,t9]) en42 (.cons rfl (.cons rfl .nil)) (wk42 (lD.ext hd.1) (mD.ext hd.1) aB) fun g' w' v hs hr=>⟨g',hs,hr⟩) (fun vF hv=>?_)
         obtain ⟨_,_,_,rfl⟩:=hv
         refine L_p (fPtr p1 2) rfl rfl (Zc at_81_1 z3 (PT.ptr u0)) ?_
         refine L_ld (c:=i8) rfl rfl .plain (fun _ _ h=>h.ch) bB rfl ?_
         refine L_p (fPtr p5 0) rfl rfl (Zc at_65_0 u3 (OB.ptr o0)) ?_
         refine L_ld (c:=.int .i64 ((y2).Order)) rfl rfl .plain (fun _ _ h=>⟨h.ch,fun b hb _=>h.below.block b hb⟩) cB rfl ?_
         refine L_p (ePtr i8 (y2).Order 5) rfl rfl (Zh (α:=LoomOrder) Tryz.underlying29 Tryz.sizeOf67 rfl u9 rfl o8) ?_
         refine L_p (fPtr (ePtr i8 (y2).Order 5) 4) rfl rfl (Zc at_67_4 rfl (PT.ptr y9)) ?_
         refine L_ld (c:=.int .i64 ((j6).Late)) rfl rfl .plain (fun _ _ h=>h.ch) dB rfl ?_
         refine L_p (.bool ((decide (l5 > (j6).Late)))) rfl rfl (P_int rfl rfl rfl) ?_
         refine L_p (.bool ((decide (l5 > (j6).Late)))) rfl rfl (P_assign rfl) ?_
         refine L_nl fun uD xF hs=>?_
         have hfr:=hfr.ext hs
         clear hs
         refine Zb ?_
         obtain rfl:=sinj h
         exact hQ _ _ ⟨uD,hfr,rfl⟩
       ·clear hx
        obtain ⟨vD,hfr,b7⟩:=hR
        rcases Zt h with ⟨o7,h⟩ | ⟨o7,h⟩
        ·refine E_cond_true (Eq.trans (show ev _ _ = .bool (j3) from b7) (congrArg Value.bool o7)) ?_
         refine Zf (Za (Zg (.int .i64 (3)) rfl rfl ?_))
         refine Zb (Zd (E_ret (blk_r ?_)))
         refine thn_r ?_
         obtain rfl:=sinj h
         exact end1 rfl rfl (show _=.int .i64 (3) from rfl) ⟨_,hfr,rfl⟩
        ·refine E_cond_false (Eq.trans (show ev _ _ = .bool (j3) from b7) (congrArg Value.bool o7)) ?_
         exact Zu (blk_n (Zd (z9 () _ _ ⟨vD,hfr⟩ h)))
 ·rintro _ dE yF ⟨zF, hfr⟩ h
  refine Zf (Za (Zg (.int .i64 (0)) rfl rfl ?_))
  refine Zb (Zd (E_ret ?_))
  obtain rfl:=sinj h
  exact end1 rfl rfl (show _=.int .i64 (0) from rfl) ⟨_,hfr,rfl⟩
def f83 (x0:LoomLoomMill) (x1:List LoomRun):Option (Int):=
 (mks 1 (false:Bool) (((x1).length:Int))).bind fun y2=>
 Option.bind (α:=(List Bool)) (
  lp (σ:=(List Bool) × Int) (fun u9 (v6,u0)=>
   bif (decide (u0 < ((((x0).LoomMill).Widths).length : Int))) then
    Option.bind (α:=(List Bool)) (
     (f36 x1 u0).bind fun o3=>
     lp (σ:=(List Bool) × Int) (fun y9 (u3,o0)=>
      jn (σ:=Unit) (fun _=>
       Option.bind (α:=(List Bool)) (
        (idx o3 o0).bind fun q8=>
        (idx x1 q8).bind fun z3=>
        (idx o3 o0).bind fun x6=>
        (idx o3 (w64 (o0 - (1:Int)))).bind fun g7=>
        (idx x1 g7).bind fun z9=>
        (f37 x0 z9 ((z3).Order)).bind fun i6=>
        (idx u3 x6).bind fun eC=>
        some ((List.set u3 (Int.toNat x6) ((decide ((z3).From < i6)))))
        ) fun z4=>
       y9 (z4,(w64 (o0 + (1:Int))))
       ) fun bA=>
      bif (decide (o0 < ((o3).length : Int))) then
       bA ()
      else
       some (u3)
      ) big (v6,(1:Int))
     ) fun i5=>
    u9 (i5,(w64 (u0 + (1:Int))))
   else
    some (v6)
   ) big (y2,(0:Int))
  ) fun y6=>
 (f99 y6 true).bind fun i7=>
 some (i7)
theorem en83:Enters Tryz.prog 83:=enters_of Tryz.func83 (by kernel_rfl) rfl
theorem wk83 {gI:Gh} {wI:World} {x0:LoomLoomMill} {x1:List LoomRun} {up0:Value} (rp0:RV gI.m wI x0 up0) {up1:Value} (rp1:RV gI.m wI x1 up1) {r:Int} (h:f83 x0 x1=some r):Fn Tryz.prog 83 #[up0,up1] gI wI (fun _ _ v=>v=.int .i64 (r)):=by
 unfold f83 at h
 refine fn_of_E Tryz.func83 rfl (Nat.le_of_ble_eq_true rfl) fun g0 hm hfr=>?_
 have rp0:RV g0.m wI x0 up0:=hm ▸ rp0
 have rp1:RV g0.m wI x1 up1:=hm ▸ rp1
 show E _ 60 none _ _ _ _ _
 refine Zf (Za (Ze .plain rfl (D_box (g:=g0) rfl rp0 fun g1 w1 p1 hs q1=>?_)))
 have hfr:=hfr.ext hs
 have rp1:=rp1.ext hs
 refine Zg (.int .i64 (0)) rfl rfl ?_
 refine Zb (Zd (Zf (Za (Zn up1 rfl rfl ?_))))
 refine EL_p (.int .i64 ((x1).length:Int)) (P_len Tryz.underlying48 rfl rp1) rfl ?_
 obtain ⟨y2,hy2,h⟩:=bsome h
 refine Ze .plain rfl (D_makeSliceM (g:=g1) 9012 (false:Bool) rfl Tryz.underlying86 info_4 rfl (fun _ _=>rfl) rfl rfl hy2 fun g3 w3 v3 hs b3=>?_)
 have hfr:=hfr.stp hs
 have rp1:=rp1.stp hs
 have q1:=q1.stp hs
 refine Zg v3 rfl rfl ?_
 refine Zb (Zd ?_)
 obtain ⟨y6,hx,h⟩:=bsome h
 refine E_join (fun e w=>∃ (g:Gh) ,Fr gI wI g w∧e 5=v3∧OM 9012 g w 4 (y6:List Bool) v3) (fun Q' hQ=>?_) (fun oD aE hR=>?_)
 ·replace h := hx
  clear hx
  refine Zf (Za (EL_p (fPtr p1 0) (Zc at_81_0 rfl (PT.ptr q1)) rfl ?_))
  have gA:=Zm (part_LoomLoomMill_0).1 q1
  refine EL_p (fPtr (fPtr p1 0) 0) (Zc at_28_0 rfl (PT.ptr gA)) rfl ?_
  have iC:=Zm (part_LoomMill_0).1 gA
  refine Ze .plain rfl (D_load (g:=g3) Tryz.isAgg26 Tryz.sizeOf26 rfl iC fun bE jC=>?_)
  refine EL_p (.int .i64 ((((x0).LoomMill).Widths).length:Int)) (P_len Tryz.underlying26 rfl jC) rfl ?_
  refine Zn (.int .i64 (0)) rfl rfl ?_
  refine Zb (Zd (Zr ?_))
  refine E_lp h (fun (s:(List Bool) × Int) e w=>∃ (g:Gh) ,Fr gI wI g w∧e 1=up1∧RV g.m w (x1:List LoomRun) up1∧e 2=p1∧PT g.m w (x0:LoomLoomMill) p1∧e 5=v3∧OM 9012 g w 4 (s.1:List Bool) v3∧e 16=.int .i64 (((((x0).LoomMill).Widths).length:Int))∧e 17=.int .i64 (s.2)) ⟨g3,hfr,rfl,rp1,rfl,q1,rfl,b3,rfl,rfl⟩ (fun X285 u9 lB=>?_)
  rintro ⟨v6,u0⟩ sD cE ⟨iA,hfr,n7,l5,jA,a7,o7,q5,c7,j6⟩ h
  refine Zf (Za (EL_p (.bool ((decide (u0 < ((((x0).LoomMill).Widths).length:Int))))) (P_int j6 c7 rfl) rfl ?_))
  refine Zb (Zd (Zf ?_))
  rcases Zt h with ⟨j7,h⟩ | ⟨j7,h⟩
  ·refine E_ct j7 rfl ?_
   refine Zu (Zd ?_)
   obtain ⟨i5,hx,h⟩:=bsome h
   refine E_join (fun e w=>∃ (g:Gh) ,Fr gI wI g w∧e 1=up1∧RV g.m w (x1:List LoomRun) up1∧e 2=p1∧PT g.m w (x0:LoomLoomMill) p1∧e 5=v3∧OM 9012 g w 4 (i5:List Bool) v3∧e 16=.int .i64 (((((x0).LoomMill).Widths).length:Int))∧e 17=.int .i64 (u0)) (fun Q' hQ=>?_) (fun tD dE hR=>?_)
   ·replace h := hx
    clear hx
    refine Zr ?_
    refine Zf (Za (Zo j6 rfl ?_))
    refine Zg (.int .i64 (u0)) rfl rfl ?_
    refine Zb (Zd (Zf (Za (Zo n7 rfl ?_))))
    refine Zn (.int .i64 (u0)) rfl rfl ?_
    obtain ⟨o3,mB,h⟩:=bsome h
    refine Ze .plain rfl (Zp (g:=iA) (vs:=[up1,.int .i64 (u0)]) en36 (.cons rfl (.cons rfl .nil)) (wk36 l5 mB) fun kC uD j3 hs hr=>?_)
    have hfr:=hfr.ext hs
    have l5:=l5.ext hs
    have a7:=a7.ext hs
    have q5:=q5.ext hs
    have lC:=hr
    refine Zg j3 rfl rfl ?_
    refine Zb (Zd (Zf (Za (Zg (.int .i64 (1)) rfl rfl ?_))))
    refine Zb (Zd (Zr ?_))
    refine E_lp h (fun (s:(List Bool) × Int) e w=>∃ (g:Gh) ,Fr gI wI g w∧e 1=up1∧RV g.m w (x1:List LoomRun) up1∧e 2=p1∧PT g.m w (x0:LoomLoomMill) p1∧e 5=v3∧OM 9012 g w 4 (s.1:List Bool) v3∧e 7=j3∧RV g.m w (o3:List Int) j3∧e 8=.int .i64 (s.2)∧e 16=.int .i64 (((((x0).LoomMill).Widths).length:Int))∧e 17=.int .i64 (u0)) ⟨kC,hfr,n7,l5,jA,a7,o7,q5,rfl,lC,rfl,c7,j6⟩ (fun X425 y9 nB=>?_)
    rintro ⟨u3,o0⟩ vD eE ⟨kA,hfr,u7,v7,c8,e8,g8,i8,k8,l8,m8,d7,e7⟩ h
    refine Zq h (fun (s:Unit) e w=>∃ (g:Gh) ,Fr gI wI g w∧e 1=up1∧RV g.m w (x1:List LoomRun) up1∧e 2=p1∧PT g.m w (x0:LoomLoomMill) p1∧e 5=v3∧OM 9012 g w 4 (u3:List Bool) v3∧e 7=j3∧RV g.m w (o3:List Int) j3∧e 8=.int .i64 (o0)∧e 16=.int .i64 (((((x0).LoomMill).Widths).length:Int))∧e 17=.int .i64 (u0)) (fun X428 bA oB h=>?_) ?_
    ·refine Zf (Za (Zo m8 rfl ?_))
     refine Zo k8 rfl ?_
     refine EL_p (.int .i64 ((o3).length:Int)) (P_len Tryz.underlying26 rfl l8) rfl ?_
     refine EL_in (.bool ((decide (o0 < ((o3).length:Int))))) rfl rfl rfl rfl ?_
     refine Zb (Zd ?_)
     rcases Zt h with ⟨m7,h⟩ | ⟨m7,h⟩
     ·refine E_ct m7 rfl ?_
      exact Zu (Zd (oB () _ _ ⟨kA,hfr,u7,v7,c8,e8,g8,i8,k8,l8,m8,d7,e7⟩ h))
     ·refine E_cf m7 rfl ?_
      refine E_exit ?_
      refine thn_e ?_
      refine thn_e ?_
      refine blk_hit ?_
      refine blk_n ?_
      obtain rfl:=sinj h
      exact hQ _ _ ⟨kA,hfr,u7,v7,c8,e8,g8,i8,d7,e7⟩
    ·rintro _ xD gE ⟨r8, hfr, b7, z2, n8, d3, o8, i3, t5, j1, x5, i9, k9⟩ h
     obtain ⟨z4,hx,h⟩:=bsome h
     refine E_join (fun e w=>∃ (g:Gh) ,Fr gI wI g w∧e 1=up1∧RV g.m w (x1:List LoomRun) up1∧e 2=p1∧PT g.m w (x0:LoomLoomMill) p1∧e 5=v3∧OM 9012 g w 4 (z4:List Bool) v3∧e 7=j3∧RV g.m w (o3:List Int) j3∧e 8=.int .i64 (o0)∧e 16=.int .i64 (((((x0).LoomMill).Widths).length:Int))∧e 17=.int .i64 (u0)) (fun Q' hQ=>?_) (fun yD iE hR=>?_)
     ·replace h := hx
      clear hx
      refine Zr ?_
      refine Zf (Za (Zo b7 rfl ?_))
      refine Zo t5 rfl ?_
      refine Zo x5 rfl ?_
      obtain ⟨q8,v8,h⟩:=bsome h
      refine EL_p (ePtr j3 o0 1) (Zh (α:=Int) Tryz.underlying26 Tryz.sizeOf3 rfl j1 rfl v8) rfl ?_
      have mC:=PT_idx j1 v8
      refine Ze .plain rfl (D_load (g:=r8) Tryz.isAgg3 Tryz.sizeOf3 rfl mC fun jE qC=>?_)
      obtain rfl:=Zj.1 qC
      obtain ⟨z3,x8,h⟩:=bsome h
      refine EL_p (ePtr up1 q8 3) (Zh (α:=LoomRun) Tryz.underlying48 Tryz.sizeOf65 rfl z2 rfl x8) rfl ?_
      have rC:=PT_idx z2 x8
      refine Ze .plain rfl (D_load (g:=r8) Tryz.isAgg65 Tryz.sizeOf65 rfl rC fun tC t8=>?_)
      refine Ze .plain rfl (D_allocOc (g:=r8) 2009 (⟨0,0,0⟩:LoomRun) Tryz.zeroValue65 (fun m w=>⟨_,(rep_two rep_int (rep_two rep_int rep_int)),rfl⟩) fun uC kE lA hs b500 cb=>?_)
      have hfr:=hfr.stp hs
      have z2:=z2.stp hs
      have d3:=d3.stp hs
      have i3:=i3.stp hs rfl
      have j1:=j1.stp hs
      have t8:=t8.stp hs
      clear cb
      refine Ze .plain rfl (D_storeOc (g:=uC) (v:=tC) Tryz.sizeOf65 rfl b500 rfl t8 fun vC lE hs b501 cb=>?_)
      clear cb
      have hfr:=hfr.stp hs
      have z2:=z2.stp hs
      have d3:=d3.stp hs
      have i3:=i3.stp hs rfl
      have j1:=j1.stp hs
      refine Zb (Zd ?_)
      obtain ⟨x6,y8,h⟩:=bsome h
      have xC:=PT_idx j1 y8
      refine Zs (x:=.tmp 39) Tryz.isAgg3 Tryz.sizeOf3 xC fun mE yC tB=>?_
      obtain rfl:=Zj.1 yC
      refine L_loadO (x:=.tmp 41) part_LoomRun_2.1 Tryz.isAgg3 Tryz.sizeOf3 b501 fun nE aD vB=>?_
      obtain rfl:=Zj.1 aD
      refine Zs (x:=.tmp 2) Tryz.isAgg81 Tryz.sizeOf81 d3 fun mA bD xB=>?_
      obtain ⟨g7,a9,h⟩:=bsome h
      have cD:=PT_idx j1 a9
      refine Zs (x:=.tmp 48) Tryz.isAgg3 Tryz.sizeOf3 cD fun oE eD yB=>?_
      obtain rfl:=Zj.1 eD
      obtain ⟨z9,d9,h⟩:=bsome h
      have gD:=PT_idx z2 d9
      refine Zs (x:=.tmp 50) Tryz.isAgg65 Tryz.sizeOf65 gD fun nA iD zB=>?_
      refine L_loadO (x:=.tmp 52) part_LoomRun_0.1 Tryz.isAgg3 Tryz.sizeOf3 b501 fun rE jD aC=>?_
      obtain rfl:=Zj.1 jD
      obtain ⟨i6,cC,h⟩:=bsome h
      obtain ⟨eC,e9,h⟩:=bsome h
      refine E_drawL (g:=vC) (n:=21) [(18,(fun v g w=>v=.int .i64 (i6)))] [0,1,2,3,4,5,6,7,8,9,10,11,12,13,14,15,16,17,18,19,20] rfl mixed (by kernel_rfl) (⟨fun _=>up_eq _,trivial⟩) ?_
      refine L_p v3 rfl rfl (Zk o8) ?_
      refine L_p j3 rfl rfl (Zk t5) ?_
      refine L_p (.int .i64 (o0)) rfl rfl (Zk x5) ?_
      refine L_p (ePtr j3 o0 1) rfl rfl (Zh (α:=Int) Tryz.underlying26 Tryz.sizeOf3 rfl j1 rfl y8) ?_
      refine L_ld (c:=.int .i64 (x6)) rfl rfl .plain (fun _ _ h=>h.ch) tB rfl ?_
      refine L_p (fPtr lA 2) rfl rfl (Zc at_65_2 rfl (OB.ptr b501)) ?_
      refine L_ld (c:=.int .i64 ((z3).From)) rfl rfl .plain (fun _ _ h=>⟨h.ch,fun b hb _=>h.below.block b hb⟩) vB rfl ?_
      refine L_ld (c:=mA) rfl rfl .plain (fun _ _ h=>h.ch) xB n8 ?_
      refine L_p up1 rfl rfl (Zk b7) ?_
      refine L_p j3 rfl rfl (Zk t5) ?_
      refine L_p (.int .i64 (o0)) rfl rfl (Zk x5) ?_
      refine L_p (.int .i64 ((w64 (o0 - (1:Int))))) rfl rfl (P_int rfl rfl rfl) ?_
      refine L_p (ePtr j3 (w64 (o0 - (1:Int))) 1) rfl rfl (Zh (α:=Int) Tryz.underlying26 Tryz.sizeOf3 rfl j1 rfl a9) ?_
      refine L_ld (c:=.int .i64 (g7)) rfl rfl .plain (fun _ _ h=>h.ch) yB rfl ?_
      refine L_p (ePtr up1 g7 3) rfl rfl (Zh (α:=LoomRun) Tryz.underlying48 Tryz.sizeOf65 rfl z2 rfl d9) ?_
      refine L_ld (c:=nA) rfl rfl .plain (fun _ _ h=>h.ch) zB rfl ?_
      refine L_p (fPtr lA 0) rfl rfl (Zc at_65_0 rfl (OB.ptr b501)) ?_
      refine L_ld (c:=.int .i64 ((z3).Order)) rfl rfl .plain (fun _ _ h=>⟨h.ch,fun b hb _=>h.below.block b hb⟩) aC rfl ?_
      refine L_do (φ:=fun v g w=>v=.int .i64 (i6)) rfl rfl .plain (fun g w hd=>Zp (g:=g) (vs:=[mA,nA,.int .i64 ((z3).Order)]) en37 (.cons rfl (.cons rfl (.cons rfl .nil))) (wk37 (bD.ext hd.1) (iD.ext hd.1) cC) fun g' w' v hs hr=>⟨g',hs,hr⟩) (fun sE hv=>?_)
      obtain ⟨_,_,_,rfl⟩:=hv
      refine L_p (.bool ((decide ((z3).From < i6)))) rfl rfl (P_int rfl rfl rfl) ?_
      refine L_p (ePtr v3 x6 1) rfl rfl (P_indexAddrM (α:=Bool) Tryz.underlying86 Tryz.sizeOf4 rfl i3 rfl e9) ?_
      refine L_nl fun kD tE hs=>?_
      have hfr:=hfr.ext hs
      have z2:=z2.ext hs
      have d3:=d3.ext hs
      have i3:=i3.ext hs
      have j1:=j1.ext hs
      clear hs
      refine Ze .plain rfl (D_storeM (g:=kD) (α:=Bool) (a':=((decide ((z3).From < i6)))) Tryz.sizeOf4 rfl i3 e9 rfl (RV_bool.2 rfl) fun lD uE hs b556=>?_)
      have hfr:=hfr.stp hs
      have z2:=z2.stp hs
      have d3:=d3.stp hs
      have j1:=j1.stp hs
      refine Zb (blk_n ?_)
      obtain rfl:=sinj h
      exact hQ _ _ ⟨lD,hfr,b7,z2,n8,d3,o8,b556,t5,j1,x5,i9,k9⟩
     ·clear hx
      obtain ⟨mD,hfr,oA,pA,qA,rA,sA,uA,xA,yA,zA,l9,n9⟩:=hR
      refine Za (Zo zA rfl ?_)
      refine EL_in (.int .i64 ((w64 (o0 + (1:Int))))) rfl rfl rfl rfl ?_
      refine Zg (.int .i64 ((w64 (o0 + (1:Int))))) rfl rfl ?_
      exact Zb (Zd (nB (z4,(w64 (o0 + (1:Int)))) _ _ ⟨mD,hfr,oA,pA,qA,rA,sA,uA,xA,yA,rfl,l9,n9⟩ h))
   ·clear hx
    obtain ⟨nD,hfr,aB,bB,cB,dB,eB,iB,o9,t9⟩:=hR
    refine Za (EL_in (.int .i64 ((w64 (u0 + (1:Int))))) t9 rfl rfl rfl ?_)
    refine Zn (.int .i64 ((w64 (u0 + (1:Int))))) rfl rfl ?_
    exact Zb (Zd (lB (i5,(w64 (u0 + (1:Int)))) _ _ ⟨nD,hfr,aB,bB,cB,dB,eB,iB,o9,rfl⟩ h))
  ·refine E_cf j7 rfl ?_
   refine E_exit ?_
   refine thn_e ?_
   refine thn_e ?_
   refine blk_hit ?_
   obtain rfl:=sinj h
   exact hQ _ _ ⟨iA,hfr,o7,q5⟩
 ·clear hx
  obtain ⟨vE,hfr,jB,kB⟩:=hR
  refine Zf (Za (Zo jB rfl ?_))
  obtain ⟨gp560,hs,rp560⟩:=OM.pub kB
  have hfr:=hfr.stp hs
  obtain ⟨i7,dC,h⟩:=bsome h
  refine Ze .plain rfl (Zp (g:=gp560) (vs:=[v3,.bool true]) en99 (.cons rfl (.cons rfl .nil)) (wk99 rp560 dC) fun xE zD yE hs hr=>?_)
  have hfr:=hfr.ext hs
  subst hr
  refine Zg (.int .i64 (i7)) rfl rfl ?_
  refine Zb (Zd (E_ret ?_))
  obtain rfl:=sinj h
  exact end1 rfl rfl (show _=.int .i64 (i7) from rfl) ⟨_,hfr,rfl⟩
def f90 (x0:List FaultDamage) (x1:Int) (x2:FaultDamage→FaultDamage→Option Int):Option ((List FaultDamage)):=
 Option.bind (α:=(List FaultDamage) × Int) (
  lp (σ:=(List FaultDamage) × Int × Int) (fun k9 (j3,i3,u0)=>
   jn (σ:=Unit) (fun _=>
    (f112 j3 i3 u0 x2).bind fun l9=>
    k9 (l9,u0,(w64 (u0 + (20:Int))))
    ) fun yA=>
   bif (decide (u0 ≤ x1)) then
    yA ()
   else
    some (j3,i3)
   ) big (x0,(0:Int),(20:Int))
  ) fun (q5,o3)=>
 (f112 q5 o3 x1 x2).bind fun zA=>
 lp (σ:=(List FaultDamage) × Int) (fun aB (u3,o0)=>
  jn (σ:=Unit) (fun _=>
   Option.bind (α:=(List FaultDamage) × Int) (
    lp (σ:=(List FaultDamage) × Int × Int) (fun bB (z3,d3,j1)=>
     jn (σ:=Unit) (fun _=>
      (f113 big z3 d3 ((w64 (d3 + o0))) j1 x2).bind fun n9=>
      bB (n9,j1,(w64 (j1 + (w64 ((2:Int) * o0)))))
      ) fun cB=>
     bif (decide (j1 ≤ x1)) then
      cB ()
     else
      some (z3,d3)
     ) big (u3,(0:Int),(w64 ((2:Int) * o0)))
    ) fun (z4,z2)=>
   Option.bind (α:=(List FaultDamage)) (
    bif (decide ((w64 (z2 + o0)) < x1)) then
     (f113 big z4 z2 ((w64 (z2 + o0))) x1 x2).bind fun dB=>
     some (dB)
    else
     some (z4)
    ) fun i5=>
   aB (i5,(w64 (o0 * (2:Int))))
   ) fun eB=>
  bif (decide (o0 < x1)) then
   eB ()
  else
   some (u3)
  ) big (zA,(20:Int))
theorem en90:Enters Tryz.prog 90:=enters_of Tryz.func90 (by kernel_rfl) rfl
theorem wk90 {iI:Nat} {gI:Gh} {wI:World} {x0:List FaultDamage} {x1:Int} {x2:FaultDamage→FaultDamage→Option Int} {up0:Value} (mp0:OM iI gI wI 45 x0 up0) {up2:Value} (rp2:FnV2 Tryz.prog x2 up2 gI wI) {r:(List FaultDamage)} (h:f90 x0 x1 x2=some r):FnM Tryz.prog 90 #[up0,.int .i64 (x1),up2] iI gI wI (fun g w v=>v=.tuple #[]∧OM iI g w 45 r up0):=by
 unfold f90 at h
 refine fnM_of_E Tryz.func90 rfl (Nat.le_of_ble_eq_true rfl) fun g0 hm hfr=>?_
 have o9:=mp0
 replace mp0:=mp0.enter
 rw [← hm] at mp0
 replace hm:g0.m=gI.m:=by rw [hm]
 obtain ⟨ff2,fa2,fc2,rfl,fen2,fcl2⟩:=rp2
 show E _ 63 none _ _ _ _ _
 refine Zf (Za (Zg (.int .i64 (20)) rfl rfl ?_))
 refine Zb (Zd (Zf (Za (Zn (.int .i64 (20)) rfl rfl ?_))))
 refine Zg (.int .i64 (0)) rfl rfl ?_
 refine Zg (.int .i64 (20)) rfl rfl ?_
 refine Zb (Zd ?_)
 obtain ⟨⟨q5,o3⟩,hx,h⟩:=bsome h
 refine E_join (fun e w=>∃ (g:Gh) ,FrM iI gI wI g w∧e 0=up0∧OM 1 g w 45 (q5:List FaultDamage) up0∧e 1=.int .i64 (x1)∧e 2=(.func (.func ff2) fa2 fc2)∧e 6=.int .i64 ((20:Int))∧e 7=.int .i64 (o3)) (fun Q' hQ=>?_) (fun tC lD hR=>?_)
 ·replace h := hx
  clear hx
  refine Zr ?_
  refine E_lp h (fun (s:(List FaultDamage) × Int × Int) e w=>∃ (g:Gh) ,FrM iI gI wI g w∧e 0=up0∧OM 1 g w 45 (s.1:List FaultDamage) up0∧e 1=.int .i64 (x1)∧e 2=(.func (.func ff2) fa2 fc2)∧e 6=.int .i64 ((20:Int))∧e 7=.int .i64 (s.2.1)∧e 8=.int .i64 (s.2.2)) ⟨g0,hfr,rfl,mp0,rfl,rfl,rfl,rfl,rfl⟩ (fun X9 k9 aC=>?_)
  rintro ⟨j3,i3,u0⟩ uC mD ⟨iB,hfr,g7,i7,t5,j7,m7,n7,o7⟩ h
  refine Zq h (fun (s:Unit) e w=>∃ (g:Gh) ,FrM iI gI wI g w∧e 0=up0∧OM 1 g w 45 (j3:List FaultDamage) up0∧e 1=.int .i64 (x1)∧e 2=(.func (.func ff2) fa2 fc2)∧e 6=.int .i64 ((20:Int))∧e 7=.int .i64 (i3)∧e 8=.int .i64 (u0)) (fun X12 yA lB h=>?_) ?_
  ·refine Zf (Za (Zo o7 rfl ?_))
   refine Zo t5 rfl ?_
   refine EL_in (.bool ((decide (u0 ≤ x1)))) rfl rfl rfl rfl ?_
   refine Zb (Zd ?_)
   rcases Zt h with ⟨b7,h⟩ | ⟨b7,h⟩
   ·refine E_ct b7 rfl ?_
    exact Zu (Zd (lB () _ _ ⟨iB,hfr,g7,i7,t5,j7,m7,n7,o7⟩ h))
   ·refine E_cf b7 rfl ?_
    refine E_exit ?_
    refine thn_e ?_
    refine thn_e ?_
    refine blk_hit ?_
    obtain ⟨rfl,rfl⟩:=pairs2 h
    exact hQ _ _ ⟨iB,hfr,g7,i7,t5,j7,m7,n7⟩
  ·rintro _ vC nD ⟨cC, hfr, u7, t9, u9, v7, c8, y9, x5⟩ h
   refine Zr ?_
   refine Zf (Za (Zo u7 rfl ?_))
   refine Zo y9 rfl ?_
   refine Zo x5 rfl ?_
   refine Zo v7 rfl ?_
   obtain ⟨l9,mB,h⟩:=bsome h
   refine Ze .plain rfl (D_callM (g:=cC) (i:=1) (vs:=[up0,.int .i64 (i3),.int .i64 (u0),(.func (.func ff2) fa2 fc2)]) en112 (.cons rfl (.cons rfl (.cons rfl (.cons rfl .nil)))) (wk112 t9 (FnV2.ch ⟨_,_,_,rfl,fen2,fcl2⟩ hfr.ch) mB) fun dC xC oD hs hr=>?_)
   obtain ⟨hrv,b15⟩:=hr
   have hfr:=hfr.stp hs
   subst hrv
   refine Zb (Zd (Zf (Za (Zo x5 rfl ?_))))
   refine Zg (.int .i64 (u0)) rfl rfl ?_
   refine Zb (Zd (Za (Zo x5 rfl ?_)))
   refine Zo c8 rfl ?_
   refine EL_in (.int .i64 ((w64 (u0 + (20:Int))))) rfl rfl rfl rfl ?_
   refine Zg (.int .i64 ((w64 (u0 + (20:Int))))) rfl rfl ?_
   exact Zb (blk_n (Zd (aC (l9,u0,(w64 (u0 + (20:Int)))) _ _ ⟨dC,hfr,u7,b15,u9,v7,c8,rfl,rfl⟩ h)))
 ·clear hx
  obtain ⟨eC,hfr,e8,z9,g8,i8,bA,gA⟩:=hR
  refine Zf (Za (Zo e8 rfl ?_))
  refine Zo gA rfl ?_
  refine Zo g8 rfl ?_
  refine Zo i8 rfl ?_
  obtain ⟨zA,nB,h⟩:=bsome h
  refine Ze .plain rfl (D_callM (g:=eC) (i:=1) (vs:=[up0,.int .i64 (o3),.int .i64 (x1),(.func (.func ff2) fa2 fc2)]) en112 (.cons rfl (.cons rfl (.cons rfl (.cons rfl .nil)))) (wk112 z9 (FnV2.ch ⟨_,_,_,rfl,fen2,fcl2⟩ hfr.ch) nB) fun iC yC sD hs hr=>?_)
  obtain ⟨hrv,b18⟩:=hr
  have hfr:=hfr.stp hs
  subst hrv
  refine Zb (Zd (Zr ?_))
  refine E_lp h (fun (s:(List FaultDamage) × Int) e w=>∃ (g:Gh) ,FrM iI gI wI g w∧e 0=up0∧OM 1 g w 45 (s.1:List FaultDamage) up0∧e 1=.int .i64 (x1)∧e 2=(.func (.func ff2) fa2 fc2)∧e 6=.int .i64 (s.2)) ⟨iC,hfr,e8,b18,g8,i8,bA⟩ (fun X20 aB oB=>?_)
  rintro ⟨u3,o0⟩ aD tD ⟨jC,hfr,iA,k8,l8,jA,m8⟩ h
  refine Zq h (fun (s:Unit) e w=>∃ (g:Gh) ,FrM iI gI wI g w∧e 0=up0∧OM 1 g w 45 (u3:List FaultDamage) up0∧e 1=.int .i64 (x1)∧e 2=(.func (.func ff2) fa2 fc2)∧e 6=.int .i64 (o0)) (fun X23 eB tB h=>?_) ?_
  ·refine Zf (Za (Zo m8 rfl ?_))
   refine Zo l8 rfl ?_
   refine EL_in (.bool ((decide (o0 < x1)))) rfl rfl rfl rfl ?_
   refine Zb (Zd ?_)
   rcases Zt h with ⟨c7,h⟩ | ⟨c7,h⟩
   ·refine E_ct c7 rfl ?_
    exact Zu (Zd (tB () _ _ ⟨jC,hfr,iA,k8,l8,jA,m8⟩ h))
   ·refine E_cf c7 rfl ?_
    refine E_exit ?_
    refine thn_e ?_
    refine thn_e ?_
    refine blk_hit ?_
    obtain rfl:=sinj h
    exact end0n rfl rfl ⟨_,hfr,rfl,o9.back k8⟩
  ·rintro _ bD uD ⟨kC, hfr, kA, lA, mA, nA, n8⟩ h
   refine Zr ?_
   refine Zf (Za (Zo n8 rfl ?_))
   refine EL_in (.int .i64 ((w64 ((2:Int) * o0)))) rfl rfl rfl rfl ?_
   refine Zg (.int .i64 (0)) rfl rfl ?_
   refine Zg (.int .i64 ((w64 ((2:Int) * o0)))) rfl rfl ?_
   refine Zb (Zd ?_)
   obtain ⟨⟨z4,z2⟩,hx,h⟩:=bsome h
   refine E_join (fun e w=>∃ (g:Gh) ,FrM iI gI wI g w∧e 0=up0∧OM 1 g w 45 (z4:List FaultDamage) up0∧e 1=.int .i64 (x1)∧e 2=(.func (.func ff2) fa2 fc2)∧e 6=.int .i64 (o0)∧e 7=.int .i64 (z2)) (fun Q' hQ=>?_) (fun cD vD hR=>?_)
   ·replace h := hx
    clear hx
    refine Zr ?_
    refine E_lp h (fun (s:(List FaultDamage) × Int × Int) e w=>∃ (g:Gh) ,FrM iI gI wI g w∧e 0=up0∧OM 1 g w 45 (s.1:List FaultDamage) up0∧e 1=.int .i64 (x1)∧e 2=(.func (.func ff2) fa2 fc2)∧e 6=.int .i64 (o0)∧e 7=.int .i64 (s.2.1)∧e 8=.int .i64 (s.2.2)) ⟨kC,hfr,kA,lA,mA,nA,n8,rfl,rfl⟩ (fun X34 bB vB=>?_)
    rintro ⟨z3,d3,j1⟩ eD xD ⟨jB,hfr,o8,q8,i6,r8,t8,v8,x8⟩ h
    refine Zq h (fun (s:Unit) e w=>∃ (g:Gh) ,FrM iI gI wI g w∧e 0=up0∧OM 1 g w 45 (z3:List FaultDamage) up0∧e 1=.int .i64 (x1)∧e 2=(.func (.func ff2) fa2 fc2)∧e 6=.int .i64 (o0)∧e 7=.int .i64 (d3)∧e 8=.int .i64 (j1)) (fun X37 cB xB h=>?_) ?_
    ·refine Zf (Za (Zo x8 rfl ?_))
     refine Zo i6 rfl ?_
     refine EL_in (.bool ((decide (j1 ≤ x1)))) rfl rfl rfl rfl ?_
     refine Zb (Zd ?_)
     rcases Zt h with ⟨d7,h⟩ | ⟨d7,h⟩
     ·refine E_ct d7 rfl ?_
      exact Zu (Zd (xB () _ _ ⟨jB,hfr,o8,q8,i6,r8,t8,v8,x8⟩ h))
     ·refine E_cf d7 rfl ?_
      refine E_exit ?_
      refine thn_e ?_
      refine thn_e ?_
      refine blk_hit ?_
      obtain ⟨rfl,rfl⟩:=pairs2 h
      exact hQ _ _ ⟨jB,hfr,o8,q8,i6,r8,t8,v8⟩
    ·rintro _ gD yD ⟨lC, hfr, y8, oA, pA, a9, j6, d9, v6⟩ h
     refine Zr ?_
     refine Zf (Za (Zo y8 rfl ?_))
     refine Zo d9 rfl ?_
     refine Zo d9 rfl ?_
     refine Zo j6 rfl ?_
     refine EL_in (.int .i64 ((w64 (d3 + o0)))) rfl rfl rfl rfl ?_
     refine Zo v6 rfl ?_
     refine Zo a9 rfl ?_
     obtain ⟨n9,yB,h⟩:=bsome h
     refine Ze .plain rfl (D_callM (g:=lC) (i:=1) (vs:=[up0,.int .i64 (d3),.int .i64 ((w64 (d3 + o0))),.int .i64 (j1),(.func (.func ff2) fa2 fc2)]) en113 (.cons rfl (.cons rfl (.cons rfl (.cons rfl (.cons rfl .nil))))) (wk113 big oA (FnV2.ch ⟨_,_,_,rfl,fen2,fcl2⟩ hfr.ch) yB) fun mC iD zD hs hr=>?_)
     obtain ⟨hrv,b40⟩:=hr
     have hfr:=hfr.stp hs
     subst hrv
     refine Zb (Zd (Zf (Za (Zo v6 rfl ?_))))
     refine Zg (.int .i64 (j1)) rfl rfl ?_
     refine Zb (Zd (Za (Zo v6 rfl ?_)))
     refine Zo j6 rfl ?_
     refine EL_in (.int .i64 ((w64 ((2:Int) * o0)))) rfl rfl rfl rfl ?_
     refine EL_p (.int .i64 ((w64 (j1 + (w64 ((2:Int) * o0)))))) (P_int rfl rfl rfl) rfl ?_
     refine EL_p (.int .i64 ((w64 (j1 + (w64 ((2:Int) * o0)))))) (P_assign rfl) rfl ?_
     exact Zb (blk_n (Zd (vB (n9,j1,(w64 (j1 + (w64 ((2:Int) * o0))))) _ _ ⟨mC,hfr,y8,b40,pA,a9,j6,rfl,rfl⟩ h)))
   ·clear hx
    obtain ⟨kB,hfr,x6,e9,l5,y6,a7,i9⟩:=hR
    obtain ⟨i5,hx,h⟩:=bsome h
    refine E_join (fun e w=>∃ (g:Gh) ,FrM iI gI wI g w∧e 0=up0∧OM 1 g w 45 (i5:List FaultDamage) up0∧e 1=.int .i64 (x1)∧e 2=(.func (.func ff2) fa2 fc2)∧e 6=.int .i64 (o0)) (fun Q' hQ=>?_) (fun jD aE hR=>?_)
    ·replace h := hx
     clear hx
     refine Zf (Za (Zo i9 rfl ?_))
     refine Zo a7 rfl ?_
     refine EL_in (.int .i64 ((w64 (z2 + o0)))) rfl rfl rfl rfl ?_
     refine Zg (.int .i64 ((w64 (z2 + o0)))) rfl rfl ?_
     refine Zb (Zd (Zf (Za (Zn (.int .i64 ((w64 (z2 + o0)))) rfl rfl ?_))))
     refine Zo l5 rfl ?_
     refine EL_in (.bool ((decide ((w64 (z2 + o0)) < x1)))) rfl rfl rfl rfl ?_
     refine Zb (Zd ?_)
     rcases Zt h with ⟨e7,h⟩ | ⟨e7,h⟩
     ·refine E_ct e7 rfl ?_
      refine Za (Zo x6 rfl ?_)
      refine Zo i9 rfl ?_
      refine Zn (.int .i64 ((w64 (z2 + o0)))) rfl rfl ?_
      refine Zo l5 rfl ?_
      refine Zo y6 rfl ?_
      obtain ⟨dB,zB,h⟩:=bsome h
      refine Ze .plain rfl (D_callM (g:=kB) (i:=1) (vs:=[up0,.int .i64 (z2),.int .i64 ((w64 (z2 + o0))),.int .i64 (x1),(.func (.func ff2) fa2 fc2)]) en113 (.cons rfl (.cons rfl (.cons rfl (.cons rfl (.cons rfl .nil))))) (wk113 big e9 (FnV2.ch ⟨_,_,_,rfl,fen2,fcl2⟩ hfr.ch) zB) fun qC kD bE hs hr=>?_)
      obtain ⟨hrv,b47⟩:=hr
      have hfr:=hfr.stp hs
      subst hrv
      refine Zb ?_
      obtain rfl:=sinj h
      exact hQ _ _ ⟨qC,hfr,x6,b47,l5,y6,a7⟩
     ·refine E_cf e7 rfl ?_
      refine Zu ?_
      obtain rfl:=sinj h
      exact hQ _ _ ⟨kB,hfr,x6,e9,l5,y6,a7⟩
    ·clear hx
     obtain ⟨rC,hfr,qA,rA,sA,uA,xA⟩:=hR
     refine Za (Zo xA rfl ?_)
     refine EL_in (.int .i64 ((w64 (o0 * (2:Int))))) rfl rfl rfl rfl ?_
     refine Zg (.int .i64 ((w64 (o0 * (2:Int))))) rfl rfl ?_
     exact Zb (blk_n (Zd (oB (i5,(w64 (o0 * (2:Int)))) _ _ ⟨rC,hfr,qA,rA,sA,uA,rfl⟩ h)))
def f39 (x0:LoomRun):Option (Bool):=
 (f40 (([(x0).From]:List Int))).bind fun y6=>
 some ((!y6))
theorem en39:Enters Tryz.prog 39:=enters_of Tryz.func39 (by kernel_rfl) rfl
theorem wk39 {gI:Gh} {wI:World} {x0:LoomRun} {up0:Value} (rp0:RV gI.m wI x0 up0) {r:Bool} (h:f39 x0=some r):Fn Tryz.prog 39 #[up0] gI wI (fun _ _ v=>v=.bool (r)):=by
 unfold f39 at h
 refine fn_of_E Tryz.func39 rfl (Nat.le_of_ble_eq_true rfl) fun g0 hm hfr=>?_
 have rp0:RV g0.m wI x0 up0:=hm ▸ rp0
 show E _ 8 none _ _ _ _ _
 refine Zf (Za (Ze .plain rfl (D_box (g:=g0) rfl rp0 fun g1 w1 p1 hs q1=>?_)))
 have hfr:=hfr.ext hs
 refine Zg (.bool false) rfl rfl ?_
 refine Zb (Zd (Zf (Za (EL_p (fPtr p1 2) (Zc at_65_2 rfl (PT.ptr q1)) rfl ?_))))
 have q2:=Zm (part_LoomRun_2).1 q1
 refine Ze .plain rfl (D_load (g:=g1) Tryz.isAgg3 Tryz.sizeOf3 rfl q2 fun v3 r3=>?_)
 obtain rfl:=Zj.1 r3
 refine Ze .plain rfl (D_buildSlice (g:=g1) 3005 (xs:=([(x0).From]:List Int)) (vs:=[.int .i64 ((x0).From)]) Tryz.underlying26 Tryz.sizeOf3 Tryz.zeroValue3 rfl rfl (.cons rfl .nil) (RVs.cons (Zj.2 rfl) RVs.nil) rfl rfl fun g4 w4 v4 hs o4 r4 hxt hfl=>?_)
 have hfr:=hfr.stp hs
 obtain ⟨y6,o0,h⟩:=bsome h
 refine Ze .plain rfl (Zp (g:=g4) (vs:=[v4]) en40 (.cons rfl .nil) (wk40 r4 o0) fun g5 w5_ v5 hs hr=>?_)
 have hfr:=hfr.ext hs
 subst hr
 refine EL_p (.bool (!y6)) (P_not rfl) rfl ?_
 refine Zg (.bool (!y6)) rfl rfl ?_
 refine Zb (Zd (E_ret ?_))
 obtain rfl:=sinj h
 exact end1 rfl rfl (show _=.bool (!y6) from rfl) ⟨_,hfr,rfl⟩
def f44 (x0:FaultDamage) (z0:FaultLoom):Option (Bool):=
 (f45 ((⟨z0⟩:FaultFaultLoom)) x0).bind fun y6=>
 some ((!y6))
theorem en44:Enters Tryz.prog 44:=enters_of Tryz.func44 (by kernel_rfl) rfl
theorem wk44 {gI:Gh} {wI:World} {x0:FaultDamage} {z0:FaultLoom} {up0:Value} (rp0:RV gI.m wI x0 up0) {pf0:Value} (qf0:PT gI.m wI z0 pf0) {r:Bool} (h:f44 x0 z0=some r):Fn Tryz.prog 44 #[up0,pf0] gI wI (fun _ _ v=>v=.bool (r)):=by
 unfold f44 at h
 refine fn_of_E Tryz.func44 rfl (Nat.le_of_ble_eq_true rfl) fun g0 hm hfr=>?_
 have qf0:PT g0.m wI z0 pf0:=hm ▸ qf0
 have rp0:RV g0.m wI x0 up0:=hm ▸ rp0
 show E _ 9 none _ _ _ _ _
 refine Zf (Za (Ze .plain rfl (D_box (g:=g0) rfl rp0 fun g1 w1 p1 hs q1=>?_)))
 have hfr:=hfr.ext hs
 have qf0:=qf0.ext hs
 refine Zg (.bool false) rfl rfl ?_
 refine Zb (Zd (Zf (Za (Ze .plain rfl (D_load (g:=g1) Tryz.isAgg37 Tryz.sizeOf37 rfl qf0 fun v2 r2=>?_)))))
 have r3:RV g1.m _ (⟨z0⟩:FaultFaultLoom) (.agg (setCh [[.int .i64 0,.slice none 0 0,.int .i64 0,.slice none 0 0]] [(0,v2)]).flatten.toArray):=RV_build rfl (rep_last (RV.cells r2))
 generalize hv3:(Value.agg (setCh [[.int .i64 0,.slice none 0 0,.int .i64 0,.slice none 0 0]] [(0,v2)]).flatten.toArray)=v3 at r3
 refine EL_p v3 (hv3 ▸ P_build (vs:=[(0,v2)]) [[.int .i64 0,.slice none 0 0,.int .i64 0,.slice none 0 0]] lay_73 rfl rfl (.cons rfl .nil) ⟨⟨_,rfl,cells_size r2⟩,trivial⟩) rfl ?_
 refine Ze .plain rfl (D_load (g:=g1) Tryz.isAgg45 Tryz.sizeOf45 rfl q1 fun v4 r4=>?_)
 obtain ⟨y6,o0,h⟩:=bsome h
 refine Ze .plain rfl (Zp (g:=g1) (vs:=[v3,v4]) en45 (.cons rfl (.cons rfl .nil)) (wk45 r3 r4 o0) fun g5 w5_ v5 hs hr=>?_)
 have hfr:=hfr.ext hs
 subst hr
 refine EL_p (.bool (!y6)) (P_not rfl) rfl ?_
 refine Zg (.bool (!y6)) rfl rfl ?_
 refine Zb (Zd (E_ret ?_))
 obtain rfl:=sinj h
 exact end1 rfl rfl (show _=.bool (!y6) from rfl) ⟨_,hfr,rfl⟩
def f49 (x0:LoomOrder):Option (Bool):=
 (f50 x0).bind fun y4=>
 some ((!y4))
theorem en49:Enters Tryz.prog 49:=enters_of Tryz.func49 (by kernel_rfl) rfl
theorem wk49 {gI:Gh} {wI:World} {x0:LoomOrder} {up0:Value} (rp0:RV gI.m wI x0 up0) {r:Bool} (h:f49 x0=some r):Fn Tryz.prog 49 #[up0] gI wI (fun _ _ v=>v=.bool (r)):=by
 unfold f49 at h
 refine fn_of_E Tryz.func49 rfl (Nat.le_of_ble_eq_true rfl) fun g0 hm hfr=>?_
 have rp0:RV g0.m wI x0 up0:=hm ▸ rp0
 show E _ 6 none _ _ _ _ _
 refine Zf (Za (Ze .plain rfl (D_box (g:=g0) rfl rp0 fun g1 w1 p1 hs q1=>?_)))
 have hfr:=hfr.ext hs
 refine Zg (.bool false) rfl rfl ?_
 refine Zb (Zd (Zf (Za (Ze .plain rfl (D_load (g:=g1) Tryz.isAgg67 Tryz.sizeOf67 rfl q1 fun v2 r2=>?_)))))
 obtain ⟨y4,o0,h⟩:=bsome h
 refine Ze .plain rfl (Zp (g:=g1) (vs:=[v2]) en50 (.cons rfl .nil) (wk50 r2 o0) fun g3 w3_ v3 hs hr=>?_)
 have hfr:=hfr.ext hs
 subst hr
 refine EL_p (.bool (!y4)) (P_not rfl) rfl ?_
 refine Zg (.bool (!y4)) rfl rfl ?_
 refine Zb (Zd (E_ret ?_))
 obtain rfl:=sinj h
 exact end1 rfl rfl (show _=.bool (!y4) from rfl) ⟨_,hfr,rfl⟩
def f59 (x0:LoomLoomMill) (x1:List LoomRun):Option (Int × Int):=
 jn (σ:=Unit) (fun _=>
  jn (σ:=Unit) (fun _=>
   jn (σ:=Unit) (fun _=>
    some ((0:Int),(0:Int))
    ) fun e7=>
   (f83 x0 x1).bind fun u0=>
   bif (decide (u0 ≥ (0 : Int))) then
    some (u0,(6:Int))
   else
    e7 ()
   ) fun g7=>
  lp (σ:=Int) (fun i7 o0=>
   bif (decide (o0 < ((x1).length : Int))) then
    jn (σ:=Unit) (fun _=>
     i7 ((w64 (o0 + (1:Int))))
     ) fun j7=>
    (f82 x0 x1 o0).bind fun j1=>
    bif (j1 != (0 : Int)) then
     some (o0,j1)
    else
     j7 ()
   else
    g7 ()
   ) big ((0:Int))
  ) fun k5=>
 bif (decide (((x1).length : Int) > (((x0).orders).length : Int))) then
  some ((0:Int),(5:Int))
 else
  k5 ()
theorem en59:Enters Tryz.prog 59:=enters_of Tryz.func59 (by kernel_rfl) rfl
theorem wk59 {gI:Gh} {wI:World} {x0:LoomLoomMill} {x1:List LoomRun} {up0:Value} (rp0:RV gI.m wI x0 up0) {up1:Value} (rp1:RV gI.m wI x1 up1) {r:Int × Int} (h:f59 x0 x1=some r):Fn Tryz.prog 59 #[up0,up1] gI wI (fun m w v=>∃ y0 y1,v=.tuple #[y0,y1]∧y0=.int .i64 (r.1)∧y1=.int .i64 (r.2)):=by
 unfold f59 at h
 refine fn_of_E Tryz.func59 rfl (Nat.le_of_ble_eq_true rfl) fun g0 hm hfr=>?_
 have rp0:RV g0.m wI x0 up0:=hm ▸ rp0
 have rp1:RV g0.m wI x1 up1:=hm ▸ rp1
 show E _ 35 none _ _ _ _ _
 refine Zf (Za (Ze .plain rfl (D_box (g:=g0) rfl rp0 fun g1 w1 p1 hs q1=>?_)))
 have hfr:=hfr.ext hs
 have rp1:=rp1.ext hs
 refine Zg (.int .i64 (0)) rfl rfl ?_
 refine Zg (.int .i64 (0)) rfl rfl ?_
 refine Zb (Zd (Zq h (fun (s:Unit) e w=>∃ (g:Gh) ,Fr gI wI g w∧e 1=up1∧RV g.m w (x1:List LoomRun) up1∧e 2=p1∧PT g.m w (x0:LoomLoomMill) p1) (fun X5 k5 hk5 h=>?_) ?_))
 ·refine Zf (Za (Zn up1 rfl rfl ?_))
  refine EL_p (.int .i64 ((x1).length:Int)) (P_len Tryz.underlying48 rfl rp1) rfl ?_
  refine EL_p (fPtr p1 2) (Zc at_81_1 rfl (PT.ptr q1)) rfl ?_
  have q6:=Zm (part_LoomLoomMill_1).1 q1
  refine Ze .plain rfl (D_load (g:=g1) Tryz.isAgg29 Tryz.sizeOf29 rfl q6 fun v7 r7=>?_)
  refine EL_p (.int .i64 (((x0).orders).length:Int)) (P_len Tryz.underlying29 rfl r7) rfl ?_
  refine EL_p (.bool ((decide (((x1).length:Int) > (((x0).orders).length:Int))))) (P_int rfl rfl rfl) rfl ?_
  refine Zb (Zd ?_)
  rcases Zt h with ⟨hc8,h⟩ | ⟨hc8,h⟩
  ·refine E_ct hc8 rfl ?_
   refine Zf (Za (Zg (.int .i64 (0)) rfl rfl ?_))
   refine Zg (.int .i64 (5)) rfl rfl ?_
   refine Zb (Zd (E_ret (thn_r ?_)))
   obtain rfl:=sinj h
   exact end2 rfl rfl (show _=.int .i64 (0) from rfl) (show _=.int .i64 (5) from rfl) ⟨_,hfr,_,_,rfl,rfl,rfl⟩
  ·refine E_cf hc8 rfl ?_
   exact Zu (Zd (hk5 () _ _ ⟨g1,hfr,rfl,rp1,rfl,q1⟩ h))
 ·rintro _ i9 w9 ⟨g9, hfr, l5, q5, n7, o7⟩ h
  refine Zq h (fun (s:Unit) e w=>∃ (g:Gh) ,Fr gI wI g w∧e 1=up1∧RV g.m w (x1:List LoomRun) up1∧e 2=p1∧PT g.m w (x0:LoomLoomMill) p1) (fun X23 g7 u7 h=>?_) ?_
  ·refine Zf (Za (Zo l5 rfl ?_))
   refine EL_p (.int .i64 ((x1).length:Int)) (P_len Tryz.underlying48 rfl q5) rfl ?_
   refine Zn (.int .i64 (0)) rfl rfl ?_
   refine Zb (Zd (Zr ?_))
   refine E_lp h (fun (s:Int) e w=>∃ (g:Gh) ,Fr gI wI g w∧e 1=up1∧RV g.m w (x1:List LoomRun) up1∧e 2=p1∧PT g.m w (x0:LoomLoomMill) p1∧e 16=.int .i64 (((x1).length:Int))∧e 17=.int .i64 (s)) ⟨g9,hfr,l5,q5,n7,o7,rfl,rfl⟩ (fun X24 i7 c8=>?_)
   rintro o0 v8 k9 ⟨t5,hfr,j3,z2,o3,d3,u3,i3⟩ h
   refine Zf (Za (EL_in (.bool ((decide (o0 < ((x1).length:Int))))) i3 u3 rfl rfl ?_))
   refine Zb (Zd (Zf ?_))
   rcases Zt h with ⟨z3,h⟩ | ⟨z3,h⟩
   ·refine E_ct z3 rfl ?_
    refine Zu (Zd (Zq h (fun (s:Unit) e w=>∃ (g:Gh) ,Fr gI wI g w∧e 1=up1∧RV g.m w (x1:List LoomRun) up1∧e 2=p1∧PT g.m w (x0:LoomLoomMill) p1∧e 16=.int .i64 (((x1).length:Int))∧e 17=.int .i64 (o0)) (fun X31 j7 e8 h=>?_) ?_))
    ·refine Zr ?_
     refine Zf (Za (Zo i3 rfl ?_))
     refine Zg (.int .i64 (o0)) rfl rfl ?_
     refine Zb (Zd (Zf (Za (Ze .plain rfl (D_load (g:=t5) Tryz.isAgg81 Tryz.sizeOf81 o3 d3 fun l8 m8=>?_)))))
     refine Zo j3 rfl ?_
     refine Zn (.int .i64 (o0)) rfl rfl ?_
     obtain ⟨j1,g8,h⟩:=bsome h
     refine Ze .plain rfl (Zp (g:=t5) (vs:=[l8,up1,.int .i64 (o0)]) en82 (.cons rfl (.cons rfl (.cons rfl .nil))) (wk82 m8 z2 g8) fun n8 x8 l9 hs hr=>?_)
     have hfr:=hfr.ext hs
     have z2:=z2.ext hs
     have d3:=d3.ext hs
     subst hr
     refine Zg (.int .i64 (j1)) rfl rfl ?_
     refine Zb (Zd (Zf (Za (Zn (.int .i64 (j1)) rfl rfl ?_))))
     refine EL_in (.bool ((j1 != (0:Int)))) rfl rfl rfl rfl ?_
     refine Zb (Zd ?_)
     rcases Zt h with ⟨z4,h⟩ | ⟨z4,h⟩
     ·refine E_ct z4 rfl ?_
      refine Zf (Za (Zn (.int .i64 (o0)) rfl rfl ?_))
      refine Zn (.int .i64 (j1)) rfl rfl ?_
      refine Zg (.int .i64 (o0)) rfl rfl ?_
      refine Zg (.int .i64 (j1)) rfl rfl ?_
      refine Zb (Zd (E_ret (blk_r ?_)))
      refine thn_r ?_
      refine thn_r ?_
      refine blk_r ?_
      refine thn_r ?_
      obtain rfl:=sinj h
      exact end2 rfl rfl (show _=.int .i64 (o0) from rfl) (show _=.int .i64 (j1) from rfl) ⟨_,hfr,_,_,rfl,rfl,rfl⟩
     ·refine E_cf z4 rfl ?_
      exact Zu (blk_n (Zd (e8 () _ _ ⟨n8,hfr,j3,z2,o3,d3,u3,i3⟩ h)))
    ·rintro _ y8 n9 ⟨o8, hfr, j6, v6, x6, y6, x5, i6⟩ h
     refine Za (EL_in (.int .i64 ((w64 (o0 + (1:Int))))) i6 rfl rfl rfl ?_)
     refine Zn (.int .i64 ((w64 (o0 + (1:Int))))) rfl rfl ?_
     exact Zb (Zd (c8 ((w64 (o0 + (1:Int)))) _ _ ⟨o8,hfr,j6,v6,x6,y6,x5,rfl⟩ h))
   ·refine E_cf z3 rfl ?_
    refine E_exit ?_
    refine thn_e ?_
    refine thn_e ?_
    refine blk_hit ?_
    exact Zd (u7 () _ _ ⟨t5,hfr,j3,z2,o3,d3⟩ h)
  ·rintro _ a9 o9 ⟨m7, hfr, a7, b7, c7, d7⟩ h
   refine Zq h (fun (s:Unit) e w=>∃ (g:Gh) ,Fr gI wI g w) (fun X42 e7 i8 h=>?_) ?_
   ·refine Zf (Za (Ze .plain rfl (D_load (g := m7) Tryz.isAgg81 Tryz.sizeOf81 c7 d7 fun q8 r8 => ?_)))
    refine Zo a7 rfl ?_
    obtain ⟨u0,k8,h⟩:=bsome h
    refine Ze .plain rfl (Zp (g:=m7) (vs:=[q8,up1]) en83 (.cons rfl (.cons rfl .nil)) (wk83 r8 b7 k8) fun t8 d9 t9 hs hr=>?_)
    have hfr:=hfr.ext hs
    subst hr
    refine Zg (.int .i64 (u0)) rfl rfl ?_
    refine Zb (Zd (Zf (Za (Zn (.int .i64 (u0)) rfl rfl ?_))))
    refine EL_in (.bool ((decide (u0 ≥ (0:Int))))) rfl rfl rfl rfl ?_
    refine Zb (Zd ?_)
    rcases Zt h with ⟨i5,h⟩ | ⟨i5,h⟩
    ·refine E_ct i5 rfl ?_
     refine Zf (Za (Zn (.int .i64 (u0)) rfl rfl ?_))
     refine Zg (.int .i64 (u0)) rfl rfl ?_
     refine Zg (.int .i64 (6)) rfl rfl ?_
     refine Zb (Zd (E_ret (thn_r ?_)))
     obtain rfl:=sinj h
     exact end2 rfl rfl (show _=.int .i64 (u0) from rfl) (show _=.int .i64 (6) from rfl) ⟨_,hfr,_,_,rfl,rfl,rfl⟩
    ·refine E_cf i5 rfl ?_
     exact Zu (Zd (i8 () _ _ ⟨t8,hfr⟩ h))
   ·rintro _ e9 u9 ⟨y9, hfr⟩ h
    refine Zf (Za (Zg (.int .i64 (0)) rfl rfl ?_))
    refine Zg (.int .i64 (0)) rfl rfl ?_
    refine Zb (Zd (E_ret ?_))
    obtain rfl:=sinj h
    exact end2 rfl rfl (show _=.int .i64 (0) from rfl) (show _=.int .i64 (0) from rfl) ⟨_,hfr,_,_,rfl,rfl,rfl⟩
def f71 (x0:List FaultDamage) (x1:FaultDamage→FaultDamage→Option Int):Option ((List FaultDamage)):=
 (f90 x0 (((x0).length:Int)) x1).bind fun y2=>
 some (y2)
theorem en71:Enters Tryz.prog 71:=enters_of Tryz.func71 (by kernel_rfl) rfl
theorem wk71 {iI:Nat} {gI:Gh} {wI:World} {x0:List FaultDamage} {x1:FaultDamage→FaultDamage→Option Int} {up0:Value} (mp0:OM iI gI wI 45 x0 up0) {up1:Value} (rp1:FnV2 Tryz.prog x1 up1 gI wI) {r:(List FaultDamage)} (h:f71 x0 x1=some r):FnM Tryz.prog 71 #[up0,up1] iI gI wI (fun g w v=>v=.tuple #[]∧OM iI g w 45 r up0):=by
 unfold f71 at h
 refine fnM_of_E Tryz.func71 rfl (Nat.le_of_ble_eq_true rfl) fun g0 hm hfr=>?_
 have o0:=mp0
 replace mp0:=mp0.enter
 rw [← hm] at mp0
 replace hm:g0.m=gI.m:=by rw [hm]
 obtain ⟨ff1,fa1,fc1,rfl,fen1,fcl1⟩:=rp1
 show E _ 9 none _ _ _ _ _
 refine Za (Zn up0 rfl rfl ?_)
 refine Zn up0 rfl rfl ?_
 refine EL_p (.int .i64 ((x0).length:Int)) (P_lenM Tryz.underlying47 rfl mp0) rfl ?_
 refine Zn ((.func (.func ff1) fa1 fc1)) rfl rfl ?_
 obtain ⟨y2,hy2,h⟩:=bsome h
 refine Ze .plain rfl (D_callM (g:=g0) (i:=1) (vs:=[up0,.int .i64 ((x0).length:Int),(.func (.func ff1) fa1 fc1)]) en90 (.cons rfl (.cons rfl (.cons rfl .nil))) (wk90 mp0 (FnV2.ch ⟨_,_,_,rfl,fen1,fcl1⟩ hfr.ch) hy2) fun g1 w1_ v1 hs hr=>?_)
 obtain ⟨hrv,b1⟩:=hr
 have hfr:=hfr.stp hs
 subst hrv
 refine Zb ?_
 obtain rfl:=sinj h
 exact end0n rfl rfl ⟨_,hfr,rfl,o0.back b1⟩
def f19 (x0:FaultLoom) (x1:List FaultDamage):Option (Int):=
 jn (σ:=Unit) (fun _=>
  jn (σ:=Unit) (fun _=>
   some ((0:Int))
   ) fun u3=>
  bif (decide (((x1).length : Int) > (100 : Int))) then
   some ((5:Int))
  else
   (f46 x1 ((fun a0=>f44 a0 x0))).bind fun i3=>
   bif i3 then
    some ((2:Int))
   else
    u3 ()
  ) fun k6=>
 (f43 x0).bind fun y9=>
 bif (y9 != (0 : Int)) then
  some (y9)
 else
  k6 ()
theorem en19:Enters Tryz.prog 19:=enters_of Tryz.func19 (by kernel_rfl) rfl
theorem wk19 {gI:Gh} {wI:World} {x0:FaultLoom} {x1:List FaultDamage} {up0:Value} (rp0:RV gI.m wI x0 up0) {up1:Value} (rp1:RV gI.m wI x1 up1) {r:Int} (h:f19 x0 x1=some r):Fn Tryz.prog 19 #[up0,up1] gI wI (fun _ _ v=>v=.int .i64 (r)):=by
 unfold f19 at h
 refine fn_of_E Tryz.func19 rfl (Nat.le_of_ble_eq_true rfl) fun g0 hm hfr=>?_
 have rp0:RV g0.m wI x0 up0:=hm ▸ rp0
 have rp1:RV g0.m wI x1 up1:=hm ▸ rp1
 show E _ 21 none _ _ _ _ _
 refine Zf (Za (Ze .plain rfl (D_box (g:=g0) rfl rp0 fun g1 w1 p1 hs q1=>?_)))
 have hfr:=hfr.ext hs
 have rp1:=rp1.ext hs
 refine Zg (.int .i64 (0)) rfl rfl ?_
 refine Zb (Zd (Zq h (fun (s:Unit) e w=>∃ (g:Gh) ,Fr gI wI g w∧e 1=up1∧RV g.m w (x1:List FaultDamage) up1∧e 2=p1∧PT g.m w (x0:FaultLoom) p1) (fun X6 k6 hk6 h=>?_) ?_))
 ·refine Zf (Za (Ze .plain rfl (D_load (g := g1) Tryz.isAgg37 Tryz.sizeOf37 rfl q1 fun v7 r7 => ?_)))
  obtain ⟨y9,i5,h⟩:=bsome h
  refine Ze .plain rfl (Zp (g:=g1) (vs:=[v7]) en43 (.cons rfl .nil) (wk43 r7 i5) fun g8 w8_ v8 hs hr=>?_)
  have hfr:=hfr.ext hs
  have rp1:=rp1.ext hs
  have q1:=q1.ext hs
  subst hr
  refine Zg (.int .i64 (y9)) rfl rfl ?_
  refine Zb (Zd (Zf (Za (Zn (.int .i64 (y9)) rfl rfl ?_))))
  refine EL_in (.bool ((y9 != (0:Int)))) rfl rfl rfl rfl ?_
  refine Zb (Zd ?_)
  rcases Zt h with ⟨o0,h⟩ | ⟨o0,h⟩
  ·refine E_ct o0 rfl ?_
   refine Zf (Za (Zn (.int .i64 (y9)) rfl rfl ?_))
   refine Zg (.int .i64 (y9)) rfl rfl ?_
   refine Zb (Zd (E_ret (thn_r ?_)))
   obtain rfl:=sinj h
   exact end1 rfl rfl (show _=.int .i64 (y9) from rfl) ⟨_,hfr,rfl⟩
  ·refine E_cf o0 rfl ?_
   exact Zu (Zd (hk6 () _ _ ⟨g8,hfr,rfl,rp1,rfl,q1⟩ h))
 ·rintro _ t5 j6 ⟨l5, hfr, z2, d3, j3, o3⟩ h
  refine Zf (Za (EL_p ((.func (.func 44) #[] #[p1])) (P_makeFunc (capf_0_1 (show ev _ _=p1 from j3))) rfl ?_))
  refine Zg ((.func (.func 44) #[] #[p1])) rfl rfl ?_
  refine Zb (Zd (Zq h (fun (s:Unit) e w=>∃ (g:Gh) ,Fr gI wI g w) (fun X16 u3 z3 h=>?_) ?_))
  ·refine Zr ?_
   refine Zf (Za (Zo z2 rfl ?_))
   refine EL_p (.int .i64 ((x1).length:Int)) (P_len Tryz.underlying47 rfl d3) rfl ?_
   refine EL_in (.bool ((decide (((x1).length:Int) > (100:Int))))) rfl rfl rfl rfl ?_
   refine Zg (.bool ((decide (((x1).length:Int) > (100:Int))))) rfl rfl ?_
   refine Zb (Zd ?_)
   rcases Zt h with ⟨u0,h⟩ | ⟨u0,h⟩
   ·refine E_ct u0 rfl ?_
    refine Zf (Za (Zg (.int .i64 (5)) rfl rfl ?_))
    refine Zb (Zd (E_ret (blk_r ?_)))
    refine thn_r ?_
    obtain rfl:=sinj h
    exact end1 rfl rfl (show _=.int .i64 (5) from rfl) ⟨_,hfr,rfl⟩
   ·refine E_cf u0 rfl ?_
    refine Zf (Za (Zo z2 rfl ?_))
    refine Zn ((.func (.func 44) #[] #[p1])) rfl rfl ?_
    obtain ⟨i3,z4,h⟩:=bsome h
    refine Ze .plain rfl (Zp (g:=l5) (vs:=[up1,(.func (.func 44) #[] #[p1])]) en46 (.cons rfl (.cons rfl .nil)) (wk46 d3 ⟨44,#[],#[p1],rfl,en44,fun g' w' hch a0 b0 r hu0 hr=>by exact Fn.mono (wk44 hu0 (o3.ch hch) hr) fun _ _ _ h=>RV_bool.2 h⟩ z4) fun q5 x5 v6 hs hr=>?_)
    have hfr:=hfr.ext hs
    subst hr
    refine Zg (.bool (i3)) rfl rfl ?_
    refine Zb (Zd ?_)
    rcases Zt h with ⟨j1,h⟩ | ⟨j1,h⟩
    ·refine E_ct j1 rfl ?_
     refine Zf (Za (Zg (.int .i64 (2)) rfl rfl ?_))
     refine Zb (Zd (E_ret (blk_r ?_)))
     refine thn_r ?_
     obtain rfl:=sinj h
     exact end1 rfl rfl (show _=.int .i64 (2) from rfl) ⟨_,hfr,rfl⟩
    ·refine E_cf j1 rfl ?_
     exact Zu (blk_n (Zd (z3 () _ _ ⟨q5,hfr⟩ h)))
  ·rintro _ i6 x6 ⟨y6, hfr⟩ h
   refine Zf (Za (Zg (.int .i64 (0)) rfl rfl ?_))
   refine Zb (Zd (E_ret ?_))
   obtain rfl:=sinj h
   exact end1 rfl rfl (show _=.int .i64 (0) from rfl) ⟨_,hfr,rfl⟩
def f24 (x0:LoomMill) (x1:List LoomOrder):Option (LoomLoomMill × Int):=
 jn (σ:=LoomLoomMill) (fun i7=>
  some ((⟨x0,x1⟩:LoomLoomMill),(0:Int))
  ) fun y8=>
 Option.bind (α:=Bool) (
  bif (decide ((((x0).Widths).length : Int) > (3 : Int))) then
   some ((decide ((((x0).Widths).length:Int) > (3:Int))))
  else
   some ((decide (((x1).length:Int) > (7:Int))))
  ) fun j3=>
 bif j3 then
  some ((⟨⟨[],0⟩,[]⟩:LoomLoomMill),(5:Int))
 else
  Option.bind (α:=Bool) (
   bif ((((x0).Widths).length : Int) == (0 : Int)) then
    some (((((x0).Widths).length:Int) == (0:Int)))
   else
    (f51 ((1:Int)) ((100:Int)) ((x0).Widths)).bind fun z4=>
    bif (!z4) then
     some ((!z4))
    else
     (f51 ((0:Int)) ((20:Int)) (([(x0).Change]:List Int))).bind fun i5=>
     bif (!i5) then
      some ((!i5))
     else
      (f52 x1 ((fun a0=>f49 a0))).bind fun j7=>
      some (j7)
   ) fun d3=>
  bif d3 then
   some ((⟨⟨[],0⟩,[]⟩:LoomLoomMill),(2:Int))
  else
   y8 ((⟨⟨[],0⟩,[]⟩:LoomLoomMill))
theorem en24:Enters Tryz.prog 24:=enters_of Tryz.func24 (by kernel_rfl) rfl
theorem wk24 {gI:Gh} {wI:World} {x0:LoomMill} {x1:List LoomOrder} {up0:Value} (rp0:RV gI.m wI x0 up0) {up1:Value} (rp1:RV gI.m wI x1 up1) {r:LoomLoomMill × Int} (h:f24 x0 x1=some r):Fn Tryz.prog 24 #[up0,up1] gI wI (fun m w v=>∃ y0 y1,v=.tuple #[y0,y1]∧RV m w (r.1) y0∧y1=.int .i64 (r.2)):=by
 unfold f24 at h
 refine fn_of_E Tryz.func24 rfl (Nat.le_of_ble_eq_true rfl) fun g0 hm hfr=>?_
 have rp0:RV g0.m wI x0 up0:=hm ▸ rp0
 have rp1:RV g0.m wI x1 up1:=hm ▸ rp1
 show E _ 37 none _ _ _ _ _
 refine Zf (Za (Ze .plain rfl (D_box (g:=g0) rfl rp0 fun g1 w1 p1 hs q1=>?_)))
 have hfr:=hfr.ext hs
 have rp1:=rp1.ext hs
 refine Ze .plain rfl (D_allocOc (g:=g1) 2004 (⟨⟨[],0⟩,[]⟩:LoomLoomMill) Tryz.zeroValue81 (fun m w=>⟨_,(rep_two (rep_two rep_nil rep_int) rep_nil),rfl⟩) fun g2 w2 p2 hs b2 cb=>?_)
 have hfr:=hfr.stp hs
 have rp1:=rp1.stp hs
 have q1:=q1.stp hs
 have m7:OSF 2004 60400 0 g2 w2 3 81 ([]:List Int) p2:=cb.osf (by rfl)
 have n7:OSF 2004 60402 2 g2 w2 67 81 ([]:List LoomOrder) p2:=cb.osf (by rfl)
 clear cb
 refine Zg (.int .i64 (0)) rfl rfl ?_
 refine Zb (Zd (Zf (Za (Zg (.func (.func 49) #[] #[]) rfl rfl ?_))))
 refine Zb (Zd (Zq h (fun (s:LoomLoomMill) e w=>∃ (g:Gh) ,Fr gI wI g w∧e 1=up1∧RV g.m w (x1:List LoomOrder) up1∧e 2=p1∧PT g.m w (x0:LoomMill) p1∧e 4=p2∧OB 2004 g w 81 (s:LoomLoomMill) p2∧OSF 2004 60400 0 g w 3 81 (((s).LoomMill).Widths) p2∧OSF 2004 60402 2 g w 67 81 ((s).orders) p2) (fun X51 y8 u9 h=>?_) ?_))
 ·refine Zr ?_
  obtain ⟨j3,hx,h⟩:=bsome h
  refine E_join (fun e w=>∃ (g:Gh) ,Fr gI wI g w∧e 1=up1∧RV g.m w (x1:List LoomOrder) up1∧e 2=p1∧PT g.m w (x0:LoomMill) p1∧e 4=p2∧OB 2004 g w 81 ((⟨⟨[],0⟩,[]⟩:LoomLoomMill):LoomLoomMill) p2∧OSF 2004 60400 0 g w 3 81 ((((⟨⟨[],0⟩,[]⟩:LoomLoomMill)).LoomMill).Widths) p2∧OSF 2004 60402 2 g w 67 81 (((⟨⟨[],0⟩,[]⟩:LoomLoomMill)).orders) p2∧e 6=.func (.func 49) #[] #[]∧e 7=.bool (j3)) (fun Q' hQ=>?_) (fun iB iA hR=>?_)
  ·replace h := hx
   clear hx
   refine Zf (Za (EL_p (fPtr p1 0) (Zc at_28_0 rfl (PT.ptr q1)) rfl ?_))
   have jA:=Zm (part_LoomMill_0).1 q1
   refine Ze .plain rfl (D_load (g:=g2) Tryz.isAgg26 Tryz.sizeOf26 rfl jA fun vB kA=>?_)
   refine EL_p (.int .i64 (((x0).Widths).length:Int)) (P_len Tryz.underlying26 rfl kA) rfl ?_
   refine EL_p (.bool ((decide ((((x0).Widths).length:Int) > (3:Int))))) (P_int rfl rfl rfl) rfl ?_
   refine EL_p (.bool ((decide ((((x0).Widths).length:Int) > (3:Int))))) (P_assign rfl) rfl ?_
   refine Zb (Zd ?_)
   rcases Zt h with ⟨x5,h⟩ | ⟨x5,h⟩
   ·refine E_ct x5 rfl ?_
    refine Zu ?_
    obtain rfl:=sinj h
    exact hQ _ _ ⟨g2,hfr,rfl,rp1,rfl,q1,rfl,b2,m7,n7,rfl,rfl⟩
   ·refine E_cf x5 rfl ?_
    refine Za (Zn up1 rfl rfl ?_)
    refine EL_p (.int .i64 ((x1).length:Int)) (P_len Tryz.underlying29 rfl rp1) rfl ?_
    refine EL_in (.bool ((decide (((x1).length:Int) > (7:Int))))) rfl rfl rfl rfl ?_
    refine Zg (.bool ((decide (((x1).length:Int) > (7:Int))))) rfl rfl ?_
    refine Zb ?_
    obtain rfl:=sinj h
    exact hQ _ _ ⟨g2,hfr,rfl,rp1,rfl,q1,rfl,b2,m7,n7,rfl,rfl⟩
  ·clear hx
   obtain ⟨u3,hfr,o3,u0,z2,o0,i3,j1,u4_0_58,u4_2_58,m8,e7⟩:=hR
   rcases Zt h with ⟨i6,h⟩ | ⟨i6,h⟩
   ·refine E_cond_true (Eq.trans (show ev _ _ = .bool (j3) from e7) (congrArg Value.bool i6)) ?_
    refine Zf (Za ?_)
    have a9:RV u3.m iA (⟨⟨[],0⟩,[]⟩:LoomLoomMill) (.agg (setCh [[.slice none 0 0,.int .i64 0],[.slice none 0 0]] []).flatten.toArray):=RV_build rfl (rep_pair ((rep_two rep_nil rep_int)) (rep_last (rep_nil)))
    generalize j6:(Value.agg (setCh [[.slice none 0 0,.int .i64 0],[.slice none 0 0]] []).flatten.toArray)=d9 at a9
    refine EL_p d9 (j6 ▸ P_build (vs:=[]) [[.slice none 0 0,.int .i64 0],[.slice none 0 0]] lay_81 rfl rfl .nil trivial) rfl ?_
    refine Ze .plain rfl (D_storeOc (g:=u3) (v:=d9) Tryz.sizeOf81 i3 j1 rfl a9 fun e9 i9 hs b61 cb=>?_)
    have aB:OSF 2004 60400 0 e9 i9 3 81 ([]:List Int) p2:=cb.osf (by rw [← j6]; rfl)
    have bB:OSF 2004 60402 2 e9 i9 67 81 ([]:List LoomOrder) p2:=cb.osf (by rw [← j6]; rfl)
    clear cb
    have hfr:=hfr.stp hs
    refine Zg (.int .i64 (5)) rfl rfl ?_
    refine Zb (Zd (E_ret (blk_r ?_)))
    refine thn_r ?_
    obtain rfl:=sinj h
    obtain ⟨ad62,cv62,hp62,y9,cr62⟩:=ob_read Tryz.isAgg81 Tryz.sizeOf81 b61
    exact endm_ct rfl rfl ((show _=p2 from i3).trans hp62) y9 (show _=.int .i64 (5) from rfl) ⟨_,hfr,_,_,rfl,cr62,rfl⟩
   ·refine E_cond_false (Eq.trans (show ev _ _ = .bool (j3) from e7) (congrArg Value.bool i6)) ?_
    obtain ⟨d3,hx,h⟩:=bsome h
    refine E_join (fun e w=>∃ (g:Gh) ,Fr gI wI g w∧e 1=up1∧RV g.m w (x1:List LoomOrder) up1∧e 2=p1∧PT g.m w (x0:LoomMill) p1∧e 4=p2∧OB 2004 g w 81 ((⟨⟨[],0⟩,[]⟩:LoomLoomMill):LoomLoomMill) p2∧OSF 2004 60400 0 g w 3 81 ((((⟨⟨[],0⟩,[]⟩:LoomLoomMill)).LoomMill).Widths) p2∧OSF 2004 60402 2 g w 67 81 (((⟨⟨[],0⟩,[]⟩:LoomLoomMill)).orders) p2∧e 16=.bool (d3)) (fun Q' hQ=>?_) (fun jB lA hR=>?_)
    ·replace h := hx
     clear hx
     refine Zf (Za (EL_p (fPtr p1 0) (Zc at_28_0 z2 (PT.ptr o0)) rfl ?_))
     have mA:=Zm (part_LoomMill_0).1 o0
     refine Ze .plain rfl (D_load (g:=u3) Tryz.isAgg26 Tryz.sizeOf26 rfl mA fun xB nA=>?_)
     refine EL_p (.int .i64 (((x0).Widths).length:Int)) (P_len Tryz.underlying26 rfl nA) rfl ?_
     refine EL_in (.bool (((((x0).Widths).length:Int) == (0:Int)))) rfl rfl rfl rfl ?_
     refine Zg (.bool (((((x0).Widths).length:Int) == (0:Int)))) rfl rfl ?_
     refine Zb (Zd ?_)
     rcases Zt h with ⟨v6,h⟩ | ⟨v6,h⟩
     ·refine E_ct v6 rfl ?_
      refine Zu ?_
      obtain rfl:=sinj h
      exact hQ _ _ ⟨u3,hfr,o3,u0,z2,o0,i3,j1,u4_0_58,u4_2_58,rfl⟩
     ·refine E_cf v6 rfl ?_
      refine Zf (Za (EL_p (fPtr p1 0) (Zc at_28_0 z2 (PT.ptr o0)) rfl ?_))
      have oA:=Zm (part_LoomMill_0).1 o0
      refine Ze .plain rfl (D_load (g:=u3) Tryz.isAgg26 Tryz.sizeOf26 rfl oA fun pA qA=>?_)
      obtain ⟨z4,z9,h⟩:=bsome h
      refine Ze .plain rfl (Zp (g:=u3) (vs:=[.int .i64 (1),.int .i64 (100),pA]) en51 (.cons rfl (.cons rfl (.cons rfl .nil))) (wk51 qA z9) fun o7 kB yB hs hr=>?_)
      have hfr:=hfr.ext hs
      have u0:=u0.ext hs
      have o0:=o0.ext hs
      have u4_0_58:=u4_0_58.ext hs
      have u4_2_58:=u4_2_58.ext hs
      have j1:=j1.ext hs
      subst hr
      refine EL_p (.bool (!z4)) (P_not rfl) rfl ?_
      refine Zg (.bool (!z4)) rfl rfl ?_
      refine Zb (Zd ?_)
      rcases Zt h with ⟨x6,h⟩ | ⟨x6,h⟩
      ·refine E_ct x6 rfl ?_
       refine Zu ?_
       obtain rfl:=sinj h
       exact hQ _ _ ⟨o7,hfr,o3,u0,z2,o0,i3,j1,u4_0_58,u4_2_58,rfl⟩
      ·refine E_cf x6 rfl ?_
       refine Zf (Za (EL_p (fPtr p1 1) (Zc at_28_1 z2 (PT.ptr o0)) rfl ?_))
       have rA:=Zm (part_LoomMill_1).1 o0
       refine Ze .plain rfl (D_load (g:=o7) Tryz.isAgg3 Tryz.sizeOf3 rfl rA fun zB sA=>?_)
       obtain rfl:=Zj.1 sA
       refine Ze .plain rfl (D_buildSlice (g:=o7) 3027 (xs:=([(x0).Change]:List Int)) (vs:=[.int .i64 ((x0).Change)]) Tryz.underlying26 Tryz.sizeOf3 Tryz.zeroValue3 rfl rfl (.cons rfl .nil) (RVs.cons (Zj.2 rfl) RVs.nil) rfl rfl fun uA aC xA hs o90 yA hxt hfl=>?_)
       have hfr:=hfr.stp hs
       have u0:=u0.stp hs
       have o0:=o0.stp hs
       have u4_0_58:=u4_0_58.stp hs rfl
       have u4_2_58:=u4_2_58.stp hs rfl
       have j1:=j1.stp hs rfl
       obtain ⟨i5,bA,h⟩:=bsome h
       refine Ze .plain rfl (Zp (g:=uA) (vs:=[.int .i64 (0),.int .i64 (20),xA]) en51 (.cons rfl (.cons rfl (.cons rfl .nil))) (wk51 yA bA) fun k9 lB cC hs hr=>?_)
       have hfr:=hfr.ext hs
       have u0:=u0.ext hs
       have o0:=o0.ext hs
       have u4_0_58:=u4_0_58.ext hs
       have u4_2_58:=u4_2_58.ext hs
       have j1:=j1.ext hs
       subst hr
       refine EL_p (.bool (!i5)) (P_not rfl) rfl ?_
       refine Zg (.bool (!i5)) rfl rfl ?_
       refine Zb (Zd ?_)
       rcases Zt h with ⟨y6,h⟩ | ⟨y6,h⟩
       ·refine E_ct y6 rfl ?_
        refine Zu ?_
        obtain rfl:=sinj h
        exact hQ _ _ ⟨k9,hfr,o3,u0,z2,o0,i3,j1,u4_0_58,u4_2_58,rfl⟩
       ·refine E_cf y6 rfl ?_
        refine Za (Zo o3 rfl ?_)
        refine Zo m8 rfl ?_
        obtain ⟨j7,gA,h⟩:=bsome h
        refine Ze .plain rfl (Zp (g:=k9) (vs:=[up1,.func (.func 49) #[] #[]]) en52 (.cons rfl (.cons rfl .nil)) (wk52 u0 ⟨49,#[],#[],rfl,en49,fun g' w' hch a0 b0 r hu0 hr=>by exact Fn.mono (wk49 hu0  hr) fun _ _ _ h=>RV_bool.2 h⟩ gA) fun zA mB dC hs hr=>?_)
        have hfr:=hfr.ext hs
        have u0:=u0.ext hs
        have o0:=o0.ext hs
        have u4_0_58:=u4_0_58.ext hs
        have u4_2_58:=u4_2_58.ext hs
        have j1:=j1.ext hs
        subst hr
        refine Zg (.bool (j7)) rfl rfl ?_
        refine Zb ?_
        obtain rfl:=sinj h
        exact hQ _ _ ⟨zA,hfr,o3,u0,z2,o0,i3,j1,u4_0_58,u4_2_58,rfl⟩
    ·clear hx
     obtain ⟨u7,hfr,n8,o8,q8,r8,z3,g7,u4_0_96,u4_2_96,l5⟩:=hR
     rcases Zt h with ⟨a7,h⟩ | ⟨a7,h⟩
     ·refine E_cond_true (Eq.trans (show ev _ _ = .bool (d3) from l5) (congrArg Value.bool a7)) ?_
      refine Zf (Za ?_)
      have l9:RV u7.m lA (⟨⟨[],0⟩,[]⟩:LoomLoomMill) (.agg (setCh [[.slice none 0 0,.int .i64 0],[.slice none 0 0]] []).flatten.toArray):=RV_build rfl (rep_pair ((rep_two rep_nil rep_int)) (rep_last (rep_nil)))
      generalize b7:(Value.agg (setCh [[.slice none 0 0,.int .i64 0],[.slice none 0 0]] []).flatten.toArray)=n9 at l9
      refine EL_p n9 (b7 ▸ P_build (vs:=[]) [[.slice none 0 0,.int .i64 0],[.slice none 0 0]] lay_81 rfl rfl .nil trivial) rfl ?_
      refine Ze .plain rfl (D_storeOc (g:=u7) (v:=n9) Tryz.sizeOf81 z3 g7 rfl l9 fun o9 t9 hs b99 cb=>?_)
      have cB:OSF 2004 60400 0 o9 t9 3 81 ([]:List Int) p2:=cb.osf (by rw [← b7]; rfl)
      have dB:OSF 2004 60402 2 o9 t9 67 81 ([]:List LoomOrder) p2:=cb.osf (by rw [← b7]; rfl)
      clear cb
      have hfr:=hfr.stp hs
      refine Zg (.int .i64 (2)) rfl rfl ?_
      refine Zb (Zd (E_ret (blk_r ?_)))
      refine thn_r ?_
      obtain rfl:=sinj h
      obtain ⟨ad100,cv100,hp100,t8,cr100⟩:=ob_read Tryz.isAgg81 Tryz.sizeOf81 b99
      exact endm_ct rfl rfl ((show _=p2 from z3).trans hp100) t8 (show _=.int .i64 (2) from rfl) ⟨_,hfr,_,_,rfl,cr100,rfl⟩
     ·refine E_cond_false (Eq.trans (show ev _ _ = .bool (d3) from l5) (congrArg Value.bool a7)) ?_
      exact Zu (blk_n (Zd (u9 ((⟨⟨[],0⟩,[]⟩:LoomLoomMill)) _ _ ⟨u7,hfr,n8,o8,q8,r8,z3,g7,u4_0_96,u4_2_96⟩ h)))
 ·rintro i7 eB nB ⟨c7, hfr, v7, q5, c8, e8, t5, g8, u4_0_101, u4_2_101⟩ h
  refine Zf (Za (Ze .plain rfl (D_load (g:=c7) Tryz.isAgg28 Tryz.sizeOf28 c8 e8 fun d7 i8=>?_)))
  refine Zo v7 rfl ?_
  have k8:RV c7.m _ (⟨x0,x1⟩:LoomLoomMill) (.agg (setCh [[.slice none 0 0,.int .i64 0],[.slice none 0 0]] [(0,d7),(1,up1)]).flatten.toArray):=RV_build rfl (rep_pair (RV.cells i8) (rep_last (RV.cells q5)))
  generalize v8:(Value.agg (setCh [[.slice none 0 0,.int .i64 0],[.slice none 0 0]] [(0,d7),(1,up1)]).flatten.toArray)=l8 at k8
  refine EL_p l8 (v8 ▸ P_build (vs:=[(0,d7),(1,up1)]) [[.slice none 0 0,.int .i64 0],[.slice none 0 0]] lay_81 rfl rfl (.cons rfl (.cons rfl .nil)) ⟨⟨_,rfl,cells_size i8⟩,⟨⟨_,rfl,cells_size q5⟩,trivial⟩⟩) rfl ?_
  refine Ze .plain rfl (D_storeOc (g:=c7) (v:=l8) Tryz.sizeOf81 t5 g8 rfl k8 fun oB tB hs b104 cb=>?_)
  clear cb
  have hfr:=hfr.stp hs
  refine Zg (.int .i64 (0)) rfl rfl ?_
  refine Zb (Zd (E_ret ?_))
  obtain rfl:=sinj h
  obtain ⟨ad105,cv105,hp105,x8,cr105⟩:=ob_read Tryz.isAgg81 Tryz.sizeOf81 b104
  exact endm_ct rfl rfl ((show _=p2 from t5).trans hp105) x8 (show _=.int .i64 (0) from rfl) ⟨_,hfr,_,_,rfl,cr105,rfl⟩
def f32 (x0:LoomMill) (x1:List LoomOrder):Option ((List Int) × Int):=
 (f24 x0 x1).bind fun y4=>
 jn (σ:=Unit) (fun _=>
  (f26 (y4.1)).bind fun z2=>
  (f25 (y4.1) z2 ([])).bind fun d3=>
  (f57 (((x1).length:Int)) ((fun a0=>f58 a0 d3))).bind fun j1=>
  jn (σ:=Unit) (fun _=>
   some (j1.1,(0:Int))
   ) fun j6=>
  bif (!j1.2) then
   some ([],(7:Int))
  else
   j6 ()
  ) fun k8=>
 bif (y4.2 != (0 : Int)) then
  some ([],y4.2)
 else
  k8 ()
theorem en32:Enters Tryz.prog 32:=enters_of Tryz.func32 (by kernel_rfl) rfl
theorem wk32 {gI:Gh} {wI:World} {x0:LoomMill} {x1:List LoomOrder} {up0:Value} (rp0:RV gI.m wI x0 up0) {up1:Value} (rp1:RV gI.m wI x1 up1) {r:(List Int) × Int} (h:f32 x0 x1=some r):Fn Tryz.prog 32 #[up0,up1] gI wI (fun m w v=>∃ y0 y1,v=.tuple #[y0,y1]∧RV m w (r.1) y0∧y1=.int .i64 (r.2)):=by
 unfold f32 at h
 refine fn_of_E Tryz.func32 rfl (Nat.le_of_ble_eq_true rfl) fun g0 hm hfr=>?_
 have rp0:RV g0.m wI x0 up0:=hm ▸ rp0
 have rp1:RV g0.m wI x1 up1:=hm ▸ rp1
 show E _ 34 none _ _ _ _ _
 refine Zf (Za (Ze .plain rfl (D_box (g:=g0) rfl rp0 fun g1 w1 p1 hs q1=>?_)))
 have hfr:=hfr.ext hs
 have rp1:=rp1.ext hs
 refine Zg (.slice none 0 0) rfl rfl ?_
 refine Zg (.int .i64 (0)) rfl rfl ?_
 refine Zb (Zd (Zf (Za (Ze .plain rfl (D_load (g:=g1) Tryz.isAgg28 Tryz.sizeOf28 rfl q1 fun v2 r2=>?_)))))
 refine Zn up1 rfl rfl ?_
 obtain ⟨y4,g7,h⟩:=bsome h
 refine Ze .plain rfl (Zp (g:=g1) (vs:=[v2,up1]) en24 (.cons rfl (.cons rfl .nil)) (wk24 r2 rp1 g7) fun g3 w3_ v3 hs hr=>?_)
 have hfr:=hfr.ext hs
 have rp1:=rp1.ext hs
 obtain ⟨j3,e8,rfl,o3,rfl⟩:=hr
 refine Zn (.tuple #[j3,.int .i64 (y4.2)]) rfl rfl ?_
 refine EL_p j3 (Zi rfl rfl) rfl ?_
 refine EL_p (.int .i64 (y4.2)) (Zi rfl rfl) rfl ?_
 refine Ze .plain rfl (D_allocOc (g:=g3) 2006 (⟨⟨[],0⟩,[]⟩:LoomLoomMill) Tryz.zeroValue81 (fun m w=>⟨_,(rep_two (rep_two rep_nil rep_int) rep_nil),rfl⟩) fun g5 w5 p5 hs b5 cb=>?_)
 have hfr:=hfr.stp hs
 have rp1:=rp1.stp hs
 have o3:=o3.stp hs
 have g8:OSF 2006 60600 0 g5 w5 3 81 ([]:List Int) p5:=cb.osf (by rfl)
 have i8:OSF 2006 60602 2 g5 w5 67 81 ([]:List LoomOrder) p5:=cb.osf (by rfl)
 clear cb
 refine Ze .plain rfl (D_storeOc (g:=g5) (v:=j3) Tryz.sizeOf81 rfl b5 rfl o3 fun g6 w6 hs b6 cb=>?_)
 clear cb
 have hfr:=hfr.stp hs
 have rp1:=rp1.stp hs
 refine Zg (.int .i64 (y4.2)) rfl rfl ?_
 refine Zb (Zd (Zq h (fun (s:Unit) e w=>∃ (g:Gh) ,Fr gI wI g w∧e 1=up1∧RV g.m w (x1:List LoomOrder) up1∧e 6=p5∧OB 2006 g w 81 (y4.1:LoomLoomMill) p5) (fun X8 k8 i7 h=>?_) ?_))
 ·refine Zf (Za (Zn (.int .i64 (y4.2)) rfl rfl ?_))
  refine EL_in (.bool ((y4.2 != (0:Int)))) rfl rfl rfl rfl ?_
  refine Zb (Zd ?_)
  rcases Zt h with ⟨i5,h⟩ | ⟨i5,h⟩
  ·refine E_ct i5 rfl ?_
   refine Zf (Za (Zn (.int .i64 (y4.2)) rfl rfl ?_))
   refine Zg (.slice none 0 0) rfl rfl ?_
   refine Zg (.int .i64 (y4.2)) rfl rfl ?_
   refine Zb (Zd (E_ret (thn_r ?_)))
   obtain rfl:=sinj h
   exact end2 rfl rfl (show _=.slice none 0 0 from rfl) (show _=.int .i64 (y4.2) from rfl) ⟨_,hfr,_,_,rfl,RV_nil,rfl⟩
  ·refine E_cf i5 rfl ?_
   exact Zu (Zd (i7 () _ _ ⟨g6,hfr,rfl,rp1,rfl,b6⟩ h))
 ·rintro _ l8 o8 ⟨j7, hfr, q5, o0, z3, z4⟩ h
  refine Zf (L_loadO0 (x:=.tmp 6) Tryz.isAgg81 Tryz.sizeOf81 z4 fun v6 m7 a7=>?_)
  refine L_loadO0 (x:=.tmp 6) Tryz.isAgg81 Tryz.sizeOf81 z4 fun x6 n7 hl12=>?_
  obtain ⟨z2,b7,h⟩:=bsome h
  obtain ⟨d3,c7,h⟩:=bsome h
  refine E_drawL (g:=j7) (n:=5) [(2,(fun v g w=>RV g.m w z2 v)),(3,(fun v g w=>RV g.m w d3 v)),(4,(fun v g w=>OB 2008 g w 86 ([]:List Bool) v))] [0,1,2,3,4] rfl mixed (by kernel_rfl) (⟨fun _=>up_rv,fun _=>up_rv,fun _=>up_ob,trivial⟩) ?_
  refine L_ld (c:=v6) rfl rfl .plain (fun _ _ h=>⟨h.ch,fun b hb _=>h.below.block b hb⟩) a7 z3 ?_
  refine L_ld (c:=x6) rfl rfl .plain (fun _ _ h=>⟨h.ch,fun b hb _=>h.below.block b hb⟩) hl12 z3 ?_
  refine L_do (φ:=fun v g w=>RV g.m w z2 v) rfl rfl .plain (fun g w hd=>Zp (g:=g) (vs:=[x6]) en26 (.cons rfl .nil) (wk26 (n7.ext hd.1) b7) fun g' w' v hs hr=>⟨g',hs,hr⟩) (fun l5 hv=>?_)
  obtain ⟨_,_,_,rq13⟩:=hv
  refine L_do (φ:=fun v g w=>RV g.m w d3 v) rfl rfl .plain (fun g w hd=>Zp (g:=g) (vs:=[v6,l5,.map none]) en25 (.cons rfl (.cons rfl (.cons rfl .nil))) (wk25 (m7.ext hd.1) (word (A:=fun g w=>RV g.m w z2 l5) 2 rfl rfl (deps_of hd)) MR.nil c7) fun g' w' v hs hr=>⟨g',hs,hr⟩) (fun y6 hv=>?_)
  obtain ⟨_,_,_,rq15⟩:=hv
  refine L_do (φ:=fun v g w=>OB 2008 g w 86 ([]:List Bool) v) rfl rfl .plain (fun g w hd=>D_allocX (g:=g) 2008 ([]:List Bool) Tryz.zeroValue86 (fun m w=>⟨_,rep_nil,rfl⟩) fun g' w' v hs b=>⟨g',hs,b⟩) (fun i3 hv=>?_)
  clear hv
  refine L_nil fun o7 q8 hall=>?_
  have hs:=hall.1
  have hfr:=hfr.ext hs
  have o0:=o0.ext hs
  have r8:=(word_all (A:=fun g w=>RV g.m w z2 l5) 2 rfl hall)
  have u7:=(word_all (A:=fun g w=>RV g.m w d3 y6) 3 rfl hall)
  have b25:=(word_all (A:=fun g w=>OB 2008 g w 86 ([]:List Bool) i3) 4 rfl hall)
  clear hs hall
  refine Ze .plain rfl (D_storeOc (g:=o7) (v:=y6) Tryz.sizeOf86 rfl b25 rfl u7 fun t8 v8 hs b26 cb=>?_)
  clear cb
  have hfr:=hfr.stp hs
  have o0:=o0.stp hs
  obtain ⟨gp26,hs,qp26⟩:=OB.pub b26
  have hfr:=hfr.stp hs
  have o0:=o0.stp hs
  refine Zb (Zd (Zf (Za (Zo q5 rfl ?_))))
  refine EL_p (.int .i64 ((x1).length:Int)) (P_len Tryz.underlying29 rfl o0) rfl ?_
  refine EL_p ((.func (.func 58) #[] #[i3])) (P_makeFunc (capf_0_1 (show ev _ _=i3 from rfl))) rfl ?_
  obtain ⟨j1,d7,h⟩:=bsome h
  refine Ze .plain rfl (Zp (g:=gp26) (vs:=[.int .i64 ((x1).length:Int),(.func (.func 58) #[] #[i3])]) en57 (.cons rfl (.cons rfl .nil)) (wk57 ⟨58,#[],#[i3],rfl,en58,fun g' w' hch a0 b0 r hu0 hr=>by obtain rfl:=Zj.1 hu0; exact Fn.mono (wk58  (qp26.ch hch) hr) fun _ _ _ h=>RV_bool.2 h⟩ d7) fun v7 m8 x8 hs hr=>?_)
  have hfr:=hfr.ext hs
  obtain ⟨u0,c8,rfl,t5,rfl⟩:=hr
  refine Zn (.tuple #[u0,.bool (j1.2)]) rfl rfl ?_
  refine EL_p u0 (Zi rfl rfl) rfl ?_
  refine EL_p (.bool (j1.2)) (Zi rfl rfl) rfl ?_
  refine Zg u0 rfl rfl ?_
  refine Zg (.bool (j1.2)) rfl rfl ?_
  refine Zb (Zd (Zq h (fun (s:Unit) e w=>∃ (g:Gh) ,Fr gI wI g w∧e 9=u0∧RV g.m w (j1.1:List Int) u0) (fun X30 j6 e7 h=>?_) ?_))
  ·refine Zf (Za (Zn (.bool (j1.2)) rfl rfl ?_))
   refine EL_p (.bool (!j1.2)) (P_not rfl) rfl ?_
   refine Zb (Zd ?_)
   rcases Zt h with ⟨u3,h⟩ | ⟨u3,h⟩
   ·refine E_ct u3 rfl ?_
    refine Zf (Za (Zg (.slice none 0 0) rfl rfl ?_))
    refine Zg (.int .i64 (7)) rfl rfl ?_
    refine Zb (Zd (E_ret (thn_r ?_)))
    obtain rfl:=sinj h
    exact end2 rfl rfl (show _=.slice none 0 0 from rfl) (show _=.int .i64 (7) from rfl) ⟨_,hfr,_,_,rfl,RV_nil,rfl⟩
   ·refine E_cf u3 rfl ?_
    exact Zu (Zd (e7 () _ _ ⟨v7,hfr,rfl,t5⟩ h))
  ·rintro _ n8 y8 ⟨a9, hfr, x5, i6⟩ h
   refine Zf (Za (Zo x5 rfl ?_))
   refine Zg u0 rfl rfl ?_
   refine Zg (.int .i64 (0)) rfl rfl ?_
   refine Zb (Zd (E_ret ?_))
   obtain rfl:=sinj h
   exact end2 rfl rfl (show _=u0 from rfl) (show _=.int .i64 (0) from rfl) ⟨_,hfr,_,_,rfl,i6,rfl⟩
def f34 (x0:LoomMill) (x1:List LoomOrder) (x2:List LoomRun) (x3:LoomStop):Option (LoomStill × Int):=
 (f24 x0 x1).bind fun y6=>
 Option.bind (α:=Int) (
  bif (y6.2 == (0 : Int)) then
   (f59 (y6.1) x2).bind fun z4=>
   some (z4.2)
  else
   some (y6.2)
  ) fun z2=>
 jn (σ:=LoomStill) (fun n8=>
  some ((⟨y6.1,x3⟩:LoomStill),(0:Int))
  ) fun z9=>
 bif (z2 != (0 : Int)) then
  some ((⟨⟨⟨[],0⟩,[]⟩,⟨0,⟨0,0⟩⟩⟩:LoomStill),z2)
 else
  (f51 ((0:Int)) ((w64 ((((x0).Widths).length:Int) - (1:Int)))) (([(x3).Loom]:List Int))).bind fun v7=>
  bif (!v7) then
   some ((⟨⟨⟨[],0⟩,[]⟩,⟨0,⟨0,0⟩⟩⟩:LoomStill),(7:Int))
  else
   Option.bind (α:=Bool) (
    (f40 (([((x3).Days).Low,((x3).Days).High]:List Int))).bind fun i5=>
    bif (!i5) then
     some ((!i5))
    else
     some ((decide (((x3).Days).Low > ((x3).Days).High)))
    ) fun o3=>
   bif o3 then
    some ((⟨⟨⟨[],0⟩,[]⟩,⟨0,⟨0,0⟩⟩⟩:LoomStill),(2:Int))
   else
    z9 ((⟨⟨⟨[],0⟩,[]⟩,⟨0,⟨0,0⟩⟩⟩:LoomStill))
theorem en34:Enters Tryz.prog 34:=enters_of Tryz.func34 (by kernel_rfl) rfl
theorem wk34 {gI:Gh} {wI:World} {x0:LoomMill} {x1:List LoomOrder} {x2:List LoomRun} {x3:LoomStop} {up0:Value} (rp0:RV gI.m wI x0 up0) {up1:Value} (rp1:RV gI.m wI x1 up1) {up2:Value} (rp2:RV gI.m wI x2 up2) {up3:Value} (rp3:RV gI.m wI x3 up3) {r:LoomStill × Int} (h:f34 x0 x1 x2 x3=some r):Fn Tryz.prog 34 #[up0,up1,up2,up3] gI wI (fun m w v=>∃ y0 y1,v=.tuple #[y0,y1]∧RV m w (r.1) y0∧y1=.int .i64 (r.2)):=by
 unfold f34 at h
 refine fn_of_E Tryz.func34 rfl (Nat.le_of_ble_eq_true rfl) fun g0 hm hfr=>?_
 have rp0:RV g0.m wI x0 up0:=hm ▸ rp0
 have rp1:RV g0.m wI x1 up1:=hm ▸ rp1
 have rp2:RV g0.m wI x2 up2:=hm ▸ rp2
 have rp3:RV g0.m wI x3 up3:=hm ▸ rp3
 show E _ 62 none _ _ _ _ _
 refine Zf (Za (Ze .plain rfl (D_box (g:=g0) rfl rp0 fun g1 w1 p1 hs q1=>?_)))
 have hfr:=hfr.ext hs
 have rp1:=rp1.ext hs
 have rp2:=rp2.ext hs
 have rp3:=rp3.ext hs
 refine Ze .plain rfl (D_box (g:=g1) rfl rp3 fun g2 w2 p2 hs q2=>?_)
 have hfr:=hfr.ext hs
 have rp1:=rp1.ext hs
 have rp2:=rp2.ext hs
 have q1:=q1.ext hs
 refine Ze .plain rfl (D_allocOc (g:=g2) 2008 (⟨⟨⟨[],0⟩,[]⟩,⟨0,⟨0,0⟩⟩⟩:LoomStill) Tryz.zeroValue99 (fun m w=>⟨_,(rep_two (rep_two (rep_two rep_nil rep_int) rep_nil) (rep_two rep_int (rep_two rep_int rep_int))),rfl⟩) fun g3 w3 p3 hs b3 cb=>?_)
 have hfr:=hfr.stp hs
 have rp1:=rp1.stp hs
 have rp2:=rp2.stp hs
 have q1:=q1.stp hs
 have q2:=q2.stp hs
 have i3:OSF 2008 60800 0 g3 w3 3 99 ([]:List Int) p3:=cb.osf (by rfl)
 have j3:OSF 2008 60802 2 g3 w3 67 99 ([]:List LoomOrder) p3:=cb.osf (by rfl)
 clear cb
 refine Zg (.int .i64 (0)) rfl rfl ?_
 refine Zb (Zd (Zf (Za (Ze .plain rfl (D_load (g:=g3) Tryz.isAgg28 Tryz.sizeOf28 rfl q1 fun v4 r4=>?_)))))
 refine Zn up1 rfl rfl ?_
 obtain ⟨y6,bB,h⟩:=bsome h
 refine Ze .plain rfl (Zp (g:=g3) (vs:=[v4,up1]) en24 (.cons rfl (.cons rfl .nil)) (wk24 r4 rp1 bB) fun g5 w5_ v5 hs hr=>?_)
 have hfr:=hfr.ext hs
 have rp2:=rp2.ext hs
 have q1:=q1.ext hs
 have q2:=q2.ext hs
 have i3:=i3.ext hs
 have j3:=j3.ext hs
 have b3:=b3.ext hs
 obtain ⟨d7,iC,rfl,e7,rfl⟩:=hr
 refine Zn (.tuple #[d7,.int .i64 (y6.2)]) rfl rfl ?_
 refine EL_p d7 (Zi rfl rfl) rfl ?_
 refine EL_p (.int .i64 (y6.2)) (Zi rfl rfl) rfl ?_
 refine Ze .plain rfl (D_allocOc (g:=g5) 2010 (⟨⟨[],0⟩,[]⟩:LoomLoomMill) Tryz.zeroValue81 (fun m w=>⟨_,(rep_two (rep_two rep_nil rep_int) rep_nil),rfl⟩) fun g7 w7 p7 hs b7 cb=>?_)
 have hfr:=hfr.stp hs
 have rp2:=rp2.stp hs
 have q1:=q1.stp hs
 have q2:=q2.stp hs
 have i3:=i3.stp hs rfl
 have j3:=j3.stp hs rfl
 have b3:=b3.stp hs rfl
 have e7:=e7.stp hs
 have jC:OSF 2010 61000 0 g7 w7 3 81 ([]:List Int) p7:=cb.osf (by rfl)
 have kC:OSF 2010 61002 2 g7 w7 67 81 ([]:List LoomOrder) p7:=cb.osf (by rfl)
 clear cb
 refine Ze .plain rfl (D_storeOc (g:=g7) (v:=d7) Tryz.sizeOf81 rfl b7 rfl e7 fun g8 w8 hs b8 cb=>?_)
 clear cb
 have hfr:=hfr.stp hs
 have rp2:=rp2.stp hs
 have q1:=q1.stp hs
 have q2:=q2.stp hs
 have i3:=i3.stp hs rfl
 have j3:=j3.stp hs rfl
 have b3:=b3.stp hs rfl
 refine Zg (.int .i64 (y6.2)) rfl rfl ?_
 refine Zb (Zd ?_)
 obtain ⟨z2,hx,h⟩:=bsome h
 refine E_join (fun e w=>∃ (g:Gh) ,Fr gI wI g w∧e 4=p1∧PT g.m w (x0:LoomMill) p1∧e 7=p2∧PT g.m w (x3:LoomStop) p2∧e 8=p3∧OB 2008 g w 99 ((⟨⟨⟨[],0⟩,[]⟩,⟨0,⟨0,0⟩⟩⟩:LoomStill):LoomStill) p3∧OSF 2008 60800 0 g w 3 99 (((((⟨⟨⟨[],0⟩,[]⟩,⟨0,⟨0,0⟩⟩⟩:LoomStill)).mill).LoomMill).Widths) p3∧OSF 2008 60802 2 g w 67 99 ((((⟨⟨⟨[],0⟩,[]⟩,⟨0,⟨0,0⟩⟩⟩:LoomStill)).mill).orders) p3∧e 9=.int .i64 (z2)∧e 10=p7∧OB 2010 g w 81 (y6.1:LoomLoomMill) p7) (fun Q' hQ=>?_) (fun lC jD hR=>?_)
 ·replace h := hx
  clear hx
  refine Zf (Za (Zn (.int .i64 (y6.2)) rfl rfl ?_))
  refine EL_in (.bool ((y6.2 == (0:Int)))) rfl rfl rfl rfl ?_
  refine Zb (Zd ?_)
  rcases Zt h with ⟨i7,h⟩ | ⟨i7,h⟩
  ·refine E_ct i7 rfl ?_
   refine Za (Ze .plain rfl (D_loadO (g:=g8) Tryz.isAgg81 Tryz.sizeOf81 rfl b8 fun cB dB=>?_))
   refine Zn up2 rfl rfl ?_
   obtain ⟨z4,bA,h⟩:=bsome h
   refine Ze .plain rfl (Zp (g:=g8) (vs:=[cB,up2]) en59 (.cons rfl (.cons rfl .nil)) (wk59 dB rp2 bA) fun eB mC kD hs hr=>?_)
   have hfr:=hfr.ext hs
   have q1:=q1.ext hs
   have q2:=q2.ext hs
   have i3:=i3.ext hs
   have j3:=j3.ext hs
   have b3:=b3.ext hs
   have b8:=b8.ext hs
   obtain ⟨zB,aC,rfl,rfl,rfl⟩:=hr
   refine Zn (.tuple #[.int .i64 (z4.1),.int .i64 (z4.2)]) rfl rfl ?_
   refine EL_p (.int .i64 (z4.1)) (Zi rfl rfl) rfl ?_
   refine EL_p (.int .i64 (z4.2)) (Zi rfl rfl) rfl ?_
   refine Zg (.int .i64 (z4.2)) rfl rfl ?_
   refine Zb ?_
   obtain rfl:=sinj h
   exact hQ _ _ ⟨eB,hfr,rfl,q1,rfl,q2,rfl,b3,i3,j3,rfl,rfl,b8⟩
  ·refine E_cf i7 rfl ?_
   refine Zu ?_
   obtain rfl:=sinj h
   exact hQ _ _ ⟨g8,hfr,rfl,q1,rfl,q2,rfl,b3,i3,j3,rfl,rfl,b8⟩
 ·clear hx
  obtain ⟨v6,hfr,n9,c8,u3,o0,d3,u0,u8_0_17,u8_2_17,e8,x6,j1⟩:=hR
  refine Zq h (fun (s:LoomStill) e w=>∃ (g:Gh) ,Fr gI wI g w∧e 7=p2∧PT g.m w (x3:LoomStop) p2∧e 8=p3∧OB 2008 g w 99 (s:LoomStill) p3∧OSF 2008 60800 0 g w 3 99 ((((s).mill).LoomMill).Widths) p3∧OSF 2008 60802 2 g w 67 99 (((s).mill).orders) p3∧e 10=p7∧OB 2010 g w 81 (y6.1:LoomLoomMill) p7) (fun X71 z9 gA h=>?_) ?_
  ·refine Zr ?_
   refine Zf (Za (Zo e8 rfl ?_))
   refine EL_in (.bool ((z2 != (0:Int)))) rfl rfl rfl rfl ?_
   refine Zg (.bool ((z2 != (0:Int)))) rfl rfl ?_
   refine Zb (Zd ?_)
   rcases Zt h with ⟨j7,h⟩ | ⟨j7,h⟩
   ·refine E_ct j7 rfl ?_
    refine Zf (Za (Ze .plain rfl (D_loadO (g:=v6) Tryz.isAgg99 Tryz.sizeOf99 d3 u0 fun iB jB=>?_)))
    refine Zo e8 rfl ?_
    refine Ze .plain rfl (D_storeOc (g:=v6) (v:=iB) Tryz.sizeOf99 d3 u0 rfl jB fun lD mD hs b74 cb=>?_)
    clear cb
    have hfr:=hfr.stp hs
    refine Zg (.int .i64 (z2)) rfl rfl ?_
    refine Zb (Zd (E_ret (blk_r ?_)))
    refine thn_r ?_
    obtain rfl:=sinj h
    obtain ⟨ad75,cv75,hp75,iA,cr75⟩:=ob_read Tryz.isAgg99 Tryz.sizeOf99 b74
    exact endm_ct rfl rfl ((show _=p3 from d3).trans hp75) iA (show _=.int .i64 (z2) from rfl) ⟨_,hfr,_,_,rfl,cr75,rfl⟩
   ·refine E_cf j7 rfl ?_
    refine Zf (Za (EL_p (fPtr p1 0) (Zc at_28_0 n9 (PT.ptr c8)) rfl ?_))
    have kB:=Zm (part_LoomMill_0).1 c8
    refine Ze .plain rfl (D_load (g:=v6) Tryz.isAgg26 Tryz.sizeOf26 rfl kB fun nD lB=>?_)
    refine EL_p (.int .i64 (((x0).Widths).length:Int)) (P_len Tryz.underlying26 rfl lB) rfl ?_
    refine EL_p (.int .i64 ((w64 ((((x0).Widths).length:Int) - (1:Int))))) (P_int rfl rfl rfl) rfl ?_
    refine EL_p (fPtr p2 0) (Zc at_58_0 u3 (PT.ptr o0)) rfl ?_
    have mB:=Zm (part_LoomStop_0).1 o0
    refine Ze .plain rfl (D_load (g:=v6) Tryz.isAgg3 Tryz.sizeOf3 rfl mB fun oD nB=>?_)
    obtain rfl:=Zj.1 nB
    refine Ze .plain rfl (D_buildSlice (g:=v6) 3037 (xs:=([(x3).Loom]:List Int)) (vs:=[.int .i64 ((x3).Loom)]) Tryz.underlying26 Tryz.sizeOf3 Tryz.zeroValue3 rfl rfl (.cons rfl .nil) (RVs.cons (Zj.2 rfl) RVs.nil) rfl rfl fun oB sD tB hs o80 vB hxt hfl=>?_)
    have hfr:=hfr.stp hs
    have o0:=o0.stp hs
    have u8_0_17:=u8_0_17.stp hs rfl
    have u8_2_17:=u8_2_17.stp hs rfl
    have u0:=u0.stp hs rfl
    have j1:=j1.stp hs rfl
    obtain ⟨v7,jA,h⟩:=bsome h
    refine Ze .plain rfl (Zp (g:=oB) (vs:=[.int .i64 (0),.int .i64 ((w64 ((((x0).Widths).length:Int) - (1:Int)))),tB]) en51 (.cons rfl (.cons rfl (.cons rfl .nil))) (wk51 vB jA) fun a7 qC tD hs hr=>?_)
    have hfr:=hfr.ext hs
    have o0:=o0.ext hs
    have u8_0_17:=u8_0_17.ext hs
    have u8_2_17:=u8_2_17.ext hs
    have u0:=u0.ext hs
    have j1:=j1.ext hs
    subst hr
    refine EL_p (.bool (!v7)) (P_not rfl) rfl ?_
    refine Zg (.bool (!v7)) rfl rfl ?_
    refine Zb (Zd ?_)
    rcases Zt h with ⟨m7,h⟩ | ⟨m7,h⟩
    ·refine E_ct m7 rfl ?_
     refine Zf (Za (Ze .plain rfl (D_loadO (g:=a7) Tryz.isAgg99 Tryz.sizeOf99 d3 u0 fun xB yB=>?_)))
     refine Ze .plain rfl (D_storeOc (g:=a7) (v:=xB) Tryz.sizeOf99 d3 u0 rfl yB fun uD vD hs b85 cb=>?_)
     clear cb
     have hfr:=hfr.stp hs
     refine Zg (.int .i64 (7)) rfl rfl ?_
     refine Zb (Zd (E_ret (blk_r ?_)))
     refine thn_r ?_
     obtain rfl:=sinj h
     obtain ⟨ad86,cv86,hp86,kA,cr86⟩:=ob_read Tryz.isAgg99 Tryz.sizeOf99 b85
     exact endm_ct rfl rfl ((show _=p3 from d3).trans hp86) kA (show _=.int .i64 (7) from rfl) ⟨_,hfr,_,_,rfl,cr86,rfl⟩
    ·refine E_cf m7 rfl ?_
     obtain ⟨o3,hx,h⟩:=bsome h
     refine E_join (fun e w=>∃ (g:Gh) ,Fr gI wI g w∧e 7=p2∧PT g.m w (x3:LoomStop) p2∧e 8=p3∧OB 2008 g w 99 ((⟨⟨⟨[],0⟩,[]⟩,⟨0,⟨0,0⟩⟩⟩:LoomStill):LoomStill) p3∧OSF 2008 60800 0 g w 3 99 (((((⟨⟨⟨[],0⟩,[]⟩,⟨0,⟨0,0⟩⟩⟩:LoomStill)).mill).LoomMill).Widths) p3∧OSF 2008 60802 2 g w 67 99 ((((⟨⟨⟨[],0⟩,[]⟩,⟨0,⟨0,0⟩⟩⟩:LoomStill)).mill).orders) p3∧e 10=p7∧OB 2010 g w 81 (y6.1:LoomLoomMill) p7∧e 41=.bool (o3)) (fun Q' hQ=>?_) (fun cC rC hR=>?_)
     ·replace h := hx
      clear hx
      refine Zf (Za (EL_p (fPtr p2 1) (Zc at_58_1 u3 (PT.ptr o0)) rfl ?_))
      have o8:=Zm (part_LoomStop_1).1 o0
      refine EL_p (fPtr (fPtr p2 1) 0) (Zc at_55_0 rfl (PT.ptr o8)) rfl ?_
      have lA:=Zm (part_Span_0).1 o8
      refine Ze .plain rfl (D_load (g:=a7) Tryz.isAgg3 Tryz.sizeOf3 rfl lA fun tC mA=>?_)
      obtain rfl:=Zj.1 mA
      refine EL_p (fPtr p2 1) (Zc at_58_1 u3 (PT.ptr o0)) rfl ?_
      have q8:=Zm (part_LoomStop_1).1 o0
      refine EL_p (fPtr (fPtr p2 1) 1) (Zc at_55_1 rfl (PT.ptr q8)) rfl ?_
      have nA:=Zm (part_Span_1).1 q8
      refine Ze .plain rfl (D_load (g:=a7) Tryz.isAgg3 Tryz.sizeOf3 rfl nA fun uC oA=>?_)
      obtain rfl:=Zj.1 oA
      refine Ze .plain rfl (D_buildSlice (g:=a7) 3048 (xs:=([((x3).Days).Low,((x3).Days).High]:List Int)) (vs:=[.int .i64 (((x3).Days).Low),.int .i64 (((x3).Days).High)]) Tryz.underlying26 Tryz.sizeOf3 Tryz.zeroValue3 rfl rfl (.cons rfl (.cons rfl .nil)) (RVs.cons (Zj.2 rfl) (RVs.cons (Zj.2 rfl) RVs.nil)) rfl rfl fun pA vC qA hs o109 rA hxt hfl=>?_)
      have hfr:=hfr.stp hs
      have o0:=o0.stp hs
      have u8_0_17:=u8_0_17.stp hs rfl
      have u8_2_17:=u8_2_17.stp hs rfl
      have u0:=u0.stp hs rfl
      have j1:=j1.stp hs rfl
      obtain ⟨i5,o9,h⟩:=bsome h
      refine Ze .plain rfl (Zp (g:=pA) (vs:=[qA]) en40 (.cons rfl .nil) (wk40 rA o9) fun t5 dC xC hs hr=>?_)
      have hfr:=hfr.ext hs
      have o0:=o0.ext hs
      have u8_0_17:=u8_0_17.ext hs
      have u8_2_17:=u8_2_17.ext hs
      have u0:=u0.ext hs
      have j1:=j1.ext hs
      subst hr
      refine EL_p (.bool (!i5)) (P_not rfl) rfl ?_
      refine Zg (.bool (!i5)) rfl rfl ?_
      refine Zb (Zd ?_)
      rcases Zt h with ⟨x5,h⟩ | ⟨x5,h⟩
      ·refine E_ct x5 rfl ?_
       refine Zu ?_
       obtain rfl:=sinj h
       exact hQ _ _ ⟨t5,hfr,u3,o0,d3,u0,u8_0_17,u8_2_17,x6,j1,rfl⟩
      ·refine E_cf x5 rfl ?_
       refine Za (EL_p (fPtr p2 1) (Zc at_58_1 u3 (PT.ptr o0)) rfl ?_)
       have r8:=Zm (part_LoomStop_1).1 o0
       refine EL_p (fPtr (fPtr p2 1) 0) (Zc at_55_0 rfl (PT.ptr r8)) rfl ?_
       have sA:=Zm (part_Span_0).1 r8
       refine Ze .plain rfl (D_load (g:=t5) Tryz.isAgg3 Tryz.sizeOf3 rfl sA fun yC uA=>?_)
       obtain rfl:=Zj.1 uA
       refine EL_p (fPtr p2 1) (Zc at_58_1 u3 (PT.ptr o0)) rfl ?_
       have t8:=Zm (part_LoomStop_1).1 o0
       refine EL_p (fPtr (fPtr p2 1) 1) (Zc at_55_1 rfl (PT.ptr t8)) rfl ?_
       have xA:=Zm (part_Span_1).1 t8
       refine Ze .plain rfl (D_load (g:=t5) Tryz.isAgg3 Tryz.sizeOf3 rfl xA fun aD yA=>?_)
       obtain rfl:=Zj.1 yA
       refine EL_in (.bool ((decide (((x3).Days).Low > ((x3).Days).High)))) rfl rfl rfl rfl ?_
       refine Zg (.bool ((decide (((x3).Days).Low > ((x3).Days).High)))) rfl rfl ?_
       refine Zb ?_
       obtain rfl:=sinj h
       exact hQ _ _ ⟨t5,hfr,u3,o0,d3,u0,u8_0_17,u8_2_17,x6,j1,rfl⟩
     ·clear hx
      obtain ⟨n7,hfr,v8,x8,z3,l5,u8_0_119,u8_2_119,i8,k8,q5⟩:=hR
      rcases Zt h with ⟨i6,h⟩ | ⟨i6,h⟩
      ·refine E_cond_true (Eq.trans (show ev _ _ = .bool (o3) from q5) (congrArg Value.bool i6)) ?_
       refine Zf (Za (Ze .plain rfl (D_loadO (g:=n7) Tryz.isAgg99 Tryz.sizeOf99 z3 l5 fun zA aB=>?_)))
       refine Ze .plain rfl (D_storeOc (g:=n7) (v:=zA) Tryz.sizeOf99 z3 l5 rfl aB fun bD cD hs b122 cb=>?_)
       clear cb
       have hfr:=hfr.stp hs
       refine Zg (.int .i64 (2)) rfl rfl ?_
       refine Zb (Zd (E_ret (blk_r ?_)))
       refine thn_r ?_
       obtain rfl:=sinj h
       obtain ⟨ad123,cv123,hp123,t9,cr123⟩:=ob_read Tryz.isAgg99 Tryz.sizeOf99 b122
       exact endm_ct rfl rfl ((show _=p3 from z3).trans hp123) t9 (show _=.int .i64 (2) from rfl) ⟨_,hfr,_,_,rfl,cr123,rfl⟩
      ·refine E_cond_false (Eq.trans (show ev _ _ = .bool (o3) from q5) (congrArg Value.bool i6)) ?_
       exact Zu (blk_n (Zd (gA ((⟨⟨⟨[],0⟩,[]⟩,⟨0,⟨0,0⟩⟩⟩:LoomStill)) _ _ ⟨n7,hfr,v8,x8,z3,l5,u8_0_119,u8_2_119,i8,k8⟩ h)))
  ·rintro n8 eC eD ⟨j6, hfr, y8, a9, c7, d9, u8_0_124, u8_2_124, l8, m8⟩ h
   refine Zf (Za (Ze .plain rfl (D_loadO (g:=j6) Tryz.isAgg81 Tryz.sizeOf81 l8 m8 fun o7 e9=>?_)))
   refine Ze .plain rfl (D_load (g:=j6) Tryz.isAgg58 Tryz.sizeOf58 y8 a9 fun u7 i9=>?_)
   have k9:RV j6.m _ (⟨y6.1,x3⟩:LoomStill) (.agg (setCh [[.slice none 0 0,.int .i64 0,.slice none 0 0],[.int .i64 0,.int .i64 0,.int .i64 0]] [(0,o7),(1,u7)]).flatten.toArray):=RV_build rfl (rep_pair (RV.cells e9) (rep_last (RV.cells i9)))
   generalize u9:(Value.agg (setCh [[.slice none 0 0,.int .i64 0,.slice none 0 0],[.int .i64 0,.int .i64 0,.int .i64 0]] [(0,o7),(1,u7)]).flatten.toArray)=l9 at k9
   refine EL_p l9 (u9 ▸ P_build (vs:=[(0,o7),(1,u7)]) [[.slice none 0 0,.int .i64 0,.slice none 0 0],[.int .i64 0,.int .i64 0,.int .i64 0]] lay_99 rfl rfl (.cons rfl (.cons rfl .nil)) ⟨⟨_,rfl,cells_size e9⟩,⟨⟨_,rfl,cells_size i9⟩,trivial⟩⟩) rfl ?_
   refine Ze .plain rfl (D_storeOc (g:=j6) (v:=l9) Tryz.sizeOf99 c7 d9 rfl k9 fun gD iD hs b128 cb=>?_)
   clear cb
   have hfr:=hfr.stp hs
   refine Zg (.int .i64 (0)) rfl rfl ?_
   refine Zb (Zd (E_ret ?_))
   obtain rfl:=sinj h
   obtain ⟨ad129,cv129,hp129,y9,cr129⟩:=ob_read Tryz.isAgg99 Tryz.sizeOf99 b128
   exact endm_ct rfl rfl ((show _=p3 from c7).trans hp129) y9 (show _=.int .i64 (0) from rfl) ⟨_,hfr,_,_,rfl,cr129,rfl⟩
theorem v70_0 {iO:Nat} {gI:Gh} {wI:World} {x0:List FaultDamage} {up0:Value} (rp0:RV gI.m wI x0 up0) {r:List FaultDamage} (h:f70 x0=some r):FnG Tryz.prog 70 #[up0] gI wI (fun g w v=>OM iO g w 45 r v):=by
 unfold f70 at h
 refine fnG_of_E Tryz.func70 rfl (Nat.le_of_ble_eq_true rfl) fun g0 hm hfr=>?_
 have rp0:RV g0.m wI x0 up0:=hm ▸ rp0
 show E _ 8 none _ _ _ _ _
 refine Zf (Za (Zg (.slice none 0 0) rfl rfl (Zb (Zd ?_))))
 refine Zf (Zf (Za (Zn up0 rfl rfl ?_)))
 obtain ⟨a,c,hv,hc,hrow⟩:=RV_list rp0
 refine EL_p (.bool a.isNone) (P_slnil Tryz.underlying47 (show ev _ _=_ from hv)) rfl (Zb (Zd ?_))
 cases a with
 | none=>
  have hx:x0=[]:=by
   cases x0 with
   | nil=>rfl
   | cons y ys=>obtain ⟨b,off,hb,_⟩:=hrow (by simp); cases hb
  subst hx
  have hr:r=[]:=by unfold apnd at h; split at h <;> simp at h; exact h
  subst hr
  refine E_cond_true rfl (Zf (Za ?_))
  refine Zg (.slice none 0 0) rfl rfl (Zb (Zd ?_))
  obtain ⟨gh,hxh,homh⟩:=OM.handn (i:=iO) (t:=45) (α:=FaultDamage) hfr; exact E_ret (thn_r (end1 rfl rfl (show _=.slice none 0 0 from rfl) ⟨gh,hxh,homh⟩))
 | some a=>
  refine E_cond_false rfl (Zu (Zd ?_))
  refine Zf (Za (Ze .plain rfl (D_buildSlice (g:=g0) 1 (xs:=([]:List FaultDamage)) (vs:=[]) Tryz.underlying47 Tryz.sizeOf45 Tryz.zeroValue45 rfl rfl .nil RVs.nil rfl rfl fun g1 w1 v1 hs o1 r1 hxt hfl=>?_)))
  have hfr:=hfr.stp hs
  have rp0:=rp0.stp hs
  refine Zn up0 rfl rfl ?_
  refine Ze .plain rfl (D_append (g:=g1) (i:=1) Tryz.underlying47 info_45 rfl rfl o1 r1 rfl rp0 h fun g2 w2 v2 hs o2 r2 _=>?_)
  have hfr:=hfr.stp hs
  refine Zg v2 rfl rfl (Zb (Zd ?_))
  obtain ⟨gh,hxh,homh⟩:=OM.hand (i:=iO) plain_FaultDamage hfr o2 r2; exact E_ret (end1 rfl rfl (show _=v2 from rfl) ⟨gh,hxh,homh⟩)
def f56 (x0:FaultLoom) (x1:List FaultDamage) (x2:Int):Option (Int):=
 jn (σ:=Unit) (fun _=>
  jn (σ:=Unit) (fun _=>
   some ((0:Int))
   ) fun d3=>
  (f67 ((1:Int)) ((120:Int)) (([x2]:List Int))).bind fun j1=>
  bif (!j1) then
   some ((3:Int))
  else
   d3 ()
  ) fun k6=>
 (f19 x0 x1).bind fun y9=>
 bif (y9 != (0 : Int)) then
  some (y9)
 else
  k6 ()
theorem en56:Enters Tryz.prog 56:=enters_of Tryz.func56 (by kernel_rfl) rfl
theorem wk56 {gI:Gh} {wI:World} {x0:FaultLoom} {x1:List FaultDamage} {x2:Int} {up0:Value} (rp0:RV gI.m wI x0 up0) {up1:Value} (rp1:RV gI.m wI x1 up1) {r:Int} (h:f56 x0 x1 x2=some r):Fn Tryz.prog 56 #[up0,up1,.int .i64 (x2)] gI wI (fun _ _ v=>v=.int .i64 (r)):=by
 unfold f56 at h
 refine fn_of_E Tryz.func56 rfl (Nat.le_of_ble_eq_true rfl) fun g0 hm hfr=>?_
 have rp0:RV g0.m wI x0 up0:=hm ▸ rp0
 have rp1:RV g0.m wI x1 up1:=hm ▸ rp1
 show E _ 18 none _ _ _ _ _
 refine Zf (Za (Ze .plain rfl (D_box (g:=g0) rfl rp0 fun g1 w1 p1 hs q1=>?_)))
 have hfr:=hfr.ext hs
 have rp1:=rp1.ext hs
 refine Zg (.int .i64 (0)) rfl rfl ?_
 refine Zb (Zd (Zq h (fun (s:Unit) e w=>∃ (g:Gh) ,Fr gI wI g w∧e 2=.int .i64 (x2)) (fun X6 k6 hk6 h=>?_) ?_))
 ·refine Zf (Za (Ze .plain rfl (D_load (g := g1) Tryz.isAgg37 Tryz.sizeOf37 rfl q1 fun v7 r7 => ?_)))
  refine Zn up1 rfl rfl ?_
  obtain ⟨y9,o3,h⟩:=bsome h
  refine Ze .plain rfl (Zp (g:=g1) (vs:=[v7,up1]) en19 (.cons rfl (.cons rfl .nil)) (wk19 r7 rp1 o3) fun g8 w8_ v8 hs hr=>?_)
  have hfr:=hfr.ext hs
  subst hr
  refine Zg (.int .i64 (y9)) rfl rfl ?_
  refine Zb (Zd (Zf (Za (Zn (.int .i64 (y9)) rfl rfl ?_))))
  refine EL_in (.bool ((y9 != (0:Int)))) rfl rfl rfl rfl ?_
  refine Zb (Zd ?_)
  rcases Zt h with ⟨o0,h⟩ | ⟨o0,h⟩
  ·refine E_ct o0 rfl ?_
   refine Zf (Za (Zn (.int .i64 (y9)) rfl rfl ?_))
   refine Zg (.int .i64 (y9)) rfl rfl ?_
   refine Zb (Zd (E_ret (thn_r ?_)))
   obtain rfl:=sinj h
   exact end1 rfl rfl (show _=.int .i64 (y9) from rfl) ⟨_,hfr,rfl⟩
  ·refine E_cf o0 rfl ?_
   exact Zu (Zd (hk6 () _ _ ⟨g8,hfr,rfl⟩ h))
 ·rintro _ q5 i6 ⟨u3, hfr, z2⟩ h
  refine Zq h (fun (s:Unit) e w=>∃ (g:Gh) ,Fr gI wI g w) (fun X16 d3 i3 h=>?_) ?_
  ·refine Zf (Za (Zo z2 rfl ?_))
   refine Ze .plain rfl (D_buildSlice (g:=u3) 3015 (xs:=([x2]:List Int)) (vs:=[.int .i64 (x2)]) Tryz.underlying26 Tryz.sizeOf3 Tryz.zeroValue3 rfl rfl (.cons rfl .nil) (RVs.cons (Zj.2 rfl) RVs.nil) rfl rfl fun z3 j6 z4 hs o17 i5 hxt hfl=>?_)
   have hfr:=hfr.stp hs
   obtain ⟨j1,j3,h⟩:=bsome h
   refine Ze .plain rfl (Zp (g:=z3) (vs:=[.int .i64 (1),.int .i64 (120),z4]) en67 (.cons rfl (.cons rfl (.cons rfl .nil))) (wk67 i5 j3) fun l5 t5 v6 hs hr=>?_)
   have hfr:=hfr.ext hs
   subst hr
   refine EL_p (.bool (!j1)) (P_not rfl) rfl ?_
   refine Zb (Zd ?_)
   rcases Zt h with ⟨u0,h⟩ | ⟨u0,h⟩
   ·refine E_ct u0 rfl ?_
    refine Zf (Za (Zg (.int .i64 (3)) rfl rfl ?_))
    refine Zb (Zd (E_ret (thn_r ?_)))
    obtain rfl:=sinj h
    exact end1 rfl rfl (show _=.int .i64 (3) from rfl) ⟨_,hfr,rfl⟩
   ·refine E_cf u0 rfl ?_
    exact Zu (Zd (i3 () _ _ ⟨l5,hfr⟩ h))
  ·rintro _ x5 x6 ⟨y6, hfr⟩ h
   refine Zf (Za (Zg (.int .i64 (0)) rfl rfl ?_))
   refine Zb (Zd (E_ret ?_))
   obtain rfl:=sinj h
   exact end1 rfl rfl (show _=.int .i64 (0) from rfl) ⟨_,hfr,rfl⟩
def f9 (x0:LoomMill) (x1:List LoomOrder):Option ((List LoomRun) × Int):=
 (f24 x0 x1).bind fun y4=>
 jn (σ:=(List LoomRun)) (fun b7=>
  jn (σ:=(List LoomRun)) (fun r8=>
   jn (σ:=(List LoomRun)) (fun e7=>
    some (e7,(0:Int))
    ) fun a9=>
   lp (σ:=(List LoomRun) × (List (Int × LoomRun)) × Int) (fun d9 (d3,g7,o0)=>
    bif (decide (o0 < ((x1).length : Int))) then
     jn (σ:=(List LoomRun) × (List (Int × LoomRun))) (fun (i6,j6)=>
      d9 (i6,j6,(w64 (o0 + (1:Int))))
      ) fun e9=>
     jn (σ:=(List LoomRun) × (List (Int × LoomRun))) (fun (i7,i3)=>
      (apnd 24 i7 (([((mget i3 o0).getD (⟨0,0,0⟩:LoomRun))]:List LoomRun))).bind fun i8=>
      e9 (i8,i3)
      ) fun i9=>
     (f28 (y4.1) o0 g7).bind fun y132=>
     bif (!y132.1) then
      some ([],(9:Int))
     else
      i9 (d3,y132.2)
    else
     a9 (d3)
    ) big (r8,([]:List (Int × LoomRun)),(0:Int))
   ) fun tB=>
  (f26 (y4.1)).bind fun y6=>
  (f25 (y4.1) y6 (([]:List (Int × LoomRun)))).bind fun t5=>
  (f27 (y4.1)).bind fun j7=>
  (idx t5 j7).bind fun m7=>
  bif (!m7) then
   some ([],(9:Int))
  else
   tB (b7)
  ) fun k8=>
 bif (y4.2 != (0 : Int)) then
  some ([],y4.2)
 else
  k8 ([])
theorem en9:Enters Tryz.prog 9:=enters_of Tryz.func9 (by kernel_rfl) rfl
theorem wk9 {gI:Gh} {wI:World} {x0:LoomMill} {x1:List LoomOrder} {up0:Value} (rp0:RV gI.m wI x0 up0) {up1:Value} (rp1:RV gI.m wI x1 up1) {r:(List LoomRun) × Int} (h:f9 x0 x1=some r):Fn Tryz.prog 9 #[up0,up1] gI wI (fun m w v=>∃ y0 y1,v=.tuple #[y0,y1]∧RV m w (r.1) y0∧y1=.int .i64 (r.2)):=by
 unfold f9 at h
 refine fn_of_E Tryz.func9 rfl (Nat.le_of_ble_eq_true rfl) fun g0 hm hfr=>?_
 have rp0:RV g0.m wI x0 up0:=hm ▸ rp0
 have rp1:RV g0.m wI x1 up1:=hm ▸ rp1
 show E _ 47 none _ _ _ _ _
 refine Zf (Za (Ze .plain rfl (D_box (g:=g0) rfl rp0 fun g1 w1 p1 hs q1=>?_)))
 have hfr:=hfr.ext hs
 have rp1:=rp1.ext hs
 refine Zg (.slice none 0 0) rfl rfl ?_
 refine Zg (.int .i64 (0)) rfl rfl ?_
 refine Zb (Zd (Zf (Za (Ze .plain rfl (D_load (g:=g1) Tryz.isAgg28 Tryz.sizeOf28 rfl q1 fun v2 r2=>?_)))))
 refine Zn up1 rfl rfl ?_
 obtain ⟨y4,aD,h⟩:=bsome h
 refine Ze .plain rfl (Zp (g:=g1) (vs:=[v2,up1]) en24 (.cons rfl (.cons rfl .nil)) (wk24 r2 rp1 aD) fun g3 w3_ v3 hs hr=>?_)
 have hfr:=hfr.ext hs
 have rp1:=rp1.ext hs
 obtain ⟨l8,xD,rfl,m8,rfl⟩:=hr
 refine Zn (.tuple #[l8,.int .i64 (y4.2)]) rfl rfl ?_
 refine EL_p l8 (Zi rfl rfl) rfl ?_
 refine EL_p (.int .i64 (y4.2)) (Zi rfl rfl) rfl ?_
 refine Ze .plain rfl (D_allocOc (g:=g3) 2006 (⟨⟨[],0⟩,[]⟩:LoomLoomMill) Tryz.zeroValue81 (fun m w=>⟨_,(rep_two (rep_two rep_nil rep_int) rep_nil),rfl⟩) fun g5 w5 p5 hs b5 cb=>?_)
 have hfr:=hfr.stp hs
 have rp1:=rp1.stp hs
 have m8:=m8.stp hs
 have yD:OSF 2006 60600 0 g5 w5 3 81 ([]:List Int) p5:=cb.osf (by rfl)
 have zD:OSF 2006 60602 2 g5 w5 67 81 ([]:List LoomOrder) p5:=cb.osf (by rfl)
 clear cb
 refine Ze .plain rfl (D_storeOc (g:=g5) (v:=l8) Tryz.sizeOf81 rfl b5 rfl m8 fun g6 w6 hs b6 cb=>?_)
 clear cb
 have hfr:=hfr.stp hs
 have rp1:=rp1.stp hs
 refine Zg (.int .i64 (y4.2)) rfl rfl ?_
 refine Zb (Zd (Zq h (fun (s:(List LoomRun)) e w=>∃ (g:Gh) (v4:Value),Fr gI wI g w∧e 1=up1∧RV g.m w (x1:List LoomOrder) up1∧e 4=v4∧RV g.m w (s:List LoomRun) v4∧OS 1004 g w 65 (s:List LoomRun) v4∧e 6=p5∧OB 2006 g w 81 (y4.1:LoomLoomMill) p5) (fun X8 k8 bD h=>?_) ?_))
 ·refine Zf (Za (Zn (.int .i64 (y4.2)) rfl rfl ?_))
  refine EL_in (.bool ((y4.2 != (0:Int)))) rfl rfl rfl rfl ?_
  refine Zb (Zd ?_)
  rcases Zt h with ⟨k9,h⟩ | ⟨k9,h⟩
  ·refine E_ct k9 rfl ?_
   refine Zf (Za (Zn (.int .i64 (y4.2)) rfl rfl ?_))
   refine Zg (.slice none 0 0) rfl rfl ?_
   refine Zg (.int .i64 (y4.2)) rfl rfl ?_
   refine Zb (Zd (E_ret (thn_r ?_)))
   obtain rfl:=sinj h
   exact end2 rfl rfl (show _=.slice none 0 0 from rfl) (show _=.int .i64 (y4.2) from rfl) ⟨_,hfr,_,_,rfl,RV_nil,rfl⟩
  ·refine E_cf k9 rfl ?_
   exact Zu (Zd (bD ([]) _ _ ⟨g6,(.slice none 0 0),hfr,rfl,rp1,rfl,RV_nil,OS.nil,rfl,b6⟩ h))
 ·rintro b7 aE nE ⟨cD, qA, hfr, rA, o3, sA, u3, z3, x5, u0⟩ h
  refine Zf (Za (Ze .plain rfl (D_makeMap (g:=cD) (Value.int .i64) LoomRun 8018 fun eD oE z2 hs m11=>?_)))
  have hfr:=hfr.stp hs
  have o3:=o3.stp hs
  have u3:=u3.stp hs
  have z3:=z3.stp hs rfl
  have u0:=u0.stp hs rfl
  refine Zg z2 rfl rfl ?_
  refine Zb (Zd (Zq h (fun (s:(List LoomRun)) e w=>∃ (g:Gh) (v4:Value),Fr gI wI g w∧e 1=up1∧RV g.m w (x1:List LoomOrder) up1∧e 4=v4∧RV g.m w (s:List LoomRun) v4∧OS 1004 g w 65 (s:List LoomRun) v4∧e 6=p5∧OB 2006 g w 81 (y4.1:LoomLoomMill) p5∧e 7=z2∧MP (Value.int .i64) 8018 g w (([]:List (Int × LoomRun)):List (Int × LoomRun)) z2) (fun X41 tB zB h=>?_) ?_))
  ·refine Zf (L_loadO0 (x := .tmp 6) Tryz.isAgg81 Tryz.sizeOf81 u0 fun vB gD aC => ?_)
   refine L_loadO0 (x:=.tmp 6) Tryz.isAgg81 Tryz.sizeOf81 u0 fun xB iD cC=>?_
   obtain ⟨y6,dC,h⟩:=bsome h
   obtain ⟨t5,eC,h⟩:=bsome h
   refine L_loadO0 (x:=.tmp 6) Tryz.isAgg81 Tryz.sizeOf81 u0 fun yB jD iC=>?_
   obtain ⟨j7,jC,h⟩:=bsome h
   obtain ⟨m7,n8,h⟩:=bsome h
   refine E_drawL (g:=eD) (n:=10) [(2,(fun v g w=>RV g.m w y6 v)),(4,(fun v g w=>RV g.m w t5 v)),(6,(fun v g w=>v=.int .i64 (j7))),(8,(fun v _ _=>v=.bool (m7)))] [0,1,2,3,4,5,6,7,8,9] rfl mixed (by kernel_rfl) (⟨fun _=>up_rv,fun _=>up_rv,fun _=>up_eq _,fun _=>up_eq _,trivial⟩) ?_
   refine L_ld (c:=vB) rfl rfl .plain (fun _ _ h=>⟨h.ch,fun b hb _=>h.below.block b hb⟩) aC x5 ?_
   refine L_ld (c:=xB) rfl rfl .plain (fun _ _ h=>⟨h.ch,fun b hb _=>h.below.block b hb⟩) cC x5 ?_
   refine L_do (φ:=fun v g w=>RV g.m w y6 v) rfl rfl .plain (fun g w hd=>Zp (g:=g) (vs:=[xB]) en26 (.cons rfl .nil) (wk26 (iD.ext hd.1) dC) fun g' w' v hs hr=>⟨g',hs,hr⟩) (fun l9 hv=>?_)
   obtain ⟨_,_,_,rq44⟩:=hv
   refine L_p z2 rfl rfl (Zk rfl) ?_
   refine L_do (φ:=fun v g w=>RV g.m w t5 v) rfl rfl .plain (fun g w hd=>Zp (g:=g) (vs:=[vB,l9,z2]) en25 (.cons rfl (.cons rfl (.cons rfl .nil))) (wk25 (gD.ext hd.1) (word (A:=fun g w=>RV g.m w y6 l9) 2 rfl rfl (deps_of hd)) (m11.ext hd.1).r eC) fun g' w' v hs hr=>⟨g',hs,hr⟩) (fun n7 hv=>?_)
   obtain ⟨_,_,_,rq46⟩:=hv
   refine L_ld (c:=yB) rfl rfl .plain (fun _ _ h=>⟨h.ch,fun b hb _=>h.below.block b hb⟩) iC x5 ?_
   refine L_do (φ:=fun v g w=>v=.int .i64 (j7)) rfl rfl .plain (fun g w hd=>Zp (g:=g) (vs:=[yB]) en27 (.cons rfl .nil) (wk27 (jD.ext hd.1) jC) fun g' w' v hs hr=>⟨g',hs,hr⟩) (fun rE hv=>?_)
   obtain ⟨_,_,_,rfl⟩:=hv
   refine L_pur (c:=ePtr n7 j7 1) rfl rfl .plain (fun _ _ hd=>Zh (α:=Bool) Tryz.underlying86 Tryz.sizeOf4 rfl (word (A:=fun g w=>RV g.m w t5 n7) 4 rfl rfl (deps_of hd)) rfl n8) ?_
   refine L_do (φ:=(fun v _ _=>v=.bool (m7))) rfl rfl .plain (fun g w hd=>D_load (g:=g) Tryz.isAgg4 Tryz.sizeOf4 rfl (PT_idx (word (A:=fun g w=>RV g.m w t5 n7) 4 rfl rfl (hop 7 rfl rfl (deps_of hd))) n8) fun v r=>⟨g,Ext.refl g w,RV_bool.1 r⟩) (fun sE hv=>?_)
   obtain ⟨_,_,_,rfl⟩:=hv
   refine L_p (.bool (!m7)) rfl rfl (P_not rfl) ?_
   refine L_nil fun kD tE hall=>?_
   have hs:=hall.1
   have hfr:=hfr.ext hs
   have o3:=o3.ext hs
   have u3:=u3.ext hs
   have z3:=z3.ext hs
   have u0:=u0.ext hs
   have m11:=m11.ext hs
   have uE:=(word_all (A:=fun g w=>RV g.m w y6 l9) 2 rfl hall)
   have vE:=(word_all (A:=fun g w=>RV g.m w t5 n7) 4 rfl hall)
   have xE:=(PT_idx (word_all (A:=fun g w=>RV g.m w t5 n7) 4 rfl hall) n8)
   clear hs hall
   refine Zb (Zd ?_)
   rcases Zt h with ⟨o8,h⟩ | ⟨o8,h⟩
   ·refine E_ct o8 rfl ?_
    refine Zf (Za (Zg (.slice none 0 0) rfl rfl ?_))
    refine Zg (.int .i64 (9)) rfl rfl ?_
    refine Zb (Zd (E_ret (thn_r ?_)))
    obtain rfl:=sinj h
    exact end2 rfl rfl (show _=.slice none 0 0 from rfl) (show _=.int .i64 (9) from rfl) ⟨_,hfr,_,_,rfl,RV_nil,rfl⟩
   ·refine E_cf o8 rfl ?_
    exact Zu (Zd (zB (b7) _ _ ⟨kD,(qA),hfr,rA,o3,sA,u3,z3,x5,u0,rfl,m11⟩ h))
  ·rintro r8 bE yE ⟨lD, uA, hfr, xA, yA, zA, aB, bB, cB, dB, eB, iB⟩ h
   refine Zq h (fun (s:(List LoomRun)) e w=>∃ (g:Gh) (v4:Value),Fr gI wI g w∧e 4=v4∧RV g.m w (s:List LoomRun) v4∧OS 1004 g w 65 (s:List LoomRun) v4) (fun X106 a9 jB h=>?_) ?_
   ·refine Zf (Za (Zo xA rfl ?_))
    refine EL_p (.int .i64 ((x1).length:Int)) (P_len Tryz.underlying29 rfl yA) rfl ?_
    refine Zn (.int .i64 (0)) rfl rfl ?_
    refine Zb (Zd (Zr ?_))
    refine E_lp h (fun (s:(List LoomRun) × (List (Int × LoomRun)) × Int) e w=>∃ (g:Gh) (v4:Value),Fr gI wI g w∧e 4=v4∧RV g.m w (s.1:List LoomRun) v4∧OS 1004 g w 65 (s.1:List LoomRun) v4∧e 6=p5∧OB 2006 g w 81 (y4.1:LoomLoomMill) p5∧e 7=z2∧MP (Value.int .i64) 8018 g w (s.2.1:List (Int × LoomRun)) z2∧e 30=.int .i64 (((x1).length:Int))∧e 31=.int .i64 (s.2.2)) ⟨lD,(uA),hfr,zA,aB,bB,cB,dB,eB,iB,rfl,rfl⟩ (fun X107 d9 kB=>?_)
    rintro ⟨d3,g7,o0⟩ oD cE ⟨q8,o7,hfr,u7,z4,i5,v7,l5,c8,n9,a7,q5⟩ h
    refine Zf (Za (EL_in (.bool ((decide (o0 < ((x1).length:Int))))) q5 a7 rfl rfl ?_))
    refine Zb (Zd (Zf ?_))
    rcases Zt h with ⟨c7,h⟩ | ⟨c7,h⟩
    ·refine E_ct c7 rfl ?_
     refine Zu (Zd (Zq h (fun (s:(List LoomRun) × (List (Int × LoomRun))) e w=>∃ (g:Gh) (v4:Value),Fr gI wI g w∧e 4=v4∧RV g.m w (s.1:List LoomRun) v4∧OS 1004 g w 65 (s.1:List LoomRun) v4∧e 6=p5∧OB 2006 g w 81 (y4.1:LoomLoomMill) p5∧e 7=z2∧MP (Value.int .i64) 8018 g w (s.2:List (Int × LoomRun)) z2∧e 30=.int .i64 (((x1).length:Int))∧e 31=.int .i64 (o0)) (fun X124 e9 lB h=>?_) ?_))
     ·refine Zr ?_
      refine Zf (Za (Zo q5 rfl ?_))
      refine Zg (.int .i64 (o0)) rfl rfl ?_
      refine Zb (Zd (Zq h (fun (s:(List LoomRun) × (List (Int × LoomRun))) e w=>∃ (g:Gh) (v4:Value),Fr gI wI g w∧e 4=v4∧RV g.m w (s.1:List LoomRun) v4∧OS 1004 g w 65 (s.1:List LoomRun) v4∧e 6=p5∧OB 2006 g w 81 (y4.1:LoomLoomMill) p5∧e 7=z2∧MP (Value.int .i64) 8018 g w (s.2:List (Int × LoomRun)) z2∧e 8=.int .i64 (o0)∧e 30=.int .i64 (((x1).length:Int))∧e 31=.int .i64 (o0)) (fun X129 i9 mB h=>?_) ?_))
      ·refine Zf (Za (Ze .plain rfl (D_loadO (g := q8) Tryz.isAgg81 Tryz.sizeOf81 v7 l5 fun kC lC => ?_)))
       refine Zn (.int .i64 (o0)) rfl rfl ?_
       refine Zo c8 rfl ?_
       obtain ⟨y132,nB,h⟩:=bsome h
       refine Ze .plain rfl (D_callM (g:=q8) (i:=8018) (vs:=[kC,.int .i64 (o0),z2]) en28 (.cons rfl (.cons rfl (.cons rfl .nil))) (wk28 lC n9 nB) fun mC sD dE hs hr=>?_)
       obtain ⟨hrv,b131⟩:=hr
       have hfr:=hfr.stp hs
       have z4:=z4.stp hs
       have i5:=i5.stp hs rfl
       have l5:=l5.stp hs rfl
       subst hrv
       refine EL_p (.bool (!y132.1)) (P_not rfl) rfl ?_
       refine Zb (Zd ?_)
       rcases Zt h with ⟨d7,h⟩ | ⟨d7,h⟩
       ·refine E_ct d7 rfl ?_
        refine Zf (Za (Zg (.slice none 0 0) rfl rfl ?_))
        refine Zg (.int .i64 (9)) rfl rfl ?_
        refine Zb (Zd (E_ret (thn_r ?_)))
        refine blk_r ?_
        refine thn_r ?_
        refine thn_r ?_
        refine blk_r ?_
        refine thn_r ?_
        obtain rfl:=sinj h
        exact end2 rfl rfl (show _=.slice none 0 0 from rfl) (show _=.int .i64 (9) from rfl) ⟨_,hfr,_,_,rfl,RV_nil,rfl⟩
       ·refine E_cf d7 rfl ?_
        exact Zu (Zd (mB (d3,y132.2) _ _ ⟨mC,(o7),hfr,u7,z4,i5,v7,l5,c8,b131,rfl,a7,q5⟩ h))
      ·rintro ⟨i7, i3⟩ tD eE ⟨o9, mD, hfr, t9, v6, x6, u9, j3, e8, j1, y9, t8, v8⟩ h
       refine Za (Zo t9 rfl ?_)
       refine Zo e8 rfl ?_
       refine Zo y9 rfl ?_
       refine Ze .plain rfl (D_lookup (g:=o9) (z0:=(⟨0,0,0⟩:LoomRun)) Tryz.underlying85 key_3 Tryz.zeroValue65 (fun m w=>⟨_,(rep_two rep_int (rep_two rep_int rep_int)),rfl⟩) rfl j1 rfl fun qC rC=>?_)
       refine Ze .plain rfl (D_buildSlice (g:=o9) 3043 (xs:=([((mget i3 o0).getD (⟨0,0,0⟩:LoomRun))]:List LoomRun)) (vs:=[qC]) Tryz.underlying48 Tryz.sizeOf65 Tryz.zeroValue65 rfl rfl (.cons rfl .nil) (RVs.cons rC RVs.nil) rfl rfl fun tC gE iE hs o136 uC hxt hfl=>?_)
       have hfr:=hfr.stp hs
       have v6:=v6.stp hs
       have x6:=x6.stp hs rfl
       have j3:=j3.stp hs rfl
       have j1:=j1.stp hs rfl
       obtain ⟨i8,oB,h⟩:=bsome h
       refine Ze .plain rfl (D_append (g:=tC) (i:=1004) Tryz.underlying48 info_65 rfl rfl x6 v6 rfl uC oB fun vC jE z9 hs o137 xC _=>?_)
       have hfr:=hfr.stp hs
       have j3:=j3.stp hs rfl
       have j1:=j1.stp hs rfl
       refine Zg z9 rfl rfl ?_
       exact Zb (blk_n (Zd (lB (i8,i3) _ _ ⟨vC,(z9),hfr,rfl,xC,o137,u9,j3,e8,j1,t8,v8⟩ h)))
     ·rintro ⟨i6, j6⟩ uD kE ⟨yC, bA, hfr, gA, iA, jA, kA, lA, mA, nA, x8, y8⟩ h
      refine Za (EL_in (.int .i64 ((w64 (o0 + (1:Int))))) y8 rfl rfl rfl ?_)
      refine Zn (.int .i64 ((w64 (o0 + (1:Int))))) rfl rfl ?_
      exact Zb (Zd (kB (i6,j6,(w64 (o0 + (1:Int)))) _ _ ⟨yC,(bA),hfr,gA,iA,jA,kA,lA,mA,nA,x8,rfl⟩ h))
    ·refine E_cf c7 rfl ?_
     refine E_exit ?_
     refine thn_e ?_
     refine thn_e ?_
     refine blk_hit ?_
     exact Zd (jB (d3) _ _ ⟨q8,(o7),hfr,u7,z4,i5⟩ h)
   ·rintro e7 vD lE ⟨mE, g8, hfr, oA, pA, nD⟩ h
    refine Zf (Za (Zo oA rfl ?_))
    refine Zg g8 rfl rfl ?_
    refine Zg (.int .i64 (0)) rfl rfl ?_
    refine Zb (Zd (E_ret ?_))
    obtain rfl:=sinj h
    exact end2 rfl rfl (show _=g8 from rfl) (show _=.int .i64 (0) from rfl) ⟨_,hfr,_,_,rfl,pA,rfl⟩
theorem v35_0 {iO:Nat} {gI:Gh} {wI:World} {x0:List LoomRun} {up0:Value} (rp0:RV gI.m wI x0 up0) {r:List LoomRun} (h:f35 x0=some r):FnG Tryz.prog 35 #[up0] gI wI (fun g w v=>OM iO g w 65 r v):=by
 unfold f35 at h
 refine fnG_of_E Tryz.func35 rfl (Nat.le_of_ble_eq_true rfl) fun g0 hm hfr=>?_
 have rp0:RV g0.m wI x0 up0:=hm ▸ rp0
 show E _ 8 none _ _ _ _ _
 refine Zf (Za (Zg (.slice none 0 0) rfl rfl (Zb (Zd ?_))))
 refine Zf (Zf (Za (Zn up0 rfl rfl ?_)))
 obtain ⟨a,c,hv,hc,hrow⟩:=RV_list rp0
 refine EL_p (.bool a.isNone) (P_slnil Tryz.underlying48 (show ev _ _=_ from hv)) rfl (Zb (Zd ?_))
 cases a with
 | none=>
  have hx:x0=[]:=by
   cases x0 with
   | nil=>rfl
   | cons y ys=>obtain ⟨b,off,hb,_⟩:=hrow (by simp); cases hb
  subst hx
  have hr:r=[]:=by unfold apnd at h; split at h <;> simp at h; exact h
  subst hr
  refine E_cond_true rfl (Zf (Za ?_))
  refine Zg (.slice none 0 0) rfl rfl (Zb (Zd ?_))
  obtain ⟨gh,hxh,homh⟩:=OM.handn (i:=iO) (t:=65) (α:=LoomRun) hfr; exact E_ret (thn_r (end1 rfl rfl (show _=.slice none 0 0 from rfl) ⟨gh,hxh,homh⟩))
 | some a=>
  refine E_cond_false rfl (Zu (Zd ?_))
  refine Zf (Za (Ze .plain rfl (D_buildSlice (g:=g0) 1 (xs:=([]:List LoomRun)) (vs:=[]) Tryz.underlying48 Tryz.sizeOf65 Tryz.zeroValue65 rfl rfl .nil RVs.nil rfl rfl fun g1 w1 v1 hs o1 r1 hxt hfl=>?_)))
  have hfr:=hfr.stp hs
  have rp0:=rp0.stp hs
  refine Zn up0 rfl rfl ?_
  refine Ze .plain rfl (D_append (g:=g1) (i:=1) Tryz.underlying48 info_65 rfl rfl o1 r1 rfl rp0 h fun g2 w2 v2 hs o2 r2 _=>?_)
  have hfr:=hfr.stp hs
  refine Zg v2 rfl rfl (Zb (Zd ?_))
  obtain ⟨gh,hxh,homh⟩:=OM.hand (i:=iO) plain_LoomRun hfr o2 r2; exact E_ret (end1 rfl rfl (show _=v2 from rfl) ⟨gh,hxh,homh⟩)
end Go.Proofs.YtomjodbnpgbjnaaGreat
