import Derived.Test.YtmpjooneiaiffaaCode5
set_option maxRecDepth 8000
set_option maxHeartbeats 4000000
namespace Go.Proofs.Ytmpjooneiaiffaa
open Go.RowKit
def f8 (x0:Race) (x1:UInt8):Option (Bool):=
 (f38 x0).bind fun y4=>
 (f39 x0 y4 ((16:Int))).bind fun i6=>
 (f44 y4 (i6.2.1)).bind fun y6=>
 (f15 y4).bind fun lS=>
 (f16 y6).bind fun mS=>
 (f17 lS mS).bind fun i3=>
 jn (σ:=Unit) (fun _=>
  (f15 y4).bind fun nS=>
  (f28 (i3.1)).bind fun oS=>
  (f40 nS oS).bind fun i7=>
  jn (σ:=Unit) (fun _=>
   jn (σ:=Unit) (fun _=>
    jn (σ:=Unit) (fun _=>
     jn (σ:=Unit) (fun _=>
      jn (σ:=Unit) (fun _=>
       (f14).bind fun gE=>
       some (gE)
       ) fun pG=>
      (rem64 ((x1).toNat:Int) (2:Int)).bind fun q8=>
      (idx ((y4).Boxes) q8).bind fun qG=>
      bif (decide (qG < (4 : Int))) then
       (f15 y4).bind fun t8=>
       (idx ((t8).Boxes) q8).bind fun kD=>
       (f16 y6).bind fun tJ=>
       (f17 (({ t8 with Boxes:=(List.set ((t8).Boxes) (Int.toNat q8) (w64 (kD + (1:Int)))) }:BoxLoom)) tJ).bind fun v6=>
       Option.bind (α:=Bool) (
        bif (v6.2.2.2 != (0 : Int)) then
         some (true)
        else
         some ((decide (v6.2.1 > i3.2.1)))
        ) fun mA=>
       bif mA then
        some (false)
       else
        pG ()
      else
       pG ()
      ) fun rG=>
     bif (decide (((y6).length : Int) > (0 : Int))) then
      (f15 y4).bind fun iC=>
      (cut y6 0 (w64 (((y6).length:Int) - (1:Int)))).bind fun uJ=>
      (f16 uJ).bind fun lC=>
      (f17 iC lC).bind fun i5=>
      Option.bind (α:=Bool) (
       bif (i5.2.2.2 != (0 : Int)) then
        some (true)
       else
        some ((decide (i5.2.1 > i3.2.1)))
       ) fun pA=>
      bif pA then
       some (false)
      else
       rG ()
     else
      rG ()
     ) fun sG=>
    lp (σ:=Int) (fun vJ o0=>
     jn (σ:=Unit) (fun _=>
      jn (σ:=Unit) (fun _=>
       vJ ((w64 (o0 + (1:Int))))
       ) fun xJ=>
      (idx (i3.1) o0).bind fun tG=>
      (idx (i6.1) o0).bind fun uG=>
      bif (!(decide (tG = uG))) then
       jn (σ:=Unit) (fun _=>
        sG ()
        ) fun yJ=>
       Option.bind (α:=Bool) (
        (idx (i3.1) o0).bind fun x8=>
        (idx (i6.1) o0).bind fun a9=>
        bif (decide ((x8).Left > (a9).Left)) then
         some (true)
        else
         (idx (i3.1) o0).bind fun iA=>
         (idx (i6.1) o0).bind fun jA=>
         bif ((iA).Left == (jA).Left) then
          (idx (i3.1) o0).bind fun mC=>
          (idx (i6.1) o0).bind fun qC=>
          some ((decide ((mC).Right > (qC).Right)))
         else
          some (false)
        ) fun qA=>
       bif qA then
        some (false)
       else
        yJ ()
      else
       xJ ()
      ) fun zJ=>
     Option.bind (α:=Bool) (
      bif (decide (o0 < ((i3.1).length : Int))) then
       some ((i3.2.1 == i6.2.2.2))
      else
       some (false)
      ) fun rA=>
     bif rA then
      zJ ()
     else
      sG ()
     ) big ((0:Int))
    ) fun oM=>
   lp (σ:=Int) (fun pM a7=>
    jn (σ:=Unit) (fun _=>
     jn (σ:=Unit) (fun _=>
      pM ((w64 (a7 + (1:Int))))
      ) fun qM=>
     (idx (i7.1) a7).bind fun vG=>
     (idx y6 a7).bind fun xG=>
     bif (vG != xG) then
      some (false)
     else
      qM ()
     ) fun rM=>
    bif (decide (a7 < ((i7.1).length : Int))) then
     rM ()
    else
     oM ()
    ) big ((0:Int))
   ) fun k60=>
  Option.bind (α:=Bool) (
   bif (i7.2.2.2.2 != (0 : Int)) then
    some (true)
   else
    bif (i7.2.2.1 != i3.2.1) then
     some (true)
    else
     some ((((i7.1).length:Int) != ((y6).length:Int)))
   ) fun lB=>
  bif lB then
   some (false)
  else
   k60 ()
  ) fun k33=>
 Option.bind (α:=Bool) (
  bif (i3.2.2.2 != (0 : Int)) then
   some (true)
  else
   bif (i3.2.2.1 != (0 : Int)) then
    some (true)
   else
    bif (decide (i3.2.1 > i6.2.2.2)) then
     some (true)
    else
     bif (decide (i3.2.1 < (0 : Int))) then
      some (true)
     else
      some ((((i3.1).length:Int) != ((y6).length:Int)))
  ) fun eC=>
 bif eC then
  some (false)
 else
  k33 ()
theorem wk8 {gI:Gh} {wI:World} {x0:Race} {x1:UInt8} {up0:Value} (rp0:RV gI.m wI x0 up0) {r:Bool} (h:f8 x0 x1=some r):Fn Try.prog 8 #[up0,.int .u8 (UInt8.toNat (x1))] gI wI (fun _ _ v=>v=.bool (r)):=by
 unfold f8 at h
 refine fn_of_E Try.func8 rfl (Nat.le_of_ble_eq_true rfl) fun g0 hm hfr=>?_
 have rp0:RV g0.m wI x0 up0:=hm ▸ rp0
 show E _ 233 none _ _ _ _ _
 refine Zf (Za (Ze .plain rfl (D_box (g:=g0) rfl rp0 fun g1 w1 p1 hs q1=>?_)))
 have hfr:=hfr.ext hs
 refine Zg (.bool false) rfl rfl ?_
 refine Zb (Zd (Zf (Za (Ze .plain rfl (D_load (g:=g1) Try.isAgg73 Try.sizeOf73 rfl q1 fun v2 r2=>?_)))))
 obtain ⟨y4,cU,h⟩:=bsome h
 refine Ze .plain rfl (Zp (g:=g1) (vs:=[v2]) en38 (.cons rfl .nil) (wk38 r2 cU) fun g3 w3_ v3 hs hr=>?_)
 have hfr:=hfr.ext hs
 have q1:=q1.ext hs
 have r3:=hr
 refine Ze .plain rfl (D_allocOc (g:=g3) 2005 (⟨[],[],[]⟩:BoxLoom) Try.zeroValue25 (fun m w=>⟨_,(rep_two rep_nil (rep_two rep_nil rep_nil)),rfl⟩) fun g5 w5 p5 hs b5 cb=>?_)
 have hfr:=hfr.stp hs
 have q1:=q1.stp hs
 have r3:=r3.stp hs
 have uX:OSF 2005 60500 0 g5 w5 3 25 ([]:List Int) p5:=cb.osf (by rfl)
 have vX:OSF 2005 60501 1 g5 w5 3 25 ([]:List Int) p5:=cb.osf (by rfl)
 have xX:OSF 2005 60502 2 g5 w5 87 25 ([]:List BoxShuttle) p5:=cb.osf (by rfl)
 clear cb
 refine Ze .plain rfl (D_storeOc (g:=g5) (v:=v3) Try.sizeOf25 rfl b5 rfl r3 fun g6 w6 hs b6 cb=>?_)
 clear cb
 have hfr:=hfr.stp hs
 have q1:=q1.stp hs
 refine Zb (Zd (Zf (Za (Ze .plain rfl (D_load (g:=g6) Try.isAgg73 Try.sizeOf73 rfl q1 fun v7 r7=>?_)))))
 refine Ze .plain rfl (D_loadO (g:=g6) Try.isAgg25 Try.sizeOf25 rfl b6 fun v8 r8=>?_)
 obtain ⟨i6,sS,h⟩:=bsome h
 refine Ze .plain rfl (Zp (g:=g6) (vs:=[v7,v8,.int .i64 (16)]) en39 (.cons rfl (.cons rfl (.cons rfl .nil))) (wk39 r7 r8 sS) fun g9 w9_ v9 hs hr=>?_)
 have hfr:=hfr.ext hs
 have b6:=b6.ext hs
 obtain ⟨t5,nE,sI,yX,rfl,k9,oE,tI,rfl⟩:=hr
 refine Zn (.tuple #[t5,nE,sI,.int .i64 (i6.2.2.2)]) rfl rfl ?_
 refine EL_p t5 (Zi rfl rfl) rfl ?_
 refine EL_p nE (Zi rfl rfl) rfl ?_
 refine EL_p sI (Zi rfl rfl) rfl ?_
 refine EL_p (.int .i64 (i6.2.2.2)) (Zi rfl rfl) rfl ?_
 refine Ze .plain rfl (D_allocOc (g:=g9) 2008 ((⟨List.toArray [(⟨List.toArray [0,0,0,0],rfl⟩:Vector Int 4),(⟨List.toArray [0,0,0,0],rfl⟩:Vector Int 4)],rfl⟩:Vector (Vector Int 4) 2):Vector (Vector Int 4) 2) Try.zeroValue76 (fun m w=>⟨_,(rep_vec (flat_chunk (rep_vec (flat_chunk rep_int (flat_chunk rep_int (flat_chunk rep_int (flat_chunk rep_int flat_nil)))) rfl) (flat_chunk (rep_vec (flat_chunk rep_int (flat_chunk rep_int (flat_chunk rep_int (flat_chunk rep_int flat_nil)))) rfl) flat_nil)) rfl),rfl⟩) fun dU yY zY hs b11 cb=>?_)
 have hfr:=hfr.stp hs
 have b6:=b6.stp hs rfl
 have k9:=k9.stp hs
 have oE:=oE.stp hs
 have tI:=tI.stp hs
 clear cb
 refine Zg t5 rfl rfl ?_
 refine Zg nE rfl rfl ?_
 refine Ze .plain rfl (D_storeOc (g:=dU) (v:=sI) Try.sizeOf76 rfl b11 rfl tI fun pS aZ hs b12 cb=>?_)
 clear cb
 have hfr:=hfr.stp hs
 have b6:=b6.stp hs rfl
 have k9:=k9.stp hs
 have oE:=oE.stp hs
 refine Zg (.int .i64 (i6.2.2.2)) rfl rfl ?_
 refine Zb (Zd (Zf (Za (Ze .plain rfl (D_loadO (g:=pS) Try.isAgg25 Try.sizeOf25 rfl b6 fun eU gU=>?_)))))
 refine Zn nE rfl rfl ?_
 obtain ⟨y6,tS,h⟩:=bsome h
 refine Ze .plain rfl (Zp (g:=pS) (vs:=[eU,nE]) en44 (.cons rfl (.cons rfl .nil)) (wk44 gU oE tS) fun qS zX x5 hs hr=>?_)
 have hfr:=hfr.ext hs
 have b6:=b6.ext hs
 have k9:=k9.ext hs
 have mB:=hr
 refine Zg x5 rfl rfl ?_
 refine Zb (Zd (Zf (Za (Ze .plain rfl (D_loadO (g:=qS) Try.isAgg25 Try.sizeOf25 rfl b6 fun iU jU=>?_)))))
 obtain ⟨lS,uS,h⟩:=bsome h
 refine Ze .plain rfl (Zp (g:=qS) (vs:=[iU]) en15 (.cons rfl .nil) (wk15 jU uS) fun kU aY lU hs hr=>?_)
 have hfr:=hfr.ext hs
 have b6:=b6.ext hs
 have k9:=k9.ext hs
 have mB:=mB.ext hs
 have sM:=hr
 refine Zn x5 rfl rfl ?_
 obtain ⟨mS,vS,h⟩:=bsome h
 refine Ze .plain rfl (Zp (g:=kU) (vs:=[x5]) en16 (.cons rfl .nil) (wk16 mB vS) fun mU bY nU hs hr=>?_)
 have hfr:=hfr.ext hs
 have b6:=b6.ext hs
 have k9:=k9.ext hs
 have mB:=mB.ext hs
 have sM:=sM.ext hs
 have oU:=hr
 obtain ⟨i3,xS,h⟩:=bsome h
 refine Ze .plain rfl (Zp (g:=mU) (vs:=[lU,nU]) en17 (.cons rfl (.cons rfl .nil)) (wk17 sM oU xS) fun qH cY bZ hs hr=>?_)
 have hfr:=hfr.ext hs
 have b6:=b6.ext hs
 have k9:=k9.ext hs
 have mB:=mB.ext hs
 obtain ⟨u3,qV,rV,sV,rfl,rC,rfl,rfl,rfl⟩:=hr
 refine Zn (.tuple #[u3,.int .i64 (i3.2.1),.int .i64 (i3.2.2.1),.int .i64 (i3.2.2.2)]) rfl rfl ?_
 refine EL_p u3 (Zi rfl rfl) rfl ?_
 refine EL_p (.int .i64 (i3.2.1)) (Zi rfl rfl) rfl ?_
 refine EL_p (.int .i64 (i3.2.2.1)) (Zi rfl rfl) rfl ?_
 refine EL_p (.int .i64 (i3.2.2.2)) (Zi rfl rfl) rfl ?_
 refine Zg u3 rfl rfl ?_
 refine Zg (.int .i64 (i3.2.1)) rfl rfl ?_
 refine Zg (.int .i64 (i3.2.2.1)) rfl rfl ?_
 refine Zg (.int .i64 (i3.2.2.2)) rfl rfl ?_
 refine Zb (Zd (Zq h (fun (s:Unit) e w=>∃ (g:Gh) ,Fr gI wI g w∧e 1=.int .u8 (UInt8.toNat (x1))∧e 5=p5∧OB 2005 g w 25 (y4:BoxLoom) p5∧e 6=t5∧RV g.m w (i6.1:List BoxPick) t5∧e 9=.int .i64 (i6.2.2.2)∧e 10=x5∧RV g.m w (y6:List Int) x5∧e 11=u3∧RV g.m w (i3.1:List BoxPick) u3∧e 12=.int .i64 (i3.2.1)) (fun X33 k33 yS h=>?_) ?_))
 ·obtain ⟨eC, hx, h⟩ := bsome h
  refine E_join (fun e w=>∃ (g:Gh) ,Fr gI wI g w∧e 1=.int .u8 (UInt8.toNat (x1))∧e 5=p5∧OB 2005 g w 25 (y4:BoxLoom) p5∧e 6=t5∧RV g.m w (i6.1:List BoxPick) t5∧e 9=.int .i64 (i6.2.2.2)∧e 10=x5∧RV g.m w (y6:List Int) x5∧e 11=u3∧RV g.m w (i3.1:List BoxPick) u3∧e 12=.int .i64 (i3.2.1)∧e 76=.bool (eC)) (fun Q' hQ=>?_) (fun dY cZ hR=>?_)
  ·replace h := hx
   clear hx
   refine Za (Zn (.int .i64 (i3.2.2.2)) rfl rfl ?_)
   refine EL_in (.bool ((i3.2.2.2 != (0:Int)))) rfl rfl rfl rfl ?_
   refine Zn (.bool ((i3.2.2.2 != (0:Int)))) rfl rfl ?_
   rcases Zt h with ⟨bD,h⟩ | ⟨bD,h⟩
   ·refine EL_s rfl rfl bD rfl rfl ?_
    refine EL_s rfl rfl bD rfl rfl ?_
    refine EL_p (.bool true) (Zl (b:=(i3.2.2.2 != (0:Int))) rfl (pick_t bD rfl)) rfl ?_
    refine EL_dead 16 rfl ?_
    refine Zb ?_
    obtain rfl:=sinj h
    exact hQ _ _ ⟨qH,hfr,rfl,rfl,b6,rfl,k9,rfl,rfl,mB,rfl,rC,rfl,rfl⟩
   ·refine EL_y (.int .i64 (i3.2.2.1)) (Zk rfl) rfl rfl bD rfl ?_
    refine EL_y (.bool ((i3.2.2.1 != (0:Int)))) (P_int rfl rfl rfl) rfl rfl bD rfl ?_
    refine EL_p (.bool ((i3.2.2.1 != (0:Int)))) (Zl (b:=(i3.2.2.2 != (0:Int))) rfl (pick_f bD rfl)) rfl ?_
    refine Zn (.bool ((i3.2.2.1 != (0:Int)))) rfl rfl ?_
    rcases Zt h with ⟨vB,h⟩ | ⟨vB,h⟩
    ·refine EL_s rfl rfl vB rfl rfl ?_
     refine EL_s rfl rfl vB rfl rfl ?_
     refine EL_s rfl rfl vB rfl rfl ?_
     refine EL_p (.bool true) (Zl (b:=(i3.2.2.1 != (0:Int))) rfl (pick_t vB rfl)) rfl ?_
     refine EL_dead 11 rfl ?_
     refine Zb ?_
     obtain rfl:=sinj h
     exact hQ _ _ ⟨qH,hfr,rfl,rfl,b6,rfl,k9,rfl,rfl,mB,rfl,rC,rfl,rfl⟩
    ·refine EL_y (.int .i64 (i3.2.1)) (Zk rfl) rfl rfl vB rfl ?_
     refine EL_y (.int .i64 (i6.2.2.2)) (Zk rfl) rfl rfl vB rfl ?_
     refine EL_y (.bool ((decide (i3.2.1 > i6.2.2.2)))) (P_int rfl rfl rfl) rfl rfl vB rfl ?_
     refine EL_p (.bool ((decide (i3.2.1 > i6.2.2.2)))) (Zl (b:=(i3.2.2.1 != (0:Int))) rfl (pick_f vB rfl)) rfl ?_
     refine Zn (.bool ((decide (i3.2.1 > i6.2.2.2)))) rfl rfl ?_
     rcases Zt h with ⟨cD,h⟩ | ⟨cD,h⟩
     ·refine EL_s rfl rfl cD rfl rfl ?_
      refine EL_s rfl rfl cD rfl rfl ?_
      refine EL_p (.bool true) (Zl (b:=(decide (i3.2.1 > i6.2.2.2))) rfl (pick_t cD rfl)) rfl ?_
      refine EL_dead 7 rfl ?_
      refine Zb ?_
      obtain rfl:=sinj h
      exact hQ _ _ ⟨qH,hfr,rfl,rfl,b6,rfl,k9,rfl,rfl,mB,rfl,rC,rfl,rfl⟩
     ·refine EL_y (.int .i64 (i3.2.1)) (Zk rfl) rfl rfl cD rfl ?_
      refine EL_y (.bool ((decide (i3.2.1 < (0:Int))))) (P_int rfl rfl rfl) rfl rfl cD rfl ?_
      refine EL_p (.bool ((decide (i3.2.1 < (0:Int))))) (Zl (b:=(decide (i3.2.1 > i6.2.2.2))) rfl (pick_f cD rfl)) rfl ?_
      refine Zn (.bool ((decide (i3.2.1 < (0:Int))))) rfl rfl ?_
      rcases Zt h with ⟨iB,h⟩ | ⟨iB,h⟩
      ·refine EL_s rfl rfl iB rfl rfl ?_
       iterate 4 refine EL_s rfl rfl iB rfl rfl ?_
       refine EL_p (.bool true) (Zl (b:=(decide (i3.2.1 < (0:Int)))) rfl (pick_t iB rfl)) rfl ?_
       refine Zb ?_
       obtain rfl:=sinj h
       exact hQ _ _ ⟨qH,hfr,rfl,rfl,b6,rfl,k9,rfl,rfl,mB,rfl,rC,rfl,rfl⟩
      ·refine EL_y u3 (Zk rfl) rfl rfl iB rfl ?_
       refine EL_y (.int .i64 ((i3.1).length:Int)) (P_len Try.underlying30 rfl rC) rfl rfl iB rfl ?_
       refine EL_y x5 (Zk rfl) rfl rfl iB rfl ?_
       refine EL_y (.int .i64 ((y6).length:Int)) (P_len Try.underlying22 rfl mB) rfl rfl iB rfl ?_
       refine EL_y (.bool ((((i3.1).length:Int) != ((y6).length:Int)))) (P_int rfl rfl rfl) rfl rfl iB rfl ?_
       refine EL_p (.bool ((((i3.1).length:Int) != ((y6).length:Int)))) (Zl (b:=(decide (i3.2.1 < (0:Int)))) rfl (pick_f iB rfl)) rfl ?_
       refine Zb ?_
       obtain rfl:=sinj h
       exact hQ _ _ ⟨qH,hfr,rfl,rfl,b6,rfl,k9,rfl,rfl,mB,rfl,rC,rfl,rfl⟩
  ·clear hx
   obtain ⟨pU,hfr,kP,lP,mP,nP,oP,pP,tM,uM,vM,xM,yM,sH⟩:=hR
   rcases Zt h with ⟨uI,h⟩ | ⟨uI,h⟩
   ·refine E_cond_true (Eq.trans (show ev _ _ = .bool (eC) from sH) (congrArg Value.bool uI)) ?_
    refine Zf (Za (Zg (.bool false) rfl rfl ?_))
    refine Zb (Zd (E_ret (thn_r ?_)))
    obtain rfl:=sinj h
    exact end1 rfl rfl (show _=.bool false from rfl) ⟨_,hfr,rfl⟩
   ·refine E_cond_false (Eq.trans (show ev _ _ = .bool (eC) from sH) (congrArg Value.bool uI)) ?_
    exact Zu (Zd (yS () _ _ ⟨pU,hfr,kP,lP,mP,nP,oP,pP,tM,uM,vM,xM,yM⟩ h))
 ·rintro _ eY dZ ⟨rS, hfr, yG, iE, d9, zG, n9, aH, lD, k8, mD, l8, nD⟩ h
  refine Zf (Za (Ze .plain rfl (D_loadO (g:=rS) Try.isAgg25 Try.sizeOf25 iE d9 fun qU rU=>?_)))
  obtain ⟨nS,zS,h⟩:=bsome h
  refine Ze .plain rfl (Zp (g:=rS) (vs:=[qU]) en15 (.cons rfl .nil) (wk15 rU zS) fun sU gY tU hs hr=>?_)
  have hfr:=hfr.ext hs
  have d9:=d9.ext hs
  have n9:=n9.ext hs
  have k8:=k8.ext hs
  have l8:=l8.ext hs
  have zM:=hr
  refine Zo mD rfl ?_
  obtain ⟨oS,eT,h⟩:=bsome h
  refine Ze .plain rfl (Zp (g:=sU) (vs:=[u3]) en28 (.cons rfl .nil) (wk28 l8 eT) fun uU iY vU hs hr=>?_)
  have hfr:=hfr.ext hs
  have d9:=d9.ext hs
  have n9:=n9.ext hs
  have k8:=k8.ext hs
  have l8:=l8.ext hs
  have zM:=zM.ext hs
  have xU:=hr
  obtain ⟨i7,lT,h⟩:=bsome h
  refine Ze .plain rfl (Zp (g:=uU) (vs:=[tU,vU]) en40 (.cons rfl (.cons rfl .nil)) (wk40 zM xU lT) fun yU jY mZ hs hr=>?_)
  have hfr:=hfr.ext hs
  have d9:=d9.ext hs
  have n9:=n9.ext hs
  have k8:=k8.ext hs
  have l8:=l8.ext hs
  obtain ⟨m8,bH,tV,uV,vV,rfl,dB,cH,rfl,rfl,rfl⟩:=hr
  refine Zn (.tuple #[m8,bH,.int .i64 (i7.2.2.1),.int .i64 (i7.2.2.2.1),.int .i64 (i7.2.2.2.2)]) rfl rfl ?_
  refine EL_p m8 (Zi rfl rfl) rfl ?_
  refine EL_p bH (Zi rfl rfl) rfl ?_
  refine EL_p (.int .i64 (i7.2.2.1)) (Zi rfl rfl) rfl ?_
  refine EL_p (.int .i64 (i7.2.2.2.1)) (Zi rfl rfl) rfl ?_
  refine EL_p (.int .i64 (i7.2.2.2.2)) (Zi rfl rfl) rfl ?_
  refine Ze .plain rfl (D_allocOc (g:=yU) 2016 (⟨[],[],[]⟩:BoxLoom) Try.zeroValue25 (fun m w=>⟨_,(rep_two rep_nil (rep_two rep_nil rep_nil)),rfl⟩) fun aK bN cN hs b52 cb=>?_)
  have hfr:=hfr.stp hs
  have d9:=d9.stp hs rfl
  have n9:=n9.stp hs
  have k8:=k8.stp hs
  have l8:=l8.stp hs
  have dB:=dB.stp hs
  have cH:=cH.stp hs
  have xV:OSF 2016 61600 0 aK bN 3 25 ([]:List Int) cN:=cb.osf (by rfl)
  have yV:OSF 2016 61601 1 aK bN 3 25 ([]:List Int) cN:=cb.osf (by rfl)
  have zV:OSF 2016 61602 2 aK bN 87 25 ([]:List BoxShuttle) cN:=cb.osf (by rfl)
  clear cb
  refine Zg m8 rfl rfl ?_
  refine Ze .plain rfl (D_storeOc (g:=aK) (v:=bH) Try.sizeOf25 rfl b52 rfl cH fun dN nZ hs b53 cb=>?_)
  clear cb
  have hfr:=hfr.stp hs
  have d9:=d9.stp hs rfl
  have n9:=n9.stp hs
  have k8:=k8.stp hs
  have l8:=l8.stp hs
  have dB:=dB.stp hs
  refine Zg (.int .i64 (i7.2.2.1)) rfl rfl ?_
  refine Zg (.int .i64 (i7.2.2.2.1)) rfl rfl ?_
  refine Zg (.int .i64 (i7.2.2.2.2)) rfl rfl ?_
  refine Zb (Zd (Zq h (fun (s:Unit) e w=>∃ (g:Gh) ,Fr gI wI g w∧e 1=.int .u8 (UInt8.toNat (x1))∧e 5=p5∧OB 2005 g w 25 (y4:BoxLoom) p5∧e 6=t5∧RV g.m w (i6.1:List BoxPick) t5∧e 9=.int .i64 (i6.2.2.2)∧e 10=x5∧RV g.m w (y6:List Int) x5∧e 11=u3∧RV g.m w (i3.1:List BoxPick) u3∧e 12=.int .i64 (i3.2.1)∧e 15=m8∧RV g.m w (i7.1:List Int) m8) (fun X60 k60 mT h=>?_) ?_))
  ·obtain ⟨lB, hx, h⟩ := bsome h
   refine E_join (fun e w=>∃ (g:Gh) ,Fr gI wI g w∧e 1=.int .u8 (UInt8.toNat (x1))∧e 5=p5∧OB 2005 g w 25 (y4:BoxLoom) p5∧e 6=t5∧RV g.m w (i6.1:List BoxPick) t5∧e 9=.int .i64 (i6.2.2.2)∧e 10=x5∧RV g.m w (y6:List Int) x5∧e 11=u3∧RV g.m w (i3.1:List BoxPick) u3∧e 12=.int .i64 (i3.2.1)∧e 15=m8∧RV g.m w (i7.1:List Int) m8∧e 101=.bool (lB)) (fun Q' hQ=>?_) (fun kY oZ hR=>?_)
   ·replace h := hx
    clear hx
    refine Za (Zn (.int .i64 (i7.2.2.2.2)) rfl rfl ?_)
    refine EL_in (.bool ((i7.2.2.2.2 != (0:Int)))) rfl rfl rfl rfl ?_
    refine Zn (.bool ((i7.2.2.2.2 != (0:Int)))) rfl rfl ?_
    rcases Zt h with ⟨yB,h⟩ | ⟨yB,h⟩
    ·refine EL_s rfl rfl yB rfl rfl ?_
     refine EL_s rfl rfl yB rfl rfl ?_
     refine EL_s rfl rfl yB rfl rfl ?_
     refine EL_p (.bool true) (Zl (b:=(i7.2.2.2.2 != (0:Int))) rfl (pick_t yB rfl)) rfl ?_
     refine EL_dead 7 rfl ?_
     refine Zb ?_
     obtain rfl:=sinj h
     exact hQ _ _ ⟨dN,hfr,yG,iE,d9,zG,n9,aH,lD,k8,mD,l8,nD,rfl,dB,rfl⟩
    ·refine EL_y (.int .i64 (i7.2.2.1)) (Zk rfl) rfl rfl yB rfl ?_
     refine EL_y (.int .i64 (i3.2.1)) (Zk nD) rfl rfl yB rfl ?_
     refine EL_y (.bool ((i7.2.2.1 != i3.2.1))) (P_int rfl rfl rfl) rfl rfl yB rfl ?_
     refine EL_p (.bool ((i7.2.2.1 != i3.2.1))) (Zl (b:=(i7.2.2.2.2 != (0:Int))) rfl (pick_f yB rfl)) rfl ?_
     refine Zn (.bool ((i7.2.2.1 != i3.2.1))) rfl rfl ?_
     rcases Zt h with ⟨jB,h⟩ | ⟨jB,h⟩
     ·refine EL_s rfl rfl jB rfl rfl ?_
      iterate 4 refine EL_s rfl rfl jB rfl rfl ?_
      refine EL_p (.bool true) (Zl (b:=(i7.2.2.1 != i3.2.1)) rfl (pick_t jB rfl)) rfl ?_
      refine Zb ?_
      obtain rfl:=sinj h
      exact hQ _ _ ⟨dN,hfr,yG,iE,d9,zG,n9,aH,lD,k8,mD,l8,nD,rfl,dB,rfl⟩
     ·refine EL_y m8 (Zk rfl) rfl rfl jB rfl ?_
      refine EL_y (.int .i64 ((i7.1).length:Int)) (P_len Try.underlying22 rfl dB) rfl rfl jB rfl ?_
      refine EL_y x5 (Zk lD) rfl rfl jB rfl ?_
      refine EL_y (.int .i64 ((y6).length:Int)) (P_len Try.underlying22 rfl k8) rfl rfl jB rfl ?_
      refine EL_y (.bool ((((i7.1).length:Int) != ((y6).length:Int)))) (P_int rfl rfl rfl) rfl rfl jB rfl ?_
      refine EL_p (.bool ((((i7.1).length:Int) != ((y6).length:Int)))) (Zl (b:=(i7.2.2.1 != i3.2.1)) rfl (pick_f jB rfl)) rfl ?_
      refine Zb ?_
      obtain rfl:=sinj h
      exact hQ _ _ ⟨dN,hfr,yG,iE,d9,zG,n9,aH,lD,k8,mD,l8,nD,rfl,dB,rfl⟩
   ·clear hx
    obtain ⟨zU,hfr,sP,tP,uP,vP,xP,yP,eN,gN,iN,jN,kN,lN,mN,tF⟩:=hR
    rcases Zt h with ⟨vI,h⟩ | ⟨vI,h⟩
    ·refine E_cond_true (Eq.trans (show ev _ _ = .bool (lB) from tF) (congrArg Value.bool vI)) ?_
     refine Zf (Za (Zg (.bool false) rfl rfl ?_))
     refine Zb (Zd (E_ret (thn_r ?_)))
     obtain rfl:=sinj h
     exact end1 rfl rfl (show _=.bool false from rfl) ⟨_,hfr,rfl⟩
    ·refine E_cond_false (Eq.trans (show ev _ _ = .bool (lB) from tF) (congrArg Value.bool vI)) ?_
     exact Zu (Zd (mT () _ _ ⟨zU,hfr,sP,tP,uP,vP,xP,yP,eN,gN,iN,jN,kN,lN,mN⟩ h))
  ·rintro _ mY pZ ⟨aV, hfr, zP, bQ, cQ, dQ, eQ, gQ, nN, oN, pN, qN, rN, sN, tN⟩ h
   refine Zq h (fun (s:Unit) e w=>∃ (g:Gh) ,Fr gI wI g w∧e 1=.int .u8 (UInt8.toNat (x1))∧e 5=p5∧OB 2005 g w 25 (y4:BoxLoom) p5∧e 6=t5∧RV g.m w (i6.1:List BoxPick) t5∧e 9=.int .i64 (i6.2.2.2)∧e 10=x5∧RV g.m w (y6:List Int) x5∧e 11=u3∧RV g.m w (i3.1:List BoxPick) u3∧e 12=.int .i64 (i3.2.1)) (fun X129 oM iQ h=>?_) ?_
   ·refine Zf (Za (Zg (.int .i64 (0)) rfl rfl ?_))
    refine Zb (Zd (Zr ?_))
    refine E_lp h (fun (s:Int) e w=>∃ (g:Gh) ,Fr gI wI g w∧e 1=.int .u8 (UInt8.toNat (x1))∧e 5=p5∧OB 2005 g w 25 (y4:BoxLoom) p5∧e 6=t5∧RV g.m w (i6.1:List BoxPick) t5∧e 9=.int .i64 (i6.2.2.2)∧e 10=x5∧RV g.m w (y6:List Int) x5∧e 11=u3∧RV g.m w (i3.1:List BoxPick) u3∧e 12=.int .i64 (i3.2.1)∧e 15=m8∧RV g.m w (i7.1:List Int) m8∧e 20=.int .i64 (s)) ⟨aV,hfr,zP,bQ,cQ,dQ,eQ,gQ,nN,oN,pN,qN,rN,sN,tN,rfl⟩ (fun X130 pM jQ=>?_)
    rintro a7 aW nY ⟨uN,hfr,tH,uH,xH,yH,zH,aI,uF,vF,xF,yF,zF,aG,bG,cG⟩ h
    refine Zq h (fun (s:Unit) e w=>∃ (g:Gh) ,Fr gI wI g w∧e 1=.int .u8 (UInt8.toNat (x1))∧e 5=p5∧OB 2005 g w 25 (y4:BoxLoom) p5∧e 6=t5∧RV g.m w (i6.1:List BoxPick) t5∧e 9=.int .i64 (i6.2.2.2)∧e 10=x5∧RV g.m w (y6:List Int) x5∧e 11=u3∧RV g.m w (i3.1:List BoxPick) u3∧e 12=.int .i64 (i3.2.1)∧e 15=m8∧RV g.m w (i7.1:List Int) m8∧e 20=.int .i64 (a7)) (fun X133 rM kQ h=>?_) ?_
    ·refine Zf (Za (Zo cG rfl ?_))
     refine Zo aG rfl ?_
     refine EL_p (.int .i64 ((i7.1).length:Int)) (P_len Try.underlying22 rfl bG) rfl ?_
     refine EL_in (.bool ((decide (a7 < ((i7.1).length:Int))))) rfl rfl rfl rfl ?_
     refine Zb (Zd ?_)
     rcases Zt h with ⟨dH,h⟩ | ⟨dH,h⟩
     ·refine E_ct dH rfl ?_
      exact Zu (Zd (kQ () _ _ ⟨uN,hfr,tH,uH,xH,yH,zH,aI,uF,vF,xF,yF,zF,aG,bG,cG⟩ h))
     ·refine E_cf dH rfl ?_
      refine E_exit ?_
      refine thn_e ?_
      refine thn_e ?_
      refine blk_hit ?_
      exact Zd (iQ () _ _ ⟨uN,hfr,tH,uH,xH,yH,zH,aI,uF,vF,xF,yF,zF⟩ h)
    ·rintro _ bW oY ⟨nT, hfr, vN, xN, rE, yN, sE, zN, dG, nB, vK, uD, xK, eG, oB, vD⟩ h
     refine Zq h (fun (s:Unit) e w=>∃ (g:Gh) ,Fr gI wI g w∧e 1=.int .u8 (UInt8.toNat (x1))∧e 5=p5∧OB 2005 g w 25 (y4:BoxLoom) p5∧e 6=t5∧RV g.m w (i6.1:List BoxPick) t5∧e 9=.int .i64 (i6.2.2.2)∧e 10=x5∧RV g.m w (y6:List Int) x5∧e 11=u3∧RV g.m w (i3.1:List BoxPick) u3∧e 12=.int .i64 (i3.2.1)∧e 15=m8∧RV g.m w (i7.1:List Int) m8∧e 20=.int .i64 (a7)) (fun X162 qM lQ h=>?_) ?_
     ·refine Zr ?_
      refine Zf ?_
      obtain ⟨vG,bK,h⟩:=bsome h
      have oT:=PT_idx oB bK
      refine Zs (x:=.tmp 110) Try.isAgg3 Try.sizeOf3 oT fun pY pT mQ=>?_
      obtain rfl:=Zj.1 pT
      obtain ⟨xG,cK,h⟩:=bsome h
      have sT:=PT_idx nB cK
      refine Zs (x:=.tmp 114) Try.isAgg3 Try.sizeOf3 sT fun qY tT nQ=>?_
      obtain rfl:=Zj.1 tT
      refine E_drawL (g:=nT) (n:=9) [] [0,1,2,3,4,5,6,7,8] rfl mixed (by kernel_rfl) trivial ?_
      refine L_p m8 rfl rfl (Zk eG) ?_
      refine L_p (.int .i64 (a7)) rfl rfl (Zk vD) ?_
      refine L_p (ePtr m8 a7 1) rfl rfl (Zh (α:=Int) Try.underlying22 Try.sizeOf3 rfl oB rfl bK) ?_
      refine L_ld (c:=.int .i64 (vG)) rfl rfl .plain (fun _ _ h=>h.ch) mQ rfl ?_
      refine L_p x5 rfl rfl (Zk dG) ?_
      refine L_p (.int .i64 (a7)) rfl rfl (Zk vD) ?_
      refine L_p (ePtr x5 a7 1) rfl rfl (Zh (α:=Int) Try.underlying22 Try.sizeOf3 rfl nB rfl cK) ?_
      refine L_ld (c:=.int .i64 (xG)) rfl rfl .plain (fun _ _ h=>h.ch) nQ rfl ?_
      refine L_p (.bool ((vG != xG))) rfl rfl (P_int rfl rfl rfl) ?_
      refine L_nl fun uT uY hs=>?_
      have hfr:=hfr.ext hs
      have rE:=rE.ext hs
      have sE:=sE.ext hs
      have nB:=nB.ext hs
      have uD:=uD.ext hs
      have oB:=oB.ext hs
      clear hs
      refine Zb (Zd ?_)
      rcases Zt h with ⟨gH,h⟩ | ⟨gH,h⟩
      ·refine E_ct gH rfl ?_
       refine Zf (Za (Zg (.bool false) rfl rfl ?_))
       refine Zb (Zd (E_ret (blk_r ?_)))
       refine thn_r ?_
       refine thn_r ?_
       refine blk_r ?_
       refine thn_r ?_
       obtain rfl:=sinj h
       exact end1 rfl rfl (show _=.bool false from rfl) ⟨_,hfr,rfl⟩
      ·refine E_cf gH rfl ?_
       exact Zu (blk_n (Zd (lQ () _ _ ⟨uT,hfr,vN,xN,rE,yN,sE,zN,dG,nB,vK,uD,xK,eG,oB,vD⟩ h)))
     ·rintro _ cW vY ⟨vT, hfr, aO, bO, cO, dO, eO, gO, yK, zK, aL, bL, cL, dL, eL, gL⟩ h
      refine Za (Zo gL rfl ?_)
      refine EL_in (.int .i64 ((w64 (a7 + (1:Int))))) rfl rfl rfl rfl ?_
      refine Zg (.int .i64 ((w64 (a7 + (1:Int))))) rfl rfl ?_
      exact Zb (Zd (jQ ((w64 (a7 + (1:Int)))) _ _ ⟨vT,hfr,aO,bO,cO,dO,eO,gO,yK,zK,aL,bL,cL,dL,eL,rfl⟩ h))
   ·rintro _ dW xY ⟨xT, hfr, jO, kO, lO, mO, nO, oO, iL, jL, lL, mL, nL⟩ h
    refine Zq h (fun (s:Unit) e w=>∃ (g:Gh) ,Fr gI wI g w∧e 1=.int .u8 (UInt8.toNat (x1))∧e 5=p5∧OB 2005 g w 25 (y4:BoxLoom) p5∧e 10=x5∧RV g.m w (y6:List Int) x5∧e 12=.int .i64 (i3.2.1)) (fun X1795 sG bI h=>?_) ?_
    ·refine Zf (Za (Zg (.int .i64 (0)) rfl rfl ?_))
     refine Zb (Zd (Zr ?_))
     refine E_lp h (fun (s:Int) e w=>∃ (g:Gh) ,Fr gI wI g w∧e 1=.int .u8 (UInt8.toNat (x1))∧e 5=p5∧OB 2005 g w 25 (y4:BoxLoom) p5∧e 6=t5∧RV g.m w (i6.1:List BoxPick) t5∧e 9=.int .i64 (i6.2.2.2)∧e 10=x5∧RV g.m w (y6:List Int) x5∧e 11=u3∧RV g.m w (i3.1:List BoxPick) u3∧e 12=.int .i64 (i3.2.1)∧e 21=.int .i64 (s)) ⟨xT,hfr,jO,kO,lO,mO,nO,oO,iL,jL,lL,mL,nL,rfl⟩ (fun X1796 vJ pO=>?_)
     rintro o0 bV eW ⟨dK,hfr,gG,hG,iG,jG,kG,xD,tE,uE,eD,gD,iD,jD⟩ h
     refine Zq h (fun (s:Unit) e w=>∃ (g:Gh) ,Fr gI wI g w∧e 1=.int .u8 (UInt8.toNat (x1))∧e 5=p5∧OB 2005 g w 25 (y4:BoxLoom) p5∧e 6=t5∧RV g.m w (i6.1:List BoxPick) t5∧e 9=.int .i64 (i6.2.2.2)∧e 10=x5∧RV g.m w (y6:List Int) x5∧e 11=u3∧RV g.m w (i3.1:List BoxPick) u3∧e 12=.int .i64 (i3.2.1)∧e 21=.int .i64 (o0)) (fun X1802 zJ qO h=>?_) ?_
     ·obtain ⟨rA, hx, h⟩ := bsome h
      refine E_join (fun e w=>∃ (g:Gh) ,Fr gI wI g w∧e 1=.int .u8 (UInt8.toNat (x1))∧e 5=p5∧OB 2005 g w 25 (y4:BoxLoom) p5∧e 6=t5∧RV g.m w (i6.1:List BoxPick) t5∧e 9=.int .i64 (i6.2.2.2)∧e 10=x5∧RV g.m w (y6:List Int) x5∧e 11=u3∧RV g.m w (i3.1:List BoxPick) u3∧e 12=.int .i64 (i3.2.1)∧e 21=.int .i64 (o0)∧e 125=.bool (rA)) (fun Q' hQ=>?_) (fun cV gW hR=>?_)
      ·replace h := hx
       clear hx
       refine Za (Zo jD rfl ?_)
       refine Zo eD rfl ?_
       refine EL_p (.int .i64 ((i3.1).length:Int)) (P_len Try.underlying30 rfl gD) rfl ?_
       refine EL_in (.bool ((decide (o0 < ((i3.1).length:Int))))) rfl rfl rfl rfl ?_
       refine Zn (.bool ((decide (o0 < ((i3.1).length:Int))))) rfl rfl ?_
       rcases Zt h with ⟨y9,h⟩ | ⟨y9,h⟩
       ·refine EL_y (.int .i64 (i3.2.1)) (Zk iD) rfl rfl y9 rfl ?_
        refine EL_y (.int .i64 (i6.2.2.2)) (Zk xD) rfl rfl y9 rfl ?_
        refine EL_y (.bool ((i3.2.1 == i6.2.2.2))) (P_int rfl rfl rfl) rfl rfl y9 rfl ?_
        refine EL_p (.bool ((i3.2.1 == i6.2.2.2))) (Zl (b:=(decide (o0 < ((i3.1).length:Int)))) rfl (pick_t y9 rfl)) rfl ?_
        refine Zb ?_
        obtain rfl:=sinj h
        exact hQ _ _ ⟨dK,hfr,gG,hG,iG,jG,kG,xD,tE,uE,eD,gD,iD,jD,rfl⟩
       ·refine EL_s rfl rfl y9 rfl rfl ?_
        refine EL_s rfl rfl y9 rfl rfl ?_
        refine EL_s rfl rfl y9 rfl rfl ?_
        refine EL_p (.bool false) (Zl (b:=(decide (o0 < ((i3.1).length:Int)))) rfl (pick_f y9 rfl)) rfl ?_
        refine Zb ?_
        obtain rfl:=sinj h
        exact hQ _ _ ⟨dK,hfr,gG,hG,iG,jG,kG,xD,tE,uE,eD,gD,iD,jD,rfl⟩
      ·clear hx
       obtain ⟨eK,hfr,lG,mG,nG,oL,pL,qL,vE,xE,xI,yI,yE,zI,bE⟩:=hR
       rcases Zt h with ⟨zE,h⟩ | ⟨zE,h⟩
       ·refine E_cond_true (Eq.trans (show ev _ _ = .bool (rA) from bE) (congrArg Value.bool zE)) ?_
        exact Zu (Zd (qO () _ _ ⟨eK,hfr,lG,mG,nG,oL,pL,qL,vE,xE,xI,yI,yE,zI⟩ h))
       ·refine E_cond_false (Eq.trans (show ev _ _ = .bool (rA) from bE) (congrArg Value.bool zE)) ?_
        refine E_exit ?_
        refine thn_e ?_
        refine thn_e ?_
        refine blk_hit ?_
        exact Zd (bI () _ _ ⟨eK,hfr,lG,mG,nG,vE,xE,yE⟩ h)
     ·rintro _ dV iW ⟨oQ, hfr, uC, vC, i8, u9, j7, rL, zB, m7, l9, x6, aC, j6⟩ h
      refine Zq h (fun (s:Unit) e w=>∃ (g:Gh) ,Fr gI wI g w∧e 1=.int .u8 (UInt8.toNat (x1))∧e 5=p5∧OB 2005 g w 25 (y4:BoxLoom) p5∧e 6=t5∧RV g.m w (i6.1:List BoxPick) t5∧e 9=.int .i64 (i6.2.2.2)∧e 10=x5∧RV g.m w (y6:List Int) x5∧e 11=u3∧RV g.m w (i3.1:List BoxPick) u3∧e 12=.int .i64 (i3.2.1)∧e 21=.int .i64 (o0)) (fun X2603 xJ rO h=>?_) ?_
      ·refine Zr ?_
       refine Zf ?_
       obtain ⟨tG,cI,h⟩:=bsome h
       have pQ:=PT_idx x6 cI
       refine Zs (x:=.tmp 130) Try.isAgg83 Try.sizeOf83 pQ fun qQ rQ sO=>?_
       obtain ⟨uG,dI,h⟩:=bsome h
       have sQ:=PT_idx j7 dI
       refine Zs (x:=.tmp 134) Try.isAgg83 Try.sizeOf83 sQ fun tQ uQ tO=>?_
       refine E_drawL (g:=oQ) (n:=9) [] [0,1,2,3,4,5,6,7,8] rfl mixed (by kernel_rfl) trivial ?_
       refine L_p u3 rfl rfl (Zk l9) ?_
       refine L_p (.int .i64 (o0)) rfl rfl (Zk j6) ?_
       refine L_p (ePtr u3 o0 2) rfl rfl (Zh (α:=BoxPick) Try.underlying30 Try.sizeOf83 rfl x6 rfl cI) ?_
       refine L_ld (c:=qQ) rfl rfl .plain (fun _ _ h=>h.ch) sO rfl ?_
       refine L_p t5 rfl rfl (Zk u9) ?_
       refine L_p (.int .i64 (o0)) rfl rfl (Zk j6) ?_
       refine L_p (ePtr t5 o0 2) rfl rfl (Zh (α:=BoxPick) Try.underlying30 Try.sizeOf83 rfl j7 rfl dI) ?_
       refine L_ld (c:=tQ) rfl rfl .plain (fun _ _ h=>h.ch) tO rfl ?_
       refine L_p (.bool ((!(decide (tG=uG))))) rfl rfl (P_sne seq_83 rfl eg_83 rfl rfl rQ uQ) ?_
       refine L_nl fun jE jW hs=>?_
       have hfr:=hfr.ext hs
       have i8:=i8.ext hs
       have j7:=j7.ext hs
       have m7:=m7.ext hs
       have x6:=x6.ext hs
       clear hs
       refine Zb (Zd ?_)
       rcases Zt h with ⟨cF,h⟩ | ⟨cF,h⟩
       ·refine E_ct cF rfl ?_
        refine Zq h (fun (s:Unit) e w=>∃ (g:Gh) ,Fr gI wI g w∧e 1=.int .u8 (UInt8.toNat (x1))∧e 5=p5∧OB 2005 g w 25 (y4:BoxLoom) p5∧e 10=x5∧RV g.m w (y6:List Int) x5∧e 12=.int .i64 (i3.2.1)) (fun X3013 yJ uO h=>?_) ?_
        ·obtain ⟨qA, hx, h⟩ := bsome h
         refine E_join (fun e w=>∃ (g:Gh) ,Fr gI wI g w∧e 1=.int .u8 (UInt8.toNat (x1))∧e 5=p5∧OB 2005 g w 25 (y4:BoxLoom) p5∧e 10=x5∧RV g.m w (y6:List Int) x5∧e 12=.int .i64 (i3.2.1)∧e 173=.bool (qA)) (fun Q' hQ=>?_) (fun eV kW hR=>?_)
         ·replace h := hx
          clear hx
          obtain ⟨x8,oD,h⟩:=bsome h
          have kE:=PT_idx x6 oD
          have vQ:=Zm (part_BoxPick_0).1 kE
          refine Zs (x:=.tmp 140) Try.isAgg3 Try.sizeOf3 vQ fun lW xQ dF=>?_
          obtain rfl:=Zj.1 xQ
          obtain ⟨a9,sD,h⟩:=bsome h
          have lE:=PT_idx j7 sD
          have yQ:=Zm (part_BoxPick_0).1 lE
          refine Zs (x:=.tmp 145) Try.isAgg3 Try.sizeOf3 yQ fun mW zQ eF=>?_
          obtain rfl:=Zj.1 zQ
          rcases Zt h with ⟨l5,h⟩ | ⟨l5,h⟩
          ·refine E_drawL (g := jE) (n := 37) [] [0, 1, 2, 3, 4, 5, 6, 7, 8, 9, 10, 11, 12, 13, 14, 15, 16, 17, 18, 19, 20, 21, 22, 23, 24, 25, 26, 27, 28, 29, 30, 31, 32, 33, 34, 35, 36] rfl mixed (by kernel_rfl) trivial ?_
           refine L_p u3 rfl rfl (Zk l9) ?_
           refine L_p (.int .i64 (o0)) rfl rfl (Zk j6) ?_
           refine L_p (ePtr u3 o0 2) rfl rfl (Zh (α:=BoxPick) Try.underlying30 Try.sizeOf83 rfl x6 rfl oD) ?_
           refine L_p (fPtr (ePtr u3 o0 2) 0) rfl rfl (Zc at_83_0 rfl (PT.ptr kE)) ?_
           refine L_ld (c:=.int .i64 ((x8).Left)) rfl rfl .plain (fun _ _ h=>h.ch) dF rfl ?_
           refine L_p t5 rfl rfl (Zk u9) ?_
           refine L_p (.int .i64 (o0)) rfl rfl (Zk j6) ?_
           refine L_p (ePtr t5 o0 2) rfl rfl (Zh (α:=BoxPick) Try.underlying30 Try.sizeOf83 rfl j7 rfl sD) ?_
           refine L_p (fPtr (ePtr t5 o0 2) 0) rfl rfl (Zc at_83_0 rfl (PT.ptr lE)) ?_
           refine L_ld (c:=.int .i64 ((a9).Left)) rfl rfl .plain (fun _ _ h=>h.ch) eF rfl ?_
           refine L_p (.bool ((decide ((x8).Left > (a9).Left)))) rfl rfl (P_int rfl rfl rfl) ?_
           refine L_p (.bool ((decide ((x8).Left > (a9).Left)))) rfl rfl (Zk rfl) ?_
           iterate 12 refine L_s rfl rfl rfl l5 rfl ?_
           refine L_dead (fun _=>rfl) 11 rfl ?_
           refine L_s rfl rfl rfl l5 rfl ?_
           refine L_p (.bool true) rfl rfl (Zl (b:=(decide ((x8).Left > (a9).Left))) rfl (pick_t l5 rfl)) ?_
           refine L_nl fun aR nW hs=>?_
           have hfr:=hfr.ext hs
           have i8:=i8.ext hs
           have m7:=m7.ext hs
           clear hs
           refine Zb ?_
           obtain rfl:=sinj h
           exact hQ _ _ ⟨aR,hfr,uC,vC,i8,zB,m7,aC,rfl⟩
          ·obtain ⟨iA, iF, h⟩ := bsome h
           have iH:=PT_idx x6 iF
           have bR:=Zm (part_BoxPick_0).1 iH
           refine Zs (x:=.tmp 152) Try.isAgg3 Try.sizeOf3 bR fun oW cR iI=>?_
           obtain rfl:=Zj.1 cR
           obtain ⟨jA,nF,h⟩:=bsome h
           have jH:=PT_idx j7 nF
           have dR:=Zm (part_BoxPick_0).1 jH
           refine Zs (x:=.tmp 157) Try.isAgg3 Try.sizeOf3 dR fun pW eR jI=>?_
           obtain rfl:=Zj.1 eR
           rcases Zt h with ⟨g8,h⟩ | ⟨g8,h⟩
           ·obtain ⟨mC, kI, h⟩ := bsome h
            have lK:=PT_idx x6 kI
            have gR:=Zm (part_BoxPick_1).1 lK
            refine Zs (x:=.tmp 164) Try.isAgg3 Try.sizeOf3 gR fun qW iR vO=>?_
            obtain rfl:=Zj.1 iR
            obtain ⟨qC,lI,h⟩:=bsome h
            have mK:=PT_idx j7 lI
            have jR:=Zm (part_BoxPick_1).1 mK
            refine Zs (x:=.tmp 169) Try.isAgg3 Try.sizeOf3 jR fun sW lR xO=>?_
            obtain rfl:=Zj.1 lR
            refine E_drawL (g:=jE) (n:=37) [] [0,1,2,3,4,5,6,7,8,9,10,11,12,13,14,15,16,17,18,19,20,21,22,23,24,25,26,27,28,29,30,31,32,33,34,35,36] rfl mixed (by kernel_rfl) trivial ?_
            refine L_p u3 rfl rfl (Zk l9) ?_
            refine L_p (.int .i64 (o0)) rfl rfl (Zk j6) ?_
            refine L_p (ePtr u3 o0 2) rfl rfl (Zh (α:=BoxPick) Try.underlying30 Try.sizeOf83 rfl x6 rfl oD) ?_
            refine L_p (fPtr (ePtr u3 o0 2) 0) rfl rfl (Zc at_83_0 rfl (PT.ptr kE)) ?_
            refine L_ld (c:=.int .i64 ((x8).Left)) rfl rfl .plain (fun _ _ h=>h.ch) dF rfl ?_
            refine L_p t5 rfl rfl (Zk u9) ?_
            refine L_p (.int .i64 (o0)) rfl rfl (Zk j6) ?_
            refine L_p (ePtr t5 o0 2) rfl rfl (Zh (α:=BoxPick) Try.underlying30 Try.sizeOf83 rfl j7 rfl sD) ?_
            refine L_p (fPtr (ePtr t5 o0 2) 0) rfl rfl (Zc at_83_0 rfl (PT.ptr lE)) ?_
            refine L_ld (c:=.int .i64 ((a9).Left)) rfl rfl .plain (fun _ _ h=>h.ch) eF rfl ?_
            refine L_p (.bool ((decide ((x8).Left > (a9).Left)))) rfl rfl (P_int rfl rfl rfl) ?_
            refine L_p (.bool ((decide ((x8).Left > (a9).Left)))) rfl rfl (Zk rfl) ?_
            refine L_y u3 rfl rfl rfl rfl l5 (Zk l9) ?_
            refine L_y (.int .i64 (o0)) rfl rfl rfl rfl l5 (Zk j6) ?_
            refine L_y (ePtr u3 o0 2) rfl rfl rfl rfl l5 (Zh (α:=BoxPick) Try.underlying30 Try.sizeOf83 rfl x6 rfl iF) ?_
            refine L_y (fPtr (ePtr u3 o0 2) 0) rfl rfl rfl rfl l5 (Zc at_83_0 rfl (PT.ptr iH)) ?_
            refine L_ld (c:=.int .i64 ((iA).Left)) rfl rfl (.yes2 rfl rfl l5) (fun _ _ h=>h.ch) iI rfl ?_
            refine L_y t5 rfl rfl rfl rfl l5 (Zk u9) ?_
            refine L_y (.int .i64 (o0)) rfl rfl rfl rfl l5 (Zk j6) ?_
            refine L_y (ePtr t5 o0 2) rfl rfl rfl rfl l5 (Zh (α:=BoxPick) Try.underlying30 Try.sizeOf83 rfl j7 rfl nF) ?_
            refine L_y (fPtr (ePtr t5 o0 2) 0) rfl rfl rfl rfl l5 (Zc at_83_0 rfl (PT.ptr jH)) ?_
            refine L_ld (c:=.int .i64 ((jA).Left)) rfl rfl (.yes2 rfl rfl l5) (fun _ _ h=>h.ch) jI rfl ?_
            refine L_y (.bool (((iA).Left == (jA).Left))) rfl rfl rfl rfl l5 (P_int rfl rfl rfl) ?_
            refine L_y (.bool (((iA).Left == (jA).Left))) rfl rfl rfl rfl l5 (Zk rfl) ?_
            refine L_y u3 rfl rfl rfl rfl g8 (Zk l9) ?_
            refine L_y (.int .i64 (o0)) rfl rfl rfl rfl g8 (Zk j6) ?_
            refine L_y (ePtr u3 o0 2) rfl rfl rfl rfl g8 (Zh (α:=BoxPick) Try.underlying30 Try.sizeOf83 rfl x6 rfl kI) ?_
            refine L_y (fPtr (ePtr u3 o0 2) 1) rfl rfl rfl rfl g8 (Zc at_83_1 rfl (PT.ptr lK)) ?_
            refine L_ld (c:=.int .i64 ((mC).Right)) rfl rfl (.yes2 rfl rfl g8) (fun _ _ h=>h.ch) vO rfl ?_
            refine L_y t5 rfl rfl rfl rfl g8 (Zk u9) ?_
            refine L_y (.int .i64 (o0)) rfl rfl rfl rfl g8 (Zk j6) ?_
            refine L_y (ePtr t5 o0 2) rfl rfl rfl rfl g8 (Zh (α:=BoxPick) Try.underlying30 Try.sizeOf83 rfl j7 rfl lI) ?_
            refine L_y (fPtr (ePtr t5 o0 2) 1) rfl rfl rfl rfl g8 (Zc at_83_1 rfl (PT.ptr mK)) ?_
            refine L_ld (c:=.int .i64 ((qC).Right)) rfl rfl (.yes2 rfl rfl g8) (fun _ _ h=>h.ch) xO rfl ?_
            refine L_y (.bool ((decide ((mC).Right > (qC).Right)))) rfl rfl rfl rfl g8 (P_int rfl rfl rfl) ?_
            refine L_y (.bool ((decide ((mC).Right > (qC).Right)))) rfl rfl rfl rfl l5 (Zl (b:=((iA).Left == (jA).Left)) rfl (pick_t g8 rfl)) ?_
            refine L_p (.bool ((decide ((mC).Right > (qC).Right)))) rfl rfl (Zl (b:=(decide ((x8).Left > (a9).Left))) rfl (pick_f l5 rfl)) ?_
            refine L_nl fun mR tW hs=>?_
            have hfr:=hfr.ext hs
            have i8:=i8.ext hs
            have m7:=m7.ext hs
            clear hs
            refine Zb ?_
            obtain rfl:=sinj h
            exact hQ _ _ ⟨mR,hfr,uC,vC,i8,zB,m7,aC,rfl⟩
           ·refine E_drawL (g := jE) (n := 37) [] [0, 1, 2, 3, 4, 5, 6, 7, 8, 9, 10, 11, 12, 13, 14, 15, 16, 17, 18, 19, 20, 21, 22, 23, 24, 25, 26, 27, 28, 29, 30, 31, 32, 33, 34, 35, 36] rfl mixed (by kernel_rfl) trivial ?_
            refine L_p u3 rfl rfl (Zk l9) ?_
            refine L_p (.int .i64 (o0)) rfl rfl (Zk j6) ?_
            refine L_p (ePtr u3 o0 2) rfl rfl (Zh (α:=BoxPick) Try.underlying30 Try.sizeOf83 rfl x6 rfl oD) ?_
            refine L_p (fPtr (ePtr u3 o0 2) 0) rfl rfl (Zc at_83_0 rfl (PT.ptr kE)) ?_
            refine L_ld (c:=.int .i64 ((x8).Left)) rfl rfl .plain (fun _ _ h=>h.ch) dF rfl ?_
            refine L_p t5 rfl rfl (Zk u9) ?_
            refine L_p (.int .i64 (o0)) rfl rfl (Zk j6) ?_
            refine L_p (ePtr t5 o0 2) rfl rfl (Zh (α:=BoxPick) Try.underlying30 Try.sizeOf83 rfl j7 rfl sD) ?_
            refine L_p (fPtr (ePtr t5 o0 2) 0) rfl rfl (Zc at_83_0 rfl (PT.ptr lE)) ?_
            refine L_ld (c:=.int .i64 ((a9).Left)) rfl rfl .plain (fun _ _ h=>h.ch) eF rfl ?_
            refine L_p (.bool ((decide ((x8).Left > (a9).Left)))) rfl rfl (P_int rfl rfl rfl) ?_
            refine L_p (.bool ((decide ((x8).Left > (a9).Left)))) rfl rfl (Zk rfl) ?_
            refine L_y u3 rfl rfl rfl rfl l5 (Zk l9) ?_
            refine L_y (.int .i64 (o0)) rfl rfl rfl rfl l5 (Zk j6) ?_
            refine L_y (ePtr u3 o0 2) rfl rfl rfl rfl l5 (Zh (α:=BoxPick) Try.underlying30 Try.sizeOf83 rfl x6 rfl iF) ?_
            refine L_y (fPtr (ePtr u3 o0 2) 0) rfl rfl rfl rfl l5 (Zc at_83_0 rfl (PT.ptr iH)) ?_
            refine L_ld (c:=.int .i64 ((iA).Left)) rfl rfl (.yes2 rfl rfl l5) (fun _ _ h=>h.ch) iI rfl ?_
            refine L_y t5 rfl rfl rfl rfl l5 (Zk u9) ?_
            refine L_y (.int .i64 (o0)) rfl rfl rfl rfl l5 (Zk j6) ?_
            refine L_y (ePtr t5 o0 2) rfl rfl rfl rfl l5 (Zh (α:=BoxPick) Try.underlying30 Try.sizeOf83 rfl j7 rfl nF) ?_
            refine L_y (fPtr (ePtr t5 o0 2) 0) rfl rfl rfl rfl l5 (Zc at_83_0 rfl (PT.ptr jH)) ?_
            refine L_ld (c:=.int .i64 ((jA).Left)) rfl rfl (.yes2 rfl rfl l5) (fun _ _ h=>h.ch) jI rfl ?_
            refine L_y (.bool (((iA).Left == (jA).Left))) rfl rfl rfl rfl l5 (P_int rfl rfl rfl) ?_
            refine L_y (.bool (((iA).Left == (jA).Left))) rfl rfl rfl rfl l5 (Zk rfl) ?_
            iterate 11 refine L_s rfl rfl rfl g8 rfl ?_
            refine L_y (.bool false) rfl rfl rfl rfl l5 (Zl (b:=((iA).Left == (jA).Left)) rfl (pick_f g8 rfl)) ?_
            refine L_p (.bool false) rfl rfl (Zl (b:=(decide ((x8).Left > (a9).Left))) rfl (pick_f l5 rfl)) ?_
            refine L_nl fun nR uW hs=>?_
            have hfr:=hfr.ext hs
            have i8:=i8.ext hs
            have m7:=m7.ext hs
            clear hs
            refine Zb ?_
            obtain rfl:=sinj h
            exact hQ _ _ ⟨nR,hfr,uC,vC,i8,zB,m7,aC,rfl⟩
         ·clear hx
          obtain ⟨oR,hfr,tL,uL,vL,aJ,bJ,cJ,cE⟩:=hR
          rcases Zt h with ⟨oF,h⟩ | ⟨oF,h⟩
          ·refine E_cond_true (Eq.trans (show ev _ _ = .bool (qA) from cE) (congrArg Value.bool oF)) ?_
           refine Zf (Za (Zg (.bool false) rfl rfl ?_))
           refine Zb (Zd (E_ret (thn_r ?_)))
           refine blk_r ?_
           refine thn_r ?_
           refine thn_r ?_
           refine blk_r ?_
           refine thn_r ?_
           obtain rfl:=sinj h
           exact end1 rfl rfl (show _=.bool false from rfl) ⟨_,hfr,rfl⟩
          ·refine E_cond_false (Eq.trans (show ev _ _ = .bool (qA) from cE) (congrArg Value.bool oF)) ?_
           exact Zu (Zd (uO () _ _ ⟨oR,hfr,tL,uL,vL,aJ,bJ,cJ⟩ h))
        ·rintro _ gV vW ⟨pR, hfr, xL, yL, zL, dJ, eJ, gJ⟩ h
         refine E_exit ?_
         refine blk_miss rfl ?_
         refine thn_e ?_
         refine thn_e ?_
         refine blk_hit ?_
         exact Zd (bI () _ _ ⟨pR,hfr,xL,yL,zL,dJ,eJ,gJ⟩ h)
       ·refine E_cf cF rfl ?_
        exact Zu (blk_n (Zd (rO () _ _ ⟨jE,hfr,uC,vC,i8,u9,j7,rL,zB,m7,l9,x6,aC,j6⟩ h)))
      ·rintro _ iV xW ⟨qR, hfr, aM, bM, cM, dM, eM, iM, iJ, jJ, kJ, lJ, mJ, nJ⟩ h
       refine Za (Zo nJ rfl ?_)
       refine EL_in (.int .i64 ((w64 (o0 + (1:Int))))) rfl rfl rfl rfl ?_
       refine Zg (.int .i64 ((w64 (o0 + (1:Int))))) rfl rfl ?_
       exact Zb (Zd (pO ((w64 (o0 + (1:Int)))) _ _ ⟨qR,hfr,aM,bM,cM,dM,eM,iM,iJ,jJ,kJ,lJ,mJ,rfl⟩ h))
    ·rintro _ jV yW ⟨nK, hfr, yD, aD, yA, gA, n8, cC⟩ h
     refine Zq h (fun (s:Unit) e w=>∃ (g:Gh) ,Fr gI wI g w∧e 1=.int .u8 (UInt8.toNat (x1))∧e 5=p5∧OB 2005 g w 25 (y4:BoxLoom) p5∧e 10=x5∧RV g.m w (y6:List Int) x5∧e 12=.int .i64 (i3.2.1)) (fun X3441 rG mI h=>?_) ?_
     ·refine Zf (Za (Zo gA rfl ?_))
      refine EL_p (.int .i64 ((y6).length:Int)) (P_len Try.underlying22 rfl n8) rfl ?_
      refine EL_in (.bool ((decide (((y6).length:Int) > (0:Int))))) rfl rfl rfl rfl ?_
      refine Zb (Zd ?_)
      rcases Zt h with ⟨pF,h⟩ | ⟨pF,h⟩
      ·refine E_ct pF rfl ?_
       refine Zf (L_loadO0 (x:=.tmp 5) Try.isAgg25 Try.sizeOf25 yA fun oK rR yO=>?_)
       obtain ⟨iC,zO,h⟩:=bsome h
       obtain ⟨uJ,nI,h⟩:=bsome h
       have tR:=RV_cut n8 nI
       obtain ⟨lC,aP,h⟩:=bsome h
       obtain ⟨i5,bP,h⟩:=bsome h
       refine E_drawL (g:=nK) (n:=18) [(1,(fun v g w=>RV g.m w iC v)),(7,(fun v g w=>RV g.m w lC v)),(8,(fun v g w=>∃ y0 y1 y2 y3:Value,v=.tuple #[y0,y1,y2,y3]∧RV g.m w (i5.1:List BoxPick) y0∧y1=.int .i64 (i5.2.1)∧y2=.int .i64 (i5.2.2.1)∧y3=.int .i64 (i5.2.2.2)))] [0,1,2,3,4,5,6,7,8,9,10,11,12,13,14,15,16,17] rfl mixed (by kernel_rfl) (⟨fun _=>up_rv,fun _=>up_rv,fun _=>(up_ex fun _=>(up_ex fun _=>(up_ex fun _=>(up_ex fun _=>(up_and (up_eq _) (up_and up_rv (up_and (up_eq _) (up_and (up_eq _) (up_eq _))))))))),trivial⟩) ?_
       refine L_ld (c:=oK) rfl rfl .plain (fun _ _ h=>⟨h.ch,fun b hb _=>h.below.block b hb⟩) yO aD ?_
       refine L_do (φ:=fun v g w=>RV g.m w iC v) rfl rfl .plain (fun g w hd=>Zp (g:=g) (vs:=[oK]) en15 (.cons rfl .nil) (wk15 (rR.ext hd.1) zO) fun g' w' v hs hr=>⟨g',hs,hr⟩) (fun kH hv=>?_)
       obtain ⟨_,_,_,rq3444⟩:=hv
       refine L_p x5 rfl rfl (Zk gA) ?_
       refine L_p x5 rfl rfl (Zk gA) ?_
       refine L_p (.int .i64 ((y6).length:Int)) rfl rfl (P_len Try.underlying22 rfl n8) ?_
       refine L_p (.int .i64 ((w64 (((y6).length:Int) - (1:Int))))) rfl rfl (P_int rfl rfl rfl) ?_
       refine L_p ((cutV x5 (Int.toNat 0) (Int.toNat (w64 (((y6).length:Int) - (1:Int)))) 1)) rfl rfl (P_slice Try.underlying22 Try.sizeOf3 rfl n8 rfl rfl nI) ?_
       refine L_do (φ:=fun v g w=>RV g.m w lC v) rfl rfl .plain (fun g w hd=>Zp (g:=g) (vs:=[(cutV x5 (Int.toNat 0) (Int.toNat (w64 (((y6).length:Int) - (1:Int)))) 1)]) en16 (.cons rfl .nil) (wk16 (tR.ext hd.1) aP) fun g' w' v hs hr=>⟨g',hs,hr⟩) (fun lH hv=>?_)
       obtain ⟨_,_,_,rq3448⟩:=hv
       refine L_do (φ:=fun v g w=>∃ y0 y1 y2 y3:Value,v=.tuple #[y0,y1,y2,y3]∧RV g.m w (i5.1:List BoxPick) y0∧y1=.int .i64 (i5.2.1)∧y2=.int .i64 (i5.2.2.1)∧y3=.int .i64 (i5.2.2.2)) rfl rfl .plain (fun g w hd=>Zp (g:=g) (vs:=[kH,lH]) en17 (.cons rfl (.cons rfl .nil)) (wk17 (word (A:=fun g w=>RV g.m w iC kH) 1 rfl rfl (deps_of hd)) (word (A:=fun g w=>RV g.m w lC lH) 7 rfl rfl (deps_of hd)) bP) fun g' w' v hs hr=>⟨g',hs,hr⟩) (fun zW hv=>?_)
       obtain ⟨_,_,_,tB,_,_,_,rfl,yT,rfl,rfl,rfl⟩:=hv
       refine L_p (.tuple #[tB,.int .i64 (i5.2.1),.int .i64 (i5.2.2.1),.int .i64 (i5.2.2.2)]) rfl rfl (Zk rfl) ?_
       refine L_p tB rfl rfl (Zi rfl rfl) ?_
       refine L_p (.int .i64 (i5.2.1)) rfl rfl (Zi rfl rfl) ?_
       refine L_p (.int .i64 (i5.2.2.1)) rfl rfl (Zi rfl rfl) ?_
       refine L_p (.int .i64 (i5.2.2.2)) rfl rfl (Zi rfl rfl) ?_
       refine L_p tB rfl rfl (P_assign rfl) ?_
       refine L_p (.int .i64 (i5.2.1)) rfl rfl (P_assign rfl) ?_
       refine L_p (.int .i64 (i5.2.2.1)) rfl rfl (P_assign rfl) ?_
       refine L_p (.int .i64 (i5.2.2.2)) rfl rfl (P_assign rfl) ?_
       refine L_nil fun pK aX hall=>?_
       have hs:=hall.1
       have hfr:=hfr.ext hs
       have yA:=yA.ext hs
       have n8:=n8.ext hs
       have bX:=(word_all (A:=fun g w=>RV g.m w iC kH) 1 rfl hall)
       have cX:=(word_all (A:=fun g w=>RV g.m w lC lH) 7 rfl hall)
       have dX:=(tup4_0 (word_all (A:=fun g w=>∃ y0 y1 y2 y3:Value,Value.tuple #[tB,.int .i64 (i5.2.1),.int .i64 (i5.2.2.1),.int .i64 (i5.2.2.2)]=.tuple #[y0,y1,y2,y3]∧RV g.m w (i5.1:List BoxPick) y0∧y1=.int .i64 (i5.2.1)∧y2=.int .i64 (i5.2.2.1)∧y3=.int .i64 (i5.2.2.2)) 8 rfl hall))
       have eX:=(tup4_0 (word_all (A:=fun g w=>∃ y0 y1 y2 y3:Value,Value.tuple #[tB,.int .i64 (i5.2.1),.int .i64 (i5.2.2.1),.int .i64 (i5.2.2.2)]=.tuple #[y0,y1,y2,y3]∧RV g.m w (i5.1:List BoxPick) y0∧y1=.int .i64 (i5.2.1)∧y2=.int .i64 (i5.2.2.1)∧y3=.int .i64 (i5.2.2.2)) 8 rfl hall))
       clear hs hall
       refine Zb (Zd ?_)
       obtain ⟨pA,hx,h⟩:=bsome h
       refine E_join (fun e w=>∃ (g:Gh) ,Fr gI wI g w∧e 1=.int .u8 (UInt8.toNat (x1))∧e 5=p5∧OB 2005 g w 25 (y4:BoxLoom) p5∧e 10=x5∧RV g.m w (y6:List Int) x5∧e 12=.int .i64 (i3.2.1)∧e 197=.bool (pA)) (fun Q' hQ=>?_) (fun kV gX hR=>?_)
       ·replace h := hx
        clear hx
        refine Za (Zn (.int .i64 (i5.2.2.2)) rfl rfl ?_)
        refine EL_in (.bool ((i5.2.2.2 != (0:Int)))) rfl rfl rfl rfl ?_
        refine Zn (.bool ((i5.2.2.2 != (0:Int)))) rfl rfl ?_
        rcases Zt h with ⟨z9,h⟩ | ⟨z9,h⟩
        ·refine EL_s rfl rfl z9 rfl rfl ?_
         refine EL_s rfl rfl z9 rfl rfl ?_
         refine EL_s rfl rfl z9 rfl rfl ?_
         refine EL_p (.bool true) (Zl (b:=(i5.2.2.2 != (0:Int))) rfl (pick_t z9 rfl)) rfl ?_
         refine Zb ?_
         obtain rfl:=sinj h
         exact hQ _ _ ⟨pK,hfr,yD,aD,yA,gA,n8,cC,rfl⟩
        ·refine EL_y (.int .i64 (i5.2.1)) (Zk rfl) rfl rfl z9 rfl ?_
         refine EL_y (.int .i64 (i3.2.1)) (Zk cC) rfl rfl z9 rfl ?_
         refine EL_y (.bool ((decide (i5.2.1 > i3.2.1)))) (P_int rfl rfl rfl) rfl rfl z9 rfl ?_
         refine EL_p (.bool ((decide (i5.2.1 > i3.2.1)))) (Zl (b:=(i5.2.2.2 != (0:Int))) rfl (pick_f z9 rfl)) rfl ?_
         refine Zb ?_
         obtain rfl:=sinj h
         exact hQ _ _ ⟨pK,hfr,yD,aD,yA,gA,n8,cC,rfl⟩
       ·clear hx
        obtain ⟨uR,hfr,jM,kM,mM,oJ,pJ,qJ,dE⟩:=hR
        rcases Zt h with ⟨qF,h⟩ | ⟨qF,h⟩
        ·refine E_cond_true (Eq.trans (show ev _ _ = .bool (pA) from dE) (congrArg Value.bool qF)) ?_
         refine Zf (Za (Zg (.bool false) rfl rfl ?_))
         refine Zb (Zd (E_ret (thn_r ?_)))
         obtain rfl:=sinj h
         exact end1 rfl rfl (show _=.bool false from rfl) ⟨_,hfr,rfl⟩
        ·refine E_cond_false (Eq.trans (show ev _ _ = .bool (pA) from dE) (congrArg Value.bool qF)) ?_
         exact Zu (Zd (mI () _ _ ⟨uR,hfr,jM,kM,mM,oJ,pJ,qJ⟩ h))
      ·refine E_cf pF rfl ?_
       exact Zu (Zd (mI () _ _ ⟨nK,hfr,yD,aD,yA,gA,n8,cC⟩ h))
     ·rintro _ lV iX ⟨tD, hfr, nM, oG, zD, rJ, d7, sJ⟩ h
      refine Zq h (fun (s:Unit) e w=>∃ (g:Gh) ,Fr gI wI g w) (fun X3517 pG pI h=>?_) ?_
      ·refine Zf (Za (Zo nM rfl ?_))
       refine EL_p (.int .i64 (((x1).toNat:Int))) (P_u8int Try.underlying5 Try.underlying3 rfl) rfl ?_
       obtain ⟨q8,cP,h⟩:=bsome h
       refine EL_p (.int .i64 (q8)) (P_int rfl rfl (congrArg (Option.map (Value.int .i64)) cP)) rfl ?_
       refine Zg (.int .i64 (q8)) rfl rfl ?_
       refine Zb (Zd (Zf (Za (EL_p (fPtr p5 0) (Zc at_25_0 oG (OB.ptr zD)) rfl ?_))))
       refine Ze .plain rfl (D_loadF (g:=tD) part_BoxLoom_0.1 Try.isAgg22 Try.sizeOf22 rfl zD fun vR qK=>?_)
       refine Zn (.int .i64 (q8)) rfl rfl ?_
       obtain ⟨qG,qI,h⟩:=bsome h
       refine EL_p (ePtr vR q8 1) (Zh (α:=Int) Try.underlying22 Try.sizeOf3 rfl qK rfl qI) rfl ?_
       have xR:=PT_idx qK qI
       refine Ze .plain rfl (D_load (g:=tD) Try.isAgg3 Try.sizeOf3 rfl xR fun jX yR=>?_)
       obtain rfl:=Zj.1 yR
       refine EL_in (.bool ((decide (qG < (4:Int))))) rfl rfl rfl rfl ?_
       refine Zb (Zd ?_)
       rcases Zt h with ⟨rF,h⟩ | ⟨rF,h⟩
       ·refine E_ct rF rfl ?_
        refine Zf (Za (Ze .plain rfl (D_loadO (g:=tD) Try.isAgg25 Try.sizeOf25 oG zD fun zR aS=>?_)))
        obtain ⟨t8,dP,h⟩:=bsome h
        refine Ze .plain rfl (D_callG (g:=tD) (vs:=[zR]) en15 (.cons rfl .nil) (W15 (iO:=4208) aS dP) fun bS kX lX hs hm3526=>?_)
        have hfr:=hfr.ext hs
        have d7:=d7.ext hs
        obtain ⟨sk3526,ow3526,ok3526⟩:=hm3526
        refine Ze .plain rfl (D_allocOc (g:=bS) 2027 (⟨[],[],[]⟩:BoxLoom) Try.zeroValue25 (fun m w=>⟨_,(rep_two rep_nil (rep_two rep_nil rep_nil)),rfl⟩) fun mE mH nH hs b3528 cb=>?_)
        have hfr:=hfr.stp hs
        have d7:=d7.stp hs
        have ow3526:=ow3526.stp hs rfl
        have zT:OSF 2027 62700 0 mE mH 3 25 ([]:List Int) nH:=cb.osf (by rfl)
        have aU:OSF 2027 62701 1 mE mH 3 25 ([]:List Int) nH:=cb.osf (by rfl)
        have bU:OSF 2027 62702 2 mE mH 87 25 ([]:List BoxShuttle) nH:=cb.osf (by rfl)
        clear cb
        refine Ze .plain rfl (D_storeOW (g:=mE) Try.sizeOf25 rfl b3528 rfl ow3526 rfl fun gj3529 oH mX bk3529 hsa hsb hpp b3529=>?_)
        have hfr:=hfr.stp hsa
        have d7:=d7.stp hsa
        have hfr:=hfr.stp hsb
        have d7:=d7.stp hsb
        clear hsa hsb
        subst hpp
        refine Zb (Zd (Zf (Za (EL_p ((.pointer (some ⟨bk3529,(0 + 0),none⟩))) (P_fieldAddrH at_25_0 rfl) rfl ?_))))
        refine Ze .plain rfl (D_loadH (g:=oH) (Cxt.fld (Cxt.root ow_BoxLoom bk3529) fl_BoxLoom_0 (t8) (sk3526)) rfl rfl (ok3526.1) Try.isAgg22 rfl b3529 ?_)
        refine Zn (.int .i64 (q8)) rfl rfl ?_
        obtain ⟨kD,aB,h⟩:=bsome h
        obtain ⟨bb3534,cc3534,ss3534,hq3534,rI⟩:=(OV.slice b3529 (Cxt.fld (Cxt.root ow_BoxLoom bk3529) fl_BoxLoom_0 (t8) (sk3526)) rfl rfl (ok3526.1)).2 aB
        refine EL_p ((.pointer (some ⟨bb3534,((Int.toNat q8) * 1),none⟩))) (P_indexH Try.underlying22 Try.sizeOf3 (rfl.trans (hdr_at hq3534 _)) rfl (idx_nat aB)) rfl ?_
        refine Ze .plain rfl (D_loadV (g:=oH) (Cxt.idx (Cxt.fld (Cxt.root ow_BoxLoom bk3529) fl_BoxLoom_0 (t8) (sk3526)) ((t8).Boxes) (Int.toNat q8) bb3534 cc3534 ss3534 (idx_nat aB).2 rI) ((congrArg (fun q=>({ t8 with Boxes:=q }:BoxLoom)) (set_idx aB)).trans rfl) (((congrArg (fun q=>((Sl.at bb3534 cc3534 q),Prod.snd sk3526)) set_unit).trans (congrArg (fun q=>(q,Prod.snd sk3526)) (hq3534).symm)).trans rfl) Try.isAgg3 Try.sizeOf3 rfl b3529 fun nX cS=>?_)
        obtain rfl:=Zj.1 cS
        refine EL_in (.int .i64 ((w64 (kD + (1:Int))))) rfl rfl rfl rfl ?_
        refine EL_p ((.pointer (some ⟨bb3534,((Int.toNat q8) * 1),none⟩))) (P_indexH Try.underlying22 Try.sizeOf3 (rfl.trans (hdr_at hq3534 _)) rfl (idx_nat aB)) rfl ?_
        refine Ze .plain rfl (D_storeOV (g:=oH) (u':=((w64 (kD + (1:Int))):Int)) (Cxt.idx (Cxt.fld (Cxt.root ow_BoxLoom bk3529) fl_BoxLoom_0 (t8) (sk3526)) ((t8).Boxes) (Int.toNat q8) bb3534 cc3534 ss3534 (idx_nat aB).2 rI) ((congrArg (fun q=>({ t8 with Boxes:=q }:BoxLoom)) (set_idx aB)).trans rfl) (((congrArg (fun q=>((Sl.at bb3534 cc3534 q),Prod.snd sk3526)) set_unit).trans (congrArg (fun q=>(q,Prod.snd sk3526)) (hq3534).symm)).trans rfl) Try.sizeOf3 rfl b3529 rfl (Zj.2 rfl) fun pH sK hs b3538=>?_)
        have hfr:=hfr.stp hs
        have d7:=d7.stp hs
        replace b3538:OV ow_BoxLoom 2027 pH sK 25 (({ t8 with Boxes:=(List.set ((t8).Boxes) (Int.toNat q8) (w64 (kD + (1:Int)))) }:BoxLoom):BoxLoom) bk3529 sk3526:=b3538
        refine Zb (Zd (Zf (L_loadAL (x:=.tmp 27) Try.isAgg25 Try.sizeOf25 b3538 fun tK al3543 eP=>?_)))
        obtain ⟨tJ,gP,h⟩:=bsome h
        obtain ⟨v6,iP,h⟩:=bsome h
        refine E_drawC (g:=pH) (w:=sK) (n:=12) [0,1,4,5,6,7,8,9,10,11] [2027] [0,1,2,3,4,5,6,7,8,9,10,11] rfl mixed (by kernel_rfl) fun w_c3541 hs hlt=>?_
        have hfr:=hfr.ext hs
        have d7:=d7.ext hs
        have b3538:=b3538.ext hs
        clear hs
        refine CH_ldO (n:=2027) (c:=tK) rfl rfl .plain eP rfl rfl ?_
        have al3543:=AL.lt al3543 hlt rfl
        refine CH_pur (c:=x5) rfl rfl .plain (Zk rJ) ?_
        refine CH_do rfl rfl .plain (Zp (g:=pH) (vs:=[x5]) en16 (.cons rfl .nil) (wk16 d7 gP) fun dS mV eS hs hr=>?_)
        have hfr:=hfr.ext hs
        have hlt:=hlt.ext hs
        have b3538:=b3538.ext hs
        have al3543:=al3543.ext hs
        have gS:=hr
        refine ⟨hlt.toW,?_⟩
        refine CH_do rfl rfl .plain (D_callF (g:=dS) (vs:=[tK,eS]) (R:=fun v=>∃ y0 y1 y2 y3,v=.tuple #[y0,y1,y2,y3]∧y1=.int .i64 (v6.2.1)∧y2=.int .i64 (v6.2.2.1)∧y3=.int .i64 (v6.2.2.2)) en17 (.cons rfl (.cons rfl .nil)) (Fn.mono (wk17 (AL.lent al3543 b3538 ok3526 rfl) (gS.lent) iP) fun _ _ _ ⟨y0,y1,y2,y3,hv,_,h1,h2,h3⟩=>⟨y0,y1,y2,y3,hv,h1,h2,h3⟩) fun uK oX pX hs hv=>?_)
        obtain ⟨aE,_,_,_,rfl,rfl,rfl,rfl⟩:=hv
        have hfr:=hfr.ext hs
        have hlt:=hlt.ext hs
        refine ⟨hlt.toW,?_⟩
        refine CH_pur (c:=.tuple #[aE,.int .i64 (v6.2.1),.int .i64 (v6.2.2.1),.int .i64 (v6.2.2.2)]) rfl rfl .plain (Zk rfl) ?_
        refine CH_pur (c:=aE) rfl rfl .plain (Zi rfl rfl) ?_
        refine CH_pur (c:=.int .i64 (v6.2.1)) rfl rfl .plain (Zi rfl rfl) ?_
        refine CH_pur (c:=.int .i64 (v6.2.2.1)) rfl rfl .plain (Zi rfl rfl) ?_
        refine CH_pur (c:=.int .i64 (v6.2.2.2)) rfl rfl .plain (Zi rfl rfl) ?_
        refine CH_pur (c:=aE) rfl rfl .plain (P_assign rfl) ?_
        refine CH_pur (c:=.int .i64 (v6.2.1)) rfl rfl .plain (P_assign rfl) ?_
        refine CH_pur (c:=.int .i64 (v6.2.2.1)) rfl rfl .plain (P_assign rfl) ?_
        refine CH_nil ?_
        clear hlt
        refine Zg (.int .i64 (v6.2.2.2)) rfl rfl ?_
        refine Zb (Zd ?_)
        obtain ⟨mA,hx,h⟩:=bsome h
        refine E_join (fun e w=>∃ (g:Gh) ,Fr gI wI g w∧e 231=.bool (mA)) (fun Q' hQ=>?_) (fun nV qX hR=>?_)
        ·replace h := hx
         clear hx
         refine Za (Zn (.int .i64 (v6.2.2.2)) rfl rfl ?_)
         refine EL_in (.bool ((v6.2.2.2 != (0:Int)))) rfl rfl rfl rfl ?_
         refine Zn (.bool ((v6.2.2.2 != (0:Int)))) rfl rfl ?_
         rcases Zt h with ⟨bA,h⟩ | ⟨bA,h⟩
         ·refine EL_s rfl rfl bA rfl rfl ?_
          refine EL_s rfl rfl bA rfl rfl ?_
          refine EL_s rfl rfl bA rfl rfl ?_
          refine EL_p (.bool true) (Zl (b:=(v6.2.2.2 != (0:Int))) rfl (pick_t bA rfl)) rfl ?_
          refine Zb ?_
          obtain rfl:=sinj h
          exact hQ _ _ ⟨uK,hfr,rfl⟩
         ·refine EL_y (.int .i64 (v6.2.1)) (Zk rfl) rfl rfl bA rfl ?_
          refine EL_y (.int .i64 (i3.2.1)) (Zk sJ) rfl rfl bA rfl ?_
          refine EL_y (.bool ((decide (v6.2.1 > i3.2.1)))) (P_int rfl rfl rfl) rfl rfl bA rfl ?_
          refine EL_p (.bool ((decide (v6.2.1 > i3.2.1)))) (Zl (b:=(v6.2.2.2 != (0:Int))) rfl (pick_f bA rfl)) rfl ?_
          refine Zb ?_
          obtain rfl:=sinj h
          exact hQ _ _ ⟨uK,hfr,rfl⟩
        ·clear hx
         obtain ⟨iS,hfr,eE⟩:=hR
         rcases Zt h with ⟨sF,h⟩ | ⟨sF,h⟩
         ·refine E_cond_true (Eq.trans (show ev _ _ = .bool (mA) from eE) (congrArg Value.bool sF)) ?_
          refine Zf (Za (Zg (.bool false) rfl rfl ?_))
          refine Zb (Zd (E_ret (thn_r ?_)))
          obtain rfl:=sinj h
          exact end1 rfl rfl (show _=.bool false from rfl) ⟨_,hfr,rfl⟩
         ·refine E_cond_false (Eq.trans (show ev _ _ = .bool (mA) from eE) (congrArg Value.bool sF)) ?_
          exact Zu (Zd (pI () _ _ ⟨iS,hfr⟩ h))
       ·refine E_cf rF rfl ?_
        exact Zu (Zd (pI () _ _ ⟨tD,hfr⟩ h))
      ·rintro _ oV rX ⟨jS, hfr⟩ h
       refine Zf (Za ?_)
       obtain ⟨gE,jP,h⟩:=bsome h
       refine Ze .plain rfl (Zp (g:=jS) (vs:=[]) en14 .nil (wk14  jP) fun sX pV tX hs hr=>?_)
       have hfr:=hfr.ext hs
       subst hr
       refine Zg (.bool (gE)) rfl rfl ?_
       refine Zb (Zd (E_ret ?_))
       obtain rfl:=sinj h
       exact end1 rfl rfl (show _=.bool (gE) from rfl) ⟨_,hfr,rfl⟩
end Go.Proofs.Ytmpjooneiaiffaa
