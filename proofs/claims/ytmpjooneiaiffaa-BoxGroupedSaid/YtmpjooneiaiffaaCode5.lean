import Derived.Test.YtmpjooneiaiffaaCode4
set_option maxRecDepth 8000
set_option maxHeartbeats 4000000
namespace Go.Proofs.Ytmpjooneiaiffaa
open Go.RowKit
noncomputable def f9 (x0:Yb) (x1:Vector UInt8 3):Option (Bool):=
 (f38 x0).bind fun y5=>
 (f39 x0 y5 ((9:Int))).bind fun y11=>
 (f44 y5 (y11.2.1)).bind fun n8=>
 (f16 n8).bind fun y20=>
 Option.bind (α:=(List (List Int)) × (List Int)) (
  lp (σ:=(List (List Int)) × (List Int) × Int) (fun k93 (tF,lB,gH)=>
   jn (σ:=Unit) (fun _=>
    Option.bind (α:=(List (List Int)) × (List Int)) (
     (Uj gH (3:Int)).bind fun tU=>
     (idx (x1).toList tU).bind fun y135=>
     (Uj ((y135).toNat:Int) (3:Int)).bind fun jH=>
     (cut lB 0 (Wm ((lB).length:Int) (w64 ((1:Int) + jH)))).bind fun d09=>
     (f16 d09).bind fun y157=>
     (apnd 24 tF (([y157]:List (List Int)))).bind fun e09=>
     (cut lB (Wm ((lB).length:Int) (w64 ((1:Int) + jH))) ((lB).length:Int)).bind fun y161=>
     some (e09,y161)
     ) fun (nK,aM)=>
    k93 (nK,aM,(w64 (gH + (1:Int))))
    ) fun k99=>
   Option.bind (α:=Bool) (
    bif (decide (((lB).length : Int) > (0 : Int))) then
     some ((decide (((tF).length:Int) < (8:Int))))
    else
     some (false)
    ) fun oK=>
   bif oK then
    k99 ()
   else
    some (tF,lB)
   ) big (([]:List (List Int)),y20,(0:Int))
  ) fun (l5,t5)=>
 (cut n8 0 (w64 (((n8).length:Int) - ((t5).length:Int)))).bind fun y165=>
 (f15 y5).bind fun g09=>
 (f24 l5).bind fun y171=>
 (f25 g09 y171).bind fun i6=>
 (f15 y5).bind fun h09=>
 (f16 y165).bind fun i09=>
 (f17 h09 i09).bind fun y180=>
 jn (σ:=Unit) (fun _=>
  (f15 y5).bind fun j09=>
  (f16 (i6.1)).bind fun k09=>
  (f17 j09 k09).bind fun cF=>
  jn (σ:=Unit) (fun _=>
   jn (σ:=Unit) (fun _=>
    Option.bind (α:=(List (List Int))) (
     lp (σ:=(List (List Int)) × Int) (fun r03 (gG,nB)=>
      jn (σ:=Unit) (fun _=>
       Option.bind (α:=(List (List Int))) (
        (idx y165 nB).bind fun jN=>
        (apnd 24 gG (([([jN]:List Int)]:List (List Int)))).bind fun s03=>
        some (s03)
        ) fun lJ=>
       r03 (lJ,(w64 (nB + (1:Int))))
       ) fun t03=>
      Option.bind (α:=Bool) (
       bif (decide (nB < ((y165).length : Int))) then
        some ((decide (nB < (8:Int))))
       else
        some (false)
       ) fun bI=>
      bif bI then
       t03 ()
      else
       some (gG)
      ) big (([]:List (List Int)),(0:Int))
     ) fun n9=>
    (f15 y5).bind fun u03=>
    (f25 u03 n9).bind fun oB=>
    (f15 y5).bind fun bM=>
    (cut y165 0 ((n9).length:Int)).bind fun v03=>
    (f16 v03).bind fun cM=>
    (f17 bM cM).bind fun g8=>
    jn (σ:=Unit) (fun _=>
     jn (σ:=Unit) (fun _=>
      jn (σ:=Unit) (fun _=>
       (f14).bind fun jO=>
       some (jO)
       ) fun uU=>
      Option.bind (α:=Bool) (
       bif (decide (((l5).length : Int) > (1 : Int))) then
        (idx l5 (0:Int)).bind fun dM=>
        (idx l5 (1:Int)).bind fun eM=>
        some ((decide ((w64 (((dM).length:Int) + ((eM).length:Int))) ≤ (3:Int))))
       else
        some (false)
       ) fun dI=>
      bif dI then
       (idx l5 (0:Int)).bind fun x03=>
       (f16 x03).bind fun y03=>
       (idx l5 (1:Int)).bind fun z03=>
       (apnd 8 y03 z03).bind fun kO=>
       (cut l5 (2:Int) ((l5).length:Int)).bind fun a04=>
       (f24 a04).bind fun b04=>
       (apnd 24 (([kO]:List (List Int))) b04).bind fun vU=>
       (f15 y5).bind fun xU=>
       (f25 xU vU).bind fun mB=>
       Option.bind (α:=Bool) (
        bif (mB.2.2 != (0 : Int)) then
         some (true)
        else
         some ((decide (mB.2.1 > i6.2.1)))
        ) fun rE=>
       bif rE then
        some (false)
       else
        uU ()
      else
       uU ()
      ) fun c04=>
     lp (σ:=Int) (fun d04 vC=>
      jn (σ:=Unit) (fun _=>
       jn (σ:=Unit) (fun _=>
        d04 ((w64 (vC + (1:Int))))
        ) fun e04=>
       (idx (oB.1) vC).bind fun lO=>
       (idx y165 vC).bind fun mO=>
       bif (lO != mO) then
        some (false)
       else
        e04 ()
       ) fun g04=>
      bif (decide (vC < ((n9).length : Int))) then
       g04 ()
      else
       c04 ()
      ) big ((0:Int))
     ) fun h04=>
    Option.bind (α:=Bool) (
     bif (oB.2.2 != (0 : Int)) then
      some (true)
     else
      bif (g8.2.2.2 != (0 : Int)) then
       some (true)
      else
       bif (oB.2.1 != g8.2.1) then
        some (true)
       else
        some ((((oB.1).length:Int) != ((n9).length:Int)))
     ) fun iI=>
    bif iI then
     some (false)
    else
     h04 ()
    ) fun l09=>
   lp (σ:=Int × Int) (fun m09 (rN,cC)=>
    jn (σ:=Unit) (fun _=>
     jn (σ:=Int) (fun kM=>
      m09 (kM,(w64 (cC + (1:Int))))
      ) fun i04=>
     jn (σ:=Int × (Vector Int 10)) (fun (pM,qM)=>
      bif (!(decide (qM = (⟨List.toArray [0, 0, 0, 0, 0, 0, 0, 0, 0, 0], rfl⟩ : Vector Int 10)))) then
       some (false)
      else
       i04 (pM)
      ) fun j04=>
     lp (σ:=Int × (Vector Int 10) × Int) (fun k04 (zB,bE,zD)=>
      jn (σ:=Unit) (fun _=>
       jn (σ:=Int × (Vector Int 10)) (fun (rM,sM)=>
        k04 (rM,sM,(w64 (zD + (1:Int))))
        ) fun l04=>
       jn (σ:=Unit) (fun _=>
        (idx l5 cC).bind fun m04=>
        (idx m04 zD).bind fun lI=>
        (idx (bE).toList lI).bind fun iM=>
        (idx (bE).toList lI).bind fun e0C=>
        (idx (i6.1) zB).bind fun aL=>
        (idx ((Ku bE lI ((w64 (iM + (1:Int)))))).toList aL).bind fun nO=>
        (idx ((Ku bE lI ((w64 (iM + (1:Int)))))).toList aL).bind fun g0C=>
        l04 ((w64 (zB + (1:Int))),(Ku ((Ku bE lI ((w64 (iM + (1:Int)))))) aL ((w64 (nO - (1:Int))))))
        ) fun n04=>
       Option.bind (α:=Bool) (
        (idx (i6.1) zB).bind fun jM=>
        bif (decide (jM < (0 : Int))) then
         some (true)
        else
         (idx (i6.1) zB).bind fun oO=>
         some ((decide (oO > (9:Int))))
        ) fun jI=>
       bif jI then
        some (false)
       else
        n04 ()
       ) fun o04=>
      (idx l5 cC).bind fun pO=>
      bif (decide (zD < ((pO).length : Int))) then
       o04 ()
      else
       j04 (zB,bE)
      ) big (rN,(⟨List.toArray [0,0,0,0,0,0,0,0,0,0],rfl⟩:Vector Int 10),(0:Int))
     ) fun n09=>
    bif (decide (cC < ((l5).length : Int))) then
     n09 ()
    else
     l09 ()
    ) big ((0:Int),(0:Int))
   ) fun o09=>
  Option.bind (α:=Bool) (
   bif (cF.2.2.2 != (0 : Int)) then
    some (true)
   else
    some ((cF.2.1 != i6.2.1))
   ) fun mJ=>
  bif mJ then
   some (false)
  else
   o09 ()
  ) fun p09=>
 Option.bind (α:=Bool) (
  bif (i6.2.2 != (0 : Int)) then
   some (true)
  else
   bif (y180.2.2.2 != (0 : Int)) then
    some (true)
   else
    bif (decide (i6.2.1 > y180.2.1)) then
     some (true)
    else
     bif (decide (y180.2.1 > y11.2.2.2)) then
      some (true)
     else
      some ((((i6.1).length:Int) != ((y165).length:Int)))
  ) fun nJ=>
 bif nJ then
  some (false)
 else
  p09 ()
theorem wk9 {gI:Gh} {wI:World} {x0:Yb} {x1:Vector UInt8 3} {up0:Value} (rp0:RV gI.m wI x0 up0) {up1:Value} (rp1:RV gI.m wI x1 up1) {r:Bool} (h:f9 x0 x1=some r):Fn Try.prog 9 #[up0,up1] gI wI (fun _ _ v=>v=.bool (r)):=by
 unfold f9 at h;refine Tk Try.func9 rfl (Nat.le_of_ble_eq_true rfl) fun g0 hm hfr=>?_;have rp0:RV g0.m wI x0 up0:=hm ▸ rp0;have rp1:RV g0.m wI x1 up1:=hm ▸ rp1;show E _ 325 none _ _ _ _ _;refine Zf (Za (Ze .plain rfl (Wj (g:=g0) rfl rp0 fun g1 w1 p1 hs q1=>?_)));have hfr:=hfr.ext hs;have rp1:=rp1.ext hs;refine Ze .plain rfl (Wj (g:=g1) rfl rp1 fun g2 w2 p2 hs q2=>?_);have hfr:=hfr.ext hs;have q1:=q1.ext hs;refine Zg (.bool false) rfl rfl ?_;refine Zb (Zd (Zf (Za (Ze .plain rfl (Gx (g:=g2) Try.isAgg73 Try.sizeOf73 rfl q1 fun v3 r3=>?_)))));obtain ⟨y5,hy5,h⟩:=Gc h;refine Ze .plain rfl (Zp (g:=g2) (vs:=[v3]) en38 (.cons rfl .nil) (wk38 r3 hy5) fun g4 w4_ v4 hs hr=>?_);have hfr:=hfr.ext hs;have q1:=q1.ext hs;have q2:=q2.ext hs;have r4:=hr;refine Ze .plain rfl (Gq (g:=g4) 2005 (⟨[],[],[]⟩:BoxLoom) Try.zeroValue25 (fun m w=>⟨_,(Gi Tb (Gi Tb Tb)),rfl⟩) fun g6 w6 p6 hs b6 cb=>?_);have hfr:=hfr.stp hs;have q1:=q1.stp hs;have q2:=q2.stp hs;have r4:=r4.stp hs;have a0N:OSF 2005 60500 0 g6 w6 3 25 ([]:List Int) p6:=cb.osf (by rfl);have b0N:OSF 2005 60501 1 g6 w6 3 25 ([]:List Int) p6:=cb.osf (by rfl);have c0N:OSF 2005 60502 2 g6 w6 87 25 ([]:List Zv) p6:=cb.osf (by rfl);clear cb;refine Ze .plain rfl (Gl (g:=g6) (v:=v4) Try.sizeOf25 rfl b6 rfl r4 fun g7 w7 hs b7 cb=>?_);clear cb;have hfr:=hfr.stp hs;have q1:=q1.stp hs;have q2:=q2.stp hs;refine Zb (Zd (Zf (Za (Ze .plain rfl (Gx (g:=g7) Try.isAgg73 Try.sizeOf73 rfl q1 fun v8 r8=>?_)))));refine Ze .plain rfl (Tr (g:=g7) Try.isAgg25 Try.sizeOf25 rfl b7 fun v9 r9=>?_);obtain ⟨y11,g0G,h⟩:=Gc h;refine Ze .plain rfl (Zp (g:=g7) (vs:=[v8,v9,.int .i64 (9)]) en39 (.cons rfl (.cons rfl (.cons rfl .nil))) (wk39 r8 r9 g0G) fun g10 d0N v10 hs hr=>?_);have hfr:=hfr.ext hs;have q2:=q2.ext hs;have b7:=b7.ext hs;obtain ⟨yU,kN,zU,x0J,rfl,y0J,lN,aV,rfl⟩:=hr;refine Zn (.tuple #[yU,kN,zU,.int .i64 (y11.2.2.2)]) rfl rfl ?_;refine Zy yU (Zi rfl rfl) rfl ?_;refine Zy kN (Zi rfl rfl) rfl ?_;refine Zy zU (Zi rfl rfl) rfl ?_;refine Zy (.int .i64 (y11.2.2.2)) (Zi rfl rfl) rfl ?_;refine Ze .plain rfl (Gq (g:=g10) 2008 ((⟨List.toArray [(⟨List.toArray [0,0,0,0],rfl⟩:Vector Int 4),(⟨List.toArray [0,0,0,0],rfl⟩:Vector Int 4)],rfl⟩:Vector (Vector Int 4) 2):Vector (Vector Int 4) 2) Try.zeroValue76 (fun m w=>⟨_,(Gp (Zw (Gp (Zw Zx (Zw Zx (Zw Zx (Zw Zx Gk)))) rfl) (Zw (Gp (Zw Zx (Zw Zx (Zw Zx (Zw Zx Gk)))) rfl) Gk)) rfl),rfl⟩) fun g12 w12 p12 hs b12 cb=>?_);have hfr:=hfr.stp hs;have q2:=q2.stp hs;have b7:=b7.stp hs rfl;have lN:=lN.stp hs;have aV:=aV.stp hs;clear cb;refine Zg yU rfl rfl ?_;refine Zg kN rfl rfl ?_;refine Ze .plain rfl (Gl (g:=g12) (v:=zU) Try.sizeOf76 rfl b12 rfl aV fun g13 w13 hs b13 cb=>?_);clear cb;have hfr:=hfr.stp hs;have q2:=q2.stp hs;have b7:=b7.stp hs rfl;have lN:=lN.stp hs;refine Zg (.int .i64 (y11.2.2.2)) rfl rfl ?_;refine Zb (Zd (Zf (Za (Ze .plain rfl (Tr (g:=g13) Try.isAgg25 Try.sizeOf25 rfl b7 fun v14 r14=>?_)))));refine Zn kN rfl rfl ?_;obtain ⟨n8,h0G,h⟩:=Gc h;refine Ze .plain rfl (Zp (g:=g13) (vs:=[v14,kN]) en44 (.cons rfl (.cons rfl .nil)) (wk44 r14 lN h0G) fun g15 e0N l8 hs hr=>?_);have hfr:=hfr.ext hs;have q2:=q2.ext hs;have b7:=b7.ext hs;have aO:=hr;refine Zg l8 rfl rfl ?_;refine Zb (Zd (Zf (Za (Ze .plain rfl (Gm (g:=g15) 3057 (xs:=([]:List (List Int))) (vs:=[]) Try.underlying42 Try.sizeOf22 Try.zeroValue22 rfl rfl .nil RVs.nil rfl rfl fun g17 w17 v17 hs o17 zV hxt hfl=>?_)))));have hfr:=hfr.stp hs;have q2:=q2.stp hs;have b7:=b7.stp hs rfl;have aO:=aO.stp hs;refine Ze .plain rfl (Gm (g:=g17) 3058 (xs:=([]:List (List Int))) (vs:=[]) Try.underlying42 Try.sizeOf22 Try.zeroValue22 rfl rfl .nil RVs.nil rfl rfl fun g18 w18 aB hs o18 r18 hxt hfl=>?_);have hfr:=hfr.stp hs;have q2:=q2.stp hs;have b7:=b7.stp hs rfl;have aO:=aO.stp hs;have zV:=zV.stp hs;have o17:=o17.stp hs rfl;refine Zn l8 rfl rfl ?_;obtain ⟨y20,hy20,h⟩:=Gc h;refine Ze .plain rfl (Zp (g:=g18) (vs:=[l8]) en16 (.cons rfl .nil) (wk16 aO hy20) fun g19 g0N v19 hs hr=>?_);have hfr:=hfr.ext hs;have q2:=q2.ext hs;have b7:=b7.ext hs;have aO:=aO.ext hs
 have zV:=zV.ext hs;have o17:=o17.ext hs;have r18:=r18.ext hs;have o18:=o18.ext hs;have r19:=hr;refine Zg v17 rfl rfl ?_;refine Zg aB rfl rfl ?_;refine Zg v19 rfl rfl ?_;refine Zb (Zd ?_);obtain ⟨⟨l5,t5⟩,hx,h⟩:=Gc h;refine Tm (fun e w=>∃ (g:Gh) (xL bO:Value),Fr gI wI g w∧e 5=p6∧OB 2005 g w 25 (y5:BoxLoom) p6∧e 9=.int .i64 (y11.2.2.2)∧e 10=l8∧RV g.m w (n8:List Int) l8∧e 11=xL∧RV g.m w (l5:List (List Int)) xL∧OS 3057 g w 22 (l5:List (List Int)) xL∧e 12=aB∧RV g.m w (([]:List (List Int)):List (List Int)) aB∧OS 3058 g w 22 (([]:List (List Int)):List (List Int)) aB∧e 13=bO∧RV g.m w (t5:List Int) bO) (fun Q' hQ=>?_) (fun z0J h0N hR=>?_)
 ·replace h := hx
  clear hx;refine Zf (Za (Zg (.int .i64 (0)) rfl rfl ?_));refine Zb (Zd (Zr ?_));refine Jv h (fun (s:(List (List Int)) × (List Int) × Int) e w=>∃ (g:Gh) (xL bO:Value),Fr gI wI g w∧e 3=p2∧PT g.m w (x1:Vector UInt8 3) p2∧e 5=p6∧OB 2005 g w 25 (y5:BoxLoom) p6∧e 9=.int .i64 (y11.2.2.2)∧e 10=l8∧RV g.m w (n8:List Int) l8∧e 11=xL∧RV g.m w (s.1:List (List Int)) xL∧OS 3057 g w 22 (s.1:List (List Int)) xL∧e 12=aB∧RV g.m w (([]:List (List Int)):List (List Int)) aB∧OS 3058 g w 22 (([]:List (List Int)):List (List Int)) aB∧e 13=bO∧RV g.m w (s.2.1:List Int) bO∧e 14=.int .i64 (s.2.2)) ⟨g19,(v17),(v19),hfr,rfl,q2,rfl,b7,rfl,rfl,aO,rfl,zV,o17,rfl,r18,o18,rfl,r19,rfl⟩ (fun X93 k93 i0G=>?_);rintro ⟨tF,lB,gH⟩ i0N w94 ⟨g94,kH,rF,hfr,p04,q04,r04,s04,t04,aW,bW,vO,xO,cW,dW,eW,gW,yO,zO,iW⟩ h;refine Zq h (fun (s:Unit) e w=>∃ (g:Gh) ,Fr gI wI g w∧e 3=p2∧PT g.m w (x1:Vector UInt8 3) p2∧e 5=p6∧OB 2005 g w 25 (y5:BoxLoom) p6∧e 9=.int .i64 (y11.2.2.2)∧e 10=l8∧RV g.m w (n8:List Int) l8∧e 11=kH∧RV g.m w (tF:List (List Int)) kH∧OS 3057 g w 22 (tF:List (List Int)) kH∧e 12=aB∧RV g.m w (([]:List (List Int)):List (List Int)) aB∧OS 3058 g w 22 (([]:List (List Int)):List (List Int)) aB∧e 13=rF∧RV g.m w (lB:List Int) rF∧e 14=.int .i64 (gH)) (fun X99 k99 j0G h=>?_) ?_
  ·obtain ⟨oK, hx, h⟩ := Gc h
   refine Tm (fun e w=>∃ (g:Gh) ,Fr gI wI g w∧e 3=p2∧PT g.m w (x1:Vector UInt8 3) p2∧e 5=p6∧OB 2005 g w 25 (y5:BoxLoom) p6∧e 9=.int .i64 (y11.2.2.2)∧e 10=l8∧RV g.m w (n8:List Int) l8∧e 11=kH∧RV g.m w (tF:List (List Int)) kH∧OS 3057 g w 22 (tF:List (List Int)) kH∧e 12=aB∧RV g.m w (([]:List (List Int)):List (List Int)) aB∧OS 3058 g w 22 (([]:List (List Int)):List (List Int)) aB∧e 13=rF∧RV g.m w (lB:List Int) rF∧e 14=.int .i64 (gH)∧e 68=.bool (oK)) (fun Q' hQ=>?_) (fun a0K j0N hR=>?_)
   ·replace h := hx
    clear hx;refine Za (Zo yO rfl ?_);refine Zy (.int .i64 ((lB).length:Int)) (Qm Try.underlying22 rfl zO) rfl ?_;refine Gy (.bool ((decide (((lB).length:Int) > (0:Int))))) rfl rfl rfl rfl ?_;refine Zn (.bool ((decide (((lB).length:Int) > (0:Int))))) rfl rfl ?_;rcases Zt h with ⟨mI,h⟩ | ⟨mI,h⟩
    ·refine Zz kH (Zk vO) rfl rfl mI rfl ?_
     refine Zz (.int .i64 ((tF).length:Int)) (Qm Try.underlying42 rfl xO) rfl rfl mI rfl ?_;refine Zz (.bool ((decide (((tF).length:Int) < (8:Int))))) (Td rfl rfl rfl) rfl rfl mI rfl ?_;refine Zy (.bool ((decide (((tF).length:Int) < (8:Int))))) (Zl (b:=(decide (((lB).length:Int) > (0:Int)))) rfl (Qt mI rfl)) rfl ?_;refine Zb ?_;obtain rfl:=sinj h;exact hQ _ _ ⟨g94,hfr,p04,q04,r04,s04,t04,aW,bW,vO,xO,cW,dW,eW,gW,yO,zO,iW,rfl⟩
    ·refine Ga rfl rfl mI rfl rfl ?_
     refine Ga rfl rfl mI rfl rfl ?_;refine Ga rfl rfl mI rfl rfl ?_;refine Zy (.bool false) (Zl (b:=(decide (((lB).length:Int) > (0:Int)))) rfl (Qk mI rfl)) rfl ?_;refine Zb ?_;obtain rfl:=sinj h;exact hQ _ _ ⟨g94,hfr,p04,q04,r04,s04,t04,aW,bW,vO,xO,cW,dW,eW,gW,yO,zO,iW,rfl⟩
   ·clear hx
    obtain ⟨r09,hfr,s09,t09,jW,kW,lW,sS,tS,uS,vS,xS,yS,zS,eT,lT,mT,o05,nT⟩:=hR;rcases Zt h with ⟨bV,h⟩ | ⟨bV,h⟩
    ·refine Ts (Eq.trans (show ev _ _ = .bool (oK) from nT) (congrArg Value.bool bV)) ?_
     exact Zu (Zd (j0G () _ _ ⟨r09,hfr,s09,t09,jW,kW,lW,sS,tS,uS,vS,xS,yS,zS,eT,lT,mT,o05⟩ h))
    ·refine Tj (Eq.trans (show ev _ _ = .bool (oK) from nT) (congrArg Value.bool bV)) ?_
     refine Wb ?_;refine Tx ?_;refine Tx ?_;refine Qh ?_;obtain ⟨rfl,rfl⟩:=Hl h;exact hQ _ _ ⟨r09,(kH),(rF),hfr,jW,kW,lW,sS,tS,uS,vS,xS,yS,zS,eT,lT,mT⟩
  ·rintro _ b0K k0G ⟨nX, hfr, mW, uF, u09, lH, v09, p05, xF, q05, oH, pH, r05, yF, aG, sN, mE, oT⟩ h
   obtain ⟨⟨nK,aM⟩,hx,h⟩:=Gc h;refine Tm (fun e w=>∃ (g:Gh) (xL bO:Value),Fr gI wI g w∧e 3=p2∧PT g.m w (x1:Vector UInt8 3) p2∧e 5=p6∧OB 2005 g w 25 (y5:BoxLoom) p6∧e 9=.int .i64 (y11.2.2.2)∧e 10=l8∧RV g.m w (n8:List Int) l8∧e 11=xL∧RV g.m w (nK:List (List Int)) xL∧OS 3057 g w 22 (nK:List (List Int)) xL∧e 12=aB∧RV g.m w (([]:List (List Int)):List (List Int)) aB∧OS 3058 g w 22 (([]:List (List Int)):List (List Int)) aB∧e 13=bO∧RV g.m w (aM:List Int) bO∧e 14=.int .i64 (gH)) (fun Q' hQ=>?_) (fun c0K k0N hR=>?_)
   ·replace h := hx
    clear hx;refine Zr ?_;refine Zf (Za (Zo sN rfl ?_));refine Zy (.int .i64 ((lB).length:Int)) (Qm Try.underlying22 rfl mE) rfl ?_;refine Zo oT rfl ?_;obtain ⟨tU,h0C,h⟩:=Gc h;refine Zy (.int .i64 (tU)) (Td rfl rfl (congrArg (Option.map (Value.int .i64)) h0C)) rfl ?_;obtain ⟨y135,u04,h⟩:=Gc h;refine Zy (Gn p2 ((tU:Int).toNat * 1)) (To (α:=UInt8) Try.underlying94 Try.sizeOf5 mW (PT.ptr uF) rfl u04) rfl ?_;have l0G:=Bw uF u04;refine Ze .plain rfl (Gx (g:=nX) Try.isAgg5 Try.sizeOf5 rfl l0G fun l0N m0G=>?_);obtain rfl:=Xs.1 m0G;refine Zy (.int .i64 (((y135).toNat:Int))) (Yg Try.underlying5 Try.underlying3 rfl) rfl ?_;obtain ⟨jH,i0C,h⟩:=Gc h;refine Zy (.int .i64 (jH)) (Td rfl rfl (congrArg (Option.map (Value.int .i64)) i0C)) rfl ?_;refine Gy (.int .i64 ((w64 ((1:Int) + jH)))) rfl rfl rfl rfl ?_;refine Zy (.int .i64 (Wm ((lB).length:Int) (w64 ((1:Int) + jH)))) (Nv rfl rfl) rfl ?_;refine Zg (.int .i64 (Wm ((lB).length:Int) (w64 ((1:Int) + jH)))) rfl rfl ?_;refine Zb (Zd ?_);obtain ⟨d09,v04,h⟩:=Gc h;have oX:=Ry mE v04;obtain ⟨y157,j0C,h⟩:=Gc h;obtain ⟨e09,k0C,h⟩:=Gc h;obtain ⟨y161,x04,h⟩:=Gc h;have pX:=Ry mE x04;refine Yu (g:=nX) (w:=k0G) (n:=11) [0,1,2,3,7,8,9,10] [] [0,1,2,3,4,5,6,7,8,9,10] rfl mixed (by kernel_rfl) fun w_c153 hs hlt=>?_;have hfr:=hfr.ext hs;have uF:=uF.ext hs;have lH:=lH.ext hs;have xF:=xF.ext hs;have oH:=oH.ext hs;have pH:=pH.ext hs;have yF:=yF.ext hs;have aG:=aG.ext hs;have mE:=mE.ext hs;clear hs;refine Ql (c:=kH) rfl rfl .plain (Zk q05) ?_;refine Ql (c:=rF) rfl rfl .plain (Zk sN) ?_;refine Ql (c:=.int .i64 (Wm ((lB).length:Int) (w64 ((1:Int) + jH)))) rfl rfl .plain (Zk rfl) ?_;refine Ql (c:=(Wd rF (Int.toNat 0) (Int.toNat (Wm ((lB).length:Int) (w64 ((1:Int) + jH)))) 1)) rfl rfl .plain (Bc Try.underlying22 Try.sizeOf3 rfl mE rfl rfl v04) ?_;have oX:=oX.ch hlt.1;refine Xv rfl rfl .plain (Zp (g:=nX) (vs:=[(Wd rF (Int.toNat 0) (Int.toNat (Wm ((lB).length:Int) (w64 ((1:Int) + jH)))) 1)]) en16 (.cons rfl .nil) (wk16 oX j0C) fun n0G d0K o0G hs hr=>?_);have hfr:=hfr.ext hs;have hlt:=hlt.ext hs;have uF:=uF.ext hs;have lH:=lH.ext hs;have xF:=xF.ext hs;have oH:=oH.ext hs;have pH:=pH.ext hs;have yF:=yF.ext hs;have aG:=aG.ext hs;have mE:=mE.ext hs;have p0G:=hr;refine ⟨hlt.toW,?_⟩;refine Xv rfl rfl .plain (Gm (g:=n0G) 3086 (xs:=([y157]:List (List Int))) (vs:=[o0G]) Try.underlying42 Try.sizeOf22 Try.zeroValue22 rfl rfl (.cons rfl .nil) (RVs.cons p0G RVs.nil) rfl rfl fun q0G m0N n0N hs o158 r0G hxt hfl=>?_);have hfr:=hfr.stp hs;have hlt:=hlt.stp hs;have uF:=uF.stp hs;have lH:=lH.stp hs rfl;have xF:=xF.stp hs;have oH:=oH.stp hs;have pH:=pH.stp hs rfl;have yF:=yF.stp hs;have aG:=aG.stp hs rfl;have mE:=mE.stp hs;refine ⟨hlt.toW,?_⟩;refine Xv rfl rfl .plain (Ke (g:=q0G) (i:=3057) Try.underlying42 Dz rfl rfl pH oH rfl r0G k0C fun s0G o0N x09 hs o159 t0G _=>?_);have hfr:=hfr.stp hs;have hlt:=hlt.stp hs;have uF:=uF.stp hs;have lH:=lH.stp hs rfl;have xF:=xF.stp hs;have yF:=yF.stp hs;have aG:=aG.stp hs rfl;have mE:=mE.stp hs;refine ⟨hlt.toW,?_⟩;refine Ql (c:=rF) rfl rfl .plain (Zk sN) ?_;refine Ql (c:=.int .i64 (Wm ((lB).length:Int) (w64 ((1:Int) + jH)))) rfl rfl .plain (Zk rfl) ?_;refine Ql (c:=(Wd rF (Int.toNat (Wm ((lB).length:Int) (w64 ((1:Int) + jH)))) (Int.toNat ((lB).length:Int)) 1)) rfl rfl .plain (Bc Try.underlying22 Try.sizeOf3 rfl mE rfl rfl x04) ?_;have pX:=pX.ch hlt.1;refine Ql (c:=x09) rfl rfl .plain (Tf rfl) ?_;refine Vi ?_;clear hlt;refine Zy ((Wd rF (Int.toNat (Wm ((lB).length:Int) (w64 ((1:Int) + jH)))) (Int.toNat ((lB).length:Int)) 1)) (Tf rfl) rfl ?_;refine Zb (We ?_);obtain ⟨rfl,rfl⟩:=Hl h;exact hQ _ _ ⟨s0G,(x09),((Wd rF (Int.toNat (Wm ((lB).length:Int) (w64 ((1:Int) + jH)))) (Int.toNat ((lB).length:Int)) 1)),hfr,mW,uF,u09,lH,v09,p05,xF,rfl,t0G,o159,r05,yF,aG,rfl,pX,oT⟩
   ·clear hx
    obtain ⟨u0G,s05,t05,hfr,y09,z09,a0A,b0A,c0A,u05,v05,x05,y05,z05,a06,b06,c06,d06,e06,g06⟩:=hR;refine Za (Zo g06 rfl ?_);refine Gy (.int .i64 ((w64 (gH + (1:Int))))) rfl rfl rfl rfl ?_;refine Zg (.int .i64 ((w64 (gH + (1:Int))))) rfl rfl ?_;exact Zb (Zd (i0G (nK,aM,(w64 (gH + (1:Int)))) _ _ ⟨u0G,(s05),(t05),hfr,y09,z09,a0A,b0A,c0A,u05,v05,x05,y05,z05,a06,b06,c06,d06,e06,rfl⟩ h))
 ·clear hx
  obtain ⟨d0A,o0,z0H,hfr,oJ,nD,e0A,pT,tN,sI,uC,bD,pK,cD,lD,h06,i06⟩:=hR;refine Zf (Za (Zo pT rfl ?_));refine Zo pT rfl ?_;refine Zy (.int .i64 ((n8).length:Int)) (Qm Try.underlying22 rfl tN) rfl ?_;refine Zo h06 rfl ?_;refine Zy (.int .i64 ((t5).length:Int)) (Qm Try.underlying22 rfl i06) rfl ?_;refine Gy (.int .i64 ((w64 (((n8).length:Int) - ((t5).length:Int))))) rfl rfl rfl rfl ?_;obtain ⟨y165,y04,h⟩:=Gc h;have dF:=Ry tN y04;refine Zy ((Wd l8 (Int.toNat 0) (Int.toNat (w64 (((n8).length:Int) - ((t5).length:Int)))) 1)) (Bc Try.underlying22 Try.sizeOf3 rfl tN rfl rfl y04) rfl ?_;refine Zy ((Wd l8 (Int.toNat 0) (Int.toNat (w64 (((n8).length:Int) - ((t5).length:Int)))) 1)) (Tf rfl) rfl ?_;refine Zb (Zd (Zf (Za (Ze .plain rfl (Tr (g:=d0A) Try.isAgg25 Try.sizeOf25 oJ nD fun v0G x0G=>?_)))));obtain ⟨g09,l0C,h⟩:=Gc h;refine Ze .plain rfl (Zp (g:=d0A) (vs:=[v0G]) en15 (.cons rfl .nil) (wk15 x0G l0C) fun y0G e0K z0G hs hr=>?_);have hfr:=hfr.ext hs;have nD:=nD.ext hs;have dF:=dF.ext hs;have uC:=uC.ext hs;have bD:=bD.ext hs;have cD:=cD.ext hs;have lD:=lD.ext hs;have qX:=hr;refine Zo sI rfl ?_;obtain ⟨y171,m0C,h⟩:=Gc h;refine Ze .plain rfl (Zp (g:=y0G) (vs:=[o0]) en24 (.cons rfl .nil) (wk24 uC m0C) fun a0H g0K b0H hs hr=>?_);have hfr:=hfr.ext hs;have nD:=nD.ext hs;have dF:=dF.ext hs;have uC:=uC.ext hs;have bD:=bD.ext hs;have cD:=cD.ext hs;have lD:=lD.ext hs;have qX:=qX.ext hs;have c0H:=hr;obtain ⟨i6,n0C,h⟩:=Gc h;refine Ze .plain rfl (Zp (g:=a0H) (vs:=[z0G,b0H]) en25 (.cons rfl (.cons rfl .nil)) (wk25 qX c0H n0C) fun g0A h0K p0N hs hr=>?_);have hfr:=hfr.ext hs;have nD:=nD.ext hs;have dF:=dF.ext hs;have uC:=uC.ext hs;have bD:=bD.ext hs;have cD:=cD.ext hs;have lD:=lD.ext hs;obtain ⟨l9,m0I,n0I,rfl,sF,rfl,rfl⟩:=hr;refine Zn (.tuple #[l9,.int .i64 (i6.2.1),.int .i64 (i6.2.2)]) rfl rfl ?_;refine Zy l9 (Zi rfl rfl) rfl ?_;refine Zy (.int .i64 (i6.2.1)) (Zi rfl rfl) rfl ?_;refine Zy (.int .i64 (i6.2.2)) (Zi rfl rfl) rfl ?_;refine Zg l9 rfl rfl ?_;refine Zg (.int .i64 (i6.2.1)) rfl rfl ?_;refine Zg (.int .i64 (i6.2.2)) rfl rfl ?_;refine Zb (Zd (Zf (Za (Ze .plain rfl (Tr (g:=g0A) Try.isAgg25 Try.sizeOf25 oJ nD fun d0H e0H=>?_)))));obtain ⟨h09,o0C,h⟩:=Gc h;refine Ze .plain rfl (Zp (g:=g0A) (vs:=[d0H]) en15 (.cons rfl .nil) (wk15 e0H o0C) fun g0H i0K h0H hs hr=>?_);have hfr:=hfr.ext hs;have nD:=nD.ext hs;have dF:=dF.ext hs;have uC:=uC.ext hs;have bD:=bD.ext hs;have cD:=cD.ext hs;have lD:=lD.ext hs;have sF:=sF.ext hs;have rX:=hr;refine Zy ((Wd l8 (Int.toNat 0) (Int.toNat (w64 (((n8).length:Int) - ((t5).length:Int)))) 1)) (Zk rfl) rfl ?_;obtain ⟨i09,p0C,h⟩:=Gc h;refine Ze .plain rfl (Zp (g:=g0H) (vs:=[(Wd l8 (Int.toNat 0) (Int.toNat (w64 (((n8).length:Int) - ((t5).length:Int)))) 1)]) en16 (.cons rfl .nil) (wk16 dF p0C) fun i0H j0K j0H hs hr=>?_);have hfr:=hfr.ext hs;have nD:=nD.ext hs;have dF:=dF.ext hs;have uC:=uC.ext hs;have bD:=bD.ext hs;have cD:=cD.ext hs;have lD:=lD.ext hs;have sF:=sF.ext hs;have rX:=rX.ext hs;have k0H:=hr;obtain ⟨y180,q0C,h⟩:=Gc h;refine Ze .plain rfl (Zp (g:=i0H) (vs:=[h0H,j0H]) en17 (.cons rfl (.cons rfl .nil)) (wk17 rX k0H q0C) fun aP k0K q0N hs hr=>?_);have hfr:=hfr.ext hs;have nD:=nD.ext hs;have dF:=dF.ext hs;have uC:=uC.ext hs;have bD:=bD.ext hs;have cD:=cD.ext hs;have lD:=lD.ext hs;have sF:=sF.ext hs;obtain ⟨bP,o0I,p0I,q0I,rfl,r0I,rfl,rfl,rfl⟩:=hr;refine Zn (.tuple #[bP,.int .i64 (y180.2.1),.int .i64 (y180.2.2.1),.int .i64 (y180.2.2.2)]) rfl rfl ?_;refine Zy bP (Zi rfl rfl) rfl ?_;refine Zy (.int .i64 (y180.2.1)) (Zi rfl rfl) rfl ?_;refine Zy (.int .i64 (y180.2.2.1)) (Zi rfl rfl) rfl ?_;refine Zy (.int .i64 (y180.2.2.2)) (Zi rfl rfl) rfl ?_;refine Zg bP rfl rfl ?_;refine Zg (.int .i64 (y180.2.1)) rfl rfl ?_;refine Zg (.int .i64 (y180.2.2.1)) rfl rfl ?_;refine Zg (.int .i64 (y180.2.2.2)) rfl rfl ?_;refine Zb (Zd (Zq h (fun (s:Unit) e w=>∃ (g:Gh) ,Fr gI wI g w∧e 5=p6∧OB 2005 g w 25 (y5:BoxLoom) p6∧e 10=(Wd l8 (Int.toNat 0) (Int.toNat (w64 (((n8).length:Int) - ((t5).length:Int)))) 1)∧RV g.m w (y165:List Int) (Wd l8 (Int.toNat 0) (Int.toNat (w64 (((n8).length:Int) - ((t5).length:Int)))) 1)∧e 11=o0∧RV g.m w (l5:List (List Int)) o0∧OS 3057 g w 22 (l5:List (List Int)) o0∧e 12=aB∧RV g.m w (([]:List (List Int)):List (List Int)) aB∧OS 3058 g w 22 (([]:List (List Int)):List (List Int)) aB∧e 16=l9∧RV g.m w (i6.1:List Int) l9∧e 17=.int .i64 (i6.2.1)) (fun X191 p09 r0C h=>?_) ?_))
  ·obtain ⟨nJ, hx, h⟩ := Gc h
   refine Tm (fun e w=>∃ (g:Gh) ,Fr gI wI g w∧e 5=p6∧OB 2005 g w 25 (y5:BoxLoom) p6∧e 10=(Wd l8 (Int.toNat 0) (Int.toNat (w64 (((n8).length:Int) - ((t5).length:Int)))) 1)∧RV g.m w (y165:List Int) (Wd l8 (Int.toNat 0) (Int.toNat (w64 (((n8).length:Int) - ((t5).length:Int)))) 1)∧e 11=o0∧RV g.m w (l5:List (List Int)) o0∧OS 3057 g w 22 (l5:List (List Int)) o0∧e 12=aB∧RV g.m w (([]:List (List Int)):List (List Int)) aB∧OS 3058 g w 22 (([]:List (List Int)):List (List Int)) aB∧e 16=l9∧RV g.m w (i6.1:List Int) l9∧e 17=.int .i64 (i6.2.1)∧e 139=.bool (nJ)) (fun Q' hQ=>?_) (fun l0K r0N hR=>?_)
   ·replace h := hx
    clear hx;refine Za (Zn (.int .i64 (i6.2.2)) rfl rfl ?_);refine Gy (.bool ((i6.2.2 != (0:Int)))) rfl rfl rfl rfl ?_;refine Zn (.bool ((i6.2.2 != (0:Int)))) rfl rfl ?_;rcases Zt h with ⟨bL,h⟩ | ⟨bL,h⟩
    ·refine Ga rfl rfl bL rfl rfl ?_
     refine Ga rfl rfl bL rfl rfl ?_;refine Zy (.bool true) (Zl (b:=(i6.2.2 != (0:Int))) rfl (Qt bL rfl)) rfl ?_;refine By 17 rfl ?_;refine Zb ?_;obtain rfl:=sinj h;exact hQ _ _ ⟨aP,hfr,oJ,nD,rfl,dF,sI,uC,bD,pK,cD,lD,rfl,sF,rfl,rfl⟩
    ·refine Zz (.int .i64 (y180.2.2.2)) (Zk rfl) rfl rfl bL rfl ?_
     refine Zz (.bool ((y180.2.2.2 != (0:Int)))) (Td rfl rfl rfl) rfl rfl bL rfl ?_;refine Zy (.bool ((y180.2.2.2 != (0:Int)))) (Zl (b:=(i6.2.2 != (0:Int))) rfl (Qk bL rfl)) rfl ?_;refine Zn (.bool ((y180.2.2.2 != (0:Int)))) rfl rfl ?_;rcases Zt h with ⟨nI,h⟩ | ⟨nI,h⟩
     ·refine Ga rfl rfl nI rfl rfl ?_
      refine Ga rfl rfl nI rfl rfl ?_;refine Ga rfl rfl nI rfl rfl ?_;refine Zy (.bool true) (Zl (b:=(y180.2.2.2 != (0:Int))) rfl (Qt nI rfl)) rfl ?_;refine By 12 rfl ?_;refine Zb ?_;obtain rfl:=sinj h;exact hQ _ _ ⟨aP,hfr,oJ,nD,rfl,dF,sI,uC,bD,pK,cD,lD,rfl,sF,rfl,rfl⟩
     ·refine Zz (.int .i64 (i6.2.1)) (Zk rfl) rfl rfl nI rfl ?_
      refine Zz (.int .i64 (y180.2.1)) (Zk rfl) rfl rfl nI rfl ?_;refine Zz (.bool ((decide (i6.2.1 > y180.2.1)))) (Td rfl rfl rfl) rfl rfl nI rfl ?_;refine Zy (.bool ((decide (i6.2.1 > y180.2.1)))) (Zl (b:=(y180.2.2.2 != (0:Int))) rfl (Qk nI rfl)) rfl ?_;refine Zn (.bool ((decide (i6.2.1 > y180.2.1)))) rfl rfl ?_;rcases Zt h with ⟨pI,h⟩ | ⟨pI,h⟩
      ·refine Ga rfl rfl pI rfl rfl ?_
       refine Ga rfl rfl pI rfl rfl ?_;refine Ga rfl rfl pI rfl rfl ?_;refine Zy (.bool true) (Zl (b:=(decide (i6.2.1 > y180.2.1))) rfl (Qt pI rfl)) rfl ?_;refine By 7 rfl ?_;refine Zb ?_;obtain rfl:=sinj h;exact hQ _ _ ⟨aP,hfr,oJ,nD,rfl,dF,sI,uC,bD,pK,cD,lD,rfl,sF,rfl,rfl⟩
      ·refine Zz (.int .i64 (y180.2.1)) (Zk rfl) rfl rfl pI rfl ?_
       refine Zz (.int .i64 (y11.2.2.2)) (Zk e0A) rfl rfl pI rfl ?_;refine Zz (.bool ((decide (y180.2.1 > y11.2.2.2)))) (Td rfl rfl rfl) rfl rfl pI rfl ?_;refine Zy (.bool ((decide (y180.2.1 > y11.2.2.2)))) (Zl (b:=(decide (i6.2.1 > y180.2.1))) rfl (Qk pI rfl)) rfl ?_;refine Zn (.bool ((decide (y180.2.1 > y11.2.2.2)))) rfl rfl ?_;rcases Zt h with ⟨zH,h⟩ | ⟨zH,h⟩
       ·refine Ga rfl rfl zH rfl rfl ?_
        iterate 4 refine Ga rfl rfl zH rfl rfl ?_
        refine Zy (.bool true) (Zl (b:=(decide (y180.2.1 > y11.2.2.2))) rfl (Qt zH rfl)) rfl ?_;refine Zb ?_;obtain rfl:=sinj h;exact hQ _ _ ⟨aP,hfr,oJ,nD,rfl,dF,sI,uC,bD,pK,cD,lD,rfl,sF,rfl,rfl⟩
       ·refine Zz l9 (Zk rfl) rfl rfl zH rfl ?_
        refine Zz (.int .i64 ((i6.1).length:Int)) (Qm Try.underlying22 rfl sF) rfl rfl zH rfl ?_;refine Zz ((Wd l8 (Int.toNat 0) (Int.toNat (w64 (((n8).length:Int) - ((t5).length:Int)))) 1)) (Zk rfl) rfl rfl zH rfl ?_;refine Zz (.int .i64 ((y165).length:Int)) (Qm Try.underlying22 rfl dF) rfl rfl zH rfl ?_;refine Zz (.bool ((((i6.1).length:Int) != ((y165).length:Int)))) (Td rfl rfl rfl) rfl rfl zH rfl ?_;refine Zy (.bool ((((i6.1).length:Int) != ((y165).length:Int)))) (Zl (b:=(decide (y180.2.1 > y11.2.2.2))) rfl (Qk zH rfl)) rfl ?_;refine Zb ?_;obtain rfl:=sinj h;exact hQ _ _ ⟨aP,hfr,oJ,nD,rfl,dF,sI,uC,bD,pK,cD,lD,rfl,sF,rfl,rfl⟩
   ·clear hx
    obtain ⟨l0H,hfr,h0A,i0A,j06,k06,l06,m06,n06,o06,p06,q06,r06,s06,t06,cP⟩:=hR;rcases Zt h with ⟨cV,h⟩ | ⟨cV,h⟩
    ·refine Ts (Eq.trans (show ev _ _ = .bool (nJ) from cP) (congrArg Value.bool cV)) ?_
     refine Zf (Za (Zg (.bool false) rfl rfl ?_));refine Zb (Zd (Gz (Tq ?_)));obtain rfl:=sinj h;exact Kb rfl rfl (show _=.bool false from rfl) ⟨_,hfr,rfl⟩
    ·refine Tj (Eq.trans (show ev _ _ = .bool (nJ) from cP) (congrArg Value.bool cV)) ?_
     exact Zu (Zd (r0C () _ _ ⟨l0H,hfr,h0A,i0A,j06,k06,l06,m06,n06,o06,p06,q06,r06,s06,t06⟩ h))
  ·rintro _ m0K s0N ⟨j0A, hfr, dP, mH, sT, xG, tT, yG, zG, uT, aH, cH, uN, bG, vN⟩ h
   refine Zf (Za (Ze .plain rfl (Tr (g:=j0A) Try.isAgg25 Try.sizeOf25 dP mH fun m0H n0H=>?_)));obtain ⟨j09,s0C,h⟩:=Gc h;refine Ze .plain rfl (Zp (g:=j0A) (vs:=[m0H]) en15 (.cons rfl .nil) (wk15 n0H s0C) fun o0H n0K p0H hs hr=>?_);have hfr:=hfr.ext hs;have mH:=mH.ext hs;have xG:=xG.ext hs;have yG:=yG.ext hs;have zG:=zG.ext hs;have aH:=aH.ext hs;have cH:=cH.ext hs;have bG:=bG.ext hs;have sX:=hr;refine Zo uN rfl ?_;obtain ⟨k09,t0C,h⟩:=Gc h;refine Ze .plain rfl (Zp (g:=o0H) (vs:=[l9]) en16 (.cons rfl .nil) (wk16 bG t0C) fun q0H o0K r0H hs hr=>?_);have hfr:=hfr.ext hs;have mH:=mH.ext hs;have xG:=xG.ext hs;have yG:=yG.ext hs;have zG:=zG.ext hs;have aH:=aH.ext hs;have cH:=cH.ext hs;have bG:=bG.ext hs;have sX:=sX.ext hs;have s0H:=hr;obtain ⟨cF,u0C,h⟩:=Gc h;refine Ze .plain rfl (Zp (g:=q0H) (vs:=[p0H,r0H]) en17 (.cons rfl (.cons rfl .nil)) (wk17 sX s0H u0C) fun k0A p0K t0N hs hr=>?_);have hfr:=hfr.ext hs;have mH:=mH.ext hs;have xG:=xG.ext hs;have yG:=yG.ext hs;have zG:=zG.ext hs;have aH:=aH.ext hs;have cH:=cH.ext hs;have bG:=bG.ext hs;obtain ⟨eP,s0I,t0I,u0I,rfl,v0I,rfl,rfl,rfl⟩:=hr;refine Zn (.tuple #[eP,.int .i64 (cF.2.1),.int .i64 (cF.2.2.1),.int .i64 (cF.2.2.2)]) rfl rfl ?_;refine Zy eP (Zi rfl rfl) rfl ?_;refine Zy (.int .i64 (cF.2.1)) (Zi rfl rfl) rfl ?_;refine Zy (.int .i64 (cF.2.2.1)) (Zi rfl rfl) rfl ?_;refine Zy (.int .i64 (cF.2.2.2)) (Zi rfl rfl) rfl ?_;refine Zg eP rfl rfl ?_;refine Zg (.int .i64 (cF.2.1)) rfl rfl ?_;refine Zg (.int .i64 (cF.2.2.1)) rfl rfl ?_;refine Zg (.int .i64 (cF.2.2.2)) rfl rfl ?_;refine Zb (Zd (Zq h (fun (s:Unit) e w=>∃ (g:Gh) ,Fr gI wI g w∧e 5=p6∧OB 2005 g w 25 (y5:BoxLoom) p6∧e 10=(Wd l8 (Int.toNat 0) (Int.toNat (w64 (((n8).length:Int) - ((t5).length:Int)))) 1)∧RV g.m w (y165:List Int) (Wd l8 (Int.toNat 0) (Int.toNat (w64 (((n8).length:Int) - ((t5).length:Int)))) 1)∧e 11=o0∧RV g.m w (l5:List (List Int)) o0∧OS 3057 g w 22 (l5:List (List Int)) o0∧e 12=aB∧RV g.m w (([]:List (List Int)):List (List Int)) aB∧OS 3058 g w 22 (([]:List (List Int)):List (List Int)) aB∧e 16=l9∧RV g.m w (i6.1:List Int) l9∧e 17=.int .i64 (i6.2.1)) (fun X214 o09 v0C h=>?_) ?_))
   ·obtain ⟨mJ, hx, h⟩ := Gc h
    refine Tm (fun e w=>∃ (g:Gh) ,Fr gI wI g w∧e 5=p6∧OB 2005 g w 25 (y5:BoxLoom) p6∧e 10=(Wd l8 (Int.toNat 0) (Int.toNat (w64 (((n8).length:Int) - ((t5).length:Int)))) 1)∧RV g.m w (y165:List Int) (Wd l8 (Int.toNat 0) (Int.toNat (w64 (((n8).length:Int) - ((t5).length:Int)))) 1)∧e 11=o0∧RV g.m w (l5:List (List Int)) o0∧OS 3057 g w 22 (l5:List (List Int)) o0∧e 12=aB∧RV g.m w (([]:List (List Int)):List (List Int)) aB∧OS 3058 g w 22 (([]:List (List Int)):List (List Int)) aB∧e 16=l9∧RV g.m w (i6.1:List Int) l9∧e 17=.int .i64 (i6.2.1)∧e 156=.bool (mJ)) (fun Q' hQ=>?_) (fun q0K u0N hR=>?_)
    ·replace h := hx
     clear hx;refine Za (Zn (.int .i64 (cF.2.2.2)) rfl rfl ?_);refine Gy (.bool ((cF.2.2.2 != (0:Int)))) rfl rfl rfl rfl ?_;refine Zn (.bool ((cF.2.2.2 != (0:Int)))) rfl rfl ?_;rcases Zt h with ⟨qI,h⟩ | ⟨qI,h⟩
     ·refine Ga rfl rfl qI rfl rfl ?_
      refine Ga rfl rfl qI rfl rfl ?_;refine Ga rfl rfl qI rfl rfl ?_;refine Zy (.bool true) (Zl (b:=(cF.2.2.2 != (0:Int))) rfl (Qt qI rfl)) rfl ?_;refine Zb ?_;obtain rfl:=sinj h;exact hQ _ _ ⟨k0A,hfr,dP,mH,sT,xG,tT,yG,zG,uT,aH,cH,uN,bG,vN,rfl⟩
     ·refine Zz (.int .i64 (cF.2.1)) (Zk rfl) rfl rfl qI rfl ?_
      refine Zz (.int .i64 (i6.2.1)) (Zk vN) rfl rfl qI rfl ?_;refine Zz (.bool ((cF.2.1 != i6.2.1))) (Td rfl rfl rfl) rfl rfl qI rfl ?_;refine Zy (.bool ((cF.2.1 != i6.2.1))) (Zl (b:=(cF.2.2.2 != (0:Int))) rfl (Qk qI rfl)) rfl ?_;refine Zb ?_;obtain rfl:=sinj h;exact hQ _ _ ⟨k0A,hfr,dP,mH,sT,xG,tT,yG,zG,uT,aH,cH,uN,bG,vN,rfl⟩
    ·clear hx
     obtain ⟨t0H,hfr,l0A,m0A,u06,v06,x06,y06,z06,a07,b07,c07,d07,e07,g07,gP⟩:=hR;rcases Zt h with ⟨dV,h⟩ | ⟨dV,h⟩
     ·refine Ts (Eq.trans (show ev _ _ = .bool (mJ) from gP) (congrArg Value.bool dV)) ?_
      refine Zf (Za (Zg (.bool false) rfl rfl ?_));refine Zb (Zd (Gz (Tq ?_)));obtain rfl:=sinj h;exact Kb rfl rfl (show _=.bool false from rfl) ⟨_,hfr,rfl⟩
     ·refine Tj (Eq.trans (show ev _ _ = .bool (mJ) from gP) (congrArg Value.bool dV)) ?_
      exact Zu (Zd (v0C () _ _ ⟨t0H,hfr,l0A,m0A,u06,v06,x06,y06,z06,a07,b07,c07,d07,e07,g07⟩ h))
   ·rintro _ r0K v0N ⟨u0H, hfr, n0A, o0A, h07, i07, j07, k07, l07, m07, n07, o07, p07, q07, r07⟩ h
    refine Zf (Za (Zg (.int .i64 (0)) rfl rfl ?_));refine Zb (Zd (Zq h (fun (s:Unit) e w=>∃ (g:Gh) ,Fr gI wI g w∧e 5=p6∧OB 2005 g w 25 (y5:BoxLoom) p6∧e 10=(Wd l8 (Int.toNat 0) (Int.toNat (w64 (((n8).length:Int) - ((t5).length:Int)))) 1)∧RV g.m w (y165:List Int) (Wd l8 (Int.toNat 0) (Int.toNat (w64 (((n8).length:Int) - ((t5).length:Int)))) 1)∧e 11=o0∧RV g.m w (l5:List (List Int)) o0∧OS 3057 g w 22 (l5:List (List Int)) o0∧e 12=aB∧RV g.m w (([]:List (List Int)):List (List Int)) aB∧OS 3058 g w 22 (([]:List (List Int)):List (List Int)) aB∧e 17=.int .i64 (i6.2.1)) (fun X740 l09 x0C h=>?_) ?_))
    ·refine Zf (Za (Zg (.int .i64 (0)) rfl rfl ?_))
     refine Zb (Zd (Zr ?_));refine Jv h (fun (s:Int × Int) e w=>∃ (g:Gh) ,Fr gI wI g w∧e 5=p6∧OB 2005 g w 25 (y5:BoxLoom) p6∧e 10=(Wd l8 (Int.toNat 0) (Int.toNat (w64 (((n8).length:Int) - ((t5).length:Int)))) 1)∧RV g.m w (y165:List Int) (Wd l8 (Int.toNat 0) (Int.toNat (w64 (((n8).length:Int) - ((t5).length:Int)))) 1)∧e 11=o0∧RV g.m w (l5:List (List Int)) o0∧OS 3057 g w 22 (l5:List (List Int)) o0∧e 12=aB∧RV g.m w (([]:List (List Int)):List (List Int)) aB∧OS 3058 g w 22 (([]:List (List Int)):List (List Int)) aB∧e 16=l9∧RV g.m w (i6.1:List Int) l9∧e 17=.int .i64 (i6.2.1)∧e 27=.int .i64 (s.1)∧e 28=.int .i64 (s.2)) ⟨u0H,hfr,n0A,o0A,h07,i07,j07,k07,l07,m07,n07,o07,p07,q07,r07,rfl,rfl⟩ (fun X741 m09 y0C=>?_);rintro ⟨rN,cC⟩ s0K x0N ⟨p0A,hfr,nW,oW,xT,yT,xN,yN,zT,aU,bU,cU,s07,t07,dU,u07,eU⟩ h;refine Zq h (fun (s:Unit) e w=>∃ (g:Gh) ,Fr gI wI g w∧e 5=p6∧OB 2005 g w 25 (y5:BoxLoom) p6∧e 10=(Wd l8 (Int.toNat 0) (Int.toNat (w64 (((n8).length:Int) - ((t5).length:Int)))) 1)∧RV g.m w (y165:List Int) (Wd l8 (Int.toNat 0) (Int.toNat (w64 (((n8).length:Int) - ((t5).length:Int)))) 1)∧e 11=o0∧RV g.m w (l5:List (List Int)) o0∧OS 3057 g w 22 (l5:List (List Int)) o0∧e 12=aB∧RV g.m w (([]:List (List Int)):List (List Int)) aB∧OS 3058 g w 22 (([]:List (List Int)):List (List Int)) aB∧e 16=l9∧RV g.m w (i6.1:List Int) l9∧e 17=.int .i64 (i6.2.1)∧e 27=.int .i64 (rN)∧e 28=.int .i64 (cC)) (fun X744 n09 z0C h=>?_) ?_
     ·refine Zf (Za (Zo eU rfl ?_))
      refine Zo xN rfl ?_;refine Zy (.int .i64 ((l5).length:Int)) (Qm Try.underlying42 rfl yN) rfl ?_;refine Gy (.bool ((decide (cC < ((l5).length:Int))))) rfl rfl rfl rfl ?_;refine Zb (Zd ?_);rcases Zt h with ⟨eV,h⟩ | ⟨eV,h⟩
      ·refine Wi eV rfl ?_
       exact Zu (Zd (z0C () _ _ ⟨p0A,hfr,nW,oW,xT,yT,xN,yN,zT,aU,bU,cU,s07,t07,dU,u07,eU⟩ h))
      ·refine Wg eV rfl ?_
       refine Wb ?_;refine Tx ?_;refine Tx ?_;refine Qh ?_;exact Zd (x0C () _ _ ⟨p0A,hfr,nW,oW,xT,yT,xN,yN,zT,aU,bU,cU,dU⟩ h)
     ·rintro _ t0K v0H ⟨q0A, hfr, r0A, yL, v07, qK, x07, sK, tK, y07, uK, vK, z07, xK, a08, b08, c08⟩ h
      refine Zq h (fun (s:Int) e w=>∃ (g:Gh) ,Fr gI wI g w∧e 5=p6∧OB 2005 g w 25 (y5:BoxLoom) p6∧e 10=(Wd l8 (Int.toNat 0) (Int.toNat (w64 (((n8).length:Int) - ((t5).length:Int)))) 1)∧RV g.m w (y165:List Int) (Wd l8 (Int.toNat 0) (Int.toNat (w64 (((n8).length:Int) - ((t5).length:Int)))) 1)∧e 11=o0∧RV g.m w (l5:List (List Int)) o0∧OS 3057 g w 22 (l5:List (List Int)) o0∧e 12=aB∧RV g.m w (([]:List (List Int)):List (List Int)) aB∧OS 3058 g w 22 (([]:List (List Int)):List (List Int)) aB∧e 16=l9∧RV g.m w (i6.1:List Int) l9∧e 17=.int .i64 (i6.2.1)∧e 27=.int .i64 (s)∧e 28=.int .i64 (cC)) (fun X1003 i04 s0A h=>?_) ?_
      ·refine Zr ?_
       refine Zf (Za ?_);have qO:RV q0A.m v0H (⟨List.toArray [0,0,0,0,0,0,0,0,0,0],rfl⟩:Vector Int 10) (.agg (Qj [[.int .i64 0],[.int .i64 0],[.int .i64 0],[.int .i64 0],[.int .i64 0],[.int .i64 0],[.int .i64 0],[.int .i64 0],[.int .i64 0],[.int .i64 0]] []).flatten.toArray):=Qv rfl (Gp (Zw Zx (Zw Zx (Zw Zx (Zw Zx (Zw Zx (Zw Zx (Zw Zx (Zw Zx (Zw Zx (Zw Zx Gk)))))))))) rfl);generalize t0A:(Value.agg (Qj [[.int .i64 0],[.int .i64 0],[.int .i64 0],[.int .i64 0],[.int .i64 0],[.int .i64 0],[.int .i64 0],[.int .i64 0],[.int .i64 0],[.int .i64 0]] []).flatten.toArray)=z04 at qO;refine Zy z04 (t0A ▸ Ug (vs:=[]) [[.int .i64 0],[.int .i64 0],[.int .i64 0],[.int .i64 0],[.int .i64 0],[.int .i64 0],[.int .i64 0],[.int .i64 0],[.int .i64 0],[.int .i64 0]] Try.underlying95 Es Nm rfl (by simp) .nil trivial) rfl ?_;refine Ze .plain rfl (Gq (g:=q0A) 2029 ((Vector.replicate 10 0):Vector Int 10) Try.zeroValue95 (fun m w=>⟨_,(Pm Zx),rfl⟩) fun a0D u0K zE hs b1005 cb=>?_);have hfr:=hfr.stp hs;have yL:=yL.stp hs rfl;have qK:=qK.stp hs;have sK:=sK.stp hs;have tK:=tK.stp hs rfl;have uK:=uK.stp hs;have vK:=vK.stp hs rfl;have xK:=xK.stp hs;have qO:=qO.stp hs;clear cb;refine Ze .plain rfl (Gl (g:=a0D) (v:=z04) Try.sizeOf95 rfl b1005 rfl qO fun b0D v0K hs b1006 cb=>?_);clear cb;have hfr:=hfr.stp hs;have yL:=yL.stp hs rfl;have qK:=qK.stp hs;have sK:=sK.stp hs;have tK:=tK.stp hs rfl;have uK:=uK.stp hs;have vK:=vK.stp hs rfl;have xK:=xK.stp hs;refine Zb (Zd (Zq h (fun (s:Int × (Vector Int 10)) e w=>∃ (g:Gh) ,Fr gI wI g w∧e 5=p6∧OB 2005 g w 25 (y5:BoxLoom) p6∧e 10=(Wd l8 (Int.toNat 0) (Int.toNat (w64 (((n8).length:Int) - ((t5).length:Int)))) 1)∧RV g.m w (y165:List Int) (Wd l8 (Int.toNat 0) (Int.toNat (w64 (((n8).length:Int) - ((t5).length:Int)))) 1)∧e 11=o0∧RV g.m w (l5:List (List Int)) o0∧OS 3057 g w 22 (l5:List (List Int)) o0∧e 12=aB∧RV g.m w (([]:List (List Int)):List (List Int)) aB∧OS 3058 g w 22 (([]:List (List Int)):List (List Int)) aB∧e 16=l9∧RV g.m w (i6.1:List Int) l9∧e 17=.int .i64 (i6.2.1)∧e 27=.int .i64 (s.1)∧e 28=.int .i64 (cC)∧e 29=zE∧OB 2029 g w 95 (s.2:Vector Int 10) zE) (fun X1131 j04 u0A h=>?_) ?_))
       ·refine Zf (Za (Zg (.int .i64 (0)) rfl rfl ?_))
        refine Zb (Zd (Zr ?_));refine Jv h (fun (s:Int × (Vector Int 10) × Int) e w=>∃ (g:Gh) ,Fr gI wI g w∧e 5=p6∧OB 2005 g w 25 (y5:BoxLoom) p6∧e 10=(Wd l8 (Int.toNat 0) (Int.toNat (w64 (((n8).length:Int) - ((t5).length:Int)))) 1)∧RV g.m w (y165:List Int) (Wd l8 (Int.toNat 0) (Int.toNat (w64 (((n8).length:Int) - ((t5).length:Int)))) 1)∧e 11=o0∧RV g.m w (l5:List (List Int)) o0∧OS 3057 g w 22 (l5:List (List Int)) o0∧e 12=aB∧RV g.m w (([]:List (List Int)):List (List Int)) aB∧OS 3058 g w 22 (([]:List (List Int)):List (List Int)) aB∧e 16=l9∧RV g.m w (i6.1:List Int) l9∧e 17=.int .i64 (i6.2.1)∧e 27=.int .i64 (s.1)∧e 28=.int .i64 (cC)∧e 29=zE∧OB 2029 g w 95 (s.2.1:Vector Int 10) zE∧e 30=.int .i64 (s.2.2)) ⟨b0D,hfr,r0A,yL,v07,qK,x07,sK,tK,y07,uK,vK,z07,xK,a08,b08,c08,rfl,b1006,rfl⟩ (fun X1132 k04 v0A=>?_);rintro ⟨zB,bE,zD⟩ x0I x0K ⟨gV,hfr,gU,iU,iP,jP,tM,dL,kP,lP,mP,nP,oP,pP,sP,tP,uM,uP,vP,xP⟩ h;refine Zq h (fun (s:Unit) e w=>∃ (g:Gh) ,Fr gI wI g w∧e 5=p6∧OB 2005 g w 25 (y5:BoxLoom) p6∧e 10=(Wd l8 (Int.toNat 0) (Int.toNat (w64 (((n8).length:Int) - ((t5).length:Int)))) 1)∧RV g.m w (y165:List Int) (Wd l8 (Int.toNat 0) (Int.toNat (w64 (((n8).length:Int) - ((t5).length:Int)))) 1)∧e 11=o0∧RV g.m w (l5:List (List Int)) o0∧OS 3057 g w 22 (l5:List (List Int)) o0∧e 12=aB∧RV g.m w (([]:List (List Int)):List (List Int)) aB∧OS 3058 g w 22 (([]:List (List Int)):List (List Int)) aB∧e 16=l9∧RV g.m w (i6.1:List Int) l9∧e 17=.int .i64 (i6.2.1)∧e 27=.int .i64 (zB)∧e 28=.int .i64 (cC)∧e 29=zE∧OB 2029 g w 95 (bE:Vector Int 10) zE∧e 30=.int .i64 (zD)) (fun X1138 o04 x0A h=>?_) ?_
        ·refine Zf (Za (Zo xP rfl ?_))
         refine Zo tM rfl ?_;refine Zo uM rfl ?_;obtain ⟨pO,pW,h⟩:=Gc h;refine Zy (Qu o0 cC 1) (Zh (α:=List Int) Try.underlying42 Try.sizeOf22 rfl dL rfl pW) rfl ?_;have c0D:=Tp dL pW;refine Ze .plain rfl (Gx (g:=gV) Try.isAgg22 Try.sizeOf22 rfl c0D fun y0K d0D=>?_);refine Zy (.int .i64 ((pO).length:Int)) (Qm Try.underlying22 rfl d0D) rfl ?_;refine Gy (.bool ((decide (zD < ((pO).length:Int))))) rfl rfl rfl rfl ?_;refine Zb (Zd ?_);rcases Zt h with ⟨yP,h⟩ | ⟨yP,h⟩
         ·refine Wi yP rfl ?_
          exact Zu (Zd (x0A () _ _ ⟨gV,hfr,gU,iU,iP,jP,tM,dL,kP,lP,mP,nP,oP,pP,sP,tP,uM,uP,vP,xP⟩ h))
         ·refine Wg yP rfl ?_
          refine Wb ?_;refine Tx ?_;refine Tx ?_;refine Qh ?_;exact Zd (u0A (zB,bE) _ _ ⟨gV,hfr,gU,iU,iP,jP,tM,dL,kP,lP,mP,nP,oP,pP,sP,tP,uM,uP,vP⟩ h)
        ·rintro _ y0I z0K ⟨rO, hfr, jU, kU, zP, bQ, cQ, dQ, eQ, gQ, iQ, jQ, eL, qH, kQ, gL, lQ, mQ, nQ, oQ⟩ h
         refine Zq h (fun (s:Int × (Vector Int 10)) e w=>∃ (g:Gh) ,Fr gI wI g w∧e 5=p6∧OB 2005 g w 25 (y5:BoxLoom) p6∧e 10=(Wd l8 (Int.toNat 0) (Int.toNat (w64 (((n8).length:Int) - ((t5).length:Int)))) 1)∧RV g.m w (y165:List Int) (Wd l8 (Int.toNat 0) (Int.toNat (w64 (((n8).length:Int) - ((t5).length:Int)))) 1)∧e 11=o0∧RV g.m w (l5:List (List Int)) o0∧OS 3057 g w 22 (l5:List (List Int)) o0∧e 12=aB∧RV g.m w (([]:List (List Int)):List (List Int)) aB∧OS 3058 g w 22 (([]:List (List Int)):List (List Int)) aB∧e 16=l9∧RV g.m w (i6.1:List Int) l9∧e 17=.int .i64 (i6.2.1)∧e 27=.int .i64 (s.1)∧e 28=.int .i64 (cC)∧e 29=zE∧OB 2029 g w 95 (s.2:Vector Int 10) zE∧e 30=.int .i64 (zD)) (fun X1199 l04 y0A h=>?_) ?_
         ·refine Zr ?_
          refine Zq h (fun (s:Unit) e w=>∃ (g:Gh) ,Fr gI wI g w∧e 5=p6∧OB 2005 g w 25 (y5:BoxLoom) p6∧e 10=(Wd l8 (Int.toNat 0) (Int.toNat (w64 (((n8).length:Int) - ((t5).length:Int)))) 1)∧RV g.m w (y165:List Int) (Wd l8 (Int.toNat 0) (Int.toNat (w64 (((n8).length:Int) - ((t5).length:Int)))) 1)∧e 11=o0∧RV g.m w (l5:List (List Int)) o0∧OS 3057 g w 22 (l5:List (List Int)) o0∧e 12=aB∧RV g.m w (([]:List (List Int)):List (List Int)) aB∧OS 3058 g w 22 (([]:List (List Int)):List (List Int)) aB∧e 16=l9∧RV g.m w (i6.1:List Int) l9∧e 17=.int .i64 (i6.2.1)∧e 27=.int .i64 (zB)∧e 28=.int .i64 (cC)∧e 29=zE∧OB 2029 g w 95 (bE:Vector Int 10) zE∧e 30=.int .i64 (zD)) (fun X1216 n04 z0A h=>?_) ?_
          ·obtain ⟨jI, hx, h⟩ := Gc h
           refine Tm (fun e w=>∃ (g:Gh) ,Fr gI wI g w∧e 5=p6∧OB 2005 g w 25 (y5:BoxLoom) p6∧e 10=(Wd l8 (Int.toNat 0) (Int.toNat (w64 (((n8).length:Int) - ((t5).length:Int)))) 1)∧RV g.m w (y165:List Int) (Wd l8 (Int.toNat 0) (Int.toNat (w64 (((n8).length:Int) - ((t5).length:Int)))) 1)∧e 11=o0∧RV g.m w (l5:List (List Int)) o0∧OS 3057 g w 22 (l5:List (List Int)) o0∧e 12=aB∧RV g.m w (([]:List (List Int)):List (List Int)) aB∧OS 3058 g w 22 (([]:List (List Int)):List (List Int)) aB∧e 16=l9∧RV g.m w (i6.1:List Int) l9∧e 17=.int .i64 (i6.2.1)∧e 27=.int .i64 (zB)∧e 28=.int .i64 (cC)∧e 29=zE∧OB 2029 g w 95 (bE:Vector Int 10) zE∧e 30=.int .i64 (zD)∧e 184=.bool (jI)) (fun Q' hQ=>?_) (fun z0I a0L hR=>?_)
           ·replace h := hx
            clear hx;refine Za (Zo eL rfl ?_);refine Zo gL rfl ?_;obtain ⟨jM,qW,h⟩:=Gc h;refine Zy (Qu l9 zB 1) (Zh (α:=Int) Try.underlying22 Try.sizeOf3 rfl qH rfl qW) rfl ?_;have e0D:=Tp qH qW;refine Ze .plain rfl (Gx (g:=rO) Try.isAgg3 Try.sizeOf3 rfl e0D fun b0L g0D=>?_);obtain rfl:=Zj.1 g0D;refine Gy (.bool ((decide (jM < (0:Int))))) rfl rfl rfl rfl ?_;refine Zn (.bool ((decide (jM < (0:Int))))) rfl rfl ?_;rcases Zt h with ⟨cG,h⟩ | ⟨cG,h⟩
            ·refine Ga rfl rfl cG rfl rfl ?_
             iterate 4 refine Ga rfl rfl cG rfl rfl ?_
             refine Zy (.bool true) (Zl (b:=(decide (jM < (0:Int)))) rfl (Qt cG rfl)) rfl ?_;refine Zb ?_;obtain rfl:=sinj h;exact hQ _ _ ⟨rO,hfr,jU,kU,zP,bQ,cQ,dQ,eQ,gQ,iQ,jQ,eL,qH,kQ,gL,lQ,mQ,nQ,oQ,rfl⟩
            ·refine Zz l9 (Zk eL) rfl rfl cG rfl ?_
             refine Zz (.int .i64 (zB)) (Zk gL) rfl rfl cG rfl ?_;obtain ⟨oO,sW,h⟩:=Gc h;refine Zz (Qu l9 zB 1) (Zh (α:=Int) Try.underlying22 Try.sizeOf3 rfl qH rfl sW) rfl rfl cG rfl ?_;have h0D:=Tp qH sW;refine Ze (.yes2 rfl rfl cG) rfl (Gx (g:=rO) Try.isAgg3 Try.sizeOf3 rfl h0D fun c0L i0D=>?_);obtain rfl:=Zj.1 i0D;refine Zz (.bool ((decide (oO > (9:Int))))) (Td rfl rfl rfl) rfl rfl cG rfl ?_;refine Zy (.bool ((decide (oO > (9:Int))))) (Zl (b:=(decide (jM < (0:Int)))) rfl (Qk cG rfl)) rfl ?_;refine Zb ?_;obtain rfl:=sinj h;exact hQ _ _ ⟨rO,hfr,jU,kU,zP,bQ,cQ,dQ,eQ,gQ,iQ,jQ,eL,qH,kQ,gL,lQ,mQ,nQ,oQ,rfl⟩
           ·clear hx
            obtain ⟨j0D,hfr,d08,e08,tX,uX,vX,xX,yX,zX,aY,bY,cY,dY,eY,gY,iY,jY,kY,mY,cO⟩:=hR;rcases Zt h with ⟨pQ,h⟩ | ⟨pQ,h⟩
            ·refine Ts (Eq.trans (show ev _ _ = .bool (jI) from cO) (congrArg Value.bool pQ)) ?_
             refine Zf (Za (Zg (.bool false) rfl rfl ?_));refine Zb (Zd (Gz (Tq ?_)));refine Wf ?_;refine Tq ?_;refine Tq ?_;refine Wf ?_;refine Tq ?_;refine Wf ?_;refine Tq ?_;refine Tq ?_;refine Wf ?_;refine Tq ?_;obtain rfl:=sinj h;exact Kb rfl rfl (show _=.bool false from rfl) ⟨_,hfr,rfl⟩
            ·refine Tj (Eq.trans (show ev _ _ = .bool (jI) from cO) (congrArg Value.bool pQ)) ?_
             exact Zu (Zd (z0A () _ _ ⟨j0D,hfr,d08,e08,tX,uX,vX,xX,yX,zX,aY,bY,cY,dY,eY,gY,iY,jY,kY,mY⟩ h))
          ·rintro _ a0J d0L ⟨sO, hfr, g08, yK, nY, pJ, qQ, iG, qJ, oY, rJ, sJ, rQ, jG, pY, sQ, tQ, vJ, iL, uQ⟩ h
           refine Zf (Za (Zo qQ rfl ?_));refine Zo tQ rfl ?_;obtain ⟨m04,tW,h⟩:=Gc h;refine Zy (Qu o0 cC 1) (Zh (α:=List Int) Try.underlying42 Try.sizeOf22 rfl iG rfl tW) rfl ?_;have k0D:=Tp iG tW;refine Ze .plain rfl (Gx (g:=sO) Try.isAgg22 Try.sizeOf22 rfl k0D fun l0D a05=>?_);refine Zo uQ rfl ?_;obtain ⟨lI,uW,h⟩:=Gc h;refine Zy (Qu l0D zD 1) (Zh (α:=Int) Try.underlying22 Try.sizeOf3 rfl a05 rfl uW) rfl ?_;have m0D:=Tp a05 uW;refine Ze .plain rfl (Gx (g:=sO) Try.isAgg3 Try.sizeOf3 rfl m0D fun e0L n0D=>?_);obtain rfl:=Zj.1 n0D;obtain ⟨iM,vW,h⟩:=Gc h;obtain ⟨hi1241,he1241⟩:=Wr vW;refine Zy (Gn zE ((lI:Int).toNat * 1)) (To (α:=Int) Try.underlying95 Try.sizeOf3 vJ (OB.ptr iL) rfl vW) rfl ?_;refine Ze .plain rfl (Nf (g:=sO) (Gv.dyn hi1241).1 he1241 Try.isAgg3 Try.sizeOf3 rfl iL fun g0L o0D=>?_);obtain rfl:=Zj.1 o0D;refine Gy (.int .i64 ((w64 (iM + (1:Int))))) rfl rfl rfl rfl ?_;obtain ⟨e0C,xW,h⟩:=Gc h;obtain ⟨hi1244,he1244⟩:=Wr xW;refine Zy (Gn zE ((lI:Int).toNat * 1)) (To (α:=Int) Try.underlying95 Try.sizeOf3 vJ (OB.ptr iL) rfl xW) rfl ?_;refine Ze .plain rfl (Wt (g:=sO) (Gv.dyn hi1244) Try.sizeOf3 rfl iL rfl (Zj.2 rfl) fun iV h0L hs b1245 rst hos=>?_);clear rst hos;have hfr:=hfr.stp hs;have yK:=yK.stp hs rfl;have pJ:=pJ.stp hs;have iG:=iG.stp hs;have qJ:=qJ.stp hs rfl;have rJ:=rJ.stp hs;have sJ:=sJ.stp hs rfl;have jG:=jG.stp hs;refine Zb (Zd (Zf (Za (Zo rQ rfl ?_))));refine Zo sQ rfl ?_;obtain ⟨aL,yW,h⟩:=Gc h;refine Zy (Qu l9 zB 1) (Zh (α:=Int) Try.underlying22 Try.sizeOf3 rfl jG rfl yW) rfl ?_;have p0D:=Tp jG yW;refine Ze .plain rfl (Gx (g:=iV) Try.isAgg3 Try.sizeOf3 rfl p0D fun i0L q0D=>?_);obtain rfl:=Zj.1 q0D;obtain ⟨nO,zW,h⟩:=Gc h;obtain ⟨hi1250,he1250⟩:=Wr zW;refine Zy (Gn zE ((aL:Int).toNat * 1)) (To (α:=Int) Try.underlying95 Try.sizeOf3 vJ (OB.ptr b1245) rfl zW) rfl ?_;refine Ze .plain rfl (Nf (g:=iV) (Gv.dyn hi1250).1 he1250 Try.isAgg3 Try.sizeOf3 rfl b1245 fun j0L r0D=>?_);obtain rfl:=Zj.1 r0D;refine Gy (.int .i64 ((w64 (nO - (1:Int))))) rfl rfl rfl rfl ?_;obtain ⟨g0C,aX,h⟩:=Gc h;obtain ⟨hi1253,he1253⟩:=Wr aX;refine Zy (Gn zE ((aL:Int).toNat * 1)) (To (α:=Int) Try.underlying95 Try.sizeOf3 vJ (OB.ptr b1245) rfl aX) rfl ?_;refine Ze .plain rfl (Wt (g:=iV) (Gv.dyn hi1253) Try.sizeOf3 rfl b1245 rfl (Zj.2 rfl) fun s0D k0L hs b1254 rst hos=>?_);clear rst hos;have hfr:=hfr.stp hs;have yK:=yK.stp hs rfl;have pJ:=pJ.stp hs;have iG:=iG.stp hs;have qJ:=qJ.stp hs rfl;have rJ:=rJ.stp hs;have sJ:=sJ.stp hs rfl;have jG:=jG.stp hs;refine Zb (Zd (Za (Zo sQ rfl ?_)));refine Gy (.int .i64 ((w64 (zB + (1:Int))))) rfl rfl rfl rfl ?_;refine Zg (.int .i64 ((w64 (zB + (1:Int))))) rfl rfl ?_;exact Zb (We (Zd (y0A ((w64 (zB + (1:Int))),(Ku ((Ku bE lI ((w64 (iM + (1:Int)))))) aL ((w64 (nO - (1:Int)))))) _ _ ⟨s0D,hfr,g08,yK,nY,pJ,qQ,iG,qJ,oY,rJ,sJ,rQ,jG,pY,rfl,tQ,vJ,b1254,uQ⟩ h)))
         ·rintro ⟨rM, sM⟩ b0J l0L ⟨t0D, hfr, h08, i08, qY, uY, vY, xY, yY, zY, aZ, bZ, cZ, dZ, mZ, nZ, oZ, pZ, qZ, rZ⟩ h
          refine Za (Zo rZ rfl ?_);refine Gy (.int .i64 ((w64 (zD + (1:Int))))) rfl rfl rfl rfl ?_;refine Zg (.int .i64 ((w64 (zD + (1:Int))))) rfl rfl ?_;exact Zb (Zd (v0A (rM,sM,(w64 (zD + (1:Int)))) _ _ ⟨t0D,hfr,h08,i08,qY,uY,vY,xY,yY,zY,aZ,bZ,cZ,dZ,mZ,nZ,oZ,pZ,qZ,rfl⟩ h))
       ·rintro ⟨pM, qM⟩ c0J u0D ⟨jV, hfr, j08, k08, sZ, tZ, uZ, vZ, xZ, yZ, zZ, a00, b00, c00, d00, g00, h00, i00, j00⟩ h
        refine Zf (Za (Ze .plain rfl (Tr (g:=jV) Try.isAgg95 Try.sizeOf95 i00 j00 fun m0L v0D=>?_)));have b05:RV jV.m u0D (⟨List.toArray [0,0,0,0,0,0,0,0,0,0],rfl⟩:Vector Int 10) (.agg (Qj [[.int .i64 0],[.int .i64 0],[.int .i64 0],[.int .i64 0],[.int .i64 0],[.int .i64 0],[.int .i64 0],[.int .i64 0],[.int .i64 0],[.int .i64 0]] []).flatten.toArray):=Qv rfl (Gp (Zw Zx (Zw Zx (Zw Zx (Zw Zx (Zw Zx (Zw Zx (Zw Zx (Zw Zx (Zw Zx (Zw Zx Gk)))))))))) rfl);generalize a0B:(Value.agg (Qj [[.int .i64 0],[.int .i64 0],[.int .i64 0],[.int .i64 0],[.int .i64 0],[.int .i64 0],[.int .i64 0],[.int .i64 0],[.int .i64 0],[.int .i64 0]] []).flatten.toArray)=x0D at b05;refine Zy x0D (a0B ▸ Ug (vs:=[]) [[.int .i64 0],[.int .i64 0],[.int .i64 0],[.int .i64 0],[.int .i64 0],[.int .i64 0],[.int .i64 0],[.int .i64 0],[.int .i64 0],[.int .i64 0]] Try.underlying95 Es Nm rfl (by simp) .nil trivial) rfl ?_;refine Zy (.bool ((!(decide (qM=(⟨List.toArray [0,0,0,0,0,0,0,0,0,0],rfl⟩:Vector Int 10)))))) (P_sne seq_95 rfl eg_95 rfl rfl v0D b05) rfl ?_;refine Zb (Zd ?_);rcases Zt h with ⟨vQ,h⟩ | ⟨vQ,h⟩
        ·refine Wi vQ rfl ?_
         refine Zf (Za (Zg (.bool false) rfl rfl ?_));refine Zb (Zd (Gz (Wf ?_)));refine Tq ?_;refine Tq ?_;refine Wf ?_;refine Tq ?_;obtain rfl:=sinj h;exact Kb rfl rfl (show _=.bool false from rfl) ⟨_,hfr,rfl⟩
        ·refine Wg vQ rfl ?_
         exact Zu (We (Zd (s0A (pM) _ _ ⟨jV,hfr,j08,k08,sZ,tZ,uZ,vZ,xZ,yZ,zZ,a00,b00,c00,d00,g00,h00⟩ h)))
      ·rintro kM d0J n0L ⟨y0D, hfr, l08, m08, k00, l00, m00, n00, o00, p00, q00, r00, s00, t00, u00, v00, x00⟩ h
       refine Za (Zo x00 rfl ?_);refine Gy (.int .i64 ((w64 (cC + (1:Int))))) rfl rfl rfl rfl ?_;refine Zg (.int .i64 ((w64 (cC + (1:Int))))) rfl rfl ?_;exact Zb (Zd (y0C (kM,(w64 (cC + (1:Int)))) _ _ ⟨y0D,hfr,l08,m08,k00,l00,m00,n00,o00,p00,q00,r00,s00,t00,u00,v00,rfl⟩ h))
    ·rintro _ e0J o0L ⟨z0D, hfr, n08, o08, y00, z00, a01, b01, c01, d01, e01, g01, h01⟩ h
     obtain ⟨n9,hx,h⟩:=Gc h;refine Tm (fun e w=>∃ (g:Gh) (zL:Value),Fr gI wI g w∧e 5=p6∧OB 2005 g w 25 (y5:BoxLoom) p6∧e 10=(Wd l8 (Int.toNat 0) (Int.toNat (w64 (((n8).length:Int) - ((t5).length:Int)))) 1)∧RV g.m w (y165:List Int) (Wd l8 (Int.toNat 0) (Int.toNat (w64 (((n8).length:Int) - ((t5).length:Int)))) 1)∧e 11=o0∧RV g.m w (l5:List (List Int)) o0∧OS 3057 g w 22 (l5:List (List Int)) o0∧e 12=zL∧RV g.m w (n9:List (List Int)) zL∧OS 3058 g w 22 (n9:List (List Int)) zL∧e 17=.int .i64 (i6.2.1)) (fun Q' hQ=>?_) (fun g0J p0L hR=>?_)
     ·replace h := hx
      clear hx;refine Zf (Za (Zg (.int .i64 (0)) rfl rfl ?_));refine Zb (Zd (Zr ?_));refine Jv h (fun (s:(List (List Int)) × Int) e w=>∃ (g:Gh) (zL:Value),Fr gI wI g w∧e 5=p6∧OB 2005 g w 25 (y5:BoxLoom) p6∧e 10=(Wd l8 (Int.toNat 0) (Int.toNat (w64 (((n8).length:Int) - ((t5).length:Int)))) 1)∧RV g.m w (y165:List Int) (Wd l8 (Int.toNat 0) (Int.toNat (w64 (((n8).length:Int) - ((t5).length:Int)))) 1)∧e 11=o0∧RV g.m w (l5:List (List Int)) o0∧OS 3057 g w 22 (l5:List (List Int)) o0∧e 12=zL∧RV g.m w (s.1:List (List Int)) zL∧OS 3058 g w 22 (s.1:List (List Int)) zL∧e 17=.int .i64 (i6.2.1)∧e 31=.int .i64 (s.2)) ⟨z0D,(aB),hfr,n08,o08,y00,z00,a01,b01,c01,d01,e01,g01,h01,rfl⟩ (fun X1289 r03 b0B=>?_);rintro ⟨gG,nB⟩ h0J q0L ⟨c05,kG,hfr,lU,mU,vM,xM,xQ,yQ,zQ,aR,bR,dR,eR,jL⟩ h;refine Zq h (fun (s:Unit) e w=>∃ (g:Gh) ,Fr gI wI g w∧e 5=p6∧OB 2005 g w 25 (y5:BoxLoom) p6∧e 10=(Wd l8 (Int.toNat 0) (Int.toNat (w64 (((n8).length:Int) - ((t5).length:Int)))) 1)∧RV g.m w (y165:List Int) (Wd l8 (Int.toNat 0) (Int.toNat (w64 (((n8).length:Int) - ((t5).length:Int)))) 1)∧e 11=o0∧RV g.m w (l5:List (List Int)) o0∧OS 3057 g w 22 (l5:List (List Int)) o0∧e 12=kG∧RV g.m w (gG:List (List Int)) kG∧OS 3058 g w 22 (gG:List (List Int)) kG∧e 17=.int .i64 (i6.2.1)∧e 31=.int .i64 (nB)) (fun X1295 t03 c0B h=>?_) ?_
      ·obtain ⟨bI, hx, h⟩ := Gc h
       refine Tm (fun e w=>∃ (g:Gh) ,Fr gI wI g w∧e 5=p6∧OB 2005 g w 25 (y5:BoxLoom) p6∧e 10=(Wd l8 (Int.toNat 0) (Int.toNat (w64 (((n8).length:Int) - ((t5).length:Int)))) 1)∧RV g.m w (y165:List Int) (Wd l8 (Int.toNat 0) (Int.toNat (w64 (((n8).length:Int) - ((t5).length:Int)))) 1)∧e 11=o0∧RV g.m w (l5:List (List Int)) o0∧OS 3057 g w 22 (l5:List (List Int)) o0∧e 12=kG∧RV g.m w (gG:List (List Int)) kG∧OS 3058 g w 22 (gG:List (List Int)) kG∧e 17=.int .i64 (i6.2.1)∧e 31=.int .i64 (nB)∧e 216=.bool (bI)) (fun Q' hQ=>?_) (fun i0J r0L hR=>?_)
       ·replace h := hx
        clear hx;refine Za (Zo jL rfl ?_);refine Zy ((Wd l8 (Int.toNat 0) (Int.toNat (w64 (((n8).length:Int) - ((t5).length:Int)))) 1)) (Zk vM) rfl ?_;refine Zy (.int .i64 ((y165).length:Int)) (Qm Try.underlying22 rfl xM) rfl ?_;refine Gy (.bool ((decide (nB < ((y165).length:Int))))) rfl rfl rfl rfl ?_;refine Zn (.bool ((decide (nB < ((y165).length:Int))))) rfl rfl ?_;rcases Zt h with ⟨xJ,h⟩ | ⟨xJ,h⟩
        ·refine Zz (.int .i64 (nB)) (Zk jL) rfl rfl xJ rfl ?_
         refine Zz (.bool ((decide (nB < (8:Int))))) (Td rfl rfl rfl) rfl rfl xJ rfl ?_;refine Zy (.bool ((decide (nB < (8:Int))))) (Zl (b:=(decide (nB < ((y165).length:Int)))) rfl (Qt xJ rfl)) rfl ?_;refine Zb ?_;obtain rfl:=sinj h;exact hQ _ _ ⟨c05,hfr,lU,mU,vM,xM,xQ,yQ,zQ,aR,bR,dR,eR,jL,rfl⟩
        ·refine Ga rfl rfl xJ rfl rfl ?_
         refine Ga rfl rfl xJ rfl rfl ?_;refine Zy (.bool false) (Zl (b:=(decide (nB < ((y165).length:Int)))) rfl (Qk xJ rfl)) rfl ?_;refine Zb ?_;obtain rfl:=sinj h;exact hQ _ _ ⟨c05,hfr,lU,mU,vM,xM,xQ,yQ,zQ,aR,bR,dR,eR,jL,rfl⟩
       ·clear hx
        obtain ⟨d05,hfr,nU,oU,gR,iR,jR,lR,mR,nR,oR,pR,qR,i01,dO⟩:=hR;rcases Zt h with ⟨rR,h⟩ | ⟨rR,h⟩
        ·refine Ts (Eq.trans (show ev _ _ = .bool (bI) from dO) (congrArg Value.bool rR)) ?_
         exact Zu (Zd (c0B () _ _ ⟨d05,hfr,nU,oU,gR,iR,jR,lR,mR,nR,oR,pR,qR,i01⟩ h))
        ·refine Tj (Eq.trans (show ev _ _ = .bool (bI) from dO) (congrArg Value.bool rR)) ?_
         refine Wb ?_;refine Tx ?_;refine Tx ?_;refine Qh ?_;obtain rfl:=sinj h;exact hQ _ _ ⟨d05,(kG),hfr,nU,oU,gR,iR,jR,lR,mR,nR,oR,pR,qR⟩
      ·rintro _ j0J s0L ⟨e05, hfr, p08, sH, tR, eF, j01, lG, mG, k01, zJ, aK, l01, uR⟩ h
       obtain ⟨lJ,hx,h⟩:=Gc h;refine Tm (fun e w=>∃ (g:Gh) (zL:Value),Fr gI wI g w∧e 5=p6∧OB 2005 g w 25 (y5:BoxLoom) p6∧e 10=(Wd l8 (Int.toNat 0) (Int.toNat (w64 (((n8).length:Int) - ((t5).length:Int)))) 1)∧RV g.m w (y165:List Int) (Wd l8 (Int.toNat 0) (Int.toNat (w64 (((n8).length:Int) - ((t5).length:Int)))) 1)∧e 11=o0∧RV g.m w (l5:List (List Int)) o0∧OS 3057 g w 22 (l5:List (List Int)) o0∧e 12=zL∧RV g.m w (lJ:List (List Int)) zL∧OS 3058 g w 22 (lJ:List (List Int)) zL∧e 17=.int .i64 (i6.2.1)∧e 31=.int .i64 (nB)) (fun Q' hQ=>?_) (fun k0J t0L hR=>?_)
       ·replace h := hx
        clear hx;refine Zr ?_;refine Za (Zo k01 rfl ?_);refine Zy ((Wd l8 (Int.toNat 0) (Int.toNat (w64 (((n8).length:Int) - ((t5).length:Int)))) 1)) (Zk tR) rfl ?_;refine Zo uR rfl ?_;obtain ⟨jN,bX,h⟩:=Gc h;refine Zy (Qu ((Wd l8 (Int.toNat 0) (Int.toNat (w64 (((n8).length:Int) - ((t5).length:Int)))) 1)) nB 1) (Zh (α:=Int) Try.underlying22 Try.sizeOf3 rfl eF rfl bX) rfl ?_;have a0E:=Tp eF bX;refine Ze .plain rfl (Gx (g:=e05) Try.isAgg3 Try.sizeOf3 rfl a0E fun u0L b0E=>?_);obtain rfl:=Zj.1 b0E;refine Ze .plain rfl (Gm (g:=e05) 3224 (xs:=([jN]:List Int)) (vs:=[.int .i64 (jN)]) Try.underlying22 Try.sizeOf3 Try.zeroValue3 rfl rfl (.cons rfl .nil) (RVs.cons (Zj.2 rfl) RVs.nil) rfl rfl fun c0E v0L d0E hs o1311 e0E hxt hfl=>?_);have hfr:=hfr.stp hs;have sH:=sH.stp hs rfl;have eF:=eF.stp hs;have lG:=lG.stp hs;have mG:=mG.stp hs rfl;have zJ:=zJ.stp hs;have aK:=aK.stp hs rfl;refine Ze .plain rfl (Gm (g:=c0E) 3225 (xs:=([([jN]:List Int)]:List (List Int))) (vs:=[d0E]) Try.underlying42 Try.sizeOf22 Try.zeroValue22 rfl rfl (.cons rfl .nil) (RVs.cons e0E RVs.nil) rfl rfl fun g0E x0L y0L hs o1312 h0E hxt hfl=>?_);have hfr:=hfr.stp hs;have sH:=sH.stp hs rfl;have eF:=eF.stp hs;have lG:=lG.stp hs;have mG:=mG.stp hs rfl;have zJ:=zJ.stp hs;have aK:=aK.stp hs rfl;obtain ⟨s03,d0B,h⟩:=Gc h;refine Ze .plain rfl (Ke (g:=g0E) (i:=3058) Try.underlying42 Dz rfl rfl aK zJ rfl h0E d0B fun i0E z0L g05 hs o1313 j0E _=>?_);have hfr:=hfr.stp hs;have sH:=sH.stp hs rfl;have eF:=eF.stp hs;have lG:=lG.stp hs;have mG:=mG.stp hs rfl;refine Zg g05 rfl rfl ?_;refine Zb (We ?_);obtain rfl:=sinj h;exact hQ _ _ ⟨i0E,(g05),hfr,p08,sH,tR,eF,j01,lG,mG,rfl,j0E,o1313,l01,uR⟩
       ·clear hx
        obtain ⟨k0E,m01,hfr,q08,r08,n01,o01,p01,q01,r01,s01,t01,u01,v01,x01⟩:=hR;refine Za (Zo x01 rfl ?_);refine Gy (.int .i64 ((w64 (nB + (1:Int))))) rfl rfl rfl rfl ?_;refine Zg (.int .i64 ((w64 (nB + (1:Int))))) rfl rfl ?_;exact Zb (Zd (b0B (lJ,(w64 (nB + (1:Int)))) _ _ ⟨k0E,(m01),hfr,q08,r08,n01,o01,p01,q01,r01,s01,t01,u01,v01,rfl⟩ h))
     ·clear hx
      obtain ⟨h05,vB,hfr,jJ,oE,bK,iE,lL,vE,xE,sG,aE,yE,mL⟩:=hR;refine Zf (Za (Ze .plain rfl (Tr (g:=h05) Try.isAgg25 Try.sizeOf25 jJ oE fun l0E m0E=>?_)));obtain ⟨u03,e0B,h⟩:=Gc h;refine Ze .plain rfl (Zp (g:=h05) (vs:=[l0E]) en15 (.cons rfl .nil) (wk15 m0E e0B) fun n0E l0J o0E hs hr=>?_);have hfr:=hfr.ext hs;have oE:=oE.ext hs;have iE:=iE.ext hs;have vE:=vE.ext hs;have xE:=xE.ext hs;have aE:=aE.ext hs;have yE:=yE.ext hs;have p0E:=hr;refine Zo sG rfl ?_;obtain ⟨oB,g0B,h⟩:=Gc h;refine Ze .plain rfl (Zp (g:=n0E) (vs:=[o0E,vB]) en25 (.cons rfl (.cons rfl .nil)) (wk25 p0E aE g0B) fun q0E m0J a0M hs hr=>?_);have hfr:=hfr.ext hs;have oE:=oE.ext hs;have iE:=iE.ext hs;have vE:=vE.ext hs;have xE:=xE.ext hs;have aE:=aE.ext hs;have yE:=yE.ext hs;obtain ⟨yD,a0I,b0I,rfl,tH,rfl,rfl⟩:=hr;refine Zn (.tuple #[yD,.int .i64 (oB.2.1),.int .i64 (oB.2.2)]) rfl rfl ?_;refine Zy yD (Zi rfl rfl) rfl ?_;refine Zy (.int .i64 (oB.2.1)) (Zi rfl rfl) rfl ?_;refine Zy (.int .i64 (oB.2.2)) (Zi rfl rfl) rfl ?_;refine Zg yD rfl rfl ?_;refine Zg (.int .i64 (oB.2.1)) rfl rfl ?_;refine Zg (.int .i64 (oB.2.2)) rfl rfl ?_;refine Zb (Zd (Zf (Wo (x:=.tmp 5) Try.isAgg25 Try.sizeOf25 oE fun i05 r0E h0B=>?_)));obtain ⟨bM,i0B,h⟩:=Gc h;obtain ⟨v03,cX,h⟩:=Gc h;have s0E:=Ry iE cX;obtain ⟨cM,j0B,h⟩:=Gc h;obtain ⟨g8,k0B,h⟩:=Gc h;refine Qi (g:=q0E) (n:=17) [(1,(fun v g w=>RV g.m w bM v)),(6,(fun v g w=>RV g.m w cM v)),(7,(fun v g w=>∃ y0 y1 y2 y3:Value,v=.tuple #[y0,y1,y2,y3]∧RV g.m w (g8.1:List Gf) y0∧y1=.int .i64 (g8.2.1)∧y2=.int .i64 (g8.2.2.1)∧y3=.int .i64 (g8.2.2.2)))] [0,1,2,3,4,5,6,7,8,9,10,11,12,13,14,15,16] rfl mixed (by kernel_rfl) (⟨fun _=>Kp,fun _=>Kp,fun _=>(up_ex fun _=>(up_ex fun _=>(up_ex fun _=>(up_ex fun _=>(Tt (Qq _) (Tt Kp (Tt (Qq _) (Tt (Qq _) (Qq _))))))))),trivial⟩) ?_;refine Te (c:=i05) rfl rfl .plain (fun _ _ h=>⟨h.ch,fun b hb _=>h.below.block b hb⟩) h0B jJ ?_;refine Qw (φ:=fun v g w=>RV g.m w bM v) rfl rfl .plain (fun g w hd=>Zp (g:=g) (vs:=[i05]) en15 (.cons rfl .nil) (wk15 (r0E.ext hd.1) i0B) fun g' w' v hs hr=>⟨g',hs,hr⟩) (fun kV hv=>?_);obtain ⟨_,_,_,rq1323⟩:=hv;refine Gb ((Wd l8 (Int.toNat 0) (Int.toNat (w64 (((n8).length:Int) - ((t5).length:Int)))) 1)) rfl rfl (Zk bK) ?_;refine Gb vB rfl rfl (Zk sG) ?_;refine Gb (.int .i64 ((n9).length:Int)) rfl rfl (Qm Try.underlying42 rfl aE) ?_;refine Gb ((Wd ((Wd l8 (Int.toNat 0) (Int.toNat (w64 (((n8).length:Int) - ((t5).length:Int)))) 1)) (Int.toNat 0) (Int.toNat ((n9).length:Int)) 1)) rfl rfl (Bc Try.underlying22 Try.sizeOf3 rfl iE rfl rfl cX) ?_;refine Qw (φ:=fun v g w=>RV g.m w cM v) rfl rfl .plain (fun g w hd=>Zp (g:=g) (vs:=[(Wd ((Wd l8 (Int.toNat 0) (Int.toNat (w64 (((n8).length:Int) - ((t5).length:Int)))) 1)) (Int.toNat 0) (Int.toNat ((n9).length:Int)) 1)]) en16 (.cons rfl .nil) (wk16 (s0E.ext hd.1) j0B) fun g' w' v hs hr=>⟨g',hs,hr⟩) (fun lV hv=>?_);obtain ⟨_,_,_,rq1327⟩:=hv;refine Qw (φ:=fun v g w=>∃ y0 y1 y2 y3:Value,v=.tuple #[y0,y1,y2,y3]∧RV g.m w (g8.1:List Gf) y0∧y1=.int .i64 (g8.2.1)∧y2=.int .i64 (g8.2.2.1)∧y3=.int .i64 (g8.2.2.2)) rfl rfl .plain (fun g w hd=>Zp (g:=g) (vs:=[kV,lV]) en17 (.cons rfl (.cons rfl .nil)) (wk17 (Ju (A:=fun g w=>RV g.m w bM kV) 1 rfl rfl (Qp hd)) (Ju (A:=fun g w=>RV g.m w cM lV) 6 rfl rfl (Qp hd)) k0B) fun g' w' v hs hr=>⟨g',hs,hr⟩) (fun b0M hv=>?_);obtain ⟨_,_,_,zK,_,_,_,rfl,x0H,rfl,rfl,rfl⟩:=hv;refine Gb (.tuple #[zK,.int .i64 (g8.2.1),.int .i64 (g8.2.2.1),.int .i64 (g8.2.2.2)]) rfl rfl (Zk rfl) ?_;refine Gb zK rfl rfl (Zi rfl rfl) ?_;refine Gb (.int .i64 (g8.2.1)) rfl rfl (Zi rfl rfl) ?_;refine Gb (.int .i64 (g8.2.2.1)) rfl rfl (Zi rfl rfl) ?_;refine Gb (.int .i64 (g8.2.2.2)) rfl rfl (Zi rfl rfl) ?_;refine Gb zK rfl rfl (Tf rfl) ?_;refine Gb (.int .i64 (g8.2.1)) rfl rfl (Tf rfl) ?_;refine Gb (.int .i64 (g8.2.2.1)) rfl rfl (Tf rfl) ?_;refine Gb (.int .i64 (g8.2.2.2)) rfl rfl (Tf rfl) ?_;refine Jr fun tO c0M hall=>?_;have hs:=hall.1;have hfr:=hfr.ext hs;have oE:=oE.ext hs;have iE:=iE.ext hs;have vE:=vE.ext hs;have xE:=xE.ext hs;have aE:=aE.ext hs;have yE:=yE.ext hs
      have tH:=tH.ext hs;have d0M:=(Gs (A:=fun g w=>RV g.m w bM kV) 1 rfl hall);have e0M:=(Gs (A:=fun g w=>RV g.m w cM lV) 6 rfl hall);have g0M:=(tup4_0 (Gs (A:=fun g w=>∃ y0 y1 y2 y3:Value,Value.tuple #[zK,.int .i64 (g8.2.1),.int .i64 (g8.2.2.1),.int .i64 (g8.2.2.2)]=.tuple #[y0,y1,y2,y3]∧RV g.m w (g8.1:List Gf) y0∧y1=.int .i64 (g8.2.1)∧y2=.int .i64 (g8.2.2.1)∧y3=.int .i64 (g8.2.2.2)) 7 rfl hall));have h0M:=(tup4_0 (Gs (A:=fun g w=>∃ y0 y1 y2 y3:Value,Value.tuple #[zK,.int .i64 (g8.2.1),.int .i64 (g8.2.2.1),.int .i64 (g8.2.2.2)]=.tuple #[y0,y1,y2,y3]∧RV g.m w (g8.1:List Gf) y0∧y1=.int .i64 (g8.2.1)∧y2=.int .i64 (g8.2.2.1)∧y3=.int .i64 (g8.2.2.2)) 7 rfl hall));clear hs hall;refine Zb (Zd (Zq h (fun (s:Unit) e w=>∃ (g:Gh) ,Fr gI wI g w∧e 5=p6∧OB 2005 g w 25 (y5:BoxLoom) p6∧e 10=(Wd l8 (Int.toNat 0) (Int.toNat (w64 (((n8).length:Int) - ((t5).length:Int)))) 1)∧RV g.m w (y165:List Int) (Wd l8 (Int.toNat 0) (Int.toNat (w64 (((n8).length:Int) - ((t5).length:Int)))) 1)∧e 11=o0∧RV g.m w (l5:List (List Int)) o0∧OS 3057 g w 22 (l5:List (List Int)) o0∧e 12=vB∧RV g.m w (n9:List (List Int)) vB∧OS 3058 g w 22 (n9:List (List Int)) vB∧e 17=.int .i64 (i6.2.1)∧e 32=yD∧RV g.m w (oB.1:List Int) yD) (fun X1373 h04 l0B h=>?_) ?_))
      ·obtain ⟨iI, hx, h⟩ := Gc h
       refine Tm (fun e w=>∃ (g:Gh) ,Fr gI wI g w∧e 5=p6∧OB 2005 g w 25 (y5:BoxLoom) p6∧e 10=(Wd l8 (Int.toNat 0) (Int.toNat (w64 (((n8).length:Int) - ((t5).length:Int)))) 1)∧RV g.m w (y165:List Int) (Wd l8 (Int.toNat 0) (Int.toNat (w64 (((n8).length:Int) - ((t5).length:Int)))) 1)∧e 11=o0∧RV g.m w (l5:List (List Int)) o0∧OS 3057 g w 22 (l5:List (List Int)) o0∧e 12=vB∧RV g.m w (n9:List (List Int)) vB∧OS 3058 g w 22 (n9:List (List Int)) vB∧e 17=.int .i64 (i6.2.1)∧e 32=yD∧RV g.m w (oB.1:List Int) yD∧e 265=.bool (iI)) (fun Q' hQ=>?_) (fun n0J i0M hR=>?_)
       ·replace h := hx
        clear hx;refine Za (Zn (.int .i64 (oB.2.2)) rfl rfl ?_);refine Gy (.bool ((oB.2.2 != (0:Int)))) rfl rfl rfl rfl ?_;refine Zn (.bool ((oB.2.2 != (0:Int)))) rfl rfl ?_;rcases Zt h with ⟨cK,h⟩ | ⟨cK,h⟩
        ·refine Ga rfl rfl cK rfl rfl ?_
         refine Ga rfl rfl cK rfl rfl ?_;refine Zy (.bool true) (Zl (b:=(oB.2.2 != (0:Int))) rfl (Qt cK rfl)) rfl ?_;refine By 12 rfl ?_;refine Zb ?_;obtain rfl:=sinj h;exact hQ _ _ ⟨tO,hfr,jJ,oE,bK,iE,lL,vE,xE,sG,aE,yE,mL,rfl,tH,rfl⟩
        ·refine Zz (.int .i64 (g8.2.2.2)) (Zk rfl) rfl rfl cK rfl ?_
         refine Zz (.bool ((g8.2.2.2 != (0:Int)))) (Td rfl rfl rfl) rfl rfl cK rfl ?_;refine Zy (.bool ((g8.2.2.2 != (0:Int)))) (Zl (b:=(oB.2.2 != (0:Int))) rfl (Qk cK rfl)) rfl ?_;refine Zn (.bool ((g8.2.2.2 != (0:Int)))) rfl rfl ?_;rcases Zt h with ⟨nH,h⟩ | ⟨nH,h⟩
         ·refine Ga rfl rfl nH rfl rfl ?_
          refine Ga rfl rfl nH rfl rfl ?_;refine Ga rfl rfl nH rfl rfl ?_;refine Zy (.bool true) (Zl (b:=(g8.2.2.2 != (0:Int))) rfl (Qt nH rfl)) rfl ?_;refine By 7 rfl ?_;refine Zb ?_;obtain rfl:=sinj h;exact hQ _ _ ⟨tO,hfr,jJ,oE,bK,iE,lL,vE,xE,sG,aE,yE,mL,rfl,tH,rfl⟩
         ·refine Zz (.int .i64 (oB.2.1)) (Zk rfl) rfl rfl nH rfl ?_
          refine Zz (.int .i64 (g8.2.1)) (Zk rfl) rfl rfl nH rfl ?_;refine Zz (.bool ((oB.2.1 != g8.2.1))) (Td rfl rfl rfl) rfl rfl nH rfl ?_;refine Zy (.bool ((oB.2.1 != g8.2.1))) (Zl (b:=(g8.2.2.2 != (0:Int))) rfl (Qk nH rfl)) rfl ?_;refine Zn (.bool ((oB.2.1 != g8.2.1))) rfl rfl ?_;rcases Zt h with ⟨eG,h⟩ | ⟨eG,h⟩
          ·refine Ga rfl rfl eG rfl rfl ?_
           iterate 4 refine Ga rfl rfl eG rfl rfl ?_
           refine Zy (.bool true) (Zl (b:=(oB.2.1 != g8.2.1)) rfl (Qt eG rfl)) rfl ?_;refine Zb ?_;obtain rfl:=sinj h;exact hQ _ _ ⟨tO,hfr,jJ,oE,bK,iE,lL,vE,xE,sG,aE,yE,mL,rfl,tH,rfl⟩
          ·refine Zz yD (Zk rfl) rfl rfl eG rfl ?_
           refine Zz (.int .i64 ((oB.1).length:Int)) (Qm Try.underlying22 rfl tH) rfl rfl eG rfl ?_;refine Zz vB (Zk sG) rfl rfl eG rfl ?_;refine Zz (.int .i64 ((n9).length:Int)) (Qm Try.underlying42 rfl aE) rfl rfl eG rfl ?_;refine Zz (.bool ((((oB.1).length:Int) != ((n9).length:Int)))) (Td rfl rfl rfl) rfl rfl eG rfl ?_;refine Zy (.bool ((((oB.1).length:Int) != ((n9).length:Int)))) (Zl (b:=(oB.2.1 != g8.2.1)) rfl (Qk eG rfl)) rfl ?_;refine Zb ?_;obtain rfl:=sinj h;exact hQ _ _ ⟨tO,hfr,jJ,oE,bK,iE,lL,vE,xE,sG,aE,yE,mL,rfl,tH,rfl⟩
       ·clear hx
        obtain ⟨t0E,hfr,s08,t08,y01,z01,a02,b02,c02,d02,e02,g02,h02,i02,j02,eO⟩:=hR;rcases Zt h with ⟨vR,h⟩ | ⟨vR,h⟩
        ·refine Ts (Eq.trans (show ev _ _ = .bool (iI) from eO) (congrArg Value.bool vR)) ?_
         refine Zf (Za (Zg (.bool false) rfl rfl ?_));refine Zb (Zd (Gz (Tq ?_)));obtain rfl:=sinj h;exact Kb rfl rfl (show _=.bool false from rfl) ⟨_,hfr,rfl⟩
        ·refine Tj (Eq.trans (show ev _ _ = .bool (iI) from eO) (congrArg Value.bool vR)) ?_
         exact Zu (Zd (l0B () _ _ ⟨t0E,hfr,s08,t08,y01,z01,a02,b02,c02,d02,e02,g02,h02,i02,j02⟩ h))
      ·rintro _ o0J j0M ⟨u0E, hfr, u08, v08, k02, l02, m02, n02, o02, p02, q02, r02, s02, t02, u02⟩ h
       refine Zq h (fun (s:Unit) e w=>∃ (g:Gh) ,Fr gI wI g w∧e 5=p6∧OB 2005 g w 25 (y5:BoxLoom) p6∧e 11=o0∧RV g.m w (l5:List (List Int)) o0∧OS 3057 g w 22 (l5:List (List Int)) o0∧e 17=.int .i64 (i6.2.1)) (fun X1439 c04 m0B h=>?_) ?_
       ·refine Zf (Za (Zg (.int .i64 (0)) rfl rfl ?_))
        refine Zb (Zd (Zr ?_));refine Jv h (fun (s:Int) e w=>∃ (g:Gh) ,Fr gI wI g w∧e 5=p6∧OB 2005 g w 25 (y5:BoxLoom) p6∧e 10=(Wd l8 (Int.toNat 0) (Int.toNat (w64 (((n8).length:Int) - ((t5).length:Int)))) 1)∧RV g.m w (y165:List Int) (Wd l8 (Int.toNat 0) (Int.toNat (w64 (((n8).length:Int) - ((t5).length:Int)))) 1)∧e 11=o0∧RV g.m w (l5:List (List Int)) o0∧OS 3057 g w 22 (l5:List (List Int)) o0∧e 12=vB∧RV g.m w (n9:List (List Int)) vB∧OS 3058 g w 22 (n9:List (List Int)) vB∧e 17=.int .i64 (i6.2.1)∧e 32=yD∧RV g.m w (oB.1:List Int) yD∧e 39=.int .i64 (s)) ⟨u0E,hfr,u08,v08,k02,l02,m02,n02,o02,p02,q02,r02,s02,t02,u02,rfl⟩ (fun X1440 d04 n0B=>?_);rintro vC p0J k0M ⟨j05,hfr,pU,qU,v02,x02,xR,yR,zR,aS,bS,y02,cS,z02,a03,dS⟩ h;refine Zq h (fun (s:Unit) e w=>∃ (g:Gh) ,Fr gI wI g w∧e 5=p6∧OB 2005 g w 25 (y5:BoxLoom) p6∧e 10=(Wd l8 (Int.toNat 0) (Int.toNat (w64 (((n8).length:Int) - ((t5).length:Int)))) 1)∧RV g.m w (y165:List Int) (Wd l8 (Int.toNat 0) (Int.toNat (w64 (((n8).length:Int) - ((t5).length:Int)))) 1)∧e 11=o0∧RV g.m w (l5:List (List Int)) o0∧OS 3057 g w 22 (l5:List (List Int)) o0∧e 12=vB∧RV g.m w (n9:List (List Int)) vB∧OS 3058 g w 22 (n9:List (List Int)) vB∧e 17=.int .i64 (i6.2.1)∧e 32=yD∧RV g.m w (oB.1:List Int) yD∧e 39=.int .i64 (vC)) (fun X1443 g04 o0B h=>?_) ?_
        ·refine Zf (Za (Zo dS rfl ?_))
         refine Zo aS rfl ?_;refine Zy (.int .i64 ((n9).length:Int)) (Qm Try.underlying42 rfl bS) rfl ?_;refine Gy (.bool ((decide (vC < ((n9).length:Int))))) rfl rfl rfl rfl ?_;refine Zb (Zd ?_);rcases Zt h with ⟨eS,h⟩ | ⟨eS,h⟩
         ·refine Wi eS rfl ?_
          exact Zu (Zd (o0B () _ _ ⟨j05,hfr,pU,qU,v02,x02,xR,yR,zR,aS,bS,y02,cS,z02,a03,dS⟩ h))
         ·refine Wg eS rfl ?_
          refine Wb ?_;refine Tx ?_;refine Tx ?_;refine Qh ?_;exact Zd (m0B () _ _ ⟨j05,hfr,pU,qU,xR,yR,zR,cS⟩ h)
        ·rintro _ q0J l0M ⟨v0E, hfr, x08, zN, gS, dK, b03, bN, cN, c03, dN, eN, d03, iS, lK, gN⟩ h
         refine Zq h (fun (s:Unit) e w=>∃ (g:Gh) ,Fr gI wI g w∧e 5=p6∧OB 2005 g w 25 (y5:BoxLoom) p6∧e 10=(Wd l8 (Int.toNat 0) (Int.toNat (w64 (((n8).length:Int) - ((t5).length:Int)))) 1)∧RV g.m w (y165:List Int) (Wd l8 (Int.toNat 0) (Int.toNat (w64 (((n8).length:Int) - ((t5).length:Int)))) 1)∧e 11=o0∧RV g.m w (l5:List (List Int)) o0∧OS 3057 g w 22 (l5:List (List Int)) o0∧e 12=vB∧RV g.m w (n9:List (List Int)) vB∧OS 3058 g w 22 (n9:List (List Int)) vB∧e 17=.int .i64 (i6.2.1)∧e 32=yD∧RV g.m w (oB.1:List Int) yD∧e 39=.int .i64 (vC)) (fun X1470 e04 p0B h=>?_) ?_
         ·refine Zr ?_
          refine Zf ?_;obtain ⟨lO,dX,h⟩:=Gc h;have x0E:=Tp lK dX;refine Zs (x:=.tmp 274) Try.isAgg3 Try.sizeOf3 x0E fun m0M y0E q0B=>?_;obtain rfl:=Zj.1 y0E;obtain ⟨mO,eX,h⟩:=Gc h;have z0E:=Tp dK eX;refine Zs (x:=.tmp 278) Try.isAgg3 Try.sizeOf3 z0E fun n0M a0F r0B=>?_;obtain rfl:=Zj.1 a0F;refine Qi (g:=v0E) (n:=9) [] [0,1,2,3,4,5,6,7,8] rfl mixed (by kernel_rfl) trivial ?_;refine Gb yD rfl rfl (Zk iS) ?_;refine Gb (.int .i64 (vC)) rfl rfl (Zk gN) ?_;refine Gb (Qu yD vC 1) rfl rfl (Zh (α:=Int) Try.underlying22 Try.sizeOf3 rfl lK rfl dX) ?_;refine Te (c:=.int .i64 (lO)) rfl rfl .plain (fun _ _ h=>h.ch) q0B rfl ?_;refine Gb ((Wd l8 (Int.toNat 0) (Int.toNat (w64 (((n8).length:Int) - ((t5).length:Int)))) 1)) rfl rfl (Zk gS) ?_;refine Gb (.int .i64 (vC)) rfl rfl (Zk gN) ?_;refine Gb (Qu ((Wd l8 (Int.toNat 0) (Int.toNat (w64 (((n8).length:Int) - ((t5).length:Int)))) 1)) vC 1) rfl rfl (Zh (α:=Int) Try.underlying22 Try.sizeOf3 rfl dK rfl eX) ?_;refine Te (c:=.int .i64 (mO)) rfl rfl .plain (fun _ _ h=>h.ch) r0B rfl ?_;refine Gb (.bool ((lO != mO))) rfl rfl (Td rfl rfl rfl) ?_;refine Ul fun b0F o0M hs=>?_;have hfr:=hfr.ext hs;have zN:=zN.ext hs;have dK:=dK.ext hs;have bN:=bN.ext hs;have cN:=cN.ext hs;have dN:=dN.ext hs;have eN:=eN.ext hs;have lK:=lK.ext hs;clear hs;refine Zb (Zd ?_);rcases Zt h with ⟨jS,h⟩ | ⟨jS,h⟩
          ·refine Wi jS rfl ?_
           refine Zf (Za (Zg (.bool false) rfl rfl ?_));refine Zb (Zd (Gz (Wf ?_)));refine Tq ?_;refine Tq ?_;refine Wf ?_;refine Tq ?_;obtain rfl:=sinj h;exact Kb rfl rfl (show _=.bool false from rfl) ⟨_,hfr,rfl⟩
          ·refine Wg jS rfl ?_
           exact Zu (We (Zd (p0B () _ _ ⟨b0F,hfr,x08,zN,gS,dK,b03,bN,cN,c03,dN,eN,d03,iS,lK,gN⟩ h)))
         ·rintro _ r0J p0M ⟨c0F, hfr, y08, z08, e03, g03, h03, i03, j03, k03, l03, m03, n03, o03, p03, q03⟩ h
          refine Za (Zo q03 rfl ?_);refine Gy (.int .i64 ((w64 (vC + (1:Int))))) rfl rfl rfl rfl ?_;refine Zg (.int .i64 ((w64 (vC + (1:Int))))) rfl rfl ?_;exact Zb (Zd (n0B ((w64 (vC + (1:Int)))) _ _ ⟨c0F,hfr,y08,z08,e03,g03,h03,i03,j03,k03,l03,m03,n03,o03,p03,rfl⟩ h))
       ·rintro _ s0J q0M ⟨k05, hfr, rU, kJ, uH, lE, xH, lS⟩ h
        refine Zq h (fun (s:Unit) e w=>∃ (g:Gh) ,Fr gI wI g w) (fun X2417 uU mS h=>?_) ?_
        ·obtain ⟨dI, hx, h⟩ := Gc h
         refine Tm (fun e w=>∃ (g:Gh) ,Fr gI wI g w∧e 5=p6∧OB 2005 g w 25 (y5:BoxLoom) p6∧e 11=o0∧RV g.m w (l5:List (List Int)) o0∧OS 3057 g w 22 (l5:List (List Int)) o0∧e 17=.int .i64 (i6.2.1)∧e 295=.bool (dI)) (fun Q' hQ=>?_) (fun t0J d0F hR=>?_)
         ·replace h := hx
          clear hx;rcases Zt h with ⟨uE,h⟩ | ⟨uE,h⟩
          ·obtain ⟨dM, gX, h⟩ := Gc h
           have e0F:=Tp lE gX;refine Zs (x:=.tmp 286) Try.isAgg22 Try.sizeOf22 e0F fun g0F h0F s0B=>?_;obtain ⟨eM,iX,h⟩:=Gc h;have i0F:=Tp lE iX;refine Zs (x:=.tmp 290) Try.isAgg22 Try.sizeOf22 i0F fun j0F k0F t0B=>?_;refine Qi (g:=k05) (n:=15) [] [0,1,2,3,4,5,6,7,8,9,10,11,12,13,14] rfl mixed (by kernel_rfl) trivial ?_;refine Gb o0 rfl rfl (Zk uH) ?_;refine Gb (.int .i64 ((l5).length:Int)) rfl rfl (Qm Try.underlying42 rfl lE) ?_;refine Gb (.bool ((decide (((l5).length:Int) > (1:Int))))) rfl rfl (Td rfl rfl rfl) ?_;refine Gb (.bool ((decide (((l5).length:Int) > (1:Int))))) rfl rfl (Zk rfl) ?_;refine L_y o0 rfl rfl rfl rfl uE (Zk uH) ?_;refine L_y (Qu o0 (0:Int) 1) rfl rfl rfl rfl uE (Zh (α:=List Int) Try.underlying42 Try.sizeOf22 rfl lE rfl gX) ?_;refine Te (c:=g0F) rfl rfl (.yes2 rfl rfl uE) (fun _ _ h=>h.ch) s0B rfl ?_;refine L_y (.int .i64 ((dM).length:Int)) rfl rfl rfl rfl uE (Qm Try.underlying22 rfl h0F) ?_;refine L_y o0 rfl rfl rfl rfl uE (Zk uH) ?_;refine L_y (Qu o0 (1:Int) 1) rfl rfl rfl rfl uE (Zh (α:=List Int) Try.underlying42 Try.sizeOf22 rfl lE rfl iX) ?_;refine Te (c:=j0F) rfl rfl (.yes2 rfl rfl uE) (fun _ _ h=>h.ch) t0B rfl ?_;refine L_y (.int .i64 ((eM).length:Int)) rfl rfl rfl rfl uE (Qm Try.underlying22 rfl k0F) ?_;refine L_y (.int .i64 ((w64 (((dM).length:Int) + ((eM).length:Int))))) rfl rfl rfl rfl uE (Td rfl rfl rfl) ?_;refine L_y (.bool ((decide ((w64 (((dM).length:Int) + ((eM).length:Int))) ≤ (3:Int))))) rfl rfl rfl rfl uE (Td rfl rfl rfl) ?_;refine Gb (.bool ((decide ((w64 (((dM).length:Int) + ((eM).length:Int))) ≤ (3:Int))))) rfl rfl (Zl (b:=(decide (((l5).length:Int) > (1:Int)))) rfl (Qt uE rfl)) ?_;refine Ul fun l0F r0M hs=>?_;have hfr:=hfr.ext hs;have kJ:=kJ.ext hs;have lE:=lE.ext hs;have xH:=xH.ext hs;clear hs;refine Zb ?_;obtain rfl:=sinj h;exact hQ _ _ ⟨l0F,hfr,rU,kJ,uH,lE,xH,lS,rfl⟩
          ·refine Qi (g := k05) (n := 15) [] [0, 1, 2, 3, 4, 5, 6, 7, 8, 9, 10, 11, 12, 13, 14] rfl mixed (by kernel_rfl) trivial ?_
           refine Gb o0 rfl rfl (Zk uH) ?_;refine Gb (.int .i64 ((l5).length:Int)) rfl rfl (Qm Try.underlying42 rfl lE) ?_;refine Gb (.bool ((decide (((l5).length:Int) > (1:Int))))) rfl rfl (Td rfl rfl rfl) ?_;refine Gb (.bool ((decide (((l5).length:Int) > (1:Int))))) rfl rfl (Zk rfl) ?_;iterate 10 refine L_s rfl rfl rfl uE rfl ?_
           refine Gb (.bool false) rfl rfl (Zl (b:=(decide (((l5).length:Int) > (1:Int)))) rfl (Qk uE rfl)) ?_;refine Ul fun m0F s0M hs=>?_;have hfr:=hfr.ext hs;have kJ:=kJ.ext hs;have lE:=lE.ext hs;have xH:=xH.ext hs;clear hs;refine Zb ?_;obtain rfl:=sinj h;exact hQ _ _ ⟨m0F,hfr,rU,kJ,uH,lE,xH,lS,rfl⟩
         ·clear hx
          obtain ⟨mV,hfr,sU,yB,iN,vF,y0H,nS,gO⟩:=hR;rcases Zt h with ⟨oS,h⟩ | ⟨oS,h⟩
          ·refine Ts (Eq.trans (show ev _ _ = .bool (dI) from gO) (congrArg Value.bool oS)) ?_
           refine Zf ?_;obtain ⟨x03,jX,h⟩:=Gc h;have nV:=Tp vF jX;refine Zs (x:=.tmp 297) Try.isAgg22 Try.sizeOf22 nV fun l05 oV u0B=>?_;obtain ⟨y03,v0B,h⟩:=Gc h;obtain ⟨z03,kX,h⟩:=Gc h;have pV:=Tp vF kX;refine Zs (x:=.tmp 301) Try.isAgg22 Try.sizeOf22 pV fun n0F mN x0B=>?_;obtain ⟨kO,y0B,h⟩:=Gc h;obtain ⟨a04,lX,h⟩:=Gc h;have aI:=Ry vF lX;obtain ⟨b04,mX,h⟩:=Gc h;refine E_drawT_ (g:=mV) (w:=d0F) (n:=12) [0,1,2,4,5,6,9,10] [] [] [] 11 (.step 0 (.step 1 (.step 2 (.step 4 (.step 5 (.step 6 (.step 9 (.step 10 (.step 3 (.step 7 (.alt 8 (.step 11 .done) (.alt 11 (.step 8 .done) .stop)))))))))))) mixed (by kernel_rfl) rfl fun w_c2530 hs hlt=>?_;have hfr:=hfr.ext hs;have yB:=yB.ext hs;have vF:=vF.ext hs;clear hs;refine Rt (c:=o0) rfl rfl .plain (Zk iN) ?_;refine Rt (c:=Qu o0 (0:Int) 1) rfl rfl .plain (Zh (α:=List Int) Try.underlying42 Try.sizeOf22 rfl vF rfl jX) ?_;have nV:=nV.ch hlt.1;refine CT_ldP (c:=l05) rfl rfl .plain u0B rfl ?_;have oV:=oV.ch hlt.1;refine Rt (c:=o0) rfl rfl .plain (Zk iN) ?_;refine Rt (c:=Qu o0 (1:Int) 1) rfl rfl .plain (Zh (α:=List Int) Try.underlying42 Try.sizeOf22 rfl vF rfl kX) ?_;have pV:=pV.ch hlt.1;refine CT_ldP (c:=n0F) rfl rfl .plain x0B rfl ?_;have mN:=mN.ch hlt.1;refine Rt (c:=o0) rfl rfl .plain (Zk iN) ?_;refine Rt (c:=(Wd o0 (Int.toNat (2:Int)) (Int.toNat ((l5).length:Int)) 1)) rfl rfl .plain (Bc Try.underlying42 Try.sizeOf22 rfl vF rfl rfl lX) ?_;have aI:=aI.ch hlt.1;refine Pt [] rfl rfl rfl .plain (Ux (g:=mV) (vs:=[l05]) en16 (.cons rfl .nil) (u16 (iO:=4299) oV v0B) fun o0F t0M u0M hs m2727=>?_);obtain ⟨o2727,p0F⟩:=m2727;have hfr:=hfr.ext hs;have hlt:=hlt.ext hs;have yB:=yB.ext hs;have mN:=mN.ext hs;have aI:=aI.ext hs;refine ⟨hlt.toW,?_⟩;refine Pt [] rfl rfl rfl .plain (Ke (g:=o0F) (i:=4299) Try.underlying22 Jo rfl rfl o2727 p0F rfl mN y0B fun m05 v0M n05 hs o2967 uO _=>?_);have hfr:=hfr.stp hs;have hlt:=hlt.stp hs;have yB:=yB.stp hs rfl;have aI:=aI.stp hs;refine ⟨hlt.toW,?_⟩;refine CT_alt ?_ (CT_alt ?_ CT_stop)
           ·refine Pt [] rfl rfl rfl .plain (Gm (g := m05) 3304 (xs := ([kO] : List (List Int))) (vs := [n05]) Try.underlying42 Try.sizeOf22 Try.zeroValue22 rfl rfl (.cons rfl .nil) (RVs.cons uO RVs.nil) rfl rfl fun qV q0F r0F hs o3027 nN hxt hfl => ?_)
            have hfr:=hfr.stp hs;have hlt:=hlt.stp hs;have yB:=yB.stp hs rfl;have aI:=aI.stp hs;refine ⟨hlt.toW,?_⟩;refine Pt [] rfl rfl rfl .plain (Zp (g:=qV) (vs:=[(Wd o0 (Int.toNat (2:Int)) (Int.toNat ((l5).length:Int)) 1)]) en24 (.cons rfl .nil) (wk24 aI mX) fun rV z0B s0F hs hr=>?_);have hfr:=hfr.ext hs;have hlt:=hlt.ext hs;have yB:=yB.ext hs;have nN:=nN.ext hs;have o3027:=o3027.ext hs;have oN:=hr;refine ⟨hlt.toW,?_⟩;refine CT_nil ?_;clear hlt;obtain ⟨vU,pS,h⟩:=Gc h;refine Ze .plain rfl (Ke (g:=rV) (i:=3304) Try.underlying42 Dz rfl rfl o3027 nN rfl oN pS fun pN t0F nL hs o3327 oL _=>?_);have hfr:=hfr.stp hs;have yB:=yB.stp hs rfl;refine Zg nL rfl rfl ?_;refine Zb (Zd (Zf (Za (Ze .plain rfl (Tr (g:=pN) Try.isAgg25 Try.sizeOf25 sU yB fun sV tV=>?_)))));obtain ⟨xU,qS,h⟩:=Gc h;refine Ze .plain rfl (Zp (g:=pN) (vs:=[sV]) en15 (.cons rfl .nil) (wk15 tV qS) fun uV a0C vV hs hr=>?_);have hfr:=hfr.ext hs;have oL:=oL.ext hs;have xV:=hr;refine Zn nL rfl rfl ?_;obtain ⟨mB,rS,h⟩:=Gc h;refine Ze .plain rfl (Zp (g:=uV) (vs:=[vV,nL]) en25 (.cons rfl (.cons rfl .nil)) (wk25 xV oL rS) fun qN b0C u0F hs hr=>?_);have hfr:=hfr.ext hs;obtain ⟨yH,a09,b09,rfl,c09,rfl,rfl⟩:=hr;refine Zn (.tuple #[yH,.int .i64 (mB.2.1),.int .i64 (mB.2.2)]) rfl rfl ?_;refine Zy yH (Zi rfl rfl) rfl ?_;refine Zy (.int .i64 (mB.2.1)) (Zi rfl rfl) rfl ?_;refine Zy (.int .i64 (mB.2.2)) (Zi rfl rfl) rfl ?_;refine Zg yH rfl rfl ?_;refine Zg (.int .i64 (mB.2.1)) rfl rfl ?_;refine Zg (.int .i64 (mB.2.2)) rfl rfl ?_;refine Zb (Zd ?_);obtain ⟨rE,hx,h⟩:=Gc h;refine Tm (fun e w=>∃ (g:Gh) ,Fr gI wI g w∧e 323=.bool (rE)) (fun Q' hQ=>?_) (fun c0C v0F hR=>?_)
            ·replace h := hx
             clear hx;refine Za (Zn (.int .i64 (mB.2.2)) rfl rfl ?_);refine Gy (.bool ((mB.2.2 != (0:Int)))) rfl rfl rfl rfl ?_;refine Zn (.bool ((mB.2.2 != (0:Int)))) rfl rfl ?_;rcases Zt h with ⟨oD,h⟩ | ⟨oD,h⟩
             ·refine Ga rfl rfl oD rfl rfl ?_
              refine Ga rfl rfl oD rfl rfl ?_;refine Ga rfl rfl oD rfl rfl ?_;refine Zy (.bool true) (Zl (b:=(mB.2.2 != (0:Int))) rfl (Qt oD rfl)) rfl ?_;refine Zb ?_;obtain rfl:=sinj h;exact hQ _ _ ⟨qN,hfr,rfl⟩
             ·refine Zz (.int .i64 (mB.2.1)) (Zk rfl) rfl rfl oD rfl ?_
              refine Zz (.int .i64 (i6.2.1)) (Zk nS) rfl rfl oD rfl ?_;refine Zz (.bool ((decide (mB.2.1 > i6.2.1)))) (Td rfl rfl rfl) rfl rfl oD rfl ?_;refine Zy (.bool ((decide (mB.2.1 > i6.2.1)))) (Zl (b:=(mB.2.2 != (0:Int))) rfl (Qk oD rfl)) rfl ?_;refine Zb ?_;obtain rfl:=sinj h;exact hQ _ _ ⟨qN,hfr,rfl⟩
            ·clear hx
             obtain ⟨yV,hfr,kI⟩:=hR;rcases Zt h with ⟨mK,h⟩ | ⟨mK,h⟩
             ·refine Ts (Eq.trans (show ev _ _ = .bool (rE) from kI) (congrArg Value.bool mK)) ?_
              refine Zf (Za (Zg (.bool false) rfl rfl ?_));refine Zb (Zd (Gz (Tq ?_)));obtain rfl:=sinj h;exact Kb rfl rfl (show _=.bool false from rfl) ⟨_,hfr,rfl⟩
             ·refine Tj (Eq.trans (show ev _ _ = .bool (rE) from kI) (congrArg Value.bool mK)) ?_
              exact Zu (Zd (mS () _ _ ⟨yV,hfr⟩ h))
           ·refine Pt [] rfl rfl rfl .plain (Zp (g := m05) (vs := [(Wd o0 (Int.toNat (2 : Int)) (Int.toNat ((l5).length : Int)) 1)]) en24 (.cons rfl .nil) (wk24 aI mX) fun rV z0B s0F hs hr => ?_)
            have hfr:=hfr.ext hs;have hlt:=hlt.ext hs;have yB:=yB.ext hs;have uO:=uO.ext hs;have oN:=hr;refine ⟨hlt.toW,?_⟩;refine Pt [] rfl rfl rfl .plain (Gm (g:=rV) 3304 (xs:=([kO]:List (List Int))) (vs:=[n05]) Try.underlying42 Try.sizeOf22 Try.zeroValue22 rfl rfl (.cons rfl .nil) (RVs.cons uO RVs.nil) rfl rfl fun qV q0F r0F hs o3027 nN hxt hfl=>?_);have hfr:=hfr.stp hs;have hlt:=hlt.stp hs;have yB:=yB.stp hs rfl;have oN:=oN.stp hs;refine ⟨hlt.toW,?_⟩;refine CT_nil ?_;clear hlt;obtain ⟨vU,pS,h⟩:=Gc h;refine Ze .plain rfl (Ke (g:=qV) (i:=3304) Try.underlying42 Dz rfl rfl o3027 nN rfl oN pS fun pN t0F nL hs o3327 oL _=>?_);have hfr:=hfr.stp hs;have yB:=yB.stp hs rfl;refine Zg nL rfl rfl ?_;refine Zb (Zd (Zf (Za (Ze .plain rfl (Tr (g:=pN) Try.isAgg25 Try.sizeOf25 sU yB fun sV tV=>?_)))));obtain ⟨xU,qS,h⟩:=Gc h;refine Ze .plain rfl (Zp (g:=pN) (vs:=[sV]) en15 (.cons rfl .nil) (wk15 tV qS) fun uV a0C vV hs hr=>?_);have hfr:=hfr.ext hs;have oL:=oL.ext hs;have xV:=hr;refine Zn nL rfl rfl ?_;obtain ⟨mB,rS,h⟩:=Gc h;refine Ze .plain rfl (Zp (g:=uV) (vs:=[vV,nL]) en25 (.cons rfl (.cons rfl .nil)) (wk25 xV oL rS) fun qN b0C u0F hs hr=>?_);have hfr:=hfr.ext hs;obtain ⟨yH,a09,b09,rfl,c09,rfl,rfl⟩:=hr;refine Zn (.tuple #[yH,.int .i64 (mB.2.1),.int .i64 (mB.2.2)]) rfl rfl ?_;refine Zy yH (Zi rfl rfl) rfl ?_;refine Zy (.int .i64 (mB.2.1)) (Zi rfl rfl) rfl ?_;refine Zy (.int .i64 (mB.2.2)) (Zi rfl rfl) rfl ?_;refine Zg yH rfl rfl ?_;refine Zg (.int .i64 (mB.2.1)) rfl rfl ?_;refine Zg (.int .i64 (mB.2.2)) rfl rfl ?_;refine Zb (Zd ?_);obtain ⟨rE,hx,h⟩:=Gc h;refine Tm (fun e w=>∃ (g:Gh) ,Fr gI wI g w∧e 323=.bool (rE)) (fun Q' hQ=>?_) (fun c0C v0F hR=>?_)
            ·replace h := hx
             clear hx;refine Za (Zn (.int .i64 (mB.2.2)) rfl rfl ?_);refine Gy (.bool ((mB.2.2 != (0:Int)))) rfl rfl rfl rfl ?_;refine Zn (.bool ((mB.2.2 != (0:Int)))) rfl rfl ?_;rcases Zt h with ⟨oD,h⟩ | ⟨oD,h⟩
             ·refine Ga rfl rfl oD rfl rfl ?_
              refine Ga rfl rfl oD rfl rfl ?_;refine Ga rfl rfl oD rfl rfl ?_;refine Zy (.bool true) (Zl (b:=(mB.2.2 != (0:Int))) rfl (Qt oD rfl)) rfl ?_;refine Zb ?_;obtain rfl:=sinj h;exact hQ _ _ ⟨qN,hfr,rfl⟩
             ·refine Zz (.int .i64 (mB.2.1)) (Zk rfl) rfl rfl oD rfl ?_
              refine Zz (.int .i64 (i6.2.1)) (Zk nS) rfl rfl oD rfl ?_;refine Zz (.bool ((decide (mB.2.1 > i6.2.1)))) (Td rfl rfl rfl) rfl rfl oD rfl ?_;refine Zy (.bool ((decide (mB.2.1 > i6.2.1)))) (Zl (b:=(mB.2.2 != (0:Int))) rfl (Qk oD rfl)) rfl ?_;refine Zb ?_;obtain rfl:=sinj h;exact hQ _ _ ⟨qN,hfr,rfl⟩
            ·clear hx
             obtain ⟨yV,hfr,kI⟩:=hR;rcases Zt h with ⟨mK,h⟩ | ⟨mK,h⟩
             ·refine Ts (Eq.trans (show ev _ _ = .bool (rE) from kI) (congrArg Value.bool mK)) ?_
              refine Zf (Za (Zg (.bool false) rfl rfl ?_));refine Zb (Zd (Gz (Tq ?_)));obtain rfl:=sinj h;exact Kb rfl rfl (show _=.bool false from rfl) ⟨_,hfr,rfl⟩
             ·refine Tj (Eq.trans (show ev _ _ = .bool (rE) from kI) (congrArg Value.bool mK)) ?_
              exact Zu (Zd (mS () _ _ ⟨yV,hfr⟩ h))
          ·refine Tj (Eq.trans (show ev _ _ = .bool (dI) from gO) (congrArg Value.bool oS)) ?_
           exact Zu (Zd (mS () _ _ ⟨mV,hfr⟩ h))
        ·rintro _ u0J x0M ⟨x0F, hfr⟩ h
         refine Zf (Za ?_);obtain ⟨jO,d0C,h⟩:=Gc h;refine Ze .plain rfl (Zp (g:=x0F) (vs:=[]) en14 .nil (wk14  d0C) fun y0M v0J z0M hs hr=>?_);have hfr:=hfr.ext hs;subst hr;refine Zg (.bool (jO)) rfl rfl ?_;refine Zb (Zd (Gz ?_));obtain rfl:=sinj h;exact Kb rfl rfl (show _=.bool (jO) from rfl) ⟨_,hfr,rfl⟩
end Go.Proofs.Ytmpjooneiaiffaa
