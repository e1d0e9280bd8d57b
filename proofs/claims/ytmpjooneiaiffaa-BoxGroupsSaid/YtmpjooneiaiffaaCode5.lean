import Derived.Test.YtmpjooneiaiffaaCode4
set_option maxRecDepth 8000
set_option maxHeartbeats 4000000
namespace Go.Proofs.Ytmpjooneiaiffaa
open Go.RowKit
noncomputable def f4 (x0:BoxLoom) (x1:List (List Int)):Option (Bool):=
 jn (σ:=Unit) (fun _=>
  jn (σ:=Int × Bool) (fun (bD,l8)=>
   jn (σ:=Unit) (fun _=>
    (f15 x0).bind fun jM=>
    (f24 x1).bind fun kM=>
    (f25 jM kM).bind fun o0=>
    jn (σ:=Unit) (fun _=>
     (f20 x0).bind fun uC=>
     Option.bind (α:=Int) (
      Option.bind (α:=Bool) (
       bif (uC == (0 : Int)) then
        some (l8)
       else
        some (false)
       ) fun cD=>
      bif cD then
       some ((5:Int))
      else
       some (uC)
      ) fun bG=>
     Option.bind (α:=Int) (
      lp (σ:=Int × Int) (fun uO (n9,i6)=>
       jn (σ:=Unit) (fun _=>
        Option.bind (α:=Int) (
         (idx x1 i6).bind fun vO=>
         (f21 vO).bind fun pM=>
         bif (!pM) then
          some ((2:Int))
         else
          some (n9)
         ) fun yE=>
        uO (yE,(w64 (i6 + (1:Int))))
        ) fun xO=>
       Option.bind (α:=Bool) (
        bif (decide (i6 < ((x1).length : Int))) then
         some ((n9 == (0:Int)))
        else
         some (false)
        ) fun zB=>
       bif zB then
        xO ()
       else
        some (n9)
       ) big (bG,(0:Int))
      ) fun vB=>
     jn (σ:=Int) (fun yB=>
      Option.bind (α:=Bool) (
       bif (o0.2.2 == yB) then
        bif (((o0.1).length : Int) == (0 : Int)) then
         bif (o0.2.1 == (0 : Int)) then
          (f14).bind fun mJ=>
          some (mJ)
         else
          some (false)
        else
         some (false)
       else
        some (false)
       ) fun eF=>
      some (eF)
      ) fun qM=>
     bif (vB == (0 : Int)) then
      (f27 x0 x1).bind fun v8=>
      jn (σ:=Unit) (fun _=>
       qM ((9:Int))
       ) fun yO=>
      bif v8.2.2 then
       Option.bind (α:=Bool) (
        bif (o0.2.2 == (0 : Int)) then
         (f19 (o0.1) (v8.1)).bind fun cG=>
         bif cG then
          bif (o0.2.1 == v8.2.1) then
           (f14).bind fun nJ=>
           some (nJ)
          else
           some (false)
         else
          some (false)
        else
         some (false)
        ) fun rF=>
       some (rF)
      else
       yO ()
     else
      qM (vB)
     ) fun zO=>
    Option.bind (α:=Bool) (
     (f18 jM x0).bind fun eG=>
     bif (!eG) then
      some (true)
     else
      (f26 kM x1).bind fun oJ=>
      some ((!oJ))
     ) fun lD=>
    bif lD then
     some (false)
    else
     zO ()
    ) fun aP=>
   Option.bind (α:=Bool) (
    bif (decide (bD > (4 : Int))) then
     some ((!l8))
    else
     some (false)
    ) fun nD=>
   bif nD then
    (f14).bind fun pJ=>
    some (pJ)
   else
    aP ()
   ) fun bP=>
  lp (σ:=Int × Bool × Int) (fun cP (g8,n8,s7_169)=>
   jn (σ:=Unit) (fun _=>
    jn (σ:=Int × Bool) (fun (sG,xG)=>
     cP (sG,xG,(w64 (s7_169 + (1:Int))))
     ) fun rM=>
    jn (σ:=Unit) (fun _=>
     (idx x1 s7_169).bind fun cC=>
     bif n8 then
      rM ((w64 (g8 + ((cC).length:Int))),true)
     else
      (idx x1 s7_169).bind fun dF=>
      rM ((w64 (g8 + ((cC).length:Int))),(decide (((dF).length:Int) > (3:Int))))
     ) fun dP=>
    (idx x1 s7_169).bind fun qJ=>
    bif (decide (((qJ).length : Int) > (12 : Int))) then
     (f14).bind fun rJ=>
     some (rJ)
    else
     dP ()
    ) fun eP=>
   bif (decide (s7_169 < ((x1).length : Int))) then
    eP ()
   else
    bP (g8,n8)
   ) big ((0:Int),(decide (((x1).length:Int) > (8:Int))),(0:Int))
  ) fun k14=>
 Option.bind (α:=Bool) (
  (f13 x0).bind fun pK=>
  bif pK then
   some (true)
  else
   some ((decide (((x1).length:Int) > (12:Int))))
  ) fun oE=>
 bif oE then
  (f14).bind fun eN=>
  some (eN)
 else
  k14 ()
theorem wk4 {gI:Gh} {wI:World} {x0:BoxLoom} {x1:List (List Int)} {up0:Value} (rp0:RV gI.m wI x0 up0) {up1:Value} (rp1:RV gI.m wI x1 up1) {r:Bool} (h:f4 x0 x1=some r):Fn Try.prog 4 #[up0,up1] gI wI (fun _ _ v=>v=.bool (r)):=by
 unfold f4 at h
 refine Tf Try.func4 rfl (Nat.le_of_ble_eq_true rfl) fun g0 hm hfr=>?_
 have rp0:RV g0.m wI x0 up0:=hm ▸ rp0
 have rp1:RV g0.m wI x1 up1:=hm ▸ rp1
 show E _ 149 none _ _ _ _ _
 refine Zf (Za (Ze .plain rfl (We (g:=g0) rfl rp0 fun g1 w1 p1 hs q1=>?_)))
 have hfr:=hfr.ext hs
 have rp1:=rp1.ext hs
 refine Zg (.bool false) rfl rfl ?_
 refine Zb (Zd (Zq h (fun (s:Unit) e w=>∃ (g:Gh) ,Fr gI wI g w∧e 1=up1∧RV g.m w (x1:List (List Int)) up1∧e 2=p1∧PT g.m w (x0:BoxLoom) p1) (fun X14 k14 pT h=>?_) ?_))
 ·obtain ⟨oE, hx, h⟩ := Gc h
  refine Th (fun e w=>∃ (g:Gh) ,Fr gI wI g w∧e 1=up1∧RV g.m w (x1:List (List Int)) up1∧e 2=p1∧PT g.m w (x0:BoxLoom) p1∧e 24=.bool (oE)) (fun Q' hQ=>?_) (fun gX oZ hR=>?_)
  ·replace h := hx
   clear hx
   refine Za (Ze .plain rfl (Gr (g:=g1) Try.isAgg25 Try.sizeOf25 rfl q1 fun jV kV=>?_))
   obtain ⟨pK,sT,h⟩:=Gc h
   refine Ze .plain rfl (Zp (g:=g1) (vs:=[jV]) en13 (.cons rfl .nil) (wk13 kV sT) fun nT iX pZ hs hr=>?_)
   have hfr:=hfr.ext hs
   have rp1:=rp1.ext hs
   have q1:=q1.ext hs
   subst hr
   refine Zn (.bool (pK)) rfl rfl ?_
   rcases Zt h with ⟨bE,h⟩ | ⟨bE,h⟩
   ·refine Ga rfl rfl bE rfl rfl ?_
    refine Ga rfl rfl bE rfl rfl ?_
    refine Ga rfl rfl bE rfl rfl ?_
    refine Zy (.bool true) (Zl (b:=pK) rfl (Tp bE rfl)) rfl ?_
    refine Zb ?_
    obtain rfl:=sinj h
    exact hQ _ _ ⟨nT,hfr,rfl,rp1,rfl,q1,rfl⟩
   ·refine Zz up1 (Zk rfl) rfl rfl bE rfl ?_
    refine Zz (.int .i64 ((x1).length:Int)) (Tw Try.underlying42 rfl rp1) rfl rfl bE rfl ?_
    refine Zz (.bool ((decide (((x1).length:Int) > (12:Int))))) (Td rfl rfl rfl) rfl rfl bE rfl ?_
    refine Zy (.bool ((decide (((x1).length:Int) > (12:Int))))) (Zl (b:=pK) rfl (Tl bE rfl)) rfl ?_
    refine Zb ?_
    obtain rfl:=sinj h
    exact hQ _ _ ⟨nT,hfr,rfl,rp1,rfl,q1,rfl⟩
  ·clear hx
   obtain ⟨oT,hfr,vR,xR,yR,zR,qK⟩:=hR
   rcases Zt h with ⟨sM,h⟩ | ⟨sM,h⟩
   ·refine To (Eq.trans (show ev _ _ = .bool (oE) from qK) (congrArg Value.bool sM)) ?_
    refine Zf (Za ?_)
    obtain ⟨eN,tT,h⟩:=Gc h
    refine Ze .plain rfl (Zp (g:=oT) (vs:=[]) en14 .nil (wk14  tT) fun qZ jX rZ hs hr=>?_)
    have hfr:=hfr.ext hs
    subst hr
    refine Zg (.bool (eN)) rfl rfl ?_
    refine Zb (Zd (Gw (Tc ?_)))
    obtain rfl:=sinj h
    exact Wb rfl rfl (show _=.bool (eN) from rfl) ⟨_,hfr,rfl⟩
   ·refine Tk (Eq.trans (show ev _ _ = .bool (oE) from qK) (congrArg Value.bool sM)) ?_
    exact Zu (Zd (pT () _ _ ⟨oT,hfr,vR,xR,yR,zR⟩ h))
 ·rintro _ kX sZ ⟨lV, hfr, gN, iN, aS, bS⟩ h
  refine Zf (Za (Zo gN rfl ?_))
  refine Zy (.int .i64 ((x1).length:Int)) (Tw Try.underlying42 rfl iN) rfl ?_
  refine Gu (.bool ((decide (((x1).length:Int) > (8:Int))))) rfl rfl rfl rfl ?_
  refine Zg (.int .i64 (0)) rfl rfl ?_
  refine Zg (.bool ((decide (((x1).length:Int) > (8:Int))))) rfl rfl ?_
  refine Zb (Zd (Zq h (fun (s:Int × Bool) e w=>∃ (g:Gh) ,Fr gI wI g w∧e 1=up1∧RV g.m w (x1:List (List Int)) up1∧e 2=p1∧PT g.m w (x0:BoxLoom) p1∧e 5=.int .i64 (s.1)∧e 6=.bool (s.2)) (fun X167 bP cS h=>?_) ?_))
  ·refine Zf (Za (Zg (.int .i64 (0)) rfl rfl ?_))
   refine Zb (Zd (Zr ?_))
   refine E_lp h (fun (s:Int × Bool × Int) e w=>∃ (g:Gh) ,Fr gI wI g w∧e 1=up1∧RV g.m w (x1:List (List Int)) up1∧e 2=p1∧PT g.m w (x0:BoxLoom) p1∧e 5=.int .i64 (s.1)∧e 6=.bool (s.2.1)∧e 7=.int .i64 (s.2.2)) ⟨lV,hfr,gN,iN,aS,bS,rfl,rfl,rfl⟩ (fun X168 cP dS=>?_)
   rintro ⟨g8,n8,s7_169⟩ tV lX ⟨gP,hfr,yG,zG,sK,tK,uK,vK,xK⟩ h
   refine Zq h (fun (s:Unit) e w=>∃ (g:Gh) ,Fr gI wI g w∧e 1=up1∧RV g.m w (x1:List (List Int)) up1∧e 2=p1∧PT g.m w (x0:BoxLoom) p1∧e 5=.int .i64 (g8)∧e 6=.bool (n8)∧e 7=.int .i64 (s7_169)) (fun X171 eP eS h=>?_) ?_
   ·refine Zf (Za (Zo xK rfl ?_))
    refine Zo yG rfl ?_
    refine Zy (.int .i64 ((x1).length:Int)) (Tw Try.underlying42 rfl zG) rfl ?_
    refine Gu (.bool ((decide (s7_169 < ((x1).length:Int))))) rfl rfl rfl rfl ?_
    refine Zb (Zd ?_)
    rcases Zt h with ⟨sJ,h⟩ | ⟨sJ,h⟩
    ·refine Qq sJ rfl ?_
     exact Zu (Zd (eS () _ _ ⟨gP,hfr,yG,zG,sK,tK,uK,vK,xK⟩ h))
    ·refine Qr sJ rfl ?_
     refine Qm ?_
     refine Tm ?_
     refine Tm ?_
     refine Tu ?_
     exact Zd (cS (g8,n8) _ _ ⟨gP,hfr,yG,zG,sK,tK,uK,vK⟩ h)
   ·rintro _ uV mX ⟨tM, hfr, yK, aH, iP, jP, kP, lP, zK⟩ h
    refine Zq h (fun (s:Int × Bool) e w=>∃ (g:Gh) ,Fr gI wI g w∧e 1=up1∧RV g.m w (x1:List (List Int)) up1∧e 2=p1∧PT g.m w (x0:BoxLoom) p1∧e 5=.int .i64 (s.1)∧e 6=.bool (s.2)∧e 7=.int .i64 (s7_169)) (fun X239 rM jN h=>?_) ?_
    ·refine Zr ?_
     refine Zq h (fun (s:Unit) e w=>∃ (g:Gh) ,Fr gI wI g w∧e 1=up1∧RV g.m w (x1:List (List Int)) up1∧e 2=p1∧PT g.m w (x0:BoxLoom) p1∧e 5=.int .i64 (g8)∧e 6=.bool (n8)∧e 7=.int .i64 (s7_169)) (fun X246 dP gS h=>?_) ?_
     ·refine Zf (Za (Zo yK rfl ?_))
      refine Zo zK rfl ?_
      obtain ⟨qJ,kN,h⟩:=Gc h
      refine Zy (Qc up1 s7_169 1) (Zh (α:=List Int) Try.underlying42 Try.sizeOf22 rfl aH rfl kN) rfl ?_
      have uT:=Tj aH kN
      refine Ze .plain rfl (Gr (g:=tM) Try.isAgg22 Try.sizeOf22 rfl uT fun nX xT=>?_)
      refine Zy (.int .i64 ((qJ).length:Int)) (Tw Try.underlying22 rfl xT) rfl ?_
      refine Gu (.bool ((decide (((qJ).length:Int) > (12:Int))))) rfl rfl rfl rfl ?_
      refine Zb (Zd ?_)
      rcases Zt h with ⟨vJ,h⟩ | ⟨vJ,h⟩
      ·refine Qq vJ rfl ?_
       refine Zf (Za ?_)
       obtain ⟨rJ,iS,h⟩:=Gc h
       refine Ze .plain rfl (Zp (g:=tM) (vs:=[]) en14 .nil (wk14  iS) fun oX vV pX hs hr=>?_)
       have hfr:=hfr.ext hs
       subst hr
       refine Zg (.bool (rJ)) rfl rfl ?_
       refine Zb (Zd (Gw (Tc ?_)))
       refine Qu ?_
       refine Tc ?_
       refine Tc ?_
       refine Qu ?_
       refine Tc ?_
       obtain rfl:=sinj h
       exact Wb rfl rfl (show _=.bool (rJ) from rfl) ⟨_,hfr,rfl⟩
      ·refine Qr vJ rfl ?_
       exact Zu (Zd (gS () _ _ ⟨tM,hfr,yK,aH,iP,jP,kP,lP,zK⟩ h))
     ·rintro _ xV qX ⟨mP, hfr, rE, l9, aL, oD, bL, dL, uE⟩ h
      obtain ⟨cC,xJ,h⟩:=Gc h
      have yT:=Tj l9 xJ
      refine Zs (x:=.tmp 45) Try.isAgg22 Try.sizeOf22 yT fun nP oP lN=>?_
      rcases Zt h with ⟨aB,h⟩ | ⟨aB,h⟩
      ·refine Tt (g := mP) (n := 18) [] [0, 1, 2, 3, 4, 5, 6, 7, 8, 9, 10, 11, 12, 13, 14, 15, 16, 17] rfl Qf (by kernel_rfl) trivial ?_
       refine Gb (.int .i64 (g8)) rfl rfl (Zk bL) ?_
       refine Gb up1 rfl rfl (Zk rE) ?_
       refine Gb (.int .i64 (s7_169)) rfl rfl (Zk uE) ?_
       refine Gb (Qc up1 s7_169 1) rfl rfl (Zh (α:=List Int) Try.underlying42 Try.sizeOf22 rfl l9 rfl xJ) ?_
       refine Gy (c:=nP) rfl rfl .plain (fun _ _ h=>h.ch) lN rfl ?_
       refine Gb (.int .i64 ((cC).length:Int)) rfl rfl (Tw Try.underlying22 rfl oP) ?_
       refine Gb (.int .i64 ((w64 (g8 + ((cC).length:Int))))) rfl rfl (Td rfl rfl rfl) ?_
       refine Gb (.bool (n8)) rfl rfl (Zk dL) ?_
       refine Gb (.bool (n8)) rfl rfl (Zk rfl) ?_
       iterate 6 refine L_s rfl rfl rfl aB rfl ?_
       refine Gb (.bool true) rfl rfl (Zl (b:=n8) rfl (Tp aB rfl)) ?_
       refine Gb (.int .i64 ((w64 (g8 + ((cC).length:Int))))) rfl rfl (Tg rfl) ?_
       refine Gb (.bool true) rfl rfl (Tg rfl) ?_
       refine L_nl fun zT rX hs=>?_
       have hfr:=hfr.ext hs
       have l9:=l9.ext hs
       have oD:=oD.ext hs
       clear hs
       exact Zb (Qn (Zd (jN ((w64 (g8 + ((cC).length:Int))),true) _ _ ⟨zT,hfr,rE,l9,aL,oD,rfl,rfl,uE⟩ h)))
      ·obtain ⟨dF, mN, h⟩ := Gc h
       have aU:=Tj l9 mN
       refine Zs (x:=.tmp 53) Try.isAgg22 Try.sizeOf22 aU fun bU cU jS=>?_
       refine Tt (g:=mP) (n:=18) [] [0,1,2,3,4,5,6,7,8,9,10,11,12,13,14,15,16,17] rfl Qf (by kernel_rfl) trivial ?_
       refine Gb (.int .i64 (g8)) rfl rfl (Zk bL) ?_
       refine Gb up1 rfl rfl (Zk rE) ?_
       refine Gb (.int .i64 (s7_169)) rfl rfl (Zk uE) ?_
       refine Gb (Qc up1 s7_169 1) rfl rfl (Zh (α:=List Int) Try.underlying42 Try.sizeOf22 rfl l9 rfl xJ) ?_
       refine Gy (c:=nP) rfl rfl .plain (fun _ _ h=>h.ch) lN rfl ?_
       refine Gb (.int .i64 ((cC).length:Int)) rfl rfl (Tw Try.underlying22 rfl oP) ?_
       refine Gb (.int .i64 ((w64 (g8 + ((cC).length:Int))))) rfl rfl (Td rfl rfl rfl) ?_
       refine Gb (.bool (n8)) rfl rfl (Zk dL) ?_
       refine Gb (.bool (n8)) rfl rfl (Zk rfl) ?_
       refine L_y up1 rfl rfl rfl rfl aB (Zk rE) ?_
       refine L_y (.int .i64 (s7_169)) rfl rfl rfl rfl aB (Zk uE) ?_
       refine L_y (Qc up1 s7_169 1) rfl rfl rfl rfl aB (Zh (α:=List Int) Try.underlying42 Try.sizeOf22 rfl l9 rfl mN) ?_
       refine Gy (c:=bU) rfl rfl (.yes2 rfl rfl aB) (fun _ _ h=>h.ch) jS rfl ?_
       refine L_y (.int .i64 ((dF).length:Int)) rfl rfl rfl rfl aB (Tw Try.underlying22 rfl cU) ?_
       refine L_y (.bool ((decide (((dF).length:Int) > (3:Int))))) rfl rfl rfl rfl aB (Td rfl rfl rfl) ?_
       refine Gb (.bool ((decide (((dF).length:Int) > (3:Int))))) rfl rfl (Zl (b:=n8) rfl (Tl aB rfl)) ?_
       refine Gb (.int .i64 ((w64 (g8 + ((cC).length:Int))))) rfl rfl (Tg rfl) ?_
       refine Gb (.bool ((decide (((dF).length:Int) > (3:Int))))) rfl rfl (Tg rfl) ?_
       refine L_nl fun dU sX hs=>?_
       have hfr:=hfr.ext hs
       have l9:=l9.ext hs
       have oD:=oD.ext hs
       clear hs
       exact Zb (Qn (Zd (jN ((w64 (g8 + ((cC).length:Int))),(decide (((dF).length:Int) > (3:Int)))) _ _ ⟨dU,hfr,rE,l9,aL,oD,rfl,rfl,uE⟩ h)))
    ·rintro ⟨sG, xG⟩ yV tX ⟨eU, hfr, pP, sP, tP, uP, vP, xP, yP⟩ h
     refine Za (Zo yP rfl ?_)
     refine Gu (.int .i64 ((w64 (s7_169 + (1:Int))))) rfl rfl rfl rfl ?_
     refine Zg (.int .i64 ((w64 (s7_169 + (1:Int))))) rfl rfl ?_
     exact Zb (Zd (dS (sG,xG,(w64 (s7_169 + (1:Int)))) _ _ ⟨eU,hfr,pP,sP,tP,uP,vP,xP,rfl⟩ h))
  ·rintro ⟨bD, l8⟩ zV uX ⟨zP, hfr, eL, gL, iL, jL, bQ, cH⟩ h
   refine Zq h (fun (s:Unit) e w=>∃ (g:Gh) ,Fr gI wI g w∧e 1=up1∧RV g.m w (x1:List (List Int)) up1∧e 2=p1∧PT g.m w (x0:BoxLoom) p1∧e 6=.bool (l8)) (fun X313 aP lS h=>?_) ?_
   ·obtain ⟨nD, hx, h⟩ := Gc h
    refine Th (fun e w=>∃ (g:Gh) ,Fr gI wI g w∧e 1=up1∧RV g.m w (x1:List (List Int)) up1∧e 2=p1∧PT g.m w (x0:BoxLoom) p1∧e 6=.bool (l8)∧e 63=.bool (nD)) (fun Q' hQ=>?_) (fun aW vX hR=>?_)
    ·replace h := hx
     clear hx
     refine Za (Zo bQ rfl ?_)
     refine Gu (.bool ((decide (bD > (4:Int))))) rfl rfl rfl rfl ?_
     refine Zn (.bool ((decide (bD > (4:Int))))) rfl rfl ?_
     rcases Zt h with ⟨iE,h⟩ | ⟨iE,h⟩
     ·refine Zz (.bool (l8)) (Zk cH) rfl rfl iE rfl ?_
      refine Zz (.bool (!l8)) (Wm rfl) rfl rfl iE rfl ?_
      refine Zy (.bool (!l8)) (Zl (b:=(decide (bD > (4:Int)))) rfl (Tp iE rfl)) rfl ?_
      refine Zb ?_
      obtain rfl:=sinj h
      exact hQ _ _ ⟨zP,hfr,eL,gL,iL,jL,cH,rfl⟩
     ·refine Ga rfl rfl iE rfl rfl ?_
      refine Ga rfl rfl iE rfl rfl ?_
      refine Zy (.bool false) (Zl (b:=(decide (bD > (4:Int)))) rfl (Tl iE rfl)) rfl ?_
      refine Zb ?_
      obtain rfl:=sinj h
      exact hQ _ _ ⟨zP,hfr,eL,gL,iL,jL,cH,rfl⟩
    ·clear hx
     obtain ⟨cQ,hfr,dQ,eQ,gQ,iQ,jQ,pH⟩:=hR
     rcases Zt h with ⟨zJ,h⟩ | ⟨zJ,h⟩
     ·refine To (Eq.trans (show ev _ _ = .bool (nD) from pH) (congrArg Value.bool zJ)) ?_
      refine Zf (Za ?_)
      obtain ⟨pJ,mS,h⟩:=Gc h
      refine Ze .plain rfl (Zp (g:=cQ) (vs:=[]) en14 .nil (wk14  mS) fun xX bW yX hs hr=>?_)
      have hfr:=hfr.ext hs
      subst hr
      refine Zg (.bool (pJ)) rfl rfl ?_
      refine Zb (Zd (Gw (Tc ?_)))
      obtain rfl:=sinj h
      exact Wb rfl rfl (show _=.bool (pJ) from rfl) ⟨_,hfr,rfl⟩
     ·refine Tk (Eq.trans (show ev _ _ = .bool (nD) from pH) (congrArg Value.bool zJ)) ?_
      exact Zu (Zd (lS () _ _ ⟨cQ,hfr,dQ,eQ,gQ,iQ,jQ⟩ h))
   ·rintro _ cW zX ⟨kQ, hfr, sF, l5, tF, t5, lL⟩ h
    refine Zf (Za (Ze .plain rfl (Gr (g:=kQ) Try.isAgg25 Try.sizeOf25 tF t5 fun gU iU=>?_)))
    obtain ⟨jM,nS,h⟩:=Gc h
    refine Ze .plain rfl (Zp (g:=kQ) (vs:=[gU]) en15 (.cons rfl .nil) (wk15 iU nS) fun jU dW kU hs hr=>?_)
    have hfr:=hfr.ext hs
    have l5:=l5.ext hs
    have t5:=t5.ext hs
    have gH:=hr
    refine Zo sF rfl ?_
    obtain ⟨kM,oS,h⟩:=Gc h
    refine Ze .plain rfl (Zp (g:=jU) (vs:=[up1]) en24 (.cons rfl .nil) (wk24 l5 oS) fun lU eW jH hs hr=>?_)
    have hfr:=hfr.ext hs
    have l5:=l5.ext hs
    have t5:=t5.ext hs
    have gH:=gH.ext hs
    have vC:=hr
    refine Ze .plain rfl (Gs (g:=lU) 2008 (⟨[],[],[]⟩:BoxLoom) Try.zeroValue25 (fun m w=>⟨_,(Gg Gz (Gg Gz Gz)),rfl⟩) fun aK uM vM hs b326 cb=>?_)
    have hfr:=hfr.stp hs
    have l5:=l5.stp hs
    have t5:=t5.stp hs
    have gH:=gH.stp hs
    have vC:=vC.stp hs
    have mV:OSF 2008 60800 0 aK uM 3 25 ([]:List Int) vM:=cb.osf (by rfl)
    have nV:OSF 2008 60801 1 aK uM 3 25 ([]:List Int) vM:=cb.osf (by rfl)
    have oV:OSF 2008 60802 2 aK uM 87 25 ([]:List Zv) vM:=cb.osf (by rfl)
    clear cb
    refine Ze .plain rfl (Gk (g:=aK) (v:=kU) Try.sizeOf25 rfl b326 rfl gH fun lQ aY hs b327 cb=>?_)
    clear cb
    have hfr:=hfr.stp hs
    have l5:=l5.stp hs
    have t5:=t5.stp hs
    have vC:=vC.stp hs
    refine Zg jH rfl rfl ?_
    refine Zb (Zd (Zf (Za (Ze .plain rfl (Qj (g:=lQ) Try.isAgg25 Try.sizeOf25 rfl b327 fun mU nU=>?_)))))
    refine Zn jH rfl rfl ?_
    obtain ⟨o0,pS,h⟩:=Gc h
    refine Ze .plain rfl (Zp (g:=lQ) (vs:=[mU,jH]) en25 (.cons rfl (.cons rfl .nil)) (wk25 nU vC pS) fun xM gW bY hs hr=>?_)
    have hfr:=hfr.ext hs
    have l5:=l5.ext hs
    have t5:=t5.ext hs
    have vC:=vC.ext hs
    have b327:=b327.ext hs
    obtain ⟨u3,pV,qV,rfl,yD,rfl,rfl⟩:=hr
    refine Zn (.tuple #[u3,.int .i64 (o0.2.1),.int .i64 (o0.2.2)]) rfl rfl ?_
    refine Zy u3 (Zi rfl rfl) rfl ?_
    refine Zy (.int .i64 (o0.2.1)) (Zi rfl rfl) rfl ?_
    refine Zy (.int .i64 (o0.2.2)) (Zi rfl rfl) rfl ?_
    refine Zg u3 rfl rfl ?_
    refine Zg (.int .i64 (o0.2.1)) rfl rfl ?_
    refine Zg (.int .i64 (o0.2.2)) rfl rfl ?_
    refine Zb (Zd (Zq h (fun (s:Unit) e w=>∃ (g:Gh) ,Fr gI wI g w∧e 1=up1∧RV g.m w (x1:List (List Int)) up1∧e 2=p1∧PT g.m w (x0:BoxLoom) p1∧e 6=.bool (l8)∧e 10=u3∧RV g.m w (o0.1:List Int) u3∧e 11=.int .i64 (o0.2.1)∧e 12=.int .i64 (o0.2.2)) (fun X347 zO qS h=>?_) ?_))
    ·obtain ⟨lD, hx, h⟩ := Gc h
     refine Th (fun e w=>∃ (g:Gh) ,Fr gI wI g w∧e 1=up1∧RV g.m w (x1:List (List Int)) up1∧e 2=p1∧PT g.m w (x0:BoxLoom) p1∧e 6=.bool (l8)∧e 10=u3∧RV g.m w (o0.1:List Int) u3∧e 11=.int .i64 (o0.2.1)∧e 12=.int .i64 (o0.2.2)∧e 85=.bool (lD)) (fun Q' hQ=>?_) (fun iW cY hR=>?_)
     ·replace h := hx
      clear hx
      refine Za (Ze .plain rfl (Qj (g:=xM) Try.isAgg25 Try.sizeOf25 rfl b327 fun oU pU=>?_))
      refine Ze .plain rfl (Gr (g:=xM) Try.isAgg25 Try.sizeOf25 tF t5 fun qU rU=>?_)
      obtain ⟨eG,rS,h⟩:=Gc h
      refine Ze .plain rfl (Zp (g:=xM) (vs:=[oU,qU]) en18 (.cons rfl (.cons rfl .nil)) (wk18 pU rU rS) fun mQ jW dY hs hr=>?_)
      have hfr:=hfr.ext hs
      have l5:=l5.ext hs
      have t5:=t5.ext hs
      have vC:=vC.ext hs
      have yD:=yD.ext hs
      subst hr
      refine Zy (.bool (!eG)) (Wm rfl) rfl ?_
      refine Zn (.bool (!eG)) rfl rfl ?_
      rcases Zt h with ⟨lB,h⟩ | ⟨lB,h⟩
      ·refine Ga rfl rfl lB rfl rfl ?_
       iterate 3 refine Ga rfl rfl lB rfl rfl ?_
       refine Zy (.bool true) (Zl (b:=(!eG)) rfl (Tp lB rfl)) rfl ?_
       refine Zb ?_
       obtain rfl:=sinj h
       exact hQ _ _ ⟨mQ,hfr,sF,l5,tF,t5,lL,rfl,yD,rfl,rfl,rfl⟩
      ·refine Zz jH (Zk rfl) rfl rfl lB rfl ?_
       refine Zz up1 (Zk sF) rfl rfl lB rfl ?_
       obtain ⟨oJ,sS,h⟩:=Gc h
       refine Ze (.yes2 rfl rfl lB) rfl (Zp (g:=mQ) (vs:=[jH,up1]) en26 (.cons rfl (.cons rfl .nil)) (wk26 vC l5 sS) fun sU kW eY hs hr=>?_)
       have hfr:=hfr.ext hs
       have l5:=l5.ext hs
       have t5:=t5.ext hs
       have yD:=yD.ext hs
       subst hr
       refine Zz (.bool (!oJ)) (Wm rfl) rfl rfl lB rfl ?_
       refine Zy (.bool (!oJ)) (Zl (b:=(!eG)) rfl (Tl lB rfl)) rfl ?_
       refine Zb ?_
       obtain rfl:=sinj h
       exact hQ _ _ ⟨sU,hfr,sF,l5,tF,t5,lL,rfl,yD,rfl,rfl,rfl⟩
     ·clear hx
      obtain ⟨tU,hfr,nQ,oQ,pQ,qQ,rQ,pN,qN,rN,sN,qH⟩:=hR
      rcases Zt h with ⟨bK,h⟩ | ⟨bK,h⟩
      ·refine To (Eq.trans (show ev _ _ = .bool (lD) from qH) (congrArg Value.bool bK)) ?_
       refine Zf (Za (Zg (.bool false) rfl rfl ?_))
       refine Zb (Zd (Gw (Tc ?_)))
       obtain rfl:=sinj h
       exact Wb rfl rfl (show _=.bool false from rfl) ⟨_,hfr,rfl⟩
      ·refine Tk (Eq.trans (show ev _ _ = .bool (lD) from qH) (congrArg Value.bool bK)) ?_
       exact Zu (Zd (qS () _ _ ⟨tU,hfr,nQ,oQ,pQ,qQ,rQ,pN,qN,rN,sN⟩ h))
    ·rintro _ lW gY ⟨sQ, hfr, mL, uF, kH, vE, tQ, sH, zE, tH, uH⟩ h
     refine Zf (Za (Ze .plain rfl (Gr (g:=sQ) Try.isAgg25 Try.sizeOf25 kH vE fun uU vU=>?_)))
     obtain ⟨uC,tS,h⟩:=Gc h
     refine Ze .plain rfl (Zp (g:=sQ) (vs:=[uU]) en20 (.cons rfl .nil) (wk20 vU tS) fun uQ mW iY hs hr=>?_)
     have hfr:=hfr.ext hs
     have uF:=uF.ext hs
     have vE:=vE.ext hs
     have zE:=zE.ext hs
     subst hr
     refine Zg (.int .i64 (uC)) rfl rfl ?_
     refine Zb (Zd ?_)
     obtain ⟨bG,hx,h⟩:=Gc h
     refine Th (fun e w=>∃ (g:Gh) ,Fr gI wI g w∧e 1=up1∧RV g.m w (x1:List (List Int)) up1∧e 2=p1∧PT g.m w (x0:BoxLoom) p1∧e 10=u3∧RV g.m w (o0.1:List Int) u3∧e 11=.int .i64 (o0.2.1)∧e 12=.int .i64 (o0.2.2)∧e 13=.int .i64 (bG)) (fun Q' hQ=>?_) (fun nW jY hR=>?_)
     ·replace h := hx
      clear hx
      obtain ⟨cD,hx,h⟩:=Gc h
      refine Th (fun e w=>∃ (g:Gh) ,Fr gI wI g w∧e 1=up1∧RV g.m w (x1:List (List Int)) up1∧e 2=p1∧PT g.m w (x0:BoxLoom) p1∧e 10=u3∧RV g.m w (o0.1:List Int) u3∧e 11=.int .i64 (o0.2.1)∧e 12=.int .i64 (o0.2.2)∧e 13=.int .i64 (uC)∧e 92=.bool (cD)) (fun Q' hQ=>?_) (fun oW kY hR=>?_)
      ·replace h := hx
       clear hx
       refine Za (Zn (.int .i64 (uC)) rfl rfl ?_)
       refine Gu (.bool ((uC == (0:Int)))) rfl rfl rfl rfl ?_
       refine Zn (.bool ((uC == (0:Int)))) rfl rfl ?_
       rcases Zt h with ⟨vF,h⟩ | ⟨vF,h⟩
       ·refine Zz (.bool (l8)) (Zk tQ) rfl rfl vF rfl ?_
        refine Zy (.bool (l8)) (Zl (b:=(uC == (0:Int))) rfl (Tp vF rfl)) rfl ?_
        refine Zb ?_
        obtain rfl:=sinj h
        exact hQ _ _ ⟨uQ,hfr,mL,uF,kH,vE,sH,zE,tH,uH,rfl,rfl⟩
       ·refine Ga rfl rfl vF rfl rfl ?_
        refine Zy (.bool false) (Zl (b:=(uC == (0:Int))) rfl (Tl vF rfl)) rfl ?_
        refine Zb ?_
        obtain rfl:=sinj h
        exact hQ _ _ ⟨uQ,hfr,mL,uF,kH,vE,sH,zE,tH,uH,rfl,rfl⟩
      ·clear hx
       obtain ⟨vQ,hfr,nL,oL,xL,yL,xH,yH,zH,aI,tN,bI⟩:=hR
       rcases Zt h with ⟨cK,h⟩ | ⟨cK,h⟩
       ·refine To (Eq.trans (show ev _ _ = .bool (cD) from bI) (congrArg Value.bool cK)) ?_
        refine Za (Zg (.int .i64 (5)) rfl rfl ?_)
        refine Zb ?_
        obtain rfl:=sinj h
        exact hQ _ _ ⟨vQ,hfr,nL,oL,xL,yL,xH,yH,zH,aI,rfl⟩
       ·refine Tk (Eq.trans (show ev _ _ = .bool (cD) from bI) (congrArg Value.bool cK)) ?_
        refine Zu ?_
        obtain rfl:=sinj h
        exact hQ _ _ ⟨vQ,hfr,nL,oL,xL,yL,xH,yH,zH,aI,tN⟩
     ·clear hx
      obtain ⟨xU,hfr,xQ,yQ,zQ,aR,uN,vN,xN,yN,zN⟩:=hR
      obtain ⟨vB,hx,h⟩:=Gc h
      refine Th (fun e w=>∃ (g:Gh) ,Fr gI wI g w∧e 1=up1∧RV g.m w (x1:List (List Int)) up1∧e 2=p1∧PT g.m w (x0:BoxLoom) p1∧e 10=u3∧RV g.m w (o0.1:List Int) u3∧e 11=.int .i64 (o0.2.1)∧e 12=.int .i64 (o0.2.2)∧e 13=.int .i64 (vB)) (fun Q' hQ=>?_) (fun pW mY hR=>?_)
      ·replace h := hx
       clear hx
       refine Zf (Za (Zg (.int .i64 (0)) rfl rfl ?_))
       refine Zb (Zd (Zr ?_))
       refine E_lp h (fun (s:Int × Int) e w=>∃ (g:Gh) ,Fr gI wI g w∧e 1=up1∧RV g.m w (x1:List (List Int)) up1∧e 2=p1∧PT g.m w (x0:BoxLoom) p1∧e 10=u3∧RV g.m w (o0.1:List Int) u3∧e 11=.int .i64 (o0.2.1)∧e 12=.int .i64 (o0.2.2)∧e 13=.int .i64 (s.1)∧e 14=.int .i64 (s.2)) ⟨xU,hfr,xQ,yQ,zQ,aR,uN,vN,xN,yN,zN,rfl⟩ (fun X402 uO uS=>?_)
       rintro ⟨n9,i6⟩ qW nY ⟨bR,hfr,lH,mH,zL,aM,dI,iI,jI,kI,gG,iG⟩ h
       refine Zq h (fun (s:Unit) e w=>∃ (g:Gh) ,Fr gI wI g w∧e 1=up1∧RV g.m w (x1:List (List Int)) up1∧e 2=p1∧PT g.m w (x0:BoxLoom) p1∧e 10=u3∧RV g.m w (o0.1:List Int) u3∧e 11=.int .i64 (o0.2.1)∧e 12=.int .i64 (o0.2.2)∧e 13=.int .i64 (n9)∧e 14=.int .i64 (i6)) (fun X408 xO vS h=>?_) ?_
       ·obtain ⟨zB, hx, h⟩ := Gc h
        refine Th (fun e w=>∃ (g:Gh) ,Fr gI wI g w∧e 1=up1∧RV g.m w (x1:List (List Int)) up1∧e 2=p1∧PT g.m w (x0:BoxLoom) p1∧e 10=u3∧RV g.m w (o0.1:List Int) u3∧e 11=.int .i64 (o0.2.1)∧e 12=.int .i64 (o0.2.2)∧e 13=.int .i64 (n9)∧e 14=.int .i64 (i6)∧e 100=.bool (zB)) (fun Q' hQ=>?_) (fun sW oY hR=>?_)
        ·replace h := hx
         clear hx
         refine Za (Zo iG rfl ?_)
         refine Zo lH rfl ?_
         refine Zy (.int .i64 ((x1).length:Int)) (Tw Try.underlying42 rfl mH) rfl ?_
         refine Gu (.bool ((decide (i6 < ((x1).length:Int))))) rfl rfl rfl rfl ?_
         refine Zn (.bool ((decide (i6 < ((x1).length:Int))))) rfl rfl ?_
         rcases Zt h with ⟨lE,h⟩ | ⟨lE,h⟩
         ·refine Zz (.int .i64 (n9)) (Zk gG) rfl rfl lE rfl ?_
          refine Zz (.bool ((n9 == (0:Int)))) (Td rfl rfl rfl) rfl rfl lE rfl ?_
          refine Zy (.bool ((n9 == (0:Int)))) (Zl (b:=(decide (i6 < ((x1).length:Int)))) rfl (Tp lE rfl)) rfl ?_
          refine Zb ?_
          obtain rfl:=sinj h
          exact hQ _ _ ⟨bR,hfr,lH,mH,zL,aM,dI,iI,jI,kI,gG,iG,rfl⟩
         ·refine Ga rfl rfl lE rfl rfl ?_
          refine Ga rfl rfl lE rfl rfl ?_
          refine Zy (.bool false) (Zl (b:=(decide (i6 < ((x1).length:Int)))) rfl (Tl lE rfl)) rfl ?_
          refine Zb ?_
          obtain rfl:=sinj h
          exact hQ _ _ ⟨bR,hfr,lH,mH,zL,aM,dI,iI,jI,kI,gG,iG,rfl⟩
        ·clear hx
         obtain ⟨dR,hfr,bM,cM,dM,eM,lI,mI,nI,pI,qI,aO,nH⟩:=hR
         rcases Zt h with ⟨dK,h⟩ | ⟨dK,h⟩
         ·refine To (Eq.trans (show ev _ _ = .bool (zB) from nH) (congrArg Value.bool dK)) ?_
          exact Zu (Zd (vS () _ _ ⟨dR,hfr,bM,cM,dM,eM,lI,mI,nI,pI,qI,aO⟩ h))
         ·refine Tk (Eq.trans (show ev _ _ = .bool (zB) from nH) (congrArg Value.bool dK)) ?_
          refine Qm ?_
          refine Tm ?_
          refine Tm ?_
          refine Tu ?_
          obtain rfl:=sinj h
          exact hQ _ _ ⟨dR,hfr,bM,cM,dM,eM,lI,mI,nI,pI,qI⟩
       ·rintro _ tW pY ⟨eR, hfr, oH, zD, iM, xF, sI, cF, jJ, kJ, bO, jG⟩ h
        obtain ⟨yE,hx,h⟩:=Gc h
        refine Th (fun e w=>∃ (g:Gh) ,Fr gI wI g w∧e 1=up1∧RV g.m w (x1:List (List Int)) up1∧e 2=p1∧PT g.m w (x0:BoxLoom) p1∧e 10=u3∧RV g.m w (o0.1:List Int) u3∧e 11=.int .i64 (o0.2.1)∧e 12=.int .i64 (o0.2.2)∧e 13=.int .i64 (yE)∧e 14=.int .i64 (i6)) (fun Q' hQ=>?_) (fun uW qY hR=>?_)
        ·replace h := hx
         clear hx
         refine Zr ?_
         refine Zf (Za (Zo oH rfl ?_))
         refine Zo jG rfl ?_
         obtain ⟨vO,nN,h⟩:=Gc h
         refine Zy (Qc up1 i6 1) (Zh (α:=List Int) Try.underlying42 Try.sizeOf22 rfl zD rfl nN) rfl ?_
         have yU:=Tj zD nN
         refine Ze .plain rfl (Gr (g:=eR) Try.isAgg22 Try.sizeOf22 rfl yU fun zU aV=>?_)
         obtain ⟨pM,xS,h⟩:=Gc h
         refine Ze .plain rfl (Zp (g:=eR) (vs:=[zU]) en21 (.cons rfl .nil) (wk21 aV xS) fun gR vW uY hs hr=>?_)
         have hfr:=hfr.ext hs
         have zD:=zD.ext hs
         have xF:=xF.ext hs
         have cF:=cF.ext hs
         subst hr
         refine Zy (.bool (!pM)) (Wm rfl) rfl ?_
         refine Zb (Zd ?_)
         rcases Zt h with ⟨lK,h⟩ | ⟨lK,h⟩
         ·refine Qq lK rfl ?_
          refine Za (Zg (.int .i64 (2)) rfl rfl ?_)
          refine Zb (Qn ?_)
          obtain rfl:=sinj h
          exact hQ _ _ ⟨gR,hfr,oH,zD,iM,xF,sI,cF,jJ,kJ,rfl,jG⟩
         ·refine Qr lK rfl ?_
          refine Zu (Qn ?_)
          obtain rfl:=sinj h
          exact hQ _ _ ⟨gR,hfr,oH,zD,iM,xF,sI,cF,jJ,kJ,bO,jG⟩
        ·clear hx
         obtain ⟨bV,hfr,iR,jR,lR,mR,cO,dO,eO,gO,jO,kO⟩:=hR
         refine Za (Zo kO rfl ?_)
         refine Gu (.int .i64 ((w64 (i6 + (1:Int))))) rfl rfl rfl rfl ?_
         refine Zg (.int .i64 ((w64 (i6 + (1:Int))))) rfl rfl ?_
         exact Zb (Zd (uS (yE,(w64 (i6 + (1:Int)))) _ _ ⟨bV,hfr,iR,jR,lR,mR,cO,dO,eO,gO,jO,rfl⟩ h))
      ·clear hx
       obtain ⟨bN,hfr,nR,oR,pR,qR,kG,aE,lG,mG,lJ⟩:=hR
       refine Zq h (fun (s:Int) e w=>∃ (g:Gh) ,Fr gI wI g w∧e 10=u3∧RV g.m w (o0.1:List Int) u3∧e 11=.int .i64 (o0.2.1)∧e 12=.int .i64 (o0.2.2)∧e 13=.int .i64 (s)) (fun X466 qM oN h=>?_) ?_
       ·refine Zf (Za (Zo lJ rfl ?_))
        refine Gu (.bool ((vB == (0:Int)))) rfl rfl rfl rfl ?_
        refine Zb (Zd ?_)
        rcases Zt h with ⟨mK,h⟩ | ⟨mK,h⟩
        ·refine Qq mK rfl ?_
         refine Zf (Za (Ze .plain rfl (Gr (g:=bN) Try.isAgg25 Try.sizeOf25 pR qR fun cV dV=>?_)))
         refine Zo nR rfl ?_
         obtain ⟨v8,yS,h⟩:=Gc h
         refine Ze .plain rfl (Zp (g:=bN) (vs:=[cV,up1]) en27 (.cons rfl (.cons rfl .nil)) (wk27 dV oR yS) fun cN xW vY hs hr=>?_)
         have hfr:=hfr.ext hs
         have aE:=aE.ext hs
         obtain ⟨xE,rV,sV,rfl,rR,rfl,rfl⟩:=hr
         refine Zn (.tuple #[xE,.int .i64 (v8.2.1),.bool (v8.2.2)]) rfl rfl ?_
         refine Zy xE (Zi rfl rfl) rfl ?_
         refine Zy (.int .i64 (v8.2.1)) (Zi rfl rfl) rfl ?_
         refine Zy (.bool (v8.2.2)) (Zi rfl rfl) rfl ?_
         refine Zg xE rfl rfl ?_
         refine Zg (.int .i64 (v8.2.1)) rfl rfl ?_
         refine Zg (.bool (v8.2.2)) rfl rfl ?_
         refine Zb (Zd (Zq h (fun (s:Unit) e w=>∃ (g:Gh) ,Fr gI wI g w∧e 10=u3∧RV g.m w (o0.1:List Int) u3∧e 11=.int .i64 (o0.2.1)∧e 12=.int .i64 (o0.2.2)) (fun X487 yO zS h=>?_) ?_))
         ·refine Zf (Za (Zn (.bool (v8.2.2)) rfl rfl ?_))
          refine Zb (Zd ?_)
          rcases Zt h with ⟨nK,h⟩ | ⟨nK,h⟩
          ·refine Qq nK rfl ?_
           obtain ⟨rF,hx,h⟩:=Gc h
           refine Th (fun e w=>∃ (g:Gh) ,Fr gI wI g w∧e 4=.bool (rF)) (fun Q' hQ=>?_) (fun yW xY hR=>?_)
           ·replace h := hx
            clear hx
            refine Za (Zo mG rfl ?_)
            refine Gu (.bool ((o0.2.2 == (0:Int)))) rfl rfl rfl rfl ?_
            refine Zn (.bool ((o0.2.2 == (0:Int)))) rfl rfl ?_
            rcases Zt h with ⟨mB,h⟩ | ⟨mB,h⟩
            ·refine Zz u3 (Zk kG) rfl rfl mB rfl ?_
             refine Zz xE (Zk rfl) rfl rfl mB rfl ?_
             obtain ⟨cG,eT,h⟩:=Gc h
             refine Ze (.yes2 rfl rfl mB) rfl (Zp (g:=cN) (vs:=[u3,xE]) en19 (.cons rfl (.cons rfl .nil)) (wk19 aE rR eT) fun dN zW yY hs hr=>?_)
             have hfr:=hfr.ext hs
             subst hr
             refine Zy (.bool (cG)) (Zl (b:=(o0.2.2 == (0:Int))) rfl (Tp mB rfl)) rfl ?_
             refine Zn (.bool (cG)) rfl rfl ?_
             rcases Zt h with ⟨nB,h⟩ | ⟨nB,h⟩
             ·refine Zz (.int .i64 (o0.2.1)) (Zk lG) rfl rfl nB rfl ?_
              refine Zz (.int .i64 (v8.2.1)) (Zk rfl) rfl rfl nB rfl ?_
              refine Zz (.bool ((o0.2.1 == v8.2.1))) (Td rfl rfl rfl) rfl rfl nB rfl ?_
              refine Zy (.bool ((o0.2.1 == v8.2.1))) (Zl (b:=cG) rfl (Tp nB rfl)) rfl ?_
              refine Zn (.bool ((o0.2.1 == v8.2.1))) rfl rfl ?_
              rcases Zt h with ⟨yF,h⟩ | ⟨yF,h⟩
              ·obtain ⟨nJ, lT, h⟩ := Gc h
               refine Ze (.yes2 rfl rfl yF) rfl (Zp (g:=dN) (vs:=[]) en14 .nil (wk14  lT) fun eV aX zY hs hr=>?_)
               have hfr:=hfr.ext hs
               subst hr
               refine Zy (.bool (nJ)) (Zl (b:=(o0.2.1 == v8.2.1)) rfl (Tp yF rfl)) rfl ?_
               refine Zg (.bool (nJ)) rfl rfl ?_
               refine Zb ?_
               obtain rfl:=sinj h
               exact hQ _ _ ⟨eV,hfr,rfl⟩
              ·refine Ga rfl rfl yF rfl rfl ?_
               refine Zy (.bool false) (Zl (b:=(o0.2.1 == v8.2.1)) rfl (Tl yF rfl)) rfl ?_
               refine Zg (.bool false) rfl rfl ?_
               refine Zb ?_
               obtain rfl:=sinj h
               exact hQ _ _ ⟨dN,hfr,rfl⟩
             ·refine Ga rfl rfl nB rfl rfl ?_
              refine Ga rfl rfl nB rfl rfl ?_
              refine Ga rfl rfl nB rfl rfl ?_
              refine Zy (.bool false) (Zl (b:=cG) rfl (Tl nB rfl)) rfl ?_
              refine EL_dead 3 rfl ?_
              refine Zg (.bool false) rfl rfl ?_
              refine Zb ?_
              obtain rfl:=sinj h
              exact hQ _ _ ⟨dN,hfr,rfl⟩
            ·refine Ga rfl rfl mB rfl rfl ?_
             refine Ga rfl rfl mB rfl rfl ?_
             refine Ga rfl rfl mB rfl rfl ?_
             refine Zy (.bool false) (Zl (b:=(o0.2.2 == (0:Int))) rfl (Tl mB rfl)) rfl ?_
             refine EL_dead 8 rfl ?_
             refine Zg (.bool false) rfl rfl ?_
             refine Zb ?_
             obtain rfl:=sinj h
             exact hQ _ _ ⟨cN,hfr,rfl⟩
           ·clear hx
            obtain ⟨aZ,hfr,tR⟩:=hR
            refine Gw (Tc ?_)
            refine Tc ?_
            obtain rfl:=sinj h
            exact Wb rfl rfl (show _=.bool (rF) from tR) ⟨_,hfr,rfl⟩
          ·refine Qr nK rfl ?_
           exact Zu (Zd (zS () _ _ ⟨cN,hfr,kG,aE,lG,mG⟩ h))
         ·rintro _ bX bZ ⟨gV, hfr, lO, mO, nO, oO⟩ h
          refine Za (Zg (.int .i64 (9)) rfl rfl ?_)
          exact Zb (Zd (oN ((9:Int)) _ _ ⟨gV,hfr,lO,mO,nO,oO,rfl⟩ h))
        ·refine Qr mK rfl ?_
         exact Zu (Zd (oN (vB) _ _ ⟨bN,hfr,kG,aE,lG,mG,lJ⟩ h))
       ·rintro yB cX cZ ⟨oK, hfr, pO, qO, rO, sO, tO⟩ h
        obtain ⟨eF,hx,h⟩:=Gc h
        refine Th (fun e w=>∃ (g:Gh) ,Fr gI wI g w∧e 4=.bool (eF)) (fun Q' hQ=>?_) (fun dX dZ hR=>?_)
        ·replace h := hx
         clear hx
         refine Za (Zo sO rfl ?_)
         refine Zo tO rfl ?_
         refine Gu (.bool ((o0.2.2 == yB))) rfl rfl rfl rfl ?_
         refine Zn (.bool ((o0.2.2 == yB))) rfl rfl ?_
         rcases Zt h with ⟨oB,h⟩ | ⟨oB,h⟩
         ·refine Zz u3 (Zk pO) rfl rfl oB rfl ?_
          refine Zz (.int .i64 ((o0.1).length:Int)) (Tw Try.underlying22 rfl qO) rfl rfl oB rfl ?_
          refine Zz (.bool ((((o0.1).length:Int) == (0:Int)))) (Td rfl rfl rfl) rfl rfl oB rfl ?_
          refine Zy (.bool ((((o0.1).length:Int) == (0:Int)))) (Zl (b:=(o0.2.2 == yB)) rfl (Tp oB rfl)) rfl ?_
          refine Zn (.bool ((((o0.1).length:Int) == (0:Int)))) rfl rfl ?_
          rcases Zt h with ⟨mE,h⟩ | ⟨mE,h⟩
          ·refine Zz (.int .i64 (o0.2.1)) (Zk rO) rfl rfl mE rfl ?_
           refine Zz (.bool ((o0.2.1 == (0:Int)))) (Td rfl rfl rfl) rfl rfl mE rfl ?_
           refine Zy (.bool ((o0.2.1 == (0:Int)))) (Zl (b:=(((o0.1).length:Int) == (0:Int))) rfl (Tp mE rfl)) rfl ?_
           refine Zn (.bool ((o0.2.1 == (0:Int)))) rfl rfl ?_
           rcases Zt h with ⟨aG,h⟩ | ⟨aG,h⟩
           ·obtain ⟨mJ, mT, h⟩ := Gc h
            refine Ze (.yes2 rfl rfl aG) rfl (Zp (g:=oK) (vs:=[]) en14 .nil (wk14  mT) fun iV eX mZ hs hr=>?_)
            have hfr:=hfr.ext hs
            subst hr
            refine Zy (.bool (mJ)) (Zl (b:=(o0.2.1 == (0:Int))) rfl (Tp aG rfl)) rfl ?_
            refine Zg (.bool (mJ)) rfl rfl ?_
            refine Zb ?_
            obtain rfl:=sinj h
            exact hQ _ _ ⟨iV,hfr,rfl⟩
           ·refine Ga rfl rfl aG rfl rfl ?_
            refine Zy (.bool false) (Zl (b:=(o0.2.1 == (0:Int))) rfl (Tl aG rfl)) rfl ?_
            refine Zg (.bool false) rfl rfl ?_
            refine Zb ?_
            obtain rfl:=sinj h
            exact hQ _ _ ⟨oK,hfr,rfl⟩
          ·refine Ga rfl rfl mE rfl rfl ?_
           refine Ga rfl rfl mE rfl rfl ?_
           refine Zy (.bool false) (Zl (b:=(((o0.1).length:Int) == (0:Int))) rfl (Tl mE rfl)) rfl ?_
           refine EL_dead 3 rfl ?_
           refine Zg (.bool false) rfl rfl ?_
           refine Zb ?_
           obtain rfl:=sinj h
           exact hQ _ _ ⟨oK,hfr,rfl⟩
         ·refine Ga rfl rfl oB rfl rfl ?_
          refine Ga rfl rfl oB rfl rfl ?_
          refine Ga rfl rfl oB rfl rfl ?_
          refine Zy (.bool false) (Zl (b:=(o0.2.2 == yB)) rfl (Tl oB rfl)) rfl ?_
          refine EL_dead 7 rfl ?_
          refine Zg (.bool false) rfl rfl ?_
          refine Zb ?_
          obtain rfl:=sinj h
          exact hQ _ _ ⟨oK,hfr,rfl⟩
        ·clear hx
         obtain ⟨nZ,hfr,uR⟩:=hR
         refine Gw ?_
         obtain rfl:=sinj h
         exact Wb rfl rfl (show _=.bool (eF) from uR) ⟨_,hfr,rfl⟩
end Go.Proofs.Ytmpjooneiaiffaa
