import Derived.Test.YtmpjooneiaiffaaCode1
set_option maxRecDepth 8000
set_option maxHeartbeats 4000000
namespace Go.Proofs.Ytmpjooneiaiffaa
open Go.RowKit
def f18 (x0:BoxLoom) (x1:BoxLoom):Option (Bool):=
 jn (σ:=Unit) (fun _=>
  jn (σ:=Unit) (fun _=>
   some (true)
   ) fun lD=>
  lp (σ:=Int) (fun nD o0=>
   jn (σ:=Unit) (fun _=>
    jn (σ:=Unit) (fun _=>
     nD ((w64 (o0 + (1:Int))))
     ) fun oD=>
    (idx ((x0).Shuttles) o0).bind fun y186=>
    (idx ((x1).Shuttles) o0).bind fun yB=>
    bif (!(decide (y186 = yB))) then
     some (false)
    else
     oD ()
    ) fun yD=>
   bif (decide (o0 < (((x0).Shuttles).length : Int))) then
    yD ()
   else
    lD ()
   ) big ((0:Int))
  ) fun gG=>
 Option.bind (α:=Bool) (
  (f19 ((x0).Boxes) ((x1).Boxes)).bind fun l9=>
  bif (!l9) then
   some (true)
  else
   (f19 ((x0).At) ((x1).At)).bind fun l8=>
   bif (!l8) then
    some (true)
   else
    some (((((x0).Shuttles).length:Int) != (((x1).Shuttles).length:Int)))
  ) fun t5=>
 bif t5 then
  some (false)
 else
  gG ()
theorem en18:Enters Try.prog 18:=enters_of Try.func18 (by kernel_rfl) rfl
theorem wk18 {gI:Gh} {wI:World} {x0:BoxLoom} {x1:BoxLoom} {up0:Value} (rp0:RV gI.m wI x0 up0) {up1:Value} (rp1:RV gI.m wI x1 up1) {r:Bool} (h:f18 x0 x1=some r):Fn Try.prog 18 #[up0,up1] gI wI (fun _ _ v=>v=.bool (r)):=by
 unfold f18 at h
 refine Tf Try.func18 rfl (Nat.le_of_ble_eq_true rfl) fun g0 hm hfr=>?_
 have rp0:RV g0.m wI x0 up0:=hm ▸ rp0
 have rp1:RV g0.m wI x1 up1:=hm ▸ rp1
 show E _ 47 none _ _ _ _ _
 refine Zf (Za (Ze .plain rfl (We (g:=g0) rfl rp0 fun g1 w1 p1 hs q1=>?_)))
 have hfr:=hfr.ext hs
 have rp1:=rp1.ext hs
 refine Ze .plain rfl (We (g:=g1) rfl rp1 fun g2 w2 p2 hs q2=>?_)
 have hfr:=hfr.ext hs
 have q1:=q1.ext hs
 refine Zg (.bool false) rfl rfl ?_
 refine Zb (Zd (Zq h (fun (s:Unit) e w=>∃ (g:Gh) ,Fr gI wI g w∧e 2=p1∧PT g.m w (x0:BoxLoom) p1∧e 3=p2∧PT g.m w (x1:BoxLoom) p2) (fun X41 gG iG h=>?_) ?_))
 ·obtain ⟨t5, hx, h⟩ := Gc h
  refine Th (fun e w=>∃ (g:Gh) ,Fr gI wI g w∧e 2=p1∧PT g.m w (x0:BoxLoom) p1∧e 3=p2∧PT g.m w (x1:BoxLoom) p2∧e 28=.bool (t5)) (fun Q' hQ=>?_) (fun sI vJ hR=>?_)
  ·replace h := hx
   clear hx
   refine Za (Zy (Gj p1 0) (Zc Wo rfl (PT.ptr q1)) rfl ?_)
   have nH:=Zm (Ts).1 q1
   refine Ze .plain rfl (Gr (g:=g2) Try.isAgg22 Try.sizeOf22 rfl nH fun oH pH=>?_)
   refine Zy (Gj p2 0) (Zc Wo rfl (PT.ptr q2)) rfl ?_
   have q62:=Zm (Ts).1 q2
   refine Ze .plain rfl (Gr (g:=g2) Try.isAgg22 Try.sizeOf22 rfl q62 fun qH sH=>?_)
   obtain ⟨l9,jG,h⟩:=Gc h
   refine Ze .plain rfl (Zp (g:=g2) (vs:=[oH,qH]) en19 (.cons rfl (.cons rfl .nil)) (wk19 pH sH jG) fun uC jJ xJ hs hr=>?_)
   have hfr:=hfr.ext hs
   have q1:=q1.ext hs
   have q2:=q2.ext hs
   subst hr
   refine Zy (.bool (!l9)) (Wm rfl) rfl ?_
   refine Zn (.bool (!l9)) rfl rfl ?_
   rcases Zt h with ⟨l5,h⟩ | ⟨l5,h⟩
   ·refine Ga rfl rfl l5 rfl rfl ?_
    iterate 5 refine Ga rfl rfl l5 rfl rfl ?_
    refine Zy (.bool true) (Zl (b:=(!l9)) rfl (Tp l5 rfl)) rfl ?_
    refine EL_dead 9 rfl ?_
    refine Zb ?_
    obtain rfl:=sinj h
    exact hQ _ _ ⟨uC,hfr,rfl,q1,rfl,q2,rfl⟩
   ·refine Zz (Gj p1 1) (Zc at_25_1 rfl (PT.ptr q1)) rfl rfl l5 rfl ?_
    have tH:=Zm (Qo).1 q1
    refine Ze (.yes2 rfl rfl l5) rfl (Gr (g:=uC) Try.isAgg22 Try.sizeOf22 rfl tH fun uH xH=>?_)
    refine Zz (Gj p2 1) (Zc at_25_1 rfl (PT.ptr q2)) rfl rfl l5 rfl ?_
    have yH:=Zm (Qo).1 q2
    refine Ze (.yes2 rfl rfl l5) rfl (Gr (g:=uC) Try.isAgg22 Try.sizeOf22 rfl yH fun zH aI=>?_)
    obtain ⟨l8,kG,h⟩:=Gc h
    refine Ze (.yes2 rfl rfl l5) rfl (Zp (g:=uC) (vs:=[uH,zH]) en19 (.cons rfl (.cons rfl .nil)) (wk19 xH aI kG) fun vC kJ zJ hs hr=>?_)
    have hfr:=hfr.ext hs
    have q1:=q1.ext hs
    have q2:=q2.ext hs
    subst hr
    refine Zz (.bool (!l8)) (Wm rfl) rfl rfl l5 rfl ?_
    refine Zy (.bool (!l8)) (Zl (b:=(!l9)) rfl (Tl l5 rfl)) rfl ?_
    refine Zn (.bool (!l8)) rfl rfl ?_
    rcases Zt h with ⟨u3,h⟩ | ⟨u3,h⟩
    ·refine Ga rfl rfl u3 rfl rfl ?_
     iterate 6 refine Ga rfl rfl u3 rfl rfl ?_
     refine Zy (.bool true) (Zl (b:=(!l8)) rfl (Tp u3 rfl)) rfl ?_
     refine Zb ?_
     obtain rfl:=sinj h
     exact hQ _ _ ⟨vC,hfr,rfl,q1,rfl,q2,rfl⟩
    ·refine Zz (Gj p1 2) (Zc Qk rfl (PT.ptr q1)) rfl rfl u3 rfl ?_
     have bI:=Zm (Gx).1 q1
     refine Ze (.yes2 rfl rfl u3) rfl (Gr (g:=vC) Try.isAgg23 Try.sizeOf23 rfl bI fun aK dI=>?_)
     refine Zz (.int .i64 (((x0).Shuttles).length:Int)) (Tw Try.underlying23 rfl dI) rfl rfl u3 rfl ?_
     refine Zz (Gj p2 2) (Zc Qk rfl (PT.ptr q2)) rfl rfl u3 rfl ?_
     have iI:=Zm (Gx).1 q2
     refine Ze (.yes2 rfl rfl u3) rfl (Gr (g:=vC) Try.isAgg23 Try.sizeOf23 rfl iI fun bK jI=>?_)
     refine Zz (.int .i64 (((x1).Shuttles).length:Int)) (Tw Try.underlying23 rfl jI) rfl rfl u3 rfl ?_
     refine Zz (.bool (((((x0).Shuttles).length:Int) != (((x1).Shuttles).length:Int)))) (Td rfl rfl rfl) rfl rfl u3 rfl ?_
     refine Zy (.bool (((((x0).Shuttles).length:Int) != (((x1).Shuttles).length:Int)))) (Zl (b:=(!l8)) rfl (Tl u3 rfl)) rfl ?_
     refine Zb ?_
     obtain rfl:=sinj h
     exact hQ _ _ ⟨vC,hfr,rfl,q1,rfl,q2,rfl⟩
  ·clear hx
   obtain ⟨kI,hfr,yE,zE,cF,dF,lB⟩:=hR
   rcases Zt h with ⟨zB,h⟩ | ⟨zB,h⟩
   ·refine To (Eq.trans (show ev _ _ = .bool (t5) from lB) (congrArg Value.bool zB)) ?_
    refine Zf (Za (Zg (.bool false) rfl rfl ?_))
    refine Zb (Zd (Gw (Tc ?_)))
    obtain rfl:=sinj h
    exact Wb rfl rfl (show _=.bool false from rfl) ⟨_,hfr,rfl⟩
   ·refine Tk (Eq.trans (show ev _ _ = .bool (t5) from lB) (congrArg Value.bool zB)) ?_
    exact Zu (Zd (iG () _ _ ⟨kI,hfr,yE,zE,cF,dF⟩ h))
 ·rintro _ lJ cK ⟨lI, hfr, eF, rF, sF, tF⟩ h
  refine Zq h (fun (s:Unit) e w=>∃ (g:Gh) ,Fr gI wI g w) (fun X146 lD uF h=>?_) ?_
  ·refine Zf (Za (Zg (.int .i64 (0)) rfl rfl ?_))
   refine Zb (Zd (Zr ?_))
   refine E_lp h (fun (s:Int) e w=>∃ (g:Gh) ,Fr gI wI g w∧e 2=p1∧PT g.m w (x0:BoxLoom) p1∧e 3=p2∧PT g.m w (x1:BoxLoom) p2∧e 5=.int .i64 (s)) ⟨lI,hfr,eF,rF,sF,tF,rfl⟩ (fun X147 nD vF=>?_)
   rintro o0 mI mJ ⟨cC,hfr,mB,n8,zD,aE,nB⟩ h
   refine Zq h (fun (s:Unit) e w=>∃ (g:Gh) ,Fr gI wI g w∧e 2=p1∧PT g.m w (x0:BoxLoom) p1∧e 3=p2∧PT g.m w (x1:BoxLoom) p2∧e 5=.int .i64 (o0)) (fun X152 yD xF h=>?_) ?_
   ·refine Zf (Za (Zo nB rfl ?_))
    refine Zy (Gj p1 2) (Zc Qk mB (PT.ptr n8)) rfl ?_
    have lG:=Zm (Gx).1 n8
    refine Ze .plain rfl (Gr (g:=cC) Try.isAgg23 Try.sizeOf23 rfl lG fun nJ mG=>?_)
    refine Zy (.int .i64 (((x0).Shuttles).length:Int)) (Tw Try.underlying23 rfl mG) rfl ?_
    refine Zy (.bool ((decide (o0 < (((x0).Shuttles).length:Int))))) (Td rfl rfl rfl) rfl ?_
    refine Zb (Zd ?_)
    rcases Zt h with ⟨n9,h⟩ | ⟨n9,h⟩
    ·refine Qq n9 rfl ?_
     exact Zu (Zd (xF () _ _ ⟨cC,hfr,mB,n8,zD,aE,nB⟩ h))
    ·refine Qr n9 rfl ?_
     refine Qm ?_
     refine Tm ?_
     refine Tm ?_
     refine Tu ?_
     exact Zd (uF () _ _ ⟨cC,hfr⟩ h)
   ·rintro _ nI oJ ⟨sG, hfr, oB, i6, vB, g8, v8⟩ h
    refine Zq h (fun (s:Unit) e w=>∃ (g:Gh) ,Fr gI wI g w∧e 2=p1∧PT g.m w (x0:BoxLoom) p1∧e 3=p2∧PT g.m w (x1:BoxLoom) p2∧e 5=.int .i64 (o0)) (fun X183 oD yF h=>?_) ?_
    ·refine Zr ?_
     refine Zf ?_
     have xG:=Zm (Gx).1 i6
     refine Zs (x:=.tmp 36) Try.isAgg23 Try.sizeOf23 xG fun bE iE aG=>?_
     obtain ⟨y186,bD,h⟩:=Gc h
     have yG:=Tj iE bD
     refine Zs (x:=.tmp 39) Try.isAgg87 Try.sizeOf87 yG fun zG aH bG=>?_
     have cH:=Zm (Gx).1 g8
     refine Zs (x:=.tmp 41) Try.isAgg23 Try.sizeOf23 cH fun lE mE cG=>?_
     obtain ⟨yB,cD,h⟩:=Gc h
     have gH:=Tj mE cD
     refine Zs (x:=.tmp 44) Try.isAgg87 Try.sizeOf87 gH fun jH kH eG=>?_
     refine Tt (g:=sG) (n:=11) [] [0,1,2,3,4,5,6,7,8,9,10] rfl Qf (by kernel_rfl) trivial ?_
     refine Gb (Gj p1 2) rfl rfl (Zc Qk oB (PT.ptr i6)) ?_
     refine Gy (c:=bE) rfl rfl .plain (fun _ _ h=>h.ch) aG rfl ?_
     refine Gb (.int .i64 (o0)) rfl rfl (Zk v8) ?_
     refine Gb (Qc bE o0 5) rfl rfl (Zh (α:=Zv) Try.underlying23 Try.sizeOf87 rfl iE rfl bD) ?_
     refine Gy (c:=zG) rfl rfl .plain (fun _ _ h=>h.ch) bG rfl ?_
     refine Gb (Gj p2 2) rfl rfl (Zc Qk vB (PT.ptr g8)) ?_
     refine Gy (c:=lE) rfl rfl .plain (fun _ _ h=>h.ch) cG rfl ?_
     refine Gb (.int .i64 (o0)) rfl rfl (Zk v8) ?_
     refine Gb (Qc lE o0 5) rfl rfl (Zh (α:=Zv) Try.underlying23 Try.sizeOf87 rfl mE rfl cD) ?_
     refine Gy (c:=jH) rfl rfl .plain (fun _ _ h=>h.ch) eG rfl ?_
     refine Gb (.bool ((!(decide (y186=yB))))) rfl rfl (P_neD eqd_87 rfl rfl eg_87 rfl rfl aH kH) ?_
     refine L_nl fun lH pJ hs=>?_
     have hfr:=hfr.ext hs
     have i6:=i6.ext hs
     have g8:=g8.ext hs
     clear hs
     refine Zb (Zd ?_)
     rcases Zt h with ⟨aB,h⟩ | ⟨aB,h⟩
     ·refine Qq aB rfl ?_
      refine Zf (Za (Zg (.bool false) rfl rfl ?_))
      refine Zb (Zd (Gw (Qu ?_)))
      refine Tc ?_
      refine Tc ?_
      refine Qu ?_
      refine Tc ?_
      obtain rfl:=sinj h
      exact Wb rfl rfl (show _=.bool false from rfl) ⟨_,hfr,rfl⟩
     ·refine Qr aB rfl ?_
      exact Zu (Qn (Zd (yF () _ _ ⟨lH,hfr,oB,i6,vB,g8,v8⟩ h)))
    ·rintro _ pI qJ ⟨mH, hfr, oE, rE, uE, vE, xE⟩ h
     refine Za (Zo xE rfl ?_)
     refine Gu (.int .i64 ((w64 (o0 + (1:Int))))) rfl rfl rfl rfl ?_
     refine Zg (.int .i64 ((w64 (o0 + (1:Int))))) rfl rfl ?_
     exact Zb (Zd (vF ((w64 (o0 + (1:Int)))) _ _ ⟨mH,hfr,oE,rE,uE,vE,rfl⟩ h))
  ·rintro _ qI rJ ⟨sJ, hfr⟩ h
   refine Zf (Za (Zg (.bool true) rfl rfl ?_))
   refine Zb (Zd (Gw ?_))
   obtain rfl:=sinj h
   exact Wb rfl rfl (show _=.bool true from rfl) ⟨_,hfr,rfl⟩
def f20 (x0:BoxLoom):Option (Int):=
 jn (σ:=Unit) (fun _=>
  jn (σ:=Unit) (fun _=>
   jn (σ:=Unit) (fun _=>
    jn (σ:=Unit) (fun _=>
     jn (σ:=Unit) (fun _=>
      jn (σ:=Unit) (fun _=>
       some ((0:Int))
       ) fun oK=>
      lp (σ:=Int) (fun pK l5=>
       jn (σ:=Unit) (fun _=>
        jn (σ:=Unit) (fun _=>
         pK ((w64 (l5 + (1:Int))))
         ) fun qK=>
        lp (σ:=Int) (fun sK i6=>
         jn (σ:=Unit) (fun _=>
          jn (σ:=Unit) (fun _=>
           sK ((w64 (i6 + (1:Int))))
           ) fun tK=>
          Option.bind (α:=Bool) (
           (idx ((x0).Shuttles) l5).bind fun vC=>
           (idx ((x0).Shuttles) i6).bind fun bD=>
           bif ((vC).Side == (bD).Side) then
            (idx ((x0).Shuttles) l5).bind fun cF=>
            (idx ((x0).Shuttles) i6).bind fun dF=>
            some (((cF).Box == (dF).Box))
           else
            some (false)
           ) fun cD=>
          bif cD then
           some ((6:Int))
          else
           tK ()
          ) fun uK=>
         bif (decide (i6 < l5)) then
          uK ()
         else
          qK ()
         ) big ((0:Int))
        ) fun vK=>
       bif (decide (l5 < (((x0).Shuttles).length : Int))) then
        vK ()
       else
        oK ()
       ) big ((0:Int))
      ) fun xK=>
     bif ((((x0).Shuttles).length : Int) == (0 : Int)) then
      some ((2:Int))
     else
      xK ()
     ) fun yK=>
    lp (σ:=Int) (fun zK nB=>
     jn (σ:=Unit) (fun _=>
      jn (σ:=Unit) (fun _=>
       zK ((w64 (nB + (1:Int))))
       ) fun aL=>
      (idx ((x0).Shuttles) nB).bind fun o0=>
      Option.bind (α:=Bool) (
       (f59 ((o0).Colour) ((0:Int)) ((9:Int))).bind fun l8=>
       bif (!l8) then
        some (true)
       else
        (f59 ((o0).Side) ((0:Int)) ((1:Int))).bind fun n8=>
        bif (!n8) then
         some (true)
        else
         (idx ((x0).Boxes) (o0).Side).bind fun uC=>
         (f59 ((o0).Box) ((0:Int)) ((w64 (uC - (1:Int))))).bind fun mB=>
         bif (!mB) then
          some (true)
         else
          (f59 (((o0).Yarn).Low) ((0:Int)) (((o0).Yarn).High)).bind fun yB=>
          bif (!yB) then
           some (true)
          else
           some ((decide (((o0).Yarn).High > (1000:Int))))
       ) fun yD=>
      bif yD then
       some ((2:Int))
      else
       aL ()
      ) fun bL=>
     bif (decide (nB < (((x0).Shuttles).length : Int))) then
      bL ()
     else
      yK ()
     ) big ((0:Int))
    ) fun lN=>
   bif (decide ((((x0).Shuttles).length : Int) > (6 : Int))) then
    some ((5:Int))
   else
    lN ()
   ) fun mN=>
  lp (σ:=Int) (fun nN v8=>
   jn (σ:=Unit) (fun _=>
    jn (σ:=Unit) (fun _=>
     nN ((w64 (v8 + (1:Int))))
     ) fun oN=>
    Option.bind (α:=Bool) (
     (idx ((x0).Boxes) v8).bind fun uF=>
     (f59 uF ((1:Int)) ((4:Int))).bind fun nD=>
     bif (!nD) then
      some (true)
     else
      (idx ((x0).At) v8).bind fun yH=>
      (idx ((x0).Boxes) v8).bind fun iG=>
      (f59 yH ((0:Int)) ((w64 (iG - (1:Int))))).bind fun vF=>
      some ((!vF))
     ) fun zD=>
    bif zD then
     some ((3:Int))
    else
     oN ()
    ) fun pN=>
   bif (decide (v8 < (2 : Int))) then
    pN ()
   else
    mN ()
   ) big ((0:Int))
  ) fun k14=>
 Option.bind (α:=Bool) (
  bif ((((x0).Boxes).length : Int) != (2 : Int)) then
   some (true)
  else
   some (((((x0).At).length:Int) != (2:Int)))
  ) fun oE=>
 bif oE then
  some ((4:Int))
 else
  k14 ()
theorem en20:Enters Try.prog 20:=enters_of Try.func20 (by kernel_rfl) rfl
theorem wk20 {gI:Gh} {wI:World} {x0:BoxLoom} {up0:Value} (rp0:RV gI.m wI x0 up0) {r:Int} (h:f20 x0=some r):Fn Try.prog 20 #[up0] gI wI (fun _ _ v=>v=.int .i64 (r)):=by
 unfold f20 at h
 refine Tf Try.func20 rfl (Nat.le_of_ble_eq_true rfl) fun g0 hm hfr=>?_
 have rp0:RV g0.m wI x0 up0:=hm ▸ rp0
 show E _ 143 none _ _ _ _ _
 refine Zf (Za (Ze .plain rfl (We (g:=g0) rfl rp0 fun g1 w1 p1 hs q1=>?_)))
 have hfr:=hfr.ext hs
 refine Zg (.int .i64 (0)) rfl rfl ?_
 refine Zb (Zd (Zq h (fun (s:Unit) e w=>∃ (g:Gh) ,Fr gI wI g w∧e 1=p1∧PT g.m w (x0:BoxLoom) p1) (fun X14 k14 aS h=>?_) ?_))
 ·obtain ⟨oE, hx, h⟩ := Gc h
  refine Th (fun e w=>∃ (g:Gh) ,Fr gI wI g w∧e 1=p1∧PT g.m w (x0:BoxLoom) p1∧e 17=.bool (oE)) (fun Q' hQ=>?_) (fun dW vW hR=>?_)
  ·replace h := hx
   clear hx
   refine Za (Zy (Gj p1 0) (Zc Wo rfl (PT.ptr q1)) rfl ?_)
   have vS:=Zm (Ts).1 q1
   refine Ze .plain rfl (Gr (g:=g1) Try.isAgg22 Try.sizeOf22 rfl vS fun xW xS=>?_)
   refine Zy (.int .i64 (((x0).Boxes).length:Int)) (Tw Try.underlying22 rfl xS) rfl ?_
   refine Gu (.bool (((((x0).Boxes).length:Int) != (2:Int)))) rfl rfl rfl rfl ?_
   refine Zn (.bool (((((x0).Boxes).length:Int) != (2:Int)))) rfl rfl ?_
   rcases Zt h with ⟨mE,h⟩ | ⟨mE,h⟩
   ·refine Ga rfl rfl mE rfl rfl ?_
    iterate 3 refine Ga rfl rfl mE rfl rfl ?_
    refine Zy (.bool true) (Zl (b:=((((x0).Boxes).length:Int) != (2:Int))) rfl (Tp mE rfl)) rfl ?_
    refine Zb ?_
    obtain rfl:=sinj h
    exact hQ _ _ ⟨g1,hfr,rfl,q1,rfl⟩
   ·refine Zz (Gj p1 1) (Zc at_25_1 rfl (PT.ptr q1)) rfl rfl mE rfl ?_
    have yS:=Zm (Qo).1 q1
    refine Ze (.yes2 rfl rfl mE) rfl (Gr (g:=g1) Try.isAgg22 Try.sizeOf22 rfl yS fun yW zS=>?_)
    refine Zz (.int .i64 (((x0).At).length:Int)) (Tw Try.underlying22 rfl zS) rfl rfl mE rfl ?_
    refine Zz (.bool (((((x0).At).length:Int) != (2:Int)))) (Td rfl rfl rfl) rfl rfl mE rfl ?_
    refine Zy (.bool (((((x0).At).length:Int) != (2:Int)))) (Zl (b:=((((x0).Boxes).length:Int) != (2:Int))) rfl (Tl mE rfl)) rfl ?_
    refine Zb ?_
    obtain rfl:=sinj h
    exact hQ _ _ ⟨g1,hfr,rfl,q1,rfl⟩
  ·clear hx
   obtain ⟨eT,hfr,bP,cP,mJ⟩:=hR
   rcases Zt h with ⟨mK,h⟩ | ⟨mK,h⟩
   ·refine To (Eq.trans (show ev _ _ = .bool (oE) from mJ) (congrArg Value.bool mK)) ?_
    refine Zf (Za (Zg (.int .i64 (4)) rfl rfl ?_))
    refine Zb (Zd (Gw (Tc ?_)))
    obtain rfl:=sinj h
    exact Wb rfl rfl (show _=.int .i64 (4) from rfl) ⟨_,hfr,rfl⟩
   ·refine Tk (Eq.trans (show ev _ _ = .bool (oE) from mJ) (congrArg Value.bool mK)) ?_
    exact Zu (Zd (aS () _ _ ⟨eT,hfr,bP,cP⟩ h))
 ·rintro _ eW zW ⟨lT, hfr, dP, eP⟩ h
  refine Zq h (fun (s:Unit) e w=>∃ (g:Gh) ,Fr gI wI g w∧e 1=p1∧PT g.m w (x0:BoxLoom) p1) (fun X321 mN gP h=>?_) ?_
  ·refine Zf (Za (Zg (.int .i64 (0)) rfl rfl ?_))
   refine Zb (Zd (Zr ?_))
   refine E_lp h (fun (s:Int) e w=>∃ (g:Gh) ,Fr gI wI g w∧e 1=p1∧PT g.m w (x0:BoxLoom) p1∧e 3=.int .i64 (s)) ⟨lT,hfr,dP,eP,rfl⟩ (fun X322 nN iP=>?_)
   rintro v8 eU gW ⟨qN,hfr,nJ,oJ,pJ⟩ h
   refine Zq h (fun (s:Unit) e w=>∃ (g:Gh) ,Fr gI wI g w∧e 1=p1∧PT g.m w (x0:BoxLoom) p1∧e 3=.int .i64 (v8)) (fun X325 pN jP h=>?_) ?_
   ·refine Zf (Za (Zo pJ rfl ?_))
    refine Gu (.bool ((decide (v8 < (2:Int))))) rfl rfl rfl rfl ?_
    refine Zb (Zd ?_)
    rcases Zt h with ⟨zH,h⟩ | ⟨zH,h⟩
    ·refine Qq zH rfl ?_
     exact Zu (Zd (jP () _ _ ⟨qN,hfr,nJ,oJ,pJ⟩ h))
    ·refine Qr zH rfl ?_
     refine Qm ?_
     refine Tm ?_
     refine Tm ?_
     refine Tu ?_
     exact Zd (gP () _ _ ⟨qN,hfr,nJ,oJ⟩ h)
   ·rintro _ gU iW ⟨rN, hfr, aE, vB, bE⟩ h
    refine Zq h (fun (s:Unit) e w=>∃ (g:Gh) ,Fr gI wI g w∧e 1=p1∧PT g.m w (x0:BoxLoom) p1∧e 3=.int .i64 (v8)) (fun X470 oN kP h=>?_) ?_
    ·refine Zr ?_
     obtain ⟨zD,hx,h⟩:=Gc h
     refine Th (fun e w=>∃ (g:Gh) ,Fr gI wI g w∧e 1=p1∧PT g.m w (x0:BoxLoom) p1∧e 3=.int .i64 (v8)∧e 43=.bool (zD)) (fun Q' hQ=>?_) (fun iU jW hR=>?_)
     ·replace h := hx
      clear hx
      have bS:=Zm (Ts).1 vB
      refine Zs (x:=.tmp 22) Try.isAgg22 Try.sizeOf22 bS fun aI nK dL=>?_
      obtain ⟨uF,bI,h⟩:=Gc h
      have cS:=Tj nK bI
      refine Zs (x:=.tmp 25) Try.isAgg3 Try.sizeOf3 cS fun kW dS eL=>?_
      obtain rfl:=Zj.1 dS
      obtain ⟨nD,gL,h⟩:=Gc h
      rcases Zt h with ⟨oB,h⟩ | ⟨oB,h⟩
      ·refine Tt (g := rN) (n := 22) [(5, (fun v g w => v = .bool (nD)))] [0, 1, 2, 3, 4, 5, 6, 7, 8, 9, 10, 11, 12, 13, 14, 15, 16, 17, 18, 19, 20, 21] rfl Qf (by kernel_rfl) (⟨fun _ => Tr _, trivial⟩) ?_
       refine Gb (Gj p1 0) rfl rfl (Zc Wo aE (PT.ptr vB)) ?_
       refine Gy (c:=aI) rfl rfl .plain (fun _ _ h=>h.ch) dL rfl ?_
       refine Gb (.int .i64 (v8)) rfl rfl (Zk bE) ?_
       refine Gb (Qc aI v8 1) rfl rfl (Zh (α:=Int) Try.underlying22 Try.sizeOf3 rfl nK rfl bI) ?_
       refine Gy (c:=.int .i64 (uF)) rfl rfl .plain (fun _ _ h=>h.ch) eL rfl ?_
       refine Qa (φ:=fun v g w=>v=.bool (nD)) rfl rfl .plain (fun g w hd=>Zp (g:=g) (vs:=[.int .i64 (uF),.int .i64 (1),.int .i64 (4)]) en59 (.cons rfl (.cons rfl (.cons rfl .nil))) (wk59  gL) fun g' w' v hs hr=>⟨g',hs,hr⟩) (fun eS hv=>?_)
       obtain ⟨_,_,_,rfl⟩:=hv
       refine Gb (.bool (!nD)) rfl rfl (Wm rfl) ?_
       refine Gb (.bool (!nD)) rfl rfl (Zk rfl) ?_
       iterate 13 refine L_s rfl rfl rfl oB rfl ?_
       refine Gb (.bool true) rfl rfl (Zl (b:=(!nD)) rfl (Tp oB rfl)) ?_
       refine L_nl fun gS lW hs=>?_
       have hfr:=hfr.ext hs
       have vB:=vB.ext hs
       clear hs
       refine Zb ?_
       obtain rfl:=sinj h
       exact hQ _ _ ⟨gS,hfr,aE,vB,bE,rfl⟩
      ·have iS := Zm (Qo).1 vB
       refine Zs (x:=.tmp 30) Try.isAgg22 Try.sizeOf22 iS fun sN tN lP=>?_
       obtain ⟨yH,iL,h⟩:=Gc h
       have jS:=Tj tN iL
       refine Zs (x:=.tmp 33) Try.isAgg3 Try.sizeOf3 jS fun mW lS mP=>?_
       obtain rfl:=Zj.1 lS
       have mS:=Zm (Ts).1 vB
       refine Zs (x:=.tmp 35) Try.isAgg22 Try.sizeOf22 mS fun uN vN nP=>?_
       obtain ⟨iG,jL,h⟩:=Gc h
       have nS:=Tj vN jL
       refine Zs (x:=.tmp 38) Try.isAgg3 Try.sizeOf3 nS fun nW oS oP=>?_
       obtain rfl:=Zj.1 oS
       obtain ⟨vF,pP,h⟩:=Gc h
       refine Tt (g:=rN) (n:=22) [(5,(fun v g w=>v=.bool (nD))),(19,(fun v g w=>v=.bool (vF)))] [0,1,2,3,4,5,6,7,8,9,10,11,12,13,14,15,16,17,18,19,20,21] rfl Qf (by kernel_rfl) (⟨fun _=>Tr _,fun _=>Tr _,trivial⟩) ?_
       refine Gb (Gj p1 0) rfl rfl (Zc Wo aE (PT.ptr vB)) ?_
       refine Gy (c:=aI) rfl rfl .plain (fun _ _ h=>h.ch) dL rfl ?_
       refine Gb (.int .i64 (v8)) rfl rfl (Zk bE) ?_
       refine Gb (Qc aI v8 1) rfl rfl (Zh (α:=Int) Try.underlying22 Try.sizeOf3 rfl nK rfl bI) ?_
       refine Gy (c:=.int .i64 (uF)) rfl rfl .plain (fun _ _ h=>h.ch) eL rfl ?_
       refine Qa (φ:=fun v g w=>v=.bool (nD)) rfl rfl .plain (fun g w hd=>Zp (g:=g) (vs:=[.int .i64 (uF),.int .i64 (1),.int .i64 (4)]) en59 (.cons rfl (.cons rfl (.cons rfl .nil))) (wk59  gL) fun g' w' v hs hr=>⟨g',hs,hr⟩) (fun eS hv=>?_)
       obtain ⟨_,_,_,rfl⟩:=hv
       refine Gb (.bool (!nD)) rfl rfl (Wm rfl) ?_
       refine Gb (.bool (!nD)) rfl rfl (Zk rfl) ?_
       refine L_y (Gj p1 1) rfl rfl rfl rfl oB (Zc at_25_1 aE (PT.ptr vB)) ?_
       refine Gy (c:=sN) rfl rfl (.yes2 rfl rfl oB) (fun _ _ h=>h.ch) lP rfl ?_
       refine L_y (.int .i64 (v8)) rfl rfl rfl rfl oB (Zk bE) ?_
       refine L_y (Qc sN v8 1) rfl rfl rfl rfl oB (Zh (α:=Int) Try.underlying22 Try.sizeOf3 rfl tN rfl iL) ?_
       refine Gy (c:=.int .i64 (yH)) rfl rfl (.yes2 rfl rfl oB) (fun _ _ h=>h.ch) mP rfl ?_
       refine L_y (Gj p1 0) rfl rfl rfl rfl oB (Zc Wo aE (PT.ptr vB)) ?_
       refine Gy (c:=uN) rfl rfl (.yes2 rfl rfl oB) (fun _ _ h=>h.ch) nP rfl ?_
       refine L_y (.int .i64 (v8)) rfl rfl rfl rfl oB (Zk bE) ?_
       refine L_y (Qc uN v8 1) rfl rfl rfl rfl oB (Zh (α:=Int) Try.underlying22 Try.sizeOf3 rfl vN rfl jL) ?_
       refine Gy (c:=.int .i64 (iG)) rfl rfl (.yes2 rfl rfl oB) (fun _ _ h=>h.ch) oP rfl ?_
       refine L_y (.int .i64 ((w64 (iG - (1:Int))))) rfl rfl rfl rfl oB (Td rfl rfl rfl) ?_
       refine Qa (φ:=fun v g w=>v=.bool (vF)) rfl rfl (.yes2 rfl rfl oB) (fun g w hd=>Zp (g:=g) (vs:=[.int .i64 (yH),.int .i64 (0),.int .i64 ((w64 (iG - (1:Int))))]) en59 (.cons rfl (.cons rfl (.cons rfl .nil))) (wk59  pP) fun g' w' v hs hr=>⟨g',hs,hr⟩) (fun oW hv=>?_)
       obtain ⟨_,_,_,rfl⟩:=hv
       refine L_y (.bool (!vF)) rfl rfl rfl rfl oB (Wm rfl) ?_
       refine Gb (.bool (!vF)) rfl rfl (Zl (b:=(!nD)) rfl (Tl oB rfl)) ?_
       refine L_nl fun pS pW hs=>?_
       have hfr:=hfr.ext hs
       have vB:=vB.ext hs
       clear hs
       refine Zb ?_
       obtain rfl:=sinj h
       exact hQ _ _ ⟨pS,hfr,aE,vB,bE,rfl⟩
     ·clear hx
      obtain ⟨qS,hfr,xN,yN,zN,nH⟩:=hR
      rcases Zt h with ⟨dI,h⟩ | ⟨dI,h⟩
      ·refine To (Eq.trans (show ev _ _ = .bool (zD) from nH) (congrArg Value.bool dI)) ?_
       refine Zf (Za (Zg (.int .i64 (3)) rfl rfl ?_))
       refine Zb (Zd (Gw (Qu ?_)))
       refine Tc ?_
       refine Tc ?_
       refine Qu ?_
       refine Tc ?_
       obtain rfl:=sinj h
       exact Wb rfl rfl (show _=.int .i64 (3) from rfl) ⟨_,hfr,rfl⟩
      ·refine Tk (Eq.trans (show ev _ _ = .bool (zD) from nH) (congrArg Value.bool dI)) ?_
       exact Zu (Qn (Zd (kP () _ _ ⟨qS,hfr,xN,yN,zN⟩ h)))
    ·rintro _ jU qW ⟨rS, hfr, aO, bO, cO⟩ h
     refine Za (Zo cO rfl ?_)
     refine Gu (.int .i64 ((w64 (v8 + (1:Int))))) rfl rfl rfl rfl ?_
     refine Zg (.int .i64 ((w64 (v8 + (1:Int))))) rfl rfl ?_
     exact Zb (Zd (iP ((w64 (v8 + (1:Int)))) _ _ ⟨rS,hfr,aO,bO,rfl⟩ h))
  ·rintro _ kU sW ⟨dO, hfr, qJ, jG⟩ h
   refine Zq h (fun (s:Unit) e w=>∃ (g:Gh) ,Fr gI wI g w∧e 1=p1∧PT g.m w (x0:BoxLoom) p1) (fun X618 lN sP h=>?_) ?_
   ·refine Zf (Za (Zy (Gj p1 2) (Zc Qk qJ (PT.ptr jG)) rfl ?_))
    have sS:=Zm (Gx).1 jG
    refine Ze .plain rfl (Gr (g:=dO) Try.isAgg23 Try.sizeOf23 rfl sS fun tW tS=>?_)
    refine Zy (.int .i64 (((x0).Shuttles).length:Int)) (Tw Try.underlying23 rfl tS) rfl ?_
    refine Zy (.bool ((decide ((((x0).Shuttles).length:Int) > (6:Int))))) (Td rfl rfl rfl) rfl ?_
    refine Zb (Zd ?_)
    rcases Zt h with ⟨iI,h⟩ | ⟨iI,h⟩
    ·refine Qq iI rfl ?_
     refine Zf (Za (Zg (.int .i64 (5)) rfl rfl ?_))
     refine Zb (Zd (Gw (Tc ?_)))
     obtain rfl:=sinj h
     exact Wb rfl rfl (show _=.int .i64 (5) from rfl) ⟨_,hfr,rfl⟩
    ·refine Qr iI rfl ?_
     exact Zu (Zd (sP () _ _ ⟨dO,hfr,qJ,jG⟩ h))
   ·rintro _ lU uW ⟨uS, hfr, eO, gO⟩ h
    refine Zq h (fun (s:Unit) e w=>∃ (g:Gh) ,Fr gI wI g w∧e 1=p1∧PT g.m w (x0:BoxLoom) p1) (fun X1749 yK jO h=>?_) ?_
    ·refine Zf (Za (Zg (.int .i64 (0)) rfl rfl ?_))
     refine Zb (Zd (Zr ?_))
     refine E_lp h (fun (s:Int) e w=>∃ (g:Gh) ,Fr gI wI g w∧e 1=p1∧PT g.m w (x0:BoxLoom) p1∧e 4=.int .i64 (s)) ⟨uS,hfr,eO,gO,rfl⟩ (fun X1750 zK kO=>?_)
     rintro nB mT mU ⟨jI,hfr,xF,vE,oH⟩ h
     refine Zq h (fun (s:Unit) e w=>∃ (g:Gh) ,Fr gI wI g w∧e 1=p1∧PT g.m w (x0:BoxLoom) p1∧e 4=.int .i64 (nB)) (fun X1755 bL lO h=>?_) ?_
     ·refine Zf (Za (Zo oH rfl ?_))
      refine Zy (Gj p1 2) (Zc Qk xF (PT.ptr vE)) rfl ?_
      have tP:=Zm (Gx).1 vE
      refine Ze .plain rfl (Gr (g:=jI) Try.isAgg23 Try.sizeOf23 rfl tP fun nU uP=>?_)
      refine Zy (.int .i64 (((x0).Shuttles).length:Int)) (Tw Try.underlying23 rfl uP) rfl ?_
      refine Zy (.bool ((decide (nB < (((x0).Shuttles).length:Int))))) (Td rfl rfl rfl) rfl ?_
      refine Zb (Zd ?_)
      rcases Zt h with ⟨kG,h⟩ | ⟨kG,h⟩
      ·refine Qq kG rfl ?_
       exact Zu (Zd (lO () _ _ ⟨jI,hfr,xF,vE,oH⟩ h))
      ·refine Qr kG rfl ?_
       refine Qm ?_
       refine Tm ?_
       refine Tm ?_
       refine Tu ?_
       exact Zd (jO () _ _ ⟨jI,hfr,xF,vE⟩ h)
     ·rintro _ nT oU ⟨kI, hfr, zB, t5, oD⟩ h
      refine Zq h (fun (s:Unit) e w=>∃ (g:Gh) ,Fr gI wI g w∧e 1=p1∧PT g.m w (x0:BoxLoom) p1∧e 4=.int .i64 (nB)) (fun X2317 aL mO h=>?_) ?_
      ·refine Zr ?_
       refine Zf (Za (Zy (Gj p1 2) (Zc Qk zB (PT.ptr t5)) rfl ?_))
       have vP:=Zm (Gx).1 t5
       refine Ze .plain rfl (Gr (g:=kI) Try.isAgg23 Try.sizeOf23 rfl vP fun xP lL=>?_)
       refine Zo oD rfl ?_
       obtain ⟨o0,rJ,h⟩:=Gc h
       refine Zy (Qc xP nB 5) (Zh (α:=Zv) Try.underlying23 Try.sizeOf87 rfl lL rfl rJ) rfl ?_
       have yP:=Tj lL rJ
       refine Ze .plain rfl (Gr (g:=kI) Try.isAgg87 Try.sizeOf87 rfl yP fun zP lI=>?_)
       refine Ze .plain rfl (Gs (g:=kI) 2005 (⟨0,0,0,⟨0,0⟩⟩:Zv) Try.zeroValue87 (fun m w=>⟨_,(Gg Zx (Gg Zx (Gg Zx (Gg Zx Zx)))),rfl⟩) fun bQ pU n9 hs b2323 cb=>?_)
       have hfr:=hfr.stp hs
       have t5:=t5.stp hs
       have lI:=lI.stp hs
       clear cb
       refine Ze .plain rfl (Gk (g:=bQ) (v:=zP) Try.sizeOf87 rfl b2323 rfl lI fun eF qU hs b2324 cb=>?_)
       clear cb
       have hfr:=hfr.stp hs
       have t5:=t5.stp hs
       refine Zb (Zd ?_)
       obtain ⟨yD,hx,h⟩:=Gc h
       refine Th (fun e w=>∃ (g:Gh) ,Fr gI wI g w∧e 1=p1∧PT g.m w (x0:BoxLoom) p1∧e 4=.int .i64 (nB)∧e 98=.bool (yD)) (fun Q' hQ=>?_) (fun oT rU hR=>?_)
       ·replace h := hx
        clear hx
        refine Wg (x:=.tmp 60) part_BoxShuttle_0.1 Try.isAgg3 Try.sizeOf3 b2324 fun sU cQ rE=>?_
        obtain rfl:=Zj.1 cQ
        obtain ⟨l8,uE,h⟩:=Gc h
        rcases Zt h with ⟨g8,h⟩ | ⟨g8,h⟩
        ·refine Tt (g := eF) (n := 39) [(2, (fun v g w => v = .bool (l8)))] [0, 1, 2, 3, 4, 5, 6, 7, 8, 9, 10, 11, 12, 13, 14, 15, 16, 17, 18, 19, 20, 21, 22, 23, 24, 25, 26, 27, 28, 29, 30, 31, 32, 33, 34, 35, 36, 37, 38] rfl Qf (by kernel_rfl) (⟨fun _ => Tr _, trivial⟩) ?_
         refine Gb (Gj n9 0) rfl rfl (Zc at_87_0 rfl (OB.ptr b2324)) ?_
         refine Gy (c:=.int .i64 ((o0).Colour)) rfl rfl .plain (fun _ _ h=>⟨h.ch,fun b hb _=>h.below.block b hb⟩) rE rfl ?_
         refine Qa (φ:=fun v g w=>v=.bool (l8)) rfl rfl .plain (fun g w hd=>Zp (g:=g) (vs:=[.int .i64 ((o0).Colour),.int .i64 (0),.int .i64 (9)]) en59 (.cons rfl (.cons rfl (.cons rfl .nil))) (wk59  uE) fun g' w' v hs hr=>⟨g',hs,hr⟩) (fun eG hv=>?_)
         obtain ⟨_,_,_,rfl⟩:=hv
         refine Gb (.bool (!l8)) rfl rfl (Wm rfl) ?_
         refine Gb (.bool (!l8)) rfl rfl (Zk rfl) ?_
         iterate 4 refine L_s rfl rfl rfl g8 rfl ?_
         refine Gb (.bool true) rfl rfl (Zl (b:=(!l8)) rfl (Tp g8 rfl)) ?_
         refine L_dead (fun _=>rfl) 29 rfl ?_
         refine L_nl fun dQ tU hs=>?_
         have hfr:=hfr.ext hs
         have t5:=t5.ext hs
         clear hs
         refine Zb ?_
         obtain rfl:=sinj h
         exact hQ _ _ ⟨dQ,hfr,zB,t5,oD,rfl⟩
        ·refine Wg (x := .tmp 65) Qt.1 Try.isAgg3 Try.sizeOf3 b2324 fun uU eQ rF => ?_
         obtain rfl:=Zj.1 eQ
         obtain ⟨n8,sF,h⟩:=Gc h
         rcases Zt h with ⟨u3,h⟩ | ⟨u3,h⟩
         ·refine Tt (g := eF) (n := 39) [(2, (fun v g w => v = .bool (l8))), (7, (fun v g w => v = .bool (n8)))] [0, 1, 2, 3, 4, 5, 6, 7, 8, 9, 10, 11, 12, 13, 14, 15, 16, 17, 18, 19, 20, 21, 22, 23, 24, 25, 26, 27, 28, 29, 30, 31, 32, 33, 34, 35, 36, 37, 38] rfl Qf (by kernel_rfl) (⟨fun _ => Tr _, fun _ => Tr _, trivial⟩) ?_
          refine Gb (Gj n9 0) rfl rfl (Zc at_87_0 rfl (OB.ptr b2324)) ?_
          refine Gy (c:=.int .i64 ((o0).Colour)) rfl rfl .plain (fun _ _ h=>⟨h.ch,fun b hb _=>h.below.block b hb⟩) rE rfl ?_
          refine Qa (φ:=fun v g w=>v=.bool (l8)) rfl rfl .plain (fun g w hd=>Zp (g:=g) (vs:=[.int .i64 ((o0).Colour),.int .i64 (0),.int .i64 (9)]) en59 (.cons rfl (.cons rfl (.cons rfl .nil))) (wk59  uE) fun g' w' v hs hr=>⟨g',hs,hr⟩) (fun eG hv=>?_)
          obtain ⟨_,_,_,rfl⟩:=hv
          refine Gb (.bool (!l8)) rfl rfl (Wm rfl) ?_
          refine Gb (.bool (!l8)) rfl rfl (Zk rfl) ?_
          refine L_y (Gj n9 1) rfl rfl rfl rfl g8 (Zc Ww rfl (OB.ptr b2324)) ?_
          refine Gy (c:=.int .i64 ((o0).Side)) rfl rfl (.yes2 rfl rfl g8) (fun _ _ h=>⟨h.ch,fun b hb _=>h.below.block b hb⟩) rF rfl ?_
          refine Qa (φ:=fun v g w=>v=.bool (n8)) rfl rfl (.yes2 rfl rfl g8) (fun g w hd=>Zp (g:=g) (vs:=[.int .i64 ((o0).Side),.int .i64 (0),.int .i64 (1)]) en59 (.cons rfl (.cons rfl (.cons rfl .nil))) (wk59  sF) fun g' w' v hs hr=>⟨g',hs,hr⟩) (fun mI hv=>?_)
          obtain ⟨_,_,_,rfl⟩:=hv
          refine L_y (.bool (!n8)) rfl rfl rfl rfl g8 (Wm rfl) ?_
          refine Gb (.bool (!n8)) rfl rfl (Zl (b:=(!l8)) rfl (Tl g8 rfl)) ?_
          refine Gb (.bool (!n8)) rfl rfl (Zk rfl) ?_
          iterate 11 refine L_s rfl rfl rfl u3 rfl ?_
          refine Gb (.bool true) rfl rfl (Zl (b:=(!n8)) rfl (Tp u3 rfl)) ?_
          refine L_dead (fun _=>rfl) 16 rfl ?_
          refine L_nl fun gQ vU hs=>?_
          have hfr:=hfr.ext hs
          have t5:=t5.ext hs
          clear hs
          refine Zb ?_
          obtain rfl:=sinj h
          exact hQ _ _ ⟨gQ,hfr,zB,t5,oD,rfl⟩
         ·refine Wg (x := .tmp 71) Wl.1 Try.isAgg3 Try.sizeOf3 b2324 fun xU iQ lG => ?_
          obtain rfl:=Zj.1 iQ
          have jQ:=Zm (Ts).1 t5
          refine Zs (x:=.tmp 73) Try.isAgg22 Try.sizeOf22 jQ fun xE gG mG=>?_
          refine Wg (x:=.tmp 75) Qt.1 Try.isAgg3 Try.sizeOf3 b2324 fun yU kQ sG=>?_
          obtain rfl:=Zj.1 kQ
          obtain ⟨uC,tF,h⟩:=Gc h
          have lQ:=Tj gG tF
          refine Zs (x:=.tmp 77) Try.isAgg3 Try.sizeOf3 lQ fun zU mQ xG=>?_
          obtain rfl:=Zj.1 mQ
          obtain ⟨mB,yG,h⟩:=Gc h
          rcases Zt h with ⟨l9,h⟩ | ⟨l9,h⟩
          ·refine Tt (g := eF) (n := 39) [(2, (fun v g w => v = .bool (l8))), (7, (fun v g w => v = .bool (n8))), (20, (fun v g w => v = .bool (mB)))] [0, 1, 2, 3, 4, 5, 6, 7, 8, 9, 10, 11, 12, 13, 14, 15, 16, 17, 18, 19, 20, 21, 22, 23, 24, 25, 26, 27, 28, 29, 30, 31, 32, 33, 34, 35, 36, 37, 38] rfl Qf (by kernel_rfl) (⟨fun _ => Tr _, fun _ => Tr _, fun _ => Tr _, trivial⟩) ?_
           refine Gb (Gj n9 0) rfl rfl (Zc at_87_0 rfl (OB.ptr b2324)) ?_
           refine Gy (c:=.int .i64 ((o0).Colour)) rfl rfl .plain (fun _ _ h=>⟨h.ch,fun b hb _=>h.below.block b hb⟩) rE rfl ?_
           refine Qa (φ:=fun v g w=>v=.bool (l8)) rfl rfl .plain (fun g w hd=>Zp (g:=g) (vs:=[.int .i64 ((o0).Colour),.int .i64 (0),.int .i64 (9)]) en59 (.cons rfl (.cons rfl (.cons rfl .nil))) (wk59  uE) fun g' w' v hs hr=>⟨g',hs,hr⟩) (fun eG hv=>?_)
           obtain ⟨_,_,_,rfl⟩:=hv
           refine Gb (.bool (!l8)) rfl rfl (Wm rfl) ?_
           refine Gb (.bool (!l8)) rfl rfl (Zk rfl) ?_
           refine L_y (Gj n9 1) rfl rfl rfl rfl g8 (Zc Ww rfl (OB.ptr b2324)) ?_
           refine Gy (c:=.int .i64 ((o0).Side)) rfl rfl (.yes2 rfl rfl g8) (fun _ _ h=>⟨h.ch,fun b hb _=>h.below.block b hb⟩) rF rfl ?_
           refine Qa (φ:=fun v g w=>v=.bool (n8)) rfl rfl (.yes2 rfl rfl g8) (fun g w hd=>Zp (g:=g) (vs:=[.int .i64 ((o0).Side),.int .i64 (0),.int .i64 (1)]) en59 (.cons rfl (.cons rfl (.cons rfl .nil))) (wk59  sF) fun g' w' v hs hr=>⟨g',hs,hr⟩) (fun mI hv=>?_)
           obtain ⟨_,_,_,rfl⟩:=hv
           refine L_y (.bool (!n8)) rfl rfl rfl rfl g8 (Wm rfl) ?_
           refine Gb (.bool (!n8)) rfl rfl (Zl (b:=(!l8)) rfl (Tl g8 rfl)) ?_
           refine Gb (.bool (!n8)) rfl rfl (Zk rfl) ?_
           refine L_y (Gj n9 2) rfl rfl rfl rfl u3 (Zc at_87_2 rfl (OB.ptr b2324)) ?_
           refine Gy (c:=.int .i64 ((o0).Box)) rfl rfl (.yes2 rfl rfl u3) (fun _ _ h=>⟨h.ch,fun b hb _=>h.below.block b hb⟩) lG rfl ?_
           refine L_y (Gj p1 0) rfl rfl rfl rfl u3 (Zc Wo zB (PT.ptr t5)) ?_
           refine Gy (c:=xE) rfl rfl (.yes2 rfl rfl u3) (fun _ _ h=>h.ch) mG rfl ?_
           refine L_y (Gj n9 1) rfl rfl rfl rfl u3 (Zc Ww rfl (OB.ptr b2324)) ?_
           refine Gy (c:=.int .i64 ((o0).Side)) rfl rfl (.yes2 rfl rfl u3) (fun _ _ h=>⟨h.ch,fun b hb _=>h.below.block b hb⟩) sG rfl ?_
           refine L_y (Qc xE (o0).Side 1) rfl rfl rfl rfl u3 (Zh (α:=Int) Try.underlying22 Try.sizeOf3 rfl gG rfl tF) ?_
           refine Gy (c:=.int .i64 (uC)) rfl rfl (.yes2 rfl rfl u3) (fun _ _ h=>h.ch) xG rfl ?_
           refine L_y (.int .i64 ((w64 (uC - (1:Int))))) rfl rfl rfl rfl u3 (Td rfl rfl rfl) ?_
           refine Qa (φ:=fun v g w=>v=.bool (mB)) rfl rfl (.yes2 rfl rfl u3) (fun g w hd=>Zp (g:=g) (vs:=[.int .i64 ((o0).Box),.int .i64 (0),.int .i64 ((w64 (uC - (1:Int))))]) en59 (.cons rfl (.cons rfl (.cons rfl .nil))) (wk59  yG) fun g' w' v hs hr=>⟨g',hs,hr⟩) (fun mL hv=>?_)
           obtain ⟨_,_,_,rfl⟩:=hv
           refine L_y (.bool (!mB)) rfl rfl rfl rfl u3 (Wm rfl) ?_
           refine Gb (.bool (!mB)) rfl rfl (Zl (b:=(!n8)) rfl (Tl u3 rfl)) ?_
           refine Gb (.bool (!mB)) rfl rfl (Zk rfl) ?_
           iterate 8 refine L_s rfl rfl rfl l9 rfl ?_
           refine Gb (.bool true) rfl rfl (Zl (b:=(!mB)) rfl (Tp l9 rfl)) ?_
           refine L_dead (fun _=>rfl) 6 rfl ?_
           refine L_nl fun nQ aV hs=>?_
           have hfr:=hfr.ext hs
           have t5:=t5.ext hs
           clear hs
           refine Zb ?_
           obtain rfl:=sinj h
           exact hQ _ _ ⟨nQ,hfr,zB,t5,oD,rfl⟩
          ·refine Wg (x := .tmp 85) (Ta.comp Wd part_Span_0 rfl).1 Try.isAgg3 Try.sizeOf3 b2324 fun bV oQ sJ => ?_
           obtain rfl:=Zj.1 oQ
           refine Wg (x:=.tmp 88) (Ta.comp Wd part_Span_1 rfl).1 Try.isAgg3 Try.sizeOf3 b2324 fun cV pQ vJ=>?_
           obtain rfl:=Zj.1 pQ
           obtain ⟨yB,xJ,h⟩:=Gc h
           rcases Zt h with ⟨lD,h⟩ | ⟨lD,h⟩
           ·refine Tt (g := eF) (n := 39) [(2, (fun v g w => v = .bool (l8))), (7, (fun v g w => v = .bool (n8))), (20, (fun v g w => v = .bool (mB))), (30, (fun v g w => v = .bool (yB)))] [0, 1, 2, 3, 4, 5, 6, 7, 8, 9, 10, 11, 12, 13, 14, 15, 16, 17, 18, 19, 20, 21, 22, 23, 24, 25, 26, 27, 28, 29, 30, 31, 32, 33, 34, 35, 36, 37, 38] rfl Qf (by kernel_rfl) (⟨fun _ => Tr _, fun _ => Tr _, fun _ => Tr _, fun _ => Tr _, trivial⟩) ?_
            refine Gb (Gj n9 0) rfl rfl (Zc at_87_0 rfl (OB.ptr b2324)) ?_
            refine Gy (c:=.int .i64 ((o0).Colour)) rfl rfl .plain (fun _ _ h=>⟨h.ch,fun b hb _=>h.below.block b hb⟩) rE rfl ?_
            refine Qa (φ:=fun v g w=>v=.bool (l8)) rfl rfl .plain (fun g w hd=>Zp (g:=g) (vs:=[.int .i64 ((o0).Colour),.int .i64 (0),.int .i64 (9)]) en59 (.cons rfl (.cons rfl (.cons rfl .nil))) (wk59  uE) fun g' w' v hs hr=>⟨g',hs,hr⟩) (fun eG hv=>?_)
            obtain ⟨_,_,_,rfl⟩:=hv
            refine Gb (.bool (!l8)) rfl rfl (Wm rfl) ?_
            refine Gb (.bool (!l8)) rfl rfl (Zk rfl) ?_
            refine L_y (Gj n9 1) rfl rfl rfl rfl g8 (Zc Ww rfl (OB.ptr b2324)) ?_
            refine Gy (c:=.int .i64 ((o0).Side)) rfl rfl (.yes2 rfl rfl g8) (fun _ _ h=>⟨h.ch,fun b hb _=>h.below.block b hb⟩) rF rfl ?_
            refine Qa (φ:=fun v g w=>v=.bool (n8)) rfl rfl (.yes2 rfl rfl g8) (fun g w hd=>Zp (g:=g) (vs:=[.int .i64 ((o0).Side),.int .i64 (0),.int .i64 (1)]) en59 (.cons rfl (.cons rfl (.cons rfl .nil))) (wk59  sF) fun g' w' v hs hr=>⟨g',hs,hr⟩) (fun mI hv=>?_)
            obtain ⟨_,_,_,rfl⟩:=hv
            refine L_y (.bool (!n8)) rfl rfl rfl rfl g8 (Wm rfl) ?_
            refine Gb (.bool (!n8)) rfl rfl (Zl (b:=(!l8)) rfl (Tl g8 rfl)) ?_
            refine Gb (.bool (!n8)) rfl rfl (Zk rfl) ?_
            refine L_y (Gj n9 2) rfl rfl rfl rfl u3 (Zc at_87_2 rfl (OB.ptr b2324)) ?_
            refine Gy (c:=.int .i64 ((o0).Box)) rfl rfl (.yes2 rfl rfl u3) (fun _ _ h=>⟨h.ch,fun b hb _=>h.below.block b hb⟩) lG rfl ?_
            refine L_y (Gj p1 0) rfl rfl rfl rfl u3 (Zc Wo zB (PT.ptr t5)) ?_
            refine Gy (c:=xE) rfl rfl (.yes2 rfl rfl u3) (fun _ _ h=>h.ch) mG rfl ?_
            refine L_y (Gj n9 1) rfl rfl rfl rfl u3 (Zc Ww rfl (OB.ptr b2324)) ?_
            refine Gy (c:=.int .i64 ((o0).Side)) rfl rfl (.yes2 rfl rfl u3) (fun _ _ h=>⟨h.ch,fun b hb _=>h.below.block b hb⟩) sG rfl ?_
            refine L_y (Qc xE (o0).Side 1) rfl rfl rfl rfl u3 (Zh (α:=Int) Try.underlying22 Try.sizeOf3 rfl gG rfl tF) ?_
            refine Gy (c:=.int .i64 (uC)) rfl rfl (.yes2 rfl rfl u3) (fun _ _ h=>h.ch) xG rfl ?_
            refine L_y (.int .i64 ((w64 (uC - (1:Int))))) rfl rfl rfl rfl u3 (Td rfl rfl rfl) ?_
            refine Qa (φ:=fun v g w=>v=.bool (mB)) rfl rfl (.yes2 rfl rfl u3) (fun g w hd=>Zp (g:=g) (vs:=[.int .i64 ((o0).Box),.int .i64 (0),.int .i64 ((w64 (uC - (1:Int))))]) en59 (.cons rfl (.cons rfl (.cons rfl .nil))) (wk59  yG) fun g' w' v hs hr=>⟨g',hs,hr⟩) (fun mL hv=>?_)
            obtain ⟨_,_,_,rfl⟩:=hv
            refine L_y (.bool (!mB)) rfl rfl rfl rfl u3 (Wm rfl) ?_
            refine Gb (.bool (!mB)) rfl rfl (Zl (b:=(!n8)) rfl (Tl u3 rfl)) ?_
            refine Gb (.bool (!mB)) rfl rfl (Zk rfl) ?_
            refine L_y (Gj n9 3) rfl rfl rfl rfl l9 (Zc at_87_3 rfl (OB.ptr b2324)) ?_
            refine L_y (Gj n9 3) rfl rfl rfl rfl l9 (Qz (o1:=3) rfl at_85_0 rfl (OB.ptr b2324)) ?_
            refine Gy (c:=.int .i64 (((o0).Yarn).Low)) rfl rfl (.yes2 rfl rfl l9) (fun _ _ h=>⟨h.ch,fun b hb _=>h.below.block b hb⟩) sJ rfl ?_
            refine L_y (Gj n9 3) rfl rfl rfl rfl l9 (Zc at_87_3 rfl (OB.ptr b2324)) ?_
            refine L_y (Gj n9 4) rfl rfl rfl rfl l9 (Qz (o1:=3) rfl at_85_1 rfl (OB.ptr b2324)) ?_
            refine Gy (c:=.int .i64 (((o0).Yarn).High)) rfl rfl (.yes2 rfl rfl l9) (fun _ _ h=>⟨h.ch,fun b hb _=>h.below.block b hb⟩) vJ rfl ?_
            refine Qa (φ:=fun v g w=>v=.bool (yB)) rfl rfl (.yes2 rfl rfl l9) (fun g w hd=>Zp (g:=g) (vs:=[.int .i64 (((o0).Yarn).Low),.int .i64 (0),.int .i64 (((o0).Yarn).High)]) en59 (.cons rfl (.cons rfl (.cons rfl .nil))) (wk59  xJ) fun g' w' v hs hr=>⟨g',hs,hr⟩) (fun qQ hv=>?_)
            obtain ⟨_,_,_,rfl⟩:=hv
            refine L_y (.bool (!yB)) rfl rfl rfl rfl l9 (Wm rfl) ?_
            refine Gb (.bool (!yB)) rfl rfl (Zl (b:=(!mB)) rfl (Tl l9 rfl)) ?_
            refine Gb (.bool (!yB)) rfl rfl (Zk rfl) ?_
            iterate 4 refine L_s rfl rfl rfl lD rfl ?_
            refine Gb (.bool true) rfl rfl (Zl (b:=(!yB)) rfl (Tp lD rfl)) ?_
            refine L_nl fun rQ dV hs=>?_
            have hfr:=hfr.ext hs
            have t5:=t5.ext hs
            clear hs
            refine Zb ?_
            obtain rfl:=sinj h
            exact hQ _ _ ⟨rQ,hfr,zB,t5,oD,rfl⟩
           ·refine Wg (x := .tmp 95) (Ta.comp Wd part_Span_1 rfl).1 Try.isAgg3 Try.sizeOf3 b2324 fun eV sQ nO => ?_
            obtain rfl:=Zj.1 sQ
            refine Tt (g:=eF) (n:=39) [(2,(fun v g w=>v=.bool (l8))),(7,(fun v g w=>v=.bool (n8))),(20,(fun v g w=>v=.bool (mB))),(30,(fun v g w=>v=.bool (yB)))] [0,1,2,3,4,5,6,7,8,9,10,11,12,13,14,15,16,17,18,19,20,21,22,23,24,25,26,27,28,29,30,31,32,33,34,35,36,37,38] rfl Qf (by kernel_rfl) (⟨fun _=>Tr _,fun _=>Tr _,fun _=>Tr _,fun _=>Tr _,trivial⟩) ?_
            refine Gb (Gj n9 0) rfl rfl (Zc at_87_0 rfl (OB.ptr b2324)) ?_
            refine Gy (c:=.int .i64 ((o0).Colour)) rfl rfl .plain (fun _ _ h=>⟨h.ch,fun b hb _=>h.below.block b hb⟩) rE rfl ?_
            refine Qa (φ:=fun v g w=>v=.bool (l8)) rfl rfl .plain (fun g w hd=>Zp (g:=g) (vs:=[.int .i64 ((o0).Colour),.int .i64 (0),.int .i64 (9)]) en59 (.cons rfl (.cons rfl (.cons rfl .nil))) (wk59  uE) fun g' w' v hs hr=>⟨g',hs,hr⟩) (fun eG hv=>?_)
            obtain ⟨_,_,_,rfl⟩:=hv
            refine Gb (.bool (!l8)) rfl rfl (Wm rfl) ?_
            refine Gb (.bool (!l8)) rfl rfl (Zk rfl) ?_
            refine L_y (Gj n9 1) rfl rfl rfl rfl g8 (Zc Ww rfl (OB.ptr b2324)) ?_
            refine Gy (c:=.int .i64 ((o0).Side)) rfl rfl (.yes2 rfl rfl g8) (fun _ _ h=>⟨h.ch,fun b hb _=>h.below.block b hb⟩) rF rfl ?_
            refine Qa (φ:=fun v g w=>v=.bool (n8)) rfl rfl (.yes2 rfl rfl g8) (fun g w hd=>Zp (g:=g) (vs:=[.int .i64 ((o0).Side),.int .i64 (0),.int .i64 (1)]) en59 (.cons rfl (.cons rfl (.cons rfl .nil))) (wk59  sF) fun g' w' v hs hr=>⟨g',hs,hr⟩) (fun mI hv=>?_)
            obtain ⟨_,_,_,rfl⟩:=hv
            refine L_y (.bool (!n8)) rfl rfl rfl rfl g8 (Wm rfl) ?_
            refine Gb (.bool (!n8)) rfl rfl (Zl (b:=(!l8)) rfl (Tl g8 rfl)) ?_
            refine Gb (.bool (!n8)) rfl rfl (Zk rfl) ?_
            refine L_y (Gj n9 2) rfl rfl rfl rfl u3 (Zc at_87_2 rfl (OB.ptr b2324)) ?_
            refine Gy (c:=.int .i64 ((o0).Box)) rfl rfl (.yes2 rfl rfl u3) (fun _ _ h=>⟨h.ch,fun b hb _=>h.below.block b hb⟩) lG rfl ?_
            refine L_y (Gj p1 0) rfl rfl rfl rfl u3 (Zc Wo zB (PT.ptr t5)) ?_
            refine Gy (c:=xE) rfl rfl (.yes2 rfl rfl u3) (fun _ _ h=>h.ch) mG rfl ?_
            refine L_y (Gj n9 1) rfl rfl rfl rfl u3 (Zc Ww rfl (OB.ptr b2324)) ?_
            refine Gy (c:=.int .i64 ((o0).Side)) rfl rfl (.yes2 rfl rfl u3) (fun _ _ h=>⟨h.ch,fun b hb _=>h.below.block b hb⟩) sG rfl ?_
            refine L_y (Qc xE (o0).Side 1) rfl rfl rfl rfl u3 (Zh (α:=Int) Try.underlying22 Try.sizeOf3 rfl gG rfl tF) ?_
            refine Gy (c:=.int .i64 (uC)) rfl rfl (.yes2 rfl rfl u3) (fun _ _ h=>h.ch) xG rfl ?_
            refine L_y (.int .i64 ((w64 (uC - (1:Int))))) rfl rfl rfl rfl u3 (Td rfl rfl rfl) ?_
            refine Qa (φ:=fun v g w=>v=.bool (mB)) rfl rfl (.yes2 rfl rfl u3) (fun g w hd=>Zp (g:=g) (vs:=[.int .i64 ((o0).Box),.int .i64 (0),.int .i64 ((w64 (uC - (1:Int))))]) en59 (.cons rfl (.cons rfl (.cons rfl .nil))) (wk59  yG) fun g' w' v hs hr=>⟨g',hs,hr⟩) (fun mL hv=>?_)
            obtain ⟨_,_,_,rfl⟩:=hv
            refine L_y (.bool (!mB)) rfl rfl rfl rfl u3 (Wm rfl) ?_
            refine Gb (.bool (!mB)) rfl rfl (Zl (b:=(!n8)) rfl (Tl u3 rfl)) ?_
            refine Gb (.bool (!mB)) rfl rfl (Zk rfl) ?_
            refine L_y (Gj n9 3) rfl rfl rfl rfl l9 (Zc at_87_3 rfl (OB.ptr b2324)) ?_
            refine L_y (Gj n9 3) rfl rfl rfl rfl l9 (Qz (o1:=3) rfl at_85_0 rfl (OB.ptr b2324)) ?_
            refine Gy (c:=.int .i64 (((o0).Yarn).Low)) rfl rfl (.yes2 rfl rfl l9) (fun _ _ h=>⟨h.ch,fun b hb _=>h.below.block b hb⟩) sJ rfl ?_
            refine L_y (Gj n9 3) rfl rfl rfl rfl l9 (Zc at_87_3 rfl (OB.ptr b2324)) ?_
            refine L_y (Gj n9 4) rfl rfl rfl rfl l9 (Qz (o1:=3) rfl at_85_1 rfl (OB.ptr b2324)) ?_
            refine Gy (c:=.int .i64 (((o0).Yarn).High)) rfl rfl (.yes2 rfl rfl l9) (fun _ _ h=>⟨h.ch,fun b hb _=>h.below.block b hb⟩) vJ rfl ?_
            refine Qa (φ:=fun v g w=>v=.bool (yB)) rfl rfl (.yes2 rfl rfl l9) (fun g w hd=>Zp (g:=g) (vs:=[.int .i64 (((o0).Yarn).Low),.int .i64 (0),.int .i64 (((o0).Yarn).High)]) en59 (.cons rfl (.cons rfl (.cons rfl .nil))) (wk59  xJ) fun g' w' v hs hr=>⟨g',hs,hr⟩) (fun qQ hv=>?_)
            obtain ⟨_,_,_,rfl⟩:=hv
            refine L_y (.bool (!yB)) rfl rfl rfl rfl l9 (Wm rfl) ?_
            refine Gb (.bool (!yB)) rfl rfl (Zl (b:=(!mB)) rfl (Tl l9 rfl)) ?_
            refine Gb (.bool (!yB)) rfl rfl (Zk rfl) ?_
            refine L_y (Gj n9 3) rfl rfl rfl rfl lD (Zc at_87_3 rfl (OB.ptr b2324)) ?_
            refine L_y (Gj n9 4) rfl rfl rfl rfl lD (Qz (o1:=3) rfl at_85_1 rfl (OB.ptr b2324)) ?_
            refine Gy (c:=.int .i64 (((o0).Yarn).High)) rfl rfl (.yes2 rfl rfl lD) (fun _ _ h=>⟨h.ch,fun b hb _=>h.below.block b hb⟩) nO rfl ?_
            refine L_y (.bool ((decide (((o0).Yarn).High > (1000:Int))))) rfl rfl rfl rfl lD (Td rfl rfl rfl) ?_
            refine Gb (.bool ((decide (((o0).Yarn).High > (1000:Int))))) rfl rfl (Zl (b:=(!yB)) rfl (Tl lD rfl)) ?_
            refine L_nl fun tQ gV hs=>?_
            have hfr:=hfr.ext hs
            have t5:=t5.ext hs
            clear hs
            refine Zb ?_
            obtain rfl:=sinj h
            exact hQ _ _ ⟨tQ,hfr,zB,t5,oD,rfl⟩
       ·clear hx
        obtain ⟨uQ,hfr,cM,dM,eM,zG⟩:=hR
        rcases Zt h with ⟨aH,h⟩ | ⟨aH,h⟩
        ·refine To (Eq.trans (show ev _ _ = .bool (yD) from zG) (congrArg Value.bool aH)) ?_
         refine Zf (Za (Zg (.int .i64 (2)) rfl rfl ?_))
         refine Zb (Zd (Gw (Qu ?_)))
         refine Tc ?_
         refine Tc ?_
         refine Qu ?_
         refine Tc ?_
         obtain rfl:=sinj h
         exact Wb rfl rfl (show _=.int .i64 (2) from rfl) ⟨_,hfr,rfl⟩
        ·refine Tk (Eq.trans (show ev _ _ = .bool (yD) from zG) (congrArg Value.bool aH)) ?_
         exact Zu (Qn (Zd (mO () _ _ ⟨uQ,hfr,cM,dM,eM⟩ h)))
      ·rintro _ pT iV ⟨vQ, hfr, iM, jM, kM⟩ h
       refine Za (Zo kM rfl ?_)
       refine Gu (.int .i64 ((w64 (nB + (1:Int))))) rfl rfl rfl rfl ?_
       refine Zg (.int .i64 ((w64 (nB + (1:Int))))) rfl rfl ?_
       exact Zb (Zd (kO ((w64 (nB + (1:Int)))) _ _ ⟨vQ,hfr,iM,jM,rfl⟩ h))
    ·rintro _ sT jV ⟨nL, hfr, pH, yF⟩ h
     refine Zq h (fun (s:Unit) e w=>∃ (g:Gh) ,Fr gI wI g w∧e 1=p1∧PT g.m w (x0:BoxLoom) p1) (fun X2880 xK oO h=>?_) ?_
     ·refine Zf (Za (Zy (Gj p1 2) (Zc Qk pH (PT.ptr yF)) rfl ?_))
      have xQ:=Zm (Gx).1 yF
      refine Ze .plain rfl (Gr (g:=nL) Try.isAgg23 Try.sizeOf23 rfl xQ fun kV yQ=>?_)
      refine Zy (.int .i64 (((x0).Shuttles).length:Int)) (Tw Try.underlying23 rfl yQ) rfl ?_
      refine Gu (.bool (((((x0).Shuttles).length:Int) == (0:Int)))) rfl rfl rfl rfl ?_
      refine Zb (Zd ?_)
      rcases Zt h with ⟨cH,h⟩ | ⟨cH,h⟩
      ·refine Qq cH rfl ?_
       refine Zf (Za (Zg (.int .i64 (2)) rfl rfl ?_))
       refine Zb (Zd (Gw (Tc ?_)))
       obtain rfl:=sinj h
       exact Wb rfl rfl (show _=.int .i64 (2) from rfl) ⟨_,hfr,rfl⟩
      ·refine Qr cH rfl ?_
       exact Zu (Zd (oO () _ _ ⟨nL,hfr,pH,yF⟩ h))
     ·rintro _ tT lV ⟨zQ, hfr, pM, qM⟩ h
      refine Zq h (fun (s:Unit) e w=>∃ (g:Gh) ,Fr gI wI g w) (fun X3633 oK pO h=>?_) ?_
      ·refine Zf (Za (Zg (.int .i64 (0)) rfl rfl ?_))
       refine Zb (Zd (Zr ?_))
       refine E_lp h (fun (s:Int) e w=>∃ (g:Gh) ,Fr gI wI g w∧e 1=p1∧PT g.m w (x0:BoxLoom) p1∧e 6=.int .i64 (s)) ⟨zQ,hfr,pM,qM,rfl⟩ (fun X3634 pK qO=>?_)
       rintro l5 uT mV ⟨nI,hfr,qH,aG,sH⟩ h
       refine Zq h (fun (s:Unit) e w=>∃ (g:Gh) ,Fr gI wI g w∧e 1=p1∧PT g.m w (x0:BoxLoom) p1∧e 6=.int .i64 (l5)) (fun X3639 vK rO h=>?_) ?_
       ·refine Zf (Za (Zo sH rfl ?_))
        refine Zy (Gj p1 2) (Zc Qk qH (PT.ptr aG)) rfl ?_
        have aR:=Zm (Gx).1 aG
        refine Ze .plain rfl (Gr (g:=nI) Try.isAgg23 Try.sizeOf23 rfl aR fun nV bR=>?_)
        refine Zy (.int .i64 (((x0).Shuttles).length:Int)) (Tw Try.underlying23 rfl bR) rfl ?_
        refine Zy (.bool ((decide (l5 < (((x0).Shuttles).length:Int))))) (Td rfl rfl rfl) rfl ?_
        refine Zb (Zd ?_)
        rcases Zt h with ⟨gH,h⟩ | ⟨gH,h⟩
        ·refine Qq gH rfl ?_
         exact Zu (Zd (rO () _ _ ⟨nI,hfr,qH,aG,sH⟩ h))
        ·refine Qr gH rfl ?_
         refine Qm ?_
         refine Tm ?_
         refine Tm ?_
         refine Tu ?_
         exact Zd (pO () _ _ ⟨nI,hfr⟩ h)
       ·rintro _ xT oV ⟨dR, hfr, rM, sM, tM⟩ h
        refine Zq h (fun (s:Unit) e w=>∃ (g:Gh) ,Fr gI wI g w∧e 1=p1∧PT g.m w (x0:BoxLoom) p1∧e 6=.int .i64 (l5)) (fun X4012 qK sO h=>?_) ?_
        ·refine Zr ?_
         refine Zf (Za (Zg (.int .i64 (0)) rfl rfl ?_))
         refine Zb (Zd (Zr ?_))
         refine E_lp h (fun (s:Int) e w=>∃ (g:Gh) ,Fr gI wI g w∧e 1=p1∧PT g.m w (x0:BoxLoom) p1∧e 6=.int .i64 (l5)∧e 7=.int .i64 (s)) ⟨dR,hfr,rM,sM,tM,rfl⟩ (fun X4013 sK tO=>?_)
         rintro i6 yT pV ⟨oL,hfr,tH,uH,bG,xH⟩ h
         refine Zq h (fun (s:Unit) e w=>∃ (g:Gh) ,Fr gI wI g w∧e 1=p1∧PT g.m w (x0:BoxLoom) p1∧e 6=.int .i64 (l5)∧e 7=.int .i64 (i6)) (fun X4016 uK uO h=>?_) ?_
         ·refine Zf (Za (Zo xH rfl ?_))
          refine Zo bG rfl ?_
          refine Gu (.bool ((decide (i6 < l5)))) rfl rfl rfl rfl ?_
          refine Zb (Zd ?_)
          rcases Zt h with ⟨jH,h⟩ | ⟨jH,h⟩
          ·refine Qq jH rfl ?_
           exact Zu (Zd (uO () _ _ ⟨oL,hfr,tH,uH,bG,xH⟩ h))
          ·refine Qr jH rfl ?_
           refine Qm ?_
           refine Tm ?_
           refine Tm ?_
           refine Tu ?_
           exact Qn (Zd (sO () _ _ ⟨oL,hfr,tH,uH,bG⟩ h))
         ·rintro _ zT qV ⟨xL, hfr, cC, aB, iE, lE⟩ h
          refine Zq h (fun (s:Unit) e w=>∃ (g:Gh) ,Fr gI wI g w∧e 1=p1∧PT g.m w (x0:BoxLoom) p1∧e 6=.int .i64 (l5)∧e 7=.int .i64 (i6)) (fun X4199 tK vO h=>?_) ?_
          ·refine Zr ?_
           obtain ⟨cD,hx,h⟩:=Gc h
           refine Th (fun e w=>∃ (g:Gh) ,Fr gI wI g w∧e 1=p1∧PT g.m w (x0:BoxLoom) p1∧e 6=.int .i64 (l5)∧e 7=.int .i64 (i6)∧e 142=.bool (cD)) (fun Q' hQ=>?_) (fun aU rV hR=>?_)
           ·replace h := hx
            clear hx
            have eR:=Zm (Gx).1 aB
            refine Zs (x:=.tmp 115) Try.isAgg23 Try.sizeOf23 eR fun yE pI zJ=>?_
            obtain ⟨vC,kH,h⟩:=Gc h
            have qI:=Tj pI kH
            have gR:=Zm (Qt).1 qI
            refine Zs (x:=.tmp 119) Try.isAgg3 Try.sizeOf3 gR fun sV iR aK=>?_
            obtain rfl:=Zj.1 iR
            have jR:=Zm (Gx).1 aB
            refine Zs (x:=.tmp 121) Try.isAgg23 Try.sizeOf23 jR fun zE sI bK=>?_
            obtain ⟨bD,lH,h⟩:=Gc h
            have jJ:=Tj sI lH
            have lR:=Zm (Qt).1 jJ
            refine Zs (x:=.tmp 125) Try.isAgg3 Try.sizeOf3 lR fun tV mR cK=>?_
            obtain rfl:=Zj.1 mR
            rcases Zt h with ⟨lB,h⟩ | ⟨lB,h⟩
            ·have nR := Zm (Gx).1 aB
             refine Zs (x:=.tmp 129) Try.isAgg23 Try.sizeOf23 nR fun kJ yL xO=>?_
             obtain ⟨cF,dK,h⟩:=Gc h
             have zL:=Tj yL dK
             have oR:=Zm (Wl).1 zL
             refine Zs (x:=.tmp 133) Try.isAgg3 Try.sizeOf3 oR fun uV pR yO=>?_
             obtain rfl:=Zj.1 pR
             have qR:=Zm (Gx).1 aB
             refine Zs (x:=.tmp 135) Try.isAgg23 Try.sizeOf23 qR fun lJ aM zO=>?_
             obtain ⟨dF,lK,h⟩:=Gc h
             have bM:=Tj aM lK
             have rR:=Zm (Wl).1 bM
             refine Zs (x:=.tmp 139) Try.isAgg3 Try.sizeOf3 rR fun vV tR aP=>?_
             obtain rfl:=Zj.1 tR
             refine Tt (g:=xL) (n:=28) [] [0,1,2,3,4,5,6,7,8,9,10,11,12,13,14,15,16,17,18,19,20,21,22,23,24,25,26,27] rfl Qf (by kernel_rfl) trivial ?_
             refine Gb (Gj p1 2) rfl rfl (Zc Qk cC (PT.ptr aB)) ?_
             refine Gy (c:=yE) rfl rfl .plain (fun _ _ h=>h.ch) zJ rfl ?_
             refine Gb (.int .i64 (l5)) rfl rfl (Zk iE) ?_
             refine Gb (Qc yE l5 5) rfl rfl (Zh (α:=Zv) Try.underlying23 Try.sizeOf87 rfl pI rfl kH) ?_
             refine Gb (Gj (Qc yE l5 5) 1) rfl rfl (Zc Ww rfl (PT.ptr qI)) ?_
             refine Gy (c:=.int .i64 ((vC).Side)) rfl rfl .plain (fun _ _ h=>h.ch) aK rfl ?_
             refine Gb (Gj p1 2) rfl rfl (Zc Qk cC (PT.ptr aB)) ?_
             refine Gy (c:=zE) rfl rfl .plain (fun _ _ h=>h.ch) bK rfl ?_
             refine Gb (.int .i64 (i6)) rfl rfl (Zk lE) ?_
             refine Gb (Qc zE i6 5) rfl rfl (Zh (α:=Zv) Try.underlying23 Try.sizeOf87 rfl sI rfl lH) ?_
             refine Gb (Gj (Qc zE i6 5) 1) rfl rfl (Zc Ww rfl (PT.ptr jJ)) ?_
             refine Gy (c:=.int .i64 ((bD).Side)) rfl rfl .plain (fun _ _ h=>h.ch) cK rfl ?_
             refine Gb (.bool (((vC).Side == (bD).Side))) rfl rfl (Td rfl rfl rfl) ?_
             refine Gb (.bool (((vC).Side == (bD).Side))) rfl rfl (Zk rfl) ?_
             refine L_y (Gj p1 2) rfl rfl rfl rfl lB (Zc Qk cC (PT.ptr aB)) ?_
             refine Gy (c:=kJ) rfl rfl (.yes2 rfl rfl lB) (fun _ _ h=>h.ch) xO rfl ?_
             refine L_y (.int .i64 (l5)) rfl rfl rfl rfl lB (Zk iE) ?_
             refine L_y (Qc kJ l5 5) rfl rfl rfl rfl lB (Zh (α:=Zv) Try.underlying23 Try.sizeOf87 rfl yL rfl dK) ?_
             refine L_y (Gj (Qc kJ l5 5) 2) rfl rfl rfl rfl lB (Zc at_87_2 rfl (PT.ptr zL)) ?_
             refine Gy (c:=.int .i64 ((cF).Box)) rfl rfl (.yes2 rfl rfl lB) (fun _ _ h=>h.ch) yO rfl ?_
             refine L_y (Gj p1 2) rfl rfl rfl rfl lB (Zc Qk cC (PT.ptr aB)) ?_
             refine Gy (c:=lJ) rfl rfl (.yes2 rfl rfl lB) (fun _ _ h=>h.ch) zO rfl ?_
             refine L_y (.int .i64 (i6)) rfl rfl rfl rfl lB (Zk lE) ?_
             refine L_y (Qc lJ i6 5) rfl rfl rfl rfl lB (Zh (α:=Zv) Try.underlying23 Try.sizeOf87 rfl aM rfl lK) ?_
             refine L_y (Gj (Qc lJ i6 5) 2) rfl rfl rfl rfl lB (Zc at_87_2 rfl (PT.ptr bM)) ?_
             refine Gy (c:=.int .i64 ((dF).Box)) rfl rfl (.yes2 rfl rfl lB) (fun _ _ h=>h.ch) aP rfl ?_
             refine L_y (.bool (((cF).Box == (dF).Box))) rfl rfl rfl rfl lB (Td rfl rfl rfl) ?_
             refine Gb (.bool (((cF).Box == (dF).Box))) rfl rfl (Zl (b:=((vC).Side == (bD).Side)) rfl (Tp lB rfl)) ?_
             refine L_nl fun uR xV hs=>?_
             have hfr:=hfr.ext hs
             have aB:=aB.ext hs
             clear hs
             refine Zb ?_
             obtain rfl:=sinj h
             exact hQ _ _ ⟨uR,hfr,cC,aB,iE,lE,rfl⟩
            ·refine Tt (g := xL) (n := 28) [] [0, 1, 2, 3, 4, 5, 6, 7, 8, 9, 10, 11, 12, 13, 14, 15, 16, 17, 18, 19, 20, 21, 22, 23, 24, 25, 26, 27] rfl Qf (by kernel_rfl) trivial ?_
             refine Gb (Gj p1 2) rfl rfl (Zc Qk cC (PT.ptr aB)) ?_
             refine Gy (c:=yE) rfl rfl .plain (fun _ _ h=>h.ch) zJ rfl ?_
             refine Gb (.int .i64 (l5)) rfl rfl (Zk iE) ?_
             refine Gb (Qc yE l5 5) rfl rfl (Zh (α:=Zv) Try.underlying23 Try.sizeOf87 rfl pI rfl kH) ?_
             refine Gb (Gj (Qc yE l5 5) 1) rfl rfl (Zc Ww rfl (PT.ptr qI)) ?_
             refine Gy (c:=.int .i64 ((vC).Side)) rfl rfl .plain (fun _ _ h=>h.ch) aK rfl ?_
             refine Gb (Gj p1 2) rfl rfl (Zc Qk cC (PT.ptr aB)) ?_
             refine Gy (c:=zE) rfl rfl .plain (fun _ _ h=>h.ch) bK rfl ?_
             refine Gb (.int .i64 (i6)) rfl rfl (Zk lE) ?_
             refine Gb (Qc zE i6 5) rfl rfl (Zh (α:=Zv) Try.underlying23 Try.sizeOf87 rfl sI rfl lH) ?_
             refine Gb (Gj (Qc zE i6 5) 1) rfl rfl (Zc Ww rfl (PT.ptr jJ)) ?_
             refine Gy (c:=.int .i64 ((bD).Side)) rfl rfl .plain (fun _ _ h=>h.ch) cK rfl ?_
             refine Gb (.bool (((vC).Side == (bD).Side))) rfl rfl (Td rfl rfl rfl) ?_
             refine Gb (.bool (((vC).Side == (bD).Side))) rfl rfl (Zk rfl) ?_
             iterate 13 refine L_s rfl rfl rfl lB rfl ?_
             refine Gb (.bool false) rfl rfl (Zl (b:=((vC).Side == (bD).Side)) rfl (Tl lB rfl)) ?_
             refine L_nl fun vR yV hs=>?_
             have hfr:=hfr.ext hs
             have aB:=aB.ext hs
             clear hs
             refine Zb ?_
             obtain rfl:=sinj h
             exact hQ _ _ ⟨vR,hfr,cC,aB,iE,lE,rfl⟩
           ·clear hx
            obtain ⟨xR,hfr,uM,vM,xM,bN,cG⟩:=hR
            rcases Zt h with ⟨mH,h⟩ | ⟨mH,h⟩
            ·refine To (Eq.trans (show ev _ _ = .bool (cD) from cG) (congrArg Value.bool mH)) ?_
             refine Zf (Za (Zg (.int .i64 (6)) rfl rfl ?_))
             refine Zb (Zd (Gw (Qu ?_)))
             refine Tc ?_
             refine Tc ?_
             refine Qu ?_
             refine Qu ?_
             refine Tc ?_
             refine Tc ?_
             refine Qu ?_
             refine Tc ?_
             obtain rfl:=sinj h
             exact Wb rfl rfl (show _=.int .i64 (6) from rfl) ⟨_,hfr,rfl⟩
            ·refine Tk (Eq.trans (show ev _ _ = .bool (cD) from cG) (congrArg Value.bool mH)) ?_
             exact Zu (Qn (Zd (vO () _ _ ⟨xR,hfr,uM,vM,xM,bN⟩ h)))
          ·rintro _ bU zV ⟨yR, hfr, cN, dN, eN, gN⟩ h
           refine Za (Zo gN rfl ?_)
           refine Gu (.int .i64 ((w64 (i6 + (1:Int))))) rfl rfl rfl rfl ?_
           refine Zg (.int .i64 ((w64 (i6 + (1:Int))))) rfl rfl ?_
           exact Zb (Zd (tO ((w64 (i6 + (1:Int)))) _ _ ⟨yR,hfr,cN,dN,eN,rfl⟩ h))
        ·rintro _ cU aW ⟨zR, hfr, iN, jN, kN⟩ h
         refine Za (Zo kN rfl ?_)
         refine Gu (.int .i64 ((w64 (l5 + (1:Int))))) rfl rfl rfl rfl ?_
         refine Zg (.int .i64 ((w64 (l5 + (1:Int))))) rfl rfl ?_
         exact Zb (Zd (qO ((w64 (l5 + (1:Int)))) _ _ ⟨zR,hfr,iN,jN,rfl⟩ h))
      ·rintro _ dU bW ⟨cW, hfr⟩ h
       refine Zf (Za (Zg (.int .i64 (0)) rfl rfl ?_))
       refine Zb (Zd (Gw ?_))
       obtain rfl:=sinj h
       exact Wb rfl rfl (show _=.int .i64 (0) from rfl) ⟨_,hfr,rfl⟩
def f21 (x0:List Int):Option (Bool):=
 jn (σ:=Unit) (fun _=>
  some (true)
  ) fun oB=>
 lp (σ:=Int) (fun vB o0=>
  jn (σ:=Unit) (fun _=>
   jn (σ:=Unit) (fun _=>
    vB ((w64 (o0 + (1:Int))))
    ) fun yB=>
   (idx x0 o0).bind fun l9=>
   (f59 l9 ((0:Int)) ((9:Int))).bind fun n9=>
   bif (!n9) then
    some (false)
   else
    yB ()
   ) fun zB=>
  bif (decide (o0 < ((x0).length : Int))) then
   zB ()
  else
   oB ()
  ) big ((0:Int))
theorem en21:Enters Try.prog 21:=enters_of Try.func21 (by kernel_rfl) rfl
theorem wk21 {gI:Gh} {wI:World} {x0:List Int} {up0:Value} (rp0:RV gI.m wI x0 up0) {r:Bool} (h:f21 x0=some r):Fn Try.prog 21 #[up0] gI wI (fun _ _ v=>v=.bool (r)):=by
 unfold f21 at h
 refine Tf Try.func21 rfl (Nat.le_of_ble_eq_true rfl) fun g0 hm hfr=>?_
 have rp0:RV g0.m wI x0 up0:=hm ▸ rp0
 show E _ 16 none _ _ _ _ _
 refine Zf (Za (Zg (.bool false) rfl rfl ?_))
 refine Zb (Zd (Zq h (fun (s:Unit) e w=>∃ (g:Gh) ,Fr gI wI g w) (fun X21 oB vC h=>?_) ?_))
 ·refine Zf (Za (Zg (.int .i64 (0)) rfl rfl ?_))
  refine Zb (Zd (Zr ?_))
  refine E_lp h (fun (s:Int) e w=>∃ (g:Gh) ,Fr gI wI g w∧e 0=up0∧RV g.m w (x0:List Int) up0∧e 3=.int .i64 (s)) ⟨g0,hfr,rfl,rp0,rfl⟩ (fun X22 vB bD=>?_)
  rintro o0 bE rE ⟨cC,hfr,i6,g8,l8⟩ h
  refine Zq h (fun (s:Unit) e w=>∃ (g:Gh) ,Fr gI wI g w∧e 0=up0∧RV g.m w (x0:List Int) up0∧e 3=.int .i64 (o0)) (fun X25 zB cD h=>?_) ?_
  ·refine Zf (Za (Zo l8 rfl ?_))
   refine Zo i6 rfl ?_
   refine Zy (.int .i64 ((x0).length:Int)) (Tw Try.underlying22 rfl g8) rfl ?_
   refine Gu (.bool ((decide (o0 < ((x0).length:Int))))) rfl rfl rfl rfl ?_
   refine Zb (Zd ?_)
   rcases Zt h with ⟨l5,h⟩ | ⟨l5,h⟩
   ·refine Qq l5 rfl ?_
    exact Zu (Zd (cD () _ _ ⟨cC,hfr,i6,g8,l8⟩ h))
   ·refine Qr l5 rfl ?_
    refine Qm ?_
    refine Tm ?_
    refine Tm ?_
    refine Tu ?_
    exact Zd (vC () _ _ ⟨cC,hfr⟩ h)
  ·rintro _ iE uE ⟨uC, hfr, n8, u3, v8⟩ h
   refine Zq h (fun (s:Unit) e w=>∃ (g:Gh) ,Fr gI wI g w∧e 0=up0∧RV g.m w (x0:List Int) up0∧e 3=.int .i64 (o0)) (fun X34 yB lD h=>?_) ?_
   ·refine Zr ?_
    refine Zf (Za (Zo n8 rfl ?_))
    refine Zo v8 rfl ?_
    obtain ⟨l9,aB,h⟩:=Gc h
    refine Zy (Qc up0 o0 1) (Zh (α:=Int) Try.underlying22 Try.sizeOf3 rfl u3 rfl aB) rfl ?_
    have oD:=Tj u3 aB
    refine Ze .plain rfl (Gr (g:=uC) Try.isAgg3 Try.sizeOf3 rfl oD fun vE yD=>?_)
    obtain rfl:=Zj.1 yD
    obtain ⟨n9,nD,h⟩:=Gc h
    refine Ze .plain rfl (Zp (g:=uC) (vs:=[.int .i64 (l9),.int .i64 (0),.int .i64 (9)]) en59 (.cons rfl (.cons rfl (.cons rfl .nil))) (wk59  nD) fun zD lE xE hs hr=>?_)
    have hfr:=hfr.ext hs
    have u3:=u3.ext hs
    subst hr
    refine Zy (.bool (!n9)) (Wm rfl) rfl ?_
    refine Zb (Zd ?_)
    rcases Zt h with ⟨t5,h⟩ | ⟨t5,h⟩
    ·refine Qq t5 rfl ?_
     refine Zf (Za (Zg (.bool false) rfl rfl ?_))
     refine Zb (Zd (Gw (Qu ?_)))
     refine Tc ?_
     refine Tc ?_
     refine Qu ?_
     refine Tc ?_
     obtain rfl:=sinj h
     exact Wb rfl rfl (show _=.bool false from rfl) ⟨_,hfr,rfl⟩
    ·refine Qr t5 rfl ?_
     exact Zu (Qn (Zd (lD () _ _ ⟨zD,hfr,n8,u3,v8⟩ h)))
   ·rintro _ mE yE ⟨aE, hfr, lB, mB, nB⟩ h
    refine Za (Zo nB rfl ?_)
    refine Gu (.int .i64 ((w64 (o0 + (1:Int))))) rfl rfl rfl rfl ?_
    refine Zg (.int .i64 ((w64 (o0 + (1:Int))))) rfl rfl ?_
    exact Zb (Zd (bD ((w64 (o0 + (1:Int)))) _ _ ⟨aE,hfr,lB,mB,rfl⟩ h))
 ·rintro _ oE zE ⟨cF, hfr⟩ h
  refine Zf (Za (Zg (.bool true) rfl rfl ?_))
  refine Zb (Zd (Gw ?_))
  obtain rfl:=sinj h
  exact Wb rfl rfl (show _=.bool true from rfl) ⟨_,hfr,rfl⟩
theorem W50 {iO:Nat} {gI:Gh} {wI:World} {x0:BoxLoom} {up0:Value} (rp0:RV gI.m wI x0 up0) {r:BoxLoom} (h:f50 x0=some r):FnG Try.prog 50 #[up0] gI wI (fun g w v=>OWx ow_BoxLoom iO g w r v):=by
 unfold f50 at h
 refine fnG_of_E Try.func50 rfl (Nat.le_of_ble_eq_true rfl) fun g0 hm hfr=>?_
 have rp0:RV g0.m wI x0 up0:=hm ▸ rp0
 show E _ 16 none _ _ _ _ _
 refine Zf (Za (Ze .plain rfl (We (g:=g0) rfl rp0 fun g1 w1 p1 hs q1=>?_)))
 have hfr:=hfr.ext hs
 refine Ze .plain rfl (Gs (g:=g1) 2002 (⟨[],[],[]⟩:BoxLoom) Try.zeroValue25 (fun m w=>⟨_,(Gg Gz (Gg Gz Gz)),rfl⟩) fun g2 w2 p2 hs b2 cb=>?_)
 have hfr:=hfr.stp hs
 have q1:=q1.stp hs
 have vC:OSF 2002 60200 0 g2 w2 3 25 ([]:List Int) p2:=cb.osf (by rfl)
 have bD:OSF 2002 60201 1 g2 w2 3 25 ([]:List Int) p2:=cb.osf (by rfl)
 have cD:OSF 2002 60202 2 g2 w2 87 25 ([]:List Zv) p2:=cb.osf (by rfl)
 clear cb
 refine Zb (Zd (Zf ?_))
 have q4:=Zm (Ts).1 q1
 refine Zs (x:=.tmp 4) Try.isAgg22 Try.sizeOf22 q4 fun v5 r5 mB=>?_
 obtain ⟨y7,nB,h⟩:=Gc h
 have q9:=Zm (Qo).1 q1
 refine Zs (x:=.tmp 8) Try.isAgg22 Try.sizeOf22 q9 fun oB vB n8=>?_
 obtain ⟨u3,l9,h⟩:=Gc h
 have yB:=Zm (Gx).1 q1
 refine Zs (x:=.tmp 12) Try.isAgg23 Try.sizeOf23 yB fun zB cC n9=>?_
 obtain ⟨l5,aB,h⟩:=Gc h
 refine Tt (g:=g2) (n:=12) [(0,(fun v g w=>RV g.m w ([]:List Int) v∧OS 3003 g w 3 ([]:List Int) v∧Gn v)),(3,(fun v g w=>OA 3003 g w 3 y7 v)),(4,(fun v g w=>RV g.m w ([]:List Int) v∧OS 3007 g w 3 ([]:List Int) v∧Gn v)),(7,(fun v g w=>OA 3007 g w 3 u3 v)),(8,(fun v g w=>RV g.m w ([]:List Zv) v∧OS 3011 g w 87 ([]:List Zv) v∧Gn v)),(11,(fun v g w=>OA 3011 g w 87 l5 v))] [0,1,2,3,4,5,6,7,8,9,10,11] rfl Qf (by kernel_rfl) (⟨fun _=>Ti Wy (Ti up_os (Tr _)),fun _=>up_oa,fun _=>Ti Wy (Ti up_os (Tr _)),fun _=>up_oa,fun _=>Ti Wy (Ti up_os (Tr _)),fun _=>up_oa,trivial⟩) ?_
 refine Qa (φ:=fun v g w=>RV g.m w ([]:List Int) v∧OS 3003 g w 3 ([]:List Int) v∧Gn v) rfl rfl .plain (fun g w hd=>Gi (g:=g) 3003 (xs:=([]:List Int)) (vs:=[]) Try.underlying22 Try.sizeOf3 Try.zeroValue3 rfl rfl .nil RVs.nil rfl rfl fun g' w' v hs o r hxt hfl=>⟨g',hxt,r,o,hfl⟩) (fun v3 hv=>?_)
 clear hv
 refine Gb (Gj p1 0) rfl rfl (Zc Wo rfl (PT.ptr q1)) ?_
 refine Gy (c:=v5) rfl rfl .plain (fun _ _ h=>h.ch) mB rfl ?_
 refine Qa (φ:=fun v g w=>OA 3003 g w 3 y7 v) rfl rfl .plain (fun g w hd=>D_appendE (g:=g) plain_int (i:=3003) Try.underlying22 info_3 rfl rfl (word (A:=fun g w=>RV g.m w ([]:List Int) v3∧OS 3003 g w 3 ([]:List Int) v3∧Gn v3) 0 rfl rfl (Tv hd)).2.1 (word (A:=fun g w=>RV g.m w ([]:List Int) v3∧OS 3003 g w 3 ([]:List Int) v3∧Gn v3) 0 rfl rfl (Tv hd)).2.2 rfl (r5.ext hd.1) nB fun g' w' v hs b=>⟨g',hs,b⟩) (fun v6 hv=>?_)
 have sz6:v6.cells.size=1:=let ⟨_,_,_,hw⟩:=hv; OA.csz1 hw
 clear hv
 refine Qa (φ:=fun v g w=>RV g.m w ([]:List Int) v∧OS 3007 g w 3 ([]:List Int) v∧Gn v) rfl rfl .plain (fun g w hd=>Gi (g:=g) 3007 (xs:=([]:List Int)) (vs:=[]) Try.underlying22 Try.sizeOf3 Try.zeroValue3 rfl rfl .nil RVs.nil rfl rfl fun g' w' v hs o r hxt hfl=>⟨g',hxt,r,o,hfl⟩) (fun v8 hv=>?_)
 clear hv
 refine Gb (Gj p1 1) rfl rfl (Zc at_25_1 rfl (PT.ptr q1)) ?_
 refine Gy (c:=oB) rfl rfl .plain (fun _ _ h=>h.ch) n8 rfl ?_
 refine Qa (φ:=fun v g w=>OA 3007 g w 3 u3 v) rfl rfl .plain (fun g w hd=>D_appendE (g:=g) plain_int (i:=3007) Try.underlying22 info_3 rfl rfl (word (A:=fun g w=>RV g.m w ([]:List Int) v8∧OS 3007 g w 3 ([]:List Int) v8∧Gn v8) 4 rfl rfl (Tv hd)).2.1 (word (A:=fun g w=>RV g.m w ([]:List Int) v8∧OS 3007 g w 3 ([]:List Int) v8∧Gn v8) 4 rfl rfl (Tv hd)).2.2 rfl (vB.ext hd.1) l9 fun g' w' v hs b=>⟨g',hs,b⟩) (fun t5 hv=>?_)
 have sz11:t5.cells.size=1:=let ⟨_,_,_,hw⟩:=hv; OA.csz1 hw
 clear hv
 refine Qa (φ:=fun v g w=>RV g.m w ([]:List Zv) v∧OS 3011 g w 87 ([]:List Zv) v∧Gn v) rfl rfl .plain (fun g w hd=>Gi (g:=g) 3011 (xs:=([]:List Zv)) (vs:=[]) Try.underlying23 Try.sizeOf87 Try.zeroValue87 rfl rfl .nil RVs.nil rfl rfl fun g' w' v hs o r hxt hfl=>⟨g',hxt,r,o,hfl⟩) (fun o0 hv=>?_)
 clear hv
 refine Gb (Gj p1 2) rfl rfl (Zc Qk rfl (PT.ptr q1)) ?_
 refine Gy (c:=zB) rfl rfl .plain (fun _ _ h=>h.ch) n9 rfl ?_
 refine Qa (φ:=fun v g w=>OA 3011 g w 87 l5 v) rfl rfl .plain (fun g w hd=>D_appendE (g:=g) plain_BoxShuttle (i:=3011) Try.underlying23 info_87 rfl rfl (word (A:=fun g w=>RV g.m w ([]:List Zv) o0∧OS 3011 g w 87 ([]:List Zv) o0∧Gn o0) 8 rfl rfl (Tv hd)).2.1 (word (A:=fun g w=>RV g.m w ([]:List Zv) o0∧OS 3011 g w 87 ([]:List Zv) o0∧Gn o0) 8 rfl rfl (Tv hd)).2.2 rfl (cC.ext hd.1) aB fun g' w' v hs b=>⟨g',hs,b⟩) (fun i6 hv=>?_)
 have sz16:i6.cells.size=1:=let ⟨_,_,_,hw⟩:=hv; OA.csz1 hw
 clear hv
 refine L_nil fun lD uC hall=>?_
 have hs:=hall.1
 have hfr:=hfr.ext hs
 have b2:=b2.ext hs
 have nD:=(Gl (A:=fun g w=>RV g.m w ([]:List Int) v3∧OS 3003 g w 3 ([]:List Int) v3∧Gn v3) 0 rfl hall).1
 have o22:=(Gl (A:=fun g w=>RV g.m w ([]:List Int) v3∧OS 3003 g w 3 ([]:List Int) v3∧Gn v3) 0 rfl hall).2.1
 have b25:=(Gl (A:=fun g w=>OA 3003 g w 3 y7 v6) 3 rfl hall)
 have oD:=(Gl (A:=fun g w=>RV g.m w ([]:List Int) v8∧OS 3007 g w 3 ([]:List Int) v8∧Gn v8) 4 rfl hall).1
 have o26:=(Gl (A:=fun g w=>RV g.m w ([]:List Int) v8∧OS 3007 g w 3 ([]:List Int) v8∧Gn v8) 4 rfl hall).2.1
 have b29:=(Gl (A:=fun g w=>OA 3007 g w 3 u3 t5) 7 rfl hall)
 have yD:=(Gl (A:=fun g w=>RV g.m w ([]:List Zv) o0∧OS 3011 g w 87 ([]:List Zv) o0∧Gn o0) 8 rfl hall).1
 have o30:=(Gl (A:=fun g w=>RV g.m w ([]:List Zv) o0∧OS 3011 g w 87 ([]:List Zv) o0∧Gn o0) 8 rfl hall).2.1
 have b33:=(Gl (A:=fun g w=>OA 3011 g w 87 l5 i6) 11 rfl hall)
 clear hs hall
 obtain ⟨sk35,ow35,ok35⟩:=OA.toW b25
 obtain ⟨sk36,ow36,ok36⟩:=OA.toW b29
 obtain ⟨sk37,ow37,ok37⟩:=OA.toW b33
 have wn38:=Wn.fl (OW.wn ow37)
 obtain ⟨gq39,hs,_,wn39⟩:=Wn.pair (OW.wn ow36) wn38 rfl
 have hfr:=hfr.stp hs
 have b2:=b2.stp hs rfl
 have ow35:=ow35.stp hs rfl
 obtain ⟨gq40,hs,_,wn40⟩:=Wn.pair (OW.wn ow35) wn39 rfl
 have hfr:=hfr.stp hs
 have b2:=b2.stp hs rfl
 obtain ⟨l8,g8⟩:∃ v,v=(Value.agg (Wf [[.slice none 0 0],[.slice none 0 0],[.slice none 0 0]] [(0,v6),(1,t5),(2,i6)]).flatten.toArray):=⟨_,rfl⟩
 have ow34:OW ow_BoxLoom 3011 gq40 uC (⟨y7,u3,l5⟩:BoxLoom) (sk35,(sk36,sk37)) l8:=g8 ▸ Wn.mk_ (Wn.struct (x:=((⟨y7,u3,l5⟩:BoxLoom))) wn40)
 refine Zy l8 (g8 ▸ P_build (vs:=[(0,v6),(1,t5),(2,i6)]) [[.slice none 0 0],[.slice none 0 0],[.slice none 0 0]] lay_25 rfl rfl (.cons rfl (.cons rfl (.cons rfl .nil))) ⟨⟨_,rfl,OW.csz ow35⟩,⟨⟨_,rfl,OW.csz ow36⟩,⟨⟨_,rfl,OW.csz ow37⟩,trivial⟩⟩⟩) rfl ?_
 refine Ze .plain rfl (D_storeOW (g:=gq40) Try.sizeOf25 rfl b2 rfl ow34 rfl fun gj41 zD aE bk41 hsa hsb hpp b41=>?_)
 have hfr:=hfr.stp hsa
 have hfr:=hfr.stp hsb
 clear hsa hsb
 subst hpp
 refine Zb (Zd (Gw ?_))
 obtain rfl:=sinj h
 obtain ⟨bE,lB,ow42⟩:=OV.read (t:=25) Try.isAgg25 Try.sizeOf25 b41 rfl
 obtain ⟨gh,hxh,_,homh⟩:=OW.hand (i:=iO) hfr ow42 (⟨ok35,⟨ok36,ok37⟩⟩:(ow_BoxLoom).ok (sk35,(sk36,sk37)))
 exact endm_c rfl rfl (show _=(Value.pointer (some ⟨bk41,0,none⟩)) from rfl) lB ⟨gh,hxh,homh⟩
def f64 (x0:List (List Int)) (x1:(List Int)→Option Bool):Option (Bool):=
 (f90 x0 x1).bind fun y2=>
 some ((decide (y2 ≥ (0:Int))))
theorem en64:Enters Try.prog 64:=enters_of Try.func64 (by kernel_rfl) rfl
theorem wk64 {gI:Gh} {wI:World} {x0:List (List Int)} {x1:(List Int)→Option Bool} {up0:Value} (rp0:RV gI.m wI x0 up0) {up1:Value} (rp1:FnV1 Try.prog x1 up1 gI wI) {r:Bool} (h:f64 x0 x1=some r):Fn Try.prog 64 #[up0,up1] gI wI (fun _ _ v=>v=.bool (r)):=by
 unfold f64 at h
 refine Tf Try.func64 rfl (Nat.le_of_ble_eq_true rfl) fun g0 hm hfr=>?_
 have rp0:RV g0.m wI x0 up0:=hm ▸ rp0
 obtain ⟨ff1,fa1,fc1,rfl,fen1,fcl1⟩:=rp1
 show E _ 9 none _ _ _ _ _
 refine Zf (Za (Zg (.bool false) rfl rfl ?_))
 refine Zb (Zd (Zf (Za (Zn up0 rfl rfl ?_))))
 refine Zn ((.func (.func ff1) fa1 fc1)) rfl rfl ?_
 obtain ⟨y2,hy2,h⟩:=Gc h
 refine Ze .plain rfl (Zp (g:=g0) (vs:=[up0,(.func (.func ff1) fa1 fc1)]) en90 (.cons rfl (.cons rfl .nil)) (wk90 rp0 (FnV1.ch ⟨_,_,_,rfl,fen1,fcl1⟩ hfr.ch) hy2) fun g1 w1_ v1 hs hr=>?_)
 have hfr:=hfr.ext hs
 subst hr
 refine Gu (.bool ((decide (y2 ≥ (0:Int))))) rfl rfl rfl rfl ?_
 refine Zg (.bool ((decide (y2 ≥ (0:Int))))) rfl rfl ?_
 refine Zb (Zd (Gw ?_))
 obtain rfl:=sinj h
 exact Wb rfl rfl (show _=.bool ((decide (y2 ≥ (0:Int)))) from rfl) ⟨_,hfr,rfl⟩
def f66 (x0:List (List Int)):Option ((List Int)):=
 Option.bind (α:=Int) (
  lp (σ:=Int × Int) (fun aG (l5,o0)=>
   bif (decide (o0 < ((x0).length : Int))) then
    Option.bind (α:=Int) (
     (idx x0 o0).bind fun g8=>
     bif (decide ((w64 (l5 + ((g8).length : Int))) < (0 : Int))) then
      none
     else
      some ((w64 (l5 + ((g8).length:Int))))
     ) fun l8=>
    aG (l8,(w64 (o0 + (1:Int))))
   else
    some (l5)
   ) big ((0:Int),(0:Int))
  ) fun n8=>
 (f91 n8).bind fun bG=>
 Option.bind (α:=(List Int)) (
  lp (σ:=(List Int) × Int) (fun cG (lB,u3)=>
   bif (decide (u3 < ((x0).length : Int))) then
    Option.bind (α:=(List Int)) (
     (idx x0 u3).bind fun eG=>
     (apnd 8 lB eG).bind fun gG=>
     some (gG)
     ) fun i6=>
    cG (i6,(w64 (u3 + (1:Int))))
   else
    some (lB)
   ) big (bG,(0:Int))
  ) fun v8=>
 some (v8)
theorem en66:Enters Try.prog 66:=enters_of Try.func66 (by kernel_rfl) rfl
theorem wk66 {gI:Gh} {wI:World} {x0:List (List Int)} {up0:Value} (rp0:RV gI.m wI x0 up0) {r:(List Int)} (h:f66 x0=some r):Fn Try.prog 66 #[up0] gI wI (fun m w v=>RV m w (r) v):=by
 unfold f66 at h
 refine Tf Try.func66 rfl (Nat.le_of_ble_eq_true rfl) fun g0 hm hfr=>?_
 have rp0:RV g0.m wI x0 up0:=hm ▸ rp0
 show E _ 36 none _ _ _ _ _
 refine Zf (Za (Zg (.slice none 0 0) rfl rfl ?_))
 refine Zb (Zd (Zf (Za (Zg (.int .i64 (0)) rfl rfl ?_))))
 refine Zb (Zd ?_)
 obtain ⟨n8,hx,h⟩:=Gc h
 refine Th (fun e w=>∃ (g:Gh) ,Fr gI wI g w∧e 0=up0∧RV g.m w (x0:List (List Int)) up0∧e 3=.int .i64 (n8)) (fun Q' hQ=>?_) (fun sH aI hR=>?_)
 ·replace h := hx
  clear hx
  refine Zf (Za (Zn up0 rfl rfl ?_))
  refine Zy (.int .i64 ((x0).length:Int)) (Tw Try.underlying42 rfl rp0) rfl ?_
  refine Zn (.int .i64 (0)) rfl rfl ?_
  refine Zb (Zd (Zr ?_))
  refine E_lp h (fun (s:Int × Int) e w=>∃ (g:Gh) ,Fr gI wI g w∧e 0=up0∧RV g.m w (x0:List (List Int)) up0∧e 3=.int .i64 (s.1)∧e 9=up0∧RV g.m w (x0:List (List Int)) up0∧e 10=.int .i64 (((x0).length:Int))∧e 11=.int .i64 (s.2)) ⟨g0,hfr,rfl,rp0,rfl,rfl,rp0,rfl,rfl⟩ (fun X13 aG mG=>?_)
  rintro ⟨l5,o0⟩ tH bI ⟨zD,hfr,uC,vC,bD,cD,mB,nB,n9⟩ h
  refine Zf (Za (Gu (.bool ((decide (o0 < ((x0).length:Int))))) n9 nB rfl rfl ?_))
  refine Zb (Zd (Zf ?_))
  rcases Zt h with ⟨yB,h⟩ | ⟨yB,h⟩
  ·refine Qq yB rfl ?_
   refine Zu (Zd ?_)
   obtain ⟨l8,hx,h⟩:=Gc h
   refine Th (fun e w=>∃ (g:Gh) ,Fr gI wI g w∧e 0=up0∧RV g.m w (x0:List (List Int)) up0∧e 3=.int .i64 (l8)∧e 9=up0∧RV g.m w (x0:List (List Int)) up0∧e 10=.int .i64 (((x0).length:Int))∧e 11=.int .i64 (o0)) (fun Q' hQ=>?_) (fun uH dI hR=>?_)
   ·replace h := hx
    clear hx
    refine Zr ?_
    refine Zf (Za ?_)
    obtain ⟨g8,hy20,h⟩:=Gc h
    refine Zy (Qc up0 o0 1) (Zh (α:=List Int) Try.underlying42 Try.sizeOf22 cD mB n9 hy20) rfl ?_
    have zG:=Tj mB hy20
    refine Ze .plain rfl (Gr (g:=zD) Try.isAgg22 Try.sizeOf22 rfl zG fun iG aH=>?_)
    refine Zg iG rfl rfl ?_
    refine Zb (Zd (Zf (Za (Zo bD rfl ?_))))
    refine Zn iG rfl rfl ?_
    refine Zy (.int .i64 ((g8).length:Int)) (Tw Try.underlying22 rfl aH) rfl ?_
    refine Gu (.int .i64 ((w64 (l5 + ((g8).length:Int))))) rfl rfl rfl rfl ?_
    refine Zg (.int .i64 ((w64 (l5 + ((g8).length:Int))))) rfl rfl ?_
    refine Zb (Zd (Zf (Za (Zn (.int .i64 ((w64 (l5 + ((g8).length:Int))))) rfl rfl ?_))))
    refine Zy (.bool ((decide ((w64 (l5 + ((g8).length:Int))) < (0:Int))))) (Td rfl rfl rfl) rfl ?_
    refine Zb (Zd ?_)
    rcases Zt h with ⟨zB,h⟩ | ⟨zB,h⟩
    ·refine Qq zB rfl ?_
     refine Za ?_
     cases h
    ·refine Qr zB rfl ?_
     refine Zu (Qn ?_)
     obtain rfl:=sinj h
     exact hQ _ _ ⟨zD,hfr,uC,vC,rfl,cD,mB,nB,n9⟩
   ·clear hx
    obtain ⟨cH,hfr,vE,xE,yE,zE,cF,aE,bE⟩:=hR
    refine Za (Gu (.int .i64 ((w64 (o0 + (1:Int))))) bE rfl rfl rfl ?_)
    refine Zn (.int .i64 ((w64 (o0 + (1:Int))))) rfl rfl ?_
    exact Zb (Zd (mG (l8,(w64 (o0 + (1:Int)))) _ _ ⟨cH,hfr,vE,xE,yE,zE,cF,aE,rfl⟩ h))
  ·refine Qr yB rfl ?_
   refine Qm ?_
   refine Tm ?_
   refine Tm ?_
   refine Tu ?_
   obtain rfl:=sinj h
   exact hQ _ _ ⟨zD,hfr,uC,vC,bD⟩
 ·clear hx
  obtain ⟨gH,hfr,dF,l9,eF⟩:=hR
  refine Zf (Za (Zo eF rfl ?_))
  obtain ⟨bG,sG,h⟩:=Gc h
  refine Ze .plain rfl (D_callG (g:=gH) (vs:=[.slice none 0 0,.int .i64 (n8)]) en91 (.cons rfl (.cons rfl .nil)) (wk91 (iO:=4024) sG) fun jH iI jG hs m26=>?_)
  obtain ⟨o26,kH⟩:=m26
  have hfr:=hfr.ext hs
  have l9:=l9.ext hs
  refine Zg jG rfl rfl ?_
  refine Zb (Zd ?_)
  obtain ⟨v8,hx,h⟩:=Gc h
  refine Th (fun e w=>∃ (g:Gh) (v6:Value),Fr gI wI g w∧e 6=v6∧RV g.m w (v8:List Int) v6∧OS 4024 g w 3 (v8:List Int) v6) (fun Q' hQ=>?_) (fun xH jI hR=>?_)
  ·replace h := hx
   clear hx
   refine Zf (Za (Zo dF rfl ?_))
   refine Zy (.int .i64 ((x0).length:Int)) (Tw Try.underlying42 rfl l9) rfl ?_
   refine Zn (.int .i64 (0)) rfl rfl ?_
   refine Zb (Zd (Zr ?_))
   refine E_lp h (fun (s:(List Int) × Int) e w=>∃ (g:Gh) (v6:Value),Fr gI wI g w∧e 6=v6∧RV g.m w (s.1:List Int) v6∧OS 4024 g w 3 (s.1:List Int) v6∧e 25=up0∧RV g.m w (x0:List (List Int)) up0∧e 26=.int .i64 (((x0).length:Int))∧e 27=.int .i64 (s.2)) ⟨jH,(jG),hfr,rfl,kH,o26,rfl,l9,rfl,rfl⟩ (fun X42 cG xG=>?_)
   rintro ⟨lB,u3⟩ yH kI ⟨iE,rF,hfr,lD,nD,oD,oB,t5,vB,aB⟩ h
   refine Zf (Za (Gu (.bool ((decide (u3 < ((x0).length:Int))))) aB vB rfl rfl ?_))
   refine Zb (Zd (Zf ?_))
   rcases Zt h with ⟨cC,h⟩ | ⟨cC,h⟩
   ·refine Qq cC rfl ?_
    refine Zu (Zd ?_)
    obtain ⟨i6,hx,h⟩:=Gc h
    refine Th (fun e w=>∃ (g:Gh) (v6:Value),Fr gI wI g w∧e 6=v6∧RV g.m w (i6:List Int) v6∧OS 4024 g w 3 (i6:List Int) v6∧e 25=up0∧RV g.m w (x0:List (List Int)) up0∧e 26=.int .i64 (((x0).length:Int))∧e 27=.int .i64 (u3)) (fun Q' hQ=>?_) (fun zH lI hR=>?_)
    ·replace h := hx
     clear hx
     refine Zr ?_
     refine Zf (Za ?_)
     obtain ⟨eG,lE,h⟩:=Gc h
     refine Zy (Qc up0 u3 1) (Zh (α:=List Int) Try.underlying42 Try.sizeOf22 oB t5 aB lE) rfl ?_
     have lH:=Tj t5 lE
     refine Ze .plain rfl (Gr (g:=iE) Try.isAgg22 Try.sizeOf22 rfl lH fun kG mH=>?_)
     refine Zg kG rfl rfl ?_
     refine Zb (Zd (Za (Zo lD rfl ?_)))
     refine Zn kG rfl rfl ?_
     obtain ⟨gG,yG,h⟩:=Gc h
     refine Ze .plain rfl (Ke (g:=iE) (i:=4024) Try.underlying22 info_3 rfl rfl oD nD rfl mH yG fun nH mI lG hs o53 oH _=>?_)
     have hfr:=hfr.stp hs
     have t5:=t5.stp hs
     refine Zg lG rfl rfl ?_
     refine Zb (Qn ?_)
     obtain rfl:=sinj h
     exact hQ _ _ ⟨nH,(lG),hfr,rfl,oH,o53,oB,t5,vB,aB⟩
    ·clear hx
     obtain ⟨pH,sF,hfr,tF,uF,vF,mE,oE,rE,uE⟩:=hR
     refine Za (Gu (.int .i64 ((w64 (u3 + (1:Int))))) uE rfl rfl rfl ?_)
     refine Zn (.int .i64 ((w64 (u3 + (1:Int))))) rfl rfl ?_
     exact Zb (Zd (xG (i6,(w64 (u3 + (1:Int)))) _ _ ⟨pH,(sF),hfr,tF,uF,vF,mE,oE,rE,rfl⟩ h))
   ·refine Qr cC rfl ?_
    refine Qm ?_
    refine Tm ?_
    refine Tm ?_
    refine Tu ?_
    obtain rfl:=sinj h
    exact hQ _ _ ⟨iE,(rF),hfr,lD,nD,oD⟩
  ·clear hx
   obtain ⟨nI,yD,hfr,xF,yF,qH⟩:=hR
   refine Zf (Za (Zo xF rfl ?_))
   refine Zg yD rfl rfl ?_
   refine Zb (Zd (Gw ?_))
   obtain rfl:=sinj h
   exact Wb rfl rfl (show _=yD from rfl) ⟨_,hfr,yF⟩
def f68 (x0:List (List Int)):Option ((List (List Int))):=
 Option.bind (α:=(List (List Int))) (
  lp (σ:=(List (List Int)) × Int) (fun kH (t5,o0)=>
   jn (σ:=Unit) (fun _=>
    Option.bind (α:=(List (List Int))) (
     (idx x0 o0).bind fun lH=>
     (f92 big lH).bind fun n9=>
     Option.bind (α:=(List (List Int))) (
      lp (σ:=(List (List Int)) × Int) (fun mH (oB,l5)=>
       jn (σ:=Unit) (fun _=>
        Option.bind (α:=(List (List Int))) (
         lp (σ:=(List (List Int)) × Int) (fun nH (vB,i6)=>
          jn (σ:=Unit) (fun _=>
           Option.bind (α:=(List (List Int))) (
            (idx t5 l5).bind fun oH=>
            (apnd 8 (([]:List Int)) oH).bind fun nB=>
            (idx n9 i6).bind fun pH=>
            (apnd 8 nB pH).bind fun yG=>
            (apnd 24 vB (([yG]:List (List Int)))).bind fun qH=>
            some (qH)
            ) fun yB=>
           nH (yB,(w64 (i6 + (1:Int))))
           ) fun sH=>
          bif (decide (i6 < ((n9).length : Int))) then
           sH ()
          else
           some (vB)
          ) big (oB,(0:Int))
         ) fun zB=>
        mH (zB,(w64 (l5 + (1:Int))))
        ) fun tH=>
       bif (decide (l5 < ((t5).length : Int))) then
        tH ()
       else
        some (oB)
       ) big (([]:List (List Int)),(0:Int))
      ) fun cD=>
     some (cD)
     ) fun cC=>
    kH (cC,(w64 (o0 + (1:Int))))
    ) fun uH=>
   bif (decide (o0 < ((x0).length : Int))) then
    uH ()
   else
    some (t5)
   ) big (([([]:List Int)]:List (List Int)),(0:Int))
  ) fun lD=>
 some (lD)
theorem en68:Enters Try.prog 68:=enters_of Try.func68 (by kernel_rfl) rfl
theorem wk68 {gI:Gh} {wI:World} {x0:List (List Int)} {up0:Value} (rp0:RV gI.m wI x0 up0) {r:(List (List Int))} (h:f68 x0=some r):Fn Try.prog 68 #[up0] gI wI (fun m w v=>RV m w (r) v):=by
 unfold f68 at h
 refine Tf Try.func68 rfl (Nat.le_of_ble_eq_true rfl) fun g0 hm hfr=>?_
 have rp0:RV g0.m wI x0 up0:=hm ▸ rp0
 show E _ 51 none _ _ _ _ _
 refine Zf (Za (Zg (.slice none 0 0) rfl rfl ?_))
 refine Zb (Zd (Zf (Za (Ze .plain rfl (Gi (g:=g0) 3009 (xs:=([]:List Int)) (vs:=[]) Try.underlying22 Try.sizeOf3 Try.zeroValue3 rfl rfl .nil RVs.nil rfl rfl fun g1 w1 v1 hs o1 r1 hxt hfl=>?_)))))
 have hfr:=hfr.stp hs
 have rp0:=rp0.stp hs
 refine Ze .plain rfl (Gi (g:=g1) 3010 (xs:=([([]:List Int)]:List (List Int))) (vs:=[v1]) Try.underlying42 Try.sizeOf22 Try.zeroValue22 rfl rfl (.cons rfl .nil) (RVs.cons r1 RVs.nil) rfl rfl fun g2 w2 v2 hs o2 r2 hxt hfl=>?_)
 have hfr:=hfr.stp hs
 have rp0:=rp0.stp hs
 refine Zg v2 rfl rfl ?_
 refine Zb (Zd ?_)
 obtain ⟨lD,hx,h⟩:=Gc h
 refine Th (fun e w=>∃ (g:Gh) (v3:Value),Fr gI wI g w∧e 3=v3∧RV g.m w (lD:List (List Int)) v3) (fun Q' hQ=>?_) (fun jO vO hR=>?_)
 ·replace h := hx
  clear hx
  refine Zf (Za (Zg (.int .i64 (0)) rfl rfl ?_))
  refine Zb (Zd (Zr ?_))
  refine E_lp h (fun (s:(List (List Int)) × Int) e w=>∃ (g:Gh) (v3:Value),Fr gI wI g w∧e 0=up0∧RV g.m w (x0:List (List Int)) up0∧e 3=v3∧RV g.m w (s.1:List (List Int)) v3∧e 4=.int .i64 (s.2)) ⟨g2,(v2),hfr,rfl,rp0,rfl,r2,rfl⟩ (fun X1903 kH iM=>?_)
  rintro ⟨t5,o0⟩ kO xO ⟨xH,u3,hfr,iE,lE,mE,oE,rE⟩ h
  refine Zq h (fun (s:Unit) e w=>∃ (g:Gh) ,Fr gI wI g w∧e 0=up0∧RV g.m w (x0:List (List Int)) up0∧e 3=u3∧RV g.m w (t5:List (List Int)) u3∧e 4=.int .i64 (o0)) (fun X1906 uH jM h=>?_) ?_
  ·refine Zf (Za (Zo rE rfl ?_))
   refine Zo iE rfl ?_
   refine Zy (.int .i64 ((x0).length:Int)) (Tw Try.underlying42 rfl lE) rfl ?_
   refine Gu (.bool ((decide (o0 < ((x0).length:Int))))) rfl rfl rfl rfl ?_
   refine Zb (Zd ?_)
   rcases Zt h with ⟨zD,h⟩ | ⟨zD,h⟩
   ·refine Qq zD rfl ?_
    exact Zu (Zd (jM () _ _ ⟨xH,hfr,iE,lE,mE,oE,rE⟩ h))
   ·refine Qr zD rfl ?_
    refine Qm ?_
    refine Tm ?_
    refine Tm ?_
    refine Tu ?_
    obtain rfl:=sinj h
    exact hQ _ _ ⟨xH,(u3),hfr,mE,oE⟩
  ·rintro _ lO yO ⟨yH, hfr, uE, aB, kI, uC, vE⟩ h
   obtain ⟨cC,hx,h⟩:=Gc h
   refine Th (fun e w=>∃ (g:Gh) (v3:Value),Fr gI wI g w∧e 0=up0∧RV g.m w (x0:List (List Int)) up0∧e 3=v3∧RV g.m w (cC:List (List Int)) v3∧OS 3022 g w 22 (cC:List (List Int)) v3∧e 4=.int .i64 (o0)) (fun Q' hQ=>?_) (fun mO zO hR=>?_)
   ·replace h := hx
    clear hx
    refine Zr ?_
    refine Zf (Za (Zo uE rfl ?_))
    refine Zo vE rfl ?_
    obtain ⟨lH,cH,h⟩:=Gc h
    refine Zy (Qc up0 o0 1) (Zh (α:=List Int) Try.underlying42 Try.sizeOf22 rfl aB rfl cH) rfl ?_
    have cN:=Tj aB cH
    refine Ze .plain rfl (Gr (g:=yH) Try.isAgg22 Try.sizeOf22 rfl cN fun dN eN=>?_)
    obtain ⟨n9,kM,h⟩:=Gc h
    refine Ze .plain rfl (Zp (g:=yH) (vs:=[dN]) en92 (.cons rfl .nil) (wk92 big eN kM) fun gN nO n8 hs hr=>?_)
    have hfr:=hfr.ext hs
    have aB:=aB.ext hs
    have uC:=uC.ext hs
    have zG:=hr
    refine Ze .plain rfl (Gi (g:=gN) 3022 (xs:=([]:List (List Int))) (vs:=[]) Try.underlying42 Try.sizeOf22 Try.zeroValue22 rfl rfl .nil RVs.nil rfl rfl fun iN aP zH hs o2227 jN hxt hfl=>?_)
    have hfr:=hfr.stp hs
    have aB:=aB.stp hs
    have uC:=uC.stp hs
    have zG:=zG.stp hs
    refine Zg n8 rfl rfl ?_
    refine Zg zH rfl rfl ?_
    refine Zb (Zd ?_)
    obtain ⟨cD,hx,h⟩:=Gc h
    refine Th (fun e w=>∃ (g:Gh) (v6:Value),Fr gI wI g w∧e 0=up0∧RV g.m w (x0:List (List Int)) up0∧e 4=.int .i64 (o0)∧e 6=v6∧RV g.m w (cD:List (List Int)) v6∧OS 3022 g w 22 (cD:List (List Int)) v6) (fun Q' hQ=>?_) (fun oO bP hR=>?_)
    ·replace h := hx
     clear hx
     refine Zf (Za (Zg (.int .i64 (0)) rfl rfl ?_))
     refine Zb (Zd (Zr ?_))
     refine E_lp h (fun (s:(List (List Int)) × Int) e w=>∃ (g:Gh) (v6:Value),Fr gI wI g w∧e 0=up0∧RV g.m w (x0:List (List Int)) up0∧e 3=u3∧RV g.m w (t5:List (List Int)) u3∧e 4=.int .i64 (o0)∧e 5=n8∧RV g.m w (n9:List (List Int)) n8∧e 6=v6∧RV g.m w (s.1:List (List Int)) v6∧OS 3022 g w 22 (s.1:List (List Int)) v6∧e 7=.int .i64 (s.2)) ⟨iN,(zH),hfr,uE,aB,kI,uC,vE,rfl,zG,rfl,jN,o2227,rfl⟩ (fun X2381 mH pM=>?_)
     rintro ⟨oB,l5⟩ pO cP ⟨aI,vC,hfr,xE,yE,zE,cF,dF,lI,mI,eF,rF,sF,tF⟩ h
     refine Zq h (fun (s:Unit) e w=>∃ (g:Gh) ,Fr gI wI g w∧e 0=up0∧RV g.m w (x0:List (List Int)) up0∧e 3=u3∧RV g.m w (t5:List (List Int)) u3∧e 4=.int .i64 (o0)∧e 5=n8∧RV g.m w (n9:List (List Int)) n8∧e 6=vC∧RV g.m w (oB:List (List Int)) vC∧OS 3022 g w 22 (oB:List (List Int)) vC∧e 7=.int .i64 (l5)) (fun X2384 tH qM h=>?_) ?_
     ·refine Zf (Za (Zo tF rfl ?_))
      refine Zo zE rfl ?_
      refine Zy (.int .i64 ((t5).length:Int)) (Tw Try.underlying42 rfl cF) rfl ?_
      refine Gu (.bool ((decide (l5 < ((t5).length:Int))))) rfl rfl rfl rfl ?_
      refine Zb (Zd ?_)
      rcases Zt h with ⟨aE,h⟩ | ⟨aE,h⟩
      ·refine Qq aE rfl ?_
       exact Zu (Zd (qM () _ _ ⟨aI,hfr,xE,yE,zE,cF,dF,lI,mI,eF,rF,sF,tF⟩ h))
      ·refine Qr aE rfl ?_
       refine Qm ?_
       refine Tm ?_
       refine Tm ?_
       refine Tu ?_
       obtain rfl:=sinj h
       exact hQ _ _ ⟨aI,(vC),hfr,xE,yE,dF,eF,rF,sF⟩
     ·rintro _ qO dP ⟨kN, hfr, nI, pI, qI, sI, jJ, kJ, lJ, mJ, nJ, oJ, pJ⟩ h
      obtain ⟨zB,hx,h⟩:=Gc h
      refine Th (fun e w=>∃ (g:Gh) (v6:Value),Fr gI wI g w∧e 0=up0∧RV g.m w (x0:List (List Int)) up0∧e 3=u3∧RV g.m w (t5:List (List Int)) u3∧e 4=.int .i64 (o0)∧e 5=n8∧RV g.m w (n9:List (List Int)) n8∧e 6=v6∧RV g.m w (zB:List (List Int)) v6∧OS 3022 g w 22 (zB:List (List Int)) v6∧e 7=.int .i64 (l5)) (fun Q' hQ=>?_) (fun rO eP hR=>?_)
      ·replace h := hx
       clear hx
       refine Zr ?_
       refine Zf (Za (Zg (.int .i64 (0)) rfl rfl ?_))
       refine Zb (Zd (Zr ?_))
       refine E_lp h (fun (s:(List (List Int)) × Int) e w=>∃ (g:Gh) (v6:Value),Fr gI wI g w∧e 0=up0∧RV g.m w (x0:List (List Int)) up0∧e 3=u3∧RV g.m w (t5:List (List Int)) u3∧e 4=.int .i64 (o0)∧e 5=n8∧RV g.m w (n9:List (List Int)) n8∧e 6=v6∧RV g.m w (s.1:List (List Int)) v6∧OS 3022 g w 22 (s.1:List (List Int)) v6∧e 7=.int .i64 (l5)∧e 8=.int .i64 (s.2)) ⟨kN,(vC),hfr,nI,pI,qI,sI,jJ,kJ,lJ,mJ,nJ,oJ,pJ,rfl⟩ (fun X2460 nH rM=>?_)
       rintro ⟨vB,i6⟩ sO gP ⟨bI,bD,hfr,uF,vF,xF,yF,aG,nD,oD,bG,cG,eG,gG,iG⟩ h
       refine Zq h (fun (s:Unit) e w=>∃ (g:Gh) ,Fr gI wI g w∧e 0=up0∧RV g.m w (x0:List (List Int)) up0∧e 3=u3∧RV g.m w (t5:List (List Int)) u3∧e 4=.int .i64 (o0)∧e 5=n8∧RV g.m w (n9:List (List Int)) n8∧e 6=bD∧RV g.m w (vB:List (List Int)) bD∧OS 3022 g w 22 (vB:List (List Int)) bD∧e 7=.int .i64 (l5)∧e 8=.int .i64 (i6)) (fun X2463 sH sM h=>?_) ?_
       ·refine Zf (Za (Zo iG rfl ?_))
        refine Zo nD rfl ?_
        refine Zy (.int .i64 ((n9).length:Int)) (Tw Try.underlying42 rfl oD) rfl ?_
        refine Gu (.bool ((decide (i6 < ((n9).length:Int))))) rfl rfl rfl rfl ?_
        refine Zb (Zd ?_)
        rcases Zt h with ⟨bE,h⟩ | ⟨bE,h⟩
        ·refine Qq bE rfl ?_
         exact Zu (Zd (sM () _ _ ⟨bI,hfr,uF,vF,xF,yF,aG,nD,oD,bG,cG,eG,gG,iG⟩ h))
        ·refine Qr bE rfl ?_
         refine Qm ?_
         refine Tm ?_
         refine Tm ?_
         refine Tu ?_
         refine Qn ?_
         obtain rfl:=sinj h
         exact hQ _ _ ⟨bI,(bD),hfr,uF,vF,xF,yF,aG,nD,oD,bG,cG,eG,gG⟩
       ·rintro _ tO lN ⟨dI, hfr, qJ, l9, jG, g8, rJ, kG, l8, sJ, lB, mB, lG, mG⟩ h
        obtain ⟨yB,hx,h⟩:=Gc h
        refine Th (fun e w=>∃ (g:Gh) (v6:Value),Fr gI wI g w∧e 0=up0∧RV g.m w (x0:List (List Int)) up0∧e 3=u3∧RV g.m w (t5:List (List Int)) u3∧e 4=.int .i64 (o0)∧e 5=n8∧RV g.m w (n9:List (List Int)) n8∧e 6=v6∧RV g.m w (yB:List (List Int)) v6∧OS 3022 g w 22 (yB:List (List Int)) v6∧e 7=.int .i64 (l5)∧e 8=.int .i64 (i6)) (fun Q' hQ=>?_) (fun uO iP hR=>?_)
        ·replace h := hx
         clear hx
         refine Zr ?_
         obtain ⟨oH,gH,h⟩:=Gc h
         have mN:=Tj g8 gH
         refine Zs (x:=.tmp 39) Try.isAgg22 Try.sizeOf22 mN fun nN oN tM=>?_
         obtain ⟨nB,uM,h⟩:=Gc h
         obtain ⟨pH,jH,h⟩:=Gc h
         have pN:=Tj l8 jH
         refine Zs (x:=.tmp 44) Try.isAgg22 Try.sizeOf22 pN fun qN aH vM=>?_
         refine E_drawTL (g:=dI) (n:=11) [0] [(1,(fun v g w=>RV g.m w ([]:List Int) v∧OS 3036 g w 3 ([]:List Int) v∧Gn v)),(6,(fun v g w=>RV g.m w nB v∧OS 3036 g w 3 nB v))] [0,1,2,3,4,5,6,7,8,9,10] rfl Qf (by kernel_rfl) (⟨fun _=>Ti Wy (Ti up_os (Tr _)),fun _=>Ti Wy up_os,trivial⟩) rfl ?_
         refine L_purL (c:=bD) rfl rfl .plain (Zk sJ) ?_
         refine Qa (φ:=fun v g w=>RV g.m w ([]:List Int) v∧OS 3036 g w 3 ([]:List Int) v∧Gn v) rfl rfl .plain (fun g w hd=>Gi (g:=g) 3036 (xs:=([]:List Int)) (vs:=[]) Try.underlying22 Try.sizeOf3 Try.zeroValue3 rfl rfl .nil RVs.nil rfl rfl fun g' w' v hs o r hxt hfl=>⟨g',hxt,r,o,hfl⟩) (fun v8 hv=>?_)
         clear hv
         refine Gb u3 rfl rfl (Zk jG) ?_
         refine Gb (.int .i64 (l5)) rfl rfl (Zk lG) ?_
         refine Gb (Qc u3 l5 1) rfl rfl (Zh (α:=List Int) Try.underlying42 Try.sizeOf22 rfl g8 rfl gH) ?_
         refine Gy (c:=nN) rfl rfl .plain (fun _ _ h=>h.ch) tM rfl ?_
         refine Qa (φ:=fun v g w=>RV g.m w nB v∧OS 3036 g w 3 nB v) rfl rfl .plain (fun g w hd=>Ke (g:=g) (i:=3036) Try.underlying22 info_3 rfl rfl (word (A:=fun g w=>RV g.m w ([]:List Int) v8∧OS 3036 g w 3 ([]:List Int) v8∧Gn v8) 1 rfl rfl (Tv hd)).2.1 (word (A:=fun g w=>RV g.m w ([]:List Int) v8∧OS 3036 g w 3 ([]:List Int) v8∧Gn v8) 1 rfl rfl (Tv hd)).1 rfl (oN.ext hd.1) uM fun g' w' v hs o r hf=>⟨g',hf (word (A:=fun g w=>RV g.m w ([]:List Int) v8∧OS 3036 g w 3 ([]:List Int) v8∧Gn v8) 1 rfl rfl (Tv hd)).2.2,r,o⟩) (fun yD hv=>?_)
         clear hv
         refine Gb n8 rfl rfl (Zk kG) ?_
         refine Gb (.int .i64 (i6)) rfl rfl (Zk mG) ?_
         refine Gb (Qc n8 i6 1) rfl rfl (Zh (α:=List Int) Try.underlying42 Try.sizeOf22 rfl l8 rfl jH) ?_
         refine Gy (c:=qN) rfl rfl .plain (fun _ _ h=>h.ch) vM rfl ?_
         refine L_nil fun iI rN hall=>?_
         have hs:=hall.1
         have hlt:Lt dI.m lN iI rN:=hs.ch
         have hfr:=hfr.ext hs
         have l9:=l9.ext hs
         have g8:=g8.ext hs
         have l8:=l8.ext hs
         have lB:=lB.ext hs
         have mB:=mB.ext hs
         have aH:=aH.ext hs
         have jP:=(Gl (A:=fun g w=>RV g.m w ([]:List Int) v8∧OS 3036 g w 3 ([]:List Int) v8∧Gn v8) 1 rfl hall).1
         have o2517:=(Gl (A:=fun g w=>RV g.m w ([]:List Int) v8∧OS 3036 g w 3 ([]:List Int) v8∧Gn v8) 1 rfl hall).2.1
         have sN:=(Gl (A:=fun g w=>RV g.m w nB yD∧OS 3036 g w 3 nB yD) 6 rfl hall).1
         have o2522:=(Gl (A:=fun g w=>RV g.m w nB yD∧OS 3036 g w 3 nB yD) 6 rfl hall).2
         clear hs hall
         obtain ⟨yG,xM,h⟩:=Gc h
         refine TL_do hlt.w .plain rfl (Ke (g:=iI) (i:=3036) Try.underlying22 info_3 rfl rfl o2522 sN rfl aH xM fun tN kP uN hs o2527 vN _=>?_)
         have hfr:=hfr.stp hs
         have hlt:=hlt.stp hs
         have l9:=l9.stp hs
         have g8:=g8.stp hs
         have l8:=l8.stp hs
         have lB:=lB.stp hs
         have mB:=mB.stp hs rfl
         refine TL_do hlt.w .plain rfl (Gi (g:=tN) 3047 (xs:=([yG]:List (List Int))) (vs:=[uN]) Try.underlying42 Try.sizeOf22 Try.zeroValue22 rfl rfl (.cons rfl .nil) (RVs.cons vN RVs.nil) rfl rfl fun xN lP mP hs o2529 yN hxt hfl=>?_)
         have hfr:=hfr.stp hs
         have hlt:=hlt.stp hs
         have l9:=l9.stp hs
         have g8:=g8.stp hs
         have l8:=l8.stp hs
         have lB:=lB.stp hs
         have mB:=mB.stp hs rfl
         obtain ⟨qH,bN,h⟩:=Gc h
         refine TL_do hlt.w .plain rfl (Ke (g:=xN) (i:=3022) Try.underlying42 info_22 rfl rfl mB lB rfl yN bN fun zN nP jI hs o2530 aO _=>?_)
         have hfr:=hfr.stp hs
         have hlt:=hlt.stp hs
         have l9:=l9.stp hs
         have g8:=g8.stp hs
         have l8:=l8.stp hs
         refine TL_pur hlt.w (v:=jI) (Tg rfl) .plain rfl ?_
         refine TL_nil hlt.w ?_
         clear hlt
         refine Qn ?_
         obtain rfl:=sinj h
         exact hQ _ _ ⟨zN,(jI),hfr,qJ,l9,jG,g8,rJ,kG,l8,rfl,aO,o2530,lG,mG⟩
        ·clear hx
         obtain ⟨bO,vJ,hfr,xJ,zJ,aK,bK,cK,dK,lK,mK,nK,oK,pK,qK⟩:=hR
         refine Za (Zo qK rfl ?_)
         refine Gu (.int .i64 ((w64 (i6 + (1:Int))))) rfl rfl rfl rfl ?_
         refine Zg (.int .i64 ((w64 (i6 + (1:Int))))) rfl rfl ?_
         exact Zb (Zd (rM (yB,(w64 (i6 + (1:Int)))) _ _ ⟨bO,(vJ),hfr,xJ,zJ,aK,bK,cK,dK,lK,mK,nK,oK,pK,rfl⟩ h))
      ·clear hx
       obtain ⟨cO,sK,hfr,tK,uK,vK,xK,yK,zK,aL,bL,dL,eL,gL⟩:=hR
       refine Za (Zo gL rfl ?_)
       refine Gu (.int .i64 ((w64 (l5 + (1:Int))))) rfl rfl rfl rfl ?_
       refine Zg (.int .i64 ((w64 (l5 + (1:Int))))) rfl rfl ?_
       exact Zb (Zd (pM (zB,(w64 (l5 + (1:Int)))) _ _ ⟨cO,(sK),hfr,tK,uK,vK,xK,yK,zK,aL,bL,dL,eL,rfl⟩ h))
    ·clear hx
     obtain ⟨dO,sG,hfr,iL,jL,lL,mL,nL,oL⟩:=hR
     refine Za (Zo mL rfl ?_)
     refine Zg sG rfl rfl ?_
     refine Zb (Qn ?_)
     obtain rfl:=sinj h
     exact hQ _ _ ⟨dO,(sG),hfr,iL,jL,rfl,nL,oL,lL⟩
   ·clear hx
    obtain ⟨eO,xL,hfr,yL,zL,aM,bM,gO,cM⟩:=hR
    refine Za (Zo cM rfl ?_)
    refine Gu (.int .i64 ((w64 (o0 + (1:Int))))) rfl rfl rfl rfl ?_
    refine Zg (.int .i64 ((w64 (o0 + (1:Int))))) rfl rfl ?_
    exact Zb (Zd (iM (cC,(w64 (o0 + (1:Int)))) _ _ ⟨eO,(xL),hfr,yL,zL,aM,bM,rfl⟩ h))
 ·clear hx
  obtain ⟨oP,xG,hfr,dM,eM⟩:=hR
  refine Zf (Za (Zo dM rfl ?_))
  refine Zg xG rfl rfl ?_
  refine Zb (Zd (Gw ?_))
  obtain rfl:=sinj h
  exact Wb rfl rfl (show _=xG from rfl) ⟨_,hfr,eM⟩
def f86 (x0:List Zv) (x1:Zv→Option Bool):Option (Bool):=
 (f102 x0 x1).bind fun y2=>
 some ((decide (y2 ≥ (0:Int))))
theorem en86:Enters Try.prog 86:=enters_of Try.func86 (by kernel_rfl) rfl
theorem wk86 {gI:Gh} {wI:World} {x0:List Zv} {x1:Zv→Option Bool} {up0:Value} (rp0:RV gI.m wI x0 up0) {up1:Value} (rp1:FnV1 Try.prog x1 up1 gI wI) {r:Bool} (h:f86 x0 x1=some r):Fn Try.prog 86 #[up0,up1] gI wI (fun _ _ v=>v=.bool (r)):=by
 unfold f86 at h
 refine Tf Try.func86 rfl (Nat.le_of_ble_eq_true rfl) fun g0 hm hfr=>?_
 have rp0:RV g0.m wI x0 up0:=hm ▸ rp0
 obtain ⟨ff1,fa1,fc1,rfl,fen1,fcl1⟩:=rp1
 show E _ 9 none _ _ _ _ _
 refine Zf (Za (Zg (.bool false) rfl rfl ?_))
 refine Zb (Zd (Zf (Za (Zn up0 rfl rfl ?_))))
 refine Zn ((.func (.func ff1) fa1 fc1)) rfl rfl ?_
 obtain ⟨y2,hy2,h⟩:=Gc h
 refine Ze .plain rfl (Zp (g:=g0) (vs:=[up0,(.func (.func ff1) fa1 fc1)]) en102 (.cons rfl (.cons rfl .nil)) (wk102 rp0 (FnV1.ch ⟨_,_,_,rfl,fen1,fcl1⟩ hfr.ch) hy2) fun g1 w1_ v1 hs hr=>?_)
 have hfr:=hfr.ext hs
 subst hr
 refine Gu (.bool ((decide (y2 ≥ (0:Int))))) rfl rfl rfl rfl ?_
 refine Zg (.bool ((decide (y2 ≥ (0:Int))))) rfl rfl ?_
 refine Zb (Zd (Gw ?_))
 obtain rfl:=sinj h
 exact Wb rfl rfl (show _=.bool ((decide (y2 ≥ (0:Int)))) from rfl) ⟨_,hfr,rfl⟩
def f87 (x0:Int) (x1:Int) (x2:List Int):Option (Bool):=
 (f103 x2 ((fun a0=>f104 a0 x0 x1))).bind fun y4=>
 some ((!y4))
theorem en87:Enters Try.prog 87:=enters_of Try.func87 (by kernel_rfl) rfl
theorem wk87 {gI:Gh} {wI:World} {x0:Int} {x1:Int} {x2:List Int} {up2:Value} (rp2:RV gI.m wI x2 up2) {r:Bool} (h:f87 x0 x1 x2=some r):Fn Try.prog 87 #[.int .i64 (x0),.int .i64 (x1),up2] gI wI (fun _ _ v=>v=.bool (r)):=by
 unfold f87 at h
 refine Tf Try.func87 rfl (Nat.le_of_ble_eq_true rfl) fun g0 hm hfr=>?_
 have rp2:RV g0.m wI x2 up2:=hm ▸ rp2
 show E _ 11 none _ _ _ _ _
 refine Zf (Za (Ze .plain rfl (We (g:=g0) rfl (Zj.2 rfl) fun g1 w1 p1 hs q1=>?_)))
 have hfr:=hfr.ext hs
 have rp2:=rp2.ext hs
 refine Ze .plain rfl (We (g:=g1) rfl (Zj.2 rfl) fun g2 w2 p2 hs q2=>?_)
 have hfr:=hfr.ext hs
 have rp2:=rp2.ext hs
 have q1:=q1.ext hs
 refine Zg (.bool false) rfl rfl ?_
 refine Zb (Zd (Zf (Za (Zn up2 rfl rfl ?_))))
 refine Zy ((.func (.func 104) #[] #[p1,p2])) (P_makeFunc (capf_0_2 (show ev _ _=p1 from rfl) (show ev _ _=p2 from rfl))) rfl ?_
 obtain ⟨y4,o0,h⟩:=Gc h
 refine Ze .plain rfl (Zp (g:=g2) (vs:=[up2,(.func (.func 104) #[] #[p1,p2])]) en103 (.cons rfl (.cons rfl .nil)) (wk103 rp2 ⟨104,#[],#[p1,p2],rfl,en104,fun g' w' hch a0 b0 r hu0 hr=>by obtain rfl:=Zj.1 hu0; exact Fn.mono (wk104  (q1.ch hch) (q2.ch hch) hr) fun _ _ _ h=>RV_bool.2 h⟩ o0) fun g3 w3_ v3 hs hr=>?_)
 have hfr:=hfr.ext hs
 subst hr
 refine Zy (.bool (!y4)) (Wm rfl) rfl ?_
 refine Zg (.bool (!y4)) rfl rfl ?_
 refine Zb (Zd (Gw ?_))
 obtain rfl:=sinj h
 exact Wb rfl rfl (show _=.bool (!y4) from rfl) ⟨_,hfr,rfl⟩
def f95 (x0:Ge) (z0:Gf):Option (Bool):=
 Option.bind (α:=Bool) (
  (idx (((z0).BoxLoom).Boxes) (0:Int)).bind fun g8=>
  (f87 ((0:Int)) ((w64 (g8 - (1:Int)))) (([(x0).Left]:List Int))).bind fun t5=>
  bif (!t5) then
   some (true)
  else
   (idx (((z0).BoxLoom).Boxes) (1:Int)).bind fun l8=>
   (f87 ((0:Int)) ((w64 (l8 - (1:Int)))) (([(x0).Right]:List Int))).bind fun y135=>
   some ((!y135))
  ) fun i6=>
 some (i6)
theorem en95:Enters Try.prog 95:=enters_of Try.func95 (by kernel_rfl) rfl
theorem wk95 {gI:Gh} {wI:World} {x0:Ge} {z0:Gf} {up0:Value} (rp0:RV gI.m wI x0 up0) {pf0:Value} (qf0:PT gI.m wI z0 pf0) {r:Bool} (h:f95 x0 z0=some r):Fn Try.prog 95 #[up0,pf0] gI wI (fun _ _ v=>v=.bool (r)):=by
 unfold f95 at h
 refine Tf Try.func95 rfl (Nat.le_of_ble_eq_true rfl) fun g0 hm hfr=>?_
 have qf0:PT g0.m wI z0 pf0:=hm ▸ qf0
 have rp0:RV g0.m wI x0 up0:=hm ▸ rp0
 show E _ 28 none _ _ _ _ _
 refine Zf (Za (Ze .plain rfl (We (g:=g0) rfl rp0 fun g1 w1 p1 hs q1=>?_)))
 have hfr:=hfr.ext hs
 have qf0:=qf0.ext hs
 refine Zg (.bool false) rfl rfl ?_
 refine Zb (Zd ?_)
 obtain ⟨i6,hx,h⟩:=Gc h
 refine Th (fun e w=>∃ (g:Gh) ,Fr gI wI g w∧e 3=.bool (i6)) (fun Q' hQ=>?_) (fun vE xE hR=>?_)
 ·replace h := hx
  clear hx
  have n9:=Zm (Tq).1 qf0
  have bE:=Zm (Ts).1 n9
  refine Zs (x:=.tmp 5) Try.isAgg22 Try.sizeOf22 bE fun v8 aB lB=>?_
  obtain ⟨g8,n8,h⟩:=Gc h
  have iE:=Tj aB n8
  refine Zs (x:=.tmp 7) Try.isAgg3 Try.sizeOf3 iE fun uF lE mB=>?_
  obtain rfl:=Zj.1 lE
  have mE:=Zm (Wa).1 q1
  refine Zs (x:=.tmp 10) Try.isAgg3 Try.sizeOf3 mE fun vF oE nB=>?_
  obtain rfl:=Zj.1 oE
  obtain ⟨t5,oB,h⟩:=Gc h
  rcases Zt h with ⟨u3,h⟩ | ⟨u3,h⟩
  ·refine Tt (g := g1) (n := 25) [(8, (fun v g w => RV g.m w ([(x0).Left] : List Int) v ∧ OS 3012 g w 3 ([(x0).Left] : List Int) v ∧ Gn v)), (9, (fun v g w => v = .bool (t5)))] [0, 1, 2, 3, 4, 5, 6, 7, 8, 9, 10, 11, 12, 13, 14, 15, 16, 17, 18, 19, 20, 21, 22, 23, 24] rfl Qf (by kernel_rfl) (⟨fun _ => Ti Wy (Ti up_os (Tr _)), fun _ => Tr _, trivial⟩) ?_
   refine Gb (Gj pf0 0) rfl rfl (Zc Ka rfl (PT.ptr qf0)) ?_
   refine Gb (Gj (Gj pf0 0) 0) rfl rfl (Zc Wo rfl (PT.ptr n9)) ?_
   refine Gy (c:=v8) rfl rfl .plain (fun _ _ h=>h.ch) lB rfl ?_
   refine Gb (Qc v8 (0:Int) 1) rfl rfl (Zh (α:=Int) Try.underlying22 Try.sizeOf3 rfl aB rfl n8) ?_
   refine Gy (c:=.int .i64 (g8)) rfl rfl .plain (fun _ _ h=>h.ch) mB rfl ?_
   refine Gb (.int .i64 ((w64 (g8 - (1:Int))))) rfl rfl (Td rfl rfl rfl) ?_
   refine Gb (Gj p1 0) rfl rfl (Zc at_83_0 rfl (PT.ptr q1)) ?_
   refine Gy (c:=.int .i64 ((x0).Left)) rfl rfl .plain (fun _ _ h=>h.ch) nB rfl ?_
   refine Qa (φ:=fun v g w=>RV g.m w ([(x0).Left]:List Int) v∧OS 3012 g w 3 ([(x0).Left]:List Int) v∧Gn v) rfl rfl .plain (fun g w hd=>Gi (g:=g) 3012 (xs:=([(x0).Left]:List Int)) (vs:=[.int .i64 ((x0).Left)]) Try.underlying22 Try.sizeOf3 Try.zeroValue3 rfl rfl (.cons rfl .nil) (RVs.cons (Zj.2 rfl) RVs.nil) rfl rfl fun g' w' v hs o r hxt hfl=>⟨g',hxt,r,o,hfl⟩) (fun o0 hv=>?_)
   clear hv
   refine Qa (φ:=fun v g w=>v=.bool (t5)) rfl rfl .plain (fun g w hd=>Zp (g:=g) (vs:=[.int .i64 (0),.int .i64 ((w64 (g8 - (1:Int)))),o0]) en87 (.cons rfl (.cons rfl (.cons rfl .nil))) (wk87 (word (A:=fun g w=>RV g.m w ([(x0).Left]:List Int) o0∧OS 3012 g w 3 ([(x0).Left]:List Int) o0∧Gn o0) 8 rfl rfl (Tv hd)).1 oB) fun g' w' v hs hr=>⟨g',hs,hr⟩) (fun rE hv=>?_)
   obtain ⟨_,_,_,rfl⟩:=hv
   refine Gb (.bool (!t5)) rfl rfl (Wm rfl) ?_
   refine Gb (.bool (!t5)) rfl rfl (Zk rfl) ?_
   iterate 11 refine L_s rfl rfl rfl u3 rfl ?_
   refine Gb (.bool true) rfl rfl (Zl (b:=(!t5)) rfl (Tp u3 rfl)) ?_
   refine Gb (.bool true) rfl rfl (Tg rfl) ?_
   refine L_nil fun uE xF hall=>?_
   have hs:=hall.1
   have hfr:=hfr.ext hs
   have yE:=(Gl (A:=fun g w=>RV g.m w ([(x0).Left]:List Int) o0∧OS 3012 g w 3 ([(x0).Left]:List Int) o0∧Gn o0) 8 rfl hall).1
   have o109:=(Gl (A:=fun g w=>RV g.m w ([(x0).Left]:List Int) o0∧OS 3012 g w 3 ([(x0).Left]:List Int) o0∧Gn o0) 8 rfl hall).2.1
   clear hs hall
   refine Zb ?_
   obtain rfl:=sinj h
   exact hQ _ _ ⟨uE,hfr,rfl⟩
  ·have vB := Zm (Tq).1 qf0
   have lD:=Zm (Ts).1 vB
   refine Zs (x:=.tmp 17) Try.isAgg22 Try.sizeOf22 lD fun yB zB uC=>?_
   obtain ⟨l8,l9,h⟩:=Gc h
   have nD:=Tj zB l9
   refine Zs (x:=.tmp 19) Try.isAgg3 Try.sizeOf3 nD fun zE oD vC=>?_
   obtain rfl:=Zj.1 oD
   have yD:=Zm (Wc).1 q1
   refine Zs (x:=.tmp 22) Try.isAgg3 Try.sizeOf3 yD fun cF zD bD=>?_
   obtain rfl:=Zj.1 zD
   obtain ⟨y135,cD,h⟩:=Gc h
   refine Tt (g:=g1) (n:=25) [(8,(fun v g w=>RV g.m w ([(x0).Left]:List Int) v∧OS 3012 g w 3 ([(x0).Left]:List Int) v∧Gn v)),(9,(fun v g w=>v=.bool (t5))),(20,(fun v g w=>RV g.m w ([(x0).Right]:List Int) v∧OS 3024 g w 3 ([(x0).Right]:List Int) v∧Gn v)),(21,(fun v g w=>v=.bool (y135)))] [0,1,2,3,4,5,6,7,8,9,10,11,12,13,14,15,16,17,18,19,20,21,22,23,24] rfl Qf (by kernel_rfl) (⟨fun _=>Ti Wy (Ti up_os (Tr _)),fun _=>Tr _,fun _=>Ti Wy (Ti up_os (Tr _)),fun _=>Tr _,trivial⟩) ?_
   refine Gb (Gj pf0 0) rfl rfl (Zc Ka rfl (PT.ptr qf0)) ?_
   refine Gb (Gj (Gj pf0 0) 0) rfl rfl (Zc Wo rfl (PT.ptr n9)) ?_
   refine Gy (c:=v8) rfl rfl .plain (fun _ _ h=>h.ch) lB rfl ?_
   refine Gb (Qc v8 (0:Int) 1) rfl rfl (Zh (α:=Int) Try.underlying22 Try.sizeOf3 rfl aB rfl n8) ?_
   refine Gy (c:=.int .i64 (g8)) rfl rfl .plain (fun _ _ h=>h.ch) mB rfl ?_
   refine Gb (.int .i64 ((w64 (g8 - (1:Int))))) rfl rfl (Td rfl rfl rfl) ?_
   refine Gb (Gj p1 0) rfl rfl (Zc at_83_0 rfl (PT.ptr q1)) ?_
   refine Gy (c:=.int .i64 ((x0).Left)) rfl rfl .plain (fun _ _ h=>h.ch) nB rfl ?_
   refine Qa (φ:=fun v g w=>RV g.m w ([(x0).Left]:List Int) v∧OS 3012 g w 3 ([(x0).Left]:List Int) v∧Gn v) rfl rfl .plain (fun g w hd=>Gi (g:=g) 3012 (xs:=([(x0).Left]:List Int)) (vs:=[.int .i64 ((x0).Left)]) Try.underlying22 Try.sizeOf3 Try.zeroValue3 rfl rfl (.cons rfl .nil) (RVs.cons (Zj.2 rfl) RVs.nil) rfl rfl fun g' w' v hs o r hxt hfl=>⟨g',hxt,r,o,hfl⟩) (fun o0 hv=>?_)
   clear hv
   refine Qa (φ:=fun v g w=>v=.bool (t5)) rfl rfl .plain (fun g w hd=>Zp (g:=g) (vs:=[.int .i64 (0),.int .i64 ((w64 (g8 - (1:Int)))),o0]) en87 (.cons rfl (.cons rfl (.cons rfl .nil))) (wk87 (word (A:=fun g w=>RV g.m w ([(x0).Left]:List Int) o0∧OS 3012 g w 3 ([(x0).Left]:List Int) o0∧Gn o0) 8 rfl rfl (Tv hd)).1 oB) fun g' w' v hs hr=>⟨g',hs,hr⟩) (fun rE hv=>?_)
   obtain ⟨_,_,_,rfl⟩:=hv
   refine Gb (.bool (!t5)) rfl rfl (Wm rfl) ?_
   refine Gb (.bool (!t5)) rfl rfl (Zk rfl) ?_
   refine L_y (Gj pf0 0) rfl rfl rfl rfl u3 (Zc Ka rfl (PT.ptr qf0)) ?_
   refine L_y (Gj (Gj pf0 0) 0) rfl rfl rfl rfl u3 (Zc Wo rfl (PT.ptr vB)) ?_
   refine Gy (c:=yB) rfl rfl (.yes2 rfl rfl u3) (fun _ _ h=>h.ch) uC rfl ?_
   refine L_y (Qc yB (1:Int) 1) rfl rfl rfl rfl u3 (Zh (α:=Int) Try.underlying22 Try.sizeOf3 rfl zB rfl l9) ?_
   refine Gy (c:=.int .i64 (l8)) rfl rfl (.yes2 rfl rfl u3) (fun _ _ h=>h.ch) vC rfl ?_
   refine L_y (.int .i64 ((w64 (l8 - (1:Int))))) rfl rfl rfl rfl u3 (Td rfl rfl rfl) ?_
   refine L_y (Gj p1 1) rfl rfl rfl rfl u3 (Zc at_83_1 rfl (PT.ptr q1)) ?_
   refine Gy (c:=.int .i64 ((x0).Right)) rfl rfl (.yes2 rfl rfl u3) (fun _ _ h=>h.ch) bD rfl ?_
   refine Qa (φ:=fun v g w=>RV g.m w ([(x0).Right]:List Int) v∧OS 3024 g w 3 ([(x0).Right]:List Int) v∧Gn v) rfl rfl (.yes2 rfl rfl u3) (fun g w hd=>Gi (g:=g) 3024 (xs:=([(x0).Right]:List Int)) (vs:=[.int .i64 ((x0).Right)]) Try.underlying22 Try.sizeOf3 Try.zeroValue3 rfl rfl (.cons rfl .nil) (RVs.cons (Zj.2 rfl) RVs.nil) rfl rfl fun g' w' v hs o r hxt hfl=>⟨g',hxt,r,o,hfl⟩) (fun l5 hv=>?_)
   clear hv
   refine Qa (φ:=fun v g w=>v=.bool (y135)) rfl rfl (.yes2 rfl rfl u3) (fun g w hd=>Zp (g:=g) (vs:=[.int .i64 (0),.int .i64 ((w64 (l8 - (1:Int)))),l5]) en87 (.cons rfl (.cons rfl (.cons rfl .nil))) (wk87 (word (A:=fun g w=>RV g.m w ([(x0).Right]:List Int) l5∧OS 3024 g w 3 ([(x0).Right]:List Int) l5∧Gn l5) 20 rfl rfl (Tv hd)).1 cD) fun g' w' v hs hr=>⟨g',hs,hr⟩) (fun dF hv=>?_)
   obtain ⟨_,_,_,rfl⟩:=hv
   refine L_y (.bool (!y135)) rfl rfl rfl rfl u3 (Wm rfl) ?_
   refine Gb (.bool (!y135)) rfl rfl (Zl (b:=(!t5)) rfl (Tl u3 rfl)) ?_
   refine Gb (.bool (!y135)) rfl rfl (Tg rfl) ?_
   refine L_nil fun aE eF hall=>?_
   have hs:=hall.1
   have hfr:=hfr.ext hs
   have rF:=(Gl (A:=fun g w=>RV g.m w ([(x0).Left]:List Int) o0∧OS 3012 g w 3 ([(x0).Left]:List Int) o0∧Gn o0) 8 rfl hall).1
   have o149:=(Gl (A:=fun g w=>RV g.m w ([(x0).Left]:List Int) o0∧OS 3012 g w 3 ([(x0).Left]:List Int) o0∧Gn o0) 8 rfl hall).2.1
   have sF:=(Gl (A:=fun g w=>RV g.m w ([(x0).Right]:List Int) l5∧OS 3024 g w 3 ([(x0).Right]:List Int) l5∧Gn l5) 20 rfl hall).1
   have o161:=(Gl (A:=fun g w=>RV g.m w ([(x0).Right]:List Int) l5∧OS 3024 g w 3 ([(x0).Right]:List Int) l5∧Gn l5) 20 rfl hall).2.1
   clear hs hall
   refine Zb ?_
   obtain rfl:=sinj h
   exact hQ _ _ ⟨aE,hfr,rfl⟩
 ·clear hx
  obtain ⟨tF,hfr,cC⟩:=hR
  refine Gw ?_
  obtain rfl:=sinj h
  exact Wb rfl rfl (show _=.bool (i6) from cC) ⟨_,hfr,rfl⟩
def f96 (x0:List Ge) (x1:Ge→Option Bool):Option (Bool):=
 (f105 x0 x1).bind fun y2=>
 some ((decide (y2 ≥ (0:Int))))
theorem en96:Enters Try.prog 96:=enters_of Try.func96 (by kernel_rfl) rfl
theorem wk96 {gI:Gh} {wI:World} {x0:List Ge} {x1:Ge→Option Bool} {up0:Value} (rp0:RV gI.m wI x0 up0) {up1:Value} (rp1:FnV1 Try.prog x1 up1 gI wI) {r:Bool} (h:f96 x0 x1=some r):Fn Try.prog 96 #[up0,up1] gI wI (fun _ _ v=>v=.bool (r)):=by
 unfold f96 at h
 refine Tf Try.func96 rfl (Nat.le_of_ble_eq_true rfl) fun g0 hm hfr=>?_
 have rp0:RV g0.m wI x0 up0:=hm ▸ rp0
 obtain ⟨ff1,fa1,fc1,rfl,fen1,fcl1⟩:=rp1
 show E _ 9 none _ _ _ _ _
 refine Zf (Za (Zg (.bool false) rfl rfl ?_))
 refine Zb (Zd (Zf (Za (Zn up0 rfl rfl ?_))))
 refine Zn ((.func (.func ff1) fa1 fc1)) rfl rfl ?_
 obtain ⟨y2,hy2,h⟩:=Gc h
 refine Ze .plain rfl (Zp (g:=g0) (vs:=[up0,(.func (.func ff1) fa1 fc1)]) en105 (.cons rfl (.cons rfl .nil)) (wk105 rp0 (FnV1.ch ⟨_,_,_,rfl,fen1,fcl1⟩ hfr.ch) hy2) fun g1 w1_ v1 hs hr=>?_)
 have hfr:=hfr.ext hs
 subst hr
 refine Gu (.bool ((decide (y2 ≥ (0:Int))))) rfl rfl rfl rfl ?_
 refine Zg (.bool ((decide (y2 ≥ (0:Int))))) rfl rfl ?_
 refine Zb (Zd (Gw ?_))
 obtain rfl:=sinj h
 exact Wb rfl rfl (show _=.bool ((decide (y2 ≥ (0:Int)))) from rfl) ⟨_,hfr,rfl⟩
def f97 (x0:Gv) (x1:Ge):Option (Gv × Int × Int):=
 (idx ((x0).boxes).toList (0:Int)).bind fun y7=>
 (idx (y7).toList (x1).Left).bind fun y9=>
 (idx ((x0).boxes).toList (1:Int)).bind fun yD=>
 (idx (yD).toList (x1).Right).bind fun l5=>
 jn (σ:=Gv) (fun nD=>
  (f106 (((x0).at_).Left) ((x1).Left)).bind fun g8=>
  (f106 (((x0).at_).Right) ((x1).Right)).bind fun l8=>
  (idx ((x0).boxes).toList (0:Int)).bind fun zD=>
  (idx (zD).toList (x1).Left).bind fun aG=>
  (idx (({ x0 with boxes:=(vmod ((x0).boxes) ((0:Int)) (fun b=>(vset b ((x1).Left) l5))) }).boxes).toList (1:Int)).bind fun aE=>
  (idx (aE).toList (x1).Right).bind fun mE=>
  some ({ { { x0 with boxes:=(vmod ((x0).boxes) ((0:Int)) (fun b=>(vset b ((x1).Left) l5))) } with boxes:=(vmod (({ x0 with boxes:=(vmod ((x0).boxes) ((0:Int)) (fun b=>(vset b ((x1).Left) l5))) }).boxes) ((1:Int)) (fun b=>(vset b ((x1).Right) y9))) } with at_:=x1 },(w64 (y9 + l5)),(w64 (g8 + l8)))
  ) fun bE=>
 bif ((y9 == (0 : Int)) == (l5 == (0 : Int))) then
  some (x0,(0:Int),(0:Int))
 else
  bE ((⟨(⟨List.toArray [(⟨List.toArray [0,0,0,0],rfl⟩:Vector Int 4),(⟨List.toArray [0,0,0,0],rfl⟩:Vector Int 4)],rfl⟩:Vector (Vector Int 4) 2),⟨0,0⟩⟩:Gv))
theorem en97:Enters Try.prog 97:=enters_of Try.func97 (by kernel_rfl) rfl
theorem wk97 {gI:Gh} {wI:World} {x0:Gv} {x1:Ge} {up0:Value} (rp0:RV gI.m wI x0 up0) {up1:Value} (rp1:RV gI.m wI x1 up1) {r:Gv × Int × Int} (h:f97 x0 x1=some r):Fn Try.prog 97 #[up0,up1] gI wI (fun m w v=>∃ y0 y1 y2,v=.tuple #[y0,y1,y2]∧RV m w (r.1) y0∧y1=.int .i64 (r.2.1)∧y2=.int .i64 (r.2.2)):=by
 unfold f97 at h
 refine Tf Try.func97 rfl (Nat.le_of_ble_eq_true rfl) fun g0 hm hfr=>?_
 have rp0:RV g0.m wI x0 up0:=hm ▸ rp0
 have rp1:RV g0.m wI x1 up1:=hm ▸ rp1
 show E _ 59 none _ _ _ _ _
 refine Zf (Za (Ze .plain rfl (D_boxO (g:=g0) 2002 rfl rp0 fun g1 w1 p1 hs b1=>?_)))
 have hfr:=hfr.stp hs
 have rp0:=rp0.stp hs
 have rp1:=rp1.stp hs
 refine Ze .plain rfl (We (g:=g1) rfl rp1 fun g2 w2 p2 hs q2=>?_)
 have hfr:=hfr.ext hs
 have rp0:=rp0.ext hs
 have rp1:=rp1.ext hs
 have b1:=b1.ext hs
 refine Ze .plain rfl (Gs (g:=g2) 2004 (⟨(⟨List.toArray [(⟨List.toArray [0,0,0,0],rfl⟩:Vector Int 4),(⟨List.toArray [0,0,0,0],rfl⟩:Vector Int 4)],rfl⟩:Vector (Vector Int 4) 2),⟨0,0⟩⟩:Gv) Try.zeroValue108 (fun m w=>⟨_,(Gg (Gt (Zw (Gt (Zw Zx (Zw Zx (Zw Zx (Zw Zx Gm)))) rfl) (Zw (Gt (Zw Zx (Zw Zx (Zw Zx (Zw Zx Gm)))) rfl) Gm)) rfl) (Gg Zx Zx)),rfl⟩) fun g3 w3 p3 hs b3 cb=>?_)
 have hfr:=hfr.stp hs
 have rp0:=rp0.stp hs
 have rp1:=rp1.stp hs
 have b1:=b1.stp hs rfl
 have q2:=q2.stp hs
 clear cb
 refine Zg (.int .i64 (0)) rfl rfl ?_
 refine Zg (.int .i64 (0)) rfl rfl ?_
 refine Zb (Zd (Zf ?_))
 have q4:=Zm (Wa).1 q2
 refine Zs (x:=.tmp 9) Try.isAgg3 Try.sizeOf3 q4 fun v5 r5 bG=>?_
 obtain rfl:=Zj.1 r5
 obtain ⟨y7,iE,h⟩:=Gc h
 obtain ⟨hi8,he8⟩:=vat_idx iE
 obtain ⟨y9,lE,h⟩:=Gc h
 obtain ⟨hi10,he10⟩:=vat_idx lE
 refine L_loadOD (off:=((0 + ((0:Int):Int).toNat * 4) + ((x1).Left:Int).toNat * 1)) (x:=.tmp 13) (Ta.at_ (Ta.comp Wu (Ta.dynC hi8 (Ta.dyn hi10) rfl) rfl) (by first | rfl | exact Nat.add_assoc _ _ _ | simp only [Nat.add_assoc,Nat.zero_add] | omega)).1 ((congrArg (vat _ hi10) he8).trans he10) Try.isAgg3 Try.sizeOf3 b1 fun nH cG oE=>?_
 obtain rfl:=Zj.1 cG
 have nB:=Zm (Wc).1 q2
 refine Zs (x:=.tmp 15) Try.isAgg3 Try.sizeOf3 nB fun oH eG rE=>?_
 obtain rfl:=Zj.1 eG
 obtain ⟨yD,oB,h⟩:=Gc h
 obtain ⟨hi16,he16⟩:=vat_idx oB
 obtain ⟨l5,vB,h⟩:=Gc h
 obtain ⟨hi18,he18⟩:=vat_idx vB
 refine L_loadOD (off:=((0 + ((1:Int):Int).toNat * 4) + ((x1).Right:Int).toNat * 1)) (x:=.tmp 19) (Ta.at_ (Ta.comp Wu (Ta.dynC hi16 (Ta.dyn hi18) rfl) rfl) (by first | rfl | exact Nat.add_assoc _ _ _ | simp only [Nat.add_assoc,Nat.zero_add] | omega)).1 ((congrArg (vat _ hi18) he16).trans he18) Try.isAgg3 Try.sizeOf3 b1 fun pH gG uE=>?_
 obtain rfl:=Zj.1 gG
 refine Tt (g:=g3) (n:=14) [] [0,1,2,3,4,5,6,7,8,9,10,11,12,13] rfl Qf (by kernel_rfl) trivial ?_
 refine Gb (Gj p2 0) rfl rfl (Zc at_83_0 rfl (PT.ptr q2)) ?_
 refine Gy (c:=.int .i64 ((x1).Left)) rfl rfl .plain (fun _ _ h=>h.ch) bG rfl ?_
 refine Gb (Gj p1 0) rfl rfl (Zc at_108_0 rfl (OB.ptr b1)) ?_
 refine Gb (Gj p1 (0 + ((0:Int):Int).toNat * 4)) rfl rfl (Kc (α:=Vector Int 4) (o1:=0) rfl Try.underlying76 Try.sizeOf75 rfl (OB.ptr b1) rfl iE) ?_
 refine Gb (Gj p1 ((0 + ((0:Int):Int).toNat * 4) + ((x1).Left:Int).toNat * 1)) rfl rfl (Kc (α:=Int) (o1:=(0 + ((0:Int):Int).toNat * 4)) rfl Try.underlying75 Try.sizeOf3 rfl (OB.ptr b1) rfl lE) ?_
 refine Gy (c:=.int .i64 (y9)) rfl rfl .plain (fun _ _ h=>⟨h.ch,fun b hb _=>h.below.block b hb⟩) oE rfl ?_
 refine Gb (Gj p2 1) rfl rfl (Zc at_83_1 rfl (PT.ptr q2)) ?_
 refine Gy (c:=.int .i64 ((x1).Right)) rfl rfl .plain (fun _ _ h=>h.ch) rE rfl ?_
 refine Gb (Gj p1 0) rfl rfl (Zc at_108_0 rfl (OB.ptr b1)) ?_
 refine Gb (Gj p1 (0 + ((1:Int):Int).toNat * 4)) rfl rfl (Kc (α:=Vector Int 4) (o1:=0) rfl Try.underlying76 Try.sizeOf75 rfl (OB.ptr b1) rfl oB) ?_
 refine Gb (Gj p1 ((0 + ((1:Int):Int).toNat * 4) + ((x1).Right:Int).toNat * 1)) rfl rfl (Kc (α:=Int) (o1:=(0 + ((1:Int):Int).toNat * 4)) rfl Try.underlying75 Try.sizeOf3 rfl (OB.ptr b1) rfl vB) ?_
 refine Gy (c:=.int .i64 (l5)) rfl rfl .plain (fun _ _ h=>⟨h.ch,fun b hb _=>h.below.block b hb⟩) uE rfl ?_
 refine Gb (.int .i64 (y9)) rfl rfl (Tg rfl) ?_
 refine Gb (.int .i64 (l5)) rfl rfl (Tg rfl) ?_
 refine L_nl fun yB qH hs=>?_
 have hfr:=hfr.ext hs
 have rp0:=rp0.ext hs
 have rp1:=rp1.ext hs
 have b1:=b1.ext hs
 have q2:=q2.ext hs
 have b3:=b3.ext hs
 have q4:=q4.ext hs
 have nB:=nB.ext hs
 clear hs
 refine Zb (Zd (Zq h (fun (s:Gv) e w=>∃ (g:Gh) ,Fr gI wI g w∧e 2=p1∧OB 2002 g w 108 (x0:Gv) p1∧e 3=p2∧PT g.m w (x1:Ge) p2∧e 4=p3∧OB 2004 g w 108 (s:Gv) p3∧e 7=.int .i64 (y9)∧e 8=.int .i64 (l5)) (fun X46 bE vE h=>?_) ?_))
 ·refine Zf (Za (Zn (.int .i64 (y9)) rfl rfl ?_))
  refine Gu (.bool ((y9 == (0:Int)))) rfl rfl rfl rfl ?_
  refine Zn (.int .i64 (l5)) rfl rfl ?_
  refine Gu (.bool ((l5 == (0:Int)))) rfl rfl rfl rfl ?_
  refine Zy (.bool (((y9 == (0:Int)) == (l5 == (0:Int))))) (P_bool Try.underlying4 rfl rfl rfl) rfl ?_
  refine Zb (Zd ?_)
  rcases Zt h with ⟨l9,h⟩ | ⟨l9,h⟩
  ·refine Qq l9 rfl ?_
   refine Zf (Za (Ze .plain rfl (Qj (g:=yB) Try.isAgg108 Try.sizeOf108 rfl b1 fun iG jG=>?_)))
   refine Ze .plain rfl (Gk (g:=yB) (v:=iG) Try.sizeOf108 rfl b3 rfl jG fun sH tH hs b49 cb=>?_)
   clear cb
   have hfr:=hfr.stp hs
   refine Zg (.int .i64 (0)) rfl rfl ?_
   refine Zg (.int .i64 (0)) rfl rfl ?_
   refine Zb (Zd (Gw (Tc ?_)))
   obtain rfl:=sinj h
   obtain ⟨ad50,cv50,hp50,xE,cr50⟩:=Qv Try.isAgg108 Try.sizeOf108 b49
   exact endm_ctt rfl rfl ((show _=p3 from rfl).trans hp50) xE (show _=.int .i64 (0) from rfl) (show _=.int .i64 (0) from rfl) ⟨_,hfr,_,_,_,rfl,cr50,rfl,rfl⟩
  ·refine Qr l9 rfl ?_
   exact Zu (Zd (vE ((⟨(⟨List.toArray [(⟨List.toArray [0,0,0,0],rfl⟩:Vector Int 4),(⟨List.toArray [0,0,0,0],rfl⟩:Vector Int 4)],rfl⟩:Vector (Vector Int 4) 2),⟨0,0⟩⟩:Gv)) _ _ ⟨yB,hfr,rfl,b1,rfl,q2,rfl,b3,rfl,rfl⟩ h))
 ·rintro nD aH uH ⟨kG, hfr, i6, o0, n8, u3, n9, t5, aB, lB⟩ h
  refine Zf (Wg (x:=.tmp 28) (Ta.comp part_BoxRace_1 Wa rfl).1 Try.isAgg3 Try.sizeOf3 o0 fun xH lG yE=>?_)
  obtain rfl:=Zj.1 lG
  have v8:=Zm (Wa).1 u3
  refine Zs (x:=.tmp 30) Try.isAgg3 Try.sizeOf3 v8 fun yH mG zE=>?_
  obtain rfl:=Zj.1 mG
  obtain ⟨g8,cF,h⟩:=Gc h
  refine Wg (x:=.tmp 34) (Ta.comp part_BoxRace_1 Wc rfl).1 Try.isAgg3 Try.sizeOf3 o0 fun zH sG dF=>?_
  obtain rfl:=Zj.1 sG
  have q62:=Zm (Wc).1 u3
  refine Zs (x:=.tmp 36) Try.isAgg3 Try.sizeOf3 q62 fun aI xG eF=>?_
  obtain rfl:=Zj.1 xG
  obtain ⟨l8,rF,h⟩:=Gc h
  refine Tt (g:=kG) (n:=14) [(5,(fun v g w=>v=.int .i64 (g8))),(11,(fun v g w=>v=.int .i64 (l8)))] [0,1,2,3,4,5,6,7,8,9,10,11,12,13] rfl Qf (by kernel_rfl) (⟨fun _=>Tr _,fun _=>Tr _,trivial⟩) ?_
  refine Gb (Gj p1 8) rfl rfl (Zc at_108_1 i6 (OB.ptr o0)) ?_
  refine Gb (Gj p1 8) rfl rfl (Qz (o1:=8) rfl at_83_0 rfl (OB.ptr o0)) ?_
  refine Gy (c:=.int .i64 (((x0).at_).Left)) rfl rfl .plain (fun _ _ h=>⟨h.ch,fun b hb _=>h.below.block b hb⟩) yE rfl ?_
  refine Gb (Gj p2 0) rfl rfl (Zc at_83_0 n8 (PT.ptr u3)) ?_
  refine Gy (c:=.int .i64 ((x1).Left)) rfl rfl .plain (fun _ _ h=>h.ch) zE rfl ?_
  refine Qa (φ:=fun v g w=>v=.int .i64 (g8)) rfl rfl .plain (fun g w hd=>Zp (g:=g) (vs:=[.int .i64 (((x0).at_).Left),.int .i64 ((x1).Left)]) en106 (.cons rfl (.cons rfl .nil)) (wk106  cF) fun g' w' v hs hr=>⟨g',hs,hr⟩) (fun bI hv=>?_)
  obtain ⟨_,_,_,rfl⟩:=hv
  refine Gb (Gj p1 8) rfl rfl (Zc at_108_1 i6 (OB.ptr o0)) ?_
  refine Gb (Gj p1 9) rfl rfl (Qz (o1:=8) rfl at_83_1 rfl (OB.ptr o0)) ?_
  refine Gy (c:=.int .i64 (((x0).at_).Right)) rfl rfl .plain (fun _ _ h=>⟨h.ch,fun b hb _=>h.below.block b hb⟩) dF rfl ?_
  refine Gb (Gj p2 1) rfl rfl (Zc at_83_1 n8 (PT.ptr u3)) ?_
  refine Gy (c:=.int .i64 ((x1).Right)) rfl rfl .plain (fun _ _ h=>h.ch) eF rfl ?_
  refine Qa (φ:=fun v g w=>v=.int .i64 (l8)) rfl rfl .plain (fun g w hd=>Zp (g:=g) (vs:=[.int .i64 (((x0).at_).Right),.int .i64 ((x1).Right)]) en106 (.cons rfl (.cons rfl .nil)) (wk106  rF) fun g' w' v hs hr=>⟨g',hs,hr⟩) (fun dI hv=>?_)
  obtain ⟨_,_,_,rfl⟩:=hv
  refine Gb (.int .i64 ((w64 (g8 + l8)))) rfl rfl (Td rfl rfl rfl) ?_
  refine Gb (.int .i64 ((w64 (g8 + l8)))) rfl rfl (Tg rfl) ?_
  refine L_nl fun iI jI hs=>?_
  have hfr:=hfr.ext hs
  have o0:=o0.ext hs
  have u3:=u3.ext hs
  have t5:=t5.ext hs
  have v8:=v8.ext hs
  have q62:=q62.ext hs
  clear hs
  refine Zb (Zd (Zf ?_))
  have zB:=Zm (Wa).1 u3
  refine Zs (x:=.tmp 40) Try.isAgg3 Try.sizeOf3 zB fun kI yG sF=>?_
  obtain rfl:=Zj.1 yG
  have cC:=Zm (Wc).1 u3
  refine Zs (x:=.tmp 42) Try.isAgg3 Try.sizeOf3 cC fun lI zG tF=>?_
  obtain rfl:=Zj.1 zG
  obtain ⟨zD,uC,h⟩:=Gc h
  obtain ⟨hi93,he93⟩:=vat_idx uC
  obtain ⟨aG,vC,h⟩:=Gc h
  obtain ⟨hi95,he95⟩:=vat_idx vC
  obtain ⟨aE,bD,h⟩:=Gc h
  obtain ⟨hi100,he100⟩:=vat_idx bD
  obtain ⟨mE,mB,h⟩:=Gc h
  obtain ⟨hi102,he102⟩:=vat_idx mB
  refine E_drawB (a0:=(x0:Gv)) (a1:=({ x0 with boxes:=(vmod ((x0).boxes) ((0:Int)) (fun b=>(vset b ((x1).Left) l5))) }:Gv)) o0 (n:=13) [(9,(fun _ g w=>OB 2002 g w 108 ({ x0 with boxes:=(vmod ((x0).boxes) ((0:Int)) (fun b=>(vset b ((x1).Left) l5))) }:Gv) p1))] [0,1,2,3,4,5,6,7,8,9,10,11,12] rfl Qf (by kernel_rfl) (⟨fun _=>up_box,trivial⟩) ?_
  refine Gb (Gj p2 0) rfl rfl (Zc at_83_0 n8 (PT.ptr u3)) ?_
  refine Gy (c:=.int .i64 ((x1).Left)) rfl rfl .plain (fun _ _ h=>h.1.ch) sF rfl ?_
  refine Gb (Gj p2 1) rfl rfl (Zc at_83_1 n8 (PT.ptr u3)) ?_
  refine Gy (c:=.int .i64 ((x1).Right)) rfl rfl .plain (fun _ _ h=>h.1.ch) tF rfl ?_
  refine Gb (.int .i64 (l5)) rfl rfl (Zk lB) ?_
  refine Gb (.int .i64 (y9)) rfl rfl (Zk aB) ?_
  refine Gb (Gj p1 0) rfl rfl (Zc at_108_0 i6 (OB.ptr o0)) ?_
  refine Gb (Gj p1 (0 + ((0:Int):Int).toNat * 4)) rfl rfl (Kc (α:=Vector Int 4) (o1:=0) rfl Try.underlying76 Try.sizeOf75 rfl (OB.ptr o0) rfl uC) ?_
  refine Gb (Gj p1 ((0 + ((0:Int):Int).toNat * 4) + ((x1).Left:Int).toNat * 1)) rfl rfl (Kc (α:=Int) (o1:=(0 + ((0:Int):Int).toNat * 4)) rfl Try.underlying75 Try.sizeOf3 rfl (OB.ptr o0) rfl vC) ?_
  refine Qa (φ:=fun _ g w=>OB 2002 g w 108 ({ x0 with boxes:=(vmod ((x0).boxes) ((0:Int)) (fun b=>(vset b ((x1).Left) l5))) }:Gv) p1) rfl rfl .plain (fun g w hd=>D_storeR (g:=g) (by rfl) (by exact (congrArg (fun y=>{ x0 with boxes:=y }) (vmod_vmod (h:=fun b=>(vset b ((x1).Left) l5)) fun b=>(vset_vset _ _ _)))) (Ta.at_ (Ta.comp Wu (Ta.dynC hi93 (Ta.dyn hi95) rfl) rfl) (by first | rfl | exact Nat.add_assoc _ _ _ | simp only [Nat.add_assoc,Nat.zero_add] | omega)) Try.sizeOf3 rfl hd.1.2 rfl (Zj.2 rfl)) (fun mI hv=>?_)
  clear hv
  refine Gb (Gj p1 0) rfl rfl (Zc at_108_0 i6 (OB.ptr o0)) ?_
  refine Gb (Gj p1 (0 + ((1:Int):Int).toNat * 4)) rfl rfl (Kc (α:=Vector Int 4) (o1:=0) rfl Try.underlying76 Try.sizeOf75 rfl (OB.ptr o0) rfl bD) ?_
  refine Gb (Gj p1 ((0 + ((1:Int):Int).toNat * 4) + ((x1).Right:Int).toNat * 1)) rfl rfl (Kc (α:=Int) (o1:=(0 + ((1:Int):Int).toNat * 4)) rfl Try.underlying75 Try.sizeOf3 rfl (OB.ptr o0) rfl mB) ?_
  refine L_nil fun uF cH hall=>?_
  have hs:=hall.1.1
  have hfr:=hfr.stp hs
  have u3:=u3.stp hs
  have t5:=t5.stp hs rfl
  have v8:=v8.stp hs
  have q62:=q62.stp hs
  have zB:=zB.stp hs
  have cC:=cC.stp hs
  have b104:=(Gl (A:=fun g w=>OB 2002 g w 108 ({ x0 with boxes:=(vmod ((x0).boxes) ((0:Int)) (fun b=>(vset b ((x1).Left) l5))) }:Gv) p1) 9 rfl hall)
  clear hs hall
  refine Ze .plain rfl (D_storeFc (g:=uF) (Ta.at_ (Ta.comp Wu (Ta.dynC hi100 (Ta.dyn hi102) rfl) rfl) (by first | rfl | exact Nat.add_assoc _ _ _ | simp only [Nat.add_assoc,Nat.zero_add] | omega)) Try.sizeOf3 rfl b104 rfl (Zj.2 rfl) fun cD gH hs b135 rst hos=>?_)
  clear rst hos
  have hfr:=hfr.stp hs
  have u3:=u3.stp hs
  have t5:=t5.stp hs rfl
  refine Zb (Zd (Zf (Za (Ze .plain rfl (Gr (g:=cD) Try.isAgg83 Try.sizeOf83 n8 u3 fun jH vF=>?_)))))
  refine Zy (Gj p1 8) (Zc at_108_1 i6 (OB.ptr b135)) rfl ?_
  refine Ze .plain rfl (D_storeFc (g:=cD) part_BoxRace_1 Try.sizeOf83 rfl b135 rfl vF fun lD kH hs b138 rst hos=>?_)
  clear rst hos
  have hfr:=hfr.stp hs
  have t5:=t5.stp hs rfl
  refine Zb (Zd (Zf (Za (Ze .plain rfl (Qj (g:=lD) Try.isAgg108 Try.sizeOf108 i6 b138 fun xF yF=>?_)))))
  refine Zo aB rfl ?_
  refine Zo lB rfl ?_
  refine Gu (.int .i64 ((w64 (y9 + l5)))) rfl rfl rfl rfl ?_
  refine Zn (.int .i64 ((w64 (g8 + l8)))) rfl rfl ?_
  refine Ze .plain rfl (Gk (g:=lD) (v:=xF) Try.sizeOf108 n9 t5 rfl yF fun lH mH hs b140 cb=>?_)
  clear cb
  have hfr:=hfr.stp hs
  refine Zg (.int .i64 ((w64 (y9 + l5)))) rfl rfl ?_
  refine Zg (.int .i64 ((w64 (g8 + l8)))) rfl rfl ?_
  refine Zb (Zd (Gw ?_))
  obtain rfl:=sinj h
  obtain ⟨ad141,cv141,hp141,oD,cr141⟩:=Qv Try.isAgg108 Try.sizeOf108 b140
  exact endm_ctt rfl rfl ((show _=p3 from n9).trans hp141) oD (show _=.int .i64 ((w64 (y9 + l5))) from rfl) (show _=.int .i64 ((w64 (g8 + l8))) from rfl) ⟨_,hfr,_,_,_,rfl,cr141,rfl,rfl⟩
def f98 (z0:Ptr Tn) (z1:Gv) (σ:Type) (cons:Cons σ (Ge × Te)) (s0:σ):Option σ:=
 lp (σ:=σ × Int) (fun k5 (yD,u3)=>
  bif (decide (u3 < ((z0).x).left)) then
   jn (σ:=σ) (fun mB=>
    k5 (mB,(w64 (u3 + (1:Int))))
    ) fun lH=>
   lp (σ:=σ × Int) (fun mH (v8,l5)=>
    bif (decide (l5 < ((z0).x).right)) then
     jn (σ:=σ) (fun nB=>
      mH (nB,(w64 (l5 + (1:Int))))
      ) fun nH=>
     (f97 z1 ((⟨u3,l5⟩:Ge))).bind fun o0=>
     Option.bind (α:=σ × Bool) (
      bif (decide (o0.2.1 > (0 : Int))) then
       (cons v8 ((⟨u3,l5⟩:Ge),(⟨o0.1,(w64 (o0.2.1 - (1:Int))),o0.2.2⟩:Te))).bind fun (n9,bE)=>
       some (bE,(!n9))
      else
       some (v8,false)
      ) fun (n8,l8)=>
     bif l8 then
      some n8
     else
      nH (n8)
    else
     lH (v8)
    ) big (yD,(0:Int))
  else
   some yD
  ) big (s0,(0:Int))
theorem en98:Enters Try.prog 98:=enters_of Try.func98 (by kernel_rfl) rfl
theorem wk98 {σ:Type} {cons:Cons σ (Ge × Te)} {s0 r:σ} {gI:Gh} {wI:World} {z0:Ptr Tn} {z1:Gv} {pf0:Value} (qf0:PT gI.m wI z0 pf0) {pf1:Value} (qf1:PT gI.m wI z1 pf1) (h:f98 z0 z1 σ cons s0=some r):IterC Try.prog (RA2 (α:=Ge) (β:=Te)) 98 #[] #[pf0,pf1] gI wI cons s0 r:=by
 unfold f98 at h
 refine iter_of_E Try.func98 rfl (Nat.le_of_ble_eq_true rfl) fun l B J g0 hm hAb hRo hfr=>?_
 have qf0:PT g0.m wI z0 pf0:=hm ▸ qf0
 have qf1:PT g0.m wI z1 pf1:=hm ▸ qf1
 show E _ 49 none _ _ (envAt #[.func (.yield l) #[] #[],pf0,pf1]) _ _
 refine Zf (Za (Ze .plain rfl (Gr (g:=g0) Try.isAgg113 Try.sizeOf113 rfl qf0 fun v1 r1=>?_)))
 replace r1:=RV_ptr.1 r1
 obtain ⟨pb2,po2,pe2⟩:=PT.ptr r1
 refine Zy v1 (P_nilCk rfl pe2) rfl ?_
 refine Zy (Gj v1 0) (Zc at_154_0 rfl (PT.ptr r1)) rfl ?_
 have q3:=Zm (part_BoxMill_0).1 r1
 refine Ze .plain rfl (Gr (g:=g0) Try.isAgg3 Try.sizeOf3 rfl q3 fun v4 r4=>?_)
 obtain rfl:=Zj.1 r4
 refine Zn (.int .i64 (0)) rfl rfl ?_
 refine Zb (Zd (Zr ?_))
 refine E_lp h (fun (s:σ × Int) e w=>∃ (g:Gh) ,FrY gI wI B J (s.1) g w∧e 0=(.func (.yield l) #[] #[])∧e 1=pf0∧PT g.m w (z0:Ptr Tn) pf0∧e 2=pf1∧PT g.m w (z1:Gv) pf1∧e 13=.int .i64 (((z0).x).left)∧e 14=.int .i64 (s.2)) ⟨g0,hfr,rfl,rfl,qf0,rfl,qf1,rfl,rfl⟩ (fun X5 k5 hk5=>?_)
 rintro ⟨yD,u3⟩ pK w6 ⟨g6,hfr,qH,eF,rF,sH,tH,iE,bD⟩ h
 refine Zf (Za (Gu (.bool ((decide (u3 < ((z0).x).left)))) bD iE rfl rfl ?_))
 refine Zb (Zd (Zf ?_))
 rcases Zt h with ⟨sF,h⟩ | ⟨sF,h⟩
 ·refine Qq sF rfl ?_
  refine Zu (Zd (Zq h (fun (s:σ) e w=>∃ (g:Gh) ,FrY gI wI B J (s) g w∧e 0=(.func (.yield l) #[] #[])∧e 1=pf0∧PT g.m w (z0:Ptr Tn) pf0∧e 2=pf1∧PT g.m w (z1:Gv) pf1∧e 13=.int .i64 (((z0).x).left)∧e 14=.int .i64 (u3)) (fun X63 lH uH h=>?_) ?_))
  ·refine Zr ?_
   refine Zf (Za (Zo bD rfl ?_))
   refine Zg (.int .i64 (u3)) rfl rfl ?_
   refine Zb (Zd (Zf (Za (Ze .plain rfl (Gr (g:=g6) Try.isAgg113 Try.sizeOf113 eF rF fun oH oD=>?_)))))
   replace oD:=RV_ptr.1 oD
   obtain ⟨pb66,po66,pe66⟩:=PT.ptr oD
   refine Zy oH (P_nilCk rfl pe66) rfl ?_
   refine Zy (Gj oH 1) (Zc at_154_1 rfl (PT.ptr oD)) rfl ?_
   have sI:=Zm (part_BoxMill_1).1 oD
   refine Ze .plain rfl (Gr (g:=g6) Try.isAgg3 Try.sizeOf3 rfl sI fun qK jJ=>?_)
   obtain rfl:=Zj.1 jJ
   refine Zn (.int .i64 (0)) rfl rfl ?_
   refine Zb (Zd (Zr ?_))
   refine E_lp h (fun (s:σ × Int) e w=>∃ (g:Gh) ,FrY gI wI B J (s.1) g w∧e 0=(.func (.yield l) #[] #[])∧e 1=pf0∧PT g.m w (z0:Ptr Tn) pf0∧e 2=pf1∧PT g.m w (z1:Gv) pf1∧e 4=.int .i64 (u3)∧e 13=.int .i64 (((z0).x).left)∧e 14=.int .i64 (u3)∧e 20=.int .i64 (((z0).x).right)∧e 21=.int .i64 (s.2)) ⟨g6,hfr,qH,eF,rF,sH,tH,rfl,iE,bD,rfl,rfl⟩ (fun X69 mH xH=>?_)
   rintro ⟨v8,l5⟩ xJ kJ ⟨tF,hfr,aB,cD,i6,lB,t5,lD,oB,vB,yB,l9⟩ h
   refine Zf (Za (Gu (.bool ((decide (l5 < ((z0).x).right)))) l9 yB rfl rfl ?_))
   refine Zb (Zd (Zf ?_))
   rcases Zt h with ⟨zD,h⟩ | ⟨zD,h⟩
   ·refine Qq zD rfl ?_
    refine Zu (Zd (Zq h (fun (s:σ) e w=>∃ (g:Gh) ,FrY gI wI B J (s) g w∧e 0=(.func (.yield l) #[] #[])∧e 1=pf0∧PT g.m w (z0:Ptr Tn) pf0∧e 2=pf1∧PT g.m w (z1:Gv) pf1∧e 4=.int .i64 (u3)∧e 13=.int .i64 (((z0).x).left)∧e 14=.int .i64 (u3)∧e 20=.int .i64 (((z0).x).right)∧e 21=.int .i64 (l5)) (fun X95 nH yH h=>?_) ?_))
    ·refine Zr ?_
     refine Zf (Za (Zo l9 rfl ?_))
     refine Zg (.int .i64 (l5)) rfl rfl ?_
     refine Zb (Zd (Zf (Za (Zo lD rfl ?_))))
     refine Zn (.int .i64 (l5)) rfl rfl ?_
     have lE:RV tF.m kJ (⟨u3,l5⟩:Ge) (.agg (Wf [[.int .i64 0],[.int .i64 0]] [(0,.int .i64 (u3)),(1,.int .i64 (l5))]).flatten.toArray):=Wz rfl (Qp (rfl) (Kd (rfl)))
     generalize zH:(Value.agg (Wf [[.int .i64 0],[.int .i64 0]] [(0,.int .i64 (u3)),(1,.int .i64 (l5))]).flatten.toArray)=pH at lE
     refine Zy pH (zH ▸ P_build (vs:=[(0,.int .i64 (u3)),(1,.int .i64 (l5))]) [[.int .i64 0],[.int .i64 0]] lay_83 rfl rfl (.cons rfl (.cons rfl .nil)) ⟨⟨_,rfl,rfl⟩,⟨⟨_,rfl,rfl⟩,trivial⟩⟩) rfl ?_
     refine Ze .plain rfl (Gs (g:=tF) 2006 (⟨0,0⟩:Ge) Try.zeroValue83 (fun m w=>⟨_,(Gg Zx Zx),rfl⟩) fun lJ sK tK hs b97 cb=>?_)
     have hfr:=hfr.stp_ hAb hs rfl
     have i6:=i6.stp hs
     have t5:=t5.stp hs
     have lE:=lE.stp hs
     clear cb
     refine Ze .plain rfl (Gk (g:=lJ) (v:=pH) Try.sizeOf83 rfl b97 rfl lE fun uF uK hs b98 cb=>?_)
     clear cb
     have hfr:=hfr.stp_ hAb hs rfl
     have i6:=i6.stp hs
     have t5:=t5.stp hs
     refine Zb (Zd (Zf (Za (Ze .plain rfl (Gr (g:=uF) Try.isAgg108 Try.sizeOf108 lB t5 fun mJ nJ=>?_)))))
     refine Ze .plain rfl (Qj (g:=uF) Try.isAgg83 Try.sizeOf83 rfl b98 fun aI bI=>?_)
     obtain ⟨o0,gH,h⟩:=Gc h
     refine Ze .plain rfl (Zp (g:=uF) (vs:=[mJ,aI]) en97 (.cons rfl (.cons rfl .nil)) (wk97 nJ bI gH) fun dI qJ zJ hs hr=>?_)
     have hfr:=hfr.ext_ hAb hs
     have i6:=i6.ext hs
     have t5:=t5.ext hs
     have b98:=b98.ext hs
     obtain ⟨zB,oJ,pJ,rfl,cC,rfl,rfl⟩:=hr
     refine Zn (.tuple #[zB,.int .i64 (o0.2.1),.int .i64 (o0.2.2)]) rfl rfl ?_
     refine Zy zB (Zi rfl rfl) rfl ?_
     refine Zy (.int .i64 (o0.2.1)) (Zi rfl rfl) rfl ?_
     refine Zy (.int .i64 (o0.2.2)) (Zi rfl rfl) rfl ?_
     refine Ze .plain rfl (Gs (g:=dI) 2007 (⟨(⟨List.toArray [(⟨List.toArray [0,0,0,0],rfl⟩:Vector Int 4),(⟨List.toArray [0,0,0,0],rfl⟩:Vector Int 4)],rfl⟩:Vector (Vector Int 4) 2),⟨0,0⟩⟩:Gv) Try.zeroValue108 (fun m w=>⟨_,(Gg (Gt (Zw (Gt (Zw Zx (Zw Zx (Zw Zx (Zw Zx Gm)))) rfl) (Zw (Gt (Zw Zx (Zw Zx (Zw Zx (Zw Zx Gm)))) rfl) Gm)) rfl) (Gg Zx Zx)),rfl⟩) fun iI aK bK hs b103 cb=>?_)
     have hfr:=hfr.stp_ hAb hs rfl
     have i6:=i6.stp hs
     have t5:=t5.stp hs
     have b98:=b98.stp hs rfl
     have cC:=cC.stp hs
     clear cb
     refine Ze .plain rfl (Gk (g:=iI) (v:=zB) Try.sizeOf108 rfl b103 rfl cC fun uC cK hs b104 cb=>?_)
     clear cb
     have hfr:=hfr.stp_ hAb hs rfl
     have i6:=i6.stp hs
     have t5:=t5.stp hs
     have b98:=b98.stp hs rfl
     refine Zg (.int .i64 (o0.2.1)) rfl rfl ?_
     refine Zg (.int .i64 (o0.2.2)) rfl rfl ?_
     refine Zb (Zd ?_)
     obtain ⟨⟨n8,l8⟩,hx,h⟩:=Gc h
     refine Th (fun e w=>∃ (g:Gh) ,FrY gI wI B J (n8) g w∧e 0=(.func (.yield l) #[] #[])∧e 1=pf0∧PT g.m w (z0:Ptr Tn) pf0∧e 2=pf1∧PT g.m w (z1:Gv) pf1∧e 4=.int .i64 (u3)∧e 13=.int .i64 (((z0).x).left)∧e 14=.int .i64 (u3)∧e 20=.int .i64 (((z0).x).right)∧e 21=.int .i64 (l5)∧e 46=.bool (l8)) (fun Q' hQ=>?_) (fun rJ dK hR=>?_)
     ·replace h := hx
      clear hx
      refine Za (Zn (.int .i64 (o0.2.1)) rfl rfl ?_)
      refine Gu (.bool ((decide (o0.2.1 > (0:Int))))) rfl rfl rfl rfl ?_
      refine Zn (.bool ((decide (o0.2.1 > (0:Int))))) rfl rfl ?_
      rcases Zt h with ⟨g8,h⟩ | ⟨g8,h⟩
      ·refine Zz ((.func (.yield l) #[] #[])) (Zk aB) rfl rfl g8 rfl ?_
       refine Ze (.yes2 rfl rfl g8) rfl (Qj (g:=uC) Try.isAgg83 Try.sizeOf83 rfl b98 fun lK jI=>?_)
       refine Ze (.yes2 rfl rfl g8) rfl (Qj (g:=uC) Try.isAgg108 Try.sizeOf108 rfl b104 fun aE vF=>?_)
       refine Zz (.int .i64 (o0.2.1)) (Zk rfl) rfl rfl g8 rfl ?_
       refine Zz (.int .i64 ((w64 (o0.2.1 - (1:Int))))) (Td rfl rfl rfl) rfl rfl g8 rfl ?_
       refine Zz (.int .i64 (o0.2.2)) (Zk rfl) rfl rfl g8 rfl ?_
       have xF:RV uC.m _ (⟨o0.1,(w64 (o0.2.1 - (1:Int))),o0.2.2⟩:Te) (.agg (Wf [[.int .i64 0,.int .i64 0,.int .i64 0,.int .i64 0,.int .i64 0,.int .i64 0,.int .i64 0,.int .i64 0,.int .i64 0,.int .i64 0],[.int .i64 0],[.int .i64 0]] [(0,aE),(1,.int .i64 ((w64 (o0.2.1 - (1:Int))))),(2,.int .i64 (o0.2.2))]).flatten.toArray):=Wz rfl (Qp (RV.cells vF) (Qp (rfl) (Kd (rfl))))
       generalize jH:(Value.agg (Wf [[.int .i64 0,.int .i64 0,.int .i64 0,.int .i64 0,.int .i64 0,.int .i64 0,.int .i64 0,.int .i64 0,.int .i64 0,.int .i64 0],[.int .i64 0],[.int .i64 0]] [(0,aE),(1,.int .i64 ((w64 (o0.2.1 - (1:Int))))),(2,.int .i64 (o0.2.2))]).flatten.toArray)=kI at xF
       refine Zz kI (jH ▸ P_build (vs:=[(0,aE),(1,.int .i64 ((w64 (o0.2.1 - (1:Int))))),(2,.int .i64 (o0.2.2))]) [[.int .i64 0,.int .i64 0,.int .i64 0,.int .i64 0,.int .i64 0,.int .i64 0,.int .i64 0,.int .i64 0,.int .i64 0,.int .i64 0],[.int .i64 0],[.int .i64 0]] lay_144 rfl rfl (.cons rfl (.cons rfl (.cons rfl .nil))) ⟨⟨_,rfl,Qs vF⟩,⟨⟨_,rfl,rfl⟩,⟨⟨_,rfl,rfl⟩,trivial⟩⟩⟩) rfl rfl g8 rfl ?_
       obtain ⟨lI,kH,h⟩:=Gc h
       obtain ⟨n9,bE⟩:=lI
       refine Ze (.yes2 rfl rfl g8) rfl (D_yield (g:=uC) (x:=((⟨u3,l5⟩:Ge),(⟨o0.1,(w64 (o0.2.1 - (1:Int))),o0.2.2⟩:Te))) rfl (.cons rfl (.cons rfl .nil)) hRo hfr kH ⟨_,_,rfl,jI,xF⟩ fun mI mK hs hfrY=>?_)
       have i6:=i6.stp hs
       have t5:=t5.stp hs
       have hfr:=hfrY
       clear hfrY
       refine Zz (.bool (!n9)) (Wm rfl) rfl rfl g8 rfl ?_
       refine Zy (.bool (!n9)) (Zl (b:=(decide (o0.2.1 > (0:Int)))) rfl (Tp g8 rfl)) rfl ?_
       refine Zb ?_
       obtain ⟨rfl,rfl⟩:=pairs2 h
       exact hQ _ _ ⟨mI,hfr,aB,cD,i6,lB,t5,lD,oB,vB,yB,l9,rfl⟩
      ·refine Ga rfl rfl g8 rfl rfl ?_
       iterate 8 refine Ga rfl rfl g8 rfl rfl ?_
       refine Zy (.bool false) (Zl (b:=(decide (o0.2.1 > (0:Int)))) rfl (Tl g8 rfl)) rfl ?_
       refine Zb ?_
       obtain ⟨rfl,rfl⟩:=pairs2 h
       exact hQ _ _ ⟨uC,hfr,aB,cD,i6,lB,t5,lD,oB,vB,yB,l9,rfl⟩
     ·clear hx
      obtain ⟨nI,hfr,yF,aG,bG,cG,eG,gG,mE,oE,rE,uE,vC⟩:=hR
      rcases Zt h with ⟨nD,h⟩ | ⟨nD,h⟩
      ·refine To (Eq.trans (show ev _ _ = .bool (l8) from vC) (congrArg Value.bool nD)) ?_
       refine Gw (Qu ?_)
       refine Tc ?_
       refine Tc ?_
       refine Qu ?_
       refine Qu ?_
       refine Tc ?_
       refine Tc ?_
       refine Qu ?_
       obtain rfl:=sinj h
       exact end0 rfl rfl (FrY.done hfr)
      ·refine Tk (Eq.trans (show ev _ _ = .bool (l8) from vC) (congrArg Value.bool nD)) ?_
       exact Zu (Qn (Zd (yH (n8) _ _ ⟨nI,hfr,yF,aG,bG,cG,eG,gG,mE,oE,rE,uE⟩ h)))
    ·rintro nB sJ nK ⟨pI, hfr, iG, jG, kG, lG, mG, sG, vE, xE, yE, zE⟩ h
     refine Za (Gu (.int .i64 ((w64 (l5 + (1:Int))))) zE rfl rfl rfl ?_)
     refine Zn (.int .i64 ((w64 (l5 + (1:Int))))) rfl rfl ?_
     exact Zb (Zd (xH (nB,(w64 (l5 + (1:Int)))) _ _ ⟨pI,hfr,iG,jG,kG,lG,mG,sG,vE,xE,yE,rfl⟩ h))
   ·refine Qr zD rfl ?_
    refine Qm ?_
    refine Tm ?_
    refine Tm ?_
    refine Tu ?_
    exact Qn (Zd (uH (v8) _ _ ⟨tF,hfr,aB,cD,i6,lB,t5,oB,vB⟩ h))
  ·rintro mB vJ oK ⟨qI, hfr, xG, yG, zG, aH, cH, cF, dF⟩ h
   refine Za (Gu (.int .i64 ((w64 (u3 + (1:Int))))) dF rfl rfl rfl ?_)
   refine Zn (.int .i64 ((w64 (u3 + (1:Int))))) rfl rfl ?_
   exact Zb (Zd (hk5 (mB,(w64 (u3 + (1:Int)))) _ _ ⟨qI,hfr,xG,yG,zG,aH,cH,cF,rfl⟩ h))
 ·refine Qr sF rfl ?_
  refine Qm ?_
  refine Tm ?_
  refine Tm ?_
  refine Tu ?_
  obtain rfl:=sinj h
  exact end0n rfl rfl (FrY.done hfr)
def f52 (x0:List Int):Option (Bool):=
 (f87 ((0:Int)) ((9:Int)) x0).bind fun y2=>
 some (y2)
theorem en52:Enters Try.prog 52:=enters_of Try.func52 (by kernel_rfl) rfl
theorem wk52 {gI:Gh} {wI:World} {x0:List Int} {up0:Value} (rp0:RV gI.m wI x0 up0) {r:Bool} (h:f52 x0=some r):Fn Try.prog 52 #[up0] gI wI (fun _ _ v=>v=.bool (r)):=by
 unfold f52 at h
 refine Tf Try.func52 rfl (Nat.le_of_ble_eq_true rfl) fun g0 hm hfr=>?_
 have rp0:RV g0.m wI x0 up0:=hm ▸ rp0
 show E _ 5 none _ _ _ _ _
 refine Zf (Za (Zg (.bool false) rfl rfl ?_))
 refine Zb (Zd (Zf (Za (Zn up0 rfl rfl ?_))))
 obtain ⟨y2,hy2,h⟩:=Gc h
 refine Ze .plain rfl (Zp (g:=g0) (vs:=[.int .i64 (0),.int .i64 (9),up0]) en87 (.cons rfl (.cons rfl (.cons rfl .nil))) (wk87 rp0 hy2) fun g1 w1_ v1 hs hr=>?_)
 have hfr:=hfr.ext hs
 subst hr
 refine Zg (.bool (y2)) rfl rfl ?_
 refine Zb (Zd (Gw ?_))
 obtain rfl:=sinj h
 exact Wb rfl rfl (show _=.bool (y2) from rfl) ⟨_,hfr,rfl⟩
end Go.Proofs.Ytmpjooneiaiffaa
