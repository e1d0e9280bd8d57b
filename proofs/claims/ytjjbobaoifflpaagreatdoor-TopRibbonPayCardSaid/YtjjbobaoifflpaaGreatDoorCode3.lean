import Derived.Test.YtjjbobaoifflpaaGreatDoorCode2
set_option maxRecDepth 8000
set_option maxHeartbeats 4000000
namespace Go.Proofs.YtjjbobaoifflpaaGreatDoor
open Go.RowKit Tryz
def f107 (x0:PayTable):Option (Gr × Int):=
 jn (σ:=Gr) (fun iE=>
  some ((⟨x0⟩:Gr),(0:Int))
  ) fun vF=>
 (f155 ((⟨x0⟩:Gr))).bind fun lE=>
 bif lE then
  some ((⟨x0⟩:Gr),(5:Int))
 else
  (f156 ((⟨x0⟩:Gr))).bind fun zD=>
  bif (!zD) then
   some ((⟨x0⟩:Gr),(4:Int))
  else
   Option.bind (α:=Bool) (
    (f158 ((x0).Rows)).bind fun mE=>
    (f157 mE).bind fun l9=>
    bif (!l9) then
     some ((!l9))
    else
     (f73 ((x0).Across)).bind fun n9=>
     bif (!n9) then
      some ((!n9))
     else
      (f73 ((x0).Down)).bind fun aB=>
      bif (!aB) then
       some ((!aB))
      else
       (f73 (([(x0).Total]:List Int))).bind fun nB=>
       some ((!nB))
    ) fun i6=>
   bif i6 then
    some ((⟨x0⟩:Gr),(2:Int))
   else
    (f108 ((⟨x0⟩:Gr))).bind fun lB=>
    bif (decide (((lB).length : Int) > (12 : Int))) then
     some ((⟨x0⟩:Gr),(8:Int))
    else
     vF ((⟨⟨[],[],[],0⟩⟩:Gr))
theorem en107:Enters prog 107:=enters_of func107 (by kernel_rfl) rfl
theorem wk107 {gI:Gh} {wI:World} {x0:PayTable} {up0:Value} (rp0:RV gI.m wI x0 up0) {r:Gr × Int} (h:f107 x0=some r):Fn prog 107 #[up0] gI wI (fun m w v=>∃ y0 y1,v=.tuple #[y0,y1]∧RV m w (r.1) y0∧y1=Iz (r.2)):=by
 unfold f107 at h;refine fnE func107 rfl rfl fun g0 hm hfr=>?_;have rp0:=RVc hm rp0;show E _ 47 none _ _ _ _ _;refine Z5 (Z4 rfl (Tv (g:=g0) rfl rp0 fun g1 w1 p1 hs q1=>?_));have hfr:=hfr.ext hs;refine Z4 rfl (G2 (g:=g1) 2002 (⟨⟨[],[],[],0⟩⟩:Gr) zeroValue169 (fun m w=>⟨_,(Gb G9 (Gb G9 (Gb G9 Zw))),rfl⟩) fun g2 w2 p2 hs b2 cb=>?_);have hfr:=hfr.stp hs;have q1:=q1.stp hs;have o0:OSF 2002 60200 0 g2 w2 25 169 ([]:List (List Int)) p2:=cb.osf (by rfl);have l5:OSF 2002 60201 1 g2 w2 3 169 ([]:List Int) p2:=cb.osf (by rfl);have t5:OSF 2002 60202 2 g2 w2 3 169 ([]:List Int) p2:=cb.osf (by rfl);clear cb;refine Zg (Iz (0)) rfl rfl (Z3 (Z5 (Z4 rfl (Z6 (g:=g2) isAgg124 sizeOf124 rfl q1 fun v3 r3=>?_))));have r4:RV g2.m _ (⟨x0⟩:Gr) (.agg (Td [[.slice none 0 0,.slice none 0 0,.slice none 0 0,Iz 0]] [(0,v3)]).flatten.toArray):=Tc rfl (Tf (RV.cells r3));generalize sH:(Value.agg (Td [[.slice none 0 0,.slice none 0 0,.slice none 0 0,Iz 0]] [(0,v3)]).flatten.toArray)=v4 at r4;refine Zx v4 (sH ▸ Tu (vs:=[(0,v3)]) [[.slice none 0 0,.slice none 0 0,.slice none 0 0,Iz 0]] Eu rfl rfl (.cons rfl .nil) ⟨⟨_,rfl,Ti r3⟩,trivial⟩) rfl (Z4 rfl (G2 (g:=g2) 2004 (⟨⟨[],[],[],0⟩⟩:Gr) zeroValue169 (fun m w=>⟨_,(Gb G9 (Gb G9 (Gb G9 Zw))),rfl⟩) fun g5 w5 p5 hs b5 cb=>?_));have hfr:=hfr.stp hs;have o0:=o0.stp hs rfl;have l5:=l5.stp hs rfl;have t5:=t5.stp hs rfl;have b2:=b2.stp hs rfl;have r4:=r4.stp hs;have sI:OSF 2004 60400 0 g5 w5 25 169 ([]:List (List Int)) p5:=cb.osf (by rfl);have jJ:OSF 2004 60401 1 g5 w5 3 169 ([]:List Int) p5:=cb.osf (by rfl);have kJ:OSF 2004 60402 2 g5 w5 3 169 ([]:List Int) p5:=cb.osf (by rfl);clear cb;refine Z4 rfl (Gg (g:=g5) (v:=v4) sizeOf169 rfl b5 rfl r4 fun g6 w6 hs b6 cb=>?_);clear cb;have hfr:=hfr.stp hs;have o0:=o0.stp hs rfl;have l5:=l5.stp hs rfl;have t5:=t5.stp hs rfl;have b2:=b2.stp hs rfl;refine Z3 (Zq h (fun (s:Gr) e w=>∃ (g:Gh) ,Fr gI wI g w∧e 2=p2∧OB 2002 g w 169 (s:Gr) p2∧OSF 2002 60200 0 g w 25 169 (((s).PayTable).Rows) p2∧OSF 2002 60201 1 g w 3 169 (((s).PayTable).Across) p2∧OSF 2002 60202 2 g w 3 169 (((s).PayTable).Down) p2∧e 4=p5∧OB 2004 g w 169 ((⟨x0⟩:Gr):Gr) p5) (fun X86 vF xF h=>?_) ?_)
 ·refine Zr (Z5 (Z4 rfl (Tp (g := g6) isAgg169 sizeOf169 rfl b6 fun tH uH => ?_)))
  obtain ⟨lE,yF,h⟩:=Z1 h;refine Z4 rfl (Zp (g:=g6) (vs:=[tH]) en155 (.cons rfl .nil) (wk155 uH yF) fun aE lJ nK hs hr=>?_);have hfr:=hfr.ext hs;have o0:=o0.ext hs;have l5:=l5.ext hs;have t5:=t5.ext hs;have b2:=b2.ext hs;have b6:=b6.ext hs;subst hr;refine Zg (.bool (lE)) rfl rfl (Z3 ?_);rcases Zt h with ⟨bD,h⟩ | ⟨bD,h⟩
  ·refine G6 bD rfl (Z5 (Z4 rfl (Tp (g := aE) isAgg169 sizeOf169 rfl b6 fun xH yH => (Z4 rfl (Gg (g := aE) (v := xH) sizeOf169 rfl b2 rfl yH fun oK pK hs b92 cb => ?_)))))
   clear cb;have hfr:=hfr.stp hs;refine Zg (Iz (5)) rfl rfl (Z3 (Ga (Tl (Gp ?_))));obtain rfl:=sinj h;obtain ⟨ad93,cv93,hp93,aG,cr93⟩:=T9 isAgg169 sizeOf169 b92;exact Wm rfl rfl ((rq p2).trans hp93) aG (rq (Iz (5))) ⟨_,hfr,_,_,rfl,cr93,rfl⟩
  ·refine G7 bD rfl (Z5 (Z4 rfl (Tp (g := aE) isAgg169 sizeOf169 rfl b6 fun zH aI => ?_)))
   obtain ⟨zD,bG,h⟩:=Z1 h;refine Z4 rfl (Zp (g:=aE) (vs:=[zH]) en156 (.cons rfl .nil) (wk156 aI bG) fun bE mJ qK hs hr=>?_);have hfr:=hfr.ext hs;have o0:=o0.ext hs;have l5:=l5.ext hs;have t5:=t5.ext hs;have b2:=b2.ext hs;have b6:=b6.ext hs;subst hr;refine Zx (.bool (!zD)) (Qm rfl) rfl (Zg (.bool (!zD)) rfl rfl (Z3 ?_));rcases Zt h with ⟨cD,h⟩ | ⟨cD,h⟩
   ·refine G6 cD rfl (Z5 (Z4 rfl (Tp (g := bE) isAgg169 sizeOf169 rfl b6 fun bI dI => (Z4 rfl (Gg (g := bE) (v := bI) sizeOf169 rfl b2 rfl dI fun sK tK hs b99 cb => ?_)))))
    clear cb;have hfr:=hfr.stp hs;refine Zg (Iz (4)) rfl rfl (Z3 (Ga (Tl (Gp ?_))));obtain rfl:=sinj h;obtain ⟨ad100,cv100,hp100,xE,cr100⟩:=T9 isAgg169 sizeOf169 b99;exact Wm rfl rfl ((rq p2).trans hp100) xE (rq (Iz (4))) ⟨_,hfr,_,_,rfl,cr100,rfl⟩
   ·refine G7 cD rfl ?_
    obtain ⟨i6,hx,h⟩:=Z1 h;refine Gl (fun e w=>∃ (g:Gh) ,Fr gI wI g w∧e 2=p2∧OB 2002 g w 169 ((⟨⟨[],[],[],0⟩⟩:Gr):Gr) p2∧OSF 2002 60200 0 g w 25 169 ((((⟨⟨[],[],[],0⟩⟩:Gr)).PayTable).Rows) p2∧OSF 2002 60201 1 g w 3 169 ((((⟨⟨[],[],[],0⟩⟩:Gr)).PayTable).Across) p2∧OSF 2002 60202 2 g w 3 169 ((((⟨⟨[],[],[],0⟩⟩:Gr)).PayTable).Down) p2∧e 4=p5∧OB 2004 g w 169 ((⟨x0⟩:Gr):Gr) p5∧e 16=.bool (i6)) (fun Q' hQ=>?_) (fun iI nJ hR=>?_)
    ·replace h := hx
     clear hx;refine Z5 (Zx (Z8 p5 0) (Zc Tz rfl (OB.ptr b6)) rfl (Zx (Z8 p5 0) (Qk (o1:=0) rfl Q7 rfl (OB.ptr b6)) rfl (Z4 rfl (Qt (g:=bE) (Gd.comp G0 Qf rfl).1 isAgg122 sizeOf122 rfl b6 fun cG eG=>?_))));obtain ⟨mE,yE,h⟩:=Z1 h;refine Z4 rfl (Zp (g:=bE) (vs:=[cG]) en158 (.cons rfl .nil) (wk158 eG yE) fun gG jI iG hs hr=>?_);have hfr:=hfr.ext hs;have o0:=o0.ext hs;have l5:=l5.ext hs;have t5:=t5.ext hs;have b2:=b2.ext hs;have b6:=b6.ext hs;have jG:=hr;obtain ⟨l9,zE,h⟩:=Z1 h;refine Z4 rfl (Zp (g:=gG) (vs:=[iG]) en157 (.cons rfl .nil) (wk157 jG zE) fun lD kI oJ hs hr=>?_);have hfr:=hfr.ext hs;have o0:=o0.ext hs;have l5:=l5.ext hs;have t5:=t5.ext hs;have b2:=b2.ext hs;have b6:=b6.ext hs;subst hr;refine Zx (.bool (!l9)) (Qm rfl) rfl (Zg (.bool (!l9)) rfl rfl (Z3 ?_));rcases Zt h with ⟨oB,h⟩ | ⟨oB,h⟩
     ·refine G6 oB rfl (Zu ?_)
      obtain rfl:=sinj h;exact hQ _ _ ⟨lD,hfr,rfl,b2,o0,l5,t5,rfl,b6,rfl⟩
     ·refine G7 oB rfl (Z5 (Zx (Z8 p5 0) (Zc Tz rfl (OB.ptr b6)) rfl (Zx (Z8 p5 1) (Qk (o1 := 0) rfl Y5 rfl (OB.ptr b6)) rfl (Z4 rfl (Qt (g := lD) (Gd.comp G0 Kp rfl).1 isAgg25 sizeOf25 rfl b6 fun kG lG => ?_)))))
      obtain ⟨n9,cF,h⟩:=Z1 h;refine Z4 rfl (Zp (g:=lD) (vs:=[kG]) en73 (.cons rfl .nil) (wk73 lG cF) fun nD lI pJ hs hr=>?_);have hfr:=hfr.ext hs;have o0:=o0.ext hs;have l5:=l5.ext hs;have t5:=t5.ext hs;have b2:=b2.ext hs;have b6:=b6.ext hs;subst hr;refine Zx (.bool (!n9)) (Qm rfl) rfl (Zg (.bool (!n9)) rfl rfl (Z3 ?_));rcases Zt h with ⟨vB,h⟩ | ⟨vB,h⟩
      ·refine G6 vB rfl (Zu ?_)
       obtain rfl:=sinj h;exact hQ _ _ ⟨nD,hfr,rfl,b2,o0,l5,t5,rfl,b6,rfl⟩
      ·refine G7 vB rfl (Z5 (Zx (Z8 p5 0) (Zc Tz rfl (OB.ptr b6)) rfl (Zx (Z8 p5 2) (Qk (o1 := 0) rfl Yo rfl (OB.ptr b6)) rfl (Z4 rfl (Qt (g := nD) (Gd.comp G0 W1 rfl).1 isAgg25 sizeOf25 rfl b6 fun mG sG => ?_)))))
       obtain ⟨aB,dF,h⟩:=Z1 h;refine Z4 rfl (Zp (g:=nD) (vs:=[mG]) en73 (.cons rfl .nil) (wk73 sG dF) fun oD mI qJ hs hr=>?_);have hfr:=hfr.ext hs;have o0:=o0.ext hs;have l5:=l5.ext hs;have t5:=t5.ext hs;have b2:=b2.ext hs;have b6:=b6.ext hs;subst hr;refine Zx (.bool (!aB)) (Qm rfl) rfl (Zg (.bool (!aB)) rfl rfl (Z3 ?_));rcases Zt h with ⟨yB,h⟩ | ⟨yB,h⟩
       ·refine G6 yB rfl (Zu ?_)
        obtain rfl:=sinj h;exact hQ _ _ ⟨oD,hfr,rfl,b2,o0,l5,t5,rfl,b6,rfl⟩
       ·refine G7 yB rfl (Za (Zx (Z8 p5 0) (Zc Tz rfl (OB.ptr b6)) rfl (Zx (Z8 p5 3) (Qk (o1 := 0) rfl Dj rfl (OB.ptr b6)) rfl (Z4 rfl (Qt (g := oD) (Gd.comp G0 Hi rfl).1 isAgg3 sizeOf3 rfl b6 fun rJ xG => ?_)))))
        obtain rfl:=Zj.1 xG;refine Z4 rfl (Z7 (g:=oD) 3036 (xs:=([(x0).Total]:List Int)) (vs:=[Iz ((x0).Total)]) underlying25 sizeOf3 zeroValue3 rfl rfl (.cons rfl .nil) (RVs.cons (Zj.2 rfl) RVs.nil) rfl rfl fun yG sJ zG hs o150 aH hxt hfl=>?_);have hfr:=hfr.stp hs;have o0:=o0.stp hs rfl;have l5:=l5.stp hs rfl;have t5:=t5.stp hs rfl;have b2:=b2.stp hs rfl;have b6:=b6.stp hs rfl;obtain ⟨nB,eF,h⟩:=Z1 h;refine Z4 rfl (Zp (g:=yG) (vs:=[zG]) en73 (.cons rfl .nil) (wk73 aH eF) fun cH nI vJ hs hr=>?_);have hfr:=hfr.ext hs;have o0:=o0.ext hs;have l5:=l5.ext hs;have t5:=t5.ext hs;have b2:=b2.ext hs;have b6:=b6.ext hs;subst hr;refine Zx (.bool (!nB)) (Qm rfl) rfl (Zg (.bool (!nB)) rfl rfl (Zb ?_));obtain rfl:=sinj h;exact hQ _ _ ⟨cH,hfr,rfl,b2,o0,l5,t5,rfl,b6,rfl⟩
    ·clear hx
     obtain ⟨zB,hfr,l8,n8,u2_0_153,u2_1_153,u2_2_153,v8,g8,mB⟩:=hR;rcases Zt h with ⟨cC,h⟩ | ⟨cC,h⟩
     ·refine Ta (Eq.trans (show ev _ _ = .bool (i6) from mB) (congrArg Value.bool cC)) (Z5 (Z4 rfl (Tp (g := zB) isAgg169 sizeOf169 v8 g8 fun gH jH => (Z4 rfl (Gg (g := zB) (v := gH) sizeOf169 l8 n8 rfl jH fun xJ zJ hs b156 cb => ?_)))))
      clear cb;have hfr:=hfr.stp hs;refine Zg (Iz (2)) rfl rfl (Z3 (Ga (Tl (Gp ?_))));obtain rfl:=sinj h;obtain ⟨ad157,cv157,hp157,rF,cr157⟩:=T9 isAgg169 sizeOf169 b156;exact Wm rfl rfl ((show _=p2 from l8).trans hp157) rF (show _=Iz (2) from rfl) ⟨_,hfr,_,_,rfl,cr157,rfl⟩
     ·refine Gs (Eq.trans (show ev _ _ = .bool (i6) from mB) (congrArg Value.bool cC)) (Z5 (Z4 rfl (Tp (g := zB) isAgg169 sizeOf169 v8 g8 fun kH lH => ?_)))
      obtain ⟨lB,sF,h⟩:=Z1 h;refine Z4 rfl (Zp (g:=zB) (vs:=[kH]) en108 (.cons rfl .nil) (wk108 lH sF) fun yD pI aK hs hr=>?_);have hfr:=hfr.ext hs;have u2_0_153:=u2_0_153.ext hs;have u2_1_153:=u2_1_153.ext hs;have u2_2_153:=u2_2_153.ext hs;have n8:=n8.ext hs;have g8:=g8.ext hs;have mH:=hr;refine Zx (Iz ((lB).length:Int)) (Gz underlying214 rfl mH) rfl (Z9 (.bool ((decide (((lB).length:Int) > (12:Int))))) rfl rfl rfl rfl (Zg (.bool ((decide (((lB).length:Int) > (12:Int))))) rfl rfl (Z3 ?_)));rcases Zt h with ⟨uC,h⟩ | ⟨uC,h⟩
      ·refine G6 uC rfl (Z5 (Z4 rfl (Tp (g := yD) isAgg169 sizeOf169 v8 g8 fun nH oH => (Z4 rfl (Gg (g := yD) (v := nH) sizeOf169 l8 n8 rfl oH fun bK cK hs b163 cb => ?_)))))
       clear cb;have hfr:=hfr.stp hs;refine Zg (Iz (8)) rfl rfl (Z3 (Ga (Tl (Gp ?_))));obtain rfl:=sinj h;obtain ⟨ad164,cv164,hp164,tF,cr164⟩:=T9 isAgg169 sizeOf169 b163;exact Wm rfl rfl ((show _=p2 from l8).trans hp164) tF (show _=Iz (8) from rfl) ⟨_,hfr,_,_,rfl,cr164,rfl⟩
      ·refine G7 uC rfl ?_
       exact Zu (Tj (Zd (xF ((⟨⟨[],[],[],0⟩⟩:Gr)) _ _ ⟨yD,hfr,l8,n8,u2_0_153,u2_1_153,u2_2_153,v8,g8⟩ h)))
 ·rintro iE qI dK ⟨oE, hfr, vC, rE, u2_0_165, u2_1_165, u2_2_165, uE, vE⟩ h
  refine Z5 (Z4 rfl (Tp (g:=oE) isAgg169 sizeOf169 uE vE fun pH qH=>(Z4 rfl (Gg (g:=oE) (v:=pH) sizeOf169 vC rE rfl qH fun lK mK hs b167 cb=>?_))));clear cb;have hfr:=hfr.stp hs;refine Zg (Iz (0)) rfl rfl (Z3 (Ga ?_));obtain rfl:=sinj h;obtain ⟨ad168,cv168,hp168,uF,cr168⟩:=T9 isAgg169 sizeOf169 b167;exact Wm rfl rfl ((show _=p2 from vC).trans hp168) uF (show _=Iz (0) from rfl) ⟨_,hfr,_,_,rfl,cr168,rfl⟩
def f166 (x0:Gc) (z0:Int):Option (Bool):=
 Option.bind (α:=Bool) (
  (f93 ((-1:Int)) ((59:Int)) (([(x0).Number]:List Int))).bind fun t5=>
  bif (!t5) then
   some (true)
  else
   (f167 z0 (([(x0).Row]:List Int))).bind fun i6=>
   some ((!i6))
  ) fun l5=>
 some (l5)
theorem en166:Enters prog 166:=enters_of func166 (by kernel_rfl) rfl
theorem wk166 {gI:Gh} {wI:World} {x0:Gc} {z0:Int} {up0:Value} (rp0:RV gI.m wI x0 up0) {pf0:Value} (qf0:PT gI.m wI z0 pf0) {r:Bool} (h:f166 x0 z0=some r):Fn prog 166 #[up0,pf0] gI wI (fun _ _ v=>v=.bool (r)):=by
 unfold f166 at h;refine fnE func166 rfl rfl fun g0 hm hfr=>?_;have qf0:PT g0.m wI z0 pf0:=hm ▸ qf0;have rp0:=RVc hm rp0;show E _ 17 none _ _ _ _ _;refine Z5 (Z4 rfl (Tv (g:=g0) rfl rp0 fun g1 w1 p1 hs q1=>?_));have hfr:=hfr.ext hs;have qf0:=qf0.ext hs;refine Zg (.bool false) rfl rfl (Z3 ?_);obtain ⟨l5,hx,h⟩:=Z1 h;refine Gl (fun e w=>∃ (g:Gh) ,Fr gI wI g w∧e 3=.bool (l5)) (fun Q' hQ=>?_) (fun vC lD hR=>?_)
 ·replace h := hx
  clear hx;refine Za (Zx (Z8 p1 0) (Zc C0 rfl (PT.ptr q1)) rfl ?_);have l9:=Zm (H8).1 q1;refine Z4 rfl (Z6 (g:=g1) isAgg3 sizeOf3 rfl l9 fun nD n9=>?_);obtain rfl:=Zj.1 n9;refine Z4 rfl (Z7 (g:=g1) 3006 (xs:=([(x0).Number]:List Int)) (vs:=[Iz ((x0).Number)]) underlying25 sizeOf3 zeroValue3 rfl rfl (.cons rfl .nil) (RVs.cons (Zj.2 rfl) RVs.nil) rfl rfl fun aB oD lB hs o16 mB hxt hfl=>?_);have hfr:=hfr.stp hs;have qf0:=qf0.stp hs;have q1:=q1.stp hs;obtain ⟨t5,n8,h⟩:=Z1 h;refine Z4 rfl (Zp (g:=aB) (vs:=[Iz (-1),Iz (59),lB]) en93 (.cons rfl (.cons rfl (.cons rfl .nil))) (wk93 mB n8) fun g8 bD yD hs hr=>?_);have hfr:=hfr.ext hs;have qf0:=qf0.ext hs;have q1:=q1.ext hs;subst hr;refine Zx (.bool (!t5)) (Qm rfl) rfl (Zn (.bool (!t5)) rfl rfl ?_);rcases Zt h with ⟨o0,h⟩ | ⟨o0,h⟩
  ·refine Zz rfl rfl o0 rfl rfl ?_
   iterate 5 refine Zz rfl rfl o0 rfl rfl ?_
   refine Zx (.bool true) (Zl (b:=(!t5)) rfl (G4 o0 rfl)) rfl (Zg (.bool true) rfl rfl (Zb ?_));obtain rfl:=sinj h;exact hQ _ _ ⟨g8,hfr,rfl⟩
  ·refine Ze (.yes2 rfl rfl o0) rfl (Z6 (g := g8) isAgg190 sizeOf190 rfl qf0 fun zD nB => ?_)
   obtain rfl:=Zj.1 nB;refine Zy (Z8 p1 1) (Zc B5 rfl (PT.ptr q1)) rfl rfl o0 rfl ?_;have oB:=Zm (K5).1 q1;refine Ze (.yes2 rfl rfl o0) rfl (Z6 (g:=g8) isAgg3 sizeOf3 rfl oB fun aE vB=>?_);obtain rfl:=Zj.1 vB;refine Ze (.yes2 rfl rfl o0) rfl (Z7 (g:=g8) 3013 (xs:=([(x0).Row]:List Int)) (vs:=[Iz ((x0).Row)]) underlying25 sizeOf3 zeroValue3 rfl rfl (.cons rfl .nil) (RVs.cons (Zj.2 rfl) RVs.nil) rfl rfl fun yB bE zB hs o23 cC hxt hfl=>?_);have hfr:=hfr.stp hs;obtain ⟨i6,v8,h⟩:=Z1 h;refine Ze (.yes2 rfl rfl o0) rfl (Zp (g:=yB) (vs:=[Iz (z0),zB]) en167 (.cons rfl (.cons rfl .nil)) (wk167 cC v8) fun uC cD iE hs hr=>?_);have hfr:=hfr.ext hs;subst hr;refine Zy (.bool (!i6)) (Qm rfl) rfl rfl o0 rfl (Zx (.bool (!i6)) (Zl (b:=(!t5)) rfl (G5 o0 rfl)) rfl (Zg (.bool (!i6)) rfl rfl (Zb ?_)));obtain rfl:=sinj h;exact hQ _ _ ⟨uC,hfr,rfl⟩
 ·clear hx
  obtain ⟨lE,hfr,l8⟩:=hR;refine Ga ?_;obtain rfl:=sinj h;exact Tg rfl rfl (show _=.bool (l5) from l8) ⟨_,hfr,rfl⟩
def f18 (x0:List Z2):Option ((List UInt8) × Int × Int):=
 jn (σ:=Unit) (fun _=>
  jn (σ:=(List UInt8)) (fun oD=>
   some (oD,(0:Int),(0:Int))
   ) fun xH=>
  lp (σ:=(List UInt8) × Int) (fun yH (aB,o0)=>
   bif (decide (o0 < ((x0).length : Int))) then
    jn (σ:=(List UInt8)) (fun vB=>
     yH (vB,(w64 (o0 + (1:Int))))
     ) fun zH=>
    (idx x0 o0).bind fun yB=>
    jn (σ:=Unit) (fun _=>
     (f39 yB).bind fun xF=>
     (cut ((xF).toList) 0 ((8:Nat):Int)).bind fun yF=>
     (apnd 1 aB yF).bind fun zD=>
     zH (zD)
     ) fun aG=>
    (f38 yB).bind fun uC=>
    bif (!uC) then
     some ([],o0,(2:Int))
    else
     Option.bind (α:=Bool) (
      bif (decide (o0 > (0 : Int))) then
       (idx x0 (w64 (o0 - (1:Int)))).bind fun bG=>
       (f22 bG yB).bind fun oB=>
       some ((decide (oB ≥ (0:Int))))
      else
       some (false)
      ) fun lB=>
     bif lB then
      some ([],o0,(4:Int))
     else
      aG ()
   else
    xH (aB)
   ) big ([],(0:Int))
  ) fun k2=>
 bif (decide (((x0).length : Int) > (100 : Int))) then
  some ([],(0:Int),(5:Int))
 else
  k2 ()
theorem en18:Enters prog 18:=enters_of func18 (by kernel_rfl) rfl
theorem wk18 {gI:Gh} {wI:World} {x0:List Z2} {up0:Value} (rp0:RV gI.m wI x0 up0) {r:(List UInt8) × Int × Int} (h:f18 x0=some r):Fn prog 18 #[up0] gI wI (fun m w v=>∃ y0 y1 y2,v=.tuple #[y0,y1,y2]∧RV m w (r.1) y0∧y1=Iz (r.2.1)∧y2=Iz (r.2.2)):=by
 unfold f18 at h;refine fnE func18 rfl rfl fun g0 hm hfr=>?_;have rp0:=RVc hm rp0;show E _ 44 none _ _ _ _ _;refine Z5 (Zg (.slice none 0 0) rfl rfl (Zg (Iz (0)) rfl rfl (Zg (Iz (0)) rfl rfl (Z3 (Zq h (fun (s:Unit) e w=>∃ (g:Gh) ,Fr gI wI g w∧e 0=up0∧RV g.m w (x0:List Z2) up0∧e 2=.slice none 0 0∧RV g.m w ([]:List UInt8) (Value.slice none 0 0)) (fun X2 k2 hk2 h=>?_) ?_)))))
 ·refine Z5 (Zn up0 rfl rfl (Zx (Iz ((x0).length : Int)) (Gz underlying33 rfl rp0) rfl (Z9 (.bool ((decide (((x0).length : Int) > (100 : Int))))) rfl rfl rfl rfl (Z3 ?_))))
  rcases Zt h with ⟨hc3,h⟩ | ⟨hc3,h⟩
  ·refine G6 hc3 rfl (Z5 (Zg (.slice none 0 0) rfl rfl (Zg (Iz (0)) rfl rfl (Zg (Iz (5)) rfl rfl (Z3 (Ga (Gp ?_)))))))
   obtain rfl:=sinj h;exact Ya rfl rfl (rq (.slice none 0 0)) (rq (Iz (0))) (rq (Iz (5))) ⟨_,hfr,_,_,_,rfl,T0,rfl,rfl⟩
  ·refine G7 hc3 rfl ?_
   exact Zu (Zd (hk2 () _ _ ⟨g0,hfr,rfl,rp0,rfl,T0⟩ h))
 ·rintro _ cM w4 ⟨g4, hfr, aI, rE, lK, mK⟩ h
  refine Zq h (fun (s:(List UInt8)) e w=>∃ (g:Gh) (v2:Value),Fr gI wI g w∧e 2=v2∧RV g.m w (s:List UInt8) v2∧OS 1002 g w 5 (s:List UInt8) v2) (fun X587 xH pI h=>?_) ?_
  ·refine Z5 (Zo aI rfl (Zx (Iz ((x0).length : Int)) (Gz underlying33 rfl rE) rfl (Zn (Iz (0)) rfl rfl (Z3 (Zr (Q0 h (fun (s : (List UInt8) × Int) e w => ∃ (g : Gh) (v2 : Value), Fr gI wI g w ∧ e 0 = up0 ∧ RV g.m w (x0 : List Z2) up0 ∧ e 2 = v2 ∧ RV g.m w (s.1 : List UInt8) v2 ∧ OS 1002 g w 5 (s.1 : List UInt8) v2 ∧ e 11 = up0 ∧ RV g.m w (x0 : List Z2) up0 ∧ e 12 = Iz (((x0).length : Int)) ∧ e 13 = Iz (s.2)) ⟨g4, (.slice none 0 0), hfr, aI, rE, lK, mK, OS.nil, rfl, rE, rfl, rfl⟩ (fun X588 yH qI => ?_)))))))
   rintro ⟨aB,o0⟩ zK zL ⟨uE,mB,hfr,vC,i6,bD,g8,l8,zB,l5,cC,nB⟩ h;refine Z5 (Z9 (.bool ((decide (o0 < ((x0).length:Int))))) nB cC rfl rfl (Z3 (Zf ?_)));rcases Zt h with ⟨aE,h⟩ | ⟨aE,h⟩
   ·refine G6 aE rfl (Zu (Zd (Zq h (fun (s : (List UInt8)) e w => ∃ (g : Gh) (v2 : Value), Fr gI wI g w ∧ e 0 = up0 ∧ RV g.m w (x0 : List Z2) up0 ∧ e 2 = v2 ∧ RV g.m w (s : List UInt8) v2 ∧ OS 1002 g w 5 (s : List UInt8) v2 ∧ e 11 = up0 ∧ RV g.m w (x0 : List Z2) up0 ∧ e 12 = Iz (((x0).length : Int)) ∧ e 13 = Iz (o0)) (fun X879 zH sI h => ?_) ?_)))
    ·refine Zr (Z5 (Zo nB rfl ?_))
     obtain ⟨yB,cG,h⟩:=Z1 h;refine Zx (Tb up0 o0 5) (Zh (α:=Z2) underlying33 sizeOf60 zB l5 nB cG) rfl ?_;have nK:=Gx l5 cG;refine Z4 rfl (Z6 (g:=uE) isAgg60 sizeOf60 rfl nK fun oK vE=>(Z4 rfl (G2 (g:=uE) 2006 (⟨0,0,0,0,0⟩:Z2) zeroValue60 (fun m w=>⟨_,(Gb Zw (Gb Zw (Gb Zw (Gb Zw Zw)))),rfl⟩) fun pK aM bE hs b883 cb=>?_)));have hfr:=hfr.stp hs;have i6:=i6.stp hs;have g8:=g8.stp hs;have l8:=l8.stp hs rfl;have l5:=l5.stp hs;have vE:=vE.stp hs;clear cb;refine Zg (Iz (o0)) rfl rfl (Z4 rfl (Gg (g:=pK) (v:=oK) sizeOf60 rfl b883 rfl vE fun bI bM hs b884 cb=>?_));clear cb;have hfr:=hfr.stp hs;have i6:=i6.stp hs;have g8:=g8.stp hs;have l8:=l8.stp hs rfl;have l5:=l5.stp hs;refine Z3 (Zq h (fun (s:Unit) e w=>∃ (g:Gh) ,Fr gI wI g w∧e 0=up0∧RV g.m w (x0:List Z2) up0∧e 2=mB∧RV g.m w (aB:List UInt8) mB∧OS 1002 g w 5 (aB:List UInt8) mB∧e 6=bE∧OB 2006 g w 60 (yB:Z2) bE∧e 11=up0∧RV g.m w (x0:List Z2) up0∧e 12=Iz (((x0).length:Int))∧e 13=Iz (o0)) (fun X1021 aG dI h=>?_) ?_)
     ·refine Zr (Z5 (Z4 rfl (Tp (g := bI) isAgg60 sizeOf60 rfl b884 fun jJ kJ => ?_)))
      obtain ⟨uC,iI,h⟩:=Z1 h;refine Z4 rfl (Zp (g:=bI) (vs:=[jJ]) en38 (.cons rfl .nil) (wk38 kJ iI) fun eG sK aL hs hr=>?_);have hfr:=hfr.ext hs;have i6:=i6.ext hs;have g8:=g8.ext hs;have l8:=l8.ext hs;have l5:=l5.ext hs;have b884:=b884.ext hs;subst hr;refine Zx (.bool (!uC)) (Qm rfl) rfl (Zg (.bool (!uC)) rfl rfl (Z3 ?_));rcases Zt h with ⟨cD,h⟩ | ⟨cD,h⟩
      ·refine G6 cD rfl (Z5 (Zn (Iz (o0)) rfl rfl (Zg (.slice none 0 0) rfl rfl (Zg (Iz (o0)) rfl rfl (Zg (Iz (2)) rfl rfl (Z3 (Ga (Tl (Gp (Tl (Gp (Gp (Tl (Gp ?_))))))))))))))
       obtain rfl:=sinj h;exact Ya rfl rfl (rq (.slice none 0 0)) (rq (Iz (o0))) (rq (Iz (2))) ⟨_,hfr,_,_,_,rfl,T0,rfl,rfl⟩
      ·refine G7 cD rfl ?_
       obtain ⟨lB,hx,h⟩:=Z1 h;refine Gl (fun e w=>∃ (g:Gh) ,Fr gI wI g w∧e 0=up0∧RV g.m w (x0:List Z2) up0∧e 2=mB∧RV g.m w (aB:List UInt8) mB∧OS 1002 g w 5 (aB:List UInt8) mB∧e 5=Iz (o0)∧e 6=bE∧OB 2006 g w 60 (yB:Z2) bE∧e 11=up0∧RV g.m w (x0:List Z2) up0∧e 12=Iz (((x0).length:Int))∧e 13=Iz (o0)∧e 23=.bool (lB)) (fun Q' hQ=>?_) (fun tK bL hR=>?_)
       ·replace h := hx
        clear hx;rcases Zt h with ⟨v8,h⟩ | ⟨v8,h⟩
        ·obtain ⟨bG, mE, h⟩ := Z1 h
         have lJ:=Gx i6 mE;refine Zs (x:=.tmp 30) isAgg60 sizeOf60 lJ fun gG mJ jI=>(Ht (x:=.tmp 6) isAgg60 sizeOf60 b884 fun iG nJ kI=>?_);obtain ⟨oB,lI,h⟩:=Z1 h;refine To (g:=eG) (n:=13) [(9,(fun v g w=>v=Iz (oB)))] [0,1,2,3,4,5,6,7,8,9,10,11,12] rfl mixed (by kernel_rfl) (⟨fun _=>Wk _,trivial⟩) (Z0 (Iz (o0)) rfl rfl (Zk rfl) (Z0 (.bool ((decide (o0 > (0:Int))))) rfl rfl (Gk rfl rfl rfl) (Z0 (.bool ((decide (o0 > (0:Int))))) rfl rfl (Zk rfl) (L_y up0 rfl rfl rfl rfl v8 (Zk vC) (L_y (Iz (o0)) rfl rfl rfl rfl v8 (Zk rfl) (L_y (Iz ((w64 (o0 - (1:Int))))) rfl rfl rfl rfl v8 (Gk rfl rfl rfl) (L_y (Tb up0 (w64 (o0 - (1:Int))) 5) rfl rfl rfl rfl v8 (Zh (α:=Z2) underlying33 sizeOf60 rfl i6 rfl mE) (Tm (c:=gG) rfl rfl (.yes2 rfl rfl v8) (fun _ _ h=>h.ch) jI rfl (Tm (c:=iG) rfl rfl (.yes2 rfl rfl v8) (fun _ _ h=>⟨h.ch,fun b hb _=>h.below.block b hb⟩) kI rfl (W7 (φ:=fun v g w=>v=Iz (oB)) rfl rfl (.yes2 rfl rfl v8) (fun g w hd=>Zp (g:=g) (vs:=[gG,iG]) en22 (.cons rfl (.cons rfl .nil)) (wk22 (mJ.ext hd.1) (nJ.ext hd.1) lI) fun g' w' v hs hr=>⟨g',hs,hr⟩) (fun dL hv=>?_)))))))))));obtain ⟨_,_,_,rfl⟩:=hv;refine L_y (.bool ((decide (oB ≥ (0:Int))))) rfl rfl rfl rfl v8 (Gk rfl rfl rfl) (Z0 (.bool ((decide (oB ≥ (0:Int))))) rfl rfl (Zl (b:=(decide (o0 > (0:Int)))) rfl (G4 v8 rfl)) (Z0 (.bool ((decide (oB ≥ (0:Int))))) rfl rfl (Te rfl) (Ka fun oJ eL hs=>?_)));have hfr:=hfr.ext hs;have i6:=i6.ext hs;have g8:=g8.ext hs;have l8:=l8.ext hs;have l5:=l5.ext hs;have b884:=b884.ext hs;clear hs;refine Zb ?_;obtain rfl:=sinj h;exact hQ _ _ ⟨oJ,hfr,vC,i6,bD,g8,l8,rfl,rfl,b884,zB,l5,cC,nB,rfl⟩
        ·refine To (g := eG) (n := 13) [] [0, 1, 2, 3, 4, 5, 6, 7, 8, 9, 10, 11, 12] rfl mixed (by kernel_rfl) trivial (Z0 (Iz (o0)) rfl rfl (Zk rfl) (Z0 (.bool ((decide (o0 > (0 : Int))))) rfl rfl (Gk rfl rfl rfl) (Z0 (.bool ((decide (o0 > (0 : Int))))) rfl rfl (Zk rfl) ?_)))
         iterate 8 refine L_s rfl rfl rfl v8 rfl ?_
         refine Z0 (.bool false) rfl rfl (Zl (b:=(decide (o0 > (0:Int)))) rfl (G5 v8 rfl)) (Z0 (.bool false) rfl rfl (Te rfl) (Ka fun pJ gL hs=>?_));have hfr:=hfr.ext hs;have i6:=i6.ext hs;have g8:=g8.ext hs;have l8:=l8.ext hs;have l5:=l5.ext hs;have b884:=b884.ext hs;clear hs;refine Zb ?_;obtain rfl:=sinj h;exact hQ _ _ ⟨pJ,hfr,vC,i6,bD,g8,l8,rfl,rfl,b884,zB,l5,cC,nB,rfl⟩
       ·clear hx
        obtain ⟨qJ,hfr,lG,mG,sG,xG,yG,zG,aH,cH,xE,yE,zE,cF,lD⟩:=hR;rcases Zt h with ⟨nD,h⟩ | ⟨nD,h⟩
        ·refine Ta (Eq.trans (show ev _ _ = .bool (lB) from lD) (congrArg Value.bool nD)) (Z5 (Zo zG rfl (Zg (.slice none 0 0) rfl rfl (Zg (Iz (o0)) rfl rfl (Zg (Iz (4)) rfl rfl (Z3 (Ga (Tl (Gp (Tl (Gp (Gp (Tl (Gp ?_))))))))))))))
         obtain rfl:=sinj h;exact Ya rfl rfl (rq (.slice none 0 0)) (rq (Iz (o0))) (rq (Iz (4))) ⟨_,hfr,_,_,_,rfl,T0,rfl,rfl⟩
        ·refine Gs (Eq.trans (show ev _ _ = .bool (lB) from lD) (congrArg Value.bool nD)) ?_
         exact Zu (Tj (Zd (dI () _ _ ⟨qJ,hfr,lG,mG,sG,xG,yG,aH,cH,xE,yE,zE,cF⟩ h)))
     ·rintro _ uK iL ⟨jG, hfr, gH, n8, jH, l9, n9, kH, lH, dF, t5, eF, rF⟩ h
      refine Z5 (Z4 rfl (Tp (g:=jG) isAgg60 sizeOf60 kH lH fun rJ sJ=>?_));obtain ⟨xF,mI,h⟩:=Z1 h;refine Z4 rfl (Zp (g:=jG) (vs:=[rJ]) en39 (.cons rfl .nil) (wk39 sJ mI) fun vJ vK xJ hs hr=>?_);have hfr:=hfr.ext hs;have n8:=n8.ext hs;have l9:=l9.ext hs;have n9:=n9.ext hs;have t5:=t5.ext hs;have iE:=hr;refine Z4 rfl (G2 (g:=vJ) 2007 ((⟨List.toArray [0,0,0,0,0,0,0,0],rfl⟩:Vector UInt8 8):Vector UInt8 8) zeroValue82 (fun m w=>⟨_,(Jt (Zv Qd (Zv Qd (Zv Qd (Zv Qd (Zv Qd (Zv Qd (Zv Qd (Zv Qd Jd)))))))) rfl),rfl⟩) fun zJ jL lE hs b1162 cb=>?_);have hfr:=hfr.stp hs;have n8:=n8.stp hs;have l9:=l9.stp hs;have n9:=n9.stp hs rfl;have t5:=t5.stp hs;have iE:=iE.stp hs;clear cb;refine Z4 rfl (Gg (g:=zJ) (v:=xJ) sizeOf82 rfl b1162 rfl iE fun lL mL hs b1163 cb=>?_);clear cb;have hfr:=hfr.stp hs;have n8:=n8.stp hs;have l9:=l9.stp hs;have n9:=n9.stp hs rfl;have t5:=t5.stp hs;obtain ⟨gp1163,hs,qp1163⟩:=OB.pub b1163;have hfr:=hfr.stp hs;have n8:=n8.stp hs;have l9:=l9.stp hs;have n9:=n9.stp hs rfl;have t5:=t5.stp hs;refine Z3 (Za (Zo jH rfl ?_));obtain ⟨yF,oE,h⟩:=Z1 h;have aK:=Rl (Ee (p:=lE) qp1163) oE;refine Zx ((Kk (Ri lE 8) 0 (Int.toNat ((8:Nat):Int)) 1)) (S9 (p:=lE) underlying82 sizeOf5 rfl qp1163 rfl oE) rfl ?_;obtain ⟨zD,nI,h⟩:=Z1 h;refine Z4 rfl (T5 (g:=gp1163) (i:=1002) underlying43 Rs rfl rfl n9 l9 rfl aK nI fun bK nL kG hs o1166 cK _=>?_);have hfr:=hfr.stp hs;have n8:=n8.stp hs;have t5:=t5.stp hs;refine Zg kG rfl rfl ?_;exact Zb (Tj (Zd (sI (zD) _ _ ⟨bK,(kG),hfr,gH,n8,rfl,cK,o1166,dF,t5,eF,rF⟩ h)))
    ·rintro vB xK oL ⟨dK, mH, hfr, nH, oH, pH, qH, sH, sF, tF, uF, vF⟩ h
     refine Za (Z9 (Iz ((w64 (o0 + (1:Int))))) vF rfl rfl rfl (Zn (Iz ((w64 (o0 + (1:Int))))) rfl rfl ?_));exact Z3 (qI (vB,(w64 (o0 + (1:Int)))) _ _ ⟨dK,(mH),hfr,nH,oH,pH,qH,sH,sF,tF,uF,rfl⟩ h)
   ·refine G7 aE rfl (Tn (Gu (Gu (G8 ?_))))
    exact Zd (pI (aB) _ _ ⟨uE,(mB),hfr,bD,g8,l8⟩ h)
  ·rintro oD yK xL ⟨yL, yD, hfr, tH, uH, qK⟩ h
   refine Z5 (Zo tH rfl (Zg yD rfl rfl (Zg (Iz (0)) rfl rfl (Zg (Iz (0)) rfl rfl (Z3 (Ga ?_))))));obtain rfl:=sinj h;exact Ya rfl rfl (rq yD) (rq (Iz (0))) (rq (Iz (0))) ⟨_,hfr,_,_,_,rfl,uH,rfl,rfl⟩
theorem D5 {P:Program} {e:Env} {x y:Operand} {t et:TypeId} {b:Nat} {i:Int} (ht:P.underlying t=some (.array 2 et)) (hs:∀ w,(sizeOf et).run P w=.ok 1 w) (hx:ev e x=.pointer (some ⟨b,0,none⟩)) (hy:ev e y=Iz i) (hi:i=0 ∨ i=1):Pur P (.indexAddr t x y) e (.pointer (some ⟨b,i.toNat,none⟩)):=by
 have h:=Tk (α:=Int) (P:=P) (e:=e) (v:=(⟨#[0,0],rfl⟩:Vector Int 2)) (i:=i) (a:=0) ht hs hx ⟨b,0,rfl⟩ hy (by rcases hi with rfl | rfl <;> rfl);rcases hi with rfl | rfl <;> exact h
def f7h (x0:List Z2) (x1:UInt16):Option (List Z2 × List Z2):=
  lp (σ:=(List Z2 × List Z2) × Int) (fun k z=>bif decide (z.2 < (x0.length:Int)) then (Ws (x1.toNat:Int) (T3 z.2)).bind fun n=>(idx x0 z.2).bind fun c=>
    bif Wa .and n 1 == (0:Int) then (apnd 40 z.1.1 [c]).bind fun y=>k ((y,z.1.2),w64 (z.2 + (1:Int))) else bif Wa .and n 1 == (1:Int) then (apnd 40 z.1.2 [c]).bind fun y=>k ((z.1.1,y),w64 (z.2 + (1:Int))) else none
   else some z.1) big (([],[]),0)
def f7 (x0:List Z2) (x1:UInt16):Option (List (List UInt8) × Bool):=
 (f7h x0 x1).bind fun h=>(f18 h.1).bind fun a=>(f18 h.2).bind fun b=>some ([b.1,a.1],bif a.2.2 == (0:Int) then b.2.2 == (0:Int) else false)
theorem en7:Enters prog 7:=enters_of func7 (by kernel_rfl) rfl
theorem u7 {iO:Nat} {gI:Gh} {wI:World} {x0:List Z2} {x1:UInt16} {up0:Value} (rp0:RV gI.m wI x0 up0) {r:List (List UInt8) × Bool} (h:f7 x0 x1=some r):FnG prog 7 #[up0,.int .u16 x1.toNat] gI wI (fun g w v=>∃ y0 y1,v=.tuple #[y0,y1]∧(OS iO g w 43 r.1 y0∧RV g.m w r.1 y0)∧y1=.bool r.2):=by
 unfold f7 at h;obtain ⟨⟨a0,a1⟩,hh,h⟩:=Z1 h;obtain ⟨ra,hra,h⟩:=Z1 h;obtain ⟨rb,hrb,h⟩:=Z1 h;obtain rfl:=sinj h;clear h;refine Rb func7 rfl (Nat.le_of_ble_eq_true rfl) fun g0 hm hfr=>?_;have rp0:=RVc hm rp0;show E _ 62 none _ _ _ _ _;refine Z5 (Zg (.slice none 0 0) rfl rfl (Zg (.bool false) rfl rfl (Z3 (Z5 (Zx (.agg #[.slice none 0 0,.slice none 0 0]) (show Pur _ _ _ (.agg #[.slice none 0 0,.slice none 0 0]) from Rj (s:=1) (zc:=[.slice none 0 0,.slice none 0 0]) (vs:=[]) [[.slice none 0 0],[.slice none 0 0]] underlying75 (by kernel_rfl) (by kernel_rfl) rfl (by simp) .nil trivial) rfl (Z4 rfl (G2 (g:=g0) 2 (([],[]):List Z2 × List Z2) zeroValue75 (fun m w=>⟨_,Gb G9 G9,rfl⟩) fun g1 w1 pt hs1 b1 _=>(Z4 rfl (Gg (g:=g1) (a':=(([],[]):List Z2 × List Z2)) (v:=.agg #[.slice none 0 0,.slice none 0 0]) sizeOf75 rfl b1 rfl ⟨_,Gb G9 G9,rfl⟩ fun g2 w2 hs2 b2 c2=>?_)))))))));have hfr:=(hfr.stp hs1).stp hs2;have rp2:=(rp0.stp hs1).stp hs2;obtain ⟨bk,cs,rfl,ho2,hm2,hh2,_⟩:=b2;obtain ⟨bk2,hp,_,hc2⟩:=c2;injection hp with hp; injection hp with hp; injection hp with hp _;subst hp;have hb2:HBm 2 g2 w2 bk (.cells #[.slice none 0 0,.slice none 0 0] 75 (0,0)):=⟨ho2,hm2,hc2⟩;clear hs1 hs2 b1 hc2 hh2;refine Z3 (Kw (fun e ds w'=>ds=[]∧e 6=.pointer (some ⟨bk,0,none⟩)∧∃ g' v0 v1,Fr gI wI g' w'∧HBm 2 g' w' bk (.cells #[v0,v1] 75 (0,0))∧RV g'.m w' a0 v0∧RV g'.m w' a1 v1) (fun Q' hQ=>?_) (fun e ds w' hR=>?_))
 ·clear hra hrb
  refine Z5 (Zg (Iz 0) rfl rfl (Z3 (Zr ?_)));unfold f7h at hh;refine Sj hh (fun (z:(List Z2 × List Z2) × Int) e ds w'=>ds=[]∧e 0=up0∧e 1=.int .u16 x1.toNat∧e 6=.pointer (some ⟨bk,0,none⟩)∧e 7=Iz z.2∧∃ g' v0 v1,Fr gI wI g' w'∧Ch g2.m w2 g'.m w'∧HBm 2 g' w' bk (.cells #[v0,v1] 75 (0,0))∧RV g'.m w' z.1.1 v0∧OS 3 g' w' 60 z.1.1 v0∧RV g'.m w' z.1.2 v1∧OS 4 g' w' 60 z.1.2 v1) ⟨rfl,rfl,rfl,rfl,rfl,g2,_,_,hfr,Ch.refl _ _,hb2,T0,OS.nil,T0,OS.nil⟩ (fun X rec hrec=>?_);rintro ⟨⟨z0,z1⟩,n⟩ e ds w1 ⟨rfl,e0,e1,e6,e7,g,v0,v1,hfr,hch,hb,r0,o0,r1,o1⟩ hk;have rp:=rp2.ch hch;refine Zf (Z5 (Zo e7 rfl (Zo e0 rfl (Zx (Iz (x0.length:Int)) (Gz (v:=up0) underlying33 rfl rp) rfl (Z9 (.bool (decide (n < (x0.length:Int)))) rfl rfl rfl rfl (Z3 ?_))))));rcases Zt hk with ⟨hc,hk⟩ | ⟨hc,hk⟩
  ·refine G6 hc rfl (Zu (Zd ?_))
   obtain ⟨sh,hsh,hk⟩:=Z1 hk;obtain ⟨c,hcl,hk⟩:=Z1 hk;refine Kw (fun e ds w'=>ds=[]∧e 0=up0∧e 1=.int .u16 x1.toNat∧e 6=.pointer (some ⟨bk,0,none⟩)∧e 7=Iz n∧∃ g' v0 v1 y0 y1,rec ((y0,y1),w64 (n + (1:Int)))=some (a0,a1)∧Fr gI wI g' w'∧Ch g2.m w2 g'.m w'∧HBm 2 g' w' bk (.cells #[v0,v1] 75 (0,0))∧RV g'.m w' y0 v0∧OS 3 g' w' 60 y0 v0∧RV g'.m w' y1 v1∧OS 4 g' w' 60 y1 v1) (fun Q2 hQ2=>?_) (fun e ds w2 hR=>?_)
   ·refine Zr (Z5 (Zo e1 rfl (Zx (Iz (x1.toNat : Int)) (Pi underlying42 underlying3 rfl) rfl (Zo e7 rfl (Zx (.int .u64 (T3 n)) (Jj underlying3 underlying76 rfl) rfl (Zx (Iz sh) (Ox rfl rfl hsh) rfl (Z9 (Iz (Wa .and sh 1)) rfl rfl rfl rfl (Zg (Iz (Wa .and sh 1)) rfl rfl (Z3 (Zs (x := .tmp 34) isAgg60 sizeOf60 (Gx rp hcl) fun vc rc hld => ?_))))))))))
    rcases Zt hk with ⟨hk0,hk⟩ | ⟨hk0,hk⟩
    ·obtain ⟨y, hy, hk⟩ := Z1 hk
     have hk0:Wa .and sh 1=0:=by simpa using hk0
     have hl:=Mb (x:=.tmp 30) isAgg33 hb (o:=0) (c:=v0) rfl;refine Y6 (g:=g) (n:=10) [0,1,2,3,4,5,6,7] [2] [0,1,2,3,4,5,6,7,8,9] rfl Jm (by kernel_rfl) fun wc hx hlt=>(T7 (c:=Iz 0) rfl rfl .plain (Zk (congrArg (Value.int .i64) hk0)) (T7 (c:=Iz 0) rfl rfl .plain (Zk (congrArg (Value.int .i64) hk0)) (T7 (c:=.pointer (some ⟨bk,0,none⟩)) rfl rfl .plain (D5 (i:=0) underlying75 sizeOf33 e6 rfl (.inl rfl)) (C8 (n:=2) (c:=v0) rfl rfl .plain hl rfl rfl (T7 (c:=up0) rfl rfl .plain (Zk e0) (T7 (c:=Iz n) rfl rfl .plain (Zk e7) (T7 (c:=Tb up0 n 5) rfl rfl .plain (Zh (α:=Z2) underlying33 sizeOf60 rfl rp rfl hcl) (Xd (c:=vc) rfl rfl .plain hld rfl (Uk rfl rfl .plain (Z7 (g:=g) 5 (xs:=([c]:List Z2)) (vs:=[vc]) underlying33 sizeOf60 zeroValue60 rfl rfl (.cons rfl .nil) (RVs.cons (rc.ext hx) RVs.nil) rfl rfl fun g3 w3 v3 _ _ r3 hx3 _=>?_))))))))));have hlt3:=hlt.ext hx3;refine ⟨hlt3.toW,?_⟩;refine Uk rfl rfl .plain (T5 (g:=g3) (i:=3) underlying33 Vt rfl rfl ((o0.ext hx).ext hx3) ((r0.ext hx).ext hx3) rfl r3 hy fun g4 w4 v4 hs4 o4 r4 _=>(⟨(hlt3.stp hs4 rfl).toW,?_⟩));refine V6 (Zx (.pointer (some ⟨bk,0,none⟩)) (D5 (i:=0) underlying75 sizeOf33 e6 rfl (.inl rfl)) rfl (Z4 rfl (Yv (c:=v4) sizeOf33 rfl rfl (by obtain ⟨_,_,rfl,_⟩:=Ql r4; rfl) (by simp) (((hb.ext hx).ext hx3).stp hs4 rfl) fun w5 hs5 hb5 _=>(Zb (Tj (hQ2 _ _ _ ⟨rfl,e0,e1,e6,e7,g4,v4,v1,y,z1,hk,(((hfr.ext hx).ext hx3).stp hs4).stp hs5,hch.trans (hx.ch.trans (hx3.ch.trans (hs4.ch.trans hs5.ch))),hb5,r4.stp hs5,o4.stp hs5 rfl,(((r1.ext hx).ext hx3).stp hs4).stp hs5,(((o1.ext hx).ext hx3).stp hs4 rfl).stp hs5 rfl⟩))))))
    ·rcases Zt hk with ⟨hk1, hk⟩ | ⟨_, hk⟩
     ·obtain ⟨y, hy, hk⟩ := Z1 hk
      have hk1:Wa .and sh 1=1:=by simpa using hk1
      have hl:=Mb (x:=.tmp 30) isAgg33 hb (o:=1) (c:=v1) rfl;refine Y6 (g:=g) (n:=10) [0,1,2,3,4,5,6,7] [2] [0,1,2,3,4,5,6,7,8,9] rfl Jm (by kernel_rfl) fun wc hx hlt=>(T7 (c:=Iz 1) rfl rfl .plain (Zk (congrArg (Value.int .i64) hk1)) (T7 (c:=Iz 1) rfl rfl .plain (Zk (congrArg (Value.int .i64) hk1)) (T7 (c:=.pointer (some ⟨bk,1,none⟩)) rfl rfl .plain (D5 (i:=1) underlying75 sizeOf33 e6 rfl (.inr rfl)) (C8 (n:=2) (c:=v1) rfl rfl .plain hl rfl rfl (T7 (c:=up0) rfl rfl .plain (Zk e0) (T7 (c:=Iz n) rfl rfl .plain (Zk e7) (T7 (c:=Tb up0 n 5) rfl rfl .plain (Zh (α:=Z2) underlying33 sizeOf60 rfl rp rfl hcl) (Xd (c:=vc) rfl rfl .plain hld rfl (Uk rfl rfl .plain (Z7 (g:=g) 5 (xs:=([c]:List Z2)) (vs:=[vc]) underlying33 sizeOf60 zeroValue60 rfl rfl (.cons rfl .nil) (RVs.cons (rc.ext hx) RVs.nil) rfl rfl fun g3 w3 v3 _ _ r3 hx3 _=>?_))))))))));have hlt3:=hlt.ext hx3;refine ⟨hlt3.toW,?_⟩;refine Uk rfl rfl .plain (T5 (g:=g3) (i:=4) underlying33 Vt rfl rfl ((o1.ext hx).ext hx3) ((r1.ext hx).ext hx3) rfl r3 hy fun g4 w4 v4 hs4 o4 r4 _=>(⟨(hlt3.stp hs4 rfl).toW,?_⟩));refine V6 (Zx (.pointer (some ⟨bk,1,none⟩)) (D5 (i:=1) underlying75 sizeOf33 e6 rfl (.inr rfl)) rfl (Z4 rfl (Yv (c:=v4) sizeOf33 rfl rfl (by obtain ⟨_,_,rfl,_⟩:=Ql r4; rfl) (by simp) (((hb.ext hx).ext hx3).stp hs4 rfl) fun w5 hs5 hb5 _=>(Zb (Tj (hQ2 _ _ _ ⟨rfl,e0,e1,e6,e7,g4,v0,v4,z0,y,hk,(((hfr.ext hx).ext hx3).stp hs4).stp hs5,hch.trans (hx.ch.trans (hx3.ch.trans (hs4.ch.trans hs5.ch))),hb5,(((r0.ext hx).ext hx3).stp hs4).stp hs5,(((o0.ext hx).ext hx3).stp hs4 rfl).stp hs5 rfl,r4.stp hs5,o4.stp hs5 rfl⟩))))))
     ·cases hk
   ·obtain ⟨rfl, e0, e1, e6, e7, g, v0, v1, y0, y1, hk, hfr, hch, hb, r0, o0, r1, o1⟩ := hR
    refine Za (Zo e7 rfl (Z9 (Iz (w64 (n + (1:Int)))) rfl rfl rfl rfl (Zg (Iz (w64 (n + (1:Int)))) rfl rfl ?_)));exact Z3 (hrec ((y0,y1),w64 (n + 1)) _ _ _ ⟨rfl,e0,e1,e6,rfl,g,v0,v1,hfr,hch,hb,r0,o0,r1,o1⟩ hk)
  ·refine G7 hc rfl (Tn (Gu (Gu (G8 ?_))))
   obtain ⟨rfl,rfl⟩:=Hd hk;exact hQ _ _ _ ⟨rfl,e6,g,v0,v1,hfr,hb,r0,r1⟩
 obtain ⟨rfl,e6,g,v0,v1,hfr,hb,r0,r1⟩:=hR;refine Z5 (Zx (.pointer (some ⟨bk,0,none⟩)) (D5 (i:=0) underlying75 sizeOf33 e6 rfl (.inl rfl)) rfl (Z4 rfl (Ub isAgg33 rfl (hb.cell.trans rfl) (Z4 rfl (Zp (g:=g) (vs:=[v0]) en18 (.cons rfl .nil) (wk18 r0 hra) fun g1 w1 v2 hx1 hv=>?_)))));obtain ⟨y0,y1,y2,rfl,ry0,rfl,rfl⟩:=hv;have hfr:=hfr.ext hx1;refine Zn (.tuple #[y0,Iz ra.2.1,Iz ra.2.2]) rfl rfl (Zx y0 (Zi rfl rfl) rfl (Zx (Iz ra.2.1) (Zi rfl rfl) rfl (Zx (Iz ra.2.2) (Zi rfl rfl) rfl (Zg y0 rfl rfl (Zg (Iz ra.2.1) rfl rfl (Zg (Iz ra.2.2) rfl rfl (Z3 (Z5 ?_))))))));have hb1:=hb.ext hx1;have r11:=r1.ext hx1;refine Zx (.pointer (some ⟨bk,1,none⟩)) (D5 (i:=1) underlying75 sizeOf33 e6 rfl (.inr rfl)) rfl (Z4 rfl (Ub isAgg33 rfl (hb1.cell.trans rfl) (Z4 rfl (Zp (g:=g1) (vs:=[v1]) en18 (.cons rfl .nil) (wk18 r11 hrb) fun g3 w3 v3 hx3 hv=>?_))));obtain ⟨z0,z1,z2,rfl,rz0,rfl,rfl⟩:=hv;have hfr:=hfr.ext hx3;have ry0:=ry0.ext hx3;refine Zn (.tuple #[z0,Iz rb.2.1,Iz rb.2.2]) rfl rfl (Zx z0 (Zi rfl rfl) rfl (Zx (Iz rb.2.1) (Zi rfl rfl) rfl (Zx (Iz rb.2.2) (Zi rfl rfl) rfl (Zg z0 rfl rfl (Zg (Iz rb.2.1) rfl rfl (Zg (Iz rb.2.2) rfl rfl (Z3 (Z5 (Zn z0 rfl rfl (Zn y0 rfl rfl (Z4 rfl (Z7 (g:=g3) 6 (xs:=([rb.1,ra.1]:List (List UInt8))) (vs:=[z0,y0]) underlying39 sizeOf43 zeroValue43 rfl rfl (.cons rfl (.cons rfl .nil)) (RVs.cons rz0 (RVs.cons ry0 RVs.nil)) rfl rfl fun g5 w5 v5 _ o5 r5 hx5 _=>?_))))))))))));have hfr:=hfr.ext hx5;refine Zn (Iz ra.2.2) rfl rfl (Z9 (.bool (ra.2.2 == (0:Int))) rfl rfl rfl rfl (Zn (.bool (ra.2.2 == (0:Int))) rfl rfl ?_));rcases Bool.eq_false_or_eq_true (ra.2.2 == (0:Int)) with hq | hq
 ·refine Zy (Iz rb.2.2) (Zk rfl) rfl rfl hq rfl (Zy (.bool (rb.2.2 == (0 : Int))) (Gk rfl rfl rfl) rfl rfl hq rfl (Zx (.bool (rb.2.2 == (0 : Int))) (Zl (b := ra.2.2 == (0 : Int)) rfl (G4 hq rfl)) rfl (Zg v5 rfl rfl (Zg (.bool (rb.2.2 == (0 : Int))) rfl rfl (Z3 (Ga ?_))))))
  obtain ⟨gz,hxz,oz,rz⟩:=OS.handn (i:=iO) (j:=5) hfr o5 r5;exact Jq rfl rfl rfl rfl ⟨gz,hxz,_,_,rfl,⟨oz,rz⟩,by show Value.bool (rb.2.2 == (0:Int))=Value.bool (bif ra.2.2 == (0:Int) then rb.2.2 == (0:Int) else false); rw [hq]; rfl⟩
 ·refine Zz rfl rfl hq rfl rfl (Zz rfl rfl hq rfl rfl (Zx (.bool false) (Zl (b := ra.2.2 == (0 : Int)) rfl (G5 hq rfl)) rfl (Zg v5 rfl rfl (Zg (.bool false) rfl rfl (Z3 (Ga ?_))))))
  obtain ⟨gz,hxz,oz,rz⟩:=OS.handn (i:=iO) (j:=5) hfr o5 r5;exact Jq rfl rfl rfl rfl ⟨gz,hxz,_,_,rfl,⟨oz,rz⟩,by show Value.bool false=Value.bool (bif ra.2.2 == (0:Int) then rb.2.2 == (0:Int) else false); rw [hq]; rfl⟩

def f21 (x0:Vector UInt8 8):Option (Z2 × Int):=
 (idx (x0).toList (0:Int)).bind fun y3=>
 (Va ((y3).toNat:Int) ((8:Int))).bind fun y6=>
 (idx (x0).toList (1:Int)).bind fun y7=>
 (idx (x0).toList (2:Int)).bind fun g8=>
 (idx (x0).toList (3:Int)).bind fun l8=>
 (idx (x0).toList (4:Int)).bind fun n8=>
 (idx (x0).toList (5:Int)).bind fun v8=>
 (f43 x0).bind fun o0=>
 jn (σ:=Z2) (fun vB=>
  some (vB,(0:Int))
  ) fun k53=>
 Option.bind (α:=Bool) (
  (idx (x0).toList (6:Int)).bind fun n9=>
  bif (o0.1 != n9) then
   some (true)
  else
   (idx (x0).toList (7:Int)).bind fun lB=>
   some ((o0.2 != lB))
  ) fun l9=>
 bif l9 then
  some ((⟨(Wa .or y6 ((y7).toNat:Int)),((g8).toNat:Int),((l8).toNat:Int),((n8).toNat:Int),((v8).toNat:Int)⟩:Z2),(130:Int))
 else
  (f38 ((⟨(Wa .or y6 ((y7).toNat:Int)),((g8).toNat:Int),((l8).toNat:Int),((n8).toNat:Int),((v8).toNat:Int)⟩:Z2))).bind fun yB=>
  bif (!yB) then
   some ((⟨(Wa .or y6 ((y7).toNat:Int)),((g8).toNat:Int),((l8).toNat:Int),((n8).toNat:Int),((v8).toNat:Int)⟩:Z2),(2:Int))
  else
   k53 ((⟨(Wa .or y6 ((y7).toNat:Int)),((g8).toNat:Int),((l8).toNat:Int),((n8).toNat:Int),((v8).toNat:Int)⟩:Z2))
theorem en21:Enters prog 21:=enters_of func21 (by kernel_rfl) rfl
theorem wk21 {gI:Gh} {wI:World} {x0:Vector UInt8 8} {up0:Value} (rp0:RV gI.m wI x0 up0) {r:Z2 × Int} (h:f21 x0=some r):Fn prog 21 #[up0] gI wI (fun m w v=>∃ y0 y1,v=.tuple #[y0,y1]∧RV m w (r.1) y0∧y1=Iz (r.2)):=by
 unfold f21 at h;refine fnE func21 rfl rfl fun g0 hm hfr=>?_;have rp0:=RVc hm rp0;show E _ 50 none _ _ _ _ _;refine Z5 (Z4 rfl (Tv (g:=g0) rfl rp0 fun g1 w1 p1 hs q1=>?_));have hfr:=hfr.ext hs;refine Z4 rfl (G2 (g:=g1) 2002 (⟨0,0,0,0,0⟩:Z2) zeroValue60 (fun m w=>⟨_,(Gb Zw (Gb Zw (Gb Zw (Gb Zw Zw)))),rfl⟩) fun g2 w2 p2 hs b2 cb=>?_);have hfr:=hfr.stp hs;have q1:=q1.stp hs;clear cb;refine Zg (Iz (0)) rfl rfl (Z3 (Z5 ?_));obtain ⟨y3,hy3,h⟩:=Z1 h;refine Zx (Z8 p1 (((0:Int):Int).toNat * 1)) (Tk (α:=UInt8) underlying82 sizeOf5 rfl (PT.ptr q1) rfl hy3) rfl ?_;have q4:=Wo q1 hy3;refine Z4 rfl (Z6 (g:=g2) isAgg5 sizeOf5 rfl q4 fun v5 r5=>?_);obtain rfl:=Qy.1 r5;refine Zx (Iz (((y3).toNat:Int))) (Wy underlying5 underlying3 rfl) rfl ?_;obtain ⟨y6,zE,h⟩:=Z1 h;refine Zx (Iz (y6)) (Ij rfl rfl zE) rfl ?_;obtain ⟨y7,zD,h⟩:=Z1 h;refine Zx (Z8 p1 (((1:Int):Int).toNat * 1)) (Tk (α:=UInt8) underlying82 sizeOf5 rfl (PT.ptr q1) rfl zD) rfl ?_;have q8:=Wo q1 zD;refine Z4 rfl (Z6 (g:=g2) isAgg5 sizeOf5 rfl q8 fun v9 r9=>?_);obtain rfl:=Qy.1 r9;refine Zx (Iz (((y7).toNat:Int))) (Wy underlying5 underlying3 rfl) rfl (Z9 (Iz ((Wa .or y6 ((y7).toNat:Int)))) rfl rfl rfl rfl ?_);obtain ⟨g8,vC,h⟩:=Z1 h;refine Zx (Z8 p1 (((2:Int):Int).toNat * 1)) (Tk (α:=UInt8) underlying82 sizeOf5 rfl (PT.ptr q1) rfl vC) rfl ?_;have cF:=Wo q1 vC;refine Z4 rfl (Z6 (g:=g2) isAgg5 sizeOf5 rfl cF fun jH dF=>?_);obtain rfl:=Qy.1 dF;refine Zx (Iz (((g8).toNat:Int))) (Wy underlying5 underlying3 rfl) rfl ?_;obtain ⟨l8,bD,h⟩:=Z1 h;refine Zx (Z8 p1 (((3:Int):Int).toNat * 1)) (Tk (α:=UInt8) underlying82 sizeOf5 rfl (PT.ptr q1) rfl bD) rfl ?_;have eF:=Wo q1 bD;refine Z4 rfl (Z6 (g:=g2) isAgg5 sizeOf5 rfl eF fun kH rF=>?_);obtain rfl:=Qy.1 rF;refine Zx (Iz (((l8).toNat:Int))) (Wy underlying5 underlying3 rfl) rfl ?_;obtain ⟨n8,cD,h⟩:=Z1 h;refine Zx (Z8 p1 (((4:Int):Int).toNat * 1)) (Tk (α:=UInt8) underlying82 sizeOf5 rfl (PT.ptr q1) rfl cD) rfl ?_;have sF:=Wo q1 cD;refine Z4 rfl (Z6 (g:=g2) isAgg5 sizeOf5 rfl sF fun lH tF=>?_);obtain rfl:=Qy.1 tF;refine Zx (Iz (((n8).toNat:Int))) (Wy underlying5 underlying3 rfl) rfl ?_;obtain ⟨v8,lD,h⟩:=Z1 h;refine Zx (Z8 p1 (((5:Int):Int).toNat * 1)) (Tk (α:=UInt8) underlying82 sizeOf5 rfl (PT.ptr q1) rfl lD) rfl ?_;have uF:=Wo q1 lD;refine Z4 rfl (Z6 (g:=g2) isAgg5 sizeOf5 rfl uF fun mH vF=>?_);obtain rfl:=Qy.1 vF;refine Zx (Iz (((v8).toNat:Int))) (Wy underlying5 underlying3 rfl) rfl ?_;have aE:RV g2.m w2 (⟨(Wa .or y6 ((y7).toNat:Int)),((g8).toNat:Int),((l8).toNat:Int),((n8).toNat:Int),((v8).toNat:Int)⟩:Z2) (.agg (Td [[Iz 0],[Iz 0],[Iz 0],[Iz 0],[Iz 0]] [(0,Iz ((Wa .or y6 ((y7).toNat:Int)))),(1,Iz (((g8).toNat:Int))),(2,Iz (((l8).toNat:Int))),(3,Iz (((n8).toNat:Int))),(4,Iz (((v8).toNat:Int)))]).flatten.toArray):=Tc rfl (Gm (rfl) (Gm (rfl) (Gm (rfl) (Gm (rfl) (Tf (rfl))))));generalize mE:(Value.agg (Td [[Iz 0],[Iz 0],[Iz 0],[Iz 0],[Iz 0]] [(0,Iz ((Wa .or y6 ((y7).toNat:Int)))),(1,Iz (((g8).toNat:Int))),(2,Iz (((l8).toNat:Int))),(3,Iz (((n8).toNat:Int))),(4,Iz (((v8).toNat:Int)))]).flatten.toArray)=bE at aE;refine Zx bE (mE ▸ Tu (vs:=[(0,Iz ((Wa .or y6 ((y7).toNat:Int)))),(1,Iz (((g8).toNat:Int))),(2,Iz (((l8).toNat:Int))),(3,Iz (((n8).toNat:Int))),(4,Iz (((v8).toNat:Int)))]) [[Iz 0],[Iz 0],[Iz 0],[Iz 0],[Iz 0]] Px rfl rfl (.cons rfl (.cons rfl (.cons rfl (.cons rfl (.cons rfl .nil))))) ⟨⟨_,rfl,rfl⟩,⟨⟨_,rfl,rfl⟩,⟨⟨_,rfl,rfl⟩,⟨⟨_,rfl,rfl⟩,⟨⟨_,rfl,rfl⟩,trivial⟩⟩⟩⟩⟩) rfl (Z4 rfl (Gg (g:=g2) (v:=bE) sizeOf60 rfl b2 rfl aE fun iE nH hs b23 cb=>?_));clear cb;have hfr:=hfr.stp hs;have q1:=q1.stp hs;refine Z3 (Z5 (Z4 rfl (Z6 (g:=iE) isAgg82 sizeOf82 rfl q1 fun xF yF=>?_)));obtain ⟨o0,oE,h⟩:=Z1 h;refine Z4 rfl (Zp (g:=iE) (vs:=[xF]) en43 (.cons rfl .nil) (wk43 yF oE) fun zB zG oH hs hr=>?_);have hfr:=hfr.ext hs;have q1:=q1.ext hs;have b23:=b23.ext hs;obtain ⟨xG,yG,rfl,rfl,rfl⟩:=hr
 refine Zn (.tuple #[.int .u8 (UInt8.toNat (o0.1)),.int .u8 (UInt8.toNat (o0.2))]) rfl rfl (Zx (.int .u8 (UInt8.toNat (o0.1))) (Zi rfl rfl) rfl (Zx (.int .u8 (UInt8.toNat (o0.2))) (Zi rfl rfl) rfl (Zg (.int .u8 (UInt8.toNat (o0.1))) rfl rfl (Zg (.int .u8 (UInt8.toNat (o0.2))) rfl rfl (Z3 (Zq h (fun (s:Z2) e w=>∃ (g:Gh) ,Fr gI wI g w∧e 2=p2∧OB 2002 g w 60 (s:Z2) p2) (fun X53 k53 rE h=>?_) ?_))))))
 ·refine Zr ?_
  obtain ⟨l9,hx,h⟩:=Z1 h;refine Gl (fun e w=>∃ (g:Gh) ,Fr gI wI g w∧e 2=p2∧OB 2002 g w 60 ((⟨(Wa .or y6 ((y7).toNat:Int)),((g8).toNat:Int),((l8).toNat:Int),((n8).toNat:Int),((v8).toNat:Int)⟩:Z2):Z2) p2∧e 32=.bool (l9)) (fun Q' hQ=>?_) (fun aH pH hR=>?_)
  ·replace h := hx
   clear hx;refine Za (Zn (.int .u8 (UInt8.toNat (o0.1))) rfl rfl ?_);obtain ⟨n9,nD,h⟩:=Z1 h;refine Zx (Z8 p1 (((6:Int):Int).toNat * 1)) (Tk (α:=UInt8) underlying82 sizeOf5 rfl (PT.ptr q1) rfl nD) rfl ?_;have q62:=Wo q1 nD;refine Z4 rfl (Z6 (g:=zB) isAgg5 sizeOf5 rfl q62 fun qH aG=>?_);obtain rfl:=Qy.1 aG;refine Zx (.bool ((o0.1 != n9))) (P_u8 rfl rfl rfl) rfl (Zn (.bool ((o0.1 != n9))) rfl rfl ?_);rcases Zt h with ⟨i6,h⟩ | ⟨i6,h⟩
   ·refine Zz rfl rfl i6 rfl rfl ?_
    iterate 3 refine Zz rfl rfl i6 rfl rfl ?_
    refine Zx (.bool true) (Zl (b:=(o0.1 != n9)) rfl (G4 i6 rfl)) rfl (Zg (.bool true) rfl rfl (Zb ?_));obtain rfl:=sinj h;exact hQ _ _ ⟨zB,hfr,rfl,b23,rfl⟩
   ·refine Zy (.int .u8 (UInt8.toNat (o0.2))) (Zk rfl) rfl rfl i6 rfl ?_
    obtain ⟨lB,oD,h⟩:=Z1 h;refine Zy (Z8 p1 (((7:Int):Int).toNat * 1)) (Tk (α:=UInt8) underlying82 sizeOf5 rfl (PT.ptr q1) rfl oD) rfl rfl i6 rfl ?_;have bG:=Wo q1 oD;refine Ze (.yes2 rfl rfl i6) rfl (Z6 (g:=zB) isAgg5 sizeOf5 rfl bG fun sH cG=>?_);obtain rfl:=Qy.1 cG;refine Zy (.bool ((o0.2 != lB))) (P_u8 rfl rfl rfl) rfl rfl i6 rfl (Zx (.bool ((o0.2 != lB))) (Zl (b:=(o0.1 != n9)) rfl (G5 i6 rfl)) rfl (Zg (.bool ((o0.2 != lB))) rfl rfl (Zb ?_)));obtain rfl:=sinj h;exact hQ _ _ ⟨zB,hfr,rfl,b23,rfl⟩
  ·clear hx
   obtain ⟨cC,hfr,l5,t5,mB⟩:=hR;rcases Zt h with ⟨nB,h⟩ | ⟨nB,h⟩
   ·refine Ta (Eq.trans (show ev _ _ = .bool (l9) from mB) (congrArg Value.bool nB)) (Z5 (Z4 rfl (Tp (g := cC) isAgg60 sizeOf60 l5 t5 fun eG gG => (Z4 rfl (Gg (g := cC) (v := eG) sizeOf60 l5 t5 rfl gG fun tH uH hs b72 cb => ?_)))))
    clear cb;have hfr:=hfr.stp hs;refine Zg (Iz (130)) rfl rfl (Z3 (Ga (Tl (Gp ?_))));obtain rfl:=sinj h;obtain ⟨ad73,cv73,hp73,uE,cr73⟩:=T9 isAgg60 sizeOf60 b72;exact Wm rfl rfl ((show _=p2 from l5).trans hp73) uE (show _=Iz (130) from rfl) ⟨_,hfr,_,_,rfl,cr73,rfl⟩
   ·refine Gs (Eq.trans (show ev _ _ = .bool (l9) from mB) (congrArg Value.bool nB)) (Z5 (Z4 rfl (Tp (g := cC) isAgg60 sizeOf60 l5 t5 fun iG jG => ?_)))
    obtain ⟨yB,vE,h⟩:=Z1 h;refine Z4 rfl (Zp (g:=cC) (vs:=[iG]) en38 (.cons rfl .nil) (wk38 jG vE) fun yD cH xH hs hr=>?_);have hfr:=hfr.ext hs;have t5:=t5.ext hs;subst hr;refine Zx (.bool (!yB)) (Qm rfl) rfl (Zg (.bool (!yB)) rfl rfl (Z3 ?_));rcases Zt h with ⟨oB,h⟩ | ⟨oB,h⟩
    ·refine G6 oB rfl (Z5 (Z4 rfl (Tp (g := yD) isAgg60 sizeOf60 l5 t5 fun kG lG => (Z4 rfl (Gg (g := yD) (v := kG) sizeOf60 l5 t5 rfl lG fun yH zH hs b79 cb => ?_)))))
     clear cb;have hfr:=hfr.stp hs;refine Zg (Iz (2)) rfl rfl (Z3 (Ga (Tl (Gp ?_))));obtain rfl:=sinj h;obtain ⟨ad80,cv80,hp80,xE,cr80⟩:=T9 isAgg60 sizeOf60 b79;exact Wm rfl rfl ((show _=p2 from l5).trans hp80) xE (show _=Iz (2) from rfl) ⟨_,hfr,_,_,rfl,cr80,rfl⟩
    ·refine G7 oB rfl ?_
     exact Zu (Tj (Zd (rE ((⟨(Wa .or y6 ((y7).toNat:Int)),((g8).toNat:Int),((l8).toNat:Int),((n8).toNat:Int),((v8).toNat:Int)⟩:Z2)) _ _ ⟨yD,hfr,l5,t5⟩ h)))
 ·rintro vB gH aI ⟨lE, hfr, aB, uC⟩ h
  refine Z5 (Z4 rfl (Tp (g:=lE) isAgg60 sizeOf60 aB uC fun mG sG=>(Z4 rfl (Gg (g:=lE) (v:=mG) sizeOf60 aB uC rfl sG fun bI dI hs b83 cb=>?_))));clear cb;have hfr:=hfr.stp hs;refine Zg (Iz (0)) rfl rfl (Z3 (Ga ?_));obtain rfl:=sinj h;obtain ⟨ad84,cv84,hp84,yE,cr84⟩:=T9 isAgg60 sizeOf60 b83;exact Wm rfl rfl ((show _=p2 from aB).trans hp84) yE (show _=Iz (0) from rfl) ⟨_,hfr,_,_,rfl,cr84,rfl⟩
def f26 (x0:PayList):Option (Int):=
 jn (σ:=Unit) (fun _=>
  some ((0:Int))
  ) fun nD=>
 Option.bind (α:=Bool) (
  bif (decide ((((x0).Rates).length : Int) > (6 : Int))) then
   some ((decide ((((x0).Rates).length:Int) > (6:Int))))
  else
   some ((decide ((((x0).Extras).length:Int) > (8:Int))))
  ) fun t5=>
 bif t5 then
  some ((5:Int))
 else
  Option.bind (α:=Bool) (
   (f60 ((⟨x0⟩:Gy))).bind fun lB=>
   bif (!lB) then
    some ((!lB))
   else
    (f61 ((x0).Extras)).bind fun g8=>
    bif (!g8) then
     some ((!g8))
    else
     (f62 ((0:Int)) ((1000:Int)) (([(x0).Fine]:List Int))).bind fun l8=>
     bif (!l8) then
      some ((!l8))
     else
      (f61 (([(x0).Cap]:List Int))).bind fun v8=>
      some ((!v8))
   ) fun l5=>
  bif l5 then
   some ((2:Int))
  else
   nD ()
theorem en26:Enters prog 26:=enters_of func26 (by kernel_rfl) rfl
theorem wk26 {gI:Gh} {wI:World} {x0:PayList} {up0:Value} (rp0:RV gI.m wI x0 up0) {r:Int} (h:f26 x0=some r):Fn prog 26 #[up0] gI wI (fun _ _ v=>v=Iz (r)):=by
 unfold f26 at h;refine fnE func26 rfl rfl fun g0 hm hfr=>?_;have rp0:=RVc hm rp0;show E _ 31 none _ _ _ _ _;refine Z5 (Z4 rfl (Tv (g:=g0) rfl rp0 fun g1 w1 p1 hs q1=>?_));have hfr:=hfr.ext hs;refine Zg (Iz (0)) rfl rfl (Z3 (Zq h (fun (s:Unit) e w=>∃ (g:Gh) ,Fr gI wI g w) (fun X58 nD aE h=>?_) ?_))
 ·refine Zr ?_
  obtain ⟨t5,hx,h⟩:=Z1 h;refine Gl (fun e w=>∃ (g:Gh) ,Fr gI wI g w∧e 1=p1∧PT g.m w (x0:PayList) p1∧e 3=.bool (t5)) (fun Q' hQ=>?_) (fun iG jH hR=>?_)
  ·replace h := hx
   clear hx;refine Z5 (Zx (Z8 p1 0) (Zc Y7 rfl (PT.ptr q1)) rfl ?_);have rF:=Zm (Wx).1 q1;refine Z4 rfl (Z6 (g:=g1) isAgg35 sizeOf35 rfl rF fun kH sF=>(Zx (Iz (((x0).Rates).length:Int)) (Gz underlying35 rfl sF) rfl (Zx (.bool ((decide ((((x0).Rates).length:Int) > (6:Int))))) (Gk rfl rfl rfl) rfl (Zx (.bool ((decide ((((x0).Rates).length:Int) > (6:Int))))) (Te rfl) rfl (Z3 ?_)))));rcases Zt h with ⟨mB,h⟩ | ⟨mB,h⟩
   ·refine G6 mB rfl (Zu ?_)
    obtain rfl:=sinj h;exact hQ _ _ ⟨g1,hfr,rfl,q1,rfl⟩
   ·refine G7 mB rfl (Za (Zx (Z8 p1 1) (Zc Vv rfl (PT.ptr q1)) rfl ?_))
    have tF:=Zm (Kg).1 q1;refine Z4 rfl (Z6 (g:=g1) isAgg25 sizeOf25 rfl tF fun lH uF=>(Zx (Iz (((x0).Extras).length:Int)) (Gz underlying25 rfl uF) rfl (Zx (.bool ((decide ((((x0).Extras).length:Int) > (8:Int))))) (Gk rfl rfl rfl) rfl (Zx (.bool ((decide ((((x0).Extras).length:Int) > (8:Int))))) (Te rfl) rfl (Zb ?_)))));obtain rfl:=sinj h;exact hQ _ _ ⟨g1,hfr,rfl,q1,rfl⟩
  ·clear hx
   obtain ⟨cC,hfr,i6,o0,zB⟩:=hR;rcases Zt h with ⟨nB,h⟩ | ⟨nB,h⟩
   ·refine Ta (Eq.trans (show ev _ _ = .bool (t5) from zB) (congrArg Value.bool nB)) (Z5 (Zg (Iz (5)) rfl rfl (Z3 (Ga (Tl (Gp ?_))))))
    obtain rfl:=sinj h;exact Tg rfl rfl (rq (Iz (5))) ⟨_,hfr,rfl⟩
   ·refine Gs (Eq.trans (show ev _ _ = .bool (t5) from zB) (congrArg Value.bool nB)) ?_
    obtain ⟨l5,hx,h⟩:=Z1 h;refine Gl (fun e w=>∃ (g:Gh) ,Fr gI wI g w∧e 12=.bool (l5)) (fun Q' hQ=>?_) (fun aG jG hR=>?_)
    ·replace h := hx
     clear hx;refine Z5 (Z4 rfl (Z6 (g:=cC) isAgg37 sizeOf37 i6 o0 fun uC oD=>?_));have yD:RV cC.m _ (⟨x0⟩:Gy) (.agg (Td [[.slice none 0 0,.slice none 0 0,Iz 0,Iz 0]] [(0,uC)]).flatten.toArray):=Tc rfl (Tf (RV.cells oD));generalize bE:(Value.agg (Td [[.slice none 0 0,.slice none 0 0,Iz 0,Iz 0]] [(0,uC)]).flatten.toArray)=zD at yD;refine Zx zD (bE ▸ Tu (vs:=[(0,uC)]) [[.slice none 0 0,.slice none 0 0,Iz 0,Iz 0]] B4 rfl rfl (.cons rfl .nil) ⟨⟨_,rfl,Ti oD⟩,trivial⟩) rfl ?_;obtain ⟨lB,iE,h⟩:=Z1 h;refine Z4 rfl (Zp (g:=cC) (vs:=[zD]) en60 (.cons rfl .nil) (wk60 yD iE) fun vC kG mH hs hr=>?_);have hfr:=hfr.ext hs;have o0:=o0.ext hs;subst hr;refine Zx (.bool (!lB)) (Qm rfl) rfl (Zg (.bool (!lB)) rfl rfl (Z3 ?_));rcases Zt h with ⟨oB,h⟩ | ⟨oB,h⟩
     ·refine G6 oB rfl (Zu ?_)
      obtain rfl:=sinj h;exact hQ _ _ ⟨vC,hfr,rfl⟩
     ·refine G7 oB rfl (Z5 (Zx (Z8 p1 1) (Zc Vv i6 (PT.ptr o0)) rfl ?_))
      have vF:=Zm (Kg).1 o0;refine Z4 rfl (Z6 (g:=vC) isAgg25 sizeOf25 rfl vF fun xF yF=>?_);obtain ⟨g8,bD,h⟩:=Z1 h;refine Z4 rfl (Zp (g:=vC) (vs:=[xF]) en61 (.cons rfl .nil) (wk61 yF bD) fun vB bG lG hs hr=>?_);have hfr:=hfr.ext hs;have o0:=o0.ext hs;subst hr;refine Zx (.bool (!g8)) (Qm rfl) rfl (Zg (.bool (!g8)) rfl rfl (Z3 ?_));rcases Zt h with ⟨l9,h⟩ | ⟨l9,h⟩
      ·refine G6 l9 rfl (Zu ?_)
       obtain rfl:=sinj h;exact hQ _ _ ⟨vB,hfr,rfl⟩
      ·refine G7 l9 rfl (Z5 (Zx (Z8 p1 2) (Zc Mw i6 (PT.ptr o0)) rfl ?_))
       have lE:=Zm (U7).1 o0;refine Z4 rfl (Z6 (g:=vB) isAgg3 sizeOf3 rfl lE fun mG mE=>?_);obtain rfl:=Zj.1 mE;refine Z4 rfl (Z7 (g:=vB) 3023 (xs:=([(x0).Fine]:List Int)) (vs:=[Iz ((x0).Fine)]) underlying25 sizeOf3 zeroValue3 rfl rfl (.cons rfl .nil) (RVs.cons (Zj.2 rfl) RVs.nil) rfl rfl fun oE sG rE hs o105 uE hxt hfl=>?_);have hfr:=hfr.stp hs;have o0:=o0.stp hs;obtain ⟨l8,cD,h⟩:=Z1 h;refine Z4 rfl (Zp (g:=oE) (vs:=[Iz (0),Iz (1000),rE]) en62 (.cons rfl (.cons rfl (.cons rfl .nil))) (wk62 uE cD) fun yB cG xG hs hr=>?_);have hfr:=hfr.ext hs;have o0:=o0.ext hs;subst hr;refine Zx (.bool (!l8)) (Qm rfl) rfl (Zg (.bool (!l8)) rfl rfl (Z3 ?_));rcases Zt h with ⟨n9,h⟩ | ⟨n9,h⟩
       ·refine G6 n9 rfl (Zu ?_)
        obtain rfl:=sinj h;exact hQ _ _ ⟨yB,hfr,rfl⟩
       ·refine G7 n9 rfl (Za (Zx (Z8 p1 3) (Zc Mq i6 (PT.ptr o0)) rfl ?_))
        have vE:=Zm (Vf).1 o0;refine Z4 rfl (Z6 (g:=yB) isAgg3 sizeOf3 rfl vE fun yG xE=>?_);obtain rfl:=Zj.1 xE;refine Z4 rfl (Z7 (g:=yB) 3028 (xs:=([(x0).Cap]:List Int)) (vs:=[Iz ((x0).Cap)]) underlying25 sizeOf3 zeroValue3 rfl rfl (.cons rfl .nil) (RVs.cons (Zj.2 rfl) RVs.nil) rfl rfl fun yE zG zE hs o111 cF hxt hfl=>?_);have hfr:=hfr.stp hs;obtain ⟨v8,lD,h⟩:=Z1 h;refine Z4 rfl (Zp (g:=yE) (vs:=[zE]) en61 (.cons rfl .nil) (wk61 cF lD) fun dF eG aH hs hr=>?_);have hfr:=hfr.ext hs;subst hr;refine Zx (.bool (!v8)) (Qm rfl) rfl (Zg (.bool (!v8)) rfl rfl (Zb ?_));obtain rfl:=sinj h;exact hQ _ _ ⟨dF,hfr,rfl⟩
    ·clear hx
     obtain ⟨eF,hfr,n8⟩:=hR;rcases Zt h with ⟨aB,h⟩ | ⟨aB,h⟩
     ·refine Ta (Eq.trans (show ev _ _ = .bool (l5) from n8) (congrArg Value.bool aB)) (Z5 (Zg (Iz (2)) rfl rfl (Z3 (Ga (Tl (Gp ?_))))))
      obtain rfl:=sinj h;exact Tg rfl rfl (rq (Iz (2))) ⟨_,hfr,rfl⟩
     ·refine Gs (Eq.trans (show ev _ _ = .bool (l5) from n8) (congrArg Value.bool aB)) ?_
      exact Zu (Tj (Zd (aE () _ _ ⟨eF,hfr⟩ h)))
 ·rintro _ gG cH ⟨gH, hfr⟩ h
  refine Z5 (Zg (Iz (0)) rfl rfl (Z3 (Ga ?_)));obtain rfl:=sinj h;exact Tg rfl rfl (rq (Iz (0))) ⟨_,hfr,rfl⟩
def f28 (x0:Gy) (x1:Gf) (x2:Int):Option (Int):=
 (f31 x0 x1).bind fun y6=>
 (f32 x0 y6 x2).bind fun y9=>
 some ((w64 (y6 - y9)))
theorem en28:Enters prog 28:=enters_of func28 (by kernel_rfl) rfl
theorem wk28 {gI:Gh} {wI:World} {x0:Gy} {x1:Gf} {x2:Int} {up0:Value} (rp0:RV gI.m wI x0 up0) {up1:Value} (rp1:RV gI.m wI x1 up1) {r:Int} (h:f28 x0 x1 x2=some r):Fn prog 28 #[up0,up1,Iz (x2)] gI wI (fun _ _ v=>v=Iz (r)):=by
 unfold f28 at h;refine fnE func28 rfl rfl fun g0 hm hfr=>?_;have rp0:=RVc hm rp0;have rp1:=RVc hm rp1;show E _ 17 none _ _ _ _ _;refine Z5 (Z4 rfl (Tv (g:=g0) rfl rp0 fun g1 w1 p1 hs q1=>?_));have hfr:=hfr.ext hs;have rp1:=rp1.ext hs;refine Z4 rfl (Tv (g:=g1) rfl rp1 fun g2 w2 p2 hs q2=>?_);have hfr:=hfr.ext hs;have q1:=q1.ext hs;refine Zg (Iz (0)) rfl rfl (Z3 (Z5 (Z4 rfl (Z6 (g:=g2) isAgg105 sizeOf105 rfl q1 fun v3 r3=>(Z4 rfl (Z6 (g:=g2) isAgg62 sizeOf62 rfl q2 fun v4 r4=>?_))))));obtain ⟨y6,o0,h⟩:=Z1 h;refine Z4 rfl (Zp (g:=g2) (vs:=[v3,v4]) en31 (.cons rfl (.cons rfl .nil)) (wk31 r3 r4 o0) fun g5 w5_ v5 hs hr=>?_);have hfr:=hfr.ext hs;have q1:=q1.ext hs;subst hr;refine Zg (Iz (y6)) rfl rfl (Z3 (Z5 (Zn (Iz (y6)) rfl rfl (Z4 rfl (Z6 (g:=g5) isAgg105 sizeOf105 rfl q1 fun v7 r7=>(Zn (Iz (y6)) rfl rfl (Zn (Iz (x2)) rfl rfl ?_)))))));obtain ⟨y9,l5,h⟩:=Z1 h;refine Z4 rfl (Zp (g:=g5) (vs:=[v7,Iz (y6),Iz (x2)]) en32 (.cons rfl (.cons rfl (.cons rfl .nil))) (wk32 r7 l5) fun g8 w8_ v8 hs hr=>?_);have hfr:=hfr.ext hs;subst hr;refine Z9 (Iz ((w64 (y6 - y9)))) rfl rfl rfl rfl (Zg (Iz ((w64 (y6 - y9)))) rfl rfl (Z3 (Ga ?_)));obtain rfl:=sinj h;exact Tg rfl rfl (rq (Iz ((w64 (y6 - y9))))) ⟨_,hfr,rfl⟩
def f37 (x0:List UInt8):Option ((List Z2) × Int):=
 jn (σ:=Unit) (fun _=>
  (C6 8 x0).bind fun y5=>
  jn (σ:=Unit) (fun _=>
   Option.bind (α:=(List Z2)) (
    lp (σ:=(List Z2) × Int) (fun dF (yB,l5)=>
     bif (decide (l5 < (8 : Int))) then
      Option.bind (α:=(List Z2)) (
       lp (σ:=(List Z2) × Int) (fun eF (lB,l8)=>
        bif (decide (l8 < (256 : Int))) then
         Option.bind (α:=(List Z2)) (
          (idx (y5).toList l5).bind fun qH=>
          (f21 ((Fz y5 l5 ((u8w l8))))).bind fun v8=>
          bif (v8.2 == (0 : Int)) then
           (apnd 40 lB (([v8.1]:List Z2))).bind fun rF=>
           some (rF)
          else
           some (lB)
          ) fun l9=>
         eF (l9,(w64 (l8 + (1:Int))))
        else
         some (lB)
        ) big (yB,(0:Int))
       ) fun n9=>
      dF (n9,(w64 (l5 + (1:Int))))
     else
      some (yB)
     ) big ([],(0:Int))
    ) fun mB=>
   some (mB,(0:Int))
   ) fun pH=>
  (f21 y5).bind fun zB=>
  bif (zB.2 == (0 : Int)) then
   some ([],(6:Int))
  else
   pH ()
  ) fun k2=>
 bif (((x0).length : Int) != (8 : Int)) then
  some ([],(4:Int))
 else
  k2 ()
theorem en37:Enters prog 37:=enters_of func37 (by kernel_rfl) rfl
theorem wk37 {gI:Gh} {wI:World} {x0:List UInt8} {up0:Value} (rp0:RV gI.m wI x0 up0) {r:(List Z2) × Int} (h:f37 x0=some r):Fn prog 37 #[up0] gI wI (fun m w v=>∃ y0 y1,v=.tuple #[y0,y1]∧RV m w (r.1) y0∧y1=Iz (r.2)):=by
 unfold f37 at h;refine fnE func37 rfl rfl fun g0 hm hfr=>?_;have rp0:=RVc hm rp0;show E _ 50 none _ _ _ _ _;refine Z5 (Zg (.slice none 0 0) rfl rfl (Zg (Iz (0)) rfl rfl (Z3 (Zq h (fun (s:Unit) e w=>∃ (g:Gh) ,Fr gI wI g w∧e 0=up0∧RV g.m w (x0:List UInt8) up0∧e 2=.slice none 0 0∧RV g.m w ([]:List Z2) (Value.slice none 0 0)) (fun X2 k2 hk2 h=>?_) ?_))))
 ·refine Z5 (Zn up0 rfl rfl (Zx (Iz ((x0).length : Int)) (Gz underlying43 rfl rp0) rfl (Z9 (.bool ((((x0).length : Int) != (8 : Int)))) rfl rfl rfl rfl (Z3 ?_))))
  rcases Zt h with ⟨hc3,h⟩ | ⟨hc3,h⟩
  ·refine G6 hc3 rfl (Z5 (Zg (.slice none 0 0) rfl rfl (Zg (Iz (4)) rfl rfl (Z3 (Ga (Gp ?_))))))
   obtain rfl:=sinj h;exact Jq rfl rfl (rq (.slice none 0 0)) (rq (Iz (4))) ⟨_,hfr,_,_,rfl,T0,rfl⟩
  ·refine G7 hc3 rfl ?_
   exact Zu (Zd (hk2 () _ _ ⟨g0,hfr,rfl,rp0,rfl,T0⟩ h))
 ·rintro _ iL w4 ⟨g4, hfr, sH, sF, tH, n8⟩ h
  refine Z5 (Zo sH rfl ?_);obtain ⟨y5,hy5,h⟩:=Z1 h;have q6:=L1 sF hy5;refine Zx ((I9 up0)) (Ms underlying82 rfl sF hy5) rfl (Z4 rfl (Z6 (g:=g4) isAgg82 sizeOf82 rfl q6 fun v7 r7=>(Z4 rfl (G2 (g:=g4) 2004 ((⟨List.toArray [0,0,0,0,0,0,0,0],rfl⟩:Vector UInt8 8):Vector UInt8 8) zeroValue82 (fun m w=>⟨_,(Jt (Zv Qd (Zv Qd (Zv Qd (Zv Qd (Zv Qd (Zv Qd (Zv Qd (Zv Qd Jd)))))))) rfl),rfl⟩) fun g8 w8 p8 hs b8 cb=>?_))));have hfr:=hfr.stp hs;have n8:=n8.stp hs;have r7:=r7.stp hs;clear cb;refine Z4 rfl (Gg (g:=g8) (v:=v7) sizeOf82 rfl b8 rfl r7 fun g9 w9 hs b9 cb=>?_);clear cb;have hfr:=hfr.stp hs;have n8:=n8.stp hs;refine Z3 (Zq h (fun (s:Unit) e w=>∃ (g:Gh) ,Fr gI wI g w∧e 2=.slice none 0 0∧RV g.m w ([]:List Z2) (Value.slice none 0 0)∧e 4=p8∧OB 2004 g w 82 (y5:Vector UInt8 8) p8) (fun X16 pH uH h=>?_) ?_)
  ·refine Z5 (Z4 rfl (Tp (g := g9) isAgg82 sizeOf82 rfl b9 fun lJ mJ => ?_))
   obtain ⟨zB,xH,h⟩:=Z1 h;refine Z4 rfl (Zp (g:=g9) (vs:=[lJ]) en21 (.cons rfl .nil) (wk21 mJ xH) fun nJ lK jL hs hr=>?_);have hfr:=hfr.ext hs;have n8:=n8.ext hs;have b9:=b9.ext hs;obtain ⟨cD,vJ,rfl,lD,rfl⟩:=hr;refine Zn (.tuple #[cD,Iz (zB.2)]) rfl rfl (Zx cD (Zi rfl rfl) rfl (Zx (Iz (zB.2)) (Zi rfl rfl) rfl (Z4 rfl (G2 (g:=nJ) 2005 (⟨0,0,0,0,0⟩:Z2) zeroValue60 (fun m w=>⟨_,(Gb Zw (Gb Zw (Gb Zw (Gb Zw Zw)))),rfl⟩) fun oJ lL mL hs b20 cb=>?_))));have hfr:=hfr.stp hs;have n8:=n8.stp hs;have b9:=b9.stp hs rfl;have lD:=lD.stp hs;clear cb;refine Z4 rfl (Gg (g:=oJ) (v:=cD) sizeOf60 rfl b20 rfl lD fun pJ nL hs b21 cb=>?_);clear cb;have hfr:=hfr.stp hs;have n8:=n8.stp hs;have b9:=b9.stp hs rfl;refine Zg (Iz (zB.2)) rfl rfl (Z3 (Z5 (Zn (Iz (zB.2)) rfl rfl (Z9 (.bool ((zB.2 == (0:Int)))) rfl rfl rfl rfl (Z3 ?_)))));rcases Zt h with ⟨oE,h⟩ | ⟨oE,h⟩
   ·refine G6 oE rfl (Z5 (Zg (.slice none 0 0) rfl rfl (Zg (Iz (6)) rfl rfl (Z3 (Ga (Gp ?_))))))
    obtain rfl:=sinj h;exact Jq rfl rfl (rq (.slice none 0 0)) (rq (Iz (6))) ⟨_,hfr,_,_,rfl,T0,rfl⟩
   ·refine G7 oE rfl ?_
    exact Zu (Zd (uH () _ _ ⟨pJ,hfr,tH,n8,rfl,b9⟩ h))
  ·rintro _ mK oL ⟨qJ, hfr, cH, gH, jH, kH⟩ h
   obtain ⟨mB,hx,h⟩:=Z1 h;refine Gl (fun e w=>∃ (g:Gh) (v2:Value),Fr gI wI g w∧e 2=v2∧RV g.m w (mB:List Z2) v2∧OS 1002 g w 60 (mB:List Z2) v2) (fun Q' hQ=>?_) (fun xJ nK hR=>?_)
   ·replace h := hx
    clear hx;refine Z5 (Zn (Iz (0)) rfl rfl (Z3 (Zr (Q0 h (fun (s:(List Z2) × Int) e w=>∃ (g:Gh) (v2:Value),Fr gI wI g w∧e 2=v2∧RV g.m w (s.1:List Z2) v2∧OS 1002 g w 60 (s.1:List Z2) v2∧e 4=p8∧OB 2004 g w 82 (y5:Vector UInt8 8) p8∧e 25=Iz (s.2)) ⟨qJ,(.slice none 0 0),hfr,cH,gH,OS.nil,jH,kH,rfl⟩ (fun X101 dF lH=>?_)))));rintro ⟨yB,l5⟩ zJ oK ⟨tF,zD,hfr,aE,bE,iE,uF,vF,oB⟩ h;refine Z5 (Z9 (.bool ((decide (l5 < (8:Int))))) oB rfl rfl rfl (Z3 (Zf ?_)));rcases Zt h with ⟨nD,h⟩ | ⟨nD,h⟩
    ·refine G6 nD rfl (Zu (Zd ?_))
     obtain ⟨n9,hx,h⟩:=Z1 h;refine Gl (fun e w=>∃ (g:Gh) (v2:Value),Fr gI wI g w∧e 2=v2∧RV g.m w (n9:List Z2) v2∧OS 1002 g w 60 (n9:List Z2) v2∧e 4=p8∧OB 2004 g w 82 (y5:Vector UInt8 8) p8∧e 25=Iz (l5)) (fun Q' hQ=>?_) (fun aK pK hR=>?_)
     ·replace h := hx
      clear hx;refine Zr (Z5 (Zo oB rfl (Zg (Iz (l5)) rfl rfl (Z3 (Z5 (Zn (Iz (0)) rfl rfl (Z3 (Zr (Q0 h (fun (s:(List Z2) × Int) e w=>∃ (g:Gh) (v2:Value),Fr gI wI g w∧e 2=v2∧RV g.m w (s.1:List Z2) v2∧OS 1002 g w 60 (s.1:List Z2) v2∧e 4=p8∧OB 2004 g w 82 (y5:Vector UInt8 8) p8∧e 7=Iz (l5)∧e 25=Iz (l5)∧e 28=Iz (s.2)) ⟨tF,(zD),hfr,aE,bE,iE,uF,vF,rfl,oB,rfl⟩ (fun X140 eF mH=>?_))))))))));rintro ⟨lB,l8⟩ bK qK ⟨rE,lE,hfr,cC,t5,i6,nB,o0,uC,vB,aB⟩ h;refine Z5 (Z9 (.bool ((decide (l8 < (256:Int))))) aB rfl rfl rfl (Z3 (Zf ?_)));rcases Zt h with ⟨oD,h⟩ | ⟨oD,h⟩
      ·refine G6 oD rfl (Zu (Zd ?_))
       obtain ⟨l9,hx,h⟩:=Z1 h;refine Gl (fun e w=>∃ (g:Gh) (v2:Value),Fr gI wI g w∧e 2=v2∧RV g.m w (l9:List Z2) v2∧OS 1002 g w 60 (l9:List Z2) v2∧e 4=p8∧OB 2004 g w 82 (y5:Vector UInt8 8) p8∧e 7=Iz (l5)∧e 25=Iz (l5)∧e 28=Iz (l8)) (fun Q' hQ=>?_) (fun cK sK hR=>?_)
       ·replace h := hx
        clear hx;refine Zr (Z5 (Zo aB rfl (Zg (Iz (l8)) rfl rfl (Z3 (Z5 (Z4 rfl (Tp (g:=rE) isAgg82 sizeOf82 nB o0 fun yH uE=>(Z4 rfl (G2 (g:=rE) 2009 ((⟨List.toArray [0,0,0,0,0,0,0,0],rfl⟩:Vector UInt8 8):Vector UInt8 8) zeroValue82 (fun m w=>⟨_,(Jt (Zv Qd (Zv Qd (Zv Qd (Zv Qd (Zv Qd (Zv Qd (Zv Qd (Zv Qd Jd)))))))) rfl),rfl⟩) fun zH tK aI hs b160 cb=>?_)))))))));have hfr:=hfr.stp hs;have t5:=t5.stp hs;have i6:=i6.stp hs rfl;have o0:=o0.stp hs rfl;have uE:=uE.stp hs;clear cb;refine Z4 rfl (Gg (g:=zH) (v:=yH) sizeOf82 rfl b160 rfl uE fun bI uK hs b161 cb=>?_);clear cb;have hfr:=hfr.stp hs;have t5:=t5.stp hs;have i6:=i6.stp hs rfl;have o0:=o0.stp hs rfl;refine Z3 (Z5 (Zo uC rfl (Zn (Iz (l8)) rfl rfl (Zx (.int .u8 (UInt8.toNat ((u8w l8)))) (Yg underlying3 underlying5 rfl) rfl ?_))));obtain ⟨qH,xE,h⟩:=Z1 h;obtain ⟨hi163,he163⟩:=Dn xE;refine Zx (Z8 aI ((l5:Int).toNat * 1)) (Tk (α:=UInt8) underlying82 sizeOf5 rfl (OB.ptr b161) rfl xE) rfl (Z4 rfl (W2 (g:=bI) (Gd.dyn hi163) sizeOf5 rfl b161 rfl (Qy.2 rfl) fun xF vK hs b164 rst hos=>?_));clear rst hos;have hfr:=hfr.stp hs;have t5:=t5.stp hs;have i6:=i6.stp hs rfl;have o0:=o0.stp hs rfl;refine Z3 (Z5 (Z4 rfl (Tp (g:=xF) isAgg82 sizeOf82 rfl b164 fun dI iI=>?_)));obtain ⟨v8,nH,h⟩:=Z1 h;refine Z4 rfl (Zp (g:=xF) (vs:=[dI]) en21 (.cons rfl .nil) (wk21 iI nH) fun jI dK xK hs hr=>?_);have hfr:=hfr.ext hs;have t5:=t5.ext hs;have i6:=i6.ext hs;have o0:=o0.ext hs;obtain ⟨vC,rJ,rfl,bD,rfl⟩:=hr;refine Zn (.tuple #[vC,Iz (v8.2)]) rfl rfl (Zx vC (Zi rfl rfl) rfl (Zx (Iz (v8.2)) (Zi rfl rfl) rfl (Z4 rfl (G2 (g:=jI) 2010 (⟨0,0,0,0,0⟩:Z2) zeroValue60 (fun m w=>⟨_,(Gb Zw (Gb Zw (Gb Zw (Gb Zw Zw)))),rfl⟩) fun kI yK zK hs b168 cb=>?_))));have hfr:=hfr.stp hs;have t5:=t5.stp hs;have i6:=i6.stp hs rfl;have o0:=o0.stp hs rfl;have bD:=bD.stp hs;clear cb;refine Z4 rfl (Gg (g:=kI) (v:=vC) sizeOf60 rfl b168 rfl bD fun vE aL hs b169 cb=>?_);clear cb;have hfr:=hfr.stp hs;have t5:=t5.stp hs;have i6:=i6.stp hs rfl;have o0:=o0.stp hs rfl;refine Zg (Iz (v8.2)) rfl rfl (Z3 (Z5 (Zn (Iz (v8.2)) rfl rfl (Z9 (.bool ((v8.2 == (0:Int)))) rfl rfl rfl rfl (Z3 ?_)))));rcases Zt h with ⟨yD,h⟩ | ⟨yD,h⟩
        ·refine G6 yD rfl (Za (Zo cC rfl (Z4 rfl (Tp (g := vE) isAgg60 sizeOf60 rfl b169 fun lI mI => (Z4 rfl (Z7 (g := vE) 3045 (xs := ([v8.1] : List Z2)) (vs := [lI]) underlying33 sizeOf60 zeroValue60 rfl rfl (.cons rfl .nil) (RVs.cons mI RVs.nil) rfl rfl fun nI bL dL hs o172 pI hxt hfl => ?_))))))
         have hfr:=hfr.stp hs;have t5:=t5.stp hs;have i6:=i6.stp hs rfl;have o0:=o0.stp hs rfl;obtain ⟨rF,oH,h⟩:=Z1 h;refine Z4 rfl (T5 (g:=nI) (i:=1002) underlying33 Vt rfl rfl i6 t5 rfl pI oH fun qI eL yF hs o173 sI _=>?_);have hfr:=hfr.stp hs;have o0:=o0.stp hs rfl;refine Zg yF rfl rfl (Zb (Tj ?_));obtain rfl:=sinj h;exact hQ _ _ ⟨qI,(yF),hfr,rfl,sI,o173,nB,o0,uC,vB,aB⟩
        ·refine G7 yD rfl (Zu (Tj ?_))
         obtain rfl:=sinj h;exact hQ _ _ ⟨vE,(lE),hfr,cC,t5,i6,nB,o0,uC,vB,aB⟩
       ·clear hx
        obtain ⟨jJ,aG,hfr,bG,cG,eG,gG,iG,jG,yE,zE⟩:=hR;refine Za (Z9 (Iz ((w64 (l8 + (1:Int))))) zE rfl rfl rfl (Zn (Iz ((w64 (l8 + (1:Int))))) rfl rfl ?_));exact Z3 (mH (l9,(w64 (l8 + (1:Int)))) _ _ ⟨jJ,(aG),hfr,bG,cG,eG,gG,iG,jG,yE,rfl⟩ h)
      ·refine G7 oD rfl (Tn (Gu (Gu (G8 (Tj ?_)))))
       obtain rfl:=sinj h;exact hQ _ _ ⟨rE,(lE),hfr,cC,t5,i6,nB,o0,vB⟩
     ·clear hx
      obtain ⟨kJ,kG,hfr,lG,mG,sG,xG,yG,cF⟩:=hR;refine Za (Z9 (Iz ((w64 (l5 + (1:Int))))) cF rfl rfl rfl (Zn (Iz ((w64 (l5 + (1:Int))))) rfl rfl ?_));exact Z3 (lH (n9,(w64 (l5 + (1:Int)))) _ _ ⟨kJ,(kG),hfr,lG,mG,sG,xG,yG,rfl⟩ h)
    ·refine G7 nD rfl (Tn (Gu (Gu (G8 ?_))))
     obtain rfl:=sinj h;exact hQ _ _ ⟨tF,(zD),hfr,aE,bE,iE⟩
   ·clear hx
    obtain ⟨gL,mE,hfr,zG,aH,sJ⟩:=hR;refine Z5 (Zo zG rfl (Zg mE rfl rfl (Zg (Iz (0)) rfl rfl (Z3 (Ga ?_)))));obtain rfl:=sinj h;exact Jq rfl rfl (rq mE) (rq (Iz (0))) ⟨_,hfr,_,_,rfl,aH,rfl⟩
def f46 (x0:Gw):Option (Bool):=
 (f47 ((x0).Harness)).bind fun y5=>
 some ((y5 != (0:Int)))
theorem en46:Enters prog 46:=enters_of func46 (by kernel_rfl) rfl
theorem wk46 {gI:Gh} {wI:World} {x0:Gw} {up0:Value} (rp0:RV gI.m wI x0 up0) {r:Bool} (h:f46 x0=some r):Fn prog 46 #[up0] gI wI (fun _ _ v=>v=.bool (r)):=by
 unfold f46 at h;refine fnE func46 rfl rfl fun g0 hm hfr=>?_;have rp0:=RVc hm rp0;show E _ 7 none _ _ _ _ _;refine Z5 (Z4 rfl (Tv (g:=g0) rfl rp0 fun g1 w1 p1 hs q1=>?_));have hfr:=hfr.ext hs;refine Zg (.bool false) rfl rfl (Z3 (Z5 (Zx (Z8 p1 1) (Zc B8 rfl (PT.ptr q1)) rfl ?_)));have q2:=Zm (Jy).1 q1;refine Z4 rfl (Z6 (g:=g1) isAgg27 sizeOf27 rfl q2 fun v3 r3=>?_);obtain ⟨y5,hy5,h⟩:=Z1 h;refine Z4 rfl (Zp (g:=g1) (vs:=[v3]) en47 (.cons rfl .nil) (wk47 r3 hy5) fun g4 w4_ v4 hs hr=>?_);have hfr:=hfr.ext hs;subst hr;refine Z9 (.bool ((y5 != (0:Int)))) rfl rfl rfl rfl (Zg (.bool ((y5 != (0:Int)))) rfl rfl (Z3 (Ga ?_)));obtain rfl:=sinj h;exact Tg rfl rfl (rq (.bool ((y5 != (0:Int))))) ⟨_,hfr,rfl⟩
def f63 (x0:Gy) (x1:Gf):Option (Int):=
 jn (σ:=Unit) (fun _=>
  some ((0:Int))
  ) fun zD=>
 Option.bind (α:=Bool) (
  (f62 ((0:Int)) ((50:Int)) (([(x1).Weaver]:List Int))).bind fun aB=>
  bif (!aB) then
   some ((!aB))
  else
   (f62 ((0:Int)) ((1000:Int)) (([(x1).Dense]:List Int))).bind fun lB=>
   bif (!lB) then
    some ((!lB))
   else
    (f62 ((0:Int)) ((1000000:Int)) (([(x1).Picks]:List Int))).bind fun t5=>
    bif (!t5) then
     some ((!t5))
    else
     (f62 ((0:Int)) ((100:Int)) (([(x1).Faults]:List Int))).bind fun i6=>
     some ((!i6))
  ) fun l5=>
 bif l5 then
  some ((2:Int))
 else
  (f62 ((0:Int)) ((w64 (((((x0).PayList).Extras).length:Int) - (1:Int)))) ((x1).Extras)).bind fun g8=>
  bif (!g8) then
   some ((7:Int))
  else
   (f101 ((x1).Extras)).bind fun y125=>
   bif (!y125) then
    some ((4:Int))
   else
    zD ()
theorem en63:Enters prog 63:=enters_of func63 (by kernel_rfl) rfl
theorem wk63 {gI:Gh} {wI:World} {x0:Gy} {x1:Gf} {up0:Value} (rp0:RV gI.m wI x0 up0) {up1:Value} (rp1:RV gI.m wI x1 up1) {r:Int} (h:f63 x0 x1=some r):Fn prog 63 #[up0,up1] gI wI (fun _ _ v=>v=Iz (r)):=by
 unfold f63 at h;refine fnE func63 rfl rfl fun g0 hm hfr=>?_;have rp0:=RVc hm rp0;have rp1:=RVc hm rp1;show E _ 41 none _ _ _ _ _;refine Z5 (Z4 rfl (Tv (g:=g0) rfl rp0 fun g1 w1 p1 hs q1=>?_));have hfr:=hfr.ext hs;have rp1:=rp1.ext hs;refine Z4 rfl (Tv (g:=g1) rfl rp1 fun g2 w2 p2 hs q2=>?_);have hfr:=hfr.ext hs;have q1:=q1.ext hs;refine Zg (Iz (0)) rfl rfl (Z3 (Zq h (fun (s:Unit) e w=>∃ (g:Gh) ,Fr gI wI g w) (fun X65 zD aE h=>?_) ?_))
 ·refine Zr ?_
  obtain ⟨l5,hx,h⟩:=Z1 h;refine Gl (fun e w=>∃ (g:Gh) ,Fr gI wI g w∧e 2=p1∧PT g.m w (x0:Gy) p1∧e 3=p2∧PT g.m w (x1:Gf) p2∧e 5=.bool (l5)) (fun Q' hQ=>?_) (fun xG jH hR=>?_)
  ·replace h := hx
   clear hx;refine Z5 (Zx (Z8 p2 0) (Zc Mi rfl (PT.ptr q2)) rfl ?_);have bG:=Zm (Ug).1 q2;refine Z4 rfl (Z6 (g:=g2) isAgg3 sizeOf3 rfl bG fun aI cG=>?_);obtain rfl:=Zj.1 cG;refine Z4 rfl (Z7 (g:=g2) 3008 (xs:=([(x1).Weaver]:List Int)) (vs:=[Iz ((x1).Weaver)]) underlying25 sizeOf3 zeroValue3 rfl rfl (.cons rfl .nil) (RVs.cons (Zj.2 rfl) RVs.nil) rfl rfl fun eG bI gG hs o91 iG hxt hfl=>?_);have hfr:=hfr.stp hs;have q1:=q1.stp hs;have q2:=q2.stp hs;obtain ⟨aB,bE,h⟩:=Z1 h;refine Z4 rfl (Zp (g:=eG) (vs:=[Iz (0),Iz (50),gG]) en62 (.cons rfl (.cons rfl (.cons rfl .nil))) (wk62 iG bE) fun cC kH dI hs hr=>?_);have hfr:=hfr.ext hs;have q1:=q1.ext hs;have q2:=q2.ext hs;subst hr;refine Zx (.bool (!aB)) (Qm rfl) rfl (Zg (.bool (!aB)) rfl rfl (Z3 ?_));rcases Zt h with ⟨vB,h⟩ | ⟨vB,h⟩
   ·refine G6 vB rfl (Zu ?_)
    obtain rfl:=sinj h;exact hQ _ _ ⟨cC,hfr,rfl,q1,rfl,q2,rfl⟩
   ·refine G7 vB rfl (Z5 (Zx (Z8 p2 1) (Zc Mv rfl (PT.ptr q2)) rfl ?_))
    have jG:=Zm (Un).1 q2;refine Z4 rfl (Z6 (g:=cC) isAgg3 sizeOf3 rfl jG fun iI kG=>?_);obtain rfl:=Zj.1 kG;refine Z4 rfl (Z7 (g:=cC) 3013 (xs:=([(x1).Dense]:List Int)) (vs:=[Iz ((x1).Dense)]) underlying25 sizeOf3 zeroValue3 rfl rfl (.cons rfl .nil) (RVs.cons (Zj.2 rfl) RVs.nil) rfl rfl fun lG jI mG hs o97 sG hxt hfl=>?_);have hfr:=hfr.stp hs;have q1:=q1.stp hs;have q2:=q2.stp hs;obtain ⟨lB,iE,h⟩:=Z1 h;refine Z4 rfl (Zp (g:=lG) (vs:=[Iz (0),Iz (1000),mG]) en62 (.cons rfl (.cons rfl (.cons rfl .nil))) (wk62 sG iE) fun uC lH kI hs hr=>?_);have hfr:=hfr.ext hs;have q1:=q1.ext hs;have q2:=q2.ext hs;subst hr;refine Zx (.bool (!lB)) (Qm rfl) rfl (Zg (.bool (!lB)) rfl rfl (Z3 ?_));rcases Zt h with ⟨l8,h⟩ | ⟨l8,h⟩
    ·refine G6 l8 rfl (Zu ?_)
     obtain rfl:=sinj h;exact hQ _ _ ⟨uC,hfr,rfl,q1,rfl,q2,rfl⟩
    ·refine G7 l8 rfl (Z5 (Zx (Z8 p2 2) (Zc At rfl (PT.ptr q2)) rfl ?_))
     have lE:=Zm (Ul).1 q2;refine Z4 rfl (Z6 (g:=uC) isAgg3 sizeOf3 rfl lE fun mH mE=>?_);obtain rfl:=Zj.1 mE;refine Z4 rfl (Z7 (g:=uC) 3018 (xs:=([(x1).Picks]:List Int)) (vs:=[Iz ((x1).Picks)]) underlying25 sizeOf3 zeroValue3 rfl rfl (.cons rfl .nil) (RVs.cons (Zj.2 rfl) RVs.nil) rfl rfl fun oE nH rE hs o103 uE hxt hfl=>?_);have hfr:=hfr.stp hs;have q1:=q1.stp hs;have q2:=q2.stp hs;obtain ⟨t5,lD,h⟩:=Z1 h;refine Z4 rfl (Zp (g:=oE) (vs:=[Iz (0),Iz (1000000),rE]) en62 (.cons rfl (.cons rfl (.cons rfl .nil))) (wk62 uE lD) fun yB yG oH hs hr=>?_);have hfr:=hfr.ext hs;have q1:=q1.ext hs;have q2:=q2.ext hs;subst hr;refine Zx (.bool (!t5)) (Qm rfl) rfl (Zg (.bool (!t5)) rfl rfl (Z3 ?_));rcases Zt h with ⟨n8,h⟩ | ⟨n8,h⟩
     ·refine G6 n8 rfl (Zu ?_)
      obtain rfl:=sinj h;exact hQ _ _ ⟨yB,hfr,rfl,q1,rfl,q2,rfl⟩
     ·refine G7 n8 rfl (Za (Zx (Z8 p2 4) (Zc Sa rfl (PT.ptr q2)) rfl ?_))
      have vE:=Zm (Hh).1 q2;refine Z4 rfl (Z6 (g:=yB) isAgg3 sizeOf3 rfl vE fun pH xE=>?_);obtain rfl:=Zj.1 xE;refine Z4 rfl (Z7 (g:=yB) 3023 (xs:=([(x1).Faults]:List Int)) (vs:=[Iz ((x1).Faults)]) underlying25 sizeOf3 zeroValue3 rfl rfl (.cons rfl .nil) (RVs.cons (Zj.2 rfl) RVs.nil) rfl rfl fun yE qH zE hs o109 cF hxt hfl=>?_);have hfr:=hfr.stp hs;have q1:=q1.stp hs;have q2:=q2.stp hs;obtain ⟨i6,nD,h⟩:=Z1 h;refine Z4 rfl (Zp (g:=yE) (vs:=[Iz (0),Iz (100),zE]) en62 (.cons rfl (.cons rfl (.cons rfl .nil))) (wk62 cF nD) fun dF zG sH hs hr=>?_);have hfr:=hfr.ext hs;have q1:=q1.ext hs;have q2:=q2.ext hs;subst hr;refine Zx (.bool (!i6)) (Qm rfl) rfl (Zg (.bool (!i6)) rfl rfl (Zb ?_));obtain rfl:=sinj h;exact hQ _ _ ⟨dF,hfr,rfl,q1,rfl,q2,rfl⟩
  ·clear hx
   obtain ⟨zB,hfr,vC,mB,nB,o0,oB⟩:=hR;rcases Zt h with ⟨v8,h⟩ | ⟨v8,h⟩
   ·refine Ta (Eq.trans (show ev _ _ = .bool (l5) from oB) (congrArg Value.bool v8)) (Z5 (Zg (Iz (2)) rfl rfl (Z3 (Ga (Tl (Gp ?_))))))
    obtain rfl:=sinj h;exact Tg rfl rfl (rq (Iz (2))) ⟨_,hfr,rfl⟩
   ·refine Gs (Eq.trans (show ev _ _ = .bool (l5) from oB) (congrArg Value.bool v8)) (Z5 (Zx (Z8 p1 0) (Zc Jh vC (PT.ptr mB)) rfl ?_))
    have bD:=Zm (Qs).1 mB;refine Zx (Z8 (Z8 p1 0) 1) (Zc Vv rfl (PT.ptr bD)) rfl ?_;have eF:=Zm (Kg).1 bD;refine Z4 rfl (Z6 (g:=zB) isAgg25 sizeOf25 rfl eF fun tH rF=>(Zx (Iz ((((x0).PayList).Extras).length:Int)) (Gz underlying25 rfl rF) rfl (Zx (Iz ((w64 (((((x0).PayList).Extras).length:Int) - (1:Int))))) (Gk rfl rfl rfl) rfl (Zx (Z8 p2 3) (Zc Ff nB (PT.ptr o0)) rfl ?_))));have sF:=Zm (Jl).1 o0;refine Z4 rfl (Z6 (g:=zB) isAgg25 sizeOf25 rfl sF fun tF uF=>?_);obtain ⟨g8,oD,h⟩:=Z1 h;refine Z4 rfl (Zp (g:=zB) (vs:=[Iz (0),Iz ((w64 (((((x0).PayList).Extras).length:Int) - (1:Int)))),tF]) en62 (.cons rfl (.cons rfl (.cons rfl .nil))) (wk62 uF oD) fun cD aH uH hs hr=>?_);have hfr:=hfr.ext hs;have o0:=o0.ext hs;subst hr;refine Zx (.bool (!g8)) (Qm rfl) rfl (Zg (.bool (!g8)) rfl rfl (Z3 ?_));rcases Zt h with ⟨l9,h⟩ | ⟨l9,h⟩
    ·refine G6 l9 rfl (Z5 (Zg (Iz (7)) rfl rfl (Z3 (Ga (Tl (Gp ?_))))))
     obtain rfl:=sinj h;exact Tg rfl rfl (rq (Iz (7))) ⟨_,hfr,rfl⟩
    ·refine G7 l9 rfl (Z5 (Zx (Z8 p2 3) (Zc Ff nB (PT.ptr o0)) rfl ?_))
     have vF:=Zm (Jl).1 o0;refine Z4 rfl (Z6 (g:=cD) isAgg25 sizeOf25 rfl vF fun xF yF=>?_);obtain ⟨y125,yD,h⟩:=Z1 h;refine Z4 rfl (Zp (g:=cD) (vs:=[xF]) en101 (.cons rfl .nil) (wk101 yF yD) fun aG cH xH hs hr=>?_);have hfr:=hfr.ext hs;subst hr;refine Zx (.bool (!y125)) (Qm rfl) rfl (Zg (.bool (!y125)) rfl rfl (Z3 ?_));rcases Zt h with ⟨n9,h⟩ | ⟨n9,h⟩
     ·refine G6 n9 rfl (Z5 (Zg (Iz (4)) rfl rfl (Z3 (Ga (Tl (Gp ?_))))))
      obtain rfl:=sinj h;exact Tg rfl rfl (rq (Iz (4))) ⟨_,hfr,rfl⟩
     ·refine G7 n9 rfl ?_
      exact Zu (Tj (Zd (aE () _ _ ⟨aG,hfr⟩ h)))
 ·rintro _ gH yH ⟨zH, hfr⟩ h
  refine Z5 (Zg (Iz (0)) rfl rfl (Z3 (Ga ?_)));obtain rfl:=sinj h;exact Tg rfl rfl (rq (Iz (0))) ⟨_,hfr,rfl⟩
def f70 (x0:PayTable):Option (Gr × Int):=
 (f107 x0).bind fun y5=>
 Option.bind (α:=Int) (
  Option.bind (α:=Bool) (
   bif (y5.2 == (0 : Int)) then
    (f108 (y5.1)).bind fun n8=>
    some ((decide (((n8).length:Int) > (0:Int))))
   else
    some (false)
   ) fun g8=>
  bif g8 then
   some ((7:Int))
  else
   some (y5.2)
  ) fun l8=>
 some (y5.1,l8)
theorem en70:Enters prog 70:=enters_of func70 (by kernel_rfl) rfl
theorem wk70 {gI:Gh} {wI:World} {x0:PayTable} {up0:Value} (rp0:RV gI.m wI x0 up0) {r:Gr × Int} (h:f70 x0=some r):Fn prog 70 #[up0] gI wI (fun m w v=>∃ y0 y1,v=.tuple #[y0,y1]∧RV m w (r.1) y0∧y1=Iz (r.2)):=by
 unfold f70 at h;refine fnE func70 rfl rfl fun g0 hm hfr=>?_;have rp0:=RVc hm rp0;show E _ 21 none _ _ _ _ _;refine Z5 (Z4 rfl (Tv (g:=g0) rfl rp0 fun g1 w1 p1 hs q1=>?_));have hfr:=hfr.ext hs;refine Z4 rfl (G2 (g:=g1) 2002 (⟨⟨[],[],[],0⟩⟩:Gr) zeroValue169 (fun m w=>⟨_,(Gb G9 (Gb G9 (Gb G9 Zw))),rfl⟩) fun g2 w2 p2 hs b2 cb=>?_);have hfr:=hfr.stp hs;have q1:=q1.stp hs;have o0:OSF 2002 60200 0 g2 w2 25 169 ([]:List (List Int)) p2:=cb.osf (by rfl);have l5:OSF 2002 60201 1 g2 w2 3 169 ([]:List Int) p2:=cb.osf (by rfl);have t5:OSF 2002 60202 2 g2 w2 3 169 ([]:List Int) p2:=cb.osf (by rfl);clear cb;refine Zg (Iz (0)) rfl rfl (Z3 (Z5 (Z4 rfl (Z6 (g:=g2) isAgg124 sizeOf124 rfl q1 fun v3 r3=>?_))));obtain ⟨y5,hy5,h⟩:=Z1 h;refine Z4 rfl (Zp (g:=g2) (vs:=[v3]) en107 (.cons rfl .nil) (wk107 r3 hy5) fun g4 w4_ v4 hs hr=>?_);have hfr:=hfr.ext hs;have o0:=o0.ext hs;have l5:=l5.ext hs;have t5:=t5.ext hs;have b2:=b2.ext hs;obtain ⟨l9,lE,rfl,n9,rfl⟩:=hr;refine Zn (.tuple #[l9,Iz (y5.2)]) rfl rfl (Zx l9 (Zi rfl rfl) rfl (Zx (Iz (y5.2)) (Zi rfl rfl) rfl (Z4 rfl (G2 (g:=g4) 2004 (⟨⟨[],[],[],0⟩⟩:Gr) zeroValue169 (fun m w=>⟨_,(Gb G9 (Gb G9 (Gb G9 Zw))),rfl⟩) fun g6 w6 p6 hs b6 cb=>?_))));have hfr:=hfr.stp hs;have o0:=o0.stp hs rfl;have l5:=l5.stp hs rfl;have t5:=t5.stp hs rfl;have b2:=b2.stp hs rfl;have n9:=n9.stp hs;have mE:OSF 2004 60400 0 g6 w6 25 169 ([]:List (List Int)) p6:=cb.osf (by rfl);have oE:OSF 2004 60401 1 g6 w6 3 169 ([]:List Int) p6:=cb.osf (by rfl);have rE:OSF 2004 60402 2 g6 w6 3 169 ([]:List Int) p6:=cb.osf (by rfl);clear cb;refine Z4 rfl (Gg (g:=g6) (v:=l9) sizeOf169 rfl b6 rfl n9 fun g7 w7 hs b7 cb=>?_);clear cb;have hfr:=hfr.stp hs;have o0:=o0.stp hs rfl;have l5:=l5.stp hs rfl;have t5:=t5.stp hs rfl;have b2:=b2.stp hs rfl;refine Zg (Iz (y5.2)) rfl rfl (Z3 ?_);obtain ⟨l8,hx,h⟩:=Z1 h;refine Gl (fun e w=>∃ (g:Gh) ,Fr gI wI g w∧e 2=p2∧OB 2002 g w 169 ((⟨⟨[],[],[],0⟩⟩:Gr):Gr) p2∧OSF 2002 60200 0 g w 25 169 ((((⟨⟨[],[],[],0⟩⟩:Gr)).PayTable).Rows) p2∧OSF 2002 60201 1 g w 3 169 ((((⟨⟨[],[],[],0⟩⟩:Gr)).PayTable).Across) p2∧OSF 2002 60202 2 g w 3 169 ((((⟨⟨[],[],[],0⟩⟩:Gr)).PayTable).Down) p2∧e 4=p6∧OB 2004 g w 169 (y5.1:Gr) p6∧e 5=Iz (l8)) (fun Q' hQ=>?_) (fun uE yE hR=>?_)
 ·replace h := hx
  clear hx;obtain ⟨g8,hx,h⟩:=Z1 h;refine Gl (fun e w=>∃ (g:Gh) ,Fr gI wI g w∧e 2=p2∧OB 2002 g w 169 ((⟨⟨[],[],[],0⟩⟩:Gr):Gr) p2∧OSF 2002 60200 0 g w 25 169 ((((⟨⟨[],[],[],0⟩⟩:Gr)).PayTable).Rows) p2∧OSF 2002 60201 1 g w 3 169 ((((⟨⟨[],[],[],0⟩⟩:Gr)).PayTable).Across) p2∧OSF 2002 60202 2 g w 3 169 ((((⟨⟨[],[],[],0⟩⟩:Gr)).PayTable).Down) p2∧e 4=p6∧OB 2004 g w 169 (y5.1:Gr) p6∧e 5=Iz (y5.2)∧e 18=.bool (g8)) (fun Q' hQ=>?_) (fun vE zE hR=>?_)
  ·replace h := hx
   clear hx;refine Za (Zn (Iz (y5.2)) rfl rfl (Z9 (.bool ((y5.2 == (0:Int)))) rfl rfl rfl rfl (Zn (.bool ((y5.2 == (0:Int)))) rfl rfl ?_)));rcases Zt h with ⟨i6,h⟩ | ⟨i6,h⟩
   ·refine Ze (.yes2 rfl rfl i6) rfl (Tp (g := g7) isAgg169 sizeOf169 rfl b7 fun oD yD => ?_)
    obtain ⟨n8,lD,h⟩:=Z1 h;refine Ze (.yes2 rfl rfl i6) rfl (Zp (g:=g7) (vs:=[oD]) en108 (.cons rfl .nil) (wk108 yD lD) fun zD xE cF hs hr=>?_);have hfr:=hfr.ext hs;have o0:=o0.ext hs;have l5:=l5.ext hs;have t5:=t5.ext hs;have b2:=b2.ext hs;have b7:=b7.ext hs;have aE:=hr;refine Zy (Iz ((n8).length:Int)) (Gz underlying214 rfl aE) rfl rfl i6 rfl (Zy (.bool ((decide (((n8).length:Int) > (0:Int))))) (Gk rfl rfl rfl) rfl rfl i6 rfl (Zx (.bool ((decide (((n8).length:Int) > (0:Int))))) (Zl (b:=(y5.2 == (0:Int))) rfl (G4 i6 rfl)) rfl (Zb ?_)));obtain rfl:=sinj h;exact hQ _ _ ⟨zD,hfr,rfl,b2,o0,l5,t5,rfl,b7,rfl,rfl⟩
   ·refine Zz rfl rfl i6 rfl rfl ?_
    iterate 3 refine Zz rfl rfl i6 rfl rfl ?_
    refine Zx (.bool false) (Zl (b:=(y5.2 == (0:Int))) rfl (G5 i6 rfl)) rfl (Zb ?_);obtain rfl:=sinj h;exact hQ _ _ ⟨g7,hfr,rfl,b2,o0,l5,t5,rfl,b7,rfl,rfl⟩
  ·clear hx
   obtain ⟨bD,hfr,lB,mB,u2_0_26,u2_1_26,u2_2_26,nB,oB,yB,v8⟩:=hR;rcases Zt h with ⟨aB,h⟩ | ⟨aB,h⟩
   ·refine Ta (Eq.trans (show ev _ _ = .bool (g8) from v8) (congrArg Value.bool aB)) (Za (Zg (Iz (7)) rfl rfl (Zb ?_)))
    obtain rfl:=sinj h;exact hQ _ _ ⟨bD,hfr,lB,mB,u2_0_26,u2_1_26,u2_2_26,nB,oB,rfl⟩
   ·refine Gs (Eq.trans (show ev _ _ = .bool (g8) from v8) (congrArg Value.bool aB)) (Zu ?_)
    obtain rfl:=sinj h;exact hQ _ _ ⟨bD,hfr,lB,mB,u2_0_26,u2_1_26,u2_2_26,nB,oB,yB⟩
 ·clear hx
  obtain ⟨cD,hfr,vB,zB,u2_0_28,u2_1_28,u2_2_28,cC,uC,vC⟩:=hR;refine Z5 (Z4 rfl (Tp (g:=cD) isAgg169 sizeOf169 cC uC fun bE iE=>(Zo vC rfl (Z4 rfl (Gg (g:=cD) (v:=bE) sizeOf169 vB zB rfl iE fun dF eF hs b30 cb=>?_)))));clear cb;have hfr:=hfr.stp hs;refine Zg (Iz (l8)) rfl rfl (Z3 (Ga ?_));obtain rfl:=sinj h;obtain ⟨ad31,cv31,hp31,nD,cr31⟩:=T9 isAgg169 sizeOf169 b30;exact Wm rfl rfl ((show _=p2 from vB).trans hp31) nD (show _=Iz (l8) from rfl) ⟨_,hfr,_,_,rfl,cr31,rfl⟩
def f85 (x0:Str):Option (Bool):=
 (f86 x0).bind fun y2=>
 some ((!y2))
theorem en85:Enters prog 85:=enters_of func85 (by kernel_rfl) rfl
theorem wk85 {gI:Gh} {wI:World} {x0:Str}  {r:Bool} (h:f85 x0=some r):Fn prog 85 #[Str.v (x0)] gI wI (fun _ _ v=>v=.bool (r)):=by
 unfold f85 at h;refine fnE func85 rfl rfl fun g0 hm hfr=>?_;show E _ 6 none _ _ _ _ _;refine Z5 (Zg (.bool false) rfl rfl (Z3 (Z5 (Zn (Str.v (x0)) rfl rfl ?_))));obtain ⟨y2,hy2,h⟩:=Z1 h;refine Z4 rfl (Zp (g:=g0) (vs:=[Str.v (x0)]) en86 (.cons rfl .nil) (wk86  hy2) fun g1 w1_ v1 hs hr=>?_);have hfr:=hfr.ext hs;subst hr;refine Zx (.bool (!y2)) (Qm rfl) rfl (Zg (.bool (!y2)) rfl rfl (Z3 (Ga ?_)));obtain rfl:=sinj h;exact Tg rfl rfl (rq (.bool (!y2))) ⟨_,hfr,rfl⟩
def f128 (x0:Int) (x1:List Gc):Option (Bool):=
 Option.bind (α:=Bool) (
  bif (decide (((x1).length : Int) > (0 : Int))) then
   (f168 x1 ((fun a0=>f166 a0 x0))).bind fun y7=>
   some ((!y7))
  else
   some (false)
  ) fun o0=>
 some (o0)
theorem en128:Enters prog 128:=enters_of func128 (by kernel_rfl) rfl
theorem wk128 {gI:Gh} {wI:World} {x0:Int} {x1:List Gc} {up1:Value} (rp1:RV gI.m wI x1 up1) {r:Bool} (h:f128 x0 x1=some r):Fn prog 128 #[Iz (x0),up1] gI wI (fun _ _ v=>v=.bool (r)):=by
 unfold f128 at h;refine fnE func128 rfl rfl fun g0 hm hfr=>?_;have rp1:=RVc hm rp1;show E _ 16 none _ _ _ _ _;refine Z5 (Z4 rfl (Tv (g:=g0) rfl (Zj.2 rfl) fun g1 w1 p1 hs q1=>?_));have hfr:=hfr.ext hs;have rp1:=rp1.ext hs;refine Zg (.bool false) rfl rfl (Z3 (Z5 (Zx ((.func (.func 166) #[] #[p1])) (W9 (Se (show ev _ _=p1 from rfl))) rfl (Zg ((.func (.func 166) #[] #[p1])) rfl rfl (Z3 ?_)))));obtain ⟨o0,hx,h⟩:=Z1 h;refine Gl (fun e w=>∃ (g:Gh) ,Fr gI wI g w∧e 4=.bool (o0)) (fun Q' hQ=>?_) (fun i6 w8 hR=>?_)
 ·replace h := hx
  clear hx;refine Za (Zn up1 rfl rfl (Zx (Iz ((x1).length:Int)) (Gz underlying92 rfl rp1) rfl (Z9 (.bool ((decide (((x1).length:Int) > (0:Int))))) rfl rfl rfl rfl (Zn (.bool ((decide (((x1).length:Int) > (0:Int))))) rfl rfl ?_))));rcases Zt h with ⟨hc5,h⟩ | ⟨hc5,h⟩
  ·refine Zy up1 (Zk rfl) rfl rfl hc5 rfl (Zy ((.func (.func 166) #[] #[p1])) (Zk rfl) rfl rfl hc5 rfl ?_)
   obtain ⟨y7,t5,h⟩:=Z1 h;refine Ze (.yes2 rfl rfl hc5) rfl (Zp (g:=g1) (vs:=[up1,(.func (.func 166) #[] #[p1])]) en168 (.cons rfl (.cons rfl .nil)) (wk168 rp1 ⟨166,#[],#[p1],rfl,en166,fun g' w' hch a0 b0 r hu0 hr=>by exact Fn.mono (wk166 hu0 (q1.ch hch) hr) fun _ _ _ h=>Q1.2 h⟩ t5) fun g6 w6_ v6 hs hr=>?_);have hfr:=hfr.ext hs;subst hr;refine Zy (.bool (!y7)) (Qm rfl) rfl rfl hc5 rfl (Zx (.bool (!y7)) (Zl (b:=(decide (((x1).length:Int) > (0:Int)))) rfl (G4 hc5 rfl)) rfl (Zg (.bool (!y7)) rfl rfl (Zb ?_)));obtain rfl:=sinj h;exact hQ _ _ ⟨g6,hfr,rfl⟩
  ·refine Zz rfl rfl hc5 rfl rfl ?_
   iterate 3 refine Zz rfl rfl hc5 rfl rfl ?_
   refine Zx (.bool false) (Zl (b:=(decide (((x1).length:Int) > (0:Int)))) rfl (G5 hc5 rfl)) rfl (Zg (.bool false) rfl rfl (Zb ?_));obtain rfl:=sinj h;exact hQ _ _ ⟨g1,hfr,rfl⟩
 ·clear hx
  obtain ⟨g8,hfr,l5⟩:=hR;refine Ga ?_;obtain rfl:=sinj h;exact Tg rfl rfl (show _=.bool (o0) from l5) ⟨_,hfr,rfl⟩
def f9 (x0:List UInt8):Option ((List Z2) × Int × Int):=
 jn (σ:=(List Z2) × Int × Int) (fun (qH,sH,tH)=>
  jn (σ:=(List Z2) × Int × Int) (fun (yE,bK,cK)=>
   some (yE,(0:Int),(0:Int))
   ) fun sK=>
  (f20 x0).bind fun zE=>
  (zE (Nat × (List Z2) × Int × Int) (Fu fun (l5,cC,uC) iG=>
   (f21 iG).bind fun n8=>
   Option.bind (α:=Int) (
    Option.bind (α:=Bool) (
     bif (n8.2 == (0 : Int)) then
      bif (decide (((l5).length : Int) > (0 : Int))) then
       (idx l5 (w64 (((l5).length:Int) - (1:Int)))).bind fun sI=>
       (f22 sI (n8.1)).bind fun cD=>
       some ((decide (cD ≥ (0:Int))))
      else
       some (false)
     else
      some (false)
     ) fun zB=>
    bif zB then
     some ((4:Int))
    else
     some (n8.2)
    ) fun oB=>
   jn (σ:=(List Z2) × Int × Int) (fun (jG,kG,lG)=>
    (apnd 40 jG (([n8.1]:List Z2))).bind fun uH=>
    some (true,((0:Nat),(uH,kG,lG)))
    ) fun jJ=>
   bif (oB != (0 : Int)) then
    some (false,((1:Nat),([],((l5).length:Int),oB)))
   else
    jJ (l5,cC,uC)
   ) (0,(qH,sH,tH))).bind fun (lD,(nD,oD,yD))=>
  bif Nat.beq lD 0 then
   sK (nD,oD,yD)
  else
   some (nD,oD,yD)
  ) fun pN=>
 bif (decide (((x0).length : Int) > (800 : Int))) then
  some ([],(0:Int),(5:Int))
 else
  (Ha ((x0).length:Int) (8:Int)).bind fun jI=>
  bif (jI != (0 : Int)) then
   some ([],(0:Int),(4:Int))
  else
   pN (([]:List Z2),(0:Int),(0:Int))
theorem en9:Enters prog 9:=enters_of func9 (by kernel_rfl) rfl
theorem wk9 {gI:Gh} {wI:World} {x0:List UInt8} {up0:Value} (rp0:RV gI.m wI x0 up0) {r:(List Z2) × Int × Int} (h:f9 x0=some r):Fn prog 9 #[up0] gI wI (fun m w v=>∃ y0 y1 y2,v=.tuple #[y0,y1,y2]∧RV m w (r.1) y0∧y1=Iz (r.2.1)∧y2=Iz (r.2.2)):=by
 unfold f9 at h;refine O2 func9 rfl (Nat.le_of_ble_eq_true rfl) fun g0 hm hfr=>?_;have hmk:MkF g0 wI []:=MkF.start;have rp0:=RVc hm rp0;show E _ 53 none _ _ _ _ _;refine Z5 (Z4 rfl (G2 (g:=g0) 2002 ([]:List Z2) zeroValue33 (fun m w=>⟨_,G9,rfl⟩) fun g1 w1 p1 hs b1 cb=>?_));have hfr:=hfr.stp hs;have hmk:=hmk.stp hs;have rp0:=rp0.stp hs;have xF:OSF 2002 60200 0 g1 w1 60 33 ([]:List Z2) p1:=cb.osf (by rfl);clear cb;refine Z4 rfl (G2 (g:=g1) 2003 (0:Int) zeroValue3 (fun m w=>⟨_,Zw,rfl⟩) fun g2 w2 p2 hs b2 cb=>?_);have hfr:=hfr.stp hs;have hmk:=hmk.stp hs;have rp0:=rp0.stp hs;have xF:=xF.stp hs rfl;have b1:=b1.stp hs rfl;clear cb;refine Z4 rfl (G2 (g:=g2) 2004 (0:Int) zeroValue44 (fun m w=>⟨_,Zw,rfl⟩) fun g3 w3 p3 hs b3 cb=>?_);have hfr:=hfr.stp hs;have hmk:=hmk.stp hs;have rp0:=rp0.stp hs;have xF:=xF.stp hs rfl;have b1:=b1.stp hs rfl;have b2:=b2.stp hs rfl;clear cb;refine Z3 (Lp h (fun (s:(List Z2) × Int × Int) e ds w=>∃ (g:Gh) ,Fr gI wI g w∧MkF g w ds∧e 0=up0∧RV g.m w (x0:List UInt8) up0∧e 2=p1∧OB 2002 g w 33 (s.1:List Z2) p1∧OSF 2002 60200 0 g w 60 33 (s.1) p1∧e 3=p2∧OB 2003 g w 3 (s.2.1:Int) p2∧e 4=p3∧OB 2004 g w 44 (s.2.2:Int) p3) (fun X21 pN sN h=>?_) ?_)
 ·refine Zr (Z5 (Zn up0 rfl rfl (Zx (Iz ((x0).length : Int)) (Gz underlying43 rfl rp0) rfl (Z9 (.bool ((decide (((x0).length : Int) > (800 : Int))))) rfl rfl rfl rfl (Zg (.bool ((decide (((x0).length : Int) > (800 : Int))))) rfl rfl (Z3 ?_))))))
  rcases Zt h with ⟨mI,h⟩ | ⟨mI,h⟩
  ·refine G6 mI rfl (Z5 (Z4 rfl (Gg (g := g3) (v := .slice none 0 0) sizeOf33 rfl b1 rfl T0 fun qN mO hs b23 cb => ?_)))
   have xO:OSF 2002 60200 0 qN mO 60 33 ([]:List Z2) p1:=cb.osfr (rfl) OS.nil;clear cb;have hfr:=hfr.stp hs;have hmk:=hmk.stp hs;have b2:=b2.stp hs rfl;have b3:=b3.stp hs rfl;refine Z4 rfl (Gg (g:=qN) (v:=Iz (0)) sizeOf3 rfl b2 rfl (Zj.2 rfl) fun nO oQ hs b24 cb=>?_);clear cb;have hfr:=hfr.stp hs;have hmk:=hmk.stp hs;have b23:=b23.stp hs rfl;have b3:=b3.stp hs rfl;refine Z4 rfl (Gg (g:=nO) (v:=Iz (5)) sizeOf44 rfl b3 rfl (Zj.2 rfl) fun pQ qQ hs b25 cb=>?_);clear cb;have hfr:=hfr.stp hs;have hmk:=hmk.stp hs;have b23:=b23.stp hs rfl;have b24:=b24.stp hs rfl;refine Z3 (Ga (Tl (Gp (Ni (.inr rfl) hmk fun rQ sQ hs=>?_))));have hfr:=hfr.stp hs;have b23:=b23.stp hs rfl;have b24:=b24.stp hs rfl;have b25:=b25.stp hs rfl;obtain rfl:=sinj h;obtain ⟨ad27,cv27,hp27,tN,cr27⟩:=T9 isAgg33 sizeOf33 b23;obtain ⟨ad28,cv28,hp28,uN,cr28⟩:=T9 isAgg3 sizeOf3 b24;obtain rfl:=Zj.1 cr28;obtain ⟨ad29,cv29,hp29,vN,cr29⟩:=T9 isAgg44 sizeOf44 b25;obtain rfl:=Zj.1 cr29;exact Xv rfl rfl ((rq p1).trans hp27) tN ((rq p2).trans hp28) uN ((rq p3).trans hp29) vN ⟨_,hfr,_,_,_,rfl,cr27,rfl,rfl⟩
  ·refine G7 mI rfl (Z5 (Zn up0 rfl rfl (Zx (Iz ((x0).length : Int)) (Gz underlying43 rfl rp0) rfl ?_)))
   obtain ⟨jI,xN,h⟩:=Z1 h;refine Zx (Iz (jI)) (Gk rfl rfl (congrArg (Option.map (Value.int .i64)) xN)) rfl (Z9 (.bool ((jI != (0:Int)))) rfl rfl rfl rfl (Zg (.bool ((jI != (0:Int)))) rfl rfl (Z3 ?_)));rcases Zt h with ⟨nI,h⟩ | ⟨nI,h⟩
   ·refine G6 nI rfl (Z5 (Z4 rfl (Gg (g := g3) (v := .slice none 0 0) sizeOf33 rfl b1 rfl T0 fun rN oO hs b32 cb => ?_)))
    have yO:OSF 2002 60200 0 rN oO 60 33 ([]:List Z2) p1:=cb.osfr (rfl) OS.nil;clear cb;have hfr:=hfr.stp hs;have hmk:=hmk.stp hs;have b2:=b2.stp hs rfl;have b3:=b3.stp hs rfl;refine Z4 rfl (Gg (g:=rN) (v:=Iz (0)) sizeOf3 rfl b2 rfl (Zj.2 rfl) fun pO tQ hs b33 cb=>?_);clear cb;have hfr:=hfr.stp hs;have hmk:=hmk.stp hs;have b32:=b32.stp hs rfl;have b3:=b3.stp hs rfl;refine Z4 rfl (Gg (g:=pO) (v:=Iz (4)) sizeOf44 rfl b3 rfl (Zj.2 rfl) fun uQ vQ hs b34 cb=>?_);clear cb;have hfr:=hfr.stp hs;have hmk:=hmk.stp hs;have b32:=b32.stp hs rfl;have b33:=b33.stp hs rfl;refine Z3 (Ga (Tl (Gp (Ni (.inr rfl) hmk fun xQ yQ hs=>?_))));have hfr:=hfr.stp hs;have b32:=b32.stp hs rfl;have b33:=b33.stp hs rfl;have b34:=b34.stp hs rfl;obtain rfl:=sinj h;obtain ⟨ad36,cv36,hp36,yN,cr36⟩:=T9 isAgg33 sizeOf33 b32;obtain ⟨ad37,cv37,hp37,zN,cr37⟩:=T9 isAgg3 sizeOf3 b33;obtain rfl:=Zj.1 cr37;obtain ⟨ad38,cv38,hp38,aO,cr38⟩:=T9 isAgg44 sizeOf44 b34;obtain rfl:=Zj.1 cr38;exact Xv rfl rfl ((rq p1).trans hp36) yN ((rq p2).trans hp37) zN ((rq p3).trans hp38) aO ⟨_,hfr,_,_,_,rfl,cr36,rfl,rfl⟩
   ·refine G7 nI rfl ?_
    exact Zu (Tj (Zd (sN (([]:List Z2),(0:Int),(0:Int)) _ _ _ ⟨g3,hfr,hmk,rfl,rp0,rfl,b1,xF,rfl,b2,rfl,b3⟩ h)))
 ·rintro ⟨qH, sH, tH⟩ mQ rE zQ ⟨qO, hfr, hmk, nL, oL, nB, xH, u2_0_39, uE, yH, vE, zH⟩ h
  refine Lp h (fun (s:(List Z2) × Int × Int) e ds w=>∃ (g:Gh) ,Fr gI wI g w∧MkF g w ds∧e 2=p1∧OB 2002 g w 33 (s.1:List Z2) p1∧OSF 2002 60200 0 g w 60 33 (s.1) p1∧e 3=p2∧OB 2003 g w 3 (s.2.1:Int) p2∧e 4=p3∧OB 2004 g w 44 (s.2.2:Int) p3) (fun X969 sK xL h=>?_) ?_
  ·refine Z5 (Zo nL rfl ?_)
   obtain ⟨zE,yL,h⟩:=Z1 h;refine Z4 rfl (Zp (g:=qO) (vs:=[up0]) en20 (.cons rfl .nil) (wk20 oL yL) fun nQ zO mE hs hr=>?_);have hfr:=hfr.ext hs;have hmk:=hmk.ext hs;have u2_0_39:=u2_0_39.ext hs;have xH:=xH.ext hs;have yH:=yH.ext hs;have zH:=zH.ext hs;have tK:=hr;refine Z3 (Zr ?_);have hB0:=hfr.size;have hmk0:=hmk;obtain ⟨⟨lD,⟨nD,oD,yD⟩⟩,hφ,h⟩:=Z1 h;refine Bj (σ:=(Nat × (List Z2) × Int × Int)) (s0:=(0,(qH,sH,tH))) 10 rfl (fun s=>s.1) [.ret] (fun (s:Nat × (List Z2) × Int × Int) (g:Gh) (w:World)=>Fr gI wI g w∧MkF g w rE∧OB 2002 g w 33 (s.2.1:List Z2) p1∧OSF 2002 60200 0 g w 60 33 (s.2.1) p1∧OB 2003 g w 3 (s.2.2.1:Int) p2∧OB 2004 g w 44 (s.2.2.2:Int) p3∧ItV prog (RA1 (α:=(Vector UInt8 8))) zE mE g.m w) rfl tK hφ (fun _ _ _ h=>(Dc h).1) rfl Pc rfl (fun _ _ _ _ _ hx hR=>by obtain ⟨hfr,hmk,z2,z3,z4,z5,z6⟩:=hR; exact ⟨hfr.ist hx hB0,hmk.ist hx,z2.ist hx,z3.ist hx,z4.ist hx,z5.ist hx,z6.ist hx⟩) (fun _ _ _ _ _ hx hR=>by obtain ⟨hfr,hmk,z2,z3,z4,z5,z6⟩:=hR; exact ⟨hfr.stp hx,hmk.stp hx,z2.stp hx rfl,z3.stp hx rfl,z4.stp hx rfl,z5.stp hx rfl,z6.stp hx⟩) ⟨hfr,hmk,xH,u2_0_39,yH,zH,tK⟩ (fun _ h=>by cases h) ?_ ?_
   ·intro yF cF s x b s2 xE vF vs hsz h hR hrec_0 pI hrd
    obtain ⟨hs0,h⟩:=Dc h;obtain ⟨st,⟨l5,cC,uC⟩⟩:=s;obtain ⟨hfr,hmk,i6,u2_0_1432,g8,l8,t5⟩:=hR;obtain ⟨iG,hxe⟩:∃ y,y=x:=⟨x,rfl⟩;subst hxe;obtain ⟨dK,rfl,oE⟩:=Mz hrd;have o0:=RFr.refl xE vF;refine Za (Z4 rfl (G2 (g:=xE) 2005 ((⟨List.toArray [0,0,0,0,0,0,0,0],rfl⟩:Vector UInt8 8):Vector UInt8 8) zeroValue82 (fun m w=>⟨_,(Jt (Zv Qd (Zv Qd (Zv Qd (Zv Qd (Zv Qd (Zv Qd (Zv Qd (Zv Qd Jd)))))))) rfl),rfl⟩) fun zL aP bP hs b1433 cb=>?_));have hfr:=hfr.stp hs;have hmk:=hmk.stp hs;have o0:=o0.stp hs;have hrec_0:=hrec_0.stp hs rfl;have u2_0_1432:=u2_0_1432.stp hs rfl;have i6:=i6.stp hs rfl;have g8:=g8.stp hs rfl;have l8:=l8.stp hs rfl;have t5:=t5.stp hs;have oE:=oE.stp hs;clear cb;refine Z4 rfl (Gg (g:=zL) (v:=dK) sizeOf82 rfl b1433 rfl oE fun kJ cP hs b1434 cb=>?_);clear cb;have hfr:=hfr.stp hs;have hmk:=hmk.stp hs;have o0:=o0.stp hs;have hrec_0:=hrec_0.stp hs rfl;have u2_0_1432:=u2_0_1432.stp hs rfl;have i6:=i6.stp hs rfl;have g8:=g8.stp hs rfl;have l8:=l8.stp hs rfl;have t5:=t5.stp hs;refine Z3 ?_;obtain ⟨aM,hbr,hs,hrN⟩:=Bl hrec_0 pI;refine ⟨aM,hbr,?_⟩;have hfr:=hfr.stp hs;have hmk:=hmk.stp hs;have o0:=o0.stp hs;have u2_0_1432:=u2_0_1432.stp hs rfl;have i6:=i6.stp hs rfl;have g8:=g8.stp hs rfl;have l8:=l8.stp hs rfl;have t5:=t5.stp hs;have b1434:=b1434.stp hs rfl;have hrec_0:=hrN;clear hbr hs hrN;refine Zr (Z5 (Z4 rfl (Tp (g:=kJ) isAgg82 sizeOf82 rfl b1434 fun bM cM=>?_)));obtain ⟨n8,uK,h⟩:=Z1 h;refine Z4 rfl (Zp (g:=kJ) (vs:=[bM]) en21 (.cons rfl .nil) (wk21 cM uK) fun dM rO dP hs hr=>?_);have hfr:=hfr.ext hs;have hmk:=hmk.ext hs;have o0:=o0.ext hs;have hrec_0:=hrec_0.ext hs;have u2_0_1432:=u2_0_1432.ext hs;have i6:=i6.ext hs;have g8:=g8.ext hs;have l8:=l8.ext hs;have t5:=t5.ext hs;obtain ⟨dF,dO,rfl,eF,rfl⟩:=hr;refine Zn (.tuple #[dF,Iz (n8.2)]) rfl rfl (Zx dF (Zi rfl rfl) rfl (Zx (Iz (n8.2)) (Zi rfl rfl) rfl (Z4 rfl (G2 (g:=dM) 2006 (⟨0,0,0,0,0⟩:Z2) zeroValue60 (fun m w=>⟨_,(Gb Zw (Gb Zw (Gb Zw (Gb Zw Zw)))),rfl⟩) fun eM eP zD hs b1439 cb=>?_))));have hfr:=hfr.stp hs;have hmk:=hmk.stp hs;have o0:=o0.stp hs;have hrec_0:=hrec_0.stp hs rfl;have u2_0_1432:=u2_0_1432.stp hs rfl;have i6:=i6.stp hs rfl;have g8:=g8.stp hs rfl;have l8:=l8.stp hs rfl;have t5:=t5.stp hs;have eF:=eF.stp hs;clear cb;refine Z4 rfl (Gg (g:=eM) (v:=dF) sizeOf60 rfl b1439 rfl eF fun aI gP hs b1440 cb=>?_);clear cb;have hfr:=hfr.stp hs;have hmk:=hmk.stp hs;have o0:=o0.stp hs;have hrec_0:=hrec_0.stp hs rfl;have u2_0_1432:=u2_0_1432.stp hs rfl;have i6:=i6.stp hs rfl;have g8:=g8.stp hs rfl;have l8:=l8.stp hs rfl;have t5:=t5.stp hs;refine Zg (Iz (n8.2)) rfl rfl (Z3 ?_);obtain ⟨oB,hx,h⟩:=Z1 h;refine Gl (fun e w=>∃ (g:Gh) ,Fr gI wI g w∧MkF g w rE∧RFr xE vF g w∧HB 10 g w yF (.loop { cF with state:=.busy })∧e 2=p1∧OB 2002 g w 33 (l5:List Z2) p1∧OSF 2002 60200 0 g w 60 33 (l5) p1∧e 3=p2∧OB 2003 g w 3 (cC:Int) p2∧e 4=p3∧OB 2004 g w 44 (uC:Int) p3∧e 6=zD∧OB 2006 g w 60 (n8.1:Z2) zD∧e 7=Iz (oB)∧e 18=mE∧ItV prog (RA1 (α:=(Vector UInt8 8))) zE mE g.m w) (fun Q' hQ=>?_) (fun sO iP hR=>?_)
    ·replace h := hx
     clear hx;obtain ⟨zB,hx,h⟩:=Z1 h;refine Gl (fun e w=>∃ (g:Gh) ,Fr gI wI g w∧MkF g w rE∧RFr xE vF g w∧HB 10 g w yF (.loop { cF with state:=.busy })∧e 2=p1∧OB 2002 g w 33 (l5:List Z2) p1∧OSF 2002 60200 0 g w 60 33 (l5) p1∧e 3=p2∧OB 2003 g w 3 (cC:Int) p2∧e 4=p3∧OB 2004 g w 44 (uC:Int) p3∧e 6=zD∧OB 2006 g w 60 (n8.1:Z2) zD∧e 7=Iz (n8.2)∧e 18=mE∧ItV prog (RA1 (α:=(Vector UInt8 8))) zE mE g.m w∧e 42=.bool (zB)) (fun Q' hQ=>?_) (fun tO jP hR=>?_)
     ·replace h := hx
      clear hx;rcases Zt h with ⟨l9,h⟩ | ⟨l9,h⟩
      ·refine Sp (x := .tmp 2) isAgg33 sizeOf33 i6 u2_0_1432 fun lJ mJ o1765 kI => ?_
       rcases Zt h with ⟨v8,h⟩ | ⟨v8,h⟩
       ·refine Sp (x := .tmp 2) isAgg33 sizeOf33 i6 u2_0_1432 fun nJ oJ o1767 vK => (Sp (x := .tmp 2) isAgg33 sizeOf33 i6 u2_0_1432 fun iM jM o1768 xK => ?_)
        obtain ⟨sI,lI,h⟩:=Z1 h;have kM:=Gx oJ lI;refine Zs (x:=.tmp 37) isAgg60 sizeOf60 kM fun pJ pM yK=>(Ht (x:=.tmp 6) isAgg60 sizeOf60 b1440 fun qJ qM zK=>?_);obtain ⟨cD,aL,h⟩:=Z1 h;refine To (g:=aI) (n:=18) [(15,(fun v g w=>v=Iz (cD)))] [0,1,2,3,4,5,6,7,8,9,10,11,12,13,14,15,16,17] rfl mixed (by kernel_rfl) (⟨fun _=>Wk _,trivial⟩) (Z0 (Iz (n8.2)) rfl rfl (Zk rfl) (Z0 (.bool ((n8.2 == (0:Int)))) rfl rfl (Gk rfl rfl rfl) (Z0 (.bool ((n8.2 == (0:Int)))) rfl rfl (Zk rfl) (Tm (c:=lJ) rfl rfl (.yes2 rfl rfl l9) (fun _ _ h=>⟨h.ch,fun b hb _=>h.below.block b hb⟩) kI nB (L_y (Iz ((l5).length:Int)) rfl rfl rfl rfl l9 (Gz underlying33 rfl mJ) (L_y (.bool ((decide (((l5).length:Int) > (0:Int))))) rfl rfl rfl rfl l9 (Gk rfl rfl rfl) (Z0 (.bool ((decide (((l5).length:Int) > (0:Int))))) rfl rfl (Zl (b:=(n8.2 == (0:Int))) rfl (G4 l9 rfl)) (Z0 (.bool ((decide (((l5).length:Int) > (0:Int))))) rfl rfl (Zk rfl) (Tm (c:=nJ) rfl rfl (.yes2 rfl rfl v8) (fun _ _ h=>⟨h.ch,fun b hb _=>h.below.block b hb⟩) vK nB (Tm (c:=iM) rfl rfl (.yes2 rfl rfl v8) (fun _ _ h=>⟨h.ch,fun b hb _=>h.below.block b hb⟩) xK nB (L_y (Iz ((l5).length:Int)) rfl rfl rfl rfl v8 (Gz underlying33 rfl jM) (L_y (Iz ((w64 (((l5).length:Int) - (1:Int))))) rfl rfl rfl rfl v8 (Gk rfl rfl rfl) (L_y (Tb nJ (w64 (((l5).length:Int) - (1:Int))) 5) rfl rfl rfl rfl v8 (Zh (α:=Z2) underlying33 sizeOf60 rfl oJ rfl lI) (Tm (c:=pJ) rfl rfl (.yes2 rfl rfl v8) (fun _ _ h=>h.ch) yK rfl (Tm (c:=qJ) rfl rfl (.yes2 rfl rfl v8) (fun _ _ h=>⟨h.ch,fun b hb _=>h.below.block b hb⟩) zK rfl (W7 (φ:=fun v g w=>v=Iz (cD)) rfl rfl (.yes2 rfl rfl v8) (fun g w hd=>Zp (g:=g) (vs:=[pJ,qJ]) en22 (.cons rfl (.cons rfl .nil)) (wk22 (pM.ext hd.1) (qM.ext hd.1) aL) fun g' w' v hs hr=>⟨g',hs,hr⟩) (fun kP hv=>?_)))))))))))))))));obtain ⟨_,_,_,rfl⟩:=hv;refine L_y (.bool ((decide (cD ≥ (0:Int))))) rfl rfl rfl rfl v8 (Gk rfl rfl rfl) (Z0 (.bool ((decide (cD ≥ (0:Int))))) rfl rfl (Zl (b:=(decide (((l5).length:Int) > (0:Int)))) rfl (G4 v8 rfl)) (Ka fun rM lP hs=>?_));have hfr:=hfr.ext hs;have hmk:=hmk.ext hs;have o0:=o0.ext hs;have hrec_0:=hrec_0.ext hs;have u2_0_1432:=u2_0_1432.ext hs;have i6:=i6.ext hs;have g8:=g8.ext hs;have l8:=l8.ext hs;have t5:=t5.ext hs;have b1440:=b1440.ext hs;clear hs;refine Zb ?_;obtain rfl:=sinj h;exact hQ _ _ ⟨rM,hfr,hmk,o0,hrec_0,nB,i6,u2_0_1432,uE,g8,vE,l8,rfl,b1440,rfl,rfl,t5,rfl⟩
       ·refine To (g := aI) (n := 18) [] [0, 1, 2, 3, 4, 5, 6, 7, 8, 9, 10, 11, 12, 13, 14, 15, 16, 17] rfl mixed (by kernel_rfl) trivial (Z0 (Iz (n8.2)) rfl rfl (Zk rfl) (Z0 (.bool ((n8.2 == (0 : Int)))) rfl rfl (Gk rfl rfl rfl) (Z0 (.bool ((n8.2 == (0 : Int)))) rfl rfl (Zk rfl) (Tm (c := lJ) rfl rfl (.yes2 rfl rfl l9) (fun _ _ h => ⟨h.ch, fun b hb _ => h.below.block b hb⟩) kI nB (L_y (Iz ((l5).length : Int)) rfl rfl rfl rfl l9 (Gz underlying33 rfl mJ) (L_y (.bool ((decide (((l5).length : Int) > (0 : Int))))) rfl rfl rfl rfl l9 (Gk rfl rfl rfl) (Z0 (.bool ((decide (((l5).length : Int) > (0 : Int))))) rfl rfl (Zl (b := (n8.2 == (0 : Int))) rfl (G4 l9 rfl)) (Z0 (.bool ((decide (((l5).length : Int) > (0 : Int))))) rfl rfl (Zk rfl) ?_))))))))
        iterate 9 refine L_s rfl rfl rfl v8 rfl ?_
        refine Z0 (.bool false) rfl rfl (Zl (b:=(decide (((l5).length:Int) > (0:Int)))) rfl (G5 v8 rfl)) (Ka fun sM mP hs=>?_);have hfr:=hfr.ext hs;have hmk:=hmk.ext hs;have o0:=o0.ext hs;have hrec_0:=hrec_0.ext hs;have u2_0_1432:=u2_0_1432.ext hs;have i6:=i6.ext hs;have g8:=g8.ext hs;have l8:=l8.ext hs;have t5:=t5.ext hs;have b1440:=b1440.ext hs;clear hs;refine Zb ?_;obtain rfl:=sinj h;exact hQ _ _ ⟨sM,hfr,hmk,o0,hrec_0,nB,i6,u2_0_1432,uE,g8,vE,l8,rfl,b1440,rfl,rfl,t5,rfl⟩
      ·refine To (g := aI) (n := 18) [] [0, 1, 2, 3, 4, 5, 6, 7, 8, 9, 10, 11, 12, 13, 14, 15, 16, 17] rfl mixed (by kernel_rfl) trivial (Z0 (Iz (n8.2)) rfl rfl (Zk rfl) (Z0 (.bool ((n8.2 == (0 : Int)))) rfl rfl (Gk rfl rfl rfl) (Z0 (.bool ((n8.2 == (0 : Int)))) rfl rfl (Zk rfl) ?_)))
       iterate 3 refine L_s rfl rfl rfl l9 rfl ?_
       refine Z0 (.bool false) rfl rfl (Zl (b:=(n8.2 == (0:Int))) rfl (G5 l9 rfl)) (Xb (fun _=>rfl) 11 rfl (Ka fun tM nP hs=>?_));have hfr:=hfr.ext hs;have hmk:=hmk.ext hs;have o0:=o0.ext hs;have hrec_0:=hrec_0.ext hs;have u2_0_1432:=u2_0_1432.ext hs;have i6:=i6.ext hs;have g8:=g8.ext hs;have l8:=l8.ext hs;have t5:=t5.ext hs;have b1440:=b1440.ext hs;clear hs;refine Zb ?_;obtain rfl:=sinj h;exact hQ _ _ ⟨tM,hfr,hmk,o0,hrec_0,nB,i6,u2_0_1432,uE,g8,vE,l8,rfl,b1440,rfl,rfl,t5,rfl⟩
     ·clear hx
      obtain ⟨rJ,hfr,hmk,o0,hrec_0,mG,sG,u2_0_1871,xG,yG,zG,aH,cH,gH,lK,aG,bG,cG⟩:=hR;rcases Zt h with ⟨eG,h⟩ | ⟨eG,h⟩
      ·refine Ta (Eq.trans (show ev _ _ = .bool (zB) from cG) (congrArg Value.bool eG)) (Za (Zg (Iz (4)) rfl rfl (Zb ?_)))
       obtain rfl:=sinj h;exact hQ _ _ ⟨rJ,hfr,hmk,o0,hrec_0,mG,sG,u2_0_1871,xG,yG,zG,aH,cH,gH,rfl,aG,bG⟩
      ·refine Gs (Eq.trans (show ev _ _ = .bool (zB) from cG) (congrArg Value.bool eG)) (Zu ?_)
       obtain rfl:=sinj h;exact hQ _ _ ⟨rJ,hfr,hmk,o0,hrec_0,mG,sG,u2_0_1871,xG,yG,zG,aH,cH,gH,lK,aG,bG⟩
    ·clear hx
     obtain ⟨bI,hfr,hmk,o0,hrec_0,rF,sF,u2_0_1873,jH,aE,kH,vB,mK,nK,lH,qI,n9⟩:=hR;refine Zq h (fun (s:(List Z2) × Int × Int) e w=>∃ (g:Gh) ,Fr gI wI g w∧MkF g w rE∧RFr xE vF g w∧HB 10 g w yF (.loop { cF with state:=.busy })∧e 2=p1∧OB 2002 g w 33 (s.1:List Z2) p1∧OSF 2002 60200 0 g w 60 33 (s.1) p1∧e 3=p2∧OB 2003 g w 3 (s.2.1:Int) p2∧e 4=p3∧OB 2004 g w 44 (s.2.2:Int) p3∧e 6=zD∧OB 2006 g w 60 (n8.1:Z2) zD∧e 18=mE∧ItV prog (RA1 (α:=(Vector UInt8 8))) zE mE g.m w) (fun X1879 jJ bL h=>?_) ?_
     ·refine Z5 (Zo lH rfl (Z9 (.bool ((oB != (0 : Int)))) rfl rfl rfl rfl (Z3 ?_)))
      rcases Zt h with ⟨gG,h⟩ | ⟨gG,h⟩
      ·refine G6 gG rfl (Z5 (Z4 rfl (S7 (g := bI) isAgg33 sizeOf33 rF sF u2_0_1873 fun oP uM o1881 => (Zx (Iz ((l5).length : Int)) (Gz underlying33 rfl uM) rfl (Zo lH rfl (Z4 rfl (Gg (g := bI) (v := .slice none 0 0) sizeOf33 rF sF rfl T0 fun sJ vM hs b1882 cb => ?_)))))))
       have vC:OSF 2002 60200 0 sJ vM 60 33 ([]:List Z2) p1:=cb.osfr (rfl) OS.nil;clear cb;have hfr:=hfr.stp hs;have hmk:=hmk.stp hs;have o0:=o0.stp hs;have hrec_0:=hrec_0.stp hs rfl;have aE:=aE.stp hs rfl;have vB:=vB.stp hs rfl;have n9:=n9.stp hs;refine Z4 rfl (Gg (g:=sJ) (v:=Iz ((l5).length:Int)) sizeOf3 jH aE rfl (Zj.2 rfl) fun xM pP hs b1883 cb=>?_);clear cb;have hfr:=hfr.stp hs;have hmk:=hmk.stp hs;have o0:=o0.stp hs;have hrec_0:=hrec_0.stp hs rfl;have vC:=vC.stp hs rfl;have b1882:=b1882.stp hs rfl;have vB:=vB.stp hs rfl;have n9:=n9.stp hs;refine Z4 rfl (Gg (g:=xM) (v:=Iz (oB)) sizeOf44 kH vB rfl (Zj.2 rfl) fun sP tP hs b1884 cb=>?_);clear cb;have hfr:=hfr.stp hs;have hmk:=hmk.stp hs;have o0:=o0.stp hs;have hrec_0:=hrec_0.stp hs rfl;have vC:=vC.stp hs rfl;have b1882:=b1882.stp hs rfl;have b1883:=b1883.stp hs rfl;have n9:=n9.stp hs;refine Z3 (Ga (Gp (Tl ?_)));obtain ⟨rfl,rfl⟩:=Hd h;exact ⟨_,o0,⟨hfr,hmk,b1882,vC,b1883,b1884,n9⟩,hrec_0,rfl,0,rfl,rfl⟩
      ·refine G7 gG rfl ?_
       exact Zu (Zd (bL (l5,cC,uC) _ _ ⟨bI,hfr,hmk,o0,hrec_0,rF,sF,u2_0_1873,jH,aE,kH,vB,mK,nK,qI,n9⟩ h))
     ·rintro ⟨jG, kG, lG⟩ uO uP ⟨dI, hfr, hmk, o0, hrec_0, mH, yB, u2_0_1885, eO, lB, gO, mB, oK, pK, bO, aB⟩ h
      refine Za (Z4 rfl (S7 (g:=dI) isAgg33 sizeOf33 mH yB u2_0_1885 fun vP iI o1886=>(Z4 rfl (Tp (g:=dI) isAgg60 sizeOf60 oK pK fun bN cN=>(Z4 rfl (Z7 (g:=dI) 3050 (xs:=([n8.1]:List Z2)) (vs:=[bN]) underlying33 sizeOf60 zeroValue60 rfl rfl (.cons rfl .nil) (RVs.cons cN RVs.nil) rfl rfl fun dN xP yP hs o1888 eN hxt hfl=>?_))))));have hfr:=hfr.stp hs;have hmk:=hmk.stp hs;have o0:=o0.stp hs;have hrec_0:=hrec_0.stp hs rfl;have yB:=yB.stp hs rfl;have lB:=lB.stp hs rfl;have mB:=mB.stp hs rfl;have aB:=aB.stp hs;have iI:=iI.stp hs;have o1886:=o1886.stp hs rfl;obtain ⟨uH,dL,h⟩:=Z1 h;refine Z4 rfl (T5 (g:=dN) (i:=60200) underlying33 Vt rfl rfl o1886 iI rfl eN dL fun gN zP iN hs o1889 vJ _=>?_);have hfr:=hfr.stp hs;have hmk:=hmk.stp hs;have o0:=o0.stp hs;have hrec_0:=hrec_0.stp hs rfl;have yB:=yB.stp hs rfl;have lB:=lB.stp hs rfl;have mB:=mB.stp hs rfl;have aB:=aB.stp hs;refine Z4 rfl (Gg (g:=gN) (v:=iN) sizeOf33 mH yB rfl vJ fun jN kN hs b1891 cb=>?_);have qK:OSF 2002 60200 0 jN kN 60 33 (uH:List Z2) p1:=cb.osfr (Kq vJ) (o1889.stp hs rfl);clear cb;have hfr:=hfr.stp hs;have hmk:=hmk.stp hs;have o0:=o0.stp hs;have hrec_0:=hrec_0.stp hs rfl;have lB:=lB.stp hs rfl;have mB:=mB.stp hs rfl;have aB:=aB.stp hs;refine Zb (Tj ?_);obtain ⟨rfl,rfl⟩:=Hd h;exact ⟨_,o0,⟨hfr,hmk,b1891,qK,lB,mB,aB⟩,hrec_0,rfl,rfl⟩
   ·intro lN bQ ds1893 hsz hR hds
    obtain ⟨hfr,hmk,bE,u2_0_1893,iE,lE,cO⟩:=hR;obtain ⟨D,hdse,hD,hDb⟩:=hds.1 rfl;subst hdse;replace hmk:=MkF.push hmk0 hmk hD hDb;clear hD hDb hds;revert hmk;generalize ({ target:=.collected D,args:=#[] } :: rE:List Deferred)=jO;intro hmk;refine ⟨fun hs=>?_,fun k c hs hc=>?_⟩
    ·have hs : lD = 0 := hs
     subst hs;replace h:=N6 h rfl;exact Tj (Zd (xL (nD,oD,yD) _ _ _ ⟨lN,hfr,hmk,nB,bE,u2_0_1893,uE,iE,vE,lE⟩ h))
    ·have hs : lD = k + 1 := hs
     match k,hs,hc with
     | 0,hs,hc=>
      subst hs;obtain rfl:=sinj hc;replace h:=Oc h rfl;refine Ga (Tl (Gp (Ni (.inr rfl) hmk fun cQ dQ hs=>?_)));have hfr:=hfr.stp hs;have bE:=bE.stp hs rfl;have iE:=iE.stp hs rfl;have lE:=lE.stp hs rfl;obtain rfl:=sinj h;obtain ⟨ad1895,cv1895,hp1895,eL,cr1895⟩:=T9 isAgg33 sizeOf33 bE;obtain ⟨ad1896,cv1896,hp1896,gL,cr1896⟩:=T9 isAgg3 sizeOf3 iE;obtain rfl:=Zj.1 cr1896;obtain ⟨ad1897,cv1897,hp1897,iL,cr1897⟩:=T9 isAgg44 sizeOf44 lE;obtain rfl:=Zj.1 cr1897;exact Xv rfl rfl ((show _=p1 from nB).trans hp1895) eL ((show _=p2 from uE).trans hp1896) gL ((show _=p3 from vE).trans hp1897) iL ⟨_,hfr,_,_,_,rfl,cr1895,rfl,rfl⟩
     | n + 1,_,hc=>exact absurd hc (by simp)
  ·rintro ⟨yE, bK, cK⟩ vO kO eQ ⟨xJ, hfr, hmk, tF, nH, u2_0_1898, oH, uF, pH, bD⟩ h
   refine Z5 (Z4 rfl (S7 (g:=xJ) isAgg33 sizeOf33 tF nH u2_0_1898 fun mN zJ o1899=>(Z4 rfl (Gg (g:=xJ) (v:=mN) sizeOf33 tF nH rfl zJ fun aK nN hs b1900 cb=>?_))));have lO:OSF 2002 60200 0 aK nN 60 33 (yE:List Z2) p1:=cb.osfr (Kq zJ) (o1899.stp hs rfl);clear cb;have hfr:=hfr.stp hs;have hmk:=hmk.stp hs;have uF:=uF.stp hs rfl;have bD:=bD.stp hs rfl;refine Z4 rfl (Gg (g:=aK) (v:=Iz (0)) sizeOf3 oH uF rfl (Zj.2 rfl) fun oN gQ hs b1901 cb=>?_);clear cb;have hfr:=hfr.stp hs;have hmk:=hmk.stp hs;have b1900:=b1900.stp hs rfl;have bD:=bD.stp hs rfl;refine Z4 rfl (Gg (g:=oN) (v:=Iz (0)) sizeOf44 pH bD rfl (Zj.2 rfl) fun iQ jQ hs b1902 cb=>?_);clear cb;have hfr:=hfr.stp hs;have hmk:=hmk.stp hs;have b1900:=b1900.stp hs rfl;have b1901:=b1901.stp hs rfl;refine Z3 (Ga (Ni (.inr rfl) hmk fun kQ lQ hs=>?_));have hfr:=hfr.stp hs;have b1900:=b1900.stp hs rfl;have b1901:=b1901.stp hs rfl;have b1902:=b1902.stp hs rfl;obtain rfl:=sinj h;obtain ⟨ad1904,cv1904,hp1904,jL,cr1904⟩:=T9 isAgg33 sizeOf33 b1900;obtain ⟨ad1905,cv1905,hp1905,lL,cr1905⟩:=T9 isAgg3 sizeOf3 b1901;obtain rfl:=Zj.1 cr1905;obtain ⟨ad1906,cv1906,hp1906,mL,cr1906⟩:=T9 isAgg44 sizeOf44 b1902;obtain rfl:=Zj.1 cr1906;exact Xv rfl rfl ((show _=p1 from tF).trans hp1904) jL ((show _=p2 from oH).trans hp1905) lL ((show _=p3 from pH).trans hp1906) mL ⟨_,hfr,_,_,_,rfl,cr1904,rfl,rfl⟩
def f19 (x0:List (List UInt8)):Option ((List Z2) × Int × Int):=
 jn (σ:=Unit) (fun _=>
  jn (σ:=(List (List Z2))) (fun i6=>
   jn (σ:=(List Z2)) (fun cD=>
    jn (σ:=Unit) (fun _=>
     (f40 cD ((fun a0 a1=>f22 a0 a1))).bind fun jM=>
     some (jM,(0:Int),(0:Int))
     ) fun kM=>
    bif (decide (((cD).length : Int) > (100 : Int))) then
     some (([]:List Z2),(0:Int),(5:Int))
    else
     kM ()
    ) fun pM=>
   lp (σ:=(List Z2) × (List (Th × Z2)) × Int) (fun qM (xE,sG,t5)=>
    bif (decide (t5 < ((i6).length : Int))) then
     jn (σ:=(List Z2) × (List (Th × Z2))) (fun (jG,dF)=>
      qM (jG,dF,(w64 (t5 + (1:Int))))
      ) fun rM=>
     (idx i6 t5).bind fun yB=>
     lp (σ:=(List Z2) × (List (Th × Z2)) × Int) (fun sM (zB,l5,n8)=>
      bif (decide (n8 < ((yB).length : Int))) then
       jn (σ:=(List Z2) × (List (Th × Z2))) (fun (kG,eF)=>
        sM (kG,eF,(w64 (n8 + (1:Int))))
        ) fun sI=>
       (idx yB n8).bind fun o0=>
       jn (σ:=Unit) (fun _=>
        bif (!((Wb l5 ((⟨(o0).Day, (o0).Loom⟩ : Th))).isSome)) then
         (apnd 40 zB (([o0]:List Z2))).bind fun jJ=>
         sI (jJ,(H0 l5 ((⟨(o0).Day,(o0).Loom⟩:Th)) o0))
        else
         sI (zB,l5)
        ) fun tM=>
       Option.bind (α:=Bool) (
        bif ((Wb l5 ((⟨(o0).Day, (o0).Loom⟩ : Th))).isSome) then
         some ((!(decide (((Wb l5 ((⟨(o0).Day,(o0).Loom⟩:Th))).getD (⟨0,0,0,0,0⟩:Z2))=o0))))
        else
         some (false)
        ) fun lD=>
       bif lD then
        some (([]:List Z2),t5,(6:Int))
       else
        tM ()
      else
       rM (zB,l5)
      ) big (xE,sG,(0:Int))
    else
     pM (xE)
    ) big (([]:List Z2),([]:List (Th × Z2)),(0:Int))
   ) fun eP=>
  lp (σ:=(List (List Z2)) × Int) (fun gP (lE,g8)=>
   bif (decide (g8 < ((x0).length : Int))) then
    jn (σ:=(List (List Z2))) (fun qH=>
     gP (qH,(w64 (g8 + (1:Int))))
     ) fun iP=>
    (idx x0 g8).bind fun jP=>
    (f9 jP).bind fun cC=>
    jn (σ:=Unit) (fun _=>
     (apnd 24 lE (([cC.1]:List (List Z2)))).bind fun uM=>
     iP (uM)
     ) fun k80=>
    bif (cC.2.2 != (0 : Int)) then
     some (([]:List Z2),g8,cC.2.2)
    else
     k80 ()
   else
    eP (lE)
   ) big ([],(0:Int))
  ) fun k5=>
 bif (decide (((x0).length : Int) > (10 : Int))) then
  some (([]:List Z2),(0:Int),(5:Int))
 else
  k5 ()
theorem en19:Enters prog 19:=enters_of func19 (by kernel_rfl) rfl
theorem wk19 {gI:Gh} {wI:World} {x0:List (List UInt8)} {up0:Value} (rp0:RV gI.m wI x0 up0) {r:(List Z2) × Int × Int} (h:f19 x0=some r):Fn prog 19 #[up0] gI wI (fun m w v=>∃ y0 y1 y2,v=.tuple #[y0,y1,y2]∧RV m w (r.1) y0∧y1=Iz (r.2.1)∧y2=Iz (r.2.2)):=by
 unfold f19 at h;refine fnE func19 rfl rfl fun g0 hm hfr=>?_;have rp0:=RVc hm rp0;show E _ 95 none _ _ _ _ _;refine Z5 (Zg (.slice none 0 0) rfl rfl ?_);have b1:OA 4002 g0 wI 60 ([]:List Z2) (.slice none 0 0):=OA.nil;refine Zg (Iz (0)) rfl rfl (Zg (Iz (0)) rfl rfl (Z3 (Zq h (fun (s:Unit) e w=>∃ (g:Gh) ,Fr gI wI g w∧e 0=up0∧RV g.m w (x0:List (List UInt8)) up0∧e 2=.slice none 0 0∧OA 4002 g w 60 (([]:List Z2):List Z2) (Value.slice none 0 0)) (fun X5 k5 hk5 h=>?_) ?_)))
 ·refine Z5 (Zn up0 rfl rfl (Zx (Iz ((x0).length : Int)) (Gz underlying39 rfl rp0) rfl (Z9 (.bool ((decide (((x0).length : Int) > (10 : Int))))) rfl rfl rfl rfl (Z3 ?_))))
  rcases Zt h with ⟨hc6,h⟩ | ⟨hc6,h⟩
  ·refine G6 hc6 rfl (Z5 (Zg (.slice none 0 0) rfl rfl ?_))
   have b7:OA 4002 g0 wI 60 ([]:List Z2) (.slice none 0 0):=OA.nil;refine Zg (Iz (0)) rfl rfl (Zg (Iz (5)) rfl rfl (Z3 (Ga (Gp ?_))));obtain ⟨gp8,hs,rp8⟩:=OM.pub (b7.toM);have hfr:=hfr.stp hs;obtain rfl:=sinj h;exact Ya rfl rfl (rq (.slice none 0 0)) (rq (Iz (0))) (rq (Iz (5))) ⟨_,hfr,_,_,_,rfl,rp8,rfl,rfl⟩
  ·refine G7 hc6 rfl ?_
   exact Zu (Zd (hk5 () _ _ ⟨g0,hfr,rfl,rp0,rfl,b1⟩ h))
 ·rintro _ sT w9 ⟨g9, hfr, mP, vM, nP, oP⟩ h
  refine Z5 (Zg (.slice none 0 0) rfl rfl (Z3 (Zq h (fun (s:(List (List Z2))) e w=>∃ (g:Gh) (v5:Value),Fr gI wI g w∧e 2=.slice none 0 0∧OA 4002 g w 60 (([]:List Z2):List Z2) (Value.slice none 0 0)∧e 5=v5∧RV g.m w (s:List (List Z2)) v5∧OS 1005 g w 33 (s:List (List Z2)) v5) (fun X49 eP pP h=>?_) ?_)))
  ·refine Z5 (Zo mP rfl (Zx (Iz ((x0).length : Int)) (Gz underlying39 rfl vM) rfl (Zn (Iz (0)) rfl rfl (Z3 (Zr (Q0 h (fun (s : (List (List Z2)) × Int) e w => ∃ (g : Gh) (v5 : Value), Fr gI wI g w ∧ e 2 = .slice none 0 0 ∧ OA 4002 g w 60 (([] : List Z2) : List Z2) (Value.slice none 0 0) ∧ e 5 = v5 ∧ RV g.m w (s.1 : List (List Z2)) v5 ∧ OS 1005 g w 33 (s.1 : List (List Z2)) v5 ∧ e 21 = up0 ∧ RV g.m w (x0 : List (List UInt8)) up0 ∧ e 22 = Iz (((x0).length : Int)) ∧ e 23 = Iz (s.2)) ⟨g9, (.slice none 0 0), hfr, nP, oP, rfl, T0, OS.nil, rfl, vM, rfl, rfl⟩ (fun X50 gP sP => ?_)))))))
   rintro ⟨lE,g8⟩ cS tT ⟨xM,bG,hfr,rJ,cG,sJ,eG,gG,dI,aE,iI,yE⟩ h;refine Z5 (Z9 (.bool ((decide (g8 < ((x0).length:Int))))) yE iI rfl rfl (Z3 (Zf ?_)));rcases Zt h with ⟨kJ,h⟩ | ⟨kJ,h⟩
   ·refine G6 kJ rfl (Zu (Zd (Zq h (fun (s : (List (List Z2))) e w => ∃ (g : Gh) (v5 : Value), Fr gI wI g w ∧ e 2 = .slice none 0 0 ∧ OA 4002 g w 60 (([] : List Z2) : List Z2) (Value.slice none 0 0) ∧ e 5 = v5 ∧ RV g.m w (s : List (List Z2)) v5 ∧ OS 1005 g w 33 (s : List (List Z2)) v5 ∧ e 21 = up0 ∧ RV g.m w (x0 : List (List UInt8)) up0 ∧ e 22 = Iz (((x0).length : Int)) ∧ e 23 = Iz (g8)) (fun X71 iP tP h => ?_) ?_)))
    ·refine Zr (Z5 (Zo yE rfl ?_))
     obtain ⟨jP,bN,h⟩:=Z1 h;refine Zx (Tb up0 g8 1) (Zh (α:=List UInt8) underlying39 sizeOf43 dI aE yE bN) rfl ?_;have eR:=Gx aE bN;refine Z4 rfl (Z6 (g:=xM) isAgg43 sizeOf43 rfl eR fun cN gR=>(Zg (Iz (g8)) rfl rfl (Zg cN rfl rfl (Z3 (Z5 (Zn cN rfl rfl ?_))))));obtain ⟨cC,uP,h⟩:=Z1 h;refine Z4 rfl (Zp (g:=xM) (vs:=[cN]) en9 (.cons rfl .nil) (wk9 gR uP) fun kP vP uT hs hr=>?_);have hfr:=hfr.ext hs;have cG:=cG.ext hs;have eG:=eG.ext hs;have gG:=gG.ext hs;have aE:=aE.ext hs;obtain ⟨mE,pR,qR,rfl,dO,rfl,rfl⟩:=hr;refine Zn (.tuple #[mE,Iz (cC.2.1),Iz (cC.2.2)]) rfl rfl (Zx mE (Zi rfl rfl) rfl (Zx (Iz (cC.2.1)) (Zi rfl rfl) rfl (Zx (Iz (cC.2.2)) (Zi rfl rfl) rfl (Zg mE rfl rfl (Zg (Iz (cC.2.1)) rfl rfl (Zg (Iz (cC.2.2)) rfl rfl (Z3 (Zq h (fun (s:Unit) e w=>∃ (g:Gh) ,Fr gI wI g w∧e 2=.slice none 0 0∧OA 4002 g w 60 (([]:List Z2):List Z2) (Value.slice none 0 0)∧e 5=bG∧RV g.m w (lE:List (List Z2)) bG∧OS 1005 g w 33 (lE:List (List Z2)) bG∧e 8=mE∧RV g.m w (cC.1:List Z2) mE∧e 21=up0∧RV g.m w (x0:List (List UInt8)) up0∧e 22=Iz (((x0).length:Int))∧e 23=Iz (g8)) (fun X80 k80 xP h=>?_) ?_))))))))
     ·refine Z5 (Zn (Iz (cC.2.2)) rfl rfl (Z9 (.bool ((cC.2.2 != (0 : Int)))) rfl rfl rfl rfl (Z3 ?_)))
      rcases Zt h with ⟨lJ,h⟩ | ⟨lJ,h⟩
      ·refine G6 lJ rfl (Z5 (Zn (Iz (g8)) rfl rfl (Zn (Iz (cC.2.2)) rfl rfl (Zg (.slice none 0 0) rfl rfl ?_))))
       have b82:OA 4002 kP vP 60 ([]:List Z2) (.slice none 0 0):=OA.nil;refine Zg (Iz (g8)) rfl rfl (Zg (Iz (cC.2.2)) rfl rfl (Z3 (Ga (Gp (Tl (Gp (Gp (Tl (Gp ?_)))))))));obtain ⟨gp83,hs,rp83⟩:=OM.pub (b82.toM);have hfr:=hfr.stp hs;obtain rfl:=sinj h;exact Ya rfl rfl (rq (.slice none 0 0)) (rq (Iz (g8))) (rq (Iz (cC.2.2))) ⟨_,hfr,_,_,_,rfl,rp83,rfl,rfl⟩
      ·refine G7 lJ rfl ?_
       exact Zu (Zd (xP () _ _ ⟨kP,hfr,rJ,cG,sJ,eG,gG,rfl,dO,dI,aE,iI,yE⟩ h))
     ·rintro _ dS xT ⟨iR, hfr, eO, zD, gO, zE, cF, jO, kO, dN, vC, eN, gN⟩ h
      refine Za (Zo gO rfl (Zo jO rfl (Z4 rfl (Ru (g:=iR) 4040 (xs:=([cC.1]:List (List Z2))) (vs:=[mE]) underlying132 sizeOf33 zeroValue33 rfl rfl (.cons rfl .nil) (RVs.cons kO RVs.nil) rfl rfl fun yT zT aU hs b85 _=>?_))));have hfr:=hfr.stp hs;have zD:=zD.stp hs rfl;have zE:=zE.stp hs;have cF:=cF.stp hs rfl;have vC:=vC.stp hs;obtain ⟨gp86,hs,rp86⟩:=OM.pub (b85.toM);have hfr:=hfr.stp hs;have zD:=zD.stp hs rfl;have zE:=zE.stp hs;have cF:=cF.stp hs rfl;have vC:=vC.stp hs;obtain ⟨uM,yP,h⟩:=Z1 h;refine Z4 rfl (T5 (g:=gp86) (i:=1005) underlying132 info_33 rfl rfl cF zE rfl rp86 yP fun jR bU lP hs o87 lR _=>?_);have hfr:=hfr.stp hs;have zD:=zD.stp hs rfl;have vC:=vC.stp hs;refine Zg lP rfl rfl ?_;exact Zb (Tj (Zd (tP (uM) _ _ ⟨jR,(lP),hfr,eO,zD,rfl,lR,o87,dN,vC,eN,gN⟩ h)))
    ·rintro qH eS cU ⟨mR, lO, hfr, mO, nO, oO, pO, qO, iN, jN, kN, lN⟩ h
     refine Za (Z9 (Iz ((w64 (g8 + (1:Int))))) lN rfl rfl rfl (Zn (Iz ((w64 (g8 + (1:Int))))) rfl rfl ?_));exact Z3 (sP (qH,(w64 (g8 + (1:Int)))) _ _ ⟨mR,(lO),hfr,mO,nO,oO,pO,qO,iN,jN,kN,rfl⟩ h)
   ·refine G7 kJ rfl (Tn (Gu (Gu (G8 ?_))))
    exact Zd (pP (lE) _ _ ⟨xM,(bG),hfr,rJ,cG,sJ,eG,gG⟩ h)
  ·rintro i6 gS dU ⟨nR, l8, hfr, rO, sH, sO, iG, tH⟩ h
   refine Z5 (Z4 rfl (Ci (g:=nR) (Ur J9) Z2 8043 fun oR eU nD hs m91=>?_));have hfr:=hfr.stp hs;have sH:=sH.stp hs rfl;have iG:=iG.stp hs;have tH:=tH.stp hs rfl;refine Zg nD rfl rfl (Z3 (Zq h (fun (s:(List Z2)) e w=>∃ (g:Gh) (v2:Value),Fr gI wI g w∧e 2=v2∧OA 4002 g w 60 (s:List Z2) v2) (fun X301 pM tO h=>?_) ?_))
   ·refine Z5 (Zo sO rfl (Zx (Iz ((i6).length : Int)) (Gz underlying132 rfl iG) rfl (Zn (Iz (0)) rfl rfl (Z3 (Zr (Q0 h (fun (s : (List Z2) × (List (Th × Z2)) × Int) e w => ∃ (g : Gh) (v2 : Value), Fr gI wI g w ∧ e 2 = v2 ∧ OA 4002 g w 60 (s.1 : List Z2) v2 ∧ e 11 = nD ∧ MP (Ur J9) 8043 g w (s.2.1 : List (Th × Z2)) nD ∧ e 44 = l8 ∧ RV g.m w (i6 : List (List Z2)) l8 ∧ OS 1005 g w 33 (i6 : List (List Z2)) l8 ∧ e 45 = Iz (((i6).length : Int)) ∧ e 46 = Iz (s.2.2)) ⟨oR, (.slice none 0 0), hfr, rO, sH, rfl, m91, rfl, iG, tH, rfl, rfl⟩ (fun X302 qM uO => ?_)))))))
    rintro ⟨xE,sG,t5⟩ rR iS ⟨mJ,jI,hfr,kI,lI,aK,bK,xG,rF,cK,yG,oE⟩ h;refine Z5 (Z9 (.bool ((decide (t5 < ((i6).length:Int))))) oE yG rfl rfl (Z3 (Zf ?_)));rcases Zt h with ⟨uH,h⟩ | ⟨uH,h⟩
    ·refine G6 uH rfl (Zu (Zd (Zq h (fun (s : (List Z2) × (List (Th × Z2))) e w => ∃ (g : Gh) (v2 : Value), Fr gI wI g w ∧ e 2 = v2 ∧ OA 4002 g w 60 (s.1 : List Z2) v2 ∧ e 11 = nD ∧ MP (Ur J9) 8043 g w (s.2 : List (Th × Z2)) nD ∧ e 44 = l8 ∧ RV g.m w (i6 : List (List Z2)) l8 ∧ OS 1005 g w 33 (i6 : List (List Z2)) l8 ∧ e 45 = Iz (((i6).length : Int)) ∧ e 46 = Iz (t5)) (fun X407 rM vO h => ?_) ?_)))
     ·refine Zr (Z5 (Zo oE rfl ?_))
      obtain ⟨yB,vJ,h⟩:=Z1 h;refine Zx (Tb l8 t5 1) (Zh (α:=List Z2) underlying132 sizeOf33 xG rF oE vJ) rfl ?_;have zP:=Gx rF vJ;refine Z4 rfl (Z6 (g:=mJ) isAgg33 sizeOf33 rfl zP fun bD mN=>(Zg (Iz (t5)) rfl rfl (Zg bD rfl rfl (Z3 (Z5 (Zn bD rfl rfl (Zx (Iz ((yB).length:Int)) (Gz underlying33 rfl mN) rfl (Zn (Iz (0)) rfl rfl (Z3 (Zr (Q0 h (fun (s:(List Z2) × (List (Th × Z2)) × Int) e w=>∃ (g:Gh) (v2:Value),Fr gI wI g w∧e 2=v2∧OA 4002 g w 60 (s.1:List Z2) v2∧e 11=nD∧MP (Ur J9) 8043 g w (s.2.1:List (Th × Z2)) nD∧e 12=Iz (t5)∧e 44=l8∧RV g.m w (i6:List (List Z2)) l8∧OS 1005 g w 33 (i6:List (List Z2)) l8∧e 45=Iz (((i6).length:Int))∧e 46=Iz (t5)∧e 51=bD∧RV g.m w (yB:List Z2) bD∧e 52=Iz (((yB).length:Int))∧e 53=Iz (s.2.2)) ⟨mJ,(jI),hfr,kI,lI,aK,bK,rfl,xG,rF,cK,yG,oE,rfl,mN,rfl,rfl⟩ (fun X411 sM xO=>?_))))))))))));rintro ⟨zB,l5,n8⟩ tR jS ⟨nJ,oD,hfr,lG,lB,rE,v8,zG,sF,n9,aB,tF,uF,vF,l9,xF,uE⟩ h;refine Z5 (Z9 (.bool ((decide (n8 < ((yB).length:Int))))) uE xF rfl rfl (Z3 (Zf ?_)));rcases Zt h with ⟨xH,h⟩ | ⟨xH,h⟩
      ·refine G6 xH rfl (Zu (Zd (Zq h (fun (s : (List Z2) × (List (Th × Z2))) e w => ∃ (g : Gh) (v2 : Value), Fr gI wI g w ∧ e 2 = v2 ∧ OA 4002 g w 60 (s.1 : List Z2) v2 ∧ e 11 = nD ∧ MP (Ur J9) 8043 g w (s.2 : List (Th × Z2)) nD ∧ e 12 = Iz (t5) ∧ e 44 = l8 ∧ RV g.m w (i6 : List (List Z2)) l8 ∧ OS 1005 g w 33 (i6 : List (List Z2)) l8 ∧ e 45 = Iz (((i6).length : Int)) ∧ e 46 = Iz (t5) ∧ e 51 = bD ∧ RV g.m w (yB : List Z2) bD ∧ e 52 = Iz (((yB).length : Int)) ∧ e 53 = Iz (n8)) (fun X461 sI xJ h => ?_) ?_)))
       ·refine Zr (Z5 ?_)
        obtain ⟨o0,zJ,h⟩:=Z1 h;refine Zx (Tb bD n8 5) (Zh (α:=Z2) underlying33 sizeOf60 vF l9 uE zJ) rfl ?_;have bQ:=Gx l9 zJ;refine Z4 rfl (Z6 (g:=nJ) isAgg60 sizeOf60 rfl bQ fun cQ oJ=>(Z4 rfl (G2 (g:=nJ) 2015 (⟨0,0,0,0,0⟩:Z2) zeroValue60 (fun m w=>⟨_,(Gb Zw (Gb Zw (Gb Zw (Gb Zw Zw)))),rfl⟩) fun dQ lS bE hs b465 cb=>?_)));have hfr:=hfr.stp hs;have lB:=lB.stp hs rfl;have v8:=v8.stp hs rfl;have n9:=n9.stp hs;have aB:=aB.stp hs rfl;have l9:=l9.stp hs;have oJ:=oJ.stp hs;clear cb;refine Z4 rfl (Gg (g:=dQ) (v:=cQ) sizeOf60 rfl b465 rfl oJ fun mG eQ hs b466 cb=>?_);clear cb;have hfr:=hfr.stp hs;have lB:=lB.stp hs rfl;have v8:=v8.stp hs rfl;have n9:=n9.stp hs;have aB:=aB.stp hs rfl;have l9:=l9.stp hs;refine Z3 (Z5 (Zo rE rfl (Zx (Z8 bE 0) (Zc Yd rfl (OB.ptr b466)) rfl (Z4 rfl (Qt (g:=mG) Qz.1 isAgg3 sizeOf3 rfl b466 fun mS gQ=>?_)))));obtain rfl:=Zj.1 gQ;refine Zx (Z8 bE 1) (Zc Hw rfl (OB.ptr b466)) rfl (Z4 rfl (Qt (g:=mG) Qg.1 isAgg3 sizeOf3 rfl b466 fun nS iQ=>?_));obtain rfl:=Zj.1 iQ;have nN:RV mG.m eQ (⟨(o0).Day,(o0).Loom⟩:Th) (.agg (Td [[Iz 0],[Iz 0]] [(0,Iz ((o0).Day)),(1,Iz ((o0).Loom))]).flatten.toArray):=Tc rfl (Gm (rfl) (Tf (rfl)));generalize yO:(Value.agg (Td [[Iz 0],[Iz 0]] [(0,Iz ((o0).Day)),(1,Iz ((o0).Loom))]).flatten.toArray)=jQ at nN;refine Zx jQ (yO ▸ Tu (vs:=[(0,Iz ((o0).Day)),(1,Iz ((o0).Loom))]) [[Iz 0],[Iz 0]] Me rfl rfl (.cons rfl (.cons rfl .nil)) ⟨⟨_,rfl,rfl⟩,⟨⟨_,rfl,rfl⟩,trivial⟩⟩) rfl (Z4 rfl (P0 (g:=mG) (z0:=(⟨0,0,0,0,0⟩:Z2)) underlying133 Au zeroValue60 (fun m w=>⟨_,(Gb Zw (Gb Zw (Gb Zw (Gb Zw Zw)))),rfl⟩) rfl v8 (rfl.trans (Mu J9 nN)) fun pJ qJ=>(Zn (.tuple #[pJ,.bool ((Wb l5 ((⟨(o0).Day,(o0).Loom⟩:Th))).isSome)]) rfl rfl (Zx pJ (Zi rfl rfl) rfl (Zx (.bool ((Wb l5 ((⟨(o0).Day,(o0).Loom⟩:Th))).isSome)) (Zi rfl rfl) rfl (Z4 rfl (G2 (g:=mG) 2016 (⟨0,0,0,0,0⟩:Z2) zeroValue60 (fun m w=>⟨_,(Gb Zw (Gb Zw (Gb Zw (Gb Zw Zw)))),rfl⟩) fun kQ oS pS hs b473 cb=>?_)))))));have hfr:=hfr.stp hs;have lB:=lB.stp hs rfl;have v8:=v8.stp hs rfl;have n9:=n9.stp hs;have aB:=aB.stp hs rfl;have l9:=l9.stp hs;have b466:=b466.stp hs rfl;have qJ:=qJ.stp hs;clear cb;refine Z4 rfl (Gg (g:=kQ) (v:=pJ) sizeOf60 rfl b473 rfl qJ fun yH qS hs b474 cb=>?_);clear cb;have hfr:=hfr.stp hs;have lB:=lB.stp hs rfl;have v8:=v8.stp hs rfl;have n9:=n9.stp hs;have aB:=aB.stp hs rfl;have l9:=l9.stp hs;have b466:=b466.stp hs rfl;refine Zg (.bool ((Wb l5 ((⟨(o0).Day,(o0).Loom⟩:Th))).isSome)) rfl rfl (Z3 (Zq h (fun (s:Unit) e w=>∃ (g:Gh) ,Fr gI wI g w∧e 2=oD∧OA 4002 g w 60 (zB:List Z2) oD∧e 11=nD∧MP (Ur J9) 8043 g w (l5:List (Th × Z2)) nD∧e 12=Iz (t5)∧e 15=bE∧OB 2015 g w 60 (o0:Z2) bE∧e 17=.bool (((Wb l5 ((⟨(o0).Day,(o0).Loom⟩:Th))).isSome))∧e 44=l8∧RV g.m w (i6:List (List Z2)) l8∧OS 1005 g w 33 (i6:List (List Z2)) l8∧e 45=Iz (((i6).length:Int))∧e 46=Iz (t5)∧e 51=bD∧RV g.m w (yB:List Z2) bD∧e 52=Iz (((yB).length:Int))∧e 53=Iz (n8)) (fun X485 tM zO h=>?_) ?_))
        ·obtain ⟨lD, hx, h⟩ := Z1 h
         refine Gl (fun e w=>∃ (g:Gh) ,Fr gI wI g w∧e 2=oD∧OA 4002 g w 60 (zB:List Z2) oD∧e 11=nD∧MP (Ur J9) 8043 g w (l5:List (Th × Z2)) nD∧e 12=Iz (t5)∧e 15=bE∧OB 2015 g w 60 (o0:Z2) bE∧e 17=.bool (((Wb l5 ((⟨(o0).Day,(o0).Loom⟩:Th))).isSome))∧e 44=l8∧RV g.m w (i6:List (List Z2)) l8∧OS 1005 g w 33 (i6:List (List Z2)) l8∧e 45=Iz (((i6).length:Int))∧e 46=Iz (t5)∧e 51=bD∧RV g.m w (yB:List Z2) bD∧e 52=Iz (((yB).length:Int))∧e 53=Iz (n8)∧e 72=.bool (lD)) (fun Q' hQ=>?_) (fun uR lQ hR=>?_)
         ·replace h := hx
          clear hx;refine Za (Zn (.bool ((Wb l5 ((⟨(o0).Day,(o0).Loom⟩:Th))).isSome)) rfl rfl (Zn (.bool ((Wb l5 ((⟨(o0).Day,(o0).Loom⟩:Th))).isSome)) rfl rfl ?_));rcases Zt h with ⟨uC,h⟩ | ⟨uC,h⟩
          ·refine Ze (.yes2 rfl rfl uC) rfl (Tp (g := yH) isAgg60 sizeOf60 rfl b474 fun rS mQ => (Ze (.yes2 rfl rfl uC) rfl (Tp (g := yH) isAgg60 sizeOf60 rfl b466 fun sS nQ => (Zy (.bool ((!(decide (((Wb l5 ((⟨(o0).Day, (o0).Loom⟩ : Th))).getD (⟨0, 0, 0, 0, 0⟩ : Z2)) = o0))))) (P_sne Om rfl eg_60 rfl rfl mQ nQ) rfl rfl uC rfl (Zx (.bool ((!(decide (((Wb l5 ((⟨(o0).Day, (o0).Loom⟩ : Th))).getD (⟨0, 0, 0, 0, 0⟩ : Z2)) = o0))))) (Zl (b := ((Wb l5 ((⟨(o0).Day, (o0).Loom⟩ : Th))).isSome)) rfl (G4 uC rfl)) rfl (Zb ?_))))))
           obtain rfl:=sinj h;exact hQ _ _ ⟨yH,hfr,lG,lB,rE,v8,zG,rfl,b466,rfl,sF,n9,aB,tF,uF,vF,l9,xF,uE,rfl⟩
          ·refine Zz rfl rfl uC rfl rfl (Zz rfl rfl uC rfl rfl (Zz rfl rfl uC rfl rfl (Zx (.bool false) (Zl (b := ((Wb l5 ((⟨(o0).Day, (o0).Loom⟩ : Th))).isSome)) rfl (G5 uC rfl)) rfl (Zb ?_))))
           obtain rfl:=sinj h;exact hQ _ _ ⟨yH,hfr,lG,lB,rE,v8,zG,rfl,b466,rfl,sF,n9,aB,tF,uF,vF,l9,xF,uE,rfl⟩
         ·clear hx
          obtain ⟨oN,hfr,pN,qN,dK,lK,aH,mK,nK,oK,pK,qK,sK,tK,uK,vK,xK,yK,zK,cH⟩:=hR;rcases Zt h with ⟨zH,h⟩ | ⟨zH,h⟩
          ·refine Ta (Eq.trans (show ev _ _ = .bool (lD) from cH) (congrArg Value.bool zH)) (Z5 (Zo aH rfl (Zg (.slice none 0 0) rfl rfl ?_)))
           have b494:OA 4002 oN lQ 60 ([]:List Z2) (.slice none 0 0):=OA.nil;refine Zg (Iz (t5)) rfl rfl (Zg (Iz (6)) rfl rfl (Z3 (Ga (Gp (Tl (Gp (Gp (Tl (Tl (Gp (Gp (Tl (Gp ?_)))))))))))));obtain ⟨gp495,hs,rp495⟩:=OM.pub (b494.toM);have hfr:=hfr.stp hs;obtain rfl:=sinj h;exact Ya rfl rfl (rq (.slice none 0 0)) (rq (Iz (t5))) (rq (Iz (6))) ⟨_,hfr,_,_,_,rfl,rp495,rfl,rfl⟩
          ·refine Gs (Eq.trans (show ev _ _ = .bool (lD) from cH) (congrArg Value.bool zH)) ?_
           exact Zu (Zd (zO () _ _ ⟨oN,hfr,pN,qN,dK,lK,aH,mK,nK,oK,pK,qK,sK,tK,uK,vK,xK,yK,zK⟩ h))
        ·rintro _ vR oQ ⟨yF, hfr, mI, yD, aG, gH, jH, vE, mB, aL, kH, nB, oB, lH, mH, nH, vB, oH, pH⟩ h
         refine Z5 (Zx (.bool (((Wb l5 ((⟨(o0).Day,(o0).Loom⟩:Th))).isSome))) (Zk aL) rfl (Zx (.bool (!((Wb l5 ((⟨(o0).Day,(o0).Loom⟩:Th))).isSome))) (Qm rfl) rfl (Z3 ?_)));rcases Zt h with ⟨aI,h⟩ | ⟨aI,h⟩
         ·refine G6 aI rfl (Z5 (Zo aG rfl (Zx (Z8 bE 0) (Zc Yd vE (OB.ptr mB)) rfl (Z4 rfl (Qt (g := yF) Qz.1 isAgg3 sizeOf3 rfl mB fun tS pQ => ?_)))))
          obtain rfl:=Zj.1 pQ;refine Zx (Z8 bE 1) (Zc Hw vE (OB.ptr mB)) rfl (Z4 rfl (Qt (g:=yF) Qg.1 isAgg3 sizeOf3 rfl mB fun uS qQ=>?_));obtain rfl:=Zj.1 qQ;have rN:RV yF.m oQ (⟨(o0).Day,(o0).Loom⟩:Th) (.agg (Td [[Iz 0],[Iz 0]] [(0,Iz ((o0).Day)),(1,Iz ((o0).Loom))]).flatten.toArray):=Tc rfl (Gm (rfl) (Tf (rfl)));generalize aP:(Value.agg (Td [[Iz 0],[Iz 0]] [(0,Iz ((o0).Day)),(1,Iz ((o0).Loom))]).flatten.toArray)=rQ at rN;refine Zx rQ (aP ▸ Tu (vs:=[(0,Iz ((o0).Day)),(1,Iz ((o0).Loom))]) [[Iz 0],[Iz 0]] Me rfl rfl (.cons rfl (.cons rfl .nil)) ⟨⟨_,rfl,rfl⟩,⟨⟨_,rfl,rfl⟩,trivial⟩⟩) rfl (Z4 rfl (Tp (g:=yF) isAgg60 sizeOf60 vE mB fun vS sQ=>(Z4 rfl (Bh (g:=yF) underlying133 Au rfl gH (rfl.trans (Mu J9 rN)) rfl sQ fun sN xS hs m504=>?_))));have hfr:=hfr.stp hs;have yD:=yD.stp hs rfl;have mB:=mB.stp hs rfl;have nB:=nB.stp hs;have oB:=oB.stp hs rfl;have vB:=vB.stp hs;refine Z3 (Za (Zo mI rfl (Z4 rfl (Tp (g:=sN) isAgg60 sizeOf60 vE mB fun tQ uQ=>(Z4 rfl (Z7 (g:=sN) 3085 (xs:=([o0]:List Z2)) (vs:=[tQ]) underlying33 sizeOf60 zeroValue60 rfl rfl (.cons rfl .nil) (RVs.cons uQ RVs.nil) rfl rfl fun vQ yS zS hs o506 xQ hxt hfl=>?_))))));have hfr:=hfr.stp hs;have yD:=yD.stp hs rfl;have m504:=m504.stp hs rfl;have nB:=nB.stp hs;have oB:=oB.stp hs rfl;have vB:=vB.stp hs;obtain ⟨jJ,bP,h⟩:=Z1 h;refine Z4 rfl (Ce (g:=vQ) Bw (i:=4002) underlying33 Vt rfl rfl yD rfl xQ bP fun yQ eT tN hs b507=>?_);have hfr:=hfr.stp hs;have m504:=m504.stp hs rfl;have nB:=nB.stp hs;have oB:=oB.stp hs rfl;have vB:=vB.stp hs;refine Zg tN rfl rfl ?_;exact Zb (Tj (Zd (xJ (jJ,(H0 l5 ((⟨(o0).Day,(o0).Loom⟩:Th)) o0)) _ _ ⟨yQ,(tN),hfr,rfl,b507,aG,m504,jH,kH,nB,oB,lH,mH,nH,vB,oH,pH⟩ h)))
         ·refine G7 aI rfl ?_
          exact Zu (Tj (Zd (xJ (zB,l5) _ _ ⟨yF,(oD),hfr,mI,yD,aG,gH,jH,kH,nB,oB,lH,mH,nH,vB,oH,pH⟩ h)))
       ·rintro ⟨kG, eF⟩ xR lT ⟨zQ, uN, hfr, vN, xN, bL, dL, eL, gL, iL, jL, lL, mL, nL, oL, xL, yL⟩ h
        refine Za (Z9 (Iz ((w64 (n8 + (1:Int))))) yL rfl rfl rfl (Zn (Iz ((w64 (n8 + (1:Int))))) rfl rfl ?_));exact Z3 (xO (kG,eF,(w64 (n8 + (1:Int)))) _ _ ⟨zQ,(uN),hfr,vN,xN,bL,dL,eL,gL,iL,jL,lL,mL,nL,oL,xL,rfl⟩ h)
      ·refine G7 xH rfl (Tn (Gu (Gu (G8 ?_))))
       exact Tj (Zd (vO (zB,l5) _ _ ⟨nJ,(oD),hfr,lG,lB,rE,v8,sF,n9,aB,tF,uF⟩ h))
     ·rintro ⟨jG, dF⟩ yR mT ⟨aR, yN, hfr, zN, aO, zL, aM, bM, cM, dM, eM, iM⟩ h
      refine Za (Z9 (Iz ((w64 (t5 + (1:Int))))) iM rfl rfl rfl (Zn (Iz ((w64 (t5 + (1:Int))))) rfl rfl ?_));exact Z3 (uO (jG,dF,(w64 (t5 + (1:Int)))) _ _ ⟨aR,(yN),hfr,zN,aO,zL,aM,bM,cM,dM,eM,rfl⟩ h)
    ·refine G7 uH rfl (Tn (Gu (Gu (G8 ?_))))
     exact Zd (tO (xE) _ _ ⟨mJ,(jI),hfr,kI,lI⟩ h)
   ·rintro cD zR bR ⟨bO, iE, hfr, nI, pI⟩ h
    refine Zq h (fun (s:Unit) e w=>∃ (g:Gh) ,Fr gI wI g w∧e 2=iE∧OA 4002 g w 60 (cD:List Z2) iE) (fun X515 kM cP h=>?_) ?_
    ·refine Z5 (Zo nI rfl (Zx (Iz ((cD).length : Int)) (F3 underlying33 rfl (pI.toM)) rfl (Z9 (.bool ((decide (((cD).length : Int) > (100 : Int))))) rfl rfl rfl rfl (Z3 ?_))))
     rcases Zt h with ⟨bI,h⟩ | ⟨bI,h⟩
     ·refine G6 bI rfl (Z5 (Zg (.slice none 0 0) rfl rfl ?_))
      have b517:OA 4002 bO bR 60 ([]:List Z2) (.slice none 0 0):=OA.nil;refine Zg (Iz (0)) rfl rfl (Zg (Iz (5)) rfl rfl (Z3 (Ga (Gp ?_))));obtain ⟨gp518,hs,rp518⟩:=OM.pub (b517.toM);have hfr:=hfr.stp hs;obtain rfl:=sinj h;exact Ya rfl rfl (rq (.slice none 0 0)) (rq (Iz (0))) (rq (Iz (5))) ⟨_,hfr,_,_,_,rfl,rp518,rfl,rfl⟩
     ·refine G7 bI rfl ?_
      exact Zu (Zd (cP () _ _ ⟨bO,hfr,nI,pI⟩ h))
    ·rintro _ aS nT ⟨dR, hfr, qI, cO⟩ h
     refine Z5 (Zo qI rfl ?_);obtain ⟨jM,dP,h⟩:=Z1 h;refine Z4 rfl (Jv (g:=dR) (i:=4002) (vs:=[iE,.func (.func 22) #[] #[]]) en40 (.cons rfl (.cons rfl .nil)) (wk40 (cO.toM) ⟨22,#[],#[],rfl,en22,fun g' w' hch a0 a1 b0 b1 r hu0 hu1 hr=>by exact Fn.mono (wk22 hu0 hu1  hr) fun _ _ _ h=>Zj.2 h⟩ dP) fun oT bS pT hs hr=>?_);obtain ⟨hrv,b520⟩:=hr;have hfr:=hfr.stp hs;subst hrv;refine Z3 (Z5 (Zo qI rfl (Zg iE rfl rfl (Zg (Iz (0)) rfl rfl (Zg (Iz (0)) rfl rfl (Z3 (Ga ?_)))))));obtain ⟨gp522,hs,rp522⟩:=OM.pub b520;have hfr:=hfr.stp hs;obtain rfl:=sinj h;exact Ya rfl rfl (rq iE) (rq (Iz (0))) (rq (Iz (0))) ⟨_,hfr,_,_,_,rfl,rp522,rfl,rfl⟩
def f27 (x0:PayList) (x1:Gf):Option (Gy × Int):=
 jn (σ:=Gy) (fun vB=>
  (f63 ((⟨x0⟩:Gy)) x1).bind fun l5=>
  some ((⟨x0⟩:Gy),l5)
  ) fun cC=>
 (f26 x0).bind fun o0=>
 bif (o0 != (0 : Int)) then
  some ((⟨x0⟩:Gy),o0)
 else
  cC ((⟨⟨[],[],0,0⟩⟩:Gy))
theorem en27:Enters prog 27:=enters_of func27 (by kernel_rfl) rfl
theorem wk27 {gI:Gh} {wI:World} {x0:PayList} {x1:Gf} {up0:Value} (rp0:RV gI.m wI x0 up0) {up1:Value} (rp1:RV gI.m wI x1 up1) {r:Gy × Int} (h:f27 x0 x1=some r):Fn prog 27 #[up0,up1] gI wI (fun m w v=>∃ y0 y1,v=.tuple #[y0,y1]∧RV m w (r.1) y0∧y1=Iz (r.2)):=by
 unfold f27 at h;refine fnE func27 rfl rfl fun g0 hm hfr=>?_;have rp0:=RVc hm rp0;have rp1:=RVc hm rp1;show E _ 20 none _ _ _ _ _;refine Z5 (Z4 rfl (Tv (g:=g0) rfl rp0 fun g1 w1 p1 hs q1=>?_));have hfr:=hfr.ext hs;have rp1:=rp1.ext hs;refine Z4 rfl (Tv (g:=g1) rfl rp1 fun g2 w2 p2 hs q2=>?_);have hfr:=hfr.ext hs;have q1:=q1.ext hs;refine Z4 rfl (G2 (g:=g2) 2004 (⟨⟨[],[],0,0⟩⟩:Gy) zeroValue105 (fun m w=>⟨_,(Gb G9 (Gb G9 (Gb Zw Zw))),rfl⟩) fun g3 w3 p3 hs b3 cb=>?_);have hfr:=hfr.stp hs;have q1:=q1.stp hs;have q2:=q2.stp hs;have i6:OSF 2004 60400 0 g3 w3 74 105 ([]:List Gq) p3:=cb.osf (by rfl);have g8:OSF 2004 60401 1 g3 w3 3 105 ([]:List Int) p3:=cb.osf (by rfl);clear cb;refine Zg (Iz (0)) rfl rfl (Z3 (Zq h (fun (s:Gy) e w=>∃ (g:Gh) ,Fr gI wI g w∧e 2=p1∧PT g.m w (x0:PayList) p1∧e 3=p2∧PT g.m w (x1:Gf) p2∧e 4=p3∧OB 2004 g w 105 (s:Gy) p3∧OSF 2004 60400 0 g w 74 105 (((s).PayList).Rates) p3∧OSF 2004 60401 1 g w 3 105 (((s).PayList).Extras) p3) (fun X12 cC aE h=>?_) ?_))
 ·refine Z5 (Z4 rfl (Z6 (g := g3) isAgg37 sizeOf37 rfl q1 fun yE zE => ?_))
  obtain ⟨o0,bE,h⟩:=Z1 h;refine Z4 rfl (Zp (g:=g3) (vs:=[yE]) en26 (.cons rfl .nil) (wk26 zE bE) fun n8 eF sF hs hr=>?_);have hfr:=hfr.ext hs;have q1:=q1.ext hs;have q2:=q2.ext hs;have i6:=i6.ext hs;have g8:=g8.ext hs;have b3:=b3.ext hs;subst hr;refine Zg (Iz (o0)) rfl rfl (Z3 (Z5 (Zn (Iz (o0)) rfl rfl (Z9 (.bool ((o0 != (0:Int)))) rfl rfl rfl rfl (Z3 ?_)))));rcases Zt h with ⟨l8,h⟩ | ⟨l8,h⟩
  ·refine G6 l8 rfl (Z5 (Z4 rfl (Z6 (g := n8) isAgg37 sizeOf37 rfl q1 fun nB uC => ?_)))
   have vC:RV n8.m _ (⟨x0⟩:Gy) (.agg (Td [[.slice none 0 0,.slice none 0 0,Iz 0,Iz 0]] [(0,nB)]).flatten.toArray):=Tc rfl (Tf (RV.cells uC));generalize iE:(Value.agg (Td [[.slice none 0 0,.slice none 0 0,Iz 0,Iz 0]] [(0,nB)]).flatten.toArray)=bD at vC;refine Zx bD (iE ▸ Tu (vs:=[(0,nB)]) [[.slice none 0 0,.slice none 0 0,Iz 0,Iz 0]] B4 rfl rfl (.cons rfl .nil) ⟨⟨_,rfl,Ti uC⟩,trivial⟩) rfl (Zn (Iz (o0)) rfl rfl (Z4 rfl (Gg (g:=n8) (v:=bD) sizeOf105 rfl b3 rfl vC fun tF uF hs b19 cb=>?_)));clear cb;have hfr:=hfr.stp hs;refine Zg (Iz (o0)) rfl rfl (Z3 (Ga (Gp ?_)));obtain rfl:=sinj h;obtain ⟨ad20,cv20,hp20,hl20,cr20⟩:=T9 isAgg105 sizeOf105 b19;exact Wm rfl rfl ((rq p3).trans hp20) hl20 (rq (Iz (o0))) ⟨_,hfr,_,_,rfl,cr20,rfl⟩
  ·refine G7 l8 rfl ?_
   exact Zu (Zd (aE ((⟨⟨[],[],0,0⟩⟩:Gy)) _ _ ⟨n8,hfr,rfl,q1,rfl,q2,rfl,b3,i6,g8⟩ h))
 ·rintro vB rF vF ⟨oB, hfr, v8, l9, yB, zB, n9, t5, u4_0_21, u4_1_21⟩ h
  refine Zf (Zs (x:=.tmp 2) isAgg37 sizeOf37 l9 fun aB cD lE=>?_);have lB:RV oB.m _ (⟨x0⟩:Gy) (.agg (Td [[.slice none 0 0,.slice none 0 0,Iz 0,Iz 0]] [(0,aB)]).flatten.toArray):=Tc rfl (Tf (RV.cells cD));generalize mE:(Value.agg (Td [[.slice none 0 0,.slice none 0 0,Iz 0,Iz 0]] [(0,aB)]).flatten.toArray)=lD at lB;refine Zs (x:=.tmp 2) isAgg37 sizeOf37 l9 fun mB nD oE=>?_;have oD:RV oB.m _ (⟨x0⟩:Gy) (.agg (Td [[.slice none 0 0,.slice none 0 0,Iz 0,Iz 0]] [(0,mB)]).flatten.toArray):=Tc rfl (Tf (RV.cells nD));generalize rE:(Value.agg (Td [[.slice none 0 0,.slice none 0 0,Iz 0,Iz 0]] [(0,mB)]).flatten.toArray)=yD at oD;refine Zs (x:=.tmp 3) isAgg62 sizeOf62 zB fun zD cF uE=>?_;obtain ⟨l5,vE,h⟩:=Z1 h;refine To (g:=oB) (n:=6) [(5,(fun v g w=>v=Iz (l5)))] [0,1,2,3,4,5] rfl mixed (by kernel_rfl) (⟨fun _=>Wk _,trivial⟩) (Tm (c:=aB) rfl rfl .plain (fun _ _ h=>h.ch) lE v8 (Z0 lD rfl rfl (mE ▸ Tu (vs:=[(0,aB)]) [[.slice none 0 0,.slice none 0 0,Iz 0,Iz 0]] B4 rfl rfl (.cons rfl .nil) ⟨⟨_,rfl,Ti cD⟩,trivial⟩) (Tm (c:=mB) rfl rfl .plain (fun _ _ h=>h.ch) oE v8 (Z0 yD rfl rfl (rE ▸ Tu (vs:=[(0,mB)]) [[.slice none 0 0,.slice none 0 0,Iz 0,Iz 0]] B4 rfl rfl (.cons rfl .nil) ⟨⟨_,rfl,Ti nD⟩,trivial⟩) (Tm (c:=zD) rfl rfl .plain (fun _ _ h=>h.ch) uE yB (W7 (φ:=fun v g w=>v=Iz (l5)) rfl rfl .plain (fun g w hd=>Zp (g:=g) (vs:=[yD,zD]) en63 (.cons rfl (.cons rfl .nil)) (wk63 (oD.ext hd.1) (cF.ext hd.1) vE) fun g' w' v hs hr=>⟨g',hs,hr⟩) (fun xF hv=>?_)))))));obtain ⟨_,_,_,rfl⟩:=hv;refine Ka fun dF w29 hs=>?_;have hfr:=hfr.ext hs;have t5:=t5.ext hs;have lB:=lB.ext hs;clear hs;refine Z4 rfl (Gg (g:=dF) (v:=lD) sizeOf105 n9 t5 rfl lB fun yF aG hs b39 cb=>?_);clear cb;have hfr:=hfr.stp hs;refine Zg (Iz (l5)) rfl rfl (Z3 (Ga ?_));obtain rfl:=sinj h;obtain ⟨ad40,cv40,hp40,xE,cr40⟩:=T9 isAgg105 sizeOf105 b39;exact Wm rfl rfl ((show _=p3 from n9).trans hp40) xE (show _=Iz (l5) from rfl) ⟨_,hfr,_,_,rfl,cr40,rfl⟩
def f34 (x0:PayTable):Option (Ts × Int):=
 (f70 x0).bind fun y5=>
 jn (σ:=Ts) (fun uE=>
  (f71 (y5.1)).bind fun o0=>
  (f72 (o0.1)).bind fun t5=>
  (f72 (o0.2.1)).bind fun l5=>
  jn (σ:=Ts × Bool) (fun (kJ,kI)=>
   jn (σ:=Ts) (fun uK=>
    some (uK,(0:Int))
    ) fun jM=>
   bif (!kI) then
    some ((⟨0,0,0,0⟩:Ts),(9:Int))
   else
    jM (kJ)
   ) fun lJ=>
  Option.bind (α:=Bool) (
   bif (t5.2 == (0 : Int)) then
    bif (l5.2 == (0 : Int)) then
     bif (o0.2.2.1 == (0 : Int)) then
      some ((o0.2.2.2 == (0:Int)))
     else
      some (false)
    else
     some (false)
   else
    some (false)
   ) fun xG=>
  bif xG then
   some (uE,(0:Int))
  else
   Option.bind (α:=Bool) (
    bif (t5.2 == (1 : Int)) then
     bif (l5.2 == (1 : Int)) then
      bif (o0.2.2.1 == (0 : Int)) then
       bif (o0.2.2.2 == (0 : Int)) then
        (idx (o0.1) t5.1).bind fun mJ=>
        (idx (o0.2.1) l5.1).bind fun nJ=>
        some ((mJ == nJ))
       else
        some (false)
      else
       some (false)
     else
      some (false)
    else
     some (false)
    ) fun xF=>
   bif xF then
    (idx (((y5.1).PayTable).Rows) t5.1).bind fun kM=>
    (idx kM l5.1).bind fun yB=>
    (idx (o0.1) t5.1).bind fun zB=>
    (f62 ((0:Int)) ((1000000:Int)) (([(w64 (yB - zB))]:List Int))).bind fun zJ=>
    lJ ((⟨(1:Int),t5.1,l5.1,(w64 (yB - zB))⟩:Ts),zJ)
   else
    Option.bind (α:=Bool) (
     bif (t5.2 == (1 : Int)) then
      bif (l5.2 == (0 : Int)) then
       bif (o0.2.2.2 == (0 : Int)) then
        (idx (o0.1) t5.1).bind fun nI=>
        some ((nI == (w64 (0 - o0.2.2.1))))
       else
        some (false)
      else
       some (false)
     else
      some (false)
     ) fun iE=>
    bif iE then
     (idx (((y5.1).PayTable).Across) t5.1).bind fun vE=>
     (idx (o0.1) t5.1).bind fun xE=>
     lJ ((⟨(2:Int),t5.1,0,(w64 (vE + xE))⟩:Ts),true)
    else
     Option.bind (α:=Bool) (
      bif (t5.2 == (0 : Int)) then
       bif (l5.2 == (1 : Int)) then
        bif (o0.2.2.1 == (0 : Int)) then
         (idx (o0.2.1) l5.1).bind fun pI=>
         some ((pI == (w64 (0 - o0.2.2.2))))
        else
         some (false)
       else
        some (false)
      else
       some (false)
      ) fun lE=>
     bif lE then
      (idx (((y5.1).PayTable).Down) l5.1).bind fun yE=>
      (idx (o0.2.1) l5.1).bind fun zE=>
      lJ ((⟨(3:Int),0,l5.1,(w64 (yE + zE))⟩:Ts),true)
     else
      Option.bind (α:=Bool) (
       bif (t5.2 == (0 : Int)) then
        bif (l5.2 == (0 : Int)) then
         some ((o0.2.2.1 == o0.2.2.2))
        else
         some (false)
       else
        some (false)
       ) fun mE=>
      bif mE then
       (f73 (([(w64 (((y5.1).PayTable).Total + o0.2.2.1))]:List Int))).bind fun aK=>
       lJ ((⟨(4:Int),0,0,(w64 (((y5.1).PayTable).Total + o0.2.2.1))⟩:Ts),aK)
      else
       lJ (uE,false)
  ) fun tQ=>
 bif (y5.2 != (0 : Int)) then
  some ((⟨0,0,0,0⟩:Ts),y5.2)
 else
  tQ ((⟨0,0,0,0⟩:Ts))
theorem en34:Enters prog 34:=enters_of func34 (by kernel_rfl) rfl
theorem wk34 {gI:Gh} {wI:World} {x0:PayTable} {up0:Value} (rp0:RV gI.m wI x0 up0) {r:Ts × Int} (h:f34 x0=some r):Fn prog 34 #[up0] gI wI (fun m w v=>∃ y0 y1,v=.tuple #[y0,y1]∧RV m w (r.1) y0∧y1=Iz (r.2)):=by
 unfold f34 at h;refine fnE func34 rfl rfl fun g0 hm hfr=>?_;have rp0:=RVc hm rp0;show E _ 195 none _ _ _ _ _;refine Z5 (Z4 rfl (Tv (g:=g0) rfl rp0 fun g1 w1 p1 hs q1=>?_));have hfr:=hfr.ext hs;refine Z4 rfl (G2 (g:=g1) 2002 (⟨0,0,0,0⟩:Ts) zeroValue119 (fun m w=>⟨_,(Gb Zw (Gb Zw (Gb Zw Zw))),rfl⟩) fun g2 w2 p2 hs b2 cb=>?_);have hfr:=hfr.stp hs;have q1:=q1.stp hs;clear cb;refine Zg (Iz (0)) rfl rfl (Z3 (Z5 (Z4 rfl (Z6 (g:=g2) isAgg124 sizeOf124 rfl q1 fun v3 r3=>?_))));obtain ⟨y5,hy5,h⟩:=Z1 h;refine Z4 rfl (Zp (g:=g2) (vs:=[v3]) en70 (.cons rfl .nil) (wk70 r3 hy5) fun g4 w4_ v4 hs hr=>?_);have hfr:=hfr.ext hs;have b2:=b2.ext hs;obtain ⟨zL,gU,rfl,aM,rfl⟩:=hr;refine Zn (.tuple #[zL,Iz (y5.2)]) rfl rfl (Zx zL (Zi rfl rfl) rfl (Zx (Iz (y5.2)) (Zi rfl rfl) rfl (Z4 rfl (G2 (g:=g4) 2004 (⟨⟨[],[],[],0⟩⟩:Gr) zeroValue169 (fun m w=>⟨_,(Gb G9 (Gb G9 (Gb G9 Zw))),rfl⟩) fun g6 w6 p6 hs b6 cb=>?_))));have hfr:=hfr.stp hs;have b2:=b2.stp hs rfl;have aM:=aM.stp hs;have iU:OSF 2004 60400 0 g6 w6 25 169 ([]:List (List Int)) p6:=cb.osf (by rfl);have jU:OSF 2004 60401 1 g6 w6 3 169 ([]:List Int) p6:=cb.osf (by rfl);have kU:OSF 2004 60402 2 g6 w6 3 169 ([]:List Int) p6:=cb.osf (by rfl);clear cb;refine Z4 rfl (Gg (g:=g6) (v:=zL) sizeOf169 rfl b6 rfl aM fun g7 w7 hs b7 cb=>?_);clear cb;have hfr:=hfr.stp hs;have b2:=b2.stp hs rfl;refine Zg (Iz (y5.2)) rfl rfl (Z3 (Zq h (fun (s:Ts) e w=>∃ (g:Gh) ,Fr gI wI g w∧e 2=p2∧OB 2002 g w 119 (s:Ts) p2∧e 4=p6∧OB 2004 g w 169 (y5.1:Gr) p6) (fun X12 tQ vQ h=>?_) ?_))
 ·refine Z5 (Zn (Iz (y5.2)) rfl rfl (Z9 (.bool ((y5.2 != (0 : Int)))) rfl rfl rfl rfl (Z3 ?_)))
  rcases Zt h with ⟨bM,h⟩ | ⟨bM,h⟩
  ·refine G6 bM rfl (Z5 (Z4 rfl (Tp (g := g7) isAgg119 sizeOf119 rfl b2 fun pR qR => (Zn (Iz (y5.2)) rfl rfl (Z4 rfl (Gg (g := g7) (v := pR) sizeOf119 rfl b2 rfl qR fun aV w15 hs b15 cb => ?_))))))
   clear cb;have hfr:=hfr.stp hs;refine Zg (Iz (y5.2)) rfl rfl (Z3 (Ga (Gp ?_)));obtain rfl:=sinj h;obtain ⟨ad16,cv16,hp16,xQ,cr16⟩:=T9 isAgg119 sizeOf119 b15;exact Wm rfl rfl ((rq p2).trans hp16) xQ (rq (Iz (y5.2))) ⟨_,hfr,_,_,rfl,cr16,rfl⟩
  ·refine G7 bM rfl ?_
   exact Zu (Zd (vQ ((⟨0,0,0,0⟩:Ts)) _ _ ⟨g7,hfr,rfl,b2,rfl,b7⟩ h))
 ·rintro uE lU bV ⟨uQ, hfr, bK, aE, qI, vC⟩ h
  refine Z5 (Z4 rfl (Tp (g:=uQ) isAgg169 sizeOf169 qI vC fun rR tR=>?_));obtain ⟨o0,hy20,h⟩:=Z1 h;refine Z4 rfl (Zp (g:=uQ) (vs:=[rR]) en71 (.cons rfl .nil) (wk71 tR hy20) fun uR mU cV hs hr=>?_);have hfr:=hfr.ext hs;have aE:=aE.ext hs;have vC:=vC.ext hs;obtain ⟨n8,v8,gS,iS,rfl,cF,dF,rfl,rfl⟩:=hr;refine Zn (.tuple #[n8,v8,Iz (o0.2.2.1),Iz (o0.2.2.2)]) rfl rfl (Zx n8 (Zi rfl rfl) rfl (Zx v8 (Zi rfl rfl) rfl (Zx (Iz (o0.2.2.1)) (Zi rfl rfl) rfl (Zx (Iz (o0.2.2.2)) (Zi rfl rfl) rfl (Zg n8 rfl rfl (Zg v8 rfl rfl (Zg (Iz (o0.2.2.1)) rfl rfl (Zg (Iz (o0.2.2.2)) rfl rfl (Z3 (Z5 (Zn n8 rfl rfl ?_)))))))))));obtain ⟨t5,yQ,h⟩:=Z1 h;refine Z4 rfl (Zp (g:=uR) (vs:=[n8]) en72 (.cons rfl .nil) (wk72 cF yQ) fun vR nU dV hs hr=>?_);have hfr:=hfr.ext hs;have aE:=aE.ext hs;have vC:=vC.ext hs;have cF:=cF.ext hs;have dF:=dF.ext hs;obtain ⟨jS,lS,rfl,rfl,rfl⟩:=hr;refine Zn (.tuple #[Iz (t5.1),Iz (t5.2)]) rfl rfl (Zx (Iz (t5.1)) (Zi rfl rfl) rfl (Zx (Iz (t5.2)) (Zi rfl rfl) rfl (Zg (Iz (t5.1)) rfl rfl (Zg (Iz (t5.2)) rfl rfl (Z3 (Z5 (Zn v8 rfl rfl ?_)))))));obtain ⟨l5,zQ,h⟩:=Z1 h;refine Z4 rfl (Zp (g:=vR) (vs:=[v8]) en72 (.cons rfl .nil) (wk72 dF zQ) fun pM oU eV hs hr=>?_);have hfr:=hfr.ext hs;have aE:=aE.ext hs;have vC:=vC.ext hs;have cF:=cF.ext hs;have dF:=dF.ext hs;obtain ⟨mS,nS,rfl,rfl,rfl⟩:=hr;refine Zn (.tuple #[Iz (l5.1),Iz (l5.2)]) rfl rfl (Zx (Iz (l5.1)) (Zi rfl rfl) rfl (Zx (Iz (l5.2)) (Zi rfl rfl) rfl (Zg (Iz (l5.1)) rfl rfl (Zg (Iz (l5.2)) rfl rfl (Z3 (Z5 (Zg (.bool true) rfl rfl (Z3 (Zq h (fun (s:Ts × Bool) e w=>∃ (g:Gh) ,Fr gI wI g w∧e 2=p2∧OB 2002 g w 119 (s.1:Ts) p2∧e 13=.bool (s.2)) (fun X614 lJ sI h=>?_) ?_)))))))))
  ·refine Zr ?_
   obtain ⟨xG,hx,h⟩:=Z1 h;refine Gl (fun e w=>∃ (g:Gh) ,Fr gI wI g w∧e 2=p2∧OB 2002 g w 119 (uE:Ts) p2∧e 4=p6∧OB 2004 g w 169 (y5.1:Gr) p6∧e 5=n8∧RV g.m w (o0.1:List Int) n8∧e 6=v8∧RV g.m w (o0.2.1:List Int) v8∧e 7=Iz (o0.2.2.1)∧e 8=Iz (o0.2.2.2)∧e 9=Iz (t5.1)∧e 10=Iz (t5.2)∧e 11=Iz (l5.1)∧e 12=Iz (l5.2)∧e 13=.bool (true)∧e 40=.bool (xG)) (fun Q' hQ=>?_) (fun oS pU hR=>?_)
   ·replace h := hx
    clear hx;refine Za (Zn (Iz (t5.2)) rfl rfl (Z9 (.bool ((t5.2 == (0:Int)))) rfl rfl rfl rfl (Zn (.bool ((t5.2 == (0:Int)))) rfl rfl ?_)));rcases Zt h with ⟨qH,h⟩ | ⟨qH,h⟩
    ·refine Zy (Iz (l5.2)) (Zk rfl) rfl rfl qH rfl (Zy (.bool ((l5.2 == (0 : Int)))) (Gk rfl rfl rfl) rfl rfl qH rfl (Zx (.bool ((l5.2 == (0 : Int)))) (Zl (b := (t5.2 == (0 : Int))) rfl (G4 qH rfl)) rfl (Zn (.bool ((l5.2 == (0 : Int)))) rfl rfl ?_)))
     rcases Zt h with ⟨sH,h⟩ | ⟨sH,h⟩
     ·refine Zy (Iz (o0.2.2.1)) (Zk rfl) rfl rfl sH rfl (Zy (.bool ((o0.2.2.1 == (0 : Int)))) (Gk rfl rfl rfl) rfl rfl sH rfl (Zx (.bool ((o0.2.2.1 == (0 : Int)))) (Zl (b := (l5.2 == (0 : Int))) rfl (G4 sH rfl)) rfl (Zn (.bool ((o0.2.2.1 == (0 : Int)))) rfl rfl ?_)))
      rcases Zt h with ⟨tH,h⟩ | ⟨tH,h⟩
      ·refine Zy (Iz (o0.2.2.2)) (Zk rfl) rfl rfl tH rfl (Zy (.bool ((o0.2.2.2 == (0 : Int)))) (Gk rfl rfl rfl) rfl rfl tH rfl (Zx (.bool ((o0.2.2.2 == (0 : Int)))) (Zl (b := (o0.2.2.1 == (0 : Int))) rfl (G4 tH rfl)) rfl (Zg (.bool ((o0.2.2.2 == (0 : Int)))) rfl rfl (Zb ?_))))
       obtain rfl:=sinj h;exact hQ _ _ ⟨pM,hfr,bK,aE,qI,vC,rfl,cF,rfl,dF,rfl,rfl,rfl,rfl,rfl,rfl,rfl,rfl⟩
      ·refine Zz rfl rfl tH rfl rfl (Zz rfl rfl tH rfl rfl (Zx (.bool false) (Zl (b := (o0.2.2.1 == (0 : Int))) rfl (G5 tH rfl)) rfl (Zg (.bool false) rfl rfl (Zb ?_))))
       obtain rfl:=sinj h;exact hQ _ _ ⟨pM,hfr,bK,aE,qI,vC,rfl,cF,rfl,dF,rfl,rfl,rfl,rfl,rfl,rfl,rfl,rfl⟩
     ·refine Zz rfl rfl sH rfl rfl (Zz rfl rfl sH rfl rfl (Zx (.bool false) (Zl (b := (l5.2 == (0 : Int))) rfl (G5 sH rfl)) rfl (Qv 4 rfl (Zg (.bool false) rfl rfl (Zb ?_)))))
      obtain rfl:=sinj h;exact hQ _ _ ⟨pM,hfr,bK,aE,qI,vC,rfl,cF,rfl,dF,rfl,rfl,rfl,rfl,rfl,rfl,rfl,rfl⟩
    ·refine Zz rfl rfl qH rfl rfl (Zz rfl rfl qH rfl rfl (Zx (.bool false) (Zl (b := (t5.2 == (0 : Int))) rfl (G5 qH rfl)) rfl (Qv 8 rfl (Zg (.bool false) rfl rfl (Zb ?_)))))
     obtain rfl:=sinj h;exact hQ _ _ ⟨pM,hfr,bK,aE,qI,vC,rfl,cF,rfl,dF,rfl,rfl,rfl,rfl,rfl,rfl,rfl,rfl⟩
   ·clear hx
    obtain ⟨lI,hfr,oE,i6,zH,l9,yG,g8,zG,l8,rE,yF,aH,mB,eF,nB,cH,vK⟩:=hR;rcases Zt h with ⟨dL,h⟩ | ⟨dL,h⟩
    ·refine Ta (Eq.trans (show ev _ _ = .bool (xG) from vK) (congrArg Value.bool dL)) (Z5 (Z4 rfl (Tp (g := lI) isAgg119 sizeOf119 oE i6 fun aR bR => (Z4 rfl (Gg (g := lI) (v := aR) sizeOf119 oE i6 rfl bR fun qU rU hs b624 cb => ?_)))))
     clear cb;have hfr:=hfr.stp hs;refine Zg (Iz (0)) rfl rfl (Z3 (Ga (Tl (Gp ?_))));obtain rfl:=sinj h;obtain ⟨ad625,cv625,hp625,tO,cr625⟩:=T9 isAgg119 sizeOf119 b624;exact Wm rfl rfl ((show _=p2 from oE).trans hp625) tO (show _=Iz (0) from rfl) ⟨_,hfr,_,_,rfl,cr625,rfl⟩
    ·refine Gs (Eq.trans (show ev _ _ = .bool (xG) from vK) (congrArg Value.bool dL)) ?_
     obtain ⟨xF,hx,h⟩:=Z1 h;refine Gl (fun e w=>∃ (g:Gh) ,Fr gI wI g w∧e 2=p2∧OB 2002 g w 119 (uE:Ts) p2∧e 4=p6∧OB 2004 g w 169 (y5.1:Gr) p6∧e 5=n8∧RV g.m w (o0.1:List Int) n8∧e 6=v8∧RV g.m w (o0.2.1:List Int) v8∧e 7=Iz (o0.2.2.1)∧e 8=Iz (o0.2.2.2)∧e 9=Iz (t5.1)∧e 10=Iz (t5.2)∧e 11=Iz (l5.1)∧e 12=Iz (l5.2)∧e 13=.bool (true)∧e 56=.bool (xF)) (fun Q' hQ=>?_) (fun xR uO hR=>?_)
     ·replace h := hx
      clear hx;rcases Zt h with ⟨n9,h⟩ | ⟨n9,h⟩
      ·rcases Zt h with ⟨oB, h⟩ | ⟨oB, h⟩
       ·rcases Zt h with ⟨bE, h⟩ | ⟨bE, h⟩
        ·rcases Zt h with ⟨vB, h⟩ | ⟨vB, h⟩
         ·obtain ⟨mJ, qM, h⟩ := Z1 h
          have dR:=Gx g8 qM;refine Zs (x:=.tmp 74) isAgg3 sizeOf3 dR fun sU eR vO=>?_;obtain rfl:=Zj.1 eR;obtain ⟨nJ,rM,h⟩:=Z1 h;have gR:=Gx l8 rM;refine Zs (x:=.tmp 78) isAgg3 sizeOf3 gR fun tU iR xO=>?_;obtain rfl:=Zj.1 iR;refine To (g:=lI) (n:=26) [] [0,1,2,3,4,5,6,7,8,9,10,11,12,13,14,15,16,17,18,19,20,21,22,23,24,25] rfl mixed (by kernel_rfl) trivial (Z0 (Iz (t5.2)) rfl rfl (Zk mB) (Z0 (.bool ((t5.2 == (1:Int)))) rfl rfl (Gk rfl rfl rfl) (Z0 (.bool ((t5.2 == (1:Int)))) rfl rfl (Zk rfl) (L_y (Iz (l5.2)) rfl rfl rfl rfl n9 (Zk nB) (L_y (.bool ((l5.2 == (1:Int)))) rfl rfl rfl rfl n9 (Gk rfl rfl rfl) (Z0 (.bool ((l5.2 == (1:Int)))) rfl rfl (Zl (b:=(t5.2 == (1:Int))) rfl (G4 n9 rfl)) (Z0 (.bool ((l5.2 == (1:Int)))) rfl rfl (Zk rfl) (L_y (Iz (o0.2.2.1)) rfl rfl rfl rfl oB (Zk rE) (L_y (.bool ((o0.2.2.1 == (0:Int)))) rfl rfl rfl rfl oB (Gk rfl rfl rfl) (Z0 (.bool ((o0.2.2.1 == (0:Int)))) rfl rfl (Zl (b:=(l5.2 == (1:Int))) rfl (G4 oB rfl)) (Z0 (.bool ((o0.2.2.1 == (0:Int)))) rfl rfl (Zk rfl) (L_y (Iz (o0.2.2.2)) rfl rfl rfl rfl bE (Zk yF) (L_y (.bool ((o0.2.2.2 == (0:Int)))) rfl rfl rfl rfl bE (Gk rfl rfl rfl) (Z0 (.bool ((o0.2.2.2 == (0:Int)))) rfl rfl (Zl (b:=(o0.2.2.1 == (0:Int))) rfl (G4 bE rfl)) (Z0 (.bool ((o0.2.2.2 == (0:Int)))) rfl rfl (Zk rfl) (L_y n8 rfl rfl rfl rfl vB (Zk yG) ?_))))))))))))))));refine L_y (Iz (t5.1)) rfl rfl rfl rfl vB (Zk aH) (L_y (Tb n8 t5.1 1) rfl rfl rfl rfl vB (Zh (α:=Int) underlying25 sizeOf3 rfl g8 rfl qM) (Tm (c:=Iz (mJ)) rfl rfl (.yes2 rfl rfl vB) (fun _ _ h=>h.ch) vO rfl (L_y v8 rfl rfl rfl rfl vB (Zk zG) (L_y (Iz (l5.1)) rfl rfl rfl rfl vB (Zk eF) (L_y (Tb v8 l5.1 1) rfl rfl rfl rfl vB (Zh (α:=Int) underlying25 sizeOf3 rfl l8 rfl rM) (Tm (c:=Iz (nJ)) rfl rfl (.yes2 rfl rfl vB) (fun _ _ h=>h.ch) xO rfl (L_y (.bool ((mJ == nJ))) rfl rfl rfl rfl vB (Gk rfl rfl rfl) (Z0 (.bool ((mJ == nJ))) rfl rfl (Zl (b:=(o0.2.2.2 == (0:Int))) rfl (G4 vB rfl)) (Z0 (.bool ((mJ == nJ))) rfl rfl (Te rfl) (Ka fun jR uU hs=>?_))))))))));have hfr:=hfr.ext hs;have i6:=i6.ext hs;have l9:=l9.ext hs;have g8:=g8.ext hs;have l8:=l8.ext hs;clear hs;refine Zb ?_;obtain rfl:=sinj h;exact hQ _ _ ⟨jR,hfr,oE,i6,zH,l9,yG,g8,zG,l8,rE,yF,aH,mB,eF,nB,cH,rfl⟩
         ·refine To (g := lI) (n := 26) [] [0, 1, 2, 3, 4, 5, 6, 7, 8, 9, 10, 11, 12, 13, 14, 15, 16, 17, 18, 19, 20, 21, 22, 23, 24, 25] rfl mixed (by kernel_rfl) trivial (Z0 (Iz (t5.2)) rfl rfl (Zk mB) (Z0 (.bool ((t5.2 == (1 : Int)))) rfl rfl (Gk rfl rfl rfl) (Z0 (.bool ((t5.2 == (1 : Int)))) rfl rfl (Zk rfl) (L_y (Iz (l5.2)) rfl rfl rfl rfl n9 (Zk nB) (L_y (.bool ((l5.2 == (1 : Int)))) rfl rfl rfl rfl n9 (Gk rfl rfl rfl) (Z0 (.bool ((l5.2 == (1 : Int)))) rfl rfl (Zl (b := (t5.2 == (1 : Int))) rfl (G4 n9 rfl)) (Z0 (.bool ((l5.2 == (1 : Int)))) rfl rfl (Zk rfl) (L_y (Iz (o0.2.2.1)) rfl rfl rfl rfl oB (Zk rE) (L_y (.bool ((o0.2.2.1 == (0 : Int)))) rfl rfl rfl rfl oB (Gk rfl rfl rfl) (Z0 (.bool ((o0.2.2.1 == (0 : Int)))) rfl rfl (Zl (b := (l5.2 == (1 : Int))) rfl (G4 oB rfl)) (Z0 (.bool ((o0.2.2.1 == (0 : Int)))) rfl rfl (Zk rfl) (L_y (Iz (o0.2.2.2)) rfl rfl rfl rfl bE (Zk yF) (L_y (.bool ((o0.2.2.2 == (0 : Int)))) rfl rfl rfl rfl bE (Gk rfl rfl rfl) (Z0 (.bool ((o0.2.2.2 == (0 : Int)))) rfl rfl (Zl (b := (o0.2.2.1 == (0 : Int))) rfl (G4 bE rfl)) (Z0 (.bool ((o0.2.2.2 == (0 : Int)))) rfl rfl (Zk rfl) ?_)))))))))))))))
          iterate 9 refine L_s rfl rfl rfl vB rfl ?_
          refine Z0 (.bool false) rfl rfl (Zl (b:=(o0.2.2.2 == (0:Int))) rfl (G5 vB rfl)) (Z0 (.bool false) rfl rfl (Te rfl) (Ka fun lR vU hs=>?_));have hfr:=hfr.ext hs;have i6:=i6.ext hs;have l9:=l9.ext hs;have g8:=g8.ext hs;have l8:=l8.ext hs;clear hs;refine Zb ?_;obtain rfl:=sinj h;exact hQ _ _ ⟨lR,hfr,oE,i6,zH,l9,yG,g8,zG,l8,rE,yF,aH,mB,eF,nB,cH,rfl⟩
        ·refine To (g := lI) (n := 26) [] [0, 1, 2, 3, 4, 5, 6, 7, 8, 9, 10, 11, 12, 13, 14, 15, 16, 17, 18, 19, 20, 21, 22, 23, 24, 25] rfl mixed (by kernel_rfl) trivial (Z0 (Iz (t5.2)) rfl rfl (Zk mB) (Z0 (.bool ((t5.2 == (1 : Int)))) rfl rfl (Gk rfl rfl rfl) (Z0 (.bool ((t5.2 == (1 : Int)))) rfl rfl (Zk rfl) (L_y (Iz (l5.2)) rfl rfl rfl rfl n9 (Zk nB) (L_y (.bool ((l5.2 == (1 : Int)))) rfl rfl rfl rfl n9 (Gk rfl rfl rfl) (Z0 (.bool ((l5.2 == (1 : Int)))) rfl rfl (Zl (b := (t5.2 == (1 : Int))) rfl (G4 n9 rfl)) (Z0 (.bool ((l5.2 == (1 : Int)))) rfl rfl (Zk rfl) (L_y (Iz (o0.2.2.1)) rfl rfl rfl rfl oB (Zk rE) (L_y (.bool ((o0.2.2.1 == (0 : Int)))) rfl rfl rfl rfl oB (Gk rfl rfl rfl) (Z0 (.bool ((o0.2.2.1 == (0 : Int)))) rfl rfl (Zl (b := (l5.2 == (1 : Int))) rfl (G4 oB rfl)) (Z0 (.bool ((o0.2.2.1 == (0 : Int)))) rfl rfl (Zk rfl) (L_s rfl rfl rfl bE rfl (L_s rfl rfl rfl bE rfl (Z0 (.bool false) rfl rfl (Zl (b := (o0.2.2.1 == (0 : Int))) rfl (G5 bE rfl)) (Xb (fun _ => rfl) 11 rfl (Z0 (.bool false) rfl rfl (Te rfl) ?_))))))))))))))))
         refine Ka fun mR xU hs=>?_;have hfr:=hfr.ext hs;have i6:=i6.ext hs;have l9:=l9.ext hs;have g8:=g8.ext hs;have l8:=l8.ext hs;clear hs;refine Zb ?_;obtain rfl:=sinj h;exact hQ _ _ ⟨mR,hfr,oE,i6,zH,l9,yG,g8,zG,l8,rE,yF,aH,mB,eF,nB,cH,rfl⟩
       ·refine To (g := lI) (n := 26) [] [0, 1, 2, 3, 4, 5, 6, 7, 8, 9, 10, 11, 12, 13, 14, 15, 16, 17, 18, 19, 20, 21, 22, 23, 24, 25] rfl mixed (by kernel_rfl) trivial (Z0 (Iz (t5.2)) rfl rfl (Zk mB) (Z0 (.bool ((t5.2 == (1 : Int)))) rfl rfl (Gk rfl rfl rfl) (Z0 (.bool ((t5.2 == (1 : Int)))) rfl rfl (Zk rfl) (L_y (Iz (l5.2)) rfl rfl rfl rfl n9 (Zk nB) (L_y (.bool ((l5.2 == (1 : Int)))) rfl rfl rfl rfl n9 (Gk rfl rfl rfl) (Z0 (.bool ((l5.2 == (1 : Int)))) rfl rfl (Zl (b := (t5.2 == (1 : Int))) rfl (G4 n9 rfl)) (Z0 (.bool ((l5.2 == (1 : Int)))) rfl rfl (Zk rfl) (L_s rfl rfl rfl oB rfl (L_s rfl rfl rfl oB rfl (Z0 (.bool false) rfl rfl (Zl (b := (l5.2 == (1 : Int))) rfl (G5 oB rfl)) (Xb (fun _ => rfl) 15 rfl (Z0 (.bool false) rfl rfl (Te rfl) (Ka fun nR yU hs => ?_)))))))))))))
        have hfr:=hfr.ext hs;have i6:=i6.ext hs;have l9:=l9.ext hs;have g8:=g8.ext hs;have l8:=l8.ext hs;clear hs;refine Zb ?_;obtain rfl:=sinj h;exact hQ _ _ ⟨nR,hfr,oE,i6,zH,l9,yG,g8,zG,l8,rE,yF,aH,mB,eF,nB,cH,rfl⟩
      ·refine To (g := lI) (n := 26) [] [0, 1, 2, 3, 4, 5, 6, 7, 8, 9, 10, 11, 12, 13, 14, 15, 16, 17, 18, 19, 20, 21, 22, 23, 24, 25] rfl mixed (by kernel_rfl) trivial (Z0 (Iz (t5.2)) rfl rfl (Zk mB) (Z0 (.bool ((t5.2 == (1 : Int)))) rfl rfl (Gk rfl rfl rfl) (Z0 (.bool ((t5.2 == (1 : Int)))) rfl rfl (Zk rfl) (L_s rfl rfl rfl n9 rfl (L_s rfl rfl rfl n9 rfl (Z0 (.bool false) rfl rfl (Zl (b := (t5.2 == (1 : Int))) rfl (G5 n9 rfl)) (Xb (fun _ => rfl) 19 rfl (Z0 (.bool false) rfl rfl (Te rfl) (Ka fun oR zU hs => ?_)))))))))
       have hfr:=hfr.ext hs;have i6:=i6.ext hs;have l9:=l9.ext hs;have g8:=g8.ext hs;have l8:=l8.ext hs;clear hs;refine Zb ?_;obtain rfl:=sinj h;exact hQ _ _ ⟨oR,hfr,oE,i6,zH,l9,yG,g8,zG,l8,rE,yF,aH,mB,eF,nB,cH,rfl⟩
     ·clear hx
      obtain ⟨uH,hfr,cD,lD,gH,nD,rF,cC,aI,bI,jH,kH,uC,aG,oD,bG,xH,nK⟩:=hR;rcases Zt h with ⟨oK,h⟩ | ⟨oK,h⟩
      ·refine Ta (Eq.trans (show ev _ _ = .bool (xF) from nK) (congrArg Value.bool oK)) (Zf (Hj (x := .tmp 85) (Gd.comp G0 Qf rfl).1 isAgg122 sizeOf122 nD fun sM tM vN => ?_))
       obtain ⟨kM,gL,h⟩:=Z1 h;have yO:=Gx tM gL;refine Zs (x:=.tmp 88) isAgg25 sizeOf25 yO fun uM vM xN=>?_;obtain ⟨yB,iL,h⟩:=Z1 h;have zO:=Gx vM iL;refine Zs (x:=.tmp 91) isAgg3 sizeOf3 zO fun pS aP yN=>?_;obtain rfl:=Zj.1 aP;obtain ⟨zB,jL,h⟩:=Z1 h;have bP:=Gx cC jL;refine Zs (x:=.tmp 95) isAgg3 sizeOf3 bP fun qS cP zN=>?_;obtain rfl:=Zj.1 cP;have cK:RV uH.m uO (⟨(1:Int),t5.1,l5.1,(w64 (yB - zB))⟩:Ts) (.agg (Td [[Iz 0],[Iz 0],[Iz 0],[Iz 0]] [(0,Iz (1)),(1,Iz (t5.1)),(2,Iz (l5.1)),(3,Iz ((w64 (yB - zB))))]).flatten.toArray):=Tc rfl (Gm (rfl) (Gm (rfl) (Gm (rfl) (Tf (rfl)))));generalize aO:(Value.agg (Td [[Iz 0],[Iz 0],[Iz 0],[Iz 0]] [(0,Iz (1)),(1,Iz (t5.1)),(2,Iz (l5.1)),(3,Iz ((w64 (yB - zB))))]).flatten.toArray)=xM at cK;refine To (g:=uH) (n:=17) [] [0,1,2,3,4,5,6,7,8,9,10,11,12,13,14,15,16] rfl mixed (by kernel_rfl) trivial (Z0 (Iz (t5.1)) rfl rfl (Zk uC) (Z0 (Iz (l5.1)) rfl rfl (Zk oD) (Z0 (Z8 p6 0) rfl rfl (Zc Tz gH (OB.ptr nD)) (Z0 (Z8 p6 0) rfl rfl (Qk (o1:=0) rfl Q7 rfl (OB.ptr nD)) (Tm (c:=sM) rfl rfl .plain (fun _ _ h=>⟨h.ch,fun b hb _=>h.below.block b hb⟩) vN rfl (Z0 (Iz (t5.1)) rfl rfl (Zk uC) (Z0 (Tb sM t5.1 1) rfl rfl (Zh (α:=List Int) underlying122 sizeOf25 rfl tM rfl gL) (Tm (c:=uM) rfl rfl .plain (fun _ _ h=>h.ch) xN rfl (Z0 (Iz (l5.1)) rfl rfl (Zk oD) (Z0 (Tb uM l5.1 1) rfl rfl (Zh (α:=Int) underlying25 sizeOf3 rfl vM rfl iL) (Tm (c:=Iz (yB)) rfl rfl .plain (fun _ _ h=>h.ch) yN rfl (Z0 n8 rfl rfl (Zk rF) (Z0 (Iz (t5.1)) rfl rfl (Zk uC) (Z0 (Tb n8 t5.1 1) rfl rfl (Zh (α:=Int) underlying25 sizeOf3 rfl cC rfl jL) (Tm (c:=Iz (zB)) rfl rfl .plain (fun _ _ h=>h.ch) zN rfl (Z0 (Iz ((w64 (yB - zB)))) rfl rfl (Gk rfl rfl rfl) ?_))))))))))))))));refine Z0 xM rfl rfl (aO ▸ Tu (vs:=[(0,Iz (1)),(1,Iz (t5.1)),(2,Iz (l5.1)),(3,Iz ((w64 (yB - zB))))]) [[Iz 0],[Iz 0],[Iz 0],[Iz 0]] Xo rfl rfl (.cons rfl (.cons rfl (.cons rfl (.cons rfl .nil)))) ⟨⟨_,rfl,rfl⟩,⟨⟨_,rfl,rfl⟩,⟨⟨_,rfl,rfl⟩,⟨⟨_,rfl,rfl⟩,trivial⟩⟩⟩⟩) (Ka fun dP rS hs=>?_);have hfr:=hfr.ext hs;have lD:=lD.ext hs;have cK:=cK.ext hs;clear hs;refine Z4 rfl (Gg (g:=dP) (v:=xM) sizeOf119 cD lD rfl cK fun bN sS hs b1081 cb=>?_);clear cb;have hfr:=hfr.stp hs;refine Z3 (Za (Zx (Z8 p2 3) (Zc Sw cD (OB.ptr b1081)) rfl (Z4 rfl (Qt (g:=bN) Jk.1 isAgg3 sizeOf3 rfl b1081 fun tS eP=>?_))));obtain rfl:=Zj.1 eP;refine Z4 rfl (Z7 (g:=bN) 3101 (xs:=([(w64 (yB - zB))]:List Int)) (vs:=[Iz ((w64 (yB - zB)))]) underlying25 sizeOf3 zeroValue3 rfl rfl (.cons rfl .nil) (RVs.cons (Zj.2 rfl) RVs.nil) rfl rfl fun gP uS iP hs o1084 jP hxt hfl=>?_);have hfr:=hfr.stp hs;have b1081:=b1081.stp hs rfl;obtain ⟨zJ,bO,h⟩:=Z1 h;refine Z4 rfl (Zp (g:=gP) (vs:=[Iz (0),Iz (1000000),iP]) en62 (.cons rfl (.cons rfl (.cons rfl .nil))) (wk62 jP bO) fun kP yR vS hs hr=>?_);have hfr:=hfr.ext hs;have b1081:=b1081.ext hs;subst hr;refine Zg (.bool (zJ)) rfl rfl ?_;exact Zb (Tj (Zd (sI ((⟨(1:Int),t5.1,l5.1,(w64 (yB - zB))⟩:Ts),zJ) _ _ ⟨kP,hfr,cD,b1081,rfl⟩ h)))
      ·refine Gs (Eq.trans (show ev _ _ = .bool (xF) from nK) (congrArg Value.bool oK)) ?_
       obtain ⟨iE,hx,h⟩:=Z1 h;refine Gl (fun e w=>∃ (g:Gh) ,Fr gI wI g w∧e 2=p2∧OB 2002 g w 119 (uE:Ts) p2∧e 4=p6∧OB 2004 g w 169 (y5.1:Gr) p6∧e 5=n8∧RV g.m w (o0.1:List Int) n8∧e 6=v8∧RV g.m w (o0.2.1:List Int) v8∧e 7=Iz (o0.2.2.1)∧e 8=Iz (o0.2.2.2)∧e 9=Iz (t5.1)∧e 10=Iz (t5.2)∧e 11=Iz (l5.1)∧e 12=Iz (l5.2)∧e 13=.bool (true)∧e 103=.bool (iE)) (fun Q' hQ=>?_) (fun zR lP hR=>?_)
       ·replace h := hx
        clear hx;refine Za (Zo aG rfl (Z9 (.bool ((t5.2 == (1:Int)))) rfl rfl rfl rfl (Zn (.bool ((t5.2 == (1:Int)))) rfl rfl ?_)));rcases Zt h with ⟨cG,h⟩ | ⟨cG,h⟩
        ·refine Zy (Iz (l5.2)) (Zk bG) rfl rfl cG rfl (Zy (.bool ((l5.2 == (0 : Int)))) (Gk rfl rfl rfl) rfl rfl cG rfl (Zx (.bool ((l5.2 == (0 : Int)))) (Zl (b := (t5.2 == (1 : Int))) rfl (G4 cG rfl)) rfl (Zn (.bool ((l5.2 == (0 : Int)))) rfl rfl ?_)))
         rcases Zt h with ⟨eG,h⟩ | ⟨eG,h⟩
         ·refine Zy (Iz (o0.2.2.2)) (Zk kH) rfl rfl eG rfl (Zy (.bool ((o0.2.2.2 == (0 : Int)))) (Gk rfl rfl rfl) rfl rfl eG rfl (Zx (.bool ((o0.2.2.2 == (0 : Int)))) (Zl (b := (l5.2 == (0 : Int))) rfl (G4 eG rfl)) rfl (Zn (.bool ((o0.2.2.2 == (0 : Int)))) rfl rfl ?_)))
          rcases Zt h with ⟨aB,h⟩ | ⟨aB,h⟩
          ·refine Zy n8 (Zk rF) rfl rfl aB rfl (Zy (Iz (t5.1)) (Zk uC) rfl rfl aB rfl ?_)
           obtain ⟨nI,lL,h⟩:=Z1 h;refine Zy (Tb n8 t5.1 1) (Zh (α:=Int) underlying25 sizeOf3 rfl cC rfl lL) rfl rfl aB rfl ?_;have mP:=Gx cC lL;refine Ze (.yes2 rfl rfl aB) rfl (Z6 (g:=uH) isAgg3 sizeOf3 rfl mP fun xS nP=>?_);obtain rfl:=Zj.1 nP;refine Zy (Iz (o0.2.2.1)) (Zk jH) rfl rfl aB rfl (Zy (Iz (w64 (0 - o0.2.2.1))) (P_neg rfl) rfl rfl aB rfl (Zy (.bool ((nI == (w64 (0 - o0.2.2.1))))) (Gk rfl rfl rfl) rfl rfl aB rfl (Zx (.bool ((nI == (w64 (0 - o0.2.2.1))))) (Zl (b:=(o0.2.2.2 == (0:Int))) rfl (G4 aB rfl)) rfl (Zg (.bool ((nI == (w64 (0 - o0.2.2.1))))) rfl rfl (Zb ?_)))));obtain rfl:=sinj h;exact hQ _ _ ⟨uH,hfr,cD,lD,gH,nD,rF,cC,aI,bI,jH,kH,uC,aG,oD,bG,xH,rfl⟩
          ·refine Zz rfl rfl aB rfl rfl ?_
           iterate 6 refine Zz rfl rfl aB rfl rfl ?_
           refine Zx (.bool false) (Zl (b:=(o0.2.2.2 == (0:Int))) rfl (G5 aB rfl)) rfl (Zg (.bool false) rfl rfl (Zb ?_));obtain rfl:=sinj h;exact hQ _ _ ⟨uH,hfr,cD,lD,gH,nD,rF,cC,aI,bI,jH,kH,uC,aG,oD,bG,xH,rfl⟩
         ·refine Zz rfl rfl eG rfl rfl (Zz rfl rfl eG rfl rfl (Zx (.bool false) (Zl (b := (l5.2 == (0 : Int))) rfl (G5 eG rfl)) rfl (Qv 9 rfl (Zg (.bool false) rfl rfl (Zb ?_)))))
          obtain rfl:=sinj h;exact hQ _ _ ⟨uH,hfr,cD,lD,gH,nD,rF,cC,aI,bI,jH,kH,uC,aG,oD,bG,xH,rfl⟩
        ·refine Zz rfl rfl cG rfl rfl (Zz rfl rfl cG rfl rfl (Zx (.bool false) (Zl (b := (t5.2 == (1 : Int))) rfl (G5 cG rfl)) rfl (Qv 13 rfl (Zg (.bool false) rfl rfl (Zb ?_)))))
         obtain rfl:=sinj h;exact hQ _ _ ⟨uH,hfr,cD,lD,gH,nD,rF,cC,aI,bI,jH,kH,uC,aG,oD,bG,xH,rfl⟩
       ·clear hx
        obtain ⟨yH,hfr,sF,yD,lH,zD,qN,xK,mH,tF,nH,oH,oJ,gG,iG,jG,kG,sJ⟩:=hR;rcases Zt h with ⟨pK,h⟩ | ⟨pK,h⟩
        ·refine Ta (Eq.trans (show ev _ _ = .bool (iE) from sJ) (congrArg Value.bool pK)) (Hj (x := .tmp 125) (Gd.comp G0 Kp rfl).1 isAgg25 sizeOf25 zD fun cN dN cO => ?_)
         obtain ⟨vE,mL,h⟩:=Z1 h;have oP:=Gx dN mL;refine Zs (x:=.tmp 128) isAgg3 sizeOf3 oP fun yS pP dO=>?_;obtain rfl:=Zj.1 pP;obtain ⟨xE,nL,h⟩:=Z1 h;have sP:=Gx xK nL;refine Zs (x:=.tmp 132) isAgg3 sizeOf3 sP fun zS tP eO=>?_;obtain rfl:=Zj.1 tP;have dK:RV yH.m lP (⟨(2:Int),t5.1,0,(w64 (vE + xE))⟩:Ts) (.agg (Td [[Iz 0],[Iz 0],[Iz 0],[Iz 0]] [(0,Iz (2)),(1,Iz (t5.1)),(3,Iz ((w64 (vE + xE))))]).flatten.toArray):=Tc rfl (Gm (rfl) (Gm (rfl) (Gm (Zw) (Tf (rfl)))));generalize gO:(Value.agg (Td [[Iz 0],[Iz 0],[Iz 0],[Iz 0]] [(0,Iz (2)),(1,Iz (t5.1)),(3,Iz ((w64 (vE + xE))))]).flatten.toArray)=eN at dK;refine To (g:=yH) (n:=13) [] [0,1,2,3,4,5,6,7,8,9,10,11,12] rfl mixed (by kernel_rfl) trivial (Z0 (Iz (t5.1)) rfl rfl (Zk oJ) (Z0 (Z8 p6 0) rfl rfl (Zc Tz lH (OB.ptr zD)) (Z0 (Z8 p6 1) rfl rfl (Qk (o1:=0) rfl Y5 rfl (OB.ptr zD)) (Tm (c:=cN) rfl rfl .plain (fun _ _ h=>⟨h.ch,fun b hb _=>h.below.block b hb⟩) cO rfl (Z0 (Iz (t5.1)) rfl rfl (Zk oJ) (Z0 (Tb cN t5.1 1) rfl rfl (Zh (α:=Int) underlying25 sizeOf3 rfl dN rfl mL) (Tm (c:=Iz (vE)) rfl rfl .plain (fun _ _ h=>h.ch) dO rfl (Z0 n8 rfl rfl (Zk qN) (Z0 (Iz (t5.1)) rfl rfl (Zk oJ) (Z0 (Tb n8 t5.1 1) rfl rfl (Zh (α:=Int) underlying25 sizeOf3 rfl xK rfl nL) (Tm (c:=Iz (xE)) rfl rfl .plain (fun _ _ h=>h.ch) eO rfl (Z0 (Iz ((w64 (vE + xE)))) rfl rfl (Gk rfl rfl rfl) (Z0 eN rfl rfl (gO ▸ Tu (vs:=[(0,Iz (2)),(1,Iz (t5.1)),(3,Iz ((w64 (vE + xE))))]) [[Iz 0],[Iz 0],[Iz 0],[Iz 0]] Xo rfl rfl (.cons rfl (.cons rfl (.cons rfl .nil))) ⟨⟨_,rfl,rfl⟩,⟨⟨_,rfl,rfl⟩,⟨⟨_,rfl,rfl⟩,trivial⟩⟩⟩) (Ka fun uP eT hs=>?_))))))))))))));have hfr:=hfr.ext hs;have yD:=yD.ext hs;have dK:=dK.ext hs;clear hs;refine Z4 rfl (Gg (g:=uP) (v:=eN) sizeOf119 sF yD rfl dK fun vP lT hs b1137 cb=>?_);clear cb;have hfr:=hfr.stp hs;exact Zb (Tj (Zd (sI ((⟨(2:Int),t5.1,0,(w64 (vE + xE))⟩:Ts),true) _ _ ⟨vP,hfr,sF,b1137,kG⟩ h)))
        ·refine Gs (Eq.trans (show ev _ _ = .bool (iE) from sJ) (congrArg Value.bool pK)) ?_
         obtain ⟨lE,hx,h⟩:=Z1 h;refine Gl (fun e w=>∃ (g:Gh) ,Fr gI wI g w∧e 2=p2∧OB 2002 g w 119 (uE:Ts) p2∧e 4=p6∧OB 2004 g w 169 (y5.1:Gr) p6∧e 6=v8∧RV g.m w (o0.2.1:List Int) v8∧e 7=Iz (o0.2.2.1)∧e 8=Iz (o0.2.2.2)∧e 10=Iz (t5.2)∧e 11=Iz (l5.1)∧e 12=Iz (l5.2)∧e 13=.bool (true)∧e 136=.bool (lE)) (fun Q' hQ=>?_) (fun aS xP hR=>?_)
         ·replace h := hx
          clear hx;refine Za (Zo gG rfl (Z9 (.bool ((t5.2 == (0:Int)))) rfl rfl rfl rfl (Zn (.bool ((t5.2 == (0:Int)))) rfl rfl ?_)));rcases Zt h with ⟨lG,h⟩ | ⟨lG,h⟩
          ·refine Zy (Iz (l5.2)) (Zk jG) rfl rfl lG rfl (Zy (.bool ((l5.2 == (1 : Int)))) (Gk rfl rfl rfl) rfl rfl lG rfl (Zx (.bool ((l5.2 == (1 : Int)))) (Zl (b := (t5.2 == (0 : Int))) rfl (G4 lG rfl)) rfl (Zn (.bool ((l5.2 == (1 : Int)))) rfl rfl ?_)))
           rcases Zt h with ⟨mG,h⟩ | ⟨mG,h⟩
           ·refine Zy (Iz (o0.2.2.1)) (Zk nH) rfl rfl mG rfl (Zy (.bool ((o0.2.2.1 == (0 : Int)))) (Gk rfl rfl rfl) rfl rfl mG rfl (Zx (.bool ((o0.2.2.1 == (0 : Int)))) (Zl (b := (l5.2 == (1 : Int))) rfl (G4 mG rfl)) rfl (Zn (.bool ((o0.2.2.1 == (0 : Int)))) rfl rfl ?_)))
            rcases Zt h with ⟨lB,h⟩ | ⟨lB,h⟩
            ·refine Zy v8 (Zk mH) rfl rfl lB rfl (Zy (Iz (l5.1)) (Zk iG) rfl rfl lB rfl ?_)
             obtain ⟨pI,oL,h⟩:=Z1 h;refine Zy (Tb v8 l5.1 1) (Zh (α:=Int) underlying25 sizeOf3 rfl tF rfl oL) rfl rfl lB rfl ?_;have yP:=Gx tF oL;refine Ze (.yes2 rfl rfl lB) rfl (Z6 (g:=yH) isAgg3 sizeOf3 rfl yP fun mT zP=>?_);obtain rfl:=Zj.1 zP;refine Zy (Iz (o0.2.2.2)) (Zk oH) rfl rfl lB rfl (Zy (Iz (w64 (0 - o0.2.2.2))) (P_neg rfl) rfl rfl lB rfl (Zy (.bool ((pI == (w64 (0 - o0.2.2.2))))) (Gk rfl rfl rfl) rfl rfl lB rfl (Zx (.bool ((pI == (w64 (0 - o0.2.2.2))))) (Zl (b:=(o0.2.2.1 == (0:Int))) rfl (G4 lB rfl)) rfl (Zg (.bool ((pI == (w64 (0 - o0.2.2.2))))) rfl rfl (Zb ?_)))));obtain rfl:=sinj h;exact hQ _ _ ⟨yH,hfr,sF,yD,lH,zD,mH,tF,nH,oH,gG,iG,jG,kG,rfl⟩
            ·refine Zz rfl rfl lB rfl rfl ?_
             iterate 6 refine Zz rfl rfl lB rfl rfl ?_
             refine Zx (.bool false) (Zl (b:=(o0.2.2.1 == (0:Int))) rfl (G5 lB rfl)) rfl (Zg (.bool false) rfl rfl (Zb ?_));obtain rfl:=sinj h;exact hQ _ _ ⟨yH,hfr,sF,yD,lH,zD,mH,tF,nH,oH,gG,iG,jG,kG,rfl⟩
           ·refine Zz rfl rfl mG rfl rfl (Zz rfl rfl mG rfl rfl (Zx (.bool false) (Zl (b := (l5.2 == (1 : Int))) rfl (G5 mG rfl)) rfl (Qv 9 rfl (Zg (.bool false) rfl rfl (Zb ?_)))))
            obtain rfl:=sinj h;exact hQ _ _ ⟨yH,hfr,sF,yD,lH,zD,mH,tF,nH,oH,gG,iG,jG,kG,rfl⟩
          ·refine Zz rfl rfl lG rfl rfl (Zz rfl rfl lG rfl rfl (Zx (.bool false) (Zl (b := (t5.2 == (0 : Int))) rfl (G5 lG rfl)) rfl (Qv 13 rfl (Zg (.bool false) rfl rfl (Zb ?_)))))
           obtain rfl:=sinj h;exact hQ _ _ ⟨yH,hfr,sF,yD,lH,zD,mH,tF,nH,oH,gG,iG,jG,kG,rfl⟩
         ·clear hx
          obtain ⟨jJ,hfr,pH,uF,dI,vF,rN,yK,iI,sN,cM,mI,dM,eM,vJ⟩:=hR;rcases Zt h with ⟨qK,h⟩ | ⟨qK,h⟩
          ·refine Ta (Eq.trans (show ev _ _ = .bool (lE) from vJ) (congrArg Value.bool qK)) (Hj (x := .tmp 158) (Gd.comp G0 W1 rfl).1 isAgg25 sizeOf25 vF fun gN iN jO => ?_)
           obtain ⟨yE,xL,h⟩:=Z1 h;have bQ:=Gx iN xL;refine Zs (x:=.tmp 161) isAgg3 sizeOf3 bQ fun nT cQ kO=>?_;obtain rfl:=Zj.1 cQ;obtain ⟨zE,yL,h⟩:=Z1 h;have dQ:=Gx yK yL;refine Zs (x:=.tmp 165) isAgg3 sizeOf3 dQ fun oT eQ lO=>?_;obtain rfl:=Zj.1 eQ;have lK:RV jJ.m xP (⟨(3:Int),0,l5.1,(w64 (yE + zE))⟩:Ts) (.agg (Td [[Iz 0],[Iz 0],[Iz 0],[Iz 0]] [(0,Iz (3)),(2,Iz (l5.1)),(3,Iz ((w64 (yE + zE))))]).flatten.toArray):=Tc rfl (Gm (rfl) (Gm (Zw) (Gm (rfl) (Tf (rfl)))));generalize mO:(Value.agg (Td [[Iz 0],[Iz 0],[Iz 0],[Iz 0]] [(0,Iz (3)),(2,Iz (l5.1)),(3,Iz ((w64 (yE + zE))))]).flatten.toArray)=jN at lK;refine To (g:=jJ) (n:=13) [] [0,1,2,3,4,5,6,7,8,9,10,11,12] rfl mixed (by kernel_rfl) trivial (Z0 (Iz (l5.1)) rfl rfl (Zk mI) (Z0 (Z8 p6 0) rfl rfl (Zc Tz dI (OB.ptr vF)) (Z0 (Z8 p6 2) rfl rfl (Qk (o1:=0) rfl Yo rfl (OB.ptr vF)) (Tm (c:=gN) rfl rfl .plain (fun _ _ h=>⟨h.ch,fun b hb _=>h.below.block b hb⟩) jO rfl (Z0 (Iz (l5.1)) rfl rfl (Zk mI) (Z0 (Tb gN l5.1 1) rfl rfl (Zh (α:=Int) underlying25 sizeOf3 rfl iN rfl xL) (Tm (c:=Iz (yE)) rfl rfl .plain (fun _ _ h=>h.ch) kO rfl (Z0 v8 rfl rfl (Zk rN) (Z0 (Iz (l5.1)) rfl rfl (Zk mI) (Z0 (Tb v8 l5.1 1) rfl rfl (Zh (α:=Int) underlying25 sizeOf3 rfl yK rfl yL) (Tm (c:=Iz (zE)) rfl rfl .plain (fun _ _ h=>h.ch) lO rfl (Z0 (Iz ((w64 (yE + zE)))) rfl rfl (Gk rfl rfl rfl) (Z0 jN rfl rfl (mO ▸ Tu (vs:=[(0,Iz (3)),(2,Iz (l5.1)),(3,Iz ((w64 (yE + zE))))]) [[Iz 0],[Iz 0],[Iz 0],[Iz 0]] Xo rfl rfl (.cons rfl (.cons rfl (.cons rfl .nil))) ⟨⟨_,rfl,rfl⟩,⟨⟨_,rfl,rfl⟩,⟨⟨_,rfl,rfl⟩,trivial⟩⟩⟩) (Ka fun gQ pT hs=>?_))))))))))))));have hfr:=hfr.ext hs;have uF:=uF.ext hs;have lK:=lK.ext hs;clear hs;refine Z4 rfl (Gg (g:=gQ) (v:=jN) sizeOf119 pH uF rfl lK fun iQ sT hs b1186 cb=>?_);clear cb;have hfr:=hfr.stp hs;exact Zb (Tj (Zd (sI ((⟨(3:Int),0,l5.1,(w64 (yE + zE))⟩:Ts),true) _ _ ⟨iQ,hfr,pH,b1186,eM⟩ h)))
          ·refine Gs (Eq.trans (show ev _ _ = .bool (lE) from vJ) (congrArg Value.bool qK)) ?_
           obtain ⟨mE,hx,h⟩:=Z1 h;refine Gl (fun e w=>∃ (g:Gh) ,Fr gI wI g w∧e 2=p2∧OB 2002 g w 119 (uE:Ts) p2∧e 4=p6∧OB 2004 g w 169 (y5.1:Gr) p6∧e 7=Iz (o0.2.2.1)∧e 169=.bool (mE)) (fun Q' hQ=>?_) (fun bS jQ hR=>?_)
           ·replace h := hx
            clear hx;refine Za (Zo cM rfl (Z9 (.bool ((t5.2 == (0:Int)))) rfl rfl rfl rfl (Zn (.bool ((t5.2 == (0:Int)))) rfl rfl ?_)));rcases Zt h with ⟨sG,h⟩ | ⟨sG,h⟩
            ·refine Zy (Iz (l5.2)) (Zk dM) rfl rfl sG rfl (Zy (.bool ((l5.2 == (0 : Int)))) (Gk rfl rfl rfl) rfl rfl sG rfl (Zx (.bool ((l5.2 == (0 : Int)))) (Zl (b := (t5.2 == (0 : Int))) rfl (G4 sG rfl)) rfl (Zn (.bool ((l5.2 == (0 : Int)))) rfl rfl ?_)))
             rcases Zt h with ⟨bD,h⟩ | ⟨bD,h⟩
             ·refine Zy (Iz (o0.2.2.1)) (Zk iI) rfl rfl bD rfl (Zy (Iz (o0.2.2.2)) (Zk sN) rfl rfl bD rfl (Zy (.bool ((o0.2.2.1 == o0.2.2.2))) (Gk rfl rfl rfl) rfl rfl bD rfl (Zx (.bool ((o0.2.2.1 == o0.2.2.2))) (Zl (b := (l5.2 == (0 : Int))) rfl (G4 bD rfl)) rfl (Zg (.bool ((o0.2.2.1 == o0.2.2.2))) rfl rfl (Zb ?_)))))
              obtain rfl:=sinj h;exact hQ _ _ ⟨jJ,hfr,pH,uF,dI,vF,iI,rfl⟩
             ·refine Zz rfl rfl bD rfl rfl (Zz rfl rfl bD rfl rfl (Zz rfl rfl bD rfl rfl (Zx (.bool false) (Zl (b := (l5.2 == (0 : Int))) rfl (G5 bD rfl)) rfl (Zg (.bool false) rfl rfl (Zb ?_)))))
              obtain rfl:=sinj h;exact hQ _ _ ⟨jJ,hfr,pH,uF,dI,vF,iI,rfl⟩
            ·refine Zz rfl rfl sG rfl rfl (Zz rfl rfl sG rfl rfl (Zx (.bool false) (Zl (b := (t5.2 == (0 : Int))) rfl (G5 sG rfl)) rfl (Qv 5 rfl (Zg (.bool false) rfl rfl (Zb ?_)))))
             obtain rfl:=sinj h;exact hQ _ _ ⟨jJ,hfr,pH,uF,dI,vF,iI,rfl⟩
           ·clear hx
            obtain ⟨mK,hfr,jI,zK,tN,pJ,uN,xJ⟩:=hR;rcases Zt h with ⟨sK,h⟩ | ⟨sK,h⟩
            ·refine Ta (Eq.trans (show ev _ _ = .bool (mE) from xJ) (congrArg Value.bool sK)) (Z5 (Zx (Z8 p6 0) (Zc Tz tN (OB.ptr pJ)) rfl (Zx (Z8 p6 3) (Qk (o1 := 0) rfl Dj rfl (OB.ptr pJ)) rfl (Z4 rfl (Qt (g := mK) (Gd.comp G0 Hi rfl).1 isAgg3 sizeOf3 rfl pJ fun tT kQ => ?_)))))
             obtain rfl:=Zj.1 kQ;refine Zo uN rfl (Z9 (Iz ((w64 (((y5.1).PayTable).Total + o0.2.2.1)))) rfl rfl rfl rfl ?_);have kN:RV mK.m jQ (⟨(4:Int),0,0,(w64 (((y5.1).PayTable).Total + o0.2.2.1))⟩:Ts) (.agg (Td [[Iz 0],[Iz 0],[Iz 0],[Iz 0]] [(0,Iz (4)),(3,Iz ((w64 (((y5.1).PayTable).Total + o0.2.2.1))))]).flatten.toArray):=Tc rfl (Gm (rfl) (Gm (Zw) (Gm (Zw) (Tf (rfl)))));generalize nO:(Value.agg (Td [[Iz 0],[Iz 0],[Iz 0],[Iz 0]] [(0,Iz (4)),(3,Iz ((w64 (((y5.1).PayTable).Total + o0.2.2.1))))]).flatten.toArray)=lN at kN;refine Zx lN (nO ▸ Tu (vs:=[(0,Iz (4)),(3,Iz ((w64 (((y5.1).PayTable).Total + o0.2.2.1))))]) [[Iz 0],[Iz 0],[Iz 0],[Iz 0]] Xo rfl rfl (.cons rfl (.cons rfl .nil)) ⟨⟨_,rfl,rfl⟩,⟨⟨_,rfl,rfl⟩,trivial⟩⟩) rfl (Z4 rfl (Gg (g:=mK) (v:=lN) sizeOf119 jI zK rfl kN fun mN uT hs b1197 cb=>?_));clear cb;have hfr:=hfr.stp hs;refine Z3 (Za (Zx (Z8 p2 3) (Zc Sw jI (OB.ptr b1197)) rfl (Z4 rfl (Qt (g:=mN) Jk.1 isAgg3 sizeOf3 rfl b1197 fun xT lQ=>?_))));obtain rfl:=Zj.1 lQ;refine Z4 rfl (Z7 (g:=mN) 3189 (xs:=([(w64 (((y5.1).PayTable).Total + o0.2.2.1))]:List Int)) (vs:=[Iz ((w64 (((y5.1).PayTable).Total + o0.2.2.1)))]) underlying25 sizeOf3 zeroValue3 rfl rfl (.cons rfl .nil) (RVs.cons (Zj.2 rfl) RVs.nil) rfl rfl fun mQ yT nQ hs o1200 oQ hxt hfl=>?_);have hfr:=hfr.stp hs;have b1197:=b1197.stp hs rfl;obtain ⟨aK,oO,h⟩:=Z1 h;refine Z4 rfl (Zp (g:=mQ) (vs:=[nQ]) en73 (.cons rfl .nil) (wk73 oQ oO) fun pQ cS zT hs hr=>?_);have hfr:=hfr.ext hs;have b1197:=b1197.ext hs;subst hr;refine Zg (.bool (aK)) rfl rfl ?_;exact Zb (Tj (Zd (sI ((⟨(4:Int),0,0,(w64 (((y5.1).PayTable).Total + o0.2.2.1))⟩:Ts),aK) _ _ ⟨pQ,hfr,jI,b1197,rfl⟩ h)))
            ·refine Gs (Eq.trans (show ev _ _ = .bool (mE) from xJ) (congrArg Value.bool sK)) (Za (Zg (.bool false) rfl rfl ?_))
             exact Zb (Tj (Zd (sI (uE,false) _ _ ⟨mK,hfr,jI,zK,rfl⟩ h)))
  ·rintro ⟨kJ, kI⟩ dS qQ ⟨eL, hfr, qJ, aL, iM⟩ h
   refine Zq h (fun (s:Ts) e w=>∃ (g:Gh) ,Fr gI wI g w∧e 2=p2∧OB 2002 g w 119 (s:Ts) p2) (fun X1208 jM pO h=>?_) ?_
   ·refine Z5 (Zo iM rfl (Zx (.bool (!kI)) (Qm rfl) rfl (Z3 ?_)))
    rcases Zt h with ⟨tK,h⟩ | ⟨tK,h⟩
    ·refine G6 tK rfl (Z5 ?_)
     have nN:RV eL.m qQ (⟨0,0,0,0⟩:Ts) (.agg (Td [[Iz 0],[Iz 0],[Iz 0],[Iz 0]] []).flatten.toArray):=Tc rfl (Gm (Zw) (Gm (Zw) (Gm (Zw) (Tf (Zw)))));generalize qO:(Value.agg (Td [[Iz 0],[Iz 0],[Iz 0],[Iz 0]] []).flatten.toArray)=oN at nN;refine Zx oN (qO ▸ Tu (vs:=[]) [[Iz 0],[Iz 0],[Iz 0],[Iz 0]] Xo rfl rfl .nil trivial) rfl (Z4 rfl (Gg (g:=eL) (v:=oN) sizeOf119 qJ aL rfl nN fun aU bU hs b1211 cb=>?_));clear cb;have hfr:=hfr.stp hs;refine Zg (Iz (9)) rfl rfl (Z3 (Ga (Gp ?_)));obtain rfl:=sinj h;obtain ⟨ad1212,cv1212,hp1212,rO,cr1212⟩:=T9 isAgg119 sizeOf119 b1211;exact Wm rfl rfl ((show _=p2 from qJ).trans hp1212) rO (show _=Iz (9) from rfl) ⟨_,hfr,_,_,rfl,cr1212,rfl⟩
    ·refine G7 tK rfl ?_
     exact Zu (Zd (pO (kJ) _ _ ⟨eL,hfr,qJ,aL⟩ h))
   ·rintro uK eS cU ⟨pN, hfr, rJ, bL⟩ h
    refine Z5 (Z4 rfl (Tp (g:=pN) isAgg119 sizeOf119 rJ bL fun rQ sQ=>(Z4 rfl (Gg (g:=pN) (v:=rQ) sizeOf119 rJ bL rfl sQ fun dU eU hs b1215 cb=>?_))));clear cb;have hfr:=hfr.stp hs;refine Zg (Iz (0)) rfl rfl (Z3 (Ga ?_));obtain rfl:=sinj h;obtain ⟨ad1216,cv1216,hp1216,sO,cr1216⟩:=T9 isAgg119 sizeOf119 b1215;exact Wm rfl rfl ((show _=p2 from rJ).trans hp1216) sO (show _=Iz (0) from rfl) ⟨_,hfr,_,_,rfl,cr1216,rfl⟩
def f54 (x0:List Str):Option (Bool):=
 Option.bind (α:=Bool) (
  (f87 x0 ((fun a0=>f85 a0))).bind fun i6=>
  bif (!i6) then
   (f88 x0).bind fun g8=>
   bif g8 then
    (f90 x0).bind fun v8=>
    (f89 v8).bind fun l8=>
    some ((((l8).length:Int) == ((x0).length:Int)))
   else
    some (false)
  else
   some (false)
  ) fun t5=>
 some (t5)
theorem en54:Enters prog 54:=enters_of func54 (by kernel_rfl) rfl
theorem wk54 {gI:Gh} {wI:World} {x0:List Str} {up0:Value} (rp0:RV gI.m wI x0 up0) {r:Bool} (h:f54 x0=some r):Fn prog 54 #[up0] gI wI (fun _ _ v=>v=.bool (r)):=by
 unfold f54 at h;refine fnE func54 rfl rfl fun g0 hm hfr=>?_;have rp0:=RVc hm rp0;show E _ 21 none _ _ _ _ _;refine Z5 (Zg (.bool false) rfl rfl (Z3 (Z5 (Zg (.func (.func 85) #[] #[]) rfl rfl (Z3 ?_)))));obtain ⟨t5,hx,h⟩:=Z1 h;refine Gl (fun e w=>∃ (g:Gh) ,Fr gI wI g w∧e 2=.bool (t5)) (fun Q' hQ=>?_) (fun cC lD hR=>?_)
 ·replace h := hx
  clear hx;refine Za (Zn up0 rfl rfl (Zn (.func (.func 85) #[] #[]) rfl rfl ?_));obtain ⟨i6,aB,h⟩:=Z1 h;refine Z4 rfl (Zp (g:=g0) (vs:=[up0,.func (.func 85) #[] #[]]) en87 (.cons rfl (.cons rfl .nil)) (wk87 rp0 ⟨85,#[],#[],rfl,en85,fun g' w' hch a0 b0 r hu0 hr=>by obtain rfl:=Kv.1 hu0; exact Fn.mono (wk85   hr) fun _ _ _ h=>Q1.2 h⟩ aB) fun l9 uC nD hs hr=>?_);have hfr:=hfr.ext hs;have rp0:=rp0.ext hs;subst hr;refine Zx (.bool (!i6)) (Qm rfl) rfl (Zn (.bool (!i6)) rfl rfl ?_);rcases Zt h with ⟨l5,h⟩ | ⟨l5,h⟩
  ·refine Zy up0 (Zk rfl) rfl rfl l5 rfl ?_
   obtain ⟨g8,lB,h⟩:=Z1 h;refine Ze (.yes2 rfl rfl l5) rfl (Zp (g:=l9) (vs:=[up0]) en88 (.cons rfl .nil) (wk88 rp0 lB) fun n9 vC oD hs hr=>?_);have hfr:=hfr.ext hs;have rp0:=rp0.ext hs;subst hr;refine Zx (.bool (g8)) (Zl (b:=(!i6)) rfl (G4 l5 rfl)) rfl (Zn (.bool (g8)) rfl rfl ?_);rcases Zt h with ⟨o0,h⟩ | ⟨o0,h⟩
   ·refine Zy up0 (Zk rfl) rfl rfl o0 rfl ?_
    obtain ⟨v8,mB,h⟩:=Z1 h;refine Ze (.yes2 rfl rfl o0) rfl (Zp (g:=n9) (vs:=[up0]) en90 (.cons rfl .nil) (wk90 rp0 mB) fun nB bD oB hs hr=>?_);have hfr:=hfr.ext hs;have rp0:=rp0.ext hs;have vB:=hr;obtain ⟨l8,hy20,h⟩:=Z1 h;refine Ze (.yes2 rfl rfl o0) rfl (Zp (g:=nB) (vs:=[oB]) en89 (.cons rfl .nil) (wk89 vB hy20) fun yB cD yD hs hr=>?_);have hfr:=hfr.ext hs;have rp0:=rp0.ext hs;have zB:=hr;refine Zy (Iz ((l8).length:Int)) (Gz underlying66 rfl zB) rfl rfl o0 rfl (Zy up0 (Zk rfl) rfl rfl o0 rfl (Zy (Iz ((x0).length:Int)) (Gz underlying66 rfl rp0) rfl rfl o0 rfl (Zy (.bool ((((l8).length:Int) == ((x0).length:Int)))) (Gk rfl rfl rfl) rfl rfl o0 rfl (Zx (.bool ((((l8).length:Int) == ((x0).length:Int)))) (Zl (b:=g8) rfl (G4 o0 rfl)) rfl (Zg (.bool ((((l8).length:Int) == ((x0).length:Int)))) rfl rfl (Zb ?_))))));obtain rfl:=sinj h;exact hQ _ _ ⟨yB,hfr,rfl⟩
   ·refine Zz rfl rfl o0 rfl rfl ?_
    iterate 6 refine Zz rfl rfl o0 rfl rfl ?_
    refine Zx (.bool false) (Zl (b:=g8) rfl (G5 o0 rfl)) rfl (Zg (.bool false) rfl rfl (Zb ?_));obtain rfl:=sinj h;exact hQ _ _ ⟨n9,hfr,rfl⟩
  ·refine Zz rfl rfl l5 rfl rfl (Zz rfl rfl l5 rfl rfl (Zx (.bool false) (Zl (b := (!i6)) rfl (G5 l5 rfl)) rfl (Qv 9 rfl (Zg (.bool false) rfl rfl (Zb ?_)))))
   obtain rfl:=sinj h;exact hQ _ _ ⟨l9,hfr,rfl⟩
 ·clear hx
  obtain ⟨zD,hfr,n8⟩:=hR;refine Ga ?_;obtain rfl:=sinj h;exact Tg rfl rfl (show _=.bool (t5) from n8) ⟨_,hfr,rfl⟩
def f84 (x0:ChainBelt):Option (Gv × Int):=
 jn (σ:=Gv) (fun aB=>
  some ((⟨x0,(x0).Hooks⟩:Gv),(0:Int))
  ) fun k33=>
 (f127 ((x0).Hooks)).bind fun n8=>
 bif (!n8) then
  some ((⟨x0,(x0).Hooks⟩:Gv),(3:Int))
 else
  bif (decide ((((x0).Cards).length : Int) > (60 : Int))) then
   some ((⟨x0,(x0).Hooks⟩:Gv),(5:Int))
  else
   (f128 ((x0).Hooks) ((x0).Cards)).bind fun v8=>
   bif (!v8) then
    some ((⟨x0,(x0).Hooks⟩:Gv),(2:Int))
   else
    k33 ((⟨⟨0,[]⟩,0⟩:Gv))
theorem en84:Enters prog 84:=enters_of func84 (by kernel_rfl) rfl
theorem wk84 {gI:Gh} {wI:World} {x0:ChainBelt} {up0:Value} (rp0:RV gI.m wI x0 up0) {r:Gv × Int} (h:f84 x0=some r):Fn prog 84 #[up0] gI wI (fun m w v=>∃ y0 y1,v=.tuple #[y0,y1]∧RV m w (r.1) y0∧y1=Iz (r.2)):=by
 unfold f84 at h;refine fnE func84 rfl rfl fun g0 hm hfr=>?_;have rp0:=RVc hm rp0;show E _ 30 none _ _ _ _ _;refine Z5 (Z4 rfl (Tv (g:=g0) rfl rp0 fun g1 w1 p1 hs q1=>?_));have hfr:=hfr.ext hs;refine Z4 rfl (G2 (g:=g1) 2002 (⟨⟨0,[]⟩,0⟩:Gv) zeroValue192 (fun m w=>⟨_,(Gb (Gb Zw G9) Zw),rfl⟩) fun g2 w2 p2 hs b2 cb=>?_);have hfr:=hfr.stp hs;have q1:=q1.stp hs;have o0:OSF 2002 60201 1 g2 w2 96 192 ([]:List Gc) p2:=cb.osf (by rfl);clear cb;refine Zg (Iz (0)) rfl rfl (Z3 (Z5 (Z4 rfl (Z6 (g:=g2) isAgg94 sizeOf94 rfl q1 fun v3 r3=>(Zx (Z8 p1 0) (Zc Xt rfl (PT.ptr q1)) rfl ?_)))));have q4:=Zm (Kf).1 q1;refine Z4 rfl (Z6 (g:=g2) isAgg3 sizeOf3 rfl q4 fun v5 r5=>?_);obtain rfl:=Zj.1 r5;have r6:RV g2.m _ (⟨x0,(x0).Hooks⟩:Gv) (.agg (Td [[Iz 0,.slice none 0 0],[Iz 0]] [(0,v3),(1,Iz ((x0).Hooks))]).flatten.toArray):=Tc rfl (Gm (RV.cells r3) (Tf (rfl)));generalize cD:(Value.agg (Td [[Iz 0,.slice none 0 0],[Iz 0]] [(0,v3),(1,Iz ((x0).Hooks))]).flatten.toArray)=v6 at r6;refine Zx v6 (cD ▸ Tu (vs:=[(0,v3),(1,Iz ((x0).Hooks))]) [[Iz 0,.slice none 0 0],[Iz 0]] E8 rfl rfl (.cons rfl (.cons rfl .nil)) ⟨⟨_,rfl,Ti r3⟩,⟨⟨_,rfl,rfl⟩,trivial⟩⟩) rfl (Z4 rfl (G2 (g:=g2) 2004 (⟨⟨0,[]⟩,0⟩:Gv) zeroValue192 (fun m w=>⟨_,(Gb (Gb Zw G9) Zw),rfl⟩) fun g7 w7 p7 hs b7 cb=>?_));have hfr:=hfr.stp hs;have q1:=q1.stp hs;have o0:=o0.stp hs rfl;have b2:=b2.stp hs rfl;have r6:=r6.stp hs;have yE:OSF 2004 60401 1 g7 w7 96 192 ([]:List Gc) p7:=cb.osf (by rfl);clear cb;refine Z4 rfl (Gg (g:=g7) (v:=v6) sizeOf192 rfl b7 rfl r6 fun g8 w8 hs b8 cb=>?_);clear cb;have hfr:=hfr.stp hs;have q1:=q1.stp hs;have o0:=o0.stp hs rfl;have b2:=b2.stp hs rfl;refine Z3 (Zq h (fun (s:Gv) e w=>∃ (g:Gh) ,Fr gI wI g w∧e 2=p2∧OB 2002 g w 192 (s:Gv) p2∧OSF 2002 60201 1 g w 96 192 (((s).ChainBelt).Cards) p2∧e 4=p7∧OB 2004 g w 192 ((⟨x0,(x0).Hooks⟩:Gv):Gv) p7) (fun X33 k33 vB h=>?_) ?_)
 ·refine Zr (Z5 (Zx (Z8 p7 2) (Zc Ra rfl (OB.ptr b8)) rfl (Z4 rfl (Qt (g := g8) Ku.1 isAgg190 sizeOf190 rfl b8 fun eF lD => ?_))))
  obtain rfl:=Zj.1 lD;obtain ⟨n8,yB,h⟩:=Z1 h;refine Z4 rfl (Zp (g:=g8) (vs:=[Iz ((x0).Hooks)]) en127 (.cons rfl .nil) (wk127  yB) fun l5 zE rF hs hr=>?_);have hfr:=hfr.ext hs;have q1:=q1.ext hs;have o0:=o0.ext hs;have b2:=b2.ext hs;have b8:=b8.ext hs;subst hr;refine Zx (.bool (!n8)) (Qm rfl) rfl (Zg (.bool (!n8)) rfl rfl (Z3 ?_));rcases Zt h with ⟨t5,h⟩ | ⟨t5,h⟩
  ·refine G6 t5 rfl (Z5 (Z4 rfl (Tp (g := l5) isAgg192 sizeOf192 rfl b8 fun nD oD => (Z4 rfl (Gg (g := l5) (v := nD) sizeOf192 rfl b2 rfl oD fun sF tF hs b40 cb => ?_)))))
   clear cb;have hfr:=hfr.stp hs;refine Zg (Iz (3)) rfl rfl (Z3 (Ga (Tl (Gp ?_))));obtain rfl:=sinj h;obtain ⟨ad41,cv41,hp41,zB,cr41⟩:=T9 isAgg192 sizeOf192 b40;exact Wm rfl rfl ((rq p2).trans hp41) zB (rq (Iz (3))) ⟨_,hfr,_,_,rfl,cr41,rfl⟩
  ·refine G7 t5 rfl (Z5 (Zx (Z8 p1 1) (Zc Js rfl (PT.ptr q1)) rfl ?_))
   have yD:=Zm (Qq).1 q1;refine Z4 rfl (Z6 (g:=l5) isAgg92 sizeOf92 rfl yD fun uF zD=>(Zx (Iz (((x0).Cards).length:Int)) (Gz underlying92 rfl zD) rfl (Zx (.bool ((decide ((((x0).Cards).length:Int) > (60:Int))))) (Gk rfl rfl rfl) rfl (Zx (.bool ((decide ((((x0).Cards).length:Int) > (60:Int))))) (Te rfl) rfl (Z3 ?_)))));rcases Zt h with ⟨i6,h⟩ | ⟨i6,h⟩
   ·refine G6 i6 rfl (Z5 (Z4 rfl (Tp (g := l5) isAgg192 sizeOf192 rfl b8 fun aE bE => (Z4 rfl (Gg (g := l5) (v := aE) sizeOf192 rfl b2 rfl bE fun vF xF hs b46 cb => ?_)))))
    clear cb;have hfr:=hfr.stp hs;refine Zg (Iz (5)) rfl rfl (Z3 (Ga (Tl (Gp ?_))));obtain rfl:=sinj h;obtain ⟨ad47,cv47,hp47,cC,cr47⟩:=T9 isAgg192 sizeOf192 b46;exact Wm rfl rfl ((rq p2).trans hp47) cC (rq (Iz (5))) ⟨_,hfr,_,_,rfl,cr47,rfl⟩
   ·refine G7 i6 rfl (Z5 (Zx (Z8 p7 2) (Zc Ra rfl (OB.ptr b8)) rfl (Z4 rfl (Qt (g := l5) Ku.1 isAgg190 sizeOf190 rfl b8 fun yF iE => ?_))))
    obtain rfl:=Zj.1 iE;refine Zx (Z8 p1 1) (Zc Js rfl (PT.ptr q1)) rfl ?_;have lE:=Zm (Qq).1 q1;refine Z4 rfl (Z6 (g:=l5) isAgg92 sizeOf92 rfl lE fun mE oE=>?_);obtain ⟨v8,uC,h⟩:=Z1 h;refine Z4 rfl (Zp (g:=l5) (vs:=[Iz ((x0).Hooks),mE]) en128 (.cons rfl (.cons rfl .nil)) (wk128 oE uC) fun n9 cF aG hs hr=>?_);have hfr:=hfr.ext hs;have o0:=o0.ext hs;have b2:=b2.ext hs;have b8:=b8.ext hs;subst hr;refine Zx (.bool (!v8)) (Qm rfl) rfl (Zg (.bool (!v8)) rfl rfl (Z3 ?_));rcases Zt h with ⟨l8,h⟩ | ⟨l8,h⟩
    ·refine G6 l8 rfl (Z5 (Z4 rfl (Tp (g := n9) isAgg192 sizeOf192 rfl b8 fun rE uE => (Z4 rfl (Gg (g := n9) (v := rE) sizeOf192 rfl b2 rfl uE fun bG cG hs b56 cb => ?_)))))
     clear cb;have hfr:=hfr.stp hs;refine Zg (Iz (2)) rfl rfl (Z3 (Ga (Tl (Gp ?_))));obtain rfl:=sinj h;obtain ⟨ad57,cv57,hp57,vC,cr57⟩:=T9 isAgg192 sizeOf192 b56;exact Wm rfl rfl ((rq p2).trans hp57) vC (rq (Iz (2))) ⟨_,hfr,_,_,rfl,cr57,rfl⟩
    ·refine G7 l8 rfl ?_
     exact Zu (Tj (Zd (vB ((⟨⟨0,[]⟩,0⟩:Gv)) _ _ ⟨n9,hfr,rfl,b2,o0,rfl,b8⟩ h)))
 ·rintro aB dF eG ⟨oB, hfr, l9, lB, u2_1_58, mB, nB⟩ h
  refine Z5 (Z4 rfl (Tp (g:=oB) isAgg192 sizeOf192 mB nB fun vE xE=>(Z4 rfl (Gg (g:=oB) (v:=vE) sizeOf192 l9 lB rfl xE fun gG iG hs b60 cb=>?_))));clear cb;have hfr:=hfr.stp hs;refine Zg (Iz (0)) rfl rfl (Z3 (Ga ?_));obtain rfl:=sinj h;obtain ⟨ad61,cv61,hp61,bD,cr61⟩:=T9 isAgg192 sizeOf192 b60;exact Wm rfl rfl ((show _=p2 from l9).trans hp61) bD (show _=Iz (0) from rfl) ⟨_,hfr,_,_,rfl,cr61,rfl⟩
def f8 (x0:List (List UInt8)):Option ((List UInt8) × Int × Int):=
 (f19 x0).bind fun y2=>
 jn (σ:=Unit) (fun _=>
  (f18 (y2.1)).bind fun y8=>
  some (y8.1,y8.2.1,y8.2.2)
  ) fun k4=>
 bif (y2.2.2 != (0 : Int)) then
  some ([],y2.2.1,y2.2.2)
 else
  k4 ()
theorem en8:Enters prog 8:=enters_of func8 (by kernel_rfl) rfl
theorem wk8 {gI:Gh} {wI:World} {x0:List (List UInt8)} {up0:Value} (rp0:RV gI.m wI x0 up0) {r:(List UInt8) × Int × Int} (h:f8 x0=some r):Fn prog 8 #[up0] gI wI (fun m w v=>∃ y0 y1 y2,v=.tuple #[y0,y1,y2]∧RV m w (r.1) y0∧y1=Iz (r.2.1)∧y2=Iz (r.2.2)):=by
 unfold f8 at h;refine fnE func8 rfl rfl fun g0 hm hfr=>?_;have rp0:=RVc hm rp0;show E _ 21 none _ _ _ _ _;refine Z5 (Zg (.slice none 0 0) rfl rfl (Zg (Iz (0)) rfl rfl (Zg (Iz (0)) rfl rfl (Z3 (Z5 (Zn up0 rfl rfl ?_))))));obtain ⟨y2,hy2,h⟩:=Z1 h;refine Z4 rfl (Zp (g:=g0) (vs:=[up0]) en19 (.cons rfl .nil) (wk19 rp0 hy2) fun g1 w1_ v1 hs hr=>?_);have hfr:=hfr.ext hs;obtain ⟨o0,v8,l9,rfl,t5,rfl,rfl⟩:=hr;refine Zn (.tuple #[o0,Iz (y2.2.1),Iz (y2.2.2)]) rfl rfl (Zx o0 (Zi rfl rfl) rfl (Zx (Iz (y2.2.1)) (Zi rfl rfl) rfl (Zx (Iz (y2.2.2)) (Zi rfl rfl) rfl (Zg o0 rfl rfl (Zg (Iz (y2.2.1)) rfl rfl (Zg (Iz (y2.2.2)) rfl rfl (Z3 (Zq h (fun (s:Unit) e w=>∃ (g:Gh) ,Fr gI wI g w∧e 5=o0∧RV g.m w (y2.1:List Z2) o0) (fun X4 k4 hk4 h=>?_) ?_))))))))
 ·refine Z5 (Zn (Iz (y2.2.2)) rfl rfl (Z9 (.bool ((y2.2.2 != (0 : Int)))) rfl rfl rfl rfl (Z3 ?_)))
  rcases Zt h with ⟨hc5,h⟩ | ⟨hc5,h⟩
  ·refine G6 hc5 rfl (Z5 (Zn (Iz (y2.2.1)) rfl rfl (Zn (Iz (y2.2.2)) rfl rfl (Zg (.slice none 0 0) rfl rfl (Zg (Iz (y2.2.1)) rfl rfl (Zg (Iz (y2.2.2)) rfl rfl (Z3 (Ga (Gp ?_)))))))))
   obtain rfl:=sinj h;exact Ya rfl rfl (rq (.slice none 0 0)) (rq (Iz (y2.2.1))) (rq (Iz (y2.2.2))) ⟨_,hfr,_,_,_,rfl,T0,rfl,rfl⟩
  ·refine G7 hc5 rfl ?_
   exact Zu (Zd (hk4 () _ _ ⟨g1,hfr,rfl,t5⟩ h))
 ·rintro _ lB w6 ⟨g6, hfr, i6, g8⟩ h
  refine Z5 (Zo i6 rfl ?_);obtain ⟨y8,n8,h⟩:=Z1 h;refine Z4 rfl (Zp (g:=g6) (vs:=[o0]) en18 (.cons rfl .nil) (wk18 g8 n8) fun g7 w7_ v7 hs hr=>?_);have hfr:=hfr.ext hs;obtain ⟨l5,n9,aB,rfl,l8,rfl,rfl⟩:=hr;refine Zx l5 (Zi rfl rfl) rfl (Zx (Iz (y8.2.1)) (Zi rfl rfl) rfl (Zx (Iz (y8.2.2)) (Zi rfl rfl) rfl (Zg l5 rfl rfl (Zg (Iz (y8.2.1)) rfl rfl (Zg (Iz (y8.2.2)) rfl rfl (Z3 (Ga ?_)))))));obtain rfl:=sinj h;exact Ya rfl rfl (rq l5) (rq (Iz (y8.2.1))) (rq (Iz (y8.2.2))) ⟨_,hfr,_,_,_,rfl,l8,rfl,rfl⟩
def f12 (x0:PayList) (x1:List Gf):Option ((List Int) × (List Int) × Int × Int):=
 jn (σ:=Unit) (fun _=>
  jn (σ:=Unit) (fun _=>
   jn (σ:=(List (Int × Int))) (fun nB=>
    (F5 nB).bind fun lB=>
    Option.bind (α:=(List Int)) (
     lp (σ:=(List Int) × Int) (fun dI (rE,n8)=>
      bif (decide (n8 < ((lB).length : Int))) then
       Option.bind (α:=(List Int)) (
        (idx lB n8).bind fun bE=>
        (apnd 8 rE (([((Wb nB bE).getD (0:Int))]:List Int))).bind fun iI=>
        some (iI)
        ) fun vC=>
       dI (vC,(w64 (n8 + (1:Int))))
      else
       some (rE)
      ) big ([],(0:Int))
     ) fun oD=>
    some (lB,oD,(0:Int),(0:Int))
    ) fun jI=>
   lp (σ:=(List (Int × Int)) × Int) (fun kI (l9,o0)=>
    bif (decide (o0 < ((x1).length : Int))) then
     jn (σ:=(List (Int × Int))) (fun uE=>
      kI (uE,(w64 (o0 + (1:Int))))
      ) fun lI=>
     (idx x1 o0).bind fun n9=>
     (f27 x0 n9).bind fun y168=>
     jn (σ:=Unit) (fun _=>
      (f28 (y168.1) n9 ((n9).Faults)).bind fun iE=>
      lI ((H0 l9 ((n9).Weaver) ((w64 (((Wb l9 ((n9).Weaver)).getD (0:Int)) + iE)))))
      ) fun mI=>
     bif (y168.2 != (0 : Int)) then
      some ([],[],o0,y168.2)
     else
      mI ()
    else
     jI (l9)
    ) big (([]:List (Int × Int)),(0:Int))
   ) fun zL=>
  bif (decide (((x1).length : Int) > (50 : Int))) then
   some ([],[],(0:Int),(5:Int))
  else
   zL ()
  ) fun k6=>
 (f26 x0).bind fun y9=>
 bif (y9 != (0 : Int)) then
  some ([],[],(0:Int),y9)
 else
  k6 ()
theorem en12:Enters prog 12:=enters_of func12 (by kernel_rfl) rfl
theorem wk12 {gI:Gh} {wI:World} {x0:PayList} {x1:List Gf} {up0:Value} (rp0:RV gI.m wI x0 up0) {up1:Value} (rp1:RV gI.m wI x1 up1) {r:(List Int) × (List Int) × Int × Int} (h:f12 x0 x1=some r):Fn prog 12 #[up0,up1] gI wI (fun m w v=>∃ y0 y1 y2 y3,v=.tuple #[y0,y1,y2,y3]∧RV m w (r.1) y0∧RV m w (r.2.1) y1∧y2=Iz (r.2.2.1)∧y3=Iz (r.2.2.2)):=by
 unfold f12 at h;refine fnE func12 rfl rfl fun g0 hm hfr=>?_;have rp0:=RVc hm rp0;have rp1:=RVc hm rp1;show E _ 71 none _ _ _ _ _;refine Z5 (Z4 rfl (Tv (g:=g0) rfl rp0 fun g1 w1 p1 hs q1=>?_));have hfr:=hfr.ext hs;have rp1:=rp1.ext hs;refine Zg (.slice none 0 0) rfl rfl (Zg (.slice none 0 0) rfl rfl (Zg (Iz (0)) rfl rfl (Zg (Iz (0)) rfl rfl (Z3 (Zq h (fun (s:Unit) e w=>∃ (g:Gh) ,Fr gI wI g w∧e 1=up1∧RV g.m w (x1:List Gf) up1∧e 2=p1∧PT g.m w (x0:PayList) p1∧e 5=.slice none 0 0∧RV g.m w ([]:List Int) (Value.slice none 0 0)) (fun X6 k6 hk6 h=>?_) ?_)))))
 ·refine Z5 (Z4 rfl (Z6 (g := g1) isAgg37 sizeOf37 rfl q1 fun v7 r7 => ?_))
  obtain ⟨y9,rN,h⟩:=Z1 h;refine Z4 rfl (Zp (g:=g1) (vs:=[v7]) en26 (.cons rfl .nil) (wk26 r7 rN) fun g8 w8_ v8 hs hr=>?_);have hfr:=hfr.ext hs;have rp1:=rp1.ext hs;have q1:=q1.ext hs;subst hr;refine Zg (Iz (y9)) rfl rfl (Z3 (Z5 (Zn (Iz (y9)) rfl rfl (Z9 (.bool ((y9 != (0:Int)))) rfl rfl rfl rfl (Z3 ?_)))));rcases Zt h with ⟨mG,h⟩ | ⟨mG,h⟩
  ·refine G6 mG rfl (Z5 (Zn (Iz (y9)) rfl rfl (Zg (.slice none 0 0) rfl rfl (Zg (.slice none 0 0) rfl rfl (Zg (Iz (0)) rfl rfl (Zg (Iz (y9)) rfl rfl (Z3 (Ga (Gp ?_)))))))))
   obtain rfl:=sinj h;exact Am rfl rfl (rq (.slice none 0 0)) (rq (.slice none 0 0)) (rq (Iz (0))) (rq (Iz (y9))) ⟨_,hfr,_,_,_,_,rfl,T0,T0,rfl,rfl⟩
  ·refine G7 mG rfl ?_
   exact Zu (Zd (hk6 () _ _ ⟨g8,hfr,rfl,rp1,rfl,q1,rfl,T0⟩ h))
 ·rintro _ mO pP ⟨sN, hfr, gH, jH, sK, tK, uK, vK⟩ h
  refine Zq h (fun (s:Unit) e w=>∃ (g:Gh) ,Fr gI wI g w∧e 1=up1∧RV g.m w (x1:List Gf) up1∧e 2=p1∧PT g.m w (x0:PayList) p1∧e 5=.slice none 0 0∧RV g.m w ([]:List Int) (Value.slice none 0 0)) (fun X13 zL aM h=>?_) ?_
  ·refine Z5 (Zo gH rfl (Zx (Iz ((x1).length : Int)) (Gz underlying57 rfl jH) rfl (Z9 (.bool ((decide (((x1).length : Int) > (50 : Int))))) rfl rfl rfl rfl (Z3 ?_))))
   rcases Zt h with ⟨sG,h⟩ | ⟨sG,h⟩
   ·refine G6 sG rfl (Z5 (Zg (.slice none 0 0) rfl rfl (Zg (.slice none 0 0) rfl rfl (Zg (Iz (0)) rfl rfl (Zg (Iz (5)) rfl rfl (Z3 (Ga (Gp ?_))))))))
    obtain rfl:=sinj h;exact Am rfl rfl (rq (.slice none 0 0)) (rq (.slice none 0 0)) (rq (Iz (0))) (rq (Iz (5))) ⟨_,hfr,_,_,_,_,rfl,T0,T0,rfl,rfl⟩
   ·refine G7 sG rfl ?_
    exact Zu (Zd (aM () _ _ ⟨sN,hfr,gH,jH,sK,tK,uK,vK⟩ h))
  ·rintro _ nO w15 ⟨tN, hfr, xK, oE, yK, rF, zK, sF⟩ h
   refine Z5 (Z4 rfl (Ci (g:=tN) (Value.int .i64) Int 8024 fun uN sP oB hs m16=>?_));have hfr:=hfr.stp hs;have oE:=oE.stp hs;have rF:=rF.stp hs;have sF:=sF.stp hs;refine Zg oB rfl rfl (Z3 (Zq h (fun (s:(List (Int × Int))) e w=>∃ (g:Gh) ,Fr gI wI g w∧e 5=.slice none 0 0∧RV g.m w ([]:List Int) (Value.slice none 0 0)∧e 9=oB∧MP (Value.int .i64) 8024 g w (s:List (Int × Int)) oB) (fun X111 jI aL h=>?_) ?_))
   ·refine Z5 (Zo xK rfl (Zx (Iz ((x1).length : Int)) (Gz underlying57 rfl oE) rfl (Zn (Iz (0)) rfl rfl (Z3 (Zr (Q0 h (fun (s : (List (Int × Int)) × Int) e w => ∃ (g : Gh) , Fr gI wI g w ∧ e 2 = p1 ∧ PT g.m w (x0 : PayList) p1 ∧ e 5 = .slice none 0 0 ∧ RV g.m w ([] : List Int) (Value.slice none 0 0) ∧ e 9 = oB ∧ MP (Value.int .i64) 8024 g w (s.1 : List (Int × Int)) oB ∧ e 25 = up1 ∧ RV g.m w (x1 : List Gf) up1 ∧ e 26 = Iz (((x1).length : Int)) ∧ e 27 = Iz (s.2)) ⟨uN, hfr, yK, rF, zK, sF, rfl, m16, rfl, oE, rfl, rfl⟩ (fun X112 kI bL => ?_)))))))
    rintro ⟨l9,o0⟩ bO oO ⟨xG,hfr,aG,t5,bG,i6,cG,l8,zE,l5,cF,nD⟩ h;refine Z5 (Z9 (.bool ((decide (o0 < ((x1).length:Int))))) nD cF rfl rfl (Z3 (Zf ?_)));rcases Zt h with ⟨tF,h⟩ | ⟨tF,h⟩
    ·refine G6 tF rfl (Zu (Zd (Zq h (fun (s : (List (Int × Int))) e w => ∃ (g : Gh) , Fr gI wI g w ∧ e 2 = p1 ∧ PT g.m w (x0 : PayList) p1 ∧ e 5 = .slice none 0 0 ∧ RV g.m w ([] : List Int) (Value.slice none 0 0) ∧ e 9 = oB ∧ MP (Value.int .i64) 8024 g w (s : List (Int × Int)) oB ∧ e 25 = up1 ∧ RV g.m w (x1 : List Gf) up1 ∧ e 26 = Iz (((x1).length : Int)) ∧ e 27 = Iz (o0)) (fun X159 lI dL h => ?_) ?_)))
     ·refine Zr (Z5 (Zo nD rfl ?_))
      obtain ⟨n9,kH,h⟩:=Z1 h;refine Zx (Tb up1 o0 5) (Zh (α:=Gf) underlying57 sizeOf62 zE l5 nD kH) rfl ?_;have bM:=Gx l5 kH;refine Z4 rfl (Z6 (g:=xG) isAgg62 sizeOf62 rfl bM fun cM yG=>(Z4 rfl (G2 (g:=xG) 2011 (⟨0,0,0,[],0⟩:Gf) zeroValue62 (fun m w=>⟨_,(Gb Zw (Gb Zw (Gb Zw (Gb G9 Zw)))),rfl⟩) fun nI dM vE hs b163 cb=>?_)));have hfr:=hfr.stp hs;have t5:=t5.stp hs;have i6:=i6.stp hs;have l8:=l8.stp hs rfl;have l5:=l5.stp hs;have yG:=yG.stp hs;have vN:OSF 2011 61103 3 nI dM 3 62 ([]:List Int) vE:=cb.osf (by rfl);clear cb;refine Zg (Iz (o0)) rfl rfl (Z4 rfl (Gg (g:=nI) (v:=cM) sizeOf62 rfl b163 rfl yG fun zG pO hs b164 cb=>?_));clear cb;have hfr:=hfr.stp hs;have t5:=t5.stp hs;have i6:=i6.stp hs;have l8:=l8.stp hs rfl;have l5:=l5.stp hs;refine Z3 (Z5 (Z4 rfl (Z6 (g:=zG) isAgg37 sizeOf37 aG t5 fun eM iM=>(Z4 rfl (Tp (g:=zG) isAgg62 sizeOf62 rfl b164 fun jM kM=>?_)))));obtain ⟨y168,eL,h⟩:=Z1 h;refine Z4 rfl (Zp (g:=zG) (vs:=[eM,jM]) en27 (.cons rfl (.cons rfl .nil)) (wk27 iM kM eL) fun pM cO qO hs hr=>?_);have hfr:=hfr.ext hs;have t5:=t5.ext hs;have i6:=i6.ext hs;have l8:=l8.ext hs;have l5:=l5.ext hs;have b164:=b164.ext hs;obtain ⟨xE,xN,rfl,yE,rfl⟩:=hr;refine Zn (.tuple #[xE,Iz (y168.2)]) rfl rfl (Zx xE (Zi rfl rfl) rfl (Zx (Iz (y168.2)) (Zi rfl rfl) rfl (Z4 rfl (G2 (g:=pM) 2012 (⟨⟨[],[],0,0⟩⟩:Gy) zeroValue105 (fun m w=>⟨_,(Gb G9 (Gb G9 (Gb Zw Zw))),rfl⟩) fun aH pI uF hs b169 cb=>?_))));have hfr:=hfr.stp hs;have t5:=t5.stp hs;have i6:=i6.stp hs;have l8:=l8.stp hs rfl;have l5:=l5.stp hs;have b164:=b164.stp hs rfl;have yE:=yE.stp hs;have yN:OSF 2012 61200 0 aH pI 74 105 ([]:List Gq) uF:=cb.osf (by rfl);have zN:OSF 2012 61201 1 aH pI 3 105 ([]:List Int) uF:=cb.osf (by rfl);clear cb;refine Z4 rfl (Gg (g:=aH) (v:=xE) sizeOf105 rfl b169 rfl yE fun qM rO hs b170 cb=>?_);clear cb;have hfr:=hfr.stp hs;have t5:=t5.stp hs;have i6:=i6.stp hs;have l8:=l8.stp hs rfl;have l5:=l5.stp hs;have b164:=b164.stp hs rfl;refine Zg (Iz (y168.2)) rfl rfl (Z3 (Zq h (fun (s:Unit) e w=>∃ (g:Gh) ,Fr gI wI g w∧e 2=p1∧PT g.m w (x0:PayList) p1∧e 5=.slice none 0 0∧RV g.m w ([]:List Int) (Value.slice none 0 0)∧e 9=oB∧MP (Value.int .i64) 8024 g w (l9:List (Int × Int)) oB∧e 11=vE∧OB 2011 g w 62 (n9:Gf) vE∧e 12=uF∧OB 2012 g w 105 (y168.1:Gy) uF∧e 25=up1∧RV g.m w (x1:List Gf) up1∧e 26=Iz (((x1).length:Int))∧e 27=Iz (o0)) (fun X172 mI gL h=>?_) ?_))
      ·refine Z5 (Zn (Iz (y168.2)) rfl rfl (Z9 (.bool ((y168.2 != (0 : Int)))) rfl rfl rfl rfl (Z3 ?_)))
       rcases Zt h with ⟨vF,h⟩ | ⟨vF,h⟩
       ·refine G6 vF rfl (Z5 (Zn (Iz (o0)) rfl rfl (Zn (Iz (y168.2)) rfl rfl (Zg (.slice none 0 0) rfl rfl (Zg (.slice none 0 0) rfl rfl (Zg (Iz (o0)) rfl rfl (Zg (Iz (y168.2)) rfl rfl (Z3 (Ga (Gp (Tl (Gp (Gp (Tl (Gp ?_)))))))))))))))
        obtain rfl:=sinj h;exact Am rfl rfl (rq (.slice none 0 0)) (rq (.slice none 0 0)) (rq (Iz (o0))) (rq (Iz (y168.2))) ⟨_,hfr,_,_,_,_,rfl,T0,T0,rfl,rfl⟩
       ·refine G7 vF rfl ?_
        exact Zu (Zd (gL () _ _ ⟨qM,hfr,aG,t5,bG,i6,cG,l8,rfl,b164,rfl,b170,zE,l5,cF,nD⟩ h))
      ·rintro _ dO sO ⟨rM, hfr, qI, bD, sI, cD, eG, yD, lE, yB, mH, nH, oH, zB, pH, qH⟩ h
       refine Hj (x:=.tmp 43) Ug.1 isAgg3 sizeOf3 yB fun tO sM iL=>?_;obtain rfl:=Zj.1 sM;refine Ht (x:=.tmp 12) isAgg105 sizeOf105 nH fun jJ tM jL=>(Ht (x:=.tmp 11) isAgg62 sizeOf62 yB fun kJ uM lL=>(Hj (x:=.tmp 48) Hh.1 isAgg3 sizeOf3 yB fun uO vM mL=>?_));obtain rfl:=Zj.1 vM;obtain ⟨iE,nL,h⟩:=Z1 h;refine To (g:=rM) (n:=10) [(3,(fun v _ _=>v=Iz (((Wb l9 ((n9).Weaver)).getD (0:Int))))),(8,(fun v g w=>v=Iz (iE)))] [0,1,2,3,4,5,6,7,8,9] rfl mixed (by kernel_rfl) (⟨fun _=>Wk _,fun _=>Wk _,trivial⟩) (Z0 oB rfl rfl (Zk eG) (Z0 (Z8 vE 0) rfl rfl (Zc Mi lE (OB.ptr yB)) (Tm (c:=Iz ((n9).Weaver)) rfl rfl .plain (fun _ _ h=>⟨h.ch,fun b hb _=>h.below.block b hb⟩) iL rfl (W7 (φ:=(fun v _ _=>v=Iz (((Wb l9 ((n9).Weaver)).getD (0:Int))))) rfl rfl .plain (fun g w hd=>Lc (g:=g) (z0:=(0:Int)) underlying103 O6 zeroValue3 (fun m w=>⟨_,Zw,rfl⟩) rfl (yD.ext hd.1) rfl fun v r=>⟨g,Ext.refl g w,Zj.1 r⟩) (fun vO hv=>?_)))));obtain ⟨_,_,_,rfl⟩:=hv;refine Tm (c:=jJ) rfl rfl .plain (fun _ _ h=>⟨h.ch,fun b hb _=>h.below.block b hb⟩) jL mH (Tm (c:=kJ) rfl rfl .plain (fun _ _ h=>⟨h.ch,fun b hb _=>h.below.block b hb⟩) lL lE (Z0 (Z8 vE 4) rfl rfl (Zc Sa lE (OB.ptr yB)) (Tm (c:=Iz ((n9).Faults)) rfl rfl .plain (fun _ _ h=>⟨h.ch,fun b hb _=>h.below.block b hb⟩) mL rfl (W7 (φ:=fun v g w=>v=Iz (iE)) rfl rfl .plain (fun g w hd=>Zp (g:=g) (vs:=[jJ,kJ,Iz ((n9).Faults)]) en28 (.cons rfl (.cons rfl (.cons rfl .nil))) (wk28 (tM.ext hd.1) (uM.ext hd.1) nL) fun g' w' v hs hr=>⟨g',hs,hr⟩) (fun xO hv=>?_)))));obtain ⟨_,_,_,rfl⟩:=hv;refine Z0 (Iz ((w64 (((Wb l9 ((n9).Weaver)).getD (0:Int)) + iE)))) rfl rfl (Gk rfl rfl rfl) (Ka fun xM yO hs=>?_);have hfr:=hfr.ext hs;have bD:=bD.ext hs;have cD:=cD.ext hs;have yD:=yD.ext hs;have zB:=zB.ext hs;clear hs;refine Z4 rfl (Bh (g:=xM) underlying103 O6 rfl yD rfl rfl (Zj.2 rfl) fun bN zO hs m203=>?_);have hfr:=hfr.stp hs;have bD:=bD.stp hs;have cD:=cD.stp hs;have zB:=zB.stp hs;exact Zb (Tj (Zd (dL ((H0 l9 ((n9).Weaver) ((w64 (((Wb l9 ((n9).Weaver)).getD (0:Int)) + iE))))) _ _ ⟨bN,hfr,qI,bD,sI,cD,eG,m203,oH,zB,pH,qH⟩ h)))
     ·rintro uE eO aP ⟨cN, hfr, lJ, mJ, nJ, oJ, pJ, qJ, sH, tH, uH, xH⟩ h
      refine Za (Z9 (Iz ((w64 (o0 + (1:Int))))) xH rfl rfl rfl (Zn (Iz ((w64 (o0 + (1:Int))))) rfl rfl ?_));exact Z3 (bL (uE,(w64 (o0 + (1:Int)))) _ _ ⟨cN,hfr,lJ,mJ,nJ,oJ,pJ,qJ,sH,tH,uH,rfl⟩ h)
    ·refine G7 tF rfl (Tn (Gu (Gu (G8 ?_))))
     exact Zd (aL (l9) _ _ ⟨xG,hfr,bG,i6,cG,l8⟩ h)
   ·rintro nB gO bP ⟨dN, hfr, rJ, lD, gG, vB⟩ h
    refine Z5 (Zo gG rfl (Z4 rfl (Xn (g:=dN) (vs:=[oB]) en30 (.cons rfl .nil) (N2 Tryz.keys_ok vB) fun eN cP gN hs m206=>?_)));have hfr:=hfr.ext hs;have lD:=lD.ext hs;have vB:=vB.ext hs;obtain ⟨lB,oL,h⟩:=Z1 h;refine Z4 rfl (Xn (g:=eN) (vs:=[gN]) en29 (.cons rfl .nil) (Al underlying3 Tryz.sorted_ok vB m206 oL) fun iN dP aB hs cH=>?_);have hfr:=hfr.ext hs;have lD:=lD.ext hs;have vB:=vB.ext hs;refine Zg aB rfl rfl (Z3 ?_);obtain ⟨oD,hx,h⟩:=Z1 h;refine Gl (fun e w=>∃ (g:Gh) (v5:Value),Fr gI wI g w∧e 4=aB∧RV g.m w (lB:List Int) aB∧e 5=v5∧RV g.m w (oD:List Int) v5∧OS 1005 g w 3 (oD:List Int) v5) (fun Q' hQ=>?_) (fun jO eP hR=>?_)
    ·replace h := hx
     clear hx;refine Z5 (Zn aB rfl rfl (Zx (Iz ((lB).length:Int)) (Gz underlying25 rfl cH) rfl (Zn (Iz (0)) rfl rfl (Z3 (Zr (Q0 h (fun (s:(List Int) × Int) e w=>∃ (g:Gh) (v5:Value),Fr gI wI g w∧e 4=aB∧RV g.m w (lB:List Int) aB∧e 5=v5∧RV g.m w (s.1:List Int) v5∧OS 1005 g w 3 (s.1:List Int) v5∧e 9=oB∧MP (Value.int .i64) 8024 g w (nB:List (Int × Int)) oB∧e 56=aB∧RV g.m w (lB:List Int) aB∧e 57=Iz (((lB).length:Int))∧e 58=Iz (s.2)) ⟨iN,(.slice none 0 0),hfr,rfl,cH,rJ,lD,OS.nil,gG,vB,rfl,cH,rfl,rfl⟩ (fun X227 dI xL=>?_)))))));rintro ⟨rE,n8⟩ kO gP ⟨xF,sJ,hfr,iG,cC,jG,zD,aE,kG,uC,dF,mB,eF,mE⟩ h;refine Z5 (Z9 (.bool ((decide (n8 < ((lB).length:Int))))) mE eF rfl rfl (Z3 (Zf ?_)));rcases Zt h with ⟨yF,h⟩ | ⟨yF,h⟩
     ·refine G6 yF rfl (Zu (Zd ?_))
      obtain ⟨vC,hx,h⟩:=Z1 h;refine Gl (fun e w=>∃ (g:Gh) (v5:Value),Fr gI wI g w∧e 4=aB∧RV g.m w (lB:List Int) aB∧e 5=v5∧RV g.m w (vC:List Int) v5∧OS 1005 g w 3 (vC:List Int) v5∧e 9=oB∧MP (Value.int .i64) 8024 g w (nB:List (Int × Int)) oB∧e 56=aB∧RV g.m w (lB:List Int) aB∧e 57=Iz (((lB).length:Int))∧e 58=Iz (n8)) (fun Q' hQ=>?_) (fun lO iP hR=>?_)
      ·replace h := hx
       clear hx;refine Zr (Z5 ?_);obtain ⟨bE,lH,h⟩:=Z1 h;refine Zx (Tb aB n8 1) (Zh (α:=Int) underlying25 sizeOf3 dF mB mE lH) rfl ?_;have jN:=Gx mB lH;refine Z4 rfl (Z6 (g:=xF) isAgg3 sizeOf3 rfl jN fun jP kN=>?_);obtain rfl:=Zj.1 kN;refine Zg (Iz (bE)) rfl rfl (Z3 (Za (Zo jG rfl (Zo kG rfl (Zn (Iz (bE)) rfl rfl (Z4 rfl (Lc (g:=xF) (z0:=(0:Int)) underlying103 O6 zeroValue3 (fun m w=>⟨_,Zw,rfl⟩) rfl uC rfl fun kP lN=>?_)))))));obtain rfl:=Zj.1 lN;refine Z4 rfl (Z7 (g:=xF) 3066 (xs:=([((Wb nB bE).getD (0:Int))]:List Int)) (vs:=[Iz (((Wb nB bE).getD (0:Int)))]) underlying25 sizeOf3 zeroValue3 rfl rfl (.cons rfl .nil) (RVs.cons (Zj.2 rfl) RVs.nil) rfl rfl fun mN lP mP hs o241 nN hxt hfl=>?_);have hfr:=hfr.stp hs;have cC:=cC.stp hs;have zD:=zD.stp hs;have aE:=aE.stp hs rfl;have uC:=uC.stp hs rfl;have mB:=mB.stp hs;obtain ⟨iI,yL,h⟩:=Z1 h;refine Z4 rfl (T5 (g:=mN) (i:=1005) underlying25 Kr rfl rfl aE zD rfl nN yL fun oN nP vJ hs o242 pN _=>?_);have hfr:=hfr.stp hs;have cC:=cC.stp hs;have uC:=uC.stp hs rfl;have mB:=mB.stp hs;refine Zg vJ rfl rfl (Zb (Tj ?_));obtain rfl:=sinj h;exact hQ _ _ ⟨oN,(vJ),hfr,iG,cC,rfl,pN,o242,kG,uC,dF,mB,eF,mE⟩
      ·clear hx
       obtain ⟨qN,xJ,hfr,zJ,aK,bK,cK,dK,lK,mK,yH,zH,aI,bI⟩:=hR;refine Za (Z9 (Iz ((w64 (n8 + (1:Int))))) bI rfl rfl rfl (Zn (Iz ((w64 (n8 + (1:Int))))) rfl rfl ?_));exact Z3 (xL (vC,(w64 (n8 + (1:Int)))) _ _ ⟨qN,(xJ),hfr,zJ,aK,bK,cK,dK,lK,mK,yH,zH,aI,rfl⟩ h)
     ·refine G7 yF rfl (Tn (Gu (Gu (G8 ?_))))
      obtain rfl:=sinj h;exact hQ _ _ ⟨xF,(sJ),hfr,iG,cC,jG,zD,aE⟩
    ·clear hx
     obtain ⟨oP,lG,hfr,nK,oK,pK,qK,aO⟩:=hR;refine Z5 (Zo nK rfl (Zo pK rfl (Zg aB rfl rfl (Zg lG rfl rfl (Zg (Iz (0)) rfl rfl (Zg (Iz (0)) rfl rfl (Z3 (Ga ?_))))))));obtain rfl:=sinj h;exact Am rfl rfl (rq aB) (rq lG) (rq (Iz (0))) (rq (Iz (0))) ⟨_,hfr,_,_,_,_,rfl,oK,qK,rfl,rfl⟩
def f14 (x0:PayList) (x1:Gf):Option (Int × Int × Int × Int):=
 (f27 x0 x1).bind fun y6=>
 jn (σ:=Unit) (fun _=>
  (f31 (y6.1) x1).bind fun l5=>
  (f32 (y6.1) l5 ((x1).Faults)).bind fun l8=>
  (f28 (y6.1) x1 ((x1).Faults)).bind fun n8=>
  some (l5,l8,n8,(0:Int))
  ) fun mB=>
 bif (y6.2 != (0 : Int)) then
  some ((0:Int),(0:Int),(0:Int),y6.2)
 else
  mB ()
theorem en14:Enters prog 14:=enters_of func14 (by kernel_rfl) rfl
theorem wk14 {gI:Gh} {wI:World} {x0:PayList} {x1:Gf} {up0:Value} (rp0:RV gI.m wI x0 up0) {up1:Value} (rp1:RV gI.m wI x1 up1) {r:Int × Int × Int × Int} (h:f14 x0 x1=some r):Fn prog 14 #[up0,up1] gI wI (fun m w v=>∃ y0 y1 y2 y3,v=.tuple #[y0,y1,y2,y3]∧y0=Iz (r.1)∧y1=Iz (r.2.1)∧y2=Iz (r.2.2.1)∧y3=Iz (r.2.2.2)):=by
 unfold f14 at h;refine fnE func14 rfl rfl fun g0 hm hfr=>?_;have rp0:=RVc hm rp0;have rp1:=RVc hm rp1;show E _ 32 none _ _ _ _ _;refine Z5 (Z4 rfl (Tv (g:=g0) rfl rp0 fun g1 w1 p1 hs q1=>?_));have hfr:=hfr.ext hs;have rp1:=rp1.ext hs;refine Z4 rfl (Tv (g:=g1) rfl rp1 fun g2 w2 p2 hs q2=>?_);have hfr:=hfr.ext hs;have q1:=q1.ext hs;iterate 4 refine Zg (Iz (0)) rfl rfl ?_
 refine Z3 (Z5 (Z4 rfl (Z6 (g:=g2) isAgg37 sizeOf37 rfl q1 fun v3 r3=>(Z4 rfl (Z6 (g:=g2) isAgg62 sizeOf62 rfl q2 fun v4 r4=>?_)))));obtain ⟨y6,oD,h⟩:=Z1 h;refine Z4 rfl (Zp (g:=g2) (vs:=[v3,v4]) en27 (.cons rfl (.cons rfl .nil)) (wk27 r3 r4 oD) fun g5 w5_ v5 hs hr=>?_);have hfr:=hfr.ext hs;have q2:=q2.ext hs;obtain ⟨l9,yE,rfl,n9,rfl⟩:=hr;refine Zn (.tuple #[l9,Iz (y6.2)]) rfl rfl (Zx l9 (Zi rfl rfl) rfl (Zx (Iz (y6.2)) (Zi rfl rfl) rfl (Z4 rfl (G2 (g:=g5) 2008 (⟨⟨[],[],0,0⟩⟩:Gy) zeroValue105 (fun m w=>⟨_,(Gb G9 (Gb G9 (Gb Zw Zw))),rfl⟩) fun g7 w7 p7 hs b7 cb=>?_))));have hfr:=hfr.stp hs;have q2:=q2.stp hs;have n9:=n9.stp hs;have zE:OSF 2008 60800 0 g7 w7 74 105 ([]:List Gq) p7:=cb.osf (by rfl);have cF:OSF 2008 60801 1 g7 w7 3 105 ([]:List Int) p7:=cb.osf (by rfl);clear cb;refine Z4 rfl (Gg (g:=g7) (v:=l9) sizeOf105 rfl b7 rfl n9 fun g8 w8 hs b8 cb=>?_);clear cb;have hfr:=hfr.stp hs;have q2:=q2.stp hs;refine Zg (Iz (y6.2)) rfl rfl (Z3 (Zq h (fun (s:Unit) e w=>∃ (g:Gh) ,Fr gI wI g w∧e 3=p2∧PT g.m w (x1:Gf) p2∧e 8=p7∧OB 2008 g w 105 (y6.1:Gy) p7) (fun X10 mB yB h=>?_) ?_))
 ·refine Z5 (Zn (Iz (y6.2)) rfl rfl (Z9 (.bool ((y6.2 != (0 : Int)))) rfl rfl rfl rfl (Z3 ?_)))
  rcases Zt h with ⟨aB,h⟩ | ⟨aB,h⟩
  ·refine G6 aB rfl (Z5 (Zn (Iz (y6.2)) rfl rfl ?_))
   iterate 3 refine Zg (Iz (0)) rfl rfl ?_
   refine Zg (Iz (y6.2)) rfl rfl (Z3 (Ga (Gp ?_)));obtain rfl:=sinj h;exact Am rfl rfl (rq (Iz (0))) (rq (Iz (0))) (rq (Iz (0))) (rq (Iz (y6.2))) ⟨_,hfr,_,_,_,_,rfl,rfl,rfl,rfl,rfl⟩
  ·refine G7 aB rfl ?_
   exact Zu (Zd (yB () _ _ ⟨g8,hfr,rfl,q2,rfl,b8⟩ h))
 ·rintro _ dF rF ⟨lB, hfr, i6, o0, v8, t5⟩ h
  refine Z5 (Z4 rfl (Tp (g:=lB) isAgg105 sizeOf105 v8 t5 fun yD zD=>(Z4 rfl (Z6 (g:=lB) isAgg62 sizeOf62 i6 o0 fun aE bE=>?_))));obtain ⟨l5,zB,h⟩:=Z1 h;refine Z4 rfl (Zp (g:=lB) (vs:=[yD,aE]) en31 (.cons rfl (.cons rfl .nil)) (wk31 zD bE zB) fun iE eF sF hs hr=>?_);have hfr:=hfr.ext hs;have o0:=o0.ext hs;have t5:=t5.ext hs;subst hr;refine Zg (Iz (l5)) rfl rfl (Z3 (Zf (Ht (x:=.tmp 8) isAgg105 sizeOf105 t5 fun nB lE cC=>?_)));have mE:=Zm (Hh).1 o0;refine Zs (x:=.tmp 24) isAgg3 sizeOf3 mE fun tF oE uC=>?_;obtain rfl:=Zj.1 oE;obtain ⟨l8,vC,h⟩:=Z1 h;refine Ht (x:=.tmp 8) isAgg105 sizeOf105 t5 fun oB rE bD=>(Zs (x:=.tmp 3) isAgg62 sizeOf62 o0 fun vB uE cD=>?_);have vE:=Zm (Hh).1 o0;refine Zs (x:=.tmp 29) isAgg3 sizeOf3 vE fun uF xE lD=>?_;obtain rfl:=Zj.1 xE;obtain ⟨n8,nD,h⟩:=Z1 h;refine To (g:=iE) (n:=15) [(5,(fun v g w=>v=Iz (l8))),(10,(fun v g w=>v=Iz (n8)))] [0,1,2,3,4,5,6,7,8,9,10,11,12,13,14] rfl mixed (by kernel_rfl) (⟨fun _=>Wk _,fun _=>Wk _,trivial⟩) (Z0 (Iz (l5)) rfl rfl (Zk rfl) (Tm (c:=nB) rfl rfl .plain (fun _ _ h=>⟨h.ch,fun b hb _=>h.below.block b hb⟩) cC v8 (Z0 (Iz (l5)) rfl rfl (Zk rfl) (Z0 (Z8 p2 4) rfl rfl (Zc Sa i6 (PT.ptr o0)) (Tm (c:=Iz ((x1).Faults)) rfl rfl .plain (fun _ _ h=>h.ch) uC rfl (W7 (φ:=fun v g w=>v=Iz (l8)) rfl rfl .plain (fun g w hd=>Zp (g:=g) (vs:=[nB,Iz (l5),Iz ((x1).Faults)]) en32 (.cons rfl (.cons rfl (.cons rfl .nil))) (wk32 (lE.ext hd.1) vC) fun g' w' v hs hr=>⟨g',hs,hr⟩) (fun vF hv=>?_)))))));obtain ⟨_,_,_,rfl⟩:=hv;refine Tm (c:=oB) rfl rfl .plain (fun _ _ h=>⟨h.ch,fun b hb _=>h.below.block b hb⟩) bD v8 (Tm (c:=vB) rfl rfl .plain (fun _ _ h=>h.ch) cD i6 (Z0 (Z8 p2 4) rfl rfl (Zc Sa i6 (PT.ptr o0)) (Tm (c:=Iz ((x1).Faults)) rfl rfl .plain (fun _ _ h=>h.ch) lD rfl (W7 (φ:=fun v g w=>v=Iz (n8)) rfl rfl .plain (fun g w hd=>Zp (g:=g) (vs:=[oB,vB,Iz ((x1).Faults)]) en28 (.cons rfl (.cons rfl (.cons rfl .nil))) (wk28 (rE.ext hd.1) (uE.ext hd.1) nD) fun g' w' v hs hr=>⟨g',hs,hr⟩) (fun xF hv=>?_)))));obtain ⟨_,_,_,rfl⟩:=hv;refine Z0 (Iz (l5)) rfl rfl (Te rfl) (Z0 (Iz (l8)) rfl rfl (Te rfl) (Z0 (Iz (n8)) rfl rfl (Te rfl) (Z0 (Iz (0)) rfl rfl (Te rfl) (Ka fun yF aG hs=>?_))));have hfr:=hfr.ext hs;clear hs;refine Z3 (Ga ?_);obtain rfl:=sinj h;exact Am rfl rfl (rq (Iz (l5))) (rq (Iz (l8))) (rq (Iz (n8))) (rq (Iz (0))) ⟨_,hfr,_,_,_,_,rfl,rfl,rfl,rfl,rfl⟩
end Go.Proofs.YtjjbobaoifflpaaGreatDoor
