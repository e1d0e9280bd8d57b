import Derived.Test.YtmpjooneiaiffaaCode1
set_option maxRecDepth 8000
set_option maxHeartbeats 4000000
namespace Go.Proofs.Ytmpjooneiaiffaa
open Go.RowKit
def f105 (x0:List Gf) (x1:Gf→Option Bool):Option (Int):=
 jn (σ:=Unit) (fun _=>
  some ((-1:Int))
  ) fun k18=>
 lp (σ:=Int) (fun k19 o0=>
  bif (decide (o0 < ((x0).length : Int))) then
   jn (σ:=Unit) (fun _=>
    k19 ((w64 (o0 + (1:Int))))
    ) fun k28=>
   (idx x0 o0).bind fun vB=>
   (x1 vB).bind fun yB=>
   bif yB then
    some (o0)
   else
    k28 ()
  else
   k18 ()
  ) big ((0:Int))
theorem en105:Enters Try.prog 105:=enters_of Try.func105 (by kernel_rfl) rfl
theorem wk105 {gI:Gh} {wI:World} {x0:List Gf} {x1:Gf→Option Bool} {up0:Value} (rp0:RV gI.m wI x0 up0) {up1:Value} (rp1:Dx Try.prog x1 up1 gI wI) {r:Int} (h:f105 x0 x1=some r):Fn Try.prog 105 #[up0,up1] gI wI (fun _ _ v=>v=.int .i64 (r)):=by
 unfold f105 at h;refine Tk Try.func105 rfl (Nat.le_of_ble_eq_true rfl) fun g0 hm hfr=>?_;have rp0:RV g0.m wI x0 up0:=hm ▸ rp0;obtain ⟨ff1,fa1,fc1,rfl,fen1,fcl1⟩:=rp1;show E _ 19 none _ _ _ _ _;refine Zf (Za (Zg (.int .i64 (0)) rfl rfl ?_));refine Zb (Zd (Zq h (fun (s:Unit) e w=>∃ (g:Gh) ,Fr gI wI g w) (fun X18 k18 zB h=>?_) ?_))
 ·refine Zf (Za (Zn up0 rfl rfl ?_))
  refine Zy (.int .i64 ((x0).length:Int)) (Qm Try.underlying30 rfl rp0) rfl ?_;refine Zn (.int .i64 (0)) rfl rfl ?_;refine Zb (Zd (Zr ?_));refine Jv h (fun (s:Int) e w=>∃ (g:Gh) ,Fr gI wI g w∧e 0=up0∧RV g.m w (x0:List Gf) up0∧e 1=(.func (.func ff1) fa1 fc1)∧e 7=.int .i64 (((x0).length:Int))∧e 8=.int .i64 (s)) ⟨g0,hfr,rfl,rp0,rfl,rfl,rfl⟩ (fun X19 k19 cC=>?_);rintro o0 yD bE ⟨l9,hfr,l8,l5,n8,v8,t5⟩ h;refine Zf (Za (Gy (.bool ((decide (o0 < ((x0).length:Int))))) t5 v8 rfl rfl ?_));refine Zb (Zd (Zf ?_));rcases Zt h with ⟨i6,h⟩ | ⟨i6,h⟩
  ·refine Wi i6 rfl ?_
   refine Zu (Zd (Zq h (fun (s:Unit) e w=>∃ (g:Gh) ,Fr gI wI g w∧e 0=up0∧RV g.m w (x0:List Gf) up0∧e 1=(.func (.func ff1) fa1 fc1)∧e 7=.int .i64 (((x0).length:Int))∧e 8=.int .i64 (o0)) (fun X28 k28 uC h=>?_) ?_))
   ·refine Zr ?_
    refine Zf (Za (Zo t5 rfl ?_));refine Zg (.int .i64 (o0)) rfl rfl ?_;refine Zb (Zd (Zf (Za (Zo n8 rfl ?_))));refine Zo l8 rfl ?_;refine Zn (.int .i64 (o0)) rfl rfl ?_;obtain ⟨vB,n9,h⟩:=Gc h;refine Zy (Qu up0 o0 2) (Zh (α:=Gf) Try.underlying30 Try.sizeOf83 rfl l5 rfl n9) rfl ?_;have bD:=Tp l5 n9;refine Ze .plain rfl (Gx (g:=l9) Try.isAgg83 Try.sizeOf83 rfl bD fun cD lD=>?_);obtain ⟨yB,vC,h⟩:=Gc h;refine Ze .plain rfl (Bb (g:=l9) (vs:=[cD]) rfl fen1 (.cons rfl .nil) (fcl1 _ _ hfr.ch _ _ _  lD vC) fun nD iE lE hs hr=>?_);have hfr:=hfr.ext hs;have l5:=l5.ext hs;obtain rfl:=Hz.1 hr;refine Zb (Zd ?_);rcases Zt h with ⟨g8,h⟩ | ⟨g8,h⟩
    ·refine Wi g8 rfl ?_
     refine Zf (Za (Zn (.int .i64 (o0)) rfl rfl ?_));refine Zg (.int .i64 (o0)) rfl rfl ?_;refine Zb (Zd (Gz (Wf ?_)));refine Tq ?_;refine Tq ?_;refine Wf ?_;refine Tq ?_;obtain rfl:=sinj h;exact Kb rfl rfl (show _=.int .i64 (o0) from rfl) ⟨_,hfr,rfl⟩
    ·refine Wg g8 rfl ?_
     exact Zu (We (Zd (uC () _ _ ⟨nD,hfr,l8,l5,n8,v8,t5⟩ h)))
   ·rintro _ zD mE ⟨oD, hfr, aB, lB, mB, nB, oB⟩ h
    refine Za (Gy (.int .i64 ((w64 (o0 + (1:Int))))) oB rfl rfl rfl ?_);refine Zn (.int .i64 ((w64 (o0 + (1:Int))))) rfl rfl ?_;exact Zb (Zd (cC ((w64 (o0 + (1:Int)))) _ _ ⟨oD,hfr,aB,lB,mB,nB,rfl⟩ h))
  ·refine Wg i6 rfl ?_
   refine Wb ?_;refine Tx ?_;refine Tx ?_;refine Qh ?_;exact Zd (zB () _ _ ⟨l9,hfr⟩ h)
 ·rintro _ aE oE ⟨rE, hfr⟩ h
  refine Zf (Za (Zg (.int .i64 (-1)) rfl rfl ?_));refine Zb (Zd (Gz ?_));obtain rfl:=sinj h;exact Kb rfl rfl (show _=.int .i64 (-1) from rfl) ⟨_,hfr,rfl⟩
def f106 (x0:Int) (x1:Int):Option (Int):=
 some ((w64 ((Wk x0 x1) - (Wm x0 x1))))
theorem en106:Enters Try.prog 106:=enters_of Try.func106 (by kernel_rfl) rfl
theorem wk106 {gI:Gh} {wI:World} {x0:Int} {x1:Int}  {r:Int} (h:f106 x0 x1=some r):Fn Try.prog 106 #[.int .i64 (x0),.int .i64 (x1)] gI wI (fun _ _ v=>v=.int .i64 (r)):=by
 unfold f106 at h;refine Tk Try.func106 rfl (Nat.le_of_ble_eq_true rfl) fun g0 hm hfr=>?_;show E _ 12 none _ _ _ _ _;refine Zf (Za (Zg (.int .i64 (0)) rfl rfl ?_));refine Zb (Zd (Zf (Za (Zn (.int .i64 (x0)) rfl rfl ?_))));refine Zn (.int .i64 (x1)) rfl rfl ?_;refine Zy (.int .i64 (Wk x0 x1)) (Nz rfl rfl) rfl ?_;refine Zn (.int .i64 (x0)) rfl rfl ?_;refine Zn (.int .i64 (x1)) rfl rfl ?_;refine Zy (.int .i64 (Wm x0 x1)) (Nv rfl rfl) rfl ?_;refine Gy (.int .i64 ((w64 ((Wk x0 x1) - (Wm x0 x1))))) rfl rfl rfl rfl ?_;refine Zg (.int .i64 ((w64 ((Wk x0 x1) - (Wm x0 x1))))) rfl rfl ?_;refine Zb (Zd (Gz ?_));obtain rfl:=sinj h;exact Kb rfl rfl (show _=.int .i64 ((w64 ((Wk x0 x1) - (Wm x0 x1)))) from rfl) ⟨_,hfr,rfl⟩
def f15 (x0:BoxLoom):Option (BoxLoom):=
 (f50 x0).bind fun y5=>
 some (y5)
theorem en15:Enters Try.prog 15:=enters_of Try.func15 (by kernel_rfl) rfl
theorem wk15 {gI:Gh} {wI:World} {x0:BoxLoom} {up0:Value} (rp0:RV gI.m wI x0 up0) {r:BoxLoom} (h:f15 x0=some r):Fn Try.prog 15 #[up0] gI wI (fun m w v=>RV m w (r) v):=by
 unfold f15 at h;refine Tk Try.func15 rfl (Nat.le_of_ble_eq_true rfl) fun g0 hm hfr=>?_;have rp0:RV g0.m wI x0 up0:=hm ▸ rp0;show E _ 5 none _ _ _ _ _;refine Zf (Za (Ze .plain rfl (Wj (g:=g0) rfl rp0 fun g1 w1 p1 hs q1=>?_)));have hfr:=hfr.ext hs;refine Ze .plain rfl (Gq (g:=g1) 2002 (⟨[],[],[]⟩:BoxLoom) Try.zeroValue25 (fun m w=>⟨_,(Gi Tb (Gi Tb Tb)),rfl⟩) fun g2 w2 p2 hs b2 cb=>?_);have hfr:=hfr.stp hs;have q1:=q1.stp hs;have o0:OSF 2002 60200 0 g2 w2 3 25 ([]:List Int) p2:=cb.osf (by rfl);have l5:OSF 2002 60201 1 g2 w2 3 25 ([]:List Int) p2:=cb.osf (by rfl);have t5:OSF 2002 60202 2 g2 w2 87 25 ([]:List Zv) p2:=cb.osf (by rfl);clear cb;refine Zb (Zd (Zf (Za (Ze .plain rfl (Gx (g:=g2) Try.isAgg25 Try.sizeOf25 rfl q1 fun v3 r3=>?_)))));obtain ⟨y5,hy5,h⟩:=Gc h;refine Ze .plain rfl (Zp (g:=g2) (vs:=[v3]) en50 (.cons rfl .nil) (wk50 r3 hy5) fun g4 w4_ v4 hs hr=>?_);have hfr:=hfr.ext hs;have b2:=b2.ext hs;have r4:=hr;refine Ze .plain rfl (Gl (g:=g4) (v:=v4) Try.sizeOf25 rfl b2 rfl r4 fun g6 w6 hs b6 cb=>?_);clear cb;have hfr:=hfr.stp hs;refine Zb (Zd (Gz ?_));obtain rfl:=sinj h;obtain ⟨ad7,cv7,hp7,hl7,cr7⟩:=Qn Try.isAgg25 Try.sizeOf25 b6;exact Xh rfl rfl ((show _=p2 from rfl).trans hp7) hl7 ⟨_,hfr,cr7⟩
def f20 (x0:BoxLoom):Option (Int):=
 jn (σ:=Unit) (fun _=>
  jn (σ:=Unit) (fun _=>
   jn (σ:=Unit) (fun _=>
    jn (σ:=Unit) (fun _=>
     jn (σ:=Unit) (fun _=>
      jn (σ:=Unit) (fun _=>
       some ((0:Int))
       ) fun pK=>
      lp (σ:=Int) (fun qK t5=>
       jn (σ:=Unit) (fun _=>
        jn (σ:=Unit) (fun _=>
         qK ((w64 (t5 + (1:Int))))
         ) fun sK=>
        lp (σ:=Int) (fun tK g8=>
         jn (σ:=Unit) (fun _=>
          jn (σ:=Unit) (fun _=>
           tK ((w64 (g8 + (1:Int))))
           ) fun uK=>
          Option.bind (α:=Bool) (
           (idx ((x0).Shuttles) t5).bind fun bD=>
           (idx ((x0).Shuttles) g8).bind fun cD=>
           bif ((bD).Side == (cD).Side) then
            (idx ((x0).Shuttles) t5).bind fun dF=>
            (idx ((x0).Shuttles) g8).bind fun eF=>
            some (((dF).Box == (eF).Box))
           else
            some (false)
           ) fun lD=>
          bif lD then
           some ((6:Int))
          else
           uK ()
          ) fun vK=>
         bif (decide (g8 < t5)) then
          vK ()
         else
          sK ()
         ) big ((0:Int))
        ) fun xK=>
       bif (decide (t5 < (((x0).Shuttles).length : Int))) then
        xK ()
       else
        pK ()
       ) big ((0:Int))
      ) fun yK=>
     bif ((((x0).Shuttles).length : Int) == (0 : Int)) then
      some ((2:Int))
     else
      yK ()
     ) fun zK=>
    lp (σ:=Int) (fun aL oB=>
     jn (σ:=Unit) (fun _=>
      jn (σ:=Unit) (fun _=>
       aL ((w64 (oB + (1:Int))))
       ) fun bL=>
      (idx ((x0).Shuttles) oB).bind fun o0=>
      Option.bind (α:=Bool) (
       (f59 ((o0).Colour) ((0:Int)) ((9:Int))).bind fun n8=>
       bif (!n8) then
        some (true)
       else
        (f59 ((o0).Side) ((0:Int)) ((1:Int))).bind fun v8=>
        bif (!v8) then
         some (true)
        else
         (idx ((x0).Boxes) (o0).Side).bind fun vC=>
         (f59 ((o0).Box) ((0:Int)) ((w64 (vC - (1:Int))))).bind fun nB=>
         bif (!nB) then
          some (true)
         else
          (f59 (((o0).Yarn).Low) ((0:Int)) (((o0).Yarn).High)).bind fun zB=>
          bif (!zB) then
           some (true)
          else
           some ((decide (((o0).Yarn).High > (1000:Int))))
       ) fun zD=>
      bif zD then
       some ((2:Int))
      else
       bL ()
      ) fun dL=>
     bif (decide (oB < (((x0).Shuttles).length : Int))) then
      dL ()
     else
      zK ()
     ) big ((0:Int))
    ) fun mN=>
   bif (decide ((((x0).Shuttles).length : Int) > (6 : Int))) then
    some ((5:Int))
   else
    mN ()
   ) fun nN=>
  lp (σ:=Int) (fun oN l9=>
   jn (σ:=Unit) (fun _=>
    jn (σ:=Unit) (fun _=>
     oN ((w64 (l9 + (1:Int))))
     ) fun pN=>
    Option.bind (α:=Bool) (
     (idx ((x0).Boxes) l9).bind fun vF=>
     (f59 vF ((1:Int)) ((4:Int))).bind fun oD=>
     bif (!oD) then
      some (true)
     else
      (idx ((x0).At) l9).bind fun zH=>
      (idx ((x0).Boxes) l9).bind fun jG=>
      (f59 zH ((0:Int)) ((w64 (jG - (1:Int))))).bind fun xF=>
      some ((!xF))
     ) fun aE=>
    bif aE then
     some ((3:Int))
    else
     pN ()
    ) fun qN=>
   bif (decide (l9 < (2 : Int))) then
    qN ()
   else
    nN ()
   ) big ((0:Int))
  ) fun k14=>
 Option.bind (α:=Bool) (
  bif ((((x0).Boxes).length : Int) != (2 : Int)) then
   some (true)
  else
   some (((((x0).At).length:Int) != (2:Int)))
  ) fun rE=>
 bif rE then
  some ((4:Int))
 else
  k14 ()
def f38 (x0:Yb):Option (BoxLoom):=
 (idx ((x0).Boxes).toList (0:Int)).bind fun y4=>
 (Uj ((y4).toNat:Int) (4:Int)).bind fun y7=>
 (idx ((x0).Boxes).toList (1:Int)).bind fun y9=>
 (Uj ((y9).toNat:Int) (4:Int)).bind fun rF=>
 (idx ((x0).Boxes).toList (2:Int)).bind fun aK=>
 (idx (([(w64 ((1:Int) + y7)),(w64 ((1:Int) + rF))]:List Int)) (0:Int)).bind fun y23=>
 (Uj ((aK).toNat:Int) y23).bind fun iE=>
 (idx ((x0).Boxes).toList (3:Int)).bind fun bK=>
 (idx (([(w64 ((1:Int) + y7)),(w64 ((1:Int) + rF))]:List Int)) (1:Int)).bind fun jM=>
 (Uj ((bK).toNat:Int) jM).bind fun lE=>
 Option.bind (α:=BoxLoom) (
  lp (σ:=BoxLoom × (Vector Bool 8) × Int) (fun kM (l5,aB,o0)=>
   jn (σ:=Unit) (fun _=>
    Option.bind (α:=BoxLoom × (Vector Bool 8)) (
     Option.bind (α:=(Vector UInt8 4)) (
      bif (decide (o0 < (((x0).Shuttles).length : Int))) then
       (idx ((x0).Shuttles) o0).bind fun pM=>
       some (pM)
      else
       some ((⟨List.toArray [0,0,0,0],rfl⟩:Vector UInt8 4))
      ) fun i6=>
     (idx ((l5).Boxes) (0:Int)).bind fun pH=>
     (idx ((l5).Boxes) (1:Int)).bind fun qH=>
     (Uj (((i6)[0]).toNat:Int) (w64 (pH + qH))).bind fun g8=>
     jn (σ:=Unit) (fun _=>
      (idx (aB).toList g8).bind fun dQ=>
      (Uj (((i6)[1]).toNat:Int) (5:Int)).bind fun yD=>
      (Uj (((i6)[2]).toNat:Int) (12:Int)).bind fun sH=>
      (Uj (((i6)[2]).toNat:Int) (12:Int)).bind fun jG=>
      (Uj (((i6)[3]).toNat:Int) (5:Int)).bind fun kG=>
      (f42 sH ((w64 (jG + kG)))).bind fun yB=>
      Option.bind (α:=Zv) (
       (idx ((l5).Boxes) (0:Int)).bind fun tH=>
       bif (decide (g8 ≥ tH)) then
        (idx ((l5).Boxes) (0:Int)).bind fun iG=>
        some ((⟨yD,(1:Int),(w64 (g8 - iG)),yB⟩:Zv))
       else
        some ((⟨yD,0,g8,yB⟩:Zv))
       ) fun cF=>
      (apnd 40 ((l5).Shuttles) (([cF]:List Zv))).bind fun uH=>
      some ({ l5 with Shuttles:=uH },(Ku aB g8 true))
      ) fun qM=>
     (idx (aB).toList g8).bind fun rM=>
     bif rM then
      some (l5,aB)
     else
      qM ()
     ) fun (cC,dF)=>
    kM (cC,dF,(w64 (o0 + (1:Int))))
    ) fun sM=>
   Option.bind (α:=Bool) (
    bif (o0 == (0 : Int)) then
     some (true)
    else
     bif (decide (o0 < (((x0).Shuttles).length : Int))) then
      some ((decide (o0 < (6:Int))))
     else
      some (false)
    ) fun mE=>
   bif mE then
    sM ()
   else
    some (l5)
   ) big ((⟨([(w64 ((1:Int) + y7)),(w64 ((1:Int) + rF))]:List Int),([iE,lE]:List Int),[]⟩:BoxLoom),(⟨List.toArray [false,false,false,false,false,false,false,false],rfl⟩:Vector Bool 8),(0:Int))
  ) fun bE=>
 some (bE)
theorem en38:Enters Try.prog 38:=enters_of Try.func38 (by kernel_rfl) rfl
theorem wk38 {gI:Gh} {wI:World} {x0:Yb} {up0:Value} (rp0:RV gI.m wI x0 up0) {r:BoxLoom} (h:f38 x0=some r):Fn Try.prog 38 #[up0] gI wI (fun m w v=>RV m w (r) v):=by
 unfold f38 at h;refine Tk Try.func38 rfl (Nat.le_of_ble_eq_true rfl) fun g0 hm hfr=>?_;have rp0:RV g0.m wI x0 up0:=hm ▸ rp0;show E _ 129 none _ _ _ _ _;refine Zf (Za (Ze .plain rfl (Wj (g:=g0) rfl rp0 fun g1 w1 p1 hs q1=>?_)));have hfr:=hfr.ext hs;refine Ze .plain rfl (Gq (g:=g1) 2002 (⟨[],[],[]⟩:BoxLoom) Try.zeroValue25 (fun m w=>⟨_,(Gi Tb (Gi Tb Tb)),rfl⟩) fun g2 w2 p2 hs b2 cb=>?_);have hfr:=hfr.stp hs;have q1:=q1.stp hs;have mB:OSF 2002 60200 0 g2 w2 3 25 ([]:List Int) p2:=cb.osf (by rfl);have nB:OSF 2002 60201 1 g2 w2 3 25 ([]:List Int) p2:=cb.osf (by rfl);have oB:OSF 2002 60202 2 g2 w2 87 25 ([]:List Zv) p2:=cb.osf (by rfl);clear cb;refine Zb (Zd (Zf (Za (Zy (Gn p1 0) (Zc Ct rfl (PT.ptr q1)) rfl ?_))));have q3:=Zm (Vq).1 q1;obtain ⟨y4,mP,h⟩:=Gc h;refine Zy (Gn (Gn p1 0) (((0:Int):Int).toNat * 1)) (To (α:=UInt8) Try.underlying69 Try.sizeOf5 rfl (PT.ptr q3) rfl mP) rfl ?_;have q5:=Bw q3 mP;refine Ze .plain rfl (Gx (g:=g2) Try.isAgg5 Try.sizeOf5 rfl q5 fun v6 r6=>?_);obtain rfl:=Xs.1 r6;refine Zy (.int .i64 (((y4).toNat:Int))) (Yg Try.underlying5 Try.underlying3 rfl) rfl ?_;obtain ⟨y7,xR,h⟩:=Gc h;refine Zy (.int .i64 (y7)) (Td rfl rfl (congrArg (Option.map (Value.int .i64)) xR)) rfl ?_;refine Gy (.int .i64 ((w64 ((1:Int) + y7)))) rfl rfl rfl rfl ?_;refine Zy (Gn p1 0) (Zc Ct rfl (PT.ptr q1)) rfl ?_;have q8:=Zm (Vq).1 q1;obtain ⟨y9,nP,h⟩:=Gc h;refine Zy (Gn (Gn p1 0) (((1:Int):Int).toNat * 1)) (To (α:=UInt8) Try.underlying69 Try.sizeOf5 rfl (PT.ptr q8) rfl nP) rfl ?_;have yR:=Bw q8 nP;refine Ze .plain rfl (Gx (g:=g2) Try.isAgg5 Try.sizeOf5 rfl yR fun lV zR=>?_);obtain rfl:=Xs.1 zR;refine Zy (.int .i64 (((y9).toNat:Int))) (Yg Try.underlying5 Try.underlying3 rfl) rfl ?_;obtain ⟨rF,eQ,h⟩:=Gc h;refine Zy (.int .i64 (rF)) (Td rfl rfl (congrArg (Option.map (Value.int .i64)) eQ)) rfl ?_;refine Gy (.int .i64 ((w64 ((1:Int) + rF)))) rfl rfl rfl rfl ?_;refine Ze .plain rfl (Gm (g:=g2) 3021 (xs:=([(w64 ((1:Int) + y7)),(w64 ((1:Int) + rF))]:List Int)) (vs:=[.int .i64 ((w64 ((1:Int) + y7))),.int .i64 ((w64 ((1:Int) + rF)))]) Try.underlying22 Try.sizeOf3 Try.zeroValue3 rfl rfl (.cons rfl (.cons rfl .nil)) (RVs.cons (Zj.2 rfl) (RVs.cons (Zj.2 rfl) RVs.nil)) rfl rfl fun oP mV tM hs o13 lH hxt hfl=>?_);have hfr:=hfr.stp hs;have q1:=q1.stp hs;have mB:=mB.stp hs rfl;have nB:=nB.stp hs rfl;have oB:=oB.stp hs rfl;have b2:=b2.stp hs rfl;have cK:RV oP.m _ (⟨([(w64 ((1:Int) + y7)),(w64 ((1:Int) + rF))]:List Int),[],[]⟩:BoxLoom) (.agg (Qj [[.slice none 0 0],[.slice none 0 0],[.slice none 0 0]] [(0,tM)]).flatten.toArray):=Qv rfl (Qc (RV.cells lH) (Qc (Tb) (Kd (Tb))));generalize xH:(Value.agg (Qj [[.slice none 0 0],[.slice none 0 0],[.slice none 0 0]] [(0,tM)]).flatten.toArray)=pP at cK;obtain ⟨aS,bS,eF,_,_⟩:=Hb lH;replace eF:=eF.symm;refine Zy pP (xH ▸ Kr (vs:=[(0,tM)]) [[.slice none 0 0],[.slice none 0 0],[.slice none 0 0]] Ng rfl rfl (.cons rfl .nil) ⟨⟨_,rfl,Qe lH⟩,trivial⟩) rfl ?_;refine Ze .plain rfl (Gq (g:=oP) 2003 (⟨[],[],[]⟩:BoxLoom) Try.zeroValue25 (fun m w=>⟨_,(Gi Tb (Gi Tb Tb)),rfl⟩) fun dK w15 t5 hs b15 cb=>?_);have hfr:=hfr.stp hs;have q1:=q1.stp hs;have mB:=mB.stp hs rfl;have nB:=nB.stp hs rfl;have oB:=oB.stp hs rfl;have b2:=b2.stp hs rfl;have lH:=lH.stp hs;have o13:=o13.stp hs rfl;have cK:=cK.stp hs;have xS:OSF 2003 60300 0 dK w15 3 25 ([]:List Int) t5:=cb.osf (by rfl);have yS:OSF 2003 60301 1 dK w15 3 25 ([]:List Int) t5:=cb.osf (by rfl);have zS:OSF 2003 60302 2 dK w15 87 25 ([]:List Zv) t5:=cb.osf (by rfl);clear cb;refine Ze .plain rfl (Gl (g:=dK) (v:=pP) Try.sizeOf25 rfl b15 rfl cK fun lK uM hs b16 cb=>?_);have eT:OSF 2003 60301 1 lK uM 3 25 ([]:List Int) t5:=cb.osf (by rw [← xH,← eF]; rfl);have aE:OSF 2003 60302 2 lK uM 87 25 ([]:List Zv) t5:=cb.osf (by rw [← xH,← eF]; rfl);obtain ⟨cS,dS,aL,_,_⟩:=Hb lH;have zB:OSF 2003 3021 0 lK uM 3 25 (([(w64 ((1:Int) + y7)),(w64 ((1:Int) + rF))]:List Int):List Int) t5:=cb.osfv (by rw [← xH,aL]; rfl) (o13.stp hs rfl);clear cb;have hfr:=hfr.stp hs;have q1:=q1.stp hs;have mB:=mB.stp hs rfl;have nB:=nB.stp hs rfl
 have oB:=oB.stp hs rfl;have b2:=b2.stp hs rfl;refine Zb (Zd (Zf ?_));have sP:=Zm (Vq).1 q1;obtain ⟨aK,vM,h⟩:=Gc h;have eS:=Bw sP vM;refine Zs (x:=.tmp 24) Try.isAgg5 Try.sizeOf5 eS fun nV gS hl20=>?_;obtain rfl:=Xs.1 gS;refine Dr (x:=.tmp 27) Tv.1 Try.isAgg22 Try.sizeOf22 b16 zB fun tP uP o22 gQ=>?_;obtain ⟨y23,xM,h⟩:=Gc h;have iS:=Tp uP xM;refine Zs (x:=.tmp 29) Try.isAgg3 Try.sizeOf3 iS fun oV jS iQ=>?_;obtain rfl:=Zj.1 jS;obtain ⟨iE,jQ,h⟩:=Gc h;have vP:=Zm (Vq).1 q1;obtain ⟨bK,bN,h⟩:=Gc h;have lS:=Bw vP bN;refine Zs (x:=.tmp 33) Try.isAgg5 Try.sizeOf5 lS fun pV mS kQ=>?_;obtain rfl:=Xs.1 mS;refine Dr (x:=.tmp 36) Tv.1 Try.isAgg22 Try.sizeOf22 b16 zB fun xP yP o32 lQ=>?_;obtain ⟨jM,cN,h⟩:=Gc h;have nS:=Tp yP cN;refine Zs (x:=.tmp 38) Try.isAgg3 Try.sizeOf3 nS fun qV oS mQ=>?_;obtain rfl:=Zj.1 oS;obtain ⟨lE,nQ,h⟩:=Gc h;refine Qi (g:=lK) (n:=20) [(18,(fun v g w=>RV g.m w ([iE,lE]:List Int) v∧OS 3041 g w 3 ([iE,lE]:List Int) v∧Gw v))] [0,1,2,3,4,5,6,7,8,9,10,11,12,13,14,15,16,17,18,19] rfl mixed (by kernel_rfl) (⟨fun _=>Tt Kp (Tt Ho (Qq _)),trivial⟩) ?_;refine Gb (Gn p1 0) rfl rfl (Zc Ct rfl (PT.ptr q1)) ?_;refine Gb (Gn (Gn p1 0) (((2:Int):Int).toNat * 1)) rfl rfl (To (α:=UInt8) Try.underlying69 Try.sizeOf5 rfl (PT.ptr sP) rfl vM) ?_;refine Te (c:=.int .u8 (UInt8.toNat (aK))) rfl rfl .plain (fun _ _ h=>h.ch) hl20 rfl ?_;refine Gb (.int .i64 (((aK).toNat:Int))) rfl rfl (Yg Try.underlying5 Try.underlying3 rfl) ?_;refine Gb (Gn t5 0) rfl rfl (Zc Km rfl (OB.ptr b16)) ?_;refine Te (c:=tP) rfl rfl .plain (fun _ _ h=>⟨h.ch,fun b hb _=>h.below.block b hb⟩) gQ rfl ?_;refine Gb (Qu tP (0:Int) 1) rfl rfl (Zh (α:=Int) Try.underlying22 Try.sizeOf3 rfl uP rfl xM) ?_;refine Te (c:=.int .i64 (y23)) rfl rfl .plain (fun _ _ h=>h.ch) iQ rfl ?_;refine Gb (.int .i64 (iE)) rfl rfl (Td rfl rfl (congrArg (Option.map (Value.int .i64)) jQ)) ?_;refine Gb (Gn p1 0) rfl rfl (Zc Ct rfl (PT.ptr q1)) ?_;refine Gb (Gn (Gn p1 0) (((3:Int):Int).toNat * 1)) rfl rfl (To (α:=UInt8) Try.underlying69 Try.sizeOf5 rfl (PT.ptr vP) rfl bN) ?_;refine Te (c:=.int .u8 (UInt8.toNat (bK))) rfl rfl .plain (fun _ _ h=>h.ch) kQ rfl ?_;refine Gb (.int .i64 (((bK).toNat:Int))) rfl rfl (Yg Try.underlying5 Try.underlying3 rfl) ?_;refine Gb (Gn t5 0) rfl rfl (Zc Km rfl (OB.ptr b16)) ?_;refine Te (c:=xP) rfl rfl .plain (fun _ _ h=>⟨h.ch,fun b hb _=>h.below.block b hb⟩) lQ rfl ?_;refine Gb (Qu xP (1:Int) 1) rfl rfl (Zh (α:=Int) Try.underlying22 Try.sizeOf3 rfl yP rfl cN) ?_;refine Te (c:=.int .i64 (jM)) rfl rfl .plain (fun _ _ h=>h.ch) mQ rfl ?_;refine Gb (.int .i64 (lE)) rfl rfl (Td rfl rfl (congrArg (Option.map (Value.int .i64)) nQ)) ?_;refine Qw (φ:=fun v g w=>RV g.m w ([iE,lE]:List Int) v∧OS 3041 g w 3 ([iE,lE]:List Int) v∧Gw v) rfl rfl .plain (fun g w hd=>Gm (g:=g) 3041 (xs:=([iE,lE]:List Int)) (vs:=[.int .i64 (iE),.int .i64 (lE)]) Try.underlying22 Try.sizeOf3 Try.zeroValue3 rfl rfl (.cons rfl (.cons rfl .nil)) (RVs.cons (Zj.2 rfl) (RVs.cons (Zj.2 rfl) RVs.nil)) rfl rfl fun g' w' v hs o r hxt hfl=>⟨g',hxt,r,o,hfl⟩) (fun mH hv=>?_);clear hv;refine Gb (Gn t5 1) rfl rfl (Zc Uv rfl (OB.ptr b16)) ?_;refine Jr fun pS rV hall=>?_;have hs:=hall.1;have hfr:=hfr.ext hs;have q1:=q1.ext hs;have mB:=mB.ext hs;have nB:=nB.ext hs;have oB:=oB.ext hs;have b2:=b2.ext hs;have aE:=aE.ext hs;have zB:=zB.ext hs;have b16:=b16.ext hs;have zP:=(Gs (A:=fun g w=>RV g.m w ([iE,lE]:List Int) mH∧OS 3041 g w 3 ([iE,lE]:List Int) mH∧Gw mH) 18 rfl hall).1;have o77:=(Gs (A:=fun g w=>RV g.m w ([iE,lE]:List Int) mH∧OS 3041 g w 3 ([iE,lE]:List Int) mH∧Gw mH) 18 rfl hall).2.1;clear hs hall;refine Ze .plain rfl (Wt (g:=pS) Kk Try.sizeOf22 rfl b16 rfl zP fun bQ qS hs b79 rst hos=>?_);have aE:=aE.rest hs rst;have zB:=zB.rest hs rst;have sF:=hos _ _ 3041 3 (([iE,lE]:List Int):List Int) (Rj zP) rfl o77;clear rst hos;have hfr:=hfr.stp hs;have q1:=q1.stp hs;have mB:=mB.stp hs rfl;have nB:=nB.stp hs rfl;have oB:=oB.stp hs rfl;have b2:=b2.stp hs rfl;refine Zb (Zd (Zf (Za ?_)));have mK:RV bQ.m qS (⟨List.toArray [false,false,false,false,false,false,false,false],rfl⟩:Vector Bool 8) (.agg (Qj [[.bool false],[.bool false],[.bool false],[.bool false],[.bool false],[.bool false],[.bool false],[.bool false]] []).flatten.toArray):=Qv rfl (Gp (Zw Ha (Zw Ha (Zw Ha (Zw Ha (Zw Ha (Zw Ha (Zw Ha (Zw Ha Gk)))))))) rfl)
 generalize oQ:(Value.agg (Qj [[.bool false],[.bool false],[.bool false],[.bool false],[.bool false],[.bool false],[.bool false],[.bool false]] []).flatten.toArray)=cQ at mK;refine Zy cQ (oQ ▸ Ug (vs:=[]) [[.bool false],[.bool false],[.bool false],[.bool false],[.bool false],[.bool false],[.bool false],[.bool false]] Try.underlying137 layA_137 szA_4 rfl (by simp) .nil trivial) rfl ?_;refine Ze .plain rfl (Gq (g:=bQ) 2004 ((⟨List.toArray [false,false,false,false,false,false,false,false],rfl⟩:Vector Bool 8):Vector Bool 8) Try.zeroValue137 (fun m w=>⟨_,(Gp (Zw Ha (Zw Ha (Zw Ha (Zw Ha (Zw Ha (Zw Ha (Zw Ha (Zw Ha Gk)))))))) rfl),rfl⟩) fun rS sV zD hs b81 cb=>?_);have hfr:=hfr.stp hs;have q1:=q1.stp hs;have mB:=mB.stp hs rfl;have nB:=nB.stp hs rfl;have oB:=oB.stp hs rfl;have b2:=b2.stp hs rfl;have aE:=aE.stp hs rfl;have zB:=zB.stp hs rfl;have sF:=sF.stp hs rfl;have b79:=b79.stp hs rfl;have mK:=mK.stp hs;clear cb;refine Ze .plain rfl (Gl (g:=rS) (v:=cQ) Try.sizeOf137 rfl b81 rfl mK fun sS tV hs b82 cb=>?_);clear cb;have hfr:=hfr.stp hs;have q1:=q1.stp hs;have mB:=mB.stp hs rfl;have nB:=nB.stp hs rfl;have oB:=oB.stp hs rfl;have b2:=b2.stp hs rfl;have aE:=aE.stp hs rfl;have zB:=zB.stp hs rfl;have sF:=sF.stp hs rfl;have b79:=b79.stp hs rfl;refine Zb (Zd ?_);obtain ⟨bE,hx,h⟩:=Gc h;refine Tm (fun e w=>∃ (g:Gh) ,Fr gI wI g w∧e 2=p2∧OB 2002 g w 25 ((⟨[],[],[]⟩:BoxLoom):BoxLoom) p2∧OSF 2002 60200 0 g w 3 25 (((⟨[],[],[]⟩:BoxLoom)).Boxes) p2∧OSF 2002 60201 1 g w 3 25 (((⟨[],[],[]⟩:BoxLoom)).At) p2∧OSF 2002 60202 2 g w 87 25 (((⟨[],[],[]⟩:BoxLoom)).Shuttles) p2∧e 3=t5∧OB 2003 g w 25 (bE:BoxLoom) t5∧OSF 2003 3021 0 g w 3 25 ((bE).Boxes) t5∧OSF 2003 3041 1 g w 3 25 ((bE).At) t5∧OSF 2003 60302 2 g w 87 25 ((bE).Shuttles) t5) (fun Q' hQ=>?_) (fun tS lT hR=>?_)
 ·replace h := hx
  clear hx;refine Zf (Za (Zg (.int .i64 (0)) rfl rfl ?_));refine Zb (Zd (Zr ?_));refine Jv h (fun (s:BoxLoom × (Vector Bool 8) × Int) e w=>∃ (g:Gh) ,Fr gI wI g w∧e 1=p1∧PT g.m w (x0:Yb) p1∧e 2=p2∧OB 2002 g w 25 ((⟨[],[],[]⟩:BoxLoom):BoxLoom) p2∧OSF 2002 60200 0 g w 3 25 (((⟨[],[],[]⟩:BoxLoom)).Boxes) p2∧OSF 2002 60201 1 g w 3 25 (((⟨[],[],[]⟩:BoxLoom)).At) p2∧OSF 2002 60202 2 g w 87 25 (((⟨[],[],[]⟩:BoxLoom)).Shuttles) p2∧e 3=t5∧OB 2003 g w 25 (s.1:BoxLoom) t5∧OSF 2003 3021 0 g w 3 25 ((s.1).Boxes) t5∧OSF 2003 3041 1 g w 3 25 ((s.1).At) t5∧OSF 2003 60302 2 g w 87 25 ((s.1).Shuttles) t5∧e 4=zD∧OB 2004 g w 137 (s.2.1:Vector Bool 8) zD∧e 5=.int .i64 (s.2.2)) ⟨sS,hfr,rfl,q1,rfl,b2,mB,nB,oB,rfl,b79,zB,sF,aE,rfl,b82,rfl⟩ (fun X602 kM xN=>?_);rintro ⟨l5,aB,o0⟩ mT mU ⟨yH,hfr,tF,xE,lG,mG,u2_0_603,u2_1_603,u2_2_603,sG,xG,u3_0_603,u3_1_603,u3_2_603,yG,zG,oE⟩ h;refine Zq h (fun (s:Unit) e w=>∃ (g:Gh) ,Fr gI wI g w∧e 1=p1∧PT g.m w (x0:Yb) p1∧e 2=p2∧OB 2002 g w 25 ((⟨[],[],[]⟩:BoxLoom):BoxLoom) p2∧OSF 2002 60200 0 g w 3 25 (((⟨[],[],[]⟩:BoxLoom)).Boxes) p2∧OSF 2002 60201 1 g w 3 25 (((⟨[],[],[]⟩:BoxLoom)).At) p2∧OSF 2002 60202 2 g w 87 25 (((⟨[],[],[]⟩:BoxLoom)).Shuttles) p2∧e 3=t5∧OB 2003 g w 25 (l5:BoxLoom) t5∧OSF 2003 3021 0 g w 3 25 ((l5).Boxes) t5∧OSF 2003 3041 1 g w 3 25 ((l5).At) t5∧OSF 2003 60302 2 g w 87 25 ((l5).Shuttles) t5∧e 4=zD∧OB 2004 g w 137 (aB:Vector Bool 8) zD∧e 5=.int .i64 (o0)) (fun X614 sM yN h=>?_) ?_
  ·obtain ⟨mE, hx, h⟩ := Gc h
   refine Tm (fun e w=>∃ (g:Gh) ,Fr gI wI g w∧e 1=p1∧PT g.m w (x0:Yb) p1∧e 2=p2∧OB 2002 g w 25 ((⟨[],[],[]⟩:BoxLoom):BoxLoom) p2∧OSF 2002 60200 0 g w 3 25 (((⟨[],[],[]⟩:BoxLoom)).Boxes) p2∧OSF 2002 60201 1 g w 3 25 (((⟨[],[],[]⟩:BoxLoom)).At) p2∧OSF 2002 60202 2 g w 87 25 (((⟨[],[],[]⟩:BoxLoom)).Shuttles) p2∧e 3=t5∧OB 2003 g w 25 (l5:BoxLoom) t5∧OSF 2003 3021 0 g w 3 25 ((l5).Boxes) t5∧OSF 2003 3041 1 g w 3 25 ((l5).At) t5∧OSF 2003 60302 2 g w 87 25 ((l5).Shuttles) t5∧e 4=zD∧OB 2004 g w 137 (aB:Vector Bool 8) zD∧e 5=.int .i64 (o0)∧e 56=.bool (mE)) (fun Q' hQ=>?_) (fun nT nU hR=>?_)
   ·replace h := hx
    clear hx;refine Za (Zo oE rfl ?_);refine Gy (.bool ((o0 == (0:Int)))) rfl rfl rfl rfl ?_;refine Zn (.bool ((o0 == (0:Int)))) rfl rfl ?_;rcases Zt h with ⟨n8,h⟩ | ⟨n8,h⟩
    ·refine Ga rfl rfl n8 rfl rfl ?_
     iterate 5 refine Ga rfl rfl n8 rfl rfl ?_
     refine Cx (.off rfl rfl) rfl ?_;refine Cx (.off rfl rfl) rfl ?_;refine Ga rfl rfl n8 rfl rfl ?_;refine Zy (.bool true) (Zl (b:=(o0 == (0:Int))) rfl (Qt n8 rfl)) rfl ?_;refine Zb ?_;obtain rfl:=sinj h;exact hQ _ _ ⟨yH,hfr,tF,xE,lG,mG,u2_0_603,u2_1_603,u2_2_603,sG,xG,u3_0_603,u3_1_603,u3_2_603,yG,zG,oE,rfl⟩
    ·refine Zz (.int .i64 (o0)) (Zk oE) rfl rfl n8 rfl ?_
     refine Zz (Gn p1 4) (Zc Mz tF (PT.ptr xE)) rfl rfl n8 rfl ?_;have pQ:=Zm (Xw).1 xE;refine Ze (.yes2 rfl rfl n8) rfl (Gx (g:=yH) Try.isAgg70 Try.sizeOf70 rfl pQ fun oU qQ=>?_);refine Zz (.int .i64 (((x0).Shuttles).length:Int)) (Qm Try.underlying70 rfl qQ) rfl rfl n8 rfl ?_;refine Zz (.bool ((decide (o0 < (((x0).Shuttles).length:Int))))) (Td rfl rfl rfl) rfl rfl n8 rfl ?_;refine Zz (.bool ((decide (o0 < (((x0).Shuttles).length:Int))))) (Zk rfl) rfl rfl n8 rfl ?_;rcases Zt h with ⟨uE,h⟩ | ⟨uE,h⟩
     ·refine Zz (.int .i64 (o0)) (Zk oE) rfl rfl uE rfl ?_
      refine Zz (.bool ((decide (o0 < (6:Int))))) (Td rfl rfl rfl) rfl rfl uE rfl ?_;refine Zz (.bool ((decide (o0 < (6:Int))))) (Zl (b:=(decide (o0 < (((x0).Shuttles).length:Int)))) rfl (Qt uE rfl)) rfl rfl n8 rfl ?_;refine Zy (.bool ((decide (o0 < (6:Int))))) (Zl (b:=(o0 == (0:Int))) rfl (Qk n8 rfl)) rfl ?_;refine Zb ?_;obtain rfl:=sinj h;exact hQ _ _ ⟨yH,hfr,tF,xE,lG,mG,u2_0_603,u2_1_603,u2_2_603,sG,xG,u3_0_603,u3_1_603,u3_2_603,yG,zG,oE,rfl⟩
     ·refine Ga rfl rfl uE rfl rfl ?_
      refine Ga rfl rfl uE rfl rfl ?_;refine Zz (.bool false) (Zl (b:=(decide (o0 < (((x0).Shuttles).length:Int)))) rfl (Qk uE rfl)) rfl rfl n8 rfl ?_;refine Zy (.bool false) (Zl (b:=(o0 == (0:Int))) rfl (Qk n8 rfl)) rfl ?_;refine Zb ?_;obtain rfl:=sinj h;exact hQ _ _ ⟨yH,hfr,tF,xE,lG,mG,u2_0_603,u2_1_603,u2_2_603,sG,xG,u3_0_603,u3_1_603,u3_2_603,yG,zG,oE,rfl⟩
   ·clear hx
    obtain ⟨dN,hfr,eN,gN,kI,lI,u2_0_623,u2_1_623,u2_2_623,mI,nI,u3_0_623,u3_1_623,u3_2_623,iN,jN,kN,nH⟩:=hR;rcases Zt h with ⟨zH,h⟩ | ⟨zH,h⟩
    ·refine Ts (Eq.trans (show ev _ _ = .bool (mE) from nH) (congrArg Value.bool zH)) ?_
     exact Zu (Zd (yN () _ _ ⟨dN,hfr,eN,gN,kI,lI,u2_0_623,u2_1_623,u2_2_623,mI,nI,u3_0_623,u3_1_623,u3_2_623,iN,jN,kN⟩ h))
    ·refine Tj (Eq.trans (show ev _ _ = .bool (mE) from nH) (congrArg Value.bool zH)) ?_
     refine Wb ?_;refine Tx ?_;refine Tx ?_;refine Qh ?_;obtain rfl:=sinj h;exact hQ _ _ ⟨dN,hfr,kI,lI,u2_0_623,u2_1_623,u2_2_623,mI,nI,u3_0_623,u3_1_623,u3_2_623⟩
  ·rintro _ oT rQ ⟨lN, hfr, uF, v8, pI, cD, u2_0_625, u2_1_625, u2_2_625, qI, lD, u3_0_625, u3_1_625, u3_2_625, sI, nD, vF⟩ h
   obtain ⟨⟨cC,dF⟩,hx,h⟩:=Gc h;refine Tm (fun e w=>∃ (g:Gh) ,Fr gI wI g w∧e 1=p1∧PT g.m w (x0:Yb) p1∧e 2=p2∧OB 2002 g w 25 ((⟨[],[],[]⟩:BoxLoom):BoxLoom) p2∧OSF 2002 60200 0 g w 3 25 (((⟨[],[],[]⟩:BoxLoom)).Boxes) p2∧OSF 2002 60201 1 g w 3 25 (((⟨[],[],[]⟩:BoxLoom)).At) p2∧OSF 2002 60202 2 g w 87 25 (((⟨[],[],[]⟩:BoxLoom)).Shuttles) p2∧e 3=t5∧OB 2003 g w 25 (cC:BoxLoom) t5∧OSF 2003 3021 0 g w 3 25 ((cC).Boxes) t5∧OSF 2003 3041 1 g w 3 25 ((cC).At) t5∧OSF 2003 60302 2 g w 87 25 ((cC).Shuttles) t5∧e 4=zD∧OB 2004 g w 137 (dF:Vector Bool 8) zD∧e 5=.int .i64 (o0)) (fun Q' hQ=>?_) (fun uS pT hR=>?_)
   ·replace h := hx
    clear hx;refine Zr ?_;refine Zf (Za ?_);have aI:RV lN.m rQ (⟨List.toArray [0,0,0,0],rfl⟩:Vector UInt8 4) (.agg (Qj [[.int .u8 0],[.int .u8 0],[.int .u8 0],[.int .u8 0]] []).flatten.toArray):=Qv rfl (Gp (Zw Dj (Zw Dj (Zw Dj (Zw Dj Gk)))) rfl);generalize zN:(Value.agg (Qj [[.int .u8 0],[.int .u8 0],[.int .u8 0],[.int .u8 0]] []).flatten.toArray)=mN at aI;refine Zy mN (zN ▸ Ug (vs:=[]) [[.int .u8 0],[.int .u8 0],[.int .u8 0],[.int .u8 0]] Try.underlying69 layA_69 szA_5 rfl (by simp) .nil trivial) rfl ?_;refine Ze .plain rfl (Gq (g:=lN) 2006 ((⟨List.toArray [0,0,0,0],rfl⟩:Vector UInt8 4):Vector UInt8 4) Try.zeroValue69 (fun m w=>⟨_,(Gp (Zw Dj (Zw Dj (Zw Dj (Zw Dj Gk)))) rfl),rfl⟩) fun sQ pU vE hs b874 cb=>?_);have hfr:=hfr.stp hs;have v8:=v8.stp hs;have u2_0_625:=u2_0_625.stp hs rfl;have u2_1_625:=u2_1_625.stp hs rfl;have u2_2_625:=u2_2_625.stp hs rfl;have cD:=cD.stp hs rfl;have u3_0_625:=u3_0_625.stp hs rfl;have u3_1_625:=u3_1_625.stp hs rfl;have u3_2_625:=u3_2_625.stp hs rfl;have lD:=lD.stp hs rfl;have nD:=nD.stp hs rfl;have aI:=aI.stp hs;clear cb;refine Ze .plain rfl (Gl (g:=sQ) (v:=mN) Try.sizeOf69 rfl b874 rfl aI fun aH qU hs b875 cb=>?_);clear cb;have hfr:=hfr.stp hs;have v8:=v8.stp hs;have u2_0_625:=u2_0_625.stp hs rfl;have u2_1_625:=u2_1_625.stp hs rfl;have u2_2_625:=u2_2_625.stp hs rfl;have cD:=cD.stp hs rfl;have u3_0_625:=u3_0_625.stp hs rfl;have u3_1_625:=u3_1_625.stp hs rfl;have u3_2_625:=u3_2_625.stp hs rfl;have lD:=lD.stp hs rfl;have nD:=nD.stp hs rfl;refine Zb (Zd ?_);obtain ⟨i6,hx,h⟩:=Gc h;refine Tm (fun e w=>∃ (g:Gh) ,Fr gI wI g w∧e 1=p1∧PT g.m w (x0:Yb) p1∧e 2=p2∧OB 2002 g w 25 ((⟨[],[],[]⟩:BoxLoom):BoxLoom) p2∧OSF 2002 60200 0 g w 3 25 (((⟨[],[],[]⟩:BoxLoom)).Boxes) p2∧OSF 2002 60201 1 g w 3 25 (((⟨[],[],[]⟩:BoxLoom)).At) p2∧OSF 2002 60202 2 g w 87 25 (((⟨[],[],[]⟩:BoxLoom)).Shuttles) p2∧e 3=t5∧OB 2003 g w 25 (l5:BoxLoom) t5∧OSF 2003 3021 0 g w 3 25 ((l5).Boxes) t5∧OSF 2003 3041 1 g w 3 25 ((l5).At) t5∧OSF 2003 60302 2 g w 87 25 ((l5).Shuttles) t5∧e 4=zD∧OB 2004 g w 137 (aB:Vector Bool 8) zD∧e 5=.int .i64 (o0)∧e 6=vE∧OB 2006 g w 69 (i6:Vector UInt8 4) vE) (fun Q' hQ=>?_) (fun sT rU hR=>?_)
    ·replace h := hx
     clear hx;refine Zf (Za (Zo vF rfl ?_));refine Zy (Gn p1 4) (Zc Mz uF (PT.ptr v8)) rfl ?_;have tQ:=Zm (Xw).1 v8;refine Ze .plain rfl (Gx (g:=aH) Try.isAgg70 Try.sizeOf70 rfl tQ fun sU uQ=>?_);refine Zy (.int .i64 (((x0).Shuttles).length:Int)) (Qm Try.underlying70 rfl uQ) rfl ?_;refine Zy (.bool ((decide (o0 < (((x0).Shuttles).length:Int))))) (Td rfl rfl rfl) rfl ?_;refine Zb (Zd ?_);rcases Zt h with ⟨bI,h⟩ | ⟨bI,h⟩
     ·refine Wi bI rfl ?_
      refine Za (Zy (Gn p1 4) (Zc Mz uF (PT.ptr v8)) rfl ?_);have vQ:=Zm (Xw).1 v8;refine Ze .plain rfl (Gx (g:=aH) Try.isAgg70 Try.sizeOf70 rfl vQ fun xQ nN=>?_);refine Zo vF rfl ?_;obtain ⟨pM,nK,h⟩:=Gc h;refine Zy (Qu xQ o0 4) (Zh (α:=Vector UInt8 4) Try.underlying70 Try.sizeOf69 rfl nN rfl nK) rfl ?_;have yQ:=Tp nN nK;refine Ze .plain rfl (Gx (g:=aH) Try.isAgg69 Try.sizeOf69 rfl yQ fun zQ aR=>?_);refine Ze .plain rfl (Gl (g:=aH) (v:=zQ) Try.sizeOf69 rfl b875 rfl aR fun bR tU hs b893 cb=>?_);clear cb;have hfr:=hfr.stp hs;have v8:=v8.stp hs;have u2_0_625:=u2_0_625.stp hs rfl;have u2_1_625:=u2_1_625.stp hs rfl;have u2_2_625:=u2_2_625.stp hs rfl;have cD:=cD.stp hs rfl;have u3_0_625:=u3_0_625.stp hs rfl;have u3_1_625:=u3_1_625.stp hs rfl;have u3_2_625:=u3_2_625.stp hs rfl;have lD:=lD.stp hs rfl;have nD:=nD.stp hs rfl;refine Zb ?_;obtain rfl:=sinj h;exact hQ _ _ ⟨bR,hfr,uF,v8,pI,cD,u2_0_625,u2_1_625,u2_2_625,qI,lD,u3_0_625,u3_1_625,u3_2_625,sI,nD,vF,rfl,b893⟩
     ·refine Wg bI rfl ?_
      refine Zu ?_;obtain rfl:=sinj h;exact hQ _ _ ⟨aH,hfr,uF,v8,pI,cD,u2_0_625,u2_1_625,u2_2_625,qI,lD,u3_0_625,u3_1_625,u3_2_625,sI,nD,vF,rfl,b875⟩
    ·clear hx
     obtain ⟨dR,hfr,jJ,xF,kJ,yF,u2_0_894,u2_1_894,u2_2_894,aG,oD,u3_0_894,u3_1_894,u3_2_894,cH,rE,lJ,mJ,yE⟩:=hR;refine Zf (Wa (x:=.tmp 70) (Gv.vec (β:=UInt8) (n:=4) (i:=0) (by decide)).1 Try.isAgg5 Try.sizeOf5 yE fun uU eR aO=>?_);obtain rfl:=Xs.1 eR;refine Dr (x:=.tmp 73) Tv.1 Try.isAgg22 Try.sizeOf22 oD u3_0_894 fun oN pN o897 bO=>?_;obtain ⟨pH,oK,h⟩:=Gc h;have gR:=Tp pN oK;refine Zs (x:=.tmp 75) Try.isAgg3 Try.sizeOf3 gR fun vU iR cO=>?_;obtain rfl:=Zj.1 iR;refine Dr (x:=.tmp 77) Tv.1 Try.isAgg22 Try.sizeOf22 oD u3_0_894 fun qN rN o902 dO=>?_;obtain ⟨qH,pK,h⟩:=Gc h;have jR:=Tp rN pK;refine Zs (x:=.tmp 79) Try.isAgg3 Try.sizeOf3 jR fun xU lR eO=>?_;obtain rfl:=Zj.1 lR;obtain ⟨g8,gO,h⟩:=Gc h;refine Qi (g:=dR) (n:=14) [] [0,1,2,3,4,5,6,7,8,9,10,11,12,13] rfl mixed (by kernel_rfl) trivial ?_;refine Gb (Gn vE 0) rfl rfl (To (α:=UInt8) (i:=(0:Int)) Try.underlying69 Try.sizeOf5 mJ (OB.ptr yE) rfl (Us (v:=i6) (i:=0) (by decide))) ?_;refine Te (c:=.int .u8 (UInt8.toNat ((i6)[0]))) rfl rfl .plain (fun _ _ h=>⟨h.ch,fun b hb _=>h.below.block b hb⟩) aO rfl ?_;refine Gb (.int .i64 ((((i6)[0]).toNat:Int))) rfl rfl (Yg Try.underlying5 Try.underlying3 rfl) ?_;refine Gb (Gn t5 0) rfl rfl (Zc Km aG (OB.ptr oD)) ?_;refine Te (c:=oN) rfl rfl .plain (fun _ _ h=>⟨h.ch,fun b hb _=>h.below.block b hb⟩) bO rfl ?_;refine Gb (Qu oN (0:Int) 1) rfl rfl (Zh (α:=Int) Try.underlying22 Try.sizeOf3 rfl pN rfl oK) ?_;refine Te (c:=.int .i64 (pH)) rfl rfl .plain (fun _ _ h=>h.ch) cO rfl ?_;refine Gb (Gn t5 0) rfl rfl (Zc Km aG (OB.ptr oD)) ?_;refine Te (c:=qN) rfl rfl .plain (fun _ _ h=>⟨h.ch,fun b hb _=>h.below.block b hb⟩) dO rfl ?_;refine Gb (Qu qN (1:Int) 1) rfl rfl (Zh (α:=Int) Try.underlying22 Try.sizeOf3 rfl rN rfl pK) ?_;refine Te (c:=.int .i64 (qH)) rfl rfl .plain (fun _ _ h=>h.ch) eO rfl ?_;refine Gb (.int .i64 ((w64 (pH + qH)))) rfl rfl (Td rfl rfl rfl) ?_;refine Gb (.int .i64 (g8)) rfl rfl (Td rfl rfl (congrArg (Option.map (Value.int .i64)) gO)) ?_;refine Gb (.int .i64 (g8)) rfl rfl (Tf rfl) ?_;refine Ul fun vJ yU hs=>?_;have hfr:=hfr.ext hs;have xF:=xF.ext hs;have u2_0_894:=u2_0_894.ext hs;have u2_1_894:=u2_1_894.ext hs;have u2_2_894:=u2_2_894.ext hs;have yF:=yF.ext hs;have u3_0_894:=u3_0_894.ext hs;have u3_1_894:=u3_1_894.ext hs;have u3_2_894:=u3_2_894.ext hs;have oD:=oD.ext hs;have rE:=rE.ext hs;have yE:=yE.ext hs;clear hs;refine Zb (Zd (Zq h (fun (s:Unit) e w=>∃ (g:Gh) ,Fr gI wI g w∧e 1=p1∧PT g.m w (x0:Yb) p1∧e 2=p2∧OB 2002 g w 25 ((⟨[],[],[]⟩:BoxLoom):BoxLoom) p2∧OSF 2002 60200 0 g w 3 25 (((⟨[],[],[]⟩:BoxLoom)).Boxes) p2∧OSF 2002 60201 1 g w 3 25 (((⟨[],[],[]⟩:BoxLoom)).At) p2∧OSF 2002 60202 2 g w 87 25 (((⟨[],[],[]⟩:BoxLoom)).Shuttles) p2∧e 3=t5∧OB 2003 g w 25 (l5:BoxLoom) t5∧OSF 2003 3021 0 g w 3 25 ((l5).Boxes) t5∧OSF 2003 3041 1 g w 3 25 ((l5).At) t5∧OSF 2003 60302 2 g w 87 25 ((l5).Shuttles) t5∧e 4=zD∧OB 2004 g w 137 (aB:Vector Bool 8) zD∧e 5=.int .i64 (o0)∧e 6=vE∧OB 2006 g w 69 (i6:Vector UInt8 4) vE∧e 7=.int .i64 (g8)) (fun X932 qM jO h=>?_) ?_))
     ·refine Zf (Za (Zn (.int .i64 (g8)) rfl rfl ?_))
      obtain ⟨rM,qK,h⟩:=Gc h;obtain ⟨hi934,he934⟩:=Wr qK;refine Zy (Gn zD ((g8:Int).toNat * 1)) (To (α:=Bool) Try.underlying137 Try.sizeOf4 cH (OB.ptr rE) rfl qK) rfl ?_;refine Ze .plain rfl (Nf (g:=vJ) (Gv.dyn hi934).1 he934 Try.isAgg4 Try.sizeOf4 rfl rE fun zU mR=>?_);obtain rfl:=Hz.1 mR;refine Zb (Zd ?_);rcases Zt h with ⟨dI,h⟩ | ⟨dI,h⟩
      ·refine Wi dI rfl ?_
       refine Wb ?_;refine Tx ?_;refine Qh ?_;obtain ⟨rfl,rfl⟩:=Hl h;exact hQ _ _ ⟨vJ,hfr,jJ,xF,kJ,yF,u2_0_894,u2_1_894,u2_2_894,aG,oD,u3_0_894,u3_1_894,u3_2_894,cH,rE,lJ⟩
      ·refine Wg dI rfl ?_
       exact Zu (Zd (jO () _ _ ⟨vJ,hfr,jJ,xF,kJ,yF,u2_0_894,u2_1_894,u2_2_894,aG,oD,u3_0_894,u3_1_894,u3_2_894,cH,rE,lJ,mJ,yE,rfl⟩ h))
     ·rintro _ tT aV ⟨nR, hfr, nJ, l9, oJ, n9, u2_0_937, u2_1_937, u2_2_937, bG, l8, u3_0_937, u3_1_937, u3_2_937, gH, pJ, qJ, cG, lB, eG⟩ h
      refine Zf (Za (Zo eG rfl ?_));obtain ⟨dQ,sK,h⟩:=Gc h;obtain ⟨hi939,he939⟩:=Wr sK;refine Zy (Gn zD ((g8:Int).toNat * 1)) (To (α:=Bool) Try.underlying137 Try.sizeOf4 gH (OB.ptr pJ) rfl sK) rfl ?_;refine Ze .plain rfl (Wt (g:=nR) (Gv.dyn hi939) Try.sizeOf4 rfl pJ rfl (Hz.2 rfl) fun oR bV hs b940 rst hos=>?_);clear rst hos;have hfr:=hfr.stp hs;have l9:=l9.stp hs;have u2_0_937:=u2_0_937.stp hs rfl;have u2_1_937:=u2_1_937.stp hs rfl;have u2_2_937:=u2_2_937.stp hs rfl;have n9:=n9.stp hs rfl;have u3_0_937:=u3_0_937.stp hs rfl;have u3_1_937:=u3_1_937.stp hs rfl;have u3_2_937:=u3_2_937.stp hs rfl;have l8:=l8.stp hs rfl;have lB:=lB.stp hs rfl;refine Zb (Zd (Zf (Wa (x:=.tmp 88) (Gv.vec (β:=UInt8) (n:=4) (i:=1) (by decide)).1 Try.isAgg5 Try.sizeOf5 lB fun cV pR kO=>?_)));obtain rfl:=Xs.1 pR;obtain ⟨yD,lO,h⟩:=Gc h;refine Wa (x:=.tmp 93) (Gv.vec (β:=UInt8) (n:=4) (i:=2) (by decide)).1 Try.isAgg5 Try.sizeOf5 lB fun dV qR mO=>?_;obtain rfl:=Xs.1 qR;obtain ⟨sH,nO,h⟩:=Gc h;refine Wa (x:=.tmp 97) (Gv.vec (β:=UInt8) (n:=4) (i:=2) (by decide)).1 Try.isAgg5 Try.sizeOf5 lB fun eV rR oO=>?_;obtain rfl:=Xs.1 rR;obtain ⟨jG,pO,h⟩:=Gc h;refine Wa (x:=.tmp 101) (Gv.vec (β:=UInt8) (n:=4) (i:=3) (by decide)).1 Try.isAgg5 Try.sizeOf5 lB fun gV tR qO=>?_;obtain rfl:=Xs.1 tR;obtain ⟨kG,rO,h⟩:=Gc h;obtain ⟨yB,sO,h⟩:=Gc h;refine Qi (g:=oR) (n:=21) [(18,(fun v g w=>RV g.m w yB v)),(20,(fun v g w=>OB 2008 g w 87 (⟨0,0,0,⟨0,0⟩⟩:Zv) v))] [0,1,2,3,4,5,6,7,8,9,10,11,12,13,14,15,16,17,18,19,20] rfl mixed (by kernel_rfl) (⟨fun _=>Kp,fun _=>up_ob,trivial⟩) ?_;refine Gb (Gn vE 1) rfl rfl (To (α:=UInt8) (i:=(1:Int)) Try.underlying69 Try.sizeOf5 cG (OB.ptr lB) rfl (Us (v:=i6) (i:=1) (by decide))) ?_;refine Te (c:=.int .u8 (UInt8.toNat ((i6)[1]))) rfl rfl .plain (fun _ _ h=>⟨h.ch,fun b hb _=>h.below.block b hb⟩) kO rfl ?_;refine Gb (.int .i64 ((((i6)[1]).toNat:Int))) rfl rfl (Yg Try.underlying5 Try.underlying3 rfl) ?_;refine Gb (.int .i64 (yD)) rfl rfl (Td rfl rfl (congrArg (Option.map (Value.int .i64)) lO)) ?_;refine Gb (.int .i64 (g8)) rfl rfl (Zk eG) ?_;refine Gb (Gn vE 2) rfl rfl (To (α:=UInt8) (i:=(2:Int)) Try.underlying69 Try.sizeOf5 cG (OB.ptr lB) rfl (Us (v:=i6) (i:=2) (by decide))) ?_;refine Te (c:=.int .u8 (UInt8.toNat ((i6)[2]))) rfl rfl .plain (fun _ _ h=>⟨h.ch,fun b hb _=>h.below.block b hb⟩) mO rfl ?_;refine Gb (.int .i64 ((((i6)[2]).toNat:Int))) rfl rfl (Yg Try.underlying5 Try.underlying3 rfl) ?_;refine Gb (.int .i64 (sH)) rfl rfl (Td rfl rfl (congrArg (Option.map (Value.int .i64)) nO)) ?_;refine Gb (Gn vE 2) rfl rfl (To (α:=UInt8) (i:=(2:Int)) Try.underlying69 Try.sizeOf5 cG (OB.ptr lB) rfl (Us (v:=i6) (i:=2) (by decide))) ?_;refine Te (c:=.int .u8 (UInt8.toNat ((i6)[2]))) rfl rfl .plain (fun _ _ h=>⟨h.ch,fun b hb _=>h.below.block b hb⟩) oO rfl ?_;refine Gb (.int .i64 ((((i6)[2]).toNat:Int))) rfl rfl (Yg Try.underlying5 Try.underlying3 rfl) ?_;refine Gb (.int .i64 (jG)) rfl rfl (Td rfl rfl (congrArg (Option.map (Value.int .i64)) pO)) ?_;refine Gb (Gn vE 3) rfl rfl (To (α:=UInt8) (i:=(3:Int)) Try.underlying69 Try.sizeOf5 cG (OB.ptr lB) rfl (Us (v:=i6) (i:=3) (by decide))) ?_;refine Te (c:=.int .u8 (UInt8.toNat ((i6)[3]))) rfl rfl .plain (fun _ _ h=>⟨h.ch,fun b hb _=>h.below.block b hb⟩) qO rfl ?_;refine Gb (.int .i64 ((((i6)[3]).toNat:Int))) rfl rfl (Yg Try.underlying5 Try.underlying3 rfl) ?_;refine Gb (.int .i64 (kG)) rfl rfl (Td rfl rfl (congrArg (Option.map (Value.int .i64)) rO)) ?_;refine Gb (.int .i64 ((w64 (jG + kG)))) rfl rfl (Td rfl rfl rfl) ?_;refine Qw (φ:=fun v g w=>RV g.m w yB v) rfl rfl .plain (fun g w hd=>Zp (g:=g) (vs:=[.int .i64 (sH),.int .i64 ((w64 (jG + kG)))]) en42 (.cons rfl (.cons rfl .nil)) (wk42  sO) fun g' w' v hs hr=>⟨g',hs,hr⟩) (fun jH hv=>?_);obtain ⟨_,_,_,rq949⟩:=hv;obtain ⟨xJ,tK⟩:∃ v,v=(Value.agg (Qj [[.int .i64 0],[.int .i64 0],[.int .i64 0],[.int .i64 0,.int .i64 0]] [(0,.int .i64 (yD)),(2,.int .i64 (g8)),(3,jH)]).flatten.toArray):=⟨_,rfl⟩;refine Aj (c:=xJ) rfl rfl .plain (fun _ _ hd=>tK ▸ Kr (vs:=[(0,.int .i64 (yD)),(2,.int .i64 (g8)),(3,jH)]) [[.int .i64 0],[.int .i64 0],[.int .i64 0],[.int .i64 0,.int .i64 0]] Me rfl rfl (.cons rfl (.cons rfl (.cons rfl .nil))) ⟨⟨_,rfl,rfl⟩,⟨⟨_,rfl,rfl⟩,⟨⟨_,rfl,Qe (Ju (A:=fun g w=>RV g.m w yB jH) 18 rfl rfl (Qp hd))⟩,trivial⟩⟩⟩) ?_
      refine Qw (φ:=fun v g w=>OB 2008 g w 87 (⟨0,0,0,⟨0,0⟩⟩:Zv) v) rfl rfl .plain (fun g w hd=>Pd (g:=g) 2008 (⟨0,0,0,⟨0,0⟩⟩:Zv) Try.zeroValue87 (fun m w=>⟨_,(Gi Zx (Gi Zx (Gi Zx (Gi Zx Zx)))),rfl⟩) fun g' w' v hs b=>⟨g',hs,b⟩) (fun zE hv=>?_);clear hv;refine Jr fun uR iV hall=>?_;have hs:=hall.1;have hfr:=hfr.ext hs;have l9:=l9.ext hs;have u2_0_937:=u2_0_937.ext hs;have u2_1_937:=u2_1_937.ext hs;have u2_2_937:=u2_2_937.ext hs;have n9:=n9.ext hs;have u3_0_937:=u3_0_937.ext hs;have u3_1_937:=u3_1_937.ext hs;have u3_2_937:=u3_2_937.ext hs;have l8:=l8.ext hs;have b940:=b940.ext hs;have jV:=(Gs (A:=fun g w=>RV g.m w yB jH) 18 rfl hall);have vR:=(show RV _ _ (⟨yD,0,g8,yB⟩:Zv) xJ from tK ▸ Qv rfl (Qc (rfl) (Qc (Zx) (Qc (rfl) (Kd (RV.cells (Gs (A:=fun g w=>RV g.m w yB jH) 18 rfl hall)))))));have b983:=(Gs (A:=fun g w=>OB 2008 g w 87 (⟨0,0,0,⟨0,0⟩⟩:Zv) zE) 20 rfl hall);clear hs hall;refine Ze .plain rfl (Gl (g:=uR) (v:=xJ) Try.sizeOf87 rfl b983 rfl vR fun zJ kV hs b984 cb=>?_);clear cb;have hfr:=hfr.stp hs;have l9:=l9.stp hs;have u2_0_937:=u2_0_937.stp hs rfl;have u2_1_937:=u2_1_937.stp hs rfl;have u2_2_937:=u2_2_937.stp hs rfl;have n9:=n9.stp hs rfl;have u3_0_937:=u3_0_937.stp hs rfl;have u3_1_937:=u3_1_937.stp hs rfl;have u3_2_937:=u3_2_937.stp hs rfl;have l8:=l8.stp hs rfl;have b940:=b940.stp hs rfl;refine Zb (Zd ?_);obtain ⟨cF,hx,h⟩:=Gc h;refine Tm (fun e w=>∃ (g:Gh) ,Fr gI wI g w∧e 1=p1∧PT g.m w (x0:Yb) p1∧e 2=p2∧OB 2002 g w 25 ((⟨[],[],[]⟩:BoxLoom):BoxLoom) p2∧OSF 2002 60200 0 g w 3 25 (((⟨[],[],[]⟩:BoxLoom)).Boxes) p2∧OSF 2002 60201 1 g w 3 25 (((⟨[],[],[]⟩:BoxLoom)).At) p2∧OSF 2002 60202 2 g w 87 25 (((⟨[],[],[]⟩:BoxLoom)).Shuttles) p2∧e 3=t5∧OB 2003 g w 25 (l5:BoxLoom) t5∧OSF 2003 3021 0 g w 3 25 ((l5).Boxes) t5∧OSF 2003 3041 1 g w 3 25 ((l5).At) t5∧OSF 2003 60302 2 g w 87 25 ((l5).Shuttles) t5∧e 4=zD∧OB 2004 g w 137 ((Ku aB g8 true):Vector Bool 8) zD∧e 5=.int .i64 (o0)∧e 8=zE∧OB 2008 g w 87 (cF:Zv) zE) (fun Q' hQ=>?_) (fun vS uT hR=>?_)
      ·replace h := hx
       clear hx;refine Zf (Za (Zo eG rfl ?_));refine Zy (Gn t5 0) (Zc Km bG (OB.ptr l8)) rfl ?_;refine Ze .plain rfl (Ol (g:=zJ) Tv.1 Try.isAgg22 Try.sizeOf22 rfl l8 u3_0_937 fun tO uK o1049=>?_);obtain ⟨tH,rJ,h⟩:=Gc h;refine Zy (Qu tO (0:Int) 1) (Zh (α:=Int) Try.underlying22 Try.sizeOf3 rfl uK rfl rJ) rfl ?_;have uO:=Tp uK rJ;refine Ze .plain rfl (Gx (g:=zJ) Try.isAgg3 Try.sizeOf3 rfl uO fun xT vO=>?_);obtain rfl:=Zj.1 vO;refine Gy (.bool ((decide (g8 ≥ tH)))) rfl rfl rfl rfl ?_;refine Zb (Zd ?_);rcases Zt h with ⟨kH,h⟩ | ⟨kH,h⟩
       ·refine Wi kH rfl ?_
        refine Wa (x:=.tmp 115) Tv.1 Try.isAgg22 Try.sizeOf22 l8 fun vK xK sN=>?_;obtain ⟨iG,sJ,h⟩:=Gc h;have xO:=Tp xK sJ;refine Zs (x:=.tmp 117) Try.isAgg3 Try.sizeOf3 xO fun yT yO tN=>?_;obtain rfl:=Zj.1 yO;refine Fa (a0:=((⟨yD,0,g8,yB⟩:Zv):Zv)) (a1:=((⟨yD,(1:Int),g8,yB⟩:Zv):Zv)) b984 (n:=9) [(7,(fun _ g w=>OB 2008 g w 87 ((⟨yD,(1:Int),g8,yB⟩:Zv):Zv) zE))] [0,1,2,3,4,5,6,7,8] rfl mixed (by kernel_rfl) (⟨fun _=>Ld,trivial⟩) ?_;refine Gb (.int .i64 (g8)) rfl rfl (Zk eG) ?_;refine Gb (Gn t5 0) rfl rfl (Zc Km bG (OB.ptr l8)) ?_;refine Te (c:=vK) rfl rfl .plain (fun _ _ h=>⟨h.1.ch,fun b hb ho=>h.1.block b hb (by rw [ho]; decide)⟩) sN rfl ?_;refine Gb (Qu vK (0:Int) 1) rfl rfl (Zh (α:=Int) Try.underlying22 Try.sizeOf3 rfl xK rfl sJ) ?_;refine Te (c:=.int .i64 (iG)) rfl rfl .plain (fun _ _ h=>h.1.ch) tN rfl ?_;refine Gb (.int .i64 ((w64 (g8 - iG)))) rfl rfl (Td rfl rfl rfl) ?_;refine Gb (Gn zE 1) rfl rfl (Zc Jz rfl (OB.ptr b984)) ?_;refine Qw (φ:=fun _ g w=>OB 2008 g w 87 ((⟨yD,(1:Int),g8,yB⟩:Zv):Zv) zE) rfl rfl .plain (fun g w hd=>Ot (g:=g) (by rfl) (by exact rfl) Wq Try.sizeOf3 rfl hd.1.2 rfl (Zj.2 rfl)) (fun zT hv=>?_);clear hv;refine Gb (Gn zE 2) rfl rfl (Zc Vx rfl (OB.ptr b984)) ?_;refine Jr fun zO aU hall=>?_;have hs:=hall.1.1;have hfr:=hfr.stp hs;have l9:=l9.stp hs;have u2_0_937:=u2_0_937.stp hs rfl;have u2_1_937:=u2_1_937.stp hs rfl;have u2_2_937:=u2_2_937.stp hs rfl;have n9:=n9.stp hs rfl;have u3_0_937:=u3_0_937.stp hs rfl;have u3_1_937:=u3_1_937.stp hs rfl;have u3_2_937:=u3_2_937.stp hs rfl;have l8:=l8.stp hs rfl;have b940:=b940.stp hs rfl;have b1095:=(Gs (A:=fun g w=>OB 2008 g w 87 ((⟨yD,(1:Int),g8,yB⟩:Zv):Zv) zE) 7 rfl hall);clear hs hall;refine Ze .plain rfl (Wt (g:=zO) Kw Try.sizeOf3 rfl b1095 rfl (Zj.2 rfl) fun aP bU hs b1110 rst hos=>?_);clear rst hos;have hfr:=hfr.stp hs;have l9:=l9.stp hs;have u2_0_937:=u2_0_937.stp hs rfl;have u2_1_937:=u2_1_937.stp hs rfl;have u2_2_937:=u2_2_937.stp hs rfl;have n9:=n9.stp hs rfl;have u3_0_937:=u3_0_937.stp hs rfl;have u3_1_937:=u3_1_937.stp hs rfl;have u3_2_937:=u3_2_937.stp hs rfl;have l8:=l8.stp hs rfl;have b940:=b940.stp hs rfl;refine Zb ?_;obtain rfl:=sinj h;exact hQ _ _ ⟨aP,hfr,nJ,l9,oJ,n9,u2_0_937,u2_1_937,u2_2_937,bG,l8,u3_0_937,u3_1_937,u3_2_937,gH,b940,qJ,rfl,b1110⟩
       ·refine Wg kH rfl ?_
        refine Zu ?_;obtain rfl:=sinj h;exact hQ _ _ ⟨zJ,hfr,nJ,l9,oJ,n9,u2_0_937,u2_1_937,u2_2_937,bG,l8,u3_0_937,u3_1_937,u3_2_937,gH,b940,qJ,rfl,b984⟩
      ·clear hx
       obtain ⟨iI,hfr,bL,uC,dL,vC,u2_0_1111,u2_1_1111,u2_2_1111,gG,vB,u3_0_1111,u3_1_1111,u3_2_1111,eL,bD,gL,iL,jL⟩:=hR;refine Za (Zy (Gn t5 2) (Zc Kq gG (OB.ptr vB)) rfl ?_);refine Ze .plain rfl (Ol (g:=iI) Tu.1 Try.isAgg23 Try.sizeOf23 rfl vB u3_2_1111 fun cU jI o1113=>?_);refine Ze .plain rfl (Tr (g:=iI) Try.isAgg87 Try.sizeOf87 iL jL fun bP cP=>?_);refine Ze .plain rfl (Gm (g:=iI) 3125 (xs:=([cF]:List Zv)) (vs:=[bP]) Try.underlying23 Try.sizeOf87 Try.zeroValue87 rfl rfl (.cons rfl .nil) (RVs.cons cP RVs.nil) rfl rfl fun dP dU eU hs o1115 eP hxt hfl=>?_);have hfr:=hfr.stp hs;have uC:=uC.stp hs;have u2_0_1111:=u2_0_1111.stp hs rfl;have u2_1_1111:=u2_1_1111.stp hs rfl;have u2_2_1111:=u2_2_1111.stp hs rfl;have vC:=vC.stp hs rfl;have u3_0_1111:=u3_0_1111.stp hs rfl;have u3_1_1111:=u3_1_1111.stp hs rfl;have vB:=vB.stp hs rfl;have bD:=bD.stp hs rfl;have jI:=jI.stp hs;have o1113:=o1113.stp hs rfl;obtain ⟨uH,uN,h⟩:=Gc h;refine Ze .plain rfl (Ke (g:=dP) (i:=60302) Try.underlying23 Mq rfl rfl o1113 jI rfl eP uN fun gP gU iU hs o1116 yK _=>?_);have hfr:=hfr.stp hs;have uC:=uC.stp hs;have u2_0_1111:=u2_0_1111.stp hs rfl;have u2_1_1111:=u2_1_1111.stp hs rfl;have u2_2_1111:=u2_2_1111.stp hs rfl;have vC:=vC.stp hs rfl;have u3_0_1111:=u3_0_1111.stp hs rfl;have u3_1_1111:=u3_1_1111.stp hs rfl;have vB:=vB.stp hs rfl;have bD:=bD.stp hs rfl;refine Zy (Gn t5 2) (Zc Kq gG (OB.ptr vB)) rfl ?_;refine Ze .plain rfl (Wt (g:=gP) Tu Try.sizeOf23 rfl vB rfl yK fun iP jU hs b1119 rst hos=>?_);have u3_0_1111:=u3_0_1111.rest hs rst;have u3_1_1111:=u3_1_1111.rest hs rst;have lL:=hos _ _ 60302 87 (uH:List Zv) (Rj yK) rfl o1116;clear rst hos;have hfr:=hfr.stp hs;have uC:=uC.stp hs;have u2_0_1111:=u2_0_1111.stp hs rfl;have u2_1_1111:=u2_1_1111.stp hs rfl;have u2_2_1111:=u2_2_1111.stp hs rfl;have vC:=vC.stp hs rfl;have bD:=bD.stp hs rfl;refine Zb (We ?_);obtain ⟨rfl,rfl⟩:=Hl h;exact hQ _ _ ⟨iP,hfr,bL,uC,dL,vC,u2_0_1111,u2_1_1111,u2_2_1111,gG,b1119,u3_0_1111,u3_1_1111,lL,eL,bD,gL⟩
   ·clear hx
    obtain ⟨jP,hfr,mL,nL,oL,xL,u2_0_1120,u2_1_1120,u2_2_1120,yL,zL,u3_0_1120,u3_1_1120,u3_2_1120,aM,bM,cM⟩:=hR;refine Za (Zo cM rfl ?_);refine Gy (.int .i64 ((w64 (o0 + (1:Int))))) rfl rfl rfl rfl ?_;refine Zg (.int .i64 ((w64 (o0 + (1:Int))))) rfl rfl ?_;exact Zb (Zd (xN (cC,dF,(w64 (o0 + (1:Int)))) _ _ ⟨jP,hfr,mL,nL,oL,xL,u2_0_1120,u2_1_1120,u2_2_1120,yL,zL,u3_0_1120,u3_1_1120,u3_2_1120,aM,bM,rfl⟩ h))
 ·clear hx
  obtain ⟨zK,hfr,oH,dM,u2_0_1121,u2_1_1121,u2_2_1121,eM,iM,u3_0_1121,u3_1_1121,u3_2_1121⟩:=hR;refine Zf (Za (Ze .plain rfl (Tr (g:=zK) Try.isAgg25 Try.sizeOf25 eM iM fun kP lP=>?_)));refine Ze .plain rfl (Gl (g:=zK) (v:=kP) Try.sizeOf25 oH dM rfl lP fun kU lU hs b1123 cb=>?_);clear cb;have hfr:=hfr.stp hs;refine Zb (Zd (Gz ?_));obtain rfl:=sinj h;obtain ⟨ad1124,cv1124,hp1124,vN,cr1124⟩:=Qn Try.isAgg25 Try.sizeOf25 b1123;exact Xh rfl rfl ((show _=p2 from oH).trans hp1124) vN ⟨_,hfr,cr1124⟩
def f39 (x0:Yb) (x1:BoxLoom) (x2:Int):Option ((List Gf) × (List Int) × (Vector (Vector Int 4) 2) × Int):=
 (f45 x1).bind fun y6=>
 (idx ((x1).At) (0:Int)).bind fun yG=>
 (idx ((x1).At) (1:Int)).bind fun zG=>
 Option.bind (α:=(List Gf) × (List Int) × (Vector (Vector Int 4) 2) × Int) (
  lp (σ:=(List Gf) × (List Int) × (Vector (Vector Int 4) 2) × Int × (Vector Int 2) × Int) (fun dM (v8,zB,mB,vC,o0,g8)=>
   jn (σ:=Unit) (fun _=>
    Option.bind (α:=(List Gf) × (List Int) × (Vector (Vector Int 4) 2) × Int × (Vector Int 2)) (
     (idx ((x0).Picks) g8).bind fun jI=>
     (idx ((x1).Boxes) (0:Int)).bind fun sK=>
     (Uj ((jI).toNat:Int) sK).bind fun kI=>
     (idx ((x0).Picks) g8).bind fun lI=>
     (Af ((lI).toNat:Int) (8:Int)).bind fun tK=>
     (idx ((x1).Boxes) (1:Int)).bind fun uK=>
     (Uj tK uK).bind fun mI=>
     (f49 kI mI).bind fun l5=>
     (idx (mB).toList (0:Int)).bind fun eM=>
     (idx (eM).toList (l5).Left).bind fun bD=>
     (idx (mB).toList (1:Int)).bind fun iM=>
     (idx (iM).toList (l5).Right).bind fun cC=>
     jn (σ:=Unit) (fun _=>
      (idx (mB).toList (0:Int)).bind fun jM=>
      (idx (jM).toList (l5).Left).bind fun gQ=>
      (idx ((Jq mB ((0:Int)) (fun b=>(Ku b ((l5).Left) cC)))).toList (1:Int)).bind fun kM=>
      (idx (kM).toList (l5).Right).bind fun iQ=>
      (apnd 16 v8 (([l5]:List Gf))).bind fun pM=>
      (apnd 8 zB (([(w64 ((w64 (bD + cC)) - (1:Int)))]:List Int))).bind fun qM=>
      some (pM,qM,(Jq ((Jq mB ((0:Int)) (fun b=>(Ku b ((l5).Left) cC)))) ((1:Int)) (fun b=>(Ku b ((l5).Right) bD))),(w64 (vC + (w64 ((w64 ((w64 ((Wk (o0)[0] (l5).Left) - (Wm (o0)[0] (l5).Left))) + (Wk (o0)[1] (l5).Right))) - (Wm (o0)[1] (l5).Right))))),(⟨List.toArray [(l5).Left,(l5).Right],rfl⟩:Vector Int 2))
      ) fun rM=>
     bif ((bD == (0 : Int)) == (cC == (0 : Int))) then
      some (v8,zB,mB,vC,o0)
     else
      rM ()
     ) fun (uE,vE,cG,eG,dF)=>
    dM (uE,vE,cG,eG,dF,(w64 (g8 + (1:Int))))
    ) fun sM=>
   Option.bind (α:=Bool) (
    bif (decide (g8 < (((x0).Picks).length : Int))) then
     some ((decide (((v8).length:Int) < x2)))
    else
     some (false)
    ) fun oE=>
   bif oE then
    sM ()
   else
    some (v8,zB,mB,vC)
   ) big ([],[],y6,(0:Int),(⟨List.toArray [yG,zG],rfl⟩:Vector Int 2),(0:Int))
  ) fun (gG,iG,aH,rE)=>
 some (gG,iG,aH,rE)
theorem en39:Enters Try.prog 39:=enters_of Try.func39 (by kernel_rfl) rfl
theorem wk39 {gI:Gh} {wI:World} {x0:Yb} {x1:BoxLoom} {x2:Int} {up0:Value} (rp0:RV gI.m wI x0 up0) {up1:Value} (rp1:RV gI.m wI x1 up1) {r:(List Gf) × (List Int) × (Vector (Vector Int 4) 2) × Int} (h:f39 x0 x1 x2=some r):Fn Try.prog 39 #[up0,up1,.int .i64 (x2)] gI wI (fun m w v=>∃ y0 y1 y2 y3,v=.tuple #[y0,y1,y2,y3]∧RV m w (r.1) y0∧RV m w (r.2.1) y1∧RV m w (r.2.2.1) y2∧y3=.int .i64 (r.2.2.2)):=by
 unfold f39 at h;refine Tk Try.func39 rfl (Nat.le_of_ble_eq_true rfl) fun g0 hm hfr=>?_;have rp0:RV g0.m wI x0 up0:=hm ▸ rp0;have rp1:RV g0.m wI x1 up1:=hm ▸ rp1;show E _ 133 none _ _ _ _ _;refine Zf (Za (Ze .plain rfl (Wj (g:=g0) rfl rp0 fun g1 w1 p1 hs q1=>?_)));have hfr:=hfr.ext hs;have rp0:=rp0.ext hs;have rp1:=rp1.ext hs;refine Ze .plain rfl (Wj (g:=g1) rfl rp1 fun g2 w2 p2 hs q2=>?_);have hfr:=hfr.ext hs;have rp0:=rp0.ext hs;have rp1:=rp1.ext hs;have q1:=q1.ext hs;refine Zg (.slice none 0 0) rfl rfl ?_;refine Zg (.slice none 0 0) rfl rfl ?_;refine Ze .plain rfl (Gq (g:=g2) 2008 ((⟨List.toArray [(⟨List.toArray [0,0,0,0],rfl⟩:Vector Int 4),(⟨List.toArray [0,0,0,0],rfl⟩:Vector Int 4)],rfl⟩:Vector (Vector Int 4) 2):Vector (Vector Int 4) 2) Try.zeroValue76 (fun m w=>⟨_,(Gp (Zw (Gp (Zw Zx (Zw Zx (Zw Zx (Zw Zx Gk)))) rfl) (Zw (Gp (Zw Zx (Zw Zx (Zw Zx (Zw Zx Gk)))) rfl) Gk)) rfl),rfl⟩) fun g3 w3 p3 hs b3 cb=>?_);have hfr:=hfr.stp hs;have rp0:=rp0.stp hs;have rp1:=rp1.stp hs;have q1:=q1.stp hs;have q2:=q2.stp hs;clear cb;refine Zg (.int .i64 (0)) rfl rfl ?_;refine Zb (Zd (Zf (Za (Ze .plain rfl (Gx (g:=g3) Try.isAgg25 Try.sizeOf25 rfl q2 fun v4 r4=>?_)))));obtain ⟨y6,eS,h⟩:=Gc h;refine Ze .plain rfl (Zp (g:=g3) (vs:=[v4]) en45 (.cons rfl .nil) (wk45 r4 eS) fun g5 w5_ v5 hs hr=>?_);have hfr:=hfr.ext hs;have rp0:=rp0.ext hs;have rp1:=rp1.ext hs;have q1:=q1.ext hs;have q2:=q2.ext hs;have b3:=b3.ext hs;have r4:=r4.ext hs;have r5:=hr;refine Ze .plain rfl (Gl (g:=g5) (v:=v5) Try.sizeOf76 rfl b3 rfl r5 fun g7 w7 hs b7 cb=>?_);clear cb;have hfr:=hfr.stp hs;have rp0:=rp0.stp hs;have rp1:=rp1.stp hs;have q1:=q1.stp hs;have q2:=q2.stp hs;have r4:=r4.stp hs;have r5:=r5.stp hs;refine Zb (Zd (Zf ?_));have q8:=Zm (Kk).1 q2;refine Zs (x:=.tmp 17) Try.isAgg22 Try.sizeOf22 q8 fun v9 r9 gS=>?_;obtain ⟨yG,tM,h⟩:=Gc h;have qI:=Tp r9 tM;refine Zs (x:=.tmp 19) Try.isAgg3 Try.sizeOf3 qI fun cV iS hl12=>?_;obtain rfl:=Zj.1 iS;have sI:=Zm (Kk).1 q2;refine Zs (x:=.tmp 21) Try.isAgg22 Try.sizeOf22 sI fun dQ uH jQ=>?_;obtain ⟨zG,uM,h⟩:=Gc h;have jJ:=Tp uH uM;refine Zs (x:=.tmp 23) Try.isAgg3 Try.sizeOf3 jJ fun dV jS kQ=>?_;obtain rfl:=Zj.1 jS;have xH:RV g7.m w7 (⟨List.toArray [yG,zG],rfl⟩:Vector Int 2) (.agg (Qj [[.int .i64 0],[.int .i64 0]] [(0,.int .i64 (yG)),(1,.int .i64 (zG))]).flatten.toArray):=Qv rfl (Gp (Zw rfl (Zw rfl Gk)) rfl);generalize lQ:(Value.agg (Qj [[.int .i64 0],[.int .i64 0]] [(0,.int .i64 (yG)),(1,.int .i64 (zG))]).flatten.toArray)=eQ at xH;refine Qi (g:=g7) (n:=10) [(9,(fun v g w=>OB 2010 g w 138 ((⟨List.toArray [0,0],rfl⟩:Vector Int 2):Vector Int 2) v))] [0,1,2,3,4,5,6,7,8,9] rfl mixed (by kernel_rfl) (⟨fun _=>up_ob,trivial⟩) ?_;refine Gb (Gn p2 1) rfl rfl (Zc Uv rfl (PT.ptr q2)) ?_;refine Te (c:=v9) rfl rfl .plain (fun _ _ h=>h.ch) gS rfl ?_;refine Gb (Qu v9 (0:Int) 1) rfl rfl (Zh (α:=Int) Try.underlying22 Try.sizeOf3 rfl r9 rfl tM) ?_;refine Te (c:=.int .i64 (yG)) rfl rfl .plain (fun _ _ h=>h.ch) hl12 rfl ?_;refine Gb (Gn p2 1) rfl rfl (Zc Uv rfl (PT.ptr q2)) ?_;refine Te (c:=dQ) rfl rfl .plain (fun _ _ h=>h.ch) jQ rfl ?_;refine Gb (Qu dQ (1:Int) 1) rfl rfl (Zh (α:=Int) Try.underlying22 Try.sizeOf3 rfl uH rfl uM) ?_;refine Te (c:=.int .i64 (zG)) rfl rfl .plain (fun _ _ h=>h.ch) kQ rfl ?_;refine Gb eQ rfl rfl (lQ ▸ Ug (vs:=[(0,.int .i64 (yG)),(1,.int .i64 (zG))]) [[.int .i64 0],[.int .i64 0]] Try.underlying138 Lq Nm rfl (by simp) (.cons rfl (.cons rfl .nil)) ⟨⟨_,rfl,rfl⟩,⟨⟨_,rfl,rfl⟩,trivial⟩⟩) ?_;refine Qw (φ:=fun v g w=>OB 2010 g w 138 ((⟨List.toArray [0,0],rfl⟩:Vector Int 2):Vector Int 2) v) rfl rfl .plain (fun g w hd=>Pd (g:=g) 2010 ((⟨List.toArray [0,0],rfl⟩:Vector Int 2):Vector Int 2) Try.zeroValue138 (fun m w=>⟨_,(Gp (Zw Zx (Zw Zx Gk)) rfl),rfl⟩) fun g' w' v hs b=>⟨g',hs,b⟩) (fun iE hv=>?_);clear hv;refine Jr fun lS eV hall=>?_;have hs:=hall.1;have hfr:=hfr.ext hs;have rp0:=rp0.ext hs;have rp1:=rp1.ext hs;have q1:=q1.ext hs;have q2:=q2.ext hs;have b7:=b7.ext hs;have r4:=r4.ext hs;have r5:=r5.ext hs;have q8:=q8.ext hs;have r9:=r9.ext hs
 have qI:=qI.ext hs;have sI:=sI.ext hs;have uH:=uH.ext hs;have jJ:=jJ.ext hs;have xH:=xH.ext hs;have b41:=(Gs (A:=fun g w=>OB 2010 g w 138 ((⟨List.toArray [0,0],rfl⟩:Vector Int 2):Vector Int 2) iE) 9 rfl hall);clear hs hall;refine Ze .plain rfl (Gl (g:=lS) (v:=eQ) Try.sizeOf138 rfl b41 rfl xH fun mS gV hs b42 cb=>?_);clear cb;have hfr:=hfr.stp hs;have rp0:=rp0.stp hs;have rp1:=rp1.stp hs;have q1:=q1.stp hs;have q2:=q2.stp hs;have b7:=b7.stp hs rfl;have r4:=r4.stp hs;have r5:=r5.stp hs;have q8:=q8.stp hs;have r9:=r9.stp hs;have qI:=qI.stp hs;have sI:=sI.stp hs;have uH:=uH.stp hs;have jJ:=jJ.stp hs;have xH:=xH.stp hs;refine Zb (Zd ?_);obtain ⟨⟨gG,iG,aH,rE⟩,hx,h⟩:=Gc h;refine Tm (fun e w=>∃ (g:Gh) (v6 v7:Value),Fr gI wI g w∧e 6=v6∧RV g.m w (gG:List Gf) v6∧OS 1006 g w 83 (gG:List Gf) v6∧e 7=v7∧RV g.m w (iG:List Int) v7∧OS 1007 g w 3 (iG:List Int) v7∧e 8=p3∧OB 2008 g w 76 (aH:Vector (Vector Int 4) 2) p3∧e 9=.int .i64 (rE)) (fun Q' hQ=>?_) (fun pS vS hR=>?_)
 ·replace h := hx
  clear hx;refine Zf (Za (Zg (.int .i64 (0)) rfl rfl ?_));refine Zb (Zd (Zr ?_));refine Jv h (fun (s:(List Gf) × (List Int) × (Vector (Vector Int 4) 2) × Int × (Vector Int 2) × Int) e w=>∃ (g:Gh) (v6 v7:Value),Fr gI wI g w∧e 2=.int .i64 (x2)∧e 3=p1∧PT g.m w (x0:Yb) p1∧e 4=p2∧PT g.m w (x1:BoxLoom) p2∧e 6=v6∧RV g.m w (s.1:List Gf) v6∧OS 1006 g w 83 (s.1:List Gf) v6∧e 7=v7∧RV g.m w (s.2.1:List Int) v7∧OS 1007 g w 3 (s.2.1:List Int) v7∧e 8=p3∧OB 2008 g w 76 (s.2.2.1:Vector (Vector Int 4) 2) p3∧e 9=.int .i64 (s.2.2.2.1)∧e 10=iE∧OB 2010 g w 138 (s.2.2.2.2.1:Vector Int 2) iE∧e 11=.int .i64 (s.2.2.2.2.2)) ⟨mS,(.slice none 0 0),(.slice none 0 0),hfr,rfl,rfl,q1,rfl,q2,rfl,Hc,OS.nil,rfl,Hc,OS.nil,rfl,b7,rfl,rfl,b42,rfl⟩ (fun X397 dM yO=>?_);rintro ⟨v8,zB,mB,vC,o0,g8⟩ qS xS ⟨vK,n9,nB,hfr,cH,gH,jG,kJ,lJ,jH,kH,mJ,nJ,oJ,pJ,qJ,rJ,sJ,yH,zH,xG⟩ h;refine Zq h (fun (s:Unit) e w=>∃ (g:Gh) ,Fr gI wI g w∧e 2=.int .i64 (x2)∧e 3=p1∧PT g.m w (x0:Yb) p1∧e 4=p2∧PT g.m w (x1:BoxLoom) p2∧e 6=n9∧RV g.m w (v8:List Gf) n9∧OS 1006 g w 83 (v8:List Gf) n9∧e 7=nB∧RV g.m w (zB:List Int) nB∧OS 1007 g w 3 (zB:List Int) nB∧e 8=p3∧OB 2008 g w 76 (mB:Vector (Vector Int 4) 2) p3∧e 9=.int .i64 (vC)∧e 10=iE∧OB 2010 g w 138 (o0:Vector Int 2) iE∧e 11=.int .i64 (g8)) (fun X407 sM zO h=>?_) ?_
  ·obtain ⟨oE, hx, h⟩ := Gc h
   refine Tm (fun e w=>∃ (g:Gh) ,Fr gI wI g w∧e 2=.int .i64 (x2)∧e 3=p1∧PT g.m w (x0:Yb) p1∧e 4=p2∧PT g.m w (x1:BoxLoom) p2∧e 6=n9∧RV g.m w (v8:List Gf) n9∧OS 1006 g w 83 (v8:List Gf) n9∧e 7=nB∧RV g.m w (zB:List Int) nB∧OS 1007 g w 3 (zB:List Int) nB∧e 8=p3∧OB 2008 g w 76 (mB:Vector (Vector Int 4) 2) p3∧e 9=.int .i64 (vC)∧e 10=iE∧OB 2010 g w 138 (o0:Vector Int 2) iE∧e 11=.int .i64 (g8)∧e 36=.bool (oE)) (fun Q' hQ=>?_) (fun rS yS hR=>?_)
   ·replace h := hx
    clear hx;refine Za (Zo xG rfl ?_);refine Zy (Gn p1 5) (Zc Ma gH (PT.ptr jG)) rfl ?_;have mQ:=Zm (Dm).1 jG;refine Ze .plain rfl (Gx (g:=vK) Try.isAgg71 Try.sizeOf71 rfl mQ fun zS nQ=>?_);refine Zy (.int .i64 (((x0).Picks).length:Int)) (Qm Try.underlying71 rfl nQ) rfl ?_;refine Zy (.bool ((decide (g8 < (((x0).Picks).length:Int))))) (Td rfl rfl rfl) rfl ?_;refine Zy (.bool ((decide (g8 < (((x0).Picks).length:Int))))) (Zk rfl) rfl ?_;rcases Zt h with ⟨aE,h⟩ | ⟨aE,h⟩
    ·refine Zz n9 (Zk jH) rfl rfl aE rfl ?_
     refine Zz (.int .i64 ((v8).length:Int)) (Qm Try.underlying30 rfl kH) rfl rfl aE rfl ?_;refine Zz (.int .i64 (x2)) (Zk cH) rfl rfl aE rfl ?_;refine Zz (.bool ((decide (((v8).length:Int) < x2)))) (Td rfl rfl rfl) rfl rfl aE rfl ?_;refine Zy (.bool ((decide (((v8).length:Int) < x2)))) (Zl (b:=(decide (g8 < (((x0).Picks).length:Int)))) rfl (Qt aE rfl)) rfl ?_;refine Zb ?_;obtain rfl:=sinj h;exact hQ _ _ ⟨vK,hfr,cH,gH,jG,kJ,lJ,jH,kH,mJ,nJ,oJ,pJ,qJ,rJ,sJ,yH,zH,xG,rfl⟩
    ·refine Ga rfl rfl aE rfl rfl ?_
     iterate 3 refine Ga rfl rfl aE rfl rfl ?_
     refine Zy (.bool false) (Zl (b:=(decide (g8 < (((x0).Picks).length:Int)))) rfl (Qk aE rfl)) rfl ?_;refine Zb ?_;obtain rfl:=sinj h;exact hQ _ _ ⟨vK,hfr,cH,gH,jG,kJ,lJ,jH,kH,mJ,nJ,oJ,pJ,qJ,rJ,sJ,yH,zH,xG,rfl⟩
   ·clear hx
    obtain ⟨vM,hfr,xM,bN,cN,dN,eN,vJ,xJ,zJ,aK,bK,cK,dK,lK,mK,oL,xL,yL,aI⟩:=hR;rcases Zt h with ⟨nI,h⟩ | ⟨nI,h⟩
    ·refine Ts (Eq.trans (show ev _ _ = .bool (oE) from aI) (congrArg Value.bool nI)) ?_
     exact Zu (Zd (zO () _ _ ⟨vM,hfr,xM,bN,cN,dN,eN,vJ,xJ,zJ,aK,bK,cK,dK,lK,mK,oL,xL,yL⟩ h))
    ·refine Tj (Eq.trans (show ev _ _ = .bool (oE) from aI) (congrArg Value.bool nI)) ?_
     refine Wb ?_;refine Tx ?_;refine Tx ?_;refine Qh ?_;obtain ⟨rfl,rfl,rfl,rfl⟩:=pairs4 h;exact hQ _ _ ⟨vM,(n9),(nB),hfr,vJ,xJ,zJ,aK,bK,cK,dK,lK,mK⟩
  ·rintro _ sS eT ⟨oQ, hfr, nK, kG, aB, lG, lB, oK, lD, nD, pK, oD, yD, mG, l9, qK, bI, uC, eF⟩ h
   obtain ⟨⟨uE,vE,cG,eG,dF⟩,hx,h⟩:=Gc h;refine Tm (fun e w=>∃ (g:Gh) (v6 v7:Value),Fr gI wI g w∧e 2=.int .i64 (x2)∧e 3=p1∧PT g.m w (x0:Yb) p1∧e 4=p2∧PT g.m w (x1:BoxLoom) p2∧e 6=v6∧RV g.m w (uE:List Gf) v6∧OS 1006 g w 83 (uE:List Gf) v6∧e 7=v7∧RV g.m w (vE:List Int) v7∧OS 1007 g w 3 (vE:List Int) v7∧e 8=p3∧OB 2008 g w 76 (cG:Vector (Vector Int 4) 2) p3∧e 9=.int .i64 (eG)∧e 10=iE∧OB 2010 g w 138 (dF:Vector Int 2) iE∧e 11=.int .i64 (g8)) (fun Q' hQ=>?_) (fun tS lT hR=>?_)
   ·replace h := hx
    clear hx;refine Zr ?_;refine Zf ?_;have rF:=Zm (Dm).1 aB;refine Zs (x:=.tmp 39) Try.isAgg71 Try.sizeOf71 rF fun gN xE aP=>?_;obtain ⟨jI,yK,h⟩:=Gc h;have sF:=Tp xE yK;refine Zs (x:=.tmp 42) Try.isAgg5 Try.sizeOf5 sF fun mT pQ bP=>?_;obtain rfl:=Xs.1 pQ;have tF:=Zm (Tv).1 lB;refine Zs (x:=.tmp 45) Try.isAgg22 Try.sizeOf22 tF fun iN yE cP=>?_;obtain ⟨sK,zK,h⟩:=Gc h;have uF:=Tp yE zK;refine Zs (x:=.tmp 47) Try.isAgg3 Try.sizeOf3 uF fun nT qQ dP=>?_;obtain rfl:=Zj.1 qQ;obtain ⟨kI,eP,h⟩:=Gc h;have vF:=Zm (Dm).1 aB;refine Zs (x:=.tmp 50) Try.isAgg71 Try.sizeOf71 vF fun jN zE gP=>?_;obtain ⟨lI,aL,h⟩:=Gc h;have xF:=Tp zE aL;refine Zs (x:=.tmp 53) Try.isAgg5 Try.sizeOf5 xF fun oT rQ iP=>?_;obtain rfl:=Xs.1 rQ;obtain ⟨tK,jP,h⟩:=Gc h;have yF:=Zm (Tv).1 lB;refine Zs (x:=.tmp 57) Try.isAgg22 Try.sizeOf22 yF fun kN cF kP=>?_;obtain ⟨uK,bL,h⟩:=Gc h;have aG:=Tp cF bL;refine Zs (x:=.tmp 59) Try.isAgg3 Try.sizeOf3 aG fun pT sQ lP=>?_;obtain rfl:=Zj.1 sQ;obtain ⟨mI,mP,h⟩:=Gc h;obtain ⟨l5,nP,h⟩:=Gc h;refine Qi (g:=oQ) (n:=25) [(23,(fun v g w=>RV g.m w l5 v)),(24,(fun v g w=>OB 2012 g w 83 (⟨0,0⟩:Gf) v))] [0,1,2,3,4,5,6,7,8,9,10,11,12,13,14,15,16,17,18,19,20,21,22,23,24] rfl mixed (by kernel_rfl) (⟨fun _=>Kp,fun _=>up_ob,trivial⟩) ?_;refine Gb (Gn p1 5) rfl rfl (Zc Ma kG (PT.ptr aB)) ?_;refine Te (c:=gN) rfl rfl .plain (fun _ _ h=>h.ch) aP rfl ?_;refine Gb (.int .i64 (g8)) rfl rfl (Zk eF) ?_;refine Gb (Qu gN g8 1) rfl rfl (Zh (α:=UInt8) Try.underlying71 Try.sizeOf5 rfl xE rfl yK) ?_;refine Te (c:=.int .u8 (UInt8.toNat (jI))) rfl rfl .plain (fun _ _ h=>h.ch) bP rfl ?_;refine Gb (.int .i64 (((jI).toNat:Int))) rfl rfl (Yg Try.underlying5 Try.underlying3 rfl) ?_;refine Gb (Gn p2 0) rfl rfl (Zc Km lG (PT.ptr lB)) ?_;refine Te (c:=iN) rfl rfl .plain (fun _ _ h=>h.ch) cP rfl ?_;refine Gb (Qu iN (0:Int) 1) rfl rfl (Zh (α:=Int) Try.underlying22 Try.sizeOf3 rfl yE rfl zK) ?_;refine Te (c:=.int .i64 (sK)) rfl rfl .plain (fun _ _ h=>h.ch) dP rfl ?_;refine Gb (.int .i64 (kI)) rfl rfl (Td rfl rfl (congrArg (Option.map (Value.int .i64)) eP)) ?_;refine Gb (Gn p1 5) rfl rfl (Zc Ma kG (PT.ptr aB)) ?_;refine Te (c:=jN) rfl rfl .plain (fun _ _ h=>h.ch) gP rfl ?_;refine Gb (.int .i64 (g8)) rfl rfl (Zk eF) ?_;refine Gb (Qu jN g8 1) rfl rfl (Zh (α:=UInt8) Try.underlying71 Try.sizeOf5 rfl zE rfl aL) ?_;refine Te (c:=.int .u8 (UInt8.toNat (lI))) rfl rfl .plain (fun _ _ h=>h.ch) iP rfl ?_;refine Gb (.int .i64 (((lI).toNat:Int))) rfl rfl (Yg Try.underlying5 Try.underlying3 rfl) ?_;refine Gb (.int .i64 (tK)) rfl rfl (Td rfl rfl (congrArg (Option.map (Value.int .i64)) jP)) ?_;refine Gb (Gn p2 0) rfl rfl (Zc Km lG (PT.ptr lB)) ?_;refine Te (c:=kN) rfl rfl .plain (fun _ _ h=>h.ch) kP rfl ?_;refine Gb (Qu kN (1:Int) 1) rfl rfl (Zh (α:=Int) Try.underlying22 Try.sizeOf3 rfl cF rfl bL) ?_;refine Te (c:=.int .i64 (uK)) rfl rfl .plain (fun _ _ h=>h.ch) lP rfl ?_;refine Gb (.int .i64 (mI)) rfl rfl (Td rfl rfl (congrArg (Option.map (Value.int .i64)) mP)) ?_;refine Qw (φ:=fun v g w=>RV g.m w l5 v) rfl rfl .plain (fun g w hd=>Zp (g:=g) (vs:=[.int .i64 (kI),.int .i64 (mI)]) en49 (.cons rfl (.cons rfl .nil)) (wk49  nP) fun g' w' v hs hr=>⟨g',hs,hr⟩) (fun lN hv=>?_);obtain ⟨_,_,_,rq606⟩:=hv;refine Qw (φ:=fun v g w=>OB 2012 g w 83 (⟨0,0⟩:Gf) v) rfl rfl .plain (fun g w hd=>Pd (g:=g) 2012 (⟨0,0⟩:Gf) Try.zeroValue83 (fun m w=>⟨_,(Gi Zx Zx),rfl⟩) fun g' w' v hs b=>⟨g',hs,b⟩) (fun cD hv=>?_);clear hv;refine Jr fun tQ sT hall=>?_;have hs:=hall.1;have hfr:=hfr.ext hs;have aB:=aB.ext hs;have lB:=lB.ext hs;have lD:=lD.ext hs;have nD:=nD.ext hs;have oD:=oD.ext hs;have yD:=yD.ext hs;have l9:=l9.ext hs;have uC:=uC.ext hs;have rF:=rF.ext hs;have xE:=xE.ext hs;have sF:=sF.ext hs;have tF:=tF.ext hs;have yE:=yE.ext hs;have uF:=uF.ext hs;have vF:=vF.ext hs;have zE:=zE.ext hs;have xF:=xF.ext hs;have yF:=yF.ext hs;have cF:=cF.ext hs;have aG:=aG.ext hs;have lH:=(Gs (A:=fun g w=>RV g.m w l5 lN) 23 rfl hall);have b643:=(Gs (A:=fun g w=>OB 2012 g w 83 (⟨0,0⟩:Gf) cD) 24 rfl hall);clear hs hall;refine Ze .plain rfl (Gl (g:=tQ) (v:=lN) Try.sizeOf83 rfl b643 rfl lH fun uQ tT hs b644 cb=>?_)
    clear cb;have hfr:=hfr.stp hs;have aB:=aB.stp hs;have lB:=lB.stp hs;have lD:=lD.stp hs;have nD:=nD.stp hs rfl;have oD:=oD.stp hs;have yD:=yD.stp hs rfl;have l9:=l9.stp hs rfl;have uC:=uC.stp hs rfl;have rF:=rF.stp hs;have xE:=xE.stp hs;have sF:=sF.stp hs;have tF:=tF.stp hs;have yE:=yE.stp hs;have uF:=uF.stp hs;have vF:=vF.stp hs;have zE:=zE.stp hs;have xF:=xF.stp hs;have yF:=yF.stp hs;have cF:=cF.stp hs;have aG:=aG.stp hs;have lH:=lH.stp hs;refine Zb (Zd (Zf (Wa (x:=.tmp 63) Qx.1 Try.isAgg3 Try.sizeOf3 b644 fun uT vQ oP=>?_)));obtain rfl:=Zj.1 vQ;obtain ⟨eM,dL,h⟩:=Gc h;obtain ⟨hi648,he648⟩:=Wr dL;obtain ⟨bD,eL,h⟩:=Gc h;obtain ⟨hi650,he650⟩:=Wr eL;refine Rc (off:=((((0:Int):Int).toNat * 4) + ((l5).Left:Int).toNat * 1)) (x:=.tmp 66) (Gv.at_ (Gv.dynC hi648 (Gv.dyn hi650) rfl) (by first | rfl | exact Nat.add_assoc _ _ _ | simp only [Nat.add_assoc,Nat.zero_add] | omega)).1 ((congrArg (vat _ hi650) he648).trans he650) Try.isAgg3 Try.sizeOf3 l9 fun xT xQ pP=>?_;obtain rfl:=Zj.1 xQ;refine Wa (x:=.tmp 68) Qz.1 Try.isAgg3 Try.sizeOf3 b644 fun yT yQ sP=>?_;obtain rfl:=Zj.1 yQ;obtain ⟨iM,gL,h⟩:=Gc h;obtain ⟨hi655,he655⟩:=Wr gL;obtain ⟨cC,iL,h⟩:=Gc h;obtain ⟨hi657,he657⟩:=Wr iL;refine Rc (off:=((((1:Int):Int).toNat * 4) + ((l5).Right:Int).toNat * 1)) (x:=.tmp 71) (Gv.at_ (Gv.dynC hi655 (Gv.dyn hi657) rfl) (by first | rfl | exact Nat.add_assoc _ _ _ | simp only [Nat.add_assoc,Nat.zero_add] | omega)).1 ((congrArg (vat _ hi657) he655).trans he657) Try.isAgg3 Try.sizeOf3 l9 fun zT zQ tP=>?_;obtain rfl:=Zj.1 zQ;refine Qi (g:=uQ) (n:=12) [] [0,1,2,3,4,5,6,7,8,9,10,11] rfl mixed (by kernel_rfl) trivial ?_;refine Gb (Gn cD 0) rfl rfl (Zc Yh rfl (OB.ptr b644)) ?_;refine Te (c:=.int .i64 ((l5).Left)) rfl rfl .plain (fun _ _ h=>⟨h.ch,fun b hb _=>h.below.block b hb⟩) oP rfl ?_;refine Gb (Gn p3 (((0:Int):Int).toNat * 4)) rfl rfl (To (α:=Vector Int 4) Try.underlying76 Try.sizeOf75 mG (OB.ptr l9) rfl dL) ?_;refine Gb (Gn p3 ((((0:Int):Int).toNat * 4) + ((l5).Left:Int).toNat * 1)) rfl rfl (Qs (α:=Int) (o1:=(((0:Int):Int).toNat * 4)) rfl Try.underlying75 Try.sizeOf3 rfl (OB.ptr l9) rfl eL) ?_;refine Te (c:=.int .i64 (bD)) rfl rfl .plain (fun _ _ h=>⟨h.ch,fun b hb _=>h.below.block b hb⟩) pP rfl ?_;refine Gb (Gn cD 1) rfl rfl (Zc Yp rfl (OB.ptr b644)) ?_;refine Te (c:=.int .i64 ((l5).Right)) rfl rfl .plain (fun _ _ h=>⟨h.ch,fun b hb _=>h.below.block b hb⟩) sP rfl ?_;refine Gb (Gn p3 (((1:Int):Int).toNat * 4)) rfl rfl (To (α:=Vector Int 4) Try.underlying76 Try.sizeOf75 mG (OB.ptr l9) rfl gL) ?_;refine Gb (Gn p3 ((((1:Int):Int).toNat * 4) + ((l5).Right:Int).toNat * 1)) rfl rfl (Qs (α:=Int) (o1:=(((1:Int):Int).toNat * 4)) rfl Try.underlying75 Try.sizeOf3 rfl (OB.ptr l9) rfl iL) ?_;refine Te (c:=.int .i64 (cC)) rfl rfl .plain (fun _ _ h=>⟨h.ch,fun b hb _=>h.below.block b hb⟩) tP rfl ?_;refine Gb (.int .i64 (bD)) rfl rfl (Tf rfl) ?_;refine Gb (.int .i64 (cC)) rfl rfl (Tf rfl) ?_;refine Ul fun mN aU hs=>?_;have hfr:=hfr.ext hs;have aB:=aB.ext hs;have lB:=lB.ext hs;have lD:=lD.ext hs;have nD:=nD.ext hs;have oD:=oD.ext hs;have yD:=yD.ext hs;have l9:=l9.ext hs;have uC:=uC.ext hs;have rF:=rF.ext hs;have xE:=xE.ext hs;have sF:=sF.ext hs;have tF:=tF.ext hs;have yE:=yE.ext hs;have uF:=uF.ext hs;have vF:=vF.ext hs;have zE:=zE.ext hs;have xF:=xF.ext hs;have yF:=yF.ext hs;have cF:=cF.ext hs;have aG:=aG.ext hs;have lH:=lH.ext hs;have b644:=b644.ext hs;clear hs;refine Zb (Zd (Zq h (fun (s:Unit) e w=>∃ (g:Gh) ,Fr gI wI g w∧e 2=.int .i64 (x2)∧e 3=p1∧PT g.m w (x0:Yb) p1∧e 4=p2∧PT g.m w (x1:BoxLoom) p2∧e 6=n9∧RV g.m w (v8:List Gf) n9∧OS 1006 g w 83 (v8:List Gf) n9∧e 7=nB∧RV g.m w (zB:List Int) nB∧OS 1007 g w 3 (zB:List Int) nB∧e 8=p3∧OB 2008 g w 76 (mB:Vector (Vector Int 4) 2) p3∧e 9=.int .i64 (vC)∧e 10=iE∧OB 2010 g w 138 (o0:Vector Int 2) iE∧e 11=.int .i64 (g8)∧e 12=cD∧OB 2012 g w 83 (l5:Gf) cD∧e 13=.int .i64 (bD)∧e 14=.int .i64 (cC)) (fun X707 rM uP h=>?_) ?_))
    ·refine Zf (Za (Zn (.int .i64 (bD)) rfl rfl ?_))
     refine Gy (.bool ((bD == (0:Int)))) rfl rfl rfl rfl ?_;refine Zn (.int .i64 (cC)) rfl rfl ?_;refine Gy (.bool ((cC == (0:Int)))) rfl rfl rfl rfl ?_;refine Zy (.bool (((bD == (0:Int)) == (cC == (0:Int))))) (P_bool Try.underlying4 rfl rfl rfl) rfl ?_;refine Zb (Zd ?_);rcases Zt h with ⟨pI,h⟩ | ⟨pI,h⟩
     ·refine Wi pI rfl ?_
      refine Wb ?_;refine Tx ?_;refine Qh ?_;obtain ⟨rfl,rfl,rfl,rfl,rfl⟩:=pairs5 h;exact hQ _ _ ⟨mN,(n9),(nB),hfr,nK,kG,aB,lG,lB,oK,lD,nD,pK,oD,yD,mG,l9,qK,bI,uC,eF⟩
     ·refine Wg pI rfl ?_
      exact Zu (Zd (uP () _ _ ⟨mN,hfr,nK,kG,aB,lG,lB,oK,lD,nD,pK,oD,yD,mG,l9,qK,bI,uC,eF,rfl,b644,rfl,rfl⟩ h))
    ·rintro _ uS bU ⟨nN, hfr, oN, pN, l8, qN, n8, rN, lE, mE, sN, oB, vB, mH, nH, tN, bE, i6, zL, yB, t5, dI, iI⟩ h
     refine Zf (Za (Zy (Gn cD 0) (Zc Yh yB (OB.ptr t5)) rfl ?_));refine Ze .plain rfl (Qo (g:=nN) Qx.1 Try.isAgg3 Try.sizeOf3 rfl t5 fun cU aR=>?_);obtain rfl:=Zj.1 aR;refine Zo iI rfl ?_;obtain ⟨jM,jL,h⟩:=Gc h;obtain ⟨hi713,he713⟩:=Wr jL;refine Zy (Gn p3 (((0:Int):Int).toNat * 4)) (To (α:=Vector Int 4) Try.underlying76 Try.sizeOf75 mH (OB.ptr nH) rfl jL) rfl ?_;obtain ⟨gQ,lL,h⟩:=Gc h;obtain ⟨hi715,he715⟩:=Wr lL;refine Zy (Gn p3 ((((0:Int):Int).toNat * 4) + ((l5).Left:Int).toNat * 1)) (Qs (α:=Int) (o1:=(((0:Int):Int).toNat * 4)) rfl Try.underlying75 Try.sizeOf3 rfl (OB.ptr nH) rfl lL) rfl ?_;refine Ze .plain rfl (Wt (g:=nN) (Gv.at_ (Gv.dynC hi713 (Gv.dyn hi715) rfl) (by first | rfl | exact Nat.add_assoc _ _ _ | simp only [Nat.add_assoc,Nat.zero_add] | omega)) Try.sizeOf3 rfl nH rfl (Zj.2 rfl) fun uN dU hs b716 rst hos=>?_);clear rst hos;have hfr:=hfr.stp hs;have l8:=l8.stp hs;have n8:=n8.stp hs;have lE:=lE.stp hs;have mE:=mE.stp hs rfl;have oB:=oB.stp hs;have vB:=vB.stp hs rfl;have i6:=i6.stp hs rfl;have t5:=t5.stp hs rfl;refine Zb (Zd (Zf (Za (Zy (Gn cD 1) (Zc Yp yB (OB.ptr t5)) rfl ?_))));refine Ze .plain rfl (Qo (g:=uN) Qz.1 Try.isAgg3 Try.sizeOf3 rfl t5 fun eU bR=>?_);obtain rfl:=Zj.1 bR;refine Zo dI rfl ?_;obtain ⟨kM,mL,h⟩:=Gc h;obtain ⟨hi720,he720⟩:=Wr mL;refine Zy (Gn p3 (((1:Int):Int).toNat * 4)) (To (α:=Vector Int 4) Try.underlying76 Try.sizeOf75 mH (OB.ptr b716) rfl mL) rfl ?_;obtain ⟨iQ,nL,h⟩:=Gc h;obtain ⟨hi722,he722⟩:=Wr nL;refine Zy (Gn p3 ((((1:Int):Int).toNat * 4) + ((l5).Right:Int).toNat * 1)) (Qs (α:=Int) (o1:=(((1:Int):Int).toNat * 4)) rfl Try.underlying75 Try.sizeOf3 rfl (OB.ptr b716) rfl nL) rfl ?_;refine Ze .plain rfl (Wt (g:=uN) (Gv.at_ (Gv.dynC hi720 (Gv.dyn hi722) rfl) (by first | rfl | exact Nat.add_assoc _ _ _ | simp only [Nat.add_assoc,Nat.zero_add] | omega)) Try.sizeOf3 rfl b716 rfl (Zj.2 rfl) fun vN gU hs b723 rst hos=>?_);clear rst hos;have hfr:=hfr.stp hs;have l8:=l8.stp hs;have n8:=n8.stp hs;have lE:=lE.stp hs;have mE:=mE.stp hs rfl;have oB:=oB.stp hs;have vB:=vB.stp hs rfl;have i6:=i6.stp hs rfl;have t5:=t5.stp hs rfl;refine Zb (Zd (Zf (Za (Zo rN rfl ?_))));refine Ze .plain rfl (Tr (g:=vN) Try.isAgg83 Try.sizeOf83 yB t5 fun dR eR=>?_);refine Ze .plain rfl (Gm (g:=vN) 3090 (xs:=([l5]:List Gf)) (vs:=[dR]) Try.underlying30 Try.sizeOf83 Try.zeroValue83 rfl rfl (.cons rfl .nil) (RVs.cons eR RVs.nil) rfl rfl fun gR iU jU hs o725 iR hxt hfl=>?_);have hfr:=hfr.stp hs;have l8:=l8.stp hs;have n8:=n8.stp hs;have lE:=lE.stp hs;have mE:=mE.stp hs rfl;have oB:=oB.stp hs;have vB:=vB.stp hs rfl;have b723:=b723.stp hs rfl;have i6:=i6.stp hs rfl;have t5:=t5.stp hs rfl;obtain ⟨pM,vP,h⟩:=Gc h;refine Ze .plain rfl (Ke (g:=gR) (i:=1006) Try.underlying30 info_83 rfl rfl mE lE rfl iR vP fun jR kU xN hs o726 bG _=>?_);have hfr:=hfr.stp hs;have l8:=l8.stp hs;have n8:=n8.stp hs;have oB:=oB.stp hs;have vB:=vB.stp hs rfl;have b723:=b723.stp hs rfl;have i6:=i6.stp hs rfl;have t5:=t5.stp hs rfl;refine Zo sN rfl ?_;refine Zo dI rfl ?_;refine Zo iI rfl ?_;refine Gy (.int .i64 ((w64 (bD + cC)))) rfl rfl rfl rfl ?_;refine Gy (.int .i64 ((w64 ((w64 (bD + cC)) - (1:Int))))) rfl rfl rfl rfl ?_;refine Ze .plain rfl (Gm (g:=jR) 3097 (xs:=([(w64 ((w64 (bD + cC)) - (1:Int)))]:List Int)) (vs:=[.int .i64 ((w64 ((w64 (bD + cC)) - (1:Int))))]) Try.underlying22 Try.sizeOf3 Try.zeroValue3 rfl rfl (.cons rfl .nil) (RVs.cons (Zj.2 rfl) RVs.nil) rfl rfl fun lR lU mU hs o728 mR hxt hfl=>?_);have hfr:=hfr.stp hs;have l8:=l8.stp hs;have n8:=n8.stp hs;have oB:=oB.stp hs;have vB:=vB.stp hs rfl;have b723:=b723.stp hs rfl;have i6:=i6.stp hs rfl;have t5:=t5.stp hs rfl;have bG:=bG.stp hs;have o726:=o726.stp hs rfl;obtain ⟨qM,xP,h⟩:=Gc h;refine Ze .plain rfl (Ke (g:=lR) (i:=1007) Try.underlying22 Jo rfl rfl vB oB rfl mR xP fun zD nR yN hs o729 xK _=>?_);have hfr:=hfr.stp hs;have l8:=l8.stp hs;have n8:=n8.stp hs;have b723:=b723.stp hs rfl;have i6:=i6.stp hs rfl;have t5:=t5.stp hs rfl;have bG:=bG.stp hs;have o726:=o726.stp hs rfl;refine Zg xN rfl rfl ?_;refine Zg yN rfl rfl ?_
     refine Zb (Zd (Zf (Za (Zo tN rfl ?_))));refine Zy (Gn iE 0) (To (α:=Int) (i:=(0:Int)) Try.underlying138 Try.sizeOf3 bE (OB.ptr i6) rfl (Us (v:=o0) (i:=0) (by decide))) rfl ?_;refine Ze .plain rfl (Qo (g:=zD) (Gv.vec (β:=Int) (n:=2) (i:=0) (by decide)).1 Try.isAgg3 Try.sizeOf3 rfl i6 fun nU oR=>?_);obtain rfl:=Zj.1 oR;refine Zy (Gn cD 0) (Zc Yh yB (OB.ptr t5)) rfl ?_;refine Ze .plain rfl (Qo (g:=zD) Qx.1 Try.isAgg3 Try.sizeOf3 rfl t5 fun oU pR=>?_);obtain rfl:=Zj.1 pR;refine Zy (.int .i64 (Wk (o0)[0] (l5).Left)) (Nz rfl rfl) rfl ?_;refine Zy (Gn iE 0) (To (α:=Int) (i:=(0:Int)) Try.underlying138 Try.sizeOf3 bE (OB.ptr i6) rfl (Us (v:=o0) (i:=0) (by decide))) rfl ?_;refine Ze .plain rfl (Qo (g:=zD) (Gv.vec (β:=Int) (n:=2) (i:=0) (by decide)).1 Try.isAgg3 Try.sizeOf3 rfl i6 fun pU qR=>?_);obtain rfl:=Zj.1 qR;refine Zy (Gn cD 0) (Zc Yh yB (OB.ptr t5)) rfl ?_;refine Ze .plain rfl (Qo (g:=zD) Qx.1 Try.isAgg3 Try.sizeOf3 rfl t5 fun qU rR=>?_);obtain rfl:=Zj.1 rR;refine Zy (.int .i64 (Wm (o0)[0] (l5).Left)) (Nv rfl rfl) rfl ?_;refine Gy (.int .i64 ((w64 ((Wk (o0)[0] (l5).Left) - (Wm (o0)[0] (l5).Left))))) rfl rfl rfl rfl ?_;refine Zy (Gn iE 1) (To (α:=Int) (i:=(1:Int)) Try.underlying138 Try.sizeOf3 bE (OB.ptr i6) rfl (Us (v:=o0) (i:=1) (by decide))) rfl ?_;refine Ze .plain rfl (Qo (g:=zD) (Gv.vec (β:=Int) (n:=2) (i:=1) (by decide)).1 Try.isAgg3 Try.sizeOf3 rfl i6 fun rU tR=>?_);obtain rfl:=Zj.1 tR;refine Zy (Gn cD 1) (Zc Yp yB (OB.ptr t5)) rfl ?_;refine Ze .plain rfl (Qo (g:=zD) Qz.1 Try.isAgg3 Try.sizeOf3 rfl t5 fun sU uR=>?_);obtain rfl:=Zj.1 uR;refine Zy (.int .i64 (Wk (o0)[1] (l5).Right)) (Nz rfl rfl) rfl ?_;refine Zy (.int .i64 ((w64 ((w64 ((Wk (o0)[0] (l5).Left) - (Wm (o0)[0] (l5).Left))) + (Wk (o0)[1] (l5).Right))))) (Td rfl rfl rfl) rfl ?_;refine Zy (Gn iE 1) (To (α:=Int) (i:=(1:Int)) Try.underlying138 Try.sizeOf3 bE (OB.ptr i6) rfl (Us (v:=o0) (i:=1) (by decide))) rfl ?_;refine Ze .plain rfl (Qo (g:=zD) (Gv.vec (β:=Int) (n:=2) (i:=1) (by decide)).1 Try.isAgg3 Try.sizeOf3 rfl i6 fun tU vR=>?_);obtain rfl:=Zj.1 vR;refine Zy (Gn cD 1) (Zc Yp yB (OB.ptr t5)) rfl ?_;refine Ze .plain rfl (Qo (g:=zD) Qz.1 Try.isAgg3 Try.sizeOf3 rfl t5 fun uU xR=>?_);obtain rfl:=Zj.1 xR;refine Zy (.int .i64 (Wm (o0)[1] (l5).Right)) (Nv rfl rfl) rfl ?_;refine Zy (.int .i64 ((w64 ((w64 ((w64 ((Wk (o0)[0] (l5).Left) - (Wm (o0)[0] (l5).Left))) + (Wk (o0)[1] (l5).Right))) - (Wm (o0)[1] (l5).Right))))) (Td rfl rfl rfl) rfl ?_;refine Zy (.int .i64 ((w64 (vC + (w64 ((w64 ((w64 ((Wk (o0)[0] (l5).Left) - (Wm (o0)[0] (l5).Left))) + (Wk (o0)[1] (l5).Right))) - (Wm (o0)[1] (l5).Right))))))) (Td rfl rfl rfl) rfl ?_;refine Zy (.int .i64 ((w64 (vC + (w64 ((w64 ((w64 ((Wk (o0)[0] (l5).Left) - (Wm (o0)[0] (l5).Left))) + (Wk (o0)[1] (l5).Right))) - (Wm (o0)[1] (l5).Right))))))) (Tf rfl) rfl ?_;refine Zb (Zd (Za (Zy (Gn cD 0) (Zc Yh yB (OB.ptr t5)) rfl ?_)));refine Ze .plain rfl (Qo (g:=zD) Qx.1 Try.isAgg3 Try.sizeOf3 rfl t5 fun vU yR=>?_);obtain rfl:=Zj.1 yR;refine Zy (Gn cD 1) (Zc Yp yB (OB.ptr t5)) rfl ?_;refine Ze .plain rfl (Qo (g:=zD) Qz.1 Try.isAgg3 Try.sizeOf3 rfl t5 fun xU zR=>?_);obtain rfl:=Zj.1 zR;have zN:RV zD.m nR (⟨List.toArray [(l5).Left,(l5).Right],rfl⟩:Vector Int 2) (.agg (Qj [[.int .i64 0],[.int .i64 0]] [(0,.int .i64 ((l5).Left)),(1,.int .i64 ((l5).Right))]).flatten.toArray):=Qv rfl (Gp (Zw rfl (Zw rfl Gk)) rfl);generalize yP:(Value.agg (Qj [[.int .i64 0],[.int .i64 0]] [(0,.int .i64 ((l5).Left)),(1,.int .i64 ((l5).Right))]).flatten.toArray)=aO at zN;refine Zy aO (yP ▸ Ug (vs:=[(0,.int .i64 ((l5).Left)),(1,.int .i64 ((l5).Right))]) [[.int .i64 0],[.int .i64 0]] Try.underlying138 Lq Nm rfl (by simp) (.cons rfl (.cons rfl .nil)) ⟨⟨_,rfl,rfl⟩,⟨⟨_,rfl,rfl⟩,trivial⟩⟩) rfl ?_;refine Ze .plain rfl (Gl (g:=zD) (v:=aO) Try.sizeOf138 bE i6 rfl zN fun aS yU hs b748 cb=>?_);clear cb;have hfr:=hfr.stp hs;have l8:=l8.stp hs;have n8:=n8.stp hs;have bG:=bG.stp hs;have o726:=o726.stp hs rfl;have xK:=xK.stp hs;have o729:=o729.stp hs rfl;have b723:=b723.stp hs rfl;refine Zb (We ?_)
     obtain ⟨rfl,rfl,rfl,rfl,rfl⟩:=pairs5 h;exact hQ _ _ ⟨aS,(xN),(yN),hfr,oN,pN,l8,qN,n8,rfl,bG,o726,rfl,xK,o729,mH,b723,rfl,bE,b748,zL⟩
   ·clear hx
    obtain ⟨bS,bO,cO,hfr,dO,eO,gO,jO,kO,lO,mO,nO,oO,pO,qO,rO,sO,tO,aM,bM,cM⟩:=hR;refine Za (Zo cM rfl ?_);refine Gy (.int .i64 ((w64 (g8 + (1:Int))))) rfl rfl rfl rfl ?_;refine Zg (.int .i64 ((w64 (g8 + (1:Int))))) rfl rfl ?_;exact Zb (Zd (yO (uE,vE,cG,eG,dF,(w64 (g8 + (1:Int)))) _ _ ⟨bS,(bO),(cO),hfr,dO,eO,gO,jO,kO,lO,mO,nO,oO,pO,qO,rO,sO,tO,aM,bM,rfl⟩ h))
 ·clear hx
  obtain ⟨cS,oH,pH,hfr,uO,qH,nS,vO,sH,oS,tH,sG,xO⟩:=hR;refine Zf (Vu Try.isAgg76 Try.sizeOf76 rfl sG fun dS zP bQ=>?_);refine Qi (g:=cS) (n:=8) [(6,(fun _ _ _=>True))] [0,1,2,3,4,5,6,7] rfl mixed (by kernel_rfl) (⟨fun _=>(fun _ _ _ _ _ _=>trivial),trivial⟩) ?_;refine Gb oH rfl rfl (Zk uO) ?_;refine Gb pH rfl rfl (Zk vO) ?_;refine Te (c:=dS) rfl rfl .plain (fun _ _ h=>⟨h.ch,fun b hb _=>h.below.block b hb⟩) (zP _) tH ?_;refine Gb (.int .i64 (rE)) rfl rfl (Zk xO) ?_;refine Gb oH rfl rfl (Tf rfl) ?_;refine Gb pH rfl rfl (Tf rfl) ?_;refine Qw (φ:=fun _ _ _=>True) rfl rfl .plain (fun g w hd=>bQ _ _ _ g w ⟨hd.1.ch,fun b hb _=>hd.1.below.block b hb⟩ tH rfl) (fun zU hv=>?_);clear hv;refine Gb (.int .i64 (rE)) rfl rfl (Tf rfl) ?_;refine Ul fun aV bV hs=>?_;have hfr:=hfr.ext hs;have qH:=qH.ext hs;have sH:=sH.ext hs;have sG:=sG.ext hs;clear hs;refine Zb (Zd (Gz ?_));obtain rfl:=sinj h;obtain ⟨ad762,cv762,hp762,cQ,cr762⟩:=Qn Try.isAgg76 Try.sizeOf76 sG;exact endm_ttct rfl rfl (show _=oH from rfl) (show _=pH from rfl) ((show _=p3 from tH).trans hp762) cQ (show _=.int .i64 (rE) from rfl) ⟨_,hfr,_,_,_,_,rfl,qH,sH,cr762,rfl⟩
def f64 (x0:List (List Int)) (x1:(List Int)→Option Bool):Option (Bool):=
 (f90 x0 x1).bind fun y2=>
 some ((decide (y2 ≥ (0:Int))))
theorem en64:Enters Try.prog 64:=enters_of Try.func64 (by kernel_rfl) rfl
theorem wk64 {gI:Gh} {wI:World} {x0:List (List Int)} {x1:(List Int)→Option Bool} {up0:Value} (rp0:RV gI.m wI x0 up0) {up1:Value} (rp1:Dx Try.prog x1 up1 gI wI) {r:Bool} (h:f64 x0 x1=some r):Fn Try.prog 64 #[up0,up1] gI wI (fun _ _ v=>v=.bool (r)):=by
 unfold f64 at h;refine Tk Try.func64 rfl (Nat.le_of_ble_eq_true rfl) fun g0 hm hfr=>?_;have rp0:RV g0.m wI x0 up0:=hm ▸ rp0;obtain ⟨ff1,fa1,fc1,rfl,fen1,fcl1⟩:=rp1;show E _ 9 none _ _ _ _ _;refine Zf (Za (Zg (.bool false) rfl rfl ?_));refine Zb (Zd (Zf (Za (Zn up0 rfl rfl ?_))));refine Zn ((.func (.func ff1) fa1 fc1)) rfl rfl ?_;obtain ⟨y2,hy2,h⟩:=Gc h;refine Ze .plain rfl (Zp (g:=g0) (vs:=[up0,(.func (.func ff1) fa1 fc1)]) en90 (.cons rfl (.cons rfl .nil)) (wk90 rp0 (Dx.ch ⟨_,_,_,rfl,fen1,fcl1⟩ hfr.ch) hy2) fun g1 w1_ v1 hs hr=>?_);have hfr:=hfr.ext hs;subst hr;refine Gy (.bool ((decide (y2 ≥ (0:Int))))) rfl rfl rfl rfl ?_;refine Zg (.bool ((decide (y2 ≥ (0:Int))))) rfl rfl ?_;refine Zb (Zd (Gz ?_));obtain rfl:=sinj h;exact Kb rfl rfl (show _=.bool ((decide (y2 ≥ (0:Int)))) from rfl) ⟨_,hfr,rfl⟩
def f66 (x0:List (List Int)):Option ((List Int)):=
 Option.bind (α:=Int) (
  lp (σ:=Int × Int) (fun bG (t5,o0)=>
   bif (decide (o0 < ((x0).length : Int))) then
    Option.bind (α:=Int) (
     (idx x0 o0).bind fun l8=>
     bif (decide ((w64 (t5 + ((l8).length : Int))) < (0 : Int))) then
      none
     else
      some ((w64 (t5 + ((l8).length:Int))))
     ) fun n8=>
    bG (n8,(w64 (o0 + (1:Int))))
   else
    some (t5)
   ) big ((0:Int),(0:Int))
  ) fun v8=>
 (f91 v8).bind fun cG=>
 Option.bind (α:=(List Int)) (
  lp (σ:=(List Int) × Int) (fun eG (mB,l5)=>
   bif (decide (l5 < ((x0).length : Int))) then
    Option.bind (α:=(List Int)) (
     (idx x0 l5).bind fun gG=>
     (apnd 8 mB gG).bind fun iG=>
     some (iG)
     ) fun g8=>
    eG (g8,(w64 (l5 + (1:Int))))
   else
    some (mB)
   ) big (cG,(0:Int))
  ) fun l9=>
 some (l9)
theorem en66:Enters Try.prog 66:=enters_of Try.func66 (by kernel_rfl) rfl
theorem wk66 {gI:Gh} {wI:World} {x0:List (List Int)} {up0:Value} (rp0:RV gI.m wI x0 up0) {r:(List Int)} (h:f66 x0=some r):Fn Try.prog 66 #[up0] gI wI (fun m w v=>RV m w (r) v):=by
 unfold f66 at h;refine Tk Try.func66 rfl (Nat.le_of_ble_eq_true rfl) fun g0 hm hfr=>?_;have rp0:RV g0.m wI x0 up0:=hm ▸ rp0;show E _ 36 none _ _ _ _ _;refine Zf (Za (Zg (.slice none 0 0) rfl rfl ?_));refine Zb (Zd (Zf (Za (Zg (.int .i64 (0)) rfl rfl ?_))));refine Zb (Zd ?_);obtain ⟨v8,hx,h⟩:=Gc h;refine Tm (fun e w=>∃ (g:Gh) ,Fr gI wI g w∧e 0=up0∧RV g.m w (x0:List (List Int)) up0∧e 3=.int .i64 (v8)) (fun Q' hQ=>?_) (fun tH bI hR=>?_)
 ·replace h := hx
  clear hx;refine Zf (Za (Zn up0 rfl rfl ?_));refine Zy (.int .i64 ((x0).length:Int)) (Qm Try.underlying42 rfl rp0) rfl ?_;refine Zn (.int .i64 (0)) rfl rfl ?_;refine Zb (Zd (Zr ?_));refine Jv h (fun (s:Int × Int) e w=>∃ (g:Gh) ,Fr gI wI g w∧e 0=up0∧RV g.m w (x0:List (List Int)) up0∧e 3=.int .i64 (s.1)∧e 9=up0∧RV g.m w (x0:List (List Int)) up0∧e 10=.int .i64 (((x0).length:Int))∧e 11=.int .i64 (s.2)) ⟨g0,hfr,rfl,rp0,rfl,rfl,rp0,rfl,rfl⟩ (fun X13 bG sG=>?_);rintro ⟨t5,o0⟩ uH dI ⟨aE,hfr,vC,bD,cD,lD,nB,oB,aB⟩ h;refine Zf (Za (Gy (.bool ((decide (o0 < ((x0).length:Int))))) aB oB rfl rfl ?_));refine Zb (Zd (Zf ?_));rcases Zt h with ⟨zB,h⟩ | ⟨zB,h⟩
  ·refine Wi zB rfl ?_
   refine Zu (Zd ?_);obtain ⟨n8,hx,h⟩:=Gc h;refine Tm (fun e w=>∃ (g:Gh) ,Fr gI wI g w∧e 0=up0∧RV g.m w (x0:List (List Int)) up0∧e 3=.int .i64 (n8)∧e 9=up0∧RV g.m w (x0:List (List Int)) up0∧e 10=.int .i64 (((x0).length:Int))∧e 11=.int .i64 (o0)) (fun Q' hQ=>?_) (fun xH iI hR=>?_)
   ·replace h := hx
    clear hx;refine Zr ?_;refine Zf (Za ?_);obtain ⟨l8,hy20,h⟩:=Gc h;refine Zy (Qu up0 o0 1) (Zh (α:=List Int) Try.underlying42 Try.sizeOf22 lD nB aB hy20) rfl ?_;have aH:=Tp nB hy20;refine Ze .plain rfl (Gx (g:=aE) Try.isAgg22 Try.sizeOf22 rfl aH fun jG cH=>?_);refine Zg jG rfl rfl ?_;refine Zb (Zd (Zf (Za (Zo cD rfl ?_))));refine Zn jG rfl rfl ?_;refine Zy (.int .i64 ((l8).length:Int)) (Qm Try.underlying22 rfl cH) rfl ?_;refine Gy (.int .i64 ((w64 (t5 + ((l8).length:Int))))) rfl rfl rfl rfl ?_;refine Zg (.int .i64 ((w64 (t5 + ((l8).length:Int))))) rfl rfl ?_;refine Zb (Zd (Zf (Za (Zn (.int .i64 ((w64 (t5 + ((l8).length:Int))))) rfl rfl ?_))));refine Zy (.bool ((decide ((w64 (t5 + ((l8).length:Int))) < (0:Int))))) (Td rfl rfl rfl) rfl ?_;refine Zb (Zd ?_);rcases Zt h with ⟨cC,h⟩ | ⟨cC,h⟩
    ·refine Wi cC rfl ?_
     refine Za ?_
     cases h
    ·refine Wg cC rfl ?_
     refine Zu (We ?_);obtain rfl:=sinj h;exact hQ _ _ ⟨aE,hfr,vC,bD,rfl,lD,nB,oB,aB⟩
   ·clear hx
    obtain ⟨gH,hfr,xE,yE,zE,cF,dF,bE,iE⟩:=hR;refine Za (Gy (.int .i64 ((w64 (o0 + (1:Int))))) iE rfl rfl rfl ?_);refine Zn (.int .i64 ((w64 (o0 + (1:Int))))) rfl rfl ?_;exact Zb (Zd (sG (n8,(w64 (o0 + (1:Int)))) _ _ ⟨gH,hfr,xE,yE,zE,cF,dF,bE,rfl⟩ h))
  ·refine Wg zB rfl ?_
   refine Wb ?_;refine Tx ?_;refine Tx ?_;refine Qh ?_;obtain rfl:=sinj h;exact hQ _ _ ⟨aE,hfr,vC,bD,cD⟩
 ·clear hx
  obtain ⟨jH,hfr,eF,n9,rF⟩:=hR;refine Zf (Za (Zo rF rfl ?_));obtain ⟨cG,xG,h⟩:=Gc h;refine Ze .plain rfl (Ux (g:=jH) (vs:=[.slice none 0 0,.int .i64 (v8)]) en91 (.cons rfl (.cons rfl .nil)) (wk91 (iO:=4024) xG) fun kH jI kG hs m26=>?_);obtain ⟨o26,lH⟩:=m26;have hfr:=hfr.ext hs;have n9:=n9.ext hs;refine Zg kG rfl rfl ?_;refine Zb (Zd ?_);obtain ⟨l9,hx,h⟩:=Gc h;refine Tm (fun e w=>∃ (g:Gh) (v6:Value),Fr gI wI g w∧e 6=v6∧RV g.m w (l9:List Int) v6∧OS 4024 g w 3 (l9:List Int) v6) (fun Q' hQ=>?_) (fun yH kI hR=>?_)
  ·replace h := hx
   clear hx;refine Zf (Za (Zo eF rfl ?_));refine Zy (.int .i64 ((x0).length:Int)) (Qm Try.underlying42 rfl n9) rfl ?_;refine Zn (.int .i64 (0)) rfl rfl ?_;refine Zb (Zd (Zr ?_));refine Jv h (fun (s:(List Int) × Int) e w=>∃ (g:Gh) (v6:Value),Fr gI wI g w∧e 6=v6∧RV g.m w (s.1:List Int) v6∧OS 4024 g w 3 (s.1:List Int) v6∧e 25=up0∧RV g.m w (x0:List (List Int)) up0∧e 26=.int .i64 (((x0).length:Int))∧e 27=.int .i64 (s.2)) ⟨kH,(kG),hfr,rfl,lH,o26,rfl,n9,rfl,rfl⟩ (fun X42 eG yG=>?_);rintro ⟨mB,l5⟩ zH lI ⟨lE,sF,hfr,nD,oD,yD,vB,i6,yB,lB⟩ h;refine Zf (Za (Gy (.bool ((decide (l5 < ((x0).length:Int))))) lB yB rfl rfl ?_));refine Zb (Zd (Zf ?_));rcases Zt h with ⟨uC,h⟩ | ⟨uC,h⟩
   ·refine Wi uC rfl ?_
    refine Zu (Zd ?_);obtain ⟨g8,hx,h⟩:=Gc h;refine Tm (fun e w=>∃ (g:Gh) (v6:Value),Fr gI wI g w∧e 6=v6∧RV g.m w (g8:List Int) v6∧OS 4024 g w 3 (g8:List Int) v6∧e 25=up0∧RV g.m w (x0:List (List Int)) up0∧e 26=.int .i64 (((x0).length:Int))∧e 27=.int .i64 (l5)) (fun Q' hQ=>?_) (fun aI mI hR=>?_)
    ·replace h := hx
     clear hx;refine Zr ?_;refine Zf (Za ?_);obtain ⟨gG,mE,h⟩:=Gc h;refine Zy (Qu up0 l5 1) (Zh (α:=List Int) Try.underlying42 Try.sizeOf22 vB i6 lB mE) rfl ?_;have mH:=Tp i6 mE;refine Ze .plain rfl (Gx (g:=lE) Try.isAgg22 Try.sizeOf22 rfl mH fun lG nH=>?_);refine Zg lG rfl rfl ?_;refine Zb (Zd (Za (Zo nD rfl ?_)));refine Zn lG rfl rfl ?_;obtain ⟨iG,zG,h⟩:=Gc h;refine Ze .plain rfl (Ke (g:=lE) (i:=4024) Try.underlying22 Jo rfl rfl yD oD rfl nH zG fun oH nI mG hs o53 pH _=>?_);have hfr:=hfr.stp hs;have i6:=i6.stp hs;refine Zg mG rfl rfl ?_;refine Zb (We ?_);obtain rfl:=sinj h;exact hQ _ _ ⟨oH,(mG),hfr,rfl,pH,o53,vB,i6,yB,lB⟩
    ·clear hx
     obtain ⟨qH,tF,hfr,uF,vF,xF,oE,rE,uE,vE⟩:=hR;refine Za (Gy (.int .i64 ((w64 (l5 + (1:Int))))) vE rfl rfl rfl ?_);refine Zn (.int .i64 ((w64 (l5 + (1:Int))))) rfl rfl ?_;exact Zb (Zd (yG (g8,(w64 (l5 + (1:Int)))) _ _ ⟨qH,(tF),hfr,uF,vF,xF,oE,rE,uE,rfl⟩ h))
   ·refine Wg uC rfl ?_
    refine Wb ?_;refine Tx ?_;refine Tx ?_;refine Qh ?_;obtain rfl:=sinj h;exact hQ _ _ ⟨lE,(sF),hfr,nD,oD,yD⟩
  ·clear hx
   obtain ⟨pI,zD,hfr,yF,aG,sH⟩:=hR;refine Zf (Za (Zo yF rfl ?_));refine Zg zD rfl rfl ?_;refine Zb (Zd (Gz ?_));obtain rfl:=sinj h;exact Kb rfl rfl (show _=zD from rfl) ⟨_,hfr,aG⟩
def f68 (x0:List (List Int)):Option ((List (List Int))):=
 Option.bind (α:=(List (List Int))) (
  lp (σ:=(List (List Int)) × Int) (fun lH (i6,o0)=>
   jn (σ:=Unit) (fun _=>
    Option.bind (α:=(List (List Int))) (
     (idx x0 o0).bind fun mH=>
     (f92 big mH).bind fun aB=>
     Option.bind (α:=(List (List Int))) (
      lp (σ:=(List (List Int)) × Int) (fun nH (vB,t5)=>
       jn (σ:=Unit) (fun _=>
        Option.bind (α:=(List (List Int))) (
         lp (σ:=(List (List Int)) × Int) (fun oH (yB,g8)=>
          jn (σ:=Unit) (fun _=>
           Option.bind (α:=(List (List Int))) (
            (idx i6 t5).bind fun pH=>
            (apnd 8 (([]:List Int)) pH).bind fun oB=>
            (idx aB g8).bind fun qH=>
            (apnd 8 oB qH).bind fun zG=>
            (apnd 24 yB (([zG]:List (List Int)))).bind fun sH=>
            some (sH)
            ) fun zB=>
           oH (zB,(w64 (g8 + (1:Int))))
           ) fun tH=>
          bif (decide (g8 < ((aB).length : Int))) then
           tH ()
          else
           some (yB)
          ) big (vB,(0:Int))
         ) fun cC=>
        nH (cC,(w64 (t5 + (1:Int))))
        ) fun uH=>
       bif (decide (t5 < ((i6).length : Int))) then
        uH ()
       else
        some (vB)
       ) big (([]:List (List Int)),(0:Int))
      ) fun lD=>
     some (lD)
     ) fun uC=>
    lH (uC,(w64 (o0 + (1:Int))))
    ) fun xH=>
   bif (decide (o0 < ((x0).length : Int))) then
    xH ()
   else
    some (i6)
   ) big (([([]:List Int)]:List (List Int)),(0:Int))
  ) fun nD=>
 some (nD)
def f86 (x0:List Zv) (x1:Zv→Option Bool):Option (Bool):=
 (f102 x0 x1).bind fun y2=>
 some ((decide (y2 ≥ (0:Int))))
theorem en86:Enters Try.prog 86:=enters_of Try.func86 (by kernel_rfl) rfl
theorem wk86 {gI:Gh} {wI:World} {x0:List Zv} {x1:Zv→Option Bool} {up0:Value} (rp0:RV gI.m wI x0 up0) {up1:Value} (rp1:Dx Try.prog x1 up1 gI wI) {r:Bool} (h:f86 x0 x1=some r):Fn Try.prog 86 #[up0,up1] gI wI (fun _ _ v=>v=.bool (r)):=by
 unfold f86 at h;refine Tk Try.func86 rfl (Nat.le_of_ble_eq_true rfl) fun g0 hm hfr=>?_;have rp0:RV g0.m wI x0 up0:=hm ▸ rp0;obtain ⟨ff1,fa1,fc1,rfl,fen1,fcl1⟩:=rp1;show E _ 9 none _ _ _ _ _;refine Zf (Za (Zg (.bool false) rfl rfl ?_));refine Zb (Zd (Zf (Za (Zn up0 rfl rfl ?_))));refine Zn ((.func (.func ff1) fa1 fc1)) rfl rfl ?_;obtain ⟨y2,hy2,h⟩:=Gc h;refine Ze .plain rfl (Zp (g:=g0) (vs:=[up0,(.func (.func ff1) fa1 fc1)]) en102 (.cons rfl (.cons rfl .nil)) (wk102 rp0 (Dx.ch ⟨_,_,_,rfl,fen1,fcl1⟩ hfr.ch) hy2) fun g1 w1_ v1 hs hr=>?_);have hfr:=hfr.ext hs;subst hr;refine Gy (.bool ((decide (y2 ≥ (0:Int))))) rfl rfl rfl rfl ?_;refine Zg (.bool ((decide (y2 ≥ (0:Int))))) rfl rfl ?_;refine Zb (Zd (Gz ?_));obtain rfl:=sinj h;exact Kb rfl rfl (show _=.bool ((decide (y2 ≥ (0:Int)))) from rfl) ⟨_,hfr,rfl⟩
def f87 (x0:Int) (x1:Int) (x2:List Int):Option (Bool):=
 (f103 x2 ((fun a0=>f104 a0 x0 x1))).bind fun y4=>
 some ((!y4))
theorem en87:Enters Try.prog 87:=enters_of Try.func87 (by kernel_rfl) rfl
theorem wk87 {gI:Gh} {wI:World} {x0:Int} {x1:Int} {x2:List Int} {up2:Value} (rp2:RV gI.m wI x2 up2) {r:Bool} (h:f87 x0 x1 x2=some r):Fn Try.prog 87 #[.int .i64 (x0),.int .i64 (x1),up2] gI wI (fun _ _ v=>v=.bool (r)):=by
 unfold f87 at h;refine Tk Try.func87 rfl (Nat.le_of_ble_eq_true rfl) fun g0 hm hfr=>?_;have rp2:RV g0.m wI x2 up2:=hm ▸ rp2;show E _ 11 none _ _ _ _ _;refine Zf (Za (Ze .plain rfl (Wj (g:=g0) rfl (Zj.2 rfl) fun g1 w1 p1 hs q1=>?_)));have hfr:=hfr.ext hs;have rp2:=rp2.ext hs;refine Ze .plain rfl (Wj (g:=g1) rfl (Zj.2 rfl) fun g2 w2 p2 hs q2=>?_);have hfr:=hfr.ext hs;have rp2:=rp2.ext hs;have q1:=q1.ext hs;refine Zg (.bool false) rfl rfl ?_;refine Zb (Zd (Zf (Za (Zn up2 rfl rfl ?_))));refine Zy ((.func (.func 104) #[] #[p1,p2])) (Vf (Oo (show ev _ _=p1 from rfl) (show ev _ _=p2 from rfl))) rfl ?_;obtain ⟨y4,o0,h⟩:=Gc h;refine Ze .plain rfl (Zp (g:=g2) (vs:=[up2,(.func (.func 104) #[] #[p1,p2])]) en103 (.cons rfl (.cons rfl .nil)) (wk103 rp2 ⟨104,#[],#[p1,p2],rfl,en104,fun g' w' hch a0 b0 r hu0 hr=>by obtain rfl:=Zj.1 hu0; exact Fn.mono (wk104  (q1.ch hch) (q2.ch hch) hr) fun _ _ _ h=>Hz.2 h⟩ o0) fun g3 w3_ v3 hs hr=>?_);have hfr:=hfr.ext hs;subst hr;refine Zy (.bool (!y4)) (Uf rfl) rfl ?_;refine Zg (.bool (!y4)) rfl rfl ?_;refine Zb (Zd (Gz ?_));obtain rfl:=sinj h;exact Kb rfl rfl (show _=.bool (!y4) from rfl) ⟨_,hfr,rfl⟩
def f95 (x0:Gf) (z0:Gg):Option (Bool):=
 Option.bind (α:=Bool) (
  (idx (((z0).BoxLoom).Boxes) (0:Int)).bind fun l8=>
  (f87 ((0:Int)) ((w64 (l8 - (1:Int)))) (([(x0).Left]:List Int))).bind fun i6=>
  bif (!i6) then
   some (true)
  else
   (idx (((z0).BoxLoom).Boxes) (1:Int)).bind fun n8=>
   (f87 ((0:Int)) ((w64 (n8 - (1:Int)))) (([(x0).Right]:List Int))).bind fun y135=>
   some ((!y135))
  ) fun g8=>
 some (g8)
theorem en95:Enters Try.prog 95:=enters_of Try.func95 (by kernel_rfl) rfl
theorem wk95 {gI:Gh} {wI:World} {x0:Gf} {z0:Gg} {up0:Value} (rp0:RV gI.m wI x0 up0) {pf0:Value} (qf0:PT gI.m wI z0 pf0) {r:Bool} (h:f95 x0 z0=some r):Fn Try.prog 95 #[up0,pf0] gI wI (fun _ _ v=>v=.bool (r)):=by
 unfold f95 at h;refine Tk Try.func95 rfl (Nat.le_of_ble_eq_true rfl) fun g0 hm hfr=>?_;have qf0:PT g0.m wI z0 pf0:=hm ▸ qf0;have rp0:RV g0.m wI x0 up0:=hm ▸ rp0;show E _ 28 none _ _ _ _ _;refine Zf (Za (Ze .plain rfl (Wj (g:=g0) rfl rp0 fun g1 w1 p1 hs q1=>?_)));have hfr:=hfr.ext hs;have qf0:=qf0.ext hs;refine Zg (.bool false) rfl rfl ?_;refine Zb (Zd ?_);obtain ⟨g8,hx,h⟩:=Gc h;refine Tm (fun e w=>∃ (g:Gh) ,Fr gI wI g w∧e 3=.bool (g8)) (fun Q' hQ=>?_) (fun xE yE hR=>?_)
 ·replace h := hx
  clear hx;have aB:=Zm (Tn).1 qf0;have iE:=Zm (Tv).1 aB;refine Zs (x:=.tmp 5) Try.isAgg22 Try.sizeOf22 iE fun l9 lB mB=>?_;obtain ⟨l8,v8,h⟩:=Gc h;have lE:=Tp lB v8;refine Zs (x:=.tmp 7) Try.isAgg3 Try.sizeOf3 lE fun vF mE nB=>?_;obtain rfl:=Zj.1 mE;have oE:=Zm (Qx).1 q1;refine Zs (x:=.tmp 10) Try.isAgg3 Try.sizeOf3 oE fun xF rE oB=>?_;obtain rfl:=Zj.1 rE;obtain ⟨i6,vB,h⟩:=Gc h;rcases Zt h with ⟨l5,h⟩ | ⟨l5,h⟩
  ·refine Qi (g := g1) (n := 25) [(8, (fun v g w => RV g.m w ([(x0).Left] : List Int) v ∧ OS 3012 g w 3 ([(x0).Left] : List Int) v ∧ Gw v)), (9, (fun v g w => v = .bool (i6)))] [0, 1, 2, 3, 4, 5, 6, 7, 8, 9, 10, 11, 12, 13, 14, 15, 16, 17, 18, 19, 20, 21, 22, 23, 24] rfl mixed (by kernel_rfl) (⟨fun _ => Tt Kp (Tt Ho (Qq _)), fun _ => Qq _, trivial⟩) ?_
   refine Gb (Gn pf0 0) rfl rfl (Zc Kc rfl (PT.ptr qf0)) ?_;refine Gb (Gn (Gn pf0 0) 0) rfl rfl (Zc Km rfl (PT.ptr aB)) ?_;refine Te (c:=l9) rfl rfl .plain (fun _ _ h=>h.ch) mB rfl ?_;refine Gb (Qu l9 (0:Int) 1) rfl rfl (Zh (α:=Int) Try.underlying22 Try.sizeOf3 rfl lB rfl v8) ?_;refine Te (c:=.int .i64 (l8)) rfl rfl .plain (fun _ _ h=>h.ch) nB rfl ?_;refine Gb (.int .i64 ((w64 (l8 - (1:Int))))) rfl rfl (Td rfl rfl rfl) ?_;refine Gb (Gn p1 0) rfl rfl (Zc Yh rfl (PT.ptr q1)) ?_;refine Te (c:=.int .i64 ((x0).Left)) rfl rfl .plain (fun _ _ h=>h.ch) oB rfl ?_;refine Qw (φ:=fun v g w=>RV g.m w ([(x0).Left]:List Int) v∧OS 3012 g w 3 ([(x0).Left]:List Int) v∧Gw v) rfl rfl .plain (fun g w hd=>Gm (g:=g) 3012 (xs:=([(x0).Left]:List Int)) (vs:=[.int .i64 ((x0).Left)]) Try.underlying22 Try.sizeOf3 Try.zeroValue3 rfl rfl (.cons rfl .nil) (RVs.cons (Zj.2 rfl) RVs.nil) rfl rfl fun g' w' v hs o r hxt hfl=>⟨g',hxt,r,o,hfl⟩) (fun o0 hv=>?_);clear hv;refine Qw (φ:=fun v g w=>v=.bool (i6)) rfl rfl .plain (fun g w hd=>Zp (g:=g) (vs:=[.int .i64 (0),.int .i64 ((w64 (l8 - (1:Int)))),o0]) en87 (.cons rfl (.cons rfl (.cons rfl .nil))) (wk87 (Ju (A:=fun g w=>RV g.m w ([(x0).Left]:List Int) o0∧OS 3012 g w 3 ([(x0).Left]:List Int) o0∧Gw o0) 8 rfl rfl (Qp hd)).1 vB) fun g' w' v hs hr=>⟨g',hs,hr⟩) (fun uE hv=>?_);obtain ⟨_,_,_,rfl⟩:=hv;refine Gb (.bool (!i6)) rfl rfl (Uf rfl) ?_;refine Gb (.bool (!i6)) rfl rfl (Zk rfl) ?_;iterate 11 refine L_s rfl rfl rfl l5 rfl ?_
   refine Gb (.bool true) rfl rfl (Zl (b:=(!i6)) rfl (Qt l5 rfl)) ?_;refine Gb (.bool true) rfl rfl (Tf rfl) ?_;refine Jr fun vE yF hall=>?_;have hs:=hall.1;have hfr:=hfr.ext hs;have zE:=(Gs (A:=fun g w=>RV g.m w ([(x0).Left]:List Int) o0∧OS 3012 g w 3 ([(x0).Left]:List Int) o0∧Gw o0) 8 rfl hall).1;have o109:=(Gs (A:=fun g w=>RV g.m w ([(x0).Left]:List Int) o0∧OS 3012 g w 3 ([(x0).Left]:List Int) o0∧Gw o0) 8 rfl hall).2.1;clear hs hall;refine Zb ?_;obtain rfl:=sinj h;exact hQ _ _ ⟨vE,hfr,rfl⟩
  ·have yB := Zm (Tn).1 qf0
   have nD:=Zm (Tv).1 yB;refine Zs (x:=.tmp 17) Try.isAgg22 Try.sizeOf22 nD fun zB cC vC=>?_;obtain ⟨n8,n9,h⟩:=Gc h;have oD:=Tp cC n9;refine Zs (x:=.tmp 19) Try.isAgg3 Try.sizeOf3 oD fun cF yD bD=>?_;obtain rfl:=Zj.1 yD;have zD:=Zm (Qz).1 q1;refine Zs (x:=.tmp 22) Try.isAgg3 Try.sizeOf3 zD fun dF aE cD=>?_;obtain rfl:=Zj.1 aE;obtain ⟨y135,lD,h⟩:=Gc h;refine Qi (g:=g1) (n:=25) [(8,(fun v g w=>RV g.m w ([(x0).Left]:List Int) v∧OS 3012 g w 3 ([(x0).Left]:List Int) v∧Gw v)),(9,(fun v g w=>v=.bool (i6))),(20,(fun v g w=>RV g.m w ([(x0).Right]:List Int) v∧OS 3024 g w 3 ([(x0).Right]:List Int) v∧Gw v)),(21,(fun v g w=>v=.bool (y135)))] [0,1,2,3,4,5,6,7,8,9,10,11,12,13,14,15,16,17,18,19,20,21,22,23,24] rfl mixed (by kernel_rfl) (⟨fun _=>Tt Kp (Tt Ho (Qq _)),fun _=>Qq _,fun _=>Tt Kp (Tt Ho (Qq _)),fun _=>Qq _,trivial⟩) ?_;refine Gb (Gn pf0 0) rfl rfl (Zc Kc rfl (PT.ptr qf0)) ?_;refine Gb (Gn (Gn pf0 0) 0) rfl rfl (Zc Km rfl (PT.ptr aB)) ?_;refine Te (c:=l9) rfl rfl .plain (fun _ _ h=>h.ch) mB rfl ?_;refine Gb (Qu l9 (0:Int) 1) rfl rfl (Zh (α:=Int) Try.underlying22 Try.sizeOf3 rfl lB rfl v8) ?_;refine Te (c:=.int .i64 (l8)) rfl rfl .plain (fun _ _ h=>h.ch) nB rfl ?_;refine Gb (.int .i64 ((w64 (l8 - (1:Int))))) rfl rfl (Td rfl rfl rfl) ?_;refine Gb (Gn p1 0) rfl rfl (Zc Yh rfl (PT.ptr q1)) ?_;refine Te (c:=.int .i64 ((x0).Left)) rfl rfl .plain (fun _ _ h=>h.ch) oB rfl ?_;refine Qw (φ:=fun v g w=>RV g.m w ([(x0).Left]:List Int) v∧OS 3012 g w 3 ([(x0).Left]:List Int) v∧Gw v) rfl rfl .plain (fun g w hd=>Gm (g:=g) 3012 (xs:=([(x0).Left]:List Int)) (vs:=[.int .i64 ((x0).Left)]) Try.underlying22 Try.sizeOf3 Try.zeroValue3 rfl rfl (.cons rfl .nil) (RVs.cons (Zj.2 rfl) RVs.nil) rfl rfl fun g' w' v hs o r hxt hfl=>⟨g',hxt,r,o,hfl⟩) (fun o0 hv=>?_);clear hv;refine Qw (φ:=fun v g w=>v=.bool (i6)) rfl rfl .plain (fun g w hd=>Zp (g:=g) (vs:=[.int .i64 (0),.int .i64 ((w64 (l8 - (1:Int)))),o0]) en87 (.cons rfl (.cons rfl (.cons rfl .nil))) (wk87 (Ju (A:=fun g w=>RV g.m w ([(x0).Left]:List Int) o0∧OS 3012 g w 3 ([(x0).Left]:List Int) o0∧Gw o0) 8 rfl rfl (Qp hd)).1 vB) fun g' w' v hs hr=>⟨g',hs,hr⟩) (fun uE hv=>?_);obtain ⟨_,_,_,rfl⟩:=hv;refine Gb (.bool (!i6)) rfl rfl (Uf rfl) ?_;refine Gb (.bool (!i6)) rfl rfl (Zk rfl) ?_;refine L_y (Gn pf0 0) rfl rfl rfl rfl l5 (Zc Kc rfl (PT.ptr qf0)) ?_;refine L_y (Gn (Gn pf0 0) 0) rfl rfl rfl rfl l5 (Zc Km rfl (PT.ptr yB)) ?_;refine Te (c:=zB) rfl rfl (.yes2 rfl rfl l5) (fun _ _ h=>h.ch) vC rfl ?_;refine L_y (Qu zB (1:Int) 1) rfl rfl rfl rfl l5 (Zh (α:=Int) Try.underlying22 Try.sizeOf3 rfl cC rfl n9) ?_;refine Te (c:=.int .i64 (n8)) rfl rfl (.yes2 rfl rfl l5) (fun _ _ h=>h.ch) bD rfl ?_;refine L_y (.int .i64 ((w64 (n8 - (1:Int))))) rfl rfl rfl rfl l5 (Td rfl rfl rfl) ?_;refine L_y (Gn p1 1) rfl rfl rfl rfl l5 (Zc Yp rfl (PT.ptr q1)) ?_;refine Te (c:=.int .i64 ((x0).Right)) rfl rfl (.yes2 rfl rfl l5) (fun _ _ h=>h.ch) cD rfl ?_;refine Qw (φ:=fun v g w=>RV g.m w ([(x0).Right]:List Int) v∧OS 3024 g w 3 ([(x0).Right]:List Int) v∧Gw v) rfl rfl (.yes2 rfl rfl l5) (fun g w hd=>Gm (g:=g) 3024 (xs:=([(x0).Right]:List Int)) (vs:=[.int .i64 ((x0).Right)]) Try.underlying22 Try.sizeOf3 Try.zeroValue3 rfl rfl (.cons rfl .nil) (RVs.cons (Zj.2 rfl) RVs.nil) rfl rfl fun g' w' v hs o r hxt hfl=>⟨g',hxt,r,o,hfl⟩) (fun t5 hv=>?_);clear hv;refine Qw (φ:=fun v g w=>v=.bool (y135)) rfl rfl (.yes2 rfl rfl l5) (fun g w hd=>Zp (g:=g) (vs:=[.int .i64 (0),.int .i64 ((w64 (n8 - (1:Int)))),t5]) en87 (.cons rfl (.cons rfl (.cons rfl .nil))) (wk87 (Ju (A:=fun g w=>RV g.m w ([(x0).Right]:List Int) t5∧OS 3024 g w 3 ([(x0).Right]:List Int) t5∧Gw t5) 20 rfl rfl (Qp hd)).1 lD) fun g' w' v hs hr=>⟨g',hs,hr⟩) (fun eF hv=>?_);obtain ⟨_,_,_,rfl⟩:=hv;refine L_y (.bool (!y135)) rfl rfl rfl rfl l5 (Uf rfl) ?_;refine Gb (.bool (!y135)) rfl rfl (Zl (b:=(!i6)) rfl (Qk l5 rfl)) ?_;refine Gb (.bool (!y135)) rfl rfl (Tf rfl) ?_;refine Jr fun bE rF hall=>?_;have hs:=hall.1;have hfr:=hfr.ext hs;have sF:=(Gs (A:=fun g w=>RV g.m w ([(x0).Left]:List Int) o0∧OS 3012 g w 3 ([(x0).Left]:List Int) o0∧Gw o0) 8 rfl hall).1
   have o149:=(Gs (A:=fun g w=>RV g.m w ([(x0).Left]:List Int) o0∧OS 3012 g w 3 ([(x0).Left]:List Int) o0∧Gw o0) 8 rfl hall).2.1;have tF:=(Gs (A:=fun g w=>RV g.m w ([(x0).Right]:List Int) t5∧OS 3024 g w 3 ([(x0).Right]:List Int) t5∧Gw t5) 20 rfl hall).1;have o161:=(Gs (A:=fun g w=>RV g.m w ([(x0).Right]:List Int) t5∧OS 3024 g w 3 ([(x0).Right]:List Int) t5∧Gw t5) 20 rfl hall).2.1;clear hs hall;refine Zb ?_;obtain rfl:=sinj h;exact hQ _ _ ⟨bE,hfr,rfl⟩
 ·clear hx
  obtain ⟨uF,hfr,uC⟩:=hR;refine Gz ?_;obtain rfl:=sinj h;exact Kb rfl rfl (show _=.bool (g8) from uC) ⟨_,hfr,rfl⟩
def f96 (x0:List Gf) (x1:Gf→Option Bool):Option (Bool):=
 (f105 x0 x1).bind fun y2=>
 some ((decide (y2 ≥ (0:Int))))
theorem en96:Enters Try.prog 96:=enters_of Try.func96 (by kernel_rfl) rfl
theorem wk96 {gI:Gh} {wI:World} {x0:List Gf} {x1:Gf→Option Bool} {up0:Value} (rp0:RV gI.m wI x0 up0) {up1:Value} (rp1:Dx Try.prog x1 up1 gI wI) {r:Bool} (h:f96 x0 x1=some r):Fn Try.prog 96 #[up0,up1] gI wI (fun _ _ v=>v=.bool (r)):=by
 unfold f96 at h;refine Tk Try.func96 rfl (Nat.le_of_ble_eq_true rfl) fun g0 hm hfr=>?_;have rp0:RV g0.m wI x0 up0:=hm ▸ rp0;obtain ⟨ff1,fa1,fc1,rfl,fen1,fcl1⟩:=rp1;show E _ 9 none _ _ _ _ _;refine Zf (Za (Zg (.bool false) rfl rfl ?_));refine Zb (Zd (Zf (Za (Zn up0 rfl rfl ?_))));refine Zn ((.func (.func ff1) fa1 fc1)) rfl rfl ?_;obtain ⟨y2,hy2,h⟩:=Gc h;refine Ze .plain rfl (Zp (g:=g0) (vs:=[up0,(.func (.func ff1) fa1 fc1)]) en105 (.cons rfl (.cons rfl .nil)) (wk105 rp0 (Dx.ch ⟨_,_,_,rfl,fen1,fcl1⟩ hfr.ch) hy2) fun g1 w1_ v1 hs hr=>?_);have hfr:=hfr.ext hs;subst hr;refine Gy (.bool ((decide (y2 ≥ (0:Int))))) rfl rfl rfl rfl ?_;refine Zg (.bool ((decide (y2 ≥ (0:Int))))) rfl rfl ?_;refine Zb (Zd (Gz ?_));obtain rfl:=sinj h;exact Kb rfl rfl (show _=.bool ((decide (y2 ≥ (0:Int)))) from rfl) ⟨_,hfr,rfl⟩
def f97 (x0:Gu) (x1:Gf):Option (Gu × Int × Int):=
 (idx ((x0).boxes).toList (0:Int)).bind fun y7=>
 (idx (y7).toList (x1).Left).bind fun y9=>
 (idx ((x0).boxes).toList (1:Int)).bind fun zD=>
 (idx (zD).toList (x1).Right).bind fun t5=>
 jn (σ:=Gu) (fun oD=>
  (f106 (((x0).at_).Left) ((x1).Left)).bind fun l8=>
  (f106 (((x0).at_).Right) ((x1).Right)).bind fun n8=>
  (idx ((x0).boxes).toList (0:Int)).bind fun aE=>
  (idx (aE).toList (x1).Left).bind fun bG=>
  (idx (({ x0 with boxes:=(Jq ((x0).boxes) ((0:Int)) (fun b=>(Ku b ((x1).Left) t5))) }).boxes).toList (1:Int)).bind fun bE=>
  (idx (bE).toList (x1).Right).bind fun oE=>
  some ({ { { x0 with boxes:=(Jq ((x0).boxes) ((0:Int)) (fun b=>(Ku b ((x1).Left) t5))) } with boxes:=(Jq (({ x0 with boxes:=(Jq ((x0).boxes) ((0:Int)) (fun b=>(Ku b ((x1).Left) t5))) }).boxes) ((1:Int)) (fun b=>(Ku b ((x1).Right) y9))) } with at_:=x1 },(w64 (y9 + t5)),(w64 (l8 + n8)))
  ) fun iE=>
 bif ((y9 == (0 : Int)) == (t5 == (0 : Int))) then
  some (x0,(0:Int),(0:Int))
 else
  iE ((⟨(⟨List.toArray [(⟨List.toArray [0,0,0,0],rfl⟩:Vector Int 4),(⟨List.toArray [0,0,0,0],rfl⟩:Vector Int 4)],rfl⟩:Vector (Vector Int 4) 2),⟨0,0⟩⟩:Gu))
theorem en97:Enters Try.prog 97:=enters_of Try.func97 (by kernel_rfl) rfl
theorem wk97 {gI:Gh} {wI:World} {x0:Gu} {x1:Gf} {up0:Value} (rp0:RV gI.m wI x0 up0) {up1:Value} (rp1:RV gI.m wI x1 up1) {r:Gu × Int × Int} (h:f97 x0 x1=some r):Fn Try.prog 97 #[up0,up1] gI wI (fun m w v=>∃ y0 y1 y2,v=.tuple #[y0,y1,y2]∧RV m w (r.1) y0∧y1=.int .i64 (r.2.1)∧y2=.int .i64 (r.2.2)):=by
 unfold f97 at h;refine Tk Try.func97 rfl (Nat.le_of_ble_eq_true rfl) fun g0 hm hfr=>?_;have rp0:RV g0.m wI x0 up0:=hm ▸ rp0;have rp1:RV g0.m wI x1 up1:=hm ▸ rp1;show E _ 59 none _ _ _ _ _;refine Zf (Za (Ze .plain rfl (Im (g:=g0) 2002 rfl rp0 fun g1 w1 p1 hs b1=>?_)));have hfr:=hfr.stp hs;have rp0:=rp0.stp hs;have rp1:=rp1.stp hs;refine Ze .plain rfl (Wj (g:=g1) rfl rp1 fun g2 w2 p2 hs q2=>?_);have hfr:=hfr.ext hs;have rp0:=rp0.ext hs;have rp1:=rp1.ext hs;have b1:=b1.ext hs;refine Ze .plain rfl (Gq (g:=g2) 2004 (⟨(⟨List.toArray [(⟨List.toArray [0,0,0,0],rfl⟩:Vector Int 4),(⟨List.toArray [0,0,0,0],rfl⟩:Vector Int 4)],rfl⟩:Vector (Vector Int 4) 2),⟨0,0⟩⟩:Gu) Try.zeroValue108 (fun m w=>⟨_,(Gi (Gp (Zw (Gp (Zw Zx (Zw Zx (Zw Zx (Zw Zx Gk)))) rfl) (Zw (Gp (Zw Zx (Zw Zx (Zw Zx (Zw Zx Gk)))) rfl) Gk)) rfl) (Gi Zx Zx)),rfl⟩) fun g3 w3 p3 hs b3 cb=>?_);have hfr:=hfr.stp hs;have rp0:=rp0.stp hs;have rp1:=rp1.stp hs;have b1:=b1.stp hs rfl;have q2:=q2.stp hs;clear cb;refine Zg (.int .i64 (0)) rfl rfl ?_;refine Zg (.int .i64 (0)) rfl rfl ?_;refine Zb (Zd (Zf ?_));have q4:=Zm (Qx).1 q2;refine Zs (x:=.tmp 9) Try.isAgg3 Try.sizeOf3 q4 fun v5 r5 cG=>?_;obtain rfl:=Zj.1 r5;obtain ⟨y7,lE,h⟩:=Gc h;obtain ⟨hi8,he8⟩:=Wr lE;obtain ⟨y9,mE,h⟩:=Gc h;obtain ⟨hi10,he10⟩:=Wr mE;refine Rc (off:=((0 + ((0:Int):Int).toNat * 4) + ((x1).Left:Int).toNat * 1)) (x:=.tmp 13) (Gv.at_ (Gv.comp Ww (Gv.dynC hi8 (Gv.dyn hi10) rfl) rfl) (by first | rfl | exact Nat.add_assoc _ _ _ | simp only [Nat.add_assoc,Nat.zero_add] | omega)).1 ((congrArg (vat _ hi10) he8).trans he10) Try.isAgg3 Try.sizeOf3 b1 fun oH eG rE=>?_;obtain rfl:=Zj.1 eG;have oB:=Zm (Qz).1 q2;refine Zs (x:=.tmp 15) Try.isAgg3 Try.sizeOf3 oB fun pH gG uE=>?_;obtain rfl:=Zj.1 gG;obtain ⟨zD,vB,h⟩:=Gc h;obtain ⟨hi16,he16⟩:=Wr vB;obtain ⟨t5,yB,h⟩:=Gc h;obtain ⟨hi18,he18⟩:=Wr yB;refine Rc (off:=((0 + ((1:Int):Int).toNat * 4) + ((x1).Right:Int).toNat * 1)) (x:=.tmp 19) (Gv.at_ (Gv.comp Ww (Gv.dynC hi16 (Gv.dyn hi18) rfl) rfl) (by first | rfl | exact Nat.add_assoc _ _ _ | simp only [Nat.add_assoc,Nat.zero_add] | omega)).1 ((congrArg (vat _ hi18) he16).trans he18) Try.isAgg3 Try.sizeOf3 b1 fun qH iG vE=>?_;obtain rfl:=Zj.1 iG;refine Qi (g:=g3) (n:=14) [] [0,1,2,3,4,5,6,7,8,9,10,11,12,13] rfl mixed (by kernel_rfl) trivial ?_;refine Gb (Gn p2 0) rfl rfl (Zc Yh rfl (PT.ptr q2)) ?_;refine Te (c:=.int .i64 ((x1).Left)) rfl rfl .plain (fun _ _ h=>h.ch) cG rfl ?_;refine Gb (Gn p1 0) rfl rfl (Zc Uc rfl (OB.ptr b1)) ?_;refine Gb (Gn p1 (0 + ((0:Int):Int).toNat * 4)) rfl rfl (Qs (α:=Vector Int 4) (o1:=0) rfl Try.underlying76 Try.sizeOf75 rfl (OB.ptr b1) rfl lE) ?_;refine Gb (Gn p1 ((0 + ((0:Int):Int).toNat * 4) + ((x1).Left:Int).toNat * 1)) rfl rfl (Qs (α:=Int) (o1:=(0 + ((0:Int):Int).toNat * 4)) rfl Try.underlying75 Try.sizeOf3 rfl (OB.ptr b1) rfl mE) ?_;refine Te (c:=.int .i64 (y9)) rfl rfl .plain (fun _ _ h=>⟨h.ch,fun b hb _=>h.below.block b hb⟩) rE rfl ?_;refine Gb (Gn p2 1) rfl rfl (Zc Yp rfl (PT.ptr q2)) ?_;refine Te (c:=.int .i64 ((x1).Right)) rfl rfl .plain (fun _ _ h=>h.ch) uE rfl ?_;refine Gb (Gn p1 0) rfl rfl (Zc Uc rfl (OB.ptr b1)) ?_;refine Gb (Gn p1 (0 + ((1:Int):Int).toNat * 4)) rfl rfl (Qs (α:=Vector Int 4) (o1:=0) rfl Try.underlying76 Try.sizeOf75 rfl (OB.ptr b1) rfl vB) ?_;refine Gb (Gn p1 ((0 + ((1:Int):Int).toNat * 4) + ((x1).Right:Int).toNat * 1)) rfl rfl (Qs (α:=Int) (o1:=(0 + ((1:Int):Int).toNat * 4)) rfl Try.underlying75 Try.sizeOf3 rfl (OB.ptr b1) rfl yB) ?_;refine Te (c:=.int .i64 (t5)) rfl rfl .plain (fun _ _ h=>⟨h.ch,fun b hb _=>h.below.block b hb⟩) vE rfl ?_;refine Gb (.int .i64 (y9)) rfl rfl (Tf rfl) ?_;refine Gb (.int .i64 (t5)) rfl rfl (Tf rfl) ?_;refine Ul fun zB sH hs=>?_;have hfr:=hfr.ext hs;have rp0:=rp0.ext hs;have rp1:=rp1.ext hs;have b1:=b1.ext hs;have q2:=q2.ext hs;have b3:=b3.ext hs;have q4:=q4.ext hs;have oB:=oB.ext hs;clear hs;refine Zb (Zd (Zq h (fun (s:Gu) e w=>∃ (g:Gh) ,Fr gI wI g w∧e 2=p1∧OB 2002 g w 108 (x0:Gu) p1∧e 3=p2∧PT g.m w (x1:Gf) p2∧e 4=p3∧OB 2004 g w 108 (s:Gu) p3∧e 7=.int .i64 (y9)∧e 8=.int .i64 (t5)) (fun X46 iE xE h=>?_) ?_))
 ·refine Zf (Za (Zn (.int .i64 (y9)) rfl rfl ?_))
  refine Gy (.bool ((y9 == (0:Int)))) rfl rfl rfl rfl ?_;refine Zn (.int .i64 (t5)) rfl rfl ?_;refine Gy (.bool ((t5 == (0:Int)))) rfl rfl rfl rfl ?_;refine Zy (.bool (((y9 == (0:Int)) == (t5 == (0:Int))))) (P_bool Try.underlying4 rfl rfl rfl) rfl ?_;refine Zb (Zd ?_);rcases Zt h with ⟨n9,h⟩ | ⟨n9,h⟩
  ·refine Wi n9 rfl ?_
   refine Zf (Za (Ze .plain rfl (Tr (g:=zB) Try.isAgg108 Try.sizeOf108 rfl b1 fun jG kG=>?_)));refine Ze .plain rfl (Gl (g:=zB) (v:=jG) Try.sizeOf108 rfl b3 rfl kG fun tH uH hs b49 cb=>?_);clear cb;have hfr:=hfr.stp hs;refine Zg (.int .i64 (0)) rfl rfl ?_;refine Zg (.int .i64 (0)) rfl rfl ?_;refine Zb (Zd (Gz (Tq ?_)));obtain rfl:=sinj h;obtain ⟨ad50,cv50,hp50,yE,cr50⟩:=Qn Try.isAgg108 Try.sizeOf108 b49;exact Sp rfl rfl ((show _=p3 from rfl).trans hp50) yE (show _=.int .i64 (0) from rfl) (show _=.int .i64 (0) from rfl) ⟨_,hfr,_,_,_,rfl,cr50,rfl,rfl⟩
  ·refine Wg n9 rfl ?_
   exact Zu (Zd (xE ((⟨(⟨List.toArray [(⟨List.toArray [0,0,0,0],rfl⟩:Vector Int 4),(⟨List.toArray [0,0,0,0],rfl⟩:Vector Int 4)],rfl⟩:Vector (Vector Int 4) 2),⟨0,0⟩⟩:Gu)) _ _ ⟨zB,hfr,rfl,b1,rfl,q2,rfl,b3,rfl,rfl⟩ h))
 ·rintro oD cH xH ⟨lG, hfr, g8, o0, v8, l5, aB, i6, lB, mB⟩ h
  refine Zf (Wa (x:=.tmp 28) (Gv.comp Ks Qx rfl).1 Try.isAgg3 Try.sizeOf3 o0 fun yH mG zE=>?_);obtain rfl:=Zj.1 mG;have l9:=Zm (Qx).1 l5;refine Zs (x:=.tmp 30) Try.isAgg3 Try.sizeOf3 l9 fun zH sG cF=>?_;obtain rfl:=Zj.1 sG;obtain ⟨l8,dF,h⟩:=Gc h;refine Wa (x:=.tmp 34) (Gv.comp Ks Qz rfl).1 Try.isAgg3 Try.sizeOf3 o0 fun aI xG eF=>?_;obtain rfl:=Zj.1 xG;have q62:=Zm (Qz).1 l5;refine Zs (x:=.tmp 36) Try.isAgg3 Try.sizeOf3 q62 fun bI yG rF=>?_;obtain rfl:=Zj.1 yG;obtain ⟨n8,sF,h⟩:=Gc h;refine Qi (g:=lG) (n:=14) [(5,(fun v g w=>v=.int .i64 (l8))),(11,(fun v g w=>v=.int .i64 (n8)))] [0,1,2,3,4,5,6,7,8,9,10,11,12,13] rfl mixed (by kernel_rfl) (⟨fun _=>Qq _,fun _=>Qq _,trivial⟩) ?_;refine Gb (Gn p1 8) rfl rfl (Zc Xg g8 (OB.ptr o0)) ?_;refine Gb (Gn p1 8) rfl rfl (Ki (o1:=8) rfl Yh rfl (OB.ptr o0)) ?_;refine Te (c:=.int .i64 (((x0).at_).Left)) rfl rfl .plain (fun _ _ h=>⟨h.ch,fun b hb _=>h.below.block b hb⟩) zE rfl ?_;refine Gb (Gn p2 0) rfl rfl (Zc Yh v8 (PT.ptr l5)) ?_;refine Te (c:=.int .i64 ((x1).Left)) rfl rfl .plain (fun _ _ h=>h.ch) cF rfl ?_;refine Qw (φ:=fun v g w=>v=.int .i64 (l8)) rfl rfl .plain (fun g w hd=>Zp (g:=g) (vs:=[.int .i64 (((x0).at_).Left),.int .i64 ((x1).Left)]) en106 (.cons rfl (.cons rfl .nil)) (wk106  dF) fun g' w' v hs hr=>⟨g',hs,hr⟩) (fun dI hv=>?_);obtain ⟨_,_,_,rfl⟩:=hv;refine Gb (Gn p1 8) rfl rfl (Zc Xg g8 (OB.ptr o0)) ?_;refine Gb (Gn p1 9) rfl rfl (Ki (o1:=8) rfl Yp rfl (OB.ptr o0)) ?_;refine Te (c:=.int .i64 (((x0).at_).Right)) rfl rfl .plain (fun _ _ h=>⟨h.ch,fun b hb _=>h.below.block b hb⟩) eF rfl ?_;refine Gb (Gn p2 1) rfl rfl (Zc Yp v8 (PT.ptr l5)) ?_;refine Te (c:=.int .i64 ((x1).Right)) rfl rfl .plain (fun _ _ h=>h.ch) rF rfl ?_;refine Qw (φ:=fun v g w=>v=.int .i64 (n8)) rfl rfl .plain (fun g w hd=>Zp (g:=g) (vs:=[.int .i64 (((x0).at_).Right),.int .i64 ((x1).Right)]) en106 (.cons rfl (.cons rfl .nil)) (wk106  sF) fun g' w' v hs hr=>⟨g',hs,hr⟩) (fun iI hv=>?_);obtain ⟨_,_,_,rfl⟩:=hv;refine Gb (.int .i64 ((w64 (l8 + n8)))) rfl rfl (Td rfl rfl rfl) ?_;refine Gb (.int .i64 ((w64 (l8 + n8)))) rfl rfl (Tf rfl) ?_;refine Ul fun jI kI hs=>?_;have hfr:=hfr.ext hs;have o0:=o0.ext hs;have l5:=l5.ext hs;have i6:=i6.ext hs;have l9:=l9.ext hs;have q62:=q62.ext hs;clear hs;refine Zb (Zd (Zf ?_));have cC:=Zm (Qx).1 l5;refine Zs (x:=.tmp 40) Try.isAgg3 Try.sizeOf3 cC fun lI zG tF=>?_;obtain rfl:=Zj.1 zG;have uC:=Zm (Qz).1 l5;refine Zs (x:=.tmp 42) Try.isAgg3 Try.sizeOf3 uC fun mI aH uF=>?_;obtain rfl:=Zj.1 aH;obtain ⟨aE,vC,h⟩:=Gc h;obtain ⟨hi93,he93⟩:=Wr vC;obtain ⟨bG,bD,h⟩:=Gc h;obtain ⟨hi95,he95⟩:=Wr bD;obtain ⟨bE,cD,h⟩:=Gc h;obtain ⟨hi100,he100⟩:=Wr cD;obtain ⟨oE,nB,h⟩:=Gc h;obtain ⟨hi102,he102⟩:=Wr nB;refine Fa (a0:=(x0:Gu)) (a1:=({ x0 with boxes:=(Jq ((x0).boxes) ((0:Int)) (fun b=>(Ku b ((x1).Left) t5))) }:Gu)) o0 (n:=13) [(9,(fun _ g w=>OB 2002 g w 108 ({ x0 with boxes:=(Jq ((x0).boxes) ((0:Int)) (fun b=>(Ku b ((x1).Left) t5))) }:Gu) p1))] [0,1,2,3,4,5,6,7,8,9,10,11,12] rfl mixed (by kernel_rfl) (⟨fun _=>Ld,trivial⟩) ?_;refine Gb (Gn p2 0) rfl rfl (Zc Yh v8 (PT.ptr l5)) ?_;refine Te (c:=.int .i64 ((x1).Left)) rfl rfl .plain (fun _ _ h=>h.1.ch) tF rfl ?_;refine Gb (Gn p2 1) rfl rfl (Zc Yp v8 (PT.ptr l5)) ?_;refine Te (c:=.int .i64 ((x1).Right)) rfl rfl .plain (fun _ _ h=>h.1.ch) uF rfl ?_;refine Gb (.int .i64 (t5)) rfl rfl (Zk mB) ?_;refine Gb (.int .i64 (y9)) rfl rfl (Zk lB) ?_;refine Gb (Gn p1 0) rfl rfl (Zc Uc g8 (OB.ptr o0)) ?_;refine Gb (Gn p1 (0 + ((0:Int):Int).toNat * 4)) rfl rfl (Qs (α:=Vector Int 4) (o1:=0) rfl Try.underlying76 Try.sizeOf75 rfl (OB.ptr o0) rfl vC) ?_;refine Gb (Gn p1 ((0 + ((0:Int):Int).toNat * 4) + ((x1).Left:Int).toNat * 1)) rfl rfl (Qs (α:=Int) (o1:=(0 + ((0:Int):Int).toNat * 4)) rfl Try.underlying75 Try.sizeOf3 rfl (OB.ptr o0) rfl bD) ?_;refine Qw (φ:=fun _ g w=>OB 2002 g w 108 ({ x0 with boxes:=(Jq ((x0).boxes) ((0:Int)) (fun b=>(Ku b ((x1).Left) t5))) }:Gu) p1) rfl rfl .plain (fun g w hd=>Ot (g:=g) (by rfl) (by exact (congrArg (fun y=>{ x0 with boxes:=y }) (vmod_vmod (h:=fun b=>(Ku b ((x1).Left) t5)) fun b=>(vset_vset _ _ _)))) (Gv.at_ (Gv.comp Ww (Gv.dynC hi93 (Gv.dyn hi95) rfl) rfl) (by first | rfl | exact Nat.add_assoc _ _ _ | simp only [Nat.add_assoc,Nat.zero_add] | omega)) Try.sizeOf3 rfl hd.1.2 rfl (Zj.2 rfl)) (fun nI hv=>?_)
  clear hv;refine Gb (Gn p1 0) rfl rfl (Zc Uc g8 (OB.ptr o0)) ?_;refine Gb (Gn p1 (0 + ((1:Int):Int).toNat * 4)) rfl rfl (Qs (α:=Vector Int 4) (o1:=0) rfl Try.underlying76 Try.sizeOf75 rfl (OB.ptr o0) rfl cD) ?_;refine Gb (Gn p1 ((0 + ((1:Int):Int).toNat * 4) + ((x1).Right:Int).toNat * 1)) rfl rfl (Qs (α:=Int) (o1:=(0 + ((1:Int):Int).toNat * 4)) rfl Try.underlying75 Try.sizeOf3 rfl (OB.ptr o0) rfl nB) ?_;refine Jr fun vF gH hall=>?_;have hs:=hall.1.1;have hfr:=hfr.stp hs;have l5:=l5.stp hs;have i6:=i6.stp hs rfl;have l9:=l9.stp hs;have q62:=q62.stp hs;have cC:=cC.stp hs;have uC:=uC.stp hs;have b104:=(Gs (A:=fun g w=>OB 2002 g w 108 ({ x0 with boxes:=(Jq ((x0).boxes) ((0:Int)) (fun b=>(Ku b ((x1).Left) t5))) }:Gu) p1) 9 rfl hall);clear hs hall;refine Ze .plain rfl (Wt (g:=vF) (Gv.at_ (Gv.comp Ww (Gv.dynC hi100 (Gv.dyn hi102) rfl) rfl) (by first | rfl | exact Nat.add_assoc _ _ _ | simp only [Nat.add_assoc,Nat.zero_add] | omega)) Try.sizeOf3 rfl b104 rfl (Zj.2 rfl) fun lD jH hs b135 rst hos=>?_);clear rst hos;have hfr:=hfr.stp hs;have l5:=l5.stp hs;have i6:=i6.stp hs rfl;refine Zb (Zd (Zf (Za (Ze .plain rfl (Gx (g:=lD) Try.isAgg83 Try.sizeOf83 v8 l5 fun kH xF=>?_)))));refine Zy (Gn p1 8) (Zc Xg g8 (OB.ptr b135)) rfl ?_;refine Ze .plain rfl (Wt (g:=lD) Ks Try.sizeOf83 rfl b135 rfl xF fun nD lH hs b138 rst hos=>?_);clear rst hos;have hfr:=hfr.stp hs;have i6:=i6.stp hs rfl;refine Zb (Zd (Zf (Za (Ze .plain rfl (Tr (g:=nD) Try.isAgg108 Try.sizeOf108 g8 b138 fun yF aG=>?_)))));refine Zo lB rfl ?_;refine Zo mB rfl ?_;refine Gy (.int .i64 ((w64 (y9 + t5)))) rfl rfl rfl rfl ?_;refine Zn (.int .i64 ((w64 (l8 + n8)))) rfl rfl ?_;refine Ze .plain rfl (Gl (g:=nD) (v:=yF) Try.sizeOf108 aB i6 rfl aG fun mH nH hs b140 cb=>?_);clear cb;have hfr:=hfr.stp hs;refine Zg (.int .i64 ((w64 (y9 + t5)))) rfl rfl ?_;refine Zg (.int .i64 ((w64 (l8 + n8)))) rfl rfl ?_;refine Zb (Zd (Gz ?_));obtain rfl:=sinj h;obtain ⟨ad141,cv141,hp141,yD,cr141⟩:=Qn Try.isAgg108 Try.sizeOf108 b140;exact Sp rfl rfl ((show _=p3 from aB).trans hp141) yD (show _=.int .i64 ((w64 (y9 + t5))) from rfl) (show _=.int .i64 ((w64 (l8 + n8))) from rfl) ⟨_,hfr,_,_,_,rfl,cr141,rfl,rfl⟩
def f98 (z0:Ptr Th) (z1:Gu) (σ:Type) (cons:Di σ (Gf × Tc)) (s0:σ):Option σ:=
 lp (σ:=σ × Int) (fun k5 (zD,l5)=>
  bif (decide (l5 < ((z0).x).left)) then
   jn (σ:=σ) (fun nB=>
    k5 (nB,(w64 (l5 + (1:Int))))
    ) fun mH=>
   lp (σ:=σ × Int) (fun nH (l9,t5)=>
    bif (decide (t5 < ((z0).x).right)) then
     jn (σ:=σ) (fun oB=>
      nH (oB,(w64 (t5 + (1:Int))))
      ) fun oH=>
     (f97 z1 ((⟨l5,t5⟩:Gf))).bind fun o0=>
     Option.bind (α:=σ × Bool) (
      bif (decide (o0.2.1 > (0 : Int))) then
       (cons l9 ((⟨l5,t5⟩:Gf),(⟨o0.1,(w64 (o0.2.1 - (1:Int))),o0.2.2⟩:Tc))).bind fun (aB,iE)=>
       some (iE,(!aB))
      else
       some (l9,false)
      ) fun (v8,n8)=>
     bif n8 then
      some v8
     else
      oH (v8)
    else
     mH (l9)
    ) big (zD,(0:Int))
  else
   some zD
  ) big (s0,(0:Int))
theorem en98:Enters Try.prog 98:=enters_of Try.func98 (by kernel_rfl) rfl
theorem wk98 {σ:Type} {cons:Di σ (Gf × Tc)} {s0 r:σ} {gI:Gh} {wI:World} {z0:Ptr Th} {z1:Gu} {pf0:Value} (qf0:PT gI.m wI z0 pf0) {pf1:Value} (qf1:PT gI.m wI z1 pf1) (h:f98 z0 z1 σ cons s0=some r):IterC Try.prog (RA2 (α:=Gf) (β:=Tc)) 98 #[] #[pf0,pf1] gI wI cons s0 r:=by
 unfold f98 at h;refine iter_of_E Try.func98 rfl (Nat.le_of_ble_eq_true rfl) fun l B J g0 hm hAb hRo hfr=>?_;have qf0:PT g0.m wI z0 pf0:=hm ▸ qf0;have qf1:PT g0.m wI z1 pf1:=hm ▸ qf1;show E _ 49 none _ _ (Vp #[.func (.yield l) #[] #[],pf0,pf1]) _ _;refine Zf (Za (Ze .plain rfl (Gx (g:=g0) Try.isAgg113 Try.sizeOf113 rfl qf0 fun v1 r1=>?_)));replace r1:=RV_ptr.1 r1;obtain ⟨pb2,po2,pe2⟩:=PT.ptr r1;refine Zy v1 (Fi rfl pe2) rfl ?_;refine Zy (Gn v1 0) (Zc at_154_0 rfl (PT.ptr r1)) rfl ?_;have q3:=Zm (Lg).1 r1;refine Ze .plain rfl (Gx (g:=g0) Try.isAgg3 Try.sizeOf3 rfl q3 fun v4 r4=>?_);obtain rfl:=Zj.1 r4;refine Zn (.int .i64 (0)) rfl rfl ?_;refine Zb (Zd (Zr ?_));refine Jv h (fun (s:σ × Int) e w=>∃ (g:Gh) ,FrY gI wI B J (s.1) g w∧e 0=(.func (.yield l) #[] #[])∧e 1=pf0∧PT g.m w (z0:Ptr Th) pf0∧e 2=pf1∧PT g.m w (z1:Gu) pf1∧e 13=.int .i64 (((z0).x).left)∧e 14=.int .i64 (s.2)) ⟨g0,hfr,rfl,rfl,qf0,rfl,qf1,rfl,rfl⟩ (fun X5 k5 hk5=>?_);rintro ⟨zD,l5⟩ qK w6 ⟨g6,hfr,sH,rF,sF,tH,uH,lE,cD⟩ h;refine Zf (Za (Gy (.bool ((decide (l5 < ((z0).x).left)))) cD lE rfl rfl ?_));refine Zb (Zd (Zf ?_));rcases Zt h with ⟨tF,h⟩ | ⟨tF,h⟩
 ·refine Wi tF rfl ?_
  refine Zu (Zd (Zq h (fun (s:σ) e w=>∃ (g:Gh) ,FrY gI wI B J (s) g w∧e 0=(.func (.yield l) #[] #[])∧e 1=pf0∧PT g.m w (z0:Ptr Th) pf0∧e 2=pf1∧PT g.m w (z1:Gu) pf1∧e 13=.int .i64 (((z0).x).left)∧e 14=.int .i64 (l5)) (fun X63 mH xH h=>?_) ?_))
  ·refine Zr ?_
   refine Zf (Za (Zo cD rfl ?_));refine Zg (.int .i64 (l5)) rfl rfl ?_;refine Zb (Zd (Zf (Za (Ze .plain rfl (Gx (g:=g6) Try.isAgg113 Try.sizeOf113 rF sF fun pH yD=>?_)))));replace yD:=RV_ptr.1 yD;obtain ⟨pb66,po66,pe66⟩:=PT.ptr yD;refine Zy pH (Fi rfl pe66) rfl ?_;refine Zy (Gn pH 1) (Zc at_154_1 rfl (PT.ptr yD)) rfl ?_;have jJ:=Zm (Fp).1 yD;refine Ze .plain rfl (Gx (g:=g6) Try.isAgg3 Try.sizeOf3 rfl jJ fun sK kJ=>?_);obtain rfl:=Zj.1 kJ;refine Zn (.int .i64 (0)) rfl rfl ?_;refine Zb (Zd (Zr ?_));refine Jv h (fun (s:σ × Int) e w=>∃ (g:Gh) ,FrY gI wI B J (s.1) g w∧e 0=(.func (.yield l) #[] #[])∧e 1=pf0∧PT g.m w (z0:Ptr Th) pf0∧e 2=pf1∧PT g.m w (z1:Gu) pf1∧e 4=.int .i64 (l5)∧e 13=.int .i64 (((z0).x).left)∧e 14=.int .i64 (l5)∧e 20=.int .i64 (((z0).x).right)∧e 21=.int .i64 (s.2)) ⟨g6,hfr,sH,rF,sF,tH,uH,rfl,lE,cD,rfl,rfl⟩ (fun X69 nH yH=>?_);rintro ⟨l9,t5⟩ zJ lJ ⟨uF,hfr,lB,lD,g8,mB,i6,nD,vB,yB,zB,n9⟩ h;refine Zf (Za (Gy (.bool ((decide (t5 < ((z0).x).right)))) n9 zB rfl rfl ?_));refine Zb (Zd (Zf ?_));rcases Zt h with ⟨aE,h⟩ | ⟨aE,h⟩
   ·refine Wi aE rfl ?_
    refine Zu (Zd (Zq h (fun (s:σ) e w=>∃ (g:Gh) ,FrY gI wI B J (s) g w∧e 0=(.func (.yield l) #[] #[])∧e 1=pf0∧PT g.m w (z0:Ptr Th) pf0∧e 2=pf1∧PT g.m w (z1:Gu) pf1∧e 4=.int .i64 (l5)∧e 13=.int .i64 (((z0).x).left)∧e 14=.int .i64 (l5)∧e 20=.int .i64 (((z0).x).right)∧e 21=.int .i64 (t5)) (fun X95 oH zH h=>?_) ?_))
    ·refine Zr ?_
     refine Zf (Za (Zo n9 rfl ?_));refine Zg (.int .i64 (t5)) rfl rfl ?_;refine Zb (Zd (Zf (Za (Zo nD rfl ?_))));refine Zn (.int .i64 (t5)) rfl rfl ?_;have mE:RV uF.m lJ (⟨l5,t5⟩:Gf) (.agg (Qj [[.int .i64 0],[.int .i64 0]] [(0,.int .i64 (l5)),(1,.int .i64 (t5))]).flatten.toArray):=Qv rfl (Qc (rfl) (Kd (rfl)));generalize aI:(Value.agg (Qj [[.int .i64 0],[.int .i64 0]] [(0,.int .i64 (l5)),(1,.int .i64 (t5))]).flatten.toArray)=qH at mE;refine Zy qH (aI ▸ Kr (vs:=[(0,.int .i64 (l5)),(1,.int .i64 (t5))]) [[.int .i64 0],[.int .i64 0]] Io rfl rfl (.cons rfl (.cons rfl .nil)) ⟨⟨_,rfl,rfl⟩,⟨⟨_,rfl,rfl⟩,trivial⟩⟩) rfl ?_;refine Ze .plain rfl (Gq (g:=uF) 2006 (⟨0,0⟩:Gf) Try.zeroValue83 (fun m w=>⟨_,(Gi Zx Zx),rfl⟩) fun mJ tK uK hs b97 cb=>?_);have hfr:=hfr.stp_ hAb hs rfl;have g8:=g8.stp hs;have i6:=i6.stp hs;have mE:=mE.stp hs;clear cb;refine Ze .plain rfl (Gl (g:=mJ) (v:=qH) Try.sizeOf83 rfl b97 rfl mE fun vF vK hs b98 cb=>?_);clear cb;have hfr:=hfr.stp_ hAb hs rfl;have g8:=g8.stp hs;have i6:=i6.stp hs;refine Zb (Zd (Zf (Za (Ze .plain rfl (Gx (g:=vF) Try.isAgg108 Try.sizeOf108 mB i6 fun nJ oJ=>?_)))));refine Ze .plain rfl (Tr (g:=vF) Try.isAgg83 Try.sizeOf83 rfl b98 fun bI dI=>?_);obtain ⟨o0,jH,h⟩:=Gc h;refine Ze .plain rfl (Zp (g:=vF) (vs:=[nJ,bI]) en97 (.cons rfl (.cons rfl .nil)) (wk97 oJ dI jH) fun iI rJ aK hs hr=>?_);have hfr:=hfr.ext_ hAb hs;have g8:=g8.ext hs;have i6:=i6.ext hs;have b98:=b98.ext hs;obtain ⟨cC,pJ,qJ,rfl,uC,rfl,rfl⟩:=hr;refine Zn (.tuple #[cC,.int .i64 (o0.2.1),.int .i64 (o0.2.2)]) rfl rfl ?_;refine Zy cC (Zi rfl rfl) rfl ?_;refine Zy (.int .i64 (o0.2.1)) (Zi rfl rfl) rfl ?_;refine Zy (.int .i64 (o0.2.2)) (Zi rfl rfl) rfl ?_;refine Ze .plain rfl (Gq (g:=iI) 2007 (⟨(⟨List.toArray [(⟨List.toArray [0,0,0,0],rfl⟩:Vector Int 4),(⟨List.toArray [0,0,0,0],rfl⟩:Vector Int 4)],rfl⟩:Vector (Vector Int 4) 2),⟨0,0⟩⟩:Gu) Try.zeroValue108 (fun m w=>⟨_,(Gi (Gp (Zw (Gp (Zw Zx (Zw Zx (Zw Zx (Zw Zx Gk)))) rfl) (Zw (Gp (Zw Zx (Zw Zx (Zw Zx (Zw Zx Gk)))) rfl) Gk)) rfl) (Gi Zx Zx)),rfl⟩) fun jI bK cK hs b103 cb=>?_);have hfr:=hfr.stp_ hAb hs rfl;have g8:=g8.stp hs;have i6:=i6.stp hs;have b98:=b98.stp hs rfl;have uC:=uC.stp hs;clear cb;refine Ze .plain rfl (Gl (g:=jI) (v:=cC) Try.sizeOf108 rfl b103 rfl uC fun vC dK hs b104 cb=>?_);clear cb;have hfr:=hfr.stp_ hAb hs rfl;have g8:=g8.stp hs;have i6:=i6.stp hs;have b98:=b98.stp hs rfl;refine Zg (.int .i64 (o0.2.1)) rfl rfl ?_;refine Zg (.int .i64 (o0.2.2)) rfl rfl ?_;refine Zb (Zd ?_);obtain ⟨⟨v8,n8⟩,hx,h⟩:=Gc h;refine Tm (fun e w=>∃ (g:Gh) ,FrY gI wI B J (v8) g w∧e 0=(.func (.yield l) #[] #[])∧e 1=pf0∧PT g.m w (z0:Ptr Th) pf0∧e 2=pf1∧PT g.m w (z1:Gu) pf1∧e 4=.int .i64 (l5)∧e 13=.int .i64 (((z0).x).left)∧e 14=.int .i64 (l5)∧e 20=.int .i64 (((z0).x).right)∧e 21=.int .i64 (t5)∧e 46=.bool (n8)) (fun Q' hQ=>?_) (fun sJ lK hR=>?_)
     ·replace h := hx
      clear hx;refine Za (Zn (.int .i64 (o0.2.1)) rfl rfl ?_);refine Gy (.bool ((decide (o0.2.1 > (0:Int))))) rfl rfl rfl rfl ?_;refine Zn (.bool ((decide (o0.2.1 > (0:Int))))) rfl rfl ?_;rcases Zt h with ⟨l8,h⟩ | ⟨l8,h⟩
      ·refine Zz ((.func (.yield l) #[] #[])) (Zk lB) rfl rfl l8 rfl ?_
       refine Ze (.yes2 rfl rfl l8) rfl (Tr (g:=vC) Try.isAgg83 Try.sizeOf83 rfl b98 fun mK kI=>?_);refine Ze (.yes2 rfl rfl l8) rfl (Tr (g:=vC) Try.isAgg108 Try.sizeOf108 rfl b104 fun bE xF=>?_);refine Zz (.int .i64 (o0.2.1)) (Zk rfl) rfl rfl l8 rfl ?_;refine Zz (.int .i64 ((w64 (o0.2.1 - (1:Int))))) (Td rfl rfl rfl) rfl rfl l8 rfl ?_;refine Zz (.int .i64 (o0.2.2)) (Zk rfl) rfl rfl l8 rfl ?_;have yF:RV vC.m _ (⟨o0.1,(w64 (o0.2.1 - (1:Int))),o0.2.2⟩:Tc) (.agg (Qj [[.int .i64 0,.int .i64 0,.int .i64 0,.int .i64 0,.int .i64 0,.int .i64 0,.int .i64 0,.int .i64 0,.int .i64 0,.int .i64 0],[.int .i64 0],[.int .i64 0]] [(0,bE),(1,.int .i64 ((w64 (o0.2.1 - (1:Int))))),(2,.int .i64 (o0.2.2))]).flatten.toArray):=Qv rfl (Qc (RV.cells xF) (Qc (rfl) (Kd (rfl))));generalize kH:(Value.agg (Qj [[.int .i64 0,.int .i64 0,.int .i64 0,.int .i64 0,.int .i64 0,.int .i64 0,.int .i64 0,.int .i64 0,.int .i64 0,.int .i64 0],[.int .i64 0],[.int .i64 0]] [(0,bE),(1,.int .i64 ((w64 (o0.2.1 - (1:Int))))),(2,.int .i64 (o0.2.2))]).flatten.toArray)=lI at yF;refine Zz lI (kH ▸ Kr (vs:=[(0,bE),(1,.int .i64 ((w64 (o0.2.1 - (1:Int))))),(2,.int .i64 (o0.2.2))]) [[.int .i64 0,.int .i64 0,.int .i64 0,.int .i64 0,.int .i64 0,.int .i64 0,.int .i64 0,.int .i64 0,.int .i64 0,.int .i64 0],[.int .i64 0],[.int .i64 0]] lay_144 rfl rfl (.cons rfl (.cons rfl (.cons rfl .nil))) ⟨⟨_,rfl,Qe xF⟩,⟨⟨_,rfl,rfl⟩,⟨⟨_,rfl,rfl⟩,trivial⟩⟩⟩) rfl rfl l8 rfl ?_;obtain ⟨mI,lH,h⟩:=Gc h;obtain ⟨aB,iE⟩:=mI;refine Ze (.yes2 rfl rfl l8) rfl (D_yield (g:=vC) (x:=((⟨l5,t5⟩:Gf),(⟨o0.1,(w64 (o0.2.1 - (1:Int))),o0.2.2⟩:Tc))) rfl (.cons rfl (.cons rfl .nil)) hRo hfr lH ⟨_,_,rfl,kI,yF⟩ fun nI nK hs hfrY=>?_);have g8:=g8.stp hs;have i6:=i6.stp hs;have hfr:=hfrY;clear hfrY;refine Zz (.bool (!aB)) (Uf rfl) rfl rfl l8 rfl ?_;refine Zy (.bool (!aB)) (Zl (b:=(decide (o0.2.1 > (0:Int)))) rfl (Qt l8 rfl)) rfl ?_;refine Zb ?_;obtain ⟨rfl,rfl⟩:=Hl h;exact hQ _ _ ⟨nI,hfr,lB,lD,g8,mB,i6,nD,vB,yB,zB,n9,rfl⟩
      ·refine Ga rfl rfl l8 rfl rfl ?_
       iterate 8 refine Ga rfl rfl l8 rfl rfl ?_
       refine Zy (.bool false) (Zl (b:=(decide (o0.2.1 > (0:Int)))) rfl (Qk l8 rfl)) rfl ?_;refine Zb ?_;obtain ⟨rfl,rfl⟩:=Hl h;exact hQ _ _ ⟨vC,hfr,lB,lD,g8,mB,i6,nD,vB,yB,zB,n9,rfl⟩
     ·clear hx
      obtain ⟨pI,hfr,aG,bG,cG,eG,gG,iG,oE,rE,uE,vE,bD⟩:=hR;rcases Zt h with ⟨oD,h⟩ | ⟨oD,h⟩
      ·refine Ts (Eq.trans (show ev _ _ = .bool (n8) from bD) (congrArg Value.bool oD)) ?_
       refine Gz (Wf ?_);refine Tq ?_;refine Tq ?_;refine Wf ?_;refine Wf ?_;refine Tq ?_;refine Tq ?_;refine Wf ?_;obtain rfl:=sinj h;exact end0 rfl rfl (FrY.done hfr)
      ·refine Tj (Eq.trans (show ev _ _ = .bool (n8) from bD) (congrArg Value.bool oD)) ?_
       exact Zu (We (Zd (zH (v8) _ _ ⟨pI,hfr,aG,bG,cG,eG,gG,iG,oE,rE,uE,vE⟩ h)))
    ·rintro oB vJ oK ⟨qI, hfr, jG, kG, lG, mG, sG, xG, xE, yE, zE, cF⟩ h
     refine Za (Gy (.int .i64 ((w64 (t5 + (1:Int))))) cF rfl rfl rfl ?_);refine Zn (.int .i64 ((w64 (t5 + (1:Int))))) rfl rfl ?_;exact Zb (Zd (yH (oB,(w64 (t5 + (1:Int)))) _ _ ⟨qI,hfr,jG,kG,lG,mG,sG,xG,xE,yE,zE,rfl⟩ h))
   ·refine Wg aE rfl ?_
    refine Wb ?_;refine Tx ?_;refine Tx ?_;refine Qh ?_;exact We (Zd (xH (l9) _ _ ⟨uF,hfr,lB,lD,g8,mB,i6,vB,yB⟩ h))
  ·rintro nB xJ pK ⟨sI, hfr, yG, zG, aH, cH, gH, dF, eF⟩ h
   refine Za (Gy (.int .i64 ((w64 (l5 + (1:Int))))) eF rfl rfl rfl ?_);refine Zn (.int .i64 ((w64 (l5 + (1:Int))))) rfl rfl ?_;exact Zb (Zd (hk5 (nB,(w64 (l5 + (1:Int)))) _ _ ⟨sI,hfr,yG,zG,aH,cH,gH,dF,rfl⟩ h))
 ·refine Wg tF rfl ?_
  refine Wb ?_;refine Tx ?_;refine Tx ?_;refine Qh ?_;obtain rfl:=sinj h;exact end0n rfl rfl (FrY.done hfr)
def f52 (x0:List Int):Option (Bool):=
 (f87 ((0:Int)) ((9:Int)) x0).bind fun y2=>
 some (y2)
theorem en52:Enters Try.prog 52:=enters_of Try.func52 (by kernel_rfl) rfl
theorem wk52 {gI:Gh} {wI:World} {x0:List Int} {up0:Value} (rp0:RV gI.m wI x0 up0) {r:Bool} (h:f52 x0=some r):Fn Try.prog 52 #[up0] gI wI (fun _ _ v=>v=.bool (r)):=by
 unfold f52 at h;refine Tk Try.func52 rfl (Nat.le_of_ble_eq_true rfl) fun g0 hm hfr=>?_;have rp0:RV g0.m wI x0 up0:=hm ▸ rp0;show E _ 5 none _ _ _ _ _;refine Zf (Za (Zg (.bool false) rfl rfl ?_));refine Zb (Zd (Zf (Za (Zn up0 rfl rfl ?_))));obtain ⟨y2,hy2,h⟩:=Gc h;refine Ze .plain rfl (Zp (g:=g0) (vs:=[.int .i64 (0),.int .i64 (9),up0]) en87 (.cons rfl (.cons rfl (.cons rfl .nil))) (wk87 rp0 hy2) fun g1 w1_ v1 hs hr=>?_);have hfr:=hfr.ext hs;subst hr;refine Zg (.bool (y2)) rfl rfl ?_;refine Zb (Zd (Gz ?_));obtain rfl:=sinj h;exact Kb rfl rfl (show _=.bool (y2) from rfl) ⟨_,hfr,rfl⟩
end Go.Proofs.Ytmpjooneiaiffaa
