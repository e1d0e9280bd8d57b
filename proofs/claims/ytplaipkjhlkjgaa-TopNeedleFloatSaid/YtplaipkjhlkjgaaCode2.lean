import Derived.Test.YtplaipkjhlkjgaaCode1
set_option maxRecDepth 8000
set_option maxHeartbeats 4000000
namespace Go.Proofs.Ytplaipkjhlkjgaa
open Go.RowKit
def f22 (x0:Int) (x1:Int) (x2:List Int):Option (Bool):=
 (f39 x2 ((fun a0=>f40 a0 x0 x1))).bind fun y4=>
 some ((!y4))
theorem en22:Enters Try.prog 22:=enters_of Try.func22 (by kernel_rfl) rfl
theorem wk22 {gI:Gh} {wI:World} {x0:Int} {x1:Int} {x2:List Int} {up2:Value} (rp2:RV gI.m wI x2 up2) {r:Bool} (h:f22 x0 x1 x2=some r):Fn Try.prog 22 #[.int .i64 (x0),.int .i64 (x1),up2] gI wI (fun _ _ v=>v=.bool (r)):=by
 unfold f22 at h;refine Gz Try.func22 rfl (Nat.le_of_ble_eq_true rfl) fun g0 hm hfr=>?_;have rp2:RV g0.m wI x2 up2:=hm ▸ rp2;show E _ 11 none _ _ _ _ _;refine Zf (Za (Ze .plain rfl (Tx (g:=g0) rfl (Zj.2 rfl) fun g1 w1 p1 hs q1=>?_)));have hfr:=hfr.ext hs;have rp2:=rp2.ext hs;refine Ze .plain rfl (Tx (g:=g1) rfl (Zj.2 rfl) fun g2 w2 p2 hs q2=>?_);have hfr:=hfr.ext hs;have rp2:=rp2.ext hs;have q1:=q1.ext hs;refine Zg (.bool false) rfl rfl ?_;refine Zb (Zd (Zf (Za (Zn up2 rfl rfl ?_))));refine Zz ((.func (.func 40) #[] #[p1,p2])) (Wh (Bl (show ev _ _=p1 from rfl) (show ev _ _=p2 from rfl))) rfl ?_;obtain ⟨y4,o0,h⟩:=Gd h;refine Ze .plain rfl (Zp (g:=g2) (vs:=[up2,(.func (.func 40) #[] #[p1,p2])]) en39 (.cons rfl (.cons rfl .nil)) (wk39 rp2 ⟨40,#[],#[p1,p2],rfl,en40,fun g' w' hch a0 b0 r hu0 hr=>by obtain rfl:=Zj.1 hu0; exact Fn.mono (wk40  (q1.ch hch) (q2.ch hch) hr) fun _ _ _ h=>Wc.2 h⟩ o0) fun g3 w3_ v3 hs hr=>?_);have hfr:=hfr.ext hs;subst hr;refine Zz (.bool (!y4)) (Kh rfl) rfl ?_;refine Zg (.bool (!y4)) rfl rfl ?_;refine Zb (Zd (Gq ?_));obtain rfl:=sinj h;exact Qq rfl rfl (show _=.bool (!y4) from rfl) ⟨_,hfr,rfl⟩
def f24 (x0:TieHarness):Option (Int):=
 jn (σ:=Unit) (fun _=>
  some ((0:Int))
  ) fun v8=>
 (f45 ((1:Int)) ((24:Int)) (([(x0).Hooks]:List Int))).bind fun l8=>
 bif (!l8) then
  some ((2:Int))
 else
  bif (decide ((((x0).Warps).length : Int) > (96 : Int))) then
   some ((5:Int))
  else
   bif ((((x0).Warps).length : Int) == (0 : Int)) then
    some ((7:Int))
   else
    (f45 ((0:Int)) ((w64 ((x0).Hooks - (1:Int)))) ((x0).Warps)).bind fun n8=>
    bif (!n8) then
     some ((2:Int))
    else
     v8 ()
theorem en24:Enters Try.prog 24:=enters_of Try.func24 (by kernel_rfl) rfl
theorem wk24 {gI:Gh} {wI:World} {x0:TieHarness} {up0:Value} (rp0:RV gI.m wI x0 up0) {r:Int} (h:f24 x0=some r):Fn Try.prog 24 #[up0] gI wI (fun _ _ v=>v=.int .i64 (r)):=by
 unfold f24 at h;refine Gz Try.func24 rfl (Nat.le_of_ble_eq_true rfl) fun g0 hm hfr=>?_;have rp0:RV g0.m wI x0 up0:=hm ▸ rp0;show E _ 27 none _ _ _ _ _;refine Zf (Za (Ze .plain rfl (Tx (g:=g0) rfl rp0 fun g1 w1 p1 hs q1=>?_)));have hfr:=hfr.ext hs;refine Zg (.int .i64 (0)) rfl rfl ?_;refine Zb (Zd (Zq h (fun (s:Unit) e w=>∃ (g:Gh) ,Fr gI wI g w) (fun X21 v8 l9 h=>?_) ?_))
 ·refine Zr ?_
  refine Zf (Za (Zz (Gk p1 0) (Zc Dj rfl (PT.ptr q1)) rfl ?_));have lB:=Zm (Wo).1 q1;refine Ze .plain rfl (Gj (g:=g1) Try.isAgg3 Try.sizeOf3 rfl lB fun bE mB=>?_);obtain rfl:=Zj.1 mB;refine Ze .plain rfl (Gl (g:=g1) 3006 (xs:=([(x0).Hooks]:List Int)) (vs:=[.int .i64 ((x0).Hooks)]) Try.underlying26 Try.sizeOf3 Try.zeroValue3 rfl rfl (.cons rfl .nil) (RVs.cons (Zj.2 rfl) RVs.nil) rfl rfl fun nB iE oB hs o24 vB hxt hfl=>?_);have hfr:=hfr.stp hs;have q1:=q1.stp hs;obtain ⟨l8,n9,h⟩:=Gd h;refine Ze .plain rfl (Zp (g:=nB) (vs:=[.int .i64 (1),.int .i64 (24),oB]) en45 (.cons rfl (.cons rfl (.cons rfl .nil))) (wk45 vB n9) fun o0 yD lE hs hr=>?_);have hfr:=hfr.ext hs;have q1:=q1.ext hs;subst hr;refine Zz (.bool (!l8)) (Kh rfl) rfl ?_;refine Zg (.bool (!l8)) rfl rfl ?_;refine Zb (Zd ?_);rcases Zt h with ⟨l5,h⟩ | ⟨l5,h⟩
  ·refine Tv l5 rfl ?_
   refine Zf (Za (Zg (.int .i64 (2)) rfl rfl ?_));refine Zb (Zd (Gq (Qh ?_)));refine Tc ?_;obtain rfl:=sinj h;exact Qq rfl rfl (show _=.int .i64 (2) from rfl) ⟨_,hfr,rfl⟩
  ·refine Tu l5 rfl ?_
   refine Zf (Za (Zz (Gk p1 1) (Zc Kx rfl (PT.ptr q1)) rfl ?_));have yB:=Zm (Tn).1 q1;refine Ze .plain rfl (Gj (g:=o0) Try.isAgg26 Try.sizeOf26 rfl yB fun mE zB=>?_);refine Zz (.int .i64 (((x0).Warps).length:Int)) (Qv Try.underlying26 rfl zB) rfl ?_;refine Zz (.bool ((decide ((((x0).Warps).length:Int) > (96:Int))))) (Te rfl rfl rfl) rfl ?_;refine Zz (.bool ((decide ((((x0).Warps).length:Int) > (96:Int))))) (Wd rfl) rfl ?_;refine Zb (Zd ?_);rcases Zt h with ⟨t5,h⟩ | ⟨t5,h⟩
   ·refine Tv t5 rfl ?_
    refine Zf (Za (Zg (.int .i64 (5)) rfl rfl ?_));refine Zb (Zd (Gq (Qh ?_)));refine Tc ?_;obtain rfl:=sinj h;exact Qq rfl rfl (show _=.int .i64 (5) from rfl) ⟨_,hfr,rfl⟩
   ·refine Tu t5 rfl ?_
    refine Zf (Za (Zz (Gk p1 1) (Zc Kx rfl (PT.ptr q1)) rfl ?_));have cC:=Zm (Tn).1 q1;refine Ze .plain rfl (Gj (g:=o0) Try.isAgg26 Try.sizeOf26 rfl cC fun oE uC=>?_);refine Zz (.int .i64 (((x0).Warps).length:Int)) (Qv Try.underlying26 rfl uC) rfl ?_;refine Gp (.bool (((((x0).Warps).length:Int) == (0:Int)))) rfl rfl rfl rfl ?_;refine Zg (.bool (((((x0).Warps).length:Int) == (0:Int)))) rfl rfl ?_;refine Zb (Zd ?_);rcases Zt h with ⟨i6,h⟩ | ⟨i6,h⟩
    ·refine Tv i6 rfl ?_
     refine Zf (Za (Zg (.int .i64 (7)) rfl rfl ?_));refine Zb (Zd (Gq (Qh ?_)));refine Tc ?_;obtain rfl:=sinj h;exact Qq rfl rfl (show _=.int .i64 (7) from rfl) ⟨_,hfr,rfl⟩
    ·refine Tu i6 rfl ?_
     refine Zf (Za (Zz (Gk p1 0) (Zc Dj rfl (PT.ptr q1)) rfl ?_));have vC:=Zm (Wo).1 q1;refine Ze .plain rfl (Gj (g:=o0) Try.isAgg3 Try.sizeOf3 rfl vC fun rE bD=>?_);obtain rfl:=Zj.1 bD;refine Gp (.int .i64 ((w64 ((x0).Hooks - (1:Int))))) rfl rfl rfl rfl ?_;refine Zz (Gk p1 1) (Zc Kx rfl (PT.ptr q1)) rfl ?_;have cD:=Zm (Tn).1 q1;refine Ze .plain rfl (Gj (g:=o0) Try.isAgg26 Try.sizeOf26 rfl cD fun lD nD=>?_);obtain ⟨n8,aB,h⟩:=Gd h;refine Ze .plain rfl (Zp (g:=o0) (vs:=[.int .i64 (0),.int .i64 ((w64 ((x0).Hooks - (1:Int)))),lD]) en45 (.cons rfl (.cons rfl (.cons rfl .nil))) (wk45 nD aB) fun oD zD uE hs hr=>?_);have hfr:=hfr.ext hs;subst hr;refine Zz (.bool (!n8)) (Kh rfl) rfl ?_;refine Zg (.bool (!n8)) rfl rfl ?_;refine Zb (Zd ?_);rcases Zt h with ⟨g8,h⟩ | ⟨g8,h⟩
     ·refine Tv g8 rfl ?_
      refine Zf (Za (Zg (.int .i64 (2)) rfl rfl ?_));refine Zb (Zd (Gq (Qh ?_)));refine Tc ?_;obtain rfl:=sinj h;exact Qq rfl rfl (show _=.int .i64 (2) from rfl) ⟨_,hfr,rfl⟩
     ·refine Tu g8 rfl ?_
      exact Zu (To (Zd (l9 () _ _ ⟨oD,hfr⟩ h)))
 ·rintro _ aE vE ⟨xE, hfr⟩ h
  refine Zf (Za (Zg (.int .i64 (0)) rfl rfl ?_));refine Zb (Zd (Gq ?_));obtain rfl:=sinj h;exact Qq rfl rfl (show _=.int .i64 (0) from rfl) ⟨_,hfr,rfl⟩
def f32 (x0:Int) (x1:Int) (x2:List Int):Option (Bool):=
 (f39 x2 ((fun a0=>f62 a0 x0 x1))).bind fun y4=>
 some ((!y4))
theorem en32:Enters Try.prog 32:=enters_of Try.func32 (by kernel_rfl) rfl
theorem wk32 {gI:Gh} {wI:World} {x0:Int} {x1:Int} {x2:List Int} {up2:Value} (rp2:RV gI.m wI x2 up2) {r:Bool} (h:f32 x0 x1 x2=some r):Fn Try.prog 32 #[.int .i64 (x0),.int .i64 (x1),up2] gI wI (fun _ _ v=>v=.bool (r)):=by
 unfold f32 at h;refine Gz Try.func32 rfl (Nat.le_of_ble_eq_true rfl) fun g0 hm hfr=>?_;have rp2:RV g0.m wI x2 up2:=hm ▸ rp2;show E _ 11 none _ _ _ _ _;refine Zf (Za (Ze .plain rfl (Tx (g:=g0) rfl (Zj.2 rfl) fun g1 w1 p1 hs q1=>?_)));have hfr:=hfr.ext hs;have rp2:=rp2.ext hs;refine Ze .plain rfl (Tx (g:=g1) rfl (Zj.2 rfl) fun g2 w2 p2 hs q2=>?_);have hfr:=hfr.ext hs;have rp2:=rp2.ext hs;have q1:=q1.ext hs;refine Zg (.bool false) rfl rfl ?_;refine Zb (Zd (Zf (Za (Zn up2 rfl rfl ?_))));refine Zz ((.func (.func 62) #[] #[p1,p2])) (Wh (Bl (show ev _ _=p1 from rfl) (show ev _ _=p2 from rfl))) rfl ?_;obtain ⟨y4,o0,h⟩:=Gd h;refine Ze .plain rfl (Zp (g:=g2) (vs:=[up2,(.func (.func 62) #[] #[p1,p2])]) en39 (.cons rfl (.cons rfl .nil)) (wk39 rp2 ⟨62,#[],#[p1,p2],rfl,en62,fun g' w' hch a0 b0 r hu0 hr=>by obtain rfl:=Zj.1 hu0; exact Fn.mono (wk62  (q1.ch hch) (q2.ch hch) hr) fun _ _ _ h=>Wc.2 h⟩ o0) fun g3 w3_ v3 hs hr=>?_);have hfr:=hfr.ext hs;subst hr;refine Zz (.bool (!y4)) (Kh rfl) rfl ?_;refine Zg (.bool (!y4)) rfl rfl ?_;refine Zb (Zd (Gq ?_));obtain rfl:=sinj h;exact Qq rfl rfl (show _=.bool (!y4) from rfl) ⟨_,hfr,rfl⟩
def f35 (x0:List Zv) (x1:Zv→Zv→Option Int):Option ((List Zv)):=
 (f63 x0 (((x0).length:Int)) x1).bind fun y2=>
 some (y2)
theorem en35:Enters Try.prog 35:=enters_of Try.func35 (by kernel_rfl) rfl
theorem wk35 {iI:Nat} {gI:Gh} {wI:World} {x0:List Zv} {x1:Zv→Zv→Option Int} {up0:Value} (mp0:OM iI gI wI 41 x0 up0) {up1:Value} (rp1:FnV2 Try.prog x1 up1 gI wI) {r:(List Zv)} (h:f35 x0 x1=some r):FnM Try.prog 35 #[up0,up1] iI gI wI (fun g w v=>v=.tuple #[]∧OM iI g w 41 r up0):=by
 unfold f35 at h;refine Uj Try.func35 rfl (Nat.le_of_ble_eq_true rfl) fun g0 hm hfr=>?_;have o0:=mp0;replace mp0:=mp0.enter;rw [← hm] at mp0
 replace hm:g0.m=gI.m:=by rw [hm]
 obtain ⟨ff1,fa1,fc1,rfl,fen1,fcl1⟩:=rp1;show E _ 9 none _ _ _ _ _;refine Za (Zn up0 rfl rfl ?_);refine Zn up0 rfl rfl ?_;refine Zz (.int .i64 ((x0).length:Int)) (Lz Try.underlying42 rfl mp0) rfl ?_;refine Zn ((.func (.func ff1) fa1 fc1)) rfl rfl ?_;obtain ⟨y2,hy2,h⟩:=Gd h;refine Ze .plain rfl (At (g:=g0) (i:=1) (vs:=[up0,.int .i64 ((x0).length:Int),(.func (.func ff1) fa1 fc1)]) en63 (.cons rfl (.cons rfl (.cons rfl .nil))) (wk63 mp0 (FnV2.ch ⟨_,_,_,rfl,fen1,fcl1⟩ hfr.ch) hy2) fun g1 w1_ v1 hs hr=>?_);obtain ⟨hrv,b1⟩:=hr;have hfr:=hfr.stp hs;subst hrv;refine Zb ?_;obtain rfl:=sinj h;exact Vg rfl rfl ⟨_,hfr,rfl,o0.back b1⟩
def f43 (z0:Int) (z1:FnT Try.prog Int (List Bool)) (z2:Int) (σ:Type) (cons:Vh σ Gf) (s0:σ):Option σ:=
 lp (σ:=σ × Int) (fun k3 (nD,n8)=>
  bif (decide (n8 < z0)) then
   jn (σ:=σ) (fun vC=>
    k3 (vC,(w64 (n8 + (1:Int))))
    ) fun eF=>
   ((z1).φ n8).bind fun rE=>
   ((fun σ cons s=>f44 rE σ cons s) (Nat × σ) (Rx fun bD o0=>
    Option.bind (α:=Gf) (
     bif (z2 == (2 : Int)) then
      some ((⟨(o0).first,n8,(o0).length,(o0).lifted⟩:Gf))
     else
      some ((⟨n8,(o0).first,(o0).length,(o0).lifted⟩:Gf))
     ) fun mB=>
    (cons bD mB).bind fun (oD,yD)=>
    bif (!oD) then
     some (false,((1:Nat),(yD)))
    else
     some (true,((0:Nat),(yD)))
    ) (0,(nD))).bind fun (nB,oB)=>
   bif Nat.beq nB 0 then
    eF (oB)
   else
    some oB
  else
   some nD
  ) big (s0,(0:Int))
theorem en43:Enters Try.prog 43:=enters_of Try.func43 (by kernel_rfl) rfl
theorem wk43 {σ:Type} {cons:Vh σ Gf} {s0 r:σ} {gI:Gh} {wI:World} {z0:Int} {z1:FnT Try.prog Int (List Bool)} {z2:Int} {pf0:Value} (qf0:PT gI.m wI z0 pf0) {pf1:Value} (qf1:PT gI.m wI z1 pf1) {pf2:Value} (qf2:PT gI.m wI z2 pf2) (h:f43 z0 z1 z2 σ cons s0=some r):Fq Try.prog (RA1 (α:=Gf)) 43 #[] #[pf0,pf1,pf2] gI wI cons s0 r:=by
 unfold f43 at h;refine Om Try.func43 rfl (Nat.le_of_ble_eq_true rfl) fun l B J g0 hm hAb hRo hfr=>?_;have hmk:MkF g0 wI []:=MkF.start;have qf0:PT g0.m wI z0 pf0:=hm ▸ qf0;have qf1:PT g0.m wI z1 pf1:=hm ▸ qf1;have qf2:PT g0.m wI z2 pf2:=hm ▸ qf2;show E _ 37 none _ _ (Jw #[.func (.yield l) #[] #[],pf0,pf1,pf2]) _ _;refine Zf (Za (Ze .plain rfl (Tx (g:=g0) (a:=(⟨(.func (.yield l) #[] #[]),rfl⟩:Fv)) rfl (Ve.2 rfl) fun g1 w1 p1 hs q1=>?_)));have hfr:=hfr.ext_ hAb hs;have hmk:=hmk.ext hs;have qf0:=qf0.ext hs;have qf1:=qf1.ext hs;have qf2:=qf2.ext hs;refine Zb (Zd (Zf (Za (Ze .plain rfl (Gj (g:=g1) Try.isAgg3 Try.sizeOf3 rfl qf0 fun v2 r2=>?_)))));obtain rfl:=Zj.1 r2;refine Zn (.int .i64 (0)) rfl rfl ?_;refine Zb (Zd (Zr ?_));refine E_lpD h (fun (s:σ × Int) e ds w=>∃ (g:Gh) ,FrY gI wI B J (s.1) g w∧MkF g w ds∧e 2=pf1∧PT g.m w (z1:FnT Try.prog Int (List Bool)) pf1∧e 3=pf2∧PT g.m w (z2:Int) pf2∧e 4=p1∧PT g.m w (⟨(.func (.yield l) #[] #[]),rfl⟩:Fv) p1∧e 8=.int .i64 (z0)∧e 9=.int .i64 (s.2)) ⟨g1,hfr,hmk,rfl,qf1,rfl,qf2,rfl,q1,rfl,rfl⟩ (fun X3 k3 hk3=>?_);rintro ⟨nD,n8⟩ nL uE w4 ⟨g4,hfr,hmk,zD,v8,aE,n9,vE,aB,bE,cD⟩ h;refine Zf (Za (Gp (.bool ((decide (n8 < z0)))) cD bE rfl rfl ?_));refine Zb (Zd (Zf ?_));rcases Zt h with ⟨hc5,h⟩ | ⟨hc5,h⟩
 ·refine Tv hc5 rfl ?_
  refine Zu (Zd (Sn h (fun (s:σ) e ds w=>∃ (g:Gh) ,FrY gI wI B J (s) g w∧MkF g w ds∧e 2=pf1∧PT g.m w (z1:FnT Try.prog Int (List Bool)) pf1∧e 3=pf2∧PT g.m w (z2:Int) pf2∧e 4=p1∧PT g.m w (⟨(.func (.yield l) #[] #[]),rfl⟩:Fv) p1∧e 8=.int .i64 (z0)∧e 9=.int .i64 (n8)) (fun X216 eF cH h=>?_) ?_))
  ·refine Zr ?_
   refine Zf (Za (Zo cD rfl ?_));refine Ze .plain rfl (Tj (g:=g4) 2005 (0:Int) Try.zeroValue3 (fun m w=>⟨_,Zx,rfl⟩) fun oH xJ xE hs b217 cb=>?_);have hfr:=hfr.stp_ hAb hs rfl;have hmk:=hmk.stp hs;have v8:=v8.stp hs;have n9:=n9.stp hs;have aB:=aB.stp hs;clear cb;refine Ze .plain rfl (Gr (g:=oH) (v:=.int .i64 (n8)) Try.sizeOf3 rfl b217 rfl (Zj.2 rfl) fun yE zJ hs b218 cb=>?_);clear cb;have hfr:=hfr.stp_ hAb hs rfl;have hmk:=hmk.stp hs;have v8:=v8.stp hs;have n9:=n9.stp hs;have aB:=aB.stp hs;refine Zb (Zd (Zf (Za (Ze .plain rfl (Gj (g:=yE) Try.isAgg110 Try.sizeOf110 zD v8 fun aK pH=>?_)))));refine Ze .plain rfl (Wg (g:=yE) Try.isAgg3 Try.sizeOf3 rfl b218 fun bK qH=>?_);obtain rfl:=Zj.1 qH;obtain ⟨rE,gH,h⟩:=Gd h;refine Ze .plain rfl (D_callT (g:=yE) rfl pH rfl (Zj.2 rfl) gH fun sH tH lD hs uH=>?_);have hfr:=hfr.ext_ hAb hs;have hmk:=hmk.ext hs;have v8:=v8.ext hs;have n9:=n9.ext hs;have aB:=aB.ext hs;have b218:=b218.ext hs;refine Zz ((.func (.func 44) #[lD] #[])) (Wh (Bv (show ev _ _=lD from rfl))) rfl ?_;refine Zb (Zd (Zr ?_));have hB0:=hfr.hB;have hmk0:=hmk;obtain ⟨⟨nB,oB⟩,hφ,h⟩:=Gd h;refine Je (σ:=(Nat × σ)) (s0:=(0,(nD))) 10 rfl (fun s=>s.1) [.ret] (fun (s:Nat × σ) (g:Gh) (w:World)=>FrY gI wI B J (s.2) g w∧MkF g w uE∧PT g.m w (z1:FnT Try.prog Int (List Bool)) pf1∧PT g.m w (z2:Int) pf2∧PT g.m w (⟨(.func (.yield l) #[] #[]),rfl⟩:Fv) p1∧OB 2005 g w 3 (n8:Int) xE) rfl (show ItV Try.prog (RA1 (α:=Qc)) (fun σ cons s=>f44 rE σ cons s) ((.func (.func 44) #[lD] #[])) sH.m tH from ⟨44,#[lD],#[],rfl,en44,fun g' w' hch σ cons s s' h=>wk44 (uH.ch hch)  h⟩) hφ (fun _ _ _ h=>(Df h).1) rfl Sr rfl (fun _ _ _ _ _ hx hR=>by obtain ⟨hfr,hmk,z2,z3,z4,z5⟩:=hR; exact ⟨hfr.ist_ hAb hx hB0,hmk.ist hx,z2.ist hx,z3.ist hx,z4.ist hx,z5.ist hx⟩) (fun _ _ _ _ _ hx hR=>by obtain ⟨hfr,hmk,z2,z3,z4,z5⟩:=hR; exact ⟨hfr.stp_ hAb hx rfl,hmk.stp hx,z2.stp hx,z3.stp hx,z4.stp hx,z5.stp hx rfl⟩) ⟨hfr,hmk,v8,n9,aB,b218⟩ (fun _ h=>by cases h) ?_ ?_
   ·intro jH rF s x b s2 zE sF vs hsz h hR hrec_0 dF hrd
    obtain ⟨hs0,h⟩:=Df h;obtain ⟨st,bD⟩:=s;obtain ⟨hfr,hmk,g8,i6,l8,l5⟩:=hR;obtain ⟨o0,hxe⟩:∃ y,y=x:=⟨x,rfl⟩;subst hxe;obtain ⟨tF,rfl,cC⟩:=Fh hrd;have t5:=RFr.refl zE sF;refine Za (Ze .plain rfl (Tj (g:=zE) 2006 (⟨0,0,false⟩:Qc) Try.zeroValue116 (fun m w=>⟨_,(Gw Zx (Gw Zx Wu)),rfl⟩) fun xH cK iE hs b324 cb=>?_));have hfr:=hfr.stp_ hAb hs rfl;have hmk:=hmk.stp hs;have t5:=t5.stp hs;have hrec_0:=hrec_0.stp hs rfl;have g8:=g8.stp hs;have i6:=i6.stp hs;have l8:=l8.stp hs;have l5:=l5.stp hs rfl;have cC:=cC.stp hs;clear cb;refine Ze .plain rfl (Gr (g:=xH) (v:=tF) Try.sizeOf116 rfl b324 rfl cC fun uC dK hs b325 cb=>?_);clear cb;have hfr:=hfr.stp_ hAb hs rfl;have hmk:=hmk.stp hs;have t5:=t5.stp hs;have hrec_0:=hrec_0.stp hs rfl;have g8:=g8.stp hs;have i6:=i6.stp hs;have l8:=l8.stp hs;have l5:=l5.stp hs rfl;refine Zb (Zd ?_);obtain ⟨uF,hbr,hs,hrN⟩:=Jc hrec_0 dF;refine ⟨uF,hbr,?_⟩;have hfr:=hfr.stp_ hAb hs rfl;have hmk:=hmk.stp hs;have t5:=t5.stp hs;have g8:=g8.stp hs;have i6:=i6.stp hs;have l8:=l8.stp hs;have l5:=l5.stp hs rfl;have b325:=b325.stp hs rfl;have hrec_0:=hrN;clear hbr hs hrN;refine Zr ?_;refine Zf (Za (Ze .plain rfl (Wg (g:=uC) Try.isAgg3 Try.sizeOf3 rfl l5 fun lK yH=>?_)));obtain rfl:=Zj.1 yH;refine Zz (Gk iE 0) (Zc at_116_0 rfl (OB.ptr b325)) rfl ?_;refine Ze .plain rfl (Wr (g:=uC) Dw.1 Try.isAgg3 Try.sizeOf3 rfl b325 fun mK zH=>?_);obtain rfl:=Zj.1 zH;refine Zz (Gk iE 1) (Zc Cz rfl (OB.ptr b325)) rfl ?_;refine Ze .plain rfl (Wr (g:=uC) Jx.1 Try.isAgg3 Try.sizeOf3 rfl b325 fun nK aI=>?_);obtain rfl:=Zj.1 aI;refine Zz (Gk iE 2) (Zc at_116_2 rfl (OB.ptr b325)) rfl ?_;refine Ze .plain rfl (Wr (g:=uC) Aj.1 Try.isAgg4 Try.sizeOf4 rfl b325 fun oK bI=>?_);obtain rfl:=Wc.1 bI;have lE:RV uC.m uF (⟨n8,(o0).first,(o0).length,(o0).lifted⟩:Gf) (.agg (Gy [[.int .i64 0],[.int .i64 0],[.int .i64 0],[.bool false]] [(0,.int .i64 (n8)),(1,.int .i64 ((o0).first)),(2,.int .i64 ((o0).length)),(3,.bool ((o0).lifted))]).flatten.toArray):=Th rfl (Gu (rfl) (Gu (rfl) (Gu (rfl) (Tl (rfl)))));generalize kH:(Value.agg (Gy [[.int .i64 0],[.int .i64 0],[.int .i64 0],[.bool false]] [(0,.int .i64 (n8)),(1,.int .i64 ((o0).first)),(2,.int .i64 ((o0).length)),(3,.bool ((o0).lifted))]).flatten.toArray)=vF at lE;refine Zz vF (kH ▸ Qb (vs:=[(0,.int .i64 (n8)),(1,.int .i64 ((o0).first)),(2,.int .i64 ((o0).length)),(3,.bool ((o0).lifted))]) [[.int .i64 0],[.int .i64 0],[.int .i64 0],[.bool false]] lay_57 rfl rfl (.cons rfl (.cons rfl (.cons rfl (.cons rfl .nil)))) ⟨⟨_,rfl,rfl⟩,⟨⟨_,rfl,rfl⟩,⟨⟨_,rfl,rfl⟩,⟨⟨_,rfl,rfl⟩,trivial⟩⟩⟩⟩) rfl ?_;refine Ze .plain rfl (Tj (g:=uC) 2007 (⟨0,0,0,false⟩:Gf) Try.zeroValue57 (fun m w=>⟨_,(Gw Zx (Gw Zx (Gw Zx Wu))),rfl⟩) fun dI pK lB hs b335 cb=>?_);have hfr:=hfr.stp_ hAb hs rfl;have hmk:=hmk.stp hs;have t5:=t5.stp hs;have hrec_0:=hrec_0.stp hs rfl;have g8:=g8.stp hs;have i6:=i6.stp hs;have l8:=l8.stp hs;have l5:=l5.stp hs rfl;have b325:=b325.stp hs rfl;have lE:=lE.stp hs;clear cb;refine Ze .plain rfl (Gr (g:=dI) (v:=vF) Try.sizeOf57 rfl b335 rfl lE fun xF qK hs b336 cb=>?_);clear cb;have hfr:=hfr.stp_ hAb hs rfl;have hmk:=hmk.stp hs;have t5:=t5.stp hs;have hrec_0:=hrec_0.stp hs rfl;have g8:=g8.stp hs;have i6:=i6.stp hs;have l8:=l8.stp hs;have l5:=l5.stp hs rfl;have b325:=b325.stp hs rfl;refine Zb (Zd ?_);obtain ⟨mB,hx,h⟩:=Gd h;refine Gx (fun e w=>∃ (g:Gh) ,FrY gI wI B J (bD) g w∧MkF g w uE∧RFr zE sF g w∧HB 10 g w jH (.loop { rF with state:=.busy })∧e 2=pf1∧PT g.m w (z1:FnT Try.prog Int (List Bool)) pf1∧e 3=pf2∧PT g.m w (z2:Int) pf2∧e 4=p1∧PT g.m w (⟨(.func (.yield l) #[] #[]),rfl⟩:Fv) p1∧e 5=xE∧OB 2005 g w 3 (n8:Int) xE∧e 7=lB∧OB 2007 g w 57 (mB:Gf) lB∧e 8=.int .i64 (z0)∧e 9=.int .i64 (n8)∧e 15=(.func (.func 44) #[lD] #[])) (fun Q' hQ=>?_) (fun sJ sK hR=>?_)
    ·replace h := hx
     clear hx;refine Zf (Za (Ze .plain rfl (Gj (g:=xF) Try.isAgg48 Try.sizeOf48 aE i6 fun tK iI=>?_)));obtain rfl:=Zj.1 iI;refine Gp (.bool ((z2 == (2:Int)))) rfl rfl rfl rfl ?_;refine Zb (Zd ?_);rcases Zt h with ⟨mE,h⟩ | ⟨mE,h⟩
     ·refine Tv mE rfl ?_
      refine Ue (x:=.tmp 27) Dw.1 Try.isAgg3 Try.sizeOf3 b325 fun uK jI lH=>?_;obtain rfl:=Zj.1 jI;refine Ms (x:=.tmp 5) Try.isAgg3 Try.sizeOf3 l5 fun vK kI mH=>?_;obtain rfl:=Zj.1 kI;refine E_drawB (a0:=((⟨n8,(o0).first,(o0).length,(o0).lifted⟩:Gf):Gf)) (a1:=((⟨(o0).first,(o0).first,(o0).length,(o0).lifted⟩:Gf):Gf)) b336 (n:=6) [(4,(fun _ g w=>OB 2007 g w 57 ((⟨(o0).first,(o0).first,(o0).length,(o0).lifted⟩:Gf):Gf) lB))] [0,1,2,3,4,5] rfl Wt (by kernel_rfl) (⟨fun _=>up_box,trivial⟩) ?_;refine Gc (Gk iE 0) rfl rfl (Zc at_116_0 rfl (OB.ptr b325)) ?_;refine Qm (c:=.int .i64 ((o0).first)) rfl rfl .plain (fun _ _ h=>⟨h.1.ch,fun b hb ho=>h.1.block b hb (by rw [ho]; decide)⟩) lH rfl ?_;refine Qm (c:=.int .i64 (n8)) rfl rfl .plain (fun _ _ h=>⟨h.1.ch,fun b hb ho=>h.1.block b hb (by rw [ho]; decide)⟩) mH rfl ?_;refine Gc (Gk lB 0) rfl rfl (Zc at_57_0 rfl (OB.ptr b336)) ?_;refine Uh (φ:=fun _ g w=>OB 2007 g w 57 ((⟨(o0).first,(o0).first,(o0).length,(o0).lifted⟩:Gf):Gf) lB) rfl rfl .plain (fun g w hd=>D_storeR (g:=g) (by rfl) (by exact rfl) Fa Try.sizeOf3 rfl hd.1.2 rfl (Zj.2 rfl)) (fun xK hv=>?_);clear hv;refine Gc (Gk lB 1) rfl rfl (Zc at_57_1 rfl (OB.ptr b336)) ?_;refine Xr fun lI yK hall=>?_;have hs:=hall.1.1;have hfr:=hfr.stp_ hAb hs rfl;have hmk:=hmk.stp hs;have t5:=t5.stp hs;have hrec_0:=hrec_0.stp hs rfl;have g8:=g8.stp hs;have i6:=i6.stp hs;have l8:=l8.stp hs;have l5:=l5.stp hs rfl;have b408:=(Qw (A:=fun g w=>OB 2007 g w 57 ((⟨(o0).first,(o0).first,(o0).length,(o0).lifted⟩:Gf):Gf) lB) 4 rfl hall);clear hs hall;refine Ze .plain rfl (Ko (g:=lI) Ln Try.sizeOf3 rfl b408 rfl (Zj.2 rfl) fun mI zK hs b416 rst hos=>?_);clear rst hos;have hfr:=hfr.stp_ hAb hs rfl;have hmk:=hmk.stp hs;have t5:=t5.stp hs;have hrec_0:=hrec_0.stp hs rfl;have g8:=g8.stp hs;have i6:=i6.stp hs;have l8:=l8.stp hs;have l5:=l5.stp hs rfl;refine Zb ?_;obtain rfl:=sinj h;exact hQ _ _ ⟨mI,hfr,hmk,t5,hrec_0,zD,g8,aE,i6,vE,l8,rfl,l5,rfl,b416,bE,cD,rfl⟩
     ·refine Tu mE rfl ?_
      refine Zu ?_;obtain rfl:=sinj h;exact hQ _ _ ⟨xF,hfr,hmk,t5,hrec_0,zD,g8,aE,i6,vE,l8,rfl,l5,rfl,b336,bE,cD,rfl⟩
    ·clear hx
     obtain ⟨cF,hfr,hmk,t5,hrec_0,kJ,vB,lJ,yB,yF,l9,mJ,zB,aG,bG,nJ,oJ,jJ⟩:=hR;refine Zf (Za (Ze .plain rfl (Gj (α:=Fv) (g:=cF) Try.isAgg111 Try.sizeOf111 yF l9 fun cG eG=>?_)));have e418:cG=(.func (.yield l) #[] #[]):=Ve.1 eG;clear eG;subst cG;refine Ze .plain rfl (Wg (g:=cF) Try.isAgg57 Try.sizeOf57 aG bG fun aL nI=>?_);obtain ⟨pI,nH,h⟩:=Gd h;obtain ⟨oD,yD⟩:=pI;refine Ze .plain rfl (Du (g:=cF) (x:=mB) rfl (.cons rfl .nil) hRo hfr nH ⟨_,rfl,nI⟩ fun bL dL hs hfrY=>?_);have hmk:=hmk.stp hs;have t5:=t5.stp hs;have hrec_0:=hrec_0.stp hs rfl;have vB:=vB.stp hs;have yB:=yB.stp hs;have l9:=l9.stp hs;have zB:=zB.stp hs rfl;have hfr:=hfrY;clear hfrY;refine Zz (.bool (!oD)) (Kh rfl) rfl ?_;refine Zb (Zd ?_);rcases Zt h with ⟨oE,h⟩ | ⟨oE,h⟩
     ·refine Tv oE rfl ?_
      refine Gq (Qh ?_);obtain ⟨rfl,rfl⟩:=Ww h;exact ⟨_,t5,⟨hfr,hmk,vB,yB,l9,zB⟩,hrec_0,rfl,0,rfl,rfl⟩
     ·refine Tu oE rfl ?_
      refine Zu (To ?_);obtain ⟨rfl,rfl⟩:=Ww h;exact ⟨_,t5,⟨hfr,hmk,vB,yB,l9,zB⟩,hrec_0,rfl,rfl⟩
   ·intro qI eL ds424 hsz hR hds
    obtain ⟨hfr,hmk,gG,iG,jG,pJ⟩:=hR;obtain ⟨D,hdse,hD,hDb⟩:=hds.1 rfl;subst hdse;replace hmk:=MkF.push hmk0 hmk hD hDb;clear hD hDb hds;revert hmk;generalize ({ target:=.collected D,args:=#[] } :: uE:List Deferred)=qJ;intro hmk;refine ⟨fun hs=>?_,fun k c hs hc=>?_⟩
    ·have hs : nB = 0 := hs
     subst hs;replace h:=cond_t h rfl;exact To (To (Zd (cH (oB) _ _ _ ⟨qI,hfr,hmk,zD,gG,aE,iG,vE,jG,bE,cD⟩ h)))
    ·have hs : nB = k + 1 := hs
     match k,hs,hc with
     | 0,hs,hc=>
      subst hs;obtain rfl:=sinj hc;replace h:=cond_f h rfl;refine Gq (Qh ?_);refine Qh ?_;refine Tc ?_;refine Tc ?_;refine Qh ?_;refine Bg (.inr rfl) hmk fun gL iL hs=>?_;have hfr:=hfr.stp_ hAb hs rfl;obtain rfl:=sinj h;exact end0 rfl rfl (FrY.done hfr)
     | n + 1,_,hc=>exact absurd hc (by simp)
  ·rintro vC vJ rJ jL ⟨sI, hfr, hmk, kG, lG, mG, sG, xG, yG, zG, aH⟩ h
   refine Za (Gp (.int .i64 ((w64 (n8 + (1:Int))))) aH rfl rfl rfl ?_);refine Zn (.int .i64 ((w64 (n8 + (1:Int))))) rfl rfl ?_;exact Zb (Zd (hk3 (vC,(w64 (n8 + (1:Int)))) _ _ _ ⟨sI,hfr,hmk,kG,lG,mG,sG,xG,yG,zG,rfl⟩ h))
 ·refine Tu hc5 rfl ?_
  refine Qj ?_;refine Ta ?_;refine Ta ?_;refine Tp ?_;refine Bg (.inl rfl) hmk fun lL mL hs=>?_;have hfr:=hfr.stp_ hAb hs rfl;obtain rfl:=sinj h;exact Vg rfl rfl (FrY.done hfr)
def f51 (x0:List Int) (x1:Int):Option ((List Int)):=
 Option.bind (α:=Unit) (
  bif (decide (x1 < (0 : Int))) then
   none
  else
   some ()
  ) fun (_:Unit)=>
 (f78 ((⟨(Qo ((x0).length:Int))⟩:U64)) ((⟨(Qo x1)⟩:U64))).bind fun y5=>
 Option.bind (α:=Unit) (
  Option.bind (α:=Bool) (
   bif (decide ((y5.1).n > (0 : Int))) then
    some (true)
   else
    some ((decide ((y5.2).n > (9223372036854775807:Int))))
   ) fun i6=>
  bif i6 then
   none
  else
   some ()
  ) fun (_:Unit)=>
 (mks 8 (0:Int) ((w64 ((y5.2).n)))).bind fun oB=>
 Option.bind (α:=(List Int)) (
  lp (σ:=(List Int) × Int) (fun bE (l5,o0)=>
   jn (σ:=Unit) (fun _=>
    (cut l5 o0 ((l5).length:Int)).bind fun n8=>
    (cut l5 0 o0).bind fun y40=>
    bE ((cpy l5 o0 n8 y40),(w64 (o0 + ((min (y40).length (n8).length:Nat):Int))))
    ) fun k33=>
   bif (decide (o0 < ((l5).length : Int))) then
    k33 ()
   else
    some (l5)
   ) big ((cpy oB 0 oB x0),((min (x0).length (oB).length:Nat):Int))
  ) fun l9=>
 some (l9)
theorem en51:Enters Try.prog 51:=enters_of Try.func51 (by kernel_rfl) rfl
theorem wk51 {gI:Gh} {wI:World} {x0:List Int} {x1:Int} {up0:Value} (rp0:RV gI.m wI x0 up0) {r:(List Int)} (h:f51 x0 x1=some r):Fn Try.prog 51 #[up0,.int .i64 (x1)] gI wI (fun m w v=>RV m w (r) v):=by
 unfold f51 at h;refine Gz Try.func51 rfl (Nat.le_of_ble_eq_true rfl) fun g0 hm hfr=>?_;have rp0:RV g0.m wI x0 up0:=hm ▸ rp0;show E _ 48 none _ _ _ _ _;refine Zf (Za (Zg (.slice none 0 0) rfl rfl ?_));refine Zb (Zd ?_);obtain ⟨_,hx,h⟩:=Gd h;refine Gx (fun e w=>∃ (g:Gh) ,Fr gI wI g w∧e 0=up0∧RV g.m w (x0:List Int) up0∧e 1=.int .i64 (x1)) (fun Q' hQ=>?_) (fun yF w3 hR=>?_)
 ·replace h := hx
  clear hx;refine Zf (Za (Zn (.int .i64 (x1)) rfl rfl ?_));refine Gp (.bool ((decide (x1 < (0:Int))))) rfl rfl rfl rfl ?_;refine Zb (Zd ?_);rcases Zt h with ⟨hc2,h⟩ | ⟨hc2,h⟩
  ·refine Tv hc2 rfl ?_
   refine Za ?_
   cases h
  ·refine Tu hc2 rfl ?_
   refine Zu ?_;obtain rfl:=sinj h;exact hQ _ _ ⟨g0,hfr,rfl,rp0,rfl⟩
 ·clear hx
  obtain ⟨g3,hfr,yB,v8,mE⟩:=hR;refine Zf (Za (Zo yB rfl ?_));refine Zz (.int .i64 ((x0).length:Int)) (Qv Try.underlying26 rfl v8) rfl ?_;refine Zz (.int .u64 (Qo ((x0).length:Int))) (Bk Try.underlying3 Try.underlying44 rfl) rfl ?_;refine Zo mE rfl ?_;refine Zz (.int .u64 (Qo x1)) (Bk Try.underlying3 Try.underlying44 rfl) rfl ?_;obtain ⟨y5,hy5,h⟩:=Gd h;refine Ze .plain rfl (Zp (g:=g3) (vs:=[.int .u64 (Qo ((x0).length:Int)),.int .u64 (Qo x1)]) en78 (.cons rfl (.cons rfl .nil)) (wk78  hy5) fun g4 w4_ v4 hs hr=>?_);have hfr:=hfr.ext hs;have v8:=v8.ext hs;obtain ⟨eF,rF,rfl,rfl,rfl⟩:=hr;refine Zn (.tuple #[.int .u64 ((y5.1).n),.int .u64 ((y5.2).n)]) rfl rfl ?_;refine Zz (.int .u64 ((y5.1).n)) (Zi rfl rfl) rfl ?_;refine Zz (.int .u64 ((y5.2).n)) (Zi rfl rfl) rfl ?_;refine Zg (.int .u64 ((y5.1).n)) rfl rfl ?_;refine Zg (.int .u64 ((y5.2).n)) rfl rfl ?_;refine Zb (Zd ?_);obtain ⟨_,hx,h⟩:=Gd h;refine Gx (fun e w=>∃ (g:Gh) ,Fr gI wI g w∧e 0=up0∧RV g.m w (x0:List Int) up0∧e 6=.int .u64 ((y5.2).n)) (fun Q' hQ=>?_) (fun sF aG hR=>?_)
  ·replace h := hx
   clear hx;obtain ⟨i6,hx,h⟩:=Gd h;refine Gx (fun e w=>∃ (g:Gh) ,Fr gI wI g w∧e 0=up0∧RV g.m w (x0:List Int) up0∧e 6=.int .u64 ((y5.2).n)∧e 26=.bool (i6)) (fun Q' hQ=>?_) (fun tF bG hR=>?_)
   ·replace h := hx
    clear hx;refine Za (Zn (.int .u64 ((y5.1).n)) rfl rfl ?_);refine Zz (.bool (decide ((y5.1).n > (0:Int)))) (P_u64cmp rfl rfl rfl) rfl ?_;refine Zn (.bool (decide ((y5.1).n > (0:Int)))) rfl rfl ?_;rcases Zt h with ⟨g8,h⟩ | ⟨g8,h⟩
    ·refine Gb rfl rfl g8 rfl rfl ?_
     refine Gb rfl rfl g8 rfl rfl ?_;refine Zz (.bool true) (Zl (b:=(decide ((y5.1).n > (0:Int)))) rfl (Qn g8 rfl)) rfl ?_;refine Zb ?_;obtain rfl:=sinj h;exact hQ _ _ ⟨g4,hfr,yB,v8,rfl,rfl⟩
    ·refine Ga (.int .u64 ((y5.2).n)) (Zk rfl) rfl rfl g8 rfl ?_
     refine Ga (.bool (decide ((y5.2).n > (9223372036854775807:Int)))) (P_u64cmp rfl rfl rfl) rfl rfl g8 rfl ?_;refine Zz (.bool (decide ((y5.2).n > (9223372036854775807:Int)))) (Zl (b:=(decide ((y5.1).n > (0:Int)))) rfl (Tw g8 rfl)) rfl ?_;refine Zb ?_;obtain rfl:=sinj h;exact hQ _ _ ⟨g4,hfr,yB,v8,rfl,rfl⟩
   ·clear hx
    obtain ⟨vE,hfr,cD,lD,nD,vB⟩:=hR;rcases Zt h with ⟨zB,h⟩ | ⟨zB,h⟩
    ·refine Tt (Eq.trans (show ev _ _ = .bool (i6) from vB) (congrArg Value.bool zB)) ?_
     refine Za ?_
     cases h
    ·refine Td (Eq.trans (show ev _ _ = .bool (i6) from vB) (congrArg Value.bool zB)) ?_
     refine Zu ?_;obtain rfl:=sinj h;exact hQ _ _ ⟨vE,hfr,cD,lD,nD⟩
  ·clear hx
   obtain ⟨xE,hfr,oD,n9,yD⟩:=hR;refine Zf (Za (Zo yD rfl ?_));refine Zz (.int .i64 ((w64 ((y5.2).n)))) (P_u64int Try.underlying44 Try.underlying3 rfl) rfl ?_;obtain ⟨oB,oE,h⟩:=Gd h;refine Ze .plain rfl (D_makeSliceM (g:=xE) 9030 (0:Int) rfl Try.underlying26 Vr rfl (fun _ _=>rfl) rfl rfl oE fun yE cG t5 hs b16=>?_);have hfr:=hfr.stp hs;have n9:=n9.stp hs;refine Zg t5 rfl rfl ?_;refine Zb (Zd (Zf (Za (Zn t5 rfl rfl ?_))));refine Zo oD rfl ?_;refine Ze .plain rfl (D_copyM (g:=yE) (α:=Int) Try.underlying26 Vr rfl b16 rfl n9 fun zE eG hs b17=>?_);have hfr:=hfr.stp hs;refine Zg (.int .i64 ((min (x0).length (oB).length:Nat):Int)) rfl rfl ?_;refine Zb (Zd ?_);obtain ⟨l9,hx,h⟩:=Gd h;refine Gx (fun e w=>∃ (g:Gh) ,Fr gI wI g w∧e 7=t5∧OM 9030 g w 3 (l9:List Int) t5) (fun Q' hQ=>?_) (fun uF gG hR=>?_)
   ·replace h := hx
    clear hx;refine Zr ?_;refine He h (fun (s:(List Int) × Int) e w=>∃ (g:Gh) ,Fr gI wI g w∧e 7=t5∧OM 9030 g w 3 (s.1:List Int) t5∧e 8=.int .i64 (s.2)) ⟨zE,hfr,rfl,b17,rfl⟩ (fun X30 bE rE=>?_);rintro ⟨l5,o0⟩ vF iG ⟨iE,hfr,aB,lB,uC⟩ h;refine Zq h (fun (s:Unit) e w=>∃ (g:Gh) ,Fr gI wI g w∧e 7=t5∧OM 9030 g w 3 (l5:List Int) t5∧e 8=.int .i64 (o0)) (fun X33 k33 uE h=>?_) ?_
    ·refine Zf (Za (Zo uC rfl ?_))
     refine Zo aB rfl ?_;refine Zz (.int .i64 ((l5).length:Int)) (Lz Try.underlying26 rfl lB) rfl ?_;refine Gp (.bool ((decide (o0 < ((l5).length:Int))))) rfl rfl rfl rfl ?_;refine Zb (Zd ?_);rcases Zt h with ⟨cC,h⟩ | ⟨cC,h⟩
     ·refine Tv cC rfl ?_
      exact Zu (Zd (uE () _ _ ⟨iE,hfr,aB,lB,uC⟩ h))
     ·refine Tu cC rfl ?_
      refine Qj ?_;refine Ta ?_;refine Ta ?_;refine Tp ?_;obtain rfl:=sinj h;exact hQ _ _ ⟨iE,hfr,aB,lB⟩
    ·rintro _ xF cF ⟨lE, hfr, mB, l8, nB⟩ h
     refine Zr ?_;obtain ⟨n8,vC,h⟩:=Gd h;obtain ⟨y40,bD,h⟩:=Gd h;refine E_drawC (g:=lE) (w:=cF) (n:=8) [0,1,2,3,4,5,6] [] [0,1,2,3,4,5,6,7] rfl Wt (by kernel_rfl) fun w_c38 hs hlt=>?_;have hfr:=hfr.ext hs;have l8:=l8.ext hs;clear hs;refine Yw (c:=.int .i64 (o0)) rfl rfl .plain (Zk nB) ?_;refine Yw (c:=t5) rfl rfl .plain (Zk mB) ?_;refine Yw (c:=.int .i64 (o0)) rfl rfl .plain (Zk nB) ?_;refine Yw (c:=(Bu t5 (Int.toNat o0) (Int.toNat ((l5).length:Int)) 1)) rfl rfl .plain (P_cutM (α:=Int) Try.underlying26 Try.sizeOf3 rfl (OM.hdr l8) rfl rfl vC) ?_;refine Yw (c:=t5) rfl rfl .plain (Zk mB) ?_;refine Yw (c:=.int .i64 (o0)) rfl rfl .plain (Zk nB) ?_;refine Yw (c:=(Bu t5 0 (Int.toNat o0) 1)) rfl rfl .plain (P_cutM (α:=Int) Try.underlying26 Try.sizeOf3 rfl (OM.hdr l8) rfl rfl bD) ?_;refine CH_do rfl rfl .plain (D_copyMM (g:=lE) (α:=Int) Try.underlying26 Vr rfl l8 rfl vC bD fun dF jG hs b41=>?_);have hfr:=hfr.stp hs;have hlt:=hlt.stp hs;refine ⟨hlt.toW,?_⟩;refine CH_nil ?_;clear hlt;refine Zz (.int .i64 ((w64 (o0 + ((min (y40).length (n8).length:Nat):Int))))) (Te rfl rfl rfl) rfl ?_;refine Zz (.int .i64 ((w64 (o0 + ((min (y40).length (n8).length:Nat):Int))))) (Wd rfl) rfl ?_;exact Zb (To (Zd (rE ((cpy l5 o0 n8 y40),(w64 (o0 + ((min (y40).length (n8).length:Nat):Int)))) _ _ ⟨dF,hfr,mB,b41,rfl⟩ h)))
   ·clear hx
    obtain ⟨kG,hfr,zD,aE⟩:=hR;refine Zf (Za (Zo zD rfl ?_));obtain ⟨gp43,hs,rp43⟩:=OM.pub aE;have hfr:=hfr.stp hs;refine Zg t5 rfl rfl ?_;refine Zb (Zd (Gq ?_));obtain rfl:=sinj h;exact Qq rfl rfl (show _=t5 from rfl) ⟨_,hfr,rp43⟩
def f53 (x0:Zy) (z0:FaultLoom):Option (Bool):=
 Option.bind (α:=Bool) (
  (f32 ((0:Int)) ((119:Int)) (([(x0).Pick]:List Int))).bind fun t5=>
  bif (!t5) then
   some (true)
  else
   (f32 ((0:Int)) ((w64 (((((z0).Harness).Warps).length:Int) - (1:Int)))) (([(x0).Warp]:List Int))).bind fun i6=>
   some ((!i6))
  ) fun l5=>
 some (l5)
theorem en53:Enters Try.prog 53:=enters_of Try.func53 (by kernel_rfl) rfl
theorem wk53 {gI:Gh} {wI:World} {x0:Zy} {z0:FaultLoom} {up0:Value} (rp0:RV gI.m wI x0 up0) {pf0:Value} (qf0:PT gI.m wI z0 pf0) {r:Bool} (h:f53 x0 z0=some r):Fn Try.prog 53 #[up0,pf0] gI wI (fun _ _ v=>v=.bool (r)):=by
 unfold f53 at h;refine Gz Try.func53 rfl (Nat.le_of_ble_eq_true rfl) fun g0 hm hfr=>?_;have qf0:PT g0.m wI z0 pf0:=hm ▸ qf0;have rp0:RV g0.m wI x0 up0:=hm ▸ rp0;show E _ 21 none _ _ _ _ _;refine Zf (Za (Ze .plain rfl (Tx (g:=g0) rfl rp0 fun g1 w1 p1 hs q1=>?_)));have hfr:=hfr.ext hs;have qf0:=qf0.ext hs;refine Zg (.bool false) rfl rfl ?_;refine Zb (Zd ?_);obtain ⟨l5,hx,h⟩:=Gd h;refine Gx (fun e w=>∃ (g:Gh) ,Fr gI wI g w∧e 3=.bool (l5)) (fun Q' hQ=>?_) (fun bD nD hR=>?_)
 ·replace h := hx
  clear hx;refine Za (Zz (Gk p1 0) (Zc at_93_0 rfl (PT.ptr q1)) rfl ?_);have l9:=Zm (Xi).1 q1;refine Ze .plain rfl (Gj (g:=g1) Try.isAgg3 Try.sizeOf3 rfl l9 fun oD n9=>?_);obtain rfl:=Zj.1 n9;refine Ze .plain rfl (Gl (g:=g1) 3006 (xs:=([(x0).Pick]:List Int)) (vs:=[.int .i64 ((x0).Pick)]) Try.underlying26 Try.sizeOf3 Try.zeroValue3 rfl rfl (.cons rfl .nil) (RVs.cons (Zj.2 rfl) RVs.nil) rfl rfl fun aB yD lB hs o18 mB hxt hfl=>?_);have hfr:=hfr.stp hs;have qf0:=qf0.stp hs;have q1:=q1.stp hs;obtain ⟨t5,hy20,h⟩:=Gd h;refine Ze .plain rfl (Zp (g:=aB) (vs:=[.int .i64 (0),.int .i64 (119),lB]) en32 (.cons rfl (.cons rfl (.cons rfl .nil))) (wk32 mB hy20) fun g8 cD zD hs hr=>?_);have hfr:=hfr.ext hs;have qf0:=qf0.ext hs;have q1:=q1.ext hs;subst hr;refine Zz (.bool (!t5)) (Kh rfl) rfl ?_;refine Zn (.bool (!t5)) rfl rfl ?_;rcases Zt h with ⟨o0,h⟩ | ⟨o0,h⟩
  ·refine Gb rfl rfl o0 rfl rfl ?_
   iterate 9 refine Gb rfl rfl o0 rfl rfl ?_
   refine Zz (.bool true) (Zl (b:=(!t5)) rfl (Qn o0 rfl)) rfl ?_;refine Zg (.bool true) rfl rfl ?_;refine Zb ?_;obtain rfl:=sinj h;exact hQ _ _ ⟨g8,hfr,rfl⟩
  ·refine Ga (Gk pf0 0) (Zc Hw rfl (PT.ptr qf0)) rfl rfl o0 rfl ?_
   have n8:=Zm (Qp).1 qf0;refine Ga (Gk (Gk pf0 0) 1) (Zc Kx rfl (PT.ptr n8)) rfl rfl o0 rfl ?_;have nB:=Zm (Tn).1 n8;refine Ze (.yes2 rfl rfl o0) rfl (Gj (g:=g8) Try.isAgg26 Try.sizeOf26 rfl nB fun aE oB=>?_);refine Ga (.int .i64 ((((z0).Harness).Warps).length:Int)) (Qv Try.underlying26 rfl oB) rfl rfl o0 rfl ?_;refine Ga (.int .i64 ((w64 (((((z0).Harness).Warps).length:Int) - (1:Int))))) (Te rfl rfl rfl) rfl rfl o0 rfl ?_;refine Ga (Gk p1 1) (Zc at_93_1 rfl (PT.ptr q1)) rfl rfl o0 rfl ?_;have vB:=Zm (Xo).1 q1;refine Ze (.yes2 rfl rfl o0) rfl (Gj (g:=g8) Try.isAgg3 Try.sizeOf3 rfl vB fun bE yB=>?_);obtain rfl:=Zj.1 yB;refine Ze (.yes2 rfl rfl o0) rfl (Gl (g:=g8) 3017 (xs:=([(x0).Warp]:List Int)) (vs:=[.int .i64 ((x0).Warp)]) Try.underlying26 Try.sizeOf3 Try.zeroValue3 rfl rfl (.cons rfl .nil) (RVs.cons (Zj.2 rfl) RVs.nil) rfl rfl fun zB iE cC hs o27 uC hxt hfl=>?_);have hfr:=hfr.stp hs;obtain ⟨i6,v8,h⟩:=Gd h;refine Ze (.yes2 rfl rfl o0) rfl (Zp (g:=zB) (vs:=[.int .i64 (0),.int .i64 ((w64 (((((z0).Harness).Warps).length:Int) - (1:Int)))),cC]) en32 (.cons rfl (.cons rfl (.cons rfl .nil))) (wk32 uC v8) fun vC lD lE hs hr=>?_);have hfr:=hfr.ext hs;subst hr;refine Ga (.bool (!i6)) (Kh rfl) rfl rfl o0 rfl ?_;refine Zz (.bool (!i6)) (Zl (b:=(!t5)) rfl (Tw o0 rfl)) rfl ?_;refine Zg (.bool (!i6)) rfl rfl ?_;refine Zb ?_;obtain rfl:=sinj h;exact hQ _ _ ⟨vC,hfr,rfl⟩
 ·clear hx
  obtain ⟨mE,hfr,l8⟩:=hR;refine Gq ?_;obtain rfl:=sinj h;exact Qq rfl rfl (show _=.bool (l5) from l8) ⟨_,hfr,rfl⟩
theorem u92 {iO:Nat} {gI:Gh} {wI:World} {x1:It Int} {up1:Value} (rp1:ItV Try.prog (RA1 (α:=Int)) x1 up1 gI.m wI) {r:(List Int)} (h:f92 x1=some r):FnG Try.prog 92 #[.slice none 0 0,up1] gI wI (fun g w v=>OS iO g w 3 r v∧RV g.m w r v):=by
 unfold f92 at h;refine fnGD_of_E Try.func92 rfl (Nat.le_of_ble_eq_true rfl) fun g0 hm hfr=>?_;have hmk:MkF g0 wI []:=MkF.start;have rp1:ItV Try.prog (RA1 (α:=Int)) x1 up1 g0.m wI:=hm ▸ rp1;show E _ 13 none _ _ _ _ _;refine Zf (Za (Ze .plain rfl (D_boxOc (g:=g0) (a:=(([]:List Int):List Int)) 2002 rfl Kg fun g1 w1 p1 hs b1 cb=>?_)));have hfr:=hfr.stp hs;have hmk:=hmk.stp hs;have rp1:=rp1.stp hs;have zB:OSF 2002 60200 0 g1 w1 3 26 (([]:List Int):List Int) p1:=cb.osfr rfl (OS.nil:OS 60200 g1 w1 3 (([]:List Int):List Int) (.slice none 0 0));clear cb;refine Zg (.slice none 0 0) rfl rfl ?_;refine Zb (Zd ?_);obtain ⟨g8,hx,h⟩:=Gd h;refine Rd (fun e ds w=>∃ (g:Gh) ,Fr gI wI g w∧MkF g w ds∧e 2=p1∧OB 2002 g w 26 (g8:List Int) p1∧OSF 2002 60200 0 g w 3 26 (g8) p1) (fun Q' hQ=>?_) (fun vE iE yE hR=>?_)
 ·replace h := hx
  clear hx;refine Zf (Za (Zn up1 rfl rfl ?_));refine Zb (Zd (Zr ?_));have hB0:=hfr.size;have hmk0:=hmk;obtain ⟨lE,hφ,h⟩:=Gd h;refine Je (σ:=((List Int))) (s0:=((([]:List Int):List Int))) 10 rfl (fun _=>0) [] (fun (s:(List Int)) (g:Gh) (w:World)=>Fr gI wI g w∧MkF g w []∧OB 2002 g w 26 (s:List Int) p1∧OSF 2002 60200 0 g w 3 26 (s) p1∧ItV Try.prog (RA1 (α:=Int)) x1 up1 g.m w) rfl rp1 hφ (fun _ _ _ _=>rfl) rfl Sr rfl (fun _ _ _ _ _ hx hR=>by obtain ⟨hfr,hmk,z2,z3,z4⟩:=hR; exact ⟨hfr.ist hx hB0,hmk.ist hx,z2.ist hx,z3.ist hx,z4.ist hx⟩) (fun _ _ _ _ _ hx hR=>by obtain ⟨hfr,hmk,z2,z3,z4⟩:=hR; exact ⟨hfr.stp hx,hmk.stp hx,z2.stp hx rfl,z3.stp hx rfl,z4.stp hx⟩) ⟨hfr,hmk,b1,zB,rp1⟩ (fun _ h=>by cases h) ?_ ?_
  ·intro xE mE s x b s2 l8 uC vs hsz h hR hrec_0 n8 hrd
   obtain ⟨oE,hse⟩:∃ y,y=s:=⟨s,rfl⟩;subst hse;obtain ⟨hfr,hmk,t5,u2_0_25,o0⟩:=hR;obtain ⟨i6,hxe⟩:∃ y,y=x:=⟨x,rfl⟩;subst hxe;obtain ⟨aB,rfl,v8⟩:=Fh hrd;obtain rfl:aB=.int .i64 (i6):=Zj.1 v8;have l5:=RFr.refl l8 uC;refine Za (Zg (.int .i64 (i6)) rfl rfl ?_);refine Zb (Zd ?_);obtain ⟨vC,hbr,hs,hrN⟩:=Jc hrec_0 n8;refine ⟨vC,hbr,?_⟩;have hfr:=hfr.stp hs;have hmk:=hmk.stp hs;have l5:=l5.stp hs;have u2_0_25:=u2_0_25.stp hs rfl;have t5:=t5.stp hs rfl;have o0:=o0.stp hs;have hrec_0:=hrN;clear hbr hs hrN;refine Zr ?_;refine Za (Ze .plain rfl (Sc (g:=l8) Try.isAgg26 Try.sizeOf26 rfl t5 u2_0_25 fun zE l9 o27=>?_));refine Zn (.int .i64 (i6)) rfl rfl ?_;refine Ze .plain rfl (Gl (g:=l8) 3010 (xs:=([i6]:List Int)) (vs:=[.int .i64 (i6)]) Try.underlying26 Try.sizeOf3 Try.zeroValue3 rfl rfl (.cons rfl .nil) (RVs.cons (Zj.2 rfl) RVs.nil) rfl rfl fun bD cF dF hs o28 cD hxt hfl=>?_);have hfr:=hfr.stp hs;have hmk:=hmk.stp hs;have l5:=l5.stp hs;have hrec_0:=hrec_0.stp hs rfl;have t5:=t5.stp hs rfl;have o0:=o0.stp hs;have l9:=l9.stp hs;have o27:=o27.stp hs rfl;obtain ⟨lD,cC,h⟩:=Gd h;refine Ze .plain rfl (Wj (g:=bD) (i:=60200) Try.underlying26 Vr rfl rfl o27 l9 rfl cD cC fun nD w29 oD hs o29 vB _=>?_);have hfr:=hfr.stp hs;have hmk:=hmk.stp hs;have l5:=l5.stp hs;have hrec_0:=hrec_0.stp hs rfl;have t5:=t5.stp hs rfl;have o0:=o0.stp hs;refine Ze .plain rfl (Gr (g:=nD) (v:=oD) Try.sizeOf26 rfl t5 rfl vB fun yD zD hs b31 cb=>?_);have lB:OSF 2002 60200 0 yD zD 3 26 (lD:List Int) p1:=cb.osfr (Jh vB) (o29.stp hs rfl);clear cb;have hfr:=hfr.stp hs;have hmk:=hmk.stp hs;have l5:=l5.stp hs;have hrec_0:=hrec_0.stp hs rfl;have o0:=o0.stp hs;refine Zb (To ?_);obtain ⟨rfl,rfl⟩:=Ww h;exact ⟨_,l5,⟨hfr,hmk,b31,lB,o0⟩,hrec_0,rfl,rfl⟩
  ·intro aE eF ds33 hsz hR hds
   obtain ⟨hfr,hmk,mB,u2_0_33,rE⟩:=hR;obtain ⟨D,hdse,hD,hDb⟩:=hds.1 rfl;subst hdse;replace hmk:=MkF.push hmk0 hmk hD hDb;clear hD hDb hds;revert hmk;generalize ({ target:=.collected D,args:=#[] } :: []:List Deferred)=uE;intro hmk;refine ⟨fun _=>?_,fun k c hs _=>absurd hs (Nat.succ_ne_zero k).symm⟩;refine To ?_;obtain rfl:=sinj h;exact hQ _ _ _ ⟨aE,hfr,hmk,rfl,mB,u2_0_33⟩
 ·clear hx
  obtain ⟨bE,hfr,hmk,nB,oB,u2_0_34⟩:=hR;refine Zf (Za (Ze .plain rfl (Sc (g:=bE) Try.isAgg26 Try.sizeOf26 nB oB u2_0_34 fun yB n9 o35=>?_)));refine Zg yB rfl rfl ?_;refine Zb (Zd (Gq (Bg (.inr rfl) hmk fun rF sF hs=>?_)));have hfr:=hfr.stp hs;have n9:=n9.stp hs;have o35:=o35.stp hs rfl;obtain rfl:=sinj h;obtain ⟨gh,hxh,homh,hrvh⟩:=OS.handn (i:=iO) hfr o35 n9;exact Qq rfl rfl (show _=yB from rfl) ⟨gh,hxh,homh,hrvh⟩
theorem u79 {iO:Nat} {gI:Gh} {wI:World} {x0:It Int} {up0:Value} (rp0:ItV Try.prog (RA1 (α:=Int)) x0 up0 gI.m wI) {r:(List Int)} (h:f79 x0=some r):FnG Try.prog 79 #[up0] gI wI (fun g w v=>OS iO g w 3 r v∧RV g.m w r v):=by
 unfold f79 at h;refine Vy Try.func79 rfl (Nat.le_of_ble_eq_true rfl) fun g0 hm hfr=>?_;have rp0:ItV Try.prog (RA1 (α:=Int)) x0 up0 g0.m wI:=hm ▸ rp0;show E _ 5 none _ _ _ _ _;refine Zf (Za (Zg (.slice none 0 0) rfl rfl ?_));refine Zb (Zd (Zf (Za (Zn up0 rfl rfl ?_))));obtain ⟨y2,hy2,h⟩:=Gd h;refine Ze .plain rfl (Vj (g:=g0) (vs:=[.slice none 0 0,up0]) en92 (.cons rfl (.cons rfl .nil)) (u92 (iO:=4004) rp0 hy2) fun g1 w1 v1 hs m1=>?_);obtain ⟨o1,r1⟩:=m1;have hfr:=hfr.ext hs;refine Zg v1 rfl rfl ?_;refine Zb (Zd (Gq ?_));obtain rfl:=sinj h;obtain ⟨gh,hxh,homh,hrvh⟩:=OS.handn (i:=iO) hfr o1 r1;exact Qq rfl rfl (show _=v1 from rfl) ⟨gh,hxh,homh,hrvh⟩
def f60 (x0:Gi) (x1:Zv):Option (Bool):=
 Option.bind (α:=Zv × Bool) (
  bif ((x1).Kind == (1 : Int)) then
   some ((⟨(x1).Kind,(x1).Pick,(x1).Hook,0,false⟩:Zv),true)
  else
   bif ((x1).Kind == (2 : Int)) then
    some ((⟨(x1).Kind,0,(x1).Hook,0,(x1).Up⟩:Zv),true)
   else
    Option.bind (α:=Bool) (
     bif ((x1).Kind == (3 : Int)) then
      some (((x1).Kind == (3:Int)))
     else
      some (((x1).Kind == (4:Int)))
     ) fun n9=>
    bif n9 then
     some ((⟨(x1).Kind,(x1).Pick,0,0,false⟩:Zv),true)
    else
     bif ((x1).Kind == (5 : Int)) then
      some ((⟨(x1).Kind,0,0,(x1).Warp,false⟩:Zv),true)
     else
      some ((⟨(x1).Kind,0,0,0,false⟩:Zv),false)
  ) fun (n8,aB)=>
 Option.bind (α:=Bool) (
  bif aB then
   bif (decide (x1 = n8)) then
    (f32 ((0:Int)) ((w64 ((((((x0).FaultLoom).Design).Rows).length:Int) - (1:Int)))) (([(x1).Pick]:List Int))).bind fun zB=>
    bif zB then
     (f32 ((0:Int)) ((w64 ((((x0).FaultLoom).Design).Hooks - (1:Int)))) (([(x1).Hook]:List Int))).bind fun cC=>
     bif cC then
      (f32 ((0:Int)) ((w64 ((((((x0).FaultLoom).Harness).Warps).length:Int) - (1:Int)))) (([(x1).Warp]:List Int))).bind fun lD=>
      some (lD)
     else
      some (false)
    else
     some (false)
   else
    some (false)
  else
   some (false)
  ) fun vB=>
 some (vB)
theorem en60:Enters Try.prog 60:=enters_of Try.func60 (by kernel_rfl) rfl
theorem wk60 {gI:Gh} {wI:World} {x0:Gi} {x1:Zv} {up0:Value} (rp0:RV gI.m wI x0 up0) {up1:Value} (rp1:RV gI.m wI x1 up1) {r:Bool} (h:f60 x0 x1=some r):Fn Try.prog 60 #[up0,up1] gI wI (fun _ _ v=>v=.bool (r)):=by
 unfold f60 at h;refine Gz Try.func60 rfl (Nat.le_of_ble_eq_true rfl) fun g0 hm hfr=>?_;have rp0:RV g0.m wI x0 up0:=hm ▸ rp0;have rp1:RV g0.m wI x1 up1:=hm ▸ rp1;show E _ 80 none _ _ _ _ _;refine Zf (Za (Ze .plain rfl (Tx (g:=g0) rfl rp0 fun g1 w1 p1 hs q1=>?_)));have hfr:=hfr.ext hs;have rp1:=rp1.ext hs;refine Ze .plain rfl (Tx (g:=g1) rfl rp1 fun g2 w2 p2 hs q2=>?_);have hfr:=hfr.ext hs;have q1:=q1.ext hs;refine Zg (.bool false) rfl rfl ?_;refine Zb (Zd (Zf (Za (Zz (Gk p2 0) (Zc Fm rfl (PT.ptr q2)) rfl ?_))));have q3:=Zm (Kj).1 q2;refine Ze .plain rfl (Gj (g:=g2) Try.isAgg39 Try.sizeOf39 rfl q3 fun v4 r4=>?_);obtain rfl:=Zj.1 r4;have r5:RV g2.m w2 (⟨(x1).Kind,0,0,0,false⟩:Zv) (.agg (Gy [[.int .i64 0],[.int .i64 0],[.int .i64 0],[.int .i64 0],[.bool false]] [(0,.int .i64 ((x1).Kind))]).flatten.toArray):=Th rfl (Gu (rfl) (Gu (Zx) (Gu (Zx) (Gu (Zx) (Tl (Wu))))));generalize qI:(Value.agg (Gy [[.int .i64 0],[.int .i64 0],[.int .i64 0],[.int .i64 0],[.bool false]] [(0,.int .i64 ((x1).Kind))]).flatten.toArray)=v5 at r5;refine Zz v5 (qI ▸ Qb (vs:=[(0,.int .i64 ((x1).Kind))]) [[.int .i64 0],[.int .i64 0],[.int .i64 0],[.int .i64 0],[.bool false]] Ds rfl rfl (.cons rfl .nil) ⟨⟨_,rfl,rfl⟩,trivial⟩) rfl ?_;refine Ze .plain rfl (Tj (g:=g2) 2005 (⟨0,0,0,0,false⟩:Zv) Try.zeroValue41 (fun m w=>⟨_,(Gw Zx (Gw Zx (Gw Zx (Gw Zx Wu)))),rfl⟩) fun g6 w6 p6 hs b6 cb=>?_);have hfr:=hfr.stp hs;have q1:=q1.stp hs;have q2:=q2.stp hs;have r5:=r5.stp hs;clear cb;refine Ze .plain rfl (Gr (g:=g6) (v:=v5) Try.sizeOf41 rfl b6 rfl r5 fun g7 w7 hs b7 cb=>?_);clear cb;have hfr:=hfr.stp hs;have q1:=q1.stp hs;have q2:=q2.stp hs;refine Zb (Zd (Zf (Za (Zg (.bool true) rfl rfl ?_))));refine Zb (Zd ?_);obtain ⟨⟨n8,aB⟩,hx,h⟩:=Gd h;refine Gx (fun e w=>∃ (g:Gh) ,Fr gI wI g w∧e 2=p1∧PT g.m w (x0:Gi) p1∧e 3=p2∧PT g.m w (x1:Zv) p2∧e 5=p6∧OB 2005 g w 41 (n8:Zv) p6∧e 6=.bool (aB)) (fun Q' hQ=>?_) (fun pJ zJ hR=>?_)
 ·replace h := hx
  clear hx;refine Zf (Za (Zz (Gk p2 0) (Zc Fm rfl (PT.ptr q2)) rfl ?_));have sI:=Zm (Kj).1 q2;refine Ze .plain rfl (Gj (g:=g7) Try.isAgg39 Try.sizeOf39 rfl sI fun oL jJ=>?_);obtain rfl:=Zj.1 jJ;refine Zb (Zd (Zr ?_));refine Zf (Za (Gp (.bool (((x1).Kind == (1:Int)))) rfl rfl rfl rfl ?_));refine Zg (.bool (((x1).Kind == (1:Int)))) rfl rfl ?_;refine Zb (Zd ?_);rcases Zt h with ⟨lE,h⟩ | ⟨lE,h⟩
  ·refine Tv lE rfl ?_
   have kJ:=Zm (Qf).1 q2;refine Zs (x:=.tmp 14) Try.isAgg3 Try.sizeOf3 kJ fun xL lJ aG=>?_;obtain rfl:=Zj.1 lJ;have mJ:=Zm (Wa).1 q2;refine Zs (x:=.tmp 16) Try.isAgg3 Try.sizeOf3 mJ fun yL nJ bG=>?_;obtain rfl:=Zj.1 nJ;refine Bj (g:=g7) (n:=5) [2,3] [] [0,1,2,3,4] rfl Wt (by kernel_rfl) trivial rfl ?_;refine Gc (Gk p2 1) rfl rfl (Zc Yp rfl (PT.ptr q2)) ?_;refine Qm (c:=.int .i64 ((x1).Pick)) rfl rfl .plain (fun _ _ h=>h.ch) aG rfl ?_;refine Xx (c:=Gk p2 2) rfl rfl .plain (Zc Xe rfl (PT.ptr q2)) ?_;refine L_ldL (c:=.int .i64 ((x1).Hook)) rfl rfl .plain (fun _ _ h=>h.ch) rfl bG rfl ?_;refine Gc (Gk p6 1) rfl rfl (Zc Yp rfl (OB.ptr b7)) ?_;refine Vn fun yF oJ hs=>?_;have hlt:Lt g7.m w7 yF oJ:=hs.ch;have hfr:=hfr.ext hs;have q1:=q1.ext hs;have q2:=q2.ext hs;have b7:=b7.ext hs;clear hs;refine Rm hlt.w .plain rfl (Ko (g:=yF) Qf Try.sizeOf3 rfl b7 rfl (Zj.2 rfl) fun cG aK hs b112 rst hos=>?_);clear rst hos;have hfr:=hfr.stp hs;have hlt:=hlt.stp hs;have q1:=q1.stp hs;have q2:=q2.stp hs;refine TL_pur hlt.w (v:=Gk p6 2) (Zc Xe rfl (OB.ptr b112)) .plain rfl ?_;refine Rm hlt.w .plain rfl (Ko (g:=cG) Wa Try.sizeOf3 rfl b112 rfl (Zj.2 rfl) fun eG bK hs b114 rst hos=>?_);clear rst hos;have hfr:=hfr.stp hs;have hlt:=hlt.stp hs;have q1:=q1.stp hs;have q2:=q2.stp hs;refine Na hlt.w ?_;clear hlt;refine To ?_;obtain ⟨rfl,rfl⟩:=Ww h;exact hQ _ _ ⟨eG,hfr,rfl,q1,rfl,q2,rfl,b114,rfl⟩
  ·refine Tu lE rfl ?_
   refine Zf (Za (Gp (.bool (((x1).Kind == (2:Int)))) rfl rfl rfl rfl ?_));refine Zg (.bool (((x1).Kind == (2:Int)))) rfl rfl ?_;refine Zb (Zd ?_);rcases Zt h with ⟨nD,h⟩ | ⟨nD,h⟩
   ·refine Tv nD rfl ?_
    have gG:=Zm (Wa).1 q2;refine Zs (x:=.tmp 22) Try.isAgg3 Try.sizeOf3 gG fun cK iG sF=>?_;obtain rfl:=Zj.1 iG;have jG:=Zm (Ya).1 q2;refine Zs (x:=.tmp 24) Try.isAgg4 Try.sizeOf4 jG fun dK kG tF=>?_;obtain rfl:=Wc.1 kG;refine Bj (g:=g7) (n:=5) [2,3] [] [0,1,2,3,4] rfl Wt (by kernel_rfl) trivial rfl ?_;refine Gc (Gk p2 2) rfl rfl (Zc Xe rfl (PT.ptr q2)) ?_;refine Qm (c:=.int .i64 ((x1).Hook)) rfl rfl .plain (fun _ _ h=>h.ch) sF rfl ?_;refine Xx (c:=Gk p2 4) rfl rfl .plain (Zc at_41_4 rfl (PT.ptr q2)) ?_;refine L_ldL (c:=.bool ((x1).Up)) rfl rfl .plain (fun _ _ h=>h.ch) rfl tF rfl ?_;refine Gc (Gk p6 2) rfl rfl (Zc Xe rfl (OB.ptr b7)) ?_;refine Vn fun oE lG hs=>?_;have hlt:Lt g7.m w7 oE lG:=hs.ch;have hfr:=hfr.ext hs;have q1:=q1.ext hs;have q2:=q2.ext hs;have b7:=b7.ext hs;clear hs;refine Rm hlt.w .plain rfl (Ko (g:=oE) Wa Try.sizeOf3 rfl b7 rfl (Zj.2 rfl) fun mG lK hs b143 rst hos=>?_);clear rst hos;have hfr:=hfr.stp hs;have hlt:=hlt.stp hs;have q1:=q1.stp hs;have q2:=q2.stp hs;refine TL_pur hlt.w (v:=Gk p6 4) (Zc at_41_4 rfl (OB.ptr b143)) .plain rfl ?_;refine Rm hlt.w .plain rfl (Ko (g:=mG) Ya Try.sizeOf4 rfl b143 rfl (Wc.2 rfl) fun sG mK hs b145 rst hos=>?_);clear rst hos;have hfr:=hfr.stp hs;have hlt:=hlt.stp hs;have q1:=q1.stp hs;have q2:=q2.stp hs;refine Na hlt.w ?_;clear hlt;refine To ?_;obtain ⟨rfl,rfl⟩:=Ww h;exact hQ _ _ ⟨sG,hfr,rfl,q1,rfl,q2,rfl,b145,rfl⟩
   ·refine Tu nD rfl ?_
    obtain ⟨n9,hx,h⟩:=Gd h;refine Gx (fun e w=>∃ (g:Gh) ,Fr gI wI g w∧e 2=p1∧PT g.m w (x0:Gi) p1∧e 3=p2∧PT g.m w (x1:Zv) p2∧e 5=p6∧OB 2005 g w 41 ((⟨(x1).Kind,0,0,0,false⟩:Zv):Zv) p6∧e 6=.bool (true)∧e 11=.int .i64 ((x1).Kind)∧e 28=.bool (n9)) (fun Q' hQ=>?_) (fun qJ nK hR=>?_)
    ·replace h := hx
     clear hx;refine Zf (Za (Gp (.bool (((x1).Kind == (3:Int)))) rfl rfl rfl rfl ?_));refine Zg (.bool (((x1).Kind == (3:Int)))) rfl rfl ?_;refine Zb (Zd ?_);rcases Zt h with ⟨oD,h⟩ | ⟨oD,h⟩
     ·refine Tv oD rfl ?_
      refine Zu ?_;obtain rfl:=sinj h;exact hQ _ _ ⟨g7,hfr,rfl,q1,rfl,q2,rfl,b7,rfl,rfl,rfl⟩
     ·refine Tu oD rfl ?_
      refine Za (Gp (.bool (((x1).Kind == (4:Int)))) rfl rfl rfl rfl ?_);refine Zg (.bool (((x1).Kind == (4:Int)))) rfl rfl ?_;refine Zb ?_;obtain rfl:=sinj h;exact hQ _ _ ⟨g7,hfr,rfl,q1,rfl,q2,rfl,b7,rfl,rfl,rfl⟩
    ·clear hx
     obtain ⟨uC,hfr,vC,l9,lB,l8,mB,nB,iE,mE,cD⟩:=hR;rcases Zt h with ⟨yD,h⟩ | ⟨yD,h⟩
     ·refine Tt (Eq.trans (show ev _ _ = .bool (n9) from cD) (congrArg Value.bool yD)) ?_
      refine Za (Zz (Gk p2 1) (Zc Yp lB (PT.ptr l8)) rfl ?_);have xG:=Zm (Qf).1 l8;refine Ze .plain rfl (Gj (g:=uC) Try.isAgg3 Try.sizeOf3 rfl xG fun oK yG=>?_);obtain rfl:=Zj.1 yG;refine Zz (Gk p6 1) (Zc Yp mB (OB.ptr nB)) rfl ?_;refine Ze .plain rfl (Ko (g:=uC) Qf Try.sizeOf3 rfl nB rfl (Zj.2 rfl) fun zG pK hs b153 rst hos=>?_);clear rst hos;have hfr:=hfr.stp hs;have l9:=l9.stp hs;have l8:=l8.stp hs;refine Zb (To ?_);obtain ⟨rfl,rfl⟩:=Ww h;exact hQ _ _ ⟨zG,hfr,vC,l9,lB,l8,mB,b153,iE⟩
     ·refine Td (Eq.trans (show ev _ _ = .bool (n9) from cD) (congrArg Value.bool yD)) ?_
      refine Zf (Za (Gp (.bool (((x1).Kind == (5:Int)))) mE rfl rfl rfl ?_));refine Zg (.bool (((x1).Kind == (5:Int)))) rfl rfl ?_;refine Zb (Zd ?_);rcases Zt h with ⟨zD,h⟩ | ⟨zD,h⟩
      ·refine Tv zD rfl ?_
       refine Za (Zz (Gk p2 3) (Zc Ao lB (PT.ptr l8)) rfl ?_);have aH:=Zm (Hr).1 l8;refine Ze .plain rfl (Gj (g:=uC) Try.isAgg3 Try.sizeOf3 rfl aH fun qK cH=>?_);obtain rfl:=Zj.1 cH;refine Zz (Gk p6 3) (Zc Ao mB (OB.ptr nB)) rfl ?_;refine Ze .plain rfl (Ko (g:=uC) Hr Try.sizeOf3 rfl nB rfl (Zj.2 rfl) fun gH sK hs b158 rst hos=>?_);clear rst hos;have hfr:=hfr.stp hs;have l9:=l9.stp hs;have l8:=l8.stp hs;refine Zb (To ?_);obtain ⟨rfl,rfl⟩:=Ww h;exact hQ _ _ ⟨gH,hfr,vC,l9,lB,l8,mB,b158,iE⟩
      ·refine Tu zD rfl ?_
       refine Za (Zg (.bool false) rfl rfl ?_);refine Zb (To ?_);obtain ⟨rfl,rfl⟩:=Ww h;exact hQ _ _ ⟨uC,hfr,vC,l9,lB,l8,mB,nB,rfl⟩
 ·clear hx
  obtain ⟨oB,hfr,bD,l5,yB,o0,rE,uE,vE⟩:=hR;obtain ⟨vB,hx,h⟩:=Gd h;refine Gx (fun e w=>∃ (g:Gh) ,Fr gI wI g w∧e 4=.bool (vB)) (fun Q' hQ=>?_) (fun rJ tK hR=>?_)
  ·replace h := hx
   clear hx;refine Za (Zo vE rfl ?_);refine Zn (.bool (aB)) rfl rfl ?_;rcases Zt h with ⟨v8,h⟩ | ⟨v8,h⟩
   ·refine Ze (.yes2 rfl rfl v8) rfl (Gj (g := oB) Try.isAgg41 Try.sizeOf41 yB o0 fun uK jH => ?_)
    refine Ze (.yes2 rfl rfl v8) rfl (Wg (g:=oB) Try.isAgg41 Try.sizeOf41 rE uE fun vK kH=>?_);refine Ga (.bool ((decide (x1=n8)))) (P_seq seq_41 rfl eg_41 rfl rfl jH kH) rfl rfl v8 rfl ?_;refine Zz (.bool ((decide (x1=n8)))) (Zl (b:=aB) rfl (Qn v8 rfl)) rfl ?_;refine Zn (.bool ((decide (x1=n8)))) rfl rfl ?_;rcases Zt h with ⟨t5,h⟩ | ⟨t5,h⟩
    ·refine Ga (Gk p1 0) (Zc Uf bD (PT.ptr l5)) rfl rfl t5 rfl ?_
     have xE:=Zm (Ts).1 l5;refine Ga (Gk (Gk p1 0) 2) (Zc Ji rfl (PT.ptr xE)) rfl rfl t5 rfl ?_;have yE:=Zm (Qe).1 xE;refine Ga (Gk (Gk (Gk p1 0) 2) 1) (Zc Kk rfl (PT.ptr yE)) rfl rfl t5 rfl ?_;have lH:=Zm (Qg).1 yE;refine Ze (.yes2 rfl rfl t5) rfl (Gj (g:=oB) Try.isAgg26 Try.sizeOf26 rfl lH fun xK mH=>?_);refine Ga (.int .i64 (((((x0).FaultLoom).Design).Rows).length:Int)) (Qv Try.underlying26 rfl mH) rfl rfl t5 rfl ?_;refine Ga (.int .i64 ((w64 ((((((x0).FaultLoom).Design).Rows).length:Int) - (1:Int))))) (Te rfl rfl rfl) rfl rfl t5 rfl ?_;refine Ga (Gk p2 1) (Zc Yp yB (PT.ptr o0)) rfl rfl t5 rfl ?_;have nH:=Zm (Qf).1 o0;refine Ze (.yes2 rfl rfl t5) rfl (Gj (g:=oB) Try.isAgg3 Try.sizeOf3 rfl nH fun yK oH=>?_);obtain rfl:=Zj.1 oH;refine Ze (.yes2 rfl rfl t5) rfl (Gl (g:=oB) 3054 (xs:=([(x1).Pick]:List Int)) (vs:=[.int .i64 ((x1).Pick)]) Try.underlying26 Try.sizeOf3 Try.zeroValue3 rfl rfl (.cons rfl .nil) (RVs.cons (Zj.2 rfl) RVs.nil) rfl rfl fun pH zK qH hs o203 sH hxt hfl=>?_);have hfr:=hfr.stp hs;have l5:=l5.stp hs;have o0:=o0.stp hs;obtain ⟨zB,uF,h⟩:=Gd h;refine Ze (.yes2 rfl rfl t5) rfl (Zp (g:=pH) (vs:=[.int .i64 (0),.int .i64 ((w64 ((((((x0).FaultLoom).Design).Rows).length:Int) - (1:Int)))),qH]) en32 (.cons rfl (.cons rfl (.cons rfl .nil))) (wk32 sH uF) fun aE sJ aL hs hr=>?_);have hfr:=hfr.ext hs;have l5:=l5.ext hs;have o0:=o0.ext hs;subst hr;refine Zz (.bool (zB)) (Zl (b:=(decide (x1=n8))) rfl (Qn t5 rfl)) rfl ?_;refine Zn (.bool (zB)) rfl rfl ?_;rcases Zt h with ⟨g8,h⟩ | ⟨g8,h⟩
     ·refine Ga (Gk p1 0) (Zc Uf bD (PT.ptr l5)) rfl rfl g8 rfl ?_
      have zE:=Zm (Ts).1 l5;refine Ga (Gk (Gk p1 0) 2) (Zc Ji rfl (PT.ptr zE)) rfl rfl g8 rfl ?_;have cF:=Zm (Qe).1 zE;refine Ga (Gk (Gk (Gk p1 0) 2) 0) (Zc Hs rfl (PT.ptr cF)) rfl rfl g8 rfl ?_;have tH:=Zm (Ql).1 cF;refine Ze (.yes2 rfl rfl g8) rfl (Gj (g:=aE) Try.isAgg3 Try.sizeOf3 rfl tH fun bL uH=>?_);obtain rfl:=Zj.1 uH;refine Ga (.int .i64 ((w64 ((((x0).FaultLoom).Design).Hooks - (1:Int))))) (Te rfl rfl rfl) rfl rfl g8 rfl ?_;refine Ga (Gk p2 2) (Zc Xe yB (PT.ptr o0)) rfl rfl g8 rfl ?_;have xH:=Zm (Wa).1 o0;refine Ze (.yes2 rfl rfl g8) rfl (Gj (g:=aE) Try.isAgg3 Try.sizeOf3 rfl xH fun dL yH=>?_);obtain rfl:=Zj.1 yH;refine Ze (.yes2 rfl rfl g8) rfl (Gl (g:=aE) 3065 (xs:=([(x1).Hook]:List Int)) (vs:=[.int .i64 ((x1).Hook)]) Try.underlying26 Try.sizeOf3 Try.zeroValue3 rfl rfl (.cons rfl .nil) (RVs.cons (Zj.2 rfl) RVs.nil) rfl rfl fun zH eL aI hs o213 bI hxt hfl=>?_);have hfr:=hfr.stp hs;have l5:=l5.stp hs;have o0:=o0.stp hs;obtain ⟨cC,vF,h⟩:=Gd h;refine Ze (.yes2 rfl rfl g8) rfl (Zp (g:=zH) (vs:=[.int .i64 (0),.int .i64 ((w64 ((((x0).FaultLoom).Design).Hooks - (1:Int)))),aI]) en32 (.cons rfl (.cons rfl (.cons rfl .nil))) (wk32 bI vF) fun bE vJ gL hs hr=>?_);have hfr:=hfr.ext hs;have l5:=l5.ext hs;have o0:=o0.ext hs;subst hr;refine Zz (.bool (cC)) (Zl (b:=zB) rfl (Qn g8 rfl)) rfl ?_;refine Zn (.bool (cC)) rfl rfl ?_;rcases Zt h with ⟨i6,h⟩ | ⟨i6,h⟩
      ·refine Ga (Gk p1 0) (Zc Uf bD (PT.ptr l5)) rfl rfl i6 rfl ?_
       have dF:=Zm (Ts).1 l5;refine Ga (Gk (Gk p1 0) 0) (Zc Hw rfl (PT.ptr dF)) rfl rfl i6 rfl ?_;have eF:=Zm (Qp).1 dF;refine Ga (Gk (Gk (Gk p1 0) 0) 1) (Zc Kx rfl (PT.ptr eF)) rfl rfl i6 rfl ?_;have dI:=Zm (Tn).1 eF;refine Ze (.yes2 rfl rfl i6) rfl (Gj (g:=bE) Try.isAgg26 Try.sizeOf26 rfl dI fun iL iI=>?_);refine Ga (.int .i64 (((((x0).FaultLoom).Harness).Warps).length:Int)) (Qv Try.underlying26 rfl iI) rfl rfl i6 rfl ?_;refine Ga (.int .i64 ((w64 ((((((x0).FaultLoom).Harness).Warps).length:Int) - (1:Int))))) (Te rfl rfl rfl) rfl rfl i6 rfl ?_;refine Ga (Gk p2 3) (Zc Ao yB (PT.ptr o0)) rfl rfl i6 rfl ?_;have jI:=Zm (Hr).1 o0;refine Ze (.yes2 rfl rfl i6) rfl (Gj (g:=bE) Try.isAgg3 Try.sizeOf3 rfl jI fun jL kI=>?_);obtain rfl:=Zj.1 kI;refine Ze (.yes2 rfl rfl i6) rfl (Gl (g:=bE) 3077 (xs:=([(x1).Warp]:List Int)) (vs:=[.int .i64 ((x1).Warp)]) Try.underlying26 Try.sizeOf3 Try.zeroValue3 rfl rfl (.cons rfl .nil) (RVs.cons (Zj.2 rfl) RVs.nil) rfl rfl fun lI lL mI hs o223 nI hxt hfl=>?_);have hfr:=hfr.stp hs;obtain ⟨lD,xF,h⟩:=Gd h;refine Ze (.yes2 rfl rfl i6) rfl (Zp (g:=lI) (vs:=[.int .i64 (0),.int .i64 ((w64 ((((((x0).FaultLoom).Harness).Warps).length:Int) - (1:Int)))),mI]) en32 (.cons rfl (.cons rfl (.cons rfl .nil))) (wk32 nI xF) fun pI xJ mL hs hr=>?_);have hfr:=hfr.ext hs;subst hr;refine Zz (.bool (lD)) (Zl (b:=cC) rfl (Qn i6 rfl)) rfl ?_;refine Zg (.bool (lD)) rfl rfl ?_;refine Zb ?_;obtain rfl:=sinj h;exact hQ _ _ ⟨pI,hfr,rfl⟩
      ·refine Gb rfl rfl i6 rfl rfl ?_
       iterate 9 refine Gb rfl rfl i6 rfl rfl ?_
       refine Zz (.bool false) (Zl (b:=cC) rfl (Tw i6 rfl)) rfl ?_;refine Zg (.bool false) rfl rfl ?_;refine Zb ?_;obtain rfl:=sinj h;exact hQ _ _ ⟨bE,hfr,rfl⟩
     ·refine Gb rfl rfl g8 rfl rfl ?_
      iterate 8 refine Gb rfl rfl g8 rfl rfl ?_
      refine Zz (.bool false) (Zl (b:=zB) rfl (Tw g8 rfl)) rfl ?_;refine Hp 12 rfl ?_;refine Zg (.bool false) rfl rfl ?_;refine Zb ?_;obtain rfl:=sinj h;exact hQ _ _ ⟨aE,hfr,rfl⟩
    ·refine Gb rfl rfl t5 rfl rfl ?_
     iterate 9 refine Gb rfl rfl t5 rfl rfl ?_
     refine Zz (.bool false) (Zl (b:=(decide (x1=n8))) rfl (Tw t5 rfl)) rfl ?_;refine Hp 23 rfl ?_;refine Zg (.bool false) rfl rfl ?_;refine Zb ?_;obtain rfl:=sinj h;exact hQ _ _ ⟨oB,hfr,rfl⟩
   ·refine Gb rfl rfl v8 rfl rfl ?_
    refine Gb rfl rfl v8 rfl rfl ?_;refine Gb rfl rfl v8 rfl rfl ?_;refine Zz (.bool false) (Zl (b:=aB) rfl (Tw v8 rfl)) rfl ?_;refine Hp 35 rfl ?_;refine Zg (.bool false) rfl rfl ?_;refine Zb ?_;obtain rfl:=sinj h;exact hQ _ _ ⟨oB,hfr,rfl⟩
  ·clear hx
   obtain ⟨nL,hfr,rF⟩:=hR;refine Gq ?_;obtain rfl:=sinj h;exact Qq rfl rfl (show _=.bool (vB) from rF) ⟨_,hfr,rfl⟩
theorem v34_0 {iO:Nat} {gI:Gh} {wI:World} {x0:List Zv} {up0:Value} (rp0:RV gI.m wI x0 up0) {r:List Zv} (h:f34 x0=some r):FnG Try.prog 34 #[up0] gI wI (fun g w v=>OM iO g w 41 r v):=by
 unfold f34 at h;refine Vy Try.func34 rfl (Nat.le_of_ble_eq_true rfl) fun g0 hm hfr=>?_;have rp0:RV g0.m wI x0 up0:=hm ▸ rp0;show E _ 8 none _ _ _ _ _;refine Zf (Za (Zg (.slice none 0 0) rfl rfl (Zb (Zd ?_))));refine Zf (Zf (Za (Zn up0 rfl rfl ?_)));obtain ⟨a,c,hv,hc,hrow⟩:=Ht rp0;refine Zz (.bool a.isNone) (P_slnil Try.underlying42 (show ev _ _=_ from hv)) rfl (Zb (Zd ?_))
 cases a with
 | none=>
  have hx:x0=[]:=by
   cases x0 with
   | nil=>rfl
   | cons y ys=>obtain ⟨b,off,hb,_⟩:=hrow (by simp); cases hb
  subst hx
  have hr:r=[]:=by unfold apnd at h; split at h <;> simp at h; exact h
  subst hr;refine Tt rfl (Zf (Za ?_));refine Zg (.slice none 0 0) rfl rfl (Zb (Zd ?_));obtain ⟨gh,hxh,homh⟩:=OM.handn (i:=iO) (t:=41) (α:=Zv) hfr; exact Gq (Tc (Qq rfl rfl (show _=.slice none 0 0 from rfl) ⟨gh,hxh,homh⟩))
 | some a=>
  refine Td rfl (Zu (Zd ?_));refine Zf (Za (Ze .plain rfl (Gl (g:=g0) 1 (xs:=([]:List Zv)) (vs:=[]) Try.underlying42 Try.sizeOf41 Try.zeroValue41 rfl rfl .nil RVs.nil rfl rfl fun g1 w1 v1 hs o1 r1 hxt hfl=>?_)));have hfr:=hfr.stp hs;have rp0:=rp0.stp hs;refine Zn up0 rfl rfl ?_;refine Ze .plain rfl (Wj (g:=g1) (i:=1) Try.underlying42 Sw rfl rfl o1 r1 rfl rp0 h fun g2 w2 v2 hs o2 r2 _=>?_);have hfr:=hfr.stp hs;refine Zg v2 rfl rfl (Zb (Zd ?_));obtain ⟨gh,hxh,homh⟩:=OM.hand (i:=iO) Fk hfr o2 r2; exact Gq (Qq rfl rfl (show _=v2 from rfl) ⟨gh,hxh,homh⟩)
def f21 (x0:Design):Option (Int):=
 jn (σ:=Unit) (fun _=>
  some ((0:Int))
  ) fun n8=>
 (f22 ((1:Int)) ((24:Int)) (([(x0).Hooks]:List Int))).bind fun y56=>
 bif (!y56) then
  some ((2:Int))
 else
  bif (decide ((((x0).Rows).length : Int) > (60 : Int))) then
   some ((5:Int))
  else
   bif ((((x0).Rows).length : Int) == (0 : Int)) then
    some ((7:Int))
   else
    (Hj (1:Int) (x0).Hooks).bind fun l5=>
    (f22 ((0:Int)) ((w64 (l5 - (1:Int)))) ((x0).Rows)).bind fun y71=>
    bif (!y71) then
     some ((2:Int))
    else
     n8 ()
theorem en21:Enters Try.prog 21:=enters_of Try.func21 (by kernel_rfl) rfl
theorem wk21 {gI:Gh} {wI:World} {x0:Design} {up0:Value} (rp0:RV gI.m wI x0 up0) {r:Int} (h:f21 x0=some r):Fn Try.prog 21 #[up0] gI wI (fun _ _ v=>v=.int .i64 (r)):=by
 unfold f21 at h;refine Gz Try.func21 rfl (Nat.le_of_ble_eq_true rfl) fun g0 hm hfr=>?_;have rp0:RV g0.m wI x0 up0:=hm ▸ rp0;show E _ 28 none _ _ _ _ _;refine Zf (Za (Ze .plain rfl (Tx (g:=g0) rfl rp0 fun g1 w1 p1 hs q1=>?_)));have hfr:=hfr.ext hs;refine Zg (.int .i64 (0)) rfl rfl ?_;refine Zb (Zd (Zq h (fun (s:Unit) e w=>∃ (g:Gh) ,Fr gI wI g w) (fun X51 n8 l9 h=>?_) ?_))
 ·refine Zr ?_
  refine Zf (Za (Zz (Gk p1 0) (Zc Hs rfl (PT.ptr q1)) rfl ?_));have oB:=Zm (Ql).1 q1;refine Ze .plain rfl (Gj (g:=g1) Try.isAgg3 Try.sizeOf3 rfl oB fun mE vB=>?_);obtain rfl:=Zj.1 vB;refine Ze .plain rfl (Gl (g:=g1) 3006 (xs:=([(x0).Hooks]:List Int)) (vs:=[.int .i64 ((x0).Hooks)]) Try.underlying26 Try.sizeOf3 Try.zeroValue3 rfl rfl (.cons rfl .nil) (RVs.cons (Zj.2 rfl) RVs.nil) rfl rfl fun yB oE zB hs o54 cC hxt hfl=>?_);have hfr:=hfr.stp hs;have q1:=q1.stp hs;obtain ⟨y56,n9,h⟩:=Gd h;refine Ze .plain rfl (Zp (g:=yB) (vs:=[.int .i64 (1),.int .i64 (24),zB]) en22 (.cons rfl (.cons rfl (.cons rfl .nil))) (wk22 cC n9) fun l8 bE rE hs hr=>?_);have hfr:=hfr.ext hs;have q1:=q1.ext hs;subst hr;refine Zz (.bool (!y56)) (Kh rfl) rfl ?_;refine Zg (.bool (!y56)) rfl rfl ?_;refine Zb (Zd ?_);rcases Zt h with ⟨t5,h⟩ | ⟨t5,h⟩
  ·refine Tv t5 rfl ?_
   refine Zf (Za (Zg (.int .i64 (2)) rfl rfl ?_));refine Zb (Zd (Gq (Qh ?_)));refine Tc ?_;obtain rfl:=sinj h;exact Qq rfl rfl (show _=.int .i64 (2) from rfl) ⟨_,hfr,rfl⟩
  ·refine Tu t5 rfl ?_
   refine Zf (Za (Zz (Gk p1 1) (Zc Kk rfl (PT.ptr q1)) rfl ?_));have uC:=Zm (Qg).1 q1;refine Ze .plain rfl (Gj (g:=l8) Try.isAgg26 Try.sizeOf26 rfl uC fun uE vC=>?_);refine Zz (.int .i64 (((x0).Rows).length:Int)) (Qv Try.underlying26 rfl vC) rfl ?_;refine Zz (.bool ((decide ((((x0).Rows).length:Int) > (60:Int))))) (Te rfl rfl rfl) rfl ?_;refine Zz (.bool ((decide ((((x0).Rows).length:Int) > (60:Int))))) (Wd rfl) rfl ?_;refine Zb (Zd ?_);rcases Zt h with ⟨i6,h⟩ | ⟨i6,h⟩
   ·refine Tv i6 rfl ?_
    refine Zf (Za (Zg (.int .i64 (5)) rfl rfl ?_));refine Zb (Zd (Gq (Qh ?_)));refine Tc ?_;obtain rfl:=sinj h;exact Qq rfl rfl (show _=.int .i64 (5) from rfl) ⟨_,hfr,rfl⟩
   ·refine Tu i6 rfl ?_
    refine Zf (Za (Zz (Gk p1 1) (Zc Kk rfl (PT.ptr q1)) rfl ?_));have bD:=Zm (Qg).1 q1;refine Ze .plain rfl (Gj (g:=l8) Try.isAgg26 Try.sizeOf26 rfl bD fun v62 cD=>?_);refine Zz (.int .i64 (((x0).Rows).length:Int)) (Qv Try.underlying26 rfl cD) rfl ?_;refine Gp (.bool (((((x0).Rows).length:Int) == (0:Int)))) rfl rfl rfl rfl ?_;refine Zg (.bool (((((x0).Rows).length:Int) == (0:Int)))) rfl rfl ?_;refine Zb (Zd ?_);rcases Zt h with ⟨g8,h⟩ | ⟨g8,h⟩
    ·refine Tv g8 rfl ?_
     refine Zf (Za (Zg (.int .i64 (7)) rfl rfl ?_));refine Zb (Zd (Gq (Qh ?_)));refine Tc ?_;obtain rfl:=sinj h;exact Qq rfl rfl (show _=.int .i64 (7) from rfl) ⟨_,hfr,rfl⟩
    ·refine Tu g8 rfl ?_
     refine Zf ?_;have lD:=Zm (Ql).1 q1;refine Zs (x:=.tmp 20) Try.isAgg3 Try.sizeOf3 lD fun vE nD aB=>?_;obtain rfl:=Zj.1 nD;obtain ⟨l5,lB,h⟩:=Gd h;have oD:=Zm (Qg).1 q1;refine Zs (x:=.tmp 24) Try.isAgg26 Try.sizeOf26 oD fun v8 yD mB=>?_;obtain ⟨y71,nB,h⟩:=Gd h;refine Qu (g:=l8) (n:=9) [(6,(fun v g w=>v=.bool (y71)))] [0,1,2,3,4,5,6,7,8] rfl Wt (by kernel_rfl) (⟨fun _=>Rs _,trivial⟩) ?_;refine Gc (Gk p1 0) rfl rfl (Zc Hs rfl (PT.ptr q1)) ?_;refine Qm (c:=.int .i64 ((x0).Hooks)) rfl rfl .plain (fun _ _ h=>h.ch) aB rfl ?_;refine Gc (.int .i64 (l5)) rfl rfl (Te rfl rfl (congrArg (Option.map (Value.int .i64)) lB)) ?_;refine Gc (.int .i64 ((w64 (l5 - (1:Int))))) rfl rfl (Te rfl rfl rfl) ?_;refine Gc (Gk p1 1) rfl rfl (Zc Kk rfl (PT.ptr q1)) ?_;refine Qm (c:=v8) rfl rfl .plain (fun _ _ h=>h.ch) mB rfl ?_;refine Uh (φ:=fun v g w=>v=.bool (y71)) rfl rfl .plain (fun g w hd=>Zp (g:=g) (vs:=[.int .i64 (0),.int .i64 ((w64 (l5 - (1:Int)))),v8]) en22 (.cons rfl (.cons rfl (.cons rfl .nil))) (wk22 (yD.ext hd.1) nB) fun g' w' v hs hr=>⟨g',hs,hr⟩) (fun xE hv=>?_);obtain ⟨_,_,_,rfl⟩:=hv;refine Gc (.bool (!y71)) rfl rfl (Kh rfl) ?_;refine Gc (.bool (!y71)) rfl rfl (Wd rfl) ?_;refine Vn fun zD yE hs=>?_;have hfr:=hfr.ext hs;clear hs;refine Zb (Zd ?_);rcases Zt h with ⟨o0,h⟩ | ⟨o0,h⟩
     ·refine Tv o0 rfl ?_
      refine Zf (Za (Zg (.int .i64 (2)) rfl rfl ?_));refine Zb (Zd (Gq (Qh ?_)));refine Tc ?_;obtain rfl:=sinj h;exact Qq rfl rfl (show _=.int .i64 (2) from rfl) ⟨_,hfr,rfl⟩
     ·refine Tu o0 rfl ?_
      exact Zu (To (Zd (l9 () _ _ ⟨zD,hfr⟩ h)))
 ·rintro _ aE iE ⟨lE, hfr⟩ h
  refine Zf (Za (Zg (.int .i64 (0)) rfl rfl ?_));refine Zb (Zd (Gq ?_));obtain rfl:=sinj h;exact Qq rfl rfl (show _=.int .i64 (0) from rfl) ⟨_,hfr,rfl⟩
def f23 (x0:Wi) (x1:Int):Option (It Gf):=
 Option.bind (α:=(FnT Try.prog Int (List Bool)) × Int) (
  bif (x1 == (2 : Int)) then
   some ((⟨fun a0=>f42 x0 a0⟩:FnT Try.prog Int (List Bool)),((x0).Design).Hooks)
  else
   some ((⟨fun a0=>f41 x0 a0⟩:FnT Try.prog Int (List Bool)),((((x0).Design).Rows).length:Int))
  ) fun (l5,t5)=>
 some ((fun σ cons s=>f43 t5 l5 x1 σ cons s))
theorem en23:Enters Try.prog 23:=enters_of Try.func23 (by kernel_rfl) rfl
theorem wk23 {gI:Gh} {wI:World} {x0:Wi} {x1:Int} {up0:Value} (rp0:RV gI.m wI x0 up0) {r:It Gf} (h:f23 x0 x1=some r):Fn Try.prog 23 #[up0,.int .i64 (x1)] gI wI (fun m w v=>ItV Try.prog (RA1 (α:=Gf)) (r) v m w):=by
 unfold f23 at h;refine Gz Try.func23 rfl (Nat.le_of_ble_eq_true rfl) fun g0 hm hfr=>?_;have rp0:RV g0.m wI x0 up0:=hm ▸ rp0;show E _ 21 none _ _ _ _ _;refine Zf (Za (Ze .plain rfl (Tx (g:=g0) rfl rp0 fun g1 w1 p1 hs q1=>?_)));have hfr:=hfr.ext hs;refine Ze .plain rfl (Tx (g:=g1) rfl (Zj.2 rfl) fun g2 w2 p2 hs q2=>?_);have hfr:=hfr.ext hs;have q1:=q1.ext hs;refine Zg (.nilFunc) rfl rfl ?_;refine Zb (Zd (Zf (Zs (x:=.tmp 2) Try.isAgg72 Try.sizeOf72 q1 fun v3 r3 zB=>?_)));have q4:=Zm (Kv).1 q1;have q5:=Zm (Qg).1 q4;refine Zs (x:=.tmp 10) Try.isAgg26 Try.sizeOf26 q5 fun v6 r6 cC=>?_;refine Bj (g:=g2) (n:=8) [2,3,4,5] [(6,(fun v g w=>OB 2005 g w 110 (⟨fun _=>none⟩:FnT Try.prog Int (List Bool)) v)),(7,(fun v g w=>OB 2006 g w 3 (0:Int) v))] [0,1,2,3,4,5,6,7] rfl Wt (by kernel_rfl) (⟨fun _=>up_ob,fun _=>up_ob,trivial⟩) rfl ?_;refine Qm (c:=v3) rfl rfl .plain (fun _ _ h=>h.ch) zB rfl ?_;refine Gc ((.func (.func 41) #[v3] #[])) rfl rfl (Wh (Bv (show ev _ _=v3 from rfl))) ?_;refine Xx (c:=Gk p1 0) rfl rfl .plain (Zc Lb rfl (PT.ptr q1)) ?_;refine Xx (c:=Gk (Gk p1 0) 1) rfl rfl .plain (Zc Kk rfl (PT.ptr q4)) ?_;refine L_ldL (c:=v6) rfl rfl .plain (fun _ _ h=>h.ch) rfl cC rfl ?_;refine Xx (c:=.int .i64 ((((x0).Design).Rows).length:Int)) rfl rfl .plain (Qv Try.underlying26 rfl r6) ?_;refine Uh (φ:=fun v g w=>OB 2005 g w 110 (⟨fun _=>none⟩:FnT Try.prog Int (List Bool)) v) rfl rfl .plain (fun g w hd=>D_allocX (g:=g) 2005 (⟨fun _=>none⟩:FnT Try.prog Int (List Bool)) Try.zeroValue110 (fun m w=>⟨_,rep_fnt0,rfl⟩) fun g' w' v hs b=>⟨g',hs,b⟩) (fun v7 hv=>?_);clear hv;refine Uh (φ:=fun v g w=>OB 2006 g w 3 (0:Int) v) rfl rfl .plain (fun g w hd=>D_allocX (g:=g) 2006 (0:Int) Try.zeroValue3 (fun m w=>⟨_,Zx,rfl⟩) fun g' w' v hs b=>⟨g',hs,b⟩) (fun v8 hv=>?_);clear hv;refine Xr fun g9 w9 hall=>?_;have hs:=hall.1;have hlt:Lt g2.m w2 g9 w9:=hs.ch;have hfr:=hfr.ext hs;have q1:=q1.ext hs;have q2:=q2.ext hs;have r3:=r3.ext hs;have b21:=(Qw (A:=fun g w=>OB 2005 g w 110 (⟨fun _=>none⟩:FnT Try.prog Int (List Bool)) v7) 6 rfl hall);have b22:=(Qw (A:=fun g w=>OB 2006 g w 3 (0:Int) v8) 7 rfl hall);clear hs hall;refine Rm hlt.w .plain rfl (Gr (g:=g9) (v:=(.func (.func 41) #[v3] #[])) Try.sizeOf110 rfl b21 rfl (RV_fntI (x:=(⟨fun a0=>f41 x0 a0⟩:FnT Try.prog Int (List Bool))) ⟨41,#[v3],#[],rfl,en41,fun g' w' hch a0 b0 r hu0 hr=>by obtain rfl:=Zj.1 hu0; exact Fn.mono (wk41 (r3.ch hch) hr) fun _ _ _ h=>h⟩) fun uC bE hs b23 cb=>?_);clear cb;have hfr:=hfr.stp hs;have hlt:=hlt.stp hs;have q1:=q1.stp hs;have q2:=q2.stp hs;have b22:=b22.stp hs rfl;refine Rm hlt.w .plain rfl (Gr (g:=uC) (v:=.int .i64 ((((x0).Design).Rows).length:Int)) Try.sizeOf3 rfl b22 rfl (Zj.2 rfl) fun n8 vC hs b24 cb=>?_);clear cb;have hfr:=hfr.stp hs;have hlt:=hlt.stp hs;have q1:=q1.stp hs;have q2:=q2.stp hs;have b23:=b23.stp hs rfl;refine Na hlt.w ?_;clear hlt;refine Zd ?_;obtain ⟨⟨l5,t5⟩,hx,h⟩:=Gd h;refine Gx (fun e w=>∃ (g:Gh) ,Fr gI wI g w∧e 3=p2∧PT g.m w (x1:Int) p2∧e 5=v7∧OB 2005 g w 110 (l5:FnT Try.prog Int (List Bool)) v7∧e 6=v8∧OB 2006 g w 3 (t5:Int) v8) (fun Q' hQ=>?_) (fun aE bD hR=>?_)
 ·replace h := hx
  clear hx;refine Zf (Za (Ze .plain rfl (Gj (g:=n8) Try.isAgg48 Try.sizeOf48 rfl q2 fun iE cD=>?_)));obtain rfl:=Zj.1 cD;refine Gp (.bool ((x1 == (2:Int)))) rfl rfl rfl rfl ?_;refine Zb (Zd ?_);rcases Zt h with ⟨l8,h⟩ | ⟨l8,h⟩
  ·refine Tv l8 rfl ?_
   refine Zs (x:=.tmp 2) Try.isAgg72 Try.sizeOf72 q1 fun g8 l9 vB=>?_;have nB:=Zm (Kv).1 q1;have lD:=Zm (Ql).1 nB;refine Zs (x:=.tmp 18) Try.isAgg3 Try.sizeOf3 lD fun lE nD yB=>?_;obtain rfl:=Zj.1 nD;refine Bj (g:=n8) (n:=5) [2,3,4] [] [0,1,2,3,4] rfl Wt (by kernel_rfl) trivial rfl ?_;refine Qm (c:=g8) rfl rfl .plain (fun _ _ h=>h.ch) vB rfl ?_;refine Gc ((.func (.func 42) #[g8] #[])) rfl rfl (Wh (Bv (show ev _ _=g8 from rfl))) ?_;refine Xx (c:=Gk p1 0) rfl rfl .plain (Zc Lb rfl (PT.ptr q1)) ?_;refine Xx (c:=Gk (Gk p1 0) 0) rfl rfl .plain (Zc Hs rfl (PT.ptr nB)) ?_;refine L_ldL (c:=.int .i64 (((x0).Design).Hooks)) rfl rfl .plain (fun _ _ h=>h.ch) rfl yB rfl ?_;refine Vn fun oB oD hs=>?_;have hlt:Lt n8.m vC oB oD:=hs.ch;have hfr:=hfr.ext hs;have q2:=q2.ext hs;have b23:=b23.ext hs;have b24:=b24.ext hs;have l9:=l9.ext hs;clear hs;refine Rm hlt.w .plain rfl (Gr (g:=oB) (v:=(.func (.func 42) #[g8] #[])) Try.sizeOf110 rfl b23 rfl (RV_fntI (x:=(⟨fun a0=>f42 x0 a0⟩:FnT Try.prog Int (List Bool))) ⟨42,#[g8],#[],rfl,en42,fun g' w' hch a0 b0 r hu0 hr=>by obtain rfl:=Zj.1 hu0; exact Fn.mono (wk42 (l9.ch hch) hr) fun _ _ _ h=>h⟩) fun yD mE hs b82 cb=>?_);clear cb;have hfr:=hfr.stp hs;have hlt:=hlt.stp hs;have q2:=q2.stp hs;have b24:=b24.stp hs rfl;refine Rm hlt.w .plain rfl (Gr (g:=yD) (v:=.int .i64 (((x0).Design).Hooks)) Try.sizeOf3 rfl b24 rfl (Zj.2 rfl) fun zD oE hs b83 cb=>?_);clear cb;have hfr:=hfr.stp hs;have hlt:=hlt.stp hs;have q2:=q2.stp hs;have b82:=b82.stp hs rfl;refine Na hlt.w ?_;clear hlt;obtain ⟨rfl,rfl⟩:=Ww h;exact hQ _ _ ⟨zD,hfr,rfl,q2,rfl,b82,rfl,b83⟩
  ·refine Tu l8 rfl ?_
   refine Zu ?_;obtain ⟨rfl,rfl⟩:=Ww h;exact hQ _ _ ⟨n8,hfr,rfl,q2,rfl,b23,rfl,b24⟩
 ·clear hx
  obtain ⟨rE,hfr,n9,o0,aB,i6,lB,mB⟩:=hR;refine Zf (Za ?_);obtain ⟨gp85,hs,rp85⟩:=OB.pub mB;have hfr:=hfr.stp hs;have o0:=o0.stp hs;have i6:=i6.stp hs rfl;obtain ⟨gp86,hs,rp86⟩:=OB.pub i6;have hfr:=hfr.stp hs;have o0:=o0.stp hs;have rp85:=rp85.stp hs;refine Zz ((.func (.func 43) #[] #[v8,v7,p2])) (Wh (capf_0_3 (show ev _ _=v8 from lB) (show ev _ _=v7 from aB) (show ev _ _=p2 from n9))) rfl ?_;refine Zg ((.func (.func 43) #[] #[v8,v7,p2])) rfl rfl ?_;refine Zb (Zd (Gq ?_));obtain rfl:=sinj h;exact Qq rfl rfl (show _=(.func (.func 43) #[] #[v8,v7,p2]) from rfl) ⟨_,hfr,(show ItV Try.prog (RA1 (α:=Gf)) (fun σ cons s=>f43 t5 l5 x1 σ cons s) ((.func (.func 43) #[] #[v8,v7,p2])) gp86.m bD from ⟨43,#[],#[v8,v7,p2],rfl,en43,fun g' w' hch σ cons s s' h=>wk43  (rp85.ch hch) (rp86.ch hch) (o0.ch hch) h⟩)⟩
def Ux (s:Int × Int) (f:Gf):Int × Int:=bif f.Lifted then (s.1,Bo s.2 f.Length) else (Bo s.1 f.Length,s.2)
def consN (s:Int × Int) (f:Gf):Option (Bool × (Int × Int)):=some (true,Ux s f)
def lgN (d:Design) (z:Int):Option (Int × Int):=(f23 ⟨d⟩ z).bind fun it=>it (Int × Int) consN (0,0)
def f9 (x0:Design):Option (Gn × Int):=
 (f21 x0).bind fun n=>bif (n != (0:Int)) then some ((⟨0,0,0,0⟩:Gn),n) else (lgN x0 1).bind fun p=>(lgN x0 2).bind fun q=>some ((⟨p.1,p.2,q.2,q.1⟩:Gn),(0:Int))
def pt9 (b k:Nat):Fv:=⟨.pointer (some ⟨b,k,none⟩),rfl⟩
def Fi (b:Nat) (k:Int):Vector Fv 2:=bif k == 1 then ⟨#[pt9 b 0,pt9 b 1],rfl⟩ else ⟨#[pt9 b 3,pt9 b 2],rfl⟩
def pl9 (p q:Int × Int) (l:List Int):Gn:=⟨bif l.contains 1 then 0 else p.1,bif l.contains 1 then 0 else p.2,bif l.contains 2 then 0 else q.2,bif l.contains 2 then 0 else q.1⟩
def bd9 (rec : List Int → Option Unit) (s : List Int) : Option Unit := match s with
 | []=>some ()
 | [_]=>rec []
 | [a,b]=>(rec [b]).bind fun _=>rec [a]
 | _=>none
theorem Ot {α β : Type} (f : α → β) : ∀ l : List α, Ke (l.map f) = (Ke l).map fun p => (f p.1, p.2.map f)
 | []=>rfl
 | x :: l=>by simp only [List.map_cons,Ke,Ot f l,List.map_map]; rfl
structure Rnd9 (b : Nat) (k : Int) (x0 : Design) (X0 X1 : Gn) : Prop where
 it : ∃ (o0 o1 : Nat) (f0 f1 : Gn → Int) (s0 s1 : Gn → Int → Gn) (X : Int × Int → Gn) (lg : Int × Int), Gm o0 f0 s0 ∧ Gm o1 f1 s1 ∧ (∀ a, f0 (X a) = a.1) ∧ (∀ a, f1 (X a) = a.2) ∧ (∀ a v, s0 (X a) v = X (v, a.2)) ∧ (∀ a v, s1 (X a) v = X (a.1, v)) ∧
  Fi b k=⟨#[pt9 b o0,pt9 b o1],rfl⟩∧X (0,0)=X0∧X lg=X1∧lgN x0 k=some lg
theorem rnd9 {b : Nat} {x0 : Design} {p q : Int × Int} (hp : lgN x0 1 = some p) (hq : lgN x0 2 = some q) {s s' : List Int} {k : Int} (hs : s = [1, 2] ∨ s = [1] ∨ s = [2] ∨ s = []) (hm : (k, s') ∈ Ke s) :
  Rnd9 b k x0 (pl9 p q s) (pl9 p q s')∧(s'=[1,2] ∨ s'=[1] ∨ s'=[2] ∨ s'=[])∧∀ rec,bd9 rec s=some ()→rec s'=some ():=by
 have one : ∀ c d : Int, ∃ (o0 o1 : Nat) (f0 f1 : Gn → Int) (s0 s1 : Gn → Int → Gn) (X : Int × Int → Gn) (lg : Int × Int), Gm o0 f0 s0 ∧ Gm o1 f1 s1 ∧ (∀ a, f0 (X a) = a.1) ∧ (∀ a, f1 (X a) = a.2) ∧ (∀ a v, s0 (X a) v = X (v, a.2)) ∧ (∀ a v, s1 (X a) v = X (a.1, v)) ∧
  Fi b 1=⟨#[pt9 b o0,pt9 b o1],rfl⟩∧X (0,0)=⟨0,0,c,d⟩∧X lg=⟨p.1,p.2,c,d⟩∧lgN x0 1=some lg:=fun c d=>
  ⟨0,1,_,_,_,_,fun a=>⟨a.1,a.2,c,d⟩,p,Rk,Rj,fun _=>rfl,fun _=>rfl,fun _ _=>rfl,fun _ _=>rfl,rfl,rfl,rfl,hp⟩
 have two : ∀ c d : Int, ∃ (o0 o1 : Nat) (f0 f1 : Gn → Int) (s0 s1 : Gn → Int → Gn) (X : Int × Int → Gn) (lg : Int × Int), Gm o0 f0 s0 ∧ Gm o1 f1 s1 ∧ (∀ a, f0 (X a) = a.1) ∧ (∀ a, f1 (X a) = a.2) ∧ (∀ a v, s0 (X a) v = X (v, a.2)) ∧ (∀ a v, s1 (X a) v = X (a.1, v)) ∧
  Fi b 2=⟨#[pt9 b o0,pt9 b o1],rfl⟩∧X (0,0)=⟨c,d,0,0⟩∧X lg=⟨c,d,q.2,q.1⟩∧lgN x0 2=some lg:=fun c d=>
  ⟨3,2,_,_,_,_,fun a=>⟨c,d,a.2,a.1⟩,q,Jq,Va,fun _=>rfl,fun _=>rfl,fun _ _=>rfl,fun _ _=>rfl,rfl,rfl,rfl,hq⟩
 rcases hs with rfl | rfl | rfl | rfl
 ·simp [Ke] at hm
  rcases hm with ⟨rfl,rfl⟩ | ⟨rfl,rfl⟩
  ·exact ⟨⟨one 0 0⟩,.inr (.inr (.inl rfl)),fun rec h=>by obtain ⟨a,h1,_⟩:=Gd h; exact h1⟩
  ·exact ⟨⟨two 0 0⟩,.inr (.inl rfl),fun rec h=>by obtain ⟨a,_,h1⟩:=Gd h; exact h1⟩
 ·simp [Ke] at hm
  obtain ⟨rfl,rfl⟩:=hm
  exact ⟨⟨one q.2 q.1⟩,.inr (.inr (.inr rfl)),fun rec h=>h⟩
 ·simp [Ke] at hm
  obtain ⟨rfl,rfl⟩:=hm
  exact ⟨⟨two p.1 p.2⟩,.inr (.inr (.inr rfl)),fun rec h=>h⟩
 ·simp [Ke] at hm
theorem layA_75:((Try.prog.info? 75).bind (·.zero)).map (·.cells.toList)=some [.pointer none,.pointer none]:=by kernel_rfl
theorem szA_74:(Try.prog.info? 74).map (·.size)=some 1:=by kernel_rfl
theorem zer_75 {m:Nat→Nat} {w:World}:RV m w (⟨#[⟨.pointer none,rfl⟩,⟨.pointer none,rfl⟩],rfl⟩:Vector Fv 2) (.agg #[.pointer none,.pointer none]):=
 ⟨[.pointer none,.pointer none],rep_vec (xs:=[(⟨.pointer none,rfl⟩:Fv),⟨.pointer none,rfl⟩]) ⟨[.pointer none],[.pointer none],rfl,rfl,[.pointer none],[],rfl,rfl,rfl⟩ rfl,rfl⟩
theorem rv_75 {m:Nat→Nat} {w:World} (x y:Fv):RV m w (⟨#[x,y],rfl⟩:Vector Fv 2) (.agg #[x.v,y.v]):=
 ⟨[x.v,y.v],rep_vec (xs:=[x,y]) ⟨[x.v],[y.v],rfl,rfl,[y.v],[],rfl,rfl,rfl⟩ rfl,rfl⟩
theorem Ex {e:Env} {a c:Operand} {x y:Fv} (hx:ev e a=x.v) (hy:ev e c=y.v):Pur Try.prog (.build 75 #[(0,a),(1,c)]) e (.agg #[x.v,y.v]):=by
 have h:=P_buildA (P:=Try.prog) (e:=e) (vs:=[(0,x.v),(1,y.v)]) (xs:=[(0,a),(1,c)]) [[.pointer none],[.pointer none]] Try.underlying75 layA_75 szA_74 rfl (by simp) (.cons hx (.cons hy .nil)) ⟨⟨_,rfl,by rw [Hc x.h]; rfl⟩,⟨⟨_,rfl,by rw [Hc y.h]; rfl⟩,trivial⟩⟩
 have e1:(Value.agg (Gy [[.pointer none],[.pointer none]] [(0,x.v),(1,y.v)]).flatten.toArray)=.agg #[x.v,y.v]:=by
  simp [Gy,Hc x.h,Hc y.h]
 rw [e1] at h;exact h
theorem en9:Enters Try.prog 9:=enters_of Try.func9 (by kernel_rfl) rfl
theorem wk9 {gI:Gh} {wI:World} {x0:Design} {up0:Value} (rp0:RV gI.m wI x0 up0) {r:Gn × Int} (h:f9 x0=some r):Fn Try.prog 9 #[up0] gI wI (fun m w v=>∃ y0 y1,v=.tuple #[y0,y1]∧RV m w (r.1) y0∧y1=.int .i64 (r.2)):=by
 unfold f9 at h;refine Fs Try.func9 rfl (Nat.le_of_ble_eq_true rfl) fun g0 hm hfr=>?_;have hmk:MkF g0 wI []:=MkF.start;have rp0:RV g0.m wI x0 up0:=hm ▸ rp0;show E _ 49 none _ _ _ _ _;refine Zf (Za (Ze .plain rfl (Tx (g:=g0) rfl rp0 fun g1 w1 p1 hs q1=>?_)));have hfr:=hfr.ext hs;have hmk:=hmk.ext hs;refine Ze .plain rfl (Mk (g:=g1) 2002 (⟨0,0,0,0⟩:Gn) Try.zeroValue50 (fun m w=>⟨_,Gw Zx (Gw Zx (Gw Zx Zx)),rfl⟩) fun g2 w2 p2 hs b2=>?_);have hfr:=hfr.stp hs;have hmk:=hmk.stp hs;have q1:=q1.stp hs;clear hs;refine Zg (.int .i64 (0)) rfl rfl ?_;refine Zb (Zd ?_);refine Zf (Zf (Za (Ze .plain rfl (Gj (g:=g2) Try.isAgg30 Try.sizeOf30 rfl q1 fun lI mI=>?_))));obtain ⟨n9,xG,h⟩:=Gd h;refine Ze .plain rfl (Zp (g:=g2) (vs:=[lI]) en21 (.cons rfl .nil) (wk21 mI xG) fun uE mK iL hs hr=>?_);have hfr:=hfr.ext hs;have hmk:=hmk.ext hs;have q1:=q1.ext hs;have b2:=b2.ext hs;clear hs;subst hr;refine Zg (.int .i64 (n9)) rfl rfl ?_;refine Zb (Zd ?_);refine Zf (Za (Zn (.int .i64 (n9)) rfl rfl ?_));refine Gp (.bool ((n9 != (0:Int)))) rfl rfl rfl rfl ?_;refine Zb (Zd ?_);rcases Zt h with ⟨zD,h⟩ | ⟨zD,h⟩
 ·refine Tv zD rfl ?_
  refine Zf (Za (Ze .plain rfl (Wg (g:=uE) Try.isAgg50 Try.sizeOf50 rfl b2 fun lK rK=>?_)));refine Zn (.int .i64 (n9)) rfl rfl ?_;refine Ze .plain rfl (Lm (g:=uE) Try.sizeOf50 rfl b2 rfl rK fun nI pI hs b31=>?_);have hfr:=hfr.stp hs;have hmk:=hmk.stp hs;refine Zg (.int .i64 (n9)) rfl rfl ?_;refine Zb (Zd (Gq (Tc ?_)));refine Bg (.inr rfl) hmk fun jL lL hs=>?_;have hfr:=hfr.stp hs;have b31:=b31.stp hs rfl;obtain rfl:=sinj h;obtain ⟨ad33,cv33,hp33,yG,cr33⟩:=Qs Try.isAgg50 Try.sizeOf50 b31;exact Sz rfl rfl ((show _=p2 from rfl).trans hp33) yG (show _=.int .i64 (n9) from rfl) ⟨_,hfr,_,_,rfl,cr33,rfl⟩
 ·refine Tu zD rfl (Zu (Zd ?_))
  obtain ⟨p,hp,h⟩:=Gd h;obtain ⟨q,hq,h⟩:=Gd h;obtain rfl:=sinj h;clear h
  have hb2:∃ b,p2=.pointer (some ⟨b,0,none⟩):=by obtain ⟨b,cs,hh,_⟩:=b2; exact ⟨b,hh⟩
  obtain ⟨b,rfl⟩:=hb2;refine Rd (fun e ds w=>∃ (g:Gh),Fr gI wI g w∧MkF g w ds∧e 2=.pointer (some ⟨b,0,none⟩)∧OB 2002 g w 50 (⟨p.1,p.2,q.2,q.1⟩:Gn) (.pointer (some ⟨b,0,none⟩))) (fun Q' hQ=>?_) (fun nK aK mL hR=>?_)
  ·refine Zf (Za (Ze .plain rfl (Pe (g := uE) (Value.int .i64) (Vector Fv 2) 8015 fun g3 w3 mv hs mp => ?_)))
   have hfr:=hfr.stp hs;have hmk:=hmk.stp hs;have q1:=q1.stp hs;have b2:=b2.stp hs rfl;clear hs;refine Zz (.pointer (some ⟨b,0,none⟩)) (Zc at_50_0 rfl ⟨b,0,rfl⟩) rfl ?_;refine Zz (.pointer (some ⟨b,1,none⟩)) (show Pur _ _ _ (Gk (.pointer (some ⟨b,0,none⟩)) 1) from Zc at_50_1 rfl ⟨b,0,rfl⟩) rfl ?_;refine Zz (.agg #[(pt9 b 0).v,(pt9 b 1).v]) (Ex rfl rfl) rfl ?_;refine Ze .plain rfl (Xa (g:=g3) (mv:=mv) (k:=(1:Int)) (v:=Fi b 1) Try.underlying76 (Dl Try.underlying35) rfl mp rfl rfl (rv_75 _ _) fun g4 w4 hs mp=>?_);have hfr:=hfr.stp hs;have hmk:=hmk.stp hs;have q1:=q1.stp hs;have b2:=b2.stp hs rfl;clear hs;refine Zz (.pointer (some ⟨b,3,none⟩)) (show Pur _ _ _ (Gk (.pointer (some ⟨b,0,none⟩)) 3) from Zc at_50_3 rfl ⟨b,0,rfl⟩) rfl ?_;refine Zz (.pointer (some ⟨b,2,none⟩)) (show Pur _ _ _ (Gk (.pointer (some ⟨b,0,none⟩)) 2) from Zc at_50_2 rfl ⟨b,0,rfl⟩) rfl ?_;refine Zz (.agg #[(pt9 b 3).v,(pt9 b 2).v]) (Ex rfl rfl) rfl ?_;refine Ze .plain rfl (Xa (g:=g4) (mv:=mv) (k:=(2:Int)) (v:=Fi b 2) Try.underlying76 (Dl Try.underlying35) rfl mp rfl rfl (rv_75 _ _) fun g5 w5 hs mp=>?_);have hfr:=hfr.stp hs;have hmk:=hmk.stp hs;have q1:=q1.stp hs;have b2:=b2.stp hs rfl;clear hs;refine Zo rfl rfl ?_;refine Ze .plain rfl (D_rangeM (g:=g5) 7564 Try.underlying76 rfl mp fun g6 w6 pi hs mi=>?_);have hfr:=hfr.stp hs;have hmk:=hmk.stp hs;have q1:=q1.stp hs;have b2:=b2.stp hs rfl;clear hs mp;replace mi:MI (Value.int .i64) 7564 8015 g6 w6 ([1,2].map fun k:Int=>(k,Fi b k)) none pi:=mi;replace b2:OB 2002 g6 w6 50 (pl9 p q [1,2]) (.pointer (some ⟨b,0,none⟩)):=b2;refine Zb (Zd ?_);refine Zr ?_;have hl:lp bd9 4 [1,2]=some ():=rfl;refine E_lpD hl (fun (s:List Int) e ds w=>∃ (g:Gh),(s=[1,2] ∨ s=[1] ∨ s=[2] ∨ s=[])∧Fr gI wI g w∧MkF g w ds∧e 1=p1∧PT g.m w x0 p1∧e 2=.pointer (some ⟨b,0,none⟩)∧OB 2002 g w 50 (pl9 p q s) (.pointer (some ⟨b,0,none⟩))∧e 23=pi∧MI (Value.int .i64) 7564 8015 g w (s.map fun k:Int=>(k,Fi b k)) none pi) ⟨g6,.inl rfl,hfr,hmk,rfl,q1,rfl,b2,rfl,mi⟩ (fun X rec hrec=>?_);clear hl hfr hmk q1 b2 mi;rintro s e ds w ⟨g,hs4,hfr,hmk,e1,q1,e2,b2,e23,mi⟩ h;refine Zf (Za ?_)
   cases hse:(s.map fun k:Int=>(k,Fi b k)).isEmpty with
   | true=>
     refine Ze .plain rfl (Ir (g:=g) e23 mi hse ?_);refine Zz (.bool false) (Zi rfl rfl) rfl ?_;refine Zb (Zd (Zf (Td (by rw [show ev _ _=_ from rfl]; exact congrArg Value.bool rfl) ?_)));refine Qj (Ta (Ta (Tp ?_)))
     have hs0 : s = [] := by cases s with
       | nil=>rfl
       | cons a l=>cases hse
     subst hs0;exact hQ _ _ _ ⟨g,hfr,hmk,e2,b2⟩
   | false=>
     refine Ze .plain rfl (Er (g:=g) e23 mi rfl hse fun i6 rm u160 g7 w7 hmem hs mi ru160=>?_);rw [Ot] at hmem;obtain ⟨⟨k,s'⟩,hks,hkq⟩:=List.mem_map.1 hmem;obtain ⟨rfl,rfl⟩:=Prod.mk.inj hkq;clear hmem hkq;have hfr:=hfr.stp hs;have hmk:=hmk.stp hs;have q1:=q1.stp hs;have b2:=b2.stp hs rfl;clear hs;obtain ⟨⟨o0,o1,f0,f1,s0,s1,XX,lg,hsub0,hsub1,hf0,hf1,hs0,hs1,hent,hX0,hX1,hlg⟩,hs4',hrec'⟩:=rnd9 (b:=b) hp hq hs4 hks;refine Zz (.bool true) (Zi rfl rfl) rfl ?_;refine Zb (Zd (Zf (Tt (by rw [show ev _ _=_ from rfl]; exact congrArg Value.bool rfl) ?_)));refine Zu (Zd (Zr ?_));refine Zf (Za (Ze .plain rfl (D_entry (g:=g7) e23 mi fun oG jE=>?_)));refine Zz (.int .i64 k) (Zi rfl rfl) rfl ?_;refine Zz oG (Zi rfl rfl) rfl ?_;refine Ze .plain rfl (Mk (g:=g7) 2006 (⟨#[⟨.pointer none,rfl⟩,⟨.pointer none,rfl⟩],rfl⟩:Vector Fv 2) Try.zeroValue75 (fun m w=>zer_75) fun g8 w8 p6 hs b6=>?_);have hfr:=hfr.stp hs;have hmk:=hmk.stp hs;have q1:=q1.stp hs;have b2:=b2.stp hs rfl;have mi:=mi.stp hs rfl;have jE:=jE.stp hs;clear hs;refine Zg (.int .i64 k) rfl rfl ?_;refine Ze .plain rfl (Lm (g:=g8) (v:=oG) Try.sizeOf75 rfl b6 rfl jE fun g9 w9 hs b6=>?_);have hfr:=hfr.stp hs;have hmk:=hmk.stp hs;have q1:=q1.stp hs;have b2:=b2.stp hs rfl;have mi:=mi.stp hs rfl;clear hs;obtain ⟨g10,hs,t6⟩:=b6.pub;have hfr:=hfr.stp hs;have hmk:=hmk.stp hs;have q1:=q1.stp hs;have b2:=b2.stp hs rfl;have mi:=(mi.stp hs rfl).dropc;clear hs jE;refine Zb (Zd ?_);refine Zf (Za (Ze .plain rfl (Gj (g:=g10) Try.isAgg30 Try.sizeOf30 e1 q1 fun yE jG=>?_)));have kG:RV g10.m _ (⟨x0⟩:Wi) (.agg (Gy [[.int .i64 0,.slice none 0 0]] [(0,yE)]).flatten.toArray):=Th rfl (Tl (RV.cells jG));generalize gH:(Value.agg (Gy [[.int .i64 0,.slice none 0 0]] [(0,yE)]).flatten.toArray)=lG at kG;refine Zz lG (gH ▸ Qb (vs:=[(0,yE)]) [[.int .i64 0,.slice none 0 0]] lay_72 rfl rfl (.cons rfl .nil) ⟨⟨_,rfl,Tb jG⟩,trivial⟩) rfl ?_;refine Zn (.int .i64 k) rfl rfl ?_;unfold lgN at hlg;obtain ⟨it,hit,hlg⟩:=Gd hlg;refine Ze .plain rfl (Zp (g:=g10) (vs:=[lG,.int .i64 k]) en23 (.cons rfl (.cons rfl .nil)) (wk23 kG hit) fun g11 w11 qJ hs hr=>?_);have hfr:=hfr.ext hs;have hmk:=hmk.ext hs;have q1:=q1.ext hs;have b2:=b2.ext hs;have mi:=mi.ext hs;have t6:=t6.ext hs;have mG:=hr;clear hs hr;rw [← hX0] at b2;have hB0:=hfr.size;have hmk0:=hmk;refine Zb (Zd (Zr ?_));refine Je (σ:=Int × Int) (s0:=((0,0):Int × Int)) 10 rfl (fun _=>0) [] (fun (s:Int × Int) (g:Gh) (w:World)=>Fr gI wI g w∧MkF g w ds∧PT g.m w x0 p1∧OB 2002 g w 50 (XX s) (.pointer (some ⟨b,0,none⟩))∧MI (Value.int .i64) 7564 8015 g w (s'.map fun k:Int=>(k,Fi b k)) none pi∧PT g.m w (Fi b k) p6∧ItV Try.prog (RA1 (α:=Gf)) it qJ g.m w) rfl mG hlg (fun _ _ _ _=>rfl) rfl Sr rfl (fun _ _ _ _ _ hx hR=>by obtain ⟨z0,z1,z2,z3,z4,z5,z6⟩:=hR; exact ⟨z0.ist hx hB0,z1.ist hx,z2.ist hx,z3.ist hx,z4.ist hx,z5.ist hx,z6.ist hx⟩) (fun _ _ _ _ _ hx hR=>by obtain ⟨z0,z1,z2,z3,z4,z5,z6⟩:=hR; exact ⟨z0.stp hx,z1.stp hx,z2.stp hx,z3.stp hx rfl,z4.stp hx rfl,z5.stp hx,z6.stp hx⟩) ⟨hfr,hmk,q1,b2,mi,t6,mG⟩ (fun _ h=>by cases h) ?_ ?_
     ·intro lK rJ t x bb s2 zE kH vs hsz hcs hR hrec_0 oE hrd
      obtain ⟨hfr,hmk,q1,b2,mi,t6,mG⟩:=hR;obtain ⟨cF,rfl,nB⟩:=Fh hrd;have i6:=RFr.refl zE kH;refine Za (Ze .plain rfl (Mk (g:=zE) 2009 (⟨0,0,0,false⟩:Gf) Try.zeroValue57 (fun m w=>⟨_,(Gw Zx (Gw Zx (Gw Zx Wu))),rfl⟩) fun lH tK mH hs b7=>?_));have hfr:=hfr.stp hs;have hmk:=hmk.stp hs;have i6:=i6.stp hs;have hrec_0:=hrec_0.stp hs rfl;have q1:=q1.stp hs;have b2:=b2.stp hs rfl;have mi:=mi.stp hs rfl;have t6:=t6.stp hs;have mG:=mG.stp hs;have nB:=nB.stp hs;clear hs;refine Ze .plain rfl (Lm (g:=lH) (v:=cF) Try.sizeOf57 rfl b7 rfl nB fun vB uK hs b7=>?_);have hfr:=hfr.stp hs;have hmk:=hmk.stp hs;have i6:=i6.stp hs;have hrec_0:=hrec_0.stp hs rfl;have q1:=q1.stp hs;have b2:=b2.stp hs rfl;have mi:=mi.stp hs rfl;have t6:=t6.stp hs;have mG:=mG.stp hs;clear hs nB;refine Zb (Zd ?_);obtain ⟨nH,hbr,hs,hrN⟩:=Jc hrec_0 oE;refine ⟨nH,hbr,?_⟩;have hfr:=hfr.stp hs;have hmk:=hmk.stp hs;have i6:=i6.stp hs;have q1:=q1.stp hs;have b2:=b2.stp hs rfl;have mi:=mi.stp hs rfl;have t6:=t6.stp hs;have mG:=mG.stp hs;have b7:=b7.stp hs rfl;have hrec_0:=hrN;clear hbr hs hrN
      have hv0:idx (Fi b k).toList 0=some (pt9 b o0):=by rw [hent]; rfl
      have hv1:idx (Fi b k).toList 1=some (pt9 b o1):=by rw [hent]; rfl
      refine Zr ?_;refine Zf (Za (Zz (Gk p6 0) (Fx (p:=p6) (v:=Fi b k) Try.underlying75 Try.sizeOf74 rfl t6.ptr rfl hv0) rfl ?_));refine Ze .plain rfl (Gj (g:=vB) Try.isAgg74 Try.sizeOf74 rfl (PT_idxA t6 hv0) fun u0 r0=>?_);obtain rfl:=Ve.1 r0;refine Zg (pt9 b o0).v rfl rfl ?_;refine Zb (Zd ?_);refine Rd (fun e ds w=>w=nH∧e 7=mH∧∃ (oo:Nat) (ff:Gn→Int) (ss:Gn→Int→Gn) (a:Int × Int→Int),Gm oo ff ss∧(∀ s,ff (XX s)=a s)∧ss (XX t) (Bo (a t) x.Length)=XX (Ux t x)∧e 8=(pt9 b oo).v) (fun Q' hQ=>?_) (fun e3 ds3 w3 hR=>?_)
      ·refine Zf (Za (Zz (Gk mH 3) (Zc at_57_3 rfl (OB.ptr b7)) rfl ?_))
       refine Ze .plain rfl (Wr (g:=vB) Ct.1 Try.isAgg4 Try.sizeOf4 rfl b7 fun vK oH=>?_);obtain rfl:=Wc.1 oH;refine Zb (Zd ?_)
       cases hli:x.Lifted with
       | true=>
        refine Tv rfl rfl ?_;refine Za (Zz (Gk p6 1) (Fx (p:=p6) (v:=Fi b k) Try.underlying75 Try.sizeOf74 rfl t6.ptr rfl hv1) rfl ?_);refine Ze .plain rfl (Gj (g:=vB) Try.isAgg74 Try.sizeOf74 rfl (PT_idxA t6 hv1) fun u1 r1=>?_);obtain rfl:=Ve.1 r1;refine Zg (pt9 b o1).v rfl rfl ?_;exact Zb (hQ _ _ _ ⟨rfl,rfl,o1,f1,s1,Prod.snd,hsub1,hf1,by rw [hs1]; unfold Ux; rw [hli]; rfl,rfl⟩)
       | false=>
        refine Tu rfl rfl ?_;exact Zu (hQ _ _ _ ⟨rfl,rfl,o0,f0,s0,Prod.fst,hsub0,hf0,by rw [hs0]; unfold Ux; rw [hli]; rfl,rfl⟩)
      ·obtain ⟨rfl, e7, oo, ff, ss, a, hsub, hff, hss, e8⟩ := hR
       have hpt:(pt9 b oo).v=Gk (.pointer (some ⟨b,0,none⟩)) oo:=by simp [pt9,Gk]
       refine Ue (x:=.tmp 44) Xf.1 Try.isAgg3 Try.sizeOf3 b7 fun v2 r2 hl2=>?_;obtain rfl:=Zj.1 r2;refine E_drawC (g:=vB) (n:=9) [0,1,2,4,5,6,7] [2009] [0,1,2,3,4,5,6,7,8] rfl Wt (by kernel_rfl) fun w_c hs hlt=>?_;have hfr:=hfr.ext hs;have hmk:=hmk.ext hs;have i6:=i6.ext hs;have hrec_0:=hrec_0.ext hs;have q1:=q1.ext hs;have b2:=b2.ext hs;have mi:=mi.ext hs;have t6:=t6.ext hs;have mG:=mG.ext hs;have hlt0:=hlt;clear hs;refine Yw (c:=(pt9 b oo).v) rfl rfl .plain (Zk e8) ?_;refine Yw (c:=(pt9 b oo).v) rfl rfl .plain (Zk e8) ?_;refine Yw (c:=(pt9 b oo).v) rfl rfl .plain (Ho rfl) ?_;refine CH_do rfl rfl .plain (Wr (g:=vB) hsub.1 Try.isAgg3 Try.sizeOf3 hpt b2 fun v1 r1=>?_);obtain rfl:=Zj.1 r1;refine ⟨hlt.toW,?_⟩;refine Yw (c:=Gk mH 2) rfl rfl .plain (Zc at_57_2 e7 (OB.ptr b7)) ?_;refine CH_ldO (n:=2009) (c:=.int .i64 (x.Length)) rfl rfl .plain hl2 rfl rfl ?_;refine Yw (c:=.int .i64 (Bo (ff (XX t)) x.Length)) rfl rfl .plain (P_max rfl rfl) ?_;refine Yw (c:=(pt9 b oo).v) rfl rfl .plain (Ho rfl) ?_;refine CH_do rfl rfl .plain (Nr (g:=vB) hsub Try.sizeOf3 hpt b2 rfl (Zj.2 rfl) fun g12 w12 hs b2=>?_);have hfr:=hfr.stp hs;have hmk:=hmk.stp hs;have i6:=i6.stp hs;have hrec_0:=hrec_0.stp hs rfl;have q1:=q1.stp hs;have mi:=mi.stp hs rfl;have t6:=t6.stp hs;have mG:=mG.stp hs;refine ⟨(hlt0.stp hs rfl).toW,?_⟩;refine CH_nil ?_;refine Zb (To ?_);rw [hff,hss] at b2
       have hcs2:(true,Ux t x)=(bb,s2):=by unfold consN at hcs; exact sinj hcs
       obtain ⟨rfl,rfl⟩:=Prod.mk.inj hcs2;exact ⟨_,i6,⟨hfr,hmk,q1,b2,mi,t6,mG⟩,hrec_0,rfl,rfl⟩
     ·intro bI dL ds118 hsz hR hds
      obtain ⟨hfr,hmk,q1,b2,mi,t6,mG⟩:=hR;obtain ⟨D,hdse,hD,hDb⟩:=hds.1 rfl;subst hdse;replace hmk:=MkF.push hmk0 hmk hD hDb;clear hD hDb hds;revert hmk;generalize ({ target:=.collected D,args:=#[] } :: ds:List Deferred)=vJ;intro hmk;refine ⟨fun _=>?_,fun k c hs _=>absurd hs (Nat.succ_ne_zero k).symm⟩;rw [hX1] at b2;exact To (To (Zd (hrec s' _ _ _ ⟨bI,hs4',hfr,hmk,e1,q1,e2,b2,e23,mi⟩ (hrec' _ h))))
  ·obtain ⟨g, hfr, hmk, e2, b2⟩ := hR
   refine Zf (Za (Ze .plain rfl (Wg (g:=g) Try.isAgg50 Try.sizeOf50 e2 b2 fun dI tF=>?_)));refine Ze .plain rfl (Lm (g:=g) (v:=dI) Try.sizeOf50 e2 b2 rfl tF fun iI jI hs b121=>?_);have hfr:=hfr.stp hs;have hmk:=hmk.stp hs;refine Zg (.int .i64 (0)) rfl rfl ?_;refine Zb (Zd (Gq (Bg (.inr rfl) hmk fun eL gL hs=>?_)));have hfr:=hfr.stp hs;have b121:=b121.stp hs rfl;obtain ⟨ad123,cv123,hp123,eG,cr123⟩:=Qs Try.isAgg50 Try.sizeOf50 b121;exact Sz rfl rfl ((show _=_ from e2).trans hp123) eG (show _=.int .i64 (0) from rfl) ⟨_,hfr,_,_,rfl,cr123,rfl⟩

def f52 (x0:Hm):Option ((List Int)):=
 (f80 (((x0).TieGroup).First) (((x0).TieGroup).Last)).bind fun y9=>
 (f79 y9).bind fun y11=>
 Option.bind (α:=(List Int)) (
  bif (((x0).TieGroup).Way == (2 : Int)) then
   lp (σ:=(List Int) × Int) (fun iE (l5,o0)=>
    jn (σ:=Unit) (fun _=>
     Option.bind (α:=(List Int)) (
      (idx l5 o0).bind fun lB=>
      (apnd 8 l5 (([lB]:List Int))).bind fun y56=>
      some (y56)
      ) fun t5=>
     iE (t5,(w64 (o0 - (1:Int))))
     ) fun lE=>
    bif (decide (o0 > (0 : Int))) then
     lE ()
    else
     some (l5)
    ) big (y11,(w64 (((y11).length:Int) - (2:Int))))
  else
   some (y11)
  ) fun n8=>
 some (n8)
theorem en52:Enters Try.prog 52:=enters_of Try.func52 (by kernel_rfl) rfl
theorem wk52 {gI:Gh} {wI:World} {x0:Hm} {up0:Value} (rp0:RV gI.m wI x0 up0) {r:(List Int)} (h:f52 x0=some r):Fn Try.prog 52 #[up0] gI wI (fun m w v=>RV m w (r) v):=by
 unfold f52 at h;refine Gz Try.func52 rfl (Nat.le_of_ble_eq_true rfl) fun g0 hm hfr=>?_;have rp0:RV g0.m wI x0 up0:=hm ▸ rp0;show E _ 32 none _ _ _ _ _;refine Zf (Za (Ze .plain rfl (Tx (g:=g0) rfl rp0 fun g1 w1 p1 hs q1=>?_)));have hfr:=hfr.ext hs;refine Zg (.slice none 0 0) rfl rfl ?_;refine Zb (Zd (Zf (Za (Zz (Gk p1 0) (Zc Mx rfl (PT.ptr q1)) rfl ?_))));have q2:=Zm (Ye).1 q1;refine Zz (Gk (Gk p1 0) 0) (Zc at_88_0 rfl (PT.ptr q2)) rfl ?_;have q3:=Zm (Dx).1 q2;refine Ze .plain rfl (Gj (g:=g1) Try.isAgg3 Try.sizeOf3 rfl q3 fun v4 r4=>?_);obtain rfl:=Zj.1 r4;refine Zz (Gk p1 0) (Zc Mx rfl (PT.ptr q1)) rfl ?_;have q5:=Zm (Ye).1 q1;refine Zz (Gk (Gk p1 0) 1) (Zc at_88_1 rfl (PT.ptr q5)) rfl ?_;have q6:=Zm (Bc).1 q5;refine Ze .plain rfl (Gj (g:=g1) Try.isAgg3 Try.sizeOf3 rfl q6 fun v7 r7=>?_);obtain rfl:=Zj.1 r7;obtain ⟨y9,cF,h⟩:=Gd h;refine Ze .plain rfl (Zp (g:=g1) (vs:=[.int .i64 (((x0).TieGroup).First),.int .i64 (((x0).TieGroup).Last)]) en80 (.cons rfl (.cons rfl .nil)) (wk80  cF) fun g8 w8_ v8 hs hr=>?_);have hfr:=hfr.ext hs;have q1:=q1.ext hs;have r8:=hr;obtain ⟨y11,vE,h⟩:=Gd h;refine Ze .plain rfl (Vj (g:=g8) (vs:=[v8]) en79 (.cons rfl .nil) (u79 (iO:=4012) r8 vE) fun vC iG mB hs m10=>?_);obtain ⟨o10,bD⟩:=m10;have hfr:=hfr.ext hs;have q1:=q1.ext hs;refine Zg mB rfl rfl ?_;refine Zb (Zd ?_);obtain ⟨n8,hx,h⟩:=Gd h;refine Gx (fun e w=>∃ (g:Gh) (v3:Value),Fr gI wI g w∧e 3=v3∧RV g.m w (n8:List Int) v3∧OS 4012 g w 3 (n8:List Int) v3) (fun Q' hQ=>?_) (fun bG jG hR=>?_)
 ·replace h := hx
  clear hx;refine Zf (Za (Zz (Gk p1 0) (Zc Mx rfl (PT.ptr q1)) rfl ?_));have mE:=Zm (Ye).1 q1;refine Zz (Gk (Gk p1 0) 2) (Zc at_88_2 rfl (PT.ptr mE)) rfl ?_;have dF:=Zm (Uu).1 mE;refine Ze .plain rfl (Gj (g:=vC) Try.isAgg86 Try.sizeOf86 rfl dF fun kG eF=>?_);obtain rfl:=Zj.1 eF;refine Gp (.bool ((((x0).TieGroup).Way == (2:Int)))) rfl rfl rfl rfl ?_;refine Zb (Zd ?_);rcases Zt h with ⟨n9,h⟩ | ⟨n9,h⟩
  ·refine Tv n9 rfl ?_
   refine Zf (Za (Zn mB rfl rfl ?_));refine Zz (.int .i64 ((y11).length:Int)) (Qv Try.underlying26 rfl bD) rfl ?_;refine Gp (.int .i64 ((w64 (((y11).length:Int) - (2:Int))))) rfl rfl rfl rfl ?_;refine Zg (.int .i64 ((w64 (((y11).length:Int) - (2:Int))))) rfl rfl ?_;refine Zb (Zd (Zr ?_));refine He h (fun (s:(List Int) × Int) e w=>∃ (g:Gh) (v3:Value),Fr gI wI g w∧e 3=v3∧RV g.m w (s.1:List Int) v3∧OS 4012 g w 3 (s.1:List Int) v3∧e 4=.int .i64 (s.2)) ⟨vC,(mB),hfr,rfl,bD,o10,rfl⟩ (fun X39 iE xE=>?_);rintro ⟨l5,o0⟩ cG lG ⟨oE,i6,hfr,nB,oB,vB,yB⟩ h;refine Zq h (fun (s:Unit) e w=>∃ (g:Gh) ,Fr gI wI g w∧e 3=i6∧RV g.m w (l5:List Int) i6∧OS 4012 g w 3 (l5:List Int) i6∧e 4=.int .i64 (o0)) (fun X42 lE yE h=>?_) ?_
   ·refine Zf (Za (Zo yB rfl ?_))
    refine Gp (.bool ((decide (o0 > (0:Int))))) rfl rfl rfl rfl ?_;refine Zb (Zd ?_);rcases Zt h with ⟨aB,h⟩ | ⟨aB,h⟩
    ·refine Tv aB rfl ?_
     exact Zu (Zd (yE () _ _ ⟨oE,hfr,nB,oB,vB,yB⟩ h))
    ·refine Tu aB rfl ?_
     refine Qj ?_;refine Ta ?_;refine Ta ?_;refine Tp ?_;obtain rfl:=sinj h;exact hQ _ _ ⟨oE,(i6),hfr,nB,oB,vB⟩
   ·rintro _ eG mG ⟨rE, hfr, zB, l8, l9, cC⟩ h
    obtain ⟨t5,hx,h⟩:=Gd h;refine Gx (fun e w=>∃ (g:Gh) (v3:Value),Fr gI wI g w∧e 3=v3∧RV g.m w (t5:List Int) v3∧OS 4012 g w 3 (t5:List Int) v3∧e 4=.int .i64 (o0)) (fun Q' hQ=>?_) (fun gG sG hR=>?_)
    ·replace h := hx
     clear hx;refine Zr ?_;refine Za (Zo zB rfl ?_);refine Zo zB rfl ?_;refine Zo cC rfl ?_;obtain ⟨lB,cD,h⟩:=Gd h;refine Zz (We i6 o0 1) (Zh (α:=Int) Try.underlying26 Try.sizeOf3 rfl l8 rfl cD) rfl ?_;have rF:=Wp l8 cD;refine Ze .plain rfl (Gj (g:=rE) Try.isAgg3 Try.sizeOf3 rfl rF fun xG sF=>?_);obtain rfl:=Zj.1 sF;refine Ze .plain rfl (Gl (g:=rE) 3029 (xs:=([lB]:List Int)) (vs:=[.int .i64 (lB)]) Try.underlying26 Try.sizeOf3 Try.zeroValue3 rfl rfl (.cons rfl .nil) (RVs.cons (Zj.2 rfl) RVs.nil) rfl rfl fun tF yG zG hs o54 uF hxt hfl=>?_);have hfr:=hfr.stp hs;have l8:=l8.stp hs;have l9:=l9.stp hs rfl;obtain ⟨y56,zE,h⟩:=Gd h;refine Ze .plain rfl (Wj (g:=tF) (i:=4012) Try.underlying26 Vr rfl rfl l9 l8 rfl uF zE fun vF aH uE hs o55 xF _=>?_);have hfr:=hfr.stp hs;refine Zg uE rfl rfl ?_;refine Zb (To ?_);obtain rfl:=sinj h;exact hQ _ _ ⟨vF,(uE),hfr,rfl,xF,o55,cC⟩
    ·clear hx
     obtain ⟨yF,lD,hfr,nD,oD,yD,zD⟩:=hR;refine Za (Zo zD rfl ?_);refine Gp (.int .i64 ((w64 (o0 - (1:Int))))) rfl rfl rfl rfl ?_;refine Zg (.int .i64 ((w64 (o0 - (1:Int))))) rfl rfl ?_;exact Zb (Zd (xE (t5,(w64 (o0 - (1:Int)))) _ _ ⟨yF,(lD),hfr,nD,oD,yD,rfl⟩ h))
  ·refine Tu n9 rfl ?_
   refine Zu ?_;obtain rfl:=sinj h;exact hQ _ _ ⟨vC,(mB),hfr,rfl,bD,o10⟩
 ·clear hx
  obtain ⟨cH,uC,hfr,aE,bE,aG⟩:=hR;refine Zf (Za (Zo aE rfl ?_));refine Zg uC rfl rfl ?_;refine Zb (Zd (Gq ?_));obtain rfl:=sinj h;exact Qq rfl rfl (show _=uC from rfl) ⟨_,hfr,bE⟩
def f54 (x0:FaultLoom):Option (Int):=
 jn (σ:=Unit) (fun _=>
  jn (σ:=Unit) (fun _=>
   jn (σ:=Unit) (fun _=>
    some ((0:Int))
    ) fun k33=>
   bif (((x0).Harness).Hooks != ((x0).Design).Hooks) then
    some ((4:Int))
   else
    k33 ()
   ) fun k19=>
  (f21 ((x0).Design)).bind fun y23=>
  bif (y23 != (0 : Int)) then
   some (y23)
  else
   k19 ()
  ) fun k7=>
 (f24 ((x0).Harness)).bind fun y11=>
 bif (y11 != (0 : Int)) then
  some (y11)
 else
  k7 ()
theorem en54:Enters Try.prog 54:=enters_of Try.func54 (by kernel_rfl) rfl
theorem wk54 {gI:Gh} {wI:World} {x0:FaultLoom} {up0:Value} (rp0:RV gI.m wI x0 up0) {r:Int} (h:f54 x0=some r):Fn Try.prog 54 #[up0] gI wI (fun _ _ v=>v=.int .i64 (r)):=by
 unfold f54 at h;refine Gz Try.func54 rfl (Nat.le_of_ble_eq_true rfl) fun g0 hm hfr=>?_;have rp0:RV g0.m wI x0 up0:=hm ▸ rp0;show E _ 24 none _ _ _ _ _;refine Zf (Za (Ze .plain rfl (Tx (g:=g0) rfl rp0 fun g1 w1 p1 hs q1=>?_)));have hfr:=hfr.ext hs;refine Zg (.int .i64 (0)) rfl rfl ?_;refine Zb (Zd (Zq h (fun (s:Unit) e w=>∃ (g:Gh) ,Fr gI wI g w∧e 1=p1∧PT g.m w (x0:FaultLoom) p1) (fun X7 k7 hk7 h=>?_) ?_))
 ·refine Zf (Za (Zz (Gk p1 0) (Zc Hw rfl (PT.ptr q1)) rfl ?_))
  have q8:=Zm (Qp).1 q1;refine Ze .plain rfl (Gj (g:=g1) Try.isAgg28 Try.sizeOf28 rfl q8 fun v9 r9=>?_);obtain ⟨y11,lB,h⟩:=Gd h;refine Ze .plain rfl (Zp (g:=g1) (vs:=[v9]) en24 (.cons rfl .nil) (wk24 r9 lB) fun vB nD bE hs hr=>?_);have hfr:=hfr.ext hs;have q1:=q1.ext hs;subst hr;refine Zg (.int .i64 (y11)) rfl rfl ?_;refine Zb (Zd (Zf (Za (Zn (.int .i64 (y11)) rfl rfl ?_))));refine Gp (.bool ((y11 != (0:Int)))) rfl rfl rfl rfl ?_;refine Zb (Zd ?_);rcases Zt h with ⟨t5,h⟩ | ⟨t5,h⟩
  ·refine Tv t5 rfl ?_
   refine Zf (Za (Zn (.int .i64 (y11)) rfl rfl ?_));refine Zg (.int .i64 (y11)) rfl rfl ?_;refine Zb (Zd (Gq (Tc ?_)));obtain rfl:=sinj h;exact Qq rfl rfl (show _=.int .i64 (y11) from rfl) ⟨_,hfr,rfl⟩
  ·refine Tu t5 rfl ?_
   exact Zu (Zd (hk7 () _ _ ⟨vB,hfr,rfl,q1⟩ h))
 ·rintro _ oD iE ⟨l9, hfr, l8, o0⟩ h
  refine Zq h (fun (s:Unit) e w=>∃ (g:Gh) ,Fr gI wI g w∧e 1=p1∧PT g.m w (x0:FaultLoom) p1) (fun X19 k19 mB h=>?_) ?_
  ·refine Zf (Za (Zz (Gk p1 2) (Zc Ji l8 (PT.ptr o0)) rfl ?_))
   have yB:=Zm (Qe).1 o0;refine Ze .plain rfl (Gj (g:=l9) Try.isAgg30 Try.sizeOf30 rfl yB fun zB cC=>?_);obtain ⟨y23,nB,h⟩:=Gd h;refine Ze .plain rfl (Zp (g:=l9) (vs:=[zB]) en21 (.cons rfl .nil) (wk21 cC nB) fun uC yD lE hs hr=>?_);have hfr:=hfr.ext hs;have o0:=o0.ext hs;subst hr;refine Zg (.int .i64 (y23)) rfl rfl ?_;refine Zb (Zd (Zf (Za (Zn (.int .i64 (y23)) rfl rfl ?_))));refine Gp (.bool ((y23 != (0:Int)))) rfl rfl rfl rfl ?_;refine Zb (Zd ?_);rcases Zt h with ⟨i6,h⟩ | ⟨i6,h⟩
   ·refine Tv i6 rfl ?_
    refine Zf (Za (Zn (.int .i64 (y23)) rfl rfl ?_));refine Zg (.int .i64 (y23)) rfl rfl ?_;refine Zb (Zd (Gq (Tc ?_)));obtain rfl:=sinj h;exact Qq rfl rfl (show _=.int .i64 (y23) from rfl) ⟨_,hfr,rfl⟩
   ·refine Tu i6 rfl ?_
    exact Zu (Zd (mB () _ _ ⟨uC,hfr,l8,o0⟩ h))
  ·rintro _ zD mE ⟨v8, hfr, n8, l5⟩ h
   refine Zq h (fun (s:Unit) e w=>∃ (g:Gh) ,Fr gI wI g w) (fun X33 k33 oB h=>?_) ?_
   ·refine Zf (Za (Zz (Gk p1 0) (Zc Hw n8 (PT.ptr l5)) rfl ?_))
    have n9:=Zm (Qp).1 l5;refine Zz (Gk (Gk p1 0) 0) (Zc Dj rfl (PT.ptr n9)) rfl ?_;have vC:=Zm (Wo).1 n9;refine Ze .plain rfl (Gj (g:=v8) Try.isAgg3 Try.sizeOf3 rfl vC fun oE bD=>?_);obtain rfl:=Zj.1 bD;refine Zz (Gk p1 2) (Zc Ji n8 (PT.ptr l5)) rfl ?_;have aB:=Zm (Qe).1 l5;refine Zz (Gk (Gk p1 2) 0) (Zc Hs rfl (PT.ptr aB)) rfl ?_;have cD:=Zm (Ql).1 aB;refine Ze .plain rfl (Gj (g:=v8) Try.isAgg3 Try.sizeOf3 rfl cD fun rE lD=>?_);obtain rfl:=Zj.1 lD;refine Gp (.bool ((((x0).Harness).Hooks != ((x0).Design).Hooks))) rfl rfl rfl rfl ?_;refine Zb (Zd ?_);rcases Zt h with ⟨g8,h⟩ | ⟨g8,h⟩
    ·refine Tv g8 rfl ?_
     refine Zf (Za (Zg (.int .i64 (4)) rfl rfl ?_));refine Zb (Zd (Gq (Tc ?_)));obtain rfl:=sinj h;exact Qq rfl rfl (show _=.int .i64 (4) from rfl) ⟨_,hfr,rfl⟩
    ·refine Tu g8 rfl ?_
     exact Zu (Zd (oB () _ _ ⟨v8,hfr⟩ h))
   ·rintro _ aE uE ⟨vE, hfr⟩ h
    refine Zf (Za (Zg (.int .i64 (0)) rfl rfl ?_));refine Zb (Zd (Gq ?_));obtain rfl:=sinj h;exact Qq rfl rfl (show _=.int .i64 (0) from rfl) ⟨_,hfr,rfl⟩
def f59 (x0:Zv) (z0:FaultLoom):Option (Bool):=
 (f60 ((⟨z0⟩:Gi)) x0).bind fun y6=>
 some ((!y6))
theorem en59:Enters Try.prog 59:=enters_of Try.func59 (by kernel_rfl) rfl
theorem wk59 {gI:Gh} {wI:World} {x0:Zv} {z0:FaultLoom} {up0:Value} (rp0:RV gI.m wI x0 up0) {pf0:Value} (qf0:PT gI.m wI z0 pf0) {r:Bool} (h:f59 x0 z0=some r):Fn Try.prog 59 #[up0,pf0] gI wI (fun _ _ v=>v=.bool (r)):=by
 unfold f59 at h;refine Gz Try.func59 rfl (Nat.le_of_ble_eq_true rfl) fun g0 hm hfr=>?_;have qf0:PT g0.m wI z0 pf0:=hm ▸ qf0;have rp0:RV g0.m wI x0 up0:=hm ▸ rp0;show E _ 9 none _ _ _ _ _;refine Zf (Za (Ze .plain rfl (Tx (g:=g0) rfl rp0 fun g1 w1 p1 hs q1=>?_)));have hfr:=hfr.ext hs;have qf0:=qf0.ext hs;refine Zg (.bool false) rfl rfl ?_;refine Zb (Zd (Zf (Za (Ze .plain rfl (Gj (g:=g1) Try.isAgg32 Try.sizeOf32 rfl qf0 fun v2 r2=>?_)))));have r3:RV g1.m _ (⟨z0⟩:Gi) (.agg (Gy [[.int .i64 0,.slice none 0 0,.int .i64 0,.slice none 0 0]] [(0,v2)]).flatten.toArray):=Th rfl (Tl (RV.cells r2));generalize hv3:(Value.agg (Gy [[.int .i64 0,.slice none 0 0,.int .i64 0,.slice none 0 0]] [(0,v2)]).flatten.toArray)=v3 at r3;refine Zz v3 (hv3 ▸ Qb (vs:=[(0,v2)]) [[.int .i64 0,.slice none 0 0,.int .i64 0,.slice none 0 0]] Pg rfl rfl (.cons rfl .nil) ⟨⟨_,rfl,Tb r2⟩,trivial⟩) rfl ?_;refine Ze .plain rfl (Gj (g:=g1) Try.isAgg41 Try.sizeOf41 rfl q1 fun v4 r4=>?_);obtain ⟨y6,o0,h⟩:=Gd h;refine Ze .plain rfl (Zp (g:=g1) (vs:=[v3,v4]) en60 (.cons rfl (.cons rfl .nil)) (wk60 r3 r4 o0) fun g5 w5_ v5 hs hr=>?_);have hfr:=hfr.ext hs;subst hr;refine Zz (.bool (!y6)) (Kh rfl) rfl ?_;refine Zg (.bool (!y6)) rfl rfl ?_;refine Zb (Zd (Gq ?_));obtain rfl:=sinj h;exact Qq rfl rfl (show _=.bool (!y6) from rfl) ⟨_,hfr,rfl⟩
def f8 (x0:Design) (x1:Int) (x2:Int):Option ((List Gf) × Int):=
 jn (σ:=(List Gf)) (fun zB=>
  Option.bind (α:=(List Gf)) (
   (f23 ((⟨x0⟩:Wi)) x1).bind fun rE=>
   (rE ((List Gf)) (fun oB l8=>
    bif (decide ((l8).Length > x2)) then
     (apnd 32 oB (([l8]:List Gf))).bind fun yD=>
     some (true,(yD))
    else
     some (true,(oB))
    ) (zB)).bind fun lD=>
   some (lD)
   ) fun n8=>
  some (n8,(0:Int))
  ) fun gG=>
 (f21 x0).bind fun n9=>
 bif (n9 != (0 : Int)) then
  some ([],n9)
 else
  Option.bind (α:=Bool) (
   bif (x1 != (1 : Int)) then
    some ((x1 != (2:Int)))
   else
    some (false)
   ) fun v8=>
  bif v8 then
   some ([],(2:Int))
  else
   (f22 ((0:Int)) ((1000:Int)) (([x2]:List Int))).bind fun y44=>
   bif (!y44) then
    some ([],(3:Int))
   else
    gG (([]:List Gf))
theorem en8:Enters Try.prog 8:=enters_of Try.func8 (by kernel_rfl) rfl
theorem wk8 {gI:Gh} {wI:World} {x0:Design} {x1:Int} {x2:Int} {up0:Value} (rp0:RV gI.m wI x0 up0) {r:(List Gf) × Int} (h:f8 x0 x1 x2=some r):Fn Try.prog 8 #[up0,.int .i64 (x1),.int .i64 (x2)] gI wI (fun m w v=>∃ y0 y1,v=.tuple #[y0,y1]∧RV m w (r.1) y0∧y1=.int .i64 (r.2)):=by
 unfold f8 at h;refine Fs Try.func8 rfl (Nat.le_of_ble_eq_true rfl) fun g0 hm hfr=>?_;have hmk:MkF g0 wI []:=MkF.start;have rp0:RV g0.m wI x0 up0:=hm ▸ rp0;show E _ 42 none _ _ _ _ _;refine Zf (Za (Ze .plain rfl (Tx (g:=g0) rfl rp0 fun g1 w1 p1 hs q1=>?_)));have hfr:=hfr.ext hs;have hmk:=hmk.ext hs;refine Ze .plain rfl (Tx (g:=g1) rfl (Zj.2 rfl) fun g2 w2 p2 hs q2=>?_);have hfr:=hfr.ext hs;have hmk:=hmk.ext hs;have q1:=q1.ext hs;refine Ze .plain rfl (Tj (g:=g2) 2006 ([]:List Gf) Try.zeroValue45 (fun m w=>⟨_,Wk,rfl⟩) fun g3 w3 p3 hs b3 cb=>?_);have hfr:=hfr.stp hs;have hmk:=hmk.stp hs;have q1:=q1.stp hs;have q2:=q2.stp hs;have cC:OSF 2006 60600 0 g3 w3 57 45 ([]:List Gf) p3:=cb.osf (by rfl);clear cb;refine Zg (.int .i64 (0)) rfl rfl ?_;refine Zb (Zd (Sn h (fun (s:(List Gf)) e ds w=>∃ (g:Gh) ,Fr gI wI g w∧MkF g w ds∧e 1=.int .i64 (x1)∧e 3=p1∧PT g.m w (x0:Design) p1∧e 5=p2∧PT g.m w (x2:Int) p2∧e 6=p3∧OB 2006 g w 45 (s:List Gf) p3∧OSF 2006 60600 0 g w 57 45 (s) p3) (fun X26 gG sG h=>?_) ?_))
 ·refine Zf (Za (Ze .plain rfl (Gj (g := g3) Try.isAgg30 Try.sizeOf30 rfl q1 fun lI mI => ?_)))
  obtain ⟨n9,xG,h⟩:=Gd h;refine Ze .plain rfl (Zp (g:=g3) (vs:=[lI]) en21 (.cons rfl .nil) (wk21 mI xG) fun uE mK iL hs hr=>?_);have hfr:=hfr.ext hs;have hmk:=hmk.ext hs;have q1:=q1.ext hs;have q2:=q2.ext hs;have cC:=cC.ext hs;have b3:=b3.ext hs;subst hr;refine Zg (.int .i64 (n9)) rfl rfl ?_;refine Zb (Zd (Zr ?_));refine Zf (Za (Zn (.int .i64 (n9)) rfl rfl ?_));refine Gp (.bool ((n9 != (0:Int)))) rfl rfl rfl rfl ?_;refine Zg (.bool ((n9 != (0:Int)))) rfl rfl ?_;refine Zb (Zd ?_);rcases Zt h with ⟨zD,h⟩ | ⟨zD,h⟩
  ·refine Tv zD rfl ?_
   refine Zf (Za (Zn (.int .i64 (n9)) rfl rfl ?_));refine Ze .plain rfl (Gr (g:=uE) (v:=.slice none 0 0) Try.sizeOf45 rfl b3 rfl Kg fun nI pI hs b31 cb=>?_);have zJ:OSF 2006 60600 0 nI pI 57 45 ([]:List Gf) p3:=cb.osfr (rfl) OS.nil;clear cb;have hfr:=hfr.stp hs;have hmk:=hmk.stp hs;refine Zg (.int .i64 (n9)) rfl rfl ?_;refine Zb (Zd (Gq (Qh ?_)));refine Tc ?_;refine Bg (.inr rfl) hmk fun jL lL hs=>?_;have hfr:=hfr.stp hs;have b31:=b31.stp hs rfl;obtain rfl:=sinj h;obtain ⟨ad33,cv33,hp33,yG,cr33⟩:=Qs Try.isAgg45 Try.sizeOf45 b31;exact Sz rfl rfl ((show _=p3 from rfl).trans hp33) yG (show _=.int .i64 (n9) from rfl) ⟨_,hfr,_,_,rfl,cr33,rfl⟩
  ·refine Tu zD rfl ?_
   obtain ⟨v8,hx,h⟩:=Gd h;refine Rd (fun e ds w=>∃ (g:Gh) ,Fr gI wI g w∧MkF g w ds∧e 1=.int .i64 (x1)∧e 3=p1∧PT g.m w (x0:Design) p1∧e 5=p2∧PT g.m w (x2:Int) p2∧e 6=p3∧OB 2006 g w 45 (([]:List Gf):List Gf) p3∧OSF 2006 60600 0 g w 57 45 (([]:List Gf)) p3∧e 16=.bool (v8)) (fun Q' hQ=>?_) (fun nK aK mL hR=>?_)
   ·replace h := hx
    clear hx;refine Za (Zn (.int .i64 (x1)) rfl rfl ?_);refine Gp (.bool ((x1 != (1:Int)))) rfl rfl rfl rfl ?_;refine Zn (.bool ((x1 != (1:Int)))) rfl rfl ?_;rcases Zt h with ⟨aB,h⟩ | ⟨aB,h⟩
    ·refine Ga (.int .i64 (x1)) (Zk rfl) rfl rfl aB rfl ?_
     refine Ga (.bool ((x1 != (2:Int)))) (Te rfl rfl rfl) rfl rfl aB rfl ?_;refine Zz (.bool ((x1 != (2:Int)))) (Zl (b:=(x1 != (1:Int))) rfl (Qn aB rfl)) rfl ?_;refine Zg (.bool ((x1 != (2:Int)))) rfl rfl ?_;refine Zb ?_;obtain rfl:=sinj h;exact hQ _ _ _ ⟨uE,hfr,hmk,rfl,rfl,q1,rfl,q2,rfl,b3,cC,rfl⟩
    ·refine Gb rfl rfl aB rfl rfl ?_
     refine Gb rfl rfl aB rfl rfl ?_;refine Zz (.bool false) (Zl (b:=(x1 != (1:Int))) rfl (Tw aB rfl)) rfl ?_;refine Zg (.bool false) rfl rfl ?_;refine Zb ?_;obtain rfl:=sinj h;exact hQ _ _ _ ⟨uE,hfr,hmk,rfl,rfl,q1,rfl,q2,rfl,b3,cC,rfl⟩
   ·clear hx
    obtain ⟨vE,hfr,hmk,uF,vF,lB,lE,l9,mB,g8,u6_0_36,nD⟩:=hR;rcases Zt h with ⟨aE,h⟩ | ⟨aE,h⟩
    ·refine Tt (Eq.trans (show ev _ _ = .bool (v8) from nD) (congrArg Value.bool aE)) ?_
     refine Zf (Za (Ze .plain rfl (Gr (g:=vE) (v:=.slice none 0 0) Try.sizeOf45 mB g8 rfl Kg fun qI sI hs b38 cb=>?_)));have bK:OSF 2006 60600 0 qI sI 57 45 ([]:List Gf) p3:=cb.osfr (rfl) OS.nil;clear cb;have hfr:=hfr.stp hs;have hmk:=hmk.stp hs;refine Zg (.int .i64 (2)) rfl rfl ?_;refine Zb (Zd (Gq (Qh ?_)));refine Tc ?_;refine Bg (.inr rfl) hmk fun nL oL hs=>?_;have hfr:=hfr.stp hs;have b38:=b38.stp hs rfl;obtain rfl:=sinj h;obtain ⟨ad40,cv40,hp40,zG,cr40⟩:=Qs Try.isAgg45 Try.sizeOf45 b38;exact Sz rfl rfl ((show _=p3 from mB).trans hp40) zG (show _=.int .i64 (2) from rfl) ⟨_,hfr,_,_,rfl,cr40,rfl⟩
    ·refine Td (Eq.trans (show ev _ _ = .bool (v8) from nD) (congrArg Value.bool aE)) ?_
     refine Zf (Za (Ze .plain rfl (Gj (g:=vE) Try.isAgg3 Try.sizeOf3 lE l9 fun xL jJ=>?_)));obtain rfl:=Zj.1 jJ;refine Ze .plain rfl (Gl (g:=vE) 3025 (xs:=([x2]:List Int)) (vs:=[.int .i64 (x2)]) Try.underlying26 Try.sizeOf3 Try.zeroValue3 rfl rfl (.cons rfl .nil) (RVs.cons (Zj.2 rfl) RVs.nil) rfl rfl fun kJ yL lJ hs o42 mJ hxt hfl=>?_);have hfr:=hfr.stp hs;have hmk:=hmk.stp hs;have lB:=lB.stp hs;have l9:=l9.stp hs;have u6_0_36:=u6_0_36.stp hs rfl;have g8:=g8.stp hs rfl;obtain ⟨y44,aH,h⟩:=Gd h;refine Ze .plain rfl (Zp (g:=kJ) (vs:=[.int .i64 (0),.int .i64 (1000),lJ]) en22 (.cons rfl (.cons rfl (.cons rfl .nil))) (wk22 mJ aH) fun iG oK zL hs hr=>?_);have hfr:=hfr.ext hs;have hmk:=hmk.ext hs;have lB:=lB.ext hs;have l9:=l9.ext hs;have u6_0_36:=u6_0_36.ext hs;have g8:=g8.ext hs;subst hr;refine Zz (.bool (!y44)) (Kh rfl) rfl ?_;refine Zg (.bool (!y44)) rfl rfl ?_;refine Zb (Zd ?_);rcases Zt h with ⟨bE,h⟩ | ⟨bE,h⟩
     ·refine Tv bE rfl ?_
      refine Zf (Za (Ze .plain rfl (Gr (g:=iG) (v:=.slice none 0 0) Try.sizeOf45 mB g8 rfl Kg fun nJ oJ hs b46 cb=>?_)));have cK:OSF 2006 60600 0 nJ oJ 57 45 ([]:List Gf) p3:=cb.osfr (rfl) OS.nil;clear cb;have hfr:=hfr.stp hs;have hmk:=hmk.stp hs;refine Zg (.int .i64 (3)) rfl rfl ?_;refine Zb (Zd (Gq (Qh ?_)));refine Tc ?_;refine Bg (.inr rfl) hmk fun aM bM hs=>?_;have hfr:=hfr.stp hs;have b46:=b46.stp hs rfl;obtain rfl:=sinj h;obtain ⟨ad48,cv48,hp48,cH,cr48⟩:=Qs Try.isAgg45 Try.sizeOf45 b46;exact Sz rfl rfl ((show _=p3 from mB).trans hp48) cH (show _=.int .i64 (3) from rfl) ⟨_,hfr,_,_,rfl,cr48,rfl⟩
     ·refine Tu bE rfl ?_
      exact Zu (To (Zd (sG (([]:List Gf)) _ _ _ ⟨iG,hfr,hmk,uF,vF,lB,lE,l9,mB,g8,u6_0_36⟩ h)))
 ·rintro zB pK mE cM ⟨xE, hfr, hmk, xF, yF, aG, bG, uC, vC, bD, u6_0_49⟩ h
  obtain ⟨n8,hx,h⟩:=Gd h;refine Rd (fun e ds w=>∃ (g:Gh) ,Fr gI wI g w∧MkF g w ds∧e 6=p3∧OB 2006 g w 45 (n8:List Gf) p3∧OSF 2006 60600 0 g w 57 45 (n8) p3) (fun Q' hQ=>?_) (fun dK pJ qK hR=>?_)
  ·replace h := hx
   clear hx;refine Zf (Za (Ze .plain rfl (Gj (g:=xE) Try.isAgg30 Try.sizeOf30 yF aG fun yE jG=>?_)));have kG:RV xE.m _ (⟨x0⟩:Wi) (.agg (Gy [[.int .i64 0,.slice none 0 0]] [(0,yE)]).flatten.toArray):=Th rfl (Tl (RV.cells jG));generalize gH:(Value.agg (Gy [[.int .i64 0,.slice none 0 0]] [(0,yE)]).flatten.toArray)=lG at kG;refine Zz lG (gH ▸ Qb (vs:=[(0,yE)]) [[.int .i64 0,.slice none 0 0]] lay_72 rfl rfl (.cons rfl .nil) ⟨⟨_,rfl,Tb jG⟩,trivial⟩) rfl ?_;refine Zo xF rfl ?_;obtain ⟨rE,jH,h⟩:=Gd h;refine Ze .plain rfl (Zp (g:=xE) (vs:=[lG,.int .i64 (x1)]) en23 (.cons rfl (.cons rfl .nil)) (wk23 kG jH) fun dM sK qJ hs hr=>?_);have hfr:=hfr.ext hs;have hmk:=hmk.ext hs;have uC:=uC.ext hs;have u6_0_49:=u6_0_49.ext hs;have bD:=bD.ext hs;have mG:=hr;refine Zb (Zd (Zr ?_));have hB0:=hfr.size;have hmk0:=hmk;obtain ⟨lD,hφ,h⟩:=Gd h;refine Je (σ:=((List Gf))) (s0:=(zB)) 10 rfl (fun _=>0) [] (fun (s:(List Gf)) (g:Gh) (w:World)=>Fr gI wI g w∧MkF g w mE∧PT g.m w (x2:Int) p2∧OB 2006 g w 45 (s:List Gf) p3∧OSF 2006 60600 0 g w 57 45 (s) p3∧ItV Try.prog (RA1 (α:=Gf)) rE qJ g.m w) rfl mG hφ (fun _ _ _ _=>rfl) rfl Sr rfl (fun _ _ _ _ _ hx hR=>by obtain ⟨hfr,hmk,z2,z3,z4,z5⟩:=hR; exact ⟨hfr.ist hx hB0,hmk.ist hx,z2.ist hx,z3.ist hx,z4.ist hx,z5.ist hx⟩) (fun _ _ _ _ _ hx hR=>by obtain ⟨hfr,hmk,z2,z3,z4,z5⟩:=hR; exact ⟨hfr.stp hx,hmk.stp hx,z2.stp hx,z3.stp hx rfl,z4.stp hx rfl,z5.stp hx⟩) ⟨hfr,hmk,uC,bD,u6_0_49,mG⟩ (fun _ h=>by cases h) ?_ ?_
   ·intro lK rJ s x b s2 zE kH vs hsz h hR hrec_0 oE hrd
    obtain ⟨oB,hse⟩:∃ y,y=s:=⟨s,rfl⟩;subst hse;obtain ⟨hfr,hmk,l5,t5,u6_0_103,o0⟩:=hR;obtain ⟨l8,hxe⟩:∃ y,y=x:=⟨x,rfl⟩;subst hxe;obtain ⟨cF,rfl,nB⟩:=Fh hrd;have i6:=RFr.refl zE kH;refine Za (Ze .plain rfl (Tj (g:=zE) 2009 (⟨0,0,0,false⟩:Gf) Try.zeroValue57 (fun m w=>⟨_,(Gw Zx (Gw Zx (Gw Zx Wu))),rfl⟩) fun lH tK mH hs b104 cb=>?_));have hfr:=hfr.stp hs;have hmk:=hmk.stp hs;have i6:=i6.stp hs;have hrec_0:=hrec_0.stp hs rfl;have l5:=l5.stp hs;have u6_0_103:=u6_0_103.stp hs rfl;have t5:=t5.stp hs rfl;have o0:=o0.stp hs;have nB:=nB.stp hs;clear cb;refine Ze .plain rfl (Gr (g:=lH) (v:=cF) Try.sizeOf57 rfl b104 rfl nB fun vB uK hs b105 cb=>?_);clear cb;have hfr:=hfr.stp hs;have hmk:=hmk.stp hs;have i6:=i6.stp hs;have hrec_0:=hrec_0.stp hs rfl;have l5:=l5.stp hs;have u6_0_103:=u6_0_103.stp hs rfl;have t5:=t5.stp hs rfl;have o0:=o0.stp hs;refine Zb (Zd ?_);obtain ⟨nH,hbr,hs,hrN⟩:=Jc hrec_0 oE;refine ⟨nH,hbr,?_⟩;have hfr:=hfr.stp hs;have hmk:=hmk.stp hs;have i6:=i6.stp hs;have l5:=l5.stp hs;have u6_0_103:=u6_0_103.stp hs rfl;have t5:=t5.stp hs rfl;have o0:=o0.stp hs;have b105:=b105.stp hs rfl;have hrec_0:=hrN;clear hbr hs hrN;refine Zr ?_;refine Zf (Za (Zz (Gk mH 2) (Zc at_57_2 rfl (OB.ptr b105)) rfl ?_));refine Ze .plain rfl (Wr (g:=vB) Xf.1 Try.isAgg3 Try.sizeOf3 rfl b105 fun vK oH=>?_);obtain rfl:=Zj.1 oH;refine Ze .plain rfl (Gj (g:=vB) Try.isAgg3 Try.sizeOf3 bG l5 fun xK pH=>?_);obtain rfl:=Zj.1 pH;refine Gp (.bool ((decide ((l8).Length > x2)))) rfl rfl rfl rfl ?_;refine Zb (Zd ?_);rcases Zt h with ⟨cD,h⟩ | ⟨cD,h⟩
    ·refine Tv cD rfl ?_
     refine Za (Ze .plain rfl (Sc (g:=vB) Try.isAgg45 Try.sizeOf45 vC t5 u6_0_103 fun yK iE o111=>?_));refine Ze .plain rfl (Wg (g:=vB) Try.isAgg57 Try.sizeOf57 rfl b105 fun qH sH=>?_);refine Ze .plain rfl (Gl (g:=vB) 3039 (xs:=([l8]:List Gf)) (vs:=[qH]) Try.underlying45 Try.sizeOf57 Try.zeroValue57 rfl rfl (.cons rfl .nil) (RVs.cons sH RVs.nil) rfl rfl fun tH zK aL hs o113 uH hxt hfl=>?_);have hfr:=hfr.stp hs;have hmk:=hmk.stp hs;have i6:=i6.stp hs;have hrec_0:=hrec_0.stp hs rfl;have l5:=l5.stp hs;have t5:=t5.stp hs rfl;have o0:=o0.stp hs;have iE:=iE.stp hs;have o111:=o111.stp hs rfl;obtain ⟨yD,cG,h⟩:=Gd h;refine Ze .plain rfl (Wj (g:=tH) (i:=60600) Try.underlying45 info_57 rfl rfl o111 iE rfl uH cG fun xH bL yH hs o114 dF _=>?_);have hfr:=hfr.stp hs;have hmk:=hmk.stp hs;have i6:=i6.stp hs;have hrec_0:=hrec_0.stp hs rfl;have l5:=l5.stp hs;have t5:=t5.stp hs rfl;have o0:=o0.stp hs;refine Ze .plain rfl (Gr (g:=xH) (v:=yH) Try.sizeOf45 vC t5 rfl dF fun zH aI hs b116 cb=>?_);have eF:OSF 2006 60600 0 zH aI 57 45 (yD:List Gf) p3:=cb.osfr (Jh dF) (o114.stp hs rfl);clear cb;have hfr:=hfr.stp hs;have hmk:=hmk.stp hs;have i6:=i6.stp hs;have hrec_0:=hrec_0.stp hs rfl;have l5:=l5.stp hs;have o0:=o0.stp hs;refine Zb (To ?_);obtain ⟨rfl,rfl⟩:=Ww h;exact ⟨_,i6,⟨hfr,hmk,l5,b116,eF,o0⟩,hrec_0,rfl,rfl⟩
    ·refine Tu cD rfl ?_
     refine Zu (To ?_);obtain ⟨rfl,rfl⟩:=Ww h;exact ⟨_,i6,⟨hfr,hmk,l5,t5,u6_0_103,o0⟩,hrec_0,rfl,rfl⟩
   ·intro bI dL ds118 hsz hR hds
    obtain ⟨hfr,hmk,sJ,rF,u6_0_118,kI⟩:=hR;obtain ⟨D,hdse,hD,hDb⟩:=hds.1 rfl;subst hdse;replace hmk:=MkF.push hmk0 hmk hD hDb;clear hD hDb hds;revert hmk;generalize ({ target:=.collected D,args:=#[] } :: mE:List Deferred)=vJ;intro hmk;refine ⟨fun _=>?_,fun k c hs _=>absurd hs (Nat.succ_ne_zero k).symm⟩;refine To ?_;obtain rfl:=sinj h;exact hQ _ _ _ ⟨bI,hfr,hmk,vC,rF,u6_0_118⟩
  ·clear hx
   obtain ⟨sF,hfr,hmk,yB,oD,u6_0_119⟩:=hR;refine Zf (Za (Ze .plain rfl (Sc (g:=sF) Try.isAgg45 Try.sizeOf45 yB oD u6_0_119 fun dI tF o120=>?_)));refine Ze .plain rfl (Gr (g:=sF) (v:=dI) Try.sizeOf45 yB oD rfl tF fun iI jI hs b121 cb=>?_);have xJ:OSF 2006 60600 0 iI jI 57 45 (n8:List Gf) p3:=cb.osfr (Jh tF) (o120.stp hs rfl);clear cb;have hfr:=hfr.stp hs;have hmk:=hmk.stp hs;refine Zg (.int .i64 (0)) rfl rfl ?_;refine Zb (Zd (Gq (Bg (.inr rfl) hmk fun eL gL hs=>?_)));have hfr:=hfr.stp hs;have b121:=b121.stp hs rfl;obtain rfl:=sinj h;obtain ⟨ad123,cv123,hp123,eG,cr123⟩:=Qs Try.isAgg45 Try.sizeOf45 b121;exact Sz rfl rfl ((show _=p3 from yB).trans hp123) eG (show _=.int .i64 (0) from rfl) ⟨_,hfr,_,_,rfl,cr123,rfl⟩
def f10 (x0:TieHarness) (x1:Design):Option ((List Str) × Int):=
 jn (σ:=(List Str)) (fun nB=>
  jn (σ:=(List Str)) (fun zD=>
   Option.bind (α:=(List Str)) (
    lp (σ:=(List Str) × Int) (fun lG (oB,o0)=>
     bif (decide (o0 < (((x1).Rows).length : Int))) then
      Option.bind (α:=(List Str)) (
       (idx ((x1).Rows) o0).bind fun cC=>
       (f25 ((⟨x0⟩:Qx)) cC).bind fun y81=>
       (apnd 16 oB (([y81]:List Str))).bind fun y84=>
       some (y84)
       ) fun l9=>
      lG (l9,(w64 (o0 + (1:Int))))
     else
      some (oB)
     ) big (zD,(0:Int))
    ) fun lB=>
   some (lB,(0:Int))
   ) fun mG=>
  (f21 x1).bind fun n8=>
  bif (n8 != (0 : Int)) then
   some ([],n8)
  else
   bif ((x1).Hooks != (x0).Hooks) then
    some ([],(4:Int))
   else
    mG (nB)
  ) fun k7=>
 (f24 x0).bind fun n9=>
 bif (n9 != (0 : Int)) then
  some ([],n9)
 else
  k7 ([])
theorem en10:Enters Try.prog 10:=enters_of Try.func10 (by kernel_rfl) rfl
theorem wk10 {gI:Gh} {wI:World} {x0:TieHarness} {x1:Design} {up0:Value} (rp0:RV gI.m wI x0 up0) {up1:Value} (rp1:RV gI.m wI x1 up1) {r:(List Str) × Int} (h:f10 x0 x1=some r):Fn Try.prog 10 #[up0,up1] gI wI (fun m w v=>∃ y0 y1,v=.tuple #[y0,y1]∧RV m w (r.1) y0∧y1=.int .i64 (r.2)):=by
 unfold f10 at h;refine Gz Try.func10 rfl (Nat.le_of_ble_eq_true rfl) fun g0 hm hfr=>?_;have rp0:RV g0.m wI x0 up0:=hm ▸ rp0;have rp1:RV g0.m wI x1 up1:=hm ▸ rp1;show E _ 43 none _ _ _ _ _;refine Zf (Za (Ze .plain rfl (Tx (g:=g0) rfl rp0 fun g1 w1 p1 hs q1=>?_)));have hfr:=hfr.ext hs;have rp1:=rp1.ext hs;refine Ze .plain rfl (Tx (g:=g1) rfl rp1 fun g2 w2 p2 hs q2=>?_);have hfr:=hfr.ext hs;have q1:=q1.ext hs;refine Zg (.slice none 0 0) rfl rfl ?_;refine Zg (.int .i64 (0)) rfl rfl ?_;refine Zb (Zd (Zq h (fun (s:(List Str)) e w=>∃ (g:Gh) (v4:Value),Fr gI wI g w∧e 2=p1∧PT g.m w (x0:TieHarness) p1∧e 3=p2∧PT g.m w (x1:Design) p2∧e 4=v4∧RV g.m w (s:List Str) v4∧OS 1004 g w 9 (s:List Str) v4) (fun X7 k7 hk7 h=>?_) ?_))
 ·refine Zf (Za (Ze .plain rfl (Gj (g := g2) Try.isAgg28 Try.sizeOf28 rfl q1 fun v8 r8 => ?_)))
  obtain ⟨n9,jH,h⟩:=Gd h;refine Ze .plain rfl (Zp (g:=g2) (vs:=[v8]) en24 (.cons rfl .nil) (wk24 r8 jH) fun g9 w9_ v9 hs hr=>?_);have hfr:=hfr.ext hs;have q1:=q1.ext hs;have q2:=q2.ext hs;subst hr;refine Zg (.int .i64 (n9)) rfl rfl ?_;refine Zb (Zd (Zf (Za (Zn (.int .i64 (n9)) rfl rfl ?_))));refine Gp (.bool ((n9 != (0:Int)))) rfl rfl rfl rfl ?_;refine Zb (Zd ?_);rcases Zt h with ⟨lD,h⟩ | ⟨lD,h⟩
  ·refine Tv lD rfl ?_
   refine Zf (Za (Zn (.int .i64 (n9)) rfl rfl ?_));refine Zg (.slice none 0 0) rfl rfl ?_;refine Zg (.int .i64 (n9)) rfl rfl ?_;refine Zb (Zd (Gq (Tc ?_)));obtain rfl:=sinj h;exact Ah rfl rfl (show _=.slice none 0 0 from rfl) (show _=.int .i64 (n9) from rfl) ⟨_,hfr,_,_,rfl,Kg,rfl⟩
  ·refine Tu lD rfl ?_
   exact Zu (Zd (hk7 ([]) _ _ ⟨g9,(.slice none 0 0),hfr,rfl,q1,rfl,q2,rfl,Kg,OS.nil⟩ h))
 ·rintro nB pI nJ ⟨sG, cF, hfr, aE, aB, vB, i6, dF, yB, zB⟩ h
  refine Zq h (fun (s:(List Str)) e w=>∃ (g:Gh) (v4:Value),Fr gI wI g w∧e 2=p1∧PT g.m w (x0:TieHarness) p1∧e 3=p2∧PT g.m w (x1:Design) p2∧e 4=v4∧RV g.m w (s:List Str) v4∧OS 1004 g w 9 (s:List Str) v4) (fun X22 mG kH h=>?_) ?_
  ·refine Zf (Za (Ze .plain rfl (Gj (g := sG) Try.isAgg30 Try.sizeOf30 vB i6 fun qH sH => ?_)))
   obtain ⟨n8,lH,h⟩:=Gd h;refine Ze .plain rfl (Zp (g:=sG) (vs:=[qH]) en21 (.cons rfl .nil) (wk21 sH lH) fun oE qI oJ hs hr=>?_);have hfr:=hfr.ext hs;have aB:=aB.ext hs;have i6:=i6.ext hs;have yB:=yB.ext hs;have zB:=zB.ext hs;subst hr;refine Zg (.int .i64 (n8)) rfl rfl ?_;refine Zb (Zd (Zr ?_));refine Zf (Za (Zn (.int .i64 (n8)) rfl rfl ?_));refine Gp (.bool ((n8 != (0:Int)))) rfl rfl rfl rfl ?_;refine Zg (.bool ((n8 != (0:Int)))) rfl rfl ?_;refine Zb (Zd ?_);rcases Zt h with ⟨nD,h⟩ | ⟨nD,h⟩
   ·refine Tv nD rfl ?_
    refine Zf (Za (Zn (.int .i64 (n8)) rfl rfl ?_));refine Zg (.slice none 0 0) rfl rfl ?_;refine Zg (.int .i64 (n8)) rfl rfl ?_;refine Zb (Zd (Gq (Qh ?_)));refine Tc ?_;obtain rfl:=sinj h;exact Ah rfl rfl (show _=.slice none 0 0 from rfl) (show _=.int .i64 (n8) from rfl) ⟨_,hfr,_,_,rfl,Kg,rfl⟩
   ·refine Tu nD rfl ?_
    refine Zf (Za (Zz (Gk p2 0) (Zc Hs vB (PT.ptr i6)) rfl ?_));have tH:=Zm (Ql).1 i6;refine Ze .plain rfl (Gj (g:=oE) Try.isAgg3 Try.sizeOf3 rfl tH fun pJ uH=>?_);obtain rfl:=Zj.1 uH;refine Zz (Gk p1 0) (Zc Dj aE (PT.ptr aB)) rfl ?_;have xH:=Zm (Wo).1 aB;refine Ze .plain rfl (Gj (g:=oE) Try.isAgg3 Try.sizeOf3 rfl xH fun qJ yH=>?_);obtain rfl:=Zj.1 yH;refine Gp (.bool (((x1).Hooks != (x0).Hooks))) rfl rfl rfl rfl ?_;refine Zg (.bool (((x1).Hooks != (x0).Hooks))) rfl rfl ?_;refine Zb (Zd ?_);rcases Zt h with ⟨oD,h⟩ | ⟨oD,h⟩
    ·refine Tv oD rfl ?_
     refine Zf (Za (Zg (.slice none 0 0) rfl rfl ?_));refine Zg (.int .i64 (4)) rfl rfl ?_;refine Zb (Zd (Gq (Qh ?_)));refine Tc ?_;obtain rfl:=sinj h;exact Ah rfl rfl (show _=.slice none 0 0 from rfl) (show _=.int .i64 (4) from rfl) ⟨_,hfr,_,_,rfl,Kg,rfl⟩
    ·refine Tu oD rfl ?_
     exact Zu (To (Zd (kH (nB) _ _ ⟨oE,(cF),hfr,aE,aB,vB,i6,dF,yB,zB⟩ h)))
  ·rintro zD sI rJ ⟨xG, eF, hfr, rF, sF, tF, bE, uF, vF, xF⟩ h
   obtain ⟨lB,hx,h⟩:=Gd h;refine Gx (fun e w=>∃ (g:Gh) (v4:Value),Fr gI wI g w∧e 4=v4∧RV g.m w (lB:List Str) v4∧OS 1004 g w 9 (lB:List Str) v4) (fun Q' hQ=>?_) (fun jJ sJ hR=>?_)
   ·replace h := hx
    clear hx;refine Zf (Za (Zz (Gk p2 1) (Zc Kk tF (PT.ptr bE)) rfl ?_));have zH:=Zm (Qg).1 bE;refine Ze .plain rfl (Gj (g:=xG) Try.isAgg26 Try.sizeOf26 rfl zH fun uC yG=>?_);refine Zz (.int .i64 (((x1).Rows).length:Int)) (Qv Try.underlying26 rfl yG) rfl ?_;refine Zn (.int .i64 (0)) rfl rfl ?_;refine Zb (Zd (Zr ?_));refine He h (fun (s:(List Str) × Int) e w=>∃ (g:Gh) (v4:Value),Fr gI wI g w∧e 2=p1∧PT g.m w (x0:TieHarness) p1∧e 4=v4∧RV g.m w (s.1:List Str) v4∧OS 1004 g w 9 (s.1:List Str) v4∧e 28=uC∧RV g.m w ((x1).Rows:List Int) uC∧e 29=.int .i64 ((((x1).Rows).length:Int))∧e 30=.int .i64 (s.2)) ⟨xG,(eF),hfr,rF,sF,uF,vF,xF,rfl,yG,rfl,rfl⟩ (fun X61 lG mH=>?_);rintro ⟨oB,o0⟩ kJ vJ ⟨vC,yF,hfr,iE,t5,lE,g8,l8,bD,l5,cD,mB⟩ h;refine Zf (Za (Zz (.bool ((decide (o0 < (((x1).Rows).length:Int))))) (Te mB cD rfl) rfl ?_));refine Zb (Zd (Zf ?_));rcases Zt h with ⟨yD,h⟩ | ⟨yD,h⟩
    ·refine Tv yD rfl ?_
     refine Zu (Zd ?_);obtain ⟨l9,hx,h⟩:=Gd h;refine Gx (fun e w=>∃ (g:Gh) (v4:Value),Fr gI wI g w∧e 2=p1∧PT g.m w (x0:TieHarness) p1∧e 4=v4∧RV g.m w (l9:List Str) v4∧OS 1004 g w 9 (l9:List Str) v4∧e 28=uC∧RV g.m w ((x1).Rows:List Int) uC∧e 29=.int .i64 ((((x1).Rows).length:Int))∧e 30=.int .i64 (o0)) (fun Q' hQ=>?_) (fun lJ xJ hR=>?_)
     ·replace h := hx
      clear hx;refine Zr ?_;refine Zf (Za ?_);obtain ⟨cC,rE,h⟩:=Gd h;refine Zz (We uC o0 1) (Zh (α:=Int) Try.underlying26 Try.sizeOf3 bD l5 mB rE) rfl ?_;have aI:=Wp l5 rE;refine Ze .plain rfl (Gj (g:=vC) Try.isAgg3 Try.sizeOf3 rfl aI fun zJ bI=>?_);obtain rfl:=Zj.1 bI;refine Zg (.int .i64 (cC)) rfl rfl ?_;refine Zb (Zd (Za (Zo lE rfl ?_)));refine Ze .plain rfl (Gj (g:=vC) Try.isAgg28 Try.sizeOf28 iE t5 fun uE zG=>?_);have aH:RV vC.m _ (⟨x0⟩:Qx) (.agg (Gy [[.int .i64 0,.slice none 0 0]] [(0,uE)]).flatten.toArray):=Th rfl (Tl (RV.cells zG));generalize nH:(Value.agg (Gy [[.int .i64 0,.slice none 0 0]] [(0,uE)]).flatten.toArray)=cH at aH;refine Zz cH (nH ▸ Qb (vs:=[(0,uE)]) [[.int .i64 0,.slice none 0 0]] lay_79 rfl rfl (.cons rfl .nil) ⟨⟨_,rfl,Tb zG⟩,trivial⟩) rfl ?_;refine Zn (.int .i64 (cC)) rfl rfl ?_;obtain ⟨y81,oH,h⟩:=Gd h;refine Ze .plain rfl (Zp (g:=vC) (vs:=[cH,.int .i64 (cC)]) en25 (.cons rfl (.cons rfl .nil)) (wk25 aH oH) fun dI mJ aK hs hr=>?_);have hfr:=hfr.ext hs;have t5:=t5.ext hs;have g8:=g8.ext hs;have l8:=l8.ext hs;have l5:=l5.ext hs;subst hr;refine Ze .plain rfl (Gl (g:=dI) 3039 (xs:=([y81]:List Str)) (vs:=[Str.v (y81)]) Try.underlying34 Try.sizeOf9 Try.zeroValue9 rfl rfl (.cons rfl .nil) (RVs.cons (Jb.2 rfl) RVs.nil) rfl rfl fun iI bK cK hs o82 jI hxt hfl=>?_);have hfr:=hfr.stp hs;have t5:=t5.stp hs;have g8:=g8.stp hs;have l8:=l8.stp hs rfl;have l5:=l5.stp hs;obtain ⟨y84,pH,h⟩:=Gd h;refine Ze .plain rfl (Wj (g:=iI) (i:=1004) Try.underlying34 info_9 rfl rfl l8 g8 rfl jI pH fun kI dK gH hs o83 lI _=>?_);have hfr:=hfr.stp hs;have t5:=t5.stp hs;have l5:=l5.stp hs;refine Zg gH rfl rfl ?_;refine Zb (To ?_);obtain rfl:=sinj h;exact hQ _ _ ⟨kI,(gH),hfr,iE,t5,rfl,lI,o83,bD,l5,cD,mB⟩
     ·clear hx
      obtain ⟨mI,aG,hfr,bG,cG,eG,gG,iG,vE,xE,yE,zE⟩:=hR;refine Za (Gp (.int .i64 ((w64 (o0 + (1:Int))))) zE rfl rfl rfl ?_);refine Zn (.int .i64 ((w64 (o0 + (1:Int))))) rfl rfl ?_;exact Zb (Zd (mH (l9,(w64 (o0 + (1:Int)))) _ _ ⟨mI,(aG),hfr,bG,cG,eG,gG,iG,vE,xE,yE,rfl⟩ h))
    ·refine Tu yD rfl ?_
     refine Qj ?_;refine Ta ?_;refine Ta ?_;refine Tp ?_;obtain rfl:=sinj h;exact hQ _ _ ⟨vC,(yF),hfr,lE,g8,l8⟩
   ·clear hx
    obtain ⟨lK,mE,hfr,jG,kG,nI⟩:=hR;refine Zf (Za (Zo jG rfl ?_));refine Zg mE rfl rfl ?_;refine Zg (.int .i64 (0)) rfl rfl ?_;refine Zb (Zd (Gq ?_));obtain rfl:=sinj h;exact Ah rfl rfl (show _=mE from rfl) (show _=.int .i64 (0) from rfl) ⟨_,hfr,_,_,rfl,kG,rfl⟩
theorem v10_0 {iO:Nat} {gI:Gh} {wI:World} {x0:TieHarness} {x1:Design} {up0:Value} (rp0:RV gI.m wI x0 up0) {up1:Value} (rp1:RV gI.m wI x1 up1) {r:(List Str) × Int} (h:f10 x0 x1=some r):FnG Try.prog 10 #[up0,up1] gI wI (fun g w v=>∃ y0 y1,v=.tuple #[y0,y1]∧OM iO g w 9 (r.1) y0∧y1=.int .i64 (r.2)):=by
 unfold f10 at h;refine Vy Try.func10 rfl (Nat.le_of_ble_eq_true rfl) fun g0 hm hfr=>?_;have rp0:RV g0.m wI x0 up0:=hm ▸ rp0;have rp1:RV g0.m wI x1 up1:=hm ▸ rp1;show E _ 43 none _ _ _ _ _;refine Zf (Za (Ze .plain rfl (Tx (g:=g0) rfl rp0 fun g1 w1 p1 hs q1=>?_)));have hfr:=hfr.ext hs;have rp1:=rp1.ext hs;refine Ze .plain rfl (Tx (g:=g1) rfl rp1 fun g2 w2 p2 hs q2=>?_);have hfr:=hfr.ext hs;have q1:=q1.ext hs;refine Zg (.slice none 0 0) rfl rfl ?_;refine Zg (.int .i64 (0)) rfl rfl ?_;refine Zb (Zd (Zq h (fun (s:(List Str)) e w=>∃ (g:Gh) (v4:Value),Fr gI wI g w∧e 2=p1∧PT g.m w (x0:TieHarness) p1∧e 3=p2∧PT g.m w (x1:Design) p2∧e 4=v4∧RV g.m w (s:List Str) v4∧OS 1004 g w 9 (s:List Str) v4) (fun X7 k7 hk7 h=>?_) ?_))
 ·refine Zf (Za (Ze .plain rfl (Gj (g := g2) Try.isAgg28 Try.sizeOf28 rfl q1 fun v8 r8 => ?_)))
  obtain ⟨aB,aH,h⟩:=Gd h;refine Ze .plain rfl (Zp (g:=g2) (vs:=[v8]) en24 (.cons rfl .nil) (wk24 r8 aH) fun g9 w9_ v9 hs hr=>?_);have hfr:=hfr.ext hs;have q1:=q1.ext hs;have q2:=q2.ext hs;subst hr;refine Zg (.int .i64 (aB)) rfl rfl ?_;refine Zb (Zd (Zf (Za (Zn (.int .i64 (aB)) rfl rfl ?_))));refine Gp (.bool ((aB != (0:Int)))) rfl rfl rfl rfl ?_;refine Zb (Zd ?_);rcases Zt h with ⟨uC,h⟩ | ⟨uC,h⟩
  ·refine Tv uC rfl ?_
   refine Zf (Za (Zn (.int .i64 (aB)) rfl rfl ?_));refine Zg (.slice none 0 0) rfl rfl ?_;refine Zg (.int .i64 (aB)) rfl rfl ?_;refine Zb (Zd (Gq (Tc ?_)));obtain rfl:=sinj h;obtain ⟨gh,hxh,homh⟩:=OM.handn (i:=iO) (t:=9) (α:=Str) hfr;exact Ah rfl rfl (show _=.slice none 0 0 from rfl) (show _=.int .i64 (aB) from rfl) ⟨gh,hxh,_,_,rfl,homh,rfl⟩
  ·refine Tu uC rfl ?_
   exact Zu (Zd (hk7 ([]) _ _ ⟨g9,(.slice none 0 0),hfr,rfl,q1,rfl,q2,rfl,Kg,OS.nil⟩ h))
 ·rintro xE mI lJ ⟨kG, yE, hfr, lD, n8, lB, i6, zE, mB, nB⟩ h
  refine Zq h (fun (s:(List Str)) e w=>∃ (g:Gh) (v4:Value),Fr gI wI g w∧e 2=p1∧PT g.m w (x0:TieHarness) p1∧e 3=p2∧PT g.m w (x1:Design) p2∧e 4=v4∧RV g.m w (s:List Str) v4∧OS 1004 g w 9 (s:List Str) v4) (fun X22 mJ cH h=>?_) ?_
  ·refine Zf (Za (Ze .plain rfl (Gj (g := kG) Try.isAgg30 Try.sizeOf30 lB i6 fun nH oH => ?_)))
   obtain ⟨l9,gH,h⟩:=Gd h;refine Ze .plain rfl (Zp (g:=kG) (vs:=[nH]) en21 (.cons rfl .nil) (wk21 oH gH) fun bE nI nJ hs hr=>?_);have hfr:=hfr.ext hs;have n8:=n8.ext hs;have i6:=i6.ext hs;have mB:=mB.ext hs;have nB:=nB.ext hs;subst hr;refine Zg (.int .i64 (l9)) rfl rfl ?_;refine Zb (Zd (Zr ?_));refine Zf (Za (Zn (.int .i64 (l9)) rfl rfl ?_));refine Gp (.bool ((l9 != (0:Int)))) rfl rfl rfl rfl ?_;refine Zg (.bool ((l9 != (0:Int)))) rfl rfl ?_;refine Zb (Zd ?_);rcases Zt h with ⟨vC,h⟩ | ⟨vC,h⟩
   ·refine Tv vC rfl ?_
    refine Zf (Za (Zn (.int .i64 (l9)) rfl rfl ?_));refine Zg (.slice none 0 0) rfl rfl ?_;refine Zg (.int .i64 (l9)) rfl rfl ?_;refine Zb (Zd (Gq (Qh ?_)));refine Tc ?_;obtain rfl:=sinj h;obtain ⟨gh,hxh,homh⟩:=OM.handn (i:=iO) (t:=9) (α:=Str) hfr;exact Ah rfl rfl (show _=.slice none 0 0 from rfl) (show _=.int .i64 (l9) from rfl) ⟨gh,hxh,_,_,rfl,homh,rfl⟩
   ·refine Tu vC rfl ?_
    refine Zf (Za (Zz (Gk p2 0) (Zc Hs lB (PT.ptr i6)) rfl ?_));have pH:=Zm (Ql).1 i6;refine Ze .plain rfl (Gj (g:=bE) Try.isAgg3 Try.sizeOf3 rfl pH fun oJ qH=>?_);obtain rfl:=Zj.1 qH;refine Zz (Gk p1 0) (Zc Dj lD (PT.ptr n8)) rfl ?_;have sH:=Zm (Wo).1 n8;refine Ze .plain rfl (Gj (g:=bE) Try.isAgg3 Try.sizeOf3 rfl sH fun pJ tH=>?_);obtain rfl:=Zj.1 tH;refine Gp (.bool (((x1).Hooks != (x0).Hooks))) rfl rfl rfl rfl ?_;refine Zg (.bool (((x1).Hooks != (x0).Hooks))) rfl rfl ?_;refine Zb (Zd ?_);rcases Zt h with ⟨bD,h⟩ | ⟨bD,h⟩
    ·refine Tv bD rfl ?_
     refine Zf (Za (Zg (.slice none 0 0) rfl rfl ?_));refine Zg (.int .i64 (4)) rfl rfl ?_;refine Zb (Zd (Gq (Qh ?_)));refine Tc ?_;obtain rfl:=sinj h;obtain ⟨gh,hxh,homh⟩:=OM.handn (i:=iO) (t:=9) (α:=Str) hfr;exact Ah rfl rfl (show _=.slice none 0 0 from rfl) (show _=.int .i64 (4) from rfl) ⟨gh,hxh,_,_,rfl,homh,rfl⟩
    ·refine Tu bD rfl ?_
     exact Zu (To (Zd (cH (xE) _ _ ⟨bE,(yE),hfr,lD,n8,lB,i6,zE,mB,nB⟩ h)))
  ·rintro kI pI qJ ⟨lG, cF, hfr, dF, eF, rF, nD, sF, tF, uF⟩ h
   obtain ⟨oD,hx,h⟩:=Gd h;refine Gx (fun e w=>∃ (g:Gh) (v4:Value),Fr gI wI g w∧e 4=v4∧RV g.m w (oD:List Str) v4∧OS 1004 g w 9 (oD:List Str) v4) (fun Q' hQ=>?_) (fun qI rJ hR=>?_)
   ·replace h := hx
    clear hx;refine Zf (Za (Zz (Gk p2 1) (Zc Kk rF (PT.ptr nD)) rfl ?_));have uH:=Zm (Qg).1 nD;refine Ze .plain rfl (Gj (g:=lG) Try.isAgg26 Try.sizeOf26 rfl uH fun vB mG=>?_);refine Zz (.int .i64 (((x1).Rows).length:Int)) (Qv Try.underlying26 rfl mG) rfl ?_;refine Zn (.int .i64 (0)) rfl rfl ?_;refine Zb (Zd (Zr ?_));refine He h (fun (s:(List Str) × Int) e w=>∃ (g:Gh) (v4:Value),Fr gI wI g w∧e 2=p1∧PT g.m w (x0:TieHarness) p1∧e 4=v4∧RV g.m w (s.1:List Str) v4∧OS 1004 g w 9 (s.1:List Str) v4∧e 28=vB∧RV g.m w ((x1).Rows:List Int) vB∧e 29=.int .i64 ((((x1).Rows).length:Int))∧e 30=.int .i64 (s.2)) ⟨lG,(cF),hfr,dF,eF,sF,tF,uF,rfl,mG,rfl,rfl⟩ (fun X61 sJ jH=>?_);rintro ⟨lI,t5⟩ sI vJ ⟨yB,vF,hfr,yD,l5,zD,g8,l8,zB,o0,cC,n9⟩ h;refine Zf (Za (Zz (.bool ((decide (t5 < (((x1).Rows).length:Int))))) (Te n9 cC rfl) rfl ?_));refine Zb (Zd (Zf ?_));rcases Zt h with ⟨cD,h⟩ | ⟨cD,h⟩
    ·refine Tv cD rfl ?_
     refine Zu (Zd ?_);obtain ⟨oB,hx,h⟩:=Gd h;refine Gx (fun e w=>∃ (g:Gh) (v4:Value),Fr gI wI g w∧e 2=p1∧PT g.m w (x0:TieHarness) p1∧e 4=v4∧RV g.m w (oB:List Str) v4∧OS 1004 g w 9 (oB:List Str) v4∧e 28=vB∧RV g.m w ((x1).Rows:List Int) vB∧e 29=.int .i64 ((((x1).Rows).length:Int))∧e 30=.int .i64 (t5)) (fun Q' hQ=>?_) (fun jJ xJ hR=>?_)
     ·replace h := hx
      clear hx;refine Zr ?_;refine Zf (Za ?_);obtain ⟨iE,lE,h⟩:=Gd h;refine Zz (We vB t5 1) (Zh (α:=Int) Try.underlying26 Try.sizeOf3 zB o0 n9 lE) rfl ?_;have xH:=Wp o0 lE;refine Ze .plain rfl (Gj (g:=yB) Try.isAgg3 Try.sizeOf3 rfl xH fun zJ yH=>?_);obtain rfl:=Zj.1 yH;refine Zg (.int .i64 (iE)) rfl rfl ?_;refine Zb (Zd (Za (Zo zD rfl ?_)));refine Ze .plain rfl (Gj (g:=yB) Try.isAgg28 Try.sizeOf28 yD l5 fun mE sG=>?_);have xG:RV yB.m _ (⟨x0⟩:Qx) (.agg (Gy [[.int .i64 0,.slice none 0 0]] [(0,mE)]).flatten.toArray):=Th rfl (Tl (RV.cells sG));generalize kH:(Value.agg (Gy [[.int .i64 0,.slice none 0 0]] [(0,mE)]).flatten.toArray)=yG at xG;refine Zz yG (kH ▸ Qb (vs:=[(0,mE)]) [[.int .i64 0,.slice none 0 0]] lay_79 rfl rfl (.cons rfl .nil) ⟨⟨_,rfl,Tb sG⟩,trivial⟩) rfl ?_;refine Zn (.int .i64 (iE)) rfl rfl ?_;obtain ⟨y81,lH,h⟩:=Gd h;refine Ze .plain rfl (Zp (g:=yB) (vs:=[yG,.int .i64 (iE)]) en25 (.cons rfl (.cons rfl .nil)) (wk25 xG lH) fun zH kJ aK hs hr=>?_);have hfr:=hfr.ext hs;have l5:=l5.ext hs;have g8:=g8.ext hs;have l8:=l8.ext hs;have o0:=o0.ext hs;subst hr;refine Ze .plain rfl (Gl (g:=zH) 3039 (xs:=([y81]:List Str)) (vs:=[Str.v (y81)]) Try.underlying34 Try.sizeOf9 Try.zeroValue9 rfl rfl (.cons rfl .nil) (RVs.cons (Jb.2 rfl) RVs.nil) rfl rfl fun aI bK cK hs o82 bI hxt hfl=>?_);have hfr:=hfr.stp hs;have l5:=l5.stp hs;have g8:=g8.stp hs;have l8:=l8.stp hs rfl;have o0:=o0.stp hs;obtain ⟨y84,mH,h⟩:=Gd h;refine Ze .plain rfl (Wj (g:=aI) (i:=1004) Try.underlying34 info_9 rfl rfl l8 g8 rfl bI mH fun dI dK zG hs o83 iI _=>?_);have hfr:=hfr.stp hs;have l5:=l5.stp hs;have o0:=o0.stp hs;refine Zg zG rfl rfl ?_;refine Zb (To ?_);obtain rfl:=sinj h;exact hQ _ _ ⟨dI,(zG),hfr,yD,l5,rfl,iI,o83,zB,o0,cC,n9⟩
     ·clear hx
      obtain ⟨jI,xF,hfr,yF,aG,bG,cG,eG,oE,rE,uE,vE⟩:=hR;refine Za (Gp (.int .i64 ((w64 (t5 + (1:Int))))) vE rfl rfl rfl ?_);refine Zn (.int .i64 ((w64 (t5 + (1:Int))))) rfl rfl ?_;exact Zb (Zd (jH (oB,(w64 (t5 + (1:Int)))) _ _ ⟨jI,(xF),hfr,yF,aG,bG,cG,eG,oE,rE,uE,rfl⟩ h))
    ·refine Tu cD rfl ?_
     refine Qj ?_;refine Ta ?_;refine Ta ?_;refine Tp ?_;obtain rfl:=sinj h;exact hQ _ _ ⟨yB,(vF),hfr,zD,g8,l8⟩
   ·clear hx
    obtain ⟨lK,aE,hfr,gG,iG,jG⟩:=hR;refine Zf (Za (Zo gG rfl ?_));refine Zg aE rfl rfl ?_;refine Zg (.int .i64 (0)) rfl rfl ?_;refine Zb (Zd (Gq ?_));obtain rfl:=sinj h;obtain ⟨gh,hxh,homh⟩:=OM.hand (i:=iO) plain_str hfr jG iG;exact Ah rfl rfl (show _=aE from rfl) (show _=.int .i64 (0) from rfl) ⟨gh,hxh,_,_,rfl,homh,rfl⟩
def f28 (x0:Int) (x1:List TieGroup):Option (TieHarness × Int × Int):=
 jn (σ:=TieHarness) (fun yG=>
  jn (σ:=TieHarness × (List Int)) (fun (xH,nD)=>
   some ((⟨x0,nD⟩:TieHarness),(0:Int),(0:Int))
   ) fun yH=>
  lp (σ:=TieHarness × (List Int) × Int) (fun zH (n9,aB,l5)=>
   bif (decide (l5 < ((x1).length : Int))) then
    jn (σ:=TieHarness × (List Int)) (fun (iE,lE)=>
     zH (iE,lE,(w64 (l5 + (1:Int))))
     ) fun aI=>
    (idx x1 l5).bind fun t5=>
    jn (σ:=TieHarness) (fun oD=>
     (f52 ((⟨t5⟩:Hm))).bind fun aE=>
     (f51 aE ((t5).Times)).bind fun mE=>
     (apnd 8 aB mE).bind fun bE=>
     bif (decide (((bE).length : Int) > (96 : Int))) then
      some (oD,l5,(8:Int))
     else
      aI (oD,bE)
     ) fun bI=>
    Option.bind (α:=Bool) (
     (f45 ((0:Int)) ((w64 (x0 - (1:Int)))) (([(t5).First,(t5).Last]:List Int))).bind fun lD=>
     bif (!lD) then
      some (true)
     else
      bif ((t5).Way != (1 : Int)) then
       bif ((t5).Way != (2 : Int)) then
        some (true)
       else
        (f45 ((1:Int)) ((8:Int)) (([(t5).Times]:List Int))).bind fun eF=>
        some ((!eF))
      else
       (f45 ((1:Int)) ((8:Int)) (([(t5).Times]:List Int))).bind fun rF=>
       some ((!rF))
     ) fun vB=>
    bif vB then
     some (n9,l5,(2:Int))
    else
     bI (n9)
   else
    yH (n9,aB)
   ) big (yG,[],(0:Int))
  ) fun mL=>
 (f45 ((1:Int)) ((24:Int)) (([x0]:List Int))).bind fun zG=>
 bif (!zG) then
  some ((⟨0,[]⟩:TieHarness),(0:Int),(2:Int))
 else
  bif (decide (((x1).length : Int) > (8 : Int))) then
   some ((⟨0,[]⟩:TieHarness),(0:Int),(5:Int))
  else
   bif (((x1).length : Int) == (0 : Int)) then
    some ((⟨0,[]⟩:TieHarness),(0:Int),(7:Int))
   else
    mL ((⟨0,[]⟩:TieHarness))
theorem en28:Enters Try.prog 28:=enters_of Try.func28 (by kernel_rfl) rfl
theorem wk28 {gI:Gh} {wI:World} {x0:Int} {x1:List TieGroup} {up1:Value} (rp1:RV gI.m wI x1 up1) {r:TieHarness × Int × Int} (h:f28 x0 x1=some r):Fn Try.prog 28 #[.int .i64 (x0),up1] gI wI (fun m w v=>∃ y0 y1 y2,v=.tuple #[y0,y1,y2]∧RV m w (r.1) y0∧y1=.int .i64 (r.2.1)∧y2=.int .i64 (r.2.2)):=by
 unfold f28 at h;refine Gz Try.func28 rfl (Nat.le_of_ble_eq_true rfl) fun g0 hm hfr=>?_;have rp1:RV g0.m wI x1 up1:=hm ▸ rp1;show E _ 78 none _ _ _ _ _;refine Zf (Za (Ze .plain rfl (Tj (g:=g0) 2004 (⟨0,[]⟩:TieHarness) Try.zeroValue28 (fun m w=>⟨_,(Gw Zx Wk),rfl⟩) fun g1 w1 p1 hs b1 cb=>?_)));have hfr:=hfr.stp hs;have rp1:=rp1.stp hs;have oE:OSF 2004 60401 1 g1 w1 3 28 ([]:List Int) p1:=cb.osf (by rfl);clear cb;refine Zg (.int .i64 (0)) rfl rfl ?_;refine Zg (.int .i64 (0)) rfl rfl ?_;refine Zb (Zd (Zq h (fun (s:TieHarness) e w=>∃ (g:Gh) ,Fr gI wI g w∧e 0=.int .i64 (x0)∧e 1=up1∧RV g.m w (x1:List TieGroup) up1∧e 4=p1∧OB 2004 g w 28 (s:TieHarness) p1∧OSF 2004 60401 1 g w 3 28 ((s).Warps) p1) (fun X17 mL nL h=>?_) ?_))
 ·refine Zr ?_
  refine Zf (Za (Zn (.int .i64 (x0)) rfl rfl ?_));refine Ze .plain rfl (Gl (g:=g1) 3012 (xs:=([x0]:List Int)) (vs:=[.int .i64 (x0)]) Try.underlying26 Try.sizeOf3 Try.zeroValue3 rfl rfl (.cons rfl .nil) (RVs.cons (Zj.2 rfl) RVs.nil) rfl rfl fun tN zP uN hs o18 vN hxt hfl=>?_);have hfr:=hfr.stp hs;have rp1:=rp1.stp hs;have oE:=oE.stp hs rfl;have b1:=b1.stp hs rfl;obtain ⟨zG,hy20,h⟩:=Gd h;refine Ze .plain rfl (Zp (g:=tN) (vs:=[.int .i64 (1),.int .i64 (24),uN]) en45 (.cons rfl (.cons rfl (.cons rfl .nil))) (wk45 vN hy20) fun rE qO bQ hs hr=>?_);have hfr:=hfr.ext hs;have rp1:=rp1.ext hs;have oE:=oE.ext hs;have b1:=b1.ext hs;subst hr;refine Zz (.bool (!zG)) (Kh rfl) rfl ?_;refine Zg (.bool (!zG)) rfl rfl ?_;refine Zb (Zd ?_);rcases Zt h with ⟨bG,h⟩ | ⟨bG,h⟩
  ·refine Tv bG rfl ?_
   refine Zf (Za (Ze .plain rfl (Wg (g:=rE) Try.isAgg28 Try.sizeOf28 rfl b1 fun xN yN=>?_)));refine Ze .plain rfl (Gr (g:=rE) (v:=xN) Try.sizeOf28 rfl b1 rfl yN fun cQ dQ hs b23 cb=>?_);clear cb;have hfr:=hfr.stp hs;refine Zg (.int .i64 (0)) rfl rfl ?_;refine Zg (.int .i64 (2)) rfl rfl ?_;refine Zb (Zd (Gq (Qh ?_)));refine Tc ?_;obtain rfl:=sinj h;obtain ⟨ad24,cv24,hp24,oL,cr24⟩:=Qs Try.isAgg28 Try.sizeOf28 b23;exact Jt rfl rfl ((show _=p1 from rfl).trans hp24) oL (show _=.int .i64 (0) from rfl) (show _=.int .i64 (2) from rfl) ⟨_,hfr,_,_,_,rfl,cr24,rfl,rfl⟩
  ·refine Tu bG rfl ?_
   refine Zf (Za (Zn up1 rfl rfl ?_));refine Zz (.int .i64 ((x1).length:Int)) (Qv Try.underlying89 rfl rp1) rfl ?_;refine Gp (.bool ((decide (((x1).length:Int) > (8:Int))))) rfl rfl rfl rfl ?_;refine Zg (.bool ((decide (((x1).length:Int) > (8:Int))))) rfl rfl ?_;refine Zb (Zd ?_);rcases Zt h with ⟨cG,h⟩ | ⟨cG,h⟩
   ·refine Tv cG rfl ?_
    refine Zf (Za (Ze .plain rfl (Wg (g:=rE) Try.isAgg28 Try.sizeOf28 rfl b1 fun zN aO=>?_)));refine Ze .plain rfl (Gr (g:=rE) (v:=zN) Try.sizeOf28 rfl b1 rfl aO fun eQ gQ hs b27 cb=>?_);clear cb;have hfr:=hfr.stp hs;refine Zg (.int .i64 (0)) rfl rfl ?_;refine Zg (.int .i64 (5)) rfl rfl ?_;refine Zb (Zd (Gq (Qh ?_)));refine Tc ?_;obtain rfl:=sinj h;obtain ⟨ad28,cv28,hp28,xL,cr28⟩:=Qs Try.isAgg28 Try.sizeOf28 b27;exact Jt rfl rfl ((show _=p1 from rfl).trans hp28) xL (show _=.int .i64 (0) from rfl) (show _=.int .i64 (5) from rfl) ⟨_,hfr,_,_,_,rfl,cr28,rfl,rfl⟩
   ·refine Tu cG rfl ?_
    refine Zf (Za (Zn up1 rfl rfl ?_));refine Zz (.int .i64 ((x1).length:Int)) (Qv Try.underlying89 rfl rp1) rfl ?_;refine Gp (.bool ((((x1).length:Int) == (0:Int)))) rfl rfl rfl rfl ?_;refine Zg (.bool ((((x1).length:Int) == (0:Int)))) rfl rfl ?_;refine Zb (Zd ?_);rcases Zt h with ⟨eG,h⟩ | ⟨eG,h⟩
    ·refine Tv eG rfl ?_
     refine Zf (Za (Ze .plain rfl (Wg (g:=rE) Try.isAgg28 Try.sizeOf28 rfl b1 fun bO cO=>?_)));refine Ze .plain rfl (Gr (g:=rE) (v:=bO) Try.sizeOf28 rfl b1 rfl cO fun iQ jQ hs b31 cb=>?_);clear cb;have hfr:=hfr.stp hs;refine Zg (.int .i64 (0)) rfl rfl ?_;refine Zg (.int .i64 (7)) rfl rfl ?_;refine Zb (Zd (Gq (Qh ?_)));refine Tc ?_;obtain rfl:=sinj h;obtain ⟨ad32,cv32,hp32,yL,cr32⟩:=Qs Try.isAgg28 Try.sizeOf28 b31;exact Jt rfl rfl ((show _=p1 from rfl).trans hp32) yL (show _=.int .i64 (0) from rfl) (show _=.int .i64 (7) from rfl) ⟨_,hfr,_,_,_,rfl,cr32,rfl,rfl⟩
    ·refine Tu eG rfl ?_
     exact Zu (To (Zd (nL ((⟨0,[]⟩:TieHarness)) _ _ ⟨rE,hfr,rfl,rfl,rp1,rfl,b1,oE⟩ h)))
 ·rintro yG rO kQ ⟨dO, hfr, mK, nK, aH, oK, pK, u4_1_33⟩ h
  refine Zf (Za (Zg (.slice none 0 0) rfl rfl ?_));refine Zb (Zd (Zq h (fun (s:TieHarness × (List Int)) e w=>∃ (g:Gh) (v7:Value),Fr gI wI g w∧e 0=.int .i64 (x0)∧e 4=p1∧OB 2004 g w 28 (s.1:TieHarness) p1∧OSF 2004 60401 1 g w 3 28 ((s.1).Warps) p1∧e 7=v7∧RV g.m w (s.2:List Int) v7∧OS 1007 g w 3 (s.2:List Int) v7) (fun X326 yH qK h=>?_) ?_))
  ·refine Zf (Za (Zo nK rfl ?_))
   refine Zz (.int .i64 ((x1).length:Int)) (Qv Try.underlying89 rfl aH) rfl ?_;refine Zn (.int .i64 (0)) rfl rfl ?_;refine Zb (Zd (Zr ?_));refine He h (fun (s:TieHarness × (List Int) × Int) e w=>∃ (g:Gh) (v7:Value),Fr gI wI g w∧e 0=.int .i64 (x0)∧e 4=p1∧OB 2004 g w 28 (s.1:TieHarness) p1∧OSF 2004 60401 1 g w 3 28 ((s.1).Warps) p1∧e 7=v7∧RV g.m w (s.2.1:List Int) v7∧OS 1007 g w 3 (s.2.1:List Int) v7∧e 26=up1∧RV g.m w (x1:List TieGroup) up1∧e 27=.int .i64 (((x1).length:Int))∧e 28=.int .i64 (s.2.2)) ⟨dO,(.slice none 0 0),hfr,mK,oK,pK,u4_1_33,rfl,Kg,OS.nil,rfl,aH,rfl,rfl⟩ (fun X327 zH sK=>?_);rintro ⟨n9,aB,l5⟩ gO sO ⟨gG,lB,hfr,yB,vC,i6,u4_1_328,bD,g8,l8,zB,o0,cC,v8⟩ h;refine Zf (Za (Gp (.bool ((decide (l5 < ((x1).length:Int))))) v8 cC rfl rfl ?_));refine Zb (Zd (Zf ?_));rcases Zt h with ⟨sF,h⟩ | ⟨sF,h⟩
   ·refine Tv sF rfl ?_
    refine Zu (Zd (Zq h (fun (s:TieHarness × (List Int)) e w=>∃ (g:Gh) (v7:Value),Fr gI wI g w∧e 0=.int .i64 (x0)∧e 4=p1∧OB 2004 g w 28 (s.1:TieHarness) p1∧OSF 2004 60401 1 g w 3 28 ((s.1).Warps) p1∧e 7=v7∧RV g.m w (s.2:List Int) v7∧OS 1007 g w 3 (s.2:List Int) v7∧e 26=up1∧RV g.m w (x1:List TieGroup) up1∧e 27=.int .i64 (((x1).length:Int))∧e 28=.int .i64 (l5)) (fun X473 aI tK h=>?_) ?_))
    ·refine Zr ?_
     refine Zf (Za (Zo v8 rfl ?_));obtain ⟨t5,cH,h⟩:=Gd h;refine Zz (We up1 l5 4) (Zh (α:=TieGroup) Try.underlying89 Try.sizeOf88 zB o0 v8 cH) rfl ?_;have zL:=Wp o0 cH;refine Ze .plain rfl (Gj (g:=gG) Try.isAgg88 Try.sizeOf88 rfl zL fun aM iG=>?_);refine Ze .plain rfl (Tj (g:=gG) 2009 (⟨0,0,0,0⟩:TieGroup) Try.zeroValue88 (fun m w=>⟨_,(Gw Zx (Gw Zx (Gw Zx Zx))),rfl⟩) fun bM tO nB hs b477 cb=>?_);have hfr:=hfr.stp hs;have u4_1_328:=u4_1_328.stp hs rfl;have i6:=i6.stp hs rfl;have g8:=g8.stp hs;have l8:=l8.stp hs rfl;have o0:=o0.stp hs;have iG:=iG.stp hs;clear cb;refine Zg (.int .i64 (l5)) rfl rfl ?_;refine Ze .plain rfl (Gr (g:=bM) (v:=aM) Try.sizeOf88 rfl b477 rfl iG fun jG uO hs b478 cb=>?_);clear cb;have hfr:=hfr.stp hs;have u4_1_328:=u4_1_328.stp hs rfl;have i6:=i6.stp hs rfl;have g8:=g8.stp hs;have l8:=l8.stp hs rfl;have o0:=o0.stp hs;refine Zb (Zd (Zq h (fun (s:TieHarness) e w=>∃ (g:Gh) ,Fr gI wI g w∧e 0=.int .i64 (x0)∧e 4=p1∧OB 2004 g w 28 (s:TieHarness) p1∧OSF 2004 60401 1 g w 3 28 ((s).Warps) p1∧e 7=lB∧RV g.m w (aB:List Int) lB∧OS 1007 g w 3 (aB:List Int) lB∧e 8=.int .i64 (l5)∧e 9=nB∧OB 2009 g w 88 (t5:TieGroup) nB∧e 26=up1∧RV g.m w (x1:List TieGroup) up1∧e 27=.int .i64 (((x1).length:Int))∧e 28=.int .i64 (l5)) (fun X532 bI uK h=>?_) ?_))
     ·obtain ⟨vB, hx, h⟩ := Gd h
      refine Gx (fun e w=>∃ (g:Gh) ,Fr gI wI g w∧e 0=.int .i64 (x0)∧e 4=p1∧OB 2004 g w 28 (n9:TieHarness) p1∧OSF 2004 60401 1 g w 3 28 ((n9).Warps) p1∧e 7=lB∧RV g.m w (aB:List Int) lB∧OS 1007 g w 3 (aB:List Int) lB∧e 8=.int .i64 (l5)∧e 9=nB∧OB 2009 g w 88 (t5:TieGroup) nB∧e 26=up1∧RV g.m w (x1:List TieGroup) up1∧e 27=.int .i64 (((x1).length:Int))∧e 28=.int .i64 (l5)∧e 58=.bool (vB)) (fun Q' hQ=>?_) (fun jO vO hR=>?_)
      ·replace h := hx
       clear hx;refine Za (Zo yB rfl ?_);refine Gp (.int .i64 ((w64 (x0 - (1:Int))))) rfl rfl rfl rfl ?_;refine Zz (Gk nB 0) (Zc at_88_0 rfl (OB.ptr b478)) rfl ?_;refine Ze .plain rfl (Wr (g:=jG) Dx.1 Try.isAgg3 Try.sizeOf3 rfl b478 fun xO cM=>?_);obtain rfl:=Zj.1 cM;refine Zz (Gk nB 1) (Zc at_88_1 rfl (OB.ptr b478)) rfl ?_;refine Ze .plain rfl (Wr (g:=jG) Bc.1 Try.isAgg3 Try.sizeOf3 rfl b478 fun yO dM=>?_);obtain rfl:=Zj.1 dM;refine Ze .plain rfl (Gl (g:=jG) 3039 (xs:=([(t5).First,(t5).Last]:List Int)) (vs:=[.int .i64 ((t5).First),.int .i64 ((t5).Last)]) Try.underlying26 Try.sizeOf3 Try.zeroValue3 rfl rfl (.cons rfl (.cons rfl .nil)) (RVs.cons (Zj.2 rfl) (RVs.cons (Zj.2 rfl) RVs.nil)) rfl rfl fun eM zO iM hs o561 jM hxt hfl=>?_);have hfr:=hfr.stp hs;have u4_1_328:=u4_1_328.stp hs rfl;have i6:=i6.stp hs rfl;have g8:=g8.stp hs;have l8:=l8.stp hs rfl;have o0:=o0.stp hs;have b478:=b478.stp hs rfl;obtain ⟨lD,vK,h⟩:=Gd h;refine Ze .plain rfl (Zp (g:=eM) (vs:=[.int .i64 (0),.int .i64 ((w64 (x0 - (1:Int)))),iM]) en45 (.cons rfl (.cons rfl (.cons rfl .nil))) (wk45 jM vK) fun cD kO aP hs hr=>?_);have hfr:=hfr.ext hs;have u4_1_328:=u4_1_328.ext hs;have i6:=i6.ext hs;have g8:=g8.ext hs;have l8:=l8.ext hs;have o0:=o0.ext hs;have b478:=b478.ext hs;subst hr;refine Zz (.bool (!lD)) (Kh rfl) rfl ?_;refine Zn (.bool (!lD)) rfl rfl ?_;rcases Zt h with ⟨n8,h⟩ | ⟨n8,h⟩
       ·refine Gb rfl rfl n8 rfl rfl ?_
        iterate 3 refine Gb rfl rfl n8 rfl rfl ?_
        refine Hp 3 rfl ?_;refine Gb rfl rfl n8 rfl rfl ?_;refine Zz (.bool true) (Zl (b:=(!lD)) rfl (Qn n8 rfl)) rfl ?_;refine Hp 7 rfl ?_;refine Zb ?_;obtain rfl:=sinj h;exact hQ _ _ ⟨cD,hfr,yB,vC,i6,u4_1_328,bD,g8,l8,rfl,rfl,b478,zB,o0,cC,v8,rfl⟩
       ·refine Ga (Gk nB 2) (Zc at_88_2 rfl (OB.ptr b478)) rfl rfl n8 rfl ?_
        refine Ze (.yes2 rfl rfl n8) rfl (Wr (g:=cD) Uu.1 Try.isAgg86 Try.sizeOf86 rfl b478 fun bP kM=>?_);obtain rfl:=Zj.1 kM;refine Ga (.bool (((t5).Way != (1:Int)))) (Te rfl rfl rfl) rfl rfl n8 rfl ?_;refine Ga (.bool (((t5).Way != (1:Int)))) (Zk rfl) rfl rfl n8 rfl ?_;rcases Zt h with ⟨mB,h⟩ | ⟨mB,h⟩
        ·refine Ga (Gk nB 2) (Zc at_88_2 rfl (OB.ptr b478)) rfl rfl mB rfl ?_
         refine Ze (.yes2 rfl rfl mB) rfl (Wr (g:=cD) Uu.1 Try.isAgg86 Try.sizeOf86 rfl b478 fun cP pM=>?_);obtain rfl:=Zj.1 pM;refine Ga (.bool (((t5).Way != (2:Int)))) (Te rfl rfl rfl) rfl rfl mB rfl ?_;refine Ga (.bool (((t5).Way != (2:Int)))) (Zl (b:=((t5).Way != (1:Int))) rfl (Qn mB rfl)) rfl rfl n8 rfl ?_;refine Zz (.bool (((t5).Way != (2:Int)))) (Zl (b:=(!lD)) rfl (Tw n8 rfl)) rfl ?_;refine Zn (.bool (((t5).Way != (2:Int)))) rfl rfl ?_;rcases Zt h with ⟨l9,h⟩ | ⟨l9,h⟩
         ·refine Gb rfl rfl l9 rfl rfl ?_
          iterate 4 refine Gb rfl rfl l9 rfl rfl ?_
          refine Zz (.bool true) (Zl (b:=((t5).Way != (2:Int))) rfl (Qn l9 rfl)) rfl ?_;refine Zb ?_;obtain rfl:=sinj h;exact hQ _ _ ⟨cD,hfr,yB,vC,i6,u4_1_328,bD,g8,l8,rfl,rfl,b478,zB,o0,cC,v8,rfl⟩
         ·refine Ga (Gk nB 3) (Zc at_88_3 rfl (OB.ptr b478)) rfl rfl l9 rfl ?_
          refine Ze (.yes2 rfl rfl l9) rfl (Wr (g:=cD) Us.1 Try.isAgg3 Try.sizeOf3 rfl b478 fun dP qM=>?_);obtain rfl:=Zj.1 qM;refine Ze (.yes2 rfl rfl l9) rfl (Gl (g:=cD) 3055 (xs:=([(t5).Times]:List Int)) (vs:=[.int .i64 ((t5).Times)]) Try.underlying26 Try.sizeOf3 Try.zeroValue3 rfl rfl (.cons rfl .nil) (RVs.cons (Zj.2 rfl) RVs.nil) rfl rfl fun rM eP sM hs o573 tM hxt hfl=>?_);have hfr:=hfr.stp hs;have u4_1_328:=u4_1_328.stp hs rfl;have i6:=i6.stp hs rfl;have g8:=g8.stp hs;have l8:=l8.stp hs rfl;have o0:=o0.stp hs;have b478:=b478.stp hs rfl;obtain ⟨eF,xK,h⟩:=Gd h;refine Ze (.yes2 rfl rfl l9) rfl (Zp (g:=rM) (vs:=[.int .i64 (1),.int .i64 (8),sM]) en45 (.cons rfl (.cons rfl (.cons rfl .nil))) (wk45 tM xK) fun uM lO gP hs hr=>?_);have hfr:=hfr.ext hs;have u4_1_328:=u4_1_328.ext hs;have i6:=i6.ext hs;have g8:=g8.ext hs;have l8:=l8.ext hs;have o0:=o0.ext hs;have b478:=b478.ext hs;subst hr;refine Ga (.bool (!eF)) (Kh rfl) rfl rfl l9 rfl ?_;refine Zz (.bool (!eF)) (Zl (b:=((t5).Way != (2:Int))) rfl (Tw l9 rfl)) rfl ?_;refine Zb ?_;obtain rfl:=sinj h;exact hQ _ _ ⟨uM,hfr,yB,vC,i6,u4_1_328,bD,g8,l8,rfl,rfl,b478,zB,o0,cC,v8,rfl⟩
        ·refine Gb rfl rfl mB rfl rfl ?_
         refine Gb rfl rfl mB rfl rfl ?_;refine Gb rfl rfl mB rfl rfl ?_;refine Ga (.bool false) (Zl (b:=((t5).Way != (1:Int))) rfl (Tw mB rfl)) rfl rfl n8 rfl ?_;refine Zz (.bool false) (Zl (b:=(!lD)) rfl (Tw n8 rfl)) rfl ?_;refine Zn (.bool false) rfl rfl ?_;refine Ga (Gk nB 3) (Zc at_88_3 rfl (OB.ptr b478)) rfl rfl rfl rfl ?_;refine Ze (.yes2 rfl rfl rfl) rfl (Wr (g:=cD) Us.1 Try.isAgg3 Try.sizeOf3 rfl b478 fun iP vM=>?_);obtain rfl:=Zj.1 vM;refine Ze (.yes2 rfl rfl rfl) rfl (Gl (g:=cD) 3055 (xs:=([(t5).Times]:List Int)) (vs:=[.int .i64 ((t5).Times)]) Try.underlying26 Try.sizeOf3 Try.zeroValue3 rfl rfl (.cons rfl .nil) (RVs.cons (Zj.2 rfl) RVs.nil) rfl rfl fun xM jP bN hs o578 cN hxt hfl=>?_);have hfr:=hfr.stp hs;have u4_1_328:=u4_1_328.stp hs rfl;have i6:=i6.stp hs rfl;have g8:=g8.stp hs;have l8:=l8.stp hs rfl;have o0:=o0.stp hs;have b478:=b478.stp hs rfl;obtain ⟨rF,yK,h⟩:=Gd h;refine Ze (.yes2 rfl rfl rfl) rfl (Zp (g:=xM) (vs:=[.int .i64 (1),.int .i64 (8),bN]) en45 (.cons rfl (.cons rfl (.cons rfl .nil))) (wk45 cN yK) fun dN mO kP hs hr=>?_);have hfr:=hfr.ext hs;have u4_1_328:=u4_1_328.ext hs;have i6:=i6.ext hs;have g8:=g8.ext hs;have l8:=l8.ext hs;have o0:=o0.ext hs;have b478:=b478.ext hs;subst hr;refine Ga (.bool (!rF)) (Kh rfl) rfl rfl rfl rfl ?_;refine Zz (.bool (!rF)) (Zl (b:=false) rfl (Tw rfl rfl)) rfl ?_;refine Zb ?_;obtain rfl:=sinj h;exact hQ _ _ ⟨dN,hfr,yB,vC,i6,u4_1_328,bD,g8,l8,rfl,rfl,b478,zB,o0,cC,v8,rfl⟩
      ·clear hx
       obtain ⟨kG,hfr,dI,yD,uE,u4_1_581,iI,jI,kI,xF,lI,mI,jH,kH,lH,mH,dF⟩:=hR;rcases Zt h with ⟨tF,h⟩ | ⟨tF,h⟩
       ·refine Tt (Eq.trans (show ev _ _ = .bool (vB) from dF) (congrArg Value.bool tF)) ?_
        refine Zf (Za (Ze .plain rfl (Wg (g:=kG) Try.isAgg28 Try.sizeOf28 yD uE fun eN gN=>?_)));refine Zo xF rfl ?_;refine Ze .plain rfl (Gr (g:=kG) (v:=eN) Try.sizeOf28 yD uE rfl gN fun lP mP hs b584 cb=>?_);clear cb;have hfr:=hfr.stp hs;refine Zg (.int .i64 (l5)) rfl rfl ?_;refine Zg (.int .i64 (2)) rfl rfl ?_;refine Zb (Zd (Gq (Tc ?_)));refine Qh ?_;refine Tc ?_;refine Tc ?_;refine Qh ?_;refine Tc ?_;obtain rfl:=sinj h;obtain ⟨ad585,cv585,hp585,zK,cr585⟩:=Qs Try.isAgg28 Try.sizeOf28 b584;exact Jt rfl rfl ((show _=p1 from yD).trans hp585) zK (show _=.int .i64 (l5) from rfl) (show _=.int .i64 (2) from rfl) ⟨_,hfr,_,_,_,rfl,cr585,rfl,rfl⟩
       ·refine Td (Eq.trans (show ev _ _ = .bool (vB) from dF) (congrArg Value.bool tF)) ?_
        exact Zu (Zd (uK (n9) _ _ ⟨kG,hfr,dI,yD,uE,u4_1_581,iI,jI,kI,xF,lI,mI,jH,kH,lH,mH⟩ h))
     ·rintro oD nO nP ⟨nI, hfr, pI, zD, oB, u4_1_586, qI, vE, xE, sI, yF, yE, nH, uC, oH, pH⟩ h
      refine Zf (Ms (x:=.tmp 9) Try.isAgg88 Try.sizeOf88 yE fun uF jJ aL=>?_);have kJ:RV nI.m _ (⟨t5⟩:Hm) (.agg (Gy [[.int .i64 0,.int .i64 0,.int .i64 0,.int .i64 0]] [(0,uF)]).flatten.toArray):=Th rfl (Tl (RV.cells jJ));generalize bL:(Value.agg (Gy [[.int .i64 0,.int .i64 0,.int .i64 0,.int .i64 0]] [(0,uF)]).flatten.toArray)=lJ at kJ;obtain ⟨aE,dL,h⟩:=Gd h;refine Ue (x:=.tmp 65) Us.1 Try.isAgg3 Try.sizeOf3 yE fun oP iN eL=>?_;obtain rfl:=Zj.1 iN;obtain ⟨mE,gL,h⟩:=Gd h;refine Qu (g:=nI) (n:=7) [(3,(fun v g w=>RV g.m w aE v)),(6,(fun v g w=>RV g.m w mE v))] [0,1,2,3,4,5,6] rfl Wt (by kernel_rfl) (⟨fun _=>Vb,fun _=>Vb,trivial⟩) ?_;refine Gc lB rfl rfl (Zk qI) ?_;refine Qm (c:=uF) rfl rfl .plain (fun _ _ h=>⟨h.ch,fun b hb _=>h.below.block b hb⟩) aL yF ?_;refine Gc lJ rfl rfl (bL ▸ Qb (vs:=[(0,uF)]) [[.int .i64 0,.int .i64 0,.int .i64 0,.int .i64 0]] lay_134 rfl rfl (.cons rfl .nil) ⟨⟨_,rfl,Tb jJ⟩,trivial⟩) ?_;refine Uh (φ:=fun v g w=>RV g.m w aE v) rfl rfl .plain (fun g w hd=>Zp (g:=g) (vs:=[lJ]) en52 (.cons rfl .nil) (wk52 (kJ.ext hd.1) dL) fun g' w' v hs hr=>⟨g',hs,hr⟩) (fun lG hv=>?_);obtain ⟨_,_,_,rq589⟩:=hv;refine Gc (Gk nB 3) rfl rfl (Zc at_88_3 yF (OB.ptr yE)) ?_;refine Qm (c:=.int .i64 ((t5).Times)) rfl rfl .plain (fun _ _ h=>⟨h.ch,fun b hb _=>h.below.block b hb⟩) eL rfl ?_;refine Uh (φ:=fun v g w=>RV g.m w mE v) rfl rfl .plain (fun g w hd=>Zp (g:=g) (vs:=[lG,.int .i64 ((t5).Times)]) en51 (.cons rfl (.cons rfl .nil)) (wk51 (word (A:=fun g w=>RV g.m w aE lG) 3 rfl rfl (Dg hd)) gL) fun g' w' v hs hr=>⟨g',hs,hr⟩) (fun jN hv=>?_);obtain ⟨_,_,_,rq593⟩:=hv;refine Xr fun kN pP hall=>?_;have hs:=hall.1;have hfr:=hfr.ext hs;have u4_1_586:=u4_1_586.ext hs;have oB:=oB.ext hs;have vE:=vE.ext hs;have xE:=xE.ext hs;have uC:=uC.ext hs;have sP:=(Qw (A:=fun g w=>RV g.m w aE lG) 3 rfl hall);have lN:=(Qw (A:=fun g w=>RV g.m w mE jN) 6 rfl hall);clear hs hall;obtain ⟨bE,iL,h⟩:=Gd h;refine Ze .plain rfl (Wj (g:=kN) (i:=1007) Try.underlying26 Vr rfl rfl xE vE rfl lN iL fun mG tP sG hs o611 mJ _=>?_);have hfr:=hfr.stp hs;have u4_1_586:=u4_1_586.stp hs rfl;have oB:=oB.stp hs rfl;have uC:=uC.stp hs;refine Zg sG rfl rfl ?_;refine Zb (Zd (Zf (Za (Zn sG rfl rfl ?_))));refine Zz (.int .i64 ((bE).length:Int)) (Qv Try.underlying26 rfl mJ) rfl ?_;refine Gp (.bool ((decide (((bE).length:Int) > (96:Int))))) rfl rfl rfl rfl ?_;refine Zb (Zd ?_);rcases Zt h with ⟨vF,h⟩ | ⟨vF,h⟩
      ·refine Tv vF rfl ?_
       refine Zf (Za (Ze .plain rfl (Wg (g:=mG) Try.isAgg28 Try.sizeOf28 zD oB fun mN nN=>?_)));refine Zo sI rfl ?_;refine Ze .plain rfl (Gr (g:=mG) (v:=mN) Try.sizeOf28 zD oB rfl nN fun uP vP hs b615 cb=>?_);clear cb;have hfr:=hfr.stp hs;refine Zg (.int .i64 (l5)) rfl rfl ?_;refine Zg (.int .i64 (8)) rfl rfl ?_;refine Zb (Zd (Gq (Qh ?_)));refine Tc ?_;refine Tc ?_;refine Qh ?_;refine Tc ?_;obtain rfl:=sinj h;obtain ⟨ad616,cv616,hp616,jL,cr616⟩:=Qs Try.isAgg28 Try.sizeOf28 b615;exact Jt rfl rfl ((show _=p1 from zD).trans hp616) jL (show _=.int .i64 (l5) from rfl) (show _=.int .i64 (8) from rfl) ⟨_,hfr,_,_,_,rfl,cr616,rfl,rfl⟩
      ·refine Tu vF rfl ?_
       exact Zu (To (Zd (tK (oD,bE) _ _ ⟨mG,(sG),hfr,pI,zD,oB,u4_1_586,rfl,mJ,o611,nH,uC,oH,pH⟩ h)))
    ·rintro ⟨iE, lE⟩ oO xP ⟨oN, nJ, hfr, oJ, pJ, qJ, u4_1_617, rJ, sJ, vJ, qH, sH, tH, uH⟩ h
     refine Za (Gp (.int .i64 ((w64 (l5 + (1:Int))))) uH rfl rfl rfl ?_);refine Zn (.int .i64 ((w64 (l5 + (1:Int))))) rfl rfl ?_;exact Zb (Zd (sK (iE,lE,(w64 (l5 + (1:Int)))) _ _ ⟨oN,(nJ),hfr,oJ,pJ,qJ,u4_1_617,rJ,sJ,vJ,qH,sH,tH,rfl⟩ h))
   ·refine Tu sF rfl ?_
    refine Qj ?_;refine Ta ?_;refine Ta ?_;refine Tp ?_;exact Zd (qK (n9,aB) _ _ ⟨gG,(lB),hfr,yB,vC,i6,u4_1_328,bD,g8,l8⟩ h)
  ·rintro ⟨xH, nD⟩ pO yP ⟨xJ, zE, hfr, zJ, aG, aK, u4_1_618, bK, cF, cK⟩ h
   refine Zf (Za (Zo zJ rfl ?_));refine Zo bK rfl ?_;have dK:RV xJ.m _ (⟨x0,nD⟩:TieHarness) (.agg (Gy [[.int .i64 0],[.slice none 0 0]] [(0,.int .i64 (x0)),(1,zE)]).flatten.toArray):=Th rfl (Gu (rfl) (Tl (RV.cells cF)));generalize gH:(Value.agg (Gy [[.int .i64 0],[.slice none 0 0]] [(0,.int .i64 (x0)),(1,zE)]).flatten.toArray)=lK at dK;refine Zz lK (gH ▸ Qb (vs:=[(0,.int .i64 (x0)),(1,zE)]) [[.int .i64 0],[.slice none 0 0]] lay_28 rfl rfl (.cons rfl (.cons rfl .nil)) ⟨⟨_,rfl,rfl⟩,⟨⟨_,rfl,Tb cF⟩,trivial⟩⟩) rfl ?_;refine Ze .plain rfl (Gr (g:=xJ) (v:=lK) Try.sizeOf28 aG aK rfl dK fun pN qN hs b620 cb=>?_);obtain ⟨rN,sN,xG,_,_⟩:=Ht cF;have eO:OSF 2004 1007 1 pN qN 3 28 (nD:List Int) p1:=cb.osfv (by rw [← gH,xG]; rfl) (cK.stp hs rfl);clear cb;have hfr:=hfr.stp hs;refine Zg (.int .i64 (0)) rfl rfl ?_;refine Zg (.int .i64 (0)) rfl rfl ?_;refine Zb (Zd (Gq ?_));obtain rfl:=sinj h;obtain ⟨ad621,cv621,hp621,lL,cr621⟩:=Qs Try.isAgg28 Try.sizeOf28 b620;exact Jt rfl rfl ((show _=p1 from aG).trans hp621) lL (show _=.int .i64 (0) from rfl) (show _=.int .i64 (0) from rfl) ⟨_,hfr,_,_,_,rfl,cr621,rfl,rfl⟩
def f31 (x0:FaultLoom) (x1:List Zv):Option (Int):=
 jn (σ:=Unit) (fun _=>
  jn (σ:=Unit) (fun _=>
   some ((0:Int))
   ) fun aB=>
  bif (decide (((x1).length : Int) > (100 : Int))) then
   some ((5:Int))
  else
   (f61 x1 ((fun a0=>f59 a0 x0))).bind fun n8=>
   bif n8 then
    some ((2:Int))
   else
    aB ()
  ) fun k6=>
 (f54 x0).bind fun y9=>
 bif (y9 != (0 : Int)) then
  some (y9)
 else
  k6 ()
theorem en31:Enters Try.prog 31:=enters_of Try.func31 (by kernel_rfl) rfl
theorem wk31 {gI:Gh} {wI:World} {x0:FaultLoom} {x1:List Zv} {up0:Value} (rp0:RV gI.m wI x0 up0) {up1:Value} (rp1:RV gI.m wI x1 up1) {r:Int} (h:f31 x0 x1=some r):Fn Try.prog 31 #[up0,up1] gI wI (fun _ _ v=>v=.int .i64 (r)):=by
 unfold f31 at h;refine Gz Try.func31 rfl (Nat.le_of_ble_eq_true rfl) fun g0 hm hfr=>?_;have rp0:RV g0.m wI x0 up0:=hm ▸ rp0;have rp1:RV g0.m wI x1 up1:=hm ▸ rp1;show E _ 21 none _ _ _ _ _;refine Zf (Za (Ze .plain rfl (Tx (g:=g0) rfl rp0 fun g1 w1 p1 hs q1=>?_)));have hfr:=hfr.ext hs;have rp1:=rp1.ext hs;refine Zg (.int .i64 (0)) rfl rfl ?_;refine Zb (Zd (Zq h (fun (s:Unit) e w=>∃ (g:Gh) ,Fr gI wI g w∧e 1=up1∧RV g.m w (x1:List Zv) up1∧e 2=p1∧PT g.m w (x0:FaultLoom) p1) (fun X6 k6 hk6 h=>?_) ?_))
 ·refine Zf (Za (Ze .plain rfl (Gj (g := g1) Try.isAgg32 Try.sizeOf32 rfl q1 fun v7 r7 => ?_)))
  obtain ⟨y9,nB,h⟩:=Gd h;refine Ze .plain rfl (Zp (g:=g1) (vs:=[v7]) en54 (.cons rfl .nil) (wk54 r7 nB) fun g8 w8_ v8 hs hr=>?_);have hfr:=hfr.ext hs;have rp1:=rp1.ext hs;have q1:=q1.ext hs;subst hr;refine Zg (.int .i64 (y9)) rfl rfl ?_;refine Zb (Zd (Zf (Za (Zn (.int .i64 (y9)) rfl rfl ?_))));refine Gp (.bool ((y9 != (0:Int)))) rfl rfl rfl rfl ?_;refine Zb (Zd ?_);rcases Zt h with ⟨o0,h⟩ | ⟨o0,h⟩
  ·refine Tv o0 rfl ?_
   refine Zf (Za (Zn (.int .i64 (y9)) rfl rfl ?_));refine Zg (.int .i64 (y9)) rfl rfl ?_;refine Zb (Zd (Gq (Tc ?_)));obtain rfl:=sinj h;exact Qq rfl rfl (show _=.int .i64 (y9) from rfl) ⟨_,hfr,rfl⟩
  ·refine Tu o0 rfl ?_
   exact Zu (Zd (hk6 () _ _ ⟨g8,hfr,rfl,rp1,rfl,q1⟩ h))
 ·rintro _ yB uC ⟨oB, hfr, i6, l8, l9, n9⟩ h
  refine Zf (Za (Zz ((.func (.func 59) #[] #[p1])) (Wh (Fz (show ev _ _=p1 from l9))) rfl ?_));refine Zg ((.func (.func 59) #[] #[p1])) rfl rfl ?_;refine Zb (Zd (Zq h (fun (s:Unit) e w=>∃ (g:Gh) ,Fr gI wI g w) (fun X16 aB lB h=>?_) ?_))
  ·refine Zr ?_
   refine Zf (Za (Zo i6 rfl ?_));refine Zz (.int .i64 ((x1).length:Int)) (Qv Try.underlying42 rfl l8) rfl ?_;refine Gp (.bool ((decide (((x1).length:Int) > (100:Int))))) rfl rfl rfl rfl ?_;refine Zg (.bool ((decide (((x1).length:Int) > (100:Int))))) rfl rfl ?_;refine Zb (Zd ?_);rcases Zt h with ⟨l5,h⟩ | ⟨l5,h⟩
   ·refine Tv l5 rfl ?_
    refine Zf (Za (Zg (.int .i64 (5)) rfl rfl ?_));refine Zb (Zd (Gq (Qh ?_)));refine Tc ?_;obtain rfl:=sinj h;exact Qq rfl rfl (show _=.int .i64 (5) from rfl) ⟨_,hfr,rfl⟩
   ·refine Tu l5 rfl ?_
    refine Zf (Za (Zo i6 rfl ?_));refine Zn ((.func (.func 59) #[] #[p1])) rfl rfl ?_;obtain ⟨n8,mB,h⟩:=Gd h;refine Ze .plain rfl (Zp (g:=oB) (vs:=[up1,(.func (.func 59) #[] #[p1])]) en61 (.cons rfl (.cons rfl .nil)) (wk61 l8 ⟨59,#[],#[p1],rfl,en59,fun g' w' hch a0 b0 r hu0 hr=>by exact Fn.mono (wk59 hu0 (n9.ch hch) hr) fun _ _ _ h=>Wc.2 h⟩ mB) fun vB zB vC hs hr=>?_);have hfr:=hfr.ext hs;subst hr;refine Zg (.bool (n8)) rfl rfl ?_;refine Zb (Zd ?_);rcases Zt h with ⟨t5,h⟩ | ⟨t5,h⟩
    ·refine Tv t5 rfl ?_
     refine Zf (Za (Zg (.int .i64 (2)) rfl rfl ?_));refine Zb (Zd (Gq (Qh ?_)));refine Tc ?_;obtain rfl:=sinj h;exact Qq rfl rfl (show _=.int .i64 (2) from rfl) ⟨_,hfr,rfl⟩
    ·refine Tu t5 rfl ?_
     exact Zu (To (Zd (lB () _ _ ⟨vB,hfr⟩ h)))
  ·rintro _ cC bD ⟨cD, hfr⟩ h
   refine Zf (Za (Zg (.int .i64 (0)) rfl rfl ?_));refine Zb (Zd (Gq ?_));obtain rfl:=sinj h;exact Qq rfl rfl (show _=.int .i64 (0) from rfl) ⟨_,hfr,rfl⟩
def f14 :Option (Bool):=
 (f28 ((4:Int)) (([(⟨0,(3:Int),(2:Int),(1:Int)⟩:TieGroup)]:List TieGroup))).bind fun y4=>
 (f10 (y4.1) ((⟨(4:Int),([(1:Int),(6:Int)]:List Int)⟩:Design))).bind fun y11=>
 Option.bind (α:=Bool) (
  bif (y4.2.2 == (0 : Int)) then
   bif (y11.2 == (0 : Int)) then
    (f12 (y11.1) (([(⟨[120,46,46,46,46,46]⟩:Str),(⟨[46,120,120,46,120,120]⟩:Str)]:List Str))).bind fun n9=>
    some (n9)
   else
    some (false)
  else
   some (false)
  ) fun i6=>
 some (i6)
theorem en14:Enters Try.prog 14:=enters_of Try.func14 (by kernel_rfl) rfl
theorem wk14 {gI:Gh} {wI:World}   {r:Bool} (h:f14 =some r):Fn Try.prog 14 #[] gI wI (fun _ _ v=>v=.bool (r)):=by
 unfold f14 at h;refine Gz Try.func14 rfl (Nat.le_of_ble_eq_true rfl) fun g0 hm hfr=>?_;show E _ 31 none _ _ _ _ _;refine Zf (Za (Zg (.bool false) rfl rfl ?_));refine Zb (Zd (Zf (Za ?_)));have r1:RV g0.m wI (⟨0,(3:Int),(2:Int),(1:Int)⟩:TieGroup) (.agg (Gy [[.int .i64 0],[.int .i64 0],[.int .i64 0],[.int .i64 0]] [(1,.int .i64 (3)),(2,.int .i64 (2)),(3,.int .i64 (1))]).flatten.toArray):=Th rfl (Gu (Zx) (Gu (rfl) (Gu (rfl) (Tl (rfl)))));generalize hv1:(Value.agg (Gy [[.int .i64 0],[.int .i64 0],[.int .i64 0],[.int .i64 0]] [(1,.int .i64 (3)),(2,.int .i64 (2)),(3,.int .i64 (1))]).flatten.toArray)=v1 at r1;refine Zz v1 (hv1 ▸ Qb (vs:=[(1,.int .i64 (3)),(2,.int .i64 (2)),(3,.int .i64 (1))]) [[.int .i64 0],[.int .i64 0],[.int .i64 0],[.int .i64 0]] lay_88 rfl rfl (.cons rfl (.cons rfl (.cons rfl .nil))) ⟨⟨_,rfl,rfl⟩,⟨⟨_,rfl,rfl⟩,⟨⟨_,rfl,rfl⟩,trivial⟩⟩⟩) rfl ?_;refine Ze .plain rfl (Gl (g:=g0) 3008 (xs:=([(⟨0,(3:Int),(2:Int),(1:Int)⟩:TieGroup)]:List TieGroup)) (vs:=[v1]) Try.underlying89 Try.sizeOf88 Try.zeroValue88 rfl rfl (.cons rfl .nil) (RVs.cons r1 RVs.nil) rfl rfl fun g2 w2 v2 hs o2 r2 hxt hfl=>?_);have hfr:=hfr.stp hs;obtain ⟨y4,oB,h⟩:=Gd h;refine Ze .plain rfl (Zp (g:=g2) (vs:=[.int .i64 (4),v2]) en28 (.cons rfl (.cons rfl .nil)) (wk28 r2 oB) fun g3 w3_ v3 hs hr=>?_);have hfr:=hfr.ext hs;obtain ⟨n8,bD,cD,rfl,l9,rfl,rfl⟩:=hr;refine Zn (.tuple #[n8,.int .i64 (y4.2.1),.int .i64 (y4.2.2)]) rfl rfl ?_;refine Zz n8 (Zi rfl rfl) rfl ?_;refine Zz (.int .i64 (y4.2.1)) (Zi rfl rfl) rfl ?_;refine Zz (.int .i64 (y4.2.2)) (Zi rfl rfl) rfl ?_;refine Ze .plain rfl (Tj (g:=g3) 2001 (⟨0,[]⟩:TieHarness) Try.zeroValue28 (fun m w=>⟨_,(Gw Zx Wk),rfl⟩) fun g5 w5 p5 hs b5 cb=>?_);have hfr:=hfr.stp hs;have l9:=l9.stp hs;have lD:OSF 2001 60101 1 g5 w5 3 28 ([]:List Int) p5:=cb.osf (by rfl);clear cb;refine Ze .plain rfl (Gr (g:=g5) (v:=n8) Try.sizeOf28 rfl b5 rfl l9 fun g6 w6 hs b6 cb=>?_);clear cb;have hfr:=hfr.stp hs;refine Zg (.int .i64 (y4.2.1)) rfl rfl ?_;refine Zg (.int .i64 (y4.2.2)) rfl rfl ?_;refine Zb (Zd (Zf (Za (Ze .plain rfl (Wg (g:=g6) Try.isAgg28 Try.sizeOf28 rfl b6 fun v7 r7=>?_)))));refine Ze .plain rfl (Gl (g:=g6) 3015 (xs:=([(1:Int),(6:Int)]:List Int)) (vs:=[.int .i64 (1),.int .i64 (6)]) Try.underlying26 Try.sizeOf3 Try.zeroValue3 rfl rfl (.cons rfl (.cons rfl .nil)) (RVs.cons (Zj.2 rfl) (RVs.cons (Zj.2 rfl) RVs.nil)) rfl rfl fun g8 w8 v8 hs o8 r8 hxt hfl=>?_);have hfr:=hfr.stp hs;have r7:=r7.stp hs;have r9:RV g8.m _ (⟨(4:Int),([(1:Int),(6:Int)]:List Int)⟩:Design) (.agg (Gy [[.int .i64 0],[.slice none 0 0]] [(0,.int .i64 (4)),(1,v8)]).flatten.toArray):=Th rfl (Gu (rfl) (Tl (RV.cells r8)));generalize vB:(Value.agg (Gy [[.int .i64 0],[.slice none 0 0]] [(0,.int .i64 (4)),(1,v8)]).flatten.toArray)=v9 at r9;refine Zz v9 (vB ▸ Qb (vs:=[(0,.int .i64 (4)),(1,v8)]) [[.int .i64 0],[.slice none 0 0]] Lr rfl rfl (.cons rfl (.cons rfl .nil)) ⟨⟨_,rfl,rfl⟩,⟨⟨_,rfl,Tb r8⟩,trivial⟩⟩) rfl ?_;obtain ⟨y11,mB,h⟩:=Gd h;refine Ze .plain rfl (Zp (g:=g8) (vs:=[v7,v9]) en10 (.cons rfl (.cons rfl .nil)) (wk10 r7 r9 mB) fun aB nD zD hs hr=>?_);have hfr:=hfr.ext hs;obtain ⟨t5,vC,rfl,l8,rfl⟩:=hr;refine Zn (.tuple #[t5,.int .i64 (y11.2)]) rfl rfl ?_;refine Zz t5 (Zi rfl rfl) rfl ?_;refine Zz (.int .i64 (y11.2)) (Zi rfl rfl) rfl ?_;refine Zg t5 rfl rfl ?_;refine Zg (.int .i64 (y11.2)) rfl rfl ?_;refine Zb (Zd ?_);obtain ⟨i6,hx,h⟩:=Gd h;refine Gx (fun e w=>∃ (g:Gh) ,Fr gI wI g w∧e 0=.bool (i6)) (fun Q' hQ=>?_) (fun oD aE hR=>?_)
 ·replace h := hx
  clear hx;refine Za (Zn (.int .i64 (y4.2.2)) rfl rfl ?_);refine Gp (.bool ((y4.2.2 == (0:Int)))) rfl rfl rfl rfl ?_;refine Zn (.bool ((y4.2.2 == (0:Int)))) rfl rfl ?_;rcases Zt h with ⟨l5,h⟩ | ⟨l5,h⟩
  ·refine Ga (.int .i64 (y11.2)) (Zk rfl) rfl rfl l5 rfl ?_
   refine Ga (.bool ((y11.2 == (0:Int)))) (Te rfl rfl rfl) rfl rfl l5 rfl ?_;refine Zz (.bool ((y11.2 == (0:Int)))) (Zl (b:=(y4.2.2 == (0:Int))) rfl (Qn l5 rfl)) rfl ?_;refine Zn (.bool ((y11.2 == (0:Int)))) rfl rfl ?_;rcases Zt h with ⟨o0,h⟩ | ⟨o0,h⟩
   ·refine Ga t5 (Zk rfl) rfl rfl o0 rfl ?_
    refine Ze (.yes2 rfl rfl o0) rfl (Gl (g:=aB) 3028 (xs:=([(⟨[120,46,46,46,46,46]⟩:Str),(⟨[46,120,120,46,120,120]⟩:Str)]:List Str)) (vs:=[Str.v (⟨[120,46,46,46,46,46]⟩:Str),Str.v (⟨[46,120,120,46,120,120]⟩:Str)]) Try.underlying34 Try.sizeOf9 Try.zeroValue9 rfl rfl (.cons rfl (.cons rfl .nil)) (RVs.cons (Jb.2 rfl) (RVs.cons (Jb.2 rfl) RVs.nil)) rfl rfl fun yB bE zB hs o19 cC hxt hfl=>?_);have hfr:=hfr.stp hs;have l8:=l8.stp hs;obtain ⟨n9,nB,h⟩:=Gd h;refine Ze (.yes2 rfl rfl o0) rfl (Zp (g:=yB) (vs:=[t5,zB]) en12 (.cons rfl (.cons rfl .nil)) (wk12 l8 cC nB) fun uC yD iE hs hr=>?_);have hfr:=hfr.ext hs;subst hr;refine Zz (.bool (n9)) (Zl (b:=(y11.2 == (0:Int))) rfl (Qn o0 rfl)) rfl ?_;refine Zg (.bool (n9)) rfl rfl ?_;refine Zb ?_;obtain rfl:=sinj h;exact hQ _ _ ⟨uC,hfr,rfl⟩
   ·refine Gb rfl rfl o0 rfl rfl ?_
    refine Gb rfl rfl o0 rfl rfl ?_;refine Gb rfl rfl o0 rfl rfl ?_;refine Zz (.bool false) (Zl (b:=(y11.2 == (0:Int))) rfl (Tw o0 rfl)) rfl ?_;refine Zg (.bool false) rfl rfl ?_;refine Zb ?_;obtain rfl:=sinj h;exact hQ _ _ ⟨aB,hfr,rfl⟩
  ·refine Gb rfl rfl l5 rfl rfl ?_
   refine Gb rfl rfl l5 rfl rfl ?_;refine Zz (.bool false) (Zl (b:=(y4.2.2 == (0:Int))) rfl (Tw l5 rfl)) rfl ?_;refine Hp 5 rfl ?_;refine Zg (.bool false) rfl rfl ?_;refine Zb ?_;obtain rfl:=sinj h;exact hQ _ _ ⟨aB,hfr,rfl⟩
 ·clear hx
  obtain ⟨lE,hfr,lB⟩:=hR;refine Gq ?_;obtain rfl:=sinj h;exact Qq rfl rfl (show _=.bool (i6) from lB) ⟨_,hfr,rfl⟩
def f18 (x0:FaultLoom) (x1:List Zv) (x2:Int):Option (Int):=
 jn (σ:=Unit) (fun _=>
  jn (σ:=Unit) (fun _=>
   some ((0:Int))
   ) fun l8=>
  (f32 ((1:Int)) ((120:Int)) (([x2]:List Int))).bind fun t5=>
  bif (!t5) then
   some ((3:Int))
  else
   l8 ()
  ) fun k6=>
 (f31 x0 x1).bind fun y9=>
 bif (y9 != (0 : Int)) then
  some (y9)
 else
  k6 ()
theorem en18:Enters Try.prog 18:=enters_of Try.func18 (by kernel_rfl) rfl
theorem wk18 {gI:Gh} {wI:World} {x0:FaultLoom} {x1:List Zv} {x2:Int} {up0:Value} (rp0:RV gI.m wI x0 up0) {up1:Value} (rp1:RV gI.m wI x1 up1) {r:Int} (h:f18 x0 x1 x2=some r):Fn Try.prog 18 #[up0,up1,.int .i64 (x2)] gI wI (fun _ _ v=>v=.int .i64 (r)):=by
 unfold f18 at h;refine Gz Try.func18 rfl (Nat.le_of_ble_eq_true rfl) fun g0 hm hfr=>?_;have rp0:RV g0.m wI x0 up0:=hm ▸ rp0;have rp1:RV g0.m wI x1 up1:=hm ▸ rp1;show E _ 18 none _ _ _ _ _;refine Zf (Za (Ze .plain rfl (Tx (g:=g0) rfl rp0 fun g1 w1 p1 hs q1=>?_)));have hfr:=hfr.ext hs;have rp1:=rp1.ext hs;refine Zg (.int .i64 (0)) rfl rfl ?_;refine Zb (Zd (Zq h (fun (s:Unit) e w=>∃ (g:Gh) ,Fr gI wI g w∧e 2=.int .i64 (x2)) (fun X6 k6 hk6 h=>?_) ?_))
 ·refine Zf (Za (Ze .plain rfl (Gj (g := g1) Try.isAgg32 Try.sizeOf32 rfl q1 fun v7 r7 => ?_)))
  refine Zn up1 rfl rfl ?_;obtain ⟨y9,n9,h⟩:=Gd h;refine Ze .plain rfl (Zp (g:=g1) (vs:=[v7,up1]) en31 (.cons rfl (.cons rfl .nil)) (wk31 r7 rp1 n9) fun g8 w8_ v8 hs hr=>?_);have hfr:=hfr.ext hs;subst hr;refine Zg (.int .i64 (y9)) rfl rfl ?_;refine Zb (Zd (Zf (Za (Zn (.int .i64 (y9)) rfl rfl ?_))));refine Gp (.bool ((y9 != (0:Int)))) rfl rfl rfl rfl ?_;refine Zb (Zd ?_);rcases Zt h with ⟨o0,h⟩ | ⟨o0,h⟩
  ·refine Tv o0 rfl ?_
   refine Zf (Za (Zn (.int .i64 (y9)) rfl rfl ?_));refine Zg (.int .i64 (y9)) rfl rfl ?_;refine Zb (Zd (Gq (Tc ?_)));obtain rfl:=sinj h;exact Qq rfl rfl (show _=.int .i64 (y9) from rfl) ⟨_,hfr,rfl⟩
  ·refine Tu o0 rfl ?_
   exact Zu (Zd (hk6 () _ _ ⟨g8,hfr,rfl⟩ h))
 ·rintro _ vB cC ⟨aB, hfr, i6⟩ h
  refine Zq h (fun (s:Unit) e w=>∃ (g:Gh) ,Fr gI wI g w) (fun X16 l8 n8 h=>?_) ?_
  ·refine Zf (Za (Zo i6 rfl ?_))
   refine Ze .plain rfl (Gl (g:=aB) 3015 (xs:=([x2]:List Int)) (vs:=[.int .i64 (x2)]) Try.underlying26 Try.sizeOf3 Try.zeroValue3 rfl rfl (.cons rfl .nil) (RVs.cons (Zj.2 rfl) RVs.nil) rfl rfl fun lB uC mB hs o17 nB hxt hfl=>?_);have hfr:=hfr.stp hs;obtain ⟨t5,l9,h⟩:=Gd h;refine Ze .plain rfl (Zp (g:=lB) (vs:=[.int .i64 (1),.int .i64 (120),mB]) en32 (.cons rfl (.cons rfl (.cons rfl .nil))) (wk32 nB l9) fun oB yB vC hs hr=>?_);have hfr:=hfr.ext hs;subst hr;refine Zz (.bool (!t5)) (Kh rfl) rfl ?_;refine Zb (Zd ?_);rcases Zt h with ⟨l5,h⟩ | ⟨l5,h⟩
   ·refine Tv l5 rfl ?_
    refine Zf (Za (Zg (.int .i64 (3)) rfl rfl ?_));refine Zb (Zd (Gq (Tc ?_)));obtain rfl:=sinj h;exact Qq rfl rfl (show _=.int .i64 (3) from rfl) ⟨_,hfr,rfl⟩
   ·refine Tu l5 rfl ?_
    exact Zu (Zd (n8 () _ _ ⟨oB,hfr⟩ h))
  ·rintro _ zB bD ⟨cD, hfr⟩ h
   refine Zf (Za (Zg (.int .i64 (0)) rfl rfl ?_));refine Zb (Zd (Gq ?_));obtain rfl:=sinj h;exact Qq rfl rfl (show _=.int .i64 (0) from rfl) ⟨_,hfr,rfl⟩
def f19 (x0:Gi) (x1:List Zv):Option ((List Str)):=
 (f33 ((((x0).FaultLoom).Design).Rows)).bind fun y8=>
 (f34 x1).bind fun y11=>
 (f35 y11 ((fun a0 a1=>f36 a0 a1))).bind fun bD=>
 Option.bind (α:=(List Int) × (List (Int × Bool))) (
  lp (σ:=(List Int) × (List (Int × Bool)) × Int) (fun nK (eF,rF,t5)=>
   bif (decide (t5 < ((bD).length : Int))) then
    Option.bind (α:=(List Int) × (List (Int × Bool))) (
     (idx bD t5).bind fun y55=>
     (fchg ((y55).Kind) x0 y55 eF rF).bind fun tH=>
     some (tH.1,tH.2)
     ) fun (zD,aE)=>
    nK (zD,aE,(w64 (t5 + (1:Int))))
   else
    some (eF,rF)
   ) big (y8,([]:List (Int × Bool)),(0:Int))
  ) fun (bE,nB)=>
 (f10 (((x0).FaultLoom).Harness) ((⟨(((x0).FaultLoom).Design).Hooks,bE⟩:Design))).bind fun y79=>
 Option.bind (α:=(List Str)) (
  lp (σ:=(List Str) × Int) (fun uH (v8,o0)=>
   bif (decide (o0 < ((y79.1).length : Int))) then
    Option.bind (α:=(List Str)) (
     (idx v8 o0).bind fun lE=>
     Option.bind (α:=(List UInt8)) (
      lp (σ:=(List UInt8) × (List (Int × Bool))) (fun xH (l9,nD)=>
       bif nD.isEmpty then
        some (l9)
       else pickAll nD fun oB rm160=>
        (idx l9 oB.1).bind fun vK=>
        xH ((List.set l9 (Int.toNat oB.1) ((46:UInt8))),rm160)
       ) big ((lE).b,nB)
      ) fun yB=>
     (idx v8 o0).bind fun y165=>
     some ((List.set v8 (Int.toNat o0) ((⟨yB⟩:Str))))
     ) fun cD=>
    uH (cD,(w64 (o0 + (1:Int))))
   else
    some (v8)
   ) big (y79.1,(0:Int))
  ) fun mE=>
 some (mE)
theorem en19:Enters Try.prog 19:=enters_of Try.func19 (by kernel_rfl) rfl
theorem wk19 {gI:Gh} {wI:World} {x0:Gi} {x1:List Zv} {up0:Value} (rp0:RV gI.m wI x0 up0) {up1:Value} (rp1:RV gI.m wI x1 up1) {r:(List Str)} (h:f19 x0 x1=some r):Fn Try.prog 19 #[up0,up1] gI wI (fun m w v=>RV m w (r) v):=by
 unfold f19 at h;refine Gz Try.func19 rfl (Nat.le_of_ble_eq_true rfl) fun g0 hm hfr=>?_;have rp0:RV g0.m wI x0 up0:=hm ▸ rp0;have rp1:RV g0.m wI x1 up1:=hm ▸ rp1;show E _ 79 none _ _ _ _ _;refine Zf (Za (Ze .plain rfl (Tx (g:=g0) rfl rp0 fun g1 w1 p1 hs q1=>?_)));have hfr:=hfr.ext hs;have rp1:=rp1.ext hs;refine Zg (.slice none 0 0) rfl rfl ?_;have b2:OA 4004 g1 w1 9 ([]:List Str) (.slice none 0 0):=OA.nil;refine Zb (Zd (Zf (Za (Zz (Gk p1 0) (Zc Uf rfl (PT.ptr q1)) rfl ?_))));have q3:=Zm (Ts).1 q1;refine Zz (Gk (Gk p1 0) 2) (Zc Ji rfl (PT.ptr q3)) rfl ?_;have q4:=Zm (Qe).1 q3;refine Zz (Gk (Gk (Gk p1 0) 2) 1) (Zc Kk rfl (PT.ptr q4)) rfl ?_;have q5:=Zm (Qg).1 q4;refine Ze .plain rfl (Gj (g:=g1) Try.isAgg26 Try.sizeOf26 rfl q5 fun v6 r6=>?_);obtain ⟨y8,yL,h⟩:=Gd h;refine Ze .plain rfl (Vj (g:=g1) (vs:=[v6]) en33 (.cons rfl .nil) (v33_0 (iO:=9018) r6 yL) fun g7 w7_ v7 hs hr=>?_);have hfr:=hfr.ext hs;have rp1:=rp1.ext hs;have q1:=q1.ext hs;have hm7:=hr;refine Ze .plain rfl (Pe (g:=g7) (Value.int .i64) Bool 8019 fun g9 w9 v9 hs m9=>?_);have hfr:=hfr.stp hs;have rp1:=rp1.stp hs;have q1:=q1.stp hs;have hm7:=hm7.stp hs rfl;refine Zg v7 rfl rfl ?_;refine Zg v9 rfl rfl ?_;refine Zb (Zd (Zf (Za (Zn up1 rfl rfl ?_))));obtain ⟨y11,xK,h⟩:=Gd h;refine Ze .plain rfl (Vj (g:=g9) (vs:=[up1]) en34 (.cons rfl .nil) (v34_0 (iO:=9021) rp1 xK) fun zL iN vB hs hr=>?_);have hfr:=hfr.ext hs;have q1:=q1.ext hs;have hm7:=hm7.ext hs;have m9:=m9.ext hs;have hm10:=hr;refine Zg vB rfl rfl ?_;refine Zb (Zd (Zf (Za (Zn vB rfl rfl ?_))));obtain ⟨bD,yK,h⟩:=Gd h;refine Ze .plain rfl (At (g:=zL) (i:=9021) (vs:=[vB,.func (.func 36) #[] #[]]) en35 (.cons rfl (.cons rfl .nil)) (wk35 hm10 ⟨36,#[],#[],rfl,en36,fun g' w' hch a0 a1 b0 b1 r hu0 hu1 hr=>by exact Fn.mono (wk36 hu0 hu1  hr) fun _ _ _ h=>Zj.2 h⟩ yK) fun aM jN dO hs hr=>?_);obtain ⟨hrv,b12⟩:=hr;have hfr:=hfr.stp hs;have q1:=q1.stp hs;have hm7:=hm7.stp hs rfl;have m9:=m9.stp hs rfl;subst hrv;refine Zb (Zd (Zf (Za (Ze .plain rfl (Vj (g:=aM) (vs:=[]) en38 .nil (wk38 (i:=8800)) fun bM eO yF hs m14=>?_)))));have hfr:=hfr.ext hs;have b12:=b12.ext hs;have q1:=q1.ext hs;have hm7:=hm7.ext hs;have m9:=m9.ext hs;refine Zg yF rfl rfl ?_;refine Zb (Zd ?_);obtain ⟨⟨bE,nB⟩,hx,h⟩:=Gd h;refine Gx (fun e w=>∃ (g:Gh) ,Fr gI wI g w∧e 2=p1∧PT g.m w (x0:Gi) p1∧e 5=v7∧OM 9018 g w 3 (bE:List Int) v7∧e 6=v9∧MP (Value.int .i64) 8019 g w (nB:List (Int × Bool)) v9) (fun Q' hQ=>?_) (fun kN gO hR=>?_)
 ·replace h := hx
  clear hx;refine Zf (Za (Zn vB rfl rfl ?_));refine Zz (.int .i64 ((bD).length:Int)) (Lz Try.underlying42 rfl b12) rfl ?_;refine Zn (.int .i64 (0)) rfl rfl ?_;refine Zb (Zd (Zr ?_));refine He h (fun (s:(List Int) × (List (Int × Bool)) × Int) e w=>∃ (g:Gh) ,Fr gI wI g w∧e 1=vB∧OM 9021 g w 41 (bD:List Zv) vB∧e 2=p1∧PT g.m w (x0:Gi) p1∧e 5=v7∧OM 9018 g w 3 (s.1:List Int) v7∧e 6=v9∧MP (Value.int .i64) 8019 g w (s.2.1:List (Int × Bool)) v9∧e 7=yF∧MP (Value.int .i64) 8800 g w chgM yF∧e 25=vB∧e 26=.int .i64 (((bD).length:Int))∧e 27=.int .i64 (s.2.2)) ⟨bM,hfr,rfl,b12,rfl,q1,rfl,hm7,rfl,m9,rfl,m14,rfl,rfl,rfl⟩ (fun X41 nK zK=>?_);rintro ⟨eF,rF,t5⟩ lN jO ⟨yH,hfr,mJ,i6,sF,g8,tF,zB,uF,cC,yG,l8,aG,bG,oE⟩ h;refine Zf (Za (Gp (.bool ((decide (t5 < ((bD).length:Int))))) oE bG rfl rfl ?_));refine Zb (Zd (Zf ?_));rcases Zt h with ⟨mG,h⟩ | ⟨mG,h⟩
  ·refine Tv mG rfl ?_
   refine Zu (Zd ?_);obtain ⟨⟨zD,aE⟩,hx,h⟩:=Gd h;refine Gx (fun e w=>∃ (g:Gh) ,Fr gI wI g w∧e 1=vB∧OM 9021 g w 41 (bD:List Zv) vB∧e 2=p1∧PT g.m w (x0:Gi) p1∧e 5=v7∧OM 9018 g w 3 (zD:List Int) v7∧e 6=v9∧MP (Value.int .i64) 8019 g w (aE:List (Int × Bool)) v9∧e 7=yF∧MP (Value.int .i64) 8800 g w chgM yF∧e 25=vB∧e 26=.int .i64 (((bD).length:Int))∧e 27=.int .i64 (t5)) (fun Q' hQ=>?_) (fun mN kO hR=>?_)
   ·replace h := hx
    clear hx;refine Zr ?_;refine Zf (Za ?_);obtain ⟨y55,zH,h⟩:=Gd h;refine Zz (We vB t5 5) (Tm (α:=Zv) Try.underlying42 Try.sizeOf41 aG i6 oE zH) rfl ?_;refine Ze .plain rfl (D_loadM (g:=yH) Try.isAgg41 Try.sizeOf41 rfl i6 zH fun cM aI=>?_);refine Ze .plain rfl (Tj (g:=yH) 2009 (⟨0,0,0,0,false⟩:Zv) Try.zeroValue41 (fun m w=>⟨_,(Gw Zx (Gw Zx (Gw Zx (Gw Zx Wu)))),rfl⟩) fun dM lO eM hs b57 cb=>?_);have hfr:=hfr.stp hs;have i6:=i6.stp hs rfl;have g8:=g8.stp hs;have zB:=zB.stp hs rfl;have cC:=cC.stp hs rfl;have l8:=l8.stp hs rfl;have aI:=aI.stp hs;clear cb;refine Ze .plain rfl (Gr (g:=dM) (v:=cM) Try.sizeOf41 rfl b57 rfl aI fun cG mO hs b58 cb=>?_);clear cb;have hfr:=hfr.stp hs;have i6:=i6.stp hs rfl;have g8:=g8.stp hs;have zB:=zB.stp hs rfl;have cC:=cC.stp hs rfl;have l8:=l8.stp hs rfl;refine Zb (Zd (Za (Zo yG rfl ?_)));refine Zz (Gk eM 0) (Zc Fm rfl (OB.ptr b58)) rfl ?_;refine Ze .plain rfl (Wr (g:=cG) Kj.1 Try.isAgg39 Try.sizeOf39 rfl b58 fun nO iM=>?_);obtain rfl:=Zj.1 iM;refine Ze .plain rfl (D_lookup (g:=cG) (z0:=fv0) Try.underlying104 Pb Try.zeroValue107 (fun _ _=>Ve.2 rfl) rfl l8 rfl fun oO jM=>?_);have aL:=Ve.1 jM;refine Ze .plain rfl (Gj (g:=cG) Try.isAgg64 Try.sizeOf64 sF g8 fun v62 kM=>?_);refine Ze .plain rfl (Wg (g:=cG) Try.isAgg41 Try.sizeOf41 rfl b58 fun pO pM=>?_);refine Zo tF rfl ?_;refine Zo uF rfl ?_;obtain ⟨tH,bL,h⟩:=Gd h;refine Ze .plain rfl (D_chg (g:=cG) (i:=9018) (j:=8019) bL (show _=_ from aL) rfl rfl rfl rfl kM pM zB cC rfl rfl fun qO rO dL nN sO hs hs2 mr65 mb65=>?_);have hfr:=hfr.stp hs;have i6:=i6.stp hs rfl;have g8:=g8.stp hs;have l8:=l8.stp hs rfl;have hfr:=hfr.stp hs2;have i6:=i6.stp hs2 rfl;have g8:=g8.stp hs2;have l8:=l8.stp hs2 rfl;refine Zb (To ?_);obtain ⟨rfl,rfl⟩:=Ww h;exact hQ _ _ ⟨dL,hfr,mJ,i6,sF,g8,tF,mr65,uF,mb65,yG,l8,aG,bG,oE⟩
   ·clear hx
    obtain ⟨qM,hfr,nJ,oJ,pJ,qJ,rJ,sJ,vJ,xJ,zJ,aK,bI,dI,iI⟩:=hR;refine Za (Gp (.int .i64 ((w64 (t5 + (1:Int))))) iI rfl rfl rfl ?_);refine Zn (.int .i64 ((w64 (t5 + (1:Int))))) rfl rfl ?_;exact Zb (Zd (zK (zD,aE,(w64 (t5 + (1:Int)))) _ _ ⟨qM,hfr,nJ,oJ,pJ,qJ,rJ,sJ,vJ,xJ,zJ,aK,bI,dI,rfl⟩ h))
  ·refine Tu mG rfl ?_
   refine Qj ?_;refine Ta ?_;refine Ta ?_;refine Tp ?_;obtain ⟨rfl,rfl⟩:=Ww h;exact hQ _ _ ⟨yH,hfr,sF,g8,tF,zB,uF,cC⟩
 ·clear hx
  obtain ⟨oK,hfr,zG,iE,bK,cK,dK,lD⟩:=hR;refine Zf (Za (Zz (Gk p1 0) (Zc Uf zG (PT.ptr iE)) rfl ?_));have pK:=Zm (Ts).1 iE;refine Zz (Gk (Gk p1 0) 0) (Zc Hw rfl (PT.ptr pK)) rfl ?_;have rM:=Zm (Qp).1 pK;refine Ze .plain rfl (Gj (g:=oK) Try.isAgg28 Try.sizeOf28 rfl rM fun sM jI=>?_);refine Zz (Gk p1 0) (Zc Uf zG (PT.ptr iE)) rfl ?_;have qK:=Zm (Ts).1 iE;refine Zz (Gk (Gk p1 0) 2) (Zc Ji rfl (PT.ptr qK)) rfl ?_;have sK:=Zm (Qe).1 qK;refine Zz (Gk (Gk (Gk p1 0) 2) 0) (Zc Hs rfl (PT.ptr sK)) rfl ?_;have tM:=Zm (Ql).1 sK;refine Ze .plain rfl (Gj (g:=oK) Try.isAgg3 Try.sizeOf3 rfl tM fun tO uM=>?_);obtain rfl:=Zj.1 uM;refine Zo bK rfl ?_;obtain ⟨gp77,hs,rp77⟩:=OM.pub cK;have hfr:=hfr.stp hs;have lD:=lD.stp hs rfl;have jI:=jI.stp hs;have tK:RV gp77.m _ (⟨(((x0).FaultLoom).Design).Hooks,bE⟩:Design) (.agg (Gy [[.int .i64 0],[.slice none 0 0]] [(0,.int .i64 ((((x0).FaultLoom).Design).Hooks)),(1,v7)]).flatten.toArray):=Th rfl (Gu (rfl) (Tl (RV.cells rp77)));generalize eL:(Value.agg (Gy [[.int .i64 0],[.slice none 0 0]] [(0,.int .i64 ((((x0).FaultLoom).Design).Hooks)),(1,v7)]).flatten.toArray)=uK at tK;refine Zz uK (eL ▸ Qb (vs:=[(0,.int .i64 ((((x0).FaultLoom).Design).Hooks)),(1,v7)]) [[.int .i64 0],[.slice none 0 0]] Lr rfl rfl (.cons rfl (.cons rfl .nil)) ⟨⟨_,rfl,rfl⟩,⟨⟨_,rfl,Tb rp77⟩,trivial⟩⟩) rfl ?_;obtain ⟨y79,gL,h⟩:=Gd h;refine Ze .plain rfl (Vj (g:=gp77) (vs:=[sM,uK]) en10 (.cons rfl (.cons rfl .nil)) (v10_0 (iO:=9051) jI tK gL) fun vM oN uO hs hr=>?_);have hfr:=hfr.ext hs;have lD:=lD.ext hs;obtain ⟨l5,xM,rfl,hm78,rfl⟩:=hr;refine Zn (.tuple #[l5,.int .i64 (y79.2)]) rfl rfl ?_;refine Zz l5 (Zi rfl rfl) rfl ?_;refine Zz (.int .i64 (y79.2)) (Zi rfl rfl) rfl ?_;refine Zg l5 rfl rfl ?_;refine Zb (Zd ?_);obtain ⟨mE,hx,h⟩:=Gd h;refine Gx (fun e w=>∃ (g:Gh) ,Fr gI wI g w∧e 4=l5∧OM 9051 g w 9 (mE:List Str) l5) (fun Q' hQ=>?_) (fun bN pN hR=>?_)
  ·replace h := hx
   clear hx;refine Zf (Za (Zn l5 rfl rfl ?_));refine Zz (.int .i64 ((y79.1).length:Int)) (Lz Try.underlying34 rfl hm78) rfl ?_;refine Zn (.int .i64 (0)) rfl rfl ?_;refine Zb (Zd (Zr ?_));refine He h (fun (s:(List Str) × Int) e w=>∃ (g:Gh) ,Fr gI wI g w∧e 4=l5∧OM 9051 g w 9 (s.1:List Str) l5∧e 6=v9∧MP (Value.int .i64) 8019 g w (nB:List (Int × Bool)) v9∧e 54=l5∧e 55=.int .i64 (((y79.1).length:Int))∧e 56=.int .i64 (s.2)) ⟨vM,hfr,rfl,hm78,dK,lD,rfl,rfl,rfl⟩ (fun X124 uH lK=>?_);rintro ⟨v8,o0⟩ cN qN ⟨sG,hfr,eG,n8,gG,n9,uE,vE,uC⟩ h;refine Zf (Za (Gp (.bool ((decide (o0 < ((y79.1).length:Int))))) uC vE rfl rfl ?_));refine Zb (Zd (Zf ?_));rcases Zt h with ⟨vF,h⟩ | ⟨vF,h⟩
   ·refine Tv vF rfl ?_
    refine Zu (Zd ?_);obtain ⟨cD,hx,h⟩:=Gd h;refine Gx (fun e w=>∃ (g:Gh) ,Fr gI wI g w∧e 4=l5∧OM 9051 g w 9 (cD:List Str) l5∧e 6=v9∧MP (Value.int .i64) 8019 g w (nB:List (Int × Bool)) v9∧e 54=l5∧e 55=.int .i64 (((y79.1).length:Int))∧e 56=.int .i64 (o0)) (fun Q' hQ=>?_) (fun dN rN hR=>?_)
    ·replace h := hx
     clear hx;refine Zr ?_;refine Zf (Za (Zo uC rfl ?_));obtain ⟨lE,aH,h⟩:=Gd h;refine Zz (We l5 o0 1) (Tm (α:=Str) Try.underlying34 Try.sizeOf9 uE n8 uC aH) rfl ?_;refine Ze .plain rfl (D_loadM (g:=sG) Try.isAgg9 Try.sizeOf9 rfl n8 aH fun sN iL=>?_);obtain rfl:=Jb.1 iL;refine Zg (.int .i64 (o0)) rfl rfl ?_;refine Zg (Str.v (lE)) rfl rfl ?_;refine Zb (Zd (Zf (Za (Zn (Str.v (lE)) rfl rfl ?_))));refine Ze .plain rfl (D_convSB (g:=sG) (s:=lE) 9062 Try.underlying9 Try.underlying22 Try.underlying5 rfl fun jL tN oD hs m149=>?_);have hfr:=hfr.stp hs;have n8:=n8.stp hs rfl;have n9:=n9.stp hs rfl;refine Zg oD rfl rfl ?_;refine Zb (Zd ?_);obtain ⟨yB,hx,h⟩:=Gd h;refine Gx (fun e w=>∃ (g:Gh) ,Fr gI wI g w∧e 4=l5∧OM 9051 g w 9 (v8:List Str) l5∧e 6=v9∧MP (Value.int .i64) 8019 g w (nB:List (Int × Bool)) v9∧e 10=.int .i64 (o0)∧e 12=oD∧OM 9062 g w 5 (yB:List UInt8) oD∧e 54=l5∧e 55=.int .i64 (((y79.1).length:Int))∧e 56=.int .i64 (o0)) (fun Q' hQ=>?_) (fun eN uN hR=>?_)
     ·replace h := hx
      clear hx;refine Zf (Za (Zo gG rfl ?_));refine Ze .plain rfl (D_rangeM (g:=jL) 7564 Try.underlying99 rfl n9 fun lL vN kI hs b157=>?_);have hfr:=hfr.stp hs;have n8:=n8.stp hs rfl;have n9:=n9.stp hs rfl;have m149:=m149.stp hs rfl;refine Zb (Zd (Zr ?_));refine He h (fun (s:(List UInt8) × (List (Int × Bool))) e w=>∃ (g:Gh) ,Fr gI wI g w∧e 4=l5∧OM 9051 g w 9 (v8:List Str) l5∧e 6=v9∧MP (Value.int .i64) 8019 g w (nB:List (Int × Bool)) v9∧e 10=.int .i64 (o0)∧e 12=oD∧OM 9062 g w 5 (s.1:List UInt8) oD∧e 54=l5∧e 55=.int .i64 (((y79.1).length:Int))∧e 56=.int .i64 (o0)∧e 64=kI∧MI (Value.int .i64) 7564 8019 g w (s.2:List (Int × Bool)) none kI) ⟨lL,hfr,eG,n8,gG,n9,rfl,rfl,m149,uE,vE,uC,rfl,b157.dropc⟩ (fun X158 xH mK=>?_);rintro ⟨l9,nD⟩ gN xN ⟨xG,hfr,iG,aB,jG,lB,xE,yD,mB,yE,zE,cF,vC,dF⟩ h;refine Zf (Za ?_);rcases Zt h with ⟨xF,h⟩ | ⟨xF,h⟩
      ·refine Ze .plain rfl (Ir (g := xG) vC dF xF ?_)
       refine Zz (.bool false) (Zi rfl rfl) rfl ?_;refine Zb (Zd (Zf (Td (by rw [show ev _ _=_ from rfl]; exact congrArg Value.bool rfl) ?_)));refine Qj ?_;refine Ta ?_;refine Ta ?_;refine Tp ?_;obtain rfl:=sinj h;exact hQ _ _ ⟨xG,hfr,iG,aB,jG,lB,xE,yD,mB,yE,zE,cF⟩
      ·refine Ze .plain rfl (Er (g := xG) vC dF rfl xF fun oB rm160 u160 lI yN hmem hs b160 ru160 => ?_)
       replace h:=pickAll_h h _ hmem;clear hmem;obtain rfl:=Wc.1 ru160;have hfr:=hfr.stp hs;have aB:=aB.stp hs rfl;have lB:=lB.stp hs rfl;have mB:=mB.stp hs rfl;refine Zz (.bool true) (Zi rfl rfl) rfl ?_;refine Zb (Zd (Zf (Tt (by rw [show ev _ _=_ from rfl]; exact congrArg Value.bool rfl) ?_)));refine Zu (Zd (Zr ?_));refine Zf (Za (Ze .plain rfl (D_entry (g:=lI) vC b160 fun zN mL=>?_)));obtain rfl:=Wc.1 mL;refine Zz (.int .i64 (oB.1)) (Zi rfl rfl) rfl ?_;refine Zg (.int .i64 (oB.1)) rfl rfl ?_;refine Zb (Zd (Za (Zo yD rfl ?_)));refine Zn (.int .i64 (oB.1)) rfl rfl ?_;obtain ⟨vK,cH,h⟩:=Gd h;refine Zz (We oD oB.1 1) (Tm (α:=UInt8) Try.underlying22 Try.sizeOf5 rfl mB rfl cH) rfl ?_;refine Ze .plain rfl (Ju (g:=lI) (α:=UInt8) (a':=((46:UInt8))) Try.sizeOf5 rfl mB cH rfl (Eu.2 rfl) fun nL aO hs b163=>?_);have hfr:=hfr.stp hs;have aB:=aB.stp hs rfl;have lB:=lB.stp hs rfl;have b160:=b160.stp hs rfl;exact Zb (To (Zd (mK ((List.set l9 (Int.toNat oB.1) ((46:UInt8))),rm160) _ _ ⟨nL,hfr,iG,aB,jG,lB,xE,yD,b163,yE,zE,cF,vC,b160.dropc⟩ h)))
     ·clear hx
      obtain ⟨mI,hfr,kG,lG,nI,rE,jH,kH,lH,mH,nH,oH⟩:=hR;refine Za (Zo kG rfl ?_);refine Zo jH rfl ?_;refine Zo kH rfl ?_;refine Ze .plain rfl (D_convBS (g:=mI) Try.underlying22 Try.underlying9 Try.underlying5 rfl lH ?_);obtain ⟨y165,gH,h⟩:=Gd h;refine Zz (We l5 o0 1) (Tm (α:=Str) Try.underlying34 Try.sizeOf9 rfl lG rfl gH) rfl ?_;refine Ze .plain rfl (Ju (g:=mI) (α:=Str) (a':=((⟨yB⟩:Str))) Try.sizeOf9 rfl lG gH rfl (Jb.2 rfl) fun oL bO hs b166=>?_);have hfr:=hfr.stp hs;have rE:=rE.stp hs rfl;refine Zb (To ?_);obtain rfl:=sinj h;exact hQ _ _ ⟨oL,hfr,kG,b166,nI,rE,mH,nH,oH⟩
    ·clear hx
     obtain ⟨xL,hfr,pI,qI,sI,jJ,pH,qH,sH⟩:=hR;refine Za (Gp (.int .i64 ((w64 (o0 + (1:Int))))) sH rfl rfl rfl ?_);refine Zn (.int .i64 ((w64 (o0 + (1:Int))))) rfl rfl ?_;exact Zb (Zd (lK (cD,(w64 (o0 + (1:Int)))) _ _ ⟨xL,hfr,pI,qI,sI,jJ,pH,qH,rfl⟩ h))
   ·refine Tu vF rfl ?_
    refine Qj ?_;refine Ta ?_;refine Ta ?_;refine Tp ?_;obtain rfl:=sinj h;exact hQ _ _ ⟨sG,hfr,eG,n8⟩
  ·clear hx
   obtain ⟨cO,hfr,kJ,lJ⟩:=hR;refine Zf (Za (Zo kJ rfl ?_));refine Zg l5 rfl rfl ?_;refine Zb (Zd (Gq ?_));obtain ⟨gp169,hs,rp169⟩:=OM.pub lJ;have hfr:=hfr.stp hs;obtain rfl:=sinj h;exact Qq rfl rfl (show _=l5 from rfl) ⟨_,hfr,rp169⟩
def f30 (x0:FaultLoom) (x1:Zv) (x2:Zv):Option (Int × Int × Int):=
 jn (σ:=Int × Int × Int) (fun (bD,cD,lD)=>
  jn (σ:=Int × Int × Int) (fun (eF,rF,sF)=>
   some ((0:Int),(0:Int),(7:Int))
   ) fun kH=>
  (f19 ((⟨x0⟩:Gi)) (([x1]:List Zv))).bind fun vC=>
  (f19 ((⟨x0⟩:Gi)) (([x2]:List Zv))).bind fun y98=>
  (f58 vC y98).bind fun yB=>
  (yB (Nat × Int × Int × Int) (Rx fun (tF,uF,vF) (i6,g8)=>
   some (false,((1:Nat),(i6,g8,(0:Int))))
   ) (0,(bD,cD,lD))).bind fun (n9,(aB,lB,mB))=>
  bif Nat.beq n9 0 then
   kH (aB,lB,mB)
  else
   some (aB,lB,mB)
  ) fun lH=>
 (f31 x0 (([x1,x2]:List Zv))).bind fun zB=>
 bif (zB != (0 : Int)) then
  some ((0:Int),(0:Int),zB)
 else
  lH ((0:Int),(0:Int),(0:Int))
theorem en30:Enters Try.prog 30:=enters_of Try.func30 (by kernel_rfl) rfl
theorem wk30 {gI:Gh} {wI:World} {x0:FaultLoom} {x1:Zv} {x2:Zv} {up0:Value} (rp0:RV gI.m wI x0 up0) {up1:Value} (rp1:RV gI.m wI x1 up1) {up2:Value} (rp2:RV gI.m wI x2 up2) {r:Int × Int × Int} (h:f30 x0 x1 x2=some r):Fn Try.prog 30 #[up0,up1,up2] gI wI (fun m w v=>∃ y0 y1 y2,v=.tuple #[y0,y1,y2]∧y0=.int .i64 (r.1)∧y1=.int .i64 (r.2.1)∧y2=.int .i64 (r.2.2)):=by
 unfold f30 at h;refine Fs Try.func30 rfl (Nat.le_of_ble_eq_true rfl) fun g0 hm hfr=>?_;have hmk:MkF g0 wI []:=MkF.start;have rp0:RV g0.m wI x0 up0:=hm ▸ rp0;have rp1:RV g0.m wI x1 up1:=hm ▸ rp1;have rp2:RV g0.m wI x2 up2:=hm ▸ rp2;show E _ 35 none _ _ _ _ _;refine Zf (Za (Ze .plain rfl (Tx (g:=g0) rfl rp0 fun g1 w1 p1 hs q1=>?_)));have hfr:=hfr.ext hs;have hmk:=hmk.ext hs;have rp1:=rp1.ext hs;have rp2:=rp2.ext hs;refine Ze .plain rfl (Tx (g:=g1) rfl rp1 fun g2 w2 p2 hs q2=>?_);have hfr:=hfr.ext hs;have hmk:=hmk.ext hs;have rp2:=rp2.ext hs;have q1:=q1.ext hs;refine Ze .plain rfl (Tx (g:=g2) rfl rp2 fun g3 w3 p3 hs q3=>?_);have hfr:=hfr.ext hs;have hmk:=hmk.ext hs;have q1:=q1.ext hs;have q2:=q2.ext hs;refine Ze .plain rfl (Tj (g:=g3) 2006 (0:Int) Try.zeroValue3 (fun m w=>⟨_,Zx,rfl⟩) fun g4 w4 p4 hs b4 cb=>?_);have hfr:=hfr.stp hs;have hmk:=hmk.stp hs;have q1:=q1.stp hs;have q2:=q2.stp hs;have q3:=q3.stp hs;clear cb;refine Ze .plain rfl (Tj (g:=g4) 2007 (0:Int) Try.zeroValue3 (fun m w=>⟨_,Zx,rfl⟩) fun g5 w5 p5 hs b5 cb=>?_);have hfr:=hfr.stp hs;have hmk:=hmk.stp hs;have q1:=q1.stp hs;have q2:=q2.stp hs;have q3:=q3.stp hs;have b4:=b4.stp hs rfl;clear cb;refine Ze .plain rfl (Tj (g:=g5) 2008 (0:Int) Try.zeroValue35 (fun m w=>⟨_,Zx,rfl⟩) fun g6 w6 p6 hs b6 cb=>?_);have hfr:=hfr.stp hs;have hmk:=hmk.stp hs;have q1:=q1.stp hs;have q2:=q2.stp hs;have q3:=q3.stp hs;have b4:=b4.stp hs rfl;have b5:=b5.stp hs rfl;clear cb;refine Zb (Zd (Sn h (fun (s:Int × Int × Int) e ds w=>∃ (g:Gh) ,Fr gI wI g w∧MkF g w ds∧e 3=p1∧PT g.m w (x0:FaultLoom) p1∧e 4=p2∧PT g.m w (x1:Zv) p2∧e 5=p3∧PT g.m w (x2:Zv) p3∧e 6=p4∧OB 2006 g w 3 (s.1:Int) p4∧e 7=p5∧OB 2007 g w 3 (s.2.1:Int) p5∧e 8=p6∧OB 2008 g w 35 (s.2.2:Int) p6) (fun X21 lH zH h=>?_) ?_))
 ·refine Zf (Za (Ze .plain rfl (Gj (g := g6) Try.isAgg32 Try.sizeOf32 rfl q1 fun vJ xF => ?_)))
  refine Ze .plain rfl (Gj (g:=g6) Try.isAgg41 Try.sizeOf41 rfl q2 fun xJ zJ=>?_);refine Ze .plain rfl (Gj (g:=g6) Try.isAgg41 Try.sizeOf41 rfl q3 fun aK bK=>?_);refine Ze .plain rfl (Gl (g:=g6) 3015 (xs:=([x1,x2]:List Zv)) (vs:=[xJ,aK]) Try.underlying42 Try.sizeOf41 Try.zeroValue41 rfl rfl (.cons rfl (.cons rfl .nil)) (RVs.cons zJ (RVs.cons bK RVs.nil)) rfl rfl fun cK iM dK hs o25 lK hxt hfl=>?_);have hfr:=hfr.stp hs;have hmk:=hmk.stp hs;have q1:=q1.stp hs;have q2:=q2.stp hs;have q3:=q3.stp hs;have b4:=b4.stp hs rfl;have b5:=b5.stp hs rfl;have b6:=b6.stp hs rfl;have xF:=xF.stp hs;obtain ⟨zB,aI,h⟩:=Gd h;refine Ze .plain rfl (Zp (g:=cK) (vs:=[vJ,dK]) en31 (.cons rfl (.cons rfl .nil)) (wk31 xF lK aI) fun mH xK jM hs hr=>?_);have hfr:=hfr.ext hs;have hmk:=hmk.ext hs;have q1:=q1.ext hs;have q2:=q2.ext hs;have q3:=q3.ext hs;have b4:=b4.ext hs;have b5:=b5.ext hs;have b6:=b6.ext hs;subst hr;refine Zg (.int .i64 (zB)) rfl rfl ?_;refine Zb (Zd (Zf (Za (Zn (.int .i64 (zB)) rfl rfl ?_))));refine Gp (.bool ((zB != (0:Int)))) rfl rfl rfl rfl ?_;refine Zb (Zd ?_);rcases Zt h with ⟨oE,h⟩ | ⟨oE,h⟩
  ·refine Tv oE rfl ?_
   refine Zf (Za (Zn (.int .i64 (zB)) rfl rfl ?_));refine Ze .plain rfl (Gr (g:=mH) (v:=.int .i64 (0)) Try.sizeOf3 rfl b4 rfl (Zj.2 rfl) fun mK w29 hs b29 cb=>?_);clear cb;have hfr:=hfr.stp hs;have hmk:=hmk.stp hs;have b5:=b5.stp hs rfl;have b6:=b6.stp hs rfl;refine Ze .plain rfl (Gr (g:=mK) (v:=.int .i64 (0)) Try.sizeOf3 rfl b5 rfl (Zj.2 rfl) fun nK kM hs b30 cb=>?_);clear cb;have hfr:=hfr.stp hs;have hmk:=hmk.stp hs;have b29:=b29.stp hs rfl;have b6:=b6.stp hs rfl;refine Ze .plain rfl (Gr (g:=nK) (v:=.int .i64 (zB)) Try.sizeOf35 rfl b6 rfl (Zj.2 rfl) fun pM qM hs b31 cb=>?_);clear cb;have hfr:=hfr.stp hs;have hmk:=hmk.stp hs;have b29:=b29.stp hs rfl;have b30:=b30.stp hs rfl;refine Zb (Zd (Gq (Tc ?_)));refine Bg (.inr rfl) hmk fun rM sM hs=>?_;have hfr:=hfr.stp hs;have b29:=b29.stp hs rfl;have b30:=b30.stp hs rfl;have b31:=b31.stp hs rfl;obtain rfl:=sinj h;obtain ⟨ad33,cv33,hp33,bI,cr33⟩:=Qs Try.isAgg3 Try.sizeOf3 b29;obtain rfl:=Zj.1 cr33;obtain ⟨ad34,cv34,hp34,dI,cr34⟩:=Qs Try.isAgg3 Try.sizeOf3 b30;obtain rfl:=Zj.1 cr34;obtain ⟨ad35,cv35,hp35,iI,cr35⟩:=Qs Try.isAgg35 Try.sizeOf35 b31;obtain rfl:=Zj.1 cr35;exact On rfl rfl ((show _=p4 from rfl).trans hp33) bI ((show _=p5 from rfl).trans hp34) dI ((show _=p6 from rfl).trans hp35) iI ⟨_,hfr,_,_,_,rfl,rfl,rfl,rfl⟩
  ·refine Tu oE rfl ?_
   exact Zu (Zd (zH ((0:Int),(0:Int),(0:Int)) _ _ _ ⟨mH,hfr,hmk,rfl,q1,rfl,q2,rfl,q3,rfl,b4,rfl,b5,rfl,b6⟩ h))
 ·rintro ⟨bD, cD, lD⟩ yK rE tM ⟨yF, hfr, hmk, uE, vE, kG, lG, mG, sG, nD, oD, yD, zD, aE, bE⟩ h
  refine Sn h (fun (s:Int × Int × Int) e ds w=>∃ (g:Gh) ,Fr gI wI g w∧MkF g w ds∧e 6=p4∧OB 2006 g w 3 (s.1:Int) p4∧e 7=p5∧OB 2007 g w 3 (s.2.1:Int) p5∧e 8=p6∧OB 2008 g w 35 (s.2.2:Int) p6) (fun X86 kH jI h=>?_) ?_
  ·refine Zf (Zs (x := .tmp 3) Try.isAgg32 Try.sizeOf32 vE fun xE nH kI => ?_)
   have oH:RV yF.m _ (⟨x0⟩:Gi) (.agg (Gy [[.int .i64 0,.slice none 0 0,.int .i64 0,.slice none 0 0]] [(0,xE)]).flatten.toArray):=Th rfl (Tl (RV.cells nH));generalize lI:(Value.agg (Gy [[.int .i64 0,.slice none 0 0,.int .i64 0,.slice none 0 0]] [(0,xE)]).flatten.toArray)=pH at oH;refine Zs (x:=.tmp 4) Try.isAgg41 Try.sizeOf41 lG fun qH oK mI=>?_;obtain ⟨vC,nI,h⟩:=Gd h;refine Zs (x:=.tmp 3) Try.isAgg32 Try.sizeOf32 vE fun yE sH pI=>?_;have tH:RV yF.m _ (⟨x0⟩:Gi) (.agg (Gy [[.int .i64 0,.slice none 0 0,.int .i64 0,.slice none 0 0]] [(0,yE)]).flatten.toArray):=Th rfl (Tl (RV.cells sH));generalize qI:(Value.agg (Gy [[.int .i64 0,.slice none 0 0,.int .i64 0,.slice none 0 0]] [(0,yE)]).flatten.toArray)=uH at tH;refine Zs (x:=.tmp 5) Try.isAgg41 Try.sizeOf41 sG fun xH pK sI=>?_;obtain ⟨y98,jJ,h⟩:=Gd h;obtain ⟨yB,xG,h⟩:=Gd h;refine Qu (g:=yF) (n:=11) [(3,(fun v g w=>RV g.m w ([x1]:List Zv) v∧OS 3023 g w 41 ([x1]:List Zv) v∧Ug v)),(4,(fun v g w=>RV g.m w vC v)),(8,(fun v g w=>RV g.m w ([x2]:List Zv) v∧OS 3028 g w 41 ([x2]:List Zv) v∧Ug v)),(9,(fun v g w=>RV g.m w y98 v)),(10,(fun v g w=>ItV Try.prog (RA2 (α:=Int) (β:=Int)) yB v g.m w))] [0,1,2,3,4,5,6,7,8,9,10] rfl Wt (by kernel_rfl) (⟨fun _=>Sq Vb (Sq up_os (Rs _)),fun _=>Vb,fun _=>Sq Vb (Sq up_os (Rs _)),fun _=>Vb,fun _=>up_itv,trivial⟩) ?_;refine Qm (c:=xE) rfl rfl .plain (fun _ _ h=>h.ch) kI uE ?_;refine Gc pH rfl rfl (lI ▸ Qb (vs:=[(0,xE)]) [[.int .i64 0,.slice none 0 0,.int .i64 0,.slice none 0 0]] Pg rfl rfl (.cons rfl .nil) ⟨⟨_,rfl,Tb nH⟩,trivial⟩) ?_;refine Qm (c:=qH) rfl rfl .plain (fun _ _ h=>h.ch) mI kG ?_;refine Uh (φ:=fun v g w=>RV g.m w ([x1]:List Zv) v∧OS 3023 g w 41 ([x1]:List Zv) v∧Ug v) rfl rfl .plain (fun g w hd=>Gl (g:=g) 3023 (xs:=([x1]:List Zv)) (vs:=[qH]) Try.underlying42 Try.sizeOf41 Try.zeroValue41 rfl rfl (.cons rfl .nil) (RVs.cons (oK.ext hd.1) RVs.nil) rfl rfl fun g' w' v hs o r hxt hfl=>⟨g',hxt,r,o,hfl⟩) (fun v8 hv=>?_);clear hv;refine Uh (φ:=fun v g w=>RV g.m w vC v) rfl rfl .plain (fun g w hd=>Zp (g:=g) (vs:=[pH,v8]) en19 (.cons rfl (.cons rfl .nil)) (wk19 (oH.ext hd.1) (word (A:=fun g w=>RV g.m w ([x1]:List Zv) v8∧OS 3023 g w 41 ([x1]:List Zv) v8∧Ug v8) 3 rfl rfl (Dg hd)).1 nI) fun g' w' v hs hr=>⟨g',hs,hr⟩) (fun aG hv=>?_);obtain ⟨_,_,_,rq91⟩:=hv;refine Qm (c:=yE) rfl rfl .plain (fun _ _ h=>h.ch) pI uE ?_;refine Gc uH rfl rfl (qI ▸ Qb (vs:=[(0,yE)]) [[.int .i64 0,.slice none 0 0,.int .i64 0,.slice none 0 0]] Pg rfl rfl (.cons rfl .nil) ⟨⟨_,rfl,Tb sH⟩,trivial⟩) ?_;refine Qm (c:=xH) rfl rfl .plain (fun _ _ h=>h.ch) sI mG ?_;refine Uh (φ:=fun v g w=>RV g.m w ([x2]:List Zv) v∧OS 3028 g w 41 ([x2]:List Zv) v∧Ug v) rfl rfl .plain (fun g w hd=>Gl (g:=g) 3028 (xs:=([x2]:List Zv)) (vs:=[xH]) Try.underlying42 Try.sizeOf41 Try.zeroValue41 rfl rfl (.cons rfl .nil) (RVs.cons (pK.ext hd.1) RVs.nil) rfl rfl fun g' w' v hs o r hxt hfl=>⟨g',hxt,r,o,hfl⟩) (fun l9 hv=>?_);clear hv;refine Uh (φ:=fun v g w=>RV g.m w y98 v) rfl rfl .plain (fun g w hd=>Zp (g:=g) (vs:=[uH,l9]) en19 (.cons rfl (.cons rfl .nil)) (wk19 (tH.ext hd.1) (word (A:=fun g w=>RV g.m w ([x2]:List Zv) l9∧OS 3028 g w 41 ([x2]:List Zv) l9∧Ug l9) 8 rfl rfl (Dg hd)).1 jJ) fun g' w' v hs hr=>⟨g',hs,hr⟩) (fun bG hv=>?_);obtain ⟨_,_,_,rq97⟩:=hv;refine Uh (φ:=fun v g w=>ItV Try.prog (RA2 (α:=Int) (β:=Int)) yB v g.m w) rfl rfl .plain (fun g w hd=>Zp (g:=g) (vs:=[aG,bG]) en58 (.cons rfl (.cons rfl .nil)) (wk58 (word (A:=fun g w=>RV g.m w vC aG) 4 rfl rfl (Dg hd)) (word (A:=fun g w=>RV g.m w y98 bG) 9 rfl rfl (Dg hd)) xG) fun g' w' v hs hr=>⟨g',hs,hr⟩) (fun yH hv=>?_);clear hv;refine Xr fun zK aL hall=>?_;have hs:=hall.1;have hfr:=hfr.ext hs;have hmk:=hmk.ext hs;have oD:=oD.ext hs;have zD:=zD.ext hs;have bE:=bE.ext hs;have bL:=(Qw (A:=fun g w=>RV g.m w ([x1]:List Zv) v8∧OS 3023 g w 41 ([x1]:List Zv) v8∧Ug v8) 3 rfl hall).1;have o111:=(Qw (A:=fun g w=>RV g.m w ([x1]:List Zv) v8∧OS 3023 g w 41 ([x1]:List Zv) v8∧Ug v8) 3 rfl hall).2.1;have dL:=(Qw (A:=fun g w=>RV g.m w vC aG) 4 rfl hall);have eL:=(Qw (A:=fun g w=>RV g.m w ([x2]:List Zv) l9∧OS 3028 g w 41 ([x2]:List Zv) l9∧Ug l9) 8 rfl hall).1
   have o116:=(Qw (A:=fun g w=>RV g.m w ([x2]:List Zv) l9∧OS 3028 g w 41 ([x2]:List Zv) l9∧Ug l9) 8 rfl hall).2.1;have gL:=(Qw (A:=fun g w=>RV g.m w y98 bG) 9 rfl hall);have cG:=(Qw (A:=fun g w=>ItV Try.prog (RA2 (α:=Int) (β:=Int)) yB yH g.m w) 10 rfl hall);clear hs hall;refine Zb (Zd (Zr ?_));have hB0:=hfr.size;have hmk0:=hmk;obtain ⟨⟨n9,⟨aB,lB,mB⟩⟩,hφ,h⟩:=Gd h;refine Je (σ:=(Nat × Int × Int × Int)) (s0:=(0,(bD,cD,lD))) 10 rfl (fun s=>s.1) [.ret] (fun (s:Nat × Int × Int × Int) (g:Gh) (w:World)=>Fr gI wI g w∧MkF g w rE∧OB 2006 g w 3 (s.2.1:Int) p4∧OB 2007 g w 3 (s.2.2.1:Int) p5∧OB 2008 g w 35 (s.2.2.2:Int) p6∧ItV Try.prog (RA2 (α:=Int) (β:=Int)) yB yH g.m w) rfl cG hφ (fun _ _ _ h=>(Df h).1) rfl ra2_size rfl (fun _ _ _ _ _ hx hR=>by obtain ⟨hfr,hmk,z2,z3,z4,z5⟩:=hR; exact ⟨hfr.ist hx hB0,hmk.ist hx,z2.ist hx,z3.ist hx,z4.ist hx,z5.ist hx⟩) (fun _ _ _ _ _ hx hR=>by obtain ⟨hfr,hmk,z2,z3,z4,z5⟩:=hR; exact ⟨hfr.stp hx,hmk.stp hx,z2.stp hx rfl,z3.stp hx rfl,z4.stp hx rfl,z5.stp hx⟩) ⟨hfr,hmk,oD,zD,bE,cG⟩ (fun _ h=>by cases h) ?_ ?_
   ·intro uK qK s x b s2 eG kJ vs hsz h hR hrec_0 zE hrd
    obtain ⟨hs0,h⟩:=Df h;obtain ⟨st,⟨tF,uF,vF⟩⟩:=s;obtain ⟨hfr,hmk,cC,l8,t5,o0⟩:=hR;obtain ⟨i6,g8⟩:=x;obtain ⟨gG,iG,rfl,cF,dF⟩:=ra2_get hrd;obtain rfl:gG=.int .i64 (i6):=Zj.1 cF;obtain rfl:iG=.int .i64 (g8):=Zj.1 dF;have l5:=RFr.refl eG kJ;refine Zf (Za (Zg (.int .i64 (i6)) rfl rfl ?_));refine Zb (Zd (Za (Zg (.int .i64 (g8)) rfl rfl ?_)));refine Zb (Zd ?_);obtain ⟨lJ,hbr,hs,hrN⟩:=Jc hrec_0 zE;refine ⟨lJ,hbr,?_⟩;have hfr:=hfr.stp hs;have hmk:=hmk.stp hs;have l5:=l5.stp hs;have cC:=cC.stp hs rfl;have l8:=l8.stp hs rfl;have t5:=t5.stp hs rfl;have o0:=o0.stp hs;have hrec_0:=hrN;clear hbr hs hrN;refine Zr ?_;refine Zf (Za (Zn (.int .i64 (i6)) rfl rfl ?_));refine Zn (.int .i64 (g8)) rfl rfl ?_;refine Ze .plain rfl (Gr (g:=eG) (v:=.int .i64 (i6)) Try.sizeOf3 nD cC rfl (Zj.2 rfl) fun mJ iL hs b126 cb=>?_);clear cb;have hfr:=hfr.stp hs;have hmk:=hmk.stp hs;have l5:=l5.stp hs;have hrec_0:=hrec_0.stp hs rfl;have l8:=l8.stp hs rfl;have t5:=t5.stp hs rfl;have o0:=o0.stp hs;refine Ze .plain rfl (Gr (g:=mJ) (v:=.int .i64 (g8)) Try.sizeOf3 yD l8 rfl (Zj.2 rfl) fun nJ jL hs b127 cb=>?_);clear cb;have hfr:=hfr.stp hs;have hmk:=hmk.stp hs;have l5:=l5.stp hs;have hrec_0:=hrec_0.stp hs rfl;have b126:=b126.stp hs rfl;have t5:=t5.stp hs rfl;have o0:=o0.stp hs;refine Ze .plain rfl (Gr (g:=nJ) (v:=.int .i64 (0)) Try.sizeOf35 aE t5 rfl (Zj.2 rfl) fun lL mL hs b128 cb=>?_);clear cb;have hfr:=hfr.stp hs;have hmk:=hmk.stp hs;have l5:=l5.stp hs;have hrec_0:=hrec_0.stp hs rfl;have b126:=b126.stp hs rfl;have b127:=b127.stp hs rfl;have o0:=o0.stp hs;refine Zb (Zd (Gq (Qh ?_)));obtain ⟨rfl,rfl⟩:=Ww h;exact ⟨_,l5,⟨hfr,hmk,b126,b127,b128,o0⟩,hrec_0,rfl,0,rfl,rfl⟩
   ·intro oJ nL ds130 hsz hR hds
    obtain ⟨hfr,hmk,nB,oB,vB,sJ⟩:=hR;obtain ⟨D,hdse,hD,hDb⟩:=hds.1 rfl;subst hdse;replace hmk:=MkF.push hmk0 hmk hD hDb;clear hD hDb hds;revert hmk;generalize ({ target:=.collected D,args:=#[] } :: rE:List Deferred)=sK;intro hmk;refine ⟨fun hs=>?_,fun k c hs hc=>?_⟩
    ·have hs : n9 = 0 := hs
     subst hs;replace h:=cond_t h rfl;exact To (Zd (jI (aB,lB,mB) _ _ _ ⟨oJ,hfr,hmk,nD,nB,yD,oB,aE,vB⟩ h))
    ·have hs : n9 = k + 1 := hs
     match k,hs,hc with
     | 0,hs,hc=>
      subst hs;obtain rfl:=sinj hc;replace h:=cond_f h rfl;refine Gq (Qh ?_);refine Tc ?_;refine Bg (.inr rfl) hmk fun oL xL hs=>?_;have hfr:=hfr.stp hs;have nB:=nB.stp hs rfl;have oB:=oB.stp hs rfl;have vB:=vB.stp hs rfl;obtain rfl:=sinj h;obtain ⟨ad132,cv132,hp132,yG,cr132⟩:=Qs Try.isAgg3 Try.sizeOf3 nB;obtain rfl:=Zj.1 cr132;obtain ⟨ad133,cv133,hp133,zG,cr133⟩:=Qs Try.isAgg3 Try.sizeOf3 oB;obtain rfl:=Zj.1 cr133;obtain ⟨ad134,cv134,hp134,aH,cr134⟩:=Qs Try.isAgg35 Try.sizeOf35 vB;obtain rfl:=Zj.1 cr134;exact On rfl rfl ((show _=p4 from nD).trans hp132) yG ((show _=p5 from yD).trans hp133) zG ((show _=p6 from aE).trans hp134) aH ⟨_,hfr,_,_,_,rfl,rfl,rfl,rfl⟩
     | n + 1,_,hc=>exact absurd hc (by simp)
  ·rintro ⟨eF, rF, sF⟩ vK tK yL ⟨pJ, hfr, hmk, iE, jG, lE, uC, mE, n8⟩ h
   refine Zf (Za (Ze .plain rfl (Gr (g:=pJ) (v:=.int .i64 (0)) Try.sizeOf3 iE jG rfl (Zj.2 rfl) fun qJ zL hs b136 cb=>?_)));clear cb;have hfr:=hfr.stp hs;have hmk:=hmk.stp hs;have uC:=uC.stp hs rfl;have n8:=n8.stp hs rfl;refine Ze .plain rfl (Gr (g:=qJ) (v:=.int .i64 (0)) Try.sizeOf3 lE uC rfl (Zj.2 rfl) fun rJ aM hs b137 cb=>?_);clear cb;have hfr:=hfr.stp hs;have hmk:=hmk.stp hs;have b136:=b136.stp hs rfl;have n8:=n8.stp hs rfl;refine Ze .plain rfl (Gr (g:=rJ) (v:=.int .i64 (7)) Try.sizeOf35 mE n8 rfl (Zj.2 rfl) fun bM cM hs b138 cb=>?_);clear cb;have hfr:=hfr.stp hs;have hmk:=hmk.stp hs;have b136:=b136.stp hs rfl;have b137:=b137.stp hs rfl;refine Zb (Zd (Gq (Bg (.inr rfl) hmk fun dM eM hs=>?_)));have hfr:=hfr.stp hs;have b136:=b136.stp hs rfl;have b137:=b137.stp hs rfl;have b138:=b138.stp hs rfl;obtain rfl:=sinj h;obtain ⟨ad140,cv140,hp140,cH,cr140⟩:=Qs Try.isAgg3 Try.sizeOf3 b136;obtain rfl:=Zj.1 cr140;obtain ⟨ad141,cv141,hp141,gH,cr141⟩:=Qs Try.isAgg3 Try.sizeOf3 b137;obtain rfl:=Zj.1 cr141;obtain ⟨ad142,cv142,hp142,jH,cr142⟩:=Qs Try.isAgg35 Try.sizeOf35 b138;obtain rfl:=Zj.1 cr142;exact On rfl rfl ((show _=p4 from iE).trans hp140) cH ((show _=p5 from lE).trans hp141) gH ((show _=p6 from mE).trans hp142) jH ⟨_,hfr,_,_,_,rfl,rfl,rfl,rfl⟩
def f56 (x0:Gi) (σ:Type) (cons:Vh σ (Zv × (List Str))) (s0:σ):Option σ:=
 (f19 x0 ([])).bind fun y5=>
 ((fun σ cons s=>f82 x0 σ cons s) (Nat × σ) (Rx fun n9 l8=>
  (f19 x0 (([l8]:List Zv))).bind fun y44=>
  Option.bind (α:=σ × Bool) (
   (f83 y44 y5).bind fun y55=>
   bif (!y55) then
    (cons n9 (l8,y44)).bind fun (yb59,ys59)=>
    some (ys59,(!yb59))
   else
    some (n9,false)
   ) fun (cs_61,s26_61)=>
  bif s26_61 then
   some (false,((1:Nat),(cs_61)))
  else
   some (true,((0:Nat),(cs_61)))
  ) (0,(s0))).bind fun (n8,aB)=>
 bif Nat.beq n8 0 then
  some aB
 else
  some aB
theorem en56:Enters Try.prog 56:=enters_of Try.func56 (by kernel_rfl) rfl
theorem wk56 {σ:Type} {cons:Vh σ (Zv × (List Str))} {s0 r:σ} {gI:Gh} {wI:World} {x0:Gi} {up0:Value} (rp0:RV gI.m wI x0 up0) (h:f56 x0 σ cons s0=some r):Fq Try.prog (RA2 (α:=Zv) (β:=(List Str))) 56 #[up0] #[] gI wI cons s0 r:=by
 unfold f56 at h;refine Om Try.func56 rfl (Nat.le_of_ble_eq_true rfl) fun l B J g0 hm hAb hRo hfr=>?_;have hmk:MkF g0 wI []:=MkF.start;have rp0:RV g0.m wI x0 up0:=hm ▸ rp0;show E _ 27 none _ _ (Jw #[up0,.func (.yield l) #[] #[]]) _ _;refine Zf (Za (Ze .plain rfl (Tx (g:=g0) rfl rp0 fun g1 w1 p1 hs q1=>?_)));have hfr:=hfr.ext_ hAb hs;have hmk:=hmk.ext hs;refine Ze .plain rfl (Tx (g:=g1) (a:=(⟨(.func (.yield l) #[] #[]),rfl⟩:Fv)) rfl (Ve.2 rfl) fun g2 w2 p2 hs q2=>?_);have hfr:=hfr.ext_ hAb hs;have hmk:=hmk.ext hs;have q1:=q1.ext hs;refine Zb (Zd (Zf (Za (Ze .plain rfl (Gj (g:=g2) Try.isAgg64 Try.sizeOf64 rfl q1 fun v3 r3=>?_)))));obtain ⟨y5,hy5,h⟩:=Gd h;refine Ze .plain rfl (Zp (g:=g2) (vs:=[v3,.slice none 0 0]) en19 (.cons rfl (.cons rfl .nil)) (wk19 r3 Kg hy5) fun g4 w4_ v4 hs hr=>?_);have hfr:=hfr.ext_ hAb hs;have hmk:=hmk.ext hs;have q1:=q1.ext hs;have q2:=q2.ext hs;have r4:=hr;refine Ze .plain rfl (Tj (g:=g4) 2004 ([]:List Str) Try.zeroValue34 (fun m w=>⟨_,Wk,rfl⟩) fun g6 w6 p6 hs b6 cb=>?_);have hfr:=hfr.stp_ hAb hs rfl;have hmk:=hmk.stp hs;have q1:=q1.stp hs;have q2:=q2.stp hs;have r4:=r4.stp hs;have gG:OSF 2004 60400 0 g6 w6 9 34 ([]:List Str) p6:=cb.osf (by rfl);clear cb;refine Ze .plain rfl (Gr (g:=g6) (v:=v4) Try.sizeOf34 rfl b6 rfl r4 fun g7 w7 hs b7 cb=>?_);clear cb;have hfr:=hfr.stp_ hAb hs rfl;have hmk:=hmk.stp hs;have q1:=q1.stp hs;have q2:=q2.stp hs;refine Zb (Zd (Zf (Za (Ze .plain rfl (Gj (g:=g7) Try.isAgg64 Try.sizeOf64 rfl q1 fun v8 r8=>?_)))));refine Zz ((.func (.func 82) #[v8] #[])) (Wh (Bv (show ev _ _=v8 from rfl))) rfl ?_;refine Zb (Zd (Zr ?_));have hB0:=hfr.hB;have hmk0:=hmk;obtain ⟨⟨n8,aB⟩,hφ,h⟩:=Gd h;refine Je (σ:=(Nat × σ)) (s0:=(0,(s0))) 10 rfl (fun s=>s.1) [.ret] (fun (s:Nat × σ) (g:Gh) (w:World)=>FrY gI wI B J (s.2) g w∧MkF g w []∧PT g.m w (x0:Gi) p1∧PT g.m w (⟨(.func (.yield l) #[] #[]),rfl⟩:Fv) p2∧OB 2004 g w 34 (y5:List Str) p6) rfl (show ItV Try.prog (RA1 (α:=Zv)) (fun σ cons s=>f82 x0 σ cons s) ((.func (.func 82) #[v8] #[])) g7.m w7 from ⟨82,#[v8],#[],rfl,en82,fun g' w' hch σ cons s s' h=>wk82 (r8.ch hch)  h⟩) hφ (fun _ _ _ h=>(Df h).1) rfl Sr rfl (fun _ _ _ _ _ hx hR=>by obtain ⟨hfr,hmk,z2,z3,z4⟩:=hR; exact ⟨hfr.ist_ hAb hx hB0,hmk.ist hx,z2.ist hx,z3.ist hx,z4.ist hx⟩) (fun _ _ _ _ _ hx hR=>by obtain ⟨hfr,hmk,z2,z3,z4⟩:=hR; exact ⟨hfr.stp_ hAb hx rfl,hmk.stp hx,z2.stp hx,z3.stp hx,z4.stp hx rfl⟩) ⟨hfr,hmk,q1,q2,b7⟩ (fun _ h=>by cases h) ?_ ?_
 ·intro bE lD s x b s2 uC oD vs hsz h hR hrec_0 vC hrd
  obtain ⟨hs0,h⟩:=Df h;obtain ⟨st,n9⟩:=s;obtain ⟨hfr,hmk,l5,t5,i6⟩:=hR;obtain ⟨l8,hxe⟩:∃ y,y=x:=⟨x,rfl⟩;subst hxe;obtain ⟨nD,rfl,l9⟩:=Fh hrd;have o0:=RFr.refl uC oD;refine Za (Ze .plain rfl (Tj (g:=uC) 2005 (⟨0,0,0,0,false⟩:Zv) Try.zeroValue41 (fun m w=>⟨_,(Gw Zx (Gw Zx (Gw Zx (Gw Zx Wu)))),rfl⟩) fun oE lG mG hs b37 cb=>?_));have hfr:=hfr.stp_ hAb hs rfl;have hmk:=hmk.stp hs;have o0:=o0.stp hs;have hrec_0:=hrec_0.stp hs rfl;have l5:=l5.stp hs;have t5:=t5.stp hs;have i6:=i6.stp hs rfl;have l9:=l9.stp hs;clear cb;refine Ze .plain rfl (Gr (g:=oE) (v:=nD) Try.sizeOf41 rfl b37 rfl l9 fun bD sG hs b38 cb=>?_);clear cb;have hfr:=hfr.stp_ hAb hs rfl;have hmk:=hmk.stp hs;have o0:=o0.stp hs;have hrec_0:=hrec_0.stp hs rfl;have l5:=l5.stp hs;have t5:=t5.stp hs;have i6:=i6.stp hs rfl;refine Zb (Zd ?_);obtain ⟨rE,hbr,hs,hrN⟩:=Jc hrec_0 vC;refine ⟨rE,hbr,?_⟩;have hfr:=hfr.stp_ hAb hs rfl;have hmk:=hmk.stp hs;have o0:=o0.stp hs;have l5:=l5.stp hs;have t5:=t5.stp hs;have i6:=i6.stp hs rfl;have b38:=b38.stp hs rfl;have hrec_0:=hrN;clear hbr hs hrN;refine Zr ?_;refine Zf (Za (Ze .plain rfl (Gj (g:=bD) Try.isAgg64 Try.sizeOf64 rfl l5 fun uE cD=>?_)));refine Ze .plain rfl (Wg (g:=bD) Try.isAgg41 Try.sizeOf41 rfl b38 fun vE xE=>?_);refine Ze .plain rfl (Gl (g:=bD) 3014 (xs:=([l8]:List Zv)) (vs:=[vE]) Try.underlying42 Try.sizeOf41 Try.zeroValue41 rfl rfl (.cons rfl .nil) (RVs.cons xE RVs.nil) rfl rfl fun yE xG zE hs o42 cF hxt hfl=>?_);have hfr:=hfr.stp_ hAb hs rfl;have hmk:=hmk.stp hs;have o0:=o0.stp hs;have hrec_0:=hrec_0.stp hs rfl;have l5:=l5.stp hs;have t5:=t5.stp hs;have i6:=i6.stp hs rfl;have b38:=b38.stp hs rfl;have cD:=cD.stp hs;obtain ⟨y44,iE,h⟩:=Gd h;refine Ze .plain rfl (Zp (g:=yE) (vs:=[uE,zE]) en19 (.cons rfl (.cons rfl .nil)) (wk19 cD cF iE) fun yD iG nB hs hr=>?_);have hfr:=hfr.ext_ hAb hs;have hmk:=hmk.ext hs;have o0:=o0.ext hs;have hrec_0:=hrec_0.ext hs;have l5:=l5.ext hs;have t5:=t5.ext hs;have i6:=i6.ext hs;have b38:=b38.ext hs;have oB:=hr;refine Zg nB rfl rfl ?_;refine Zb (Zd ?_);obtain ⟨⟨cs_61,s26_61⟩,hx,h⟩:=Gd h;refine Gx (fun e w=>∃ (g:Gh) ,FrY gI wI B J (cs_61) g w∧MkF g w []∧RFr uC oD g w∧HB 10 g w bE (.loop { lD with state:=.busy })∧e 2=p1∧PT g.m w (x0:Gi) p1∧e 3=p2∧PT g.m w (⟨(.func (.yield l) #[] #[]),rfl⟩:Fv) p2∧e 4=p6∧OB 2004 g w 34 (y5:List Str) p6∧e 10=(.func (.func 82) #[v8] #[])∧e 26=.bool (s26_61)) (fun Q' hQ=>?_) (fun jG yG hR=>?_)
  ·replace h := hx
   clear hx;refine Za (Zn nB rfl rfl ?_);refine Ze .plain rfl (Wg (g:=yD) Try.isAgg34 Try.sizeOf34 rfl i6 fun dF eF=>?_);obtain ⟨y55,lE,h⟩:=Gd h;refine Ze .plain rfl (Zp (g:=yD) (vs:=[nB,dF]) en83 (.cons rfl (.cons rfl .nil)) (wk83 oB eF lE) fun vB kG zG hs hr=>?_);have hfr:=hfr.ext_ hAb hs;have hmk:=hmk.ext hs;have o0:=o0.ext hs;have hrec_0:=hrec_0.ext hs;have l5:=l5.ext hs;have t5:=t5.ext hs;have i6:=i6.ext hs;have b38:=b38.ext hs;have oB:=oB.ext hs;subst hr;refine Zz (.bool (!y55)) (Kh rfl) rfl ?_;refine Zn (.bool (!y55)) rfl rfl ?_;rcases Zt h with ⟨g8,h⟩ | ⟨g8,h⟩
   ·refine Ze (.yes2 rfl rfl g8) rfl (Gj (α := Fv) (g := vB) Try.isAgg164 Try.sizeOf164 rfl t5 fun zD aE => ?_)
    have e57:zD=(.func (.yield l) #[] #[]):=Ve.1 aE;clear aE;subst zD;refine Ze (.yes2 rfl rfl g8) rfl (Wg (g:=vB) Try.isAgg41 Try.sizeOf41 rfl b38 fun aH rF=>?_);refine Ga nB (Zk rfl) rfl rfl g8 rfl ?_;obtain ⟨sF,mE,h⟩:=Gd h;obtain ⟨yb59,ys59⟩:=sF;refine Ze (.yes2 rfl rfl g8) rfl (Du (g:=vB) (x:=(l8,y44)) rfl (.cons rfl (.cons rfl .nil)) hRo hfr mE ⟨_,_,rfl,rF,oB⟩ fun tF cH hs hfrY=>?_);have hmk:=hmk.stp hs;have o0:=o0.stp hs;have hrec_0:=hrec_0.stp hs rfl;have l5:=l5.stp hs;have t5:=t5.stp hs;have i6:=i6.stp hs rfl;have hfr:=hfrY;clear hfrY;refine Ga (.bool (!yb59)) (Kh rfl) rfl rfl g8 rfl ?_;refine Zz (.bool (!yb59)) (Zl (b:=(!y55)) rfl (Qn g8 rfl)) rfl ?_;refine Zb ?_;obtain ⟨rfl,rfl⟩:=Ww h;exact hQ _ _ ⟨tF,hfr,hmk,o0,hrec_0,rfl,l5,rfl,t5,rfl,i6,rfl,rfl⟩
   ·refine Gb rfl rfl g8 rfl rfl ?_
    iterate 4 refine Gb rfl rfl g8 rfl rfl ?_
    refine Zz (.bool false) (Zl (b:=(!y55)) rfl (Tw g8 rfl)) rfl ?_;refine Zb ?_;obtain ⟨rfl,rfl⟩:=Ww h;exact hQ _ _ ⟨vB,hfr,hmk,o0,hrec_0,rfl,l5,rfl,t5,rfl,i6,rfl,rfl⟩
  ·clear hx
   obtain ⟨gH,hfr,hmk,o0,hrec_0,vF,yB,xF,zB,yF,cC,uF,lB⟩:=hR;rcases Zt h with ⟨mB,h⟩ | ⟨mB,h⟩
   ·refine Tt (Eq.trans (show ev _ _ = .bool (s26_61) from lB) (congrArg Value.bool mB)) ?_
    refine Gq (Qh ?_);obtain ⟨rfl,rfl⟩:=Ww h;exact ⟨_,o0,⟨hfr,hmk,yB,zB,cC⟩,hrec_0,rfl,0,rfl,rfl⟩
   ·refine Td (Eq.trans (show ev _ _ = .bool (s26_61) from lB) (congrArg Value.bool mB)) ?_
    refine Zu (To ?_);obtain ⟨rfl,rfl⟩:=Ww h;exact ⟨_,o0,⟨hfr,hmk,yB,zB,cC⟩,hrec_0,rfl,rfl⟩
 ·intro jH kH ds65 hsz hR hds
  obtain ⟨hfr,hmk,aG,bG,cG⟩:=hR;obtain ⟨D,hdse,hD,hDb⟩:=hds.1 rfl;subst hdse;replace hmk:=MkF.push hmk0 hmk hD hDb;clear hD hDb hds;revert hmk;generalize ({ target:=.collected D,args:=#[] } :: []:List Deferred)=eG;intro hmk;refine ⟨fun hs=>?_,fun k c hs hc=>?_⟩
  ·have hs : n8 = 0 := hs
   subst hs;replace h:=cond_t h rfl;refine To (Bg (.inl rfl) hmk fun lH mH hs=>?_);have hfr:=hfr.stp_ hAb hs rfl;obtain rfl:=sinj h;exact Vg rfl rfl (FrY.done hfr)
  ·have hs : n8 = k + 1 := hs
   match k,hs,hc with
   | 0,hs,hc=>
    subst hs;obtain rfl:=sinj hc;replace h:=cond_f h rfl;refine Gq (Qh ?_);refine Bg (.inr rfl) hmk fun nH oH hs=>?_;have hfr:=hfr.stp_ hAb hs rfl;obtain rfl:=sinj h;exact end0 rfl rfl (FrY.done hfr)
   | n + 1,_,hc=>exact absurd hc (by simp)
def f5 (x0:FaultLoom) (x1:List Zv) (x2:Int):Option ((List Str) × Int):=
 jn (σ:=(List Str)) (fun cC=>
  (f19 ((⟨x0⟩:Gi)) x1).bind fun n9=>
  Option.bind (α:=(List Str)) (
   lp (σ:=(List Str) × Int) (fun sF (lB,o0)=>
    bif (decide (o0 < x2)) then
     Option.bind (α:=(List Str)) (
      (Hy o0 ((n9).length:Int)).bind fun y44=>
      (idx n9 y44).bind fun uC=>
      (apnd 16 lB (([uC]:List Str))).bind fun tF=>
      some (tF)
      ) fun t5=>
     sF (t5,(w64 (o0 + (1:Int))))
    else
     some (lB)
    ) big (cC,(0:Int))
   ) fun i6=>
  some (i6,(0:Int))
  ) fun k6=>
 (f18 x0 x1 x2).bind fun y9=>
 bif (y9 != (0 : Int)) then
  some ([],y9)
 else
  k6 ([])
theorem en5:Enters Try.prog 5:=enters_of Try.func5 (by kernel_rfl) rfl
theorem wk5 {gI:Gh} {wI:World} {x0:FaultLoom} {x1:List Zv} {x2:Int} {up0:Value} (rp0:RV gI.m wI x0 up0) {up1:Value} (rp1:RV gI.m wI x1 up1) {r:(List Str) × Int} (h:f5 x0 x1 x2=some r):Fn Try.prog 5 #[up0,up1,.int .i64 (x2)] gI wI (fun m w v=>∃ y0 y1,v=.tuple #[y0,y1]∧RV m w (r.1) y0∧y1=.int .i64 (r.2)):=by
 unfold f5 at h;refine Gz Try.func5 rfl (Nat.le_of_ble_eq_true rfl) fun g0 hm hfr=>?_;have rp0:RV g0.m wI x0 up0:=hm ▸ rp0;have rp1:RV g0.m wI x1 up1:=hm ▸ rp1;show E _ 38 none _ _ _ _ _;refine Zf (Za (Ze .plain rfl (Tx (g:=g0) rfl rp0 fun g1 w1 p1 hs q1=>?_)));have hfr:=hfr.ext hs;have rp1:=rp1.ext hs;refine Zg (.slice none 0 0) rfl rfl ?_;refine Zg (.int .i64 (0)) rfl rfl ?_;refine Zb (Zd (Zq h (fun (s:(List Str)) e w=>∃ (g:Gh) (v6:Value),Fr gI wI g w∧e 1=up1∧RV g.m w (x1:List Zv) up1∧e 2=.int .i64 (x2)∧e 3=p1∧PT g.m w (x0:FaultLoom) p1∧e 6=v6∧RV g.m w (s:List Str) v6∧OS 1006 g w 9 (s:List Str) v6) (fun X6 k6 hk6 h=>?_) ?_))
 ·refine Zf (Za (Ze .plain rfl (Gj (g := g1) Try.isAgg32 Try.sizeOf32 rfl q1 fun v7 r7 => ?_)))
  refine Zn up1 rfl rfl ?_;refine Zn (.int .i64 (x2)) rfl rfl ?_;obtain ⟨y9,iG,h⟩:=Gd h;refine Ze .plain rfl (Zp (g:=g1) (vs:=[v7,up1,.int .i64 (x2)]) en18 (.cons rfl (.cons rfl (.cons rfl .nil))) (wk18 r7 rp1 iG) fun g8 w8_ v8 hs hr=>?_);have hfr:=hfr.ext hs;have rp1:=rp1.ext hs;have q1:=q1.ext hs;subst hr;refine Zg (.int .i64 (y9)) rfl rfl ?_;refine Zb (Zd (Zf (Za (Zn (.int .i64 (y9)) rfl rfl ?_))));refine Gp (.bool ((y9 != (0:Int)))) rfl rfl rfl rfl ?_;refine Zb (Zd ?_);rcases Zt h with ⟨yB,h⟩ | ⟨yB,h⟩
  ·refine Tv yB rfl ?_
   refine Zf (Za (Zn (.int .i64 (y9)) rfl rfl ?_));refine Zg (.slice none 0 0) rfl rfl ?_;refine Zg (.int .i64 (y9)) rfl rfl ?_;refine Zb (Zd (Gq (Tc ?_)));obtain rfl:=sinj h;exact Ah rfl rfl (show _=.slice none 0 0 from rfl) (show _=.int .i64 (y9) from rfl) ⟨_,hfr,_,_,rfl,Kg,rfl⟩
  ·refine Tu yB rfl ?_
   exact Zu (Zd (hk6 ([]) _ _ ⟨g8,(.slice none 0 0),hfr,rfl,rp1,rfl,rfl,q1,rfl,Kg,OS.nil⟩ h))
 ·rintro cC gH nH ⟨cD, aE, hfr, bE, iE, lE, mE, oE, rE, mB, nB⟩ h
  refine Zf (Za (Ze .plain rfl (Gj (g:=cD) Try.isAgg32 Try.sizeOf32 mE oE fun lD uF=>?_)));have vF:RV cD.m _ (⟨x0⟩:Gi) (.agg (Gy [[.int .i64 0,.slice none 0 0,.int .i64 0,.slice none 0 0]] [(0,lD)]).flatten.toArray):=Th rfl (Tl (RV.cells uF));generalize aG:(Value.agg (Gy [[.int .i64 0,.slice none 0 0,.int .i64 0,.slice none 0 0]] [(0,lD)]).flatten.toArray)=xF at vF;refine Zz xF (aG ▸ Qb (vs:=[(0,lD)]) [[.int .i64 0,.slice none 0 0,.int .i64 0,.slice none 0 0]] Pg rfl rfl (.cons rfl .nil) ⟨⟨_,rfl,Tb uF⟩,trivial⟩) rfl ?_;refine Zo bE rfl ?_;obtain ⟨n9,bG,h⟩:=Gd h;refine Ze .plain rfl (Zp (g:=cD) (vs:=[xF,up1]) en19 (.cons rfl (.cons rfl .nil)) (wk19 vF iE bG) fun jG jH aB hs hr=>?_);have hfr:=hfr.ext hs;have mB:=mB.ext hs;have nB:=nB.ext hs;have kG:=hr;refine Zg aB rfl rfl ?_;refine Zb (Zd ?_);obtain ⟨i6,hx,h⟩:=Gd h;refine Gx (fun e w=>∃ (g:Gh) (v6:Value),Fr gI wI g w∧e 6=v6∧RV g.m w (i6:List Str) v6∧OS 1006 g w 9 (i6:List Str) v6) (fun Q' hQ=>?_) (fun kH oH hR=>?_)
  ·replace h := hx
   clear hx;refine Zf (Za (Zo lE rfl ?_));refine Zn (.int .i64 (0)) rfl rfl ?_;refine Zb (Zd (Zr ?_));refine He h (fun (s:(List Str) × Int) e w=>∃ (g:Gh) (v6:Value),Fr gI wI g w∧e 6=v6∧RV g.m w (s.1:List Str) v6∧OS 1006 g w 9 (s.1:List Str) v6∧e 9=aB∧RV g.m w (n9:List Str) aB∧e 22=.int .i64 (x2)∧e 23=.int .i64 (s.2)) ⟨jG,(aE),hfr,rE,mB,nB,rfl,kG,rfl,rfl⟩ (fun X34 sF cG=>?_);rintro ⟨lB,o0⟩ lH pH ⟨nD,uE,hfr,vC,l8,n8,oB,l5,vB,l9⟩ h;refine Zf (Za (Gp (.bool ((decide (o0 < x2)))) l9 vB rfl rfl ?_));refine Zb (Zd (Zf ?_));rcases Zt h with ⟨zB,h⟩ | ⟨zB,h⟩
   ·refine Tv zB rfl ?_
    refine Zu (Zd ?_);obtain ⟨t5,hx,h⟩:=Gd h;refine Gx (fun e w=>∃ (g:Gh) (v6:Value),Fr gI wI g w∧e 6=v6∧RV g.m w (t5:List Str) v6∧OS 1006 g w 9 (t5:List Str) v6∧e 9=aB∧RV g.m w (n9:List Str) aB∧e 22=.int .i64 (x2)∧e 23=.int .i64 (o0)) (fun Q' hQ=>?_) (fun mH qH hR=>?_)
    ·replace h := hx
     clear hx;refine Zr ?_;refine Zf (Za (Zo l9 rfl ?_));refine Zg (.int .i64 (o0)) rfl rfl ?_;refine Zb (Zd (Za (Zo vC rfl ?_)));refine Zo oB rfl ?_;refine Zn (.int .i64 (o0)) rfl rfl ?_;refine Zo oB rfl ?_;refine Zz (.int .i64 ((n9).length:Int)) (Qv Try.underlying34 rfl l5) rfl ?_;obtain ⟨y44,eG,h⟩:=Gd h;refine Zz (.int .i64 (y44)) (Te rfl rfl (congrArg (Option.map (Value.int .i64)) eG)) rfl ?_;obtain ⟨uC,oD,h⟩:=Gd h;refine Zz (We aB y44 1) (Zh (α:=Str) Try.underlying34 Try.sizeOf9 rfl l5 rfl oD) rfl ?_;have lG:=Wp l5 oD;refine Ze .plain rfl (Gj (g:=nD) Try.isAgg9 Try.sizeOf9 rfl lG fun sH mG=>?_);obtain rfl:=Jb.1 mG;refine Ze .plain rfl (Gl (g:=nD) 3034 (xs:=([uC]:List Str)) (vs:=[Str.v (uC)]) Try.underlying34 Try.sizeOf9 Try.zeroValue9 rfl rfl (.cons rfl .nil) (RVs.cons (Jb.2 rfl) RVs.nil) rfl rfl fun sG tH uH hs o48 xG hxt hfl=>?_);have hfr:=hfr.stp hs;have l8:=l8.stp hs;have n8:=n8.stp hs rfl;have l5:=l5.stp hs;obtain ⟨tF,gG,h⟩:=Gd h;refine Ze .plain rfl (Wj (g:=sG) (i:=1006) Try.underlying34 info_9 rfl rfl n8 l8 rfl xG gG fun yG xH yF hs o49 zG _=>?_);have hfr:=hfr.stp hs;have l5:=l5.stp hs;refine Zg yF rfl rfl ?_;refine Zb (To ?_);obtain rfl:=sinj h;exact hQ _ _ ⟨yG,(yF),hfr,rfl,zG,o49,oB,l5,vB,l9⟩
    ·clear hx
     obtain ⟨aH,vE,hfr,xE,yE,zE,cF,dF,yD,zD⟩:=hR;refine Za (Gp (.int .i64 ((w64 (o0 + (1:Int))))) zD rfl rfl rfl ?_);refine Zn (.int .i64 ((w64 (o0 + (1:Int))))) rfl rfl ?_;exact Zb (Zd (cG (t5,(w64 (o0 + (1:Int)))) _ _ ⟨aH,(vE),hfr,xE,yE,zE,cF,dF,yD,rfl⟩ h))
   ·refine Tu zB rfl ?_
    refine Qj ?_;refine Ta ?_;refine Ta ?_;refine Tp ?_;obtain rfl:=sinj h;exact hQ _ _ ⟨nD,(uE),hfr,vC,l8,n8⟩
  ·clear hx
   obtain ⟨yH,bD,hfr,eF,rF,cH⟩:=hR;refine Zf (Za (Zo eF rfl ?_));refine Zg bD rfl rfl ?_;refine Zg (.int .i64 (0)) rfl rfl ?_;refine Zb (Zd (Gq ?_));obtain rfl:=sinj h;exact Ah rfl rfl (show _=bD from rfl) (show _=.int .i64 (0) from rfl) ⟨_,hfr,_,_,rfl,rF,rfl⟩
def f29 (x0:FaultLoom) (x1:List Zy):Option ((List Zv) × Bool × Int):=
 jn (σ:=(List Zv)) (fun nB=>
  Option.bind (α:=(List Zv)) (
   ((fun σ cons s=>f56 ((⟨x0⟩:Gi)) σ cons s) ((List Zv)) (fun oB (vB,iE)=>
    (f57 iE x1).bind fun gH=>
    bif gH then
     (apnd 40 oB (([vB]:List Zv))).bind fun nD=>
     some (true,(nD))
    else
     some (true,(oB))
    ) (nB)).bind fun bD=>
   some (bD)
   ) fun l8=>
  (f19 ((⟨x0⟩:Gi)) ([])).bind fun l9=>
  (f57 l9 x1).bind fun n9=>
  some (l8,n9,(0:Int))
  ) fun jH=>
 (f54 x0).bind fun n8=>
 bif (n8 != (0 : Int)) then
  some ([],false,n8)
 else
  bif (decide (((x1).length : Int) > (60 : Int))) then
   some ([],false,(5:Int))
  else
   (f55 x1 ((fun a0=>f53 a0 x0))).bind fun uE=>
   bif uE then
    some ([],false,(2:Int))
   else
    jH (([]:List Zv))
theorem en29:Enters Try.prog 29:=enters_of Try.func29 (by kernel_rfl) rfl
theorem wk29 {gI:Gh} {wI:World} {x0:FaultLoom} {x1:List Zy} {up0:Value} (rp0:RV gI.m wI x0 up0) {up1:Value} (rp1:RV gI.m wI x1 up1) {r:(List Zv) × Bool × Int} (h:f29 x0 x1=some r):Fn Try.prog 29 #[up0,up1] gI wI (fun m w v=>∃ y0 y1 y2,v=.tuple #[y0,y1,y2]∧RV m w (r.1) y0∧y1=.bool (r.2.1)∧y2=.int .i64 (r.2.2)):=by
 unfold f29 at h;refine Fs Try.func29 rfl (Nat.le_of_ble_eq_true rfl) fun g0 hm hfr=>?_;have hmk:MkF g0 wI []:=MkF.start;have rp0:RV g0.m wI x0 up0:=hm ▸ rp0;have rp1:RV g0.m wI x1 up1:=hm ▸ rp1;show E _ 44 none _ _ _ _ _;refine Zf (Za (Ze .plain rfl (Tx (g:=g0) rfl rp0 fun g1 w1 p1 hs q1=>?_)));have hfr:=hfr.ext hs;have hmk:=hmk.ext hs;have rp1:=rp1.ext hs;refine Ze .plain rfl (Tx (g:=g1) rfl rp1 fun g2 w2 p2 hs q2=>?_);have hfr:=hfr.ext hs;have hmk:=hmk.ext hs;have q1:=q1.ext hs;refine Ze .plain rfl (Tj (g:=g2) 2004 ([]:List Zv) Try.zeroValue42 (fun m w=>⟨_,Wk,rfl⟩) fun g3 w3 p3 hs b3 cb=>?_);have hfr:=hfr.stp hs;have hmk:=hmk.stp hs;have q1:=q1.stp hs;have q2:=q2.stp hs;have aB:OSF 2004 60400 0 g3 w3 41 42 ([]:List Zv) p3:=cb.osf (by rfl);clear cb;refine Zg (.bool false) rfl rfl ?_;refine Zg (.int .i64 (0)) rfl rfl ?_;refine Zb (Zd (Zf (Za (Zz ((.func (.func 53) #[] #[p1])) (Wh (Fz (show ev _ _=p1 from rfl))) rfl ?_))));refine Zg ((.func (.func 53) #[] #[p1])) rfl rfl ?_;refine Zb (Zd (Sn h (fun (s:(List Zv)) e ds w=>∃ (g:Gh) ,Fr gI wI g w∧MkF g w ds∧e 2=p1∧PT g.m w (x0:FaultLoom) p1∧e 3=p2∧PT g.m w (x1:List Zy) p2∧e 4=p3∧OB 2004 g w 42 (s:List Zv) p3∧OSF 2004 60400 0 g w 41 42 (s) p3) (fun X23 jH pH h=>?_) ?_))
 ·refine Zf (Za (Ze .plain rfl (Gj (g := g3) Try.isAgg32 Try.sizeOf32 rfl q1 fun kJ lJ => ?_)))
  obtain ⟨n8,qH,h⟩:=Gd h;refine Ze .plain rfl (Zp (g:=g3) (vs:=[kJ]) en54 (.cons rfl .nil) (wk54 lJ qH) fun cD vK yL hs hr=>?_);have hfr:=hfr.ext hs;have hmk:=hmk.ext hs;have q1:=q1.ext hs;have q2:=q2.ext hs;have aB:=aB.ext hs;have b3:=b3.ext hs;subst hr;refine Zg (.int .i64 (n8)) rfl rfl ?_;refine Zb (Zd (Zr ?_));refine Zf (Za (Zn (.int .i64 (n8)) rfl rfl ?_));refine Gp (.bool ((n8 != (0:Int)))) rfl rfl rfl rfl ?_;refine Zg (.bool ((n8 != (0:Int)))) rfl rfl ?_;refine Zb (Zd ?_);rcases Zt h with ⟨oD,h⟩ | ⟨oD,h⟩
  ·refine Tv oD rfl ?_
   refine Zf (Za (Zn (.int .i64 (n8)) rfl rfl ?_));refine Ze .plain rfl (Gr (g:=cD) (v:=.slice none 0 0) Try.sizeOf42 rfl b3 rfl Kg fun mJ nJ hs b28 cb=>?_);have pK:OSF 2004 60400 0 mJ nJ 41 42 ([]:List Zv) p3:=cb.osfr (rfl) OS.nil;clear cb;have hfr:=hfr.stp hs;have hmk:=hmk.stp hs;refine Zg (.bool false) rfl rfl ?_;refine Zg (.int .i64 (n8)) rfl rfl ?_;refine Zb (Zd (Gq (Qh ?_)));refine Tc ?_;refine Bg (.inr rfl) hmk fun zL w29 hs=>?_;have hfr:=hfr.stp hs;have b28:=b28.stp hs rfl;obtain rfl:=sinj h;obtain ⟨ad30,cv30,hp30,sH,cr30⟩:=Qs Try.isAgg42 Try.sizeOf42 b28;exact Jt rfl rfl ((show _=p3 from rfl).trans hp30) sH (show _=.bool false from rfl) (show _=.int .i64 (n8) from rfl) ⟨_,hfr,_,_,_,rfl,cr30,rfl,rfl⟩
  ·refine Tu oD rfl ?_
   refine Zf (Za (Ze .plain rfl (Gj (g:=cD) Try.isAgg94 Try.sizeOf94 rfl q2 fun aM oJ=>?_)));refine Zz (.int .i64 ((x1).length:Int)) (Qv Try.underlying94 rfl oJ) rfl ?_;refine Gp (.bool ((decide (((x1).length:Int) > (60:Int))))) rfl rfl rfl rfl ?_;refine Zg (.bool ((decide (((x1).length:Int) > (60:Int))))) rfl rfl ?_;refine Zb (Zd ?_);rcases Zt h with ⟨yD,h⟩ | ⟨yD,h⟩
   ·refine Tv yD rfl ?_
    refine Zf (Za (Ze .plain rfl (Gr (g:=cD) (v:=.slice none 0 0) Try.sizeOf42 rfl b3 rfl Kg fun pJ qJ hs b33 cb=>?_)));have qK:OSF 2004 60400 0 pJ qJ 41 42 ([]:List Zv) p3:=cb.osfr (rfl) OS.nil;clear cb;have hfr:=hfr.stp hs;have hmk:=hmk.stp hs;refine Zg (.bool false) rfl rfl ?_;refine Zg (.int .i64 (5)) rfl rfl ?_;refine Zb (Zd (Gq (Qh ?_)));refine Tc ?_;refine Bg (.inr rfl) hmk fun bM cM hs=>?_;have hfr:=hfr.stp hs;have b33:=b33.stp hs rfl;obtain rfl:=sinj h;obtain ⟨ad35,cv35,hp35,tH,cr35⟩:=Qs Try.isAgg42 Try.sizeOf42 b33;exact Jt rfl rfl ((show _=p3 from rfl).trans hp35) tH (show _=.bool false from rfl) (show _=.int .i64 (5) from rfl) ⟨_,hfr,_,_,_,rfl,cr35,rfl,rfl⟩
   ·refine Tu yD rfl ?_
    refine Zf (Za (Ze .plain rfl (Gj (g:=cD) Try.isAgg94 Try.sizeOf94 rfl q2 fun rJ sJ=>?_)));refine Zn ((.func (.func 53) #[] #[p1])) rfl rfl ?_;obtain ⟨uE,uH,h⟩:=Gd h;refine Ze .plain rfl (Zp (g:=cD) (vs:=[rJ,(.func (.func 53) #[] #[p1])]) en55 (.cons rfl (.cons rfl .nil)) (wk55 sJ ⟨53,#[],#[p1],rfl,en53,fun g' w' hch a0 b0 r hu0 hr=>by exact Fn.mono (wk53 hu0 (q1.ch hch) hr) fun _ _ _ h=>Wc.2 h⟩ uH) fun kH xK dM hs hr=>?_);have hfr:=hfr.ext hs;have hmk:=hmk.ext hs;have q1:=q1.ext hs;have q2:=q2.ext hs;have aB:=aB.ext hs;have b3:=b3.ext hs;subst hr;refine Zg (.bool (uE)) rfl rfl ?_;refine Zb (Zd ?_);rcases Zt h with ⟨zD,h⟩ | ⟨zD,h⟩
    ·refine Tv zD rfl ?_
     refine Zf (Za (Ze .plain rfl (Gr (g:=kH) (v:=.slice none 0 0) Try.sizeOf42 rfl b3 rfl Kg fun vJ xJ hs b40 cb=>?_)));have sK:OSF 2004 60400 0 vJ xJ 41 42 ([]:List Zv) p3:=cb.osfr (rfl) OS.nil;clear cb;have hfr:=hfr.stp hs;have hmk:=hmk.stp hs;refine Zg (.bool false) rfl rfl ?_;refine Zg (.int .i64 (2)) rfl rfl ?_;refine Zb (Zd (Gq (Qh ?_)));refine Tc ?_;refine Bg (.inr rfl) hmk fun eM iM hs=>?_;have hfr:=hfr.stp hs;have b40:=b40.stp hs rfl;obtain rfl:=sinj h;obtain ⟨ad42,cv42,hp42,xH,cr42⟩:=Qs Try.isAgg42 Try.sizeOf42 b40;exact Jt rfl rfl ((show _=p3 from rfl).trans hp42) xH (show _=.bool false from rfl) (show _=.int .i64 (2) from rfl) ⟨_,hfr,_,_,_,rfl,cr42,rfl,rfl⟩
    ·refine Tu zD rfl ?_
     exact Zu (To (Zd (pH (([]:List Zv)) _ _ _ ⟨kH,hfr,hmk,rfl,q1,rfl,q2,rfl,b3,aB⟩ h)))
 ·rintro nB yK lE zJ ⟨vE, hfr, hmk, mE, oE, rE, iG, yB, jG, u4_0_43⟩ h
  obtain ⟨l8,hx,h⟩:=Gd h;refine Rd (fun e ds w=>∃ (g:Gh) ,Fr gI wI g w∧MkF g w ds∧e 2=p1∧PT g.m w (x0:FaultLoom) p1∧e 3=p2∧PT g.m w (x1:List Zy) p2∧e 4=p3∧OB 2004 g w 42 (l8:List Zv) p3∧OSF 2004 60400 0 g w 41 42 (l8) p3) (fun Q' hQ=>?_) (fun tK aK zK hR=>?_)
  ·replace h := hx
   clear hx;refine Zf (Za (Ze .plain rfl (Gj (g:=vE) Try.isAgg32 Try.sizeOf32 mE oE fun xE lH=>?_)));have mH:RV vE.m _ (⟨x0⟩:Gi) (.agg (Gy [[.int .i64 0,.slice none 0 0,.int .i64 0,.slice none 0 0]] [(0,xE)]).flatten.toArray):=Th rfl (Tl (RV.cells lH));generalize yH:(Value.agg (Gy [[.int .i64 0,.slice none 0 0,.int .i64 0,.slice none 0 0]] [(0,xE)]).flatten.toArray)=lD at mH;refine Zz lD (yH ▸ Qb (vs:=[(0,xE)]) [[.int .i64 0,.slice none 0 0,.int .i64 0,.slice none 0 0]] Pg rfl rfl (.cons rfl .nil) ⟨⟨_,rfl,Tb lH⟩,trivial⟩) rfl ?_;refine Zz ((.func (.func 56) #[lD] #[])) (Wh (Bv (show ev _ _=lD from rfl))) rfl ?_;refine Zb (Zd (Zr ?_));have hB0:=hfr.size;have hmk0:=hmk;obtain ⟨bD,hφ,h⟩:=Gd h;refine Je (σ:=((List Zv))) (s0:=(nB)) 10 rfl (fun _=>0) [] (fun (s:(List Zv)) (g:Gh) (w:World)=>Fr gI wI g w∧MkF g w lE∧PT g.m w (x0:FaultLoom) p1∧PT g.m w (x1:List Zy) p2∧OB 2004 g w 42 (s:List Zv) p3∧OSF 2004 60400 0 g w 41 42 (s) p3) rfl (show ItV Try.prog (RA2 (α:=Zv) (β:=(List Str))) (fun σ cons s=>f56 ((⟨x0⟩:Gi)) σ cons s) ((.func (.func 56) #[lD] #[])) vE.m zJ from ⟨56,#[lD],#[],rfl,en56,fun g' w' hch σ cons s s' h=>wk56 (mH.ch hch)  h⟩) hφ (fun _ _ _ _=>rfl) rfl ra2_size rfl (fun _ _ _ _ _ hx hR=>by obtain ⟨hfr,hmk,z2,z3,z4,z5⟩:=hR; exact ⟨hfr.ist hx hB0,hmk.ist hx,z2.ist hx,z3.ist hx,z4.ist hx,z5.ist hx⟩) (fun _ _ _ _ _ hx hR=>by obtain ⟨hfr,hmk,z2,z3,z4,z5⟩:=hR; exact ⟨hfr.stp hx,hmk.stp hx,z2.stp hx,z3.stp hx,z4.stp hx rfl,z5.stp hx rfl⟩) ⟨hfr,hmk,oE,iG,jG,u4_0_43⟩ (fun _ h=>by cases h) ?_ ?_
   ·intro aL uK s x b s2 nH bK vs hsz h hR hrec_0 yE hrd
    obtain ⟨oB,hse⟩:∃ y,y=s:=⟨s,rfl⟩;subst hse;obtain ⟨hfr,hmk,l5,o0,i6,u4_0_93⟩:=hR;obtain ⟨vB,iE⟩:=x;obtain ⟨kG,zB,rfl,lB,g8⟩:=ra2_get hrd;have t5:=RFr.refl nH bK;refine Zf (Za (Ze .plain rfl (Tj (g:=nH) 2009 (⟨0,0,0,0,false⟩:Zv) Try.zeroValue41 (fun m w=>⟨_,(Gw Zx (Gw Zx (Gw Zx (Gw Zx Wu)))),rfl⟩) fun cK jM kM hs b94 cb=>?_)));have hfr:=hfr.stp hs;have hmk:=hmk.stp hs;have t5:=t5.stp hs;have hrec_0:=hrec_0.stp hs rfl;have l5:=l5.stp hs;have o0:=o0.stp hs;have u4_0_93:=u4_0_93.stp hs rfl;have i6:=i6.stp hs rfl;have lB:=lB.stp hs;have g8:=g8.stp hs;clear cb;refine Ze .plain rfl (Gr (g:=cK) (v:=kG) Try.sizeOf41 rfl b94 rfl lB fun oH pM hs b95 cb=>?_);clear cb;have hfr:=hfr.stp hs;have hmk:=hmk.stp hs;have t5:=t5.stp hs;have hrec_0:=hrec_0.stp hs rfl;have l5:=l5.stp hs;have o0:=o0.stp hs;have u4_0_93:=u4_0_93.stp hs rfl;have i6:=i6.stp hs rfl;have g8:=g8.stp hs;refine Zb (Zd (Za (Zg zB rfl rfl ?_)));refine Zb (Zd ?_);obtain ⟨dK,hbr,hs,hrN⟩:=Jc hrec_0 yE;refine ⟨dK,hbr,?_⟩;have hfr:=hfr.stp hs;have hmk:=hmk.stp hs;have t5:=t5.stp hs;have l5:=l5.stp hs;have o0:=o0.stp hs;have u4_0_93:=u4_0_93.stp hs rfl;have i6:=i6.stp hs rfl;have g8:=g8.stp hs;have b95:=b95.stp hs rfl;have hrec_0:=hrN;clear hbr hs hrN;refine Zr ?_;refine Zf (Za (Zn zB rfl rfl ?_));refine Ze .plain rfl (Gj (g:=oH) Try.isAgg94 Try.sizeOf94 rE o0 fun lK mK=>?_);obtain ⟨gH,zH,h⟩:=Gd h;refine Ze .plain rfl (Zp (g:=oH) (vs:=[zB,lK]) en57 (.cons rfl (.cons rfl .nil)) (wk57 g8 mK zH) fun zE bL qM hs hr=>?_);have hfr:=hfr.ext hs;have hmk:=hmk.ext hs;have t5:=t5.ext hs;have hrec_0:=hrec_0.ext hs;have l5:=l5.ext hs;have o0:=o0.ext hs;have u4_0_93:=u4_0_93.ext hs;have i6:=i6.ext hs;have b95:=b95.ext hs;subst hr;refine Zb (Zd ?_);rcases Zt h with ⟨cC,h⟩ | ⟨cC,h⟩
    ·refine Tv cC rfl ?_
     refine Za (Ze .plain rfl (Sc (g:=zE) Try.isAgg42 Try.sizeOf42 yB i6 u4_0_93 fun dL aE o101=>?_));refine Ze .plain rfl (Wg (g:=zE) Try.isAgg41 Try.sizeOf41 rfl b95 fun aI bI=>?_);refine Ze .plain rfl (Gl (g:=zE) 3036 (xs:=([vB]:List Zv)) (vs:=[aI]) Try.underlying42 Try.sizeOf41 Try.zeroValue41 rfl rfl (.cons rfl .nil) (RVs.cons bI RVs.nil) rfl rfl fun dI eL gL hs o103 iI hxt hfl=>?_);have hfr:=hfr.stp hs;have hmk:=hmk.stp hs;have t5:=t5.stp hs;have hrec_0:=hrec_0.stp hs rfl;have l5:=l5.stp hs;have o0:=o0.stp hs;have i6:=i6.stp hs rfl;have aE:=aE.stp hs;have o101:=o101.stp hs rfl;obtain ⟨nD,lG,h⟩:=Gd h;refine Ze .plain rfl (Wj (g:=dI) (i:=60400) Try.underlying42 Sw rfl rfl o101 aE rfl iI lG fun jI iL kI hs o104 cF _=>?_);have hfr:=hfr.stp hs;have hmk:=hmk.stp hs;have t5:=t5.stp hs;have hrec_0:=hrec_0.stp hs rfl;have l5:=l5.stp hs;have o0:=o0.stp hs;have i6:=i6.stp hs rfl;refine Ze .plain rfl (Gr (g:=jI) (v:=kI) Try.sizeOf42 yB i6 rfl cF fun lI mI hs b106 cb=>?_);have dF:OSF 2004 60400 0 lI mI 41 42 (nD:List Zv) p3:=cb.osfr (Jh cF) (o104.stp hs rfl);clear cb;have hfr:=hfr.stp hs;have hmk:=hmk.stp hs;have t5:=t5.stp hs;have hrec_0:=hrec_0.stp hs rfl;have l5:=l5.stp hs;have o0:=o0.stp hs;refine Zb (To ?_);obtain ⟨rfl,rfl⟩:=Ww h;exact ⟨_,t5,⟨hfr,hmk,l5,o0,b106,dF⟩,hrec_0,rfl,rfl⟩
    ·refine Tu cC rfl ?_
     refine Zu (To ?_);obtain ⟨rfl,rfl⟩:=Ww h;exact ⟨_,t5,⟨hfr,hmk,l5,o0,i6,u4_0_93⟩,hrec_0,rfl,rfl⟩
   ·intro nI jL ds108 hsz hR hds
    obtain ⟨hfr,hmk,eF,rF,sF,u4_0_108⟩:=hR;obtain ⟨D,hdse,hD,hDb⟩:=hds.1 rfl;subst hdse;replace hmk:=MkF.push hmk0 hmk hD hDb;clear hD hDb hds;revert hmk;generalize ({ target:=.collected D,args:=#[] } :: lE:List Deferred)=nK;intro hmk;refine ⟨fun _=>?_,fun k c hs _=>absurd hs (Nat.succ_ne_zero k).symm⟩;refine To ?_;obtain rfl:=sinj h;exact hQ _ _ _ ⟨nI,hfr,hmk,mE,eF,rE,rF,yB,sF,u4_0_108⟩
  ·clear hx
   obtain ⟨tF,hfr,hmk,uF,vF,xF,yF,mB,v8,u4_0_109⟩:=hR;refine Zf (L_loadOS (x:=.tmp 4) Try.isAgg42 Try.sizeOf42 v8 u4_0_109 fun aG uC o110 mG=>?_);refine Zs (x:=.tmp 2) Try.isAgg32 Try.sizeOf32 vF fun vC bG sG=>?_;have cG:RV tF.m _ (⟨x0⟩:Gi) (.agg (Gy [[.int .i64 0,.slice none 0 0,.int .i64 0,.slice none 0 0]] [(0,vC)]).flatten.toArray):=Th rfl (Tl (RV.cells bG));generalize xG:(Value.agg (Gy [[.int .i64 0,.slice none 0 0,.int .i64 0,.slice none 0 0]] [(0,vC)]).flatten.toArray)=eG at cG;obtain ⟨l9,yG,h⟩:=Gd h;refine Zs (x:=.tmp 3) Try.isAgg94 Try.sizeOf94 yF fun gG pI zG=>?_;obtain ⟨n9,aH,h⟩:=Gd h;refine Qu (g:=tF) (n:=6) [(3,(fun v g w=>RV g.m w l9 v)),(5,(fun v g w=>v=.bool (n9)))] [0,1,2,3,4,5] rfl Wt (by kernel_rfl) (⟨fun _=>Vb,fun _=>Rs _,trivial⟩) ?_;refine Qm (c:=aG) rfl rfl .plain (fun _ _ h=>⟨h.ch,fun b hb _=>h.below.block b hb⟩) mG mB ?_;refine Qm (c:=vC) rfl rfl .plain (fun _ _ h=>h.ch) sG uF ?_;refine Gc eG rfl rfl (xG ▸ Qb (vs:=[(0,vC)]) [[.int .i64 0,.slice none 0 0,.int .i64 0,.slice none 0 0]] Pg rfl rfl (.cons rfl .nil) ⟨⟨_,rfl,Tb bG⟩,trivial⟩) ?_;refine Uh (φ:=fun v g w=>RV g.m w l9 v) rfl rfl .plain (fun g w hd=>Zp (g:=g) (vs:=[eG,.slice none 0 0]) en19 (.cons rfl (.cons rfl .nil)) (wk19 (cG.ext hd.1) Kg yG) fun g' w' v hs hr=>⟨g',hs,hr⟩) (fun bE hv=>?_);obtain ⟨_,_,_,rq113⟩:=hv;refine Qm (c:=gG) rfl rfl .plain (fun _ _ h=>h.ch) zG xF ?_;refine Uh (φ:=fun v g w=>v=.bool (n9)) rfl rfl .plain (fun g w hd=>Zp (g:=g) (vs:=[bE,gG]) en57 (.cons rfl (.cons rfl .nil)) (wk57 (word (A:=fun g w=>RV g.m w l9 bE) 3 rfl rfl (Dg hd)) (pI.ext hd.1) aH) fun g' w' v hs hr=>⟨g',hs,hr⟩) (fun lL hv=>?_);obtain ⟨_,_,_,rfl⟩:=hv;refine Xr fun qI mL hall=>?_;have hs:=hall.1;have hfr:=hfr.ext hs;have hmk:=hmk.ext hs;have v8:=v8.ext hs;have uC:=uC.ext hs;have o110:=o110.ext hs;have nL:=(Qw (A:=fun g w=>RV g.m w l9 bE) 3 rfl hall);clear hs hall;refine Ze .plain rfl (Gr (g:=qI) (v:=aG) Try.sizeOf42 mB v8 rfl uC fun sI jJ hs b128 cb=>?_);have oK:OSF 2004 60400 0 sI jJ 41 42 (l8:List Zv) p3:=cb.osfr (Jh uC) (o110.stp hs rfl);clear cb;have hfr:=hfr.stp hs;have hmk:=hmk.stp hs;refine Zg (.bool (n9)) rfl rfl ?_;refine Zg (.int .i64 (0)) rfl rfl ?_;refine Zb (Zd (Gq (Bg (.inr rfl) hmk fun oL xL hs=>?_)));have hfr:=hfr.stp hs;have b128:=b128.stp hs rfl;obtain rfl:=sinj h;obtain ⟨ad130,cv130,hp130,cH,cr130⟩:=Qs Try.isAgg42 Try.sizeOf42 b128;exact Jt rfl rfl ((show _=p3 from mB).trans hp130) cH (show _=.bool (n9) from rfl) (show _=.int .i64 (0) from rfl) ⟨_,hfr,_,_,_,rfl,cr130,rfl,rfl⟩
end Go.Proofs.Ytplaipkjhlkjgaa
