import Derived.Test.YtbelgnbjkciafaaGreatDoorCode1
set_option maxRecDepth 8000
set_option maxHeartbeats 4000000
namespace Go.Proofs.YtbelgnbjkciafaaGreatDoor
open Go.RowKit
def f71 (x0:Int) (x1:Int):Option (Int):=
 (f99 x0).bind fun y2=>
 (f99 x1).bind fun y4=>
 jn (σ:=Unit) (fun _=>
  jn (σ:=Unit) (fun _=>
   jn (σ:=Unit) (fun _=>
    jn (σ:=Unit) (fun _=>
     some ((0:Int))
     ) fun mB=>
    bif (decide (x0 > x1)) then
     some ((1:Int))
    else
     mB ()
    ) fun nB=>
   bif (decide (x0 < x1)) then
    some ((-1:Int))
   else
    nB ()
   ) fun k18=>
  bif y4 then
   some ((1:Int))
  else
   k18 ()
  ) fun oB=>
 bif y2 then
  jn (σ:=Unit) (fun _=>
   some ((-1:Int))
   ) fun vB=>
  bif y4 then
   some ((0:Int))
  else
   vB ()
 else
  oB ()
theorem en71:Enters Tryz.prog 71:=enters_of Tryz.func71 (by kernel_rfl) rfl
theorem wk71 {gI:Gh} {wI:World} {x0:Int} {x1:Int}  {r:Int} (h:f71 x0 x1=some r):Fn Tryz.prog 71 #[.int .i64 (x0),.int .i64 (x1)] gI wI (fun _ _ v=>v=.int .i64 (r)):=by
 unfold f71 at h
 refine fn_of_E Tryz.func71 rfl (Nat.le_of_ble_eq_true rfl) fun g0 hm hfr=>?_
 show E _ 20 none _ _ _ _ _
 refine E_seq (E_region (EL_at (.int .i64 (0)) rfl rfl ?_))
 refine EL_nil (thn_n (E_seq (E_region (EL_mw (.int .i64 (x0)) rfl rfl ?_))))
 obtain ⟨y2,hy2,h⟩:=bsome h
 refine EL_do .plain rfl (D_call (g:=g0) (vs:=[.int .i64 (x0)]) en99 (.cons rfl .nil) (wk99  hy2) fun g1 w1_ v1 hs hr=>?_)
 have hfr:=hfr.ext hs
 subst hr
 refine EL_at (.bool (y2)) rfl rfl ?_
 refine EL_nil (thn_n (E_seq (E_region (EL_mw (.int .i64 (x1)) rfl rfl ?_))))
 obtain ⟨y4,bD,h⟩:=bsome h
 refine EL_do .plain rfl (D_call (g:=g1) (vs:=[.int .i64 (x1)]) en99 (.cons rfl .nil) (wk99  bD) fun g3 w3_ v3 hs hr=>?_)
 have hfr:=hfr.ext hs
 subst hr
 refine EL_at (.bool (y4)) rfl rfl ?_
 refine EL_nil (thn_n (E_joinC h (fun (s:Unit) e w=>∃ (g:Gh) ,Fr gI wI g w∧e 0=.int .i64 (x0)∧e 1=.int .i64 (x1)∧e 6=.bool (y4)) (fun X10 oB yB h=>?_) ?_))
 ·refine E_seq (E_region (EL_mw (.bool (y2)) rfl rfl ?_))
  refine EL_nil (thn_n ?_)
  rcases csome h with ⟨o0,h⟩ | ⟨o0,h⟩
  ·refine E_ct o0 rfl ?_
   refine E_joinC h (fun (s:Unit) e w=>∃ (g:Gh) ,Fr gI wI g w) (fun X13 vB zB h=>?_) ?_
   ·refine E_seq (E_region (EL_mw (.bool (y4)) rfl rfl ?_))
    refine EL_nil (thn_n ?_)
    rcases csome h with ⟨l5,h⟩ | ⟨l5,h⟩
    ·refine E_ct l5 rfl ?_
     refine E_seq (E_region (EL_at (.int .i64 (0)) rfl rfl ?_))
     refine EL_nil (thn_n (E_ret (thn_r ?_)))
     refine thn_r ?_
     obtain rfl:=sinj h
     exact end1 rfl rfl (show _=.int .i64 (0) from rfl) ⟨_,hfr,rfl⟩
    ·refine E_cf l5 rfl ?_
     exact E_skip (thn_n (zB () _ _ ⟨g3,hfr⟩ h))
   ·rintro _ oD w15 ⟨iE, hfr⟩ h
    refine E_seq (E_region (EL_at (.int .i64 (-1)) rfl rfl ?_))
    refine EL_nil (thn_n (E_ret (thn_r ?_)))
    obtain rfl:=sinj h
    exact end1 rfl rfl (show _=.int .i64 (-1) from rfl) ⟨_,hfr,rfl⟩
  ·refine E_cf o0 rfl ?_
   exact E_skip (thn_n (yB () _ _ ⟨g3,hfr,rfl,rfl,rfl⟩ h))
 ·rintro _ yD lE ⟨cD, hfr, v8, l9, n9⟩ h
  refine E_joinC h (fun (s:Unit) e w=>∃ (g:Gh) ,Fr gI wI g w∧e 0=.int .i64 (x0)∧e 1=.int .i64 (x1)) (fun X18 k18 cC h=>?_) ?_
  ·refine E_seq (E_region (EL_mv n9 rfl ?_))
   refine EL_nil (thn_n ?_)
   rcases csome h with ⟨t5,h⟩ | ⟨t5,h⟩
   ·refine E_ct t5 rfl ?_
    refine E_seq (E_region (EL_at (.int .i64 (1)) rfl rfl ?_))
    refine EL_nil (thn_n (E_ret (thn_r ?_)))
    obtain rfl:=sinj h
    exact end1 rfl rfl (show _=.int .i64 (1) from rfl) ⟨_,hfr,rfl⟩
   ·refine E_cf t5 rfl ?_
    exact E_skip (thn_n (cC () _ _ ⟨cD,hfr,v8,l9⟩ h))
  ·rintro _ zD mE ⟨lD, hfr, l8, n8⟩ h
   refine E_joinC h (fun (s:Unit) e w=>∃ (g:Gh) ,Fr gI wI g w∧e 0=.int .i64 (x0)∧e 1=.int .i64 (x1)) (fun X22 nB uC h=>?_) ?_
   ·refine E_seq (E_region (EL_mv l8 rfl ?_))
    refine EL_mv n8 rfl ?_
    refine EL_in (.bool ((decide (x0 < x1)))) rfl rfl rfl rfl ?_
    refine EL_nil (thn_n ?_)
    rcases csome h with ⟨i6,h⟩ | ⟨i6,h⟩
    ·refine E_ct i6 rfl ?_
     refine E_seq (E_region (EL_at (.int .i64 (-1)) rfl rfl ?_))
     refine EL_nil (thn_n (E_ret (thn_r ?_)))
     obtain rfl:=sinj h
     exact end1 rfl rfl (show _=.int .i64 (-1) from rfl) ⟨_,hfr,rfl⟩
    ·refine E_cf i6 rfl ?_
     exact E_skip (thn_n (uC () _ _ ⟨lD,hfr,l8,n8⟩ h))
   ·rintro _ aE oE ⟨nD, hfr, aB, lB⟩ h
    refine E_joinC h (fun (s:Unit) e w=>∃ (g:Gh) ,Fr gI wI g w) (fun X26 mB vC h=>?_) ?_
    ·refine E_seq (E_region (EL_mv aB rfl ?_))
     refine EL_mv lB rfl ?_
     refine EL_in (.bool ((decide (x0 > x1)))) rfl rfl rfl rfl ?_
     refine EL_nil (thn_n ?_)
     rcases csome h with ⟨g8,h⟩ | ⟨g8,h⟩
     ·refine E_ct g8 rfl ?_
      refine E_seq (E_region (EL_at (.int .i64 (1)) rfl rfl ?_))
      refine EL_nil (thn_n (E_ret (thn_r ?_)))
      obtain rfl:=sinj h
      exact end1 rfl rfl (show _=.int .i64 (1) from rfl) ⟨_,hfr,rfl⟩
     ·refine E_cf g8 rfl ?_
      exact E_skip (thn_n (vC () _ _ ⟨nD,hfr⟩ h))
    ·rintro _ bE rE ⟨uE, hfr⟩ h
     refine E_seq (E_region (EL_at (.int .i64 (0)) rfl rfl ?_))
     refine EL_nil (thn_n (E_ret ?_))
     obtain rfl:=sinj h
     exact end1 rfl rfl (show _=.int .i64 (0) from rfl) ⟨_,hfr,rfl⟩
def f73 (x0:Int) (x1:Int) (x2:List Int):Option (Bool):=
 (f56 x2 ((fun a0=>f100 a0 x0 x1))).bind fun y4=>
 some ((!y4))
theorem en73:Enters Tryz.prog 73:=enters_of Tryz.func73 (by kernel_rfl) rfl
theorem wk73 {gI:Gh} {wI:World} {x0:Int} {x1:Int} {x2:List Int} {up2:Value} (rp2:RV gI.m wI x2 up2) {r:Bool} (h:f73 x0 x1 x2=some r):Fn Tryz.prog 73 #[.int .i64 (x0),.int .i64 (x1),up2] gI wI (fun _ _ v=>v=.bool (r)):=by
 unfold f73 at h
 refine fn_of_E Tryz.func73 rfl (Nat.le_of_ble_eq_true rfl) fun g0 hm hfr=>?_
 have rp2:RV g0.m wI x2 up2:=hm ▸ rp2
 show E _ 11 none _ _ _ _ _
 refine E_seq (E_region (EL_do .plain rfl (D_box (g:=g0) rfl (RV_int.2 rfl) fun g1 w1 p1 hs q1=>?_)))
 have hfr:=hfr.ext hs
 have rp2:=rp2.ext hs
 refine EL_do .plain rfl (D_box (g:=g1) rfl (RV_int.2 rfl) fun g2 w2 p2 hs q2=>?_)
 have hfr:=hfr.ext hs
 have rp2:=rp2.ext hs
 have q1:=q1.ext hs
 refine EL_at (.bool false) rfl rfl ?_
 refine EL_nil (thn_n (E_seq (E_region (EL_mw up2 rfl rfl ?_))))
 refine EL_p ((.func (.func 100) #[] #[p1,p2])) (P_makeFunc (capf_0_2 (show ev _ _=p1 from rfl) (show ev _ _=p2 from rfl))) rfl ?_
 obtain ⟨y4,o0,h⟩:=bsome h
 refine EL_do .plain rfl (D_call (g:=g2) (vs:=[up2,(.func (.func 100) #[] #[p1,p2])]) en56 (.cons rfl (.cons rfl .nil)) (wk56 rp2 ⟨100,#[],#[p1,p2],rfl,en100,fun g' w' hch a0 b0 r hu0 hr=>by obtain rfl:=RV_int.1 hu0; exact Fn.mono (wk100  (q1.ch hch) (q2.ch hch) hr) fun _ _ _ h=>RV_bool.2 h⟩ o0) fun g3 w3_ v3 hs hr=>?_)
 have hfr:=hfr.ext hs
 subst hr
 refine EL_p (.bool (!y4)) (P_not rfl) rfl ?_
 refine EL_at (.bool (!y4)) rfl rfl ?_
 refine EL_nil (thn_n (E_ret ?_))
 obtain rfl:=sinj h
 exact end1 rfl rfl (show _=.bool (!y4) from rfl) ⟨_,hfr,rfl⟩
def f77 (x0:List Str) (x1:Str→Option Bool):Option (Bool):=
 (f105 x0 x1).bind fun y2=>
 some ((decide (y2 ≥ (0:Int))))
theorem en77:Enters Tryz.prog 77:=enters_of Tryz.func77 (by kernel_rfl) rfl
theorem wk77 {gI:Gh} {wI:World} {x0:List Str} {x1:Str→Option Bool} {up0:Value} (rp0:RV gI.m wI x0 up0) {up1:Value} (rp1:FnV1 Tryz.prog x1 up1 gI wI) {r:Bool} (h:f77 x0 x1=some r):Fn Tryz.prog 77 #[up0,up1] gI wI (fun _ _ v=>v=.bool (r)):=by
 unfold f77 at h
 refine fn_of_E Tryz.func77 rfl (Nat.le_of_ble_eq_true rfl) fun g0 hm hfr=>?_
 have rp0:RV g0.m wI x0 up0:=hm ▸ rp0
 obtain ⟨ff1,fa1,fc1,rfl,fen1,fcl1⟩:=rp1
 show E _ 9 none _ _ _ _ _
 refine E_seq (E_region (EL_at (.bool false) rfl rfl ?_))
 refine EL_nil (thn_n (E_seq (E_region (EL_mw up0 rfl rfl ?_))))
 refine EL_mw ((.func (.func ff1) fa1 fc1)) rfl rfl ?_
 obtain ⟨y2,hy2,h⟩:=bsome h
 refine EL_do .plain rfl (D_call (g:=g0) (vs:=[up0,(.func (.func ff1) fa1 fc1)]) en105 (.cons rfl (.cons rfl .nil)) (wk105 rp0 (FnV1.ch ⟨_,_,_,rfl,fen1,fcl1⟩ hfr.ch) hy2) fun g1 w1_ v1 hs hr=>?_)
 have hfr:=hfr.ext hs
 subst hr
 refine EL_in (.bool ((decide (y2 ≥ (0:Int))))) rfl rfl rfl rfl ?_
 refine EL_at (.bool ((decide (y2 ≥ (0:Int))))) rfl rfl ?_
 refine EL_nil (thn_n (E_ret ?_))
 obtain rfl:=sinj h
 exact end1 rfl rfl (show _=.bool ((decide (y2 ≥ (0:Int)))) from rfl) ⟨_,hfr,rfl⟩
def f84 : Nat → (List BookCloth) → (Int) → (Int) → (Int) → (BookCloth → BookCloth → Option Int) → Option ((List BookCloth))
 | 0,_,_,_,_,_=>none
 | n + 1,x0,x1,x2,x3,x4=>
  lp (σ:=(List BookCloth) × Int × Int × Int × Bool × Bool) (fun k1 (n8,o0,l5,i6,t5,l8)=>
   jn (σ:=(List BookCloth)) (fun l9=>
    jn (σ:=Unit) (fun _=>
     Option.bind (α:=Int) (
      bif (!t5) then
       none
      else
       some (i6)
      ) fun oB=>
     none
     ) fun rF=>
    bif (i6 == (0 : Int)) then
     none
    else
     rF ()
    ) fun k6=>
   bif (decide ((w64 (l5 - o0)) ≤ (12 : Int))) then
    (f109 n8 o0 l5 x4).bind fun y9=>
    some (y9)
   else
    k6 (n8)
   ) big (x0,x1,x2,x3,true,true)
theorem en84:Enters Tryz.prog 84:=enters_of Tryz.func84 (by kernel_rfl) rfl
theorem wk84 (n:Nat):∀ {iI:Nat} {gI:Gh} {wI:World} {x0:List BookCloth} {x1:Int} {x2:Int} {x3:Int} {x4:BookCloth→BookCloth→Option Int} {up0:Value} (mp0:OM iI gI wI 63 x0 up0) {up4:Value} (rp4:FnV2 Tryz.prog x4 up4 gI wI) {r:(List BookCloth)} (h:f84 n x0 x1 x2 x3 x4=some r),FnM Tryz.prog 84 #[up0,.int .i64 (x1),.int .i64 (x2),.int .i64 (x3),up4] iI gI wI (fun g w v=>v=.tuple #[]∧OM iI g w 63 r up0):=by
 induction n with
 | zero=>intros; rename_i h; cases h
 | succ n ih=>
 intro iI gI wI x0 x1 x2 x3 x4 up0 mp0 up4 rp4 r h
 simp only [f84] at h
 refine fnM_of_E Tryz.func84 rfl (Nat.le_of_ble_eq_true rfl) fun g0 hm hfr=>?_
 have oE:=mp0
 replace mp0:=mp0.enter
 rw [← hm] at mp0
 replace hm:g0.m=gI.m:=by rw [hm]
 obtain ⟨ff4,fa4,fc4,rfl,fen4,fcl4⟩:=rp4
 show E _ 148 none _ _ _ _ _
 refine E_seq (E_region (EL_at (.bool true) rfl rfl ?_))
 refine EL_nil (thn_n (E_seq (E_region (EL_at (.bool true) rfl rfl ?_))))
 refine EL_nil (thn_n (E_block ?_))
 refine E_lp h (fun (s:(List BookCloth) × Int × Int × Int × Bool × Bool) e w=>∃ (g:Gh) ,FrM iI gI wI g w∧e 0=up0∧OM 1 g w 63 (s.1:List BookCloth) up0∧e 1=.int .i64 (s.2.1)∧e 2=.int .i64 (s.2.2.1)∧e 3=.int .i64 (s.2.2.2.1)∧e 4=(.func (.func ff4) fa4 fc4)∧e 10=.bool (s.2.2.2.2.1)∧e 11=.bool (s.2.2.2.2.2)) ⟨g0,hfr,rfl,mp0,rfl,rfl,rfl,rfl,rfl,rfl⟩ (fun X1 k1 hk1=>?_)
 rintro ⟨n8,o0,l5,i6,t5,l8⟩ kG w2 ⟨g2,hfr,nD,oD,aB,lB,sF,yD,rE,uE⟩ h
 refine E_block ?_
 refine E_seq (E_region (EL_mv lB rfl ?_))
 refine EL_mv aB rfl ?_
 refine EL_in (.int .i64 ((w64 (l5 - o0)))) rfl rfl rfl rfl ?_
 refine EL_at (.int .i64 ((w64 (l5 - o0)))) rfl rfl ?_
 refine EL_nil (thn_n (E_joinC h (fun (s:(List BookCloth)) e w=>∃ (g:Gh) ,FrM iI gI wI g w∧e 0=up0∧OM 1 g w 63 (s:List BookCloth) up0∧e 1=.int .i64 (o0)∧e 2=.int .i64 (l5)∧e 3=.int .i64 (i6)∧e 4=(.func (.func ff4) fa4 fc4)∧e 10=.bool (t5)∧e 11=.bool (l8)∧e 12=.int .i64 ((w64 (l5 - o0)))) (fun X6 k6 hk6 h=>?_) ?_))
 ·refine E_seq (E_region (EL_mw (.int .i64 ((w64 (l5 - o0)))) rfl rfl ?_))
  refine EL_in (.bool ((decide ((w64 (l5 - o0)) ≤ (12:Int))))) rfl rfl rfl rfl ?_
  refine EL_nil (thn_n ?_)
  rcases csome h with ⟨zD,h⟩ | ⟨zD,h⟩
  ·refine E_ct zD rfl ?_
   refine E_seq (E_region (EL_mv nD rfl ?_))
   refine EL_mv aB rfl ?_
   refine EL_mv lB rfl ?_
   refine EL_mv yD rfl ?_
   obtain ⟨y9,uF,h⟩:=bsome h
   refine EL_do .plain rfl (D_callM (g:=g2) (i:=1) (vs:=[up0,.int .i64 (o0),.int .i64 (l5),(.func (.func ff4) fa4 fc4)]) en109 (.cons rfl (.cons rfl (.cons rfl (.cons rfl .nil)))) (wk109 oD (FnV2.ch ⟨_,_,_,rfl,fen4,fcl4⟩ hfr.ch) uF) fun g8 w8_ v8 hs hr=>?_)
   obtain ⟨hrv,b8⟩:=hr
   have hfr:=hfr.stp hs
   subst hrv
   refine EL_nil (thn_n (E_ret (thn_r ?_)))
   refine blk_r ?_
   refine thn_r ?_
   refine blk_r ?_
   obtain rfl:=sinj h
   exact end0 rfl rfl ⟨_,hfr,rfl,oE.back b8⟩
  ·refine E_cf zD rfl ?_
   exact E_skip (thn_n (hk6 (n8) _ _ ⟨g2,hfr,nD,oD,aB,lB,sF,yD,rE,uE,rfl⟩ h))
 ·rintro l9 gG lG ⟨vF, hfr, vB, vE, yB, zB, cC, uC, aE, bE, iE⟩ h
  refine E_joinC h (fun (s:Unit) e w=>∃ (g:Gh) ,FrM iI gI wI g w∧e 0=up0∧OM 1 g w 63 (l9:List BookCloth) up0∧e 1=.int .i64 (o0)∧e 2=.int .i64 (l5)∧e 3=.int .i64 (i6)∧e 4=(.func (.func ff4) fa4 fc4)∧e 10=.bool (t5)∧e 11=.bool (l8)∧e 12=.int .i64 ((w64 (l5 - o0)))) (fun X12 rF tF h=>?_) ?_
  ·refine E_seq (E_region (EL_mv cC rfl ?_))
   refine EL_in (.bool ((i6 == (0:Int)))) rfl rfl rfl rfl ?_
   refine EL_nil (thn_n ?_)
   rcases csome h with ⟨mB,h⟩ | ⟨mB,h⟩
   ·refine E_ct mB rfl ?_
    refine E_seq (E_region (EL_mv vB rfl ?_))
    refine EL_mv yB rfl ?_
    refine EL_mv zB rfl ?_
    refine EL_mv uC rfl ?_
    cases h
   ·refine E_cf mB rfl ?_
    exact E_skip (thn_n (tF () _ _ ⟨vF,hfr,vB,vE,yB,zB,cC,uC,aE,bE,iE⟩ h))
  ·rintro _ iG mG ⟨xF, hfr, vC, xE, bD, cD, yE, lD, n9, lE, mE⟩ h
   obtain ⟨oB,hx,h⟩:=bsome h
   refine E_join (fun e w=>∃ (g:Gh) ,FrM iI gI wI g w∧e 0=up0∧OM 1 g w 63 (l9:List BookCloth) up0∧e 1=.int .i64 (o0)∧e 2=.int .i64 (l5)∧e 3=.int .i64 (oB)∧e 4=(.func (.func ff4) fa4 fc4)∧e 10=.bool (t5)∧e 11=.bool (l8)∧e 12=.int .i64 ((w64 (l5 - o0)))) (fun Q' hQ=>?_) (fun jG sG hR=>?_)
   ·replace h := hx
    clear hx
    refine E_seq (E_region (EL_mv n9 rfl ?_))
    refine EL_p (.bool (!t5)) (P_not rfl) rfl ?_
    refine EL_nil (thn_n ?_)
    rcases csome h with ⟨nB,h⟩ | ⟨nB,h⟩
    ·refine E_ct nB rfl ?_
     refine E_seq (E_region (EL_mv vC rfl ?_))
     refine EL_mv bD rfl ?_
     refine EL_mv cD rfl ?_
     refine EL_mv lD rfl ?_
     cases h
    ·refine E_cf nB rfl ?_
     refine E_skip ?_
     obtain rfl:=sinj h
     exact hQ _ _ ⟨xF,hfr,vC,xE,bD,cD,yE,lD,n9,lE,mE⟩
   ·clear hx
    obtain ⟨xG,hfr,zE,cG,cF,dF,eG,eF,yF,aG,bG⟩:=hR
    refine E_seq (E_region (EL_mv zE rfl ?_))
    refine EL_mv cF rfl ?_
    refine EL_mv dF rfl ?_
    refine EL_mv eF rfl ?_
    cases h
def f86 (x0:Int) (x1:Int) (x2:List Int):Option (Bool):=
 (f56 x2 ((fun a0=>f119 a0 x0 x1))).bind fun y4=>
 some ((!y4))
theorem en86:Enters Tryz.prog 86:=enters_of Tryz.func86 (by kernel_rfl) rfl
theorem wk86 {gI:Gh} {wI:World} {x0:Int} {x1:Int} {x2:List Int} {up2:Value} (rp2:RV gI.m wI x2 up2) {r:Bool} (h:f86 x0 x1 x2=some r):Fn Tryz.prog 86 #[.int .i64 (x0),.int .i64 (x1),up2] gI wI (fun _ _ v=>v=.bool (r)):=by
 unfold f86 at h
 refine fn_of_E Tryz.func86 rfl (Nat.le_of_ble_eq_true rfl) fun g0 hm hfr=>?_
 have rp2:RV g0.m wI x2 up2:=hm ▸ rp2
 show E _ 11 none _ _ _ _ _
 refine E_seq (E_region (EL_do .plain rfl (D_box (g:=g0) rfl (RV_int.2 rfl) fun g1 w1 p1 hs q1=>?_)))
 have hfr:=hfr.ext hs
 have rp2:=rp2.ext hs
 refine EL_do .plain rfl (D_box (g:=g1) rfl (RV_int.2 rfl) fun g2 w2 p2 hs q2=>?_)
 have hfr:=hfr.ext hs
 have rp2:=rp2.ext hs
 have q1:=q1.ext hs
 refine EL_at (.bool false) rfl rfl ?_
 refine EL_nil (thn_n (E_seq (E_region (EL_mw up2 rfl rfl ?_))))
 refine EL_p ((.func (.func 119) #[] #[p1,p2])) (P_makeFunc (capf_0_2 (show ev _ _=p1 from rfl) (show ev _ _=p2 from rfl))) rfl ?_
 obtain ⟨y4,o0,h⟩:=bsome h
 refine EL_do .plain rfl (D_call (g:=g2) (vs:=[up2,(.func (.func 119) #[] #[p1,p2])]) en56 (.cons rfl (.cons rfl .nil)) (wk56 rp2 ⟨119,#[],#[p1,p2],rfl,en119,fun g' w' hch a0 b0 r hu0 hr=>by obtain rfl:=RV_int.1 hu0; exact Fn.mono (wk119  (q1.ch hch) (q2.ch hch) hr) fun _ _ _ h=>RV_bool.2 h⟩ o0) fun g3 w3_ v3 hs hr=>?_)
 have hfr:=hfr.ext hs
 subst hr
 refine EL_p (.bool (!y4)) (P_not rfl) rfl ?_
 refine EL_at (.bool (!y4)) rfl rfl ?_
 refine EL_nil (thn_n (E_ret ?_))
 obtain rfl:=sinj h
 exact end1 rfl rfl (show _=.bool (!y4) from rfl) ⟨_,hfr,rfl⟩
def f89 (x0:U64) (x1:U64):Option (U64 × U64):=
 (f122 x0 x1).bind fun y2=>
 some (y2.1,y2.2)
theorem en89:Enters Tryz.prog 89:=enters_of Tryz.func89 (by kernel_rfl) rfl
theorem wk89 {gI:Gh} {wI:World} {x0:U64} {x1:U64}  {r:U64 × U64} (h:f89 x0 x1=some r):Fn Tryz.prog 89 #[.int .u64 ((x0).n),.int .u64 ((x1).n)] gI wI (fun m w v=>∃ y0 y1,v=.tuple #[y0,y1]∧y0=.int .u64 ((r.1).n)∧y1=.int .u64 ((r.2).n)):=by
 unfold f89 at h
 refine fn_of_E Tryz.func89 rfl (Nat.le_of_ble_eq_true rfl) fun g0 hm hfr=>?_
 show E _ 30 none _ _ _ _ _
 refine E_seq (E_region (EL_at (.int .u64 (0)) rfl rfl ?_))
 refine EL_at (.int .u64 (0)) rfl rfl ?_
 refine EL_nil (thn_n (E_seq (E_cond_false (by rw [show ev _ _=_ from rfl]; exact congrArg Value.bool rfl) ?_)))
 refine E_skip (thn_n (E_seq (E_region (EL_mw (.int .u64 ((x0).n)) rfl rfl ?_))))
 refine EL_mw (.int .u64 ((x1).n)) rfl rfl ?_
 obtain ⟨y2,hy2,h⟩:=bsome h
 refine EL_do .plain rfl (D_call (g:=g0) (vs:=[.int .u64 ((x0).n),.int .u64 ((x1).n)]) en122 (.cons rfl (.cons rfl .nil)) (wk122  hy2) fun g1 w1_ v1 hs hr=>?_)
 have hfr:=hfr.ext hs
 obtain ⟨o0,l5,rfl,rfl,rfl⟩:=hr
 refine EL_mw (.tuple #[.int .u64 ((y2.1).n),.int .u64 ((y2.2).n)]) rfl rfl ?_
 refine EL_p (.int .u64 ((y2.1).n)) (P_extract rfl rfl) rfl ?_
 refine EL_p (.int .u64 ((y2.2).n)) (P_extract rfl rfl) rfl ?_
 refine EL_at (.int .u64 ((y2.1).n)) rfl rfl ?_
 refine EL_at (.int .u64 ((y2.2).n)) rfl rfl ?_
 refine EL_nil (thn_n (E_seq (E_region (EL_mw (.int .u64 ((y2.1).n)) rfl rfl ?_))))
 refine EL_mw (.int .u64 ((y2.2).n)) rfl rfl ?_
 refine EL_at (.int .u64 ((y2.1).n)) rfl rfl ?_
 refine EL_at (.int .u64 ((y2.2).n)) rfl rfl ?_
 refine EL_nil (thn_n (E_ret ?_))
 obtain rfl:=sinj h
 exact end2 rfl rfl (show _=.int .u64 ((y2.1).n) from rfl) (show _=.int .u64 ((y2.2).n) from rfl) ⟨_,hfr,_,_,rfl,rfl,rfl⟩
def f91 (x0:TieTieHarness) (x1:Int):Option (Str):=
 Option.bind (α:=List UInt8) (
  lp (σ:=List UInt8 × Int) (fun oD (l8,o0)=>
   bif (decide (o0 < ((((x0).TieHarness).Warps).length : Int))) then
    Option.bind (α:=List UInt8) (
     (f125 x0 x1 o0).bind fun nB=>
     (f124 nB).bind fun oB=>
     (apnd 1 l8 [oB]).bind fun y43=>
     some (y43)
     ) fun i6=>
    oD (i6,(w64 (o0 + (1:Int))))
   else
    some (l8)
   ) big (([]:List UInt8),(0:Int))
  ) fun n8=>
 (sbstr n8).bind fun aB=>
 some (aB)
theorem en91:Enters Tryz.prog 91:=enters_of Tryz.func91 (by kernel_rfl) rfl
theorem wk91 {gI:Gh} {wI:World} {x0:TieTieHarness} {x1:Int} {up0:Value} (rp0:RV gI.m wI x0 up0) {r:Str} (h:f91 x0 x1=some r):Fn Tryz.prog 91 #[up0,.int .i64 (x1)] gI wI (fun _ _ v=>v=Str.v (r)):=by
 unfold f91 at h
 refine fn_of_E Tryz.func91 rfl (Nat.le_of_ble_eq_true rfl) fun g0 hm hfr=>?_
 have rp0:RV g0.m wI x0 up0:=hm ▸ rp0
 show E _ 22 none _ _ _ _ _
 refine E_seq (E_region (EL_do .plain rfl (D_box (g:=g0) rfl rp0 fun g1 w1 p1 hs q1=>?_)))
 have hfr:=hfr.ext hs
 refine EL_at (Str.v (⟨[]⟩:Str)) rfl rfl ?_
 refine EL_nil (thn_n (E_seq (E_region (EL_do .plain rfl (D_allocOc (g:=g1) 2005 ((⟨.pointer none,rfl⟩,[]):Fv × List UInt8) Tryz.zeroValue156 (fun m w=>⟨_,rep_two (show GoT.rep m w (⟨.pointer none,rfl⟩:Fv) [.pointer none] from rfl) rep_nil,rfl⟩) fun g2 w2 p2 hs b2 cb=>?_)))))
 have hfr:=hfr.stp hs
 have q1:=q1.stp hs
 replace b2:SB 2005 60501 g2 w2 5 156 [] p2:=⟨_,b2,cb.osf rfl,.inl rfl⟩
 clear cb
 refine EL_nil (thn_n ?_)
 obtain ⟨n8,hx,h⟩:=bsome h
 refine E_join (fun e w=>∃ (g:Gh) ,Fr gI wI g w∧e 5=p2∧SB 2005 60501 g w 5 156 (n8) p2) (fun Q' hQ=>?_) (fun zE sF hR=>?_)
 ·replace h := hx
  clear hx
  refine E_seq (E_region (EL_p (fPtr p1 0) (P_fieldAddr at_187_0 rfl (PT.ptr q1)) rfl ?_))
  have yD:=PT_field (part_TieTieHarness_0).1 q1
  refine EL_p (fPtr (fPtr p1 0) 1) (P_fieldAddr at_27_1 rfl (PT.ptr yD)) rfl ?_
  have mE:=PT_field (part_TieHarness_1).1 yD
  refine EL_do .plain rfl (D_load (g:=g2) Tryz.isAgg25 Tryz.sizeOf25 rfl mE fun tF oE=>?_)
  refine EL_p (.int .i64 ((((x0).TieHarness).Warps).length:Int)) (P_len Tryz.underlying25 rfl oE) rfl ?_
  refine EL_mw (.int .i64 (0)) rfl rfl ?_
  refine EL_nil (thn_n (E_block ?_))
  refine E_lp h (fun (s:List UInt8 × Int) e w=>∃ (g:Gh) ,Fr gI wI g w∧e 1=.int .i64 (x1)∧e 2=p1∧PT g.m w (x0:TieTieHarness) p1∧e 5=p2∧SB 2005 60501 g w 5 156 (s.1) p2∧e 10=.int .i64 (((((x0).TieHarness).Warps).length:Int))∧e 11=.int .i64 (s.2)) ⟨g2,hfr,rfl,rfl,q1,rfl,b2,rfl,rfl⟩ (fun X27 oD zD=>?_)
  rintro ⟨l8,o0⟩ cF uF ⟨vB,hfr,lB,mB,l5,v8,t5,l9,g8⟩ h
  refine E_seq (E_region (EL_p (.bool ((decide (o0 < ((((x0).TieHarness).Warps).length:Int))))) (P_int g8 l9 rfl) rfl ?_))
  refine EL_nil (thn_n (E_seq ?_))
  rcases csome h with ⟨n9,h⟩ | ⟨n9,h⟩
  ·refine E_ct n9 rfl ?_
   refine E_skip (thn_n ?_)
   obtain ⟨i6,hx,h⟩:=bsome h
   refine E_join (fun e w=>∃ (g:Gh) ,Fr gI wI g w∧e 1=.int .i64 (x1)∧e 2=p1∧PT g.m w (x0:TieTieHarness) p1∧e 5=p2∧SB 2005 60501 g w 5 156 (i6) p2∧e 10=.int .i64 (((((x0).TieHarness).Warps).length:Int))∧e 11=.int .i64 (o0)) (fun Q' hQ=>?_) (fun dF vF hR=>?_)
   ·replace h := hx
    clear hx
    refine E_block ?_
    refine E_seq (E_region (EL_mv g8 rfl ?_))
    refine EL_at (.int .i64 (o0)) rfl rfl ?_
    refine EL_nil (thn_n (E_region (EL_do .plain rfl (D_load (g:=vB) Tryz.isAgg187 Tryz.sizeOf187 mB l5 fun rE uE=>?_))))
    refine EL_mv lB rfl ?_
    refine EL_mw (.int .i64 (o0)) rfl rfl ?_
    obtain ⟨nB,aE,h⟩:=bsome h
    refine EL_do .plain rfl (D_call (g:=vB) (vs:=[rE,.int .i64 (x1),.int .i64 (o0)]) en125 (.cons rfl (.cons rfl (.cons rfl .nil))) (wk125 uE aE) fun vE eF xF hs hr=>?_)
    have hfr:=hfr.ext hs
    have l5:=l5.ext hs
    have t5:=t5.ext hs
    subst hr
    obtain ⟨oB,bE,h⟩:=bsome h
    refine EL_do .plain rfl (D_call (g:=vE) (vs:=[.bool (nB)]) en124 (.cons rfl .nil) (wk124  bE) fun yF rF aG hs hr=>?_)
    have hfr:=hfr.ext hs
    have l5:=l5.ext hs
    have t5:=t5.ext hs
    subst hr
    obtain ⟨y43,iE,h⟩:=bsome h
    refine EL_do .plain rfl (D_callC (vs:=[p2,.int .u8 (UInt8.toNat (oB))]) en94 (.cons v8 (.cons rfl .nil)) (wk94 (i:=2005) (j:=60501) rfl rfl t5 iE) fun bG cG hq=>?_)
    obtain ⟨hv,xE,⟨_,_,_,_,hs1,hs2,hs3⟩,b42⟩:=hq
    subst hv
    have hfr:=hfr.stp hs1
    have l5:=l5.stp hs1
    have hfr:=hfr.stp hs2
    have l5:=l5.stp hs2
    have hfr:=hfr.stp hs3
    have l5:=l5.stp hs3
    clear hs1 hs2 hs3
    refine EL_nil (blk_n ?_)
    obtain rfl:=sinj h
    exact hQ _ _ ⟨xE,hfr,lB,mB,l5,v8,b42,l9,g8⟩
   ·clear hx
    obtain ⟨yE,hfr,cC,uC,vC,bD,cD,yB,zB⟩:=hR
    refine E_region (EL_in (.int .i64 ((w64 (o0 + (1:Int))))) zB rfl rfl rfl ?_)
    refine EL_mw (.int .i64 ((w64 (o0 + (1:Int))))) rfl rfl ?_
    exact EL_nil (thn_n (zD (i6,(w64 (o0 + (1:Int)))) _ _ ⟨yE,hfr,cC,uC,vC,bD,cD,yB,rfl⟩ h))
  ·refine E_cf n9 rfl ?_
   refine E_exit ?_
   refine thn_e ?_
   refine thn_e ?_
   refine blk_hit ?_
   obtain rfl:=sinj h
   exact hQ _ _ ⟨vB,hfr,v8,t5⟩
 ·clear hx
  obtain ⟨eG,hfr,lD,nD⟩:=hR
  refine E_seq (E_region ?_)
  obtain ⟨aB,lE,h⟩:=bsome h
  obtain ⟨hne46,hye46⟩:=sbstr_h lE
  refine EL_do .plain rfl (D_callC (vs:=[p2]) en67 (.cons lD .nil) (wk67 (i:=2005) (j:=60501) rfl nD hne46) fun gG iG hq=>?_)
  obtain ⟨hv,jG,hs⟩:=hq
  rw [← hye46] at hv
  subst hv
  have hfr:=hfr.stp hs
  refine EL_at (Str.v aB) rfl rfl ?_
  refine EL_nil (thn_n (E_ret ?_))
  obtain rfl:=sinj h
  exact end1 rfl rfl (show _=Str.v aB from rfl) ⟨_,hfr,rfl⟩
def f101 (x0:Int):Option (Bool):=
 (f86 ((1:Int)) ((24:Int)) (([x0]:List Int))).bind fun y3=>
 some (y3)
theorem en101:Enters Tryz.prog 101:=enters_of Tryz.func101 (by kernel_rfl) rfl
theorem wk101 {gI:Gh} {wI:World} {x0:Int}  {r:Bool} (h:f101 x0=some r):Fn Tryz.prog 101 #[.int .i64 (x0)] gI wI (fun _ _ v=>v=.bool (r)):=by
 unfold f101 at h
 refine fn_of_E Tryz.func101 rfl (Nat.le_of_ble_eq_true rfl) fun g0 hm hfr=>?_
 show E _ 6 none _ _ _ _ _
 refine E_seq (E_region (EL_at (.bool false) rfl rfl ?_))
 refine EL_nil (thn_n (E_seq (E_region (EL_mw (.int .i64 (x0)) rfl rfl ?_))))
 refine EL_do .plain rfl (D_buildSlice (g:=g0) 3004 (xs:=([x0]:List Int)) (vs:=[.int .i64 (x0)]) Tryz.underlying25 Tryz.sizeOf3 Tryz.zeroValue3 rfl rfl (.cons rfl .nil) (RVs.cons (RV_int.2 rfl) RVs.nil) rfl rfl fun g1 w1 v1 hs o1 r1 hxt hfl=>?_)
 have hfr:=hfr.stp hs
 obtain ⟨y3,hy3,h⟩:=bsome h
 refine EL_do .plain rfl (D_call (g:=g1) (vs:=[.int .i64 (1),.int .i64 (24),v1]) en86 (.cons rfl (.cons rfl (.cons rfl .nil))) (wk86 r1 hy3) fun g2 w2_ v2 hs hr=>?_)
 have hfr:=hfr.ext hs
 subst hr
 refine EL_at (.bool (y3)) rfl rfl ?_
 refine EL_nil (thn_n (E_ret ?_))
 obtain rfl:=sinj h
 exact end1 rfl rfl (show _=.bool (y3) from rfl) ⟨_,hfr,rfl⟩
def f106 (x0:Str) (x1:Str):Option (Bool):=
 Option.bind (α:=Bool) (
  (f132 x0).bind fun y8=>
  bif y8 then
   (f132 x1).bind fun y11=>
   bif (!y11) then
    some (true)
   else
    some ((Op.bytesLess (x0).b (x1).b))
  else
   some ((Op.bytesLess (x0).b (x1).b))
  ) fun l5=>
 some (l5)
theorem en106:Enters Tryz.prog 106:=enters_of Tryz.func106 (by kernel_rfl) rfl
theorem wk106 {gI:Gh} {wI:World} {x0:Str} {x1:Str}  {r:Bool} (h:f106 x0 x1=some r):Fn Tryz.prog 106 #[Str.v (x0),Str.v (x1)] gI wI (fun _ _ v=>v=.bool (r)):=by
 unfold f106 at h
 refine fn_of_E Tryz.func106 rfl (Nat.le_of_ble_eq_true rfl) fun g0 hm hfr=>?_
 show E _ 17 none _ _ _ _ _
 refine E_seq (E_region (EL_at (.bool false) rfl rfl ?_))
 refine EL_nil (thn_n ?_)
 obtain ⟨l5,hx,h⟩:=bsome h
 refine E_join (fun e w=>∃ (g:Gh) ,Fr gI wI g w∧e 4=.bool (l5)) (fun Q' hQ=>?_) (fun n8 l9 hR=>?_)
 ·replace h := hx
  clear hx
  refine E_region (EL_mw (Str.v (x0)) rfl rfl ?_)
  obtain ⟨y8,l8,h⟩:=bsome h
  refine EL_do .plain rfl (D_call (g:=g0) (vs:=[Str.v (x0)]) en132 (.cons rfl .nil) (wk132  l8) fun g7 w7_ v7 hs hr=>?_)
  have hfr:=hfr.ext hs
  subst hr
  refine EL_mw (.bool (y8)) rfl rfl ?_
  rcases csome h with ⟨hc9,h⟩ | ⟨hc9,h⟩
  ·refine EL_y (Str.v (x1)) (P_move rfl) rfl rfl hc9 rfl ?_
   obtain ⟨y11,g8,h⟩:=bsome h
   refine EL_do (.yes2 rfl rfl hc9) rfl (D_call (g:=g7) (vs:=[Str.v (x1)]) en132 (.cons rfl .nil) (wk132  g8) fun i6 v8 n9 hs hr=>?_)
   have hfr:=hfr.ext hs
   subst hr
   refine EL_y (.bool (!y11)) (P_not rfl) rfl rfl hc9 rfl ?_
   refine EL_p (.bool (!y11)) (P_pick (b:=y8) rfl (pick_t hc9 rfl)) rfl ?_
   refine EL_mw (.bool (!y11)) rfl rfl ?_
   rcases csome h with ⟨o0,h⟩ | ⟨o0,h⟩
   ·refine EL_s rfl rfl o0 rfl rfl ?_
    refine EL_s rfl rfl o0 rfl rfl ?_
    refine EL_s rfl rfl o0 rfl rfl ?_
    refine EL_p (.bool true) (P_pick (b:=(!y11)) rfl (pick_t o0 rfl)) rfl ?_
    refine EL_at (.bool true) rfl rfl ?_
    refine EL_nil ?_
    obtain rfl:=sinj h
    exact hQ _ _ ⟨i6,hfr,rfl⟩
   ·refine EL_y (Str.v (x0)) (P_move rfl) rfl rfl o0 rfl ?_
    refine EL_y (Str.v (x1)) (P_move rfl) rfl rfl o0 rfl ?_
    refine EL_y (.bool ((Op.bytesLess (x0).b (x1).b))) (P_str rfl rfl rfl) rfl rfl o0 rfl ?_
    refine EL_p (.bool ((Op.bytesLess (x0).b (x1).b))) (P_pick (b:=(!y11)) rfl (pick_f o0 rfl)) rfl ?_
    refine EL_at (.bool ((Op.bytesLess (x0).b (x1).b))) rfl rfl ?_
    refine EL_nil ?_
    obtain rfl:=sinj h
    exact hQ _ _ ⟨i6,hfr,rfl⟩
  ·refine EL_s rfl rfl hc9 rfl rfl ?_
   refine EL_s rfl rfl hc9 rfl rfl ?_
   refine EL_s rfl rfl hc9 rfl rfl ?_
   refine EL_p (.bool false) (P_pick (b:=y8) rfl (pick_f hc9 rfl)) rfl ?_
   refine EL_mw (.bool false) rfl rfl ?_
   refine EL_y (Str.v (x0)) (P_move rfl) rfl rfl rfl rfl ?_
   refine EL_y (Str.v (x1)) (P_move rfl) rfl rfl rfl rfl ?_
   refine EL_y (.bool ((Op.bytesLess (x0).b (x1).b))) (P_str rfl rfl rfl) rfl rfl rfl rfl ?_
   refine EL_p (.bool ((Op.bytesLess (x0).b (x1).b))) (P_pick (b:=false) rfl (pick_f rfl rfl)) rfl ?_
   refine EL_at (.bool ((Op.bytesLess (x0).b (x1).b))) rfl rfl ?_
   refine EL_nil ?_
   obtain rfl:=sinj h
   exact hQ _ _ ⟨g7,hfr,rfl⟩
 ·clear hx
  obtain ⟨aB,hfr,t5⟩:=hR
  refine E_ret ?_
  obtain rfl:=sinj h
  exact end1 rfl rfl (show _=.bool (l5) from t5) ⟨_,hfr,rfl⟩
def f108 (x0:List UInt8) (x1:Int):Option (It (List UInt8)):=
 Option.bind (α:=Unit) (
  bif (decide (x1 < (1 : Int))) then
   none
  else
   some ()
  ) fun (_:Unit)=>
 some ((fun σ cons s=>f133 x0 x1 σ cons s))
theorem en108:Enters Tryz.prog 108:=enters_of Tryz.func108 (by kernel_rfl) rfl
theorem wk108 {gI:Gh} {wI:World} {x0:List UInt8} {x1:Int} {up0:Value} (rp0:RV gI.m wI x0 up0) {r:It (List UInt8)} (h:f108 x0 x1=some r):Fn Tryz.prog 108 #[up0,.int .i64 (x1)] gI wI (fun m w v=>ItV Tryz.prog (RA1 (α:=(List UInt8))) (r) v m w):=by
 unfold f108 at h
 refine fn_of_E Tryz.func108 rfl (Nat.le_of_ble_eq_true rfl) fun g0 hm hfr=>?_
 have rp0:RV g0.m wI x0 up0:=hm ▸ rp0
 show E _ 9 none _ _ _ _ _
 refine E_seq (E_region (EL_do .plain rfl (D_box (g:=g0) rfl rp0 fun g1 w1 p1 hs q1=>?_)))
 have hfr:=hfr.ext hs
 refine EL_do .plain rfl (D_box (g:=g1) rfl (RV_int.2 rfl) fun g2 w2 p2 hs q2=>?_)
 have hfr:=hfr.ext hs
 have q1:=q1.ext hs
 refine EL_at (.nilFunc) rfl rfl ?_
 refine EL_nil (thn_n ?_)
 obtain ⟨_,hx,h⟩:=bsome h
 refine E_join (fun e w=>∃ (g:Gh) ,Fr gI wI g w∧e 2=p1∧PT g.m w (x0:List UInt8) p1∧e 3=p2∧PT g.m w (x1:Int) p2) (fun Q' hQ=>?_) (fun g8 w7 hR=>?_)
 ·replace h := hx
  clear hx
  refine E_seq (E_region (EL_do .plain rfl (D_load (g:=g2) Tryz.isAgg3 Tryz.sizeOf3 rfl q2 fun v5 r5=>?_)))
  obtain rfl:=RV_int.1 r5
  refine EL_in (.bool ((decide (x1 < (1:Int))))) rfl rfl rfl rfl ?_
  refine EL_nil (thn_n ?_)
  rcases csome h with ⟨hc6,h⟩ | ⟨hc6,h⟩
  ·refine E_ct hc6 rfl ?_
   refine E_region ?_
   cases h
  ·refine E_cf hc6 rfl ?_
   refine E_skip ?_
   obtain rfl:=sinj h
   exact hQ _ _ ⟨g2,hfr,rfl,q1,rfl,q2⟩
 ·clear hx
  obtain ⟨g7,hfr,o0,l5,t5,i6⟩:=hR
  refine E_seq (E_region (EL_p ((.func (.func 133) #[] #[p1,p2])) (P_makeFunc (capf_0_2 (show ev _ _=p1 from o0) (show ev _ _=p2 from t5))) rfl ?_))
  refine EL_at ((.func (.func 133) #[] #[p1,p2])) rfl rfl ?_
  refine EL_nil (thn_n (E_ret ?_))
  obtain rfl:=sinj h
  exact end1 rfl rfl (show _=(.func (.func 133) #[] #[p1,p2]) from rfl) ⟨_,hfr,(show ItV Tryz.prog (RA1 (α:=(List UInt8))) (fun σ cons s=>f133 x0 x1 σ cons s) ((.func (.func 133) #[] #[p1,p2])) g7.m w7 from ⟨133,#[],#[p1,p2],rfl,en133,fun g' w' hch σ cons s s' h=>wk133  (l5.ch hch) (i6.ch hch) h⟩)⟩
def f123 (x0:Int) (x1:Int) (x2:List Int):Option (Bool):=
 (f56 x2 ((fun a0=>f140 a0 x0 x1))).bind fun y4=>
 some ((!y4))
theorem en123:Enters Tryz.prog 123:=enters_of Tryz.func123 (by kernel_rfl) rfl
theorem wk123 {gI:Gh} {wI:World} {x0:Int} {x1:Int} {x2:List Int} {up2:Value} (rp2:RV gI.m wI x2 up2) {r:Bool} (h:f123 x0 x1 x2=some r):Fn Tryz.prog 123 #[.int .i64 (x0),.int .i64 (x1),up2] gI wI (fun _ _ v=>v=.bool (r)):=by
 unfold f123 at h
 refine fn_of_E Tryz.func123 rfl (Nat.le_of_ble_eq_true rfl) fun g0 hm hfr=>?_
 have rp2:RV g0.m wI x2 up2:=hm ▸ rp2
 show E _ 11 none _ _ _ _ _
 refine E_seq (E_region (EL_do .plain rfl (D_box (g:=g0) rfl (RV_int.2 rfl) fun g1 w1 p1 hs q1=>?_)))
 have hfr:=hfr.ext hs
 have rp2:=rp2.ext hs
 refine EL_do .plain rfl (D_box (g:=g1) rfl (RV_int.2 rfl) fun g2 w2 p2 hs q2=>?_)
 have hfr:=hfr.ext hs
 have rp2:=rp2.ext hs
 have q1:=q1.ext hs
 refine EL_at (.bool false) rfl rfl ?_
 refine EL_nil (thn_n (E_seq (E_region (EL_mw up2 rfl rfl ?_))))
 refine EL_p ((.func (.func 140) #[] #[p1,p2])) (P_makeFunc (capf_0_2 (show ev _ _=p1 from rfl) (show ev _ _=p2 from rfl))) rfl ?_
 obtain ⟨y4,o0,h⟩:=bsome h
 refine EL_do .plain rfl (D_call (g:=g2) (vs:=[up2,(.func (.func 140) #[] #[p1,p2])]) en56 (.cons rfl (.cons rfl .nil)) (wk56 rp2 ⟨140,#[],#[p1,p2],rfl,en140,fun g' w' hch a0 b0 r hu0 hr=>by obtain rfl:=RV_int.1 hu0; exact Fn.mono (wk140  (q1.ch hch) (q2.ch hch) hr) fun _ _ _ h=>RV_bool.2 h⟩ o0) fun g3 w3_ v3 hs hr=>?_)
 have hfr:=hfr.ext hs
 subst hr
 refine EL_p (.bool (!y4)) (P_not rfl) rfl ?_
 refine EL_at (.bool (!y4)) rfl rfl ?_
 refine EL_nil (thn_n (E_ret ?_))
 obtain rfl:=sinj h
 exact end1 rfl rfl (show _=.bool (!y4) from rfl) ⟨_,hfr,rfl⟩
def f129 (x0:Int) (x1:List Int):Option (Bool):=
 (shl64 (1:Int) x0).bind fun y1=>
 (f86 ((0:Int)) ((w64 (y1 - (1:Int)))) x1).bind fun y3=>
 some (y3)
theorem en129:Enters Tryz.prog 129:=enters_of Tryz.func129 (by kernel_rfl) rfl
theorem wk129 {gI:Gh} {wI:World} {x0:Int} {x1:List Int} {up1:Value} (rp1:RV gI.m wI x1 up1) {r:Bool} (h:f129 x0 x1=some r):Fn Tryz.prog 129 #[.int .i64 (x0),up1] gI wI (fun _ _ v=>v=.bool (r)):=by
 unfold f129 at h
 refine fn_of_E Tryz.func129 rfl (Nat.le_of_ble_eq_true rfl) fun g0 hm hfr=>?_
 have rp1:RV g0.m wI x1 up1:=hm ▸ rp1
 show E _ 10 none _ _ _ _ _
 refine E_seq (E_region (EL_at (.bool false) rfl rfl ?_))
 refine EL_nil (thn_n (E_seq (E_region (EL_mw (.int .i64 (x0)) rfl rfl ?_))))
 obtain ⟨y1,hy1,h⟩:=bsome h
 refine EL_p (.int .i64 (y1)) (P_int rfl rfl (congrArg (Option.map (Value.int .i64)) hy1)) rfl ?_
 refine EL_in (.int .i64 ((w64 (y1 - (1:Int))))) rfl rfl rfl rfl ?_
 refine EL_mw up1 rfl rfl ?_
 obtain ⟨y3,hy3,h⟩:=bsome h
 refine EL_do .plain rfl (D_call (g:=g0) (vs:=[.int .i64 (0),.int .i64 ((w64 (y1 - (1:Int)))),up1]) en86 (.cons rfl (.cons rfl (.cons rfl .nil))) (wk86 rp1 hy3) fun g2 w2_ v2 hs hr=>?_)
 have hfr:=hfr.ext hs
 subst hr
 refine EL_at (.bool (y3)) rfl rfl ?_
 refine EL_nil (thn_n (E_ret ?_))
 obtain rfl:=sinj h
 exact end1 rfl rfl (show _=.bool (y3) from rfl) ⟨_,hfr,rfl⟩
def f130 (x0:List ChainCard) (x1:ChainCard→Option Bool):Option (Bool):=
 (f143 x0 x1).bind fun y2=>
 some ((decide (y2 ≥ (0:Int))))
theorem en130:Enters Tryz.prog 130:=enters_of Tryz.func130 (by kernel_rfl) rfl
theorem wk130 {gI:Gh} {wI:World} {x0:List ChainCard} {x1:ChainCard→Option Bool} {up0:Value} (rp0:RV gI.m wI x0 up0) {up1:Value} (rp1:FnV1 Tryz.prog x1 up1 gI wI) {r:Bool} (h:f130 x0 x1=some r):Fn Tryz.prog 130 #[up0,up1] gI wI (fun _ _ v=>v=.bool (r)):=by
 unfold f130 at h
 refine fn_of_E Tryz.func130 rfl (Nat.le_of_ble_eq_true rfl) fun g0 hm hfr=>?_
 have rp0:RV g0.m wI x0 up0:=hm ▸ rp0
 obtain ⟨ff1,fa1,fc1,rfl,fen1,fcl1⟩:=rp1
 show E _ 9 none _ _ _ _ _
 refine E_seq (E_region (EL_at (.bool false) rfl rfl ?_))
 refine EL_nil (thn_n (E_seq (E_region (EL_mw up0 rfl rfl ?_))))
 refine EL_mw ((.func (.func ff1) fa1 fc1)) rfl rfl ?_
 obtain ⟨y2,hy2,h⟩:=bsome h
 refine EL_do .plain rfl (D_call (g:=g0) (vs:=[up0,(.func (.func ff1) fa1 fc1)]) en143 (.cons rfl (.cons rfl .nil)) (wk143 rp0 (FnV1.ch ⟨_,_,_,rfl,fen1,fcl1⟩ hfr.ch) hy2) fun g1 w1_ v1 hs hr=>?_)
 have hfr:=hfr.ext hs
 subst hr
 refine EL_in (.bool ((decide (y2 ≥ (0:Int))))) rfl rfl rfl rfl ?_
 refine EL_at (.bool ((decide (y2 ≥ (0:Int))))) rfl rfl ?_
 refine EL_nil (thn_n (E_ret ?_))
 obtain rfl:=sinj h
 exact end1 rfl rfl (show _=.bool ((decide (y2 ≥ (0:Int)))) from rfl) ⟨_,hfr,rfl⟩
def f131 (x0:Str) (x1:I32→Option Bool):Option (Int):=
 (f144 x0 x1 true).bind fun y2=>
 some (y2)
theorem en131:Enters Tryz.prog 131:=enters_of Tryz.func131 (by kernel_rfl) rfl
theorem wk131 {gI:Gh} {wI:World} {x0:Str} {x1:I32→Option Bool} {up1:Value} (rp1:FnV1 Tryz.prog x1 up1 gI wI) {r:Int} (h:f131 x0 x1=some r):Fn Tryz.prog 131 #[Str.v (x0),up1] gI wI (fun _ _ v=>v=.int .i64 (r)):=by
 unfold f131 at h
 refine fn_of_E Tryz.func131 rfl (Nat.le_of_ble_eq_true rfl) fun g0 hm hfr=>?_
 obtain ⟨ff1,fa1,fc1,rfl,fen1,fcl1⟩:=rp1
 show E _ 8 none _ _ _ _ _
 refine E_seq (E_region (EL_at (.int .i64 (0)) rfl rfl ?_))
 refine EL_nil (thn_n (E_seq (E_region (EL_mw (Str.v (x0)) rfl rfl ?_))))
 refine EL_mw ((.func (.func ff1) fa1 fc1)) rfl rfl ?_
 obtain ⟨y2,hy2,h⟩:=bsome h
 refine EL_do .plain rfl (D_call (g:=g0) (vs:=[Str.v (x0),(.func (.func ff1) fa1 fc1),.bool true]) en144 (.cons rfl (.cons rfl (.cons rfl .nil))) (wk144 (FnV1.ch ⟨_,_,_,rfl,fen1,fcl1⟩ hfr.ch) hy2) fun g1 w1_ v1 hs hr=>?_)
 have hfr:=hfr.ext hs
 subst hr
 refine EL_at (.int .i64 (y2)) rfl rfl ?_
 refine EL_nil (thn_n (E_ret ?_))
 obtain rfl:=sinj h
 exact end1 rfl rfl (show _=.int .i64 (y2) from rfl) ⟨_,hfr,rfl⟩
def f139 (x0:U64):Option (U64):=
 (shr64 ((x0).n) ((1:Int))).bind fun y1=>
 (shlU (bitU .and ((x0).n) ((6148914691236517205:Int))) ((1:Int))).bind fun y2=>
 (shr64 (bitU .or (bitU .and y1 ((6148914691236517205:Int))) y2) ((2:Int))).bind fun y3=>
 (shlU (bitU .and (bitU .or (bitU .and y1 ((6148914691236517205:Int))) y2) ((3689348814741910323:Int))) ((2:Int))).bind fun y4=>
 (shr64 (bitU .or (bitU .and y3 ((3689348814741910323:Int))) y4) ((4:Int))).bind fun y5=>
 (shlU (bitU .and (bitU .or (bitU .and y3 ((3689348814741910323:Int))) y4) ((1085102592571150095:Int))) ((4:Int))).bind fun y6=>
 (f146 ((⟨bitU .or (bitU .and y5 ((1085102592571150095:Int))) y6⟩:U64))).bind fun y8=>
 some (y8)
theorem en139:Enters Tryz.prog 139:=enters_of Tryz.func139 (by kernel_rfl) rfl
theorem wk139 {gI:Gh} {wI:World} {x0:U64}  {r:U64} (h:f139 x0=some r):Fn Tryz.prog 139 #[.int .u64 ((x0).n)] gI wI (fun _ _ v=>v=.int .u64 ((r).n)):=by
 unfold f139 at h
 refine fn_of_E Tryz.func139 rfl (Nat.le_of_ble_eq_true rfl) fun g0 hm hfr=>?_
 show E _ 26 none _ _ _ _ _
 refine E_seq (E_region (EL_at (.int .u64 (0)) rfl rfl ?_))
 refine EL_nil (thn_n (E_seq (E_region (EL_mw (.int .u64 ((x0).n)) rfl rfl ?_))))
 obtain ⟨y1,hy1,h⟩:=bsome h
 refine EL_p (.int .u64 (y1)) (P_shrU rfl rfl hy1) rfl ?_
 refine EL_p (.int .u64 (bitU .and y1 ((6148914691236517205:Int)))) (P_bitU (by simp) rfl rfl) rfl ?_
 refine EL_mw (.int .u64 ((x0).n)) rfl rfl ?_
 refine EL_p (.int .u64 (bitU .and ((x0).n) ((6148914691236517205:Int)))) (P_bitU (by simp) rfl rfl) rfl ?_
 obtain ⟨y2,hy2,h⟩:=bsome h
 refine EL_p (.int .u64 (y2)) (P_shlU rfl rfl hy2) rfl ?_
 refine EL_p (.int .u64 (bitU .or (bitU .and y1 ((6148914691236517205:Int))) y2)) (P_bitU (by simp) rfl rfl) rfl ?_
 refine EL_at (.int .u64 (bitU .or (bitU .and y1 ((6148914691236517205:Int))) y2)) rfl rfl ?_
 refine EL_nil (thn_n (E_seq (E_region (EL_mw (.int .u64 (bitU .or (bitU .and y1 ((6148914691236517205:Int))) y2)) rfl rfl ?_))))
 obtain ⟨y3,hy3,h⟩:=bsome h
 refine EL_p (.int .u64 (y3)) (P_shrU rfl rfl hy3) rfl ?_
 refine EL_p (.int .u64 (bitU .and y3 ((3689348814741910323:Int)))) (P_bitU (by simp) rfl rfl) rfl ?_
 refine EL_mw (.int .u64 (bitU .or (bitU .and y1 ((6148914691236517205:Int))) y2)) rfl rfl ?_
 refine EL_p (.int .u64 (bitU .and (bitU .or (bitU .and y1 ((6148914691236517205:Int))) y2) ((3689348814741910323:Int)))) (P_bitU (by simp) rfl rfl) rfl ?_
 obtain ⟨y4,o0,h⟩:=bsome h
 refine EL_p (.int .u64 (y4)) (P_shlU rfl rfl o0) rfl ?_
 refine EL_p (.int .u64 (bitU .or (bitU .and y3 ((3689348814741910323:Int))) y4)) (P_bitU (by simp) rfl rfl) rfl ?_
 refine EL_at (.int .u64 (bitU .or (bitU .and y3 ((3689348814741910323:Int))) y4)) rfl rfl ?_
 refine EL_nil (thn_n (E_seq (E_region (EL_mw (.int .u64 (bitU .or (bitU .and y3 ((3689348814741910323:Int))) y4)) rfl rfl ?_))))
 obtain ⟨y5,hy5,h⟩:=bsome h
 refine EL_p (.int .u64 (y5)) (P_shrU rfl rfl hy5) rfl ?_
 refine EL_p (.int .u64 (bitU .and y5 ((1085102592571150095:Int)))) (P_bitU (by simp) rfl rfl) rfl ?_
 refine EL_mw (.int .u64 (bitU .or (bitU .and y3 ((3689348814741910323:Int))) y4)) rfl rfl ?_
 refine EL_p (.int .u64 (bitU .and (bitU .or (bitU .and y3 ((3689348814741910323:Int))) y4) ((1085102592571150095:Int)))) (P_bitU (by simp) rfl rfl) rfl ?_
 obtain ⟨y6,l5,h⟩:=bsome h
 refine EL_p (.int .u64 (y6)) (P_shlU rfl rfl l5) rfl ?_
 refine EL_p (.int .u64 (bitU .or (bitU .and y5 ((1085102592571150095:Int))) y6)) (P_bitU (by simp) rfl rfl) rfl ?_
 refine EL_at (.int .u64 (bitU .or (bitU .and y5 ((1085102592571150095:Int))) y6)) rfl rfl ?_
 refine EL_nil (thn_n (E_seq (E_region (EL_mw (.int .u64 (bitU .or (bitU .and y5 ((1085102592571150095:Int))) y6)) rfl rfl ?_))))
 obtain ⟨y8,t5,h⟩:=bsome h
 refine EL_do .plain rfl (D_call (g:=g0) (vs:=[.int .u64 (bitU .or (bitU .and y5 ((1085102592571150095:Int))) y6)]) en146 (.cons rfl .nil) (wk146  t5) fun g7 w7_ v7 hs hr=>?_)
 have hfr:=hfr.ext hs
 subst hr
 refine EL_at (.int .u64 ((y8).n)) rfl rfl ?_
 refine EL_nil (thn_n (E_ret ?_))
 obtain rfl:=sinj h
 exact end1 rfl rfl (show _=.int .u64 ((y8).n) from rfl) ⟨_,hfr,rfl⟩
def f24 (x0:Int) (x1:Int) (x2:List Int):Option (Bool):=
 (f56 x2 ((fun a0=>f57 a0 x0 x1))).bind fun y4=>
 some ((!y4))
theorem en24:Enters Tryz.prog 24:=enters_of Tryz.func24 (by kernel_rfl) rfl
theorem wk24 {gI:Gh} {wI:World} {x0:Int} {x1:Int} {x2:List Int} {up2:Value} (rp2:RV gI.m wI x2 up2) {r:Bool} (h:f24 x0 x1 x2=some r):Fn Tryz.prog 24 #[.int .i64 (x0),.int .i64 (x1),up2] gI wI (fun _ _ v=>v=.bool (r)):=by
 unfold f24 at h
 refine fn_of_E Tryz.func24 rfl (Nat.le_of_ble_eq_true rfl) fun g0 hm hfr=>?_
 have rp2:RV g0.m wI x2 up2:=hm ▸ rp2
 show E _ 11 none _ _ _ _ _
 refine E_seq (E_region (EL_do .plain rfl (D_box (g:=g0) rfl (RV_int.2 rfl) fun g1 w1 p1 hs q1=>?_)))
 have hfr:=hfr.ext hs
 have rp2:=rp2.ext hs
 refine EL_do .plain rfl (D_box (g:=g1) rfl (RV_int.2 rfl) fun g2 w2 p2 hs q2=>?_)
 have hfr:=hfr.ext hs
 have rp2:=rp2.ext hs
 have q1:=q1.ext hs
 refine EL_at (.bool false) rfl rfl ?_
 refine EL_nil (thn_n (E_seq (E_region (EL_mw up2 rfl rfl ?_))))
 refine EL_p ((.func (.func 57) #[] #[p1,p2])) (P_makeFunc (capf_0_2 (show ev _ _=p1 from rfl) (show ev _ _=p2 from rfl))) rfl ?_
 obtain ⟨y4,o0,h⟩:=bsome h
 refine EL_do .plain rfl (D_call (g:=g2) (vs:=[up2,(.func (.func 57) #[] #[p1,p2])]) en56 (.cons rfl (.cons rfl .nil)) (wk56 rp2 ⟨57,#[],#[p1,p2],rfl,en57,fun g' w' hch a0 b0 r hu0 hr=>by obtain rfl:=RV_int.1 hu0; exact Fn.mono (wk57  (q1.ch hch) (q2.ch hch) hr) fun _ _ _ h=>RV_bool.2 h⟩ o0) fun g3 w3_ v3 hs hr=>?_)
 have hfr:=hfr.ext hs
 subst hr
 refine EL_p (.bool (!y4)) (P_not rfl) rfl ?_
 refine EL_at (.bool (!y4)) rfl rfl ?_
 refine EL_nil (thn_n (E_ret ?_))
 obtain rfl:=sinj h
 exact end1 rfl rfl (show _=.bool (!y4) from rfl) ⟨_,hfr,rfl⟩
def f27 (x0:List Int):Option (Bool):=
 (f24 ((0:Int)) ((10000000000:Int)) x0).bind fun y2=>
 some (y2)
theorem en27:Enters Tryz.prog 27:=enters_of Tryz.func27 (by kernel_rfl) rfl
theorem wk27 {gI:Gh} {wI:World} {x0:List Int} {up0:Value} (rp0:RV gI.m wI x0 up0) {r:Bool} (h:f27 x0=some r):Fn Tryz.prog 27 #[up0] gI wI (fun _ _ v=>v=.bool (r)):=by
 unfold f27 at h
 refine fn_of_E Tryz.func27 rfl (Nat.le_of_ble_eq_true rfl) fun g0 hm hfr=>?_
 have rp0:RV g0.m wI x0 up0:=hm ▸ rp0
 show E _ 5 none _ _ _ _ _
 refine E_seq (E_region (EL_at (.bool false) rfl rfl ?_))
 refine EL_nil (thn_n (E_seq (E_region (EL_mw up0 rfl rfl ?_))))
 obtain ⟨y2,hy2,h⟩:=bsome h
 refine EL_do .plain rfl (D_call (g:=g0) (vs:=[.int .i64 (0),.int .i64 (10000000000),up0]) en24 (.cons rfl (.cons rfl (.cons rfl .nil))) (wk24 rp0 hy2) fun g1 w1_ v1 hs hr=>?_)
 have hfr:=hfr.ext hs
 subst hr
 refine EL_at (.bool (y2)) rfl rfl ?_
 refine EL_nil (thn_n (E_ret ?_))
 obtain rfl:=sinj h
 exact end1 rfl rfl (show _=.bool (y2) from rfl) ⟨_,hfr,rfl⟩
def f33 (x0:BookCloth):Option (Bool):=
 Option.bind (α:=Bool) (
  (f69 ((0:Int)) ((65535:Int)) (([(x0).Day]:List Int))).bind fun n8=>
  bif n8 then
   (f69 ((0:Int)) ((15:Int)) (([(x0).Loom]:List Int))).bind fun g8=>
   bif g8 then
    (f69 ((0:Int)) ((7:Int)) (([(x0).Chain,(x0).Tie]:List Int))).bind fun l8=>
    bif l8 then
     (f69 ((1:Int)) ((60:Int)) (([(x0).Picks]:List Int))).bind fun v8=>
     some (v8)
    else
     some (false)
   else
    some (false)
  else
   some (false)
  ) fun i6=>
 some (i6)
theorem en33:Enters Tryz.prog 33:=enters_of Tryz.func33 (by kernel_rfl) rfl
theorem wk33 {gI:Gh} {wI:World} {x0:BookCloth} {up0:Value} (rp0:RV gI.m wI x0 up0) {r:Bool} (h:f33 x0=some r):Fn Tryz.prog 33 #[up0] gI wI (fun _ _ v=>v=.bool (r)):=by
 unfold f33 at h
 refine fn_of_E Tryz.func33 rfl (Nat.le_of_ble_eq_true rfl) fun g0 hm hfr=>?_
 have rp0:RV g0.m wI x0 up0:=hm ▸ rp0
 show E _ 27 none _ _ _ _ _
 refine E_seq (E_region (EL_do .plain rfl (D_box (g:=g0) rfl rp0 fun g1 w1 p1 hs q1=>?_)))
 have hfr:=hfr.ext hs
 refine EL_at (.bool false) rfl rfl ?_
 refine EL_nil (thn_n ?_)
 obtain ⟨i6,hx,h⟩:=bsome h
 refine E_join (fun e w=>∃ (g:Gh) ,Fr gI wI g w∧e 2=.bool (i6)) (fun Q' hQ=>?_) (fun zE sF hR=>?_)
 ·replace h := hx
  clear hx
  refine E_region (EL_p (fPtr p1 0) (P_fieldAddr at_63_0 rfl (PT.ptr q1)) rfl ?_)
  have yB:=PT_field (part_BookCloth_0).1 q1
  refine EL_do .plain rfl (D_load (g:=g1) Tryz.isAgg3 Tryz.sizeOf3 rfl yB fun tF zB=>?_)
  obtain rfl:=RV_int.1 zB
  refine EL_do .plain rfl (D_buildSlice (g:=g1) 3005 (xs:=([(x0).Day]:List Int)) (vs:=[.int .i64 ((x0).Day)]) Tryz.underlying25 Tryz.sizeOf3 Tryz.zeroValue3 rfl rfl (.cons rfl .nil) (RVs.cons (RV_int.2 rfl) RVs.nil) rfl rfl fun cC w29 uC hs o29 vC hxt hfl=>?_)
  have hfr:=hfr.stp hs
  have q1:=q1.stp hs
  obtain ⟨n8,mB,h⟩:=bsome h
  refine EL_do .plain rfl (D_call (g:=cC) (vs:=[.int .i64 (0),.int .i64 (65535),uC]) en69 (.cons rfl (.cons rfl (.cons rfl .nil))) (wk69 vC mB) fun n9 cF uF hs hr=>?_)
  have hfr:=hfr.ext hs
  have q1:=q1.ext hs
  subst hr
  refine EL_mw (.bool (n8)) rfl rfl ?_
  rcases csome h with ⟨l5,h⟩ | ⟨l5,h⟩
  ·refine EL_y (fPtr p1 1) (P_fieldAddr at_63_1 rfl (PT.ptr q1)) rfl rfl l5 rfl ?_
   have bD:=PT_field (part_BookCloth_1).1 q1
   refine EL_do (.yes2 rfl rfl l5) rfl (D_load (g:=n9) Tryz.isAgg3 Tryz.sizeOf3 rfl bD fun vF cD=>?_)
   obtain rfl:=RV_int.1 cD
   refine EL_do (.yes2 rfl rfl l5) rfl (D_buildSlice (g:=n9) 3010 (xs:=([(x0).Loom]:List Int)) (vs:=[.int .i64 ((x0).Loom)]) Tryz.underlying25 Tryz.sizeOf3 Tryz.zeroValue3 rfl rfl (.cons rfl .nil) (RVs.cons (RV_int.2 rfl) RVs.nil) rfl rfl fun lD xF nD hs o35 oD hxt hfl=>?_)
   have hfr:=hfr.stp hs
   have q1:=q1.stp hs
   obtain ⟨g8,nB,h⟩:=bsome h
   refine EL_do (.yes2 rfl rfl l5) rfl (D_call (g:=lD) (vs:=[.int .i64 (0),.int .i64 (15),nD]) en69 (.cons rfl (.cons rfl (.cons rfl .nil))) (wk69 oD nB) fun l9 dF yF hs hr=>?_)
   have hfr:=hfr.ext hs
   have q1:=q1.ext hs
   subst hr
   refine EL_p (.bool (g8)) (P_pick (b:=n8) rfl (pick_t l5 rfl)) rfl ?_
   refine EL_mw (.bool (g8)) rfl rfl ?_
   rcases csome h with ⟨o0,h⟩ | ⟨o0,h⟩
   ·refine EL_y (fPtr p1 2) (P_fieldAddr at_63_2 rfl (PT.ptr q1)) rfl rfl o0 rfl ?_
    have yD:=PT_field (part_BookCloth_2).1 q1
    refine EL_do (.yes2 rfl rfl o0) rfl (D_load (g:=l9) Tryz.isAgg3 Tryz.sizeOf3 rfl yD fun aG zD=>?_)
    obtain rfl:=RV_int.1 zD
    refine EL_y (fPtr p1 3) (P_fieldAddr at_63_3 rfl (PT.ptr q1)) rfl rfl o0 rfl ?_
    have aE:=PT_field (part_BookCloth_3).1 q1
    refine EL_do (.yes2 rfl rfl o0) rfl (D_load (g:=l9) Tryz.isAgg3 Tryz.sizeOf3 rfl aE fun bG bE=>?_)
    obtain rfl:=RV_int.1 bE
    refine EL_do (.yes2 rfl rfl o0) rfl (D_buildSlice (g:=l9) 3018 (xs:=([(x0).Chain,(x0).Tie]:List Int)) (vs:=[.int .i64 ((x0).Chain),.int .i64 ((x0).Tie)]) Tryz.underlying25 Tryz.sizeOf3 Tryz.zeroValue3 rfl rfl (.cons rfl (.cons rfl .nil)) (RVs.cons (RV_int.2 rfl) (RVs.cons (RV_int.2 rfl) RVs.nil)) rfl rfl fun iE cG lE hs o43 mE hxt hfl=>?_)
    have hfr:=hfr.stp hs
    have q1:=q1.stp hs
    obtain ⟨l8,oB,h⟩:=bsome h
    refine EL_do (.yes2 rfl rfl o0) rfl (D_call (g:=iE) (vs:=[.int .i64 (0),.int .i64 (7),lE]) en69 (.cons rfl (.cons rfl (.cons rfl .nil))) (wk69 mE oB) fun aB eF eG hs hr=>?_)
    have hfr:=hfr.ext hs
    have q1:=q1.ext hs
    subst hr
    refine EL_p (.bool (l8)) (P_pick (b:=g8) rfl (pick_t o0 rfl)) rfl ?_
    refine EL_mw (.bool (l8)) rfl rfl ?_
    rcases csome h with ⟨t5,h⟩ | ⟨t5,h⟩
    ·refine EL_y (fPtr p1 4) (P_fieldAddr at_63_4 rfl (PT.ptr q1)) rfl rfl t5 rfl ?_
     have oE:=PT_field (part_BookCloth_4).1 q1
     refine EL_do (.yes2 rfl rfl t5) rfl (D_load (g:=aB) Tryz.isAgg3 Tryz.sizeOf3 rfl oE fun gG rE=>?_)
     obtain rfl:=RV_int.1 rE
     refine EL_do (.yes2 rfl rfl t5) rfl (D_buildSlice (g:=aB) 3024 (xs:=([(x0).Picks]:List Int)) (vs:=[.int .i64 ((x0).Picks)]) Tryz.underlying25 Tryz.sizeOf3 Tryz.zeroValue3 rfl rfl (.cons rfl .nil) (RVs.cons (RV_int.2 rfl) RVs.nil) rfl rfl fun uE iG vE hs o49 xE hxt hfl=>?_)
     have hfr:=hfr.stp hs
     obtain ⟨v8,vB,h⟩:=bsome h
     refine EL_do (.yes2 rfl rfl t5) rfl (D_call (g:=uE) (vs:=[.int .i64 (1),.int .i64 (60),vE]) en69 (.cons rfl (.cons rfl (.cons rfl .nil))) (wk69 xE vB) fun yE rF jG hs hr=>?_)
     have hfr:=hfr.ext hs
     subst hr
     refine EL_p (.bool (v8)) (P_pick (b:=l8) rfl (pick_t t5 rfl)) rfl ?_
     refine EL_at (.bool (v8)) rfl rfl ?_
     refine EL_nil ?_
     obtain rfl:=sinj h
     exact hQ _ _ ⟨yE,hfr,rfl⟩
    ·refine EL_s rfl rfl t5 rfl rfl ?_
     iterate 3 refine EL_s rfl rfl t5 rfl rfl ?_
     refine EL_p (.bool false) (P_pick (b:=l8) rfl (pick_f t5 rfl)) rfl ?_
     refine EL_at (.bool false) rfl rfl ?_
     refine EL_nil ?_
     obtain rfl:=sinj h
     exact hQ _ _ ⟨aB,hfr,rfl⟩
   ·refine EL_s rfl rfl o0 rfl rfl ?_
    iterate 5 refine EL_s rfl rfl o0 rfl rfl ?_
    refine EL_p (.bool false) (P_pick (b:=g8) rfl (pick_f o0 rfl)) rfl ?_
    refine EL_dead 6 rfl ?_
    refine EL_at (.bool false) rfl rfl ?_
    refine EL_nil ?_
    obtain rfl:=sinj h
    exact hQ _ _ ⟨l9,hfr,rfl⟩
  ·refine EL_s rfl rfl l5 rfl rfl ?_
   iterate 3 refine EL_s rfl rfl l5 rfl rfl ?_
   refine EL_p (.bool false) (P_pick (b:=n8) rfl (pick_f l5 rfl)) rfl ?_
   refine EL_dead 14 rfl ?_
   refine EL_at (.bool false) rfl rfl ?_
   refine EL_nil ?_
   obtain rfl:=sinj h
   exact hQ _ _ ⟨n9,hfr,rfl⟩
 ·clear hx
  obtain ⟨kG,hfr,lB⟩:=hR
  refine E_ret ?_
  obtain rfl:=sinj h
  exact end1 rfl rfl (show _=.bool (i6) from lB) ⟨_,hfr,rfl⟩
def f34 (x0:BookCloth) (x1:BookCloth):Option (Int):=
 (f71 ((x0).Day) ((x1).Day)).bind fun y8=>
 (f71 ((x0).Loom) ((x1).Loom)).bind fun o0=>
 (f70 (([y8,o0]:List Int))).bind fun t5=>
 some (t5)
theorem en34:Enters Tryz.prog 34:=enters_of Tryz.func34 (by kernel_rfl) rfl
theorem wk34 {gI:Gh} {wI:World} {x0:BookCloth} {x1:BookCloth} {up0:Value} (rp0:RV gI.m wI x0 up0) {up1:Value} (rp1:RV gI.m wI x1 up1) {r:Int} (h:f34 x0 x1=some r):Fn Tryz.prog 34 #[up0,up1] gI wI (fun _ _ v=>v=.int .i64 (r)):=by
 unfold f34 at h
 refine fn_of_E Tryz.func34 rfl (Nat.le_of_ble_eq_true rfl) fun g0 hm hfr=>?_
 have rp0:RV g0.m wI x0 up0:=hm ▸ rp0
 have rp1:RV g0.m wI x1 up1:=hm ▸ rp1
 show E _ 17 none _ _ _ _ _
 refine E_seq (E_region (EL_do .plain rfl (D_box (g:=g0) rfl rp0 fun g1 w1 p1 hs q1=>?_)))
 have hfr:=hfr.ext hs
 have rp1:=rp1.ext hs
 refine EL_do .plain rfl (D_box (g:=g1) rfl rp1 fun g2 w2 p2 hs q2=>?_)
 have hfr:=hfr.ext hs
 have q1:=q1.ext hs
 refine EL_at (.int .i64 (0)) rfl rfl ?_
 refine EL_nil (thn_n (E_seq ?_))
 have q3:=PT_field (part_BookCloth_0).1 q1
 refine L_load (x:=.tmp 5) Tryz.isAgg3 Tryz.sizeOf3 q3 fun v4 r4 n8=>?_
 obtain rfl:=RV_int.1 r4
 have q5:=PT_field (part_BookCloth_0).1 q2
 refine L_load (x:=.tmp 7) Tryz.isAgg3 Tryz.sizeOf3 q5 fun v6 r6 v8=>?_
 obtain rfl:=RV_int.1 r6
 obtain ⟨y8,l9,h⟩:=bsome h
 have q9:=PT_field (part_BookCloth_1).1 q1
 refine L_load (x:=.tmp 10) Tryz.isAgg3 Tryz.sizeOf3 q9 fun mB n9 i6=>?_
 obtain rfl:=RV_int.1 n9
 have aB:=PT_field (part_BookCloth_1).1 q2
 refine L_load (x:=.tmp 12) Tryz.isAgg3 Tryz.sizeOf3 aB fun nB lB hl12=>?_
 obtain rfl:=RV_int.1 lB
 obtain ⟨o0,g8,h⟩:=bsome h
 obtain ⟨t5,l8,h⟩:=bsome h
 refine E_drawL (g:=g2) (n:=13) [(4,(fun v g w=>v=.int .i64 (y8))),(9,(fun v g w=>v=.int .i64 (o0))),(10,(fun v g w=>RV g.m w ([y8,o0]:List Int) v∧OS 3015 g w 3 ([y8,o0]:List Int) v∧FullV v)),(11,(fun v g w=>v=.int .i64 (t5)))] [0,1,2,3,4,5,6,7,8,9,10,11,12] rfl mixed (by kernel_rfl) (⟨fun _=>up_eq _,fun _=>up_eq _,fun _=>up_and up_rv (up_and up_os (up_eq _)),fun _=>up_eq _,trivial⟩) ?_
 refine L_p (fPtr p1 0) rfl rfl (P_fieldAddr at_63_0 rfl (PT.ptr q1)) ?_
 refine L_ld (c:=.int .i64 ((x0).Day)) rfl rfl .plain (fun _ _ h=>h.ch) n8 rfl ?_
 refine L_p (fPtr p2 0) rfl rfl (P_fieldAddr at_63_0 rfl (PT.ptr q2)) ?_
 refine L_ld (c:=.int .i64 ((x1).Day)) rfl rfl .plain (fun _ _ h=>h.ch) v8 rfl ?_
 refine L_do (φ:=fun v g w=>v=.int .i64 (y8)) rfl rfl .plain (fun g w hd=>D_call (g:=g) (vs:=[.int .i64 ((x0).Day),.int .i64 ((x1).Day)]) en71 (.cons rfl (.cons rfl .nil)) (wk71  l9) fun g' w' v hs hr=>⟨g',hs,hr⟩) (fun v7 hv=>?_)
 obtain ⟨_,_,_,rfl⟩:=hv
 refine L_p (fPtr p1 1) rfl rfl (P_fieldAddr at_63_1 rfl (PT.ptr q1)) ?_
 refine L_ld (c:=.int .i64 ((x0).Loom)) rfl rfl .plain (fun _ _ h=>h.ch) i6 rfl ?_
 refine L_p (fPtr p2 1) rfl rfl (P_fieldAddr at_63_1 rfl (PT.ptr q2)) ?_
 refine L_ld (c:=.int .i64 ((x1).Loom)) rfl rfl .plain (fun _ _ h=>h.ch) hl12 rfl ?_
 refine L_do (φ:=fun v g w=>v=.int .i64 (o0)) rfl rfl .plain (fun g w hd=>D_call (g:=g) (vs:=[.int .i64 ((x0).Loom),.int .i64 ((x1).Loom)]) en71 (.cons rfl (.cons rfl .nil)) (wk71  g8) fun g' w' v hs hr=>⟨g',hs,hr⟩) (fun oB hv=>?_)
 obtain ⟨_,_,_,rfl⟩:=hv
 refine L_do (φ:=fun v g w=>RV g.m w ([y8,o0]:List Int) v∧OS 3015 g w 3 ([y8,o0]:List Int) v∧FullV v) rfl rfl .plain (fun g w hd=>D_buildSlice (g:=g) 3015 (xs:=([y8,o0]:List Int)) (vs:=[.int .i64 (y8),.int .i64 (o0)]) Tryz.underlying25 Tryz.sizeOf3 Tryz.zeroValue3 rfl rfl (.cons rfl (.cons rfl .nil)) (RVs.cons (RV_int.2 rfl) (RVs.cons (RV_int.2 rfl) RVs.nil)) rfl rfl fun g' w' v hs o r hxt hfl=>⟨g',hxt,r,o,hfl⟩) (fun l5 hv=>?_)
 clear hv
 refine L_do (φ:=fun v g w=>v=.int .i64 (t5)) rfl rfl .plain (fun g w hd=>D_call (g:=g) (vs:=[l5]) en70 (.cons rfl .nil) (wk70 (word (A:=fun g w=>RV g.m w ([y8,o0]:List Int) l5∧OS 3015 g w 3 ([y8,o0]:List Int) l5∧FullV l5) 10 rfl rfl (deps_of hd)).1 l8) fun g' w' v hs hr=>⟨g',hs,hr⟩) (fun vB hv=>?_)
 obtain ⟨_,_,_,rfl⟩:=hv
 refine L_p (.int .i64 (t5)) rfl rfl (P_assign rfl) ?_
 refine L_nil fun yB zB hall=>?_
 have hs:=hall.1
 have hfr:=hfr.ext hs
 have cC:=(word_all (A:=fun g w=>RV g.m w ([y8,o0]:List Int) l5∧OS 3015 g w 3 ([y8,o0]:List Int) l5∧FullV l5) 10 rfl hall).1
 have o34:=(word_all (A:=fun g w=>RV g.m w ([y8,o0]:List Int) l5∧OS 3015 g w 3 ([y8,o0]:List Int) l5∧FullV l5) 10 rfl hall).2.1
 clear hs hall
 refine EL_nil (thn_n (E_ret ?_))
 obtain rfl:=sinj h
 exact end1 rfl rfl (show _=.int .i64 (t5) from rfl) ⟨_,hfr,rfl⟩
def f37 (x0:TieHarness):Option (Int):=
 jn (σ:=Unit) (fun _=>
  some ((0:Int))
  ) fun v8=>
 (f73 ((1:Int)) ((24:Int)) (([(x0).Hooks]:List Int))).bind fun l8=>
 bif (!l8) then
  some ((2:Int))
 else
  bif (decide ((((x0).Warps).length : Int) > (96 : Int))) then
   some ((5:Int))
  else
   bif ((((x0).Warps).length : Int) == (0 : Int)) then
    some ((7:Int))
   else
    (f73 ((0:Int)) ((w64 ((x0).Hooks - (1:Int)))) ((x0).Warps)).bind fun n8=>
    bif (!n8) then
     some ((2:Int))
    else
     v8 ()
theorem en37:Enters Tryz.prog 37:=enters_of Tryz.func37 (by kernel_rfl) rfl
theorem wk37 {gI:Gh} {wI:World} {x0:TieHarness} {up0:Value} (rp0:RV gI.m wI x0 up0) {r:Int} (h:f37 x0=some r):Fn Tryz.prog 37 #[up0] gI wI (fun _ _ v=>v=.int .i64 (r)):=by
 unfold f37 at h
 refine fn_of_E Tryz.func37 rfl (Nat.le_of_ble_eq_true rfl) fun g0 hm hfr=>?_
 have rp0:RV g0.m wI x0 up0:=hm ▸ rp0
 show E _ 27 none _ _ _ _ _
 refine E_seq (E_region (EL_do .plain rfl (D_box (g:=g0) rfl rp0 fun g1 w1 p1 hs q1=>?_)))
 have hfr:=hfr.ext hs
 refine EL_at (.int .i64 (0)) rfl rfl ?_
 refine EL_nil (thn_n (E_joinC h (fun (s:Unit) e w=>∃ (g:Gh) ,Fr gI wI g w) (fun X21 v8 l9 h=>?_) ?_))
 ·refine E_block ?_
  refine E_seq (E_region (EL_p (fPtr p1 0) (P_fieldAddr at_27_0 rfl (PT.ptr q1)) rfl ?_))
  have lB:=PT_field (part_TieHarness_0).1 q1
  refine EL_do .plain rfl (D_load (g:=g1) Tryz.isAgg3 Tryz.sizeOf3 rfl lB fun bE mB=>?_)
  obtain rfl:=RV_int.1 mB
  refine EL_do .plain rfl (D_buildSlice (g:=g1) 3006 (xs:=([(x0).Hooks]:List Int)) (vs:=[.int .i64 ((x0).Hooks)]) Tryz.underlying25 Tryz.sizeOf3 Tryz.zeroValue3 rfl rfl (.cons rfl .nil) (RVs.cons (RV_int.2 rfl) RVs.nil) rfl rfl fun nB iE oB hs o24 vB hxt hfl=>?_)
  have hfr:=hfr.stp hs
  have q1:=q1.stp hs
  obtain ⟨l8,n9,h⟩:=bsome h
  refine EL_do .plain rfl (D_call (g:=nB) (vs:=[.int .i64 (1),.int .i64 (24),oB]) en73 (.cons rfl (.cons rfl (.cons rfl .nil))) (wk73 vB n9) fun o0 yD lE hs hr=>?_)
  have hfr:=hfr.ext hs
  have q1:=q1.ext hs
  subst hr
  refine EL_p (.bool (!l8)) (P_not rfl) rfl ?_
  refine EL_at (.bool (!l8)) rfl rfl ?_
  refine EL_nil (thn_n ?_)
  rcases csome h with ⟨l5,h⟩ | ⟨l5,h⟩
  ·refine E_ct l5 rfl ?_
   refine E_seq (E_region (EL_at (.int .i64 (2)) rfl rfl ?_))
   refine EL_nil (thn_n (E_ret (blk_r ?_)))
   refine thn_r ?_
   obtain rfl:=sinj h
   exact end1 rfl rfl (show _=.int .i64 (2) from rfl) ⟨_,hfr,rfl⟩
  ·refine E_cf l5 rfl ?_
   refine E_seq (E_region (EL_p (fPtr p1 1) (P_fieldAddr at_27_1 rfl (PT.ptr q1)) rfl ?_))
   have yB:=PT_field (part_TieHarness_1).1 q1
   refine EL_do .plain rfl (D_load (g:=o0) Tryz.isAgg25 Tryz.sizeOf25 rfl yB fun mE zB=>?_)
   refine EL_p (.int .i64 (((x0).Warps).length:Int)) (P_len Tryz.underlying25 rfl zB) rfl ?_
   refine EL_p (.bool ((decide ((((x0).Warps).length:Int) > (96:Int))))) (P_int rfl rfl rfl) rfl ?_
   refine EL_p (.bool ((decide ((((x0).Warps).length:Int) > (96:Int))))) (P_assign rfl) rfl ?_
   refine EL_nil (thn_n ?_)
   rcases csome h with ⟨t5,h⟩ | ⟨t5,h⟩
   ·refine E_ct t5 rfl ?_
    refine E_seq (E_region (EL_at (.int .i64 (5)) rfl rfl ?_))
    refine EL_nil (thn_n (E_ret (blk_r ?_)))
    refine thn_r ?_
    obtain rfl:=sinj h
    exact end1 rfl rfl (show _=.int .i64 (5) from rfl) ⟨_,hfr,rfl⟩
   ·refine E_cf t5 rfl ?_
    refine E_seq (E_region (EL_p (fPtr p1 1) (P_fieldAddr at_27_1 rfl (PT.ptr q1)) rfl ?_))
    have cC:=PT_field (part_TieHarness_1).1 q1
    refine EL_do .plain rfl (D_load (g:=o0) Tryz.isAgg25 Tryz.sizeOf25 rfl cC fun oE uC=>?_)
    refine EL_p (.int .i64 (((x0).Warps).length:Int)) (P_len Tryz.underlying25 rfl uC) rfl ?_
    refine EL_in (.bool (((((x0).Warps).length:Int) == (0:Int)))) rfl rfl rfl rfl ?_
    refine EL_at (.bool (((((x0).Warps).length:Int) == (0:Int)))) rfl rfl ?_
    refine EL_nil (thn_n ?_)
    rcases csome h with ⟨i6,h⟩ | ⟨i6,h⟩
    ·refine E_ct i6 rfl ?_
     refine E_seq (E_region (EL_at (.int .i64 (7)) rfl rfl ?_))
     refine EL_nil (thn_n (E_ret (blk_r ?_)))
     refine thn_r ?_
     obtain rfl:=sinj h
     exact end1 rfl rfl (show _=.int .i64 (7) from rfl) ⟨_,hfr,rfl⟩
    ·refine E_cf i6 rfl ?_
     refine E_seq (E_region (EL_p (fPtr p1 0) (P_fieldAddr at_27_0 rfl (PT.ptr q1)) rfl ?_))
     have vC:=PT_field (part_TieHarness_0).1 q1
     refine EL_do .plain rfl (D_load (g:=o0) Tryz.isAgg3 Tryz.sizeOf3 rfl vC fun rE bD=>?_)
     obtain rfl:=RV_int.1 bD
     refine EL_in (.int .i64 ((w64 ((x0).Hooks - (1:Int))))) rfl rfl rfl rfl ?_
     refine EL_p (fPtr p1 1) (P_fieldAddr at_27_1 rfl (PT.ptr q1)) rfl ?_
     have cD:=PT_field (part_TieHarness_1).1 q1
     refine EL_do .plain rfl (D_load (g:=o0) Tryz.isAgg25 Tryz.sizeOf25 rfl cD fun lD nD=>?_)
     obtain ⟨n8,aB,h⟩:=bsome h
     refine EL_do .plain rfl (D_call (g:=o0) (vs:=[.int .i64 (0),.int .i64 ((w64 ((x0).Hooks - (1:Int)))),lD]) en73 (.cons rfl (.cons rfl (.cons rfl .nil))) (wk73 nD aB) fun oD zD uE hs hr=>?_)
     have hfr:=hfr.ext hs
     subst hr
     refine EL_p (.bool (!n8)) (P_not rfl) rfl ?_
     refine EL_at (.bool (!n8)) rfl rfl ?_
     refine EL_nil (thn_n ?_)
     rcases csome h with ⟨g8,h⟩ | ⟨g8,h⟩
     ·refine E_ct g8 rfl ?_
      refine E_seq (E_region (EL_at (.int .i64 (2)) rfl rfl ?_))
      refine EL_nil (thn_n (E_ret (blk_r ?_)))
      refine thn_r ?_
      obtain rfl:=sinj h
      exact end1 rfl rfl (show _=.int .i64 (2) from rfl) ⟨_,hfr,rfl⟩
     ·refine E_cf g8 rfl ?_
      exact E_skip (blk_n (thn_n (l9 () _ _ ⟨oD,hfr⟩ h)))
 ·rintro _ aE vE ⟨xE, hfr⟩ h
  refine E_seq (E_region (EL_at (.int .i64 (0)) rfl rfl ?_))
  refine EL_nil (thn_n (E_ret ?_))
  obtain rfl:=sinj h
  exact end1 rfl rfl (show _=.int .i64 (0) from rfl) ⟨_,hfr,rfl⟩
def f48 (x0:List BookCloth) (x1:BookCloth→BookCloth→Option Int):Option ((List BookCloth)):=
 (f85 ((wu64 ((x0).length:Int)))).bind fun y2=>
 (f84 big x0 ((0:Int)) (((x0).length:Int)) y2 x1).bind fun y4=>
 some (y4)
theorem en48:Enters Tryz.prog 48:=enters_of Tryz.func48 (by kernel_rfl) rfl
theorem wk48 {iI:Nat} {gI:Gh} {wI:World} {x0:List BookCloth} {x1:BookCloth→BookCloth→Option Int} {up0:Value} (mp0:OM iI gI wI 63 x0 up0) {up1:Value} (rp1:FnV2 Tryz.prog x1 up1 gI wI) {r:(List BookCloth)} (h:f48 x0 x1=some r):FnM Tryz.prog 48 #[up0,up1] iI gI wI (fun g w v=>v=.tuple #[]∧OM iI g w 63 r up0):=by
 unfold f48 at h
 refine fnM_of_E Tryz.func48 rfl (Nat.le_of_ble_eq_true rfl) fun g0 hm hfr=>?_
 have o0:=mp0
 replace mp0:=mp0.enter
 rw [← hm] at mp0
 replace hm:g0.m=gI.m:=by rw [hm]
 obtain ⟨ff1,fa1,fc1,rfl,fen1,fcl1⟩:=rp1
 show E _ 14 none _ _ _ _ _
 refine E_seq (E_region (EL_mw up0 rfl rfl ?_))
 refine EL_p (.int .i64 ((x0).length:Int)) (P_lenM Tryz.underlying33 rfl mp0) rfl ?_
 refine EL_at (.int .i64 ((x0).length:Int)) rfl rfl ?_
 refine EL_nil (thn_n (E_region (EL_mw up0 rfl rfl ?_)))
 refine EL_mw (.int .i64 ((x0).length:Int)) rfl rfl ?_
 refine EL_mw (.int .i64 ((x0).length:Int)) rfl rfl ?_
 refine EL_p (.int .u64 (wu64 ((x0).length:Int))) (P_intu64 Tryz.underlying3 Tryz.underlying71 rfl) rfl ?_
 obtain ⟨y2,hy2,h⟩:=bsome h
 refine EL_do .plain rfl (D_call (g:=g0) (vs:=[.int .u64 (wu64 ((x0).length:Int))]) en85 (.cons rfl .nil) (wk85  hy2) fun g1 w1_ v1 hs hr=>?_)
 have hfr:=hfr.ext hs
 have mp0:=mp0.ext hs
 subst hr
 refine EL_mw ((.func (.func ff1) fa1 fc1)) rfl rfl ?_
 obtain ⟨y4,l5,h⟩:=bsome h
 refine EL_do .plain rfl (D_callM (g:=g1) (i:=1) (vs:=[up0,.int .i64 (0),.int .i64 ((x0).length:Int),.int .i64 (y2),(.func (.func ff1) fa1 fc1)]) en84 (.cons rfl (.cons rfl (.cons rfl (.cons rfl (.cons rfl .nil))))) (wk84 big mp0 (FnV2.ch ⟨_,_,_,rfl,fen1,fcl1⟩ hfr.ch) l5) fun g3 w3_ v3 hs hr=>?_)
 obtain ⟨hrv,b3⟩:=hr
 have hfr:=hfr.stp hs
 subst hrv
 refine EL_nil ?_
 obtain rfl:=sinj h
 exact end0n rfl rfl ⟨_,hfr,rfl,o0.back b3⟩
def f50 (x0:List Int) (x1:Int):Option ((List Int)):=
 Option.bind (α:=Unit) (
  bif (decide (x1 < (0 : Int))) then
   none
  else
   some ()
  ) fun (_:Unit)=>
 (f89 ((⟨(wu64 ((x0).length:Int))⟩:U64)) ((⟨(wu64 x1)⟩:U64))).bind fun y5=>
 Option.bind (α:=Unit) (
  Option.bind (α:=Bool) (
   bif (decide ((y5.1).n > (0 : Int))) then
    some (true)
   else
    some ((decide ((y5.2).n > (9223372036854775807:Int))))
   ) fun i6=>
  bif i6 then
   none
  else
   some ()
  ) fun (_:Unit)=>
 (mks 8 (0:Int) ((w64 ((y5.2).n)))).bind fun oB=>
 Option.bind (α:=(List Int)) (
  lp (σ:=(List Int) × Int) (fun bE (l5,o0)=>
   jn (σ:=Unit) (fun _=>
    (cut l5 o0 ((l5).length:Int)).bind fun n8=>
    (cut l5 0 o0).bind fun y40=>
    bE ((cpy l5 o0 n8 y40),(w64 (o0 + ((min (y40).length (n8).length:Nat):Int))))
    ) fun k33=>
   bif (decide (o0 < ((l5).length : Int))) then
    k33 ()
   else
    some (l5)
   ) big ((cpy oB 0 oB x0),((min (x0).length (oB).length:Nat):Int))
  ) fun l9=>
 some (l9)
theorem en50:Enters Tryz.prog 50:=enters_of Tryz.func50 (by kernel_rfl) rfl
theorem wk50 {gI:Gh} {wI:World} {x0:List Int} {x1:Int} {up0:Value} (rp0:RV gI.m wI x0 up0) {r:(List Int)} (h:f50 x0 x1=some r):Fn Tryz.prog 50 #[up0,.int .i64 (x1)] gI wI (fun m w v=>RV m w (r) v):=by
 unfold f50 at h
 refine fn_of_E Tryz.func50 rfl (Nat.le_of_ble_eq_true rfl) fun g0 hm hfr=>?_
 have rp0:RV g0.m wI x0 up0:=hm ▸ rp0
 show E _ 48 none _ _ _ _ _
 refine E_seq (E_region (EL_at (.slice none 0 0) rfl rfl ?_))
 refine EL_nil (thn_n ?_)
 obtain ⟨_,hx,h⟩:=bsome h
 refine E_join (fun e w=>∃ (g:Gh) ,Fr gI wI g w∧e 0=up0∧RV g.m w (x0:List Int) up0∧e 1=.int .i64 (x1)) (fun Q' hQ=>?_) (fun yF w3 hR=>?_)
 ·replace h := hx
  clear hx
  refine E_seq (E_region (EL_mw (.int .i64 (x1)) rfl rfl ?_))
  refine EL_in (.bool ((decide (x1 < (0:Int))))) rfl rfl rfl rfl ?_
  refine EL_nil (thn_n ?_)
  rcases csome h with ⟨hc2,h⟩ | ⟨hc2,h⟩
  ·refine E_ct hc2 rfl ?_
   refine E_region ?_
   cases h
  ·refine E_cf hc2 rfl ?_
   refine E_skip ?_
   obtain rfl:=sinj h
   exact hQ _ _ ⟨g0,hfr,rfl,rp0,rfl⟩
 ·clear hx
  obtain ⟨g3,hfr,yB,v8,mE⟩:=hR
  refine E_seq (E_region (EL_mv yB rfl ?_))
  refine EL_p (.int .i64 ((x0).length:Int)) (P_len Tryz.underlying25 rfl v8) rfl ?_
  refine EL_p (.int .u64 (wu64 ((x0).length:Int))) (P_intu64 Tryz.underlying3 Tryz.underlying71 rfl) rfl ?_
  refine EL_mv mE rfl ?_
  refine EL_p (.int .u64 (wu64 x1)) (P_intu64 Tryz.underlying3 Tryz.underlying71 rfl) rfl ?_
  obtain ⟨y5,hy5,h⟩:=bsome h
  refine EL_do .plain rfl (D_call (g:=g3) (vs:=[.int .u64 (wu64 ((x0).length:Int)),.int .u64 (wu64 x1)]) en89 (.cons rfl (.cons rfl .nil)) (wk89  hy5) fun g4 w4_ v4 hs hr=>?_)
  have hfr:=hfr.ext hs
  have v8:=v8.ext hs
  obtain ⟨eF,rF,rfl,rfl,rfl⟩:=hr
  refine EL_mw (.tuple #[.int .u64 ((y5.1).n),.int .u64 ((y5.2).n)]) rfl rfl ?_
  refine EL_p (.int .u64 ((y5.1).n)) (P_extract rfl rfl) rfl ?_
  refine EL_p (.int .u64 ((y5.2).n)) (P_extract rfl rfl) rfl ?_
  refine EL_at (.int .u64 ((y5.1).n)) rfl rfl ?_
  refine EL_at (.int .u64 ((y5.2).n)) rfl rfl ?_
  refine EL_nil (thn_n ?_)
  obtain ⟨_,hx,h⟩:=bsome h
  refine E_join (fun e w=>∃ (g:Gh) ,Fr gI wI g w∧e 0=up0∧RV g.m w (x0:List Int) up0∧e 6=.int .u64 ((y5.2).n)) (fun Q' hQ=>?_) (fun sF aG hR=>?_)
  ·replace h := hx
   clear hx
   obtain ⟨i6,hx,h⟩:=bsome h
   refine E_join (fun e w=>∃ (g:Gh) ,Fr gI wI g w∧e 0=up0∧RV g.m w (x0:List Int) up0∧e 6=.int .u64 ((y5.2).n)∧e 26=.bool (i6)) (fun Q' hQ=>?_) (fun tF bG hR=>?_)
   ·replace h := hx
    clear hx
    refine E_region (EL_mw (.int .u64 ((y5.1).n)) rfl rfl ?_)
    refine EL_p (.bool (decide ((y5.1).n > (0:Int)))) (P_u64cmp rfl rfl rfl) rfl ?_
    refine EL_mw (.bool (decide ((y5.1).n > (0:Int)))) rfl rfl ?_
    rcases csome h with ⟨g8,h⟩ | ⟨g8,h⟩
    ·refine EL_s rfl rfl g8 rfl rfl ?_
     refine EL_s rfl rfl g8 rfl rfl ?_
     refine EL_p (.bool true) (P_pick (b:=(decide ((y5.1).n > (0:Int)))) rfl (pick_t g8 rfl)) rfl ?_
     refine EL_nil ?_
     obtain rfl:=sinj h
     exact hQ _ _ ⟨g4,hfr,yB,v8,rfl,rfl⟩
    ·refine EL_y (.int .u64 ((y5.2).n)) (P_move rfl) rfl rfl g8 rfl ?_
     refine EL_y (.bool (decide ((y5.2).n > (9223372036854775807:Int)))) (P_u64cmp rfl rfl rfl) rfl rfl g8 rfl ?_
     refine EL_p (.bool (decide ((y5.2).n > (9223372036854775807:Int)))) (P_pick (b:=(decide ((y5.1).n > (0:Int)))) rfl (pick_f g8 rfl)) rfl ?_
     refine EL_nil ?_
     obtain rfl:=sinj h
     exact hQ _ _ ⟨g4,hfr,yB,v8,rfl,rfl⟩
   ·clear hx
    obtain ⟨vE,hfr,cD,lD,nD,vB⟩:=hR
    rcases csome h with ⟨zB,h⟩ | ⟨zB,h⟩
    ·refine E_cond_true (Eq.trans (show ev _ _ = .bool (i6) from vB) (congrArg Value.bool zB)) ?_
     refine E_region ?_
     cases h
    ·refine E_cond_false (Eq.trans (show ev _ _ = .bool (i6) from vB) (congrArg Value.bool zB)) ?_
     refine E_skip ?_
     obtain rfl:=sinj h
     exact hQ _ _ ⟨vE,hfr,cD,lD,nD⟩
  ·clear hx
   obtain ⟨xE,hfr,oD,n9,yD⟩:=hR
   refine E_seq (E_region (EL_mv yD rfl ?_))
   refine EL_p (.int .i64 ((w64 ((y5.2).n)))) (P_u64int Tryz.underlying71 Tryz.underlying3 rfl) rfl ?_
   obtain ⟨oB,oE,h⟩:=bsome h
   refine EL_do .plain rfl (D_makeSliceM (g:=xE) 9030 (0:Int) rfl Tryz.underlying25 info_3 rfl (fun _ _=>rfl) rfl rfl oE fun yE cG t5 hs b16=>?_)
   have hfr:=hfr.stp hs
   have n9:=n9.stp hs
   refine EL_at t5 rfl rfl ?_
   refine EL_nil (thn_n (E_seq (E_region (EL_mw t5 rfl rfl ?_))))
   refine EL_mv oD rfl ?_
   refine EL_do .plain rfl (D_copyM (g:=yE) (α:=Int) Tryz.underlying25 info_3 rfl b16 rfl n9 fun zE eG hs b17=>?_)
   have hfr:=hfr.stp hs
   refine EL_at (.int .i64 ((min (x0).length (oB).length:Nat):Int)) rfl rfl ?_
   refine EL_nil (thn_n ?_)
   obtain ⟨l9,hx,h⟩:=bsome h
   refine E_join (fun e w=>∃ (g:Gh) ,Fr gI wI g w∧e 7=t5∧OM 9030 g w 3 (l9:List Int) t5) (fun Q' hQ=>?_) (fun uF gG hR=>?_)
   ·replace h := hx
    clear hx
    refine E_block ?_
    refine E_lp h (fun (s:(List Int) × Int) e w=>∃ (g:Gh) ,Fr gI wI g w∧e 7=t5∧OM 9030 g w 3 (s.1:List Int) t5∧e 8=.int .i64 (s.2)) ⟨zE,hfr,rfl,b17,rfl⟩ (fun X30 bE rE=>?_)
    rintro ⟨l5,o0⟩ vF iG ⟨iE,hfr,aB,lB,uC⟩ h
    refine E_joinC h (fun (s:Unit) e w=>∃ (g:Gh) ,Fr gI wI g w∧e 7=t5∧OM 9030 g w 3 (l5:List Int) t5∧e 8=.int .i64 (o0)) (fun X33 k33 uE h=>?_) ?_
    ·refine E_seq (E_region (EL_mv uC rfl ?_))
     refine EL_mv aB rfl ?_
     refine EL_p (.int .i64 ((l5).length:Int)) (P_lenM Tryz.underlying25 rfl lB) rfl ?_
     refine EL_in (.bool ((decide (o0 < ((l5).length:Int))))) rfl rfl rfl rfl ?_
     refine EL_nil (thn_n ?_)
     rcases csome h with ⟨cC,h⟩ | ⟨cC,h⟩
     ·refine E_ct cC rfl ?_
      exact E_skip (thn_n (uE () _ _ ⟨iE,hfr,aB,lB,uC⟩ h))
     ·refine E_cf cC rfl ?_
      refine E_exit ?_
      refine thn_e ?_
      refine thn_e ?_
      refine blk_hit ?_
      obtain rfl:=sinj h
      exact hQ _ _ ⟨iE,hfr,aB,lB⟩
    ·rintro _ xF cF ⟨lE, hfr, mB, l8, nB⟩ h
     refine E_block ?_
     obtain ⟨n8,vC,h⟩:=bsome h
     obtain ⟨y40,bD,h⟩:=bsome h
     refine E_drawC (g:=lE) (w:=cF) (n:=8) [0,1,2,3,4,5,6] [] [0,1,2,3,4,5,6,7] rfl mixed (by kernel_rfl) fun w_c38 hs hlt=>?_
     have hfr:=hfr.ext hs
     have l8:=l8.ext hs
     clear hs
     refine CH_pur (c:=.int .i64 (o0)) rfl rfl .plain (P_move nB) ?_
     refine CH_pur (c:=t5) rfl rfl .plain (P_move mB) ?_
     refine CH_pur (c:=.int .i64 (o0)) rfl rfl .plain (P_move nB) ?_
     refine CH_pur (c:=(cutV t5 (Int.toNat o0) (Int.toNat ((l5).length:Int)) 1)) rfl rfl .plain (P_cutM (α:=Int) Tryz.underlying25 Tryz.sizeOf3 rfl (OM.hdr l8) rfl rfl vC) ?_
     refine CH_pur (c:=t5) rfl rfl .plain (P_move mB) ?_
     refine CH_pur (c:=.int .i64 (o0)) rfl rfl .plain (P_move nB) ?_
     refine CH_pur (c:=(cutV t5 0 (Int.toNat o0) 1)) rfl rfl .plain (P_cutM (α:=Int) Tryz.underlying25 Tryz.sizeOf3 rfl (OM.hdr l8) rfl rfl bD) ?_
     refine CH_do rfl rfl .plain (D_copyMM (g:=lE) (α:=Int) Tryz.underlying25 info_3 rfl l8 rfl vC bD fun dF jG hs b41=>?_)
     have hfr:=hfr.stp hs
     have hlt:=hlt.stp hs
     refine ⟨hlt.toW,?_⟩
     refine CH_nil ?_
     clear hlt
     refine EL_p (.int .i64 ((w64 (o0 + ((min (y40).length (n8).length:Nat):Int))))) (P_int rfl rfl rfl) rfl ?_
     refine EL_p (.int .i64 ((w64 (o0 + ((min (y40).length (n8).length:Nat):Int))))) (P_assign rfl) rfl ?_
     exact EL_nil (blk_n (thn_n (rE ((cpy l5 o0 n8 y40),(w64 (o0 + ((min (y40).length (n8).length:Nat):Int)))) _ _ ⟨dF,hfr,mB,b41,rfl⟩ h)))
   ·clear hx
    obtain ⟨kG,hfr,zD,aE⟩:=hR
    refine E_seq (E_region (EL_mv zD rfl ?_))
    obtain ⟨gp43,hs,rp43⟩:=OM.pub aE
    have hfr:=hfr.stp hs
    refine EL_at t5 rfl rfl ?_
    refine EL_nil (thn_n (E_ret ?_))
    obtain rfl:=sinj h
    exact end1 rfl rfl (show _=t5 from rfl) ⟨_,hfr,rp43⟩
def f53 (x0:List Int):Option (Bool):=
 (f24 ((1:Int)) ((100:Int)) x0).bind fun y2=>
 some (y2)
theorem en53:Enters Tryz.prog 53:=enters_of Tryz.func53 (by kernel_rfl) rfl
theorem wk53 {gI:Gh} {wI:World} {x0:List Int} {up0:Value} (rp0:RV gI.m wI x0 up0) {r:Bool} (h:f53 x0=some r):Fn Tryz.prog 53 #[up0] gI wI (fun _ _ v=>v=.bool (r)):=by
 unfold f53 at h
 refine fn_of_E Tryz.func53 rfl (Nat.le_of_ble_eq_true rfl) fun g0 hm hfr=>?_
 have rp0:RV g0.m wI x0 up0:=hm ▸ rp0
 show E _ 5 none _ _ _ _ _
 refine E_seq (E_region (EL_at (.bool false) rfl rfl ?_))
 refine EL_nil (thn_n (E_seq (E_region (EL_mw up0 rfl rfl ?_))))
 obtain ⟨y2,hy2,h⟩:=bsome h
 refine EL_do .plain rfl (D_call (g:=g0) (vs:=[.int .i64 (1),.int .i64 (100),up0]) en24 (.cons rfl (.cons rfl (.cons rfl .nil))) (wk24 rp0 hy2) fun g1 w1_ v1 hs hr=>?_)
 have hfr:=hfr.ext hs
 subst hr
 refine EL_at (.bool (y2)) rfl rfl ?_
 refine EL_nil (thn_n (E_ret ?_))
 obtain rfl:=sinj h
 exact end1 rfl rfl (show _=.bool (y2) from rfl) ⟨_,hfr,rfl⟩
def f55 (x0:Span) (x1:Int) (x2:Int):Option (Bool):=
 Option.bind (α:=Bool) (
  (f24 x1 x2 (([(x0).Low,(x0).High]:List Int))).bind fun t5=>
  bif t5 then
   some ((decide ((x0).Low ≤ (x0).High)))
  else
   some (false)
  ) fun l5=>
 some (l5)
theorem en55:Enters Tryz.prog 55:=enters_of Tryz.func55 (by kernel_rfl) rfl
theorem wk55 {gI:Gh} {wI:World} {x0:Span} {x1:Int} {x2:Int} {up0:Value} (rp0:RV gI.m wI x0 up0) {r:Bool} (h:f55 x0 x1 x2=some r):Fn Tryz.prog 55 #[up0,.int .i64 (x1),.int .i64 (x2)] gI wI (fun _ _ v=>v=.bool (r)):=by
 unfold f55 at h
 refine fn_of_E Tryz.func55 rfl (Nat.le_of_ble_eq_true rfl) fun g0 hm hfr=>?_
 have rp0:RV g0.m wI x0 up0:=hm ▸ rp0
 show E _ 22 none _ _ _ _ _
 refine E_seq (E_region (EL_do .plain rfl (D_box (g:=g0) rfl rp0 fun g1 w1 p1 hs q1=>?_)))
 have hfr:=hfr.ext hs
 refine EL_at (.bool false) rfl rfl ?_
 refine EL_nil (thn_n ?_)
 obtain ⟨l5,hx,h⟩:=bsome h
 refine E_join (fun e w=>∃ (g:Gh) ,Fr gI wI g w∧e 6=.bool (l5)) (fun Q' hQ=>?_) (fun yB cC hR=>?_)
 ·replace h := hx
  clear hx
  refine E_region (EL_mw (.int .i64 (x1)) rfl rfl ?_)
  refine EL_mw (.int .i64 (x2)) rfl rfl ?_
  refine EL_p (fPtr p1 0) (P_fieldAddr at_56_0 rfl (PT.ptr q1)) rfl ?_
  have l8:=PT_field (part_Span_0).1 q1
  refine EL_do .plain rfl (D_load (g:=g1) Tryz.isAgg3 Tryz.sizeOf3 rfl l8 fun uC n8=>?_)
  obtain rfl:=RV_int.1 n8
  refine EL_p (fPtr p1 1) (P_fieldAddr at_56_1 rfl (PT.ptr q1)) rfl ?_
  have v8:=PT_field (part_Span_1).1 q1
  refine EL_do .plain rfl (D_load (g:=g1) Tryz.isAgg3 Tryz.sizeOf3 rfl v8 fun vC l9=>?_)
  obtain rfl:=RV_int.1 l9
  refine EL_do .plain rfl (D_buildSlice (g:=g1) 3013 (xs:=([(x0).Low,(x0).High]:List Int)) (vs:=[.int .i64 ((x0).Low),.int .i64 ((x0).High)]) Tryz.underlying25 Tryz.sizeOf3 Tryz.zeroValue3 rfl rfl (.cons rfl (.cons rfl .nil)) (RVs.cons (RV_int.2 rfl) (RVs.cons (RV_int.2 rfl) RVs.nil)) rfl rfl fun n9 bD aB hs o18 lB hxt hfl=>?_)
  have hfr:=hfr.stp hs
  have q1:=q1.stp hs
  obtain ⟨t5,hy20,h⟩:=bsome h
  refine EL_do .plain rfl (D_call (g:=n9) (vs:=[.int .i64 (x1),.int .i64 (x2),aB]) en24 (.cons rfl (.cons rfl (.cons rfl .nil))) (wk24 lB hy20) fun i6 zB cD hs hr=>?_)
  have hfr:=hfr.ext hs
  have q1:=q1.ext hs
  subst hr
  refine EL_mw (.bool (t5)) rfl rfl ?_
  rcases csome h with ⟨o0,h⟩ | ⟨o0,h⟩
  ·refine EL_y (fPtr p1 0) (P_fieldAddr at_56_0 rfl (PT.ptr q1)) rfl rfl o0 rfl ?_
   have mB:=PT_field (part_Span_0).1 q1
   refine EL_do (.yes2 rfl rfl o0) rfl (D_load (g:=i6) Tryz.isAgg3 Tryz.sizeOf3 rfl mB fun lD nB=>?_)
   obtain rfl:=RV_int.1 nB
   refine EL_y (fPtr p1 1) (P_fieldAddr at_56_1 rfl (PT.ptr q1)) rfl rfl o0 rfl ?_
   have oB:=PT_field (part_Span_1).1 q1
   refine EL_do (.yes2 rfl rfl o0) rfl (D_load (g:=i6) Tryz.isAgg3 Tryz.sizeOf3 rfl oB fun nD vB=>?_)
   obtain rfl:=RV_int.1 vB
   refine EL_y (.bool ((decide ((x0).Low ≤ (x0).High)))) (P_int rfl rfl rfl) rfl rfl o0 rfl ?_
   refine EL_p (.bool ((decide ((x0).Low ≤ (x0).High)))) (P_pick (b:=t5) rfl (pick_t o0 rfl)) rfl ?_
   refine EL_at (.bool ((decide ((x0).Low ≤ (x0).High)))) rfl rfl ?_
   refine EL_nil ?_
   obtain rfl:=sinj h
   exact hQ _ _ ⟨i6,hfr,rfl⟩
  ·refine EL_s rfl rfl o0 rfl rfl ?_
   iterate 4 refine EL_s rfl rfl o0 rfl rfl ?_
   refine EL_p (.bool false) (P_pick (b:=t5) rfl (pick_f o0 rfl)) rfl ?_
   refine EL_at (.bool false) rfl rfl ?_
   refine EL_nil ?_
   obtain rfl:=sinj h
   exact hQ _ _ ⟨i6,hfr,rfl⟩
 ·clear hx
  obtain ⟨oD,hfr,g8⟩:=hR
  refine E_ret ?_
  obtain rfl:=sinj h
  exact end1 rfl rfl (show _=.bool (l5) from g8) ⟨_,hfr,rfl⟩
def f59 (x0:BeamWarp):Option (Int):=
 jn (σ:=Unit) (fun _=>
  some ((0:Int))
  ) fun lB=>
 Option.bind (α:=Bool) (
  (f55 ((x0).Length) ((0:Int)) ((10000000000:Int))).bind fun l8=>
  bif (!l8) then
   some (true)
  else
   (f55 ((x0).Stretch) ((0:Int)) ((200:Int))).bind fun y71=>
   bif (!y71) then
    some (true)
   else
    (f55 ((x0).Crimp) ((0:Int)) ((300:Int))).bind fun g8=>
    bif (!g8) then
     some (true)
    else
     (f55 ((x0).Waste) ((0:Int)) ((100000000:Int))).bind fun y81=>
     some ((!y81))
  ) fun i6=>
 bif i6 then
  some ((2:Int))
 else
  lB ()
theorem en59:Enters Tryz.prog 59:=enters_of Tryz.func59 (by kernel_rfl) rfl
theorem wk59 {gI:Gh} {wI:World} {x0:BeamWarp} {up0:Value} (rp0:RV gI.m wI x0 up0) {r:Int} (h:f59 x0=some r):Fn Tryz.prog 59 #[up0] gI wI (fun _ _ v=>v=.int .i64 (r)):=by
 unfold f59 at h
 refine fn_of_E Tryz.func59 rfl (Nat.le_of_ble_eq_true rfl) fun g0 hm hfr=>?_
 have rp0:RV g0.m wI x0 up0:=hm ▸ rp0
 show E _ 25 none _ _ _ _ _
 refine E_seq (E_region (EL_do .plain rfl (D_box (g:=g0) rfl rp0 fun g1 w1 p1 hs q1=>?_)))
 have hfr:=hfr.ext hs
 refine EL_at (.int .i64 (0)) rfl rfl ?_
 refine EL_nil (thn_n (E_joinC h (fun (s:Unit) e w=>∃ (g:Gh) ,Fr gI wI g w) (fun X42 lB mB h=>?_) ?_))
 ·obtain ⟨i6, hx, h⟩ := bsome h
  refine E_join (fun e w=>∃ (g:Gh) ,Fr gI wI g w∧e 24=.bool (i6)) (fun Q' hQ=>?_) (fun iE vE hR=>?_)
  ·replace h := hx
   clear hx
   refine E_region (EL_p (fPtr p1 0) (P_fieldAddr at_108_0 rfl (PT.ptr q1)) rfl ?_)
   have q62:=PT_field (part_BeamWarp_0).1 q1
   refine EL_do .plain rfl (D_load (g:=g1) Tryz.isAgg56 Tryz.sizeOf56 rfl q62 fun zB cC=>?_)
   obtain ⟨l8,nB,h⟩:=bsome h
   refine EL_do .plain rfl (D_call (g:=g1) (vs:=[zB,.int .i64 (0),.int .i64 (10000000000)]) en55 (.cons rfl (.cons rfl (.cons rfl .nil))) (wk55 cC nB) fun l9 lE xE hs hr=>?_)
   have hfr:=hfr.ext hs
   have q1:=q1.ext hs
   subst hr
   refine EL_p (.bool (!l8)) (P_not rfl) rfl ?_
   refine EL_mw (.bool (!l8)) rfl rfl ?_
   rcases csome h with ⟨o0,h⟩ | ⟨o0,h⟩
   ·refine EL_s rfl rfl o0 rfl rfl ?_
    iterate 3 refine EL_s rfl rfl o0 rfl rfl ?_
    refine EL_p (.bool true) (P_pick (b:=(!l8)) rfl (pick_t o0 rfl)) rfl ?_
    refine EL_dead 12 rfl ?_
    refine EL_nil ?_
    obtain rfl:=sinj h
    exact hQ _ _ ⟨l9,hfr,rfl⟩
   ·refine EL_y (fPtr p1 2) (P_fieldAddr at_108_1 rfl (PT.ptr q1)) rfl rfl o0 rfl ?_
    have uC:=PT_field (part_BeamWarp_1).1 q1
    refine EL_do (.yes2 rfl rfl o0) rfl (D_load (g:=l9) Tryz.isAgg56 Tryz.sizeOf56 rfl uC fun vC bD=>?_)
    obtain ⟨y71,oB,h⟩:=bsome h
    refine EL_do (.yes2 rfl rfl o0) rfl (D_call (g:=l9) (vs:=[vC,.int .i64 (0),.int .i64 (200)]) en55 (.cons rfl (.cons rfl (.cons rfl .nil))) (wk55 bD oB) fun n9 mE yE hs hr=>?_)
    have hfr:=hfr.ext hs
    have q1:=q1.ext hs
    subst hr
    refine EL_y (.bool (!y71)) (P_not rfl) rfl rfl o0 rfl ?_
    refine EL_p (.bool (!y71)) (P_pick (b:=(!l8)) rfl (pick_f o0 rfl)) rfl ?_
    refine EL_mw (.bool (!y71)) rfl rfl ?_
    rcases csome h with ⟨l5,h⟩ | ⟨l5,h⟩
    ·refine EL_s rfl rfl l5 rfl rfl ?_
     iterate 3 refine EL_s rfl rfl l5 rfl rfl ?_
     refine EL_p (.bool true) (P_pick (b:=(!y71)) rfl (pick_t l5 rfl)) rfl ?_
     refine EL_dead 6 rfl ?_
     refine EL_nil ?_
     obtain rfl:=sinj h
     exact hQ _ _ ⟨n9,hfr,rfl⟩
    ·refine EL_y (fPtr p1 4) (P_fieldAddr at_108_2 rfl (PT.ptr q1)) rfl rfl l5 rfl ?_
     have cD:=PT_field (part_BeamWarp_2).1 q1
     refine EL_do (.yes2 rfl rfl l5) rfl (D_load (g:=n9) Tryz.isAgg56 Tryz.sizeOf56 rfl cD fun lD nD=>?_)
     obtain ⟨g8,vB,h⟩:=bsome h
     refine EL_do (.yes2 rfl rfl l5) rfl (D_call (g:=n9) (vs:=[lD,.int .i64 (0),.int .i64 (300)]) en55 (.cons rfl (.cons rfl (.cons rfl .nil))) (wk55 nD vB) fun aB oE zE hs hr=>?_)
     have hfr:=hfr.ext hs
     have q1:=q1.ext hs
     subst hr
     refine EL_y (.bool (!g8)) (P_not rfl) rfl rfl l5 rfl ?_
     refine EL_p (.bool (!g8)) (P_pick (b:=(!y71)) rfl (pick_f l5 rfl)) rfl ?_
     refine EL_mw (.bool (!g8)) rfl rfl ?_
     rcases csome h with ⟨t5,h⟩ | ⟨t5,h⟩
     ·refine EL_s rfl rfl t5 rfl rfl ?_
      iterate 3 refine EL_s rfl rfl t5 rfl rfl ?_
      refine EL_p (.bool true) (P_pick (b:=(!g8)) rfl (pick_t t5 rfl)) rfl ?_
      refine EL_nil ?_
      obtain rfl:=sinj h
      exact hQ _ _ ⟨aB,hfr,rfl⟩
     ·refine EL_y (fPtr p1 6) (P_fieldAddr at_108_3 rfl (PT.ptr q1)) rfl rfl t5 rfl ?_
      have oD:=PT_field (part_BeamWarp_3).1 q1
      refine EL_do (.yes2 rfl rfl t5) rfl (D_load (g:=aB) Tryz.isAgg56 Tryz.sizeOf56 rfl oD fun yD zD=>?_)
      obtain ⟨y81,yB,h⟩:=bsome h
      refine EL_do (.yes2 rfl rfl t5) rfl (D_call (g:=aB) (vs:=[yD,.int .i64 (0),.int .i64 (100000000)]) en55 (.cons rfl (.cons rfl (.cons rfl .nil))) (wk55 zD yB) fun aE rE cF hs hr=>?_)
      have hfr:=hfr.ext hs
      subst hr
      refine EL_y (.bool (!y81)) (P_not rfl) rfl rfl t5 rfl ?_
      refine EL_p (.bool (!y81)) (P_pick (b:=(!g8)) rfl (pick_f t5 rfl)) rfl ?_
      refine EL_nil ?_
      obtain rfl:=sinj h
      exact hQ _ _ ⟨aE,hfr,rfl⟩
  ·clear hx
   obtain ⟨bE,hfr,n8⟩:=hR
   rcases csome h with ⟨v8,h⟩ | ⟨v8,h⟩
   ·refine E_cond_true (Eq.trans (show ev _ _ = .bool (i6) from n8) (congrArg Value.bool v8)) ?_
    refine E_seq (E_region (EL_at (.int .i64 (2)) rfl rfl ?_))
    refine EL_nil (thn_n (E_ret (thn_r ?_)))
    obtain rfl:=sinj h
    exact end1 rfl rfl (show _=.int .i64 (2) from rfl) ⟨_,hfr,rfl⟩
   ·refine E_cond_false (Eq.trans (show ev _ _ = .bool (i6) from n8) (congrArg Value.bool v8)) ?_
    exact E_skip (thn_n (mB () _ _ ⟨bE,hfr⟩ h))
 ·rintro _ uE dF ⟨eF, hfr⟩ h
  refine E_seq (E_region (EL_at (.int .i64 (0)) rfl rfl ?_))
  refine EL_nil (thn_n (E_ret ?_))
  obtain rfl:=sinj h
  exact end1 rfl rfl (show _=.int .i64 (0) from rfl) ⟨_,hfr,rfl⟩
def f68 (x0:Vector UInt8 8):Option (BookCloth × Int):=
 (idx (x0).toList (0:Int)).bind fun y3=>
 (shl64 ((y3).toNat:Int) ((8:Int))).bind fun y6=>
 (idx (x0).toList (1:Int)).bind fun y7=>
 (idx (x0).toList (2:Int)).bind fun g8=>
 (idx (x0).toList (3:Int)).bind fun l8=>
 (idx (x0).toList (4:Int)).bind fun n8=>
 (idx (x0).toList (5:Int)).bind fun v8=>
 (f72 x0).bind fun o0=>
 jn (σ:=BookCloth) (fun vB=>
  some (vB,(0:Int))
  ) fun k53=>
 Option.bind (α:=Bool) (
  (idx (x0).toList (6:Int)).bind fun n9=>
  bif (o0.1 != n9) then
   some (true)
  else
   (idx (x0).toList (7:Int)).bind fun lB=>
   some ((o0.2 != lB))
  ) fun l9=>
 bif l9 then
  some ((⟨(bit64 .or y6 ((y7).toNat:Int)),((g8).toNat:Int),((l8).toNat:Int),((n8).toNat:Int),((v8).toNat:Int)⟩:BookCloth),(130:Int))
 else
  (f33 ((⟨(bit64 .or y6 ((y7).toNat:Int)),((g8).toNat:Int),((l8).toNat:Int),((n8).toNat:Int),((v8).toNat:Int)⟩:BookCloth))).bind fun yB=>
  bif (!yB) then
   some ((⟨(bit64 .or y6 ((y7).toNat:Int)),((g8).toNat:Int),((l8).toNat:Int),((n8).toNat:Int),((v8).toNat:Int)⟩:BookCloth),(2:Int))
  else
   k53 ((⟨(bit64 .or y6 ((y7).toNat:Int)),((g8).toNat:Int),((l8).toNat:Int),((n8).toNat:Int),((v8).toNat:Int)⟩:BookCloth))
theorem en68:Enters Tryz.prog 68:=enters_of Tryz.func68 (by kernel_rfl) rfl
theorem wk68 {gI:Gh} {wI:World} {x0:Vector UInt8 8} {up0:Value} (rp0:RV gI.m wI x0 up0) {r:BookCloth × Int} (h:f68 x0=some r):Fn Tryz.prog 68 #[up0] gI wI (fun m w v=>∃ y0 y1,v=.tuple #[y0,y1]∧RV m w (r.1) y0∧y1=.int .i64 (r.2)):=by
 unfold f68 at h
 refine fn_of_E Tryz.func68 rfl (Nat.le_of_ble_eq_true rfl) fun g0 hm hfr=>?_
 have rp0:RV g0.m wI x0 up0:=hm ▸ rp0
 show E _ 50 none _ _ _ _ _
 refine E_seq (E_region (EL_do .plain rfl (D_box (g:=g0) rfl rp0 fun g1 w1 p1 hs q1=>?_)))
 have hfr:=hfr.ext hs
 refine EL_do .plain rfl (D_allocOc (g:=g1) 2002 (⟨0,0,0,0,0⟩:BookCloth) Tryz.zeroValue63 (fun m w=>⟨_,(rep_two rep_int (rep_two rep_int (rep_two rep_int (rep_two rep_int rep_int)))),rfl⟩) fun g2 w2 p2 hs b2 cb=>?_)
 have hfr:=hfr.stp hs
 have q1:=q1.stp hs
 clear cb
 refine EL_at (.int .i64 (0)) rfl rfl ?_
 refine EL_nil (thn_n (E_seq (E_region ?_)))
 obtain ⟨y3,hy3,h⟩:=bsome h
 refine EL_p (fPtr p1 (((0:Int):Int).toNat * 1)) (P_indexAddrA (α:=UInt8) Tryz.underlying116 Tryz.sizeOf5 rfl (PT.ptr q1) rfl hy3) rfl ?_
 have q4:=PT_idxA q1 hy3
 refine EL_do .plain rfl (D_load (g:=g2) Tryz.isAgg5 Tryz.sizeOf5 rfl q4 fun v5 r5=>?_)
 obtain rfl:=RV_u8.1 r5
 refine EL_p (.int .i64 (((y3).toNat:Int))) (P_u8int Tryz.underlying5 Tryz.underlying3 rfl) rfl ?_
 obtain ⟨y6,zE,h⟩:=bsome h
 refine EL_p (.int .i64 (y6)) (P_shlu rfl rfl zE) rfl ?_
 obtain ⟨y7,zD,h⟩:=bsome h
 refine EL_p (fPtr p1 (((1:Int):Int).toNat * 1)) (P_indexAddrA (α:=UInt8) Tryz.underlying116 Tryz.sizeOf5 rfl (PT.ptr q1) rfl zD) rfl ?_
 have q8:=PT_idxA q1 zD
 refine EL_do .plain rfl (D_load (g:=g2) Tryz.isAgg5 Tryz.sizeOf5 rfl q8 fun v9 r9=>?_)
 obtain rfl:=RV_u8.1 r9
 refine EL_p (.int .i64 (((y7).toNat:Int))) (P_u8int Tryz.underlying5 Tryz.underlying3 rfl) rfl ?_
 refine EL_in (.int .i64 ((bit64 .or y6 ((y7).toNat:Int)))) rfl rfl rfl rfl ?_
 obtain ⟨g8,vC,h⟩:=bsome h
 refine EL_p (fPtr p1 (((2:Int):Int).toNat * 1)) (P_indexAddrA (α:=UInt8) Tryz.underlying116 Tryz.sizeOf5 rfl (PT.ptr q1) rfl vC) rfl ?_
 have cF:=PT_idxA q1 vC
 refine EL_do .plain rfl (D_load (g:=g2) Tryz.isAgg5 Tryz.sizeOf5 rfl cF fun jH dF=>?_)
 obtain rfl:=RV_u8.1 dF
 refine EL_p (.int .i64 (((g8).toNat:Int))) (P_u8int Tryz.underlying5 Tryz.underlying3 rfl) rfl ?_
 obtain ⟨l8,bD,h⟩:=bsome h
 refine EL_p (fPtr p1 (((3:Int):Int).toNat * 1)) (P_indexAddrA (α:=UInt8) Tryz.underlying116 Tryz.sizeOf5 rfl (PT.ptr q1) rfl bD) rfl ?_
 have eF:=PT_idxA q1 bD
 refine EL_do .plain rfl (D_load (g:=g2) Tryz.isAgg5 Tryz.sizeOf5 rfl eF fun kH rF=>?_)
 obtain rfl:=RV_u8.1 rF
 refine EL_p (.int .i64 (((l8).toNat:Int))) (P_u8int Tryz.underlying5 Tryz.underlying3 rfl) rfl ?_
 obtain ⟨n8,cD,h⟩:=bsome h
 refine EL_p (fPtr p1 (((4:Int):Int).toNat * 1)) (P_indexAddrA (α:=UInt8) Tryz.underlying116 Tryz.sizeOf5 rfl (PT.ptr q1) rfl cD) rfl ?_
 have sF:=PT_idxA q1 cD
 refine EL_do .plain rfl (D_load (g:=g2) Tryz.isAgg5 Tryz.sizeOf5 rfl sF fun lH tF=>?_)
 obtain rfl:=RV_u8.1 tF
 refine EL_p (.int .i64 (((n8).toNat:Int))) (P_u8int Tryz.underlying5 Tryz.underlying3 rfl) rfl ?_
 obtain ⟨v8,lD,h⟩:=bsome h
 refine EL_p (fPtr p1 (((5:Int):Int).toNat * 1)) (P_indexAddrA (α:=UInt8) Tryz.underlying116 Tryz.sizeOf5 rfl (PT.ptr q1) rfl lD) rfl ?_
 have uF:=PT_idxA q1 lD
 refine EL_do .plain rfl (D_load (g:=g2) Tryz.isAgg5 Tryz.sizeOf5 rfl uF fun mH vF=>?_)
 obtain rfl:=RV_u8.1 vF
 refine EL_p (.int .i64 (((v8).toNat:Int))) (P_u8int Tryz.underlying5 Tryz.underlying3 rfl) rfl ?_
 have aE:RV g2.m w2 (⟨(bit64 .or y6 ((y7).toNat:Int)),((g8).toNat:Int),((l8).toNat:Int),((n8).toNat:Int),((v8).toNat:Int)⟩:BookCloth) (.agg (setCh [[.int .i64 0],[.int .i64 0],[.int .i64 0],[.int .i64 0],[.int .i64 0]] [(0,.int .i64 ((bit64 .or y6 ((y7).toNat:Int)))),(1,.int .i64 (((g8).toNat:Int))),(2,.int .i64 (((l8).toNat:Int))),(3,.int .i64 (((n8).toNat:Int))),(4,.int .i64 (((v8).toNat:Int)))]).flatten.toArray):=RV_build rfl (rep_pair (rfl) (rep_pair (rfl) (rep_pair (rfl) (rep_pair (rfl) (rep_last (rfl))))))
 generalize mE:(Value.agg (setCh [[.int .i64 0],[.int .i64 0],[.int .i64 0],[.int .i64 0],[.int .i64 0]] [(0,.int .i64 ((bit64 .or y6 ((y7).toNat:Int)))),(1,.int .i64 (((g8).toNat:Int))),(2,.int .i64 (((l8).toNat:Int))),(3,.int .i64 (((n8).toNat:Int))),(4,.int .i64 (((v8).toNat:Int)))]).flatten.toArray)=bE at aE
 refine EL_p bE (mE ▸ P_build (vs:=[(0,.int .i64 ((bit64 .or y6 ((y7).toNat:Int)))),(1,.int .i64 (((g8).toNat:Int))),(2,.int .i64 (((l8).toNat:Int))),(3,.int .i64 (((n8).toNat:Int))),(4,.int .i64 (((v8).toNat:Int)))]) [[.int .i64 0],[.int .i64 0],[.int .i64 0],[.int .i64 0],[.int .i64 0]] lay_63 rfl rfl (.cons rfl (.cons rfl (.cons rfl (.cons rfl (.cons rfl .nil))))) ⟨⟨_,rfl,rfl⟩,⟨⟨_,rfl,rfl⟩,⟨⟨_,rfl,rfl⟩,⟨⟨_,rfl,rfl⟩,⟨⟨_,rfl,rfl⟩,trivial⟩⟩⟩⟩⟩) rfl ?_
 refine EL_do .plain rfl (D_storeOc (g:=g2) (v:=bE) Tryz.sizeOf63 rfl b2 rfl aE fun iE nH hs b23 cb=>?_)
 clear cb
 have hfr:=hfr.stp hs
 have q1:=q1.stp hs
 refine EL_nil (thn_n (E_seq (E_region (EL_do .plain rfl (D_load (g:=iE) Tryz.isAgg116 Tryz.sizeOf116 rfl q1 fun xF yF=>?_)))))
 obtain ⟨o0,oE,h⟩:=bsome h
 refine EL_do .plain rfl (D_call (g:=iE) (vs:=[xF]) en72 (.cons rfl .nil) (wk72 yF oE) fun zB zG oH hs hr=>?_)
 have hfr:=hfr.ext hs
 have q1:=q1.ext hs
 have b23:=b23.ext hs
 obtain ⟨xG,yG,rfl,rfl,rfl⟩:=hr
 refine EL_mw (.tuple #[.int .u8 (UInt8.toNat (o0.1)),.int .u8 (UInt8.toNat (o0.2))]) rfl rfl ?_
 refine EL_p (.int .u8 (UInt8.toNat (o0.1))) (P_extract rfl rfl) rfl ?_
 refine EL_p (.int .u8 (UInt8.toNat (o0.2))) (P_extract rfl rfl) rfl ?_
 refine EL_at (.int .u8 (UInt8.toNat (o0.1))) rfl rfl ?_
 refine EL_at (.int .u8 (UInt8.toNat (o0.2))) rfl rfl ?_
 refine EL_nil (thn_n (E_joinC h (fun (s:BookCloth) e w=>∃ (g:Gh) ,Fr gI wI g w∧e 2=p2∧OB 2002 g w 63 (s:BookCloth) p2) (fun X53 k53 rE h=>?_) ?_))
 ·refine E_block ?_
  obtain ⟨l9,hx,h⟩:=bsome h
  refine E_join (fun e w=>∃ (g:Gh) ,Fr gI wI g w∧e 2=p2∧OB 2002 g w 63 ((⟨(bit64 .or y6 ((y7).toNat:Int)),((g8).toNat:Int),((l8).toNat:Int),((n8).toNat:Int),((v8).toNat:Int)⟩:BookCloth):BookCloth) p2∧e 32=.bool (l9)) (fun Q' hQ=>?_) (fun aH pH hR=>?_)
  ·replace h := hx
   clear hx
   refine E_region (EL_mw (.int .u8 (UInt8.toNat (o0.1))) rfl rfl ?_)
   obtain ⟨n9,nD,h⟩:=bsome h
   refine EL_p (fPtr p1 (((6:Int):Int).toNat * 1)) (P_indexAddrA (α:=UInt8) Tryz.underlying116 Tryz.sizeOf5 rfl (PT.ptr q1) rfl nD) rfl ?_
   have q62:=PT_idxA q1 nD
   refine EL_do .plain rfl (D_load (g:=zB) Tryz.isAgg5 Tryz.sizeOf5 rfl q62 fun qH aG=>?_)
   obtain rfl:=RV_u8.1 aG
   refine EL_p (.bool ((o0.1 != n9))) (P_u8 rfl rfl rfl) rfl ?_
   refine EL_mw (.bool ((o0.1 != n9))) rfl rfl ?_
   rcases csome h with ⟨i6,h⟩ | ⟨i6,h⟩
   ·refine EL_s rfl rfl i6 rfl rfl ?_
    iterate 3 refine EL_s rfl rfl i6 rfl rfl ?_
    refine EL_p (.bool true) (P_pick (b:=(o0.1 != n9)) rfl (pick_t i6 rfl)) rfl ?_
    refine EL_at (.bool true) rfl rfl ?_
    refine EL_nil ?_
    obtain rfl:=sinj h
    exact hQ _ _ ⟨zB,hfr,rfl,b23,rfl⟩
   ·refine EL_y (.int .u8 (UInt8.toNat (o0.2))) (P_move rfl) rfl rfl i6 rfl ?_
    obtain ⟨lB,oD,h⟩:=bsome h
    refine EL_y (fPtr p1 (((7:Int):Int).toNat * 1)) (P_indexAddrA (α:=UInt8) Tryz.underlying116 Tryz.sizeOf5 rfl (PT.ptr q1) rfl oD) rfl rfl i6 rfl ?_
    have bG:=PT_idxA q1 oD
    refine EL_do (.yes2 rfl rfl i6) rfl (D_load (g:=zB) Tryz.isAgg5 Tryz.sizeOf5 rfl bG fun sH cG=>?_)
    obtain rfl:=RV_u8.1 cG
    refine EL_y (.bool ((o0.2 != lB))) (P_u8 rfl rfl rfl) rfl rfl i6 rfl ?_
    refine EL_p (.bool ((o0.2 != lB))) (P_pick (b:=(o0.1 != n9)) rfl (pick_f i6 rfl)) rfl ?_
    refine EL_at (.bool ((o0.2 != lB))) rfl rfl ?_
    refine EL_nil ?_
    obtain rfl:=sinj h
    exact hQ _ _ ⟨zB,hfr,rfl,b23,rfl⟩
  ·clear hx
   obtain ⟨cC,hfr,l5,t5,mB⟩:=hR
   rcases csome h with ⟨nB,h⟩ | ⟨nB,h⟩
   ·refine E_cond_true (Eq.trans (show ev _ _ = .bool (l9) from mB) (congrArg Value.bool nB)) ?_
    refine E_seq (E_region (EL_do .plain rfl (D_loadO (g:=cC) Tryz.isAgg63 Tryz.sizeOf63 l5 t5 fun eG gG=>?_)))
    refine EL_do .plain rfl (D_storeOc (g:=cC) (v:=eG) Tryz.sizeOf63 l5 t5 rfl gG fun tH uH hs b72 cb=>?_)
    clear cb
    have hfr:=hfr.stp hs
    refine EL_at (.int .i64 (130)) rfl rfl ?_
    refine EL_nil (thn_n (E_ret (blk_r ?_)))
    refine thn_r ?_
    obtain rfl:=sinj h
    obtain ⟨ad73,cv73,hp73,uE,cr73⟩:=ob_read Tryz.isAgg63 Tryz.sizeOf63 b72
    exact endm_ct rfl rfl ((show _=p2 from l5).trans hp73) uE (show _=.int .i64 (130) from rfl) ⟨_,hfr,_,_,rfl,cr73,rfl⟩
   ·refine E_cond_false (Eq.trans (show ev _ _ = .bool (l9) from mB) (congrArg Value.bool nB)) ?_
    refine E_seq (E_region (EL_do .plain rfl (D_loadO (g:=cC) Tryz.isAgg63 Tryz.sizeOf63 l5 t5 fun iG jG=>?_)))
    obtain ⟨yB,vE,h⟩:=bsome h
    refine EL_do .plain rfl (D_call (g:=cC) (vs:=[iG]) en33 (.cons rfl .nil) (wk33 jG vE) fun yD cH xH hs hr=>?_)
    have hfr:=hfr.ext hs
    have t5:=t5.ext hs
    subst hr
    refine EL_p (.bool (!yB)) (P_not rfl) rfl ?_
    refine EL_at (.bool (!yB)) rfl rfl ?_
    refine EL_nil (thn_n ?_)
    rcases csome h with ⟨oB,h⟩ | ⟨oB,h⟩
    ·refine E_ct oB rfl ?_
     refine E_seq (E_region (EL_do .plain rfl (D_loadO (g:=yD) Tryz.isAgg63 Tryz.sizeOf63 l5 t5 fun kG lG=>?_)))
     refine EL_do .plain rfl (D_storeOc (g:=yD) (v:=kG) Tryz.sizeOf63 l5 t5 rfl lG fun yH zH hs b79 cb=>?_)
     clear cb
     have hfr:=hfr.stp hs
     refine EL_at (.int .i64 (2)) rfl rfl ?_
     refine EL_nil (thn_n (E_ret (blk_r ?_)))
     refine thn_r ?_
     obtain rfl:=sinj h
     obtain ⟨ad80,cv80,hp80,xE,cr80⟩:=ob_read Tryz.isAgg63 Tryz.sizeOf63 b79
     exact endm_ct rfl rfl ((show _=p2 from l5).trans hp80) xE (show _=.int .i64 (2) from rfl) ⟨_,hfr,_,_,rfl,cr80,rfl⟩
    ·refine E_cf oB rfl ?_
     exact E_skip (blk_n (thn_n (rE ((⟨(bit64 .or y6 ((y7).toNat:Int)),((g8).toNat:Int),((l8).toNat:Int),((n8).toNat:Int),((v8).toNat:Int)⟩:BookCloth)) _ _ ⟨yD,hfr,l5,t5⟩ h)))
 ·rintro vB gH aI ⟨lE, hfr, aB, uC⟩ h
  refine E_seq (E_region (EL_do .plain rfl (D_loadO (g:=lE) Tryz.isAgg63 Tryz.sizeOf63 aB uC fun mG sG=>?_)))
  refine EL_do .plain rfl (D_storeOc (g:=lE) (v:=mG) Tryz.sizeOf63 aB uC rfl sG fun bI dI hs b83 cb=>?_)
  clear cb
  have hfr:=hfr.stp hs
  refine EL_at (.int .i64 (0)) rfl rfl ?_
  refine EL_nil (thn_n (E_ret ?_))
  obtain rfl:=sinj h
  obtain ⟨ad84,cv84,hp84,yE,cr84⟩:=ob_read Tryz.isAgg63 Tryz.sizeOf63 b83
  exact endm_ct rfl rfl ((show _=p2 from aB).trans hp84) yE (show _=.int .i64 (0) from rfl) ⟨_,hfr,_,_,rfl,cr84,rfl⟩
def f78 (x0:List Str):Option (Bool):=
 jn (σ:=Unit) (fun _=>
  some (true)
  ) fun k53=>
 lp (σ:=Int) (fun k54 o0=>
  jn (σ:=Unit) (fun _=>
   jn (σ:=Unit) (fun _=>
    k54 ((w64 (o0 - (1:Int))))
    ) fun yB=>
   (idx x0 o0).bind fun y84=>
   (idx x0 (w64 (o0 - (1:Int)))).bind fun n8=>
   (f106 y84 n8).bind fun v8=>
   bif v8 then
    some (false)
   else
    yB ()
   ) fun k57=>
  bif (decide (o0 > (0 : Int))) then
   k57 ()
  else
   k53 ()
  ) big ((w64 (((x0).length:Int) - (1:Int))))
theorem en78:Enters Tryz.prog 78:=enters_of Tryz.func78 (by kernel_rfl) rfl
theorem wk78 {gI:Gh} {wI:World} {x0:List Str} {up0:Value} (rp0:RV gI.m wI x0 up0) {r:Bool} (h:f78 x0=some r):Fn Tryz.prog 78 #[up0] gI wI (fun _ _ v=>v=.bool (r)):=by
 unfold f78 at h
 refine fn_of_E Tryz.func78 rfl (Nat.le_of_ble_eq_true rfl) fun g0 hm hfr=>?_
 have rp0:RV g0.m wI x0 up0:=hm ▸ rp0
 show E _ 21 none _ _ _ _ _
 refine E_seq (E_region (EL_at (.bool false) rfl rfl ?_))
 refine EL_nil (thn_n (E_joinC h (fun (s:Unit) e w=>∃ (g:Gh) ,Fr gI wI g w) (fun X53 k53 cC h=>?_) ?_))
 ·refine E_seq (E_region (EL_mw up0 rfl rfl ?_))
  refine EL_p (.int .i64 ((x0).length:Int)) (P_len Tryz.underlying54 rfl rp0) rfl ?_
  refine EL_in (.int .i64 ((w64 (((x0).length:Int) - (1:Int))))) rfl rfl rfl rfl ?_
  refine EL_at (.int .i64 ((w64 (((x0).length:Int) - (1:Int))))) rfl rfl ?_
  refine EL_nil (thn_n (E_block ?_))
  refine E_lp h (fun (s:Int) e w=>∃ (g:Gh) ,Fr gI wI g w∧e 0=up0∧RV g.m w (x0:List Str) up0∧e 3=.int .i64 (s)) ⟨g0,hfr,rfl,rp0,rfl⟩ (fun X54 k54 uC=>?_)
  rintro o0 rE zE ⟨zB,hfr,oB,vB,l9⟩ h
  refine E_joinC h (fun (s:Unit) e w=>∃ (g:Gh) ,Fr gI wI g w∧e 0=up0∧RV g.m w (x0:List Str) up0∧e 3=.int .i64 (o0)) (fun X57 k57 vC h=>?_) ?_
  ·refine E_seq (E_region (EL_mv l9 rfl ?_))
   refine EL_in (.bool ((decide (o0 > (0:Int))))) rfl rfl rfl rfl ?_
   refine EL_nil (thn_n ?_)
   rcases csome h with ⟨l8,h⟩ | ⟨l8,h⟩
   ·refine E_ct l8 rfl ?_
    exact E_skip (thn_n (vC () _ _ ⟨zB,hfr,oB,vB,l9⟩ h))
   ·refine E_cf l8 rfl ?_
    refine E_exit ?_
    refine thn_e ?_
    refine thn_e ?_
    refine blk_hit ?_
    exact thn_n (cC () _ _ ⟨zB,hfr⟩ h)
  ·rintro _ uE cF ⟨yD, hfr, t5, l5, i6⟩ h
   refine E_joinC h (fun (s:Unit) e w=>∃ (g:Gh) ,Fr gI wI g w∧e 0=up0∧RV g.m w (x0:List Str) up0∧e 3=.int .i64 (o0)) (fun X83 yB bD h=>?_) ?_
   ·refine E_block ?_
    refine E_seq ?_
    obtain ⟨y84,n9,h⟩:=bsome h
    have zD:=PT_idx l5 n9
    refine L_load (x:=.tmp 13) Tryz.isAgg9 Tryz.sizeOf9 zD fun dF aE cD=>?_
    obtain rfl:=RV_str.1 aE
    obtain ⟨n8,aB,h⟩:=bsome h
    have bE:=PT_idx l5 aB
    refine L_load (x:=.tmp 18) Tryz.isAgg9 Tryz.sizeOf9 bE fun eF iE lD=>?_
    obtain rfl:=RV_str.1 iE
    obtain ⟨v8,nD,h⟩:=bsome h
    refine E_drawL (g:=yD) (n:=10) [(9,(fun v g w=>v=.bool (v8)))] [0,1,2,3,4,5,6,7,8,9] rfl mixed (by kernel_rfl) (⟨fun _=>up_eq _,trivial⟩) ?_
    refine L_p up0 rfl rfl (P_move t5) ?_
    refine L_p (.int .i64 (o0)) rfl rfl (P_move i6) ?_
    refine L_p (ePtr up0 o0 1) rfl rfl (P_indexAddr (α:=Str) Tryz.underlying54 Tryz.sizeOf9 rfl l5 rfl n9) ?_
    refine L_ld (c:=Str.v (y84)) rfl rfl .plain (fun _ _ h=>h.ch) cD rfl ?_
    refine L_p up0 rfl rfl (P_move t5) ?_
    refine L_p (.int .i64 (o0)) rfl rfl (P_move i6) ?_
    refine L_p (.int .i64 ((w64 (o0 - (1:Int))))) rfl rfl (P_int rfl rfl rfl) ?_
    refine L_p (ePtr up0 (w64 (o0 - (1:Int))) 1) rfl rfl (P_indexAddr (α:=Str) Tryz.underlying54 Tryz.sizeOf9 rfl l5 rfl aB) ?_
    refine L_ld (c:=Str.v (n8)) rfl rfl .plain (fun _ _ h=>h.ch) lD rfl ?_
    refine L_do (φ:=fun v g w=>v=.bool (v8)) rfl rfl .plain (fun g w hd=>D_call (g:=g) (vs:=[Str.v (y84),Str.v (n8)]) en106 (.cons rfl (.cons rfl .nil)) (wk106  nD) fun g' w' v hs hr=>⟨g',hs,hr⟩) (fun rF hv=>?_)
    obtain ⟨_,_,_,rfl⟩:=hv
    refine L_nl fun lE sF hs=>?_
    have hfr:=hfr.ext hs
    have l5:=l5.ext hs
    clear hs
    refine EL_nil (thn_n ?_)
    rcases csome h with ⟨g8,h⟩ | ⟨g8,h⟩
    ·refine E_ct g8 rfl ?_
     refine E_seq (E_region (EL_at (.bool false) rfl rfl ?_))
     refine EL_nil (thn_n (E_ret (blk_r ?_)))
     refine thn_r ?_
     refine thn_r ?_
     refine blk_r ?_
     refine thn_r ?_
     obtain rfl:=sinj h
     exact end1 rfl rfl (show _=.bool false from rfl) ⟨_,hfr,rfl⟩
    ·refine E_cf g8 rfl ?_
     exact E_skip (blk_n (thn_n (bD () _ _ ⟨lE,hfr,t5,l5,i6⟩ h)))
   ·rintro _ mE vE ⟨oD, hfr, lB, mB, nB⟩ h
    refine E_region (EL_mv nB rfl ?_)
    refine EL_in (.int .i64 ((w64 (o0 - (1:Int))))) rfl rfl rfl rfl ?_
    refine EL_at (.int .i64 ((w64 (o0 - (1:Int))))) rfl rfl ?_
    exact EL_nil (thn_n (uC ((w64 (o0 - (1:Int)))) _ _ ⟨oD,hfr,lB,mB,rfl⟩ h))
 ·rintro _ oE xE ⟨yE, hfr⟩ h
  refine E_seq (E_region (EL_at (.bool true) rfl rfl ?_))
  refine EL_nil (thn_n (E_ret ?_))
  obtain rfl:=sinj h
  exact end1 rfl rfl (show _=.bool true from rfl) ⟨_,hfr,rfl⟩
def f90 (x0:Design):Option (Int):=
 jn (σ:=Unit) (fun _=>
  some ((0:Int))
  ) fun n8=>
 (f123 ((1:Int)) ((24:Int)) (([(x0).Hooks]:List Int))).bind fun y56=>
 bif (!y56) then
  some ((2:Int))
 else
  bif (decide ((((x0).Rows).length : Int) > (60 : Int))) then
   some ((5:Int))
  else
   bif ((((x0).Rows).length : Int) == (0 : Int)) then
    some ((7:Int))
   else
    (shl64 (1:Int) (x0).Hooks).bind fun l5=>
    (f123 ((0:Int)) ((w64 (l5 - (1:Int)))) ((x0).Rows)).bind fun y71=>
    bif (!y71) then
     some ((2:Int))
    else
     n8 ()
theorem en90:Enters Tryz.prog 90:=enters_of Tryz.func90 (by kernel_rfl) rfl
theorem wk90 {gI:Gh} {wI:World} {x0:Design} {up0:Value} (rp0:RV gI.m wI x0 up0) {r:Int} (h:f90 x0=some r):Fn Tryz.prog 90 #[up0] gI wI (fun _ _ v=>v=.int .i64 (r)):=by
 unfold f90 at h
 refine fn_of_E Tryz.func90 rfl (Nat.le_of_ble_eq_true rfl) fun g0 hm hfr=>?_
 have rp0:RV g0.m wI x0 up0:=hm ▸ rp0
 show E _ 28 none _ _ _ _ _
 refine E_seq (E_region (EL_do .plain rfl (D_box (g:=g0) rfl rp0 fun g1 w1 p1 hs q1=>?_)))
 have hfr:=hfr.ext hs
 refine EL_at (.int .i64 (0)) rfl rfl ?_
 refine EL_nil (thn_n (E_joinC h (fun (s:Unit) e w=>∃ (g:Gh) ,Fr gI wI g w) (fun X51 n8 l9 h=>?_) ?_))
 ·refine E_block ?_
  refine E_seq (E_region (EL_p (fPtr p1 0) (P_fieldAddr at_29_0 rfl (PT.ptr q1)) rfl ?_))
  have oB:=PT_field (part_Design_0).1 q1
  refine EL_do .plain rfl (D_load (g:=g1) Tryz.isAgg3 Tryz.sizeOf3 rfl oB fun mE vB=>?_)
  obtain rfl:=RV_int.1 vB
  refine EL_do .plain rfl (D_buildSlice (g:=g1) 3006 (xs:=([(x0).Hooks]:List Int)) (vs:=[.int .i64 ((x0).Hooks)]) Tryz.underlying25 Tryz.sizeOf3 Tryz.zeroValue3 rfl rfl (.cons rfl .nil) (RVs.cons (RV_int.2 rfl) RVs.nil) rfl rfl fun yB oE zB hs o54 cC hxt hfl=>?_)
  have hfr:=hfr.stp hs
  have q1:=q1.stp hs
  obtain ⟨y56,n9,h⟩:=bsome h
  refine EL_do .plain rfl (D_call (g:=yB) (vs:=[.int .i64 (1),.int .i64 (24),zB]) en123 (.cons rfl (.cons rfl (.cons rfl .nil))) (wk123 cC n9) fun l8 bE rE hs hr=>?_)
  have hfr:=hfr.ext hs
  have q1:=q1.ext hs
  subst hr
  refine EL_p (.bool (!y56)) (P_not rfl) rfl ?_
  refine EL_at (.bool (!y56)) rfl rfl ?_
  refine EL_nil (thn_n ?_)
  rcases csome h with ⟨t5,h⟩ | ⟨t5,h⟩
  ·refine E_ct t5 rfl ?_
   refine E_seq (E_region (EL_at (.int .i64 (2)) rfl rfl ?_))
   refine EL_nil (thn_n (E_ret (blk_r ?_)))
   refine thn_r ?_
   obtain rfl:=sinj h
   exact end1 rfl rfl (show _=.int .i64 (2) from rfl) ⟨_,hfr,rfl⟩
  ·refine E_cf t5 rfl ?_
   refine E_seq (E_region (EL_p (fPtr p1 1) (P_fieldAddr at_29_1 rfl (PT.ptr q1)) rfl ?_))
   have uC:=PT_field (part_Design_1).1 q1
   refine EL_do .plain rfl (D_load (g:=l8) Tryz.isAgg25 Tryz.sizeOf25 rfl uC fun uE vC=>?_)
   refine EL_p (.int .i64 (((x0).Rows).length:Int)) (P_len Tryz.underlying25 rfl vC) rfl ?_
   refine EL_p (.bool ((decide ((((x0).Rows).length:Int) > (60:Int))))) (P_int rfl rfl rfl) rfl ?_
   refine EL_p (.bool ((decide ((((x0).Rows).length:Int) > (60:Int))))) (P_assign rfl) rfl ?_
   refine EL_nil (thn_n ?_)
   rcases csome h with ⟨i6,h⟩ | ⟨i6,h⟩
   ·refine E_ct i6 rfl ?_
    refine E_seq (E_region (EL_at (.int .i64 (5)) rfl rfl ?_))
    refine EL_nil (thn_n (E_ret (blk_r ?_)))
    refine thn_r ?_
    obtain rfl:=sinj h
    exact end1 rfl rfl (show _=.int .i64 (5) from rfl) ⟨_,hfr,rfl⟩
   ·refine E_cf i6 rfl ?_
    refine E_seq (E_region (EL_p (fPtr p1 1) (P_fieldAddr at_29_1 rfl (PT.ptr q1)) rfl ?_))
    have bD:=PT_field (part_Design_1).1 q1
    refine EL_do .plain rfl (D_load (g:=l8) Tryz.isAgg25 Tryz.sizeOf25 rfl bD fun v62 cD=>?_)
    refine EL_p (.int .i64 (((x0).Rows).length:Int)) (P_len Tryz.underlying25 rfl cD) rfl ?_
    refine EL_in (.bool (((((x0).Rows).length:Int) == (0:Int)))) rfl rfl rfl rfl ?_
    refine EL_at (.bool (((((x0).Rows).length:Int) == (0:Int)))) rfl rfl ?_
    refine EL_nil (thn_n ?_)
    rcases csome h with ⟨g8,h⟩ | ⟨g8,h⟩
    ·refine E_ct g8 rfl ?_
     refine E_seq (E_region (EL_at (.int .i64 (7)) rfl rfl ?_))
     refine EL_nil (thn_n (E_ret (blk_r ?_)))
     refine thn_r ?_
     obtain rfl:=sinj h
     exact end1 rfl rfl (show _=.int .i64 (7) from rfl) ⟨_,hfr,rfl⟩
    ·refine E_cf g8 rfl ?_
     refine E_seq ?_
     have lD:=PT_field (part_Design_0).1 q1
     refine L_load (x:=.tmp 20) Tryz.isAgg3 Tryz.sizeOf3 lD fun vE nD aB=>?_
     obtain rfl:=RV_int.1 nD
     obtain ⟨l5,lB,h⟩:=bsome h
     have oD:=PT_field (part_Design_1).1 q1
     refine L_load (x:=.tmp 24) Tryz.isAgg25 Tryz.sizeOf25 oD fun v8 yD mB=>?_
     obtain ⟨y71,nB,h⟩:=bsome h
     refine E_drawL (g:=l8) (n:=9) [(6,(fun v g w=>v=.bool (y71)))] [0,1,2,3,4,5,6,7,8] rfl mixed (by kernel_rfl) (⟨fun _=>up_eq _,trivial⟩) ?_
     refine L_p (fPtr p1 0) rfl rfl (P_fieldAddr at_29_0 rfl (PT.ptr q1)) ?_
     refine L_ld (c:=.int .i64 ((x0).Hooks)) rfl rfl .plain (fun _ _ h=>h.ch) aB rfl ?_
     refine L_p (.int .i64 (l5)) rfl rfl (P_int rfl rfl (congrArg (Option.map (Value.int .i64)) lB)) ?_
     refine L_p (.int .i64 ((w64 (l5 - (1:Int))))) rfl rfl (P_int rfl rfl rfl) ?_
     refine L_p (fPtr p1 1) rfl rfl (P_fieldAddr at_29_1 rfl (PT.ptr q1)) ?_
     refine L_ld (c:=v8) rfl rfl .plain (fun _ _ h=>h.ch) mB rfl ?_
     refine L_do (φ:=fun v g w=>v=.bool (y71)) rfl rfl .plain (fun g w hd=>D_call (g:=g) (vs:=[.int .i64 (0),.int .i64 ((w64 (l5 - (1:Int)))),v8]) en123 (.cons rfl (.cons rfl (.cons rfl .nil))) (wk123 (yD.ext hd.1) nB) fun g' w' v hs hr=>⟨g',hs,hr⟩) (fun xE hv=>?_)
     obtain ⟨_,_,_,rfl⟩:=hv
     refine L_p (.bool (!y71)) rfl rfl (P_not rfl) ?_
     refine L_p (.bool (!y71)) rfl rfl (P_assign rfl) ?_
     refine L_nl fun zD yE hs=>?_
     have hfr:=hfr.ext hs
     clear hs
     refine EL_nil (thn_n ?_)
     rcases csome h with ⟨o0,h⟩ | ⟨o0,h⟩
     ·refine E_ct o0 rfl ?_
      refine E_seq (E_region (EL_at (.int .i64 (2)) rfl rfl ?_))
      refine EL_nil (thn_n (E_ret (blk_r ?_)))
      refine thn_r ?_
      obtain rfl:=sinj h
      exact end1 rfl rfl (show _=.int .i64 (2) from rfl) ⟨_,hfr,rfl⟩
     ·refine E_cf o0 rfl ?_
      exact E_skip (blk_n (thn_n (l9 () _ _ ⟨zD,hfr⟩ h)))
 ·rintro _ aE iE ⟨lE, hfr⟩ h
  refine E_seq (E_region (EL_at (.int .i64 (0)) rfl rfl ?_))
  refine EL_nil (thn_n (E_ret ?_))
  obtain rfl:=sinj h
  exact end1 rfl rfl (show _=.int .i64 (0) from rfl) ⟨_,hfr,rfl⟩
def f104 (x0:Str) (x1:I32→Option Bool):Option (Bool):=
 (f131 x0 x1).bind fun y2=>
 some ((decide (y2 ≥ (0:Int))))
theorem en104:Enters Tryz.prog 104:=enters_of Tryz.func104 (by kernel_rfl) rfl
theorem wk104 {gI:Gh} {wI:World} {x0:Str} {x1:I32→Option Bool} {up1:Value} (rp1:FnV1 Tryz.prog x1 up1 gI wI) {r:Bool} (h:f104 x0 x1=some r):Fn Tryz.prog 104 #[Str.v (x0),up1] gI wI (fun _ _ v=>v=.bool (r)):=by
 unfold f104 at h
 refine fn_of_E Tryz.func104 rfl (Nat.le_of_ble_eq_true rfl) fun g0 hm hfr=>?_
 obtain ⟨ff1,fa1,fc1,rfl,fen1,fcl1⟩:=rp1
 show E _ 9 none _ _ _ _ _
 refine E_seq (E_region (EL_at (.bool false) rfl rfl ?_))
 refine EL_nil (thn_n (E_seq (E_region (EL_mw (Str.v (x0)) rfl rfl ?_))))
 refine EL_mw ((.func (.func ff1) fa1 fc1)) rfl rfl ?_
 obtain ⟨y2,hy2,h⟩:=bsome h
 refine EL_do .plain rfl (D_call (g:=g0) (vs:=[Str.v (x0),(.func (.func ff1) fa1 fc1)]) en131 (.cons rfl (.cons rfl .nil)) (wk131 (FnV1.ch ⟨_,_,_,rfl,fen1,fcl1⟩ hfr.ch) hy2) fun g1 w1_ v1 hs hr=>?_)
 have hfr:=hfr.ext hs
 subst hr
 refine EL_in (.bool ((decide (y2 ≥ (0:Int))))) rfl rfl rfl rfl ?_
 refine EL_at (.bool ((decide (y2 ≥ (0:Int))))) rfl rfl ?_
 refine EL_nil (thn_n (E_ret ?_))
 obtain rfl:=sinj h
 exact end1 rfl rfl (show _=.bool ((decide (y2 ≥ (0:Int)))) from rfl) ⟨_,hfr,rfl⟩
def f107 (z0:List UInt8) (σ:Type) (cons:Cons σ (Vector UInt8 8)) (s0:σ):Option σ:=
 (f108 z0 ((8:Int))).bind fun y4=>
 (y4 (Nat × σ) (guardC fun aB lB=>
  (vecN 8 lB).bind fun mB=>
  (cons aB mB).bind fun (v8,l9)=>
  bif (!v8) then
   some (false,((1:Nat),(l9)))
  else
   some (true,((0:Nat),(l9)))
  ) (0,(s0))).bind fun (g8,l8)=>
 bif Nat.beq g8 0 then
  some l8
 else
  some l8
theorem en107:Enters Tryz.prog 107:=enters_of Tryz.func107 (by kernel_rfl) rfl
theorem wk107 {σ:Type} {cons:Cons σ (Vector UInt8 8)} {s0 r:σ} {gI:Gh} {wI:World} {z0:List UInt8} {pf0:Value} (qf0:PT gI.m wI z0 pf0) (h:f107 z0 σ cons s0=some r):IterC Tryz.prog (RA1 (α:=(Vector UInt8 8))) 107 #[] #[pf0] gI wI cons s0 r:=by
 unfold f107 at h
 refine iterD_of_E Tryz.func107 rfl (Nat.le_of_ble_eq_true rfl) fun l B J g0 hm hAb hRo hfr=>?_
 have hmk:MkF g0 wI []:=MkF.start
 have qf0:PT g0.m wI z0 pf0:=hm ▸ qf0
 show E _ 13 none _ _ (envAt #[.func (.yield l) #[] #[],pf0]) _ _
 refine E_seq (E_region (EL_do .plain rfl (D_box (g:=g0) (a:=(⟨(.func (.yield l) #[] #[]),rfl⟩:Fv)) rfl (RV_fv.2 rfl) fun g1 w1 p1 hs q1=>?_)))
 have hfr:=hfr.ext_ hAb hs
 have hmk:=hmk.ext hs
 have qf0:=qf0.ext hs
 refine EL_nil (thn_n (E_seq (E_region (EL_do .plain rfl (D_load (g:=g1) Tryz.isAgg72 Tryz.sizeOf72 rfl qf0 fun v2 r2=>?_)))))
 obtain ⟨y4,cD,h⟩:=bsome h
 refine EL_do .plain rfl (D_call (g:=g1) (vs:=[v2,.int .i64 (8)]) en108 (.cons rfl (.cons rfl .nil)) (wk108 r2 cD) fun g3 w3_ v3 hs hr=>?_)
 have hfr:=hfr.ext_ hAb hs
 have hmk:=hmk.ext hs
 have q1:=q1.ext hs
 have r3:=hr
 refine EL_nil (thn_n (E_block ?_))
 have hB0:=hfr.hB
 have hmk0:=hmk
 obtain ⟨⟨g8,l8⟩,hφ,h⟩:=bsome h
 refine E_rangeFunc (σ:=(Nat × σ)) (s0:=(0,(s0))) 10 rfl (fun s=>s.1) [.ret] (fun (s:Nat × σ) (g:Gh) (w:World)=>FrY gI wI B J (s.2) g w∧MkF g w []∧PT g.m w (⟨(.func (.yield l) #[] #[]),rfl⟩:Fv) p1∧ItV Tryz.prog (RA1 (α:=(List UInt8))) y4 v3 g.m w) rfl r3 hφ (fun _ _ _ h=>(guardC_h h).1) rfl ra1_size rfl (fun _ _ _ _ _ hx hR=>by obtain ⟨hfr,hmk,z2,z3⟩:=hR; exact ⟨hfr.ist_ hAb hx hB0,hmk.ist hx,z2.ist hx,z3.ist hx⟩) (fun _ _ _ _ _ hx hR=>by obtain ⟨hfr,hmk,z2,z3⟩:=hR; exact ⟨hfr.stp_ hAb hx rfl,hmk.stp hx,z2.stp hx,z3.stp hx⟩) ⟨hfr,hmk,q1,r3⟩ (fun _ h=>by cases h) ?_ ?_
 ·intro oE bE s x b s2 yB lD vs hsz h hR hrec_0 nB hrd
  obtain ⟨hs0,h⟩:=guardC_h h
  obtain ⟨st,aB⟩:=s
  obtain ⟨hfr,hmk,o0,l5⟩:=hR
  obtain ⟨lB,hxe⟩:∃ y,y=x:=⟨x,rfl⟩
  subst hxe
  obtain ⟨n8,rfl,i6⟩:=ra1_get hrd
  have t5:=RFr.refl yB lD
  refine E_region (EL_at n8 rfl rfl ?_)
  refine EL_nil (thn_n ?_)
  obtain ⟨nD,hbr,hs,hrN⟩:=begin_round hrec_0 nB
  refine ⟨nD,hbr,?_⟩
  have hfr:=hfr.stp_ hAb hs rfl
  have hmk:=hmk.stp hs
  have t5:=t5.stp hs
  have o0:=o0.stp hs
  have l5:=l5.stp hs
  have i6:=i6.stp hs
  have hrec_0:=hrN
  clear hbr hs hrN
  refine E_block ?_
  refine E_seq (L_load (α:=Fv) (x:=.tmp 2) Tryz.isAgg203 Tryz.sizeOf203 o0 fun zB cC uC=>?_)
  have e26:zB=(.func (.yield l) #[] #[]):=RV_fv.1 cC
  clear cC
  subst zB
  obtain ⟨mB,oB,h⟩:=bsome h
  have oD:=PT_arrAt i6 oB
  refine L_load (x:=.tmp 9) Tryz.isAgg116 Tryz.sizeOf116 oD fun yD vB vC=>?_
  refine E_drawL (g:=yB) (n:=4) [] [0,1,2,3] rfl mixed (by kernel_rfl) trivial ?_
  refine L_ld (c:=(.func (.yield l) #[] #[])) rfl rfl .plain (fun _ _ h=>h.ch) uC rfl ?_
  refine L_p n8 rfl rfl (P_move rfl) ?_
  refine L_p ((ptrV n8)) rfl rfl (P_arrAt Tryz.underlying116 rfl i6 oB) ?_
  refine L_ld (c:=yD) rfl rfl .plain (fun _ _ h=>h.ch) vC rfl ?_
  refine L_nl fun zD rE hs=>?_
  have hfr:=hfr.ext_ hAb hs
  have hmk:=hmk.ext hs
  have t5:=t5.ext hs
  have hrec_0:=hrec_0.ext hs
  have o0:=o0.ext hs
  have l5:=l5.ext hs
  have vB:=vB.ext hs
  clear hs
  obtain ⟨aE,bD,h⟩:=bsome h
  obtain ⟨v8,l9⟩:=aE
  refine EL_do .plain rfl (D_yield (g:=zD) (x:=mB) rfl (.cons rfl .nil) hRo hfr bD ⟨_,rfl,vB⟩ fun uE vE hs hfrY=>?_)
  have hmk:=hmk.stp hs
  have t5:=t5.stp hs
  have hrec_0:=hrec_0.stp hs rfl
  have o0:=o0.stp hs
  have l5:=l5.stp hs
  have hfr:=hfrY
  clear hfrY
  refine EL_p (.bool (!v8)) (P_not rfl) rfl ?_
  refine EL_nil (thn_n ?_)
  rcases csome h with ⟨n9,h⟩ | ⟨n9,h⟩
  ·refine E_ct n9 rfl ?_
   refine E_ret (blk_r ?_)
   obtain ⟨rfl,rfl⟩:=pairs2 h
   exact ⟨_,t5,⟨hfr,hmk,o0,l5⟩,hrec_0,rfl,0,rfl,rfl⟩
  ·refine E_cf n9 rfl ?_
   refine E_skip (blk_n ?_)
   obtain ⟨rfl,rfl⟩:=pairs2 h
   exact ⟨_,t5,⟨hfr,hmk,o0,l5⟩,hrec_0,rfl,rfl⟩
 ·intro xE yE ds44 hsz hR hds
  obtain ⟨hfr,hmk,iE,lE⟩:=hR
  obtain ⟨D,hdse,hD,hDb⟩:=hds.1 rfl
  subst hdse
  replace hmk:=MkF.push hmk0 hmk hD hDb
  clear hD hDb hds
  revert hmk
  generalize ({ target:=.collected D,args:=#[] } :: []:List Deferred)=mE
  intro hmk
  refine ⟨fun hs=>?_,fun k c hs hc=>?_⟩
  ·have hs : g8 = 0 := hs
   subst hs
   replace h:=cond_t h rfl
   refine blk_n (endM (.inl rfl) hmk fun zE cF hs=>?_)
   have hfr:=hfr.stp_ hAb hs rfl
   obtain rfl:=sinj h
   exact end0n rfl rfl (FrY.done hfr)
  ·have hs : g8 = k + 1 := hs
   match k,hs,hc with
   | 0,hs,hc=>
    subst hs
    obtain rfl:=sinj hc
    replace h:=cond_f h rfl
    refine E_ret (blk_r ?_)
    refine endM (.inr rfl) hmk fun dF eF hs=>?_
    have hfr:=hfr.stp_ hAb hs rfl
    obtain rfl:=sinj h
    exact end0 rfl rfl (FrY.done hfr)
   | n + 1,_,hc=>exact absurd hc (by simp)
def f120 (x0:Int) (x1:Int):Option (Int):=
 (f139 ((⟨(wu64 x1)⟩:U64))).bind fun y2=>
 (shr64 ((y2).n) (wu64 (((64:Int)) - ((wu64 x0))))).bind fun y3=>
 some ((w64 y3))
theorem en120:Enters Tryz.prog 120:=enters_of Tryz.func120 (by kernel_rfl) rfl
theorem wk120 {gI:Gh} {wI:World} {x0:Int} {x1:Int}  {r:Int} (h:f120 x0 x1=some r):Fn Tryz.prog 120 #[.int .i64 (x0),.int .i64 (x1)] gI wI (fun _ _ v=>v=.int .i64 (r)):=by
 unfold f120 at h
 refine fn_of_E Tryz.func120 rfl (Nat.le_of_ble_eq_true rfl) fun g0 hm hfr=>?_
 show E _ 13 none _ _ _ _ _
 refine E_seq (E_region (EL_at (.int .i64 (0)) rfl rfl ?_))
 refine EL_nil (thn_n (E_seq (E_region (EL_mw (.int .i64 (x1)) rfl rfl ?_))))
 refine EL_p (.int .u64 (wu64 x1)) (P_intu64 Tryz.underlying3 Tryz.underlying218 rfl) rfl ?_
 obtain ⟨y2,hy2,h⟩:=bsome h
 refine EL_do .plain rfl (D_call (g:=g0) (vs:=[.int .u64 (wu64 x1)]) en139 (.cons rfl .nil) (wk139  hy2) fun g1 w1_ v1 hs hr=>?_)
 have hfr:=hfr.ext hs
 subst hr
 refine EL_mw (.int .i64 (x0)) rfl rfl ?_
 refine EL_p (.int .u64 (wu64 x0)) (P_intu64 Tryz.underlying169 Tryz.underlying71 rfl) rfl ?_
 refine EL_p (.int .u64 (wu64 (((64:Int)) - ((wu64 x0))))) (P_usub rfl rfl) rfl ?_
 obtain ⟨y3,hy3,h⟩:=bsome h
 refine EL_p (.int .u64 (y3)) (P_shrU rfl rfl hy3) rfl ?_
 refine EL_p (.int .i64 ((w64 y3))) (P_u64int Tryz.underlying218 Tryz.underlying3 rfl) rfl ?_
 refine EL_at (.int .i64 ((w64 y3))) rfl rfl ?_
 refine EL_nil (thn_n (E_ret ?_))
 obtain rfl:=sinj h
 exact end1 rfl rfl (show _=.int .i64 ((w64 y3)) from rfl) ⟨_,hfr,rfl⟩
def f128 (x0:ChainCard) (z0:Int):Option (Bool):=
 Option.bind (α:=Bool) (
  (f86 ((-1:Int)) ((59:Int)) (([(x0).Number]:List Int))).bind fun t5=>
  bif (!t5) then
   some (true)
  else
   (f129 z0 (([(x0).Row]:List Int))).bind fun i6=>
   some ((!i6))
  ) fun l5=>
 some (l5)
theorem en128:Enters Tryz.prog 128:=enters_of Tryz.func128 (by kernel_rfl) rfl
theorem wk128 {gI:Gh} {wI:World} {x0:ChainCard} {z0:Int} {up0:Value} (rp0:RV gI.m wI x0 up0) {pf0:Value} (qf0:PT gI.m wI z0 pf0) {r:Bool} (h:f128 x0 z0=some r):Fn Tryz.prog 128 #[up0,pf0] gI wI (fun _ _ v=>v=.bool (r)):=by
 unfold f128 at h
 refine fn_of_E Tryz.func128 rfl (Nat.le_of_ble_eq_true rfl) fun g0 hm hfr=>?_
 have qf0:PT g0.m wI z0 pf0:=hm ▸ qf0
 have rp0:RV g0.m wI x0 up0:=hm ▸ rp0
 show E _ 17 none _ _ _ _ _
 refine E_seq (E_region (EL_do .plain rfl (D_box (g:=g0) rfl rp0 fun g1 w1 p1 hs q1=>?_)))
 have hfr:=hfr.ext hs
 have qf0:=qf0.ext hs
 refine EL_at (.bool false) rfl rfl ?_
 refine EL_nil (thn_n ?_)
 obtain ⟨l5,hx,h⟩:=bsome h
 refine E_join (fun e w=>∃ (g:Gh) ,Fr gI wI g w∧e 3=.bool (l5)) (fun Q' hQ=>?_) (fun vC lD hR=>?_)
 ·replace h := hx
  clear hx
  refine E_region (EL_p (fPtr p1 0) (P_fieldAddr at_87_0 rfl (PT.ptr q1)) rfl ?_)
  have l9:=PT_field (part_ChainCard_0).1 q1
  refine EL_do .plain rfl (D_load (g:=g1) Tryz.isAgg3 Tryz.sizeOf3 rfl l9 fun nD n9=>?_)
  obtain rfl:=RV_int.1 n9
  refine EL_do .plain rfl (D_buildSlice (g:=g1) 3006 (xs:=([(x0).Number]:List Int)) (vs:=[.int .i64 ((x0).Number)]) Tryz.underlying25 Tryz.sizeOf3 Tryz.zeroValue3 rfl rfl (.cons rfl .nil) (RVs.cons (RV_int.2 rfl) RVs.nil) rfl rfl fun aB oD lB hs o16 mB hxt hfl=>?_)
  have hfr:=hfr.stp hs
  have qf0:=qf0.stp hs
  have q1:=q1.stp hs
  obtain ⟨t5,n8,h⟩:=bsome h
  refine EL_do .plain rfl (D_call (g:=aB) (vs:=[.int .i64 (-1),.int .i64 (59),lB]) en86 (.cons rfl (.cons rfl (.cons rfl .nil))) (wk86 mB n8) fun g8 bD yD hs hr=>?_)
  have hfr:=hfr.ext hs
  have qf0:=qf0.ext hs
  have q1:=q1.ext hs
  subst hr
  refine EL_p (.bool (!t5)) (P_not rfl) rfl ?_
  refine EL_mw (.bool (!t5)) rfl rfl ?_
  rcases csome h with ⟨o0,h⟩ | ⟨o0,h⟩
  ·refine EL_s rfl rfl o0 rfl rfl ?_
   iterate 5 refine EL_s rfl rfl o0 rfl rfl ?_
   refine EL_p (.bool true) (P_pick (b:=(!t5)) rfl (pick_t o0 rfl)) rfl ?_
   refine EL_at (.bool true) rfl rfl ?_
   refine EL_nil ?_
   obtain rfl:=sinj h
   exact hQ _ _ ⟨g8,hfr,rfl⟩
  ·refine EL_do (.yes2 rfl rfl o0) rfl (D_load (g := g8) Tryz.isAgg169 Tryz.sizeOf169 rfl qf0 fun zD nB => ?_)
   obtain rfl:=RV_int.1 nB
   refine EL_y (fPtr p1 1) (P_fieldAddr at_87_1 rfl (PT.ptr q1)) rfl rfl o0 rfl ?_
   have oB:=PT_field (part_ChainCard_1).1 q1
   refine EL_do (.yes2 rfl rfl o0) rfl (D_load (g:=g8) Tryz.isAgg3 Tryz.sizeOf3 rfl oB fun aE vB=>?_)
   obtain rfl:=RV_int.1 vB
   refine EL_do (.yes2 rfl rfl o0) rfl (D_buildSlice (g:=g8) 3013 (xs:=([(x0).Row]:List Int)) (vs:=[.int .i64 ((x0).Row)]) Tryz.underlying25 Tryz.sizeOf3 Tryz.zeroValue3 rfl rfl (.cons rfl .nil) (RVs.cons (RV_int.2 rfl) RVs.nil) rfl rfl fun yB bE zB hs o23 cC hxt hfl=>?_)
   have hfr:=hfr.stp hs
   obtain ⟨i6,v8,h⟩:=bsome h
   refine EL_do (.yes2 rfl rfl o0) rfl (D_call (g:=yB) (vs:=[.int .i64 (z0),zB]) en129 (.cons rfl (.cons rfl .nil)) (wk129 cC v8) fun uC cD iE hs hr=>?_)
   have hfr:=hfr.ext hs
   subst hr
   refine EL_y (.bool (!i6)) (P_not rfl) rfl rfl o0 rfl ?_
   refine EL_p (.bool (!i6)) (P_pick (b:=(!t5)) rfl (pick_f o0 rfl)) rfl ?_
   refine EL_at (.bool (!i6)) rfl rfl ?_
   refine EL_nil ?_
   obtain rfl:=sinj h
   exact hQ _ _ ⟨uC,hfr,rfl⟩
 ·clear hx
  obtain ⟨lE,hfr,l8⟩:=hR
  refine E_ret ?_
  obtain rfl:=sinj h
  exact end1 rfl rfl (show _=.bool (l5) from l8) ⟨_,hfr,rfl⟩
def f17 (x0:List BookCloth):Option ((List UInt8) × Int × Int):=
 jn (σ:=Unit) (fun _=>
  jn (σ:=(List UInt8)) (fun oD=>
   some (oD,(0:Int),(0:Int))
   ) fun xH=>
  lp (σ:=(List UInt8) × Int) (fun yH (aB,o0)=>
   bif (decide (o0 < ((x0).length : Int))) then
    jn (σ:=(List UInt8)) (fun vB=>
     yH (vB,(w64 (o0 + (1:Int))))
     ) fun zH=>
    (idx x0 o0).bind fun yB=>
    jn (σ:=Unit) (fun _=>
     (f35 yB).bind fun xF=>
     (cut ((xF).toList) 0 ((8:Nat):Int)).bind fun yF=>
     (apnd 1 aB yF).bind fun zD=>
     zH (zD)
     ) fun aG=>
    (f33 yB).bind fun uC=>
    bif (!uC) then
     some ([],o0,(2:Int))
    else
     Option.bind (α:=Bool) (
      bif (decide (o0 > (0 : Int))) then
       (idx x0 (w64 (o0 - (1:Int)))).bind fun bG=>
       (f34 bG yB).bind fun oB=>
       some ((decide (oB ≥ (0:Int))))
      else
       some (false)
      ) fun lB=>
     bif lB then
      some ([],o0,(4:Int))
     else
      aG ()
   else
    xH (aB)
   ) big ([],(0:Int))
  ) fun k2=>
 bif (decide (((x0).length : Int) > (100 : Int))) then
  some ([],(0:Int),(5:Int))
 else
  k2 ()
theorem en17:Enters Tryz.prog 17:=enters_of Tryz.func17 (by kernel_rfl) rfl
theorem wk17 {gI:Gh} {wI:World} {x0:List BookCloth} {up0:Value} (rp0:RV gI.m wI x0 up0) {r:(List UInt8) × Int × Int} (h:f17 x0=some r):Fn Tryz.prog 17 #[up0] gI wI (fun m w v=>∃ y0 y1 y2,v=.tuple #[y0,y1,y2]∧RV m w (r.1) y0∧y1=.int .i64 (r.2.1)∧y2=.int .i64 (r.2.2)):=by
 unfold f17 at h
 refine fn_of_E Tryz.func17 rfl (Nat.le_of_ble_eq_true rfl) fun g0 hm hfr=>?_
 have rp0:RV g0.m wI x0 up0:=hm ▸ rp0
 show E _ 44 none _ _ _ _ _
 refine E_seq (E_region (EL_at (.slice none 0 0) rfl rfl ?_))
 refine EL_at (.int .i64 (0)) rfl rfl ?_
 refine EL_at (.int .i64 (0)) rfl rfl ?_
 refine EL_nil (thn_n (E_joinC h (fun (s:Unit) e w=>∃ (g:Gh) ,Fr gI wI g w∧e 0=up0∧RV g.m w (x0:List BookCloth) up0∧e 2=.slice none 0 0∧RV g.m w ([]:List UInt8) (Value.slice none 0 0)) (fun X2 k2 hk2 h=>?_) ?_))
 ·refine E_seq (E_region (EL_mw up0 rfl rfl ?_))
  refine EL_p (.int .i64 ((x0).length:Int)) (P_len Tryz.underlying33 rfl rp0) rfl ?_
  refine EL_in (.bool ((decide (((x0).length:Int) > (100:Int))))) rfl rfl rfl rfl ?_
  refine EL_nil (thn_n ?_)
  rcases csome h with ⟨hc3,h⟩ | ⟨hc3,h⟩
  ·refine E_ct hc3 rfl ?_
   refine E_seq (E_region (EL_at (.slice none 0 0) rfl rfl ?_))
   refine EL_at (.int .i64 (0)) rfl rfl ?_
   refine EL_at (.int .i64 (5)) rfl rfl ?_
   refine EL_nil (thn_n (E_ret (thn_r ?_)))
   obtain rfl:=sinj h
   exact end3 rfl rfl (show _=.slice none 0 0 from rfl) (show _=.int .i64 (0) from rfl) (show _=.int .i64 (5) from rfl) ⟨_,hfr,_,_,_,rfl,RV_nil,rfl,rfl⟩
  ·refine E_cf hc3 rfl ?_
   exact E_skip (thn_n (hk2 () _ _ ⟨g0,hfr,rfl,rp0,rfl,RV_nil⟩ h))
 ·rintro _ cM w4 ⟨g4, hfr, aI, rE, lK, mK⟩ h
  refine E_joinC h (fun (s:(List UInt8)) e w=>∃ (g:Gh) (v2:Value),Fr gI wI g w∧e 2=v2∧RV g.m w (s:List UInt8) v2∧OS 1002 g w 5 (s:List UInt8) v2) (fun X587 xH pI h=>?_) ?_
  ·refine E_seq (E_region (EL_mv aI rfl ?_))
   refine EL_p (.int .i64 ((x0).length:Int)) (P_len Tryz.underlying33 rfl rE) rfl ?_
   refine EL_mw (.int .i64 (0)) rfl rfl ?_
   refine EL_nil (thn_n (E_block ?_))
   refine E_lp h (fun (s:(List UInt8) × Int) e w=>∃ (g:Gh) (v2:Value),Fr gI wI g w∧e 0=up0∧RV g.m w (x0:List BookCloth) up0∧e 2=v2∧RV g.m w (s.1:List UInt8) v2∧OS 1002 g w 5 (s.1:List UInt8) v2∧e 11=up0∧RV g.m w (x0:List BookCloth) up0∧e 12=.int .i64 (((x0).length:Int))∧e 13=.int .i64 (s.2)) ⟨g4,(.slice none 0 0),hfr,aI,rE,lK,mK,OS.nil,rfl,rE,rfl,rfl⟩ (fun X588 yH qI=>?_)
   rintro ⟨aB,o0⟩ zK zL ⟨uE,mB,hfr,vC,i6,bD,g8,l8,zB,l5,cC,nB⟩ h
   refine E_seq (E_region (EL_in (.bool ((decide (o0 < ((x0).length:Int))))) nB cC rfl rfl ?_))
   refine EL_nil (thn_n (E_seq ?_))
   rcases csome h with ⟨aE,h⟩ | ⟨aE,h⟩
   ·refine E_ct aE rfl ?_
    refine E_skip (thn_n (E_joinC h (fun (s:(List UInt8)) e w=>∃ (g:Gh) (v2:Value),Fr gI wI g w∧e 0=up0∧RV g.m w (x0:List BookCloth) up0∧e 2=v2∧RV g.m w (s:List UInt8) v2∧OS 1002 g w 5 (s:List UInt8) v2∧e 11=up0∧RV g.m w (x0:List BookCloth) up0∧e 12=.int .i64 (((x0).length:Int))∧e 13=.int .i64 (o0)) (fun X879 zH sI h=>?_) ?_))
    ·refine E_block ?_
     refine E_seq (E_region (EL_mv nB rfl ?_))
     obtain ⟨yB,cG,h⟩:=bsome h
     refine EL_p (ePtr up0 o0 5) (P_indexAddr (α:=BookCloth) Tryz.underlying33 Tryz.sizeOf63 zB l5 nB cG) rfl ?_
     have nK:=PT_idx l5 cG
     refine EL_do .plain rfl (D_load (g:=uE) Tryz.isAgg63 Tryz.sizeOf63 rfl nK fun oK vE=>?_)
     refine EL_do .plain rfl (D_allocOc (g:=uE) 2006 (⟨0,0,0,0,0⟩:BookCloth) Tryz.zeroValue63 (fun m w=>⟨_,(rep_two rep_int (rep_two rep_int (rep_two rep_int (rep_two rep_int rep_int)))),rfl⟩) fun pK aM bE hs b883 cb=>?_)
     have hfr:=hfr.stp hs
     have i6:=i6.stp hs
     have g8:=g8.stp hs
     have l8:=l8.stp hs rfl
     have l5:=l5.stp hs
     have vE:=vE.stp hs
     clear cb
     refine EL_at (.int .i64 (o0)) rfl rfl ?_
     refine EL_do .plain rfl (D_storeOc (g:=pK) (v:=oK) Tryz.sizeOf63 rfl b883 rfl vE fun bI bM hs b884 cb=>?_)
     clear cb
     have hfr:=hfr.stp hs
     have i6:=i6.stp hs
     have g8:=g8.stp hs
     have l8:=l8.stp hs rfl
     have l5:=l5.stp hs
     refine EL_nil (thn_n (E_joinC h (fun (s:Unit) e w=>∃ (g:Gh) ,Fr gI wI g w∧e 0=up0∧RV g.m w (x0:List BookCloth) up0∧e 2=mB∧RV g.m w (aB:List UInt8) mB∧OS 1002 g w 5 (aB:List UInt8) mB∧e 6=bE∧OB 2006 g w 63 (yB:BookCloth) bE∧e 11=up0∧RV g.m w (x0:List BookCloth) up0∧e 12=.int .i64 (((x0).length:Int))∧e 13=.int .i64 (o0)) (fun X1021 aG dI h=>?_) ?_))
     ·refine E_block ?_
      refine E_seq (E_region (EL_do .plain rfl (D_loadO (g:=bI) Tryz.isAgg63 Tryz.sizeOf63 rfl b884 fun jJ kJ=>?_)))
      obtain ⟨uC,iI,h⟩:=bsome h
      refine EL_do .plain rfl (D_call (g:=bI) (vs:=[jJ]) en33 (.cons rfl .nil) (wk33 kJ iI) fun eG sK aL hs hr=>?_)
      have hfr:=hfr.ext hs
      have i6:=i6.ext hs
      have g8:=g8.ext hs
      have l8:=l8.ext hs
      have l5:=l5.ext hs
      have b884:=b884.ext hs
      subst hr
      refine EL_p (.bool (!uC)) (P_not rfl) rfl ?_
      refine EL_at (.bool (!uC)) rfl rfl ?_
      refine EL_nil (thn_n ?_)
      rcases csome h with ⟨cD,h⟩ | ⟨cD,h⟩
      ·refine E_ct cD rfl ?_
       refine E_seq (E_region (EL_mw (.int .i64 (o0)) rfl rfl ?_))
       refine EL_at (.slice none 0 0) rfl rfl ?_
       refine EL_at (.int .i64 (o0)) rfl rfl ?_
       refine EL_at (.int .i64 (2)) rfl rfl ?_
       refine EL_nil (thn_n (E_ret (blk_r ?_)))
       refine thn_r ?_
       refine blk_r ?_
       refine thn_r ?_
       refine thn_r ?_
       refine blk_r ?_
       refine thn_r ?_
       obtain rfl:=sinj h
       exact end3 rfl rfl (show _=.slice none 0 0 from rfl) (show _=.int .i64 (o0) from rfl) (show _=.int .i64 (2) from rfl) ⟨_,hfr,_,_,_,rfl,RV_nil,rfl,rfl⟩
      ·refine E_cf cD rfl ?_
       obtain ⟨lB,hx,h⟩:=bsome h
       refine E_join (fun e w=>∃ (g:Gh) ,Fr gI wI g w∧e 0=up0∧RV g.m w (x0:List BookCloth) up0∧e 2=mB∧RV g.m w (aB:List UInt8) mB∧OS 1002 g w 5 (aB:List UInt8) mB∧e 5=.int .i64 (o0)∧e 6=bE∧OB 2006 g w 63 (yB:BookCloth) bE∧e 11=up0∧RV g.m w (x0:List BookCloth) up0∧e 12=.int .i64 (((x0).length:Int))∧e 13=.int .i64 (o0)∧e 23=.bool (lB)) (fun Q' hQ=>?_) (fun tK bL hR=>?_)
       ·replace h := hx
        clear hx
        rcases csome h with ⟨v8,h⟩ | ⟨v8,h⟩
        ·obtain ⟨bG, mE, h⟩ := bsome h
         have lJ:=PT_idx i6 mE
         refine L_load (x:=.tmp 30) Tryz.isAgg63 Tryz.sizeOf63 lJ fun gG mJ jI=>?_
         refine L_loadO0 (x:=.tmp 6) Tryz.isAgg63 Tryz.sizeOf63 b884 fun iG nJ kI=>?_
         obtain ⟨oB,lI,h⟩:=bsome h
         refine E_drawL (g:=eG) (n:=13) [(9,(fun v g w=>v=.int .i64 (oB)))] [0,1,2,3,4,5,6,7,8,9,10,11,12] rfl mixed (by kernel_rfl) (⟨fun _=>up_eq _,trivial⟩) ?_
         refine L_p (.int .i64 (o0)) rfl rfl (P_move rfl) ?_
         refine L_p (.bool ((decide (o0 > (0:Int))))) rfl rfl (P_int rfl rfl rfl) ?_
         refine L_p (.bool ((decide (o0 > (0:Int))))) rfl rfl (P_move rfl) ?_
         refine L_y up0 rfl rfl rfl rfl v8 (P_move vC) ?_
         refine L_y (.int .i64 (o0)) rfl rfl rfl rfl v8 (P_move rfl) ?_
         refine L_y (.int .i64 ((w64 (o0 - (1:Int))))) rfl rfl rfl rfl v8 (P_int rfl rfl rfl) ?_
         refine L_y (ePtr up0 (w64 (o0 - (1:Int))) 5) rfl rfl rfl rfl v8 (P_indexAddr (α:=BookCloth) Tryz.underlying33 Tryz.sizeOf63 rfl i6 rfl mE) ?_
         refine L_ld (c:=gG) rfl rfl (.yes2 rfl rfl v8) (fun _ _ h=>h.ch) jI rfl ?_
         refine L_ld (c:=iG) rfl rfl (.yes2 rfl rfl v8) (fun _ _ h=>⟨h.ch,fun b hb _=>h.below.block b hb⟩) kI rfl ?_
         refine L_do (φ:=fun v g w=>v=.int .i64 (oB)) rfl rfl (.yes2 rfl rfl v8) (fun g w hd=>D_call (g:=g) (vs:=[gG,iG]) en34 (.cons rfl (.cons rfl .nil)) (wk34 (mJ.ext hd.1) (nJ.ext hd.1) lI) fun g' w' v hs hr=>⟨g',hs,hr⟩) (fun dL hv=>?_)
         obtain ⟨_,_,_,rfl⟩:=hv
         refine L_y (.bool ((decide (oB ≥ (0:Int))))) rfl rfl rfl rfl v8 (P_int rfl rfl rfl) ?_
         refine L_p (.bool ((decide (oB ≥ (0:Int))))) rfl rfl (P_pick (b:=(decide (o0 > (0:Int)))) rfl (pick_t v8 rfl)) ?_
         refine L_p (.bool ((decide (oB ≥ (0:Int))))) rfl rfl (P_assign rfl) ?_
         refine L_nl fun oJ eL hs=>?_
         have hfr:=hfr.ext hs
         have i6:=i6.ext hs
         have g8:=g8.ext hs
         have l8:=l8.ext hs
         have l5:=l5.ext hs
         have b884:=b884.ext hs
         clear hs
         refine EL_nil ?_
         obtain rfl:=sinj h
         exact hQ _ _ ⟨oJ,hfr,vC,i6,bD,g8,l8,rfl,rfl,b884,zB,l5,cC,nB,rfl⟩
        ·refine E_drawL (g := eG) (n := 13) [] [0, 1, 2, 3, 4, 5, 6, 7, 8, 9, 10, 11, 12] rfl mixed (by kernel_rfl) trivial ?_
         refine L_p (.int .i64 (o0)) rfl rfl (P_move rfl) ?_
         refine L_p (.bool ((decide (o0 > (0:Int))))) rfl rfl (P_int rfl rfl rfl) ?_
         refine L_p (.bool ((decide (o0 > (0:Int))))) rfl rfl (P_move rfl) ?_
         iterate 8 refine L_s rfl rfl rfl v8 rfl ?_
         refine L_p (.bool false) rfl rfl (P_pick (b:=(decide (o0 > (0:Int)))) rfl (pick_f v8 rfl)) ?_
         refine L_p (.bool false) rfl rfl (P_assign rfl) ?_
         refine L_nl fun pJ gL hs=>?_
         have hfr:=hfr.ext hs
         have i6:=i6.ext hs
         have g8:=g8.ext hs
         have l8:=l8.ext hs
         have l5:=l5.ext hs
         have b884:=b884.ext hs
         clear hs
         refine EL_nil ?_
         obtain rfl:=sinj h
         exact hQ _ _ ⟨pJ,hfr,vC,i6,bD,g8,l8,rfl,rfl,b884,zB,l5,cC,nB,rfl⟩
       ·clear hx
        obtain ⟨qJ,hfr,lG,mG,sG,xG,yG,zG,aH,cH,xE,yE,zE,cF,lD⟩:=hR
        rcases csome h with ⟨nD,h⟩ | ⟨nD,h⟩
        ·refine E_cond_true (Eq.trans (show ev _ _ = .bool (lB) from lD) (congrArg Value.bool nD)) ?_
         refine E_seq (E_region (EL_mv zG rfl ?_))
         refine EL_at (.slice none 0 0) rfl rfl ?_
         refine EL_at (.int .i64 (o0)) rfl rfl ?_
         refine EL_at (.int .i64 (4)) rfl rfl ?_
         refine EL_nil (thn_n (E_ret (blk_r ?_)))
         refine thn_r ?_
         refine blk_r ?_
         refine thn_r ?_
         refine thn_r ?_
         refine blk_r ?_
         refine thn_r ?_
         obtain rfl:=sinj h
         exact end3 rfl rfl (show _=.slice none 0 0 from rfl) (show _=.int .i64 (o0) from rfl) (show _=.int .i64 (4) from rfl) ⟨_,hfr,_,_,_,rfl,RV_nil,rfl,rfl⟩
        ·refine E_cond_false (Eq.trans (show ev _ _ = .bool (lB) from lD) (congrArg Value.bool nD)) ?_
         exact E_skip (blk_n (thn_n (dI () _ _ ⟨qJ,hfr,lG,mG,sG,xG,yG,aH,cH,xE,yE,zE,cF⟩ h)))
     ·rintro _ uK iL ⟨jG, hfr, gH, n8, jH, l9, n9, kH, lH, dF, t5, eF, rF⟩ h
      refine E_seq (E_region (EL_do .plain rfl (D_loadO (g:=jG) Tryz.isAgg63 Tryz.sizeOf63 kH lH fun rJ sJ=>?_)))
      obtain ⟨xF,mI,h⟩:=bsome h
      refine EL_do .plain rfl (D_call (g:=jG) (vs:=[rJ]) en35 (.cons rfl .nil) (wk35 sJ mI) fun vJ vK xJ hs hr=>?_)
      have hfr:=hfr.ext hs
      have n8:=n8.ext hs
      have l9:=l9.ext hs
      have n9:=n9.ext hs
      have t5:=t5.ext hs
      have iE:=hr
      refine EL_do .plain rfl (D_allocOc (g:=vJ) 2007 ((⟨List.toArray [0,0,0,0,0,0,0,0],rfl⟩:Vector UInt8 8):Vector UInt8 8) Tryz.zeroValue116 (fun m w=>⟨_,(rep_vec (flat_chunk rep_u8 (flat_chunk rep_u8 (flat_chunk rep_u8 (flat_chunk rep_u8 (flat_chunk rep_u8 (flat_chunk rep_u8 (flat_chunk rep_u8 (flat_chunk rep_u8 flat_nil)))))))) rfl),rfl⟩) fun zJ jL lE hs b1162 cb=>?_)
      have hfr:=hfr.stp hs
      have n8:=n8.stp hs
      have l9:=l9.stp hs
      have n9:=n9.stp hs rfl
      have t5:=t5.stp hs
      have iE:=iE.stp hs
      clear cb
      refine EL_do .plain rfl (D_storeOc (g:=zJ) (v:=xJ) Tryz.sizeOf116 rfl b1162 rfl iE fun lL mL hs b1163 cb=>?_)
      clear cb
      have hfr:=hfr.stp hs
      have n8:=n8.stp hs
      have l9:=l9.stp hs
      have n9:=n9.stp hs rfl
      have t5:=t5.stp hs
      obtain ⟨gp1163,hs,qp1163⟩:=OB.pub b1163
      have hfr:=hfr.stp hs
      have n8:=n8.stp hs
      have l9:=l9.stp hs
      have n9:=n9.stp hs rfl
      have t5:=t5.stp hs
      refine EL_nil (thn_n (E_region (EL_mv jH rfl ?_)))
      obtain ⟨yF,oE,h⟩:=bsome h
      have aK:=RV_cut (RV_arr (p:=lE) qp1163) oE
      refine EL_p ((cutV (arrV lE 8) 0 (Int.toNat ((8:Nat):Int)) 1)) (P_sliceArr (p:=lE) Tryz.underlying116 Tryz.sizeOf5 rfl qp1163 rfl oE) rfl ?_
      obtain ⟨zD,nI,h⟩:=bsome h
      refine EL_do .plain rfl (D_append (g:=gp1163) (i:=1002) Tryz.underlying72 info_5 rfl rfl n9 l9 rfl aK nI fun bK nL kG hs o1166 cK _=>?_)
      have hfr:=hfr.stp hs
      have n8:=n8.stp hs
      have t5:=t5.stp hs
      refine EL_at kG rfl rfl ?_
      exact EL_nil (blk_n (thn_n (sI (zD) _ _ ⟨bK,(kG),hfr,gH,n8,rfl,cK,o1166,dF,t5,eF,rF⟩ h)))
    ·rintro vB xK oL ⟨dK, mH, hfr, nH, oH, pH, qH, sH, sF, tF, uF, vF⟩ h
     refine E_region (EL_in (.int .i64 ((w64 (o0 + (1:Int))))) vF rfl rfl rfl ?_)
     refine EL_mw (.int .i64 ((w64 (o0 + (1:Int))))) rfl rfl ?_
     exact EL_nil (thn_n (qI (vB,(w64 (o0 + (1:Int)))) _ _ ⟨dK,(mH),hfr,nH,oH,pH,qH,sH,sF,tF,uF,rfl⟩ h))
   ·refine E_cf aE rfl ?_
    refine E_exit ?_
    refine thn_e ?_
    refine thn_e ?_
    refine blk_hit ?_
    exact thn_n (pI (aB) _ _ ⟨uE,(mB),hfr,bD,g8,l8⟩ h)
  ·rintro oD yK xL ⟨yL, yD, hfr, tH, uH, qK⟩ h
   refine E_seq (E_region (EL_mv tH rfl ?_))
   refine EL_at yD rfl rfl ?_
   refine EL_at (.int .i64 (0)) rfl rfl ?_
   refine EL_at (.int .i64 (0)) rfl rfl ?_
   refine EL_nil (thn_n (E_ret ?_))
   obtain rfl:=sinj h
   exact end3 rfl rfl (show _=yD from rfl) (show _=.int .i64 (0) from rfl) (show _=.int .i64 (0) from rfl) ⟨_,hfr,_,_,_,rfl,uH,rfl,rfl⟩
theorem P_arr2 {P:Program} {e:Env} {x y:Operand} {t et:TypeId} {b:Nat} {i:Int} (ht:P.underlying t=some (.array 2 et)) (hs:∀ w,(sizeOf et).run P w=.ok 1 w) (hx:ev e x=.pointer (some ⟨b,0,none⟩)) (hy:ev e y=.int .i64 i) (hi:i=0 ∨ i=1):Pur P (.indexAddr t x y) e (.pointer (some ⟨b,i.toNat,none⟩)):=by
 have h:=P_indexAddrA (α:=Int) (P:=P) (e:=e) (v:=(⟨#[0,0],rfl⟩:Vector Int 2)) (i:=i) (a:=0) ht hs hx ⟨b,0,rfl⟩ hy (by rcases hi with rfl | rfl <;> rfl)
 rcases hi with rfl | rfl <;> exact h
def f7h (x0:List BookCloth) (x1:UInt16):Option (List BookCloth × List BookCloth):=
  lp (σ:=(List BookCloth × List BookCloth) × Int) (fun k z=>bif decide (z.2 < (x0.length:Int)) then (shr64 (x1.toNat:Int) (wu64 z.2)).bind fun n=>(idx x0 z.2).bind fun c=>
    bif bit64 .and n 1 == (0:Int) then (apnd 40 z.1.1 [c]).bind fun y=>k ((y,z.1.2),w64 (z.2 + (1:Int))) else bif bit64 .and n 1 == (1:Int) then (apnd 40 z.1.2 [c]).bind fun y=>k ((z.1.1,y),w64 (z.2 + (1:Int))) else none
   else some z.1) big (([],[]),0)
def f7 (x0:List BookCloth) (x1:UInt16):Option (List (List UInt8) × Bool):=
 (f7h x0 x1).bind fun h=>(f17 h.1).bind fun a=>(f17 h.2).bind fun b=>some ([b.1,a.1],bif a.2.2 == (0:Int) then b.2.2 == (0:Int) else false)
theorem en7:Enters Tryz.prog 7:=enters_of Tryz.func7 (by kernel_rfl) rfl
theorem wk7 {gI:Gh} {wI:World} {x0:List BookCloth} {x1:UInt16} {up0:Value} (rp0:RV gI.m wI x0 up0) {r:List (List UInt8) × Bool} (h:f7 x0 x1=some r):Fn Tryz.prog 7 #[up0,.int .u16 x1.toNat] gI wI (fun m w v=>∃ y0 y1,v=.tuple #[y0,y1]∧RV m w r.1 y0∧y1=.bool r.2):=by
 unfold f7 at h
 obtain ⟨⟨a0,a1⟩,hh,h⟩:=bsome h
 obtain ⟨ra,hra,h⟩:=bsome h
 obtain ⟨rb,hrb,h⟩:=bsome h
 obtain rfl:=sinj h
 clear h
 refine fn_of_E Tryz.func7 rfl (Nat.le_of_ble_eq_true rfl) fun g0 hm hfr=>?_
 have rp0:RV g0.m wI x0 up0:=hm ▸ rp0
 show E _ 62 none _ _ _ _ _
 refine E_seq (E_region ?_)
 refine EL_at (.slice none 0 0) rfl rfl ?_
 refine EL_at (.bool false) rfl rfl ?_
 refine EL_nil (thn_n ?_)
 refine E_seq (E_region ?_)
 refine EL_p (.agg #[.slice none 0 0,.slice none 0 0]) (show Pur _ _ _ (.agg #[.slice none 0 0,.slice none 0 0]) from P_buildA (s:=1) (zc:=[.slice none 0 0,.slice none 0 0]) (vs:=[]) [[.slice none 0 0],[.slice none 0 0]] Tryz.underlying70 (by kernel_rfl) (by kernel_rfl) rfl (by simp) .nil trivial) rfl ?_
 refine EL_do .plain rfl (D_allocOc (g:=g0) 2 (([],[]):List BookCloth × List BookCloth) Tryz.zeroValue70 (fun m w=>⟨_,rep_two rep_nil rep_nil,rfl⟩) fun g1 w1 pt hs1 b1 _=>?_)
 refine EL_do .plain rfl (D_storeOc (g:=g1) (a':=(([],[]):List BookCloth × List BookCloth)) (v:=.agg #[.slice none 0 0,.slice none 0 0]) Tryz.sizeOf70 rfl b1 rfl ⟨_,rep_two rep_nil rep_nil,rfl⟩ fun g2 w2 hs2 b2 c2=>?_)
 have hfr:=(hfr.stp hs1).stp hs2
 have rp2:=(rp0.stp hs1).stp hs2
 obtain ⟨bk,cs,rfl,ho2,hm2,hh2,_⟩:=b2
 obtain ⟨bk2,hp,_,hc2⟩:=c2
 injection hp with hp; injection hp with hp; injection hp with hp _
 subst hp
 have hb2:HBm 2 g2 w2 bk (.cells #[.slice none 0 0,.slice none 0 0] 70 (0,0)):=⟨ho2,hm2,hc2⟩
 clear hs1 hs2 b1 hc2 hh2
 refine EL_nil (thn_n (E_joinD (fun e ds w'=>ds=[]∧e 6=.pointer (some ⟨bk,0,none⟩)∧∃ g' v0 v1,Fr gI wI g' w'∧HBm 2 g' w' bk (.cells #[v0,v1] 70 (0,0))∧RV g'.m w' a0 v0∧RV g'.m w' a1 v1) (fun Q' hQ=>?_) (fun e ds w' hR=>?_)))
 ·clear hra hrb
  refine E_seq (E_region (EL_at (.int .i64 0) rfl rfl (EL_nil (thn_n (E_block ?_)))))
  unfold f7h at hh
  refine E_lpD hh (fun (z:(List BookCloth × List BookCloth) × Int) e ds w'=>ds=[]∧e 0=up0∧e 1=.int .u16 x1.toNat∧e 6=.pointer (some ⟨bk,0,none⟩)∧e 7=.int .i64 z.2∧∃ g' v0 v1,Fr gI wI g' w'∧Ch g2.m w2 g'.m w'∧HBm 2 g' w' bk (.cells #[v0,v1] 70 (0,0))∧RV g'.m w' z.1.1 v0∧OS 3 g' w' 63 z.1.1 v0∧RV g'.m w' z.1.2 v1∧OS 4 g' w' 63 z.1.2 v1) ⟨rfl,rfl,rfl,rfl,rfl,g2,_,_,hfr,Ch.refl _ _,hb2,RV_nil,OS.nil,RV_nil,OS.nil⟩ (fun X rec hrec=>?_)
  rintro ⟨⟨z0,z1⟩,n⟩ e ds w1 ⟨rfl,e0,e1,e6,e7,g,v0,v1,hfr,hch,hb,r0,o0,r1,o1⟩ hk
  have rp:=rp2.ch hch
  refine E_seq (E_seq (E_region ?_))
  refine EL_mv e7 rfl ?_
  refine EL_mv e0 rfl ?_
  refine EL_p (.int .i64 (x0.length:Int)) (P_len (v:=up0) Tryz.underlying33 rfl rp) rfl ?_
  refine EL_in (.bool (decide (n < (x0.length:Int)))) rfl rfl rfl rfl ?_
  refine EL_nil (thn_n ?_)
  rcases csome hk with ⟨hc,hk⟩ | ⟨hc,hk⟩
  ·refine E_ct hc rfl (E_skip (thn_n ?_))
   obtain ⟨sh,hsh,hk⟩:=bsome hk
   obtain ⟨c,hcl,hk⟩:=bsome hk
   refine E_joinD (fun e ds w'=>ds=[]∧e 0=up0∧e 1=.int .u16 x1.toNat∧e 6=.pointer (some ⟨bk,0,none⟩)∧e 7=.int .i64 n∧∃ g' v0 v1 y0 y1,rec ((y0,y1),w64 (n + (1:Int)))=some (a0,a1)∧Fr gI wI g' w'∧Ch g2.m w2 g'.m w'∧HBm 2 g' w' bk (.cells #[v0,v1] 70 (0,0))∧RV g'.m w' y0 v0∧OS 3 g' w' 63 y0 v0∧RV g'.m w' y1 v1∧OS 4 g' w' 63 y1 v1) (fun Q2 hQ2=>?_) (fun e ds w2 hR=>?_)
   ·refine E_block (E_seq (E_region ?_))
    refine EL_mv e1 rfl ?_
    refine EL_p (.int .i64 (x1.toNat:Int)) (P_u16int Tryz.underlying42 Tryz.underlying3 rfl) rfl ?_
    refine EL_mv e7 rfl ?_
    refine EL_p (.int .u64 (wu64 n)) (P_intu64 Tryz.underlying3 Tryz.underlying71 rfl) rfl ?_
    refine EL_p (.int .i64 sh) (P_shru rfl rfl hsh) rfl ?_
    refine EL_in (.int .i64 (bit64 .and sh 1)) rfl rfl rfl rfl ?_
    refine EL_at (.int .i64 (bit64 .and sh 1)) rfl rfl ?_
    refine EL_nil (thn_n ?_)
    refine L_load (x:=.tmp 34) Tryz.isAgg63 Tryz.sizeOf63 (PT_idx rp hcl) fun vc rc hld=>?_
    rcases csome hk with ⟨hk0,hk⟩ | ⟨hk0,hk⟩
    ·obtain ⟨y, hy, hk⟩ := bsome hk
     have hk0:bit64 .and sh 1=0:=by simpa using hk0
     have hl:=L_ldW (x:=.tmp 30) Tryz.isAgg33 hb (o:=0) (c:=v0) rfl
     refine E_drawC (g:=g) (n:=10) [0,1,2,3,4,5,6,7] [2] [0,1,2,3,4,5,6,7,8,9] rfl mixedS (by kernel_rfl) fun wc hx hlt=>?_
     refine CH_pur (c:=.int .i64 0) rfl rfl .plain (P_move (congrArg (Value.int .i64) hk0)) ?_
     refine CH_pur (c:=.int .i64 0) rfl rfl .plain (P_move (congrArg (Value.int .i64) hk0)) ?_
     refine CH_pur (c:=.pointer (some ⟨bk,0,none⟩)) rfl rfl .plain (P_arr2 (i:=0) Tryz.underlying70 Tryz.sizeOf33 e6 rfl (.inl rfl)) ?_
     refine CH_ldO (n:=2) (c:=v0) rfl rfl .plain hl rfl rfl ?_
     refine CH_pur (c:=up0) rfl rfl .plain (P_move e0) ?_
     refine CH_pur (c:=.int .i64 n) rfl rfl .plain (P_move e7) ?_
     refine CH_pur (c:=ePtr up0 n 5) rfl rfl .plain (P_indexAddr (α:=BookCloth) Tryz.underlying33 Tryz.sizeOf63 rfl rp rfl hcl) ?_
     refine CH_ldP (c:=vc) rfl rfl .plain hld rfl ?_
     refine CH_do rfl rfl .plain (D_buildSlice (g:=g) 5 (xs:=([c]:List BookCloth)) (vs:=[vc]) Tryz.underlying33 Tryz.sizeOf63 Tryz.zeroValue63 rfl rfl (.cons rfl .nil) (RVs.cons (rc.ext hx) RVs.nil) rfl rfl fun g3 w3 v3 _ _ r3 hx3 _=>?_)
     have hlt3:=hlt.ext hx3
     refine ⟨hlt3.toW,?_⟩
     refine CH_do rfl rfl .plain (D_append (g:=g3) (i:=3) Tryz.underlying33 info_63 rfl rfl ((o0.ext hx).ext hx3) ((r0.ext hx).ext hx3) rfl r3 hy fun g4 w4 v4 hs4 o4 r4 _=>?_)
     refine ⟨(hlt3.stp hs4 rfl).toW,?_⟩
     refine CH_nil ?_
     refine EL_p (.pointer (some ⟨bk,0,none⟩)) (P_arr2 (i:=0) Tryz.underlying70 Tryz.sizeOf33 e6 rfl (.inl rfl)) rfl ?_
     refine EL_do .plain rfl (D_store1 (c:=v4) Tryz.sizeOf33 rfl rfl (by obtain ⟨_,_,rfl,_⟩:=RV_list r4; rfl) (by simp) (((hb.ext hx).ext hx3).stp hs4 rfl) fun w5 hs5 hb5 _=>?_)
     refine EL_nil (blk_n (hQ2 _ _ _ ⟨rfl,e0,e1,e6,e7,g4,v4,v1,y,z1,hk,(((hfr.ext hx).ext hx3).stp hs4).stp hs5,hch.trans (hx.ch.trans (hx3.ch.trans (hs4.ch.trans hs5.ch))),hb5,r4.stp hs5,o4.stp hs5 rfl,(((r1.ext hx).ext hx3).stp hs4).stp hs5,(((o1.ext hx).ext hx3).stp hs4 rfl).stp hs5 rfl⟩))
    ·rcases csome hk with ⟨hk1, hk⟩ | ⟨_, hk⟩
     ·obtain ⟨y, hy, hk⟩ := bsome hk
      have hk1:bit64 .and sh 1=1:=by simpa using hk1
      have hl:=L_ldW (x:=.tmp 30) Tryz.isAgg33 hb (o:=1) (c:=v1) rfl
      refine E_drawC (g:=g) (n:=10) [0,1,2,3,4,5,6,7] [2] [0,1,2,3,4,5,6,7,8,9] rfl mixedS (by kernel_rfl) fun wc hx hlt=>?_
      refine CH_pur (c:=.int .i64 1) rfl rfl .plain (P_move (congrArg (Value.int .i64) hk1)) ?_
      refine CH_pur (c:=.int .i64 1) rfl rfl .plain (P_move (congrArg (Value.int .i64) hk1)) ?_
      refine CH_pur (c:=.pointer (some ⟨bk,1,none⟩)) rfl rfl .plain (P_arr2 (i:=1) Tryz.underlying70 Tryz.sizeOf33 e6 rfl (.inr rfl)) ?_
      refine CH_ldO (n:=2) (c:=v1) rfl rfl .plain hl rfl rfl ?_
      refine CH_pur (c:=up0) rfl rfl .plain (P_move e0) ?_
      refine CH_pur (c:=.int .i64 n) rfl rfl .plain (P_move e7) ?_
      refine CH_pur (c:=ePtr up0 n 5) rfl rfl .plain (P_indexAddr (α:=BookCloth) Tryz.underlying33 Tryz.sizeOf63 rfl rp rfl hcl) ?_
      refine CH_ldP (c:=vc) rfl rfl .plain hld rfl ?_
      refine CH_do rfl rfl .plain (D_buildSlice (g:=g) 5 (xs:=([c]:List BookCloth)) (vs:=[vc]) Tryz.underlying33 Tryz.sizeOf63 Tryz.zeroValue63 rfl rfl (.cons rfl .nil) (RVs.cons (rc.ext hx) RVs.nil) rfl rfl fun g3 w3 v3 _ _ r3 hx3 _=>?_)
      have hlt3:=hlt.ext hx3
      refine ⟨hlt3.toW,?_⟩
      refine CH_do rfl rfl .plain (D_append (g:=g3) (i:=4) Tryz.underlying33 info_63 rfl rfl ((o1.ext hx).ext hx3) ((r1.ext hx).ext hx3) rfl r3 hy fun g4 w4 v4 hs4 o4 r4 _=>?_)
      refine ⟨(hlt3.stp hs4 rfl).toW,?_⟩
      refine CH_nil ?_
      refine EL_p (.pointer (some ⟨bk,1,none⟩)) (P_arr2 (i:=1) Tryz.underlying70 Tryz.sizeOf33 e6 rfl (.inr rfl)) rfl ?_
      refine EL_do .plain rfl (D_store1 (c:=v4) Tryz.sizeOf33 rfl rfl (by obtain ⟨_,_,rfl,_⟩:=RV_list r4; rfl) (by simp) (((hb.ext hx).ext hx3).stp hs4 rfl) fun w5 hs5 hb5 _=>?_)
      refine EL_nil (blk_n (hQ2 _ _ _ ⟨rfl,e0,e1,e6,e7,g4,v0,v4,z0,y,hk,(((hfr.ext hx).ext hx3).stp hs4).stp hs5,hch.trans (hx.ch.trans (hx3.ch.trans (hs4.ch.trans hs5.ch))),hb5,(((r0.ext hx).ext hx3).stp hs4).stp hs5,(((o0.ext hx).ext hx3).stp hs4 rfl).stp hs5 rfl,r4.stp hs5,o4.stp hs5 rfl⟩))
     ·cases hk
   ·obtain ⟨rfl, e0, e1, e6, e7, g, v0, v1, y0, y1, hk, hfr, hch, hb, r0, o0, r1, o1⟩ := hR
    refine E_region ?_
    refine EL_mv e7 rfl ?_
    refine EL_in (.int .i64 (w64 (n + (1:Int)))) rfl rfl rfl rfl ?_
    refine EL_at (.int .i64 (w64 (n + (1:Int)))) rfl rfl ?_
    exact EL_nil (thn_n (hrec ((y0,y1),w64 (n + 1)) _ _ _ ⟨rfl,e0,e1,e6,rfl,g,v0,v1,hfr,hch,hb,r0,o0,r1,o1⟩ hk))
  ·refine E_cf hc rfl ?_
   refine E_exit (thn_e (thn_e (blk_hit ?_)))
   obtain ⟨rfl,rfl⟩:=pairs2 hk
   exact hQ _ _ _ ⟨rfl,e6,g,v0,v1,hfr,hb,r0,r1⟩
 obtain ⟨rfl,e6,g,v0,v1,hfr,hb,r0,r1⟩:=hR
 refine E_seq (E_region ?_)
 refine EL_p (.pointer (some ⟨bk,0,none⟩)) (P_arr2 (i:=0) Tryz.underlying70 Tryz.sizeOf33 e6 rfl (.inl rfl)) rfl ?_
 refine EL_do .plain rfl (D_load1 Tryz.isAgg33 rfl (hb.cell.trans rfl) ?_)
 refine EL_do .plain rfl (D_call (g:=g) (vs:=[v0]) en17 (.cons rfl .nil) (wk17 r0 hra) fun g1 w1 v2 hx1 hv=>?_)
 obtain ⟨y0,y1,y2,rfl,ry0,rfl,rfl⟩:=hv
 have hfr:=hfr.ext hx1
 refine EL_mw (.tuple #[y0,.int .i64 ra.2.1,.int .i64 ra.2.2]) rfl rfl ?_
 refine EL_p y0 (P_extract rfl rfl) rfl ?_
 refine EL_p (.int .i64 ra.2.1) (P_extract rfl rfl) rfl ?_
 refine EL_p (.int .i64 ra.2.2) (P_extract rfl rfl) rfl ?_
 refine EL_at y0 rfl rfl ?_
 refine EL_at (.int .i64 ra.2.1) rfl rfl ?_
 refine EL_at (.int .i64 ra.2.2) rfl rfl ?_
 refine EL_nil (thn_n (E_seq (E_region ?_)))
 have hb1:=hb.ext hx1
 have r11:=r1.ext hx1
 refine EL_p (.pointer (some ⟨bk,1,none⟩)) (P_arr2 (i:=1) Tryz.underlying70 Tryz.sizeOf33 e6 rfl (.inr rfl)) rfl ?_
 refine EL_do .plain rfl (D_load1 Tryz.isAgg33 rfl (hb1.cell.trans rfl) ?_)
 refine EL_do .plain rfl (D_call (g:=g1) (vs:=[v1]) en17 (.cons rfl .nil) (wk17 r11 hrb) fun g3 w3 v3 hx3 hv=>?_)
 obtain ⟨z0,z1,z2,rfl,rz0,rfl,rfl⟩:=hv
 have hfr:=hfr.ext hx3
 have ry0:=ry0.ext hx3
 refine EL_mw (.tuple #[z0,.int .i64 rb.2.1,.int .i64 rb.2.2]) rfl rfl ?_
 refine EL_p z0 (P_extract rfl rfl) rfl ?_
 refine EL_p (.int .i64 rb.2.1) (P_extract rfl rfl) rfl ?_
 refine EL_p (.int .i64 rb.2.2) (P_extract rfl rfl) rfl ?_
 refine EL_at z0 rfl rfl ?_
 refine EL_at (.int .i64 rb.2.1) rfl rfl ?_
 refine EL_at (.int .i64 rb.2.2) rfl rfl ?_
 refine EL_nil (thn_n (E_seq (E_region ?_)))
 refine EL_mw z0 rfl rfl ?_
 refine EL_mw y0 rfl rfl ?_
 refine EL_do .plain rfl (D_buildSlice (g:=g3) 6 (xs:=([rb.1,ra.1]:List (List UInt8))) (vs:=[z0,y0]) Tryz.underlying39 Tryz.sizeOf72 Tryz.zeroValue72 rfl rfl (.cons rfl (.cons rfl .nil)) (RVs.cons rz0 (RVs.cons ry0 RVs.nil)) rfl rfl fun g5 w5 v5 _ _ r5 hx5 _=>?_)
 have hfr:=hfr.ext hx5
 refine EL_mw (.int .i64 ra.2.2) rfl rfl ?_
 refine EL_in (.bool (ra.2.2 == (0:Int))) rfl rfl rfl rfl ?_
 refine EL_mw (.bool (ra.2.2 == (0:Int))) rfl rfl ?_
 rcases Bool.eq_false_or_eq_true (ra.2.2 == (0:Int)) with hq | hq
 ·refine EL_y (.int .i64 rb.2.2) (P_move rfl) rfl rfl hq rfl ?_
  refine EL_y (.bool (rb.2.2 == (0:Int))) (P_int rfl rfl rfl) rfl rfl hq rfl ?_
  refine EL_p (.bool (rb.2.2 == (0:Int))) (P_pick (b:=ra.2.2 == (0:Int)) rfl (pick_t hq rfl)) rfl ?_
  refine EL_at v5 rfl rfl ?_
  refine EL_at (.bool (rb.2.2 == (0:Int))) rfl rfl ?_
  refine EL_nil (thn_n (E_ret ?_))
  exact end2 rfl rfl rfl rfl ⟨_,hfr,_,_,rfl,r5,by show Value.bool (rb.2.2 == (0:Int))=Value.bool (bif ra.2.2 == (0:Int) then rb.2.2 == (0:Int) else false); rw [hq]; rfl⟩
 ·refine EL_s rfl rfl hq rfl rfl ?_
  refine EL_s rfl rfl hq rfl rfl ?_
  refine EL_p (.bool false) (P_pick (b:=ra.2.2 == (0:Int)) rfl (pick_f hq rfl)) rfl ?_
  refine EL_at v5 rfl rfl ?_
  refine EL_at (.bool false) rfl rfl ?_
  refine EL_nil (thn_n (E_ret ?_))
  exact end2 rfl rfl rfl rfl ⟨_,hfr,_,_,rfl,r5,by show Value.bool false=Value.bool (bif ra.2.2 == (0:Int) then rb.2.2 == (0:Int) else false); rw [hq]; rfl⟩

def f23 (x0:Span):Option (Bool):=
 (f55 x0 ((0:Int)) ((200:Int))).bind fun y4=>
 some (y4)
theorem en23:Enters Tryz.prog 23:=enters_of Tryz.func23 (by kernel_rfl) rfl
theorem wk23 {gI:Gh} {wI:World} {x0:Span} {up0:Value} (rp0:RV gI.m wI x0 up0) {r:Bool} (h:f23 x0=some r):Fn Tryz.prog 23 #[up0] gI wI (fun _ _ v=>v=.bool (r)):=by
 unfold f23 at h
 refine fn_of_E Tryz.func23 rfl (Nat.le_of_ble_eq_true rfl) fun g0 hm hfr=>?_
 have rp0:RV g0.m wI x0 up0:=hm ▸ rp0
 show E _ 5 none _ _ _ _ _
 refine E_seq (E_region (EL_do .plain rfl (D_box (g:=g0) rfl rp0 fun g1 w1 p1 hs q1=>?_)))
 have hfr:=hfr.ext hs
 refine EL_at (.bool false) rfl rfl ?_
 refine EL_nil (thn_n (E_seq (E_region (EL_do .plain rfl (D_load (g:=g1) Tryz.isAgg56 Tryz.sizeOf56 rfl q1 fun v2 r2=>?_)))))
 obtain ⟨y4,o0,h⟩:=bsome h
 refine EL_do .plain rfl (D_call (g:=g1) (vs:=[v2,.int .i64 (0),.int .i64 (200)]) en55 (.cons rfl (.cons rfl (.cons rfl .nil))) (wk55 r2 o0) fun g3 w3_ v3 hs hr=>?_)
 have hfr:=hfr.ext hs
 subst hr
 refine EL_at (.bool (y4)) rfl rfl ?_
 refine EL_nil (thn_n (E_ret ?_))
 obtain rfl:=sinj h
 exact end1 rfl rfl (show _=.bool (y4) from rfl) ⟨_,hfr,rfl⟩
def f29 (x0:BeamWarp) (x1:Int):Option (Int × Int):=
 jn (σ:=Unit) (fun _=>
  jn (σ:=Unit) (fun _=>
   (f60 ((10000000001:Int)) ((fun a0=>f61 a0 x0 x1))).bind fun l5=>
   jn (σ:=Unit) (fun _=>
    some (l5,(0:Int))
    ) fun k28=>
   bif (decide (l5 > (10000000000 : Int))) then
    some ((0:Int),(7:Int))
   else
    k28 ()
   ) fun k18=>
  (f27 (([x1]:List Int))).bind fun n9=>
  bif (!n9) then
   some ((0:Int),(3:Int))
  else
   k18 ()
  ) fun k7=>
 (f59 x0).bind fun t5=>
 bif (t5 != (0 : Int)) then
  some ((0:Int),t5)
 else
  k7 ()
theorem en29:Enters Tryz.prog 29:=enters_of Tryz.func29 (by kernel_rfl) rfl
theorem wk29 {gI:Gh} {wI:World} {x0:BeamWarp} {x1:Int} {up0:Value} (rp0:RV gI.m wI x0 up0) {r:Int × Int} (h:f29 x0 x1=some r):Fn Tryz.prog 29 #[up0,.int .i64 (x1)] gI wI (fun m w v=>∃ y0 y1,v=.tuple #[y0,y1]∧y0=.int .i64 (r.1)∧y1=.int .i64 (r.2)):=by
 unfold f29 at h
 refine fn_of_E Tryz.func29 rfl (Nat.le_of_ble_eq_true rfl) fun g0 hm hfr=>?_
 have rp0:RV g0.m wI x0 up0:=hm ▸ rp0
 show E _ 22 none _ _ _ _ _
 refine E_seq (E_region (EL_do .plain rfl (D_box (g:=g0) rfl rp0 fun g1 w1 p1 hs q1=>?_)))
 have hfr:=hfr.ext hs
 refine EL_do .plain rfl (D_box (g:=g1) rfl (RV_int.2 rfl) fun g2 w2 p2 hs q2=>?_)
 have hfr:=hfr.ext hs
 have q1:=q1.ext hs
 refine EL_at (.int .i64 (0)) rfl rfl ?_
 refine EL_at (.int .i64 (0)) rfl rfl ?_
 refine EL_nil (thn_n (E_joinC h (fun (s:Unit) e w=>∃ (g:Gh) ,Fr gI wI g w∧e 2=p1∧PT g.m w (x0:BeamWarp) p1∧e 3=p2∧PT g.m w (x1:Int) p2) (fun X7 k7 hk7 h=>?_) ?_))
 ·refine E_seq (E_region (EL_do .plain rfl (D_load (g := g2) Tryz.isAgg108 Tryz.sizeOf108 rfl q1 fun v8 r8 => ?_)))
  obtain ⟨t5,zB,h⟩:=bsome h
  refine EL_do .plain rfl (D_call (g:=g2) (vs:=[v8]) en59 (.cons rfl .nil) (wk59 r8 zB) fun g9 w9_ v9 hs hr=>?_)
  have hfr:=hfr.ext hs
  have q1:=q1.ext hs
  have q2:=q2.ext hs
  subst hr
  refine EL_at (.int .i64 (t5)) rfl rfl ?_
  refine EL_nil (thn_n (E_seq (E_region (EL_mw (.int .i64 (t5)) rfl rfl ?_))))
  refine EL_in (.bool ((t5 != (0:Int)))) rfl rfl rfl rfl ?_
  refine EL_nil (thn_n ?_)
  rcases csome h with ⟨g8,h⟩ | ⟨g8,h⟩
  ·refine E_ct g8 rfl ?_
   refine E_seq (E_region (EL_mw (.int .i64 (t5)) rfl rfl ?_))
   refine EL_at (.int .i64 (0)) rfl rfl ?_
   refine EL_at (.int .i64 (t5)) rfl rfl ?_
   refine EL_nil (thn_n (E_ret (thn_r ?_)))
   obtain rfl:=sinj h
   exact end2 rfl rfl (show _=.int .i64 (0) from rfl) (show _=.int .i64 (t5) from rfl) ⟨_,hfr,_,_,rfl,rfl,rfl⟩
  ·refine E_cf g8 rfl ?_
   exact E_skip (thn_n (hk7 () _ _ ⟨g9,hfr,rfl,q1,rfl,q2⟩ h))
 ·rintro _ bE rE ⟨yB, hfr, aB, i6, l9, o0⟩ h
  refine E_joinC h (fun (s:Unit) e w=>∃ (g:Gh) ,Fr gI wI g w∧e 2=p1∧PT g.m w (x0:BeamWarp) p1∧e 3=p2∧PT g.m w (x1:Int) p2) (fun X18 k18 cC h=>?_) ?_
  ·refine E_seq (E_region (EL_do .plain rfl (D_load (g := yB) Tryz.isAgg3 Tryz.sizeOf3 l9 o0 fun uE cD => ?_)))
   obtain rfl:=RV_int.1 cD
   refine EL_do .plain rfl (D_buildSlice (g:=yB) 3014 (xs:=([x1]:List Int)) (vs:=[.int .i64 (x1)]) Tryz.underlying25 Tryz.sizeOf3 Tryz.zeroValue3 rfl rfl (.cons rfl .nil) (RVs.cons (RV_int.2 rfl) RVs.nil) rfl rfl fun lD vE nD hs o20 oD hxt hfl=>?_)
   have hfr:=hfr.stp hs
   have i6:=i6.stp hs
   have o0:=o0.stp hs
   obtain ⟨n9,uC,h⟩:=bsome h
   refine EL_do .plain rfl (D_call (g:=lD) (vs:=[nD]) en27 (.cons rfl .nil) (wk27 oD uC) fun yD iE xE hs hr=>?_)
   have hfr:=hfr.ext hs
   have i6:=i6.ext hs
   have o0:=o0.ext hs
   subst hr
   refine EL_p (.bool (!n9)) (P_not rfl) rfl ?_
   refine EL_nil (thn_n ?_)
   rcases csome h with ⟨l8,h⟩ | ⟨l8,h⟩
   ·refine E_ct l8 rfl ?_
    refine E_seq (E_region (EL_at (.int .i64 (0)) rfl rfl ?_))
    refine EL_at (.int .i64 (3)) rfl rfl ?_
    refine EL_nil (thn_n (E_ret (thn_r ?_)))
    obtain rfl:=sinj h
    exact end2 rfl rfl (show _=.int .i64 (0) from rfl) (show _=.int .i64 (3) from rfl) ⟨_,hfr,_,_,rfl,rfl,rfl⟩
   ·refine E_cf l8 rfl ?_
    exact E_skip (thn_n (cC () _ _ ⟨yD,hfr,aB,i6,l9,o0⟩ h))
  ·rintro _ lE yE ⟨zD, hfr, lB, mB, nB, oB⟩ h
   refine E_seq (E_region (EL_p ((.func (.func 61) #[] #[p1,p2])) (P_makeFunc (capf_0_2 (show ev _ _=p1 from lB) (show ev _ _=p2 from nB))) rfl ?_))
   obtain ⟨l5,vC,h⟩:=bsome h
   refine EL_do .plain rfl (D_call (g:=zD) (vs:=[.int .i64 (10000000001),(.func (.func 61) #[] #[p1,p2])]) en60 (.cons rfl (.cons rfl .nil)) (wk60 ⟨61,#[],#[p1,p2],rfl,en61,fun g' w' hch a0 b0 r hu0 hr=>by obtain rfl:=RV_int.1 hu0; exact Fn.mono (wk61  (mB.ch hch) (oB.ch hch) hr) fun _ _ _ h=>RV_bool.2 h⟩ vC) fun aE mE zE hs hr=>?_)
   have hfr:=hfr.ext hs
   subst hr
   refine EL_at (.int .i64 (l5)) rfl rfl ?_
   refine EL_nil (thn_n (E_joinC h (fun (s:Unit) e w=>∃ (g:Gh) ,Fr gI wI g w∧e 7=.int .i64 (l5)) (fun X28 k28 bD h=>?_) ?_))
   ·refine E_seq (E_region (EL_mw (.int .i64 (l5)) rfl rfl ?_))
    refine EL_in (.bool ((decide (l5 > (10000000000:Int))))) rfl rfl rfl rfl ?_
    refine EL_nil (thn_n ?_)
    rcases csome h with ⟨n8,h⟩ | ⟨n8,h⟩
    ·refine E_ct n8 rfl ?_
     refine E_seq (E_region (EL_at (.int .i64 (0)) rfl rfl ?_))
     refine EL_at (.int .i64 (7)) rfl rfl ?_
     refine EL_nil (thn_n (E_ret (thn_r ?_)))
     obtain rfl:=sinj h
     exact end2 rfl rfl (show _=.int .i64 (0) from rfl) (show _=.int .i64 (7) from rfl) ⟨_,hfr,_,_,rfl,rfl,rfl⟩
    ·refine E_cf n8 rfl ?_
     exact E_skip (thn_n (bD () _ _ ⟨aE,hfr,rfl⟩ h))
   ·rintro _ oE cF ⟨dF, hfr, vB⟩ h
    refine E_seq (E_region (EL_mv vB rfl ?_))
    refine EL_at (.int .i64 (l5)) rfl rfl ?_
    refine EL_at (.int .i64 (0)) rfl rfl ?_
    refine EL_nil (thn_n (E_ret ?_))
    obtain rfl:=sinj h
    exact end2 rfl rfl (show _=.int .i64 (l5) from rfl) (show _=.int .i64 (0) from rfl) ⟨_,hfr,_,_,rfl,rfl,rfl⟩
def f32 (x0:List UInt8):Option ((List BookCloth) × Int):=
 jn (σ:=Unit) (fun _=>
  (vecN 8 x0).bind fun y5=>
  jn (σ:=Unit) (fun _=>
   Option.bind (α:=(List BookCloth)) (
    lp (σ:=(List BookCloth) × Int) (fun dF (yB,l5)=>
     bif (decide (l5 < (8 : Int))) then
      Option.bind (α:=(List BookCloth)) (
       lp (σ:=(List BookCloth) × Int) (fun eF (lB,l8)=>
        bif (decide (l8 < (256 : Int))) then
         Option.bind (α:=(List BookCloth)) (
          (idx (y5).toList l5).bind fun qH=>
          (f68 ((vset y5 l5 ((u8w l8))))).bind fun v8=>
          bif (v8.2 == (0 : Int)) then
           (apnd 40 lB (([v8.1]:List BookCloth))).bind fun rF=>
           some (rF)
          else
           some (lB)
          ) fun l9=>
         eF (l9,(w64 (l8 + (1:Int))))
        else
         some (lB)
        ) big (yB,(0:Int))
       ) fun n9=>
      dF (n9,(w64 (l5 + (1:Int))))
     else
      some (yB)
     ) big ([],(0:Int))
    ) fun mB=>
   some (mB,(0:Int))
   ) fun pH=>
  (f68 y5).bind fun zB=>
  bif (zB.2 == (0 : Int)) then
   some ([],(6:Int))
  else
   pH ()
  ) fun k2=>
 bif (((x0).length : Int) != (8 : Int)) then
  some ([],(4:Int))
 else
  k2 ()
theorem en32:Enters Tryz.prog 32:=enters_of Tryz.func32 (by kernel_rfl) rfl
theorem wk32 {gI:Gh} {wI:World} {x0:List UInt8} {up0:Value} (rp0:RV gI.m wI x0 up0) {r:(List BookCloth) × Int} (h:f32 x0=some r):Fn Tryz.prog 32 #[up0] gI wI (fun m w v=>∃ y0 y1,v=.tuple #[y0,y1]∧RV m w (r.1) y0∧y1=.int .i64 (r.2)):=by
 unfold f32 at h
 refine fn_of_E Tryz.func32 rfl (Nat.le_of_ble_eq_true rfl) fun g0 hm hfr=>?_
 have rp0:RV g0.m wI x0 up0:=hm ▸ rp0
 show E _ 50 none _ _ _ _ _
 refine E_seq (E_region (EL_at (.slice none 0 0) rfl rfl ?_))
 refine EL_at (.int .i64 (0)) rfl rfl ?_
 refine EL_nil (thn_n (E_joinC h (fun (s:Unit) e w=>∃ (g:Gh) ,Fr gI wI g w∧e 0=up0∧RV g.m w (x0:List UInt8) up0∧e 2=.slice none 0 0∧RV g.m w ([]:List BookCloth) (Value.slice none 0 0)) (fun X2 k2 hk2 h=>?_) ?_))
 ·refine E_seq (E_region (EL_mw up0 rfl rfl ?_))
  refine EL_p (.int .i64 ((x0).length:Int)) (P_len Tryz.underlying72 rfl rp0) rfl ?_
  refine EL_in (.bool ((((x0).length:Int) != (8:Int)))) rfl rfl rfl rfl ?_
  refine EL_nil (thn_n ?_)
  rcases csome h with ⟨hc3,h⟩ | ⟨hc3,h⟩
  ·refine E_ct hc3 rfl ?_
   refine E_seq (E_region (EL_at (.slice none 0 0) rfl rfl ?_))
   refine EL_at (.int .i64 (4)) rfl rfl ?_
   refine EL_nil (thn_n (E_ret (thn_r ?_)))
   obtain rfl:=sinj h
   exact end2 rfl rfl (show _=.slice none 0 0 from rfl) (show _=.int .i64 (4) from rfl) ⟨_,hfr,_,_,rfl,RV_nil,rfl⟩
  ·refine E_cf hc3 rfl ?_
   exact E_skip (thn_n (hk2 () _ _ ⟨g0,hfr,rfl,rp0,rfl,RV_nil⟩ h))
 ·rintro _ iL w4 ⟨g4, hfr, sH, sF, tH, n8⟩ h
  refine E_seq (E_region (EL_mv sH rfl ?_))
  obtain ⟨y5,hy5,h⟩:=bsome h
  have q6:=PT_arrAt sF hy5
  refine EL_p ((ptrV up0)) (P_arrAt Tryz.underlying116 rfl sF hy5) rfl ?_
  refine EL_do .plain rfl (D_load (g:=g4) Tryz.isAgg116 Tryz.sizeOf116 rfl q6 fun v7 r7=>?_)
  refine EL_do .plain rfl (D_allocOc (g:=g4) 2004 ((⟨List.toArray [0,0,0,0,0,0,0,0],rfl⟩:Vector UInt8 8):Vector UInt8 8) Tryz.zeroValue116 (fun m w=>⟨_,(rep_vec (flat_chunk rep_u8 (flat_chunk rep_u8 (flat_chunk rep_u8 (flat_chunk rep_u8 (flat_chunk rep_u8 (flat_chunk rep_u8 (flat_chunk rep_u8 (flat_chunk rep_u8 flat_nil)))))))) rfl),rfl⟩) fun g8 w8 p8 hs b8 cb=>?_)
  have hfr:=hfr.stp hs
  have n8:=n8.stp hs
  have r7:=r7.stp hs
  clear cb
  refine EL_do .plain rfl (D_storeOc (g:=g8) (v:=v7) Tryz.sizeOf116 rfl b8 rfl r7 fun g9 w9 hs b9 cb=>?_)
  clear cb
  have hfr:=hfr.stp hs
  have n8:=n8.stp hs
  refine EL_nil (thn_n (E_joinC h (fun (s:Unit) e w=>∃ (g:Gh) ,Fr gI wI g w∧e 2=.slice none 0 0∧RV g.m w ([]:List BookCloth) (Value.slice none 0 0)∧e 4=p8∧OB 2004 g w 116 (y5:Vector UInt8 8) p8) (fun X16 pH uH h=>?_) ?_))
  ·refine E_seq (E_region (EL_do .plain rfl (D_loadO (g := g9) Tryz.isAgg116 Tryz.sizeOf116 rfl b9 fun lJ mJ => ?_)))
   obtain ⟨zB,xH,h⟩:=bsome h
   refine EL_do .plain rfl (D_call (g:=g9) (vs:=[lJ]) en68 (.cons rfl .nil) (wk68 mJ xH) fun nJ lK jL hs hr=>?_)
   have hfr:=hfr.ext hs
   have n8:=n8.ext hs
   have b9:=b9.ext hs
   obtain ⟨cD,vJ,rfl,lD,rfl⟩:=hr
   refine EL_mw (.tuple #[cD,.int .i64 (zB.2)]) rfl rfl ?_
   refine EL_p cD (P_extract rfl rfl) rfl ?_
   refine EL_p (.int .i64 (zB.2)) (P_extract rfl rfl) rfl ?_
   refine EL_do .plain rfl (D_allocOc (g:=nJ) 2005 (⟨0,0,0,0,0⟩:BookCloth) Tryz.zeroValue63 (fun m w=>⟨_,(rep_two rep_int (rep_two rep_int (rep_two rep_int (rep_two rep_int rep_int)))),rfl⟩) fun oJ lL mL hs b20 cb=>?_)
   have hfr:=hfr.stp hs
   have n8:=n8.stp hs
   have b9:=b9.stp hs rfl
   have lD:=lD.stp hs
   clear cb
   refine EL_do .plain rfl (D_storeOc (g:=oJ) (v:=cD) Tryz.sizeOf63 rfl b20 rfl lD fun pJ nL hs b21 cb=>?_)
   clear cb
   have hfr:=hfr.stp hs
   have n8:=n8.stp hs
   have b9:=b9.stp hs rfl
   refine EL_at (.int .i64 (zB.2)) rfl rfl ?_
   refine EL_nil (thn_n (E_seq (E_region (EL_mw (.int .i64 (zB.2)) rfl rfl ?_))))
   refine EL_in (.bool ((zB.2 == (0:Int)))) rfl rfl rfl rfl ?_
   refine EL_nil (thn_n ?_)
   rcases csome h with ⟨oE,h⟩ | ⟨oE,h⟩
   ·refine E_ct oE rfl ?_
    refine E_seq (E_region (EL_at (.slice none 0 0) rfl rfl ?_))
    refine EL_at (.int .i64 (6)) rfl rfl ?_
    refine EL_nil (thn_n (E_ret (thn_r ?_)))
    obtain rfl:=sinj h
    exact end2 rfl rfl (show _=.slice none 0 0 from rfl) (show _=.int .i64 (6) from rfl) ⟨_,hfr,_,_,rfl,RV_nil,rfl⟩
   ·refine E_cf oE rfl ?_
    exact E_skip (thn_n (uH () _ _ ⟨pJ,hfr,tH,n8,rfl,b9⟩ h))
  ·rintro _ mK oL ⟨qJ, hfr, cH, gH, jH, kH⟩ h
   obtain ⟨mB,hx,h⟩:=bsome h
   refine E_join (fun e w=>∃ (g:Gh) (v2:Value),Fr gI wI g w∧e 2=v2∧RV g.m w (mB:List BookCloth) v2∧OS 1002 g w 63 (mB:List BookCloth) v2) (fun Q' hQ=>?_) (fun xJ nK hR=>?_)
   ·replace h := hx
    clear hx
    refine E_seq (E_region (EL_mw (.int .i64 (0)) rfl rfl ?_))
    refine EL_nil (thn_n (E_block ?_))
    refine E_lp h (fun (s:(List BookCloth) × Int) e w=>∃ (g:Gh) (v2:Value),Fr gI wI g w∧e 2=v2∧RV g.m w (s.1:List BookCloth) v2∧OS 1002 g w 63 (s.1:List BookCloth) v2∧e 4=p8∧OB 2004 g w 116 (y5:Vector UInt8 8) p8∧e 25=.int .i64 (s.2)) ⟨qJ,(.slice none 0 0),hfr,cH,gH,OS.nil,jH,kH,rfl⟩ (fun X101 dF lH=>?_)
    rintro ⟨yB,l5⟩ zJ oK ⟨tF,zD,hfr,aE,bE,iE,uF,vF,oB⟩ h
    refine E_seq (E_region (EL_in (.bool ((decide (l5 < (8:Int))))) oB rfl rfl rfl ?_))
    refine EL_nil (thn_n (E_seq ?_))
    rcases csome h with ⟨nD,h⟩ | ⟨nD,h⟩
    ·refine E_ct nD rfl ?_
     refine E_skip (thn_n ?_)
     obtain ⟨n9,hx,h⟩:=bsome h
     refine E_join (fun e w=>∃ (g:Gh) (v2:Value),Fr gI wI g w∧e 2=v2∧RV g.m w (n9:List BookCloth) v2∧OS 1002 g w 63 (n9:List BookCloth) v2∧e 4=p8∧OB 2004 g w 116 (y5:Vector UInt8 8) p8∧e 25=.int .i64 (l5)) (fun Q' hQ=>?_) (fun aK pK hR=>?_)
     ·replace h := hx
      clear hx
      refine E_block ?_
      refine E_seq (E_region (EL_mv oB rfl ?_))
      refine EL_at (.int .i64 (l5)) rfl rfl ?_
      refine EL_nil (thn_n (E_seq (E_region (EL_mw (.int .i64 (0)) rfl rfl ?_))))
      refine EL_nil (thn_n (E_block ?_))
      refine E_lp h (fun (s:(List BookCloth) × Int) e w=>∃ (g:Gh) (v2:Value),Fr gI wI g w∧e 2=v2∧RV g.m w (s.1:List BookCloth) v2∧OS 1002 g w 63 (s.1:List BookCloth) v2∧e 4=p8∧OB 2004 g w 116 (y5:Vector UInt8 8) p8∧e 7=.int .i64 (l5)∧e 25=.int .i64 (l5)∧e 28=.int .i64 (s.2)) ⟨tF,(zD),hfr,aE,bE,iE,uF,vF,rfl,oB,rfl⟩ (fun X140 eF mH=>?_)
      rintro ⟨lB,l8⟩ bK qK ⟨rE,lE,hfr,cC,t5,i6,nB,o0,uC,vB,aB⟩ h
      refine E_seq (E_region (EL_in (.bool ((decide (l8 < (256:Int))))) aB rfl rfl rfl ?_))
      refine EL_nil (thn_n (E_seq ?_))
      rcases csome h with ⟨oD,h⟩ | ⟨oD,h⟩
      ·refine E_ct oD rfl ?_
       refine E_skip (thn_n ?_)
       obtain ⟨l9,hx,h⟩:=bsome h
       refine E_join (fun e w=>∃ (g:Gh) (v2:Value),Fr gI wI g w∧e 2=v2∧RV g.m w (l9:List BookCloth) v2∧OS 1002 g w 63 (l9:List BookCloth) v2∧e 4=p8∧OB 2004 g w 116 (y5:Vector UInt8 8) p8∧e 7=.int .i64 (l5)∧e 25=.int .i64 (l5)∧e 28=.int .i64 (l8)) (fun Q' hQ=>?_) (fun cK sK hR=>?_)
       ·replace h := hx
        clear hx
        refine E_block ?_
        refine E_seq (E_region (EL_mv aB rfl ?_))
        refine EL_at (.int .i64 (l8)) rfl rfl ?_
        refine EL_nil (thn_n (E_seq (E_region (EL_do .plain rfl (D_loadO (g:=rE) Tryz.isAgg116 Tryz.sizeOf116 nB o0 fun yH uE=>?_)))))
        refine EL_do .plain rfl (D_allocOc (g:=rE) 2009 ((⟨List.toArray [0,0,0,0,0,0,0,0],rfl⟩:Vector UInt8 8):Vector UInt8 8) Tryz.zeroValue116 (fun m w=>⟨_,(rep_vec (flat_chunk rep_u8 (flat_chunk rep_u8 (flat_chunk rep_u8 (flat_chunk rep_u8 (flat_chunk rep_u8 (flat_chunk rep_u8 (flat_chunk rep_u8 (flat_chunk rep_u8 flat_nil)))))))) rfl),rfl⟩) fun zH tK aI hs b160 cb=>?_)
        have hfr:=hfr.stp hs
        have t5:=t5.stp hs
        have i6:=i6.stp hs rfl
        have o0:=o0.stp hs rfl
        have uE:=uE.stp hs
        clear cb
        refine EL_do .plain rfl (D_storeOc (g:=zH) (v:=yH) Tryz.sizeOf116 rfl b160 rfl uE fun bI uK hs b161 cb=>?_)
        clear cb
        have hfr:=hfr.stp hs
        have t5:=t5.stp hs
        have i6:=i6.stp hs rfl
        have o0:=o0.stp hs rfl
        refine EL_nil (thn_n (E_seq (E_region (EL_mv uC rfl ?_))))
        refine EL_mw (.int .i64 (l8)) rfl rfl ?_
        refine EL_p (.int .u8 (UInt8.toNat ((u8w l8)))) (P_intu8 Tryz.underlying3 Tryz.underlying5 rfl) rfl ?_
        obtain ⟨qH,xE,h⟩:=bsome h
        obtain ⟨hi163,he163⟩:=vat_idx xE
        refine EL_p (fPtr aI ((l5:Int).toNat * 1)) (P_indexAddrA (α:=UInt8) Tryz.underlying116 Tryz.sizeOf5 rfl (OB.ptr b161) rfl xE) rfl ?_
        refine EL_do .plain rfl (D_storeFc (g:=bI) (SubS.dyn hi163) Tryz.sizeOf5 rfl b161 rfl (RV_u8.2 rfl) fun xF vK hs b164 rst hos=>?_)
        clear rst hos
        have hfr:=hfr.stp hs
        have t5:=t5.stp hs
        have i6:=i6.stp hs rfl
        have o0:=o0.stp hs rfl
        refine EL_nil (thn_n (E_seq (E_region (EL_do .plain rfl (D_loadO (g:=xF) Tryz.isAgg116 Tryz.sizeOf116 rfl b164 fun dI iI=>?_)))))
        obtain ⟨v8,nH,h⟩:=bsome h
        refine EL_do .plain rfl (D_call (g:=xF) (vs:=[dI]) en68 (.cons rfl .nil) (wk68 iI nH) fun jI dK xK hs hr=>?_)
        have hfr:=hfr.ext hs
        have t5:=t5.ext hs
        have i6:=i6.ext hs
        have o0:=o0.ext hs
        obtain ⟨vC,rJ,rfl,bD,rfl⟩:=hr
        refine EL_mw (.tuple #[vC,.int .i64 (v8.2)]) rfl rfl ?_
        refine EL_p vC (P_extract rfl rfl) rfl ?_
        refine EL_p (.int .i64 (v8.2)) (P_extract rfl rfl) rfl ?_
        refine EL_do .plain rfl (D_allocOc (g:=jI) 2010 (⟨0,0,0,0,0⟩:BookCloth) Tryz.zeroValue63 (fun m w=>⟨_,(rep_two rep_int (rep_two rep_int (rep_two rep_int (rep_two rep_int rep_int)))),rfl⟩) fun kI yK zK hs b168 cb=>?_)
        have hfr:=hfr.stp hs
        have t5:=t5.stp hs
        have i6:=i6.stp hs rfl
        have o0:=o0.stp hs rfl
        have bD:=bD.stp hs
        clear cb
        refine EL_do .plain rfl (D_storeOc (g:=kI) (v:=vC) Tryz.sizeOf63 rfl b168 rfl bD fun vE aL hs b169 cb=>?_)
        clear cb
        have hfr:=hfr.stp hs
        have t5:=t5.stp hs
        have i6:=i6.stp hs rfl
        have o0:=o0.stp hs rfl
        refine EL_at (.int .i64 (v8.2)) rfl rfl ?_
        refine EL_nil (thn_n (E_seq (E_region (EL_mw (.int .i64 (v8.2)) rfl rfl ?_))))
        refine EL_in (.bool ((v8.2 == (0:Int)))) rfl rfl rfl rfl ?_
        refine EL_nil (thn_n ?_)
        rcases csome h with ⟨yD,h⟩ | ⟨yD,h⟩
        ·refine E_ct yD rfl ?_
         refine E_region (EL_mv cC rfl ?_)
         refine EL_do .plain rfl (D_loadO (g:=vE) Tryz.isAgg63 Tryz.sizeOf63 rfl b169 fun lI mI=>?_)
         refine EL_do .plain rfl (D_buildSlice (g:=vE) 3045 (xs:=([v8.1]:List BookCloth)) (vs:=[lI]) Tryz.underlying33 Tryz.sizeOf63 Tryz.zeroValue63 rfl rfl (.cons rfl .nil) (RVs.cons mI RVs.nil) rfl rfl fun nI bL dL hs o172 pI hxt hfl=>?_)
         have hfr:=hfr.stp hs
         have t5:=t5.stp hs
         have i6:=i6.stp hs rfl
         have o0:=o0.stp hs rfl
         obtain ⟨rF,oH,h⟩:=bsome h
         refine EL_do .plain rfl (D_append (g:=nI) (i:=1002) Tryz.underlying33 info_63 rfl rfl i6 t5 rfl pI oH fun qI eL yF hs o173 sI _=>?_)
         have hfr:=hfr.stp hs
         have o0:=o0.stp hs rfl
         refine EL_at yF rfl rfl ?_
         refine EL_nil (blk_n ?_)
         obtain rfl:=sinj h
         exact hQ _ _ ⟨qI,(yF),hfr,rfl,sI,o173,nB,o0,uC,vB,aB⟩
        ·refine E_cf yD rfl ?_
         refine E_skip (blk_n ?_)
         obtain rfl:=sinj h
         exact hQ _ _ ⟨vE,(lE),hfr,cC,t5,i6,nB,o0,uC,vB,aB⟩
       ·clear hx
        obtain ⟨jJ,aG,hfr,bG,cG,eG,gG,iG,jG,yE,zE⟩:=hR
        refine E_region (EL_in (.int .i64 ((w64 (l8 + (1:Int))))) zE rfl rfl rfl ?_)
        refine EL_mw (.int .i64 ((w64 (l8 + (1:Int))))) rfl rfl ?_
        exact EL_nil (thn_n (mH (l9,(w64 (l8 + (1:Int)))) _ _ ⟨jJ,(aG),hfr,bG,cG,eG,gG,iG,jG,yE,rfl⟩ h))
      ·refine E_cf oD rfl ?_
       refine E_exit ?_
       refine thn_e ?_
       refine thn_e ?_
       refine blk_hit ?_
       refine blk_n ?_
       obtain rfl:=sinj h
       exact hQ _ _ ⟨rE,(lE),hfr,cC,t5,i6,nB,o0,vB⟩
     ·clear hx
      obtain ⟨kJ,kG,hfr,lG,mG,sG,xG,yG,cF⟩:=hR
      refine E_region (EL_in (.int .i64 ((w64 (l5 + (1:Int))))) cF rfl rfl rfl ?_)
      refine EL_mw (.int .i64 ((w64 (l5 + (1:Int))))) rfl rfl ?_
      exact EL_nil (thn_n (lH (n9,(w64 (l5 + (1:Int)))) _ _ ⟨kJ,(kG),hfr,lG,mG,sG,xG,yG,rfl⟩ h))
    ·refine E_cf nD rfl ?_
     refine E_exit ?_
     refine thn_e ?_
     refine thn_e ?_
     refine blk_hit ?_
     obtain rfl:=sinj h
     exact hQ _ _ ⟨tF,(zD),hfr,aE,bE,iE⟩
   ·clear hx
    obtain ⟨gL,mE,hfr,zG,aH,sJ⟩:=hR
    refine E_seq (E_region (EL_mv zG rfl ?_))
    refine EL_at mE rfl rfl ?_
    refine EL_at (.int .i64 (0)) rfl rfl ?_
    refine EL_nil (thn_n (E_ret ?_))
    obtain rfl:=sinj h
    exact end2 rfl rfl (show _=mE from rfl) (show _=.int .i64 (0) from rfl) ⟨_,hfr,_,_,rfl,aH,rfl⟩
def f36 (x0:BookTie):Option (Bool):=
 (f37 ((x0).Harness)).bind fun y5=>
 some ((y5 != (0:Int)))
theorem en36:Enters Tryz.prog 36:=enters_of Tryz.func36 (by kernel_rfl) rfl
theorem wk36 {gI:Gh} {wI:World} {x0:BookTie} {up0:Value} (rp0:RV gI.m wI x0 up0) {r:Bool} (h:f36 x0=some r):Fn Tryz.prog 36 #[up0] gI wI (fun _ _ v=>v=.bool (r)):=by
 unfold f36 at h
 refine fn_of_E Tryz.func36 rfl (Nat.le_of_ble_eq_true rfl) fun g0 hm hfr=>?_
 have rp0:RV g0.m wI x0 up0:=hm ▸ rp0
 show E _ 7 none _ _ _ _ _
 refine E_seq (E_region (EL_do .plain rfl (D_box (g:=g0) rfl rp0 fun g1 w1 p1 hs q1=>?_)))
 have hfr:=hfr.ext hs
 refine EL_at (.bool false) rfl rfl ?_
 refine EL_nil (thn_n (E_seq (E_region (EL_p (fPtr p1 1) (P_fieldAddr at_90_1 rfl (PT.ptr q1)) rfl ?_))))
 have q2:=PT_field (part_BookTie_1).1 q1
 refine EL_do .plain rfl (D_load (g:=g1) Tryz.isAgg27 Tryz.sizeOf27 rfl q2 fun v3 r3=>?_)
 obtain ⟨y5,hy5,h⟩:=bsome h
 refine EL_do .plain rfl (D_call (g:=g1) (vs:=[v3]) en37 (.cons rfl .nil) (wk37 r3 hy5) fun g4 w4_ v4 hs hr=>?_)
 have hfr:=hfr.ext hs
 subst hr
 refine EL_in (.bool ((y5 != (0:Int)))) rfl rfl rfl rfl ?_
 refine EL_at (.bool ((y5 != (0:Int)))) rfl rfl ?_
 refine EL_nil (thn_n (E_ret ?_))
 obtain rfl:=sinj h
 exact end1 rfl rfl (show _=.bool ((y5 != (0:Int))) from rfl) ⟨_,hfr,rfl⟩
def f51 (x0:TieHarness) (x1:Design):Option ((List Str) × Int):=
 jn (σ:=Unit) (fun _=>
  jn (σ:=Unit) (fun _=>
   Option.bind (α:=(List Str)) (
    lp (σ:=(List Str) × Int) (fun cG (nB,o0)=>
     bif (decide (o0 < (((x1).Rows).length : Int))) then
      Option.bind (α:=(List Str)) (
       (idx ((x1).Rows) o0).bind fun yB=>
       (f91 ((⟨x0⟩:TieTieHarness)) yB).bind fun y81=>
       (apnd 16 nB (([y81]:List Str))).bind fun y84=>
       some (y84)
       ) fun l9=>
      cG (l9,(w64 (o0 + (1:Int))))
     else
      some (nB)
     ) big ([],(0:Int))
    ) fun lB=>
   some (lB,(0:Int))
   ) fun eG=>
  (f90 x1).bind fun n8=>
  bif (n8 != (0 : Int)) then
   some ([],n8)
  else
   bif ((x1).Hooks != (x0).Hooks) then
    some ([],(4:Int))
   else
    eG ()
  ) fun k7=>
 (f37 x0).bind fun n9=>
 bif (n9 != (0 : Int)) then
  some ([],n9)
 else
  k7 ()
theorem en51:Enters Tryz.prog 51:=enters_of Tryz.func51 (by kernel_rfl) rfl
theorem wk51 {gI:Gh} {wI:World} {x0:TieHarness} {x1:Design} {up0:Value} (rp0:RV gI.m wI x0 up0) {up1:Value} (rp1:RV gI.m wI x1 up1) {r:(List Str) × Int} (h:f51 x0 x1=some r):Fn Tryz.prog 51 #[up0,up1] gI wI (fun m w v=>∃ y0 y1,v=.tuple #[y0,y1]∧RV m w (r.1) y0∧y1=.int .i64 (r.2)):=by
 unfold f51 at h
 refine fn_of_E Tryz.func51 rfl (Nat.le_of_ble_eq_true rfl) fun g0 hm hfr=>?_
 have rp0:RV g0.m wI x0 up0:=hm ▸ rp0
 have rp1:RV g0.m wI x1 up1:=hm ▸ rp1
 show E _ 43 none _ _ _ _ _
 refine E_seq (E_region (EL_do .plain rfl (D_box (g:=g0) rfl rp0 fun g1 w1 p1 hs q1=>?_)))
 have hfr:=hfr.ext hs
 have rp1:=rp1.ext hs
 refine EL_do .plain rfl (D_box (g:=g1) rfl rp1 fun g2 w2 p2 hs q2=>?_)
 have hfr:=hfr.ext hs
 have q1:=q1.ext hs
 refine EL_at (.slice none 0 0) rfl rfl ?_
 refine EL_at (.int .i64 (0)) rfl rfl ?_
 refine EL_nil (thn_n (E_joinC h (fun (s:Unit) e w=>∃ (g:Gh) ,Fr gI wI g w∧e 2=p1∧PT g.m w (x0:TieHarness) p1∧e 3=p2∧PT g.m w (x1:Design) p2∧e 4=.slice none 0 0∧RV g.m w ([]:List Str) (Value.slice none 0 0)) (fun X7 k7 hk7 h=>?_) ?_))
 ·refine E_seq (E_region (EL_do .plain rfl (D_load (g := g2) Tryz.isAgg27 Tryz.sizeOf27 rfl q1 fun v8 r8 => ?_)))
  obtain ⟨n9,xG,h⟩:=bsome h
  refine EL_do .plain rfl (D_call (g:=g2) (vs:=[v8]) en37 (.cons rfl .nil) (wk37 r8 xG) fun g9 w9_ v9 hs hr=>?_)
  have hfr:=hfr.ext hs
  have q1:=q1.ext hs
  have q2:=q2.ext hs
  subst hr
  refine EL_at (.int .i64 (n9)) rfl rfl ?_
  refine EL_nil (thn_n (E_seq (E_region (EL_mw (.int .i64 (n9)) rfl rfl ?_))))
  refine EL_in (.bool ((n9 != (0:Int)))) rfl rfl rfl rfl ?_
  refine EL_nil (thn_n ?_)
  rcases csome h with ⟨bD,h⟩ | ⟨bD,h⟩
  ·refine E_ct bD rfl ?_
   refine E_seq (E_region (EL_mw (.int .i64 (n9)) rfl rfl ?_))
   refine EL_at (.slice none 0 0) rfl rfl ?_
   refine EL_at (.int .i64 (n9)) rfl rfl ?_
   refine EL_nil (thn_n (E_ret (thn_r ?_)))
   obtain rfl:=sinj h
   exact end2 rfl rfl (show _=.slice none 0 0 from rfl) (show _=.int .i64 (n9) from rfl) ⟨_,hfr,_,_,rfl,RV_nil,rfl⟩
  ·refine E_cf bD rfl ?_
   exact E_skip (thn_n (hk7 () _ _ ⟨g9,hfr,rfl,q1,rfl,q2,rfl,RV_nil⟩ h))
 ·rintro _ iI qI ⟨gG, hfr, oD, aB, oB, i6, xE, vB⟩ h
  refine E_joinC h (fun (s:Unit) e w=>∃ (g:Gh) ,Fr gI wI g w∧e 2=p1∧PT g.m w (x0:TieHarness) p1∧e 3=p2∧PT g.m w (x1:Design) p2∧e 4=.slice none 0 0∧RV g.m w ([]:List Str) (Value.slice none 0 0)) (fun X22 eG yG h=>?_) ?_
  ·refine E_seq (E_region (EL_do .plain rfl (D_load (g := gG) Tryz.isAgg29 Tryz.sizeOf29 oB i6 fun kH lH => ?_)))
   obtain ⟨n8,zG,h⟩:=bsome h
   refine EL_do .plain rfl (D_call (g:=gG) (vs:=[kH]) en90 (.cons rfl .nil) (wk90 lH zG) fun iE jI sI hs hr=>?_)
   have hfr:=hfr.ext hs
   have aB:=aB.ext hs
   have i6:=i6.ext hs
   have vB:=vB.ext hs
   subst hr
   refine EL_at (.int .i64 (n8)) rfl rfl ?_
   refine EL_nil (thn_n (E_block ?_))
   refine E_seq (E_region (EL_mw (.int .i64 (n8)) rfl rfl ?_))
   refine EL_in (.bool ((n8 != (0:Int)))) rfl rfl rfl rfl ?_
   refine EL_at (.bool ((n8 != (0:Int)))) rfl rfl ?_
   refine EL_nil (thn_n ?_)
   rcases csome h with ⟨cD,h⟩ | ⟨cD,h⟩
   ·refine E_ct cD rfl ?_
    refine E_seq (E_region (EL_mw (.int .i64 (n8)) rfl rfl ?_))
    refine EL_at (.slice none 0 0) rfl rfl ?_
    refine EL_at (.int .i64 (n8)) rfl rfl ?_
    refine EL_nil (thn_n (E_ret (blk_r ?_)))
    refine thn_r ?_
    obtain rfl:=sinj h
    exact end2 rfl rfl (show _=.slice none 0 0 from rfl) (show _=.int .i64 (n8) from rfl) ⟨_,hfr,_,_,rfl,RV_nil,rfl⟩
   ·refine E_cf cD rfl ?_
    refine E_seq (E_region (EL_p (fPtr p2 0) (P_fieldAddr at_29_0 oB (PT.ptr i6)) rfl ?_))
    have mH:=PT_field (part_Design_0).1 i6
    refine EL_do .plain rfl (D_load (g:=iE) Tryz.isAgg3 Tryz.sizeOf3 rfl mH fun jJ nH=>?_)
    obtain rfl:=RV_int.1 nH
    refine EL_p (fPtr p1 0) (P_fieldAddr at_27_0 oD (PT.ptr aB)) rfl ?_
    have oH:=PT_field (part_TieHarness_0).1 aB
    refine EL_do .plain rfl (D_load (g:=iE) Tryz.isAgg3 Tryz.sizeOf3 rfl oH fun kJ pH=>?_)
    obtain rfl:=RV_int.1 pH
    refine EL_in (.bool (((x1).Hooks != (x0).Hooks))) rfl rfl rfl rfl ?_
    refine EL_at (.bool (((x1).Hooks != (x0).Hooks))) rfl rfl ?_
    refine EL_nil (thn_n ?_)
    rcases csome h with ⟨lD,h⟩ | ⟨lD,h⟩
    ·refine E_ct lD rfl ?_
     refine E_seq (E_region (EL_at (.slice none 0 0) rfl rfl ?_))
     refine EL_at (.int .i64 (4)) rfl rfl ?_
     refine EL_nil (thn_n (E_ret (blk_r ?_)))
     refine thn_r ?_
     obtain rfl:=sinj h
     exact end2 rfl rfl (show _=.slice none 0 0 from rfl) (show _=.int .i64 (4) from rfl) ⟨_,hfr,_,_,rfl,RV_nil,rfl⟩
    ·refine E_cf lD rfl ?_
     exact E_skip (blk_n (thn_n (yG () _ _ ⟨iE,hfr,oD,aB,oB,i6,xE,vB⟩ h)))
  ·rintro _ kI lJ ⟨iG, hfr, yE, zE, cF, yD, dF, eF⟩ h
   obtain ⟨lB,hx,h⟩:=bsome h
   refine E_join (fun e w=>∃ (g:Gh) (v4:Value),Fr gI wI g w∧e 4=v4∧RV g.m w (lB:List Str) v4∧OS 1004 g w 9 (lB:List Str) v4) (fun Q' hQ=>?_) (fun lI mJ hR=>?_)
   ·replace h := hx
    clear hx
    refine E_seq (E_region (EL_p (fPtr p2 1) (P_fieldAddr at_29_1 cF (PT.ptr yD)) rfl ?_))
    have qH:=PT_field (part_Design_1).1 yD
    refine EL_do .plain rfl (D_load (g:=iG) Tryz.isAgg25 Tryz.sizeOf25 rfl qH fun zB jG=>?_)
    refine EL_p (.int .i64 (((x1).Rows).length:Int)) (P_len Tryz.underlying25 rfl jG) rfl ?_
    refine EL_mw (.int .i64 (0)) rfl rfl ?_
    refine EL_nil (thn_n (E_block ?_))
    refine E_lp h (fun (s:(List Str) × Int) e w=>∃ (g:Gh) (v4:Value),Fr gI wI g w∧e 2=p1∧PT g.m w (x0:TieHarness) p1∧e 4=v4∧RV g.m w (s.1:List Str) v4∧OS 1004 g w 9 (s.1:List Str) v4∧e 28=zB∧RV g.m w ((x1).Rows:List Int) zB∧e 29=.int .i64 ((((x1).Rows).length:Int))∧e 30=.int .i64 (s.2)) ⟨iG,(.slice none 0 0),hfr,yE,zE,dF,eF,OS.nil,rfl,jG,rfl,rfl⟩ (fun X61 cG aH=>?_)
    rintro ⟨nB,o0⟩ mI nJ ⟨cC,rF,hfr,zD,t5,aE,g8,l8,uC,l5,vC,mB⟩ h
    refine E_seq (E_region (EL_p (.bool ((decide (o0 < (((x1).Rows).length:Int))))) (P_int mB vC rfl) rfl ?_))
    refine EL_nil (thn_n (E_seq ?_))
    rcases csome h with ⟨nD,h⟩ | ⟨nD,h⟩
    ·refine E_ct nD rfl ?_
     refine E_skip (thn_n ?_)
     obtain ⟨l9,hx,h⟩:=bsome h
     refine E_join (fun e w=>∃ (g:Gh) (v4:Value),Fr gI wI g w∧e 2=p1∧PT g.m w (x0:TieHarness) p1∧e 4=v4∧RV g.m w (l9:List Str) v4∧OS 1004 g w 9 (l9:List Str) v4∧e 28=zB∧RV g.m w ((x1).Rows:List Int) zB∧e 29=.int .i64 ((((x1).Rows).length:Int))∧e 30=.int .i64 (o0)) (fun Q' hQ=>?_) (fun nI oJ hR=>?_)
     ·replace h := hx
      clear hx
      refine E_block ?_
      refine E_seq (E_region ?_)
      obtain ⟨yB,lE,h⟩:=bsome h
      refine EL_p (ePtr zB o0 1) (P_indexAddr (α:=Int) Tryz.underlying25 Tryz.sizeOf3 uC l5 mB lE) rfl ?_
      have sH:=PT_idx l5 lE
      refine EL_do .plain rfl (D_load (g:=cC) Tryz.isAgg3 Tryz.sizeOf3 rfl sH fun pJ tH=>?_)
      obtain rfl:=RV_int.1 tH
      refine EL_at (.int .i64 (yB)) rfl rfl ?_
      refine EL_nil (thn_n (E_region (EL_mv aE rfl ?_)))
      refine EL_do .plain rfl (D_load (g:=cC) Tryz.isAgg27 Tryz.sizeOf27 zD t5 fun mE kG=>?_)
      have lG:RV cC.m _ (⟨x0⟩:TieTieHarness) (.agg (setCh [[.int .i64 0,.slice none 0 0]] [(0,mE)]).flatten.toArray):=RV_build rfl (rep_last (RV.cells kG))
      generalize cH:(Value.agg (setCh [[.int .i64 0,.slice none 0 0]] [(0,mE)]).flatten.toArray)=mG at lG
      refine EL_p mG (cH ▸ P_build (vs:=[(0,mE)]) [[.int .i64 0,.slice none 0 0]] lay_187 rfl rfl (.cons rfl .nil) ⟨⟨_,rfl,cells_size kG⟩,trivial⟩) rfl ?_
      refine EL_mw (.int .i64 (yB)) rfl rfl ?_
      obtain ⟨y81,gH,h⟩:=bsome h
      refine EL_do .plain rfl (D_call (g:=cC) (vs:=[mG,.int .i64 (yB)]) en91 (.cons rfl (.cons rfl .nil)) (wk91 lG gH) fun uH pI qJ hs hr=>?_)
      have hfr:=hfr.ext hs
      have t5:=t5.ext hs
      have g8:=g8.ext hs
      have l8:=l8.ext hs
      have l5:=l5.ext hs
      subst hr
      refine EL_do .plain rfl (D_buildSlice (g:=uH) 3039 (xs:=([y81]:List Str)) (vs:=[Str.v (y81)]) Tryz.underlying54 Tryz.sizeOf9 Tryz.zeroValue9 rfl rfl (.cons rfl .nil) (RVs.cons (RV_str.2 rfl) RVs.nil) rfl rfl fun xH rJ sJ hs o82 yH hxt hfl=>?_)
      have hfr:=hfr.stp hs
      have t5:=t5.stp hs
      have g8:=g8.stp hs
      have l8:=l8.stp hs rfl
      have l5:=l5.stp hs
      obtain ⟨y84,jH,h⟩:=bsome h
      refine EL_do .plain rfl (D_append (g:=xH) (i:=1004) Tryz.underlying54 info_9 rfl rfl l8 g8 rfl yH jH fun zH vJ sG hs o83 aI _=>?_)
      have hfr:=hfr.stp hs
      have t5:=t5.stp hs
      have l5:=l5.stp hs
      refine EL_at sG rfl rfl ?_
      refine EL_nil (blk_n ?_)
      obtain rfl:=sinj h
      exact hQ _ _ ⟨zH,(sG),hfr,zD,t5,rfl,aI,o83,uC,l5,vC,mB⟩
     ·clear hx
      obtain ⟨bI,sF,hfr,tF,uF,vF,xF,yF,oE,rE,uE,vE⟩:=hR
      refine E_region (EL_in (.int .i64 ((w64 (o0 + (1:Int))))) vE rfl rfl rfl ?_)
      refine EL_mw (.int .i64 ((w64 (o0 + (1:Int))))) rfl rfl ?_
      exact EL_nil (thn_n (aH (l9,(w64 (o0 + (1:Int)))) _ _ ⟨bI,(sF),hfr,tF,uF,vF,xF,yF,oE,rE,uE,rfl⟩ h))
    ·refine E_cf nD rfl ?_
     refine E_exit ?_
     refine thn_e ?_
     refine thn_e ?_
     refine blk_hit ?_
     obtain rfl:=sinj h
     exact hQ _ _ ⟨cC,(rF),hfr,aE,g8,l8⟩
   ·clear hx
    obtain ⟨xJ,bE,hfr,aG,bG,dI⟩:=hR
    refine E_seq (E_region (EL_mv aG rfl ?_))
    refine EL_at bE rfl rfl ?_
    refine EL_at (.int .i64 (0)) rfl rfl ?_
    refine EL_nil (thn_n (E_ret ?_))
    obtain rfl:=sinj h
    exact end2 rfl rfl (show _=bE from rfl) (show _=.int .i64 (0) from rfl) ⟨_,hfr,_,_,rfl,bG,rfl⟩
def f52 (x0:BeamPair):Option (Bool):=
 (f53 (([(x0).Driver,(x0).Driven]:List Int))).bind fun y8=>
 some ((!y8))
theorem en52:Enters Tryz.prog 52:=enters_of Tryz.func52 (by kernel_rfl) rfl
theorem wk52 {gI:Gh} {wI:World} {x0:BeamPair} {up0:Value} (rp0:RV gI.m wI x0 up0) {r:Bool} (h:f52 x0=some r):Fn Tryz.prog 52 #[up0] gI wI (fun _ _ v=>v=.bool (r)):=by
 unfold f52 at h
 refine fn_of_E Tryz.func52 rfl (Nat.le_of_ble_eq_true rfl) fun g0 hm hfr=>?_
 have rp0:RV g0.m wI x0 up0:=hm ▸ rp0
 show E _ 10 none _ _ _ _ _
 refine E_seq (E_region (EL_do .plain rfl (D_box (g:=g0) rfl rp0 fun g1 w1 p1 hs q1=>?_)))
 have hfr:=hfr.ext hs
 refine EL_at (.bool false) rfl rfl ?_
 refine EL_nil (thn_n (E_seq (E_region (EL_p (fPtr p1 0) (P_fieldAddr at_69_0 rfl (PT.ptr q1)) rfl ?_))))
 have q2:=PT_field (part_BeamPair_0).1 q1
 refine EL_do .plain rfl (D_load (g:=g1) Tryz.isAgg3 Tryz.sizeOf3 rfl q2 fun v3 r3=>?_)
 obtain rfl:=RV_int.1 r3
 refine EL_p (fPtr p1 1) (P_fieldAddr at_69_1 rfl (PT.ptr q1)) rfl ?_
 have q4:=PT_field (part_BeamPair_1).1 q1
 refine EL_do .plain rfl (D_load (g:=g1) Tryz.isAgg3 Tryz.sizeOf3 rfl q4 fun v5 r5=>?_)
 obtain rfl:=RV_int.1 r5
 refine EL_do .plain rfl (D_buildSlice (g:=g1) 3007 (xs:=([(x0).Driver,(x0).Driven]:List Int)) (vs:=[.int .i64 ((x0).Driver),.int .i64 ((x0).Driven)]) Tryz.underlying25 Tryz.sizeOf3 Tryz.zeroValue3 rfl rfl (.cons rfl (.cons rfl .nil)) (RVs.cons (RV_int.2 rfl) (RVs.cons (RV_int.2 rfl) RVs.nil)) rfl rfl fun g6 w6 v6 hs o6 r6 hxt hfl=>?_)
 have hfr:=hfr.stp hs
 obtain ⟨y8,o0,h⟩:=bsome h
 refine EL_do .plain rfl (D_call (g:=g6) (vs:=[v6]) en53 (.cons rfl .nil) (wk53 r6 o0) fun g7 w7_ v7 hs hr=>?_)
 have hfr:=hfr.ext hs
 subst hr
 refine EL_p (.bool (!y8)) (P_not rfl) rfl ?_
 refine EL_at (.bool (!y8)) rfl rfl ?_
 refine EL_nil (thn_n (E_ret ?_))
 obtain rfl:=sinj h
 exact end1 rfl rfl (show _=.bool (!y8) from rfl) ⟨_,hfr,rfl⟩
def f76 (x0:Str):Option (Bool):=
 Option.bind (α:=Bool) (
  (f69 ((1:Int)) ((8:Int)) (([((x0).b.length:Int)]:List Int))).bind fun y9=>
  bif y9 then
   (f104 x0 ((fun a0=>f103 a0))).bind fun t5=>
   some ((!t5))
  else
   some (false)
  ) fun l5=>
 some (l5)
theorem en76:Enters Tryz.prog 76:=enters_of Tryz.func76 (by kernel_rfl) rfl
theorem wk76 {gI:Gh} {wI:World} {x0:Str}  {r:Bool} (h:f76 x0=some r):Fn Tryz.prog 76 #[Str.v (x0)] gI wI (fun _ _ v=>v=.bool (r)):=by
 unfold f76 at h
 refine fn_of_E Tryz.func76 rfl (Nat.le_of_ble_eq_true rfl) fun g0 hm hfr=>?_
 show E _ 14 none _ _ _ _ _
 refine E_seq (E_region (EL_at (.bool false) rfl rfl ?_))
 refine EL_nil (thn_n (E_seq (E_region (EL_at (.func (.func 103) #[] #[]) rfl rfl ?_))))
 refine EL_nil (thn_n ?_)
 obtain ⟨l5,hx,h⟩:=bsome h
 refine E_join (fun e w=>∃ (g:Gh) ,Fr gI wI g w∧e 2=.bool (l5)) (fun Q' hQ=>?_) (fun n9 lB hR=>?_)
 ·replace h := hx
  clear hx
  refine E_region (EL_mw (Str.v (x0)) rfl rfl ?_)
  refine EL_p (.int .i64 ((x0).b.length:Int)) (P_lenS Tryz.underlying9 rfl) rfl ?_
  refine EL_do .plain rfl (D_buildSlice (g:=g0) 3006 (xs:=([((x0).b.length:Int)]:List Int)) (vs:=[.int .i64 ((x0).b.length:Int)]) Tryz.underlying25 Tryz.sizeOf3 Tryz.zeroValue3 rfl rfl (.cons rfl .nil) (RVs.cons (RV_int.2 rfl) RVs.nil) rfl rfl fun g7 w7 v7 hs o7 r7 hxt hfl=>?_)
  have hfr:=hfr.stp hs
  obtain ⟨y9,n8,h⟩:=bsome h
  refine EL_do .plain rfl (D_call (g:=g7) (vs:=[.int .i64 (1),.int .i64 (8),v7]) en69 (.cons rfl (.cons rfl (.cons rfl .nil))) (wk69 r7 n8) fun g8 w8_ v8 hs hr=>?_)
  have hfr:=hfr.ext hs
  subst hr
  refine EL_mw (.bool (y9)) rfl rfl ?_
  rcases csome h with ⟨o0,h⟩ | ⟨o0,h⟩
  ·refine EL_y (Str.v (x0)) (P_move rfl) rfl rfl o0 rfl ?_
   refine EL_y (.func (.func 103) #[] #[]) (P_move rfl) rfl rfl o0 rfl ?_
   obtain ⟨t5,l8,h⟩:=bsome h
   refine EL_do (.yes2 rfl rfl o0) rfl (D_call (g:=g8) (vs:=[Str.v (x0),.func (.func 103) #[] #[]]) en104 (.cons rfl (.cons rfl .nil)) (wk104 ⟨103,#[],#[],rfl,en103,fun g' w' hch a0 b0 r hu0 hr=>by obtain rfl:=RV_i32.1 hu0; exact Fn.mono (wk103   hr) fun _ _ _ h=>RV_bool.2 h⟩ l8) fun l9 aB mB hs hr=>?_)
   have hfr:=hfr.ext hs
   subst hr
   refine EL_y (.bool (!t5)) (P_not rfl) rfl rfl o0 rfl ?_
   refine EL_p (.bool (!t5)) (P_pick (b:=y9) rfl (pick_t o0 rfl)) rfl ?_
   refine EL_at (.bool (!t5)) rfl rfl ?_
   refine EL_nil ?_
   obtain rfl:=sinj h
   exact hQ _ _ ⟨l9,hfr,rfl⟩
  ·refine EL_s rfl rfl o0 rfl rfl ?_
   iterate 3 refine EL_s rfl rfl o0 rfl rfl ?_
   refine EL_p (.bool false) (P_pick (b:=y9) rfl (pick_f o0 rfl)) rfl ?_
   refine EL_at (.bool false) rfl rfl ?_
   refine EL_nil ?_
   obtain rfl:=sinj h
   exact hQ _ _ ⟨g8,hfr,rfl⟩
 ·clear hx
  obtain ⟨nB,hfr,i6⟩:=hR
  refine E_ret ?_
  obtain rfl:=sinj h
  exact end1 rfl rfl (show _=.bool (l5) from i6) ⟨_,hfr,rfl⟩
def f83 (x0:List UInt8):Option (It (Vector UInt8 8)):=
 some ((fun σ cons s=>f107 x0 σ cons s))
theorem en83:Enters Tryz.prog 83:=enters_of Tryz.func83 (by kernel_rfl) rfl
theorem wk83 {gI:Gh} {wI:World} {x0:List UInt8} {up0:Value} (rp0:RV gI.m wI x0 up0) {r:It (Vector UInt8 8)} (h:f83 x0=some r):Fn Tryz.prog 83 #[up0] gI wI (fun m w v=>ItV Tryz.prog (RA1 (α:=(Vector UInt8 8))) (r) v m w):=by
 unfold f83 at h
 refine fn_of_E Tryz.func83 rfl (Nat.le_of_ble_eq_true rfl) fun g0 hm hfr=>?_
 have rp0:RV g0.m wI x0 up0:=hm ▸ rp0
 show E _ 4 none _ _ _ _ _
 refine E_seq (E_region (EL_do .plain rfl (D_box (g:=g0) rfl rp0 fun g1 w1 p1 hs q1=>?_)))
 have hfr:=hfr.ext hs
 refine EL_at (.nilFunc) rfl rfl ?_
 refine EL_nil (thn_n (E_seq (E_region (EL_p ((.func (.func 107) #[] #[p1])) (P_makeFunc (capf_0_1 (show ev _ _=p1 from rfl))) rfl ?_))))
 refine EL_at ((.func (.func 107) #[] #[p1])) rfl rfl ?_
 refine EL_nil (thn_n (E_ret ?_))
 obtain rfl:=sinj h
 exact end1 rfl rfl (show _=(.func (.func 107) #[] #[p1]) from rfl) ⟨_,hfr,(show ItV Tryz.prog (RA1 (α:=(Vector UInt8 8))) (fun σ cons s=>f107 x0 σ cons s) ((.func (.func 107) #[] #[p1])) g1.m w1 from ⟨107,#[],#[p1],rfl,en107,fun g' w' hch σ cons s s' h=>wk107  (q1.ch hch) h⟩)⟩
def f87 (x0:ChainChainBelt) (x1:Int):Option (Int):=
 jn (σ:=Unit) (fun _=>
  (idx (((x0).ChainBelt).Cards) x1).bind fun t5=>
  some ((t5).Row)
  ) fun k19=>
 (idx (((x0).ChainBelt).Cards) x1).bind fun y23=>
 bif (y23).Turned then
  (f120 ((x0).frame) ((y23).Row)).bind fun i6=>
  some (i6)
 else
  k19 ()
theorem en87:Enters Tryz.prog 87:=enters_of Tryz.func87 (by kernel_rfl) rfl
theorem wk87 {gI:Gh} {wI:World} {x0:ChainChainBelt} {x1:Int} {up0:Value} (rp0:RV gI.m wI x0 up0) {r:Int} (h:f87 x0 x1=some r):Fn Tryz.prog 87 #[up0,.int .i64 (x1)] gI wI (fun _ _ v=>v=.int .i64 (r)):=by
 unfold f87 at h
 refine fn_of_E Tryz.func87 rfl (Nat.le_of_ble_eq_true rfl) fun g0 hm hfr=>?_
 have rp0:RV g0.m wI x0 up0:=hm ▸ rp0
 show E _ 26 none _ _ _ _ _
 refine E_seq (E_region (EL_do .plain rfl (D_box (g:=g0) rfl rp0 fun g1 w1 p1 hs q1=>?_)))
 have hfr:=hfr.ext hs
 refine EL_at (.int .i64 (0)) rfl rfl ?_
 refine EL_nil (thn_n (E_joinC h (fun (s:Unit) e w=>∃ (g:Gh) ,Fr gI wI g w∧e 1=.int .i64 (x1)∧e 2=p1∧PT g.m w (x0:ChainChainBelt) p1) (fun X19 k19 cC h=>?_) ?_))
 ·refine E_seq (E_region (EL_p (fPtr p1 0) (P_fieldAddr at_171_0 rfl (PT.ptr q1)) rfl ?_))
  have aB:=PT_field (part_ChainChainBelt_0).1 q1
  refine EL_p (fPtr (fPtr p1 0) 1) (P_fieldAddr at_85_1 rfl (PT.ptr aB)) rfl ?_
  have vC:=PT_field (part_ChainBelt_1).1 aB
  refine EL_do .plain rfl (D_load (g:=g1) Tryz.isAgg83 Tryz.sizeOf83 rfl vC fun bD lB=>?_)
  refine EL_mw (.int .i64 (x1)) rfl rfl ?_
  obtain ⟨y23,l8,h⟩:=bsome h
  refine EL_p (ePtr bD x1 3) (P_indexAddr (α:=ChainCard) Tryz.underlying83 Tryz.sizeOf87 rfl lB rfl l8) rfl ?_
  have cD:=PT_idx lB l8
  refine EL_do .plain rfl (D_load (g:=g1) Tryz.isAgg87 Tryz.sizeOf87 rfl cD fun lD n8=>?_)
  refine EL_do .plain rfl (D_allocOc (g:=g1) 2005 (⟨0,0,false⟩:ChainCard) Tryz.zeroValue87 (fun m w=>⟨_,(rep_two rep_int (rep_two rep_int rep_bool)),rfl⟩) fun nD rE mB hs b26 cb=>?_)
  have hfr:=hfr.stp hs
  have q1:=q1.stp hs
  have n8:=n8.stp hs
  clear cb
  refine EL_do .plain rfl (D_storeOc (g:=nD) (v:=lD) Tryz.sizeOf87 rfl b26 rfl n8 fun o0 uE hs b27 cb=>?_)
  clear cb
  have hfr:=hfr.stp hs
  have q1:=q1.stp hs
  refine EL_nil (thn_n (E_seq (E_region (EL_p (fPtr mB 2) (P_fieldAddr at_87_2 rfl (OB.ptr b27)) rfl ?_))))
  refine EL_do .plain rfl (D_loadF (g:=o0) part_ChainCard_2.1 Tryz.isAgg4 Tryz.sizeOf4 rfl b27 fun vE oD=>?_)
  obtain rfl:=RV_bool.1 oD
  refine EL_nil (thn_n ?_)
  rcases csome h with ⟨l5,h⟩ | ⟨l5,h⟩
  ·refine E_ct l5 rfl ?_
   refine E_seq (E_region (EL_p (fPtr p1 2) (P_fieldAddr at_171_1 rfl (PT.ptr q1)) rfl ?_))
   have yD:=PT_field (part_ChainChainBelt_1).1 q1
   refine EL_do .plain rfl (D_load (g:=o0) Tryz.isAgg169 Tryz.sizeOf169 rfl yD fun xE zD=>?_)
   obtain rfl:=RV_int.1 zD
   refine EL_p (fPtr mB 1) (P_fieldAddr at_87_1 rfl (OB.ptr b27)) rfl ?_
   refine EL_do .plain rfl (D_loadF (g:=o0) part_ChainCard_1.1 Tryz.isAgg3 Tryz.sizeOf3 rfl b27 fun yE aE=>?_)
   obtain rfl:=RV_int.1 aE
   obtain ⟨i6,uC,h⟩:=bsome h
   refine EL_do .plain rfl (D_call (g:=o0) (vs:=[.int .i64 ((x0).frame),.int .i64 ((y23).Row)]) en120 (.cons rfl (.cons rfl .nil)) (wk120  uC) fun zE mE cF hs hr=>?_)
   have hfr:=hfr.ext hs
   subst hr
   refine EL_at (.int .i64 (i6)) rfl rfl ?_
   refine EL_nil (thn_n (E_ret (thn_r ?_)))
   obtain rfl:=sinj h
   exact end1 rfl rfl (show _=.int .i64 (i6) from rfl) ⟨_,hfr,rfl⟩
  ·refine E_cf l5 rfl ?_
   exact E_skip (thn_n (cC () _ _ ⟨o0,hfr,rfl,rfl,q1⟩ h))
 ·rintro _ oE dF ⟨nB, hfr, l9, n9, g8⟩ h
  refine E_seq (E_region (EL_p (fPtr p1 0) (P_fieldAddr at_171_0 n9 (PT.ptr g8)) rfl ?_))
  have oB:=PT_field (part_ChainChainBelt_0).1 g8
  refine EL_p (fPtr (fPtr p1 0) 1) (P_fieldAddr at_85_1 rfl (PT.ptr oB)) rfl ?_
  have bE:=PT_field (part_ChainBelt_1).1 oB
  refine EL_do .plain rfl (D_load (g:=nB) Tryz.isAgg83 Tryz.sizeOf83 rfl bE fun vB yB=>?_)
  refine EL_mv l9 rfl ?_
  obtain ⟨t5,v8,h⟩:=bsome h
  refine EL_p (ePtr vB x1 3) (P_indexAddr (α:=ChainCard) Tryz.underlying83 Tryz.sizeOf87 rfl yB rfl v8) rfl ?_
  have zB:=PT_idx yB v8
  refine EL_p (fPtr (ePtr vB x1 3) 1) (P_fieldAddr at_87_1 rfl (PT.ptr zB)) rfl ?_
  have iE:=PT_field (part_ChainCard_1).1 zB
  refine EL_do .plain rfl (D_load (g:=nB) Tryz.isAgg3 Tryz.sizeOf3 rfl iE fun eF lE=>?_)
  obtain rfl:=RV_int.1 lE
  refine EL_at (.int .i64 ((t5).Row)) rfl rfl ?_
  refine EL_nil (thn_n (E_ret ?_))
  obtain rfl:=sinj h
  exact end1 rfl rfl (show _=.int .i64 ((t5).Row) from rfl) ⟨_,hfr,rfl⟩
def f102 (x0:Int) (x1:List ChainCard):Option (Bool):=
 Option.bind (α:=Bool) (
  bif (decide (((x1).length : Int) > (0 : Int))) then
   (f130 x1 ((fun a0=>f128 a0 x0))).bind fun y7=>
   some ((!y7))
  else
   some (false)
  ) fun o0=>
 some (o0)
theorem en102:Enters Tryz.prog 102:=enters_of Tryz.func102 (by kernel_rfl) rfl
theorem wk102 {gI:Gh} {wI:World} {x0:Int} {x1:List ChainCard} {up1:Value} (rp1:RV gI.m wI x1 up1) {r:Bool} (h:f102 x0 x1=some r):Fn Tryz.prog 102 #[.int .i64 (x0),up1] gI wI (fun _ _ v=>v=.bool (r)):=by
 unfold f102 at h
 refine fn_of_E Tryz.func102 rfl (Nat.le_of_ble_eq_true rfl) fun g0 hm hfr=>?_
 have rp1:RV g0.m wI x1 up1:=hm ▸ rp1
 show E _ 16 none _ _ _ _ _
 refine E_seq (E_region (EL_do .plain rfl (D_box (g:=g0) rfl (RV_int.2 rfl) fun g1 w1 p1 hs q1=>?_)))
 have hfr:=hfr.ext hs
 have rp1:=rp1.ext hs
 refine EL_at (.bool false) rfl rfl ?_
 refine EL_nil (thn_n (E_seq (E_region (EL_p ((.func (.func 128) #[] #[p1])) (P_makeFunc (capf_0_1 (show ev _ _=p1 from rfl))) rfl ?_))))
 refine EL_at ((.func (.func 128) #[] #[p1])) rfl rfl ?_
 refine EL_nil (thn_n ?_)
 obtain ⟨o0,hx,h⟩:=bsome h
 refine E_join (fun e w=>∃ (g:Gh) ,Fr gI wI g w∧e 4=.bool (o0)) (fun Q' hQ=>?_) (fun i6 w8 hR=>?_)
 ·replace h := hx
  clear hx
  refine E_region (EL_mw up1 rfl rfl ?_)
  refine EL_p (.int .i64 ((x1).length:Int)) (P_len Tryz.underlying83 rfl rp1) rfl ?_
  refine EL_in (.bool ((decide (((x1).length:Int) > (0:Int))))) rfl rfl rfl rfl ?_
  refine EL_mw (.bool ((decide (((x1).length:Int) > (0:Int))))) rfl rfl ?_
  rcases csome h with ⟨hc5,h⟩ | ⟨hc5,h⟩
  ·refine EL_y up1 (P_move rfl) rfl rfl hc5 rfl ?_
   refine EL_y ((.func (.func 128) #[] #[p1])) (P_move rfl) rfl rfl hc5 rfl ?_
   obtain ⟨y7,t5,h⟩:=bsome h
   refine EL_do (.yes2 rfl rfl hc5) rfl (D_call (g:=g1) (vs:=[up1,(.func (.func 128) #[] #[p1])]) en130 (.cons rfl (.cons rfl .nil)) (wk130 rp1 ⟨128,#[],#[p1],rfl,en128,fun g' w' hch a0 b0 r hu0 hr=>by exact Fn.mono (wk128 hu0 (q1.ch hch) hr) fun _ _ _ h=>RV_bool.2 h⟩ t5) fun g6 w6_ v6 hs hr=>?_)
   have hfr:=hfr.ext hs
   subst hr
   refine EL_y (.bool (!y7)) (P_not rfl) rfl rfl hc5 rfl ?_
   refine EL_p (.bool (!y7)) (P_pick (b:=(decide (((x1).length:Int) > (0:Int)))) rfl (pick_t hc5 rfl)) rfl ?_
   refine EL_at (.bool (!y7)) rfl rfl ?_
   refine EL_nil ?_
   obtain rfl:=sinj h
   exact hQ _ _ ⟨g6,hfr,rfl⟩
  ·refine EL_s rfl rfl hc5 rfl rfl ?_
   iterate 3 refine EL_s rfl rfl hc5 rfl rfl ?_
   refine EL_p (.bool false) (P_pick (b:=(decide (((x1).length:Int) > (0:Int)))) rfl (pick_f hc5 rfl)) rfl ?_
   refine EL_at (.bool false) rfl rfl ?_
   refine EL_nil ?_
   obtain rfl:=sinj h
   exact hQ _ _ ⟨g1,hfr,rfl⟩
 ·clear hx
  obtain ⟨g8,hfr,l5⟩:=hR
  refine E_ret ?_
  obtain rfl:=sinj h
  exact end1 rfl rfl (show _=.bool (o0) from l5) ⟨_,hfr,rfl⟩
def f22 (x0:BeamTake):Option (Int):=
 jn (σ:=Unit) (fun _=>
  some ((0:Int))
  ) fun oB=>
 bif (decide ((((x0).Pairs).length : Int) > (2 : Int))) then
  some ((5:Int))
 else
  Option.bind (α:=Bool) (
   (f53 (([(x0).Ratchet]:List Int))).bind fun t5=>
   bif (!t5) then
    some ((!t5))
   else
    (f24 ((1:Int)) ((5:Int)) (([(x0).Step]:List Int))).bind fun i6=>
    bif (!i6) then
     some ((!i6))
    else
     (f24 ((1:Int)) ((500000:Int)) (([(x0).Round]:List Int))).bind fun g8=>
     bif (!g8) then
      some ((!g8))
     else
      (f54 ((x0).Pairs) ((fun a0=>f52 a0))).bind fun aB=>
      some (aB)
   ) fun o0=>
  bif o0 then
   some ((2:Int))
  else
   oB ()
theorem en22:Enters Tryz.prog 22:=enters_of Tryz.func22 (by kernel_rfl) rfl
theorem wk22 {gI:Gh} {wI:World} {x0:BeamTake} {up0:Value} (rp0:RV gI.m wI x0 up0) {r:Int} (h:f22 x0=some r):Fn Tryz.prog 22 #[up0] gI wI (fun _ _ v=>v=.int .i64 (r)):=by
 unfold f22 at h
 refine fn_of_E Tryz.func22 rfl (Nat.le_of_ble_eq_true rfl) fun g0 hm hfr=>?_
 have rp0:RV g0.m wI x0 up0:=hm ▸ rp0
 show E _ 29 none _ _ _ _ _
 refine E_seq (E_region (EL_do .plain rfl (D_box (g:=g0) rfl rp0 fun g1 w1 p1 hs q1=>?_)))
 have hfr:=hfr.ext hs
 refine EL_at (.int .i64 (0)) rfl rfl ?_
 refine EL_nil (thn_n (E_seq (E_region (EL_at (.func (.func 52) #[] #[]) rfl rfl ?_))))
 refine EL_nil (thn_n (E_joinC h (fun (s:Unit) e w=>∃ (g:Gh) ,Fr gI wI g w) (fun X51 oB vB h=>?_) ?_))
 ·refine E_block ?_
  refine E_seq (E_region (EL_p (fPtr p1 2) (P_fieldAddr at_37_2 rfl (PT.ptr q1)) rfl ?_))
  have bD:=PT_field (part_BeamTake_2).1 q1
  refine EL_do .plain rfl (D_load (g:=g1) Tryz.isAgg35 Tryz.sizeOf35 rfl bD fun bG cD=>?_)
  refine EL_p (.int .i64 (((x0).Pairs).length:Int)) (P_len Tryz.underlying35 rfl cD) rfl ?_
  refine EL_p (.bool ((decide ((((x0).Pairs).length:Int) > (2:Int))))) (P_int rfl rfl rfl) rfl ?_
  refine EL_p (.bool ((decide ((((x0).Pairs).length:Int) > (2:Int))))) (P_assign rfl) rfl ?_
  refine EL_nil (thn_n ?_)
  rcases csome h with ⟨n8,h⟩ | ⟨n8,h⟩
  ·refine E_ct n8 rfl ?_
   refine E_seq (E_region (EL_at (.int .i64 (5)) rfl rfl ?_))
   refine EL_nil (thn_n (E_ret (blk_r ?_)))
   refine thn_r ?_
   obtain rfl:=sinj h
   exact end1 rfl rfl (show _=.int .i64 (5) from rfl) ⟨_,hfr,rfl⟩
  ·refine E_cf n8 rfl ?_
   obtain ⟨o0,hx,h⟩:=bsome h
   refine E_join (fun e w=>∃ (g:Gh) ,Fr gI wI g w∧e 9=.bool (o0)) (fun Q' hQ=>?_) (fun eF sF hR=>?_)
   ·replace h := hx
    clear hx
    refine E_seq (E_region (EL_p (fPtr p1 0) (P_fieldAddr at_37_0 rfl (PT.ptr q1)) rfl ?_))
    have lD:=PT_field (part_BeamTake_0).1 q1
    refine EL_do .plain rfl (D_load (g:=g1) Tryz.isAgg3 Tryz.sizeOf3 rfl lD fun cG nD=>?_)
    obtain rfl:=RV_int.1 nD
    refine EL_do .plain rfl (D_buildSlice (g:=g1) 3012 (xs:=([(x0).Ratchet]:List Int)) (vs:=[.int .i64 ((x0).Ratchet)]) Tryz.underlying25 Tryz.sizeOf3 Tryz.zeroValue3 rfl rfl (.cons rfl .nil) (RVs.cons (RV_int.2 rfl) RVs.nil) rfl rfl fun oD eG yD hs o80 zD hxt hfl=>?_)
    have hfr:=hfr.stp hs
    have q1:=q1.stp hs
    obtain ⟨t5,yB,h⟩:=bsome h
    refine EL_do .plain rfl (D_call (g:=oD) (vs:=[yD]) en53 (.cons rfl .nil) (wk53 zD yB) fun lB tF gG hs hr=>?_)
    have hfr:=hfr.ext hs
    have q1:=q1.ext hs
    subst hr
    refine EL_p (.bool (!t5)) (P_not rfl) rfl ?_
    refine EL_at (.bool (!t5)) rfl rfl ?_
    refine EL_nil (thn_n ?_)
    rcases csome h with ⟨v8,h⟩ | ⟨v8,h⟩
    ·refine E_ct v8 rfl ?_
     refine E_skip ?_
     obtain rfl:=sinj h
     exact hQ _ _ ⟨lB,hfr,rfl⟩
    ·refine E_cf v8 rfl ?_
     refine E_seq (E_region (EL_p (fPtr p1 1) (P_fieldAddr at_37_1 rfl (PT.ptr q1)) rfl ?_))
     have aE:=PT_field (part_BeamTake_1).1 q1
     refine EL_do .plain rfl (D_load (g:=lB) Tryz.isAgg3 Tryz.sizeOf3 rfl aE fun iG bE=>?_)
     obtain rfl:=RV_int.1 bE
     refine EL_do .plain rfl (D_buildSlice (g:=lB) 3017 (xs:=([(x0).Step]:List Int)) (vs:=[.int .i64 ((x0).Step)]) Tryz.underlying25 Tryz.sizeOf3 Tryz.zeroValue3 rfl rfl (.cons rfl .nil) (RVs.cons (RV_int.2 rfl) RVs.nil) rfl rfl fun iE jG lE hs o86 mE hxt hfl=>?_)
     have hfr:=hfr.stp hs
     have q1:=q1.stp hs
     obtain ⟨i6,zB,h⟩:=bsome h
     refine EL_do .plain rfl (D_call (g:=iE) (vs:=[.int .i64 (1),.int .i64 (5),lE]) en24 (.cons rfl (.cons rfl (.cons rfl .nil))) (wk24 mE zB) fun mB uF kG hs hr=>?_)
     have hfr:=hfr.ext hs
     have q1:=q1.ext hs
     subst hr
     refine EL_p (.bool (!i6)) (P_not rfl) rfl ?_
     refine EL_at (.bool (!i6)) rfl rfl ?_
     refine EL_nil (thn_n ?_)
     rcases csome h with ⟨l9,h⟩ | ⟨l9,h⟩
     ·refine E_ct l9 rfl ?_
      refine E_skip ?_
      obtain rfl:=sinj h
      exact hQ _ _ ⟨mB,hfr,rfl⟩
     ·refine E_cf l9 rfl ?_
      refine E_seq (E_region (EL_p (fPtr p1 3) (P_fieldAddr at_37_3 rfl (PT.ptr q1)) rfl ?_))
      have oE:=PT_field (part_BeamTake_3).1 q1
      refine EL_do .plain rfl (D_load (g:=mB) Tryz.isAgg3 Tryz.sizeOf3 rfl oE fun lG rE=>?_)
      obtain rfl:=RV_int.1 rE
      refine EL_do .plain rfl (D_buildSlice (g:=mB) 3022 (xs:=([(x0).Round]:List Int)) (vs:=[.int .i64 ((x0).Round)]) Tryz.underlying25 Tryz.sizeOf3 Tryz.zeroValue3 rfl rfl (.cons rfl .nil) (RVs.cons (RV_int.2 rfl) RVs.nil) rfl rfl fun uE mG vE hs o92 xE hxt hfl=>?_)
      have hfr:=hfr.stp hs
      have q1:=q1.stp hs
      obtain ⟨g8,cC,h⟩:=bsome h
      refine EL_do .plain rfl (D_call (g:=uE) (vs:=[.int .i64 (1),.int .i64 (500000),vE]) en24 (.cons rfl (.cons rfl (.cons rfl .nil))) (wk24 xE cC) fun nB vF sG hs hr=>?_)
      have hfr:=hfr.ext hs
      have q1:=q1.ext hs
      subst hr
      refine EL_p (.bool (!g8)) (P_not rfl) rfl ?_
      refine EL_at (.bool (!g8)) rfl rfl ?_
      refine EL_nil (thn_n ?_)
      rcases csome h with ⟨n9,h⟩ | ⟨n9,h⟩
      ·refine E_ct n9 rfl ?_
       refine E_skip ?_
       obtain rfl:=sinj h
       exact hQ _ _ ⟨nB,hfr,rfl⟩
      ·refine E_cf n9 rfl ?_
       refine E_region (EL_p (fPtr p1 2) (P_fieldAddr at_37_2 rfl (PT.ptr q1)) rfl ?_)
       have yE:=PT_field (part_BeamTake_2).1 q1
       refine EL_do .plain rfl (D_load (g:=nB) Tryz.isAgg35 Tryz.sizeOf35 rfl yE fun zE cF=>?_)
       refine EL_mw (.func (.func 52) #[] #[]) rfl rfl ?_
       obtain ⟨aB,uC,h⟩:=bsome h
       refine EL_do .plain rfl (D_call (g:=nB) (vs:=[zE,.func (.func 52) #[] #[]]) en54 (.cons rfl (.cons rfl .nil)) (wk54 cF ⟨52,#[],#[],rfl,en52,fun g' w' hch a0 b0 r hu0 hr=>by exact Fn.mono (wk52 hu0  hr) fun _ _ _ h=>RV_bool.2 h⟩ uC) fun dF xF xG hs hr=>?_)
       have hfr:=hfr.ext hs
       subst hr
       refine EL_at (.bool (aB)) rfl rfl ?_
       refine EL_nil ?_
       obtain rfl:=sinj h
       exact hQ _ _ ⟨dF,hfr,rfl⟩
   ·clear hx
    obtain ⟨vC,hfr,l8⟩:=hR
    rcases csome h with ⟨l5,h⟩ | ⟨l5,h⟩
    ·refine E_cond_true (Eq.trans (show ev _ _ = .bool (o0) from l8) (congrArg Value.bool l5)) ?_
     refine E_seq (E_region (EL_at (.int .i64 (2)) rfl rfl ?_))
     refine EL_nil (thn_n (E_ret (blk_r ?_)))
     refine thn_r ?_
     obtain rfl:=sinj h
     exact end1 rfl rfl (show _=.int .i64 (2) from rfl) ⟨_,hfr,rfl⟩
    ·refine E_cond_false (Eq.trans (show ev _ _ = .bool (o0) from l8) (congrArg Value.bool l5)) ?_
     exact E_skip (blk_n (thn_n (vB () _ _ ⟨vC,hfr⟩ h)))
 ·rintro _ rF yF ⟨aG, hfr⟩ h
  refine E_seq (E_region (EL_at (.int .i64 (0)) rfl rfl ?_))
  refine EL_nil (thn_n (E_ret ?_))
  obtain rfl:=sinj h
  exact end1 rfl rfl (show _=.int .i64 (0) from rfl) ⟨_,hfr,rfl⟩
def f28 (x0:BeamTake):Option (Ratio × Int):=
 jn (σ:=Ratio) (fun v8=>
  (f25 x0).bind fun aB=>
  some ((aB).Ratio,(0:Int))
  ) fun lB=>
 (f22 x0).bind fun o0=>
 bif (o0 != (0 : Int)) then
  some ((⟨0,0⟩:Ratio),o0)
 else
  lB ((⟨0,0⟩:Ratio))
theorem en28:Enters Tryz.prog 28:=enters_of Tryz.func28 (by kernel_rfl) rfl
theorem wk28 {gI:Gh} {wI:World} {x0:BeamTake} {up0:Value} (rp0:RV gI.m wI x0 up0) {r:Ratio × Int} (h:f28 x0=some r):Fn Tryz.prog 28 #[up0] gI wI (fun m w v=>∃ y0 y1,v=.tuple #[y0,y1]∧RV m w (r.1) y0∧y1=.int .i64 (r.2)):=by
 unfold f28 at h
 refine fn_of_E Tryz.func28 rfl (Nat.le_of_ble_eq_true rfl) fun g0 hm hfr=>?_
 have rp0:RV g0.m wI x0 up0:=hm ▸ rp0
 show E _ 14 none _ _ _ _ _
 refine E_seq (E_region (EL_do .plain rfl (D_box (g:=g0) rfl rp0 fun g1 w1 p1 hs q1=>?_)))
 have hfr:=hfr.ext hs
 refine EL_do .plain rfl (D_allocOc (g:=g1) 2002 (⟨0,0⟩:Ratio) Tryz.zeroValue97 (fun m w=>⟨_,(rep_two rep_int rep_int),rfl⟩) fun g2 w2 p2 hs b2 cb=>?_)
 have hfr:=hfr.stp hs
 have q1:=q1.stp hs
 clear cb
 refine EL_at (.int .i64 (0)) rfl rfl ?_
 refine EL_nil (thn_n (E_joinC h (fun (s:Ratio) e w=>∃ (g:Gh) ,Fr gI wI g w∧e 1=p1∧PT g.m w (x0:BeamTake) p1∧e 2=p2∧OB 2002 g w 97 (s:Ratio) p2) (fun X10 lB zB h=>?_) ?_))
 ·refine E_seq (E_region (EL_do .plain rfl (D_load (g := g2) Tryz.isAgg37 Tryz.sizeOf37 rfl q1 fun nD oD => ?_)))
  obtain ⟨o0,cC,h⟩:=bsome h
  refine EL_do .plain rfl (D_call (g:=g2) (vs:=[nD]) en22 (.cons rfl .nil) (wk22 oD cC) fun g8 uC mE hs hr=>?_)
  have hfr:=hfr.ext hs
  have q1:=q1.ext hs
  have b2:=b2.ext hs
  subst hr
  refine EL_at (.int .i64 (o0)) rfl rfl ?_
  refine EL_nil (thn_n (E_seq (E_region (EL_mw (.int .i64 (o0)) rfl rfl ?_))))
  refine EL_in (.bool ((o0 != (0:Int)))) rfl rfl rfl rfl ?_
  refine EL_nil (thn_n ?_)
  rcases csome h with ⟨t5,h⟩ | ⟨t5,h⟩
  ·refine E_ct t5 rfl ?_
   refine E_seq (E_region ?_)
   have mB:RV g8.m uC (⟨0,0⟩:Ratio) (.agg (setCh [[.int .i64 0],[.int .i64 0]] []).flatten.toArray):=RV_build rfl (rep_pair (rep_int) (rep_last (rep_int)))
   generalize vC:(Value.agg (setCh [[.int .i64 0],[.int .i64 0]] []).flatten.toArray)=nB at mB
   refine EL_p nB (vC ▸ P_build (vs:=[]) [[.int .i64 0],[.int .i64 0]] lay_97 rfl rfl .nil trivial) rfl ?_
   refine EL_mw (.int .i64 (o0)) rfl rfl ?_
   refine EL_do .plain rfl (D_storeOc (g:=g8) (v:=nB) Tryz.sizeOf97 rfl b2 rfl mB fun oE rE hs b16 cb=>?_)
   clear cb
   have hfr:=hfr.stp hs
   refine EL_at (.int .i64 (o0)) rfl rfl ?_
   refine EL_nil (thn_n (E_ret (thn_r ?_)))
   obtain rfl:=sinj h
   obtain ⟨ad17,cv17,hp17,bD,cr17⟩:=ob_read Tryz.isAgg97 Tryz.sizeOf97 b16
   exact endm_ct rfl rfl ((show _=p2 from rfl).trans hp17) bD (show _=.int .i64 (o0) from rfl) ⟨_,hfr,_,_,rfl,cr17,rfl⟩
  ·refine E_cf t5 rfl ?_
   exact E_skip (thn_n (zB ((⟨0,0⟩:Ratio)) _ _ ⟨g8,hfr,rfl,q1,rfl,b2⟩ h))
 ·rintro v8 iE uE ⟨oB, hfr, l9, n9, i6, l5⟩ h
  refine E_seq (E_region (EL_do .plain rfl (D_load (g:=oB) Tryz.isAgg37 Tryz.sizeOf37 l9 n9 fun yD zD=>?_)))
  obtain ⟨aB,cD,h⟩:=bsome h
  refine EL_do .plain rfl (D_call (g:=oB) (vs:=[yD]) en25 (.cons rfl .nil) (wk25 zD cD) fun aE lE bE hs hr=>?_)
  have hfr:=hfr.ext hs
  have l5:=l5.ext hs
  have vB:=hr
  have l8:=RV_field (part_BeamRatio_0).1 vB
  obtain ⟨yB,n8⟩:∃ v,v=partV (GoT.agg Ratio) 0 (GoT.k Ratio) bE:=⟨_,rfl⟩
  replace l8:=n8 ▸ l8
  refine EL_p yB (n8 ▸ P_field (part_BeamRatio_0).1 rfl of_99_0 Tryz.isAgg97 Tryz.sizeOf97 rfl vB) rfl ?_
  refine EL_do .plain rfl (D_storeOc (g:=aE) (v:=yB) Tryz.sizeOf97 i6 l5 rfl l8 fun vE xE hs b23 cb=>?_)
  clear cb
  have hfr:=hfr.stp hs
  refine EL_at (.int .i64 (0)) rfl rfl ?_
  refine EL_nil (thn_n (E_ret ?_))
  obtain rfl:=sinj h
  obtain ⟨ad24,cv24,hp24,lD,cr24⟩:=ob_read Tryz.isAgg97 Tryz.sizeOf97 b23
  exact endm_ct rfl rfl ((show _=p2 from i6).trans hp24) lD (show _=.int .i64 (0) from rfl) ⟨_,hfr,_,_,rfl,cr24,rfl⟩
def f47 (x0:List UInt8):Option ((List BookCloth) × Int × Int):=
 jn (σ:=(List BookCloth) × Int × Int) (fun (qH,sH,tH)=>
  jn (σ:=(List BookCloth) × Int × Int) (fun (yE,bK,cK)=>
   some (yE,(0:Int),(0:Int))
   ) fun sK=>
  (f83 x0).bind fun zE=>
  (zE (Nat × (List BookCloth) × Int × Int) (guardC fun (l5,cC,uC) iG=>
   (f68 iG).bind fun n8=>
   Option.bind (α:=Int) (
    Option.bind (α:=Bool) (
     bif (n8.2 == (0 : Int)) then
      bif (decide (((l5).length : Int) > (0 : Int))) then
       (idx l5 (w64 (((l5).length:Int) - (1:Int)))).bind fun sI=>
       (f34 sI (n8.1)).bind fun cD=>
       some ((decide (cD ≥ (0:Int))))
      else
       some (false)
     else
      some (false)
     ) fun zB=>
    bif zB then
     some ((4:Int))
    else
     some (n8.2)
    ) fun oB=>
   jn (σ:=(List BookCloth) × Int × Int) (fun (jG,kG,lG)=>
    (apnd 40 jG (([n8.1]:List BookCloth))).bind fun uH=>
    some (true,((0:Nat),(uH,kG,lG)))
    ) fun jJ=>
   bif (oB != (0 : Int)) then
    some (false,((1:Nat),([],((l5).length:Int),oB)))
   else
    jJ (l5,cC,uC)
   ) (0,(qH,sH,tH))).bind fun (lD,(nD,oD,yD))=>
  bif Nat.beq lD 0 then
   sK (nD,oD,yD)
  else
   some (nD,oD,yD)
  ) fun pN=>
 bif (decide (((x0).length : Int) > (800 : Int))) then
  some ([],(0:Int),(5:Int))
 else
  (rem64 ((x0).length:Int) (8:Int)).bind fun jI=>
  bif (jI != (0 : Int)) then
   some ([],(0:Int),(4:Int))
  else
   pN (([]:List BookCloth),(0:Int),(0:Int))
theorem en47:Enters Tryz.prog 47:=enters_of Tryz.func47 (by kernel_rfl) rfl
theorem wk47 {gI:Gh} {wI:World} {x0:List UInt8} {up0:Value} (rp0:RV gI.m wI x0 up0) {r:(List BookCloth) × Int × Int} (h:f47 x0=some r):Fn Tryz.prog 47 #[up0] gI wI (fun m w v=>∃ y0 y1 y2,v=.tuple #[y0,y1,y2]∧RV m w (r.1) y0∧y1=.int .i64 (r.2.1)∧y2=.int .i64 (r.2.2)):=by
 unfold f47 at h
 refine fnD_of_E Tryz.func47 rfl (Nat.le_of_ble_eq_true rfl) fun g0 hm hfr=>?_
 have hmk:MkF g0 wI []:=MkF.start
 have rp0:RV g0.m wI x0 up0:=hm ▸ rp0
 show E _ 53 none _ _ _ _ _
 refine E_seq (E_region (EL_do .plain rfl (D_allocOc (g:=g0) 2002 ([]:List BookCloth) Tryz.zeroValue33 (fun m w=>⟨_,rep_nil,rfl⟩) fun g1 w1 p1 hs b1 cb=>?_)))
 have hfr:=hfr.stp hs
 have hmk:=hmk.stp hs
 have rp0:=rp0.stp hs
 have xF:OSF 2002 60200 0 g1 w1 63 33 ([]:List BookCloth) p1:=cb.osf (by rfl)
 clear cb
 refine EL_do .plain rfl (D_allocOc (g:=g1) 2003 (0:Int) Tryz.zeroValue3 (fun m w=>⟨_,rep_int,rfl⟩) fun g2 w2 p2 hs b2 cb=>?_)
 have hfr:=hfr.stp hs
 have hmk:=hmk.stp hs
 have rp0:=rp0.stp hs
 have xF:=xF.stp hs rfl
 have b1:=b1.stp hs rfl
 clear cb
 refine EL_do .plain rfl (D_allocOc (g:=g2) 2004 (0:Int) Tryz.zeroValue44 (fun m w=>⟨_,rep_int,rfl⟩) fun g3 w3 p3 hs b3 cb=>?_)
 have hfr:=hfr.stp hs
 have hmk:=hmk.stp hs
 have rp0:=rp0.stp hs
 have xF:=xF.stp hs rfl
 have b1:=b1.stp hs rfl
 have b2:=b2.stp hs rfl
 clear cb
 refine EL_nil (thn_n (E_joinCD h (fun (s:(List BookCloth) × Int × Int) e ds w=>∃ (g:Gh) ,Fr gI wI g w∧MkF g w ds∧e 0=up0∧RV g.m w (x0:List UInt8) up0∧e 2=p1∧OB 2002 g w 33 (s.1:List BookCloth) p1∧OSF 2002 60200 0 g w 63 33 (s.1) p1∧e 3=p2∧OB 2003 g w 3 (s.2.1:Int) p2∧e 4=p3∧OB 2004 g w 44 (s.2.2:Int) p3) (fun X21 pN sN h=>?_) ?_))
 ·refine E_block ?_
  refine E_seq (E_region (EL_mw up0 rfl rfl ?_))
  refine EL_p (.int .i64 ((x0).length:Int)) (P_len Tryz.underlying72 rfl rp0) rfl ?_
  refine EL_in (.bool ((decide (((x0).length:Int) > (800:Int))))) rfl rfl rfl rfl ?_
  refine EL_at (.bool ((decide (((x0).length:Int) > (800:Int))))) rfl rfl ?_
  refine EL_nil (thn_n ?_)
  rcases csome h with ⟨mI,h⟩ | ⟨mI,h⟩
  ·refine E_ct mI rfl ?_
   refine E_seq (E_region (EL_do .plain rfl (D_storeOc (g:=g3) (v:=.slice none 0 0) Tryz.sizeOf33 rfl b1 rfl RV_nil fun qN mO hs b23 cb=>?_)))
   have xO:OSF 2002 60200 0 qN mO 63 33 ([]:List BookCloth) p1:=cb.osfr (rfl) OS.nil
   clear cb
   have hfr:=hfr.stp hs
   have hmk:=hmk.stp hs
   have b2:=b2.stp hs rfl
   have b3:=b3.stp hs rfl
   refine EL_do .plain rfl (D_storeOc (g:=qN) (v:=.int .i64 (0)) Tryz.sizeOf3 rfl b2 rfl (RV_int.2 rfl) fun nO oQ hs b24 cb=>?_)
   clear cb
   have hfr:=hfr.stp hs
   have hmk:=hmk.stp hs
   have b23:=b23.stp hs rfl
   have b3:=b3.stp hs rfl
   refine EL_do .plain rfl (D_storeOc (g:=nO) (v:=.int .i64 (5)) Tryz.sizeOf44 rfl b3 rfl (RV_int.2 rfl) fun pQ qQ hs b25 cb=>?_)
   clear cb
   have hfr:=hfr.stp hs
   have hmk:=hmk.stp hs
   have b23:=b23.stp hs rfl
   have b24:=b24.stp hs rfl
   refine EL_nil (thn_n (E_ret (blk_r ?_)))
   refine thn_r ?_
   refine endM (.inr rfl) hmk fun rQ sQ hs=>?_
   have hfr:=hfr.stp hs
   have b23:=b23.stp hs rfl
   have b24:=b24.stp hs rfl
   have b25:=b25.stp hs rfl
   obtain rfl:=sinj h
   obtain ⟨ad27,cv27,hp27,tN,cr27⟩:=ob_read Tryz.isAgg33 Tryz.sizeOf33 b23
   obtain ⟨ad28,cv28,hp28,uN,cr28⟩:=ob_read Tryz.isAgg3 Tryz.sizeOf3 b24
   obtain rfl:=RV_int.1 cr28
   obtain ⟨ad29,cv29,hp29,vN,cr29⟩:=ob_read Tryz.isAgg44 Tryz.sizeOf44 b25
   obtain rfl:=RV_int.1 cr29
   exact endm_ccc rfl rfl ((show _=p1 from rfl).trans hp27) tN ((show _=p2 from rfl).trans hp28) uN ((show _=p3 from rfl).trans hp29) vN ⟨_,hfr,_,_,_,rfl,cr27,rfl,rfl⟩
  ·refine E_cf mI rfl ?_
   refine E_seq (E_region (EL_mw up0 rfl rfl ?_))
   refine EL_p (.int .i64 ((x0).length:Int)) (P_len Tryz.underlying72 rfl rp0) rfl ?_
   obtain ⟨jI,xN,h⟩:=bsome h
   refine EL_p (.int .i64 (jI)) (P_int rfl rfl (congrArg (Option.map (Value.int .i64)) xN)) rfl ?_
   refine EL_in (.bool ((jI != (0:Int)))) rfl rfl rfl rfl ?_
   refine EL_at (.bool ((jI != (0:Int)))) rfl rfl ?_
   refine EL_nil (thn_n ?_)
   rcases csome h with ⟨nI,h⟩ | ⟨nI,h⟩
   ·refine E_ct nI rfl ?_
    refine E_seq (E_region (EL_do .plain rfl (D_storeOc (g:=g3) (v:=.slice none 0 0) Tryz.sizeOf33 rfl b1 rfl RV_nil fun rN oO hs b32 cb=>?_)))
    have yO:OSF 2002 60200 0 rN oO 63 33 ([]:List BookCloth) p1:=cb.osfr (rfl) OS.nil
    clear cb
    have hfr:=hfr.stp hs
    have hmk:=hmk.stp hs
    have b2:=b2.stp hs rfl
    have b3:=b3.stp hs rfl
    refine EL_do .plain rfl (D_storeOc (g:=rN) (v:=.int .i64 (0)) Tryz.sizeOf3 rfl b2 rfl (RV_int.2 rfl) fun pO tQ hs b33 cb=>?_)
    clear cb
    have hfr:=hfr.stp hs
    have hmk:=hmk.stp hs
    have b32:=b32.stp hs rfl
    have b3:=b3.stp hs rfl
    refine EL_do .plain rfl (D_storeOc (g:=pO) (v:=.int .i64 (4)) Tryz.sizeOf44 rfl b3 rfl (RV_int.2 rfl) fun uQ vQ hs b34 cb=>?_)
    clear cb
    have hfr:=hfr.stp hs
    have hmk:=hmk.stp hs
    have b32:=b32.stp hs rfl
    have b33:=b33.stp hs rfl
    refine EL_nil (thn_n (E_ret (blk_r ?_)))
    refine thn_r ?_
    refine endM (.inr rfl) hmk fun xQ yQ hs=>?_
    have hfr:=hfr.stp hs
    have b32:=b32.stp hs rfl
    have b33:=b33.stp hs rfl
    have b34:=b34.stp hs rfl
    obtain rfl:=sinj h
    obtain ⟨ad36,cv36,hp36,yN,cr36⟩:=ob_read Tryz.isAgg33 Tryz.sizeOf33 b32
    obtain ⟨ad37,cv37,hp37,zN,cr37⟩:=ob_read Tryz.isAgg3 Tryz.sizeOf3 b33
    obtain rfl:=RV_int.1 cr37
    obtain ⟨ad38,cv38,hp38,aO,cr38⟩:=ob_read Tryz.isAgg44 Tryz.sizeOf44 b34
    obtain rfl:=RV_int.1 cr38
    exact endm_ccc rfl rfl ((show _=p1 from rfl).trans hp36) yN ((show _=p2 from rfl).trans hp37) zN ((show _=p3 from rfl).trans hp38) aO ⟨_,hfr,_,_,_,rfl,cr36,rfl,rfl⟩
   ·refine E_cf nI rfl ?_
    exact E_skip (blk_n (thn_n (sN (([]:List BookCloth),(0:Int),(0:Int)) _ _ _ ⟨g3,hfr,hmk,rfl,rp0,rfl,b1,xF,rfl,b2,rfl,b3⟩ h)))
 ·rintro ⟨qH, sH, tH⟩ mQ rE zQ ⟨qO, hfr, hmk, nL, oL, nB, xH, u2_0_39, uE, yH, vE, zH⟩ h
  refine E_joinCD h (fun (s:(List BookCloth) × Int × Int) e ds w=>∃ (g:Gh) ,Fr gI wI g w∧MkF g w ds∧e 2=p1∧OB 2002 g w 33 (s.1:List BookCloth) p1∧OSF 2002 60200 0 g w 63 33 (s.1) p1∧e 3=p2∧OB 2003 g w 3 (s.2.1:Int) p2∧e 4=p3∧OB 2004 g w 44 (s.2.2:Int) p3) (fun X969 sK xL h=>?_) ?_
  ·refine E_seq (E_region (EL_mv nL rfl ?_))
   obtain ⟨zE,yL,h⟩:=bsome h
   refine EL_do .plain rfl (D_call (g:=qO) (vs:=[up0]) en83 (.cons rfl .nil) (wk83 oL yL) fun nQ zO mE hs hr=>?_)
   have hfr:=hfr.ext hs
   have hmk:=hmk.ext hs
   have u2_0_39:=u2_0_39.ext hs
   have xH:=xH.ext hs
   have yH:=yH.ext hs
   have zH:=zH.ext hs
   have tK:=hr
   refine EL_nil (thn_n (E_block ?_))
   have hB0:=hfr.size
   have hmk0:=hmk
   obtain ⟨⟨lD,⟨nD,oD,yD⟩⟩,hφ,h⟩:=bsome h
   refine E_rangeFunc (σ:=(Nat × (List BookCloth) × Int × Int)) (s0:=(0,(qH,sH,tH))) 10 rfl (fun s=>s.1) [.ret] (fun (s:Nat × (List BookCloth) × Int × Int) (g:Gh) (w:World)=>Fr gI wI g w∧MkF g w rE∧OB 2002 g w 33 (s.2.1:List BookCloth) p1∧OSF 2002 60200 0 g w 63 33 (s.2.1) p1∧OB 2003 g w 3 (s.2.2.1:Int) p2∧OB 2004 g w 44 (s.2.2.2:Int) p3∧ItV Tryz.prog (RA1 (α:=(Vector UInt8 8))) zE mE g.m w) rfl tK hφ (fun _ _ _ h=>(guardC_h h).1) rfl ra1_size rfl (fun _ _ _ _ _ hx hR=>by obtain ⟨hfr,hmk,z2,z3,z4,z5,z6⟩:=hR; exact ⟨hfr.ist hx hB0,hmk.ist hx,z2.ist hx,z3.ist hx,z4.ist hx,z5.ist hx,z6.ist hx⟩) (fun _ _ _ _ _ hx hR=>by obtain ⟨hfr,hmk,z2,z3,z4,z5,z6⟩:=hR; exact ⟨hfr.stp hx,hmk.stp hx,z2.stp hx rfl,z3.stp hx rfl,z4.stp hx rfl,z5.stp hx rfl,z6.stp hx⟩) ⟨hfr,hmk,xH,u2_0_39,yH,zH,tK⟩ (fun _ h=>by cases h) ?_ ?_
   ·intro yF cF s x b s2 xE vF vs hsz h hR hrec_0 pI hrd
    obtain ⟨hs0,h⟩:=guardC_h h
    obtain ⟨st,⟨l5,cC,uC⟩⟩:=s
    obtain ⟨hfr,hmk,i6,u2_0_1432,g8,l8,t5⟩:=hR
    obtain ⟨iG,hxe⟩:∃ y,y=x:=⟨x,rfl⟩
    subst hxe
    obtain ⟨dK,rfl,oE⟩:=ra1_get hrd
    have o0:=RFr.refl xE vF
    refine E_region (EL_do .plain rfl (D_allocOc (g:=xE) 2005 ((⟨List.toArray [0,0,0,0,0,0,0,0],rfl⟩:Vector UInt8 8):Vector UInt8 8) Tryz.zeroValue116 (fun m w=>⟨_,(rep_vec (flat_chunk rep_u8 (flat_chunk rep_u8 (flat_chunk rep_u8 (flat_chunk rep_u8 (flat_chunk rep_u8 (flat_chunk rep_u8 (flat_chunk rep_u8 (flat_chunk rep_u8 flat_nil)))))))) rfl),rfl⟩) fun zL aP bP hs b1433 cb=>?_))
    have hfr:=hfr.stp hs
    have hmk:=hmk.stp hs
    have o0:=o0.stp hs
    have hrec_0:=hrec_0.stp hs rfl
    have u2_0_1432:=u2_0_1432.stp hs rfl
    have i6:=i6.stp hs rfl
    have g8:=g8.stp hs rfl
    have l8:=l8.stp hs rfl
    have t5:=t5.stp hs
    have oE:=oE.stp hs
    clear cb
    refine EL_do .plain rfl (D_storeOc (g:=zL) (v:=dK) Tryz.sizeOf116 rfl b1433 rfl oE fun kJ cP hs b1434 cb=>?_)
    clear cb
    have hfr:=hfr.stp hs
    have hmk:=hmk.stp hs
    have o0:=o0.stp hs
    have hrec_0:=hrec_0.stp hs rfl
    have u2_0_1432:=u2_0_1432.stp hs rfl
    have i6:=i6.stp hs rfl
    have g8:=g8.stp hs rfl
    have l8:=l8.stp hs rfl
    have t5:=t5.stp hs
    refine EL_nil (thn_n ?_)
    obtain ⟨aM,hbr,hs,hrN⟩:=begin_round hrec_0 pI
    refine ⟨aM,hbr,?_⟩
    have hfr:=hfr.stp hs
    have hmk:=hmk.stp hs
    have o0:=o0.stp hs
    have u2_0_1432:=u2_0_1432.stp hs rfl
    have i6:=i6.stp hs rfl
    have g8:=g8.stp hs rfl
    have l8:=l8.stp hs rfl
    have t5:=t5.stp hs
    have b1434:=b1434.stp hs rfl
    have hrec_0:=hrN
    clear hbr hs hrN
    refine E_block ?_
    refine E_seq (E_region (EL_do .plain rfl (D_loadO (g:=kJ) Tryz.isAgg116 Tryz.sizeOf116 rfl b1434 fun bM cM=>?_)))
    obtain ⟨n8,uK,h⟩:=bsome h
    refine EL_do .plain rfl (D_call (g:=kJ) (vs:=[bM]) en68 (.cons rfl .nil) (wk68 cM uK) fun dM rO dP hs hr=>?_)
    have hfr:=hfr.ext hs
    have hmk:=hmk.ext hs
    have o0:=o0.ext hs
    have hrec_0:=hrec_0.ext hs
    have u2_0_1432:=u2_0_1432.ext hs
    have i6:=i6.ext hs
    have g8:=g8.ext hs
    have l8:=l8.ext hs
    have t5:=t5.ext hs
    obtain ⟨dF,dO,rfl,eF,rfl⟩:=hr
    refine EL_mw (.tuple #[dF,.int .i64 (n8.2)]) rfl rfl ?_
    refine EL_p dF (P_extract rfl rfl) rfl ?_
    refine EL_p (.int .i64 (n8.2)) (P_extract rfl rfl) rfl ?_
    refine EL_do .plain rfl (D_allocOc (g:=dM) 2006 (⟨0,0,0,0,0⟩:BookCloth) Tryz.zeroValue63 (fun m w=>⟨_,(rep_two rep_int (rep_two rep_int (rep_two rep_int (rep_two rep_int rep_int)))),rfl⟩) fun eM eP zD hs b1439 cb=>?_)
    have hfr:=hfr.stp hs
    have hmk:=hmk.stp hs
    have o0:=o0.stp hs
    have hrec_0:=hrec_0.stp hs rfl
    have u2_0_1432:=u2_0_1432.stp hs rfl
    have i6:=i6.stp hs rfl
    have g8:=g8.stp hs rfl
    have l8:=l8.stp hs rfl
    have t5:=t5.stp hs
    have eF:=eF.stp hs
    clear cb
    refine EL_do .plain rfl (D_storeOc (g:=eM) (v:=dF) Tryz.sizeOf63 rfl b1439 rfl eF fun aI gP hs b1440 cb=>?_)
    clear cb
    have hfr:=hfr.stp hs
    have hmk:=hmk.stp hs
    have o0:=o0.stp hs
    have hrec_0:=hrec_0.stp hs rfl
    have u2_0_1432:=u2_0_1432.stp hs rfl
    have i6:=i6.stp hs rfl
    have g8:=g8.stp hs rfl
    have l8:=l8.stp hs rfl
    have t5:=t5.stp hs
    refine EL_at (.int .i64 (n8.2)) rfl rfl ?_
    refine EL_nil (thn_n ?_)
    obtain ⟨oB,hx,h⟩:=bsome h
    refine E_join (fun e w=>∃ (g:Gh) ,Fr gI wI g w∧MkF g w rE∧RFr xE vF g w∧HB 10 g w yF (.loop { cF with state:=.busy })∧e 2=p1∧OB 2002 g w 33 (l5:List BookCloth) p1∧OSF 2002 60200 0 g w 63 33 (l5) p1∧e 3=p2∧OB 2003 g w 3 (cC:Int) p2∧e 4=p3∧OB 2004 g w 44 (uC:Int) p3∧e 6=zD∧OB 2006 g w 63 (n8.1:BookCloth) zD∧e 7=.int .i64 (oB)∧e 18=mE∧ItV Tryz.prog (RA1 (α:=(Vector UInt8 8))) zE mE g.m w) (fun Q' hQ=>?_) (fun sO iP hR=>?_)
    ·replace h := hx
     clear hx
     obtain ⟨zB,hx,h⟩:=bsome h
     refine E_join (fun e w=>∃ (g:Gh) ,Fr gI wI g w∧MkF g w rE∧RFr xE vF g w∧HB 10 g w yF (.loop { cF with state:=.busy })∧e 2=p1∧OB 2002 g w 33 (l5:List BookCloth) p1∧OSF 2002 60200 0 g w 63 33 (l5) p1∧e 3=p2∧OB 2003 g w 3 (cC:Int) p2∧e 4=p3∧OB 2004 g w 44 (uC:Int) p3∧e 6=zD∧OB 2006 g w 63 (n8.1:BookCloth) zD∧e 7=.int .i64 (n8.2)∧e 18=mE∧ItV Tryz.prog (RA1 (α:=(Vector UInt8 8))) zE mE g.m w∧e 42=.bool (zB)) (fun Q' hQ=>?_) (fun tO jP hR=>?_)
     ·replace h := hx
      clear hx
      rcases csome h with ⟨l9,h⟩ | ⟨l9,h⟩
      ·refine L_loadOS (x := .tmp 2) Tryz.isAgg33 Tryz.sizeOf33 i6 u2_0_1432 fun lJ mJ o1765 kI => ?_
       rcases csome h with ⟨v8,h⟩ | ⟨v8,h⟩
       ·refine L_loadOS (x := .tmp 2) Tryz.isAgg33 Tryz.sizeOf33 i6 u2_0_1432 fun nJ oJ o1767 vK => ?_
        refine L_loadOS (x:=.tmp 2) Tryz.isAgg33 Tryz.sizeOf33 i6 u2_0_1432 fun iM jM o1768 xK=>?_
        obtain ⟨sI,lI,h⟩:=bsome h
        have kM:=PT_idx oJ lI
        refine L_load (x:=.tmp 37) Tryz.isAgg63 Tryz.sizeOf63 kM fun pJ pM yK=>?_
        refine L_loadO0 (x:=.tmp 6) Tryz.isAgg63 Tryz.sizeOf63 b1440 fun qJ qM zK=>?_
        obtain ⟨cD,aL,h⟩:=bsome h
        refine E_drawL (g:=aI) (n:=18) [(15,(fun v g w=>v=.int .i64 (cD)))] [0,1,2,3,4,5,6,7,8,9,10,11,12,13,14,15,16,17] rfl mixed (by kernel_rfl) (⟨fun _=>up_eq _,trivial⟩) ?_
        refine L_p (.int .i64 (n8.2)) rfl rfl (P_move rfl) ?_
        refine L_p (.bool ((n8.2 == (0:Int)))) rfl rfl (P_int rfl rfl rfl) ?_
        refine L_p (.bool ((n8.2 == (0:Int)))) rfl rfl (P_move rfl) ?_
        refine L_ld (c:=lJ) rfl rfl (.yes2 rfl rfl l9) (fun _ _ h=>⟨h.ch,fun b hb _=>h.below.block b hb⟩) kI nB ?_
        refine L_y (.int .i64 ((l5).length:Int)) rfl rfl rfl rfl l9 (P_len Tryz.underlying33 rfl mJ) ?_
        refine L_y (.bool ((decide (((l5).length:Int) > (0:Int))))) rfl rfl rfl rfl l9 (P_int rfl rfl rfl) ?_
        refine L_p (.bool ((decide (((l5).length:Int) > (0:Int))))) rfl rfl (P_pick (b:=(n8.2 == (0:Int))) rfl (pick_t l9 rfl)) ?_
        refine L_p (.bool ((decide (((l5).length:Int) > (0:Int))))) rfl rfl (P_move rfl) ?_
        refine L_ld (c:=nJ) rfl rfl (.yes2 rfl rfl v8) (fun _ _ h=>⟨h.ch,fun b hb _=>h.below.block b hb⟩) vK nB ?_
        refine L_ld (c:=iM) rfl rfl (.yes2 rfl rfl v8) (fun _ _ h=>⟨h.ch,fun b hb _=>h.below.block b hb⟩) xK nB ?_
        refine L_y (.int .i64 ((l5).length:Int)) rfl rfl rfl rfl v8 (P_len Tryz.underlying33 rfl jM) ?_
        refine L_y (.int .i64 ((w64 (((l5).length:Int) - (1:Int))))) rfl rfl rfl rfl v8 (P_int rfl rfl rfl) ?_
        refine L_y (ePtr nJ (w64 (((l5).length:Int) - (1:Int))) 5) rfl rfl rfl rfl v8 (P_indexAddr (α:=BookCloth) Tryz.underlying33 Tryz.sizeOf63 rfl oJ rfl lI) ?_
        refine L_ld (c:=pJ) rfl rfl (.yes2 rfl rfl v8) (fun _ _ h=>h.ch) yK rfl ?_
        refine L_ld (c:=qJ) rfl rfl (.yes2 rfl rfl v8) (fun _ _ h=>⟨h.ch,fun b hb _=>h.below.block b hb⟩) zK rfl ?_
        refine L_do (φ:=fun v g w=>v=.int .i64 (cD)) rfl rfl (.yes2 rfl rfl v8) (fun g w hd=>D_call (g:=g) (vs:=[pJ,qJ]) en34 (.cons rfl (.cons rfl .nil)) (wk34 (pM.ext hd.1) (qM.ext hd.1) aL) fun g' w' v hs hr=>⟨g',hs,hr⟩) (fun kP hv=>?_)
        obtain ⟨_,_,_,rfl⟩:=hv
        refine L_y (.bool ((decide (cD ≥ (0:Int))))) rfl rfl rfl rfl v8 (P_int rfl rfl rfl) ?_
        refine L_p (.bool ((decide (cD ≥ (0:Int))))) rfl rfl (P_pick (b:=(decide (((l5).length:Int) > (0:Int)))) rfl (pick_t v8 rfl)) ?_
        refine L_nl fun rM lP hs=>?_
        have hfr:=hfr.ext hs
        have hmk:=hmk.ext hs
        have o0:=o0.ext hs
        have hrec_0:=hrec_0.ext hs
        have u2_0_1432:=u2_0_1432.ext hs
        have i6:=i6.ext hs
        have g8:=g8.ext hs
        have l8:=l8.ext hs
        have t5:=t5.ext hs
        have b1440:=b1440.ext hs
        clear hs
        refine EL_nil ?_
        obtain rfl:=sinj h
        exact hQ _ _ ⟨rM,hfr,hmk,o0,hrec_0,nB,i6,u2_0_1432,uE,g8,vE,l8,rfl,b1440,rfl,rfl,t5,rfl⟩
       ·refine E_drawL (g := aI) (n := 18) [] [0, 1, 2, 3, 4, 5, 6, 7, 8, 9, 10, 11, 12, 13, 14, 15, 16, 17] rfl mixed (by kernel_rfl) trivial ?_
        refine L_p (.int .i64 (n8.2)) rfl rfl (P_move rfl) ?_
        refine L_p (.bool ((n8.2 == (0:Int)))) rfl rfl (P_int rfl rfl rfl) ?_
        refine L_p (.bool ((n8.2 == (0:Int)))) rfl rfl (P_move rfl) ?_
        refine L_ld (c:=lJ) rfl rfl (.yes2 rfl rfl l9) (fun _ _ h=>⟨h.ch,fun b hb _=>h.below.block b hb⟩) kI nB ?_
        refine L_y (.int .i64 ((l5).length:Int)) rfl rfl rfl rfl l9 (P_len Tryz.underlying33 rfl mJ) ?_
        refine L_y (.bool ((decide (((l5).length:Int) > (0:Int))))) rfl rfl rfl rfl l9 (P_int rfl rfl rfl) ?_
        refine L_p (.bool ((decide (((l5).length:Int) > (0:Int))))) rfl rfl (P_pick (b:=(n8.2 == (0:Int))) rfl (pick_t l9 rfl)) ?_
        refine L_p (.bool ((decide (((l5).length:Int) > (0:Int))))) rfl rfl (P_move rfl) ?_
        iterate 9 refine L_s rfl rfl rfl v8 rfl ?_
        refine L_p (.bool false) rfl rfl (P_pick (b:=(decide (((l5).length:Int) > (0:Int)))) rfl (pick_f v8 rfl)) ?_
        refine L_nl fun sM mP hs=>?_
        have hfr:=hfr.ext hs
        have hmk:=hmk.ext hs
        have o0:=o0.ext hs
        have hrec_0:=hrec_0.ext hs
        have u2_0_1432:=u2_0_1432.ext hs
        have i6:=i6.ext hs
        have g8:=g8.ext hs
        have l8:=l8.ext hs
        have t5:=t5.ext hs
        have b1440:=b1440.ext hs
        clear hs
        refine EL_nil ?_
        obtain rfl:=sinj h
        exact hQ _ _ ⟨sM,hfr,hmk,o0,hrec_0,nB,i6,u2_0_1432,uE,g8,vE,l8,rfl,b1440,rfl,rfl,t5,rfl⟩
      ·refine E_drawL (g := aI) (n := 18) [] [0, 1, 2, 3, 4, 5, 6, 7, 8, 9, 10, 11, 12, 13, 14, 15, 16, 17] rfl mixed (by kernel_rfl) trivial ?_
       refine L_p (.int .i64 (n8.2)) rfl rfl (P_move rfl) ?_
       refine L_p (.bool ((n8.2 == (0:Int)))) rfl rfl (P_int rfl rfl rfl) ?_
       refine L_p (.bool ((n8.2 == (0:Int)))) rfl rfl (P_move rfl) ?_
       iterate 3 refine L_s rfl rfl rfl l9 rfl ?_
       refine L_p (.bool false) rfl rfl (P_pick (b:=(n8.2 == (0:Int))) rfl (pick_f l9 rfl)) ?_
       refine L_dead (fun _=>rfl) 11 rfl ?_
       refine L_nl fun tM nP hs=>?_
       have hfr:=hfr.ext hs
       have hmk:=hmk.ext hs
       have o0:=o0.ext hs
       have hrec_0:=hrec_0.ext hs
       have u2_0_1432:=u2_0_1432.ext hs
       have i6:=i6.ext hs
       have g8:=g8.ext hs
       have l8:=l8.ext hs
       have t5:=t5.ext hs
       have b1440:=b1440.ext hs
       clear hs
       refine EL_nil ?_
       obtain rfl:=sinj h
       exact hQ _ _ ⟨tM,hfr,hmk,o0,hrec_0,nB,i6,u2_0_1432,uE,g8,vE,l8,rfl,b1440,rfl,rfl,t5,rfl⟩
     ·clear hx
      obtain ⟨rJ,hfr,hmk,o0,hrec_0,mG,sG,u2_0_1871,xG,yG,zG,aH,cH,gH,lK,aG,bG,cG⟩:=hR
      rcases csome h with ⟨eG,h⟩ | ⟨eG,h⟩
      ·refine E_cond_true (Eq.trans (show ev _ _ = .bool (zB) from cG) (congrArg Value.bool eG)) ?_
       refine E_region (EL_at (.int .i64 (4)) rfl rfl ?_)
       refine EL_nil ?_
       obtain rfl:=sinj h
       exact hQ _ _ ⟨rJ,hfr,hmk,o0,hrec_0,mG,sG,u2_0_1871,xG,yG,zG,aH,cH,gH,rfl,aG,bG⟩
      ·refine E_cond_false (Eq.trans (show ev _ _ = .bool (zB) from cG) (congrArg Value.bool eG)) ?_
       refine E_skip ?_
       obtain rfl:=sinj h
       exact hQ _ _ ⟨rJ,hfr,hmk,o0,hrec_0,mG,sG,u2_0_1871,xG,yG,zG,aH,cH,gH,lK,aG,bG⟩
    ·clear hx
     obtain ⟨bI,hfr,hmk,o0,hrec_0,rF,sF,u2_0_1873,jH,aE,kH,vB,mK,nK,lH,qI,n9⟩:=hR
     refine E_joinC h (fun (s:(List BookCloth) × Int × Int) e w=>∃ (g:Gh) ,Fr gI wI g w∧MkF g w rE∧RFr xE vF g w∧HB 10 g w yF (.loop { cF with state:=.busy })∧e 2=p1∧OB 2002 g w 33 (s.1:List BookCloth) p1∧OSF 2002 60200 0 g w 63 33 (s.1) p1∧e 3=p2∧OB 2003 g w 3 (s.2.1:Int) p2∧e 4=p3∧OB 2004 g w 44 (s.2.2:Int) p3∧e 6=zD∧OB 2006 g w 63 (n8.1:BookCloth) zD∧e 18=mE∧ItV Tryz.prog (RA1 (α:=(Vector UInt8 8))) zE mE g.m w) (fun X1879 jJ bL h=>?_) ?_
     ·refine E_seq (E_region (EL_mv lH rfl ?_))
      refine EL_in (.bool ((oB != (0:Int)))) rfl rfl rfl rfl ?_
      refine EL_nil (thn_n ?_)
      rcases csome h with ⟨gG,h⟩ | ⟨gG,h⟩
      ·refine E_ct gG rfl ?_
       refine E_seq (E_region (EL_do .plain rfl (D_loadOS (g:=bI) Tryz.isAgg33 Tryz.sizeOf33 rF sF u2_0_1873 fun oP uM o1881=>?_)))
       refine EL_p (.int .i64 ((l5).length:Int)) (P_len Tryz.underlying33 rfl uM) rfl ?_
       refine EL_mv lH rfl ?_
       refine EL_do .plain rfl (D_storeOc (g:=bI) (v:=.slice none 0 0) Tryz.sizeOf33 rF sF rfl RV_nil fun sJ vM hs b1882 cb=>?_)
       have vC:OSF 2002 60200 0 sJ vM 63 33 ([]:List BookCloth) p1:=cb.osfr (rfl) OS.nil
       clear cb
       have hfr:=hfr.stp hs
       have hmk:=hmk.stp hs
       have o0:=o0.stp hs
       have hrec_0:=hrec_0.stp hs rfl
       have aE:=aE.stp hs rfl
       have vB:=vB.stp hs rfl
       have n9:=n9.stp hs
       refine EL_do .plain rfl (D_storeOc (g:=sJ) (v:=.int .i64 ((l5).length:Int)) Tryz.sizeOf3 jH aE rfl (RV_int.2 rfl) fun xM pP hs b1883 cb=>?_)
       clear cb
       have hfr:=hfr.stp hs
       have hmk:=hmk.stp hs
       have o0:=o0.stp hs
       have hrec_0:=hrec_0.stp hs rfl
       have vC:=vC.stp hs rfl
       have b1882:=b1882.stp hs rfl
       have vB:=vB.stp hs rfl
       have n9:=n9.stp hs
       refine EL_do .plain rfl (D_storeOc (g:=xM) (v:=.int .i64 (oB)) Tryz.sizeOf44 kH vB rfl (RV_int.2 rfl) fun sP tP hs b1884 cb=>?_)
       clear cb
       have hfr:=hfr.stp hs
       have hmk:=hmk.stp hs
       have o0:=o0.stp hs
       have hrec_0:=hrec_0.stp hs rfl
       have vC:=vC.stp hs rfl
       have b1882:=b1882.stp hs rfl
       have b1883:=b1883.stp hs rfl
       have n9:=n9.stp hs
       refine EL_nil (thn_n (E_ret (thn_r ?_)))
       refine blk_r ?_
       obtain ⟨rfl,rfl⟩:=pairs2 h
       exact ⟨_,o0,⟨hfr,hmk,b1882,vC,b1883,b1884,n9⟩,hrec_0,rfl,0,rfl,rfl⟩
      ·refine E_cf gG rfl ?_
       exact E_skip (thn_n (bL (l5,cC,uC) _ _ ⟨bI,hfr,hmk,o0,hrec_0,rF,sF,u2_0_1873,jH,aE,kH,vB,mK,nK,qI,n9⟩ h))
     ·rintro ⟨jG, kG, lG⟩ uO uP ⟨dI, hfr, hmk, o0, hrec_0, mH, yB, u2_0_1885, eO, lB, gO, mB, oK, pK, bO, aB⟩ h
      refine E_region (EL_do .plain rfl (D_loadOS (g:=dI) Tryz.isAgg33 Tryz.sizeOf33 mH yB u2_0_1885 fun vP iI o1886=>?_))
      refine EL_do .plain rfl (D_loadO (g:=dI) Tryz.isAgg63 Tryz.sizeOf63 oK pK fun bN cN=>?_)
      refine EL_do .plain rfl (D_buildSlice (g:=dI) 3050 (xs:=([n8.1]:List BookCloth)) (vs:=[bN]) Tryz.underlying33 Tryz.sizeOf63 Tryz.zeroValue63 rfl rfl (.cons rfl .nil) (RVs.cons cN RVs.nil) rfl rfl fun dN xP yP hs o1888 eN hxt hfl=>?_)
      have hfr:=hfr.stp hs
      have hmk:=hmk.stp hs
      have o0:=o0.stp hs
      have hrec_0:=hrec_0.stp hs rfl
      have yB:=yB.stp hs rfl
      have lB:=lB.stp hs rfl
      have mB:=mB.stp hs rfl
      have aB:=aB.stp hs
      have iI:=iI.stp hs
      have o1886:=o1886.stp hs rfl
      obtain ⟨uH,dL,h⟩:=bsome h
      refine EL_do .plain rfl (D_append (g:=dN) (i:=60200) Tryz.underlying33 info_63 rfl rfl o1886 iI rfl eN dL fun gN zP iN hs o1889 vJ _=>?_)
      have hfr:=hfr.stp hs
      have hmk:=hmk.stp hs
      have o0:=o0.stp hs
      have hrec_0:=hrec_0.stp hs rfl
      have yB:=yB.stp hs rfl
      have lB:=lB.stp hs rfl
      have mB:=mB.stp hs rfl
      have aB:=aB.stp hs
      refine EL_do .plain rfl (D_storeOc (g:=gN) (v:=iN) Tryz.sizeOf33 mH yB rfl vJ fun jN kN hs b1891 cb=>?_)
      have qK:OSF 2002 60200 0 jN kN 63 33 (uH:List BookCloth) p1:=cb.osfr (rv_cells1 vJ) (o1889.stp hs rfl)
      clear cb
      have hfr:=hfr.stp hs
      have hmk:=hmk.stp hs
      have o0:=o0.stp hs
      have hrec_0:=hrec_0.stp hs rfl
      have lB:=lB.stp hs rfl
      have mB:=mB.stp hs rfl
      have aB:=aB.stp hs
      refine EL_nil (blk_n ?_)
      obtain ⟨rfl,rfl⟩:=pairs2 h
      exact ⟨_,o0,⟨hfr,hmk,b1891,qK,lB,mB,aB⟩,hrec_0,rfl,rfl⟩
   ·intro lN bQ ds1893 hsz hR hds
    obtain ⟨hfr,hmk,bE,u2_0_1893,iE,lE,cO⟩:=hR
    obtain ⟨D,hdse,hD,hDb⟩:=hds.1 rfl
    subst hdse
    replace hmk:=MkF.push hmk0 hmk hD hDb
    clear hD hDb hds
    revert hmk
    generalize ({ target:=.collected D,args:=#[] } :: rE:List Deferred)=jO
    intro hmk
    refine ⟨fun hs=>?_,fun k c hs hc=>?_⟩
    ·have hs : lD = 0 := hs
     subst hs
     replace h:=cond_t h rfl
     exact blk_n (thn_n (xL (nD,oD,yD) _ _ _ ⟨lN,hfr,hmk,nB,bE,u2_0_1893,uE,iE,vE,lE⟩ h))
    ·have hs : lD = k + 1 := hs
     match k,hs,hc with
     | 0,hs,hc=>
      subst hs
      obtain rfl:=sinj hc
      replace h:=cond_f h rfl
      refine E_ret (blk_r ?_)
      refine thn_r ?_
      refine endM (.inr rfl) hmk fun cQ dQ hs=>?_
      have hfr:=hfr.stp hs
      have bE:=bE.stp hs rfl
      have iE:=iE.stp hs rfl
      have lE:=lE.stp hs rfl
      obtain rfl:=sinj h
      obtain ⟨ad1895,cv1895,hp1895,eL,cr1895⟩:=ob_read Tryz.isAgg33 Tryz.sizeOf33 bE
      obtain ⟨ad1896,cv1896,hp1896,gL,cr1896⟩:=ob_read Tryz.isAgg3 Tryz.sizeOf3 iE
      obtain rfl:=RV_int.1 cr1896
      obtain ⟨ad1897,cv1897,hp1897,iL,cr1897⟩:=ob_read Tryz.isAgg44 Tryz.sizeOf44 lE
      obtain rfl:=RV_int.1 cr1897
      exact endm_ccc rfl rfl ((show _=p1 from nB).trans hp1895) eL ((show _=p2 from uE).trans hp1896) gL ((show _=p3 from vE).trans hp1897) iL ⟨_,hfr,_,_,_,rfl,cr1895,rfl,rfl⟩
     | n + 1,_,hc=>exact absurd hc (by simp)
  ·rintro ⟨yE, bK, cK⟩ vO kO eQ ⟨xJ, hfr, hmk, tF, nH, u2_0_1898, oH, uF, pH, bD⟩ h
   refine E_seq (E_region (EL_do .plain rfl (D_loadOS (g:=xJ) Tryz.isAgg33 Tryz.sizeOf33 tF nH u2_0_1898 fun mN zJ o1899=>?_)))
   refine EL_do .plain rfl (D_storeOc (g:=xJ) (v:=mN) Tryz.sizeOf33 tF nH rfl zJ fun aK nN hs b1900 cb=>?_)
   have lO:OSF 2002 60200 0 aK nN 63 33 (yE:List BookCloth) p1:=cb.osfr (rv_cells1 zJ) (o1899.stp hs rfl)
   clear cb
   have hfr:=hfr.stp hs
   have hmk:=hmk.stp hs
   have uF:=uF.stp hs rfl
   have bD:=bD.stp hs rfl
   refine EL_do .plain rfl (D_storeOc (g:=aK) (v:=.int .i64 (0)) Tryz.sizeOf3 oH uF rfl (RV_int.2 rfl) fun oN gQ hs b1901 cb=>?_)
   clear cb
   have hfr:=hfr.stp hs
   have hmk:=hmk.stp hs
   have b1900:=b1900.stp hs rfl
   have bD:=bD.stp hs rfl
   refine EL_do .plain rfl (D_storeOc (g:=oN) (v:=.int .i64 (0)) Tryz.sizeOf44 pH bD rfl (RV_int.2 rfl) fun iQ jQ hs b1902 cb=>?_)
   clear cb
   have hfr:=hfr.stp hs
   have hmk:=hmk.stp hs
   have b1900:=b1900.stp hs rfl
   have b1901:=b1901.stp hs rfl
   refine EL_nil (thn_n (E_ret (endM (.inr rfl) hmk fun kQ lQ hs=>?_)))
   have hfr:=hfr.stp hs
   have b1900:=b1900.stp hs rfl
   have b1901:=b1901.stp hs rfl
   have b1902:=b1902.stp hs rfl
   obtain rfl:=sinj h
   obtain ⟨ad1904,cv1904,hp1904,jL,cr1904⟩:=ob_read Tryz.isAgg33 Tryz.sizeOf33 b1900
   obtain ⟨ad1905,cv1905,hp1905,lL,cr1905⟩:=ob_read Tryz.isAgg3 Tryz.sizeOf3 b1901
   obtain rfl:=RV_int.1 cr1905
   obtain ⟨ad1906,cv1906,hp1906,mL,cr1906⟩:=ob_read Tryz.isAgg44 Tryz.sizeOf44 b1902
   obtain rfl:=RV_int.1 cr1906
   exact endm_ccc rfl rfl ((show _=p1 from tF).trans hp1904) jL ((show _=p2 from oH).trans hp1905) lL ((show _=p3 from pH).trans hp1906) mL ⟨_,hfr,_,_,_,rfl,cr1904,rfl,rfl⟩
def f74 (x0:ChainBelt):Option (ChainChainBelt × Int):=
 jn (σ:=ChainChainBelt) (fun aB=>
  some ((⟨x0,(x0).Hooks⟩:ChainChainBelt),(0:Int))
  ) fun k33=>
 (f101 ((x0).Hooks)).bind fun n8=>
 bif (!n8) then
  some ((⟨x0,(x0).Hooks⟩:ChainChainBelt),(3:Int))
 else
  bif (decide ((((x0).Cards).length : Int) > (60 : Int))) then
   some ((⟨x0,(x0).Hooks⟩:ChainChainBelt),(5:Int))
  else
   (f102 ((x0).Hooks) ((x0).Cards)).bind fun v8=>
   bif (!v8) then
    some ((⟨x0,(x0).Hooks⟩:ChainChainBelt),(2:Int))
   else
    k33 ((⟨⟨0,[]⟩,0⟩:ChainChainBelt))
theorem en74:Enters Tryz.prog 74:=enters_of Tryz.func74 (by kernel_rfl) rfl
theorem wk74 {gI:Gh} {wI:World} {x0:ChainBelt} {up0:Value} (rp0:RV gI.m wI x0 up0) {r:ChainChainBelt × Int} (h:f74 x0=some r):Fn Tryz.prog 74 #[up0] gI wI (fun m w v=>∃ y0 y1,v=.tuple #[y0,y1]∧RV m w (r.1) y0∧y1=.int .i64 (r.2)):=by
 unfold f74 at h
 refine fn_of_E Tryz.func74 rfl (Nat.le_of_ble_eq_true rfl) fun g0 hm hfr=>?_
 have rp0:RV g0.m wI x0 up0:=hm ▸ rp0
 show E _ 30 none _ _ _ _ _
 refine E_seq (E_region (EL_do .plain rfl (D_box (g:=g0) rfl rp0 fun g1 w1 p1 hs q1=>?_)))
 have hfr:=hfr.ext hs
 refine EL_do .plain rfl (D_allocOc (g:=g1) 2002 (⟨⟨0,[]⟩,0⟩:ChainChainBelt) Tryz.zeroValue171 (fun m w=>⟨_,(rep_two (rep_two rep_int rep_nil) rep_int),rfl⟩) fun g2 w2 p2 hs b2 cb=>?_)
 have hfr:=hfr.stp hs
 have q1:=q1.stp hs
 have o0:OSF 2002 60201 1 g2 w2 87 171 ([]:List ChainCard) p2:=cb.osf (by rfl)
 clear cb
 refine EL_at (.int .i64 (0)) rfl rfl ?_
 refine EL_nil (thn_n (E_seq (E_region (EL_do .plain rfl (D_load (g:=g2) Tryz.isAgg85 Tryz.sizeOf85 rfl q1 fun v3 r3=>?_)))))
 refine EL_p (fPtr p1 0) (P_fieldAddr at_85_0 rfl (PT.ptr q1)) rfl ?_
 have q4:=PT_field (part_ChainBelt_0).1 q1
 refine EL_do .plain rfl (D_load (g:=g2) Tryz.isAgg3 Tryz.sizeOf3 rfl q4 fun v5 r5=>?_)
 obtain rfl:=RV_int.1 r5
 have r6:RV g2.m _ (⟨x0,(x0).Hooks⟩:ChainChainBelt) (.agg (setCh [[.int .i64 0,.slice none 0 0],[.int .i64 0]] [(0,v3),(1,.int .i64 ((x0).Hooks))]).flatten.toArray):=RV_build rfl (rep_pair (RV.cells r3) (rep_last (rfl)))
 generalize cD:(Value.agg (setCh [[.int .i64 0,.slice none 0 0],[.int .i64 0]] [(0,v3),(1,.int .i64 ((x0).Hooks))]).flatten.toArray)=v6 at r6
 refine EL_p v6 (cD ▸ P_build (vs:=[(0,v3),(1,.int .i64 ((x0).Hooks))]) [[.int .i64 0,.slice none 0 0],[.int .i64 0]] lay_171 rfl rfl (.cons rfl (.cons rfl .nil)) ⟨⟨_,rfl,cells_size r3⟩,⟨⟨_,rfl,rfl⟩,trivial⟩⟩) rfl ?_
 refine EL_do .plain rfl (D_allocOc (g:=g2) 2004 (⟨⟨0,[]⟩,0⟩:ChainChainBelt) Tryz.zeroValue171 (fun m w=>⟨_,(rep_two (rep_two rep_int rep_nil) rep_int),rfl⟩) fun g7 w7 p7 hs b7 cb=>?_)
 have hfr:=hfr.stp hs
 have q1:=q1.stp hs
 have o0:=o0.stp hs rfl
 have b2:=b2.stp hs rfl
 have r6:=r6.stp hs
 have yE:OSF 2004 60401 1 g7 w7 87 171 ([]:List ChainCard) p7:=cb.osf (by rfl)
 clear cb
 refine EL_do .plain rfl (D_storeOc (g:=g7) (v:=v6) Tryz.sizeOf171 rfl b7 rfl r6 fun g8 w8 hs b8 cb=>?_)
 clear cb
 have hfr:=hfr.stp hs
 have q1:=q1.stp hs
 have o0:=o0.stp hs rfl
 have b2:=b2.stp hs rfl
 refine EL_nil (thn_n (E_joinC h (fun (s:ChainChainBelt) e w=>∃ (g:Gh) ,Fr gI wI g w∧e 2=p2∧OB 2002 g w 171 (s:ChainChainBelt) p2∧OSF 2002 60201 1 g w 87 171 (((s).ChainBelt).Cards) p2∧e 4=p7∧OB 2004 g w 171 ((⟨x0,(x0).Hooks⟩:ChainChainBelt):ChainChainBelt) p7) (fun X33 k33 vB h=>?_) ?_))
 ·refine E_block ?_
  refine E_seq (E_region (EL_p (fPtr p7 2) (P_fieldAddr at_171_1 rfl (OB.ptr b8)) rfl ?_))
  refine EL_do .plain rfl (D_loadF (g:=g8) part_ChainChainBelt_1.1 Tryz.isAgg169 Tryz.sizeOf169 rfl b8 fun eF lD=>?_)
  obtain rfl:=RV_int.1 lD
  obtain ⟨n8,yB,h⟩:=bsome h
  refine EL_do .plain rfl (D_call (g:=g8) (vs:=[.int .i64 ((x0).Hooks)]) en101 (.cons rfl .nil) (wk101  yB) fun l5 zE rF hs hr=>?_)
  have hfr:=hfr.ext hs
  have q1:=q1.ext hs
  have o0:=o0.ext hs
  have b2:=b2.ext hs
  have b8:=b8.ext hs
  subst hr
  refine EL_p (.bool (!n8)) (P_not rfl) rfl ?_
  refine EL_at (.bool (!n8)) rfl rfl ?_
  refine EL_nil (thn_n ?_)
  rcases csome h with ⟨t5,h⟩ | ⟨t5,h⟩
  ·refine E_ct t5 rfl ?_
   refine E_seq (E_region (EL_do .plain rfl (D_loadO (g:=l5) Tryz.isAgg171 Tryz.sizeOf171 rfl b8 fun nD oD=>?_)))
   refine EL_do .plain rfl (D_storeOc (g:=l5) (v:=nD) Tryz.sizeOf171 rfl b2 rfl oD fun sF tF hs b40 cb=>?_)
   clear cb
   have hfr:=hfr.stp hs
   refine EL_at (.int .i64 (3)) rfl rfl ?_
   refine EL_nil (thn_n (E_ret (blk_r ?_)))
   refine thn_r ?_
   obtain rfl:=sinj h
   obtain ⟨ad41,cv41,hp41,zB,cr41⟩:=ob_read Tryz.isAgg171 Tryz.sizeOf171 b40
   exact endm_ct rfl rfl ((show _=p2 from rfl).trans hp41) zB (show _=.int .i64 (3) from rfl) ⟨_,hfr,_,_,rfl,cr41,rfl⟩
  ·refine E_cf t5 rfl ?_
   refine E_seq (E_region (EL_p (fPtr p1 1) (P_fieldAddr at_85_1 rfl (PT.ptr q1)) rfl ?_))
   have yD:=PT_field (part_ChainBelt_1).1 q1
   refine EL_do .plain rfl (D_load (g:=l5) Tryz.isAgg83 Tryz.sizeOf83 rfl yD fun uF zD=>?_)
   refine EL_p (.int .i64 (((x0).Cards).length:Int)) (P_len Tryz.underlying83 rfl zD) rfl ?_
   refine EL_p (.bool ((decide ((((x0).Cards).length:Int) > (60:Int))))) (P_int rfl rfl rfl) rfl ?_
   refine EL_p (.bool ((decide ((((x0).Cards).length:Int) > (60:Int))))) (P_assign rfl) rfl ?_
   refine EL_nil (thn_n ?_)
   rcases csome h with ⟨i6,h⟩ | ⟨i6,h⟩
   ·refine E_ct i6 rfl ?_
    refine E_seq (E_region (EL_do .plain rfl (D_loadO (g:=l5) Tryz.isAgg171 Tryz.sizeOf171 rfl b8 fun aE bE=>?_)))
    refine EL_do .plain rfl (D_storeOc (g:=l5) (v:=aE) Tryz.sizeOf171 rfl b2 rfl bE fun vF xF hs b46 cb=>?_)
    clear cb
    have hfr:=hfr.stp hs
    refine EL_at (.int .i64 (5)) rfl rfl ?_
    refine EL_nil (thn_n (E_ret (blk_r ?_)))
    refine thn_r ?_
    obtain rfl:=sinj h
    obtain ⟨ad47,cv47,hp47,cC,cr47⟩:=ob_read Tryz.isAgg171 Tryz.sizeOf171 b46
    exact endm_ct rfl rfl ((show _=p2 from rfl).trans hp47) cC (show _=.int .i64 (5) from rfl) ⟨_,hfr,_,_,rfl,cr47,rfl⟩
   ·refine E_cf i6 rfl ?_
    refine E_seq (E_region (EL_p (fPtr p7 2) (P_fieldAddr at_171_1 rfl (OB.ptr b8)) rfl ?_))
    refine EL_do .plain rfl (D_loadF (g:=l5) part_ChainChainBelt_1.1 Tryz.isAgg169 Tryz.sizeOf169 rfl b8 fun yF iE=>?_)
    obtain rfl:=RV_int.1 iE
    refine EL_p (fPtr p1 1) (P_fieldAddr at_85_1 rfl (PT.ptr q1)) rfl ?_
    have lE:=PT_field (part_ChainBelt_1).1 q1
    refine EL_do .plain rfl (D_load (g:=l5) Tryz.isAgg83 Tryz.sizeOf83 rfl lE fun mE oE=>?_)
    obtain ⟨v8,uC,h⟩:=bsome h
    refine EL_do .plain rfl (D_call (g:=l5) (vs:=[.int .i64 ((x0).Hooks),mE]) en102 (.cons rfl (.cons rfl .nil)) (wk102 oE uC) fun n9 cF aG hs hr=>?_)
    have hfr:=hfr.ext hs
    have o0:=o0.ext hs
    have b2:=b2.ext hs
    have b8:=b8.ext hs
    subst hr
    refine EL_p (.bool (!v8)) (P_not rfl) rfl ?_
    refine EL_at (.bool (!v8)) rfl rfl ?_
    refine EL_nil (thn_n ?_)
    rcases csome h with ⟨l8,h⟩ | ⟨l8,h⟩
    ·refine E_ct l8 rfl ?_
     refine E_seq (E_region (EL_do .plain rfl (D_loadO (g:=n9) Tryz.isAgg171 Tryz.sizeOf171 rfl b8 fun rE uE=>?_)))
     refine EL_do .plain rfl (D_storeOc (g:=n9) (v:=rE) Tryz.sizeOf171 rfl b2 rfl uE fun bG cG hs b56 cb=>?_)
     clear cb
     have hfr:=hfr.stp hs
     refine EL_at (.int .i64 (2)) rfl rfl ?_
     refine EL_nil (thn_n (E_ret (blk_r ?_)))
     refine thn_r ?_
     obtain rfl:=sinj h
     obtain ⟨ad57,cv57,hp57,vC,cr57⟩:=ob_read Tryz.isAgg171 Tryz.sizeOf171 b56
     exact endm_ct rfl rfl ((show _=p2 from rfl).trans hp57) vC (show _=.int .i64 (2) from rfl) ⟨_,hfr,_,_,rfl,cr57,rfl⟩
    ·refine E_cf l8 rfl ?_
     exact E_skip (blk_n (thn_n (vB ((⟨⟨0,[]⟩,0⟩:ChainChainBelt)) _ _ ⟨n9,hfr,rfl,b2,o0,rfl,b8⟩ h)))
 ·rintro aB dF eG ⟨oB, hfr, l9, lB, u2_1_58, mB, nB⟩ h
  refine E_seq (E_region (EL_do .plain rfl (D_loadO (g:=oB) Tryz.isAgg171 Tryz.sizeOf171 mB nB fun vE xE=>?_)))
  refine EL_do .plain rfl (D_storeOc (g:=oB) (v:=vE) Tryz.sizeOf171 l9 lB rfl xE fun gG iG hs b60 cb=>?_)
  clear cb
  have hfr:=hfr.stp hs
  refine EL_at (.int .i64 (0)) rfl rfl ?_
  refine EL_nil (thn_n (E_ret ?_))
  obtain rfl:=sinj h
  obtain ⟨ad61,cv61,hp61,bD,cr61⟩:=ob_read Tryz.isAgg171 Tryz.sizeOf171 b60
  exact endm_ct rfl rfl ((show _=p2 from l9).trans hp61) bD (show _=.int .i64 (0) from rfl) ⟨_,hfr,_,_,rfl,cr61,rfl⟩
def f75 (x0:Str):Option (Bool):=
 (f76 x0).bind fun y2=>
 some ((!y2))
theorem en75:Enters Tryz.prog 75:=enters_of Tryz.func75 (by kernel_rfl) rfl
theorem wk75 {gI:Gh} {wI:World} {x0:Str}  {r:Bool} (h:f75 x0=some r):Fn Tryz.prog 75 #[Str.v (x0)] gI wI (fun _ _ v=>v=.bool (r)):=by
 unfold f75 at h
 refine fn_of_E Tryz.func75 rfl (Nat.le_of_ble_eq_true rfl) fun g0 hm hfr=>?_
 show E _ 6 none _ _ _ _ _
 refine E_seq (E_region (EL_at (.bool false) rfl rfl ?_))
 refine EL_nil (thn_n (E_seq (E_region (EL_mw (Str.v (x0)) rfl rfl ?_))))
 obtain ⟨y2,hy2,h⟩:=bsome h
 refine EL_do .plain rfl (D_call (g:=g0) (vs:=[Str.v (x0)]) en76 (.cons rfl .nil) (wk76  hy2) fun g1 w1_ v1 hs hr=>?_)
 have hfr:=hfr.ext hs
 subst hr
 refine EL_p (.bool (!y2)) (P_not rfl) rfl ?_
 refine EL_at (.bool (!y2)) rfl rfl ?_
 refine EL_nil (thn_n (E_ret ?_))
 obtain rfl:=sinj h
 exact end1 rfl rfl (show _=.bool (!y2) from rfl) ⟨_,hfr,rfl⟩
def f11 (x0:BeamTake) (x1:Span) (x2:Int):Option (Span × Int):=
 (f22 x0).bind fun y6=>
 jn (σ:=Span) (fun yB=>
  (f25 x0).bind fun mB=>
  (f26 mB x2 ((x1).High)).bind fun t5=>
  (f26 mB x2 ((x1).Low)).bind fun i6=>
  some ((⟨t5,i6⟩:Span),(0:Int))
  ) fun uC=>
 bif (y6 != (0 : Int)) then
  some ((⟨0,0⟩:Span),y6)
 else
  (f23 x1).bind fun v8=>
  bif (!v8) then
   some ((⟨0,0⟩:Span),(2:Int))
  else
   (f24 ((1:Int)) ((100000:Int)) (([x2]:List Int))).bind fun l9=>
   bif (!l9) then
    some ((⟨0,0⟩:Span),(3:Int))
   else
    uC ((⟨0,0⟩:Span))
theorem en11:Enters Tryz.prog 11:=enters_of Tryz.func11 (by kernel_rfl) rfl
theorem wk11 {gI:Gh} {wI:World} {x0:BeamTake} {x1:Span} {x2:Int} {up0:Value} (rp0:RV gI.m wI x0 up0) {up1:Value} (rp1:RV gI.m wI x1 up1) {r:Span × Int} (h:f11 x0 x1 x2=some r):Fn Tryz.prog 11 #[up0,up1,.int .i64 (x2)] gI wI (fun m w v=>∃ y0 y1,v=.tuple #[y0,y1]∧RV m w (r.1) y0∧y1=.int .i64 (r.2)):=by
 unfold f11 at h
 refine fn_of_E Tryz.func11 rfl (Nat.le_of_ble_eq_true rfl) fun g0 hm hfr=>?_
 have rp0:RV g0.m wI x0 up0:=hm ▸ rp0
 have rp1:RV g0.m wI x1 up1:=hm ▸ rp1
 show E _ 40 none _ _ _ _ _
 refine E_seq (E_region (EL_do .plain rfl (D_box (g:=g0) rfl rp0 fun g1 w1 p1 hs q1=>?_)))
 have hfr:=hfr.ext hs
 have rp1:=rp1.ext hs
 refine EL_do .plain rfl (D_box (g:=g1) rfl rp1 fun g2 w2 p2 hs q2=>?_)
 have hfr:=hfr.ext hs
 have q1:=q1.ext hs
 refine EL_do .plain rfl (D_allocOc (g:=g2) 2006 (⟨0,0⟩:Span) Tryz.zeroValue56 (fun m w=>⟨_,(rep_two rep_int rep_int),rfl⟩) fun g3 w3 p3 hs b3 cb=>?_)
 have hfr:=hfr.stp hs
 have q1:=q1.stp hs
 have q2:=q2.stp hs
 clear cb
 refine EL_at (.int .i64 (0)) rfl rfl ?_
 refine EL_nil (thn_n (E_seq (E_region (EL_do .plain rfl (D_load (g:=g3) Tryz.isAgg37 Tryz.sizeOf37 rfl q1 fun v4 r4=>?_)))))
 obtain ⟨y6,dF,h⟩:=bsome h
 refine EL_do .plain rfl (D_call (g:=g3) (vs:=[v4]) en22 (.cons rfl .nil) (wk22 r4 dF) fun g5 w5_ v5 hs hr=>?_)
 have hfr:=hfr.ext hs
 have q1:=q1.ext hs
 have q2:=q2.ext hs
 have b3:=b3.ext hs
 subst hr
 refine EL_at (.int .i64 (y6)) rfl rfl ?_
 refine EL_nil (thn_n (E_joinC h (fun (s:Span) e w=>∃ (g:Gh) ,Fr gI wI g w∧e 2=.int .i64 (x2)∧e 3=p1∧PT g.m w (x0:BeamTake) p1∧e 4=p2∧PT g.m w (x1:Span) p2∧e 6=p3∧OB 2006 g w 56 (s:Span) p3) (fun X25 uC yD h=>?_) ?_))
 ·refine E_block ?_
  refine E_seq (E_region (EL_mw (.int .i64 (y6)) rfl rfl ?_))
  refine EL_in (.bool ((y6 != (0:Int)))) rfl rfl rfl rfl ?_
  refine EL_at (.bool ((y6 != (0:Int)))) rfl rfl ?_
  refine EL_nil (thn_n ?_)
  rcases csome h with ⟨g8,h⟩ | ⟨g8,h⟩
  ·refine E_ct g8 rfl ?_
   refine E_seq (E_region (EL_do .plain rfl (D_loadO (g:=g5) Tryz.isAgg56 Tryz.sizeOf56 rfl b3 fun eF rF=>?_)))
   refine EL_mw (.int .i64 (y6)) rfl rfl ?_
   refine EL_do .plain rfl (D_storeOc (g:=g5) (v:=eF) Tryz.sizeOf56 rfl b3 rfl rF fun mH nH hs b28 cb=>?_)
   clear cb
   have hfr:=hfr.stp hs
   refine EL_at (.int .i64 (y6)) rfl rfl ?_
   refine EL_nil (thn_n (E_ret (blk_r ?_)))
   refine thn_r ?_
   obtain rfl:=sinj h
   obtain ⟨ad29,cv29,hp29,zD,cr29⟩:=ob_read Tryz.isAgg56 Tryz.sizeOf56 b28
   exact endm_ct rfl rfl ((show _=p3 from rfl).trans hp29) zD (show _=.int .i64 (y6) from rfl) ⟨_,hfr,_,_,rfl,cr29,rfl⟩
  ·refine E_cf g8 rfl ?_
   refine E_seq (E_region (EL_do .plain rfl (D_load (g:=g5) Tryz.isAgg56 Tryz.sizeOf56 rfl q2 fun sF tF=>?_)))
   obtain ⟨v8,aE,h⟩:=bsome h
   refine EL_do .plain rfl (D_call (g:=g5) (vs:=[sF]) en23 (.cons rfl .nil) (wk23 tF aE) fun nB gH oH hs hr=>?_)
   have hfr:=hfr.ext hs
   have q1:=q1.ext hs
   have q2:=q2.ext hs
   have b3:=b3.ext hs
   subst hr
   refine EL_p (.bool (!v8)) (P_not rfl) rfl ?_
   refine EL_at (.bool (!v8)) rfl rfl ?_
   refine EL_nil (thn_n ?_)
   rcases csome h with ⟨l8,h⟩ | ⟨l8,h⟩
   ·refine E_ct l8 rfl ?_
    refine E_seq (E_region (EL_do .plain rfl (D_loadO (g:=nB) Tryz.isAgg56 Tryz.sizeOf56 rfl b3 fun uF vF=>?_)))
    refine EL_do .plain rfl (D_storeOc (g:=nB) (v:=uF) Tryz.sizeOf56 rfl b3 rfl vF fun pH qH hs b35 cb=>?_)
    clear cb
    have hfr:=hfr.stp hs
    refine EL_at (.int .i64 (2)) rfl rfl ?_
    refine EL_nil (thn_n (E_ret (blk_r ?_)))
    refine thn_r ?_
    obtain rfl:=sinj h
    obtain ⟨ad36,cv36,hp36,bE,cr36⟩:=ob_read Tryz.isAgg56 Tryz.sizeOf56 b35
    exact endm_ct rfl rfl ((show _=p3 from rfl).trans hp36) bE (show _=.int .i64 (2) from rfl) ⟨_,hfr,_,_,rfl,cr36,rfl⟩
   ·refine E_cf l8 rfl ?_
    refine E_seq (E_region (EL_mw (.int .i64 (x2)) rfl rfl ?_))
    refine EL_do .plain rfl (D_buildSlice (g:=nB) 3023 (xs:=([x2]:List Int)) (vs:=[.int .i64 (x2)]) Tryz.underlying25 Tryz.sizeOf3 Tryz.zeroValue3 rfl rfl (.cons rfl .nil) (RVs.cons (RV_int.2 rfl) RVs.nil) rfl rfl fun xF sH yF hs o37 aG hxt hfl=>?_)
    have hfr:=hfr.stp hs
    have q1:=q1.stp hs
    have q2:=q2.stp hs
    have b3:=b3.stp hs rfl
    obtain ⟨l9,iE,h⟩:=bsome h
    refine EL_do .plain rfl (D_call (g:=xF) (vs:=[.int .i64 (1),.int .i64 (100000),yF]) en24 (.cons rfl (.cons rfl (.cons rfl .nil))) (wk24 aG iE) fun oB jH tH hs hr=>?_)
    have hfr:=hfr.ext hs
    have q1:=q1.ext hs
    have q2:=q2.ext hs
    have b3:=b3.ext hs
    subst hr
    refine EL_p (.bool (!l9)) (P_not rfl) rfl ?_
    refine EL_at (.bool (!l9)) rfl rfl ?_
    refine EL_nil (thn_n ?_)
    rcases csome h with ⟨n8,h⟩ | ⟨n8,h⟩
    ·refine E_ct n8 rfl ?_
     refine E_seq (E_region (EL_do .plain rfl (D_loadO (g:=oB) Tryz.isAgg56 Tryz.sizeOf56 rfl b3 fun bG cG=>?_)))
     refine EL_do .plain rfl (D_storeOc (g:=oB) (v:=bG) Tryz.sizeOf56 rfl b3 rfl cG fun uH xH hs b42 cb=>?_)
     clear cb
     have hfr:=hfr.stp hs
     refine EL_at (.int .i64 (3)) rfl rfl ?_
     refine EL_nil (thn_n (E_ret (blk_r ?_)))
     refine thn_r ?_
     obtain rfl:=sinj h
     obtain ⟨ad43,cv43,hp43,lE,cr43⟩:=ob_read Tryz.isAgg56 Tryz.sizeOf56 b42
     exact endm_ct rfl rfl ((show _=p3 from rfl).trans hp43) lE (show _=.int .i64 (3) from rfl) ⟨_,hfr,_,_,rfl,cr43,rfl⟩
    ·refine E_cf n8 rfl ?_
     exact E_skip (blk_n (thn_n (yD ((⟨0,0⟩:Span)) _ _ ⟨oB,hfr,rfl,rfl,q1,rfl,q2,rfl,b3⟩ h)))
 ·rintro yB kH yH ⟨vC, hfr, n9, zB, cC, aB, o0, lB, l5⟩ h
  refine E_seq (E_region (EL_do .plain rfl (D_load (g:=vC) Tryz.isAgg37 Tryz.sizeOf37 zB cC fun eG gG=>?_)))
  obtain ⟨mB,mE,h⟩:=bsome h
  refine EL_do .plain rfl (D_call (g:=vC) (vs:=[eG]) en25 (.cons rfl .nil) (wk25 gG mE) fun iG lH jG hs hr=>?_)
  have hfr:=hfr.ext hs
  have o0:=o0.ext hs
  have l5:=l5.ext hs
  have vB:=hr
  refine EL_do .plain rfl (D_allocOc (g:=iG) 2008 (⟨⟨0,0⟩⟩:BeamRatio) Tryz.zeroValue99 (fun m w=>⟨_,(rep_two rep_int rep_int),rfl⟩) fun kG zH aI hs b48 cb=>?_)
  have hfr:=hfr.stp hs
  have o0:=o0.stp hs
  have l5:=l5.stp hs rfl
  have vB:=vB.stp hs
  clear cb
  refine EL_do .plain rfl (D_storeOc (g:=kG) (v:=jG) Tryz.sizeOf99 rfl b48 rfl vB fun lG bI hs b49 cb=>?_)
  clear cb
  have hfr:=hfr.stp hs
  have o0:=o0.stp hs
  have l5:=l5.stp hs rfl
  refine EL_nil (thn_n (E_seq (L_loadO0 (x:=.tmp 8) Tryz.isAgg99 Tryz.sizeOf99 b49 fun bD mG oE=>?_)))
  have sG:=PT_field (part_Span_1).1 o0
  refine L_load (x:=.tmp 31) Tryz.isAgg3 Tryz.sizeOf3 sG fun dI xG rE=>?_
  obtain rfl:=RV_int.1 xG
  obtain ⟨t5,uE,h⟩:=bsome h
  refine L_loadO0 (x:=.tmp 8) Tryz.isAgg99 Tryz.sizeOf99 b49 fun cD yG vE=>?_
  have zG:=PT_field (part_Span_0).1 o0
  refine L_load (x:=.tmp 36) Tryz.isAgg3 Tryz.sizeOf3 zG fun iI aH xE=>?_
  obtain rfl:=RV_int.1 aH
  obtain ⟨i6,yE,h⟩:=bsome h
  refine E_drawL (g:=lG) (n:=10) [(4,(fun v g w=>v=.int .i64 (t5))),(9,(fun v g w=>v=.int .i64 (i6)))] [0,1,2,3,4,5,6,7,8,9] rfl mixed (by kernel_rfl) (⟨fun _=>up_eq _,fun _=>up_eq _,trivial⟩) ?_
  refine L_ld (c:=bD) rfl rfl .plain (fun _ _ h=>⟨h.ch,fun b hb _=>h.below.block b hb⟩) oE rfl ?_
  refine L_p (.int .i64 (x2)) rfl rfl (P_move n9) ?_
  refine L_p (fPtr p2 1) rfl rfl (P_fieldAddr at_56_1 aB (PT.ptr o0)) ?_
  refine L_ld (c:=.int .i64 ((x1).High)) rfl rfl .plain (fun _ _ h=>h.ch) rE rfl ?_
  refine L_do (φ:=fun v g w=>v=.int .i64 (t5)) rfl rfl .plain (fun g w hd=>D_call (g:=g) (vs:=[bD,.int .i64 (x2),.int .i64 ((x1).High)]) en26 (.cons rfl (.cons rfl (.cons rfl .nil))) (wk26 (mG.ext hd.1) uE) fun g' w' v hs hr=>⟨g',hs,hr⟩) (fun jI hv=>?_)
  obtain ⟨_,_,_,rfl⟩:=hv
  refine L_ld (c:=cD) rfl rfl .plain (fun _ _ h=>⟨h.ch,fun b hb _=>h.below.block b hb⟩) vE rfl ?_
  refine L_p (.int .i64 (x2)) rfl rfl (P_move n9) ?_
  refine L_p (fPtr p2 0) rfl rfl (P_fieldAddr at_56_0 aB (PT.ptr o0)) ?_
  refine L_ld (c:=.int .i64 ((x1).Low)) rfl rfl .plain (fun _ _ h=>h.ch) xE rfl ?_
  refine L_do (φ:=fun v g w=>v=.int .i64 (i6)) rfl rfl .plain (fun g w hd=>D_call (g:=g) (vs:=[cD,.int .i64 (x2),.int .i64 ((x1).Low)]) en26 (.cons rfl (.cons rfl (.cons rfl .nil))) (wk26 (yG.ext hd.1) yE) fun g' w' v hs hr=>⟨g',hs,hr⟩) (fun kI hv=>?_)
  obtain ⟨_,_,_,rfl⟩:=hv
  refine L_nl fun lD cH hs=>?_
  have hfr:=hfr.ext hs
  have l5:=l5.ext hs
  clear hs
  have nD:RV lD.m cH (⟨t5,i6⟩:Span) (.agg (setCh [[.int .i64 0],[.int .i64 0]] [(0,.int .i64 (t5)),(1,.int .i64 (i6))]).flatten.toArray):=RV_build rfl (rep_pair (rfl) (rep_last (rfl)))
  generalize zE:(Value.agg (setCh [[.int .i64 0],[.int .i64 0]] [(0,.int .i64 (t5)),(1,.int .i64 (i6))]).flatten.toArray)=oD at nD
  refine EL_p oD (zE ▸ P_build (vs:=[(0,.int .i64 (t5)),(1,.int .i64 (i6))]) [[.int .i64 0],[.int .i64 0]] lay_56 rfl rfl (.cons rfl (.cons rfl .nil)) ⟨⟨_,rfl,rfl⟩,⟨⟨_,rfl,rfl⟩,trivial⟩⟩) rfl ?_
  refine EL_do .plain rfl (D_storeOc (g:=lD) (v:=oD) Tryz.sizeOf56 lB l5 rfl nD fun lI mI hs b80 cb=>?_)
  clear cb
  have hfr:=hfr.stp hs
  refine EL_at (.int .i64 (0)) rfl rfl ?_
  refine EL_nil (thn_n (E_ret ?_))
  obtain rfl:=sinj h
  obtain ⟨ad81,cv81,hp81,cF,cr81⟩:=ob_read Tryz.isAgg56 Tryz.sizeOf56 b80
  exact endm_ct rfl rfl ((show _=p3 from lB).trans hp81) cF (show _=.int .i64 (0) from rfl) ⟨_,hfr,_,_,rfl,cr81,rfl⟩
def f13 (x0:BeamTake) (x1:Int):Option (Int × Int):=
 jn (σ:=Unit) (fun _=>
  jn (σ:=Unit) (fun _=>
   (f25 x0).bind fun l8=>
   (quo64 (w64 (x1 * ((l8).Ratio).Den)) ((l8).Ratio).Num).bind fun l5=>
   some (l5,(0:Int))
   ) fun vB=>
  (f27 (([x1]:List Int))).bind fun n9=>
  bif (!n9) then
   some ((0:Int),(3:Int))
  else
   vB ()
  ) fun k6=>
 (f22 x0).bind fun y9=>
 bif (y9 != (0 : Int)) then
  some ((0:Int),y9)
 else
  k6 ()
theorem en13:Enters Tryz.prog 13:=enters_of Tryz.func13 (by kernel_rfl) rfl
theorem wk13 {gI:Gh} {wI:World} {x0:BeamTake} {x1:Int} {up0:Value} (rp0:RV gI.m wI x0 up0) {r:Int × Int} (h:f13 x0 x1=some r):Fn Tryz.prog 13 #[up0,.int .i64 (x1)] gI wI (fun m w v=>∃ y0 y1,v=.tuple #[y0,y1]∧y0=.int .i64 (r.1)∧y1=.int .i64 (r.2)):=by
 unfold f13 at h
 refine fn_of_E Tryz.func13 rfl (Nat.le_of_ble_eq_true rfl) fun g0 hm hfr=>?_
 have rp0:RV g0.m wI x0 up0:=hm ▸ rp0
 show E _ 28 none _ _ _ _ _
 refine E_seq (E_region (EL_do .plain rfl (D_box (g:=g0) rfl rp0 fun g1 w1 p1 hs q1=>?_)))
 have hfr:=hfr.ext hs
 refine EL_at (.int .i64 (0)) rfl rfl ?_
 refine EL_at (.int .i64 (0)) rfl rfl ?_
 refine EL_nil (thn_n (E_joinC h (fun (s:Unit) e w=>∃ (g:Gh) ,Fr gI wI g w∧e 1=.int .i64 (x1)∧e 2=p1∧PT g.m w (x0:BeamTake) p1) (fun X6 k6 hk6 h=>?_) ?_))
 ·refine E_seq (E_region (EL_do .plain rfl (D_load (g := g1) Tryz.isAgg37 Tryz.sizeOf37 rfl q1 fun v7 r7 => ?_)))
  obtain ⟨y9,cD,h⟩:=bsome h
  refine EL_do .plain rfl (D_call (g:=g1) (vs:=[v7]) en22 (.cons rfl .nil) (wk22 r7 cD) fun g8 w8_ v8 hs hr=>?_)
  have hfr:=hfr.ext hs
  have q1:=q1.ext hs
  subst hr
  refine EL_at (.int .i64 (y9)) rfl rfl ?_
  refine EL_nil (thn_n (E_seq (E_region (EL_mw (.int .i64 (y9)) rfl rfl ?_))))
  refine EL_in (.bool ((y9 != (0:Int)))) rfl rfl rfl rfl ?_
  refine EL_nil (thn_n ?_)
  rcases csome h with ⟨t5,h⟩ | ⟨t5,h⟩
  ·refine E_ct t5 rfl ?_
   refine E_seq (E_region (EL_mw (.int .i64 (y9)) rfl rfl ?_))
   refine EL_at (.int .i64 (0)) rfl rfl ?_
   refine EL_at (.int .i64 (y9)) rfl rfl ?_
   refine EL_nil (thn_n (E_ret (thn_r ?_)))
   obtain rfl:=sinj h
   exact end2 rfl rfl (show _=.int .i64 (0) from rfl) (show _=.int .i64 (y9) from rfl) ⟨_,hfr,_,_,rfl,rfl,rfl⟩
  ·refine E_cf t5 rfl ?_
   exact E_skip (thn_n (hk6 () _ _ ⟨g8,hfr,rfl,rfl,q1⟩ h))
 ·rintro _ uE zE ⟨lD, hfr, n8, lB, o0⟩ h
  refine E_joinC h (fun (s:Unit) e w=>∃ (g:Gh) ,Fr gI wI g w∧e 1=.int .i64 (x1)∧e 2=p1∧PT g.m w (x0:BeamTake) p1) (fun X16 vB cC h=>?_) ?_
  ·refine E_seq (E_region (EL_mv n8 rfl ?_))
   refine EL_do .plain rfl (D_buildSlice (g:=lD) 3014 (xs:=([x1]:List Int)) (vs:=[.int .i64 (x1)]) Tryz.underlying25 Tryz.sizeOf3 Tryz.zeroValue3 rfl rfl (.cons rfl .nil) (RVs.cons (RV_int.2 rfl) RVs.nil) rfl rfl fun nD cF oD hs o17 yD hxt hfl=>?_)
   have hfr:=hfr.stp hs
   have o0:=o0.stp hs
   obtain ⟨n9,uC,h⟩:=bsome h
   refine EL_do .plain rfl (D_call (g:=nD) (vs:=[oD]) en27 (.cons rfl .nil) (wk27 yD uC) fun zD vE dF hs hr=>?_)
   have hfr:=hfr.ext hs
   have o0:=o0.ext hs
   subst hr
   refine EL_p (.bool (!n9)) (P_not rfl) rfl ?_
   refine EL_nil (thn_n ?_)
   rcases csome h with ⟨i6,h⟩ | ⟨i6,h⟩
   ·refine E_ct i6 rfl ?_
    refine E_seq (E_region (EL_at (.int .i64 (0)) rfl rfl ?_))
    refine EL_at (.int .i64 (3)) rfl rfl ?_
    refine EL_nil (thn_n (E_ret (thn_r ?_)))
    obtain rfl:=sinj h
    exact end2 rfl rfl (show _=.int .i64 (0) from rfl) (show _=.int .i64 (3) from rfl) ⟨_,hfr,_,_,rfl,rfl,rfl⟩
   ·refine E_cf i6 rfl ?_
    exact E_skip (thn_n (cC () _ _ ⟨zD,hfr,n8,lB,o0⟩ h))
  ·rintro _ xE eF ⟨yB, hfr, mB, nB, oB⟩ h
   refine E_seq (E_region (EL_do .plain rfl (D_load (g:=yB) Tryz.isAgg37 Tryz.sizeOf37 nB oB fun aE bE=>?_)))
   obtain ⟨l8,vC,h⟩:=bsome h
   refine EL_do .plain rfl (D_call (g:=yB) (vs:=[aE]) en25 (.cons rfl .nil) (wk25 bE vC) fun iE yE lE hs hr=>?_)
   have hfr:=hfr.ext hs
   have aB:=hr
   refine EL_do .plain rfl (D_allocOc (g:=iE) 2007 (⟨⟨0,0⟩⟩:BeamRatio) Tryz.zeroValue99 (fun m w=>⟨_,(rep_two rep_int rep_int),rfl⟩) fun mE rF l9 hs b25 cb=>?_)
   have hfr:=hfr.stp hs
   have aB:=aB.stp hs
   clear cb
   refine EL_do .plain rfl (D_storeOc (g:=mE) (v:=lE) Tryz.sizeOf99 rfl b25 rfl aB fun zB sF hs b26 cb=>?_)
   clear cb
   have hfr:=hfr.stp hs
   refine EL_nil (thn_n (E_seq (E_region (EL_mv mB rfl ?_))))
   refine EL_p (fPtr l9 0) (P_fieldAddr at_99_0 rfl (OB.ptr b26)) rfl ?_
   refine EL_p (fPtr l9 1) (P_fieldAddr2 (o1:=0) rfl at_97_1 rfl (OB.ptr b26)) rfl ?_
   refine EL_do .plain rfl (D_loadF (g:=zB) (SubS.comp part_BeamRatio_0 part_Ratio_1 rfl).1 Tryz.isAgg3 Tryz.sizeOf3 rfl b26 fun tF oE=>?_)
   obtain rfl:=RV_int.1 oE
   refine EL_in (.int .i64 ((w64 (x1 * ((l8).Ratio).Den)))) rfl rfl rfl rfl ?_
   refine EL_p (fPtr l9 0) (P_fieldAddr at_99_0 rfl (OB.ptr b26)) rfl ?_
   refine EL_p (fPtr l9 0) (P_fieldAddr2 (o1:=0) rfl at_97_0 rfl (OB.ptr b26)) rfl ?_
   refine EL_do .plain rfl (D_loadF (g:=zB) (SubS.comp part_BeamRatio_0 part_Ratio_0 rfl).1 Tryz.isAgg3 Tryz.sizeOf3 rfl b26 fun uF rE=>?_)
   obtain rfl:=RV_int.1 rE
   obtain ⟨l5,bD,h⟩:=bsome h
   refine EL_p (.int .i64 (l5)) (P_int rfl rfl (congrArg (Option.map (Value.int .i64)) bD)) rfl ?_
   refine EL_at (.int .i64 (l5)) rfl rfl ?_
   refine EL_at (.int .i64 (0)) rfl rfl ?_
   refine EL_nil (thn_n (E_ret ?_))
   obtain rfl:=sinj h
   exact end2 rfl rfl (show _=.int .i64 (l5) from rfl) (show _=.int .i64 (0) from rfl) ⟨_,hfr,_,_,rfl,rfl,rfl⟩
end Go.Proofs.YtbelgnbjkciafaaGreatDoor
