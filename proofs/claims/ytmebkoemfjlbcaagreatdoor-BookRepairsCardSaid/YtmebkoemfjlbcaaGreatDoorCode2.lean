import Derived.Test.YtmebkoemfjlbcaaGreatDoorCode1
set_option maxRecDepth 8000
set_option maxHeartbeats 4000000
namespace Go.Proofs.YtmebkoemfjlbcaaGreatDoor
open Go.RowKit
def f24 (x0:BookMill) (x1:BookMill):Option (Bool):=
 jn (σ:=Unit) (fun _=>
  jn (σ:=Unit) (fun _=>
   jn (σ:=Unit) (fun _=>
    some (true)
    ) fun mJ=>
   lp (σ:=Int) (fun nJ l5=>
    jn (σ:=Unit) (fun _=>
     jn (σ:=Unit) (fun _=>
      nJ ((w64 (l5 + (1:Int))))
      ) fun oJ=>
     Option.bind (α:=Bool) (
      (idx ((x0).Chains) l5).bind fun bD=>
      (idx ((x1).Chains) l5).bind fun cD=>
      bif (!(((bD).Name).b == ((cD).Name).b)) then
       some (true)
      else
       (idx ((x0).Chains) l5).bind fun pJ=>
       (idx ((x1).Chains) l5).bind fun qJ=>
       (f72 ((pJ).Chain) ((qJ).Chain)).bind fun oE=>
       some ((!oE))
      ) fun lD=>
     bif lD then
      some (false)
     else
      oJ ()
     ) fun rJ=>
    bif (decide (l5 < (((x0).Chains).length : Int))) then
     rJ ()
    else
     mJ ()
    ) big ((0:Int))
   ) fun rM=>
  lp (σ:=Int) (fun sM o0=>
   jn (σ:=Unit) (fun _=>
    jn (σ:=Unit) (fun _=>
     sM ((w64 (o0 + (1:Int))))
     ) fun sJ=>
    Option.bind (α:=Bool) (
     (idx ((x0).Ties) o0).bind fun mB=>
     (idx ((x1).Ties) o0).bind fun nB=>
     bif (!(((mB).Name).b == ((nB).Name).b)) then
      some (true)
     else
      (idx ((x0).Ties) o0).bind fun oB=>
      (idx ((x1).Ties) o0).bind fun yB=>
      bif (((oB).Harness).Hooks != ((yB).Harness).Hooks) then
       some (true)
      else
       (idx ((x0).Ties) o0).bind fun vJ=>
       (idx ((x1).Ties) o0).bind fun xJ=>
       (f58 (((vJ).Harness).Warps) (((xJ).Harness).Warps)).bind fun rE=>
       some ((!rE))
     ) fun zD=>
    bif zD then
     some (false)
    else
     sJ ()
    ) fun tM=>
   bif (decide (o0 < (((x0).Ties).length : Int))) then
    tM ()
   else
    rM ()
   ) big ((0:Int))
  ) fun cQ=>
 Option.bind (α:=Bool) (
  bif ((((x0).Ties).length : Int) != (((x1).Ties).length : Int)) then
   some (true)
  else
   some (((((x0).Chains).length:Int) != (((x1).Chains).length:Int)))
  ) fun mE=>
 bif mE then
  some (false)
 else
  cQ ()
theorem en24:Enters Tryz.prog 24:=enters_of Tryz.func24 (by kernel_rfl) rfl
theorem wk24 {gI:Gh} {wI:World} {x0:BookMill} {x1:BookMill} {up0:Value} (rp0:RV gI.m wI x0 up0) {up1:Value} (rp1:RV gI.m wI x1 up1) {r:Bool} (h:f24 x0 x1=some r):Fn Tryz.prog 24 #[up0,up1] gI wI (fun _ _ v=>v=.bool (r)):=by
 unfold f24 at h;refine fnE Tryz.func24 rfl rfl fun g0 hm hfr=>?_;have rp0:=RVc hm rp0;have rp1:=RVc hm rp1;show E _ 114 none _ _ _ _ _;refine E_sr (EL_d0 rfl (D_box (g:=g0) rfl rp0 fun g1 w1 p1 hs q1=>?_));have hfr:=hfr.ext hs;have rp1:=rp1.ext hs;refine EL_d0 rfl (D_box (g:=g1) rfl rp1 fun g2 w2 p2 hs q2=>?_);have hfr:=hfr.ext hs;have q1:=q1.ext hs;refine Zg (.bool false) rfl rfl (EL_nt (Zq h (fun (s:Unit) e w=>∃ (g:Gh) ,Fr gI wI g w∧e 2=p1∧PT g.m w (x0:BookMill) p1∧e 3=p2∧PT g.m w (x1:BookMill) p2) (fun X23 cQ dQ h=>?_) ?_))
 ·obtain ⟨mE, hx, h⟩ := bsome h
  refine E_join (fun e w=>∃ (g:Gh) ,Fr gI wI g w∧e 2=p1∧PT g.m w (x0:BookMill) p1∧e 3=p2∧PT g.m w (x1:BookMill) p2∧e 22=.bool (mE)) (fun Q' hQ=>?_) (fun oS tS hR=>?_)
  ·replace h := hx
   clear hx;refine Za (EL_p (fPtr p1 0) (Zc at_39_0 rfl (PT.ptr q1)) rfl ?_);have iQ:=Zm (part_BookMill_0).1 q1;refine EL_d0 rfl (D_load (g:=g2) Tryz.isAgg36 Tryz.sizeOf36 rfl iQ fun uS jQ=>(EL_p (Iz (((x0).Ties).length:Int)) (P_len Tryz.underlying36 rfl jQ) rfl (EL_p (fPtr p2 0) (Zc at_39_0 rfl (PT.ptr q2)) rfl ?_)));have kQ:=Zm (part_BookMill_0).1 q2;refine EL_d0 rfl (D_load (g:=g2) Tryz.isAgg36 Tryz.sizeOf36 rfl kQ fun vS lQ=>(EL_p (Iz (((x1).Ties).length:Int)) (P_len Tryz.underlying36 rfl lQ) rfl (EL_in (.bool (((((x0).Ties).length:Int) != (((x1).Ties).length:Int)))) rfl rfl rfl rfl (Zn (.bool (((((x0).Ties).length:Int) != (((x1).Ties).length:Int)))) rfl rfl ?_))));rcases Zt h with ⟨nD,h⟩ | ⟨nD,h⟩
   ·refine EL_s rfl rfl nD rfl rfl ?_
    iterate 6 refine EL_s rfl rfl nD rfl rfl ?_
    refine EL_p (.bool true) (Zl (b:=((((x0).Ties).length:Int) != (((x1).Ties).length:Int))) rfl (pick_t nD rfl)) rfl (Zb ?_);obtain rfl:=sinj h;exact hQ _ _ ⟨g2,hfr,rfl,q1,rfl,q2,rfl⟩
   ·refine EL_y (fPtr p1 1) (Zc at_39_1 rfl (PT.ptr q1)) rfl rfl nD rfl ?_
    have mQ:=Zm (part_BookMill_1).1 q1;refine Ze (.yes2 rfl rfl nD) rfl (D_load (g:=g2) Tryz.isAgg37 Tryz.sizeOf37 rfl mQ fun xS nQ=>(EL_y (Iz (((x0).Chains).length:Int)) (P_len Tryz.underlying37 rfl nQ) rfl rfl nD rfl (EL_y (fPtr p2 1) (Zc at_39_1 rfl (PT.ptr q2)) rfl rfl nD rfl ?_)));have oQ:=Zm (part_BookMill_1).1 q2;refine Ze (.yes2 rfl rfl nD) rfl (D_load (g:=g2) Tryz.isAgg37 Tryz.sizeOf37 rfl oQ fun yS pQ=>(EL_y (Iz (((x1).Chains).length:Int)) (P_len Tryz.underlying37 rfl pQ) rfl rfl nD rfl (EL_y (.bool (((((x0).Chains).length:Int) != (((x1).Chains).length:Int)))) (P_int rfl rfl rfl) rfl rfl nD rfl (EL_p (.bool (((((x0).Chains).length:Int) != (((x1).Chains).length:Int)))) (Zl (b:=((((x0).Ties).length:Int) != (((x1).Ties).length:Int))) rfl (pick_f nD rfl)) rfl (Zb ?_)))));obtain rfl:=sinj h;exact hQ _ _ ⟨g2,hfr,rfl,q1,rfl,q2,rfl⟩
  ·clear hx
   obtain ⟨qQ,hfr,pN,qN,rN,sN,uH⟩:=hR;rcases Zt h with ⟨jJ,h⟩ | ⟨jJ,h⟩
   ·refine E_cond_true (Eq.trans (show ev _ _ = .bool (mE) from uH) (congrArg Value.bool jJ)) (E_sr (Zg (.bool false) rfl rfl (EL_nt (E_ret (thn_r ?_)))))
    obtain rfl:=sinj h;exact end1 rfl rfl (rq (.bool false)) ⟨_,hfr,rfl⟩
   ·refine E_cond_false (Eq.trans (show ev _ _ = .bool (mE) from uH) (congrArg Value.bool jJ)) ?_
    exact Zu (Zd (dQ () _ _ ⟨qQ,hfr,pN,qN,rN,sN⟩ h))
 ·rintro _ pS zS ⟨rQ, hfr, tN, uN, vN, xN⟩ h
  refine Zq h (fun (s:Unit) e w=>∃ (g:Gh) ,Fr gI wI g w∧e 2=p1∧PT g.m w (x0:BookMill) p1∧e 3=p2∧PT g.m w (x1:BookMill) p2) (fun X862 rM yN h=>?_) ?_
  ·refine E_sr (Zg (Iz (0)) rfl rfl (EL_nt (Zr (E_lp h (fun (s : Int) e w => ∃ (g : Gh) , Fr gI wI g w ∧ e 2 = p1 ∧ PT g.m w (x0 : BookMill) p1 ∧ e 3 = p2 ∧ PT g.m w (x1 : BookMill) p2 ∧ e 5 = Iz (s)) ⟨rQ, hfr, tN, uN, vN, xN, rfl⟩ (fun X863 sM zN => ?_)))))
   rintro o0 dR qS ⟨kJ,hfr,xF,xE,xH,yH,zH⟩ h;refine Zq h (fun (s:Unit) e w=>∃ (g:Gh) ,Fr gI wI g w∧e 2=p1∧PT g.m w (x0:BookMill) p1∧e 3=p2∧PT g.m w (x1:BookMill) p2∧e 5=Iz (o0)) (fun X868 tM aO h=>?_) ?_
   ·refine E_sr (Zo zH rfl (EL_p (fPtr p1 0) (Zc at_39_0 xF (PT.ptr xE)) rfl ?_))
    have eQ:=Zm (part_BookMill_0).1 xE;refine EL_d0 rfl (D_load (g:=kJ) Tryz.isAgg36 Tryz.sizeOf36 rfl eQ fun rS gQ=>(EL_p (Iz (((x0).Ties).length:Int)) (P_len Tryz.underlying36 rfl gQ) rfl (EL_p (.bool ((decide (o0 < (((x0).Ties).length:Int))))) (P_int rfl rfl rfl) rfl (EL_nt ?_))));rcases Zt h with ⟨zG,h⟩ | ⟨zG,h⟩
    ·refine E_ct zG rfl ?_
     exact Zu (Zd (aO () _ _ ⟨kJ,hfr,xF,xE,xH,yH,zH⟩ h))
    ·refine E_cf zG rfl (E_exit (thn_e (thn_e (blk_hit ?_))))
     exact Zd (yN () _ _ ⟨kJ,hfr,xF,xE,xH,yH⟩ h)
   ·rintro _ eR sS ⟨lJ, hfr, cC, l8, uC, n8, n9⟩ h
    refine Zq h (fun (s:Unit) e w=>∃ (g:Gh) ,Fr gI wI g w∧e 2=p1∧PT g.m w (x0:BookMill) p1∧e 3=p2∧PT g.m w (x1:BookMill) p2∧e 5=Iz (o0)) (fun X1275 sJ uM h=>?_) ?_
    ·refine Zr ?_
     obtain ⟨zD,hx,h⟩:=bsome h;refine E_join (fun e w=>∃ (g:Gh) ,Fr gI wI g w∧e 2=p1∧PT g.m w (x0:BookMill) p1∧e 3=p2∧PT g.m w (x1:BookMill) p2∧e 5=Iz (o0)∧e 77=.bool (zD)) (fun Q' hQ=>?_) (fun sQ gR hR=>?_)
     ·replace h := hx
      clear hx;have bO:=Zm (part_BookMill_0).1 l8;refine Zs (x:=.tmp 30) Tryz.isAgg36 Tryz.sizeOf36 bO fun oD eF yF=>?_;obtain ⟨mB,yE,h⟩:=bsome h;have rF:=PT_idx eF yE;have cO:=Zm (part_BookTie_0).1 rF;refine Zs (x:=.tmp 34) Tryz.isAgg9 Tryz.sizeOf9 cO fun iR dO aG=>?_;obtain rfl:=RV_str.1 dO;have eO:=Zm (part_BookMill_0).1 n8;refine Zs (x:=.tmp 36) Tryz.isAgg36 Tryz.sizeOf36 eO fun yD sF bG=>?_;obtain ⟨nB,zE,h⟩:=bsome h;have tF:=PT_idx sF zE;have gO:=Zm (part_BookTie_0).1 tF;refine Zs (x:=.tmp 40) Tryz.isAgg9 Tryz.sizeOf9 gO fun jR jO cG=>?_;obtain rfl:=RV_str.1 jO;rcases Zt h with ⟨t5,h⟩ | ⟨t5,h⟩
      ·refine E_drawL (g := lJ) (n := 48) [] [0, 1, 2, 3, 4, 5, 6, 7, 8, 9, 10, 11, 12, 13, 14, 15, 16, 17, 18, 19, 20, 21, 22, 23, 24, 25, 26, 27, 28, 29, 30, 31, 32, 33, 34, 35, 36, 37, 38, 39, 40, 41, 42, 43, 44, 45, 46, 47] rfl mixed (by kernel_rfl) trivial (L_p (fPtr p1 0) rfl rfl (Zc at_39_0 cC (PT.ptr l8)) (L_ld (c := oD) rfl rfl .plain (fun _ _ h => h.ch) yF rfl (L_p (Iz (o0)) rfl rfl (Zk n9) (L_p (ePtr oD o0 3) rfl rfl (Zh (α := BookTie) Tryz.underlying36 Tryz.sizeOf108 rfl eF rfl yE) (L_p (fPtr (ePtr oD o0 3) 0) rfl rfl (Zc at_108_0 rfl (PT.ptr rF)) (L_ld (c := Str.v ((mB).Name)) rfl rfl .plain (fun _ _ h => h.ch) aG rfl (L_p (fPtr p2 0) rfl rfl (Zc at_39_0 uC (PT.ptr n8)) (L_ld (c := yD) rfl rfl .plain (fun _ _ h => h.ch) bG rfl (L_p (Iz (o0)) rfl rfl (Zk n9) (L_p (ePtr yD o0 3) rfl rfl (Zh (α := BookTie) Tryz.underlying36 Tryz.sizeOf108 rfl sF rfl zE) (L_p (fPtr (ePtr yD o0 3) 0) rfl rfl (Zc at_108_0 rfl (PT.ptr tF)) (L_ld (c := Str.v ((nB).Name)) rfl rfl .plain (fun _ _ h => h.ch) cG rfl (L_p (.bool ((!(((mB).Name).b == ((nB).Name).b)))) rfl rfl (P_str rfl rfl rfl) (L_p (.bool ((!(((mB).Name).b == ((nB).Name).b)))) rfl rfl (Zk rfl) ?_))))))))))))))
       iterate 15 refine L_s rfl rfl rfl t5 rfl ?_
       refine L_p (.bool true) rfl rfl (Zl (b:=(!(((mB).Name).b == ((nB).Name).b))) rfl (pick_t t5 rfl)) (L_dead (fun _=>rfl) 18 rfl (L_nl fun kO lR hs=>?_));have hfr:=hfr.ext hs;have l8:=l8.ext hs;have n8:=n8.ext hs;clear hs;refine Zb ?_;obtain rfl:=sinj h;exact hQ _ _ ⟨kO,hfr,cC,l8,uC,n8,n9,rfl⟩
      ·have lO := Zm (part_BookMill_0).1 l8
       refine Zs (x:=.tmp 44) Tryz.isAgg36 Tryz.sizeOf36 lO fun aE aH aI=>?_;obtain ⟨oB,eG,h⟩:=bsome h;have cH:=PT_idx aH eG;have gH:=Zm (part_BookTie_1).1 cH;have mO:=Zm (part_TieHarness_0).1 gH;refine Zs (x:=.tmp 49) Tryz.isAgg3 Tryz.sizeOf3 mO fun mR nO bI=>?_;obtain rfl:=Zj.1 nO;have oO:=Zm (part_BookMill_0).1 n8;refine Zs (x:=.tmp 51) Tryz.isAgg36 Tryz.sizeOf36 oO fun bE jH dI=>?_;obtain ⟨yB,gG,h⟩:=bsome h;have kH:=PT_idx jH gG;have lH:=Zm (part_BookTie_1).1 kH;have pO:=Zm (part_TieHarness_0).1 lH;refine Zs (x:=.tmp 56) Tryz.isAgg3 Tryz.sizeOf3 pO fun nR qO iI=>?_;obtain rfl:=Zj.1 qO;rcases Zt h with ⟨i6,h⟩ | ⟨i6,h⟩
       ·refine E_drawL (g := lJ) (n := 48) [] [0, 1, 2, 3, 4, 5, 6, 7, 8, 9, 10, 11, 12, 13, 14, 15, 16, 17, 18, 19, 20, 21, 22, 23, 24, 25, 26, 27, 28, 29, 30, 31, 32, 33, 34, 35, 36, 37, 38, 39, 40, 41, 42, 43, 44, 45, 46, 47] rfl mixed (by kernel_rfl) trivial (L_p (fPtr p1 0) rfl rfl (Zc at_39_0 cC (PT.ptr l8)) (L_ld (c := oD) rfl rfl .plain (fun _ _ h => h.ch) yF rfl (L_p (Iz (o0)) rfl rfl (Zk n9) (L_p (ePtr oD o0 3) rfl rfl (Zh (α := BookTie) Tryz.underlying36 Tryz.sizeOf108 rfl eF rfl yE) (L_p (fPtr (ePtr oD o0 3) 0) rfl rfl (Zc at_108_0 rfl (PT.ptr rF)) (L_ld (c := Str.v ((mB).Name)) rfl rfl .plain (fun _ _ h => h.ch) aG rfl (L_p (fPtr p2 0) rfl rfl (Zc at_39_0 uC (PT.ptr n8)) (L_ld (c := yD) rfl rfl .plain (fun _ _ h => h.ch) bG rfl (L_p (Iz (o0)) rfl rfl (Zk n9) (L_p (ePtr yD o0 3) rfl rfl (Zh (α := BookTie) Tryz.underlying36 Tryz.sizeOf108 rfl sF rfl zE) (L_p (fPtr (ePtr yD o0 3) 0) rfl rfl (Zc at_108_0 rfl (PT.ptr tF)) (L_ld (c := Str.v ((nB).Name)) rfl rfl .plain (fun _ _ h => h.ch) cG rfl (L_p (.bool ((!(((mB).Name).b == ((nB).Name).b)))) rfl rfl (P_str rfl rfl rfl) (L_p (.bool ((!(((mB).Name).b == ((nB).Name).b)))) rfl rfl (Zk rfl) (L_y (fPtr p1 0) rfl rfl rfl rfl t5 (Zc at_39_0 cC (PT.ptr l8)) (L_ld (c := aE) rfl rfl (.yes2 rfl rfl t5) (fun _ _ h => h.ch) aI rfl ?_))))))))))))))))
        refine L_y (Iz (o0)) rfl rfl rfl rfl t5 (Zk n9) (L_y (ePtr aE o0 3) rfl rfl rfl rfl t5 (Zh (α:=BookTie) Tryz.underlying36 Tryz.sizeOf108 rfl aH rfl eG) (L_y (fPtr (ePtr aE o0 3) 1) rfl rfl rfl rfl t5 (Zc at_108_1 rfl (PT.ptr cH)) (L_y (fPtr (fPtr (ePtr aE o0 3) 1) 0) rfl rfl rfl rfl t5 (Zc at_106_0 rfl (PT.ptr gH)) (L_ld (c:=Iz (((oB).Harness).Hooks)) rfl rfl (.yes2 rfl rfl t5) (fun _ _ h=>h.ch) bI rfl (L_y (fPtr p2 0) rfl rfl rfl rfl t5 (Zc at_39_0 uC (PT.ptr n8)) (L_ld (c:=bE) rfl rfl (.yes2 rfl rfl t5) (fun _ _ h=>h.ch) dI rfl (L_y (Iz (o0)) rfl rfl rfl rfl t5 (Zk n9) (L_y (ePtr bE o0 3) rfl rfl rfl rfl t5 (Zh (α:=BookTie) Tryz.underlying36 Tryz.sizeOf108 rfl jH rfl gG) (L_y (fPtr (ePtr bE o0 3) 1) rfl rfl rfl rfl t5 (Zc at_108_1 rfl (PT.ptr kH)) (L_y (fPtr (fPtr (ePtr bE o0 3) 1) 0) rfl rfl rfl rfl t5 (Zc at_106_0 rfl (PT.ptr lH)) (L_ld (c:=Iz (((yB).Harness).Hooks)) rfl rfl (.yes2 rfl rfl t5) (fun _ _ h=>h.ch) iI rfl (L_y (.bool ((((oB).Harness).Hooks != ((yB).Harness).Hooks))) rfl rfl rfl rfl t5 (P_int rfl rfl rfl) (L_p (.bool ((((oB).Harness).Hooks != ((yB).Harness).Hooks))) rfl rfl (Zl (b:=(!(((mB).Name).b == ((nB).Name).b))) rfl (pick_f t5 rfl)) (L_p (.bool ((((oB).Harness).Hooks != ((yB).Harness).Hooks))) rfl rfl (Zk rfl) ?_))))))))))))));iterate 16 refine L_s rfl rfl rfl i6 rfl ?_
        refine L_p (.bool true) rfl rfl (Zl (b:=(((oB).Harness).Hooks != ((yB).Harness).Hooks)) rfl (pick_t i6 rfl)) (L_nl fun rO pR hs=>?_);have hfr:=hfr.ext hs;have l8:=l8.ext hs;have n8:=n8.ext hs;clear hs;refine Zb ?_;obtain rfl:=sinj h;exact hQ _ _ ⟨rO,hfr,cC,l8,uC,n8,n9,rfl⟩
       ·have sO := Zm (part_BookMill_0).1 l8
        refine Zs (x:=.tmp 61) Tryz.isAgg36 Tryz.sizeOf36 sO fun uF zJ vM=>?_;obtain ⟨vJ,jI,h⟩:=bsome h;have aK:=PT_idx zJ jI;have bK:=Zm (part_BookTie_1).1 aK;have tO:=Zm (part_TieHarness_1).1 bK;refine Zs (x:=.tmp 66) Tryz.isAgg22 Tryz.sizeOf22 tO fun cK uO xM=>?_;have vO:=Zm (part_BookMill_0).1 n8;refine Zs (x:=.tmp 68) Tryz.isAgg36 Tryz.sizeOf36 vO fun vF dK bN=>?_;obtain ⟨xJ,kI,h⟩:=bsome h;have lK:=PT_idx dK kI;have mK:=Zm (part_BookTie_1).1 lK;have xO:=Zm (part_TieHarness_1).1 mK;refine Zs (x:=.tmp 73) Tryz.isAgg22 Tryz.sizeOf22 xO fun nK yO cN=>?_;obtain ⟨rE,dN,h⟩:=bsome h;refine E_drawL (g:=lJ) (n:=48) [(45,(fun v g w=>v=.bool (rE)))] [0,1,2,3,4,5,6,7,8,9,10,11,12,13,14,15,16,17,18,19,20,21,22,23,24,25,26,27,28,29,30,31,32,33,34,35,36,37,38,39,40,41,42,43,44,45,46,47] rfl mixed (by kernel_rfl) (⟨fun _=>up_eq _,trivial⟩) (L_p (fPtr p1 0) rfl rfl (Zc at_39_0 cC (PT.ptr l8)) (L_ld (c:=oD) rfl rfl .plain (fun _ _ h=>h.ch) yF rfl (L_p (Iz (o0)) rfl rfl (Zk n9) (L_p (ePtr oD o0 3) rfl rfl (Zh (α:=BookTie) Tryz.underlying36 Tryz.sizeOf108 rfl eF rfl yE) (L_p (fPtr (ePtr oD o0 3) 0) rfl rfl (Zc at_108_0 rfl (PT.ptr rF)) (L_ld (c:=Str.v ((mB).Name)) rfl rfl .plain (fun _ _ h=>h.ch) aG rfl (L_p (fPtr p2 0) rfl rfl (Zc at_39_0 uC (PT.ptr n8)) (L_ld (c:=yD) rfl rfl .plain (fun _ _ h=>h.ch) bG rfl (L_p (Iz (o0)) rfl rfl (Zk n9) (L_p (ePtr yD o0 3) rfl rfl (Zh (α:=BookTie) Tryz.underlying36 Tryz.sizeOf108 rfl sF rfl zE) (L_p (fPtr (ePtr yD o0 3) 0) rfl rfl (Zc at_108_0 rfl (PT.ptr tF)) (L_ld (c:=Str.v ((nB).Name)) rfl rfl .plain (fun _ _ h=>h.ch) cG rfl (L_p (.bool ((!(((mB).Name).b == ((nB).Name).b)))) rfl rfl (P_str rfl rfl rfl) (L_p (.bool ((!(((mB).Name).b == ((nB).Name).b)))) rfl rfl (Zk rfl) (L_y (fPtr p1 0) rfl rfl rfl rfl t5 (Zc at_39_0 cC (PT.ptr l8)) (L_ld (c:=aE) rfl rfl (.yes2 rfl rfl t5) (fun _ _ h=>h.ch) aI rfl ?_))))))))))))))));refine L_y (Iz (o0)) rfl rfl rfl rfl t5 (Zk n9) (L_y (ePtr aE o0 3) rfl rfl rfl rfl t5 (Zh (α:=BookTie) Tryz.underlying36 Tryz.sizeOf108 rfl aH rfl eG) (L_y (fPtr (ePtr aE o0 3) 1) rfl rfl rfl rfl t5 (Zc at_108_1 rfl (PT.ptr cH)) (L_y (fPtr (fPtr (ePtr aE o0 3) 1) 0) rfl rfl rfl rfl t5 (Zc at_106_0 rfl (PT.ptr gH)) (L_ld (c:=Iz (((oB).Harness).Hooks)) rfl rfl (.yes2 rfl rfl t5) (fun _ _ h=>h.ch) bI rfl (L_y (fPtr p2 0) rfl rfl rfl rfl t5 (Zc at_39_0 uC (PT.ptr n8)) (L_ld (c:=bE) rfl rfl (.yes2 rfl rfl t5) (fun _ _ h=>h.ch) dI rfl (L_y (Iz (o0)) rfl rfl rfl rfl t5 (Zk n9) (L_y (ePtr bE o0 3) rfl rfl rfl rfl t5 (Zh (α:=BookTie) Tryz.underlying36 Tryz.sizeOf108 rfl jH rfl gG) (L_y (fPtr (ePtr bE o0 3) 1) rfl rfl rfl rfl t5 (Zc at_108_1 rfl (PT.ptr kH)) (L_y (fPtr (fPtr (ePtr bE o0 3) 1) 0) rfl rfl rfl rfl t5 (Zc at_106_0 rfl (PT.ptr lH)) (L_ld (c:=Iz (((yB).Harness).Hooks)) rfl rfl (.yes2 rfl rfl t5) (fun _ _ h=>h.ch) iI rfl (L_y (.bool ((((oB).Harness).Hooks != ((yB).Harness).Hooks))) rfl rfl rfl rfl t5 (P_int rfl rfl rfl) (L_p (.bool ((((oB).Harness).Hooks != ((yB).Harness).Hooks))) rfl rfl (Zl (b:=(!(((mB).Name).b == ((nB).Name).b))) rfl (pick_f t5 rfl)) (L_p (.bool ((((oB).Harness).Hooks != ((yB).Harness).Hooks))) rfl rfl (Zk rfl) (L_y (fPtr p1 0) rfl rfl rfl rfl i6 (Zc at_39_0 cC (PT.ptr l8)) (L_ld (c:=uF) rfl rfl (.yes2 rfl rfl i6) (fun _ _ h=>h.ch) vM rfl ?_))))))))))))))));refine L_y (Iz (o0)) rfl rfl rfl rfl i6 (Zk n9) (L_y (ePtr uF o0 3) rfl rfl rfl rfl i6 (Zh (α:=BookTie) Tryz.underlying36 Tryz.sizeOf108 rfl zJ rfl jI) (L_y (fPtr (ePtr uF o0 3) 1) rfl rfl rfl rfl i6 (Zc at_108_1 rfl (PT.ptr aK)) (L_y (fPtr (fPtr (ePtr uF o0 3) 1) 1) rfl rfl rfl rfl i6 (Zc at_106_1 rfl (PT.ptr bK)) (L_ld (c:=cK) rfl rfl (.yes2 rfl rfl i6) (fun _ _ h=>h.ch) xM rfl (L_y (fPtr p2 0) rfl rfl rfl rfl i6 (Zc at_39_0 uC (PT.ptr n8)) (L_ld (c:=vF) rfl rfl (.yes2 rfl rfl i6) (fun _ _ h=>h.ch) bN rfl (L_y (Iz (o0)) rfl rfl rfl rfl i6 (Zk n9) (L_y (ePtr vF o0 3) rfl rfl rfl rfl i6 (Zh (α:=BookTie) Tryz.underlying36 Tryz.sizeOf108 rfl dK rfl kI) (L_y (fPtr (ePtr vF o0 3) 1) rfl rfl rfl rfl i6 (Zc at_108_1 rfl (PT.ptr lK)) (L_y (fPtr (fPtr (ePtr vF o0 3) 1) 1) rfl rfl rfl rfl i6 (Zc at_106_1 rfl (PT.ptr mK)) (L_ld (c:=nK) rfl rfl (.yes2 rfl rfl i6) (fun _ _ h=>h.ch) cN rfl (L_do (φ:=fun v g w=>v=.bool (rE)) rfl rfl (.yes2 rfl rfl i6) (fun g w hd=>Zp (g:=g) (vs:=[cK,nK]) en58 (.cons rfl (.cons rfl .nil)) (wk58 (uO.ext hd.1) (yO.ext hd.1) dN) fun g' w' v hs hr=>⟨g',hs,hr⟩) (fun qR hv=>?_)))))))))))))
        obtain ⟨_,_,_,rfl⟩:=hv;refine L_y (.bool (!rE)) rfl rfl rfl rfl i6 (P_not rfl) (L_p (.bool (!rE)) rfl rfl (Zl (b:=(((oB).Harness).Hooks != ((yB).Harness).Hooks)) rfl (pick_f i6 rfl)) (L_nl fun zO tR hs=>?_));have hfr:=hfr.ext hs;have l8:=l8.ext hs;have n8:=n8.ext hs;clear hs;refine Zb ?_;obtain rfl:=sinj h;exact hQ _ _ ⟨zO,hfr,cC,l8,uC,n8,n9,rfl⟩
     ·clear hx
      obtain ⟨aP,hfr,xK,yK,zK,aL,bL,iG⟩:=hR;rcases Zt h with ⟨jG,h⟩ | ⟨jG,h⟩
      ·refine E_cond_true (Eq.trans (show ev _ _ = .bool (zD) from iG) (congrArg Value.bool jG)) (E_sr (Zg (.bool false) rfl rfl (EL_nt (E_ret (blk_r (thn_r (thn_r (blk_r (thn_r ?_)))))))))
       obtain rfl:=sinj h;exact end1 rfl rfl (rq (.bool false)) ⟨_,hfr,rfl⟩
      ·refine E_cond_false (Eq.trans (show ev _ _ = .bool (zD) from iG) (congrArg Value.bool jG)) ?_
       exact Zu (blk_n (Zd (uM () _ _ ⟨aP,hfr,xK,yK,zK,aL,bL⟩ h)))
    ·rintro _ tQ uR ⟨cP, hfr, dL, eL, gL, iL, jL⟩ h
     refine Za (Zo jL rfl (EL_in (Iz ((w64 (o0 + (1:Int))))) rfl rfl rfl rfl (Zg (Iz ((w64 (o0 + (1:Int))))) rfl rfl ?_)));exact EL_nt (zN ((w64 (o0 + (1:Int)))) _ _ ⟨cP,hfr,dL,eL,gL,iL,rfl⟩ h)
  ·rintro _ uQ xR ⟨dP, hfr, lL, mL, nL, oL⟩ h
   refine Zq h (fun (s:Unit) e w=>∃ (g:Gh) ,Fr gI wI g w) (fun X2068 mJ eN h=>?_) ?_
   ·refine E_sr (Zg (Iz (0)) rfl rfl (EL_nt (Zr (E_lp h (fun (s : Int) e w => ∃ (g : Gh) , Fr gI wI g w ∧ e 2 = p1 ∧ PT g.m w (x0 : BookMill) p1 ∧ e 3 = p2 ∧ PT g.m w (x1 : BookMill) p2 ∧ e 6 = Iz (s)) ⟨dP, hfr, lL, mL, nL, oL, rfl⟩ (fun X2069 nJ gN => ?_)))))
    rintro l5 vQ yR ⟨mH,hfr,xG,cF,xL,yL,yG⟩ h;refine Zq h (fun (s:Unit) e w=>∃ (g:Gh) ,Fr gI wI g w∧e 2=p1∧PT g.m w (x0:BookMill) p1∧e 3=p2∧PT g.m w (x1:BookMill) p2∧e 6=Iz (l5)) (fun X2074 rJ iN h=>?_) ?_
    ·refine E_sr (Zo yG rfl (EL_p (fPtr p1 1) (Zc at_39_1 xG (PT.ptr cF)) rfl ?_))
     have eP:=Zm (part_BookMill_1).1 cF;refine EL_d0 rfl (D_load (g:=mH) Tryz.isAgg37 Tryz.sizeOf37 rfl eP fun zR gP=>(EL_p (Iz (((x0).Chains).length:Int)) (P_len Tryz.underlying37 rfl gP) rfl (EL_p (.bool ((decide (l5 < (((x0).Chains).length:Int))))) (P_int rfl rfl rfl) rfl (EL_nt ?_))));rcases Zt h with ⟨kG,h⟩ | ⟨kG,h⟩
     ·refine E_ct kG rfl ?_
      exact Zu (Zd (iN () _ _ ⟨mH,hfr,xG,cF,xL,yL,yG⟩ h))
     ·refine E_cf kG rfl (E_exit (thn_e (thn_e (blk_hit ?_))))
      exact Zd (eN () _ _ ⟨mH,hfr⟩ h)
    ·rintro _ xQ aS ⟨oK, hfr, iE, aB, lE, lB, zB⟩ h
     refine Zq h (fun (s:Unit) e w=>∃ (g:Gh) ,Fr gI wI g w∧e 2=p1∧PT g.m w (x0:BookMill) p1∧e 3=p2∧PT g.m w (x1:BookMill) p2∧e 6=Iz (l5)) (fun X2267 oJ jN h=>?_) ?_
     ·refine Zr ?_
      obtain ⟨lD,hx,h⟩:=bsome h;refine E_join (fun e w=>∃ (g:Gh) ,Fr gI wI g w∧e 2=p1∧PT g.m w (x0:BookMill) p1∧e 3=p2∧PT g.m w (x1:BookMill) p2∧e 6=Iz (l5)∧e 113=.bool (lD)) (fun Q' hQ=>?_) (fun yQ cS hR=>?_)
      ·replace h := hx
       clear hx;have iP:=Zm (part_BookMill_1).1 aB;refine Zs (x:=.tmp 85) Tryz.isAgg37 Tryz.sizeOf37 iP fun uE nH lI=>?_;obtain ⟨bD,lG,h⟩:=bsome h;have oH:=PT_idx nH lG;have jP:=Zm (part_BookChain_0).1 oH;refine Zs (x:=.tmp 89) Tryz.isAgg9 Tryz.sizeOf9 jP fun dS kP mI=>?_;obtain rfl:=RV_str.1 kP;have lP:=Zm (part_BookMill_1).1 lB;refine Zs (x:=.tmp 91) Tryz.isAgg37 Tryz.sizeOf37 lP fun vE pH nI=>?_;obtain ⟨cD,mG,h⟩:=bsome h;have qH:=PT_idx pH mG;have mP:=Zm (part_BookChain_0).1 qH;refine Zs (x:=.tmp 95) Tryz.isAgg9 Tryz.sizeOf9 mP fun eS nP pI=>?_;obtain rfl:=RV_str.1 nP;rcases Zt h with ⟨l9,h⟩ | ⟨l9,h⟩
       ·refine E_drawL (g := oK) (n := 29) [] [0, 1, 2, 3, 4, 5, 6, 7, 8, 9, 10, 11, 12, 13, 14, 15, 16, 17, 18, 19, 20, 21, 22, 23, 24, 25, 26, 27, 28] rfl mixed (by kernel_rfl) trivial (L_p (fPtr p1 1) rfl rfl (Zc at_39_1 iE (PT.ptr aB)) (L_ld (c := uE) rfl rfl .plain (fun _ _ h => h.ch) lI rfl (L_p (Iz (l5)) rfl rfl (Zk zB) (L_p (ePtr uE l5 3) rfl rfl (Zh (α := BookChain) Tryz.underlying37 Tryz.sizeOf94 rfl nH rfl lG) (L_p (fPtr (ePtr uE l5 3) 0) rfl rfl (Zc at_94_0 rfl (PT.ptr oH)) (L_ld (c := Str.v ((bD).Name)) rfl rfl .plain (fun _ _ h => h.ch) mI rfl (L_p (fPtr p2 1) rfl rfl (Zc at_39_1 lE (PT.ptr lB)) (L_ld (c := vE) rfl rfl .plain (fun _ _ h => h.ch) nI rfl (L_p (Iz (l5)) rfl rfl (Zk zB) (L_p (ePtr vE l5 3) rfl rfl (Zh (α := BookChain) Tryz.underlying37 Tryz.sizeOf94 rfl pH rfl mG) (L_p (fPtr (ePtr vE l5 3) 0) rfl rfl (Zc at_94_0 rfl (PT.ptr qH)) (L_ld (c := Str.v ((cD).Name)) rfl rfl .plain (fun _ _ h => h.ch) pI rfl (L_p (.bool ((!(((bD).Name).b == ((cD).Name).b)))) rfl rfl (P_str rfl rfl rfl) (L_p (.bool ((!(((bD).Name).b == ((cD).Name).b)))) rfl rfl (Zk rfl) ?_))))))))))))))
        iterate 14 refine L_s rfl rfl rfl l9 rfl ?_
        refine L_p (.bool true) rfl rfl (Zl (b:=(!(((bD).Name).b == ((cD).Name).b))) rfl (pick_t l9 rfl)) (L_nl fun oP gS hs=>?_);have hfr:=hfr.ext hs;have aB:=aB.ext hs;have lB:=lB.ext hs;clear hs;refine Zb ?_;obtain rfl:=sinj h;exact hQ _ _ ⟨oP,hfr,iE,aB,lE,lB,zB,rfl⟩
       ·have pP := Zm (part_BookMill_1).1 aB
        refine Zs (x:=.tmp 99) Tryz.isAgg37 Tryz.sizeOf37 pP fun sH pK kN=>?_;obtain ⟨pJ,qI,h⟩:=bsome h;have qK:=PT_idx pK qI;have sP:=Zm (part_BookChain_1).1 qK;refine Zs (x:=.tmp 103) Tryz.isAgg92 Tryz.sizeOf92 sP fun sK tP lN=>?_;have uP:=Zm (part_BookMill_1).1 lB;refine Zs (x:=.tmp 105) Tryz.isAgg37 Tryz.sizeOf37 uP fun tH tK mN=>?_;obtain ⟨qJ,sI,h⟩:=bsome h;have uK:=PT_idx tK sI;have vP:=Zm (part_BookChain_1).1 uK;refine Zs (x:=.tmp 109) Tryz.isAgg92 Tryz.sizeOf92 vP fun vK xP nN=>?_;obtain ⟨oE,oN,h⟩:=bsome h;refine E_drawL (g:=oK) (n:=29) [(26,(fun v g w=>v=.bool (oE)))] [0,1,2,3,4,5,6,7,8,9,10,11,12,13,14,15,16,17,18,19,20,21,22,23,24,25,26,27,28] rfl mixed (by kernel_rfl) (⟨fun _=>up_eq _,trivial⟩) (L_p (fPtr p1 1) rfl rfl (Zc at_39_1 iE (PT.ptr aB)) (L_ld (c:=uE) rfl rfl .plain (fun _ _ h=>h.ch) lI rfl (L_p (Iz (l5)) rfl rfl (Zk zB) (L_p (ePtr uE l5 3) rfl rfl (Zh (α:=BookChain) Tryz.underlying37 Tryz.sizeOf94 rfl nH rfl lG) (L_p (fPtr (ePtr uE l5 3) 0) rfl rfl (Zc at_94_0 rfl (PT.ptr oH)) (L_ld (c:=Str.v ((bD).Name)) rfl rfl .plain (fun _ _ h=>h.ch) mI rfl (L_p (fPtr p2 1) rfl rfl (Zc at_39_1 lE (PT.ptr lB)) (L_ld (c:=vE) rfl rfl .plain (fun _ _ h=>h.ch) nI rfl (L_p (Iz (l5)) rfl rfl (Zk zB) (L_p (ePtr vE l5 3) rfl rfl (Zh (α:=BookChain) Tryz.underlying37 Tryz.sizeOf94 rfl pH rfl mG) (L_p (fPtr (ePtr vE l5 3) 0) rfl rfl (Zc at_94_0 rfl (PT.ptr qH)) (L_ld (c:=Str.v ((cD).Name)) rfl rfl .plain (fun _ _ h=>h.ch) pI rfl (L_p (.bool ((!(((bD).Name).b == ((cD).Name).b)))) rfl rfl (P_str rfl rfl rfl) (L_p (.bool ((!(((bD).Name).b == ((cD).Name).b)))) rfl rfl (Zk rfl) (L_y (fPtr p1 1) rfl rfl rfl rfl l9 (Zc at_39_1 iE (PT.ptr aB)) (L_ld (c:=sH) rfl rfl (.yes2 rfl rfl l9) (fun _ _ h=>h.ch) kN rfl ?_))))))))))))))));refine L_y (Iz (l5)) rfl rfl rfl rfl l9 (Zk zB) (L_y (ePtr sH l5 3) rfl rfl rfl rfl l9 (Zh (α:=BookChain) Tryz.underlying37 Tryz.sizeOf94 rfl pK rfl qI) (L_y (fPtr (ePtr sH l5 3) 1) rfl rfl rfl rfl l9 (Zc at_94_1 rfl (PT.ptr qK)) (L_ld (c:=sK) rfl rfl (.yes2 rfl rfl l9) (fun _ _ h=>h.ch) lN rfl (L_y (fPtr p2 1) rfl rfl rfl rfl l9 (Zc at_39_1 lE (PT.ptr lB)) (L_ld (c:=tH) rfl rfl (.yes2 rfl rfl l9) (fun _ _ h=>h.ch) mN rfl (L_y (Iz (l5)) rfl rfl rfl rfl l9 (Zk zB) (L_y (ePtr tH l5 3) rfl rfl rfl rfl l9 (Zh (α:=BookChain) Tryz.underlying37 Tryz.sizeOf94 rfl tK rfl sI) (L_y (fPtr (ePtr tH l5 3) 1) rfl rfl rfl rfl l9 (Zc at_94_1 rfl (PT.ptr uK)) (L_ld (c:=vK) rfl rfl (.yes2 rfl rfl l9) (fun _ _ h=>h.ch) nN rfl (L_do (φ:=fun v g w=>v=.bool (oE)) rfl rfl (.yes2 rfl rfl l9) (fun g w hd=>Zp (g:=g) (vs:=[sK,vK]) en72 (.cons rfl (.cons rfl .nil)) (wk72 (tP.ext hd.1) (xP.ext hd.1) oN) fun g' w' v hs hr=>⟨g',hs,hr⟩) (fun iS hv=>?_)))))))))));obtain ⟨_,_,_,rfl⟩:=hv;refine L_y (.bool (!oE)) rfl rfl rfl rfl l9 (P_not rfl) (L_p (.bool (!oE)) rfl rfl (Zl (b:=(!(((bD).Name).b == ((cD).Name).b))) rfl (pick_f l9 rfl)) (L_nl fun yP jS hs=>?_));have hfr:=hfr.ext hs;have aB:=aB.ext hs;have lB:=lB.ext hs;clear hs;refine Zb ?_;obtain rfl:=sinj h;exact hQ _ _ ⟨yP,hfr,iE,aB,lE,lB,zB,rfl⟩
      ·clear hx
       obtain ⟨zP,hfr,zL,aM,cM,dM,eM,dF⟩:=hR;rcases Zt h with ⟨sG,h⟩ | ⟨sG,h⟩
       ·refine E_cond_true (Eq.trans (show ev _ _ = .bool (lD) from dF) (congrArg Value.bool sG)) (E_sr (Zg (.bool false) rfl rfl (EL_nt (E_ret (blk_r (thn_r (thn_r (blk_r (thn_r ?_)))))))))
        obtain rfl:=sinj h;exact end1 rfl rfl (rq (.bool false)) ⟨_,hfr,rfl⟩
       ·refine E_cond_false (Eq.trans (show ev _ _ = .bool (lD) from dF) (congrArg Value.bool sG)) ?_
        exact Zu (blk_n (Zd (jN () _ _ ⟨zP,hfr,zL,aM,cM,dM,eM⟩ h)))
     ·rintro _ zQ lS ⟨bQ, hfr, iM, jM, kM, pM, qM⟩ h
      refine Za (Zo qM rfl (EL_in (Iz ((w64 (l5 + (1:Int))))) rfl rfl rfl rfl (Zg (Iz ((w64 (l5 + (1:Int))))) rfl rfl ?_)));exact EL_nt (gN ((w64 (l5 + (1:Int)))) _ _ ⟨bQ,hfr,iM,jM,kM,pM,rfl⟩ h)
   ·rintro _ aR mS ⟨nS, hfr⟩ h
    refine E_sr (Zg (.bool true) rfl rfl (EL_nt (E_ret ?_)));obtain rfl:=sinj h;exact end1 rfl rfl (rq (.bool true)) ⟨_,hfr,rfl⟩
def f89 (x0:BookCloth) (x1:BookCloth):Option (Int):=
 (f130 ((x0).Day) ((x1).Day)).bind fun y8=>
 (f130 ((x0).Loom) ((x1).Loom)).bind fun o0=>
 (f129 (([y8,o0]:List Int))).bind fun t5=>
 some (t5)
theorem en89:Enters Tryz.prog 89:=enters_of Tryz.func89 (by kernel_rfl) rfl
theorem wk89 {gI:Gh} {wI:World} {x0:BookCloth} {x1:BookCloth} {up0:Value} (rp0:RV gI.m wI x0 up0) {up1:Value} (rp1:RV gI.m wI x1 up1) {r:Int} (h:f89 x0 x1=some r):Fn Tryz.prog 89 #[up0,up1] gI wI (fun _ _ v=>v=Iz (r)):=by
 unfold f89 at h;refine fnE Tryz.func89 rfl rfl fun g0 hm hfr=>?_;have rp0:=RVc hm rp0;have rp1:=RVc hm rp1;show E _ 17 none _ _ _ _ _;refine E_sr (EL_d0 rfl (D_box (g:=g0) rfl rp0 fun g1 w1 p1 hs q1=>?_));have hfr:=hfr.ext hs;have rp1:=rp1.ext hs;refine EL_d0 rfl (D_box (g:=g1) rfl rp1 fun g2 w2 p2 hs q2=>?_);have hfr:=hfr.ext hs;have q1:=q1.ext hs;refine Zg (Iz (0)) rfl rfl (EL_nt (Zf ?_));have q3:=Zm (part_BookCloth_0).1 q1;refine Zs (x:=.tmp 5) Tryz.isAgg3 Tryz.sizeOf3 q3 fun v4 r4 l9=>?_;obtain rfl:=Zj.1 r4;have q5:=Zm (part_BookCloth_0).1 q2;refine Zs (x:=.tmp 7) Tryz.isAgg3 Tryz.sizeOf3 q5 fun v6 r6 hl6=>?_;obtain rfl:=Zj.1 r6;obtain ⟨y8,n9,h⟩:=bsome h;have q9:=Zm (part_BookCloth_1).1 q1;refine Zs (x:=.tmp 10) Tryz.isAgg3 Tryz.sizeOf3 q9 fun v10 r10 i6=>?_;obtain rfl:=Zj.1 r10;have aB:=Zm (part_BookCloth_1).1 q2;refine Zs (x:=.tmp 12) Tryz.isAgg3 Tryz.sizeOf3 aB fun mB lB hl12=>?_;obtain rfl:=Zj.1 lB;obtain ⟨o0,l8,h⟩:=bsome h;obtain ⟨t5,n8,h⟩:=bsome h;refine E_drawL (g:=g2) (n:=13) [(4,(fun v g w=>v=Iz (y8))),(9,(fun v g w=>v=Iz (o0))),(10,(fun v g w=>RV g.m w ([y8,o0]:List Int) v∧OS 3015 g w 3 ([y8,o0]:List Int) v∧FullV v)),(11,(fun v g w=>v=Iz (t5)))] [0,1,2,3,4,5,6,7,8,9,10,11,12] rfl mixed (by kernel_rfl) (⟨fun _=>up_eq _,fun _=>up_eq _,fun _=>up_and up_rv (up_and up_os (up_eq _)),fun _=>up_eq _,trivial⟩) (L_p (fPtr p1 0) rfl rfl (Zc at_63_0 rfl (PT.ptr q1)) (L_ld (c:=Iz ((x0).Day)) rfl rfl .plain (fun _ _ h=>h.ch) l9 rfl (L_p (fPtr p2 0) rfl rfl (Zc at_63_0 rfl (PT.ptr q2)) (L_ld (c:=Iz ((x1).Day)) rfl rfl .plain (fun _ _ h=>h.ch) hl6 rfl (L_do (φ:=fun v g w=>v=Iz (y8)) rfl rfl .plain (fun g w hd=>Zp (g:=g) (vs:=[Iz ((x0).Day),Iz ((x1).Day)]) en130 (.cons rfl (.cons rfl .nil)) (wk130  n9) fun g' w' v hs hr=>⟨g',hs,hr⟩) (fun v7 hv=>?_))))));obtain ⟨_,_,_,rfl⟩:=hv;refine L_p (fPtr p1 1) rfl rfl (Zc at_63_1 rfl (PT.ptr q1)) (L_ld (c:=Iz ((x0).Loom)) rfl rfl .plain (fun _ _ h=>h.ch) i6 rfl (L_p (fPtr p2 1) rfl rfl (Zc at_63_1 rfl (PT.ptr q2)) (L_ld (c:=Iz ((x1).Loom)) rfl rfl .plain (fun _ _ h=>h.ch) hl12 rfl (L_do (φ:=fun v g w=>v=Iz (o0)) rfl rfl .plain (fun g w hd=>Zp (g:=g) (vs:=[Iz ((x0).Loom),Iz ((x1).Loom)]) en130 (.cons rfl (.cons rfl .nil)) (wk130  l8) fun g' w' v hs hr=>⟨g',hs,hr⟩) (fun nB hv=>?_)))));obtain ⟨_,_,_,rfl⟩:=hv;refine L_do (φ:=fun v g w=>RV g.m w ([y8,o0]:List Int) v∧OS 3015 g w 3 ([y8,o0]:List Int) v∧FullV v) rfl rfl .plain (fun g w hd=>D_buildSlice (g:=g) 3015 (xs:=([y8,o0]:List Int)) (vs:=[Iz (y8),Iz (o0)]) Tryz.underlying22 Tryz.sizeOf3 Tryz.zeroValue3 rfl rfl (.cons rfl (.cons rfl .nil)) (RVs.cons (Zj.2 rfl) (RVs.cons (Zj.2 rfl) RVs.nil)) rfl rfl fun g' w' v hs o r hxt hfl=>⟨g',hxt,r,o,hfl⟩) (fun l5 hv=>?_);clear hv;refine L_do (φ:=fun v g w=>v=Iz (t5)) rfl rfl .plain (fun g w hd=>Zp (g:=g) (vs:=[l5]) en129 (.cons rfl .nil) (wk129 (word (A:=fun g w=>RV g.m w ([y8,o0]:List Int) l5∧OS 3015 g w 3 ([y8,o0]:List Int) l5∧FullV l5) 10 rfl rfl (deps_of hd)).1 n8) fun g' w' v hs hr=>⟨g',hs,hr⟩) (fun oB hv=>?_);obtain ⟨_,_,_,rfl⟩:=hv;refine L_p (Iz (t5)) rfl rfl (P_assign rfl) (L_nil fun yB zB hall=>?_);have hs:=hall.1;have hfr:=hfr.ext hs;have cC:=(word_all (A:=fun g w=>RV g.m w ([y8,o0]:List Int) l5∧OS 3015 g w 3 ([y8,o0]:List Int) l5∧FullV l5) 10 rfl hall).1;have o34:=(word_all (A:=fun g w=>RV g.m w ([y8,o0]:List Int) l5∧OS 3015 g w 3 ([y8,o0]:List Int) l5∧FullV l5) 10 rfl hall).2.1;clear hs hall;refine EL_nt (E_ret ?_);obtain rfl:=sinj h;exact end1 rfl rfl (rq (Iz (t5))) ⟨_,hfr,rfl⟩
def f100 (x0:Int) (x1:Int) (x2:List Int):Option (Bool):=
 (f138 x2 ((fun a0=>f139 a0 x0 x1))).bind fun y4=>
 some ((!y4))
theorem en100:Enters Tryz.prog 100:=enters_of Tryz.func100 (by kernel_rfl) rfl
theorem wk100 {gI:Gh} {wI:World} {x0:Int} {x1:Int} {x2:List Int} {up2:Value} (rp2:RV gI.m wI x2 up2) {r:Bool} (h:f100 x0 x1 x2=some r):Fn Tryz.prog 100 #[Iz (x0),Iz (x1),up2] gI wI (fun _ _ v=>v=.bool (r)):=by
 unfold f100 at h;refine fnE Tryz.func100 rfl rfl fun g0 hm hfr=>?_;have rp2:=RVc hm rp2;show E _ 11 none _ _ _ _ _;refine E_sr (EL_d0 rfl (D_box (g:=g0) rfl (Zj.2 rfl) fun g1 w1 p1 hs q1=>?_));have hfr:=hfr.ext hs;have rp2:=rp2.ext hs;refine EL_d0 rfl (D_box (g:=g1) rfl (Zj.2 rfl) fun g2 w2 p2 hs q2=>?_);have hfr:=hfr.ext hs;have rp2:=rp2.ext hs;have q1:=q1.ext hs;refine Zg (.bool false) rfl rfl (EL_nt (E_sr (Zn up2 rfl rfl (EL_p ((.func (.func 139) #[] #[p1,p2])) (P_makeFunc (capf_0_2 (show ev _ _=p1 from rfl) (show ev _ _=p2 from rfl))) rfl ?_))));obtain ⟨y4,o0,h⟩:=bsome h;refine EL_d0 rfl (Zp (g:=g2) (vs:=[up2,(.func (.func 139) #[] #[p1,p2])]) en138 (.cons rfl (.cons rfl .nil)) (wk138 rp2 ⟨139,#[],#[p1,p2],rfl,en139,fun g' w' hch a0 b0 r hu0 hr=>by obtain rfl:=Zj.1 hu0; exact Fn.mono (wk139  (q1.ch hch) (q2.ch hch) hr) fun _ _ _ h=>RV_bool.2 h⟩ o0) fun g3 w3_ v3 hs hr=>?_);have hfr:=hfr.ext hs;subst hr;refine EL_p (.bool (!y4)) (P_not rfl) rfl (Zg (.bool (!y4)) rfl rfl (EL_nt (E_ret ?_)));obtain rfl:=sinj h;exact end1 rfl rfl (rq (.bool (!y4))) ⟨_,hfr,rfl⟩
def f105 (x0:TieHarness):Option (Int):=
 jn (σ:=Unit) (fun _=>
  some ((0:Int))
  ) fun n9=>
 (f142 ((1:Int)) ((24:Int)) (([(x0).Hooks]:List Int))).bind fun n8=>
 bif (!n8) then
  some ((2:Int))
 else
  bif (decide ((((x0).Warps).length : Int) > (96 : Int))) then
   some ((5:Int))
  else
   bif ((((x0).Warps).length : Int) == (0 : Int)) then
    some ((7:Int))
   else
    (f142 ((0:Int)) ((w64 ((x0).Hooks - (1:Int)))) ((x0).Warps)).bind fun l9=>
    bif (!l9) then
     some ((2:Int))
    else
     n9 ()
theorem en105:Enters Tryz.prog 105:=enters_of Tryz.func105 (by kernel_rfl) rfl
theorem wk105 {gI:Gh} {wI:World} {x0:TieHarness} {up0:Value} (rp0:RV gI.m wI x0 up0) {r:Int} (h:f105 x0=some r):Fn Tryz.prog 105 #[up0] gI wI (fun _ _ v=>v=Iz (r)):=by
 unfold f105 at h;refine fnE Tryz.func105 rfl rfl fun g0 hm hfr=>?_;have rp0:=RVc hm rp0;show E _ 27 none _ _ _ _ _;refine E_sr (EL_d0 rfl (D_box (g:=g0) rfl rp0 fun g1 w1 p1 hs q1=>?_));have hfr:=hfr.ext hs;refine Zg (Iz (0)) rfl rfl (EL_nt (Zq h (fun (s:Unit) e w=>∃ (g:Gh) ,Fr gI wI g w) (fun X21 n9 aB h=>?_) ?_))
 ·refine Zr (E_sr (EL_p (fPtr p1 0) (Zc at_106_0 rfl (PT.ptr q1)) rfl ?_))
  have nB:=Zm (part_TieHarness_0).1 q1;refine EL_d0 rfl (D_load (g:=g1) Tryz.isAgg3 Tryz.sizeOf3 rfl nB fun oE oB=>?_);obtain rfl:=Zj.1 oB;refine EL_d0 rfl (D_buildSlice (g:=g1) 3006 (xs:=([(x0).Hooks]:List Int)) (vs:=[Iz ((x0).Hooks)]) Tryz.underlying22 Tryz.sizeOf3 Tryz.zeroValue3 rfl rfl (.cons rfl .nil) (RVs.cons (Zj.2 rfl) RVs.nil) rfl rfl fun yB rE zB hs o24 cC hxt hfl=>?_);have hfr:=hfr.stp hs;have q1:=q1.stp hs;obtain ⟨n8,lB,h⟩:=bsome h;refine EL_d0 rfl (Zp (g:=yB) (vs:=[Iz (1),Iz (24),zB]) en142 (.cons rfl (.cons rfl (.cons rfl .nil))) (wk142 cC lB) fun o0 iE uE hs hr=>?_);have hfr:=hfr.ext hs;have q1:=q1.ext hs;subst hr;refine EL_p (.bool (!n8)) (P_not rfl) rfl (Zg (.bool (!n8)) rfl rfl (EL_nt ?_));rcases Zt h with ⟨l5,h⟩ | ⟨l5,h⟩
  ·refine E_ct l5 rfl (E_sr (Zg (Iz (2)) rfl rfl (EL_nt (E_ret (blk_r (thn_r ?_))))))
   obtain rfl:=sinj h;exact end1 rfl rfl (rq (Iz (2))) ⟨_,hfr,rfl⟩
  ·refine E_cf l5 rfl (E_sr (EL_p (fPtr p1 1) (Zc at_106_1 rfl (PT.ptr q1)) rfl ?_))
   have uC:=Zm (part_TieHarness_1).1 q1;refine EL_d0 rfl (D_load (g:=o0) Tryz.isAgg22 Tryz.sizeOf22 rfl uC fun vE bD=>(EL_p (Iz (((x0).Warps).length:Int)) (P_len Tryz.underlying22 rfl bD) rfl (EL_p (.bool ((decide ((((x0).Warps).length:Int) > (96:Int))))) (P_int rfl rfl rfl) rfl (EL_p (.bool ((decide ((((x0).Warps).length:Int) > (96:Int))))) (P_assign rfl) rfl (EL_nt ?_)))));rcases Zt h with ⟨t5,h⟩ | ⟨t5,h⟩
   ·refine E_ct t5 rfl (E_sr (Zg (Iz (5)) rfl rfl (EL_nt (E_ret (blk_r (thn_r ?_))))))
    obtain rfl:=sinj h;exact end1 rfl rfl (rq (Iz (5))) ⟨_,hfr,rfl⟩
   ·refine E_cf t5 rfl (E_sr (EL_p (fPtr p1 1) (Zc at_106_1 rfl (PT.ptr q1)) rfl ?_))
    have cD:=Zm (part_TieHarness_1).1 q1;refine EL_d0 rfl (D_load (g:=o0) Tryz.isAgg22 Tryz.sizeOf22 rfl cD fun xE lD=>(EL_p (Iz (((x0).Warps).length:Int)) (P_len Tryz.underlying22 rfl lD) rfl (EL_in (.bool (((((x0).Warps).length:Int) == (0:Int)))) rfl rfl rfl rfl (Zg (.bool (((((x0).Warps).length:Int) == (0:Int)))) rfl rfl (EL_nt ?_)))));rcases Zt h with ⟨i6,h⟩ | ⟨i6,h⟩
    ·refine E_ct i6 rfl (E_sr (Zg (Iz (7)) rfl rfl (EL_nt (E_ret (blk_r (thn_r ?_))))))
     obtain rfl:=sinj h;exact end1 rfl rfl (rq (Iz (7))) ⟨_,hfr,rfl⟩
    ·refine E_cf i6 rfl (E_sr (EL_p (fPtr p1 0) (Zc at_106_0 rfl (PT.ptr q1)) rfl ?_))
     have nD:=Zm (part_TieHarness_0).1 q1;refine EL_d0 rfl (D_load (g:=o0) Tryz.isAgg3 Tryz.sizeOf3 rfl nD fun yE oD=>?_);obtain rfl:=Zj.1 oD;refine EL_in (Iz ((w64 ((x0).Hooks - (1:Int))))) rfl rfl rfl rfl (EL_p (fPtr p1 1) (Zc at_106_1 rfl (PT.ptr q1)) rfl ?_);have yD:=Zm (part_TieHarness_1).1 q1;refine EL_d0 rfl (D_load (g:=o0) Tryz.isAgg22 Tryz.sizeOf22 rfl yD fun zD aE=>?_);obtain ⟨l9,mB,h⟩:=bsome h;refine EL_d0 rfl (Zp (g:=o0) (vs:=[Iz (0),Iz ((w64 ((x0).Hooks - (1:Int)))),zD]) en142 (.cons rfl (.cons rfl (.cons rfl .nil))) (wk142 aE mB) fun bE lE zE hs hr=>?_);have hfr:=hfr.ext hs;subst hr;refine EL_p (.bool (!l9)) (P_not rfl) rfl (Zg (.bool (!l9)) rfl rfl (EL_nt ?_));rcases Zt h with ⟨l8,h⟩ | ⟨l8,h⟩
     ·refine E_ct l8 rfl (E_sr (Zg (Iz (2)) rfl rfl (EL_nt (E_ret (blk_r (thn_r ?_))))))
      obtain rfl:=sinj h;exact end1 rfl rfl (rq (Iz (2))) ⟨_,hfr,rfl⟩
     ·refine E_cf l8 rfl ?_
      exact Zu (blk_n (Zd (aB () _ _ ⟨bE,hfr⟩ h)))
 ·rintro _ mE cF ⟨dF, hfr⟩ h
  refine E_sr (Zg (Iz (0)) rfl rfl (EL_nt (E_ret ?_)));obtain rfl:=sinj h;exact end1 rfl rfl (rq (Iz (0))) ⟨_,hfr,rfl⟩
def f132 (z0:List UInt8) (σ:Type) (cons:Cons σ (Vector UInt8 8)) (s0:σ):Option σ:=
 (f133 z0 ((8:Int))).bind fun y4=>
 (y4 (Nat × σ) (guardC fun mB nB=>
  (vecN 8 nB).bind fun oB=>
  (cons mB oB).bind fun (n9,aB)=>
  bif (!n9) then
   some (false,((1:Nat),(aB)))
  else
   some (true,((0:Nat),(aB)))
  ) (0,(s0))).bind fun (l8,n8)=>
 bif Nat.beq l8 0 then
  some n8
 else
  some n8
theorem en132:Enters Tryz.prog 132:=enters_of Tryz.func132 (by kernel_rfl) rfl
theorem wk132 {σ:Type} {cons:Cons σ (Vector UInt8 8)} {s0 r:σ} {gI:Gh} {wI:World} {z0:List UInt8} {pf0:Value} (qf0:PT gI.m wI z0 pf0) (h:f132 z0 σ cons s0=some r):IterC Tryz.prog (RA1 (α:=(Vector UInt8 8))) 132 #[] #[pf0] gI wI cons s0 r:=by
 unfold f132 at h;refine iterD_of_E Tryz.func132 rfl (Nat.le_of_ble_eq_true rfl) fun l B J g0 hm hAb hRo hfr=>?_;have hmk:MkF g0 wI []:=MkF.start;have qf0:PT g0.m wI z0 pf0:=hm ▸ qf0;show E _ 13 none _ _ (envAt #[.func (.yield l) #[] #[],pf0]) _ _;refine E_sr (EL_d0 rfl (D_box (g:=g0) (a:=(⟨(.func (.yield l) #[] #[]),rfl⟩:Fv)) rfl (RV_fv.2 rfl) fun g1 w1 p1 hs q1=>?_));have hfr:=hfr.ext_ hAb hs;have hmk:=hmk.ext hs;have qf0:=qf0.ext hs;refine EL_nt (E_sr (EL_d0 rfl (D_load (g:=g1) Tryz.isAgg50 Tryz.sizeOf50 rfl qf0 fun v2 r2=>?_)));obtain ⟨y4,yD,h⟩:=bsome h;refine EL_d0 rfl (Zp (g:=g1) (vs:=[v2,Iz (8)]) en133 (.cons rfl (.cons rfl .nil)) (wk133 r2 yD) fun g3 w3_ v3 hs hr=>?_);have hfr:=hfr.ext_ hAb hs;have hmk:=hmk.ext hs;have q1:=q1.ext hs;have r3:=hr;refine EL_nt (Zr ?_);have hB0:=hfr.hB;have hmk0:=hmk;obtain ⟨⟨l8,n8⟩,hφ,h⟩:=bsome h;refine E_rangeFunc (σ:=(Nat × σ)) (s0:=(0,(s0))) 10 rfl (fun s=>s.1) [.ret] (fun (s:Nat × σ) (g:Gh) (w:World)=>FrY gI wI B J (s.2) g w∧MkF g w []∧PT g.m w (⟨(.func (.yield l) #[] #[]),rfl⟩:Fv) p1∧ItV Tryz.prog (RA1 (α:=(List UInt8))) y4 v3 g.m w) rfl r3 hφ (fun _ _ _ h=>(guardC_h h).1) rfl ra1_size rfl (fun _ _ _ _ _ hx hR=>by obtain ⟨hfr,hmk,z2,z3⟩:=hR; exact ⟨hfr.ist_ hAb hx hB0,hmk.ist hx,z2.ist hx,z3.ist hx⟩) (fun _ _ _ _ _ hx hR=>by obtain ⟨hfr,hmk,z2,z3⟩:=hR; exact ⟨hfr.stp_ hAb hx rfl,hmk.stp hx,z2.stp hx,z3.stp hx⟩) ⟨hfr,hmk,q1,r3⟩ (fun _ h=>by cases h) ?_ ?_
 ·intro xE oE s x b s2 uC zD vs hsz h hR hrec_0 yB hrd
  obtain ⟨hs0,h⟩:=guardC_h h;obtain ⟨st,mB⟩:=s;obtain ⟨hfr,hmk,o0,l5⟩:=hR;obtain ⟨nB,hxe⟩:∃ y,y=x:=⟨x,rfl⟩;subst hxe;obtain ⟨l9,rfl,i6⟩:=ra1_get hrd;have t5:=RFr.refl uC zD;refine Za (Zg l9 rfl rfl (EL_nt ?_));obtain ⟨aE,hbr,hs,hrN⟩:=begin_round hrec_0 yB;refine ⟨aE,hbr,?_⟩;have hfr:=hfr.stp_ hAb hs rfl;have hmk:=hmk.stp hs;have t5:=t5.stp hs;have o0:=o0.stp hs;have l5:=l5.stp hs;have i6:=i6.stp hs;have hrec_0:=hrN;clear hbr hs hrN;refine Zr (Zf (Zs (α:=Fv) (x:=.tmp 2) Tryz.isAgg202 Tryz.sizeOf202 o0 fun bD cD lD=>?_));have e26:bD=(.func (.yield l) #[] #[]):=RV_fv.1 cD;clear cD;subst bD;obtain ⟨oB,zB,h⟩:=bsome h;have bE:=PT_arrAt i6 zB;refine Zs (x:=.tmp 9) Tryz.isAgg155 Tryz.sizeOf155 bE fun iE cC nD=>(E_drawL (g:=uC) (n:=4) [] [0,1,2,3] rfl mixed (by kernel_rfl) trivial (L_ld (c:=(.func (.yield l) #[] #[])) rfl rfl .plain (fun _ _ h=>h.ch) lD rfl (L_p l9 rfl rfl (Zk rfl) (L_p ((ptrV l9)) rfl rfl (P_arrAt Tryz.underlying155 rfl i6 zB) (L_ld (c:=iE) rfl rfl .plain (fun _ _ h=>h.ch) nD rfl (L_nl fun lE yE hs=>?_))))));have hfr:=hfr.ext_ hAb hs;have hmk:=hmk.ext hs;have t5:=t5.ext hs;have hrec_0:=hrec_0.ext hs;have o0:=o0.ext hs;have l5:=l5.ext hs;have cC:=cC.ext hs;clear hs;obtain ⟨mE,oD,h⟩:=bsome h;obtain ⟨n9,aB⟩:=mE;refine EL_d0 rfl (D_yield (g:=lE) (x:=oB) rfl (.cons rfl .nil) hRo hfr oD ⟨_,rfl,cC⟩ fun zE cF hs hfrY=>?_);have hmk:=hmk.stp hs;have t5:=t5.stp hs;have hrec_0:=hrec_0.stp hs rfl;have o0:=o0.stp hs;have l5:=l5.stp hs;have hfr:=hfrY;clear hfrY;refine EL_p (.bool (!n9)) (P_not rfl) rfl (EL_nt ?_);rcases Zt h with ⟨lB,h⟩ | ⟨lB,h⟩
  ·refine E_ct lB rfl (E_ret (blk_r ?_))
   obtain ⟨rfl,rfl⟩:=pairs2 h;exact ⟨_,t5,⟨hfr,hmk,o0,l5⟩,hrec_0,rfl,0,rfl,rfl⟩
  ·refine E_cf lB rfl (Zu (blk_n ?_))
   obtain ⟨rfl,rfl⟩:=pairs2 h;exact ⟨_,t5,⟨hfr,hmk,o0,l5⟩,hrec_0,rfl,rfl⟩
 ·intro dF eF ds44 hsz hR hds
  obtain ⟨hfr,hmk,rE,uE⟩:=hR;obtain ⟨D,hdse,hD,hDb⟩:=hds.1 rfl;subst hdse;replace hmk:=MkF.push hmk0 hmk hD hDb;clear hD hDb hds;revert hmk;generalize ({ target:=.collected D,args:=#[] } :: []:List Deferred)=vE;intro hmk;refine ⟨fun hs=>?_,fun k c hs hc=>?_⟩
  ·have hs : l8 = 0 := hs
   subst hs;replace h:=cond_t h rfl;refine blk_n (endM (.inl rfl) hmk fun rF sF hs=>?_);have hfr:=hfr.stp_ hAb hs rfl;obtain rfl:=sinj h;exact end0n rfl rfl (FrY.done hfr)
  ·have hs : l8 = k + 1 := hs
   match k,hs,hc with
   | 0,hs,hc=>
    subst hs;obtain rfl:=sinj hc;replace h:=cond_f h rfl;refine E_ret (blk_r (endM (.inr rfl) hmk fun tF uF hs=>?_));have hfr:=hfr.stp_ hAb hs rfl;obtain rfl:=sinj h;exact end0 rfl rfl (FrY.done hfr)
   | n + 1,_,hc=>exact absurd hc (by simp)
def f136 (x0:List Int) (x1:Int):Option ((List Int)):=
 Option.bind (α:=Unit) (
  bif (decide (x1 < (0 : Int))) then
   none
  else
   some ()
  ) fun (_:Unit)=>
 (f166 ((⟨(wu64 ((x0).length:Int))⟩:U64)) ((⟨(wu64 x1)⟩:U64))).bind fun y5=>
 Option.bind (α:=Unit) (
  Option.bind (α:=Bool) (
   bif (decide ((y5.1).n > (0 : Int))) then
    some (true)
   else
    some ((decide ((y5.2).n > (9223372036854775807:Int))))
   ) fun i6=>
  bif i6 then
   none
  else
   some ()
  ) fun (_:Unit)=>
 (mks 8 (0:Int) ((w64 ((y5.2).n)))).bind fun zB=>
 Option.bind (α:=(List Int)) (
  lp (σ:=(List Int) × Int) (fun oE (l5,o0)=>
   jn (σ:=Unit) (fun _=>
    (cut l5 o0 ((l5).length:Int)).bind fun l9=>
    (cut l5 0 o0).bind fun y40=>
    oE ((cpy l5 o0 l9 y40),(w64 (o0 + ((min (y40).length (l9).length:Nat):Int))))
    ) fun k33=>
   bif (decide (o0 < ((l5).length : Int))) then
    k33 ()
   else
    some (l5)
   ) big ((cpy zB 0 zB x0),((min (x0).length (zB).length:Nat):Int))
  ) fun aB=>
 some (aB)
theorem en136:Enters Tryz.prog 136:=enters_of Tryz.func136 (by kernel_rfl) rfl
theorem wk136 {gI:Gh} {wI:World} {x0:List Int} {x1:Int} {up0:Value} (rp0:RV gI.m wI x0 up0) {r:(List Int)} (h:f136 x0 x1=some r):Fn Tryz.prog 136 #[up0,Iz (x1)] gI wI (fun m w v=>RV m w (r) v):=by
 unfold f136 at h;refine fnE Tryz.func136 rfl rfl fun g0 hm hfr=>?_;have rp0:=RVc hm rp0;show E _ 48 none _ _ _ _ _;refine E_sr (Zg (.slice none 0 0) rfl rfl (EL_nt ?_));obtain ⟨_,hx,h⟩:=bsome h;refine E_join (fun e w=>∃ (g:Gh) ,Fr gI wI g w∧e 0=up0∧RV g.m w (x0:List Int) up0∧e 1=Iz (x1)) (fun Q' hQ=>?_) (fun eG w3 hR=>?_)
 ·replace h := hx
  clear hx;refine E_sr (Zn (Iz (x1)) rfl rfl (EL_in (.bool ((decide (x1 < (0:Int))))) rfl rfl rfl rfl (EL_nt ?_)));rcases Zt h with ⟨hc2,h⟩ | ⟨hc2,h⟩
  ·refine E_ct hc2 rfl (Za ?_)
   cases h
  ·refine E_cf hc2 rfl (Zu ?_)
   obtain rfl:=sinj h;exact hQ _ _ ⟨g0,hfr,rfl,rp0,rfl⟩
 ·clear hx
  obtain ⟨g3,hfr,uC,n9,vE⟩:=hR;refine E_sr (Zo uC rfl (EL_p (Iz ((x0).length:Int)) (P_len Tryz.underlying22 rfl n9) rfl (EL_p (.int .u64 (wu64 ((x0).length:Int))) (P_intu64 Tryz.underlying3 Tryz.underlying97 rfl) rfl (Zo vE rfl (EL_p (.int .u64 (wu64 x1)) (P_intu64 Tryz.underlying3 Tryz.underlying97 rfl) rfl ?_)))));obtain ⟨y5,hy5,h⟩:=bsome h;refine EL_d0 rfl (Zp (g:=g3) (vs:=[.int .u64 (wu64 ((x0).length:Int)),.int .u64 (wu64 x1)]) en166 (.cons rfl (.cons rfl .nil)) (wk166  hy5) fun g4 w4_ v4 hs hr=>?_);have hfr:=hfr.ext hs;have n9:=n9.ext hs;obtain ⟨uF,vF,rfl,rfl,rfl⟩:=hr;refine Zn (.tuple #[.int .u64 ((y5.1).n),.int .u64 ((y5.2).n)]) rfl rfl (EL_p (.int .u64 ((y5.1).n)) (Zi rfl rfl) rfl (EL_p (.int .u64 ((y5.2).n)) (Zi rfl rfl) rfl (Zg (.int .u64 ((y5.1).n)) rfl rfl (Zg (.int .u64 ((y5.2).n)) rfl rfl (EL_nt ?_)))));obtain ⟨_,hx,h⟩:=bsome h;refine E_join (fun e w=>∃ (g:Gh) ,Fr gI wI g w∧e 0=up0∧RV g.m w (x0:List Int) up0∧e 6=.int .u64 ((y5.2).n)) (fun Q' hQ=>?_) (fun xF gG hR=>?_)
  ·replace h := hx
   clear hx;obtain ⟨i6,hx,h⟩:=bsome h;refine E_join (fun e w=>∃ (g:Gh) ,Fr gI wI g w∧e 0=up0∧RV g.m w (x0:List Int) up0∧e 6=.int .u64 ((y5.2).n)∧e 26=.bool (i6)) (fun Q' hQ=>?_) (fun yF iG hR=>?_)
   ·replace h := hx
    clear hx;refine Za (Zn (.int .u64 ((y5.1).n)) rfl rfl (EL_p (.bool (decide ((y5.1).n > (0:Int)))) (P_u64cmp rfl rfl rfl) rfl (Zn (.bool (decide ((y5.1).n > (0:Int)))) rfl rfl ?_)));rcases Zt h with ⟨l8,h⟩ | ⟨l8,h⟩
    ·refine EL_s rfl rfl l8 rfl rfl (EL_s rfl rfl l8 rfl rfl (EL_p (.bool true) (Zl (b := (decide ((y5.1).n > (0 : Int)))) rfl (pick_t l8 rfl)) rfl (Zb ?_)))
     obtain rfl:=sinj h;exact hQ _ _ ⟨g4,hfr,uC,n9,rfl,rfl⟩
    ·refine EL_y (.int .u64 ((y5.2).n)) (Zk rfl) rfl rfl l8 rfl (EL_y (.bool (decide ((y5.2).n > (9223372036854775807 : Int)))) (P_u64cmp rfl rfl rfl) rfl rfl l8 rfl (EL_p (.bool (decide ((y5.2).n > (9223372036854775807 : Int)))) (Zl (b := (decide ((y5.1).n > (0 : Int)))) rfl (pick_f l8 rfl)) rfl (Zb ?_)))
     obtain rfl:=sinj h;exact hQ _ _ ⟨g4,hfr,uC,n9,rfl,rfl⟩
   ·clear hx
    obtain ⟨cF,hfr,yD,zD,aE,cC⟩:=hR;rcases Zt h with ⟨bD,h⟩ | ⟨bD,h⟩
    ·refine E_cond_true (Eq.trans (show ev _ _ = .bool (i6) from cC) (congrArg Value.bool bD)) (Za ?_)
     cases h
    ·refine E_cond_false (Eq.trans (show ev _ _ = .bool (i6) from cC) (congrArg Value.bool bD)) (Zu ?_)
     obtain rfl:=sinj h;exact hQ _ _ ⟨cF,hfr,yD,zD,aE⟩
  ·clear hx
   obtain ⟨dF,hfr,bE,lB,iE⟩:=hR;refine E_sr (Zo iE rfl (EL_p (Iz ((w64 ((y5.2).n)))) (P_u64int Tryz.underlying97 Tryz.underlying3 rfl) rfl ?_));obtain ⟨zB,xE,h⟩:=bsome h;refine EL_d0 rfl (D_makeSliceM (g:=dF) 9030 (0:Int) rfl Tryz.underlying22 info_3 rfl (fun _ _=>rfl) rfl rfl xE fun eF jG t5 hs b16=>?_);have hfr:=hfr.stp hs;have lB:=lB.stp hs;refine Zg t5 rfl rfl (EL_nt (E_sr (Zn t5 rfl rfl (Zo bE rfl (EL_d0 rfl (D_copyM (g:=eF) (α:=Int) Tryz.underlying22 info_3 rfl b16 rfl lB fun rF kG hs b17=>?_))))));have hfr:=hfr.stp hs;refine Zg (Iz ((min (x0).length (zB).length:Nat):Int)) rfl rfl (EL_nt ?_);obtain ⟨aB,hx,h⟩:=bsome h;refine E_join (fun e w=>∃ (g:Gh) ,Fr gI wI g w∧e 7=t5∧OM 9030 g w 3 (aB:List Int) t5) (fun Q' hQ=>?_) (fun aG lG hR=>?_)
   ·replace h := hx
    clear hx;refine Zr (E_lp h (fun (s:(List Int) × Int) e w=>∃ (g:Gh) ,Fr gI wI g w∧e 7=t5∧OM 9030 g w 3 (s.1:List Int) t5∧e 8=Iz (s.2)) ⟨rF,hfr,rfl,b17,rfl⟩ (fun X30 oE yE=>?_));rintro ⟨l5,o0⟩ bG mG ⟨rE,hfr,mB,nB,lD⟩ h;refine Zq h (fun (s:Unit) e w=>∃ (g:Gh) ,Fr gI wI g w∧e 7=t5∧OM 9030 g w 3 (l5:List Int) t5∧e 8=Iz (o0)) (fun X33 k33 zE h=>?_) ?_
    ·refine E_sr (Zo lD rfl (Zo mB rfl (EL_p (Iz ((l5).length : Int)) (P_lenM Tryz.underlying22 rfl nB) rfl (EL_in (.bool ((decide (o0 < ((l5).length : Int))))) rfl rfl rfl rfl (EL_nt ?_)))))
     rcases Zt h with ⟨cD,h⟩ | ⟨cD,h⟩
     ·refine E_ct cD rfl ?_
      exact Zu (Zd (zE () _ _ ⟨rE,hfr,mB,nB,lD⟩ h))
     ·refine E_cf cD rfl (E_exit (thn_e (thn_e (blk_hit ?_))))
      obtain rfl:=sinj h;exact hQ _ _ ⟨rE,hfr,mB,nB⟩
    ·rintro _ cG sF ⟨uE, hfr, oB, n8, yB⟩ h
     refine Zr ?_;obtain ⟨l9,nD,h⟩:=bsome h;obtain ⟨y40,oD,h⟩:=bsome h;refine E_drawC (g:=uE) (w:=sF) (n:=8) [0,1,2,3,4,5,6] [] [0,1,2,3,4,5,6,7] rfl mixed (by kernel_rfl) fun w_c38 hs hlt=>?_;have hfr:=hfr.ext hs;have n8:=n8.ext hs;clear hs;refine CH_pur (c:=Iz (o0)) rfl rfl .plain (Zk yB) (CH_pur (c:=t5) rfl rfl .plain (Zk oB) (CH_pur (c:=Iz (o0)) rfl rfl .plain (Zk yB) (CH_pur (c:=(cutV t5 (Int.toNat o0) (Int.toNat ((l5).length:Int)) 1)) rfl rfl .plain (P_cutM (α:=Int) Tryz.underlying22 Tryz.sizeOf3 rfl (OM.hdr n8) rfl rfl nD) (CH_pur (c:=t5) rfl rfl .plain (Zk oB) (CH_pur (c:=Iz (o0)) rfl rfl .plain (Zk yB) (CH_pur (c:=(cutV t5 0 (Int.toNat o0) 1)) rfl rfl .plain (P_cutM (α:=Int) Tryz.underlying22 Tryz.sizeOf3 rfl (OM.hdr n8) rfl rfl oD) (CH_do rfl rfl .plain (D_copyMM (g:=uE) (α:=Int) Tryz.underlying22 info_3 rfl n8 rfl nD oD fun tF sG hs b41=>?_))))))));have hfr:=hfr.stp hs;have hlt:=hlt.stp hs;refine ⟨hlt.toW,?_⟩;refine CH_nil ?_;clear hlt;refine EL_p (Iz ((w64 (o0 + ((min (y40).length (l9).length:Nat):Int))))) (P_int rfl rfl rfl) rfl (EL_p (Iz ((w64 (o0 + ((min (y40).length (l9).length:Nat):Int))))) (P_assign rfl) rfl ?_);exact Zb (blk_n (Zd (yE ((cpy l5 o0 l9 y40),(w64 (o0 + ((min (y40).length (l9).length:Nat):Int)))) _ _ ⟨tF,hfr,oB,b41,rfl⟩ h)))
   ·clear hx
    obtain ⟨xG,hfr,lE,mE⟩:=hR;refine E_sr (Zo lE rfl ?_);obtain ⟨gp43,hs,rp43⟩:=OM.pub mE;have hfr:=hfr.stp hs;refine Zg t5 rfl rfl (EL_nt (E_ret ?_));obtain rfl:=sinj h;exact end1 rfl rfl (rq t5) ⟨_,hfr,rp43⟩
def f147 (x0:List Str):Option (Bool):=
 jn (σ:=Unit) (fun _=>
  some (true)
  ) fun k53=>
 lp (σ:=Int) (fun k54 o0=>
  jn (σ:=Unit) (fun _=>
   jn (σ:=Unit) (fun _=>
    k54 ((w64 (o0 - (1:Int))))
    ) fun uC=>
   (idx x0 o0).bind fun y84=>
   (idx x0 (w64 (o0 - (1:Int)))).bind fun l9=>
   (f178 y84 l9).bind fun n9=>
   bif n9 then
    some (false)
   else
    uC ()
   ) fun k57=>
  bif (decide (o0 > (0 : Int))) then
   k57 ()
  else
   k53 ()
  ) big ((w64 (((x0).length:Int) - (1:Int))))
theorem en147:Enters Tryz.prog 147:=enters_of Tryz.func147 (by kernel_rfl) rfl
theorem wk147 {gI:Gh} {wI:World} {x0:List Str} {up0:Value} (rp0:RV gI.m wI x0 up0) {r:Bool} (h:f147 x0=some r):Fn Tryz.prog 147 #[up0] gI wI (fun _ _ v=>v=.bool (r)):=by
 unfold f147 at h;refine fnE Tryz.func147 rfl rfl fun g0 hm hfr=>?_;have rp0:=RVc hm rp0;show E _ 21 none _ _ _ _ _;refine E_sr (Zg (.bool false) rfl rfl (EL_nt (Zq h (fun (s:Unit) e w=>∃ (g:Gh) ,Fr gI wI g w) (fun X53 k53 cD h=>?_) ?_)))
 ·refine E_sr (Zn up0 rfl rfl (EL_p (Iz ((x0).length : Int)) (P_len Tryz.underlying104 rfl rp0) rfl (EL_in (Iz ((w64 (((x0).length : Int) - (1 : Int))))) rfl rfl rfl rfl (Zg (Iz ((w64 (((x0).length : Int) - (1 : Int))))) rfl rfl (EL_nt (Zr (E_lp h (fun (s : Int) e w => ∃ (g : Gh) , Fr gI wI g w ∧ e 0 = up0 ∧ RV g.m w (x0 : List Str) up0 ∧ e 3 = Iz (s)) ⟨g0, hfr, rfl, rp0, rfl⟩ (fun X54 k54 lD => ?_))))))))
  rintro o0 yE rF ⟨bD,hfr,zB,cC,aB⟩ h;refine Zq h (fun (s:Unit) e w=>∃ (g:Gh) ,Fr gI wI g w∧e 0=up0∧RV g.m w (x0:List Str) up0∧e 3=Iz (o0)) (fun X57 k57 nD h=>?_) ?_
  ·refine E_sr (Zo aB rfl (EL_in (.bool ((decide (o0 > (0 : Int))))) rfl rfl rfl rfl (EL_nt ?_)))
   rcases Zt h with ⟨n8,h⟩ | ⟨n8,h⟩
   ·refine E_ct n8 rfl ?_
    exact Zu (Zd (nD () _ _ ⟨bD,hfr,zB,cC,aB⟩ h))
   ·refine E_cf n8 rfl (E_exit (thn_e (thn_e (blk_hit ?_))))
    exact Zd (cD () _ _ ⟨bD,hfr⟩ h)
  ·rintro _ zE sF ⟨iE, hfr, t5, l5, i6⟩ h
   refine Zq h (fun (s:Unit) e w=>∃ (g:Gh) ,Fr gI wI g w∧e 0=up0∧RV g.m w (x0:List Str) up0∧e 3=Iz (o0)) (fun X83 uC oD h=>?_) ?_
   ·refine Zr (Zf ?_)
    obtain ⟨y84,lB,h⟩:=bsome h;have lE:=PT_idx l5 lB;refine Zs (x:=.tmp 13) Tryz.isAgg9 Tryz.sizeOf9 lE fun tF mE yD=>?_;obtain rfl:=RV_str.1 mE;obtain ⟨l9,mB,h⟩:=bsome h;have oE:=PT_idx l5 mB;refine Zs (x:=.tmp 18) Tryz.isAgg9 Tryz.sizeOf9 oE fun uF rE zD=>?_;obtain rfl:=RV_str.1 rE;obtain ⟨n9,aE,h⟩:=bsome h;refine E_drawL (g:=iE) (n:=10) [(9,(fun v g w=>v=.bool (n9)))] [0,1,2,3,4,5,6,7,8,9] rfl mixed (by kernel_rfl) (⟨fun _=>up_eq _,trivial⟩) (L_p up0 rfl rfl (Zk t5) (L_p (Iz (o0)) rfl rfl (Zk i6) (L_p (ePtr up0 o0 1) rfl rfl (Zh (α:=Str) Tryz.underlying104 Tryz.sizeOf9 rfl l5 rfl lB) (L_ld (c:=Str.v (y84)) rfl rfl .plain (fun _ _ h=>h.ch) yD rfl (L_p up0 rfl rfl (Zk t5) (L_p (Iz (o0)) rfl rfl (Zk i6) (L_p (Iz ((w64 (o0 - (1:Int))))) rfl rfl (P_int rfl rfl rfl) (L_p (ePtr up0 (w64 (o0 - (1:Int))) 1) rfl rfl (Zh (α:=Str) Tryz.underlying104 Tryz.sizeOf9 rfl l5 rfl mB) (L_ld (c:=Str.v (l9)) rfl rfl .plain (fun _ _ h=>h.ch) zD rfl (L_do (φ:=fun v g w=>v=.bool (n9)) rfl rfl .plain (fun g w hd=>Zp (g:=g) (vs:=[Str.v (y84),Str.v (l9)]) en178 (.cons rfl (.cons rfl .nil)) (wk178  aE) fun g' w' v hs hr=>⟨g',hs,hr⟩) (fun vF hv=>?_)))))))))));obtain ⟨_,_,_,rfl⟩:=hv;refine L_nl fun uE xF hs=>?_;have hfr:=hfr.ext hs;have l5:=l5.ext hs;clear hs;refine EL_nt ?_;rcases Zt h with ⟨l8,h⟩ | ⟨l8,h⟩
    ·refine E_ct l8 rfl (E_sr (Zg (.bool false) rfl rfl (EL_nt (E_ret (blk_r (thn_r (thn_r (blk_r (thn_r ?_)))))))))
     obtain rfl:=sinj h;exact end1 rfl rfl (rq (.bool false)) ⟨_,hfr,rfl⟩
    ·refine E_cf l8 rfl ?_
     exact Zu (blk_n (Zd (oD () _ _ ⟨uE,hfr,t5,l5,i6⟩ h)))
   ·rintro _ vE cF ⟨bE, hfr, nB, oB, yB⟩ h
    refine Za (Zo yB rfl (EL_in (Iz ((w64 (o0 - (1:Int))))) rfl rfl rfl rfl (Zg (Iz ((w64 (o0 - (1:Int))))) rfl rfl ?_)));exact EL_nt (lD ((w64 (o0 - (1:Int)))) _ _ ⟨bE,hfr,nB,oB,rfl⟩ h)
 ·rintro _ xE dF ⟨eF, hfr⟩ h
  refine E_sr (Zg (.bool true) rfl rfl (EL_nt (E_ret ?_)));obtain rfl:=sinj h;exact end1 rfl rfl (rq (.bool true)) ⟨_,hfr,rfl⟩
def f167 (x0:Design):Option (Int):=
 jn (σ:=Unit) (fun _=>
  some ((0:Int))
  ) fun l9=>
 (f200 ((1:Int)) ((24:Int)) (([(x0).Hooks]:List Int))).bind fun y56=>
 bif (!y56) then
  some ((2:Int))
 else
  bif (decide ((((x0).Rows).length : Int) > (60 : Int))) then
   some ((5:Int))
  else
   bif ((((x0).Rows).length : Int) == (0 : Int)) then
    some ((7:Int))
   else
    (shl64 (1:Int) (x0).Hooks).bind fun l5=>
    (f200 ((0:Int)) ((w64 (l5 - (1:Int)))) ((x0).Rows)).bind fun y71=>
    bif (!y71) then
     some ((2:Int))
    else
     l9 ()
theorem en167:Enters Tryz.prog 167:=enters_of Tryz.func167 (by kernel_rfl) rfl
theorem wk167 {gI:Gh} {wI:World} {x0:Design} {up0:Value} (rp0:RV gI.m wI x0 up0) {r:Int} (h:f167 x0=some r):Fn Tryz.prog 167 #[up0] gI wI (fun _ _ v=>v=Iz (r)):=by
 unfold f167 at h;refine fnE Tryz.func167 rfl rfl fun g0 hm hfr=>?_;have rp0:=RVc hm rp0;show E _ 28 none _ _ _ _ _;refine E_sr (EL_d0 rfl (D_box (g:=g0) rfl rp0 fun g1 w1 p1 hs q1=>?_));have hfr:=hfr.ext hs;refine Zg (Iz (0)) rfl rfl (EL_nt (Zq h (fun (s:Unit) e w=>∃ (g:Gh) ,Fr gI wI g w) (fun X51 l9 aB h=>?_) ?_))
 ·refine Zr (E_sr (EL_p (fPtr p1 0) (Zc at_24_0 rfl (PT.ptr q1)) rfl ?_))
  have zB:=Zm (part_Design_0).1 q1;refine EL_d0 rfl (D_load (g:=g1) Tryz.isAgg3 Tryz.sizeOf3 rfl zB fun vE cC=>?_);obtain rfl:=Zj.1 cC;refine EL_d0 rfl (D_buildSlice (g:=g1) 3006 (xs:=([(x0).Hooks]:List Int)) (vs:=[Iz ((x0).Hooks)]) Tryz.underlying22 Tryz.sizeOf3 Tryz.zeroValue3 rfl rfl (.cons rfl .nil) (RVs.cons (Zj.2 rfl) RVs.nil) rfl rfl fun uC xE bD hs o54 cD hxt hfl=>?_);have hfr:=hfr.stp hs;have q1:=q1.stp hs;obtain ⟨y56,lB,h⟩:=bsome h;refine EL_d0 rfl (Zp (g:=uC) (vs:=[Iz (1),Iz (24),bD]) en200 (.cons rfl (.cons rfl (.cons rfl .nil))) (wk200 cD lB) fun n8 oE yE hs hr=>?_);have hfr:=hfr.ext hs;have q1:=q1.ext hs;subst hr;refine EL_p (.bool (!y56)) (P_not rfl) rfl (Zg (.bool (!y56)) rfl rfl (EL_nt ?_));rcases Zt h with ⟨t5,h⟩ | ⟨t5,h⟩
  ·refine E_ct t5 rfl (E_sr (Zg (Iz (2)) rfl rfl (EL_nt (E_ret (blk_r (thn_r ?_))))))
   obtain rfl:=sinj h;exact end1 rfl rfl (rq (Iz (2))) ⟨_,hfr,rfl⟩
  ·refine E_cf t5 rfl (E_sr (EL_p (fPtr p1 1) (Zc at_24_1 rfl (PT.ptr q1)) rfl ?_))
   have lD:=Zm (part_Design_1).1 q1;refine EL_d0 rfl (D_load (g:=n8) Tryz.isAgg22 Tryz.sizeOf22 rfl lD fun zE nD=>(EL_p (Iz (((x0).Rows).length:Int)) (P_len Tryz.underlying22 rfl nD) rfl (EL_p (.bool ((decide ((((x0).Rows).length:Int) > (60:Int))))) (P_int rfl rfl rfl) rfl (EL_p (.bool ((decide ((((x0).Rows).length:Int) > (60:Int))))) (P_assign rfl) rfl (EL_nt ?_)))));rcases Zt h with ⟨i6,h⟩ | ⟨i6,h⟩
   ·refine E_ct i6 rfl (E_sr (Zg (Iz (5)) rfl rfl (EL_nt (E_ret (blk_r (thn_r ?_))))))
    obtain rfl:=sinj h;exact end1 rfl rfl (rq (Iz (5))) ⟨_,hfr,rfl⟩
   ·refine E_cf i6 rfl (E_sr (EL_p (fPtr p1 1) (Zc at_24_1 rfl (PT.ptr q1)) rfl ?_))
    have oD:=Zm (part_Design_1).1 q1;refine EL_d0 rfl (D_load (g:=n8) Tryz.isAgg22 Tryz.sizeOf22 rfl oD fun v62 yD=>(EL_p (Iz (((x0).Rows).length:Int)) (P_len Tryz.underlying22 rfl yD) rfl (EL_in (.bool (((((x0).Rows).length:Int) == (0:Int)))) rfl rfl rfl rfl (Zg (.bool (((((x0).Rows).length:Int) == (0:Int)))) rfl rfl (EL_nt ?_)))));rcases Zt h with ⟨l8,h⟩ | ⟨l8,h⟩
    ·refine E_ct l8 rfl (E_sr (Zg (Iz (7)) rfl rfl (EL_nt (E_ret (blk_r (thn_r ?_))))))
     obtain rfl:=sinj h;exact end1 rfl rfl (rq (Iz (7))) ⟨_,hfr,rfl⟩
    ·refine E_cf l8 rfl (Zf ?_)
     have zD:=Zm (part_Design_0).1 q1;refine Zs (x:=.tmp 20) Tryz.isAgg3 Tryz.sizeOf3 zD fun cF aE mB=>?_;obtain rfl:=Zj.1 aE;obtain ⟨l5,nB,h⟩:=bsome h;have bE:=Zm (part_Design_1).1 q1;refine Zs (x:=.tmp 24) Tryz.isAgg22 Tryz.sizeOf22 bE fun n9 iE oB=>?_;obtain ⟨y71,yB,h⟩:=bsome h;refine E_drawL (g:=n8) (n:=9) [(6,(fun v g w=>v=.bool (y71)))] [0,1,2,3,4,5,6,7,8] rfl mixed (by kernel_rfl) (⟨fun _=>up_eq _,trivial⟩) (L_p (fPtr p1 0) rfl rfl (Zc at_24_0 rfl (PT.ptr q1)) (L_ld (c:=Iz ((x0).Hooks)) rfl rfl .plain (fun _ _ h=>h.ch) mB rfl (L_p (Iz (l5)) rfl rfl (P_int rfl rfl (congrArg (Option.map (Value.int .i64)) nB)) (L_p (Iz ((w64 (l5 - (1:Int))))) rfl rfl (P_int rfl rfl rfl) (L_p (fPtr p1 1) rfl rfl (Zc at_24_1 rfl (PT.ptr q1)) (L_ld (c:=n9) rfl rfl .plain (fun _ _ h=>h.ch) oB rfl (L_do (φ:=fun v g w=>v=.bool (y71)) rfl rfl .plain (fun g w hd=>Zp (g:=g) (vs:=[Iz (0),Iz ((w64 (l5 - (1:Int)))),n9]) en200 (.cons rfl (.cons rfl (.cons rfl .nil))) (wk200 (iE.ext hd.1) yB) fun g' w' v hs hr=>⟨g',hs,hr⟩) (fun dF hv=>?_))))))));obtain ⟨_,_,_,rfl⟩:=hv;refine L_p (.bool (!y71)) rfl rfl (P_not rfl) (L_p (.bool (!y71)) rfl rfl (P_assign rfl) (L_nl fun lE eF hs=>?_));have hfr:=hfr.ext hs;clear hs;refine EL_nt ?_;rcases Zt h with ⟨o0,h⟩ | ⟨o0,h⟩
     ·refine E_ct o0 rfl (E_sr (Zg (Iz (2)) rfl rfl (EL_nt (E_ret (blk_r (thn_r ?_))))))
      obtain rfl:=sinj h;exact end1 rfl rfl (rq (Iz (2))) ⟨_,hfr,rfl⟩
     ·refine E_cf o0 rfl ?_
      exact Zu (blk_n (Zd (aB () _ _ ⟨lE,hfr⟩ h)))
 ·rintro _ mE rE ⟨uE, hfr⟩ h
  refine E_sr (Zg (Iz (0)) rfl rfl (EL_nt (E_ret ?_)));obtain rfl:=sinj h;exact end1 rfl rfl (rq (Iz (0))) ⟨_,hfr,rfl⟩
def f176 (x0:Str) (x1:I32→Option Bool):Option (Bool):=
 (f210 x0 x1).bind fun y2=>
 some ((decide (y2 ≥ (0:Int))))
theorem en176:Enters Tryz.prog 176:=enters_of Tryz.func176 (by kernel_rfl) rfl
theorem wk176 {gI:Gh} {wI:World} {x0:Str} {x1:I32→Option Bool} {up1:Value} (rp1:FnV1 Tryz.prog x1 up1 gI wI) {r:Bool} (h:f176 x0 x1=some r):Fn Tryz.prog 176 #[Str.v (x0),up1] gI wI (fun _ _ v=>v=.bool (r)):=by
 unfold f176 at h;refine fnE Tryz.func176 rfl rfl fun g0 hm hfr=>?_;obtain ⟨ff1,fa1,fc1,rfl,fen1,fcl1⟩:=rp1;show E _ 9 none _ _ _ _ _;refine E_sr (Zg (.bool false) rfl rfl (EL_nt (E_sr (Zn (Str.v (x0)) rfl rfl (Zn ((.func (.func ff1) fa1 fc1)) rfl rfl ?_)))));obtain ⟨y2,hy2,h⟩:=bsome h;refine EL_d0 rfl (Zp (g:=g0) (vs:=[Str.v (x0),(.func (.func ff1) fa1 fc1)]) en210 (.cons rfl (.cons rfl .nil)) (wk210 (FnV1.ch ⟨_,_,_,rfl,fen1,fcl1⟩ hfr.ch) hy2) fun g1 w1_ v1 hs hr=>?_);have hfr:=hfr.ext hs;subst hr;refine EL_in (.bool ((decide (y2 ≥ (0:Int))))) rfl rfl rfl rfl (Zg (.bool ((decide (y2 ≥ (0:Int))))) rfl rfl (EL_nt (E_ret ?_)));obtain rfl:=sinj h;exact end1 rfl rfl (rq (.bool ((decide (y2 ≥ (0:Int)))))) ⟨_,hfr,rfl⟩
def f197 (x0:Int) (x1:Int):Option (Int):=
 (f227 ((⟨(wu64 x1)⟩:U64))).bind fun y2=>
 (shr64 ((y2).n) (wu64 (((64:Int)) - ((wu64 x0))))).bind fun y3=>
 some ((w64 y3))
theorem en197:Enters Tryz.prog 197:=enters_of Tryz.func197 (by kernel_rfl) rfl
theorem wk197 {gI:Gh} {wI:World} {x0:Int} {x1:Int}  {r:Int} (h:f197 x0 x1=some r):Fn Tryz.prog 197 #[Iz (x0),Iz (x1)] gI wI (fun _ _ v=>v=Iz (r)):=by
 unfold f197 at h;refine fnE Tryz.func197 rfl rfl fun g0 hm hfr=>?_;show E _ 13 none _ _ _ _ _;refine E_sr (Zg (Iz (0)) rfl rfl (EL_nt (E_sr (Zn (Iz (x1)) rfl rfl (EL_p (.int .u64 (wu64 x1)) (P_intu64 Tryz.underlying3 Tryz.underlying259 rfl) rfl ?_)))));obtain ⟨y2,hy2,h⟩:=bsome h;refine EL_d0 rfl (Zp (g:=g0) (vs:=[.int .u64 (wu64 x1)]) en227 (.cons rfl .nil) (wk227  hy2) fun g1 w1_ v1 hs hr=>?_);have hfr:=hfr.ext hs;subst hr;refine Zn (Iz (x0)) rfl rfl (EL_p (.int .u64 (wu64 x0)) (P_intu64 Tryz.underlying218 Tryz.underlying97 rfl) rfl (EL_p (.int .u64 (wu64 (((64:Int)) - ((wu64 x0))))) (P_usub rfl rfl) rfl ?_));obtain ⟨y3,hy3,h⟩:=bsome h;refine EL_p (.int .u64 (y3)) (P_shrU rfl rfl hy3) rfl (EL_p (Iz ((w64 y3))) (P_u64int Tryz.underlying259 Tryz.underlying3 rfl) rfl (Zg (Iz ((w64 y3))) rfl rfl (EL_nt (E_ret ?_))));obtain rfl:=sinj h;exact end1 rfl rfl (rq (Iz ((w64 y3)))) ⟨_,hfr,rfl⟩
def f207 (x0:ChainCard) (z0:Int):Option (Bool):=
 Option.bind (α:=Bool) (
  (f163 ((-1:Int)) ((59:Int)) (([(x0).Number]:List Int))).bind fun t5=>
  bif (!t5) then
   some (true)
  else
   (f208 z0 (([(x0).Row]:List Int))).bind fun i6=>
   some ((!i6))
  ) fun l5=>
 some (l5)
theorem en207:Enters Tryz.prog 207:=enters_of Tryz.func207 (by kernel_rfl) rfl
theorem wk207 {gI:Gh} {wI:World} {x0:ChainCard} {z0:Int} {up0:Value} (rp0:RV gI.m wI x0 up0) {pf0:Value} (qf0:PT gI.m wI z0 pf0) {r:Bool} (h:f207 x0 z0=some r):Fn Tryz.prog 207 #[up0,pf0] gI wI (fun _ _ v=>v=.bool (r)):=by
 unfold f207 at h;refine fnE Tryz.func207 rfl rfl fun g0 hm hfr=>?_;have qf0:PT g0.m wI z0 pf0:=hm ▸ qf0;have rp0:=RVc hm rp0;show E _ 17 none _ _ _ _ _;refine E_sr (EL_d0 rfl (D_box (g:=g0) rfl rp0 fun g1 w1 p1 hs q1=>?_));have hfr:=hfr.ext hs;have qf0:=qf0.ext hs;refine Zg (.bool false) rfl rfl (EL_nt ?_);obtain ⟨l5,hx,h⟩:=bsome h;refine E_join (fun e w=>∃ (g:Gh) ,Fr gI wI g w∧e 3=.bool (l5)) (fun Q' hQ=>?_) (fun nD zD hR=>?_)
 ·replace h := hx
  clear hx;refine Za (EL_p (fPtr p1 0) (Zc at_96_0 rfl (PT.ptr q1)) rfl ?_);have aB:=Zm (part_ChainCard_0).1 q1;refine EL_d0 rfl (D_load (g:=g1) Tryz.isAgg3 Tryz.sizeOf3 rfl aB fun aE lB=>?_);obtain rfl:=Zj.1 lB;refine EL_d0 rfl (D_buildSlice (g:=g1) 3006 (xs:=([(x0).Number]:List Int)) (vs:=[Iz ((x0).Number)]) Tryz.underlying22 Tryz.sizeOf3 Tryz.zeroValue3 rfl rfl (.cons rfl .nil) (RVs.cons (Zj.2 rfl) RVs.nil) rfl rfl fun mB bE nB hs o16 oB hxt hfl=>?_);have hfr:=hfr.stp hs;have qf0:=qf0.stp hs;have q1:=q1.stp hs;obtain ⟨t5,l9,h⟩:=bsome h;refine EL_d0 rfl (Zp (g:=mB) (vs:=[Iz (-1),Iz (59),nB]) en163 (.cons rfl (.cons rfl (.cons rfl .nil))) (wk163 oB l9) fun l8 oD iE hs hr=>?_);have hfr:=hfr.ext hs;have qf0:=qf0.ext hs;have q1:=q1.ext hs;subst hr;refine EL_p (.bool (!t5)) (P_not rfl) rfl (Zn (.bool (!t5)) rfl rfl ?_);rcases Zt h with ⟨o0,h⟩ | ⟨o0,h⟩
  ·refine EL_s rfl rfl o0 rfl rfl ?_
   iterate 5 refine EL_s rfl rfl o0 rfl rfl ?_
   refine EL_p (.bool true) (Zl (b:=(!t5)) rfl (pick_t o0 rfl)) rfl (Zg (.bool true) rfl rfl (Zb ?_));obtain rfl:=sinj h;exact hQ _ _ ⟨l8,hfr,rfl⟩
  ·refine Ze (.yes2 rfl rfl o0) rfl (D_load (g := l8) Tryz.isAgg218 Tryz.sizeOf218 rfl qf0 fun lE yB => ?_)
   obtain rfl:=Zj.1 yB;refine EL_y (fPtr p1 1) (Zc at_96_1 rfl (PT.ptr q1)) rfl rfl o0 rfl ?_;have zB:=Zm (part_ChainCard_1).1 q1;refine Ze (.yes2 rfl rfl o0) rfl (D_load (g:=l8) Tryz.isAgg3 Tryz.sizeOf3 rfl zB fun mE cC=>?_);obtain rfl:=Zj.1 cC;refine Ze (.yes2 rfl rfl o0) rfl (D_buildSlice (g:=l8) 3013 (xs:=([(x0).Row]:List Int)) (vs:=[Iz ((x0).Row)]) Tryz.underlying22 Tryz.sizeOf3 Tryz.zeroValue3 rfl rfl (.cons rfl .nil) (RVs.cons (Zj.2 rfl) RVs.nil) rfl rfl fun uC oE bD hs o23 cD hxt hfl=>?_);have hfr:=hfr.stp hs;obtain ⟨i6,n9,h⟩:=bsome h;refine Ze (.yes2 rfl rfl o0) rfl (Zp (g:=uC) (vs:=[Iz (z0),bD]) en208 (.cons rfl (.cons rfl .nil)) (wk208 cD n9) fun lD yD rE hs hr=>?_);have hfr:=hfr.ext hs;subst hr;refine EL_y (.bool (!i6)) (P_not rfl) rfl rfl o0 rfl (EL_p (.bool (!i6)) (Zl (b:=(!t5)) rfl (pick_f o0 rfl)) rfl (Zg (.bool (!i6)) rfl rfl (Zb ?_)));obtain rfl:=sinj h;exact hQ _ _ ⟨lD,hfr,rfl⟩
 ·clear hx
  obtain ⟨uE,hfr,n8⟩:=hR;refine E_ret ?_;obtain rfl:=sinj h;exact end1 rfl rfl (show _=.bool (l5) from n8) ⟨_,hfr,rfl⟩
def f54 (x0:Design):Option (Int):=
 jn (σ:=Unit) (fun _=>
  some ((0:Int))
  ) fun l9=>
 (f100 ((1:Int)) ((24:Int)) (([(x0).Hooks]:List Int))).bind fun y56=>
 bif (!y56) then
  some ((2:Int))
 else
  bif (decide ((((x0).Rows).length : Int) > (60 : Int))) then
   some ((5:Int))
  else
   bif ((((x0).Rows).length : Int) == (0 : Int)) then
    some ((7:Int))
   else
    (shl64 (1:Int) (x0).Hooks).bind fun l5=>
    (f100 ((0:Int)) ((w64 (l5 - (1:Int)))) ((x0).Rows)).bind fun y71=>
    bif (!y71) then
     some ((2:Int))
    else
     l9 ()
theorem en54:Enters Tryz.prog 54:=enters_of Tryz.func54 (by kernel_rfl) rfl
theorem wk54 {gI:Gh} {wI:World} {x0:Design} {up0:Value} (rp0:RV gI.m wI x0 up0) {r:Int} (h:f54 x0=some r):Fn Tryz.prog 54 #[up0] gI wI (fun _ _ v=>v=Iz (r)):=by
 unfold f54 at h;refine fnE Tryz.func54 rfl rfl fun g0 hm hfr=>?_;have rp0:=RVc hm rp0;show E _ 28 none _ _ _ _ _;refine E_sr (EL_d0 rfl (D_box (g:=g0) rfl rp0 fun g1 w1 p1 hs q1=>?_));have hfr:=hfr.ext hs;refine Zg (Iz (0)) rfl rfl (EL_nt (Zq h (fun (s:Unit) e w=>∃ (g:Gh) ,Fr gI wI g w) (fun X51 l9 aB h=>?_) ?_))
 ·refine Zr (E_sr (EL_p (fPtr p1 0) (Zc at_24_0 rfl (PT.ptr q1)) rfl ?_))
  have zB:=Zm (part_Design_0).1 q1;refine EL_d0 rfl (D_load (g:=g1) Tryz.isAgg3 Tryz.sizeOf3 rfl zB fun vE cC=>?_);obtain rfl:=Zj.1 cC;refine EL_d0 rfl (D_buildSlice (g:=g1) 3006 (xs:=([(x0).Hooks]:List Int)) (vs:=[Iz ((x0).Hooks)]) Tryz.underlying22 Tryz.sizeOf3 Tryz.zeroValue3 rfl rfl (.cons rfl .nil) (RVs.cons (Zj.2 rfl) RVs.nil) rfl rfl fun uC xE bD hs o54 cD hxt hfl=>?_);have hfr:=hfr.stp hs;have q1:=q1.stp hs;obtain ⟨y56,lB,h⟩:=bsome h;refine EL_d0 rfl (Zp (g:=uC) (vs:=[Iz (1),Iz (24),bD]) en100 (.cons rfl (.cons rfl (.cons rfl .nil))) (wk100 cD lB) fun n8 oE yE hs hr=>?_);have hfr:=hfr.ext hs;have q1:=q1.ext hs;subst hr;refine EL_p (.bool (!y56)) (P_not rfl) rfl (Zg (.bool (!y56)) rfl rfl (EL_nt ?_));rcases Zt h with ⟨t5,h⟩ | ⟨t5,h⟩
  ·refine E_ct t5 rfl (E_sr (Zg (Iz (2)) rfl rfl (EL_nt (E_ret (blk_r (thn_r ?_))))))
   obtain rfl:=sinj h;exact end1 rfl rfl (rq (Iz (2))) ⟨_,hfr,rfl⟩
  ·refine E_cf t5 rfl (E_sr (EL_p (fPtr p1 1) (Zc at_24_1 rfl (PT.ptr q1)) rfl ?_))
   have lD:=Zm (part_Design_1).1 q1;refine EL_d0 rfl (D_load (g:=n8) Tryz.isAgg22 Tryz.sizeOf22 rfl lD fun zE nD=>(EL_p (Iz (((x0).Rows).length:Int)) (P_len Tryz.underlying22 rfl nD) rfl (EL_p (.bool ((decide ((((x0).Rows).length:Int) > (60:Int))))) (P_int rfl rfl rfl) rfl (EL_p (.bool ((decide ((((x0).Rows).length:Int) > (60:Int))))) (P_assign rfl) rfl (EL_nt ?_)))));rcases Zt h with ⟨i6,h⟩ | ⟨i6,h⟩
   ·refine E_ct i6 rfl (E_sr (Zg (Iz (5)) rfl rfl (EL_nt (E_ret (blk_r (thn_r ?_))))))
    obtain rfl:=sinj h;exact end1 rfl rfl (rq (Iz (5))) ⟨_,hfr,rfl⟩
   ·refine E_cf i6 rfl (E_sr (EL_p (fPtr p1 1) (Zc at_24_1 rfl (PT.ptr q1)) rfl ?_))
    have oD:=Zm (part_Design_1).1 q1;refine EL_d0 rfl (D_load (g:=n8) Tryz.isAgg22 Tryz.sizeOf22 rfl oD fun v62 yD=>(EL_p (Iz (((x0).Rows).length:Int)) (P_len Tryz.underlying22 rfl yD) rfl (EL_in (.bool (((((x0).Rows).length:Int) == (0:Int)))) rfl rfl rfl rfl (Zg (.bool (((((x0).Rows).length:Int) == (0:Int)))) rfl rfl (EL_nt ?_)))));rcases Zt h with ⟨l8,h⟩ | ⟨l8,h⟩
    ·refine E_ct l8 rfl (E_sr (Zg (Iz (7)) rfl rfl (EL_nt (E_ret (blk_r (thn_r ?_))))))
     obtain rfl:=sinj h;exact end1 rfl rfl (rq (Iz (7))) ⟨_,hfr,rfl⟩
    ·refine E_cf l8 rfl (Zf ?_)
     have zD:=Zm (part_Design_0).1 q1;refine Zs (x:=.tmp 20) Tryz.isAgg3 Tryz.sizeOf3 zD fun cF aE mB=>?_;obtain rfl:=Zj.1 aE;obtain ⟨l5,nB,h⟩:=bsome h;have bE:=Zm (part_Design_1).1 q1;refine Zs (x:=.tmp 24) Tryz.isAgg22 Tryz.sizeOf22 bE fun n9 iE oB=>?_;obtain ⟨y71,yB,h⟩:=bsome h;refine E_drawL (g:=n8) (n:=9) [(6,(fun v g w=>v=.bool (y71)))] [0,1,2,3,4,5,6,7,8] rfl mixed (by kernel_rfl) (⟨fun _=>up_eq _,trivial⟩) (L_p (fPtr p1 0) rfl rfl (Zc at_24_0 rfl (PT.ptr q1)) (L_ld (c:=Iz ((x0).Hooks)) rfl rfl .plain (fun _ _ h=>h.ch) mB rfl (L_p (Iz (l5)) rfl rfl (P_int rfl rfl (congrArg (Option.map (Value.int .i64)) nB)) (L_p (Iz ((w64 (l5 - (1:Int))))) rfl rfl (P_int rfl rfl rfl) (L_p (fPtr p1 1) rfl rfl (Zc at_24_1 rfl (PT.ptr q1)) (L_ld (c:=n9) rfl rfl .plain (fun _ _ h=>h.ch) oB rfl (L_do (φ:=fun v g w=>v=.bool (y71)) rfl rfl .plain (fun g w hd=>Zp (g:=g) (vs:=[Iz (0),Iz ((w64 (l5 - (1:Int)))),n9]) en100 (.cons rfl (.cons rfl (.cons rfl .nil))) (wk100 (iE.ext hd.1) yB) fun g' w' v hs hr=>⟨g',hs,hr⟩) (fun dF hv=>?_))))))));obtain ⟨_,_,_,rfl⟩:=hv;refine L_p (.bool (!y71)) rfl rfl (P_not rfl) (L_p (.bool (!y71)) rfl rfl (P_assign rfl) (L_nl fun lE eF hs=>?_));have hfr:=hfr.ext hs;clear hs;refine EL_nt ?_;rcases Zt h with ⟨o0,h⟩ | ⟨o0,h⟩
     ·refine E_ct o0 rfl (E_sr (Zg (Iz (2)) rfl rfl (EL_nt (E_ret (blk_r (thn_r ?_))))))
      obtain rfl:=sinj h;exact end1 rfl rfl (rq (Iz (2))) ⟨_,hfr,rfl⟩
     ·refine E_cf o0 rfl ?_
      exact Zu (blk_n (Zd (aB () _ _ ⟨lE,hfr⟩ h)))
 ·rintro _ mE rE ⟨uE, hfr⟩ h
  refine E_sr (Zg (Iz (0)) rfl rfl (EL_nt (E_ret ?_)));obtain rfl:=sinj h;exact end1 rfl rfl (rq (Iz (0))) ⟨_,hfr,rfl⟩
def f63 (x0:Str):Option (Int × Bool):=
 jn (σ:=Int) (fun t5=>
  (f100 ((1:Int)) ((24:Int)) (([((x0).b.length:Int)]:List Int))).bind fun mB=>
  some (t5,mB)
  ) fun k8=>
 lp (σ:=Int × Nat) (fun oB (l5,o0)=>
  bif (decide (o0 < (x0).b.length)) then
   bif ((dec x0 o0).1 == (120 : Int)) then
    (shl64 (1:Int) (min64 ((o0:Nat):Int) (24:Int))).bind fun l8=>
    oB ((bit64 .or l5 l8),(o0 + (dec x0 o0).2))
   else
    bif ((dec x0 o0).1 == (46 : Int)) then
     oB (l5,(o0 + (dec x0 o0).2))
    else
     some ((0:Int),false)
  else
   k8 (l5)
  ) big ((0:Int),0)
theorem en63:Enters Tryz.prog 63:=enters_of Tryz.func63 (by kernel_rfl) rfl
theorem wk63 {gI:Gh} {wI:World} {x0:Str}  {r:Int × Bool} (h:f63 x0=some r):Fn Tryz.prog 63 #[Str.v (x0)] gI wI (fun m w v=>∃ y0 y1,v=.tuple #[y0,y1]∧y0=Iz (r.1)∧y1=.bool (r.2)):=by
 unfold f63 at h;refine fnE Tryz.func63 rfl rfl fun g0 hm hfr=>?_;show E _ 27 none _ _ _ _ _;refine E_sr (Zg (Iz (0)) rfl rfl (Zg (.bool false) rfl rfl (EL_nt (Zq h (fun (s:Int) e w=>∃ (g:Gh) ,Fr gI wI g w∧e 0=Str.v (x0)∧e 2=Iz (s)) (fun X8 k8 lD h=>?_) ?_))))
 ·refine E_sr (Zn (Str.v (x0)) rfl rfl (EL_d0 rfl (D_rangeS (g := g0) (s := x0) 7007 Tryz.underlying9 rfl fun g9 w9 p9 hs b9 => ?_)))
  have hfr:=hfr.stp hs;refine EL_nt (Zr (E_lp h (fun (s:Int × Nat) e w=>∃ (g:Gh) ,Fr gI wI g w∧e 0=Str.v (x0)∧e 2=Iz (s.1)∧e 7=p9∧SI 7007 g w (x0) (s.2) p9) ⟨g9,hfr,rfl,rfl,rfl,b9⟩ (fun X10 oB yB=>?_)));rintro ⟨l5,o0⟩ aE w11 ⟨g11,hfr,n8,l9,i6,nB⟩ h;refine E_sr ?_;rcases Zt h with ⟨n9,h⟩ | ⟨n9,h⟩
  ·refine EL_d0 rfl (D_nextS_t (g := g11) i6 nB n9 fun uC lE hs b12 => ?_)
   have hfr:=hfr.stp hs;refine EL_p (.bool true) (Zi rfl rfl) rfl (EL_nt (Zf (E_cond_true (by rw [show ev _ _=_ from rfl]; exact congrArg Value.bool rfl) (Zu (Zd (Zr (E_sr (EL_p (Iz ((o0:Nat):Int)) (Zi rfl rfl) rfl (EL_p (.int .i32 (dec x0 o0).1) (Zi rfl rfl) rfl (Zg (Iz ((o0:Nat):Int)) rfl rfl (Zg (.int .i32 (dec x0 o0).1) rfl rfl (EL_nt (E_sr (Zn (.int .i32 (dec x0 o0).1) rfl rfl (EL_nt (Zr (E_sr (EL_p (.bool ((dec x0 o0).1 == (120:Int))) (P_i32cmp rfl rfl rfl) rfl (Zg (.bool ((dec x0 o0).1 == (120:Int))) rfl rfl (EL_nt ?_))))))))))))))))))));rcases Zt h with ⟨aB,h⟩ | ⟨aB,h⟩
   ·refine E_ct aB rfl (Za (Zo l9 rfl (Zn (Iz ((o0 : Nat) : Int)) rfl rfl (EL_p (Iz (min64 ((o0 : Nat) : Int) (24 : Int))) (P_min rfl rfl) rfl ?_))))
    obtain ⟨l8,bD,h⟩:=bsome h;refine EL_p (Iz (l8)) (P_int rfl rfl (congrArg (Option.map (Value.int .i64)) bD)) rfl (EL_in (Iz ((bit64 .or l5 l8))) rfl rfl rfl rfl (Zg (Iz ((bit64 .or l5 l8))) rfl rfl ?_));exact Zb (blk_n (blk_n (Zd (yB ((bit64 .or l5 l8),(o0 + (dec x0 o0).2)) _ _ ⟨uC,hfr,n8,rfl,i6,b12⟩ h))))
   ·refine E_cf aB rfl (E_sr (EL_p (.bool ((dec x0 o0).1 == (46 : Int))) (P_i32cmp rfl rfl rfl) rfl (Zg (.bool ((dec x0 o0).1 == (46 : Int))) rfl rfl (EL_nt ?_))))
    rcases Zt h with ⟨lB,h⟩ | ⟨lB,h⟩
    ·refine E_ct lB rfl ?_
     exact Zu (blk_n (blk_n (Zd (yB (l5,(o0 + (dec x0 o0).2)) _ _ ⟨uC,hfr,n8,l9,i6,b12⟩ h))))
    ·refine E_cf lB rfl (E_sr (Zg (Iz (0)) rfl rfl (Zg (.bool false) rfl rfl (EL_nt (E_ret (blk_r (blk_r (thn_r (blk_r (thn_r ?_))))))))))
     obtain rfl:=sinj h;exact end2 rfl rfl (rq (Iz (0))) (rq (.bool false)) ⟨_,hfr,_,_,rfl,rfl,rfl⟩
  ·refine EL_d0 rfl (D_nextS_f (g := g11) i6 nB n9 (EL_p (.bool false) (Zi rfl rfl) rfl (EL_nt (Zf (E_cond_false (by rw [show ev _ _ = _ from rfl]; exact congrArg Value.bool rfl) (E_exit (thn_e (thn_e (blk_hit ?_)))))))))
   exact Zd (lD (l5) _ _ ⟨g11,hfr,n8,l9⟩ h)
 ·rintro t5 bE mE ⟨nD, hfr, zB, cC⟩ h
  refine E_sr (Zo cC rfl (Zo zB rfl (EL_p (Iz ((x0).b.length:Int)) (P_lenS Tryz.underlying9 rfl) rfl (EL_d0 rfl (D_buildSlice (g:=nD) 3025 (xs:=([((x0).b.length:Int)]:List Int)) (vs:=[Iz ((x0).b.length:Int)]) Tryz.underlying22 Tryz.sizeOf3 Tryz.zeroValue3 rfl rfl (.cons rfl .nil) (RVs.cons (Zj.2 rfl) RVs.nil) rfl rfl fun oD oE yD hs o17 zD hxt hfl=>?_)))));have hfr:=hfr.stp hs;obtain ⟨mB,cD,h⟩:=bsome h;refine EL_d0 rfl (Zp (g:=oD) (vs:=[Iz (1),Iz (24),yD]) en100 (.cons rfl (.cons rfl (.cons rfl .nil))) (wk100 zD cD) fun rE iE uE hs hr=>?_);have hfr:=hfr.ext hs;subst hr;refine Zg (Iz (t5)) rfl rfl (Zg (.bool (mB)) rfl rfl (EL_nt (E_ret ?_)));obtain rfl:=sinj h;exact end2 rfl rfl (rq (Iz (t5))) (rq (.bool (mB))) ⟨_,hfr,_,_,rfl,rfl,rfl⟩
def f88 (x0:BookCloth):Option (Bool):=
 Option.bind (α:=Bool) (
  (f100 ((0:Int)) ((65535:Int)) (([(x0).Day]:List Int))).bind fun l9=>
  bif l9 then
   (f100 ((0:Int)) ((15:Int)) (([(x0).Loom]:List Int))).bind fun l8=>
   bif l8 then
    (f100 ((0:Int)) ((7:Int)) (([(x0).Chain,(x0).Tie]:List Int))).bind fun n8=>
    bif n8 then
     (f100 ((1:Int)) ((60:Int)) (([(x0).Picks]:List Int))).bind fun n9=>
     some (n9)
    else
     some (false)
   else
    some (false)
  else
   some (false)
  ) fun i6=>
 some (i6)
theorem en88:Enters Tryz.prog 88:=enters_of Tryz.func88 (by kernel_rfl) rfl
theorem wk88 {gI:Gh} {wI:World} {x0:BookCloth} {up0:Value} (rp0:RV gI.m wI x0 up0) {r:Bool} (h:f88 x0=some r):Fn Tryz.prog 88 #[up0] gI wI (fun _ _ v=>v=.bool (r)):=by
 unfold f88 at h;refine fnE Tryz.func88 rfl rfl fun g0 hm hfr=>?_;have rp0:=RVc hm rp0;show E _ 27 none _ _ _ _ _;refine E_sr (EL_d0 rfl (D_box (g:=g0) rfl rp0 fun g1 w1 p1 hs q1=>?_));have hfr:=hfr.ext hs;refine Zg (.bool false) rfl rfl (EL_nt ?_);obtain ⟨i6,hx,h⟩:=bsome h;refine E_join (fun e w=>∃ (g:Gh) ,Fr gI wI g w∧e 2=.bool (i6)) (fun Q' hQ=>?_) (fun rF xF hR=>?_)
 ·replace h := hx
  clear hx;refine Za (EL_p (fPtr p1 0) (Zc at_63_0 rfl (PT.ptr q1)) rfl ?_);have uC:=Zm (part_BookCloth_0).1 q1;refine EL_d0 rfl (D_load (g:=g1) Tryz.isAgg3 Tryz.sizeOf3 rfl uC fun yF bD=>?_);obtain rfl:=Zj.1 bD;refine EL_d0 rfl (D_buildSlice (g:=g1) 3005 (xs:=([(x0).Day]:List Int)) (vs:=[Iz ((x0).Day)]) Tryz.underlying22 Tryz.sizeOf3 Tryz.zeroValue3 rfl rfl (.cons rfl .nil) (RVs.cons (Zj.2 rfl) RVs.nil) rfl rfl fun cD w29 lD hs o29 nD hxt hfl=>?_);have hfr:=hfr.stp hs;have q1:=q1.stp hs;obtain ⟨l9,oB,h⟩:=bsome h;refine EL_d0 rfl (Zp (g:=cD) (vs:=[Iz (0),Iz (65535),lD]) en100 (.cons rfl (.cons rfl (.cons rfl .nil))) (wk100 nD oB) fun lB sF aG hs hr=>?_);have hfr:=hfr.ext hs;have q1:=q1.ext hs;subst hr;refine Zn (.bool (l9)) rfl rfl ?_;rcases Zt h with ⟨l5,h⟩ | ⟨l5,h⟩
  ·refine EL_y (fPtr p1 1) (Zc at_63_1 rfl (PT.ptr q1)) rfl rfl l5 rfl ?_
   have oD:=Zm (part_BookCloth_1).1 q1;refine Ze (.yes2 rfl rfl l5) rfl (D_load (g:=lB) Tryz.isAgg3 Tryz.sizeOf3 rfl oD fun bG yD=>?_);obtain rfl:=Zj.1 yD;refine Ze (.yes2 rfl rfl l5) rfl (D_buildSlice (g:=lB) 3010 (xs:=([(x0).Loom]:List Int)) (vs:=[Iz ((x0).Loom)]) Tryz.underlying22 Tryz.sizeOf3 Tryz.zeroValue3 rfl rfl (.cons rfl .nil) (RVs.cons (Zj.2 rfl) RVs.nil) rfl rfl fun zD cG aE hs o35 bE hxt hfl=>?_);have hfr:=hfr.stp hs;have q1:=q1.stp hs;obtain ⟨l8,yB,h⟩:=bsome h;refine Ze (.yes2 rfl rfl l5) rfl (Zp (g:=zD) (vs:=[Iz (0),Iz (15),aE]) en100 (.cons rfl (.cons rfl (.cons rfl .nil))) (wk100 bE yB) fun aB tF eG hs hr=>?_);have hfr:=hfr.ext hs;have q1:=q1.ext hs;subst hr;refine EL_p (.bool (l8)) (Zl (b:=l9) rfl (pick_t l5 rfl)) rfl (Zn (.bool (l8)) rfl rfl ?_);rcases Zt h with ⟨o0,h⟩ | ⟨o0,h⟩
   ·refine EL_y (fPtr p1 2) (Zc at_63_2 rfl (PT.ptr q1)) rfl rfl o0 rfl ?_
    have iE:=Zm (part_BookCloth_2).1 q1;refine Ze (.yes2 rfl rfl o0) rfl (D_load (g:=aB) Tryz.isAgg3 Tryz.sizeOf3 rfl iE fun gG lE=>?_);obtain rfl:=Zj.1 lE;refine EL_y (fPtr p1 3) (Zc at_63_3 rfl (PT.ptr q1)) rfl rfl o0 rfl ?_;have mE:=Zm (part_BookCloth_3).1 q1;refine Ze (.yes2 rfl rfl o0) rfl (D_load (g:=aB) Tryz.isAgg3 Tryz.sizeOf3 rfl mE fun iG oE=>?_);obtain rfl:=Zj.1 oE;refine Ze (.yes2 rfl rfl o0) rfl (D_buildSlice (g:=aB) 3018 (xs:=([(x0).Chain,(x0).Tie]:List Int)) (vs:=[Iz ((x0).Chain),Iz ((x0).Tie)]) Tryz.underlying22 Tryz.sizeOf3 Tryz.zeroValue3 rfl rfl (.cons rfl (.cons rfl .nil)) (RVs.cons (Zj.2 rfl) (RVs.cons (Zj.2 rfl) RVs.nil)) rfl rfl fun rE jG uE hs o43 vE hxt hfl=>?_);have hfr:=hfr.stp hs;have q1:=q1.stp hs;obtain ⟨n8,zB,h⟩:=bsome h;refine Ze (.yes2 rfl rfl o0) rfl (Zp (g:=rE) (vs:=[Iz (0),Iz (7),uE]) en100 (.cons rfl (.cons rfl (.cons rfl .nil))) (wk100 vE zB) fun mB uF kG hs hr=>?_);have hfr:=hfr.ext hs;have q1:=q1.ext hs;subst hr;refine EL_p (.bool (n8)) (Zl (b:=l8) rfl (pick_t o0 rfl)) rfl (Zn (.bool (n8)) rfl rfl ?_);rcases Zt h with ⟨t5,h⟩ | ⟨t5,h⟩
    ·refine EL_y (fPtr p1 4) (Zc at_63_4 rfl (PT.ptr q1)) rfl rfl t5 rfl ?_
     have xE:=Zm (part_BookCloth_4).1 q1;refine Ze (.yes2 rfl rfl t5) rfl (D_load (g:=mB) Tryz.isAgg3 Tryz.sizeOf3 rfl xE fun lG yE=>?_);obtain rfl:=Zj.1 yE;refine Ze (.yes2 rfl rfl t5) rfl (D_buildSlice (g:=mB) 3024 (xs:=([(x0).Picks]:List Int)) (vs:=[Iz ((x0).Picks)]) Tryz.underlying22 Tryz.sizeOf3 Tryz.zeroValue3 rfl rfl (.cons rfl .nil) (RVs.cons (Zj.2 rfl) RVs.nil) rfl rfl fun zE mG cF hs o49 dF hxt hfl=>?_);have hfr:=hfr.stp hs;obtain ⟨n9,cC,h⟩:=bsome h;refine Ze (.yes2 rfl rfl t5) rfl (Zp (g:=zE) (vs:=[Iz (1),Iz (60),cF]) en100 (.cons rfl (.cons rfl (.cons rfl .nil))) (wk100 dF cC) fun eF vF sG hs hr=>?_);have hfr:=hfr.ext hs;subst hr;refine EL_p (.bool (n9)) (Zl (b:=n8) rfl (pick_t t5 rfl)) rfl (Zg (.bool (n9)) rfl rfl (Zb ?_));obtain rfl:=sinj h;exact hQ _ _ ⟨eF,hfr,rfl⟩
    ·refine EL_s rfl rfl t5 rfl rfl ?_
     iterate 3 refine EL_s rfl rfl t5 rfl rfl ?_
     refine EL_p (.bool false) (Zl (b:=n8) rfl (pick_f t5 rfl)) rfl (Zg (.bool false) rfl rfl (Zb ?_));obtain rfl:=sinj h;exact hQ _ _ ⟨mB,hfr,rfl⟩
   ·refine EL_s rfl rfl o0 rfl rfl ?_
    iterate 5 refine EL_s rfl rfl o0 rfl rfl ?_
    refine EL_p (.bool false) (Zl (b:=l8) rfl (pick_f o0 rfl)) rfl (EL_dead 6 rfl (Zg (.bool false) rfl rfl (Zb ?_)));obtain rfl:=sinj h;exact hQ _ _ ⟨aB,hfr,rfl⟩
  ·refine EL_s rfl rfl l5 rfl rfl ?_
   iterate 3 refine EL_s rfl rfl l5 rfl rfl ?_
   refine EL_p (.bool false) (Zl (b:=l9) rfl (pick_f l5 rfl)) rfl (EL_dead 14 rfl (Zg (.bool false) rfl rfl (Zb ?_)));obtain rfl:=sinj h;exact hQ _ _ ⟨lB,hfr,rfl⟩
 ·clear hx
  obtain ⟨xG,hfr,nB⟩:=hR;refine E_ret ?_;obtain rfl:=sinj h;exact end1 rfl rfl (show _=.bool (i6) from nB) ⟨_,hfr,rfl⟩
def f91 (x0:List UInt8):Option (It (Vector UInt8 8)):=
 some ((fun σ cons s=>f132 x0 σ cons s))
theorem en91:Enters Tryz.prog 91:=enters_of Tryz.func91 (by kernel_rfl) rfl
theorem wk91 {gI:Gh} {wI:World} {x0:List UInt8} {up0:Value} (rp0:RV gI.m wI x0 up0) {r:It (Vector UInt8 8)} (h:f91 x0=some r):Fn Tryz.prog 91 #[up0] gI wI (fun m w v=>ItV Tryz.prog (RA1 (α:=(Vector UInt8 8))) (r) v m w):=by
 unfold f91 at h;refine fnE Tryz.func91 rfl rfl fun g0 hm hfr=>?_;have rp0:=RVc hm rp0;show E _ 4 none _ _ _ _ _;refine E_sr (EL_d0 rfl (D_box (g:=g0) rfl rp0 fun g1 w1 p1 hs q1=>?_));have hfr:=hfr.ext hs;refine Zg (.nilFunc) rfl rfl (EL_nt (E_sr (EL_p ((.func (.func 132) #[] #[p1])) (P_makeFunc (capf_0_1 (show ev _ _=p1 from rfl))) rfl (Zg ((.func (.func 132) #[] #[p1])) rfl rfl (EL_nt (E_ret ?_))))));obtain rfl:=sinj h;exact end1 rfl rfl (rq (.func (.func 132) #[] #[p1])) ⟨_,hfr,(show ItV Tryz.prog (RA1 (α:=(Vector UInt8 8))) (fun σ cons s=>f132 x0 σ cons s) ((.func (.func 132) #[] #[p1])) g1.m w1 from ⟨132,#[],#[p1],rfl,en132,fun g' w' hch σ cons s s' h=>wk132  (q1.ch hch) h⟩)⟩
def f92 (x0:Vector UInt8 8):Option (BookCloth × Int):=
 (idx (x0).toList (0:Int)).bind fun y3=>
 (shl64 ((y3).toNat:Int) ((8:Int))).bind fun y6=>
 (idx (x0).toList (1:Int)).bind fun y7=>
 (idx (x0).toList (2:Int)).bind fun l8=>
 (idx (x0).toList (3:Int)).bind fun n8=>
 (idx (x0).toList (4:Int)).bind fun l9=>
 (idx (x0).toList (5:Int)).bind fun n9=>
 (f131 x0).bind fun o0=>
 jn (σ:=BookCloth) (fun cC=>
  some (cC,(0:Int))
  ) fun k53=>
 Option.bind (α:=Bool) (
  (idx (x0).toList (6:Int)).bind fun lB=>
  bif (o0.1 != lB) then
   some (true)
  else
   (idx (x0).toList (7:Int)).bind fun nB=>
   some ((o0.2 != nB))
  ) fun aB=>
 bif aB then
  some ((⟨(bit64 .or y6 ((y7).toNat:Int)),((l8).toNat:Int),((n8).toNat:Int),((l9).toNat:Int),((n9).toNat:Int)⟩:BookCloth),(130:Int))
 else
  (f88 ((⟨(bit64 .or y6 ((y7).toNat:Int)),((l8).toNat:Int),((n8).toNat:Int),((l9).toNat:Int),((n9).toNat:Int)⟩:BookCloth))).bind fun uC=>
  bif (!uC) then
   some ((⟨(bit64 .or y6 ((y7).toNat:Int)),((l8).toNat:Int),((n8).toNat:Int),((l9).toNat:Int),((n9).toNat:Int)⟩:BookCloth),(2:Int))
  else
   k53 ((⟨(bit64 .or y6 ((y7).toNat:Int)),((l8).toNat:Int),((n8).toNat:Int),((l9).toNat:Int),((n9).toNat:Int)⟩:BookCloth))
theorem en92:Enters Tryz.prog 92:=enters_of Tryz.func92 (by kernel_rfl) rfl
theorem wk92 {gI:Gh} {wI:World} {x0:Vector UInt8 8} {up0:Value} (rp0:RV gI.m wI x0 up0) {r:BookCloth × Int} (h:f92 x0=some r):Fn Tryz.prog 92 #[up0] gI wI (fun m w v=>∃ y0 y1,v=.tuple #[y0,y1]∧RV m w (r.1) y0∧y1=Iz (r.2)):=by
 unfold f92 at h;refine fnE Tryz.func92 rfl rfl fun g0 hm hfr=>?_;have rp0:=RVc hm rp0;show E _ 50 none _ _ _ _ _;refine E_sr (EL_d0 rfl (D_box (g:=g0) rfl rp0 fun g1 w1 p1 hs q1=>?_));have hfr:=hfr.ext hs;refine EL_d0 rfl (D_allocOc (g:=g1) 2002 (⟨0,0,0,0,0⟩:BookCloth) Tryz.zeroValue63 (fun m w=>⟨_,(rep_two rep_int (rep_two rep_int (rep_two rep_int (rep_two rep_int rep_int)))),rfl⟩) fun g2 w2 p2 hs b2 cb=>?_);have hfr:=hfr.stp hs;have q1:=q1.stp hs;clear cb;refine Zg (Iz (0)) rfl rfl (EL_nt (E_sr ?_));obtain ⟨y3,hy3,h⟩:=bsome h;refine EL_p (fPtr p1 (((0:Int):Int).toNat * 1)) (P_indexAddrA (α:=UInt8) Tryz.underlying155 Tryz.sizeOf5 rfl (PT.ptr q1) rfl hy3) rfl ?_;have q4:=PT_idxA q1 hy3;refine EL_d0 rfl (D_load (g:=g2) Tryz.isAgg5 Tryz.sizeOf5 rfl q4 fun v5 r5=>?_);obtain rfl:=RV_u8.1 r5;refine EL_p (Iz (((y3).toNat:Int))) (P_u8int Tryz.underlying5 Tryz.underlying3 rfl) rfl ?_;obtain ⟨y6,rF,h⟩:=bsome h;refine EL_p (Iz (y6)) (P_shlu rfl rfl rF) rfl ?_;obtain ⟨y7,lE,h⟩:=bsome h;refine EL_p (fPtr p1 (((1:Int):Int).toNat * 1)) (P_indexAddrA (α:=UInt8) Tryz.underlying155 Tryz.sizeOf5 rfl (PT.ptr q1) rfl lE) rfl ?_;have q8:=PT_idxA q1 lE;refine EL_d0 rfl (D_load (g:=g2) Tryz.isAgg5 Tryz.sizeOf5 rfl q8 fun v9 r9=>?_);obtain rfl:=RV_u8.1 r9;refine EL_p (Iz (((y7).toNat:Int))) (P_u8int Tryz.underlying5 Tryz.underlying3 rfl) rfl (EL_in (Iz ((bit64 .or y6 ((y7).toNat:Int)))) rfl rfl rfl rfl ?_);obtain ⟨l8,nD,h⟩:=bsome h;refine EL_p (fPtr p1 (((2:Int):Int).toNat * 1)) (P_indexAddrA (α:=UInt8) Tryz.underlying155 Tryz.sizeOf5 rfl (PT.ptr q1) rfl nD) rfl ?_;have sF:=PT_idxA q1 nD;refine EL_d0 rfl (D_load (g:=g2) Tryz.isAgg5 Tryz.sizeOf5 rfl sF fun nH tF=>?_);obtain rfl:=RV_u8.1 tF;refine EL_p (Iz (((l8).toNat:Int))) (P_u8int Tryz.underlying5 Tryz.underlying3 rfl) rfl ?_;obtain ⟨n8,oD,h⟩:=bsome h;refine EL_p (fPtr p1 (((3:Int):Int).toNat * 1)) (P_indexAddrA (α:=UInt8) Tryz.underlying155 Tryz.sizeOf5 rfl (PT.ptr q1) rfl oD) rfl ?_;have uF:=PT_idxA q1 oD;refine EL_d0 rfl (D_load (g:=g2) Tryz.isAgg5 Tryz.sizeOf5 rfl uF fun oH vF=>?_);obtain rfl:=RV_u8.1 vF;refine EL_p (Iz (((n8).toNat:Int))) (P_u8int Tryz.underlying5 Tryz.underlying3 rfl) rfl ?_;obtain ⟨l9,yD,h⟩:=bsome h;refine EL_p (fPtr p1 (((4:Int):Int).toNat * 1)) (P_indexAddrA (α:=UInt8) Tryz.underlying155 Tryz.sizeOf5 rfl (PT.ptr q1) rfl yD) rfl ?_;have xF:=PT_idxA q1 yD;refine EL_d0 rfl (D_load (g:=g2) Tryz.isAgg5 Tryz.sizeOf5 rfl xF fun pH yF=>?_);obtain rfl:=RV_u8.1 yF;refine EL_p (Iz (((l9).toNat:Int))) (P_u8int Tryz.underlying5 Tryz.underlying3 rfl) rfl ?_;obtain ⟨n9,zD,h⟩:=bsome h;refine EL_p (fPtr p1 (((5:Int):Int).toNat * 1)) (P_indexAddrA (α:=UInt8) Tryz.underlying155 Tryz.sizeOf5 rfl (PT.ptr q1) rfl zD) rfl ?_;have aG:=PT_idxA q1 zD;refine EL_d0 rfl (D_load (g:=g2) Tryz.isAgg5 Tryz.sizeOf5 rfl aG fun qH bG=>?_);obtain rfl:=RV_u8.1 bG;refine EL_p (Iz (((n9).toNat:Int))) (P_u8int Tryz.underlying5 Tryz.underlying3 rfl) rfl ?_;have mE:RV g2.m w2 (⟨(bit64 .or y6 ((y7).toNat:Int)),((l8).toNat:Int),((n8).toNat:Int),((l9).toNat:Int),((n9).toNat:Int)⟩:BookCloth) (.agg (setCh [[Iz 0],[Iz 0],[Iz 0],[Iz 0],[Iz 0]] [(0,Iz ((bit64 .or y6 ((y7).toNat:Int)))),(1,Iz (((l8).toNat:Int))),(2,Iz (((n8).toNat:Int))),(3,Iz (((l9).toNat:Int))),(4,Iz (((n9).toNat:Int)))]).flatten.toArray):=RV_build rfl (rep_pair (rfl) (rep_pair (rfl) (rep_pair (rfl) (rep_pair (rfl) (rep_last (rfl))))));generalize vE:(Value.agg (setCh [[Iz 0],[Iz 0],[Iz 0],[Iz 0],[Iz 0]] [(0,Iz ((bit64 .or y6 ((y7).toNat:Int)))),(1,Iz (((l8).toNat:Int))),(2,Iz (((n8).toNat:Int))),(3,Iz (((l9).toNat:Int))),(4,Iz (((n9).toNat:Int)))]).flatten.toArray)=oE at mE;refine EL_p oE (vE ▸ P_build (vs:=[(0,Iz ((bit64 .or y6 ((y7).toNat:Int)))),(1,Iz (((l8).toNat:Int))),(2,Iz (((n8).toNat:Int))),(3,Iz (((l9).toNat:Int))),(4,Iz (((n9).toNat:Int)))]) [[Iz 0],[Iz 0],[Iz 0],[Iz 0],[Iz 0]] lay_63 rfl rfl (.cons rfl (.cons rfl (.cons rfl (.cons rfl (.cons rfl .nil))))) ⟨⟨_,rfl,rfl⟩,⟨⟨_,rfl,rfl⟩,⟨⟨_,rfl,rfl⟩,⟨⟨_,rfl,rfl⟩,⟨⟨_,rfl,rfl⟩,trivial⟩⟩⟩⟩⟩) rfl (EL_d0 rfl (D_storeOc (g:=g2) (v:=oE) Tryz.sizeOf63 rfl b2 rfl mE fun rE sH hs b23 cb=>?_))
 clear cb;have hfr:=hfr.stp hs;have q1:=q1.stp hs;refine EL_nt (E_sr (EL_d0 rfl (D_load (g:=rE) Tryz.isAgg155 Tryz.sizeOf155 rfl q1 fun cG eG=>?_)));obtain ⟨o0,xE,h⟩:=bsome h;refine EL_d0 rfl (Zp (g:=rE) (vs:=[cG]) en131 (.cons rfl .nil) (wk131 eG xE) fun bD jH tH hs hr=>?_);have hfr:=hfr.ext hs;have q1:=q1.ext hs;have b23:=b23.ext hs;obtain ⟨cH,gH,rfl,rfl,rfl⟩:=hr;refine Zn (.tuple #[.int .u8 (UInt8.toNat (o0.1)),.int .u8 (UInt8.toNat (o0.2))]) rfl rfl (EL_p (.int .u8 (UInt8.toNat (o0.1))) (Zi rfl rfl) rfl (EL_p (.int .u8 (UInt8.toNat (o0.2))) (Zi rfl rfl) rfl (Zg (.int .u8 (UInt8.toNat (o0.1))) rfl rfl (Zg (.int .u8 (UInt8.toNat (o0.2))) rfl rfl (EL_nt (Zq h (fun (s:BookCloth) e w=>∃ (g:Gh) ,Fr gI wI g w∧e 2=p2∧OB 2002 g w 63 (s:BookCloth) p2) (fun X53 k53 yE h=>?_) ?_))))))
 ·refine Zr ?_
  obtain ⟨aB,hx,h⟩:=bsome h;refine E_join (fun e w=>∃ (g:Gh) ,Fr gI wI g w∧e 2=p2∧OB 2002 g w 63 ((⟨(bit64 .or y6 ((y7).toNat:Int)),((l8).toNat:Int),((n8).toNat:Int),((l9).toNat:Int),((n9).toNat:Int)⟩:BookCloth):BookCloth) p2∧e 32=.bool (aB)) (fun Q' hQ=>?_) (fun kH uH hR=>?_)
  ·replace h := hx
   clear hx;refine Za (Zn (.int .u8 (UInt8.toNat (o0.1))) rfl rfl ?_);obtain ⟨lB,aE,h⟩:=bsome h;refine EL_p (fPtr p1 (((6:Int):Int).toNat * 1)) (P_indexAddrA (α:=UInt8) Tryz.underlying155 Tryz.sizeOf5 rfl (PT.ptr q1) rfl aE) rfl ?_;have q62:=PT_idxA q1 aE;refine EL_d0 rfl (D_load (g:=bD) Tryz.isAgg5 Tryz.sizeOf5 rfl q62 fun xH gG=>?_);obtain rfl:=RV_u8.1 gG;refine EL_p (.bool ((o0.1 != lB))) (P_u8 rfl rfl rfl) rfl (Zn (.bool ((o0.1 != lB))) rfl rfl ?_);rcases Zt h with ⟨i6,h⟩ | ⟨i6,h⟩
   ·refine EL_s rfl rfl i6 rfl rfl ?_
    iterate 3 refine EL_s rfl rfl i6 rfl rfl ?_
    refine EL_p (.bool true) (Zl (b:=(o0.1 != lB)) rfl (pick_t i6 rfl)) rfl (Zg (.bool true) rfl rfl (Zb ?_));obtain rfl:=sinj h;exact hQ _ _ ⟨bD,hfr,rfl,b23,rfl⟩
   ·refine EL_y (.int .u8 (UInt8.toNat (o0.2))) (Zk rfl) rfl rfl i6 rfl ?_
    obtain ⟨nB,bE,h⟩:=bsome h;refine EL_y (fPtr p1 (((7:Int):Int).toNat * 1)) (P_indexAddrA (α:=UInt8) Tryz.underlying155 Tryz.sizeOf5 rfl (PT.ptr q1) rfl bE) rfl rfl i6 rfl ?_;have iG:=PT_idxA q1 bE;refine Ze (.yes2 rfl rfl i6) rfl (D_load (g:=bD) Tryz.isAgg5 Tryz.sizeOf5 rfl iG fun yH jG=>?_);obtain rfl:=RV_u8.1 jG;refine EL_y (.bool ((o0.2 != nB))) (P_u8 rfl rfl rfl) rfl rfl i6 rfl (EL_p (.bool ((o0.2 != nB))) (Zl (b:=(o0.1 != lB)) rfl (pick_f i6 rfl)) rfl (Zg (.bool ((o0.2 != nB))) rfl rfl (Zb ?_)));obtain rfl:=sinj h;exact hQ _ _ ⟨bD,hfr,rfl,b23,rfl⟩
  ·clear hx
   obtain ⟨cD,hfr,l5,t5,oB⟩:=hR;rcases Zt h with ⟨yB,h⟩ | ⟨yB,h⟩
   ·refine E_cond_true (Eq.trans (show ev _ _ = .bool (aB) from oB) (congrArg Value.bool yB)) (E_sr (EL_d0 rfl (D_loadO (g := cD) Tryz.isAgg63 Tryz.sizeOf63 l5 t5 fun kG lG => (EL_d0 rfl (D_storeOc (g := cD) (v := kG) Tryz.sizeOf63 l5 t5 rfl lG fun zH aI hs b72 cb => ?_)))))
    clear cb;have hfr:=hfr.stp hs;refine Zg (Iz (130)) rfl rfl (EL_nt (E_ret (blk_r (thn_r ?_))));obtain rfl:=sinj h;obtain ⟨ad73,cv73,hp73,zE,cr73⟩:=ob_read Tryz.isAgg63 Tryz.sizeOf63 b72;exact endm_ct rfl rfl ((show _=p2 from l5).trans hp73) zE (show _=Iz (130) from rfl) ⟨_,hfr,_,_,rfl,cr73,rfl⟩
   ·refine E_cond_false (Eq.trans (show ev _ _ = .bool (aB) from oB) (congrArg Value.bool yB)) (E_sr (EL_d0 rfl (D_loadO (g := cD) Tryz.isAgg63 Tryz.sizeOf63 l5 t5 fun mG sG => ?_)))
    obtain ⟨uC,cF,h⟩:=bsome h;refine EL_d0 rfl (Zp (g:=cD) (vs:=[mG]) en88 (.cons rfl .nil) (wk88 sG cF) fun iE lH bI hs hr=>?_);have hfr:=hfr.ext hs;have t5:=t5.ext hs;subst hr;refine EL_p (.bool (!uC)) (P_not rfl) rfl (Zg (.bool (!uC)) rfl rfl (EL_nt ?_));rcases Zt h with ⟨zB,h⟩ | ⟨zB,h⟩
    ·refine E_ct zB rfl (E_sr (EL_d0 rfl (D_loadO (g := iE) Tryz.isAgg63 Tryz.sizeOf63 l5 t5 fun xG yG => (EL_d0 rfl (D_storeOc (g := iE) (v := xG) Tryz.sizeOf63 l5 t5 rfl yG fun dI iI hs b79 cb => ?_)))))
     clear cb;have hfr:=hfr.stp hs;refine Zg (Iz (2)) rfl rfl (EL_nt (E_ret (blk_r (thn_r ?_))));obtain rfl:=sinj h;obtain ⟨ad80,cv80,hp80,dF,cr80⟩:=ob_read Tryz.isAgg63 Tryz.sizeOf63 b79;exact endm_ct rfl rfl ((show _=p2 from l5).trans hp80) dF (show _=Iz (2) from rfl) ⟨_,hfr,_,_,rfl,cr80,rfl⟩
    ·refine E_cf zB rfl ?_
     exact Zu (blk_n (Zd (yE ((⟨(bit64 .or y6 ((y7).toNat:Int)),((l8).toNat:Int),((n8).toNat:Int),((l9).toNat:Int),((n9).toNat:Int)⟩:BookCloth)) _ _ ⟨iE,hfr,l5,t5⟩ h)))
 ·rintro cC mH jI ⟨uE, hfr, mB, lD⟩ h
  refine E_sr (EL_d0 rfl (D_loadO (g:=uE) Tryz.isAgg63 Tryz.sizeOf63 mB lD fun zG aH=>(EL_d0 rfl (D_storeOc (g:=uE) (v:=zG) Tryz.sizeOf63 mB lD rfl aH fun kI lI hs b83 cb=>?_))));clear cb;have hfr:=hfr.stp hs;refine Zg (Iz (0)) rfl rfl (EL_nt (E_ret ?_));obtain rfl:=sinj h;obtain ⟨ad84,cv84,hp84,eF,cr84⟩:=ob_read Tryz.isAgg63 Tryz.sizeOf63 b83;exact endm_ct rfl rfl ((show _=p2 from mB).trans hp84) eF (show _=Iz (0) from rfl) ⟨_,hfr,_,_,rfl,cr84,rfl⟩
def f104 (x0:BookTie):Option (Bool):=
 (f105 ((x0).Harness)).bind fun y5=>
 some ((y5 != (0:Int)))
theorem en104:Enters Tryz.prog 104:=enters_of Tryz.func104 (by kernel_rfl) rfl
theorem wk104 {gI:Gh} {wI:World} {x0:BookTie} {up0:Value} (rp0:RV gI.m wI x0 up0) {r:Bool} (h:f104 x0=some r):Fn Tryz.prog 104 #[up0] gI wI (fun _ _ v=>v=.bool (r)):=by
 unfold f104 at h;refine fnE Tryz.func104 rfl rfl fun g0 hm hfr=>?_;have rp0:=RVc hm rp0;show E _ 7 none _ _ _ _ _;refine E_sr (EL_d0 rfl (D_box (g:=g0) rfl rp0 fun g1 w1 p1 hs q1=>?_));have hfr:=hfr.ext hs;refine Zg (.bool false) rfl rfl (EL_nt (E_sr (EL_p (fPtr p1 1) (Zc at_108_1 rfl (PT.ptr q1)) rfl ?_)));have q2:=Zm (part_BookTie_1).1 q1;refine EL_d0 rfl (D_load (g:=g1) Tryz.isAgg106 Tryz.sizeOf106 rfl q2 fun v3 r3=>?_);obtain ⟨y5,hy5,h⟩:=bsome h;refine EL_d0 rfl (Zp (g:=g1) (vs:=[v3]) en105 (.cons rfl .nil) (wk105 r3 hy5) fun g4 w4_ v4 hs hr=>?_);have hfr:=hfr.ext hs;subst hr;refine EL_in (.bool ((y5 != (0:Int)))) rfl rfl rfl rfl (Zg (.bool ((y5 != (0:Int)))) rfl rfl (EL_nt (E_ret ?_)));obtain rfl:=sinj h;exact end1 rfl rfl (rq (.bool ((y5 != (0:Int))))) ⟨_,hfr,rfl⟩
def f137 (x0:TieHarness) (x1:Design):Option ((List Str) × Int):=
 jn (σ:=Unit) (fun _=>
  jn (σ:=Unit) (fun _=>
   Option.bind (α:=(List Str)) (
    lp (σ:=(List Str) × Int) (fun iG (oB,o0)=>
     bif (decide (o0 < (((x1).Rows).length : Int))) then
      Option.bind (α:=(List Str)) (
       (idx ((x1).Rows) o0).bind fun cC=>
       (f168 ((⟨x0⟩:TieTieHarness)) cC).bind fun y81=>
       (apnd 16 oB (([y81]:List Str))).bind fun y84=>
       some (y84)
       ) fun n9=>
      iG (n9,(w64 (o0 + (1:Int))))
     else
      some (oB)
     ) big ([],(0:Int))
    ) fun mB=>
   some (mB,(0:Int))
   ) fun jG=>
  (f167 x1).bind fun l9=>
  bif (l9 != (0 : Int)) then
   some ([],l9)
  else
   bif ((x1).Hooks != (x0).Hooks) then
    some ([],(4:Int))
   else
    jG ()
  ) fun k7=>
 (f105 x0).bind fun aB=>
 bif (aB != (0 : Int)) then
  some ([],aB)
 else
  k7 ()
theorem en137:Enters Tryz.prog 137:=enters_of Tryz.func137 (by kernel_rfl) rfl
theorem wk137 {gI:Gh} {wI:World} {x0:TieHarness} {x1:Design} {up0:Value} (rp0:RV gI.m wI x0 up0) {up1:Value} (rp1:RV gI.m wI x1 up1) {r:(List Str) × Int} (h:f137 x0 x1=some r):Fn Tryz.prog 137 #[up0,up1] gI wI (fun m w v=>∃ y0 y1,v=.tuple #[y0,y1]∧RV m w (r.1) y0∧y1=Iz (r.2)):=by
 unfold f137 at h;refine fnE Tryz.func137 rfl rfl fun g0 hm hfr=>?_;have rp0:=RVc hm rp0;have rp1:=RVc hm rp1;show E _ 43 none _ _ _ _ _;refine E_sr (EL_d0 rfl (D_box (g:=g0) rfl rp0 fun g1 w1 p1 hs q1=>?_));have hfr:=hfr.ext hs;have rp1:=rp1.ext hs;refine EL_d0 rfl (D_box (g:=g1) rfl rp1 fun g2 w2 p2 hs q2=>?_);have hfr:=hfr.ext hs;have q1:=q1.ext hs;refine Zg (.slice none 0 0) rfl rfl (Zg (Iz (0)) rfl rfl (EL_nt (Zq h (fun (s:Unit) e w=>∃ (g:Gh) ,Fr gI wI g w∧e 2=p1∧PT g.m w (x0:TieHarness) p1∧e 3=p2∧PT g.m w (x1:Design) p2∧e 4=.slice none 0 0∧RV g.m w ([]:List Str) (Value.slice none 0 0)) (fun X7 k7 hk7 h=>?_) ?_)))
 ·refine E_sr (EL_d0 rfl (D_load (g := g2) Tryz.isAgg106 Tryz.sizeOf106 rfl q1 fun v8 r8 => ?_))
  obtain ⟨aB,aH,h⟩:=bsome h;refine EL_d0 rfl (Zp (g:=g2) (vs:=[v8]) en105 (.cons rfl .nil) (wk105 r8 aH) fun g9 w9_ v9 hs hr=>?_);have hfr:=hfr.ext hs;have q1:=q1.ext hs;have q2:=q2.ext hs;subst hr;refine Zg (Iz (aB)) rfl rfl (EL_nt (E_sr (Zn (Iz (aB)) rfl rfl (EL_in (.bool ((aB != (0:Int)))) rfl rfl rfl rfl (EL_nt ?_)))));rcases Zt h with ⟨nD,h⟩ | ⟨nD,h⟩
  ·refine E_ct nD rfl (E_sr (Zn (Iz (aB)) rfl rfl (Zg (.slice none 0 0) rfl rfl (Zg (Iz (aB)) rfl rfl (EL_nt (E_ret (thn_r ?_)))))))
   obtain rfl:=sinj h;exact end2 rfl rfl (rq (.slice none 0 0)) (rq (Iz (aB))) ⟨_,hfr,_,_,rfl,RV_nil,rfl⟩
  ·refine E_cf nD rfl ?_
   exact Zu (Zd (hk7 () _ _ ⟨g9,hfr,rfl,q1,rfl,q2,rfl,RV_nil⟩ h))
 ·rintro _ lI kJ ⟨kG, hfr, aE, lB, yB, i6, cF, zB⟩ h
  refine Zq h (fun (s:Unit) e w=>∃ (g:Gh) ,Fr gI wI g w∧e 2=p1∧PT g.m w (x0:TieHarness) p1∧e 3=p2∧PT g.m w (x1:Design) p2∧e 4=.slice none 0 0∧RV g.m w ([]:List Str) (Value.slice none 0 0)) (fun X22 jG cH h=>?_) ?_
  ·refine E_sr (EL_d0 rfl (D_load (g := kG) Tryz.isAgg24 Tryz.sizeOf24 yB i6 fun nH oH => ?_))
   obtain ⟨l9,gH,h⟩:=bsome h;refine EL_d0 rfl (Zp (g:=kG) (vs:=[nH]) en167 (.cons rfl .nil) (wk167 oH gH) fun oE mI lJ hs hr=>?_);have hfr:=hfr.ext hs;have lB:=lB.ext hs;have i6:=i6.ext hs;have zB:=zB.ext hs;subst hr;refine Zg (Iz (l9)) rfl rfl (EL_nt (Zr (E_sr (Zn (Iz (l9)) rfl rfl (EL_in (.bool ((l9 != (0:Int)))) rfl rfl rfl rfl (Zg (.bool ((l9 != (0:Int)))) rfl rfl (EL_nt ?_)))))));rcases Zt h with ⟨oD,h⟩ | ⟨oD,h⟩
   ·refine E_ct oD rfl (E_sr (Zn (Iz (l9)) rfl rfl (Zg (.slice none 0 0) rfl rfl (Zg (Iz (l9)) rfl rfl (EL_nt (E_ret (blk_r (thn_r ?_))))))))
    obtain rfl:=sinj h;exact end2 rfl rfl (rq (.slice none 0 0)) (rq (Iz (l9))) ⟨_,hfr,_,_,rfl,RV_nil,rfl⟩
   ·refine E_cf oD rfl (E_sr (EL_p (fPtr p2 0) (Zc at_24_0 yB (PT.ptr i6)) rfl ?_))
    have pH:=Zm (part_Design_0).1 i6;refine EL_d0 rfl (D_load (g:=oE) Tryz.isAgg3 Tryz.sizeOf3 rfl pH fun mJ qH=>?_);obtain rfl:=Zj.1 qH;refine EL_p (fPtr p1 0) (Zc at_106_0 aE (PT.ptr lB)) rfl ?_;have sH:=Zm (part_TieHarness_0).1 lB;refine EL_d0 rfl (D_load (g:=oE) Tryz.isAgg3 Tryz.sizeOf3 rfl sH fun nJ tH=>?_);obtain rfl:=Zj.1 tH;refine EL_in (.bool (((x1).Hooks != (x0).Hooks))) rfl rfl rfl rfl (Zg (.bool (((x1).Hooks != (x0).Hooks))) rfl rfl (EL_nt ?_));rcases Zt h with ⟨yD,h⟩ | ⟨yD,h⟩
    ·refine E_ct yD rfl (E_sr (Zg (.slice none 0 0) rfl rfl (Zg (Iz (4)) rfl rfl (EL_nt (E_ret (blk_r (thn_r ?_)))))))
     obtain rfl:=sinj h;exact end2 rfl rfl (rq (.slice none 0 0)) (rq (Iz (4))) ⟨_,hfr,_,_,rfl,RV_nil,rfl⟩
    ·refine E_cf yD rfl ?_
     exact Zu (blk_n (Zd (cH () _ _ ⟨oE,hfr,aE,lB,yB,i6,cF,zB⟩ h)))
  ·rintro _ nI oJ ⟨lG, hfr, dF, eF, rF, bE, sF, tF⟩ h
   obtain ⟨mB,hx,h⟩:=bsome h;refine E_join (fun e w=>∃ (g:Gh) (v4:Value),Fr gI wI g w∧e 4=v4∧RV g.m w (mB:List Str) v4∧OS 1004 g w 9 (mB:List Str) v4) (fun Q' hQ=>?_) (fun pI pJ hR=>?_)
   ·replace h := hx
    clear hx;refine E_sr (EL_p (fPtr p2 1) (Zc at_24_1 rF (PT.ptr bE)) rfl ?_);have uH:=Zm (part_Design_1).1 bE;refine EL_d0 rfl (D_load (g:=lG) Tryz.isAgg22 Tryz.sizeOf22 rfl uH fun uC mG=>(EL_p (Iz (((x1).Rows).length:Int)) (P_len Tryz.underlying22 rfl mG) rfl (Zn (Iz (0)) rfl rfl (EL_nt (Zr (E_lp h (fun (s:(List Str) × Int) e w=>∃ (g:Gh) (v4:Value),Fr gI wI g w∧e 2=p1∧PT g.m w (x0:TieHarness) p1∧e 4=v4∧RV g.m w (s.1:List Str) v4∧OS 1004 g w 9 (s.1:List Str) v4∧e 28=uC∧RV g.m w ((x1).Rows:List Int) uC∧e 29=Iz ((((x1).Rows).length:Int))∧e 30=Iz (s.2)) ⟨lG,(.slice none 0 0),hfr,dF,eF,sF,tF,OS.nil,rfl,mG,rfl,rfl⟩ (fun X61 iG jH=>?_)))))));rintro ⟨oB,o0⟩ qI qJ ⟨bD,uF,hfr,iE,t5,lE,l8,n8,cD,l5,lD,nB⟩ h;refine E_sr (EL_p (.bool ((decide (o0 < (((x1).Rows).length:Int))))) (P_int nB lD rfl) rfl (EL_nt (Zf ?_)));rcases Zt h with ⟨zD,h⟩ | ⟨zD,h⟩
    ·refine E_ct zD rfl (Zu (Zd ?_))
     obtain ⟨n9,hx,h⟩:=bsome h;refine E_join (fun e w=>∃ (g:Gh) (v4:Value),Fr gI wI g w∧e 2=p1∧PT g.m w (x0:TieHarness) p1∧e 4=v4∧RV g.m w (n9:List Str) v4∧OS 1004 g w 9 (n9:List Str) v4∧e 28=uC∧RV g.m w ((x1).Rows:List Int) uC∧e 29=Iz ((((x1).Rows).length:Int))∧e 30=Iz (o0)) (fun Q' hQ=>?_) (fun sI rJ hR=>?_)
     ·replace h := hx
      clear hx;refine Zr (E_sr ?_);obtain ⟨cC,rE,h⟩:=bsome h;refine EL_p (ePtr uC o0 1) (Zh (α:=Int) Tryz.underlying22 Tryz.sizeOf3 cD l5 nB rE) rfl ?_;have xH:=PT_idx l5 rE;refine EL_d0 rfl (D_load (g:=bD) Tryz.isAgg3 Tryz.sizeOf3 rfl xH fun sJ yH=>?_);obtain rfl:=Zj.1 yH;refine Zg (Iz (cC)) rfl rfl (EL_nt (Za (Zo lE rfl (EL_d0 rfl (D_load (g:=bD) Tryz.isAgg106 Tryz.sizeOf106 iE t5 fun uE sG=>?_)))));have xG:RV bD.m _ (⟨x0⟩:TieTieHarness) (.agg (setCh [[Iz 0,.slice none 0 0]] [(0,uE)]).flatten.toArray):=RV_build rfl (rep_last (RV.cells sG));generalize kH:(Value.agg (setCh [[Iz 0,.slice none 0 0]] [(0,uE)]).flatten.toArray)=yG at xG;refine EL_p yG (kH ▸ P_build (vs:=[(0,uE)]) [[Iz 0,.slice none 0 0]] lay_237 rfl rfl (.cons rfl .nil) ⟨⟨_,rfl,cells_size sG⟩,trivial⟩) rfl (Zn (Iz (cC)) rfl rfl ?_);obtain ⟨y81,lH,h⟩:=bsome h;refine EL_d0 rfl (Zp (g:=bD) (vs:=[yG,Iz (cC)]) en168 (.cons rfl (.cons rfl .nil)) (wk168 xG lH) fun zH jJ vJ hs hr=>?_);have hfr:=hfr.ext hs;have t5:=t5.ext hs;have l8:=l8.ext hs;have n8:=n8.ext hs;have l5:=l5.ext hs;subst hr;refine EL_d0 rfl (D_buildSlice (g:=zH) 3039 (xs:=([y81]:List Str)) (vs:=[Str.v (y81)]) Tryz.underlying104 Tryz.sizeOf9 Tryz.zeroValue9 rfl rfl (.cons rfl .nil) (RVs.cons (RV_str.2 rfl) RVs.nil) rfl rfl fun aI xJ zJ hs o82 bI hxt hfl=>?_);have hfr:=hfr.stp hs;have t5:=t5.stp hs;have l8:=l8.stp hs;have n8:=n8.stp hs rfl;have l5:=l5.stp hs;obtain ⟨y84,mH,h⟩:=bsome h;refine EL_d0 rfl (D_append (g:=aI) (i:=1004) Tryz.underlying104 info_9 rfl rfl n8 l8 rfl bI mH fun dI aK zG hs o83 iI _=>?_);have hfr:=hfr.stp hs;have t5:=t5.stp hs;have l5:=l5.stp hs;refine Zg zG rfl rfl (Zb (blk_n ?_));obtain rfl:=sinj h;exact hQ _ _ ⟨dI,(zG),hfr,iE,t5,rfl,iI,o83,cD,l5,lD,nB⟩
     ·clear hx
      obtain ⟨jI,vF,hfr,xF,yF,aG,bG,cG,vE,xE,yE,zE⟩:=hR;refine Za (EL_in (Iz ((w64 (o0 + (1:Int))))) zE rfl rfl rfl (Zn (Iz ((w64 (o0 + (1:Int))))) rfl rfl ?_));exact EL_nt (jH (n9,(w64 (o0 + (1:Int)))) _ _ ⟨jI,(vF),hfr,xF,yF,aG,bG,cG,vE,xE,yE,rfl⟩ h)
    ·refine E_cf zD rfl (E_exit (thn_e (thn_e (blk_hit ?_))))
     obtain rfl:=sinj h;exact hQ _ _ ⟨bD,(uF),hfr,lE,l8,n8⟩
   ·clear hx
    obtain ⟨bK,mE,hfr,eG,gG,kI⟩:=hR;refine E_sr (Zo eG rfl (Zg mE rfl rfl (Zg (Iz (0)) rfl rfl (EL_nt (E_ret ?_)))));obtain rfl:=sinj h;exact end2 rfl rfl (rq mE) (rq (Iz (0))) ⟨_,hfr,_,_,rfl,gG,rfl⟩
def f145 (x0:Str):Option (Bool):=
 Option.bind (α:=Bool) (
  (f100 ((1:Int)) ((8:Int)) (([((x0).b.length:Int)]:List Int))).bind fun y9=>
  bif y9 then
   (f176 x0 ((fun a0=>f175 a0))).bind fun t5=>
   some ((!t5))
  else
   some (false)
  ) fun l5=>
 some (l5)
theorem en145:Enters Tryz.prog 145:=enters_of Tryz.func145 (by kernel_rfl) rfl
theorem wk145 {gI:Gh} {wI:World} {x0:Str}  {r:Bool} (h:f145 x0=some r):Fn Tryz.prog 145 #[Str.v (x0)] gI wI (fun _ _ v=>v=.bool (r)):=by
 unfold f145 at h;refine fnE Tryz.func145 rfl rfl fun g0 hm hfr=>?_;show E _ 14 none _ _ _ _ _;refine E_sr (Zg (.bool false) rfl rfl (EL_nt (E_sr (Zg (.func (.func 175) #[] #[]) rfl rfl (EL_nt ?_)))));obtain ⟨l5,hx,h⟩:=bsome h;refine E_join (fun e w=>∃ (g:Gh) ,Fr gI wI g w∧e 2=.bool (l5)) (fun Q' hQ=>?_) (fun l9 aB hR=>?_)
 ·replace h := hx
  clear hx;refine Za (Zn (Str.v (x0)) rfl rfl (EL_p (Iz ((x0).b.length:Int)) (P_lenS Tryz.underlying9 rfl) rfl (EL_d0 rfl (D_buildSlice (g:=g0) 3006 (xs:=([((x0).b.length:Int)]:List Int)) (vs:=[Iz ((x0).b.length:Int)]) Tryz.underlying22 Tryz.sizeOf3 Tryz.zeroValue3 rfl rfl (.cons rfl .nil) (RVs.cons (Zj.2 rfl) RVs.nil) rfl rfl fun g7 w7 v7 hs o7 r7 hxt hfl=>?_))));have hfr:=hfr.stp hs;obtain ⟨y9,n8,h⟩:=bsome h;refine EL_d0 rfl (Zp (g:=g7) (vs:=[Iz (1),Iz (8),v7]) en100 (.cons rfl (.cons rfl (.cons rfl .nil))) (wk100 r7 n8) fun g8 w8_ v8 hs hr=>?_);have hfr:=hfr.ext hs;subst hr;refine Zn (.bool (y9)) rfl rfl ?_;rcases Zt h with ⟨o0,h⟩ | ⟨o0,h⟩
  ·refine EL_y (Str.v (x0)) (Zk rfl) rfl rfl o0 rfl (EL_y (.func (.func 175) #[] #[]) (Zk rfl) rfl rfl o0 rfl ?_)
   obtain ⟨t5,l8,h⟩:=bsome h;refine Ze (.yes2 rfl rfl o0) rfl (Zp (g:=g8) (vs:=[Str.v (x0),.func (.func 175) #[] #[]]) en176 (.cons rfl (.cons rfl .nil)) (wk176 ⟨175,#[],#[],rfl,en175,fun g' w' hch a0 b0 r hu0 hr=>by obtain rfl:=RV_i32.1 hu0; exact Fn.mono (wk175   hr) fun _ _ _ h=>RV_bool.2 h⟩ l8) fun g11 n9 lB hs hr=>?_);have hfr:=hfr.ext hs;subst hr;refine EL_y (.bool (!t5)) (P_not rfl) rfl rfl o0 rfl (EL_p (.bool (!t5)) (Zl (b:=y9) rfl (pick_t o0 rfl)) rfl (Zg (.bool (!t5)) rfl rfl (Zb ?_)));obtain rfl:=sinj h;exact hQ _ _ ⟨g11,hfr,rfl⟩
  ·refine EL_s rfl rfl o0 rfl rfl ?_
   iterate 3 refine EL_s rfl rfl o0 rfl rfl ?_
   refine EL_p (.bool false) (Zl (b:=y9) rfl (pick_f o0 rfl)) rfl (Zg (.bool false) rfl rfl (Zb ?_));obtain rfl:=sinj h;exact hQ _ _ ⟨g8,hfr,rfl⟩
 ·clear hx
  obtain ⟨mB,hfr,i6⟩:=hR;refine E_ret ?_;obtain rfl:=sinj h;exact end1 rfl rfl (show _=.bool (l5) from i6) ⟨_,hfr,rfl⟩
def f164 (x0:ChainChainBelt) (x1:Int):Option (Int):=
 jn (σ:=Unit) (fun _=>
  (idx (((x0).ChainBelt).Cards) x1).bind fun t5=>
  some ((t5).Row)
  ) fun k19=>
 (idx (((x0).ChainBelt).Cards) x1).bind fun y23=>
 bif (y23).Turned then
  (f197 ((x0).frame) ((y23).Row)).bind fun i6=>
  some (i6)
 else
  k19 ()
theorem en164:Enters Tryz.prog 164:=enters_of Tryz.func164 (by kernel_rfl) rfl
theorem wk164 {gI:Gh} {wI:World} {x0:ChainChainBelt} {x1:Int} {up0:Value} (rp0:RV gI.m wI x0 up0) {r:Int} (h:f164 x0 x1=some r):Fn Tryz.prog 164 #[up0,Iz (x1)] gI wI (fun _ _ v=>v=Iz (r)):=by
 unfold f164 at h;refine fnE Tryz.func164 rfl rfl fun g0 hm hfr=>?_;have rp0:=RVc hm rp0;show E _ 26 none _ _ _ _ _;refine E_sr (EL_d0 rfl (D_box (g:=g0) rfl rp0 fun g1 w1 p1 hs q1=>?_));have hfr:=hfr.ext hs;refine Zg (Iz (0)) rfl rfl (EL_nt (Zq h (fun (s:Unit) e w=>∃ (g:Gh) ,Fr gI wI g w∧e 1=Iz (x1)∧e 2=p1∧PT g.m w (x0:ChainChainBelt) p1) (fun X19 k19 cD h=>?_) ?_))
 ·refine E_sr (EL_p (fPtr p1 0) (Zc at_220_0 rfl (PT.ptr q1)) rfl ?_)
  have mB:=Zm (part_ChainChainBelt_0).1 q1;refine EL_p (fPtr (fPtr p1 0) 1) (Zc at_92_1 rfl (PT.ptr mB)) rfl ?_;have nD:=Zm (part_ChainBelt_1).1 mB;refine EL_d0 rfl (D_load (g:=g1) Tryz.isAgg90 Tryz.sizeOf90 rfl nD fun oD nB=>(Zn (Iz (x1)) rfl rfl ?_));obtain ⟨y23,n8,h⟩:=bsome h;refine EL_p (ePtr oD x1 3) (Zh (α:=ChainCard) Tryz.underlying90 Tryz.sizeOf96 rfl nB rfl n8) rfl ?_;have yD:=PT_idx nB n8;refine EL_d0 rfl (D_load (g:=g1) Tryz.isAgg96 Tryz.sizeOf96 rfl yD fun zD l9=>(EL_d0 rfl (D_allocOc (g:=g1) 2005 (⟨0,0,false⟩:ChainCard) Tryz.zeroValue96 (fun m w=>⟨_,(rep_two rep_int (rep_two rep_int rep_bool)),rfl⟩) fun aE yE oB hs b26 cb=>?_)));have hfr:=hfr.stp hs;have q1:=q1.stp hs;have l9:=l9.stp hs;clear cb;refine EL_d0 rfl (D_storeOc (g:=aE) (v:=zD) Tryz.sizeOf96 rfl b26 rfl l9 fun o0 zE hs b27 cb=>?_);clear cb;have hfr:=hfr.stp hs;have q1:=q1.stp hs;refine EL_nt (E_sr (EL_p (fPtr oB 2) (Zc at_96_2 rfl (OB.ptr b27)) rfl (EL_d0 rfl (D_loadF (g:=o0) part_ChainCard_2.1 Tryz.isAgg4 Tryz.sizeOf4 rfl b27 fun cF bE=>?_))));obtain rfl:=RV_bool.1 bE;refine EL_nt ?_;rcases Zt h with ⟨l5,h⟩ | ⟨l5,h⟩
  ·refine E_ct l5 rfl (E_sr (EL_p (fPtr p1 2) (Zc at_220_1 rfl (PT.ptr q1)) rfl ?_))
   have iE:=Zm (part_ChainChainBelt_1).1 q1;refine EL_d0 rfl (D_load (g:=o0) Tryz.isAgg218 Tryz.sizeOf218 rfl iE fun dF lE=>?_);obtain rfl:=Zj.1 lE;refine EL_p (fPtr oB 1) (Zc at_96_1 rfl (OB.ptr b27)) rfl (EL_d0 rfl (D_loadF (g:=o0) part_ChainCard_1.1 Tryz.isAgg3 Tryz.sizeOf3 rfl b27 fun eF mE=>?_));obtain rfl:=Zj.1 mE;obtain ⟨i6,lD,h⟩:=bsome h;refine EL_d0 rfl (Zp (g:=o0) (vs:=[Iz ((x0).frame),Iz ((y23).Row)]) en197 (.cons rfl (.cons rfl .nil)) (wk197  lD) fun rF vE sF hs hr=>?_);have hfr:=hfr.ext hs;subst hr;refine Zg (Iz (i6)) rfl rfl (EL_nt (E_ret (thn_r ?_)));obtain rfl:=sinj h;exact end1 rfl rfl (rq (Iz (i6))) ⟨_,hfr,rfl⟩
  ·refine E_cf l5 rfl ?_
   exact Zu (Zd (cD () _ _ ⟨o0,hfr,rfl,rfl,q1⟩ h))
 ·rintro _ xE tF ⟨yB, hfr, aB, lB, l8⟩ h
  refine E_sr (EL_p (fPtr p1 0) (Zc at_220_0 lB (PT.ptr l8)) rfl ?_);have zB:=Zm (part_ChainChainBelt_0).1 l8;refine EL_p (fPtr (fPtr p1 0) 1) (Zc at_92_1 rfl (PT.ptr zB)) rfl ?_;have oE:=Zm (part_ChainBelt_1).1 zB;refine EL_d0 rfl (D_load (g:=yB) Tryz.isAgg90 Tryz.sizeOf90 rfl oE fun cC uC=>(Zo aB rfl ?_));obtain ⟨t5,n9,h⟩:=bsome h;refine EL_p (ePtr cC x1 3) (Zh (α:=ChainCard) Tryz.underlying90 Tryz.sizeOf96 rfl uC rfl n9) rfl ?_;have bD:=PT_idx uC n9;refine EL_p (fPtr (ePtr cC x1 3) 1) (Zc at_96_1 rfl (PT.ptr bD)) rfl ?_;have rE:=Zm (part_ChainCard_1).1 bD;refine EL_d0 rfl (D_load (g:=yB) Tryz.isAgg3 Tryz.sizeOf3 rfl rE fun uF uE=>?_);obtain rfl:=Zj.1 uE;refine Zg (Iz ((t5).Row)) rfl rfl (EL_nt (E_ret ?_));obtain rfl:=sinj h;exact end1 rfl rfl (rq (Iz ((t5).Row))) ⟨_,hfr,rfl⟩
def f174 (x0:Int) (x1:List ChainCard):Option (Bool):=
 Option.bind (α:=Bool) (
  bif (decide (((x1).length : Int) > (0 : Int))) then
   (f209 x1 ((fun a0=>f207 a0 x0))).bind fun y7=>
   some ((!y7))
  else
   some (false)
  ) fun o0=>
 some (o0)
theorem en174:Enters Tryz.prog 174:=enters_of Tryz.func174 (by kernel_rfl) rfl
theorem wk174 {gI:Gh} {wI:World} {x0:Int} {x1:List ChainCard} {up1:Value} (rp1:RV gI.m wI x1 up1) {r:Bool} (h:f174 x0 x1=some r):Fn Tryz.prog 174 #[Iz (x0),up1] gI wI (fun _ _ v=>v=.bool (r)):=by
 unfold f174 at h;refine fnE Tryz.func174 rfl rfl fun g0 hm hfr=>?_;have rp1:=RVc hm rp1;show E _ 16 none _ _ _ _ _;refine E_sr (EL_d0 rfl (D_box (g:=g0) rfl (Zj.2 rfl) fun g1 w1 p1 hs q1=>?_));have hfr:=hfr.ext hs;have rp1:=rp1.ext hs;refine Zg (.bool false) rfl rfl (EL_nt (E_sr (EL_p ((.func (.func 207) #[] #[p1])) (P_makeFunc (capf_0_1 (show ev _ _=p1 from rfl))) rfl (Zg ((.func (.func 207) #[] #[p1])) rfl rfl (EL_nt ?_)))));obtain ⟨o0,hx,h⟩:=bsome h;refine E_join (fun e w=>∃ (g:Gh) ,Fr gI wI g w∧e 4=.bool (o0)) (fun Q' hQ=>?_) (fun i6 w8 hR=>?_)
 ·replace h := hx
  clear hx;refine Za (Zn up1 rfl rfl (EL_p (Iz ((x1).length:Int)) (P_len Tryz.underlying90 rfl rp1) rfl (EL_in (.bool ((decide (((x1).length:Int) > (0:Int))))) rfl rfl rfl rfl (Zn (.bool ((decide (((x1).length:Int) > (0:Int))))) rfl rfl ?_))));rcases Zt h with ⟨hc5,h⟩ | ⟨hc5,h⟩
  ·refine EL_y up1 (Zk rfl) rfl rfl hc5 rfl (EL_y ((.func (.func 207) #[] #[p1])) (Zk rfl) rfl rfl hc5 rfl ?_)
   obtain ⟨y7,t5,h⟩:=bsome h;refine Ze (.yes2 rfl rfl hc5) rfl (Zp (g:=g1) (vs:=[up1,(.func (.func 207) #[] #[p1])]) en209 (.cons rfl (.cons rfl .nil)) (wk209 rp1 ⟨207,#[],#[p1],rfl,en207,fun g' w' hch a0 b0 r hu0 hr=>by exact Fn.mono (wk207 hu0 (q1.ch hch) hr) fun _ _ _ h=>RV_bool.2 h⟩ t5) fun g6 w6_ v6 hs hr=>?_);have hfr:=hfr.ext hs;subst hr;refine EL_y (.bool (!y7)) (P_not rfl) rfl rfl hc5 rfl (EL_p (.bool (!y7)) (Zl (b:=(decide (((x1).length:Int) > (0:Int)))) rfl (pick_t hc5 rfl)) rfl (Zg (.bool (!y7)) rfl rfl (Zb ?_)));obtain rfl:=sinj h;exact hQ _ _ ⟨g6,hfr,rfl⟩
  ·refine EL_s rfl rfl hc5 rfl rfl ?_
   iterate 3 refine EL_s rfl rfl hc5 rfl rfl ?_
   refine EL_p (.bool false) (Zl (b:=(decide (((x1).length:Int) > (0:Int)))) rfl (pick_f hc5 rfl)) rfl (Zg (.bool false) rfl rfl (Zb ?_));obtain rfl:=sinj h;exact hQ _ _ ⟨g1,hfr,rfl⟩
 ·clear hx
  obtain ⟨g8,hfr,l5⟩:=hR;refine E_ret ?_;obtain rfl:=sinj h;exact end1 rfl rfl (show _=.bool (o0) from l5) ⟨_,hfr,rfl⟩
def f15 (x0:Design):Option (Str × Int):=
 jn (σ:=Unit) (fun _=>
  Option.bind (α:=Str) (
   lp (σ:=Str × Int) (fun rE (l9,o0)=>
    bif (decide (o0 < (((x0).Rows).length : Int))) then
     Option.bind (α:=Str) (
      (idx ((x0).Rows) o0).bind fun aB=>
      (f55 aB ((x0).Hooks)).bind fun y56=>
      (sadd y56 (⟨[10]⟩:Str)).bind fun lD=>
      (sadd l9 lD).bind fun zB=>
      some (zB)
      ) fun l8=>
     rE (l8,(w64 (o0 + (1:Int))))
    else
     some (l9)
    ) big ((⟨[]⟩:Str),(0:Int))
   ) fun t5=>
  some (t5,(0:Int))
  ) fun k6=>
 (f54 x0).bind fun y9=>
 bif (y9 != (0 : Int)) then
  some ((⟨[]⟩:Str),y9)
 else
  k6 ()
theorem en15:Enters Tryz.prog 15:=enters_of Tryz.func15 (by kernel_rfl) rfl
theorem wk15 {gI:Gh} {wI:World} {x0:Design} {up0:Value} (rp0:RV gI.m wI x0 up0) {r:Str × Int} (h:f15 x0=some r):Fn Tryz.prog 15 #[up0] gI wI (fun m w v=>∃ y0 y1,v=.tuple #[y0,y1]∧y0=Str.v (r.1)∧y1=Iz (r.2)):=by
 unfold f15 at h;refine fnE Tryz.func15 rfl rfl fun g0 hm hfr=>?_;have rp0:=RVc hm rp0;show E _ 28 none _ _ _ _ _;refine E_sr (EL_d0 rfl (D_box (g:=g0) rfl rp0 fun g1 w1 p1 hs q1=>?_));have hfr:=hfr.ext hs;refine Zg (Str.v (⟨[]⟩:Str)) rfl rfl (Zg (Iz (0)) rfl rfl (EL_nt (Zq h (fun (s:Unit) e w=>∃ (g:Gh) ,Fr gI wI g w∧e 1=p1∧PT g.m w (x0:Design) p1∧e 2=Str.v ((⟨[]⟩:Str))) (fun X6 k6 hk6 h=>?_) ?_)))
 ·refine E_sr (EL_d0 rfl (D_load (g := g1) Tryz.isAgg24 Tryz.sizeOf24 rfl q1 fun v7 r7 => ?_))
  obtain ⟨y9,cF,h⟩:=bsome h;refine EL_d0 rfl (Zp (g:=g1) (vs:=[v7]) en54 (.cons rfl .nil) (wk54 r7 cF) fun g8 w8_ v8 hs hr=>?_);have hfr:=hfr.ext hs;have q1:=q1.ext hs;subst hr;refine Zg (Iz (y9)) rfl rfl (EL_nt (E_sr (Zn (Iz (y9)) rfl rfl (EL_in (.bool ((y9 != (0:Int)))) rfl rfl rfl rfl (EL_nt ?_)))));rcases Zt h with ⟨oB,h⟩ | ⟨oB,h⟩
  ·refine E_ct oB rfl (E_sr (Zn (Iz (y9)) rfl rfl (Zg (Str.v (⟨[]⟩ : Str)) rfl rfl (Zg (Iz (y9)) rfl rfl (EL_nt (E_ret (thn_r ?_)))))))
   obtain rfl:=sinj h;exact end2 rfl rfl (rq (Str.v (⟨[]⟩:Str))) (rq (Iz (y9))) ⟨_,hfr,_,_,rfl,rfl,rfl⟩
  ·refine E_cf oB rfl ?_
   exact Zu (Zd (hk6 () _ _ ⟨g8,hfr,rfl,q1,rfl⟩ h))
 ·rintro _ xF w11 ⟨g11, hfr, cC, n9, bE⟩ h
  obtain ⟨t5,hx,h⟩:=bsome h;refine E_join (fun e w=>∃ (g:Gh) ,Fr gI wI g w∧e 2=Str.v (t5)) (fun Q' hQ=>?_) (fun yF eG hR=>?_)
  ·replace h := hx
   clear hx;refine E_sr (EL_p (fPtr p1 1) (Zc at_24_1 cC (PT.ptr n9)) rfl ?_);have dF:=Zm (part_Design_1).1 n9;refine EL_d0 rfl (D_load (g:=g11) Tryz.isAgg22 Tryz.sizeOf22 rfl dF fun lB uE=>(EL_p (Iz (((x0).Rows).length:Int)) (P_len Tryz.underlying22 rfl uE) rfl (Zn (Iz (0)) rfl rfl (EL_nt (Zr (E_lp h (fun (s:Str × Int) e w=>∃ (g:Gh) ,Fr gI wI g w∧e 1=p1∧PT g.m w (x0:Design) p1∧e 2=Str.v (s.1)∧e 13=lB∧RV g.m w ((x0).Rows:List Int) lB∧e 14=Iz ((((x0).Rows).length:Int))∧e 15=Iz (s.2)) ⟨g11,hfr,cC,n9,bE,rfl,uE,rfl,rfl⟩ (fun X38 rE vE=>?_)))))));rintro ⟨l9,o0⟩ aG gG ⟨uC,hfr,bD,i6,cD,mB,l5,nB,n8⟩ h;refine E_sr (EL_p (.bool ((decide (o0 < (((x0).Rows).length:Int))))) (P_int n8 nB rfl) rfl (EL_nt (Zf ?_)));rcases Zt h with ⟨yB,h⟩ | ⟨yB,h⟩
   ·refine E_ct yB rfl (Zu (Zd ?_))
    obtain ⟨l8,hx,h⟩:=bsome h;refine E_join (fun e w=>∃ (g:Gh) ,Fr gI wI g w∧e 1=p1∧PT g.m w (x0:Design) p1∧e 2=Str.v (l8)∧e 13=lB∧RV g.m w ((x0).Rows:List Int) lB∧e 14=Iz ((((x0).Rows).length:Int))∧e 15=Iz (o0)) (fun Q' hQ=>?_) (fun bG iG hR=>?_)
    ·replace h := hx
     clear hx;refine Zr (E_sr ?_);obtain ⟨aB,nD,h⟩:=bsome h;refine EL_p (ePtr lB o0 1) (Zh (α:=Int) Tryz.underlying22 Tryz.sizeOf3 mB l5 n8 nD) rfl ?_;have eF:=PT_idx l5 nD;refine EL_d0 rfl (D_load (g:=uC) Tryz.isAgg3 Tryz.sizeOf3 rfl eF fun jG rF=>?_);obtain rfl:=Zj.1 rF;refine Zg (Iz (aB)) rfl rfl (EL_nt (Za (Zo cD rfl (Zn (Iz (aB)) rfl rfl (EL_p (fPtr p1 0) (Zc at_24_0 bD (PT.ptr i6)) rfl ?_)))));have sF:=Zm (part_Design_0).1 i6;refine EL_d0 rfl (D_load (g:=uC) Tryz.isAgg3 Tryz.sizeOf3 rfl sF fun kG tF=>?_);obtain rfl:=Zj.1 tF;obtain ⟨y56,xE,h⟩:=bsome h;refine EL_d0 rfl (Zp (g:=uC) (vs:=[Iz (aB),Iz ((x0).Hooks)]) en55 (.cons rfl (.cons rfl .nil)) (wk55  xE) fun uF cG lG hs hr=>?_);have hfr:=hfr.ext hs;have i6:=i6.ext hs;have l5:=l5.ext hs;subst hr;obtain ⟨lD,yE,h⟩:=bsome h;refine EL_p (Str.v (lD)) (P_str rfl rfl (sadd_sop yE)) rfl ?_;obtain ⟨zB,zE,h⟩:=bsome h;refine EL_p (Str.v (zB)) (P_str rfl rfl (sadd_sop zE)) rfl (Zg (Str.v (zB)) rfl rfl (Zb (blk_n ?_)));obtain rfl:=sinj h;exact hQ _ _ ⟨uF,hfr,bD,i6,rfl,mB,l5,nB,n8⟩
    ·clear hx
     obtain ⟨vF,hfr,iE,lE,mE,oD,yD,zD,aE⟩:=hR;refine Za (EL_in (Iz ((w64 (o0 + (1:Int))))) aE rfl rfl rfl (Zn (Iz ((w64 (o0 + (1:Int))))) rfl rfl ?_));exact EL_nt (vE (l8,(w64 (o0 + (1:Int)))) _ _ ⟨vF,hfr,iE,lE,mE,oD,yD,zD,rfl⟩ h)
   ·refine E_cf yB rfl (E_exit (thn_e (thn_e (blk_hit ?_))))
    obtain rfl:=sinj h;exact hQ _ _ ⟨uC,hfr,cD⟩
  ·clear hx
   obtain ⟨mG,hfr,oE⟩:=hR;refine E_sr (Zo oE rfl (Zg (Str.v (t5)) rfl rfl (Zg (Iz (0)) rfl rfl (EL_nt (E_ret ?_)))));obtain rfl:=sinj h;exact end2 rfl rfl (rq (Str.v (t5))) (rq (Iz (0))) ⟨_,hfr,_,_,rfl,rfl,rfl⟩
def f31 (x0:List BookCloth):Option ((List UInt8) × Int × Int):=
 jn (σ:=Unit) (fun _=>
  jn (σ:=(List UInt8)) (fun bE=>
   some (bE,(0:Int),(0:Int))
   ) fun bI=>
  lp (σ:=(List UInt8) × Int) (fun dI (mB,o0)=>
   bif (decide (o0 < ((x0).length : Int))) then
    jn (σ:=(List UInt8)) (fun cC=>
     dI (cC,(w64 (o0 + (1:Int))))
     ) fun iI=>
    (idx x0 o0).bind fun uC=>
    jn (σ:=Unit) (fun _=>
     (f90 uC).bind fun cG=>
     (cut ((cG).toList) 0 ((8:Nat):Int)).bind fun eG=>
     (apnd 1 mB eG).bind fun lE=>
     iI (lE)
     ) fun gG=>
    (f88 uC).bind fun lD=>
    bif (!lD) then
     some ([],o0,(2:Int))
    else
     Option.bind (α:=Bool) (
      bif (decide (o0 > (0 : Int))) then
       (idx x0 (w64 (o0 - (1:Int)))).bind fun iG=>
       (f89 iG uC).bind fun zB=>
       some ((decide (zB ≥ (0:Int))))
      else
       some (false)
      ) fun nB=>
     bif nB then
      some ([],o0,(4:Int))
     else
      gG ()
   else
    bI (mB)
   ) big ([],(0:Int))
  ) fun k2=>
 bif (decide (((x0).length : Int) > (100 : Int))) then
  some ([],(0:Int),(5:Int))
 else
  k2 ()
theorem en31:Enters Tryz.prog 31:=enters_of Tryz.func31 (by kernel_rfl) rfl
theorem wk31 {gI:Gh} {wI:World} {x0:List BookCloth} {up0:Value} (rp0:RV gI.m wI x0 up0) {r:(List UInt8) × Int × Int} (h:f31 x0=some r):Fn Tryz.prog 31 #[up0] gI wI (fun m w v=>∃ y0 y1 y2,v=.tuple #[y0,y1,y2]∧RV m w (r.1) y0∧y1=Iz (r.2.1)∧y2=Iz (r.2.2)):=by
 unfold f31 at h;refine fnE Tryz.func31 rfl rfl fun g0 hm hfr=>?_;have rp0:=RVc hm rp0;show E _ 44 none _ _ _ _ _;refine E_sr (Zg (.slice none 0 0) rfl rfl (Zg (Iz (0)) rfl rfl (Zg (Iz (0)) rfl rfl (EL_nt (Zq h (fun (s:Unit) e w=>∃ (g:Gh) ,Fr gI wI g w∧e 0=up0∧RV g.m w (x0:List BookCloth) up0∧e 2=.slice none 0 0∧RV g.m w ([]:List UInt8) (Value.slice none 0 0)) (fun X2 k2 hk2 h=>?_) ?_)))))
 ·refine E_sr (Zn up0 rfl rfl (EL_p (Iz ((x0).length : Int)) (P_len Tryz.underlying49 rfl rp0) rfl (EL_in (.bool ((decide (((x0).length : Int) > (100 : Int))))) rfl rfl rfl rfl (EL_nt ?_))))
  rcases Zt h with ⟨hc3,h⟩ | ⟨hc3,h⟩
  ·refine E_ct hc3 rfl (E_sr (Zg (.slice none 0 0) rfl rfl (Zg (Iz (0)) rfl rfl (Zg (Iz (5)) rfl rfl (EL_nt (E_ret (thn_r ?_)))))))
   obtain rfl:=sinj h;exact end3 rfl rfl (rq (.slice none 0 0)) (rq (Iz (0))) (rq (Iz (5))) ⟨_,hfr,_,_,_,rfl,RV_nil,rfl,rfl⟩
  ·refine E_cf hc3 rfl ?_
   exact Zu (Zd (hk2 () _ _ ⟨g0,hfr,rfl,rp0,rfl,RV_nil⟩ h))
 ·rintro _ kM w4 ⟨g4, hfr, jI, yE, pK, qK⟩ h
  refine Zq h (fun (s:(List UInt8)) e w=>∃ (g:Gh) (v2:Value),Fr gI wI g w∧e 2=v2∧RV g.m w (s:List UInt8) v2∧OS 1002 g w 5 (s:List UInt8) v2) (fun X587 bI kJ h=>?_) ?_
  ·refine E_sr (Zo jI rfl (EL_p (Iz ((x0).length : Int)) (P_len Tryz.underlying49 rfl yE) rfl (Zn (Iz (0)) rfl rfl (EL_nt (Zr (E_lp h (fun (s : (List UInt8) × Int) e w => ∃ (g : Gh) (v2 : Value), Fr gI wI g w ∧ e 0 = up0 ∧ RV g.m w (x0 : List BookCloth) up0 ∧ e 2 = v2 ∧ RV g.m w (s.1 : List UInt8) v2 ∧ OS 1002 g w 5 (s.1 : List UInt8) v2 ∧ e 11 = up0 ∧ RV g.m w (x0 : List BookCloth) up0 ∧ e 12 = Iz (((x0).length : Int)) ∧ e 13 = Iz (s.2)) ⟨g4, (.slice none 0 0), hfr, jI, yE, pK, qK, OS.nil, rfl, yE, rfl, rfl⟩ (fun X588 dI lJ => ?_)))))))
   rintro ⟨mB,o0⟩ eL eM ⟨zE,oB,hfr,nD,i6,oD,l8,n8,bD,l5,cD,yB⟩ h;refine E_sr (EL_in (.bool ((decide (o0 < ((x0).length:Int))))) yB cD rfl rfl (EL_nt (Zf ?_)));rcases Zt h with ⟨mE,h⟩ | ⟨mE,h⟩
   ·refine E_ct mE rfl (Zu (Zd (Zq h (fun (s : (List UInt8)) e w => ∃ (g : Gh) (v2 : Value), Fr gI wI g w ∧ e 0 = up0 ∧ RV g.m w (x0 : List BookCloth) up0 ∧ e 2 = v2 ∧ RV g.m w (s : List UInt8) v2 ∧ OS 1002 g w 5 (s : List UInt8) v2 ∧ e 11 = up0 ∧ RV g.m w (x0 : List BookCloth) up0 ∧ e 12 = Iz (((x0).length : Int)) ∧ e 13 = Iz (o0)) (fun X879 iI mJ h => ?_) ?_)))
    ·refine Zr (E_sr (Zo yB rfl ?_))
     obtain ⟨uC,jG,h⟩:=bsome h;refine EL_p (ePtr up0 o0 5) (Zh (α:=BookCloth) Tryz.underlying49 Tryz.sizeOf63 bD l5 yB jG) rfl ?_;have sK:=PT_idx l5 jG;refine EL_d0 rfl (D_load (g:=zE) Tryz.isAgg63 Tryz.sizeOf63 rfl sK fun tK cF=>(EL_d0 rfl (D_allocOc (g:=zE) 2006 (⟨0,0,0,0,0⟩:BookCloth) Tryz.zeroValue63 (fun m w=>⟨_,(rep_two rep_int (rep_two rep_int (rep_two rep_int (rep_two rep_int rep_int)))),rfl⟩) fun uK iM oE hs b883 cb=>?_)));have hfr:=hfr.stp hs;have i6:=i6.stp hs;have l8:=l8.stp hs;have n8:=n8.stp hs rfl;have l5:=l5.stp hs;have cF:=cF.stp hs;clear cb;refine Zg (Iz (o0)) rfl rfl (EL_d0 rfl (D_storeOc (g:=uK) (v:=tK) Tryz.sizeOf63 rfl b883 rfl cF fun kI jM hs b884 cb=>?_));clear cb;have hfr:=hfr.stp hs;have i6:=i6.stp hs;have l8:=l8.stp hs;have n8:=n8.stp hs rfl;have l5:=l5.stp hs;refine EL_nt (Zq h (fun (s:Unit) e w=>∃ (g:Gh) ,Fr gI wI g w∧e 0=up0∧RV g.m w (x0:List BookCloth) up0∧e 2=oB∧RV g.m w (mB:List UInt8) oB∧OS 1002 g w 5 (mB:List UInt8) oB∧e 6=oE∧OB 2006 g w 63 (uC:BookCloth) oE∧e 11=up0∧RV g.m w (x0:List BookCloth) up0∧e 12=Iz (((x0).length:Int))∧e 13=Iz (o0)) (fun X1021 gG lI h=>?_) ?_)
     ·refine Zr (E_sr (EL_d0 rfl (D_loadO (g := kI) Tryz.isAgg63 Tryz.sizeOf63 rfl b884 fun nJ oJ => ?_)))
      obtain ⟨lD,mI,h⟩:=bsome h;refine EL_d0 rfl (Zp (g:=kI) (vs:=[nJ]) en88 (.cons rfl .nil) (wk88 oJ mI) fun kG xK gL hs hr=>?_);have hfr:=hfr.ext hs;have i6:=i6.ext hs;have l8:=l8.ext hs;have n8:=n8.ext hs;have l5:=l5.ext hs;have b884:=b884.ext hs;subst hr;refine EL_p (.bool (!lD)) (P_not rfl) rfl (Zg (.bool (!lD)) rfl rfl (EL_nt ?_));rcases Zt h with ⟨yD,h⟩ | ⟨yD,h⟩
      ·refine E_ct yD rfl (E_sr (Zn (Iz (o0)) rfl rfl (Zg (.slice none 0 0) rfl rfl (Zg (Iz (o0)) rfl rfl (Zg (Iz (2)) rfl rfl (EL_nt (E_ret (blk_r (thn_r (blk_r (thn_r (thn_r (blk_r (thn_r ?_))))))))))))))
       obtain rfl:=sinj h;exact end3 rfl rfl (rq (.slice none 0 0)) (rq (Iz (o0))) (rq (Iz (2))) ⟨_,hfr,_,_,_,rfl,RV_nil,rfl,rfl⟩
      ·refine E_cf yD rfl ?_
       obtain ⟨nB,hx,h⟩:=bsome h;refine E_join (fun e w=>∃ (g:Gh) ,Fr gI wI g w∧e 0=up0∧RV g.m w (x0:List BookCloth) up0∧e 2=oB∧RV g.m w (mB:List UInt8) oB∧OS 1002 g w 5 (mB:List UInt8) oB∧e 5=Iz (o0)∧e 6=oE∧OB 2006 g w 63 (uC:BookCloth) oE∧e 11=up0∧RV g.m w (x0:List BookCloth) up0∧e 12=Iz (((x0).length:Int))∧e 13=Iz (o0)∧e 23=.bool (nB)) (fun Q' hQ=>?_) (fun yK iL hR=>?_)
       ·replace h := hx
        clear hx;rcases Zt h with ⟨n9,h⟩ | ⟨n9,h⟩
        ·obtain ⟨iG, vE, h⟩ := bsome h
         have pJ:=PT_idx i6 vE;refine Zs (x:=.tmp 30) Tryz.isAgg63 Tryz.sizeOf63 pJ fun lG qJ nI=>(L_loadO0 (x:=.tmp 6) Tryz.isAgg63 Tryz.sizeOf63 b884 fun mG rJ pI=>?_);obtain ⟨zB,qI,h⟩:=bsome h;refine E_drawL (g:=kG) (n:=13) [(9,(fun v g w=>v=Iz (zB)))] [0,1,2,3,4,5,6,7,8,9,10,11,12] rfl mixed (by kernel_rfl) (⟨fun _=>up_eq _,trivial⟩) (L_p (Iz (o0)) rfl rfl (Zk rfl) (L_p (.bool ((decide (o0 > (0:Int))))) rfl rfl (P_int rfl rfl rfl) (L_p (.bool ((decide (o0 > (0:Int))))) rfl rfl (Zk rfl) (L_y up0 rfl rfl rfl rfl n9 (Zk nD) (L_y (Iz (o0)) rfl rfl rfl rfl n9 (Zk rfl) (L_y (Iz ((w64 (o0 - (1:Int))))) rfl rfl rfl rfl n9 (P_int rfl rfl rfl) (L_y (ePtr up0 (w64 (o0 - (1:Int))) 5) rfl rfl rfl rfl n9 (Zh (α:=BookCloth) Tryz.underlying49 Tryz.sizeOf63 rfl i6 rfl vE) (L_ld (c:=lG) rfl rfl (.yes2 rfl rfl n9) (fun _ _ h=>h.ch) nI rfl (L_ld (c:=mG) rfl rfl (.yes2 rfl rfl n9) (fun _ _ h=>⟨h.ch,fun b hb _=>h.below.block b hb⟩) pI rfl (L_do (φ:=fun v g w=>v=Iz (zB)) rfl rfl (.yes2 rfl rfl n9) (fun g w hd=>Zp (g:=g) (vs:=[lG,mG]) en89 (.cons rfl (.cons rfl .nil)) (wk89 (qJ.ext hd.1) (rJ.ext hd.1) qI) fun g' w' v hs hr=>⟨g',hs,hr⟩) (fun jL hv=>?_)))))))))));obtain ⟨_,_,_,rfl⟩:=hv;refine L_y (.bool ((decide (zB ≥ (0:Int))))) rfl rfl rfl rfl n9 (P_int rfl rfl rfl) (L_p (.bool ((decide (zB ≥ (0:Int))))) rfl rfl (Zl (b:=(decide (o0 > (0:Int)))) rfl (pick_t n9 rfl)) (L_p (.bool ((decide (zB ≥ (0:Int))))) rfl rfl (P_assign rfl) (L_nl fun sJ lL hs=>?_)));have hfr:=hfr.ext hs;have i6:=i6.ext hs;have l8:=l8.ext hs;have n8:=n8.ext hs;have l5:=l5.ext hs;have b884:=b884.ext hs;clear hs;refine Zb ?_;obtain rfl:=sinj h;exact hQ _ _ ⟨sJ,hfr,nD,i6,oD,l8,n8,rfl,rfl,b884,bD,l5,cD,yB,rfl⟩
        ·refine E_drawL (g := kG) (n := 13) [] [0, 1, 2, 3, 4, 5, 6, 7, 8, 9, 10, 11, 12] rfl mixed (by kernel_rfl) trivial (L_p (Iz (o0)) rfl rfl (Zk rfl) (L_p (.bool ((decide (o0 > (0 : Int))))) rfl rfl (P_int rfl rfl rfl) (L_p (.bool ((decide (o0 > (0 : Int))))) rfl rfl (Zk rfl) ?_)))
         iterate 8 refine L_s rfl rfl rfl n9 rfl ?_
         refine L_p (.bool false) rfl rfl (Zl (b:=(decide (o0 > (0:Int)))) rfl (pick_f n9 rfl)) (L_p (.bool false) rfl rfl (P_assign rfl) (L_nl fun vJ mL hs=>?_));have hfr:=hfr.ext hs;have i6:=i6.ext hs;have l8:=l8.ext hs;have n8:=n8.ext hs;have l5:=l5.ext hs;have b884:=b884.ext hs;clear hs;refine Zb ?_;obtain rfl:=sinj h;exact hQ _ _ ⟨vJ,hfr,nD,i6,oD,l8,n8,rfl,rfl,b884,bD,l5,cD,yB,rfl⟩
       ·clear hx
        obtain ⟨xJ,hfr,yG,zG,aH,cH,gH,jH,kH,lH,dF,eF,rF,sF,zD⟩:=hR;rcases Zt h with ⟨aE,h⟩ | ⟨aE,h⟩
        ·refine E_cond_true (Eq.trans (show ev _ _ = .bool (nB) from zD) (congrArg Value.bool aE)) (E_sr (Zo jH rfl (Zg (.slice none 0 0) rfl rfl (Zg (Iz (o0)) rfl rfl (Zg (Iz (4)) rfl rfl (EL_nt (E_ret (blk_r (thn_r (blk_r (thn_r (thn_r (blk_r (thn_r ?_))))))))))))))
         obtain rfl:=sinj h;exact end3 rfl rfl (rq (.slice none 0 0)) (rq (Iz (o0))) (rq (Iz (4))) ⟨_,hfr,_,_,_,rfl,RV_nil,rfl,rfl⟩
        ·refine E_cond_false (Eq.trans (show ev _ _ = .bool (nB) from zD) (congrArg Value.bool aE)) ?_
         exact Zu (blk_n (Zd (lI () _ _ ⟨xJ,hfr,yG,zG,aH,cH,gH,kH,lH,dF,eF,rF,sF⟩ h)))
     ·rintro _ zK nL ⟨sG, hfr, mH, l9, nH, aB, lB, oH, pH, tF, t5, uF, vF⟩ h
      refine E_sr (EL_d0 rfl (D_loadO (g:=sG) Tryz.isAgg63 Tryz.sizeOf63 oH pH fun zJ aK=>?_));obtain ⟨cG,sI,h⟩:=bsome h;refine EL_d0 rfl (Zp (g:=sG) (vs:=[zJ]) en90 (.cons rfl .nil) (wk90 aK sI) fun bK aL cK hs hr=>?_);have hfr:=hfr.ext hs;have l9:=l9.ext hs;have aB:=aB.ext hs;have lB:=lB.ext hs;have t5:=t5.ext hs;have rE:=hr;refine EL_d0 rfl (D_allocOc (g:=bK) 2007 ((⟨List.toArray [0,0,0,0,0,0,0,0],rfl⟩:Vector UInt8 8):Vector UInt8 8) Tryz.zeroValue155 (fun m w=>⟨_,(rep_vec (flat_chunk rep_u8 (flat_chunk rep_u8 (flat_chunk rep_u8 (flat_chunk rep_u8 (flat_chunk rep_u8 (flat_chunk rep_u8 (flat_chunk rep_u8 (flat_chunk rep_u8 flat_nil)))))))) rfl),rfl⟩) fun dK oL uE hs b1162 cb=>?_);have hfr:=hfr.stp hs;have l9:=l9.stp hs;have aB:=aB.stp hs;have lB:=lB.stp hs rfl;have t5:=t5.stp hs;have rE:=rE.stp hs;clear cb;refine EL_d0 rfl (D_storeOc (g:=dK) (v:=cK) Tryz.sizeOf155 rfl b1162 rfl rE fun xL yL hs b1163 cb=>?_);clear cb;have hfr:=hfr.stp hs;have l9:=l9.stp hs;have aB:=aB.stp hs;have lB:=lB.stp hs rfl;have t5:=t5.stp hs;obtain ⟨gp1163,hs,qp1163⟩:=OB.pub b1163;have hfr:=hfr.stp hs;have l9:=l9.stp hs;have aB:=aB.stp hs;have lB:=lB.stp hs rfl;have t5:=t5.stp hs;refine EL_nt (Za (Zo nH rfl ?_));obtain ⟨eG,xE,h⟩:=bsome h;have lK:=RV_cut (RV_arr (p:=uE) qp1163) xE;refine EL_p ((cutV (arrV uE 8) 0 (Int.toNat ((8:Nat):Int)) 1)) (P_sliceArr (p:=uE) Tryz.underlying155 Tryz.sizeOf5 rfl qp1163 rfl xE) rfl ?_;obtain ⟨lE,jJ,h⟩:=bsome h;refine EL_d0 rfl (D_append (g:=gp1163) (i:=1002) Tryz.underlying50 info_5 rfl rfl lB aB rfl lK jJ fun mK zL xG hs o1166 nK _=>?_);have hfr:=hfr.stp hs;have l9:=l9.stp hs;have t5:=t5.stp hs;refine Zg xG rfl rfl ?_;exact Zb (blk_n (Zd (mJ (lE) _ _ ⟨mK,(xG),hfr,mH,l9,rfl,nK,o1166,tF,t5,uF,vF⟩ h)))
    ·rintro cC bL aM ⟨oK, qH, hfr, sH, tH, uH, xH, yH, xF, yF, aG, bG⟩ h
     refine Za (EL_in (Iz ((w64 (o0 + (1:Int))))) bG rfl rfl rfl (Zn (Iz ((w64 (o0 + (1:Int))))) rfl rfl ?_));exact EL_nt (lJ (cC,(w64 (o0 + (1:Int)))) _ _ ⟨oK,(qH),hfr,sH,tH,uH,xH,yH,xF,yF,aG,rfl⟩ h)
   ·refine E_cf mE rfl (E_exit (thn_e (thn_e (blk_hit ?_))))
    exact Zd (kJ (mB) _ _ ⟨zE,(oB),hfr,oD,l8,n8⟩ h)
  ·rintro bE dL cM ⟨dM, iE, hfr, zH, aI, vK⟩ h
   refine E_sr (Zo zH rfl (Zg iE rfl rfl (Zg (Iz (0)) rfl rfl (Zg (Iz (0)) rfl rfl (EL_nt (E_ret ?_))))));obtain rfl:=sinj h;exact end3 rfl rfl (rq iE) (rq (Iz (0))) (rq (Iz (0))) ⟨_,hfr,_,_,_,rfl,aI,rfl,rfl⟩
def f32 (x0:List UInt8):Option ((List BookCloth) × Int × Int):=
 jn (σ:=(List BookCloth) × Int × Int) (fun (xH,yH,zH)=>
  jn (σ:=(List BookCloth) × Int × Int) (fun (eF,mK,nK)=>
   some (eF,(0:Int),(0:Int))
   ) fun xK=>
  (f91 x0).bind fun rF=>
  (rF (Nat × (List BookCloth) × Int × Int) (guardC fun (l5,cD,lD) mG=>
   (f92 mG).bind fun l9=>
   Option.bind (α:=Int) (
    Option.bind (α:=Bool) (
     bif (l9.2 == (0 : Int)) then
      bif (decide (((l5).length : Int) > (0 : Int))) then
       (idx l5 (w64 (((l5).length:Int) - (1:Int)))).bind fun mJ=>
       (f89 mJ (l9.1)).bind fun yD=>
       some ((decide (yD ≥ (0:Int))))
      else
       some (false)
     else
      some (false)
     ) fun bD=>
    bif bD then
     some ((4:Int))
    else
     some (l9.2)
    ) fun zB=>
   jn (σ:=(List BookCloth) × Int × Int) (fun (sG,xG,yG)=>
    (apnd 40 sG (([l9.1]:List BookCloth))).bind fun aI=>
    some (true,((0:Nat),(aI,xG,yG)))
    ) fun nJ=>
   bif (zB != (0 : Int)) then
    some (false,((1:Nat),([],((l5).length:Int),zB)))
   else
    nJ (l5,cD,lD)
   ) (0,(xH,yH,zH))).bind fun (zD,(aE,bE,iE))=>
  bif Nat.beq zD 0 then
   xK (aE,bE,iE)
  else
   some (aE,bE,iE)
  ) fun uN=>
 bif (decide (((x0).length : Int) > (800 : Int))) then
  some ([],(0:Int),(5:Int))
 else
  (rem64 ((x0).length:Int) (8:Int)).bind fun nI=>
  bif (nI != (0 : Int)) then
   some ([],(0:Int),(4:Int))
  else
   uN (([]:List BookCloth),(0:Int),(0:Int))
theorem en32:Enters Tryz.prog 32:=enters_of Tryz.func32 (by kernel_rfl) rfl
theorem wk32 {gI:Gh} {wI:World} {x0:List UInt8} {up0:Value} (rp0:RV gI.m wI x0 up0) {r:(List BookCloth) × Int × Int} (h:f32 x0=some r):Fn Tryz.prog 32 #[up0] gI wI (fun m w v=>∃ y0 y1 y2,v=.tuple #[y0,y1,y2]∧RV m w (r.1) y0∧y1=Iz (r.2.1)∧y2=Iz (r.2.2)):=by
 unfold f32 at h;refine fnD_of_E Tryz.func32 rfl (Nat.le_of_ble_eq_true rfl) fun g0 hm hfr=>?_;have hmk:MkF g0 wI []:=MkF.start;have rp0:=RVc hm rp0;show E _ 53 none _ _ _ _ _;refine E_sr (EL_d0 rfl (D_allocOc (g:=g0) 2002 ([]:List BookCloth) Tryz.zeroValue49 (fun m w=>⟨_,rep_nil,rfl⟩) fun g1 w1 p1 hs b1 cb=>?_));have hfr:=hfr.stp hs;have hmk:=hmk.stp hs;have rp0:=rp0.stp hs;have cG:OSF 2002 60200 0 g1 w1 63 49 ([]:List BookCloth) p1:=cb.osf (by rfl);clear cb;refine EL_d0 rfl (D_allocOc (g:=g1) 2003 (0:Int) Tryz.zeroValue3 (fun m w=>⟨_,rep_int,rfl⟩) fun g2 w2 p2 hs b2 cb=>?_);have hfr:=hfr.stp hs;have hmk:=hmk.stp hs;have rp0:=rp0.stp hs;have cG:=cG.stp hs rfl;have b1:=b1.stp hs rfl;clear cb;refine EL_d0 rfl (D_allocOc (g:=g2) 2004 (0:Int) Tryz.zeroValue27 (fun m w=>⟨_,rep_int,rfl⟩) fun g3 w3 p3 hs b3 cb=>?_);have hfr:=hfr.stp hs;have hmk:=hmk.stp hs;have rp0:=rp0.stp hs;have cG:=cG.stp hs rfl;have b1:=b1.stp hs rfl;have b2:=b2.stp hs rfl;clear cb;refine EL_nt (E_joinCD h (fun (s:(List BookCloth) × Int × Int) e ds w=>∃ (g:Gh) ,Fr gI wI g w∧MkF g w ds∧e 0=up0∧RV g.m w (x0:List UInt8) up0∧e 2=p1∧OB 2002 g w 49 (s.1:List BookCloth) p1∧OSF 2002 60200 0 g w 63 49 (s.1) p1∧e 3=p2∧OB 2003 g w 3 (s.2.1:Int) p2∧e 4=p3∧OB 2004 g w 27 (s.2.2:Int) p3) (fun X21 uN yN h=>?_) ?_)
 ·refine Zr (E_sr (Zn up0 rfl rfl (EL_p (Iz ((x0).length : Int)) (P_len Tryz.underlying50 rfl rp0) rfl (EL_in (.bool ((decide (((x0).length : Int) > (800 : Int))))) rfl rfl rfl rfl (Zg (.bool ((decide (((x0).length : Int) > (800 : Int))))) rfl rfl (EL_nt ?_))))))
  rcases Zt h with ⟨sI,h⟩ | ⟨sI,h⟩
  ·refine E_ct sI rfl (E_sr (EL_d0 rfl (D_storeOc (g := g3) (v := .slice none 0 0) Tryz.sizeOf49 rfl b1 rfl RV_nil fun vN rO hs b23 cb => ?_)))
   have dP:OSF 2002 60200 0 vN rO 63 49 ([]:List BookCloth) p1:=cb.osfr (rfl) OS.nil;clear cb;have hfr:=hfr.stp hs;have hmk:=hmk.stp hs;have b2:=b2.stp hs rfl;have b3:=b3.stp hs rfl;refine EL_d0 rfl (D_storeOc (g:=vN) (v:=Iz (0)) Tryz.sizeOf3 rfl b2 rfl (Zj.2 rfl) fun sO uQ hs b24 cb=>?_);clear cb;have hfr:=hfr.stp hs;have hmk:=hmk.stp hs;have b23:=b23.stp hs rfl;have b3:=b3.stp hs rfl;refine EL_d0 rfl (D_storeOc (g:=sO) (v:=Iz (5)) Tryz.sizeOf27 rfl b3 rfl (Zj.2 rfl) fun vQ xQ hs b25 cb=>?_);clear cb;have hfr:=hfr.stp hs;have hmk:=hmk.stp hs;have b23:=b23.stp hs rfl;have b24:=b24.stp hs rfl;refine EL_nt (E_ret (blk_r (thn_r (endM (.inr rfl) hmk fun yQ zQ hs=>?_))));have hfr:=hfr.stp hs;have b23:=b23.stp hs rfl;have b24:=b24.stp hs rfl;have b25:=b25.stp hs rfl;obtain rfl:=sinj h;obtain ⟨ad27,cv27,hp27,zN,cr27⟩:=ob_read Tryz.isAgg49 Tryz.sizeOf49 b23;obtain ⟨ad28,cv28,hp28,aO,cr28⟩:=ob_read Tryz.isAgg3 Tryz.sizeOf3 b24;obtain rfl:=Zj.1 cr28;obtain ⟨ad29,cv29,hp29,bO,cr29⟩:=ob_read Tryz.isAgg27 Tryz.sizeOf27 b25;obtain rfl:=Zj.1 cr29;exact endm_ccc rfl rfl ((rq p1).trans hp27) zN ((rq p2).trans hp28) aO ((rq p3).trans hp29) bO ⟨_,hfr,_,_,_,rfl,cr27,rfl,rfl⟩
  ·refine E_cf sI rfl (E_sr (Zn up0 rfl rfl (EL_p (Iz ((x0).length : Int)) (P_len Tryz.underlying50 rfl rp0) rfl ?_)))
   obtain ⟨nI,cO,h⟩:=bsome h;refine EL_p (Iz (nI)) (P_int rfl rfl (congrArg (Option.map (Value.int .i64)) cO)) rfl (EL_in (.bool ((nI != (0:Int)))) rfl rfl rfl rfl (Zg (.bool ((nI != (0:Int)))) rfl rfl (EL_nt ?_)));rcases Zt h with ⟨jJ,h⟩ | ⟨jJ,h⟩
   ·refine E_ct jJ rfl (E_sr (EL_d0 rfl (D_storeOc (g := g3) (v := .slice none 0 0) Tryz.sizeOf49 rfl b1 rfl RV_nil fun xN tO hs b32 cb => ?_)))
    have eP:OSF 2002 60200 0 xN tO 63 49 ([]:List BookCloth) p1:=cb.osfr (rfl) OS.nil;clear cb;have hfr:=hfr.stp hs;have hmk:=hmk.stp hs;have b2:=b2.stp hs rfl;have b3:=b3.stp hs rfl;refine EL_d0 rfl (D_storeOc (g:=xN) (v:=Iz (0)) Tryz.sizeOf3 rfl b2 rfl (Zj.2 rfl) fun uO aR hs b33 cb=>?_);clear cb;have hfr:=hfr.stp hs;have hmk:=hmk.stp hs;have b32:=b32.stp hs rfl;have b3:=b3.stp hs rfl;refine EL_d0 rfl (D_storeOc (g:=uO) (v:=Iz (4)) Tryz.sizeOf27 rfl b3 rfl (Zj.2 rfl) fun dR eR hs b34 cb=>?_);clear cb;have hfr:=hfr.stp hs;have hmk:=hmk.stp hs;have b32:=b32.stp hs rfl;have b33:=b33.stp hs rfl;refine EL_nt (E_ret (blk_r (thn_r (endM (.inr rfl) hmk fun gR iR hs=>?_))));have hfr:=hfr.stp hs;have b32:=b32.stp hs rfl;have b33:=b33.stp hs rfl;have b34:=b34.stp hs rfl;obtain rfl:=sinj h;obtain ⟨ad36,cv36,hp36,dO,cr36⟩:=ob_read Tryz.isAgg49 Tryz.sizeOf49 b32;obtain ⟨ad37,cv37,hp37,eO,cr37⟩:=ob_read Tryz.isAgg3 Tryz.sizeOf3 b33;obtain rfl:=Zj.1 cr37;obtain ⟨ad38,cv38,hp38,gO,cr38⟩:=ob_read Tryz.isAgg27 Tryz.sizeOf27 b34;obtain rfl:=Zj.1 cr38;exact endm_ccc rfl rfl ((rq p1).trans hp36) dO ((rq p2).trans hp37) eO ((rq p3).trans hp38) gO ⟨_,hfr,_,_,_,rfl,cr36,rfl,rfl⟩
   ·refine E_cf jJ rfl ?_
    exact Zu (blk_n (Zd (yN (([]:List BookCloth),(0:Int),(0:Int)) _ _ _ ⟨g3,hfr,hmk,rfl,rp0,rfl,b1,cG,rfl,b2,rfl,b3⟩ h)))
 ·rintro ⟨xH, yH, zH⟩ sQ yE jR ⟨vO, hfr, hmk, zL, aM, yB, bI, u2_0_39, zE, dI, cF, iI⟩ h
  refine E_joinCD h (fun (s:(List BookCloth) × Int × Int) e ds w=>∃ (g:Gh) ,Fr gI wI g w∧MkF g w ds∧e 2=p1∧OB 2002 g w 49 (s.1:List BookCloth) p1∧OSF 2002 60200 0 g w 63 49 (s.1) p1∧e 3=p2∧OB 2003 g w 3 (s.2.1:Int) p2∧e 4=p3∧OB 2004 g w 27 (s.2.2:Int) p3) (fun X969 xK cM h=>?_) ?_
  ·refine E_sr (Zo zL rfl ?_)
   obtain ⟨rF,dM,h⟩:=bsome h;refine EL_d0 rfl (Zp (g:=vO) (vs:=[up0]) en91 (.cons rfl .nil) (wk91 aM dM) fun tQ gP vE hs hr=>?_);have hfr:=hfr.ext hs;have hmk:=hmk.ext hs;have u2_0_39:=u2_0_39.ext hs;have bI:=bI.ext hs;have dI:=dI.ext hs;have iI:=iI.ext hs;have yK:=hr;refine EL_nt (Zr ?_);have hB0:=hfr.size;have hmk0:=hmk;obtain ⟨⟨zD,⟨aE,bE,iE⟩⟩,hφ,h⟩:=bsome h;refine E_rangeFunc (σ:=(Nat × (List BookCloth) × Int × Int)) (s0:=(0,(xH,yH,zH))) 10 rfl (fun s=>s.1) [.ret] (fun (s:Nat × (List BookCloth) × Int × Int) (g:Gh) (w:World)=>Fr gI wI g w∧MkF g w yE∧OB 2002 g w 49 (s.2.1:List BookCloth) p1∧OSF 2002 60200 0 g w 63 49 (s.2.1) p1∧OB 2003 g w 3 (s.2.2.1:Int) p2∧OB 2004 g w 27 (s.2.2.2:Int) p3∧ItV Tryz.prog (RA1 (α:=(Vector UInt8 8))) rF vE g.m w) rfl yK hφ (fun _ _ _ h=>(guardC_h h).1) rfl ra1_size rfl (fun _ _ _ _ _ hx hR=>by obtain ⟨hfr,hmk,z2,z3,z4,z5,z6⟩:=hR; exact ⟨hfr.ist hx hB0,hmk.ist hx,z2.ist hx,z3.ist hx,z4.ist hx,z5.ist hx,z6.ist hx⟩) (fun _ _ _ _ _ hx hR=>by obtain ⟨hfr,hmk,z2,z3,z4,z5,z6⟩:=hR; exact ⟨hfr.stp hx,hmk.stp hx,z2.stp hx rfl,z3.stp hx rfl,z4.stp hx rfl,z5.stp hx rfl,z6.stp hx⟩) ⟨hfr,hmk,bI,u2_0_39,dI,iI,yK⟩ (fun _ h=>by cases h) ?_ ?_
   ·intro eG sF s x b s2 dF bG vs hsz h hR hrec_0 kJ hrd
    obtain ⟨hs0,h⟩:=guardC_h h;obtain ⟨st,⟨l5,cD,lD⟩⟩:=s;obtain ⟨hfr,hmk,i6,u2_0_1432,l8,n8,t5⟩:=hR;obtain ⟨mG,hxe⟩:∃ y,y=x:=⟨x,rfl⟩;subst hxe;obtain ⟨oK,rfl,xE⟩:=ra1_get hrd;have o0:=RFr.refl dF bG;refine Za (EL_d0 rfl (D_allocOc (g:=dF) 2005 ((⟨List.toArray [0,0,0,0,0,0,0,0],rfl⟩:Vector UInt8 8):Vector UInt8 8) Tryz.zeroValue155 (fun m w=>⟨_,(rep_vec (flat_chunk rep_u8 (flat_chunk rep_u8 (flat_chunk rep_u8 (flat_chunk rep_u8 (flat_chunk rep_u8 (flat_chunk rep_u8 (flat_chunk rep_u8 (flat_chunk rep_u8 flat_nil)))))))) rfl),rfl⟩) fun eM iP jP hs b1433 cb=>?_));have hfr:=hfr.stp hs;have hmk:=hmk.stp hs;have o0:=o0.stp hs;have hrec_0:=hrec_0.stp hs rfl;have u2_0_1432:=u2_0_1432.stp hs rfl;have i6:=i6.stp hs rfl;have l8:=l8.stp hs rfl;have n8:=n8.stp hs rfl;have t5:=t5.stp hs;have xE:=xE.stp hs;clear cb;refine EL_d0 rfl (D_storeOc (g:=eM) (v:=oK) Tryz.sizeOf155 rfl b1433 rfl xE fun oJ kP hs b1434 cb=>?_);clear cb;have hfr:=hfr.stp hs;have hmk:=hmk.stp hs;have o0:=o0.stp hs;have hrec_0:=hrec_0.stp hs rfl;have u2_0_1432:=u2_0_1432.stp hs rfl;have i6:=i6.stp hs rfl;have l8:=l8.stp hs rfl;have n8:=n8.stp hs rfl;have t5:=t5.stp hs;refine EL_nt ?_;obtain ⟨iM,hbr,hs,hrN⟩:=begin_round hrec_0 kJ;refine ⟨iM,hbr,?_⟩;have hfr:=hfr.stp hs;have hmk:=hmk.stp hs;have o0:=o0.stp hs;have u2_0_1432:=u2_0_1432.stp hs rfl;have i6:=i6.stp hs rfl;have l8:=l8.stp hs rfl;have n8:=n8.stp hs rfl;have t5:=t5.stp hs;have b1434:=b1434.stp hs rfl;have hrec_0:=hrN;clear hbr hs hrN;refine Zr (E_sr (EL_d0 rfl (D_loadO (g:=oJ) Tryz.isAgg155 Tryz.sizeOf155 rfl b1434 fun jM kM=>?_)));obtain ⟨l9,zK,h⟩:=bsome h;refine EL_d0 rfl (Zp (g:=oJ) (vs:=[jM]) en92 (.cons rfl .nil) (wk92 kM zK) fun pM xO lP hs hr=>?_);have hfr:=hfr.ext hs;have hmk:=hmk.ext hs;have o0:=o0.ext hs;have hrec_0:=hrec_0.ext hs;have u2_0_1432:=u2_0_1432.ext hs;have i6:=i6.ext hs;have l8:=l8.ext hs;have n8:=n8.ext hs;have t5:=t5.ext hs;obtain ⟨tF,lO,rfl,uF,rfl⟩:=hr;refine Zn (.tuple #[tF,Iz (l9.2)]) rfl rfl (EL_p tF (Zi rfl rfl) rfl (EL_p (Iz (l9.2)) (Zi rfl rfl) rfl (EL_d0 rfl (D_allocOc (g:=pM) 2006 (⟨0,0,0,0,0⟩:BookCloth) Tryz.zeroValue63 (fun m w=>⟨_,(rep_two rep_int (rep_two rep_int (rep_two rep_int (rep_two rep_int rep_int)))),rfl⟩) fun qM mP lE hs b1439 cb=>?_))));have hfr:=hfr.stp hs;have hmk:=hmk.stp hs;have o0:=o0.stp hs;have hrec_0:=hrec_0.stp hs rfl;have u2_0_1432:=u2_0_1432.stp hs rfl;have i6:=i6.stp hs rfl;have l8:=l8.stp hs rfl;have n8:=n8.stp hs rfl;have t5:=t5.stp hs;have uF:=uF.stp hs;clear cb;refine EL_d0 rfl (D_storeOc (g:=qM) (v:=tF) Tryz.sizeOf63 rfl b1439 rfl uF fun jI nP hs b1440 cb=>?_);clear cb;have hfr:=hfr.stp hs;have hmk:=hmk.stp hs;have o0:=o0.stp hs;have hrec_0:=hrec_0.stp hs rfl;have u2_0_1432:=u2_0_1432.stp hs rfl;have i6:=i6.stp hs rfl;have l8:=l8.stp hs rfl;have n8:=n8.stp hs rfl;have t5:=t5.stp hs;refine Zg (Iz (l9.2)) rfl rfl (EL_nt ?_);obtain ⟨zB,hx,h⟩:=bsome h;refine E_join (fun e w=>∃ (g:Gh) ,Fr gI wI g w∧MkF g w yE∧RFr dF bG g w∧HB 10 g w eG (.loop { sF with state:=.busy })∧e 2=p1∧OB 2002 g w 49 (l5:List BookCloth) p1∧OSF 2002 60200 0 g w 63 49 (l5) p1∧e 3=p2∧OB 2003 g w 3 (cD:Int) p2∧e 4=p3∧OB 2004 g w 27 (lD:Int) p3∧e 6=lE∧OB 2006 g w 63 (l9.1:BookCloth) lE∧e 7=Iz (zB)∧e 18=vE∧ItV Tryz.prog (RA1 (α:=(Vector UInt8 8))) rF vE g.m w) (fun Q' hQ=>?_) (fun yO oP hR=>?_)
    ·replace h := hx
     clear hx;obtain ⟨bD,hx,h⟩:=bsome h;refine E_join (fun e w=>∃ (g:Gh) ,Fr gI wI g w∧MkF g w yE∧RFr dF bG g w∧HB 10 g w eG (.loop { sF with state:=.busy })∧e 2=p1∧OB 2002 g w 49 (l5:List BookCloth) p1∧OSF 2002 60200 0 g w 63 49 (l5) p1∧e 3=p2∧OB 2003 g w 3 (cD:Int) p2∧e 4=p3∧OB 2004 g w 27 (lD:Int) p3∧e 6=lE∧OB 2006 g w 63 (l9.1:BookCloth) lE∧e 7=Iz (l9.2)∧e 18=vE∧ItV Tryz.prog (RA1 (α:=(Vector UInt8 8))) rF vE g.m w∧e 42=.bool (bD)) (fun Q' hQ=>?_) (fun zO pP hR=>?_)
     ·replace h := hx
      clear hx;rcases Zt h with ⟨aB,h⟩ | ⟨aB,h⟩
      ·refine L_loadOS (x := .tmp 2) Tryz.isAgg49 Tryz.sizeOf49 i6 u2_0_1432 fun pJ qJ o1765 pI => ?_
       rcases Zt h with ⟨n9,h⟩ | ⟨n9,h⟩
       ·refine L_loadOS (x := .tmp 2) Tryz.isAgg49 Tryz.sizeOf49 i6 u2_0_1432 fun rJ sJ o1767 aL => (L_loadOS (x := .tmp 2) Tryz.isAgg49 Tryz.sizeOf49 i6 u2_0_1432 fun rM sM o1768 bL => ?_)
        obtain ⟨mJ,qI,h⟩:=bsome h;have tM:=PT_idx sJ qI;refine Zs (x:=.tmp 37) Tryz.isAgg63 Tryz.sizeOf63 tM fun vJ uM dL=>(L_loadO0 (x:=.tmp 6) Tryz.isAgg63 Tryz.sizeOf63 b1440 fun xJ vM eL=>?_);obtain ⟨yD,gL,h⟩:=bsome h;refine E_drawL (g:=jI) (n:=18) [(15,(fun v g w=>v=Iz (yD)))] [0,1,2,3,4,5,6,7,8,9,10,11,12,13,14,15,16,17] rfl mixed (by kernel_rfl) (⟨fun _=>up_eq _,trivial⟩) (L_p (Iz (l9.2)) rfl rfl (Zk rfl) (L_p (.bool ((l9.2 == (0:Int)))) rfl rfl (P_int rfl rfl rfl) (L_p (.bool ((l9.2 == (0:Int)))) rfl rfl (Zk rfl) (L_ld (c:=pJ) rfl rfl (.yes2 rfl rfl aB) (fun _ _ h=>⟨h.ch,fun b hb _=>h.below.block b hb⟩) pI yB (L_y (Iz ((l5).length:Int)) rfl rfl rfl rfl aB (P_len Tryz.underlying49 rfl qJ) (L_y (.bool ((decide (((l5).length:Int) > (0:Int))))) rfl rfl rfl rfl aB (P_int rfl rfl rfl) (L_p (.bool ((decide (((l5).length:Int) > (0:Int))))) rfl rfl (Zl (b:=(l9.2 == (0:Int))) rfl (pick_t aB rfl)) (L_p (.bool ((decide (((l5).length:Int) > (0:Int))))) rfl rfl (Zk rfl) (L_ld (c:=rJ) rfl rfl (.yes2 rfl rfl n9) (fun _ _ h=>⟨h.ch,fun b hb _=>h.below.block b hb⟩) aL yB (L_ld (c:=rM) rfl rfl (.yes2 rfl rfl n9) (fun _ _ h=>⟨h.ch,fun b hb _=>h.below.block b hb⟩) bL yB (L_y (Iz ((l5).length:Int)) rfl rfl rfl rfl n9 (P_len Tryz.underlying49 rfl sM) (L_y (Iz ((w64 (((l5).length:Int) - (1:Int))))) rfl rfl rfl rfl n9 (P_int rfl rfl rfl) (L_y (ePtr rJ (w64 (((l5).length:Int) - (1:Int))) 5) rfl rfl rfl rfl n9 (Zh (α:=BookCloth) Tryz.underlying49 Tryz.sizeOf63 rfl sJ rfl qI) (L_ld (c:=vJ) rfl rfl (.yes2 rfl rfl n9) (fun _ _ h=>h.ch) dL rfl (L_ld (c:=xJ) rfl rfl (.yes2 rfl rfl n9) (fun _ _ h=>⟨h.ch,fun b hb _=>h.below.block b hb⟩) eL rfl (L_do (φ:=fun v g w=>v=Iz (yD)) rfl rfl (.yes2 rfl rfl n9) (fun g w hd=>Zp (g:=g) (vs:=[vJ,xJ]) en89 (.cons rfl (.cons rfl .nil)) (wk89 (uM.ext hd.1) (vM.ext hd.1) gL) fun g' w' v hs hr=>⟨g',hs,hr⟩) (fun sP hv=>?_)))))))))))))))));obtain ⟨_,_,_,rfl⟩:=hv;refine L_y (.bool ((decide (yD ≥ (0:Int))))) rfl rfl rfl rfl n9 (P_int rfl rfl rfl) (L_p (.bool ((decide (yD ≥ (0:Int))))) rfl rfl (Zl (b:=(decide (((l5).length:Int) > (0:Int)))) rfl (pick_t n9 rfl)) (L_nl fun xM tP hs=>?_));have hfr:=hfr.ext hs;have hmk:=hmk.ext hs;have o0:=o0.ext hs;have hrec_0:=hrec_0.ext hs;have u2_0_1432:=u2_0_1432.ext hs;have i6:=i6.ext hs;have l8:=l8.ext hs;have n8:=n8.ext hs;have t5:=t5.ext hs;have b1440:=b1440.ext hs;clear hs;refine Zb ?_;obtain rfl:=sinj h;exact hQ _ _ ⟨xM,hfr,hmk,o0,hrec_0,yB,i6,u2_0_1432,zE,l8,cF,n8,rfl,b1440,rfl,rfl,t5,rfl⟩
       ·refine E_drawL (g := jI) (n := 18) [] [0, 1, 2, 3, 4, 5, 6, 7, 8, 9, 10, 11, 12, 13, 14, 15, 16, 17] rfl mixed (by kernel_rfl) trivial (L_p (Iz (l9.2)) rfl rfl (Zk rfl) (L_p (.bool ((l9.2 == (0 : Int)))) rfl rfl (P_int rfl rfl rfl) (L_p (.bool ((l9.2 == (0 : Int)))) rfl rfl (Zk rfl) (L_ld (c := pJ) rfl rfl (.yes2 rfl rfl aB) (fun _ _ h => ⟨h.ch, fun b hb _ => h.below.block b hb⟩) pI yB (L_y (Iz ((l5).length : Int)) rfl rfl rfl rfl aB (P_len Tryz.underlying49 rfl qJ) (L_y (.bool ((decide (((l5).length : Int) > (0 : Int))))) rfl rfl rfl rfl aB (P_int rfl rfl rfl) (L_p (.bool ((decide (((l5).length : Int) > (0 : Int))))) rfl rfl (Zl (b := (l9.2 == (0 : Int))) rfl (pick_t aB rfl)) (L_p (.bool ((decide (((l5).length : Int) > (0 : Int))))) rfl rfl (Zk rfl) ?_))))))))
        iterate 9 refine L_s rfl rfl rfl n9 rfl ?_
        refine L_p (.bool false) rfl rfl (Zl (b:=(decide (((l5).length:Int) > (0:Int)))) rfl (pick_f n9 rfl)) (L_nl fun bN uP hs=>?_);have hfr:=hfr.ext hs;have hmk:=hmk.ext hs;have o0:=o0.ext hs;have hrec_0:=hrec_0.ext hs;have u2_0_1432:=u2_0_1432.ext hs;have i6:=i6.ext hs;have l8:=l8.ext hs;have n8:=n8.ext hs;have t5:=t5.ext hs;have b1440:=b1440.ext hs;clear hs;refine Zb ?_;obtain rfl:=sinj h;exact hQ _ _ ⟨bN,hfr,hmk,o0,hrec_0,yB,i6,u2_0_1432,zE,l8,cF,n8,rfl,b1440,rfl,rfl,t5,rfl⟩
      ·refine E_drawL (g := jI) (n := 18) [] [0, 1, 2, 3, 4, 5, 6, 7, 8, 9, 10, 11, 12, 13, 14, 15, 16, 17] rfl mixed (by kernel_rfl) trivial (L_p (Iz (l9.2)) rfl rfl (Zk rfl) (L_p (.bool ((l9.2 == (0 : Int)))) rfl rfl (P_int rfl rfl rfl) (L_p (.bool ((l9.2 == (0 : Int)))) rfl rfl (Zk rfl) ?_)))
       iterate 3 refine L_s rfl rfl rfl aB rfl ?_
       refine L_p (.bool false) rfl rfl (Zl (b:=(l9.2 == (0:Int))) rfl (pick_f aB rfl)) (L_dead (fun _=>rfl) 11 rfl (L_nl fun cN vP hs=>?_));have hfr:=hfr.ext hs;have hmk:=hmk.ext hs;have o0:=o0.ext hs;have hrec_0:=hrec_0.ext hs;have u2_0_1432:=u2_0_1432.ext hs;have i6:=i6.ext hs;have l8:=l8.ext hs;have n8:=n8.ext hs;have t5:=t5.ext hs;have b1440:=b1440.ext hs;clear hs;refine Zb ?_;obtain rfl:=sinj h;exact hQ _ _ ⟨cN,hfr,hmk,o0,hrec_0,yB,i6,u2_0_1432,zE,l8,cF,n8,rfl,b1440,rfl,rfl,t5,rfl⟩
     ·clear hx
      obtain ⟨zJ,hfr,hmk,o0,hrec_0,zG,aH,u2_0_1871,cH,gH,jH,kH,lH,mH,pK,gG,iG,jG⟩:=hR;rcases Zt h with ⟨kG,h⟩ | ⟨kG,h⟩
      ·refine E_cond_true (Eq.trans (show ev _ _ = .bool (bD) from jG) (congrArg Value.bool kG)) (Za (Zg (Iz (4)) rfl rfl (Zb ?_)))
       obtain rfl:=sinj h;exact hQ _ _ ⟨zJ,hfr,hmk,o0,hrec_0,zG,aH,u2_0_1871,cH,gH,jH,kH,lH,mH,rfl,gG,iG⟩
      ·refine E_cond_false (Eq.trans (show ev _ _ = .bool (bD) from jG) (congrArg Value.bool kG)) (Zu ?_)
       obtain rfl:=sinj h;exact hQ _ _ ⟨zJ,hfr,hmk,o0,hrec_0,zG,aH,u2_0_1871,cH,gH,jH,kH,lH,mH,pK,gG,iG⟩
    ·clear hx
     obtain ⟨kI,hfr,hmk,o0,hrec_0,vF,xF,u2_0_1873,nH,mE,oH,cC,qK,sK,pH,lJ,lB⟩:=hR;refine Zq h (fun (s:(List BookCloth) × Int × Int) e w=>∃ (g:Gh) ,Fr gI wI g w∧MkF g w yE∧RFr dF bG g w∧HB 10 g w eG (.loop { sF with state:=.busy })∧e 2=p1∧OB 2002 g w 49 (s.1:List BookCloth) p1∧OSF 2002 60200 0 g w 63 49 (s.1) p1∧e 3=p2∧OB 2003 g w 3 (s.2.1:Int) p2∧e 4=p3∧OB 2004 g w 27 (s.2.2:Int) p3∧e 6=lE∧OB 2006 g w 63 (l9.1:BookCloth) lE∧e 18=vE∧ItV Tryz.prog (RA1 (α:=(Vector UInt8 8))) rF vE g.m w) (fun X1879 nJ iL h=>?_) ?_
     ·refine E_sr (Zo pH rfl (EL_in (.bool ((zB != (0 : Int)))) rfl rfl rfl rfl (EL_nt ?_)))
      rcases Zt h with ⟨lG,h⟩ | ⟨lG,h⟩
      ·refine E_ct lG rfl (E_sr (EL_d0 rfl (D_loadOS (g := kI) Tryz.isAgg49 Tryz.sizeOf49 vF xF u2_0_1873 fun xP dN o1881 => (EL_p (Iz ((l5).length : Int)) (P_len Tryz.underlying49 rfl dN) rfl (Zo pH rfl (EL_d0 rfl (D_storeOc (g := kI) (v := .slice none 0 0) Tryz.sizeOf49 vF xF rfl RV_nil fun aK eN hs b1882 cb => ?_)))))))
       have nD:OSF 2002 60200 0 aK eN 63 49 ([]:List BookCloth) p1:=cb.osfr (rfl) OS.nil;clear cb;have hfr:=hfr.stp hs;have hmk:=hmk.stp hs;have o0:=o0.stp hs;have hrec_0:=hrec_0.stp hs rfl;have mE:=mE.stp hs rfl;have cC:=cC.stp hs rfl;have lB:=lB.stp hs;refine EL_d0 rfl (D_storeOc (g:=aK) (v:=Iz ((l5).length:Int)) Tryz.sizeOf3 nH mE rfl (Zj.2 rfl) fun gN yP hs b1883 cb=>?_);clear cb;have hfr:=hfr.stp hs;have hmk:=hmk.stp hs;have o0:=o0.stp hs;have hrec_0:=hrec_0.stp hs rfl;have nD:=nD.stp hs rfl;have b1882:=b1882.stp hs rfl;have cC:=cC.stp hs rfl;have lB:=lB.stp hs;refine EL_d0 rfl (D_storeOc (g:=gN) (v:=Iz (zB)) Tryz.sizeOf27 oH cC rfl (Zj.2 rfl) fun zP bQ hs b1884 cb=>?_);clear cb;have hfr:=hfr.stp hs;have hmk:=hmk.stp hs;have o0:=o0.stp hs;have hrec_0:=hrec_0.stp hs rfl;have nD:=nD.stp hs rfl;have b1882:=b1882.stp hs rfl;have b1883:=b1883.stp hs rfl;have lB:=lB.stp hs;refine EL_nt (E_ret (thn_r (blk_r ?_)));obtain ⟨rfl,rfl⟩:=pairs2 h;exact ⟨_,o0,⟨hfr,hmk,b1882,nD,b1883,b1884,lB⟩,hrec_0,rfl,0,rfl,rfl⟩
      ·refine E_cf lG rfl ?_
       exact Zu (Zd (iL (l5,cD,lD) _ _ ⟨kI,hfr,hmk,o0,hrec_0,vF,xF,u2_0_1873,nH,mE,oH,cC,qK,sK,lJ,lB⟩ h))
     ·rintro ⟨sG, xG, yG⟩ aP cQ ⟨lI, hfr, hmk, o0, hrec_0, qH, uC, u2_0_1885, mO, nB, nO, oB, tK, uK, jO, mB⟩ h
      refine Za (EL_d0 rfl (D_loadOS (g:=lI) Tryz.isAgg49 Tryz.sizeOf49 qH uC u2_0_1885 fun dQ mI o1886=>(EL_d0 rfl (D_loadO (g:=lI) Tryz.isAgg63 Tryz.sizeOf63 tK uK fun iN jN=>(EL_d0 rfl (D_buildSlice (g:=lI) 3050 (xs:=([l9.1]:List BookCloth)) (vs:=[iN]) Tryz.underlying49 Tryz.sizeOf63 Tryz.zeroValue63 rfl rfl (.cons rfl .nil) (RVs.cons jN RVs.nil) rfl rfl fun kN eQ gQ hs o1888 lN hxt hfl=>?_))))));have hfr:=hfr.stp hs;have hmk:=hmk.stp hs;have o0:=o0.stp hs;have hrec_0:=hrec_0.stp hs rfl;have uC:=uC.stp hs rfl;have nB:=nB.stp hs rfl;have oB:=oB.stp hs rfl;have mB:=mB.stp hs;have mI:=mI.stp hs;have o1886:=o1886.stp hs rfl;obtain ⟨aI,jL,h⟩:=bsome h;refine EL_d0 rfl (D_append (g:=kN) (i:=60200) Tryz.underlying49 info_63 rfl rfl o1886 mI rfl lN jL fun mN iQ nN hs o1889 bK _=>?_);have hfr:=hfr.stp hs;have hmk:=hmk.stp hs;have o0:=o0.stp hs;have hrec_0:=hrec_0.stp hs rfl;have uC:=uC.stp hs rfl;have nB:=nB.stp hs rfl;have oB:=oB.stp hs rfl;have mB:=mB.stp hs;refine EL_d0 rfl (D_storeOc (g:=mN) (v:=nN) Tryz.sizeOf49 qH uC rfl bK fun oN pN hs b1891 cb=>?_);have vK:OSF 2002 60200 0 oN pN 63 49 (aI:List BookCloth) p1:=cb.osfr (rv_cells1 bK) (o1889.stp hs rfl);clear cb;have hfr:=hfr.stp hs;have hmk:=hmk.stp hs;have o0:=o0.stp hs;have hrec_0:=hrec_0.stp hs rfl;have nB:=nB.stp hs rfl;have oB:=oB.stp hs rfl;have mB:=mB.stp hs;refine Zb (blk_n ?_);obtain ⟨rfl,rfl⟩:=pairs2 h;exact ⟨_,o0,⟨hfr,hmk,b1891,vK,nB,oB,mB⟩,hrec_0,rfl,rfl⟩
   ·intro qN jQ ds1893 hsz hR hds
    obtain ⟨hfr,hmk,oE,u2_0_1893,rE,uE,kO⟩:=hR;obtain ⟨D,hdse,hD,hDb⟩:=hds.1 rfl;subst hdse;replace hmk:=MkF.push hmk0 hmk hD hDb;clear hD hDb hds;revert hmk;generalize ({ target:=.collected D,args:=#[] } :: yE:List Deferred)=oO;intro hmk;refine ⟨fun hs=>?_,fun k c hs hc=>?_⟩
    ·have hs : zD = 0 := hs
     subst hs;replace h:=cond_t h rfl;exact blk_n (Zd (cM (aE,bE,iE) _ _ _ ⟨qN,hfr,hmk,yB,oE,u2_0_1893,zE,rE,cF,uE⟩ h))
    ·have hs : zD = k + 1 := hs
     match k,hs,hc with
     | 0,hs,hc=>
      subst hs;obtain rfl:=sinj hc;replace h:=cond_f h rfl;refine E_ret (blk_r (thn_r (endM (.inr rfl) hmk fun kQ lQ hs=>?_)));have hfr:=hfr.stp hs;have oE:=oE.stp hs rfl;have rE:=rE.stp hs rfl;have uE:=uE.stp hs rfl;obtain rfl:=sinj h;obtain ⟨ad1895,cv1895,hp1895,lL,cr1895⟩:=ob_read Tryz.isAgg49 Tryz.sizeOf49 oE;obtain ⟨ad1896,cv1896,hp1896,mL,cr1896⟩:=ob_read Tryz.isAgg3 Tryz.sizeOf3 rE;obtain rfl:=Zj.1 cr1896;obtain ⟨ad1897,cv1897,hp1897,nL,cr1897⟩:=ob_read Tryz.isAgg27 Tryz.sizeOf27 uE;obtain rfl:=Zj.1 cr1897;exact endm_ccc rfl rfl ((show _=p1 from yB).trans hp1895) lL ((show _=p2 from zE).trans hp1896) mL ((show _=p3 from cF).trans hp1897) nL ⟨_,hfr,_,_,_,rfl,cr1895,rfl,rfl⟩
     | n + 1,_,hc=>exact absurd hc (by simp)
  ·rintro ⟨eF, mK, nK⟩ cP pO mQ ⟨cK, hfr, hmk, yF, sH, u2_0_1898, tH, aG, uH, oD⟩ h
   refine E_sr (EL_d0 rfl (D_loadOS (g:=cK) Tryz.isAgg49 Tryz.sizeOf49 yF sH u2_0_1898 fun rN dK o1899=>(EL_d0 rfl (D_storeOc (g:=cK) (v:=rN) Tryz.sizeOf49 yF sH rfl dK fun lK sN hs b1900 cb=>?_))));have qO:OSF 2002 60200 0 lK sN 63 49 (eF:List BookCloth) p1:=cb.osfr (rv_cells1 dK) (o1899.stp hs rfl);clear cb;have hfr:=hfr.stp hs;have hmk:=hmk.stp hs;have aG:=aG.stp hs rfl;have oD:=oD.stp hs rfl;refine EL_d0 rfl (D_storeOc (g:=lK) (v:=Iz (0)) Tryz.sizeOf3 tH aG rfl (Zj.2 rfl) fun tN nQ hs b1901 cb=>?_);clear cb;have hfr:=hfr.stp hs;have hmk:=hmk.stp hs;have b1900:=b1900.stp hs rfl;have oD:=oD.stp hs rfl;refine EL_d0 rfl (D_storeOc (g:=tN) (v:=Iz (0)) Tryz.sizeOf27 uH oD rfl (Zj.2 rfl) fun oQ pQ hs b1902 cb=>?_);clear cb;have hfr:=hfr.stp hs;have hmk:=hmk.stp hs;have b1900:=b1900.stp hs rfl;have b1901:=b1901.stp hs rfl;refine EL_nt (E_ret (endM (.inr rfl) hmk fun qQ rQ hs=>?_));have hfr:=hfr.stp hs;have b1900:=b1900.stp hs rfl;have b1901:=b1901.stp hs rfl;have b1902:=b1902.stp hs rfl;obtain rfl:=sinj h;obtain ⟨ad1904,cv1904,hp1904,oL,cr1904⟩:=ob_read Tryz.isAgg49 Tryz.sizeOf49 b1900;obtain ⟨ad1905,cv1905,hp1905,xL,cr1905⟩:=ob_read Tryz.isAgg3 Tryz.sizeOf3 b1901;obtain rfl:=Zj.1 cr1905;obtain ⟨ad1906,cv1906,hp1906,yL,cr1906⟩:=ob_read Tryz.isAgg27 Tryz.sizeOf27 b1902;obtain rfl:=Zj.1 cr1906;exact endm_ccc rfl rfl ((show _=p1 from yF).trans hp1904) oL ((show _=p2 from tH).trans hp1905) xL ((show _=p3 from uH).trans hp1906) yL ⟨_,hfr,_,_,_,rfl,cr1904,rfl,rfl⟩
def f37 (x0:List UInt8):Option ((List BookCloth) × Int):=
 jn (σ:=Unit) (fun _=>
  (vecN 8 x0).bind fun y5=>
  jn (σ:=Unit) (fun _=>
   Option.bind (α:=(List BookCloth)) (
    lp (σ:=(List BookCloth) × Int) (fun sF (cC,l5)=>
     bif (decide (l5 < (8 : Int))) then
      Option.bind (α:=(List BookCloth)) (
       lp (σ:=(List BookCloth) × Int) (fun tF (mB,l8)=>
        bif (decide (l8 < (256 : Int))) then
         Option.bind (α:=(List BookCloth)) (
          (idx (y5).toList l5).bind fun uH=>
          (f92 ((vset y5 l5 ((u8w l8))))).bind fun l9=>
          bif (l9.2 == (0 : Int)) then
           (apnd 40 mB (([l9.1]:List BookCloth))).bind fun uF=>
           some (uF)
          else
           some (mB)
          ) fun n9=>
         tF (n9,(w64 (l8 + (1:Int))))
        else
         some (mB)
        ) big (cC,(0:Int))
       ) fun aB=>
      sF (aB,(w64 (l5 + (1:Int))))
     else
      some (cC)
     ) big ([],(0:Int))
    ) fun nB=>
   some (nB,(0:Int))
   ) fun tH=>
  (f92 y5).bind fun uC=>
  bif (uC.2 == (0 : Int)) then
   some ([],(6:Int))
  else
   tH ()
  ) fun k2=>
 bif (((x0).length : Int) != (8 : Int)) then
  some ([],(4:Int))
 else
  k2 ()
theorem en37:Enters Tryz.prog 37:=enters_of Tryz.func37 (by kernel_rfl) rfl
theorem wk37 {gI:Gh} {wI:World} {x0:List UInt8} {up0:Value} (rp0:RV gI.m wI x0 up0) {r:(List BookCloth) × Int} (h:f37 x0=some r):Fn Tryz.prog 37 #[up0] gI wI (fun m w v=>∃ y0 y1,v=.tuple #[y0,y1]∧RV m w (r.1) y0∧y1=Iz (r.2)):=by
 unfold f37 at h;refine fnE Tryz.func37 rfl rfl fun g0 hm hfr=>?_;have rp0:=RVc hm rp0;show E _ 50 none _ _ _ _ _;refine E_sr (Zg (.slice none 0 0) rfl rfl (Zg (Iz (0)) rfl rfl (EL_nt (Zq h (fun (s:Unit) e w=>∃ (g:Gh) ,Fr gI wI g w∧e 0=up0∧RV g.m w (x0:List UInt8) up0∧e 2=.slice none 0 0∧RV g.m w ([]:List BookCloth) (Value.slice none 0 0)) (fun X2 k2 hk2 h=>?_) ?_))))
 ·refine E_sr (Zn up0 rfl rfl (EL_p (Iz ((x0).length : Int)) (P_len Tryz.underlying50 rfl rp0) rfl (EL_in (.bool ((((x0).length : Int) != (8 : Int)))) rfl rfl rfl rfl (EL_nt ?_))))
  rcases Zt h with ⟨hc3,h⟩ | ⟨hc3,h⟩
  ·refine E_ct hc3 rfl (E_sr (Zg (.slice none 0 0) rfl rfl (Zg (Iz (4)) rfl rfl (EL_nt (E_ret (thn_r ?_))))))
   obtain rfl:=sinj h;exact end2 rfl rfl (rq (.slice none 0 0)) (rq (Iz (4))) ⟨_,hfr,_,_,rfl,RV_nil,rfl⟩
  ·refine E_cf hc3 rfl ?_
   exact Zu (Zd (hk2 () _ _ ⟨g0,hfr,rfl,rp0,rfl,RV_nil⟩ h))
 ·rintro _ mL w4 ⟨g4, hfr, xH, vF, yH, n8⟩ h
  refine E_sr (Zo xH rfl ?_);obtain ⟨y5,hy5,h⟩:=bsome h;have q6:=PT_arrAt vF hy5;refine EL_p ((ptrV up0)) (P_arrAt Tryz.underlying155 rfl vF hy5) rfl (EL_d0 rfl (D_load (g:=g4) Tryz.isAgg155 Tryz.sizeOf155 rfl q6 fun v7 r7=>(EL_d0 rfl (D_allocOc (g:=g4) 2004 ((⟨List.toArray [0,0,0,0,0,0,0,0],rfl⟩:Vector UInt8 8):Vector UInt8 8) Tryz.zeroValue155 (fun m w=>⟨_,(rep_vec (flat_chunk rep_u8 (flat_chunk rep_u8 (flat_chunk rep_u8 (flat_chunk rep_u8 (flat_chunk rep_u8 (flat_chunk rep_u8 (flat_chunk rep_u8 (flat_chunk rep_u8 flat_nil)))))))) rfl),rfl⟩) fun g8 w8 p8 hs b8 cb=>?_))));have hfr:=hfr.stp hs;have n8:=n8.stp hs;have r7:=r7.stp hs;clear cb;refine EL_d0 rfl (D_storeOc (g:=g8) (v:=v7) Tryz.sizeOf155 rfl b8 rfl r7 fun g9 w9 hs b9 cb=>?_);clear cb;have hfr:=hfr.stp hs;have n8:=n8.stp hs;refine EL_nt (Zq h (fun (s:Unit) e w=>∃ (g:Gh) ,Fr gI wI g w∧e 2=.slice none 0 0∧RV g.m w ([]:List BookCloth) (Value.slice none 0 0)∧e 4=p8∧OB 2004 g w 155 (y5:Vector UInt8 8) p8) (fun X16 tH zH h=>?_) ?_)
  ·refine E_sr (EL_d0 rfl (D_loadO (g := g9) Tryz.isAgg155 Tryz.sizeOf155 rfl b9 fun oJ pJ => ?_))
   obtain ⟨uC,aI,h⟩:=bsome h;refine EL_d0 rfl (Zp (g:=g9) (vs:=[oJ]) en92 (.cons rfl .nil) (wk92 pJ aI) fun qJ oK nL hs hr=>?_);have hfr:=hfr.ext hs;have n8:=n8.ext hs;have b9:=b9.ext hs;obtain ⟨oD,aK,rfl,yD,rfl⟩:=hr;refine Zn (.tuple #[oD,Iz (uC.2)]) rfl rfl (EL_p oD (Zi rfl rfl) rfl (EL_p (Iz (uC.2)) (Zi rfl rfl) rfl (EL_d0 rfl (D_allocOc (g:=qJ) 2005 (⟨0,0,0,0,0⟩:BookCloth) Tryz.zeroValue63 (fun m w=>⟨_,(rep_two rep_int (rep_two rep_int (rep_two rep_int (rep_two rep_int rep_int)))),rfl⟩) fun rJ oL xL hs b20 cb=>?_))));have hfr:=hfr.stp hs;have n8:=n8.stp hs;have b9:=b9.stp hs rfl;have yD:=yD.stp hs;clear cb;refine EL_d0 rfl (D_storeOc (g:=rJ) (v:=oD) Tryz.sizeOf63 rfl b20 rfl yD fun sJ yL hs b21 cb=>?_);clear cb;have hfr:=hfr.stp hs;have n8:=n8.stp hs;have b9:=b9.stp hs rfl;refine Zg (Iz (uC.2)) rfl rfl (EL_nt (E_sr (Zn (Iz (uC.2)) rfl rfl (EL_in (.bool ((uC.2 == (0:Int)))) rfl rfl rfl rfl (EL_nt ?_)))));rcases Zt h with ⟨vE,h⟩ | ⟨vE,h⟩
   ·refine E_ct vE rfl (E_sr (Zg (.slice none 0 0) rfl rfl (Zg (Iz (6)) rfl rfl (EL_nt (E_ret (thn_r ?_))))))
    obtain rfl:=sinj h;exact end2 rfl rfl (rq (.slice none 0 0)) (rq (Iz (6))) ⟨_,hfr,_,_,rfl,RV_nil,rfl⟩
   ·refine E_cf vE rfl ?_
    exact Zu (Zd (zH () _ _ ⟨sJ,hfr,yH,n8,rfl,b9⟩ h))
  ·rintro _ pK zL ⟨vJ, hfr, kH, lH, mH, nH⟩ h
   obtain ⟨nB,hx,h⟩:=bsome h;refine E_join (fun e w=>∃ (g:Gh) (v2:Value),Fr gI wI g w∧e 2=v2∧RV g.m w (nB:List BookCloth) v2∧OS 1002 g w 63 (nB:List BookCloth) v2) (fun Q' hQ=>?_) (fun bK qK hR=>?_)
   ·replace h := hx
    clear hx;refine E_sr (Zn (Iz (0)) rfl rfl (EL_nt (Zr (E_lp h (fun (s:(List BookCloth) × Int) e w=>∃ (g:Gh) (v2:Value),Fr gI wI g w∧e 2=v2∧RV g.m w (s.1:List BookCloth) v2∧OS 1002 g w 63 (s.1:List BookCloth) v2∧e 4=p8∧OB 2004 g w 155 (y5:Vector UInt8 8) p8∧e 25=Iz (s.2)) ⟨vJ,(.slice none 0 0),hfr,kH,lH,OS.nil,mH,nH,rfl⟩ (fun X101 sF oH=>?_)))));rintro ⟨cC,l5⟩ cK sK ⟨xF,iE,hfr,lE,mE,oE,yF,aG,yB⟩ h;refine E_sr (EL_in (.bool ((decide (l5 < (8:Int))))) yB rfl rfl rfl (EL_nt (Zf ?_)));rcases Zt h with ⟨zD,h⟩ | ⟨zD,h⟩
    ·refine E_ct zD rfl (Zu (Zd ?_))
     obtain ⟨aB,hx,h⟩:=bsome h;refine E_join (fun e w=>∃ (g:Gh) (v2:Value),Fr gI wI g w∧e 2=v2∧RV g.m w (aB:List BookCloth) v2∧OS 1002 g w 63 (aB:List BookCloth) v2∧e 4=p8∧OB 2004 g w 155 (y5:Vector UInt8 8) p8∧e 25=Iz (l5)) (fun Q' hQ=>?_) (fun dK tK hR=>?_)
     ·replace h := hx
      clear hx;refine Zr (E_sr (Zo yB rfl (Zg (Iz (l5)) rfl rfl (EL_nt (E_sr (Zn (Iz (0)) rfl rfl (EL_nt (Zr (E_lp h (fun (s:(List BookCloth) × Int) e w=>∃ (g:Gh) (v2:Value),Fr gI wI g w∧e 2=v2∧RV g.m w (s.1:List BookCloth) v2∧OS 1002 g w 63 (s.1:List BookCloth) v2∧e 4=p8∧OB 2004 g w 155 (y5:Vector UInt8 8) p8∧e 7=Iz (l5)∧e 25=Iz (l5)∧e 28=Iz (s.2)) ⟨xF,(iE),hfr,lE,mE,oE,yF,aG,rfl,yB,rfl⟩ (fun X140 tF pH=>?_))))))))));rintro ⟨mB,l8⟩ lK uK ⟨xE,rE,hfr,bD,t5,i6,oB,o0,cD,zB,lB⟩ h;refine E_sr (EL_in (.bool ((decide (l8 < (256:Int))))) lB rfl rfl rfl (EL_nt (Zf ?_)));rcases Zt h with ⟨aE,h⟩ | ⟨aE,h⟩
      ·refine E_ct aE rfl (Zu (Zd ?_))
       obtain ⟨n9,hx,h⟩:=bsome h;refine E_join (fun e w=>∃ (g:Gh) (v2:Value),Fr gI wI g w∧e 2=v2∧RV g.m w (n9:List BookCloth) v2∧OS 1002 g w 63 (n9:List BookCloth) v2∧e 4=p8∧OB 2004 g w 155 (y5:Vector UInt8 8) p8∧e 7=Iz (l5)∧e 25=Iz (l5)∧e 28=Iz (l8)) (fun Q' hQ=>?_) (fun mK vK hR=>?_)
       ·replace h := hx
        clear hx;refine Zr (E_sr (Zo lB rfl (Zg (Iz (l8)) rfl rfl (EL_nt (E_sr (EL_d0 rfl (D_loadO (g:=xE) Tryz.isAgg155 Tryz.sizeOf155 oB o0 fun bI yE=>(EL_d0 rfl (D_allocOc (g:=xE) 2009 ((⟨List.toArray [0,0,0,0,0,0,0,0],rfl⟩:Vector UInt8 8):Vector UInt8 8) Tryz.zeroValue155 (fun m w=>⟨_,(rep_vec (flat_chunk rep_u8 (flat_chunk rep_u8 (flat_chunk rep_u8 (flat_chunk rep_u8 (flat_chunk rep_u8 (flat_chunk rep_u8 (flat_chunk rep_u8 (flat_chunk rep_u8 flat_nil)))))))) rfl),rfl⟩) fun dI xK iI hs b160 cb=>?_)))))))));have hfr:=hfr.stp hs;have t5:=t5.stp hs;have i6:=i6.stp hs rfl;have o0:=o0.stp hs rfl;have yE:=yE.stp hs;clear cb;refine EL_d0 rfl (D_storeOc (g:=dI) (v:=bI) Tryz.sizeOf155 rfl b160 rfl yE fun jI yK hs b161 cb=>?_);clear cb;have hfr:=hfr.stp hs;have t5:=t5.stp hs;have i6:=i6.stp hs rfl;have o0:=o0.stp hs rfl;refine EL_nt (E_sr (Zo cD rfl (Zn (Iz (l8)) rfl rfl (EL_p (.int .u8 (UInt8.toNat ((u8w l8)))) (P_intu8 Tryz.underlying3 Tryz.underlying5 rfl) rfl ?_))));obtain ⟨uH,cF,h⟩:=bsome h;obtain ⟨hi163,he163⟩:=vat_idx cF;refine EL_p (fPtr iI ((l5:Int).toNat * 1)) (P_indexAddrA (α:=UInt8) Tryz.underlying155 Tryz.sizeOf5 rfl (OB.ptr b161) rfl cF) rfl (EL_d0 rfl (D_storeFc (g:=jI) (SubS.dyn hi163) Tryz.sizeOf5 rfl b161 rfl (RV_u8.2 rfl) fun bG zK hs b164 rst hos=>?_));clear rst hos;have hfr:=hfr.stp hs;have t5:=t5.stp hs;have i6:=i6.stp hs rfl;have o0:=o0.stp hs rfl;refine EL_nt (E_sr (EL_d0 rfl (D_loadO (g:=bG) Tryz.isAgg155 Tryz.sizeOf155 rfl b164 fun kI lI=>?_)));obtain ⟨l9,qH,h⟩:=bsome h;refine EL_d0 rfl (Zp (g:=bG) (vs:=[kI]) en92 (.cons rfl .nil) (wk92 lI qH) fun mI nK aL hs hr=>?_);have hfr:=hfr.ext hs;have t5:=t5.ext hs;have i6:=i6.ext hs;have o0:=o0.ext hs;obtain ⟨lD,xJ,rfl,nD,rfl⟩:=hr;refine Zn (.tuple #[lD,Iz (l9.2)]) rfl rfl (EL_p lD (Zi rfl rfl) rfl (EL_p (Iz (l9.2)) (Zi rfl rfl) rfl (EL_d0 rfl (D_allocOc (g:=mI) 2010 (⟨0,0,0,0,0⟩:BookCloth) Tryz.zeroValue63 (fun m w=>⟨_,(rep_two rep_int (rep_two rep_int (rep_two rep_int (rep_two rep_int rep_int)))),rfl⟩) fun nI bL dL hs b168 cb=>?_))));have hfr:=hfr.stp hs;have t5:=t5.stp hs;have i6:=i6.stp hs rfl;have o0:=o0.stp hs rfl;have nD:=nD.stp hs;clear cb;refine EL_d0 rfl (D_storeOc (g:=nI) (v:=lD) Tryz.sizeOf63 rfl b168 rfl nD fun zE eL hs b169 cb=>?_);clear cb;have hfr:=hfr.stp hs;have t5:=t5.stp hs;have i6:=i6.stp hs rfl;have o0:=o0.stp hs rfl;refine Zg (Iz (l9.2)) rfl rfl (EL_nt (E_sr (Zn (Iz (l9.2)) rfl rfl (EL_in (.bool ((l9.2 == (0:Int)))) rfl rfl rfl rfl (EL_nt ?_)))));rcases Zt h with ⟨bE,h⟩ | ⟨bE,h⟩
        ·refine E_ct bE rfl (Za (Zo bD rfl (EL_d0 rfl (D_loadO (g := zE) Tryz.isAgg63 Tryz.sizeOf63 rfl b169 fun pI qI => (EL_d0 rfl (D_buildSlice (g := zE) 3045 (xs := ([l9.1] : List BookCloth)) (vs := [pI]) Tryz.underlying49 Tryz.sizeOf63 Tryz.zeroValue63 rfl rfl (.cons rfl .nil) (RVs.cons qI RVs.nil) rfl rfl fun sI gL iL hs o172 jJ hxt hfl => ?_))))))
         have hfr:=hfr.stp hs;have t5:=t5.stp hs;have i6:=i6.stp hs rfl;have o0:=o0.stp hs rfl;obtain ⟨uF,sH,h⟩:=bsome h;refine EL_d0 rfl (D_append (g:=sI) (i:=1002) Tryz.underlying49 info_63 rfl rfl i6 t5 rfl jJ sH fun kJ jL cG hs o173 lJ _=>?_);have hfr:=hfr.stp hs;have o0:=o0.stp hs rfl;refine Zg cG rfl rfl (Zb (blk_n ?_));obtain rfl:=sinj h;exact hQ _ _ ⟨kJ,(cG),hfr,rfl,lJ,o173,oB,o0,cD,zB,lB⟩
        ·refine E_cf bE rfl (Zu (blk_n ?_))
         obtain rfl:=sinj h;exact hQ _ _ ⟨zE,(rE),hfr,bD,t5,i6,oB,o0,cD,zB,lB⟩
       ·clear hx
        obtain ⟨mJ,eG,hfr,gG,iG,jG,kG,lG,mG,dF,eF⟩:=hR;refine Za (EL_in (Iz ((w64 (l8 + (1:Int))))) eF rfl rfl rfl (Zn (Iz ((w64 (l8 + (1:Int))))) rfl rfl ?_));exact EL_nt (pH (n9,(w64 (l8 + (1:Int)))) _ _ ⟨mJ,(eG),hfr,gG,iG,jG,kG,lG,mG,dF,rfl⟩ h)
      ·refine E_cf aE rfl (E_exit (thn_e (thn_e (blk_hit (blk_n ?_)))))
       obtain rfl:=sinj h;exact hQ _ _ ⟨xE,(rE),hfr,bD,t5,i6,oB,o0,zB⟩
     ·clear hx
      obtain ⟨nJ,sG,hfr,xG,yG,zG,aH,cH,rF⟩:=hR;refine Za (EL_in (Iz ((w64 (l5 + (1:Int))))) rF rfl rfl rfl (Zn (Iz ((w64 (l5 + (1:Int))))) rfl rfl ?_));exact EL_nt (oH (aB,(w64 (l5 + (1:Int)))) _ _ ⟨nJ,(sG),hfr,xG,yG,zG,aH,cH,rfl⟩ h)
    ·refine E_cf zD rfl (E_exit (thn_e (thn_e (blk_hit ?_))))
     obtain rfl:=sinj h;exact hQ _ _ ⟨xF,(iE),hfr,lE,mE,oE⟩
   ·clear hx
    obtain ⟨lL,uE,hfr,gH,jH,zJ⟩:=hR;refine E_sr (Zo gH rfl (Zg uE rfl rfl (Zg (Iz (0)) rfl rfl (EL_nt (E_ret ?_)))));obtain rfl:=sinj h;exact end2 rfl rfl (rq uE) (rq (Iz (0))) ⟨_,hfr,_,_,rfl,jH,rfl⟩
theorem dk159 {gI:Gh} {wI:World} {x0:Int}  {r:Bool} (h:f159 x0=some r):FnD Tryz.prog 159 #[Iz (x0)] gI wI (fun _ _ v=>v=.bool (r)):=by
 unfold f159 at h;refine fnDr_of_E Tryz.func159 rfl (Nat.le_of_ble_eq_true rfl) fun g0 hm hfr=>?_;show E _ 6 none _ _ _ _ _;refine E_sr (Zg (.bool false) rfl rfl (EL_nt (E_sr (Zn (Iz (x0)) rfl rfl (Zn (Iz (x0)) rfl rfl (EL_in (.bool ((x0 != x0))) rfl rfl rfl rfl (Zg (.bool ((x0 != x0))) rfl rfl (EL_nt (E_ret ?_)))))))));obtain rfl:=sinj h;exact end1 rfl rfl (rq (.bool ((x0 != x0)))) ⟨_,hfr,rfl⟩
theorem dk130 {gI:Gh} {wI:World} {x0:Int} {x1:Int}  {r:Int} (h:f130 x0 x1=some r):FnD Tryz.prog 130 #[Iz (x0),Iz (x1)] gI wI (fun _ _ v=>v=Iz (r)):=by
 unfold f130 at h;refine fnDr_of_E Tryz.func130 rfl (Nat.le_of_ble_eq_true rfl) fun g0 hm hfr=>?_;show E _ 20 none _ _ _ _ _;refine E_sr (Zg (Iz (0)) rfl rfl (EL_nt (E_sr (Zn (Iz (x0)) rfl rfl ?_))));obtain ⟨y2,hy2,h⟩:=bsome h;refine EL_d0 rfl (D_callD (g:=g0) (vs:=[Iz (x0)]) en159 (.cons rfl .nil) (dk159  hy2) fun g1 w1_ v1 hs hr=>?_);have hfr:=hfr.ext hs;subst hr;refine Zg (.bool (y2)) rfl rfl (EL_nt (E_sr (Zn (Iz (x1)) rfl rfl ?_)));obtain ⟨y4,oD,h⟩:=bsome h;refine EL_d0 rfl (D_callD (g:=g1) (vs:=[Iz (x1)]) en159 (.cons rfl .nil) (dk159  oD) fun g3 w3_ v3 hs hr=>?_);have hfr:=hfr.ext hs;subst hr;refine Zg (.bool (y4)) rfl rfl (EL_nt (Zq h (fun (s:Unit) e w=>∃ (g:Gh) ,FrD gI wI g w∧e 0=Iz (x0)∧e 1=Iz (x1)∧e 6=.bool (y4)) (fun X10 zB uC h=>?_) ?_))
 ·refine E_sr (Zn (.bool (y2)) rfl rfl (EL_nt ?_))
  rcases Zt h with ⟨o0,h⟩ | ⟨o0,h⟩
  ·refine E_ct o0 rfl (Zq h (fun (s : Unit) e w => ∃ (g : Gh) , FrD gI wI g w) (fun X13 cC bD h => ?_) ?_)
   ·refine E_sr (Zn (.bool (y4)) rfl rfl (EL_nt ?_))
    rcases Zt h with ⟨l5,h⟩ | ⟨l5,h⟩
    ·refine E_ct l5 rfl (E_sr (Zg (Iz (0)) rfl rfl (EL_nt (E_ret (thn_r (thn_r ?_))))))
     obtain rfl:=sinj h;exact end1 rfl rfl (rq (Iz (0))) ⟨_,hfr,rfl⟩
    ·refine E_cf l5 rfl ?_
     exact Zu (Zd (bD () _ _ ⟨g3,hfr⟩ h))
   ·rintro _ bE w15 ⟨rE, hfr⟩ h
    refine E_sr (Zg (Iz (-1)) rfl rfl (EL_nt (E_ret (thn_r ?_))));obtain rfl:=sinj h;exact end1 rfl rfl (rq (Iz (-1))) ⟨_,hfr,rfl⟩
  ·refine E_cf o0 rfl ?_
   exact Zu (Zd (uC () _ _ ⟨g3,hfr,rfl,rfl,rfl⟩ h))
 ·rintro _ iE uE ⟨yD, hfr, n9, aB, lB⟩ h
  refine Zq h (fun (s:Unit) e w=>∃ (g:Gh) ,FrD gI wI g w∧e 0=Iz (x0)∧e 1=Iz (x1)) (fun X18 k18 cD h=>?_) ?_
  ·refine E_sr (Zo lB rfl (EL_nt ?_))
   rcases Zt h with ⟨t5,h⟩ | ⟨t5,h⟩
   ·refine E_ct t5 rfl (E_sr (Zg (Iz (1)) rfl rfl (EL_nt (E_ret (thn_r ?_)))))
    obtain rfl:=sinj h;exact end1 rfl rfl (rq (Iz (1))) ⟨_,hfr,rfl⟩
   ·refine E_cf t5 rfl ?_
    exact Zu (Zd (cD () _ _ ⟨yD,hfr,n9,aB⟩ h))
  ·rintro _ lE vE ⟨zD, hfr, n8, l9⟩ h
   refine Zq h (fun (s:Unit) e w=>∃ (g:Gh) ,FrD gI wI g w∧e 0=Iz (x0)∧e 1=Iz (x1)) (fun X22 yB lD h=>?_) ?_
   ·refine E_sr (Zo n8 rfl (Zo l9 rfl (EL_in (.bool ((decide (x0 < x1)))) rfl rfl rfl rfl (EL_nt ?_))))
    rcases Zt h with ⟨i6,h⟩ | ⟨i6,h⟩
    ·refine E_ct i6 rfl (E_sr (Zg (Iz (-1)) rfl rfl (EL_nt (E_ret (thn_r ?_)))))
     obtain rfl:=sinj h;exact end1 rfl rfl (rq (Iz (-1))) ⟨_,hfr,rfl⟩
    ·refine E_cf i6 rfl ?_
     exact Zu (Zd (lD () _ _ ⟨zD,hfr,n8,l9⟩ h))
   ·rintro _ mE xE ⟨aE, hfr, mB, nB⟩ h
    refine Zq h (fun (s:Unit) e w=>∃ (g:Gh) ,FrD gI wI g w) (fun X26 oB nD h=>?_) ?_
    ·refine E_sr (Zo mB rfl (Zo nB rfl (EL_in (.bool ((decide (x0 > x1)))) rfl rfl rfl rfl (EL_nt ?_))))
     rcases Zt h with ⟨l8,h⟩ | ⟨l8,h⟩
     ·refine E_ct l8 rfl (E_sr (Zg (Iz (1)) rfl rfl (EL_nt (E_ret (thn_r ?_)))))
      obtain rfl:=sinj h;exact end1 rfl rfl (rq (Iz (1))) ⟨_,hfr,rfl⟩
     ·refine E_cf l8 rfl ?_
      exact Zu (Zd (nD () _ _ ⟨aE,hfr⟩ h))
    ·rintro _ oE yE ⟨zE, hfr⟩ h
     refine E_sr (Zg (Iz (0)) rfl rfl (EL_nt (E_ret ?_)));obtain rfl:=sinj h;exact end1 rfl rfl (rq (Iz (0))) ⟨_,hfr,rfl⟩
theorem dk129 {gI:Gh} {wI:World} {x0:List Int} {up0:Value} (rp0:RV gI.m wI x0 up0) {r:Int} (h:f129 x0=some r):FnD Tryz.prog 129 #[up0] gI wI (fun _ _ v=>v=Iz (r)):=by
 unfold f129 at h;refine fnDr_of_E Tryz.func129 rfl (Nat.le_of_ble_eq_true rfl) fun g0 hm hfr=>?_;have rp0:=RVc hm rp0;show E _ 18 none _ _ _ _ _;refine E_sr (Zg (Iz (0)) rfl rfl (EL_nt (E_sr (Zg (Iz (0)) rfl rfl (EL_nt (Zq h (fun (s:Unit) e w=>∃ (g:Gh) ,FrD gI wI g w∧e 3=Iz ((0:Int))) (fun X14 k14 cD h=>?_) ?_))))))
 ·refine E_sr (Zn up0 rfl rfl (EL_p (Iz ((x0).length : Int)) (P_len Tryz.underlying22 rfl rp0) rfl (Zn (Iz (0)) rfl rfl (EL_nt (Zr (E_lp h (fun (s : Int) e w => ∃ (g : Gh) , FrD gI wI g w ∧ e 3 = Iz ((0 : Int)) ∧ e 6 = up0 ∧ RV g.m w (x0 : List Int) up0 ∧ e 7 = Iz (((x0).length : Int)) ∧ e 8 = Iz (s)) ⟨g0, hfr, rfl, rfl, rp0, rfl, rfl⟩ (fun X15 uC lD => ?_)))))))
  rintro o0 aE lE ⟨aB,hfr,l5,l9,t5,n9,i6⟩ h;refine E_sr (EL_in (.bool ((decide (o0 < ((x0).length:Int))))) i6 n9 rfl rfl (EL_nt (Zf ?_)));rcases Zt h with ⟨l8,h⟩ | ⟨l8,h⟩
  ·refine E_ct l8 rfl (Zu (Zd (Zq h (fun (s : Unit) e w => ∃ (g : Gh) , FrD gI wI g w ∧ e 3 = Iz ((0 : Int)) ∧ e 6 = up0 ∧ RV g.m w (x0 : List Int) up0 ∧ e 7 = Iz (((x0).length : Int)) ∧ e 8 = Iz (o0)) (fun X22 bD nD h => ?_) ?_)))
   ·refine Zr (E_sr ?_)
    obtain ⟨y23,lB,h⟩:=bsome h;refine EL_p (ePtr up0 o0 1) (Zh (α:=Int) Tryz.underlying22 Tryz.sizeOf3 l9 t5 i6 lB) rfl ?_;have oD:=PT_idx t5 lB;refine EL_d0 rfl (D_load (g:=aB) Tryz.isAgg3 Tryz.sizeOf3 rfl oD fun mE yD=>?_);obtain rfl:=Zj.1 yD;refine Zg (Iz (y23)) rfl rfl (EL_nt (E_sr (Zn (Iz (y23)) rfl rfl (Zo l5 rfl (EL_in (.bool ((y23 != (0:Int)))) rfl rfl rfl rfl (EL_nt ?_))))));rcases Zt h with ⟨n8,h⟩ | ⟨n8,h⟩
    ·refine E_ct n8 rfl (E_sr (Zn (Iz (y23)) rfl rfl (Zg (Iz (y23)) rfl rfl (EL_nt (E_ret (blk_r (thn_r (thn_r (blk_r (thn_r ?_))))))))))
     obtain rfl:=sinj h;exact end1 rfl rfl (rq (Iz (y23))) ⟨_,hfr,rfl⟩
    ·refine E_cf n8 rfl ?_
     exact Zu (blk_n (Zd (nD () _ _ ⟨aB,hfr,l5,l9,t5,n9,i6⟩ h)))
   ·rintro _ bE oE ⟨zD, hfr, mB, nB, oB, yB, zB⟩ h
    refine Za (EL_in (Iz ((w64 (o0 + (1:Int))))) zB rfl rfl rfl (Zn (Iz ((w64 (o0 + (1:Int))))) rfl rfl ?_));exact EL_nt (lD ((w64 (o0 + (1:Int)))) _ _ ⟨zD,hfr,mB,nB,oB,yB,rfl⟩ h)
  ·refine E_cf l8 rfl (E_exit (thn_e (thn_e (blk_hit ?_))))
   exact Zd (cD () _ _ ⟨aB,hfr,l5⟩ h)
 ·rintro _ iE rE ⟨uE, hfr, cC⟩ h
  refine E_sr (Zo cC rfl (Zg (Iz ((0:Int))) rfl rfl (EL_nt (E_ret ?_))));obtain rfl:=sinj h;exact end1 rfl rfl (rq (Iz ((0:Int)))) ⟨_,hfr,rfl⟩
theorem dk89 {gI:Gh} {wI:World} {x0:BookCloth} {x1:BookCloth} {up0:Value} (rp0:RV gI.m wI x0 up0) {up1:Value} (rp1:RV gI.m wI x1 up1) {r:Int} (h:f89 x0 x1=some r):FnD Tryz.prog 89 #[up0,up1] gI wI (fun _ _ v=>v=Iz (r)):=by
 unfold f89 at h;refine fnDr_of_E Tryz.func89 rfl (Nat.le_of_ble_eq_true rfl) fun g0 hm hfr=>?_;have rp0:=RVc hm rp0;have rp1:=RVc hm rp1;show E _ 17 none _ _ _ _ _;refine E_sr (EL_d0 rfl (D_boxD (g:=g0) rfl rp0 fun g1 w1 p1 hs q1=>?_));have hfr:=hfr.ext hs;have rp1:=rp1.ext hs.1;refine EL_d0 rfl (D_boxD (g:=g1) rfl rp1 fun g2 w2 p2 hs q2=>?_);have hfr:=hfr.ext hs;have q1:=q1.ext hs.1;refine Zg (Iz (0)) rfl rfl (EL_nt (Zf ?_));have q3:=Zm (part_BookCloth_0).1 q1;refine Zs (x:=.tmp 5) Tryz.isAgg3 Tryz.sizeOf3 q3 fun v4 r4 l9=>?_;obtain rfl:=Zj.1 r4;have q5:=Zm (part_BookCloth_0).1 q2;refine Zs (x:=.tmp 7) Tryz.isAgg3 Tryz.sizeOf3 q5 fun v6 r6 hl6=>?_;obtain rfl:=Zj.1 r6;obtain ⟨y8,n9,h⟩:=bsome h;have q9:=Zm (part_BookCloth_1).1 q1;refine Zs (x:=.tmp 10) Tryz.isAgg3 Tryz.sizeOf3 q9 fun v10 r10 i6=>?_;obtain rfl:=Zj.1 r10;have aB:=Zm (part_BookCloth_1).1 q2;refine Zs (x:=.tmp 12) Tryz.isAgg3 Tryz.sizeOf3 aB fun mB lB hl12=>?_;obtain rfl:=Zj.1 lB;obtain ⟨o0,l8,h⟩:=bsome h;obtain ⟨t5,n8,h⟩:=bsome h;refine E_drawLD (g:=g2) (n:=13) [(4,(fun v g w=>v=Iz (y8))),(9,(fun v g w=>v=Iz (o0))),(10,(fun v g w=>RV g.m w ([y8,o0]:List Int) v)),(11,(fun v g w=>v=Iz (t5)))] [0,1,2,3,4,5,6,7,8,9,10,11,12] rfl mixed (by kernel_rfl) (⟨fun _=>up_eq _,fun _=>up_eq _,fun _=>up_rv,fun _=>up_eq _,trivial⟩) (L_p (fPtr p1 0) rfl rfl (Zc at_63_0 rfl (PT.ptr q1)) (L_ld (c:=Iz ((x0).Day)) rfl rfl .plain (fun _ _ h=>h.1.ch) l9 rfl (L_p (fPtr p2 0) rfl rfl (Zc at_63_0 rfl (PT.ptr q2)) (L_ld (c:=Iz ((x1).Day)) rfl rfl .plain (fun _ _ h=>h.1.ch) hl6 rfl (L_do (φ:=fun v g w=>v=Iz (y8)) rfl rfl .plain (fun g w hd=>D_callD (g:=g) (vs:=[Iz ((x0).Day),Iz ((x1).Day)]) en130 (.cons rfl (.cons rfl .nil)) (dk130  n9) fun g' w' v hs hr=>⟨g',hs,hr⟩) (fun v7 hv=>?_))))));obtain ⟨_,_,_,rfl⟩:=hv;refine L_p (fPtr p1 1) rfl rfl (Zc at_63_1 rfl (PT.ptr q1)) (L_ld (c:=Iz ((x0).Loom)) rfl rfl .plain (fun _ _ h=>h.1.ch) i6 rfl (L_p (fPtr p2 1) rfl rfl (Zc at_63_1 rfl (PT.ptr q2)) (L_ld (c:=Iz ((x1).Loom)) rfl rfl .plain (fun _ _ h=>h.1.ch) hl12 rfl (L_do (φ:=fun v g w=>v=Iz (o0)) rfl rfl .plain (fun g w hd=>D_callD (g:=g) (vs:=[Iz ((x0).Loom),Iz ((x1).Loom)]) en130 (.cons rfl (.cons rfl .nil)) (dk130  l8) fun g' w' v hs hr=>⟨g',hs,hr⟩) (fun nB hv=>?_)))));obtain ⟨_,_,_,rfl⟩:=hv;refine L_do (φ:=fun v g w=>RV g.m w ([y8,o0]:List Int) v) rfl rfl .plain (fun g w hd=>D_buildSliceD (g:=g) 3015 (xs:=([y8,o0]:List Int)) (vs:=[Iz (y8),Iz (o0)]) Tryz.underlying22 Tryz.sizeOf3 Tryz.zeroValue3 rfl rfl (.cons rfl (.cons rfl .nil)) (RVs.cons (Zj.2 rfl) (RVs.cons (Zj.2 rfl) RVs.nil)) rfl rfl fun g' w' v hxt r=>⟨g',hxt,r⟩) (fun l5 hv=>?_);clear hv;refine L_do (φ:=fun v g w=>v=Iz (t5)) rfl rfl .plain (fun g w hd=>D_callD (g:=g) (vs:=[l5]) en129 (.cons rfl .nil) (dk129 (word (A:=fun g w=>RV g.m w ([y8,o0]:List Int) l5) 10 rfl rfl (deps_of hd)) n8) fun g' w' v hs hr=>⟨g',hs,hr⟩) (fun oB hv=>?_);obtain ⟨_,_,_,rfl⟩:=hv;refine L_p (Iz (t5)) rfl rfl (P_assign rfl) (L_nil fun yB zB hall=>?_);have hs:=hall.1;have hfr:=hfr.ext hs;clear hs hall;refine EL_nt (E_ret ?_);obtain rfl:=sinj h;exact end1 rfl rfl (rq (Iz (t5))) ⟨_,hfr,rfl⟩
def encC (x:BookCloth):List Value:=[Iz x.Day,Iz x.Loom,Iz x.Chain,Iz x.Tie,Iz x.Picks]
theorem encC_ok : Enc BookCloth encC where
 rep m w x cs:=by
  constructor
  ·rintro ⟨_, _, rfl, h1, _, _, rfl, h2, _, _, rfl, h3, _, _, rfl, h4, h5⟩
   cases h1; cases h2; cases h3; cases h4; cases h5; rfl
  ·rintro rfl; exact ⟨[_],_,rfl,rfl,[_],_,rfl,rfl,[_],_,rfl,rfl,[_],_,rfl,rfl,rfl⟩
 len _:=rfl
 one x v hv:=by
  simp only [encC,List.mem_cons,List.not_mem_nil,or_false] at hv
  rcases hv with rfl | rfl | rfl | rfl | rfl <;> rfl
 pos:=by decide
theorem sorts_ok : Sorts Tryz.prog 134 (α := BookCloth) encC where
 row cf hO g blk off cap d w eg hc hH hb hs:=Tryz.sort_row encC (fun _=>rfl) encC_ok.one cf hO g blk off cap d w eg hc hH hb hs
 none:=Tryz.sort_none
noncomputable def f134 (x0:List BookCloth) (x1:BookCloth→BookCloth→Option Int):Option (List BookCloth):=sortF x0 x1
theorem en134:Enters Tryz.prog 134:=enters_of Tryz.func134 (by kernel_rfl) rfl
theorem wk134s {i : Nat} {g : Gh} {w : World} {xs r : List BookCloth} {v : Value} (hv : OM i g w 63 xs v) (h : f134 xs (fun a0 a1 => f89 a0 a1) = some r) :
  FnM Tryz.prog 134 #[v,.func (.func 89) #[] #[]] i g w (fun g w u=>u=.tuple #[]∧OM i g w 63 r v):=
 sort_fnM encC_ok sorts_ok en89 (fun g w x y z hz=>dk89 (gI:=g) (wI:=w) (up0:=.agg (encC x).toArray) (up1:=.agg (encC y).toArray) ⟨encC x,(encC_ok.rep _ _ _ _).2 rfl,rfl⟩ ⟨encC y,(encC_ok.rep _ _ _ _).2 rfl,rfl⟩ hz) hv h
noncomputable def f95 (x0:List (List UInt8)):Option ((List BookCloth) × Int × Int):=
 jn (σ:=Unit) (fun _=>
  jn (σ:=(List (List BookCloth))) (fun i6=>
   jn (σ:=(List BookCloth)) (fun yD=>
    jn (σ:=Unit) (fun _=>
     (f134 yD ((fun a0 a1=>f89 a0 a1))).bind fun sM=>
     some (sM,(0:Int),(0:Int))
     ) fun tM=>
    bif (decide (((yD).length : Int) > (100 : Int))) then
     some (([]:List BookCloth),(0:Int),(5:Int))
    else
     tM ()
    ) fun uM=>
   lp (σ:=(List BookCloth) × (List (BookSpot × BookCloth)) × Int) (fun vM (dF,aH,t5)=>
    bif (decide (t5 < ((i6).length : Int))) then
     jn (σ:=(List BookCloth) × (List (BookSpot × BookCloth))) (fun (sG,tF)=>
      vM (sG,tF,(w64 (t5 + (1:Int))))
      ) fun xM=>
     (idx i6 t5).bind fun uC=>
     lp (σ:=(List BookCloth) × (List (BookSpot × BookCloth)) × Int) (fun bN (bD,l5,l9)=>
      bif (decide (l9 < ((uC).length : Int))) then
       jn (σ:=(List BookCloth) × (List (BookSpot × BookCloth))) (fun (xG,uF)=>
        bN (xG,uF,(w64 (l9 + (1:Int))))
        ) fun mJ=>
       (idx uC l9).bind fun o0=>
       jn (σ:=Unit) (fun _=>
        bif (!((mget l5 ((⟨(o0).Day, (o0).Loom⟩ : BookSpot))).isSome)) then
         (apnd 40 bD (([o0]:List BookCloth))).bind fun nJ=>
         mJ (nJ,(mset l5 ((⟨(o0).Day,(o0).Loom⟩:BookSpot)) o0))
        else
         mJ (bD,l5)
        ) fun cN=>
       Option.bind (α:=Bool) (
        bif ((mget l5 ((⟨(o0).Day, (o0).Loom⟩ : BookSpot))).isSome) then
         some ((!(decide (((mget l5 ((⟨(o0).Day,(o0).Loom⟩:BookSpot))).getD (⟨0,0,0,0,0⟩:BookCloth))=o0))))
        else
         some (false)
        ) fun zD=>
       bif zD then
        some (([]:List BookCloth),t5,(6:Int))
       else
        cN ()
      else
       xM (bD,l5)
      ) big (dF,aH,(0:Int))
    else
     uM (dF)
    ) big (([]:List BookCloth),([]:List (BookSpot × BookCloth)),(0:Int))
   ) fun mP=>
  lp (σ:=(List (List BookCloth)) × Int) (fun nP (uE,l8)=>
   bif (decide (l8 < ((x0).length : Int))) then
    jn (σ:=(List (List BookCloth))) (fun xH=>
     nP (xH,(w64 (l8 + (1:Int))))
     ) fun oP=>
    (idx x0 l8).bind fun pP=>
    (f32 pP).bind fun cD=>
    jn (σ:=Unit) (fun _=>
     (apnd 24 uE (([cD.1]:List (List BookCloth)))).bind fun dN=>
     oP (dN)
     ) fun k80=>
    bif (cD.2.2 != (0 : Int)) then
     some (([]:List BookCloth),l8,cD.2.2)
    else
     k80 ()
   else
    mP (uE)
   ) big ([],(0:Int))
  ) fun k5=>
 bif (decide (((x0).length : Int) > (10 : Int))) then
  some (([]:List BookCloth),(0:Int),(5:Int))
 else
  k5 ()
theorem en95:Enters Tryz.prog 95:=enters_of Tryz.func95 (by kernel_rfl) rfl
theorem wk95 {gI:Gh} {wI:World} {x0:List (List UInt8)} {up0:Value} (rp0:RV gI.m wI x0 up0) {r:(List BookCloth) × Int × Int} (h:f95 x0=some r):Fn Tryz.prog 95 #[up0] gI wI (fun m w v=>∃ y0 y1 y2,v=.tuple #[y0,y1,y2]∧RV m w (r.1) y0∧y1=Iz (r.2.1)∧y2=Iz (r.2.2)):=by
 unfold f95 at h;refine fnE Tryz.func95 rfl rfl fun g0 hm hfr=>?_;have rp0:=RVc hm rp0;show E _ 95 none _ _ _ _ _;refine E_sr (Zg (.slice none 0 0) rfl rfl ?_);have b1:OA 4002 g0 wI 63 ([]:List BookCloth) (.slice none 0 0):=OA.nil;refine Zg (Iz (0)) rfl rfl (Zg (Iz (0)) rfl rfl (EL_nt (Zq h (fun (s:Unit) e w=>∃ (g:Gh) ,Fr gI wI g w∧e 0=up0∧RV g.m w (x0:List (List UInt8)) up0∧e 2=.slice none 0 0∧OA 4002 g w 63 (([]:List BookCloth):List BookCloth) (Value.slice none 0 0)) (fun X5 k5 hk5 h=>?_) ?_)))
 ·refine E_sr (Zn up0 rfl rfl (EL_p (Iz ((x0).length : Int)) (P_len Tryz.underlying69 rfl rp0) rfl (EL_in (.bool ((decide (((x0).length : Int) > (10 : Int))))) rfl rfl rfl rfl (EL_nt ?_))))
  rcases Zt h with ⟨hc6,h⟩ | ⟨hc6,h⟩
  ·refine E_ct hc6 rfl (E_sr (Zg (.slice none 0 0) rfl rfl ?_))
   have b7:OA 4002 g0 wI 63 ([]:List BookCloth) (.slice none 0 0):=OA.nil;refine Zg (Iz (0)) rfl rfl (Zg (Iz (5)) rfl rfl (EL_nt (E_ret (thn_r ?_))));obtain ⟨gp8,hs,rp8⟩:=OM.pub (b7.toM);have hfr:=hfr.stp hs;obtain rfl:=sinj h;exact end3 rfl rfl (rq (.slice none 0 0)) (rq (Iz (0))) (rq (Iz (5))) ⟨_,hfr,_,_,_,rfl,rp8,rfl,rfl⟩
  ·refine E_cf hc6 rfl ?_
   exact Zu (Zd (hk5 () _ _ ⟨g0,hfr,rfl,rp0,rfl,b1⟩ h))
 ·rintro _ gU w9 ⟨g9, hfr, uP, eN, vP, xP⟩ h
  refine E_sr (Zg (.slice none 0 0) rfl rfl (EL_nt (Zq h (fun (s:(List (List BookCloth))) e w=>∃ (g:Gh) (v5:Value),Fr gI wI g w∧e 2=.slice none 0 0∧OA 4002 g w 63 (([]:List BookCloth):List BookCloth) (Value.slice none 0 0)∧e 5=v5∧RV g.m w (s:List (List BookCloth)) v5∧OS 1005 g w 49 (s:List (List BookCloth)) v5) (fun X49 mP yP h=>?_) ?_)))
  ·refine E_sr (Zo uP rfl (EL_p (Iz ((x0).length : Int)) (P_len Tryz.underlying69 rfl eN) rfl (Zn (Iz (0)) rfl rfl (EL_nt (Zr (E_lp h (fun (s : (List (List BookCloth)) × Int) e w => ∃ (g : Gh) (v5 : Value), Fr gI wI g w ∧ e 2 = .slice none 0 0 ∧ OA 4002 g w 63 (([] : List BookCloth) : List BookCloth) (Value.slice none 0 0) ∧ e 5 = v5 ∧ RV g.m w (s.1 : List (List BookCloth)) v5 ∧ OS 1005 g w 49 (s.1 : List (List BookCloth)) v5 ∧ e 21 = up0 ∧ RV g.m w (x0 : List (List UInt8)) up0 ∧ e 22 = Iz (((x0).length : Int)) ∧ e 23 = Iz (s.2)) ⟨g9, (.slice none 0 0), hfr, vP, xP, rfl, RV_nil, OS.nil, rfl, eN, rfl, rfl⟩ (fun X50 nP zP => ?_)))))))
   rintro ⟨uE,l8⟩ qS iU ⟨gN,iG,hfr,zJ,jG,aK,kG,lG,lI,mE,mI,eF⟩ h;refine E_sr (EL_in (.bool ((decide (l8 < ((x0).length:Int))))) eF mI rfl rfl (EL_nt (Zf ?_)));rcases Zt h with ⟨oJ,h⟩ | ⟨oJ,h⟩
   ·refine E_ct oJ rfl (Zu (Zd (Zq h (fun (s : (List (List BookCloth))) e w => ∃ (g : Gh) (v5 : Value), Fr gI wI g w ∧ e 2 = .slice none 0 0 ∧ OA 4002 g w 63 (([] : List BookCloth) : List BookCloth) (Value.slice none 0 0) ∧ e 5 = v5 ∧ RV g.m w (s : List (List BookCloth)) v5 ∧ OS 1005 g w 49 (s : List (List BookCloth)) v5 ∧ e 21 = up0 ∧ RV g.m w (x0 : List (List UInt8)) up0 ∧ e 22 = Iz (((x0).length : Int)) ∧ e 23 = Iz (l8)) (fun X71 oP bQ h => ?_) ?_)))
    ·refine Zr (E_sr (Zo eF rfl ?_))
     obtain ⟨pP,iN,h⟩:=bsome h;refine EL_p (ePtr up0 l8 1) (Zh (α:=List UInt8) Tryz.underlying69 Tryz.sizeOf50 lI mE eF iN) rfl ?_;have pR:=PT_idx mE iN;refine EL_d0 rfl (D_load (g:=gN) Tryz.isAgg50 Tryz.sizeOf50 rfl pR fun jN qR=>(Zg (Iz (l8)) rfl rfl (Zg jN rfl rfl (EL_nt (E_sr (Zn jN rfl rfl ?_))))));obtain ⟨cD,cQ,h⟩:=bsome h;refine EL_d0 rfl (Zp (g:=gN) (vs:=[jN]) en32 (.cons rfl .nil) (wk32 qR cQ) fun sP dQ jU hs hr=>?_);have hfr:=hfr.ext hs;have jG:=jG.ext hs;have kG:=kG.ext hs;have lG:=lG.ext hs;have mE:=mE.ext hs;obtain ⟨vE,cS,dS,rfl,lO,rfl,rfl⟩:=hr;refine Zn (.tuple #[vE,Iz (cD.2.1),Iz (cD.2.2)]) rfl rfl (EL_p vE (Zi rfl rfl) rfl (EL_p (Iz (cD.2.1)) (Zi rfl rfl) rfl (EL_p (Iz (cD.2.2)) (Zi rfl rfl) rfl (Zg vE rfl rfl (Zg (Iz (cD.2.1)) rfl rfl (Zg (Iz (cD.2.2)) rfl rfl (EL_nt (Zq h (fun (s:Unit) e w=>∃ (g:Gh) ,Fr gI wI g w∧e 2=.slice none 0 0∧OA 4002 g w 63 (([]:List BookCloth):List BookCloth) (Value.slice none 0 0)∧e 5=iG∧RV g.m w (uE:List (List BookCloth)) iG∧OS 1005 g w 49 (uE:List (List BookCloth)) iG∧e 8=vE∧RV g.m w (cD.1:List BookCloth) vE∧e 21=up0∧RV g.m w (x0:List (List UInt8)) up0∧e 22=Iz (((x0).length:Int))∧e 23=Iz (l8)) (fun X80 k80 eQ h=>?_) ?_))))))))
     ·refine E_sr (Zn (Iz (cD.2.2)) rfl rfl (EL_in (.bool ((cD.2.2 != (0 : Int)))) rfl rfl rfl rfl (EL_nt ?_)))
      rcases Zt h with ⟨pJ,h⟩ | ⟨pJ,h⟩
      ·refine E_ct pJ rfl (E_sr (Zn (Iz (l8)) rfl rfl (Zn (Iz (cD.2.2)) rfl rfl (Zg (.slice none 0 0) rfl rfl ?_))))
       have b82:OA 4002 sP dQ 63 ([]:List BookCloth) (.slice none 0 0):=OA.nil;refine Zg (Iz (l8)) rfl rfl (Zg (Iz (cD.2.2)) rfl rfl (EL_nt (E_ret (thn_r (blk_r (thn_r (thn_r (blk_r (thn_r ?_)))))))));obtain ⟨gp83,hs,rp83⟩:=OM.pub (b82.toM);have hfr:=hfr.stp hs;obtain rfl:=sinj h;exact end3 rfl rfl (rq (.slice none 0 0)) (rq (Iz (l8))) (rq (Iz (cD.2.2))) ⟨_,hfr,_,_,_,rfl,rp83,rfl,rfl⟩
      ·refine E_cf pJ rfl ?_
       exact Zu (Zd (eQ () _ _ ⟨sP,hfr,zJ,jG,aK,kG,lG,rfl,lO,lI,mE,mI,eF⟩ h))
     ·rintro _ rS kU ⟨tR, hfr, mO, lE, nO, rF, sF, oO, pO, kN, nD, lN, mN⟩ h
      refine Za (Zo nO rfl (Zo oO rfl (EL_d0 rfl (D_buildSliceA (g:=tR) 4040 (xs:=([cD.1]:List (List BookCloth))) (vs:=[vE]) Tryz.underlying206 Tryz.sizeOf49 Tryz.zeroValue49 rfl rfl (.cons rfl .nil) (RVs.cons pO RVs.nil) rfl rfl fun lU mU nU hs b85 _=>?_))));have hfr:=hfr.stp hs;have lE:=lE.stp hs rfl;have rF:=rF.stp hs;have sF:=sF.stp hs rfl;have nD:=nD.stp hs;obtain ⟨gp86,hs,rp86⟩:=OM.pub (b85.toM);have hfr:=hfr.stp hs;have lE:=lE.stp hs rfl;have rF:=rF.stp hs;have sF:=sF.stp hs rfl;have nD:=nD.stp hs;obtain ⟨dN,gQ,h⟩:=bsome h;refine EL_d0 rfl (D_append (g:=gp86) (i:=1005) Tryz.underlying206 info_49 rfl rfl sF rF rfl rp86 gQ fun uR oU tP hs o87 xR _=>?_);have hfr:=hfr.stp hs;have lE:=lE.stp hs rfl;have nD:=nD.stp hs;refine Zg tP rfl rfl ?_;exact Zb (blk_n (Zd (bQ (dN) _ _ ⟨uR,(tP),hfr,mO,lE,rfl,xR,o87,kN,nD,lN,mN⟩ h)))
    ·rintro xH sS pU ⟨yR, qO, hfr, rO, sO, tO, uO, vO, nN, oN, pN, qN⟩ h
     refine Za (EL_in (Iz ((w64 (l8 + (1:Int))))) qN rfl rfl rfl (Zn (Iz ((w64 (l8 + (1:Int))))) rfl rfl ?_));exact EL_nt (zP (xH,(w64 (l8 + (1:Int)))) _ _ ⟨yR,(qO),hfr,rO,sO,tO,uO,vO,nN,oN,pN,rfl⟩ h)
   ·refine E_cf oJ rfl (E_exit (thn_e (thn_e (blk_hit ?_))))
    exact Zd (yP (uE) _ _ ⟨gN,(iG),hfr,zJ,jG,aK,kG,lG⟩ h)
  ·rintro i6 tS qU ⟨zR, n8, hfr, xO, yH, yO, mG, zH⟩ h
   refine E_sr (EL_d0 rfl (D_makeMap (g:=zR) (encK pl_209) BookCloth 8043 fun aS rU aE hs m91=>?_));have hfr:=hfr.stp hs;have yH:=yH.stp hs rfl;have mG:=mG.stp hs;have zH:=zH.stp hs rfl;refine Zg aE rfl rfl (EL_nt (Zq h (fun (s:(List BookCloth)) e w=>∃ (g:Gh) (v2:Value),Fr gI wI g w∧e 2=v2∧OA 4002 g w 63 (s:List BookCloth) v2) (fun X301 uM zO h=>?_) ?_))
   ·refine E_sr (Zo yO rfl (EL_p (Iz ((i6).length : Int)) (P_len Tryz.underlying206 rfl mG) rfl (Zn (Iz (0)) rfl rfl (EL_nt (Zr (E_lp h (fun (s : (List BookCloth) × (List (BookSpot × BookCloth)) × Int) e w => ∃ (g : Gh) (v2 : Value), Fr gI wI g w ∧ e 2 = v2 ∧ OA 4002 g w 63 (s.1 : List BookCloth) v2 ∧ e 11 = aE ∧ MP (encK pl_209) 8043 g w (s.2.1 : List (BookSpot × BookCloth)) aE ∧ e 44 = n8 ∧ RV g.m w (i6 : List (List BookCloth)) n8 ∧ OS 1005 g w 49 (i6 : List (List BookCloth)) n8 ∧ e 45 = Iz (((i6).length : Int)) ∧ e 46 = Iz (s.2.2)) ⟨aS, (.slice none 0 0), hfr, xO, yH, rfl, m91, rfl, mG, zH, rfl, rfl⟩ (fun X302 vM aP => ?_)))))))
    rintro ⟨dF,aH,t5⟩ eS uS ⟨qJ,nI,hfr,pI,qI,lK,mK,cH,vF,nK,gH,xE⟩ h;refine E_sr (EL_in (.bool ((decide (t5 < ((i6).length:Int))))) xE gH rfl rfl (EL_nt (Zf ?_)));rcases Zt h with ⟨aI,h⟩ | ⟨aI,h⟩
    ·refine E_ct aI rfl (Zu (Zd (Zq h (fun (s : (List BookCloth) × (List (BookSpot × BookCloth))) e w => ∃ (g : Gh) (v2 : Value), Fr gI wI g w ∧ e 2 = v2 ∧ OA 4002 g w 63 (s.1 : List BookCloth) v2 ∧ e 11 = aE ∧ MP (encK pl_209) 8043 g w (s.2 : List (BookSpot × BookCloth)) aE ∧ e 44 = n8 ∧ RV g.m w (i6 : List (List BookCloth)) n8 ∧ OS 1005 g w 49 (i6 : List (List BookCloth)) n8 ∧ e 45 = Iz (((i6).length : Int)) ∧ e 46 = Iz (t5)) (fun X407 xM cP h => ?_) ?_)))
     ·refine Zr (E_sr (Zo xE rfl ?_))
      obtain ⟨uC,bK,h⟩:=bsome h;refine EL_p (ePtr n8 t5 1) (Zh (α:=List BookCloth) Tryz.underlying206 Tryz.sizeOf49 cH vF xE bK) rfl ?_;have iQ:=PT_idx vF bK;refine EL_d0 rfl (D_load (g:=qJ) Tryz.isAgg49 Tryz.sizeOf49 rfl iQ fun oD rN=>(Zg (Iz (t5)) rfl rfl (Zg oD rfl rfl (EL_nt (E_sr (Zn oD rfl rfl (EL_p (Iz ((uC).length:Int)) (P_len Tryz.underlying49 rfl rN) rfl (Zn (Iz (0)) rfl rfl (EL_nt (Zr (E_lp h (fun (s:(List BookCloth) × (List (BookSpot × BookCloth)) × Int) e w=>∃ (g:Gh) (v2:Value),Fr gI wI g w∧e 2=v2∧OA 4002 g w 63 (s.1:List BookCloth) v2∧e 11=aE∧MP (encK pl_209) 8043 g w (s.2.1:List (BookSpot × BookCloth)) aE∧e 12=Iz (t5)∧e 44=n8∧RV g.m w (i6:List (List BookCloth)) n8∧OS 1005 g w 49 (i6:List (List BookCloth)) n8∧e 45=Iz (((i6).length:Int))∧e 46=Iz (t5)∧e 51=oD∧RV g.m w (uC:List BookCloth) oD∧e 52=Iz (((uC).length:Int))∧e 53=Iz (s.2.2)) ⟨qJ,(nI),hfr,pI,qI,lK,mK,rfl,cH,vF,nK,gH,xE,rfl,rN,rfl,rfl⟩ (fun X411 bN dP=>?_))))))))))));rintro ⟨bD,l5,l9⟩ gS vS ⟨rJ,bE,hfr,yG,nB,yE,n9,jH,xF,lB,mB,yF,aG,bG,aB,cG,zE⟩ h;refine E_sr (EL_in (.bool ((decide (l9 < ((uC).length:Int))))) zE cG rfl rfl (EL_nt (Zf ?_)));rcases Zt h with ⟨bI,h⟩ | ⟨bI,h⟩
      ·refine E_ct bI rfl (Zu (Zd (Zq h (fun (s : (List BookCloth) × (List (BookSpot × BookCloth))) e w => ∃ (g : Gh) (v2 : Value), Fr gI wI g w ∧ e 2 = v2 ∧ OA 4002 g w 63 (s.1 : List BookCloth) v2 ∧ e 11 = aE ∧ MP (encK pl_209) 8043 g w (s.2 : List (BookSpot × BookCloth)) aE ∧ e 12 = Iz (t5) ∧ e 44 = n8 ∧ RV g.m w (i6 : List (List BookCloth)) n8 ∧ OS 1005 g w 49 (i6 : List (List BookCloth)) n8 ∧ e 45 = Iz (((i6).length : Int)) ∧ e 46 = Iz (t5) ∧ e 51 = oD ∧ RV g.m w (uC : List BookCloth) oD ∧ e 52 = Iz (((uC).length : Int)) ∧ e 53 = Iz (l9)) (fun X461 mJ cK h => ?_) ?_)))
       ·refine Zr (E_sr ?_)
        obtain ⟨o0,dK,h⟩:=bsome h;refine EL_p (ePtr oD l9 5) (Zh (α:=BookCloth) Tryz.underlying49 Tryz.sizeOf63 bG aB zE dK) rfl ?_;have jQ:=PT_idx aB dK;refine EL_d0 rfl (D_load (g:=rJ) Tryz.isAgg63 Tryz.sizeOf63 rfl jQ fun kQ sJ=>(EL_d0 rfl (D_allocOc (g:=rJ) 2015 (⟨0,0,0,0,0⟩:BookCloth) Tryz.zeroValue63 (fun m w=>⟨_,(rep_two rep_int (rep_two rep_int (rep_two rep_int (rep_two rep_int rep_int)))),rfl⟩) fun lQ xS oE hs b465 cb=>?_)));have hfr:=hfr.stp hs;have nB:=nB.stp hs rfl;have n9:=n9.stp hs rfl;have lB:=lB.stp hs;have mB:=mB.stp hs rfl;have aB:=aB.stp hs;have sJ:=sJ.stp hs;clear cb;refine EL_d0 rfl (D_storeOc (g:=lQ) (v:=kQ) Tryz.sizeOf63 rfl b465 rfl sJ fun zG mQ hs b466 cb=>?_);clear cb;have hfr:=hfr.stp hs;have nB:=nB.stp hs rfl;have n9:=n9.stp hs rfl;have lB:=lB.stp hs;have mB:=mB.stp hs rfl;have aB:=aB.stp hs;refine EL_nt (E_sr (Zo yE rfl (EL_p (fPtr oE 0) (Zc at_63_0 rfl (OB.ptr b466)) rfl (EL_d0 rfl (D_loadF (g:=zG) part_BookCloth_0.1 Tryz.isAgg3 Tryz.sizeOf3 rfl b466 fun yS nQ=>?_)))));obtain rfl:=Zj.1 nQ;refine EL_p (fPtr oE 1) (Zc at_63_1 rfl (OB.ptr b466)) rfl (EL_d0 rfl (D_loadF (g:=zG) part_BookCloth_1.1 Tryz.isAgg3 Tryz.sizeOf3 rfl b466 fun zS oQ=>?_));obtain rfl:=Zj.1 oQ;have sN:RV zG.m mQ (⟨(o0).Day,(o0).Loom⟩:BookSpot) (.agg (setCh [[Iz 0],[Iz 0]] [(0,Iz ((o0).Day)),(1,Iz ((o0).Loom))]).flatten.toArray):=RV_build rfl (rep_pair (rfl) (rep_last (rfl)));generalize eP:(Value.agg (setCh [[Iz 0],[Iz 0]] [(0,Iz ((o0).Day)),(1,Iz ((o0).Loom))]).flatten.toArray)=pQ at sN;refine EL_p pQ (eP ▸ P_build (vs:=[(0,Iz ((o0).Day)),(1,Iz ((o0).Loom))]) [[Iz 0],[Iz 0]] lay_209 rfl rfl (.cons rfl (.cons rfl .nil)) ⟨⟨_,rfl,rfl⟩,⟨⟨_,rfl,rfl⟩,trivial⟩⟩) rfl (EL_d0 rfl (D_lookupOk (g:=zG) (z0:=(⟨0,0,0,0,0⟩:BookCloth)) Tryz.underlying207 key_209 Tryz.zeroValue63 (fun m w=>⟨_,(rep_two rep_int (rep_two rep_int (rep_two rep_int (rep_two rep_int rep_int)))),rfl⟩) rfl n9 (rfl.trans (encK_of pl_209 sN)) fun vJ xJ=>(Zn (.tuple #[vJ,.bool ((mget l5 ((⟨(o0).Day,(o0).Loom⟩:BookSpot))).isSome)]) rfl rfl (EL_p vJ (Zi rfl rfl) rfl (EL_p (.bool ((mget l5 ((⟨(o0).Day,(o0).Loom⟩:BookSpot))).isSome)) (Zi rfl rfl) rfl (EL_d0 rfl (D_allocOc (g:=zG) 2016 (⟨0,0,0,0,0⟩:BookCloth) Tryz.zeroValue63 (fun m w=>⟨_,(rep_two rep_int (rep_two rep_int (rep_two rep_int (rep_two rep_int rep_int)))),rfl⟩) fun qQ eT lT hs b473 cb=>?_)))))));have hfr:=hfr.stp hs;have nB:=nB.stp hs rfl;have n9:=n9.stp hs rfl;have lB:=lB.stp hs;have mB:=mB.stp hs rfl;have aB:=aB.stp hs;have b466:=b466.stp hs rfl;have xJ:=xJ.stp hs;clear cb;refine EL_d0 rfl (D_storeOc (g:=qQ) (v:=vJ) Tryz.sizeOf63 rfl b473 rfl xJ fun dI mT hs b474 cb=>?_);clear cb;have hfr:=hfr.stp hs;have nB:=nB.stp hs rfl;have n9:=n9.stp hs rfl;have lB:=lB.stp hs;have mB:=mB.stp hs rfl;have aB:=aB.stp hs;have b466:=b466.stp hs rfl;refine Zg (.bool ((mget l5 ((⟨(o0).Day,(o0).Loom⟩:BookSpot))).isSome)) rfl rfl (EL_nt (Zq h (fun (s:Unit) e w=>∃ (g:Gh) ,Fr gI wI g w∧e 2=bE∧OA 4002 g w 63 (bD:List BookCloth) bE∧e 11=aE∧MP (encK pl_209) 8043 g w (l5:List (BookSpot × BookCloth)) aE∧e 12=Iz (t5)∧e 15=oE∧OB 2015 g w 63 (o0:BookCloth) oE∧e 17=.bool (((mget l5 ((⟨(o0).Day,(o0).Loom⟩:BookSpot))).isSome))∧e 44=n8∧RV g.m w (i6:List (List BookCloth)) n8∧OS 1005 g w 49 (i6:List (List BookCloth)) n8∧e 45=Iz (((i6).length:Int))∧e 46=Iz (t5)∧e 51=oD∧RV g.m w (uC:List BookCloth) oD∧e 52=Iz (((uC).length:Int))∧e 53=Iz (l9)) (fun X485 cN gP h=>?_) ?_))
        ·obtain ⟨zD, hx, h⟩ := bsome h
         refine E_join (fun e w=>∃ (g:Gh) ,Fr gI wI g w∧e 2=bE∧OA 4002 g w 63 (bD:List BookCloth) bE∧e 11=aE∧MP (encK pl_209) 8043 g w (l5:List (BookSpot × BookCloth)) aE∧e 12=Iz (t5)∧e 15=oE∧OB 2015 g w 63 (o0:BookCloth) oE∧e 17=.bool (((mget l5 ((⟨(o0).Day,(o0).Loom⟩:BookSpot))).isSome))∧e 44=n8∧RV g.m w (i6:List (List BookCloth)) n8∧OS 1005 g w 49 (i6:List (List BookCloth)) n8∧e 45=Iz (((i6).length:Int))∧e 46=Iz (t5)∧e 51=oD∧RV g.m w (uC:List BookCloth) oD∧e 52=Iz (((uC).length:Int))∧e 53=Iz (l9)∧e 72=.bool (zD)) (fun Q' hQ=>?_) (fun iS rQ hR=>?_)
         ·replace h := hx
          clear hx;refine Za (Zn (.bool ((mget l5 ((⟨(o0).Day,(o0).Loom⟩:BookSpot))).isSome)) rfl rfl (Zn (.bool ((mget l5 ((⟨(o0).Day,(o0).Loom⟩:BookSpot))).isSome)) rfl rfl ?_));rcases Zt h with ⟨lD,h⟩ | ⟨lD,h⟩
          ·refine Ze (.yes2 rfl rfl lD) rfl (D_loadO (g := dI) Tryz.isAgg63 Tryz.sizeOf63 rfl b474 fun nT sQ => (Ze (.yes2 rfl rfl lD) rfl (D_loadO (g := dI) Tryz.isAgg63 Tryz.sizeOf63 rfl b466 fun oT tQ => (EL_y (.bool ((!(decide (((mget l5 ((⟨(o0).Day, (o0).Loom⟩ : BookSpot))).getD (⟨0, 0, 0, 0, 0⟩ : BookCloth)) = o0))))) (P_sne seq_63 rfl eg_63 rfl rfl sQ tQ) rfl rfl lD rfl (EL_p (.bool ((!(decide (((mget l5 ((⟨(o0).Day, (o0).Loom⟩ : BookSpot))).getD (⟨0, 0, 0, 0, 0⟩ : BookCloth)) = o0))))) (Zl (b := ((mget l5 ((⟨(o0).Day, (o0).Loom⟩ : BookSpot))).isSome)) rfl (pick_t lD rfl)) rfl (Zb ?_))))))
           obtain rfl:=sinj h;exact hQ _ _ ⟨dI,hfr,yG,nB,yE,n9,jH,rfl,b466,rfl,xF,lB,mB,yF,aG,bG,aB,cG,zE,rfl⟩
          ·refine EL_s rfl rfl lD rfl rfl (EL_s rfl rfl lD rfl rfl (EL_s rfl rfl lD rfl rfl (EL_p (.bool false) (Zl (b := ((mget l5 ((⟨(o0).Day, (o0).Loom⟩ : BookSpot))).isSome)) rfl (pick_f lD rfl)) rfl (Zb ?_))))
           obtain rfl:=sinj h;exact hQ _ _ ⟨dI,hfr,yG,nB,yE,n9,jH,rfl,b466,rfl,xF,lB,mB,yF,aG,bG,aB,cG,zE,rfl⟩
         ·clear hx
          obtain ⟨tN,hfr,uN,vN,oK,pK,kH,qK,sK,tK,uK,vK,xK,yK,zK,aL,bL,dL,eL,lH⟩:=hR;rcases Zt h with ⟨iI,h⟩ | ⟨iI,h⟩
          ·refine E_cond_true (Eq.trans (show ev _ _ = .bool (zD) from lH) (congrArg Value.bool iI)) (E_sr (Zo kH rfl (Zg (.slice none 0 0) rfl rfl ?_)))
           have b494:OA 4002 tN rQ 63 ([]:List BookCloth) (.slice none 0 0):=OA.nil;refine Zg (Iz (t5)) rfl rfl (Zg (Iz (6)) rfl rfl (EL_nt (E_ret (thn_r (blk_r (thn_r (thn_r (blk_r (blk_r (thn_r (thn_r (blk_r (thn_r ?_)))))))))))));obtain ⟨gp495,hs,rp495⟩:=OM.pub (b494.toM);have hfr:=hfr.stp hs;obtain rfl:=sinj h;exact end3 rfl rfl (rq (.slice none 0 0)) (rq (Iz (t5))) (rq (Iz (6))) ⟨_,hfr,_,_,_,rfl,rp495,rfl,rfl⟩
          ·refine E_cond_false (Eq.trans (show ev _ _ = .bool (zD) from lH) (congrArg Value.bool iI)) ?_
           exact Zu (Zd (gP () _ _ ⟨tN,hfr,uN,vN,oK,pK,kH,qK,sK,tK,uK,vK,xK,yK,zK,aL,bL,dL,eL⟩ h))
        ·rintro _ jS uQ ⟨eG, hfr, sI, iE, gG, mH, nH, cF, oB, gL, oH, yB, zB, pH, qH, sH, cC, tH, uH⟩ h
         refine E_sr (EL_p (.bool (((mget l5 ((⟨(o0).Day,(o0).Loom⟩:BookSpot))).isSome))) (Zk gL) rfl (EL_p (.bool (!((mget l5 ((⟨(o0).Day,(o0).Loom⟩:BookSpot))).isSome))) (P_not rfl) rfl (EL_nt ?_)));rcases Zt h with ⟨jI,h⟩ | ⟨jI,h⟩
         ·refine E_ct jI rfl (E_sr (Zo gG rfl (EL_p (fPtr oE 0) (Zc at_63_0 cF (OB.ptr oB)) rfl (EL_d0 rfl (D_loadF (g := eG) part_BookCloth_0.1 Tryz.isAgg3 Tryz.sizeOf3 rfl oB fun pT vQ => ?_)))))
          obtain rfl:=Zj.1 vQ;refine EL_p (fPtr oE 1) (Zc at_63_1 cF (OB.ptr oB)) rfl (EL_d0 rfl (D_loadF (g:=eG) part_BookCloth_1.1 Tryz.isAgg3 Tryz.sizeOf3 rfl oB fun sT xQ=>?_));obtain rfl:=Zj.1 xQ;have xN:RV eG.m uQ (⟨(o0).Day,(o0).Loom⟩:BookSpot) (.agg (setCh [[Iz 0],[Iz 0]] [(0,Iz ((o0).Day)),(1,Iz ((o0).Loom))]).flatten.toArray):=RV_build rfl (rep_pair (rfl) (rep_last (rfl)));generalize iP:(Value.agg (setCh [[Iz 0],[Iz 0]] [(0,Iz ((o0).Day)),(1,Iz ((o0).Loom))]).flatten.toArray)=yQ at xN;refine EL_p yQ (iP ▸ P_build (vs:=[(0,Iz ((o0).Day)),(1,Iz ((o0).Loom))]) [[Iz 0],[Iz 0]] lay_209 rfl rfl (.cons rfl (.cons rfl .nil)) ⟨⟨_,rfl,rfl⟩,⟨⟨_,rfl,rfl⟩,trivial⟩⟩) rfl (EL_d0 rfl (D_loadO (g:=eG) Tryz.isAgg63 Tryz.sizeOf63 cF oB fun tT zQ=>(EL_d0 rfl (D_mapUpdate (g:=eG) Tryz.underlying207 key_209 rfl mH (rfl.trans (encK_of pl_209 xN)) rfl zQ fun yN uT hs m504=>?_))));have hfr:=hfr.stp hs;have iE:=iE.stp hs rfl;have oB:=oB.stp hs rfl;have yB:=yB.stp hs;have zB:=zB.stp hs rfl;have cC:=cC.stp hs;refine EL_nt (Za (Zo sI rfl (EL_d0 rfl (D_loadO (g:=yN) Tryz.isAgg63 Tryz.sizeOf63 cF oB fun aR dR=>(EL_d0 rfl (D_buildSlice (g:=yN) 3085 (xs:=([o0]:List BookCloth)) (vs:=[aR]) Tryz.underlying49 Tryz.sizeOf63 Tryz.zeroValue63 rfl rfl (.cons rfl .nil) (RVs.cons dR RVs.nil) rfl rfl fun eR xT yT hs o506 gR hxt hfl=>?_))))));have hfr:=hfr.stp hs;have iE:=iE.stp hs rfl;have m504:=m504.stp hs rfl;have yB:=yB.stp hs;have zB:=zB.stp hs rfl;have cC:=cC.stp hs;obtain ⟨nJ,jP,h⟩:=bsome h;refine EL_d0 rfl (D_appendA (g:=eR) plain_BookCloth (i:=4002) Tryz.underlying49 info_63 rfl rfl iE rfl gR jP fun iR zT zN hs b507=>?_);have hfr:=hfr.stp hs;have m504:=m504.stp hs rfl;have yB:=yB.stp hs;have zB:=zB.stp hs rfl;have cC:=cC.stp hs;refine Zg zN rfl rfl ?_;exact Zb (blk_n (Zd (cK (nJ,(mset l5 ((⟨(o0).Day,(o0).Loom⟩:BookSpot)) o0)) _ _ ⟨iR,(zN),hfr,rfl,b507,gG,m504,nH,oH,yB,zB,pH,qH,sH,cC,tH,uH⟩ h)))
         ·refine E_cf jI rfl ?_
          exact Zu (blk_n (Zd (cK (bD,l5) _ _ ⟨eG,(bE),hfr,sI,iE,gG,mH,nH,oH,yB,zB,pH,qH,sH,cC,tH,uH⟩ h)))
       ·rintro ⟨xG, uF⟩ lS aU ⟨jR, aO, hfr, bO, cO, iL, jL, lL, mL, nL, oL, xL, yL, zL, aM, cM, dM⟩ h
        refine Za (EL_in (Iz ((w64 (l9 + (1:Int))))) dM rfl rfl rfl (Zn (Iz ((w64 (l9 + (1:Int))))) rfl rfl ?_));exact EL_nt (dP (xG,uF,(w64 (l9 + (1:Int)))) _ _ ⟨jR,(aO),hfr,bO,cO,iL,jL,lL,mL,nL,oL,xL,yL,zL,aM,cM,rfl⟩ h)
      ·refine E_cf bI rfl (E_exit (thn_e (thn_e (blk_hit ?_))))
       exact blk_n (Zd (cP (bD,l5) _ _ ⟨rJ,(bE),hfr,yG,nB,yE,n9,xF,lB,mB,yF,aG⟩ h))
     ·rintro ⟨sG, tF⟩ mS bU ⟨lR, dO, hfr, eO, gO, eM, iM, jM, kM, pM, qM, rM⟩ h
      refine Za (EL_in (Iz ((w64 (t5 + (1:Int))))) rM rfl rfl rfl (Zn (Iz ((w64 (t5 + (1:Int))))) rfl rfl ?_));exact EL_nt (aP (sG,tF,(w64 (t5 + (1:Int)))) _ _ ⟨lR,(dO),hfr,eO,gO,eM,iM,jM,kM,pM,qM,rfl⟩ h)
    ·refine E_cf aI rfl (E_exit (thn_e (thn_e (blk_hit ?_))))
     exact Zd (zO (dF) _ _ ⟨qJ,(nI),hfr,pI,qI⟩ h)
   ·rintro yD nS mR ⟨jO, rE, hfr, jJ, kJ⟩ h
    refine Zq h (fun (s:Unit) e w=>∃ (g:Gh) ,Fr gI wI g w∧e 2=rE∧OA 4002 g w 63 (yD:List BookCloth) rE) (fun X515 tM kP h=>?_) ?_
    ·refine E_sr (Zo jJ rfl (EL_p (Iz ((yD).length : Int)) (P_lenM Tryz.underlying49 rfl (kJ.toM)) rfl (EL_in (.bool ((decide (((yD).length : Int) > (100 : Int))))) rfl rfl rfl rfl (EL_nt ?_))))
     rcases Zt h with ⟨kI,h⟩ | ⟨kI,h⟩
     ·refine E_ct kI rfl (E_sr (Zg (.slice none 0 0) rfl rfl ?_))
      have b517:OA 4002 jO mR 63 ([]:List BookCloth) (.slice none 0 0):=OA.nil;refine Zg (Iz (0)) rfl rfl (Zg (Iz (5)) rfl rfl (EL_nt (E_ret (thn_r ?_))));obtain ⟨gp518,hs,rp518⟩:=OM.pub (b517.toM);have hfr:=hfr.stp hs;obtain rfl:=sinj h;exact end3 rfl rfl (rq (.slice none 0 0)) (rq (Iz (0))) (rq (Iz (5))) ⟨_,hfr,_,_,_,rfl,rp518,rfl,rfl⟩
     ·refine E_cf kI rfl ?_
      exact Zu (Zd (kP () _ _ ⟨jO,hfr,jJ,kJ⟩ h))
    ·rintro _ oS cU ⟨nR, hfr, lJ, kO⟩ h
     refine E_sr (Zo lJ rfl ?_);obtain ⟨sM,lP,h⟩:=bsome h;refine EL_d0 rfl (D_callM (g:=nR) (i:=4002) (vs:=[rE,.func (.func 89) #[] #[]]) en134 (.cons rfl (.cons rfl .nil)) (wk134s (kO.toM) lP) fun dU pS eU hs hr=>?_);obtain ⟨hrv,b520⟩:=hr;have hfr:=hfr.stp hs;subst hrv;refine EL_nt (E_sr (Zo lJ rfl (Zg rE rfl rfl (Zg (Iz (0)) rfl rfl (Zg (Iz (0)) rfl rfl (EL_nt (E_ret ?_)))))));obtain ⟨gp522,hs,rp522⟩:=OM.pub b520;have hfr:=hfr.stp hs;obtain rfl:=sinj h;exact end3 rfl rfl (rq rE) (rq (Iz (0))) (rq (Iz (0))) ⟨_,hfr,_,_,_,rfl,rp522,rfl,rfl⟩
def f143 (x0:ChainBelt):Option (ChainChainBelt × Int):=
 jn (σ:=ChainChainBelt) (fun lB=>
  some ((⟨x0,(x0).Hooks⟩:ChainChainBelt),(0:Int))
  ) fun k33=>
 (f173 ((x0).Hooks)).bind fun n8=>
 bif (!n8) then
  some ((⟨x0,(x0).Hooks⟩:ChainChainBelt),(3:Int))
 else
  bif (decide ((((x0).Cards).length : Int) > (60 : Int))) then
   some ((⟨x0,(x0).Hooks⟩:ChainChainBelt),(5:Int))
  else
   (f174 ((x0).Hooks) ((x0).Cards)).bind fun l9=>
   bif (!l9) then
    some ((⟨x0,(x0).Hooks⟩:ChainChainBelt),(2:Int))
   else
    k33 ((⟨⟨0,[]⟩,0⟩:ChainChainBelt))
theorem en143:Enters Tryz.prog 143:=enters_of Tryz.func143 (by kernel_rfl) rfl
theorem wk143 {gI:Gh} {wI:World} {x0:ChainBelt} {up0:Value} (rp0:RV gI.m wI x0 up0) {r:ChainChainBelt × Int} (h:f143 x0=some r):Fn Tryz.prog 143 #[up0] gI wI (fun m w v=>∃ y0 y1,v=.tuple #[y0,y1]∧RV m w (r.1) y0∧y1=Iz (r.2)):=by
 unfold f143 at h;refine fnE Tryz.func143 rfl rfl fun g0 hm hfr=>?_;have rp0:=RVc hm rp0;show E _ 30 none _ _ _ _ _;refine E_sr (EL_d0 rfl (D_box (g:=g0) rfl rp0 fun g1 w1 p1 hs q1=>?_));have hfr:=hfr.ext hs;refine EL_d0 rfl (D_allocOc (g:=g1) 2002 (⟨⟨0,[]⟩,0⟩:ChainChainBelt) Tryz.zeroValue220 (fun m w=>⟨_,(rep_two (rep_two rep_int rep_nil) rep_int),rfl⟩) fun g2 w2 p2 hs b2 cb=>?_);have hfr:=hfr.stp hs;have q1:=q1.stp hs;have o0:OSF 2002 60201 1 g2 w2 96 220 ([]:List ChainCard) p2:=cb.osf (by rfl);clear cb;refine Zg (Iz (0)) rfl rfl (EL_nt (E_sr (EL_d0 rfl (D_load (g:=g2) Tryz.isAgg92 Tryz.sizeOf92 rfl q1 fun v3 r3=>(EL_p (fPtr p1 0) (Zc at_92_0 rfl (PT.ptr q1)) rfl ?_)))));have q4:=Zm (part_ChainBelt_0).1 q1;refine EL_d0 rfl (D_load (g:=g2) Tryz.isAgg3 Tryz.sizeOf3 rfl q4 fun v5 r5=>?_);obtain rfl:=Zj.1 r5;have r6:RV g2.m _ (⟨x0,(x0).Hooks⟩:ChainChainBelt) (.agg (setCh [[Iz 0,.slice none 0 0],[Iz 0]] [(0,v3),(1,Iz ((x0).Hooks))]).flatten.toArray):=RV_build rfl (rep_pair (RV.cells r3) (rep_last (rfl)));generalize oD:(Value.agg (setCh [[Iz 0,.slice none 0 0],[Iz 0]] [(0,v3),(1,Iz ((x0).Hooks))]).flatten.toArray)=v6 at r6;refine EL_p v6 (oD ▸ P_build (vs:=[(0,v3),(1,Iz ((x0).Hooks))]) [[Iz 0,.slice none 0 0],[Iz 0]] lay_220 rfl rfl (.cons rfl (.cons rfl .nil)) ⟨⟨_,rfl,cells_size r3⟩,⟨⟨_,rfl,rfl⟩,trivial⟩⟩) rfl (EL_d0 rfl (D_allocOc (g:=g2) 2004 (⟨⟨0,[]⟩,0⟩:ChainChainBelt) Tryz.zeroValue220 (fun m w=>⟨_,(rep_two (rep_two rep_int rep_nil) rep_int),rfl⟩) fun g7 w7 p7 hs b7 cb=>?_));have hfr:=hfr.stp hs;have q1:=q1.stp hs;have o0:=o0.stp hs rfl;have b2:=b2.stp hs rfl;have r6:=r6.stp hs;have dF:OSF 2004 60401 1 g7 w7 96 220 ([]:List ChainCard) p7:=cb.osf (by rfl);clear cb;refine EL_d0 rfl (D_storeOc (g:=g7) (v:=v6) Tryz.sizeOf220 rfl b7 rfl r6 fun g8 w8 hs b8 cb=>?_);clear cb;have hfr:=hfr.stp hs;have q1:=q1.stp hs;have o0:=o0.stp hs rfl;have b2:=b2.stp hs rfl;refine EL_nt (Zq h (fun (s:ChainChainBelt) e w=>∃ (g:Gh) ,Fr gI wI g w∧e 2=p2∧OB 2002 g w 220 (s:ChainChainBelt) p2∧OSF 2002 60201 1 g w 96 220 (((s).ChainBelt).Cards) p2∧e 4=p7∧OB 2004 g w 220 ((⟨x0,(x0).Hooks⟩:ChainChainBelt):ChainChainBelt) p7) (fun X33 k33 zB h=>?_) ?_)
 ·refine Zr (E_sr (EL_p (fPtr p7 2) (Zc at_220_1 rfl (OB.ptr b8)) rfl (EL_d0 rfl (D_loadF (g := g8) part_ChainChainBelt_1.1 Tryz.isAgg218 Tryz.sizeOf218 rfl b8 fun tF yD => ?_))))
  obtain rfl:=Zj.1 yD;obtain ⟨n8,cC,h⟩:=bsome h;refine EL_d0 rfl (Zp (g:=g8) (vs:=[Iz ((x0).Hooks)]) en173 (.cons rfl .nil) (wk173  cC) fun l5 eF uF hs hr=>?_);have hfr:=hfr.ext hs;have q1:=q1.ext hs;have o0:=o0.ext hs;have b2:=b2.ext hs;have b8:=b8.ext hs;subst hr;refine EL_p (.bool (!n8)) (P_not rfl) rfl (Zg (.bool (!n8)) rfl rfl (EL_nt ?_));rcases Zt h with ⟨t5,h⟩ | ⟨t5,h⟩
  ·refine E_ct t5 rfl (E_sr (EL_d0 rfl (D_loadO (g := l5) Tryz.isAgg220 Tryz.sizeOf220 rfl b8 fun zD aE => (EL_d0 rfl (D_storeOc (g := l5) (v := zD) Tryz.sizeOf220 rfl b2 rfl aE fun vF xF hs b40 cb => ?_)))))
   clear cb;have hfr:=hfr.stp hs;refine Zg (Iz (3)) rfl rfl (EL_nt (E_ret (blk_r (thn_r ?_))));obtain rfl:=sinj h;obtain ⟨ad41,cv41,hp41,uC,cr41⟩:=ob_read Tryz.isAgg220 Tryz.sizeOf220 b40;exact endm_ct rfl rfl ((rq p2).trans hp41) uC (rq (Iz (3))) ⟨_,hfr,_,_,rfl,cr41,rfl⟩
  ·refine E_cf t5 rfl (E_sr (EL_p (fPtr p1 1) (Zc at_92_1 rfl (PT.ptr q1)) rfl ?_))
   have bE:=Zm (part_ChainBelt_1).1 q1;refine EL_d0 rfl (D_load (g:=l5) Tryz.isAgg90 Tryz.sizeOf90 rfl bE fun yF iE=>(EL_p (Iz (((x0).Cards).length:Int)) (P_len Tryz.underlying90 rfl iE) rfl (EL_p (.bool ((decide ((((x0).Cards).length:Int) > (60:Int))))) (P_int rfl rfl rfl) rfl (EL_p (.bool ((decide ((((x0).Cards).length:Int) > (60:Int))))) (P_assign rfl) rfl (EL_nt ?_)))));rcases Zt h with ⟨i6,h⟩ | ⟨i6,h⟩
   ·refine E_ct i6 rfl (E_sr (EL_d0 rfl (D_loadO (g := l5) Tryz.isAgg220 Tryz.sizeOf220 rfl b8 fun lE mE => (EL_d0 rfl (D_storeOc (g := l5) (v := lE) Tryz.sizeOf220 rfl b2 rfl mE fun aG bG hs b46 cb => ?_)))))
    clear cb;have hfr:=hfr.stp hs;refine Zg (Iz (5)) rfl rfl (EL_nt (E_ret (blk_r (thn_r ?_))));obtain rfl:=sinj h;obtain ⟨ad47,cv47,hp47,bD,cr47⟩:=ob_read Tryz.isAgg220 Tryz.sizeOf220 b46;exact endm_ct rfl rfl ((rq p2).trans hp47) bD (rq (Iz (5))) ⟨_,hfr,_,_,rfl,cr47,rfl⟩
   ·refine E_cf i6 rfl (E_sr (EL_p (fPtr p7 2) (Zc at_220_1 rfl (OB.ptr b8)) rfl (EL_d0 rfl (D_loadF (g := l5) part_ChainChainBelt_1.1 Tryz.isAgg218 Tryz.sizeOf218 rfl b8 fun cG oE => ?_))))
    obtain rfl:=Zj.1 oE;refine EL_p (fPtr p1 1) (Zc at_92_1 rfl (PT.ptr q1)) rfl ?_;have rE:=Zm (part_ChainBelt_1).1 q1;refine EL_d0 rfl (D_load (g:=l5) Tryz.isAgg90 Tryz.sizeOf90 rfl rE fun uE vE=>?_);obtain ⟨l9,cD,h⟩:=bsome h;refine EL_d0 rfl (Zp (g:=l5) (vs:=[Iz ((x0).Hooks),uE]) en174 (.cons rfl (.cons rfl .nil)) (wk174 vE cD) fun aB rF eG hs hr=>?_);have hfr:=hfr.ext hs;have o0:=o0.ext hs;have b2:=b2.ext hs;have b8:=b8.ext hs;subst hr;refine EL_p (.bool (!l9)) (P_not rfl) rfl (Zg (.bool (!l9)) rfl rfl (EL_nt ?_));rcases Zt h with ⟨l8,h⟩ | ⟨l8,h⟩
    ·refine E_ct l8 rfl (E_sr (EL_d0 rfl (D_loadO (g := aB) Tryz.isAgg220 Tryz.sizeOf220 rfl b8 fun xE yE => (EL_d0 rfl (D_storeOc (g := aB) (v := xE) Tryz.sizeOf220 rfl b2 rfl yE fun gG iG hs b56 cb => ?_)))))
     clear cb;have hfr:=hfr.stp hs;refine Zg (Iz (2)) rfl rfl (EL_nt (E_ret (blk_r (thn_r ?_))));obtain rfl:=sinj h;obtain ⟨ad57,cv57,hp57,lD,cr57⟩:=ob_read Tryz.isAgg220 Tryz.sizeOf220 b56;exact endm_ct rfl rfl ((rq p2).trans hp57) lD (rq (Iz (2))) ⟨_,hfr,_,_,rfl,cr57,rfl⟩
    ·refine E_cf l8 rfl ?_
     exact Zu (blk_n (Zd (zB ((⟨⟨0,[]⟩,0⟩:ChainChainBelt)) _ _ ⟨aB,hfr,rfl,b2,o0,rfl,b8⟩ h)))
 ·rintro lB sF jG ⟨yB, hfr, n9, mB, u2_1_58, nB, oB⟩ h
  refine E_sr (EL_d0 rfl (D_loadO (g:=yB) Tryz.isAgg220 Tryz.sizeOf220 nB oB fun zE cF=>(EL_d0 rfl (D_storeOc (g:=yB) (v:=zE) Tryz.sizeOf220 n9 mB rfl cF fun kG lG hs b60 cb=>?_))));clear cb;have hfr:=hfr.stp hs;refine Zg (Iz (0)) rfl rfl (EL_nt (E_ret ?_));obtain rfl:=sinj h;obtain ⟨ad61,cv61,hp61,nD,cr61⟩:=ob_read Tryz.isAgg220 Tryz.sizeOf220 b60;exact endm_ct rfl rfl ((show _=p2 from n9).trans hp61) nD (show _=Iz (0) from rfl) ⟨_,hfr,_,_,rfl,cr61,rfl⟩
def f144 (x0:Str):Option (Bool):=
 (f145 x0).bind fun y2=>
 some ((!y2))
theorem en144:Enters Tryz.prog 144:=enters_of Tryz.func144 (by kernel_rfl) rfl
theorem wk144 {gI:Gh} {wI:World} {x0:Str}  {r:Bool} (h:f144 x0=some r):Fn Tryz.prog 144 #[Str.v (x0)] gI wI (fun _ _ v=>v=.bool (r)):=by
 unfold f144 at h;refine fnE Tryz.func144 rfl rfl fun g0 hm hfr=>?_;show E _ 6 none _ _ _ _ _;refine E_sr (Zg (.bool false) rfl rfl (EL_nt (E_sr (Zn (Str.v (x0)) rfl rfl ?_))));obtain ⟨y2,hy2,h⟩:=bsome h;refine EL_d0 rfl (Zp (g:=g0) (vs:=[Str.v (x0)]) en145 (.cons rfl .nil) (wk145  hy2) fun g1 w1_ v1 hs hr=>?_);have hfr:=hfr.ext hs;subst hr;refine EL_p (.bool (!y2)) (P_not rfl) rfl (Zg (.bool (!y2)) rfl rfl (EL_nt (E_ret ?_)));obtain rfl:=sinj h;exact end1 rfl rfl (rq (.bool (!y2))) ⟨_,hfr,rfl⟩
noncomputable def f42 (x0:List (List UInt8)):Option ((List UInt8) × Int × Int):=
 (f95 x0).bind fun y2=>
 jn (σ:=Unit) (fun _=>
  (f31 (y2.1)).bind fun y8=>
  some (y8.1,y8.2.1,y8.2.2)
  ) fun k4=>
 bif (y2.2.2 != (0 : Int)) then
  some ([],y2.2.1,y2.2.2)
 else
  k4 ()
theorem en42:Enters Tryz.prog 42:=enters_of Tryz.func42 (by kernel_rfl) rfl
theorem wk42 {gI:Gh} {wI:World} {x0:List (List UInt8)} {up0:Value} (rp0:RV gI.m wI x0 up0) {r:(List UInt8) × Int × Int} (h:f42 x0=some r):Fn Tryz.prog 42 #[up0] gI wI (fun m w v=>∃ y0 y1 y2,v=.tuple #[y0,y1,y2]∧RV m w (r.1) y0∧y1=Iz (r.2.1)∧y2=Iz (r.2.2)):=by
 unfold f42 at h;refine fnE Tryz.func42 rfl rfl fun g0 hm hfr=>?_;have rp0:=RVc hm rp0;show E _ 21 none _ _ _ _ _;refine E_sr (Zg (.slice none 0 0) rfl rfl (Zg (Iz (0)) rfl rfl (Zg (Iz (0)) rfl rfl (EL_nt (E_sr (Zn up0 rfl rfl ?_))))));obtain ⟨y2,hy2,h⟩:=bsome h;refine EL_d0 rfl (Zp (g:=g0) (vs:=[up0]) en95 (.cons rfl .nil) (wk95 rp0 hy2) fun g1 w1_ v1 hs hr=>?_);have hfr:=hfr.ext hs;obtain ⟨o0,n9,aB,rfl,t5,rfl,rfl⟩:=hr;refine Zn (.tuple #[o0,Iz (y2.2.1),Iz (y2.2.2)]) rfl rfl (EL_p o0 (Zi rfl rfl) rfl (EL_p (Iz (y2.2.1)) (Zi rfl rfl) rfl (EL_p (Iz (y2.2.2)) (Zi rfl rfl) rfl (Zg o0 rfl rfl (Zg (Iz (y2.2.1)) rfl rfl (Zg (Iz (y2.2.2)) rfl rfl (EL_nt (Zq h (fun (s:Unit) e w=>∃ (g:Gh) ,Fr gI wI g w∧e 5=o0∧RV g.m w (y2.1:List BookCloth) o0) (fun X4 k4 hk4 h=>?_) ?_))))))))
 ·refine E_sr (Zn (Iz (y2.2.2)) rfl rfl (EL_in (.bool ((y2.2.2 != (0 : Int)))) rfl rfl rfl rfl (EL_nt ?_)))
  rcases Zt h with ⟨hc5,h⟩ | ⟨hc5,h⟩
  ·refine E_ct hc5 rfl (E_sr (Zn (Iz (y2.2.1)) rfl rfl (Zn (Iz (y2.2.2)) rfl rfl (Zg (.slice none 0 0) rfl rfl (Zg (Iz (y2.2.1)) rfl rfl (Zg (Iz (y2.2.2)) rfl rfl (EL_nt (E_ret (thn_r ?_)))))))))
   obtain rfl:=sinj h;exact end3 rfl rfl (rq (.slice none 0 0)) (rq (Iz (y2.2.1))) (rq (Iz (y2.2.2))) ⟨_,hfr,_,_,_,rfl,RV_nil,rfl,rfl⟩
  ·refine E_cf hc5 rfl ?_
   exact Zu (Zd (hk4 () _ _ ⟨g1,hfr,rfl,t5⟩ h))
 ·rintro _ nB w6 ⟨g6, hfr, i6, l8⟩ h
  refine E_sr (Zo i6 rfl ?_);obtain ⟨y8,l9,h⟩:=bsome h;refine EL_d0 rfl (Zp (g:=g6) (vs:=[o0]) en31 (.cons rfl .nil) (wk31 l8 l9) fun g7 w7_ v7 hs hr=>?_);have hfr:=hfr.ext hs;obtain ⟨l5,lB,mB,rfl,n8,rfl,rfl⟩:=hr;refine EL_p l5 (Zi rfl rfl) rfl (EL_p (Iz (y8.2.1)) (Zi rfl rfl) rfl (EL_p (Iz (y8.2.2)) (Zi rfl rfl) rfl (Zg l5 rfl rfl (Zg (Iz (y8.2.1)) rfl rfl (Zg (Iz (y8.2.2)) rfl rfl (EL_nt (E_ret ?_)))))));obtain rfl:=sinj h;exact end3 rfl rfl (rq l5) (rq (Iz (y8.2.1))) (rq (Iz (y8.2.2))) ⟨_,hfr,_,_,_,rfl,n8,rfl,rfl⟩
def f107 (x0:ChainBelt):Option (Int):=
 (f143 x0).bind fun y4=>
 some (y4.2)
theorem en107:Enters Tryz.prog 107:=enters_of Tryz.func107 (by kernel_rfl) rfl
theorem wk107 {gI:Gh} {wI:World} {x0:ChainBelt} {up0:Value} (rp0:RV gI.m wI x0 up0) {r:Int} (h:f107 x0=some r):Fn Tryz.prog 107 #[up0] gI wI (fun _ _ v=>v=Iz (r)):=by
 unfold f107 at h;refine fnE Tryz.func107 rfl rfl fun g0 hm hfr=>?_;have rp0:=RVc hm rp0;show E _ 11 none _ _ _ _ _;refine E_sr (EL_d0 rfl (D_box (g:=g0) rfl rp0 fun g1 w1 p1 hs q1=>?_));have hfr:=hfr.ext hs;refine Zg (Iz (0)) rfl rfl (EL_nt (E_sr (EL_d0 rfl (D_load (g:=g1) Tryz.isAgg92 Tryz.sizeOf92 rfl q1 fun v2 r2=>?_))));obtain ⟨y4,t5,h⟩:=bsome h;refine EL_d0 rfl (Zp (g:=g1) (vs:=[v2]) en143 (.cons rfl .nil) (wk143 r2 t5) fun g3 w3_ v3 hs hr=>?_);have hfr:=hfr.ext hs;obtain ⟨o0,i6,rfl,l5,rfl⟩:=hr;refine Zn (.tuple #[o0,Iz (y4.2)]) rfl rfl (EL_p o0 (Zi rfl rfl) rfl (EL_p (Iz (y4.2)) (Zi rfl rfl) rfl (EL_d0 rfl (D_allocOc (g:=g3) 2003 (⟨⟨0,[]⟩,0⟩:ChainChainBelt) Tryz.zeroValue220 (fun m w=>⟨_,(rep_two (rep_two rep_int rep_nil) rep_int),rfl⟩) fun g5 w5 p5 hs b5 cb=>?_))));have hfr:=hfr.stp hs;have l5:=l5.stp hs;have l8:OSF 2003 60301 1 g5 w5 96 220 ([]:List ChainCard) p5:=cb.osf (by rfl);clear cb;refine EL_d0 rfl (D_storeOc (g:=g5) (v:=o0) Tryz.sizeOf220 rfl b5 rfl l5 fun g6 w6 hs b6 cb=>?_);clear cb;have hfr:=hfr.stp hs;refine Zg (Iz (y4.2)) rfl rfl (EL_nt (E_sr (Zn (Iz (y4.2)) rfl rfl (Zg (Iz (y4.2)) rfl rfl (EL_nt (E_ret ?_))))));obtain rfl:=sinj h;exact end1 rfl rfl (rq (Iz (y4.2))) ⟨_,hfr,rfl⟩
def f112 (x0:List Str):Option (Bool):=
 Option.bind (α:=Bool) (
  (f146 x0 ((fun a0=>f144 a0))).bind fun i6=>
  bif (!i6) then
   (f147 x0).bind fun l8=>
   bif l8 then
    (f149 x0).bind fun n9=>
    (f148 n9).bind fun n8=>
    some ((((n8).length:Int) == ((x0).length:Int)))
   else
    some (false)
  else
   some (false)
  ) fun t5=>
 some (t5)
theorem en112:Enters Tryz.prog 112:=enters_of Tryz.func112 (by kernel_rfl) rfl
theorem wk112 {gI:Gh} {wI:World} {x0:List Str} {up0:Value} (rp0:RV gI.m wI x0 up0) {r:Bool} (h:f112 x0=some r):Fn Tryz.prog 112 #[up0] gI wI (fun _ _ v=>v=.bool (r)):=by
 unfold f112 at h;refine fnE Tryz.func112 rfl rfl fun g0 hm hfr=>?_;have rp0:=RVc hm rp0;show E _ 21 none _ _ _ _ _;refine E_sr (Zg (.bool false) rfl rfl (EL_nt (E_sr (Zg (.func (.func 144) #[] #[]) rfl rfl (EL_nt ?_)))));obtain ⟨t5,hx,h⟩:=bsome h;refine E_join (fun e w=>∃ (g:Gh) ,Fr gI wI g w∧e 2=.bool (t5)) (fun Q' hQ=>?_) (fun bD yD hR=>?_)
 ·replace h := hx
  clear hx;refine Za (Zn up0 rfl rfl (Zn (.func (.func 144) #[] #[]) rfl rfl ?_));obtain ⟨i6,lB,h⟩:=bsome h;refine EL_d0 rfl (Zp (g:=g0) (vs:=[up0,.func (.func 144) #[] #[]]) en146 (.cons rfl (.cons rfl .nil)) (wk146 rp0 ⟨144,#[],#[],rfl,en144,fun g' w' hch a0 b0 r hu0 hr=>by obtain rfl:=RV_str.1 hu0; exact Fn.mono (wk144   hr) fun _ _ _ h=>RV_bool.2 h⟩ lB) fun g11 cD zD hs hr=>?_);have hfr:=hfr.ext hs;have rp0:=rp0.ext hs;subst hr;refine EL_p (.bool (!i6)) (P_not rfl) rfl (Zn (.bool (!i6)) rfl rfl ?_);rcases Zt h with ⟨l5,h⟩ | ⟨l5,h⟩
  ·refine EL_y up0 (Zk rfl) rfl rfl l5 rfl ?_
   obtain ⟨l8,mB,h⟩:=bsome h;refine Ze (.yes2 rfl rfl l5) rfl (Zp (g:=g11) (vs:=[up0]) en147 (.cons rfl .nil) (wk147 rp0 mB) fun aB lD aE hs hr=>?_);have hfr:=hfr.ext hs;have rp0:=rp0.ext hs;subst hr;refine EL_p (.bool (l8)) (Zl (b:=(!i6)) rfl (pick_t l5 rfl)) rfl (Zn (.bool (l8)) rfl rfl ?_);rcases Zt h with ⟨o0,h⟩ | ⟨o0,h⟩
   ·refine EL_y up0 (Zk rfl) rfl rfl o0 rfl ?_
    obtain ⟨n9,nB,h⟩:=bsome h;refine Ze (.yes2 rfl rfl o0) rfl (Zp (g:=aB) (vs:=[up0]) en149 (.cons rfl .nil) (wk149 rp0 nB) fun oB nD yB hs hr=>?_);have hfr:=hfr.ext hs;have rp0:=rp0.ext hs;have zB:=hr;obtain ⟨n8,hy20,h⟩:=bsome h;refine Ze (.yes2 rfl rfl o0) rfl (Zp (g:=oB) (vs:=[yB]) en148 (.cons rfl .nil) (wk148 zB hy20) fun cC oD bE hs hr=>?_);have hfr:=hfr.ext hs;have rp0:=rp0.ext hs;have uC:=hr;refine EL_y (Iz ((n8).length:Int)) (P_len Tryz.underlying104 rfl uC) rfl rfl o0 rfl (EL_y up0 (Zk rfl) rfl rfl o0 rfl (EL_y (Iz ((x0).length:Int)) (P_len Tryz.underlying104 rfl rp0) rfl rfl o0 rfl (EL_y (.bool ((((n8).length:Int) == ((x0).length:Int)))) (P_int rfl rfl rfl) rfl rfl o0 rfl (EL_p (.bool ((((n8).length:Int) == ((x0).length:Int)))) (Zl (b:=l8) rfl (pick_t o0 rfl)) rfl (Zg (.bool ((((n8).length:Int) == ((x0).length:Int)))) rfl rfl (Zb ?_))))));obtain rfl:=sinj h;exact hQ _ _ ⟨cC,hfr,rfl⟩
   ·refine EL_s rfl rfl o0 rfl rfl ?_
    iterate 6 refine EL_s rfl rfl o0 rfl rfl ?_
    refine EL_p (.bool false) (Zl (b:=l8) rfl (pick_f o0 rfl)) rfl (Zg (.bool false) rfl rfl (Zb ?_));obtain rfl:=sinj h;exact hQ _ _ ⟨aB,hfr,rfl⟩
  ·refine EL_s rfl rfl l5 rfl rfl (EL_s rfl rfl l5 rfl rfl (EL_p (.bool false) (Zl (b := (!i6)) rfl (pick_f l5 rfl)) rfl (EL_dead 9 rfl (Zg (.bool false) rfl rfl (Zb ?_)))))
   obtain rfl:=sinj h;exact hQ _ _ ⟨g11,hfr,rfl⟩
 ·clear hx
  obtain ⟨iE,hfr,l9⟩:=hR;refine E_ret ?_;obtain rfl:=sinj h;exact end1 rfl rfl (show _=.bool (t5) from l9) ⟨_,hfr,rfl⟩
def f135 (x0:ChainBelt) (x1:Int) (x2:List Int):Option ((List Int) × Int × Int):=
 (f143 x0).bind fun y4=>
 jn (σ:=Unit) (fun _=>
  Option.bind (α:=(List Int) × Int) (
   lp (σ:=(List Int) × Int × Int) (fun lG (nB,i6,l5)=>
    bif (decide (l5 < ((x2).length : Int))) then
     Option.bind (α:=(List Int) × Int) (
      (idx x2 l5).bind fun zB=>
      (f164 (y4.1) i6).bind fun y80=>
      (apnd 8 nB (([y80]:List Int))).bind fun mG=>
      (f165 (y4.1) i6 zB).bind fun rE=>
      some (mG,rE)
      ) fun (l9,aB)=>
     lG (l9,aB,(w64 (l5 + (1:Int))))
    else
     some (nB,i6)
    ) big ([],x1,(0:Int))
   ) fun (lB,n9)=>
  some (lB,n9,(0:Int))
  ) fun k18=>
 bif (y4.2 != (0 : Int)) then
  some ([],(0:Int),y4.2)
 else
  (f163 ((0:Int)) ((w64 ((((x0).Cards).length:Int) - (1:Int)))) (([x1]:List Int))).bind fun aE=>
  bif (!aE) then
   some ([],(0:Int),(7:Int))
  else
   bif (decide (((x2).length : Int) > (60 : Int))) then
    some ([],(0:Int),(5:Int))
   else
    (f163 ((0:Int)) ((2:Int)) x2).bind fun bE=>
    bif (!bE) then
     some ([],(0:Int),(2:Int))
    else
     k18 ()
theorem en135:Enters Tryz.prog 135:=enters_of Tryz.func135 (by kernel_rfl) rfl
theorem wk135 {gI:Gh} {wI:World} {x0:ChainBelt} {x1:Int} {x2:List Int} {up0:Value} (rp0:RV gI.m wI x0 up0) {up2:Value} (rp2:RV gI.m wI x2 up2) {r:(List Int) × Int × Int} (h:f135 x0 x1 x2=some r):Fn Tryz.prog 135 #[up0,Iz (x1),up2] gI wI (fun m w v=>∃ y0 y1 y2,v=.tuple #[y0,y1,y2]∧RV m w (r.1) y0∧y1=Iz (r.2.1)∧y2=Iz (r.2.2)):=by
 unfold f135 at h;refine fnE Tryz.func135 rfl rfl fun g0 hm hfr=>?_;have rp0:=RVc hm rp0;have rp2:=RVc hm rp2;show E _ 58 none _ _ _ _ _;refine E_sr (EL_d0 rfl (D_box (g:=g0) rfl rp0 fun g1 w1 p1 hs q1=>?_));have hfr:=hfr.ext hs;have rp2:=rp2.ext hs;refine Zg (.slice none 0 0) rfl rfl (Zg (Iz (0)) rfl rfl (Zg (Iz (0)) rfl rfl (EL_nt (E_sr (EL_d0 rfl (D_load (g:=g1) Tryz.isAgg92 Tryz.sizeOf92 rfl q1 fun v2 r2=>?_))))));obtain ⟨y4,lH,h⟩:=bsome h;refine EL_d0 rfl (Zp (g:=g1) (vs:=[v2]) en143 (.cons rfl .nil) (wk143 r2 lH) fun g3 w3_ v3 hs hr=>?_);have hfr:=hfr.ext hs;have rp2:=rp2.ext hs;have q1:=q1.ext hs;obtain ⟨bD,pI,rfl,cD,rfl⟩:=hr;refine Zn (.tuple #[bD,Iz (y4.2)]) rfl rfl (EL_p bD (Zi rfl rfl) rfl (EL_p (Iz (y4.2)) (Zi rfl rfl) rfl (EL_d0 rfl (D_allocOc (g:=g3) 2009 (⟨⟨0,[]⟩,0⟩:ChainChainBelt) Tryz.zeroValue220 (fun m w=>⟨_,(rep_two (rep_two rep_int rep_nil) rep_int),rfl⟩) fun g5 w5 p5 hs b5 cb=>?_))));have hfr:=hfr.stp hs;have rp2:=rp2.stp hs;have q1:=q1.stp hs;have cD:=cD.stp hs;have qI:OSF 2009 60901 1 g5 w5 96 220 ([]:List ChainCard) p5:=cb.osf (by rfl);clear cb;refine EL_d0 rfl (D_storeOc (g:=g5) (v:=bD) Tryz.sizeOf220 rfl b5 rfl cD fun g6 w6 hs b6 cb=>?_);clear cb;have hfr:=hfr.stp hs;have rp2:=rp2.stp hs;have q1:=q1.stp hs;refine Zg (Iz (y4.2)) rfl rfl (EL_nt (Zq h (fun (s:Unit) e w=>∃ (g:Gh) ,Fr gI wI g w∧e 1=Iz (x1)∧e 2=up2∧RV g.m w (x2:List Int) up2∧e 6=.slice none 0 0∧RV g.m w ([]:List Int) (Value.slice none 0 0)∧e 9=p5∧OB 2009 g w 220 (y4.1:ChainChainBelt) p5) (fun X18 k18 yG h=>?_) ?_))
 ·refine Zr (E_sr (Zn (Iz (y4.2)) rfl rfl (EL_in (.bool ((y4.2 != (0 : Int)))) rfl rfl rfl rfl (Zg (.bool ((y4.2 != (0 : Int)))) rfl rfl (EL_nt ?_)))))
  rcases Zt h with ⟨lD,h⟩ | ⟨lD,h⟩
  ·refine E_ct lD rfl (E_sr (Zn (Iz (y4.2)) rfl rfl (Zg (.slice none 0 0) rfl rfl (Zg (Iz (0)) rfl rfl (Zg (Iz (y4.2)) rfl rfl (EL_nt (E_ret (blk_r (thn_r ?_)))))))))
   obtain rfl:=sinj h;exact end3 rfl rfl (rq (.slice none 0 0)) (rq (Iz (0))) (rq (Iz (y4.2))) ⟨_,hfr,_,_,_,rfl,RV_nil,rfl,rfl⟩
  ·refine E_cf lD rfl (E_sr (EL_p (fPtr p1 1) (Zc at_92_1 rfl (PT.ptr q1)) rfl ?_))
   have mH:=Zm (part_ChainBelt_1).1 q1;refine EL_d0 rfl (D_load (g:=g6) Tryz.isAgg90 Tryz.sizeOf90 rfl mH fun qJ nH=>(EL_p (Iz (((x0).Cards).length:Int)) (P_len Tryz.underlying90 rfl nH) rfl (EL_p (Iz ((w64 ((((x0).Cards).length:Int) - (1:Int))))) (P_int rfl rfl rfl) rfl (Zn (Iz (x1)) rfl rfl (EL_d0 rfl (D_buildSlice (g:=g6) 3027 (xs:=([x1]:List Int)) (vs:=[Iz (x1)]) Tryz.underlying22 Tryz.sizeOf3 Tryz.zeroValue3 rfl rfl (.cons rfl .nil) (RVs.cons (Zj.2 rfl) RVs.nil) rfl rfl fun oH rJ pH hs o22 qH hxt hfl=>?_))))));have hfr:=hfr.stp hs;have rp2:=rp2.stp hs;have b6:=b6.stp hs rfl;obtain ⟨aE,zG,h⟩:=bsome h;refine EL_d0 rfl (Zp (g:=oH) (vs:=[Iz (0),Iz ((w64 ((((x0).Cards).length:Int) - (1:Int)))),pH]) en163 (.cons rfl (.cons rfl (.cons rfl .nil))) (wk163 qH zG) fun sH sI sJ hs hr=>?_);have hfr:=hfr.ext hs;have rp2:=rp2.ext hs;have b6:=b6.ext hs;subst hr;refine EL_p (.bool (!aE)) (P_not rfl) rfl (Zg (.bool (!aE)) rfl rfl (EL_nt ?_));rcases Zt h with ⟨nD,h⟩ | ⟨nD,h⟩
   ·refine E_ct nD rfl (E_sr (Zg (.slice none 0 0) rfl rfl (Zg (Iz (0)) rfl rfl (Zg (Iz (7)) rfl rfl (EL_nt (E_ret (blk_r (thn_r ?_))))))))
    obtain rfl:=sinj h;exact end3 rfl rfl (rq (.slice none 0 0)) (rq (Iz (0))) (rq (Iz (7))) ⟨_,hfr,_,_,_,rfl,RV_nil,rfl,rfl⟩
   ·refine E_cf nD rfl (E_sr (Zn up2 rfl rfl (EL_p (Iz ((x2).length : Int)) (P_len Tryz.underlying22 rfl rp2) rfl (EL_in (.bool ((decide (((x2).length : Int) > (60 : Int))))) rfl rfl rfl rfl (Zg (.bool ((decide (((x2).length : Int) > (60 : Int))))) rfl rfl (EL_nt ?_))))))
    rcases Zt h with ⟨oD,h⟩ | ⟨oD,h⟩
    ·refine E_ct oD rfl (E_sr (Zg (.slice none 0 0) rfl rfl (Zg (Iz (0)) rfl rfl (Zg (Iz (5)) rfl rfl (EL_nt (E_ret (blk_r (thn_r ?_))))))))
     obtain rfl:=sinj h;exact end3 rfl rfl (rq (.slice none 0 0)) (rq (Iz (0))) (rq (Iz (5))) ⟨_,hfr,_,_,_,rfl,RV_nil,rfl,rfl⟩
    ·refine E_cf oD rfl (E_sr (Zn up2 rfl rfl ?_))
     obtain ⟨bE,aH,h⟩:=bsome h;refine EL_d0 rfl (Zp (g:=sH) (vs:=[Iz (0),Iz (2),up2]) en163 (.cons rfl (.cons rfl (.cons rfl .nil))) (wk163 rp2 aH) fun tH jJ vJ hs hr=>?_);have hfr:=hfr.ext hs;have rp2:=rp2.ext hs;have b6:=b6.ext hs;subst hr;refine EL_p (.bool (!bE)) (P_not rfl) rfl (Zg (.bool (!bE)) rfl rfl (EL_nt ?_));rcases Zt h with ⟨yD,h⟩ | ⟨yD,h⟩
     ·refine E_ct yD rfl (E_sr (Zg (.slice none 0 0) rfl rfl (Zg (Iz (0)) rfl rfl (Zg (Iz (2)) rfl rfl (EL_nt (E_ret (blk_r (thn_r ?_))))))))
      obtain rfl:=sinj h;exact end3 rfl rfl (rq (.slice none 0 0)) (rq (Iz (0))) (rq (Iz (2))) ⟨_,hfr,_,_,_,rfl,RV_nil,rfl,rfl⟩
     ·refine E_cf yD rfl ?_
      exact Zu (blk_n (Zd (yG () _ _ ⟨tH,hfr,rfl,rfl,rp2,rfl,RV_nil,rfl,b6⟩ h)))
 ·rintro _ kJ xJ ⟨uH, hfr, dF, eF, iE, rF, sF, tF, uF⟩ h
  refine E_sr (Zo dF rfl (Zg (Iz (x1)) rfl rfl (EL_nt ?_)));obtain ⟨⟨lB,n9⟩,hx,h⟩:=bsome h;refine E_join (fun e w=>∃ (g:Gh) (v6:Value),Fr gI wI g w∧e 6=v6∧RV g.m w (lB:List Int) v6∧OS 1006 g w 3 (lB:List Int) v6∧e 7=Iz (n9)) (fun Q' hQ=>?_) (fun lJ zJ hR=>?_)
  ·replace h := hx
   clear hx;refine E_sr (Zo eF rfl (EL_p (Iz ((x2).length:Int)) (P_len Tryz.underlying22 rfl iE) rfl (Zn (Iz (0)) rfl rfl (EL_nt (Zr (E_lp h (fun (s:(List Int) × Int × Int) e w=>∃ (g:Gh) (v6:Value),Fr gI wI g w∧e 6=v6∧RV g.m w (s.1:List Int) v6∧OS 1006 g w 3 (s.1:List Int) v6∧e 7=Iz (s.2.1)∧e 9=p5∧OB 2009 g w 220 (y4.1:ChainChainBelt) p5∧e 39=up2∧RV g.m w (x2:List Int) up2∧e 40=Iz (((x2).length:Int))∧e 41=Iz (s.2.2)) ⟨uH,(.slice none 0 0),hfr,rF,sF,OS.nil,rfl,tF,uF,rfl,iE,rfl,rfl⟩ (fun X59 lG cH=>?_)))))));rintro ⟨nB,i6,l5⟩ mJ aK ⟨lE,vF,hfr,mE,l8,n8,oB,yB,t5,cC,o0,uC,mB⟩ h;refine E_sr (EL_in (.bool ((decide (l5 < ((x2).length:Int))))) mB uC rfl rfl (EL_nt (Zf ?_)));rcases Zt h with ⟨zD,h⟩ | ⟨zD,h⟩
   ·refine E_ct zD rfl (Zu (Zd ?_))
    obtain ⟨⟨l9,aB⟩,hx,h⟩:=bsome h;refine E_join (fun e w=>∃ (g:Gh) (v6:Value),Fr gI wI g w∧e 6=v6∧RV g.m w (l9:List Int) v6∧OS 1006 g w 3 (l9:List Int) v6∧e 7=Iz (aB)∧e 9=p5∧OB 2009 g w 220 (y4.1:ChainChainBelt) p5∧e 39=up2∧RV g.m w (x2:List Int) up2∧e 40=Iz (((x2).length:Int))∧e 41=Iz (l5)) (fun Q' hQ=>?_) (fun nJ bK hR=>?_)
    ·replace h := hx
     clear hx;refine Zr (E_sr ?_);obtain ⟨zB,uE,h⟩:=bsome h;refine EL_p (ePtr up2 l5 1) (Zh (α:=Int) Tryz.underlying22 Tryz.sizeOf3 cC o0 mB uE) rfl ?_;have xH:=PT_idx o0 uE;refine EL_d0 rfl (D_load (g:=lE) Tryz.isAgg3 Tryz.sizeOf3 rfl xH fun cK yH=>?_);obtain rfl:=Zj.1 yH;refine Zg (Iz (zB)) rfl rfl (EL_nt (E_sr (Zo mE rfl (EL_d0 rfl (D_loadO (g:=lE) Tryz.isAgg220 Tryz.sizeOf220 yB t5 fun zH aI=>(Zo oB rfl ?_))))));obtain ⟨y80,gH,h⟩:=bsome h;refine EL_d0 rfl (Zp (g:=lE) (vs:=[zH,Iz (i6)]) en164 (.cons rfl (.cons rfl .nil)) (wk164 aI gH) fun bI oJ dK hs hr=>?_);have hfr:=hfr.ext hs;have l8:=l8.ext hs;have n8:=n8.ext hs;have t5:=t5.ext hs;have o0:=o0.ext hs;subst hr;refine EL_d0 rfl (D_buildSlice (g:=bI) 3049 (xs:=([y80]:List Int)) (vs:=[Iz (y80)]) Tryz.underlying22 Tryz.sizeOf3 Tryz.zeroValue3 rfl rfl (.cons rfl .nil) (RVs.cons (Zj.2 rfl) RVs.nil) rfl rfl fun dI lK mK hs o81 iI hxt hfl=>?_);have hfr:=hfr.stp hs;have l8:=l8.stp hs;have n8:=n8.stp hs rfl;have t5:=t5.stp hs rfl;have o0:=o0.stp hs;obtain ⟨mG,jH,h⟩:=bsome h;refine EL_d0 rfl (D_append (g:=dI) (i:=1006) Tryz.underlying22 info_3 rfl rfl n8 l8 rfl iI jH fun sG nK xG hs o82 vE _=>?_);have hfr:=hfr.stp hs;have t5:=t5.stp hs rfl;have o0:=o0.stp hs;refine Zg xG rfl rfl (EL_nt (Za (EL_d0 rfl (D_loadO (g:=sG) Tryz.isAgg220 Tryz.sizeOf220 yB t5 fun jI kI=>(Zo oB rfl (Zn (Iz (zB)) rfl rfl ?_))))));obtain ⟨rE,kH,h⟩:=bsome h;refine EL_d0 rfl (Zp (g:=sG) (vs:=[jI,Iz (i6),Iz (zB)]) en165 (.cons rfl (.cons rfl (.cons rfl .nil))) (wk165 kI kH) fun lI pJ oK hs hr=>?_);have hfr:=hfr.ext hs;have vE:=vE.ext hs;have o82:=o82.ext hs;have t5:=t5.ext hs;have o0:=o0.ext hs;subst hr;refine Zg (Iz (rE)) rfl rfl (Zb (blk_n ?_));obtain ⟨rfl,rfl⟩:=pairs2 h;exact hQ _ _ ⟨lI,(xG),hfr,rfl,vE,o82,rfl,yB,t5,cC,o0,uC,mB⟩
    ·clear hx
     obtain ⟨mI,xF,hfr,yF,aG,bG,cG,eG,gG,xE,yE,zE,cF⟩:=hR;refine Za (EL_in (Iz ((w64 (l5 + (1:Int))))) cF rfl rfl rfl (Zn (Iz ((w64 (l5 + (1:Int))))) rfl rfl ?_));exact EL_nt (cH (l9,aB,(w64 (l5 + (1:Int)))) _ _ ⟨mI,(xF),hfr,yF,aG,bG,cG,eG,gG,xE,yE,zE,rfl⟩ h)
   ·refine E_cf zD rfl (E_exit (thn_e (thn_e (blk_hit ?_))))
    obtain ⟨rfl,rfl⟩:=pairs2 h;exact hQ _ _ ⟨lE,(vF),hfr,mE,l8,n8,oB⟩
  ·clear hx
   obtain ⟨pK,oE,hfr,iG,jG,nI,kG⟩:=hR;refine E_sr (Zo iG rfl (Zo kG rfl (Zg oE rfl rfl (Zg (Iz (n9)) rfl rfl (Zg (Iz (0)) rfl rfl (EL_nt (E_ret ?_)))))));obtain rfl:=sinj h;exact end3 rfl rfl (rq oE) (rq (Iz (n9))) (rq (Iz (0))) ⟨_,hfr,_,_,_,rfl,jG,rfl,rfl⟩
end Go.Proofs.YtmebkoemfjlbcaaGreatDoor
