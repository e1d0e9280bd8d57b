import Derived.Test.YtlmibfohllgmeaaGreatCode1
set_option maxRecDepth 8000
set_option maxHeartbeats 4000000
namespace Go.Proofs.YtlmibfohllgmeaaGreat
open Go.RowKit
def f49 (x0:Int) (x1:Int→Option Bool):Option ((List Int) × Bool):=
 Option.bind (α:=(List Int) × Bool) (
  (shl64 (1:Int) x0).bind fun d9=>
  lp (σ:=(List Int) × Bool × Int) (fun tB (l5,y6,o0)=>
   bif (decide (o0 < d9)) then
    Option.bind (α:=(List Int) × Bool) (
     (f94 o0).bind fun i6=>
     jn (σ:=Unit) (fun _=>
      some (i6,true)
      ) fun vB=>
     Option.bind (α:=Bool) (
      bif y6 then
       bif (decide (((i6).length : Int) > ((l5).length : Int))) then
        some (true)
       else
        bif (((i6).length : Int) == ((l5).length : Int)) then
         (f95 i6 l5).bind fun a9=>
         bif (decide (a9 > (0 : Int))) then
          some (true)
         else
          (x1 o0).bind fun bA=>
          some ((!bA))
        else
         (x1 o0).bind fun iA=>
         some ((!iA))
      else
       (x1 o0).bind fun rA=>
       some ((!rA))
      ) fun v8=>
     bif v8 then
      some (l5,y6)
     else
      vB ()
     ) fun (l9,n9)=>
    tB (l9,n9,(w64 (o0 + (1:Int))))
   else
    some (l5,y6)
   ) big ([],false,(0:Int))
  ) fun (u9,k9)=>
 some (u9,k9)
theorem en49:Enters Tryz.prog 49:=enters_of Tryz.func49 (by kernel_rfl) rfl
theorem wk49 {gI:Gh} {wI:World} {x0:Int} {x1:Int→Option Bool} {up1:Value} (rp1:FnV1 Tryz.prog x1 up1 gI wI) {r:(List Int) × Bool} (h:f49 x0 x1=some r):Fn Tryz.prog 49 #[.int .i64 (x0),up1] gI wI (fun m w v=>∃ y0 y1,v=.tuple #[y0,y1]∧RV m w (r.1) y0∧y1=.bool (r.2)):=by
 unfold f49 at h
 refine fn_of_E Tryz.func49 rfl (Nat.le_of_ble_eq_true rfl) fun g0 hm hfr=>?_
 obtain ⟨ff1,fa1,fc1,rfl,fen1,fcl1⟩:=rp1
 show E _ 46 none _ _ _ _ _
 refine Zf (Za (Zg (.slice none 0 0) rfl rfl ?_))
 refine Zg (.bool false) rfl rfl ?_
 refine Zb (Zd ?_)
 obtain ⟨⟨u9,k9⟩,hx,h⟩:=bsome h
 refine E_join (fun e w=>∃ (g:Gh) (v4:Value),Fr gI wI g w∧e 4=v4∧RV g.m w (u9:List Int) v4∧e 5=.bool (k9)) (fun Q' hQ=>?_) (fun xE sF hR=>?_)
 ·replace h := hx
  clear hx
  refine Zf (Za (Zn (.int .i64 (x0)) rfl rfl ?_))
  obtain ⟨d9,vD,h⟩:=bsome h
  refine EL_p (.int .i64 (d9)) (P_int rfl rfl (congrArg (Option.map (Value.int .i64)) vD)) rfl ?_
  refine Zn (.int .i64 (0)) rfl rfl ?_
  refine Zb (Zd (Zr ?_))
  refine E_lp h (fun (s:(List Int) × Bool × Int) e w=>∃ (g:Gh) (v4:Value),Fr gI wI g w∧e 1=(.func (.func ff1) fa1 fc1)∧e 4=v4∧RV g.m w (s.1:List Int) v4∧e 5=.bool (s.2.1)∧e 9=.int .i64 (d9)∧e 10=.int .i64 (s.2.2)) ⟨g0,(.slice none 0 0),hfr,rfl,rfl,RV_nil,rfl,rfl,rfl⟩ (fun X352 tB xD=>?_)
  rintro ⟨l5,y6,o0⟩ yE tF ⟨yB,g8,hfr,k8,i7,u3,n8,x8,m7⟩ h
  refine Zf (Za (EL_in (.bool ((decide (o0 < d9)))) m7 x8 rfl rfl ?_))
  refine Zb (Zd (Zf ?_))
  rcases Zt h with ⟨yA,h⟩ | ⟨yA,h⟩
  ·refine E_ct yA rfl ?_
   refine Zu (Zd ?_)
   obtain ⟨⟨l9,n9⟩,hx,h⟩:=bsome h
   refine E_join (fun e w=>∃ (g:Gh) (v4:Value),Fr gI wI g w∧e 1=(.func (.func ff1) fa1 fc1)∧e 4=v4∧RV g.m w (l9:List Int) v4∧e 5=.bool (n9)∧e 9=.int .i64 (d9)∧e 10=.int .i64 (o0)) (fun Q' hQ=>?_) (fun zE uF hR=>?_)
   ·replace h := hx
    clear hx
    refine Zr ?_
    refine Zf (Za (Zo m7 rfl ?_))
    refine Zg (.int .i64 (o0)) rfl rfl ?_
    refine Zb (Zd (Zf (Za (Zn (.int .i64 (o0)) rfl rfl ?_))))
    obtain ⟨i6,yD,h⟩:=bsome h
    refine Ze .plain rfl (Zp (g:=yB) (vs:=[.int .i64 (o0)]) en94 (.cons rfl .nil) (wk94  yD) fun aB cF r8 hs hr=>?_)
    have hfr:=hfr.ext hs
    have u3:=u3.ext hs
    have x6:=hr
    refine Zg r8 rfl rfl ?_
    refine Zb (Zd (Zq h (fun (s:Unit) e w=>∃ (g:Gh) ,Fr gI wI g w∧e 1=(.func (.func ff1) fa1 fc1)∧e 7=r8∧RV g.m w (i6:List Int) r8∧e 9=.int .i64 (d9)∧e 10=.int .i64 (o0)) (fun X439 vB zD h=>?_) ?_))
    ·obtain ⟨v8, hx, h⟩ := bsome h
     refine E_join (fun e w=>∃ (g:Gh) ,Fr gI wI g w∧e 1=(.func (.func ff1) fa1 fc1)∧e 4=g8∧RV g.m w (l5:List Int) g8∧e 5=.bool (y6)∧e 7=r8∧RV g.m w (i6:List Int) r8∧e 9=.int .i64 (d9)∧e 10=.int .i64 (o0)∧e 41=.bool (v8)) (fun Q' hQ=>?_) (fun dF vF hR=>?_)
     ·replace h := hx
      clear hx
      refine Za (Zo n8 rfl ?_)
      refine Zn (.bool (y6)) rfl rfl ?_
      rcases Zt h with ⟨t5,h⟩ | ⟨t5,h⟩
      ·refine EL_y r8 (Zk rfl) rfl rfl t5 rfl ?_
       refine EL_y (.int .i64 ((i6).length:Int)) (P_len Tryz.underlying28 rfl x6) rfl rfl t5 rfl ?_
       refine EL_y g8 (Zk i7) rfl rfl t5 rfl ?_
       refine EL_y (.int .i64 ((l5).length:Int)) (P_len Tryz.underlying28 rfl u3) rfl rfl t5 rfl ?_
       refine EL_y (.bool ((decide (((i6).length:Int) > ((l5).length:Int))))) (P_int rfl rfl rfl) rfl rfl t5 rfl ?_
       refine EL_y (.bool ((decide (((i6).length:Int) > ((l5).length:Int))))) (Zk rfl) rfl rfl t5 rfl ?_
       rcases Zt h with ⟨x5,h⟩ | ⟨x5,h⟩
       ·refine EL_s rfl rfl x5 rfl rfl ?_
        iterate 5 refine EL_s rfl rfl x5 rfl rfl ?_
        refine EL_dead 4 rfl ?_
        refine EL_s rfl rfl x5 rfl rfl ?_
        refine EL_y (.bool true) (Zl (b:=(decide (((i6).length:Int) > ((l5).length:Int)))) rfl (pick_t x5 rfl)) rfl rfl t5 rfl ?_
        refine EL_p (.bool true) (Zl (b:=y6) rfl (pick_t t5 rfl)) rfl ?_
        refine EL_dead 6 rfl ?_
        refine Zb ?_
        obtain rfl:=sinj h
        exact hQ _ _ ⟨aB,hfr,k8,i7,u3,n8,rfl,x6,x8,m7,rfl⟩
       ·refine EL_y r8 (Zk rfl) rfl rfl x5 rfl ?_
        refine EL_y (.int .i64 ((i6).length:Int)) (P_len Tryz.underlying28 rfl x6) rfl rfl x5 rfl ?_
        refine EL_y g8 (Zk i7) rfl rfl x5 rfl ?_
        refine EL_y (.int .i64 ((l5).length:Int)) (P_len Tryz.underlying28 rfl u3) rfl rfl x5 rfl ?_
        refine EL_y (.bool ((((i6).length:Int) == ((l5).length:Int)))) (P_int rfl rfl rfl) rfl rfl x5 rfl ?_
        refine EL_y (.bool ((((i6).length:Int) == ((l5).length:Int)))) (Zk rfl) rfl rfl x5 rfl ?_
        rcases Zt h with ⟨l8,h⟩ | ⟨l8,h⟩
        ·refine EL_y r8 (Zk rfl) rfl rfl l8 rfl ?_
         refine EL_y g8 (Zk i7) rfl rfl l8 rfl ?_
         obtain ⟨a9,aE,h⟩:=bsome h
         refine Ze (.yes2 rfl rfl l8) rfl (Zp (g:=aB) (vs:=[r8,g8]) en95 (.cons rfl (.cons rfl .nil)) (wk95 x6 u3 aE) fun zB eF xF hs hr=>?_)
         have hfr:=hfr.ext hs
         have u3:=u3.ext hs
         have x6:=x6.ext hs
         subst hr
         refine EL_y (.bool ((decide (a9 > (0:Int))))) (P_int rfl rfl rfl) rfl rfl l8 rfl ?_
         refine EL_y (.bool ((decide (a9 > (0:Int))))) (Zl (b:=(((i6).length:Int) == ((l5).length:Int))) rfl (pick_t l8 rfl)) rfl rfl x5 rfl ?_
         refine EL_y (.bool ((decide (a9 > (0:Int))))) (Zl (b:=(decide (((i6).length:Int) > ((l5).length:Int)))) rfl (pick_f x5 rfl)) rfl rfl t5 rfl ?_
         refine EL_p (.bool ((decide (a9 > (0:Int))))) (Zl (b:=y6) rfl (pick_t t5 rfl)) rfl ?_
         refine Zn (.bool ((decide (a9 > (0:Int))))) rfl rfl ?_
         rcases Zt h with ⟨m8,h⟩ | ⟨m8,h⟩
         ·refine EL_s rfl rfl m8 rfl rfl ?_
          iterate 3 refine EL_s rfl rfl m8 rfl rfl ?_
          refine EL_p (.bool true) (Zl (b:=(decide (a9 > (0:Int)))) rfl (pick_t m8 rfl)) rfl ?_
          refine Zb ?_
          obtain rfl:=sinj h
          exact hQ _ _ ⟨zB,hfr,k8,i7,u3,n8,rfl,x6,x8,m7,rfl⟩
         ·refine EL_y ((.func (.func ff1) fa1 fc1)) (Zk k8) rfl rfl m8 rfl ?_
          refine EL_y (.int .i64 (o0)) (Zk rfl) rfl rfl m8 rfl ?_
          obtain ⟨bA,bE,h⟩:=bsome h
          refine Ze (.yes2 rfl rfl m8) rfl (D_callv (g:=zB) (vs:=[.int .i64 (o0)]) rfl fen1 (.cons rfl .nil) (fcl1 _ _ hfr.ch _ _ _  (Zj.2 rfl) bE) fun mE yF zF hs hr=>?_)
          have hfr:=hfr.ext hs
          have u3:=u3.ext hs
          have x6:=x6.ext hs
          obtain rfl:=RV_bool.1 hr
          refine EL_y (.bool (!bA)) (P_not rfl) rfl rfl m8 rfl ?_
          refine EL_p (.bool (!bA)) (Zl (b:=(decide (a9 > (0:Int)))) rfl (pick_f m8 rfl)) rfl ?_
          refine Zb ?_
          obtain rfl:=sinj h
          exact hQ _ _ ⟨mE,hfr,k8,i7,u3,n8,rfl,x6,x8,m7,rfl⟩
        ·refine EL_s rfl rfl l8 rfl rfl ?_
         iterate 3 refine EL_s rfl rfl l8 rfl rfl ?_
         refine EL_y (.bool false) (Zl (b:=(((i6).length:Int) == ((l5).length:Int))) rfl (pick_f l8 rfl)) rfl rfl x5 rfl ?_
         refine EL_y (.bool false) (Zl (b:=(decide (((i6).length:Int) > ((l5).length:Int)))) rfl (pick_f x5 rfl)) rfl rfl t5 rfl ?_
         refine EL_p (.bool false) (Zl (b:=y6) rfl (pick_t t5 rfl)) rfl ?_
         refine Zn (.bool false) rfl rfl ?_
         refine EL_y ((.func (.func ff1) fa1 fc1)) (Zk k8) rfl rfl rfl rfl ?_
         refine EL_y (.int .i64 (o0)) (Zk rfl) rfl rfl rfl rfl ?_
         obtain ⟨iA,iE,h⟩:=bsome h
         refine Ze (.yes2 rfl rfl rfl) rfl (D_callv (g:=aB) (vs:=[.int .i64 (o0)]) rfl fen1 (.cons rfl .nil) (fcl1 _ _ hfr.ch _ _ _  (Zj.2 rfl) iE) fun oE aG bG hs hr=>?_)
         have hfr:=hfr.ext hs
         have u3:=u3.ext hs
         have x6:=x6.ext hs
         obtain rfl:=RV_bool.1 hr
         refine EL_y (.bool (!iA)) (P_not rfl) rfl rfl rfl rfl ?_
         refine EL_p (.bool (!iA)) (Zl (b:=false) rfl (pick_f rfl rfl)) rfl ?_
         refine Zb ?_
         obtain rfl:=sinj h
         exact hQ _ _ ⟨oE,hfr,k8,i7,u3,n8,rfl,x6,x8,m7,rfl⟩
      ·refine EL_s rfl rfl t5 rfl rfl ?_
       iterate 5 refine EL_s rfl rfl t5 rfl rfl ?_
       refine EL_dead 11 rfl ?_
       refine EL_s rfl rfl t5 rfl rfl ?_
       refine EL_p (.bool false) (Zl (b:=y6) rfl (pick_f t5 rfl)) rfl ?_
       refine Zn (.bool false) rfl rfl ?_
       refine EL_y ((.func (.func ff1) fa1 fc1)) (Zk k8) rfl rfl rfl rfl ?_
       refine EL_y (.int .i64 (o0)) (Zk rfl) rfl rfl rfl rfl ?_
       obtain ⟨rA,lE,h⟩:=bsome h
       refine Ze (.yes2 rfl rfl rfl) rfl (D_callv (g:=aB) (vs:=[.int .i64 (o0)]) rfl fen1 (.cons rfl .nil) (fcl1 _ _ hfr.ch _ _ _  (Zj.2 rfl) lE) fun rE cG eG hs hr=>?_)
       have hfr:=hfr.ext hs
       have u3:=u3.ext hs
       have x6:=x6.ext hs
       obtain rfl:=RV_bool.1 hr
       refine EL_y (.bool (!rA)) (P_not rfl) rfl rfl rfl rfl ?_
       refine EL_p (.bool (!rA)) (Zl (b:=false) rfl (pick_f rfl rfl)) rfl ?_
       refine Zb ?_
       obtain rfl:=sinj h
       exact hQ _ _ ⟨rE,hfr,k8,i7,u3,n8,rfl,x6,x8,m7,rfl⟩
     ·clear hx
      obtain ⟨cC,hfr,iB,mC,qC,rC,uC,vC,lB,y9,z9⟩:=hR
      rcases Zt h with ⟨dB,h⟩ | ⟨dB,h⟩
      ·refine E_cond_true (Eq.trans (show ev _ _ = .bool (v8) from z9) (congrArg Value.bool dB)) ?_
       refine E_exit ?_
       refine thn_e ?_
       refine blk_hit ?_
       obtain ⟨rfl,rfl⟩:=pairs2 h
       exact hQ _ _ ⟨cC,(g8),hfr,iB,mC,qC,rC,lB,y9⟩
      ·refine E_cond_false (Eq.trans (show ev _ _ = .bool (v8) from z9) (congrArg Value.bool dB)) ?_
       exact Zu (Zd (zD () _ _ ⟨cC,hfr,iB,uC,vC,lB,y9⟩ h))
    ·rintro _ rF gG ⟨uE, hfr, aD, bD, cD, eD, nB⟩ h
     refine Za (Zo bD rfl ?_)
     refine Zg r8 rfl rfl ?_
     refine Zg (.bool true) rfl rfl ?_
     refine Zb (blk_n ?_)
     obtain ⟨rfl,rfl⟩:=pairs2 h
     exact hQ _ _ ⟨uE,(r8),hfr,aD,rfl,cD,rfl,eD,nB⟩
   ·clear hx
    obtain ⟨vE,gD,hfr,iD,jD,lD,nD,oD,oB⟩:=hR
    refine Za (EL_in (.int .i64 ((w64 (o0 + (1:Int))))) oB rfl rfl rfl ?_)
    refine Zn (.int .i64 ((w64 (o0 + (1:Int))))) rfl rfl ?_
    exact Zb (Zd (xD (l9,n9,(w64 (o0 + (1:Int)))) _ _ ⟨vE,(gD),hfr,iD,jD,lD,nD,oD,rfl⟩ h))
  ·refine E_cf yA rfl ?_
   refine E_exit ?_
   refine thn_e ?_
   refine thn_e ?_
   refine blk_hit ?_
   obtain ⟨rfl,rfl⟩:=pairs2 h
   exact hQ _ _ ⟨yB,(g8),hfr,i7,u3,n8⟩
 ·clear hx
  obtain ⟨hG,mB,hfr,sD,tD,uD⟩:=hR
  refine Zf (Za (Zo sD rfl ?_))
  refine Zo uD rfl ?_
  refine Zg mB rfl rfl ?_
  refine Zg (.bool (k9)) rfl rfl ?_
  refine Zb (Zd (E_ret ?_))
  obtain rfl:=sinj h
  exact end2 rfl rfl (show _=mB from rfl) (show _=.bool (k9) from rfl) ⟨_,hfr,_,_,rfl,tD,rfl⟩
def f63 (x0:Int) (x1:Int) (x2:List Int):Option (Bool):=
 (f72 x2 ((fun a0=>f108 a0 x0 x1))).bind fun y4=>
 some ((!y4))
theorem en63:Enters Tryz.prog 63:=enters_of Tryz.func63 (by kernel_rfl) rfl
theorem wk63 {gI:Gh} {wI:World} {x0:Int} {x1:Int} {x2:List Int} {up2:Value} (rp2:RV gI.m wI x2 up2) {r:Bool} (h:f63 x0 x1 x2=some r):Fn Tryz.prog 63 #[.int .i64 (x0),.int .i64 (x1),up2] gI wI (fun _ _ v=>v=.bool (r)):=by
 unfold f63 at h
 refine fn_of_E Tryz.func63 rfl (Nat.le_of_ble_eq_true rfl) fun g0 hm hfr=>?_
 have rp2:RV g0.m wI x2 up2:=hm ▸ rp2
 show E _ 11 none _ _ _ _ _
 refine Zf (Za (Ze .plain rfl (D_box (g:=g0) rfl (Zj.2 rfl) fun g1 w1 p1 hs q1=>?_)))
 have hfr:=hfr.ext hs
 have rp2:=rp2.ext hs
 refine Ze .plain rfl (D_box (g:=g1) rfl (Zj.2 rfl) fun g2 w2 p2 hs q2=>?_)
 have hfr:=hfr.ext hs
 have rp2:=rp2.ext hs
 have q1:=q1.ext hs
 refine Zg (.bool false) rfl rfl ?_
 refine Zb (Zd (Zf (Za (Zn up2 rfl rfl ?_))))
 refine EL_p ((.func (.func 108) #[] #[p1,p2])) (P_makeFunc (capf_0_2 (show ev _ _=p1 from rfl) (show ev _ _=p2 from rfl))) rfl ?_
 obtain ⟨y4,o0,h⟩:=bsome h
 refine Ze .plain rfl (Zp (g:=g2) (vs:=[up2,(.func (.func 108) #[] #[p1,p2])]) en72 (.cons rfl (.cons rfl .nil)) (wk72 rp2 ⟨108,#[],#[p1,p2],rfl,en108,fun g' w' hch a0 b0 r hu0 hr=>by obtain rfl:=Zj.1 hu0; exact Fn.mono (wk108  (q1.ch hch) (q2.ch hch) hr) fun _ _ _ h=>RV_bool.2 h⟩ o0) fun g3 w3_ v3 hs hr=>?_)
 have hfr:=hfr.ext hs
 subst hr
 refine EL_p (.bool (!y4)) (P_not rfl) rfl ?_
 refine Zg (.bool (!y4)) rfl rfl ?_
 refine Zb (Zd (E_ret ?_))
 obtain rfl:=sinj h
 exact end1 rfl rfl (show _=.bool (!y4) from rfl) ⟨_,hfr,rfl⟩
def f65 (x0:Int) (x1:Int) (z0:Int) (z1:List Int) (z2:Int):Option (Int):=
 (idx z1 x1).bind fun y3=>
 (rem64 (w64 (z0 * y3)) z2).bind fun y7=>
 (idx z1 x0).bind fun u3=>
 (rem64 (w64 (z0 * u3)) z2).bind fun l5=>
 (f66 y7 l5).bind fun o0=>
 some (o0)
theorem en65:Enters Tryz.prog 65:=enters_of Tryz.func65 (by kernel_rfl) rfl
theorem wk65 {gI:Gh} {wI:World} {x0:Int} {x1:Int} {z0:Int} {z1:List Int} {z2:Int} {pf0:Value} (qf0:PT gI.m wI z0 pf0) {pf1:Value} (qf1:PT gI.m wI z1 pf1) {pf2:Value} (qf2:PT gI.m wI z2 pf2) {r:Int} (h:f65 x0 x1 z0 z1 z2=some r):Fn Tryz.prog 65 #[.int .i64 (x0),.int .i64 (x1),pf0,pf1,pf2] gI wI (fun _ _ v=>v=.int .i64 (r)):=by
 unfold f65 at h
 refine fn_of_E Tryz.func65 rfl (Nat.le_of_ble_eq_true rfl) fun g0 hm hfr=>?_
 have qf0:PT g0.m wI z0 pf0:=hm ▸ qf0
 have qf1:PT g0.m wI z1 pf1:=hm ▸ qf1
 have qf2:PT g0.m wI z2 pf2:=hm ▸ qf2
 show E _ 25 none _ _ _ _ _
 refine Zf (Za (Zg (.int .i64 (0)) rfl rfl ?_))
 refine Zb (Zd (Zf (Zs (x:=.tmp 2) Tryz.isAgg3 Tryz.sizeOf3 qf0 fun v1 r1 hl1=>?_)))
 obtain rfl:=Zj.1 r1
 refine Zs (x:=.tmp 3) Tryz.isAgg28 Tryz.sizeOf28 qf1 fun v2 r2 hl2=>?_
 obtain ⟨y3,hy3,h⟩:=bsome h
 have q4:=PT_idx r2 hy3
 refine Zs (x:=.tmp 11) Tryz.isAgg3 Tryz.sizeOf3 q4 fun v5 r5 y6=>?_
 obtain rfl:=Zj.1 r5
 refine Zs (x:=.tmp 4) Tryz.isAgg3 Tryz.sizeOf3 qf2 fun v6 r6 i7=>?_
 obtain rfl:=Zj.1 r6
 obtain ⟨y7,m7,h⟩:=bsome h
 refine Zs (x:=.tmp 2) Tryz.isAgg3 Tryz.sizeOf3 qf0 fun v8 r8 g8=>?_
 obtain rfl:=Zj.1 r8
 refine Zs (x:=.tmp 3) Tryz.isAgg28 Tryz.sizeOf28 qf1 fun v9 r9 k8=>?_
 obtain ⟨u3,t5,h⟩:=bsome h
 have l8:=PT_idx r9 t5
 refine Zs (x:=.tmp 19) Tryz.isAgg3 Tryz.sizeOf3 l8 fun x8 m8 hl12=>?_
 obtain rfl:=Zj.1 m8
 refine Zs (x:=.tmp 4) Tryz.isAgg3 Tryz.sizeOf3 qf2 fun a9 n8 x5=>?_
 obtain rfl:=Zj.1 n8
 obtain ⟨l5,i6,h⟩:=bsome h
 obtain ⟨o0,x6,h⟩:=bsome h
 refine E_drawL (g:=g0) (n:=18) [(16,(fun v g w=>v=.int .i64 (o0)))] [0,1,2,3,4,5,6,7,8,9,10,11,12,13,14,15,16,17] rfl mixed (by kernel_rfl) (⟨fun _=>up_eq _,trivial⟩) ?_
 refine L_ld (c:=.int .i64 (z0)) rfl rfl .plain (fun _ _ h=>h.ch) hl1 rfl ?_
 refine L_ld (c:=v2) rfl rfl .plain (fun _ _ h=>h.ch) hl2 rfl ?_
 refine L_p (.int .i64 (x1)) rfl rfl (Zk rfl) ?_
 refine L_p (ePtr v2 x1 1) rfl rfl (Zh (α:=Int) Tryz.underlying28 Tryz.sizeOf3 rfl r2 rfl hy3) ?_
 refine L_ld (c:=.int .i64 (y3)) rfl rfl .plain (fun _ _ h=>h.ch) y6 rfl ?_
 refine L_p (.int .i64 ((w64 (z0 * y3)))) rfl rfl (P_int rfl rfl rfl) ?_
 refine L_ld (c:=.int .i64 (z2)) rfl rfl .plain (fun _ _ h=>h.ch) i7 rfl ?_
 refine L_p (.int .i64 (y7)) rfl rfl (P_int rfl rfl (congrArg (Option.map (Value.int .i64)) m7)) ?_
 refine L_ld (c:=.int .i64 (z0)) rfl rfl .plain (fun _ _ h=>h.ch) g8 rfl ?_
 refine L_ld (c:=v9) rfl rfl .plain (fun _ _ h=>h.ch) k8 rfl ?_
 refine L_p (.int .i64 (x0)) rfl rfl (Zk rfl) ?_
 refine L_p (ePtr v9 x0 1) rfl rfl (Zh (α:=Int) Tryz.underlying28 Tryz.sizeOf3 rfl r9 rfl t5) ?_
 refine L_ld (c:=.int .i64 (u3)) rfl rfl .plain (fun _ _ h=>h.ch) hl12 rfl ?_
 refine L_p (.int .i64 ((w64 (z0 * u3)))) rfl rfl (P_int rfl rfl rfl) ?_
 refine L_ld (c:=.int .i64 (z2)) rfl rfl .plain (fun _ _ h=>h.ch) x5 rfl ?_
 refine L_p (.int .i64 (l5)) rfl rfl (P_int rfl rfl (congrArg (Option.map (Value.int .i64)) i6)) ?_
 refine L_do (φ:=fun v g w=>v=.int .i64 (o0)) rfl rfl .plain (fun g w hd=>Zp (g:=g) (vs:=[.int .i64 (y7),.int .i64 (l5)]) en66 (.cons rfl (.cons rfl .nil)) (wk66  x6) fun g' w' v hs hr=>⟨g',hs,hr⟩) (fun d9 hv=>?_)
 obtain ⟨_,_,_,rfl⟩:=hv
 refine L_p (.int .i64 (o0)) rfl rfl (P_assign rfl) ?_
 refine L_nl fun k9 l9 hs=>?_
 have hfr:=hfr.ext hs
 clear hs
 refine Zb (Zd (E_ret ?_))
 obtain rfl:=sinj h
 exact end1 rfl rfl (show _=.int .i64 (o0) from rfl) ⟨_,hfr,rfl⟩
def f75 (x0:List Int):Option (Bool):=
 (f63 ((0:Int)) ((1000000000:Int)) x0).bind fun y2=>
 some (y2)
theorem en75:Enters Tryz.prog 75:=enters_of Tryz.func75 (by kernel_rfl) rfl
theorem wk75 {gI:Gh} {wI:World} {x0:List Int} {up0:Value} (rp0:RV gI.m wI x0 up0) {r:Bool} (h:f75 x0=some r):Fn Tryz.prog 75 #[up0] gI wI (fun _ _ v=>v=.bool (r)):=by
 unfold f75 at h
 refine fn_of_E Tryz.func75 rfl (Nat.le_of_ble_eq_true rfl) fun g0 hm hfr=>?_
 have rp0:RV g0.m wI x0 up0:=hm ▸ rp0
 show E _ 5 none _ _ _ _ _
 refine Zf (Za (Zg (.bool false) rfl rfl ?_))
 refine Zb (Zd (Zf (Za (Zn up0 rfl rfl ?_))))
 obtain ⟨y2,hy2,h⟩:=bsome h
 refine Ze .plain rfl (Zp (g:=g0) (vs:=[.int .i64 (0),.int .i64 (1000000000),up0]) en63 (.cons rfl (.cons rfl (.cons rfl .nil))) (wk63 rp0 hy2) fun g1 w1_ v1 hs hr=>?_)
 have hfr:=hfr.ext hs
 subst hr
 refine Zg (.bool (y2)) rfl rfl ?_
 refine Zb (Zd (E_ret ?_))
 obtain rfl:=sinj h
 exact end1 rfl rfl (show _=.bool (y2) from rfl) ⟨_,hfr,rfl⟩
def f89 (x0:LoomOrder):Option (Bool):=
 Option.bind (α:=Bool) (
  (f90 ((1:Int)) ((100:Int)) (([(x0).Width]:List Int))).bind fun i6=>
  bif i6 then
   (f90 ((0:Int)) ((100:Int)) (([(x0).Chain]:List Int))).bind fun x5=>
   bif x5 then
    (f90 ((1:Int)) ((100:Int)) (([(x0).Woven]:List Int))).bind fun y43=>
    bif y43 then
     (f133 (([(x0).Early,(x0).Late]:List Int))).bind fun x6=>
     some (x6)
    else
     some (false)
   else
    some (false)
  else
   some (false)
  ) fun t5=>
 some (t5)
theorem en89:Enters Tryz.prog 89:=enters_of Tryz.func89 (by kernel_rfl) rfl
theorem wk89 {gI:Gh} {wI:World} {x0:LoomOrder} {up0:Value} (rp0:RV gI.m wI x0 up0) {r:Bool} (h:f89 x0=some r):Fn Tryz.prog 89 #[up0] gI wI (fun _ _ v=>v=.bool (r)):=by
 unfold f89 at h
 refine fn_of_E Tryz.func89 rfl (Nat.le_of_ble_eq_true rfl) fun g0 hm hfr=>?_
 have rp0:RV g0.m wI x0 up0:=hm ▸ rp0
 show E _ 27 none _ _ _ _ _
 refine Zf (Za (Ze .plain rfl (D_box (g:=g0) rfl rp0 fun g1 w1 p1 hs q1=>?_)))
 have hfr:=hfr.ext hs
 refine Zg (.bool false) rfl rfl ?_
 refine Zb (Zd ?_)
 obtain ⟨t5,hx,h⟩:=bsome h
 refine E_join (fun e w=>∃ (g:Gh) ,Fr gI wI g w∧e 2=.bool (t5)) (fun Q' hQ=>?_) (fun vB qC hR=>?_)
 ·replace h := hx
  clear hx
  refine Za (EL_p (fPtr p1 0) (Zc at_49_0 rfl (PT.ptr q1)) rfl ?_)
  have r8:=Zm (part_LoomOrder_0).1 q1
  refine Ze .plain rfl (D_load (g:=g1) Tryz.isAgg3 Tryz.sizeOf3 rfl r8 fun rC v8=>?_)
  obtain rfl:=Zj.1 v8
  refine Ze .plain rfl (D_buildSlice (g:=g1) 3005 (xs:=([(x0).Width]:List Int)) (vs:=[.int .i64 ((x0).Width)]) Tryz.underlying28 Tryz.sizeOf3 Tryz.zeroValue3 rfl rfl (.cons rfl .nil) (RVs.cons (Zj.2 rfl) RVs.nil) rfl rfl fun x8 w29 a9 hs o29 d9 hxt hfl=>?_)
  have hfr:=hfr.stp hs
  have q1:=q1.stp hs
  obtain ⟨i6,k8,h⟩:=bsome h
  refine Ze .plain rfl (Zp (g:=x8) (vs:=[.int .i64 (1),.int .i64 (100),a9]) en90 (.cons rfl (.cons rfl (.cons rfl .nil))) (wk90 d9 k8) fun i7 yB uC hs hr=>?_)
  have hfr:=hfr.ext hs
  have q1:=q1.ext hs
  subst hr
  refine Zn (.bool (i6)) rfl rfl ?_
  rcases Zt h with ⟨u3,h⟩ | ⟨u3,h⟩
  ·refine EL_y (fPtr p1 1) (Zc at_49_1 rfl (PT.ptr q1)) rfl rfl u3 rfl ?_
   have k9:=Zm (part_LoomOrder_1).1 q1
   refine Ze (.yes2 rfl rfl u3) rfl (D_load (g:=i7) Tryz.isAgg3 Tryz.sizeOf3 rfl k9 fun vC l9=>?_)
   obtain rfl:=Zj.1 l9
   refine Ze (.yes2 rfl rfl u3) rfl (D_buildSlice (g:=i7) 3010 (xs:=([(x0).Chain]:List Int)) (vs:=[.int .i64 ((x0).Chain)]) Tryz.underlying28 Tryz.sizeOf3 Tryz.zeroValue3 rfl rfl (.cons rfl .nil) (RVs.cons (Zj.2 rfl) RVs.nil) rfl rfl fun n9 aD u9 hs o35 y9 hxt hfl=>?_)
   have hfr:=hfr.stp hs
   have q1:=q1.stp hs
   obtain ⟨x5,l8,h⟩:=bsome h
   refine Ze (.yes2 rfl rfl u3) rfl (Zp (g:=n9) (vs:=[.int .i64 (0),.int .i64 (100),u9]) en90 (.cons rfl (.cons rfl (.cons rfl .nil))) (wk90 y9 l8) fun m7 zB bD hs hr=>?_)
   have hfr:=hfr.ext hs
   have q1:=q1.ext hs
   subst hr
   refine EL_p (.bool (x5)) (Zl (b:=i6) rfl (pick_t u3 rfl)) rfl ?_
   refine Zn (.bool (x5)) rfl rfl ?_
   rcases Zt h with ⟨l5,h⟩ | ⟨l5,h⟩
   ·refine EL_y (fPtr p1 2) (Zc at_49_2 rfl (PT.ptr q1)) rfl rfl l5 rfl ?_
    have z9:=Zm (part_LoomOrder_2).1 q1
    refine Ze (.yes2 rfl rfl l5) rfl (D_load (g:=m7) Tryz.isAgg3 Tryz.sizeOf3 rfl z9 fun cD bA=>?_)
    obtain rfl:=Zj.1 bA
    refine Ze (.yes2 rfl rfl l5) rfl (D_buildSlice (g:=m7) 3016 (xs:=([(x0).Woven]:List Int)) (vs:=[.int .i64 ((x0).Woven)]) Tryz.underlying28 Tryz.sizeOf3 Tryz.zeroValue3 rfl rfl (.cons rfl .nil) (RVs.cons (Zj.2 rfl) RVs.nil) rfl rfl fun iA eD rA hs o41 yA hxt hfl=>?_)
    have hfr:=hfr.stp hs
    have q1:=q1.stp hs
    obtain ⟨y43,m8,h⟩:=bsome h
    refine Ze (.yes2 rfl rfl l5) rfl (Zp (g:=iA) (vs:=[.int .i64 (1),.int .i64 (100),rA]) en90 (.cons rfl (.cons rfl (.cons rfl .nil))) (wk90 yA m8) fun y6 cC gD hs hr=>?_)
    have hfr:=hfr.ext hs
    have q1:=q1.ext hs
    subst hr
    refine EL_p (.bool (y43)) (Zl (b:=x5) rfl (pick_t l5 rfl)) rfl ?_
    refine Zn (.bool (y43)) rfl rfl ?_
    rcases Zt h with ⟨o0,h⟩ | ⟨o0,h⟩
    ·refine EL_y (fPtr p1 3) (Zc at_49_3 rfl (PT.ptr q1)) rfl rfl o0 rfl ?_
     have aB:=Zm (part_LoomOrder_3).1 q1
     refine Ze (.yes2 rfl rfl o0) rfl (D_load (g:=y6) Tryz.isAgg3 Tryz.sizeOf3 rfl aB fun iD dB=>?_)
     obtain rfl:=Zj.1 dB
     refine EL_y (fPtr p1 4) (Zc at_49_4 rfl (PT.ptr q1)) rfl rfl o0 rfl ?_
     have iB:=Zm (part_LoomOrder_4).1 q1
     refine Ze (.yes2 rfl rfl o0) rfl (D_load (g:=y6) Tryz.isAgg3 Tryz.sizeOf3 rfl iB fun jD lB=>?_)
     obtain rfl:=Zj.1 lB
     refine Ze (.yes2 rfl rfl o0) rfl (D_buildSlice (g:=y6) 3024 (xs:=([(x0).Early,(x0).Late]:List Int)) (vs:=[.int .i64 ((x0).Early),.int .i64 ((x0).Late)]) Tryz.underlying28 Tryz.sizeOf3 Tryz.zeroValue3 rfl rfl (.cons rfl (.cons rfl .nil)) (RVs.cons (Zj.2 rfl) (RVs.cons (Zj.2 rfl) RVs.nil)) rfl rfl fun mB lD nB hs o49 oB hxt hfl=>?_)
     have hfr:=hfr.stp hs
     obtain ⟨x6,n8,h⟩:=bsome h
     refine Ze (.yes2 rfl rfl o0) rfl (Zp (g:=mB) (vs:=[nB]) en133 (.cons rfl .nil) (wk133 oB n8) fun tB mC nD hs hr=>?_)
     have hfr:=hfr.ext hs
     subst hr
     refine EL_p (.bool (x6)) (Zl (b:=y43) rfl (pick_t o0 rfl)) rfl ?_
     refine Zg (.bool (x6)) rfl rfl ?_
     refine Zb ?_
     obtain rfl:=sinj h
     exact hQ _ _ ⟨tB,hfr,rfl⟩
    ·refine EL_s rfl rfl o0 rfl rfl ?_
     iterate 5 refine EL_s rfl rfl o0 rfl rfl ?_
     refine EL_p (.bool false) (Zl (b:=y43) rfl (pick_f o0 rfl)) rfl ?_
     refine Zg (.bool false) rfl rfl ?_
     refine Zb ?_
     obtain rfl:=sinj h
     exact hQ _ _ ⟨y6,hfr,rfl⟩
   ·refine EL_s rfl rfl l5 rfl rfl ?_
    iterate 3 refine EL_s rfl rfl l5 rfl rfl ?_
    refine EL_p (.bool false) (Zl (b:=x5) rfl (pick_f l5 rfl)) rfl ?_
    refine EL_dead 8 rfl ?_
    refine Zg (.bool false) rfl rfl ?_
    refine Zb ?_
    obtain rfl:=sinj h
    exact hQ _ _ ⟨m7,hfr,rfl⟩
  ·refine EL_s rfl rfl u3 rfl rfl ?_
   iterate 3 refine EL_s rfl rfl u3 rfl rfl ?_
   refine EL_p (.bool false) (Zl (b:=i6) rfl (pick_f u3 rfl)) rfl ?_
   refine EL_dead 14 rfl ?_
   refine Zg (.bool false) rfl rfl ?_
   refine Zb ?_
   obtain rfl:=sinj h
   exact hQ _ _ ⟨i7,hfr,rfl⟩
 ·clear hx
  obtain ⟨oD,hfr,g8⟩:=hR
  refine E_ret ?_
  obtain rfl:=sinj h
  exact end1 rfl rfl (show _=.bool (t5) from g8) ⟨_,hfr,rfl⟩
def f92 (x0:LoomLoomMill) (x1:Int) (x2:List (Int × LoomRun)):Option ((List Bool)):=
 (shl64 (1:Int) (((x0).orders).length:Int)).bind fun y6=>
 (mks 1 (false:Bool) y6).bind fun y7=>
 (idx y7 (0:Int)).bind fun y9=>
 Option.bind (α:=(List Bool)) (
  lp (σ:=(List Bool) × (Vector (Vector Int 7) 128) × Int) (fun oE (a9,aB,u3)=>
   jn (σ:=Unit) (fun _=>
    Option.bind (α:=(List Bool) × (Vector (Vector Int 7) 128)) (
     lp (σ:=(List Bool) × (Vector (Vector Int 7) 128) × Int) (fun rE (i7,x5,o0)=>
      bif (decide (o0 < (((x0).orders).length : Int))) then
       Option.bind (α:=(List Bool) × (Vector (Vector Int 7) 128)) (
        (idx (x5).toList u3).bind fun uE=>
        (idx (uE).toList o0).bind fun pI=>
        jn (σ:=Unit) (fun _=>
         (f136 x0 ((vmod x5 u3 (fun b=>(vset b o0 ((1048576:Int)))))) u3 o0 x1 x2).bind fun m7=>
         bif (decide (m7 < (1048576 : Int))) then
          (idx ((x0).orders) o0).bind fun uC=>
          (idx ((vmod x5 u3 (fun b=>(vset b o0 ((1048576:Int)))))).toList u3).bind fun vE=>
          (idx (vE).toList o0).bind fun qI=>
          (idx i7 u3).bind fun sI=>
          some ((List.set i7 (Int.toNat u3) true),(vmod ((vmod x5 u3 (fun b=>(vset b o0 ((1048576:Int)))))) u3 (fun b=>(vset b o0 ((w64 (m7 + (uC).Woven)))))))
         else
          some (i7,(vmod x5 u3 (fun b=>(vset b o0 ((1048576:Int))))))
         ) fun xE=>
        (shr64 u3 o0).bind fun dB=>
        bif ((bit64 .and dB (1 : Int)) == (0 : Int)) then
         some (i7,(vmod x5 u3 (fun b=>(vset b o0 ((1048576:Int))))))
        else
         xE ()
        ) fun (d9,k9)=>
       rE (d9,k9,(w64 (o0 + (1:Int))))
      else
       some (i7,x5)
      ) big (a9,aB,(0:Int))
     ) fun (l9,n9)=>
    oE (l9,n9,(w64 (u3 + (1:Int))))
    ) fun yE=>
   bif (decide (u3 < y6)) then
    yE ()
   else
    some (a9)
   ) big ((List.set y7 (Int.toNat (0:Int)) true),((Vector.replicate 128 (⟨List.toArray [0,0,0,0,0,0,0],rfl⟩:Vector Int 7)):Vector (Vector Int 7) 128),(1:Int))
  ) fun iB=>
 some (iB)
theorem en92:Enters Tryz.prog 92:=enters_of Tryz.func92 (by kernel_rfl) rfl
theorem wk92 {gI:Gh} {wI:World} {x0:LoomLoomMill} {x1:Int} {x2:List (Int × LoomRun)} {up0:Value} (rp0:RV gI.m wI x0 up0) {up2:Value} (mq2:MR (Value.int .i64) gI wI x2 up2) {r:(List Bool)} (h:f92 x0 x1 x2=some r):Fn Tryz.prog 92 #[up0,.int .i64 (x1),up2] gI wI (fun m w v=>RV m w (r) v):=by
 unfold f92 at h
 refine fn_of_E Tryz.func92 rfl (Nat.le_of_ble_eq_true rfl) fun g0 hm hfr=>?_
 have rp0:RV g0.m wI x0 up0:=hm ▸ rp0
 have mq2:=MQ.enter mq2 hm hfr
 show E _ 65 none _ _ _ _ _
 refine Zf (Za (Ze .plain rfl (D_box (g:=g0) rfl rp0 fun g1 w1 p1 hs q1=>?_)))
 have hfr:=hfr.ext hs
 have rp0:=rp0.ext hs
 have mq2:=mq2.ext hs
 refine Zg (.slice none 0 0) rfl rfl ?_
 have b2:OA 4006 g1 w1 4 ([]:List Bool) (.slice none 0 0):=OA.nil
 refine Zb (Zd (Zf (Za (Ze .plain rfl (D_allocOc (g:=g1) 2007 ((Vector.replicate 128 (⟨List.toArray [0,0,0,0,0,0,0],rfl⟩:Vector Int 7)):Vector (Vector Int 7) 128) Tryz.zeroValue245 (fun m w=>⟨_,(rep_replicate (rep_vec (flat_chunk rep_int (flat_chunk rep_int (flat_chunk rep_int (flat_chunk rep_int (flat_chunk rep_int (flat_chunk rep_int (flat_chunk rep_int flat_nil))))))) rfl)),by kernel_rfl⟩) fun g3 w3 p3 hs b3 cb=>?_)))))
 have hfr:=hfr.stp hs
 have rp0:=rp0.stp hs
 have mq2:=mq2.stp hs
 have q1:=q1.stp hs
 have b2:=b2.stp hs rfl
 clear cb
 refine Zb (Zd (Zf (Za (EL_p (fPtr p1 2) (Zc at_134_1 rfl (PT.ptr q1)) rfl ?_))))
 have q4:=Zm (part_LoomLoomMill_1).1 q1
 refine Ze .plain rfl (D_load (g:=g3) Tryz.isAgg31 Tryz.sizeOf31 rfl q4 fun v5 r5=>?_)
 refine EL_p (.int .i64 (((x0).orders).length:Int)) (P_len Tryz.underlying31 rfl r5) rfl ?_
 obtain ⟨y6,kJ,h⟩:=bsome h
 refine EL_p (.int .i64 (y6)) (P_int rfl rfl (congrArg (Option.map (Value.int .i64)) kJ)) rfl ?_
 refine Zg (.int .i64 (y6)) rfl rfl ?_
 refine Zb (Zd (Zf (Za (Zn (.int .i64 (y6)) rfl rfl ?_))))
 obtain ⟨y7,lJ,h⟩:=bsome h
 refine Ze .plain rfl (D_makeSliceM (g:=g3) 9017 (false:Bool) rfl Tryz.underlying137 info_4 rfl (fun _ _=>rfl) rfl rfl lJ fun g8 w8 v8 hs b8=>?_)
 have hfr:=hfr.stp hs
 have rp0:=rp0.stp hs
 have mq2:=mq2.stp hs
 have q1:=q1.stp hs
 have b2:=b2.stp hs rfl
 have b3:=b3.stp hs rfl
 have q4:=q4.stp hs
 have r5:=r5.stp hs
 refine Zg v8 rfl rfl ?_
 refine Zb (Zd (Zf (Za (Zn v8 rfl rfl ?_))))
 obtain ⟨y9,nI,h⟩:=bsome h
 refine EL_p (ePtr v8 (0:Int) 1) (P_indexAddrM (α:=Bool) Tryz.underlying137 Tryz.sizeOf4 rfl b8 rfl nI) rfl ?_
 refine Ze .plain rfl (D_storeM (g:=g8) (α:=Bool) (a':=true) Tryz.sizeOf4 rfl b8 nI rfl (RV_bool.2 rfl) fun mJ vK hs b10=>?_)
 have hfr:=hfr.stp hs
 have rp0:=rp0.stp hs
 have mq2:=mq2.stp hs
 have q1:=q1.stp hs
 have b3:=b3.stp hs rfl
 have q4:=q4.stp hs
 have r5:=r5.stp hs
 refine Zb (Zd ?_)
 obtain ⟨iB,hx,h⟩:=bsome h
 refine E_join (fun e w=>∃ (g:Gh) ,Fr gI wI g w∧e 6=v8∧OM 9017 g w 4 (iB:List Bool) v8) (fun Q' hQ=>?_) (fun nJ yJ hR=>?_)
 ·replace h := hx
  clear hx
  refine Zf (Za (Zg (.int .i64 (1)) rfl rfl ?_))
  refine Zb (Zd (Zr ?_))
  refine E_lp h (fun (s:(List Bool) × (Vector (Vector Int 7) 128) × Int) e w=>∃ (g:Gh) ,Fr gI wI g w∧e 1=.int .i64 (x1)∧e 2=up2∧MQ (Value.int .i64) wI.heap.size g w (x2:List (Int × LoomRun)) up2∧e 3=p1∧PT g.m w (x0:LoomLoomMill) p1∧e 6=v8∧OM 9017 g w 4 (s.1:List Bool) v8∧e 7=p3∧OB 2007 g w 245 (s.2.1:Vector (Vector Int 7) 128) p3∧e 8=.int .i64 (y6)∧e 9=.int .i64 (s.2.2)) ⟨mJ,hfr,rfl,rfl,mq2,rfl,q1,rfl,b10,rfl,b3,rfl,rfl⟩ (fun X271 oE aI=>?_)
  rintro ⟨a9,aB,u3⟩ oJ zJ ⟨zE,hfr,cF,dF,eF,rF,sF,iD,jD,tF,uF,lD,nD⟩ h
  refine Zq h (fun (s:Unit) e w=>∃ (g:Gh) ,Fr gI wI g w∧e 1=.int .i64 (x1)∧e 2=up2∧MQ (Value.int .i64) wI.heap.size g w (x2:List (Int × LoomRun)) up2∧e 3=p1∧PT g.m w (x0:LoomLoomMill) p1∧e 6=v8∧OM 9017 g w 4 (a9:List Bool) v8∧e 7=p3∧OB 2007 g w 245 (aB:Vector (Vector Int 7) 128) p3∧e 8=.int .i64 (y6)∧e 9=.int .i64 (u3)) (fun X274 yE bI h=>?_) ?_
  ·refine Zf (Za (Zo nD rfl ?_))
   refine Zo lD rfl ?_
   refine EL_in (.bool ((decide (u3 < y6)))) rfl rfl rfl rfl ?_
   refine Zb (Zd ?_)
   rcases Zt h with ⟨vC,h⟩ | ⟨vC,h⟩
   ·refine E_ct vC rfl ?_
    exact Zu (Zd (bI () _ _ ⟨zE,hfr,cF,dF,eF,rF,sF,iD,jD,tF,uF,lD,nD⟩ h))
   ·refine E_cf vC rfl ?_
    refine E_exit ?_
    refine thn_e ?_
    refine thn_e ?_
    refine blk_hit ?_
    obtain rfl:=sinj h
    exact hQ _ _ ⟨zE,hfr,iD,jD⟩
  ·rintro _ pJ aK ⟨vF, hfr, xF, yF, zF, oD, lB, aG, bG, cG, eG, gG, hG⟩ h
   obtain ⟨⟨l9,n9⟩,hx,h⟩:=bsome h
   refine E_join (fun e w=>∃ (g:Gh) ,Fr gI wI g w∧e 1=.int .i64 (x1)∧e 2=up2∧MQ (Value.int .i64) wI.heap.size g w (x2:List (Int × LoomRun)) up2∧e 3=p1∧PT g.m w (x0:LoomLoomMill) p1∧e 6=v8∧OM 9017 g w 4 (l9:List Bool) v8∧e 7=p3∧OB 2007 g w 245 (n9:Vector (Vector Int 7) 128) p3∧e 8=.int .i64 (y6)∧e 9=.int .i64 (u3)) (fun Q' hQ=>?_) (fun qJ bK hR=>?_)
   ·replace h := hx
    clear hx
    refine Zr ?_
    refine Zf (Za (EL_p (fPtr p1 2) (Zc at_134_1 oD (PT.ptr lB)) rfl ?_))
    have tI:=Zm (part_LoomLoomMill_1).1 lB
    refine Ze .plain rfl (D_load (g:=vF) Tryz.isAgg31 Tryz.sizeOf31 rfl tI fun cK uI=>?_)
    refine EL_p (.int .i64 (((x0).orders).length:Int)) (P_len Tryz.underlying31 rfl uI) rfl ?_
    refine Zn (.int .i64 (0)) rfl rfl ?_
    refine Zb (Zd (Zr ?_))
    refine E_lp h (fun (s:(List Bool) × (Vector (Vector Int 7) 128) × Int) e w=>∃ (g:Gh) ,Fr gI wI g w∧e 1=.int .i64 (x1)∧e 2=up2∧MQ (Value.int .i64) wI.heap.size g w (x2:List (Int × LoomRun)) up2∧e 3=p1∧PT g.m w (x0:LoomLoomMill) p1∧e 6=v8∧OM 9017 g w 4 (s.1:List Bool) v8∧e 7=p3∧OB 2007 g w 245 (s.2.1:Vector (Vector Int 7) 128) p3∧e 8=.int .i64 (y6)∧e 9=.int .i64 (u3)∧e 27=.int .i64 ((((x0).orders).length:Int))∧e 28=.int .i64 (s.2.2)) ⟨vF,hfr,xF,yF,zF,oD,lB,aG,bG,cG,eG,gG,hG,rfl,rfl⟩ (fun X405 rE dI=>?_)
    rintro ⟨i7,x5,o0⟩ rJ dK ⟨iG,hfr,mB,nB,k8,oB,l8,tB,m8,u9,z9,vB,n8,rA,x8⟩ h
    refine Zf (Za (EL_p (.bool ((decide (o0 < (((x0).orders).length:Int))))) (P_int x8 rA rfl) rfl ?_))
    refine Zb (Zd (Zf ?_))
    rcases Zt h with ⟨aD,h⟩ | ⟨aD,h⟩
    ·refine E_ct aD rfl ?_
     refine Zu (Zd ?_)
     obtain ⟨⟨d9,k9⟩,hx,h⟩:=bsome h
     refine E_join (fun e w=>∃ (g:Gh) ,Fr gI wI g w∧e 1=.int .i64 (x1)∧e 2=up2∧MQ (Value.int .i64) wI.heap.size g w (x2:List (Int × LoomRun)) up2∧e 3=p1∧PT g.m w (x0:LoomLoomMill) p1∧e 6=v8∧OM 9017 g w 4 (d9:List Bool) v8∧e 7=p3∧OB 2007 g w 245 (k9:Vector (Vector Int 7) 128) p3∧e 8=.int .i64 (y6)∧e 9=.int .i64 (u3)∧e 27=.int .i64 ((((x0).orders).length:Int))∧e 28=.int .i64 (o0)) (fun Q' hQ=>?_) (fun sJ lK hR=>?_)
     ·replace h := hx
      clear hx
      refine Zr ?_
      refine Zf (Za (Zo x8 rfl ?_))
      refine Zg (.int .i64 (o0)) rfl rfl ?_
      refine Zb (Zd (Zf (Za (Zo n8 rfl ?_))))
      refine Zn (.int .i64 (o0)) rfl rfl ?_
      obtain ⟨uE,xD,h⟩:=bsome h
      obtain ⟨hi469,he469⟩:=vat_idx xD
      refine EL_p (fPtr p3 ((u3:Int).toNat * 7)) (P_indexAddrA (α:=Vector Int 7) Tryz.underlying245 Tryz.sizeOf243 u9 (OB.ptr z9) rfl xD) rfl ?_
      obtain ⟨pI,yD,h⟩:=bsome h
      obtain ⟨hi471,he471⟩:=vat_idx yD
      refine EL_p (fPtr p3 (((u3:Int).toNat * 7) + (o0:Int).toNat * 1)) (P_indexAddrA2 (α:=Int) (o1:=((u3:Int).toNat * 7)) rfl Tryz.underlying243 Tryz.sizeOf3 rfl (OB.ptr z9) rfl yD) rfl ?_
      refine Ze .plain rfl (D_storeFc (g:=iG) (SubS.at_ (SubS.dynC hi469 (SubS.dyn hi471) rfl) (by first | rfl | exact Nat.add_assoc _ _ _ | simp only [Nat.add_assoc,Nat.zero_add] | omega)) Tryz.sizeOf3 rfl z9 rfl (Zj.2 rfl) fun jG mK hs b472 rst hos=>?_)
      clear rst hos
      have hfr:=hfr.stp hs
      have k8:=k8.stp hs
      have l8:=l8.stp hs
      have m8:=m8.stp hs rfl
      refine Zb (Zd (Zq h (fun (s:Unit) e w=>∃ (g:Gh) ,Fr gI wI g w∧e 1=.int .i64 (x1)∧e 2=up2∧MQ (Value.int .i64) wI.heap.size g w (x2:List (Int × LoomRun)) up2∧e 3=p1∧PT g.m w (x0:LoomLoomMill) p1∧e 6=v8∧OM 9017 g w 4 (i7:List Bool) v8∧e 7=p3∧OB 2007 g w 245 ((vmod x5 u3 (fun b=>(vset b o0 ((1048576:Int))))):Vector (Vector Int 7) 128) p3∧e 8=.int .i64 (y6)∧e 9=.int .i64 (u3)∧e 10=.int .i64 (o0)∧e 27=.int .i64 ((((x0).orders).length:Int))∧e 28=.int .i64 (o0)) (fun X475 xE iI h=>?_) ?_))
      ·refine Zf (Za (Zo n8 rfl ?_))
       refine Zn (.int .i64 (o0)) rfl rfl ?_
       obtain ⟨dB,jI,h⟩:=bsome h
       refine EL_p (.int .i64 (dB)) (P_int rfl rfl (congrArg (Option.map (Value.int .i64)) jI)) rfl ?_
       refine EL_in (.int .i64 ((bit64 .and dB (1:Int)))) rfl rfl rfl rfl ?_
       refine EL_in (.bool (((bit64 .and dB (1:Int)) == (0:Int)))) rfl rfl rfl rfl ?_
       refine Zb (Zd ?_)
       rcases Zt h with ⟨bD,h⟩ | ⟨bD,h⟩
       ·refine E_ct bD rfl ?_
        refine E_exit ?_
        refine thn_e ?_
        refine blk_hit ?_
        obtain ⟨rfl,rfl⟩:=pairs2 h
        exact hQ _ _ ⟨jG,hfr,mB,nB,k8,oB,l8,tB,m8,u9,b472,vB,n8,rA,x8⟩
       ·refine E_cf bD rfl ?_
        exact Zu (Zd (iI () _ _ ⟨jG,hfr,mB,nB,k8,oB,l8,tB,m8,u9,b472,vB,n8,rfl,rA,x8⟩ h))
      ·rintro _ vJ nK ⟨kG, hfr, yB, zB, t5, bA, l5, cC, i6, iA, x6, sD, r8, yA, qC, rC⟩ h
       refine Zf (Za (Ze .plain rfl (D_load (g:=kG) Tryz.isAgg134 Tryz.sizeOf134 bA l5 fun vI mC=>?_)))
       refine Zo r8 rfl ?_
       refine Zo yA rfl ?_
       refine Zo yB rfl ?_
       refine Zo zB rfl ?_
       obtain ⟨m7,kI,h⟩:=bsome h
       refine Ze .plain rfl (D_callF (g:=kG) (vs:=[vI,p3,.int .i64 (u3),.int .i64 (o0),.int .i64 (x1),up2]) en136 (.cons rfl (.cons iA (.cons rfl (.cons rfl (.cons rfl (.cons rfl .nil)))))) (wk136 (RV.lent mC) (OB.lent x6) (MR.lent t5.r) kI) fun lG xJ oK hs hr=>?_)
       have hfr:=hfr.ext hs
       have t5:=t5.ext hs
       have l5:=l5.ext hs
       have i6:=i6.ext hs
       have x6:=x6.ext hs
       have mC:=mC.ext hs
       subst hr
       refine Zg (.int .i64 (m7)) rfl rfl ?_
       refine Zb (Zd (Zf (Za (Zn (.int .i64 (m7)) rfl rfl ?_))))
       refine EL_in (.bool ((decide (m7 < (1048576:Int))))) rfl rfl rfl rfl ?_
       refine Zb (Zd ?_)
       rcases Zt h with ⟨cD,h⟩ | ⟨cD,h⟩
       ·refine E_ct cD rfl ?_
        refine Zf ?_
        have tD:=Zm (part_LoomLoomMill_1).1 l5
        refine Zs (x:=.tmp 51) Tryz.isAgg31 Tryz.sizeOf31 tD fun uD eD lI=>?_
        obtain ⟨uC,zD,h⟩:=bsome h
        have gD:=PT_idx eD zD
        have vD:=Zm (part_LoomOrder_2).1 gD
        refine Zs (x:=.tmp 55) Tryz.isAgg3 Tryz.sizeOf3 vD fun pK yI mI=>?_
        obtain rfl:=Zj.1 yI
        obtain ⟨vE,aE,h⟩:=bsome h
        obtain ⟨hi490,he490⟩:=vat_idx aE
        obtain ⟨qI,bE,h⟩:=bsome h
        obtain ⟨hi492,he492⟩:=vat_idx bE
        refine E_drawL (g:=lG) (n:=12) [] [0,1,2,3,4,5,6,7,8,9,10,11] rfl mixed (by kernel_rfl) trivial ?_
        refine L_p (.int .i64 (u3)) rfl rfl (Zk r8) ?_
        refine L_p (.int .i64 (o0)) rfl rfl (Zk yA) ?_
        refine L_p (.int .i64 (m7)) rfl rfl (Zk rfl) ?_
        refine L_p (fPtr p1 2) rfl rfl (Zc at_134_1 bA (PT.ptr l5)) ?_
        refine L_ld (c:=uD) rfl rfl .plain (fun _ _ h=>h.ch) lI rfl ?_
        refine L_p (.int .i64 (o0)) rfl rfl (Zk yA) ?_
        refine L_p (ePtr uD o0 5) rfl rfl (Zh (α:=LoomOrder) Tryz.underlying31 Tryz.sizeOf49 rfl eD rfl zD) ?_
        refine L_p (fPtr (ePtr uD o0 5) 2) rfl rfl (Zc at_49_2 rfl (PT.ptr gD)) ?_
        refine L_ld (c:=.int .i64 ((uC).Woven)) rfl rfl .plain (fun _ _ h=>h.ch) mI rfl ?_
        refine L_p (.int .i64 ((w64 (m7 + (uC).Woven)))) rfl rfl (P_int rfl rfl rfl) ?_
        refine L_p (fPtr p3 ((u3:Int).toNat * 7)) rfl rfl (P_indexAddrA (α:=Vector Int 7) Tryz.underlying245 Tryz.sizeOf243 iA (OB.ptr x6) rfl aE) ?_
        refine L_p (fPtr p3 (((u3:Int).toNat * 7) + (o0:Int).toNat * 1)) rfl rfl (P_indexAddrA2 (α:=Int) (o1:=((u3:Int).toNat * 7)) rfl Tryz.underlying243 Tryz.sizeOf3 rfl (OB.ptr x6) rfl bE) ?_
        refine L_nl fun zI qK hs=>?_
        have hfr:=hfr.ext hs
        have t5:=t5.ext hs
        have l5:=l5.ext hs
        have i6:=i6.ext hs
        have x6:=x6.ext hs
        have mC:=mC.ext hs
        have tD:=tD.ext hs
        have eD:=eD.ext hs
        have gD:=gD.ext hs
        have vD:=vD.ext hs
        clear hs
        refine Ze .plain rfl (D_storeFc (g:=zI) (SubS.at_ (SubS.dynC hi490 (SubS.dyn hi492) rfl) (by first | rfl | exact Nat.add_assoc _ _ _ | simp only [Nat.add_assoc,Nat.zero_add] | omega)) Tryz.sizeOf3 rfl x6 rfl (Zj.2 rfl) fun eJ sK hs b525 rst hos=>?_)
        clear rst hos
        have hfr:=hfr.stp hs
        have t5:=t5.stp hs
        have l5:=l5.stp hs
        have i6:=i6.stp hs rfl
        refine Zb (Zd (Za (Zo cC rfl ?_)))
        refine Zo r8 rfl ?_
        obtain ⟨sI,iE,h⟩:=bsome h
        refine EL_p (ePtr v8 u3 1) (P_indexAddrM (α:=Bool) Tryz.underlying137 Tryz.sizeOf4 rfl i6 rfl iE) rfl ?_
        refine Ze .plain rfl (D_storeM (g:=eJ) (α:=Bool) (a':=true) Tryz.sizeOf4 rfl i6 iE rfl (RV_bool.2 rfl) fun gJ tK hs b527=>?_)
        have hfr:=hfr.stp hs
        have t5:=t5.stp hs
        have l5:=l5.stp hs
        have b525:=b525.stp hs rfl
        refine Zb (blk_n ?_)
        obtain ⟨rfl,rfl⟩:=pairs2 h
        exact hQ _ _ ⟨gJ,hfr,yB,zB,t5,bA,l5,cC,b527,iA,b525,sD,r8,qC,rC⟩
       ·refine E_cf cD rfl ?_
        refine Zu (blk_n ?_)
        obtain ⟨rfl,rfl⟩:=pairs2 h
        exact hQ _ _ ⟨lG,hfr,yB,zB,t5,bA,l5,cC,i6,iA,x6,sD,r8,qC,rC⟩
     ·clear hx
      obtain ⟨iJ,hfr,mG,sG,xG,yG,zG,aH,cH,dH,gH,iH,jH,lE,mE⟩:=hR
      refine Za (EL_in (.int .i64 ((w64 (o0 + (1:Int))))) mE rfl rfl rfl ?_)
      refine Zn (.int .i64 ((w64 (o0 + (1:Int))))) rfl rfl ?_
      exact Zb (Zd (dI (d9,k9,(w64 (o0 + (1:Int)))) _ _ ⟨iJ,hfr,mG,sG,xG,yG,zG,aH,cH,dH,gH,iH,jH,lE,rfl⟩ h))
    ·refine E_cf aD rfl ?_
     refine E_exit ?_
     refine thn_e ?_
     refine thn_e ?_
     refine blk_hit ?_
     refine blk_n ?_
     obtain ⟨rfl,rfl⟩:=pairs2 h
     exact hQ _ _ ⟨iG,hfr,mB,nB,k8,oB,l8,tB,m8,u9,z9,vB,n8⟩
   ·clear hx
    obtain ⟨jJ,hfr,kH,lH,mH,nH,oH,pH,qH,sH,tH,uH,xH⟩:=hR
    refine Za (Zo xH rfl ?_)
    refine EL_in (.int .i64 ((w64 (u3 + (1:Int))))) rfl rfl rfl rfl ?_
    refine Zg (.int .i64 ((w64 (u3 + (1:Int))))) rfl rfl ?_
    exact Zb (Zd (aI (l9,n9,(w64 (u3 + (1:Int)))) _ _ ⟨jJ,hfr,kH,lH,mH,nH,oH,pH,qH,sH,tH,uH,rfl⟩ h))
 ·clear hx
  obtain ⟨uK,hfr,yH,zH⟩:=hR
  refine Zf (Za (Zo yH rfl ?_))
  refine Zg v8 rfl rfl ?_
  refine Zb (Zd (E_ret ?_))
  obtain ⟨gp531,hs,rp531⟩:=OM.pub zH
  have hfr:=hfr.stp hs
  obtain rfl:=sinj h
  exact end1 rfl rfl (show _=v8 from rfl) ⟨_,hfr,rp531⟩
def f102 (x0:PayPayList) (x1:Int):Option (Int):=
 (f141 (((x0).PayList).Rates) x1 ((fun a0 a1=>f142 a0 a1))).bind fun y6=>
 Option.bind (α:=Int) (
  bif (!y6.2) then
   some ((w64 (y6.1 - (1:Int))))
  else
   some (y6.1)
  ) fun o0=>
 (idx (((x0).PayList).Rates) o0).bind fun u3=>
 some ((u3).Rate)
theorem en102:Enters Tryz.prog 102:=enters_of Tryz.func102 (by kernel_rfl) rfl
theorem wk102 {gI:Gh} {wI:World} {x0:PayPayList} {x1:Int} {up0:Value} (rp0:RV gI.m wI x0 up0) {r:Int} (h:f102 x0 x1=some r):Fn Tryz.prog 102 #[up0,.int .i64 (x1)] gI wI (fun _ _ v=>v=.int .i64 (r)):=by
 unfold f102 at h
 refine fn_of_E Tryz.func102 rfl (Nat.le_of_ble_eq_true rfl) fun g0 hm hfr=>?_
 have rp0:RV g0.m wI x0 up0:=hm ▸ rp0
 show E _ 26 none _ _ _ _ _
 refine Zf (Za (Ze .plain rfl (D_box (g:=g0) rfl rp0 fun g1 w1 p1 hs q1=>?_)))
 have hfr:=hfr.ext hs
 refine Zg (.int .i64 (0)) rfl rfl ?_
 refine Zb (Zd (Zf (Za (EL_p (fPtr p1 0) (Zc at_153_0 rfl (PT.ptr q1)) rfl ?_))))
 have q2:=Zm (part_PayPayList_0).1 q1
 refine EL_p (fPtr (fPtr p1 0) 0) (Zc at_59_0 rfl (PT.ptr q2)) rfl ?_
 have q3:=Zm (part_PayList_0).1 q2
 refine Ze .plain rfl (D_load (g:=g1) Tryz.isAgg57 Tryz.sizeOf57 rfl q3 fun v4 r4=>?_)
 refine Zn (.int .i64 (x1)) rfl rfl ?_
 obtain ⟨y6,k8,h⟩:=bsome h
 refine Ze .plain rfl (Zp (g:=g1) (vs:=[v4,.int .i64 (x1),.func (.func 142) #[] #[]]) en141 (.cons rfl (.cons rfl (.cons rfl .nil))) (wk141 r4 ⟨142,#[],#[],rfl,en142,fun g' w' hch a0 a1 b0 b1 r hu0 hu1 hr=>by obtain rfl:=Zj.1 hu1; exact Fn.mono (wk142 hu0  hr) fun _ _ _ h=>Zj.2 h⟩ k8) fun g5 w5_ v5 hs hr=>?_)
 have hfr:=hfr.ext hs
 have q1:=q1.ext hs
 obtain ⟨r8,v8,rfl,rfl,rfl⟩:=hr
 refine Zn (.tuple #[.int .i64 (y6.1),.bool (y6.2)]) rfl rfl ?_
 refine EL_p (.int .i64 (y6.1)) (Zi rfl rfl) rfl ?_
 refine EL_p (.bool (y6.2)) (Zi rfl rfl) rfl ?_
 refine Zg (.int .i64 (y6.1)) rfl rfl ?_
 refine Zg (.bool (y6.2)) rfl rfl ?_
 refine Zb (Zd ?_)
 obtain ⟨o0,hx,h⟩:=bsome h
 refine E_join (fun e w=>∃ (g:Gh) ,Fr gI wI g w∧e 2=p1∧PT g.m w (x0:PayPayList) p1∧e 5=.int .i64 (o0)) (fun Q' hQ=>?_) (fun x8 w9 hR=>?_)
 ·replace h := hx
  clear hx
  refine Zf (Za (Zn (.bool (y6.2)) rfl rfl ?_))
  refine EL_p (.bool (!y6.2)) (P_not rfl) rfl ?_
  refine Zb (Zd ?_)
  rcases Zt h with ⟨hc8,h⟩ | ⟨hc8,h⟩
  ·refine E_ct hc8 rfl ?_
   refine Za (Zn (.int .i64 (y6.1)) rfl rfl ?_)
   refine EL_in (.int .i64 ((w64 (y6.1 - (1:Int))))) rfl rfl rfl rfl ?_
   refine Zg (.int .i64 ((w64 (y6.1 - (1:Int))))) rfl rfl ?_
   refine Zb ?_
   obtain rfl:=sinj h
   exact hQ _ _ ⟨g5,hfr,rfl,q1,rfl⟩
  ·refine E_cf hc8 rfl ?_
   refine Zu ?_
   obtain rfl:=sinj h
   exact hQ _ _ ⟨g5,hfr,rfl,q1,rfl⟩
 ·clear hx
  obtain ⟨g9,hfr,m7,l5,g8⟩:=hR
  refine Zf (Za (EL_p (fPtr p1 0) (Zc at_153_0 m7 (PT.ptr l5)) rfl ?_))
  have x5:=Zm (part_PayPayList_0).1 l5
  refine EL_p (fPtr (fPtr p1 0) 0) (Zc at_59_0 rfl (PT.ptr x5)) rfl ?_
  have l8:=Zm (part_PayList_0).1 x5
  refine Ze .plain rfl (D_load (g:=g9) Tryz.isAgg57 Tryz.sizeOf57 rfl l8 fun i6 x6=>?_)
  refine Zo g8 rfl ?_
  obtain ⟨u3,t5,h⟩:=bsome h
  refine EL_p (ePtr i6 o0 2) (Zh (α:=PayRate) Tryz.underlying57 Tryz.sizeOf148 rfl x6 rfl t5) rfl ?_
  have i7:=PT_idx x6 t5
  refine EL_p (fPtr (ePtr i6 o0 2) 1) (Zc at_148_1 rfl (PT.ptr i7)) rfl ?_
  have m8:=Zm (part_PayRate_1).1 i7
  refine Ze .plain rfl (D_load (g:=g9) Tryz.isAgg3 Tryz.sizeOf3 rfl m8 fun a9 n8=>?_)
  obtain rfl:=Zj.1 n8
  refine Zg (.int .i64 ((u3).Rate)) rfl rfl ?_
  refine Zb (Zd (E_ret ?_))
  obtain rfl:=sinj h
  exact end1 rfl rfl (show _=.int .i64 ((u3).Rate) from rfl) ⟨_,hfr,rfl⟩
def f103 (x0:PayPayList):Option (Bool):=
 jn (σ:=Unit) (fun _=>
  some ((decide (((((x0).PayList).Rates).length:Int) > (0:Int))))
  ) fun lB=>
 lp (σ:=Int × Int × Int) (fun mB (k8,l8,l5)=>
  bif (decide (l5 < ((((x0).PayList).Rates).length : Int))) then
   jn (σ:=Int × Int) (fun (m8,n8)=>
    mB (m8,n8,(w64 (l5 + (1:Int))))
    ) fun nB=>
   (idx (((x0).PayList).Rates) l5).bind fun t5=>
   jn (σ:=Unit) (fun _=>
    nB ((w64 ((t5).From + (1:Int))),(1000:Int))
    ) fun oB=>
   Option.bind (α:=Bool) (
    (f63 k8 l8 (([(t5).From]:List Int))).bind fun m7=>
    bif (!m7) then
     some (true)
    else
     (f63 ((0:Int)) ((10000:Int)) (([(t5).Rate]:List Int))).bind fun a9=>
     some ((!a9))
    ) fun i6=>
   bif i6 then
    some (false)
   else
    oB ()
  else
   lB ()
  ) big ((0:Int),(0:Int),(0:Int))
theorem en103:Enters Tryz.prog 103:=enters_of Tryz.func103 (by kernel_rfl) rfl
theorem wk103 {gI:Gh} {wI:World} {x0:PayPayList} {up0:Value} (rp0:RV gI.m wI x0 up0) {r:Bool} (h:f103 x0=some r):Fn Tryz.prog 103 #[up0] gI wI (fun _ _ v=>v=.bool (r)):=by
 unfold f103 at h
 refine fn_of_E Tryz.func103 rfl (Nat.le_of_ble_eq_true rfl) fun g0 hm hfr=>?_
 have rp0:RV g0.m wI x0 up0:=hm ▸ rp0
 show E _ 38 none _ _ _ _ _
 refine Zf (Za (Ze .plain rfl (D_box (g:=g0) rfl rp0 fun g1 w1 p1 hs q1=>?_)))
 have hfr:=hfr.ext hs
 refine Zg (.bool false) rfl rfl ?_
 refine Zb (Zd (Zf (Za (Zg (.int .i64 (0)) rfl rfl ?_))))
 refine Zg (.int .i64 (0)) rfl rfl ?_
 refine Zb (Zd (Zq h (fun (s:Unit) e w=>∃ (g:Gh) ,Fr gI wI g w∧e 1=p1∧PT g.m w (x0:PayPayList) p1) (fun X125 lB yD h=>?_) ?_))
 ·refine Zf (Za (EL_p (fPtr p1 0) (Zc at_153_0 rfl (PT.ptr q1)) rfl ?_))
  have tB:=Zm (part_PayPayList_0).1 q1
  refine EL_p (fPtr (fPtr p1 0) 0) (Zc at_59_0 rfl (PT.ptr tB)) rfl ?_
  have mE:=Zm (part_PayList_0).1 tB
  refine Ze .plain rfl (D_load (g:=g1) Tryz.isAgg57 Tryz.sizeOf57 rfl mE fun x6 vB=>?_)
  refine EL_p (.int .i64 ((((x0).PayList).Rates).length:Int)) (P_len Tryz.underlying57 rfl vB) rfl ?_
  refine Zn (.int .i64 (0)) rfl rfl ?_
  refine Zb (Zd (Zr ?_))
  refine E_lp h (fun (s:Int × Int × Int) e w=>∃ (g:Gh) ,Fr gI wI g w∧e 1=p1∧PT g.m w (x0:PayPayList) p1∧e 3=.int .i64 (s.1)∧e 4=.int .i64 (s.2.1)∧e 9=x6∧RV g.m w (((x0).PayList).Rates:List PayRate) x6∧e 10=.int .i64 (((((x0).PayList).Rates).length:Int))∧e 11=.int .i64 (s.2.2)) ⟨g1,hfr,rfl,q1,rfl,rfl,rfl,vB,rfl,rfl⟩ (fun X129 mB zD=>?_)
  rintro ⟨k8,l8,l5⟩ aG jG ⟨u9,hfr,r8,u3,yB,zB,v8,o0,g8,y6⟩ h
  refine Zf (Za (EL_p (.bool ((decide (l5 < ((((x0).PayList).Rates).length:Int))))) (P_int y6 g8 rfl) rfl ?_))
  refine Zb (Zd (Zf ?_))
  rcases Zt h with ⟨d9,h⟩ | ⟨d9,h⟩
  ·refine E_ct d9 rfl ?_
   refine Zu (Zd (Zq h (fun (s:Int × Int) e w=>∃ (g:Gh) ,Fr gI wI g w∧e 1=p1∧PT g.m w (x0:PayPayList) p1∧e 3=.int .i64 (s.1)∧e 4=.int .i64 (s.2)∧e 9=x6∧RV g.m w (((x0).PayList).Rates:List PayRate) x6∧e 10=.int .i64 (((((x0).PayList).Rates).length:Int))∧e 11=.int .i64 (l5)) (fun X189 nB aE h=>?_) ?_))
   ·refine Zr ?_
    refine Zf (Za ?_)
    obtain ⟨t5,bA,h⟩:=bsome h
    refine EL_p (ePtr x6 l5 2) (Zh (α:=PayRate) Tryz.underlying57 Tryz.sizeOf148 v8 o0 y6 bA) rfl ?_
    have oE:=PT_idx o0 bA
    refine Ze .plain rfl (D_load (g:=u9) Tryz.isAgg148 Tryz.sizeOf148 rfl oE fun rE y9=>?_)
    refine Ze .plain rfl (D_allocOc (g:=u9) 2006 (⟨0,0⟩:PayRate) Tryz.zeroValue148 (fun m w=>⟨_,(rep_two rep_int rep_int),rfl⟩) fun uE kG i7 hs b193 cb=>?_)
    have hfr:=hfr.stp hs
    have u3:=u3.stp hs
    have o0:=o0.stp hs
    have y9:=y9.stp hs
    clear cb
    refine Ze .plain rfl (D_storeOc (g:=uE) (v:=rE) Tryz.sizeOf148 rfl b193 rfl y9 fun cC lG hs b194 cb=>?_)
    clear cb
    have hfr:=hfr.stp hs
    have u3:=u3.stp hs
    have o0:=o0.stp hs
    refine Zb (Zd (Zq h (fun (s:Unit) e w=>∃ (g:Gh) ,Fr gI wI g w∧e 1=p1∧PT g.m w (x0:PayPayList) p1∧e 6=i7∧OB 2006 g w 148 (t5:PayRate) i7∧e 9=x6∧RV g.m w (((x0).PayList).Rates:List PayRate) x6∧e 10=.int .i64 (((((x0).PayList).Rates).length:Int))∧e 11=.int .i64 (l5)) (fun X219 oB bE h=>?_) ?_))
    ·obtain ⟨i6, hx, h⟩ := bsome h
     refine E_join (fun e w=>∃ (g:Gh) ,Fr gI wI g w∧e 1=p1∧PT g.m w (x0:PayPayList) p1∧e 6=i7∧OB 2006 g w 148 (t5:PayRate) i7∧e 9=x6∧RV g.m w (((x0).PayList).Rates:List PayRate) x6∧e 10=.int .i64 (((((x0).PayList).Rates).length:Int))∧e 11=.int .i64 (l5)∧e 28=.bool (i6)) (fun Q' hQ=>?_) (fun bG mG hR=>?_)
     ·replace h := hx
      clear hx
      refine Za (Zo yB rfl ?_)
      refine Zo zB rfl ?_
      refine EL_p (fPtr i7 0) (Zc at_148_0 rfl (OB.ptr b194)) rfl ?_
      refine Ze .plain rfl (D_loadF (g:=cC) part_PayRate_0.1 Tryz.isAgg3 Tryz.sizeOf3 rfl b194 fun sG vE=>?_)
      obtain rfl:=Zj.1 vE
      refine Ze .plain rfl (D_buildSlice (g:=cC) 3019 (xs:=([(t5).From]:List Int)) (vs:=[.int .i64 ((t5).From)]) Tryz.underlying28 Tryz.sizeOf3 Tryz.zeroValue3 rfl rfl (.cons rfl .nil) (RVs.cons (Zj.2 rfl) RVs.nil) rfl rfl fun xE xG yE hs o233 zE hxt hfl=>?_)
      have hfr:=hfr.stp hs
      have u3:=u3.stp hs
      have o0:=o0.stp hs
      have b194:=b194.stp hs rfl
      obtain ⟨m7,iE,h⟩:=bsome h
      refine Ze .plain rfl (Zp (g:=xE) (vs:=[.int .i64 (k8),.int .i64 (l8),yE]) en63 (.cons rfl (.cons rfl (.cons rfl .nil))) (wk63 zE iE) fun z9 cG yG hs hr=>?_)
      have hfr:=hfr.ext hs
      have u3:=u3.ext hs
      have o0:=o0.ext hs
      have b194:=b194.ext hs
      subst hr
      refine EL_p (.bool (!m7)) (P_not rfl) rfl ?_
      refine Zn (.bool (!m7)) rfl rfl ?_
      rcases Zt h with ⟨x5,h⟩ | ⟨x5,h⟩
      ·refine EL_s rfl rfl x5 rfl rfl ?_
       iterate 4 refine EL_s rfl rfl x5 rfl rfl ?_
       refine EL_p (.bool true) (Zl (b:=(!m7)) rfl (pick_t x5 rfl)) rfl ?_
       refine Zb ?_
       obtain rfl:=sinj h
       exact hQ _ _ ⟨z9,hfr,r8,u3,rfl,b194,v8,o0,g8,y6,rfl⟩
      ·refine EL_y (fPtr i7 1) (Zc at_148_1 rfl (OB.ptr b194)) rfl rfl x5 rfl ?_
       refine Ze (.yes2 rfl rfl x5) rfl (D_loadF (g:=z9) part_PayRate_1.1 Tryz.isAgg3 Tryz.sizeOf3 rfl b194 fun zG cF=>?_)
       obtain rfl:=Zj.1 cF
       refine Ze (.yes2 rfl rfl x5) rfl (D_buildSlice (g:=z9) 3025 (xs:=([(t5).Rate]:List Int)) (vs:=[.int .i64 ((t5).Rate)]) Tryz.underlying28 Tryz.sizeOf3 Tryz.zeroValue3 rfl rfl (.cons rfl .nil) (RVs.cons (Zj.2 rfl) RVs.nil) rfl rfl fun dF aH eF hs o239 rF hxt hfl=>?_)
       have hfr:=hfr.stp hs
       have u3:=u3.stp hs
       have o0:=o0.stp hs
       have b194:=b194.stp hs rfl
       obtain ⟨a9,lE,h⟩:=bsome h
       refine Ze (.yes2 rfl rfl x5) rfl (Zp (g:=dF) (vs:=[.int .i64 (0),.int .i64 (10000),eF]) en63 (.cons rfl (.cons rfl (.cons rfl .nil))) (wk63 rF lE) fun sF eG cH hs hr=>?_)
       have hfr:=hfr.ext hs
       have u3:=u3.ext hs
       have o0:=o0.ext hs
       have b194:=b194.ext hs
       subst hr
       refine EL_y (.bool (!a9)) (P_not rfl) rfl rfl x5 rfl ?_
       refine EL_p (.bool (!a9)) (Zl (b:=(!m7)) rfl (pick_f x5 rfl)) rfl ?_
       refine Zb ?_
       obtain rfl:=sinj h
       exact hQ _ _ ⟨sF,hfr,r8,u3,rfl,b194,v8,o0,g8,y6,rfl⟩
     ·clear hx
      obtain ⟨tF,hfr,mC,qC,rC,uC,vC,aD,iA,rA,x8⟩:=hR
      rcases Zt h with ⟨k9,h⟩ | ⟨k9,h⟩
      ·refine E_cond_true (Eq.trans (show ev _ _ = .bool (i6) from x8) (congrArg Value.bool k9)) ?_
       refine Zf (Za (Zg (.bool false) rfl rfl ?_))
       refine Zb (Zd (E_ret (thn_r ?_)))
       refine blk_r ?_
       refine thn_r ?_
       refine thn_r ?_
       refine blk_r ?_
       refine thn_r ?_
       obtain rfl:=sinj h
       exact end1 rfl rfl (show _=.bool false from rfl) ⟨_,hfr,rfl⟩
      ·refine E_cond_false (Eq.trans (show ev _ _ = .bool (i6) from x8) (congrArg Value.bool k9)) ?_
       exact Zu (Zd (bE () _ _ ⟨tF,hfr,mC,qC,rC,uC,vC,aD,iA,rA⟩ h))
    ·rintro _ gG dH ⟨bD, hfr, cD, eD, gD, l9, iD, jD, yA, aB⟩ h
     refine Za (EL_p (fPtr i7 0) (Zc at_148_0 gD (OB.ptr l9)) rfl ?_)
     refine Ze .plain rfl (D_loadF (g:=bD) part_PayRate_0.1 Tryz.isAgg3 Tryz.sizeOf3 rfl l9 fun gH uF=>?_)
     obtain rfl:=Zj.1 uF
     refine EL_in (.int .i64 ((w64 ((t5).From + (1:Int))))) rfl rfl rfl rfl ?_
     refine Zg (.int .i64 ((w64 ((t5).From + (1:Int))))) rfl rfl ?_
     refine Zg (.int .i64 (1000)) rfl rfl ?_
     exact Zb (blk_n (Zd (aE ((w64 ((t5).From + (1:Int))),(1000:Int)) _ _ ⟨bD,hfr,cD,eD,rfl,rfl,iD,jD,yA,aB⟩ h)))
   ·rintro ⟨m8, n8⟩ hG iH ⟨vF, hfr, lD, nD, oD, sD, tD, uD, dB, iB⟩ h
    refine Za (EL_in (.int .i64 ((w64 (l5 + (1:Int))))) iB rfl rfl rfl ?_)
    refine Zn (.int .i64 ((w64 (l5 + (1:Int))))) rfl rfl ?_
    exact Zb (Zd (zD (m8,n8,(w64 (l5 + (1:Int)))) _ _ ⟨vF,hfr,lD,nD,oD,sD,tD,uD,dB,rfl⟩ h))
  ·refine E_cf d9 rfl ?_
   refine E_exit ?_
   refine thn_e ?_
   refine thn_e ?_
   refine blk_hit ?_
   exact Zd (yD () _ _ ⟨u9,hfr,r8,u3⟩ h)
 ·rintro _ iG jH ⟨xF, hfr, vD, n9⟩ h
  refine Zf (Za (EL_p (fPtr p1 0) (Zc at_153_0 vD (PT.ptr n9)) rfl ?_))
  have xD:=Zm (part_PayPayList_0).1 n9
  refine EL_p (fPtr (fPtr p1 0) 0) (Zc at_59_0 rfl (PT.ptr xD)) rfl ?_
  have yF:=Zm (part_PayList_0).1 xD
  refine Ze .plain rfl (D_load (g:=xF) Tryz.isAgg57 Tryz.sizeOf57 rfl yF fun kH zF=>?_)
  refine EL_p (.int .i64 ((((x0).PayList).Rates).length:Int)) (P_len Tryz.underlying57 rfl zF) rfl ?_
  refine EL_p (.bool ((decide (((((x0).PayList).Rates).length:Int) > (0:Int))))) (P_int rfl rfl rfl) rfl ?_
  refine EL_p (.bool ((decide (((((x0).PayList).Rates).length:Int) > (0:Int))))) (P_assign rfl) rfl ?_
  refine Zb (Zd (E_ret ?_))
  obtain rfl:=sinj h
  exact end1 rfl rfl (show _=.bool ((decide (((((x0).PayList).Rates).length:Int) > (0:Int)))) from rfl) ⟨_,hfr,rfl⟩
def f104 (x0:List Int):Option (Bool):=
 (f63 ((0:Int)) ((1000:Int)) x0).bind fun y2=>
 some (y2)
theorem en104:Enters Tryz.prog 104:=enters_of Tryz.func104 (by kernel_rfl) rfl
theorem wk104 {gI:Gh} {wI:World} {x0:List Int} {up0:Value} (rp0:RV gI.m wI x0 up0) {r:Bool} (h:f104 x0=some r):Fn Tryz.prog 104 #[up0] gI wI (fun _ _ v=>v=.bool (r)):=by
 unfold f104 at h
 refine fn_of_E Tryz.func104 rfl (Nat.le_of_ble_eq_true rfl) fun g0 hm hfr=>?_
 have rp0:RV g0.m wI x0 up0:=hm ▸ rp0
 show E _ 5 none _ _ _ _ _
 refine Zf (Za (Zg (.bool false) rfl rfl ?_))
 refine Zb (Zd (Zf (Za (Zn up0 rfl rfl ?_))))
 obtain ⟨y2,hy2,h⟩:=bsome h
 refine Ze .plain rfl (Zp (g:=g0) (vs:=[.int .i64 (0),.int .i64 (1000),up0]) en63 (.cons rfl (.cons rfl (.cons rfl .nil))) (wk63 rp0 hy2) fun g1 w1_ v1 hs hr=>?_)
 have hfr:=hfr.ext hs
 subst hr
 refine Zg (.bool (y2)) rfl rfl ?_
 refine Zb (Zd (E_ret ?_))
 obtain rfl:=sinj h
 exact end1 rfl rfl (show _=.bool (y2) from rfl) ⟨_,hfr,rfl⟩
def f120 (x0:List Int):Option (Bool):=
 (f63 ((-1:Int)) ((1000000:Int)) x0).bind fun y2=>
 some (y2)
theorem en120:Enters Tryz.prog 120:=enters_of Tryz.func120 (by kernel_rfl) rfl
theorem wk120 {gI:Gh} {wI:World} {x0:List Int} {up0:Value} (rp0:RV gI.m wI x0 up0) {r:Bool} (h:f120 x0=some r):Fn Tryz.prog 120 #[up0] gI wI (fun _ _ v=>v=.bool (r)):=by
 unfold f120 at h
 refine fn_of_E Tryz.func120 rfl (Nat.le_of_ble_eq_true rfl) fun g0 hm hfr=>?_
 have rp0:RV g0.m wI x0 up0:=hm ▸ rp0
 show E _ 5 none _ _ _ _ _
 refine Zf (Za (Zg (.bool false) rfl rfl ?_))
 refine Zb (Zd (Zf (Za (Zn up0 rfl rfl ?_))))
 obtain ⟨y2,hy2,h⟩:=bsome h
 refine Ze .plain rfl (Zp (g:=g0) (vs:=[.int .i64 (-1),.int .i64 (1000000),up0]) en63 (.cons rfl (.cons rfl (.cons rfl .nil))) (wk63 rp0 hy2) fun g1 w1_ v1 hs hr=>?_)
 have hfr:=hfr.ext hs
 subst hr
 refine Zg (.bool (y2)) rfl rfl ?_
 refine Zb (Zd (E_ret ?_))
 obtain rfl:=sinj h
 exact end1 rfl rfl (show _=.bool (y2) from rfl) ⟨_,hfr,rfl⟩
def f140 (x0:List Int):Option (Bool):=
 Option.bind (α:=Bool) (
  (f156 x0).bind fun y9=>
  bif y9 then
   (f68 x0).bind fun x5=>
   (f157 x5).bind fun l5=>
   some ((((Int.toNat l5:Nat):Int) == ((x0).length:Int)))
  else
   some (false)
  ) fun u3=>
 some (u3)
theorem en140:Enters Tryz.prog 140:=enters_of Tryz.func140 (by kernel_rfl) rfl
theorem wk140 {gI:Gh} {wI:World} {x0:List Int} {up0:Value} (rp0:RV gI.m wI x0 up0) {r:Bool} (h:f140 x0=some r):Fn Tryz.prog 140 #[up0] gI wI (fun _ _ v=>v=.bool (r)):=by
 unfold f140 at h
 refine fn_of_E Tryz.func140 rfl (Nat.le_of_ble_eq_true rfl) fun g0 hm hfr=>?_
 have rp0:RV g0.m wI x0 up0:=hm ▸ rp0
 show E _ 14 none _ _ _ _ _
 refine Zf (Za (Zg (.bool false) rfl rfl ?_))
 refine Zb (Zd ?_)
 obtain ⟨u3,hx,h⟩:=bsome h
 refine E_join (fun e w=>∃ (g:Gh) ,Fr gI wI g w∧e 2=.bool (u3)) (fun Q' hQ=>?_) (fun l8 w15 hR=>?_)
 ·replace h := hx
  clear hx
  refine Za (Zn up0 rfl rfl ?_)
  obtain ⟨y9,y6,h⟩:=bsome h
  refine Ze .plain rfl (Zp (g:=g0) (vs:=[up0]) en156 (.cons rfl .nil) (wk156 rp0 y6) fun g8 w8_ v8 hs hr=>?_)
  have hfr:=hfr.ext hs
  have rp0:=rp0.ext hs
  subst hr
  refine Zn (.bool (y9)) rfl rfl ?_
  rcases Zt h with ⟨o0,h⟩ | ⟨o0,h⟩
  ·refine EL_y up0 (Zk rfl) rfl rfl o0 rfl ?_
   obtain ⟨x5,i6,h⟩:=bsome h
   refine Ze (.yes2 rfl rfl o0) rfl (D_callG (g:=g8) (vs:=[up0]) en68 (.cons rfl .nil) (v68_0 (iO:=9007) rp0 i6) fun i7 m8 m7 hs hr=>?_)
   have hfr:=hfr.ext hs
   have rp0:=rp0.ext hs
   have hm11:=hr
   obtain ⟨l5,x6,h⟩:=bsome h
   refine Ze (.yes2 rfl rfl o0) rfl (D_callM (g:=i7) (i:=9007) (vs:=[m7]) en157 (.cons rfl .nil) (wk157 hm11 x6) fun k8 n8 r8 hs hr=>?_)
   obtain ⟨sa13,sc13,hsl13⟩:=hr
   subst hsl13
   have hfr:=hfr.stp hs
   have rp0:=rp0.stp hs
   refine EL_y (.int .i64 ((Int.toNat l5:Nat):Int)) (P_lenSl Tryz.underlying28 rfl) rfl rfl o0 rfl ?_
   refine EL_y up0 (Zk rfl) rfl rfl o0 rfl ?_
   refine EL_y (.int .i64 ((x0).length:Int)) (P_len Tryz.underlying28 rfl rp0) rfl rfl o0 rfl ?_
   refine EL_y (.bool ((((Int.toNat l5:Nat):Int) == ((x0).length:Int)))) (P_int rfl rfl rfl) rfl rfl o0 rfl ?_
   refine EL_p (.bool ((((Int.toNat l5:Nat):Int) == ((x0).length:Int)))) (Zl (b:=y9) rfl (pick_t o0 rfl)) rfl ?_
   refine Zg (.bool ((((Int.toNat l5:Nat):Int) == ((x0).length:Int)))) rfl rfl ?_
   refine Zb ?_
   obtain rfl:=sinj h
   exact hQ _ _ ⟨k8,hfr,rfl⟩
  ·refine EL_s rfl rfl o0 rfl rfl ?_
   iterate 6 refine EL_s rfl rfl o0 rfl rfl ?_
   refine EL_p (.bool false) (Zl (b:=y9) rfl (pick_f o0 rfl)) rfl ?_
   refine Zg (.bool false) rfl rfl ?_
   refine Zb ?_
   obtain rfl:=sinj h
   exact hQ _ _ ⟨g8,hfr,rfl⟩
 ·clear hx
  obtain ⟨x8,hfr,t5⟩:=hR
  refine E_ret ?_
  obtain rfl:=sinj h
  exact end1 rfl rfl (show _=.bool (u3) from t5) ⟨_,hfr,rfl⟩
def f147 : Nat → (List Int) → (Int) → (Int) → (Int) → (Int → Int → Option Int) → Option ((List Int))
 | 0,_,_,_,_,_=>none
 | n + 1,x0,x1,x2,x3,x4=>
  jn (σ:=(List Int)) (fun r8=>
   jn (σ:=(List Int)) (fun m8=>
    (shr64 ((wu64 (w64 (x1 + x3)))) ((1:Int))).bind fun u3=>
    Option.bind (α:=Int × Int) (
     bif (decide (x2 > (w64 u3))) then
      some ((w64 ((w64 ((w64 u3) + x2)) - x3)),(w64 u3))
     else
      some (x1,x2)
     ) fun (cD,eD)=>
    Option.bind (α:=Int) (
     lp (σ:=Int × Int) (fun aL (i6,i7)=>
      jn (σ:=Unit) (fun _=>
       (shr64 ((wu64 (w64 (i6 + i7)))) ((1:Int))).bind fun x5=>
       (idx m8 (w64 ((w64 ((w64 ((w64 u3) + x2)) - (1:Int))) - (w64 x5)))).bind fun dH=>
       (idx m8 (w64 x5)).bind fun gH=>
       (x4 dH gH).bind fun gD=>
       bif (!(decide (gD < (0 : Int)))) then
        aL ((w64 ((w64 x5) + (1:Int))),i7)
       else
        aL (i6,(w64 x5))
       ) fun uM=>
      bif (decide (i6 < i7)) then
       uM ()
      else
       some (i6)
      ) big (cD,eD)
     ) fun o0=>
    Option.bind (α:=(List Int)) (
     Option.bind (α:=Bool) (
      bif (decide (o0 < x2)) then
       some ((decide (x2 < (w64 ((w64 ((w64 u3) + x2)) - o0)))))
      else
       some (false)
      ) fun iA=>
     bif iA then
      (f169 m8 o0 x2 ((w64 ((w64 ((w64 u3) + x2)) - o0))) x4).bind fun vM=>
      some (vM)
     else
      some (m8)
     ) fun iB=>
    Option.bind (α:=(List Int)) (
     Option.bind (α:=Bool) (
      bif (decide (x1 < o0)) then
       some ((decide (o0 < (w64 u3))))
      else
       some (false)
      ) fun rA=>
     bif rA then
      (f147 n iB x1 o0 ((w64 u3)) x4).bind fun xM=>
      some (xM)
     else
      some (iB)
     ) fun lB=>
    Option.bind (α:=Bool) (
     bif (decide ((w64 u3) < (w64 ((w64 ((w64 u3) + x2)) - o0)))) then
      some ((decide ((w64 ((w64 ((w64 u3) + x2)) - o0)) < x3)))
     else
      some (false)
     ) fun yA=>
    bif yA then
     (f147 n lB ((w64 u3)) ((w64 ((w64 ((w64 u3) + x2)) - o0))) x3 x4).bind fun bN=>
     some (bN)
    else
     some (lB)
    ) fun cN=>
   bif ((w64 (x3 - x2)) == (1 : Int)) then
    Option.bind (α:=Int) (
     lp (σ:=Int × Int) (fun bL (x6,m7)=>
      jn (σ:=Unit) (fun _=>
       (shr64 ((wu64 (w64 (x6 + m7)))) ((1:Int))).bind fun k8=>
       (idx r8 x2).bind fun iH=>
       (idx r8 (w64 k8)).bind fun jH=>
       (x4 iH jH).bind fun iD=>
       bif (!(decide (iD < (0 : Int)))) then
        bL ((w64 ((w64 k8) + (1:Int))),m7)
       else
        bL (x6,(w64 k8))
       ) fun dN=>
      bif (decide (x6 < m7)) then
       dN ()
      else
       some (x6)
      ) big (x1,x2)
     ) fun v8=>
    Option.bind (α:=(List Int)) (
     lp (σ:=(List Int) × Int) (fun eN (x8,l5)=>
      jn (σ:=Unit) (fun _=>
       Option.bind (α:=(List Int)) (
        (idx x8 (w64 (l5 - (1:Int)))).bind fun zD=>
        (idx x8 l5).bind fun kH=>
        (idx x8 l5).bind fun tQ=>
        (idx ((List.set x8 (Int.toNat l5) zD)) (w64 (l5 - (1:Int)))).bind fun uQ=>
        some ((List.set ((List.set x8 (Int.toNat l5) zD)) (Int.toNat (w64 (l5 - (1:Int)))) kH))
        ) fun zB=>
       eN (zB,(w64 (l5 - (1:Int))))
       ) fun gN=>
      bif (decide (l5 > v8)) then
       gN ()
      else
       some (x8)
      ) big (r8,x2)
     ) fun aE=>
    some (aE)
   else
    cN (r8)
   ) fun iN=>
  bif ((w64 (x2 - x1)) == (1 : Int)) then
   Option.bind (α:=Int) (
    lp (σ:=Int × Int) (fun dL (y6,g8)=>
     jn (σ:=Unit) (fun _=>
      (shr64 ((wu64 (w64 (y6 + g8)))) ((1:Int))).bind fun l8=>
      (idx x0 (w64 l8)).bind fun lH=>
      (idx x0 x1).bind fun mH=>
      (x4 lH mH).bind fun bE=>
      bif (decide (bE < (0 : Int))) then
       dL ((w64 ((w64 l8) + (1:Int))),g8)
      else
       dL (y6,(w64 l8))
      ) fun jN=>
     bif (decide (y6 < g8)) then
      jN ()
     else
      some (y6)
     ) big (x2,x3)
    ) fun n8=>
   Option.bind (α:=(List Int)) (
    lp (σ:=(List Int) × Int) (fun kN (a9,t5)=>
     jn (σ:=Unit) (fun _=>
      Option.bind (α:=(List Int)) (
       (idx a9 (w64 (t5 + (1:Int)))).bind fun iE=>
       (idx a9 t5).bind fun nH=>
       (idx a9 t5).bind fun vQ=>
       (idx ((List.set a9 (Int.toNat t5) iE)) (w64 (t5 + (1:Int)))).bind fun xQ=>
       some ((List.set ((List.set a9 (Int.toNat t5) iE)) (Int.toNat (w64 (t5 + (1:Int)))) nH))
       ) fun cC=>
      kN (cC,(w64 (t5 + (1:Int))))
      ) fun lN=>
     bif (decide (t5 < (w64 (n8 - (1 : Int))))) then
      lN ()
     else
      some (a9)
     ) big (x0,x1)
    ) fun lE=>
   some (lE)
  else
   iN (x0)
theorem en147:Enters Tryz.prog 147:=enters_of Tryz.func147 (by kernel_rfl) rfl
theorem wk147 (n:Nat):∀ {iI:Nat} {gI:Gh} {wI:World} {x0:List Int} {x1:Int} {x2:Int} {x3:Int} {x4:Int→Int→Option Int} {up0:Value} (mp0:OM iI gI wI 3 x0 up0) {up4:Value} (rp4:FnV2 Tryz.prog x4 up4 gI wI) {r:(List Int)} (h:f147 n x0 x1 x2 x3 x4=some r),FnM Tryz.prog 147 #[up0,.int .i64 (x1),.int .i64 (x2),.int .i64 (x3),up4] iI gI wI (fun g w v=>v=.tuple #[]∧OM iI g w 3 r up0):=by
 induction n with
 | zero=>intros; rename_i h; cases h
 | succ n ih=>
 intro iI gI wI x0 x1 x2 x3 x4 up0 mp0 up4 rp4 r h
 simp only [f147] at h
 refine fnM_of_E Tryz.func147 rfl (Nat.le_of_ble_eq_true rfl) fun g0 hm hfr=>?_
 have yD:=mp0
 replace mp0:=mp0.enter
 rw [← hm] at mp0
 replace hm:g0.m=gI.m:=by rw [hm]
 obtain ⟨ff4,fa4,fc4,rfl,fen4,fcl4⟩:=rp4
 show E _ 220 none _ _ _ _ _
 refine Zq h (fun (s:(List Int)) e w=>∃ (g:Gh) ,FrM iI gI wI g w∧e 0=up0∧OM 1 g w 3 (s:List Int) up0∧e 1=.int .i64 (x1)∧e 2=.int .i64 (x2)∧e 3=.int .i64 (x3)∧e 4=(.func (.func ff4) fa4 fc4)) (fun X203 iN kP h=>?_) ?_
 ·refine Zf (Za (Zn (.int .i64 (x2)) rfl rfl ?_))
  refine Zn (.int .i64 (x1)) rfl rfl ?_
  refine EL_in (.int .i64 ((w64 (x2 - x1)))) rfl rfl rfl rfl ?_
  refine EL_in (.bool (((w64 (x2 - x1)) == (1:Int)))) rfl rfl rfl rfl ?_
  refine Zb (Zd ?_)
  rcases Zt h with ⟨oH,h⟩ | ⟨oH,h⟩
  ·refine E_ct oH rfl ?_
   refine Zf (Za (Zn (.int .i64 (x2)) rfl rfl ?_))
   refine Zg (.int .i64 (x2)) rfl rfl ?_
   refine Zb (Zd (Zf (Za (Zn (.int .i64 (x3)) rfl rfl ?_))))
   refine Zg (.int .i64 (x3)) rfl rfl ?_
   refine Zb (Zd ?_)
   obtain ⟨n8,hx,h⟩:=bsome h
   refine E_join (fun e w=>∃ (g:Gh) ,FrM iI gI wI g w∧e 0=up0∧OM 1 g w 3 (x0:List Int) up0∧e 1=.int .i64 (x1)∧e 10=.int .i64 (n8)) (fun Q' hQ=>?_) (fun lS cU hR=>?_)
   ·replace h := hx
    clear hx
    refine Zr ?_
    refine E_lp h (fun (s:Int × Int) e w=>∃ (g:Gh) ,FrM iI gI wI g w∧e 0=up0∧OM 1 g w 3 (x0:List Int) up0∧e 1=.int .i64 (x1)∧e 4=(.func (.func ff4) fa4 fc4)∧e 10=.int .i64 (s.1)∧e 11=.int .i64 (s.2)) ⟨g0,hfr,rfl,mp0,rfl,rfl,rfl,rfl⟩ (fun X243 dL eL=>?_)
    rintro ⟨y6,g8⟩ mS dU ⟨mN,hfr,lI,mI,nI,nN,jD,uF⟩ h
    refine Zq h (fun (s:Unit) e w=>∃ (g:Gh) ,FrM iI gI wI g w∧e 0=up0∧OM 1 g w 3 (x0:List Int) up0∧e 1=.int .i64 (x1)∧e 4=(.func (.func ff4) fa4 fc4)∧e 10=.int .i64 (y6)∧e 11=.int .i64 (g8)) (fun X246 jN lP h=>?_) ?_
    ·refine Zf (Za (Zo jD rfl ?_))
     refine Zo uF rfl ?_
     refine EL_in (.bool ((decide (y6 < g8)))) rfl rfl rfl rfl ?_
     refine Zb (Zd ?_)
     rcases Zt h with ⟨pH,h⟩ | ⟨pH,h⟩
     ·refine E_ct pH rfl ?_
      exact Zu (Zd (lP () _ _ ⟨mN,hfr,lI,mI,nI,nN,jD,uF⟩ h))
     ·refine E_cf pH rfl ?_
      refine E_exit ?_
      refine thn_e ?_
      refine thn_e ?_
      refine blk_hit ?_
      obtain rfl:=sinj h
      exact hQ _ _ ⟨mN,hfr,lI,mI,nI,jD⟩
    ·rintro _ nS eU ⟨yQ, hfr, mC, d9, mE, oE, vF, xF⟩ h
     refine Zr ?_
     refine Zf (Za (Zo vF rfl ?_))
     refine Zo xF rfl ?_
     refine EL_in (.int .i64 ((w64 (y6 + g8)))) rfl rfl rfl rfl ?_
     refine EL_p (.int .u64 (wu64 (w64 (y6 + g8)))) (P_intu64 Tryz.underlying3 Tryz.underlying92 rfl) rfl ?_
     obtain ⟨l8,mP,h⟩:=bsome h
     refine EL_p (.int .u64 (l8)) (P_shrU rfl rfl mP) rfl ?_
     refine EL_p (.int .i64 ((w64 l8))) (P_u64int Tryz.underlying92 Tryz.underlying3 rfl) rfl ?_
     refine Zg (.int .i64 ((w64 l8))) rfl rfl ?_
     refine Zb (Zd (Zf ?_))
     obtain ⟨lH,gL,h⟩:=bsome h
     refine L_loadM (x:=.tmp 43) Tryz.isAgg3 Tryz.sizeOf3 d9 gL fun gU zQ nP=>?_
     obtain rfl:=Zj.1 zQ
     obtain ⟨mH,iL,h⟩:=bsome h
     refine L_loadM (x:=.tmp 47) Tryz.isAgg3 Tryz.sizeOf3 d9 iL fun iU aR oP=>?_
     obtain rfl:=Zj.1 aR
     obtain ⟨bE,pP,h⟩:=bsome h
     refine E_drawL (g:=yQ) (n:=11) [(9,(fun v g w=>v=.int .i64 (bE)))] [0,1,2,3,4,5,6,7,8,9,10] rfl mixed (by kernel_rfl) (⟨fun _=>up_eq _,trivial⟩) ?_
     refine L_p ((.func (.func ff4) fa4 fc4)) rfl rfl (Zk oE) ?_
     refine L_p up0 rfl rfl (Zk mC) ?_
     refine L_p (.int .i64 ((w64 l8))) rfl rfl (Zk rfl) ?_
     refine L_p (ePtr up0 (w64 l8) 1) rfl rfl (P_indexAddrM (α:=Int) Tryz.underlying28 Tryz.sizeOf3 rfl d9 rfl gL) ?_
     refine L_ld (c:=.int .i64 (lH)) rfl rfl .plain (fun _ _ h=>⟨h.ch,fun b hb _=>h.below.block b hb⟩) nP rfl ?_
     refine L_p up0 rfl rfl (Zk mC) ?_
     refine L_p (.int .i64 (x1)) rfl rfl (Zk mE) ?_
     refine L_p (ePtr up0 x1 1) rfl rfl (P_indexAddrM (α:=Int) Tryz.underlying28 Tryz.sizeOf3 rfl d9 rfl iL) ?_
     refine L_ld (c:=.int .i64 (mH)) rfl rfl .plain (fun _ _ h=>⟨h.ch,fun b hb _=>h.below.block b hb⟩) oP rfl ?_
     refine L_do (φ:=fun v g w=>v=.int .i64 (bE)) rfl rfl .plain (fun g w hd=>D_callv (g:=g) (vs:=[.int .i64 (lH),.int .i64 (mH)]) rfl fen4 (.cons rfl (.cons rfl .nil)) (fcl4 _ _ (hfr.ext hd.1).ch _ _ _ _ _  (Zj.2 rfl) (Zj.2 rfl) pP) fun g' w' v hs hr=>⟨g',hs,Zj.1 hr⟩) (fun jU hv=>?_)
     obtain ⟨_,_,_,rfl⟩:=hv
     refine L_p (.bool ((decide (bE < (0:Int))))) rfl rfl (P_int rfl rfl rfl) ?_
     refine L_nl fun oN kU hs=>?_
     have hfr:=hfr.ext hs
     have d9:=d9.ext hs
     clear hs
     refine Zb (Zd ?_)
     rcases Zt h with ⟨qH,h⟩ | ⟨qH,h⟩
     ·refine E_ct qH rfl ?_
      refine Za (Zn (.int .i64 ((w64 l8))) rfl rfl ?_)
      refine EL_in (.int .i64 ((w64 ((w64 l8) + (1:Int))))) rfl rfl rfl rfl ?_
      refine Zg (.int .i64 ((w64 ((w64 l8) + (1:Int))))) rfl rfl ?_
      exact Zb (blk_n (Zd (eL ((w64 ((w64 l8) + (1:Int))),g8) _ _ ⟨oN,hfr,mC,d9,mE,oE,rfl,xF⟩ h)))
     ·refine E_cf qH rfl ?_
      refine Za (Zn (.int .i64 ((w64 l8))) rfl rfl ?_)
      refine Zg (.int .i64 ((w64 l8))) rfl rfl ?_
      exact Zb (blk_n (Zd (eL (y6,(w64 l8)) _ _ ⟨oN,hfr,mC,d9,mE,oE,vF,rfl⟩ h)))
   ·clear hx
    obtain ⟨bR,hfr,pN,qN,rN,aM⟩:=hR
    obtain ⟨lE,hx,h⟩:=bsome h
    refine E_join (fun e w=>∃ (g:Gh) ,FrM iI gI wI g w∧e 0=up0∧OM 1 g w 3 (lE:List Int) up0) (fun Q' hQ=>?_) (fun oS lU hR=>?_)
    ·replace h := hx
     clear hx
     refine Zf (Za (Zo rN rfl ?_))
     refine Zg (.int .i64 (x1)) rfl rfl ?_
     refine Zb (Zd (Zr ?_))
     refine E_lp h (fun (s:(List Int) × Int) e w=>∃ (g:Gh) ,FrM iI gI wI g w∧e 0=up0∧OM 1 g w 3 (s.1:List Int) up0∧e 10=.int .i64 (n8)∧e 13=.int .i64 (s.2)) ⟨bR,hfr,pN,qN,aM,rfl⟩ (fun X343 kN sP=>?_)
     rintro ⟨a9,t5⟩ pS mU ⟨sN,hfr,pI,qI,yF,zF⟩ h
     refine Zq h (fun (s:Unit) e w=>∃ (g:Gh) ,FrM iI gI wI g w∧e 0=up0∧OM 1 g w 3 (a9:List Int) up0∧e 10=.int .i64 (n8)∧e 13=.int .i64 (t5)) (fun X346 lN tP h=>?_) ?_
     ·refine Zf (Za (Zo zF rfl ?_))
      refine Zo yF rfl ?_
      refine EL_in (.int .i64 ((w64 (n8 - (1:Int))))) rfl rfl rfl rfl ?_
      refine EL_p (.bool ((decide (t5 < (w64 (n8 - (1:Int))))))) (P_int rfl rfl rfl) rfl ?_
      refine Zb (Zd ?_)
      rcases Zt h with ⟨sH,h⟩ | ⟨sH,h⟩
      ·refine E_ct sH rfl ?_
       exact Zu (Zd (tP () _ _ ⟨sN,hfr,pI,qI,yF,zF⟩ h))
      ·refine E_cf sH rfl ?_
       refine E_exit ?_
       refine thn_e ?_
       refine thn_e ?_
       refine blk_hit ?_
       obtain rfl:=sinj h
       exact hQ _ _ ⟨sN,hfr,pI,qI⟩
     ·rintro _ qS cR ⟨tN, hfr, mB, k9, bM, aB⟩ h
      obtain ⟨cC,hx,h⟩:=bsome h
      refine E_join (fun e w=>∃ (g:Gh) ,FrM iI gI wI g w∧e 0=up0∧OM 1 g w 3 (cC:List Int) up0∧e 10=.int .i64 (n8)∧e 13=.int .i64 (t5)) (fun Q' hQ=>?_) (fun rS nU hR=>?_)
      ·replace h := hx
       clear hx
       refine Zr ?_
       obtain ⟨iE,jL,h⟩:=bsome h
       refine L_loadM (x:=.tmp 69) Tryz.isAgg3 Tryz.sizeOf3 k9 jL fun oU dR uP=>?_
       obtain rfl:=Zj.1 dR
       obtain ⟨nH,lL,h⟩:=bsome h
       refine L_loadM (x:=.tmp 73) Tryz.isAgg3 Tryz.sizeOf3 k9 lL fun pU eR vP=>?_
       obtain rfl:=Zj.1 eR
       obtain ⟨vQ,mL,h⟩:=bsome h
       refine E_drawTL (g:=tN) (n:=15) [2,3,4] [] [0,1,2,3,4,5,6,7,8,9,10,11,12,13,14] rfl mixed (by kernel_rfl) trivial rfl ?_
       refine L_p up0 rfl rfl (Zk mB) ?_
       refine L_p (.int .i64 (t5)) rfl rfl (Zk aB) ?_
       refine L_purL (c:=up0) rfl rfl .plain (Zk mB) ?_
       refine L_purL (c:=.int .i64 (t5)) rfl rfl .plain (Zk aB) ?_
       refine L_purL (c:=.int .i64 ((w64 (t5 + (1:Int))))) rfl rfl .plain (P_int rfl rfl rfl) ?_
       refine L_p up0 rfl rfl (Zk mB) ?_
       refine L_p (.int .i64 (t5)) rfl rfl (Zk aB) ?_
       refine L_p (.int .i64 ((w64 (t5 + (1:Int))))) rfl rfl (P_int rfl rfl rfl) ?_
       refine L_p (ePtr up0 (w64 (t5 + (1:Int))) 1) rfl rfl (P_indexAddrM (α:=Int) Tryz.underlying28 Tryz.sizeOf3 rfl k9 rfl jL) ?_
       refine L_ld (c:=.int .i64 (iE)) rfl rfl .plain (fun _ _ h=>⟨h.ch,fun b hb _=>h.below.block b hb⟩) uP rfl ?_
       refine L_p up0 rfl rfl (Zk mB) ?_
       refine L_p (.int .i64 (t5)) rfl rfl (Zk aB) ?_
       refine L_p (ePtr up0 t5 1) rfl rfl (P_indexAddrM (α:=Int) Tryz.underlying28 Tryz.sizeOf3 rfl k9 rfl lL) ?_
       refine L_ld (c:=.int .i64 (nH)) rfl rfl .plain (fun _ _ h=>⟨h.ch,fun b hb _=>h.below.block b hb⟩) vP rfl ?_
       refine L_p (ePtr up0 t5 1) rfl rfl (P_indexAddrM (α:=Int) Tryz.underlying28 Tryz.sizeOf3 rfl k9 rfl mL) ?_
       refine L_nl fun uN gR hs=>?_
       have hlt:Lt tN.m cR uN gR:=hs.ch
       have hfr:=hfr.ext hs
       have k9:=k9.ext hs
       clear hs
       refine TL_do hlt.w .plain rfl (D_storeM (g:=uN) (α:=Int) (a':=iE) Tryz.sizeOf3 rfl k9 mL rfl (Zj.2 rfl) fun iR qU hs b400=>?_)
       have hfr:=hfr.stp hs
       have hlt:=hlt.stp hs
       obtain ⟨xQ,nL,h⟩:=bsome h
       refine TL_pur hlt.w (v:=ePtr up0 (w64 (t5 + (1:Int))) 1) (P_indexAddrM (α:=Int) Tryz.underlying28 Tryz.sizeOf3 rfl b400 rfl nL) .plain rfl ?_
       refine TL_do hlt.w .plain rfl (D_storeM (g:=iR) (α:=Int) (a':=nH) Tryz.sizeOf3 rfl b400 nL rfl (Zj.2 rfl) fun jR rU hs b402=>?_)
       have hfr:=hfr.stp hs
       have hlt:=hlt.stp hs
       refine TL_nil hlt.w ?_
       clear hlt
       refine blk_n ?_
       obtain rfl:=sinj h
       exact hQ _ _ ⟨jR,hfr,mB,b402,bM,aB⟩
      ·clear hx
       obtain ⟨lR,hfr,vN,xN,cM,dM⟩:=hR
       refine Za (Zo dM rfl ?_)
       refine EL_in (.int .i64 ((w64 (t5 + (1:Int))))) rfl rfl rfl rfl ?_
       refine Zg (.int .i64 ((w64 (t5 + (1:Int))))) rfl rfl ?_
       exact Zb (Zd (sP (cC,(w64 (t5 + (1:Int)))) _ _ ⟨lR,hfr,vN,xN,cM,rfl⟩ h))
    ·clear hx
     obtain ⟨sU,hfr,iS,yN⟩:=hR
     refine E_ret (thn_r ?_)
     obtain rfl:=sinj h
     exact end0 rfl rfl ⟨_,hfr,rfl,yD.back yN⟩
  ·refine E_cf oH rfl ?_
   exact Zu (Zd (kP (x0) _ _ ⟨g0,hfr,rfl,mp0,rfl,rfl,rfl,rfl⟩ h))
 ·rintro r8 sS tU ⟨zN, hfr, sI, tI, uI, qC, vI, yI⟩ h
  refine Zq h (fun (s:(List Int)) e w=>∃ (g:Gh) ,FrM iI gI wI g w∧e 0=up0∧OM 1 g w 3 (s:List Int) up0∧e 1=.int .i64 (x1)∧e 2=.int .i64 (x2)∧e 3=.int .i64 (x3)∧e 4=(.func (.func ff4) fa4 fc4)) (fun X609 cN xP h=>?_) ?_
  ·refine Zf (Za (Zo vI rfl ?_))
   refine Zo qC rfl ?_
   refine EL_in (.int .i64 ((w64 (x3 - x2)))) rfl rfl rfl rfl ?_
   refine EL_in (.bool (((w64 (x3 - x2)) == (1:Int)))) rfl rfl rfl rfl ?_
   refine Zb (Zd ?_)
   rcases Zt h with ⟨tH,h⟩ | ⟨tH,h⟩
   ·refine E_ct tH rfl ?_
    refine Zf (Za (Zo uI rfl ?_))
    refine Zg (.int .i64 (x1)) rfl rfl ?_
    refine Zb (Zd (Zf (Za (Zo qC rfl ?_))))
    refine Zg (.int .i64 (x2)) rfl rfl ?_
    refine Zb (Zd ?_)
    obtain ⟨v8,hx,h⟩:=bsome h
    refine E_join (fun e w=>∃ (g:Gh) ,FrM iI gI wI g w∧e 0=up0∧OM 1 g w 3 (r8:List Int) up0∧e 2=.int .i64 (x2)∧e 14=.int .i64 (v8)) (fun Q' hQ=>?_) (fun tS uU hR=>?_)
    ·replace h := hx
     clear hx
     refine Zr ?_
     refine E_lp h (fun (s:Int × Int) e w=>∃ (g:Gh) ,FrM iI gI wI g w∧e 0=up0∧OM 1 g w 3 (r8:List Int) up0∧e 2=.int .i64 (x2)∧e 4=(.func (.func ff4) fa4 fc4)∧e 14=.int .i64 (s.1)∧e 15=.int .i64 (s.2)) ⟨zN,hfr,sI,tI,qC,yI,rfl,rfl⟩ (fun X650 bL oL=>?_)
     rintro ⟨x6,m7⟩ uS vU ⟨aO,hfr,zI,eJ,gJ,bO,lD,aG⟩ h
     refine Zq h (fun (s:Unit) e w=>∃ (g:Gh) ,FrM iI gI wI g w∧e 0=up0∧OM 1 g w 3 (r8:List Int) up0∧e 2=.int .i64 (x2)∧e 4=(.func (.func ff4) fa4 fc4)∧e 14=.int .i64 (x6)∧e 15=.int .i64 (m7)) (fun X653 dN yP h=>?_) ?_
     ·refine Zf (Za (Zo lD rfl ?_))
      refine Zo aG rfl ?_
      refine EL_in (.bool ((decide (x6 < m7)))) rfl rfl rfl rfl ?_
      refine Zb (Zd ?_)
      rcases Zt h with ⟨uH,h⟩ | ⟨uH,h⟩
      ·refine E_ct uH rfl ?_
       exact Zu (Zd (yP () _ _ ⟨aO,hfr,zI,eJ,gJ,bO,lD,aG⟩ h))
      ·refine E_cf uH rfl ?_
       refine E_exit ?_
       refine thn_e ?_
       refine thn_e ?_
       refine blk_hit ?_
       obtain rfl:=sinj h
       exact hQ _ _ ⟨aO,hfr,zI,eJ,gJ,lD⟩
     ·rintro _ vS xU ⟨mR, hfr, rC, l9, rE, uE, bG, cG⟩ h
      refine Zr ?_
      refine Zf (Za (Zo bG rfl ?_))
      refine Zo cG rfl ?_
      refine EL_in (.int .i64 ((w64 (x6 + m7)))) rfl rfl rfl rfl ?_
      refine EL_p (.int .u64 (wu64 (w64 (x6 + m7)))) (P_intu64 Tryz.underlying3 Tryz.underlying92 rfl) rfl ?_
      obtain ⟨k8,zP,h⟩:=bsome h
      refine EL_p (.int .u64 (k8)) (P_shrU rfl rfl zP) rfl ?_
      refine EL_p (.int .i64 ((w64 k8))) (P_u64int Tryz.underlying92 Tryz.underlying3 rfl) rfl ?_
      refine Zg (.int .i64 ((w64 k8))) rfl rfl ?_
      refine Zb (Zd (Zf ?_))
      obtain ⟨iH,pL,h⟩:=bsome h
      refine L_loadM (x:=.tmp 95) Tryz.isAgg3 Tryz.sizeOf3 l9 pL fun yU nR bQ=>?_
      obtain rfl:=Zj.1 nR
      obtain ⟨jH,qL,h⟩:=bsome h
      refine L_loadM (x:=.tmp 99) Tryz.isAgg3 Tryz.sizeOf3 l9 qL fun zU oR cQ=>?_
      obtain rfl:=Zj.1 oR
      obtain ⟨iD,dQ,h⟩:=bsome h
      refine E_drawL (g:=mR) (n:=12) [(9,(fun v g w=>v=.int .i64 (iD)))] [0,1,2,3,4,5,6,7,8,9,10,11] rfl mixed (by kernel_rfl) (⟨fun _=>up_eq _,trivial⟩) ?_
      refine L_p ((.func (.func ff4) fa4 fc4)) rfl rfl (Zk uE) ?_
      refine L_p up0 rfl rfl (Zk rC) ?_
      refine L_p (.int .i64 (x2)) rfl rfl (Zk rE) ?_
      refine L_p (ePtr up0 x2 1) rfl rfl (P_indexAddrM (α:=Int) Tryz.underlying28 Tryz.sizeOf3 rfl l9 rfl pL) ?_
      refine L_ld (c:=.int .i64 (iH)) rfl rfl .plain (fun _ _ h=>⟨h.ch,fun b hb _=>h.below.block b hb⟩) bQ rfl ?_
      refine L_p up0 rfl rfl (Zk rC) ?_
      refine L_p (.int .i64 ((w64 k8))) rfl rfl (Zk rfl) ?_
      refine L_p (ePtr up0 (w64 k8) 1) rfl rfl (P_indexAddrM (α:=Int) Tryz.underlying28 Tryz.sizeOf3 rfl l9 rfl qL) ?_
      refine L_ld (c:=.int .i64 (jH)) rfl rfl .plain (fun _ _ h=>⟨h.ch,fun b hb _=>h.below.block b hb⟩) cQ rfl ?_
      refine L_do (φ:=fun v g w=>v=.int .i64 (iD)) rfl rfl .plain (fun g w hd=>D_callv (g:=g) (vs:=[.int .i64 (iH),.int .i64 (jH)]) rfl fen4 (.cons rfl (.cons rfl .nil)) (fcl4 _ _ (hfr.ext hd.1).ch _ _ _ _ _  (Zj.2 rfl) (Zj.2 rfl) dQ) fun g' w' v hs hr=>⟨g',hs,Zj.1 hr⟩) (fun aV hv=>?_)
      obtain ⟨_,_,_,rfl⟩:=hv
      refine L_p (.bool ((decide (iD < (0:Int))))) rfl rfl (P_int rfl rfl rfl) ?_
      refine L_p (.bool (!(decide (iD < (0:Int))))) rfl rfl (P_not rfl) ?_
      refine L_nl fun cO bV hs=>?_
      have hfr:=hfr.ext hs
      have l9:=l9.ext hs
      clear hs
      refine Zb (Zd ?_)
      rcases Zt h with ⟨xH,h⟩ | ⟨xH,h⟩
      ·refine E_ct xH rfl ?_
       refine Za (Zn (.int .i64 ((w64 k8))) rfl rfl ?_)
       refine EL_in (.int .i64 ((w64 ((w64 k8) + (1:Int))))) rfl rfl rfl rfl ?_
       refine Zg (.int .i64 ((w64 ((w64 k8) + (1:Int))))) rfl rfl ?_
       exact Zb (blk_n (Zd (oL ((w64 ((w64 k8) + (1:Int))),m7) _ _ ⟨cO,hfr,rC,l9,rE,uE,rfl,cG⟩ h)))
      ·refine E_cf xH rfl ?_
       refine Za (Zn (.int .i64 ((w64 k8))) rfl rfl ?_)
       refine Zg (.int .i64 ((w64 k8))) rfl rfl ?_
       exact Zb (blk_n (Zd (oL (x6,(w64 k8)) _ _ ⟨cO,hfr,rC,l9,rE,uE,bG,rfl⟩ h)))
    ·clear hx
     obtain ⟨pR,hfr,dO,eO,gO,eM⟩:=hR
     obtain ⟨aE,hx,h⟩:=bsome h
     refine E_join (fun e w=>∃ (g:Gh) ,FrM iI gI wI g w∧e 0=up0∧OM 1 g w 3 (aE:List Int) up0) (fun Q' hQ=>?_) (fun xS cV hR=>?_)
     ·replace h := hx
      clear hx
      refine Zf (Za (Zo gO rfl ?_))
      refine Zg (.int .i64 (x2)) rfl rfl ?_
      refine Zb (Zd (Zr ?_))
      refine E_lp h (fun (s:(List Int) × Int) e w=>∃ (g:Gh) ,FrM iI gI wI g w∧e 0=up0∧OM 1 g w 3 (s.1:List Int) up0∧e 14=.int .i64 (v8)∧e 17=.int .i64 (s.2)) ⟨pR,hfr,dO,eO,eM,rfl⟩ (fun X751 eN eQ=>?_)
      rintro ⟨x8,l5⟩ yS dV ⟨iO,hfr,iJ,jJ,eG,gG⟩ h
      refine Zq h (fun (s:Unit) e w=>∃ (g:Gh) ,FrM iI gI wI g w∧e 0=up0∧OM 1 g w 3 (x8:List Int) up0∧e 14=.int .i64 (v8)∧e 17=.int .i64 (l5)) (fun X754 gN gQ h=>?_) ?_
      ·refine Zf (Za (Zo gG rfl ?_))
       refine Zo eG rfl ?_
       refine EL_in (.bool ((decide (l5 > v8)))) rfl rfl rfl rfl ?_
       refine Zb (Zd ?_)
       rcases Zt h with ⟨yH,h⟩ | ⟨yH,h⟩
       ·refine E_ct yH rfl ?_
        exact Zu (Zd (gQ () _ _ ⟨iO,hfr,iJ,jJ,eG,gG⟩ h))
       ·refine E_cf yH rfl ?_
        refine E_exit ?_
        refine thn_e ?_
        refine thn_e ?_
        refine blk_hit ?_
        obtain rfl:=sinj h
        exact hQ _ _ ⟨iO,hfr,iJ,jJ⟩
      ·rintro _ zS qR ⟨jO, hfr, nB, n9, iM, dB⟩ h
       obtain ⟨zB,hx,h⟩:=bsome h
       refine E_join (fun e w=>∃ (g:Gh) ,FrM iI gI wI g w∧e 0=up0∧OM 1 g w 3 (zB:List Int) up0∧e 14=.int .i64 (v8)∧e 17=.int .i64 (l5)) (fun Q' hQ=>?_) (fun eT eV hR=>?_)
       ·replace h := hx
        clear hx
        refine Zr ?_
        obtain ⟨zD,rL,h⟩:=bsome h
        refine L_loadM (x:=.tmp 121) Tryz.isAgg3 Tryz.sizeOf3 n9 rL fun gV rR iQ=>?_
        obtain rfl:=Zj.1 rR
        obtain ⟨kH,tL,h⟩:=bsome h
        refine L_loadM (x:=.tmp 125) Tryz.isAgg3 Tryz.sizeOf3 n9 tL fun iV tR jQ=>?_
        obtain rfl:=Zj.1 tR
        obtain ⟨tQ,uL,h⟩:=bsome h
        refine E_drawTL (g:=jO) (n:=15) [2,3,4] [] [0,1,2,3,4,5,6,7,8,9,10,11,12,13,14] rfl mixed (by kernel_rfl) trivial rfl ?_
        refine L_p up0 rfl rfl (Zk nB) ?_
        refine L_p (.int .i64 (l5)) rfl rfl (Zk dB) ?_
        refine L_purL (c:=up0) rfl rfl .plain (Zk nB) ?_
        refine L_purL (c:=.int .i64 (l5)) rfl rfl .plain (Zk dB) ?_
        refine L_purL (c:=.int .i64 ((w64 (l5 - (1:Int))))) rfl rfl .plain (P_int rfl rfl rfl) ?_
        refine L_p up0 rfl rfl (Zk nB) ?_
        refine L_p (.int .i64 (l5)) rfl rfl (Zk dB) ?_
        refine L_p (.int .i64 ((w64 (l5 - (1:Int))))) rfl rfl (P_int rfl rfl rfl) ?_
        refine L_p (ePtr up0 (w64 (l5 - (1:Int))) 1) rfl rfl (P_indexAddrM (α:=Int) Tryz.underlying28 Tryz.sizeOf3 rfl n9 rfl rL) ?_
        refine L_ld (c:=.int .i64 (zD)) rfl rfl .plain (fun _ _ h=>⟨h.ch,fun b hb _=>h.below.block b hb⟩) iQ rfl ?_
        refine L_p up0 rfl rfl (Zk nB) ?_
        refine L_p (.int .i64 (l5)) rfl rfl (Zk dB) ?_
        refine L_p (ePtr up0 l5 1) rfl rfl (P_indexAddrM (α:=Int) Tryz.underlying28 Tryz.sizeOf3 rfl n9 rfl tL) ?_
        refine L_ld (c:=.int .i64 (kH)) rfl rfl .plain (fun _ _ h=>⟨h.ch,fun b hb _=>h.below.block b hb⟩) jQ rfl ?_
        refine L_p (ePtr up0 l5 1) rfl rfl (P_indexAddrM (α:=Int) Tryz.underlying28 Tryz.sizeOf3 rfl n9 rfl uL) ?_
        refine L_nl fun kO uR hs=>?_
        have hlt:Lt jO.m qR kO uR:=hs.ch
        have hfr:=hfr.ext hs
        have n9:=n9.ext hs
        clear hs
        refine TL_do hlt.w .plain rfl (D_storeM (g:=kO) (α:=Int) (a':=zD) Tryz.sizeOf3 rfl n9 uL rfl (Zj.2 rfl) fun vR jV hs b808=>?_)
        have hfr:=hfr.stp hs
        have hlt:=hlt.stp hs
        obtain ⟨uQ,vL,h⟩:=bsome h
        refine TL_pur hlt.w (v:=ePtr up0 (w64 (l5 - (1:Int))) 1) (P_indexAddrM (α:=Int) Tryz.underlying28 Tryz.sizeOf3 rfl b808 rfl vL) .plain rfl ?_
        refine TL_do hlt.w .plain rfl (D_storeM (g:=vR) (α:=Int) (a':=kH) Tryz.sizeOf3 rfl b808 vL rfl (Zj.2 rfl) fun xR kV hs b810=>?_)
        have hfr:=hfr.stp hs
        have hlt:=hlt.stp hs
        refine TL_nil hlt.w ?_
        clear hlt
        refine blk_n ?_
        obtain rfl:=sinj h
        exact hQ _ _ ⟨xR,hfr,nB,b810,iM,dB⟩
       ·clear hx
        obtain ⟨yR,hfr,lO,mO,jM,kM⟩:=hR
        refine Za (Zo kM rfl ?_)
        refine EL_in (.int .i64 ((w64 (l5 - (1:Int))))) rfl rfl rfl rfl ?_
        refine Zg (.int .i64 ((w64 (l5 - (1:Int))))) rfl rfl ?_
        exact Zb (Zd (eQ (zB,(w64 (l5 - (1:Int)))) _ _ ⟨yR,hfr,lO,mO,jM,rfl⟩ h))
     ·clear hx
      obtain ⟨lV,hfr,jS,nO⟩:=hR
      refine E_ret (thn_r ?_)
      obtain rfl:=sinj h
      exact end0 rfl rfl ⟨_,hfr,rfl,yD.back nO⟩
   ·refine E_cf tH rfl ?_
    exact Zu (Zd (xP (r8) _ _ ⟨zN,hfr,sI,tI,uI,qC,vI,yI⟩ h))
  ·rintro m8 lT mV ⟨oO, hfr, kJ, lJ, uC, oB, vC, mJ⟩ h
   refine Zf (Za (Zo uC rfl ?_))
   refine Zo vC rfl ?_
   refine EL_in (.int .i64 ((w64 (x1 + x3)))) rfl rfl rfl rfl ?_
   refine EL_p (.int .u64 (wu64 (w64 (x1 + x3)))) (P_intu64 Tryz.underlying3 Tryz.underlying92 rfl) rfl ?_
   obtain ⟨u3,kQ,h⟩:=bsome h
   refine EL_p (.int .u64 (u3)) (P_shrU rfl rfl kQ) rfl ?_
   refine EL_p (.int .i64 ((w64 u3))) (P_u64int Tryz.underlying92 Tryz.underlying3 rfl) rfl ?_
   refine Zg (.int .i64 ((w64 u3))) rfl rfl ?_
   refine Zb (Zd (Zf (Za (Zn (.int .i64 ((w64 u3))) rfl rfl ?_))))
   refine Zo oB rfl ?_
   refine EL_in (.int .i64 ((w64 ((w64 u3) + x2)))) rfl rfl rfl rfl ?_
   refine Zg (.int .i64 ((w64 ((w64 u3) + x2)))) rfl rfl ?_
   refine Zb (Zd (Zf (Za (Zg (.int .i64 (0)) rfl rfl ?_))))
   refine Zg (.int .i64 (0)) rfl rfl ?_
   refine Zb (Zd ?_)
   obtain ⟨⟨cD,eD⟩,hx,h⟩:=bsome h
   refine E_join (fun e w=>∃ (g:Gh) ,FrM iI gI wI g w∧e 0=up0∧OM 1 g w 3 (m8:List Int) up0∧e 1=.int .i64 (x1)∧e 2=.int .i64 (x2)∧e 3=.int .i64 (x3)∧e 4=(.func (.func ff4) fa4 fc4)∧e 18=.int .i64 ((w64 u3))∧e 19=.int .i64 ((w64 ((w64 u3) + x2)))∧e 20=.int .i64 (cD)∧e 21=.int .i64 (eD)) (fun Q' hQ=>?_) (fun mT nV hR=>?_)
   ·replace h := hx
    clear hx
    refine Zf (Za (Zo oB rfl ?_))
    refine Zn (.int .i64 ((w64 u3))) rfl rfl ?_
    refine EL_in (.bool ((decide (x2 > (w64 u3))))) rfl rfl rfl rfl ?_
    refine Zb (Zd ?_)
    rcases Zt h with ⟨zH,h⟩ | ⟨zH,h⟩
    ·refine E_ct zH rfl ?_
     refine Zf (Za (Zn (.int .i64 ((w64 ((w64 u3) + x2)))) rfl rfl ?_))
     refine Zo vC rfl ?_
     refine EL_p (.int .i64 ((w64 ((w64 ((w64 u3) + x2)) - x3)))) (P_int rfl rfl rfl) rfl ?_
     refine EL_p (.int .i64 ((w64 ((w64 ((w64 u3) + x2)) - x3)))) (P_assign rfl) rfl ?_
     refine Zb (Zd (Za (Zn (.int .i64 ((w64 u3))) rfl rfl ?_)))
     refine Zg (.int .i64 ((w64 u3))) rfl rfl ?_
     refine Zb ?_
     obtain ⟨rfl,rfl⟩:=pairs2 h
     exact hQ _ _ ⟨oO,hfr,kJ,lJ,uC,oB,vC,mJ,rfl,rfl,rfl,rfl⟩
    ·refine E_cf zH rfl ?_
     refine Zf (Za (Zo uC rfl ?_))
     refine Zg (.int .i64 (x1)) rfl rfl ?_
     refine Zb (Zd (Za (Zo oB rfl ?_)))
     refine Zg (.int .i64 (x2)) rfl rfl ?_
     refine Zb ?_
     obtain ⟨rfl,rfl⟩:=pairs2 h
     exact hQ _ _ ⟨oO,hfr,kJ,lJ,uC,oB,vC,mJ,rfl,rfl,rfl,rfl⟩
   ·clear hx
    obtain ⟨zR,hfr,pO,qO,rO,sO,tO,uO,mM,hG,nM,oM⟩:=hR
    refine Zf (Za (Zo hG rfl ?_))
    refine EL_p (.int .i64 ((w64 ((w64 ((w64 u3) + x2)) - (1:Int))))) (P_int rfl rfl rfl) rfl ?_
    refine EL_p (.int .i64 ((w64 ((w64 ((w64 u3) + x2)) - (1:Int))))) (P_assign rfl) rfl ?_
    refine Zb (Zd ?_)
    obtain ⟨o0,hx,h⟩:=bsome h
    refine E_join (fun e w=>∃ (g:Gh) ,FrM iI gI wI g w∧e 0=up0∧OM 1 g w 3 (m8:List Int) up0∧e 1=.int .i64 (x1)∧e 2=.int .i64 (x2)∧e 3=.int .i64 (x3)∧e 4=(.func (.func ff4) fa4 fc4)∧e 18=.int .i64 ((w64 u3))∧e 19=.int .i64 ((w64 ((w64 u3) + x2)))∧e 20=.int .i64 (o0)) (fun Q' hQ=>?_) (fun nT oV hR=>?_)
    ·replace h := hx
     clear hx
     refine Zr ?_
     refine E_lp h (fun (s:Int × Int) e w=>∃ (g:Gh) ,FrM iI gI wI g w∧e 0=up0∧OM 1 g w 3 (m8:List Int) up0∧e 1=.int .i64 (x1)∧e 2=.int .i64 (x2)∧e 3=.int .i64 (x3)∧e 4=(.func (.func ff4) fa4 fc4)∧e 18=.int .i64 ((w64 u3))∧e 19=.int .i64 ((w64 ((w64 u3) + x2)))∧e 20=.int .i64 (s.1)∧e 21=.int .i64 (s.2)∧e 22=.int .i64 ((w64 ((w64 ((w64 u3) + x2)) - (1:Int))))) ⟨zR,hfr,pO,qO,rO,sO,tO,uO,mM,hG,nM,oM,rfl⟩ (fun X864 aL xL=>?_)
     rintro ⟨i6,i7⟩ oT pV ⟨vO,hfr,nJ,oJ,pJ,qJ,rJ,sJ,iG,jG,nD,kG,pM⟩ h
     refine Zq h (fun (s:Unit) e w=>∃ (g:Gh) ,FrM iI gI wI g w∧e 0=up0∧OM 1 g w 3 (m8:List Int) up0∧e 1=.int .i64 (x1)∧e 2=.int .i64 (x2)∧e 3=.int .i64 (x3)∧e 4=(.func (.func ff4) fa4 fc4)∧e 18=.int .i64 ((w64 u3))∧e 19=.int .i64 ((w64 ((w64 u3) + x2)))∧e 20=.int .i64 (i6)∧e 21=.int .i64 (i7)∧e 22=.int .i64 ((w64 ((w64 ((w64 u3) + x2)) - (1:Int))))) (fun X867 uM lQ h=>?_) ?_
     ·refine Zf (Za (Zo nD rfl ?_))
      refine Zo kG rfl ?_
      refine EL_in (.bool ((decide (i6 < i7)))) rfl rfl rfl rfl ?_
      refine Zb (Zd ?_)
      rcases Zt h with ⟨aI,h⟩ | ⟨aI,h⟩
      ·refine E_ct aI rfl ?_
       exact Zu (Zd (lQ () _ _ ⟨vO,hfr,nJ,oJ,pJ,qJ,rJ,sJ,iG,jG,nD,kG,pM⟩ h))
      ·refine E_cf aI rfl ?_
       refine E_exit ?_
       refine thn_e ?_
       refine thn_e ?_
       refine blk_hit ?_
       obtain rfl:=sinj h
       exact hQ _ _ ⟨vO,hfr,nJ,oJ,pJ,qJ,rJ,sJ,iG,jG,nD⟩
     ·rintro _ pT qV ⟨aS, hfr, aD, u9, vJ, xJ, yJ, vE, lG, mG, sG, xG, oD⟩ h
      refine Zr ?_
      refine Zf (Za (Zo sG rfl ?_))
      refine Zo xG rfl ?_
      refine EL_in (.int .i64 ((w64 (i6 + i7)))) rfl rfl rfl rfl ?_
      refine EL_p (.int .u64 (wu64 (w64 (i6 + i7)))) (P_intu64 Tryz.underlying3 Tryz.underlying92 rfl) rfl ?_
      obtain ⟨x5,mQ,h⟩:=bsome h
      refine EL_p (.int .u64 (x5)) (P_shrU rfl rfl mQ) rfl ?_
      refine EL_p (.int .i64 ((w64 x5))) (P_u64int Tryz.underlying92 Tryz.underlying3 rfl) rfl ?_
      refine Zg (.int .i64 ((w64 x5))) rfl rfl ?_
      refine Zb (Zd (Zf ?_))
      obtain ⟨dH,yL,h⟩:=bsome h
      refine L_loadM (x:=.tmp 163) Tryz.isAgg3 Tryz.sizeOf3 u9 yL fun rV bS nQ=>?_
      obtain rfl:=Zj.1 bS
      obtain ⟨gH,zL,h⟩:=bsome h
      refine L_loadM (x:=.tmp 167) Tryz.isAgg3 Tryz.sizeOf3 u9 zL fun sV cS oQ=>?_
      obtain rfl:=Zj.1 cS
      obtain ⟨gD,pQ,h⟩:=bsome h
      refine E_drawL (g:=aS) (n:=14) [(11,(fun v g w=>v=.int .i64 (gD)))] [0,1,2,3,4,5,6,7,8,9,10,11,12,13] rfl mixed (by kernel_rfl) (⟨fun _=>up_eq _,trivial⟩) ?_
      refine L_p ((.func (.func ff4) fa4 fc4)) rfl rfl (Zk vE) ?_
      refine L_p up0 rfl rfl (Zk aD) ?_
      refine L_p (.int .i64 ((w64 ((w64 ((w64 u3) + x2)) - (1:Int))))) rfl rfl (Zk oD) ?_
      refine L_p (.int .i64 ((w64 x5))) rfl rfl (Zk rfl) ?_
      refine L_p (.int .i64 ((w64 ((w64 ((w64 ((w64 u3) + x2)) - (1:Int))) - (w64 x5))))) rfl rfl (P_int rfl rfl rfl) ?_
      refine L_p (ePtr up0 (w64 ((w64 ((w64 ((w64 u3) + x2)) - (1:Int))) - (w64 x5))) 1) rfl rfl (P_indexAddrM (α:=Int) Tryz.underlying28 Tryz.sizeOf3 rfl u9 rfl yL) ?_
      refine L_ld (c:=.int .i64 (dH)) rfl rfl .plain (fun _ _ h=>⟨h.ch,fun b hb _=>h.below.block b hb⟩) nQ rfl ?_
      refine L_p up0 rfl rfl (Zk aD) ?_
      refine L_p (.int .i64 ((w64 x5))) rfl rfl (Zk rfl) ?_
      refine L_p (ePtr up0 (w64 x5) 1) rfl rfl (P_indexAddrM (α:=Int) Tryz.underlying28 Tryz.sizeOf3 rfl u9 rfl zL) ?_
      refine L_ld (c:=.int .i64 (gH)) rfl rfl .plain (fun _ _ h=>⟨h.ch,fun b hb _=>h.below.block b hb⟩) oQ rfl ?_
      refine L_do (φ:=fun v g w=>v=.int .i64 (gD)) rfl rfl .plain (fun g w hd=>D_callv (g:=g) (vs:=[.int .i64 (dH),.int .i64 (gH)]) rfl fen4 (.cons rfl (.cons rfl .nil)) (fcl4 _ _ (hfr.ext hd.1).ch _ _ _ _ _  (Zj.2 rfl) (Zj.2 rfl) pQ) fun g' w' v hs hr=>⟨g',hs,Zj.1 hr⟩) (fun tV hv=>?_)
      obtain ⟨_,_,_,rfl⟩:=hv
      refine L_p (.bool ((decide (gD < (0:Int))))) rfl rfl (P_int rfl rfl rfl) ?_
      refine L_p (.bool (!(decide (gD < (0:Int))))) rfl rfl (P_not rfl) ?_
      refine L_nl fun xO uV hs=>?_
      have hfr:=hfr.ext hs
      have u9:=u9.ext hs
      clear hs
      refine Zb (Zd ?_)
      rcases Zt h with ⟨bI,h⟩ | ⟨bI,h⟩
      ·refine E_ct bI rfl ?_
       refine Za (Zn (.int .i64 ((w64 x5))) rfl rfl ?_)
       refine EL_in (.int .i64 ((w64 ((w64 x5) + (1:Int))))) rfl rfl rfl rfl ?_
       refine Zg (.int .i64 ((w64 ((w64 x5) + (1:Int))))) rfl rfl ?_
       exact Zb (blk_n (Zd (xL ((w64 ((w64 x5) + (1:Int))),i7) _ _ ⟨xO,hfr,aD,u9,vJ,xJ,yJ,vE,lG,mG,rfl,xG,oD⟩ h)))
      ·refine E_cf bI rfl ?_
       refine Za (Zn (.int .i64 ((w64 x5))) rfl rfl ?_)
       refine Zg (.int .i64 ((w64 x5))) rfl rfl ?_
       exact Zb (blk_n (Zd (xL (i6,(w64 x5)) _ _ ⟨xO,hfr,aD,u9,vJ,xJ,yJ,vE,lG,mG,sG,rfl,oD⟩ h)))
    ·clear hx
     obtain ⟨yO,hfr,zJ,aK,bK,bD,cK,dK,yG,qM,tB⟩:=hR
     refine Zf (Za (Zo qM rfl ?_))
     refine Zo tB rfl ?_
     refine EL_p (.int .i64 ((w64 ((w64 ((w64 u3) + x2)) - o0)))) (P_int rfl rfl rfl) rfl ?_
     refine EL_p (.int .i64 ((w64 ((w64 ((w64 u3) + x2)) - o0)))) (P_assign rfl) rfl ?_
     refine Zb (Zd ?_)
     obtain ⟨iB,hx,h⟩:=bsome h
     refine E_join (fun e w=>∃ (g:Gh) ,FrM iI gI wI g w∧e 0=up0∧OM 1 g w 3 (iB:List Int) up0∧e 1=.int .i64 (x1)∧e 3=.int .i64 (x3)∧e 4=(.func (.func ff4) fa4 fc4)∧e 18=.int .i64 ((w64 u3))∧e 20=.int .i64 (o0)∧e 24=.int .i64 ((w64 ((w64 ((w64 u3) + x2)) - o0)))) (fun Q' hQ=>?_) (fun sT vV hR=>?_)
     ·replace h := hx
      clear hx
      obtain ⟨iA,hx,h⟩:=bsome h
      refine E_join (fun e w=>∃ (g:Gh) ,FrM iI gI wI g w∧e 0=up0∧OM 1 g w 3 (m8:List Int) up0∧e 1=.int .i64 (x1)∧e 2=.int .i64 (x2)∧e 3=.int .i64 (x3)∧e 4=(.func (.func ff4) fa4 fc4)∧e 18=.int .i64 ((w64 u3))∧e 20=.int .i64 (o0)∧e 24=.int .i64 ((w64 ((w64 ((w64 u3) + x2)) - o0)))∧e 185=.bool (iA)) (fun Q' hQ=>?_) (fun tT xV hR=>?_)
      ·replace h := hx
       clear hx
       refine Za (Zo tB rfl ?_)
       refine Zo bD rfl ?_
       refine EL_in (.bool ((decide (o0 < x2)))) rfl rfl rfl rfl ?_
       refine Zn (.bool ((decide (o0 < x2)))) rfl rfl ?_
       rcases Zt h with ⟨y9,h⟩ | ⟨y9,h⟩
       ·refine EL_y (.int .i64 (x2)) (Zk bD) rfl rfl y9 rfl ?_
        refine EL_y (.int .i64 ((w64 ((w64 ((w64 u3) + x2)) - o0)))) (Zk rfl) rfl rfl y9 rfl ?_
        refine EL_y (.bool ((decide (x2 < (w64 ((w64 ((w64 u3) + x2)) - o0)))))) (P_int rfl rfl rfl) rfl rfl y9 rfl ?_
        refine EL_p (.bool ((decide (x2 < (w64 ((w64 ((w64 u3) + x2)) - o0)))))) (Zl (b:=(decide (o0 < x2))) rfl (pick_t y9 rfl)) rfl ?_
        refine Zb ?_
        obtain rfl:=sinj h
        exact hQ _ _ ⟨yO,hfr,zJ,aK,bK,bD,cK,dK,yG,tB,rfl,rfl⟩
       ·refine EL_s rfl rfl y9 rfl rfl ?_
        refine EL_s rfl rfl y9 rfl rfl ?_
        refine EL_s rfl rfl y9 rfl rfl ?_
        refine EL_p (.bool false) (Zl (b:=(decide (o0 < x2))) rfl (pick_f y9 rfl)) rfl ?_
        refine Zb ?_
        obtain rfl:=sinj h
        exact hQ _ _ ⟨yO,hfr,zJ,aK,bK,bD,cK,dK,yG,tB,rfl,rfl⟩
      ·clear hx
       obtain ⟨zO,hfr,xE,lK,mK,aP,nK,yE,zG,sD,tD,zE⟩:=hR
       rcases Zt h with ⟨dI,h⟩ | ⟨dI,h⟩
       ·refine E_cond_true (Eq.trans (show ev _ _ = .bool (iA) from zE) (congrArg Value.bool dI)) ?_
        refine Za (Zo xE rfl ?_)
        refine Zo sD rfl ?_
        refine Zo aP rfl ?_
        refine EL_p (.int .i64 ((w64 ((w64 ((w64 u3) + x2)) - o0)))) (Zk tD) rfl ?_
        refine Zo yE rfl ?_
        obtain ⟨vM,qQ,h⟩:=bsome h
        refine Ze .plain rfl (D_callM (g:=zO) (i:=1) (vs:=[up0,.int .i64 (o0),.int .i64 (x2),.int .i64 ((w64 ((w64 ((w64 u3) + x2)) - o0))),(.func (.func ff4) fa4 fc4)]) en169 (.cons rfl (.cons rfl (.cons rfl (.cons rfl (.cons rfl .nil))))) (wk169 lK (FnV2.ch ⟨_,_,_,rfl,fen4,fcl4⟩ hfr.ch) qQ) fun dS uT yV hs hr=>?_)
        obtain ⟨hrv,b921⟩:=hr
        have hfr:=hfr.stp hs
        subst hrv
        refine Zb ?_
        obtain rfl:=sinj h
        exact hQ _ _ ⟨dS,hfr,xE,b921,mK,nK,yE,zG,sD,tD⟩
       ·refine E_cond_false (Eq.trans (show ev _ _ = .bool (iA) from zE) (congrArg Value.bool dI)) ?_
        refine Zu ?_
        obtain rfl:=sinj h
        exact hQ _ _ ⟨zO,hfr,xE,lK,mK,nK,yE,zG,sD,tD⟩
     ·clear hx
      obtain ⟨bP,hfr,oK,pK,cF,qK,sK,uD,vB,aH⟩:=hR
      obtain ⟨lB,hx,h⟩:=bsome h
      refine E_join (fun e w=>∃ (g:Gh) ,FrM iI gI wI g w∧e 0=up0∧OM 1 g w 3 (lB:List Int) up0∧e 3=.int .i64 (x3)∧e 4=(.func (.func ff4) fa4 fc4)∧e 18=.int .i64 ((w64 u3))∧e 24=.int .i64 ((w64 ((w64 ((w64 u3) + x2)) - o0)))) (fun Q' hQ=>?_) (fun xT zV hR=>?_)
      ·replace h := hx
       clear hx
       obtain ⟨rA,hx,h⟩:=bsome h
       refine E_join (fun e w=>∃ (g:Gh) ,FrM iI gI wI g w∧e 0=up0∧OM 1 g w 3 (iB:List Int) up0∧e 1=.int .i64 (x1)∧e 3=.int .i64 (x3)∧e 4=(.func (.func ff4) fa4 fc4)∧e 18=.int .i64 ((w64 u3))∧e 20=.int .i64 (o0)∧e 24=.int .i64 ((w64 ((w64 ((w64 u3) + x2)) - o0)))∧e 199=.bool (rA)) (fun Q' hQ=>?_) (fun yT aW hR=>?_)
       ·replace h := hx
        clear hx
        refine Za (Zo cF rfl ?_)
        refine Zo vB rfl ?_
        refine EL_in (.bool ((decide (x1 < o0)))) rfl rfl rfl rfl ?_
        refine Zn (.bool ((decide (x1 < o0)))) rfl rfl ?_
        rcases Zt h with ⟨z9,h⟩ | ⟨z9,h⟩
        ·refine EL_y (.int .i64 (o0)) (Zk vB) rfl rfl z9 rfl ?_
         refine EL_y (.int .i64 ((w64 u3))) (Zk uD) rfl rfl z9 rfl ?_
         refine EL_y (.bool ((decide (o0 < (w64 u3))))) (P_int rfl rfl rfl) rfl rfl z9 rfl ?_
         refine EL_p (.bool ((decide (o0 < (w64 u3))))) (Zl (b:=(decide (x1 < o0))) rfl (pick_t z9 rfl)) rfl ?_
         refine Zb ?_
         obtain rfl:=sinj h
         exact hQ _ _ ⟨bP,hfr,oK,pK,cF,qK,sK,uD,vB,aH,rfl⟩
        ·refine EL_s rfl rfl z9 rfl rfl ?_
         refine EL_s rfl rfl z9 rfl rfl ?_
         refine EL_s rfl rfl z9 rfl rfl ?_
         refine EL_p (.bool false) (Zl (b:=(decide (x1 < o0))) rfl (pick_f z9 rfl)) rfl ?_
         refine Zb ?_
         obtain rfl:=sinj h
         exact hQ _ _ ⟨bP,hfr,oK,pK,cF,qK,sK,uD,vB,aH,rfl⟩
       ·clear hx
        obtain ⟨cP,hfr,dF,tK,dP,uK,eF,vD,rM,cH,rF⟩:=hR
        rcases Zt h with ⟨jI,h⟩ | ⟨jI,h⟩
        ·refine E_cond_true (Eq.trans (show ev _ _ = .bool (rA) from rF) (congrArg Value.bool jI)) ?_
         refine Za (Zo dF rfl ?_)
         refine Zo dP rfl ?_
         refine Zo rM rfl ?_
         refine Zo vD rfl ?_
         refine Zo eF rfl ?_
         obtain ⟨xM,rQ,h⟩:=bsome h
         refine Ze .plain rfl (D_callM (g:=cP) (i:=1) (vs:=[up0,.int .i64 (x1),.int .i64 (o0),.int .i64 ((w64 u3)),(.func (.func ff4) fa4 fc4)]) en147 (.cons rfl (.cons rfl (.cons rfl (.cons rfl (.cons rfl .nil))))) (ih tK (FnV2.ch ⟨_,_,_,rfl,fen4,fcl4⟩ hfr.ch) rQ) fun eS zT bW hs hr=>?_)
         obtain ⟨hrv,b934⟩:=hr
         have hfr:=hfr.stp hs
         subst hrv
         refine Zb ?_
         obtain rfl:=sinj h
         exact hQ _ _ ⟨eS,hfr,dF,b934,uK,eF,vD,cH⟩
        ·refine E_cond_false (Eq.trans (show ev _ _ = .bool (rA) from rF) (congrArg Value.bool jI)) ?_
         refine Zu ?_
         obtain rfl:=sinj h
         exact hQ _ _ ⟨cP,hfr,dF,tK,uK,eF,vD,cH⟩
      ·clear hx
       obtain ⟨eP,hfr,vK,xK,sF,yK,xD,yB⟩:=hR
       obtain ⟨yA,hx,h⟩:=bsome h
       refine E_join (fun e w=>∃ (g:Gh) ,FrM iI gI wI g w∧e 0=up0∧OM 1 g w 3 (lB:List Int) up0∧e 3=.int .i64 (x3)∧e 4=(.func (.func ff4) fa4 fc4)∧e 18=.int .i64 ((w64 u3))∧e 24=.int .i64 ((w64 ((w64 ((w64 u3) + x2)) - o0)))∧e 213=.bool (yA)) (fun Q' hQ=>?_) (fun aU cW hR=>?_)
       ·replace h := hx
        clear hx
        refine Za (Zo xD rfl ?_)
        refine EL_p (.int .i64 ((w64 ((w64 ((w64 u3) + x2)) - o0)))) (Zk yB) rfl ?_
        refine EL_p (.bool ((decide ((w64 u3) < (w64 ((w64 ((w64 u3) + x2)) - o0)))))) (P_int rfl rfl rfl) rfl ?_
        refine EL_p (.bool ((decide ((w64 u3) < (w64 ((w64 ((w64 u3) + x2)) - o0)))))) (Zk rfl) rfl ?_
        rcases Zt h with ⟨bA,h⟩ | ⟨bA,h⟩
        ·refine EL_y (.int .i64 ((w64 ((w64 ((w64 u3) + x2)) - o0)))) (Zk yB) rfl rfl bA rfl ?_
         refine EL_y (.int .i64 (x3)) (Zk sF) rfl rfl bA rfl ?_
         refine EL_y (.bool ((decide ((w64 ((w64 ((w64 u3) + x2)) - o0)) < x3)))) (P_int rfl rfl rfl) rfl rfl bA rfl ?_
         refine EL_p (.bool ((decide ((w64 ((w64 ((w64 u3) + x2)) - o0)) < x3)))) (Zl (b:=(decide ((w64 u3) < (w64 ((w64 ((w64 u3) + x2)) - o0))))) rfl (pick_t bA rfl)) rfl ?_
         refine Zb ?_
         obtain rfl:=sinj h
         exact hQ _ _ ⟨eP,hfr,vK,xK,sF,yK,xD,yB,rfl⟩
        ·refine EL_s rfl rfl bA rfl rfl ?_
         refine EL_s rfl rfl bA rfl rfl ?_
         refine EL_s rfl rfl bA rfl rfl ?_
         refine EL_p (.bool false) (Zl (b:=(decide ((w64 u3) < (w64 ((w64 ((w64 u3) + x2)) - o0))))) rfl (pick_f bA rfl)) rfl ?_
         refine Zb ?_
         obtain rfl:=sinj h
         exact hQ _ _ ⟨eP,hfr,vK,xK,sF,yK,xD,yB,rfl⟩
       ·clear hx
        obtain ⟨gS,hfr,gP,zK,iP,jP,sM,tM,tF⟩:=hR
        rcases Zt h with ⟨kI,h⟩ | ⟨kI,h⟩
        ·refine E_cond_true (Eq.trans (show ev _ _ = .bool (yA) from tF) (congrArg Value.bool kI)) ?_
         refine Za (Zo gP rfl ?_)
         refine Zo sM rfl ?_
         refine EL_p (.int .i64 ((w64 ((w64 ((w64 u3) + x2)) - o0)))) (Zk tM) rfl ?_
         refine Zo iP rfl ?_
         refine Zo jP rfl ?_
         obtain ⟨bN,sQ,h⟩:=bsome h
         refine Ze .plain rfl (D_callM (g:=gS) (i:=1) (vs:=[up0,.int .i64 ((w64 u3)),.int .i64 ((w64 ((w64 ((w64 u3) + x2)) - o0))),.int .i64 (x3),(.func (.func ff4) fa4 fc4)]) en147 (.cons rfl (.cons rfl (.cons rfl (.cons rfl (.cons rfl .nil))))) (ih zK (FnV2.ch ⟨_,_,_,rfl,fen4,fcl4⟩ hfr.ch) sQ) fun dW bU eW hs hr=>?_)
         obtain ⟨hrv,b941⟩:=hr
         have hfr:=hfr.stp hs
         subst hrv
         refine Zb ?_
         obtain rfl:=sinj h
         exact end0n rfl rfl ⟨_,hfr,rfl,yD.back b941⟩
        ·refine E_cond_false (Eq.trans (show ev _ _ = .bool (yA) from tF) (congrArg Value.bool kI)) ?_
         refine Zu ?_
         obtain rfl:=sinj h
         exact end0n rfl rfl ⟨_,hfr,rfl,yD.back zK⟩
def f47 (x0:LoomLoomMill) (x1:List Int) (x2:List (Int × LoomRun)):Option ((List Bool)):=
 (shl64 (1:Int) (((x0).orders).length:Int)).bind fun y4=>
 (mks 1 (false:Bool) y4).bind fun y5=>
 (idx y5 (0:Int)).bind fun dN=>
 Option.bind (α:=(List Bool)) (
  lp (σ:=(List Bool) × Int) (fun xH (n9,m8)=>
   bif (decide (m8 < ((x1).length : Int))) then
    Option.bind (α:=(List Bool)) (
     (idx x1 m8).bind fun eD=>
     (f92 x0 eD x2).bind fun r8=>
     (mks 1 (false:Bool) (((n9).length:Int))).bind fun iB=>
     Option.bind (α:=(List Bool)) (
      lp (σ:=(List Bool) × Int) (fun yH (cC,o0)=>
       bif (decide (o0 < ((iB).length : Int))) then
        Option.bind (α:=(List Bool)) (
         (f93 o0).bind fun uF=>
         (uF ((List Bool)) (fun x8 n8=>
          (idx x8 o0).bind fun aB=>
          bif aB then
           (idx x8 o0).bind fun xK=>
           some (true,((List.set x8 (Int.toNat o0) true)))
          else
           (idx r8 n8).bind fun oB=>
           bif oB then
            (idx n9 (bit64 .andNot o0 n8)).bind fun rC=>
            (idx x8 o0).bind fun yK=>
            some (true,((List.set x8 (Int.toNat o0) rC)))
           else
            (idx x8 o0).bind fun zK=>
            some (true,((List.set x8 (Int.toNat o0) false)))
          ) (cC)).bind fun vD=>
         some (vD)
         ) fun mC=>
        yH (mC,(w64 (o0 + (1:Int))))
       else
        some (cC)
       ) big (iB,(0:Int))
      ) fun vC=>
     some (vC)
     ) fun uC=>
    xH (uC,(w64 (m8 + (1:Int))))
   else
    some (n9)
   ) big ((List.set y5 (Int.toNat (0:Int)) true),(0:Int))
  ) fun iD=>
 some (iD)
theorem en47:Enters Tryz.prog 47:=enters_of Tryz.func47 (by kernel_rfl) rfl
theorem wk47 {gI:Gh} {wI:World} {x0:LoomLoomMill} {x1:List Int} {x2:List (Int × LoomRun)} {up0:Value} (rp0:RV gI.m wI x0 up0) {up1:Value} (rp1:RV gI.m wI x1 up1) {up2:Value} (mq2:MR (Value.int .i64) gI wI x2 up2) {r:(List Bool)} (h:f47 x0 x1 x2=some r):Fn Tryz.prog 47 #[up0,up1,up2] gI wI (fun m w v=>RV m w (r) v):=by
 unfold f47 at h
 refine fnD_of_E Tryz.func47 rfl (Nat.le_of_ble_eq_true rfl) fun g0 hm hfr=>?_
 have hmk:MkF g0 wI []:=MkF.start
 have rp0:RV g0.m wI x0 up0:=hm ▸ rp0
 have rp1:RV g0.m wI x1 up1:=hm ▸ rp1
 have mq2:=MQ.enter mq2 hm hfr
 show E _ 67 none _ _ _ _ _
 refine Zf (Za (Ze .plain rfl (D_box (g:=g0) rfl rp0 fun g1 w1 p1 hs q1=>?_)))
 have hfr:=hfr.ext hs
 have hmk:=hmk.ext hs
 have rp1:=rp1.ext hs
 have mq2:=mq2.ext hs
 refine Zg (.slice none 0 0) rfl rfl ?_
 refine Zb (Zd (Zf (Za (EL_p (fPtr p1 2) (Zc at_134_1 rfl (PT.ptr q1)) rfl ?_))))
 have q2:=Zm (part_LoomLoomMill_1).1 q1
 refine Ze .plain rfl (D_load (g:=g1) Tryz.isAgg31 Tryz.sizeOf31 rfl q2 fun v3 r3=>?_)
 refine EL_p (.int .i64 (((x0).orders).length:Int)) (P_len Tryz.underlying31 rfl r3) rfl ?_
 obtain ⟨y4,eN,h⟩:=bsome h
 refine EL_p (.int .i64 (y4)) (P_int rfl rfl (congrArg (Option.map (Value.int .i64)) eN)) rfl ?_
 obtain ⟨y5,hy5,h⟩:=bsome h
 refine Ze .plain rfl (D_makeSliceM (g:=g1) 9018 (false:Bool) rfl Tryz.underlying137 info_4 rfl (fun _ _=>rfl) rfl rfl hy5 fun g6 w6 v6 hs b6=>?_)
 have hfr:=hfr.stp hs
 have hmk:=hmk.stp hs
 have rp1:=rp1.stp hs
 have mq2:=mq2.stp hs
 have q1:=q1.stp hs
 refine Ze .plain rfl (D_allocOc (g:=g6) 2007 (⟨.slice none 0 0,rfl⟩:Fv) Tryz.zeroValue137 (fun _ _=>fv0_rep) fun g7 w7 p7 hs b7 cb=>?_)
 clear cb
 have hfr:=hfr.stp hs
 have hmk:=hmk.stp hs
 have rp1:=rp1.stp hs
 have mq2:=mq2.stp hs
 have q1:=q1.stp hs
 have b6:=b6.stp hs rfl
 have z7:OA 4007 g7 w7 4 ([]:List Bool) (.slice none 0 0):=OA.nil
 have on8:=om_one b6
 refine Ze .plain rfl (D_storeOc (g:=g7) (v:=v6) (a':=(⟨v6,on8⟩:Fv)) Tryz.sizeOf137 rfl b7 rfl (RV_fv.2 rfl) fun g8 w8 hs b8 cb=>?_)
 clear cb
 have hfr:=hfr.stp hs
 have hmk:=hmk.stp hs
 have rp1:=rp1.stp hs
 have mq2:=mq2.stp hs
 have q1:=q1.stp hs
 have b6:=b6.stp hs rfl
 refine Zb (Zd (Zf (Za (Ze .plain rfl (D_loadO (α:=Fv) (g:=g8) Tryz.isAgg137 Tryz.sizeOf137 rfl b8 fun v9 r9=>?_)))))
 have e9:v9=v6:=RV_fv.1 r9
 clear r9
 subst v9
 obtain ⟨dN,dK,h⟩:=bsome h
 refine EL_p (ePtr v6 (0:Int) 1) (P_indexAddrM (α:=Bool) Tryz.underlying137 Tryz.sizeOf4 rfl b6 rfl dK) rfl ?_
 refine Ze .plain rfl (D_storeM (g:=g8) (α:=Bool) (a':=true) Tryz.sizeOf4 rfl b6 dK rfl (RV_bool.2 rfl) fun aP bP hs b11=>?_)
 have hfr:=hfr.stp hs
 have hmk:=hmk.stp hs
 have rp1:=rp1.stp hs
 have mq2:=mq2.stp hs
 have q1:=q1.stp hs
 have b8:=b8.stp hs rfl
 refine Zb (Zd ?_)
 obtain ⟨iD,hx,h⟩:=bsome h
 refine E_joinD (fun e ds w=>∃ (g:Gh) ,Fr gI wI g w∧MkF g w ds∧e 7=p7∧OB 2007 g w 137 (iD:List Bool) p7) (fun Q' hQ=>?_) (fun gN sM pN hR=>?_)
 ·replace h := hx
  clear hx
  refine Zf (Za (Zn up1 rfl rfl ?_))
  refine EL_p (.int .i64 ((x1).length:Int)) (P_len Tryz.underlying28 rfl rp1) rfl ?_
  refine Zn (.int .i64 (0)) rfl rfl ?_
  refine Zb (Zd (Zr ?_))
  obtain ⟨gp2346,hs,rp2346⟩:=OM.pub b11
  have hfr:=hfr.stp hs
  have hmk:=hmk.stp hs
  have rp1:=rp1.stp hs
  have mq2:=mq2.stp hs
  have q1:=q1.stp hs
  have b8:=b8.stp hs rfl
  have ub2346:=OB.ofRV b8 rp2346
  refine E_lpD h (fun (s:(List Bool) × Int) e ds w=>∃ (g:Gh) ,Fr gI wI g w∧MkF g w ds∧e 2=up2∧MQ (Value.int .i64) wI.heap.size g w (x2:List (Int × LoomRun)) up2∧e 3=p1∧PT g.m w (x0:LoomLoomMill) p1∧e 7=p7∧OB 2007 g w 137 (s.1:List Bool) p7∧e 21=up1∧RV g.m w (x1:List Int) up1∧e 22=.int .i64 (((x1).length:Int))∧e 23=.int .i64 (s.2)) ⟨gp2346,hfr,hmk,rfl,mq2,rfl,q1,rfl,ub2346,rfl,rp1,rfl,rfl⟩ (fun X2347 xH lK=>?_)
  rintro ⟨n9,m8⟩ iN tM zH ⟨oD,hfr,hmk,cF,lB,dF,mB,jD,dB,xD,y9,yD,aD⟩ h
  refine Zf (Za (EL_in (.bool ((decide (m8 < ((x1).length:Int))))) aD yD rfl rfl ?_))
  refine Zb (Zd (Zf ?_))
  rcases Zt h with ⟨zD,h⟩ | ⟨zD,h⟩
  ·refine E_ct zD rfl ?_
   refine Zu (Zd ?_)
   obtain ⟨uC,hx,h⟩:=bsome h
   refine E_joinD (fun e ds w=>∃ (g:Gh) ,Fr gI wI g w∧MkF g w ds∧e 2=up2∧MQ (Value.int .i64) wI.heap.size g w (x2:List (Int × LoomRun)) up2∧e 3=p1∧PT g.m w (x0:LoomLoomMill) p1∧e 7=p7∧OB 2007 g w 137 (uC:List Bool) p7∧e 21=up1∧RV g.m w (x1:List Int) up1∧e 22=.int .i64 (((x1).length:Int))∧e 23=.int .i64 (m8)) (fun Q' hQ=>?_) (fun jN uM qN hR=>?_)
   ·replace h := hx
    clear hx
    refine Zr ?_
    refine Zf (Za ?_)
    obtain ⟨eD,yF,h⟩:=bsome h
    refine EL_p (ePtr up1 m8 1) (Zh (α:=Int) Tryz.underlying28 Tryz.sizeOf3 xD y9 aD yF) rfl ?_
    have aL:=PT_idx y9 yF
    refine Ze .plain rfl (D_load (g:=oD) Tryz.isAgg3 Tryz.sizeOf3 rfl aL fun rN bL=>?_)
    obtain rfl:=Zj.1 bL
    refine Zg (.int .i64 (eD)) rfl rfl ?_
    refine Zb (Zd (Zf (Zs (x:=.tmp 3) Tryz.isAgg134 Tryz.sizeOf134 mB fun aI dL mK=>?_)))
    obtain ⟨r8,nK,h⟩:=bsome h
    refine L_loadO0 (x:=.tmp 7) Tryz.isAgg137 Tryz.sizeOf137 dB fun eL gL oK=>?_
    obtain ⟨iB,pK,h⟩:=bsome h
    have z3524:OA 4011 oD zH 4 ([]:List Bool) (.slice none 0 0):=OA.nil
    refine E_drawV (g:=oD) (w:=zH) (i:=2010) (t2:=137) (a0:=([]:List Bool)) (a1:=(r8:List Bool)) (n:=10) [(3,(fun _ v g w=>RV g.m w r8 v)),(6,(fun _ v g w=>OM 9033 g w 4 iB v)),(7,(fun _ v=>varA 2010 137 ([]:List Bool) (r8:List Bool) v)),(8,(fun _ v g w=>OB 2011 g w 137 (⟨.slice none 0 0,rfl⟩:Fv) v)),(9,(fun e _ g w=>OB 2010 g w 137 (r8:List Bool) (ev e (.tmp 10))))] [0,1,2,3,4,5,6,7,8,9] rfl mixed (by kernel_rfl) (⟨fun _ _=>upV_rv,fun _ _=>upV_om,fun _ _=>up_var0,fun _ _=>upV_ob,fun _ _=>up_var1,trivial⟩) (⟨fun _ _ _ _ _ _=>rfl,fun _ _ _ _ _ _=>rfl,fun _ _ _ _ _ _=>rfl,fun _ _ _ _ _ _=>rfl,wok_store (A:=fun p g w=>OB 2010 g w 137 (r8:List Bool) p) rfl,trivial⟩) ?_
    refine L_ld (c:=aI) rfl rfl .plain (fun _ _ h=>h.ch) mK dF ?_
    refine L_p (.int .i64 (eD)) rfl rfl (Zk rfl) ?_
    refine L_p up2 rfl rfl (Zk cF) ?_
    refine L_do (φ:=fun v g w=>RV g.m w r8 v) rfl rfl .plain (fun g w hd=>Zp (g:=g) (vs:=[aI,.int .i64 (eD),up2]) en92 (.cons rfl (.cons rfl (.cons rfl .nil))) (wk92 (dL.stp hd.1) (lB.stp hd.1).r nK) fun g' w' v hs hr=>⟨g',var_ext hs,hr⟩) (fun bI hv=>?_)
    obtain ⟨_,_,_,rq3518⟩:=hv
    refine L_ld (c:=eL) rfl rfl .plain (fun _ _ h=>⟨h.ch,fun b hb ho=>h.block b hb (by rw [ho]; decide)⟩) oK jD ?_
    refine L_p (.int .i64 ((n9).length:Int)) rfl rfl (P_len Tryz.underlying137 rfl gL) ?_
    refine L_do (φ:=fun v g w=>OM 9033 g w 4 iB v) rfl rfl .plain (fun g w hd=>D_makeSliceX (g:=g) 9033 (false:Bool) rfl Tryz.underlying137 info_4 rfl (fun _ _=>rfl) rfl rfl pK fun g' w' v hs b=>⟨g',var_ext hs,b⟩) (fun sD hv=>?_)
    clear hv
    refine L_do (φ:=fun v=>varA 2010 137 ([]:List Bool) (r8:List Bool) v) rfl rfl .plain (fun g w hd=>D_allocX (g:=g) 2010 ([]:List Bool) Tryz.zeroValue137 (fun m w=>⟨_,rep_nil,rfl⟩) fun g' w' v hs b=>⟨g',var_ext hs,.inl b⟩) (fun tB hv=>?_)
    clear hv
    refine L_do (φ:=fun v g w=>OB 2011 g w 137 (⟨.slice none 0 0,rfl⟩:Fv) v) rfl rfl .plain (fun g w hd=>D_allocX (g:=g) 2011 (⟨.slice none 0 0,rfl⟩:Fv) Tryz.zeroValue137 (fun _ _=>fv0_rep) fun g' w' v hs b=>⟨g',var_ext hs,b⟩) (fun vB hv=>?_)
    clear hv
    refine L_do (φ:=fun _ g w=>OB 2010 g w 137 (r8:List Bool) tB) rfl rfl .plain (fun g w hd=>D_storeV (g:=g) Tryz.sizeOf137 rfl (word (A:=varA 2010 137 ([]:List Bool) (r8:List Bool) tB) 7 rfl rfl (deps_of hd)) rfl (word (A:=fun g w=>RV g.m w r8 bI) 3 rfl rfl (deps_of hd))) (fun sN hv=>?_)
    clear hv
    refine L_nil fun iL tN hall=>?_
    have hs:=hall.1
    have hfr:=hfr.stp hs
    have hmk:=hmk.stp hs
    have lB:=lB.stp hs
    have mB:=mB.stp hs
    have dB:=dB.stp hs rfl
    have y9:=y9.stp hs
    have uN:=(word_all (A:=fun g w=>RV g.m w r8 bI) 3 rfl hall)
    have b3543:=(word_all (A:=fun g w=>OM 9033 g w 4 iB sD) 6 rfl hall)
    have b3544:=(word_all (A:=fun g w=>OB 2010 g w 137 (r8:List Bool) tB) 9 rfl hall)
    have b3545:=(word_all (A:=fun g w=>OB 2011 g w 137 (⟨.slice none 0 0,rfl⟩:Fv) vB) 8 rfl hall)
    clear hs hall
    have on3547:=om_one b3543
    refine Ze .plain rfl (D_storeOc (g:=iL) (v:=sD) (a':=(⟨sD,on3547⟩:Fv)) Tryz.sizeOf137 rfl b3545 rfl (RV_fv.2 rfl) fun dI vN hs b3547 cb=>?_)
    clear cb
    have hfr:=hfr.stp hs
    have hmk:=hmk.stp hs
    have lB:=lB.stp hs
    have mB:=mB.stp hs
    have dB:=dB.stp hs rfl
    have y9:=y9.stp hs
    have b3543:=b3543.stp hs rfl
    have b3544:=b3544.stp hs rfl
    refine Zb (Zd ?_)
    obtain ⟨vC,hx,h⟩:=bsome h
    refine E_joinD (fun e ds w=>∃ (g:Gh) ,Fr gI wI g w∧MkF g w ds∧e 2=up2∧MQ (Value.int .i64) wI.heap.size g w (x2:List (Int × LoomRun)) up2∧e 3=p1∧PT g.m w (x0:LoomLoomMill) p1∧e 7=p7∧OB 2007 g w 137 (n9:List Bool) p7∧e 11=vB∧BX 2011 9033 g w 4 137 (vC:List Bool) vB∧e 21=up1∧RV g.m w (x1:List Int) up1∧e 22=.int .i64 (((x1).length:Int))∧e 23=.int .i64 (m8)) (fun Q' hQ=>?_) (fun kN vM xN hR=>?_)
    ·replace h := hx
     clear hx
     refine Zf (Za (Ze .plain rfl (D_loadO (α:=Fv) (g:=dI) Tryz.isAgg137 Tryz.sizeOf137 rfl b3547 fun iI jI=>?_)))
     have e4111:iI=sD:=RV_fv.1 jI
     clear jI
     subst iI
     refine EL_p (.int .i64 ((iB).length:Int)) (P_lenM Tryz.underlying137 rfl b3543) rfl ?_
     refine Zn (.int .i64 (0)) rfl rfl ?_
     refine Zb (Zd (Zr ?_))
     refine E_lpD h (fun (s:(List Bool) × Int) e ds w=>∃ (g:Gh) ,Fr gI wI g w∧MkF g w ds∧e 2=up2∧MQ (Value.int .i64) wI.heap.size g w (x2:List (Int × LoomRun)) up2∧e 3=p1∧PT g.m w (x0:LoomLoomMill) p1∧e 7=p7∧OB 2007 g w 137 (n9:List Bool) p7∧e 10=tB∧OB 2010 g w 137 (r8:List Bool) tB∧e 11=vB∧BX 2011 9033 g w 4 137 (s.1:List Bool) vB∧e 21=up1∧RV g.m w (x1:List Int) up1∧e 22=.int .i64 (((x1).length:Int))∧e 23=.int .i64 (m8)∧e 35=.int .i64 (((iB).length:Int))∧e 36=.int .i64 (s.2)) ⟨dI,hfr,hmk,cF,lB,dF,mB,jD,dB,rfl,b3544,rfl,⟨_,b3547,b3543⟩,xD,y9,yD,aD,rfl,rfl⟩ (fun X4112 yH qK=>?_)
     rintro ⟨cC,o0⟩ lN eF yN ⟨kI,hfr,hmk,rF,iA,sF,rA,lD,yA,bD,bA,a9,⟨nM,d9,k9⟩,aE,l9,bE,iE,lE,cD⟩ h
     refine Zf (Za (EL_in (.bool ((decide (o0 < ((iB).length:Int))))) cD lE rfl rfl ?_))
     refine Zb (Zd (Zf ?_))
     rcases Zt h with ⟨mE,h⟩ | ⟨mE,h⟩
     ·refine E_ct mE rfl ?_
      refine Zu (Zd ?_)
      obtain ⟨mC,hx,h⟩:=bsome h
      refine E_joinD (fun e ds w=>∃ (g:Gh) ,Fr gI wI g w∧MkF g w ds∧e 2=up2∧MQ (Value.int .i64) wI.heap.size g w (x2:List (Int × LoomRun)) up2∧e 3=p1∧PT g.m w (x0:LoomLoomMill) p1∧e 7=p7∧OB 2007 g w 137 (n9:List Bool) p7∧e 10=tB∧OB 2010 g w 137 (r8:List Bool) tB∧e 11=vB∧BX 2011 9033 g w 4 137 (mC:List Bool) vB∧e 21=up1∧RV g.m w (x1:List Int) up1∧e 22=.int .i64 (((x1).length:Int))∧e 23=.int .i64 (m8)∧e 35=.int .i64 (((iB).length:Int))∧e 36=.int .i64 (o0)) (fun Q' hQ=>?_) (fun mN xM zN hR=>?_)
      ·replace h := hx
       clear hx
       refine Zr ?_
       refine Zf (Za (Zo cD rfl ?_))
       refine Ze .plain rfl (D_allocOc (g:=kI) 2012 (0:Int) Tryz.zeroValue3 (fun m w=>⟨_,rep_int,rfl⟩) fun jL aO lL hs b4394 cb=>?_)
       have hfr:=hfr.stp hs
       have hmk:=hmk.stp hs
       have iA:=iA.stp hs
       have rA:=rA.stp hs
       have yA:=yA.stp hs rfl
       have bA:=bA.stp hs rfl
       have d9:=d9.stp hs rfl
       have k9:=k9.stp hs rfl
       have l9:=l9.stp hs
       clear cb
       refine Ze .plain rfl (D_storeOc (g:=jL) (v:=.int .i64 (o0)) Tryz.sizeOf3 rfl b4394 rfl (Zj.2 rfl) fun lI bO hs b4395 cb=>?_)
       clear cb
       have hfr:=hfr.stp hs
       have hmk:=hmk.stp hs
       have iA:=iA.stp hs
       have rA:=rA.stp hs
       have yA:=yA.stp hs rfl
       have bA:=bA.stp hs rfl
       have d9:=d9.stp hs rfl
       have k9:=k9.stp hs rfl
       have l9:=l9.stp hs
       refine Zb (Zd (Zf (Za (Ze .plain rfl (D_loadO (g:=lI) Tryz.isAgg3 Tryz.sizeOf3 rfl b4395 fun cO mL=>?_)))))
       obtain rfl:=Zj.1 mL
       obtain ⟨uF,sK,h⟩:=bsome h
       refine Ze .plain rfl (Zp (g:=lI) (vs:=[.int .i64 (o0)]) en93 (.cons rfl .nil) (wk93  sK) fun dO nN nL hs hr=>?_)
       have hfr:=hfr.ext hs
       have hmk:=hmk.ext hs
       have iA:=iA.ext hs
       have rA:=rA.ext hs
       have yA:=yA.ext hs
       have bA:=bA.ext hs
       have d9:=d9.ext hs
       have k9:=k9.ext hs
       have l9:=l9.ext hs
       have b4395:=b4395.ext hs
       have mI:=hr
       refine Zb (Zd (Zr ?_))
       have hB0:=hfr.size
       have hmk0:=hmk
       obtain ⟨vD,hφ,h⟩:=bsome h
       refine E_rangeFunc (σ:=((List Bool))) (s0:=(cC)) 10 rfl (fun _=>0) [] (fun (s:(List Bool)) (g:Gh) (w:World)=>Fr gI wI g w∧MkF g w eF∧MQ (Value.int .i64) wI.heap.size g w (x2:List (Int × LoomRun)) up2∧PT g.m w (x0:LoomLoomMill) p1∧OB 2007 g w 137 (n9:List Bool) p7∧OB 2010 g w 137 (r8:List Bool) tB∧BX 2011 9033 g w 4 137 (s:List Bool) vB∧OB 2012 g w 3 (o0:Int) lL∧RV g.m w (x1:List Int) up1∧ItV Tryz.prog (RA1 (α:=Int)) uF nL g.m w) rfl mI hφ (fun _ _ _ _=>rfl) rfl ra1_size rfl (fun _ _ _ _ _ hx hR=>by obtain ⟨hfr,hmk,z2,z3,z4,z5,z6,z7,z8,z9⟩:=hR; exact ⟨hfr.ist hx hB0,hmk.ist hx,z2.ist hx hB0,z3.ist hx,z4.ist hx,z5.ist hx,z6.ist hx,z7.ist hx,z8.ist hx,z9.ist hx⟩) (fun _ _ _ _ _ hx hR=>by obtain ⟨hfr,hmk,z2,z3,z4,z5,z6,z7,z8,z9⟩:=hR; exact ⟨hfr.stp hx,hmk.stp hx,z2.stp hx,z3.stp hx,z4.stp hx rfl,z5.stp hx rfl,z6.stp hx rfl,z7.stp hx rfl,z8.stp hx,z9.stp hx⟩) ⟨hfr,hmk,iA,rA,yA,bA,⟨_,d9,k9⟩,b4395,l9,mI⟩ (fun _ h=>by cases h) ?_ ?_
       ·intro oN bN s x b s2 tD oL vs hsz h hR hrec_0 hG hrd
        obtain ⟨x8,hse⟩:∃ y,y=s:=⟨s,rfl⟩
        subst hse
        obtain ⟨hfr,hmk,i7,m7,y6,t5,⟨k8,l5,x5⟩,u3,i6,x6⟩:=hR
        obtain ⟨n8,hxe⟩:∃ y,y=x:=⟨x,rfl⟩
        subst hxe
        obtain ⟨eJ,rfl,iG⟩:=ra1_get hrd
        obtain rfl:eJ=.int .i64 (n8):=Zj.1 iG
        have v8:=RFr.refl tD oL
        refine Za (Zg (.int .i64 (n8)) rfl rfl ?_)
        refine Zb (Zd ?_)
        obtain ⟨pL,hbr,hs,hrN⟩:=begin_round hrec_0 hG
        refine ⟨pL,hbr,?_⟩
        have hfr:=hfr.stp hs
        have hmk:=hmk.stp hs
        have v8:=v8.stp hs
        have i7:=i7.stp hs
        have m7:=m7.stp hs
        have y6:=y6.stp hs rfl
        have t5:=t5.stp hs rfl
        have l5:=l5.stp hs rfl
        have x5:=x5.stp hs rfl
        have u3:=u3.stp hs rfl
        have i6:=i6.stp hs
        have x6:=x6.stp hs
        have hrec_0:=hrN
        clear hbr hs hrN
        refine Zr ?_
        refine L_loadO0 (α:=Fv) (x:=.tmp 11) Tryz.isAgg137 Tryz.sizeOf137 l5 fun nI pI oE=>?_
        have e4537:nI=k8.v:=RV_fv.1 pI
        clear pI
        subst nI
        refine L_loadO0 (x:=.tmp 12) Tryz.isAgg3 Tryz.sizeOf3 u3 fun eO qL rE=>?_
        obtain rfl:=Zj.1 qL
        refine L_loadO0 (α:=Fv) (x:=.tmp 11) Tryz.isAgg137 Tryz.sizeOf137 l5 fun qI sI uE=>?_
        have e4539:qI=k8.v:=RV_fv.1 sI
        clear sI
        subst qI
        refine L_loadO0 (x:=.tmp 12) Tryz.isAgg3 Tryz.sizeOf3 u3 fun gO rL vE=>?_
        obtain rfl:=Zj.1 rL
        obtain ⟨aB,gD,h⟩:=bsome h
        refine L_loadM (x:=.tmp 46) Tryz.isAgg4 Tryz.sizeOf4 x5 gD fun iO tL xE=>?_
        obtain rfl:=RV_bool.1 tL
        rcases Zt h with ⟨l8,h⟩ | ⟨l8,h⟩
        ·obtain ⟨xK, zF, h⟩ := bsome h
         refine E_drawL (g:=tD) (n:=21) [] [0,1,2,3,4,5,6,7,8,9,10,11,12,13,14,15,16,17,18,19,20] rfl mixed (by kernel_rfl) trivial ?_
         refine L_ld (c:=k8.v) rfl rfl .plain (fun _ _ h=>⟨h.ch,fun b hb _=>h.below.block b hb⟩) oE a9 ?_
         refine L_ld (c:=.int .i64 (o0)) rfl rfl .plain (fun _ _ h=>⟨h.ch,fun b hb _=>h.below.block b hb⟩) rE rfl ?_
         refine L_ld (c:=k8.v) rfl rfl .plain (fun _ _ h=>⟨h.ch,fun b hb _=>h.below.block b hb⟩) uE a9 ?_
         refine L_ld (c:=.int .i64 (o0)) rfl rfl .plain (fun _ _ h=>⟨h.ch,fun b hb _=>h.below.block b hb⟩) vE rfl ?_
         refine L_p (ePtr (k8.v) o0 1) rfl rfl (P_indexAddrM (α:=Bool) Tryz.underlying137 Tryz.sizeOf4 rfl x5 rfl gD) ?_
         refine L_ld (c:=.bool (aB)) rfl rfl .plain (fun _ _ h=>⟨h.ch,fun b hb _=>h.below.block b hb⟩) xE rfl ?_
         refine L_p (.bool (aB)) rfl rfl (Zk rfl) ?_
         iterate 5 refine L_s rfl rfl rfl l8 rfl ?_
         refine L_dead (fun _=>rfl) 6 rfl ?_
         refine L_s rfl rfl rfl l8 rfl ?_
         refine L_p (.bool true) rfl rfl (Zl (b:=aB) rfl (pick_t l8 rfl)) ?_
         refine L_p (ePtr (k8.v) o0 1) rfl rfl (P_indexAddrM (α:=Bool) Tryz.underlying137 Tryz.sizeOf4 rfl x5 rfl zF) ?_
         refine L_nl fun uL jO hs=>?_
         have hfr:=hfr.ext hs
         have hmk:=hmk.ext hs
         have v8:=v8.ext hs
         have hrec_0:=hrec_0.ext hs
         have i7:=i7.ext hs
         have m7:=m7.ext hs
         have y6:=y6.ext hs
         have t5:=t5.ext hs
         have l5:=l5.ext hs
         have x5:=x5.ext hs
         have u3:=u3.ext hs
         have i6:=i6.ext hs
         have x6:=x6.ext hs
         clear hs
         refine Ze .plain rfl (D_storeM (g:=uL) (α:=Bool) (a':=true) Tryz.sizeOf4 rfl x5 zF rfl (RV_bool.2 rfl) fun kO lO hs b4582=>?_)
         have hfr:=hfr.stp hs
         have hmk:=hmk.stp hs
         have v8:=v8.stp hs
         have hrec_0:=hrec_0.stp hs rfl
         have i7:=i7.stp hs
         have m7:=m7.stp hs
         have y6:=y6.stp hs rfl
         have t5:=t5.stp hs rfl
         have l5:=l5.stp hs rfl
         have u3:=u3.stp hs rfl
         have i6:=i6.stp hs
         have x6:=x6.stp hs
         refine Zb (blk_n ?_)
         obtain ⟨rfl,rfl⟩:=pairs2 h
         exact ⟨_,v8,⟨hfr,hmk,i7,m7,y6,t5,⟨_,l5,b4582⟩,u3,i6,x6⟩,hrec_0,rfl,rfl⟩
        ·refine L_loadO0 (x := .tmp 10) Tryz.isAgg137 Tryz.sizeOf137 t5 fun uD vF aG => ?_
         obtain ⟨oB,yE,h⟩:=bsome h
         have vL:=PT_idx vF yE
         refine Zs (x:=.tmp 51) Tryz.isAgg4 Tryz.sizeOf4 vL fun mO xL bG=>?_
         obtain rfl:=RV_bool.1 xL
         rcases Zt h with ⟨u9,h⟩ | ⟨u9,h⟩
         ·refine L_loadO0 (x := .tmp 7) Tryz.isAgg137 Tryz.sizeOf137 y6 fun tI uI tK => ?_
          refine L_loadO0 (x:=.tmp 12) Tryz.isAgg3 Tryz.sizeOf3 u3 fun nO yL uK=>?_
          obtain rfl:=Zj.1 yL
          obtain ⟨rC,cG,h⟩:=bsome h
          have zL:=PT_idx uI cG
          refine Zs (x:=.tmp 58) Tryz.isAgg4 Tryz.sizeOf4 zL fun oO aM vK=>?_
          obtain rfl:=RV_bool.1 aM
          obtain ⟨yK,eG,h⟩:=bsome h
          refine E_drawL (g:=tD) (n:=21) [] [0,1,2,3,4,5,6,7,8,9,10,11,12,13,14,15,16,17,18,19,20] rfl mixed (by kernel_rfl) trivial ?_
          refine L_ld (c:=k8.v) rfl rfl .plain (fun _ _ h=>⟨h.ch,fun b hb _=>h.below.block b hb⟩) oE a9 ?_
          refine L_ld (c:=.int .i64 (o0)) rfl rfl .plain (fun _ _ h=>⟨h.ch,fun b hb _=>h.below.block b hb⟩) rE rfl ?_
          refine L_ld (c:=k8.v) rfl rfl .plain (fun _ _ h=>⟨h.ch,fun b hb _=>h.below.block b hb⟩) uE a9 ?_
          refine L_ld (c:=.int .i64 (o0)) rfl rfl .plain (fun _ _ h=>⟨h.ch,fun b hb _=>h.below.block b hb⟩) vE rfl ?_
          refine L_p (ePtr (k8.v) o0 1) rfl rfl (P_indexAddrM (α:=Bool) Tryz.underlying137 Tryz.sizeOf4 rfl x5 rfl gD) ?_
          refine L_ld (c:=.bool (aB)) rfl rfl .plain (fun _ _ h=>⟨h.ch,fun b hb _=>h.below.block b hb⟩) xE rfl ?_
          refine L_p (.bool (aB)) rfl rfl (Zk rfl) ?_
          refine L_ld (c:=uD) rfl rfl (.yes2 rfl rfl l8) (fun _ _ h=>⟨h.ch,fun b hb _=>h.below.block b hb⟩) aG bD ?_
          refine L_y (.int .i64 (n8)) rfl rfl rfl rfl l8 (Zk rfl) ?_
          refine L_y (ePtr uD n8 1) rfl rfl rfl rfl l8 (Zh (α:=Bool) Tryz.underlying137 Tryz.sizeOf4 rfl vF rfl yE) ?_
          refine L_ld (c:=.bool (oB)) rfl rfl (.yes2 rfl rfl l8) (fun _ _ h=>h.ch) bG rfl ?_
          refine L_y (.bool (oB)) rfl rfl rfl rfl l8 (Zk rfl) ?_
          refine L_ld (c:=tI) rfl rfl (.yes2 rfl rfl u9) (fun _ _ h=>⟨h.ch,fun b hb _=>h.below.block b hb⟩) tK lD ?_
          refine L_ld (c:=.int .i64 (o0)) rfl rfl (.yes2 rfl rfl u9) (fun _ _ h=>⟨h.ch,fun b hb _=>h.below.block b hb⟩) uK rfl ?_
          refine L_y (.int .i64 (n8)) rfl rfl rfl rfl u9 (Zk rfl) ?_
          refine L_y (.int .i64 ((bit64 .andNot o0 n8))) rfl rfl rfl rfl u9 (P_int rfl rfl rfl) ?_
          refine L_y (ePtr tI (bit64 .andNot o0 n8) 1) rfl rfl rfl rfl u9 (Zh (α:=Bool) Tryz.underlying137 Tryz.sizeOf4 rfl uI rfl cG) ?_
          refine L_ld (c:=.bool (rC)) rfl rfl (.yes2 rfl rfl u9) (fun _ _ h=>h.ch) vK rfl ?_
          refine L_y (.bool (rC)) rfl rfl rfl rfl l8 (Zl (b:=oB) rfl (pick_t u9 rfl)) ?_
          refine L_p (.bool (rC)) rfl rfl (Zl (b:=aB) rfl (pick_f l8 rfl)) ?_
          refine L_p (ePtr (k8.v) o0 1) rfl rfl (P_indexAddrM (α:=Bool) Tryz.underlying137 Tryz.sizeOf4 rfl x5 rfl eG) ?_
          refine L_nl fun bM pO hs=>?_
          have hfr:=hfr.ext hs
          have hmk:=hmk.ext hs
          have v8:=v8.ext hs
          have hrec_0:=hrec_0.ext hs
          have i7:=i7.ext hs
          have m7:=m7.ext hs
          have y6:=y6.ext hs
          have t5:=t5.ext hs
          have l5:=l5.ext hs
          have x5:=x5.ext hs
          have u3:=u3.ext hs
          have i6:=i6.ext hs
          have x6:=x6.ext hs
          clear hs
          refine Ze .plain rfl (D_storeM (g:=bM) (α:=Bool) (a':=rC) Tryz.sizeOf4 rfl x5 eG rfl (RV_bool.2 rfl) fun qO rO hs b4631=>?_)
          have hfr:=hfr.stp hs
          have hmk:=hmk.stp hs
          have v8:=v8.stp hs
          have hrec_0:=hrec_0.stp hs rfl
          have i7:=i7.stp hs
          have m7:=m7.stp hs
          have y6:=y6.stp hs rfl
          have t5:=t5.stp hs rfl
          have l5:=l5.stp hs rfl
          have u3:=u3.stp hs rfl
          have i6:=i6.stp hs
          have x6:=x6.stp hs
          refine Zb (blk_n ?_)
          obtain ⟨rfl,rfl⟩:=pairs2 h
          exact ⟨_,v8,⟨hfr,hmk,i7,m7,y6,t5,⟨_,l5,b4631⟩,u3,i6,x6⟩,hrec_0,rfl,rfl⟩
         ·obtain ⟨zK, gG, h⟩ := bsome h
          refine E_drawL (g:=tD) (n:=21) [] [0,1,2,3,4,5,6,7,8,9,10,11,12,13,14,15,16,17,18,19,20] rfl mixed (by kernel_rfl) trivial ?_
          refine L_ld (c:=k8.v) rfl rfl .plain (fun _ _ h=>⟨h.ch,fun b hb _=>h.below.block b hb⟩) oE a9 ?_
          refine L_ld (c:=.int .i64 (o0)) rfl rfl .plain (fun _ _ h=>⟨h.ch,fun b hb _=>h.below.block b hb⟩) rE rfl ?_
          refine L_ld (c:=k8.v) rfl rfl .plain (fun _ _ h=>⟨h.ch,fun b hb _=>h.below.block b hb⟩) uE a9 ?_
          refine L_ld (c:=.int .i64 (o0)) rfl rfl .plain (fun _ _ h=>⟨h.ch,fun b hb _=>h.below.block b hb⟩) vE rfl ?_
          refine L_p (ePtr (k8.v) o0 1) rfl rfl (P_indexAddrM (α:=Bool) Tryz.underlying137 Tryz.sizeOf4 rfl x5 rfl gD) ?_
          refine L_ld (c:=.bool (aB)) rfl rfl .plain (fun _ _ h=>⟨h.ch,fun b hb _=>h.below.block b hb⟩) xE rfl ?_
          refine L_p (.bool (aB)) rfl rfl (Zk rfl) ?_
          refine L_ld (c:=uD) rfl rfl (.yes2 rfl rfl l8) (fun _ _ h=>⟨h.ch,fun b hb _=>h.below.block b hb⟩) aG bD ?_
          refine L_y (.int .i64 (n8)) rfl rfl rfl rfl l8 (Zk rfl) ?_
          refine L_y (ePtr uD n8 1) rfl rfl rfl rfl l8 (Zh (α:=Bool) Tryz.underlying137 Tryz.sizeOf4 rfl vF rfl yE) ?_
          refine L_ld (c:=.bool (oB)) rfl rfl (.yes2 rfl rfl l8) (fun _ _ h=>h.ch) bG rfl ?_
          refine L_y (.bool (oB)) rfl rfl rfl rfl l8 (Zk rfl) ?_
          iterate 6 refine L_s rfl rfl rfl u9 rfl ?_
          refine L_y (.bool false) rfl rfl rfl rfl l8 (Zl (b:=oB) rfl (pick_f u9 rfl)) ?_
          refine L_p (.bool false) rfl rfl (Zl (b:=aB) rfl (pick_f l8 rfl)) ?_
          refine L_p (ePtr (k8.v) o0 1) rfl rfl (P_indexAddrM (α:=Bool) Tryz.underlying137 Tryz.sizeOf4 rfl x5 rfl gG) ?_
          refine L_nl fun cM sO hs=>?_
          have hfr:=hfr.ext hs
          have hmk:=hmk.ext hs
          have v8:=v8.ext hs
          have hrec_0:=hrec_0.ext hs
          have i7:=i7.ext hs
          have m7:=m7.ext hs
          have y6:=y6.ext hs
          have t5:=t5.ext hs
          have l5:=l5.ext hs
          have x5:=x5.ext hs
          have u3:=u3.ext hs
          have i6:=i6.ext hs
          have x6:=x6.ext hs
          clear hs
          refine Ze .plain rfl (D_storeM (g:=cM) (α:=Bool) (a':=false) Tryz.sizeOf4 rfl x5 gG rfl (RV_bool.2 rfl) fun tO uO hs b4670=>?_)
          have hfr:=hfr.stp hs
          have hmk:=hmk.stp hs
          have v8:=v8.stp hs
          have hrec_0:=hrec_0.stp hs rfl
          have i7:=i7.stp hs
          have m7:=m7.stp hs
          have y6:=y6.stp hs rfl
          have t5:=t5.stp hs rfl
          have l5:=l5.stp hs rfl
          have u3:=u3.stp hs rfl
          have i6:=i6.stp hs
          have x6:=x6.stp hs
          refine Zb (blk_n ?_)
          obtain ⟨rfl,rfl⟩:=pairs2 h
          exact ⟨_,v8,⟨hfr,hmk,i7,m7,y6,t5,⟨_,l5,b4670⟩,u3,i6,x6⟩,hrec_0,rfl,rfl⟩
       ·intro dM vO ds4672 hsz hR hds
        obtain ⟨hfr,hmk,gJ,iJ,jJ,jG,⟨oM,kG,lG⟩,pM,mG,qM⟩:=hR
        obtain ⟨D,hdse,hD,hDb⟩:=hds.1 rfl
        subst hdse
        replace hmk:=MkF.push hmk0 hmk hD hDb
        clear hD hDb hds
        revert hmk
        generalize ({ target:=.collected D,args:=#[] } :: eF:List Deferred)=cN
        intro hmk
        refine ⟨fun _=>?_,fun k c hs _=>absurd hs (Nat.succ_ne_zero k).symm⟩
        refine blk_n (blk_n ?_)
        obtain rfl:=sinj h
        exact hQ _ _ _ ⟨dM,hfr,hmk,rF,gJ,sF,iJ,lD,jJ,bD,jG,a9,⟨_,kG,lG⟩,aE,mG,bE,iE,lE,cD⟩
      ·clear hx
       obtain ⟨eM,hfr,hmk,kJ,lJ,mJ,nJ,oJ,pJ,sG,xG,yG,⟨rM,zG,aH⟩,cH,dH,gH,iH,jH,kH⟩:=hR
       refine Za (EL_in (.int .i64 ((w64 (o0 + (1:Int))))) kH rfl rfl rfl ?_)
       refine Zn (.int .i64 ((w64 (o0 + (1:Int))))) rfl rfl ?_
       exact Zb (Zd (qK (mC,(w64 (o0 + (1:Int)))) _ _ _ ⟨eM,hfr,hmk,kJ,lJ,mJ,nJ,oJ,pJ,sG,xG,yG,⟨_,zG,aH⟩,cH,dH,gH,iH,jH,rfl⟩ h))
     ·refine E_cf mE rfl ?_
      refine E_exit ?_
      refine thn_e ?_
      refine thn_e ?_
      refine blk_hit ?_
      obtain rfl:=sinj h
      exact hQ _ _ _ ⟨kI,hfr,hmk,rF,iA,sF,rA,lD,yA,a9,⟨_,d9,k9⟩,aE,l9,bE,iE⟩
    ·clear hx
     obtain ⟨iM,hfr,hmk,qJ,yB,rJ,zB,tF,nD,lH,⟨zE,qC,mH⟩,nH,nB,oH,pH⟩:=hR
     refine Za (Ze .plain rfl (D_loadO (α:=Fv) (g:=iM) Tryz.isAgg137 Tryz.sizeOf137 lH qC fun vI yI=>?_))
     have e4675:vI=zE.v:=RV_fv.1 yI
     clear yI
     subst vI
     obtain ⟨gp4677,hs,rp4677⟩:=OM.pub mH
     have hfr:=hfr.stp hs
     have hmk:=hmk.stp hs
     have yB:=yB.stp hs
     have zB:=zB.stp hs
     have nD:=nD.stp hs rfl
     have qC:=qC.stp hs rfl
     have nB:=nB.stp hs
     have ub4677:=OB.ofRV qC rp4677
     refine Ze .plain rfl (D_storeOc (g:=gp4677) (v:=zE.v) Tryz.sizeOf137 tF nD rfl rp4677 fun jM xO hs b4676 cb=>?_)
     clear cb
     have hfr:=hfr.stp hs
     have hmk:=hmk.stp hs
     have yB:=yB.stp hs
     have zB:=zB.stp hs
     have nB:=nB.stp hs
     refine Zb (blk_n ?_)
     obtain rfl:=sinj h
     exact hQ _ _ _ ⟨jM,hfr,hmk,qJ,yB,rJ,zB,tF,b4676,nH,nB,oH,pH⟩
   ·clear hx
    obtain ⟨kM,hfr,hmk,sJ,vJ,xJ,yJ,zJ,aK,qH,sH,tH,uH⟩:=hR
    refine Za (EL_in (.int .i64 ((w64 (m8 + (1:Int))))) uH rfl rfl rfl ?_)
    refine Zn (.int .i64 ((w64 (m8 + (1:Int))))) rfl rfl ?_
    exact Zb (Zd (lK (uC,(w64 (m8 + (1:Int)))) _ _ _ ⟨kM,hfr,hmk,sJ,vJ,xJ,yJ,zJ,aK,qH,sH,tH,rfl⟩ h))
  ·refine E_cf zD rfl ?_
   refine E_exit ?_
   refine thn_e ?_
   refine thn_e ?_
   refine blk_hit ?_
   obtain rfl:=sinj h
   exact hQ _ _ _ ⟨oD,hfr,hmk,jD,dB⟩
 ·clear hx
  obtain ⟨mM,hfr,hmk,bK,cK⟩:=hR
  refine Zf (Za (Ze .plain rfl (D_loadO (g:=mM) Tryz.isAgg137 Tryz.sizeOf137 bK cK fun zI xF=>?_)))
  refine Zg zI rfl rfl ?_
  refine Zb (Zd (E_ret (endM (.inr rfl) hmk fun yO zO hs=>?_)))
  have hfr:=hfr.stp hs
  have xF:=xF.stp hs
  obtain rfl:=sinj h
  exact end1 rfl rfl (show _=zI from rfl) ⟨_,hfr,xF⟩
def f55 (x0:LoomLoomMill) (x1:Int) (x2:List (Int × LoomRun)):Option (Bool × (List (Int × LoomRun))):=
 (idx ((x0).orders) x1).bind fun y4=>
 jn (σ:=(List (Int × LoomRun))) (fun oB=>
  some (false,oB)
  ) fun eD=>
 lp (σ:=(List (Int × LoomRun)) × Int) (fun gD (i7,o0)=>
  jn (σ:=Unit) (fun _=>
   jn (σ:=(List (Int × LoomRun))) (fun a9=>
    gD (a9,(w64 (o0 + (1:Int))))
    ) fun iD=>
   (f48 x0).bind fun y6=>
   lp (σ:=(List (Int × LoomRun)) × Int) (fun jD (x5,u3)=>
    bif (decide (u3 < ((y6).length : Int))) then
     jn (σ:=(List (Int × LoomRun))) (fun d9=>
      jD (d9,(w64 (u3 + (1:Int))))
      ) fun lD=>
     (idx y6 u3).bind fun i6=>
     (f48 x0).bind fun v8=>
     (f47 x0 v8 ((mset x5 x1 ((⟨x1,i6,o0⟩:LoomRun))))).bind fun m7=>
     (f51 x0).bind fun k9=>
     (idx m7 k9).bind fun yA=>
     bif yA then
      some (true,(mset x5 x1 ((⟨x1,i6,o0⟩:LoomRun))))
     else
      lD ((mset x5 x1 ((⟨x1,i6,o0⟩:LoomRun))))
    else
     iD (x5)
    ) big (i7,(0:Int))
   ) fun nD=>
  bif (decide ((w64 (o0 + (y4).Woven)) ≤ (y4).Late)) then
   nD ()
  else
   eD (i7)
  ) big (x2,(y4).Early)
theorem en55:Enters Tryz.prog 55:=enters_of Tryz.func55 (by kernel_rfl) rfl
theorem wk55 {iI:Nat} {gI:Gh} {wI:World} {x0:LoomLoomMill} {x1:Int} {x2:List (Int × LoomRun)} {up0:Value} (rp0:RV gI.m wI x0 up0) {up2:Value} (mp2:MP (Value.int .i64) iI gI wI x2 up2) {r:Bool × (List (Int × LoomRun))} (h:f55 x0 x1 x2=some r):FnM Tryz.prog 55 #[up0,.int .i64 (x1),up2] iI gI wI (fun g w v=>v=.bool (r.1)∧MP (Value.int .i64) iI g w (r.2) up2):=by
 unfold f55 at h
 refine fnM_of_E Tryz.func55 rfl (Nat.le_of_ble_eq_true rfl) fun g0 hm hfr=>?_
 have rC:=mp2
 replace mp2:=mp2.enter
 rw [← hm] at mp2
 replace hm:g0.m=gI.m:=by rw [hm]
 have rp0:RV g0.m wI x0 up0:=hm ▸ rp0
 show E _ 50 none _ _ _ _ _
 refine Zf (Za (Ze .plain rfl (D_box (g:=g0) rfl rp0 fun g1 w1 p1 hs q1=>?_)))
 have hfr:=hfr.ext hs
 have mp2:=mp2.ext hs
 refine Zg (.bool false) rfl rfl ?_
 refine Zb (Zd (Zf (Za (EL_p (fPtr p1 2) (Zc at_134_1 rfl (PT.ptr q1)) rfl ?_))))
 have q2:=Zm (part_LoomLoomMill_1).1 q1
 refine Ze .plain rfl (D_load (g:=g1) Tryz.isAgg31 Tryz.sizeOf31 rfl q2 fun v3 r3=>?_)
 refine Zn (.int .i64 (x1)) rfl rfl ?_
 obtain ⟨y4,yG,h⟩:=bsome h
 refine EL_p (ePtr v3 x1 5) (Zh (α:=LoomOrder) Tryz.underlying31 Tryz.sizeOf49 rfl r3 rfl yG) rfl ?_
 have q5:=PT_idx r3 yG
 refine Ze .plain rfl (D_load (g:=g1) Tryz.isAgg49 Tryz.sizeOf49 rfl q5 fun v6 r6=>?_)
 refine Ze .plain rfl (D_allocOc (g:=g1) 2007 (⟨0,0,0,0,0⟩:LoomOrder) Tryz.zeroValue49 (fun m w=>⟨_,(rep_two rep_int (rep_two rep_int (rep_two rep_int (rep_two rep_int rep_int)))),rfl⟩) fun g7 w7 p7 hs b7 cb=>?_)
 have hfr:=hfr.stp hs
 have mp2:=mp2.stp hs rfl
 have q1:=q1.stp hs
 have r6:=r6.stp hs
 clear cb
 refine Ze .plain rfl (D_storeOc (g:=g7) (v:=v6) Tryz.sizeOf49 rfl b7 rfl r6 fun g8 w8 hs b8 cb=>?_)
 clear cb
 have hfr:=hfr.stp hs
 have mp2:=mp2.stp hs rfl
 have q1:=q1.stp hs
 refine Zb (Zd (Zq h (fun (s:(List (Int × LoomRun))) e w=>∃ (g:Gh) ,FrM iI gI wI g w∧e 2=up2∧MP (Value.int .i64) 1 g w (s:List (Int × LoomRun)) up2) (fun X228 eD zF h=>?_) ?_))
 ·refine Zf (Za (EL_p (fPtr p7 3) (Zc at_49_3 rfl (OB.ptr b8)) rfl ?_))
  refine Ze .plain rfl (D_loadF (g:=g8) part_LoomOrder_3.1 Tryz.isAgg3 Tryz.sizeOf3 rfl b8 fun lI zG=>?_)
  obtain rfl:=Zj.1 zG
  refine Zg (.int .i64 ((y4).Early)) rfl rfl ?_
  refine Zb (Zd (Zr ?_))
  refine E_lp h (fun (s:(List (Int × LoomRun)) × Int) e w=>∃ (g:Gh) ,FrM iI gI wI g w∧e 1=.int .i64 (x1)∧e 2=up2∧MP (Value.int .i64) 1 g w (s.1:List (Int × LoomRun)) up2∧e 3=p1∧PT g.m w (x0:LoomLoomMill) p1∧e 7=p7∧OB 2007 g w 49 (y4:LoomOrder) p7∧e 8=.int .i64 (s.2)) ⟨g8,hfr,rfl,rfl,mp2,rfl,q1,rfl,b8,rfl⟩ (fun X231 gD aG=>?_)
  rintro ⟨i7,o0⟩ yH mI ⟨aB,hfr,oD,tB,vB,sD,tD,l9,k8,yB⟩ h
  refine Zq h (fun (s:Unit) e w=>∃ (g:Gh) ,FrM iI gI wI g w∧e 1=.int .i64 (x1)∧e 2=up2∧MP (Value.int .i64) 1 g w (i7:List (Int × LoomRun)) up2∧e 3=p1∧PT g.m w (x0:LoomLoomMill) p1∧e 7=p7∧OB 2007 g w 49 (y4:LoomOrder) p7∧e 8=.int .i64 (o0)) (fun X238 nD bG h=>?_) ?_
  ·refine Zf (Za (Zo yB rfl ?_))
   refine EL_p (fPtr p7 2) (Zc at_49_2 l9 (OB.ptr k8)) rfl ?_
   refine Ze .plain rfl (D_loadF (g:=aB) part_LoomOrder_2.1 Tryz.isAgg3 Tryz.sizeOf3 rfl k8 fun nI aH=>?_)
   obtain rfl:=Zj.1 aH
   refine EL_in (.int .i64 ((w64 (o0 + (y4).Woven)))) rfl rfl rfl rfl ?_
   refine EL_p (fPtr p7 4) (Zc at_49_4 l9 (OB.ptr k8)) rfl ?_
   refine Ze .plain rfl (D_loadF (g:=aB) part_LoomOrder_4.1 Tryz.isAgg3 Tryz.sizeOf3 rfl k8 fun pI cH=>?_)
   obtain rfl:=Zj.1 cH
   refine EL_p (.bool ((decide ((w64 (o0 + (y4).Woven)) ≤ (y4).Late)))) (P_int rfl rfl rfl) rfl ?_
   refine Zb (Zd ?_)
   rcases Zt h with ⟨dB,h⟩ | ⟨dB,h⟩
   ·refine E_ct dB rfl ?_
    exact Zu (Zd (bG () _ _ ⟨aB,hfr,oD,tB,vB,sD,tD,l9,k8,yB⟩ h))
   ·refine E_cf dB rfl ?_
    refine E_exit ?_
    refine thn_e ?_
    refine thn_e ?_
    refine blk_hit ?_
    exact Zd (zF (i7) _ _ ⟨aB,hfr,tB,vB⟩ h)
  ·rintro _ zH qI ⟨uD, hfr, vD, xD, n9, zB, m8, yD, u9, zD⟩ h
   refine Zq h (fun (s:(List (Int × LoomRun))) e w=>∃ (g:Gh) ,FrM iI gI wI g w∧e 1=.int .i64 (x1)∧e 2=up2∧MP (Value.int .i64) 1 g w (s:List (Int × LoomRun)) up2∧e 3=p1∧PT g.m w (x0:LoomLoomMill) p1∧e 7=p7∧OB 2007 g w 49 (y4:LoomOrder) p7∧e 8=.int .i64 (o0)) (fun X345 iD cG h=>?_) ?_
   ·refine Zr ?_
    refine Zf (Za (Ze .plain rfl (D_load (g:=uD) Tryz.isAgg134 Tryz.sizeOf134 zB m8 fun dH gH=>?_)))
    obtain ⟨y6,eG,h⟩:=bsome h
    refine Ze .plain rfl (Zp (g:=uD) (vs:=[dH]) en48 (.cons rfl .nil) (wk48 gH eG) fun iH aI y9 hs hr=>?_)
    have hfr:=hfr.ext hs
    have n9:=n9.ext hs
    have m8:=m8.ext hs
    have u9:=u9.ext hs
    have aE:=hr
    refine EL_p (.int .i64 ((y6).length:Int)) (P_len Tryz.underlying28 rfl aE) rfl ?_
    refine Zn (.int .i64 (0)) rfl rfl ?_
    refine Zb (Zd (Zr ?_))
    refine E_lp h (fun (s:(List (Int × LoomRun)) × Int) e w=>∃ (g:Gh) ,FrM iI gI wI g w∧e 1=.int .i64 (x1)∧e 2=up2∧MP (Value.int .i64) 1 g w (s.1:List (Int × LoomRun)) up2∧e 3=p1∧PT g.m w (x0:LoomLoomMill) p1∧e 7=p7∧OB 2007 g w 49 (y4:LoomOrder) p7∧e 8=.int .i64 (o0)∧e 28=y9∧RV g.m w (y6:List Int) y9∧e 29=.int .i64 (((y6).length:Int))∧e 30=.int .i64 (s.2)) ⟨iH,hfr,vD,xD,n9,zB,m8,yD,u9,zD,rfl,aE,rfl,rfl⟩ (fun X349 jD gG=>?_)
    rintro ⟨x5,u3⟩ bI jH ⟨iB,hfr,n8,r8,cC,l8,l5,mC,x6,z9,iA,t5,rA,x8⟩ h
    refine Zf (Za (EL_in (.bool ((decide (u3 < ((y6).length:Int))))) x8 rA rfl rfl ?_))
    refine Zb (Zd (Zf ?_))
    rcases Zt h with ⟨lB,h⟩ | ⟨lB,h⟩
    ·refine E_ct lB rfl ?_
     refine Zu (Zd (Zq h (fun (s:(List (Int × LoomRun))) e w=>∃ (g:Gh) ,FrM iI gI wI g w∧e 1=.int .i64 (x1)∧e 2=up2∧MP (Value.int .i64) 1 g w (s:List (Int × LoomRun)) up2∧e 3=p1∧PT g.m w (x0:LoomLoomMill) p1∧e 7=p7∧OB 2007 g w 49 (y4:LoomOrder) p7∧e 8=.int .i64 (o0)∧e 28=y9∧RV g.m w (y6:List Int) y9∧e 29=.int .i64 (((y6).length:Int))∧e 30=.int .i64 (u3)) (fun X398 lD hG h=>?_) ?_))
     ·refine Zr ?_
      refine Zf (Za ?_)
      obtain ⟨i6,uC,h⟩:=bsome h
      refine EL_p (ePtr y9 u3 1) (Zh (α:=Int) Tryz.underlying28 Tryz.sizeOf3 iA t5 x8 uC) rfl ?_
      have kH:=PT_idx t5 uC
      refine Ze .plain rfl (D_load (g:=iB) Tryz.isAgg3 Tryz.sizeOf3 rfl kH fun sI lH=>?_)
      obtain rfl:=Zj.1 lH
      refine Zg (.int .i64 (i6)) rfl rfl ?_
      refine Zb (Zd (Zf (Za (Zo r8 rfl ?_))))
      refine Zo n8 rfl ?_
      refine Zo n8 rfl ?_
      refine Zn (.int .i64 (i6)) rfl rfl ?_
      refine Zo z9 rfl ?_
      have bE:RV iB.m jH (⟨x1,i6,o0⟩:LoomRun) (.agg (setCh [[.int .i64 0],[.int .i64 0],[.int .i64 0]] [(0,.int .i64 (x1)),(1,.int .i64 (i6)),(2,.int .i64 (o0))]).flatten.toArray):=RV_build rfl (rep_pair (rfl) (rep_pair (rfl) (rep_last (rfl))))
      generalize iG:(Value.agg (setCh [[.int .i64 0],[.int .i64 0],[.int .i64 0]] [(0,.int .i64 (x1)),(1,.int .i64 (i6)),(2,.int .i64 (o0))]).flatten.toArray)=mH at bE
      refine EL_p mH (iG ▸ P_build (vs:=[(0,.int .i64 (x1)),(1,.int .i64 (i6)),(2,.int .i64 (o0))]) [[.int .i64 0],[.int .i64 0],[.int .i64 0]] lay_66 rfl rfl (.cons rfl (.cons rfl (.cons rfl .nil))) ⟨⟨_,rfl,rfl⟩,⟨⟨_,rfl,rfl⟩,⟨⟨_,rfl,rfl⟩,trivial⟩⟩⟩) rfl ?_
      refine Ze .plain rfl (D_mapUpdate (g:=iB) Tryz.underlying150 key_3 rfl cC rfl rfl bE fun nH tI hs m403=>?_)
      have hfr:=hfr.stp hs
      have l5:=l5.stp hs
      have x6:=x6.stp hs rfl
      have t5:=t5.stp hs
      refine Zb (Zd (Zf (Zs (x:=.tmp 3) Tryz.isAgg134 Tryz.sizeOf134 l5 fun iE oH jG=>?_)))
      refine Zs (x:=.tmp 3) Tryz.isAgg134 Tryz.sizeOf134 l5 fun lE pH kG=>?_
      obtain ⟨v8,lG,h⟩:=bsome h
      obtain ⟨m7,mG,h⟩:=bsome h
      refine Zs (x:=.tmp 3) Tryz.isAgg134 Tryz.sizeOf134 l5 fun mE qH sG=>?_
      obtain ⟨k9,xG,h⟩:=bsome h
      obtain ⟨yA,mB,h⟩:=bsome h
      refine E_drawL (g:=nH) (n:=9) [(2,(fun v g w=>RV g.m w v8 v)),(4,(fun v g w=>RV g.m w m7 v)),(6,(fun v g w=>v=.int .i64 (k9))),(8,(fun v _ _=>v=.bool (yA)))] [0,1,2,3,4,5,6,7,8] rfl mixed (by kernel_rfl) (⟨fun _=>up_rv,fun _=>up_rv,fun _=>up_eq _,fun _=>up_eq _,trivial⟩) ?_
      refine L_ld (c:=iE) rfl rfl .plain (fun _ _ h=>h.ch) jG l8 ?_
      refine L_ld (c:=lE) rfl rfl .plain (fun _ _ h=>h.ch) kG l8 ?_
      refine L_do (φ:=fun v g w=>RV g.m w v8 v) rfl rfl .plain (fun g w hd=>Zp (g:=g) (vs:=[lE]) en48 (.cons rfl .nil) (wk48 (pH.ext hd.1) lG) fun g' w' v hs hr=>⟨g',hs,hr⟩) (fun qC hv=>?_)
      obtain ⟨_,_,_,rq406⟩:=hv
      refine L_p up2 rfl rfl (Zk r8) ?_
      refine L_do (φ:=fun v g w=>RV g.m w m7 v) rfl rfl .plain (fun g w hd=>Zp (g:=g) (vs:=[iE,qC,up2]) en47 (.cons rfl (.cons rfl (.cons rfl .nil))) (wk47 (oH.ext hd.1) (word (A:=fun g w=>RV g.m w v8 qC) 2 rfl rfl (deps_of hd)) (m403.ext hd.1).r mG) fun g' w' v hs hr=>⟨g',hs,hr⟩) (fun bA hv=>?_)
      obtain ⟨_,_,_,rq408⟩:=hv
      refine L_ld (c:=mE) rfl rfl .plain (fun _ _ h=>h.ch) sG l8 ?_
      refine L_do (φ:=fun v g w=>v=.int .i64 (k9)) rfl rfl .plain (fun g w hd=>Zp (g:=g) (vs:=[mE]) en51 (.cons rfl .nil) (wk51 (qH.ext hd.1) xG) fun g' w' v hs hr=>⟨g',hs,hr⟩) (fun uI hv=>?_)
      obtain ⟨_,_,_,rfl⟩:=hv
      refine L_pur (c:=ePtr bA k9 1) rfl rfl .plain (fun _ _ hd=>Zh (α:=Bool) Tryz.underlying137 Tryz.sizeOf4 rfl (word (A:=fun g w=>RV g.m w m7 bA) 4 rfl rfl (deps_of hd)) rfl mB) ?_
      refine L_do (φ:=(fun v _ _=>v=.bool (yA))) rfl rfl .plain (fun g w hd=>D_load (g:=g) Tryz.isAgg4 Tryz.sizeOf4 rfl (PT_idx (word (A:=fun g w=>RV g.m w m7 bA) 4 rfl rfl (hop 7 rfl rfl (deps_of hd))) mB) fun v r=>⟨g,Ext.refl g w,RV_bool.1 r⟩) (fun vI hv=>?_)
      obtain ⟨_,_,_,rfl⟩:=hv
      refine L_nil fun sH yI hall=>?_
      have hs:=hall.1
      have hfr:=hfr.ext hs
      have m403:=m403.ext hs
      have l5:=l5.ext hs
      have x6:=x6.ext hs
      have t5:=t5.ext hs
      have zI:=(word_all (A:=fun g w=>RV g.m w v8 qC) 2 rfl hall)
      have eJ:=(word_all (A:=fun g w=>RV g.m w m7 bA) 4 rfl hall)
      have gJ:=(PT_idx (word_all (A:=fun g w=>RV g.m w m7 bA) 4 rfl hall) mB)
      clear hs hall
      refine Zb (Zd ?_)
      rcases Zt h with ⟨nB,h⟩ | ⟨nB,h⟩
      ·refine E_ct nB rfl ?_
       refine Zf (Za (Zg (.bool true) rfl rfl ?_))
       refine Zb (Zd (E_ret (blk_r ?_)))
       refine thn_r ?_
       refine thn_r ?_
       refine blk_r ?_
       refine blk_r ?_
       refine thn_r ?_
       refine thn_r ?_
       refine blk_r ?_
       refine thn_r ?_
       obtain rfl:=sinj h
       exact end1 rfl rfl (show _=.bool true from rfl) ⟨_,hfr,rfl,rC.back m403⟩
      ·refine E_cf nB rfl ?_
       exact Zu (blk_n (Zd (hG ((mset x5 x1 ((⟨x1,i6,o0⟩:LoomRun)))) _ _ ⟨sH,hfr,n8,r8,m403,l8,l5,mC,x6,z9,iA,t5,rA,x8⟩ h)))
     ·rintro d9 dI iJ ⟨tH, hfr, oE, rE, uE, vE, xE, yE, zE, cF, vC, aD, bD, cD⟩ h
      refine Za (EL_in (.int .i64 ((w64 (u3 + (1:Int))))) cD rfl rfl rfl ?_)
      refine Zn (.int .i64 ((w64 (u3 + (1:Int))))) rfl rfl ?_
      exact Zb (Zd (gG (d9,(w64 (u3 + (1:Int)))) _ _ ⟨tH,hfr,oE,rE,uE,vE,xE,yE,zE,cF,vC,aD,bD,rfl⟩ h))
    ·refine E_cf lB rfl ?_
     refine E_exit ?_
     refine thn_e ?_
     refine thn_e ?_
     refine blk_hit ?_
     exact blk_n (Zd (cG (x5) _ _ ⟨iB,hfr,n8,r8,cC,l8,l5,mC,x6,z9⟩ h))
   ·rintro a9 jI jJ ⟨uH, hfr, dF, eF, rF, sF, tF, uF, vF, xF⟩ h
    refine Za (Zo xF rfl ?_)
    refine EL_in (.int .i64 ((w64 (o0 + (1:Int))))) rfl rfl rfl rfl ?_
    refine Zg (.int .i64 ((w64 (o0 + (1:Int))))) rfl rfl ?_
    exact Zb (Zd (aG (a9,(w64 (o0 + (1:Int)))) _ _ ⟨uH,hfr,dF,eF,rF,sF,tF,uF,vF,rfl⟩ h))
 ·rintro oB kI kJ ⟨lJ, hfr, xH, yF⟩ h
  refine Zf (Za (Zg (.bool false) rfl rfl ?_))
  refine Zb (Zd (E_ret ?_))
  obtain rfl:=sinj h
  exact end1 rfl rfl (show _=.bool false from rfl) ⟨_,hfr,rfl,rC.back yF⟩
def f57 (x0:PayPayList) (x1:PayPiece):Option (Int):=
 Option.bind (α:=Int) (
  lp (σ:=Int × Int) (fun oB (u3,o0)=>
   bif (decide (o0 < (((x1).Extras).length : Int))) then
    Option.bind (α:=Int) (
     (idx ((x1).Extras) o0).bind fun g8=>
     (idx (((x0).PayList).Extras) g8).bind fun v8=>
     some ((w64 (u3 + v8)))
     ) fun t5=>
    oB (t5,(w64 (o0 + (1:Int))))
   else
    some (u3)
   ) big ((1000:Int),(0:Int))
  ) fun l5=>
 (f102 x0 ((x1).Dense)).bind fun y6=>
 (quo64 (w64 ((w64 ((x1).Picks * y6)) * l5)) (1000000:Int)).bind fun k8=>
 some (k8)
theorem en57:Enters Tryz.prog 57:=enters_of Tryz.func57 (by kernel_rfl) rfl
theorem wk57 {gI:Gh} {wI:World} {x0:PayPayList} {x1:PayPiece} {up0:Value} (rp0:RV gI.m wI x0 up0) {up1:Value} (rp1:RV gI.m wI x1 up1) {r:Int} (h:f57 x0 x1=some r):Fn Tryz.prog 57 #[up0,up1] gI wI (fun _ _ v=>v=.int .i64 (r)):=by
 unfold f57 at h
 refine fn_of_E Tryz.func57 rfl (Nat.le_of_ble_eq_true rfl) fun g0 hm hfr=>?_
 have rp0:RV g0.m wI x0 up0:=hm ▸ rp0
 have rp1:RV g0.m wI x1 up1:=hm ▸ rp1
 show E _ 34 none _ _ _ _ _
 refine Zf (Za (Ze .plain rfl (D_box (g:=g0) rfl rp0 fun g1 w1 p1 hs q1=>?_)))
 have hfr:=hfr.ext hs
 have rp1:=rp1.ext hs
 refine Ze .plain rfl (D_box (g:=g1) rfl rp1 fun g2 w2 p2 hs q2=>?_)
 have hfr:=hfr.ext hs
 have q1:=q1.ext hs
 refine Zg (.int .i64 (0)) rfl rfl ?_
 refine Zb (Zd (Zf (Za (Zg (.int .i64 (1000)) rfl rfl ?_))))
 refine Zb (Zd ?_)
 obtain ⟨l5,hx,h⟩:=bsome h
 refine E_join (fun e w=>∃ (g:Gh) ,Fr gI wI g w∧e 2=p1∧PT g.m w (x0:PayPayList) p1∧e 3=p2∧PT g.m w (x1:PayPiece) p2∧e 5=.int .i64 (l5)) (fun Q' hQ=>?_) (fun xD aE hR=>?_)
 ·replace h := hx
  clear hx
  refine Zf (Za (EL_p (fPtr p2 3) (Zc at_68_3 rfl (PT.ptr q2)) rfl ?_))
  have aD:=Zm (part_PayPiece_3).1 q2
  refine Ze .plain rfl (D_load (g:=g2) Tryz.isAgg28 Tryz.sizeOf28 rfl aD fun l8 tB=>?_)
  refine EL_p (.int .i64 (((x1).Extras).length:Int)) (P_len Tryz.underlying28 rfl tB) rfl ?_
  refine Zn (.int .i64 (0)) rfl rfl ?_
  refine Zb (Zd (Zr ?_))
  refine E_lp h (fun (s:Int × Int) e w=>∃ (g:Gh) ,Fr gI wI g w∧e 2=p1∧PT g.m w (x0:PayPayList) p1∧e 3=p2∧PT g.m w (x1:PayPiece) p2∧e 5=.int .i64 (s.1)∧e 9=l8∧RV g.m w ((x1).Extras:List Int) l8∧e 10=.int .i64 ((((x1).Extras).length:Int))∧e 11=.int .i64 (s.2)) ⟨g2,hfr,rfl,q1,rfl,q2,rfl,rfl,tB,rfl,rfl⟩ (fun X29 oB cC=>?_)
  rintro ⟨u3,o0⟩ yD bE ⟨m8,hfr,i7,x5,x8,a9,d9,k9,m7,n8,x6⟩ h
  refine Zf (Za (EL_p (.bool ((decide (o0 < (((x1).Extras).length:Int))))) (P_int x6 n8 rfl) rfl ?_))
  refine Zb (Zd (Zf ?_))
  rcases Zt h with ⟨r8,h⟩ | ⟨r8,h⟩
  ·refine E_ct r8 rfl ?_
   refine Zu (Zd ?_)
   obtain ⟨t5,hx,h⟩:=bsome h
   refine E_join (fun e w=>∃ (g:Gh) ,Fr gI wI g w∧e 2=p1∧PT g.m w (x0:PayPayList) p1∧e 3=p2∧PT g.m w (x1:PayPiece) p2∧e 5=.int .i64 (t5)∧e 9=l8∧RV g.m w ((x1).Extras:List Int) l8∧e 10=.int .i64 ((((x1).Extras).length:Int))∧e 11=.int .i64 (o0)) (fun Q' hQ=>?_) (fun zD iE hR=>?_)
   ·replace h := hx
    clear hx
    refine Zr ?_
    refine Zf (Za ?_)
    obtain ⟨g8,n9,h⟩:=bsome h
    refine EL_p (ePtr l8 o0 1) (Zh (α:=Int) Tryz.underlying28 Tryz.sizeOf3 k9 m7 x6 n9) rfl ?_
    have bD:=PT_idx m7 n9
    refine Ze .plain rfl (D_load (g:=m8) Tryz.isAgg3 Tryz.sizeOf3 rfl bD fun lE cD=>?_)
    obtain rfl:=Zj.1 cD
    refine Zg (.int .i64 (g8)) rfl rfl ?_
    refine Zb (Zd (Za (Zo d9 rfl ?_)))
    refine EL_p (fPtr p1 0) (Zc at_153_0 i7 (PT.ptr x5)) rfl ?_
    have vB:=Zm (part_PayPayList_0).1 x5
    refine EL_p (fPtr (fPtr p1 0) 1) (Zc at_59_1 rfl (PT.ptr vB)) rfl ?_
    have eD:=Zm (part_PayList_1).1 vB
    refine Ze .plain rfl (D_load (g:=m8) Tryz.isAgg28 Tryz.sizeOf28 rfl eD fun gD yB=>?_)
    refine Zn (.int .i64 (g8)) rfl rfl ?_
    obtain ⟨v8,u9,h⟩:=bsome h
    refine EL_p (ePtr gD g8 1) (Zh (α:=Int) Tryz.underlying28 Tryz.sizeOf3 rfl yB rfl u9) rfl ?_
    have iD:=PT_idx yB u9
    refine Ze .plain rfl (D_load (g:=m8) Tryz.isAgg3 Tryz.sizeOf3 rfl iD fun mE jD=>?_)
    obtain rfl:=Zj.1 jD
    refine EL_in (.int .i64 ((w64 (u3 + v8)))) rfl rfl rfl rfl ?_
    refine Zg (.int .i64 ((w64 (u3 + v8)))) rfl rfl ?_
    refine Zb (blk_n ?_)
    obtain rfl:=sinj h
    exact hQ _ _ ⟨m8,hfr,i7,x5,x8,a9,rfl,k9,m7,n8,x6⟩
   ·clear hx
    obtain ⟨lD,hfr,bA,iA,rA,yA,aB,dB,iB,y9,z9⟩:=hR
    refine Za (EL_in (.int .i64 ((w64 (o0 + (1:Int))))) z9 rfl rfl rfl ?_)
    refine Zn (.int .i64 ((w64 (o0 + (1:Int))))) rfl rfl ?_
    exact Zb (Zd (cC (t5,(w64 (o0 + (1:Int)))) _ _ ⟨lD,hfr,bA,iA,rA,yA,aB,dB,iB,y9,rfl⟩ h))
  ·refine E_cf r8 rfl ?_
   refine E_exit ?_
   refine thn_e ?_
   refine thn_e ?_
   refine blk_hit ?_
   obtain rfl:=sinj h
   exact hQ _ _ ⟨m8,hfr,i7,x5,x8,a9,d9⟩
 ·clear hx
  obtain ⟨nD,hfr,lB,mB,l9,i6,nB⟩:=hR
  refine Zf ?_
  have oD:=Zm (part_PayPiece_2).1 i6
  refine Zs (x:=.tmp 24) Tryz.isAgg3 Tryz.sizeOf3 oD fun oE sD mC=>?_
  obtain rfl:=Zj.1 sD
  refine Zs (x:=.tmp 2) Tryz.isAgg153 Tryz.sizeOf153 mB fun zB tD qC=>?_
  have uD:=Zm (part_PayPiece_1).1 i6
  refine Zs (x:=.tmp 27) Tryz.isAgg3 Tryz.sizeOf3 uD fun rE vD rC=>?_
  obtain rfl:=Zj.1 vD
  obtain ⟨y6,uC,h⟩:=bsome h
  obtain ⟨k8,vC,h⟩:=bsome h
  refine E_drawL (g:=nD) (n:=11) [(5,(fun v g w=>v=.int .i64 (y6)))] [0,1,2,3,4,5,6,7,8,9,10] rfl mixed (by kernel_rfl) (⟨fun _=>up_eq _,trivial⟩) ?_
  refine L_p (fPtr p2 2) rfl rfl (Zc at_68_2 l9 (PT.ptr i6)) ?_
  refine L_ld (c:=.int .i64 ((x1).Picks)) rfl rfl .plain (fun _ _ h=>h.ch) mC rfl ?_
  refine L_ld (c:=zB) rfl rfl .plain (fun _ _ h=>h.ch) qC lB ?_
  refine L_p (fPtr p2 1) rfl rfl (Zc at_68_1 l9 (PT.ptr i6)) ?_
  refine L_ld (c:=.int .i64 ((x1).Dense)) rfl rfl .plain (fun _ _ h=>h.ch) rC rfl ?_
  refine L_do (φ:=fun v g w=>v=.int .i64 (y6)) rfl rfl .plain (fun g w hd=>Zp (g:=g) (vs:=[zB,.int .i64 ((x1).Dense)]) en102 (.cons rfl (.cons rfl .nil)) (wk102 (tD.ext hd.1) uC) fun g' w' v hs hr=>⟨g',hs,hr⟩) (fun uE hv=>?_)
  obtain ⟨_,_,_,rfl⟩:=hv
  refine L_p (.int .i64 ((w64 ((x1).Picks * y6)))) rfl rfl (P_int rfl rfl rfl) ?_
  refine L_p (.int .i64 (l5)) rfl rfl (Zk nB) ?_
  refine L_p (.int .i64 ((w64 ((w64 ((x1).Picks * y6)) * l5)))) rfl rfl (P_int rfl rfl rfl) ?_
  refine L_p (.int .i64 (k8)) rfl rfl (P_int rfl rfl (congrArg (Option.map (Value.int .i64)) vC)) ?_
  refine L_p (.int .i64 (k8)) rfl rfl (P_assign rfl) ?_
  refine L_nl fun vE xE hs=>?_
  have hfr:=hfr.ext hs
  clear hs
  refine Zb (Zd (E_ret ?_))
  obtain rfl:=sinj h
  exact end1 rfl rfl (show _=.int .i64 (k8) from rfl) ⟨_,hfr,rfl⟩
def f59 (x0:PayPayList) (x1:PayPiece) (x2:Int):Option (Int):=
 (f57 x0 x1).bind fun y6=>
 (f58 x0 y6 x2).bind fun y9=>
 some ((w64 (y6 - y9)))
theorem en59:Enters Tryz.prog 59:=enters_of Tryz.func59 (by kernel_rfl) rfl
theorem wk59 {gI:Gh} {wI:World} {x0:PayPayList} {x1:PayPiece} {x2:Int} {up0:Value} (rp0:RV gI.m wI x0 up0) {up1:Value} (rp1:RV gI.m wI x1 up1) {r:Int} (h:f59 x0 x1 x2=some r):Fn Tryz.prog 59 #[up0,up1,.int .i64 (x2)] gI wI (fun _ _ v=>v=.int .i64 (r)):=by
 unfold f59 at h
 refine fn_of_E Tryz.func59 rfl (Nat.le_of_ble_eq_true rfl) fun g0 hm hfr=>?_
 have rp0:RV g0.m wI x0 up0:=hm ▸ rp0
 have rp1:RV g0.m wI x1 up1:=hm ▸ rp1
 show E _ 17 none _ _ _ _ _
 refine Zf (Za (Ze .plain rfl (D_box (g:=g0) rfl rp0 fun g1 w1 p1 hs q1=>?_)))
 have hfr:=hfr.ext hs
 have rp1:=rp1.ext hs
 refine Ze .plain rfl (D_box (g:=g1) rfl rp1 fun g2 w2 p2 hs q2=>?_)
 have hfr:=hfr.ext hs
 have q1:=q1.ext hs
 refine Zg (.int .i64 (0)) rfl rfl ?_
 refine Zb (Zd (Zf (Za (Ze .plain rfl (D_load (g:=g2) Tryz.isAgg153 Tryz.sizeOf153 rfl q1 fun v3 r3=>?_)))))
 refine Ze .plain rfl (D_load (g:=g2) Tryz.isAgg68 Tryz.sizeOf68 rfl q2 fun v4 r4=>?_)
 obtain ⟨y6,o0,h⟩:=bsome h
 refine Ze .plain rfl (Zp (g:=g2) (vs:=[v3,v4]) en57 (.cons rfl (.cons rfl .nil)) (wk57 r3 r4 o0) fun g5 w5_ v5 hs hr=>?_)
 have hfr:=hfr.ext hs
 have q1:=q1.ext hs
 subst hr
 refine Zg (.int .i64 (y6)) rfl rfl ?_
 refine Zb (Zd (Zf (Za (Zn (.int .i64 (y6)) rfl rfl ?_))))
 refine Ze .plain rfl (D_load (g:=g5) Tryz.isAgg153 Tryz.sizeOf153 rfl q1 fun v7 r7=>?_)
 refine Zn (.int .i64 (y6)) rfl rfl ?_
 refine Zn (.int .i64 (x2)) rfl rfl ?_
 obtain ⟨y9,u3,h⟩:=bsome h
 refine Ze .plain rfl (Zp (g:=g5) (vs:=[v7,.int .i64 (y6),.int .i64 (x2)]) en58 (.cons rfl (.cons rfl (.cons rfl .nil))) (wk58 r7 u3) fun g8 w8_ v8 hs hr=>?_)
 have hfr:=hfr.ext hs
 subst hr
 refine EL_in (.int .i64 ((w64 (y6 - y9)))) rfl rfl rfl rfl ?_
 refine Zg (.int .i64 ((w64 (y6 - y9)))) rfl rfl ?_
 refine Zb (Zd (E_ret ?_))
 obtain rfl:=sinj h
 exact end1 rfl rfl (show _=.int .i64 ((w64 (y6 - y9))) from rfl) ⟨_,hfr,rfl⟩
def f60 (x0:PayList):Option (Int):=
 jn (σ:=Unit) (fun _=>
  some ((0:Int))
  ) fun y9=>
 Option.bind (α:=Bool) (
  bif (decide ((((x0).Rates).length : Int) > (6 : Int))) then
   some ((decide ((((x0).Rates).length:Int) > (6:Int))))
  else
   some ((decide ((((x0).Extras).length:Int) > (8:Int))))
  ) fun l5=>
 bif l5 then
  some ((5:Int))
 else
  Option.bind (α:=Bool) (
   (f103 ((⟨x0⟩:PayPayList))).bind fun k8=>
   bif (!k8) then
    some ((!k8))
   else
    (f104 ((x0).Extras)).bind fun x5=>
    bif (!x5) then
     some ((!x5))
    else
     (f63 ((0:Int)) ((1000:Int)) (([(x0).Fine]:List Int))).bind fun i6=>
     bif (!i6) then
      some ((!i6))
     else
      (f104 (([(x0).Cap]:List Int))).bind fun y6=>
      some ((!y6))
   ) fun u3=>
  bif u3 then
   some ((2:Int))
  else
   y9 ()
theorem en60:Enters Tryz.prog 60:=enters_of Tryz.func60 (by kernel_rfl) rfl
theorem wk60 {gI:Gh} {wI:World} {x0:PayList} {up0:Value} (rp0:RV gI.m wI x0 up0) {r:Int} (h:f60 x0=some r):Fn Tryz.prog 60 #[up0] gI wI (fun _ _ v=>v=.int .i64 (r)):=by
 unfold f60 at h
 refine fn_of_E Tryz.func60 rfl (Nat.le_of_ble_eq_true rfl) fun g0 hm hfr=>?_
 have rp0:RV g0.m wI x0 up0:=hm ▸ rp0
 show E _ 31 none _ _ _ _ _
 refine Zf (Za (Ze .plain rfl (D_box (g:=g0) rfl rp0 fun g1 w1 p1 hs q1=>?_)))
 have hfr:=hfr.ext hs
 refine Zg (.int .i64 (0)) rfl rfl ?_
 refine Zb (Zd (Zq h (fun (s:Unit) e w=>∃ (g:Gh) ,Fr gI wI g w) (fun X58 y9 rA h=>?_) ?_))
 ·refine Zr ?_
  obtain ⟨l5,hx,h⟩:=bsome h
  refine E_join (fun e w=>∃ (g:Gh) ,Fr gI wI g w∧e 1=p1∧PT g.m w (x0:PayList) p1∧e 3=.bool (l5)) (fun Q' hQ=>?_) (fun nD lE hR=>?_)
  ·replace h := hx
   clear hx
   refine Zf (Za (EL_p (fPtr p1 0) (Zc at_59_0 rfl (PT.ptr q1)) rfl ?_))
   have qC:=Zm (part_PayList_0).1 q1
   refine Ze .plain rfl (D_load (g:=g1) Tryz.isAgg57 Tryz.sizeOf57 rfl qC fun mE rC=>?_)
   refine EL_p (.int .i64 (((x0).Rates).length:Int)) (P_len Tryz.underlying57 rfl rC) rfl ?_
   refine EL_p (.bool ((decide ((((x0).Rates).length:Int) > (6:Int))))) (P_int rfl rfl rfl) rfl ?_
   refine EL_p (.bool ((decide ((((x0).Rates).length:Int) > (6:Int))))) (P_assign rfl) rfl ?_
   refine Zb (Zd ?_)
   rcases Zt h with ⟨l8,h⟩ | ⟨l8,h⟩
   ·refine E_ct l8 rfl ?_
    refine Zu ?_
    obtain rfl:=sinj h
    exact hQ _ _ ⟨g1,hfr,rfl,q1,rfl⟩
   ·refine E_cf l8 rfl ?_
    refine Za (EL_p (fPtr p1 1) (Zc at_59_1 rfl (PT.ptr q1)) rfl ?_)
    have uC:=Zm (part_PayList_1).1 q1
    refine Ze .plain rfl (D_load (g:=g1) Tryz.isAgg28 Tryz.sizeOf28 rfl uC fun oE vC=>?_)
    refine EL_p (.int .i64 (((x0).Extras).length:Int)) (P_len Tryz.underlying28 rfl vC) rfl ?_
    refine EL_p (.bool ((decide ((((x0).Extras).length:Int) > (8:Int))))) (P_int rfl rfl rfl) rfl ?_
    refine EL_p (.bool ((decide ((((x0).Extras).length:Int) > (8:Int))))) (P_assign rfl) rfl ?_
    refine Zb ?_
    obtain rfl:=sinj h
    exact hQ _ _ ⟨g1,hfr,rfl,q1,rfl⟩
  ·clear hx
   obtain ⟨a9,hfr,t5,o0,x8⟩:=hR
   rcases Zt h with ⟨m8,h⟩ | ⟨m8,h⟩
   ·refine E_cond_true (Eq.trans (show ev _ _ = .bool (l5) from x8) (congrArg Value.bool m8)) ?_
    refine Zf (Za (Zg (.int .i64 (5)) rfl rfl ?_))
    refine Zb (Zd (E_ret (blk_r ?_)))
    refine thn_r ?_
    obtain rfl:=sinj h
    exact end1 rfl rfl (show _=.int .i64 (5) from rfl) ⟨_,hfr,rfl⟩
   ·refine E_cond_false (Eq.trans (show ev _ _ = .bool (l5) from x8) (congrArg Value.bool m8)) ?_
    obtain ⟨u3,hx,h⟩:=bsome h
    refine E_join (fun e w=>∃ (g:Gh) ,Fr gI wI g w∧e 12=.bool (u3)) (fun Q' hQ=>?_) (fun eD oD hR=>?_)
    ·replace h := hx
     clear hx
     refine Zf (Za (Ze .plain rfl (D_load (g:=a9) Tryz.isAgg59 Tryz.sizeOf59 t5 o0 fun d9 z9=>?_)))
     have bA:RV a9.m _ (⟨x0⟩:PayPayList) (.agg (setCh [[.slice none 0 0,.slice none 0 0,.int .i64 0,.int .i64 0]] [(0,d9)]).flatten.toArray):=RV_build rfl (rep_last (RV.cells z9))
     generalize yA:(Value.agg (setCh [[.slice none 0 0,.slice none 0 0,.int .i64 0,.int .i64 0]] [(0,d9)]).flatten.toArray)=iA at bA
     refine EL_p iA (yA ▸ P_build (vs:=[(0,d9)]) [[.slice none 0 0,.slice none 0 0,.int .i64 0,.int .i64 0]] lay_153 rfl rfl (.cons rfl .nil) ⟨⟨_,rfl,cells_size z9⟩,trivial⟩) rfl ?_
     obtain ⟨k8,aB,h⟩:=bsome h
     refine Ze .plain rfl (Zp (g:=a9) (vs:=[iA]) en103 (.cons rfl .nil) (wk103 bA aB) fun k9 sD rE hs hr=>?_)
     have hfr:=hfr.ext hs
     have o0:=o0.ext hs
     subst hr
     refine EL_p (.bool (!k8)) (P_not rfl) rfl ?_
     refine Zg (.bool (!k8)) rfl rfl ?_
     refine Zb (Zd ?_)
     rcases Zt h with ⟨n8,h⟩ | ⟨n8,h⟩
     ·refine E_ct n8 rfl ?_
      refine Zu ?_
      obtain rfl:=sinj h
      exact hQ _ _ ⟨k9,hfr,rfl⟩
     ·refine E_cf n8 rfl ?_
      refine Zf (Za (EL_p (fPtr p1 1) (Zc at_59_1 t5 (PT.ptr o0)) rfl ?_))
      have aD:=Zm (part_PayList_1).1 o0
      refine Ze .plain rfl (D_load (g:=k9) Tryz.isAgg28 Tryz.sizeOf28 rfl aD fun bD cD=>?_)
      obtain ⟨x5,l9,h⟩:=bsome h
      refine Ze .plain rfl (Zp (g:=k9) (vs:=[bD]) en104 (.cons rfl .nil) (wk104 cD l9) fun r8 gD tD hs hr=>?_)
      have hfr:=hfr.ext hs
      have o0:=o0.ext hs
      subst hr
      refine EL_p (.bool (!x5)) (P_not rfl) rfl ?_
      refine Zg (.bool (!x5)) rfl rfl ?_
      refine Zb (Zd ?_)
      rcases Zt h with ⟨i7,h⟩ | ⟨i7,h⟩
      ·refine E_ct i7 rfl ?_
       refine Zu ?_
       obtain rfl:=sinj h
       exact hQ _ _ ⟨r8,hfr,rfl⟩
      ·refine E_cf i7 rfl ?_
       refine Zf (Za (EL_p (fPtr p1 2) (Zc at_59_2 t5 (PT.ptr o0)) rfl ?_))
       have dB:=Zm (part_PayList_2).1 o0
       refine Ze .plain rfl (D_load (g:=r8) Tryz.isAgg3 Tryz.sizeOf3 rfl dB fun uD iB=>?_)
       obtain rfl:=Zj.1 iB
       refine Ze .plain rfl (D_buildSlice (g:=r8) 3023 (xs:=([(x0).Fine]:List Int)) (vs:=[.int .i64 ((x0).Fine)]) Tryz.underlying28 Tryz.sizeOf3 Tryz.zeroValue3 rfl rfl (.cons rfl .nil) (RVs.cons (Zj.2 rfl) RVs.nil) rfl rfl fun lB vD mB hs o105 nB hxt hfl=>?_)
       have hfr:=hfr.stp hs
       have o0:=o0.stp hs
       obtain ⟨i6,n9,h⟩:=bsome h
       refine Ze .plain rfl (Zp (g:=lB) (vs:=[.int .i64 (0),.int .i64 (1000),mB]) en63 (.cons rfl (.cons rfl (.cons rfl .nil))) (wk63 nB n9) fun v8 iD xD hs hr=>?_)
       have hfr:=hfr.ext hs
       have o0:=o0.ext hs
       subst hr
       refine EL_p (.bool (!i6)) (P_not rfl) rfl ?_
       refine Zg (.bool (!i6)) rfl rfl ?_
       refine Zb (Zd ?_)
       rcases Zt h with ⟨m7,h⟩ | ⟨m7,h⟩
       ·refine E_ct m7 rfl ?_
        refine Zu ?_
        obtain rfl:=sinj h
        exact hQ _ _ ⟨v8,hfr,rfl⟩
       ·refine E_cf m7 rfl ?_
        refine Za (EL_p (fPtr p1 3) (Zc at_59_3 t5 (PT.ptr o0)) rfl ?_)
        have oB:=Zm (part_PayList_3).1 o0
        refine Ze .plain rfl (D_load (g:=v8) Tryz.isAgg3 Tryz.sizeOf3 rfl oB fun yD tB=>?_)
        obtain rfl:=Zj.1 tB
        refine Ze .plain rfl (D_buildSlice (g:=v8) 3028 (xs:=([(x0).Cap]:List Int)) (vs:=[.int .i64 ((x0).Cap)]) Tryz.underlying28 Tryz.sizeOf3 Tryz.zeroValue3 rfl rfl (.cons rfl .nil) (RVs.cons (Zj.2 rfl) RVs.nil) rfl rfl fun vB zD yB hs o111 zB hxt hfl=>?_)
        have hfr:=hfr.stp hs
        obtain ⟨y6,u9,h⟩:=bsome h
        refine Ze .plain rfl (Zp (g:=vB) (vs:=[yB]) en104 (.cons rfl .nil) (wk104 zB u9) fun cC jD aE hs hr=>?_)
        have hfr:=hfr.ext hs
        subst hr
        refine EL_p (.bool (!y6)) (P_not rfl) rfl ?_
        refine Zg (.bool (!y6)) rfl rfl ?_
        refine Zb ?_
        obtain rfl:=sinj h
        exact hQ _ _ ⟨cC,hfr,rfl⟩
    ·clear hx
     obtain ⟨mC,hfr,x6⟩:=hR
     rcases Zt h with ⟨g8,h⟩ | ⟨g8,h⟩
     ·refine E_cond_true (Eq.trans (show ev _ _ = .bool (u3) from x6) (congrArg Value.bool g8)) ?_
      refine Zf (Za (Zg (.int .i64 (2)) rfl rfl ?_))
      refine Zb (Zd (E_ret (blk_r ?_)))
      refine thn_r ?_
      obtain rfl:=sinj h
      exact end1 rfl rfl (show _=.int .i64 (2) from rfl) ⟨_,hfr,rfl⟩
     ·refine E_cond_false (Eq.trans (show ev _ _ = .bool (u3) from x6) (congrArg Value.bool g8)) ?_
      exact Zu (blk_n (Zd (rA () _ _ ⟨mC,hfr⟩ h)))
 ·rintro _ lD bE ⟨iE, hfr⟩ h
  refine Zf (Za (Zg (.int .i64 (0)) rfl rfl ?_))
  refine Zb (Zd (E_ret ?_))
  obtain rfl:=sinj h
  exact end1 rfl rfl (show _=.int .i64 (0) from rfl) ⟨_,hfr,rfl⟩
def f76 (x0:PayTable):Option (PaySheet × Int):=
 jn (σ:=PaySheet) (fun aB=>
  some ((⟨x0⟩:PaySheet),(0:Int))
  ) fun aD=>
 (f118 ((⟨x0⟩:PaySheet))).bind fun dB=>
 bif dB then
  some ((⟨x0⟩:PaySheet),(5:Int))
 else
  (f119 ((⟨x0⟩:PaySheet))).bind fun iA=>
  bif (!iA) then
   some ((⟨x0⟩:PaySheet),(4:Int))
  else
   Option.bind (α:=Bool) (
    (f44 ((x0).Rows)).bind fun iB=>
    (f120 iB).bind fun i7=>
    bif (!i7) then
     some ((!i7))
    else
     (f75 ((x0).Across)).bind fun m7=>
     bif (!m7) then
      some ((!m7))
     else
      (f75 ((x0).Down)).bind fun g8=>
      bif (!g8) then
       some ((!g8))
      else
       (f75 (([(x0).Total]:List Int))).bind fun m8=>
       some ((!m8))
    ) fun t5=>
   bif t5 then
    some ((⟨x0⟩:PaySheet),(2:Int))
   else
    (f114 ((⟨x0⟩:PaySheet))).bind fun k8=>
    bif (decide (((k8).length : Int) > (12 : Int))) then
     some ((⟨x0⟩:PaySheet),(8:Int))
    else
     aD ((⟨⟨[],[],[],0⟩⟩:PaySheet))
theorem en76:Enters Tryz.prog 76:=enters_of Tryz.func76 (by kernel_rfl) rfl
theorem wk76 {gI:Gh} {wI:World} {x0:PayTable} {up0:Value} (rp0:RV gI.m wI x0 up0) {r:PaySheet × Int} (h:f76 x0=some r):Fn Tryz.prog 76 #[up0] gI wI (fun m w v=>∃ y0 y1,v=.tuple #[y0,y1]∧RV m w (r.1) y0∧y1=.int .i64 (r.2)):=by
 unfold f76 at h
 refine fn_of_E Tryz.func76 rfl (Nat.le_of_ble_eq_true rfl) fun g0 hm hfr=>?_
 have rp0:RV g0.m wI x0 up0:=hm ▸ rp0
 show E _ 47 none _ _ _ _ _
 refine Zf (Za (Ze .plain rfl (D_box (g:=g0) rfl rp0 fun g1 w1 p1 hs q1=>?_)))
 have hfr:=hfr.ext hs
 refine Ze .plain rfl (D_allocOc (g:=g1) 2002 (⟨⟨[],[],[],0⟩⟩:PaySheet) Tryz.zeroValue173 (fun m w=>⟨_,(rep_two rep_nil (rep_two rep_nil (rep_two rep_nil rep_int))),rfl⟩) fun g2 w2 p2 hs b2 cb=>?_)
 have hfr:=hfr.stp hs
 have q1:=q1.stp hs
 have o0:OSF 2002 60200 0 g2 w2 28 173 ([]:List (List Int)) p2:=cb.osf (by rfl)
 have u3:OSF 2002 60201 1 g2 w2 3 173 ([]:List Int) p2:=cb.osf (by rfl)
 have l5:OSF 2002 60202 2 g2 w2 3 173 ([]:List Int) p2:=cb.osf (by rfl)
 clear cb
 refine Zg (.int .i64 (0)) rfl rfl ?_
 refine Zb (Zd (Zf (Za (Ze .plain rfl (D_load (g:=g2) Tryz.isAgg91 Tryz.sizeOf91 rfl q1 fun v3 r3=>?_)))))
 have r4:RV g2.m _ (⟨x0⟩:PaySheet) (.agg (setCh [[.slice none 0 0,.slice none 0 0,.slice none 0 0,.int .i64 0]] [(0,v3)]).flatten.toArray):=RV_build rfl (rep_last (RV.cells r3))
 generalize zE:(Value.agg (setCh [[.slice none 0 0,.slice none 0 0,.slice none 0 0,.int .i64 0]] [(0,v3)]).flatten.toArray)=v4 at r4
 refine EL_p v4 (zE ▸ P_build (vs:=[(0,v3)]) [[.slice none 0 0,.slice none 0 0,.slice none 0 0,.int .i64 0]] lay_173 rfl rfl (.cons rfl .nil) ⟨⟨_,rfl,cells_size r3⟩,trivial⟩) rfl ?_
 refine Ze .plain rfl (D_allocOc (g:=g2) 2004 (⟨⟨[],[],[],0⟩⟩:PaySheet) Tryz.zeroValue173 (fun m w=>⟨_,(rep_two rep_nil (rep_two rep_nil (rep_two rep_nil rep_int))),rfl⟩) fun g5 w5 p5 hs b5 cb=>?_)
 have hfr:=hfr.stp hs
 have o0:=o0.stp hs rfl
 have u3:=u3.stp hs rfl
 have l5:=l5.stp hs rfl
 have b2:=b2.stp hs rfl
 have r4:=r4.stp hs
 have hG:OSF 2004 60400 0 g5 w5 28 173 ([]:List (List Int)) p5:=cb.osf (by rfl)
 have iG:OSF 2004 60401 1 g5 w5 3 173 ([]:List Int) p5:=cb.osf (by rfl)
 have jG:OSF 2004 60402 2 g5 w5 3 173 ([]:List Int) p5:=cb.osf (by rfl)
 clear cb
 refine Ze .plain rfl (D_storeOc (g:=g5) (v:=v4) Tryz.sizeOf173 rfl b5 rfl r4 fun g6 w6 hs b6 cb=>?_)
 clear cb
 have hfr:=hfr.stp hs
 have o0:=o0.stp hs rfl
 have u3:=u3.stp hs rfl
 have l5:=l5.stp hs rfl
 have b2:=b2.stp hs rfl
 refine Zb (Zd (Zq h (fun (s:PaySheet) e w=>∃ (g:Gh) ,Fr gI wI g w∧e 2=p2∧OB 2002 g w 173 (s:PaySheet) p2∧OSF 2002 60200 0 g w 28 173 (((s).PayTable).Rows) p2∧OSF 2002 60201 1 g w 3 173 (((s).PayTable).Across) p2∧OSF 2002 60202 2 g w 3 173 (((s).PayTable).Down) p2∧e 4=p5∧OB 2004 g w 173 ((⟨x0⟩:PaySheet):PaySheet) p5) (fun X86 aD bD h=>?_) ?_))
 ·refine Zr ?_
  refine Zf (Za (Ze .plain rfl (D_loadO (g:=g6) Tryz.isAgg173 Tryz.sizeOf173 rfl b6 fun cF dF=>?_)))
  obtain ⟨dB,cD,h⟩:=bsome h
  refine Ze .plain rfl (Zp (g:=g6) (vs:=[cF]) en118 (.cons rfl .nil) (wk118 dF cD) fun rA kG oH hs hr=>?_)
  have hfr:=hfr.ext hs
  have o0:=o0.ext hs
  have u3:=u3.ext hs
  have l5:=l5.ext hs
  have b2:=b2.ext hs
  have b6:=b6.ext hs
  subst hr
  refine Zg (.bool (dB)) rfl rfl ?_
  refine Zb (Zd ?_)
  rcases Zt h with ⟨l9,h⟩ | ⟨l9,h⟩
  ·refine E_ct l9 rfl ?_
   refine Zf (Za (Ze .plain rfl (D_loadO (g:=rA) Tryz.isAgg173 Tryz.sizeOf173 rfl b6 fun eF rF=>?_)))
   refine Ze .plain rfl (D_storeOc (g:=rA) (v:=eF) Tryz.sizeOf173 rfl b2 rfl rF fun pH qH hs b92 cb=>?_)
   clear cb
   have hfr:=hfr.stp hs
   refine Zg (.int .i64 (5)) rfl rfl ?_
   refine Zb (Zd (E_ret (blk_r ?_)))
   refine thn_r ?_
   obtain rfl:=sinj h
   obtain ⟨ad93,cv93,hp93,eD,cr93⟩:=ob_read Tryz.isAgg173 Tryz.sizeOf173 b92
   exact endm_ct rfl rfl ((show _=p2 from rfl).trans hp93) eD (show _=.int .i64 (5) from rfl) ⟨_,hfr,_,_,rfl,cr93,rfl⟩
  ·refine E_cf l9 rfl ?_
   refine Zf (Za (Ze .plain rfl (D_loadO (g:=rA) Tryz.isAgg173 Tryz.sizeOf173 rfl b6 fun sF tF=>?_)))
   obtain ⟨iA,gD,h⟩:=bsome h
   refine Ze .plain rfl (Zp (g:=rA) (vs:=[sF]) en119 (.cons rfl .nil) (wk119 tF gD) fun yA lG sH hs hr=>?_)
   have hfr:=hfr.ext hs
   have o0:=o0.ext hs
   have u3:=u3.ext hs
   have l5:=l5.ext hs
   have b2:=b2.ext hs
   have b6:=b6.ext hs
   subst hr
   refine EL_p (.bool (!iA)) (P_not rfl) rfl ?_
   refine Zg (.bool (!iA)) rfl rfl ?_
   refine Zb (Zd ?_)
   rcases Zt h with ⟨n9,h⟩ | ⟨n9,h⟩
   ·refine E_ct n9 rfl ?_
    refine Zf (Za (Ze .plain rfl (D_loadO (g:=yA) Tryz.isAgg173 Tryz.sizeOf173 rfl b6 fun uF vF=>?_)))
    refine Ze .plain rfl (D_storeOc (g:=yA) (v:=uF) Tryz.sizeOf173 rfl b2 rfl vF fun tH uH hs b99 cb=>?_)
    clear cb
    have hfr:=hfr.stp hs
    refine Zg (.int .i64 (4)) rfl rfl ?_
    refine Zb (Zd (E_ret (blk_r ?_)))
    refine thn_r ?_
    obtain rfl:=sinj h
    obtain ⟨ad100,cv100,hp100,tB,cr100⟩:=ob_read Tryz.isAgg173 Tryz.sizeOf173 b99
    exact endm_ct rfl rfl ((show _=p2 from rfl).trans hp100) tB (show _=.int .i64 (4) from rfl) ⟨_,hfr,_,_,rfl,cr100,rfl⟩
   ·refine E_cf n9 rfl ?_
    obtain ⟨t5,hx,h⟩:=bsome h
    refine E_join (fun e w=>∃ (g:Gh) ,Fr gI wI g w∧e 2=p2∧OB 2002 g w 173 ((⟨⟨[],[],[],0⟩⟩:PaySheet):PaySheet) p2∧OSF 2002 60200 0 g w 28 173 ((((⟨⟨[],[],[],0⟩⟩:PaySheet)).PayTable).Rows) p2∧OSF 2002 60201 1 g w 3 173 ((((⟨⟨[],[],[],0⟩⟩:PaySheet)).PayTable).Across) p2∧OSF 2002 60202 2 g w 3 173 ((((⟨⟨[],[],[],0⟩⟩:PaySheet)).PayTable).Down) p2∧e 4=p5∧OB 2004 g w 173 ((⟨x0⟩:PaySheet):PaySheet) p5∧e 16=.bool (t5)) (fun Q' hQ=>?_) (fun xF mG hR=>?_)
    ·replace h := hx
     clear hx
     refine Zf (Za (EL_p (fPtr p5 0) (Zc at_173_0 rfl (OB.ptr b6)) rfl ?_))
     refine EL_p (fPtr p5 0) (P_fieldAddr2 (o1:=0) rfl at_91_0 rfl (OB.ptr b6)) rfl ?_
     refine Ze .plain rfl (D_loadF (g:=yA) (SubS.comp part_PaySheet_0 part_PayTable_0 rfl).1 Tryz.isAgg35 Tryz.sizeOf35 rfl b6 fun iD jD=>?_)
     obtain ⟨iB,vB,h⟩:=bsome h
     refine Ze .plain rfl (Zp (g:=yA) (vs:=[iD]) en44 (.cons rfl .nil) (wk44 jD vB) fun lD yF nD hs hr=>?_)
     have hfr:=hfr.ext hs
     have o0:=o0.ext hs
     have u3:=u3.ext hs
     have l5:=l5.ext hs
     have b2:=b2.ext hs
     have b6:=b6.ext hs
     have oD:=hr
     obtain ⟨i7,yB,h⟩:=bsome h
     refine Ze .plain rfl (Zp (g:=lD) (vs:=[nD]) en120 (.cons rfl .nil) (wk120 oD yB) fun u9 zF sG hs hr=>?_)
     have hfr:=hfr.ext hs
     have o0:=o0.ext hs
     have u3:=u3.ext hs
     have l5:=l5.ext hs
     have b2:=b2.ext hs
     have b6:=b6.ext hs
     subst hr
     refine EL_p (.bool (!i7)) (P_not rfl) rfl ?_
     refine Zg (.bool (!i7)) rfl rfl ?_
     refine Zb (Zd ?_)
     rcases Zt h with ⟨n8,h⟩ | ⟨n8,h⟩
     ·refine E_ct n8 rfl ?_
      refine Zu ?_
      obtain rfl:=sinj h
      exact hQ _ _ ⟨u9,hfr,rfl,b2,o0,u3,l5,rfl,b6,rfl⟩
     ·refine E_cf n8 rfl ?_
      refine Zf (Za (EL_p (fPtr p5 0) (Zc at_173_0 rfl (OB.ptr b6)) rfl ?_))
      refine EL_p (fPtr p5 1) (P_fieldAddr2 (o1:=0) rfl at_91_1 rfl (OB.ptr b6)) rfl ?_
      refine Ze .plain rfl (D_loadF (g:=u9) (SubS.comp part_PaySheet_0 part_PayTable_1 rfl).1 Tryz.isAgg28 Tryz.sizeOf28 rfl b6 fun sD tD=>?_)
      obtain ⟨m7,zB,h⟩:=bsome h
      refine Ze .plain rfl (Zp (g:=u9) (vs:=[sD]) en75 (.cons rfl .nil) (wk75 tD zB) fun y9 aG xG hs hr=>?_)
      have hfr:=hfr.ext hs
      have o0:=o0.ext hs
      have u3:=u3.ext hs
      have l5:=l5.ext hs
      have b2:=b2.ext hs
      have b6:=b6.ext hs
      subst hr
      refine EL_p (.bool (!m7)) (P_not rfl) rfl ?_
      refine Zg (.bool (!m7)) rfl rfl ?_
      refine Zb (Zd ?_)
      rcases Zt h with ⟨r8,h⟩ | ⟨r8,h⟩
      ·refine E_ct r8 rfl ?_
       refine Zu ?_
       obtain rfl:=sinj h
       exact hQ _ _ ⟨y9,hfr,rfl,b2,o0,u3,l5,rfl,b6,rfl⟩
      ·refine E_cf r8 rfl ?_
       refine Zf (Za (EL_p (fPtr p5 0) (Zc at_173_0 rfl (OB.ptr b6)) rfl ?_))
       refine EL_p (fPtr p5 2) (P_fieldAddr2 (o1:=0) rfl at_91_2 rfl (OB.ptr b6)) rfl ?_
       refine Ze .plain rfl (D_loadF (g:=y9) (SubS.comp part_PaySheet_0 part_PayTable_2 rfl).1 Tryz.isAgg28 Tryz.sizeOf28 rfl b6 fun uD vD=>?_)
       obtain ⟨g8,cC,h⟩:=bsome h
       refine Ze .plain rfl (Zp (g:=y9) (vs:=[uD]) en75 (.cons rfl .nil) (wk75 vD cC) fun z9 bG yG hs hr=>?_)
       have hfr:=hfr.ext hs
       have o0:=o0.ext hs
       have u3:=u3.ext hs
       have l5:=l5.ext hs
       have b2:=b2.ext hs
       have b6:=b6.ext hs
       subst hr
       refine EL_p (.bool (!g8)) (P_not rfl) rfl ?_
       refine Zg (.bool (!g8)) rfl rfl ?_
       refine Zb (Zd ?_)
       rcases Zt h with ⟨v8,h⟩ | ⟨v8,h⟩
       ·refine E_ct v8 rfl ?_
        refine Zu ?_
        obtain rfl:=sinj h
        exact hQ _ _ ⟨z9,hfr,rfl,b2,o0,u3,l5,rfl,b6,rfl⟩
       ·refine E_cf v8 rfl ?_
        refine Za (EL_p (fPtr p5 0) (Zc at_173_0 rfl (OB.ptr b6)) rfl ?_)
        refine EL_p (fPtr p5 3) (P_fieldAddr2 (o1:=0) rfl at_91_3 rfl (OB.ptr b6)) rfl ?_
        refine Ze .plain rfl (D_loadF (g:=z9) (SubS.comp part_PaySheet_0 part_PayTable_3 rfl).1 Tryz.isAgg3 Tryz.sizeOf3 rfl b6 fun zG xD=>?_)
        obtain rfl:=Zj.1 xD
        refine Ze .plain rfl (D_buildSlice (g:=z9) 3036 (xs:=([(x0).Total]:List Int)) (vs:=[.int .i64 ((x0).Total)]) Tryz.underlying28 Tryz.sizeOf3 Tryz.zeroValue3 rfl rfl (.cons rfl .nil) (RVs.cons (Zj.2 rfl) RVs.nil) rfl rfl fun yD aH zD hs o150 aE hxt hfl=>?_)
        have hfr:=hfr.stp hs
        have o0:=o0.stp hs rfl
        have u3:=u3.stp hs rfl
        have l5:=l5.stp hs rfl
        have b2:=b2.stp hs rfl
        have b6:=b6.stp hs rfl
        obtain ⟨m8,mC,h⟩:=bsome h
        refine Ze .plain rfl (Zp (g:=yD) (vs:=[zD]) en75 (.cons rfl .nil) (wk75 aE mC) fun bE cG cH hs hr=>?_)
        have hfr:=hfr.ext hs
        have o0:=o0.ext hs
        have u3:=u3.ext hs
        have l5:=l5.ext hs
        have b2:=b2.ext hs
        have b6:=b6.ext hs
        subst hr
        refine EL_p (.bool (!m8)) (P_not rfl) rfl ?_
        refine Zg (.bool (!m8)) rfl rfl ?_
        refine Zb ?_
        obtain rfl:=sinj h
        exact hQ _ _ ⟨bE,hfr,rfl,b2,o0,u3,l5,rfl,b6,rfl⟩
    ·clear hx
     obtain ⟨x8,hfr,i6,x6,u2_0_153,u2_1_153,u2_2_153,y6,x5,l8⟩:=hR
     rcases Zt h with ⟨a9,h⟩ | ⟨a9,h⟩
     ·refine E_cond_true (Eq.trans (show ev _ _ = .bool (t5) from l8) (congrArg Value.bool a9)) ?_
      refine Zf (Za (Ze .plain rfl (D_loadO (g:=x8) Tryz.isAgg173 Tryz.sizeOf173 y6 x5 fun iE lE=>?_)))
      refine Ze .plain rfl (D_storeOc (g:=x8) (v:=iE) Tryz.sizeOf173 i6 x6 rfl lE fun dH gH hs b156 cb=>?_)
      clear cb
      have hfr:=hfr.stp hs
      refine Zg (.int .i64 (2)) rfl rfl ?_
      refine Zb (Zd (E_ret (blk_r ?_)))
      refine thn_r ?_
      obtain rfl:=sinj h
      obtain ⟨ad157,cv157,hp157,qC,cr157⟩:=ob_read Tryz.isAgg173 Tryz.sizeOf173 b156
      exact endm_ct rfl rfl ((show _=p2 from i6).trans hp157) qC (show _=.int .i64 (2) from rfl) ⟨_,hfr,_,_,rfl,cr157,rfl⟩
     ·refine E_cond_false (Eq.trans (show ev _ _ = .bool (t5) from l8) (congrArg Value.bool a9)) ?_
      refine Zf (Za (Ze .plain rfl (D_loadO (g:=x8) Tryz.isAgg173 Tryz.sizeOf173 y6 x5 fun mE oE=>?_)))
      obtain ⟨k8,rC,h⟩:=bsome h
      refine Ze .plain rfl (Zp (g:=x8) (vs:=[mE]) en114 (.cons rfl .nil) (wk114 oE rC) fun bA eG iH hs hr=>?_)
      have hfr:=hfr.ext hs
      have u2_0_153:=u2_0_153.ext hs
      have u2_1_153:=u2_1_153.ext hs
      have u2_2_153:=u2_2_153.ext hs
      have x6:=x6.ext hs
      have x5:=x5.ext hs
      have rE:=hr
      refine EL_p (.int .i64 ((k8).length:Int)) (P_len Tryz.underlying184 rfl rE) rfl ?_
      refine EL_in (.bool ((decide (((k8).length:Int) > (12:Int))))) rfl rfl rfl rfl ?_
      refine Zg (.bool ((decide (((k8).length:Int) > (12:Int))))) rfl rfl ?_
      refine Zb (Zd ?_)
      rcases Zt h with ⟨d9,h⟩ | ⟨d9,h⟩
      ·refine E_ct d9 rfl ?_
       refine Zf (Za (Ze .plain rfl (D_loadO (g:=bA) Tryz.isAgg173 Tryz.sizeOf173 y6 x5 fun uE vE=>?_)))
       refine Ze .plain rfl (D_storeOc (g:=bA) (v:=uE) Tryz.sizeOf173 i6 x6 rfl vE fun jH kH hs b163 cb=>?_)
       clear cb
       have hfr:=hfr.stp hs
       refine Zg (.int .i64 (8)) rfl rfl ?_
       refine Zb (Zd (E_ret (blk_r ?_)))
       refine thn_r ?_
       obtain rfl:=sinj h
       obtain ⟨ad164,cv164,hp164,uC,cr164⟩:=ob_read Tryz.isAgg173 Tryz.sizeOf173 b163
       exact endm_ct rfl rfl ((show _=p2 from i6).trans hp164) uC (show _=.int .i64 (8) from rfl) ⟨_,hfr,_,_,rfl,cr164,rfl⟩
      ·refine E_cf d9 rfl ?_
       exact Zu (blk_n (Zd (bD ((⟨⟨[],[],[],0⟩⟩:PaySheet)) _ _ ⟨bA,hfr,i6,x6,u2_0_153,u2_1_153,u2_2_153,y6,x5⟩ h)))
 ·rintro aB gG lH ⟨lB, hfr, k9, mB, u2_0_165, u2_1_165, u2_2_165, nB, oB⟩ h
  refine Zf (Za (Ze .plain rfl (D_loadO (g:=lB) Tryz.isAgg173 Tryz.sizeOf173 nB oB fun xE yE=>?_)))
  refine Ze .plain rfl (D_storeOc (g:=lB) (v:=xE) Tryz.sizeOf173 k9 mB rfl yE fun mH nH hs b167 cb=>?_)
  clear cb
  have hfr:=hfr.stp hs
  refine Zg (.int .i64 (0)) rfl rfl ?_
  refine Zb (Zd (E_ret ?_))
  obtain rfl:=sinj h
  obtain ⟨ad168,cv168,hp168,vC,cr168⟩:=ob_read Tryz.isAgg173 Tryz.sizeOf173 b167
  exact endm_ct rfl rfl ((show _=p2 from k9).trans hp168) vC (show _=.int .i64 (0) from rfl) ⟨_,hfr,_,_,rfl,cr168,rfl⟩
def f88 (x0:LoomOrder):Option (Bool):=
 (f89 x0).bind fun y4=>
 some ((!y4))
theorem en88:Enters Tryz.prog 88:=enters_of Tryz.func88 (by kernel_rfl) rfl
theorem wk88 {gI:Gh} {wI:World} {x0:LoomOrder} {up0:Value} (rp0:RV gI.m wI x0 up0) {r:Bool} (h:f88 x0=some r):Fn Tryz.prog 88 #[up0] gI wI (fun _ _ v=>v=.bool (r)):=by
 unfold f88 at h
 refine fn_of_E Tryz.func88 rfl (Nat.le_of_ble_eq_true rfl) fun g0 hm hfr=>?_
 have rp0:RV g0.m wI x0 up0:=hm ▸ rp0
 show E _ 6 none _ _ _ _ _
 refine Zf (Za (Ze .plain rfl (D_box (g:=g0) rfl rp0 fun g1 w1 p1 hs q1=>?_)))
 have hfr:=hfr.ext hs
 refine Zg (.bool false) rfl rfl ?_
 refine Zb (Zd (Zf (Za (Ze .plain rfl (D_load (g:=g1) Tryz.isAgg49 Tryz.sizeOf49 rfl q1 fun v2 r2=>?_)))))
 obtain ⟨y4,o0,h⟩:=bsome h
 refine Ze .plain rfl (Zp (g:=g1) (vs:=[v2]) en89 (.cons rfl .nil) (wk89 r2 o0) fun g3 w3_ v3 hs hr=>?_)
 have hfr:=hfr.ext hs
 subst hr
 refine EL_p (.bool (!y4)) (P_not rfl) rfl ?_
 refine Zg (.bool (!y4)) rfl rfl ?_
 refine Zb (Zd (E_ret ?_))
 obtain rfl:=sinj h
 exact end1 rfl rfl (show _=.bool (!y4) from rfl) ⟨_,hfr,rfl⟩
def f101 (x0:PayPayList) (x1:PayPiece):Option (Int):=
 jn (σ:=Unit) (fun _=>
  some ((0:Int))
  ) fun iA=>
 Option.bind (α:=Bool) (
  (f63 ((0:Int)) ((50:Int)) (([(x1).Weaver]:List Int))).bind fun g8=>
  bif (!g8) then
   some ((!g8))
  else
   (f63 ((0:Int)) ((1000:Int)) (([(x1).Dense]:List Int))).bind fun k8=>
   bif (!k8) then
    some ((!k8))
   else
    (f63 ((0:Int)) ((1000000:Int)) (([(x1).Picks]:List Int))).bind fun l5=>
    bif (!l5) then
     some ((!l5))
    else
     (f63 ((0:Int)) ((100:Int)) (([(x1).Faults]:List Int))).bind fun t5=>
     some ((!t5))
  ) fun u3=>
 bif u3 then
  some ((2:Int))
 else
  (f63 ((0:Int)) ((w64 (((((x0).PayList).Extras).length:Int) - (1:Int)))) ((x1).Extras)).bind fun x5=>
  bif (!x5) then
   some ((7:Int))
  else
   (f140 ((x1).Extras)).bind fun y125=>
   bif (!y125) then
    some ((4:Int))
   else
    iA ()
theorem en101:Enters Tryz.prog 101:=enters_of Tryz.func101 (by kernel_rfl) rfl
theorem wk101 {gI:Gh} {wI:World} {x0:PayPayList} {x1:PayPiece} {up0:Value} (rp0:RV gI.m wI x0 up0) {up1:Value} (rp1:RV gI.m wI x1 up1) {r:Int} (h:f101 x0 x1=some r):Fn Tryz.prog 101 #[up0,up1] gI wI (fun _ _ v=>v=.int .i64 (r)):=by
 unfold f101 at h
 refine fn_of_E Tryz.func101 rfl (Nat.le_of_ble_eq_true rfl) fun g0 hm hfr=>?_
 have rp0:RV g0.m wI x0 up0:=hm ▸ rp0
 have rp1:RV g0.m wI x1 up1:=hm ▸ rp1
 show E _ 41 none _ _ _ _ _
 refine Zf (Za (Ze .plain rfl (D_box (g:=g0) rfl rp0 fun g1 w1 p1 hs q1=>?_)))
 have hfr:=hfr.ext hs
 have rp1:=rp1.ext hs
 refine Ze .plain rfl (D_box (g:=g1) rfl rp1 fun g2 w2 p2 hs q2=>?_)
 have hfr:=hfr.ext hs
 have q1:=q1.ext hs
 refine Zg (.int .i64 (0)) rfl rfl ?_
 refine Zb (Zd (Zq h (fun (s:Unit) e w=>∃ (g:Gh) ,Fr gI wI g w) (fun X65 iA rA h=>?_) ?_))
 ·refine Zr ?_
  obtain ⟨u3,hx,h⟩:=bsome h
  refine E_join (fun e w=>∃ (g:Gh) ,Fr gI wI g w∧e 2=p1∧PT g.m w (x0:PayPayList) p1∧e 3=p2∧PT g.m w (x1:PayPiece) p2∧e 5=.bool (u3)) (fun Q' hQ=>?_) (fun xD lE hR=>?_)
  ·replace h := hx
   clear hx
   refine Zf (Za (EL_p (fPtr p2 0) (Zc at_68_0 rfl (PT.ptr q2)) rfl ?_))
   have gD:=Zm (part_PayPiece_0).1 q2
   refine Ze .plain rfl (D_load (g:=g2) Tryz.isAgg3 Tryz.sizeOf3 rfl gD fun tF iD=>?_)
   obtain rfl:=Zj.1 iD
   refine Ze .plain rfl (D_buildSlice (g:=g2) 3008 (xs:=([(x1).Weaver]:List Int)) (vs:=[.int .i64 ((x1).Weaver)]) Tryz.underlying28 Tryz.sizeOf3 Tryz.zeroValue3 rfl rfl (.cons rfl .nil) (RVs.cons (Zj.2 rfl) RVs.nil) rfl rfl fun jD uF lD hs o91 nD hxt hfl=>?_)
   have hfr:=hfr.stp hs
   have q1:=q1.stp hs
   have q2:=q2.stp hs
   obtain ⟨g8,yA,h⟩:=bsome h
   refine Ze .plain rfl (Zp (g:=jD) (vs:=[.int .i64 (0),.int .i64 (50),lD]) en63 (.cons rfl (.cons rfl (.cons rfl .nil))) (wk63 nD yA) fun a9 mE vF hs hr=>?_)
   have hfr:=hfr.ext hs
   have q1:=q1.ext hs
   have q2:=q2.ext hs
   subst hr
   refine EL_p (.bool (!g8)) (P_not rfl) rfl ?_
   refine Zg (.bool (!g8)) rfl rfl ?_
   refine Zb (Zd ?_)
   rcases Zt h with ⟨r8,h⟩ | ⟨r8,h⟩
   ·refine E_ct r8 rfl ?_
    refine Zu ?_
    obtain rfl:=sinj h
    exact hQ _ _ ⟨a9,hfr,rfl,q1,rfl,q2,rfl⟩
   ·refine E_cf r8 rfl ?_
    refine Zf (Za (EL_p (fPtr p2 1) (Zc at_68_1 rfl (PT.ptr q2)) rfl ?_))
    have oD:=Zm (part_PayPiece_1).1 q2
    refine Ze .plain rfl (D_load (g:=a9) Tryz.isAgg3 Tryz.sizeOf3 rfl oD fun xF sD=>?_)
    obtain rfl:=Zj.1 sD
    refine Ze .plain rfl (D_buildSlice (g:=a9) 3013 (xs:=([(x1).Dense]:List Int)) (vs:=[.int .i64 ((x1).Dense)]) Tryz.underlying28 Tryz.sizeOf3 Tryz.zeroValue3 rfl rfl (.cons rfl .nil) (RVs.cons (Zj.2 rfl) RVs.nil) rfl rfl fun tD yF uD hs o97 vD hxt hfl=>?_)
    have hfr:=hfr.stp hs
    have q1:=q1.stp hs
    have q2:=q2.stp hs
    obtain ⟨k8,aB,h⟩:=bsome h
    refine Ze .plain rfl (Zp (g:=tD) (vs:=[.int .i64 (0),.int .i64 (1000),uD]) en63 (.cons rfl (.cons rfl (.cons rfl .nil))) (wk63 vD aB) fun d9 oE zF hs hr=>?_)
    have hfr:=hfr.ext hs
    have q1:=q1.ext hs
    have q2:=q2.ext hs
    subst hr
    refine EL_p (.bool (!k8)) (P_not rfl) rfl ?_
    refine Zg (.bool (!k8)) rfl rfl ?_
    refine Zb (Zd ?_)
    rcases Zt h with ⟨i6,h⟩ | ⟨i6,h⟩
    ·refine E_ct i6 rfl ?_
     refine Zu ?_
     obtain rfl:=sinj h
     exact hQ _ _ ⟨d9,hfr,rfl,q1,rfl,q2,rfl⟩
    ·refine E_cf i6 rfl ?_
     refine Zf (Za (EL_p (fPtr p2 2) (Zc at_68_2 rfl (PT.ptr q2)) rfl ?_))
     have dB:=Zm (part_PayPiece_2).1 q2
     refine Ze .plain rfl (D_load (g:=d9) Tryz.isAgg3 Tryz.sizeOf3 rfl dB fun rE iB=>?_)
     obtain rfl:=Zj.1 iB
     refine Ze .plain rfl (D_buildSlice (g:=d9) 3018 (xs:=([(x1).Picks]:List Int)) (vs:=[.int .i64 ((x1).Picks)]) Tryz.underlying28 Tryz.sizeOf3 Tryz.zeroValue3 rfl rfl (.cons rfl .nil) (RVs.cons (Zj.2 rfl) RVs.nil) rfl rfl fun lB uE mB hs o103 nB hxt hfl=>?_)
     have hfr:=hfr.stp hs
     have q1:=q1.stp hs
     have q2:=q2.stp hs
     obtain ⟨l5,u9,h⟩:=bsome h
     refine Ze .plain rfl (Zp (g:=lB) (vs:=[.int .i64 (0),.int .i64 (1000000),mB]) en63 (.cons rfl (.cons rfl (.cons rfl .nil))) (wk63 nB u9) fun v8 yD vE hs hr=>?_)
     have hfr:=hfr.ext hs
     have q1:=q1.ext hs
     have q2:=q2.ext hs
     subst hr
     refine EL_p (.bool (!l5)) (P_not rfl) rfl ?_
     refine Zg (.bool (!l5)) rfl rfl ?_
     refine Zb (Zd ?_)
     rcases Zt h with ⟨x6,h⟩ | ⟨x6,h⟩
     ·refine E_ct x6 rfl ?_
      refine Zu ?_
      obtain rfl:=sinj h
      exact hQ _ _ ⟨v8,hfr,rfl,q1,rfl,q2,rfl⟩
     ·refine E_cf x6 rfl ?_
      refine Za (EL_p (fPtr p2 4) (Zc at_68_4 rfl (PT.ptr q2)) rfl ?_)
      have oB:=Zm (part_PayPiece_4).1 q2
      refine Ze .plain rfl (D_load (g:=v8) Tryz.isAgg3 Tryz.sizeOf3 rfl oB fun xE tB=>?_)
      obtain rfl:=Zj.1 tB
      refine Ze .plain rfl (D_buildSlice (g:=v8) 3023 (xs:=([(x1).Faults]:List Int)) (vs:=[.int .i64 ((x1).Faults)]) Tryz.underlying28 Tryz.sizeOf3 Tryz.zeroValue3 rfl rfl (.cons rfl .nil) (RVs.cons (Zj.2 rfl) RVs.nil) rfl rfl fun vB yE yB hs o109 zB hxt hfl=>?_)
      have hfr:=hfr.stp hs
      have q1:=q1.stp hs
      have q2:=q2.stp hs
      obtain ⟨t5,y9,h⟩:=bsome h
      refine Ze .plain rfl (Zp (g:=vB) (vs:=[.int .i64 (0),.int .i64 (100),yB]) en63 (.cons rfl (.cons rfl (.cons rfl .nil))) (wk63 zB y9) fun cC zD zE hs hr=>?_)
      have hfr:=hfr.ext hs
      have q1:=q1.ext hs
      have q2:=q2.ext hs
      subst hr
      refine EL_p (.bool (!t5)) (P_not rfl) rfl ?_
      refine Zg (.bool (!t5)) rfl rfl ?_
      refine Zb ?_
      obtain rfl:=sinj h
      exact hQ _ _ ⟨cC,hfr,rfl,q1,rfl,q2,rfl⟩
  ·clear hx
   obtain ⟨x8,hfr,k9,l8,m8,o0,n8⟩:=hR
   rcases Zt h with ⟨y6,h⟩ | ⟨y6,h⟩
   ·refine E_cond_true (Eq.trans (show ev _ _ = .bool (u3) from n8) (congrArg Value.bool y6)) ?_
    refine Zf (Za (Zg (.int .i64 (2)) rfl rfl ?_))
    refine Zb (Zd (E_ret (blk_r ?_)))
    refine thn_r ?_
    obtain rfl:=sinj h
    exact end1 rfl rfl (show _=.int .i64 (2) from rfl) ⟨_,hfr,rfl⟩
   ·refine E_cond_false (Eq.trans (show ev _ _ = .bool (u3) from n8) (congrArg Value.bool y6)) ?_
    refine Zf (Za (EL_p (fPtr p1 0) (Zc at_153_0 k9 (PT.ptr l8)) rfl ?_))
    have l9:=Zm (part_PayPayList_0).1 l8
    refine EL_p (fPtr (fPtr p1 0) 1) (Zc at_59_1 rfl (PT.ptr l9)) rfl ?_
    have mC:=Zm (part_PayList_1).1 l9
    refine Ze .plain rfl (D_load (g:=x8) Tryz.isAgg28 Tryz.sizeOf28 rfl mC fun cF qC=>?_)
    refine EL_p (.int .i64 ((((x0).PayList).Extras).length:Int)) (P_len Tryz.underlying28 rfl qC) rfl ?_
    refine EL_p (.int .i64 ((w64 (((((x0).PayList).Extras).length:Int) - (1:Int))))) (P_int rfl rfl rfl) rfl ?_
    refine EL_p (fPtr p2 3) (Zc at_68_3 m8 (PT.ptr o0)) rfl ?_
    have rC:=Zm (part_PayPiece_3).1 o0
    refine Ze .plain rfl (D_load (g:=x8) Tryz.isAgg28 Tryz.sizeOf28 rfl rC fun uC vC=>?_)
    obtain ⟨x5,z9,h⟩:=bsome h
    refine Ze .plain rfl (Zp (g:=x8) (vs:=[.int .i64 (0),.int .i64 ((w64 (((((x0).PayList).Extras).length:Int) - (1:Int)))),uC]) en63 (.cons rfl (.cons rfl (.cons rfl .nil))) (wk63 vC z9) fun n9 aE dF hs hr=>?_)
    have hfr:=hfr.ext hs
    have o0:=o0.ext hs
    subst hr
    refine EL_p (.bool (!x5)) (P_not rfl) rfl ?_
    refine Zg (.bool (!x5)) rfl rfl ?_
    refine Zb (Zd ?_)
    rcases Zt h with ⟨i7,h⟩ | ⟨i7,h⟩
    ·refine E_ct i7 rfl ?_
     refine Zf (Za (Zg (.int .i64 (7)) rfl rfl ?_))
     refine Zb (Zd (E_ret (blk_r ?_)))
     refine thn_r ?_
     obtain rfl:=sinj h
     exact end1 rfl rfl (show _=.int .i64 (7) from rfl) ⟨_,hfr,rfl⟩
    ·refine E_cf i7 rfl ?_
     refine Zf (Za (EL_p (fPtr p2 3) (Zc at_68_3 m8 (PT.ptr o0)) rfl ?_))
     have aD:=Zm (part_PayPiece_3).1 o0
     refine Ze .plain rfl (D_load (g:=n9) Tryz.isAgg28 Tryz.sizeOf28 rfl aD fun bD cD=>?_)
     obtain ⟨y125,bA,h⟩:=bsome h
     refine Ze .plain rfl (Zp (g:=n9) (vs:=[bD]) en140 (.cons rfl .nil) (wk140 cD bA) fun eD bE eF hs hr=>?_)
     have hfr:=hfr.ext hs
     subst hr
     refine EL_p (.bool (!y125)) (P_not rfl) rfl ?_
     refine Zg (.bool (!y125)) rfl rfl ?_
     refine Zb (Zd ?_)
     rcases Zt h with ⟨m7,h⟩ | ⟨m7,h⟩
     ·refine E_ct m7 rfl ?_
      refine Zf (Za (Zg (.int .i64 (4)) rfl rfl ?_))
      refine Zb (Zd (E_ret (blk_r ?_)))
      refine thn_r ?_
      obtain rfl:=sinj h
      exact end1 rfl rfl (show _=.int .i64 (4) from rfl) ⟨_,hfr,rfl⟩
     ·refine E_cf m7 rfl ?_
      exact Zu (blk_n (Zd (rA () _ _ ⟨eD,hfr⟩ h)))
 ·rintro _ iE rF ⟨sF, hfr⟩ h
  refine Zf (Za (Zg (.int .i64 (0)) rfl rfl ?_))
  refine Zb (Zd (E_ret ?_))
  obtain rfl:=sinj h
  exact end1 rfl rfl (show _=.int .i64 (0) from rfl) ⟨_,hfr,rfl⟩
def f109 (x0:List Int) (x1:Int) (x2:Int→Int→Option Int):Option ((List Int)):=
 Option.bind (α:=(List Int) × Int) (
  lp (σ:=(List Int) × Int × Int) (fun k9 (x6,i6,u3)=>
   jn (σ:=Unit) (fun _=>
    (f146 x6 i6 u3 x2).bind fun lD=>
    k9 (lD,u3,(w64 (u3 + (20:Int))))
    ) fun cF=>
   bif (decide (u3 ≤ x1)) then
    cF ()
   else
    some (x6,i6)
   ) big (x0,(0:Int),(20:Int))
  ) fun (m8,y6)=>
 (f146 m8 y6 x1 x2).bind fun dF=>
 lp (σ:=(List Int) × Int) (fun eF (i7,o0)=>
  jn (σ:=Unit) (fun _=>
   Option.bind (α:=(List Int) × Int) (
    lp (σ:=(List Int) × Int × Int) (fun rF (m7,x5,l5)=>
     jn (σ:=Unit) (fun _=>
      (f147 big m7 x5 ((w64 (x5 + o0))) l5 x2).bind fun nD=>
      rF (nD,l5,(w64 (l5 + (w64 ((2:Int) * o0)))))
      ) fun sF=>
     bif (decide (l5 ≤ x1)) then
      sF ()
     else
      some (m7,x5)
     ) big (i7,(0:Int),(w64 ((2:Int) * o0)))
    ) fun (g8,t5)=>
   Option.bind (α:=(List Int)) (
    bif (decide ((w64 (t5 + o0)) < x1)) then
     (f147 big g8 t5 ((w64 (t5 + o0))) x1 x2).bind fun tF=>
     some (tF)
    else
     some (g8)
    ) fun k8=>
   eF (k8,(w64 (o0 * (2:Int))))
   ) fun uF=>
  bif (decide (o0 < x1)) then
   uF ()
  else
   some (i7)
  ) big (dF,(20:Int))
theorem en109:Enters Tryz.prog 109:=enters_of Tryz.func109 (by kernel_rfl) rfl
theorem wk109 {iI:Nat} {gI:Gh} {wI:World} {x0:List Int} {x1:Int} {x2:Int→Int→Option Int} {up0:Value} (mp0:OM iI gI wI 3 x0 up0) {up2:Value} (rp2:FnV2 Tryz.prog x2 up2 gI wI) {r:(List Int)} (h:f109 x0 x1 x2=some r):FnM Tryz.prog 109 #[up0,.int .i64 (x1),up2] iI gI wI (fun g w v=>v=.tuple #[]∧OM iI g w 3 r up0):=by
 unfold f109 at h
 refine fnM_of_E Tryz.func109 rfl (Nat.le_of_ble_eq_true rfl) fun g0 hm hfr=>?_
 have oD:=mp0
 replace mp0:=mp0.enter
 rw [← hm] at mp0
 replace hm:g0.m=gI.m:=by rw [hm]
 obtain ⟨ff2,fa2,fc2,rfl,fen2,fcl2⟩:=rp2
 show E _ 63 none _ _ _ _ _
 refine Zf (Za (Zg (.int .i64 (20)) rfl rfl ?_))
 refine Zb (Zd (Zf (Za (Zn (.int .i64 (20)) rfl rfl ?_))))
 refine Zg (.int .i64 (0)) rfl rfl ?_
 refine Zg (.int .i64 (20)) rfl rfl ?_
 refine Zb (Zd ?_)
 obtain ⟨⟨m8,y6⟩,hx,h⟩:=bsome h
 refine E_join (fun e w=>∃ (g:Gh) ,FrM iI gI wI g w∧e 0=up0∧OM 1 g w 3 (m8:List Int) up0∧e 1=.int .i64 (x1)∧e 2=(.func (.func ff2) fa2 fc2)∧e 6=.int .i64 ((20:Int))∧e 7=.int .i64 (y6)) (fun Q' hQ=>?_) (fun iH yH hR=>?_)
 ·replace h := hx
  clear hx
  refine Zr ?_
  refine E_lp h (fun (s:(List Int) × Int × Int) e w=>∃ (g:Gh) ,FrM iI gI wI g w∧e 0=up0∧OM 1 g w 3 (s.1:List Int) up0∧e 1=.int .i64 (x1)∧e 2=(.func (.func ff2) fa2 fc2)∧e 6=.int .i64 ((20:Int))∧e 7=.int .i64 (s.2.1)∧e 8=.int .i64 (s.2.2)) ⟨g0,hfr,rfl,mp0,rfl,rfl,rfl,rfl,rfl⟩ (fun X9 k9 kG=>?_)
  rintro ⟨x6,i6,u3⟩ jH zH ⟨vF,hfr,iA,rA,n8,yA,aB,dB,iB⟩ h
  refine Zq h (fun (s:Unit) e w=>∃ (g:Gh) ,FrM iI gI wI g w∧e 0=up0∧OM 1 g w 3 (x6:List Int) up0∧e 1=.int .i64 (x1)∧e 2=(.func (.func ff2) fa2 fc2)∧e 6=.int .i64 ((20:Int))∧e 7=.int .i64 (i6)∧e 8=.int .i64 (u3)) (fun X12 cF zF h=>?_) ?_
  ·refine Zf (Za (Zo iB rfl ?_))
   refine Zo n8 rfl ?_
   refine EL_in (.bool ((decide (u3 ≤ x1)))) rfl rfl rfl rfl ?_
   refine Zb (Zd ?_)
   rcases Zt h with ⟨u9,h⟩ | ⟨u9,h⟩
   ·refine E_ct u9 rfl ?_
    exact Zu (Zd (zF () _ _ ⟨vF,hfr,iA,rA,n8,yA,aB,dB,iB⟩ h))
   ·refine E_cf u9 rfl ?_
    refine E_exit ?_
    refine thn_e ?_
    refine thn_e ?_
    refine blk_hit ?_
    obtain ⟨rfl,rfl⟩:=pairs2 h
    exact hQ _ _ ⟨vF,hfr,iA,rA,n8,yA,aB,dB⟩
  ·rintro _ kH aI ⟨lG, hfr, lB, sD, tD, mB, nB, uD, r8⟩ h
   refine Zr ?_
   refine Zf (Za (Zo lB rfl ?_))
   refine Zo uD rfl ?_
   refine Zo r8 rfl ?_
   refine Zo mB rfl ?_
   obtain ⟨lD,aG,h⟩:=bsome h
   refine Ze .plain rfl (D_callM (g:=lG) (i:=1) (vs:=[up0,.int .i64 (i6),.int .i64 (u3),(.func (.func ff2) fa2 fc2)]) en146 (.cons rfl (.cons rfl (.cons rfl (.cons rfl .nil)))) (wk146 sD (FnV2.ch ⟨_,_,_,rfl,fen2,fcl2⟩ hfr.ch) aG) fun mG lH bI hs hr=>?_)
   obtain ⟨hrv,b15⟩:=hr
   have hfr:=hfr.stp hs
   subst hrv
   refine Zb (Zd (Zf (Za (Zo r8 rfl ?_))))
   refine Zg (.int .i64 (u3)) rfl rfl ?_
   refine Zb (Zd (Za (Zo r8 rfl ?_)))
   refine Zo nB rfl ?_
   refine EL_in (.int .i64 ((w64 (u3 + (20:Int))))) rfl rfl rfl rfl ?_
   refine Zg (.int .i64 ((w64 (u3 + (20:Int))))) rfl rfl ?_
   exact Zb (blk_n (Zd (kG (lD,u3,(w64 (u3 + (20:Int)))) _ _ ⟨mG,hfr,lB,b15,tD,mB,nB,rfl,rfl⟩ h)))
 ·clear hx
  obtain ⟨sG,hfr,oB,vD,tB,vB,xD,yD⟩:=hR
  refine Zf (Za (Zo oB rfl ?_))
  refine Zo yD rfl ?_
  refine Zo tB rfl ?_
  refine Zo vB rfl ?_
  obtain ⟨dF,bG,h⟩:=bsome h
  refine Ze .plain rfl (D_callM (g:=sG) (i:=1) (vs:=[up0,.int .i64 (y6),.int .i64 (x1),(.func (.func ff2) fa2 fc2)]) en146 (.cons rfl (.cons rfl (.cons rfl (.cons rfl .nil)))) (wk146 vD (FnV2.ch ⟨_,_,_,rfl,fen2,fcl2⟩ hfr.ch) bG) fun xG mH dI hs hr=>?_)
  obtain ⟨hrv,b18⟩:=hr
  have hfr:=hfr.stp hs
  subst hrv
  refine Zb (Zd (Zr ?_))
  refine E_lp h (fun (s:(List Int) × Int) e w=>∃ (g:Gh) ,FrM iI gI wI g w∧e 0=up0∧OM 1 g w 3 (s.1:List Int) up0∧e 1=.int .i64 (x1)∧e 2=(.func (.func ff2) fa2 fc2)∧e 6=.int .i64 (s.2)) ⟨xG,hfr,oB,b18,tB,vB,xD⟩ (fun X20 eF cG=>?_)
  rintro ⟨i7,o0⟩ nH jI ⟨yG,hfr,zD,yB,zB,aE,cC⟩ h
  refine Zq h (fun (s:Unit) e w=>∃ (g:Gh) ,FrM iI gI wI g w∧e 0=up0∧OM 1 g w 3 (i7:List Int) up0∧e 1=.int .i64 (x1)∧e 2=(.func (.func ff2) fa2 fc2)∧e 6=.int .i64 (o0)) (fun X23 uF eG h=>?_) ?_
  ·refine Zf (Za (Zo cC rfl ?_))
   refine Zo zB rfl ?_
   refine EL_in (.bool ((decide (o0 < x1)))) rfl rfl rfl rfl ?_
   refine Zb (Zd ?_)
   rcases Zt h with ⟨y9,h⟩ | ⟨y9,h⟩
   ·refine E_ct y9 rfl ?_
    exact Zu (Zd (eG () _ _ ⟨yG,hfr,zD,yB,zB,aE,cC⟩ h))
   ·refine E_cf y9 rfl ?_
    refine E_exit ?_
    refine thn_e ?_
    refine thn_e ?_
    refine blk_hit ?_
    obtain rfl:=sinj h
    exact end0n rfl rfl ⟨_,hfr,rfl,oD.back yB⟩
  ·rintro _ oH kI ⟨zG, hfr, bE, iE, lE, mE, mC⟩ h
   refine Zr ?_
   refine Zf (Za (Zo mC rfl ?_))
   refine EL_in (.int .i64 ((w64 ((2:Int) * o0)))) rfl rfl rfl rfl ?_
   refine Zg (.int .i64 (0)) rfl rfl ?_
   refine Zg (.int .i64 ((w64 ((2:Int) * o0)))) rfl rfl ?_
   refine Zb (Zd ?_)
   obtain ⟨⟨g8,t5⟩,hx,h⟩:=bsome h
   refine E_join (fun e w=>∃ (g:Gh) ,FrM iI gI wI g w∧e 0=up0∧OM 1 g w 3 (g8:List Int) up0∧e 1=.int .i64 (x1)∧e 2=(.func (.func ff2) fa2 fc2)∧e 6=.int .i64 (o0)∧e 7=.int .i64 (t5)) (fun Q' hQ=>?_) (fun pH lI hR=>?_)
   ·replace h := hx
    clear hx
    refine Zr ?_
    refine E_lp h (fun (s:(List Int) × Int × Int) e w=>∃ (g:Gh) ,FrM iI gI wI g w∧e 0=up0∧OM 1 g w 3 (s.1:List Int) up0∧e 1=.int .i64 (x1)∧e 2=(.func (.func ff2) fa2 fc2)∧e 6=.int .i64 (o0)∧e 7=.int .i64 (s.2.1)∧e 8=.int .i64 (s.2.2)) ⟨zG,hfr,bE,iE,lE,mE,mC,rfl,rfl⟩ (fun X34 rF gG=>?_)
    rintro ⟨m7,x5,l5⟩ qH mI ⟨xF,hfr,qC,rC,v8,uC,vC,aD,bD⟩ h
    refine Zq h (fun (s:Unit) e w=>∃ (g:Gh) ,FrM iI gI wI g w∧e 0=up0∧OM 1 g w 3 (m7:List Int) up0∧e 1=.int .i64 (x1)∧e 2=(.func (.func ff2) fa2 fc2)∧e 6=.int .i64 (o0)∧e 7=.int .i64 (x5)∧e 8=.int .i64 (l5)) (fun X37 sF hG h=>?_) ?_
    ·refine Zf (Za (Zo bD rfl ?_))
     refine Zo v8 rfl ?_
     refine EL_in (.bool ((decide (l5 ≤ x1)))) rfl rfl rfl rfl ?_
     refine Zb (Zd ?_)
     rcases Zt h with ⟨z9,h⟩ | ⟨z9,h⟩
     ·refine E_ct z9 rfl ?_
      exact Zu (Zd (hG () _ _ ⟨xF,hfr,qC,rC,v8,uC,vC,aD,bD⟩ h))
     ·refine E_cf z9 rfl ?_
      refine E_exit ?_
      refine thn_e ?_
      refine thn_e ?_
      refine blk_hit ?_
      obtain ⟨rfl,rfl⟩:=pairs2 h
      exact hQ _ _ ⟨xF,hfr,qC,rC,v8,uC,vC,aD⟩
    ·rintro _ sH nI ⟨aH, hfr, cD, oE, rE, eD, x8, gD, a9⟩ h
     refine Zr ?_
     refine Zf (Za (Zo cD rfl ?_))
     refine Zo gD rfl ?_
     refine Zo gD rfl ?_
     refine Zo x8 rfl ?_
     refine EL_in (.int .i64 ((w64 (x5 + o0)))) rfl rfl rfl rfl ?_
     refine Zo a9 rfl ?_
     refine Zo eD rfl ?_
     obtain ⟨nD,iG,h⟩:=bsome h
     refine Ze .plain rfl (D_callM (g:=aH) (i:=1) (vs:=[up0,.int .i64 (x5),.int .i64 ((w64 (x5 + o0))),.int .i64 (l5),(.func (.func ff2) fa2 fc2)]) en147 (.cons rfl (.cons rfl (.cons rfl (.cons rfl (.cons rfl .nil))))) (wk147 big oE (FnV2.ch ⟨_,_,_,rfl,fen2,fcl2⟩ hfr.ch) iG) fun cH tH pI hs hr=>?_)
     obtain ⟨hrv,b40⟩:=hr
     have hfr:=hfr.stp hs
     subst hrv
     refine Zb (Zd (Zf (Za (Zo a9 rfl ?_))))
     refine Zg (.int .i64 (l5)) rfl rfl ?_
     refine Zb (Zd (Za (Zo a9 rfl ?_)))
     refine Zo x8 rfl ?_
     refine EL_in (.int .i64 ((w64 ((2:Int) * o0)))) rfl rfl rfl rfl ?_
     refine EL_p (.int .i64 ((w64 (l5 + (w64 ((2:Int) * o0)))))) (P_int rfl rfl rfl) rfl ?_
     refine EL_p (.int .i64 ((w64 (l5 + (w64 ((2:Int) * o0)))))) (P_assign rfl) rfl ?_
     exact Zb (blk_n (Zd (gG (nD,l5,(w64 (l5 + (w64 ((2:Int) * o0))))) _ _ ⟨cH,hfr,cD,b40,rE,eD,x8,rfl,rfl⟩ h)))
   ·clear hx
    obtain ⟨yF,hfr,d9,iD,l8,l9,n9,jD⟩:=hR
    obtain ⟨k8,hx,h⟩:=bsome h
    refine E_join (fun e w=>∃ (g:Gh) ,FrM iI gI wI g w∧e 0=up0∧OM 1 g w 3 (k8:List Int) up0∧e 1=.int .i64 (x1)∧e 2=(.func (.func ff2) fa2 fc2)∧e 6=.int .i64 (o0)) (fun Q' hQ=>?_) (fun uH qI hR=>?_)
    ·replace h := hx
     clear hx
     refine Zf (Za (Zo jD rfl ?_))
     refine Zo n9 rfl ?_
     refine EL_in (.int .i64 ((w64 (t5 + o0)))) rfl rfl rfl rfl ?_
     refine Zg (.int .i64 ((w64 (t5 + o0)))) rfl rfl ?_
     refine Zb (Zd (Zf (Za (Zn (.int .i64 ((w64 (t5 + o0)))) rfl rfl ?_))))
     refine Zo l8 rfl ?_
     refine EL_in (.bool ((decide ((w64 (t5 + o0)) < x1)))) rfl rfl rfl rfl ?_
     refine Zb (Zd ?_)
     rcases Zt h with ⟨bA,h⟩ | ⟨bA,h⟩
     ·refine E_ct bA rfl ?_
      refine Za (Zo d9 rfl ?_)
      refine Zo jD rfl ?_
      refine Zn (.int .i64 ((w64 (t5 + o0)))) rfl rfl ?_
      refine Zo l8 rfl ?_
      refine Zo l9 rfl ?_
      obtain ⟨tF,jG,h⟩:=bsome h
      refine Ze .plain rfl (D_callM (g:=yF) (i:=1) (vs:=[up0,.int .i64 (t5),.int .i64 ((w64 (t5 + o0))),.int .i64 (x1),(.func (.func ff2) fa2 fc2)]) en147 (.cons rfl (.cons rfl (.cons rfl (.cons rfl (.cons rfl .nil))))) (wk147 big iD (FnV2.ch ⟨_,_,_,rfl,fen2,fcl2⟩ hfr.ch) jG) fun dH xH sI hs hr=>?_)
      obtain ⟨hrv,b47⟩:=hr
      have hfr:=hfr.stp hs
      subst hrv
      refine Zb ?_
      obtain rfl:=sinj h
      exact hQ _ _ ⟨dH,hfr,d9,b47,l8,l9,n9⟩
     ·refine E_cf bA rfl ?_
      refine Zu ?_
      obtain rfl:=sinj h
      exact hQ _ _ ⟨yF,hfr,d9,iD,l8,l9,n9⟩
    ·clear hx
     obtain ⟨gH,hfr,uE,vE,xE,yE,zE⟩:=hR
     refine Za (Zo zE rfl ?_)
     refine EL_in (.int .i64 ((w64 (o0 * (2:Int))))) rfl rfl rfl rfl ?_
     refine Zg (.int .i64 ((w64 (o0 * (2:Int))))) rfl rfl ?_
     exact Zb (blk_n (Zd (cG (k8,(w64 (o0 * (2:Int)))) _ _ ⟨gH,hfr,uE,vE,xE,yE,rfl⟩ h)))
def f46 (x0:LoomMill) (x1:List LoomOrder):Option (LoomLoomMill × Int):=
 jn (σ:=LoomLoomMill) (fun iA=>
  some ((⟨x0,x1⟩:LoomLoomMill),(0:Int))
  ) fun bD=>
 Option.bind (α:=Bool) (
  bif (decide ((((x0).Widths).length : Int) > (3 : Int))) then
   some ((decide ((((x0).Widths).length:Int) > (3:Int))))
  else
   some ((decide (((x1).length:Int) > (7:Int))))
  ) fun x6=>
 bif x6 then
  some ((⟨⟨[],0⟩,[]⟩:LoomLoomMill),(5:Int))
 else
  Option.bind (α:=Bool) (
   bif ((((x0).Widths).length : Int) == (0 : Int)) then
    some (((((x0).Widths).length:Int) == (0:Int)))
   else
    (f90 ((1:Int)) ((100:Int)) ((x0).Widths)).bind fun g8=>
    bif (!g8) then
     some ((!g8))
    else
     (f90 ((0:Int)) ((20:Int)) (([(x0).Change]:List Int))).bind fun k8=>
     bif (!k8) then
      some ((!k8))
     else
      (f91 x1 ((fun a0=>f88 a0))).bind fun rA=>
      some (rA)
   ) fun x5=>
  bif x5 then
   some ((⟨⟨[],0⟩,[]⟩:LoomLoomMill),(2:Int))
  else
   bD ((⟨⟨[],0⟩,[]⟩:LoomLoomMill))
theorem en46:Enters Tryz.prog 46:=enters_of Tryz.func46 (by kernel_rfl) rfl
theorem wk46 {gI:Gh} {wI:World} {x0:LoomMill} {x1:List LoomOrder} {up0:Value} (rp0:RV gI.m wI x0 up0) {up1:Value} (rp1:RV gI.m wI x1 up1) {r:LoomLoomMill × Int} (h:f46 x0 x1=some r):Fn Tryz.prog 46 #[up0,up1] gI wI (fun m w v=>∃ y0 y1,v=.tuple #[y0,y1]∧RV m w (r.1) y0∧y1=.int .i64 (r.2)):=by
 unfold f46 at h
 refine fn_of_E Tryz.func46 rfl (Nat.le_of_ble_eq_true rfl) fun g0 hm hfr=>?_
 have rp0:RV g0.m wI x0 up0:=hm ▸ rp0
 have rp1:RV g0.m wI x1 up1:=hm ▸ rp1
 show E _ 37 none _ _ _ _ _
 refine Zf (Za (Ze .plain rfl (D_box (g:=g0) rfl rp0 fun g1 w1 p1 hs q1=>?_)))
 have hfr:=hfr.ext hs
 have rp1:=rp1.ext hs
 refine Ze .plain rfl (D_allocOc (g:=g1) 2004 (⟨⟨[],0⟩,[]⟩:LoomLoomMill) Tryz.zeroValue134 (fun m w=>⟨_,(rep_two (rep_two rep_nil rep_int) rep_nil),rfl⟩) fun g2 w2 p2 hs b2 cb=>?_)
 have hfr:=hfr.stp hs
 have rp1:=rp1.stp hs
 have q1:=q1.stp hs
 have yA:OSF 2004 60400 0 g2 w2 3 134 ([]:List Int) p2:=cb.osf (by rfl)
 have aB:OSF 2004 60402 2 g2 w2 49 134 ([]:List LoomOrder) p2:=cb.osf (by rfl)
 clear cb
 refine Zg (.int .i64 (0)) rfl rfl ?_
 refine Zb (Zd (Zf (Za (Zg (.func (.func 88) #[] #[]) rfl rfl ?_))))
 refine Zb (Zd (Zq h (fun (s:LoomLoomMill) e w=>∃ (g:Gh) ,Fr gI wI g w∧e 1=up1∧RV g.m w (x1:List LoomOrder) up1∧e 2=p1∧PT g.m w (x0:LoomMill) p1∧e 4=p2∧OB 2004 g w 134 (s:LoomLoomMill) p2∧OSF 2004 60400 0 g w 3 134 (((s).LoomMill).Widths) p2∧OSF 2004 60402 2 g w 49 134 ((s).orders) p2) (fun X51 bD tD h=>?_) ?_))
 ·refine Zr ?_
  obtain ⟨x6,hx,h⟩:=bsome h
  refine E_join (fun e w=>∃ (g:Gh) ,Fr gI wI g w∧e 1=up1∧RV g.m w (x1:List LoomOrder) up1∧e 2=p1∧PT g.m w (x0:LoomMill) p1∧e 4=p2∧OB 2004 g w 134 ((⟨⟨[],0⟩,[]⟩:LoomLoomMill):LoomLoomMill) p2∧OSF 2004 60400 0 g w 3 134 ((((⟨⟨[],0⟩,[]⟩:LoomLoomMill)).LoomMill).Widths) p2∧OSF 2004 60402 2 g w 49 134 (((⟨⟨[],0⟩,[]⟩:LoomLoomMill)).orders) p2∧e 6=.func (.func 88) #[] #[]∧e 7=.bool (x6)) (fun Q' hQ=>?_) (fun vF zD hR=>?_)
  ·replace h := hx
   clear hx
   refine Zf (Za (EL_p (fPtr p1 0) (Zc at_30_0 rfl (PT.ptr q1)) rfl ?_))
   have aE:=Zm (part_LoomMill_0).1 q1
   refine Ze .plain rfl (D_load (g:=g2) Tryz.isAgg28 Tryz.sizeOf28 rfl aE fun gG bE=>?_)
   refine EL_p (.int .i64 (((x0).Widths).length:Int)) (P_len Tryz.underlying28 rfl bE) rfl ?_
   refine EL_p (.bool ((decide ((((x0).Widths).length:Int) > (3:Int))))) (P_int rfl rfl rfl) rfl ?_
   refine EL_p (.bool ((decide ((((x0).Widths).length:Int) > (3:Int))))) (P_assign rfl) rfl ?_
   refine Zb (Zd ?_)
   rcases Zt h with ⟨r8,h⟩ | ⟨r8,h⟩
   ·refine E_ct r8 rfl ?_
    refine Zu ?_
    obtain rfl:=sinj h
    exact hQ _ _ ⟨g2,hfr,rfl,rp1,rfl,q1,rfl,b2,yA,aB,rfl,rfl⟩
   ·refine E_cf r8 rfl ?_
    refine Za (Zn up1 rfl rfl ?_)
    refine EL_p (.int .i64 ((x1).length:Int)) (P_len Tryz.underlying31 rfl rp1) rfl ?_
    refine EL_in (.bool ((decide (((x1).length:Int) > (7:Int))))) rfl rfl rfl rfl ?_
    refine Zg (.bool ((decide (((x1).length:Int) > (7:Int))))) rfl rfl ?_
    refine Zb ?_
    obtain rfl:=sinj h
    exact hQ _ _ ⟨g2,hfr,rfl,rp1,rfl,q1,rfl,b2,yA,aB,rfl,rfl⟩
  ·clear hx
   obtain ⟨i7,hfr,y6,u3,t5,o0,i6,l5,u4_0_58,u4_2_58,zB,z9⟩:=hR
   rcases Zt h with ⟨v8,h⟩ | ⟨v8,h⟩
   ·refine E_cond_true (Eq.trans (show ev _ _ = .bool (x6) from z9) (congrArg Value.bool v8)) ?_
    refine Zf (Za ?_)
    have cD:RV i7.m zD (⟨⟨[],0⟩,[]⟩:LoomLoomMill) (.agg (setCh [[.slice none 0 0,.int .i64 0],[.slice none 0 0]] []).flatten.toArray):=RV_build rfl (rep_pair ((rep_two rep_nil rep_int)) (rep_last (rep_nil)))
    generalize x8:(Value.agg (setCh [[.slice none 0 0,.int .i64 0],[.slice none 0 0]] []).flatten.toArray)=eD at cD
    refine EL_p eD (x8 ▸ P_build (vs:=[]) [[.slice none 0 0,.int .i64 0],[.slice none 0 0]] lay_134 rfl rfl .nil trivial) rfl ?_
    refine Ze .plain rfl (D_storeOc (g:=i7) (v:=eD) Tryz.sizeOf134 i6 l5 rfl cD fun gD iD hs b61 cb=>?_)
    have eF:OSF 2004 60400 0 gD iD 3 134 ([]:List Int) p2:=cb.osf (by rw [← x8]; rfl)
    have rF:OSF 2004 60402 2 gD iD 49 134 ([]:List LoomOrder) p2:=cb.osf (by rw [← x8]; rfl)
    clear cb
    have hfr:=hfr.stp hs
    refine Zg (.int .i64 (5)) rfl rfl ?_
    refine Zb (Zd (E_ret (blk_r ?_)))
    refine thn_r ?_
    obtain rfl:=sinj h
    obtain ⟨ad62,cv62,hp62,uD,cr62⟩:=ob_read Tryz.isAgg134 Tryz.sizeOf134 b61
    exact endm_ct rfl rfl ((show _=p2 from i6).trans hp62) uD (show _=.int .i64 (5) from rfl) ⟨_,hfr,_,_,rfl,cr62,rfl⟩
   ·refine E_cond_false (Eq.trans (show ev _ _ = .bool (x6) from z9) (congrArg Value.bool v8)) ?_
    obtain ⟨x5,hx,h⟩:=bsome h
    refine E_join (fun e w=>∃ (g:Gh) ,Fr gI wI g w∧e 1=up1∧RV g.m w (x1:List LoomOrder) up1∧e 2=p1∧PT g.m w (x0:LoomMill) p1∧e 4=p2∧OB 2004 g w 134 ((⟨⟨[],0⟩,[]⟩:LoomLoomMill):LoomLoomMill) p2∧OSF 2004 60400 0 g w 3 134 ((((⟨⟨[],0⟩,[]⟩:LoomLoomMill)).LoomMill).Widths) p2∧OSF 2004 60402 2 g w 49 134 (((⟨⟨[],0⟩,[]⟩:LoomLoomMill)).orders) p2∧e 16=.bool (x5)) (fun Q' hQ=>?_) (fun xF iE hR=>?_)
    ·replace h := hx
     clear hx
     refine Zf (Za (EL_p (fPtr p1 0) (Zc at_30_0 t5 (PT.ptr o0)) rfl ?_))
     have lE:=Zm (part_LoomMill_0).1 o0
     refine Ze .plain rfl (D_load (g:=i7) Tryz.isAgg28 Tryz.sizeOf28 rfl lE fun hG mE=>?_)
     refine EL_p (.int .i64 (((x0).Widths).length:Int)) (P_len Tryz.underlying28 rfl mE) rfl ?_
     refine EL_in (.bool (((((x0).Widths).length:Int) == (0:Int)))) rfl rfl rfl rfl ?_
     refine Zg (.bool (((((x0).Widths).length:Int) == (0:Int)))) rfl rfl ?_
     refine Zb (Zd ?_)
     rcases Zt h with ⟨a9,h⟩ | ⟨a9,h⟩
     ·refine E_ct a9 rfl ?_
      refine Zu ?_
      obtain rfl:=sinj h
      exact hQ _ _ ⟨i7,hfr,y6,u3,t5,o0,i6,l5,u4_0_58,u4_2_58,rfl⟩
     ·refine E_cf a9 rfl ?_
      refine Zf (Za (EL_p (fPtr p1 0) (Zc at_30_0 t5 (PT.ptr o0)) rfl ?_))
      have oE:=Zm (part_LoomMill_0).1 o0
      refine Ze .plain rfl (D_load (g:=i7) Tryz.isAgg28 Tryz.sizeOf28 rfl oE fun rE uE=>?_)
      obtain ⟨g8,vD,h⟩:=bsome h
      refine Ze .plain rfl (Zp (g:=i7) (vs:=[.int .i64 (1),.int .i64 (100),rE]) en90 (.cons rfl (.cons rfl (.cons rfl .nil))) (wk90 uE vD) fun dB yF iG hs hr=>?_)
      have hfr:=hfr.ext hs
      have u3:=u3.ext hs
      have o0:=o0.ext hs
      have u4_0_58:=u4_0_58.ext hs
      have u4_2_58:=u4_2_58.ext hs
      have l5:=l5.ext hs
      subst hr
      refine EL_p (.bool (!g8)) (P_not rfl) rfl ?_
      refine Zg (.bool (!g8)) rfl rfl ?_
      refine Zb (Zd ?_)
      rcases Zt h with ⟨d9,h⟩ | ⟨d9,h⟩
      ·refine E_ct d9 rfl ?_
       refine Zu ?_
       obtain rfl:=sinj h
       exact hQ _ _ ⟨dB,hfr,y6,u3,t5,o0,i6,l5,u4_0_58,u4_2_58,rfl⟩
      ·refine E_cf d9 rfl ?_
       refine Zf (Za (EL_p (fPtr p1 1) (Zc at_30_1 t5 (PT.ptr o0)) rfl ?_))
       have vE:=Zm (part_LoomMill_1).1 o0
       refine Ze .plain rfl (D_load (g:=dB) Tryz.isAgg3 Tryz.sizeOf3 rfl vE fun jG xE=>?_)
       obtain rfl:=Zj.1 xE
       refine Ze .plain rfl (D_buildSlice (g:=dB) 3027 (xs:=([(x0).Change]:List Int)) (vs:=[.int .i64 ((x0).Change)]) Tryz.underlying28 Tryz.sizeOf3 Tryz.zeroValue3 rfl rfl (.cons rfl .nil) (RVs.cons (Zj.2 rfl) RVs.nil) rfl rfl fun yE kG zE hs o90 cF hxt hfl=>?_)
       have hfr:=hfr.stp hs
       have u3:=u3.stp hs
       have o0:=o0.stp hs
       have u4_0_58:=u4_0_58.stp hs rfl
       have u4_2_58:=u4_2_58.stp hs rfl
       have l5:=l5.stp hs rfl
       obtain ⟨k8,xD,h⟩:=bsome h
       refine Ze .plain rfl (Zp (g:=yE) (vs:=[.int .i64 (0),.int .i64 (20),zE]) en90 (.cons rfl (.cons rfl (.cons rfl .nil))) (wk90 cF xD) fun jD zF lG hs hr=>?_)
       have hfr:=hfr.ext hs
       have u3:=u3.ext hs
       have o0:=o0.ext hs
       have u4_0_58:=u4_0_58.ext hs
       have u4_2_58:=u4_2_58.ext hs
       have l5:=l5.ext hs
       subst hr
       refine EL_p (.bool (!k8)) (P_not rfl) rfl ?_
       refine Zg (.bool (!k8)) rfl rfl ?_
       refine Zb (Zd ?_)
       rcases Zt h with ⟨k9,h⟩ | ⟨k9,h⟩
       ·refine E_ct k9 rfl ?_
        refine Zu ?_
        obtain rfl:=sinj h
        exact hQ _ _ ⟨jD,hfr,y6,u3,t5,o0,i6,l5,u4_0_58,u4_2_58,rfl⟩
       ·refine E_cf k9 rfl ?_
        refine Za (Zo y6 rfl ?_)
        refine Zo zB rfl ?_
        obtain ⟨rA,yD,h⟩:=bsome h
        refine Ze .plain rfl (Zp (g:=jD) (vs:=[up1,.func (.func 88) #[] #[]]) en91 (.cons rfl (.cons rfl .nil)) (wk91 u3 ⟨88,#[],#[],rfl,en88,fun g' w' hch a0 b0 r hu0 hr=>by exact Fn.mono (wk88 hu0  hr) fun _ _ _ h=>RV_bool.2 h⟩ yD) fun dF aG mG hs hr=>?_)
        have hfr:=hfr.ext hs
        have u3:=u3.ext hs
        have o0:=o0.ext hs
        have u4_0_58:=u4_0_58.ext hs
        have u4_2_58:=u4_2_58.ext hs
        have l5:=l5.ext hs
        subst hr
        refine Zg (.bool (rA)) rfl rfl ?_
        refine Zb ?_
        obtain rfl:=sinj h
        exact hQ _ _ ⟨dF,hfr,y6,u3,t5,o0,i6,l5,u4_0_58,u4_2_58,rfl⟩
    ·clear hx
     obtain ⟨iB,hfr,cC,mC,qC,rC,m7,bA,u4_0_96,u4_2_96,l8⟩:=hR
     rcases Zt h with ⟨l9,h⟩ | ⟨l9,h⟩
     ·refine E_cond_true (Eq.trans (show ev _ _ = .bool (x5) from l8) (congrArg Value.bool l9)) ?_
      refine Zf (Za ?_)
      have lD:RV iB.m iE (⟨⟨[],0⟩,[]⟩:LoomLoomMill) (.agg (setCh [[.slice none 0 0,.int .i64 0],[.slice none 0 0]] []).flatten.toArray):=RV_build rfl (rep_pair ((rep_two rep_nil rep_int)) (rep_last (rep_nil)))
      generalize n9:(Value.agg (setCh [[.slice none 0 0,.int .i64 0],[.slice none 0 0]] []).flatten.toArray)=nD at lD
      refine EL_p nD (n9 ▸ P_build (vs:=[]) [[.slice none 0 0,.int .i64 0],[.slice none 0 0]] lay_134 rfl rfl .nil trivial) rfl ?_
      refine Ze .plain rfl (D_storeOc (g:=iB) (v:=nD) Tryz.sizeOf134 m7 bA rfl lD fun oD sD hs b99 cb=>?_)
      have sF:OSF 2004 60400 0 oD sD 3 134 ([]:List Int) p2:=cb.osf (by rw [← n9]; rfl)
      have tF:OSF 2004 60402 2 oD sD 49 134 ([]:List LoomOrder) p2:=cb.osf (by rw [← n9]; rfl)
      clear cb
      have hfr:=hfr.stp hs
      refine Zg (.int .i64 (2)) rfl rfl ?_
      refine Zb (Zd (E_ret (blk_r ?_)))
      refine thn_r ?_
      obtain rfl:=sinj h
      obtain ⟨ad100,cv100,hp100,uC,cr100⟩:=ob_read Tryz.isAgg134 Tryz.sizeOf134 b99
      exact endm_ct rfl rfl ((show _=p2 from m7).trans hp100) uC (show _=.int .i64 (2) from rfl) ⟨_,hfr,_,_,rfl,cr100,rfl⟩
     ·refine E_cond_false (Eq.trans (show ev _ _ = .bool (x5) from l8) (congrArg Value.bool l9)) ?_
      exact Zu (blk_n (Zd (tD ((⟨⟨[],0⟩,[]⟩:LoomLoomMill)) _ _ ⟨iB,hfr,cC,mC,qC,rC,m7,bA,u4_0_96,u4_2_96⟩ h)))
 ·rintro iA uF bG ⟨u9, hfr, lB, m8, mB, nB, n8, oB, u4_0_101, u4_2_101⟩ h
  refine Zf (Za (Ze .plain rfl (D_load (g:=u9) Tryz.isAgg30 Tryz.sizeOf30 mB nB fun y9 tB=>?_)))
  refine Zo lB rfl ?_
  have vB:RV u9.m _ (⟨x0,x1⟩:LoomLoomMill) (.agg (setCh [[.slice none 0 0,.int .i64 0],[.slice none 0 0]] [(0,y9),(1,up1)]).flatten.toArray):=RV_build rfl (rep_pair (RV.cells tB) (rep_last (RV.cells m8)))
  generalize vC:(Value.agg (setCh [[.slice none 0 0,.int .i64 0],[.slice none 0 0]] [(0,y9),(1,up1)]).flatten.toArray)=yB at vB
  refine EL_p yB (vC ▸ P_build (vs:=[(0,y9),(1,up1)]) [[.slice none 0 0,.int .i64 0],[.slice none 0 0]] lay_134 rfl rfl (.cons rfl (.cons rfl .nil)) ⟨⟨_,rfl,cells_size tB⟩,⟨⟨_,rfl,cells_size m8⟩,trivial⟩⟩) rfl ?_
  refine Ze .plain rfl (D_storeOc (g:=u9) (v:=yB) Tryz.sizeOf134 n8 oB rfl vB fun cG eG hs b104 cb=>?_)
  clear cb
  have hfr:=hfr.stp hs
  refine Zg (.int .i64 (0)) rfl rfl ?_
  refine Zb (Zd (E_ret ?_))
  obtain rfl:=sinj h
  obtain ⟨ad105,cv105,hp105,aD,cr105⟩:=ob_read Tryz.isAgg134 Tryz.sizeOf134 b104
  exact endm_ct rfl rfl ((show _=p2 from n8).trans hp105) aD (show _=.int .i64 (0) from rfl) ⟨_,hfr,_,_,rfl,cr105,rfl⟩
def f54 (x0:LoomMill) (x1:List LoomOrder):Option ((List Int) × Int):=
 (f46 x0 x1).bind fun y4=>
 jn (σ:=Unit) (fun _=>
  (f48 (y4.1)).bind fun t5=>
  (f47 (y4.1) t5 ([])).bind fun x5=>
  (f49 (((x1).length:Int)) ((fun a0=>f100 a0 x5))).bind fun l5=>
  jn (σ:=Unit) (fun _=>
   some (l5.1,(0:Int))
   ) fun a9=>
  bif (!l5.2) then
   some ([],(7:Int))
  else
   a9 ()
  ) fun k8=>
 bif (y4.2 != (0 : Int)) then
  some ([],y4.2)
 else
  k8 ()
theorem en54:Enters Tryz.prog 54:=enters_of Tryz.func54 (by kernel_rfl) rfl
theorem wk54 {gI:Gh} {wI:World} {x0:LoomMill} {x1:List LoomOrder} {up0:Value} (rp0:RV gI.m wI x0 up0) {up1:Value} (rp1:RV gI.m wI x1 up1) {r:(List Int) × Int} (h:f54 x0 x1=some r):Fn Tryz.prog 54 #[up0,up1] gI wI (fun m w v=>∃ y0 y1,v=.tuple #[y0,y1]∧RV m w (r.1) y0∧y1=.int .i64 (r.2)):=by
 unfold f54 at h
 refine fn_of_E Tryz.func54 rfl (Nat.le_of_ble_eq_true rfl) fun g0 hm hfr=>?_
 have rp0:RV g0.m wI x0 up0:=hm ▸ rp0
 have rp1:RV g0.m wI x1 up1:=hm ▸ rp1
 show E _ 34 none _ _ _ _ _
 refine Zf (Za (Ze .plain rfl (D_box (g:=g0) rfl rp0 fun g1 w1 p1 hs q1=>?_)))
 have hfr:=hfr.ext hs
 have rp1:=rp1.ext hs
 refine Zg (.slice none 0 0) rfl rfl ?_
 refine Zg (.int .i64 (0)) rfl rfl ?_
 refine Zb (Zd (Zf (Za (Ze .plain rfl (D_load (g:=g1) Tryz.isAgg30 Tryz.sizeOf30 rfl q1 fun v2 r2=>?_)))))
 refine Zn up1 rfl rfl ?_
 obtain ⟨y4,iA,h⟩:=bsome h
 refine Ze .plain rfl (Zp (g:=g1) (vs:=[v2,up1]) en46 (.cons rfl (.cons rfl .nil)) (wk46 r2 rp1 iA) fun g3 w3_ v3 hs hr=>?_)
 have hfr:=hfr.ext hs
 have rp1:=rp1.ext hs
 obtain ⟨x6,oB,rfl,y6,rfl⟩:=hr
 refine Zn (.tuple #[x6,.int .i64 (y4.2)]) rfl rfl ?_
 refine EL_p x6 (Zi rfl rfl) rfl ?_
 refine EL_p (.int .i64 (y4.2)) (Zi rfl rfl) rfl ?_
 refine Ze .plain rfl (D_allocOc (g:=g3) 2006 (⟨⟨[],0⟩,[]⟩:LoomLoomMill) Tryz.zeroValue134 (fun m w=>⟨_,(rep_two (rep_two rep_nil rep_int) rep_nil),rfl⟩) fun g5 w5 p5 hs b5 cb=>?_)
 have hfr:=hfr.stp hs
 have rp1:=rp1.stp hs
 have y6:=y6.stp hs
 have tB:OSF 2006 60600 0 g5 w5 3 134 ([]:List Int) p5:=cb.osf (by rfl)
 have vB:OSF 2006 60602 2 g5 w5 49 134 ([]:List LoomOrder) p5:=cb.osf (by rfl)
 clear cb
 refine Ze .plain rfl (D_storeOc (g:=g5) (v:=x6) Tryz.sizeOf134 rfl b5 rfl y6 fun g6 w6 hs b6 cb=>?_)
 clear cb
 have hfr:=hfr.stp hs
 have rp1:=rp1.stp hs
 refine Zg (.int .i64 (y4.2)) rfl rfl ?_
 refine Zb (Zd (Zq h (fun (s:Unit) e w=>∃ (g:Gh) ,Fr gI wI g w∧e 1=up1∧RV g.m w (x1:List LoomOrder) up1∧e 6=p5∧OB 2006 g w 134 (y4.1:LoomLoomMill) p5) (fun X8 k8 rA h=>?_) ?_))
 ·refine Zf (Za (Zn (.int .i64 (y4.2)) rfl rfl ?_))
  refine EL_in (.bool ((y4.2 != (0:Int)))) rfl rfl rfl rfl ?_
  refine Zb (Zd ?_)
  rcases Zt h with ⟨l8,h⟩ | ⟨l8,h⟩
  ·refine E_ct l8 rfl ?_
   refine Zf (Za (Zn (.int .i64 (y4.2)) rfl rfl ?_))
   refine Zg (.slice none 0 0) rfl rfl ?_
   refine Zg (.int .i64 (y4.2)) rfl rfl ?_
   refine Zb (Zd (E_ret (thn_r ?_)))
   obtain rfl:=sinj h
   exact end2 rfl rfl (show _=.slice none 0 0 from rfl) (show _=.int .i64 (y4.2) from rfl) ⟨_,hfr,_,_,rfl,RV_nil,rfl⟩
  ·refine E_cf l8 rfl ?_
   exact Zu (Zd (rA () _ _ ⟨g6,hfr,rfl,rp1,rfl,b6⟩ h))
 ·rintro _ yB mC ⟨yA, hfr, n8, o0, m7, g8⟩ h
  refine Zf (L_loadO0 (x:=.tmp 6) Tryz.isAgg134 Tryz.sizeOf134 g8 fun d9 aB n9=>?_)
  refine L_loadO0 (x:=.tmp 6) Tryz.isAgg134 Tryz.sizeOf134 g8 fun k9 dB hl12=>?_
  obtain ⟨t5,u9,h⟩:=bsome h
  obtain ⟨x5,y9,h⟩:=bsome h
  refine E_drawL (g:=yA) (n:=5) [(2,(fun v g w=>RV g.m w t5 v)),(3,(fun v g w=>RV g.m w x5 v)),(4,(fun v g w=>OB 2008 g w 137 ([]:List Bool) v))] [0,1,2,3,4] rfl mixed (by kernel_rfl) (⟨fun _=>up_rv,fun _=>up_rv,fun _=>up_ob,trivial⟩) ?_
  refine L_ld (c:=d9) rfl rfl .plain (fun _ _ h=>⟨h.ch,fun b hb _=>h.below.block b hb⟩) n9 m7 ?_
  refine L_ld (c:=k9) rfl rfl .plain (fun _ _ h=>⟨h.ch,fun b hb _=>h.below.block b hb⟩) hl12 m7 ?_
  refine L_do (φ:=fun v g w=>RV g.m w t5 v) rfl rfl .plain (fun g w hd=>Zp (g:=g) (vs:=[k9]) en48 (.cons rfl .nil) (wk48 (dB.ext hd.1) u9) fun g' w' v hs hr=>⟨g',hs,hr⟩) (fun m8 hv=>?_)
  obtain ⟨_,_,_,rq13⟩:=hv
  refine L_do (φ:=fun v g w=>RV g.m w x5 v) rfl rfl .plain (fun g w hd=>Zp (g:=g) (vs:=[d9,m8,.map none]) en47 (.cons rfl (.cons rfl (.cons rfl .nil))) (wk47 (aB.ext hd.1) (word (A:=fun g w=>RV g.m w t5 m8) 2 rfl rfl (deps_of hd)) MR.nil y9) fun g' w' v hs hr=>⟨g',hs,hr⟩) (fun l9 hv=>?_)
  obtain ⟨_,_,_,rq15⟩:=hv
  refine L_do (φ:=fun v g w=>OB 2008 g w 137 ([]:List Bool) v) rfl rfl .plain (fun g w hd=>D_allocX (g:=g) 2008 ([]:List Bool) Tryz.zeroValue137 (fun m w=>⟨_,rep_nil,rfl⟩) fun g' w' v hs b=>⟨g',hs,b⟩) (fun i6 hv=>?_)
  clear hv
  refine L_nil fun iB qC hall=>?_
  have hs:=hall.1
  have hfr:=hfr.ext hs
  have o0:=o0.ext hs
  have rC:=(word_all (A:=fun g w=>RV g.m w t5 m8) 2 rfl hall)
  have lB:=(word_all (A:=fun g w=>RV g.m w x5 l9) 3 rfl hall)
  have b25:=(word_all (A:=fun g w=>OB 2008 g w 137 ([]:List Bool) i6) 4 rfl hall)
  clear hs hall
  refine Ze .plain rfl (D_storeOc (g:=iB) (v:=l9) Tryz.sizeOf137 rfl b25 rfl lB fun uC vC hs b26 cb=>?_)
  clear cb
  have hfr:=hfr.stp hs
  have o0:=o0.stp hs
  obtain ⟨gp26,hs,qp26⟩:=OB.pub b26
  have hfr:=hfr.stp hs
  have o0:=o0.stp hs
  refine Zb (Zd (Zf (Za (Zo n8 rfl ?_))))
  refine EL_p (.int .i64 ((x1).length:Int)) (P_len Tryz.underlying31 rfl o0) rfl ?_
  refine EL_p ((.func (.func 100) #[] #[i6])) (P_makeFunc (capf_0_1 (show ev _ _=i6 from rfl))) rfl ?_
  obtain ⟨l5,z9,h⟩:=bsome h
  refine Ze .plain rfl (Zp (g:=gp26) (vs:=[.int .i64 ((x1).length:Int),(.func (.func 100) #[] #[i6])]) en49 (.cons rfl (.cons rfl .nil)) (wk49 ⟨100,#[],#[i6],rfl,en100,fun g' w' hch a0 b0 r hu0 hr=>by obtain rfl:=Zj.1 hu0; exact Fn.mono (wk100  (qp26.ch hch) hr) fun _ _ _ h=>RV_bool.2 h⟩ z9) fun mB zB aD hs hr=>?_)
  have hfr:=hfr.ext hs
  obtain ⟨u3,nB,rfl,r8,rfl⟩:=hr
  refine Zn (.tuple #[u3,.bool (l5.2)]) rfl rfl ?_
  refine EL_p u3 (Zi rfl rfl) rfl ?_
  refine EL_p (.bool (l5.2)) (Zi rfl rfl) rfl ?_
  refine Zg u3 rfl rfl ?_
  refine Zg (.bool (l5.2)) rfl rfl ?_
  refine Zb (Zd (Zq h (fun (s:Unit) e w=>∃ (g:Gh) ,Fr gI wI g w∧e 9=u3∧RV g.m w (l5.1:List Int) u3) (fun X30 a9 bA h=>?_) ?_))
  ·refine Zf (Za (Zn (.bool (l5.2)) rfl rfl ?_))
   refine EL_p (.bool (!l5.2)) (P_not rfl) rfl ?_
   refine Zb (Zd ?_)
   rcases Zt h with ⟨i7,h⟩ | ⟨i7,h⟩
   ·refine E_ct i7 rfl ?_
    refine Zf (Za (Zg (.slice none 0 0) rfl rfl ?_))
    refine Zg (.int .i64 (7)) rfl rfl ?_
    refine Zb (Zd (E_ret (thn_r ?_)))
    obtain rfl:=sinj h
    exact end2 rfl rfl (show _=.slice none 0 0 from rfl) (show _=.int .i64 (7) from rfl) ⟨_,hfr,_,_,rfl,RV_nil,rfl⟩
   ·refine E_cf i7 rfl ?_
    exact Zu (Zd (bA () _ _ ⟨mB,hfr,rfl,r8⟩ h))
  ·rintro _ cC bD ⟨cD, hfr, v8, x8⟩ h
   refine Zf (Za (Zo v8 rfl ?_))
   refine Zg u3 rfl rfl ?_
   refine Zg (.int .i64 (0)) rfl rfl ?_
   refine Zb (Zd (E_ret ?_))
   obtain rfl:=sinj h
   exact end2 rfl rfl (show _=u3 from rfl) (show _=.int .i64 (0) from rfl) ⟨_,hfr,_,_,rfl,x8,rfl⟩
def f56 (x0:PayList) (x1:PayPiece):Option (PayPayList × Int):=
 jn (σ:=PayPayList) (fun r8=>
  (f101 ((⟨x0⟩:PayPayList)) x1).bind fun u3=>
  some ((⟨x0⟩:PayPayList),u3)
  ) fun a9=>
 (f60 x0).bind fun o0=>
 bif (o0 != (0 : Int)) then
  some ((⟨x0⟩:PayPayList),o0)
 else
  a9 ((⟨⟨[],[],0,0⟩⟩:PayPayList))
theorem en56:Enters Tryz.prog 56:=enters_of Tryz.func56 (by kernel_rfl) rfl
theorem wk56 {gI:Gh} {wI:World} {x0:PayList} {x1:PayPiece} {up0:Value} (rp0:RV gI.m wI x0 up0) {up1:Value} (rp1:RV gI.m wI x1 up1) {r:PayPayList × Int} (h:f56 x0 x1=some r):Fn Tryz.prog 56 #[up0,up1] gI wI (fun m w v=>∃ y0 y1,v=.tuple #[y0,y1]∧RV m w (r.1) y0∧y1=.int .i64 (r.2)):=by
 unfold f56 at h
 refine fn_of_E Tryz.func56 rfl (Nat.le_of_ble_eq_true rfl) fun g0 hm hfr=>?_
 have rp0:RV g0.m wI x0 up0:=hm ▸ rp0
 have rp1:RV g0.m wI x1 up1:=hm ▸ rp1
 show E _ 20 none _ _ _ _ _
 refine Zf (Za (Ze .plain rfl (D_box (g:=g0) rfl rp0 fun g1 w1 p1 hs q1=>?_)))
 have hfr:=hfr.ext hs
 have rp1:=rp1.ext hs
 refine Ze .plain rfl (D_box (g:=g1) rfl rp1 fun g2 w2 p2 hs q2=>?_)
 have hfr:=hfr.ext hs
 have q1:=q1.ext hs
 refine Ze .plain rfl (D_allocOc (g:=g2) 2004 (⟨⟨[],[],0,0⟩⟩:PayPayList) Tryz.zeroValue153 (fun m w=>⟨_,(rep_two rep_nil (rep_two rep_nil (rep_two rep_int rep_int))),rfl⟩) fun g3 w3 p3 hs b3 cb=>?_)
 have hfr:=hfr.stp hs
 have q1:=q1.stp hs
 have q2:=q2.stp hs
 have t5:OSF 2004 60400 0 g3 w3 148 153 ([]:List PayRate) p3:=cb.osf (by rfl)
 have x5:OSF 2004 60401 1 g3 w3 3 153 ([]:List Int) p3:=cb.osf (by rfl)
 clear cb
 refine Zg (.int .i64 (0)) rfl rfl ?_
 refine Zb (Zd (Zq h (fun (s:PayPayList) e w=>∃ (g:Gh) ,Fr gI wI g w∧e 2=p1∧PT g.m w (x0:PayList) p1∧e 3=p2∧PT g.m w (x1:PayPiece) p2∧e 4=p3∧OB 2004 g w 153 (s:PayPayList) p3∧OSF 2004 60400 0 g w 148 153 (((s).PayList).Rates) p3∧OSF 2004 60401 1 g w 3 153 (((s).PayList).Extras) p3) (fun X12 a9 rA h=>?_) ?_))
 ·refine Zf (Za (Ze .plain rfl (D_load (g := g3) Tryz.isAgg59 Tryz.sizeOf59 rfl q1 fun vB yB => ?_)))
  obtain ⟨o0,yA,h⟩:=bsome h
  refine Ze .plain rfl (Zp (g:=g3) (vs:=[vB]) en60 (.cons rfl .nil) (wk60 yB yA) fun x6 mC rC hs hr=>?_)
  have hfr:=hfr.ext hs
  have q1:=q1.ext hs
  have q2:=q2.ext hs
  have t5:=t5.ext hs
  have x5:=x5.ext hs
  have b3:=b3.ext hs
  subst hr
  refine Zg (.int .i64 (o0)) rfl rfl ?_
  refine Zb (Zd (Zf (Za (Zn (.int .i64 (o0)) rfl rfl ?_))))
  refine EL_in (.bool ((o0 != (0:Int)))) rfl rfl rfl rfl ?_
  refine Zb (Zd ?_)
  rcases Zt h with ⟨i6,h⟩ | ⟨i6,h⟩
  ·refine E_ct i6 rfl ?_
   refine Zf (Za (Ze .plain rfl (D_load (g:=x6) Tryz.isAgg59 Tryz.sizeOf59 rfl q1 fun m8 d9=>?_)))
   have k9:RV x6.m _ (⟨x0⟩:PayPayList) (.agg (setCh [[.slice none 0 0,.slice none 0 0,.int .i64 0,.int .i64 0]] [(0,m8)]).flatten.toArray):=RV_build rfl (rep_last (RV.cells d9))
   generalize aB:(Value.agg (setCh [[.slice none 0 0,.slice none 0 0,.int .i64 0,.int .i64 0]] [(0,m8)]).flatten.toArray)=l9 at k9
   refine EL_p l9 (aB ▸ P_build (vs:=[(0,m8)]) [[.slice none 0 0,.slice none 0 0,.int .i64 0,.int .i64 0]] lay_153 rfl rfl (.cons rfl .nil) ⟨⟨_,rfl,cells_size d9⟩,trivial⟩) rfl ?_
   refine Zn (.int .i64 (o0)) rfl rfl ?_
   refine Ze .plain rfl (D_storeOc (g:=x6) (v:=l9) Tryz.sizeOf153 rfl b3 rfl k9 fun uC vC hs b19 cb=>?_)
   clear cb
   have hfr:=hfr.stp hs
   refine Zg (.int .i64 (o0)) rfl rfl ?_
   refine Zb (Zd (E_ret (thn_r ?_)))
   obtain rfl:=sinj h
   obtain ⟨ad20,cv20,hp20,hl20,cr20⟩:=ob_read Tryz.isAgg153 Tryz.sizeOf153 b19
   exact endm_ct rfl rfl ((show _=p3 from rfl).trans hp20) hl20 (show _=.int .i64 (o0) from rfl) ⟨_,hfr,_,_,rfl,cr20,rfl⟩
  ·refine E_cf i6 rfl ?_
   exact Zu (Zd (rA ((⟨⟨[],[],0,0⟩⟩:PayPayList)) _ _ ⟨x6,hfr,rfl,q1,rfl,q2,rfl,b3,t5,x5⟩ h))
 ·rintro r8 qC aD ⟨n8, hfr, y6, i7, v8, x8, m7, l5, u4_0_21, u4_1_21⟩ h
  refine Zf (Zs (x:=.tmp 2) Tryz.isAgg59 Tryz.sizeOf59 i7 fun g8 n9 dB=>?_)
  have k8:RV n8.m _ (⟨x0⟩:PayPayList) (.agg (setCh [[.slice none 0 0,.slice none 0 0,.int .i64 0,.int .i64 0]] [(0,g8)]).flatten.toArray):=RV_build rfl (rep_last (RV.cells n9))
  generalize iB:(Value.agg (setCh [[.slice none 0 0,.slice none 0 0,.int .i64 0,.int .i64 0]] [(0,g8)]).flatten.toArray)=u9 at k8
  refine Zs (x:=.tmp 2) Tryz.isAgg59 Tryz.sizeOf59 i7 fun l8 y9 lB=>?_
  have z9:RV n8.m _ (⟨x0⟩:PayPayList) (.agg (setCh [[.slice none 0 0,.slice none 0 0,.int .i64 0,.int .i64 0]] [(0,l8)]).flatten.toArray):=RV_build rfl (rep_last (RV.cells y9))
  generalize mB:(Value.agg (setCh [[.slice none 0 0,.slice none 0 0,.int .i64 0,.int .i64 0]] [(0,l8)]).flatten.toArray)=bA at z9
  refine Zs (x:=.tmp 3) Tryz.isAgg68 Tryz.sizeOf68 x8 fun iA zB nB=>?_
  obtain ⟨u3,oB,h⟩:=bsome h
  refine E_drawL (g:=n8) (n:=6) [(5,(fun v g w=>v=.int .i64 (u3)))] [0,1,2,3,4,5] rfl mixed (by kernel_rfl) (⟨fun _=>up_eq _,trivial⟩) ?_
  refine L_ld (c:=g8) rfl rfl .plain (fun _ _ h=>h.ch) dB y6 ?_
  refine L_p u9 rfl rfl (iB ▸ P_build (vs:=[(0,g8)]) [[.slice none 0 0,.slice none 0 0,.int .i64 0,.int .i64 0]] lay_153 rfl rfl (.cons rfl .nil) ⟨⟨_,rfl,cells_size n9⟩,trivial⟩) ?_
  refine L_ld (c:=l8) rfl rfl .plain (fun _ _ h=>h.ch) lB y6 ?_
  refine L_p bA rfl rfl (mB ▸ P_build (vs:=[(0,l8)]) [[.slice none 0 0,.slice none 0 0,.int .i64 0,.int .i64 0]] lay_153 rfl rfl (.cons rfl .nil) ⟨⟨_,rfl,cells_size y9⟩,trivial⟩) ?_
  refine L_ld (c:=iA) rfl rfl .plain (fun _ _ h=>h.ch) nB v8 ?_
  refine L_do (φ:=fun v g w=>v=.int .i64 (u3)) rfl rfl .plain (fun g w hd=>Zp (g:=g) (vs:=[bA,iA]) en101 (.cons rfl (.cons rfl .nil)) (wk101 (z9.ext hd.1) (zB.ext hd.1) oB) fun g' w' v hs hr=>⟨g',hs,hr⟩) (fun bD hv=>?_)
  obtain ⟨_,_,_,rfl⟩:=hv
  refine L_nl fun cC w29 hs=>?_
  have hfr:=hfr.ext hs
  have l5:=l5.ext hs
  have k8:=k8.ext hs
  clear hs
  refine Ze .plain rfl (D_storeOc (g:=cC) (v:=u9) Tryz.sizeOf153 m7 l5 rfl k8 fun cD eD hs b39 cb=>?_)
  clear cb
  have hfr:=hfr.stp hs
  refine Zg (.int .i64 (u3)) rfl rfl ?_
  refine Zb (Zd (E_ret ?_))
  obtain rfl:=sinj h
  obtain ⟨ad40,cv40,hp40,tB,cr40⟩:=ob_read Tryz.isAgg153 Tryz.sizeOf153 b39
  exact endm_ct rfl rfl ((show _=p3 from m7).trans hp40) tB (show _=.int .i64 (u3) from rfl) ⟨_,hfr,_,_,rfl,cr40,rfl⟩
def f64 (x0:List Int) (x1:Int→Int→Option Int):Option ((List Int)):=
 (f109 x0 (((x0).length:Int)) x1).bind fun y2=>
 some (y2)
theorem en64:Enters Tryz.prog 64:=enters_of Tryz.func64 (by kernel_rfl) rfl
theorem wk64 {iI:Nat} {gI:Gh} {wI:World} {x0:List Int} {x1:Int→Int→Option Int} {up0:Value} (mp0:OM iI gI wI 3 x0 up0) {up1:Value} (rp1:FnV2 Tryz.prog x1 up1 gI wI) {r:(List Int)} (h:f64 x0 x1=some r):FnM Tryz.prog 64 #[up0,up1] iI gI wI (fun g w v=>v=.tuple #[]∧OM iI g w 3 r up0):=by
 unfold f64 at h
 refine fnM_of_E Tryz.func64 rfl (Nat.le_of_ble_eq_true rfl) fun g0 hm hfr=>?_
 have o0:=mp0
 replace mp0:=mp0.enter
 rw [← hm] at mp0
 replace hm:g0.m=gI.m:=by rw [hm]
 obtain ⟨ff1,fa1,fc1,rfl,fen1,fcl1⟩:=rp1
 show E _ 9 none _ _ _ _ _
 refine Za (Zn up0 rfl rfl ?_)
 refine Zn up0 rfl rfl ?_
 refine EL_p (.int .i64 ((x0).length:Int)) (P_lenM Tryz.underlying28 rfl mp0) rfl ?_
 refine Zn ((.func (.func ff1) fa1 fc1)) rfl rfl ?_
 obtain ⟨y2,hy2,h⟩:=bsome h
 refine Ze .plain rfl (D_callM (g:=g0) (i:=1) (vs:=[up0,.int .i64 ((x0).length:Int),(.func (.func ff1) fa1 fc1)]) en109 (.cons rfl (.cons rfl (.cons rfl .nil))) (wk109 mp0 (FnV2.ch ⟨_,_,_,rfl,fen1,fcl1⟩ hfr.ch) hy2) fun g1 w1_ v1 hs hr=>?_)
 obtain ⟨hrv,b1⟩:=hr
 have hfr:=hfr.stp hs
 subst hrv
 refine Zb ?_
 obtain rfl:=sinj h
 exact end0n rfl rfl ⟨_,hfr,rfl,o0.back b1⟩
def f70 (x0:PayTable):Option (PaySheet × Int):=
 (f76 x0).bind fun y5=>
 Option.bind (α:=Int) (
  Option.bind (α:=Bool) (
   bif (y5.2 == (0 : Int)) then
    (f114 (y5.1)).bind fun x6=>
    some ((decide (((x6).length:Int) > (0:Int))))
   else
    some (false)
   ) fun x5=>
  bif x5 then
   some ((7:Int))
  else
   some (y5.2)
  ) fun i6=>
 some (y5.1,i6)
theorem en70:Enters Tryz.prog 70:=enters_of Tryz.func70 (by kernel_rfl) rfl
theorem wk70 {gI:Gh} {wI:World} {x0:PayTable} {up0:Value} (rp0:RV gI.m wI x0 up0) {r:PaySheet × Int} (h:f70 x0=some r):Fn Tryz.prog 70 #[up0] gI wI (fun m w v=>∃ y0 y1,v=.tuple #[y0,y1]∧RV m w (r.1) y0∧y1=.int .i64 (r.2)):=by
 unfold f70 at h
 refine fn_of_E Tryz.func70 rfl (Nat.le_of_ble_eq_true rfl) fun g0 hm hfr=>?_
 have rp0:RV g0.m wI x0 up0:=hm ▸ rp0
 show E _ 21 none _ _ _ _ _
 refine Zf (Za (Ze .plain rfl (D_box (g:=g0) rfl rp0 fun g1 w1 p1 hs q1=>?_)))
 have hfr:=hfr.ext hs
 refine Ze .plain rfl (D_allocOc (g:=g1) 2002 (⟨⟨[],[],[],0⟩⟩:PaySheet) Tryz.zeroValue173 (fun m w=>⟨_,(rep_two rep_nil (rep_two rep_nil (rep_two rep_nil rep_int))),rfl⟩) fun g2 w2 p2 hs b2 cb=>?_)
 have hfr:=hfr.stp hs
 have q1:=q1.stp hs
 have o0:OSF 2002 60200 0 g2 w2 28 173 ([]:List (List Int)) p2:=cb.osf (by rfl)
 have u3:OSF 2002 60201 1 g2 w2 3 173 ([]:List Int) p2:=cb.osf (by rfl)
 have l5:OSF 2002 60202 2 g2 w2 3 173 ([]:List Int) p2:=cb.osf (by rfl)
 clear cb
 refine Zg (.int .i64 (0)) rfl rfl ?_
 refine Zb (Zd (Zf (Za (Ze .plain rfl (D_load (g:=g2) Tryz.isAgg91 Tryz.sizeOf91 rfl q1 fun v3 r3=>?_)))))
 obtain ⟨y5,hy5,h⟩:=bsome h
 refine Ze .plain rfl (Zp (g:=g2) (vs:=[v3]) en76 (.cons rfl .nil) (wk76 r3 hy5) fun g4 w4_ v4 hs hr=>?_)
 have hfr:=hfr.ext hs
 have o0:=o0.ext hs
 have u3:=u3.ext hs
 have l5:=l5.ext hs
 have b2:=b2.ext hs
 obtain ⟨i7,dB,rfl,m7,rfl⟩:=hr
 refine Zn (.tuple #[i7,.int .i64 (y5.2)]) rfl rfl ?_
 refine EL_p i7 (Zi rfl rfl) rfl ?_
 refine EL_p (.int .i64 (y5.2)) (Zi rfl rfl) rfl ?_
 refine Ze .plain rfl (D_allocOc (g:=g4) 2004 (⟨⟨[],[],[],0⟩⟩:PaySheet) Tryz.zeroValue173 (fun m w=>⟨_,(rep_two rep_nil (rep_two rep_nil (rep_two rep_nil rep_int))),rfl⟩) fun g6 w6 p6 hs b6 cb=>?_)
 have hfr:=hfr.stp hs
 have o0:=o0.stp hs rfl
 have u3:=u3.stp hs rfl
 have l5:=l5.stp hs rfl
 have b2:=b2.stp hs rfl
 have m7:=m7.stp hs
 have iB:OSF 2004 60400 0 g6 w6 28 173 ([]:List (List Int)) p6:=cb.osf (by rfl)
 have lB:OSF 2004 60401 1 g6 w6 3 173 ([]:List Int) p6:=cb.osf (by rfl)
 have mB:OSF 2004 60402 2 g6 w6 3 173 ([]:List Int) p6:=cb.osf (by rfl)
 clear cb
 refine Ze .plain rfl (D_storeOc (g:=g6) (v:=i7) Tryz.sizeOf173 rfl b6 rfl m7 fun g7 w7 hs b7 cb=>?_)
 clear cb
 have hfr:=hfr.stp hs
 have o0:=o0.stp hs rfl
 have u3:=u3.stp hs rfl
 have l5:=l5.stp hs rfl
 have b2:=b2.stp hs rfl
 refine Zg (.int .i64 (y5.2)) rfl rfl ?_
 refine Zb (Zd ?_)
 obtain ⟨i6,hx,h⟩:=bsome h
 refine E_join (fun e w=>∃ (g:Gh) ,Fr gI wI g w∧e 2=p2∧OB 2002 g w 173 ((⟨⟨[],[],[],0⟩⟩:PaySheet):PaySheet) p2∧OSF 2002 60200 0 g w 28 173 ((((⟨⟨[],[],[],0⟩⟩:PaySheet)).PayTable).Rows) p2∧OSF 2002 60201 1 g w 3 173 ((((⟨⟨[],[],[],0⟩⟩:PaySheet)).PayTable).Across) p2∧OSF 2002 60202 2 g w 3 173 ((((⟨⟨[],[],[],0⟩⟩:PaySheet)).PayTable).Down) p2∧e 4=p6∧OB 2004 g w 173 (y5.1:PaySheet) p6∧e 5=.int .i64 (i6)) (fun Q' hQ=>?_) (fun nB vB hR=>?_)
 ·replace h := hx
  clear hx
  obtain ⟨x5,hx,h⟩:=bsome h
  refine E_join (fun e w=>∃ (g:Gh) ,Fr gI wI g w∧e 2=p2∧OB 2002 g w 173 ((⟨⟨[],[],[],0⟩⟩:PaySheet):PaySheet) p2∧OSF 2002 60200 0 g w 28 173 ((((⟨⟨[],[],[],0⟩⟩:PaySheet)).PayTable).Rows) p2∧OSF 2002 60201 1 g w 3 173 ((((⟨⟨[],[],[],0⟩⟩:PaySheet)).PayTable).Across) p2∧OSF 2002 60202 2 g w 3 173 ((((⟨⟨[],[],[],0⟩⟩:PaySheet)).PayTable).Down) p2∧e 4=p6∧OB 2004 g w 173 (y5.1:PaySheet) p6∧e 5=.int .i64 (y5.2)∧e 18=.bool (x5)) (fun Q' hQ=>?_) (fun oB yB hR=>?_)
  ·replace h := hx
   clear hx
   refine Za (Zn (.int .i64 (y5.2)) rfl rfl ?_)
   refine EL_in (.bool ((y5.2 == (0:Int)))) rfl rfl rfl rfl ?_
   refine Zn (.bool ((y5.2 == (0:Int)))) rfl rfl ?_
   rcases Zt h with ⟨t5,h⟩ | ⟨t5,h⟩
   ·refine Ze (.yes2 rfl rfl t5) rfl (D_loadO (g := g7) Tryz.isAgg173 Tryz.sizeOf173 rfl b7 fun z9 bA => ?_)
    obtain ⟨x6,u9,h⟩:=bsome h
    refine Ze (.yes2 rfl rfl t5) rfl (Zp (g:=g7) (vs:=[z9]) en114 (.cons rfl .nil) (wk114 bA u9) fun iA tB zB hs hr=>?_)
    have hfr:=hfr.ext hs
    have o0:=o0.ext hs
    have u3:=u3.ext hs
    have l5:=l5.ext hs
    have b2:=b2.ext hs
    have b7:=b7.ext hs
    have rA:=hr
    refine EL_y (.int .i64 ((x6).length:Int)) (P_len Tryz.underlying184 rfl rA) rfl rfl t5 rfl ?_
    refine EL_y (.bool ((decide (((x6).length:Int) > (0:Int))))) (P_int rfl rfl rfl) rfl rfl t5 rfl ?_
    refine EL_p (.bool ((decide (((x6).length:Int) > (0:Int))))) (Zl (b:=(y5.2 == (0:Int))) rfl (pick_t t5 rfl)) rfl ?_
    refine Zb ?_
    obtain rfl:=sinj h
    exact hQ _ _ ⟨iA,hfr,rfl,b2,o0,u3,l5,rfl,b7,rfl,rfl⟩
   ·refine EL_s rfl rfl t5 rfl rfl ?_
    iterate 3 refine EL_s rfl rfl t5 rfl rfl ?_
    refine EL_p (.bool false) (Zl (b:=(y5.2 == (0:Int))) rfl (pick_f t5 rfl)) rfl ?_
    refine Zb ?_
    obtain rfl:=sinj h
    exact hQ _ _ ⟨g7,hfr,rfl,b2,o0,u3,l5,rfl,b7,rfl,rfl⟩
  ·clear hx
   obtain ⟨l9,hfr,k8,l8,u2_0_26,u2_1_26,u2_2_26,m8,n8,v8,y6⟩:=hR
   rcases Zt h with ⟨g8,h⟩ | ⟨g8,h⟩
   ·refine E_cond_true (Eq.trans (show ev _ _ = .bool (x5) from y6) (congrArg Value.bool g8)) ?_
    refine Za (Zg (.int .i64 (7)) rfl rfl ?_)
    refine Zb ?_
    obtain rfl:=sinj h
    exact hQ _ _ ⟨l9,hfr,k8,l8,u2_0_26,u2_1_26,u2_2_26,m8,n8,rfl⟩
   ·refine E_cond_false (Eq.trans (show ev _ _ = .bool (x5) from y6) (congrArg Value.bool g8)) ?_
    refine Zu ?_
    obtain rfl:=sinj h
    exact hQ _ _ ⟨l9,hfr,k8,l8,u2_0_26,u2_1_26,u2_2_26,m8,n8,v8⟩
 ·clear hx
  obtain ⟨n9,hfr,r8,x8,u2_0_28,u2_1_28,u2_2_28,a9,d9,k9⟩:=hR
  refine Zf (Za (Ze .plain rfl (D_loadO (g:=n9) Tryz.isAgg173 Tryz.sizeOf173 a9 d9 fun yA aB=>?_)))
  refine Zo k9 rfl ?_
  refine Ze .plain rfl (D_storeOc (g:=n9) (v:=yA) Tryz.sizeOf173 r8 x8 rfl aB fun cC mC hs b30 cb=>?_)
  clear cb
  have hfr:=hfr.stp hs
  refine Zg (.int .i64 (i6)) rfl rfl ?_
  refine Zb (Zd (E_ret ?_))
  obtain rfl:=sinj h
  obtain ⟨ad31,cv31,hp31,y9,cr31⟩:=ob_read Tryz.isAgg173 Tryz.sizeOf173 b30
  exact endm_ct rfl rfl ((show _=p2 from r8).trans hp31) y9 (show _=.int .i64 (i6) from rfl) ⟨_,hfr,_,_,rfl,cr31,rfl⟩
def f17 (x0:LoomMill) (x1:List LoomOrder):Option ((List LoomRun) × Int):=
 (f46 x0 x1).bind fun y4=>
 jn (σ:=(List LoomRun)) (fun u9=>
  jn (σ:=(List LoomRun)) (fun rC=>
   jn (σ:=(List LoomRun)) (fun bA=>
    some (bA,(0:Int))
    ) fun cD=>
   lp (σ:=(List LoomRun) × (List (Int × LoomRun)) × Int) (fun eD (x5,iA,o0)=>
    bif (decide (o0 < ((x1).length : Int))) then
     jn (σ:=(List LoomRun) × (List (Int × LoomRun))) (fun (x8,a9)=>
      eD (x8,a9,(w64 (o0 + (1:Int))))
      ) fun gD=>
     jn (σ:=(List LoomRun) × (List (Int × LoomRun))) (fun (rA,i6)=>
      (apnd 24 rA (([((mget i6 o0).getD (⟨0,0,0⟩:LoomRun))]:List LoomRun))).bind fun vB=>
      gD (vB,i6)
      ) fun iD=>
     (f55 (y4.1) o0 iA).bind fun y132=>
     bif (!y132.1) then
      some ([],(9:Int))
     else
      iD (x5,y132.2)
    else
     cD (x5)
    ) big (rC,([]:List (Int × LoomRun)),(0:Int))
   ) fun eG=>
  (f48 (y4.1)).bind fun l9=>
  (f47 (y4.1) l9 (([]:List (Int × LoomRun)))).bind fun r8=>
  (f51 (y4.1)).bind fun yA=>
  (idx r8 yA).bind fun aB=>
  bif (!aB) then
   some ([],(9:Int))
  else
   eG (u9)
  ) fun k8=>
 bif (y4.2 != (0 : Int)) then
  some ([],y4.2)
 else
  k8 ([])
theorem en17:Enters Tryz.prog 17:=enters_of Tryz.func17 (by kernel_rfl) rfl
theorem wk17 {gI:Gh} {wI:World} {x0:LoomMill} {x1:List LoomOrder} {up0:Value} (rp0:RV gI.m wI x0 up0) {up1:Value} (rp1:RV gI.m wI x1 up1) {r:(List LoomRun) × Int} (h:f17 x0 x1=some r):Fn Tryz.prog 17 #[up0,up1] gI wI (fun m w v=>∃ y0 y1,v=.tuple #[y0,y1]∧RV m w (r.1) y0∧y1=.int .i64 (r.2)):=by
 unfold f17 at h
 refine fn_of_E Tryz.func17 rfl (Nat.le_of_ble_eq_true rfl) fun g0 hm hfr=>?_
 have rp0:RV g0.m wI x0 up0:=hm ▸ rp0
 have rp1:RV g0.m wI x1 up1:=hm ▸ rp1
 show E _ 47 none _ _ _ _ _
 refine Zf (Za (Ze .plain rfl (D_box (g:=g0) rfl rp0 fun g1 w1 p1 hs q1=>?_)))
 have hfr:=hfr.ext hs
 have rp1:=rp1.ext hs
 refine Zg (.slice none 0 0) rfl rfl ?_
 refine Zg (.int .i64 (0)) rfl rfl ?_
 refine Zb (Zd (Zf (Za (Ze .plain rfl (D_load (g:=g1) Tryz.isAgg30 Tryz.sizeOf30 rfl q1 fun v2 r2=>?_)))))
 refine Zn up1 rfl rfl ?_
 obtain ⟨y4,nH,h⟩:=bsome h
 refine Ze .plain rfl (Zp (g:=g1) (vs:=[v2,up1]) en46 (.cons rfl (.cons rfl .nil)) (wk46 r2 rp1 nH) fun g3 w3_ v3 hs hr=>?_)
 have hfr:=hfr.ext hs
 have rp1:=rp1.ext hs
 obtain ⟨yB,lI,rfl,zB,rfl⟩:=hr
 refine Zn (.tuple #[yB,.int .i64 (y4.2)]) rfl rfl ?_
 refine EL_p yB (Zi rfl rfl) rfl ?_
 refine EL_p (.int .i64 (y4.2)) (Zi rfl rfl) rfl ?_
 refine Ze .plain rfl (D_allocOc (g:=g3) 2006 (⟨⟨[],0⟩,[]⟩:LoomLoomMill) Tryz.zeroValue134 (fun m w=>⟨_,(rep_two (rep_two rep_nil rep_int) rep_nil),rfl⟩) fun g5 w5 p5 hs b5 cb=>?_)
 have hfr:=hfr.stp hs
 have rp1:=rp1.stp hs
 have zB:=zB.stp hs
 have mI:OSF 2006 60600 0 g5 w5 3 134 ([]:List Int) p5:=cb.osf (by rfl)
 have nI:OSF 2006 60602 2 g5 w5 49 134 ([]:List LoomOrder) p5:=cb.osf (by rfl)
 clear cb
 refine Ze .plain rfl (D_storeOc (g:=g5) (v:=yB) Tryz.sizeOf134 rfl b5 rfl zB fun g6 w6 hs b6 cb=>?_)
 clear cb
 have hfr:=hfr.stp hs
 have rp1:=rp1.stp hs
 refine Zg (.int .i64 (y4.2)) rfl rfl ?_
 refine Zb (Zd (Zq h (fun (s:(List LoomRun)) e w=>∃ (g:Gh) (v4:Value),Fr gI wI g w∧e 1=up1∧RV g.m w (x1:List LoomOrder) up1∧e 4=v4∧RV g.m w (s:List LoomRun) v4∧OS 1004 g w 66 (s:List LoomRun) v4∧e 6=p5∧OB 2006 g w 134 (y4.1:LoomLoomMill) p5) (fun X8 k8 oH h=>?_) ?_))
 ·refine Zf (Za (Zn (.int .i64 (y4.2)) rfl rfl ?_))
  refine EL_in (.bool ((y4.2 != (0:Int)))) rfl rfl rfl rfl ?_
  refine Zb (Zd ?_)
  rcases Zt h with ⟨jD,h⟩ | ⟨jD,h⟩
  ·refine E_ct jD rfl ?_
   refine Zf (Za (Zn (.int .i64 (y4.2)) rfl rfl ?_))
   refine Zg (.slice none 0 0) rfl rfl ?_
   refine Zg (.int .i64 (y4.2)) rfl rfl ?_
   refine Zb (Zd (E_ret (thn_r ?_)))
   obtain rfl:=sinj h
   exact end2 rfl rfl (show _=.slice none 0 0 from rfl) (show _=.int .i64 (y4.2) from rfl) ⟨_,hfr,_,_,rfl,RV_nil,rfl⟩
  ·refine E_cf jD rfl ?_
   exact Zu (Zd (oH ([]) _ _ ⟨g6,(.slice none 0 0),hfr,rfl,rp1,rfl,RV_nil,OS.nil,rfl,b6⟩ h))
 ·rintro u9 pI jJ ⟨pH, uE, hfr, vE, y6, xE, i7, m7, v8, u3⟩ h
  refine Zf (Za (Ze .plain rfl (D_makeMap (g:=pH) (Value.int .i64) LoomRun 8018 fun qH kJ t5 hs m11=>?_)))
  have hfr:=hfr.stp hs
  have y6:=y6.stp hs
  have i7:=i7.stp hs
  have m7:=m7.stp hs rfl
  have u3:=u3.stp hs rfl
  refine Zg t5 rfl rfl ?_
  refine Zb (Zd (Zq h (fun (s:(List LoomRun)) e w=>∃ (g:Gh) (v4:Value),Fr gI wI g w∧e 1=up1∧RV g.m w (x1:List LoomOrder) up1∧e 4=v4∧RV g.m w (s:List LoomRun) v4∧OS 1004 g w 66 (s:List LoomRun) v4∧e 6=p5∧OB 2006 g w 134 (y4.1:LoomLoomMill) p5∧e 7=t5∧MP (Value.int .i64) 8018 g w (([]:List (Int × LoomRun)):List (Int × LoomRun)) t5) (fun X41 eG jG h=>?_) ?_))
  ·refine Zf (L_loadO0 (x := .tmp 6) Tryz.isAgg134 Tryz.sizeOf134 u3 fun gG sH kG => ?_)
   refine L_loadO0 (x:=.tmp 6) Tryz.isAgg134 Tryz.sizeOf134 u3 fun hG tH lG=>?_
   obtain ⟨l9,mG,h⟩:=bsome h
   obtain ⟨r8,sG,h⟩:=bsome h
   refine L_loadO0 (x:=.tmp 6) Tryz.isAgg134 Tryz.sizeOf134 u3 fun iG uH xG=>?_
   obtain ⟨yA,yG,h⟩:=bsome h
   obtain ⟨aB,cC,h⟩:=bsome h
   refine E_drawL (g:=qH) (n:=10) [(2,(fun v g w=>RV g.m w l9 v)),(4,(fun v g w=>RV g.m w r8 v)),(6,(fun v g w=>v=.int .i64 (yA))),(8,(fun v _ _=>v=.bool (aB)))] [0,1,2,3,4,5,6,7,8,9] rfl mixed (by kernel_rfl) (⟨fun _=>up_rv,fun _=>up_rv,fun _=>up_eq _,fun _=>up_eq _,trivial⟩) ?_
   refine L_ld (c:=gG) rfl rfl .plain (fun _ _ h=>⟨h.ch,fun b hb _=>h.below.block b hb⟩) kG v8 ?_
   refine L_ld (c:=hG) rfl rfl .plain (fun _ _ h=>⟨h.ch,fun b hb _=>h.below.block b hb⟩) lG v8 ?_
   refine L_do (φ:=fun v g w=>RV g.m w l9 v) rfl rfl .plain (fun g w hd=>Zp (g:=g) (vs:=[hG]) en48 (.cons rfl .nil) (wk48 (tH.ext hd.1) mG) fun g' w' v hs hr=>⟨g',hs,hr⟩) (fun lD hv=>?_)
   obtain ⟨_,_,_,rq44⟩:=hv
   refine L_p t5 rfl rfl (Zk rfl) ?_
   refine L_do (φ:=fun v g w=>RV g.m w r8 v) rfl rfl .plain (fun g w hd=>Zp (g:=g) (vs:=[gG,lD,t5]) en47 (.cons rfl (.cons rfl (.cons rfl .nil))) (wk47 (sH.ext hd.1) (word (A:=fun g w=>RV g.m w l9 lD) 2 rfl rfl (deps_of hd)) (m11.ext hd.1).r sG) fun g' w' v hs hr=>⟨g',hs,hr⟩) (fun dB hv=>?_)
   obtain ⟨_,_,_,rq46⟩:=hv
   refine L_ld (c:=iG) rfl rfl .plain (fun _ _ h=>⟨h.ch,fun b hb _=>h.below.block b hb⟩) xG v8 ?_
   refine L_do (φ:=fun v g w=>v=.int .i64 (yA)) rfl rfl .plain (fun g w hd=>Zp (g:=g) (vs:=[iG]) en51 (.cons rfl .nil) (wk51 (uH.ext hd.1) yG) fun g' w' v hs hr=>⟨g',hs,hr⟩) (fun lJ hv=>?_)
   obtain ⟨_,_,_,rfl⟩:=hv
   refine L_pur (c:=ePtr dB yA 1) rfl rfl .plain (fun _ _ hd=>Zh (α:=Bool) Tryz.underlying137 Tryz.sizeOf4 rfl (word (A:=fun g w=>RV g.m w r8 dB) 4 rfl rfl (deps_of hd)) rfl cC) ?_
   refine L_do (φ:=(fun v _ _=>v=.bool (aB))) rfl rfl .plain (fun g w hd=>D_load (g:=g) Tryz.isAgg4 Tryz.sizeOf4 rfl (PT_idx (word (A:=fun g w=>RV g.m w r8 dB) 4 rfl rfl (hop 7 rfl rfl (deps_of hd))) cC) fun v r=>⟨g,Ext.refl g w,RV_bool.1 r⟩) (fun mJ hv=>?_)
   obtain ⟨_,_,_,rfl⟩:=hv
   refine L_p (.bool (!aB)) rfl rfl (P_not rfl) ?_
   refine L_nil fun xH nJ hall=>?_
   have hs:=hall.1
   have hfr:=hfr.ext hs
   have y6:=y6.ext hs
   have i7:=i7.ext hs
   have m7:=m7.ext hs
   have u3:=u3.ext hs
   have m11:=m11.ext hs
   have oJ:=(word_all (A:=fun g w=>RV g.m w l9 lD) 2 rfl hall)
   have pJ:=(word_all (A:=fun g w=>RV g.m w r8 dB) 4 rfl hall)
   have qJ:=(PT_idx (word_all (A:=fun g w=>RV g.m w r8 dB) 4 rfl hall) cC)
   clear hs hall
   refine Zb (Zd ?_)
   rcases Zt h with ⟨mC,h⟩ | ⟨mC,h⟩
   ·refine E_ct mC rfl ?_
    refine Zf (Za (Zg (.slice none 0 0) rfl rfl ?_))
    refine Zg (.int .i64 (9)) rfl rfl ?_
    refine Zb (Zd (E_ret (thn_r ?_)))
    obtain rfl:=sinj h
    exact end2 rfl rfl (show _=.slice none 0 0 from rfl) (show _=.int .i64 (9) from rfl) ⟨_,hfr,_,_,rfl,RV_nil,rfl⟩
   ·refine E_cf mC rfl ?_
    exact Zu (Zd (jG (u9) _ _ ⟨xH,(uE),hfr,vE,y6,xE,i7,m7,v8,u3,rfl,m11⟩ h))
  ·rintro rC qI rJ ⟨yH, yE, hfr, zE, cF, dF, eF, rF, sF, tF, uF, vF⟩ h
   refine Zq h (fun (s:(List LoomRun)) e w=>∃ (g:Gh) (v4:Value),Fr gI wI g w∧e 4=v4∧RV g.m w (s:List LoomRun) v4∧OS 1004 g w 66 (s:List LoomRun) v4) (fun X106 cD xF h=>?_) ?_
   ·refine Zf (Za (Zo zE rfl ?_))
    refine EL_p (.int .i64 ((x1).length:Int)) (P_len Tryz.underlying31 rfl cF) rfl ?_
    refine Zn (.int .i64 (0)) rfl rfl ?_
    refine Zb (Zd (Zr ?_))
    refine E_lp h (fun (s:(List LoomRun) × (List (Int × LoomRun)) × Int) e w=>∃ (g:Gh) (v4:Value),Fr gI wI g w∧e 4=v4∧RV g.m w (s.1:List LoomRun) v4∧OS 1004 g w 66 (s.1:List LoomRun) v4∧e 6=p5∧OB 2006 g w 134 (y4.1:LoomLoomMill) p5∧e 7=t5∧MP (Value.int .i64) 8018 g w (s.2.1:List (Int × LoomRun)) t5∧e 30=.int .i64 (((x1).length:Int))∧e 31=.int .i64 (s.2.2)) ⟨yH,(yE),hfr,dF,eF,rF,sF,tF,uF,vF,rfl,rfl⟩ (fun X107 eD yF=>?_)
    rintro ⟨x5,iA,o0⟩ bI sI ⟨qC,iB,hfr,lB,g8,l8,mB,m8,nB,nD,n9,n8⟩ h
    refine Zf (Za (EL_in (.bool ((decide (o0 < ((x1).length:Int))))) n8 n9 rfl rfl ?_))
    refine Zb (Zd (Zf ?_))
    rcases Zt h with ⟨y9,h⟩ | ⟨y9,h⟩
    ·refine E_ct y9 rfl ?_
     refine Zu (Zd (Zq h (fun (s:(List LoomRun) × (List (Int × LoomRun))) e w=>∃ (g:Gh) (v4:Value),Fr gI wI g w∧e 4=v4∧RV g.m w (s.1:List LoomRun) v4∧OS 1004 g w 66 (s.1:List LoomRun) v4∧e 6=p5∧OB 2006 g w 134 (y4.1:LoomLoomMill) p5∧e 7=t5∧MP (Value.int .i64) 8018 g w (s.2:List (Int × LoomRun)) t5∧e 30=.int .i64 (((x1).length:Int))∧e 31=.int .i64 (o0)) (fun X124 gD zF h=>?_) ?_))
     ·refine Zr ?_
      refine Zf (Za (Zo n8 rfl ?_))
      refine Zg (.int .i64 (o0)) rfl rfl ?_
      refine Zb (Zd (Zq h (fun (s:(List LoomRun) × (List (Int × LoomRun))) e w=>∃ (g:Gh) (v4:Value),Fr gI wI g w∧e 4=v4∧RV g.m w (s.1:List LoomRun) v4∧OS 1004 g w 66 (s.1:List LoomRun) v4∧e 6=p5∧OB 2006 g w 134 (y4.1:LoomLoomMill) p5∧e 7=t5∧MP (Value.int .i64) 8018 g w (s.2:List (Int × LoomRun)) t5∧e 8=.int .i64 (o0)∧e 30=.int .i64 (((x1).length:Int))∧e 31=.int .i64 (o0)) (fun X129 iD aG h=>?_) ?_))
      ·refine Zf (Za (Ze .plain rfl (D_loadO (g := qC) Tryz.isAgg134 Tryz.sizeOf134 mB m8 fun zG aH => ?_)))
       refine Zn (.int .i64 (o0)) rfl rfl ?_
       refine Zo nB rfl ?_
       obtain ⟨y132,bG,h⟩:=bsome h
       refine Ze .plain rfl (D_callM (g:=qC) (i:=8018) (vs:=[zG,.int .i64 (o0),t5]) en55 (.cons rfl (.cons rfl (.cons rfl .nil))) (wk55 aH nD bG) fun cH dI tI hs hr=>?_)
       obtain ⟨hrv,b131⟩:=hr
       have hfr:=hfr.stp hs
       have g8:=g8.stp hs
       have l8:=l8.stp hs rfl
       have m8:=m8.stp hs rfl
       subst hrv
       refine EL_p (.bool (!y132.1)) (P_not rfl) rfl ?_
       refine Zb (Zd ?_)
       rcases Zt h with ⟨z9,h⟩ | ⟨z9,h⟩
       ·refine E_ct z9 rfl ?_
        refine Zf (Za (Zg (.slice none 0 0) rfl rfl ?_))
        refine Zg (.int .i64 (9)) rfl rfl ?_
        refine Zb (Zd (E_ret (thn_r ?_)))
        refine blk_r ?_
        refine thn_r ?_
        refine thn_r ?_
        refine blk_r ?_
        refine thn_r ?_
        obtain rfl:=sinj h
        exact end2 rfl rfl (show _=.slice none 0 0 from rfl) (show _=.int .i64 (9) from rfl) ⟨_,hfr,_,_,rfl,RV_nil,rfl⟩
       ·refine E_cf z9 rfl ?_
        exact Zu (Zd (aG (x5,y132.2) _ _ ⟨cH,(iB),hfr,lB,g8,l8,mB,m8,nB,b131,rfl,n9,n8⟩ h))
      ·rintro ⟨rA, i6⟩ iI uI ⟨oD, zH, hfr, sD, d9, k9, tD, x6, oB, l5, uD, uC, vC⟩ h
       refine Za (Zo sD rfl ?_)
       refine Zo oB rfl ?_
       refine Zo uD rfl ?_
       refine Ze .plain rfl (D_lookup (g:=oD) (z0:=(⟨0,0,0⟩:LoomRun)) Tryz.underlying150 key_3 Tryz.zeroValue66 (fun m w=>⟨_,(rep_two rep_int (rep_two rep_int rep_int)),rfl⟩) rfl l5 rfl fun dH gH=>?_)
       refine Ze .plain rfl (D_buildSlice (g:=oD) 3043 (xs:=([((mget i6 o0).getD (⟨0,0,0⟩:LoomRun))]:List LoomRun)) (vs:=[dH]) Tryz.underlying61 Tryz.sizeOf66 Tryz.zeroValue66 rfl rfl (.cons rfl .nil) (RVs.cons gH RVs.nil) rfl rfl fun iH vI yI hs o136 jH hxt hfl=>?_)
       have hfr:=hfr.stp hs
       have d9:=d9.stp hs
       have k9:=k9.stp hs rfl
       have x6:=x6.stp hs rfl
       have l5:=l5.stp hs rfl
       obtain ⟨vB,cG,h⟩:=bsome h
       refine Ze .plain rfl (D_append (g:=iH) (i:=1004) Tryz.underlying61 info_66 rfl rfl k9 d9 rfl jH cG fun kH zI vD hs o137 lH _=>?_)
       have hfr:=hfr.stp hs
       have x6:=x6.stp hs rfl
       have l5:=l5.stp hs rfl
       refine Zg vD rfl rfl ?_
       exact Zb (blk_n (Zd (zF (vB,i6) _ _ ⟨kH,(vD),hfr,rfl,lH,o137,tD,x6,oB,l5,uC,vC⟩ h)))
     ·rintro ⟨x8, a9⟩ jI eJ ⟨mH, xD, hfr, yD, zD, aE, bE, iE, lE, mE, aD, bD⟩ h
      refine Za (EL_in (.int .i64 ((w64 (o0 + (1:Int))))) bD rfl rfl rfl ?_)
      refine Zn (.int .i64 ((w64 (o0 + (1:Int))))) rfl rfl ?_
      exact Zb (Zd (yF (x8,a9,(w64 (o0 + (1:Int)))) _ _ ⟨mH,(xD),hfr,yD,zD,aE,bE,iE,lE,mE,aD,rfl⟩ h))
    ·refine E_cf y9 rfl ?_
     refine E_exit ?_
     refine thn_e ?_
     refine thn_e ?_
     refine blk_hit ?_
     exact Zd (xF (x5) _ _ ⟨qC,(iB),hfr,lB,g8,l8⟩ h)
   ·rintro bA kI gJ ⟨iJ, tB, hfr, oE, rE, aI⟩ h
    refine Zf (Za (Zo oE rfl ?_))
    refine Zg tB rfl rfl ?_
    refine Zg (.int .i64 (0)) rfl rfl ?_
    refine Zb (Zd (E_ret ?_))
    obtain rfl:=sinj h
    exact end2 rfl rfl (show _=tB from rfl) (show _=.int .i64 (0) from rfl) ⟨_,hfr,_,_,rfl,rE,rfl⟩
def f18 (x0:PayList) (x1:PayPiece):Option (Int × Int × Int × Int):=
 (f56 x0 x1).bind fun y6=>
 jn (σ:=Unit) (fun _=>
  (f57 (y6.1) x1).bind fun u3=>
  (f58 (y6.1) u3 ((x1).Faults)).bind fun x5=>
  (f59 (y6.1) x1 ((x1).Faults)).bind fun i6=>
  some (u3,x5,i6,(0:Int))
  ) fun m8=>
 bif (y6.2 != (0 : Int)) then
  some ((0:Int),(0:Int),(0:Int),y6.2)
 else
  m8 ()
theorem en18:Enters Tryz.prog 18:=enters_of Tryz.func18 (by kernel_rfl) rfl
theorem wk18 {gI:Gh} {wI:World} {x0:PayList} {x1:PayPiece} {up0:Value} (rp0:RV gI.m wI x0 up0) {up1:Value} (rp1:RV gI.m wI x1 up1) {r:Int × Int × Int × Int} (h:f18 x0 x1=some r):Fn Tryz.prog 18 #[up0,up1] gI wI (fun m w v=>∃ y0 y1 y2 y3,v=.tuple #[y0,y1,y2,y3]∧y0=.int .i64 (r.1)∧y1=.int .i64 (r.2.1)∧y2=.int .i64 (r.2.2.1)∧y3=.int .i64 (r.2.2.2)):=by
 unfold f18 at h
 refine fn_of_E Tryz.func18 rfl (Nat.le_of_ble_eq_true rfl) fun g0 hm hfr=>?_
 have rp0:RV g0.m wI x0 up0:=hm ▸ rp0
 have rp1:RV g0.m wI x1 up1:=hm ▸ rp1
 show E _ 32 none _ _ _ _ _
 refine Zf (Za (Ze .plain rfl (D_box (g:=g0) rfl rp0 fun g1 w1 p1 hs q1=>?_)))
 have hfr:=hfr.ext hs
 have rp1:=rp1.ext hs
 refine Ze .plain rfl (D_box (g:=g1) rfl rp1 fun g2 w2 p2 hs q2=>?_)
 have hfr:=hfr.ext hs
 have q1:=q1.ext hs
 iterate 4 refine Zg (.int .i64 (0)) rfl rfl ?_
 refine Zb (Zd (Zf (Za (Ze .plain rfl (D_load (g:=g2) Tryz.isAgg59 Tryz.sizeOf59 rfl q1 fun v3 r3=>?_)))))
 refine Ze .plain rfl (D_load (g:=g2) Tryz.isAgg68 Tryz.sizeOf68 rfl q2 fun v4 r4=>?_)
 obtain ⟨y6,bA,h⟩:=bsome h
 refine Ze .plain rfl (Zp (g:=g2) (vs:=[v3,v4]) en56 (.cons rfl (.cons rfl .nil)) (wk56 r3 r4 bA) fun g5 w5_ v5 hs hr=>?_)
 have hfr:=hfr.ext hs
 have q2:=q2.ext hs
 obtain ⟨i7,yB,rfl,m7,rfl⟩:=hr
 refine Zn (.tuple #[i7,.int .i64 (y6.2)]) rfl rfl ?_
 refine EL_p i7 (Zi rfl rfl) rfl ?_
 refine EL_p (.int .i64 (y6.2)) (Zi rfl rfl) rfl ?_
 refine Ze .plain rfl (D_allocOc (g:=g5) 2008 (⟨⟨[],[],0,0⟩⟩:PayPayList) Tryz.zeroValue153 (fun m w=>⟨_,(rep_two rep_nil (rep_two rep_nil (rep_two rep_int rep_int))),rfl⟩) fun g7 w7 p7 hs b7 cb=>?_)
 have hfr:=hfr.stp hs
 have q2:=q2.stp hs
 have m7:=m7.stp hs
 have zB:OSF 2008 60800 0 g7 w7 148 153 ([]:List PayRate) p7:=cb.osf (by rfl)
 have cC:OSF 2008 60801 1 g7 w7 3 153 ([]:List Int) p7:=cb.osf (by rfl)
 clear cb
 refine Ze .plain rfl (D_storeOc (g:=g7) (v:=i7) Tryz.sizeOf153 rfl b7 rfl m7 fun g8 w8 hs b8 cb=>?_)
 clear cb
 have hfr:=hfr.stp hs
 have q2:=q2.stp hs
 refine Zg (.int .i64 (y6.2)) rfl rfl ?_
 refine Zb (Zd (Zq h (fun (s:Unit) e w=>∃ (g:Gh) ,Fr gI wI g w∧e 3=p2∧PT g.m w (x1:PayPiece) p2∧e 8=p7∧OB 2008 g w 153 (y6.1:PayPayList) p7) (fun X10 m8 x8 h=>?_) ?_))
 ·refine Zf (Za (Zn (.int .i64 (y6.2)) rfl rfl ?_))
  refine EL_in (.bool ((y6.2 != (0:Int)))) rfl rfl rfl rfl ?_
  refine Zb (Zd ?_)
  rcases Zt h with ⟨k8,h⟩ | ⟨k8,h⟩
  ·refine E_ct k8 rfl ?_
   refine Zf (Za (Zn (.int .i64 (y6.2)) rfl rfl ?_))
   iterate 3 refine Zg (.int .i64 (0)) rfl rfl ?_
   refine Zg (.int .i64 (y6.2)) rfl rfl ?_
   refine Zb (Zd (E_ret (thn_r ?_)))
   obtain rfl:=sinj h
   exact end4 rfl rfl (show _=.int .i64 (0) from rfl) (show _=.int .i64 (0) from rfl) (show _=.int .i64 (0) from rfl) (show _=.int .i64 (y6.2) from rfl) ⟨_,hfr,_,_,_,_,rfl,rfl,rfl,rfl,rfl⟩
  ·refine E_cf k8 rfl ?_
   exact Zu (Zd (x8 () _ _ ⟨g8,hfr,rfl,q2,rfl,b8⟩ h))
 ·rintro _ mC rC ⟨l8, hfr, t5, o0, x6, l5⟩ h
  refine Zf (Za (Ze .plain rfl (D_loadO (g:=l8) Tryz.isAgg153 Tryz.sizeOf153 x6 l5 fun iA rA=>?_)))
  refine Ze .plain rfl (D_load (g:=l8) Tryz.isAgg68 Tryz.sizeOf68 t5 o0 fun yA aB=>?_)
  obtain ⟨u3,a9,h⟩:=bsome h
  refine Ze .plain rfl (Zp (g:=l8) (vs:=[iA,yA]) en57 (.cons rfl (.cons rfl .nil)) (wk57 rA aB a9) fun dB qC uC hs hr=>?_)
  have hfr:=hfr.ext hs
  have o0:=o0.ext hs
  have l5:=l5.ext hs
  subst hr
  refine Zg (.int .i64 (u3)) rfl rfl ?_
  refine Zb (Zd (Zf (L_loadO0 (x:=.tmp 8) Tryz.isAgg153 Tryz.sizeOf153 l5 fun n8 iB d9=>?_)))
  have lB:=Zm (part_PayPiece_4).1 o0
  refine Zs (x:=.tmp 24) Tryz.isAgg3 Tryz.sizeOf3 lB fun vC mB k9=>?_
  obtain rfl:=Zj.1 mB
  obtain ⟨x5,l9,h⟩:=bsome h
  refine L_loadO0 (x:=.tmp 8) Tryz.isAgg153 Tryz.sizeOf153 l5 fun r8 nB n9=>?_
  refine Zs (x:=.tmp 3) Tryz.isAgg68 Tryz.sizeOf68 o0 fun v8 oB u9=>?_
  have tB:=Zm (part_PayPiece_4).1 o0
  refine Zs (x:=.tmp 29) Tryz.isAgg3 Tryz.sizeOf3 tB fun aD vB y9=>?_
  obtain rfl:=Zj.1 vB
  obtain ⟨i6,z9,h⟩:=bsome h
  refine E_drawL (g:=dB) (n:=15) [(5,(fun v g w=>v=.int .i64 (x5))),(10,(fun v g w=>v=.int .i64 (i6)))] [0,1,2,3,4,5,6,7,8,9,10,11,12,13,14] rfl mixed (by kernel_rfl) (⟨fun _=>up_eq _,fun _=>up_eq _,trivial⟩) ?_
  refine L_p (.int .i64 (u3)) rfl rfl (Zk rfl) ?_
  refine L_ld (c:=n8) rfl rfl .plain (fun _ _ h=>⟨h.ch,fun b hb _=>h.below.block b hb⟩) d9 x6 ?_
  refine L_p (.int .i64 (u3)) rfl rfl (Zk rfl) ?_
  refine L_p (fPtr p2 4) rfl rfl (Zc at_68_4 t5 (PT.ptr o0)) ?_
  refine L_ld (c:=.int .i64 ((x1).Faults)) rfl rfl .plain (fun _ _ h=>h.ch) k9 rfl ?_
  refine L_do (φ:=fun v g w=>v=.int .i64 (x5)) rfl rfl .plain (fun g w hd=>Zp (g:=g) (vs:=[n8,.int .i64 (u3),.int .i64 ((x1).Faults)]) en58 (.cons rfl (.cons rfl (.cons rfl .nil))) (wk58 (iB.ext hd.1) l9) fun g' w' v hs hr=>⟨g',hs,hr⟩) (fun bD hv=>?_)
  obtain ⟨_,_,_,rfl⟩:=hv
  refine L_ld (c:=r8) rfl rfl .plain (fun _ _ h=>⟨h.ch,fun b hb _=>h.below.block b hb⟩) n9 x6 ?_
  refine L_ld (c:=v8) rfl rfl .plain (fun _ _ h=>h.ch) u9 t5 ?_
  refine L_p (fPtr p2 4) rfl rfl (Zc at_68_4 t5 (PT.ptr o0)) ?_
  refine L_ld (c:=.int .i64 ((x1).Faults)) rfl rfl .plain (fun _ _ h=>h.ch) y9 rfl ?_
  refine L_do (φ:=fun v g w=>v=.int .i64 (i6)) rfl rfl .plain (fun g w hd=>Zp (g:=g) (vs:=[r8,v8,.int .i64 ((x1).Faults)]) en59 (.cons rfl (.cons rfl (.cons rfl .nil))) (wk59 (nB.ext hd.1) (oB.ext hd.1) z9) fun g' w' v hs hr=>⟨g',hs,hr⟩) (fun cD hv=>?_)
  obtain ⟨_,_,_,rfl⟩:=hv
  refine L_p (.int .i64 (u3)) rfl rfl (P_assign rfl) ?_
  refine L_p (.int .i64 (x5)) rfl rfl (P_assign rfl) ?_
  refine L_p (.int .i64 (i6)) rfl rfl (P_assign rfl) ?_
  refine L_p (.int .i64 (0)) rfl rfl (P_assign rfl) ?_
  refine L_nl fun eD gD hs=>?_
  have hfr:=hfr.ext hs
  clear hs
  refine Zb (Zd (E_ret ?_))
  obtain rfl:=sinj h
  exact end4 rfl rfl (show _=.int .i64 (u3) from rfl) (show _=.int .i64 (x5) from rfl) (show _=.int .i64 (i6) from rfl) (show _=.int .i64 (0) from rfl) ⟨_,hfr,_,_,_,_,rfl,rfl,rfl,rfl,rfl⟩
end Go.Proofs.YtlmibfohllgmeaaGreat
