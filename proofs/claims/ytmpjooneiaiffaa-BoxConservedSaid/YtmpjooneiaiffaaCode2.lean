import Derived.Test.YtmpjooneiaiffaaCode1
set_option maxRecDepth 8000
set_option maxHeartbeats 4000000
namespace Go.Proofs.Ytmpjooneiaiffaa
open Go.RowKit
def f93 (x0:List Int) (x1:Int→Option Bool):Option (Int):=
 jn (σ:=Unit) (fun _=>
  some ((-1:Int))
  ) fun k18=>
 lp (σ:=Int) (fun k19 o0=>
  bif (decide (o0 < ((x0).length : Int))) then
   jn (σ:=Unit) (fun _=>
    k19 ((w64 (o0 + (1:Int))))
    ) fun k28=>
   (idx x0 o0).bind fun j6=>
   (x1 j6).bind fun m7=>
   bif m7 then
    some (o0)
   else
    k28 ()
  else
   k18 ()
  ) big ((0:Int))
theorem en93:Enters Try.prog 93:=enters_of Try.func93 (by kernel_rfl) rfl
theorem wk93 {gI:Gh} {wI:World} {x0:List Int} {x1:Int→Option Bool} {up0:Value} (rp0:RV gI.m wI x0 up0) {up1:Value} (rp1:FnV1 Try.prog x1 up1 gI wI) {r:Int} (h:f93 x0 x1=some r):Fn Try.prog 93 #[up0,up1] gI wI (fun _ _ v=>v=.int .i64 (r)):=by
 unfold f93 at h
 refine fn_of_E Try.func93 rfl (Nat.le_of_ble_eq_true rfl) fun g0 hm hfr=>?_
 have rp0:RV g0.m wI x0 up0:=hm ▸ rp0
 obtain ⟨ff1,fa1,fc1,rfl,fen1,fcl1⟩:=rp1
 show E _ 19 none _ _ _ _ _
 refine Zf (Za (Zg (.int .i64 (0)) rfl rfl ?_))
 refine Zb (Zd (Zq h (fun (s:Unit) e w=>∃ (g:Gh) ,Fr gI wI g w) (fun X18 k18 v7 h=>?_) ?_))
 ·refine Zf (Za (Zn up0 rfl rfl ?_))
  refine EL_p (.int .i64 ((x0).length:Int)) (P_len Try.underlying22 rfl rp0) rfl ?_
  refine Zn (.int .i64 (0)) rfl rfl ?_
  refine Zb (Zd (Zr ?_))
  refine E_lp h (fun (s:Int) e w=>∃ (g:Gh) ,Fr gI wI g w∧e 0=up0∧RV g.m w (x0:List Int) up0∧e 1=(.func (.func ff1) fa1 fc1)∧e 7=.int .i64 (((x0).length:Int))∧e 8=.int .i64 (s)) ⟨g0,hfr,rfl,rp0,rfl,rfl,rfl⟩ (fun X19 k19 g8=>?_)
  rintro o0 r8 x8 ⟨v6,hfr,t5,i3,x5,i6,u3⟩ h
  refine Zf (Za (EL_in (.bool ((decide (o0 < ((x0).length:Int))))) u3 i6 rfl rfl ?_))
  refine Zb (Zd (Zf ?_))
  rcases Zt h with ⟨i5,h⟩ | ⟨i5,h⟩
  ·refine E_ct i5 rfl ?_
   refine Zu (Zd (Zq h (fun (s:Unit) e w=>∃ (g:Gh) ,Fr gI wI g w∧e 0=up0∧RV g.m w (x0:List Int) up0∧e 1=(.func (.func ff1) fa1 fc1)∧e 7=.int .i64 (((x0).length:Int))∧e 8=.int .i64 (o0)) (fun X28 k28 i8 h=>?_) ?_))
   ·refine Zr ?_
    refine Zf (Za (Zo u3 rfl ?_))
    refine Zg (.int .i64 (o0)) rfl rfl ?_
    refine Zb (Zd (Zf (Za (Zo x5 rfl ?_))))
    refine Zo t5 rfl ?_
    refine Zn (.int .i64 (o0)) rfl rfl ?_
    obtain ⟨j6,x6,h⟩:=bsome h
    refine EL_p (ePtr up0 o0 1) (Zh (α:=Int) Try.underlying22 Try.sizeOf3 rfl i3 rfl x6) rfl ?_
    have l8:=PT_idx i3 x6
    refine Ze .plain rfl (D_load (g:=v6) Try.isAgg3 Try.sizeOf3 rfl l8 fun a9 m8=>?_)
    obtain rfl:=Zj.1 m8
    obtain ⟨m7,k8,h⟩:=bsome h
    refine Ze .plain rfl (D_callv (g:=v6) (vs:=[.int .i64 (j6)]) rfl fen1 (.cons rfl .nil) (fcl1 _ _ hfr.ch _ _ _  (Zj.2 rfl) k8) fun n8 d9 k9 hs hr=>?_)
    have hfr:=hfr.ext hs
    have i3:=i3.ext hs
    obtain rfl:=RV_bool.1 hr
    refine Zb (Zd ?_)
    rcases Zt h with ⟨l5,h⟩ | ⟨l5,h⟩
    ·refine E_ct l5 rfl ?_
     refine Zf (Za (Zn (.int .i64 (o0)) rfl rfl ?_))
     refine Zg (.int .i64 (o0)) rfl rfl ?_
     refine Zb (Zd (E_ret (blk_r ?_)))
     refine thn_r ?_
     refine thn_r ?_
     refine blk_r ?_
     refine thn_r ?_
     obtain rfl:=sinj h
     exact end1 rfl rfl (show _=.int .i64 (o0) from rfl) ⟨_,hfr,rfl⟩
    ·refine E_cf l5 rfl ?_
     exact Zu (blk_n (Zd (i8 () _ _ ⟨n8,hfr,t5,i3,x5,i6,u3⟩ h)))
   ·rintro _ t8 l9 ⟨q8, hfr, y6, a7, d7, i7, j7⟩ h
    refine Za (EL_in (.int .i64 ((w64 (o0 + (1:Int))))) j7 rfl rfl rfl ?_)
    refine Zn (.int .i64 ((w64 (o0 + (1:Int))))) rfl rfl ?_
    exact Zb (Zd (g8 ((w64 (o0 + (1:Int)))) _ _ ⟨q8,hfr,y6,a7,d7,i7,rfl⟩ h))
  ·refine E_cf i5 rfl ?_
   refine E_exit ?_
   refine thn_e ?_
   refine thn_e ?_
   refine blk_hit ?_
   exact Zd (v7 () _ _ ⟨v6,hfr⟩ h)
 ·rintro _ v8 n9 ⟨u9, hfr⟩ h
  refine Zf (Za (Zg (.int .i64 (-1)) rfl rfl ?_))
  refine Zb (Zd (E_ret ?_))
  obtain rfl:=sinj h
  exact end1 rfl rfl (show _=.int .i64 (-1) from rfl) ⟨_,hfr,rfl⟩
def f102 (x0:List BoxShuttle) (x1:BoxShuttle→Option Bool):Option (Int):=
 jn (σ:=Unit) (fun _=>
  some ((-1:Int))
  ) fun k18=>
 lp (σ:=Int) (fun k19 o0=>
  bif (decide (o0 < ((x0).length : Int))) then
   jn (σ:=Unit) (fun _=>
    k19 ((w64 (o0 + (1:Int))))
    ) fun k28=>
   (idx x0 o0).bind fun j7=>
   (x1 j7).bind fun m7=>
   bif m7 then
    some (o0)
   else
    k28 ()
  else
   k18 ()
  ) big ((0:Int))
theorem en102:Enters Try.prog 102:=enters_of Try.func102 (by kernel_rfl) rfl
theorem wk102 {gI:Gh} {wI:World} {x0:List BoxShuttle} {x1:BoxShuttle→Option Bool} {up0:Value} (rp0:RV gI.m wI x0 up0) {up1:Value} (rp1:FnV1 Try.prog x1 up1 gI wI) {r:Int} (h:f102 x0 x1=some r):Fn Try.prog 102 #[up0,up1] gI wI (fun _ _ v=>v=.int .i64 (r)):=by
 unfold f102 at h
 refine fn_of_E Try.func102 rfl (Nat.le_of_ble_eq_true rfl) fun g0 hm hfr=>?_
 have rp0:RV g0.m wI x0 up0:=hm ▸ rp0
 obtain ⟨ff1,fa1,fc1,rfl,fen1,fcl1⟩:=rp1
 show E _ 19 none _ _ _ _ _
 refine Zf (Za (Zg (.int .i64 (0)) rfl rfl ?_))
 refine Zb (Zd (Zq h (fun (s:Unit) e w=>∃ (g:Gh) ,Fr gI wI g w) (fun X18 k18 v7 h=>?_) ?_))
 ·refine Zf (Za (Zn up0 rfl rfl ?_))
  refine EL_p (.int .i64 ((x0).length:Int)) (P_len Try.underlying23 rfl rp0) rfl ?_
  refine Zn (.int .i64 (0)) rfl rfl ?_
  refine Zb (Zd (Zr ?_))
  refine E_lp h (fun (s:Int) e w=>∃ (g:Gh) ,Fr gI wI g w∧e 0=up0∧RV g.m w (x0:List BoxShuttle) up0∧e 1=(.func (.func ff1) fa1 fc1)∧e 7=.int .i64 (((x0).length:Int))∧e 8=.int .i64 (s)) ⟨g0,hfr,rfl,rp0,rfl,rfl,rfl⟩ (fun X19 k19 g8=>?_)
  rintro o0 t8 a9 ⟨j6,hfr,t5,i3,x5,i6,u3⟩ h
  refine Zf (Za (EL_in (.bool ((decide (o0 < ((x0).length:Int))))) u3 i6 rfl rfl ?_))
  refine Zb (Zd (Zf ?_))
  rcases Zt h with ⟨i5,h⟩ | ⟨i5,h⟩
  ·refine E_ct i5 rfl ?_
   refine Zu (Zd (Zq h (fun (s:Unit) e w=>∃ (g:Gh) ,Fr gI wI g w∧e 0=up0∧RV g.m w (x0:List BoxShuttle) up0∧e 1=(.func (.func ff1) fa1 fc1)∧e 7=.int .i64 (((x0).length:Int))∧e 8=.int .i64 (o0)) (fun X28 k28 i8 h=>?_) ?_))
   ·refine Zr ?_
    refine Zf (Za (Zo u3 rfl ?_))
    refine Zg (.int .i64 (o0)) rfl rfl ?_
    refine Zb (Zd (Zf (Za (Zo x5 rfl ?_))))
    refine Zo t5 rfl ?_
    refine Zn (.int .i64 (o0)) rfl rfl ?_
    obtain ⟨j7,v6,h⟩:=bsome h
    refine EL_p (ePtr up0 o0 5) (Zh (α:=BoxShuttle) Try.underlying23 Try.sizeOf87 rfl i3 rfl v6) rfl ?_
    have l8:=PT_idx i3 v6
    refine Ze .plain rfl (D_load (g:=j6) Try.isAgg87 Try.sizeOf87 rfl l8 fun m8 n8=>?_)
    obtain ⟨m7,k8,h⟩:=bsome h
    refine Ze .plain rfl (D_callv (g:=j6) (vs:=[m8]) rfl fen1 (.cons rfl .nil) (fcl1 _ _ hfr.ch _ _ _  n8 k8) fun q8 d9 k9 hs hr=>?_)
    have hfr:=hfr.ext hs
    have i3:=i3.ext hs
    obtain rfl:=RV_bool.1 hr
    refine Zb (Zd ?_)
    rcases Zt h with ⟨l5,h⟩ | ⟨l5,h⟩
    ·refine E_ct l5 rfl ?_
     refine Zf (Za (Zn (.int .i64 (o0)) rfl rfl ?_))
     refine Zg (.int .i64 (o0)) rfl rfl ?_
     refine Zb (Zd (E_ret (blk_r ?_)))
     refine thn_r ?_
     refine thn_r ?_
     refine blk_r ?_
     refine thn_r ?_
     obtain rfl:=sinj h
     exact end1 rfl rfl (show _=.int .i64 (o0) from rfl) ⟨_,hfr,rfl⟩
    ·refine E_cf l5 rfl ?_
     exact Zu (blk_n (Zd (i8 () _ _ ⟨q8,hfr,t5,i3,x5,i6,u3⟩ h)))
   ·rintro _ v8 l9 ⟨r8, hfr, x6, y6, a7, d7, i7⟩ h
    refine Za (EL_in (.int .i64 ((w64 (o0 + (1:Int))))) i7 rfl rfl rfl ?_)
    refine Zn (.int .i64 ((w64 (o0 + (1:Int))))) rfl rfl ?_
    exact Zb (Zd (g8 ((w64 (o0 + (1:Int)))) _ _ ⟨r8,hfr,x6,y6,a7,d7,rfl⟩ h))
  ·refine E_cf i5 rfl ?_
   refine E_exit ?_
   refine thn_e ?_
   refine thn_e ?_
   refine blk_hit ?_
   exact Zd (v7 () _ _ ⟨j6,hfr⟩ h)
 ·rintro _ x8 n9 ⟨u9, hfr⟩ h
  refine Zf (Za (Zg (.int .i64 (-1)) rfl rfl ?_))
  refine Zb (Zd (E_ret ?_))
  obtain rfl:=sinj h
  exact end1 rfl rfl (show _=.int .i64 (-1) from rfl) ⟨_,hfr,rfl⟩
def f103 (x0:List Int) (x1:Int→Option Bool):Option (Bool):=
 (f93 x0 x1).bind fun y2=>
 some ((decide (y2 ≥ (0:Int))))
theorem en103:Enters Try.prog 103:=enters_of Try.func103 (by kernel_rfl) rfl
theorem wk103 {gI:Gh} {wI:World} {x0:List Int} {x1:Int→Option Bool} {up0:Value} (rp0:RV gI.m wI x0 up0) {up1:Value} (rp1:FnV1 Try.prog x1 up1 gI wI) {r:Bool} (h:f103 x0 x1=some r):Fn Try.prog 103 #[up0,up1] gI wI (fun _ _ v=>v=.bool (r)):=by
 unfold f103 at h
 refine fn_of_E Try.func103 rfl (Nat.le_of_ble_eq_true rfl) fun g0 hm hfr=>?_
 have rp0:RV g0.m wI x0 up0:=hm ▸ rp0
 obtain ⟨ff1,fa1,fc1,rfl,fen1,fcl1⟩:=rp1
 show E _ 9 none _ _ _ _ _
 refine Zf (Za (Zg (.bool false) rfl rfl ?_))
 refine Zb (Zd (Zf (Za (Zn up0 rfl rfl ?_))))
 refine Zn ((.func (.func ff1) fa1 fc1)) rfl rfl ?_
 obtain ⟨y2,hy2,h⟩:=bsome h
 refine Ze .plain rfl (Zp (g:=g0) (vs:=[up0,(.func (.func ff1) fa1 fc1)]) en93 (.cons rfl (.cons rfl .nil)) (wk93 rp0 (FnV1.ch ⟨_,_,_,rfl,fen1,fcl1⟩ hfr.ch) hy2) fun g1 w1_ v1 hs hr=>?_)
 have hfr:=hfr.ext hs
 subst hr
 refine EL_in (.bool ((decide (y2 ≥ (0:Int))))) rfl rfl rfl rfl ?_
 refine Zg (.bool ((decide (y2 ≥ (0:Int))))) rfl rfl ?_
 refine Zb (Zd (E_ret ?_))
 obtain rfl:=sinj h
 exact end1 rfl rfl (show _=.bool ((decide (y2 ≥ (0:Int)))) from rfl) ⟨_,hfr,rfl⟩
def f104 (x0:Int) (z0:Int) (z1:Int):Option (Bool):=
 Option.bind (α:=Bool) (
  bif (decide (x0 < z0)) then
   some (true)
  else
   some ((decide (x0 > z1)))
  ) fun o0=>
 some (o0)
theorem en104:Enters Try.prog 104:=enters_of Try.func104 (by kernel_rfl) rfl
theorem wk104 {gI:Gh} {wI:World} {x0:Int} {z0:Int} {z1:Int} {pf0:Value} (qf0:PT gI.m wI z0 pf0) {pf1:Value} (qf1:PT gI.m wI z1 pf1) {r:Bool} (h:f104 x0 z0 z1=some r):Fn Try.prog 104 #[.int .i64 (x0),pf0,pf1] gI wI (fun _ _ v=>v=.bool (r)):=by
 unfold f104 at h
 refine fn_of_E Try.func104 rfl (Nat.le_of_ble_eq_true rfl) fun g0 hm hfr=>?_
 have qf0:PT g0.m wI z0 pf0:=hm ▸ qf0
 have qf1:PT g0.m wI z1 pf1:=hm ▸ qf1
 show E _ 13 none _ _ _ _ _
 refine Zf (Za (Zg (.bool false) rfl rfl ?_))
 refine Zb (Zd ?_)
 obtain ⟨o0,hx,h⟩:=bsome h
 refine E_join (fun e w=>∃ (g:Gh) ,Fr gI wI g w∧e 4=.bool (o0)) (fun Q' hQ=>?_) (fun u3 w7 hR=>?_)
 ·replace h := hx
  clear hx
  refine Za (Zn (.int .i64 (x0)) rfl rfl ?_)
  refine Ze .plain rfl (D_load (g:=g0) Try.isAgg3 Try.sizeOf3 rfl qf0 fun v4 r4=>?_)
  obtain rfl:=Zj.1 r4
  refine EL_in (.bool ((decide (x0 < z0)))) rfl rfl rfl rfl ?_
  refine Zn (.bool ((decide (x0 < z0)))) rfl rfl ?_
  rcases Zt h with ⟨hc5,h⟩ | ⟨hc5,h⟩
  ·refine EL_s rfl rfl hc5 rfl rfl ?_
   refine EL_s rfl rfl hc5 rfl rfl ?_
   refine EL_s rfl rfl hc5 rfl rfl ?_
   refine EL_p (.bool true) (Zl (b:=(decide (x0 < z0))) rfl (pick_t hc5 rfl)) rfl ?_
   refine Zg (.bool true) rfl rfl ?_
   refine Zb ?_
   obtain rfl:=sinj h
   exact hQ _ _ ⟨g0,hfr,rfl⟩
  ·refine EL_y (.int .i64 (x0)) (Zk rfl) rfl rfl hc5 rfl ?_
   refine Ze (.yes2 rfl rfl hc5) rfl (D_load (g:=g0) Try.isAgg3 Try.sizeOf3 rfl qf1 fun v6 r6=>?_)
   obtain rfl:=Zj.1 r6
   refine EL_y (.bool ((decide (x0 > z1)))) (P_int rfl rfl rfl) rfl rfl hc5 rfl ?_
   refine EL_p (.bool ((decide (x0 > z1)))) (Zl (b:=(decide (x0 < z0))) rfl (pick_f hc5 rfl)) rfl ?_
   refine Zg (.bool ((decide (x0 > z1)))) rfl rfl ?_
   refine Zb ?_
   obtain rfl:=sinj h
   exact hQ _ _ ⟨g0,hfr,rfl⟩
 ·clear hx
  obtain ⟨g7,hfr,i3⟩:=hR
  refine E_ret ?_
  obtain rfl:=sinj h
  exact end1 rfl rfl (show _=.bool (o0) from i3) ⟨_,hfr,rfl⟩
def f105 (x0:List BoxPick) (x1:BoxPick→Option Bool):Option (Int):=
 jn (σ:=Unit) (fun _=>
  some ((-1:Int))
  ) fun k18=>
 lp (σ:=Int) (fun k19 o0=>
  bif (decide (o0 < ((x0).length : Int))) then
   jn (σ:=Unit) (fun _=>
    k19 ((w64 (o0 + (1:Int))))
    ) fun k28=>
   (idx x0 o0).bind fun j7=>
   (x1 j7).bind fun m7=>
   bif m7 then
    some (o0)
   else
    k28 ()
  else
   k18 ()
  ) big ((0:Int))
theorem en105:Enters Try.prog 105:=enters_of Try.func105 (by kernel_rfl) rfl
theorem wk105 {gI:Gh} {wI:World} {x0:List BoxPick} {x1:BoxPick→Option Bool} {up0:Value} (rp0:RV gI.m wI x0 up0) {up1:Value} (rp1:FnV1 Try.prog x1 up1 gI wI) {r:Int} (h:f105 x0 x1=some r):Fn Try.prog 105 #[up0,up1] gI wI (fun _ _ v=>v=.int .i64 (r)):=by
 unfold f105 at h
 refine fn_of_E Try.func105 rfl (Nat.le_of_ble_eq_true rfl) fun g0 hm hfr=>?_
 have rp0:RV g0.m wI x0 up0:=hm ▸ rp0
 obtain ⟨ff1,fa1,fc1,rfl,fen1,fcl1⟩:=rp1
 show E _ 19 none _ _ _ _ _
 refine Zf (Za (Zg (.int .i64 (0)) rfl rfl ?_))
 refine Zb (Zd (Zq h (fun (s:Unit) e w=>∃ (g:Gh) ,Fr gI wI g w) (fun X18 k18 v7 h=>?_) ?_))
 ·refine Zf (Za (Zn up0 rfl rfl ?_))
  refine EL_p (.int .i64 ((x0).length:Int)) (P_len Try.underlying30 rfl rp0) rfl ?_
  refine Zn (.int .i64 (0)) rfl rfl ?_
  refine Zb (Zd (Zr ?_))
  refine E_lp h (fun (s:Int) e w=>∃ (g:Gh) ,Fr gI wI g w∧e 0=up0∧RV g.m w (x0:List BoxPick) up0∧e 1=(.func (.func ff1) fa1 fc1)∧e 7=.int .i64 (((x0).length:Int))∧e 8=.int .i64 (s)) ⟨g0,hfr,rfl,rp0,rfl,rfl,rfl⟩ (fun X19 k19 g8=>?_)
  rintro o0 t8 a9 ⟨j6,hfr,t5,i3,x5,i6,u3⟩ h
  refine Zf (Za (EL_in (.bool ((decide (o0 < ((x0).length:Int))))) u3 i6 rfl rfl ?_))
  refine Zb (Zd (Zf ?_))
  rcases Zt h with ⟨i5,h⟩ | ⟨i5,h⟩
  ·refine E_ct i5 rfl ?_
   refine Zu (Zd (Zq h (fun (s:Unit) e w=>∃ (g:Gh) ,Fr gI wI g w∧e 0=up0∧RV g.m w (x0:List BoxPick) up0∧e 1=(.func (.func ff1) fa1 fc1)∧e 7=.int .i64 (((x0).length:Int))∧e 8=.int .i64 (o0)) (fun X28 k28 i8 h=>?_) ?_))
   ·refine Zr ?_
    refine Zf (Za (Zo u3 rfl ?_))
    refine Zg (.int .i64 (o0)) rfl rfl ?_
    refine Zb (Zd (Zf (Za (Zo x5 rfl ?_))))
    refine Zo t5 rfl ?_
    refine Zn (.int .i64 (o0)) rfl rfl ?_
    obtain ⟨j7,v6,h⟩:=bsome h
    refine EL_p (ePtr up0 o0 2) (Zh (α:=BoxPick) Try.underlying30 Try.sizeOf83 rfl i3 rfl v6) rfl ?_
    have l8:=PT_idx i3 v6
    refine Ze .plain rfl (D_load (g:=j6) Try.isAgg83 Try.sizeOf83 rfl l8 fun m8 n8=>?_)
    obtain ⟨m7,k8,h⟩:=bsome h
    refine Ze .plain rfl (D_callv (g:=j6) (vs:=[m8]) rfl fen1 (.cons rfl .nil) (fcl1 _ _ hfr.ch _ _ _  n8 k8) fun q8 d9 k9 hs hr=>?_)
    have hfr:=hfr.ext hs
    have i3:=i3.ext hs
    obtain rfl:=RV_bool.1 hr
    refine Zb (Zd ?_)
    rcases Zt h with ⟨l5,h⟩ | ⟨l5,h⟩
    ·refine E_ct l5 rfl ?_
     refine Zf (Za (Zn (.int .i64 (o0)) rfl rfl ?_))
     refine Zg (.int .i64 (o0)) rfl rfl ?_
     refine Zb (Zd (E_ret (blk_r ?_)))
     refine thn_r ?_
     refine thn_r ?_
     refine blk_r ?_
     refine thn_r ?_
     obtain rfl:=sinj h
     exact end1 rfl rfl (show _=.int .i64 (o0) from rfl) ⟨_,hfr,rfl⟩
    ·refine E_cf l5 rfl ?_
     exact Zu (blk_n (Zd (i8 () _ _ ⟨q8,hfr,t5,i3,x5,i6,u3⟩ h)))
   ·rintro _ v8 l9 ⟨r8, hfr, x6, y6, a7, d7, i7⟩ h
    refine Za (EL_in (.int .i64 ((w64 (o0 + (1:Int))))) i7 rfl rfl rfl ?_)
    refine Zn (.int .i64 ((w64 (o0 + (1:Int))))) rfl rfl ?_
    exact Zb (Zd (g8 ((w64 (o0 + (1:Int)))) _ _ ⟨r8,hfr,x6,y6,a7,d7,rfl⟩ h))
  ·refine E_cf i5 rfl ?_
   refine E_exit ?_
   refine thn_e ?_
   refine thn_e ?_
   refine blk_hit ?_
   exact Zd (v7 () _ _ ⟨j6,hfr⟩ h)
 ·rintro _ x8 n9 ⟨u9, hfr⟩ h
  refine Zf (Za (Zg (.int .i64 (-1)) rfl rfl ?_))
  refine Zb (Zd (E_ret ?_))
  obtain rfl:=sinj h
  exact end1 rfl rfl (show _=.int .i64 (-1) from rfl) ⟨_,hfr,rfl⟩
def f106 (x0:Int) (x1:Int):Option (Int):=
 some ((w64 ((max64 x0 x1) - (min64 x0 x1))))
theorem en106:Enters Try.prog 106:=enters_of Try.func106 (by kernel_rfl) rfl
theorem wk106 {gI:Gh} {wI:World} {x0:Int} {x1:Int}  {r:Int} (h:f106 x0 x1=some r):Fn Try.prog 106 #[.int .i64 (x0),.int .i64 (x1)] gI wI (fun _ _ v=>v=.int .i64 (r)):=by
 unfold f106 at h
 refine fn_of_E Try.func106 rfl (Nat.le_of_ble_eq_true rfl) fun g0 hm hfr=>?_
 show E _ 12 none _ _ _ _ _
 refine Zf (Za (Zg (.int .i64 (0)) rfl rfl ?_))
 refine Zb (Zd (Zf (Za (Zn (.int .i64 (x0)) rfl rfl ?_))))
 refine Zn (.int .i64 (x1)) rfl rfl ?_
 refine EL_p (.int .i64 (max64 x0 x1)) (P_max rfl rfl) rfl ?_
 refine Zn (.int .i64 (x0)) rfl rfl ?_
 refine Zn (.int .i64 (x1)) rfl rfl ?_
 refine EL_p (.int .i64 (min64 x0 x1)) (P_min rfl rfl) rfl ?_
 refine EL_in (.int .i64 ((w64 ((max64 x0 x1) - (min64 x0 x1))))) rfl rfl rfl rfl ?_
 refine Zg (.int .i64 ((w64 ((max64 x0 x1) - (min64 x0 x1))))) rfl rfl ?_
 refine Zb (Zd (E_ret ?_))
 obtain rfl:=sinj h
 exact end1 rfl rfl (show _=.int .i64 ((w64 ((max64 x0 x1) - (min64 x0 x1)))) from rfl) ⟨_,hfr,rfl⟩
def f15 (x0:BoxLoom):Option (BoxLoom):=
 (f50 x0).bind fun y5=>
 some (y5)
theorem en15:Enters Try.prog 15:=enters_of Try.func15 (by kernel_rfl) rfl
theorem wk15 {gI:Gh} {wI:World} {x0:BoxLoom} {up0:Value} (rp0:RV gI.m wI x0 up0) {r:BoxLoom} (h:f15 x0=some r):Fn Try.prog 15 #[up0] gI wI (fun m w v=>RV m w (r) v):=by
 unfold f15 at h
 refine fn_of_E Try.func15 rfl (Nat.le_of_ble_eq_true rfl) fun g0 hm hfr=>?_
 have rp0:RV g0.m wI x0 up0:=hm ▸ rp0
 show E _ 5 none _ _ _ _ _
 refine Zf (Za (Ze .plain rfl (D_box (g:=g0) rfl rp0 fun g1 w1 p1 hs q1=>?_)))
 have hfr:=hfr.ext hs
 refine Ze .plain rfl (D_allocOc (g:=g1) 2002 (⟨[],[],[]⟩:BoxLoom) Try.zeroValue25 (fun m w=>⟨_,(rep_two rep_nil (rep_two rep_nil rep_nil)),rfl⟩) fun g2 w2 p2 hs b2 cb=>?_)
 have hfr:=hfr.stp hs
 have q1:=q1.stp hs
 have o0:OSF 2002 60200 0 g2 w2 3 25 ([]:List Int) p2:=cb.osf (by rfl)
 have i3:OSF 2002 60201 1 g2 w2 3 25 ([]:List Int) p2:=cb.osf (by rfl)
 have u3:OSF 2002 60202 2 g2 w2 87 25 ([]:List BoxShuttle) p2:=cb.osf (by rfl)
 clear cb
 refine Zb (Zd (Zf (Za (Ze .plain rfl (D_load (g:=g2) Try.isAgg25 Try.sizeOf25 rfl q1 fun v3 r3=>?_)))))
 obtain ⟨y5,hy5,h⟩:=bsome h
 refine Ze .plain rfl (Zp (g:=g2) (vs:=[v3]) en50 (.cons rfl .nil) (wk50 r3 hy5) fun g4 w4_ v4 hs hr=>?_)
 have hfr:=hfr.ext hs
 have b2:=b2.ext hs
 have r4:=hr
 refine Ze .plain rfl (D_storeOc (g:=g4) (v:=v4) Try.sizeOf25 rfl b2 rfl r4 fun g6 w6 hs b6 cb=>?_)
 clear cb
 have hfr:=hfr.stp hs
 refine Zb (Zd (E_ret ?_))
 obtain rfl:=sinj h
 obtain ⟨ad7,cv7,hp7,hl7,cr7⟩:=ob_read Try.isAgg25 Try.sizeOf25 b6
 exact endm_c rfl rfl ((show _=p2 from rfl).trans hp7) hl7 ⟨_,hfr,cr7⟩
def f38 (x0:Race):Option (BoxLoom):=
 (idx ((x0).Boxes).toList (0:Int)).bind fun y4=>
 (rem64 ((y4).toNat:Int) (4:Int)).bind fun y7=>
 (idx ((x0).Boxes).toList (1:Int)).bind fun y9=>
 (rem64 ((y9).toNat:Int) (4:Int)).bind fun aB=>
 (idx ((x0).Boxes).toList (2:Int)).bind fun dF=>
 (idx (([(w64 ((1:Int) + y7)),(w64 ((1:Int) + aB))]:List Int)) (0:Int)).bind fun y23=>
 (rem64 ((dF).toNat:Int) y23).bind fun l9=>
 (idx ((x0).Boxes).toList (3:Int)).bind fun eF=>
 (idx (([(w64 ((1:Int) + y7)),(w64 ((1:Int) + aB))]:List Int)) (1:Int)).bind fun yG=>
 (rem64 ((eF).toNat:Int) yG).bind fun n9=>
 Option.bind (α:=BoxLoom) (
  lp (σ:=BoxLoom × (Vector Bool 8) × Int) (fun zG (i3,y6,o0)=>
   jn (σ:=Unit) (fun _=>
    Option.bind (α:=BoxLoom × (Vector Bool 8)) (
     Option.bind (α:=(Vector UInt8 4)) (
      bif (decide (o0 < (((x0).Shuttles).length : Int))) then
       (idx ((x0).Shuttles) o0).bind fun aH=>
       some (aH)
      else
       some ((⟨List.toArray [0,0,0,0],rfl⟩:Vector UInt8 4))
      ) fun i5=>
     (idx ((i3).Boxes) (0:Int)).bind fun lD=>
     (idx ((i3).Boxes) (1:Int)).bind fun mD=>
     (rem64 (((i5)[0]).toNat:Int) (w64 (lD + mD))).bind fun l5=>
     jn (σ:=Unit) (fun _=>
      (idx (y6).toList l5).bind fun tK=>
      (rem64 (((i5)[1]).toNat:Int) (5:Int)).bind fun x8=>
      (rem64 (((i5)[2]).toNat:Int) (12:Int)).bind fun nD=>
      (rem64 (((i5)[2]).toNat:Int) (12:Int)).bind fun cC=>
      (rem64 (((i5)[3]).toNat:Int) (5:Int)).bind fun eC=>
      (f42 nD ((w64 (cC + eC)))).bind fun v7=>
      Option.bind (α:=BoxShuttle) (
       (idx ((i3).Boxes) (0:Int)).bind fun oD=>
       bif (decide (l5 ≥ oD)) then
        (idx ((i3).Boxes) (0:Int)).bind fun aC=>
        some ((⟨x8,(1:Int),(w64 (l5 - aC)),v7⟩:BoxShuttle))
       else
        some ((⟨x8,0,l5,v7⟩:BoxShuttle))
       ) fun qA=>
      (apnd 40 ((i3).Shuttles) (([qA]:List BoxShuttle))).bind fun sD=>
      some ({ i3 with Shuttles:=sD },(vset y6 l5 true))
      ) fun bH=>
     (idx (y6).toList l5).bind fun cH=>
     bif cH then
      some (i3,y6)
     else
      bH ()
     ) fun (i8,rA)=>
    zG (i8,rA,(w64 (o0 + (1:Int))))
    ) fun dH=>
   Option.bind (α:=Bool) (
    bif (o0 == (0 : Int)) then
     some (true)
    else
     bif (decide (o0 < (((x0).Shuttles).length : Int))) then
      some ((decide (o0 < (6:Int))))
     else
      some (false)
    ) fun u9=>
   bif u9 then
    dH ()
   else
    some (i3)
   ) big ((⟨([(w64 ((1:Int) + y7)),(w64 ((1:Int) + aB))]:List Int),([l9,n9]:List Int),[]⟩:BoxLoom),(⟨List.toArray [false,false,false,false,false,false,false,false],rfl⟩:Vector Bool 8),(0:Int))
  ) fun k9=>
 some (k9)
theorem en38:Enters Try.prog 38:=enters_of Try.func38 (by kernel_rfl) rfl
theorem wk38 {gI:Gh} {wI:World} {x0:Race} {up0:Value} (rp0:RV gI.m wI x0 up0) {r:BoxLoom} (h:f38 x0=some r):Fn Try.prog 38 #[up0] gI wI (fun m w v=>RV m w (r) v):=by
 unfold f38 at h
 refine fn_of_E Try.func38 rfl (Nat.le_of_ble_eq_true rfl) fun g0 hm hfr=>?_
 have rp0:RV g0.m wI x0 up0:=hm ▸ rp0
 show E _ 129 none _ _ _ _ _
 refine Zf (Za (Ze .plain rfl (D_box (g:=g0) rfl rp0 fun g1 w1 p1 hs q1=>?_)))
 have hfr:=hfr.ext hs
 refine Ze .plain rfl (D_allocOc (g:=g1) 2002 (⟨[],[],[]⟩:BoxLoom) Try.zeroValue25 (fun m w=>⟨_,(rep_two rep_nil (rep_two rep_nil rep_nil)),rfl⟩) fun g2 w2 p2 hs b2 cb=>?_)
 have hfr:=hfr.stp hs
 have q1:=q1.stp hs
 have d7:OSF 2002 60200 0 g2 w2 3 25 ([]:List Int) p2:=cb.osf (by rfl)
 have i7:OSF 2002 60201 1 g2 w2 3 25 ([]:List Int) p2:=cb.osf (by rfl)
 have j7:OSF 2002 60202 2 g2 w2 87 25 ([]:List BoxShuttle) p2:=cb.osf (by rfl)
 clear cb
 refine Zb (Zd (Zf (Za (EL_p (fPtr p1 0) (Zc at_73_0 rfl (PT.ptr q1)) rfl ?_))))
 have q3:=Zm (part_Race_0).1 q1
 obtain ⟨y4,zJ,h⟩:=bsome h
 refine EL_p (fPtr (fPtr p1 0) (((0:Int):Int).toNat * 1)) (P_indexAddrA (α:=UInt8) Try.underlying69 Try.sizeOf5 rfl (PT.ptr q3) rfl zJ) rfl ?_
 have q5:=PT_idxA q3 zJ
 refine Ze .plain rfl (D_load (g:=g2) Try.isAgg5 Try.sizeOf5 rfl q5 fun v6 r6=>?_)
 obtain rfl:=RV_u8.1 r6
 refine EL_p (.int .i64 (((y4).toNat:Int))) (P_u8int Try.underlying5 Try.underlying3 rfl) rfl ?_
 obtain ⟨y7,pM,h⟩:=bsome h
 refine EL_p (.int .i64 (y7)) (P_int rfl rfl (congrArg (Option.map (Value.int .i64)) pM)) rfl ?_
 refine EL_in (.int .i64 ((w64 ((1:Int) + y7)))) rfl rfl rfl rfl ?_
 refine EL_p (fPtr p1 0) (Zc at_73_0 rfl (PT.ptr q1)) rfl ?_
 have q8:=Zm (part_Race_0).1 q1
 obtain ⟨y9,aK,h⟩:=bsome h
 refine EL_p (fPtr (fPtr p1 0) (((1:Int):Int).toNat * 1)) (P_indexAddrA (α:=UInt8) Try.underlying69 Try.sizeOf5 rfl (PT.ptr q8) rfl aK) rfl ?_
 have qM:=PT_idxA q8 aK
 refine Ze .plain rfl (D_load (g:=g2) Try.isAgg5 Try.sizeOf5 rfl qM fun sP rM=>?_)
 obtain rfl:=RV_u8.1 rM
 refine EL_p (.int .i64 (((y9).toNat:Int))) (P_u8int Try.underlying5 Try.underlying3 rfl) rfl ?_
 obtain ⟨aB,uK,h⟩:=bsome h
 refine EL_p (.int .i64 (aB)) (P_int rfl rfl (congrArg (Option.map (Value.int .i64)) uK)) rfl ?_
 refine EL_in (.int .i64 ((w64 ((1:Int) + aB)))) rfl rfl rfl rfl ?_
 refine Ze .plain rfl (D_buildSlice (g:=g2) 3021 (xs:=([(w64 ((1:Int) + y7)),(w64 ((1:Int) + aB))]:List Int)) (vs:=[.int .i64 ((w64 ((1:Int) + y7))),.int .i64 ((w64 ((1:Int) + aB)))]) Try.underlying22 Try.sizeOf3 Try.zeroValue3 rfl rfl (.cons rfl (.cons rfl .nil)) (RVs.cons (Zj.2 rfl) (RVs.cons (Zj.2 rfl) RVs.nil)) rfl rfl fun bK tP gH hs o13 gD hxt hfl=>?_)
 have hfr:=hfr.stp hs
 have q1:=q1.stp hs
 have d7:=d7.stp hs rfl
 have i7:=i7.stp hs rfl
 have j7:=j7.stp hs rfl
 have b2:=b2.stp hs rfl
 have iF:RV bK.m _ (⟨([(w64 ((1:Int) + y7)),(w64 ((1:Int) + aB))]:List Int),[],[]⟩:BoxLoom) (.agg (setCh [[.slice none 0 0],[.slice none 0 0],[.slice none 0 0]] [(0,gH)]).flatten.toArray):=RV_build rfl (rep_pair (RV.cells gD) (rep_pair (rep_nil) (rep_last (rep_nil))))
 generalize tD:(Value.agg (setCh [[.slice none 0 0],[.slice none 0 0],[.slice none 0 0]] [(0,gH)]).flatten.toArray)=cK at iF
 obtain ⟨sM,tM,yA,_,_⟩:=RV_list gD
 replace yA:=yA.symm
 refine EL_p cK (tD ▸ P_build (vs:=[(0,gH)]) [[.slice none 0 0],[.slice none 0 0],[.slice none 0 0]] lay_25 rfl rfl (.cons rfl .nil) ⟨⟨_,rfl,cells_size gD⟩,trivial⟩) rfl ?_
 refine Ze .plain rfl (D_allocOc (g:=bK) 2003 (⟨[],[],[]⟩:BoxLoom) Try.zeroValue25 (fun m w=>⟨_,(rep_two rep_nil (rep_two rep_nil rep_nil)),rfl⟩) fun nF w15 u3 hs b15 cb=>?_)
 have hfr:=hfr.stp hs
 have q1:=q1.stp hs
 have d7:=d7.stp hs rfl
 have i7:=i7.stp hs rfl
 have j7:=j7.stp hs rfl
 have b2:=b2.stp hs rfl
 have gD:=gD.stp hs
 have o13:=o13.stp hs rfl
 have iF:=iF.stp hs
 have pN:OSF 2003 60300 0 nF w15 3 25 ([]:List Int) u3:=cb.osf (by rfl)
 have qN:OSF 2003 60301 1 nF w15 3 25 ([]:List Int) u3:=cb.osf (by rfl)
 have rN:OSF 2003 60302 2 nF w15 87 25 ([]:List BoxShuttle) u3:=cb.osf (by rfl)
 clear cb
 refine Ze .plain rfl (D_storeOc (g:=nF) (v:=cK) Try.sizeOf25 rfl b15 rfl iF fun oF iH hs b16 cb=>?_)
 have sN:OSF 2003 60301 1 oF iH 3 25 ([]:List Int) u3:=cb.osf (by rw [← tD,← yA]; rfl)
 have d9:OSF 2003 60302 2 oF iH 87 25 ([]:List BoxShuttle) u3:=cb.osf (by rw [← tD,← yA]; rfl)
 obtain ⟨uM,vM,cG,_,_⟩:=RV_list gD
 have g8:OSF 2003 3021 0 oF iH 3 25 (([(w64 ((1:Int) + y7)),(w64 ((1:Int) + aB))]:List Int):List Int) u3:=cb.osfv (by rw [← tD,cG]; rfl) (o13.stp hs rfl)
 clear cb
 have hfr:=hfr.stp hs
 have q1:=q1.stp hs
 have d7:=d7.stp hs rfl
 have i7:=i7.stp hs rfl
 have j7:=j7.stp hs rfl
 have b2:=b2.stp hs rfl
 refine Zb (Zd (Zf ?_))
 have dK:=Zm (part_Race_0).1 q1
 obtain ⟨dF,jH,h⟩:=bsome h
 have xM:=PT_idxA dK jH
 refine Zs (x:=.tmp 24) Try.isAgg5 Try.sizeOf5 xM fun uP yM vK=>?_
 obtain rfl:=RV_u8.1 yM
 refine L_loadFS (x:=.tmp 27) part_BoxLoom_0.1 Try.isAgg22 Try.sizeOf22 b16 g8 fun eK lK o22 xK=>?_
 obtain ⟨y23,kH,h⟩:=bsome h
 have zM:=PT_idx lK kH
 refine Zs (x:=.tmp 29) Try.isAgg3 Try.sizeOf3 zM fun vP bN yK=>?_
 obtain rfl:=Zj.1 bN
 obtain ⟨l9,zK,h⟩:=bsome h
 have mK:=Zm (part_Race_0).1 q1
 obtain ⟨eF,lH,h⟩:=bsome h
 have cN:=PT_idxA mK lH
 refine Zs (x:=.tmp 33) Try.isAgg5 Try.sizeOf5 cN fun xP dN aL=>?_
 obtain rfl:=RV_u8.1 dN
 refine L_loadFS (x:=.tmp 36) part_BoxLoom_0.1 Try.isAgg22 Try.sizeOf22 b16 g8 fun nK oK o32 bL=>?_
 obtain ⟨yG,mH,h⟩:=bsome h
 have eN:=PT_idx oK mH
 refine Zs (x:=.tmp 38) Try.isAgg3 Try.sizeOf3 eN fun yP gN cL=>?_
 obtain rfl:=Zj.1 gN
 obtain ⟨n9,dL,h⟩:=bsome h
 refine E_drawL (g:=oF) (n:=20) [(18,(fun v g w=>RV g.m w ([l9,n9]:List Int) v∧OS 3041 g w 3 ([l9,n9]:List Int) v∧FullV v))] [0,1,2,3,4,5,6,7,8,9,10,11,12,13,14,15,16,17,18,19] rfl mixed (by kernel_rfl) (⟨fun _=>up_and up_rv (up_and up_os (up_eq _)),trivial⟩) ?_
 refine L_p (fPtr p1 0) rfl rfl (Zc at_73_0 rfl (PT.ptr q1)) ?_
 refine L_p (fPtr (fPtr p1 0) (((2:Int):Int).toNat * 1)) rfl rfl (P_indexAddrA (α:=UInt8) Try.underlying69 Try.sizeOf5 rfl (PT.ptr dK) rfl jH) ?_
 refine L_ld (c:=.int .u8 (UInt8.toNat (dF))) rfl rfl .plain (fun _ _ h=>h.ch) vK rfl ?_
 refine L_p (.int .i64 (((dF).toNat:Int))) rfl rfl (P_u8int Try.underlying5 Try.underlying3 rfl) ?_
 refine L_p (fPtr u3 0) rfl rfl (Zc at_25_0 rfl (OB.ptr b16)) ?_
 refine L_ld (c:=eK) rfl rfl .plain (fun _ _ h=>⟨h.ch,fun b hb _=>h.below.block b hb⟩) xK rfl ?_
 refine L_p (ePtr eK (0:Int) 1) rfl rfl (Zh (α:=Int) Try.underlying22 Try.sizeOf3 rfl lK rfl kH) ?_
 refine L_ld (c:=.int .i64 (y23)) rfl rfl .plain (fun _ _ h=>h.ch) yK rfl ?_
 refine L_p (.int .i64 (l9)) rfl rfl (P_int rfl rfl (congrArg (Option.map (Value.int .i64)) zK)) ?_
 refine L_p (fPtr p1 0) rfl rfl (Zc at_73_0 rfl (PT.ptr q1)) ?_
 refine L_p (fPtr (fPtr p1 0) (((3:Int):Int).toNat * 1)) rfl rfl (P_indexAddrA (α:=UInt8) Try.underlying69 Try.sizeOf5 rfl (PT.ptr mK) rfl lH) ?_
 refine L_ld (c:=.int .u8 (UInt8.toNat (eF))) rfl rfl .plain (fun _ _ h=>h.ch) aL rfl ?_
 refine L_p (.int .i64 (((eF).toNat:Int))) rfl rfl (P_u8int Try.underlying5 Try.underlying3 rfl) ?_
 refine L_p (fPtr u3 0) rfl rfl (Zc at_25_0 rfl (OB.ptr b16)) ?_
 refine L_ld (c:=nK) rfl rfl .plain (fun _ _ h=>⟨h.ch,fun b hb _=>h.below.block b hb⟩) bL rfl ?_
 refine L_p (ePtr nK (1:Int) 1) rfl rfl (Zh (α:=Int) Try.underlying22 Try.sizeOf3 rfl oK rfl mH) ?_
 refine L_ld (c:=.int .i64 (yG)) rfl rfl .plain (fun _ _ h=>h.ch) cL rfl ?_
 refine L_p (.int .i64 (n9)) rfl rfl (P_int rfl rfl (congrArg (Option.map (Value.int .i64)) dL)) ?_
 refine L_do (φ:=fun v g w=>RV g.m w ([l9,n9]:List Int) v∧OS 3041 g w 3 ([l9,n9]:List Int) v∧FullV v) rfl rfl .plain (fun g w hd=>D_buildSlice (g:=g) 3041 (xs:=([l9,n9]:List Int)) (vs:=[.int .i64 (l9),.int .i64 (n9)]) Try.underlying22 Try.sizeOf3 Try.zeroValue3 rfl rfl (.cons rfl (.cons rfl .nil)) (RVs.cons (Zj.2 rfl) (RVs.cons (Zj.2 rfl) RVs.nil)) rfl rfl fun g' w' v hs o r hxt hfl=>⟨g',hxt,r,o,hfl⟩) (fun iD hv=>?_)
 clear hv
 refine L_p (fPtr u3 1) rfl rfl (Zc at_25_1 rfl (OB.ptr b16)) ?_
 refine L_nil fun iN zP hall=>?_
 have hs:=hall.1
 have hfr:=hfr.ext hs
 have q1:=q1.ext hs
 have d7:=d7.ext hs
 have i7:=i7.ext hs
 have j7:=j7.ext hs
 have b2:=b2.ext hs
 have d9:=d9.ext hs
 have g8:=g8.ext hs
 have b16:=b16.ext hs
 have pK:=(word_all (A:=fun g w=>RV g.m w ([l9,n9]:List Int) iD∧OS 3041 g w 3 ([l9,n9]:List Int) iD∧FullV iD) 18 rfl hall).1
 have o77:=(word_all (A:=fun g w=>RV g.m w ([l9,n9]:List Int) iD∧OS 3041 g w 3 ([l9,n9]:List Int) iD∧FullV iD) 18 rfl hall).2.1
 clear hs hall
 refine Ze .plain rfl (D_storeFc (g:=iN) part_BoxLoom_1 Try.sizeOf22 rfl b16 rfl pK fun qK jN hs b79 rst hos=>?_)
 have d9:=d9.rest hs rst
 have g8:=g8.rest hs rst
 have dB:=hos _ _ 3041 3 (([l9,n9]:List Int):List Int) (rv_cells1 pK) rfl o77
 clear rst hos
 have hfr:=hfr.stp hs
 have q1:=q1.stp hs
 have d7:=d7.stp hs rfl
 have i7:=i7.stp hs rfl
 have j7:=j7.stp hs rfl
 have b2:=b2.stp hs rfl
 refine Zb (Zd (Zf (Za ?_)))
 have pF:RV qK.m jN (⟨List.toArray [false,false,false,false,false,false,false,false],rfl⟩:Vector Bool 8) (.agg (setCh [[.bool false],[.bool false],[.bool false],[.bool false],[.bool false],[.bool false],[.bool false],[.bool false]] []).flatten.toArray):=RV_build rfl (rep_vec (flat_chunk rep_bool (flat_chunk rep_bool (flat_chunk rep_bool (flat_chunk rep_bool (flat_chunk rep_bool (flat_chunk rep_bool (flat_chunk rep_bool (flat_chunk rep_bool flat_nil)))))))) rfl)
 generalize eL:(Value.agg (setCh [[.bool false],[.bool false],[.bool false],[.bool false],[.bool false],[.bool false],[.bool false],[.bool false]] []).flatten.toArray)=sK at pF
 refine EL_p sK (eL ▸ P_buildA (vs:=[]) [[.bool false],[.bool false],[.bool false],[.bool false],[.bool false],[.bool false],[.bool false],[.bool false]] Try.underlying137 layA_137 szA_4 rfl (by simp) .nil trivial) rfl ?_
 refine Ze .plain rfl (D_allocOc (g:=qK) 2004 ((⟨List.toArray [false,false,false,false,false,false,false,false],rfl⟩:Vector Bool 8):Vector Bool 8) Try.zeroValue137 (fun m w=>⟨_,(rep_vec (flat_chunk rep_bool (flat_chunk rep_bool (flat_chunk rep_bool (flat_chunk rep_bool (flat_chunk rep_bool (flat_chunk rep_bool (flat_chunk rep_bool (flat_chunk rep_bool flat_nil)))))))) rfl),rfl⟩) fun kN bQ a9 hs b81 cb=>?_)
 have hfr:=hfr.stp hs
 have q1:=q1.stp hs
 have d7:=d7.stp hs rfl
 have i7:=i7.stp hs rfl
 have j7:=j7.stp hs rfl
 have b2:=b2.stp hs rfl
 have d9:=d9.stp hs rfl
 have g8:=g8.stp hs rfl
 have dB:=dB.stp hs rfl
 have b79:=b79.stp hs rfl
 have pF:=pF.stp hs
 clear cb
 refine Ze .plain rfl (D_storeOc (g:=kN) (v:=sK) Try.sizeOf137 rfl b81 rfl pF fun lN cQ hs b82 cb=>?_)
 clear cb
 have hfr:=hfr.stp hs
 have q1:=q1.stp hs
 have d7:=d7.stp hs rfl
 have i7:=i7.stp hs rfl
 have j7:=j7.stp hs rfl
 have b2:=b2.stp hs rfl
 have d9:=d9.stp hs rfl
 have g8:=g8.stp hs rfl
 have dB:=dB.stp hs rfl
 have b79:=b79.stp hs rfl
 refine Zb (Zd ?_)
 obtain ⟨k9,hx,h⟩:=bsome h
 refine E_join (fun e w=>∃ (g:Gh) ,Fr gI wI g w∧e 2=p2∧OB 2002 g w 25 ((⟨[],[],[]⟩:BoxLoom):BoxLoom) p2∧OSF 2002 60200 0 g w 3 25 (((⟨[],[],[]⟩:BoxLoom)).Boxes) p2∧OSF 2002 60201 1 g w 3 25 (((⟨[],[],[]⟩:BoxLoom)).At) p2∧OSF 2002 60202 2 g w 87 25 (((⟨[],[],[]⟩:BoxLoom)).Shuttles) p2∧e 3=u3∧OB 2003 g w 25 (k9:BoxLoom) u3∧OSF 2003 3021 0 g w 3 25 ((k9).Boxes) u3∧OSF 2003 3041 1 g w 3 25 ((k9).At) u3∧OSF 2003 60302 2 g w 87 25 ((k9).Shuttles) u3) (fun Q' hQ=>?_) (fun mN tN hR=>?_)
 ·replace h := hx
  clear hx
  refine Zf (Za (Zg (.int .i64 (0)) rfl rfl ?_))
  refine Zb (Zd (Zr ?_))
  refine E_lp h (fun (s:BoxLoom × (Vector Bool 8) × Int) e w=>∃ (g:Gh) ,Fr gI wI g w∧e 1=p1∧PT g.m w (x0:Race) p1∧e 2=p2∧OB 2002 g w 25 ((⟨[],[],[]⟩:BoxLoom):BoxLoom) p2∧OSF 2002 60200 0 g w 3 25 (((⟨[],[],[]⟩:BoxLoom)).Boxes) p2∧OSF 2002 60201 1 g w 3 25 (((⟨[],[],[]⟩:BoxLoom)).At) p2∧OSF 2002 60202 2 g w 87 25 (((⟨[],[],[]⟩:BoxLoom)).Shuttles) p2∧e 3=u3∧OB 2003 g w 25 (s.1:BoxLoom) u3∧OSF 2003 3021 0 g w 3 25 ((s.1).Boxes) u3∧OSF 2003 3041 1 g w 3 25 ((s.1).At) u3∧OSF 2003 60302 2 g w 87 25 ((s.1).Shuttles) u3∧e 4=a9∧OB 2004 g w 137 (s.2.1:Vector Bool 8) a9∧e 5=.int .i64 (s.2.2)) ⟨lN,hfr,rfl,q1,rfl,b2,d7,i7,j7,rfl,b79,g8,dB,d9,rfl,b82,rfl⟩ (fun X602 zG lI=>?_)
  rintro ⟨i3,y6,o0⟩ uN rO ⟨uD,hfr,iB,jA,iC,lC,u2_0_603,u2_1_603,u2_2_603,mC,qC,u3_0_603,u3_1_603,u3_2_603,rC,uC,z9⟩ h
  refine Zq h (fun (s:Unit) e w=>∃ (g:Gh) ,Fr gI wI g w∧e 1=p1∧PT g.m w (x0:Race) p1∧e 2=p2∧OB 2002 g w 25 ((⟨[],[],[]⟩:BoxLoom):BoxLoom) p2∧OSF 2002 60200 0 g w 3 25 (((⟨[],[],[]⟩:BoxLoom)).Boxes) p2∧OSF 2002 60201 1 g w 3 25 (((⟨[],[],[]⟩:BoxLoom)).At) p2∧OSF 2002 60202 2 g w 87 25 (((⟨[],[],[]⟩:BoxLoom)).Shuttles) p2∧e 3=u3∧OB 2003 g w 25 (i3:BoxLoom) u3∧OSF 2003 3021 0 g w 3 25 ((i3).Boxes) u3∧OSF 2003 3041 1 g w 3 25 ((i3).At) u3∧OSF 2003 60302 2 g w 87 25 ((i3).Shuttles) u3∧e 4=a9∧OB 2004 g w 137 (y6:Vector Bool 8) a9∧e 5=.int .i64 (o0)) (fun X614 dH mI h=>?_) ?_
  ·obtain ⟨u9, hx, h⟩ := bsome h
   refine E_join (fun e w=>∃ (g:Gh) ,Fr gI wI g w∧e 1=p1∧PT g.m w (x0:Race) p1∧e 2=p2∧OB 2002 g w 25 ((⟨[],[],[]⟩:BoxLoom):BoxLoom) p2∧OSF 2002 60200 0 g w 3 25 (((⟨[],[],[]⟩:BoxLoom)).Boxes) p2∧OSF 2002 60201 1 g w 3 25 (((⟨[],[],[]⟩:BoxLoom)).At) p2∧OSF 2002 60202 2 g w 87 25 (((⟨[],[],[]⟩:BoxLoom)).Shuttles) p2∧e 3=u3∧OB 2003 g w 25 (i3:BoxLoom) u3∧OSF 2003 3021 0 g w 3 25 ((i3).Boxes) u3∧OSF 2003 3041 1 g w 3 25 ((i3).At) u3∧OSF 2003 60302 2 g w 87 25 ((i3).Shuttles) u3∧e 4=a9∧OB 2004 g w 137 (y6:Vector Bool 8) a9∧e 5=.int .i64 (o0)∧e 56=.bool (u9)) (fun Q' hQ=>?_) (fun vN sO hR=>?_)
   ·replace h := hx
    clear hx
    refine Za (Zo z9 rfl ?_)
    refine EL_in (.bool ((o0 == (0:Int)))) rfl rfl rfl rfl ?_
    refine Zn (.bool ((o0 == (0:Int)))) rfl rfl ?_
    rcases Zt h with ⟨x5,h⟩ | ⟨x5,h⟩
    ·refine EL_s rfl rfl x5 rfl rfl ?_
     iterate 5 refine EL_s rfl rfl x5 rfl rfl ?_
     refine EL_skip (.off rfl rfl) rfl ?_
     refine EL_skip (.off rfl rfl) rfl ?_
     refine EL_s rfl rfl x5 rfl rfl ?_
     refine EL_p (.bool true) (Zl (b:=(o0 == (0:Int))) rfl (pick_t x5 rfl)) rfl ?_
     refine Zb ?_
     obtain rfl:=sinj h
     exact hQ _ _ ⟨uD,hfr,iB,jA,iC,lC,u2_0_603,u2_1_603,u2_2_603,mC,qC,u3_0_603,u3_1_603,u3_2_603,rC,uC,z9,rfl⟩
    ·refine EL_y (.int .i64 (o0)) (Zk z9) rfl rfl x5 rfl ?_
     refine EL_y (fPtr p1 4) (Zc at_73_1 iB (PT.ptr jA)) rfl rfl x5 rfl ?_
     have gL:=Zm (part_Race_1).1 jA
     refine Ze (.yes2 rfl rfl x5) rfl (D_load (g:=uD) Try.isAgg70 Try.sizeOf70 rfl gL fun tO iL=>?_)
     refine EL_y (.int .i64 (((x0).Shuttles).length:Int)) (P_len Try.underlying70 rfl iL) rfl rfl x5 rfl ?_
     refine EL_y (.bool ((decide (o0 < (((x0).Shuttles).length:Int))))) (P_int rfl rfl rfl) rfl rfl x5 rfl ?_
     refine EL_y (.bool ((decide (o0 < (((x0).Shuttles).length:Int))))) (Zk rfl) rfl rfl x5 rfl ?_
     rcases Zt h with ⟨gA,h⟩ | ⟨gA,h⟩
     ·refine EL_y (.int .i64 (o0)) (Zk z9) rfl rfl gA rfl ?_
      refine EL_y (.bool ((decide (o0 < (6:Int))))) (P_int rfl rfl rfl) rfl rfl gA rfl ?_
      refine EL_y (.bool ((decide (o0 < (6:Int))))) (Zl (b:=(decide (o0 < (((x0).Shuttles).length:Int)))) rfl (pick_t gA rfl)) rfl rfl x5 rfl ?_
      refine EL_p (.bool ((decide (o0 < (6:Int))))) (Zl (b:=(o0 == (0:Int))) rfl (pick_f x5 rfl)) rfl ?_
      refine Zb ?_
      obtain rfl:=sinj h
      exact hQ _ _ ⟨uD,hfr,iB,jA,iC,lC,u2_0_603,u2_1_603,u2_2_603,mC,qC,u3_0_603,u3_1_603,u3_2_603,rC,uC,z9,rfl⟩
     ·refine EL_s rfl rfl gA rfl rfl ?_
      refine EL_s rfl rfl gA rfl rfl ?_
      refine EL_y (.bool false) (Zl (b:=(decide (o0 < (((x0).Shuttles).length:Int)))) rfl (pick_f gA rfl)) rfl rfl x5 rfl ?_
      refine EL_p (.bool false) (Zl (b:=(o0 == (0:Int))) rfl (pick_f x5 rfl)) rfl ?_
      refine Zb ?_
      obtain rfl:=sinj h
      exact hQ _ _ ⟨uD,hfr,iB,jA,iC,lC,u2_0_603,u2_1_603,u2_2_603,mC,qC,u3_0_603,u3_1_603,u3_2_603,rC,uC,z9,rfl⟩
   ·clear hx
    obtain ⟨nH,hfr,oH,pH,cE,dE,u2_0_623,u2_1_623,u2_2_623,eE,gE,u3_0_623,u3_1_623,u3_2_623,qH,sH,tH,jD⟩:=hR
    rcases Zt h with ⟨vD,h⟩ | ⟨vD,h⟩
    ·refine E_cond_true (Eq.trans (show ev _ _ = .bool (u9) from jD) (congrArg Value.bool vD)) ?_
     exact Zu (Zd (mI () _ _ ⟨nH,hfr,oH,pH,cE,dE,u2_0_623,u2_1_623,u2_2_623,eE,gE,u3_0_623,u3_1_623,u3_2_623,qH,sH,tH⟩ h))
    ·refine E_cond_false (Eq.trans (show ev _ _ = .bool (u9) from jD) (congrArg Value.bool vD)) ?_
     refine E_exit ?_
     refine thn_e ?_
     refine thn_e ?_
     refine blk_hit ?_
     obtain rfl:=sinj h
     exact hQ _ _ ⟨nH,hfr,cE,dE,u2_0_623,u2_1_623,u2_2_623,eE,gE,u3_0_623,u3_1_623,u3_2_623⟩
  ·rintro _ xN jL ⟨uH, hfr, jB, i6, iE, n8, u2_0_625, u2_1_625, u2_2_625, jE, r8, u3_0_625, u3_1_625, u3_2_625, kE, t8, lB⟩ h
   obtain ⟨⟨i8,rA⟩,hx,h⟩:=bsome h
   refine E_join (fun e w=>∃ (g:Gh) ,Fr gI wI g w∧e 1=p1∧PT g.m w (x0:Race) p1∧e 2=p2∧OB 2002 g w 25 ((⟨[],[],[]⟩:BoxLoom):BoxLoom) p2∧OSF 2002 60200 0 g w 3 25 (((⟨[],[],[]⟩:BoxLoom)).Boxes) p2∧OSF 2002 60201 1 g w 3 25 (((⟨[],[],[]⟩:BoxLoom)).At) p2∧OSF 2002 60202 2 g w 87 25 (((⟨[],[],[]⟩:BoxLoom)).Shuttles) p2∧e 3=u3∧OB 2003 g w 25 (i8:BoxLoom) u3∧OSF 2003 3021 0 g w 3 25 ((i8).Boxes) u3∧OSF 2003 3041 1 g w 3 25 ((i8).At) u3∧OSF 2003 60302 2 g w 87 25 ((i8).Shuttles) u3∧e 4=a9∧OB 2004 g w 137 (rA:Vector Bool 8) a9∧e 5=.int .i64 (o0)) (fun Q' hQ=>?_) (fun nN yN hR=>?_)
   ·replace h := hx
    clear hx
    refine Zr ?_
    refine Zf (Za ?_)
    have xD:RV uH.m jL (⟨List.toArray [0,0,0,0],rfl⟩:Vector UInt8 4) (.agg (setCh [[.int .u8 0],[.int .u8 0],[.int .u8 0],[.int .u8 0]] []).flatten.toArray):=RV_build rfl (rep_vec (flat_chunk rep_u8 (flat_chunk rep_u8 (flat_chunk rep_u8 (flat_chunk rep_u8 flat_nil)))) rfl)
    generalize nI:(Value.agg (setCh [[.int .u8 0],[.int .u8 0],[.int .u8 0],[.int .u8 0]] []).flatten.toArray)=xH at xD
    refine EL_p xH (nI ▸ P_buildA (vs:=[]) [[.int .u8 0],[.int .u8 0],[.int .u8 0],[.int .u8 0]] Try.underlying69 layA_69 szA_5 rfl (by simp) .nil trivial) rfl ?_
    refine Ze .plain rfl (D_allocOc (g:=uH) 2006 ((⟨List.toArray [0,0,0,0],rfl⟩:Vector UInt8 4):Vector UInt8 4) Try.zeroValue69 (fun m w=>⟨_,(rep_vec (flat_chunk rep_u8 (flat_chunk rep_u8 (flat_chunk rep_u8 (flat_chunk rep_u8 flat_nil)))) rfl),rfl⟩) fun lL uO iA hs b874 cb=>?_)
    have hfr:=hfr.stp hs
    have i6:=i6.stp hs
    have u2_0_625:=u2_0_625.stp hs rfl
    have u2_1_625:=u2_1_625.stp hs rfl
    have u2_2_625:=u2_2_625.stp hs rfl
    have n8:=n8.stp hs rfl
    have u3_0_625:=u3_0_625.stp hs rfl
    have u3_1_625:=u3_1_625.stp hs rfl
    have u3_2_625:=u3_2_625.stp hs rfl
    have r8:=r8.stp hs rfl
    have t8:=t8.stp hs rfl
    have xD:=xD.stp hs
    clear cb
    refine Ze .plain rfl (D_storeOc (g:=lL) (v:=xH) Try.sizeOf69 rfl b874 rfl xD fun vC vO hs b875 cb=>?_)
    clear cb
    have hfr:=hfr.stp hs
    have i6:=i6.stp hs
    have u2_0_625:=u2_0_625.stp hs rfl
    have u2_1_625:=u2_1_625.stp hs rfl
    have u2_2_625:=u2_2_625.stp hs rfl
    have n8:=n8.stp hs rfl
    have u3_0_625:=u3_0_625.stp hs rfl
    have u3_1_625:=u3_1_625.stp hs rfl
    have u3_2_625:=u3_2_625.stp hs rfl
    have r8:=r8.stp hs rfl
    have t8:=t8.stp hs rfl
    refine Zb (Zd ?_)
    obtain ⟨i5,hx,h⟩:=bsome h
    refine E_join (fun e w=>∃ (g:Gh) ,Fr gI wI g w∧e 1=p1∧PT g.m w (x0:Race) p1∧e 2=p2∧OB 2002 g w 25 ((⟨[],[],[]⟩:BoxLoom):BoxLoom) p2∧OSF 2002 60200 0 g w 3 25 (((⟨[],[],[]⟩:BoxLoom)).Boxes) p2∧OSF 2002 60201 1 g w 3 25 (((⟨[],[],[]⟩:BoxLoom)).At) p2∧OSF 2002 60202 2 g w 87 25 (((⟨[],[],[]⟩:BoxLoom)).Shuttles) p2∧e 3=u3∧OB 2003 g w 25 (i3:BoxLoom) u3∧OSF 2003 3021 0 g w 3 25 ((i3).Boxes) u3∧OSF 2003 3041 1 g w 3 25 ((i3).At) u3∧OSF 2003 60302 2 g w 87 25 ((i3).Shuttles) u3∧e 4=a9∧OB 2004 g w 137 (y6:Vector Bool 8) a9∧e 5=.int .i64 (o0)∧e 6=iA∧OB 2006 g w 69 (i5:Vector UInt8 4) iA) (fun Q' hQ=>?_) (fun zN xO hR=>?_)
    ·replace h := hx
     clear hx
     refine Zf (Za (Zo lB rfl ?_))
     refine EL_p (fPtr p1 4) (Zc at_73_1 jB (PT.ptr i6)) rfl ?_
     have mL:=Zm (part_Race_1).1 i6
     refine Ze .plain rfl (D_load (g:=vC) Try.isAgg70 Try.sizeOf70 rfl mL fun yO nL=>?_)
     refine EL_p (.int .i64 (((x0).Shuttles).length:Int)) (P_len Try.underlying70 rfl nL) rfl ?_
     refine EL_p (.bool ((decide (o0 < (((x0).Shuttles).length:Int))))) (P_int rfl rfl rfl) rfl ?_
     refine Zb (Zd ?_)
     rcases Zt h with ⟨yD,h⟩ | ⟨yD,h⟩
     ·refine E_ct yD rfl ?_
      refine Za (EL_p (fPtr p1 4) (Zc at_73_1 jB (PT.ptr i6)) rfl ?_)
      have oL:=Zm (part_Race_1).1 i6
      refine Ze .plain rfl (D_load (g:=vC) Try.isAgg70 Try.sizeOf70 rfl oL fun pL yH=>?_)
      refine Zo lB rfl ?_
      obtain ⟨aH,qF,h⟩:=bsome h
      refine EL_p (ePtr pL o0 4) (Zh (α:=Vector UInt8 4) Try.underlying70 Try.sizeOf69 rfl yH rfl qF) rfl ?_
      have qL:=PT_idx yH qF
      refine Ze .plain rfl (D_load (g:=vC) Try.isAgg69 Try.sizeOf69 rfl qL fun rL tL=>?_)
      refine Ze .plain rfl (D_storeOc (g:=vC) (v:=rL) Try.sizeOf69 rfl b875 rfl tL fun uL zO hs b893 cb=>?_)
      clear cb
      have hfr:=hfr.stp hs
      have i6:=i6.stp hs
      have u2_0_625:=u2_0_625.stp hs rfl
      have u2_1_625:=u2_1_625.stp hs rfl
      have u2_2_625:=u2_2_625.stp hs rfl
      have n8:=n8.stp hs rfl
      have u3_0_625:=u3_0_625.stp hs rfl
      have u3_1_625:=u3_1_625.stp hs rfl
      have u3_2_625:=u3_2_625.stp hs rfl
      have r8:=r8.stp hs rfl
      have t8:=t8.stp hs rfl
      refine Zb ?_
      obtain rfl:=sinj h
      exact hQ _ _ ⟨uL,hfr,jB,i6,iE,n8,u2_0_625,u2_1_625,u2_2_625,jE,r8,u3_0_625,u3_1_625,u3_2_625,kE,t8,lB,rfl,b893⟩
     ·refine E_cf yD rfl ?_
      refine Zu ?_
      obtain rfl:=sinj h
      exact hQ _ _ ⟨vC,hfr,jB,i6,iE,n8,u2_0_625,u2_1_625,u2_2_625,jE,r8,u3_0_625,u3_1_625,u3_2_625,kE,t8,lB,rfl,b875⟩
    ·clear hx
     obtain ⟨vL,hfr,lE,mB,mE,nB,u2_0_894,u2_1_894,u2_2_894,oB,v8,u3_0_894,u3_1_894,u3_2_894,aD,bA,nE,oE,mA⟩:=hR
     refine Zf (L_loadO (x:=.tmp 70) (SubS.vec (β:=UInt8) (n:=4) (i:=0) (by decide)).1 Try.isAgg5 Try.sizeOf5 mA fun aP xL pI=>?_)
     obtain rfl:=RV_u8.1 xL
     refine L_loadFS (x:=.tmp 73) part_BoxLoom_0.1 Try.isAgg22 Try.sizeOf22 v8 u3_0_894 fun zH aI o897 qI=>?_
     obtain ⟨lD,rF,h⟩:=bsome h
     have yL:=PT_idx aI rF
     refine Zs (x:=.tmp 75) Try.isAgg3 Try.sizeOf3 yL fun bP zL rI=>?_
     obtain rfl:=Zj.1 zL
     refine L_loadFS (x:=.tmp 77) part_BoxLoom_0.1 Try.isAgg22 Try.sizeOf22 v8 u3_0_894 fun bI cI o902 sI=>?_
     obtain ⟨mD,sF,h⟩:=bsome h
     have aM:=PT_idx cI sF
     refine Zs (x:=.tmp 79) Try.isAgg3 Try.sizeOf3 aM fun cP bM tI=>?_
     obtain rfl:=Zj.1 bM
     obtain ⟨l5,uI,h⟩:=bsome h
     refine E_drawL (g:=vL) (n:=14) [] [0,1,2,3,4,5,6,7,8,9,10,11,12,13] rfl mixed (by kernel_rfl) trivial ?_
     refine L_p (fPtr iA 0) rfl rfl (P_indexAddrA (α:=UInt8) (i:=(0:Int)) Try.underlying69 Try.sizeOf5 oE (OB.ptr mA) rfl (idx_vec (v:=i5) (i:=0) (by decide))) ?_
     refine L_ld (c:=.int .u8 (UInt8.toNat ((i5)[0]))) rfl rfl .plain (fun _ _ h=>⟨h.ch,fun b hb _=>h.below.block b hb⟩) pI rfl ?_
     refine L_p (.int .i64 ((((i5)[0]).toNat:Int))) rfl rfl (P_u8int Try.underlying5 Try.underlying3 rfl) ?_
     refine L_p (fPtr u3 0) rfl rfl (Zc at_25_0 oB (OB.ptr v8)) ?_
     refine L_ld (c:=zH) rfl rfl .plain (fun _ _ h=>⟨h.ch,fun b hb _=>h.below.block b hb⟩) qI rfl ?_
     refine L_p (ePtr zH (0:Int) 1) rfl rfl (Zh (α:=Int) Try.underlying22 Try.sizeOf3 rfl aI rfl rF) ?_
     refine L_ld (c:=.int .i64 (lD)) rfl rfl .plain (fun _ _ h=>h.ch) rI rfl ?_
     refine L_p (fPtr u3 0) rfl rfl (Zc at_25_0 oB (OB.ptr v8)) ?_
     refine L_ld (c:=bI) rfl rfl .plain (fun _ _ h=>⟨h.ch,fun b hb _=>h.below.block b hb⟩) sI rfl ?_
     refine L_p (ePtr bI (1:Int) 1) rfl rfl (Zh (α:=Int) Try.underlying22 Try.sizeOf3 rfl cI rfl sF) ?_
     refine L_ld (c:=.int .i64 (mD)) rfl rfl .plain (fun _ _ h=>h.ch) tI rfl ?_
     refine L_p (.int .i64 ((w64 (lD + mD)))) rfl rfl (P_int rfl rfl rfl) ?_
     refine L_p (.int .i64 (l5)) rfl rfl (P_int rfl rfl (congrArg (Option.map (Value.int .i64)) uI)) ?_
     refine L_p (.int .i64 (l5)) rfl rfl (P_assign rfl) ?_
     refine L_nl fun yE dP hs=>?_
     have hfr:=hfr.ext hs
     have mB:=mB.ext hs
     have u2_0_894:=u2_0_894.ext hs
     have u2_1_894:=u2_1_894.ext hs
     have u2_2_894:=u2_2_894.ext hs
     have nB:=nB.ext hs
     have u3_0_894:=u3_0_894.ext hs
     have u3_1_894:=u3_1_894.ext hs
     have u3_2_894:=u3_2_894.ext hs
     have v8:=v8.ext hs
     have bA:=bA.ext hs
     have mA:=mA.ext hs
     clear hs
     refine Zb (Zd (Zq h (fun (s:Unit) e w=>∃ (g:Gh) ,Fr gI wI g w∧e 1=p1∧PT g.m w (x0:Race) p1∧e 2=p2∧OB 2002 g w 25 ((⟨[],[],[]⟩:BoxLoom):BoxLoom) p2∧OSF 2002 60200 0 g w 3 25 (((⟨[],[],[]⟩:BoxLoom)).Boxes) p2∧OSF 2002 60201 1 g w 3 25 (((⟨[],[],[]⟩:BoxLoom)).At) p2∧OSF 2002 60202 2 g w 87 25 (((⟨[],[],[]⟩:BoxLoom)).Shuttles) p2∧e 3=u3∧OB 2003 g w 25 (i3:BoxLoom) u3∧OSF 2003 3021 0 g w 3 25 ((i3).Boxes) u3∧OSF 2003 3041 1 g w 3 25 ((i3).At) u3∧OSF 2003 60302 2 g w 87 25 ((i3).Shuttles) u3∧e 4=a9∧OB 2004 g w 137 (y6:Vector Bool 8) a9∧e 5=.int .i64 (o0)∧e 6=iA∧OB 2006 g w 69 (i5:Vector UInt8 4) iA∧e 7=.int .i64 (l5)) (fun X932 bH vI h=>?_) ?_))
     ·refine Zf (Za (Zn (.int .i64 (l5)) rfl rfl ?_))
      obtain ⟨cH,tF,h⟩:=bsome h
      obtain ⟨hi934,he934⟩:=vat_idx tF
      refine EL_p (fPtr a9 ((l5:Int).toNat * 1)) (P_indexAddrA (α:=Bool) Try.underlying137 Try.sizeOf4 aD (OB.ptr bA) rfl tF) rfl ?_
      refine Ze .plain rfl (D_loadD (g:=yE) (SubS.dyn hi934).1 he934 Try.isAgg4 Try.sizeOf4 rfl bA fun eP cM=>?_)
      obtain rfl:=RV_bool.1 cM
      refine Zb (Zd ?_)
      rcases Zt h with ⟨zD,h⟩ | ⟨zD,h⟩
      ·refine E_ct zD rfl ?_
       refine E_exit ?_
       refine thn_e ?_
       refine blk_hit ?_
       obtain ⟨rfl,rfl⟩:=pairs2 h
       exact hQ _ _ ⟨yE,hfr,lE,mB,mE,nB,u2_0_894,u2_1_894,u2_2_894,oB,v8,u3_0_894,u3_1_894,u3_2_894,aD,bA,nE⟩
      ·refine E_cf zD rfl ?_
       exact Zu (Zd (vI () _ _ ⟨yE,hfr,lE,mB,mE,nB,u2_0_894,u2_1_894,u2_2_894,oB,v8,u3_0_894,u3_1_894,u3_2_894,aD,bA,nE,oE,mA,rfl⟩ h))
     ·rintro _ aO gP ⟨dM, hfr, rE, j6, sE, x6, u2_0_937, u2_1_937, u2_2_937, tB, t5, u3_0_937, u3_1_937, u3_2_937, bD, tE, uE, vB, a7, yB⟩ h
      refine Zf (Za (Zo yB rfl ?_))
      obtain ⟨tK,uF,h⟩:=bsome h
      obtain ⟨hi939,he939⟩:=vat_idx uF
      refine EL_p (fPtr a9 ((l5:Int).toNat * 1)) (P_indexAddrA (α:=Bool) Try.underlying137 Try.sizeOf4 bD (OB.ptr tE) rfl uF) rfl ?_
      refine Ze .plain rfl (D_storeFc (g:=dM) (SubS.dyn hi939) Try.sizeOf4 rfl tE rfl (RV_bool.2 rfl) fun eM iP hs b940 rst hos=>?_)
      clear rst hos
      have hfr:=hfr.stp hs
      have j6:=j6.stp hs
      have u2_0_937:=u2_0_937.stp hs rfl
      have u2_1_937:=u2_1_937.stp hs rfl
      have u2_2_937:=u2_2_937.stp hs rfl
      have x6:=x6.stp hs rfl
      have u3_0_937:=u3_0_937.stp hs rfl
      have u3_1_937:=u3_1_937.stp hs rfl
      have u3_2_937:=u3_2_937.stp hs rfl
      have t5:=t5.stp hs rfl
      have a7:=a7.stp hs rfl
      refine Zb (Zd (Zf (L_loadO (x:=.tmp 88) (SubS.vec (β:=UInt8) (n:=4) (i:=1) (by decide)).1 Try.isAgg5 Try.sizeOf5 a7 fun jP iM xI=>?_)))
      obtain rfl:=RV_u8.1 iM
      obtain ⟨x8,yI,h⟩:=bsome h
      refine L_loadO (x:=.tmp 93) (SubS.vec (β:=UInt8) (n:=4) (i:=2) (by decide)).1 Try.isAgg5 Try.sizeOf5 a7 fun kP jM zI=>?_
      obtain rfl:=RV_u8.1 jM
      obtain ⟨nD,aJ,h⟩:=bsome h
      refine L_loadO (x:=.tmp 97) (SubS.vec (β:=UInt8) (n:=4) (i:=2) (by decide)).1 Try.isAgg5 Try.sizeOf5 a7 fun lP kM bJ=>?_
      obtain rfl:=RV_u8.1 kM
      obtain ⟨cC,cJ,h⟩:=bsome h
      refine L_loadO (x:=.tmp 101) (SubS.vec (β:=UInt8) (n:=4) (i:=3) (by decide)).1 Try.isAgg5 Try.sizeOf5 a7 fun mP mM dJ=>?_
      obtain rfl:=RV_u8.1 mM
      obtain ⟨eC,eJ,h⟩:=bsome h
      obtain ⟨v7,gJ,h⟩:=bsome h
      refine E_drawL (g:=eM) (n:=21) [(18,(fun v g w=>RV g.m w v7 v)),(20,(fun v g w=>OB 2008 g w 87 (⟨0,0,0,⟨0,0⟩⟩:BoxShuttle) v))] [0,1,2,3,4,5,6,7,8,9,10,11,12,13,14,15,16,17,18,19,20] rfl mixed (by kernel_rfl) (⟨fun _=>up_rv,fun _=>up_ob,trivial⟩) ?_
      refine L_p (fPtr iA 1) rfl rfl (P_indexAddrA (α:=UInt8) (i:=(1:Int)) Try.underlying69 Try.sizeOf5 vB (OB.ptr a7) rfl (idx_vec (v:=i5) (i:=1) (by decide))) ?_
      refine L_ld (c:=.int .u8 (UInt8.toNat ((i5)[1]))) rfl rfl .plain (fun _ _ h=>⟨h.ch,fun b hb _=>h.below.block b hb⟩) xI rfl ?_
      refine L_p (.int .i64 ((((i5)[1]).toNat:Int))) rfl rfl (P_u8int Try.underlying5 Try.underlying3 rfl) ?_
      refine L_p (.int .i64 (x8)) rfl rfl (P_int rfl rfl (congrArg (Option.map (Value.int .i64)) yI)) ?_
      refine L_p (.int .i64 (l5)) rfl rfl (Zk yB) ?_
      refine L_p (fPtr iA 2) rfl rfl (P_indexAddrA (α:=UInt8) (i:=(2:Int)) Try.underlying69 Try.sizeOf5 vB (OB.ptr a7) rfl (idx_vec (v:=i5) (i:=2) (by decide))) ?_
      refine L_ld (c:=.int .u8 (UInt8.toNat ((i5)[2]))) rfl rfl .plain (fun _ _ h=>⟨h.ch,fun b hb _=>h.below.block b hb⟩) zI rfl ?_
      refine L_p (.int .i64 ((((i5)[2]).toNat:Int))) rfl rfl (P_u8int Try.underlying5 Try.underlying3 rfl) ?_
      refine L_p (.int .i64 (nD)) rfl rfl (P_int rfl rfl (congrArg (Option.map (Value.int .i64)) aJ)) ?_
      refine L_p (fPtr iA 2) rfl rfl (P_indexAddrA (α:=UInt8) (i:=(2:Int)) Try.underlying69 Try.sizeOf5 vB (OB.ptr a7) rfl (idx_vec (v:=i5) (i:=2) (by decide))) ?_
      refine L_ld (c:=.int .u8 (UInt8.toNat ((i5)[2]))) rfl rfl .plain (fun _ _ h=>⟨h.ch,fun b hb _=>h.below.block b hb⟩) bJ rfl ?_
      refine L_p (.int .i64 ((((i5)[2]).toNat:Int))) rfl rfl (P_u8int Try.underlying5 Try.underlying3 rfl) ?_
      refine L_p (.int .i64 (cC)) rfl rfl (P_int rfl rfl (congrArg (Option.map (Value.int .i64)) cJ)) ?_
      refine L_p (fPtr iA 3) rfl rfl (P_indexAddrA (α:=UInt8) (i:=(3:Int)) Try.underlying69 Try.sizeOf5 vB (OB.ptr a7) rfl (idx_vec (v:=i5) (i:=3) (by decide))) ?_
      refine L_ld (c:=.int .u8 (UInt8.toNat ((i5)[3]))) rfl rfl .plain (fun _ _ h=>⟨h.ch,fun b hb _=>h.below.block b hb⟩) dJ rfl ?_
      refine L_p (.int .i64 ((((i5)[3]).toNat:Int))) rfl rfl (P_u8int Try.underlying5 Try.underlying3 rfl) ?_
      refine L_p (.int .i64 (eC)) rfl rfl (P_int rfl rfl (congrArg (Option.map (Value.int .i64)) eJ)) ?_
      refine L_p (.int .i64 ((w64 (cC + eC)))) rfl rfl (P_int rfl rfl rfl) ?_
      refine L_do (φ:=fun v g w=>RV g.m w v7 v) rfl rfl .plain (fun g w hd=>Zp (g:=g) (vs:=[.int .i64 (nD),.int .i64 ((w64 (cC + eC)))]) en42 (.cons rfl (.cons rfl .nil)) (wk42  gJ) fun g' w' v hs hr=>⟨g',hs,hr⟩) (fun cD hv=>?_)
      obtain ⟨_,_,_,rq949⟩:=hv
      obtain ⟨zE,vF⟩:∃ v,v=(Value.agg (setCh [[.int .i64 0],[.int .i64 0],[.int .i64 0],[.int .i64 0,.int .i64 0]] [(0,.int .i64 (x8)),(2,.int .i64 (l5)),(3,cD)]).flatten.toArray):=⟨_,rfl⟩
      refine L_pur (c:=zE) rfl rfl .plain (fun _ _ hd=>vF ▸ P_build (vs:=[(0,.int .i64 (x8)),(2,.int .i64 (l5)),(3,cD)]) [[.int .i64 0],[.int .i64 0],[.int .i64 0],[.int .i64 0,.int .i64 0]] lay_87 rfl rfl (.cons rfl (.cons rfl (.cons rfl .nil))) ⟨⟨_,rfl,rfl⟩,⟨⟨_,rfl,rfl⟩,⟨⟨_,rfl,cells_size (word (A:=fun g w=>RV g.m w v7 cD) 18 rfl rfl (deps_of hd))⟩,trivial⟩⟩⟩) ?_
      refine L_do (φ:=fun v g w=>OB 2008 g w 87 (⟨0,0,0,⟨0,0⟩⟩:BoxShuttle) v) rfl rfl .plain (fun g w hd=>D_allocX (g:=g) 2008 (⟨0,0,0,⟨0,0⟩⟩:BoxShuttle) Try.zeroValue87 (fun m w=>⟨_,(rep_two rep_int (rep_two rep_int (rep_two rep_int (rep_two rep_int rep_int)))),rfl⟩) fun g' w' v hs b=>⟨g',hs,b⟩) (fun pA hv=>?_)
      clear hv
      refine L_nil fun nM nP hall=>?_
      have hs:=hall.1
      have hfr:=hfr.ext hs
      have j6:=j6.ext hs
      have u2_0_937:=u2_0_937.ext hs
      have u2_1_937:=u2_1_937.ext hs
      have u2_2_937:=u2_2_937.ext hs
      have x6:=x6.ext hs
      have u3_0_937:=u3_0_937.ext hs
      have u3_1_937:=u3_1_937.ext hs
      have u3_2_937:=u3_2_937.ext hs
      have t5:=t5.ext hs
      have b940:=b940.ext hs
      have oP:=(word_all (A:=fun g w=>RV g.m w v7 cD) 18 rfl hall)
      have oM:=(show RV _ _ (⟨x8,0,l5,v7⟩:BoxShuttle) zE from vF ▸ RV_build rfl (rep_pair (rfl) (rep_pair (rep_int) (rep_pair (rfl) (rep_last (RV.cells (word_all (A:=fun g w=>RV g.m w v7 cD) 18 rfl hall)))))))
      have b983:=(word_all (A:=fun g w=>OB 2008 g w 87 (⟨0,0,0,⟨0,0⟩⟩:BoxShuttle) pA) 20 rfl hall)
      clear hs hall
      refine Ze .plain rfl (D_storeOc (g:=nM) (v:=zE) Try.sizeOf87 rfl b983 rfl oM fun cF pP hs b984 cb=>?_)
      clear cb
      have hfr:=hfr.stp hs
      have j6:=j6.stp hs
      have u2_0_937:=u2_0_937.stp hs rfl
      have u2_1_937:=u2_1_937.stp hs rfl
      have u2_2_937:=u2_2_937.stp hs rfl
      have x6:=x6.stp hs rfl
      have u3_0_937:=u3_0_937.stp hs rfl
      have u3_1_937:=u3_1_937.stp hs rfl
      have u3_2_937:=u3_2_937.stp hs rfl
      have t5:=t5.stp hs rfl
      have b940:=b940.stp hs rfl
      refine Zb (Zd ?_)
      obtain ⟨qA,hx,h⟩:=bsome h
      refine E_join (fun e w=>∃ (g:Gh) ,Fr gI wI g w∧e 1=p1∧PT g.m w (x0:Race) p1∧e 2=p2∧OB 2002 g w 25 ((⟨[],[],[]⟩:BoxLoom):BoxLoom) p2∧OSF 2002 60200 0 g w 3 25 (((⟨[],[],[]⟩:BoxLoom)).Boxes) p2∧OSF 2002 60201 1 g w 3 25 (((⟨[],[],[]⟩:BoxLoom)).At) p2∧OSF 2002 60202 2 g w 87 25 (((⟨[],[],[]⟩:BoxLoom)).Shuttles) p2∧e 3=u3∧OB 2003 g w 25 (i3:BoxLoom) u3∧OSF 2003 3021 0 g w 3 25 ((i3).Boxes) u3∧OSF 2003 3041 1 g w 3 25 ((i3).At) u3∧OSF 2003 60302 2 g w 87 25 ((i3).Shuttles) u3∧e 4=a9∧OB 2004 g w 137 ((vset y6 l5 true):Vector Bool 8) a9∧e 5=.int .i64 (o0)∧e 8=pA∧OB 2008 g w 87 (qA:BoxShuttle) pA) (fun Q' hQ=>?_) (fun oN bO hR=>?_)
      ·replace h := hx
       clear hx
       refine Zf (Za (Zo yB rfl ?_))
       refine EL_p (fPtr u3 0) (Zc at_25_0 tB (OB.ptr t5)) rfl ?_
       refine Ze .plain rfl (D_loadFS (g:=cF) part_BoxLoom_0.1 Try.isAgg22 Try.sizeOf22 rfl t5 u3_0_937 fun iJ xF o1049=>?_)
       obtain ⟨oD,vE,h⟩:=bsome h
       refine EL_p (ePtr iJ (0:Int) 1) (Zh (α:=Int) Try.underlying22 Try.sizeOf3 rfl xF rfl vE) rfl ?_
       have jJ:=PT_idx xF vE
       refine Ze .plain rfl (D_load (g:=cF) Try.isAgg3 Try.sizeOf3 rfl jJ fun cO kJ=>?_)
       obtain rfl:=Zj.1 kJ
       refine EL_in (.bool ((decide (l5 ≥ oD)))) rfl rfl rfl rfl ?_
       refine Zb (Zd ?_)
       rcases Zt h with ⟨eD,h⟩ | ⟨eD,h⟩
       ·refine E_ct eD rfl ?_
        refine L_loadO (x:=.tmp 115) part_BoxLoom_0.1 Try.isAgg22 Try.sizeOf22 t5 fun yF zF dI=>?_
        obtain ⟨aC,xE,h⟩:=bsome h
        have lJ:=PT_idx zF xE
        refine Zs (x:=.tmp 117) Try.isAgg3 Try.sizeOf3 lJ fun dO mJ iI=>?_
        obtain rfl:=Zj.1 mJ
        refine E_drawB (a0:=((⟨x8,0,l5,v7⟩:BoxShuttle):BoxShuttle)) (a1:=((⟨x8,(1:Int),l5,v7⟩:BoxShuttle):BoxShuttle)) b984 (n:=9) [(7,(fun _ g w=>OB 2008 g w 87 ((⟨x8,(1:Int),l5,v7⟩:BoxShuttle):BoxShuttle) pA))] [0,1,2,3,4,5,6,7,8] rfl mixed (by kernel_rfl) (⟨fun _=>up_box,trivial⟩) ?_
        refine L_p (.int .i64 (l5)) rfl rfl (Zk yB) ?_
        refine L_p (fPtr u3 0) rfl rfl (Zc at_25_0 tB (OB.ptr t5)) ?_
        refine L_ld (c:=yF) rfl rfl .plain (fun _ _ h=>⟨h.1.ch,fun b hb ho=>h.1.block b hb (by rw [ho]; decide)⟩) dI rfl ?_
        refine L_p (ePtr yF (0:Int) 1) rfl rfl (Zh (α:=Int) Try.underlying22 Try.sizeOf3 rfl zF rfl xE) ?_
        refine L_ld (c:=.int .i64 (aC)) rfl rfl .plain (fun _ _ h=>h.1.ch) iI rfl ?_
        refine L_p (.int .i64 ((w64 (l5 - aC)))) rfl rfl (P_int rfl rfl rfl) ?_
        refine L_p (fPtr pA 1) rfl rfl (Zc at_87_1 rfl (OB.ptr b984)) ?_
        refine L_do (φ:=fun _ g w=>OB 2008 g w 87 ((⟨x8,(1:Int),l5,v7⟩:BoxShuttle):BoxShuttle) pA) rfl rfl .plain (fun g w hd=>D_storeR (g:=g) (by rfl) (by exact rfl) part_BoxShuttle_1 Try.sizeOf3 rfl hd.1.2 rfl (Zj.2 rfl)) (fun eO hv=>?_)
        clear hv
        refine L_p (fPtr pA 2) rfl rfl (Zc at_87_2 rfl (OB.ptr b984)) ?_
        refine L_nil fun nJ gO hall=>?_
        have hs:=hall.1.1
        have hfr:=hfr.stp hs
        have j6:=j6.stp hs
        have u2_0_937:=u2_0_937.stp hs rfl
        have u2_1_937:=u2_1_937.stp hs rfl
        have u2_2_937:=u2_2_937.stp hs rfl
        have x6:=x6.stp hs rfl
        have u3_0_937:=u3_0_937.stp hs rfl
        have u3_1_937:=u3_1_937.stp hs rfl
        have u3_2_937:=u3_2_937.stp hs rfl
        have t5:=t5.stp hs rfl
        have b940:=b940.stp hs rfl
        have b1095:=(word_all (A:=fun g w=>OB 2008 g w 87 ((⟨x8,(1:Int),l5,v7⟩:BoxShuttle):BoxShuttle) pA) 7 rfl hall)
        clear hs hall
        refine Ze .plain rfl (D_storeFc (g:=nJ) part_BoxShuttle_2 Try.sizeOf3 rfl b1095 rfl (Zj.2 rfl) fun oJ iO hs b1110 rst hos=>?_)
        clear rst hos
        have hfr:=hfr.stp hs
        have j6:=j6.stp hs
        have u2_0_937:=u2_0_937.stp hs rfl
        have u2_1_937:=u2_1_937.stp hs rfl
        have u2_2_937:=u2_2_937.stp hs rfl
        have x6:=x6.stp hs rfl
        have u3_0_937:=u3_0_937.stp hs rfl
        have u3_1_937:=u3_1_937.stp hs rfl
        have u3_2_937:=u3_2_937.stp hs rfl
        have t5:=t5.stp hs rfl
        have b940:=b940.stp hs rfl
        refine Zb ?_
        obtain rfl:=sinj h
        exact hQ _ _ ⟨oJ,hfr,rE,j6,sE,x6,u2_0_937,u2_1_937,u2_2_937,tB,t5,u3_0_937,u3_1_937,u3_2_937,bD,b940,uE,rfl,b1110⟩
       ·refine E_cf eD rfl ?_
        refine Zu ?_
        obtain rfl:=sinj h
        exact hQ _ _ ⟨cF,hfr,rE,j6,sE,x6,u2_0_937,u2_1_937,u2_2_937,tB,t5,u3_0_937,u3_1_937,u3_2_937,bD,b940,uE,rfl,b984⟩
      ·clear hx
       obtain ⟨aE,hfr,dG,k8,eG,l8,u2_0_1111,u2_1_1111,u2_2_1111,zB,m7,u3_0_1111,u3_1_1111,u3_2_1111,gG,m8,hG,iG,jG⟩:=hR
       refine Za (EL_p (fPtr u3 2) (Zc at_25_2 zB (OB.ptr m7)) rfl ?_)
       refine Ze .plain rfl (D_loadFS (g:=aE) part_BoxLoom_2.1 Try.isAgg23 Try.sizeOf23 rfl m7 u3_2_1111 fun jO bE o1113=>?_)
       refine Ze .plain rfl (D_loadO (g:=aE) Try.isAgg87 Try.sizeOf87 iG jG fun pJ qJ=>?_)
       refine Ze .plain rfl (D_buildSlice (g:=aE) 3125 (xs:=([qA]:List BoxShuttle)) (vs:=[pJ]) Try.underlying23 Try.sizeOf87 Try.zeroValue87 rfl rfl (.cons rfl .nil) (RVs.cons qJ RVs.nil) rfl rfl fun rJ kO lO hs o1115 sJ hxt hfl=>?_)
       have hfr:=hfr.stp hs
       have k8:=k8.stp hs
       have u2_0_1111:=u2_0_1111.stp hs rfl
       have u2_1_1111:=u2_1_1111.stp hs rfl
       have u2_2_1111:=u2_2_1111.stp hs rfl
       have l8:=l8.stp hs rfl
       have u3_0_1111:=u3_0_1111.stp hs rfl
       have u3_1_1111:=u3_1_1111.stp hs rfl
       have m7:=m7.stp hs rfl
       have m8:=m8.stp hs rfl
       have bE:=bE.stp hs
       have o1113:=o1113.stp hs rfl
       obtain ⟨sD,jI,h⟩:=bsome h
       refine Ze .plain rfl (D_append (g:=rJ) (i:=60302) Try.underlying23 info_87 rfl rfl o1113 bE rfl sJ jI fun tJ mO nO hs o1116 aG _=>?_)
       have hfr:=hfr.stp hs
       have k8:=k8.stp hs
       have u2_0_1111:=u2_0_1111.stp hs rfl
       have u2_1_1111:=u2_1_1111.stp hs rfl
       have u2_2_1111:=u2_2_1111.stp hs rfl
       have l8:=l8.stp hs rfl
       have u3_0_1111:=u3_0_1111.stp hs rfl
       have u3_1_1111:=u3_1_1111.stp hs rfl
       have m7:=m7.stp hs rfl
       have m8:=m8.stp hs rfl
       refine EL_p (fPtr u3 2) (Zc at_25_2 zB (OB.ptr m7)) rfl ?_
       refine Ze .plain rfl (D_storeFc (g:=tJ) part_BoxLoom_2 Try.sizeOf23 rfl m7 rfl aG fun uJ oO hs b1119 rst hos=>?_)
       have u3_0_1111:=u3_0_1111.rest hs rst
       have u3_1_1111:=u3_1_1111.rest hs rst
       have kG:=hos _ _ 60302 87 (sD:List BoxShuttle) (rv_cells1 aG) rfl o1116
       clear rst hos
       have hfr:=hfr.stp hs
       have k8:=k8.stp hs
       have u2_0_1111:=u2_0_1111.stp hs rfl
       have u2_1_1111:=u2_1_1111.stp hs rfl
       have u2_2_1111:=u2_2_1111.stp hs rfl
       have l8:=l8.stp hs rfl
       have m8:=m8.stp hs rfl
       refine Zb (blk_n ?_)
       obtain ⟨rfl,rfl⟩:=pairs2 h
       exact hQ _ _ ⟨uJ,hfr,dG,k8,eG,l8,u2_0_1111,u2_1_1111,u2_2_1111,zB,b1119,u3_0_1111,u3_1_1111,kG,gG,m8,hG⟩
   ·clear hx
    obtain ⟨vJ,hfr,lG,mG,nG,oG,u2_0_1120,u2_1_1120,u2_2_1120,pG,qG,u3_0_1120,u3_1_1120,u3_2_1120,rG,sG,tG⟩:=hR
    refine Za (Zo tG rfl ?_)
    refine EL_in (.int .i64 ((w64 (o0 + (1:Int))))) rfl rfl rfl rfl ?_
    refine Zg (.int .i64 ((w64 (o0 + (1:Int))))) rfl rfl ?_
    exact Zb (Zd (lI (i8,rA,(w64 (o0 + (1:Int)))) _ _ ⟨vJ,hfr,lG,mG,nG,oG,u2_0_1120,u2_1_1120,u2_2_1120,pG,qG,u3_0_1120,u3_1_1120,u3_2_1120,rG,sG,rfl⟩ h))
 ·clear hx
  obtain ⟨bG,hfr,kD,uG,u2_0_1121,u2_1_1121,u2_2_1121,vG,xG,u3_0_1121,u3_1_1121,u3_2_1121⟩:=hR
  refine Zf (Za (Ze .plain rfl (D_loadO (g:=bG) Try.isAgg25 Try.sizeOf25 vG xG fun xJ yJ=>?_)))
  refine Ze .plain rfl (D_storeOc (g:=bG) (v:=xJ) Try.sizeOf25 kD uG rfl yJ fun pO qO hs b1123 cb=>?_)
  clear cb
  have hfr:=hfr.stp hs
  refine Zb (Zd (E_ret ?_))
  obtain rfl:=sinj h
  obtain ⟨ad1124,cv1124,hp1124,kI,cr1124⟩:=ob_read Try.isAgg25 Try.sizeOf25 b1123
  exact endm_c rfl rfl ((show _=p2 from kD).trans hp1124) kI ⟨_,hfr,cr1124⟩
def f39 (x0:Race) (x1:BoxLoom) (x2:Int):Option ((List BoxPick) × (List Int) × (Vector (Vector Int 4) 2) × Int):=
 (f45 x1).bind fun y6=>
 (idx ((x1).At) (0:Int)).bind fun uC=>
 (idx ((x1).At) (1:Int)).bind fun vC=>
 Option.bind (α:=(List BoxPick) × (List Int) × (Vector (Vector Int 4) 2) × Int) (
  lp (σ:=(List BoxPick) × (List Int) × (Vector (Vector Int 4) 2) × Int × (Vector Int 2) × Int) (fun vG (i6,k8,i7,n8,o0,l5)=>
   jn (σ:=Unit) (fun _=>
    Option.bind (α:=(List BoxPick) × (List Int) × (Vector (Vector Int 4) 2) × Int × (Vector Int 2)) (
     (idx ((x0).Picks) l5).bind fun cE=>
     (idx ((x1).Boxes) (0:Int)).bind fun vF=>
     (rem64 ((cE).toNat:Int) vF).bind fun dE=>
     (idx ((x0).Picks) l5).bind fun eE=>
     (quo64 ((eE).toNat:Int) (8:Int)).bind fun xF=>
     (idx ((x1).Boxes) (1:Int)).bind fun yF=>
     (rem64 xF yF).bind fun gE=>
     (f49 dE gE).bind fun i3=>
     (idx (i7).toList (0:Int)).bind fun xG=>
     (idx (xG).toList (i3).Left).bind fun r8=>
     (idx (i7).toList (1:Int)).bind fun yG=>
     (idx (yG).toList (i3).Right).bind fun l8=>
     jn (σ:=Unit) (fun _=>
      (idx (i7).toList (0:Int)).bind fun zG=>
      (idx (zG).toList (i3).Left).bind fun xK=>
      (idx ((vmod i7 ((0:Int)) (fun b=>(vset b ((i3).Left) l8)))).toList (1:Int)).bind fun aH=>
      (idx (aH).toList (i3).Right).bind fun yK=>
      (apnd 16 i6 (([i3]:List BoxPick))).bind fun bH=>
      (apnd 8 k8 (([(w64 ((w64 (r8 + l8)) - (1:Int)))]:List Int))).bind fun cH=>
      some (bH,cH,(vmod ((vmod i7 ((0:Int)) (fun b=>(vset b ((i3).Left) l8)))) ((1:Int)) (fun b=>(vset b ((i3).Right) r8))),(w64 (n8 + (w64 ((w64 ((w64 ((max64 (o0)[0] (i3).Left) - (min64 (o0)[0] (i3).Left))) + (max64 (o0)[1] (i3).Right))) - (min64 (o0)[1] (i3).Right))))),(⟨List.toArray [(i3).Left,(i3).Right],rfl⟩:Vector Int 2))
      ) fun dH=>
     bif ((r8 == (0 : Int)) == (l8 == (0 : Int))) then
      some (i6,k8,i7,n8,o0)
     else
      dH ()
     ) fun (iA,jA,yB,zB,yA)=>
    vG (iA,jA,yB,zB,yA,(w64 (l5 + (1:Int))))
    ) fun gH=>
   Option.bind (α:=Bool) (
    bif (decide (l5 < (((x0).Picks).length : Int))) then
     some ((decide (((i6).length:Int) < x2)))
    else
     some (false)
    ) fun bA=>
   bif bA then
    gH ()
   else
    some (i6,k8,i7,n8)
   ) big ([],[],y6,(0:Int),(⟨List.toArray [uC,vC],rfl⟩:Vector Int 2),(0:Int))
  ) fun (aC,cC,aD,gA)=>
 some (aC,cC,aD,gA)
theorem en39:Enters Try.prog 39:=enters_of Try.func39 (by kernel_rfl) rfl
theorem wk39 {gI:Gh} {wI:World} {x0:Race} {x1:BoxLoom} {x2:Int} {up0:Value} (rp0:RV gI.m wI x0 up0) {up1:Value} (rp1:RV gI.m wI x1 up1) {r:(List BoxPick) × (List Int) × (Vector (Vector Int 4) 2) × Int} (h:f39 x0 x1 x2=some r):Fn Try.prog 39 #[up0,up1,.int .i64 (x2)] gI wI (fun m w v=>∃ y0 y1 y2 y3,v=.tuple #[y0,y1,y2,y3]∧RV m w (r.1) y0∧RV m w (r.2.1) y1∧RV m w (r.2.2.1) y2∧y3=.int .i64 (r.2.2.2)):=by
 unfold f39 at h
 refine fn_of_E Try.func39 rfl (Nat.le_of_ble_eq_true rfl) fun g0 hm hfr=>?_
 have rp0:RV g0.m wI x0 up0:=hm ▸ rp0
 have rp1:RV g0.m wI x1 up1:=hm ▸ rp1
 show E _ 133 none _ _ _ _ _
 refine Zf (Za (Ze .plain rfl (D_box (g:=g0) rfl rp0 fun g1 w1 p1 hs q1=>?_)))
 have hfr:=hfr.ext hs
 have rp0:=rp0.ext hs
 have rp1:=rp1.ext hs
 refine Ze .plain rfl (D_box (g:=g1) rfl rp1 fun g2 w2 p2 hs q2=>?_)
 have hfr:=hfr.ext hs
 have rp0:=rp0.ext hs
 have rp1:=rp1.ext hs
 have q1:=q1.ext hs
 refine Zg (.slice none 0 0) rfl rfl ?_
 refine Zg (.slice none 0 0) rfl rfl ?_
 refine Ze .plain rfl (D_allocOc (g:=g2) 2008 ((⟨List.toArray [(⟨List.toArray [0,0,0,0],rfl⟩:Vector Int 4),(⟨List.toArray [0,0,0,0],rfl⟩:Vector Int 4)],rfl⟩:Vector (Vector Int 4) 2):Vector (Vector Int 4) 2) Try.zeroValue76 (fun m w=>⟨_,(rep_vec (flat_chunk (rep_vec (flat_chunk rep_int (flat_chunk rep_int (flat_chunk rep_int (flat_chunk rep_int flat_nil)))) rfl) (flat_chunk (rep_vec (flat_chunk rep_int (flat_chunk rep_int (flat_chunk rep_int (flat_chunk rep_int flat_nil)))) rfl) flat_nil)) rfl),rfl⟩) fun g3 w3 p3 hs b3 cb=>?_)
 have hfr:=hfr.stp hs
 have rp0:=rp0.stp hs
 have rp1:=rp1.stp hs
 have q1:=q1.stp hs
 have q2:=q2.stp hs
 clear cb
 refine Zg (.int .i64 (0)) rfl rfl ?_
 refine Zb (Zd (Zf (Za (Ze .plain rfl (D_load (g:=g3) Try.isAgg25 Try.sizeOf25 rfl q2 fun v4 r4=>?_)))))
 obtain ⟨y6,xM,h⟩:=bsome h
 refine Ze .plain rfl (Zp (g:=g3) (vs:=[v4]) en45 (.cons rfl .nil) (wk45 r4 xM) fun g5 w5_ v5 hs hr=>?_)
 have hfr:=hfr.ext hs
 have rp0:=rp0.ext hs
 have rp1:=rp1.ext hs
 have q1:=q1.ext hs
 have q2:=q2.ext hs
 have b3:=b3.ext hs
 have r4:=r4.ext hs
 have r5:=hr
 refine Ze .plain rfl (D_storeOc (g:=g5) (v:=v5) Try.sizeOf76 rfl b3 rfl r5 fun g7 w7 hs b7 cb=>?_)
 clear cb
 have hfr:=hfr.stp hs
 have rp0:=rp0.stp hs
 have rp1:=rp1.stp hs
 have q1:=q1.stp hs
 have q2:=q2.stp hs
 have r4:=r4.stp hs
 have r5:=r5.stp hs
 refine Zb (Zd (Zf ?_))
 have q8:=Zm (part_BoxLoom_1).1 q2
 refine Zs (x:=.tmp 17) Try.isAgg22 Try.sizeOf22 q8 fun v9 r9 yM=>?_
 obtain ⟨uC,iH,h⟩:=bsome h
 have kE:=PT_idx r9 iH
 refine Zs (x:=.tmp 19) Try.isAgg3 Try.sizeOf3 kE fun jP zM hl12=>?_
 obtain rfl:=Zj.1 zM
 have lE:=Zm (part_BoxLoom_1).1 q2
 refine Zs (x:=.tmp 21) Try.isAgg22 Try.sizeOf22 lE fun uK tD zK=>?_
 obtain ⟨vC,jH,h⟩:=bsome h
 have mE:=PT_idx tD jH
 refine Zs (x:=.tmp 23) Try.isAgg3 Try.sizeOf3 mE fun kP bN aL=>?_
 obtain rfl:=Zj.1 bN
 have uD:RV g7.m w7 (⟨List.toArray [uC,vC],rfl⟩:Vector Int 2) (.agg (setCh [[.int .i64 0],[.int .i64 0]] [(0,.int .i64 (uC)),(1,.int .i64 (vC))]).flatten.toArray):=RV_build rfl (rep_vec (flat_chunk rfl (flat_chunk rfl flat_nil)) rfl)
 generalize bL:(Value.agg (setCh [[.int .i64 0],[.int .i64 0]] [(0,.int .i64 (uC)),(1,.int .i64 (vC))]).flatten.toArray)=vK at uD
 refine E_drawL (g:=g7) (n:=10) [(9,(fun v g w=>OB 2010 g w 138 ((⟨List.toArray [0,0],rfl⟩:Vector Int 2):Vector Int 2) v))] [0,1,2,3,4,5,6,7,8,9] rfl mixed (by kernel_rfl) (⟨fun _=>up_ob,trivial⟩) ?_
 refine L_p (fPtr p2 1) rfl rfl (Zc at_25_1 rfl (PT.ptr q2)) ?_
 refine L_ld (c:=v9) rfl rfl .plain (fun _ _ h=>h.ch) yM rfl ?_
 refine L_p (ePtr v9 (0:Int) 1) rfl rfl (Zh (α:=Int) Try.underlying22 Try.sizeOf3 rfl r9 rfl iH) ?_
 refine L_ld (c:=.int .i64 (uC)) rfl rfl .plain (fun _ _ h=>h.ch) hl12 rfl ?_
 refine L_p (fPtr p2 1) rfl rfl (Zc at_25_1 rfl (PT.ptr q2)) ?_
 refine L_ld (c:=uK) rfl rfl .plain (fun _ _ h=>h.ch) zK rfl ?_
 refine L_p (ePtr uK (1:Int) 1) rfl rfl (Zh (α:=Int) Try.underlying22 Try.sizeOf3 rfl tD rfl jH) ?_
 refine L_ld (c:=.int .i64 (vC)) rfl rfl .plain (fun _ _ h=>h.ch) aL rfl ?_
 refine L_p vK rfl rfl (bL ▸ P_buildA (vs:=[(0,.int .i64 (uC)),(1,.int .i64 (vC))]) [[.int .i64 0],[.int .i64 0]] Try.underlying138 layA_138 szA_3 rfl (by simp) (.cons rfl (.cons rfl .nil)) ⟨⟨_,rfl,rfl⟩,⟨⟨_,rfl,rfl⟩,trivial⟩⟩) ?_
 refine L_do (φ:=fun v g w=>OB 2010 g w 138 ((⟨List.toArray [0,0],rfl⟩:Vector Int 2):Vector Int 2) v) rfl rfl .plain (fun g w hd=>D_allocX (g:=g) 2010 ((⟨List.toArray [0,0],rfl⟩:Vector Int 2):Vector Int 2) Try.zeroValue138 (fun m w=>⟨_,(rep_vec (flat_chunk rep_int (flat_chunk rep_int flat_nil)) rfl),rfl⟩) fun g' w' v hs b=>⟨g',hs,b⟩) (fun u9 hv=>?_)
 clear hv
 refine L_nil fun cN lP hall=>?_
 have hs:=hall.1
 have hfr:=hfr.ext hs
 have rp0:=rp0.ext hs
 have rp1:=rp1.ext hs
 have q1:=q1.ext hs
 have q2:=q2.ext hs
 have b7:=b7.ext hs
 have r4:=r4.ext hs
 have r5:=r5.ext hs
 have q8:=q8.ext hs
 have r9:=r9.ext hs
 have kE:=kE.ext hs
 have lE:=lE.ext hs
 have tD:=tD.ext hs
 have mE:=mE.ext hs
 have uD:=uD.ext hs
 have b41:=(word_all (A:=fun g w=>OB 2010 g w 138 ((⟨List.toArray [0,0],rfl⟩:Vector Int 2):Vector Int 2) u9) 9 rfl hall)
 clear hs hall
 refine Ze .plain rfl (D_storeOc (g:=cN) (v:=vK) Try.sizeOf138 rfl b41 rfl uD fun dN mP hs b42 cb=>?_)
 clear cb
 have hfr:=hfr.stp hs
 have rp0:=rp0.stp hs
 have rp1:=rp1.stp hs
 have q1:=q1.stp hs
 have q2:=q2.stp hs
 have b7:=b7.stp hs rfl
 have r4:=r4.stp hs
 have r5:=r5.stp hs
 have q8:=q8.stp hs
 have r9:=r9.stp hs
 have kE:=kE.stp hs
 have lE:=lE.stp hs
 have tD:=tD.stp hs
 have mE:=mE.stp hs
 have uD:=uD.stp hs
 refine Zb (Zd ?_)
 obtain ⟨⟨aC,cC,aD,gA⟩,hx,h⟩:=bsome h
 refine E_join (fun e w=>∃ (g:Gh) (v6 v7:Value),Fr gI wI g w∧e 6=v6∧RV g.m w (aC:List BoxPick) v6∧OS 1006 g w 83 (aC:List BoxPick) v6∧e 7=v7∧RV g.m w (cC:List Int) v7∧OS 1007 g w 3 (cC:List Int) v7∧e 8=p3∧OB 2008 g w 76 (aD:Vector (Vector Int 4) 2) p3∧e 9=.int .i64 (gA)) (fun Q' hQ=>?_) (fun iN oN hR=>?_)
 ·replace h := hx
  clear hx
  refine Zf (Za (Zg (.int .i64 (0)) rfl rfl ?_))
  refine Zb (Zd (Zr ?_))
  refine E_lp h (fun (s:(List BoxPick) × (List Int) × (Vector (Vector Int 4) 2) × Int × (Vector Int 2) × Int) e w=>∃ (g:Gh) (v6 v7:Value),Fr gI wI g w∧e 2=.int .i64 (x2)∧e 3=p1∧PT g.m w (x0:Race) p1∧e 4=p2∧PT g.m w (x1:BoxLoom) p2∧e 6=v6∧RV g.m w (s.1:List BoxPick) v6∧OS 1006 g w 83 (s.1:List BoxPick) v6∧e 7=v7∧RV g.m w (s.2.1:List Int) v7∧OS 1007 g w 3 (s.2.1:List Int) v7∧e 8=p3∧OB 2008 g w 76 (s.2.2.1:Vector (Vector Int 4) 2) p3∧e 9=.int .i64 (s.2.2.2.1)∧e 10=u9∧OB 2010 g w 138 (s.2.2.2.2.1:Vector Int 2) u9∧e 11=.int .i64 (s.2.2.2.2.2)) ⟨dN,(.slice none 0 0),(.slice none 0 0),hfr,rfl,rfl,q1,rfl,q2,rfl,RV_nil,OS.nil,rfl,RV_nil,OS.nil,rfl,b7,rfl,rfl,b42,rfl⟩ (fun X397 vG nJ=>?_)
  rintro ⟨i6,k8,i7,n8,o0,l5⟩ jN pN ⟨zF,x6,j7,hfr,bD,cD,eC,nE,oE,eD,gD,rE,sE,tE,uE,vE,xE,yE,vD,xD,rC⟩ h
  refine Zq h (fun (s:Unit) e w=>∃ (g:Gh) ,Fr gI wI g w∧e 2=.int .i64 (x2)∧e 3=p1∧PT g.m w (x0:Race) p1∧e 4=p2∧PT g.m w (x1:BoxLoom) p2∧e 6=x6∧RV g.m w (i6:List BoxPick) x6∧OS 1006 g w 83 (i6:List BoxPick) x6∧e 7=j7∧RV g.m w (k8:List Int) j7∧OS 1007 g w 3 (k8:List Int) j7∧e 8=p3∧OB 2008 g w 76 (i7:Vector (Vector Int 4) 2) p3∧e 9=.int .i64 (n8)∧e 10=u9∧OB 2010 g w 138 (o0:Vector Int 2) u9∧e 11=.int .i64 (l5)) (fun X407 gH oJ h=>?_) ?_
  ·obtain ⟨bA, hx, h⟩ := bsome h
   refine E_join (fun e w=>∃ (g:Gh) ,Fr gI wI g w∧e 2=.int .i64 (x2)∧e 3=p1∧PT g.m w (x0:Race) p1∧e 4=p2∧PT g.m w (x1:BoxLoom) p2∧e 6=x6∧RV g.m w (i6:List BoxPick) x6∧OS 1006 g w 83 (i6:List BoxPick) x6∧e 7=j7∧RV g.m w (k8:List Int) j7∧OS 1007 g w 3 (k8:List Int) j7∧e 8=p3∧OB 2008 g w 76 (i7:Vector (Vector Int 4) 2) p3∧e 9=.int .i64 (n8)∧e 10=u9∧OB 2010 g w 138 (o0:Vector Int 2) u9∧e 11=.int .i64 (l5)∧e 36=.bool (bA)) (fun Q' hQ=>?_) (fun kN qN hR=>?_)
   ·replace h := hx
    clear hx
    refine Za (Zo rC rfl ?_)
    refine EL_p (fPtr p1 5) (Zc at_73_2 cD (PT.ptr eC)) rfl ?_
    have cL:=Zm (part_Race_2).1 eC
    refine Ze .plain rfl (D_load (g:=zF) Try.isAgg71 Try.sizeOf71 rfl cL fun rN dL=>?_)
    refine EL_p (.int .i64 (((x0).Picks).length:Int)) (P_len Try.underlying71 rfl dL) rfl ?_
    refine EL_p (.bool ((decide (l5 < (((x0).Picks).length:Int))))) (P_int rfl rfl rfl) rfl ?_
    refine EL_p (.bool ((decide (l5 < (((x0).Picks).length:Int))))) (Zk rfl) rfl ?_
    rcases Zt h with ⟨l9,h⟩ | ⟨l9,h⟩
    ·refine EL_y x6 (Zk eD) rfl rfl l9 rfl ?_
     refine EL_y (.int .i64 ((i6).length:Int)) (P_len Try.underlying30 rfl gD) rfl rfl l9 rfl ?_
     refine EL_y (.int .i64 (x2)) (Zk bD) rfl rfl l9 rfl ?_
     refine EL_y (.bool ((decide (((i6).length:Int) < x2)))) (P_int rfl rfl rfl) rfl rfl l9 rfl ?_
     refine EL_p (.bool ((decide (((i6).length:Int) < x2)))) (Zl (b:=(decide (l5 < (((x0).Picks).length:Int)))) rfl (pick_t l9 rfl)) rfl ?_
     refine Zb ?_
     obtain rfl:=sinj h
     exact hQ _ _ ⟨zF,hfr,bD,cD,eC,nE,oE,eD,gD,rE,sE,tE,uE,vE,xE,yE,vD,xD,rC,rfl⟩
    ·refine EL_s rfl rfl l9 rfl rfl ?_
     iterate 3 refine EL_s rfl rfl l9 rfl rfl ?_
     refine EL_p (.bool false) (Zl (b:=(decide (l5 < (((x0).Picks).length:Int)))) rfl (pick_f l9 rfl)) rfl ?_
     refine Zb ?_
     obtain rfl:=sinj h
     exact hQ _ _ ⟨zF,hfr,bD,cD,eC,nE,oE,eD,gD,rE,sE,tE,uE,vE,xE,yE,vD,xD,rC,rfl⟩
   ·clear hx
    obtain ⟨kH,hfr,lH,mH,nH,oH,pH,zE,cF,dF,eF,iF,nF,oF,pF,qF,oG,pG,qG,yD⟩:=hR
    rcases Zt h with ⟨iE,h⟩ | ⟨iE,h⟩
    ·refine E_cond_true (Eq.trans (show ev _ _ = .bool (bA) from yD) (congrArg Value.bool iE)) ?_
     exact Zu (Zd (oJ () _ _ ⟨kH,hfr,lH,mH,nH,oH,pH,zE,cF,dF,eF,iF,nF,oF,pF,qF,oG,pG,qG⟩ h))
    ·refine E_cond_false (Eq.trans (show ev _ _ = .bool (bA) from yD) (congrArg Value.bool iE)) ?_
     refine E_exit ?_
     refine thn_e ?_
     refine thn_e ?_
     refine blk_hit ?_
     obtain ⟨rfl,rfl,rfl,rfl⟩:=pairs4 h
     exact hQ _ _ ⟨kH,(x6),(j7),hfr,zE,cF,dF,eF,iF,nF,oF,pF,qF⟩
  ·rintro _ lN sN ⟨eL, hfr, rF, iC, a7, lC, d7, sF, v8, x8, tF, a9, d9, mC, j6, uF, zD, m8, aB⟩ h
   obtain ⟨⟨iA,jA,yB,zB,yA⟩,hx,h⟩:=bsome h
   refine E_join (fun e w=>∃ (g:Gh) (v6 v7:Value),Fr gI wI g w∧e 2=.int .i64 (x2)∧e 3=p1∧PT g.m w (x0:Race) p1∧e 4=p2∧PT g.m w (x1:BoxLoom) p2∧e 6=v6∧RV g.m w (iA:List BoxPick) v6∧OS 1006 g w 83 (iA:List BoxPick) v6∧e 7=v7∧RV g.m w (jA:List Int) v7∧OS 1007 g w 3 (jA:List Int) v7∧e 8=p3∧OB 2008 g w 76 (yB:Vector (Vector Int 4) 2) p3∧e 9=.int .i64 (zB)∧e 10=u9∧OB 2010 g w 138 (yA:Vector Int 2) u9∧e 11=.int .i64 (l5)) (fun Q' hQ=>?_) (fun mN tN hR=>?_)
   ·replace h := hx
    clear hx
    refine Zr ?_
    refine Zf ?_
    have dB:=Zm (part_Race_2).1 a7
    refine Zs (x:=.tmp 39) Try.isAgg71 Try.sizeOf71 dB fun qH mA pJ=>?_
    obtain ⟨cE,bG,h⟩:=bsome h
    have iB:=PT_idx mA bG
    refine Zs (x:=.tmp 42) Try.isAgg5 Try.sizeOf5 iB fun uN gL qJ=>?_
    obtain rfl:=RV_u8.1 gL
    have jB:=Zm (part_BoxLoom_0).1 d7
    refine Zs (x:=.tmp 45) Try.isAgg22 Try.sizeOf22 jB fun sH pA rJ=>?_
    obtain ⟨vF,cG,h⟩:=bsome h
    have lB:=PT_idx pA cG
    refine Zs (x:=.tmp 47) Try.isAgg3 Try.sizeOf3 lB fun vN iL sJ=>?_
    obtain rfl:=Zj.1 iL
    obtain ⟨dE,tJ,h⟩:=bsome h
    have mB:=Zm (part_Race_2).1 a7
    refine Zs (x:=.tmp 50) Try.isAgg71 Try.sizeOf71 mB fun tH qA uJ=>?_
    obtain ⟨eE,dG,h⟩:=bsome h
    have nB:=PT_idx qA dG
    refine Zs (x:=.tmp 53) Try.isAgg5 Try.sizeOf5 nB fun xN jL vJ=>?_
    obtain rfl:=RV_u8.1 jL
    obtain ⟨xF,xJ,h⟩:=bsome h
    have oB:=Zm (part_BoxLoom_0).1 d7
    refine Zs (x:=.tmp 57) Try.isAgg22 Try.sizeOf22 oB fun uH rA yJ=>?_
    obtain ⟨yF,eG,h⟩:=bsome h
    have tB:=PT_idx rA eG
    refine Zs (x:=.tmp 59) Try.isAgg3 Try.sizeOf3 tB fun yN lL zJ=>?_
    obtain rfl:=Zj.1 lL
    obtain ⟨gE,aK,h⟩:=bsome h
    obtain ⟨i3,bK,h⟩:=bsome h
    refine E_drawL (g:=eL) (n:=25) [(23,(fun v g w=>RV g.m w i3 v)),(24,(fun v g w=>OB 2012 g w 83 (⟨0,0⟩:BoxPick) v))] [0,1,2,3,4,5,6,7,8,9,10,11,12,13,14,15,16,17,18,19,20,21,22,23,24] rfl mixed (by kernel_rfl) (⟨fun _=>up_rv,fun _=>up_ob,trivial⟩) ?_
    refine L_p (fPtr p1 5) rfl rfl (Zc at_73_2 iC (PT.ptr a7)) ?_
    refine L_ld (c:=qH) rfl rfl .plain (fun _ _ h=>h.ch) pJ rfl ?_
    refine L_p (.int .i64 (l5)) rfl rfl (Zk aB) ?_
    refine L_p (ePtr qH l5 1) rfl rfl (Zh (α:=UInt8) Try.underlying71 Try.sizeOf5 rfl mA rfl bG) ?_
    refine L_ld (c:=.int .u8 (UInt8.toNat (cE))) rfl rfl .plain (fun _ _ h=>h.ch) qJ rfl ?_
    refine L_p (.int .i64 (((cE).toNat:Int))) rfl rfl (P_u8int Try.underlying5 Try.underlying3 rfl) ?_
    refine L_p (fPtr p2 0) rfl rfl (Zc at_25_0 lC (PT.ptr d7)) ?_
    refine L_ld (c:=sH) rfl rfl .plain (fun _ _ h=>h.ch) rJ rfl ?_
    refine L_p (ePtr sH (0:Int) 1) rfl rfl (Zh (α:=Int) Try.underlying22 Try.sizeOf3 rfl pA rfl cG) ?_
    refine L_ld (c:=.int .i64 (vF)) rfl rfl .plain (fun _ _ h=>h.ch) sJ rfl ?_
    refine L_p (.int .i64 (dE)) rfl rfl (P_int rfl rfl (congrArg (Option.map (Value.int .i64)) tJ)) ?_
    refine L_p (fPtr p1 5) rfl rfl (Zc at_73_2 iC (PT.ptr a7)) ?_
    refine L_ld (c:=tH) rfl rfl .plain (fun _ _ h=>h.ch) uJ rfl ?_
    refine L_p (.int .i64 (l5)) rfl rfl (Zk aB) ?_
    refine L_p (ePtr tH l5 1) rfl rfl (Zh (α:=UInt8) Try.underlying71 Try.sizeOf5 rfl qA rfl dG) ?_
    refine L_ld (c:=.int .u8 (UInt8.toNat (eE))) rfl rfl .plain (fun _ _ h=>h.ch) vJ rfl ?_
    refine L_p (.int .i64 (((eE).toNat:Int))) rfl rfl (P_u8int Try.underlying5 Try.underlying3 rfl) ?_
    refine L_p (.int .i64 (xF)) rfl rfl (P_int rfl rfl (congrArg (Option.map (Value.int .i64)) xJ)) ?_
    refine L_p (fPtr p2 0) rfl rfl (Zc at_25_0 lC (PT.ptr d7)) ?_
    refine L_ld (c:=uH) rfl rfl .plain (fun _ _ h=>h.ch) yJ rfl ?_
    refine L_p (ePtr uH (1:Int) 1) rfl rfl (Zh (α:=Int) Try.underlying22 Try.sizeOf3 rfl rA rfl eG) ?_
    refine L_ld (c:=.int .i64 (yF)) rfl rfl .plain (fun _ _ h=>h.ch) zJ rfl ?_
    refine L_p (.int .i64 (gE)) rfl rfl (P_int rfl rfl (congrArg (Option.map (Value.int .i64)) aK)) ?_
    refine L_do (φ:=fun v g w=>RV g.m w i3 v) rfl rfl .plain (fun g w hd=>Zp (g:=g) (vs:=[.int .i64 (dE),.int .i64 (gE)]) en49 (.cons rfl (.cons rfl .nil)) (wk49  bK) fun g' w' v hs hr=>⟨g',hs,hr⟩) (fun xH hv=>?_)
    obtain ⟨_,_,_,rq606⟩:=hv
    refine L_do (φ:=fun v g w=>OB 2012 g w 83 (⟨0,0⟩:BoxPick) v) rfl rfl .plain (fun g w hd=>D_allocX (g:=g) 2012 (⟨0,0⟩:BoxPick) Try.zeroValue83 (fun m w=>⟨_,(rep_two rep_int rep_int),rfl⟩) fun g' w' v hs b=>⟨g',hs,b⟩) (fun t8 hv=>?_)
    clear hv
    refine L_nil fun mL zN hall=>?_
    have hs:=hall.1
    have hfr:=hfr.ext hs
    have a7:=a7.ext hs
    have d7:=d7.ext hs
    have v8:=v8.ext hs
    have x8:=x8.ext hs
    have a9:=a9.ext hs
    have d9:=d9.ext hs
    have j6:=j6.ext hs
    have m8:=m8.ext hs
    have dB:=dB.ext hs
    have mA:=mA.ext hs
    have iB:=iB.ext hs
    have jB:=jB.ext hs
    have pA:=pA.ext hs
    have lB:=lB.ext hs
    have mB:=mB.ext hs
    have qA:=qA.ext hs
    have nB:=nB.ext hs
    have oB:=oB.ext hs
    have rA:=rA.ext hs
    have tB:=tB.ext hs
    have iD:=(word_all (A:=fun g w=>RV g.m w i3 xH) 23 rfl hall)
    have b643:=(word_all (A:=fun g w=>OB 2012 g w 83 (⟨0,0⟩:BoxPick) t8) 24 rfl hall)
    clear hs hall
    refine Ze .plain rfl (D_storeOc (g:=mL) (v:=xH) Try.sizeOf83 rfl b643 rfl iD fun nL aO hs b644 cb=>?_)
    clear cb
    have hfr:=hfr.stp hs
    have a7:=a7.stp hs
    have d7:=d7.stp hs
    have v8:=v8.stp hs
    have x8:=x8.stp hs rfl
    have a9:=a9.stp hs
    have d9:=d9.stp hs rfl
    have j6:=j6.stp hs rfl
    have m8:=m8.stp hs rfl
    have dB:=dB.stp hs
    have mA:=mA.stp hs
    have iB:=iB.stp hs
    have jB:=jB.stp hs
    have pA:=pA.stp hs
    have lB:=lB.stp hs
    have mB:=mB.stp hs
    have qA:=qA.stp hs
    have nB:=nB.stp hs
    have oB:=oB.stp hs
    have rA:=rA.stp hs
    have tB:=tB.stp hs
    have iD:=iD.stp hs
    refine Zb (Zd (Zf (L_loadO (x:=.tmp 63) part_BoxPick_0.1 Try.isAgg3 Try.sizeOf3 b644 fun bO oL cK=>?_)))
    obtain rfl:=Zj.1 oL
    obtain ⟨xG,gG,h⟩:=bsome h
    obtain ⟨hi648,he648⟩:=vat_idx gG
    obtain ⟨r8,hG,h⟩:=bsome h
    obtain ⟨hi650,he650⟩:=vat_idx hG
    refine L_loadOD (off:=((((0:Int):Int).toNat * 4) + ((i3).Left:Int).toNat * 1)) (x:=.tmp 66) (SubS.at_ (SubS.dynC hi648 (SubS.dyn hi650) rfl) (by first | rfl | exact Nat.add_assoc _ _ _ | simp only [Nat.add_assoc,Nat.zero_add] | omega)).1 ((congrArg (vat _ hi650) he648).trans he650) Try.isAgg3 Try.sizeOf3 j6 fun cO pL dK=>?_
    obtain rfl:=Zj.1 pL
    refine L_loadO (x:=.tmp 68) part_BoxPick_1.1 Try.isAgg3 Try.sizeOf3 b644 fun dO qL eK=>?_
    obtain rfl:=Zj.1 qL
    obtain ⟨yG,iG,h⟩:=bsome h
    obtain ⟨hi655,he655⟩:=vat_idx iG
    obtain ⟨l8,jG,h⟩:=bsome h
    obtain ⟨hi657,he657⟩:=vat_idx jG
    refine L_loadOD (off:=((((1:Int):Int).toNat * 4) + ((i3).Right:Int).toNat * 1)) (x:=.tmp 71) (SubS.at_ (SubS.dynC hi655 (SubS.dyn hi657) rfl) (by first | rfl | exact Nat.add_assoc _ _ _ | simp only [Nat.add_assoc,Nat.zero_add] | omega)).1 ((congrArg (vat _ hi657) he655).trans he657) Try.isAgg3 Try.sizeOf3 j6 fun eO rL lK=>?_
    obtain rfl:=Zj.1 rL
    refine E_drawL (g:=nL) (n:=12) [] [0,1,2,3,4,5,6,7,8,9,10,11] rfl mixed (by kernel_rfl) trivial ?_
    refine L_p (fPtr t8 0) rfl rfl (Zc at_83_0 rfl (OB.ptr b644)) ?_
    refine L_ld (c:=.int .i64 ((i3).Left)) rfl rfl .plain (fun _ _ h=>⟨h.ch,fun b hb _=>h.below.block b hb⟩) cK rfl ?_
    refine L_p (fPtr p3 (((0:Int):Int).toNat * 4)) rfl rfl (P_indexAddrA (α:=Vector Int 4) Try.underlying76 Try.sizeOf75 mC (OB.ptr j6) rfl gG) ?_
    refine L_p (fPtr p3 ((((0:Int):Int).toNat * 4) + ((i3).Left:Int).toNat * 1)) rfl rfl (P_indexAddrA2 (α:=Int) (o1:=(((0:Int):Int).toNat * 4)) rfl Try.underlying75 Try.sizeOf3 rfl (OB.ptr j6) rfl hG) ?_
    refine L_ld (c:=.int .i64 (r8)) rfl rfl .plain (fun _ _ h=>⟨h.ch,fun b hb _=>h.below.block b hb⟩) dK rfl ?_
    refine L_p (fPtr t8 1) rfl rfl (Zc at_83_1 rfl (OB.ptr b644)) ?_
    refine L_ld (c:=.int .i64 ((i3).Right)) rfl rfl .plain (fun _ _ h=>⟨h.ch,fun b hb _=>h.below.block b hb⟩) eK rfl ?_
    refine L_p (fPtr p3 (((1:Int):Int).toNat * 4)) rfl rfl (P_indexAddrA (α:=Vector Int 4) Try.underlying76 Try.sizeOf75 mC (OB.ptr j6) rfl iG) ?_
    refine L_p (fPtr p3 ((((1:Int):Int).toNat * 4) + ((i3).Right:Int).toNat * 1)) rfl rfl (P_indexAddrA2 (α:=Int) (o1:=(((1:Int):Int).toNat * 4)) rfl Try.underlying75 Try.sizeOf3 rfl (OB.ptr j6) rfl jG) ?_
    refine L_ld (c:=.int .i64 (l8)) rfl rfl .plain (fun _ _ h=>⟨h.ch,fun b hb _=>h.below.block b hb⟩) lK rfl ?_
    refine L_p (.int .i64 (r8)) rfl rfl (P_assign rfl) ?_
    refine L_p (.int .i64 (l8)) rfl rfl (P_assign rfl) ?_
    refine L_nl fun yH gO hs=>?_
    have hfr:=hfr.ext hs
    have a7:=a7.ext hs
    have d7:=d7.ext hs
    have v8:=v8.ext hs
    have x8:=x8.ext hs
    have a9:=a9.ext hs
    have d9:=d9.ext hs
    have j6:=j6.ext hs
    have m8:=m8.ext hs
    have dB:=dB.ext hs
    have mA:=mA.ext hs
    have iB:=iB.ext hs
    have jB:=jB.ext hs
    have pA:=pA.ext hs
    have lB:=lB.ext hs
    have mB:=mB.ext hs
    have qA:=qA.ext hs
    have nB:=nB.ext hs
    have oB:=oB.ext hs
    have rA:=rA.ext hs
    have tB:=tB.ext hs
    have iD:=iD.ext hs
    have b644:=b644.ext hs
    clear hs
    refine Zb (Zd (Zq h (fun (s:Unit) e w=>∃ (g:Gh) ,Fr gI wI g w∧e 2=.int .i64 (x2)∧e 3=p1∧PT g.m w (x0:Race) p1∧e 4=p2∧PT g.m w (x1:BoxLoom) p2∧e 6=x6∧RV g.m w (i6:List BoxPick) x6∧OS 1006 g w 83 (i6:List BoxPick) x6∧e 7=j7∧RV g.m w (k8:List Int) j7∧OS 1007 g w 3 (k8:List Int) j7∧e 8=p3∧OB 2008 g w 76 (i7:Vector (Vector Int 4) 2) p3∧e 9=.int .i64 (n8)∧e 10=u9∧OB 2010 g w 138 (o0:Vector Int 2) u9∧e 11=.int .i64 (l5)∧e 12=t8∧OB 2012 g w 83 (i3:BoxPick) t8∧e 13=.int .i64 (r8)∧e 14=.int .i64 (l8)) (fun X707 dH mK h=>?_) ?_))
    ·refine Zf (Za (Zn (.int .i64 (r8)) rfl rfl ?_))
     refine EL_in (.bool ((r8 == (0:Int)))) rfl rfl rfl rfl ?_
     refine Zn (.int .i64 (l8)) rfl rfl ?_
     refine EL_in (.bool ((l8 == (0:Int)))) rfl rfl rfl rfl ?_
     refine EL_p (.bool (((r8 == (0:Int)) == (l8 == (0:Int))))) (P_bool Try.underlying4 rfl rfl rfl) rfl ?_
     refine Zb (Zd ?_)
     rcases Zt h with ⟨jE,h⟩ | ⟨jE,h⟩
     ·refine E_ct jE rfl ?_
      refine E_exit ?_
      refine thn_e ?_
      refine blk_hit ?_
      obtain ⟨rfl,rfl,rfl,rfl,rfl⟩:=pairs5 h
      exact hQ _ _ ⟨yH,(x6),(j7),hfr,rF,iC,a7,lC,d7,sF,v8,x8,tF,a9,d9,mC,j6,uF,zD,m8,aB⟩
     ·refine E_cf jE rfl ?_
      exact Zu (Zd (mK () _ _ ⟨yH,hfr,rF,iC,a7,lC,d7,sF,v8,x8,tF,a9,d9,mC,j6,uF,zD,m8,aB,rfl,b644,rfl,rfl⟩ h))
    ·rintro _ nN iO ⟨zH, hfr, aI, bI, t5, cI, x5, dI, y9, z9, iI, m7, g8, jD, kD, jI, n9, i5, rG, i8, u3, aE, bE⟩ h
     refine Zf (Za (EL_p (fPtr t8 0) (Zc at_83_0 i8 (OB.ptr u3)) rfl ?_))
     refine Ze .plain rfl (D_loadF (g:=zH) part_BoxPick_0.1 Try.isAgg3 Try.sizeOf3 rfl u3 fun jO tL=>?_)
     obtain rfl:=Zj.1 tL
     refine Zo bE rfl ?_
     obtain ⟨zG,kG,h⟩:=bsome h
     obtain ⟨hi713,he713⟩:=vat_idx kG
     refine EL_p (fPtr p3 (((0:Int):Int).toNat * 4)) (P_indexAddrA (α:=Vector Int 4) Try.underlying76 Try.sizeOf75 jD (OB.ptr kD) rfl kG) rfl ?_
     obtain ⟨xK,lG,h⟩:=bsome h
     obtain ⟨hi715,he715⟩:=vat_idx lG
     refine EL_p (fPtr p3 ((((0:Int):Int).toNat * 4) + ((i3).Left:Int).toNat * 1)) (P_indexAddrA2 (α:=Int) (o1:=(((0:Int):Int).toNat * 4)) rfl Try.underlying75 Try.sizeOf3 rfl (OB.ptr kD) rfl lG) rfl ?_
     refine Ze .plain rfl (D_storeFc (g:=zH) (SubS.at_ (SubS.dynC hi713 (SubS.dyn hi715) rfl) (by first | rfl | exact Nat.add_assoc _ _ _ | simp only [Nat.add_assoc,Nat.zero_add] | omega)) Try.sizeOf3 rfl kD rfl (Zj.2 rfl) fun kI kO hs b716 rst hos=>?_)
     clear rst hos
     have hfr:=hfr.stp hs
     have t5:=t5.stp hs
     have x5:=x5.stp hs
     have y9:=y9.stp hs
     have z9:=z9.stp hs rfl
     have m7:=m7.stp hs
     have g8:=g8.stp hs rfl
     have i5:=i5.stp hs rfl
     have u3:=u3.stp hs rfl
     refine Zb (Zd (Zf (Za (EL_p (fPtr t8 1) (Zc at_83_1 i8 (OB.ptr u3)) rfl ?_))))
     refine Ze .plain rfl (D_loadF (g:=kI) part_BoxPick_1.1 Try.isAgg3 Try.sizeOf3 rfl u3 fun lO uL=>?_)
     obtain rfl:=Zj.1 uL
     refine Zo aE rfl ?_
     obtain ⟨aH,mG,h⟩:=bsome h
     obtain ⟨hi720,he720⟩:=vat_idx mG
     refine EL_p (fPtr p3 (((1:Int):Int).toNat * 4)) (P_indexAddrA (α:=Vector Int 4) Try.underlying76 Try.sizeOf75 jD (OB.ptr b716) rfl mG) rfl ?_
     obtain ⟨yK,nG,h⟩:=bsome h
     obtain ⟨hi722,he722⟩:=vat_idx nG
     refine EL_p (fPtr p3 ((((1:Int):Int).toNat * 4) + ((i3).Right:Int).toNat * 1)) (P_indexAddrA2 (α:=Int) (o1:=(((1:Int):Int).toNat * 4)) rfl Try.underlying75 Try.sizeOf3 rfl (OB.ptr b716) rfl nG) rfl ?_
     refine Ze .plain rfl (D_storeFc (g:=kI) (SubS.at_ (SubS.dynC hi720 (SubS.dyn hi722) rfl) (by first | rfl | exact Nat.add_assoc _ _ _ | simp only [Nat.add_assoc,Nat.zero_add] | omega)) Try.sizeOf3 rfl b716 rfl (Zj.2 rfl) fun lI mO hs b723 rst hos=>?_)
     clear rst hos
     have hfr:=hfr.stp hs
     have t5:=t5.stp hs
     have x5:=x5.stp hs
     have y9:=y9.stp hs
     have z9:=z9.stp hs rfl
     have m7:=m7.stp hs
     have g8:=g8.stp hs rfl
     have i5:=i5.stp hs rfl
     have u3:=u3.stp hs rfl
     refine Zb (Zd (Zf (Za (Zo dI rfl ?_))))
     refine Ze .plain rfl (D_loadO (g:=lI) Try.isAgg83 Try.sizeOf83 i8 u3 fun vL xL=>?_)
     refine Ze .plain rfl (D_buildSlice (g:=lI) 3090 (xs:=([i3]:List BoxPick)) (vs:=[vL]) Try.underlying30 Try.sizeOf83 Try.zeroValue83 rfl rfl (.cons rfl .nil) (RVs.cons xL RVs.nil) rfl rfl fun yL nO oO hs o725 zL hxt hfl=>?_)
     have hfr:=hfr.stp hs
     have t5:=t5.stp hs
     have x5:=x5.stp hs
     have y9:=y9.stp hs
     have z9:=z9.stp hs rfl
     have m7:=m7.stp hs
     have g8:=g8.stp hs rfl
     have b723:=b723.stp hs rfl
     have i5:=i5.stp hs rfl
     have u3:=u3.stp hs rfl
     obtain ⟨bH,nK,h⟩:=bsome h
     refine Ze .plain rfl (D_append (g:=yL) (i:=1006) Try.underlying30 info_83 rfl rfl z9 y9 rfl zL nK fun aM pO mI hs o726 vB _=>?_)
     have hfr:=hfr.stp hs
     have t5:=t5.stp hs
     have x5:=x5.stp hs
     have m7:=m7.stp hs
     have g8:=g8.stp hs rfl
     have b723:=b723.stp hs rfl
     have i5:=i5.stp hs rfl
     have u3:=u3.stp hs rfl
     refine Zo iI rfl ?_
     refine Zo aE rfl ?_
     refine Zo bE rfl ?_
     refine EL_in (.int .i64 ((w64 (r8 + l8)))) rfl rfl rfl rfl ?_
     refine EL_in (.int .i64 ((w64 ((w64 (r8 + l8)) - (1:Int))))) rfl rfl rfl rfl ?_
     refine Ze .plain rfl (D_buildSlice (g:=aM) 3097 (xs:=([(w64 ((w64 (r8 + l8)) - (1:Int)))]:List Int)) (vs:=[.int .i64 ((w64 ((w64 (r8 + l8)) - (1:Int))))]) Try.underlying22 Try.sizeOf3 Try.zeroValue3 rfl rfl (.cons rfl .nil) (RVs.cons (Zj.2 rfl) RVs.nil) rfl rfl fun bM qO rO hs o728 cM hxt hfl=>?_)
     have hfr:=hfr.stp hs
     have t5:=t5.stp hs
     have x5:=x5.stp hs
     have m7:=m7.stp hs
     have g8:=g8.stp hs rfl
     have b723:=b723.stp hs rfl
     have i5:=i5.stp hs rfl
     have u3:=u3.stp hs rfl
     have vB:=vB.stp hs
     have o726:=o726.stp hs rfl
     obtain ⟨cH,oK,h⟩:=bsome h
     refine Ze .plain rfl (D_append (g:=bM) (i:=1007) Try.underlying22 info_3 rfl rfl g8 m7 rfl cM oK fun k9 dM nI hs o729 aG _=>?_)
     have hfr:=hfr.stp hs
     have t5:=t5.stp hs
     have x5:=x5.stp hs
     have b723:=b723.stp hs rfl
     have i5:=i5.stp hs rfl
     have u3:=u3.stp hs rfl
     have vB:=vB.stp hs
     have o726:=o726.stp hs rfl
     refine Zg mI rfl rfl ?_
     refine Zg nI rfl rfl ?_
     refine Zb (Zd (Zf (Za (Zo jI rfl ?_))))
     refine EL_p (fPtr u9 0) (P_indexAddrA (α:=Int) (i:=(0:Int)) Try.underlying138 Try.sizeOf3 n9 (OB.ptr i5) rfl (idx_vec (v:=o0) (i:=0) (by decide))) rfl ?_
     refine Ze .plain rfl (D_loadF (g:=k9) (SubS.vec (β:=Int) (n:=2) (i:=0) (by decide)).1 Try.isAgg3 Try.sizeOf3 rfl i5 fun sO eM=>?_)
     obtain rfl:=Zj.1 eM
     refine EL_p (fPtr t8 0) (Zc at_83_0 i8 (OB.ptr u3)) rfl ?_
     refine Ze .plain rfl (D_loadF (g:=k9) part_BoxPick_0.1 Try.isAgg3 Try.sizeOf3 rfl u3 fun tO iM=>?_)
     obtain rfl:=Zj.1 iM
     refine EL_p (.int .i64 (max64 (o0)[0] (i3).Left)) (P_max rfl rfl) rfl ?_
     refine EL_p (fPtr u9 0) (P_indexAddrA (α:=Int) (i:=(0:Int)) Try.underlying138 Try.sizeOf3 n9 (OB.ptr i5) rfl (idx_vec (v:=o0) (i:=0) (by decide))) rfl ?_
     refine Ze .plain rfl (D_loadF (g:=k9) (SubS.vec (β:=Int) (n:=2) (i:=0) (by decide)).1 Try.isAgg3 Try.sizeOf3 rfl i5 fun uO jM=>?_)
     obtain rfl:=Zj.1 jM
     refine EL_p (fPtr t8 0) (Zc at_83_0 i8 (OB.ptr u3)) rfl ?_
     refine Ze .plain rfl (D_loadF (g:=k9) part_BoxPick_0.1 Try.isAgg3 Try.sizeOf3 rfl u3 fun vO kM=>?_)
     obtain rfl:=Zj.1 kM
     refine EL_p (.int .i64 (min64 (o0)[0] (i3).Left)) (P_min rfl rfl) rfl ?_
     refine EL_in (.int .i64 ((w64 ((max64 (o0)[0] (i3).Left) - (min64 (o0)[0] (i3).Left))))) rfl rfl rfl rfl ?_
     refine EL_p (fPtr u9 1) (P_indexAddrA (α:=Int) (i:=(1:Int)) Try.underlying138 Try.sizeOf3 n9 (OB.ptr i5) rfl (idx_vec (v:=o0) (i:=1) (by decide))) rfl ?_
     refine Ze .plain rfl (D_loadF (g:=k9) (SubS.vec (β:=Int) (n:=2) (i:=1) (by decide)).1 Try.isAgg3 Try.sizeOf3 rfl i5 fun xO mM=>?_)
     obtain rfl:=Zj.1 mM
     refine EL_p (fPtr t8 1) (Zc at_83_1 i8 (OB.ptr u3)) rfl ?_
     refine Ze .plain rfl (D_loadF (g:=k9) part_BoxPick_1.1 Try.isAgg3 Try.sizeOf3 rfl u3 fun yO nM=>?_)
     obtain rfl:=Zj.1 nM
     refine EL_p (.int .i64 (max64 (o0)[1] (i3).Right)) (P_max rfl rfl) rfl ?_
     refine EL_p (.int .i64 ((w64 ((w64 ((max64 (o0)[0] (i3).Left) - (min64 (o0)[0] (i3).Left))) + (max64 (o0)[1] (i3).Right))))) (P_int rfl rfl rfl) rfl ?_
     refine EL_p (fPtr u9 1) (P_indexAddrA (α:=Int) (i:=(1:Int)) Try.underlying138 Try.sizeOf3 n9 (OB.ptr i5) rfl (idx_vec (v:=o0) (i:=1) (by decide))) rfl ?_
     refine Ze .plain rfl (D_loadF (g:=k9) (SubS.vec (β:=Int) (n:=2) (i:=1) (by decide)).1 Try.isAgg3 Try.sizeOf3 rfl i5 fun zO oM=>?_)
     obtain rfl:=Zj.1 oM
     refine EL_p (fPtr t8 1) (Zc at_83_1 i8 (OB.ptr u3)) rfl ?_
     refine Ze .plain rfl (D_loadF (g:=k9) part_BoxPick_1.1 Try.isAgg3 Try.sizeOf3 rfl u3 fun aP pM=>?_)
     obtain rfl:=Zj.1 pM
     refine EL_p (.int .i64 (min64 (o0)[1] (i3).Right)) (P_min rfl rfl) rfl ?_
     refine EL_p (.int .i64 ((w64 ((w64 ((w64 ((max64 (o0)[0] (i3).Left) - (min64 (o0)[0] (i3).Left))) + (max64 (o0)[1] (i3).Right))) - (min64 (o0)[1] (i3).Right))))) (P_int rfl rfl rfl) rfl ?_
     refine EL_p (.int .i64 ((w64 (n8 + (w64 ((w64 ((w64 ((max64 (o0)[0] (i3).Left) - (min64 (o0)[0] (i3).Left))) + (max64 (o0)[1] (i3).Right))) - (min64 (o0)[1] (i3).Right))))))) (P_int rfl rfl rfl) rfl ?_
     refine EL_p (.int .i64 ((w64 (n8 + (w64 ((w64 ((w64 ((max64 (o0)[0] (i3).Left) - (min64 (o0)[0] (i3).Left))) + (max64 (o0)[1] (i3).Right))) - (min64 (o0)[1] (i3).Right))))))) (P_assign rfl) rfl ?_
     refine Zb (Zd (Za (EL_p (fPtr t8 0) (Zc at_83_0 i8 (OB.ptr u3)) rfl ?_)))
     refine Ze .plain rfl (D_loadF (g:=k9) part_BoxPick_0.1 Try.isAgg3 Try.sizeOf3 rfl u3 fun bP qM=>?_)
     obtain rfl:=Zj.1 qM
     refine EL_p (fPtr t8 1) (Zc at_83_1 i8 (OB.ptr u3)) rfl ?_
     refine Ze .plain rfl (D_loadF (g:=k9) part_BoxPick_1.1 Try.isAgg3 Try.sizeOf3 rfl u3 fun cP rM=>?_)
     obtain rfl:=Zj.1 rM
     have pI:RV k9.m dM (⟨List.toArray [(i3).Left,(i3).Right],rfl⟩:Vector Int 2) (.agg (setCh [[.int .i64 0],[.int .i64 0]] [(0,.int .i64 ((i3).Left)),(1,.int .i64 ((i3).Right))]).flatten.toArray):=RV_build rfl (rep_vec (flat_chunk rfl (flat_chunk rfl flat_nil)) rfl)
     generalize pK:(Value.agg (setCh [[.int .i64 0],[.int .i64 0]] [(0,.int .i64 ((i3).Left)),(1,.int .i64 ((i3).Right))]).flatten.toArray)=qI at pI
     refine EL_p qI (pK ▸ P_buildA (vs:=[(0,.int .i64 ((i3).Left)),(1,.int .i64 ((i3).Right))]) [[.int .i64 0],[.int .i64 0]] Try.underlying138 layA_138 szA_3 rfl (by simp) (.cons rfl (.cons rfl .nil)) ⟨⟨_,rfl,rfl⟩,⟨⟨_,rfl,rfl⟩,trivial⟩⟩) rfl ?_
     refine Ze .plain rfl (D_storeOc (g:=k9) (v:=qI) Try.sizeOf138 n9 i5 rfl pI fun sM dP hs b748 cb=>?_)
     clear cb
     have hfr:=hfr.stp hs
     have t5:=t5.stp hs
     have x5:=x5.stp hs
     have vB:=vB.stp hs
     have o726:=o726.stp hs rfl
     have aG:=aG.stp hs
     have o729:=o729.stp hs rfl
     have b723:=b723.stp hs rfl
     refine Zb (blk_n ?_)
     obtain ⟨rfl,rfl,rfl,rfl,rfl⟩:=pairs5 h
     exact hQ _ _ ⟨sM,(mI),(nI),hfr,aI,bI,t5,cI,x5,rfl,vB,o726,rfl,aG,o729,jD,b723,rfl,n9,b748,rG⟩
   ·clear hx
    obtain ⟨tM,rI,sI,hfr,tI,uI,vI,xI,yI,zI,aJ,bJ,cJ,dJ,eJ,gJ,iJ,jJ,sG,tG,uG⟩:=hR
    refine Za (Zo uG rfl ?_)
    refine EL_in (.int .i64 ((w64 (l5 + (1:Int))))) rfl rfl rfl rfl ?_
    refine Zg (.int .i64 ((w64 (l5 + (1:Int))))) rfl rfl ?_
    exact Zb (Zd (nJ (iA,jA,yB,zB,yA,(w64 (l5 + (1:Int)))) _ _ ⟨tM,(rI),(sI),hfr,tI,uI,vI,xI,yI,zI,aJ,bJ,cJ,dJ,eJ,gJ,iJ,jJ,sG,tG,rfl⟩ h))
 ·clear hx
  obtain ⟨uM,lD,mD,hfr,kJ,nD,eN,lJ,oD,gN,sD,qC,mJ⟩:=hR
  refine Zf (L_selfO Try.isAgg76 Try.sizeOf76 rfl qC fun vM qK sK=>?_)
  refine E_drawL (g:=uM) (n:=8) [(6,(fun _ _ _=>True))] [0,1,2,3,4,5,6,7] rfl mixed (by kernel_rfl) (⟨fun _=>(fun _ _ _ _ _ _=>trivial),trivial⟩) ?_
  refine L_p lD rfl rfl (Zk kJ) ?_
  refine L_p mD rfl rfl (Zk lJ) ?_
  refine L_ld (c:=vM) rfl rfl .plain (fun _ _ h=>⟨h.ch,fun b hb _=>h.below.block b hb⟩) (qK _) sD ?_
  refine L_p (.int .i64 (gA)) rfl rfl (Zk mJ) ?_
  refine L_p lD rfl rfl (P_assign rfl) ?_
  refine L_p mD rfl rfl (P_assign rfl) ?_
  refine L_do (φ:=fun _ _ _=>True) rfl rfl .plain (fun g w hd=>sK _ _ _ g w ⟨hd.1.ch,fun b hb _=>hd.1.below.block b hb⟩ sD rfl) (fun eP hv=>?_)
  clear hv
  refine L_p (.int .i64 (gA)) rfl rfl (P_assign rfl) ?_
  refine L_nl fun gP iP hs=>?_
  have hfr:=hfr.ext hs
  have nD:=nD.ext hs
  have oD:=oD.ext hs
  have qC:=qC.ext hs
  clear hs
  refine Zb (Zd (E_ret ?_))
  obtain rfl:=sinj h
  obtain ⟨ad762,cv762,hp762,tK,cr762⟩:=ob_read Try.isAgg76 Try.sizeOf76 qC
  exact endm_ttct rfl rfl (show _=lD from rfl) (show _=mD from rfl) ((show _=p3 from sD).trans hp762) tK (show _=.int .i64 (gA) from rfl) ⟨_,hfr,_,_,_,_,rfl,nD,oD,cr762,rfl⟩
def f86 (x0:List BoxShuttle) (x1:BoxShuttle→Option Bool):Option (Bool):=
 (f102 x0 x1).bind fun y2=>
 some ((decide (y2 ≥ (0:Int))))
theorem en86:Enters Try.prog 86:=enters_of Try.func86 (by kernel_rfl) rfl
theorem wk86 {gI:Gh} {wI:World} {x0:List BoxShuttle} {x1:BoxShuttle→Option Bool} {up0:Value} (rp0:RV gI.m wI x0 up0) {up1:Value} (rp1:FnV1 Try.prog x1 up1 gI wI) {r:Bool} (h:f86 x0 x1=some r):Fn Try.prog 86 #[up0,up1] gI wI (fun _ _ v=>v=.bool (r)):=by
 unfold f86 at h
 refine fn_of_E Try.func86 rfl (Nat.le_of_ble_eq_true rfl) fun g0 hm hfr=>?_
 have rp0:RV g0.m wI x0 up0:=hm ▸ rp0
 obtain ⟨ff1,fa1,fc1,rfl,fen1,fcl1⟩:=rp1
 show E _ 9 none _ _ _ _ _
 refine Zf (Za (Zg (.bool false) rfl rfl ?_))
 refine Zb (Zd (Zf (Za (Zn up0 rfl rfl ?_))))
 refine Zn ((.func (.func ff1) fa1 fc1)) rfl rfl ?_
 obtain ⟨y2,hy2,h⟩:=bsome h
 refine Ze .plain rfl (Zp (g:=g0) (vs:=[up0,(.func (.func ff1) fa1 fc1)]) en102 (.cons rfl (.cons rfl .nil)) (wk102 rp0 (FnV1.ch ⟨_,_,_,rfl,fen1,fcl1⟩ hfr.ch) hy2) fun g1 w1_ v1 hs hr=>?_)
 have hfr:=hfr.ext hs
 subst hr
 refine EL_in (.bool ((decide (y2 ≥ (0:Int))))) rfl rfl rfl rfl ?_
 refine Zg (.bool ((decide (y2 ≥ (0:Int))))) rfl rfl ?_
 refine Zb (Zd (E_ret ?_))
 obtain rfl:=sinj h
 exact end1 rfl rfl (show _=.bool ((decide (y2 ≥ (0:Int)))) from rfl) ⟨_,hfr,rfl⟩
def f87 (x0:Int) (x1:Int) (x2:List Int):Option (Bool):=
 (f103 x2 ((fun a0=>f104 a0 x0 x1))).bind fun y4=>
 some ((!y4))
theorem en87:Enters Try.prog 87:=enters_of Try.func87 (by kernel_rfl) rfl
theorem wk87 {gI:Gh} {wI:World} {x0:Int} {x1:Int} {x2:List Int} {up2:Value} (rp2:RV gI.m wI x2 up2) {r:Bool} (h:f87 x0 x1 x2=some r):Fn Try.prog 87 #[.int .i64 (x0),.int .i64 (x1),up2] gI wI (fun _ _ v=>v=.bool (r)):=by
 unfold f87 at h
 refine fn_of_E Try.func87 rfl (Nat.le_of_ble_eq_true rfl) fun g0 hm hfr=>?_
 have rp2:RV g0.m wI x2 up2:=hm ▸ rp2
 show E _ 11 none _ _ _ _ _
 refine Zf (Za (Ze .plain rfl (D_box (g:=g0) rfl (Zj.2 rfl) fun g1 w1 p1 hs q1=>?_)))
 have hfr:=hfr.ext hs
 have rp2:=rp2.ext hs
 refine Ze .plain rfl (D_box (g:=g1) rfl (Zj.2 rfl) fun g2 w2 p2 hs q2=>?_)
 have hfr:=hfr.ext hs
 have rp2:=rp2.ext hs
 have q1:=q1.ext hs
 refine Zg (.bool false) rfl rfl ?_
 refine Zb (Zd (Zf (Za (Zn up2 rfl rfl ?_))))
 refine EL_p ((.func (.func 104) #[] #[p1,p2])) (P_makeFunc (capf_0_2 (show ev _ _=p1 from rfl) (show ev _ _=p2 from rfl))) rfl ?_
 obtain ⟨y4,o0,h⟩:=bsome h
 refine Ze .plain rfl (Zp (g:=g2) (vs:=[up2,(.func (.func 104) #[] #[p1,p2])]) en103 (.cons rfl (.cons rfl .nil)) (wk103 rp2 ⟨104,#[],#[p1,p2],rfl,en104,fun g' w' hch a0 b0 r hu0 hr=>by obtain rfl:=Zj.1 hu0; exact Fn.mono (wk104  (q1.ch hch) (q2.ch hch) hr) fun _ _ _ h=>RV_bool.2 h⟩ o0) fun g3 w3_ v3 hs hr=>?_)
 have hfr:=hfr.ext hs
 subst hr
 refine EL_p (.bool (!y4)) (P_not rfl) rfl ?_
 refine Zg (.bool (!y4)) rfl rfl ?_
 refine Zb (Zd (E_ret ?_))
 obtain rfl:=sinj h
 exact end1 rfl rfl (show _=.bool (!y4) from rfl) ⟨_,hfr,rfl⟩
def f95 (x0:BoxPick) (z0:BoxBoxLoom):Option (Bool):=
 Option.bind (α:=Bool) (
  (idx (((z0).BoxLoom).Boxes) (0:Int)).bind fun t5=>
  (f87 ((0:Int)) ((w64 (t5 - (1:Int)))) (([(x0).Left]:List Int))).bind fun i5=>
  bif (!i5) then
   some (true)
  else
   (idx (((z0).BoxLoom).Boxes) (1:Int)).bind fun x5=>
   (f87 ((0:Int)) ((w64 (x5 - (1:Int)))) (([(x0).Right]:List Int))).bind fun y135=>
   some ((!y135))
  ) fun l5=>
 some (l5)
theorem en95:Enters Try.prog 95:=enters_of Try.func95 (by kernel_rfl) rfl
theorem wk95 {gI:Gh} {wI:World} {x0:BoxPick} {z0:BoxBoxLoom} {up0:Value} (rp0:RV gI.m wI x0 up0) {pf0:Value} (qf0:PT gI.m wI z0 pf0) {r:Bool} (h:f95 x0 z0=some r):Fn Try.prog 95 #[up0,pf0] gI wI (fun _ _ v=>v=.bool (r)):=by
 unfold f95 at h
 refine fn_of_E Try.func95 rfl (Nat.le_of_ble_eq_true rfl) fun g0 hm hfr=>?_
 have qf0:PT g0.m wI z0 pf0:=hm ▸ qf0
 have rp0:RV g0.m wI x0 up0:=hm ▸ rp0
 show E _ 28 none _ _ _ _ _
 refine Zf (Za (Ze .plain rfl (D_box (g:=g0) rfl rp0 fun g1 w1 p1 hs q1=>?_)))
 have hfr:=hfr.ext hs
 have qf0:=qf0.ext hs
 refine Zg (.bool false) rfl rfl ?_
 refine Zb (Zd ?_)
 obtain ⟨l5,hx,h⟩:=bsome h
 refine E_join (fun e w=>∃ (g:Gh) ,Fr gI wI g w∧e 3=.bool (l5)) (fun Q' hQ=>?_) (fun bA gA hR=>?_)
 ·replace h := hx
  clear hx
  have x6:=Zm (part_BoxBoxLoom_0).1 qf0
  have d9:=Zm (part_BoxLoom_0).1 x6
  refine Zs (x:=.tmp 5) Try.isAgg22 Try.sizeOf22 d9 fun j6 y6 a7=>?_
  obtain ⟨t5,i6,h⟩:=bsome h
  have k9:=PT_idx y6 i6
  refine Zs (x:=.tmp 7) Try.isAgg3 Try.sizeOf3 k9 fun dB l9 d7=>?_
  obtain rfl:=Zj.1 l9
  have n9:=Zm (part_BoxPick_0).1 q1
  refine Zs (x:=.tmp 10) Try.isAgg3 Try.sizeOf3 n9 fun iB u9 i7=>?_
  obtain rfl:=Zj.1 u9
  obtain ⟨i5,j7,h⟩:=bsome h
  rcases Zt h with ⟨i3,h⟩ | ⟨i3,h⟩
  ·refine E_drawL (g := g1) (n := 25) [(8, (fun v g w => RV g.m w ([(x0).Left] : List Int) v ∧ OS 3012 g w 3 ([(x0).Left] : List Int) v ∧ FullV v)), (9, (fun v g w => v = .bool (i5)))] [0, 1, 2, 3, 4, 5, 6, 7, 8, 9, 10, 11, 12, 13, 14, 15, 16, 17, 18, 19, 20, 21, 22, 23, 24] rfl mixed (by kernel_rfl) (⟨fun _ => up_and up_rv (up_and up_os (up_eq _)), fun _ => up_eq _, trivial⟩) ?_
   refine L_p (fPtr pf0 0) rfl rfl (Zc at_102_0 rfl (PT.ptr qf0)) ?_
   refine L_p (fPtr (fPtr pf0 0) 0) rfl rfl (Zc at_25_0 rfl (PT.ptr x6)) ?_
   refine L_ld (c:=j6) rfl rfl .plain (fun _ _ h=>h.ch) a7 rfl ?_
   refine L_p (ePtr j6 (0:Int) 1) rfl rfl (Zh (α:=Int) Try.underlying22 Try.sizeOf3 rfl y6 rfl i6) ?_
   refine L_ld (c:=.int .i64 (t5)) rfl rfl .plain (fun _ _ h=>h.ch) d7 rfl ?_
   refine L_p (.int .i64 ((w64 (t5 - (1:Int))))) rfl rfl (P_int rfl rfl rfl) ?_
   refine L_p (fPtr p1 0) rfl rfl (Zc at_83_0 rfl (PT.ptr q1)) ?_
   refine L_ld (c:=.int .i64 ((x0).Left)) rfl rfl .plain (fun _ _ h=>h.ch) i7 rfl ?_
   refine L_do (φ:=fun v g w=>RV g.m w ([(x0).Left]:List Int) v∧OS 3012 g w 3 ([(x0).Left]:List Int) v∧FullV v) rfl rfl .plain (fun g w hd=>D_buildSlice (g:=g) 3012 (xs:=([(x0).Left]:List Int)) (vs:=[.int .i64 ((x0).Left)]) Try.underlying22 Try.sizeOf3 Try.zeroValue3 rfl rfl (.cons rfl .nil) (RVs.cons (Zj.2 rfl) RVs.nil) rfl rfl fun g' w' v hs o r hxt hfl=>⟨g',hxt,r,o,hfl⟩) (fun o0 hv=>?_)
   clear hv
   refine L_do (φ:=fun v g w=>v=.bool (i5)) rfl rfl .plain (fun g w hd=>Zp (g:=g) (vs:=[.int .i64 (0),.int .i64 ((w64 (t5 - (1:Int)))),o0]) en87 (.cons rfl (.cons rfl (.cons rfl .nil))) (wk87 (word (A:=fun g w=>RV g.m w ([(x0).Left]:List Int) o0∧OS 3012 g w 3 ([(x0).Left]:List Int) o0∧FullV o0) 8 rfl rfl (deps_of hd)).1 j7) fun g' w' v hs hr=>⟨g',hs,hr⟩) (fun y9 hv=>?_)
   obtain ⟨_,_,_,rfl⟩:=hv
   refine L_p (.bool (!i5)) rfl rfl (P_not rfl) ?_
   refine L_p (.bool (!i5)) rfl rfl (Zk rfl) ?_
   iterate 11 refine L_s rfl rfl rfl i3 rfl ?_
   refine L_p (.bool true) rfl rfl (Zl (b:=(!i5)) rfl (pick_t i3 rfl)) ?_
   refine L_p (.bool true) rfl rfl (P_assign rfl) ?_
   refine L_nil fun z9 jB hall=>?_
   have hs:=hall.1
   have hfr:=hfr.ext hs
   have iA:=(word_all (A:=fun g w=>RV g.m w ([(x0).Left]:List Int) o0∧OS 3012 g w 3 ([(x0).Left]:List Int) o0∧FullV o0) 8 rfl hall).1
   have o109:=(word_all (A:=fun g w=>RV g.m w ([(x0).Left]:List Int) o0∧OS 3012 g w 3 ([(x0).Left]:List Int) o0∧FullV o0) 8 rfl hall).2.1
   clear hs hall
   refine Zb ?_
   obtain rfl:=sinj h
   exact hQ _ _ ⟨z9,hfr,rfl⟩
  ·have m7 := Zm (part_BoxBoxLoom_0).1 qf0
   have q8:=Zm (part_BoxLoom_0).1 m7
   refine Zs (x:=.tmp 17) Try.isAgg22 Try.sizeOf22 q8 fun v7 g8 k8=>?_
   obtain ⟨x5,v6,h⟩:=bsome h
   have r8:=PT_idx g8 v6
   refine Zs (x:=.tmp 19) Try.isAgg3 Try.sizeOf3 r8 fun jA t8 l8=>?_
   obtain rfl:=Zj.1 t8
   have v8:=Zm (part_BoxPick_1).1 q1
   refine Zs (x:=.tmp 22) Try.isAgg3 Try.sizeOf3 v8 fun mA x8 m8=>?_
   obtain rfl:=Zj.1 x8
   obtain ⟨y135,n8,h⟩:=bsome h
   refine E_drawL (g:=g1) (n:=25) [(8,(fun v g w=>RV g.m w ([(x0).Left]:List Int) v∧OS 3012 g w 3 ([(x0).Left]:List Int) v∧FullV v)),(9,(fun v g w=>v=.bool (i5))),(20,(fun v g w=>RV g.m w ([(x0).Right]:List Int) v∧OS 3024 g w 3 ([(x0).Right]:List Int) v∧FullV v)),(21,(fun v g w=>v=.bool (y135)))] [0,1,2,3,4,5,6,7,8,9,10,11,12,13,14,15,16,17,18,19,20,21,22,23,24] rfl mixed (by kernel_rfl) (⟨fun _=>up_and up_rv (up_and up_os (up_eq _)),fun _=>up_eq _,fun _=>up_and up_rv (up_and up_os (up_eq _)),fun _=>up_eq _,trivial⟩) ?_
   refine L_p (fPtr pf0 0) rfl rfl (Zc at_102_0 rfl (PT.ptr qf0)) ?_
   refine L_p (fPtr (fPtr pf0 0) 0) rfl rfl (Zc at_25_0 rfl (PT.ptr x6)) ?_
   refine L_ld (c:=j6) rfl rfl .plain (fun _ _ h=>h.ch) a7 rfl ?_
   refine L_p (ePtr j6 (0:Int) 1) rfl rfl (Zh (α:=Int) Try.underlying22 Try.sizeOf3 rfl y6 rfl i6) ?_
   refine L_ld (c:=.int .i64 (t5)) rfl rfl .plain (fun _ _ h=>h.ch) d7 rfl ?_
   refine L_p (.int .i64 ((w64 (t5 - (1:Int))))) rfl rfl (P_int rfl rfl rfl) ?_
   refine L_p (fPtr p1 0) rfl rfl (Zc at_83_0 rfl (PT.ptr q1)) ?_
   refine L_ld (c:=.int .i64 ((x0).Left)) rfl rfl .plain (fun _ _ h=>h.ch) i7 rfl ?_
   refine L_do (φ:=fun v g w=>RV g.m w ([(x0).Left]:List Int) v∧OS 3012 g w 3 ([(x0).Left]:List Int) v∧FullV v) rfl rfl .plain (fun g w hd=>D_buildSlice (g:=g) 3012 (xs:=([(x0).Left]:List Int)) (vs:=[.int .i64 ((x0).Left)]) Try.underlying22 Try.sizeOf3 Try.zeroValue3 rfl rfl (.cons rfl .nil) (RVs.cons (Zj.2 rfl) RVs.nil) rfl rfl fun g' w' v hs o r hxt hfl=>⟨g',hxt,r,o,hfl⟩) (fun o0 hv=>?_)
   clear hv
   refine L_do (φ:=fun v g w=>v=.bool (i5)) rfl rfl .plain (fun g w hd=>Zp (g:=g) (vs:=[.int .i64 (0),.int .i64 ((w64 (t5 - (1:Int)))),o0]) en87 (.cons rfl (.cons rfl (.cons rfl .nil))) (wk87 (word (A:=fun g w=>RV g.m w ([(x0).Left]:List Int) o0∧OS 3012 g w 3 ([(x0).Left]:List Int) o0∧FullV o0) 8 rfl rfl (deps_of hd)).1 j7) fun g' w' v hs hr=>⟨g',hs,hr⟩) (fun y9 hv=>?_)
   obtain ⟨_,_,_,rfl⟩:=hv
   refine L_p (.bool (!i5)) rfl rfl (P_not rfl) ?_
   refine L_p (.bool (!i5)) rfl rfl (Zk rfl) ?_
   refine L_y (fPtr pf0 0) rfl rfl rfl rfl i3 (Zc at_102_0 rfl (PT.ptr qf0)) ?_
   refine L_y (fPtr (fPtr pf0 0) 0) rfl rfl rfl rfl i3 (Zc at_25_0 rfl (PT.ptr m7)) ?_
   refine L_ld (c:=v7) rfl rfl (.yes2 rfl rfl i3) (fun _ _ h=>h.ch) k8 rfl ?_
   refine L_y (ePtr v7 (1:Int) 1) rfl rfl rfl rfl i3 (Zh (α:=Int) Try.underlying22 Try.sizeOf3 rfl g8 rfl v6) ?_
   refine L_ld (c:=.int .i64 (x5)) rfl rfl (.yes2 rfl rfl i3) (fun _ _ h=>h.ch) l8 rfl ?_
   refine L_y (.int .i64 ((w64 (x5 - (1:Int))))) rfl rfl rfl rfl i3 (P_int rfl rfl rfl) ?_
   refine L_y (fPtr p1 1) rfl rfl rfl rfl i3 (Zc at_83_1 rfl (PT.ptr q1)) ?_
   refine L_ld (c:=.int .i64 ((x0).Right)) rfl rfl (.yes2 rfl rfl i3) (fun _ _ h=>h.ch) m8 rfl ?_
   refine L_do (φ:=fun v g w=>RV g.m w ([(x0).Right]:List Int) v∧OS 3024 g w 3 ([(x0).Right]:List Int) v∧FullV v) rfl rfl (.yes2 rfl rfl i3) (fun g w hd=>D_buildSlice (g:=g) 3024 (xs:=([(x0).Right]:List Int)) (vs:=[.int .i64 ((x0).Right)]) Try.underlying22 Try.sizeOf3 Try.zeroValue3 rfl rfl (.cons rfl .nil) (RVs.cons (Zj.2 rfl) RVs.nil) rfl rfl fun g' w' v hs o r hxt hfl=>⟨g',hxt,r,o,hfl⟩) (fun u3 hv=>?_)
   clear hv
   refine L_do (φ:=fun v g w=>v=.bool (y135)) rfl rfl (.yes2 rfl rfl i3) (fun g w hd=>Zp (g:=g) (vs:=[.int .i64 (0),.int .i64 ((w64 (x5 - (1:Int)))),u3]) en87 (.cons rfl (.cons rfl (.cons rfl .nil))) (wk87 (word (A:=fun g w=>RV g.m w ([(x0).Right]:List Int) u3∧OS 3024 g w 3 ([(x0).Right]:List Int) u3∧FullV u3) 20 rfl rfl (deps_of hd)).1 n8) fun g' w' v hs hr=>⟨g',hs,hr⟩) (fun pA hv=>?_)
   obtain ⟨_,_,_,rfl⟩:=hv
   refine L_y (.bool (!y135)) rfl rfl rfl rfl i3 (P_not rfl) ?_
   refine L_p (.bool (!y135)) rfl rfl (Zl (b:=(!i5)) rfl (pick_f i3 rfl)) ?_
   refine L_p (.bool (!y135)) rfl rfl (P_assign rfl) ?_
   refine L_nil fun a9 qA hall=>?_
   have hs:=hall.1
   have hfr:=hfr.ext hs
   have rA:=(word_all (A:=fun g w=>RV g.m w ([(x0).Left]:List Int) o0∧OS 3012 g w 3 ([(x0).Left]:List Int) o0∧FullV o0) 8 rfl hall).1
   have o149:=(word_all (A:=fun g w=>RV g.m w ([(x0).Left]:List Int) o0∧OS 3012 g w 3 ([(x0).Left]:List Int) o0∧FullV o0) 8 rfl hall).2.1
   have yA:=(word_all (A:=fun g w=>RV g.m w ([(x0).Right]:List Int) u3∧OS 3024 g w 3 ([(x0).Right]:List Int) u3∧FullV u3) 20 rfl hall).1
   have o161:=(word_all (A:=fun g w=>RV g.m w ([(x0).Right]:List Int) u3∧OS 3024 g w 3 ([(x0).Right]:List Int) u3∧FullV u3) 20 rfl hall).2.1
   clear hs hall
   refine Zb ?_
   obtain rfl:=sinj h
   exact hQ _ _ ⟨a9,hfr,rfl⟩
 ·clear hx
  obtain ⟨aB,hfr,i8⟩:=hR
  refine E_ret ?_
  obtain rfl:=sinj h
  exact end1 rfl rfl (show _=.bool (l5) from i8) ⟨_,hfr,rfl⟩
def f96 (x0:List BoxPick) (x1:BoxPick→Option Bool):Option (Bool):=
 (f105 x0 x1).bind fun y2=>
 some ((decide (y2 ≥ (0:Int))))
theorem en96:Enters Try.prog 96:=enters_of Try.func96 (by kernel_rfl) rfl
theorem wk96 {gI:Gh} {wI:World} {x0:List BoxPick} {x1:BoxPick→Option Bool} {up0:Value} (rp0:RV gI.m wI x0 up0) {up1:Value} (rp1:FnV1 Try.prog x1 up1 gI wI) {r:Bool} (h:f96 x0 x1=some r):Fn Try.prog 96 #[up0,up1] gI wI (fun _ _ v=>v=.bool (r)):=by
 unfold f96 at h
 refine fn_of_E Try.func96 rfl (Nat.le_of_ble_eq_true rfl) fun g0 hm hfr=>?_
 have rp0:RV g0.m wI x0 up0:=hm ▸ rp0
 obtain ⟨ff1,fa1,fc1,rfl,fen1,fcl1⟩:=rp1
 show E _ 9 none _ _ _ _ _
 refine Zf (Za (Zg (.bool false) rfl rfl ?_))
 refine Zb (Zd (Zf (Za (Zn up0 rfl rfl ?_))))
 refine Zn ((.func (.func ff1) fa1 fc1)) rfl rfl ?_
 obtain ⟨y2,hy2,h⟩:=bsome h
 refine Ze .plain rfl (Zp (g:=g0) (vs:=[up0,(.func (.func ff1) fa1 fc1)]) en105 (.cons rfl (.cons rfl .nil)) (wk105 rp0 (FnV1.ch ⟨_,_,_,rfl,fen1,fcl1⟩ hfr.ch) hy2) fun g1 w1_ v1 hs hr=>?_)
 have hfr:=hfr.ext hs
 subst hr
 refine EL_in (.bool ((decide (y2 ≥ (0:Int))))) rfl rfl rfl rfl ?_
 refine Zg (.bool ((decide (y2 ≥ (0:Int))))) rfl rfl ?_
 refine Zb (Zd (E_ret ?_))
 obtain rfl:=sinj h
 exact end1 rfl rfl (show _=.bool ((decide (y2 ≥ (0:Int)))) from rfl) ⟨_,hfr,rfl⟩
end Go.Proofs.Ytmpjooneiaiffaa
