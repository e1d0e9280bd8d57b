import Derived.Test.YtmpjooneiaiffaaCode1
set_option maxRecDepth 8000
set_option maxHeartbeats 4000000
namespace Go.Proofs.Ytmpjooneiaiffaa
open Go.RowKit
def f93 (x0:List Int) (x1:Int→Option Bool):Option (Int):=
 jn (σ:=Unit) (fun _=>
  some ((-1:Int))
  ) fun k18=>
 lp (σ:=Int) (fun k19 o0=>
  bif (decide (o0 < ((x0).length : Int))) then
   jn (σ:=Unit) (fun _=>
    k19 ((w64 (o0 + (1:Int))))
    ) fun k28=>
   (idx x0 o0).bind fun j6=>
   (x1 j6).bind fun i7=>
   bif i7 then
    some (o0)
   else
    k28 ()
  else
   k18 ()
  ) big ((0:Int))
theorem en93:Enters Try.prog 93:=enters_of Try.func93 (by kernel_rfl) rfl
theorem wk93 {gI:Gh} {wI:World} {x0:List Int} {x1:Int→Option Bool} {up0:Value} (rp0:RV gI.m wI x0 up0) {up1:Value} (rp1:FnV1 Try.prog x1 up1 gI wI) {r:Int} (h:f93 x0 x1=some r):Fn Try.prog 93 #[up0,up1] gI wI (fun _ _ v=>v=.int .i64 (r)):=by
 unfold f93 at h
 refine fn_of_E Try.func93 rfl (Nat.le_of_ble_eq_true rfl) fun g0 hm hfr=>?_
 have rp0:RV g0.m wI x0 up0:=hm ▸ rp0
 obtain ⟨ff1,fa1,fc1,rfl,fen1,fcl1⟩:=rp1
 show E _ 19 none _ _ _ _ _
 refine Zf (Za (Zg (.int .i64 (0)) rfl rfl ?_))
 refine Zb (Zd (Zq h (fun (s:Unit) e w=>∃ (g:Gh) ,Fr gI wI g w) (fun X18 k18 j7 h=>?_) ?_))
 ·refine Zf (Za (Zn up0 rfl rfl ?_))
  refine EL_p (.int .i64 ((x0).length:Int)) (P_len Try.underlying22 rfl rp0) rfl ?_
  refine Zn (.int .i64 (0)) rfl rfl ?_
  refine Zb (Zd (Zr ?_))
  refine E_lp h (fun (s:Int) e w=>∃ (g:Gh) ,Fr gI wI g w∧e 0=up0∧RV g.m w (x0:List Int) up0∧e 1=(.func (.func ff1) fa1 fc1)∧e 7=.int .i64 (((x0).length:Int))∧e 8=.int .i64 (s)) ⟨g0,hfr,rfl,rp0,rfl,rfl,rfl⟩ (fun X19 k19 m7=>?_)
  rintro o0 n8 r8 ⟨v6,hfr,t5,i3,x5,i6,u3⟩ h
  refine Zf (Za (EL_in (.bool ((decide (o0 < ((x0).length:Int))))) u3 i6 rfl rfl ?_))
  refine Zb (Zd (Zf ?_))
  rcases Zt h with ⟨i5,h⟩ | ⟨i5,h⟩
  ·refine E_ct i5 rfl ?_
   refine Zu (Zd (Zq h (fun (s:Unit) e w=>∃ (g:Gh) ,Fr gI wI g w∧e 0=up0∧RV g.m w (x0:List Int) up0∧e 1=(.func (.func ff1) fa1 fc1)∧e 7=.int .i64 (((x0).length:Int))∧e 8=.int .i64 (o0)) (fun X28 k28 v7 h=>?_) ?_))
   ·refine Zr ?_
    refine Zf (Za (Zo u3 rfl ?_))
    refine Zg (.int .i64 (o0)) rfl rfl ?_
    refine Zb (Zd (Zf (Za (Zo x5 rfl ?_))))
    refine Zo t5 rfl ?_
    refine Zn (.int .i64 (o0)) rfl rfl ?_
    obtain ⟨j6,x6,h⟩:=bsome h
    refine EL_p (ePtr up0 o0 1) (Zh (α:=Int) Try.underlying22 Try.sizeOf3 rfl i3 rfl x6) rfl ?_
    have i8:=PT_idx i3 x6
    refine Ze .plain rfl (D_load (g:=v6) Try.isAgg3 Try.sizeOf3 rfl i8 fun t8 k8=>?_)
    obtain rfl:=Zj.1 k8
    obtain ⟨i7,g8,h⟩:=bsome h
    refine Ze .plain rfl (D_callv (g:=v6) (vs:=[.int .i64 (j6)]) rfl fen1 (.cons rfl .nil) (fcl1 _ _ hfr.ch _ _ _  (Zj.2 rfl) g8) fun l8 v8 x8 hs hr=>?_)
    have hfr:=hfr.ext hs
    have i3:=i3.ext hs
    obtain rfl:=RV_bool.1 hr
    refine Zb (Zd ?_)
    rcases Zt h with ⟨l5,h⟩ | ⟨l5,h⟩
    ·refine E_ct l5 rfl ?_
     refine Zf (Za (Zn (.int .i64 (o0)) rfl rfl ?_))
     refine Zg (.int .i64 (o0)) rfl rfl ?_
     refine Zb (Zd (E_ret (blk_r ?_)))
     refine thn_r ?_
     refine thn_r ?_
     refine blk_r ?_
     refine thn_r ?_
     obtain rfl:=sinj h
     exact end1 rfl rfl (show _=.int .i64 (o0) from rfl) ⟨_,hfr,rfl⟩
    ·refine E_cf l5 rfl ?_
     exact Zu (blk_n (Zd (v7 () _ _ ⟨l8,hfr,t5,i3,x5,i6,u3⟩ h)))
   ·rintro _ o8 y8 ⟨m8, hfr, y6, a7, b7, d7, g7⟩ h
    refine Za (EL_in (.int .i64 ((w64 (o0 + (1:Int))))) g7 rfl rfl rfl ?_)
    refine Zn (.int .i64 ((w64 (o0 + (1:Int))))) rfl rfl ?_
    exact Zb (Zd (m7 ((w64 (o0 + (1:Int)))) _ _ ⟨m8,hfr,y6,a7,b7,d7,rfl⟩ h))
  ·refine E_cf i5 rfl ?_
   refine E_exit ?_
   refine thn_e ?_
   refine thn_e ?_
   refine blk_hit ?_
   exact Zd (j7 () _ _ ⟨v6,hfr⟩ h)
 ·rintro _ q8 a9 ⟨d9, hfr⟩ h
  refine Zf (Za (Zg (.int .i64 (-1)) rfl rfl ?_))
  refine Zb (Zd (E_ret ?_))
  obtain rfl:=sinj h
  exact end1 rfl rfl (show _=.int .i64 (-1) from rfl) ⟨_,hfr,rfl⟩
def f94 (x0:Int) (m1:List (Int × Int)) (z1:Span→Option Int) (z2:BoxBoxLoom):Option (Bool × (List (Int × Int))):=
 (idx (((z2).BoxLoom).Shuttles) (w64 (x0 - (1:Int)))).bind fun i5=>
 (z1 ((i5).Yarn)).bind fun o0=>
 some ((decide (((mget ((mset m1 x0 ((w64 (((mget m1 x0).getD (0:Int)) + (1:Int)))))) x0).getD (0:Int)) > o0)),(mset m1 x0 ((w64 (((mget m1 x0).getD (0:Int)) + (1:Int))))))
def f102 (x0:List BoxShuttle) (x1:BoxShuttle→Option Bool):Option (Int):=
 jn (σ:=Unit) (fun _=>
  some ((-1:Int))
  ) fun k18=>
 lp (σ:=Int) (fun k19 o0=>
  bif (decide (o0 < ((x0).length : Int))) then
   jn (σ:=Unit) (fun _=>
    k19 ((w64 (o0 + (1:Int))))
    ) fun k28=>
   (idx x0 o0).bind fun g7=>
   (x1 g7).bind fun i7=>
   bif i7 then
    some (o0)
   else
    k28 ()
  else
   k18 ()
  ) big ((0:Int))
theorem en102:Enters Try.prog 102:=enters_of Try.func102 (by kernel_rfl) rfl
theorem wk102 {gI:Gh} {wI:World} {x0:List BoxShuttle} {x1:BoxShuttle→Option Bool} {up0:Value} (rp0:RV gI.m wI x0 up0) {up1:Value} (rp1:FnV1 Try.prog x1 up1 gI wI) {r:Int} (h:f102 x0 x1=some r):Fn Try.prog 102 #[up0,up1] gI wI (fun _ _ v=>v=.int .i64 (r)):=by
 unfold f102 at h
 refine fn_of_E Try.func102 rfl (Nat.le_of_ble_eq_true rfl) fun g0 hm hfr=>?_
 have rp0:RV g0.m wI x0 up0:=hm ▸ rp0
 obtain ⟨ff1,fa1,fc1,rfl,fen1,fcl1⟩:=rp1
 show E _ 19 none _ _ _ _ _
 refine Zf (Za (Zg (.int .i64 (0)) rfl rfl ?_))
 refine Zb (Zd (Zq h (fun (s:Unit) e w=>∃ (g:Gh) ,Fr gI wI g w) (fun X18 k18 j7 h=>?_) ?_))
 ·refine Zf (Za (Zn up0 rfl rfl ?_))
  refine EL_p (.int .i64 ((x0).length:Int)) (P_len Try.underlying23 rfl rp0) rfl ?_
  refine Zn (.int .i64 (0)) rfl rfl ?_
  refine Zb (Zd (Zr ?_))
  refine E_lp h (fun (s:Int) e w=>∃ (g:Gh) ,Fr gI wI g w∧e 0=up0∧RV g.m w (x0:List BoxShuttle) up0∧e 1=(.func (.func ff1) fa1 fc1)∧e 7=.int .i64 (((x0).length:Int))∧e 8=.int .i64 (s)) ⟨g0,hfr,rfl,rp0,rfl,rfl,rfl⟩ (fun X19 k19 m7=>?_)
  rintro o0 o8 t8 ⟨j6,hfr,t5,i3,x5,i6,u3⟩ h
  refine Zf (Za (EL_in (.bool ((decide (o0 < ((x0).length:Int))))) u3 i6 rfl rfl ?_))
  refine Zb (Zd (Zf ?_))
  rcases Zt h with ⟨i5,h⟩ | ⟨i5,h⟩
  ·refine E_ct i5 rfl ?_
   refine Zu (Zd (Zq h (fun (s:Unit) e w=>∃ (g:Gh) ,Fr gI wI g w∧e 0=up0∧RV g.m w (x0:List BoxShuttle) up0∧e 1=(.func (.func ff1) fa1 fc1)∧e 7=.int .i64 (((x0).length:Int))∧e 8=.int .i64 (o0)) (fun X28 k28 v7 h=>?_) ?_))
   ·refine Zr ?_
    refine Zf (Za (Zo u3 rfl ?_))
    refine Zg (.int .i64 (o0)) rfl rfl ?_
    refine Zb (Zd (Zf (Za (Zo x5 rfl ?_))))
    refine Zo t5 rfl ?_
    refine Zn (.int .i64 (o0)) rfl rfl ?_
    obtain ⟨g7,v6,h⟩:=bsome h
    refine EL_p (ePtr up0 o0 5) (Zh (α:=BoxShuttle) Try.underlying23 Try.sizeOf87 rfl i3 rfl v6) rfl ?_
    have i8:=PT_idx i3 v6
    refine Ze .plain rfl (D_load (g:=j6) Try.isAgg87 Try.sizeOf87 rfl i8 fun k8 l8=>?_)
    obtain ⟨i7,g8,h⟩:=bsome h
    refine Ze .plain rfl (D_callv (g:=j6) (vs:=[k8]) rfl fen1 (.cons rfl .nil) (fcl1 _ _ hfr.ch _ _ _  l8 g8) fun m8 v8 x8 hs hr=>?_)
    have hfr:=hfr.ext hs
    have i3:=i3.ext hs
    obtain rfl:=RV_bool.1 hr
    refine Zb (Zd ?_)
    rcases Zt h with ⟨l5,h⟩ | ⟨l5,h⟩
    ·refine E_ct l5 rfl ?_
     refine Zf (Za (Zn (.int .i64 (o0)) rfl rfl ?_))
     refine Zg (.int .i64 (o0)) rfl rfl ?_
     refine Zb (Zd (E_ret (blk_r ?_)))
     refine thn_r ?_
     refine thn_r ?_
     refine blk_r ?_
     refine thn_r ?_
     obtain rfl:=sinj h
     exact end1 rfl rfl (show _=.int .i64 (o0) from rfl) ⟨_,hfr,rfl⟩
    ·refine E_cf l5 rfl ?_
     exact Zu (blk_n (Zd (v7 () _ _ ⟨m8,hfr,t5,i3,x5,i6,u3⟩ h)))
   ·rintro _ q8 y8 ⟨n8, hfr, x6, y6, a7, b7, d7⟩ h
    refine Za (EL_in (.int .i64 ((w64 (o0 + (1:Int))))) d7 rfl rfl rfl ?_)
    refine Zn (.int .i64 ((w64 (o0 + (1:Int))))) rfl rfl ?_
    exact Zb (Zd (m7 ((w64 (o0 + (1:Int)))) _ _ ⟨n8,hfr,x6,y6,a7,b7,rfl⟩ h))
  ·refine E_cf i5 rfl ?_
   refine E_exit ?_
   refine thn_e ?_
   refine thn_e ?_
   refine blk_hit ?_
   exact Zd (j7 () _ _ ⟨j6,hfr⟩ h)
 ·rintro _ r8 a9 ⟨d9, hfr⟩ h
  refine Zf (Za (Zg (.int .i64 (-1)) rfl rfl ?_))
  refine Zb (Zd (E_ret ?_))
  obtain rfl:=sinj h
  exact end1 rfl rfl (show _=.int .i64 (-1) from rfl) ⟨_,hfr,rfl⟩
def f103 (x0:List Int) (x1:Int→Option Bool):Option (Bool):=
 (f93 x0 x1).bind fun y2=>
 some ((decide (y2 ≥ (0:Int))))
theorem en103:Enters Try.prog 103:=enters_of Try.func103 (by kernel_rfl) rfl
theorem wk103 {gI:Gh} {wI:World} {x0:List Int} {x1:Int→Option Bool} {up0:Value} (rp0:RV gI.m wI x0 up0) {up1:Value} (rp1:FnV1 Try.prog x1 up1 gI wI) {r:Bool} (h:f103 x0 x1=some r):Fn Try.prog 103 #[up0,up1] gI wI (fun _ _ v=>v=.bool (r)):=by
 unfold f103 at h
 refine fn_of_E Try.func103 rfl (Nat.le_of_ble_eq_true rfl) fun g0 hm hfr=>?_
 have rp0:RV g0.m wI x0 up0:=hm ▸ rp0
 obtain ⟨ff1,fa1,fc1,rfl,fen1,fcl1⟩:=rp1
 show E _ 9 none _ _ _ _ _
 refine Zf (Za (Zg (.bool false) rfl rfl ?_))
 refine Zb (Zd (Zf (Za (Zn up0 rfl rfl ?_))))
 refine Zn ((.func (.func ff1) fa1 fc1)) rfl rfl ?_
 obtain ⟨y2,hy2,h⟩:=bsome h
 refine Ze .plain rfl (Zp (g:=g0) (vs:=[up0,(.func (.func ff1) fa1 fc1)]) en93 (.cons rfl (.cons rfl .nil)) (wk93 rp0 (FnV1.ch ⟨_,_,_,rfl,fen1,fcl1⟩ hfr.ch) hy2) fun g1 w1_ v1 hs hr=>?_)
 have hfr:=hfr.ext hs
 subst hr
 refine EL_in (.bool ((decide (y2 ≥ (0:Int))))) rfl rfl rfl rfl ?_
 refine Zg (.bool ((decide (y2 ≥ (0:Int))))) rfl rfl ?_
 refine Zb (Zd (E_ret ?_))
 obtain rfl:=sinj h
 exact end1 rfl rfl (show _=.bool ((decide (y2 ≥ (0:Int)))) from rfl) ⟨_,hfr,rfl⟩
def f104 (x0:Int) (z0:Int) (z1:Int):Option (Bool):=
 Option.bind (α:=Bool) (
  bif (decide (x0 < z0)) then
   some (true)
  else
   some ((decide (x0 > z1)))
  ) fun o0=>
 some (o0)
theorem en104:Enters Try.prog 104:=enters_of Try.func104 (by kernel_rfl) rfl
theorem wk104 {gI:Gh} {wI:World} {x0:Int} {z0:Int} {z1:Int} {pf0:Value} (qf0:PT gI.m wI z0 pf0) {pf1:Value} (qf1:PT gI.m wI z1 pf1) {r:Bool} (h:f104 x0 z0 z1=some r):Fn Try.prog 104 #[.int .i64 (x0),pf0,pf1] gI wI (fun _ _ v=>v=.bool (r)):=by
 unfold f104 at h
 refine fn_of_E Try.func104 rfl (Nat.le_of_ble_eq_true rfl) fun g0 hm hfr=>?_
 have qf0:PT g0.m wI z0 pf0:=hm ▸ qf0
 have qf1:PT g0.m wI z1 pf1:=hm ▸ qf1
 show E _ 13 none _ _ _ _ _
 refine Zf (Za (Zg (.bool false) rfl rfl ?_))
 refine Zb (Zd ?_)
 obtain ⟨o0,hx,h⟩:=bsome h
 refine E_join (fun e w=>∃ (g:Gh) ,Fr gI wI g w∧e 4=.bool (o0)) (fun Q' hQ=>?_) (fun u3 w7 hR=>?_)
 ·replace h := hx
  clear hx
  refine Za (Zn (.int .i64 (x0)) rfl rfl ?_)
  refine Ze .plain rfl (D_load (g:=g0) Try.isAgg3 Try.sizeOf3 rfl qf0 fun v4 r4=>?_)
  obtain rfl:=Zj.1 r4
  refine EL_in (.bool ((decide (x0 < z0)))) rfl rfl rfl rfl ?_
  refine Zn (.bool ((decide (x0 < z0)))) rfl rfl ?_
  rcases Zt h with ⟨hc5,h⟩ | ⟨hc5,h⟩
  ·refine EL_s rfl rfl hc5 rfl rfl ?_
   refine EL_s rfl rfl hc5 rfl rfl ?_
   refine EL_s rfl rfl hc5 rfl rfl ?_
   refine EL_p (.bool true) (Zl (b:=(decide (x0 < z0))) rfl (pick_t hc5 rfl)) rfl ?_
   refine Zg (.bool true) rfl rfl ?_
   refine Zb ?_
   obtain rfl:=sinj h
   exact hQ _ _ ⟨g0,hfr,rfl⟩
  ·refine EL_y (.int .i64 (x0)) (Zk rfl) rfl rfl hc5 rfl ?_
   refine Ze (.yes2 rfl rfl hc5) rfl (D_load (g:=g0) Try.isAgg3 Try.sizeOf3 rfl qf1 fun v6 r6=>?_)
   obtain rfl:=Zj.1 r6
   refine EL_y (.bool ((decide (x0 > z1)))) (P_int rfl rfl rfl) rfl rfl hc5 rfl ?_
   refine EL_p (.bool ((decide (x0 > z1)))) (Zl (b:=(decide (x0 < z0))) rfl (pick_f hc5 rfl)) rfl ?_
   refine Zg (.bool ((decide (x0 > z1)))) rfl rfl ?_
   refine Zb ?_
   obtain rfl:=sinj h
   exact hQ _ _ ⟨g0,hfr,rfl⟩
 ·clear hx
  obtain ⟨g7,hfr,i3⟩:=hR
  refine E_ret ?_
  obtain rfl:=sinj h
  exact end1 rfl rfl (show _=.bool (o0) from i3) ⟨_,hfr,rfl⟩
def f105 (x0:List BoxPick) (x1:BoxPick→Option Bool):Option (Int):=
 jn (σ:=Unit) (fun _=>
  some ((-1:Int))
  ) fun k18=>
 lp (σ:=Int) (fun k19 o0=>
  bif (decide (o0 < ((x0).length : Int))) then
   jn (σ:=Unit) (fun _=>
    k19 ((w64 (o0 + (1:Int))))
    ) fun k28=>
   (idx x0 o0).bind fun g7=>
   (x1 g7).bind fun i7=>
   bif i7 then
    some (o0)
   else
    k28 ()
  else
   k18 ()
  ) big ((0:Int))
theorem en105:Enters Try.prog 105:=enters_of Try.func105 (by kernel_rfl) rfl
theorem wk105 {gI:Gh} {wI:World} {x0:List BoxPick} {x1:BoxPick→Option Bool} {up0:Value} (rp0:RV gI.m wI x0 up0) {up1:Value} (rp1:FnV1 Try.prog x1 up1 gI wI) {r:Int} (h:f105 x0 x1=some r):Fn Try.prog 105 #[up0,up1] gI wI (fun _ _ v=>v=.int .i64 (r)):=by
 unfold f105 at h
 refine fn_of_E Try.func105 rfl (Nat.le_of_ble_eq_true rfl) fun g0 hm hfr=>?_
 have rp0:RV g0.m wI x0 up0:=hm ▸ rp0
 obtain ⟨ff1,fa1,fc1,rfl,fen1,fcl1⟩:=rp1
 show E _ 19 none _ _ _ _ _
 refine Zf (Za (Zg (.int .i64 (0)) rfl rfl ?_))
 refine Zb (Zd (Zq h (fun (s:Unit) e w=>∃ (g:Gh) ,Fr gI wI g w) (fun X18 k18 j7 h=>?_) ?_))
 ·refine Zf (Za (Zn up0 rfl rfl ?_))
  refine EL_p (.int .i64 ((x0).length:Int)) (P_len Try.underlying30 rfl rp0) rfl ?_
  refine Zn (.int .i64 (0)) rfl rfl ?_
  refine Zb (Zd (Zr ?_))
  refine E_lp h (fun (s:Int) e w=>∃ (g:Gh) ,Fr gI wI g w∧e 0=up0∧RV g.m w (x0:List BoxPick) up0∧e 1=(.func (.func ff1) fa1 fc1)∧e 7=.int .i64 (((x0).length:Int))∧e 8=.int .i64 (s)) ⟨g0,hfr,rfl,rp0,rfl,rfl,rfl⟩ (fun X19 k19 m7=>?_)
  rintro o0 o8 t8 ⟨j6,hfr,t5,i3,x5,i6,u3⟩ h
  refine Zf (Za (EL_in (.bool ((decide (o0 < ((x0).length:Int))))) u3 i6 rfl rfl ?_))
  refine Zb (Zd (Zf ?_))
  rcases Zt h with ⟨i5,h⟩ | ⟨i5,h⟩
  ·refine E_ct i5 rfl ?_
   refine Zu (Zd (Zq h (fun (s:Unit) e w=>∃ (g:Gh) ,Fr gI wI g w∧e 0=up0∧RV g.m w (x0:List BoxPick) up0∧e 1=(.func (.func ff1) fa1 fc1)∧e 7=.int .i64 (((x0).length:Int))∧e 8=.int .i64 (o0)) (fun X28 k28 v7 h=>?_) ?_))
   ·refine Zr ?_
    refine Zf (Za (Zo u3 rfl ?_))
    refine Zg (.int .i64 (o0)) rfl rfl ?_
    refine Zb (Zd (Zf (Za (Zo x5 rfl ?_))))
    refine Zo t5 rfl ?_
    refine Zn (.int .i64 (o0)) rfl rfl ?_
    obtain ⟨g7,v6,h⟩:=bsome h
    refine EL_p (ePtr up0 o0 2) (Zh (α:=BoxPick) Try.underlying30 Try.sizeOf83 rfl i3 rfl v6) rfl ?_
    have i8:=PT_idx i3 v6
    refine Ze .plain rfl (D_load (g:=j6) Try.isAgg83 Try.sizeOf83 rfl i8 fun k8 l8=>?_)
    obtain ⟨i7,g8,h⟩:=bsome h
    refine Ze .plain rfl (D_callv (g:=j6) (vs:=[k8]) rfl fen1 (.cons rfl .nil) (fcl1 _ _ hfr.ch _ _ _  l8 g8) fun m8 v8 x8 hs hr=>?_)
    have hfr:=hfr.ext hs
    have i3:=i3.ext hs
    obtain rfl:=RV_bool.1 hr
    refine Zb (Zd ?_)
    rcases Zt h with ⟨l5,h⟩ | ⟨l5,h⟩
    ·refine E_ct l5 rfl ?_
     refine Zf (Za (Zn (.int .i64 (o0)) rfl rfl ?_))
     refine Zg (.int .i64 (o0)) rfl rfl ?_
     refine Zb (Zd (E_ret (blk_r ?_)))
     refine thn_r ?_
     refine thn_r ?_
     refine blk_r ?_
     refine thn_r ?_
     obtain rfl:=sinj h
     exact end1 rfl rfl (show _=.int .i64 (o0) from rfl) ⟨_,hfr,rfl⟩
    ·refine E_cf l5 rfl ?_
     exact Zu (blk_n (Zd (v7 () _ _ ⟨m8,hfr,t5,i3,x5,i6,u3⟩ h)))
   ·rintro _ q8 y8 ⟨n8, hfr, x6, y6, a7, b7, d7⟩ h
    refine Za (EL_in (.int .i64 ((w64 (o0 + (1:Int))))) d7 rfl rfl rfl ?_)
    refine Zn (.int .i64 ((w64 (o0 + (1:Int))))) rfl rfl ?_
    exact Zb (Zd (m7 ((w64 (o0 + (1:Int)))) _ _ ⟨n8,hfr,x6,y6,a7,b7,rfl⟩ h))
  ·refine E_cf i5 rfl ?_
   refine E_exit ?_
   refine thn_e ?_
   refine thn_e ?_
   refine blk_hit ?_
   exact Zd (j7 () _ _ ⟨j6,hfr⟩ h)
 ·rintro _ r8 a9 ⟨d9, hfr⟩ h
  refine Zf (Za (Zg (.int .i64 (-1)) rfl rfl ?_))
  refine Zb (Zd (E_ret ?_))
  obtain rfl:=sinj h
  exact end1 rfl rfl (show _=.int .i64 (-1) from rfl) ⟨_,hfr,rfl⟩
def f106 (x0:Int) (x1:Int):Option (Int):=
 some ((w64 ((max64 x0 x1) - (min64 x0 x1))))
theorem en106:Enters Try.prog 106:=enters_of Try.func106 (by kernel_rfl) rfl
theorem wk106 {gI:Gh} {wI:World} {x0:Int} {x1:Int}  {r:Int} (h:f106 x0 x1=some r):Fn Try.prog 106 #[.int .i64 (x0),.int .i64 (x1)] gI wI (fun _ _ v=>v=.int .i64 (r)):=by
 unfold f106 at h
 refine fn_of_E Try.func106 rfl (Nat.le_of_ble_eq_true rfl) fun g0 hm hfr=>?_
 show E _ 12 none _ _ _ _ _
 refine Zf (Za (Zg (.int .i64 (0)) rfl rfl ?_))
 refine Zb (Zd (Zf (Za (Zn (.int .i64 (x0)) rfl rfl ?_))))
 refine Zn (.int .i64 (x1)) rfl rfl ?_
 refine EL_p (.int .i64 (max64 x0 x1)) (P_max rfl rfl) rfl ?_
 refine Zn (.int .i64 (x0)) rfl rfl ?_
 refine Zn (.int .i64 (x1)) rfl rfl ?_
 refine EL_p (.int .i64 (min64 x0 x1)) (P_min rfl rfl) rfl ?_
 refine EL_in (.int .i64 ((w64 ((max64 x0 x1) - (min64 x0 x1))))) rfl rfl rfl rfl ?_
 refine Zg (.int .i64 ((w64 ((max64 x0 x1) - (min64 x0 x1))))) rfl rfl ?_
 refine Zb (Zd (E_ret ?_))
 obtain rfl:=sinj h
 exact end1 rfl rfl (show _=.int .i64 ((w64 ((max64 x0 x1) - (min64 x0 x1)))) from rfl) ⟨_,hfr,rfl⟩
def f107 (x1:It Int):Option ((List Int)):=
 Option.bind (α:=(List Int)) (
  (x1 ((List Int)) (fun t5 i5=>
   (apnd 8 t5 (([i5]:List Int))).bind fun i6=>
   some (true,(i6))
   ) ((([]:List Int):List Int))).bind fun x5=>
  some (x5)
  ) fun l5=>
 some (l5)
def f114 (x0:List Int) (x1:Int) (x2:Int):Option ((List Int)):=
 lp (σ:=(List Int) × Int × Int) (fun k1 (u3,o0,i3)=>
  jn (σ:=Unit) (fun _=>
   (idx u3 i3).bind fun y7=>
   (idx u3 o0).bind fun y9=>
   (idx u3 o0).bind fun y11=>
   (idx ((List.set u3 (Int.toNat o0) y7)) i3).bind fun m7=>
   k1 ((List.set ((List.set u3 (Int.toNat o0) y7)) (Int.toNat i3) y9),(w64 (o0 + (1:Int))),(w64 (i3 - (1:Int))))
   ) fun k4=>
  bif (decide (o0 < i3)) then
   k4 ()
  else
   some (u3)
  ) big (x0,x1,(w64 (x2 - (1:Int))))
def f126 (x0:Int):Option (Bool):=
 some ((x0 != x0))
def f15 (x0:BoxLoom):Option (BoxLoom):=
 (f50 x0).bind fun y5=>
 some (y5)
theorem en15:Enters Try.prog 15:=enters_of Try.func15 (by kernel_rfl) rfl
theorem wk15 {gI:Gh} {wI:World} {x0:BoxLoom} {up0:Value} (rp0:RV gI.m wI x0 up0) {r:BoxLoom} (h:f15 x0=some r):Fn Try.prog 15 #[up0] gI wI (fun m w v=>RV m w (r) v):=by
 unfold f15 at h
 refine fn_of_E Try.func15 rfl (Nat.le_of_ble_eq_true rfl) fun g0 hm hfr=>?_
 have rp0:RV g0.m wI x0 up0:=hm ▸ rp0
 show E _ 5 none _ _ _ _ _
 refine Zf (Za (Ze .plain rfl (D_box (g:=g0) rfl rp0 fun g1 w1 p1 hs q1=>?_)))
 have hfr:=hfr.ext hs
 refine Ze .plain rfl (D_allocOc (g:=g1) 2002 (⟨[],[],[]⟩:BoxLoom) Try.zeroValue25 (fun m w=>⟨_,(rep_two rep_nil (rep_two rep_nil rep_nil)),rfl⟩) fun g2 w2 p2 hs b2 cb=>?_)
 have hfr:=hfr.stp hs
 have q1:=q1.stp hs
 have o0:OSF 2002 60200 0 g2 w2 3 25 ([]:List Int) p2:=cb.osf (by rfl)
 have i3:OSF 2002 60201 1 g2 w2 3 25 ([]:List Int) p2:=cb.osf (by rfl)
 have u3:OSF 2002 60202 2 g2 w2 87 25 ([]:List BoxShuttle) p2:=cb.osf (by rfl)
 clear cb
 refine Zb (Zd (Zf (Za (Ze .plain rfl (D_load (g:=g2) Try.isAgg25 Try.sizeOf25 rfl q1 fun v3 r3=>?_)))))
 obtain ⟨y5,hy5,h⟩:=bsome h
 refine Ze .plain rfl (Zp (g:=g2) (vs:=[v3]) en50 (.cons rfl .nil) (wk50 r3 hy5) fun g4 w4_ v4 hs hr=>?_)
 have hfr:=hfr.ext hs
 have b2:=b2.ext hs
 have r4:=hr
 refine Ze .plain rfl (D_storeOc (g:=g4) (v:=v4) Try.sizeOf25 rfl b2 rfl r4 fun g6 w6 hs b6 cb=>?_)
 clear cb
 have hfr:=hfr.stp hs
 refine Zb (Zd (E_ret ?_))
 obtain rfl:=sinj h
 obtain ⟨ad7,cv7,hp7,hl7,cr7⟩:=ob_read Try.isAgg25 Try.sizeOf25 b6
 exact endm_c rfl rfl ((show _=p2 from rfl).trans hp7) hl7 ⟨_,hfr,cr7⟩
def f18 (x0:BoxLoom) (x1:BoxLoom):Option (Bool):=
 jn (σ:=Unit) (fun _=>
  jn (σ:=Unit) (fun _=>
   some (true)
   ) fun m8=>
  lp (σ:=Int) (fun n8 o0=>
   jn (σ:=Unit) (fun _=>
    jn (σ:=Unit) (fun _=>
     n8 ((w64 (o0 + (1:Int))))
     ) fun o8=>
    (idx ((x0).Shuttles) o0).bind fun y186=>
    (idx ((x1).Shuttles) o0).bind fun j7=>
    bif (!(decide (y186 = j7))) then
     some (false)
    else
     o8 ()
    ) fun q8=>
   bif (decide (o0 < (((x0).Shuttles).length : Int))) then
    q8 ()
   else
    m8 ()
   ) big ((0:Int))
  ) fun zA=>
 Option.bind (α:=Bool) (
  (f19 ((x0).Boxes) ((x1).Boxes)).bind fun v6=>
  bif (!v6) then
   some (true)
  else
   (f19 ((x0).At) ((x1).At)).bind fun x5=>
   bif (!x5) then
    some (true)
   else
    some (((((x0).Shuttles).length:Int) != (((x1).Shuttles).length:Int)))
  ) fun i5=>
 bif i5 then
  some (false)
 else
  zA ()
theorem en18:Enters Try.prog 18:=enters_of Try.func18 (by kernel_rfl) rfl
theorem wk18 {gI:Gh} {wI:World} {x0:BoxLoom} {x1:BoxLoom} {up0:Value} (rp0:RV gI.m wI x0 up0) {up1:Value} (rp1:RV gI.m wI x1 up1) {r:Bool} (h:f18 x0 x1=some r):Fn Try.prog 18 #[up0,up1] gI wI (fun _ _ v=>v=.bool (r)):=by
 unfold f18 at h
 refine fn_of_E Try.func18 rfl (Nat.le_of_ble_eq_true rfl) fun g0 hm hfr=>?_
 have rp0:RV g0.m wI x0 up0:=hm ▸ rp0
 have rp1:RV g0.m wI x1 up1:=hm ▸ rp1
 show E _ 47 none _ _ _ _ _
 refine Zf (Za (Ze .plain rfl (D_box (g:=g0) rfl rp0 fun g1 w1 p1 hs q1=>?_)))
 have hfr:=hfr.ext hs
 have rp1:=rp1.ext hs
 refine Ze .plain rfl (D_box (g:=g1) rfl rp1 fun g2 w2 p2 hs q2=>?_)
 have hfr:=hfr.ext hs
 have q1:=q1.ext hs
 refine Zg (.bool false) rfl rfl ?_
 refine Zb (Zd (Zq h (fun (s:Unit) e w=>∃ (g:Gh) ,Fr gI wI g w∧e 2=p1∧PT g.m w (x0:BoxLoom) p1∧e 3=p2∧PT g.m w (x1:BoxLoom) p2) (fun X41 zA aB h=>?_) ?_))
 ·obtain ⟨i5, hx, h⟩ := bsome h
  refine E_join (fun e w=>∃ (g:Gh) ,Fr gI wI g w∧e 2=p1∧PT g.m w (x0:BoxLoom) p1∧e 3=p2∧PT g.m w (x1:BoxLoom) p2∧e 28=.bool (i5)) (fun Q' hQ=>?_) (fun jD yD hR=>?_)
  ·replace h := hx
   clear hx
   refine Za (EL_p (fPtr p1 0) (Zc at_25_0 rfl (PT.ptr q1)) rfl ?_)
   have cC:=Zm (part_BoxLoom_0).1 q1
   refine Ze .plain rfl (D_load (g:=g2) Try.isAgg22 Try.sizeOf22 rfl cC fun dC eC=>?_)
   refine EL_p (fPtr p2 0) (Zc at_25_0 rfl (PT.ptr q2)) rfl ?_
   have q62:=Zm (part_BoxLoom_0).1 q2
   refine Ze .plain rfl (D_load (g:=g2) Try.isAgg22 Try.sizeOf22 rfl q62 fun iC jC=>?_)
   obtain ⟨v6,bB,h⟩:=bsome h
   refine Ze .plain rfl (Zp (g:=g2) (vs:=[dC,iC]) en19 (.cons rfl (.cons rfl .nil)) (wk19 eC jC bB) fun g8 kD zD hs hr=>?_)
   have hfr:=hfr.ext hs
   have q1:=q1.ext hs
   have q2:=q2.ext hs
   subst hr
   refine EL_p (.bool (!v6)) (P_not rfl) rfl ?_
   refine Zn (.bool (!v6)) rfl rfl ?_
   rcases Zt h with ⟨u3,h⟩ | ⟨u3,h⟩
   ·refine EL_s rfl rfl u3 rfl rfl ?_
    iterate 5 refine EL_s rfl rfl u3 rfl rfl ?_
    refine EL_p (.bool true) (Zl (b:=(!v6)) rfl (pick_t u3 rfl)) rfl ?_
    refine EL_dead 9 rfl ?_
    refine Zb ?_
    obtain rfl:=sinj h
    exact hQ _ _ ⟨g8,hfr,rfl,q1,rfl,q2,rfl⟩
   ·refine EL_y (fPtr p1 1) (Zc at_25_1 rfl (PT.ptr q1)) rfl rfl u3 rfl ?_
    have kC:=Zm (part_BoxLoom_1).1 q1
    refine Ze (.yes2 rfl rfl u3) rfl (D_load (g:=g8) Try.isAgg22 Try.sizeOf22 rfl kC fun lC mC=>?_)
    refine EL_y (fPtr p2 1) (Zc at_25_1 rfl (PT.ptr q2)) rfl rfl u3 rfl ?_
    have qC:=Zm (part_BoxLoom_1).1 q2
    refine Ze (.yes2 rfl rfl u3) rfl (D_load (g:=g8) Try.isAgg22 Try.sizeOf22 rfl qC fun rC tC=>?_)
    obtain ⟨x5,cB,h⟩:=bsome h
    refine Ze (.yes2 rfl rfl u3) rfl (Zp (g:=g8) (vs:=[lC,rC]) en19 (.cons rfl (.cons rfl .nil)) (wk19 mC tC cB) fun i8 lD aE hs hr=>?_)
    have hfr:=hfr.ext hs
    have q1:=q1.ext hs
    have q2:=q2.ext hs
    subst hr
    refine EL_y (.bool (!x5)) (P_not rfl) rfl rfl u3 rfl ?_
    refine EL_p (.bool (!x5)) (Zl (b:=(!v6)) rfl (pick_f u3 rfl)) rfl ?_
    refine Zn (.bool (!x5)) rfl rfl ?_
    rcases Zt h with ⟨i3,h⟩ | ⟨i3,h⟩
    ·refine EL_s rfl rfl i3 rfl rfl ?_
     iterate 6 refine EL_s rfl rfl i3 rfl rfl ?_
     refine EL_p (.bool true) (Zl (b:=(!x5)) rfl (pick_t i3 rfl)) rfl ?_
     refine Zb ?_
     obtain rfl:=sinj h
     exact hQ _ _ ⟨i8,hfr,rfl,q1,rfl,q2,rfl⟩
    ·refine EL_y (fPtr p1 2) (Zc at_25_2 rfl (PT.ptr q1)) rfl rfl i3 rfl ?_
     have uC:=Zm (part_BoxLoom_2).1 q1
     refine Ze (.yes2 rfl rfl i3) rfl (D_load (g:=i8) Try.isAgg23 Try.sizeOf23 rfl uC fun bE vC=>?_)
     refine EL_y (.int .i64 (((x0).Shuttles).length:Int)) (P_len Try.underlying23 rfl vC) rfl rfl i3 rfl ?_
     refine EL_y (fPtr p2 2) (Zc at_25_2 rfl (PT.ptr q2)) rfl rfl i3 rfl ?_
     have xC:=Zm (part_BoxLoom_2).1 q2
     refine Ze (.yes2 rfl rfl i3) rfl (D_load (g:=i8) Try.isAgg23 Try.sizeOf23 rfl xC fun cE yC=>?_)
     refine EL_y (.int .i64 (((x1).Shuttles).length:Int)) (P_len Try.underlying23 rfl yC) rfl rfl i3 rfl ?_
     refine EL_y (.bool (((((x0).Shuttles).length:Int) != (((x1).Shuttles).length:Int)))) (P_int rfl rfl rfl) rfl rfl i3 rfl ?_
     refine EL_p (.bool (((((x0).Shuttles).length:Int) != (((x1).Shuttles).length:Int)))) (Zl (b:=(!x5)) rfl (pick_f i3 rfl)) rfl ?_
     refine Zb ?_
     obtain rfl:=sinj h
     exact hQ _ _ ⟨i8,hfr,rfl,q1,rfl,q2,rfl⟩
  ·clear hx
   obtain ⟨aD,hfr,u9,y9,z9,bA,a7⟩:=hR
   rcases Zt h with ⟨m7,h⟩ | ⟨m7,h⟩
   ·refine E_cond_true (Eq.trans (show ev _ _ = .bool (i5) from a7) (congrArg Value.bool m7)) ?_
    refine Zf (Za (Zg (.bool false) rfl rfl ?_))
    refine Zb (Zd (E_ret (thn_r ?_)))
    obtain rfl:=sinj h
    exact end1 rfl rfl (show _=.bool false from rfl) ⟨_,hfr,rfl⟩
   ·refine E_cond_false (Eq.trans (show ev _ _ = .bool (i5) from a7) (congrArg Value.bool m7)) ?_
    exact Zu (Zd (aB () _ _ ⟨aD,hfr,u9,y9,z9,bA⟩ h))
 ·rintro _ mD dE ⟨bD, hfr, gA, iA, jA, mA⟩ h
  refine Zq h (fun (s:Unit) e w=>∃ (g:Gh) ,Fr gI wI g w) (fun X146 m8 nA h=>?_) ?_
  ·refine Zf (Za (Zg (.int .i64 (0)) rfl rfl ?_))
   refine Zb (Zd (Zr ?_))
   refine E_lp h (fun (s:Int) e w=>∃ (g:Gh) ,Fr gI wI g w∧e 2=p1∧PT g.m w (x0:BoxLoom) p1∧e 3=p2∧PT g.m w (x1:BoxLoom) p2∧e 5=.int .i64 (s)) ⟨bD,hfr,gA,iA,jA,mA,rfl⟩ (fun X147 n8 oA=>?_)
   rintro o0 cD nD ⟨v7,hfr,b7,i6,r8,t8,d7⟩ h
   refine Zq h (fun (s:Unit) e w=>∃ (g:Gh) ,Fr gI wI g w∧e 2=p1∧PT g.m w (x0:BoxLoom) p1∧e 3=p2∧PT g.m w (x1:BoxLoom) p2∧e 5=.int .i64 (o0)) (fun X152 q8 pA h=>?_) ?_
   ·refine Zf (Za (Zo d7 rfl ?_))
    refine EL_p (fPtr p1 2) (Zc at_25_2 b7 (PT.ptr i6)) rfl ?_
    have dB:=Zm (part_BoxLoom_2).1 i6
    refine Ze .plain rfl (D_load (g:=v7) Try.isAgg23 Try.sizeOf23 rfl dB fun oD eB=>?_)
    refine EL_p (.int .i64 (((x0).Shuttles).length:Int)) (P_len Try.underlying23 rfl eB) rfl ?_
    refine EL_p (.bool ((decide (o0 < (((x0).Shuttles).length:Int))))) (P_int rfl rfl rfl) rfl ?_
    refine Zb (Zd ?_)
    rcases Zt h with ⟨x6,h⟩ | ⟨x6,h⟩
    ·refine E_ct x6 rfl ?_
     exact Zu (Zd (pA () _ _ ⟨v7,hfr,b7,i6,r8,t8,d7⟩ h))
    ·refine E_cf x6 rfl ?_
     refine E_exit ?_
     refine thn_e ?_
     refine thn_e ?_
     refine blk_hit ?_
     exact Zd (nA () _ _ ⟨v7,hfr⟩ h)
   ·rintro _ eD sD ⟨iB, hfr, g7, l5, i7, t5, j6⟩ h
    refine Zq h (fun (s:Unit) e w=>∃ (g:Gh) ,Fr gI wI g w∧e 2=p1∧PT g.m w (x0:BoxLoom) p1∧e 3=p2∧PT g.m w (x1:BoxLoom) p2∧e 5=.int .i64 (o0)) (fun X183 o8 qA h=>?_) ?_
    ·refine Zr ?_
     refine Zf ?_
     have jB:=Zm (part_BoxLoom_2).1 l5
     refine Zs (x:=.tmp 36) Try.isAgg23 Try.sizeOf23 jB fun v8 x8 rA=>?_
     obtain ⟨y186,k8,h⟩:=bsome h
     have lB:=PT_idx x8 k8
     refine Zs (x:=.tmp 39) Try.isAgg87 Try.sizeOf87 lB fun mB nB uA=>?_
     have oB:=Zm (part_BoxLoom_2).1 t5
     refine Zs (x:=.tmp 41) Try.isAgg23 Try.sizeOf23 oB fun y8 a9 xA=>?_
     obtain ⟨j7,l8,h⟩:=bsome h
     have tB:=PT_idx a9 l8
     refine Zs (x:=.tmp 44) Try.isAgg87 Try.sizeOf87 tB fun vB yB yA=>?_
     refine E_drawL (g:=iB) (n:=11) [] [0,1,2,3,4,5,6,7,8,9,10] rfl mixed (by kernel_rfl) trivial ?_
     refine L_p (fPtr p1 2) rfl rfl (Zc at_25_2 g7 (PT.ptr l5)) ?_
     refine L_ld (c:=v8) rfl rfl .plain (fun _ _ h=>h.ch) rA rfl ?_
     refine L_p (.int .i64 (o0)) rfl rfl (Zk j6) ?_
     refine L_p (ePtr v8 o0 5) rfl rfl (Zh (α:=BoxShuttle) Try.underlying23 Try.sizeOf87 rfl x8 rfl k8) ?_
     refine L_ld (c:=mB) rfl rfl .plain (fun _ _ h=>h.ch) uA rfl ?_
     refine L_p (fPtr p2 2) rfl rfl (Zc at_25_2 i7 (PT.ptr t5)) ?_
     refine L_ld (c:=y8) rfl rfl .plain (fun _ _ h=>h.ch) xA rfl ?_
     refine L_p (.int .i64 (o0)) rfl rfl (Zk j6) ?_
     refine L_p (ePtr y8 o0 5) rfl rfl (Zh (α:=BoxShuttle) Try.underlying23 Try.sizeOf87 rfl a9 rfl l8) ?_
     refine L_ld (c:=vB) rfl rfl .plain (fun _ _ h=>h.ch) yA rfl ?_
     refine L_p (.bool ((!(decide (y186=j7))))) rfl rfl (P_neD eqd_87 rfl rfl eg_87 rfl rfl nB yB) ?_
     refine L_nl fun zB tD hs=>?_
     have hfr:=hfr.ext hs
     have l5:=l5.ext hs
     have t5:=t5.ext hs
     clear hs
     refine Zb (Zd ?_)
     rcases Zt h with ⟨y6,h⟩ | ⟨y6,h⟩
     ·refine E_ct y6 rfl ?_
      refine Zf (Za (Zg (.bool false) rfl rfl ?_))
      refine Zb (Zd (E_ret (blk_r ?_)))
      refine thn_r ?_
      refine thn_r ?_
      refine blk_r ?_
      refine thn_r ?_
      obtain rfl:=sinj h
      exact end1 rfl rfl (show _=.bool false from rfl) ⟨_,hfr,rfl⟩
     ·refine E_cf y6 rfl ?_
      exact Zu (blk_n (Zd (qA () _ _ ⟨zB,hfr,g7,l5,i7,t5,j6⟩ h)))
    ·rintro _ gD uD ⟨aC, hfr, d9, i9, k9, l9, n9⟩ h
     refine Za (Zo n9 rfl ?_)
     refine EL_in (.int .i64 ((w64 (o0 + (1:Int))))) rfl rfl rfl rfl ?_
     refine Zg (.int .i64 ((w64 (o0 + (1:Int))))) rfl rfl ?_
     exact Zb (Zd (oA ((w64 (o0 + (1:Int)))) _ _ ⟨aC,hfr,d9,i9,k9,l9,rfl⟩ h))
  ·rintro _ iD vD ⟨xD, hfr⟩ h
   refine Zf (Za (Zg (.bool true) rfl rfl ?_))
   refine Zb (Zd (E_ret ?_))
   obtain rfl:=sinj h
   exact end1 rfl rfl (show _=.bool true from rfl) ⟨_,hfr,rfl⟩
def f20 (x0:BoxLoom):Option (Int):=
 jn (σ:=Unit) (fun _=>
  jn (σ:=Unit) (fun _=>
   jn (σ:=Unit) (fun _=>
    jn (σ:=Unit) (fun _=>
     jn (σ:=Unit) (fun _=>
      jn (σ:=Unit) (fun _=>
       some ((0:Int))
       ) fun kE=>
      lp (σ:=Int) (fun lE u3=>
       jn (σ:=Unit) (fun _=>
        jn (σ:=Unit) (fun _=>
         lE ((w64 (u3 + (1:Int))))
         ) fun mE=>
        lp (σ:=Int) (fun nE l5=>
         jn (σ:=Unit) (fun _=>
          jn (σ:=Unit) (fun _=>
           nE ((w64 (l5 + (1:Int))))
           ) fun oE=>
          Option.bind (α:=Bool) (
           (idx ((x0).Shuttles) u3).bind fun i8=>
           (idx ((x0).Shuttles) l5).bind fun k8=>
           bif ((i8).Side == (k8).Side) then
            (idx ((x0).Shuttles) u3).bind fun z9=>
            (idx ((x0).Shuttles) l5).bind fun bA=>
            some (((z9).Box == (bA).Box))
           else
            some (false)
           ) fun l8=>
          bif l8 then
           some ((6:Int))
          else
           oE ()
          ) fun rE=>
         bif (decide (l5 < u3)) then
          rE ()
         else
          mE ()
         ) big ((0:Int))
        ) fun sE=>
       bif (decide (u3 < (((x0).Shuttles).length : Int))) then
        sE ()
       else
        kE ()
       ) big ((0:Int))
      ) fun tE=>
     bif ((((x0).Shuttles).length : Int) == (0 : Int)) then
      some ((2:Int))
     else
      tE ()
     ) fun uE=>
    lp (σ:=Int) (fun vE d7=>
     jn (σ:=Unit) (fun _=>
      jn (σ:=Unit) (fun _=>
       vE ((w64 (d7 + (1:Int))))
       ) fun xE=>
      (idx ((x0).Shuttles) d7).bind fun o0=>
      Option.bind (α:=Bool) (
       (f59 ((o0).Colour) ((0:Int)) ((9:Int))).bind fun x5=>
       bif (!x5) then
        some (true)
       else
        (f59 ((o0).Side) ((0:Int)) ((1:Int))).bind fun i6=>
        bif (!i6) then
         some (true)
        else
         (idx ((x0).Boxes) (o0).Side).bind fun g8=>
         (f59 ((o0).Box) ((0:Int)) ((w64 (g8 - (1:Int))))).bind fun b7=>
         bif (!b7) then
          some (true)
         else
          (f59 (((o0).Yarn).Low) ((0:Int)) (((o0).Yarn).High)).bind fun j7=>
          bif (!j7) then
           some (true)
          else
           some ((decide (((o0).Yarn).High > (1000:Int))))
       ) fun q8=>
      bif q8 then
       some ((2:Int))
      else
       xE ()
      ) fun yE=>
     bif (decide (d7 < (((x0).Shuttles).length : Int))) then
      yE ()
     else
      uE ()
     ) big ((0:Int))
    ) fun uG=>
   bif (decide ((((x0).Shuttles).length : Int) > (6 : Int))) then
    some ((5:Int))
   else
    uG ()
   ) fun vG=>
  lp (σ:=Int) (fun xG j6=>
   jn (σ:=Unit) (fun _=>
    jn (σ:=Unit) (fun _=>
     xG ((w64 (j6 + (1:Int))))
     ) fun yG=>
    Option.bind (α:=Bool) (
     (idx ((x0).Boxes) j6).bind fun nA=>
     (f59 nA ((1:Int)) ((4:Int))).bind fun n8=>
     bif (!n8) then
      some (true)
     else
      (idx ((x0).At) j6).bind fun qC=>
      (idx ((x0).Boxes) j6).bind fun aB=>
      (f59 qC ((0:Int)) ((w64 (aB - (1:Int))))).bind fun oA=>
      some ((!oA))
     ) fun r8=>
    bif r8 then
     some ((3:Int))
    else
     yG ()
    ) fun zG=>
   bif (decide (j6 < (2 : Int))) then
    zG ()
   else
    vG ()
   ) big ((0:Int))
  ) fun pL=>
 Option.bind (α:=Bool) (
  bif ((((x0).Boxes).length : Int) != (2 : Int)) then
   some (true)
  else
   some (((((x0).At).length:Int) != (2:Int)))
  ) fun d9=>
 bif d9 then
  some ((4:Int))
 else
  pL ()
theorem en20:Enters Try.prog 20:=enters_of Try.func20 (by kernel_rfl) rfl
theorem wk20 {gI:Gh} {wI:World} {x0:BoxLoom} {up0:Value} (rp0:RV gI.m wI x0 up0) {r:Int} (h:f20 x0=some r):Fn Try.prog 20 #[up0] gI wI (fun _ _ v=>v=.int .i64 (r)):=by
 unfold f20 at h
 refine fn_of_E Try.func20 rfl (Nat.le_of_ble_eq_true rfl) fun g0 hm hfr=>?_
 have rp0:RV g0.m wI x0 up0:=hm ▸ rp0
 show E _ 143 none _ _ _ _ _
 refine Zf (Za (Ze .plain rfl (D_box (g:=g0) rfl rp0 fun g1 w1 p1 hs q1=>?_)))
 have hfr:=hfr.ext hs
 refine Zg (.int .i64 (0)) rfl rfl ?_
 refine Zb (Zd (Zq h (fun (s:Unit) e w=>∃ (g:Gh) ,Fr gI wI g w∧e 1=p1∧PT g.m w (x0:BoxLoom) p1) (fun X14 pL qL h=>?_) ?_))
 ·obtain ⟨d9, hx, h⟩ := bsome h
  refine E_join (fun e w=>∃ (g:Gh) ,Fr gI wI g w∧e 1=p1∧PT g.m w (x0:BoxLoom) p1∧e 17=.bool (d9)) (fun Q' hQ=>?_) (fun kP dQ hR=>?_)
  ·replace h := hx
   clear hx
   refine Za (EL_p (fPtr p1 0) (Zc at_25_0 rfl (PT.ptr q1)) rfl ?_)
   have nM:=Zm (part_BoxLoom_0).1 q1
   refine Ze .plain rfl (D_load (g:=g1) Try.isAgg22 Try.sizeOf22 rfl nM fun eQ oM=>?_)
   refine EL_p (.int .i64 (((x0).Boxes).length:Int)) (P_len Try.underlying22 rfl oM) rfl ?_
   refine EL_in (.bool (((((x0).Boxes).length:Int) != (2:Int)))) rfl rfl rfl rfl ?_
   refine Zn (.bool (((((x0).Boxes).length:Int) != (2:Int)))) rfl rfl ?_
   rcases Zt h with ⟨a9,h⟩ | ⟨a9,h⟩
   ·refine EL_s rfl rfl a9 rfl rfl ?_
    iterate 3 refine EL_s rfl rfl a9 rfl rfl ?_
    refine EL_p (.bool true) (Zl (b:=((((x0).Boxes).length:Int) != (2:Int))) rfl (pick_t a9 rfl)) rfl ?_
    refine Zb ?_
    obtain rfl:=sinj h
    exact hQ _ _ ⟨g1,hfr,rfl,q1,rfl⟩
   ·refine EL_y (fPtr p1 1) (Zc at_25_1 rfl (PT.ptr q1)) rfl rfl a9 rfl ?_
    have pM:=Zm (part_BoxLoom_1).1 q1
    refine Ze (.yes2 rfl rfl a9) rfl (D_load (g:=g1) Try.isAgg22 Try.sizeOf22 rfl pM fun gQ qM=>?_)
    refine EL_y (.int .i64 (((x0).At).length:Int)) (P_len Try.underlying22 rfl qM) rfl rfl a9 rfl ?_
    refine EL_y (.bool (((((x0).At).length:Int) != (2:Int)))) (P_int rfl rfl rfl) rfl rfl a9 rfl ?_
    refine EL_p (.bool (((((x0).At).length:Int) != (2:Int)))) (Zl (b:=((((x0).Boxes).length:Int) != (2:Int))) rfl (pick_f a9 rfl)) rfl ?_
    refine Zb ?_
    obtain rfl:=sinj h
    exact hQ _ _ ⟨g1,hfr,rfl,q1,rfl⟩
  ·clear hx
   obtain ⟨rM,hfr,qI,rI,nD⟩:=hR
   rcases Zt h with ⟨iE,h⟩ | ⟨iE,h⟩
   ·refine E_cond_true (Eq.trans (show ev _ _ = .bool (d9) from nD) (congrArg Value.bool iE)) ?_
    refine Zf (Za (Zg (.int .i64 (4)) rfl rfl ?_))
    refine Zb (Zd (E_ret (thn_r ?_)))
    obtain rfl:=sinj h
    exact end1 rfl rfl (show _=.int .i64 (4) from rfl) ⟨_,hfr,rfl⟩
   ·refine E_cond_false (Eq.trans (show ev _ _ = .bool (d9) from nD) (congrArg Value.bool iE)) ?_
    exact Zu (Zd (qL () _ _ ⟨rM,hfr,qI,rI⟩ h))
 ·rintro _ lP iQ ⟨sM, hfr, sI, tI⟩ h
  refine Zq h (fun (s:Unit) e w=>∃ (g:Gh) ,Fr gI wI g w∧e 1=p1∧PT g.m w (x0:BoxLoom) p1) (fun X321 vG uI h=>?_) ?_
  ·refine Zf (Za (Zg (.int .i64 (0)) rfl rfl ?_))
   refine Zb (Zd (Zr ?_))
   refine E_lp h (fun (s:Int) e w=>∃ (g:Gh) ,Fr gI wI g w∧e 1=p1∧PT g.m w (x0:BoxLoom) p1∧e 3=.int .i64 (s)) ⟨sM,hfr,sI,tI,rfl⟩ (fun X322 xG vI=>?_)
   rintro j6 lN mP ⟨aH,hfr,oD,sD,tD⟩ h
   refine Zq h (fun (s:Unit) e w=>∃ (g:Gh) ,Fr gI wI g w∧e 1=p1∧PT g.m w (x0:BoxLoom) p1∧e 3=.int .i64 (j6)) (fun X325 zG xI h=>?_) ?_
   ·refine Zf (Za (Zo tD rfl ?_))
    refine EL_in (.bool ((decide (j6 < (2:Int))))) rfl rfl rfl rfl ?_
    refine Zb (Zd ?_)
    rcases Zt h with ⟨rC,h⟩ | ⟨rC,h⟩
    ·refine E_ct rC rfl ?_
     exact Zu (Zd (xI () _ _ ⟨aH,hfr,oD,sD,tD⟩ h))
    ·refine E_cf rC rfl ?_
     refine E_exit ?_
     refine thn_e ?_
     refine thn_e ?_
     refine blk_hit ?_
     exact Zd (uI () _ _ ⟨aH,hfr,oD,sD⟩ h)
   ·rintro _ mN nP ⟨bH, hfr, t8, i7, v8⟩ h
    refine Zq h (fun (s:Unit) e w=>∃ (g:Gh) ,Fr gI wI g w∧e 1=p1∧PT g.m w (x0:BoxLoom) p1∧e 3=.int .i64 (j6)) (fun X470 yG yI h=>?_) ?_
    ·refine Zr ?_
     obtain ⟨r8,hx,h⟩:=bsome h
     refine E_join (fun e w=>∃ (g:Gh) ,Fr gI wI g w∧e 1=p1∧PT g.m w (x0:BoxLoom) p1∧e 3=.int .i64 (j6)∧e 43=.bool (r8)) (fun Q' hQ=>?_) (fun nN oP hR=>?_)
     ·replace h := hx
      clear hx
      have rL:=Zm (part_BoxLoom_0).1 i7
      refine Zs (x:=.tmp 22) Try.isAgg22 Try.sizeOf22 rL fun tC jE zE=>?_
      obtain ⟨nA,uC,h⟩:=bsome h
      have tL:=PT_idx jE uC
      refine Zs (x:=.tmp 25) Try.isAgg3 Try.sizeOf3 tL fun pP uL cF=>?_
      obtain rfl:=Zj.1 uL
      obtain ⟨n8,dF,h⟩:=bsome h
      rcases Zt h with ⟨g7,h⟩ | ⟨g7,h⟩
      ·refine E_drawL (g := bH) (n := 22) [(5, (fun v g w => v = .bool (n8)))] [0, 1, 2, 3, 4, 5, 6, 7, 8, 9, 10, 11, 12, 13, 14, 15, 16, 17, 18, 19, 20, 21] rfl mixed (by kernel_rfl) (⟨fun _ => up_eq _, trivial⟩) ?_
       refine L_p (fPtr p1 0) rfl rfl (Zc at_25_0 t8 (PT.ptr i7)) ?_
       refine L_ld (c:=tC) rfl rfl .plain (fun _ _ h=>h.ch) zE rfl ?_
       refine L_p (.int .i64 (j6)) rfl rfl (Zk v8) ?_
       refine L_p (ePtr tC j6 1) rfl rfl (Zh (α:=Int) Try.underlying22 Try.sizeOf3 rfl jE rfl uC) ?_
       refine L_ld (c:=.int .i64 (nA)) rfl rfl .plain (fun _ _ h=>h.ch) cF rfl ?_
       refine L_do (φ:=fun v g w=>v=.bool (n8)) rfl rfl .plain (fun g w hd=>Zp (g:=g) (vs:=[.int .i64 (nA),.int .i64 (1),.int .i64 (4)]) en59 (.cons rfl (.cons rfl (.cons rfl .nil))) (wk59  dF) fun g' w' v hs hr=>⟨g',hs,hr⟩) (fun vL hv=>?_)
       obtain ⟨_,_,_,rfl⟩:=hv
       refine L_p (.bool (!n8)) rfl rfl (P_not rfl) ?_
       refine L_p (.bool (!n8)) rfl rfl (Zk rfl) ?_
       iterate 13 refine L_s rfl rfl rfl g7 rfl ?_
       refine L_p (.bool true) rfl rfl (Zl (b:=(!n8)) rfl (pick_t g7 rfl)) ?_
       refine L_nl fun xL sP hs=>?_
       have hfr:=hfr.ext hs
       have i7:=i7.ext hs
       clear hs
       refine Zb ?_
       obtain rfl:=sinj h
       exact hQ _ _ ⟨xL,hfr,t8,i7,v8,rfl⟩
      ·have yL := Zm (part_BoxLoom_1).1 i7
       refine Zs (x:=.tmp 30) Try.isAgg22 Try.sizeOf22 yL fun cH dH zI=>?_
       obtain ⟨qC,eF,h⟩:=bsome h
       have zL:=PT_idx dH eF
       refine Zs (x:=.tmp 33) Try.isAgg3 Try.sizeOf3 zL fun tP aM aJ=>?_
       obtain rfl:=Zj.1 aM
       have bM:=Zm (part_BoxLoom_0).1 i7
       refine Zs (x:=.tmp 35) Try.isAgg22 Try.sizeOf22 bM fun gH iH bJ=>?_
       obtain ⟨aB,iF,h⟩:=bsome h
       have cM:=PT_idx iH iF
       refine Zs (x:=.tmp 38) Try.isAgg3 Try.sizeOf3 cM fun uP dM cJ=>?_
       obtain rfl:=Zj.1 dM
       obtain ⟨oA,dJ,h⟩:=bsome h
       refine E_drawL (g:=bH) (n:=22) [(5,(fun v g w=>v=.bool (n8))),(19,(fun v g w=>v=.bool (oA)))] [0,1,2,3,4,5,6,7,8,9,10,11,12,13,14,15,16,17,18,19,20,21] rfl mixed (by kernel_rfl) (⟨fun _=>up_eq _,fun _=>up_eq _,trivial⟩) ?_
       refine L_p (fPtr p1 0) rfl rfl (Zc at_25_0 t8 (PT.ptr i7)) ?_
       refine L_ld (c:=tC) rfl rfl .plain (fun _ _ h=>h.ch) zE rfl ?_
       refine L_p (.int .i64 (j6)) rfl rfl (Zk v8) ?_
       refine L_p (ePtr tC j6 1) rfl rfl (Zh (α:=Int) Try.underlying22 Try.sizeOf3 rfl jE rfl uC) ?_
       refine L_ld (c:=.int .i64 (nA)) rfl rfl .plain (fun _ _ h=>h.ch) cF rfl ?_
       refine L_do (φ:=fun v g w=>v=.bool (n8)) rfl rfl .plain (fun g w hd=>Zp (g:=g) (vs:=[.int .i64 (nA),.int .i64 (1),.int .i64 (4)]) en59 (.cons rfl (.cons rfl (.cons rfl .nil))) (wk59  dF) fun g' w' v hs hr=>⟨g',hs,hr⟩) (fun vL hv=>?_)
       obtain ⟨_,_,_,rfl⟩:=hv
       refine L_p (.bool (!n8)) rfl rfl (P_not rfl) ?_
       refine L_p (.bool (!n8)) rfl rfl (Zk rfl) ?_
       refine L_y (fPtr p1 1) rfl rfl rfl rfl g7 (Zc at_25_1 t8 (PT.ptr i7)) ?_
       refine L_ld (c:=cH) rfl rfl (.yes2 rfl rfl g7) (fun _ _ h=>h.ch) zI rfl ?_
       refine L_y (.int .i64 (j6)) rfl rfl rfl rfl g7 (Zk v8) ?_
       refine L_y (ePtr cH j6 1) rfl rfl rfl rfl g7 (Zh (α:=Int) Try.underlying22 Try.sizeOf3 rfl dH rfl eF) ?_
       refine L_ld (c:=.int .i64 (qC)) rfl rfl (.yes2 rfl rfl g7) (fun _ _ h=>h.ch) aJ rfl ?_
       refine L_y (fPtr p1 0) rfl rfl rfl rfl g7 (Zc at_25_0 t8 (PT.ptr i7)) ?_
       refine L_ld (c:=gH) rfl rfl (.yes2 rfl rfl g7) (fun _ _ h=>h.ch) bJ rfl ?_
       refine L_y (.int .i64 (j6)) rfl rfl rfl rfl g7 (Zk v8) ?_
       refine L_y (ePtr gH j6 1) rfl rfl rfl rfl g7 (Zh (α:=Int) Try.underlying22 Try.sizeOf3 rfl iH rfl iF) ?_
       refine L_ld (c:=.int .i64 (aB)) rfl rfl (.yes2 rfl rfl g7) (fun _ _ h=>h.ch) cJ rfl ?_
       refine L_y (.int .i64 ((w64 (aB - (1:Int))))) rfl rfl rfl rfl g7 (P_int rfl rfl rfl) ?_
       refine L_do (φ:=fun v g w=>v=.bool (oA)) rfl rfl (.yes2 rfl rfl g7) (fun g w hd=>Zp (g:=g) (vs:=[.int .i64 (qC),.int .i64 (0),.int .i64 ((w64 (aB - (1:Int))))]) en59 (.cons rfl (.cons rfl (.cons rfl .nil))) (wk59  dJ) fun g' w' v hs hr=>⟨g',hs,hr⟩) (fun vP hv=>?_)
       obtain ⟨_,_,_,rfl⟩:=hv
       refine L_y (.bool (!oA)) rfl rfl rfl rfl g7 (P_not rfl) ?_
       refine L_p (.bool (!oA)) rfl rfl (Zl (b:=(!n8)) rfl (pick_f g7 rfl)) ?_
       refine L_nl fun eM xP hs=>?_
       have hfr:=hfr.ext hs
       have i7:=i7.ext hs
       clear hs
       refine Zb ?_
       obtain rfl:=sinj h
       exact hQ _ _ ⟨eM,hfr,t8,i7,v8,rfl⟩
     ·clear hx
      obtain ⟨gM,hfr,jH,kH,lH,cC⟩:=hR
      rcases Zt h with ⟨vC,h⟩ | ⟨vC,h⟩
      ·refine E_cond_true (Eq.trans (show ev _ _ = .bool (r8) from cC) (congrArg Value.bool vC)) ?_
       refine Zf (Za (Zg (.int .i64 (3)) rfl rfl ?_))
       refine Zb (Zd (E_ret (blk_r ?_)))
       refine thn_r ?_
       refine thn_r ?_
       refine blk_r ?_
       refine thn_r ?_
       obtain rfl:=sinj h
       exact end1 rfl rfl (show _=.int .i64 (3) from rfl) ⟨_,hfr,rfl⟩
      ·refine E_cond_false (Eq.trans (show ev _ _ = .bool (r8) from cC) (congrArg Value.bool vC)) ?_
       exact Zu (blk_n (Zd (yI () _ _ ⟨gM,hfr,jH,kH,lH⟩ h)))
    ·rintro _ oN yP ⟨iM, hfr, mH, nH, oH⟩ h
     refine Za (Zo oH rfl ?_)
     refine EL_in (.int .i64 ((w64 (j6 + (1:Int))))) rfl rfl rfl rfl ?_
     refine Zg (.int .i64 ((w64 (j6 + (1:Int))))) rfl rfl ?_
     exact Zb (Zd (vI ((w64 (j6 + (1:Int)))) _ _ ⟨iM,hfr,mH,nH,rfl⟩ h))
  ·rintro _ pN zP ⟨pH, hfr, uD, bB⟩ h
   refine Zq h (fun (s:Unit) e w=>∃ (g:Gh) ,Fr gI wI g w∧e 1=p1∧PT g.m w (x0:BoxLoom) p1) (fun X618 uG eJ h=>?_) ?_
   ·refine Zf (Za (EL_p (fPtr p1 2) (Zc at_25_2 uD (PT.ptr bB)) rfl ?_))
    have jM:=Zm (part_BoxLoom_2).1 bB
    refine Ze .plain rfl (D_load (g:=pH) Try.isAgg23 Try.sizeOf23 rfl jM fun bQ kM=>?_)
    refine EL_p (.int .i64 (((x0).Shuttles).length:Int)) (P_len Try.underlying23 rfl kM) rfl ?_
    refine EL_p (.bool ((decide ((((x0).Shuttles).length:Int) > (6:Int))))) (P_int rfl rfl rfl) rfl ?_
    refine Zb (Zd ?_)
    rcases Zt h with ⟨xC,h⟩ | ⟨xC,h⟩
    ·refine E_ct xC rfl ?_
     refine Zf (Za (Zg (.int .i64 (5)) rfl rfl ?_))
     refine Zb (Zd (E_ret (thn_r ?_)))
     obtain rfl:=sinj h
     exact end1 rfl rfl (show _=.int .i64 (5) from rfl) ⟨_,hfr,rfl⟩
    ·refine E_cf xC rfl ?_
     exact Zu (Zd (eJ () _ _ ⟨pH,hfr,uD,bB⟩ h))
   ·rintro _ qN cQ ⟨mM, hfr, qH, sH⟩ h
    refine Zq h (fun (s:Unit) e w=>∃ (g:Gh) ,Fr gI wI g w∧e 1=p1∧PT g.m w (x0:BoxLoom) p1) (fun X1749 uE tH h=>?_) ?_
    ·refine Zf (Za (Zg (.int .i64 (0)) rfl rfl ?_))
     refine Zb (Zd (Zr ?_))
     refine E_lp h (fun (s:Int) e w=>∃ (g:Gh) ,Fr gI wI g w∧e 1=p1∧PT g.m w (x0:BoxLoom) p1∧e 4=.int .i64 (s)) ⟨mM,hfr,qH,sH,rfl⟩ (fun X1750 vE uH=>?_)
     rintro d7 tM rN ⟨yC,hfr,pA,l9,dC⟩ h
     refine Zq h (fun (s:Unit) e w=>∃ (g:Gh) ,Fr gI wI g w∧e 1=p1∧PT g.m w (x0:BoxLoom) p1∧e 4=.int .i64 (d7)) (fun X1755 yE vH h=>?_) ?_
     ·refine Zf (Za (Zo dC rfl ?_))
      refine EL_p (fPtr p1 2) (Zc at_25_2 pA (PT.ptr l9)) rfl ?_
      have gJ:=Zm (part_BoxLoom_2).1 l9
      refine Ze .plain rfl (D_load (g:=yC) Try.isAgg23 Try.sizeOf23 rfl gJ fun sN iJ=>?_)
      refine EL_p (.int .i64 (((x0).Shuttles).length:Int)) (P_len Try.underlying23 rfl iJ) rfl ?_
      refine EL_p (.bool ((decide (d7 < (((x0).Shuttles).length:Int))))) (P_int rfl rfl rfl) rfl ?_
      refine Zb (Zd ?_)
      rcases Zt h with ⟨cB,h⟩ | ⟨cB,h⟩
      ·refine E_ct cB rfl ?_
       exact Zu (Zd (vH () _ _ ⟨yC,hfr,pA,l9,dC⟩ h))
      ·refine E_cf cB rfl ?_
       refine E_exit ?_
       refine thn_e ?_
       refine thn_e ?_
       refine blk_hit ?_
       exact Zd (tH () _ _ ⟨yC,hfr,pA,l9⟩ h)
     ·rintro _ uM tN ⟨aD, hfr, m7, i5, o8⟩ h
      refine Zq h (fun (s:Unit) e w=>∃ (g:Gh) ,Fr gI wI g w∧e 1=p1∧PT g.m w (x0:BoxLoom) p1∧e 4=.int .i64 (d7)) (fun X2317 xE xH h=>?_) ?_
      ·refine Zr ?_
       refine Zf (Za (EL_p (fPtr p1 2) (Zc at_25_2 m7 (PT.ptr i5)) rfl ?_))
       have jJ:=Zm (part_BoxLoom_2).1 i5
       refine Ze .plain rfl (D_load (g:=aD) Try.isAgg23 Try.sizeOf23 rfl jJ fun kJ nF=>?_)
       refine Zo o8 rfl ?_
       obtain ⟨o0,vD,h⟩:=bsome h
       refine EL_p (ePtr kJ d7 5) (Zh (α:=BoxShuttle) Try.underlying23 Try.sizeOf87 rfl nF rfl vD) rfl ?_
       have lJ:=PT_idx nF vD
       refine Ze .plain rfl (D_load (g:=aD) Try.isAgg87 Try.sizeOf87 rfl lJ fun mJ bD=>?_)
       refine Ze .plain rfl (D_allocOc (g:=aD) 2005 (⟨0,0,0,⟨0,0⟩⟩:BoxShuttle) Try.zeroValue87 (fun m w=>⟨_,(rep_two rep_int (rep_two rep_int (rep_two rep_int (rep_two rep_int rep_int)))),rfl⟩) fun nJ uN x6 hs b2323 cb=>?_)
       have hfr:=hfr.stp hs
       have i5:=i5.stp hs
       have bD:=bD.stp hs
       clear cb
       refine Ze .plain rfl (D_storeOc (g:=nJ) (v:=mJ) Try.sizeOf87 rfl b2323 rfl bD fun gA vN hs b2324 cb=>?_)
       clear cb
       have hfr:=hfr.stp hs
       have i5:=i5.stp hs
       refine Zb (Zd ?_)
       obtain ⟨q8,hx,h⟩:=bsome h
       refine E_join (fun e w=>∃ (g:Gh) ,Fr gI wI g w∧e 1=p1∧PT g.m w (x0:BoxLoom) p1∧e 4=.int .i64 (d7)∧e 98=.bool (q8)) (fun Q' hQ=>?_) (fun vM xN hR=>?_)
       ·replace h := hx
        clear hx
        refine L_loadO (x:=.tmp 60) part_BoxShuttle_0.1 Try.isAgg3 Try.sizeOf3 b2324 fun yN oJ i9=>?_
        obtain rfl:=Zj.1 oJ
        obtain ⟨x5,k9,h⟩:=bsome h
        rcases Zt h with ⟨t5,h⟩ | ⟨t5,h⟩
        ·refine E_drawL (g := gA) (n := 39) [(2, (fun v g w => v = .bool (x5)))] [0, 1, 2, 3, 4, 5, 6, 7, 8, 9, 10, 11, 12, 13, 14, 15, 16, 17, 18, 19, 20, 21, 22, 23, 24, 25, 26, 27, 28, 29, 30, 31, 32, 33, 34, 35, 36, 37, 38] rfl mixed (by kernel_rfl) (⟨fun _ => up_eq _, trivial⟩) ?_
         refine L_p (fPtr x6 0) rfl rfl (Zc at_87_0 rfl (OB.ptr b2324)) ?_
         refine L_ld (c:=.int .i64 ((o0).Colour)) rfl rfl .plain (fun _ _ h=>⟨h.ch,fun b hb _=>h.below.block b hb⟩) i9 rfl ?_
         refine L_do (φ:=fun v g w=>v=.bool (x5)) rfl rfl .plain (fun g w hd=>Zp (g:=g) (vs:=[.int .i64 ((o0).Colour),.int .i64 (0),.int .i64 (9)]) en59 (.cons rfl (.cons rfl (.cons rfl .nil))) (wk59  k9) fun g' w' v hs hr=>⟨g',hs,hr⟩) (fun yA hv=>?_)
         obtain ⟨_,_,_,rfl⟩:=hv
         refine L_p (.bool (!x5)) rfl rfl (P_not rfl) ?_
         refine L_p (.bool (!x5)) rfl rfl (Zk rfl) ?_
         iterate 4 refine L_s rfl rfl rfl t5 rfl ?_
         refine L_p (.bool true) rfl rfl (Zl (b:=(!x5)) rfl (pick_t t5 rfl)) ?_
         refine L_dead (fun _=>rfl) 29 rfl ?_
         refine L_nl fun pJ zN hs=>?_
         have hfr:=hfr.ext hs
         have i5:=i5.ext hs
         clear hs
         refine Zb ?_
         obtain rfl:=sinj h
         exact hQ _ _ ⟨pJ,hfr,m7,i5,o8,rfl⟩
        ·refine L_loadO (x := .tmp 65) part_BoxShuttle_1.1 Try.isAgg3 Try.sizeOf3 b2324 fun aO qJ iA => ?_
         obtain rfl:=Zj.1 qJ
         obtain ⟨i6,jA,h⟩:=bsome h
         rcases Zt h with ⟨i3,h⟩ | ⟨i3,h⟩
         ·refine E_drawL (g := gA) (n := 39) [(2, (fun v g w => v = .bool (x5))), (7, (fun v g w => v = .bool (i6)))] [0, 1, 2, 3, 4, 5, 6, 7, 8, 9, 10, 11, 12, 13, 14, 15, 16, 17, 18, 19, 20, 21, 22, 23, 24, 25, 26, 27, 28, 29, 30, 31, 32, 33, 34, 35, 36, 37, 38] rfl mixed (by kernel_rfl) (⟨fun _ => up_eq _, fun _ => up_eq _, trivial⟩) ?_
          refine L_p (fPtr x6 0) rfl rfl (Zc at_87_0 rfl (OB.ptr b2324)) ?_
          refine L_ld (c:=.int .i64 ((o0).Colour)) rfl rfl .plain (fun _ _ h=>⟨h.ch,fun b hb _=>h.below.block b hb⟩) i9 rfl ?_
          refine L_do (φ:=fun v g w=>v=.bool (x5)) rfl rfl .plain (fun g w hd=>Zp (g:=g) (vs:=[.int .i64 ((o0).Colour),.int .i64 (0),.int .i64 (9)]) en59 (.cons rfl (.cons rfl (.cons rfl .nil))) (wk59  k9) fun g' w' v hs hr=>⟨g',hs,hr⟩) (fun yA hv=>?_)
          obtain ⟨_,_,_,rfl⟩:=hv
          refine L_p (.bool (!x5)) rfl rfl (P_not rfl) ?_
          refine L_p (.bool (!x5)) rfl rfl (Zk rfl) ?_
          refine L_y (fPtr x6 1) rfl rfl rfl rfl t5 (Zc at_87_1 rfl (OB.ptr b2324)) ?_
          refine L_ld (c:=.int .i64 ((o0).Side)) rfl rfl (.yes2 rfl rfl t5) (fun _ _ h=>⟨h.ch,fun b hb _=>h.below.block b hb⟩) iA rfl ?_
          refine L_do (φ:=fun v g w=>v=.bool (i6)) rfl rfl (.yes2 rfl rfl t5) (fun g w hd=>Zp (g:=g) (vs:=[.int .i64 ((o0).Side),.int .i64 (0),.int .i64 (1)]) en59 (.cons rfl (.cons rfl (.cons rfl .nil))) (wk59  jA) fun g' w' v hs hr=>⟨g',hs,hr⟩) (fun cD hv=>?_)
          obtain ⟨_,_,_,rfl⟩:=hv
          refine L_y (.bool (!i6)) rfl rfl rfl rfl t5 (P_not rfl) ?_
          refine L_p (.bool (!i6)) rfl rfl (Zl (b:=(!x5)) rfl (pick_f t5 rfl)) ?_
          refine L_p (.bool (!i6)) rfl rfl (Zk rfl) ?_
          iterate 11 refine L_s rfl rfl rfl i3 rfl ?_
          refine L_p (.bool true) rfl rfl (Zl (b:=(!i6)) rfl (pick_t i3 rfl)) ?_
          refine L_dead (fun _=>rfl) 16 rfl ?_
          refine L_nl fun rJ bO hs=>?_
          have hfr:=hfr.ext hs
          have i5:=i5.ext hs
          clear hs
          refine Zb ?_
          obtain rfl:=sinj h
          exact hQ _ _ ⟨rJ,hfr,m7,i5,o8,rfl⟩
         ·refine L_loadO (x := .tmp 71) part_BoxShuttle_2.1 Try.isAgg3 Try.sizeOf3 b2324 fun cO sJ dB => ?_
          obtain rfl:=Zj.1 sJ
          have tJ:=Zm (part_BoxLoom_0).1 i5
          refine Zs (x:=.tmp 73) Try.isAgg22 Try.sizeOf22 tJ fun n9 zA eB=>?_
          refine L_loadO (x:=.tmp 75) part_BoxShuttle_1.1 Try.isAgg3 Try.sizeOf3 b2324 fun dO uJ iB=>?_
          obtain rfl:=Zj.1 uJ
          obtain ⟨g8,mA,h⟩:=bsome h
          have vJ:=PT_idx zA mA
          refine Zs (x:=.tmp 77) Try.isAgg3 Try.sizeOf3 vJ fun eO xJ jB=>?_
          obtain rfl:=Zj.1 xJ
          obtain ⟨b7,lB,h⟩:=bsome h
          rcases Zt h with ⟨v6,h⟩ | ⟨v6,h⟩
          ·refine E_drawL (g := gA) (n := 39) [(2, (fun v g w => v = .bool (x5))), (7, (fun v g w => v = .bool (i6))), (20, (fun v g w => v = .bool (b7)))] [0, 1, 2, 3, 4, 5, 6, 7, 8, 9, 10, 11, 12, 13, 14, 15, 16, 17, 18, 19, 20, 21, 22, 23, 24, 25, 26, 27, 28, 29, 30, 31, 32, 33, 34, 35, 36, 37, 38] rfl mixed (by kernel_rfl) (⟨fun _ => up_eq _, fun _ => up_eq _, fun _ => up_eq _, trivial⟩) ?_
           refine L_p (fPtr x6 0) rfl rfl (Zc at_87_0 rfl (OB.ptr b2324)) ?_
           refine L_ld (c:=.int .i64 ((o0).Colour)) rfl rfl .plain (fun _ _ h=>⟨h.ch,fun b hb _=>h.below.block b hb⟩) i9 rfl ?_
           refine L_do (φ:=fun v g w=>v=.bool (x5)) rfl rfl .plain (fun g w hd=>Zp (g:=g) (vs:=[.int .i64 ((o0).Colour),.int .i64 (0),.int .i64 (9)]) en59 (.cons rfl (.cons rfl (.cons rfl .nil))) (wk59  k9) fun g' w' v hs hr=>⟨g',hs,hr⟩) (fun yA hv=>?_)
           obtain ⟨_,_,_,rfl⟩:=hv
           refine L_p (.bool (!x5)) rfl rfl (P_not rfl) ?_
           refine L_p (.bool (!x5)) rfl rfl (Zk rfl) ?_
           refine L_y (fPtr x6 1) rfl rfl rfl rfl t5 (Zc at_87_1 rfl (OB.ptr b2324)) ?_
           refine L_ld (c:=.int .i64 ((o0).Side)) rfl rfl (.yes2 rfl rfl t5) (fun _ _ h=>⟨h.ch,fun b hb _=>h.below.block b hb⟩) iA rfl ?_
           refine L_do (φ:=fun v g w=>v=.bool (i6)) rfl rfl (.yes2 rfl rfl t5) (fun g w hd=>Zp (g:=g) (vs:=[.int .i64 ((o0).Side),.int .i64 (0),.int .i64 (1)]) en59 (.cons rfl (.cons rfl (.cons rfl .nil))) (wk59  jA) fun g' w' v hs hr=>⟨g',hs,hr⟩) (fun cD hv=>?_)
           obtain ⟨_,_,_,rfl⟩:=hv
           refine L_y (.bool (!i6)) rfl rfl rfl rfl t5 (P_not rfl) ?_
           refine L_p (.bool (!i6)) rfl rfl (Zl (b:=(!x5)) rfl (pick_f t5 rfl)) ?_
           refine L_p (.bool (!i6)) rfl rfl (Zk rfl) ?_
           refine L_y (fPtr x6 2) rfl rfl rfl rfl i3 (Zc at_87_2 rfl (OB.ptr b2324)) ?_
           refine L_ld (c:=.int .i64 ((o0).Box)) rfl rfl (.yes2 rfl rfl i3) (fun _ _ h=>⟨h.ch,fun b hb _=>h.below.block b hb⟩) dB rfl ?_
           refine L_y (fPtr p1 0) rfl rfl rfl rfl i3 (Zc at_25_0 m7 (PT.ptr i5)) ?_
           refine L_ld (c:=n9) rfl rfl (.yes2 rfl rfl i3) (fun _ _ h=>h.ch) eB rfl ?_
           refine L_y (fPtr x6 1) rfl rfl rfl rfl i3 (Zc at_87_1 rfl (OB.ptr b2324)) ?_
           refine L_ld (c:=.int .i64 ((o0).Side)) rfl rfl (.yes2 rfl rfl i3) (fun _ _ h=>⟨h.ch,fun b hb _=>h.below.block b hb⟩) iB rfl ?_
           refine L_y (ePtr n9 (o0).Side 1) rfl rfl rfl rfl i3 (Zh (α:=Int) Try.underlying22 Try.sizeOf3 rfl zA rfl mA) ?_
           refine L_ld (c:=.int .i64 (g8)) rfl rfl (.yes2 rfl rfl i3) (fun _ _ h=>h.ch) jB rfl ?_
           refine L_y (.int .i64 ((w64 (g8 - (1:Int))))) rfl rfl rfl rfl i3 (P_int rfl rfl rfl) ?_
           refine L_do (φ:=fun v g w=>v=.bool (b7)) rfl rfl (.yes2 rfl rfl i3) (fun g w hd=>Zp (g:=g) (vs:=[.int .i64 ((o0).Box),.int .i64 (0),.int .i64 ((w64 (g8 - (1:Int))))]) en59 (.cons rfl (.cons rfl (.cons rfl .nil))) (wk59  lB) fun g' w' v hs hr=>⟨g',hs,hr⟩) (fun oF hv=>?_)
           obtain ⟨_,_,_,rfl⟩:=hv
           refine L_y (.bool (!b7)) rfl rfl rfl rfl i3 (P_not rfl) ?_
           refine L_p (.bool (!b7)) rfl rfl (Zl (b:=(!i6)) rfl (pick_f i3 rfl)) ?_
           refine L_p (.bool (!b7)) rfl rfl (Zk rfl) ?_
           iterate 8 refine L_s rfl rfl rfl v6 rfl ?_
           refine L_p (.bool true) rfl rfl (Zl (b:=(!b7)) rfl (pick_t v6 rfl)) ?_
           refine L_dead (fun _=>rfl) 6 rfl ?_
           refine L_nl fun yJ gO hs=>?_
           have hfr:=hfr.ext hs
           have i5:=i5.ext hs
           clear hs
           refine Zb ?_
           obtain rfl:=sinj h
           exact hQ _ _ ⟨yJ,hfr,m7,i5,o8,rfl⟩
          ·refine L_loadO (x := .tmp 85) (SubS.comp part_BoxShuttle_3 part_Span_0 rfl).1 Try.isAgg3 Try.sizeOf3 b2324 fun iO zJ xD => ?_
           obtain rfl:=Zj.1 zJ
           refine L_loadO (x:=.tmp 88) (SubS.comp part_BoxShuttle_3 part_Span_1 rfl).1 Try.isAgg3 Try.sizeOf3 b2324 fun jO aK yD=>?_
           obtain rfl:=Zj.1 aK
           obtain ⟨j7,zD,h⟩:=bsome h
           rcases Zt h with ⟨m8,h⟩ | ⟨m8,h⟩
           ·refine E_drawL (g := gA) (n := 39) [(2, (fun v g w => v = .bool (x5))), (7, (fun v g w => v = .bool (i6))), (20, (fun v g w => v = .bool (b7))), (30, (fun v g w => v = .bool (j7)))] [0, 1, 2, 3, 4, 5, 6, 7, 8, 9, 10, 11, 12, 13, 14, 15, 16, 17, 18, 19, 20, 21, 22, 23, 24, 25, 26, 27, 28, 29, 30, 31, 32, 33, 34, 35, 36, 37, 38] rfl mixed (by kernel_rfl) (⟨fun _ => up_eq _, fun _ => up_eq _, fun _ => up_eq _, fun _ => up_eq _, trivial⟩) ?_
            refine L_p (fPtr x6 0) rfl rfl (Zc at_87_0 rfl (OB.ptr b2324)) ?_
            refine L_ld (c:=.int .i64 ((o0).Colour)) rfl rfl .plain (fun _ _ h=>⟨h.ch,fun b hb _=>h.below.block b hb⟩) i9 rfl ?_
            refine L_do (φ:=fun v g w=>v=.bool (x5)) rfl rfl .plain (fun g w hd=>Zp (g:=g) (vs:=[.int .i64 ((o0).Colour),.int .i64 (0),.int .i64 (9)]) en59 (.cons rfl (.cons rfl (.cons rfl .nil))) (wk59  k9) fun g' w' v hs hr=>⟨g',hs,hr⟩) (fun yA hv=>?_)
            obtain ⟨_,_,_,rfl⟩:=hv
            refine L_p (.bool (!x5)) rfl rfl (P_not rfl) ?_
            refine L_p (.bool (!x5)) rfl rfl (Zk rfl) ?_
            refine L_y (fPtr x6 1) rfl rfl rfl rfl t5 (Zc at_87_1 rfl (OB.ptr b2324)) ?_
            refine L_ld (c:=.int .i64 ((o0).Side)) rfl rfl (.yes2 rfl rfl t5) (fun _ _ h=>⟨h.ch,fun b hb _=>h.below.block b hb⟩) iA rfl ?_
            refine L_do (φ:=fun v g w=>v=.bool (i6)) rfl rfl (.yes2 rfl rfl t5) (fun g w hd=>Zp (g:=g) (vs:=[.int .i64 ((o0).Side),.int .i64 (0),.int .i64 (1)]) en59 (.cons rfl (.cons rfl (.cons rfl .nil))) (wk59  jA) fun g' w' v hs hr=>⟨g',hs,hr⟩) (fun cD hv=>?_)
            obtain ⟨_,_,_,rfl⟩:=hv
            refine L_y (.bool (!i6)) rfl rfl rfl rfl t5 (P_not rfl) ?_
            refine L_p (.bool (!i6)) rfl rfl (Zl (b:=(!x5)) rfl (pick_f t5 rfl)) ?_
            refine L_p (.bool (!i6)) rfl rfl (Zk rfl) ?_
            refine L_y (fPtr x6 2) rfl rfl rfl rfl i3 (Zc at_87_2 rfl (OB.ptr b2324)) ?_
            refine L_ld (c:=.int .i64 ((o0).Box)) rfl rfl (.yes2 rfl rfl i3) (fun _ _ h=>⟨h.ch,fun b hb _=>h.below.block b hb⟩) dB rfl ?_
            refine L_y (fPtr p1 0) rfl rfl rfl rfl i3 (Zc at_25_0 m7 (PT.ptr i5)) ?_
            refine L_ld (c:=n9) rfl rfl (.yes2 rfl rfl i3) (fun _ _ h=>h.ch) eB rfl ?_
            refine L_y (fPtr x6 1) rfl rfl rfl rfl i3 (Zc at_87_1 rfl (OB.ptr b2324)) ?_
            refine L_ld (c:=.int .i64 ((o0).Side)) rfl rfl (.yes2 rfl rfl i3) (fun _ _ h=>⟨h.ch,fun b hb _=>h.below.block b hb⟩) iB rfl ?_
            refine L_y (ePtr n9 (o0).Side 1) rfl rfl rfl rfl i3 (Zh (α:=Int) Try.underlying22 Try.sizeOf3 rfl zA rfl mA) ?_
            refine L_ld (c:=.int .i64 (g8)) rfl rfl (.yes2 rfl rfl i3) (fun _ _ h=>h.ch) jB rfl ?_
            refine L_y (.int .i64 ((w64 (g8 - (1:Int))))) rfl rfl rfl rfl i3 (P_int rfl rfl rfl) ?_
            refine L_do (φ:=fun v g w=>v=.bool (b7)) rfl rfl (.yes2 rfl rfl i3) (fun g w hd=>Zp (g:=g) (vs:=[.int .i64 ((o0).Box),.int .i64 (0),.int .i64 ((w64 (g8 - (1:Int))))]) en59 (.cons rfl (.cons rfl (.cons rfl .nil))) (wk59  lB) fun g' w' v hs hr=>⟨g',hs,hr⟩) (fun oF hv=>?_)
            obtain ⟨_,_,_,rfl⟩:=hv
            refine L_y (.bool (!b7)) rfl rfl rfl rfl i3 (P_not rfl) ?_
            refine L_p (.bool (!b7)) rfl rfl (Zl (b:=(!i6)) rfl (pick_f i3 rfl)) ?_
            refine L_p (.bool (!b7)) rfl rfl (Zk rfl) ?_
            refine L_y (fPtr x6 3) rfl rfl rfl rfl v6 (Zc at_87_3 rfl (OB.ptr b2324)) ?_
            refine L_y (fPtr x6 3) rfl rfl rfl rfl v6 (P_fieldAddr2 (o1:=3) rfl at_85_0 rfl (OB.ptr b2324)) ?_
            refine L_ld (c:=.int .i64 (((o0).Yarn).Low)) rfl rfl (.yes2 rfl rfl v6) (fun _ _ h=>⟨h.ch,fun b hb _=>h.below.block b hb⟩) xD rfl ?_
            refine L_y (fPtr x6 3) rfl rfl rfl rfl v6 (Zc at_87_3 rfl (OB.ptr b2324)) ?_
            refine L_y (fPtr x6 4) rfl rfl rfl rfl v6 (P_fieldAddr2 (o1:=3) rfl at_85_1 rfl (OB.ptr b2324)) ?_
            refine L_ld (c:=.int .i64 (((o0).Yarn).High)) rfl rfl (.yes2 rfl rfl v6) (fun _ _ h=>⟨h.ch,fun b hb _=>h.below.block b hb⟩) yD rfl ?_
            refine L_do (φ:=fun v g w=>v=.bool (j7)) rfl rfl (.yes2 rfl rfl v6) (fun g w hd=>Zp (g:=g) (vs:=[.int .i64 (((o0).Yarn).Low),.int .i64 (0),.int .i64 (((o0).Yarn).High)]) en59 (.cons rfl (.cons rfl (.cons rfl .nil))) (wk59  zD) fun g' w' v hs hr=>⟨g',hs,hr⟩) (fun bK hv=>?_)
            obtain ⟨_,_,_,rfl⟩:=hv
            refine L_y (.bool (!j7)) rfl rfl rfl rfl v6 (P_not rfl) ?_
            refine L_p (.bool (!j7)) rfl rfl (Zl (b:=(!b7)) rfl (pick_f v6 rfl)) ?_
            refine L_p (.bool (!j7)) rfl rfl (Zk rfl) ?_
            iterate 4 refine L_s rfl rfl rfl m8 rfl ?_
            refine L_p (.bool true) rfl rfl (Zl (b:=(!j7)) rfl (pick_t m8 rfl)) ?_
            refine L_nl fun cK kO hs=>?_
            have hfr:=hfr.ext hs
            have i5:=i5.ext hs
            clear hs
            refine Zb ?_
            obtain rfl:=sinj h
            exact hQ _ _ ⟨cK,hfr,m7,i5,o8,rfl⟩
           ·refine L_loadO (x := .tmp 95) (SubS.comp part_BoxShuttle_3 part_Span_1 rfl).1 Try.isAgg3 Try.sizeOf3 b2324 fun lO dK yH => ?_
            obtain rfl:=Zj.1 dK
            refine E_drawL (g:=gA) (n:=39) [(2,(fun v g w=>v=.bool (x5))),(7,(fun v g w=>v=.bool (i6))),(20,(fun v g w=>v=.bool (b7))),(30,(fun v g w=>v=.bool (j7)))] [0,1,2,3,4,5,6,7,8,9,10,11,12,13,14,15,16,17,18,19,20,21,22,23,24,25,26,27,28,29,30,31,32,33,34,35,36,37,38] rfl mixed (by kernel_rfl) (⟨fun _=>up_eq _,fun _=>up_eq _,fun _=>up_eq _,fun _=>up_eq _,trivial⟩) ?_
            refine L_p (fPtr x6 0) rfl rfl (Zc at_87_0 rfl (OB.ptr b2324)) ?_
            refine L_ld (c:=.int .i64 ((o0).Colour)) rfl rfl .plain (fun _ _ h=>⟨h.ch,fun b hb _=>h.below.block b hb⟩) i9 rfl ?_
            refine L_do (φ:=fun v g w=>v=.bool (x5)) rfl rfl .plain (fun g w hd=>Zp (g:=g) (vs:=[.int .i64 ((o0).Colour),.int .i64 (0),.int .i64 (9)]) en59 (.cons rfl (.cons rfl (.cons rfl .nil))) (wk59  k9) fun g' w' v hs hr=>⟨g',hs,hr⟩) (fun yA hv=>?_)
            obtain ⟨_,_,_,rfl⟩:=hv
            refine L_p (.bool (!x5)) rfl rfl (P_not rfl) ?_
            refine L_p (.bool (!x5)) rfl rfl (Zk rfl) ?_
            refine L_y (fPtr x6 1) rfl rfl rfl rfl t5 (Zc at_87_1 rfl (OB.ptr b2324)) ?_
            refine L_ld (c:=.int .i64 ((o0).Side)) rfl rfl (.yes2 rfl rfl t5) (fun _ _ h=>⟨h.ch,fun b hb _=>h.below.block b hb⟩) iA rfl ?_
            refine L_do (φ:=fun v g w=>v=.bool (i6)) rfl rfl (.yes2 rfl rfl t5) (fun g w hd=>Zp (g:=g) (vs:=[.int .i64 ((o0).Side),.int .i64 (0),.int .i64 (1)]) en59 (.cons rfl (.cons rfl (.cons rfl .nil))) (wk59  jA) fun g' w' v hs hr=>⟨g',hs,hr⟩) (fun cD hv=>?_)
            obtain ⟨_,_,_,rfl⟩:=hv
            refine L_y (.bool (!i6)) rfl rfl rfl rfl t5 (P_not rfl) ?_
            refine L_p (.bool (!i6)) rfl rfl (Zl (b:=(!x5)) rfl (pick_f t5 rfl)) ?_
            refine L_p (.bool (!i6)) rfl rfl (Zk rfl) ?_
            refine L_y (fPtr x6 2) rfl rfl rfl rfl i3 (Zc at_87_2 rfl (OB.ptr b2324)) ?_
            refine L_ld (c:=.int .i64 ((o0).Box)) rfl rfl (.yes2 rfl rfl i3) (fun _ _ h=>⟨h.ch,fun b hb _=>h.below.block b hb⟩) dB rfl ?_
            refine L_y (fPtr p1 0) rfl rfl rfl rfl i3 (Zc at_25_0 m7 (PT.ptr i5)) ?_
            refine L_ld (c:=n9) rfl rfl (.yes2 rfl rfl i3) (fun _ _ h=>h.ch) eB rfl ?_
            refine L_y (fPtr x6 1) rfl rfl rfl rfl i3 (Zc at_87_1 rfl (OB.ptr b2324)) ?_
            refine L_ld (c:=.int .i64 ((o0).Side)) rfl rfl (.yes2 rfl rfl i3) (fun _ _ h=>⟨h.ch,fun b hb _=>h.below.block b hb⟩) iB rfl ?_
            refine L_y (ePtr n9 (o0).Side 1) rfl rfl rfl rfl i3 (Zh (α:=Int) Try.underlying22 Try.sizeOf3 rfl zA rfl mA) ?_
            refine L_ld (c:=.int .i64 (g8)) rfl rfl (.yes2 rfl rfl i3) (fun _ _ h=>h.ch) jB rfl ?_
            refine L_y (.int .i64 ((w64 (g8 - (1:Int))))) rfl rfl rfl rfl i3 (P_int rfl rfl rfl) ?_
            refine L_do (φ:=fun v g w=>v=.bool (b7)) rfl rfl (.yes2 rfl rfl i3) (fun g w hd=>Zp (g:=g) (vs:=[.int .i64 ((o0).Box),.int .i64 (0),.int .i64 ((w64 (g8 - (1:Int))))]) en59 (.cons rfl (.cons rfl (.cons rfl .nil))) (wk59  lB) fun g' w' v hs hr=>⟨g',hs,hr⟩) (fun oF hv=>?_)
            obtain ⟨_,_,_,rfl⟩:=hv
            refine L_y (.bool (!b7)) rfl rfl rfl rfl i3 (P_not rfl) ?_
            refine L_p (.bool (!b7)) rfl rfl (Zl (b:=(!i6)) rfl (pick_f i3 rfl)) ?_
            refine L_p (.bool (!b7)) rfl rfl (Zk rfl) ?_
            refine L_y (fPtr x6 3) rfl rfl rfl rfl v6 (Zc at_87_3 rfl (OB.ptr b2324)) ?_
            refine L_y (fPtr x6 3) rfl rfl rfl rfl v6 (P_fieldAddr2 (o1:=3) rfl at_85_0 rfl (OB.ptr b2324)) ?_
            refine L_ld (c:=.int .i64 (((o0).Yarn).Low)) rfl rfl (.yes2 rfl rfl v6) (fun _ _ h=>⟨h.ch,fun b hb _=>h.below.block b hb⟩) xD rfl ?_
            refine L_y (fPtr x6 3) rfl rfl rfl rfl v6 (Zc at_87_3 rfl (OB.ptr b2324)) ?_
            refine L_y (fPtr x6 4) rfl rfl rfl rfl v6 (P_fieldAddr2 (o1:=3) rfl at_85_1 rfl (OB.ptr b2324)) ?_
            refine L_ld (c:=.int .i64 (((o0).Yarn).High)) rfl rfl (.yes2 rfl rfl v6) (fun _ _ h=>⟨h.ch,fun b hb _=>h.below.block b hb⟩) yD rfl ?_
            refine L_do (φ:=fun v g w=>v=.bool (j7)) rfl rfl (.yes2 rfl rfl v6) (fun g w hd=>Zp (g:=g) (vs:=[.int .i64 (((o0).Yarn).Low),.int .i64 (0),.int .i64 (((o0).Yarn).High)]) en59 (.cons rfl (.cons rfl (.cons rfl .nil))) (wk59  zD) fun g' w' v hs hr=>⟨g',hs,hr⟩) (fun bK hv=>?_)
            obtain ⟨_,_,_,rfl⟩:=hv
            refine L_y (.bool (!j7)) rfl rfl rfl rfl v6 (P_not rfl) ?_
            refine L_p (.bool (!j7)) rfl rfl (Zl (b:=(!b7)) rfl (pick_f v6 rfl)) ?_
            refine L_p (.bool (!j7)) rfl rfl (Zk rfl) ?_
            refine L_y (fPtr x6 3) rfl rfl rfl rfl m8 (Zc at_87_3 rfl (OB.ptr b2324)) ?_
            refine L_y (fPtr x6 4) rfl rfl rfl rfl m8 (P_fieldAddr2 (o1:=3) rfl at_85_1 rfl (OB.ptr b2324)) ?_
            refine L_ld (c:=.int .i64 (((o0).Yarn).High)) rfl rfl (.yes2 rfl rfl m8) (fun _ _ h=>⟨h.ch,fun b hb _=>h.below.block b hb⟩) yH rfl ?_
            refine L_y (.bool ((decide (((o0).Yarn).High > (1000:Int))))) rfl rfl rfl rfl m8 (P_int rfl rfl rfl) ?_
            refine L_p (.bool ((decide (((o0).Yarn).High > (1000:Int))))) rfl rfl (Zl (b:=(!j7)) rfl (pick_f m8 rfl)) ?_
            refine L_nl fun eK mO hs=>?_
            have hfr:=hfr.ext hs
            have i5:=i5.ext hs
            clear hs
            refine Zb ?_
            obtain rfl:=sinj h
            exact hQ _ _ ⟨eK,hfr,m7,i5,o8,rfl⟩
       ·clear hx
        obtain ⟨lK,hfr,xF,yF,zF,mB⟩:=hR
        rcases Zt h with ⟨nB,h⟩ | ⟨nB,h⟩
        ·refine E_cond_true (Eq.trans (show ev _ _ = .bool (q8) from mB) (congrArg Value.bool nB)) ?_
         refine Zf (Za (Zg (.int .i64 (2)) rfl rfl ?_))
         refine Zb (Zd (E_ret (blk_r ?_)))
         refine thn_r ?_
         refine thn_r ?_
         refine blk_r ?_
         refine thn_r ?_
         obtain rfl:=sinj h
         exact end1 rfl rfl (show _=.int .i64 (2) from rfl) ⟨_,hfr,rfl⟩
        ·refine E_cond_false (Eq.trans (show ev _ _ = .bool (q8) from mB) (congrArg Value.bool nB)) ?_
         exact Zu (blk_n (Zd (xH () _ _ ⟨lK,hfr,xF,yF,zF⟩ h)))
      ·rintro _ xM nO ⟨mK, hfr, aG, bG, cG⟩ h
       refine Za (Zo cG rfl ?_)
       refine EL_in (.int .i64 ((w64 (d7 + (1:Int))))) rfl rfl rfl rfl ?_
       refine Zg (.int .i64 ((w64 (d7 + (1:Int))))) rfl rfl ?_
       exact Zb (Zd (uH ((w64 (d7 + (1:Int)))) _ _ ⟨mK,hfr,aG,bG,rfl⟩ h))
    ·rintro _ yM oO ⟨pF, hfr, eC, qA⟩ h
     refine Zq h (fun (s:Unit) e w=>∃ (g:Gh) ,Fr gI wI g w∧e 1=p1∧PT g.m w (x0:BoxLoom) p1) (fun X2880 tE zH h=>?_) ?_
     ·refine Zf (Za (EL_p (fPtr p1 2) (Zc at_25_2 eC (PT.ptr qA)) rfl ?_))
      have nK:=Zm (part_BoxLoom_2).1 qA
      refine Ze .plain rfl (D_load (g:=pF) Try.isAgg23 Try.sizeOf23 rfl nK fun pO oK=>?_)
      refine EL_p (.int .i64 (((x0).Shuttles).length:Int)) (P_len Try.underlying23 rfl oK) rfl ?_
      refine EL_in (.bool (((((x0).Shuttles).length:Int) == (0:Int)))) rfl rfl rfl rfl ?_
      refine Zb (Zd ?_)
      rcases Zt h with ⟨oB,h⟩ | ⟨oB,h⟩
      ·refine E_ct oB rfl ?_
       refine Zf (Za (Zg (.int .i64 (2)) rfl rfl ?_))
       refine Zb (Zd (E_ret (thn_r ?_)))
       obtain rfl:=sinj h
       exact end1 rfl rfl (show _=.int .i64 (2) from rfl) ⟨_,hfr,rfl⟩
      ·refine E_cf oB rfl ?_
       exact Zu (Zd (zH () _ _ ⟨pF,hfr,eC,qA⟩ h))
     ·rintro _ zM qO ⟨pK, hfr, dG, eG⟩ h
      refine Zq h (fun (s:Unit) e w=>∃ (g:Gh) ,Fr gI wI g w) (fun X3633 kE aI h=>?_) ?_
      ·refine Zf (Za (Zg (.int .i64 (0)) rfl rfl ?_))
       refine Zb (Zd (Zr ?_))
       refine E_lp h (fun (s:Int) e w=>∃ (g:Gh) ,Fr gI wI g w∧e 1=p1∧PT g.m w (x0:BoxLoom) p1∧e 6=.int .i64 (s)) ⟨pK,hfr,dG,eG,rfl⟩ (fun X3634 lE bI=>?_)
       rintro u3 bN rO ⟨eD,hfr,iC,rA,jC⟩ h
       refine Zq h (fun (s:Unit) e w=>∃ (g:Gh) ,Fr gI wI g w∧e 1=p1∧PT g.m w (x0:BoxLoom) p1∧e 6=.int .i64 (u3)) (fun X3639 sE cI h=>?_) ?_
       ·refine Zf (Za (Zo jC rfl ?_))
        refine EL_p (fPtr p1 2) (Zc at_25_2 iC (PT.ptr rA)) rfl ?_
        have qK:=Zm (part_BoxLoom_2).1 rA
        refine Ze .plain rfl (D_load (g:=eD) Try.isAgg23 Try.sizeOf23 rfl qK fun sO sK=>?_)
        refine EL_p (.int .i64 (((x0).Shuttles).length:Int)) (P_len Try.underlying23 rfl sK) rfl ?_
        refine EL_p (.bool ((decide (u3 < (((x0).Shuttles).length:Int))))) (P_int rfl rfl rfl) rfl ?_
        refine Zb (Zd ?_)
        rcases Zt h with ⟨tB,h⟩ | ⟨tB,h⟩
        ·refine E_ct tB rfl ?_
         exact Zu (Zd (cI () _ _ ⟨eD,hfr,iC,rA,jC⟩ h))
        ·refine E_cf tB rfl ?_
         refine E_exit ?_
         refine thn_e ?_
         refine thn_e ?_
         refine blk_hit ?_
         exact Zd (aI () _ _ ⟨eD,hfr⟩ h)
       ·rintro _ cN tO ⟨tK, hfr, gG, hG, iG⟩ h
        refine Zq h (fun (s:Unit) e w=>∃ (g:Gh) ,Fr gI wI g w∧e 1=p1∧PT g.m w (x0:BoxLoom) p1∧e 6=.int .i64 (u3)) (fun X4012 mE dI h=>?_) ?_
        ·refine Zr ?_
         refine Zf (Za (Zg (.int .i64 (0)) rfl rfl ?_))
         refine Zb (Zd (Zr ?_))
         refine E_lp h (fun (s:Int) e w=>∃ (g:Gh) ,Fr gI wI g w∧e 1=p1∧PT g.m w (x0:BoxLoom) p1∧e 6=.int .i64 (u3)∧e 7=.int .i64 (s)) ⟨tK,hfr,gG,hG,iG,rfl⟩ (fun X4013 nE iI=>?_)
         rintro l5 dN uO ⟨qF,hfr,kC,lC,uA,mC⟩ h
         refine Zq h (fun (s:Unit) e w=>∃ (g:Gh) ,Fr gI wI g w∧e 1=p1∧PT g.m w (x0:BoxLoom) p1∧e 6=.int .i64 (u3)∧e 7=.int .i64 (l5)) (fun X4016 rE jI h=>?_) ?_
         ·refine Zf (Za (Zo mC rfl ?_))
          refine Zo uA rfl ?_
          refine EL_in (.bool ((decide (l5 < u3)))) rfl rfl rfl rfl ?_
          refine Zb (Zd ?_)
          rcases Zt h with ⟨vB,h⟩ | ⟨vB,h⟩
          ·refine E_ct vB rfl ?_
           exact Zu (Zd (jI () _ _ ⟨qF,hfr,kC,lC,uA,mC⟩ h))
          ·refine E_cf vB rfl ?_
           refine E_exit ?_
           refine thn_e ?_
           refine thn_e ?_
           refine blk_hit ?_
           exact blk_n (Zd (dI () _ _ ⟨qF,hfr,kC,lC,uA⟩ h))
         ·rintro _ eN vO ⟨rF, hfr, v7, y6, x8, y8⟩ h
          refine Zq h (fun (s:Unit) e w=>∃ (g:Gh) ,Fr gI wI g w∧e 1=p1∧PT g.m w (x0:BoxLoom) p1∧e 6=.int .i64 (u3)∧e 7=.int .i64 (l5)) (fun X4199 oE kI h=>?_) ?_
          ·refine Zr ?_
           obtain ⟨l8,hx,h⟩:=bsome h
           refine E_join (fun e w=>∃ (g:Gh) ,Fr gI wI g w∧e 1=p1∧PT g.m w (x0:BoxLoom) p1∧e 6=.int .i64 (u3)∧e 7=.int .i64 (l5)∧e 142=.bool (l8)) (fun Q' hQ=>?_) (fun gN xO hR=>?_)
           ·replace h := hx
            clear hx
            have uK:=Zm (part_BoxLoom_2).1 y6
            refine Zs (x:=.tmp 115) Try.isAgg23 Try.sizeOf23 uK fun u9 gD aE=>?_
            obtain ⟨i8,yB,h⟩:=bsome h
            have iD:=PT_idx gD yB
            have vK:=Zm (part_BoxShuttle_1).1 iD
            refine Zs (x:=.tmp 119) Try.isAgg3 Try.sizeOf3 vK fun yO xK bE=>?_
            obtain rfl:=Zj.1 xK
            have yK:=Zm (part_BoxLoom_2).1 y6
            refine Zs (x:=.tmp 121) Try.isAgg23 Try.sizeOf23 yK fun y9 jD cE=>?_
            obtain ⟨k8,zB,h⟩:=bsome h
            have kD:=PT_idx jD zB
            have zK:=Zm (part_BoxShuttle_1).1 kD
            refine Zs (x:=.tmp 125) Try.isAgg3 Try.sizeOf3 zK fun zO aL dE=>?_
            obtain rfl:=Zj.1 aL
            rcases Zt h with ⟨a7,h⟩ | ⟨a7,h⟩
            ·have bL := Zm (part_BoxLoom_2).1 y6
             refine Zs (x:=.tmp 129) Try.isAgg23 Try.sizeOf23 bL fun lD sF lI=>?_
             obtain ⟨z9,eE,h⟩:=bsome h
             have tF:=PT_idx sF eE
             have cL:=Zm (part_BoxShuttle_2).1 tF
             refine Zs (x:=.tmp 133) Try.isAgg3 Try.sizeOf3 cL fun aP dL mI=>?_
             obtain rfl:=Zj.1 dL
             have eL:=Zm (part_BoxLoom_2).1 y6
             refine Zs (x:=.tmp 135) Try.isAgg23 Try.sizeOf23 eL fun mD uF nI=>?_
             obtain ⟨bA,gE,h⟩:=bsome h
             have vF:=PT_idx uF gE
             have gL:=Zm (part_BoxShuttle_2).1 vF
             refine Zs (x:=.tmp 139) Try.isAgg3 Try.sizeOf3 gL fun bP iL pI=>?_
             obtain rfl:=Zj.1 iL
             refine E_drawL (g:=rF) (n:=28) [] [0,1,2,3,4,5,6,7,8,9,10,11,12,13,14,15,16,17,18,19,20,21,22,23,24,25,26,27] rfl mixed (by kernel_rfl) trivial ?_
             refine L_p (fPtr p1 2) rfl rfl (Zc at_25_2 v7 (PT.ptr y6)) ?_
             refine L_ld (c:=u9) rfl rfl .plain (fun _ _ h=>h.ch) aE rfl ?_
             refine L_p (.int .i64 (u3)) rfl rfl (Zk x8) ?_
             refine L_p (ePtr u9 u3 5) rfl rfl (Zh (α:=BoxShuttle) Try.underlying23 Try.sizeOf87 rfl gD rfl yB) ?_
             refine L_p (fPtr (ePtr u9 u3 5) 1) rfl rfl (Zc at_87_1 rfl (PT.ptr iD)) ?_
             refine L_ld (c:=.int .i64 ((i8).Side)) rfl rfl .plain (fun _ _ h=>h.ch) bE rfl ?_
             refine L_p (fPtr p1 2) rfl rfl (Zc at_25_2 v7 (PT.ptr y6)) ?_
             refine L_ld (c:=y9) rfl rfl .plain (fun _ _ h=>h.ch) cE rfl ?_
             refine L_p (.int .i64 (l5)) rfl rfl (Zk y8) ?_
             refine L_p (ePtr y9 l5 5) rfl rfl (Zh (α:=BoxShuttle) Try.underlying23 Try.sizeOf87 rfl jD rfl zB) ?_
             refine L_p (fPtr (ePtr y9 l5 5) 1) rfl rfl (Zc at_87_1 rfl (PT.ptr kD)) ?_
             refine L_ld (c:=.int .i64 ((k8).Side)) rfl rfl .plain (fun _ _ h=>h.ch) dE rfl ?_
             refine L_p (.bool (((i8).Side == (k8).Side))) rfl rfl (P_int rfl rfl rfl) ?_
             refine L_p (.bool (((i8).Side == (k8).Side))) rfl rfl (Zk rfl) ?_
             refine L_y (fPtr p1 2) rfl rfl rfl rfl a7 (Zc at_25_2 v7 (PT.ptr y6)) ?_
             refine L_ld (c:=lD) rfl rfl (.yes2 rfl rfl a7) (fun _ _ h=>h.ch) lI rfl ?_
             refine L_y (.int .i64 (u3)) rfl rfl rfl rfl a7 (Zk x8) ?_
             refine L_y (ePtr lD u3 5) rfl rfl rfl rfl a7 (Zh (α:=BoxShuttle) Try.underlying23 Try.sizeOf87 rfl sF rfl eE) ?_
             refine L_y (fPtr (ePtr lD u3 5) 2) rfl rfl rfl rfl a7 (Zc at_87_2 rfl (PT.ptr tF)) ?_
             refine L_ld (c:=.int .i64 ((z9).Box)) rfl rfl (.yes2 rfl rfl a7) (fun _ _ h=>h.ch) mI rfl ?_
             refine L_y (fPtr p1 2) rfl rfl rfl rfl a7 (Zc at_25_2 v7 (PT.ptr y6)) ?_
             refine L_ld (c:=mD) rfl rfl (.yes2 rfl rfl a7) (fun _ _ h=>h.ch) nI rfl ?_
             refine L_y (.int .i64 (l5)) rfl rfl rfl rfl a7 (Zk y8) ?_
             refine L_y (ePtr mD l5 5) rfl rfl rfl rfl a7 (Zh (α:=BoxShuttle) Try.underlying23 Try.sizeOf87 rfl uF rfl gE) ?_
             refine L_y (fPtr (ePtr mD l5 5) 2) rfl rfl rfl rfl a7 (Zc at_87_2 rfl (PT.ptr vF)) ?_
             refine L_ld (c:=.int .i64 ((bA).Box)) rfl rfl (.yes2 rfl rfl a7) (fun _ _ h=>h.ch) pI rfl ?_
             refine L_y (.bool (((z9).Box == (bA).Box))) rfl rfl rfl rfl a7 (P_int rfl rfl rfl) ?_
             refine L_p (.bool (((z9).Box == (bA).Box))) rfl rfl (Zl (b:=((i8).Side == (k8).Side)) rfl (pick_t a7 rfl)) ?_
             refine L_nl fun jL cP hs=>?_
             have hfr:=hfr.ext hs
             have y6:=y6.ext hs
             clear hs
             refine Zb ?_
             obtain rfl:=sinj h
             exact hQ _ _ ⟨jL,hfr,v7,y6,x8,y8,rfl⟩
            ·refine E_drawL (g := rF) (n := 28) [] [0, 1, 2, 3, 4, 5, 6, 7, 8, 9, 10, 11, 12, 13, 14, 15, 16, 17, 18, 19, 20, 21, 22, 23, 24, 25, 26, 27] rfl mixed (by kernel_rfl) trivial ?_
             refine L_p (fPtr p1 2) rfl rfl (Zc at_25_2 v7 (PT.ptr y6)) ?_
             refine L_ld (c:=u9) rfl rfl .plain (fun _ _ h=>h.ch) aE rfl ?_
             refine L_p (.int .i64 (u3)) rfl rfl (Zk x8) ?_
             refine L_p (ePtr u9 u3 5) rfl rfl (Zh (α:=BoxShuttle) Try.underlying23 Try.sizeOf87 rfl gD rfl yB) ?_
             refine L_p (fPtr (ePtr u9 u3 5) 1) rfl rfl (Zc at_87_1 rfl (PT.ptr iD)) ?_
             refine L_ld (c:=.int .i64 ((i8).Side)) rfl rfl .plain (fun _ _ h=>h.ch) bE rfl ?_
             refine L_p (fPtr p1 2) rfl rfl (Zc at_25_2 v7 (PT.ptr y6)) ?_
             refine L_ld (c:=y9) rfl rfl .plain (fun _ _ h=>h.ch) cE rfl ?_
             refine L_p (.int .i64 (l5)) rfl rfl (Zk y8) ?_
             refine L_p (ePtr y9 l5 5) rfl rfl (Zh (α:=BoxShuttle) Try.underlying23 Try.sizeOf87 rfl jD rfl zB) ?_
             refine L_p (fPtr (ePtr y9 l5 5) 1) rfl rfl (Zc at_87_1 rfl (PT.ptr kD)) ?_
             refine L_ld (c:=.int .i64 ((k8).Side)) rfl rfl .plain (fun _ _ h=>h.ch) dE rfl ?_
             refine L_p (.bool (((i8).Side == (k8).Side))) rfl rfl (P_int rfl rfl rfl) ?_
             refine L_p (.bool (((i8).Side == (k8).Side))) rfl rfl (Zk rfl) ?_
             iterate 13 refine L_s rfl rfl rfl a7 rfl ?_
             refine L_p (.bool false) rfl rfl (Zl (b:=((i8).Side == (k8).Side)) rfl (pick_f a7 rfl)) ?_
             refine L_nl fun lL dP hs=>?_
             have hfr:=hfr.ext hs
             have y6:=y6.ext hs
             clear hs
             refine Zb ?_
             obtain rfl:=sinj h
             exact hQ _ _ ⟨lL,hfr,v7,y6,x8,y8,rfl⟩
           ·clear hx
            obtain ⟨mL,hfr,jG,kG,lG,mG,xA⟩:=hR
            rcases Zt h with ⟨aC,h⟩ | ⟨aC,h⟩
            ·refine E_cond_true (Eq.trans (show ev _ _ = .bool (l8) from xA) (congrArg Value.bool aC)) ?_
             refine Zf (Za (Zg (.int .i64 (6)) rfl rfl ?_))
             refine Zb (Zd (E_ret (blk_r ?_)))
             refine thn_r ?_
             refine thn_r ?_
             refine blk_r ?_
             refine blk_r ?_
             refine thn_r ?_
             refine thn_r ?_
             refine blk_r ?_
             refine thn_r ?_
             obtain rfl:=sinj h
             exact end1 rfl rfl (show _=.int .i64 (6) from rfl) ⟨_,hfr,rfl⟩
            ·refine E_cond_false (Eq.trans (show ev _ _ = .bool (l8) from xA) (congrArg Value.bool aC)) ?_
             exact Zu (blk_n (Zd (kI () _ _ ⟨mL,hfr,jG,kG,lG,mG⟩ h)))
          ·rintro _ iN eP ⟨nL, hfr, nG, oG, pG, qG⟩ h
           refine Za (Zo qG rfl ?_)
           refine EL_in (.int .i64 ((w64 (l5 + (1:Int))))) rfl rfl rfl rfl ?_
           refine Zg (.int .i64 ((w64 (l5 + (1:Int))))) rfl rfl ?_
           exact Zb (Zd (iI ((w64 (l5 + (1:Int)))) _ _ ⟨nL,hfr,nG,oG,pG,rfl⟩ h))
        ·rintro _ jN gP ⟨oL, hfr, rG, sG, tG⟩ h
         refine Za (Zo tG rfl ?_)
         refine EL_in (.int .i64 ((w64 (u3 + (1:Int))))) rfl rfl rfl rfl ?_
         refine Zg (.int .i64 ((w64 (u3 + (1:Int))))) rfl rfl ?_
         exact Zb (Zd (bI ((w64 (u3 + (1:Int)))) _ _ ⟨oL,hfr,rG,sG,rfl⟩ h))
      ·rintro _ kN iP ⟨jP, hfr⟩ h
       refine Zf (Za (Zg (.int .i64 (0)) rfl rfl ?_))
       refine Zb (Zd (E_ret ?_))
       obtain rfl:=sinj h
       exact end1 rfl rfl (show _=.int .i64 (0) from rfl) ⟨_,hfr,rfl⟩
def f21 (x0:List Int):Option (Bool):=
 jn (σ:=Unit) (fun _=>
  some (true)
  ) fun g7=>
 lp (σ:=Int) (fun i7 o0=>
  jn (σ:=Unit) (fun _=>
   jn (σ:=Unit) (fun _=>
    i7 ((w64 (o0 + (1:Int))))
    ) fun j7=>
   (idx x0 o0).bind fun v6=>
   (f59 v6 ((0:Int)) ((9:Int))).bind fun x6=>
   bif (!x6) then
    some (false)
   else
    j7 ()
   ) fun m7=>
  bif (decide (o0 < ((x0).length : Int))) then
   m7 ()
  else
   g7 ()
  ) big ((0:Int))
def f31 (x0:BoxLoom) (x1:List BoxPick):Option (Int):=
 jn (σ:=Unit) (fun _=>
  jn (σ:=Unit) (fun _=>
   jn (σ:=Unit) (fun _=>
    some ((0:Int))
    ) fun n9=>
   lp (σ:=Int) (fun u9 o0=>
    jn (σ:=Unit) (fun _=>
     jn (σ:=Unit) (fun _=>
      u9 ((w64 (o0 + (1:Int))))
      ) fun z9=>
     Option.bind (α:=Bool) (
      (idx x1 o0).bind fun x6=>
      (idx ((x0).Boxes) (0:Int)).bind fun x5=>
      (f59 ((x6).Left) ((0:Int)) ((w64 (x5 - (1:Int))))).bind fun l5=>
      bif (!l5) then
       some (true)
      else
       (idx x1 o0).bind fun d7=>
       (idx ((x0).Boxes) (1:Int)).bind fun a7=>
       (f59 ((d7).Right) ((0:Int)) ((w64 (a7 - (1:Int))))).bind fun y6=>
       some ((!y6))
      ) fun t5=>
     bif t5 then
      some ((2:Int))
     else
      z9 ()
     ) fun bA=>
    bif (decide (o0 < ((x1).length : Int))) then
     bA ()
    else
     n9 ()
    ) big ((0:Int))
   ) fun eC=>
  bif (decide (((x1).length : Int) > (24 : Int))) then
   some ((5:Int))
  else
   eC ()
  ) fun k6=>
 (f20 x0).bind fun y9=>
 bif (y9 != (0 : Int)) then
  some (y9)
 else
  k6 ()
theorem en31:Enters Try.prog 31:=enters_of Try.func31 (by kernel_rfl) rfl
theorem wk31 {gI:Gh} {wI:World} {x0:BoxLoom} {x1:List BoxPick} {up0:Value} (rp0:RV gI.m wI x0 up0) {up1:Value} (rp1:RV gI.m wI x1 up1) {r:Int} (h:f31 x0 x1=some r):Fn Try.prog 31 #[up0,up1] gI wI (fun _ _ v=>v=.int .i64 (r)):=by
 unfold f31 at h
 refine fn_of_E Try.func31 rfl (Nat.le_of_ble_eq_true rfl) fun g0 hm hfr=>?_
 have rp0:RV g0.m wI x0 up0:=hm ▸ rp0
 have rp1:RV g0.m wI x1 up1:=hm ▸ rp1
 show E _ 47 none _ _ _ _ _
 refine Zf (Za (Ze .plain rfl (D_box (g:=g0) rfl rp0 fun g1 w1 p1 hs q1=>?_)))
 have hfr:=hfr.ext hs
 have rp1:=rp1.ext hs
 refine Zg (.int .i64 (0)) rfl rfl ?_
 refine Zb (Zd (Zq h (fun (s:Unit) e w=>∃ (g:Gh) ,Fr gI wI g w∧e 1=up1∧RV g.m w (x1:List BoxPick) up1∧e 2=p1∧PT g.m w (x0:BoxLoom) p1) (fun X6 k6 hk6 h=>?_) ?_))
 ·refine Zf (Za (Ze .plain rfl (D_load (g := g1) Try.isAgg25 Try.sizeOf25 rfl q1 fun v7 r7 => ?_)))
  obtain ⟨y9,gD,h⟩:=bsome h
  refine Ze .plain rfl (Zp (g:=g1) (vs:=[v7]) en20 (.cons rfl .nil) (wk20 r7 gD) fun g8 w8_ v8 hs hr=>?_)
  have hfr:=hfr.ext hs
  have rp1:=rp1.ext hs
  have q1:=q1.ext hs
  subst hr
  refine Zg (.int .i64 (y9)) rfl rfl ?_
  refine Zb (Zd (Zf (Za (Zn (.int .i64 (y9)) rfl rfl ?_))))
  refine EL_in (.bool ((y9 != (0:Int)))) rfl rfl rfl rfl ?_
  refine Zb (Zd ?_)
  rcases Zt h with ⟨n8,h⟩ | ⟨n8,h⟩
  ·refine E_ct n8 rfl ?_
   refine Zf (Za (Zn (.int .i64 (y9)) rfl rfl ?_))
   refine Zg (.int .i64 (y9)) rfl rfl ?_
   refine Zb (Zd (E_ret (thn_r ?_)))
   obtain rfl:=sinj h
   exact end1 rfl rfl (show _=.int .i64 (y9) from rfl) ⟨_,hfr,rfl⟩
  ·refine E_cf n8 rfl ?_
   exact Zu (Zd (hk6 () _ _ ⟨g8,hfr,rfl,rp1,rfl,q1⟩ h))
 ·rintro _ sD kE ⟨iD, hfr, t8, x8, eB, iB⟩ h
  refine Zq h (fun (s:Unit) e w=>∃ (g:Gh) ,Fr gI wI g w∧e 1=up1∧RV g.m w (x1:List BoxPick) up1∧e 2=p1∧PT g.m w (x0:BoxLoom) p1) (fun X13 eC iC h=>?_) ?_
  ·refine Zf (Za (Zo t8 rfl ?_))
   refine EL_p (.int .i64 ((x1).length:Int)) (P_len Try.underlying30 rfl x8) rfl ?_
   refine EL_in (.bool ((decide (((x1).length:Int) > (24:Int))))) rfl rfl rfl rfl ?_
   refine Zb (Zd ?_)
   rcases Zt h with ⟨o8,h⟩ | ⟨o8,h⟩
   ·refine E_ct o8 rfl ?_
    refine Zf (Za (Zg (.int .i64 (5)) rfl rfl ?_))
    refine Zb (Zd (E_ret (thn_r ?_)))
    obtain rfl:=sinj h
    exact end1 rfl rfl (show _=.int .i64 (5) from rfl) ⟨_,hfr,rfl⟩
   ·refine E_cf o8 rfl ?_
    exact Zu (Zd (iC () _ _ ⟨iD,hfr,t8,x8,eB,iB⟩ h))
  ·rintro _ tD w15 ⟨jD, hfr, jB, lB, mB, nB⟩ h
   refine Zq h (fun (s:Unit) e w=>∃ (g:Gh) ,Fr gI wI g w) (fun X361 n9 oB h=>?_) ?_
   ·refine Zf (Za (Zg (.int .i64 (0)) rfl rfl ?_))
    refine Zb (Zd (Zr ?_))
    refine E_lp h (fun (s:Int) e w=>∃ (g:Gh) ,Fr gI wI g w∧e 1=up1∧RV g.m w (x1:List BoxPick) up1∧e 2=p1∧PT g.m w (x0:BoxLoom) p1∧e 6=.int .i64 (s)) ⟨jD,hfr,jB,lB,mB,nB,rfl⟩ (fun X362 u9 tB=>?_)
    rintro o0 kD uD ⟨gA,hfr,k8,l8,iA,jA,m8⟩ h
    refine Zq h (fun (s:Unit) e w=>∃ (g:Gh) ,Fr gI wI g w∧e 1=up1∧RV g.m w (x1:List BoxPick) up1∧e 2=p1∧PT g.m w (x0:BoxLoom) p1∧e 6=.int .i64 (o0)) (fun X365 bA vB h=>?_) ?_
    ·refine Zf (Za (Zo m8 rfl ?_))
     refine Zo k8 rfl ?_
     refine EL_p (.int .i64 ((x1).length:Int)) (P_len Try.underlying30 rfl l8) rfl ?_
     refine EL_in (.bool ((decide (o0 < ((x1).length:Int))))) rfl rfl rfl rfl ?_
     refine Zb (Zd ?_)
     rcases Zt h with ⟨g7,h⟩ | ⟨g7,h⟩
     ·refine E_ct g7 rfl ?_
      exact Zu (Zd (vB () _ _ ⟨gA,hfr,k8,l8,iA,jA,m8⟩ h))
     ·refine E_cf g7 rfl ?_
      refine E_exit ?_
      refine thn_e ?_
      refine thn_e ?_
      refine blk_hit ?_
      exact Zd (oB () _ _ ⟨gA,hfr⟩ h)
    ·rintro _ lD vD ⟨mA, hfr, i6, u3, j6, i5, v6⟩ h
     refine Zq h (fun (s:Unit) e w=>∃ (g:Gh) ,Fr gI wI g w∧e 1=up1∧RV g.m w (x1:List BoxPick) up1∧e 2=p1∧PT g.m w (x0:BoxLoom) p1∧e 6=.int .i64 (o0)) (fun X536 z9 yB h=>?_) ?_
     ·refine Zr ?_
      obtain ⟨t5,hx,h⟩:=bsome h
      refine E_join (fun e w=>∃ (g:Gh) ,Fr gI wI g w∧e 1=up1∧RV g.m w (x1:List BoxPick) up1∧e 2=p1∧PT g.m w (x0:BoxLoom) p1∧e 6=.int .i64 (o0)∧e 46=.bool (t5)) (fun Q' hQ=>?_) (fun mD xD hR=>?_)
      ·replace h := hx
       clear hx
       obtain ⟨x6,i7,h⟩:=bsome h
       have q8:=PT_idx u3 i7
       have jC:=Zm (part_BoxPick_0).1 q8
       refine Zs (x:=.tmp 24) Try.isAgg3 Try.sizeOf3 jC fun yD kC y8=>?_
       obtain rfl:=Zj.1 kC
       have lC:=Zm (part_BoxLoom_0).1 i5
       refine Zs (x:=.tmp 26) Try.isAgg22 Try.sizeOf22 lC fun j7 r8 a9=>?_
       obtain ⟨x5,m7,h⟩:=bsome h
       have mC:=PT_idx r8 m7
       refine Zs (x:=.tmp 28) Try.isAgg3 Try.sizeOf3 mC fun zD qC d9=>?_
       obtain rfl:=Zj.1 qC
       obtain ⟨l5,i9,h⟩:=bsome h
       rcases Zt h with ⟨i3,h⟩ | ⟨i3,h⟩
       ·refine E_drawL (g := mA) (n := 26) [(10, (fun v g w => v = .bool (l5)))] [0, 1, 2, 3, 4, 5, 6, 7, 8, 9, 10, 11, 12, 13, 14, 15, 16, 17, 18, 19, 20, 21, 22, 23, 24, 25] rfl mixed (by kernel_rfl) (⟨fun _ => up_eq _, trivial⟩) ?_
        refine L_p up1 rfl rfl (Zk i6) ?_
        refine L_p (.int .i64 (o0)) rfl rfl (Zk v6) ?_
        refine L_p (ePtr up1 o0 2) rfl rfl (Zh (α:=BoxPick) Try.underlying30 Try.sizeOf83 rfl u3 rfl i7) ?_
        refine L_p (fPtr (ePtr up1 o0 2) 0) rfl rfl (Zc at_83_0 rfl (PT.ptr q8)) ?_
        refine L_ld (c:=.int .i64 ((x6).Left)) rfl rfl .plain (fun _ _ h=>h.ch) y8 rfl ?_
        refine L_p (fPtr p1 0) rfl rfl (Zc at_25_0 j6 (PT.ptr i5)) ?_
        refine L_ld (c:=j7) rfl rfl .plain (fun _ _ h=>h.ch) a9 rfl ?_
        refine L_p (ePtr j7 (0:Int) 1) rfl rfl (Zh (α:=Int) Try.underlying22 Try.sizeOf3 rfl r8 rfl m7) ?_
        refine L_ld (c:=.int .i64 (x5)) rfl rfl .plain (fun _ _ h=>h.ch) d9 rfl ?_
        refine L_p (.int .i64 ((w64 (x5 - (1:Int))))) rfl rfl (P_int rfl rfl rfl) ?_
        refine L_do (φ:=fun v g w=>v=.bool (l5)) rfl rfl .plain (fun g w hd=>Zp (g:=g) (vs:=[.int .i64 ((x6).Left),.int .i64 (0),.int .i64 ((w64 (x5 - (1:Int))))]) en59 (.cons rfl (.cons rfl (.cons rfl .nil))) (wk59  i9) fun g' w' v hs hr=>⟨g',hs,hr⟩) (fun rC hv=>?_)
        obtain ⟨_,_,_,rfl⟩:=hv
        refine L_p (.bool (!l5)) rfl rfl (P_not rfl) ?_
        refine L_p (.bool (!l5)) rfl rfl (Zk rfl) ?_
        iterate 12 refine L_s rfl rfl rfl i3 rfl ?_
        refine L_p (.bool true) rfl rfl (Zl (b:=(!l5)) rfl (pick_t i3 rfl)) ?_
        refine L_nl fun tC aE hs=>?_
        have hfr:=hfr.ext hs
        have u3:=u3.ext hs
        have i5:=i5.ext hs
        clear hs
        refine Zb ?_
        obtain rfl:=sinj h
        exact hQ _ _ ⟨tC,hfr,i6,u3,j6,i5,v6,rfl⟩
       ·obtain ⟨d7, k9, h⟩ := bsome h
        have nA:=PT_idx u3 k9
        have uC:=Zm (part_BoxPick_1).1 nA
        refine Zs (x:=.tmp 37) Try.isAgg3 Try.sizeOf3 uC fun bE vC zB=>?_
        obtain rfl:=Zj.1 vC
        have xC:=Zm (part_BoxLoom_0).1 i5
        refine Zs (x:=.tmp 39) Try.isAgg22 Try.sizeOf22 xC fun oA pA aC=>?_
        obtain ⟨a7,l9,h⟩:=bsome h
        have yC:=PT_idx pA l9
        refine Zs (x:=.tmp 41) Try.isAgg3 Try.sizeOf3 yC fun cE aD cC=>?_
        obtain rfl:=Zj.1 aD
        obtain ⟨y6,dC,h⟩:=bsome h
        refine E_drawL (g:=mA) (n:=26) [(10,(fun v g w=>v=.bool (l5))),(23,(fun v g w=>v=.bool (y6)))] [0,1,2,3,4,5,6,7,8,9,10,11,12,13,14,15,16,17,18,19,20,21,22,23,24,25] rfl mixed (by kernel_rfl) (⟨fun _=>up_eq _,fun _=>up_eq _,trivial⟩) ?_
        refine L_p up1 rfl rfl (Zk i6) ?_
        refine L_p (.int .i64 (o0)) rfl rfl (Zk v6) ?_
        refine L_p (ePtr up1 o0 2) rfl rfl (Zh (α:=BoxPick) Try.underlying30 Try.sizeOf83 rfl u3 rfl i7) ?_
        refine L_p (fPtr (ePtr up1 o0 2) 0) rfl rfl (Zc at_83_0 rfl (PT.ptr q8)) ?_
        refine L_ld (c:=.int .i64 ((x6).Left)) rfl rfl .plain (fun _ _ h=>h.ch) y8 rfl ?_
        refine L_p (fPtr p1 0) rfl rfl (Zc at_25_0 j6 (PT.ptr i5)) ?_
        refine L_ld (c:=j7) rfl rfl .plain (fun _ _ h=>h.ch) a9 rfl ?_
        refine L_p (ePtr j7 (0:Int) 1) rfl rfl (Zh (α:=Int) Try.underlying22 Try.sizeOf3 rfl r8 rfl m7) ?_
        refine L_ld (c:=.int .i64 (x5)) rfl rfl .plain (fun _ _ h=>h.ch) d9 rfl ?_
        refine L_p (.int .i64 ((w64 (x5 - (1:Int))))) rfl rfl (P_int rfl rfl rfl) ?_
        refine L_do (φ:=fun v g w=>v=.bool (l5)) rfl rfl .plain (fun g w hd=>Zp (g:=g) (vs:=[.int .i64 ((x6).Left),.int .i64 (0),.int .i64 ((w64 (x5 - (1:Int))))]) en59 (.cons rfl (.cons rfl (.cons rfl .nil))) (wk59  i9) fun g' w' v hs hr=>⟨g',hs,hr⟩) (fun rC hv=>?_)
        obtain ⟨_,_,_,rfl⟩:=hv
        refine L_p (.bool (!l5)) rfl rfl (P_not rfl) ?_
        refine L_p (.bool (!l5)) rfl rfl (Zk rfl) ?_
        refine L_y up1 rfl rfl rfl rfl i3 (Zk i6) ?_
        refine L_y (.int .i64 (o0)) rfl rfl rfl rfl i3 (Zk v6) ?_
        refine L_y (ePtr up1 o0 2) rfl rfl rfl rfl i3 (Zh (α:=BoxPick) Try.underlying30 Try.sizeOf83 rfl u3 rfl k9) ?_
        refine L_y (fPtr (ePtr up1 o0 2) 1) rfl rfl rfl rfl i3 (Zc at_83_1 rfl (PT.ptr nA)) ?_
        refine L_ld (c:=.int .i64 ((d7).Right)) rfl rfl (.yes2 rfl rfl i3) (fun _ _ h=>h.ch) zB rfl ?_
        refine L_y (fPtr p1 0) rfl rfl rfl rfl i3 (Zc at_25_0 j6 (PT.ptr i5)) ?_
        refine L_ld (c:=oA) rfl rfl (.yes2 rfl rfl i3) (fun _ _ h=>h.ch) aC rfl ?_
        refine L_y (ePtr oA (1:Int) 1) rfl rfl rfl rfl i3 (Zh (α:=Int) Try.underlying22 Try.sizeOf3 rfl pA rfl l9) ?_
        refine L_ld (c:=.int .i64 (a7)) rfl rfl (.yes2 rfl rfl i3) (fun _ _ h=>h.ch) cC rfl ?_
        refine L_y (.int .i64 ((w64 (a7 - (1:Int))))) rfl rfl rfl rfl i3 (P_int rfl rfl rfl) ?_
        refine L_do (φ:=fun v g w=>v=.bool (y6)) rfl rfl (.yes2 rfl rfl i3) (fun g w hd=>Zp (g:=g) (vs:=[.int .i64 ((d7).Right),.int .i64 (0),.int .i64 ((w64 (a7 - (1:Int))))]) en59 (.cons rfl (.cons rfl (.cons rfl .nil))) (wk59  dC) fun g' w' v hs hr=>⟨g',hs,hr⟩) (fun dE hv=>?_)
        obtain ⟨_,_,_,rfl⟩:=hv
        refine L_y (.bool (!y6)) rfl rfl rfl rfl i3 (P_not rfl) ?_
        refine L_p (.bool (!y6)) rfl rfl (Zl (b:=(!l5)) rfl (pick_f i3 rfl)) ?_
        refine L_nl fun bD eE hs=>?_
        have hfr:=hfr.ext hs
        have u3:=u3.ext hs
        have i5:=i5.ext hs
        clear hs
        refine Zb ?_
        obtain rfl:=sinj h
        exact hQ _ _ ⟨bD,hfr,i6,u3,j6,i5,v6,rfl⟩
      ·clear hx
       obtain ⟨cD,hfr,qA,rA,uA,xA,yA,b7⟩:=hR
       rcases Zt h with ⟨i8,h⟩ | ⟨i8,h⟩
       ·refine E_cond_true (Eq.trans (show ev _ _ = .bool (t5) from b7) (congrArg Value.bool i8)) ?_
        refine Zf (Za (Zg (.int .i64 (2)) rfl rfl ?_))
        refine Zb (Zd (E_ret (blk_r ?_)))
        refine thn_r ?_
        refine thn_r ?_
        refine blk_r ?_
        refine thn_r ?_
        obtain rfl:=sinj h
        exact end1 rfl rfl (show _=.int .i64 (2) from rfl) ⟨_,hfr,rfl⟩
       ·refine E_cond_false (Eq.trans (show ev _ _ = .bool (t5) from b7) (congrArg Value.bool i8)) ?_
        exact Zu (blk_n (Zd (yB () _ _ ⟨cD,hfr,qA,rA,uA,xA,yA⟩ h)))
     ·rintro _ nD gE ⟨eD, hfr, zA, aB, bB, cB, dB⟩ h
      refine Za (Zo dB rfl ?_)
      refine EL_in (.int .i64 ((w64 (o0 + (1:Int))))) rfl rfl rfl rfl ?_
      refine Zg (.int .i64 ((w64 (o0 + (1:Int))))) rfl rfl ?_
      exact Zb (Zd (tB ((w64 (o0 + (1:Int)))) _ _ ⟨eD,hfr,zA,aB,bB,cB,rfl⟩ h))
   ·rintro _ oD iE ⟨jE, hfr⟩ h
    refine Zf (Za (Zg (.int .i64 (0)) rfl rfl ?_))
    refine Zb (Zd (E_ret ?_))
    obtain rfl:=sinj h
    exact end1 rfl rfl (show _=.int .i64 (0) from rfl) ⟨_,hfr,rfl⟩
def f38 (x0:Race):Option (BoxLoom):=
 (idx ((x0).Boxes).toList (0:Int)).bind fun y4=>
 (rem64 ((y4).toNat:Int) (4:Int)).bind fun y7=>
 (idx ((x0).Boxes).toList (1:Int)).bind fun y9=>
 (rem64 ((y9).toNat:Int) (4:Int)).bind fun mA=>
 (idx ((x0).Boxes).toList (2:Int)).bind fun dE=>
 (idx (([(w64 ((1:Int) + y7)),(w64 ((1:Int) + mA))]:List Int)) (0:Int)).bind fun y23=>
 (rem64 ((dE).toNat:Int) y23).bind fun y8=>
 (idx ((x0).Boxes).toList (3:Int)).bind fun eE=>
 (idx (([(w64 ((1:Int) + y7)),(w64 ((1:Int) + mA))]:List Int)) (1:Int)).bind fun dG=>
 (rem64 ((eE).toNat:Int) dG).bind fun a9=>
 Option.bind (α:=BoxLoom) (
  lp (σ:=BoxLoom × (Vector Bool 8) × Int) (fun eG (i3,y6,o0)=>
   jn (σ:=Unit) (fun _=>
    Option.bind (α:=BoxLoom × (Vector Bool 8)) (
     Option.bind (α:=(Vector UInt8 4)) (
      bif (decide (o0 < (((x0).Shuttles).length : Int))) then
       (idx ((x0).Shuttles) o0).bind fun gG=>
       some (gG)
      else
       some ((⟨List.toArray [0,0,0,0],rfl⟩:Vector UInt8 4))
      ) fun i5=>
     (idx ((i3).Boxes) (0:Int)).bind fun jC=>
     (idx ((i3).Boxes) (1:Int)).bind fun kC=>
     (rem64 (((i5)[0]).toNat:Int) (w64 (jC + kC))).bind fun l5=>
     jn (σ:=Unit) (fun _=>
      (idx (y6).toList l5).bind fun rJ=>
      (rem64 (((i5)[1]).toNat:Int) (5:Int)).bind fun r8=>
      (rem64 (((i5)[2]).toNat:Int) (12:Int)).bind fun lC=>
      (rem64 (((i5)[2]).toNat:Int) (12:Int)).bind fun dB=>
      (rem64 (((i5)[3]).toNat:Int) (5:Int)).bind fun eB=>
      (f42 lC ((w64 (dB + eB)))).bind fun j7=>
      Option.bind (α:=BoxShuttle) (
       (idx ((i3).Boxes) (0:Int)).bind fun mC=>
       bif (decide (l5 ≥ mC)) then
        (idx ((i3).Boxes) (0:Int)).bind fun cB=>
        some ((⟨r8,(1:Int),(w64 (l5 - cB)),j7⟩:BoxShuttle))
       else
        some ((⟨r8,0,l5,j7⟩:BoxShuttle))
       ) fun gA=>
      (apnd 40 ((i3).Shuttles) (([gA]:List BoxShuttle))).bind fun qC=>
      some ({ i3 with Shuttles:=qC },(vset y6 l5 true))
      ) fun hG=>
     (idx (y6).toList l5).bind fun iG=>
     bif iG then
      some (i3,y6)
     else
      hG ()
     ) fun (v7,iA)=>
    eG (v7,iA,(w64 (o0 + (1:Int))))
    ) fun jG=>
   Option.bind (α:=Bool) (
    bif (o0 == (0 : Int)) then
     some (true)
    else
     bif (decide (o0 < (((x0).Shuttles).length : Int))) then
      some ((decide (o0 < (6:Int))))
     else
      some (false)
    ) fun d9=>
   bif d9 then
    jG ()
   else
    some (i3)
   ) big ((⟨([(w64 ((1:Int) + y7)),(w64 ((1:Int) + mA))]:List Int),([y8,a9]:List Int),[]⟩:BoxLoom),(⟨List.toArray [false,false,false,false,false,false,false,false],rfl⟩:Vector Bool 8),(0:Int))
  ) fun x8=>
 some (x8)
def f39 (x0:Race) (x1:BoxLoom) (x2:Int):Option ((List BoxPick) × (List Int) × (Vector (Vector Int 4) 2) × Int):=
 (f45 x1).bind fun y6=>
 (idx ((x1).At) (0:Int)).bind fun vB=>
 (idx ((x1).At) (1:Int)).bind fun yB=>
 Option.bind (α:=(List BoxPick) × (List Int) × (Vector (Vector Int 4) 2) × Int) (
  lp (σ:=(List BoxPick) × (List Int) × (Vector (Vector Int 4) 2) × Int × (Vector Int 2) × Int) (fun dG (i6,k8,i7,n8,o0,l5)=>
   jn (σ:=Unit) (fun _=>
    Option.bind (α:=(List BoxPick) × (List Int) × (Vector (Vector Int 4) 2) × Int × (Vector Int 2)) (
     (idx ((x0).Picks) l5).bind fun gD=>
     (idx ((x1).Boxes) (0:Int)).bind fun uE=>
     (rem64 ((gD).toNat:Int) uE).bind fun iD=>
     (idx ((x0).Picks) l5).bind fun jD=>
     (quo64 ((jD).toNat:Int) (8:Int)).bind fun vE=>
     (idx ((x1).Boxes) (1:Int)).bind fun xE=>
     (rem64 vE xE).bind fun kD=>
     (f49 iD kD).bind fun i3=>
     (idx (i7).toList (0:Int)).bind fun eG=>
     (idx (eG).toList (i3).Left).bind fun o8=>
     (idx (i7).toList (1:Int)).bind fun gG=>
     (idx (gG).toList (i3).Right).bind fun l8=>
     jn (σ:=Unit) (fun _=>
      (idx (i7).toList (0:Int)).bind fun hG=>
      (idx (hG).toList (i3).Left).bind fun xJ=>
      (idx ((vmod i7 ((0:Int)) (fun b=>(vset b ((i3).Left) l8)))).toList (1:Int)).bind fun iG=>
      (idx (iG).toList (i3).Right).bind fun yJ=>
      (apnd 16 i6 (([i3]:List BoxPick))).bind fun jG=>
      (apnd 8 k8 (([(w64 ((w64 (o8 + l8)) - (1:Int)))]:List Int))).bind fun kG=>
      some (jG,kG,(vmod ((vmod i7 ((0:Int)) (fun b=>(vset b ((i3).Left) l8)))) ((1:Int)) (fun b=>(vset b ((i3).Right) o8))),(w64 (n8 + (w64 ((w64 ((w64 ((max64 (o0)[0] (i3).Left) - (min64 (o0)[0] (i3).Left))) + (max64 (o0)[1] (i3).Right))) - (min64 (o0)[1] (i3).Right))))),(⟨List.toArray [(i3).Left,(i3).Right],rfl⟩:Vector Int 2))
      ) fun lG=>
     bif ((o8 == (0 : Int)) == (l8 == (0 : Int))) then
      some (i6,k8,i7,n8,o0)
     else
      lG ()
     ) fun (z9,bA,cB,dB,nA)=>
    dG (z9,bA,cB,dB,nA,(w64 (l5 + (1:Int))))
    ) fun mG=>
   Option.bind (α:=Bool) (
    bif (decide (l5 < (((x0).Picks).length : Int))) then
     some ((decide (((i6).length:Int) < x2)))
    else
     some (false)
    ) fun u9=>
   bif u9 then
    mG ()
   else
    some (i6,k8,i7,n8)
   ) big ([],[],y6,(0:Int),(⟨List.toArray [vB,yB],rfl⟩:Vector Int 2),(0:Int))
  ) fun (eB,iB,zB,y9)=>
 some (eB,iB,zB,y9)
theorem W50 {iO:Nat} {gI:Gh} {wI:World} {x0:BoxLoom} {up0:Value} (rp0:RV gI.m wI x0 up0) {r:BoxLoom} (h:f50 x0=some r):FnG Try.prog 50 #[up0] gI wI (fun g w v=>OWx ow_BoxLoom iO g w r v):=by
 unfold f50 at h
 refine fnG_of_E Try.func50 rfl (Nat.le_of_ble_eq_true rfl) fun g0 hm hfr=>?_
 have rp0:RV g0.m wI x0 up0:=hm ▸ rp0
 show E _ 16 none _ _ _ _ _
 refine Zf (Za (Ze .plain rfl (D_box (g:=g0) rfl rp0 fun g1 w1 p1 hs q1=>?_)))
 have hfr:=hfr.ext hs
 refine Ze .plain rfl (D_allocOc (g:=g1) 2002 (⟨[],[],[]⟩:BoxLoom) Try.zeroValue25 (fun m w=>⟨_,(rep_two rep_nil (rep_two rep_nil rep_nil)),rfl⟩) fun g2 w2 p2 hs b2 cb=>?_)
 have hfr:=hfr.stp hs
 have q1:=q1.stp hs
 have i8:OSF 2002 60200 0 g2 w2 3 25 ([]:List Int) p2:=cb.osf (by rfl)
 have k8:OSF 2002 60201 1 g2 w2 3 25 ([]:List Int) p2:=cb.osf (by rfl)
 have l8:OSF 2002 60202 2 g2 w2 87 25 ([]:List BoxShuttle) p2:=cb.osf (by rfl)
 clear cb
 refine Zb (Zd (Zf ?_))
 have q4:=Zm (part_BoxLoom_0).1 q1
 refine Zs (x:=.tmp 4) Try.isAgg22 Try.sizeOf22 q4 fun v5 r5 b7=>?_
 obtain ⟨y7,d7,h⟩:=bsome h
 have q9:=Zm (part_BoxLoom_1).1 q1
 refine Zs (x:=.tmp 8) Try.isAgg22 Try.sizeOf22 q9 fun g7 i7 i6=>?_
 obtain ⟨i3,j6,h⟩:=bsome h
 have j7:=Zm (part_BoxLoom_2).1 q1
 refine Zs (x:=.tmp 12) Try.isAgg23 Try.sizeOf23 j7 fun m7 v7 x6=>?_
 obtain ⟨u3,y6,h⟩:=bsome h
 refine E_drawL (g:=g2) (n:=12) [(0,(fun v g w=>RV g.m w ([]:List Int) v∧OS 3003 g w 3 ([]:List Int) v∧FullV v)),(3,(fun v g w=>OA 3003 g w 3 y7 v)),(4,(fun v g w=>RV g.m w ([]:List Int) v∧OS 3007 g w 3 ([]:List Int) v∧FullV v)),(7,(fun v g w=>OA 3007 g w 3 i3 v)),(8,(fun v g w=>RV g.m w ([]:List BoxShuttle) v∧OS 3011 g w 87 ([]:List BoxShuttle) v∧FullV v)),(11,(fun v g w=>OA 3011 g w 87 u3 v))] [0,1,2,3,4,5,6,7,8,9,10,11] rfl mixed (by kernel_rfl) (⟨fun _=>up_and up_rv (up_and up_os (up_eq _)),fun _=>up_oa,fun _=>up_and up_rv (up_and up_os (up_eq _)),fun _=>up_oa,fun _=>up_and up_rv (up_and up_os (up_eq _)),fun _=>up_oa,trivial⟩) ?_
 refine L_do (φ:=fun v g w=>RV g.m w ([]:List Int) v∧OS 3003 g w 3 ([]:List Int) v∧FullV v) rfl rfl .plain (fun g w hd=>D_buildSlice (g:=g) 3003 (xs:=([]:List Int)) (vs:=[]) Try.underlying22 Try.sizeOf3 Try.zeroValue3 rfl rfl .nil RVs.nil rfl rfl fun g' w' v hs o r hxt hfl=>⟨g',hxt,r,o,hfl⟩) (fun v3 hv=>?_)
 clear hv
 refine L_p (fPtr p1 0) rfl rfl (Zc at_25_0 rfl (PT.ptr q1)) ?_
 refine L_ld (c:=v5) rfl rfl .plain (fun _ _ h=>h.ch) b7 rfl ?_
 refine L_do (φ:=fun v g w=>OA 3003 g w 3 y7 v) rfl rfl .plain (fun g w hd=>D_appendE (g:=g) plain_int (i:=3003) Try.underlying22 info_3 rfl rfl (word (A:=fun g w=>RV g.m w ([]:List Int) v3∧OS 3003 g w 3 ([]:List Int) v3∧FullV v3) 0 rfl rfl (deps_of hd)).2.1 (word (A:=fun g w=>RV g.m w ([]:List Int) v3∧OS 3003 g w 3 ([]:List Int) v3∧FullV v3) 0 rfl rfl (deps_of hd)).2.2 rfl (r5.ext hd.1) d7 fun g' w' v hs b=>⟨g',hs,b⟩) (fun v6 hv=>?_)
 clear hv
 refine L_do (φ:=fun v g w=>RV g.m w ([]:List Int) v∧OS 3007 g w 3 ([]:List Int) v∧FullV v) rfl rfl .plain (fun g w hd=>D_buildSlice (g:=g) 3007 (xs:=([]:List Int)) (vs:=[]) Try.underlying22 Try.sizeOf3 Try.zeroValue3 rfl rfl .nil RVs.nil rfl rfl fun g' w' v hs o r hxt hfl=>⟨g',hxt,r,o,hfl⟩) (fun v8 hv=>?_)
 clear hv
 refine L_p (fPtr p1 1) rfl rfl (Zc at_25_1 rfl (PT.ptr q1)) ?_
 refine L_ld (c:=g7) rfl rfl .plain (fun _ _ h=>h.ch) i6 rfl ?_
 refine L_do (φ:=fun v g w=>OA 3007 g w 3 i3 v) rfl rfl .plain (fun g w hd=>D_appendE (g:=g) plain_int (i:=3007) Try.underlying22 info_3 rfl rfl (word (A:=fun g w=>RV g.m w ([]:List Int) v8∧OS 3007 g w 3 ([]:List Int) v8∧FullV v8) 4 rfl rfl (deps_of hd)).2.1 (word (A:=fun g w=>RV g.m w ([]:List Int) v8∧OS 3007 g w 3 ([]:List Int) v8∧FullV v8) 4 rfl rfl (deps_of hd)).2.2 rfl (i7.ext hd.1) j6 fun g' w' v hs b=>⟨g',hs,b⟩) (fun i5 hv=>?_)
 clear hv
 refine L_do (φ:=fun v g w=>RV g.m w ([]:List BoxShuttle) v∧OS 3011 g w 87 ([]:List BoxShuttle) v∧FullV v) rfl rfl .plain (fun g w hd=>D_buildSlice (g:=g) 3011 (xs:=([]:List BoxShuttle)) (vs:=[]) Try.underlying23 Try.sizeOf87 Try.zeroValue87 rfl rfl .nil RVs.nil rfl rfl fun g' w' v hs o r hxt hfl=>⟨g',hxt,r,o,hfl⟩) (fun o0 hv=>?_)
 clear hv
 refine L_p (fPtr p1 2) rfl rfl (Zc at_25_2 rfl (PT.ptr q1)) ?_
 refine L_ld (c:=m7) rfl rfl .plain (fun _ _ h=>h.ch) x6 rfl ?_
 refine L_do (φ:=fun v g w=>OA 3011 g w 87 u3 v) rfl rfl .plain (fun g w hd=>D_appendE (g:=g) plain_BoxShuttle (i:=3011) Try.underlying23 info_87 rfl rfl (word (A:=fun g w=>RV g.m w ([]:List BoxShuttle) o0∧OS 3011 g w 87 ([]:List BoxShuttle) o0∧FullV o0) 8 rfl rfl (deps_of hd)).2.1 (word (A:=fun g w=>RV g.m w ([]:List BoxShuttle) o0∧OS 3011 g w 87 ([]:List BoxShuttle) o0∧FullV o0) 8 rfl rfl (deps_of hd)).2.2 rfl (v7.ext hd.1) y6 fun g' w' v hs b=>⟨g',hs,b⟩) (fun l5 hv=>?_)
 clear hv
 refine L_nil fun m8 g8 hall=>?_
 have hs:=hall.1
 have hfr:=hfr.ext hs
 have b2:=b2.ext hs
 have n8:=(word_all (A:=fun g w=>RV g.m w ([]:List Int) v3∧OS 3003 g w 3 ([]:List Int) v3∧FullV v3) 0 rfl hall).1
 have o22:=(word_all (A:=fun g w=>RV g.m w ([]:List Int) v3∧OS 3003 g w 3 ([]:List Int) v3∧FullV v3) 0 rfl hall).2.1
 have b25:=(word_all (A:=fun g w=>OA 3003 g w 3 y7 v6) 3 rfl hall)
 have o8:=(word_all (A:=fun g w=>RV g.m w ([]:List Int) v8∧OS 3007 g w 3 ([]:List Int) v8∧FullV v8) 4 rfl hall).1
 have o26:=(word_all (A:=fun g w=>RV g.m w ([]:List Int) v8∧OS 3007 g w 3 ([]:List Int) v8∧FullV v8) 4 rfl hall).2.1
 have b29:=(word_all (A:=fun g w=>OA 3007 g w 3 i3 i5) 7 rfl hall)
 have q8:=(word_all (A:=fun g w=>RV g.m w ([]:List BoxShuttle) o0∧OS 3011 g w 87 ([]:List BoxShuttle) o0∧FullV o0) 8 rfl hall).1
 have o30:=(word_all (A:=fun g w=>RV g.m w ([]:List BoxShuttle) o0∧OS 3011 g w 87 ([]:List BoxShuttle) o0∧FullV o0) 8 rfl hall).2.1
 have b33:=(word_all (A:=fun g w=>OA 3011 g w 87 u3 l5) 11 rfl hall)
 clear hs hall
 obtain ⟨sk35,ow35,ok35⟩:=OA.toW b25
 obtain ⟨sk36,ow36,ok36⟩:=OA.toW b29
 obtain ⟨sk37,ow37,ok37⟩:=OA.toW b33
 have wn38:=Wn.fl (OW.wn ow37)
 obtain ⟨gq39,hs,_,wn39⟩:=Wn.pair (OW.wn ow36) wn38 rfl
 have hfr:=hfr.stp hs
 have b2:=b2.stp hs rfl
 have ow35:=ow35.stp hs rfl
 obtain ⟨gq40,hs,_,wn40⟩:=Wn.pair (OW.wn ow35) wn39 rfl
 have hfr:=hfr.stp hs
 have b2:=b2.stp hs rfl
 obtain ⟨x5,t5⟩:∃ v,v=(Value.agg (setCh [[.slice none 0 0],[.slice none 0 0],[.slice none 0 0]] [(0,v6),(1,i5),(2,l5)]).flatten.toArray):=⟨_,rfl⟩
 have ow34:OW ow_BoxLoom 3011 gq40 g8 (⟨y7,i3,u3⟩:BoxLoom) (sk35,(sk36,sk37)) x5:=t5 ▸ Wn.mk_ (Wn.struct (x:=((⟨y7,i3,u3⟩:BoxLoom))) wn40)
 refine EL_p x5 (t5 ▸ P_build (vs:=[(0,v6),(1,i5),(2,l5)]) [[.slice none 0 0],[.slice none 0 0],[.slice none 0 0]] lay_25 rfl rfl (.cons rfl (.cons rfl (.cons rfl .nil))) ⟨⟨_,rfl,OW.csz ow35⟩,⟨⟨_,rfl,OW.csz ow36⟩,⟨⟨_,rfl,OW.csz ow37⟩,trivial⟩⟩⟩) rfl ?_
 refine Ze .plain rfl (D_storeOW (g:=gq40) Try.sizeOf25 rfl b2 rfl ow34 rfl fun gj41 r8 t8 bk41 hsa hsb hpp b41=>?_)
 have hfr:=hfr.stp hsa
 have hfr:=hfr.stp hsb
 clear hsa hsb
 subst hpp
 refine Zb (Zd (E_ret ?_))
 obtain rfl:=sinj h
 obtain ⟨x8,a7,ow42⟩:=OV.read (t:=25) Try.isAgg25 Try.sizeOf25 b41 rfl
 obtain ⟨gh,hxh,_,homh⟩:=OW.hand (i:=iO) hfr ow42 (⟨ok35,⟨ok36,ok37⟩⟩:(ow_BoxLoom).ok (sk35,(sk36,sk37)))
 exact endm_c rfl rfl (show _=(Value.pointer (some ⟨bk41,0,none⟩)) from rfl) a7 ⟨gh,hxh,homh⟩
def f64 (x0:List (List Int)) (x1:(List Int)→Option Bool):Option (Bool):=
 (f90 x0 x1).bind fun y2=>
 some ((decide (y2 ≥ (0:Int))))
def f66 (x0:List (List Int)):Option ((List Int)):=
 Option.bind (α:=Int) (
  lp (σ:=Int × Int) (fun xA (u3,o0)=>
   bif (decide (o0 < ((x0).length : Int))) then
    Option.bind (α:=Int) (
     (idx x0 o0).bind fun t5=>
     bif (decide ((w64 (u3 + ((t5).length : Int))) < (0 : Int))) then
      none
     else
      some ((w64 (u3 + ((t5).length:Int))))
     ) fun x5=>
    xA (x5,(w64 (o0 + (1:Int))))
   else
    some (u3)
   ) big ((0:Int),(0:Int))
  ) fun i6=>
 (f91 i6).bind fun yA=>
 Option.bind (α:=(List Int)) (
  lp (σ:=(List Int) × Int) (fun zA (b7,i3)=>
   bif (decide (i3 < ((x0).length : Int))) then
    Option.bind (α:=(List Int)) (
     (idx x0 i3).bind fun aB=>
     (apnd 8 b7 aB).bind fun bB=>
     some (bB)
     ) fun l5=>
    zA (l5,(w64 (i3 + (1:Int))))
   else
    some (b7)
   ) big (yA,(0:Int))
  ) fun j6=>
 some (j6)
def f86 (x0:List BoxShuttle) (x1:BoxShuttle→Option Bool):Option (Bool):=
 (f102 x0 x1).bind fun y2=>
 some ((decide (y2 ≥ (0:Int))))
theorem en86:Enters Try.prog 86:=enters_of Try.func86 (by kernel_rfl) rfl
theorem wk86 {gI:Gh} {wI:World} {x0:List BoxShuttle} {x1:BoxShuttle→Option Bool} {up0:Value} (rp0:RV gI.m wI x0 up0) {up1:Value} (rp1:FnV1 Try.prog x1 up1 gI wI) {r:Bool} (h:f86 x0 x1=some r):Fn Try.prog 86 #[up0,up1] gI wI (fun _ _ v=>v=.bool (r)):=by
 unfold f86 at h
 refine fn_of_E Try.func86 rfl (Nat.le_of_ble_eq_true rfl) fun g0 hm hfr=>?_
 have rp0:RV g0.m wI x0 up0:=hm ▸ rp0
 obtain ⟨ff1,fa1,fc1,rfl,fen1,fcl1⟩:=rp1
 show E _ 9 none _ _ _ _ _
 refine Zf (Za (Zg (.bool false) rfl rfl ?_))
 refine Zb (Zd (Zf (Za (Zn up0 rfl rfl ?_))))
 refine Zn ((.func (.func ff1) fa1 fc1)) rfl rfl ?_
 obtain ⟨y2,hy2,h⟩:=bsome h
 refine Ze .plain rfl (Zp (g:=g0) (vs:=[up0,(.func (.func ff1) fa1 fc1)]) en102 (.cons rfl (.cons rfl .nil)) (wk102 rp0 (FnV1.ch ⟨_,_,_,rfl,fen1,fcl1⟩ hfr.ch) hy2) fun g1 w1_ v1 hs hr=>?_)
 have hfr:=hfr.ext hs
 subst hr
 refine EL_in (.bool ((decide (y2 ≥ (0:Int))))) rfl rfl rfl rfl ?_
 refine Zg (.bool ((decide (y2 ≥ (0:Int))))) rfl rfl ?_
 refine Zb (Zd (E_ret ?_))
 obtain rfl:=sinj h
 exact end1 rfl rfl (show _=.bool ((decide (y2 ≥ (0:Int)))) from rfl) ⟨_,hfr,rfl⟩
def f87 (x0:Int) (x1:Int) (x2:List Int):Option (Bool):=
 (f103 x2 ((fun a0=>f104 a0 x0 x1))).bind fun y4=>
 some ((!y4))
theorem en87:Enters Try.prog 87:=enters_of Try.func87 (by kernel_rfl) rfl
theorem wk87 {gI:Gh} {wI:World} {x0:Int} {x1:Int} {x2:List Int} {up2:Value} (rp2:RV gI.m wI x2 up2) {r:Bool} (h:f87 x0 x1 x2=some r):Fn Try.prog 87 #[.int .i64 (x0),.int .i64 (x1),up2] gI wI (fun _ _ v=>v=.bool (r)):=by
 unfold f87 at h
 refine fn_of_E Try.func87 rfl (Nat.le_of_ble_eq_true rfl) fun g0 hm hfr=>?_
 have rp2:RV g0.m wI x2 up2:=hm ▸ rp2
 show E _ 11 none _ _ _ _ _
 refine Zf (Za (Ze .plain rfl (D_box (g:=g0) rfl (Zj.2 rfl) fun g1 w1 p1 hs q1=>?_)))
 have hfr:=hfr.ext hs
 have rp2:=rp2.ext hs
 refine Ze .plain rfl (D_box (g:=g1) rfl (Zj.2 rfl) fun g2 w2 p2 hs q2=>?_)
 have hfr:=hfr.ext hs
 have rp2:=rp2.ext hs
 have q1:=q1.ext hs
 refine Zg (.bool false) rfl rfl ?_
 refine Zb (Zd (Zf (Za (Zn up2 rfl rfl ?_))))
 refine EL_p ((.func (.func 104) #[] #[p1,p2])) (P_makeFunc (capf_0_2 (show ev _ _=p1 from rfl) (show ev _ _=p2 from rfl))) rfl ?_
 obtain ⟨y4,o0,h⟩:=bsome h
 refine Ze .plain rfl (Zp (g:=g2) (vs:=[up2,(.func (.func 104) #[] #[p1,p2])]) en103 (.cons rfl (.cons rfl .nil)) (wk103 rp2 ⟨104,#[],#[p1,p2],rfl,en104,fun g' w' hch a0 b0 r hu0 hr=>by obtain rfl:=Zj.1 hu0; exact Fn.mono (wk104  (q1.ch hch) (q2.ch hch) hr) fun _ _ _ h=>RV_bool.2 h⟩ o0) fun g3 w3_ v3 hs hr=>?_)
 have hfr:=hfr.ext hs
 subst hr
 refine EL_p (.bool (!y4)) (P_not rfl) rfl ?_
 refine Zg (.bool (!y4)) rfl rfl ?_
 refine Zb (Zd (E_ret ?_))
 obtain rfl:=sinj h
 exact end1 rfl rfl (show _=.bool (!y4) from rfl) ⟨_,hfr,rfl⟩
def f95 (x0:BoxPick) (z0:BoxBoxLoom):Option (Bool):=
 Option.bind (α:=Bool) (
  (idx (((z0).BoxLoom).Boxes) (0:Int)).bind fun t5=>
  (f87 ((0:Int)) ((w64 (t5 - (1:Int)))) (([(x0).Left]:List Int))).bind fun i5=>
  bif (!i5) then
   some (true)
  else
   (idx (((z0).BoxLoom).Boxes) (1:Int)).bind fun x5=>
   (f87 ((0:Int)) ((w64 (x5 - (1:Int)))) (([(x0).Right]:List Int))).bind fun y135=>
   some ((!y135))
  ) fun l5=>
 some (l5)
theorem en95:Enters Try.prog 95:=enters_of Try.func95 (by kernel_rfl) rfl
theorem wk95 {gI:Gh} {wI:World} {x0:BoxPick} {z0:BoxBoxLoom} {up0:Value} (rp0:RV gI.m wI x0 up0) {pf0:Value} (qf0:PT gI.m wI z0 pf0) {r:Bool} (h:f95 x0 z0=some r):Fn Try.prog 95 #[up0,pf0] gI wI (fun _ _ v=>v=.bool (r)):=by
 unfold f95 at h
 refine fn_of_E Try.func95 rfl (Nat.le_of_ble_eq_true rfl) fun g0 hm hfr=>?_
 have qf0:PT g0.m wI z0 pf0:=hm ▸ qf0
 have rp0:RV g0.m wI x0 up0:=hm ▸ rp0
 show E _ 28 none _ _ _ _ _
 refine Zf (Za (Ze .plain rfl (D_box (g:=g0) rfl rp0 fun g1 w1 p1 hs q1=>?_)))
 have hfr:=hfr.ext hs
 have qf0:=qf0.ext hs
 refine Zg (.bool false) rfl rfl ?_
 refine Zb (Zd ?_)
 obtain ⟨l5,hx,h⟩:=bsome h
 refine E_join (fun e w=>∃ (g:Gh) ,Fr gI wI g w∧e 3=.bool (l5)) (fun Q' hQ=>?_) (fun l9 n9 hR=>?_)
 ·replace h := hx
  clear hx
  have x6:=Zm (part_BoxBoxLoom_0).1 qf0
  have v8:=Zm (part_BoxLoom_0).1 x6
  refine Zs (x:=.tmp 5) Try.isAgg22 Try.sizeOf22 v8 fun j6 y6 a7=>?_
  obtain ⟨t5,i6,h⟩:=bsome h
  have x8:=PT_idx y6 i6
  refine Zs (x:=.tmp 7) Try.isAgg3 Try.sizeOf3 x8 fun nA y8 b7=>?_
  obtain rfl:=Zj.1 y8
  have a9:=Zm (part_BoxPick_0).1 q1
  refine Zs (x:=.tmp 10) Try.isAgg3 Try.sizeOf3 a9 fun oA d9 d7=>?_
  obtain rfl:=Zj.1 d9
  obtain ⟨i5,g7,h⟩:=bsome h
  rcases Zt h with ⟨i3,h⟩ | ⟨i3,h⟩
  ·refine E_drawL (g := g1) (n := 25) [(8, (fun v g w => RV g.m w ([(x0).Left] : List Int) v ∧ OS 3012 g w 3 ([(x0).Left] : List Int) v ∧ FullV v)), (9, (fun v g w => v = .bool (i5)))] [0, 1, 2, 3, 4, 5, 6, 7, 8, 9, 10, 11, 12, 13, 14, 15, 16, 17, 18, 19, 20, 21, 22, 23, 24] rfl mixed (by kernel_rfl) (⟨fun _ => up_and up_rv (up_and up_os (up_eq _)), fun _ => up_eq _, trivial⟩) ?_
   refine L_p (fPtr pf0 0) rfl rfl (Zc at_102_0 rfl (PT.ptr qf0)) ?_
   refine L_p (fPtr (fPtr pf0 0) 0) rfl rfl (Zc at_25_0 rfl (PT.ptr x6)) ?_
   refine L_ld (c:=j6) rfl rfl .plain (fun _ _ h=>h.ch) a7 rfl ?_
   refine L_p (ePtr j6 (0:Int) 1) rfl rfl (Zh (α:=Int) Try.underlying22 Try.sizeOf3 rfl y6 rfl i6) ?_
   refine L_ld (c:=.int .i64 (t5)) rfl rfl .plain (fun _ _ h=>h.ch) b7 rfl ?_
   refine L_p (.int .i64 ((w64 (t5 - (1:Int))))) rfl rfl (P_int rfl rfl rfl) ?_
   refine L_p (fPtr p1 0) rfl rfl (Zc at_83_0 rfl (PT.ptr q1)) ?_
   refine L_ld (c:=.int .i64 ((x0).Left)) rfl rfl .plain (fun _ _ h=>h.ch) d7 rfl ?_
   refine L_do (φ:=fun v g w=>RV g.m w ([(x0).Left]:List Int) v∧OS 3012 g w 3 ([(x0).Left]:List Int) v∧FullV v) rfl rfl .plain (fun g w hd=>D_buildSlice (g:=g) 3012 (xs:=([(x0).Left]:List Int)) (vs:=[.int .i64 ((x0).Left)]) Try.underlying22 Try.sizeOf3 Try.zeroValue3 rfl rfl (.cons rfl .nil) (RVs.cons (Zj.2 rfl) RVs.nil) rfl rfl fun g' w' v hs o r hxt hfl=>⟨g',hxt,r,o,hfl⟩) (fun o0 hv=>?_)
   clear hv
   refine L_do (φ:=fun v g w=>v=.bool (i5)) rfl rfl .plain (fun g w hd=>Zp (g:=g) (vs:=[.int .i64 (0),.int .i64 ((w64 (t5 - (1:Int)))),o0]) en87 (.cons rfl (.cons rfl (.cons rfl .nil))) (wk87 (word (A:=fun g w=>RV g.m w ([(x0).Left]:List Int) o0∧OS 3012 g w 3 ([(x0).Left]:List Int) o0∧FullV o0) 8 rfl rfl (deps_of hd)).1 g7) fun g' w' v hs hr=>⟨g',hs,hr⟩) (fun i9 hv=>?_)
   obtain ⟨_,_,_,rfl⟩:=hv
   refine L_p (.bool (!i5)) rfl rfl (P_not rfl) ?_
   refine L_p (.bool (!i5)) rfl rfl (Zk rfl) ?_
   iterate 11 refine L_s rfl rfl rfl i3 rfl ?_
   refine L_p (.bool true) rfl rfl (Zl (b:=(!i5)) rfl (pick_t i3 rfl)) ?_
   refine L_p (.bool true) rfl rfl (P_assign rfl) ?_
   refine L_nil fun k9 pA hall=>?_
   have hs:=hall.1
   have hfr:=hfr.ext hs
   have u9:=(word_all (A:=fun g w=>RV g.m w ([(x0).Left]:List Int) o0∧OS 3012 g w 3 ([(x0).Left]:List Int) o0∧FullV o0) 8 rfl hall).1
   have o109:=(word_all (A:=fun g w=>RV g.m w ([(x0).Left]:List Int) o0∧OS 3012 g w 3 ([(x0).Left]:List Int) o0∧FullV o0) 8 rfl hall).2.1
   clear hs hall
   refine Zb ?_
   obtain rfl:=sinj h
   exact hQ _ _ ⟨k9,hfr,rfl⟩
  ·have i7 := Zm (part_BoxBoxLoom_0).1 qf0
   have m8:=Zm (part_BoxLoom_0).1 i7
   refine Zs (x:=.tmp 17) Try.isAgg22 Try.sizeOf22 m8 fun j7 m7 g8=>?_
   obtain ⟨x5,v6,h⟩:=bsome h
   have n8:=PT_idx m7 v6
   refine Zs (x:=.tmp 19) Try.isAgg3 Try.sizeOf3 n8 fun y9 o8 i8=>?_
   obtain rfl:=Zj.1 o8
   have q8:=Zm (part_BoxPick_1).1 q1
   refine Zs (x:=.tmp 22) Try.isAgg3 Try.sizeOf3 q8 fun z9 r8 k8=>?_
   obtain rfl:=Zj.1 r8
   obtain ⟨y135,l8,h⟩:=bsome h
   refine E_drawL (g:=g1) (n:=25) [(8,(fun v g w=>RV g.m w ([(x0).Left]:List Int) v∧OS 3012 g w 3 ([(x0).Left]:List Int) v∧FullV v)),(9,(fun v g w=>v=.bool (i5))),(20,(fun v g w=>RV g.m w ([(x0).Right]:List Int) v∧OS 3024 g w 3 ([(x0).Right]:List Int) v∧FullV v)),(21,(fun v g w=>v=.bool (y135)))] [0,1,2,3,4,5,6,7,8,9,10,11,12,13,14,15,16,17,18,19,20,21,22,23,24] rfl mixed (by kernel_rfl) (⟨fun _=>up_and up_rv (up_and up_os (up_eq _)),fun _=>up_eq _,fun _=>up_and up_rv (up_and up_os (up_eq _)),fun _=>up_eq _,trivial⟩) ?_
   refine L_p (fPtr pf0 0) rfl rfl (Zc at_102_0 rfl (PT.ptr qf0)) ?_
   refine L_p (fPtr (fPtr pf0 0) 0) rfl rfl (Zc at_25_0 rfl (PT.ptr x6)) ?_
   refine L_ld (c:=j6) rfl rfl .plain (fun _ _ h=>h.ch) a7 rfl ?_
   refine L_p (ePtr j6 (0:Int) 1) rfl rfl (Zh (α:=Int) Try.underlying22 Try.sizeOf3 rfl y6 rfl i6) ?_
   refine L_ld (c:=.int .i64 (t5)) rfl rfl .plain (fun _ _ h=>h.ch) b7 rfl ?_
   refine L_p (.int .i64 ((w64 (t5 - (1:Int))))) rfl rfl (P_int rfl rfl rfl) ?_
   refine L_p (fPtr p1 0) rfl rfl (Zc at_83_0 rfl (PT.ptr q1)) ?_
   refine L_ld (c:=.int .i64 ((x0).Left)) rfl rfl .plain (fun _ _ h=>h.ch) d7 rfl ?_
   refine L_do (φ:=fun v g w=>RV g.m w ([(x0).Left]:List Int) v∧OS 3012 g w 3 ([(x0).Left]:List Int) v∧FullV v) rfl rfl .plain (fun g w hd=>D_buildSlice (g:=g) 3012 (xs:=([(x0).Left]:List Int)) (vs:=[.int .i64 ((x0).Left)]) Try.underlying22 Try.sizeOf3 Try.zeroValue3 rfl rfl (.cons rfl .nil) (RVs.cons (Zj.2 rfl) RVs.nil) rfl rfl fun g' w' v hs o r hxt hfl=>⟨g',hxt,r,o,hfl⟩) (fun o0 hv=>?_)
   clear hv
   refine L_do (φ:=fun v g w=>v=.bool (i5)) rfl rfl .plain (fun g w hd=>Zp (g:=g) (vs:=[.int .i64 (0),.int .i64 ((w64 (t5 - (1:Int)))),o0]) en87 (.cons rfl (.cons rfl (.cons rfl .nil))) (wk87 (word (A:=fun g w=>RV g.m w ([(x0).Left]:List Int) o0∧OS 3012 g w 3 ([(x0).Left]:List Int) o0∧FullV o0) 8 rfl rfl (deps_of hd)).1 g7) fun g' w' v hs hr=>⟨g',hs,hr⟩) (fun i9 hv=>?_)
   obtain ⟨_,_,_,rfl⟩:=hv
   refine L_p (.bool (!i5)) rfl rfl (P_not rfl) ?_
   refine L_p (.bool (!i5)) rfl rfl (Zk rfl) ?_
   refine L_y (fPtr pf0 0) rfl rfl rfl rfl i3 (Zc at_102_0 rfl (PT.ptr qf0)) ?_
   refine L_y (fPtr (fPtr pf0 0) 0) rfl rfl rfl rfl i3 (Zc at_25_0 rfl (PT.ptr i7)) ?_
   refine L_ld (c:=j7) rfl rfl (.yes2 rfl rfl i3) (fun _ _ h=>h.ch) g8 rfl ?_
   refine L_y (ePtr j7 (1:Int) 1) rfl rfl rfl rfl i3 (Zh (α:=Int) Try.underlying22 Try.sizeOf3 rfl m7 rfl v6) ?_
   refine L_ld (c:=.int .i64 (x5)) rfl rfl (.yes2 rfl rfl i3) (fun _ _ h=>h.ch) i8 rfl ?_
   refine L_y (.int .i64 ((w64 (x5 - (1:Int))))) rfl rfl rfl rfl i3 (P_int rfl rfl rfl) ?_
   refine L_y (fPtr p1 1) rfl rfl rfl rfl i3 (Zc at_83_1 rfl (PT.ptr q1)) ?_
   refine L_ld (c:=.int .i64 ((x0).Right)) rfl rfl (.yes2 rfl rfl i3) (fun _ _ h=>h.ch) k8 rfl ?_
   refine L_do (φ:=fun v g w=>RV g.m w ([(x0).Right]:List Int) v∧OS 3024 g w 3 ([(x0).Right]:List Int) v∧FullV v) rfl rfl (.yes2 rfl rfl i3) (fun g w hd=>D_buildSlice (g:=g) 3024 (xs:=([(x0).Right]:List Int)) (vs:=[.int .i64 ((x0).Right)]) Try.underlying22 Try.sizeOf3 Try.zeroValue3 rfl rfl (.cons rfl .nil) (RVs.cons (Zj.2 rfl) RVs.nil) rfl rfl fun g' w' v hs o r hxt hfl=>⟨g',hxt,r,o,hfl⟩) (fun u3 hv=>?_)
   clear hv
   refine L_do (φ:=fun v g w=>v=.bool (y135)) rfl rfl (.yes2 rfl rfl i3) (fun g w hd=>Zp (g:=g) (vs:=[.int .i64 (0),.int .i64 ((w64 (x5 - (1:Int)))),u3]) en87 (.cons rfl (.cons rfl (.cons rfl .nil))) (wk87 (word (A:=fun g w=>RV g.m w ([(x0).Right]:List Int) u3∧OS 3024 g w 3 ([(x0).Right]:List Int) u3∧FullV u3) 20 rfl rfl (deps_of hd)).1 l8) fun g' w' v hs hr=>⟨g',hs,hr⟩) (fun bA hv=>?_)
   obtain ⟨_,_,_,rfl⟩:=hv
   refine L_y (.bool (!y135)) rfl rfl rfl rfl i3 (P_not rfl) ?_
   refine L_p (.bool (!y135)) rfl rfl (Zl (b:=(!i5)) rfl (pick_f i3 rfl)) ?_
   refine L_p (.bool (!y135)) rfl rfl (P_assign rfl) ?_
   refine L_nil fun t8 gA hall=>?_
   have hs:=hall.1
   have hfr:=hfr.ext hs
   have iA:=(word_all (A:=fun g w=>RV g.m w ([(x0).Left]:List Int) o0∧OS 3012 g w 3 ([(x0).Left]:List Int) o0∧FullV o0) 8 rfl hall).1
   have o149:=(word_all (A:=fun g w=>RV g.m w ([(x0).Left]:List Int) o0∧OS 3012 g w 3 ([(x0).Left]:List Int) o0∧FullV o0) 8 rfl hall).2.1
   have jA:=(word_all (A:=fun g w=>RV g.m w ([(x0).Right]:List Int) u3∧OS 3024 g w 3 ([(x0).Right]:List Int) u3∧FullV u3) 20 rfl hall).1
   have o161:=(word_all (A:=fun g w=>RV g.m w ([(x0).Right]:List Int) u3∧OS 3024 g w 3 ([(x0).Right]:List Int) u3∧FullV u3) 20 rfl hall).2.1
   clear hs hall
   refine Zb ?_
   obtain rfl:=sinj h
   exact hQ _ _ ⟨t8,hfr,rfl⟩
 ·clear hx
  obtain ⟨mA,hfr,v7⟩:=hR
  refine E_ret ?_
  obtain rfl:=sinj h
  exact end1 rfl rfl (show _=.bool (l5) from v7) ⟨_,hfr,rfl⟩
def f96 (x0:List BoxPick) (x1:BoxPick→Option Bool):Option (Bool):=
 (f105 x0 x1).bind fun y2=>
 some ((decide (y2 ≥ (0:Int))))
theorem en96:Enters Try.prog 96:=enters_of Try.func96 (by kernel_rfl) rfl
theorem wk96 {gI:Gh} {wI:World} {x0:List BoxPick} {x1:BoxPick→Option Bool} {up0:Value} (rp0:RV gI.m wI x0 up0) {up1:Value} (rp1:FnV1 Try.prog x1 up1 gI wI) {r:Bool} (h:f96 x0 x1=some r):Fn Try.prog 96 #[up0,up1] gI wI (fun _ _ v=>v=.bool (r)):=by
 unfold f96 at h
 refine fn_of_E Try.func96 rfl (Nat.le_of_ble_eq_true rfl) fun g0 hm hfr=>?_
 have rp0:RV g0.m wI x0 up0:=hm ▸ rp0
 obtain ⟨ff1,fa1,fc1,rfl,fen1,fcl1⟩:=rp1
 show E _ 9 none _ _ _ _ _
 refine Zf (Za (Zg (.bool false) rfl rfl ?_))
 refine Zb (Zd (Zf (Za (Zn up0 rfl rfl ?_))))
 refine Zn ((.func (.func ff1) fa1 fc1)) rfl rfl ?_
 obtain ⟨y2,hy2,h⟩:=bsome h
 refine Ze .plain rfl (Zp (g:=g0) (vs:=[up0,(.func (.func ff1) fa1 fc1)]) en105 (.cons rfl (.cons rfl .nil)) (wk105 rp0 (FnV1.ch ⟨_,_,_,rfl,fen1,fcl1⟩ hfr.ch) hy2) fun g1 w1_ v1 hs hr=>?_)
 have hfr:=hfr.ext hs
 subst hr
 refine EL_in (.bool ((decide (y2 ≥ (0:Int))))) rfl rfl rfl rfl ?_
 refine Zg (.bool ((decide (y2 ≥ (0:Int))))) rfl rfl ?_
 refine Zb (Zd (E_ret ?_))
 obtain rfl:=sinj h
 exact end1 rfl rfl (show _=.bool ((decide (y2 ≥ (0:Int)))) from rfl) ⟨_,hfr,rfl⟩
end Go.Proofs.Ytmpjooneiaiffaa
