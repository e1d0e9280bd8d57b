import Derived.Test.YtpglkdijpcgcaaaGreatDoorCode1
set_option maxRecDepth 8000
set_option maxHeartbeats 4000000
namespace Go.Proofs.YtpglkdijpcgcaaaGreatDoor
open Go.RowKit Tryz
variable {gI:Gh} {wI:World} {up0 up1 up2 up5:Value}
def f20 (x0:Z8):Option (List Int):=
 (H2 (1:Int) (((x0.LoomMill).Widths).length:Int)).bind fun y5=>
 (f49 (w64 (y5-(1:Int)))).bind fun y7=>
 some y7
theorem en20:Enters prog 20:=yC func20
theorem wk20 {x0:Z8} (rp0:RV gI.m wI x0 up0) {r:(List Int)} (h:f20 x0=some r):Fn prog 20 #[up0] gI wI (fun m w v=>RV m w r v):=by
 unfold f20 at h;refine fnE func20 rfl rfl fun g0 hm hfr=>?_;have rp0:=RVc hm rp0;refine Z (G (Tw (g:=g0) rfl rp0 fun g1 w1 p1 hs q1=>?_));have hfr:=hfr.ext hs;refine H (.slice none 0 0) (O (Z (Y (S p1 0) (aa Y4 (PT.ptr q1)) ?_)));have q2:=Zm Qx.1 q1;refine Y (S (S p1 0) 0) (aa Ha (PT.ptr q2)) ?_;have q3:=Zm Qa.1 q2;refine G (Ga (g:=g1) isAgg25 sizeOf25 rfl q3 fun v4 r4=>(Y (I (((x0.LoomMill).Widths).length:Int)) (G7 underlying25 rfl r4) ?_));obtain ⟨y5,hy5,h⟩:=Z1 h;refine Y (I y5) (Gp rfl rfl (congrArg (Option.map (Value.int .i64)) hy5)) (aT (I (w64 (y5-(1:Int)))) rfl rfl rfl ?_);obtain ⟨y7,o0,h⟩:=Z1 h;refine G (aJ (g:=g1) (vs:=[I (w64 (y5-(1:Int)))]) en49 (wk49  o0) fun g6 w6_ v6 hs hr=>?_);have hfr:=hfr.ext hs;have r6:=hr;refine H v6 (O (Gb ?_));obtain rfl:=sinj h;exact ac rfl (rq v6) ⟨_,hfr,r6⟩
def f26 (x0:Z8) (x1:Z3) (x2:Int):Option Int:=
 jn (σ:=Unit) (fun _=>
  (f31 x0 x1).bind fun o0=>
  some (w64 (o0+(x0.LoomMill).Change))
  ) fun nB=>
 (idx x0.orders x1.Order).bind fun i6=>
 (idx x0.orders x2).bind fun g8=>
 bif (i6.Chain==g8.Chain) then
  (f31 x0 x1).bind fun y84=>
  some y84
 else
  nB ()
theorem en26:Enters prog 26:=yC func26
theorem wk26 {x0:Z8} {x1:Z3} {x2:Int} (rp0:RV gI.m wI x0 up0) (rp1:RV gI.m wI x1 up1) {r:Int} (h:f26 x0 x1 x2=some r):Fn prog 26 #[up0,up1,I x2] gI wI (fun _ _ v=>v=I r):=by
 unfold f26 at h;refine fnE func26 rfl rfl fun g0 hm hfr=>?_;have rp0:=RVc hm rp0;have rp1:=RVc hm rp1;refine Z (G (Tw (g:=g0) rfl rp0 fun g1 w1 p1 hs q1=>?_));have hfr:=hfr.ext hs;have rp1:=rp1.ext hs;refine G (Tw (g:=g1) rfl rp1 fun g2 w2 p2 hs q2=>?_);have hfr:=hfr.ext hs;have q1:=q1.ext hs;refine H (I 0) (O (Zq h (fun (s:Unit)=>xD gI wI fun e w g=>e 3=p1∧PT g.m w (x0:Z8) p1∧e 4=p2∧PT g.m w (x1:Z3) p2) (fun X43 nB bD h=>?_) ?_))
 ·refine Zf ?_
  have mE:=Zm G8.1 q1;refine Zs (x:=.tmp 7) isAgg28 sizeOf28 mE fun v8 oB cD=>?_;have oE:=Zm T6.1 q2;refine Zs (x:=.tmp 9) isAgg3 sizeOf3 oE fun bG rE lD=>?_;obtain rfl:=Zj.1 rE;obtain ⟨i6,l9,h⟩:=Z1 h;have vB:=G1 oB l9;have uE:=Zm Wz.1 vB;refine Zs (x:=.tmp 12) isAgg3 sizeOf3 uE fun cG vE nD=>?_;obtain rfl:=Zj.1 vE;have xE:=Zm G8.1 q1;refine Zs (x:=.tmp 14) isAgg28 sizeOf28 xE fun n9 yB oD=>?_;obtain ⟨g8,aB,h⟩:=Z1 h;have zB:=G1 yB aB;have yE:=Zm Wz.1 zB;refine Zs (x:=.tmp 18) isAgg3 sizeOf3 yE fun eG zE yD=>?_;obtain rfl:=Zj.1 zE;refine ab (g:=g2) (n:=14) [] [0,1,2,3,4,5,6,7,8,9,10,11,12,13] mixed trivial (V (S p1 2) rfl (aa W6 (PT.ptr q1)) (G3 (c:=v8) rfl rfl .plain xC cD rfl (V (S p2 0) rfl (aa Kw (PT.ptr q2)) (G3 (c:=I x1.Order) rfl rfl .plain xC lD rfl (V (Gy v8 x1.Order 5) rfl (Zh (α:=Z5) underlying28 sizeOf59 rfl oB rfl l9) (V (S (Gy v8 x1.Order 5) 1) rfl (aa Xh (PT.ptr vB)) (G3 (c:=I i6.Chain) rfl rfl .plain xC nD rfl (V (S p1 2) rfl (aa W6 (PT.ptr q1)) (G3 (c:=n9) rfl rfl .plain xC oD rfl (V (I x2) rfl (ai) (V (Gy n9 x2 5) rfl (Zh (α:=Z5) underlying28 sizeOf59 rfl yB rfl aB) (V (S (Gy n9 x2 5) 1) rfl (aa Xh (PT.ptr zB)) (G3 (c:=I g8.Chain) rfl rfl .plain xC yD rfl (V (.bool (i6.Chain==g8.Chain)) rfl (Gp rfl rfl rfl) (Ki fun l8 gG hs=>?_)))))))))))))));have hfr:=hfr.ext hs;have q1:=q1.ext hs;have q2:=q2.ext hs;clear hs;refine O ?_;rcases Zt h with ⟨t5,h⟩ | ⟨t5,h⟩
  ·refine Gz t5 rfl (Z (G (Ga (g:=l8) isAgg80 sizeOf80 rfl q1 fun cF dF=>(G (Ga (g:=l8) isAgg57 sizeOf57 rfl q2 fun eF rF=>?_)))))
   obtain ⟨y84,zD,h⟩:=Z1 h;refine G (aJ (g:=l8) (vs:=[cF,eF]) en31 (wk31 dF rF zD) fun iG yF jG hs hr=>?_);have hfr:=hfr.ext hs;subst hr;refine H (I y84) (O (Gb (Gj ?_)));obtain rfl:=sinj h;exact ac rfl (rq (I y84)) ⟨_,hfr,rfl⟩
  ·refine G0 t5 rfl ?_
   exact Zu (Zd (bD () _ _ ⟨l8,hfr,rfl,q1,rfl,q2⟩ h))
 ·rintro _ aG kG ⟨sF,hfr,n8,l5,lB,mB⟩ h
  refine Zf (Zs (x:=.tmp 3) isAgg80 sizeOf80 l5 fun cC tF aE=>(Zs (x:=.tmp 4) isAgg57 sizeOf57 mB fun uC uF bE=>?_));obtain ⟨o0,iE,h⟩:=Z1 h;have vC:=Zm Qx.1 l5;have vF:=Zm Hp.1 vC;refine Zs (x:=.tmp 28) isAgg3 sizeOf3 vF fun lG xF lE=>?_;obtain rfl:=Zj.1 xF;refine ab (g:=sF) (n:=8) [(2,(fun v g w=>v=I o0))] [0,1,2,3,4,5,6,7] mixed (⟨fun _=>Ww _,trivial⟩) (G3 (c:=cC) rfl rfl .plain xC aE n8 (G3 (c:=uC) rfl rfl .plain xC bE lB (Wd (φ:=fun v g w=>v=I o0) rfl rfl .plain (fun g w hd=>aJ (g:=g) (vs:=[cC,uC]) en31 (wk31 (tF.ext hd.1) (uF.ext hd.1) iE) fun g' w' v hs hr=>⟨g',hs,hr⟩) (fun mG hv=>?_))));obtain ⟨_,_,_,rfl⟩:=hv;refine V (S p1 0) rfl (Zc Y4 n8 (PT.ptr l5)) (V (S (S p1 0) 1) rfl (aa Rg (PT.ptr vC)) (G3 (c:=I ((x0.LoomMill).Change)) rfl rfl .plain xC lE rfl (V (I (w64 (o0+(x0.LoomMill).Change))) rfl (Gp rfl rfl rfl) (V (I (w64 (o0+(x0.LoomMill).Change))) rfl (Tp rfl) (Ki fun sG xG hs=>?_)))));have hfr:=hfr.ext hs;clear hs;refine O (Gb ?_);cases h;exact ac rfl (rq (I (w64 (o0+(x0.LoomMill).Change)))) ⟨_,hfr,rfl⟩
def f27 (x0:Tj) (x1:Z3):Option Bool:=
 Option.bind (α:=Bool) (
  bif (decide (x1.From≤((x0.LoomStop).Days).High)) then
   (f31 x0.mill x1).bind fun y79=>
   some (decide (y79>((x0.LoomStop).Days).Low))
  else
   some false
  ) fun l5=>
 some l5
theorem en27:Enters prog 27:=yC func27
theorem wk27 {x0:Tj} {x1:Z3} (rp0:RV gI.m wI x0 up0) (rp1:RV gI.m wI x1 up1) {r:Bool} (h:f27 x0 x1=some r):Fn prog 27 #[up0,up1] gI wI (fun _ _ v=>v=.bool r):=by
 unfold f27 at h;refine fnE func27 rfl rfl fun g0 hm hfr=>?_;have rp0:=RVc hm rp0;have rp1:=RVc hm rp1;refine Z (G (Tw (g:=g0) rfl rp0 fun g1 w1 p1 hs q1=>?_));have hfr:=hfr.ext hs;have rp1:=rp1.ext hs;refine G (Tw (g:=g1) rfl rp1 fun g2 w2 p2 hs q2=>?_);have hfr:=hfr.ext hs;have q1:=q1.ext hs;refine H (.bool false) (O ?_);obtain ⟨l5,hx,h⟩:=Z1 h;refine Gn (xD gI wI fun e w g=>e 4=.bool l5) (fun Q' hQ=>?_) (fun yD zD hR=>?_)
 ·replace h:=hx
  clear hx;have yB:=Zm Ty.1 q2;refine Zs (x:=.tmp 5) isAgg3 sizeOf3 yB fun iE zB t5=>?_;obtain rfl:=Zj.1 zB;have i6:=Zm Uo.1 q1;have g8:=Zm Wn.1 i6;have cC:=Zm Y7.1 g8;refine Zs (x:=.tmp 9) isAgg3 sizeOf3 cC fun lE uC l8=>?_;obtain rfl:=Zj.1 uC;rcases Zt h with ⟨o0,h⟩ | ⟨o0,h⟩
  ·have vC:=Zm Jg.1 q1
   refine Zs (x:=.tmp 13) isAgg80 sizeOf80 vC fun v8 bD lB=>(Zs (x:=.tmp 3) isAgg57 sizeOf57 q2 fun l9 cD mB=>?_);obtain ⟨y79,nB,h⟩:=Z1 h;have n9:=Zm Uo.1 q1;have aB:=Zm Wn.1 n9;have lD:=Zm Vh.1 aB;refine Zs (x:=.tmp 19) isAgg3 sizeOf3 lD fun mE nD oB=>?_;obtain rfl:=Zj.1 nD;refine ab (g:=g2) (n:=19) [(11,(fun v g w=>v=I y79))] [0,1,2,3,4,5,6,7,8,9,10,11,12,13,14,15,16,17,18] mixed (⟨fun _=>Ww _,trivial⟩) (V (S p2 2) rfl (aa Ws (PT.ptr q2)) (G3 (c:=I x1.From) rfl rfl .plain xC t5 rfl (V (S p1 3) rfl (aa Lv (PT.ptr q1)) (V (S (S p1 3) 1) rfl (aa Ub (PT.ptr i6)) (V (S (S (S p1 3) 1) 1) rfl (aa Dx (PT.ptr g8)) (G3 (c:=I (((x0.LoomStop).Days).High)) rfl rfl .plain xC l8 rfl (V (.bool (decide (x1.From≤((x0.LoomStop).Days).High))) rfl (Gp rfl rfl rfl) (V (.bool (decide (x1.From≤((x0.LoomStop).Days).High))) rfl (ai) (L_y (S p1 0) rfl rfl rfl rfl o0 (aa F7 (PT.ptr q1)) (G3 (c:=v8) rfl rfl (.yes2 rfl rfl o0) (fun _ _ h=>h.ch) lB rfl (G3 (c:=l9) rfl rfl (.yes2 rfl rfl o0) (fun _ _ h=>h.ch) mB rfl (Wd (φ:=fun v g w=>v=I y79) rfl rfl (.yes2 rfl rfl o0) (fun g w hd=>aJ (g:=g) (vs:=[v8,l9]) en31 (wk31 (bD.ext hd.1) (cD.ext hd.1) nB) fun g' w' v hs hr=>⟨g',hs,hr⟩) (fun oE hv=>?_)))))))))))));obtain ⟨_,_,_,rfl⟩:=hv;refine L_y (S p1 3) rfl rfl rfl rfl o0 (aa Lv (PT.ptr q1)) (L_y (S (S p1 3) 1) rfl rfl rfl rfl o0 (aa Ub (PT.ptr n9)) (L_y (S (S (S p1 3) 1) 0) rfl rfl rfl rfl o0 (aa La (PT.ptr aB)) (G3 (c:=I (((x0.LoomStop).Days).Low)) rfl rfl (.yes2 rfl rfl o0) (fun _ _ h=>h.ch) oB rfl (L_y (.bool (decide (y79>((x0.LoomStop).Days).Low))) rfl rfl rfl rfl o0 (Gp rfl rfl rfl) (V (.bool (decide (y79>((x0.LoomStop).Days).Low))) rfl (ae (b:=(decide (x1.From≤((x0.LoomStop).Days).High))) (Tg o0 rfl)) (V (.bool (decide (y79>((x0.LoomStop).Days).Low))) rfl (Tp rfl) (Ki fun oD rE hs=>?_)))))));have hfr:=hfr.ext hs;clear hs;refine Zb ?_;cases h;exact hQ _ _ ⟨oD,hfr,rfl⟩
  ·refine ab (g:=g2) (n:=19) [] [0,1,2,3,4,5,6,7,8,9,10,11,12,13,14,15,16,17,18] mixed trivial (V (S p2 2) rfl (aa Ws (PT.ptr q2)) (G3 (c:=I x1.From) rfl rfl .plain xC t5 rfl (V (S p1 3) rfl (aa Lv (PT.ptr q1)) (V (S (S p1 3) 1) rfl (aa Ub (PT.ptr i6)) (V (S (S (S p1 3) 1) 1) rfl (aa Dx (PT.ptr g8)) (G3 (c:=I (((x0.LoomStop).Days).High)) rfl rfl .plain xC l8 rfl (V (.bool (decide (x1.From≤((x0.LoomStop).Days).High))) rfl (Gp rfl rfl rfl) (V (.bool (decide (x1.From≤((x0.LoomStop).Days).High))) rfl (ai) ?_))))))))
   iterate 9 refine L_s rfl rfl rfl o0 rfl ?_
   refine V (.bool false) rfl (ae (b:=(decide (x1.From≤((x0.LoomStop).Days).High))) (Td o0 rfl)) (V (.bool false) rfl (Tp rfl) (Ki fun vB aE hs=>?_));have hfr:=hfr.ext hs;clear hs;refine Zb ?_;cases h;exact hQ _ _ ⟨vB,hfr,rfl⟩
 ·clear hx
  obtain ⟨bE,hfr,n8⟩:=hR;refine Gb ?_;obtain rfl:=sinj h;exact ac rfl (show _=.bool l5 from n8) ⟨_,hfr,rfl⟩
def f30 (x0:List Z3) (x1:Z3→Option Bool):Option Bool:=
 (f55 x0 x1).bind fun y2=>
 some (decide (y2≥(0:Int)))
theorem en30:Enters prog 30:=yC func30
theorem wk30 {x0:List Z3} {x1:Z3→Option Bool} (rp0:RV gI.m wI x0 up0) (rp1:Ho prog x1 up1 gI wI) {r:Bool} (h:f30 x0 x1=some r):Fn prog 30 #[up0,up1] gI wI (fun _ _ v=>v=.bool r):=by
 unfold f30 at h;refine fnE func30 rfl rfl fun g0 hm hfr=>?_;have rp0:=RVc hm rp0;obtain ⟨ff1,fa1,fc1,rfl,fen1,fcl1⟩:=rp1;refine Z (H (.bool false) (O (Z (M up0 (M (.func (.func ff1) fa1 fc1) ?_)))));obtain ⟨y2,hy2,h⟩:=Z1 h;refine G (aJ (g:=g0) (vs:=[up0,(.func (.func ff1) fa1 fc1)]) en55 (wk55 rp0 (Ho.ch ⟨_,_,_,rfl,fen1,fcl1⟩ hfr.ch) hy2) fun g1 w1_ v1 hs hr=>?_);have hfr:=hfr.ext hs;subst hr;refine aT (.bool (decide (y2≥(0:Int)))) rfl rfl rfl (H (.bool (decide (y2≥(0:Int)))) (O (Gb ?_)));cases h;exact ac rfl (rq (.bool (decide (y2≥(0:Int))))) ⟨_,hfr,rfl⟩
def f34 (x0:Z4):Option (Vector UInt8 8):=
 (Wv x0.Day (8:Int)).bind fun y5=>
 (f57 (⟨List.toArray [(u8w y5),(u8w x0.Day),(u8w x0.Loom),(u8w x0.Chain),(u8w x0.Tie),(u8w x0.Picks),0,0],rfl⟩:Vector UInt8 8)).bind fun o0=>
 some (Vector.set (Vector.set (⟨List.toArray [(u8w y5),(u8w x0.Day),(u8w x0.Loom),(u8w x0.Chain),(u8w x0.Tie),(u8w x0.Picks),0,0],rfl⟩:Vector UInt8 8) 6 o0.1 (by decide)) 7 o0.2 (by decide))
theorem en34:Enters prog 34:=yC func34
theorem wk34 {x0:Z4} (rp0:RV gI.m wI x0 up0) {r:(Vector UInt8 8)} (h:f34 x0=some r):Fn prog 34 #[up0] gI wI (fun m w v=>RV m w r v):=by
 unfold f34 at h;refine fnE func34 rfl rfl fun g0 hm hfr=>?_;have rp0:=RVc hm rp0;refine Z (G (Tw (g:=g0) rfl rp0 fun g1 w1 p1 hs q1=>?_));have hfr:=hfr.ext hs;refine G (Gu (g:=g1) 2002 ((⟨List.toArray [0,0,0,0,0,0,0,0],rfl⟩:Vector UInt8 8):Vector UInt8 8) zeroValue104 (fun m w=>⟨_,(K8 (Zv Qf (Zv Qf (Zv Qf (Zv Qf (Zv Qf (Zv Qf (Zv Qf (Zv Qf K0)))))))) rfl),rfl⟩) fun g2 w2 p2 hs b2 cb=>?_);have hfr:=hfr.stp hs;have q1:=q1.stp hs;clear cb;refine O (Z (Y (S p1 0) (aa Ju (PT.ptr q1)) ?_));have q3:=Zm Ql.1 q1;refine G (Ga (g:=g2) isAgg3 sizeOf3 rfl q3 fun v4 r4=>?_);obtain rfl:=Zj.1 r4;obtain ⟨y5,hy5,h⟩:=Z1 h;refine Y (I y5) (P_shru rfl rfl hy5) (Y (.int .u8 (UInt8.toNat (u8w y5))) (Y0 underlying3 underlying5 rfl) (Y (S p1 0) (aa Ju (PT.ptr q1)) ?_));have q6:=Zm Ql.1 q1;refine G (Ga (g:=g2) isAgg3 sizeOf3 rfl q6 fun v7 r7=>?_);obtain rfl:=Zj.1 r7;refine Y (.int .u8 (UInt8.toNat (u8w x0.Day))) (Y0 underlying3 underlying5 rfl) (Y (S p1 1) (aa Hx (PT.ptr q1)) ?_);have q8:=Zm Qi.1 q1;refine G (Ga (g:=g2) isAgg3 sizeOf3 rfl q8 fun v9 r9=>?_);obtain rfl:=Zj.1 r9;refine Y (.int .u8 (UInt8.toNat (u8w x0.Loom))) (Y0 underlying3 underlying5 rfl) (Y (S p1 2) (aa V6 (PT.ptr q1)) ?_);have v8:=Zm W0.1 q1;refine G (Ga (g:=g2) isAgg3 sizeOf3 rfl v8 fun cD l9=>?_);obtain rfl:=Zj.1 l9;refine Y (.int .u8 (UInt8.toNat (u8w x0.Chain))) (Y0 underlying3 underlying5 rfl) (Y (S p1 3) (aa Ra (PT.ptr q1)) ?_);have n9:=Zm Hf.1 q1;refine G (Ga (g:=g2) isAgg3 sizeOf3 rfl n9 fun lD aB=>?_);obtain rfl:=Zj.1 aB;refine Y (.int .u8 (UInt8.toNat (u8w x0.Tie))) (Y0 underlying3 underlying5 rfl) (Y (S p1 4) (aa Li (PT.ptr q1)) ?_);have lB:=Zm Jo.1 q1;refine G (Ga (g:=g2) isAgg3 sizeOf3 rfl lB fun nD mB=>?_);obtain rfl:=Zj.1 mB;refine Y (.int .u8 (UInt8.toNat (u8w x0.Picks))) (Y0 underlying3 underlying5 rfl) ?_;have l5:RV g2.m w2 (⟨List.toArray [(u8w y5),(u8w x0.Day),(u8w x0.Loom),(u8w x0.Chain),(u8w x0.Tie),(u8w x0.Picks),0,0],rfl⟩:Vector UInt8 8) (.agg (Tk [[.int .u8 0],[.int .u8 0],[.int .u8 0],[.int .u8 0],[.int .u8 0],[.int .u8 0],[.int .u8 0],[.int .u8 0]] [(0,.int .u8 (UInt8.toNat (u8w y5))),(1,.int .u8 (UInt8.toNat (u8w x0.Day))),(2,.int .u8 (UInt8.toNat (u8w x0.Loom))),(3,.int .u8 (UInt8.toNat (u8w x0.Chain))),(4,.int .u8 (UInt8.toNat (u8w x0.Tie))),(5,.int .u8 (UInt8.toNat (u8w x0.Picks)))]).flatten.toArray):=Ti rfl (K8 (Zv rfl (Zv rfl (Zv rfl (Zv rfl (Zv rfl (Zv rfl (Zv Qf (Zv Qf K0)))))))) rfl);generalize l8:(Value.agg (Tk [[.int .u8 0],[.int .u8 0],[.int .u8 0],[.int .u8 0],[.int .u8 0],[.int .u8 0],[.int .u8 0],[.int .u8 0]] [(0,.int .u8 (UInt8.toNat (u8w y5))),(1,.int .u8 (UInt8.toNat (u8w x0.Day))),(2,.int .u8 (UInt8.toNat (u8w x0.Loom))),(3,.int .u8 (UInt8.toNat (u8w x0.Chain))),(4,.int .u8 (UInt8.toNat (u8w x0.Tie))),(5,.int .u8 (UInt8.toNat (u8w x0.Picks)))]).flatten.toArray)=t5 at l5;refine Y t5 (l8▸Bn (vs:=[(0,.int .u8 (UInt8.toNat (u8w y5))),(1,.int .u8 (UInt8.toNat (u8w x0.Day))),(2,.int .u8 (UInt8.toNat (u8w x0.Loom))),(3,.int .u8 (UInt8.toNat (u8w x0.Chain))),(4,.int .u8 (UInt8.toNat (u8w x0.Tie))),(5,.int .u8 (UInt8.toNat (u8w x0.Picks)))]) [[.int .u8 0],[.int .u8 0],[.int .u8 0],[.int .u8 0],[.int .u8 0],[.int .u8 0],[.int .u8 0],[.int .u8 0]] underlying104 layA_104 szA_5 rfl (by simp) (.cons rfl (.cons rfl (.cons rfl (.cons rfl (.cons rfl (.cons rfl .nil)))))) ⟨⟨_,rfl,rfl⟩,⟨⟨_,rfl,rfl⟩,⟨⟨_,rfl,rfl⟩,⟨⟨_,rfl,rfl⟩,⟨⟨_,rfl,rfl⟩,⟨⟨_,rfl,rfl⟩,trivial⟩⟩⟩⟩⟩⟩) (G (Gk (g:=g2) (v:=t5) sizeOf104 rfl b2 rfl l5 fun i6 oD hs b17 cb=>?_));clear cb;have hfr:=hfr.stp hs;refine O (Z (G (Tr (g:=i6) isAgg104 sizeOf104 rfl b17 fun nB oB=>?_)))
 obtain ⟨o0,hy20,h⟩:=Z1 h;refine G (aJ (g:=i6) (vs:=[nB]) en57 (wk57 oB hy20) fun vB bD yD hs hr=>?_);have hfr:=hfr.ext hs;have b17:=b17.ext hs;obtain ⟨uC,vC,rfl,rfl,rfl⟩:=hr;refine M (.tuple #[.int .u8 (UInt8.toNat o0.1),.int .u8 (UInt8.toNat o0.2)]) (Y (.int .u8 (UInt8.toNat o0.1)) (Zi rfl rfl) (Y (.int .u8 (UInt8.toNat o0.2)) (Zi rfl rfl) (Y (S p2 6) (G9 (α:=UInt8) (i:=(6:Int)) underlying104 sizeOf5 rfl (OB.ptr b17) rfl (Xl (v:=(⟨List.toArray [(u8w y5),(u8w x0.Day),(u8w x0.Loom),(u8w x0.Chain),(u8w x0.Tie),(u8w x0.Picks),0,0],rfl⟩:Vector UInt8 8)) (i:=6) (by decide))) (G (Wc (g:=vB) (Gl.vec (β:=UInt8) (n:=8) (i:=6) (by decide)) sizeOf5 rfl b17 rfl (Wa.2 rfl) fun yB zD hs b21 rst hos=>?_)))));clear rst hos;have hfr:=hfr.stp hs;refine Y (S p2 7) (G9 (α:=UInt8) (i:=(7:Int)) underlying104 sizeOf5 rfl (OB.ptr b21) rfl (Xl (v:=(Vector.set (⟨List.toArray [(u8w y5),(u8w x0.Day),(u8w x0.Loom),(u8w x0.Chain),(u8w x0.Tie),(u8w x0.Picks),0,0],rfl⟩:Vector UInt8 8) 6 o0.1 (by decide))) (i:=7) (by decide))) (G (Wc (g:=yB) (Gl.vec (β:=UInt8) (n:=8) (i:=7) (by decide)) sizeOf5 rfl b21 rfl (Wa.2 rfl) fun g8 aE hs b22 rst hos=>?_));clear rst hos;have hfr:=hfr.stp hs;refine O (Z (G (Tr (g:=g8) isAgg104 sizeOf104 rfl b22 fun zB cC=>(G (Gk (g:=g8) (v:=zB) sizeOf104 rfl b22 rfl cC fun bE iE hs b24 cb=>?_)))));clear cb;have hfr:=hfr.stp hs;refine O (Gb ?_);obtain rfl:=sinj h;obtain ⟨ad25,cv25,hp25,n8,cr25⟩:=Qh isAgg104 sizeOf104 b24;exact Bq rfl rfl ((rq p2).trans hp25) n8 ⟨_,hfr,cr25⟩
def f46 (x0:List Z5) (x1:Z5→Option Bool):Option Bool:=
 (f83 x0 x1).bind fun y2=>
 some (decide (y2≥(0:Int)))
theorem en46:Enters prog 46:=yC func46
theorem wk46 {x0:List Z5} {x1:Z5→Option Bool} (rp0:RV gI.m wI x0 up0) (rp1:Ho prog x1 up1 gI wI) {r:Bool} (h:f46 x0 x1=some r):Fn prog 46 #[up0,up1] gI wI (fun _ _ v=>v=.bool r):=by
 unfold f46 at h;refine fnE func46 rfl rfl fun g0 hm hfr=>?_;have rp0:=RVc hm rp0;obtain ⟨ff1,fa1,fc1,rfl,fen1,fcl1⟩:=rp1;refine Z (H (.bool false) (O (Z (M up0 (M (.func (.func ff1) fa1 fc1) ?_)))));obtain ⟨y2,hy2,h⟩:=Z1 h;refine G (aJ (g:=g0) (vs:=[up0,(.func (.func ff1) fa1 fc1)]) en83 (wk83 rp0 (Ho.ch ⟨_,_,_,rfl,fen1,fcl1⟩ hfr.ch) hy2) fun g1 w1_ v1 hs hr=>?_);have hfr:=hfr.ext hs;subst hr;refine aT (.bool (decide (y2≥(0:Int)))) rfl rfl rfl (H (.bool (decide (y2≥(0:Int)))) (O (Gb ?_)));cases h;exact ac rfl (rq (.bool (decide (y2≥(0:Int))))) ⟨_,hfr,rfl⟩
def f48 (x0:Int):Option (It Int):=
 some (fun σ cons s=>f85 x0 σ cons s)
theorem en48:Enters prog 48:=yC func48
theorem wk48 {x0:Int}  {r:It Int} (h:f48 x0=some r):Fn prog 48 #[I x0] gI wI (fun m w v=>ItV prog (RA1 (α:=Int)) r v m w):=by
 unfold f48 at h;refine fnE func48 rfl rfl fun g0 hm hfr=>?_;refine Z (G (Tw (g:=g0) rfl (Zj.2 rfl) fun g1 w1 p1 hs q1=>?_));have hfr:=hfr.ext hs;refine H (.nilFunc) (O (Z (Y (.func (.func 85) #[] #[p1]) (W3 (Vo (show X _ _=p1 from rfl))) (H (.func (.func 85) #[] #[p1]) (O (Gb ?_))))));cases h;exact ac rfl (rq (.func (.func 85) #[] #[p1])) ⟨_,hfr,(show ItV prog (RA1 (α:=Int)) (fun σ cons s=>f85 x0 σ cons s) (.func (.func 85) #[] #[p1]) g1.m w1 from ⟨85,#[],#[p1],rfl,en85,fun g' w' hch σ cons s s' h=>wk85  (q1.ch hch) h⟩)⟩
def f54 (x0:Int) (x1:Int):Option Int:=
 (f90 x0).bind fun y2=>
 (f90 x1).bind fun y4=>
 jn (σ:=Unit) (fun _=>
  jn (σ:=Unit) (fun _=>
   jn (σ:=Unit) (fun _=>
    jn (σ:=Unit) (fun _=>
     some (0:Int)
     ) fun mB=>
    bif (decide (x0>x1)) then
     some (1:Int)
    else
     mB ()
    ) fun nB=>
   bif (decide (x0<x1)) then
    some (-1:Int)
   else
    nB ()
   ) fun k18=>
  bif y4 then
   some (1:Int)
  else
   k18 ()
  ) fun oB=>
 bif y2 then
  jn (σ:=Unit) (fun _=>
   some (-1:Int)
   ) fun vB=>
  bif y4 then
   some (0:Int)
  else
   vB ()
 else
  oB ()
theorem en54:Enters prog 54:=yC func54
theorem wk54 {x0:Int} {x1:Int}  {r:Int} (h:f54 x0 x1=some r):Fn prog 54 #[I x0,I x1] gI wI (fun _ _ v=>v=I r):=by
 unfold f54 at h;refine fnE func54 rfl rfl fun g0 hm hfr=>?_;refine Z (H (I 0) (O (Z (M (I x0) ?_))));obtain ⟨y2,hy2,h⟩:=Z1 h;refine G (aJ (g:=g0) (vs:=[I x0]) en90 (wk90  hy2) fun g1 w1_ v1 hs hr=>?_);have hfr:=hfr.ext hs;subst hr;refine H (.bool y2) (O (Z (M (I x1) ?_)));obtain ⟨y4,bD,h⟩:=Z1 h;refine G (aJ (g:=g1) (vs:=[I x1]) en90 (wk90  bD) fun g3 w3_ v3 hs hr=>?_);have hfr:=hfr.ext hs;subst hr;refine H (.bool y4) (O (Zq h (fun (s:Unit)=>xD gI wI fun e w g=>e 0=I (x0)∧e 1=I (x1)∧e 6=.bool y4) (fun X10 oB yB h=>?_) ?_))
 ·refine Z (M (.bool y2) (O ?_))
  rcases Zt h with ⟨o0,h⟩ | ⟨o0,h⟩
  ·refine Gz o0 rfl (Zq h (fun (s:Unit) e w=>∃ (g:Gh) ,Fr gI wI g w) (fun X13 vB zB h=>?_) ?_)
   ·refine Z (M (.bool y4) (O ?_))
    rcases Zt h with ⟨l5,h⟩ | ⟨l5,h⟩
    ·refine Gz l5 rfl (Z (H (I 0) (O (Gb (Gj (Gj ?_))))))
     cases h;exact ac rfl (rq (I 0)) ⟨_,hfr,rfl⟩
    ·refine G0 l5 rfl ?_
     exact Zu (Zd (zB () _ _ ⟨g3,hfr⟩ h))
   ·rintro _ oD w15 ⟨iE,hfr⟩ h
    refine Z (H (I (-1)) (O (Gb (Gj ?_))));cases h;exact ac rfl (rq (I (-1))) ⟨_,hfr,rfl⟩
  ·refine G0 o0 rfl ?_
   exact Zu (Zd (yB () _ _ ⟨g3,hfr,rfl,rfl,rfl⟩ h))
 ·rintro _ yD lE ⟨cD,hfr,v8,l9,n9⟩ h
  refine Zq h (fun (s:Unit)=>xD gI wI fun e w g=>e 0=I (x0)∧e 1=I x1) (fun X18 k18 cC h=>?_) ?_
  ·refine Z (aQ n9 (O ?_))
   rcases Zt h with ⟨t5,h⟩ | ⟨t5,h⟩
   ·refine Gz t5 rfl (Z (H (I 1) (O (Gb (Gj ?_)))))
    cases h;exact ac rfl (rq (I 1)) ⟨_,hfr,rfl⟩
   ·refine G0 t5 rfl ?_
    exact Zu (Zd (cC () _ _ ⟨cD,hfr,v8,l9⟩ h))
  ·rintro _ zD mE ⟨lD,hfr,l8,n8⟩ h
   refine Zq h (fun (s:Unit)=>xD gI wI fun e w g=>e 0=I (x0)∧e 1=I x1) (fun X22 nB uC h=>?_) ?_
   ·refine Z (aQ l8 (aQ n8 (aT (.bool (decide (x0<x1))) rfl rfl rfl (O ?_))))
    rcases Zt h with ⟨i6,h⟩ | ⟨i6,h⟩
    ·refine Gz i6 rfl (Z (H (I (-1)) (O (Gb (Gj ?_)))))
     cases h;exact ac rfl (rq (I (-1))) ⟨_,hfr,rfl⟩
    ·refine G0 i6 rfl ?_
     exact Zu (Zd (uC () _ _ ⟨lD,hfr,l8,n8⟩ h))
   ·rintro _ aE oE ⟨nD,hfr,aB,lB⟩ h
    refine Zq h (fun (s:Unit) e w=>∃ (g:Gh) ,Fr gI wI g w) (fun X26 mB vC h=>?_) ?_
    ·refine Z (aQ aB (aQ lB (aT (.bool (decide (x0>x1))) rfl rfl rfl (O ?_))))
     rcases Zt h with ⟨g8,h⟩ | ⟨g8,h⟩
     ·refine Gz g8 rfl (Z (H (I 1) (O (Gb (Gj ?_)))))
      cases h;exact ac rfl (rq (I 1)) ⟨_,hfr,rfl⟩
     ·refine G0 g8 rfl ?_
      exact Zu (Zd (vC () _ _ ⟨nD,hfr⟩ h))
    ·rintro _ bE rE ⟨uE,hfr⟩ h
     refine Z (H (I 0) (O (Gb ?_)));cases h;exact ac rfl (rq (I 0)) ⟨_,hfr,rfl⟩
def f67 (x0:List Gx) (x1:Gx→Option Bool):Option Bool:=
 (f100 x0 x1).bind fun y2=>
 some (decide (y2≥(0:Int)))
theorem en67:Enters prog 67:=yC func67
theorem wk67 {x0:List Gx} {x1:Gx→Option Bool} (rp0:RV gI.m wI x0 up0) (rp1:Ho prog x1 up1 gI wI) {r:Bool} (h:f67 x0 x1=some r):Fn prog 67 #[up0,up1] gI wI (fun _ _ v=>v=.bool r):=by
 unfold f67 at h;refine fnE func67 rfl rfl fun g0 hm hfr=>?_;have rp0:=RVc hm rp0;obtain ⟨ff1,fa1,fc1,rfl,fen1,fcl1⟩:=rp1;refine Z (H (.bool false) (O (Z (M up0 (M (.func (.func ff1) fa1 fc1) ?_)))));obtain ⟨y2,hy2,h⟩:=Z1 h;refine G (aJ (g:=g0) (vs:=[up0,(.func (.func ff1) fa1 fc1)]) en100 (wk100 rp0 (Ho.ch ⟨_,_,_,rfl,fen1,fcl1⟩ hfr.ch) hy2) fun g1 w1_ v1 hs hr=>?_);have hfr:=hfr.ext hs;subst hr;refine aT (.bool (decide (y2≥(0:Int)))) rfl rfl rfl (H (.bool (decide (y2≥(0:Int)))) (O (Gb ?_)));cases h;exact ac rfl (rq (.bool (decide (y2≥(0:Int))))) ⟨_,hfr,rfl⟩
def f68 (x0:List Gm) (x1:Gm→Option Bool):Option Bool:=
 (f101 x0 x1).bind fun y2=>
 some (decide (y2≥(0:Int)))
theorem en68:Enters prog 68:=yC func68
theorem wk68 {x0:List Gm} {x1:Gm→Option Bool} (rp0:RV gI.m wI x0 up0) (rp1:Ho prog x1 up1 gI wI) {r:Bool} (h:f68 x0 x1=some r):Fn prog 68 #[up0,up1] gI wI (fun _ _ v=>v=.bool r):=by
 unfold f68 at h;refine fnE func68 rfl rfl fun g0 hm hfr=>?_;have rp0:=RVc hm rp0;obtain ⟨ff1,fa1,fc1,rfl,fen1,fcl1⟩:=rp1;refine Z (H (.bool false) (O (Z (M up0 (M (.func (.func ff1) fa1 fc1) ?_)))));obtain ⟨y2,hy2,h⟩:=Z1 h;refine G (aJ (g:=g0) (vs:=[up0,(.func (.func ff1) fa1 fc1)]) en101 (wk101 rp0 (Ho.ch ⟨_,_,_,rfl,fen1,fcl1⟩ hfr.ch) hy2) fun g1 w1_ v1 hs hr=>?_);have hfr:=hfr.ext hs;subst hr;refine aT (.bool (decide (y2≥(0:Int)))) rfl rfl rfl (H (.bool (decide (y2≥(0:Int)))) (O (Gb ?_)));cases h;exact ac rfl (rq (.bool (decide (y2≥(0:Int))))) ⟨_,hfr,rfl⟩
def f81 (x0:List Int) (x1:Int→Option Bool):Option Bool:=
 (f115 x0 x1).bind fun y2=>
 some (decide (y2≥(0:Int)))
theorem en81:Enters prog 81:=yC func81
theorem wk81 {x0:List Int} {x1:Int→Option Bool} (rp0:RV gI.m wI x0 up0) (rp1:Ho prog x1 up1 gI wI) {r:Bool} (h:f81 x0 x1=some r):Fn prog 81 #[up0,up1] gI wI (fun _ _ v=>v=.bool r):=by
 unfold f81 at h;refine fnE func81 rfl rfl fun g0 hm hfr=>?_;have rp0:=RVc hm rp0;obtain ⟨ff1,fa1,fc1,rfl,fen1,fcl1⟩:=rp1;refine Z (H (.bool false) (O (Z (M up0 (M (.func (.func ff1) fa1 fc1) ?_)))));obtain ⟨y2,hy2,h⟩:=Z1 h;refine G (aJ (g:=g0) (vs:=[up0,(.func (.func ff1) fa1 fc1)]) en115 (wk115 rp0 (Ho.ch ⟨_,_,_,rfl,fen1,fcl1⟩ hfr.ch) hy2) fun g1 w1_ v1 hs hr=>?_);have hfr:=hfr.ext hs;subst hr;refine aT (.bool (decide (y2≥(0:Int)))) rfl rfl rfl (H (.bool (decide (y2≥(0:Int)))) (O (Gb ?_)));cases h;exact ac rfl (rq (.bool (decide (y2≥(0:Int))))) ⟨_,hfr,rfl⟩
def f84 (x0:Z8) (x1:Vector (Vector Int 7) 128) (x2:Int) (x3:Int) (x4:Int) (x5:List (Int × Z3)):Option Int:=
 (H2 (1:Int) x3).bind fun y2=>
 jn (σ:=Unit) (fun _=>
  Option.bind (α:=Int) (
   lp (σ:=Int × Int) (fun iI (l5,o0)=>
    bif (decide (o0<((x0.orders).length:Int))) then
     Option.bind (α:=Int) (
      jn (σ:=Unit) (fun _=>
       (idx x1.toList (Tx .andNot x2 y2)).bind fun jI=>
       (idx jI.toList o0).bind fun oB=>
       Option.bind (α:=Int) (
        (idx x0.orders o0).bind fun rE=>
        (idx x0.orders x3).bind fun uE=>
        bif (rE.Chain != uE.Chain) then
         some (w64 (oB+(x0.LoomMill).Change))
        else
         some oB
        ) fun aB=>
       (f116 x0 x3 x4 aB x5).bind fun vE=>
       some (J2 l5 vE)
       ) fun kI=>
      Option.bind (α:=Bool) (
       (Wv (Tx .andNot x2 y2) o0).bind fun v8=>
       bif ((Tx .and v8 (1:Int))==(0:Int)) then
        some true
       else
        (idx x1.toList (Tx .andNot x2 y2)).bind fun lI=>
        (idx lI.toList o0).bind fun xE=>
        some (decide (xE≥(1048576:Int)))
       ) fun l8=>
      bif l8 then
       some l5
      else
       kI ()
      ) fun lB=>
     iI (lB,(w64 (o0+(1:Int))))
    else
     some l5
    ) big ((1048576:Int),(0:Int))
   ) fun n8=>
  some n8
  ) fun k7=>
 bif ((Tx .andNot x2 y2)==(0:Int)) then
  (f116 x0 x3 x4 (0:Int) x5).bind fun y11=>
  some y11
 else
  k7 ()
theorem en84:Enters prog 84:=yC func84
theorem wk84 {x0:Z8} {x1:Vector (Vector Int 7) 128} {x2:Int} {x3:Int} {x4:Int} {x5:List (Int × Z3)} (rp0:RV gI.m wI x0 up0) (rp1:PT gI.m wI x1 up1) (mq5:MR (Value.int .i64) gI wI x5 up5) {r:Int} (h:f84 x0 x1 x2 x3 x4 x5=some r):Fn prog 84 #[up0,up1,I x2,I x3,I x4,up5] gI wI (fun _ _ v=>v=I r):=by
 unfold f84 at h;refine fnE func84 rfl rfl fun g0 hm hfr=>?_;have rp0:=RVc hm rp0;have rp1:PT g0.m wI x1 up1:=hm▸rp1;have mq5:=MQ.enter mq5 hm hfr;refine Z (G (Tw (g:=g0) rfl rp0 fun g1 w1 p1 hs q1=>?_));have hfr:=hfr.ext hs;have rp1:=rp1.ext hs;have mq5:=mq5.ext hs;refine H (I 0) (O (Z (M (I x2) (M (I x3) ?_))));obtain ⟨y2,hy2,h⟩:=Z1 h;refine Y (I y2) (Gp rfl rfl (congrArg (Option.map (Value.int .i64)) hy2)) (aT (I (Tx .andNot x2 y2)) rfl rfl rfl (H (I (Tx .andNot x2 y2)) (O (Zq h (fun (s:Unit)=>xD gI wI fun e w g=>e 1=up1∧PT g.m w (x1:Vector (Vector Int 7) 128) up1∧e 3=I (x3)∧e 4=I (x4)∧e 5=up5∧MQ (Value.int .i64) wI.heap.size g w (x5:List (Int × Z3)) up5∧e 6=p1∧PT g.m w (x0:Z8) p1∧e 13=I (Tx .andNot x2 y2)) (fun X7 k7 hk7 h=>?_) ?_))))
 ·refine Z (M (I (Tx .andNot x2 y2)) (aT (.bool ((Tx .andNot x2 y2)==(0:Int))) rfl rfl rfl (O ?_)))
  rcases Zt h with ⟨hc8,h⟩ | ⟨hc8,h⟩
  ·refine Gz hc8 rfl (Z (G (Ga (g:=g1) isAgg80 sizeOf80 rfl q1 fun v9 r9=>(M (I x3) (M (I x4) (M up5 ?_))))))
   obtain ⟨y11,aL,h⟩:=Z1 h;refine G (aJ (g:=g1) (vs:=[v9,I x3,I x4,I 0,up5]) en116 (wk116 r9 mq5.r aL) fun qN tM rN hs hr=>?_);have hfr:=hfr.ext hs;subst hr;refine H (I y11) (O (Gb (Gj ?_)));obtain rfl:=sinj h;exact ac rfl (rq (I y11)) ⟨_,hfr,rfl⟩
  ·refine G0 hc8 rfl ?_
   exact Zu (Zd (hk7 () _ _ ⟨g1,hfr,rfl,rp1,rfl,rfl,rfl,mq5,rfl,q1,rfl⟩ h))
 ·rintro _ uM sN ⟨zK,hfr,cK,dK,lK,mK,nK,oK,gH,yE,mI⟩ h
  refine Z (H (I 1048576) (O ?_));obtain ⟨n8,hx,h⟩:=Z1 h;refine Gn (xD gI wI fun e w g=>e 14=I n8) (fun Q' hQ=>?_) (fun iM vM hR=>?_)
  ·replace h:=hx
   clear hx;refine Z (Y (S p1 2) (Zc W6 gH (PT.ptr yE)) ?_);have bL:=Zm G8.1 yE;refine G (Ga (g:=zK) isAgg28 sizeOf28 rfl bL fun xM dL=>(Y (I ((x0.orders).length:Int)) (G7 underlying28 rfl dL) (M (I 0) (O (Zr (Qz h (fun (s:Int × Int)=>xD gI wI fun e w g=>e 1=up1∧PT g.m w (x1:Vector (Vector Int 7) 128) up1∧e 3=I (x3)∧e 4=I (x4)∧e 5=up5∧MQ (Value.int .i64) wI.heap.size g w (x5:List (Int × Z3)) up5∧e 6=p1∧PT g.m w (x0:Z8) p1∧e 13=I (Tx .andNot x2 y2)∧e 14=I (s.1)∧e 30=I ((x0.orders).length:Int)∧e 31=I s.2) ⟨zK,hfr,cK,dK,lK,mK,nK,oK,gH,yE,mI,rfl,rfl,rfl⟩ (fun X310 iI pK=>?_)))))));rintro ⟨l5,o0⟩ jM bN ⟨zE,hfr,bD,l9,rF,sF,tF,uF,vF,xF,mB,cC,uC,nB⟩ h;refine Z (Y (.bool (decide (o0<((x0.orders).length:Int)))) (Gp nB uC rfl) (O (Zf ?_)));rcases Zt h with ⟨cF,h⟩ | ⟨cF,h⟩
   ·refine Gz cF rfl (Zu (Zd ?_))
    obtain ⟨lB,hx,h⟩:=Z1 h;refine Gn (xD gI wI fun e w g=>e 1=up1∧PT g.m w (x1:Vector (Vector Int 7) 128) up1∧e 3=I (x3)∧e 4=I (x4)∧e 5=up5∧MQ (Value.int .i64) wI.heap.size g w (x5:List (Int × Z3)) up5∧e 6=p1∧PT g.m w (x0:Z8) p1∧e 13=I (Tx .andNot x2 y2)∧e 14=I (lB)∧e 30=I ((x0.orders).length:Int)∧e 31=I o0) (fun Q' hQ=>?_) (fun kM cN hR=>?_)
    ·replace h:=hx
     clear hx;refine Zr (Z (aQ nB (H (I o0) (O (Zq h (fun (s:Unit)=>xD gI wI fun e w g=>e 1=up1∧PT g.m w (x1:Vector (Vector Int 7) 128) up1∧e 3=I (x3)∧e 4=I (x4)∧e 5=up5∧MQ (Value.int .i64) wI.heap.size g w (x5:List (Int × Z3)) up5∧e 6=p1∧PT g.m w (x0:Z8) p1∧e 13=I (Tx .andNot x2 y2)∧e 14=I (l5)∧e 15=I (o0)∧e 30=I ((x0.orders).length:Int)∧e 31=I o0) (fun X475 kI qK h=>?_) ?_)))))
     ·obtain ⟨l8,hx,h⟩:=Z1 h
      refine Gn (xD gI wI fun e w g=>e 1=up1∧PT g.m w (x1:Vector (Vector Int 7) 128) up1∧e 3=I (x3)∧e 4=I (x4)∧e 5=up5∧MQ (Value.int .i64) wI.heap.size g w (x5:List (Int × Z3)) up5∧e 6=p1∧PT g.m w (x0:Z8) p1∧e 13=I (Tx .andNot x2 y2)∧e 14=I (l5)∧e 15=I (o0)∧e 30=I ((x0.orders).length:Int)∧e 31=I (o0)∧e 48=.bool l8) (fun Q' hQ=>?_) (fun pM dN hR=>?_)
      ·replace h:=hx
       clear hx;refine Za (aQ mB (M (I o0) ?_));obtain ⟨v8,sK,h⟩:=Z1 h;refine Y (I v8) (Gp rfl rfl (congrArg (Option.map (Value.int .i64)) sK)) (aT (I (Tx .and v8 (1:Int))) rfl rfl rfl (aT (.bool ((Tx .and v8 (1:Int))==(0:Int))) rfl rfl rfl (M (.bool ((Tx .and v8 (1:Int))==(0:Int))) ?_)));rcases Zt h with ⟨t5,h⟩ | ⟨t5,h⟩
       ·refine Zz rfl rfl t5 rfl rfl ?_
        iterate 7 refine Zz rfl rfl t5 rfl rfl ?_
        refine Y (.bool true) (ae (b:=((Tx .and v8 (1:Int))==(0:Int))) (Tg t5 rfl)) (Zb ?_);cases h;exact hQ _ _ ⟨zE,hfr,bD,l9,rF,sF,tF,uF,vF,xF,mB,cC,rfl,uC,nB,rfl⟩
       ·refine ag up1 (Zk bD) rfl rfl t5 (ag (I (Tx .andNot x2 y2)) (Zk mB) rfl rfl t5 (ag (I o0) (ai) rfl rfl t5 ?_))
        obtain ⟨pb486,po486,pe486⟩:=PT.ptr l9;refine ag up1 (Y3 rfl pe486) rfl rfl t5 ?_;obtain ⟨lI,jH,h⟩:=Z1 h;refine ag (S up1 (((Tx .andNot x2 y2):Int).toNat*7)) (G9 (α:=Vector Int 7) underlying191 sizeOf189 rfl (PT.ptr l9) rfl jH) rfl rfl t5 ?_;have nI:=Wt l9 jH;obtain ⟨xE,kH,h⟩:=Z1 h;refine ag (S (S up1 (((Tx .andNot x2 y2):Int).toNat*7)) ((o0:Int).toNat*1)) (G9 (α:=Int) underlying189 sizeOf3 rfl (PT.ptr nI) rfl kH) rfl rfl t5 ?_;have eL:=Wt nI kH;refine Ze (.yes2 rfl rfl t5) rfl (Ga (g:=zE) isAgg3 sizeOf3 rfl eL fun eN gL=>?_);obtain rfl:=Zj.1 gL;refine ag (.bool (decide (xE≥(1048576:Int)))) (Gp rfl rfl rfl) rfl rfl t5 (Y (.bool (decide (xE≥(1048576:Int)))) (ae (b:=((Tx .and v8 (1:Int))==(0:Int))) (Td t5 rfl)) (Zb ?_));cases h;exact hQ _ _ ⟨zE,hfr,bD,l9,rF,sF,tF,uF,vF,xF,mB,cC,rfl,uC,nB,rfl⟩
      ·clear hx
       obtain ⟨pI,hfr,yF,aG,bG,cG,eG,gG,iG,jG,oD,yD,pH,zD,aE,bE⟩:=hR;rcases Zt h with ⟨dF,h⟩ | ⟨dF,h⟩
       ·refine Ta (Eq.trans (show X _ _=.bool l8 from bE) (congrArg Value.bool dF)) (Th (Gr (G2 ?_)))
        cases h;exact hQ _ _ ⟨pI,hfr,yF,aG,bG,cG,eG,gG,iG,jG,oD,yD,zD,aE⟩
       ·refine Gv (Eq.trans (show X _ _=.bool l8 from bE) (congrArg Value.bool dF)) ?_
        exact Zu (Zd (qK () _ _ ⟨pI,hfr,yF,aG,bG,cG,eG,gG,iG,jG,oD,yD,pH,zD,aE⟩ h))
     ·rintro _ qM gN ⟨qI,hfr,cD,g8,lD,kG,lG,vB,n9,i6,vC,iE,lE,mE,oE⟩ h
      refine Z (aQ cD (aQ vC (aQ lE ?_)));obtain ⟨pb495,po495,pe495⟩:=PT.ptr g8;refine Y up1 (Y3 rfl pe495) ?_;obtain ⟨jI,lH,h⟩:=Z1 h;refine Y (S up1 (((Tx .andNot x2 y2):Int).toNat*7)) (G9 (α:=Vector Int 7) underlying191 sizeOf189 rfl (PT.ptr g8) rfl lH) ?_;have sI:=Wt g8 lH;obtain ⟨oB,mH,h⟩:=Z1 h;refine Y (S (S up1 (((Tx .andNot x2 y2):Int).toNat*7)) ((o0:Int).toNat*1)) (G9 (α:=Int) underlying189 sizeOf3 rfl (PT.ptr sI) rfl mH) ?_;have iL:=Wt sI mH;refine G (Ga (g:=qI) isAgg3 sizeOf3 rfl iL fun iN jL=>?_);obtain rfl:=Zj.1 jL;refine H (I oB) (O ?_);obtain ⟨aB,hx,h⟩:=Z1 h;refine Gn (xD gI wI fun e w g=>e 1=up1∧PT g.m w (x1:Vector (Vector Int 7) 128) up1∧e 3=I (x3)∧e 4=I (x4)∧e 5=up5∧MQ (Value.int .i64) wI.heap.size g w (x5:List (Int × Z3)) up5∧e 6=p1∧PT g.m w (x0:Z8) p1∧e 13=I (Tx .andNot x2 y2)∧e 14=I (l5)∧e 16=I (aB)∧e 30=I ((x0.orders).length:Int)∧e 31=I o0) (fun Q' hQ=>?_) (fun rM jN hR=>?_)
      ·replace h:=hx
       clear hx;refine Zf ?_;have lL:=Zm G8.1 i6;refine Zs (x:=.tmp 56) isAgg28 sizeOf28 lL fun zG jJ tK=>?_;obtain ⟨rE,nH,h⟩:=Z1 h;have kJ:=G1 jJ nH;have mL:=Zm Wz.1 kJ;refine Zs (x:=.tmp 60) isAgg3 sizeOf3 mL fun kN nL uK=>?_;obtain rfl:=Zj.1 nL;have oL:=Zm G8.1 i6;refine Zs (x:=.tmp 62) isAgg28 sizeOf28 oL fun aH lJ vK=>?_;obtain ⟨uE,oH,h⟩:=Z1 h;have mJ:=G1 lJ oH;have xL:=Zm Wz.1 mJ;refine Zs (x:=.tmp 66) isAgg3 sizeOf3 xL fun lN yL xK=>?_;obtain rfl:=Zj.1 yL;refine ab (g:=qI) (n:=13) [] [0,1,2,3,4,5,6,7,8,9,10,11,12] mixed trivial (V (S p1 2) rfl (Zc W6 n9 (PT.ptr i6)) (G3 (c:=zG) rfl rfl .plain xC tK rfl (V (I o0) rfl (Zk lE) (V (Gy zG o0 5) rfl (Zh (α:=Z5) underlying28 sizeOf59 rfl jJ rfl nH) (V (S (Gy zG o0 5) 1) rfl (aa Xh (PT.ptr kJ)) (G3 (c:=I rE.Chain) rfl rfl .plain xC uK rfl (V (S p1 2) rfl (Zc W6 n9 (PT.ptr i6)) (G3 (c:=aH) rfl rfl .plain xC vK rfl (V (I x3) rfl (Zk lD) (V (Gy aH x3 5) rfl (Zh (α:=Z5) underlying28 sizeOf59 rfl lJ rfl oH) (V (S (Gy aH x3 5) 1) rfl (aa Xh (PT.ptr mJ)) (G3 (c:=I uE.Chain) rfl rfl .plain xC xK rfl (V (.bool (rE.Chain != uE.Chain)) rfl (Gp rfl rfl rfl) (Ki fun cH mN hs=>?_))))))))))))));have hfr:=hfr.ext hs;have g8:=g8.ext hs;have vB:=vB.ext hs;have i6:=i6.ext hs;clear hs;refine O ?_;rcases Zt h with ⟨eF,h⟩ | ⟨eF,h⟩
       ·refine Gz eF rfl (Za (M (I oB) (Y (S p1 0) (Zc Y4 n9 (PT.ptr i6)) ?_)))
        have nJ:=Zm Qx.1 i6;refine Y (S (S p1 0) 1) (aa Rg (PT.ptr nJ)) ?_;have zL:=Zm Hp.1 nJ;refine G (Ga (g:=cH) isAgg3 sizeOf3 rfl zL fun nN aM=>?_);obtain rfl:=Zj.1 aM;refine aT (I (w64 (oB+(x0.LoomMill).Change))) rfl rfl rfl (H (I (w64 (oB+(x0.LoomMill).Change))) (Zb ?_));cases h;exact hQ _ _ ⟨cH,hfr,cD,g8,lD,kG,lG,vB,n9,i6,vC,iE,rfl,mE,oE⟩
       ·refine G0 eF rfl (Zu ?_)
        cases h;exact hQ _ _ ⟨cH,hfr,cD,g8,lD,kG,lG,vB,n9,i6,vC,iE,rfl,mE,oE⟩
      ·clear hx
       obtain ⟨oJ,hfr,pJ,nD,mG,sG,xG,yB,yG,zB,qH,sH,tH,uH,xH⟩:=hR;refine Za (aQ sH (G (Ga (g:=oJ) isAgg80 sizeOf80 yG zB fun bM cM=>(aQ mG (aQ sG (aQ tH (aQ xG ?_)))))));obtain ⟨vE,yK,h⟩:=Z1 h;refine G (aJ (g:=oJ) (vs:=[bM,I x3,I x4,I aB,up5]) en116 (wk116 cM yB.r yK) fun dM sM oN hs hr=>?_);have hfr:=hfr.ext hs;have nD:=nD.ext hs;have yB:=yB.ext hs;have zB:=zB.ext hs;subst hr;refine Y (I (J2 l5 vE)) (P_min rfl rfl) (H (I (J2 l5 vE)) (Zb (Te ?_)));cases h;exact hQ _ _ ⟨dM,hfr,pJ,nD,mG,sG,xG,yB,yG,zB,qH,rfl,uH,xH⟩
    ·clear hx
     obtain ⟨eM,hfr,qJ,rJ,sJ,vJ,xJ,zJ,aK,bK,yH,zH,aI,bI⟩:=hR;refine Za (aT (I (w64 (o0+(1:Int)))) bI rfl rfl (M (I (w64 (o0+(1:Int)))) ?_));exact O (pK (lB,(w64 (o0+(1:Int)))) _ _ ⟨eM,hfr,qJ,rJ,sJ,vJ,xJ,zJ,aK,bK,yH,zH,aI,rfl⟩ h)
   ·refine G0 cF rfl (Th (Gr (Gr (G2 ?_))))
    cases h;exact hQ _ _ ⟨zE,hfr,cC⟩
  ·clear hx
   obtain ⟨pN,hfr,dI⟩:=hR;refine Z (aQ dI (H (I n8) (O (Gb ?_))));obtain rfl:=sinj h;exact ac rfl (rq (I n8)) ⟨_,hfr,rfl⟩
def f88:Nat→(List Int)→Int→Int→Int→(Int→Int→Option Int)→Option (List Int)
 | 0,_,_,_,_,_=>none
 | n+1,x0,x1,x2,x3,x4=>
  lp (σ:=(List Int) × Int × Int × Int × Bool × Bool) (fun k1 (n8,o0,l5,i6,t5,l8)=>
   jn (σ:=(List Int)) (fun l9=>
    jn (σ:=Unit) (fun _=>
     Option.bind (α:=Int) (
      bif (!t5) then
       none
      else
       some i6
      ) fun oB=>
     none
     ) fun rF=>
    bif (i6==(0:Int)) then
     none
    else
     rF ()
    ) fun k6=>
   bif (decide ((w64 (l5-o0))≤(12:Int))) then
    (f118 n8 o0 l5 x4).bind fun y9=>
    some y9
   else
    k6 n8
   ) big (x0,x1,x2,x3,true,true)
theorem en88:Enters prog 88:=yC func88
theorem wk88 (n:Nat):∀ {iI:Nat} {gI:Gh} {wI:World} {x0:List Int} {x1:Int} {x2:Int} {x3:Int} {x4:Int→Int→Option Int} {up0:Value} (mp0:OM iI gI wI 3 x0 up0) {up4:Value} (rp4:Aq prog x4 up4 gI wI) {r:(List Int)} (h:f88 n x0 x1 x2 x3 x4=some r),FnM prog 88 #[up0,I x1,I x2,I x3,up4] iI gI wI (fun g w v=>v=.tuple #[]∧OM iI g w 3 r up0):=by
 induction n with
 | zero=>intros;rename_i h;cases h
 | succ n ih=>
 intro iI gI wI x0 x1 x2 x3 x4 up0 mp0 up4 rp4 r h;simp only [f88] at h;refine Vd func88 rfl (Nat.le_of_ble_eq_true rfl) fun g0 hm hfr=>?_;have oE:=mp0;replace mp0:=mp0.enter;rw [← hm] at mp0
 replace hm:g0.m=gI.m:=by rw [hm]
 obtain ⟨ff4,fa4,fc4,rfl,fen4,fcl4⟩:=rp4;refine Z (H (.bool true) (O (Z (H (.bool true) (O (Zr (Qz h (fun (s:(List Int) × Int × Int × Int × Bool × Bool) e w=>∃ (g:Gh) ,FrM iI gI wI g w∧e 0=up0∧OM 1 g w 3 (s.1:List Int) up0∧e 1=I (s.2.1)∧e 2=I (s.2.2.1)∧e 3=I (s.2.2.2.1)∧e 4=(.func (.func ff4) fa4 fc4)∧e 10=.bool (s.2.2.2.2.1)∧e 11=.bool s.2.2.2.2.2) ⟨g0,hfr,rfl,mp0,rfl,rfl,rfl,rfl,rfl,rfl⟩ (fun X1 k1 hk1=>?_))))))));rintro ⟨n8,o0,l5,i6,t5,l8⟩ kG w2 ⟨g2,hfr,nD,oD,aB,lB,sF,yD,rE,uE⟩ h;refine Zr (Z (aQ lB (aQ aB (aT (I (w64 (l5-o0))) rfl rfl rfl (H (I (w64 (l5-o0))) (O (Zq h (fun (s:(List Int)) e w=>∃ (g:Gh) ,FrM iI gI wI g w∧e 0=up0∧OM 1 g w 3 (s:List Int) up0∧e 1=I (o0)∧e 2=I (l5)∧e 3=I (i6)∧e 4=(.func (.func ff4) fa4 fc4)∧e 10=.bool (t5)∧e 11=.bool (l8)∧e 12=I (w64 (l5-o0))) (fun X6 k6 hk6 h=>?_) ?_)))))))
 ·refine Z (M (I (w64 (l5-o0))) (aT (.bool (decide ((w64 (l5-o0))≤(12:Int)))) rfl rfl rfl (O ?_)))
  rcases Zt h with ⟨zD,h⟩ | ⟨zD,h⟩
  ·refine Gz zD rfl (Z (aQ nD (aQ aB (aQ lB (aQ yD ?_)))))
   obtain ⟨y9,uF,h⟩:=Z1 h;refine G (V9 (g:=g2) (i:=1) (vs:=[up0,I o0,I l5,(.func (.func ff4) fa4 fc4)]) en118 (.cons rfl (.cons rfl (.cons rfl (.cons rfl .nil)))) (wk118 oD (Aq.ch ⟨_,_,_,rfl,fen4,fcl4⟩ hfr.ch) uF) fun g8 w8_ v8 hs hr=>?_);obtain ⟨hrv,b8⟩:=hr;have hfr:=hfr.stp hs;subst hrv;refine O (Gb (Gj (G6 (Gj (G6 ?_)))));cases h;exact end0 rfl rfl ⟨_,hfr,rfl,oE.back b8⟩
  ·refine G0 zD rfl ?_
   exact Zu (Zd (hk6 n8 _ _ ⟨g2,hfr,nD,oD,aB,lB,sF,yD,rE,uE,rfl⟩ h))
 ·rintro l9 gG lG ⟨vF,hfr,vB,vE,yB,zB,cC,uC,aE,bE,iE⟩ h
  refine Zq h (fun (s:Unit) e w=>∃ (g:Gh) ,FrM iI gI wI g w∧e 0=up0∧OM 1 g w 3 (l9:List Int) up0∧e 1=I (o0)∧e 2=I (l5)∧e 3=I (i6)∧e 4=(.func (.func ff4) fa4 fc4)∧e 10=.bool (t5)∧e 11=.bool (l8)∧e 12=I (w64 (l5-o0))) (fun X12 rF tF h=>?_) ?_
  ·refine Z (aQ cC (aT (.bool (i6==(0:Int))) rfl rfl rfl (O ?_)))
   rcases Zt h with ⟨mB,h⟩ | ⟨mB,h⟩
   ·refine Gz mB rfl (Z (aQ vB (aQ yB (aQ zB (aQ uC ?_)))))
    cases h
   ·refine G0 mB rfl ?_
    exact Zu (Zd (tF () _ _ ⟨vF,hfr,vB,vE,yB,zB,cC,uC,aE,bE,iE⟩ h))
  ·rintro _ iG mG ⟨xF,hfr,vC,xE,bD,cD,yE,lD,n9,lE,mE⟩ h
   obtain ⟨oB,hx,h⟩:=Z1 h;refine Gn (fun e w=>∃ (g:Gh) ,FrM iI gI wI g w∧e 0=up0∧OM 1 g w 3 (l9:List Int) up0∧e 1=I (o0)∧e 2=I (l5)∧e 3=I (oB)∧e 4=(.func (.func ff4) fa4 fc4)∧e 10=.bool (t5)∧e 11=.bool (l8)∧e 12=I (w64 (l5-o0))) (fun Q' hQ=>?_) (fun jG sG hR=>?_)
   ·replace h:=hx
    clear hx;refine Z (aQ n9 (Y (.bool (!t5)) (Qw rfl) (O ?_)));rcases Zt h with ⟨nB,h⟩ | ⟨nB,h⟩
    ·refine Gz nB rfl (Z (aQ vC (aQ bD (aQ cD (aQ lD ?_)))))
     cases h
    ·refine G0 nB rfl (Zu ?_)
     cases h;exact hQ _ _ ⟨xF,hfr,vC,xE,bD,cD,yE,lD,n9,lE,mE⟩
   ·clear hx
    obtain ⟨xG,hfr,zE,cG,cF,dF,eG,eF,yF,aG,bG⟩:=hR;refine Z (aQ zE (aQ cF (aQ dF (aQ eF ?_))))
    cases h
def f92 (x0:Int) (x1:Int) (x2:List Int):Option Bool:=
 (f81 x2 (fun a0=>f128 a0 x0 x1)).bind fun y4=>
 some (!y4)
theorem en92:Enters prog 92:=yC func92
theorem wk92 {x0:Int} {x1:Int} {x2:List Int} (rp2:RV gI.m wI x2 up2) {r:Bool} (h:f92 x0 x1 x2=some r):Fn prog 92 #[I x0,I x1,up2] gI wI (fun _ _ v=>v=.bool r):=by
 unfold f92 at h;refine fnE func92 rfl rfl fun g0 hm hfr=>?_;have rp2:=RVc hm rp2;refine Z (G (Tw (g:=g0) rfl (Zj.2 rfl) fun g1 w1 p1 hs q1=>?_));have hfr:=hfr.ext hs;have rp2:=rp2.ext hs;refine G (Tw (g:=g1) rfl (Zj.2 rfl) fun g2 w2 p2 hs q2=>?_);have hfr:=hfr.ext hs;have rp2:=rp2.ext hs;have q1:=q1.ext hs;refine H (.bool false) (O (Z (M up2 (Y (.func (.func 128) #[] #[p1,p2]) (W3 (Uu (show X _ _=p1 from rfl) (show X _ _=p2 from rfl))) ?_))));obtain ⟨y4,o0,h⟩:=Z1 h;refine G (aJ (g:=g2) (vs:=[up2,(.func (.func 128) #[] #[p1,p2])]) en81 (wk81 rp2 ⟨128,#[],#[p1,p2],rfl,en128,fun g' w' hch a0 b0 r hu0 hr=>by obtain rfl:=Zj.1 hu0;exact Fn.mono (wk128  (q1.ch hch) (q2.ch hch) hr) fun _ _ _ h=>Tz.2 h⟩ o0) fun g3 w3_ v3 hs hr=>?_);have hfr:=hfr.ext hs;subst hr;refine Y (.bool (!y4)) (Qw rfl) (H (.bool (!y4)) (O (Gb ?_)));cases h;exact ac rfl (rq (.bool (!y4))) ⟨_,hfr,rfl⟩
def f96 (x0:List Str) (x1:Str→Option Bool):Option Bool:=
 (f133 x0 x1).bind fun y2=>
 some (decide (y2≥(0:Int)))
theorem en96:Enters prog 96:=yC func96
theorem wk96 {x0:List Str} {x1:Str→Option Bool} (rp0:RV gI.m wI x0 up0) (rp1:Ho prog x1 up1 gI wI) {r:Bool} (h:f96 x0 x1=some r):Fn prog 96 #[up0,up1] gI wI (fun _ _ v=>v=.bool r):=by
 unfold f96 at h;refine fnE func96 rfl rfl fun g0 hm hfr=>?_;have rp0:=RVc hm rp0;obtain ⟨ff1,fa1,fc1,rfl,fen1,fcl1⟩:=rp1;refine Z (H (.bool false) (O (Z (M up0 (M (.func (.func ff1) fa1 fc1) ?_)))));obtain ⟨y2,hy2,h⟩:=Z1 h;refine G (aJ (g:=g0) (vs:=[up0,(.func (.func ff1) fa1 fc1)]) en133 (wk133 rp0 (Ho.ch ⟨_,_,_,rfl,fen1,fcl1⟩ hfr.ch) hy2) fun g1 w1_ v1 hs hr=>?_);have hfr:=hfr.ext hs;subst hr;refine aT (.bool (decide (y2≥(0:Int)))) rfl rfl rfl (H (.bool (decide (y2≥(0:Int)))) (O (Gb ?_)));cases h;exact ac rfl (rq (.bool (decide (y2≥(0:Int))))) ⟨_,hfr,rfl⟩
def f104 (x0:Int) (x1:Int) (x2:List Int):Option Bool:=
 (f81 x2 (fun a0=>f145 a0 x0 x1)).bind fun y4=>
 some (!y4)
theorem en104:Enters prog 104:=yC func104
theorem wk104 {x0:Int} {x1:Int} {x2:List Int} (rp2:RV gI.m wI x2 up2) {r:Bool} (h:f104 x0 x1 x2=some r):Fn prog 104 #[I x0,I x1,up2] gI wI (fun _ _ v=>v=.bool r):=by
 unfold f104 at h;refine fnE func104 rfl rfl fun g0 hm hfr=>?_;have rp2:=RVc hm rp2;refine Z (G (Tw (g:=g0) rfl (Zj.2 rfl) fun g1 w1 p1 hs q1=>?_));have hfr:=hfr.ext hs;have rp2:=rp2.ext hs;refine G (Tw (g:=g1) rfl (Zj.2 rfl) fun g2 w2 p2 hs q2=>?_);have hfr:=hfr.ext hs;have rp2:=rp2.ext hs;have q1:=q1.ext hs;refine H (.bool false) (O (Z (M up2 (Y (.func (.func 145) #[] #[p1,p2]) (W3 (Uu (show X _ _=p1 from rfl) (show X _ _=p2 from rfl))) ?_))));obtain ⟨y4,o0,h⟩:=Z1 h;refine G (aJ (g:=g2) (vs:=[up2,(.func (.func 145) #[] #[p1,p2])]) en81 (wk81 rp2 ⟨145,#[],#[p1,p2],rfl,en145,fun g' w' hch a0 b0 r hu0 hr=>by obtain rfl:=Zj.1 hu0;exact Fn.mono (wk145  (q1.ch hch) (q2.ch hch) hr) fun _ _ _ h=>Tz.2 h⟩ o0) fun g3 w3_ v3 hs hr=>?_);have hfr:=hfr.ext hs;subst hr;refine Y (.bool (!y4)) (Qw rfl) (H (.bool (!y4)) (O (Gb ?_)));cases h;exact ac rfl (rq (.bool (!y4))) ⟨_,hfr,rfl⟩
def f107 (x0:U64) (x1:U64):Option (U64 × U64):=
 (f148 x0 x1).bind fun y2=>
 some (y2.1,y2.2)
theorem en107:Enters prog 107:=yC func107
theorem wk107 {x0:U64} {x1:U64}  {r:U64 × U64} (h:f107 x0 x1=some r):Fn prog 107 #[.int .u64 x0.n,.int .u64 x1.n] gI wI (fun m w v=>∃ y0 y1,v=.tuple #[y0,y1]∧y0=.int .u64 ((r.1).n)∧y1=.int .u64 ((r.2).n)):=by
 unfold f107 at h;refine fnE func107 rfl rfl fun g0 hm hfr=>?_;refine Z (H (.int .u64 0) (H (.int .u64 0) (O (Zf (Gv (by rw [show X _ _=_ from rfl];exact congrArg Value.bool rfl) (Zu (Zd (Z (M (.int .u64 x0.n) (M (.int .u64 x1.n) ?_))))))))));obtain ⟨y2,hy2,h⟩:=Z1 h;refine G (aJ (g:=g0) (vs:=[.int .u64 x0.n,.int .u64 x1.n]) en148 (wk148  hy2) fun g1 w1_ v1 hs hr=>?_);have hfr:=hfr.ext hs;obtain ⟨o0,l5,rfl,rfl,rfl⟩:=hr;refine M (.tuple #[.int .u64 ((y2.1).n),.int .u64 ((y2.2).n)]) (Y (.int .u64 ((y2.1).n)) (Zi rfl rfl) (Y (.int .u64 ((y2.2).n)) (Zi rfl rfl) (H (.int .u64 ((y2.1).n)) (H (.int .u64 ((y2.2).n)) (O (Z (M (.int .u64 ((y2.1).n)) (M (.int .u64 ((y2.2).n)) (H (.int .u64 ((y2.1).n)) (H (.int .u64 ((y2.2).n)) (O (Gb ?_))))))))))));obtain rfl:=sinj h;exact H9 rfl rfl (rq (.int .u64 ((y2.1).n))) (rq (.int .u64 ((y2.2).n))) ⟨_,hfr,_,_,rfl,rfl,rfl⟩
def f109 (x0:Qr) (x1:Int):Option Str:=
 Option.bind (α:=List UInt8) (
  lp (σ:=List UInt8 × Int) (fun oD (l8,o0)=>
   bif (decide (o0<(((x0.TieHarness).Warps).length:Int))) then
    Option.bind (α:=List UInt8) (
     (f151 x0 x1 o0).bind fun nB=>
     (f150 nB).bind fun oB=>
     (apnd 1 l8 [oB]).bind fun y43=>
     some y43
     ) fun i6=>
    oD (i6,(w64 (o0+(1:Int))))
   else
    some l8
   ) big (([]:List UInt8),(0:Int))
  ) fun n8=>
 (Fb n8).bind fun aB=>
 some aB
theorem en109:Enters prog 109:=yC func109
theorem wk109 {x0:Qr} {x1:Int} (rp0:RV gI.m wI x0 up0) {r:Str} (h:f109 x0 x1=some r):Fn prog 109 #[up0,I x1] gI wI (fun _ _ v=>v=Str.v r):=by
 unfold f109 at h;refine fnE func109 rfl rfl fun g0 hm hfr=>?_;have rp0:=RVc hm rp0;refine Z (G (Tw (g:=g0) rfl rp0 fun g1 w1 p1 hs q1=>?_));have hfr:=hfr.ext hs;refine H (Str.v (⟨[]⟩:Str)) (O (Z (G (Gu (g:=g1) 2005 ((⟨.pointer none,rfl⟩,[]):Fv × List UInt8) zeroValue177 (fun m w=>⟨_,Gg (show GoT.rep m w (⟨.pointer none,rfl⟩:Fv) [.pointer none] from rfl) Tb,rfl⟩) fun g2 w2 p2 hs b2 cb=>?_))));have hfr:=hfr.stp hs;have q1:=q1.stp hs;replace b2:SB 2005 60501 g2 w2 5 177 [] p2:=⟨_,b2,cb.osf rfl,.inl rfl⟩;clear cb;refine O ?_;obtain ⟨n8,hx,h⟩:=Z1 h;refine Gn (xD gI wI fun e w g=>e 5=p2∧SB 2005 60501 g w 5 177 n8 p2) (fun Q' hQ=>?_) (fun zE sF hR=>?_)
 ·replace h:=hx
  clear hx;refine Z (Y (S p1 0) (aa Al (PT.ptr q1)) ?_);have yD:=Zm J1.1 q1;refine Y (S (S p1 0) 1) (aa H0 (PT.ptr yD)) ?_;have mE:=Zm Qb.1 yD;refine G (Ga (g:=g2) isAgg25 sizeOf25 rfl mE fun tF oE=>(Y (I (((x0.TieHarness).Warps).length:Int)) (G7 underlying25 rfl oE) (M (I 0) (O (Zr (Qz h (fun (s:List UInt8 × Int)=>xD gI wI fun e w g=>e 1=I (x1)∧e 2=p1∧PT g.m w (x0:Qr) p1∧e 5=p2∧SB 2005 60501 g w 5 177 s.1 p2∧e 10=I (((x0.TieHarness).Warps).length:Int)∧e 11=I s.2) ⟨g2,hfr,rfl,rfl,q1,rfl,b2,rfl,rfl⟩ (fun X27 oD zD=>?_)))))));rintro ⟨l8,o0⟩ cF uF ⟨vB,hfr,lB,mB,l5,v8,t5,l9,g8⟩ h;refine Z (Y (.bool (decide (o0<(((x0.TieHarness).Warps).length:Int)))) (Gp g8 l9 rfl) (O (Zf ?_)));rcases Zt h with ⟨n9,h⟩ | ⟨n9,h⟩
  ·refine Gz n9 rfl (Zu (Zd ?_))
   obtain ⟨i6,hx,h⟩:=Z1 h;refine Gn (xD gI wI fun e w g=>e 1=I (x1)∧e 2=p1∧PT g.m w (x0:Qr) p1∧e 5=p2∧SB 2005 60501 g w 5 177 i6 p2∧e 10=I (((x0.TieHarness).Warps).length:Int)∧e 11=I o0) (fun Q' hQ=>?_) (fun dF vF hR=>?_)
   ·replace h:=hx
    clear hx;refine Zr (Z (aQ g8 (H (I o0) (O (Za (G (Ga (g:=vB) isAgg216 sizeOf216 mB l5 fun rE uE=>(aQ lB (M (I o0) ?_)))))))));obtain ⟨nB,aE,h⟩:=Z1 h;refine G (aJ (g:=vB) (vs:=[rE,I x1,I o0]) en151 (wk151 uE aE) fun vE eF xF hs hr=>?_);have hfr:=hfr.ext hs;have l5:=l5.ext hs;have t5:=t5.ext hs;subst hr;obtain ⟨oB,bE,h⟩:=Z1 h;refine G (aJ (g:=vE) (vs:=[.bool nB]) en150 (wk150  bE) fun yF rF aG hs hr=>?_);have hfr:=hfr.ext hs;have l5:=l5.ext hs;have t5:=t5.ext hs;subst hr;obtain ⟨y43,iE,h⟩:=Z1 h;refine G (Q8 (vs:=[p2,.int .u8 (UInt8.toNat oB)]) en111 (.cons v8 (.cons rfl .nil)) (wk111 (i:=2005) (j:=60501) rfl rfl t5 iE) fun bG cG hq=>?_);obtain ⟨hv,xE,⟨_,_,_,_,hs1,hs2,hs3⟩,b42⟩:=hq;subst hv;have hfr:=hfr.stp hs1;have l5:=l5.stp hs1;have hfr:=hfr.stp hs2;have l5:=l5.stp hs2;have hfr:=hfr.stp hs3;have l5:=l5.stp hs3;clear hs1 hs2 hs3;refine Zb (Te ?_);cases h;exact hQ _ _ ⟨xE,hfr,lB,mB,l5,v8,b42,l9,g8⟩
   ·clear hx
    obtain ⟨yE,hfr,cC,uC,vC,bD,cD,yB,zB⟩:=hR;refine Za (aT (I (w64 (o0+(1:Int)))) zB rfl rfl (M (I (w64 (o0+(1:Int)))) ?_));exact O (zD (i6,(w64 (o0+(1:Int)))) _ _ ⟨yE,hfr,cC,uC,vC,bD,cD,yB,rfl⟩ h)
  ·refine G0 n9 rfl (Th (Gr (Gr (G2 ?_))))
   cases h;exact hQ _ _ ⟨vB,hfr,v8,t5⟩
 ·clear hx
  obtain ⟨eG,hfr,lD,nD⟩:=hR;refine Z ?_;obtain ⟨aB,lE,h⟩:=Z1 h;obtain ⟨hne46,hye46⟩:=N8 lE;refine G (Q8 (vs:=[p2]) en79 (.cons lD .nil) (wk79 (i:=2005) (j:=60501) rfl nD hne46) fun gG iG hq=>?_);obtain ⟨hv,jG,hs⟩:=hq;rw [← hye46] at hv;subst hv;have hfr:=hfr.stp hs;refine H (Str.v aB) (O (Gb ?_));obtain rfl:=sinj h;exact ac rfl (rq (Str.v aB)) ⟨_,hfr,rfl⟩
def f110 (x0:List Int) (x1:List Int):Option Int:=
 jn (σ:=Unit) (fun _=>
  jn (σ:=Unit) (fun _=>
   some (0:Int)
   ) fun dF=>
  bif (decide ((x0.length:Int)<(x1.length:Int))) then
   some (-1:Int)
  else
   dF ()
  ) fun eF=>
 lp (σ:=Int) (fun k33 o0=>
  bif (decide (o0<(x0.length:Int))) then
   jn (σ:=Unit) (fun _=>
    k33 (w64 (o0+(1:Int)))
    ) fun rF=>
   (idx x0 o0).bind fun n9=>
   jn (σ:=Unit) (fun _=>
    (idx x1 o0).bind fun aB=>
    (f54 n9 aB).bind fun l5=>
    bif (l5 != (0:Int)) then
     some l5
    else
     rF ()
    ) fun k54=>
   bif (decide (o0≥(x1.length:Int))) then
    some (1:Int)
   else
    k54 ()
  else
   eF ()
  ) big (0:Int)
theorem en110:Enters prog 110:=yC func110
theorem wk110 {x0:List Int} {x1:List Int} (rp0:RV gI.m wI x0 up0) (rp1:RV gI.m wI x1 up1) {r:Int} (h:f110 x0 x1=some r):Fn prog 110 #[up0,up1] gI wI (fun _ _ v=>v=I r):=by
 unfold f110 at h;refine fnE func110 rfl rfl fun g0 hm hfr=>?_;have rp0:=RVc hm rp0;have rp1:=RVc hm rp1;refine Z (H (I 0) (O (Zq h (fun (s:Unit)=>xD gI wI fun e w g=>e 0=up0∧RV g.m w (x0:List Int) up0∧e 1=up1∧RV g.m w (x1:List Int) up1) (fun X32 eF tF h=>?_) ?_)))
 ·refine Z (M up0 (Y (I (x0.length:Int)) (G7 underlying25 rfl rp0) (M (I 0) (O (Zr (Qz h (fun (s:Int)=>xD gI wI fun e w g=>e 0=up0∧RV g.m w (x0:List Int) up0∧e 1=up1∧RV g.m w (x1:List Int) up1∧e 9=up0∧RV g.m w (x0:List Int) up0∧e 10=I (x0.length:Int)∧e 11=I s) ⟨g0,hfr,rfl,rp0,rfl,rp1,rfl,rp0,rfl,rfl⟩ (fun X33 k33 uF=>?_)))))))
  rintro o0 lG aH ⟨vC,hfr,yB,zB,g8,l8,cC,n8,lB,t5⟩ h;refine Z (aT (.bool (decide (o0<(x0.length:Int)))) t5 lB rfl (O (Zf ?_)));rcases Zt h with ⟨mB,h⟩ | ⟨mB,h⟩
  ·refine Gz mB rfl (Zu (Zd (Zq h (fun (s:Unit)=>xD gI wI fun e w g=>e 0=up0∧RV g.m w (x0:List Int) up0∧e 1=up1∧RV g.m w (x1:List Int) up1∧e 9=up0∧RV g.m w (x0:List Int) up0∧e 10=I (x0.length:Int)∧e 11=I o0) (fun X49 rF vF h=>?_) ?_)))
   ·refine Zr (Z (aQ t5 ?_))
    obtain ⟨n9,bD,h⟩:=Z1 h;refine Y (Gy up0 o0 1) (Zh (α:=Int) underlying25 sizeOf3 cC n8 t5 bD) ?_;have bG:=G1 n8 bD;refine G (Ga (g:=vC) isAgg3 sizeOf3 rfl bG fun cH cG=>?_);obtain rfl:=Zj.1 cG;refine H (I o0) (H (I n9) (O (Zq h (fun (s:Unit)=>xD gI wI fun e w g=>e 0=up0∧RV g.m w (x0:List Int) up0∧e 1=up1∧RV g.m w (x1:List Int) up1∧e 5=I (o0)∧e 6=I (n9)∧e 9=up0∧RV g.m w (x0:List Int) up0∧e 10=I (x0.length:Int)∧e 11=I o0) (fun X54 k54 xF h=>?_) ?_)))
    ·refine Z (M (I o0) (aQ g8 (Y (I (x1.length:Int)) (G7 underlying25 rfl l8) (aT (.bool (decide (o0≥(x1.length:Int)))) rfl rfl rfl (O ?_)))))
     rcases Zt h with ⟨nB,h⟩ | ⟨nB,h⟩
     ·refine Gz nB rfl (Z (H (I 1) (O (Gb (Gj (G6 (Gj (Gj (G6 (Gj ?_))))))))))
      cases h;exact ac rfl (rq (I 1)) ⟨_,hfr,rfl⟩
     ·refine G0 nB rfl ?_
      exact Zu (Zd (xF () _ _ ⟨vC,hfr,yB,zB,g8,l8,rfl,rfl,cC,n8,lB,t5⟩ h))
    ·rintro _ mG gH ⟨sF,hfr,zD,v8,uC,i6,aE,bE,iE,l9,cD,lD⟩ h
     refine Z (aQ uC (aQ aE ?_));obtain ⟨aB,nD,h⟩:=Z1 h;refine Y (Gy up1 o0 1) (Zh (α:=Int) underlying25 sizeOf3 rfl i6 rfl nD) ?_;have eG:=G1 i6 nD;refine G (Ga (g:=sF) isAgg3 sizeOf3 rfl eG fun jH gG=>?_);obtain rfl:=Zj.1 gG;refine H (I aB) (O (Z (aQ bE (M (I aB) ?_))));obtain ⟨l5,yF,h⟩:=Z1 h;refine G (aJ (g:=sF) (vs:=[I n9,I aB]) en54 (wk54  yF) fun iG sG kH hs hr=>?_);have hfr:=hfr.ext hs;have v8:=v8.ext hs;have i6:=i6.ext hs;have l9:=l9.ext hs;subst hr;refine H (I l5) (O (Z (M (I l5) (aT (.bool (l5 != (0:Int))) rfl rfl rfl (O ?_)))));rcases Zt h with ⟨oB,h⟩ | ⟨oB,h⟩
     ·refine Gz oB rfl (Z (M (I l5) (H (I l5) (O (Gb (G6 (Gj (Gj (G6 (Gj ?_))))))))))
      obtain rfl:=sinj h;exact ac rfl (rq (I l5)) ⟨_,hfr,rfl⟩
     ·refine G0 oB rfl ?_
      exact Zu (Te (Zd (vF () _ _ ⟨iG,hfr,zD,v8,uC,i6,iE,l9,cD,lD⟩ h)))
   ·rintro _ xG lH ⟨jG,hfr,lE,mE,oE,rE,uE,vE,oD,yD⟩ h
    refine Za (aT (I (w64 (o0+(1:Int)))) yD rfl rfl (M (I (w64 (o0+(1:Int)))) ?_));exact O (uF (w64 (o0+(1:Int))) _ _ ⟨jG,hfr,lE,mE,oE,rE,uE,vE,oD,rfl⟩ h)
  ·refine G0 mB rfl (Th (Gr (Gr (G2 ?_))))
   exact Zd (tF () _ _ ⟨vC,hfr,yB,zB,g8,l8⟩ h)
 ·rintro _ yG mH ⟨kG,hfr,xE,yE,zE,cF⟩ h
  refine Zq h (fun (s:Unit) e w=>∃ (g:Gh) ,Fr gI wI g w) (fun X67 dF aG h=>?_) ?_
  ·refine Z (aQ xE (Y (I (x0.length:Int)) (G7 underlying25 rfl yE) (aQ zE (Y (I (x1.length:Int)) (G7 underlying25 rfl cF) (aT (.bool (decide ((x0.length:Int)<(x1.length:Int)))) rfl rfl rfl (O ?_))))))
   rcases Zt h with ⟨vB,h⟩ | ⟨vB,h⟩
   ·refine Gz vB rfl (Z (H (I (-1)) (O (Gb (Gj ?_)))))
    cases h;exact ac rfl (rq (I (-1))) ⟨_,hfr,rfl⟩
   ·refine G0 vB rfl ?_
    exact Zu (Zd (aG () _ _ ⟨kG,hfr⟩ h))
  ·rintro _ zG nH ⟨oH,hfr⟩ h
   refine Z (H (I 0) (O (Gb ?_)));cases h;exact ac rfl (rq (I 0)) ⟨_,hfr,rfl⟩
def f129 (x0:Int):Option Bool:=
 (f104 (1:Int) (24:Int) ([x0]:List Int)).bind fun y3=>
 some y3
theorem en129:Enters prog 129:=yC func129
theorem wk129 {x0:Int}  {r:Bool} (h:f129 x0=some r):Fn prog 129 #[I x0] gI wI (fun _ _ v=>v=.bool r):=by
 unfold f129 at h;refine fnE func129 rfl rfl fun g0 hm hfr=>?_;refine Z (H (.bool false) (O (Z (M (I x0) (G (Gd (g:=g0) 3004 (xs:=([x0]:List Int)) (vs:=[I x0]) underlying25 sizeOf3 zeroValue3 rfl rfl (.cons rfl .nil) (RVs.cons (Zj.2 rfl) RVs.nil) rfl rfl fun g1 w1 v1 hs o1 r1 hxt hfl=>?_))))));have hfr:=hfr.stp hs;obtain ⟨y3,hy3,h⟩:=Z1 h;refine G (aJ (g:=g1) (vs:=[I 1,I 24,v1]) en104 (wk104 r1 hy3) fun g2 w2_ v2 hs hr=>?_);have hfr:=hfr.ext hs;subst hr;refine H (.bool y3) (O (Gb ?_));obtain rfl:=sinj h;exact ac rfl (rq (.bool y3)) ⟨_,hfr,rfl⟩
def f134 (x0:Str) (x1:Str):Option Bool:=
 Option.bind (α:=Bool) (
  (f163 x0).bind fun y8=>
  bif y8 then
   (f163 x1).bind fun y11=>
   bif (!y11) then
    some true
   else
    some (Op.bytesLess x0.b x1.b)
  else
   some (Op.bytesLess x0.b x1.b)
  ) fun l5=>
 some l5
theorem en134:Enters prog 134:=yC func134
theorem wk134 {x0:Str} {x1:Str}  {r:Bool} (h:f134 x0 x1=some r):Fn prog 134 #[Str.v x0,Str.v x1] gI wI (fun _ _ v=>v=.bool r):=by
 unfold f134 at h;refine fnE func134 rfl rfl fun g0 hm hfr=>?_;refine Z (H (.bool false) (O ?_));obtain ⟨l5,hx,h⟩:=Z1 h;refine Gn (xD gI wI fun e w g=>e 4=.bool l5) (fun Q' hQ=>?_) (fun n8 l9 hR=>?_)
 ·replace h:=hx
  clear hx;refine Za (M (Str.v x0) ?_);obtain ⟨y8,l8,h⟩:=Z1 h;refine G (aJ (g:=g0) (vs:=[Str.v x0]) en163 (wk163  l8) fun g7 w7_ v7 hs hr=>?_);have hfr:=hfr.ext hs;subst hr;refine M (.bool y8) ?_;rcases Zt h with ⟨hc9,h⟩ | ⟨hc9,h⟩
  ·refine ag (Str.v x1) (ai) rfl rfl hc9 ?_
   obtain ⟨y11,g8,h⟩:=Z1 h;refine Ze (.yes2 rfl rfl hc9) rfl (aJ (g:=g7) (vs:=[Str.v x1]) en163 (wk163  g8) fun i6 v8 n9 hs hr=>?_);have hfr:=hfr.ext hs;subst hr;refine ag (.bool (!y11)) (Qw rfl) rfl rfl hc9 (Y (.bool (!y11)) (ae (b:=y8) (Tg hc9 rfl)) (M (.bool (!y11)) ?_));rcases Zt h with ⟨o0,h⟩ | ⟨o0,h⟩
   ·refine Zz rfl rfl o0 rfl rfl (Zz rfl rfl o0 rfl rfl (Zz rfl rfl o0 rfl rfl (Y (.bool true) (ae (b:=(!y11)) (Tg o0 rfl)) (H (.bool true) (Zb ?_)))))
    cases h;exact hQ _ _ ⟨i6,hfr,rfl⟩
   ·refine ag (Str.v x0) (ai) rfl rfl o0 (ag (Str.v x1) (ai) rfl rfl o0 (ag (.bool (Op.bytesLess x0.b x1.b)) (Fd rfl rfl rfl) rfl rfl o0 (Y (.bool (Op.bytesLess x0.b x1.b)) (ae (b:=(!y11)) (Td o0 rfl)) (H (.bool (Op.bytesLess x0.b x1.b)) (Zb ?_)))))
    cases h;exact hQ _ _ ⟨i6,hfr,rfl⟩
  ·refine Zz rfl rfl hc9 rfl rfl (Zz rfl rfl hc9 rfl rfl (Zz rfl rfl hc9 rfl rfl (Y (.bool false) (ae (b:=y8) (Td hc9 rfl)) (M (.bool false) (ag (Str.v x0) (ai) rfl rfl rfl (ag (Str.v x1) (ai) rfl rfl rfl (ag (.bool (Op.bytesLess x0.b x1.b)) (Fd rfl rfl rfl) rfl rfl rfl (Y (.bool (Op.bytesLess x0.b x1.b)) (ae (b:=false) (Td rfl rfl)) (H (.bool (Op.bytesLess x0.b x1.b)) (Zb ?_))))))))))
   cases h;exact hQ _ _ ⟨g7,hfr,rfl⟩
 ·clear hx
  obtain ⟨aB,hfr,t5⟩:=hR;refine Gb ?_;obtain rfl:=sinj h;exact ac rfl (show _=.bool l5 from t5) ⟨_,hfr,rfl⟩
def f136 (x0:List UInt8) (x1:Int):Option (It (List UInt8)):=
 Option.bind (α:=Unit) (
  bif (decide (x1<(1:Int))) then
   none
  else
   some ()
  ) fun (_:Unit)=>
 some (fun σ cons s=>f164 x0 x1 σ cons s)
theorem en136:Enters prog 136:=yC func136
theorem wk136 {x0:List UInt8} {x1:Int} (rp0:RV gI.m wI x0 up0) {r:It (List UInt8)} (h:f136 x0 x1=some r):Fn prog 136 #[up0,I x1] gI wI (fun m w v=>ItV prog (RA1 (α:=(List UInt8))) r v m w):=by
 unfold f136 at h;refine fnE func136 rfl rfl fun g0 hm hfr=>?_;have rp0:=RVc hm rp0;refine Z (G (Tw (g:=g0) rfl rp0 fun g1 w1 p1 hs q1=>?_));have hfr:=hfr.ext hs;refine G (Tw (g:=g1) rfl (Zj.2 rfl) fun g2 w2 p2 hs q2=>?_);have hfr:=hfr.ext hs;have q1:=q1.ext hs;refine H (.nilFunc) (O ?_);obtain ⟨_,hx,h⟩:=Z1 h;refine Gn (xD gI wI fun e w g=>e 2=p1∧PT g.m w (x0:List UInt8) p1∧e 3=p2∧PT g.m w (x1:Int) p2) (fun Q' hQ=>?_) (fun g8 w7 hR=>?_)
 ·replace h:=hx
  clear hx;refine Z (G (Ga (g:=g2) isAgg3 sizeOf3 rfl q2 fun v5 r5=>?_));obtain rfl:=Zj.1 r5;refine aT (.bool (decide (x1<(1:Int)))) rfl rfl rfl (O ?_);rcases Zt h with ⟨hc6,h⟩ | ⟨hc6,h⟩
  ·refine Gz hc6 rfl (Za ?_)
   cases h
  ·refine G0 hc6 rfl (Zu ?_)
   cases h;exact hQ _ _ ⟨g2,hfr,rfl,q1,rfl,q2⟩
 ·clear hx
  obtain ⟨g7,hfr,o0,l5,t5,i6⟩:=hR;refine Z (Y (.func (.func 164) #[] #[p1,p2]) (W3 (Uu (show X _ _=p1 from o0) (show X _ _=p2 from t5))) (H (.func (.func 164) #[] #[p1,p2]) (O (Gb ?_))));cases h;exact ac rfl (rq (.func (.func 164) #[] #[p1,p2])) ⟨_,hfr,(show ItV prog (RA1 (α:=(List UInt8))) (fun σ cons s=>f164 x0 x1 σ cons s) (.func (.func 164) #[] #[p1,p2]) g7.m w7 from ⟨164,#[],#[p1,p2],rfl,en164,fun g' w' hch σ cons s s' h=>wk164  (l5.ch hch) (i6.ch hch) h⟩)⟩
def f149 (x0:Int) (x1:Int) (x2:List Int):Option Bool:=
 (f81 x2 (fun a0=>f169 a0 x0 x1)).bind fun y4=>
 some (!y4)
theorem en149:Enters prog 149:=yC func149
theorem wk149 {x0:Int} {x1:Int} {x2:List Int} (rp2:RV gI.m wI x2 up2) {r:Bool} (h:f149 x0 x1 x2=some r):Fn prog 149 #[I x0,I x1,up2] gI wI (fun _ _ v=>v=.bool r):=by
 unfold f149 at h;refine fnE func149 rfl rfl fun g0 hm hfr=>?_;have rp2:=RVc hm rp2;refine Z (G (Tw (g:=g0) rfl (Zj.2 rfl) fun g1 w1 p1 hs q1=>?_));have hfr:=hfr.ext hs;have rp2:=rp2.ext hs;refine G (Tw (g:=g1) rfl (Zj.2 rfl) fun g2 w2 p2 hs q2=>?_);have hfr:=hfr.ext hs;have rp2:=rp2.ext hs;have q1:=q1.ext hs;refine H (.bool false) (O (Z (M up2 (Y (.func (.func 169) #[] #[p1,p2]) (W3 (Uu (show X _ _=p1 from rfl) (show X _ _=p2 from rfl))) ?_))));obtain ⟨y4,o0,h⟩:=Z1 h;refine G (aJ (g:=g2) (vs:=[up2,(.func (.func 169) #[] #[p1,p2])]) en81 (wk81 rp2 ⟨169,#[],#[p1,p2],rfl,en169,fun g' w' hch a0 b0 r hu0 hr=>by obtain rfl:=Zj.1 hu0;exact Fn.mono (wk169  (q1.ch hch) (q2.ch hch) hr) fun _ _ _ h=>Tz.2 h⟩ o0) fun g3 w3_ v3 hs hr=>?_);have hfr:=hfr.ext hs;subst hr;refine Y (.bool (!y4)) (Qw rfl) (H (.bool (!y4)) (O (Gb ?_)));cases h;exact ac rfl (rq (.bool (!y4))) ⟨_,hfr,rfl⟩
def f160 (x0:Int) (x1:List Int):Option Bool:=
 (H2 (1:Int) x0).bind fun y1=>
 (f104 (0:Int) (w64 (y1-(1:Int))) x1).bind fun y3=>
 some y3
theorem en160:Enters prog 160:=yC func160
theorem wk160 {x0:Int} {x1:List Int} (rp1:RV gI.m wI x1 up1) {r:Bool} (h:f160 x0 x1=some r):Fn prog 160 #[I x0,up1] gI wI (fun _ _ v=>v=.bool r):=by
 unfold f160 at h;refine fnE func160 rfl rfl fun g0 hm hfr=>?_;have rp1:=RVc hm rp1;refine Z (H (.bool false) (O (Z (M (I x0) ?_))));obtain ⟨y1,hy1,h⟩:=Z1 h;refine Y (I y1) (Gp rfl rfl (congrArg (Option.map (Value.int .i64)) hy1)) (aT (I (w64 (y1-(1:Int)))) rfl rfl rfl (M up1 ?_));obtain ⟨y3,hy3,h⟩:=Z1 h;refine G (aJ (g:=g0) (vs:=[I 0,I (w64 (y1-(1:Int))),up1]) en104 (wk104 rp1 hy3) fun g2 w2_ v2 hs hr=>?_);have hfr:=hfr.ext hs;subst hr;refine H (.bool y3) (O (Gb ?_));obtain rfl:=sinj h;exact ac rfl (rq (.bool y3)) ⟨_,hfr,rfl⟩
def f161 (x0:List Gi) (x1:Gi→Option Bool):Option Bool:=
 (f173 x0 x1).bind fun y2=>
 some (decide (y2≥(0:Int)))
theorem en161:Enters prog 161:=yC func161
theorem wk161 {x0:List Gi} {x1:Gi→Option Bool} (rp0:RV gI.m wI x0 up0) (rp1:Ho prog x1 up1 gI wI) {r:Bool} (h:f161 x0 x1=some r):Fn prog 161 #[up0,up1] gI wI (fun _ _ v=>v=.bool r):=by
 unfold f161 at h;refine fnE func161 rfl rfl fun g0 hm hfr=>?_;have rp0:=RVc hm rp0;obtain ⟨ff1,fa1,fc1,rfl,fen1,fcl1⟩:=rp1;refine Z (H (.bool false) (O (Z (M up0 (M (.func (.func ff1) fa1 fc1) ?_)))));obtain ⟨y2,hy2,h⟩:=Z1 h;refine G (aJ (g:=g0) (vs:=[up0,(.func (.func ff1) fa1 fc1)]) en173 (wk173 rp0 (Ho.ch ⟨_,_,_,rfl,fen1,fcl1⟩ hfr.ch) hy2) fun g1 w1_ v1 hs hr=>?_);have hfr:=hfr.ext hs;subst hr;refine aT (.bool (decide (y2≥(0:Int)))) rfl rfl rfl (H (.bool (decide (y2≥(0:Int)))) (O (Gb ?_)));cases h;exact ac rfl (rq (.bool (decide (y2≥(0:Int))))) ⟨_,hfr,rfl⟩
def f162 (x0:Str) (x1:I32→Option Bool):Option Int:=
 (f174 x0 x1 true).bind fun y2=>
 some y2
theorem en162:Enters prog 162:=yC func162
theorem wk162 {x0:Str} {x1:I32→Option Bool} (rp1:Ho prog x1 up1 gI wI) {r:Int} (h:f162 x0 x1=some r):Fn prog 162 #[Str.v x0,up1] gI wI (fun _ _ v=>v=I r):=by
 unfold f162 at h;refine fnE func162 rfl rfl fun g0 hm hfr=>?_;obtain ⟨ff1,fa1,fc1,rfl,fen1,fcl1⟩:=rp1;refine Z (H (I 0) (O (Z (M (Str.v x0) (M (.func (.func ff1) fa1 fc1) ?_)))));obtain ⟨y2,hy2,h⟩:=Z1 h;refine G (aJ (g:=g0) (vs:=[Str.v x0,(.func (.func ff1) fa1 fc1),.bool true]) en174 (wk174 (Ho.ch ⟨_,_,_,rfl,fen1,fcl1⟩ hfr.ch) hy2) fun g1 w1_ v1 hs hr=>?_);have hfr:=hfr.ext hs;subst hr;refine H (I y2) (O (Gb ?_));obtain rfl:=sinj h;exact ac rfl (rq (I y2)) ⟨_,hfr,rfl⟩
def f168 (x0:U64):Option U64:=
 (Wv x0.n (1:Int)).bind fun y1=>
 (As (Tq .and x0.n (6148914691236517205:Int)) (1:Int)).bind fun y2=>
 (Wv (Tq .or (Tq .and y1 (6148914691236517205:Int)) y2) (2:Int)).bind fun y3=>
 (As (Tq .and (Tq .or (Tq .and y1 (6148914691236517205:Int)) y2) (3689348814741910323:Int)) (2:Int)).bind fun y4=>
 (Wv (Tq .or (Tq .and y3 (3689348814741910323:Int)) y4) (4:Int)).bind fun y5=>
 (As (Tq .and (Tq .or (Tq .and y3 (3689348814741910323:Int)) y4) (1085102592571150095:Int)) (4:Int)).bind fun y6=>
 (f176 (⟨Tq .or (Tq .and y5 (1085102592571150095:Int)) y6⟩:U64)).bind fun y8=>
 some y8
theorem en168:Enters prog 168:=yC func168
theorem wk168 {x0:U64}  {r:U64} (h:f168 x0=some r):Fn prog 168 #[.int .u64 x0.n] gI wI (fun _ _ v=>v=.int .u64 r.n):=by
 unfold f168 at h;refine fnE func168 rfl rfl fun g0 hm hfr=>?_;refine Z (H (.int .u64 0) (O (Z (M (.int .u64 x0.n) ?_))));obtain ⟨y1,hy1,h⟩:=Z1 h;refine Y (.int .u64 y1) (J6 rfl rfl hy1) (Y (.int .u64 (Tq .and y1 (6148914691236517205:Int))) (Kt (by simp) rfl rfl) (M (.int .u64 x0.n) (Y (.int .u64 (Tq .and x0.n (6148914691236517205:Int))) (Kt (by simp) rfl rfl) ?_)));obtain ⟨y2,hy2,h⟩:=Z1 h;refine Y (.int .u64 y2) (B9 rfl rfl hy2) (Y (.int .u64 (Tq .or (Tq .and y1 (6148914691236517205:Int)) y2)) (Kt (by simp) rfl rfl) (H (.int .u64 (Tq .or (Tq .and y1 (6148914691236517205:Int)) y2)) (O (Z (M (.int .u64 (Tq .or (Tq .and y1 (6148914691236517205:Int)) y2)) ?_)))));obtain ⟨y3,hy3,h⟩:=Z1 h;refine Y (.int .u64 y3) (J6 rfl rfl hy3) (Y (.int .u64 (Tq .and y3 (3689348814741910323:Int))) (Kt (by simp) rfl rfl) (M (.int .u64 (Tq .or (Tq .and y1 (6148914691236517205:Int)) y2)) (Y (.int .u64 (Tq .and (Tq .or (Tq .and y1 (6148914691236517205:Int)) y2) (3689348814741910323:Int))) (Kt (by simp) rfl rfl) ?_)));obtain ⟨y4,o0,h⟩:=Z1 h;refine Y (.int .u64 y4) (B9 rfl rfl o0) (Y (.int .u64 (Tq .or (Tq .and y3 (3689348814741910323:Int)) y4)) (Kt (by simp) rfl rfl) (H (.int .u64 (Tq .or (Tq .and y3 (3689348814741910323:Int)) y4)) (O (Z (M (.int .u64 (Tq .or (Tq .and y3 (3689348814741910323:Int)) y4)) ?_)))));obtain ⟨y5,hy5,h⟩:=Z1 h;refine Y (.int .u64 y5) (J6 rfl rfl hy5) (Y (.int .u64 (Tq .and y5 (1085102592571150095:Int))) (Kt (by simp) rfl rfl) (M (.int .u64 (Tq .or (Tq .and y3 (3689348814741910323:Int)) y4)) (Y (.int .u64 (Tq .and (Tq .or (Tq .and y3 (3689348814741910323:Int)) y4) (1085102592571150095:Int))) (Kt (by simp) rfl rfl) ?_)));obtain ⟨y6,l5,h⟩:=Z1 h;refine Y (.int .u64 y6) (B9 rfl rfl l5) (Y (.int .u64 (Tq .or (Tq .and y5 (1085102592571150095:Int)) y6)) (Kt (by simp) rfl rfl) (H (.int .u64 (Tq .or (Tq .and y5 (1085102592571150095:Int)) y6)) (O (Z (M (.int .u64 (Tq .or (Tq .and y5 (1085102592571150095:Int)) y6)) ?_)))));obtain ⟨y8,t5,h⟩:=Z1 h;refine G (aJ (g:=g0) (vs:=[.int .u64 (Tq .or (Tq .and y5 (1085102592571150095:Int)) y6)]) en176 (wk176  t5) fun g7 w7_ v7 hs hr=>?_);have hfr:=hfr.ext hs;subst hr;refine H (.int .u64 y8.n) (O (Gb ?_));obtain rfl:=sinj h;exact ac rfl (rq (.int .u64 y8.n)) ⟨_,hfr,rfl⟩
def f33 (x0:Z4) (x1:Z4):Option Int:=
 (f54 x0.Day x1.Day).bind fun y8=>
 (f54 x0.Loom x1.Loom).bind fun o0=>
 (f53 ([y8,o0]:List Int)).bind fun t5=>
 some t5
theorem en33:Enters prog 33:=yC func33
theorem wk33 {x0:Z4} {x1:Z4} (rp0:RV gI.m wI x0 up0) (rp1:RV gI.m wI x1 up1) {r:Int} (h:f33 x0 x1=some r):Fn prog 33 #[up0,up1] gI wI (fun _ _ v=>v=I r):=by
 unfold f33 at h;refine fnE func33 rfl rfl fun g0 hm hfr=>?_;have rp0:=RVc hm rp0;have rp1:=RVc hm rp1;refine Z (G (Tw (g:=g0) rfl rp0 fun g1 w1 p1 hs q1=>?_));have hfr:=hfr.ext hs;have rp1:=rp1.ext hs;refine G (Tw (g:=g1) rfl rp1 fun g2 w2 p2 hs q2=>?_);have hfr:=hfr.ext hs;have q1:=q1.ext hs;refine H (I 0) (O (Zf ?_));have q3:=Zm Ql.1 q1;refine Zs (x:=.tmp 5) isAgg3 sizeOf3 q3 fun v4 r4 n8=>?_;obtain rfl:=Zj.1 r4;have q5:=Zm Ql.1 q2;refine Zs (x:=.tmp 7) isAgg3 sizeOf3 q5 fun v6 r6 v8=>?_;obtain rfl:=Zj.1 r6;obtain ⟨y8,l9,h⟩:=Z1 h;have q9:=Zm Qi.1 q1;refine Zs (x:=.tmp 10) isAgg3 sizeOf3 q9 fun mB n9 i6=>?_;obtain rfl:=Zj.1 n9;have aB:=Zm Qi.1 q2;refine Zs (x:=.tmp 12) isAgg3 sizeOf3 aB fun nB lB hl12=>?_;obtain rfl:=Zj.1 lB;obtain ⟨o0,g8,h⟩:=Z1 h;obtain ⟨t5,l8,h⟩:=Z1 h;refine ab (g:=g2) (n:=13) [(4,(fun v g w=>v=I y8)),(9,(fun v g w=>v=I o0)),(10,(fun v g w=>RV g.m w ([y8,o0]:List Int) v∧OS 3015 g w 3 ([y8,o0]:List Int) v∧Kx v)),(11,(fun v g w=>v=I t5))] [0,1,2,3,4,5,6,7,8,9,10,11,12] mixed (⟨fun _=>Ww _,fun _=>Ww _,fun _=>Jq Hm (Jq A1 (Ww _)),fun _=>Ww _,trivial⟩) (V (S p1 0) rfl (aa Ju (PT.ptr q1)) (G3 (c:=I x0.Day) rfl rfl .plain xC n8 rfl (V (S p2 0) rfl (aa Ju (PT.ptr q2)) (G3 (c:=I x1.Day) rfl rfl .plain xC v8 rfl (Wd (φ:=fun v g w=>v=I y8) rfl rfl .plain (fun g w hd=>aJ (g:=g) (vs:=[I x0.Day,I x1.Day]) en54 (wk54  l9) fun g' w' v hs hr=>⟨g',hs,hr⟩) (fun v7 hv=>?_))))));obtain ⟨_,_,_,rfl⟩:=hv;refine V (S p1 1) rfl (aa Hx (PT.ptr q1)) (G3 (c:=I x0.Loom) rfl rfl .plain xC i6 rfl (V (S p2 1) rfl (aa Hx (PT.ptr q2)) (G3 (c:=I x1.Loom) rfl rfl .plain xC hl12 rfl (Wd (φ:=fun v g w=>v=I o0) rfl rfl .plain (fun g w hd=>aJ (g:=g) (vs:=[I x0.Loom,I x1.Loom]) en54 (wk54  g8) fun g' w' v hs hr=>⟨g',hs,hr⟩) (fun oB hv=>?_)))));obtain ⟨_,_,_,rfl⟩:=hv;refine Wd (φ:=fun v g w=>RV g.m w ([y8,o0]:List Int) v∧OS 3015 g w 3 ([y8,o0]:List Int) v∧Kx v) rfl rfl .plain (fun g w hd=>Gd (g:=g) 3015 (xs:=([y8,o0]:List Int)) (vs:=[I y8,I o0]) underlying25 sizeOf3 zeroValue3 rfl rfl (.cons rfl (.cons rfl .nil)) (RVs.cons (Zj.2 rfl) (RVs.cons (Zj.2 rfl) RVs.nil)) rfl rfl fun g' w' v hs o r hxt hfl=>⟨g',hxt,r,o,hfl⟩) (fun l5 hv=>?_);clear hv;refine Wd (φ:=fun v g w=>v=I t5) rfl rfl .plain (fun g w hd=>aJ (g:=g) (vs:=[l5]) en53 (wk53 (Yv (A:=fun g w=>RV g.m w ([y8,o0]:List Int) l5∧OS 3015 g w 3 ([y8,o0]:List Int) l5∧Kx l5) 10 rfl rfl (Q9 hd)).1 l8) fun g' w' v hs hr=>⟨g',hs,hr⟩) (fun vB hv=>?_);obtain ⟨_,_,_,rfl⟩:=hv;refine V (I t5) rfl (Tp rfl) (Jx fun yB zB hall=>?_);have hs:=hall.1;have hfr:=hfr.ext hs;have cC:=(Ts (A:=fun g w=>RV g.m w ([y8,o0]:List Int) l5∧OS 3015 g w 3 ([y8,o0]:List Int) l5∧Kx l5) 10 rfl hall).1;have o34:=(Ts (A:=fun g w=>RV g.m w ([y8,o0]:List Int) l5∧OS 3015 g w 3 ([y8,o0]:List Int) l5∧Kx l5) 10 rfl hall).2.1;clear hs hall;refine O (Gb ?_);obtain rfl:=sinj h;exact ac rfl (rq (I t5)) ⟨_,hfr,rfl⟩
def f45 (x0:Int) (x1:Int) (x2:List Int):Option Bool:=
 (f81 x2 (fun a0=>f82 a0 x0 x1)).bind fun y4=>
 some (!y4)
theorem en45:Enters prog 45:=yC func45
theorem wk45 {x0:Int} {x1:Int} {x2:List Int} (rp2:RV gI.m wI x2 up2) {r:Bool} (h:f45 x0 x1 x2=some r):Fn prog 45 #[I x0,I x1,up2] gI wI (fun _ _ v=>v=.bool r):=by
 unfold f45 at h;refine fnE func45 rfl rfl fun g0 hm hfr=>?_;have rp2:=RVc hm rp2;refine Z (G (Tw (g:=g0) rfl (Zj.2 rfl) fun g1 w1 p1 hs q1=>?_));have hfr:=hfr.ext hs;have rp2:=rp2.ext hs;refine G (Tw (g:=g1) rfl (Zj.2 rfl) fun g2 w2 p2 hs q2=>?_);have hfr:=hfr.ext hs;have rp2:=rp2.ext hs;have q1:=q1.ext hs;refine H (.bool false) (O (Z (M up2 (Y (.func (.func 82) #[] #[p1,p2]) (W3 (Uu (show X _ _=p1 from rfl) (show X _ _=p2 from rfl))) ?_))));obtain ⟨y4,o0,h⟩:=Z1 h;refine G (aJ (g:=g2) (vs:=[up2,(.func (.func 82) #[] #[p1,p2])]) en81 (wk81 rp2 ⟨82,#[],#[p1,p2],rfl,en82,fun g' w' hch a0 b0 r hu0 hr=>by obtain rfl:=Zj.1 hu0;exact Fn.mono (wk82  (q1.ch hch) (q2.ch hch) hr) fun _ _ _ h=>Tz.2 h⟩ o0) fun g3 w3_ v3 hs hr=>?_);have hfr:=hfr.ext hs;subst hr;refine Y (.bool (!y4)) (Qw rfl) (H (.bool (!y4)) (O (Gb ?_)));cases h;exact ac rfl (rq (.bool (!y4))) ⟨_,hfr,rfl⟩
def f47 (x0:Z8) (x1:Int) (x2:List (Int × Z3)):Option (List Bool):=
 (H2 (1:Int) ((x0.orders).length:Int)).bind fun y6=>
 (mks 1 (false:Bool) y6).bind fun y7=>
 (idx y7 (0:Int)).bind fun y9=>
 Option.bind (α:=(List Bool)) (
  lp (σ:=(List Bool) × (Vector (Vector Int 7) 128) × Int) (fun jH (zB,aE,l5)=>
   jn (σ:=Unit) (fun _=>
    Option.bind (α:=(List Bool) × (Vector (Vector Int 7) 128)) (
     lp (σ:=(List Bool) × (Vector (Vector Int 7) 128) × Int) (fun kH (n9,l8,o0)=>
      bif (decide (o0<((x0.orders).length:Int))) then
       Option.bind (α:=(List Bool) × (Vector (Vector Int 7) 128)) (
        (idx l8.toList l5).bind fun lH=>
        (idx lH.toList o0).bind fun iL=>
        jn (σ:=Unit) (fun _=>
         (f84 x0 (Dd l8 l5 (fun b=>(Ja b o0 (1048576:Int)))) l5 o0 x1 x2).bind fun aB=>
         bif (decide (aB<(1048576:Int))) then
          (idx x0.orders o0).bind fun rF=>
          (idx (Dd l8 l5 (fun b=>(Ja b o0 (1048576:Int)))).toList l5).bind fun mH=>
          (idx mH.toList o0).bind fun jL=>
          (idx n9 l5).bind fun lL=>
          some ((List.set n9 (Int.toNat l5) true),(Dd (Dd l8 l5 (fun b=>(Ja b o0 (1048576:Int)))) l5 (fun b=>(Ja b o0 (w64 (aB+rF.Woven))))))
         else
          some (n9,(Dd l8 l5 (fun b=>(Ja b o0 (1048576:Int)))))
         ) fun nH=>
        (Wv l5 o0).bind fun bE=>
        bif ((Tx .and bE (1:Int))==(0:Int)) then
         some (n9,(Dd l8 l5 (fun b=>(Ja b o0 (1048576:Int)))))
        else
         nH ()
        ) fun (cC,uC)=>
       kH (cC,uC,(w64 (o0+(1:Int))))
      else
       some (n9,l8)
      ) big (zB,aE,(0:Int))
     ) fun (vC,bD)=>
    jH (vC,bD,(w64 (l5+(1:Int))))
    ) fun oH=>
   bif (decide (l5<y6)) then
    oH ()
   else
    some zB
   ) big ((List.set y7 (Int.toNat (0:Int)) true),((Vector.replicate 128 (⟨List.toArray [0,0,0,0,0,0,0],rfl⟩:Vector Int 7)):Vector (Vector Int 7) 128),(1:Int))
  ) fun iE=>
 some iE
theorem en47:Enters prog 47:=yC func47
theorem wk47 {x0:Z8} {x1:Int} {x2:List (Int × Z3)} (rp0:RV gI.m wI x0 up0) (mq2:MR (Value.int .i64) gI wI x2 up2) {r:(List Bool)} (h:f47 x0 x1 x2=some r):Fn prog 47 #[up0,I x1,up2] gI wI (fun m w v=>RV m w r v):=by
 unfold f47 at h;refine fnE func47 rfl rfl fun g0 hm hfr=>?_;have rp0:=RVc hm rp0;have mq2:=MQ.enter mq2 hm hfr;refine Z (G (Tw (g:=g0) rfl rp0 fun g1 w1 p1 hs q1=>?_));have hfr:=hfr.ext hs;have rp0:=rp0.ext hs;have mq2:=mq2.ext hs;refine H (.slice none 0 0) ?_;have b2:OA 4006 g1 w1 4 ([]:List Bool) (.slice none 0 0):=OA.nil;refine O (Z (G (Gu (g:=g1) 2007 ((Vector.replicate 128 (⟨List.toArray [0,0,0,0,0,0,0],rfl⟩:Vector Int 7)):Vector (Vector Int 7) 128) zeroValue191 (fun m w=>⟨_,(Cz (K8 (Zv Zw (Zv Zw (Zv Zw (Zv Zw (Zv Zw (Zv Zw (Zv Zw K0))))))) rfl)),by kernel_rfl⟩) fun g3 w3 p3 hs b3 cb=>?_)));have hfr:=hfr.stp hs;have rp0:=rp0.stp hs;have mq2:=mq2.stp hs;have q1:=q1.stp hs;have b2:=b2.stp hs rfl;clear cb;refine O (Z (Y (S p1 2) (aa W6 (PT.ptr q1)) ?_));have q4:=Zm G8.1 q1;refine G (Ga (g:=g3) isAgg28 sizeOf28 rfl q4 fun v5 r5=>(Y (I ((x0.orders).length:Int)) (G7 underlying28 rfl r5) ?_));obtain ⟨y6,dM,h⟩:=Z1 h;refine Y (I y6) (Gp rfl rfl (congrArg (Option.map (Value.int .i64)) dM)) (H (I y6) (O (Z (M (I y6) ?_))));obtain ⟨y7,eM,h⟩:=Z1 h;refine G (Ye (g:=g3) 9017 (false:Bool) rfl underlying85 Lc rfl (fun _ _=>rfl) rfl rfl eM fun g8 w8 v8 hs b8=>?_);have hfr:=hfr.stp hs;have rp0:=rp0.stp hs;have mq2:=mq2.stp hs;have q1:=q1.stp hs;have b2:=b2.stp hs rfl;have b3:=b3.stp hs rfl;have q4:=q4.stp hs;have r5:=r5.stp hs;refine H v8 (O (Z (M v8 ?_)));obtain ⟨y9,gL,h⟩:=Z1 h;refine Y (Gy v8 (0:Int) 1) (Tt (α:=Bool) underlying85 sizeOf4 rfl b8 rfl gL) (G (Hn (g:=g8) (α:=Bool) (a':=true) sizeOf4 rfl b8 gL rfl (Tz.2 rfl) fun iM qN hs b10=>?_));have hfr:=hfr.stp hs;have rp0:=rp0.stp hs;have mq2:=mq2.stp hs;have q1:=q1.stp hs;have b3:=b3.stp hs rfl;have q4:=q4.stp hs;have r5:=r5.stp hs;refine O ?_;obtain ⟨iE,hx,h⟩:=Z1 h;refine Gn (xD gI wI fun e w g=>e 6=v8∧OM 9017 g w 4 (iE:List Bool) v8) (fun Q' hQ=>?_) (fun jM vM hR=>?_)
 ·replace h:=hx
  clear hx;refine Z (H (I 1) (O (Zr (Qz h (fun (s:(List Bool) × (Vector (Vector Int 7) 128) × Int) e w=>∃ (g:Gh) ,Fr gI wI g w∧e 1=I (x1)∧e 2=up2∧MQ (Value.int .i64) wI.heap.size g w (x2:List (Int × Z3)) up2∧e 3=p1∧PT g.m w (x0:Z8) p1∧e 6=v8∧OM 9017 g w 4 (s.1:List Bool) v8∧e 7=p3∧OB 2007 g w 191 (s.2.1:Vector (Vector Int 7) 128) p3∧e 8=I (y6)∧e 9=I s.2.2) ⟨iM,hfr,rfl,rfl,mq2,rfl,q1,rfl,b10,rfl,b3,rfl,rfl⟩ (fun X271 jH vK=>?_)))));rintro ⟨zB,aE,l5⟩ kM xM ⟨pH,hfr,qH,sH,tH,uH,xH,aG,bG,yH,zH,cG,eG⟩ h;refine Zq h (fun (s:Unit)=>xD gI wI fun e w g=>e 1=I (x1)∧e 2=up2∧MQ (Value.int .i64) wI.heap.size g w (x2:List (Int × Z3)) up2∧e 3=p1∧PT g.m w (x0:Z8) p1∧e 6=v8∧OM 9017 g w 4 (zB:List Bool) v8∧e 7=p3∧OB 2007 g w 191 (aE:Vector (Vector Int 7) 128) p3∧e 8=I (y6)∧e 9=I l5) (fun X274 oH xK h=>?_) ?_
  ·refine Z (aQ eG (aQ cG (aT (.bool (decide (l5<y6))) rfl rfl rfl (O ?_))))
   rcases Zt h with ⟨sF,h⟩ | ⟨sF,h⟩
   ·refine Gz sF rfl ?_
    exact Zu (Zd (xK () _ _ ⟨pH,hfr,qH,sH,tH,uH,xH,aG,bG,yH,zH,cG,eG⟩ h))
   ·refine G0 sF rfl (Th (Gr (Gr (G2 ?_))))
    cases h;exact hQ _ _ ⟨pH,hfr,aG,bG⟩
  ·rintro _ pM bN ⟨aI,hfr,bI,dI,iI,gG,lE,jI,kI,lI,mI,nI,pI⟩ h
   obtain ⟨⟨vC,bD⟩,hx,h⟩:=Z1 h;refine Gn (xD gI wI fun e w g=>e 1=I (x1)∧e 2=up2∧MQ (Value.int .i64) wI.heap.size g w (x2:List (Int × Z3)) up2∧e 3=p1∧PT g.m w (x0:Z8) p1∧e 6=v8∧OM 9017 g w 4 (vC:List Bool) v8∧e 7=p3∧OB 2007 g w 191 (bD:Vector (Vector Int 7) 128) p3∧e 8=I (y6)∧e 9=I l5) (fun Q' hQ=>?_) (fun qM cN hR=>?_)
   ·replace h:=hx
    clear hx;refine Zr (Z (Y (S p1 2) (Zc W6 gG (PT.ptr lE)) ?_));have mL:=Zm G8.1 lE;refine G (Ga (g:=aI) isAgg28 sizeOf28 rfl mL fun dN nL=>(Y (I ((x0.orders).length:Int)) (G7 underlying28 rfl nL) (M (I 0) (O (Zr (Qz h (fun (s:(List Bool) × (Vector (Vector Int 7) 128) × Int) e w=>∃ (g:Gh) ,Fr gI wI g w∧e 1=I (x1)∧e 2=up2∧MQ (Value.int .i64) wI.heap.size g w (x2:List (Int × Z3)) up2∧e 3=p1∧PT g.m w (x0:Z8) p1∧e 6=v8∧OM 9017 g w 4 (s.1:List Bool) v8∧e 7=p3∧OB 2007 g w 191 (s.2.1:Vector (Vector Int 7) 128) p3∧e 8=I (y6)∧e 9=I (l5)∧e 27=I ((x0.orders).length:Int)∧e 28=I s.2.2) ⟨aI,hfr,bI,dI,iI,gG,lE,jI,kI,lI,mI,nI,pI,rfl,rfl⟩ (fun X405 kH yK=>?_)))))));rintro ⟨n9,l8,o0⟩ rM eN ⟨qI,hfr,mE,oE,lB,rE,mB,uE,nB,cD,lD,vE,oB,yD,yB⟩ h;refine Z (Y (.bool (decide (o0<((x0.orders).length:Int)))) (Gp yB yD rfl) (O (Zf ?_)));rcases Zt h with ⟨tF,h⟩ | ⟨tF,h⟩
    ·refine Gz tF rfl (Zu (Zd ?_))
     obtain ⟨⟨cC,uC⟩,hx,h⟩:=Z1 h;refine Gn (xD gI wI fun e w g=>e 1=I (x1)∧e 2=up2∧MQ (Value.int .i64) wI.heap.size g w (x2:List (Int × Z3)) up2∧e 3=p1∧PT g.m w (x0:Z8) p1∧e 6=v8∧OM 9017 g w 4 (cC:List Bool) v8∧e 7=p3∧OB 2007 g w 191 (uC:Vector (Vector Int 7) 128) p3∧e 8=I (y6)∧e 9=I (l5)∧e 27=I ((x0.orders).length:Int)∧e 28=I o0) (fun Q' hQ=>?_) (fun sM gN hR=>?_)
     ·replace h:=hx
      clear hx;refine Zr (Z (aQ yB (H (I o0) (O (Z (aQ oB (M (I o0) ?_)))))));obtain ⟨lH,mG,h⟩:=Z1 h;obtain ⟨hi469,he469⟩:=H6 mG;refine Y (S p3 ((l5:Int).toNat*7)) (G9 (α:=Vector Int 7) underlying191 sizeOf189 cD (OB.ptr lD) rfl mG) ?_;obtain ⟨iL,sG,h⟩:=Z1 h;obtain ⟨hi471,he471⟩:=H6 sG;refine Y (S p3 (((l5:Int).toNat*7)+(o0:Int).toNat*1)) (Xt (α:=Int) (o1:=((l5:Int).toNat*7)) rfl underlying189 sizeOf3 rfl (OB.ptr lD) rfl sG) (G (Wc (g:=qI) (Gl.at_ (Gl.dynC hi469 (Gl.dyn hi471) rfl) (by first | rfl | exact Nat.add_assoc _ _ _ | simp only [Nat.add_assoc,Nat.zero_add] | omega)) sizeOf3 rfl lD rfl (Zj.2 rfl) fun sI iN hs b472 rst hos=>?_));clear rst hos;have hfr:=hfr.stp hs;have lB:=lB.stp hs;have mB:=mB.stp hs;have nB:=nB.stp hs rfl;refine O (Zq h (fun (s:Unit)=>xD gI wI fun e w g=>e 1=I (x1)∧e 2=up2∧MQ (Value.int .i64) wI.heap.size g w (x2:List (Int × Z3)) up2∧e 3=p1∧PT g.m w (x0:Z8) p1∧e 6=v8∧OM 9017 g w 4 (n9:List Bool) v8∧e 7=p3∧OB 2007 g w 191 ((Dd l8 l5 (fun b=>(Ja b o0 (1048576:Int)))):Vector (Vector Int 7) 128) p3∧e 8=I (y6)∧e 9=I (l5)∧e 10=I (o0)∧e 27=I ((x0.orders).length:Int)∧e 28=I o0) (fun X475 nH zK h=>?_) ?_)
      ·refine Z (aQ oB (M (I o0) ?_))
       obtain ⟨bE,aL,h⟩:=Z1 h;refine Y (I bE) (Gp rfl rfl (congrArg (Option.map (Value.int .i64)) aL)) (aT (I (Tx .and bE (1:Int))) rfl rfl rfl (aT (.bool ((Tx .and bE (1:Int))==(0:Int))) rfl rfl rfl (O ?_)));rcases Zt h with ⟨uF,h⟩ | ⟨uF,h⟩
       ·refine Gz uF rfl (Th (Gr (G2 ?_)))
        obtain ⟨rfl,rfl⟩:=W9 h;exact hQ _ _ ⟨sI,hfr,mE,oE,lB,rE,mB,uE,nB,cD,b472,vE,oB,yD,yB⟩
       ·refine G0 uF rfl ?_
        exact Zu (Zd (zK () _ _ ⟨sI,hfr,mE,oE,lB,rE,mB,uE,nB,cD,b472,vE,oB,rfl,yD,yB⟩ h))
      ·rintro _ tM jN ⟨jJ,hfr,xE,yE,i6,nD,t5,zE,n8,oD,l9,iG,vB,zD,dF,eF⟩ h
       refine Z (G (Ga (g:=jJ) isAgg80 sizeOf80 nD t5 fun oL cF=>(aQ vB (aQ zD (aQ xE (aQ yE ?_))))));obtain ⟨aB,bL,h⟩:=Z1 h;refine G (D_callF (g:=jJ) (vs:=[oL,p3,I l5,I o0,I x1,up2]) en84 (.cons rfl (.cons oD (.cons rfl (.cons rfl (.cons rfl (.cons rfl .nil)))))) (wk84 (RV.lent cF) (OB.lent l9) (MR.lent i6.r) bL) fun kJ uM kN hs hr=>?_);have hfr:=hfr.ext hs;have i6:=i6.ext hs;have t5:=t5.ext hs;have n8:=n8.ext hs;have l9:=l9.ext hs;have cF:=cF.ext hs;subst hr;refine H (I aB) (O (Z (M (I aB) (aT (.bool (decide (aB<(1048576:Int)))) rfl rfl rfl (O ?_)))));rcases Zt h with ⟨vF,h⟩ | ⟨vF,h⟩
       ·refine Gz vF rfl (Zf ?_)
        have jG:=Zm G8.1 t5;refine Zs (x:=.tmp 51) isAgg28 sizeOf28 jG fun kG xF dL=>?_;obtain ⟨rF,xG,h⟩:=Z1 h;have yF:=G1 xF xG;have lG:=Zm Qv.1 yF;refine Zs (x:=.tmp 55) isAgg3 sizeOf3 lG fun lN xL eL=>?_;obtain rfl:=Zj.1 xL;obtain ⟨mH,yG,h⟩:=Z1 h;obtain ⟨hi490,he490⟩:=H6 yG;obtain ⟨jL,zG,h⟩:=Z1 h;obtain ⟨hi492,he492⟩:=H6 zG;refine ab (g:=kJ) (n:=12) [] [0,1,2,3,4,5,6,7,8,9,10,11] mixed trivial (V (I l5) rfl (Zk vB) (V (I o0) rfl (Zk zD) (V (I aB) rfl (ai) (V (S p1 2) rfl (Zc W6 nD (PT.ptr t5)) (G3 (c:=kG) rfl rfl .plain xC dL rfl (V (I o0) rfl (Zk zD) (V (Gy kG o0 5) rfl (Zh (α:=Z5) underlying28 sizeOf59 rfl xF rfl xG) (V (S (Gy kG o0 5) 2) rfl (aa Yd (PT.ptr yF)) (G3 (c:=I rF.Woven) rfl rfl .plain xC eL rfl (V (I (w64 (aB+rF.Woven))) rfl (Gp rfl rfl rfl) (V (S p3 ((l5:Int).toNat*7)) rfl (G9 (α:=Vector Int 7) underlying191 sizeOf189 oD (OB.ptr l9) rfl yG) (V (S p3 (((l5:Int).toNat*7)+(o0:Int).toNat*1)) rfl (Xt (α:=Int) (o1:=((l5:Int).toNat*7)) rfl underlying189 sizeOf3 rfl (OB.ptr l9) rfl zG) (Ki fun yL mN hs=>?_)))))))))))));have hfr:=hfr.ext hs;have i6:=i6.ext hs;have t5:=t5.ext hs;have n8:=n8.ext hs;have l9:=l9.ext hs;have cF:=cF.ext hs;have jG:=jG.ext hs;have xF:=xF.ext hs;have yF:=yF.ext hs;have lG:=lG.ext hs;clear hs;refine G (Wc (g:=yL) (Gl.at_ (Gl.dynC hi490 (Gl.dyn hi492) rfl) (by first | rfl | exact Nat.add_assoc _ _ _ | simp only [Nat.add_assoc,Nat.zero_add] | omega)) sizeOf3 rfl l9 rfl (Zj.2 rfl) fun zL nN hs b525 rst hos=>?_);clear rst hos;have hfr:=hfr.stp hs;have i6:=i6.stp hs;have t5:=t5.stp hs;have n8:=n8.stp hs rfl;refine O (Za (aQ zE (aQ vB ?_)));obtain ⟨lL,aH,h⟩:=Z1 h;refine Y (Gy v8 l5 1) (Tt (α:=Bool) underlying85 sizeOf4 rfl n8 rfl aH) (G (Hn (g:=zL) (α:=Bool) (a':=true) sizeOf4 rfl n8 aH rfl (Tz.2 rfl) fun aM oN hs b527=>?_));have hfr:=hfr.stp hs;have i6:=i6.stp hs;have t5:=t5.stp hs;have b525:=b525.stp hs rfl;refine Zb (Te ?_);obtain ⟨rfl,rfl⟩:=W9 h;exact hQ _ _ ⟨aM,hfr,xE,yE,i6,nD,t5,zE,b527,oD,b525,iG,vB,dF,eF⟩
       ·refine G0 vF rfl (Zu (Te ?_))
        obtain ⟨rfl,rfl⟩:=W9 h;exact hQ _ _ ⟨kJ,hfr,xE,yE,i6,nD,t5,zE,n8,oD,l9,iG,vB,dF,eF⟩
     ·clear hx
      obtain ⟨bM,hfr,lJ,mJ,nJ,oJ,pJ,qJ,rJ,sJ,vJ,xJ,zJ,cH,gH⟩:=hR;refine Za (aT (I (w64 (o0+(1:Int)))) gH rfl rfl (M (I (w64 (o0+(1:Int)))) ?_));exact O (yK (cC,uC,(w64 (o0+(1:Int)))) _ _ ⟨bM,hfr,lJ,mJ,nJ,oJ,pJ,qJ,rJ,sJ,vJ,xJ,zJ,cH,rfl⟩ h)
    ·refine G0 tF rfl (Th (Gr (Gr (G2 (Te ?_)))))
     obtain ⟨rfl,rfl⟩:=W9 h;exact hQ _ _ ⟨qI,hfr,mE,oE,lB,rE,mB,uE,nB,cD,lD,vE,oB⟩
   ·clear hx
    obtain ⟨cM,hfr,aK,bK,cK,dK,lK,mK,nK,oK,pK,qK,sK⟩:=hR;refine Za (aQ sK (aT (I (w64 (l5+(1:Int)))) rfl rfl rfl (H (I (w64 (l5+(1:Int)))) ?_)));exact O (vK (vC,bD,(w64 (l5+(1:Int)))) _ _ ⟨cM,hfr,aK,bK,cK,dK,lK,mK,nK,oK,pK,qK,rfl⟩ h)
 ·clear hx
  obtain ⟨pN,hfr,tK,uK⟩:=hR;refine Z (aQ tK (H v8 (O (Gb ?_))));obtain ⟨gp531,hs,rp531⟩:=OM.pub uK;have hfr:=hfr.stp hs;obtain rfl:=sinj h;exact ac rfl (rq v8) ⟨_,hfr,rp531⟩
def f51 (x0:List Int) (x1:Int→Int→Option Int):Option (List Int):=
 (f89 (T9 (x0.length:Int))).bind fun y2=>
 (f88 big x0 (0:Int) (x0.length:Int) y2 x1).bind fun y4=>
 some y4
theorem en51:Enters prog 51:=yC func51
theorem wk51 {iI:Nat} {gI:Gh} {wI:World} {x0:List Int} {x1:Int→Int→Option Int} {up0:Value} (mp0:OM iI gI wI 3 x0 up0) {up1:Value} (rp1:Aq prog x1 up1 gI wI) {r:(List Int)} (h:f51 x0 x1=some r):FnM prog 51 #[up0,up1] iI gI wI (fun g w v=>v=.tuple #[]∧OM iI g w 3 r up0):=by
 unfold f51 at h;refine Vd func51 rfl (Nat.le_of_ble_eq_true rfl) fun g0 hm hfr=>?_;have o0:=mp0;replace mp0:=mp0.enter;rw [← hm] at mp0
 replace hm:g0.m=gI.m:=by rw [hm]
 obtain ⟨ff1,fa1,fc1,rfl,fen1,fcl1⟩:=rp1;refine Z (M up0 (Y (I (x0.length:Int)) (F4 underlying25 rfl mp0) (H (I (x0.length:Int)) (O (Za (M up0 (M (I (x0.length:Int)) (M (I (x0.length:Int)) (Y (.int .u64 (T9 (x0.length:Int))) (Ul underlying3 underlying132 rfl) ?_)))))))));obtain ⟨y2,hy2,h⟩:=Z1 h;refine G (aJ (g:=g0) (vs:=[.int .u64 (T9 (x0.length:Int))]) en89 (wk89  hy2) fun g1 w1_ v1 hs hr=>?_);have hfr:=hfr.ext hs;have mp0:=mp0.ext hs;subst hr;refine M (.func (.func ff1) fa1 fc1) ?_;obtain ⟨y4,l5,h⟩:=Z1 h;refine G (V9 (g:=g1) (i:=1) (vs:=[up0,I 0,I (x0.length:Int),I y2,(.func (.func ff1) fa1 fc1)]) en88 (.cons rfl (.cons rfl (.cons rfl (.cons rfl (.cons rfl .nil))))) (wk88 big mp0 (Aq.ch ⟨_,_,_,rfl,fen1,fcl1⟩ hfr.ch) l5) fun g3 w3_ v3 hs hr=>?_);obtain ⟨hrv,b3⟩:=hr;have hfr:=hfr.stp hs;subst hrv;refine Zb ?_;cases h;exact Xs rfl rfl ⟨_,hfr,rfl,o0.back b3⟩
def f52 (x0:Int) (x1:Int) (z0:List Z3):Option Int:=
 (idx z0 x0).bind fun y2=>
 (idx z0 x1).bind fun y7=>
 (f54 y2.From y7.From).bind fun o0=>
 (idx z0 x0).bind fun g8=>
 (idx z0 x1).bind fun l8=>
 (f54 g8.Order l8.Order).bind fun l5=>
 (f53 ([o0,l5]:List Int)).bind fun i6=>
 some i6
theorem en52:Enters prog 52:=yC func52
theorem wk52 {x0:Int} {x1:Int} {z0:List Z3} {pf0:Value} (qf0:PT gI.m wI z0 pf0) {r:Int} (h:f52 x0 x1 z0=some r):Fn prog 52 #[I x0,I x1,pf0] gI wI (fun _ _ v=>v=I r):=by
 unfold f52 at h;refine fnE func52 rfl rfl fun g0 hm hfr=>?_;have qf0:PT g0.m wI z0 pf0:=hm▸qf0;refine Z (H (I 0) (O (Zf (Zs (x:=.tmp 2) isAgg38 sizeOf38 qf0 fun v1 r1 hl1=>?_))));obtain ⟨y2,hy2,h⟩:=Z1 h;have q3:=G1 r1 hy2;have q4:=Zm Ty.1 q3;refine Zs (x:=.tmp 9) isAgg3 sizeOf3 q4 fun v5 r5 lD=>?_;obtain rfl:=Zj.1 r5;refine Zs (x:=.tmp 2) isAgg38 sizeOf38 qf0 fun v6 r6 nD=>?_;obtain ⟨y7,aB,h⟩:=Z1 h;have q8:=G1 r6 aB;have q9:=Zm Ty.1 q8;refine Zs (x:=.tmp 14) isAgg3 sizeOf3 q9 fun iE oD vB=>?_;obtain rfl:=Zj.1 oD;obtain ⟨o0,yB,h⟩:=Z1 h;refine Zs (x:=.tmp 2) isAgg38 sizeOf38 qf0 fun n8 lB zB=>?_;obtain ⟨g8,v8,h⟩:=Z1 h;have mB:=G1 lB v8;have yD:=Zm T6.1 mB;refine Zs (x:=.tmp 20) isAgg3 sizeOf3 yD fun lE zD cC=>?_;obtain rfl:=Zj.1 zD;refine Zs (x:=.tmp 2) isAgg38 sizeOf38 qf0 fun l9 nB uC=>?_;obtain ⟨l8,n9,h⟩:=Z1 h;have oB:=G1 nB n9;have aE:=Zm T6.1 oB;refine Zs (x:=.tmp 25) isAgg3 sizeOf3 aE fun mE bE vC=>?_;obtain rfl:=Zj.1 bE;obtain ⟨l5,bD,h⟩:=Z1 h;obtain ⟨i6,cD,h⟩:=Z1 h;refine ab (g:=g0) (n:=25) [(10,(fun v g w=>v=I o0)),(21,(fun v g w=>v=I l5)),(22,(fun v g w=>RV g.m w ([o0,l5]:List Int) v∧OS 3028 g w 3 ([o0,l5]:List Int) v∧Kx v)),(23,(fun v g w=>v=I i6))] [0,1,2,3,4,5,6,7,8,9,10,11,12,13,14,15,16,17,18,19,20,21,22,23,24] mixed (⟨fun _=>Ww _,fun _=>Ww _,fun _=>Jq Hm (Jq A1 (Ww _)),fun _=>Ww _,trivial⟩) (G3 (c:=v1) rfl rfl .plain xC hl1 rfl (V (I x0) rfl (ai) (V (Gy v1 x0 3) rfl (Zh (α:=Z3) underlying38 sizeOf57 rfl r1 rfl hy2) (V (S (Gy v1 x0 3) 2) rfl (aa Ws (PT.ptr q3)) (G3 (c:=I y2.From) rfl rfl .plain xC lD rfl (G3 (c:=v6) rfl rfl .plain xC nD rfl (V (I x1) rfl (ai) (V (Gy v6 x1 3) rfl (Zh (α:=Z3) underlying38 sizeOf57 rfl r6 rfl aB) (V (S (Gy v6 x1 3) 2) rfl (aa Ws (PT.ptr q8)) (G3 (c:=I y7.From) rfl rfl .plain xC vB rfl (Wd (φ:=fun v g w=>v=I o0) rfl rfl .plain (fun g w hd=>aJ (g:=g) (vs:=[I y2.From,I y7.From]) en54 (wk54  yB) fun g' w' v hs hr=>⟨g',hs,hr⟩) (fun oE hv=>?_))))))))))));obtain ⟨_,_,_,rfl⟩:=hv;refine G3 (c:=n8) rfl rfl .plain xC zB rfl (V (I x0) rfl (ai) (V (Gy n8 x0 3) rfl (Zh (α:=Z3) underlying38 sizeOf57 rfl lB rfl v8) (V (S (Gy n8 x0 3) 0) rfl (aa Kw (PT.ptr mB)) (G3 (c:=I g8.Order) rfl rfl .plain xC cC rfl (G3 (c:=l9) rfl rfl .plain xC uC rfl (V (I x1) rfl (ai) (V (Gy l9 x1 3) rfl (Zh (α:=Z3) underlying38 sizeOf57 rfl nB rfl n9) (V (S (Gy l9 x1 3) 0) rfl (aa Kw (PT.ptr oB)) (G3 (c:=I l8.Order) rfl rfl .plain xC vC rfl (Wd (φ:=fun v g w=>v=I l5) rfl rfl .plain (fun g w hd=>aJ (g:=g) (vs:=[I g8.Order,I l8.Order]) en54 (wk54  bD) fun g' w' v hs hr=>⟨g',hs,hr⟩) (fun rE hv=>?_)))))))))));obtain ⟨_,_,_,rfl⟩:=hv;refine Wd (φ:=fun v g w=>RV g.m w ([o0,l5]:List Int) v∧OS 3028 g w 3 ([o0,l5]:List Int) v∧Kx v) rfl rfl .plain (fun g w hd=>Gd (g:=g) 3028 (xs:=([o0,l5]:List Int)) (vs:=[I o0,I l5]) underlying25 sizeOf3 zeroValue3 rfl rfl (.cons rfl (.cons rfl .nil)) (RVs.cons (Zj.2 rfl) (RVs.cons (Zj.2 rfl) RVs.nil)) rfl rfl fun g' w' v hs o r hxt hfl=>⟨g',hxt,r,o,hfl⟩) (fun t5 hv=>?_);clear hv;refine Wd (φ:=fun v g w=>v=I i6) rfl rfl .plain (fun g w hd=>aJ (g:=g) (vs:=[t5]) en53 (wk53 (Yv (A:=fun g w=>RV g.m w ([o0,l5]:List Int) t5∧OS 3028 g w 3 ([o0,l5]:List Int) t5∧Kx t5) 22 rfl rfl (Q9 hd)).1 cD) fun g' w' v hs hr=>⟨g',hs,hr⟩) (fun uE hv=>?_);obtain ⟨_,_,_,rfl⟩:=hv;refine V (I i6) rfl (Tp rfl) (Jx fun vE xE hall=>?_);have hs:=hall.1;have hfr:=hfr.ext hs;have yE:=(Ts (A:=fun g w=>RV g.m w ([o0,l5]:List Int) t5∧OS 3028 g w 3 ([o0,l5]:List Int) t5∧Kx t5) 22 rfl hall).1
 have o55:=(Ts (A:=fun g w=>RV g.m w ([o0,l5]:List Int) t5∧OS 3028 g w 3 ([o0,l5]:List Int) t5∧Kx t5) 22 rfl hall).2.1;clear hs hall;refine O (Gb ?_);obtain rfl:=sinj h;exact ac rfl (rq (I i6)) ⟨_,hfr,rfl⟩
def f56 (x0:Int) (x1:Int) (x2:List Int):Option Bool:=
 (f81 x2 (fun a0=>f91 a0 x0 x1)).bind fun y4=>
 some (!y4)
theorem en56:Enters prog 56:=yC func56
theorem wk56 {x0:Int} {x1:Int} {x2:List Int} (rp2:RV gI.m wI x2 up2) {r:Bool} (h:f56 x0 x1 x2=some r):Fn prog 56 #[I x0,I x1,up2] gI wI (fun _ _ v=>v=.bool r):=by
 unfold f56 at h;refine fnE func56 rfl rfl fun g0 hm hfr=>?_;have rp2:=RVc hm rp2;refine Z (G (Tw (g:=g0) rfl (Zj.2 rfl) fun g1 w1 p1 hs q1=>?_));have hfr:=hfr.ext hs;have rp2:=rp2.ext hs;refine G (Tw (g:=g1) rfl (Zj.2 rfl) fun g2 w2 p2 hs q2=>?_);have hfr:=hfr.ext hs;have rp2:=rp2.ext hs;have q1:=q1.ext hs;refine H (.bool false) (O (Z (M up2 (Y (.func (.func 91) #[] #[p1,p2]) (W3 (Uu (show X _ _=p1 from rfl) (show X _ _=p2 from rfl))) ?_))));obtain ⟨y4,o0,h⟩:=Z1 h;refine G (aJ (g:=g2) (vs:=[up2,(.func (.func 91) #[] #[p1,p2])]) en81 (wk81 rp2 ⟨91,#[],#[p1,p2],rfl,en91,fun g' w' hch a0 b0 r hu0 hr=>by obtain rfl:=Zj.1 hu0;exact Fn.mono (wk91  (q1.ch hch) (q2.ch hch) hr) fun _ _ _ h=>Tz.2 h⟩ o0) fun g3 w3_ v3 hs hr=>?_);have hfr:=hfr.ext hs;subst hr;refine Y (.bool (!y4)) (Qw rfl) (H (.bool (!y4)) (O (Gb ?_)));cases h;exact ac rfl (rq (.bool (!y4))) ⟨_,hfr,rfl⟩
def f59 (x0:TieHarness):Option Int:=
 jn (σ:=Unit) (fun _=>
  some (0:Int)
  ) fun v8=>
 (f92 (1:Int) (24:Int) ([x0.Hooks]:List Int)).bind fun l8=>
 bif (!l8) then
  some (2:Int)
 else
  bif (decide (((x0.Warps).length:Int)>(96:Int))) then
   some (5:Int)
  else
   bif (((x0.Warps).length:Int)==(0:Int)) then
    some (7:Int)
   else
    (f92 (0:Int) (w64 (x0.Hooks-(1:Int))) x0.Warps).bind fun n8=>
    bif (!n8) then
     some (2:Int)
    else
     v8 ()
theorem en59:Enters prog 59:=yC func59
theorem wk59 {x0:TieHarness} (rp0:RV gI.m wI x0 up0) {r:Int} (h:f59 x0=some r):Fn prog 59 #[up0] gI wI (fun _ _ v=>v=I r):=by
 unfold f59 at h;refine fnE func59 rfl rfl fun g0 hm hfr=>?_;have rp0:=RVc hm rp0;refine Z (G (Tw (g:=g0) rfl rp0 fun g1 w1 p1 hs q1=>?_));have hfr:=hfr.ext hs;refine H (I 0) (O (Zq h (fun (s:Unit) e w=>∃ (g:Gh) ,Fr gI wI g w) (fun X21 v8 l9 h=>?_) ?_))
 ·refine Zr (Z (Y (S p1 0) (aa Xc (PT.ptr q1)) ?_))
  have lB:=Zm Wj.1 q1;refine G (Ga (g:=g1) isAgg3 sizeOf3 rfl lB fun bE mB=>?_);obtain rfl:=Zj.1 mB;refine G (Gd (g:=g1) 3006 (xs:=([x0.Hooks]:List Int)) (vs:=[I x0.Hooks]) underlying25 sizeOf3 zeroValue3 rfl rfl (.cons rfl .nil) (RVs.cons (Zj.2 rfl) RVs.nil) rfl rfl fun nB iE oB hs o24 vB hxt hfl=>?_);have hfr:=hfr.stp hs;have q1:=q1.stp hs;obtain ⟨l8,n9,h⟩:=Z1 h;refine G (aJ (g:=nB) (vs:=[I 1,I 24,oB]) en92 (wk92 vB n9) fun o0 yD lE hs hr=>?_);have hfr:=hfr.ext hs;have q1:=q1.ext hs;subst hr;refine Y (.bool (!l8)) (Qw rfl) (H (.bool (!l8)) (O ?_));rcases Zt h with ⟨l5,h⟩ | ⟨l5,h⟩
  ·refine Gz l5 rfl (Z (H (I 2) (O (Gb (G6 (Gj ?_))))))
   cases h;exact ac rfl (rq (I 2)) ⟨_,hfr,rfl⟩
  ·refine G0 l5 rfl (Z (Y (S p1 1) (aa H0 (PT.ptr q1)) ?_))
   have yB:=Zm Qb.1 q1;refine G (Ga (g:=o0) isAgg25 sizeOf25 rfl yB fun mE zB=>(Y (I ((x0.Warps).length:Int)) (G7 underlying25 rfl zB) (Y (.bool (decide (((x0.Warps).length:Int)>(96:Int)))) (Gp rfl rfl rfl) (Y (.bool (decide (((x0.Warps).length:Int)>(96:Int)))) (Tp rfl) (O ?_)))));rcases Zt h with ⟨t5,h⟩ | ⟨t5,h⟩
   ·refine Gz t5 rfl (Z (H (I 5) (O (Gb (G6 (Gj ?_))))))
    cases h;exact ac rfl (rq (I 5)) ⟨_,hfr,rfl⟩
   ·refine G0 t5 rfl (Z (Y (S p1 1) (aa H0 (PT.ptr q1)) ?_))
    have cC:=Zm Qb.1 q1;refine G (Ga (g:=o0) isAgg25 sizeOf25 rfl cC fun oE uC=>(Y (I ((x0.Warps).length:Int)) (G7 underlying25 rfl uC) (aT (.bool (((x0.Warps).length:Int)==(0:Int))) rfl rfl rfl (H (.bool (((x0.Warps).length:Int)==(0:Int))) (O ?_)))));rcases Zt h with ⟨i6,h⟩ | ⟨i6,h⟩
    ·refine Gz i6 rfl (Z (H (I 7) (O (Gb (G6 (Gj ?_))))))
     cases h;exact ac rfl (rq (I 7)) ⟨_,hfr,rfl⟩
    ·refine G0 i6 rfl (Z (Y (S p1 0) (aa Xc (PT.ptr q1)) ?_))
     have vC:=Zm Wj.1 q1;refine G (Ga (g:=o0) isAgg3 sizeOf3 rfl vC fun rE bD=>?_);obtain rfl:=Zj.1 bD;refine aT (I (w64 (x0.Hooks-(1:Int)))) rfl rfl rfl (Y (S p1 1) (aa H0 (PT.ptr q1)) ?_);have cD:=Zm Qb.1 q1;refine G (Ga (g:=o0) isAgg25 sizeOf25 rfl cD fun lD nD=>?_);obtain ⟨n8,aB,h⟩:=Z1 h;refine G (aJ (g:=o0) (vs:=[I 0,I (w64 (x0.Hooks-(1:Int))),lD]) en92 (wk92 nD aB) fun oD zD uE hs hr=>?_);have hfr:=hfr.ext hs;subst hr;refine Y (.bool (!n8)) (Qw rfl) (H (.bool (!n8)) (O ?_));rcases Zt h with ⟨g8,h⟩ | ⟨g8,h⟩
     ·refine Gz g8 rfl (Z (H (I 2) (O (Gb (G6 (Gj ?_))))))
      cases h;exact ac rfl (rq (I 2)) ⟨_,hfr,rfl⟩
     ·refine G0 g8 rfl ?_
      exact Zu (Te (Zd (l9 () _ _ ⟨oD,hfr⟩ h)))
 ·rintro _ aE vE ⟨xE,hfr⟩ h
  refine Z (H (I 0) (O (Gb ?_)));cases h;exact ac rfl (rq (I 0)) ⟨_,hfr,rfl⟩
def f72 (x0:List Int) (x1:Int):Option (List Int):=
 Option.bind (α:=Unit) (
  bif (decide (x1<(0:Int))) then
   none
  else
   some ()
  ) fun (_:Unit)=>
 (f107 (⟨(T9 (x0.length:Int))⟩:U64) (⟨(T9 x1)⟩:U64)).bind fun y5=>
 Option.bind (α:=Unit) (
  Option.bind (α:=Bool) (
   bif (decide ((y5.1).n>(0:Int))) then
    some true
   else
    some (decide ((y5.2).n>(9223372036854775807:Int)))
   ) fun i6=>
  bif i6 then
   none
  else
   some ()
  ) fun (_:Unit)=>
 (mks 8 (0:Int) (w64 ((y5.2).n))).bind fun oB=>
 Option.bind (α:=(List Int)) (
  lp (σ:=(List Int) × Int) (fun bE (l5,o0)=>
   jn (σ:=Unit) (fun _=>
    (cut l5 o0 (l5.length:Int)).bind fun n8=>
    (cut l5 0 o0).bind fun y40=>
    bE ((cpy l5 o0 n8 y40),(w64 (o0+((min y40.length n8.length:Nat):Int))))
    ) fun k33=>
   bif (decide (o0<(l5.length:Int))) then
    k33 ()
   else
    some l5
   ) big ((cpy oB 0 oB x0),((min x0.length oB.length:Nat):Int))
  ) fun l9=>
 some l9
theorem en72:Enters prog 72:=yC func72
theorem wk72 {x0:List Int} {x1:Int} (rp0:RV gI.m wI x0 up0) {r:(List Int)} (h:f72 x0 x1=some r):Fn prog 72 #[up0,I x1] gI wI (fun m w v=>RV m w r v):=by
 unfold f72 at h;refine fnE func72 rfl rfl fun g0 hm hfr=>?_;have rp0:=RVc hm rp0;refine Z (H (.slice none 0 0) (O ?_));obtain ⟨_,hx,h⟩:=Z1 h;refine Gn (xD gI wI fun e w g=>e 0=up0∧RV g.m w (x0:List Int) up0∧e 1=I x1) (fun Q' hQ=>?_) (fun yF w3 hR=>?_)
 ·replace h:=hx
  clear hx;refine Z (M (I x1) (aT (.bool (decide (x1<(0:Int)))) rfl rfl rfl (O ?_)));rcases Zt h with ⟨hc2,h⟩ | ⟨hc2,h⟩
  ·refine Gz hc2 rfl (Za ?_)
   cases h
  ·refine G0 hc2 rfl (Zu ?_)
   cases h;exact hQ _ _ ⟨g0,hfr,rfl,rp0,rfl⟩
 ·clear hx
  obtain ⟨g3,hfr,yB,v8,mE⟩:=hR;refine Z (aQ yB (Y (I (x0.length:Int)) (G7 underlying25 rfl v8) (Y (.int .u64 (T9 (x0.length:Int))) (Ul underlying3 underlying132 rfl) (aQ mE (Y (.int .u64 (T9 x1)) (Ul underlying3 underlying132 rfl) ?_)))));obtain ⟨y5,hy5,h⟩:=Z1 h;refine G (aJ (g:=g3) (vs:=[.int .u64 (T9 (x0.length:Int)),.int .u64 (T9 x1)]) en107 (wk107  hy5) fun g4 w4_ v4 hs hr=>?_);have hfr:=hfr.ext hs;have v8:=v8.ext hs;obtain ⟨eF,rF,rfl,rfl,rfl⟩:=hr;refine M (.tuple #[.int .u64 ((y5.1).n),.int .u64 ((y5.2).n)]) (Y (.int .u64 ((y5.1).n)) (Zi rfl rfl) (Y (.int .u64 ((y5.2).n)) (Zi rfl rfl) (H (.int .u64 ((y5.1).n)) (H (.int .u64 ((y5.2).n)) (O ?_)))));obtain ⟨_,hx,h⟩:=Z1 h;refine Gn (xD gI wI fun e w g=>e 0=up0∧RV g.m w (x0:List Int) up0∧e 6=.int .u64 ((y5.2).n)) (fun Q' hQ=>?_) (fun sF aG hR=>?_)
  ·replace h:=hx
   clear hx;obtain ⟨i6,hx,h⟩:=Z1 h;refine Gn (xD gI wI fun e w g=>e 0=up0∧RV g.m w (x0:List Int) up0∧e 6=.int .u64 ((y5.2).n)∧e 26=.bool i6) (fun Q' hQ=>?_) (fun tF bG hR=>?_)
   ·replace h:=hx
    clear hx;refine Za (M (.int .u64 ((y5.1).n)) (Y (.bool (decide ((y5.1).n>(0:Int)))) (P0 rfl rfl rfl) (M (.bool (decide ((y5.1).n>(0:Int)))) ?_)));rcases Zt h with ⟨g8,h⟩ | ⟨g8,h⟩
    ·refine Zz rfl rfl g8 rfl rfl (Zz rfl rfl g8 rfl rfl (Y (.bool true) (ae (b:=(decide ((y5.1).n>(0:Int)))) (Tg g8 rfl)) (Zb ?_)))
     cases h;exact hQ _ _ ⟨g4,hfr,yB,v8,rfl,rfl⟩
    ·refine ag (.int .u64 ((y5.2).n)) (ai) rfl rfl g8 (ag (.bool (decide ((y5.2).n>(9223372036854775807:Int)))) (P0 rfl rfl rfl) rfl rfl g8 (Y (.bool (decide ((y5.2).n>(9223372036854775807:Int)))) (ae (b:=(decide ((y5.1).n>(0:Int)))) (Td g8 rfl)) (Zb ?_)))
     cases h;exact hQ _ _ ⟨g4,hfr,yB,v8,rfl,rfl⟩
   ·clear hx
    obtain ⟨vE,hfr,cD,lD,nD,vB⟩:=hR;rcases Zt h with ⟨zB,h⟩ | ⟨zB,h⟩
    ·refine Ta (Eq.trans (show X _ _=.bool i6 from vB) (congrArg Value.bool zB)) (Za ?_)
     cases h
    ·refine Gv (Eq.trans (show X _ _=.bool i6 from vB) (congrArg Value.bool zB)) (Zu ?_)
     cases h;exact hQ _ _ ⟨vE,hfr,cD,lD,nD⟩
  ·clear hx
   obtain ⟨xE,hfr,oD,n9,yD⟩:=hR;refine Z (aQ yD (Y (I (w64 ((y5.2).n))) (A3 underlying132 underlying3 rfl) ?_));obtain ⟨oB,oE,h⟩:=Z1 h;refine G (Ye (g:=xE) 9030 (0:Int) rfl underlying25 Jf rfl (fun _ _=>rfl) rfl rfl oE fun yE cG t5 hs b16=>?_);have hfr:=hfr.stp hs;have n9:=n9.stp hs;refine H t5 (O (Z (M t5 (aQ oD (G (D_copyM (g:=yE) (α:=Int) underlying25 Jf rfl b16 rfl n9 fun zE eG hs b17=>?_))))));have hfr:=hfr.stp hs;refine H (I ((min x0.length oB.length:Nat):Int)) (O ?_);obtain ⟨l9,hx,h⟩:=Z1 h;refine Gn (xD gI wI fun e w g=>e 7=t5∧OM 9030 g w 3 (l9:List Int) t5) (fun Q' hQ=>?_) (fun uF gG hR=>?_)
   ·replace h:=hx
    clear hx;refine Zr (Qz h (fun (s:(List Int) × Int) e w=>∃ (g:Gh) ,Fr gI wI g w∧e 7=t5∧OM 9030 g w 3 (s.1:List Int) t5∧e 8=I s.2) ⟨zE,hfr,rfl,b17,rfl⟩ (fun X30 bE rE=>?_));rintro ⟨l5,o0⟩ vF iG ⟨iE,hfr,aB,lB,uC⟩ h;refine Zq h (fun (s:Unit)=>xD gI wI fun e w g=>e 7=t5∧OM 9030 g w 3 (l5:List Int) t5∧e 8=I o0) (fun X33 k33 uE h=>?_) ?_
    ·refine Z (aQ uC (aQ aB (Y (I (l5.length:Int)) (F4 underlying25 rfl lB) (aT (.bool (decide (o0<(l5.length:Int)))) rfl rfl rfl (O ?_)))))
     rcases Zt h with ⟨cC,h⟩ | ⟨cC,h⟩
     ·refine Gz cC rfl ?_
      exact Zu (Zd (uE () _ _ ⟨iE,hfr,aB,lB,uC⟩ h))
     ·refine G0 cC rfl (Th (Gr (Gr (G2 ?_))))
      cases h;exact hQ _ _ ⟨iE,hfr,aB,lB⟩
    ·rintro _ xF cF ⟨lE,hfr,mB,l8,nB⟩ h
     refine Zr ?_;obtain ⟨n8,vC,h⟩:=Z1 h;obtain ⟨y40,bD,h⟩:=Z1 h;refine D1 (g:=lE) (w:=cF) (n:=8) [0,1,2,3,4,5,6] [] [0,1,2,3,4,5,6,7] rfl mixed (by kernel_rfl) fun w_c38 hs hlt=>?_;have hfr:=hfr.ext hs;have l8:=l8.ext hs;clear hs;refine Qq (c:=I o0) rfl rfl .plain (Zk nB) (Qq (c:=t5) rfl rfl .plain (Zk mB) (Qq (c:=I o0) rfl rfl .plain (Zk nB) (Qq (c:=(Ky t5 (Int.toNat o0) (Int.toNat (l5.length:Int)) 1)) rfl rfl .plain (P_cutM (α:=Int) underlying25 sizeOf3 rfl (OM.hdr l8) rfl rfl vC) (Qq (c:=t5) rfl rfl .plain (Zk mB) (Qq (c:=I o0) rfl rfl .plain (Zk nB) (Qq (c:=(Ky t5 0 (Int.toNat o0) 1)) rfl rfl .plain (P_cutM (α:=Int) underlying25 sizeOf3 rfl (OM.hdr l8) rfl rfl bD) (Sl rfl rfl .plain (Eb (g:=lE) (α:=Int) underlying25 Jf rfl l8 rfl vC bD fun dF jG hs b41=>?_))))))));have hfr:=hfr.stp hs;have hlt:=hlt.stp hs;refine ⟨hlt.toW,?_⟩;refine Ri ?_;clear hlt;refine Y (I (w64 (o0+((min y40.length n8.length:Nat):Int)))) (Gp rfl rfl rfl) (Y (I (w64 (o0+((min y40.length n8.length:Nat):Int)))) (Tp rfl) ?_);exact Zb (Te (Zd (rE ((cpy l5 o0 n8 y40),(w64 (o0+((min y40.length n8.length:Nat):Int)))) _ _ ⟨dF,hfr,mB,b41,rfl⟩ h)))
   ·clear hx
    obtain ⟨kG,hfr,zD,aE⟩:=hR;refine Z (aQ zD ?_);obtain ⟨gp43,hs,rp43⟩:=OM.pub aE;have hfr:=hfr.stp hs;refine H t5 (O (Gb ?_));obtain rfl:=sinj h;exact ac rfl (rq t5) ⟨_,hfr,rp43⟩
def f74 (x0:Int) (x1:Int→Option Bool):Option ((List Int) × Bool):=
 Option.bind (α:=(List Int) × Bool) (
  (H2 (1:Int) x0).bind fun uC=>
  lp (σ:=(List Int) × Bool × Int) (fun xE (t5,v8,o0)=>
   bif (decide (o0<uC)) then
    Option.bind (α:=(List Int) × Bool) (
     (f49 o0).bind fun l8=>
     jn (σ:=Unit) (fun _=>
      some (l8,true)
      ) fun yE=>
     Option.bind (α:=Bool) (
      bif v8 then
       bif (decide ((l8.length:Int)>(t5.length:Int))) then
        some true
       else
        bif ((l8.length:Int)==(t5.length:Int)) then
         (f110 l8 t5).bind fun cC=>
         bif (decide (cC>(0:Int))) then
          some true
         else
          (x1 o0).bind fun yD=>
          some (!yD)
        else
         (x1 o0).bind fun zD=>
         some (!zD)
      else
       (x1 o0).bind fun aE=>
       some (!aE)
      ) fun yB=>
     bif yB then
      some (t5,v8)
     else
      yE ()
     ) fun (bD,cD)=>
    xE (bD,cD,(w64 (o0+(1:Int))))
   else
    some (t5,v8)
   ) big ([],false,(0:Int))
  ) fun (lD,vC)=>
 some (lD,vC)
theorem en74:Enters prog 74:=yC func74
theorem wk74 {x0:Int} {x1:Int→Option Bool} (rp1:Ho prog x1 up1 gI wI) {r:(List Int) × Bool} (h:f74 x0 x1=some r):Fn prog 74 #[I x0,up1] gI wI (fun m w v=>∃ y0 y1,v=.tuple #[y0,y1]∧RV m w r.1 y0∧y1=.bool r.2):=by
 unfold f74 at h;refine fnE func74 rfl rfl fun g0 hm hfr=>?_;obtain ⟨ff1,fa1,fc1,rfl,fen1,fcl1⟩:=rp1;refine Z (H (.slice none 0 0) (H (.bool false) (O ?_)));obtain ⟨⟨lD,vC⟩,hx,h⟩:=Z1 h;refine Gn (fun e w=>∃ (g:Gh) (v4:Value),Fr gI wI g w∧e 4=v4∧RV g.m w (lD:List Int) v4∧e 5=.bool vC) (fun Q' hQ=>?_) (fun pH zH hR=>?_)
 ·replace h:=hx
  clear hx;refine Z (M (I x0) ?_);obtain ⟨uC,sG,h⟩:=Z1 h;refine Y (I uC) (Gp rfl rfl (congrArg (Option.map (Value.int .i64)) sG)) (M (I 0) (O (Zr (Qz h (fun (s:(List Int) × Bool × Int) e w=>∃ (g:Gh) (v4:Value),Fr gI wI g w∧e 1=(.func (.func ff1) fa1 fc1)∧e 4=v4∧RV g.m w (s.1:List Int) v4∧e 5=.bool (s.2.1)∧e 9=I (uC)∧e 10=I s.2.2) ⟨g0,(.slice none 0 0),hfr,rfl,rfl,T8,rfl,rfl,rfl⟩ (fun X352 xE xG=>?_)))));rintro ⟨t5,v8,o0⟩ qH aI ⟨zE,aB,hfr,lB,l9,l5,oB,zB,n9⟩ h;refine Z (aT (.bool (decide (o0<uC))) n9 zB rfl (O (Zf ?_)));rcases Zt h with ⟨bE,h⟩ | ⟨bE,h⟩
  ·refine Gz bE rfl (Zu (Zd ?_))
   obtain ⟨⟨bD,cD⟩,hx,h⟩:=Z1 h;refine Gn (fun e w=>∃ (g:Gh) (v4:Value),Fr gI wI g w∧e 1=(.func (.func ff1) fa1 fc1)∧e 4=v4∧RV g.m w (bD:List Int) v4∧e 5=.bool (cD)∧e 9=I (uC)∧e 10=I o0) (fun Q' hQ=>?_) (fun sH bI hR=>?_)
   ·replace h:=hx
    clear hx;refine Zr (Z (aQ n9 (H (I o0) (O (Z (M (I o0) ?_))))));obtain ⟨l8,yG,h⟩:=Z1 h;refine G (aJ (g:=zE) (vs:=[I o0]) en49 (wk49  yG) fun iE tH vB hs hr=>?_);have hfr:=hfr.ext hs;have l5:=l5.ext hs;have n8:=hr;refine H vB (O (Zq h (fun (s:Unit)=>xD gI wI fun e w g=>e 1=(.func (.func ff1) fa1 fc1)∧e 7=vB∧RV g.m w (l8:List Int) vB∧e 9=I (uC)∧e 10=I o0) (fun X439 yE zG h=>?_) ?_))
    ·obtain ⟨yB,hx,h⟩:=Z1 h
     refine Gn (xD gI wI fun e w g=>e 1=(.func (.func ff1) fa1 fc1)∧e 4=aB∧RV g.m w (t5:List Int) aB∧e 5=.bool (v8)∧e 7=vB∧RV g.m w (l8:List Int) vB∧e 9=I (uC)∧e 10=I (o0)∧e 41=.bool yB) (fun Q' hQ=>?_) (fun uH dI hR=>?_)
     ·replace h:=hx
      clear hx;refine Za (aQ oB (M (.bool v8) ?_));rcases Zt h with ⟨i6,h⟩ | ⟨i6,h⟩
      ·refine ag vB (ai) rfl rfl i6 (ag (I (l8.length:Int)) (G7 underlying25 rfl n8) rfl rfl i6 (ag aB (Zk l9) rfl rfl i6 (ag (I (t5.length:Int)) (G7 underlying25 rfl l5) rfl rfl i6 (ag (.bool (decide ((l8.length:Int)>(t5.length:Int)))) (Gp rfl rfl rfl) rfl rfl i6 (ag (.bool (decide ((l8.length:Int)>(t5.length:Int)))) (ai) rfl rfl i6 ?_)))))
       rcases Zt h with ⟨g8,h⟩ | ⟨g8,h⟩
       ·refine Zz rfl rfl g8 rfl rfl ?_
        iterate 5 refine Zz rfl rfl g8 rfl rfl ?_
        refine Q5 4 rfl (Zz rfl rfl g8 rfl rfl (ag (.bool true) (ae (b:=(decide ((l8.length:Int)>(t5.length:Int)))) (Tg g8 rfl)) rfl rfl i6 (Y (.bool true) (ae (b:=v8) (Tg i6 rfl)) (Q5 6 rfl (Zb ?_)))));cases h;exact hQ _ _ ⟨iE,hfr,lB,l9,l5,oB,rfl,n8,zB,n9,rfl⟩
       ·refine ag vB (ai) rfl rfl g8 (ag (I (l8.length:Int)) (G7 underlying25 rfl n8) rfl rfl g8 (ag aB (Zk l9) rfl rfl g8 (ag (I (t5.length:Int)) (G7 underlying25 rfl l5) rfl rfl g8 (ag (.bool ((l8.length:Int)==(t5.length:Int))) (Gp rfl rfl rfl) rfl rfl g8 (ag (.bool ((l8.length:Int)==(t5.length:Int))) (ai) rfl rfl g8 ?_)))))
        rcases Zt h with ⟨mB,h⟩ | ⟨mB,h⟩
        ·refine ag vB (ai) rfl rfl mB (ag aB (Zk l9) rfl rfl mB ?_)
         obtain ⟨cC,aH,h⟩:=Z1 h;refine Ze (.yes2 rfl rfl mB) rfl (aJ (g:=iE) (vs:=[vB,aB]) en110 (wk110 n8 l5 aH) fun cF xH iI hs hr=>?_);have hfr:=hfr.ext hs;have l5:=l5.ext hs;have n8:=n8.ext hs;subst hr;refine ag (.bool (decide (cC>(0:Int)))) (Gp rfl rfl rfl) rfl rfl mB (ag (.bool (decide (cC>(0:Int)))) (ae (b:=((l8.length:Int)==(t5.length:Int))) (Tg mB rfl)) rfl rfl g8 (ag (.bool (decide (cC>(0:Int)))) (ae (b:=(decide ((l8.length:Int)>(t5.length:Int)))) (Td g8 rfl)) rfl rfl i6 (Y (.bool (decide (cC>(0:Int)))) (ae (b:=v8) (Tg i6 rfl)) (M (.bool (decide (cC>(0:Int)))) ?_))));rcases Zt h with ⟨nB,h⟩ | ⟨nB,h⟩
         ·refine Zz rfl rfl nB rfl rfl ?_
          iterate 3 refine Zz rfl rfl nB rfl rfl ?_
          refine Y (.bool true) (ae (b:=(decide (cC>(0:Int)))) (Tg nB rfl)) (Zb ?_);cases h;exact hQ _ _ ⟨cF,hfr,lB,l9,l5,oB,rfl,n8,zB,n9,rfl⟩
         ·refine ag (.func (.func ff1) fa1 fc1) (Zk lB) rfl rfl nB (ag (I o0) (ai) rfl rfl nB ?_)
          obtain ⟨yD,cH,h⟩:=Z1 h;refine Ze (.yes2 rfl rfl nB) rfl (K9 (g:=cF) (vs:=[I o0]) rfl fen1 (.cons rfl .nil) (fcl1 _ _ hfr.ch _ _ _  (Zj.2 rfl) cH) fun kH jI kI hs hr=>?_);have hfr:=hfr.ext hs;have l5:=l5.ext hs;have n8:=n8.ext hs;obtain rfl:=Tz.1 hr;refine ag (.bool (!yD)) (Qw rfl) rfl rfl nB (Y (.bool (!yD)) (ae (b:=(decide (cC>(0:Int)))) (Td nB rfl)) (Zb ?_));cases h;exact hQ _ _ ⟨kH,hfr,lB,l9,l5,oB,rfl,n8,zB,n9,rfl⟩
        ·refine Zz rfl rfl mB rfl rfl ?_
         iterate 3 refine Zz rfl rfl mB rfl rfl ?_
         refine ag (.bool false) (ae (b:=((l8.length:Int)==(t5.length:Int))) (Td mB rfl)) rfl rfl g8 (ag (.bool false) (ae (b:=(decide ((l8.length:Int)>(t5.length:Int)))) (Td g8 rfl)) rfl rfl i6 (Y (.bool false) (ae (b:=v8) (Tg i6 rfl)) (M (.bool false) (ag (.func (.func ff1) fa1 fc1) (Zk lB) rfl rfl rfl (ag (I o0) (ai) rfl rfl rfl ?_)))));obtain ⟨zD,gH,h⟩:=Z1 h;refine Ze (.yes2 rfl rfl rfl) rfl (K9 (g:=iE) (vs:=[I o0]) rfl fen1 (.cons rfl .nil) (fcl1 _ _ hfr.ch _ _ _  (Zj.2 rfl) gH) fun lH lI mI hs hr=>?_);have hfr:=hfr.ext hs;have l5:=l5.ext hs;have n8:=n8.ext hs;obtain rfl:=Tz.1 hr;refine ag (.bool (!zD)) (Qw rfl) rfl rfl rfl (Y (.bool (!zD)) (ae (b:=false) (Td rfl rfl)) (Zb ?_));cases h;exact hQ _ _ ⟨lH,hfr,lB,l9,l5,oB,rfl,n8,zB,n9,rfl⟩
      ·refine Zz rfl rfl i6 rfl rfl ?_
       iterate 5 refine Zz rfl rfl i6 rfl rfl ?_
       refine Q5 11 rfl (Zz rfl rfl i6 rfl rfl (Y (.bool false) (ae (b:=v8) (Td i6 rfl)) (M (.bool false) (ag (.func (.func ff1) fa1 fc1) (Zk lB) rfl rfl rfl (ag (I o0) (ai) rfl rfl rfl ?_)))));obtain ⟨aE,jH,h⟩:=Z1 h;refine Ze (.yes2 rfl rfl rfl) rfl (K9 (g:=iE) (vs:=[I o0]) rfl fen1 (.cons rfl .nil) (fcl1 _ _ hfr.ch _ _ _  (Zj.2 rfl) jH) fun mH nI pI hs hr=>?_);have hfr:=hfr.ext hs;have l5:=l5.ext hs;have n8:=n8.ext hs;obtain rfl:=Tz.1 hr;refine ag (.bool (!aE)) (Qw rfl) rfl rfl rfl (Y (.bool (!aE)) (ae (b:=false) (Td rfl rfl)) (Zb ?_));cases h;exact hQ _ _ ⟨mH,hfr,lB,l9,l5,oB,rfl,n8,zB,n9,rfl⟩
     ·clear hx
      obtain ⟨dF,hfr,mE,eF,rF,sF,tF,uF,oE,nD,oD⟩:=hR;rcases Zt h with ⟨lE,h⟩ | ⟨lE,h⟩
      ·refine Ta (Eq.trans (show X _ _=.bool yB from oD) (congrArg Value.bool lE)) (Th (Gr (G2 ?_)))
       obtain ⟨rfl,rfl⟩:=W9 h;exact hQ _ _ ⟨dF,aB,hfr,mE,eF,rF,sF,oE,nD⟩
      ·refine Gv (Eq.trans (show X _ _=.bool yB from oD) (congrArg Value.bool lE)) ?_
       exact Zu (Zd (zG () _ _ ⟨dF,hfr,mE,tF,uF,oE,nD⟩ h))
    ·rintro _ yH qI ⟨nH,hfr,vF,xF,yF,aG,uE⟩ h
     refine Za (aQ xF (H vB (H (.bool true) (Zb (Te ?_)))));obtain ⟨rfl,rfl⟩:=W9 h;exact hQ _ _ ⟨nH,vB,hfr,vF,rfl,yF,rfl,aG,uE⟩
   ·clear hx
    obtain ⟨oH,bG,hfr,cG,eG,gG,iG,jG,vE⟩:=hR;refine Za (aT (I (w64 (o0+(1:Int)))) vE rfl rfl (M (I (w64 (o0+(1:Int)))) ?_));exact O (xG (bD,cD,(w64 (o0+(1:Int)))) _ _ ⟨oH,bG,hfr,cG,eG,gG,iG,jG,rfl⟩ h)
  ·refine G0 bE rfl (Th (Gr (Gr (G2 ?_))))
   obtain ⟨rfl,rfl⟩:=W9 h;exact hQ _ _ ⟨zE,aB,hfr,l9,l5,oB⟩
 ·clear hx
  obtain ⟨sI,rE,hfr,kG,lG,mG⟩:=hR;refine Z (aQ kG (aQ mG (H rE (H (.bool vC) (O (Gb ?_))))));obtain rfl:=sinj h;exact H9 rfl rfl (rq rE) (rq (.bool vC)) ⟨_,hfr,_,_,rfl,lG,rfl⟩
def f97 (x0:List Str):Option Bool:=
 jn (σ:=Unit) (fun _=>
  some true
  ) fun k53=>
 lp (σ:=Int) (fun k54 o0=>
  jn (σ:=Unit) (fun _=>
   jn (σ:=Unit) (fun _=>
    k54 (w64 (o0-(1:Int)))
    ) fun yB=>
   (idx x0 o0).bind fun y84=>
   (idx x0 (w64 (o0-(1:Int)))).bind fun n8=>
   (f134 y84 n8).bind fun v8=>
   bif v8 then
    some false
   else
    yB ()
   ) fun k57=>
  bif (decide (o0>(0:Int))) then
   k57 ()
  else
   k53 ()
  ) big (w64 ((x0.length:Int)-(1:Int)))
theorem en97:Enters prog 97:=yC func97
theorem wk97 {x0:List Str} (rp0:RV gI.m wI x0 up0) {r:Bool} (h:f97 x0=some r):Fn prog 97 #[up0] gI wI (fun _ _ v=>v=.bool r):=by
 unfold f97 at h;refine fnE func97 rfl rfl fun g0 hm hfr=>?_;have rp0:=RVc hm rp0;refine Z (H (.bool false) (O (Zq h (fun (s:Unit) e w=>∃ (g:Gh) ,Fr gI wI g w) (fun X53 k53 cC h=>?_) ?_)))
 ·refine Z (M up0 (Y (I (x0.length:Int)) (G7 underlying74 rfl rp0) (aT (I (w64 ((x0.length:Int)-(1:Int)))) rfl rfl rfl (H (I (w64 ((x0.length:Int)-(1:Int)))) (O (Zr (Qz h (fun (s:Int)=>xD gI wI fun e w g=>e 0=up0∧RV g.m w (x0:List Str) up0∧e 3=I s) ⟨g0,hfr,rfl,rp0,rfl⟩ (fun X54 k54 uC=>?_))))))))
  rintro o0 rE zE ⟨zB,hfr,oB,vB,l9⟩ h;refine Zq h (fun (s:Unit)=>xD gI wI fun e w g=>e 0=up0∧RV g.m w (x0:List Str) up0∧e 3=I o0) (fun X57 k57 vC h=>?_) ?_
  ·refine Z (aQ l9 (aT (.bool (decide (o0>(0:Int)))) rfl rfl rfl (O ?_)))
   rcases Zt h with ⟨l8,h⟩ | ⟨l8,h⟩
   ·refine Gz l8 rfl ?_
    exact Zu (Zd (vC () _ _ ⟨zB,hfr,oB,vB,l9⟩ h))
   ·refine G0 l8 rfl (Th (Gr (Gr (G2 ?_))))
    exact Zd (cC () _ _ ⟨zB,hfr⟩ h)
  ·rintro _ uE cF ⟨yD,hfr,t5,l5,i6⟩ h
   refine Zq h (fun (s:Unit)=>xD gI wI fun e w g=>e 0=up0∧RV g.m w (x0:List Str) up0∧e 3=I o0) (fun X83 yB bD h=>?_) ?_
   ·refine Zr (Zf ?_)
    obtain ⟨y84,n9,h⟩:=Z1 h;have zD:=G1 l5 n9;refine Zs (x:=.tmp 13) isAgg9 sizeOf9 zD fun dF aE cD=>?_;obtain rfl:=K7.1 aE;obtain ⟨n8,aB,h⟩:=Z1 h;have bE:=G1 l5 aB;refine Zs (x:=.tmp 18) isAgg9 sizeOf9 bE fun eF iE lD=>?_;obtain rfl:=K7.1 iE;obtain ⟨v8,nD,h⟩:=Z1 h;refine ab (g:=yD) (n:=10) [(9,(fun v g w=>v=.bool v8))] [0,1,2,3,4,5,6,7,8,9] mixed (⟨fun _=>Ww _,trivial⟩) (V up0 rfl (Zk t5) (V (I o0) rfl (Zk i6) (V (Gy up0 o0 1) rfl (Zh (α:=Str) underlying74 sizeOf9 rfl l5 rfl n9) (G3 (c:=Str.v y84) rfl rfl .plain xC cD rfl (V up0 rfl (Zk t5) (V (I o0) rfl (Zk i6) (V (I (w64 (o0-(1:Int)))) rfl (Gp rfl rfl rfl) (V (Gy up0 (w64 (o0-(1:Int))) 1) rfl (Zh (α:=Str) underlying74 sizeOf9 rfl l5 rfl aB) (G3 (c:=Str.v n8) rfl rfl .plain xC lD rfl (Wd (φ:=fun v g w=>v=.bool v8) rfl rfl .plain (fun g w hd=>aJ (g:=g) (vs:=[Str.v y84,Str.v n8]) en134 (wk134  nD) fun g' w' v hs hr=>⟨g',hs,hr⟩) (fun rF hv=>?_)))))))))));obtain ⟨_,_,_,rfl⟩:=hv;refine Ki fun lE sF hs=>?_;have hfr:=hfr.ext hs;have l5:=l5.ext hs;clear hs;refine O ?_;rcases Zt h with ⟨g8,h⟩ | ⟨g8,h⟩
    ·refine Gz g8 rfl (Z (H (.bool false) (O (Gb (G6 (Gj (Gj (G6 (Gj ?_)))))))))
     obtain rfl:=sinj h;exact ac rfl (rq (.bool false)) ⟨_,hfr,rfl⟩
    ·refine G0 g8 rfl ?_
     exact Zu (Te (Zd (bD () _ _ ⟨lE,hfr,t5,l5,i6⟩ h)))
   ·rintro _ mE vE ⟨oD,hfr,lB,mB,nB⟩ h
    refine Za (aQ nB (aT (I (w64 (o0-(1:Int)))) rfl rfl rfl (H (I (w64 (o0-(1:Int)))) ?_)));exact O (uC (w64 (o0-(1:Int))) _ _ ⟨oD,hfr,lB,mB,rfl⟩ h)
 ·rintro _ oE xE ⟨yE,hfr⟩ h
  refine Z (H (.bool true) (O (Gb ?_)));obtain rfl:=sinj h;exact ac rfl (rq (.bool true)) ⟨_,hfr,rfl⟩
def f108 (x0:Design):Option Int:=
 jn (σ:=Unit) (fun _=>
  some (0:Int)
  ) fun n8=>
 (f149 (1:Int) (24:Int) ([x0.Hooks]:List Int)).bind fun y56=>
 bif (!y56) then
  some (2:Int)
 else
  bif (decide (((x0.Rows).length:Int)>(60:Int))) then
   some (5:Int)
  else
   bif (((x0.Rows).length:Int)==(0:Int)) then
    some (7:Int)
   else
    (H2 (1:Int) x0.Hooks).bind fun l5=>
    (f149 (0:Int) (w64 (l5-(1:Int))) x0.Rows).bind fun y71=>
    bif (!y71) then
     some (2:Int)
    else
     n8 ()
theorem en108:Enters prog 108:=yC func108
theorem wk108 {x0:Design} (rp0:RV gI.m wI x0 up0) {r:Int} (h:f108 x0=some r):Fn prog 108 #[up0] gI wI (fun _ _ v=>v=I r):=by
 unfold f108 at h;refine fnE func108 rfl rfl fun g0 hm hfr=>?_;have rp0:=RVc hm rp0;refine Z (G (Tw (g:=g0) rfl rp0 fun g1 w1 p1 hs q1=>?_));have hfr:=hfr.ext hs;refine H (I 0) (O (Zq h (fun (s:Unit) e w=>∃ (g:Gh) ,Fr gI wI g w) (fun X51 n8 l9 h=>?_) ?_))
 ·refine Zr (Z (Y (S p1 0) (aa Y9 (PT.ptr q1)) ?_))
  have oB:=Zm Wu.1 q1;refine G (Ga (g:=g1) isAgg3 sizeOf3 rfl oB fun mE vB=>?_);obtain rfl:=Zj.1 vB;refine G (Gd (g:=g1) 3006 (xs:=([x0.Hooks]:List Int)) (vs:=[I x0.Hooks]) underlying25 sizeOf3 zeroValue3 rfl rfl (.cons rfl .nil) (RVs.cons (Zj.2 rfl) RVs.nil) rfl rfl fun yB oE zB hs o54 cC hxt hfl=>?_);have hfr:=hfr.stp hs;have q1:=q1.stp hs;obtain ⟨y56,n9,h⟩:=Z1 h;refine G (aJ (g:=yB) (vs:=[I 1,I 24,zB]) en149 (wk149 cC n9) fun l8 bE rE hs hr=>?_);have hfr:=hfr.ext hs;have q1:=q1.ext hs;subst hr;refine Y (.bool (!y56)) (Qw rfl) (H (.bool (!y56)) (O ?_));rcases Zt h with ⟨t5,h⟩ | ⟨t5,h⟩
  ·refine Gz t5 rfl (Z (H (I 2) (O (Gb (G6 (Gj ?_))))))
   cases h;exact ac rfl (rq (I 2)) ⟨_,hfr,rfl⟩
  ·refine G0 t5 rfl (Z (Y (S p1 1) (aa Yy (PT.ptr q1)) ?_))
   have uC:=Zm Wy.1 q1;refine G (Ga (g:=l8) isAgg25 sizeOf25 rfl uC fun uE vC=>(Y (I ((x0.Rows).length:Int)) (G7 underlying25 rfl vC) (Y (.bool (decide (((x0.Rows).length:Int)>(60:Int)))) (Gp rfl rfl rfl) (Y (.bool (decide (((x0.Rows).length:Int)>(60:Int)))) (Tp rfl) (O ?_)))));rcases Zt h with ⟨i6,h⟩ | ⟨i6,h⟩
   ·refine Gz i6 rfl (Z (H (I 5) (O (Gb (G6 (Gj ?_))))))
    cases h;exact ac rfl (rq (I 5)) ⟨_,hfr,rfl⟩
   ·refine G0 i6 rfl (Z (Y (S p1 1) (aa Yy (PT.ptr q1)) ?_))
    have bD:=Zm Wy.1 q1;refine G (Ga (g:=l8) isAgg25 sizeOf25 rfl bD fun v62 cD=>(Y (I ((x0.Rows).length:Int)) (G7 underlying25 rfl cD) (aT (.bool (((x0.Rows).length:Int)==(0:Int))) rfl rfl rfl (H (.bool (((x0.Rows).length:Int)==(0:Int))) (O ?_)))));rcases Zt h with ⟨g8,h⟩ | ⟨g8,h⟩
    ·refine Gz g8 rfl (Z (H (I 7) (O (Gb (G6 (Gj ?_))))))
     cases h;exact ac rfl (rq (I 7)) ⟨_,hfr,rfl⟩
    ·refine G0 g8 rfl (Zf ?_)
     have lD:=Zm Wu.1 q1;refine Zs (x:=.tmp 20) isAgg3 sizeOf3 lD fun vE nD aB=>?_;obtain rfl:=Zj.1 nD;obtain ⟨l5,lB,h⟩:=Z1 h;have oD:=Zm Wy.1 q1;refine Zs (x:=.tmp 24) isAgg25 sizeOf25 oD fun v8 yD mB=>?_;obtain ⟨y71,nB,h⟩:=Z1 h;refine ab (g:=l8) (n:=9) [(6,(fun v g w=>v=.bool y71))] [0,1,2,3,4,5,6,7,8] mixed (⟨fun _=>Ww _,trivial⟩) (V (S p1 0) rfl (aa Y9 (PT.ptr q1)) (G3 (c:=I x0.Hooks) rfl rfl .plain xC aB rfl (V (I l5) rfl (Gp rfl rfl (congrArg (Option.map (Value.int .i64)) lB)) (V (I (w64 (l5-(1:Int)))) rfl (Gp rfl rfl rfl) (V (S p1 1) rfl (aa Yy (PT.ptr q1)) (G3 (c:=v8) rfl rfl .plain xC mB rfl (Wd (φ:=fun v g w=>v=.bool y71) rfl rfl .plain (fun g w hd=>aJ (g:=g) (vs:=[I 0,I (w64 (l5-(1:Int))),v8]) en149 (wk149 (yD.ext hd.1) nB) fun g' w' v hs hr=>⟨g',hs,hr⟩) (fun xE hv=>?_))))))));obtain ⟨_,_,_,rfl⟩:=hv;refine V (.bool (!y71)) rfl (Qw rfl) (V (.bool (!y71)) rfl (Tp rfl) (Ki fun zD yE hs=>?_));have hfr:=hfr.ext hs;clear hs;refine O ?_;rcases Zt h with ⟨o0,h⟩ | ⟨o0,h⟩
     ·refine Gz o0 rfl (Z (H (I 2) (O (Gb (G6 (Gj ?_))))))
      cases h;exact ac rfl (rq (I 2)) ⟨_,hfr,rfl⟩
     ·refine G0 o0 rfl ?_
      exact Zu (Te (Zd (l9 () _ _ ⟨zD,hfr⟩ h)))
 ·rintro _ aE iE ⟨lE,hfr⟩ h
  refine Z (H (I 0) (O (Gb ?_)));cases h;exact ac rfl (rq (I 0)) ⟨_,hfr,rfl⟩
def f132 (x0:Str) (x1:I32→Option Bool):Option Bool:=
 (f162 x0 x1).bind fun y2=>
 some (decide (y2≥(0:Int)))
theorem en132:Enters prog 132:=yC func132
theorem wk132 {x0:Str} {x1:I32→Option Bool} (rp1:Ho prog x1 up1 gI wI) {r:Bool} (h:f132 x0 x1=some r):Fn prog 132 #[Str.v x0,up1] gI wI (fun _ _ v=>v=.bool r):=by
 unfold f132 at h;refine fnE func132 rfl rfl fun g0 hm hfr=>?_;obtain ⟨ff1,fa1,fc1,rfl,fen1,fcl1⟩:=rp1;refine Z (H (.bool false) (O (Z (M (Str.v x0) (M (.func (.func ff1) fa1 fc1) ?_)))));obtain ⟨y2,hy2,h⟩:=Z1 h;refine G (aJ (g:=g0) (vs:=[Str.v x0,(.func (.func ff1) fa1 fc1)]) en162 (wk162 (Ho.ch ⟨_,_,_,rfl,fen1,fcl1⟩ hfr.ch) hy2) fun g1 w1_ v1 hs hr=>?_);have hfr:=hfr.ext hs;subst hr;refine aT (.bool (decide (y2≥(0:Int)))) rfl rfl rfl (H (.bool (decide (y2≥(0:Int)))) (O (Gb ?_)));cases h;exact ac rfl (rq (.bool (decide (y2≥(0:Int))))) ⟨_,hfr,rfl⟩
def f135 (z0:List UInt8) (σ:Type) (cons:U9 σ (Vector UInt8 8)) (s0:σ):Option σ:=
 (f136 z0 (8:Int)).bind fun y4=>
 (y4 (Nat × σ) (Pw fun aB lB=>
  (F9 8 lB).bind fun mB=>
  (cons aB mB).bind fun (v8,l9)=>
  bif (!v8) then
   some (false,((1:Nat),l9))
  else
   some (true,((0:Nat),l9))
  ) (0,s0)).bind fun (g8,l8)=>
 bif Nat.beq g8 0 then
  some l8
 else
  some l8
theorem en135:Enters prog 135:=yC func135
theorem wk135 {σ:Type} {cons:U9 σ (Vector UInt8 8)} {s0 r:σ} {gI:Gh} {wI:World} {z0:List UInt8} {pf0:Value} (qf0:PT gI.m wI z0 pf0) (h:f135 z0 σ cons s0=some r):Fh prog (RA1 (α:=(Vector UInt8 8))) 135 #[] #[pf0] gI wI cons s0 r:=by
 unfold f135 at h;refine Mi func135 rfl (Nat.le_of_ble_eq_true rfl) fun l B J g0 hm hAb hRo hfr=>?_;have hmk:MkF g0 wI []:=MkF.start;have qf0:PT g0.m wI z0 pf0:=hm▸qf0;show E _ 13 none _ _ (J0 #[.func (.yield l) #[] #[],pf0]) _ _;refine Z (G (Tw (g:=g0) (a:=(⟨(.func (.yield l) #[] #[]),rfl⟩:Fv)) rfl (Yt.2 rfl) fun g1 w1 p1 hs q1=>?_));have hfr:=hfr.ext_ hAb hs;have hmk:=hmk.ext hs;have qf0:=qf0.ext hs;refine O (Z (G (Ga (g:=g1) isAgg63 sizeOf63 rfl qf0 fun v2 r2=>?_)));obtain ⟨y4,cD,h⟩:=Z1 h;refine G (aJ (g:=g1) (vs:=[v2,I 8]) en136 (wk136 r2 cD) fun g3 w3_ v3 hs hr=>?_);have hfr:=hfr.ext_ hAb hs;have hmk:=hmk.ext hs;have q1:=q1.ext hs;have r3:=hr;refine O (Zr ?_);have hB0:=hfr.hB;have hmk0:=hmk;obtain ⟨⟨g8,l8⟩,hφ,h⟩:=Z1 h;refine Vf (σ:=(Nat × σ)) (s0:=(0,s0)) 10 rfl (fun s=>s.1) [.ret] (fun (s:Nat × σ) (g:Gh) (w:World)=>FrY gI wI B J s.2 g w∧MkF g w []∧PT g.m w (⟨(.func (.yield l) #[] #[]),rfl⟩:Fv) p1∧ItV prog (RA1 (α:=(List UInt8))) y4 v3 g.m w) rfl r3 hφ (fun _ _ _ h=>(D6 h).1) rfl Rz rfl (fun _ _ _ _ _ hx hR=>by obtain ⟨hfr,hmk,z2,z3⟩:=hR;exact ⟨hfr.ist_ hAb hx hB0,hmk.ist hx,z2.ist hx,z3.ist hx⟩) (fun _ _ _ _ _ hx hR=>by obtain ⟨hfr,hmk,z2,z3⟩:=hR;exact ⟨hfr.stp_ hAb hx rfl,hmk.stp hx,z2.stp hx,z3.stp hx⟩) ⟨hfr,hmk,q1,r3⟩ (fun _ h=>by cases h) ?_ ?_
 ·intro oE bE s x b s2 yB lD vs hsz h hR hrec_0 nB hrd
  obtain ⟨hs0,h⟩:=D6 h;obtain ⟨st,aB⟩:=s;obtain ⟨hfr,hmk,o0,l5⟩:=hR;obtain ⟨lB,hxe⟩:∃ y,y=x:=⟨x,rfl⟩;subst hxe;obtain ⟨n8,rfl,i6⟩:=Pd hrd;have t5:=RFr.refl yB lD;refine Za (H n8 (O ?_));obtain ⟨nD,hbr,hs,hrN⟩:=Vq hrec_0 nB;refine ⟨nD,hbr,?_⟩;have hfr:=hfr.stp_ hAb hs rfl;have hmk:=hmk.stp hs;have t5:=t5.stp hs;have o0:=o0.stp hs;have l5:=l5.stp hs;have i6:=i6.stp hs;have hrec_0:=hrN;clear hbr hs hrN;refine Zr (Zf (Zs (α:=Fv) (x:=.tmp 2) isAgg246 sizeOf246 o0 fun zB cC uC=>?_));have e26:zB=(.func (.yield l) #[] #[]):=Yt.1 cC;clear cC;subst zB;obtain ⟨mB,oB,h⟩:=Z1 h;have oD:=Ma i6 oB;refine Zs (x:=.tmp 9) isAgg104 sizeOf104 oD fun yD vB vC=>(ab (g:=yB) (n:=4) [] [0,1,2,3] mixed trivial (G3 (c:=(.func (.yield l) #[] #[])) rfl rfl .plain xC uC rfl (V n8 rfl (ai) (V (ptrV n8) rfl (Ny underlying104 rfl i6 oB) (G3 (c:=yD) rfl rfl .plain xC vC rfl (Ki fun zD rE hs=>?_))))));have hfr:=hfr.ext_ hAb hs;have hmk:=hmk.ext hs;have t5:=t5.ext hs;have hrec_0:=hrec_0.ext hs;have o0:=o0.ext hs;have l5:=l5.ext hs;have vB:=vB.ext hs;clear hs;obtain ⟨aE,bD,h⟩:=Z1 h;obtain ⟨v8,l9⟩:=aE;refine G (F8 (g:=zD) (x:=mB) rfl (.cons rfl .nil) hRo hfr bD ⟨_,rfl,vB⟩ fun uE vE hs hfrY=>?_);have hmk:=hmk.stp hs;have t5:=t5.stp hs;have hrec_0:=hrec_0.stp hs rfl;have o0:=o0.stp hs;have l5:=l5.stp hs;have hfr:=hfrY;clear hfrY;refine Y (.bool (!v8)) (Qw rfl) (O ?_);rcases Zt h with ⟨n9,h⟩ | ⟨n9,h⟩
  ·refine Gz n9 rfl (Gb (G6 ?_))
   obtain ⟨rfl,rfl⟩:=W9 h;exact ⟨_,t5,⟨hfr,hmk,o0,l5⟩,hrec_0,rfl,0,rfl,rfl⟩
  ·refine G0 n9 rfl (Zu (Te ?_))
   obtain ⟨rfl,rfl⟩:=W9 h;exact ⟨_,t5,⟨hfr,hmk,o0,l5⟩,hrec_0,rfl,rfl⟩
 ·intro xE yE ds44 hsz hR hds
  obtain ⟨hfr,hmk,iE,lE⟩:=hR;obtain ⟨D,hdse,hD,hDb⟩:=hds.1 rfl;subst hdse;replace hmk:=MkF.push hmk0 hmk hD hDb;clear hD hDb hds;revert hmk;generalize ({target:=.collected D,args:=#[]}::[]:List Deferred)=mE;intro hmk;refine ⟨fun hs=>?_,fun k c hs hc=>?_⟩
  ·have hs:g8=0:=hs
   subst hs;replace h:=cond_t h rfl;refine Te (Mz (.inl rfl) hmk fun zE cF hs=>?_);have hfr:=hfr.stp_ hAb hs rfl;cases h;exact Xs rfl rfl (FrY.done hfr)
  ·have hs:g8=k+1:=hs
   match k,hs,hc with
   | 0,hs,hc=>
    subst hs;obtain rfl:=sinj hc;replace h:=cond_f h rfl;refine Gb (G6 (Mz (.inr rfl) hmk fun dF eF hs=>?_));have hfr:=hfr.stp_ hAb hs rfl;cases h;exact end0 rfl rfl (FrY.done hfr)
   | n+1,_,hc=>exact absurd hc (by simp)
def f146 (x0:Int) (x1:Int):Option Int:=
 (f168 (⟨(T9 x1)⟩:U64)).bind fun y2=>
 (Wv y2.n (T9 ((64:Int)-(T9 x0)))).bind fun y3=>
 some (w64 y3)
theorem en146:Enters prog 146:=yC func146
theorem wk146 {x0:Int} {x1:Int}  {r:Int} (h:f146 x0 x1=some r):Fn prog 146 #[I x0,I x1] gI wI (fun _ _ v=>v=I r):=by
 unfold f146 at h;refine fnE func146 rfl rfl fun g0 hm hfr=>?_;refine Z (H (I 0) (O (Z (M (I x1) (Y (.int .u64 (T9 x1)) (Ul underlying3 underlying240 rfl) ?_)))));obtain ⟨y2,hy2,h⟩:=Z1 h;refine G (aJ (g:=g0) (vs:=[.int .u64 (T9 x1)]) en168 (wk168  hy2) fun g1 w1_ v1 hs hr=>?_);have hfr:=hfr.ext hs;subst hr;refine M (I x0) (Y (.int .u64 (T9 x0)) (Ul underlying198 underlying132 rfl) (Y (.int .u64 (T9 ((64:Int)-(T9 x0)))) (P_usub rfl rfl) ?_));obtain ⟨y3,hy3,h⟩:=Z1 h;refine Y (.int .u64 y3) (J6 rfl rfl hy3) (Y (I (w64 y3)) (A3 underlying240 underlying3 rfl) (H (I (w64 y3)) (O (Gb ?_))));cases h;exact ac rfl (rq (I (w64 y3))) ⟨_,hfr,rfl⟩
def f159 (x0:Gi) (z0:Int):Option Bool:=
 Option.bind (α:=Bool) (
  (f104 (-1:Int) (59:Int) ([x0.Number]:List Int)).bind fun t5=>
  bif (!t5) then
   some true
  else
   (f160 z0 ([x0.Row]:List Int)).bind fun i6=>
   some (!i6)
  ) fun l5=>
 some l5
theorem en159:Enters prog 159:=yC func159
theorem wk159 {x0:Gi} {z0:Int} (rp0:RV gI.m wI x0 up0) {pf0:Value} (qf0:PT gI.m wI z0 pf0) {r:Bool} (h:f159 x0 z0=some r):Fn prog 159 #[up0,pf0] gI wI (fun _ _ v=>v=.bool r):=by
 unfold f159 at h;refine fnE func159 rfl rfl fun g0 hm hfr=>?_;have qf0:PT g0.m wI z0 pf0:=hm▸qf0;have rp0:=RVc hm rp0;refine Z (G (Tw (g:=g0) rfl rp0 fun g1 w1 p1 hs q1=>?_));have hfr:=hfr.ext hs;have qf0:=qf0.ext hs;refine H (.bool false) (O ?_);obtain ⟨l5,hx,h⟩:=Z1 h;refine Gn (xD gI wI fun e w g=>e 3=.bool l5) (fun Q' hQ=>?_) (fun vC lD hR=>?_)
 ·replace h:=hx
  clear hx;refine Za (Y (S p1 0) (aa R0 (PT.ptr q1)) ?_);have l9:=Zm Jm.1 q1;refine G (Ga (g:=g1) isAgg3 sizeOf3 rfl l9 fun nD n9=>?_);obtain rfl:=Zj.1 n9;refine G (Gd (g:=g1) 3006 (xs:=([x0.Number]:List Int)) (vs:=[I x0.Number]) underlying25 sizeOf3 zeroValue3 rfl rfl (.cons rfl .nil) (RVs.cons (Zj.2 rfl) RVs.nil) rfl rfl fun aB oD lB hs o16 mB hxt hfl=>?_);have hfr:=hfr.stp hs;have qf0:=qf0.stp hs;have q1:=q1.stp hs;obtain ⟨t5,n8,h⟩:=Z1 h;refine G (aJ (g:=aB) (vs:=[I (-1),I 59,lB]) en104 (wk104 mB n8) fun g8 bD yD hs hr=>?_);have hfr:=hfr.ext hs;have qf0:=qf0.ext hs;have q1:=q1.ext hs;subst hr;refine Y (.bool (!t5)) (Qw rfl) (M (.bool (!t5)) ?_);rcases Zt h with ⟨o0,h⟩ | ⟨o0,h⟩
  ·refine Zz rfl rfl o0 rfl rfl ?_
   iterate 5 refine Zz rfl rfl o0 rfl rfl ?_
   refine Y (.bool true) (ae (b:=(!t5)) (Tg o0 rfl)) (H (.bool true) (Zb ?_));cases h;exact hQ _ _ ⟨g8,hfr,rfl⟩
  ·refine Ze (.yes2 rfl rfl o0) rfl (Ga (g:=g8) isAgg198 sizeOf198 rfl qf0 fun zD nB=>?_)
   obtain rfl:=Zj.1 nB;refine ag (S p1 1) (aa Dn (PT.ptr q1)) rfl rfl o0 ?_;have oB:=Zm Hh.1 q1;refine Ze (.yes2 rfl rfl o0) rfl (Ga (g:=g8) isAgg3 sizeOf3 rfl oB fun aE vB=>?_);obtain rfl:=Zj.1 vB;refine Ze (.yes2 rfl rfl o0) rfl (Gd (g:=g8) 3013 (xs:=([x0.Row]:List Int)) (vs:=[I x0.Row]) underlying25 sizeOf3 zeroValue3 rfl rfl (.cons rfl .nil) (RVs.cons (Zj.2 rfl) RVs.nil) rfl rfl fun yB bE zB hs o23 cC hxt hfl=>?_);have hfr:=hfr.stp hs;obtain ⟨i6,v8,h⟩:=Z1 h;refine Ze (.yes2 rfl rfl o0) rfl (aJ (g:=yB) (vs:=[I z0,zB]) en160 (wk160 cC v8) fun uC cD iE hs hr=>?_);have hfr:=hfr.ext hs;subst hr;refine ag (.bool (!i6)) (Qw rfl) rfl rfl o0 (Y (.bool (!i6)) (ae (b:=(!t5)) (Td o0 rfl)) (H (.bool (!i6)) (Zb ?_)));cases h;exact hQ _ _ ⟨uC,hfr,rfl⟩
 ·clear hx
  obtain ⟨lE,hfr,l8⟩:=hR;refine Gb ?_;obtain rfl:=sinj h;exact ac rfl (show _=.bool l5 from l8) ⟨_,hfr,rfl⟩
def f19 (x0:Z8) (x1:List Int) (x2:List (Int × Z3)):Option (List Bool):=
 (H2 (1:Int) ((x0.orders).length:Int)).bind fun y4=>
 (mks 1 (false:Bool) y4).bind fun y5=>
 (idx y5 (0:Int)).bind fun mP=>
 Option.bind (α:=(List Bool)) (
  lp (σ:=(List Bool) × Int) (fun qK (cD,nB)=>
   bif (decide (nB<(x1.length:Int))) then
    Option.bind (α:=(List Bool)) (
     (idx x1 nB).bind fun yF=>
     (f47 x0 yF x2).bind fun vB=>
     (mks 1 (false:Bool) (cD.length:Int)).bind fun lE=>
     Option.bind (α:=(List Bool)) (
      lp (σ:=(List Bool) × Int) (fun sK (cF,o0)=>
       bif (decide (o0<(lE.length:Int))) then
        Option.bind (α:=(List Bool)) (
         (f48 o0).bind fun yH=>
         (yH (List Bool) (fun zB oB=>
          (idx zB o0).bind fun bE=>
          bif bE then
           (idx zB o0).bind fun qN=>
           some (true,(List.set zB (Int.toNat o0) true))
          else
           (idx vB oB).bind fun uE=>
           bif uE then
            (idx cD (Tx .andNot o0 oB)).bind fun rF=>
            (idx zB o0).bind fun rN=>
            some (true,(List.set zB (Int.toNat o0) rF))
           else
            (idx zB o0).bind fun sN=>
            some (true,(List.set zB (Int.toNat o0) false))
          ) cF).bind fun lG=>
         some lG
         ) fun dF=>
        sK (dF,(w64 (o0+(1:Int))))
       else
        some cF
       ) big (lE,(0:Int))
      ) fun tF=>
     some tF
     ) fun sF=>
    qK (sF,(w64 (nB+(1:Int))))
   else
    some cD
   ) big ((List.set y5 (Int.toNat (0:Int)) true),(0:Int))
  ) fun bG=>
 some bG
theorem en19:Enters prog 19:=yC func19
theorem wk19 {x0:Z8} {x1:List Int} {x2:List (Int × Z3)} (rp0:RV gI.m wI x0 up0) (rp1:RV gI.m wI x1 up1) (mq2:MR (Value.int .i64) gI wI x2 up2) {r:(List Bool)} (h:f19 x0 x1 x2=some r):Fn prog 19 #[up0,up1,up2] gI wI (fun m w v=>RV m w r v):=by
 unfold f19 at h;refine A5 func19 rfl (Nat.le_of_ble_eq_true rfl) fun g0 hm hfr=>?_;have hmk:MkF g0 wI []:=MkF.start;have rp0:=RVc hm rp0;have rp1:=RVc hm rp1;have mq2:=MQ.enter mq2 hm hfr;refine Z (G (Tw (g:=g0) rfl rp0 fun g1 w1 p1 hs q1=>?_));have hfr:=hfr.ext hs;have hmk:=hmk.ext hs;have rp1:=rp1.ext hs;have mq2:=mq2.ext hs;refine H (.slice none 0 0) (O (Z (Y (S p1 2) (aa W6 (PT.ptr q1)) ?_)));have q2:=Zm G8.1 q1;refine G (Ga (g:=g1) isAgg28 sizeOf28 rfl q2 fun v3 r3=>(Y (I ((x0.orders).length:Int)) (G7 underlying28 rfl r3) ?_));obtain ⟨y4,nP,h⟩:=Z1 h;refine Y (I y4) (Gp rfl rfl (congrArg (Option.map (Value.int .i64)) nP)) ?_;obtain ⟨y5,hy5,h⟩:=Z1 h;refine G (Ye (g:=g1) 9018 (false:Bool) rfl underlying85 Lc rfl (fun _ _=>rfl) rfl rfl hy5 fun g6 w6 v6 hs b6=>?_);have hfr:=hfr.stp hs;have hmk:=hmk.stp hs;have rp1:=rp1.stp hs;have mq2:=mq2.stp hs;have q1:=q1.stp hs;refine G (Gu (g:=g6) 2007 (⟨.slice none 0 0,rfl⟩:Fv) zeroValue85 (fun _ _=>N7) fun g7 w7 p7 hs b7 cb=>?_);clear cb;have hfr:=hfr.stp hs;have hmk:=hmk.stp hs;have rp1:=rp1.stp hs;have mq2:=mq2.stp hs;have q1:=q1.stp hs;have b6:=b6.stp hs rfl;have z7:OA 4007 g7 w7 4 ([]:List Bool) (.slice none 0 0):=OA.nil;have on8:=om_one b6;refine G (Gk (g:=g7) (v:=v6) (a':=(⟨v6,on8⟩:Fv)) sizeOf85 rfl b7 rfl (Yt.2 rfl) fun g8 w8 hs b8 cb=>?_);clear cb;have hfr:=hfr.stp hs;have hmk:=hmk.stp hs;have rp1:=rp1.stp hs;have mq2:=mq2.stp hs;have q1:=q1.stp hs;have b6:=b6.stp hs rfl;refine O (Z (G (Tr (α:=Fv) (g:=g8) isAgg85 sizeOf85 rfl b8 fun v9 r9=>?_)));have e9:v9=v6:=Yt.1 r9;clear r9;subst v9;obtain ⟨mP,dN,h⟩:=Z1 h;refine Y (Gy v6 (0:Int) 1) (Tt (α:=Bool) underlying85 sizeOf4 rfl b6 rfl dN) (G (Hn (g:=g8) (α:=Bool) (a':=true) sizeOf4 rfl b6 dN rfl (Tz.2 rfl) fun oR pR hs b11=>?_));have hfr:=hfr.stp hs;have hmk:=hmk.stp hs;have rp1:=rp1.stp hs;have mq2:=mq2.stp hs;have q1:=q1.stp hs;have b8:=b8.stp hs rfl;refine O ?_;obtain ⟨bG,hx,h⟩:=Z1 h;refine Kj (fun e ds w=>∃ (g:Gh) ,Fr gI wI g w∧MkF g w ds∧e 7=p7∧OB 2007 g w 85 (bG:List Bool) p7) (fun Q' hQ=>?_) (fun oP dP zP hR=>?_)
 ·replace h:=hx
  clear hx;refine Z (M up1 (Y (I (x1.length:Int)) (G7 underlying25 rfl rp1) (M (I 0) (O (Zr ?_)))));obtain ⟨gp2346,hs,rp2346⟩:=OM.pub b11;have hfr:=hfr.stp hs;have hmk:=hmk.stp hs;have rp1:=rp1.stp hs;have mq2:=mq2.stp hs;have q1:=q1.stp hs;have b8:=b8.stp hs rfl;have ub2346:=OB.ofRV b8 rp2346;refine Sj h (fun (s:(List Bool) × Int) e ds w=>∃ (g:Gh) ,Fr gI wI g w∧MkF g w ds∧e 2=up2∧MQ (Value.int .i64) wI.heap.size g w (x2:List (Int × Z3)) up2∧e 3=p1∧PT g.m w (x0:Z8) p1∧e 7=p7∧OB 2007 g w 85 (s.1:List Bool) p7∧e 21=up1∧RV g.m w (x1:List Int) up1∧e 22=I (x1.length:Int)∧e 23=I s.2) ⟨gp2346,hfr,hmk,rfl,mq2,rfl,q1,rfl,ub2346,rfl,rp1,rfl,rfl⟩ (fun X2347 qK eN=>?_);rintro ⟨cD,nB⟩ pP eP tK ⟨iG,hfr,hmk,pH,mE,qH,oE,cG,iE,mG,nD,sG,uF⟩ h;refine Z (aT (.bool (decide (nB<(x1.length:Int)))) uF sG rfl (O (Zf ?_)));rcases Zt h with ⟨xG,h⟩ | ⟨xG,h⟩
  ·refine Gz xG rfl (Zu (Zd ?_))
   obtain ⟨sF,hx,h⟩:=Z1 h;refine Kj (fun e ds w=>∃ (g:Gh) ,Fr gI wI g w∧MkF g w ds∧e 2=up2∧MQ (Value.int .i64) wI.heap.size g w (x2:List (Int × Z3)) up2∧e 3=p1∧PT g.m w (x0:Z8) p1∧e 7=p7∧OB 2007 g w 85 (sF:List Bool) p7∧e 21=up1∧RV g.m w (x1:List Int) up1∧e 22=I (x1.length:Int)∧e 23=I nB) (fun Q' hQ=>?_) (fun sP gP bQ hR=>?_)
   ·replace h:=hx
    clear hx;refine Zr (Z ?_);obtain ⟨yF,bI,h⟩:=Z1 h;refine Y (Gy up1 nB 1) (Zh (α:=Int) underlying25 sizeOf3 mG nD uF bI) ?_;have tN:=G1 nD bI;refine G (Ga (g:=iG) isAgg3 sizeOf3 rfl tN fun cQ uN=>?_);obtain rfl:=Zj.1 uN;refine H (I yF) (O (Zf (Zs (x:=.tmp 3) isAgg80 sizeOf80 oE fun uK vN gN=>?_)));obtain ⟨vB,iN,h⟩:=Z1 h;refine Qy (x:=.tmp 7) isAgg85 sizeOf85 iE fun xN yN jN=>?_;obtain ⟨lE,kN,h⟩:=Z1 h;have z3524:OA 4011 iG tK 4 ([]:List Bool) (.slice none 0 0):=OA.nil;refine E_drawV (g:=iG) (w:=tK) (i:=2010) (t2:=85) (a0:=([]:List Bool)) (a1:=(vB:List Bool)) (n:=10) [(3,(fun _ v g w=>RV g.m w vB v)),(6,(fun _ v g w=>OM 9033 g w 4 lE v)),(7,(fun _ v=>M3 2010 85 ([]:List Bool) (vB:List Bool) v)),(8,(fun _ v g w=>OB 2011 g w 85 (⟨.slice none 0 0,rfl⟩:Fv) v)),(9,(fun e _ g w=>OB 2010 g w 85 (vB:List Bool) (X e (.tmp 10))))] [0,1,2,3,4,5,6,7,8,9] rfl mixed (by kernel_rfl) (⟨fun _ _=>upV_rv,fun _ _=>upV_om,fun _ _=>up_var0,fun _ _=>upV_ob,fun _ _=>up_var1,trivial⟩) (⟨fun _ _ _ _ _ _=>rfl,fun _ _ _ _ _ _=>rfl,fun _ _ _ _ _ _=>rfl,fun _ _ _ _ _ _=>rfl,I6 (A:=fun p g w=>OB 2010 g w 85 (vB:List Bool) p) rfl,trivial⟩) (G3 (c:=uK) rfl rfl .plain (fun _ _ h=>h.ch) gN qH (V (I yF) rfl (ai) (V up2 rfl (Zk pH) (Wd (φ:=fun v g w=>RV g.m w vB v) rfl rfl .plain (fun g w hd=>aJ (g:=g) (vs:=[uK,I yF,up2]) en47 (wk47 (vN.stp hd.1) (mE.stp hd.1).r iN) fun g' w' v hs hr=>⟨g',Re hs,hr⟩) (fun vK hv=>?_)))));obtain ⟨_,_,_,rq3518⟩:=hv;refine G3 (c:=xN) rfl rfl .plain (fun _ _ h=>⟨h.ch,fun b hb ho=>h.block b hb (by rw [ho];decide)⟩) jN cG (V (I (cD.length:Int)) rfl (G7 underlying85 rfl yN) (Wd (φ:=fun v g w=>OM 9033 g w 4 lE v) rfl rfl .plain (fun g w hd=>Ll (g:=g) 9033 (false:Bool) rfl underlying85 Lc rfl (fun _ _=>rfl) rfl rfl kN fun g' w' v hs b=>⟨g',Re hs,b⟩) (fun n8 hv=>?_)));clear hv;refine Wd (φ:=fun v=>M3 2010 85 ([]:List Bool) (vB:List Bool) v) rfl rfl .plain (fun g w hd=>Ur (g:=g) 2010 ([]:List Bool) zeroValue85 (fun m w=>⟨_,Tb,rfl⟩) fun g' w' v hs b=>⟨g',Re hs,.inl b⟩) (fun vE hv=>?_);clear hv;refine Wd (φ:=fun v g w=>OB 2011 g w 85 (⟨.slice none 0 0,rfl⟩:Fv) v) rfl rfl .plain (fun g w hd=>Ur (g:=g) 2011 (⟨.slice none 0 0,rfl⟩:Fv) zeroValue85 (fun _ _=>N7) fun g' w' v hs b=>⟨g',Re hs,b⟩) (fun xE hv=>?_);clear hv;refine Wd (φ:=fun _ g w=>OB 2010 g w 85 (vB:List Bool) vE) rfl rfl .plain (fun g w hd=>D_storeV (g:=g) sizeOf85 rfl (Yv (A:=M3 2010 85 ([]:List Bool) (vB:List Bool) vE) 7 rfl rfl (Q9 hd)) rfl (Yv (A:=fun g w=>RV g.m w vB vK) 3 rfl rfl (Q9 hd))) (fun dQ hv=>?_);clear hv;refine Jx fun zN eQ hall=>?_;have hs:=hall.1;have hfr:=hfr.stp hs;have hmk:=hmk.stp hs;have mE:=mE.stp hs;have oE:=oE.stp hs;have iE:=iE.stp hs rfl;have nD:=nD.stp hs;have gQ:=(Ts (A:=fun g w=>RV g.m w vB vK) 3 rfl hall);have b3543:=(Ts (A:=fun g w=>OM 9033 g w 4 lE n8) 6 rfl hall);have b3544:=(Ts (A:=fun g w=>OB 2010 g w 85 (vB:List Bool) vE) 9 rfl hall);have b3545:=(Ts (A:=fun g w=>OB 2011 g w 85 (⟨.slice none 0 0,rfl⟩:Fv) xE) 8 rfl hall);clear hs hall;have on3547:=om_one b3543;refine G (Gk (g:=zN) (v:=n8) (a':=(⟨n8,on3547⟩:Fv)) sizeOf85 rfl b3545 rfl (Yt.2 rfl) fun xK iQ hs b3547 cb=>?_);clear cb;have hfr:=hfr.stp hs;have hmk:=hmk.stp hs;have mE:=mE.stp hs;have oE:=oE.stp hs;have iE:=iE.stp hs rfl;have nD:=nD.stp hs;have b3543:=b3543.stp hs rfl;have b3544:=b3544.stp hs rfl;refine O ?_;obtain ⟨tF,hx,h⟩:=Z1 h;refine Kj (fun e ds w=>∃ (g:Gh) ,Fr gI wI g w∧MkF g w ds∧e 2=up2∧MQ (Value.int .i64) wI.heap.size g w (x2:List (Int × Z3)) up2∧e 3=p1∧PT g.m w (x0:Z8) p1∧e 7=p7∧OB 2007 g w 85 (cD:List Bool) p7∧e 11=xE∧BXF 2011 9033 g w 4 85 (⟨n8,on3547⟩:Fv) n8 (tF:List Bool) xE∧e 21=up1∧RV g.m w (x1:List Int) up1∧e 22=I (x1.length:Int)∧e 23=I nB) (fun Q' hQ=>?_) (fun tP iP jQ hR=>?_)
    ·replace h:=hx
     clear hx;refine Z (G (Tr (α:=Fv) (g:=xK) isAgg85 sizeOf85 rfl b3547 fun yK zK=>?_));have e4111:yK=n8:=Yt.1 zK;clear zK;subst yK;refine Y (I (lE.length:Int)) (F4 underlying85 rfl b3543) (M (I 0) (O (Zr (Sj h (fun (s:(List Bool) × Int) e ds w=>∃ (g:Gh) ,Fr gI wI g w∧MkF g w ds∧e 2=up2∧MQ (Value.int .i64) wI.heap.size g w (x2:List (Int × Z3)) up2∧e 3=p1∧PT g.m w (x0:Z8) p1∧e 7=p7∧OB 2007 g w 85 (cD:List Bool) p7∧e 10=vE∧OB 2010 g w 85 (vB:List Bool) vE∧e 11=xE∧BXF 2011 9033 g w 4 85 (⟨n8,on3547⟩:Fv) n8 (s.1:List Bool) xE∧e 21=up1∧RV g.m w (x1:List Int) up1∧e 22=I (x1.length:Int)∧e 23=I (nB)∧e 35=I (lE.length:Int)∧e 36=I s.2) ⟨xK,hfr,hmk,pH,mE,qH,oE,cG,iE,rfl,b3544,rfl,⟨b3547,b3543⟩,mG,nD,sG,uF,rfl,rfl⟩ (fun X4112 sK lN=>?_)))));rintro ⟨cF,o0⟩ uP sH kQ ⟨aL,hfr,hmk,tH,yD,uH,zD,eG,aE,vF,oD,cC,⟨uC,vC⟩,yG,bD,zG,aH,cH,xF⟩ h;refine Z (aT (.bool (decide (o0<(lE.length:Int)))) xF cH rfl (O (Zf ?_)));rcases Zt h with ⟨gH,h⟩ | ⟨gH,h⟩
     ·refine Gz gH rfl (Zu (Zd ?_))
      obtain ⟨dF,hx,h⟩:=Z1 h;refine Kj (fun e ds w=>∃ (g:Gh) ,Fr gI wI g w∧MkF g w ds∧e 2=up2∧MQ (Value.int .i64) wI.heap.size g w (x2:List (Int × Z3)) up2∧e 3=p1∧PT g.m w (x0:Z8) p1∧e 7=p7∧OB 2007 g w 85 (cD:List Bool) p7∧e 10=vE∧OB 2010 g w 85 (vB:List Bool) vE∧e 11=xE∧BXF 2011 9033 g w 4 85 (⟨n8,on3547⟩:Fv) n8 (dF:List Bool) xE∧e 21=up1∧RV g.m w (x1:List Int) up1∧e 22=I (x1.length:Int)∧e 23=I (nB)∧e 35=I (lE.length:Int)∧e 36=I o0) (fun Q' hQ=>?_) (fun vP jP lQ hR=>?_)
      ·replace h:=hx
       clear hx;refine Zr (Z (aQ xF (G (Gu (g:=aL) 2012 (0:Int) zeroValue3 (fun m w=>⟨_,Zw,rfl⟩) fun aO mQ bO hs b4394 cb=>?_))));have hfr:=hfr.stp hs;have hmk:=hmk.stp hs;have yD:=yD.stp hs;have zD:=zD.stp hs;have aE:=aE.stp hs rfl;have oD:=oD.stp hs rfl;have uC:=uC.stp hs rfl;have vC:=vC.stp hs rfl;have bD:=bD.stp hs;clear cb;refine G (Gk (g:=aO) (v:=I o0) sizeOf3 rfl b4394 rfl (Zj.2 rfl) fun bL nQ hs b4395 cb=>?_);clear cb;have hfr:=hfr.stp hs;have hmk:=hmk.stp hs;have yD:=yD.stp hs;have zD:=zD.stp hs;have aE:=aE.stp hs rfl;have oD:=oD.stp hs rfl;have uC:=uC.stp hs rfl;have vC:=vC.stp hs rfl;have bD:=bD.stp hs;refine O (Z (G (Tr (g:=bL) isAgg3 sizeOf3 rfl b4395 fun oQ cO=>?_)));obtain rfl:=Zj.1 cO;obtain ⟨yH,mN,h⟩:=Z1 h;refine G (aJ (g:=bL) (vs:=[I o0]) en48 (wk48  mN) fun pQ xP dO hs hr=>?_);have hfr:=hfr.ext hs;have hmk:=hmk.ext hs;have yD:=yD.ext hs;have zD:=zD.ext hs;have aE:=aE.ext hs;have oD:=oD.ext hs;have uC:=uC.ext hs;have vC:=vC.ext hs;have bD:=bD.ext hs;have b4395:=b4395.ext hs;have dL:=hr;refine O (Zr ?_);have hB0:=hfr.size;have hmk0:=hmk;obtain ⟨lG,hφ,h⟩:=Z1 h;refine Vf (σ:=(List Bool)) (s0:=(cF)) 10 rfl (fun _=>0) [] (fun (s:(List Bool)) (g:Gh) (w:World)=>Fr gI wI g w∧MkF g w sH∧MQ (Value.int .i64) wI.heap.size g w (x2:List (Int × Z3)) up2∧PT g.m w (x0:Z8) p1∧OB 2007 g w 85 (cD:List Bool) p7∧OB 2010 g w 85 (vB:List Bool) vE∧BXF 2011 9033 g w 4 85 (⟨n8,on3547⟩:Fv) n8 (s:List Bool) xE∧OB 2012 g w 3 (o0:Int) bO∧RV g.m w (x1:List Int) up1∧ItV prog (RA1 (α:=Int)) yH dO g.m w) rfl dL hφ (fun _ _ _ _=>rfl) rfl Rz rfl (fun _ _ _ _ _ hx hR=>by obtain ⟨hfr,hmk,z2,z3,z4,z5,z6,z7,z8,z9⟩:=hR;exact ⟨hfr.ist hx hB0,hmk.ist hx,z2.ist hx hB0,z3.ist hx,z4.ist hx,z5.ist hx,z6.ist hx,z7.ist hx,z8.ist hx,z9.ist hx⟩) (fun _ _ _ _ _ hx hR=>by obtain ⟨hfr,hmk,z2,z3,z4,z5,z6,z7,z8,z9⟩:=hR;exact ⟨hfr.stp hx,hmk.stp hx,z2.stp hx,z3.stp hx,z4.stp hx rfl,z5.stp hx rfl,z6.stp hx rfl,z7.stp hx rfl,z8.stp hx,z9.stp hx⟩) ⟨hfr,hmk,yD,zD,aE,oD,⟨uC,vC⟩,b4395,bD,dL⟩ (fun _ h=>by cases h) ?_ ?_
       ·intro yP kP s x b s2 jG eO vs hsz h hR hrec_0 nI hrd
        obtain ⟨zB,hse⟩:∃ y,y=s:=⟨s,rfl⟩;subst hse;obtain ⟨hfr,hmk,aB,lB,n9,i6,⟨t5,l8⟩,l5,v8,l9⟩:=hR;obtain ⟨oB,hxe⟩:∃ y,y=x:=⟨x,rfl⟩;subst hxe;obtain ⟨yL,rfl,pI⟩:=Pd hrd;obtain rfl:yL=I oB:=Zj.1 pI;have yB:=RFr.refl jG eO;refine Za (H (I oB) (O ?_));obtain ⟨gO,hbr,hs,hrN⟩:=Vq hrec_0 nI;refine ⟨gO,hbr,?_⟩;have hfr:=hfr.stp hs;have hmk:=hmk.stp hs;have yB:=yB.stp hs;have aB:=aB.stp hs;have lB:=lB.stp hs;have n9:=n9.stp hs rfl;have i6:=i6.stp hs rfl;have t5:=t5.stp hs rfl;have l8:=l8.stp hs rfl;have l5:=l5.stp hs rfl;have v8:=v8.stp hs;have l9:=l9.stp hs;have hrec_0:=hrN;clear hbr hs hrN;refine Zr (Qy (α:=Fv) (x:=.tmp 11) isAgg85 sizeOf85 t5 fun eL gL jH=>?_);have e4537:eL=n8:=Yt.1 gL;clear gL;subst eL;refine Qy (x:=.tmp 12) isAgg3 sizeOf3 l5 fun qQ jO kH=>?_;obtain rfl:=Zj.1 jO;refine Qy (α:=Fv) (x:=.tmp 11) isAgg85 sizeOf85 t5 fun iL jL lH=>?_;have e4539:iL=n8:=Yt.1 jL;clear jL;subst iL;refine Qy (x:=.tmp 12) isAgg3 sizeOf3 l5 fun rQ kO mH=>?_;obtain rfl:=Zj.1 kO;obtain ⟨bE,aG,h⟩:=Z1 h;refine Yw (x:=.tmp 46) isAgg4 sizeOf4 l8 aG fun sQ lO nH=>?_;obtain rfl:=Tz.1 lO;rcases Zt h with ⟨mB,h⟩ | ⟨mB,h⟩
        ·obtain ⟨qN,dI,h⟩:=Z1 h
         refine ab (g:=jG) (n:=21) [] [0,1,2,3,4,5,6,7,8,9,10,11,12,13,14,15,16,17,18,19,20] mixed trivial (G3 (c:=n8) rfl rfl .plain xB jH cC (G3 (c:=I o0) rfl rfl .plain xB kH rfl (G3 (c:=n8) rfl rfl .plain xB lH cC (G3 (c:=I o0) rfl rfl .plain xB mH rfl (V (Gy n8 o0 1) rfl (Tt (α:=Bool) underlying85 sizeOf4 rfl l8 rfl aG) (G3 (c:=.bool bE) rfl rfl .plain xB nH rfl (V (.bool bE) rfl (ai) ?_)))))));iterate 5 refine L_s rfl rfl rfl mB rfl ?_
         refine Mn (fun _=>rfl) 6 rfl (L_s rfl rfl rfl mB rfl (V (.bool true) rfl (ae (b:=bE) (Tg mB rfl)) (V (Gy n8 o0 1) rfl (Tt (α:=Bool) underlying85 sizeOf4 rfl l8 rfl dI) (Ki fun mO tQ hs=>?_))));have hfr:=hfr.ext hs;have hmk:=hmk.ext hs;have yB:=yB.ext hs;have hrec_0:=hrec_0.ext hs;have aB:=aB.ext hs;have lB:=lB.ext hs;have n9:=n9.ext hs;have i6:=i6.ext hs;have t5:=t5.ext hs;have l8:=l8.ext hs;have l5:=l5.ext hs;have v8:=v8.ext hs;have l9:=l9.ext hs;clear hs;refine G (Hn (g:=mO) (α:=Bool) (a':=true) sizeOf4 rfl l8 dI rfl (Tz.2 rfl) fun uQ vQ hs b4582=>?_);have hfr:=hfr.stp hs;have hmk:=hmk.stp hs;have yB:=yB.stp hs;have hrec_0:=hrec_0.stp hs rfl;have aB:=aB.stp hs;have lB:=lB.stp hs;have n9:=n9.stp hs rfl;have i6:=i6.stp hs rfl;have t5:=t5.stp hs rfl;have l5:=l5.stp hs rfl;have v8:=v8.stp hs;have l9:=l9.stp hs;refine Zb (Te ?_);obtain ⟨rfl,rfl⟩:=W9 h;exact ⟨_,yB,⟨hfr,hmk,aB,lB,n9,i6,⟨t5,b4582⟩,l5,v8,l9⟩,hrec_0,rfl,rfl⟩
        ·refine Qy (x:=.tmp 10) isAgg85 sizeOf85 i6 fun kG zH iI=>?_
         obtain ⟨uE,oH,h⟩:=Z1 h;have nO:=G1 zH oH;refine Zs (x:=.tmp 51) isAgg4 sizeOf4 nO fun xQ oO jI=>?_;obtain rfl:=Tz.1 oO;rcases Zt h with ⟨lD,h⟩ | ⟨lD,h⟩
         ·refine Qy (x:=.tmp 7) isAgg85 sizeOf85 n9 fun lL mL nN=>(Qy (x:=.tmp 12) isAgg3 sizeOf3 l5 fun yQ pO oN=>?_)
          obtain rfl:=Zj.1 pO;obtain ⟨rF,kI,h⟩:=Z1 h;have qO:=G1 mL kI;refine Zs (x:=.tmp 58) isAgg4 sizeOf4 qO fun zQ rO pN=>?_;obtain rfl:=Tz.1 rO;obtain ⟨rN,lI,h⟩:=Z1 h;refine ab (g:=jG) (n:=21) [] [0,1,2,3,4,5,6,7,8,9,10,11,12,13,14,15,16,17,18,19,20] mixed trivial (G3 (c:=n8) rfl rfl .plain xB jH cC (G3 (c:=I o0) rfl rfl .plain xB kH rfl (G3 (c:=n8) rfl rfl .plain xB lH cC (G3 (c:=I o0) rfl rfl .plain xB mH rfl (V (Gy n8 o0 1) rfl (Tt (α:=Bool) underlying85 sizeOf4 rfl l8 rfl aG) (G3 (c:=.bool bE) rfl rfl .plain xB nH rfl (V (.bool bE) rfl (ai) (G3 (c:=kG) rfl rfl (.yes2 rfl rfl mB) xB iI vF (L_y (I oB) rfl rfl rfl rfl mB (ai) (L_y (Gy kG oB 1) rfl rfl rfl rfl mB (Zh (α:=Bool) underlying85 sizeOf4 rfl zH rfl oH) (G3 (c:=.bool uE) rfl rfl (.yes2 rfl rfl mB) (fun _ _ h=>h.ch) jI rfl (L_y (.bool uE) rfl rfl rfl rfl mB (ai) (G3 (c:=lL) rfl rfl (.yes2 rfl rfl lD) xB nN eG (G3 (c:=I o0) rfl rfl (.yes2 rfl rfl lD) xB oN rfl (L_y (I oB) rfl rfl rfl rfl lD (ai) (L_y (I (Tx .andNot o0 oB)) rfl rfl rfl rfl lD (Gp rfl rfl rfl) ?_))))))))))))))));refine L_y (Gy lL (Tx .andNot o0 oB) 1) rfl rfl rfl rfl lD (Zh (α:=Bool) underlying85 sizeOf4 rfl mL rfl kI) (G3 (c:=.bool rF) rfl rfl (.yes2 rfl rfl lD) (fun _ _ h=>h.ch) pN rfl (L_y (.bool rF) rfl rfl rfl rfl mB (ae (b:=uE) (Tg lD rfl)) (V (.bool rF) rfl (ae (b:=bE) (Td mB rfl)) (V (Gy n8 o0 1) rfl (Tt (α:=Bool) underlying85 sizeOf4 rfl l8 rfl lI) (Ki fun sO aR hs=>?_)))));have hfr:=hfr.ext hs;have hmk:=hmk.ext hs;have yB:=yB.ext hs;have hrec_0:=hrec_0.ext hs;have aB:=aB.ext hs;have lB:=lB.ext hs;have n9:=n9.ext hs;have i6:=i6.ext hs;have t5:=t5.ext hs;have l8:=l8.ext hs;have l5:=l5.ext hs;have v8:=v8.ext hs;have l9:=l9.ext hs;clear hs;refine G (Hn (g:=sO) (α:=Bool) (a':=rF) sizeOf4 rfl l8 lI rfl (Tz.2 rfl) fun bR dR hs b4631=>?_);have hfr:=hfr.stp hs;have hmk:=hmk.stp hs;have yB:=yB.stp hs;have hrec_0:=hrec_0.stp hs rfl;have aB:=aB.stp hs;have lB:=lB.stp hs;have n9:=n9.stp hs rfl;have i6:=i6.stp hs rfl;have t5:=t5.stp hs rfl;have l5:=l5.stp hs rfl;have v8:=v8.stp hs;have l9:=l9.stp hs;refine Zb (Te ?_);obtain ⟨rfl,rfl⟩:=W9 h;exact ⟨_,yB,⟨hfr,hmk,aB,lB,n9,i6,⟨t5,b4631⟩,l5,v8,l9⟩,hrec_0,rfl,rfl⟩
         ·obtain ⟨sN,mI,h⟩:=Z1 h
          refine ab (g:=jG) (n:=21) [] [0,1,2,3,4,5,6,7,8,9,10,11,12,13,14,15,16,17,18,19,20] mixed trivial (G3 (c:=n8) rfl rfl .plain xB jH cC (G3 (c:=I o0) rfl rfl .plain xB kH rfl (G3 (c:=n8) rfl rfl .plain xB lH cC (G3 (c:=I o0) rfl rfl .plain xB mH rfl (V (Gy n8 o0 1) rfl (Tt (α:=Bool) underlying85 sizeOf4 rfl l8 rfl aG) (G3 (c:=.bool bE) rfl rfl .plain xB nH rfl (V (.bool bE) rfl (ai) (G3 (c:=kG) rfl rfl (.yes2 rfl rfl mB) xB iI vF (L_y (I oB) rfl rfl rfl rfl mB (ai) (L_y (Gy kG oB 1) rfl rfl rfl rfl mB (Zh (α:=Bool) underlying85 sizeOf4 rfl zH rfl oH) (G3 (c:=.bool uE) rfl rfl (.yes2 rfl rfl mB) (fun _ _ h=>h.ch) jI rfl (L_y (.bool uE) rfl rfl rfl rfl mB (ai) ?_))))))))))));iterate 6 refine L_s rfl rfl rfl lD rfl ?_
          refine L_y (.bool false) rfl rfl rfl rfl mB (ae (b:=uE) (Td lD rfl)) (V (.bool false) rfl (ae (b:=bE) (Td mB rfl)) (V (Gy n8 o0 1) rfl (Tt (α:=Bool) underlying85 sizeOf4 rfl l8 rfl mI) (Ki fun tO eR hs=>?_)));have hfr:=hfr.ext hs;have hmk:=hmk.ext hs;have yB:=yB.ext hs;have hrec_0:=hrec_0.ext hs;have aB:=aB.ext hs;have lB:=lB.ext hs;have n9:=n9.ext hs;have i6:=i6.ext hs;have t5:=t5.ext hs;have l8:=l8.ext hs;have l5:=l5.ext hs;have v8:=v8.ext hs;have l9:=l9.ext hs;clear hs;refine G (Hn (g:=tO) (α:=Bool) (a':=false) sizeOf4 rfl l8 mI rfl (Tz.2 rfl) fun gR iR hs b4670=>?_);have hfr:=hfr.stp hs;have hmk:=hmk.stp hs;have yB:=yB.stp hs;have hrec_0:=hrec_0.stp hs rfl;have aB:=aB.stp hs;have lB:=lB.stp hs;have n9:=n9.stp hs rfl;have i6:=i6.stp hs rfl;have t5:=t5.stp hs rfl;have l5:=l5.stp hs rfl;have v8:=v8.stp hs;have l9:=l9.stp hs;refine Zb (Te ?_);obtain ⟨rfl,rfl⟩:=W9 h;exact ⟨_,yB,⟨hfr,hmk,aB,lB,n9,i6,⟨t5,b4670⟩,l5,v8,l9⟩,hrec_0,rfl,rfl⟩
       ·intro uO jR ds4672 hsz hR hds
        obtain ⟨hfr,hmk,zL,aM,bM,qI,⟨sI,jJ⟩,bP,kJ,cP⟩:=hR;obtain ⟨D,hdse,hD,hDb⟩:=hds.1 rfl;subst hdse;replace hmk:=MkF.push hmk0 hmk hD hDb;clear hD hDb hds;revert hmk;generalize ({target:=.collected D,args:=#[]}::sH:List Deferred)=lP;intro hmk;refine ⟨fun _=>?_,fun k c hs _=>absurd hs (Nat.succ_ne_zero k).symm⟩;refine Te (Te ?_);cases h;exact hQ _ _ _ ⟨uO,hfr,hmk,tH,zL,uH,aM,eG,bM,vF,qI,cC,⟨sI,jJ⟩,yG,kJ,zG,aH,cH,xF⟩
      ·clear hx
       obtain ⟨vO,hfr,hmk,cM,dM,eM,iM,jM,kM,lJ,mJ,nJ,⟨oJ,pJ⟩,qJ,rJ,sJ,vJ,xJ,zJ⟩:=hR;refine Za (aT (I (w64 (o0+(1:Int)))) zJ rfl rfl (M (I (w64 (o0+(1:Int)))) ?_));exact O (lN (dF,(w64 (o0+(1:Int)))) _ _ _ ⟨vO,hfr,hmk,cM,dM,eM,iM,jM,kM,lJ,mJ,nJ,⟨oJ,pJ⟩,qJ,rJ,sJ,vJ,xJ,rfl⟩ h)
     ·refine G0 gH rfl (Th (Gr (Gr (G2 ?_))))
      cases h;exact hQ _ _ _ ⟨aL,hfr,hmk,tH,yD,uH,zD,eG,aE,cC,⟨uC,vC⟩,yG,bD,zG,aH⟩
    ·clear hx
     obtain ⟨xO,hfr,hmk,pM,yE,qM,zE,xH,gG,aK,⟨eF,bK⟩,cK,rE,dK,lK⟩:=hR;refine Za (G (Tr (α:=Fv) (g:=xO) isAgg85 sizeOf85 aK eF fun nL oL=>?_));have e4675:nL=n8:=Yt.1 oL;clear oL;subst nL;obtain ⟨gp4677,hs,rp4677⟩:=OM.pub bK;have hfr:=hfr.stp hs;have hmk:=hmk.stp hs;have yE:=yE.stp hs;have zE:=zE.stp hs;have gG:=gG.stp hs rfl;have eF:=eF.stp hs rfl;have rE:=rE.stp hs;have ub4677:=OB.ofRV eF rp4677;refine G (Gk (g:=gp4677) (v:=n8) sizeOf85 xH gG rfl rp4677 fun yO lR hs b4676 cb=>?_);clear cb;have hfr:=hfr.stp hs;have hmk:=hmk.stp hs;have yE:=yE.stp hs;have zE:=zE.stp hs;have rE:=rE.stp hs;refine Zb (Te ?_);cases h;exact hQ _ _ _ ⟨yO,hfr,hmk,pM,yE,qM,zE,xH,b4676,cK,rE,dK,lK⟩
   ·clear hx
    obtain ⟨zO,hfr,hmk,rM,sM,tM,uM,vM,xM,mK,nK,oK,pK⟩:=hR;refine Za (aT (I (w64 (nB+(1:Int)))) pK rfl rfl (M (I (w64 (nB+(1:Int)))) ?_));exact O (eN (sF,(w64 (nB+(1:Int)))) _ _ _ ⟨zO,hfr,hmk,rM,sM,tM,uM,vM,xM,mK,nK,oK,rfl⟩ h)
  ·refine G0 xG rfl (Th (Gr (Gr (G2 ?_))))
   cases h;exact hQ _ _ _ ⟨iG,hfr,hmk,cG,iE⟩
 ·clear hx
  obtain ⟨aP,hfr,hmk,bN,cN⟩:=hR;refine Z (G (Tr (g:=aP) isAgg85 sizeOf85 bN cN fun xL aI=>(H xL (O (Gb (Mz (.inr rfl) hmk fun mR nR hs=>?_))))));have hfr:=hfr.stp hs;have aI:=aI.stp hs;obtain rfl:=sinj h;exact ac rfl (rq xL) ⟨_,hfr,aI⟩
def f22 (x0:Z8) (x1:Int) (x2:List (Int × Z3)):Option (Bool × (List (Int × Z3))):=
 (idx x0.orders x1).bind fun y4=>
 jn (σ:=(List (Int × Z3))) (fun vE=>
  some (false,vE)
  ) fun aG=>
 lp (σ:=(List (Int × Z3)) × Int) (fun bG (n9,o0)=>
  jn (σ:=Unit) (fun _=>
   jn (σ:=(List (Int × Z3))) (fun cC=>
    bG (cC,(w64 (o0+(1:Int))))
    ) fun cG=>
   (f20 x0).bind fun l9=>
   lp (σ:=(List (Int × Z3)) × Int) (fun eG (l8,l5)=>
    bif (decide (l5<(l9.length:Int))) then
     jn (σ:=(List (Int × Z3))) (fun uC=>
      eG (uC,(w64 (l5+(1:Int))))
      ) fun gG=>
     (idx l9 l5).bind fun n8=>
     (f20 x0).bind fun yB=>
     (f19 x0 yB (H4 l8 x1 (⟨x1,n8,o0⟩:Z3))).bind fun aB=>
     (f21 x0).bind fun vC=>
     (idx aB vC).bind fun bE=>
     bif bE then
      some (true,(H4 l8 x1 (⟨x1,n8,o0⟩:Z3)))
     else
      gG (H4 l8 x1 (⟨x1,n8,o0⟩:Z3))
    else
     cG l8
    ) big (n9,(0:Int))
   ) fun iG=>
  bif (decide ((w64 (o0+y4.Woven))≤y4.Late)) then
   iG ()
  else
   aG n9
  ) big (x2,y4.Early)
theorem en22:Enters prog 22:=yC func22
theorem wk22 {iI:Nat} {gI:Gh} {wI:World} {x0:Z8} {x1:Int} {x2:List (Int × Z3)} {up0:Value} (rp0:RV gI.m wI x0 up0) {up2:Value} (mp2:MP (Value.int .i64) iI gI wI x2 up2) {r:Bool × (List (Int × Z3))} (h:f22 x0 x1 x2=some r):FnM prog 22 #[up0,I x1,up2] iI gI wI (fun g w v=>v=.bool (r.1)∧MP (Value.int .i64) iI g w r.2 up2):=by
 unfold f22 at h;refine Vd func22 rfl (Nat.le_of_ble_eq_true rfl) fun g0 hm hfr=>?_;have sF:=mp2;replace mp2:=mp2.enter;rw [← hm] at mp2
 replace hm:g0.m=gI.m:=by rw [hm]
 have rp0:=RVc hm rp0;refine Z (G (Tw (g:=g0) rfl rp0 fun g1 w1 p1 hs q1=>?_));have hfr:=hfr.ext hs;have mp2:=mp2.ext hs;refine H (.bool false) (O (Z (Y (S p1 2) (aa W6 (PT.ptr q1)) ?_)));have q2:=Zm G8.1 q1;refine G (Ga (g:=g1) isAgg28 sizeOf28 rfl q2 fun v3 r3=>(M (I x1) ?_));obtain ⟨y4,rJ,h⟩:=Z1 h;refine Y (Gy v3 x1 5) (Zh (α:=Z5) underlying28 sizeOf59 rfl r3 rfl rJ) ?_;have q5:=G1 r3 rJ;refine G (Ga (g:=g1) isAgg59 sizeOf59 rfl q5 fun v6 r6=>(G (Gu (g:=g1) 2007 (⟨0,0,0,0,0⟩:Z5) zeroValue59 (fun m w=>⟨_,(Gg Zw (Gg Zw (Gg Zw (Gg Zw Zw)))),rfl⟩) fun g7 w7 p7 hs b7 cb=>?_)));have hfr:=hfr.stp hs;have mp2:=mp2.stp hs rfl;have q1:=q1.stp hs;have r6:=r6.stp hs;clear cb;refine G (Gk (g:=g7) (v:=v6) sizeOf59 rfl b7 rfl r6 fun g8 w8 hs b8 cb=>?_);clear cb;have hfr:=hfr.stp hs;have mp2:=mp2.stp hs rfl;have q1:=q1.stp hs;refine O (Zq h (fun (s:(List (Int × Z3))) e w=>∃ (g:Gh) ,FrM iI gI wI g w∧e 2=up2∧MP (Value.int .i64) 1 g w (s:List (Int × Z3)) up2) (fun X228 aG lI h=>?_) ?_)
 ·refine Z (Y (S p7 3) (aa S0 (OB.ptr b8)) (G (Qd (g:=g8) Hg.1 isAgg3 sizeOf3 rfl b8 fun gL sJ=>?_)))
  obtain rfl:=Zj.1 sJ;refine H (I y4.Early) (O (Zr (Qz h (fun (s:(List (Int × Z3)) × Int) e w=>∃ (g:Gh) ,FrM iI gI wI g w∧e 1=I (x1)∧e 2=up2∧MP (Value.int .i64) 1 g w (s.1:List (Int × Z3)) up2∧e 3=p1∧PT g.m w (x0:Z8) p1∧e 7=p7∧OB 2007 g w 59 (y4:Z5) p7∧e 8=I s.2) ⟨g8,hfr,rfl,rfl,mp2,rfl,q1,rfl,b8,rfl⟩ (fun X231 bG mI=>?_))));rintro ⟨n9,o0⟩ xK iL ⟨iE,hfr,jG,xE,yE,kG,lG,bD,lB,zE⟩ h;refine Zq h (fun (s:Unit) e w=>∃ (g:Gh) ,FrM iI gI wI g w∧e 1=I (x1)∧e 2=up2∧MP (Value.int .i64) 1 g w (n9:List (Int × Z3)) up2∧e 3=p1∧PT g.m w (x0:Z8) p1∧e 7=p7∧OB 2007 g w 59 (y4:Z5) p7∧e 8=I o0) (fun X238 iG nI h=>?_) ?_
  ·refine Z (aQ zE (Y (S p7 2) (Zc Yd bD (OB.ptr lB)) (G (Qd (g:=iE) Qv.1 isAgg3 sizeOf3 rfl lB fun jL vJ=>?_))))
   obtain rfl:=Zj.1 vJ;refine aT (I (w64 (o0+y4.Woven))) rfl rfl rfl (Y (S p7 4) (Zc Xi bD (OB.ptr lB)) (G (Qd (g:=iE) W2.1 isAgg3 sizeOf3 rfl lB fun lL xJ=>?_)));obtain rfl:=Zj.1 xJ;refine Y (.bool (decide ((w64 (o0+y4.Woven))≤y4.Late))) (Gp rfl rfl rfl) (O ?_);rcases Zt h with ⟨lE,h⟩ | ⟨lE,h⟩
   ·refine Gz lE rfl ?_
    exact Zu (Zd (nI () _ _ ⟨iE,hfr,jG,xE,yE,kG,lG,bD,lB,zE⟩ h))
   ·refine G0 lE rfl (Th (Gr (Gr (G2 ?_))))
    exact Zd (lI n9 _ _ ⟨iE,hfr,xE,yE⟩ h)
  ·rintro _ yK mL ⟨mG,hfr,sG,xG,cD,cF,nB,yG,lD,zG⟩ h
   refine Zq h (fun (s:(List (Int × Z3))) e w=>∃ (g:Gh) ,FrM iI gI wI g w∧e 1=I (x1)∧e 2=up2∧MP (Value.int .i64) 1 g w (s:List (Int × Z3)) up2∧e 3=p1∧PT g.m w (x0:Z8) p1∧e 7=p7∧OB 2007 g w 59 (y4:Z5) p7∧e 8=I o0) (fun X345 cG pI h=>?_) ?_
   ·refine Zr (Z (G (Ga (g:=mG) isAgg80 sizeOf80 cF nB fun zJ aK=>?_)))
    obtain ⟨l9,qI,h⟩:=Z1 h;refine G (aJ (g:=mG) (vs:=[zJ]) en20 (wk20 aK qI) fun bK zK nD hs hr=>?_);have hfr:=hfr.ext hs;have cD:=cD.ext hs;have nB:=nB.ext hs;have lD:=lD.ext hs;have aH:=hr;refine Y (I (l9.length:Int)) (G7 underlying25 rfl aH) (M (I 0) (O (Zr (Qz h (fun (s:(List (Int × Z3)) × Int) e w=>∃ (g:Gh) ,FrM iI gI wI g w∧e 1=I (x1)∧e 2=up2∧MP (Value.int .i64) 1 g w (s.1:List (Int × Z3)) up2∧e 3=p1∧PT g.m w (x0:Z8) p1∧e 7=p7∧OB 2007 g w 59 (y4:Z5) p7∧e 8=I (o0)∧e 28=nD∧RV g.m w (l9:List Int) nD∧e 29=I (l9.length:Int)∧e 30=I s.2) ⟨bK,hfr,sG,xG,cD,cF,nB,yG,lD,zG,rfl,aH,rfl,rfl⟩ (fun X349 eG sI=>?_)))));rintro ⟨l8,l5⟩ aL cK ⟨mE,hfr,oB,vB,dF,mB,t5,eF,v8,oD,zD,i6,aE,zB⟩ h;refine Z (aT (.bool (decide (l5<(l9.length:Int)))) zB aE rfl (O (Zf ?_)));rcases Zt h with ⟨oE,h⟩ | ⟨oE,h⟩
    ·refine Gz oE rfl (Zu (Zd (Zq h (fun (s:(List (Int × Z3))) e w=>∃ (g:Gh) ,FrM iI gI wI g w∧e 1=I x1∧e 2=up2∧MP (Value.int .i64) 1 g w (s:List (Int × Z3)) up2∧e 3=p1∧PT g.m w (x0:Z8) p1∧e 7=p7∧OB 2007 g w 59 (y4:Z5) p7∧e 8=I o0∧e 28=nD∧RV g.m w (l9:List Int) nD∧e 29=I (l9.length:Int)∧e 30=I l5) (fun X398 gG jJ h=>?_) ?_)))
     ·refine Zr (Z ?_)
      obtain ⟨n8,tF,h⟩:=Z1 h;refine Y (Gy nD l5 1) (Zh (α:=Int) underlying25 sizeOf3 zD i6 zB tF) ?_;have dK:=G1 i6 tF;refine G (Ga (g:=mE) isAgg3 sizeOf3 rfl dK fun nL lK=>?_);obtain rfl:=Zj.1 lK;refine H (I n8) (O (Z (aQ vB (aQ oB (aQ oB (M (I n8) (aQ oD ?_)))))));have cH:RV mE.m cK (⟨x1,n8,o0⟩:Z3) (.agg (Tk [[I 0],[I 0],[I 0]] [(0,I x1),(1,I n8),(2,I o0)]).flatten.toArray):=Ti rfl (Gs rfl (Gs rfl (To rfl)));generalize kJ:(Value.agg (Tk [[I 0],[I 0],[I 0]] [(0,I x1),(1,I n8),(2,I o0)]).flatten.toArray)=mK at cH;refine Y mK (kJ▸T3 (vs:=[(0,I x1),(1,I n8),(2,I o0)]) [[I 0],[I 0],[I 0]] lay_57 rfl rfl (.cons rfl (.cons rfl (.cons rfl .nil))) ⟨⟨_,rfl,rfl⟩,⟨⟨_,rfl,rfl⟩,⟨⟨_,rfl,rfl⟩,trivial⟩⟩⟩) (G (Sh (g:=mE) underlying84 key_3 rfl dF rfl rfl cH fun nK oL hs m403=>?_));have hfr:=hfr.stp hs;have t5:=t5.stp hs;have v8:=v8.stp hs rfl;have i6:=i6.stp hs;refine O (Zf (Zs (x:=.tmp 3) isAgg80 sizeOf80 t5 fun gH oK lJ=>(Zs (x:=.tmp 3) isAgg80 sizeOf80 t5 fun jH pK mJ=>?_)));obtain ⟨yB,nJ,h⟩:=Z1 h;obtain ⟨aB,oJ,h⟩:=Z1 h;refine Zs (x:=.tmp 3) isAgg80 sizeOf80 t5 fun kH qK pJ=>?_;obtain ⟨vC,qJ,h⟩:=Z1 h;obtain ⟨bE,rE,h⟩:=Z1 h;refine ab (g:=nK) (n:=9) [(2,(fun v g w=>RV g.m w yB v)),(4,(fun v g w=>RV g.m w aB v)),(6,(fun v g w=>v=I vC)),(8,(fun v _ _=>v=.bool bE))] [0,1,2,3,4,5,6,7,8] mixed (⟨fun _=>Hm,fun _=>Hm,fun _=>Ww _,fun _=>Ww _,trivial⟩) (G3 (c:=gH) rfl rfl .plain xC lJ mB (G3 (c:=jH) rfl rfl .plain xC mJ mB (Wd (φ:=fun v g w=>RV g.m w yB v) rfl rfl .plain (fun g w hd=>aJ (g:=g) (vs:=[jH]) en20 (wk20 (pK.ext hd.1) nJ) fun g' w' v hs hr=>⟨g',hs,hr⟩) (fun rF hv=>?_))));obtain ⟨_,_,_,rq406⟩:=hv;refine V up2 rfl (Zk vB) (Wd (φ:=fun v g w=>RV g.m w aB v) rfl rfl .plain (fun g w hd=>aJ (g:=g) (vs:=[gH,rF,up2]) en19 (wk19 (oK.ext hd.1) (Yv (A:=fun g w=>RV g.m w yB rF) 2 rfl rfl (Q9 hd)) (m403.ext hd.1).r oJ) fun g' w' v hs hr=>⟨g',hs,hr⟩) (fun yD hv=>?_));obtain ⟨_,_,_,rq408⟩:=hv;refine G3 (c:=kH) rfl rfl .plain xC pJ mB (Wd (φ:=fun v g w=>v=I vC) rfl rfl .plain (fun g w hd=>aJ (g:=g) (vs:=[kH]) en21 (wk21 (qK.ext hd.1) qJ) fun g' w' v hs hr=>⟨g',hs,hr⟩) (fun xL hv=>?_));obtain ⟨_,_,_,rfl⟩:=hv;refine J8 (c:=Gy yD vC 1) rfl rfl .plain (fun _ _ hd=>Zh (α:=Bool) underlying85 sizeOf4 rfl (Yv (A:=fun g w=>RV g.m w aB yD) 4 rfl rfl (Q9 hd)) rfl rE) (Wd (φ:=(fun v _ _=>v=.bool bE)) rfl rfl .plain (fun g w hd=>Ga (g:=g) isAgg4 sizeOf4 rfl (G1 (Yv (A:=fun g w=>RV g.m w aB yD) 4 rfl rfl (hop 7 rfl rfl (Q9 hd))) rE) fun v r=>⟨g,Ext.refl g w,Tz.1 r⟩) (fun yL hv=>?_));obtain ⟨_,_,_,rfl⟩:=hv;refine Jx fun sK zL hall=>?_;have hs:=hall.1;have hfr:=hfr.ext hs;have m403:=m403.ext hs;have t5:=t5.ext hs;have v8:=v8.ext hs;have i6:=i6.ext hs;have aM:=(Ts (A:=fun g w=>RV g.m w yB rF) 2 rfl hall);have bM:=(Ts (A:=fun g w=>RV g.m w aB yD) 4 rfl hall);have cM:=(G1 (Ts (A:=fun g w=>RV g.m w aB yD) 4 rfl hall) rE);clear hs hall;refine O ?_;rcases Zt h with ⟨uE,h⟩ | ⟨uE,h⟩
      ·refine Gz uE rfl (Z (H (.bool true) (O (Gb (G6 (Gj (Gj (G6 (G6 (Gj (Gj (G6 (Gj ?_)))))))))))))
       obtain rfl:=sinj h;exact ac rfl (rq (.bool true)) ⟨_,hfr,rfl,sF.back m403⟩
      ·refine G0 uE rfl ?_
       exact Zu (Te (Zd (jJ (H4 l8 x1 (⟨x1,n8,o0⟩:Z3)) _ _ ⟨sK,hfr,oB,vB,m403,mB,t5,eF,v8,oD,zD,i6,aE,zB⟩ h)))
     ·rintro uC bL dM ⟨tK,hfr,lH,mH,nH,oH,pH,qH,sH,tH,uF,vF,xF,yF⟩ h
      refine Za (aT (I (w64 (l5+(1:Int)))) yF rfl rfl (M (I (w64 (l5+(1:Int)))) ?_));exact O (sI (uC,(w64 (l5+(1:Int)))) _ _ ⟨tK,hfr,lH,mH,nH,oH,pH,qH,sH,tH,uF,vF,xF,rfl⟩ h)
    ·refine G0 oE rfl (Th (Gr (Gr (G2 ?_))))
     exact Te (Zd (pI l8 _ _ ⟨mE,hfr,oB,vB,dF,mB,t5,eF,v8,oD⟩ h))
   ·rintro cC dL eM ⟨uK,hfr,uH,xH,yH,zH,aI,bI,dI,jI⟩ h
    refine Za (aQ jI (aT (I (w64 (o0+(1:Int)))) rfl rfl rfl (H (I (w64 (o0+(1:Int)))) ?_)));exact O (mI (cC,(w64 (o0+(1:Int)))) _ _ ⟨uK,hfr,uH,xH,yH,zH,aI,bI,dI,rfl⟩ h)
 ·rintro vE eL iM ⟨jM,hfr,vK,kI⟩ h
  refine Z (H (.bool false) (O (Gb ?_)));obtain rfl:=sinj h;exact ac rfl (rq (.bool false)) ⟨_,hfr,rfl,sF.back kI⟩
def f25 (x0:List Z3) (x1:Int):Option (List Int):=
 Option.bind (α:=(List Int)) (
  lp (σ:=(List Int) × Int) (fun xE (l8,o0)=>
   bif (decide (o0<(x0.length:Int))) then
    Option.bind (α:=(List Int)) (
     (idx x0 o0).bind fun uC=>
     bif (uC.Loom==x1) then
      (apnd 8 l8 ([o0]:List Int)).bind fun y55=>
      some y55
     else
      some l8
     ) fun n8=>
    xE (n8,(w64 (o0+(1:Int))))
   else
    some l8
   ) big (([]:List Int),(0:Int))
  ) fun v8=>
 (f51 v8 (fun a0 a1=>f52 a0 a1 x0)).bind fun yE=>
 some yE
theorem en25:Enters prog 25:=yC func25
theorem wk25 {x0:List Z3} {x1:Int} (rp0:RV gI.m wI x0 up0) {r:(List Int)} (h:f25 x0 x1=some r):Fn prog 25 #[up0,I x1] gI wI (fun m w v=>RV m w r v):=by
 unfold f25 at h;refine fnE func25 rfl rfl fun g0 hm hfr=>?_;have rp0:=RVc hm rp0;refine Z (G (Tw (g:=g0) rfl rp0 fun g1 w1 p1 hs q1=>?_));have hfr:=hfr.ext hs;refine H (.slice none 0 0) ?_;have b2:OA 4004 g1 w1 3 ([]:List Int) (.slice none 0 0):=OA.nil;refine O ?_;obtain ⟨v8,hx,h⟩:=Z1 h;refine Gn (fun e w=>∃ (g:Gh) (v4:Value),Fr gI wI g w∧e 2=p1∧PT g.m w (x0:List Z3) p1∧e 4=v4∧OA 4004 g w 3 (v8:List Int) v4) (fun Q' hQ=>?_) (fun gG lG hR=>?_)
 ·replace h:=hx
  clear hx;refine Z (G (Ga (g:=g1) isAgg38 sizeOf38 rfl q1 fun oB zE=>(Y (I (x0.length:Int)) (G7 underlying38 rfl zE) (M (I 0) (O (Zr (Qz h (fun (s:(List Int) × Int) e w=>∃ (g:Gh) (v4:Value),Fr gI wI g w∧e 1=I (x1)∧e 2=p1∧PT g.m w (x0:List Z3) p1∧e 4=v4∧OA 4004 g w 3 (s.1:List Int) v4∧e 7=oB∧RV g.m w (x0:List Z3) oB∧e 8=I (x0.length:Int)∧e 9=I s.2) ⟨g1,(.slice none 0 0),hfr,rfl,rfl,q1,rfl,b2,rfl,zE,rfl,rfl⟩ (fun X31 xE dF=>?_))))))));rintro ⟨l8,o0⟩ iG mG ⟨vC,zB,hfr,l9,n9,t5,aB,i6,lB,l5,mB,g8⟩ h;refine Z (aT (.bool (decide (o0<(x0.length:Int)))) g8 mB rfl (O (Zf ?_)));rcases Zt h with ⟨vB,h⟩ | ⟨vB,h⟩
  ·refine Gz vB rfl (Zu (Zd ?_))
   obtain ⟨n8,hx,h⟩:=Z1 h;refine Gn (fun e w=>∃ (g:Gh) (v4:Value),Fr gI wI g w∧e 1=I (x1)∧e 2=p1∧PT g.m w (x0:List Z3) p1∧e 4=v4∧OA 4004 g w 3 (n8:List Int) v4∧e 7=oB∧RV g.m w (x0:List Z3) oB∧e 8=I (x0.length:Int)∧e 9=I o0) (fun Q' hQ=>?_) (fun jG sG hR=>?_)
   ·replace h:=hx
    clear hx;refine Zr (Z (aQ g8 ?_));obtain ⟨uC,bD,h⟩:=Z1 h;refine Y (Gy oB o0 3) (Zh (α:=Z3) underlying38 sizeOf57 lB l5 g8 bD) ?_;have sF:=G1 l5 bD;refine G (Ga (g:=vC) isAgg57 sizeOf57 rfl sF fun tF cD=>(G (Gu (g:=vC) 2006 (⟨0,0,0⟩:Z3) zeroValue57 (fun m w=>⟨_,(Gg Zw (Gg Zw Zw)),rfl⟩) fun uF xG vF hs b48 cb=>?_)));have hfr:=hfr.stp hs;have t5:=t5.stp hs;have i6:=i6.stp hs rfl;have l5:=l5.stp hs;have cD:=cD.stp hs;clear cb;refine H (I o0) (G (Gk (g:=uF) (v:=tF) sizeOf57 rfl b48 rfl cD fun lD yG hs b49 cb=>?_));clear cb;have hfr:=hfr.stp hs;have t5:=t5.stp hs;have i6:=i6.stp hs rfl;have l5:=l5.stp hs;refine O (Z (Y (S vF 1) (aa Jr (OB.ptr b49)) (G (Qd (g:=lD) Wi.1 isAgg3 sizeOf3 rfl b49 fun zG xF=>?_))));obtain rfl:=Zj.1 xF;refine aQ l9 (aT (.bool (uC.Loom==x1)) rfl rfl rfl (O ?_));rcases Zt h with ⟨yB,h⟩ | ⟨yB,h⟩
    ·refine Gz yB rfl (Za (aQ aB (M (I o0) (G (Gd (g:=lD) 3020 (xs:=([o0]:List Int)) (vs:=[I o0]) underlying25 sizeOf3 zeroValue3 rfl rfl (.cons rfl .nil) (RVs.cons (Zj.2 rfl) RVs.nil) rfl rfl fun yF aH cH hs o53 aG hxt hfl=>?_)))))
     have hfr:=hfr.stp hs;have t5:=t5.stp hs;have i6:=i6.stp hs rfl;have l5:=l5.stp hs;obtain ⟨y55,eF,h⟩:=Z1 h;refine G (C9 (g:=yF) Wl (i:=4004) underlying25 Jf rfl rfl i6 rfl aG eF fun bG gH cF hs b54=>?_);have hfr:=hfr.stp hs;have t5:=t5.stp hs;have l5:=l5.stp hs;refine H cF (Zb (Te ?_));cases h;exact hQ _ _ ⟨bG,cF,hfr,l9,n9,t5,rfl,b54,lB,l5,mB,g8⟩
    ·refine G0 yB rfl (Zu (Te ?_))
     cases h;exact hQ _ _ ⟨lD,zB,hfr,l9,n9,t5,aB,i6,lB,l5,mB,g8⟩
   ·clear hx
    obtain ⟨cG,nD,hfr,oD,yD,zD,aE,bE,iE,lE,mE,oE⟩:=hR;refine Za (aT (I (w64 (o0+(1:Int)))) oE rfl rfl (M (I (w64 (o0+(1:Int)))) ?_));exact O (dF (n8,(w64 (o0+(1:Int)))) _ _ ⟨cG,nD,hfr,oD,yD,zD,aE,bE,iE,lE,mE,rfl⟩ h)
  ·refine G0 vB rfl (Th (Gr (Gr (G2 ?_))))
   cases h;exact hQ _ _ ⟨vC,zB,hfr,n9,t5,aB,i6⟩
 ·clear hx
  obtain ⟨eG,nB,hfr,rE,uE,cC,vE⟩:=hR;refine Z (aQ cC (Y (.func (.func 52) #[] #[p1]) (W3 (Vo (show X _ _=p1 from rE))) ?_));obtain ⟨yE,rF,h⟩:=Z1 h;refine G (V9 (g:=eG) (i:=4004) (vs:=[nB,(.func (.func 52) #[] #[p1])]) en51 (.cons rfl (.cons rfl .nil)) (wk51 vE.toM ⟨52,#[],#[p1],rfl,en52,fun g' w' hch a0 a1 b0 b1 r hu0 hu1 hr=>by obtain rfl:=Zj.1 hu0;obtain rfl:=Zj.1 hu1;exact Fn.mono (wk52  (uE.ch hch) hr) fun _ _ _ h=>Zj.2 h⟩ rF) fun jH kG kH hs hr=>?_);obtain ⟨hrv,b58⟩:=hr;have hfr:=hfr.stp hs;subst hrv;refine O (Z (aQ cC (H nB (O (Gb ?_)))));obtain ⟨gp60,hs,rp60⟩:=OM.pub b58;have hfr:=hfr.stp hs;obtain rfl:=sinj h;exact ac rfl (rq nB) ⟨_,hfr,rp60⟩
def f29 (x0:List Int):Option Bool:=
 (f45 (0:Int) (300:Int) x0).bind fun y2=>
 some y2
theorem en29:Enters prog 29:=yC func29
theorem wk29 {x0:List Int} (rp0:RV gI.m wI x0 up0) {r:Bool} (h:f29 x0=some r):Fn prog 29 #[up0] gI wI (fun _ _ v=>v=.bool r):=by
 unfold f29 at h;refine fnE func29 rfl rfl fun g0 hm hfr=>?_;have rp0:=RVc hm rp0;refine Z (H (.bool false) (O (Z (M up0 ?_))));obtain ⟨y2,hy2,h⟩:=Z1 h;refine G (aJ (g:=g0) (vs:=[I 0,I 300,up0]) en45 (wk45 rp0 hy2) fun g1 w1_ v1 hs hr=>?_);have hfr:=hfr.ext hs;subst hr;refine H (.bool y2) (O (Gb ?_));obtain rfl:=sinj h;exact ac rfl (rq (.bool y2)) ⟨_,hfr,rfl⟩
def f32 (x0:Z4):Option Bool:=
 Option.bind (α:=Bool) (
  (f56 (0:Int) (65535:Int) ([x0.Day]:List Int)).bind fun n8=>
  bif n8 then
   (f56 (0:Int) (15:Int) ([x0.Loom]:List Int)).bind fun g8=>
   bif g8 then
    (f56 (0:Int) (7:Int) ([x0.Chain,x0.Tie]:List Int)).bind fun l8=>
    bif l8 then
     (f56 (1:Int) (60:Int) ([x0.Picks]:List Int)).bind fun v8=>
     some v8
    else
     some false
   else
    some false
  else
   some false
  ) fun i6=>
 some i6
theorem en32:Enters prog 32:=yC func32
theorem wk32 {x0:Z4} (rp0:RV gI.m wI x0 up0) {r:Bool} (h:f32 x0=some r):Fn prog 32 #[up0] gI wI (fun _ _ v=>v=.bool r):=by
 unfold f32 at h;refine fnE func32 rfl rfl fun g0 hm hfr=>?_;have rp0:=RVc hm rp0;refine Z (G (Tw (g:=g0) rfl rp0 fun g1 w1 p1 hs q1=>?_));have hfr:=hfr.ext hs;refine H (.bool false) (O ?_);obtain ⟨i6,hx,h⟩:=Z1 h;refine Gn (xD gI wI fun e w g=>e 2=.bool i6) (fun Q' hQ=>?_) (fun zE sF hR=>?_)
 ·replace h:=hx
  clear hx;refine Za (Y (S p1 0) (aa Ju (PT.ptr q1)) ?_);have yB:=Zm Ql.1 q1;refine G (Ga (g:=g1) isAgg3 sizeOf3 rfl yB fun tF zB=>?_);obtain rfl:=Zj.1 zB;refine G (Gd (g:=g1) 3005 (xs:=([x0.Day]:List Int)) (vs:=[I x0.Day]) underlying25 sizeOf3 zeroValue3 rfl rfl (.cons rfl .nil) (RVs.cons (Zj.2 rfl) RVs.nil) rfl rfl fun cC w29 uC hs o29 vC hxt hfl=>?_);have hfr:=hfr.stp hs;have q1:=q1.stp hs;obtain ⟨n8,mB,h⟩:=Z1 h;refine G (aJ (g:=cC) (vs:=[I 0,I 65535,uC]) en56 (wk56 vC mB) fun n9 cF uF hs hr=>?_);have hfr:=hfr.ext hs;have q1:=q1.ext hs;subst hr;refine M (.bool n8) ?_;rcases Zt h with ⟨l5,h⟩ | ⟨l5,h⟩
  ·refine ag (S p1 1) (aa Hx (PT.ptr q1)) rfl rfl l5 ?_
   have bD:=Zm Qi.1 q1;refine Ze (.yes2 rfl rfl l5) rfl (Ga (g:=n9) isAgg3 sizeOf3 rfl bD fun vF cD=>?_);obtain rfl:=Zj.1 cD;refine Ze (.yes2 rfl rfl l5) rfl (Gd (g:=n9) 3010 (xs:=([x0.Loom]:List Int)) (vs:=[I x0.Loom]) underlying25 sizeOf3 zeroValue3 rfl rfl (.cons rfl .nil) (RVs.cons (Zj.2 rfl) RVs.nil) rfl rfl fun lD xF nD hs o35 oD hxt hfl=>?_);have hfr:=hfr.stp hs;have q1:=q1.stp hs;obtain ⟨g8,nB,h⟩:=Z1 h;refine Ze (.yes2 rfl rfl l5) rfl (aJ (g:=lD) (vs:=[I 0,I 15,nD]) en56 (wk56 oD nB) fun l9 dF yF hs hr=>?_);have hfr:=hfr.ext hs;have q1:=q1.ext hs;subst hr;refine Y (.bool g8) (ae (b:=n8) (Tg l5 rfl)) (M (.bool g8) ?_);rcases Zt h with ⟨o0,h⟩ | ⟨o0,h⟩
   ·refine ag (S p1 2) (aa V6 (PT.ptr q1)) rfl rfl o0 ?_
    have yD:=Zm W0.1 q1;refine Ze (.yes2 rfl rfl o0) rfl (Ga (g:=l9) isAgg3 sizeOf3 rfl yD fun aG zD=>?_);obtain rfl:=Zj.1 zD;refine ag (S p1 3) (aa Ra (PT.ptr q1)) rfl rfl o0 ?_;have aE:=Zm Hf.1 q1;refine Ze (.yes2 rfl rfl o0) rfl (Ga (g:=l9) isAgg3 sizeOf3 rfl aE fun bG bE=>?_);obtain rfl:=Zj.1 bE;refine Ze (.yes2 rfl rfl o0) rfl (Gd (g:=l9) 3018 (xs:=([x0.Chain,x0.Tie]:List Int)) (vs:=[I x0.Chain,I x0.Tie]) underlying25 sizeOf3 zeroValue3 rfl rfl (.cons rfl (.cons rfl .nil)) (RVs.cons (Zj.2 rfl) (RVs.cons (Zj.2 rfl) RVs.nil)) rfl rfl fun iE cG lE hs o43 mE hxt hfl=>?_);have hfr:=hfr.stp hs;have q1:=q1.stp hs;obtain ⟨l8,oB,h⟩:=Z1 h;refine Ze (.yes2 rfl rfl o0) rfl (aJ (g:=iE) (vs:=[I 0,I 7,lE]) en56 (wk56 mE oB) fun aB eF eG hs hr=>?_);have hfr:=hfr.ext hs;have q1:=q1.ext hs;subst hr;refine Y (.bool l8) (ae (b:=g8) (Tg o0 rfl)) (M (.bool l8) ?_);rcases Zt h with ⟨t5,h⟩ | ⟨t5,h⟩
    ·refine ag (S p1 4) (aa Li (PT.ptr q1)) rfl rfl t5 ?_
     have oE:=Zm Jo.1 q1;refine Ze (.yes2 rfl rfl t5) rfl (Ga (g:=aB) isAgg3 sizeOf3 rfl oE fun gG rE=>?_);obtain rfl:=Zj.1 rE;refine Ze (.yes2 rfl rfl t5) rfl (Gd (g:=aB) 3024 (xs:=([x0.Picks]:List Int)) (vs:=[I x0.Picks]) underlying25 sizeOf3 zeroValue3 rfl rfl (.cons rfl .nil) (RVs.cons (Zj.2 rfl) RVs.nil) rfl rfl fun uE iG vE hs o49 xE hxt hfl=>?_);have hfr:=hfr.stp hs;obtain ⟨v8,vB,h⟩:=Z1 h;refine Ze (.yes2 rfl rfl t5) rfl (aJ (g:=uE) (vs:=[I 1,I 60,vE]) en56 (wk56 xE vB) fun yE rF jG hs hr=>?_);have hfr:=hfr.ext hs;subst hr;refine Y (.bool v8) (ae (b:=l8) (Tg t5 rfl)) (H (.bool v8) (Zb ?_));cases h;exact hQ _ _ ⟨yE,hfr,rfl⟩
    ·refine Zz rfl rfl t5 rfl rfl ?_
     iterate 3 refine Zz rfl rfl t5 rfl rfl ?_
     refine Y (.bool false) (ae (b:=l8) (Td t5 rfl)) (H (.bool false) (Zb ?_));cases h;exact hQ _ _ ⟨aB,hfr,rfl⟩
   ·refine Zz rfl rfl o0 rfl rfl ?_
    iterate 5 refine Zz rfl rfl o0 rfl rfl ?_
    refine Y (.bool false) (ae (b:=g8) (Td o0 rfl)) (Q5 6 rfl (H (.bool false) (Zb ?_)));cases h;exact hQ _ _ ⟨l9,hfr,rfl⟩
  ·refine Zz rfl rfl l5 rfl rfl ?_
   iterate 3 refine Zz rfl rfl l5 rfl rfl ?_
   refine Y (.bool false) (ae (b:=n8) (Td l5 rfl)) (Q5 14 rfl (H (.bool false) (Zb ?_)));cases h;exact hQ _ _ ⟨n9,hfr,rfl⟩
 ·clear hx
  obtain ⟨kG,hfr,lB⟩:=hR;refine Gb ?_;obtain rfl:=sinj h;exact ac rfl (show _=.bool i6 from lB) ⟨_,hfr,rfl⟩
def f44 (x0:Z5):Option Bool:=
 Option.bind (α:=Bool) (
  (f45 (1:Int) (100:Int) ([x0.Width]:List Int)).bind fun l8=>
  bif l8 then
   (f45 (0:Int) (100:Int) ([x0.Chain]:List Int)).bind fun g8=>
   bif g8 then
    (f45 (1:Int) (100:Int) ([x0.Woven]:List Int)).bind fun y43=>
    bif y43 then
     (f29 ([x0.Early,x0.Late]:List Int)).bind fun n8=>
     some n8
    else
     some false
   else
    some false
  else
   some false
  ) fun i6=>
 some i6
theorem en44:Enters prog 44:=yC func44
theorem wk44 {x0:Z5} (rp0:RV gI.m wI x0 up0) {r:Bool} (h:f44 x0=some r):Fn prog 44 #[up0] gI wI (fun _ _ v=>v=.bool r):=by
 unfold f44 at h;refine fnE func44 rfl rfl fun g0 hm hfr=>?_;have rp0:=RVc hm rp0;refine Z (G (Tw (g:=g0) rfl rp0 fun g1 w1 p1 hs q1=>?_));have hfr:=hfr.ext hs;refine H (.bool false) (O ?_);obtain ⟨i6,hx,h⟩:=Z1 h;refine Gn (xD gI wI fun e w g=>e 2=.bool i6) (fun Q' hQ=>?_) (fun yE rF hR=>?_)
 ·replace h:=hx
  clear hx;refine Za (Y (S p1 0) (aa Sw (PT.ptr q1)) ?_);have vB:=Zm Ji.1 q1;refine G (Ga (g:=g1) isAgg3 sizeOf3 rfl vB fun sF yB=>?_);obtain rfl:=Zj.1 yB;refine G (Gd (g:=g1) 3005 (xs:=([x0.Width]:List Int)) (vs:=[I x0.Width]) underlying25 sizeOf3 zeroValue3 rfl rfl (.cons rfl .nil) (RVs.cons (Zj.2 rfl) RVs.nil) rfl rfl fun zB w29 cC hs o29 uC hxt hfl=>?_);have hfr:=hfr.stp hs;have q1:=q1.stp hs;obtain ⟨l8,lB,h⟩:=Z1 h;refine G (aJ (g:=zB) (vs:=[I 1,I 100,cC]) en45 (wk45 uC lB) fun l9 zE tF hs hr=>?_);have hfr:=hfr.ext hs;have q1:=q1.ext hs;subst hr;refine M (.bool l8) ?_;rcases Zt h with ⟨l5,h⟩ | ⟨l5,h⟩
  ·refine ag (S p1 1) (aa Xh (PT.ptr q1)) rfl rfl l5 ?_
   have vC:=Zm Wz.1 q1;refine Ze (.yes2 rfl rfl l5) rfl (Ga (g:=l9) isAgg3 sizeOf3 rfl vC fun uF bD=>?_);obtain rfl:=Zj.1 bD;refine Ze (.yes2 rfl rfl l5) rfl (Gd (g:=l9) 3010 (xs:=([x0.Chain]:List Int)) (vs:=[I x0.Chain]) underlying25 sizeOf3 zeroValue3 rfl rfl (.cons rfl .nil) (RVs.cons (Zj.2 rfl) RVs.nil) rfl rfl fun cD vF lD hs o35 nD hxt hfl=>?_);have hfr:=hfr.stp hs;have q1:=q1.stp hs;obtain ⟨g8,mB,h⟩:=Z1 h;refine Ze (.yes2 rfl rfl l5) rfl (aJ (g:=cD) (vs:=[I 0,I 100,lD]) en45 (wk45 nD mB) fun n9 cF xF hs hr=>?_);have hfr:=hfr.ext hs;have q1:=q1.ext hs;subst hr;refine Y (.bool g8) (ae (b:=l8) (Tg l5 rfl)) (M (.bool g8) ?_);rcases Zt h with ⟨t5,h⟩ | ⟨t5,h⟩
   ·refine ag (S p1 2) (aa Yd (PT.ptr q1)) rfl rfl t5 ?_
    have oD:=Zm Qv.1 q1;refine Ze (.yes2 rfl rfl t5) rfl (Ga (g:=n9) isAgg3 sizeOf3 rfl oD fun yF yD=>?_);obtain rfl:=Zj.1 yD;refine Ze (.yes2 rfl rfl t5) rfl (Gd (g:=n9) 3016 (xs:=([x0.Woven]:List Int)) (vs:=[I x0.Woven]) underlying25 sizeOf3 zeroValue3 rfl rfl (.cons rfl .nil) (RVs.cons (Zj.2 rfl) RVs.nil) rfl rfl fun zD aG aE hs o41 bE hxt hfl=>?_);have hfr:=hfr.stp hs;have q1:=q1.stp hs;obtain ⟨y43,nB,h⟩:=Z1 h;refine Ze (.yes2 rfl rfl t5) rfl (aJ (g:=zD) (vs:=[I 1,I 100,aE]) en45 (wk45 bE nB) fun v8 dF bG hs hr=>?_);have hfr:=hfr.ext hs;have q1:=q1.ext hs;subst hr;refine Y (.bool y43) (ae (b:=g8) (Tg t5 rfl)) (M (.bool y43) ?_);rcases Zt h with ⟨o0,h⟩ | ⟨o0,h⟩
    ·refine ag (S p1 3) (aa S0 (PT.ptr q1)) rfl rfl o0 ?_
     have iE:=Zm Hg.1 q1;refine Ze (.yes2 rfl rfl o0) rfl (Ga (g:=v8) isAgg3 sizeOf3 rfl iE fun cG lE=>?_);obtain rfl:=Zj.1 lE;refine ag (S p1 4) (aa Xi (PT.ptr q1)) rfl rfl o0 ?_;have mE:=Zm W2.1 q1;refine Ze (.yes2 rfl rfl o0) rfl (Ga (g:=v8) isAgg3 sizeOf3 rfl mE fun eG oE=>?_);obtain rfl:=Zj.1 oE;refine Ze (.yes2 rfl rfl o0) rfl (Gd (g:=v8) 3024 (xs:=([x0.Early,x0.Late]:List Int)) (vs:=[I x0.Early,I x0.Late]) underlying25 sizeOf3 zeroValue3 rfl rfl (.cons rfl (.cons rfl .nil)) (RVs.cons (Zj.2 rfl) (RVs.cons (Zj.2 rfl) RVs.nil)) rfl rfl fun rE gG uE hs o49 vE hxt hfl=>?_);have hfr:=hfr.stp hs;obtain ⟨n8,oB,h⟩:=Z1 h;refine Ze (.yes2 rfl rfl o0) rfl (aJ (g:=rE) (vs:=[uE]) en29 (wk29 vE oB) fun xE eF iG hs hr=>?_);have hfr:=hfr.ext hs;subst hr;refine Y (.bool n8) (ae (b:=y43) (Tg o0 rfl)) (H (.bool n8) (Zb ?_));cases h;exact hQ _ _ ⟨xE,hfr,rfl⟩
    ·refine Zz rfl rfl o0 rfl rfl ?_
     iterate 5 refine Zz rfl rfl o0 rfl rfl ?_
     refine Y (.bool false) (ae (b:=y43) (Td o0 rfl)) (H (.bool false) (Zb ?_));cases h;exact hQ _ _ ⟨v8,hfr,rfl⟩
   ·refine Zz rfl rfl t5 rfl rfl ?_
    iterate 3 refine Zz rfl rfl t5 rfl rfl ?_
    refine Y (.bool false) (ae (b:=g8) (Td t5 rfl)) (Q5 8 rfl (H (.bool false) (Zb ?_)));cases h;exact hQ _ _ ⟨n9,hfr,rfl⟩
  ·refine Zz rfl rfl l5 rfl rfl ?_
   iterate 3 refine Zz rfl rfl l5 rfl rfl ?_
   refine Y (.bool false) (ae (b:=l8) (Td l5 rfl)) (Q5 14 rfl (H (.bool false) (Zb ?_)));cases h;exact hQ _ _ ⟨l9,hfr,rfl⟩
 ·clear hx
  obtain ⟨jG,hfr,aB⟩:=hR;refine Gb ?_;obtain rfl:=sinj h;exact ac rfl (show _=.bool i6 from aB) ⟨_,hfr,rfl⟩
def f58 (x0:Gx):Option Bool:=
 (f59 x0.Harness).bind fun y5=>
 some (y5 != (0:Int))
theorem en58:Enters prog 58:=yC func58
theorem wk58 {x0:Gx} (rp0:RV gI.m wI x0 up0) {r:Bool} (h:f58 x0=some r):Fn prog 58 #[up0] gI wI (fun _ _ v=>v=.bool r):=by
 unfold f58 at h;refine fnE func58 rfl rfl fun g0 hm hfr=>?_;have rp0:=RVc hm rp0;refine Z (G (Tw (g:=g0) rfl rp0 fun g1 w1 p1 hs q1=>?_));have hfr:=hfr.ext hs;refine H (.bool false) (O (Z (Y (S p1 1) (aa D9 (PT.ptr q1)) ?_)));have q2:=Zm Yp.1 q1;refine G (Ga (g:=g1) isAgg32 sizeOf32 rfl q2 fun v3 r3=>?_);obtain ⟨y5,hy5,h⟩:=Z1 h;refine G (aJ (g:=g1) (vs:=[v3]) en59 (wk59 r3 hy5) fun g4 w4_ v4 hs hr=>?_);have hfr:=hfr.ext hs;subst hr;refine aT (.bool (y5 != (0:Int))) rfl rfl rfl (H (.bool (y5 != (0:Int))) (O (Gb ?_)));cases h;exact ac rfl (rq (.bool (y5 != (0:Int)))) ⟨_,hfr,rfl⟩
def f73 (x0:TieHarness) (x1:Design):Option ((List Str) × Int):=
 jn (σ:=Unit) (fun _=>
  jn (σ:=Unit) (fun _=>
   Option.bind (α:=(List Str)) (
    lp (σ:=(List Str) × Int) (fun cG (nB,o0)=>
     bif (decide (o0<((x1.Rows).length:Int))) then
      Option.bind (α:=(List Str)) (
       (idx x1.Rows o0).bind fun yB=>
       (f109 (⟨x0⟩:Qr) yB).bind fun y81=>
       (apnd 16 nB ([y81]:List Str)).bind fun y84=>
       some y84
       ) fun l9=>
      cG (l9,(w64 (o0+(1:Int))))
     else
      some nB
     ) big ([],(0:Int))
    ) fun lB=>
   some (lB,(0:Int))
   ) fun eG=>
  (f108 x1).bind fun n8=>
  bif (n8 != (0:Int)) then
   some ([],n8)
  else
   bif (x1.Hooks != x0.Hooks) then
    some ([],(4:Int))
   else
    eG ()
  ) fun k7=>
 (f59 x0).bind fun n9=>
 bif (n9 != (0:Int)) then
  some ([],n9)
 else
  k7 ()
theorem en73:Enters prog 73:=yC func73
theorem wk73 {x0:TieHarness} {x1:Design} (rp0:RV gI.m wI x0 up0) (rp1:RV gI.m wI x1 up1) {r:(List Str) × Int} (h:f73 x0 x1=some r):Fn prog 73 #[up0,up1] gI wI (fun m w v=>∃ y0 y1,v=.tuple #[y0,y1]∧RV m w r.1 y0∧y1=I r.2):=by
 unfold f73 at h;refine fnE func73 rfl rfl fun g0 hm hfr=>?_;have rp0:=RVc hm rp0;have rp1:=RVc hm rp1;refine Z (G (Tw (g:=g0) rfl rp0 fun g1 w1 p1 hs q1=>?_));have hfr:=hfr.ext hs;have rp1:=rp1.ext hs;refine G (Tw (g:=g1) rfl rp1 fun g2 w2 p2 hs q2=>?_);have hfr:=hfr.ext hs;have q1:=q1.ext hs;refine H (.slice none 0 0) (H (I 0) (O (Zq h (fun (s:Unit)=>xD gI wI fun e w g=>e 2=p1∧PT g.m w (x0:TieHarness) p1∧e 3=p2∧PT g.m w (x1:Design) p2∧e 4=.slice none 0 0∧RV g.m w ([]:List Str) (Value.slice none 0 0)) (fun X7 k7 hk7 h=>?_) ?_)))
 ·refine Z (G (Ga (g:=g2) isAgg32 sizeOf32 rfl q1 fun v8 r8=>?_))
  obtain ⟨n9,xG,h⟩:=Z1 h;refine G (aJ (g:=g2) (vs:=[v8]) en59 (wk59 r8 xG) fun g9 w9_ v9 hs hr=>?_);have hfr:=hfr.ext hs;have q1:=q1.ext hs;have q2:=q2.ext hs;subst hr;refine H (I n9) (O (Z (M (I n9) (aT (.bool (n9 != (0:Int))) rfl rfl rfl (O ?_)))));rcases Zt h with ⟨bD,h⟩ | ⟨bD,h⟩
  ·refine Gz bD rfl (Z (M (I n9) (H (.slice none 0 0) (H (I n9) (O (Gb (Gj ?_)))))))
   obtain rfl:=sinj h;exact H9 rfl rfl (rq (.slice none 0 0)) (rq (I n9)) ⟨_,hfr,_,_,rfl,T8,rfl⟩
  ·refine G0 bD rfl ?_
   exact Zu (Zd (hk7 () _ _ ⟨g9,hfr,rfl,q1,rfl,q2,rfl,T8⟩ h))
 ·rintro _ iI qI ⟨gG,hfr,oD,aB,oB,i6,xE,vB⟩ h
  refine Zq h (fun (s:Unit)=>xD gI wI fun e w g=>e 2=p1∧PT g.m w (x0:TieHarness) p1∧e 3=p2∧PT g.m w (x1:Design) p2∧e 4=.slice none 0 0∧RV g.m w ([]:List Str) (Value.slice none 0 0)) (fun X22 eG yG h=>?_) ?_
  ·refine Z (G (Ga (g:=gG) isAgg34 sizeOf34 oB i6 fun kH lH=>?_))
   obtain ⟨n8,zG,h⟩:=Z1 h;refine G (aJ (g:=gG) (vs:=[kH]) en108 (wk108 lH zG) fun iE jI sI hs hr=>?_);have hfr:=hfr.ext hs;have aB:=aB.ext hs;have i6:=i6.ext hs;have vB:=vB.ext hs;subst hr;refine H (I n8) (O (Zr (Z (M (I n8) (aT (.bool (n8 != (0:Int))) rfl rfl rfl (H (.bool (n8 != (0:Int))) (O ?_)))))));rcases Zt h with ⟨cD,h⟩ | ⟨cD,h⟩
   ·refine Gz cD rfl (Z (M (I n8) (H (.slice none 0 0) (H (I n8) (O (Gb (G6 (Gj ?_))))))))
    obtain rfl:=sinj h;exact H9 rfl rfl (rq (.slice none 0 0)) (rq (I n8)) ⟨_,hfr,_,_,rfl,T8,rfl⟩
   ·refine G0 cD rfl (Z (Y (S p2 0) (Zc Y9 oB (PT.ptr i6)) ?_))
    have mH:=Zm Wu.1 i6;refine G (Ga (g:=iE) isAgg3 sizeOf3 rfl mH fun jJ nH=>?_);obtain rfl:=Zj.1 nH;refine Y (S p1 0) (Zc Xc oD (PT.ptr aB)) ?_;have oH:=Zm Wj.1 aB;refine G (Ga (g:=iE) isAgg3 sizeOf3 rfl oH fun kJ pH=>?_);obtain rfl:=Zj.1 pH;refine aT (.bool (x1.Hooks != x0.Hooks)) rfl rfl rfl (H (.bool (x1.Hooks != x0.Hooks)) (O ?_));rcases Zt h with ⟨lD,h⟩ | ⟨lD,h⟩
    ·refine Gz lD rfl (Z (H (.slice none 0 0) (H (I 4) (O (Gb (G6 (Gj ?_)))))))
     cases h;exact H9 rfl rfl (rq (.slice none 0 0)) (rq (I 4)) ⟨_,hfr,_,_,rfl,T8,rfl⟩
    ·refine G0 lD rfl ?_
     exact Zu (Te (Zd (yG () _ _ ⟨iE,hfr,oD,aB,oB,i6,xE,vB⟩ h)))
  ·rintro _ kI lJ ⟨iG,hfr,yE,zE,cF,yD,dF,eF⟩ h
   obtain ⟨lB,hx,h⟩:=Z1 h;refine Gn (fun e w=>∃ (g:Gh) (v4:Value),Fr gI wI g w∧e 4=v4∧RV g.m w (lB:List Str) v4∧OS 1004 g w 9 (lB:List Str) v4) (fun Q' hQ=>?_) (fun lI mJ hR=>?_)
   ·replace h:=hx
    clear hx;refine Z (Y (S p2 1) (Zc Yy cF (PT.ptr yD)) ?_);have qH:=Zm Wy.1 yD;refine G (Ga (g:=iG) isAgg25 sizeOf25 rfl qH fun zB jG=>(Y (I ((x1.Rows).length:Int)) (G7 underlying25 rfl jG) (M (I 0) (O (Zr (Qz h (fun (s:(List Str) × Int) e w=>∃ (g:Gh) (v4:Value),Fr gI wI g w∧e 2=p1∧PT g.m w (x0:TieHarness) p1∧e 4=v4∧RV g.m w (s.1:List Str) v4∧OS 1004 g w 9 (s.1:List Str) v4∧e 28=zB∧RV g.m w (x1.Rows:List Int) zB∧e 29=I ((x1.Rows).length:Int)∧e 30=I s.2) ⟨iG,(.slice none 0 0),hfr,yE,zE,dF,eF,OS.nil,rfl,jG,rfl,rfl⟩ (fun X61 cG aH=>?_)))))));rintro ⟨nB,o0⟩ mI nJ ⟨cC,rF,hfr,zD,t5,aE,g8,l8,uC,l5,vC,mB⟩ h;refine Z (Y (.bool (decide (o0<((x1.Rows).length:Int)))) (Gp mB vC rfl) (O (Zf ?_)));rcases Zt h with ⟨nD,h⟩ | ⟨nD,h⟩
    ·refine Gz nD rfl (Zu (Zd ?_))
     obtain ⟨l9,hx,h⟩:=Z1 h;refine Gn (fun e w=>∃ (g:Gh) (v4:Value),Fr gI wI g w∧e 2=p1∧PT g.m w (x0:TieHarness) p1∧e 4=v4∧RV g.m w (l9:List Str) v4∧OS 1004 g w 9 (l9:List Str) v4∧e 28=zB∧RV g.m w (x1.Rows:List Int) zB∧e 29=I ((x1.Rows).length:Int)∧e 30=I o0) (fun Q' hQ=>?_) (fun nI oJ hR=>?_)
     ·replace h:=hx
      clear hx;refine Zr (Z ?_);obtain ⟨yB,lE,h⟩:=Z1 h;refine Y (Gy zB o0 1) (Zh (α:=Int) underlying25 sizeOf3 uC l5 mB lE) ?_;have sH:=G1 l5 lE;refine G (Ga (g:=cC) isAgg3 sizeOf3 rfl sH fun pJ tH=>?_);obtain rfl:=Zj.1 tH;refine H (I yB) (O (Za (aQ aE (G (Ga (g:=cC) isAgg32 sizeOf32 zD t5 fun mE kG=>?_)))));have lG:RV cC.m _ (⟨x0⟩:Qr) (.agg (Tk [[I 0,.slice none 0 0]] [(0,mE)]).flatten.toArray):=Ti rfl (To (RV.cells kG));generalize cH:(Value.agg (Tk [[I 0,.slice none 0 0]] [(0,mE)]).flatten.toArray)=mG at lG;refine Y mG (cH▸T3 (vs:=[(0,mE)]) [[I 0,.slice none 0 0]] lay_216 rfl rfl (.cons rfl .nil) ⟨⟨_,rfl,Tl kG⟩,trivial⟩) (M (I yB) ?_);obtain ⟨y81,gH,h⟩:=Z1 h;refine G (aJ (g:=cC) (vs:=[mG,I yB]) en109 (wk109 lG gH) fun uH pI qJ hs hr=>?_);have hfr:=hfr.ext hs;have t5:=t5.ext hs;have g8:=g8.ext hs;have l8:=l8.ext hs;have l5:=l5.ext hs;subst hr;refine G (Gd (g:=uH) 3039 (xs:=([y81]:List Str)) (vs:=[Str.v y81]) underlying74 sizeOf9 zeroValue9 rfl rfl (.cons rfl .nil) (RVs.cons (K7.2 rfl) RVs.nil) rfl rfl fun xH rJ sJ hs o82 yH hxt hfl=>?_);have hfr:=hfr.stp hs;have t5:=t5.stp hs;have g8:=g8.stp hs;have l8:=l8.stp hs rfl;have l5:=l5.stp hs;obtain ⟨y84,jH,h⟩:=Z1 h;refine G (Qe (g:=xH) (i:=1004) underlying74 R9 rfl rfl l8 g8 rfl yH jH fun zH vJ sG hs o83 aI _=>?_);have hfr:=hfr.stp hs;have t5:=t5.stp hs;have l5:=l5.stp hs;refine H sG (Zb (Te ?_));cases h;exact hQ _ _ ⟨zH,sG,hfr,zD,t5,rfl,aI,o83,uC,l5,vC,mB⟩
     ·clear hx
      obtain ⟨bI,sF,hfr,tF,uF,vF,xF,yF,oE,rE,uE,vE⟩:=hR;refine Za (aT (I (w64 (o0+(1:Int)))) vE rfl rfl (M (I (w64 (o0+(1:Int)))) ?_));exact O (aH (l9,(w64 (o0+(1:Int)))) _ _ ⟨bI,sF,hfr,tF,uF,vF,xF,yF,oE,rE,uE,rfl⟩ h)
    ·refine G0 nD rfl (Th (Gr (Gr (G2 ?_))))
     cases h;exact hQ _ _ ⟨cC,rF,hfr,aE,g8,l8⟩
   ·clear hx
    obtain ⟨xJ,bE,hfr,aG,bG,dI⟩:=hR;refine Z (aQ aG (H bE (H (I 0) (O (Gb ?_)))));obtain rfl:=sinj h;exact H9 rfl rfl (rq bE) (rq (I 0)) ⟨_,hfr,_,_,rfl,bG,rfl⟩
def f80 (x0:Vector UInt8 8):Option (Z4 × Int):=
 (idx x0.toList (0:Int)).bind fun y3=>
 (H2 (y3.toNat:Int) (8:Int)).bind fun y6=>
 (idx x0.toList (1:Int)).bind fun y7=>
 (idx x0.toList (2:Int)).bind fun g8=>
 (idx x0.toList (3:Int)).bind fun l8=>
 (idx x0.toList (4:Int)).bind fun n8=>
 (idx x0.toList (5:Int)).bind fun v8=>
 (f57 x0).bind fun o0=>
 jn (σ:=Z4) (fun vB=>
  some (vB,(0:Int))
  ) fun k53=>
 Option.bind (α:=Bool) (
  (idx x0.toList (6:Int)).bind fun n9=>
  bif (o0.1 != n9) then
   some true
  else
   (idx x0.toList (7:Int)).bind fun lB=>
   some (o0.2 != lB)
  ) fun l9=>
 bif l9 then
  some ((⟨(Tx .or y6 (y7.toNat:Int)),(g8.toNat:Int),(l8.toNat:Int),(n8.toNat:Int),(v8.toNat:Int)⟩:Z4),(130:Int))
 else
  (f32 (⟨(Tx .or y6 (y7.toNat:Int)),(g8.toNat:Int),(l8.toNat:Int),(n8.toNat:Int),(v8.toNat:Int)⟩:Z4)).bind fun yB=>
  bif (!yB) then
   some ((⟨(Tx .or y6 (y7.toNat:Int)),(g8.toNat:Int),(l8.toNat:Int),(n8.toNat:Int),(v8.toNat:Int)⟩:Z4),(2:Int))
  else
   k53 (⟨(Tx .or y6 (y7.toNat:Int)),(g8.toNat:Int),(l8.toNat:Int),(n8.toNat:Int),(v8.toNat:Int)⟩:Z4)
theorem en80:Enters prog 80:=yC func80
theorem wk80 {x0:Vector UInt8 8} (rp0:RV gI.m wI x0 up0) {r:Z4 × Int} (h:f80 x0=some r):Fn prog 80 #[up0] gI wI (fun m w v=>∃ y0 y1,v=.tuple #[y0,y1]∧RV m w r.1 y0∧y1=I r.2):=by
 unfold f80 at h;refine fnE func80 rfl rfl fun g0 hm hfr=>?_;have rp0:=RVc hm rp0;refine Z (G (Tw (g:=g0) rfl rp0 fun g1 w1 p1 hs q1=>?_));have hfr:=hfr.ext hs;refine G (Gu (g:=g1) 2002 (⟨0,0,0,0,0⟩:Z4) zeroValue61 (fun m w=>⟨_,(Gg Zw (Gg Zw (Gg Zw (Gg Zw Zw)))),rfl⟩) fun g2 w2 p2 hs b2 cb=>?_);have hfr:=hfr.stp hs;have q1:=q1.stp hs;clear cb;refine H (I 0) (O (Z ?_));obtain ⟨y3,hy3,h⟩:=Z1 h;refine Y (S p1 (((0:Int):Int).toNat*1)) (G9 (α:=UInt8) underlying104 sizeOf5 rfl (PT.ptr q1) rfl hy3) ?_;have q4:=Wt q1 hy3;refine G (Ga (g:=g2) isAgg5 sizeOf5 rfl q4 fun v5 r5=>?_);obtain rfl:=Wa.1 r5;refine Y (I (y3.toNat:Int)) (W7 underlying5 underlying3 rfl) ?_;obtain ⟨y6,zE,h⟩:=Z1 h;refine Y (I y6) (P_shlu rfl rfl zE) ?_;obtain ⟨y7,zD,h⟩:=Z1 h;refine Y (S p1 (((1:Int):Int).toNat*1)) (G9 (α:=UInt8) underlying104 sizeOf5 rfl (PT.ptr q1) rfl zD) ?_;have q8:=Wt q1 zD;refine G (Ga (g:=g2) isAgg5 sizeOf5 rfl q8 fun v9 r9=>?_);obtain rfl:=Wa.1 r9;refine Y (I (y7.toNat:Int)) (W7 underlying5 underlying3 rfl) (aT (I (Tx .or y6 (y7.toNat:Int))) rfl rfl rfl ?_);obtain ⟨g8,vC,h⟩:=Z1 h;refine Y (S p1 (((2:Int):Int).toNat*1)) (G9 (α:=UInt8) underlying104 sizeOf5 rfl (PT.ptr q1) rfl vC) ?_;have cF:=Wt q1 vC;refine G (Ga (g:=g2) isAgg5 sizeOf5 rfl cF fun jH dF=>?_);obtain rfl:=Wa.1 dF;refine Y (I (g8.toNat:Int)) (W7 underlying5 underlying3 rfl) ?_;obtain ⟨l8,bD,h⟩:=Z1 h;refine Y (S p1 (((3:Int):Int).toNat*1)) (G9 (α:=UInt8) underlying104 sizeOf5 rfl (PT.ptr q1) rfl bD) ?_;have eF:=Wt q1 bD;refine G (Ga (g:=g2) isAgg5 sizeOf5 rfl eF fun kH rF=>?_);obtain rfl:=Wa.1 rF;refine Y (I (l8.toNat:Int)) (W7 underlying5 underlying3 rfl) ?_;obtain ⟨n8,cD,h⟩:=Z1 h;refine Y (S p1 (((4:Int):Int).toNat*1)) (G9 (α:=UInt8) underlying104 sizeOf5 rfl (PT.ptr q1) rfl cD) ?_;have sF:=Wt q1 cD;refine G (Ga (g:=g2) isAgg5 sizeOf5 rfl sF fun lH tF=>?_);obtain rfl:=Wa.1 tF;refine Y (I (n8.toNat:Int)) (W7 underlying5 underlying3 rfl) ?_;obtain ⟨v8,lD,h⟩:=Z1 h;refine Y (S p1 (((5:Int):Int).toNat*1)) (G9 (α:=UInt8) underlying104 sizeOf5 rfl (PT.ptr q1) rfl lD) ?_;have uF:=Wt q1 lD;refine G (Ga (g:=g2) isAgg5 sizeOf5 rfl uF fun mH vF=>?_);obtain rfl:=Wa.1 vF;refine Y (I (v8.toNat:Int)) (W7 underlying5 underlying3 rfl) ?_;have aE:RV g2.m w2 (⟨(Tx .or y6 (y7.toNat:Int)),(g8.toNat:Int),(l8.toNat:Int),(n8.toNat:Int),(v8.toNat:Int)⟩:Z4) (.agg (Tk [[I 0],[I 0],[I 0],[I 0],[I 0]] [(0,I (Tx .or y6 (y7.toNat:Int))),(1,I (g8.toNat:Int)),(2,I (l8.toNat:Int)),(3,I (n8.toNat:Int)),(4,I (v8.toNat:Int))]).flatten.toArray):=Ti rfl (Gs rfl (Gs rfl (Gs rfl (Gs rfl (To rfl)))));generalize mE:(Value.agg (Tk [[I 0],[I 0],[I 0],[I 0],[I 0]] [(0,I (Tx .or y6 (y7.toNat:Int))),(1,I (g8.toNat:Int)),(2,I (l8.toNat:Int)),(3,I (n8.toNat:Int)),(4,I (v8.toNat:Int))]).flatten.toArray)=bE at aE;refine Y bE (mE▸T3 (vs:=[(0,I (Tx .or y6 (y7.toNat:Int))),(1,I (g8.toNat:Int)),(2,I (l8.toNat:Int)),(3,I (n8.toNat:Int)),(4,I (v8.toNat:Int))]) [[I 0],[I 0],[I 0],[I 0],[I 0]] M5 rfl rfl (.cons rfl (.cons rfl (.cons rfl (.cons rfl (.cons rfl .nil))))) ⟨⟨_,rfl,rfl⟩,⟨⟨_,rfl,rfl⟩,⟨⟨_,rfl,rfl⟩,⟨⟨_,rfl,rfl⟩,⟨⟨_,rfl,rfl⟩,trivial⟩⟩⟩⟩⟩) (G (Gk (g:=g2) (v:=bE) sizeOf61 rfl b2 rfl aE fun iE nH hs b23 cb=>?_));clear cb;have hfr:=hfr.stp hs;have q1:=q1.stp hs;refine O (Z (G (Ga (g:=iE) isAgg104 sizeOf104 rfl q1 fun xF yF=>?_)));obtain ⟨o0,oE,h⟩:=Z1 h;refine G (aJ (g:=iE) (vs:=[xF]) en57 (wk57 yF oE) fun zB zG oH hs hr=>?_);have hfr:=hfr.ext hs;have q1:=q1.ext hs;have b23:=b23.ext hs
 obtain ⟨xG,yG,rfl,rfl,rfl⟩:=hr;refine M (.tuple #[.int .u8 (UInt8.toNat o0.1),.int .u8 (UInt8.toNat o0.2)]) (Y (.int .u8 (UInt8.toNat o0.1)) (Zi rfl rfl) (Y (.int .u8 (UInt8.toNat o0.2)) (Zi rfl rfl) (H (.int .u8 (UInt8.toNat o0.1)) (H (.int .u8 (UInt8.toNat o0.2)) (O (Zq h (fun (s:Z4)=>xD gI wI fun e w g=>e 2=p2∧OB 2002 g w 61 (s:Z4) p2) (fun X53 k53 rE h=>?_) ?_))))))
 ·refine Zr ?_
  obtain ⟨l9,hx,h⟩:=Z1 h;refine Gn (xD gI wI fun e w g=>e 2=p2∧OB 2002 g w 61 ((⟨(Tx .or y6 (y7.toNat:Int)),(g8.toNat:Int),(l8.toNat:Int),(n8.toNat:Int),(v8.toNat:Int)⟩:Z4):Z4) p2∧e 32=.bool l9) (fun Q' hQ=>?_) (fun aH pH hR=>?_)
  ·replace h:=hx
   clear hx;refine Za (M (.int .u8 (UInt8.toNat o0.1)) ?_);obtain ⟨n9,nD,h⟩:=Z1 h;refine Y (S p1 (((6:Int):Int).toNat*1)) (G9 (α:=UInt8) underlying104 sizeOf5 rfl (PT.ptr q1) rfl nD) ?_;have q62:=Wt q1 nD;refine G (Ga (g:=zB) isAgg5 sizeOf5 rfl q62 fun qH aG=>?_);obtain rfl:=Wa.1 aG;refine Y (.bool (o0.1 != n9)) (P_u8 rfl rfl rfl) (M (.bool (o0.1 != n9)) ?_);rcases Zt h with ⟨i6,h⟩ | ⟨i6,h⟩
   ·refine Zz rfl rfl i6 rfl rfl ?_
    iterate 3 refine Zz rfl rfl i6 rfl rfl ?_
    refine Y (.bool true) (ae (b:=(o0.1 != n9)) (Tg i6 rfl)) (H (.bool true) (Zb ?_));cases h;exact hQ _ _ ⟨zB,hfr,rfl,b23,rfl⟩
   ·refine ag (.int .u8 (UInt8.toNat o0.2)) (ai) rfl rfl i6 ?_
    obtain ⟨lB,oD,h⟩:=Z1 h;refine ag (S p1 (((7:Int):Int).toNat*1)) (G9 (α:=UInt8) underlying104 sizeOf5 rfl (PT.ptr q1) rfl oD) rfl rfl i6 ?_;have bG:=Wt q1 oD;refine Ze (.yes2 rfl rfl i6) rfl (Ga (g:=zB) isAgg5 sizeOf5 rfl bG fun sH cG=>?_);obtain rfl:=Wa.1 cG;refine ag (.bool (o0.2 != lB)) (P_u8 rfl rfl rfl) rfl rfl i6 (Y (.bool (o0.2 != lB)) (ae (b:=(o0.1 != n9)) (Td i6 rfl)) (H (.bool (o0.2 != lB)) (Zb ?_)));cases h;exact hQ _ _ ⟨zB,hfr,rfl,b23,rfl⟩
  ·clear hx
   obtain ⟨cC,hfr,l5,t5,mB⟩:=hR;rcases Zt h with ⟨nB,h⟩ | ⟨nB,h⟩
   ·refine Ta (Eq.trans (show X _ _=.bool l9 from mB) (congrArg Value.bool nB)) (Z (G (Tr (g:=cC) isAgg61 sizeOf61 l5 t5 fun eG gG=>(G (Gk (g:=cC) (v:=eG) sizeOf61 l5 t5 rfl gG fun tH uH hs b72 cb=>?_)))))
    clear cb;have hfr:=hfr.stp hs;refine H (I 130) (O (Gb (G6 (Gj ?_))));obtain rfl:=sinj h;obtain ⟨ad73,cv73,hp73,uE,cr73⟩:=Qh isAgg61 sizeOf61 b72;exact Kv rfl rfl ((show _=p2 from l5).trans hp73) uE (show _=I 130 from rfl) ⟨_,hfr,_,_,rfl,cr73,rfl⟩
   ·refine Gv (Eq.trans (show X _ _=.bool l9 from mB) (congrArg Value.bool nB)) (Z (G (Tr (g:=cC) isAgg61 sizeOf61 l5 t5 fun iG jG=>?_)))
    obtain ⟨yB,vE,h⟩:=Z1 h;refine G (aJ (g:=cC) (vs:=[iG]) en32 (wk32 jG vE) fun yD cH xH hs hr=>?_);have hfr:=hfr.ext hs;have t5:=t5.ext hs;subst hr;refine Y (.bool (!yB)) (Qw rfl) (H (.bool (!yB)) (O ?_));rcases Zt h with ⟨oB,h⟩ | ⟨oB,h⟩
    ·refine Gz oB rfl (Z (G (Tr (g:=yD) isAgg61 sizeOf61 l5 t5 fun kG lG=>(G (Gk (g:=yD) (v:=kG) sizeOf61 l5 t5 rfl lG fun yH zH hs b79 cb=>?_)))))
     clear cb;have hfr:=hfr.stp hs;refine H (I 2) (O (Gb (G6 (Gj ?_))));obtain rfl:=sinj h;obtain ⟨ad80,cv80,hp80,xE,cr80⟩:=Qh isAgg61 sizeOf61 b79;exact Kv rfl rfl ((show _=p2 from l5).trans hp80) xE (show _=I 2 from rfl) ⟨_,hfr,_,_,rfl,cr80,rfl⟩
    ·refine G0 oB rfl ?_
     exact Zu (Te (Zd (rE (⟨(Tx .or y6 (y7.toNat:Int)),(g8.toNat:Int),(l8.toNat:Int),(n8.toNat:Int),(v8.toNat:Int)⟩:Z4) _ _ ⟨yD,hfr,l5,t5⟩ h)))
 ·rintro vB gH aI ⟨lE,hfr,aB,uC⟩ h
  refine Z (G (Tr (g:=lE) isAgg61 sizeOf61 aB uC fun mG sG=>(G (Gk (g:=lE) (v:=mG) sizeOf61 aB uC rfl sG fun bI dI hs b83 cb=>?_))));clear cb;have hfr:=hfr.stp hs;refine H (I 0) (O (Gb ?_));obtain rfl:=sinj h;obtain ⟨ad84,cv84,hp84,yE,cr84⟩:=Qh isAgg61 sizeOf61 b83;exact Kv rfl rfl ((show _=p2 from aB).trans hp84) yE (show _=I 0 from rfl) ⟨_,hfr,_,_,rfl,cr84,rfl⟩
end Go.Proofs.YtpglkdijpcgcaaaGreatDoor
