import Derived.Test.YtplaipkjhlkjgaaCode2
set_option maxRecDepth 8000
set_option maxHeartbeats 4000000
namespace Go.Proofs.Ytplaipkjhlkjgaa
open Go.RowKit
def f15 :Option (Bool):=
 (f29 ((⟨(⟨(4:Int),([(0:Int),(1:Int),(2:Int),(3:Int),(2:Int),(1:Int)]:List Int)⟩:TieHarness),(⟨(4:Int),([(1:Int),(6:Int)]:List Int)⟩:Design)⟩:FaultLoom)) (([(⟨(1:Int),(4:Int),false⟩:Zy)]:List Zy))).bind fun l5=>
 (f30 ((⟨(⟨(4:Int),([(0:Int),(1:Int),(2:Int),(3:Int),(2:Int),(1:Int)]:List Int)⟩:TieHarness),(⟨(4:Int),([(1:Int),(6:Int)]:List Int)⟩:Design)⟩:FaultLoom)) ((⟨(1:Int),(1:Int),(2:Int),0,false⟩:Zv)) ((⟨(5:Int),0,0,(4:Int),false⟩:Zv))).bind fun o0=>
 Option.bind (α:=Bool) (
  bif (l5.2.2 == (0 : Int)) then
   bif (o0.2.2 == (0 : Int)) then
    bif (((l5.1).length : Int) == (5 : Int)) then
     bif (!l5.2.1) then
      bif (o0.1 == (1 : Int)) then
       some ((o0.2.1 == (2:Int)))
      else
       some (false)
     else
      some (false)
    else
     some (false)
   else
    some (false)
  else
   some (false)
  ) fun l9=>
 some (l9)
theorem en15:Enters Try.prog 15:=enters_of Try.func15 (by kernel_rfl) rfl
theorem wk15 {gI:Gh} {wI:World}   {r:Bool} (h:f15 =some r):Fn Try.prog 15 #[] gI wI (fun _ _ v=>v=.bool (r)):=by
 unfold f15 at h;refine Gz Try.func15 rfl (Nat.le_of_ble_eq_true rfl) fun g0 hm hfr=>?_;show E _ 52 none _ _ _ _ _;refine Zf (Za (Zg (.bool false) rfl rfl ?_));refine Zb (Zd (Zf (Za (Ze .plain rfl (Gl (g:=g0) 3008 (xs:=([(0:Int),(1:Int),(2:Int),(3:Int),(2:Int),(1:Int)]:List Int)) (vs:=[.int .i64 (0),.int .i64 (1),.int .i64 (2),.int .i64 (3),.int .i64 (2),.int .i64 (1)]) Try.underlying26 Try.sizeOf3 Try.zeroValue3 rfl rfl (.cons rfl (.cons rfl (.cons rfl (.cons rfl (.cons rfl (.cons rfl .nil)))))) (RVs.cons (Zj.2 rfl) (RVs.cons (Zj.2 rfl) (RVs.cons (Zj.2 rfl) (RVs.cons (Zj.2 rfl) (RVs.cons (Zj.2 rfl) (RVs.cons (Zj.2 rfl) RVs.nil)))))) rfl rfl fun g1 w1 v1 hs o1 r1 hxt hfl=>?_)))));have hfr:=hfr.stp hs;have r2:RV g1.m _ (⟨(4:Int),([(0:Int),(1:Int),(2:Int),(3:Int),(2:Int),(1:Int)]:List Int)⟩:TieHarness) (.agg (Gy [[.int .i64 0],[.slice none 0 0]] [(0,.int .i64 (4)),(1,v1)]).flatten.toArray):=Th rfl (Gu (rfl) (Tl (RV.cells r1)));generalize hv2:(Value.agg (Gy [[.int .i64 0],[.slice none 0 0]] [(0,.int .i64 (4)),(1,v1)]).flatten.toArray)=v2 at r2;refine Zz v2 (hv2 ▸ Qb (vs:=[(0,.int .i64 (4)),(1,v1)]) [[.int .i64 0],[.slice none 0 0]] lay_28 rfl rfl (.cons rfl (.cons rfl .nil)) ⟨⟨_,rfl,rfl⟩,⟨⟨_,rfl,Tb r1⟩,trivial⟩⟩) rfl ?_;refine Ze .plain rfl (Gl (g:=g1) 3010 (xs:=([(1:Int),(6:Int)]:List Int)) (vs:=[.int .i64 (1),.int .i64 (6)]) Try.underlying26 Try.sizeOf3 Try.zeroValue3 rfl rfl (.cons rfl (.cons rfl .nil)) (RVs.cons (Zj.2 rfl) (RVs.cons (Zj.2 rfl) RVs.nil)) rfl rfl fun g3 w3 v3 hs o3 r3 hxt hfl=>?_);have hfr:=hfr.stp hs;have r2:=r2.stp hs;have r4:RV g3.m _ (⟨(4:Int),([(1:Int),(6:Int)]:List Int)⟩:Design) (.agg (Gy [[.int .i64 0],[.slice none 0 0]] [(0,.int .i64 (4)),(1,v3)]).flatten.toArray):=Th rfl (Gu (rfl) (Tl (RV.cells r3)));generalize lD:(Value.agg (Gy [[.int .i64 0],[.slice none 0 0]] [(0,.int .i64 (4)),(1,v3)]).flatten.toArray)=v4 at r4;refine Zz v4 (lD ▸ Qb (vs:=[(0,.int .i64 (4)),(1,v3)]) [[.int .i64 0],[.slice none 0 0]] Lr rfl rfl (.cons rfl (.cons rfl .nil)) ⟨⟨_,rfl,rfl⟩,⟨⟨_,rfl,Tb r3⟩,trivial⟩⟩) rfl ?_;have r5:RV g3.m _ (⟨(⟨(4:Int),([(0:Int),(1:Int),(2:Int),(3:Int),(2:Int),(1:Int)]:List Int)⟩:TieHarness),(⟨(4:Int),([(1:Int),(6:Int)]:List Int)⟩:Design)⟩:FaultLoom) (.agg (Gy [[.int .i64 0,.slice none 0 0],[.int .i64 0,.slice none 0 0]] [(0,v2),(1,v4)]).flatten.toArray):=Th rfl (Gu (RV.cells r2) (Tl (RV.cells r4)));generalize nD:(Value.agg (Gy [[.int .i64 0,.slice none 0 0],[.int .i64 0,.slice none 0 0]] [(0,v2),(1,v4)]).flatten.toArray)=v5 at r5;refine Zz v5 (nD ▸ Qb (vs:=[(0,v2),(1,v4)]) [[.int .i64 0,.slice none 0 0],[.int .i64 0,.slice none 0 0]] lay_32 rfl rfl (.cons rfl (.cons rfl .nil)) ⟨⟨_,rfl,Tb r2⟩,⟨⟨_,rfl,Tb r4⟩,trivial⟩⟩) rfl ?_;refine Ze .plain rfl (Tj (g:=g3) 2001 (⟨⟨0,[]⟩,⟨0,[]⟩⟩:FaultLoom) Try.zeroValue32 (fun m w=>⟨_,(Gw (Gw Zx Wk) (Gw Zx Wk)),rfl⟩) fun g6 w6 p6 hs b6 cb=>?_);have hfr:=hfr.stp hs;have r5:=r5.stp hs;have vE:OSF 2001 60101 1 g6 w6 3 32 ([]:List Int) p6:=cb.osf (by rfl);have xE:OSF 2001 60103 3 g6 w6 3 32 ([]:List Int) p6:=cb.osf (by rfl);clear cb;refine Ze .plain rfl (Gr (g:=g6) (v:=v5) Try.sizeOf32 rfl b6 rfl r5 fun g7 w7 hs b7 cb=>?_);clear cb;have hfr:=hfr.stp hs;refine Zb (Zd (Zf (Za (Ze .plain rfl (Wg (g:=g7) Try.isAgg32 Try.sizeOf32 rfl b7 fun v8 r8=>?_)))));have r9:RV g7.m w7 (⟨(1:Int),(4:Int),false⟩:Zy) (.agg (Gy [[.int .i64 0],[.int .i64 0],[.bool false]] [(0,.int .i64 (1)),(1,.int .i64 (4))]).flatten.toArray):=Th rfl (Gu (rfl) (Gu (rfl) (Tl (Wu))));generalize oD:(Value.agg (Gy [[.int .i64 0],[.int .i64 0],[.bool false]] [(0,.int .i64 (1)),(1,.int .i64 (4))]).flatten.toArray)=v9 at r9;refine Zz v9 (oD ▸ Qb (vs:=[(0,.int .i64 (1)),(1,.int .i64 (4))]) [[.int .i64 0],[.int .i64 0],[.bool false]] lay_93 rfl rfl (.cons rfl (.cons rfl .nil)) ⟨⟨_,rfl,rfl⟩,⟨⟨_,rfl,rfl⟩,trivial⟩⟩) rfl ?_;refine Ze .plain rfl (Gl (g:=g7) 3016 (xs:=([(⟨(1:Int),(4:Int),false⟩:Zy)]:List Zy)) (vs:=[v9]) Try.underlying94 Try.sizeOf93 Try.zeroValue93 rfl rfl (.cons rfl .nil) (RVs.cons r9 RVs.nil) rfl rfl fun yD cF zD hs o10 aE hxt hfl=>?_)
 have hfr:=hfr.stp hs;have b7:=b7.stp hs rfl;have r8:=r8.stp hs;obtain ⟨l5,uC,h⟩:=Gd h;refine Ze .plain rfl (Zp (g:=yD) (vs:=[v8,zD]) en29 (.cons rfl (.cons rfl .nil)) (wk29 r8 aE uC) fun mB nB dF hs hr=>?_);have hfr:=hfr.ext hs;have b7:=b7.ext hs;obtain ⟨n9,lE,mE,rfl,lB,rfl,rfl⟩:=hr;refine Zn (.tuple #[n9,.bool (l5.2.1),.int .i64 (l5.2.2)]) rfl rfl ?_;refine Zz n9 (Zi rfl rfl) rfl ?_;refine Zz (.bool (l5.2.1)) (Zi rfl rfl) rfl ?_;refine Zz (.int .i64 (l5.2.2)) (Zi rfl rfl) rfl ?_;refine Zg n9 rfl rfl ?_;refine Zg (.bool (l5.2.1)) rfl rfl ?_;refine Zg (.int .i64 (l5.2.2)) rfl rfl ?_;refine Zb (Zd (Zf (Za (Ze .plain rfl (Wg (g:=mB) Try.isAgg32 Try.sizeOf32 rfl b7 fun bE iE=>?_)))));have vB:RV mB.m nB (⟨(1:Int),(1:Int),(2:Int),0,false⟩:Zv) (.agg (Gy [[.int .i64 0],[.int .i64 0],[.int .i64 0],[.int .i64 0],[.bool false]] [(0,.int .i64 (1)),(1,.int .i64 (1)),(2,.int .i64 (2))]).flatten.toArray):=Th rfl (Gu (rfl) (Gu (rfl) (Gu (rfl) (Gu (Zx) (Tl (Wu))))));generalize vC:(Value.agg (Gy [[.int .i64 0],[.int .i64 0],[.int .i64 0],[.int .i64 0],[.bool false]] [(0,.int .i64 (1)),(1,.int .i64 (1)),(2,.int .i64 (2))]).flatten.toArray)=yB at vB;refine Zz yB (vC ▸ Qb (vs:=[(0,.int .i64 (1)),(1,.int .i64 (1)),(2,.int .i64 (2))]) [[.int .i64 0],[.int .i64 0],[.int .i64 0],[.int .i64 0],[.bool false]] Ds rfl rfl (.cons rfl (.cons rfl (.cons rfl .nil))) ⟨⟨_,rfl,rfl⟩,⟨⟨_,rfl,rfl⟩,⟨⟨_,rfl,rfl⟩,trivial⟩⟩⟩) rfl ?_;have zB:RV mB.m nB (⟨(5:Int),0,0,(4:Int),false⟩:Zv) (.agg (Gy [[.int .i64 0],[.int .i64 0],[.int .i64 0],[.int .i64 0],[.bool false]] [(0,.int .i64 (5)),(3,.int .i64 (4))]).flatten.toArray):=Th rfl (Gu (rfl) (Gu (Zx) (Gu (Zx) (Gu (rfl) (Tl (Wu))))));generalize bD:(Value.agg (Gy [[.int .i64 0],[.int .i64 0],[.int .i64 0],[.int .i64 0],[.bool false]] [(0,.int .i64 (5)),(3,.int .i64 (4))]).flatten.toArray)=cC at zB;refine Zz cC (bD ▸ Qb (vs:=[(0,.int .i64 (5)),(3,.int .i64 (4))]) [[.int .i64 0],[.int .i64 0],[.int .i64 0],[.int .i64 0],[.bool false]] Ds rfl rfl (.cons rfl (.cons rfl .nil)) ⟨⟨_,rfl,rfl⟩,⟨⟨_,rfl,rfl⟩,trivial⟩⟩) rfl ?_;obtain ⟨o0,cD,h⟩:=Gd h;refine Ze .plain rfl (Zp (g:=mB) (vs:=[bE,yB,cC]) en30 (.cons rfl (.cons rfl (.cons rfl .nil))) (wk30 iE vB zB cD) fun aB yE eF hs hr=>?_);have hfr:=hfr.ext hs;have lB:=lB.ext hs;obtain ⟨oE,rE,uE,rfl,rfl,rfl,rfl⟩:=hr;refine Zn (.tuple #[.int .i64 (o0.1),.int .i64 (o0.2.1),.int .i64 (o0.2.2)]) rfl rfl ?_;refine Zz (.int .i64 (o0.1)) (Zi rfl rfl) rfl ?_;refine Zz (.int .i64 (o0.2.1)) (Zi rfl rfl) rfl ?_;refine Zz (.int .i64 (o0.2.2)) (Zi rfl rfl) rfl ?_;refine Zg (.int .i64 (o0.1)) rfl rfl ?_;refine Zg (.int .i64 (o0.2.1)) rfl rfl ?_;refine Zg (.int .i64 (o0.2.2)) rfl rfl ?_;refine Zb (Zd ?_);obtain ⟨l9,hx,h⟩:=Gd h;refine Gx (fun e w=>∃ (g:Gh) ,Fr gI wI g w∧e 0=.bool (l9)) (fun Q' hQ=>?_) (fun zE rF hR=>?_)
 ·replace h := hx
  clear hx;refine Za (Zn (.int .i64 (l5.2.2)) rfl rfl ?_);refine Gp (.bool ((l5.2.2 == (0:Int)))) rfl rfl rfl rfl ?_;refine Zn (.bool ((l5.2.2 == (0:Int)))) rfl rfl ?_;rcases Zt h with ⟨i6,h⟩ | ⟨i6,h⟩
  ·refine Ga (.int .i64 (o0.2.2)) (Zk rfl) rfl rfl i6 rfl ?_
   refine Ga (.bool ((o0.2.2 == (0:Int)))) (Te rfl rfl rfl) rfl rfl i6 rfl ?_;refine Zz (.bool ((o0.2.2 == (0:Int)))) (Zl (b:=(l5.2.2 == (0:Int))) rfl (Qn i6 rfl)) rfl ?_;refine Zn (.bool ((o0.2.2 == (0:Int)))) rfl rfl ?_;rcases Zt h with ⟨t5,h⟩ | ⟨t5,h⟩
   ·refine Ga n9 (Zk rfl) rfl rfl t5 rfl ?_
    refine Ga (.int .i64 ((l5.1).length:Int)) (Qv Try.underlying42 rfl lB) rfl rfl t5 rfl ?_;refine Ga (.bool ((((l5.1).length:Int) == (5:Int)))) (Te rfl rfl rfl) rfl rfl t5 rfl ?_;refine Zz (.bool ((((l5.1).length:Int) == (5:Int)))) (Zl (b:=(o0.2.2 == (0:Int))) rfl (Qn t5 rfl)) rfl ?_;refine Zn (.bool ((((l5.1).length:Int) == (5:Int)))) rfl rfl ?_;rcases Zt h with ⟨g8,h⟩ | ⟨g8,h⟩
    ·refine Ga (.bool (l5.2.1)) (Zk rfl) rfl rfl g8 rfl ?_
     refine Ga (.bool (!l5.2.1)) (Kh rfl) rfl rfl g8 rfl ?_;refine Zz (.bool (!l5.2.1)) (Zl (b:=(((l5.1).length:Int) == (5:Int))) rfl (Qn g8 rfl)) rfl ?_;refine Zn (.bool (!l5.2.1)) rfl rfl ?_;rcases Zt h with ⟨l8,h⟩ | ⟨l8,h⟩
     ·refine Ga (.int .i64 (o0.1)) (Zk rfl) rfl rfl l8 rfl ?_
      refine Ga (.bool ((o0.1 == (1:Int)))) (Te rfl rfl rfl) rfl rfl l8 rfl ?_;refine Zz (.bool ((o0.1 == (1:Int)))) (Zl (b:=(!l5.2.1)) rfl (Qn l8 rfl)) rfl ?_;refine Zn (.bool ((o0.1 == (1:Int)))) rfl rfl ?_;rcases Zt h with ⟨n8,h⟩ | ⟨n8,h⟩
      ·refine Ga (.int .i64 (o0.2.1)) (Zk rfl) rfl rfl n8 rfl ?_
       refine Ga (.bool ((o0.2.1 == (2:Int)))) (Te rfl rfl rfl) rfl rfl n8 rfl ?_;refine Zz (.bool ((o0.2.1 == (2:Int)))) (Zl (b:=(o0.1 == (1:Int))) rfl (Qn n8 rfl)) rfl ?_;refine Zg (.bool ((o0.2.1 == (2:Int)))) rfl rfl ?_;refine Zb ?_;obtain rfl:=sinj h;exact hQ _ _ ⟨aB,hfr,rfl⟩
      ·refine Gb rfl rfl n8 rfl rfl ?_
       refine Gb rfl rfl n8 rfl rfl ?_;refine Zz (.bool false) (Zl (b:=(o0.1 == (1:Int))) rfl (Tw n8 rfl)) rfl ?_;refine Zg (.bool false) rfl rfl ?_;refine Zb ?_;obtain rfl:=sinj h;exact hQ _ _ ⟨aB,hfr,rfl⟩
     ·refine Gb rfl rfl l8 rfl rfl ?_
      refine Gb rfl rfl l8 rfl rfl ?_;refine Zz (.bool false) (Zl (b:=(!l5.2.1)) rfl (Tw l8 rfl)) rfl ?_;refine Hp 4 rfl ?_;refine Zg (.bool false) rfl rfl ?_;refine Zb ?_;obtain rfl:=sinj h;exact hQ _ _ ⟨aB,hfr,rfl⟩
    ·refine Gb rfl rfl g8 rfl rfl ?_
     refine Gb rfl rfl g8 rfl rfl ?_;refine Zz (.bool false) (Zl (b:=(((l5.1).length:Int) == (5:Int))) rfl (Tw g8 rfl)) rfl ?_;refine Hp 8 rfl ?_;refine Zg (.bool false) rfl rfl ?_;refine Zb ?_;obtain rfl:=sinj h;exact hQ _ _ ⟨aB,hfr,rfl⟩
   ·refine Gb rfl rfl t5 rfl rfl ?_
    refine Gb rfl rfl t5 rfl rfl ?_;refine Gb rfl rfl t5 rfl rfl ?_;refine Zz (.bool false) (Zl (b:=(o0.2.2 == (0:Int))) rfl (Tw t5 rfl)) rfl ?_;refine Hp 12 rfl ?_;refine Zg (.bool false) rfl rfl ?_;refine Zb ?_;obtain rfl:=sinj h;exact hQ _ _ ⟨aB,hfr,rfl⟩
  ·refine Gb rfl rfl i6 rfl rfl ?_
   refine Gb rfl rfl i6 rfl rfl ?_;refine Zz (.bool false) (Zl (b:=(l5.2.2 == (0:Int))) rfl (Tw i6 rfl)) rfl ?_;refine Hp 17 rfl ?_;refine Zg (.bool false) rfl rfl ?_;refine Zb ?_;obtain rfl:=sinj h;exact hQ _ _ ⟨aB,hfr,rfl⟩
 ·clear hx
  obtain ⟨sF,hfr,oB⟩:=hR;refine Gq ?_;obtain rfl:=sinj h;exact Qq rfl rfl (show _=.bool (l9) from oB) ⟨_,hfr,rfl⟩
theorem W20 {iO:Nat} {gI:Gh} {wI:World} {x0:List Int} {up0:Value} (rp0:RV gI.m wI x0 up0) {r:(List Int)} (h:f20 x0=some r):FnG Try.prog 20 #[up0] gI wI (fun g w v=>OWx (Ow.list 3 (Ow.sh Int)) iO g w r v):=by
 unfold f20 at h;refine Vy Try.func20 rfl (Nat.le_of_ble_eq_true rfl) fun g0 hm hfr=>?_;have rp0:RV g0.m wI x0 up0:=hm ▸ rp0;show E _ 6 none _ _ _ _ _;refine Zf (Za (Zg (.slice none 0 0) rfl rfl ?_));have b1:OA 4002 g0 wI 3 ([]:List Int) (.slice none 0 0):=OA.nil;refine Zb (Zd (Zf (Za (Ze .plain rfl (Gl (g:=g0) 3003 (xs:=([]:List Int)) (vs:=[]) Try.underlying26 Try.sizeOf3 Try.zeroValue3 rfl rfl .nil RVs.nil rfl rfl fun g2 w2 v2 hs o2 r2 hxt hfl=>?_)))));have hfr:=hfr.stp hs;have rp0:=rp0.stp hs;refine Zn up0 rfl rfl ?_;obtain ⟨y4,o0,h⟩:=Gd h;have oa3:=OA.ofOS o2;refine Ze .plain rfl (D_appendA (g:=g2) Yl (i:=3003) Try.underlying26 Vr rfl rfl oa3 rfl rp0 o0 fun g3 w3 v3 hs b3=>?_);have hfr:=hfr.stp hs;refine Zg v3 rfl rfl ?_;refine Zb (Zd (Gq ?_));obtain rfl:=sinj h;obtain ⟨sk5,ow5,ok5⟩:=OA.toW b3;obtain ⟨gh,hxh,_,homh⟩:=OW.hand (i:=iO) hfr ow5 ok5;exact Qq rfl rfl (show _=v3 from rfl) ⟨gh,hxh,homh⟩
theorem W7 {iO:Nat} {gI:Gh} {wI:World} {x0:Design} {up0:Value} (rp0:RV gI.m wI x0 up0) {r:Design} (h:f7 x0=some r):FnG Try.prog 7 #[up0] gI wI (fun g w v=>OWx ow_Design iO g w r v):=by
 unfold f7 at h;refine Vy Try.func7 rfl (Nat.le_of_ble_eq_true rfl) fun g0 hm hfr=>?_;have rp0:RV g0.m wI x0 up0:=hm ▸ rp0;show E _ 9 none _ _ _ _ _;refine Zf (Za (Ze .plain rfl (Tx (g:=g0) rfl rp0 fun g1 w1 p1 hs q1=>?_)));have hfr:=hfr.ext hs;refine Ze .plain rfl (Tj (g:=g1) 2002 (⟨0,[]⟩:Design) Try.zeroValue30 (fun m w=>⟨_,(Gw Zx Wk),rfl⟩) fun g2 w2 p2 hs b2 cb=>?_);have hfr:=hfr.stp hs;have q1:=q1.stp hs;have n8:OSF 2002 60201 1 g2 w2 3 30 ([]:List Int) p2:=cb.osf (by rfl);clear cb;refine Zb (Zd (Zf ?_));have q3:=Zm (Ql).1 q1;refine Zs (x:=.tmp 3) Try.isAgg3 Try.sizeOf3 q3 fun v4 r4 i6=>?_;obtain rfl:=Zj.1 r4;have q5:=Zm (Qg).1 q1;refine Zs (x:=.tmp 5) Try.isAgg26 Try.sizeOf26 q5 fun v6 r6 g8=>?_;obtain ⟨y8,l8,h⟩:=Gd h;refine Qu (g:=g2) (n:=5) [(4,(fun v g w=>OWx (Ow.list 3 (Ow.sh Int)) 4007 g w y8 v))] [0,1,2,3,4] rfl Wt (by kernel_rfl) (⟨fun _=>up_owx,trivial⟩) ?_;refine Gc (Gk p1 0) rfl rfl (Zc Hs rfl (PT.ptr q1)) ?_;refine Qm (c:=.int .i64 ((x0).Hooks)) rfl rfl .plain (fun _ _ h=>h.ch) i6 rfl ?_;refine Gc (Gk p1 1) rfl rfl (Zc Kk rfl (PT.ptr q1)) ?_;refine Qm (c:=v6) rfl rfl .plain (fun _ _ h=>h.ch) g8 rfl ?_;refine Uh (φ:=fun v g w=>OWx (Ow.list 3 (Ow.sh Int)) 4007 g w y8 v) rfl rfl .plain (fun g w hd=>Vj (g:=g) (vs:=[v6]) en20 (.cons rfl .nil) (W20 (iO:=4007) (r6.ext hd.1) l8) fun g' w' v hs hr=>⟨g',hs,hr⟩) (fun v7 hv=>?_);clear hv;refine Xr fun g9 w9 hall=>?_;have hs:=hall.1;have hfr:=hfr.ext hs;have b2:=b2.ext hs;obtain ⟨sk17,ow17,ok17⟩:=(Qw (A:=fun g w=>OWx (Ow.list 3 (Ow.sh Int)) 4007 g w y8 v7) 4 rfl hall);clear hs hall;have wn19:=Wn.fl (OW.wn ow17);have wn20:=Wn.shp (x:=((x0).Hooks:Int)) (RV.cells (Zj.2 rfl)) wn19;obtain ⟨l5,o0⟩:∃ v,v=(Value.agg (Gy [[.int .i64 0],[.slice none 0 0]] [(0,.int .i64 ((x0).Hooks)),(1,v7)]).flatten.toArray):=⟨_,rfl⟩;have ow18:OW ow_Design 4007 g9 w9 (⟨(x0).Hooks,y8⟩:Design) ((),sk17) l5:=o0 ▸ Wn.mk_ (Wn.struct (x:=((⟨(x0).Hooks,y8⟩:Design))) wn20);refine Zz l5 (o0 ▸ Qb (vs:=[(0,.int .i64 ((x0).Hooks)),(1,v7)]) [[.int .i64 0],[.slice none 0 0]] Lr rfl rfl (.cons rfl (.cons rfl .nil)) ⟨⟨_,rfl,rfl⟩,⟨⟨_,rfl,OW.csz ow17⟩,trivial⟩⟩) rfl ?_;refine Ze .plain rfl (Iu (g:=g9) Try.sizeOf30 rfl b2 rfl ow18 rfl fun gj21 v8 l9 bk21 hsa hsb hpp b21=>?_);have hfr:=hfr.stp hsa;have hfr:=hfr.stp hsb;clear hsa hsb;subst hpp;refine Zb (Zd (Gq ?_));obtain rfl:=sinj h;obtain ⟨n9,t5,ow22⟩:=OV.read (t:=30) Try.isAgg30 Try.sizeOf30 b21 rfl;obtain ⟨gh,hxh,_,homh⟩:=OW.hand (i:=iO) hfr ow22 (⟨trivial,ok17⟩:(ow_Design).ok ((),sk17));exact Ry rfl rfl (show _=(Value.pointer (some ⟨bk21,0,none⟩)) from rfl) t5 ⟨gh,hxh,homh⟩
def f3 (x0:Jo) (x1:UInt8) (x2:Bool):Option (Bool):=
 (f4 x0).bind fun y4=>
 (Hy ((x1).toNat:Int) ((y4).Design).Hooks).bind fun n8=>
 (f6 y4).bind fun uX=>
 (f5 uX (([(⟨(2:Int),0,n8,0,x2⟩:Zv)]:List Zv)) (((((y4).Design).Rows).length:Int))).bind fun yB=>
 jn (σ:=Unit) (fun _=>
  (f7 ((y4).Design)).bind fun y55=>
  Option.bind (α:=Design) (
   lp (σ:=Design × Int) (fun uS (o0,t5)=>
    jn (σ:=Unit) (fun _=>
     Option.bind (α:=Design) (
      (idx ((o0).Rows) t5).bind fun y135=>
      (Hj (1:Int) ((Qo n8))).bind fun cD=>
      bif (!x2) then
       (idx ((({ o0 with Rows:=(List.set ((o0).Rows) (Int.toNat t5) (Tf .or y135 cD)) }:Design)).Rows) t5).bind fun pJ=>
       (Hj (1:Int) ((Qo n8))).bind fun lI=>
       some (({ (({ o0 with Rows:=(List.set ((o0).Rows) (Int.toNat t5) (Tf .or y135 cD)) }:Design)) with Rows:=(List.set ((({ o0 with Rows:=(List.set ((o0).Rows) (Int.toNat t5) (Tf .or y135 cD)) }:Design)).Rows) (Int.toNat t5) (Tf .xor pJ lI)) }:Design))
      else
       some (({ o0 with Rows:=(List.set ((o0).Rows) (Int.toNat t5) (Tf .or y135 cD)) }:Design))
      ) fun lH=>
     uS (lH,(w64 (t5 + (1:Int))))
     ) fun vS=>
    bif (decide (t5 < ((((y4).Design).Rows).length : Int))) then
     vS ()
    else
     some (o0)
    ) big (y55,(0:Int))
   ) fun uF=>
  (f7 uF).bind fun y157=>
  (f8 y157 ((2:Int)) ((999:Int))).bind fun bD=>
  (f7 uF).bind fun xS=>
  (f9 xS).bind fun mB=>
  (f11 ((y4).Harness)).bind fun mI=>
  (f10 mI uF).bind fun y177=>
  jn (σ:=Unit) (fun _=>
   Option.bind (α:=Bool) (
    lp (σ:=Bool × Int) (fun yS (lE,cC)=>
     jn (σ:=Unit) (fun _=>
      Option.bind (α:=Bool) (
       bif lE then
        some (true)
       else
        (idx (bD.1) cC).bind fun qJ=>
        some ((decide (qJ=(⟨0,n8,(1000:Int),x2⟩:Gf))))
       ) fun mH=>
      yS (mH,(w64 (cC + (1:Int))))
      ) fun zS=>
     bif (decide (cC < ((bD.1).length : Int))) then
      zS ()
     else
      some (lE)
     ) big (false,(0:Int))
    ) fun vB=>
   jn (σ:=Unit) (fun _=>
    jn (σ:=Unit) (fun _=>
     Option.bind (α:=Bool) (
      bif vB then
       (f13).bind fun nH=>
       bif nH then
        (f14).bind fun oH=>
        bif oH then
         (f15).bind fun mJ=>
         some (mJ)
        else
         some (false)
       else
        some (false)
      else
       some (false)
      ) fun pH=>
     some (pH)
     ) fun lP=>
    lp (σ:=Int) (fun mP g8=>
     jn (σ:=Unit) (fun _=>
      jn (σ:=Unit) (fun _=>
       mP ((w64 (g8 + (1:Int))))
       ) fun nP=>
      lp (σ:=Int) (fun oP aB=>
       jn (σ:=Unit) (fun _=>
        jn (σ:=Unit) (fun _=>
         oP ((w64 (aB + (1:Int))))
         ) fun pP=>
        Option.bind (α:=Bool) (
         (idx (yB.1) g8).bind fun uC=>
         bif (((uC).b.length : Int) != ((((y4).Harness).Warps).length : Int)) then
          some (true)
         else
          (idx (((y4).Harness).Warps) aB).bind fun oE=>
          bif (oE == n8) then
           (idx (yB.1) g8).bind fun qM=>
           (idx (qM).b aB).bind fun gG=>
           some ((!((gG == (120:UInt8)) == x2)))
          else
           some (false)
         ) fun rE=>
        bif rE then
         some (false)
        else
         pP ()
        ) fun sP=>
       bif (decide (aB < ((((y4).Harness).Warps).length : Int))) then
        sP ()
       else
        nP ()
       ) big ((0:Int))
      ) fun tP=>
     bif (decide (g8 < ((((y4).Design).Rows).length : Int))) then
      tP ()
     else
      lP ()
     ) big ((0:Int))
    ) fun eT=>
   Option.bind (α:=Bool) (
    bif x2 then
     bif ((mB.1).WarpFace != (1000 : Int)) then
      some (true)
     else
      bif (!x2) then
       some (((mB.1).WarpBack != (1000:Int)))
      else
       some (false)
    else
     bif (!x2) then
      some (((mB.1).WarpBack != (1000:Int)))
     else
      some (false)
    ) fun eF=>
   bif eF then
    some (false)
   else
    eT ()
   ) fun lT=>
  Option.bind (α:=Bool) (
   bif (bD.2 != (0 : Int)) then
    some (true)
   else
    bif (mB.2 != (0 : Int)) then
     some (true)
    else
     bif (y177.2 != (0 : Int)) then
      some (true)
     else
      (f12 (yB.1) ((y177.1:List Str))).bind fun rM=>
      some ((!rM))
   ) fun rF=>
  bif rF then
   some (false)
  else
   lT ()
  ) fun vX=>
 Option.bind (α:=Bool) (
  bif (yB.2 != (0 : Int)) then
   some (true)
  else
   some ((((yB.1).length:Int) != ((((y4).Design).Rows).length:Int)))
  ) fun mG=>
 bif mG then
  some (false)
 else
  vX ()
theorem wk3 {gI:Gh} {wI:World} {x0:Jo} {x1:UInt8} {x2:Bool} {up0:Value} (rp0:RV gI.m wI x0 up0) {r:Bool} (h:f3 x0 x1 x2=some r):Fn Try.prog 3 #[up0,.int .u8 (UInt8.toNat (x1)),.bool (x2)] gI wI (fun _ _ v=>v=.bool (r)):=by
 unfold f3 at h;refine Gz Try.func3 rfl (Nat.le_of_ble_eq_true rfl) fun g0 hm hfr=>?_;have rp0:RV g0.m wI x0 up0:=hm ▸ rp0;show E _ 207 none _ _ _ _ _;refine Zf (Za (Ze .plain rfl (Tx (g:=g0) rfl rp0 fun g1 w1 p1 hs q1=>?_)));have hfr:=hfr.ext hs;refine Zg (.bool false) rfl rfl ?_;refine Zb (Zd (Zf (Za (Ze .plain rfl (Gj (g:=g1) Try.isAgg25 Try.sizeOf25 rfl q1 fun v2 r2=>?_)))));obtain ⟨y4,hy4,h⟩:=Gd h;refine Ze .plain rfl (Zp (g:=g1) (vs:=[v2]) en4 (.cons rfl .nil) (wk4 r2 hy4) fun g3 w3_ v3 hs hr=>?_);have hfr:=hfr.ext hs;have r3:=hr;refine Ze .plain rfl (Tj (g:=g3) 2007 (⟨⟨0,[]⟩,⟨0,[]⟩⟩:FaultLoom) Try.zeroValue32 (fun m w=>⟨_,(Gw (Gw Zx Wk) (Gw Zx Wk)),rfl⟩) fun g5 w5 p5 hs b5 cb=>?_);have hfr:=hfr.stp hs;have r3:=r3.stp hs;have d03:OSF 2007 60701 1 g5 w5 3 32 ([]:List Int) p5:=cb.osf (by rfl);have e03:OSF 2007 60703 3 g5 w5 3 32 ([]:List Int) p5:=cb.osf (by rfl);clear cb;refine Ze .plain rfl (Gr (g:=g5) (v:=v3) Try.sizeOf32 rfl b5 rfl r3 fun g6 w6 hs b6 cb=>?_);clear cb;have hfr:=hfr.stp hs;refine Zb (Zd (Zf (Ue (x:=.tmp 27) (Gm.comp Qe Qg rfl).1 Try.isAgg26 Try.sizeOf26 b6 fun v9 r9 hl9=>?_)));refine Ue (x:=.tmp 33) (Gm.comp Qe Ql rfl).1 Try.isAgg3 Try.sizeOf3 b6 fun v12 r12 hl12=>?_;obtain rfl:=Zj.1 r12;obtain ⟨n8,eY,h⟩:=Gd h;refine Qu (g:=g6) (n:=12) [] [0,1,2,3,4,5,6,7,8,9,10,11] rfl Wt (by kernel_rfl) trivial ?_;refine Gc (Gk p5 2) rfl rfl (Zc Ji rfl (OB.ptr b6)) ?_;refine Gc (Gk p5 3) rfl rfl (Ku (o1:=2) rfl Kk rfl (OB.ptr b6)) ?_;refine Qm (c:=v9) rfl rfl .plain (fun _ _ h=>⟨h.ch,fun b hb _=>h.below.block b hb⟩) hl9 rfl ?_;refine Gc (.int .i64 ((((y4).Design).Rows).length:Int)) rfl rfl (Qv Try.underlying26 rfl r9) ?_;refine Gc (.int .u8 (UInt8.toNat (x1))) rfl rfl (Zk rfl) ?_;refine Gc (.int .i64 (((x1).toNat:Int))) rfl rfl (Ap Try.underlying5 Try.underlying3 rfl) ?_;refine Gc (Gk p5 2) rfl rfl (Zc Ji rfl (OB.ptr b6)) ?_;refine Gc (Gk p5 2) rfl rfl (Ku (o1:=2) rfl Hs rfl (OB.ptr b6)) ?_;refine Qm (c:=.int .i64 (((y4).Design).Hooks)) rfl rfl .plain (fun _ _ h=>⟨h.ch,fun b hb _=>h.below.block b hb⟩) hl12 rfl ?_;refine Gc (.int .i64 (n8)) rfl rfl (Te rfl rfl (congrArg (Option.map (Value.int .i64)) eY)) ?_;refine Gc (.int .i64 ((((y4).Design).Rows).length:Int)) rfl rfl (Wd rfl) ?_;refine Gc (.int .i64 (n8)) rfl rfl (Wd rfl) ?_;refine Vn fun xX w14 hs=>?_;have hfr:=hfr.ext hs;have b6:=b6.ext hs;clear hs;refine Zb (Zd (Zf (Za (Ze .plain rfl (Wg (g:=xX) Try.isAgg32 Try.sizeOf32 rfl b6 fun v35 r35=>?_)))));obtain ⟨uX,gY,h⟩:=Gd h;refine Ze .plain rfl (Zp (g:=xX) (vs:=[v35]) en6 (.cons rfl .nil) (wk6 r35 gY) fun yX iY v36 hs hr=>?_);have hfr:=hfr.ext hs;have b6:=b6.ext hs;have mT:=hr;refine Zn (.int .i64 (n8)) rfl rfl ?_;refine Zn (.bool (x2)) rfl rfl ?_;have zX:RV yX.m iY (⟨(2:Int),0,n8,0,x2⟩:Zv) (.agg (Gy [[.int .i64 0],[.int .i64 0],[.int .i64 0],[.int .i64 0],[.bool false]] [(0,.int .i64 (2)),(2,.int .i64 (n8)),(4,.bool (x2))]).flatten.toArray):=Th rfl (Gu (rfl) (Gu (Zx) (Gu (rfl) (Gu (Zx) (Tl (rfl))))));generalize jY:(Value.agg (Gy [[.int .i64 0],[.int .i64 0],[.int .i64 0],[.int .i64 0],[.bool false]] [(0,.int .i64 (2)),(2,.int .i64 (n8)),(4,.bool (x2))]).flatten.toArray)=aY at zX;refine Zz aY (jY ▸ Qb (vs:=[(0,.int .i64 (2)),(2,.int .i64 (n8)),(4,.bool (x2))]) [[.int .i64 0],[.int .i64 0],[.int .i64 0],[.int .i64 0],[.bool false]] Ds rfl rfl (.cons rfl (.cons rfl (.cons rfl .nil))) ⟨⟨_,rfl,rfl⟩,⟨⟨_,rfl,rfl⟩,⟨⟨_,rfl,rfl⟩,trivial⟩⟩⟩) rfl ?_;refine Ze .plain rfl (Gl (g:=yX) 3042 (xs:=([(⟨(2:Int),0,n8,0,x2⟩:Zv)]:List Zv)) (vs:=[aY]) Try.underlying42 Try.sizeOf41 Try.zeroValue41 rfl rfl (.cons rfl .nil) (RVs.cons zX RVs.nil) rfl rfl fun g39 w39 v39 hs o39 r39 hxt hfl=>?_);have hfr:=hfr.stp hs;have b6:=b6.stp hs rfl;have mT:=mT.stp hs;refine Zn (.int .i64 ((((y4).Design).Rows).length:Int)) rfl rfl ?_;obtain ⟨yB,kY,h⟩:=Gd h;refine Ze .plain rfl (Zp (g:=g39) (vs:=[v36,v39,.int .i64 ((((y4).Design).Rows).length:Int)]) en5 (.cons rfl (.cons rfl (.cons rfl .nil))) (wk5 mT r39 kY) fun bY g03 v40 hs hr=>?_);have hfr:=hfr.ext hs;have b6:=b6.ext hs
 obtain ⟨l5,q01,rfl,sM,rfl⟩:=hr;refine Zn (.tuple #[l5,.int .i64 (yB.2)]) rfl rfl ?_;refine Zz l5 (Zi rfl rfl) rfl ?_;refine Zz (.int .i64 (yB.2)) (Zi rfl rfl) rfl ?_;refine Zg l5 rfl rfl ?_;refine Zg (.int .i64 (yB.2)) rfl rfl ?_;refine Zb (Zd (Zq h (fun (s:Unit) e w=>∃ (g:Gh) ,Fr gI wI g w∧e 2=.bool (x2)∧e 7=p5∧OB 2007 g w 32 (y4:FaultLoom) p5∧e 8=.int .i64 (((((y4).Design).Rows).length:Int))∧e 9=.int .i64 (n8)∧e 10=l5∧RV g.m w (yB.1:List Str) l5) (fun X46 vX mY h=>?_) ?_))
 ·obtain ⟨mG, hx, h⟩ := Gd h
  refine Gx (fun e w=>∃ (g:Gh) ,Fr gI wI g w∧e 2=.bool (x2)∧e 7=p5∧OB 2007 g w 32 (y4:FaultLoom) p5∧e 8=.int .i64 (((((y4).Design).Rows).length:Int))∧e 9=.int .i64 (n8)∧e 10=l5∧RV g.m w (yB.1:List Str) l5∧e 54=.bool (mG)) (fun Q' hQ=>?_) (fun h03 w49 hR=>?_)
  ·replace h := hx
   clear hx;refine Za (Zn (.int .i64 (yB.2)) rfl rfl ?_);refine Gp (.bool ((yB.2 != (0:Int)))) rfl rfl rfl rfl ?_;refine Zn (.bool ((yB.2 != (0:Int)))) rfl rfl ?_;rcases Zt h with ⟨iG,h⟩ | ⟨iG,h⟩
   ·refine Gb rfl rfl iG rfl rfl ?_
    iterate 3 refine Gb rfl rfl iG rfl rfl ?_
    refine Zz (.bool true) (Zl (b:=(yB.2 != (0:Int))) rfl (Qn iG rfl)) rfl ?_;refine Zb ?_;obtain rfl:=sinj h;exact hQ _ _ ⟨bY,hfr,rfl,rfl,b6,rfl,rfl,rfl,sM,rfl⟩
   ·refine Ga l5 (Zk rfl) rfl rfl iG rfl ?_
    refine Ga (.int .i64 ((yB.1).length:Int)) (Qv Try.underlying34 rfl sM) rfl rfl iG rfl ?_;refine Ga (.int .i64 ((((y4).Design).Rows).length:Int)) (Zk rfl) rfl rfl iG rfl ?_;refine Ga (.bool ((((yB.1).length:Int) != ((((y4).Design).Rows).length:Int)))) (Te rfl rfl rfl) rfl rfl iG rfl ?_;refine Zz (.bool ((((yB.1).length:Int) != ((((y4).Design).Rows).length:Int)))) (Zl (b:=(yB.2 != (0:Int))) rfl (Tw iG rfl)) rfl ?_;refine Zb ?_;obtain rfl:=sinj h;exact hQ _ _ ⟨bY,hfr,rfl,rfl,b6,rfl,rfl,rfl,sM,rfl⟩
  ·clear hx
   obtain ⟨g49,hfr,xV,yV,zV,aW,bW,nT,oT,nN⟩:=hR;rcases Zt h with ⟨jO,h⟩ | ⟨jO,h⟩
   ·refine Tt (Eq.trans (show ev _ _ = .bool (mG) from nN) (congrArg Value.bool jO)) ?_
    refine Zf (Za (Zg (.bool false) rfl rfl ?_));refine Zb (Zd (Gq (Tc ?_)));obtain rfl:=sinj h;exact Qq rfl rfl (show _=.bool false from rfl) ⟨_,hfr,rfl⟩
   ·refine Td (Eq.trans (show ev _ _ = .bool (mG) from nN) (congrArg Value.bool jO)) ?_
    exact Zu (Zd (mY () _ _ ⟨g49,hfr,xV,yV,zV,aW,bW,nT,oT⟩ h))
 ·rintro _ i03 w51 ⟨cY, hfr, cW, uP, bE, dW, eW, pT, iE⟩ h
  refine Zf (Za (Zz (Gk p5 2) (Zc Ji uP (OB.ptr bE)) rfl ?_));refine Ze .plain rfl (Wr (g:=cY) Qe.1 Try.isAgg30 Try.sizeOf30 rfl bE fun v53 r53=>?_);obtain ⟨y55,nY,h⟩:=Gd h;refine Ze .plain rfl (Vj (g:=cY) (vs:=[v53]) en7 (.cons rfl .nil) (W7 (iO:=4057) r53 nY) fun g54 w54 v54 hs hm54=>?_);have hfr:=hfr.ext hs;have bE:=bE.ext hs;have iE:=iE.ext hs;obtain ⟨sk54,ow54,ok54⟩:=hm54;refine Ze .plain rfl (Tj (g:=g54) 2012 (⟨0,[]⟩:Design) Try.zeroValue30 (fun m w=>⟨_,(Gw Zx Wk),rfl⟩) fun dY w56 p56 hs b56 cb=>?_);have hfr:=hfr.stp hs;have bE:=bE.stp hs rfl;have iE:=iE.stp hs;have ow54:=ow54.stp hs rfl;have r01:OSF 2012 61201 1 dY w56 3 30 ([]:List Int) p56:=cb.osf (by rfl);clear cb;refine Ze .plain rfl (Iu (g:=dY) Try.sizeOf30 rfl b56 rfl ow54 rfl fun gj57 g57 w57 bk57 hsa hsb hpp b57=>?_);have hfr:=hfr.stp hsa;have bE:=bE.stp hsa rfl;have iE:=iE.stp hsa;have hfr:=hfr.stp hsb;have bE:=bE.stp hsb rfl;have iE:=iE.stp hsb;clear hsa hsb;subst hpp;refine Zb (Zd ?_);obtain ⟨uF,hx,h⟩:=Gd h;refine Gx (fun e w=>∃ (g:Gh) ,Fr gI wI g w∧e 2=.bool (x2)∧e 7=p5∧OB 2007 g w 32 (y4:FaultLoom) p5∧e 8=.int .i64 (((((y4).Design).Rows).length:Int))∧e 9=.int .i64 (n8)∧e 10=l5∧RV g.m w (yB.1:List Str) l5∧e 12=(Value.pointer (some ⟨bk57,0,none⟩))∧OVb ow_Design 2012 g w 30 (uF:Design) bk57) (fun Q' hQ=>?_) (fun s01 sT hR=>?_)
  ·replace h := hx
   clear hx;refine Zf (Za (Zg (.int .i64 (0)) rfl rfl ?_));refine Zb (Zd (Zr ?_));refine He h (fun (s:Design × Int) e w=>∃ (g:Gh) ,Fr gI wI g w∧e 2=.bool (x2)∧e 7=p5∧OB 2007 g w 32 (y4:FaultLoom) p5∧e 8=.int .i64 (((((y4).Design).Rows).length:Int))∧e 9=.int .i64 (n8)∧e 10=l5∧RV g.m w (yB.1:List Str) l5∧e 12=(Value.pointer (some ⟨bk57,0,none⟩))∧OVb ow_Design 2012 g w 30 (s.1:Design) bk57∧e 13=.int .i64 (s.2)) ⟨g57,hfr,cW,uP,bE,dW,eW,pT,iE,rfl,⟨_,b57,ok54⟩,rfl⟩ (fun X106 uS gW=>?_);rintro ⟨o0,t5⟩ t01 j03 ⟨tT,hfr,oN,pN,qN,rJ,rN,bL,dL,eL,⟨oY,gL,sJ⟩,iL⟩ h;refine Zq h (fun (s:Unit) e w=>∃ (g:Gh) ,Fr gI wI g w∧e 2=.bool (x2)∧e 7=p5∧OB 2007 g w 32 (y4:FaultLoom) p5∧e 8=.int .i64 (((((y4).Design).Rows).length:Int))∧e 9=.int .i64 (n8)∧e 10=l5∧RV g.m w (yB.1:List Str) l5∧e 12=(Value.pointer (some ⟨bk57,0,none⟩))∧OVb ow_Design 2012 g w 30 (o0:Design) bk57∧e 13=.int .i64 (t5)) (fun X109 vS iW h=>?_) ?_
   ·refine Zf (Za (Zo iL rfl ?_))
    refine Zo rJ rfl ?_;refine Zz (.bool ((decide (t5 < ((((y4).Design).Rows).length:Int))))) (Te rfl rfl rfl) rfl ?_;refine Zb (Zd ?_);rcases Zt h with ⟨tM,h⟩ | ⟨tM,h⟩
    ·refine Tv tM rfl ?_
     exact Zu (Zd (iW () _ _ ⟨tT,hfr,oN,pN,qN,rJ,rN,bL,dL,eL,⟨_,gL,sJ⟩,iL⟩ h))
    ·refine Tu tM rfl ?_
     refine Qj ?_;refine Ta ?_;refine Ta ?_;refine Tp ?_;obtain rfl:=sinj h;exact hQ _ _ ⟨tT,hfr,oN,pN,qN,rJ,rN,bL,dL,eL,⟨_,gL,sJ⟩⟩
   ·rintro _ u01 k03 ⟨kO, hfr, vJ, sN, vF, tN, bI, jL, cF, qH, ⟨lB, sH, sF⟩, tH⟩ h
    obtain ⟨lH,hx,h⟩:=Gd h;refine Gx (fun e w=>∃ (g:Gh) ,Fr gI wI g w∧e 2=.bool (x2)∧e 7=p5∧OB 2007 g w 32 (y4:FaultLoom) p5∧e 8=.int .i64 (((((y4).Design).Rows).length:Int))∧e 9=.int .i64 (n8)∧e 10=l5∧RV g.m w (yB.1:List Str) l5∧e 12=(Value.pointer (some ⟨bk57,0,none⟩))∧OVb ow_Design 2012 g w 30 (lH:Design) bk57∧e 13=.int .i64 (t5)) (fun Q' hQ=>?_) (fun v01 l03 hR=>?_)
    ·replace h := hx
     clear hx;refine Zr ?_;refine Zf (Za (Zz ((.pointer (some ⟨bk57,(0 + 1),none⟩))) (Lg Kk qH) rfl ?_));refine Ze .plain rfl (D_loadH (g:=kO) (Cxt.fld (Cxt.root ow_Design bk57) Ja (o0) (lB)) rfl rfl (sF.2) Try.isAgg26 rfl sH ?_);refine Zo tH rfl ?_;obtain ⟨y135,jG,h⟩:=Gd h;obtain ⟨bb136,cc136,ss136,hq136,nJ⟩:=(OV.slice sH (Cxt.fld (Cxt.root ow_Design bk57) Ja (o0) (lB)) rfl rfl (sF.2)).2 jG;refine Zz ((.pointer (some ⟨bb136,((Int.toNat t5) * 1),none⟩))) (Cg Try.underlying26 Try.sizeOf3 (rfl.trans (hdr_at hq136 _)) rfl (Xn jG)) rfl ?_;refine Ze .plain rfl (D_loadV (g:=kO) (Cxt.idx (Cxt.fld (Cxt.root ow_Design bk57) Ja (o0) (lB)) ((o0).Rows) (Int.toNat t5) bb136 cc136 ss136 (Xn jG).2 nJ) ((congrArg (fun q=>({ o0 with Rows:=q }:Design)) (Mh jG)).trans rfl) (((congrArg (fun q=>((Prod.fst lB),(Sl.at bb136 cc136 q))) Fp).trans (congrArg (fun q=>((Prod.fst lB),q)) (hq136).symm)).trans rfl) Try.isAgg3 Try.sizeOf3 rfl sH fun m03 pY=>?_);obtain rfl:=Zj.1 pY;refine Zo bI rfl ?_;refine Zz (.int .u64 (Qo n8)) (Bk Try.underlying3 Try.underlying44 rfl) rfl ?_;obtain ⟨cD,jW,h⟩:=Gd h;refine Zz (.int .i64 (cD)) (P_shlu rfl rfl jW) rfl ?_;refine Gp (.int .i64 ((Tf .or y135 cD))) rfl rfl rfl rfl ?_;refine Zz ((.pointer (some ⟨bb136,((Int.toNat t5) * 1),none⟩))) (Cg Try.underlying26 Try.sizeOf3 (rfl.trans (hdr_at hq136 _)) rfl (Xn jG)) rfl ?_;refine Ze .plain rfl (Ei (g:=kO) (u':=((Tf .or y135 cD):Int)) (Cxt.idx (Cxt.fld (Cxt.root ow_Design bk57) Ja (o0) (lB)) ((o0).Rows) (Int.toNat t5) bb136 cc136 ss136 (Xn jG).2 nJ) ((congrArg (fun q=>({ o0 with Rows:=q }:Design)) (Mh jG)).trans rfl) (((congrArg (fun q=>((Prod.fst lB),(Sl.at bb136 cc136 q))) Fp).trans (congrArg (fun q=>((Prod.fst lB),q)) (hq136).symm)).trans rfl) Try.sizeOf3 rfl sH rfl (Zj.2 rfl) fun xJ qY hs b141=>?_);have hfr:=hfr.stp hs;have vF:=vF.stp hs rfl;have cF:=cF.stp hs;replace b141:OV ow_Design 2012 xJ qY 30 (({ o0 with Rows:=(List.set ((o0).Rows) (Int.toNat t5) (Tf .or y135 cD)) }:Design):Design) bk57 lB:=b141;refine Zb (Zd (Zf (Za (Zo vJ rfl ?_))));refine Zz (.bool (!x2)) (Kh rfl) rfl ?_;refine Zb (Zd ?_);rcases Zt h with ⟨uM,h⟩ | ⟨uM,h⟩
     ·refine Tv uM rfl ?_
      refine Za (Zz ((.pointer (some ⟨bk57,(0 + 1),none⟩))) (Lg Kk qH) rfl ?_);refine Ze .plain rfl (D_loadH (g:=xJ) (Cxt.fld (Cxt.root ow_Design bk57) Ja (({ o0 with Rows:=(List.set ((o0).Rows) (Int.toNat t5) (Tf .or y135 cD)) }:Design)) (lB)) rfl rfl (sF.2) Try.isAgg26 rfl b141 ?_);refine Zo tH rfl ?_;obtain ⟨pJ,uH,h⟩:=Gd h;refine Zz ((.pointer (some ⟨bb136,((Int.toNat t5) * 1),none⟩))) (Cg Try.underlying26 Try.sizeOf3 (rfl.trans (hdr_at hq136 _)) rfl (Xn uH)) rfl ?_;refine Ze .plain rfl (D_loadV (g:=xJ) (Cxt.idx (Cxt.fld (Cxt.root ow_Design bk57) Ja (({ o0 with Rows:=(List.set ((o0).Rows) (Int.toNat t5) (Tf .or y135 cD)) }:Design)) (lB)) ((({ o0 with Rows:=(List.set ((o0).Rows) (Int.toNat t5) (Tf .or y135 cD)) }:Design)).Rows) (Int.toNat t5) bb136 cc136 ss136 (Xn uH).2 (by simpa using nJ)) ((congrArg (fun q=>({ (({ o0 with Rows:=(List.set ((o0).Rows) (Int.toNat t5) (Tf .or y135 cD)) }:Design)) with Rows:=q }:Design)) (Mh uH)).trans rfl) (((congrArg (fun q=>((Prod.fst lB),(Sl.at bb136 cc136 q))) Fp).trans (congrArg (fun q=>((Prod.fst lB),q)) (hq136).symm)).trans rfl) Try.isAgg3 Try.sizeOf3 rfl b141 fun n03 uY=>?_);obtain rfl:=Zj.1 uY;refine Zo bI rfl ?_;refine Zz (.int .u64 (Qo n8)) (Bk Try.underlying3 Try.underlying44 rfl) rfl ?_;obtain ⟨lI,kW,h⟩:=Gd h;refine Zz (.int .i64 (lI)) (P_shlu rfl rfl kW) rfl ?_;refine Gp (.int .i64 ((Tf .xor pJ lI))) rfl rfl rfl rfl ?_;refine Zz ((.pointer (some ⟨bb136,((Int.toNat t5) * 1),none⟩))) (Cg Try.underlying26 Try.sizeOf3 (rfl.trans (hdr_at hq136 _)) rfl (Xn uH)) rfl ?_;refine Ze .plain rfl (Ei (g:=xJ) (u':=((Tf .xor pJ lI):Int)) (Cxt.idx (Cxt.fld (Cxt.root ow_Design bk57) Ja (({ o0 with Rows:=(List.set ((o0).Rows) (Int.toNat t5) (Tf .or y135 cD)) }:Design)) (lB)) ((({ o0 with Rows:=(List.set ((o0).Rows) (Int.toNat t5) (Tf .or y135 cD)) }:Design)).Rows) (Int.toNat t5) bb136 cc136 ss136 (Xn uH).2 (by simpa using nJ)) ((congrArg (fun q=>({ (({ o0 with Rows:=(List.set ((o0).Rows) (Int.toNat t5) (Tf .or y135 cD)) }:Design)) with Rows:=q }:Design)) (Mh uH)).trans rfl) (((congrArg (fun q=>((Prod.fst lB),(Sl.at bb136 cc136 q))) Fp).trans (congrArg (fun q=>((Prod.fst lB),q)) (hq136).symm)).trans rfl) Try.sizeOf3 rfl b141 rfl (Zj.2 rfl) fun uT vY hs b151=>?_);have hfr:=hfr.stp hs;have vF:=vF.stp hs rfl;have cF:=cF.stp hs;replace b151:OV ow_Design 2012 uT vY 30 (({ (({ o0 with Rows:=(List.set ((o0).Rows) (Int.toNat t5) (Tf .or y135 cD)) }:Design)) with Rows:=(List.set ((({ o0 with Rows:=(List.set ((o0).Rows) (Int.toNat t5) (Tf .or y135 cD)) }:Design)).Rows) (Int.toNat t5) (Tf .xor pJ lI)) }:Design):Design) bk57 lB:=b151;refine Zb (To ?_);obtain rfl:=sinj h;exact hQ _ _ ⟨uT,hfr,vJ,sN,vF,tN,bI,jL,cF,qH,⟨_,b151,sF⟩,tH⟩
     ·refine Tu uM rfl ?_
      refine Zu (To ?_);obtain rfl:=sinj h;exact hQ _ _ ⟨xJ,hfr,vJ,sN,vF,tN,bI,jL,cF,qH,⟨_,b141,sF⟩,tH⟩
    ·clear hx
     obtain ⟨xY,hfr,xT,yT,zT,aU,bU,dQ,eQ,gQ,⟨yY,iQ,lO⟩,jQ⟩:=hR;refine Za (Zo jQ rfl ?_);refine Gp (.int .i64 ((w64 (t5 + (1:Int))))) rfl rfl rfl rfl ?_;refine Zg (.int .i64 ((w64 (t5 + (1:Int))))) rfl rfl ?_;exact Zb (Zd (gW (lH,(w64 (t5 + (1:Int)))) _ _ ⟨xY,hfr,xT,yT,zT,aU,bU,dQ,eQ,gQ,⟨_,iQ,lO⟩,rfl⟩ h))
  ·clear hx
   obtain ⟨vM,hfr,dI,sG,l8,iI,jI,xF,i6,nI,⟨zY,l9,zH⟩⟩:=hR;refine Zf (Za (Ze .plain rfl (D_loadAL (g:=vM) Try.isAgg30 Try.sizeOf30 nI l9 fun aZ al155=>?_)));obtain ⟨y157,lW,h⟩:=Gd h;refine Ze .plain rfl (D_callGF (g:=vM) (vs:=[aZ]) en7 (.cons rfl .nil) (W7 (iO:=4087) (AL.lent al155 l9 zH rfl) lW) fun gl156 mW bZ hxl hr=>?_);have hm156:=OWx.unlend Cs hxl hr;obtain ⟨cZ,hge156⟩:∃ g,g={ m:=fun b=>if b < sT.heap.size then vM.m b else gl156.m b,o:=gl156.o:Gh }:=⟨_,rfl⟩;rw [← hge156] at hm156;have hs:Ext vM sT cZ mW:=hge156 ▸ unlend hxl;clear hxl hr hge156;have hfr:=hfr.ext hs;have l8:=l8.ext hs;have i6:=i6.ext hs;have l9:=l9.ext hs;obtain ⟨sk156,ow156,ok156⟩:=hm156;obtain ⟨gp158,hs,rp158⟩:=OW.pub ow156 ok156;have hfr:=hfr.stp hs;have l8:=l8.stp hs rfl;have i6:=i6.stp hs;have l9:=l9.stp hs rfl;obtain ⟨bD,nW,h⟩:=Gd h;refine Ze .plain rfl (Zp (g:=gp158) (vs:=[bZ,.int .i64 (2),.int .i64 (999)]) en8 (.cons rfl (.cons rfl (.cons rfl .nil))) (wk8 rp158 nW) fun xM vP o03 hs hr=>?_);have hfr:=hfr.ext hs;have l8:=l8.ext hs;have i6:=i6.ext hs;have l9:=l9.ext hs;obtain ⟨zB,b01,rfl,oB,rfl⟩:=hr;refine Zn (.tuple #[zB,.int .i64 (bD.2)]) rfl rfl ?_;refine Zz zB (Zi rfl rfl) rfl ?_;refine Zz (.int .i64 (bD.2)) (Zi rfl rfl) rfl ?_;refine Zg zB rfl rfl ?_;refine Zg (.int .i64 (bD.2)) rfl rfl ?_;refine Zb (Zd (Zf (Za (Ze .plain rfl (D_loadAL (g:=xM) Try.isAgg30 Try.sizeOf30 nI l9 fun dZ al162=>?_)))));obtain ⟨xS,oW,h⟩:=Gd h;refine Ze .plain rfl (D_callGF (g:=xM) (vs:=[dZ]) en7 (.cons rfl .nil) (W7 (iO:=4093) (AL.lent al162 l9 zH rfl) oW) fun gl163 pW mZ hxl hr=>?_);have hm163:=OWx.unlend Cs hxl hr;obtain ⟨nZ,hge163⟩:∃ g,g={ m:=fun b=>if b < vP.heap.size then xM.m b else gl163.m b,o:=gl163.o:Gh }:=⟨_,rfl⟩;rw [← hge163] at hm163;have hs:Ext xM vP nZ pW:=hge163 ▸ unlend hxl;clear hxl hr hge163;have hfr:=hfr.ext hs;have l8:=l8.ext hs;have i6:=i6.ext hs;have l9:=l9.ext hs;have oB:=oB.ext hs;obtain ⟨sk163,ow163,ok163⟩:=hm163;obtain ⟨gp165,hs,rp165⟩:=OW.pub ow163 ok163;have hfr:=hfr.stp hs;have l8:=l8.stp hs rfl;have i6:=i6.stp hs;have l9:=l9.stp hs rfl;have oB:=oB.stp hs;obtain ⟨mB,qW,h⟩:=Gd h;refine Ze .plain rfl (Zp (g:=gp165) (vs:=[mZ]) en9 (.cons rfl .nil) (wk9 rp165 qW) fun oZ x01 p03 hs hr=>?_);have hfr:=hfr.ext hs;have l8:=l8.ext hs;have i6:=i6.ext hs;have l9:=l9.ext hs;have oB:=oB.ext hs;obtain ⟨zJ,c01,rfl,aK,rfl⟩:=hr;refine Zn (.tuple #[zJ,.int .i64 (mB.2)]) rfl rfl ?_;refine Zz zJ (Zi rfl rfl) rfl ?_;refine Zz (.int .i64 (mB.2)) (Zi rfl rfl) rfl ?_;refine Ze .plain rfl (Tj (g:=oZ) 2016 (⟨0,0,0,0⟩:Gn) Try.zeroValue50 (fun m w=>⟨_,(Gw Zx (Gw Zx (Gw Zx Zx))),rfl⟩) fun pZ q03 oD hs b168 cb=>?_);have hfr:=hfr.stp hs;have l8:=l8.stp hs rfl;have i6:=i6.stp hs;have l9:=l9.stp hs rfl;have oB:=oB.stp hs;have aK:=aK.stp hs;clear cb;refine Ze .plain rfl (Gr (g:=pZ) (v:=zJ) Try.sizeOf50 rfl b168 rfl aK fun r03 s03 hs b169 cb=>?_);clear cb;have hfr:=hfr.stp hs;have l8:=l8.stp hs rfl;have i6:=i6.stp hs;have l9:=l9.stp hs rfl;have oB:=oB.stp hs;refine Zg (.int .i64 (mB.2)) rfl rfl ?_;refine Zb (Zd (Zf ?_));obtain ⟨go170,hs,b170⟩:=OV.toOB l9 zH;have hfr:=hfr.stp hs;have l8:=l8.stp hs rfl;have i6:=i6.stp hs;have oB:=oB.stp hs;have b169:=b169.stp hs rfl;clear hs;refine Ue (x:=.tmp 98) Qp.1 Try.isAgg28 Try.sizeOf28 l8 fun cU qZ sW=>?_;obtain ⟨mI,tW,h⟩:=Gd h;refine Ms (x:=.tmp 12) Try.isAgg30 Try.sizeOf30 b170 fun dU rZ uW=>?_;obtain ⟨y177,vW,h⟩:=Gd h;refine Qu (g:=go170) (n:=10) [(2,(fun v g w=>RV g.m w mI v)),(4,(fun v g w=>∃ y0 y1:Value,v=.tuple #[y0,y1]∧RV g.m w (y177.1:List Str) y0∧y1=.int .i64 (y177.2)))] [0,1,2,3,4,5,6,7,8,9] rfl Wt (by kernel_rfl) (⟨fun _=>Vb,fun _=>(up_ex fun _=>(up_ex fun _=>(Sq (Rs _) (Sq Vb (Rs _))))),trivial⟩) ?_;refine Gc (Gk p5 0) rfl rfl (Zc Hw sG (OB.ptr l8)) ?_;refine Qm (c:=cU) rfl rfl .plain (fun _ _ h=>⟨h.ch,fun b hb _=>h.below.block b hb⟩) sW rfl ?_;refine Uh (φ:=fun v g w=>RV g.m w mI v) rfl rfl .plain (fun g w hd=>Zp (g:=g) (vs:=[cU]) en11 (.cons rfl .nil) (wk11 (qZ.ext hd.1) tW) fun g' w' v hs hr=>⟨g',hs,hr⟩) (fun mO hv=>?_);obtain ⟨_,_,_,rq173⟩:=hv
   refine Qm (c:=dU) rfl rfl .plain (fun _ _ h=>⟨h.ch,fun b hb _=>h.below.block b hb⟩) uW nI ?_;refine Uh (φ:=fun v g w=>∃ y0 y1:Value,v=.tuple #[y0,y1]∧RV g.m w (y177.1:List Str) y0∧y1=.int .i64 (y177.2)) rfl rfl .plain (fun g w hd=>Zp (g:=g) (vs:=[mO,dU]) en10 (.cons rfl (.cons rfl .nil)) (wk10 (word (A:=fun g w=>RV g.m w mI mO) 2 rfl rfl (Dg hd)) (rZ.ext hd.1) vW) fun g' w' v hs hr=>⟨g',hs,hr⟩) (fun t03 hv=>?_);obtain ⟨_,_,_,tF,_,rfl,j00,rfl⟩:=hv;refine Gc (.tuple #[tF,.int .i64 (y177.2)]) rfl rfl (Zk rfl) ?_;refine Gc tF rfl rfl (Zi rfl rfl) ?_;refine Gc (.int .i64 (y177.2)) rfl rfl (Zi rfl rfl) ?_;refine Gc tF rfl rfl (Wd rfl) ?_;refine Gc (.int .i64 (y177.2)) rfl rfl (Wd rfl) ?_;refine Xr fun bN u03 hall=>?_;have hs:=hall.1;have hfr:=hfr.ext hs;have l8:=l8.ext hs;have i6:=i6.ext hs;have oB:=oB.ext hs;have b169:=b169.ext hs;have v03:=(Qw (A:=fun g w=>RV g.m w mI mO) 2 rfl hall);have x03:=(tup2_0 (Qw (A:=fun g w=>∃ y0 y1:Value,Value.tuple #[tF,.int .i64 (y177.2)]=.tuple #[y0,y1]∧RV g.m w (y177.1:List Str) y0∧y1=.int .i64 (y177.2)) 4 rfl hall));have sZ:=(tup2_0 (Qw (A:=fun g w=>∃ y0 y1:Value,Value.tuple #[tF,.int .i64 (y177.2)]=.tuple #[y0,y1]∧RV g.m w (y177.1:List Str) y0∧y1=.int .i64 (y177.2)) 4 rfl hall));clear hs hall;refine Zb (Zd (Zq h (fun (s:Unit) e w=>∃ (g:Gh) ,Fr gI wI g w∧e 2=.bool (x2)∧e 7=p5∧OB 2007 g w 32 (y4:FaultLoom) p5∧e 8=.int .i64 (((((y4).Design).Rows).length:Int))∧e 9=.int .i64 (n8)∧e 10=l5∧RV g.m w (yB.1:List Str) l5∧e 14=zB∧RV g.m w (bD.1:List Gf) zB∧e 16=oD∧OB 2016 g w 50 (mB.1:Gn) oD) (fun X223 lT xW h=>?_) ?_))
   ·obtain ⟨rF, hx, h⟩ := Gd h
    refine Gx (fun e w=>∃ (g:Gh) ,Fr gI wI g w∧e 2=.bool (x2)∧e 7=p5∧OB 2007 g w 32 (y4:FaultLoom) p5∧e 8=.int .i64 (((((y4).Design).Rows).length:Int))∧e 9=.int .i64 (n8)∧e 10=l5∧RV g.m w (yB.1:List Str) l5∧e 14=zB∧RV g.m w (bD.1:List Gf) zB∧e 16=oD∧OB 2016 g w 50 (mB.1:Gn) oD∧e 120=.bool (rF)) (fun Q' hQ=>?_) (fun y01 y03 hR=>?_)
    ·replace h := hx
     clear hx;refine Za (Zn (.int .i64 (bD.2)) rfl rfl ?_);refine Gp (.bool ((bD.2 != (0:Int)))) rfl rfl rfl rfl ?_;refine Zn (.bool ((bD.2 != (0:Int)))) rfl rfl ?_;rcases Zt h with ⟨kG,h⟩ | ⟨kG,h⟩
     ·refine Gb rfl rfl kG rfl rfl ?_
      refine Gb rfl rfl kG rfl rfl ?_;refine Zz (.bool true) (Zl (b:=(bD.2 != (0:Int))) rfl (Qn kG rfl)) rfl ?_;refine Hp 10 rfl ?_;refine Zb ?_;obtain rfl:=sinj h;exact hQ _ _ ⟨bN,hfr,dI,sG,l8,iI,jI,xF,i6,rfl,oB,rfl,b169,rfl⟩
     ·refine Ga (.int .i64 (mB.2)) (Zk rfl) rfl rfl kG rfl ?_
      refine Ga (.bool ((mB.2 != (0:Int)))) (Te rfl rfl rfl) rfl rfl kG rfl ?_;refine Zz (.bool ((mB.2 != (0:Int)))) (Zl (b:=(bD.2 != (0:Int))) rfl (Tw kG rfl)) rfl ?_;refine Zn (.bool ((mB.2 != (0:Int)))) rfl rfl ?_;rcases Zt h with ⟨lG,h⟩ | ⟨lG,h⟩
      ·refine Gb rfl rfl lG rfl rfl ?_
       refine Gb rfl rfl lG rfl rfl ?_;refine Zz (.bool true) (Zl (b:=(mB.2 != (0:Int))) rfl (Qn lG rfl)) rfl ?_;refine Hp 6 rfl ?_;refine Zb ?_;obtain rfl:=sinj h;exact hQ _ _ ⟨bN,hfr,dI,sG,l8,iI,jI,xF,i6,rfl,oB,rfl,b169,rfl⟩
      ·refine Ga (.int .i64 (y177.2)) (Zk rfl) rfl rfl lG rfl ?_
       refine Ga (.bool ((y177.2 != (0:Int)))) (Te rfl rfl rfl) rfl rfl lG rfl ?_;refine Zz (.bool ((y177.2 != (0:Int)))) (Zl (b:=(mB.2 != (0:Int))) rfl (Tw lG rfl)) rfl ?_;refine Zn (.bool ((y177.2 != (0:Int)))) rfl rfl ?_;rcases Zt h with ⟨vE,h⟩ | ⟨vE,h⟩
       ·refine Gb rfl rfl vE rfl rfl ?_
        iterate 3 refine Gb rfl rfl vE rfl rfl ?_
        refine Zz (.bool true) (Zl (b:=(y177.2 != (0:Int))) rfl (Qn vE rfl)) rfl ?_;refine Zb ?_;obtain rfl:=sinj h;exact hQ _ _ ⟨bN,hfr,dI,sG,l8,iI,jI,xF,i6,rfl,oB,rfl,b169,rfl⟩
       ·refine Ga l5 (Zk xF) rfl rfl vE rfl ?_
        refine Ga tF (Zk rfl) rfl rfl vE rfl ?_;obtain ⟨rM,yW,h⟩:=Gd h;refine Ze (.yes2 rfl rfl vE) rfl (Zp (g:=bN) (vs:=[l5,tF]) en12 (.cons rfl (.cons rfl .nil)) (wk12 i6 sZ yW) fun tZ z01 z03 hs hr=>?_);have hfr:=hfr.ext hs;have l8:=l8.ext hs;have i6:=i6.ext hs;have oB:=oB.ext hs;have b169:=b169.ext hs;subst hr;refine Ga (.bool (!rM)) (Kh rfl) rfl rfl vE rfl ?_;refine Zz (.bool (!rM)) (Zl (b:=(y177.2 != (0:Int))) rfl (Tw vE rfl)) rfl ?_;refine Zb ?_;obtain rfl:=sinj h;exact hQ _ _ ⟨tZ,hfr,dI,sG,l8,iI,jI,xF,i6,rfl,oB,rfl,b169,rfl⟩
    ·clear hx
     obtain ⟨uZ,hfr,eU,gU,iU,jU,kU,kQ,lQ,mQ,nQ,oQ,pQ,bK⟩:=hR;rcases Zt h with ⟨cN,h⟩ | ⟨cN,h⟩
     ·refine Tt (Eq.trans (show ev _ _ = .bool (rF) from bK) (congrArg Value.bool cN)) ?_
      refine Zf (Za (Zg (.bool false) rfl rfl ?_));refine Zb (Zd (Gq (Tc ?_)));obtain rfl:=sinj h;exact Qq rfl rfl (show _=.bool false from rfl) ⟨_,hfr,rfl⟩
     ·refine Td (Eq.trans (show ev _ _ = .bool (rF) from bK) (congrArg Value.bool cN)) ?_
      exact Zu (Zd (xW () _ _ ⟨uZ,hfr,eU,gU,iU,jU,kU,kQ,lQ,mQ,nQ,oQ,pQ⟩ h))
   ·rintro _ a02 a04 ⟨vZ, hfr, lU, mU, nU, oU, pU, qQ, rQ, sQ, tQ, uQ, vQ⟩ h
    refine Zf (Za (Zg (.bool false) rfl rfl ?_));refine Zb (Zd ?_);obtain ⟨vB,hx,h⟩:=Gd h;refine Gx (fun e w=>∃ (g:Gh) ,Fr gI wI g w∧e 2=.bool (x2)∧e 7=p5∧OB 2007 g w 32 (y4:FaultLoom) p5∧e 8=.int .i64 (((((y4).Design).Rows).length:Int))∧e 9=.int .i64 (n8)∧e 10=l5∧RV g.m w (yB.1:List Str) l5∧e 16=oD∧OB 2016 g w 50 (mB.1:Gn) oD∧e 20=.bool (vB)) (fun Q' hQ=>?_) (fun b02 b04 hR=>?_)
    ·replace h := hx
     clear hx;refine Zf (Za (Zg (.int .i64 (0)) rfl rfl ?_));refine Zb (Zd (Zr ?_));refine He h (fun (s:Bool × Int) e w=>∃ (g:Gh) ,Fr gI wI g w∧e 2=.bool (x2)∧e 7=p5∧OB 2007 g w 32 (y4:FaultLoom) p5∧e 8=.int .i64 (((((y4).Design).Rows).length:Int))∧e 9=.int .i64 (n8)∧e 10=l5∧RV g.m w (yB.1:List Str) l5∧e 14=zB∧RV g.m w (bD.1:List Gf) zB∧e 16=oD∧OB 2016 g w 50 (mB.1:Gn) oD∧e 20=.bool (s.1)∧e 21=.int .i64 (s.2)) ⟨vZ,hfr,lU,mU,nU,oU,pU,qQ,rQ,sQ,tQ,uQ,vQ,rfl,rfl⟩ (fun X254 yS zW=>?_);rintro ⟨lE,cC⟩ c02 c04 ⟨qU,hfr,uN,vN,xN,yN,zN,lL,mL,nL,oL,xL,yL,zL,aM⟩ h;refine Zq h (fun (s:Unit) e w=>∃ (g:Gh) ,Fr gI wI g w∧e 2=.bool (x2)∧e 7=p5∧OB 2007 g w 32 (y4:FaultLoom) p5∧e 8=.int .i64 (((((y4).Design).Rows).length:Int))∧e 9=.int .i64 (n8)∧e 10=l5∧RV g.m w (yB.1:List Str) l5∧e 14=zB∧RV g.m w (bD.1:List Gf) zB∧e 16=oD∧OB 2016 g w 50 (mB.1:Gn) oD∧e 20=.bool (lE)∧e 21=.int .i64 (cC)) (fun X257 zS aX h=>?_) ?_
     ·refine Zf (Za (Zo aM rfl ?_))
      refine Zo nL rfl ?_;refine Zz (.int .i64 ((bD.1).length:Int)) (Qv Try.underlying45 rfl oL) rfl ?_;refine Gp (.bool ((decide (cC < ((bD.1).length:Int))))) rfl rfl rfl rfl ?_;refine Zb (Zd ?_);rcases Zt h with ⟨dN,h⟩ | ⟨dN,h⟩
      ·refine Tv dN rfl ?_
       exact Zu (Zd (aX () _ _ ⟨qU,hfr,uN,vN,xN,yN,zN,lL,mL,nL,oL,xL,yL,zL,aM⟩ h))
      ·refine Tu dN rfl ?_
       refine Qj ?_;refine Ta ?_;refine Ta ?_;refine Tp ?_;obtain rfl:=sinj h;exact hQ _ _ ⟨qU,hfr,uN,vN,xN,yN,zN,lL,mL,xL,yL,zL⟩
     ·rintro _ d02 xZ ⟨eN, hfr, cK, aO, bO, cO, dK, bM, cM, pI, xH, dM, eM, xQ, qI⟩ h
      obtain ⟨mH,hx,h⟩:=Gd h;refine Gx (fun e w=>∃ (g:Gh) ,Fr gI wI g w∧e 2=.bool (x2)∧e 7=p5∧OB 2007 g w 32 (y4:FaultLoom) p5∧e 8=.int .i64 (((((y4).Design).Rows).length:Int))∧e 9=.int .i64 (n8)∧e 10=l5∧RV g.m w (yB.1:List Str) l5∧e 14=zB∧RV g.m w (bD.1:List Gf) zB∧e 16=oD∧OB 2016 g w 50 (mB.1:Gn) oD∧e 20=.bool (mH)∧e 21=.int .i64 (cC)) (fun Q' hQ=>?_) (fun e02 d04 hR=>?_)
      ·replace h := hx
       clear hx;refine Zr ?_;refine Za (Zo xQ rfl ?_);refine Zn (.bool (lE)) rfl rfl ?_;rcases Zt h with ⟨lD,h⟩ | ⟨lD,h⟩
       ·refine Gb rfl rfl lD rfl rfl ?_
        iterate 7 refine Gb rfl rfl lD rfl rfl ?_
        refine Zz (.bool true) (Zl (b:=lE) rfl (Qn lD rfl)) rfl ?_;refine Zg (.bool true) rfl rfl ?_;refine Zb (To ?_);obtain rfl:=sinj h;exact hQ _ _ ⟨eN,hfr,cK,aO,bO,cO,dK,bM,cM,pI,xH,dM,eM,rfl,qI⟩
       ·refine Ga zB (Zk pI) rfl rfl lD rfl ?_
        refine Ga (.int .i64 (cC)) (Zk qI) rfl rfl lD rfl ?_;obtain ⟨qJ,xP,h⟩:=Gd h;refine Ga (We zB cC 4) (Zh (α:=Gf) Try.underlying45 Try.sizeOf57 rfl xH rfl xP) rfl rfl lD rfl ?_;have yZ:=Wp xH xP;refine Ze (.yes2 rfl rfl lD) rfl (Gj (g:=eN) Try.isAgg57 Try.sizeOf57 rfl yZ fun e04 zZ=>?_);refine Ga (.int .i64 (n8)) (Zk dK) rfl rfl lD rfl ?_;refine Ga (.bool (x2)) (Zk cK) rfl rfl lD rfl ?_;have rU:RV eN.m xZ (⟨0,n8,(1000:Int),x2⟩:Gf) (.agg (Gy [[.int .i64 0],[.int .i64 0],[.int .i64 0],[.bool false]] [(1,.int .i64 (n8)),(2,.int .i64 (1000)),(3,.bool (x2))]).flatten.toArray):=Th rfl (Gu (Zx) (Gu (rfl) (Gu (rfl) (Tl (rfl)))));generalize bX:(Value.agg (Gy [[.int .i64 0],[.int .i64 0],[.int .i64 0],[.bool false]] [(1,.int .i64 (n8)),(2,.int .i64 (1000)),(3,.bool (x2))]).flatten.toArray)=a00 at rU;refine Ga a00 (bX ▸ Qb (vs:=[(1,.int .i64 (n8)),(2,.int .i64 (1000)),(3,.bool (x2))]) [[.int .i64 0],[.int .i64 0],[.int .i64 0],[.bool false]] lay_57 rfl rfl (.cons rfl (.cons rfl (.cons rfl .nil))) ⟨⟨_,rfl,rfl⟩,⟨⟨_,rfl,rfl⟩,⟨⟨_,rfl,rfl⟩,trivial⟩⟩⟩) rfl rfl lD rfl ?_;refine Ga (.bool ((decide (qJ=(⟨0,n8,(1000:Int),x2⟩:Gf))))) (P_seq seq_57 rfl eg_57 rfl rfl zZ rU) rfl rfl lD rfl ?_;refine Zz (.bool ((decide (qJ=(⟨0,n8,(1000:Int),x2⟩:Gf))))) (Zl (b:=lE) rfl (Tw lD rfl)) rfl ?_;refine Zg (.bool ((decide (qJ=(⟨0,n8,(1000:Int),x2⟩:Gf))))) rfl rfl ?_;refine Zb (To ?_);obtain rfl:=sinj h;exact hQ _ _ ⟨eN,hfr,cK,aO,bO,cO,dK,bM,cM,pI,xH,dM,eM,rfl,qI⟩
      ·clear hx
       obtain ⟨b00,hfr,sU,tU,uU,vU,xU,yQ,zQ,aR,bR,dR,eR,gR,iR⟩:=hR;refine Za (Zo iR rfl ?_);refine Gp (.int .i64 ((w64 (cC + (1:Int))))) rfl rfl rfl rfl ?_;refine Zg (.int .i64 ((w64 (cC + (1:Int))))) rfl rfl ?_;exact Zb (Zd (zW (mH,(w64 (cC + (1:Int)))) _ _ ⟨b00,hfr,sU,tU,uU,vU,xU,yQ,zQ,aR,bR,dR,eR,gR,rfl⟩ h))
    ·clear hx
     obtain ⟨xG,hfr,uE,yG,zG,aH,cH,yF,aG,sI,dF,bG⟩:=hR;refine Zq h (fun (s:Unit) e w=>∃ (g:Gh) ,Fr gI wI g w∧e 2=.bool (x2)∧e 7=p5∧OB 2007 g w 32 (y4:FaultLoom) p5∧e 8=.int .i64 (((((y4).Design).Rows).length:Int))∧e 9=.int .i64 (n8)∧e 10=l5∧RV g.m w (yB.1:List Str) l5∧e 20=.bool (vB)) (fun X294 eT cX h=>?_) ?_
     ·obtain ⟨eF, hx, h⟩ := Gd h
      refine Gx (fun e w=>∃ (g:Gh) ,Fr gI wI g w∧e 2=.bool (x2)∧e 7=p5∧OB 2007 g w 32 (y4:FaultLoom) p5∧e 8=.int .i64 (((((y4).Design).Rows).length:Int))∧e 9=.int .i64 (n8)∧e 10=l5∧RV g.m w (yB.1:List Str) l5∧e 20=.bool (vB)∧e 152=.bool (eF)) (fun Q' hQ=>?_) (fun g02 g04 hR=>?_)
      ·replace h := hx
       clear hx;refine Za (Zo uE rfl ?_);refine Zn (.bool (x2)) rfl rfl ?_;rcases Zt h with ⟨xE,h⟩ | ⟨xE,h⟩
       ·refine Ga (Gk oD 2) (Zc at_50_2 sI (OB.ptr dF)) rfl rfl xE rfl ?_
        refine Ze (.yes2 rfl rfl xE) rfl (Wr (g:=xG) Va.1 Try.isAgg3 Try.sizeOf3 rfl dF fun h04 c00=>?_);obtain rfl:=Zj.1 c00;refine Ga (.bool (((mB.1).WarpFace != (1000:Int)))) (Te rfl rfl rfl) rfl rfl xE rfl ?_;refine Zz (.bool (((mB.1).WarpFace != (1000:Int)))) (Zl (b:=x2) rfl (Qn xE rfl)) rfl ?_;refine Zn (.bool (((mB.1).WarpFace != (1000:Int)))) rfl rfl ?_;rcases Zt h with ⟨nD,h⟩ | ⟨nD,h⟩
        ·refine Gb rfl rfl nD rfl rfl ?_
         refine Gb rfl rfl nD rfl rfl ?_;refine Gb rfl rfl nD rfl rfl ?_;refine Hp 3 rfl ?_;refine Gb rfl rfl nD rfl rfl ?_;refine Zz (.bool true) (Zl (b:=((mB.1).WarpFace != (1000:Int))) rfl (Qn nD rfl)) rfl ?_;refine Zb ?_;obtain rfl:=sinj h;exact hQ _ _ ⟨xG,hfr,uE,yG,zG,aH,cH,yF,aG,bG,rfl⟩
        ·refine Ga (.bool (x2)) (Zk uE) rfl rfl nD rfl ?_
         refine Ga (.bool (!x2)) (Kh rfl) rfl rfl nD rfl ?_;refine Ga (.bool (!x2)) (Zk rfl) rfl rfl nD rfl ?_;rcases Zt h with ⟨yE,h⟩ | ⟨yE,h⟩
         ·refine Ga (Gk oD 3) (Zc at_50_3 sI (OB.ptr dF)) rfl rfl yE rfl ?_
          refine Ze (.yes2 rfl rfl yE) rfl (Wr (g:=xG) Jq.1 Try.isAgg3 Try.sizeOf3 rfl dF fun i04 d00=>?_);obtain rfl:=Zj.1 d00;refine Ga (.bool (((mB.1).WarpBack != (1000:Int)))) (Te rfl rfl rfl) rfl rfl yE rfl ?_;refine Ga (.bool (((mB.1).WarpBack != (1000:Int)))) (Zl (b:=(!x2)) rfl (Qn yE rfl)) rfl rfl nD rfl ?_;refine Zz (.bool (((mB.1).WarpBack != (1000:Int)))) (Zl (b:=((mB.1).WarpFace != (1000:Int))) rfl (Tw nD rfl)) rfl ?_;refine Zb ?_;obtain rfl:=sinj h;exact hQ _ _ ⟨xG,hfr,uE,yG,zG,aH,cH,yF,aG,bG,rfl⟩
         ·refine Gb rfl rfl yE rfl rfl ?_
          refine Gb rfl rfl yE rfl rfl ?_;refine Gb rfl rfl yE rfl rfl ?_;refine Ga (.bool false) (Zl (b:=(!x2)) rfl (Tw yE rfl)) rfl rfl nD rfl ?_;refine Zz (.bool false) (Zl (b:=((mB.1).WarpFace != (1000:Int))) rfl (Tw nD rfl)) rfl ?_;refine Zb ?_;obtain rfl:=sinj h;exact hQ _ _ ⟨xG,hfr,uE,yG,zG,aH,cH,yF,aG,bG,rfl⟩
       ·refine Gb rfl rfl xE rfl rfl ?_
        refine Gb rfl rfl xE rfl rfl ?_;refine Gb rfl rfl xE rfl rfl ?_;refine Zz (.bool false) (Zl (b:=x2) rfl (Tw xE rfl)) rfl ?_;refine Zn (.bool false) rfl rfl ?_;refine Ga (.bool (x2)) (Zk uE) rfl rfl rfl rfl ?_;refine Ga (.bool (!x2)) (Kh rfl) rfl rfl rfl rfl ?_;refine Ga (.bool (!x2)) (Zk rfl) rfl rfl rfl rfl ?_;rcases Zt h with ⟨zE,h⟩ | ⟨zE,h⟩
        ·refine Ga (Gk oD 3) (Zc at_50_3 sI (OB.ptr dF)) rfl rfl zE rfl ?_
         refine Ze (.yes2 rfl rfl zE) rfl (Wr (g:=xG) Jq.1 Try.isAgg3 Try.sizeOf3 rfl dF fun j04 g00=>?_);obtain rfl:=Zj.1 g00;refine Ga (.bool (((mB.1).WarpBack != (1000:Int)))) (Te rfl rfl rfl) rfl rfl zE rfl ?_;refine Ga (.bool (((mB.1).WarpBack != (1000:Int)))) (Zl (b:=(!x2)) rfl (Qn zE rfl)) rfl rfl rfl rfl ?_;refine Zz (.bool (((mB.1).WarpBack != (1000:Int)))) (Zl (b:=false) rfl (Tw rfl rfl)) rfl ?_;refine Zb ?_;obtain rfl:=sinj h;exact hQ _ _ ⟨xG,hfr,uE,yG,zG,aH,cH,yF,aG,bG,rfl⟩
        ·refine Gb rfl rfl zE rfl rfl ?_
         refine Gb rfl rfl zE rfl rfl ?_;refine Gb rfl rfl zE rfl rfl ?_;refine Ga (.bool false) (Zl (b:=(!x2)) rfl (Tw zE rfl)) rfl rfl rfl rfl ?_;refine Zz (.bool false) (Zl (b:=false) rfl (Tw rfl rfl)) rfl ?_;refine Zb ?_;obtain rfl:=sinj h;exact hQ _ _ ⟨xG,hfr,uE,yG,zG,aH,cH,yF,aG,bG,rfl⟩
      ·clear hx
       obtain ⟨h00,hfr,yU,zU,aV,bV,cV,jR,lR,mR,lK⟩:=hR;rcases Zt h with ⟨gN,h⟩ | ⟨gN,h⟩
       ·refine Tt (Eq.trans (show ev _ _ = .bool (eF) from lK) (congrArg Value.bool gN)) ?_
        refine Zf (Za (Zg (.bool false) rfl rfl ?_));refine Zb (Zd (Gq (Tc ?_)));obtain rfl:=sinj h;exact Qq rfl rfl (show _=.bool false from rfl) ⟨_,hfr,rfl⟩
       ·refine Td (Eq.trans (show ev _ _ = .bool (eF) from lK) (congrArg Value.bool gN)) ?_
        exact Zu (Zd (cX () _ _ ⟨h00,hfr,yU,zU,aV,bV,cV,jR,lR,mR⟩ h))
     ·rintro _ h02 k04 ⟨i00, hfr, dV, eV, gV, iV, jV, nR, oR, pR⟩ h
      refine Zq h (fun (s:Unit) e w=>∃ (g:Gh) ,Fr gI wI g w∧e 20=.bool (vB)) (fun X1466 lP kV h=>?_) ?_
      ·refine Zf (Za (Zg (.int .i64 (0)) rfl rfl ?_))
       refine Zb (Zd (Zr ?_));refine He h (fun (s:Int) e w=>∃ (g:Gh) ,Fr gI wI g w∧e 2=.bool (x2)∧e 7=p5∧OB 2007 g w 32 (y4:FaultLoom) p5∧e 8=.int .i64 (((((y4).Design).Rows).length:Int))∧e 9=.int .i64 (n8)∧e 10=l5∧RV g.m w (yB.1:List Str) l5∧e 20=.bool (vB)∧e 22=.int .i64 (s)) ⟨i00,hfr,dV,eV,gV,iV,jV,nR,oR,pR,rfl⟩ (fun X1467 mP lV=>?_);rintro g8 d01 i02 ⟨yP,hfr,qR,rR,tR,iM,uR,nO,oO,mK,nK⟩ h;refine Zq h (fun (s:Unit) e w=>∃ (g:Gh) ,Fr gI wI g w∧e 2=.bool (x2)∧e 7=p5∧OB 2007 g w 32 (y4:FaultLoom) p5∧e 8=.int .i64 (((((y4).Design).Rows).length:Int))∧e 9=.int .i64 (n8)∧e 10=l5∧RV g.m w (yB.1:List Str) l5∧e 20=.bool (vB)∧e 22=.int .i64 (g8)) (fun X1470 tP mV h=>?_) ?_
       ·refine Zf (Za (Zo nK rfl ?_))
        refine Zo iM rfl ?_;refine Zz (.bool ((decide (g8 < ((((y4).Design).Rows).length:Int))))) (Te rfl rfl rfl) rfl ?_;refine Zb (Zd ?_);rcases Zt h with ⟨oK,h⟩ | ⟨oK,h⟩
        ·refine Tv oK rfl ?_
         exact Zu (Zd (mV () _ _ ⟨yP,hfr,qR,rR,tR,iM,uR,nO,oO,mK,nK⟩ h))
        ·refine Tu oK rfl ?_
         refine Qj ?_;refine Ta ?_;refine Ta ?_;refine Tp ?_;exact Zd (kV () _ _ ⟨yP,hfr,mK⟩ h)
       ·rintro _ e01 j02 ⟨dX, hfr, vR, xR, yR, zR, aS, pO, qO, rO, sO⟩ h
        refine Zq h (fun (s:Unit) e w=>∃ (g:Gh) ,Fr gI wI g w∧e 2=.bool (x2)∧e 7=p5∧OB 2007 g w 32 (y4:FaultLoom) p5∧e 8=.int .i64 (((((y4).Design).Rows).length:Int))∧e 9=.int .i64 (n8)∧e 10=l5∧RV g.m w (yB.1:List Str) l5∧e 20=.bool (vB)∧e 22=.int .i64 (g8)) (fun X2043 nP nV h=>?_) ?_
        ·refine Zr ?_
         refine Zf (Za (Zg (.int .i64 (0)) rfl rfl ?_));refine Zb (Zd (Zr ?_));refine He h (fun (s:Int) e w=>∃ (g:Gh) ,Fr gI wI g w∧e 2=.bool (x2)∧e 7=p5∧OB 2007 g w 32 (y4:FaultLoom) p5∧e 8=.int .i64 (((((y4).Design).Rows).length:Int))∧e 9=.int .i64 (n8)∧e 10=l5∧RV g.m w (yB.1:List Str) l5∧e 20=.bool (vB)∧e 22=.int .i64 (g8)∧e 23=.int .i64 (s)) ⟨dX,hfr,vR,xR,yR,zR,aS,pO,qO,rO,sO,rfl⟩ (fun X2044 oP oV=>?_);rintro aB g01 k02 ⟨iN,hfr,jM,jJ,cG,kM,pM,pK,qK,sK,tK,uK⟩ h;refine Zq h (fun (s:Unit) e w=>∃ (g:Gh) ,Fr gI wI g w∧e 2=.bool (x2)∧e 7=p5∧OB 2007 g w 32 (y4:FaultLoom) p5∧e 8=.int .i64 (((((y4).Design).Rows).length:Int))∧e 9=.int .i64 (n8)∧e 10=l5∧RV g.m w (yB.1:List Str) l5∧e 20=.bool (vB)∧e 22=.int .i64 (g8)∧e 23=.int .i64 (aB)) (fun X2050 sP pV h=>?_) ?_
         ·refine Zf (Za (Zo uK rfl ?_))
          refine Zz (Gk p5 0) (Zc Hw jJ (OB.ptr cG)) rfl ?_;refine Zz (Gk p5 1) (Ku (o1:=0) rfl Kx rfl (OB.ptr cG)) rfl ?_;refine Ze .plain rfl (Wr (g:=iN) (Gm.comp Qp Tn rfl).1 Try.isAgg26 Try.sizeOf26 rfl cG fun l02 eX=>?_);refine Zz (.int .i64 ((((y4).Harness).Warps).length:Int)) (Qv Try.underlying26 rfl eX) rfl ?_;refine Zz (.bool ((decide (aB < ((((y4).Harness).Warps).length:Int))))) (Te rfl rfl rfl) rfl ?_;refine Zb (Zd ?_);rcases Zt h with ⟨vK,h⟩ | ⟨vK,h⟩
          ·refine Tv vK rfl ?_
           exact Zu (Zd (pV () _ _ ⟨iN,hfr,jM,jJ,cG,kM,pM,pK,qK,sK,tK,uK⟩ h))
          ·refine Tu vK rfl ?_
           refine Qj ?_;refine Ta ?_;refine Ta ?_;refine Tp ?_;exact To (Zd (nV () _ _ ⟨iN,hfr,jM,jJ,cG,kM,pM,pK,qK,sK,tK⟩ h))
         ·rintro _ h01 m02 ⟨jN, hfr, yH, aE, n9, kJ, eG, yD, nB, aI, zD, mE⟩ h
          refine Zq h (fun (s:Unit) e w=>∃ (g:Gh) ,Fr gI wI g w∧e 2=.bool (x2)∧e 7=p5∧OB 2007 g w 32 (y4:FaultLoom) p5∧e 8=.int .i64 (((((y4).Design).Rows).length:Int))∧e 9=.int .i64 (n8)∧e 10=l5∧RV g.m w (yB.1:List Str) l5∧e 20=.bool (vB)∧e 22=.int .i64 (g8)∧e 23=.int .i64 (aB)) (fun X2334 pP qV h=>?_) ?_
          ·refine Zr ?_
           obtain ⟨rE,hx,h⟩:=Gd h;refine Gx (fun e w=>∃ (g:Gh) ,Fr gI wI g w∧e 2=.bool (x2)∧e 7=p5∧OB 2007 g w 32 (y4:FaultLoom) p5∧e 8=.int .i64 (((((y4).Design).Rows).length:Int))∧e 9=.int .i64 (n8)∧e 10=l5∧RV g.m w (yB.1:List Str) l5∧e 20=.bool (vB)∧e 22=.int .i64 (g8)∧e 23=.int .i64 (aB)∧e 196=.bool (rE)) (fun Q' hQ=>?_) (fun i01 n02 hR=>?_)
           ·replace h := hx
            clear hx;obtain ⟨uC,kI,h⟩:=Gd h;have gX:=Wp nB kI;refine Zs (x:=.tmp 168) Try.isAgg9 Try.sizeOf9 gX fun o02 iX xK=>?_;obtain rfl:=Jb.1 iX;refine Ue (x:=.tmp 172) (Gm.comp Qp Tn rfl).1 Try.isAgg26 Try.sizeOf26 n9 fun kN lN yK=>?_;rcases Zt h with ⟨v8,h⟩ | ⟨v8,h⟩
            ·refine Qu (g := jN) (n := 31) [] [0, 1, 2, 3, 4, 5, 6, 7, 8, 9, 10, 11, 12, 13, 14, 15, 16, 17, 18, 19, 20, 21, 22, 23, 24, 25, 26, 27, 28, 29, 30] rfl Wt (by kernel_rfl) trivial ?_
             refine Gc l5 rfl rfl (Zk yD) ?_;refine Gc (.int .i64 (g8)) rfl rfl (Zk zD) ?_;refine Gc (We l5 g8 1) rfl rfl (Zh (α:=Str) Try.underlying34 Try.sizeOf9 rfl nB rfl kI) ?_;refine Qm (c:=Str.v (uC)) rfl rfl .plain (fun _ _ h=>h.ch) xK rfl ?_;refine Gc (.int .i64 ((uC).b.length:Int)) rfl rfl (P_lenS Try.underlying9 rfl) ?_;refine Gc (Gk p5 0) rfl rfl (Zc Hw aE (OB.ptr n9)) ?_;refine Gc (Gk p5 1) rfl rfl (Ku (o1:=0) rfl Kx rfl (OB.ptr n9)) ?_;refine Qm (c:=kN) rfl rfl .plain (fun _ _ h=>⟨h.ch,fun b hb _=>h.below.block b hb⟩) yK rfl ?_;refine Gc (.int .i64 ((((y4).Harness).Warps).length:Int)) rfl rfl (Qv Try.underlying26 rfl lN) ?_;refine Gc (.bool ((((uC).b.length:Int) != ((((y4).Harness).Warps).length:Int)))) rfl rfl (Te rfl rfl rfl) ?_;refine Gc (.bool ((((uC).b.length:Int) != ((((y4).Harness).Warps).length:Int)))) rfl rfl (Zk rfl) ?_;iterate 9 refine L_s rfl rfl rfl v8 rfl ?_
             refine L_dead (fun _=>rfl) 9 rfl ?_;refine L_s rfl rfl rfl v8 rfl ?_;refine Gc (.bool true) rfl rfl (Zl (b:=(((uC).b.length:Int) != ((((y4).Harness).Warps).length:Int))) rfl (Qn v8 rfl)) ?_;refine Vn fun jX p02 hs=>?_;have hfr:=hfr.ext hs;have n9:=n9.ext hs;have nB:=nB.ext hs;clear hs;refine Zb ?_;obtain rfl:=sinj h;exact hQ _ _ ⟨jX,hfr,yH,aE,n9,kJ,eG,yD,nB,aI,zD,mE,rfl⟩
            ·refine Ue (x := .tmp 178) (Gm.comp Qp Tn rfl).1 Try.isAgg26 Try.sizeOf26 n9 fun oJ mN dO => ?_
             obtain ⟨oE,zK,h⟩:=Gd h;have kX:=Wp mN zK;refine Zs (x:=.tmp 181) Try.isAgg3 Try.sizeOf3 kX fun q02 lX eO=>?_;obtain rfl:=Zj.1 lX;rcases Zt h with ⟨vC,h⟩ | ⟨vC,h⟩
             ·obtain ⟨qM, gO, h⟩ := Gd h
              have mX:=Wp nB gO;refine Zs (x:=.tmp 188) Try.isAgg9 Try.sizeOf9 mX fun r02 nX rV=>?_;obtain rfl:=Jb.1 nX;obtain ⟨gG,sV,h⟩:=Gd h;refine Qu (g:=jN) (n:=31) [] [0,1,2,3,4,5,6,7,8,9,10,11,12,13,14,15,16,17,18,19,20,21,22,23,24,25,26,27,28,29,30] rfl Wt (by kernel_rfl) trivial ?_;refine Gc l5 rfl rfl (Zk yD) ?_;refine Gc (.int .i64 (g8)) rfl rfl (Zk zD) ?_;refine Gc (We l5 g8 1) rfl rfl (Zh (α:=Str) Try.underlying34 Try.sizeOf9 rfl nB rfl kI) ?_;refine Qm (c:=Str.v (uC)) rfl rfl .plain (fun _ _ h=>h.ch) xK rfl ?_;refine Gc (.int .i64 ((uC).b.length:Int)) rfl rfl (P_lenS Try.underlying9 rfl) ?_;refine Gc (Gk p5 0) rfl rfl (Zc Hw aE (OB.ptr n9)) ?_;refine Gc (Gk p5 1) rfl rfl (Ku (o1:=0) rfl Kx rfl (OB.ptr n9)) ?_;refine Qm (c:=kN) rfl rfl .plain (fun _ _ h=>⟨h.ch,fun b hb _=>h.below.block b hb⟩) yK rfl ?_;refine Gc (.int .i64 ((((y4).Harness).Warps).length:Int)) rfl rfl (Qv Try.underlying26 rfl lN) ?_;refine Gc (.bool ((((uC).b.length:Int) != ((((y4).Harness).Warps).length:Int)))) rfl rfl (Te rfl rfl rfl) ?_;refine Gc (.bool ((((uC).b.length:Int) != ((((y4).Harness).Warps).length:Int)))) rfl rfl (Zk rfl) ?_;refine L_y (Gk p5 0) rfl rfl rfl rfl v8 (Zc Hw aE (OB.ptr n9)) ?_;refine L_y (Gk p5 1) rfl rfl rfl rfl v8 (Ku (o1:=0) rfl Kx rfl (OB.ptr n9)) ?_;refine Qm (c:=oJ) rfl rfl (.yes2 rfl rfl v8) (fun _ _ h=>⟨h.ch,fun b hb _=>h.below.block b hb⟩) dO rfl ?_;refine L_y (.int .i64 (aB)) rfl rfl rfl rfl v8 (Zk mE) ?_;refine L_y (We oJ aB 1) rfl rfl rfl rfl v8 (Zh (α:=Int) Try.underlying26 Try.sizeOf3 rfl mN rfl zK) ?_;refine Qm (c:=.int .i64 (oE)) rfl rfl (.yes2 rfl rfl v8) (fun _ _ h=>h.ch) eO rfl ?_;refine L_y (.int .i64 (n8)) rfl rfl rfl rfl v8 (Zk eG) ?_;refine L_y (.bool ((oE == n8))) rfl rfl rfl rfl v8 (Te rfl rfl rfl) ?_;refine L_y (.bool ((oE == n8))) rfl rfl rfl rfl v8 (Zk rfl) ?_;refine L_y l5 rfl rfl rfl rfl vC (Zk yD) ?_;refine L_y (.int .i64 (g8)) rfl rfl rfl rfl vC (Zk zD) ?_;refine L_y (We l5 g8 1) rfl rfl rfl rfl vC (Zh (α:=Str) Try.underlying34 Try.sizeOf9 rfl nB rfl gO) ?_;refine Qm (c:=Str.v (qM)) rfl rfl (.yes2 rfl rfl vC) (fun _ _ h=>h.ch) rV rfl ?_;refine L_y (.int .i64 (aB)) rfl rfl rfl rfl vC (Zk mE) ?_;refine L_y (.int .u8 (UInt8.toNat (gG))) rfl rfl rfl rfl vC (Da Try.underlying9 rfl rfl sV) ?_;refine L_y (.bool ((gG == (120:UInt8)))) rfl rfl rfl rfl vC (P_u8 rfl rfl rfl) ?_;refine L_y (.bool (x2)) rfl rfl rfl rfl vC (Zk yH) ?_;refine L_y (.bool ((!((gG == (120:UInt8)) == x2)))) rfl rfl rfl rfl vC (P_bool Try.underlying4 rfl rfl rfl) ?_;refine L_y (.bool ((!((gG == (120:UInt8)) == x2)))) rfl rfl rfl rfl v8 (Zl (b:=(oE == n8)) rfl (Qn vC rfl)) ?_;refine Gc (.bool ((!((gG == (120:UInt8)) == x2)))) rfl rfl (Zl (b:=(((uC).b.length:Int) != ((((y4).Harness).Warps).length:Int))) rfl (Tw v8 rfl)) ?_;refine Vn fun oX s02 hs=>?_;have hfr:=hfr.ext hs;have n9:=n9.ext hs;have nB:=nB.ext hs;clear hs;refine Zb ?_;obtain rfl:=sinj h;exact hQ _ _ ⟨oX,hfr,yH,aE,n9,kJ,eG,yD,nB,aI,zD,mE,rfl⟩
             ·refine Qu (g := jN) (n := 31) [] [0, 1, 2, 3, 4, 5, 6, 7, 8, 9, 10, 11, 12, 13, 14, 15, 16, 17, 18, 19, 20, 21, 22, 23, 24, 25, 26, 27, 28, 29, 30] rfl Wt (by kernel_rfl) trivial ?_
              refine Gc l5 rfl rfl (Zk yD) ?_;refine Gc (.int .i64 (g8)) rfl rfl (Zk zD) ?_;refine Gc (We l5 g8 1) rfl rfl (Zh (α:=Str) Try.underlying34 Try.sizeOf9 rfl nB rfl kI) ?_;refine Qm (c:=Str.v (uC)) rfl rfl .plain (fun _ _ h=>h.ch) xK rfl ?_;refine Gc (.int .i64 ((uC).b.length:Int)) rfl rfl (P_lenS Try.underlying9 rfl) ?_;refine Gc (Gk p5 0) rfl rfl (Zc Hw aE (OB.ptr n9)) ?_;refine Gc (Gk p5 1) rfl rfl (Ku (o1:=0) rfl Kx rfl (OB.ptr n9)) ?_;refine Qm (c:=kN) rfl rfl .plain (fun _ _ h=>⟨h.ch,fun b hb _=>h.below.block b hb⟩) yK rfl ?_;refine Gc (.int .i64 ((((y4).Harness).Warps).length:Int)) rfl rfl (Qv Try.underlying26 rfl lN) ?_;refine Gc (.bool ((((uC).b.length:Int) != ((((y4).Harness).Warps).length:Int)))) rfl rfl (Te rfl rfl rfl) ?_;refine Gc (.bool ((((uC).b.length:Int) != ((((y4).Harness).Warps).length:Int)))) rfl rfl (Zk rfl) ?_;refine L_y (Gk p5 0) rfl rfl rfl rfl v8 (Zc Hw aE (OB.ptr n9)) ?_;refine L_y (Gk p5 1) rfl rfl rfl rfl v8 (Ku (o1:=0) rfl Kx rfl (OB.ptr n9)) ?_;refine Qm (c:=oJ) rfl rfl (.yes2 rfl rfl v8) (fun _ _ h=>⟨h.ch,fun b hb _=>h.below.block b hb⟩) dO rfl ?_;refine L_y (.int .i64 (aB)) rfl rfl rfl rfl v8 (Zk mE) ?_;refine L_y (We oJ aB 1) rfl rfl rfl rfl v8 (Zh (α:=Int) Try.underlying26 Try.sizeOf3 rfl mN rfl zK) ?_;refine Qm (c:=.int .i64 (oE)) rfl rfl (.yes2 rfl rfl v8) (fun _ _ h=>h.ch) eO rfl ?_;refine L_y (.int .i64 (n8)) rfl rfl rfl rfl v8 (Zk eG) ?_;refine L_y (.bool ((oE == n8))) rfl rfl rfl rfl v8 (Te rfl rfl rfl) ?_;refine L_y (.bool ((oE == n8))) rfl rfl rfl rfl v8 (Zk rfl) ?_;iterate 9 refine L_s rfl rfl rfl vC rfl ?_
              refine L_y (.bool false) rfl rfl rfl rfl v8 (Zl (b:=(oE == n8)) rfl (Tw vC rfl)) ?_;refine Gc (.bool false) rfl rfl (Zl (b:=(((uC).b.length:Int) != ((((y4).Harness).Warps).length:Int))) rfl (Tw v8 rfl)) ?_;refine Vn fun pX t02 hs=>?_;have hfr:=hfr.ext hs;have n9:=n9.ext hs;have nB:=nB.ext hs;clear hs;refine Zb ?_;obtain rfl:=sinj h;exact hQ _ _ ⟨pX,hfr,yH,aE,n9,kJ,eG,yD,nB,aI,zD,mE,rfl⟩
           ·clear hx
            obtain ⟨qX,hfr,bS,cS,dS,eS,gS,tO,uO,vO,xO,yO,lJ⟩:=hR;rcases Zt h with ⟨aL,h⟩ | ⟨aL,h⟩
            ·refine Tt (Eq.trans (show ev _ _ = .bool (rE) from lJ) (congrArg Value.bool aL)) ?_
             refine Zf (Za (Zg (.bool false) rfl rfl ?_));refine Zb (Zd (Gq (Qh ?_)));refine Tc ?_;refine Tc ?_;refine Qh ?_;refine Qh ?_;refine Tc ?_;refine Tc ?_;refine Qh ?_;refine Tc ?_;obtain rfl:=sinj h;exact Qq rfl rfl (show _=.bool false from rfl) ⟨_,hfr,rfl⟩
            ·refine Td (Eq.trans (show ev _ _ = .bool (rE) from lJ) (congrArg Value.bool aL)) ?_
             exact Zu (To (Zd (qV () _ _ ⟨qX,hfr,bS,cS,dS,eS,gS,tO,uO,vO,xO,yO⟩ h)))
          ·rintro _ j01 u02 ⟨rX, hfr, iS, jS, lS, mS, nS, zO, aP, bP, cP, dP⟩ h
           refine Za (Zo dP rfl ?_);refine Gp (.int .i64 ((w64 (aB + (1:Int))))) rfl rfl rfl rfl ?_;refine Zg (.int .i64 ((w64 (aB + (1:Int))))) rfl rfl ?_;exact Zb (Zd (oV ((w64 (aB + (1:Int)))) _ _ ⟨rX,hfr,iS,jS,lS,mS,nS,zO,aP,bP,cP,rfl⟩ h))
        ·rintro _ k01 v02 ⟨sX, hfr, oS, pS, qS, rS, sS, eP, gP, iP, jP⟩ h
         refine Za (Zo jP rfl ?_);refine Gp (.int .i64 ((w64 (g8 + (1:Int))))) rfl rfl rfl rfl ?_;refine Zg (.int .i64 ((w64 (g8 + (1:Int))))) rfl rfl ?_;exact Zb (Zd (lV ((w64 (g8 + (1:Int)))) _ _ ⟨sX,hfr,oS,pS,qS,rS,sS,eP,gP,iP,rfl⟩ h))
      ·rintro _ l01 x02 ⟨zP, hfr, kP⟩ h
       obtain ⟨pH,hx,h⟩:=Gd h;refine Gx (fun e w=>∃ (g:Gh) ,Fr gI wI g w∧e 6=.bool (pH)) (fun Q' hQ=>?_) (fun m01 y02 hR=>?_)
       ·replace h := hx
        clear hx;refine Za (Zo kP rfl ?_);refine Zn (.bool (vB)) rfl rfl ?_;rcases Zt h with ⟨gH,h⟩ | ⟨gH,h⟩
        ·obtain ⟨nH, tV, h⟩ := Gd h
         refine Ze (.yes2 rfl rfl gH) rfl (Zp (g:=zP) (vs:=[]) en13 .nil (wk13  tV) fun bQ n01 z02 hs hr=>?_);have hfr:=hfr.ext hs;subst hr;refine Zz (.bool (nH)) (Zl (b:=vB) rfl (Qn gH rfl)) rfl ?_;refine Zn (.bool (nH)) rfl rfl ?_;rcases Zt h with ⟨jH,h⟩ | ⟨jH,h⟩
         ·obtain ⟨oH, uV, h⟩ := Gd h
          refine Ze (.yes2 rfl rfl jH) rfl (Zp (g:=bQ) (vs:=[]) en14 .nil (wk14  uV) fun cQ o01 a03 hs hr=>?_);have hfr:=hfr.ext hs;subst hr;refine Zz (.bool (oH)) (Zl (b:=nH) rfl (Qn jH rfl)) rfl ?_;refine Zn (.bool (oH)) rfl rfl ?_;rcases Zt h with ⟨kH,h⟩ | ⟨kH,h⟩
          ·obtain ⟨mJ, vV, h⟩ := Gd h
           refine Ze (.yes2 rfl rfl kH) rfl (Zp (g:=cQ) (vs:=[]) en15 .nil (wk15  vV) fun tX p01 b03 hs hr=>?_);have hfr:=hfr.ext hs;subst hr;refine Zz (.bool (mJ)) (Zl (b:=oH) rfl (Qn kH rfl)) rfl ?_;refine Zg (.bool (mJ)) rfl rfl ?_;refine Zb ?_;obtain rfl:=sinj h;exact hQ _ _ ⟨tX,hfr,rfl⟩
          ·refine Gb rfl rfl kH rfl rfl ?_
           refine Zz (.bool false) (Zl (b:=oH) rfl (Tw kH rfl)) rfl ?_;refine Zg (.bool false) rfl rfl ?_;refine Zb ?_;obtain rfl:=sinj h;exact hQ _ _ ⟨cQ,hfr,rfl⟩
         ·refine Gb rfl rfl jH rfl rfl ?_
          refine Zz (.bool false) (Zl (b:=nH) rfl (Tw jH rfl)) rfl ?_;refine Hp 3 rfl ?_;refine Zg (.bool false) rfl rfl ?_;refine Zb ?_;obtain rfl:=sinj h;exact hQ _ _ ⟨bQ,hfr,rfl⟩
        ·refine Gb rfl rfl gH rfl rfl ?_
         refine Zz (.bool false) (Zl (b:=vB) rfl (Tw gH rfl)) rfl ?_;refine Hp 6 rfl ?_;refine Zg (.bool false) rfl rfl ?_;refine Zb ?_;obtain rfl:=sinj h;exact hQ _ _ ⟨zP,hfr,rfl⟩
       ·clear hx
        obtain ⟨c03,hfr,tS⟩:=hR;refine Gq ?_;obtain rfl:=sinj h;exact Qq rfl rfl (show _=.bool (pH) from tS) ⟨_,hfr,rfl⟩
end Go.Proofs.Ytplaipkjhlkjgaa
