import Derived.Test.YtjjbobaoifflpaaGreatDoorCode3
set_option maxRecDepth 8000
set_option maxHeartbeats 4000000
namespace Go.Proofs.YtjjbobaoifflpaaGreatDoor
open Go.RowKit Tryz
def f15 :Option (Bool):=
 (f13 ((⟨([(⟨0,(20:Int)⟩:Gq),(⟨(60:Int),(30:Int)⟩:Gq)]:List Gq),([(100:Int),(250:Int)]:List Int),(12:Int),(100:Int)⟩:PayList))).bind fun oD=>
 (f14 oD ((⟨0,(60:Int),(50000:Int),([(0:Int),(1:Int)]:List Int),(20:Int)⟩:Gf))).bind fun l5=>
 (f33 ((10:Int)) (([(2:Int),(2:Int),(3:Int)]:List Int))).bind fun l8=>
 (f34 ((⟨([([(5:Int),(8:Int)]:List Int),([(1:Int),(2:Int)]:List Int)]:List (List Int)),([(12:Int),(3:Int)]:List Int),([(6:Int),(9:Int)]:List Int),(15:Int)⟩:PayTable))).bind fun t5=>
 Option.bind (α:=Bool) (
  bif (l5.2.2.2 == (0 : Int)) then
   bif (l8.2 == (0 : Int)) then
    bif (t5.2 == (0 : Int)) then
     bif (l5.2.2.1 == (1823 : Int)) then
      (f35 (l8.1) (([(3:Int),(3:Int),(4:Int)]:List Int))).bind fun y44=>
      bif y44 then
       some (((t5.1).Number == (7:Int)))
      else
       some (false)
     else
      some (false)
    else
     some (false)
   else
    some (false)
  else
   some (false)
  ) fun lB=>
 some (lB)
theorem en15:Enters prog 15:=enters_of func15 (by kernel_rfl) rfl
theorem wk15 {gI:Gh} {wI:World}   {r:Bool} (h:f15 =some r):Fn prog 15 #[] gI wI (fun _ _ v=>v=.bool (r)):=by
 unfold f15 at h;refine fnE func15 rfl rfl fun g0 hm hfr=>?_;show E _ 64 none _ _ _ _ _;refine Z5 (Zg (.bool false) rfl rfl (Z3 (Z5 ?_)));have r1:RV g0.m wI (⟨0,(20:Int)⟩:Gq) (.agg (Td [[Iz 0],[Iz 0]] [(1,Iz (20))]).flatten.toArray):=Tc rfl (Gm (Zw) (Tf (rfl)));generalize hv1:(Value.agg (Td [[Iz 0],[Iz 0]] [(1,Iz (20))]).flatten.toArray)=v1 at r1;refine Zx v1 (hv1 ▸ Tu (vs:=[(1,Iz (20))]) [[Iz 0],[Iz 0]] Fc rfl rfl (.cons rfl .nil) ⟨⟨_,rfl,rfl⟩,trivial⟩) rfl ?_;have r2:RV g0.m wI (⟨(60:Int),(30:Int)⟩:Gq) (.agg (Td [[Iz 0],[Iz 0]] [(0,Iz (60)),(1,Iz (30))]).flatten.toArray):=Tc rfl (Gm (rfl) (Tf (rfl)));generalize hv2:(Value.agg (Td [[Iz 0],[Iz 0]] [(0,Iz (60)),(1,Iz (30))]).flatten.toArray)=v2 at r2;refine Zx v2 (hv2 ▸ Tu (vs:=[(0,Iz (60)),(1,Iz (30))]) [[Iz 0],[Iz 0]] Fc rfl rfl (.cons rfl (.cons rfl .nil)) ⟨⟨_,rfl,rfl⟩,⟨⟨_,rfl,rfl⟩,trivial⟩⟩) rfl (Z4 rfl (Z7 (g:=g0) 3012 (xs:=([(⟨0,(20:Int)⟩:Gq),(⟨(60:Int),(30:Int)⟩:Gq)]:List Gq)) (vs:=[v1,v2]) underlying35 sizeOf74 zeroValue74 rfl rfl (.cons rfl (.cons rfl .nil)) (RVs.cons r1 (RVs.cons r2 RVs.nil)) rfl rfl fun g3 w3 v3 hs o3 r3 hxt hfl=>?_));have hfr:=hfr.stp hs;refine Z4 rfl (Z7 (g:=g3) 3013 (xs:=([(100:Int),(250:Int)]:List Int)) (vs:=[Iz (100),Iz (250)]) underlying25 sizeOf3 zeroValue3 rfl rfl (.cons rfl (.cons rfl .nil)) (RVs.cons (Zj.2 rfl) (RVs.cons (Zj.2 rfl) RVs.nil)) rfl rfl fun g4 w4 v4 hs o4 r4 hxt hfl=>?_);have hfr:=hfr.stp hs;have r3:=r3.stp hs;have o3:=o3.stp hs rfl;have r5:RV g4.m _ (⟨([(⟨0,(20:Int)⟩:Gq),(⟨(60:Int),(30:Int)⟩:Gq)]:List Gq),([(100:Int),(250:Int)]:List Int),(12:Int),(100:Int)⟩:PayList) (.agg (Td [[.slice none 0 0],[.slice none 0 0],[Iz 0],[Iz 0]] [(0,v3),(1,v4),(2,Iz (12)),(3,Iz (100))]).flatten.toArray):=Tc rfl (Gm (RV.cells r3) (Gm (RV.cells r4) (Gm (rfl) (Tf (rfl)))));generalize yD:(Value.agg (Td [[.slice none 0 0],[.slice none 0 0],[Iz 0],[Iz 0]] [(0,v3),(1,v4),(2,Iz (12)),(3,Iz (100))]).flatten.toArray)=v5 at r5;refine Zx v5 (yD ▸ Tu (vs:=[(0,v3),(1,v4),(2,Iz (12)),(3,Iz (100))]) [[.slice none 0 0],[.slice none 0 0],[Iz 0],[Iz 0]] Iu rfl rfl (.cons rfl (.cons rfl (.cons rfl (.cons rfl .nil)))) ⟨⟨_,rfl,Ti r3⟩,⟨⟨_,rfl,Ti r4⟩,⟨⟨_,rfl,rfl⟩,⟨⟨_,rfl,rfl⟩,trivial⟩⟩⟩⟩) rfl (Z4 rfl (G2 (g:=g4) 2001 (⟨[],[],0,0⟩:PayList) zeroValue37 (fun m w=>⟨_,(Gb G9 (Gb G9 (Gb Zw Zw))),rfl⟩) fun g6 w6 p6 hs b6 cb=>?_));have hfr:=hfr.stp hs;have r3:=r3.stp hs;have o3:=o3.stp hs rfl;have r5:=r5.stp hs;have lH:OSF 2001 60100 0 g6 w6 74 37 ([]:List Gq) p6:=cb.osf (by rfl);have mH:OSF 2001 60101 1 g6 w6 3 37 ([]:List Int) p6:=cb.osf (by rfl);clear cb;refine Z4 rfl (Gg (g:=g6) (v:=v5) sizeOf37 rfl b6 rfl r5 fun g7 w7 hs b7 cb=>?_);obtain ⟨xG,yG,zB,_,_⟩:=Ql r3;have nH:OSF 2001 3012 0 g7 w7 74 37 (([(⟨0,(20:Int)⟩:Gq),(⟨(60:Int),(30:Int)⟩:Gq)]:List Gq):List Gq) p6:=cb.osfv (by rw [← yD,zB]; rfl) (o3.stp hs rfl);clear cb;have hfr:=hfr.stp hs;refine Z3 (Z5 (Z4 rfl (Tp (g:=g7) isAgg37 sizeOf37 rfl b7 fun v8 r8=>?_)));obtain ⟨oD,uE,h⟩:=Z1 h;refine Z4 rfl (Zp (g:=g7) (vs:=[v8]) en13 (.cons rfl .nil) (wk13 r8 uE) fun g9 w9_ v9 hs hr=>?_);have hfr:=hfr.ext hs;have r9:=hr;refine Z4 rfl (Z7 (g:=g9) 3018 (xs:=([(0:Int),(1:Int)]:List Int)) (vs:=[Iz (0),Iz (1)]) underlying25 sizeOf3 zeroValue3 rfl rfl (.cons rfl (.cons rfl .nil)) (RVs.cons (Zj.2 rfl) (RVs.cons (Zj.2 rfl) RVs.nil)) rfl rfl fun zD uH cC hs o11 aE hxt hfl=>?_);have hfr:=hfr.stp hs;have r9:=r9.stp hs;have bE:RV zD.m _ (⟨0,(60:Int),(50000:Int),([(0:Int),(1:Int)]:List Int),(20:Int)⟩:Gf) (.agg (Td [[Iz 0],[Iz 0],[Iz 0],[.slice none 0 0],[Iz 0]] [(1,Iz (60)),(2,Iz (50000)),(3,cC),(4,Iz (20))]).flatten.toArray):=Tc rfl (Gm (Zw) (Gm (rfl) (Gm (rfl) (Gm (RV.cells aE) (Tf (rfl))))));generalize vE:(Value.agg (Td [[Iz 0],[Iz 0],[Iz 0],[.slice none 0 0],[Iz 0]] [(1,Iz (60)),(2,Iz (50000)),(3,cC),(4,Iz (20))]).flatten.toArray)=iE at bE;refine Zx iE (vE ▸ Tu (vs:=[(1,Iz (60)),(2,Iz (50000)),(3,cC),(4,Iz (20))]) [[Iz 0],[Iz 0],[Iz 0],[.slice none 0 0],[Iz 0]] Pw rfl rfl (.cons rfl (.cons rfl (.cons rfl (.cons rfl .nil)))) ⟨⟨_,rfl,rfl⟩,⟨⟨_,rfl,rfl⟩,⟨⟨_,rfl,Ti aE⟩,⟨⟨_,rfl,rfl⟩,trivial⟩⟩⟩⟩) rfl ?_
 obtain ⟨l5,xE,h⟩:=Z1 h;refine Z4 rfl (Zp (g:=zD) (vs:=[v9,iE]) en14 (.cons rfl (.cons rfl .nil)) (wk14 r9 bE xE) fun eF oH xH hs hr=>?_);have hfr:=hfr.ext hs;obtain ⟨zG,aH,cH,gH,rfl,rfl,rfl,rfl,rfl⟩:=hr;refine Zn (.tuple #[Iz (l5.1),Iz (l5.2.1),Iz (l5.2.2.1),Iz (l5.2.2.2)]) rfl rfl (Zx (Iz (l5.1)) (Zi rfl rfl) rfl (Zx (Iz (l5.2.1)) (Zi rfl rfl) rfl (Zx (Iz (l5.2.2.1)) (Zi rfl rfl) rfl (Zx (Iz (l5.2.2.2)) (Zi rfl rfl) rfl (Zg (Iz (l5.1)) rfl rfl (Zg (Iz (l5.2.1)) rfl rfl (Zg (Iz (l5.2.2.1)) rfl rfl (Zg (Iz (l5.2.2.2)) rfl rfl (Z3 (Z5 (Z4 rfl (Z7 (g:=eF) 3026 (xs:=([(2:Int),(2:Int),(3:Int)]:List Int)) (vs:=[Iz (2),Iz (2),Iz (3)]) underlying25 sizeOf3 zeroValue3 rfl rfl (.cons rfl (.cons rfl (.cons rfl .nil))) (RVs.cons (Zj.2 rfl) (RVs.cons (Zj.2 rfl) (RVs.cons (Zj.2 rfl) RVs.nil))) rfl rfl fun rF w15 sF hs o15 tF hxt hfl=>?_))))))))))));have hfr:=hfr.stp hs;obtain ⟨l8,yE,h⟩:=Z1 h;refine Z4 rfl (Zp (g:=rF) (vs:=[Iz (10),sF]) en33 (.cons rfl (.cons rfl .nil)) (wk33 tF yE) fun uF pH yH hs hr=>?_);have hfr:=hfr.ext hs;obtain ⟨aB,jH,rfl,o0,rfl⟩:=hr;refine Zn (.tuple #[aB,Iz (l8.2)]) rfl rfl (Zx aB (Zi rfl rfl) rfl (Zx (Iz (l8.2)) (Zi rfl rfl) rfl (Zg aB rfl rfl (Zg (Iz (l8.2)) rfl rfl (Z3 (Z5 (Z4 rfl (Z7 (g:=uF) 3031 (xs:=([(5:Int),(8:Int)]:List Int)) (vs:=[Iz (5),Iz (8)]) underlying25 sizeOf3 zeroValue3 rfl rfl (.cons rfl (.cons rfl .nil)) (RVs.cons (Zj.2 rfl) (RVs.cons (Zj.2 rfl) RVs.nil)) rfl rfl fun vF zH xF hs o18 uC hxt hfl=>?_))))))));have hfr:=hfr.stp hs;have o0:=o0.stp hs;refine Z4 rfl (Z7 (g:=vF) 3032 (xs:=([(1:Int),(2:Int)]:List Int)) (vs:=[Iz (1),Iz (2)]) underlying25 sizeOf3 zeroValue3 rfl rfl (.cons rfl (.cons rfl .nil)) (RVs.cons (Zj.2 rfl) (RVs.cons (Zj.2 rfl) RVs.nil)) rfl rfl fun yF aI aG hs o19 bG hxt hfl=>?_);have hfr:=hfr.stp hs;have o0:=o0.stp hs;have uC:=uC.stp hs;refine Z4 rfl (Z7 (g:=yF) 3033 (xs:=([([(5:Int),(8:Int)]:List Int),([(1:Int),(2:Int)]:List Int)]:List (List Int))) (vs:=[xF,aG]) underlying122 sizeOf25 zeroValue25 rfl rfl (.cons rfl (.cons rfl .nil)) (RVs.cons uC (RVs.cons bG RVs.nil)) rfl rfl fun cG bI vC hs o20 mB hxt hfl=>?_);have hfr:=hfr.stp hs;have o0:=o0.stp hs;refine Z4 rfl (Z7 (g:=cG) 3034 (xs:=([(12:Int),(3:Int)]:List Int)) (vs:=[Iz (12),Iz (3)]) underlying25 sizeOf3 zeroValue3 rfl rfl (.cons rfl (.cons rfl .nil)) (RVs.cons (Zj.2 rfl) (RVs.cons (Zj.2 rfl) RVs.nil)) rfl rfl fun eG dI bD hs o21 yB hxt hfl=>?_);have hfr:=hfr.stp hs;have o0:=o0.stp hs;have mB:=mB.stp hs;refine Z4 rfl (Z7 (g:=eG) 3035 (xs:=([(6:Int),(9:Int)]:List Int)) (vs:=[Iz (6),Iz (9)]) underlying25 sizeOf3 zeroValue3 rfl rfl (.cons rfl (.cons rfl .nil)) (RVs.cons (Zj.2 rfl) (RVs.cons (Zj.2 rfl) RVs.nil)) rfl rfl fun lE iI cD hs o22 mE hxt hfl=>?_);have hfr:=hfr.stp hs;have o0:=o0.stp hs;have mB:=mB.stp hs;have yB:=yB.stp hs;have oE:RV lE.m _ (⟨([([(5:Int),(8:Int)]:List Int),([(1:Int),(2:Int)]:List Int)]:List (List Int)),([(12:Int),(3:Int)]:List Int),([(6:Int),(9:Int)]:List Int),(15:Int)⟩:PayTable) (.agg (Td [[.slice none 0 0],[.slice none 0 0],[.slice none 0 0],[Iz 0]] [(0,vC),(1,bD),(2,cD),(3,Iz (15))]).flatten.toArray):=Tc rfl (Gm (RV.cells mB) (Gm (RV.cells yB) (Gm (RV.cells mE) (Tf (rfl)))));generalize zE:(Value.agg (Td [[.slice none 0 0],[.slice none 0 0],[.slice none 0 0],[Iz 0]] [(0,vC),(1,bD),(2,cD),(3,Iz (15))]).flatten.toArray)=rE at oE;refine Zx rE (zE ▸ Tu (vs:=[(0,vC),(1,bD),(2,cD),(3,Iz (15))]) [[.slice none 0 0],[.slice none 0 0],[.slice none 0 0],[Iz 0]] lay_124 rfl rfl (.cons rfl (.cons rfl (.cons rfl (.cons rfl .nil)))) ⟨⟨_,rfl,Ti mB⟩,⟨⟨_,rfl,Ti yB⟩,⟨⟨_,rfl,Ti mE⟩,⟨⟨_,rfl,rfl⟩,trivial⟩⟩⟩⟩) rfl ?_;obtain ⟨t5,cF,h⟩:=Z1 h;refine Z4 rfl (Zp (g:=lE) (vs:=[rE]) en34 (.cons rfl .nil) (wk34 oE cF) fun gG qH jI hs hr=>?_);have hfr:=hfr.ext hs;have o0:=o0.ext hs;obtain ⟨nB,kH,rfl,oB,rfl⟩:=hr;refine Zn (.tuple #[nB,Iz (t5.2)]) rfl rfl (Zx nB (Zi rfl rfl) rfl (Zx (Iz (t5.2)) (Zi rfl rfl) rfl (Z4 rfl (G2 (g:=gG) 2008 (⟨0,0,0,0⟩:Ts) zeroValue119 (fun m w=>⟨_,(Gb Zw (Gb Zw (Gb Zw Zw))),rfl⟩) fun iG kI jG hs b26 cb=>?_))))
 have hfr:=hfr.stp hs;have o0:=o0.stp hs;have oB:=oB.stp hs;clear cb;refine Z4 rfl (Gg (g:=iG) (v:=nB) sizeOf119 rfl b26 rfl oB fun vB lI hs b27 cb=>?_);clear cb;have hfr:=hfr.stp hs;have o0:=o0.stp hs;refine Zg (Iz (t5.2)) rfl rfl (Z3 ?_);obtain ⟨lB,hx,h⟩:=Z1 h;refine Gl (fun e w=>∃ (g:Gh) ,Fr gI wI g w∧e 0=.bool (lB)) (fun Q' hQ=>?_) (fun sH mI hR=>?_)
 ·replace h := hx
  clear hx;refine Za (Zn (Iz (l5.2.2.2)) rfl rfl (Z9 (.bool ((l5.2.2.2 == (0:Int)))) rfl rfl rfl rfl (Zn (.bool ((l5.2.2.2 == (0:Int)))) rfl rfl ?_)));rcases Zt h with ⟨n8,h⟩ | ⟨n8,h⟩
  ·refine Zy (Iz (l8.2)) (Zk rfl) rfl rfl n8 rfl (Zy (.bool ((l8.2 == (0 : Int)))) (Gk rfl rfl rfl) rfl rfl n8 rfl (Zx (.bool ((l8.2 == (0 : Int)))) (Zl (b := (l5.2.2.2 == (0 : Int))) rfl (G4 n8 rfl)) rfl (Zn (.bool ((l8.2 == (0 : Int)))) rfl rfl ?_)))
   rcases Zt h with ⟨l9,h⟩ | ⟨l9,h⟩
   ·refine Zy (Iz (t5.2)) (Zk rfl) rfl rfl l9 rfl (Zy (.bool ((t5.2 == (0 : Int)))) (Gk rfl rfl rfl) rfl rfl l9 rfl (Zx (.bool ((t5.2 == (0 : Int)))) (Zl (b := (l8.2 == (0 : Int))) rfl (G4 l9 rfl)) rfl (Zn (.bool ((t5.2 == (0 : Int)))) rfl rfl ?_)))
    rcases Zt h with ⟨n9,h⟩ | ⟨n9,h⟩
    ·refine Zy (Iz (l5.2.2.1)) (Zk rfl) rfl rfl n9 rfl (Zy (.bool ((l5.2.2.1 == (1823 : Int)))) (Gk rfl rfl rfl) rfl rfl n9 rfl (Zx (.bool ((l5.2.2.1 == (1823 : Int)))) (Zl (b := (t5.2 == (0 : Int))) rfl (G4 n9 rfl)) rfl (Zn (.bool ((l5.2.2.1 == (1823 : Int)))) rfl rfl ?_)))
     rcases Zt h with ⟨i6,h⟩ | ⟨i6,h⟩
     ·refine Zy aB (Zk rfl) rfl rfl i6 rfl (Ze (.yes2 rfl rfl i6) rfl (Z7 (g := vB) 3056 (xs := ([(3 : Int), (3 : Int), (4 : Int)] : List Int)) (vs := [Iz (3), Iz (3), Iz (4)]) underlying25 sizeOf3 zeroValue3 rfl rfl (.cons rfl (.cons rfl (.cons rfl .nil))) (RVs.cons (Zj.2 rfl) (RVs.cons (Zj.2 rfl) (RVs.cons (Zj.2 rfl) RVs.nil))) rfl rfl fun kG nI lG hs o42 mG hxt hfl => ?_))
      have hfr:=hfr.stp hs;have o0:=o0.stp hs;have b27:=b27.stp hs rfl;obtain ⟨y44,dF,h⟩:=Z1 h;refine Ze (.yes2 rfl rfl i6) rfl (Zp (g:=kG) (vs:=[aB,lG]) en35 (.cons rfl (.cons rfl .nil)) (wk35 o0 mG dF) fun lD tH pI hs hr=>?_);have hfr:=hfr.ext hs;have b27:=b27.ext hs;subst hr;refine Zx (.bool (y44)) (Zl (b:=(l5.2.2.1 == (1823:Int))) rfl (G4 i6 rfl)) rfl (Zn (.bool (y44)) rfl rfl ?_);rcases Zt h with ⟨g8,h⟩ | ⟨g8,h⟩
      ·refine Zy (Z8 jG 3) (Zc Sw rfl (OB.ptr b27)) rfl rfl g8 rfl (Ze (.yes2 rfl rfl g8) rfl (Qt (g := lD) Jk.1 isAgg3 sizeOf3 rfl b27 fun qI sG => ?_))
       obtain rfl:=Zj.1 sG;refine Zy (.bool (((t5.1).Number == (7:Int)))) (Gk rfl rfl rfl) rfl rfl g8 rfl (Zx (.bool (((t5.1).Number == (7:Int)))) (Zl (b:=y44) rfl (G4 g8 rfl)) rfl (Zg (.bool (((t5.1).Number == (7:Int)))) rfl rfl (Zb ?_)));obtain rfl:=sinj h;exact hQ _ _ ⟨lD,hfr,rfl⟩
      ·refine Zz rfl rfl g8 rfl rfl (Zz rfl rfl g8 rfl rfl (Zz rfl rfl g8 rfl rfl (Zx (.bool false) (Zl (b := y44) rfl (G5 g8 rfl)) rfl (Zg (.bool false) rfl rfl (Zb ?_)))))
       obtain rfl:=sinj h;exact hQ _ _ ⟨lD,hfr,rfl⟩
     ·refine Zz rfl rfl i6 rfl rfl (Zz rfl rfl i6 rfl rfl (Zz rfl rfl i6 rfl rfl (Zx (.bool false) (Zl (b := (l5.2.2.1 == (1823 : Int))) rfl (G5 i6 rfl)) rfl (Qv 5 rfl (Zg (.bool false) rfl rfl (Zb ?_))))))
      obtain rfl:=sinj h;exact hQ _ _ ⟨vB,hfr,rfl⟩
    ·refine Zz rfl rfl n9 rfl rfl (Zz rfl rfl n9 rfl rfl (Zx (.bool false) (Zl (b := (t5.2 == (0 : Int))) rfl (G5 n9 rfl)) rfl (Qv 10 rfl (Zg (.bool false) rfl rfl (Zb ?_)))))
     obtain rfl:=sinj h;exact hQ _ _ ⟨vB,hfr,rfl⟩
   ·refine Zz rfl rfl l9 rfl rfl (Zz rfl rfl l9 rfl rfl (Zx (.bool false) (Zl (b := (l8.2 == (0 : Int))) rfl (G5 l9 rfl)) rfl (Qv 14 rfl (Zg (.bool false) rfl rfl (Zb ?_)))))
    obtain rfl:=sinj h;exact hQ _ _ ⟨vB,hfr,rfl⟩
  ·refine Zz rfl rfl n8 rfl rfl (Zz rfl rfl n8 rfl rfl (Zx (.bool false) (Zl (b := (l5.2.2.2 == (0 : Int))) rfl (G5 n8 rfl)) rfl (Qv 18 rfl (Zg (.bool false) rfl rfl (Zb ?_)))))
   obtain rfl:=sinj h;exact hQ _ _ ⟨vB,hfr,rfl⟩
 ·clear hx
  obtain ⟨sI,hfr,nD⟩:=hR;refine Ga ?_;obtain rfl:=sinj h;exact Tg rfl rfl (show _=.bool (lB) from nD) ⟨_,hfr,rfl⟩
def f49 (x0:ChainBelt):Option (Int):=
 (f84 x0).bind fun y4=>
 some (y4.2)
theorem en49:Enters prog 49:=enters_of func49 (by kernel_rfl) rfl
theorem wk49 {gI:Gh} {wI:World} {x0:ChainBelt} {up0:Value} (rp0:RV gI.m wI x0 up0) {r:Int} (h:f49 x0=some r):Fn prog 49 #[up0] gI wI (fun _ _ v=>v=Iz (r)):=by
 unfold f49 at h;refine fnE func49 rfl rfl fun g0 hm hfr=>?_;have rp0:=RVc hm rp0;show E _ 11 none _ _ _ _ _;refine Z5 (Z4 rfl (Tv (g:=g0) rfl rp0 fun g1 w1 p1 hs q1=>?_));have hfr:=hfr.ext hs;refine Zg (Iz (0)) rfl rfl (Z3 (Z5 (Z4 rfl (Z6 (g:=g1) isAgg94 sizeOf94 rfl q1 fun v2 r2=>?_))));obtain ⟨y4,t5,h⟩:=Z1 h;refine Z4 rfl (Zp (g:=g1) (vs:=[v2]) en84 (.cons rfl .nil) (wk84 r2 t5) fun g3 w3_ v3 hs hr=>?_);have hfr:=hfr.ext hs;obtain ⟨o0,i6,rfl,l5,rfl⟩:=hr;refine Zn (.tuple #[o0,Iz (y4.2)]) rfl rfl (Zx o0 (Zi rfl rfl) rfl (Zx (Iz (y4.2)) (Zi rfl rfl) rfl (Z4 rfl (G2 (g:=g3) 2003 (⟨⟨0,[]⟩,0⟩:Gv) zeroValue192 (fun m w=>⟨_,(Gb (Gb Zw G9) Zw),rfl⟩) fun g5 w5 p5 hs b5 cb=>?_))));have hfr:=hfr.stp hs;have l5:=l5.stp hs;have g8:OSF 2003 60301 1 g5 w5 96 192 ([]:List Gc) p5:=cb.osf (by rfl);clear cb;refine Z4 rfl (Gg (g:=g5) (v:=o0) sizeOf192 rfl b5 rfl l5 fun g6 w6 hs b6 cb=>?_);clear cb;have hfr:=hfr.stp hs;refine Zg (Iz (y4.2)) rfl rfl (Z3 (Z5 (Zn (Iz (y4.2)) rfl rfl (Zg (Iz (y4.2)) rfl rfl (Z3 (Ga ?_))))));obtain rfl:=sinj h;exact Tg rfl rfl (rq (Iz (y4.2))) ⟨_,hfr,rfl⟩
def f57 (x0:ChainBelt) (x1:Int) (x2:List Int):Option ((List Int) × Int × Int):=
 (f84 x0).bind fun y4=>
 jn (σ:=Unit) (fun _=>
  Option.bind (α:=(List Int) × Int) (
   lp (σ:=(List Int) × Int × Int) (fun gG (lB,i6,l5)=>
    bif (decide (l5 < ((x2).length : Int))) then
     Option.bind (α:=(List Int) × Int) (
      (idx x2 l5).bind fun oB=>
      (f94 (y4.1) i6).bind fun y80=>
      (apnd 8 lB (([y80]:List Int))).bind fun iG=>
      (f95 (y4.1) i6 oB).bind fun iE=>
      some (iG,iE)
      ) fun (n8,l9)=>
     gG (n8,l9,(w64 (l5 + (1:Int))))
    else
     some (lB,i6)
    ) big ([],x1,(0:Int))
   ) fun (n9,v8)=>
  some (n9,v8,(0:Int))
  ) fun k18=>
 bif (y4.2 != (0 : Int)) then
  some ([],(0:Int),y4.2)
 else
  (f93 ((0:Int)) ((w64 ((((x0).Cards).length:Int) - (1:Int)))) (([x1]:List Int))).bind fun nD=>
  bif (!nD) then
   some ([],(0:Int),(7:Int))
  else
   bif (decide (((x2).length : Int) > (60 : Int))) then
    some ([],(0:Int),(5:Int))
   else
    (f93 ((0:Int)) ((2:Int)) x2).bind fun oD=>
    bif (!oD) then
     some ([],(0:Int),(2:Int))
    else
     k18 ()
theorem en57:Enters prog 57:=enters_of func57 (by kernel_rfl) rfl
theorem wk57 {gI:Gh} {wI:World} {x0:ChainBelt} {x1:Int} {x2:List Int} {up0:Value} (rp0:RV gI.m wI x0 up0) {up2:Value} (rp2:RV gI.m wI x2 up2) {r:(List Int) × Int × Int} (h:f57 x0 x1 x2=some r):Fn prog 57 #[up0,Iz (x1),up2] gI wI (fun m w v=>∃ y0 y1 y2,v=.tuple #[y0,y1,y2]∧RV m w (r.1) y0∧y1=Iz (r.2.1)∧y2=Iz (r.2.2)):=by
 unfold f57 at h;refine fnE func57 rfl rfl fun g0 hm hfr=>?_;have rp0:=RVc hm rp0;have rp2:=RVc hm rp2;show E _ 58 none _ _ _ _ _;refine Z5 (Z4 rfl (Tv (g:=g0) rfl rp0 fun g1 w1 p1 hs q1=>?_));have hfr:=hfr.ext hs;have rp2:=rp2.ext hs;refine Zg (.slice none 0 0) rfl rfl (Zg (Iz (0)) rfl rfl (Zg (Iz (0)) rfl rfl (Z3 (Z5 (Z4 rfl (Z6 (g:=g1) isAgg94 sizeOf94 rfl q1 fun v2 r2=>?_))))));obtain ⟨y4,cH,h⟩:=Z1 h;refine Z4 rfl (Zp (g:=g1) (vs:=[v2]) en84 (.cons rfl .nil) (wk84 r2 cH) fun g3 w3_ v3 hs hr=>?_);have hfr:=hfr.ext hs;have rp2:=rp2.ext hs;have q1:=q1.ext hs;obtain ⟨zB,kI,rfl,cC,rfl⟩:=hr;refine Zn (.tuple #[zB,Iz (y4.2)]) rfl rfl (Zx zB (Zi rfl rfl) rfl (Zx (Iz (y4.2)) (Zi rfl rfl) rfl (Z4 rfl (G2 (g:=g3) 2009 (⟨⟨0,[]⟩,0⟩:Gv) zeroValue192 (fun m w=>⟨_,(Gb (Gb Zw G9) Zw),rfl⟩) fun g5 w5 p5 hs b5 cb=>?_))));have hfr:=hfr.stp hs;have rp2:=rp2.stp hs;have q1:=q1.stp hs;have cC:=cC.stp hs;have lI:OSF 2009 60901 1 g5 w5 96 192 ([]:List Gc) p5:=cb.osf (by rfl);clear cb;refine Z4 rfl (Gg (g:=g5) (v:=zB) sizeOf192 rfl b5 rfl cC fun g6 w6 hs b6 cb=>?_);clear cb;have hfr:=hfr.stp hs;have rp2:=rp2.stp hs;have q1:=q1.stp hs;refine Zg (Iz (y4.2)) rfl rfl (Z3 (Zq h (fun (s:Unit) e w=>∃ (g:Gh) ,Fr gI wI g w∧e 1=Iz (x1)∧e 2=up2∧RV g.m w (x2:List Int) up2∧e 6=.slice none 0 0∧RV g.m w ([]:List Int) (Value.slice none 0 0)∧e 9=p5∧OB 2009 g w 192 (y4.1:Gv) p5) (fun X18 k18 lG h=>?_) ?_))
 ·refine Zr (Z5 (Zn (Iz (y4.2)) rfl rfl (Z9 (.bool ((y4.2 != (0 : Int)))) rfl rfl rfl rfl (Zg (.bool ((y4.2 != (0 : Int)))) rfl rfl (Z3 ?_)))))
  rcases Zt h with ⟨uC,h⟩ | ⟨uC,h⟩
  ·refine G6 uC rfl (Z5 (Zn (Iz (y4.2)) rfl rfl (Zg (.slice none 0 0) rfl rfl (Zg (Iz (0)) rfl rfl (Zg (Iz (y4.2)) rfl rfl (Z3 (Ga (Tl (Gp ?_)))))))))
   obtain rfl:=sinj h;exact Ya rfl rfl (rq (.slice none 0 0)) (rq (Iz (0))) (rq (Iz (y4.2))) ⟨_,hfr,_,_,_,rfl,T0,rfl,rfl⟩
  ·refine G7 uC rfl (Z5 (Zx (Z8 p1 1) (Zc Js rfl (PT.ptr q1)) rfl ?_))
   have gH:=Zm (Qq).1 q1;refine Z4 rfl (Z6 (g:=g6) isAgg92 sizeOf92 rfl gH fun mJ jH=>(Zx (Iz (((x0).Cards).length:Int)) (Gz underlying92 rfl jH) rfl (Zx (Iz ((w64 ((((x0).Cards).length:Int) - (1:Int))))) (Gk rfl rfl rfl) rfl (Zn (Iz (x1)) rfl rfl (Z4 rfl (Z7 (g:=g6) 3027 (xs:=([x1]:List Int)) (vs:=[Iz (x1)]) underlying25 sizeOf3 zeroValue3 rfl rfl (.cons rfl .nil) (RVs.cons (Zj.2 rfl) RVs.nil) rfl rfl fun kH nJ lH hs o22 mH hxt hfl=>?_))))));have hfr:=hfr.stp hs;have rp2:=rp2.stp hs;have b6:=b6.stp hs rfl;obtain ⟨nD,mG,h⟩:=Z1 h;refine Z4 rfl (Zp (g:=kH) (vs:=[Iz (0),Iz ((w64 ((((x0).Cards).length:Int) - (1:Int)))),lH]) en93 (.cons rfl (.cons rfl (.cons rfl .nil))) (wk93 mH mG) fun nH mI oJ hs hr=>?_);have hfr:=hfr.ext hs;have rp2:=rp2.ext hs;have b6:=b6.ext hs;subst hr;refine Zx (.bool (!nD)) (Qm rfl) rfl (Zg (.bool (!nD)) rfl rfl (Z3 ?_));rcases Zt h with ⟨vC,h⟩ | ⟨vC,h⟩
   ·refine G6 vC rfl (Z5 (Zg (.slice none 0 0) rfl rfl (Zg (Iz (0)) rfl rfl (Zg (Iz (7)) rfl rfl (Z3 (Ga (Tl (Gp ?_))))))))
    obtain rfl:=sinj h;exact Ya rfl rfl (rq (.slice none 0 0)) (rq (Iz (0))) (rq (Iz (7))) ⟨_,hfr,_,_,_,rfl,T0,rfl,rfl⟩
   ·refine G7 vC rfl (Z5 (Zn up2 rfl rfl (Zx (Iz ((x2).length : Int)) (Gz underlying25 rfl rp2) rfl (Z9 (.bool ((decide (((x2).length : Int) > (60 : Int))))) rfl rfl rfl rfl (Zg (.bool ((decide (((x2).length : Int) > (60 : Int))))) rfl rfl (Z3 ?_))))))
    rcases Zt h with ⟨bD,h⟩ | ⟨bD,h⟩
    ·refine G6 bD rfl (Z5 (Zg (.slice none 0 0) rfl rfl (Zg (Iz (0)) rfl rfl (Zg (Iz (5)) rfl rfl (Z3 (Ga (Tl (Gp ?_))))))))
     obtain rfl:=sinj h;exact Ya rfl rfl (rq (.slice none 0 0)) (rq (Iz (0))) (rq (Iz (5))) ⟨_,hfr,_,_,_,rfl,T0,rfl,rfl⟩
    ·refine G7 bD rfl (Z5 (Zn up2 rfl rfl ?_))
     obtain ⟨oD,sG,h⟩:=Z1 h;refine Z4 rfl (Zp (g:=nH) (vs:=[Iz (0),Iz (2),up2]) en93 (.cons rfl (.cons rfl (.cons rfl .nil))) (wk93 rp2 sG) fun oH nI pJ hs hr=>?_);have hfr:=hfr.ext hs;have rp2:=rp2.ext hs;have b6:=b6.ext hs;subst hr;refine Zx (.bool (!oD)) (Qm rfl) rfl (Zg (.bool (!oD)) rfl rfl (Z3 ?_));rcases Zt h with ⟨cD,h⟩ | ⟨cD,h⟩
     ·refine G6 cD rfl (Z5 (Zg (.slice none 0 0) rfl rfl (Zg (Iz (0)) rfl rfl (Zg (Iz (2)) rfl rfl (Z3 (Ga (Tl (Gp ?_))))))))
      obtain rfl:=sinj h;exact Ya rfl rfl (rq (.slice none 0 0)) (rq (Iz (0))) (rq (Iz (2))) ⟨_,hfr,_,_,_,rfl,T0,rfl,rfl⟩
     ·refine G7 cD rfl ?_
      exact Zu (Tj (Zd (lG () _ _ ⟨oH,hfr,rfl,rfl,rp2,rfl,T0,rfl,b6⟩ h)))
 ·rintro _ pI qJ ⟨pH, hfr, xE, yE, yD, zE, cF, dF, eF⟩ h
  refine Z5 (Zo xE rfl (Zg (Iz (x1)) rfl rfl (Z3 ?_)));obtain ⟨⟨n9,v8⟩,hx,h⟩:=Z1 h;refine Gl (fun e w=>∃ (g:Gh) (v6:Value),Fr gI wI g w∧e 6=v6∧RV g.m w (n9:List Int) v6∧OS 1006 g w 3 (n9:List Int) v6∧e 7=Iz (v8)) (fun Q' hQ=>?_) (fun qI rJ hR=>?_)
  ·replace h := hx
   clear hx;refine Z5 (Zo yE rfl (Zx (Iz ((x2).length:Int)) (Gz underlying25 rfl yD) rfl (Zn (Iz (0)) rfl rfl (Z3 (Zr (Q0 h (fun (s:(List Int) × Int × Int) e w=>∃ (g:Gh) (v6:Value),Fr gI wI g w∧e 6=v6∧RV g.m w (s.1:List Int) v6∧OS 1006 g w 3 (s.1:List Int) v6∧e 7=Iz (s.2.1)∧e 9=p5∧OB 2009 g w 192 (y4.1:Gv) p5∧e 39=up2∧RV g.m w (x2:List Int) up2∧e 40=Iz (((x2).length:Int))∧e 41=Iz (s.2.2)) ⟨pH,(.slice none 0 0),hfr,zE,cF,OS.nil,rfl,dF,eF,rfl,yD,rfl,rfl⟩ (fun X59 gG xG=>?_)))))));rintro ⟨lB,i6,l5⟩ sI sJ ⟨zD,rF,hfr,aE,g8,l8,mB,nB,t5,vB,o0,yB,aB⟩ h;refine Z5 (Z9 (.bool ((decide (l5 < ((x2).length:Int))))) aB yB rfl rfl (Z3 (Zf ?_)));rcases Zt h with ⟨lD,h⟩ | ⟨lD,h⟩
   ·refine G6 lD rfl (Zu (Zd ?_))
    obtain ⟨⟨n8,l9⟩,hx,h⟩:=Z1 h;refine Gl (fun e w=>∃ (g:Gh) (v6:Value),Fr gI wI g w∧e 6=v6∧RV g.m w (n8:List Int) v6∧OS 1006 g w 3 (n8:List Int) v6∧e 7=Iz (l9)∧e 9=p5∧OB 2009 g w 192 (y4.1:Gv) p5∧e 39=up2∧RV g.m w (x2:List Int) up2∧e 40=Iz (((x2).length:Int))∧e 41=Iz (l5)) (fun Q' hQ=>?_) (fun jJ vJ hR=>?_)
    ·replace h := hx
     clear hx;refine Zr (Z5 ?_);obtain ⟨oB,lE,h⟩:=Z1 h;refine Zx (Tb up2 l5 1) (Zh (α:=Int) underlying25 sizeOf3 vB o0 aB lE) rfl ?_;have qH:=Gx o0 lE;refine Z4 rfl (Z6 (g:=zD) isAgg3 sizeOf3 rfl qH fun xJ sH=>?_);obtain rfl:=Zj.1 sH;refine Zg (Iz (oB)) rfl rfl (Z3 (Z5 (Zo aE rfl (Z4 rfl (Tp (g:=zD) isAgg192 sizeOf192 nB t5 fun tH uH=>(Zo mB rfl ?_))))));obtain ⟨y80,yG,h⟩:=Z1 h;refine Z4 rfl (Zp (g:=zD) (vs:=[tH,Iz (i6)]) en94 (.cons rfl (.cons rfl .nil)) (wk94 uH yG) fun xH kJ zJ hs hr=>?_);have hfr:=hfr.ext hs;have g8:=g8.ext hs;have l8:=l8.ext hs;have t5:=t5.ext hs;have o0:=o0.ext hs;subst hr;refine Z4 rfl (Z7 (g:=xH) 3049 (xs:=([y80]:List Int)) (vs:=[Iz (y80)]) underlying25 sizeOf3 zeroValue3 rfl rfl (.cons rfl .nil) (RVs.cons (Zj.2 rfl) RVs.nil) rfl rfl fun yH aK bK hs o81 zH hxt hfl=>?_);have hfr:=hfr.stp hs;have g8:=g8.stp hs;have l8:=l8.stp hs rfl;have t5:=t5.stp hs rfl;have o0:=o0.stp hs;obtain ⟨iG,zG,h⟩:=Z1 h;refine Z4 rfl (T5 (g:=yH) (i:=1006) underlying25 Kr rfl rfl l8 g8 rfl zH zG fun jG cK kG hs o82 mE _=>?_);have hfr:=hfr.stp hs;have t5:=t5.stp hs rfl;have o0:=o0.stp hs;refine Zg kG rfl rfl (Z3 (Za (Z4 rfl (Tp (g:=jG) isAgg192 sizeOf192 nB t5 fun aI bI=>(Zo mB rfl (Zn (Iz (oB)) rfl rfl ?_))))));obtain ⟨iE,aH,h⟩:=Z1 h;refine Z4 rfl (Zp (g:=jG) (vs:=[aI,Iz (i6),Iz (oB)]) en95 (.cons rfl (.cons rfl (.cons rfl .nil))) (wk95 bI aH) fun dI lJ dK hs hr=>?_);have hfr:=hfr.ext hs;have mE:=mE.ext hs;have o82:=o82.ext hs;have t5:=t5.ext hs;have o0:=o0.ext hs;subst hr;refine Zg (Iz (iE)) rfl rfl (Zb (Tj ?_));obtain ⟨rfl,rfl⟩:=Hd h;exact hQ _ _ ⟨dI,(kG),hfr,rfl,mE,o82,rfl,nB,t5,vB,o0,yB,aB⟩
    ·clear hx
     obtain ⟨iI,sF,hfr,tF,uF,vF,xF,yF,aG,oE,rE,uE,vE⟩:=hR;refine Za (Z9 (Iz ((w64 (l5 + (1:Int))))) vE rfl rfl rfl (Zn (Iz ((w64 (l5 + (1:Int))))) rfl rfl ?_));exact Z3 (xG (n8,l9,(w64 (l5 + (1:Int)))) _ _ ⟨iI,(sF),hfr,tF,uF,vF,xF,yF,aG,oE,rE,uE,rfl⟩ h)
   ·refine G7 lD rfl (Tn (Gu (Gu (G8 ?_))))
    obtain ⟨rfl,rfl⟩:=Hd h;exact hQ _ _ ⟨zD,(rF),hfr,aE,g8,l8,mB⟩
  ·clear hx
   obtain ⟨lK,bE,hfr,bG,cG,jI,eG⟩:=hR;refine Z5 (Zo bG rfl (Zo eG rfl (Zg bE rfl rfl (Zg (Iz (v8)) rfl rfl (Zg (Iz (0)) rfl rfl (Z3 (Ga ?_)))))));obtain rfl:=sinj h;exact Ya rfl rfl (rq bE) (rq (Iz (v8))) (rq (Iz (0))) ⟨_,hfr,_,_,_,rfl,cG,rfl,rfl⟩
theorem idx_lt {α:Type} {xs:List α} {i:Int} {a:α} (h:idx xs i=some a):i.toNat < xs.length:=(List.getElem?_eq_some_iff.1 (Wl h).2).1
theorem Po {α:Type} {xs:List α} {i:Int} {a:α} (h:idx xs i=some a):xs.set i.toNat a=xs:=by
 have h1:=(List.getElem?_eq_some_iff.1 (Wl h).2);obtain ⟨hl,rfl⟩:=h1;exact List.set_getElem_self hl
theorem N7 {α:Type} {xs:List α} {i:Int} {a b:α} (h:idx xs i=some a):idx (xs.set i.toNat b) i=some b:=by
 have h0:=(Wl h).1;have hl:=idx_lt h;unfold idx at h ⊢;simp [h0,hl]
theorem Fd {P:Program} {e:Env} {x:Operand} {p:Value} (hx:ev e x=p) (hp:∃ b o,p=.pointer (some ⟨b,o,none⟩)):Pur P (.nilCheck x) e p:=by
 obtain ⟨b,o,rfl⟩:=hp; exact Tx hx
theorem lay_90w:Qi prog 90=some ([Iz 0,Iz 0],[(0,1),(1,1)]):=by kernel_rfl
theorem lay_29w:Qi prog 29=some ([Iz 0,.slice none 0 0],[(0,1),(1,1)]):=by kernel_rfl
def f24 (cy:T4) (m:Tq) (c:Z2):Option ((List Str) × Int × T4):=
 (idx m.Chains c.Chain).bind fun ch=>(idx m.Ties c.Tie).bind fun ti=>
 bif ch.Chain.Hooks != ti.Harness.Hooks then some ([],4,cy) else
 Option.bind (some (bif cy.chain != w64 (c.Chain + (1:Int)) then ⟨w64 (c.Chain + (1:Int)),0⟩ else cy)) fun c1=>
 (f58 [1] c.Picks).bind fun pk=>(f57 ch.Chain c1.card pk).bind fun wv=>
 bif wv.2.2 != (0:Int) then some ([],wv.2.2,c1) else
 (f59 ti.Harness ⟨ch.Chain.Hooks,wv.1⟩).bind fun t=>some (t.1,t.2,{ c1 with card:=wv.2.1 })
theorem en24:Enters prog 24:=enters_of func24 (by kernel_rfl) rfl
theorem wk24 {iI : Nat} {gI : Gh} {wI : World} {xs : List T4} {pv : Value} {i : Int} {cy : T4} {m : Tq} {c : Z2} {um uc : Value} (mp0 : OM iI gI wI 90 xs pv) (hi : idx xs i = some cy) (rm : RV gI.m wI m um) (rc : RV gI.m wI c uc) {r : (List Str) × Int × T4} (hf : f24 cy m c = some r) :
  FnM prog 24 #[Tb pv i 2,um,uc] iI gI wI (fun g w v=>∃ y0 y1,v=.tuple #[y0,y1]∧RV g.m w r.1 y0∧y1=Iz r.2.1∧OM iI g w 90 (xs.set i.toNat r.2.2) pv):=by
 unfold f24 at hf
 obtain ⟨ch,hch,hf⟩:=Z1 hf
 obtain ⟨ti,hti,hf⟩:=Z1 hf
 refine J0 func24 rfl (Nat.le_of_ble_eq_true rfl) fun g0 hm hfr=>?_
 have mpI:=mp0
 replace mp0:=mp0.enter
 rw [← hm] at mp0
 replace hm:g0.m=gI.m:=by rw [hm]
 replace rm:RV g0.m wI m um:=hm ▸ rm
 replace rc:RV g0.m wI c uc:=hm ▸ rc
 show E _ 75 none _ _ _ _ _
 refine Z5 (Z4 rfl (Tv (g:=g0) rfl rm fun g1 w1 pm hx1 qm=>(Z4 rfl (Tv (g:=g1) rfl (rc.ext hx1) fun g2 w2 pc hx2 qc=>?_))))
 have hfr:=(hfr.ext hx1).ext hx2
 have mp:=(mp0.ext hx1).ext hx2
 have qm:=qm.ext hx2
 refine Zg (.slice none 0 0) rfl rfl (Zg (Iz 0) rfl rfl (Z3 (Zf ?_)))
 clear mp0 hx1 hx2
 -- region 1: the chain and the tie
 have qch:=Zm W4.1 qm
 refine Zs (x:=.tmp 13) isAgg53 sizeOf53 qch fun vch rch hch1=>?_
 have qti:=Zm W3.1 qm
 refine Zs (x:=.tmp 20) isAgg52 sizeOf52 qti fun vti rti hti1=>(Zs (x:=.tmp 15) isAgg3 sizeOf3 (Zm Wt.1 qc) fun v0 r0 hc3=>?_)
 obtain rfl:=Zj.1 r0
 refine Zs (x:=.tmp 22) isAgg3 sizeOf3 (Zm K4.1 qc) fun v0 r0 hc4=>?_
 obtain rfl:=Zj.1 r0
 have qe:=Gx rch hch
 refine Zs (x:=.tmp 18) isAgg94 sizeOf94 (Zm H6.1 qe) fun vb rb hb1=>?_
 have qt:=Gx rti hti
 refine Zs (x:=.tmp 25) isAgg27 sizeOf27 (Zm Jy.1 qt) fun vh rh hh1=>(Xy (g:=g2) (n:=16) [7,8,9,10,11,12,13] [(14,fun v g w=>OB 8 g w 94 (⟨0,[]⟩:ChainBelt) v),(15,fun v g w=>OB 9 g w 27 (⟨0,[]⟩:TieHarness) v)] [0,1,2,3,4,5,6,7,8,9,10,11,12,13,14,15] rfl Jm (by kernel_rfl) ⟨fun _=>(fun _ _ _ _ hx h=>OB.ext h hx),fun _=>(fun _ _ _ _ hx h=>OB.ext h hx),trivial⟩ rfl (Z0 (Z8 pm 1) rfl rfl (Zc Vm rfl (PT.ptr qm)) (Tm (c:=vch) rfl rfl .plain (fun _ _ h=>h.ch) hch1 rfl (Z0 (Z8 pc 2) rfl rfl (Zc Vx rfl (PT.ptr qc)) (Tm (c:=Iz c.Chain) rfl rfl .plain (fun _ _ h=>h.ch) hc3 rfl (Z0 (Tb vch c.Chain 3) rfl rfl (Zh (α:=Gj) underlying53 sizeOf101 rfl rch rfl hch) (Z0 (Z8 (Tb vch c.Chain 3) 1) rfl rfl (Zc Vc rfl (PT.ptr qe)) (Tm (c:=vb) rfl rfl .plain (fun _ _ h=>h.ch) hb1 rfl (Jo (c:=Z8 pm 0) rfl rfl .plain (Zc Vn rfl (PT.ptr qm)) (Ip (c:=vti) rfl rfl .plain (fun _ _ h=>h.ch) rfl hti1 rfl (Jo (c:=Z8 pc 3) rfl rfl .plain (Zc B0 rfl (PT.ptr qc)) (Ip (c:=Iz c.Tie) rfl rfl .plain (fun _ _ h=>h.ch) rfl hc4 rfl (Jo (c:=Tb vti c.Tie 3) rfl rfl .plain (Zh (α:=Gw) underlying52 sizeOf99 rfl rti rfl hti) (Jo (c:=Z8 (Tb vti c.Tie 3) 1) rfl rfl .plain (Zc B8 rfl (PT.ptr qt)) (Ip (c:=vh) rfl rfl .plain (fun _ _ h=>h.ch) rfl hh1 rfl (W7 (φ:=fun v g w=>OB 8 g w 94 (⟨0,[]⟩:ChainBelt) v) rfl rfl .plain (fun g w hd=>Dg (g:=g) 8 (⟨0,[]⟩:ChainBelt) zeroValue94 (fun m w=>⟨_,Gb Zw G9,rfl⟩) fun g' w' p hs hr=>⟨g',hs,hr⟩) (fun p8 hv=>?_)))))))))))))))))
 clear hv
 refine W7 (φ:=fun v g w=>OB 9 g w 27 (⟨0,[]⟩:TieHarness) v) rfl rfl .plain (fun g w hd=>Dg (g:=g) 9 (⟨0,[]⟩:TieHarness) zeroValue27 (fun m w=>⟨_,Gb Zw G9,rfl⟩) fun g' w' p hs hr=>⟨g',hs,hr⟩) (fun p9 hv=>?_)
 clear hv
 refine J6 fun g3 w3 hall=>?_
 have hs:=hall.1
 have b8:=T1 (A:=fun g w=>OB 8 g w 94 (⟨0,[]⟩:ChainBelt) p8) 14 rfl hall
 have b9:=T1 (A:=fun g w=>OB 9 g w 27 (⟨0,[]⟩:TieHarness) p9) 15 rfl hall
 have hlt:Lt g2.m w2 g3 w3:=hs.ch
 clear hall
 refine R6 hlt.w .plain rfl (Y0 (g:=g3) (v:=vb) sizeOf94 rfl b8 rfl (rb.ext hs) fun g4 w4 hs4 b8=>?_)
 have hlt:=hlt.stp hs4
 refine R6 hlt.w .plain rfl (Y0 (g:=g4) (v:=vh) sizeOf27 rfl (b9.stp hs4 rfl) rfl ((rh.ext hs).stp hs4) fun g5 w5 hs5 b9=>?_)
 have hlt:=hlt.stp hs5
 refine Fx hlt.w (Zd ?_)
 obtain ⟨g6,hs6,q8⟩:=(b8.stp hs5 rfl).pub
 obtain ⟨g7,hs7,q9⟩:=(b9.stp hs6 rfl).pub
 have q8:=q8.stp hs7
 have hfr:=((((hfr.ext hs).stp hs4).stp hs5).stp hs6).stp hs7
 have mp:=((((mp.ext hs).stp hs4 rfl).stp hs5 rfl).stp hs6 rfl).stp hs7 rfl
 have qc:=((((qc.ext hs).stp hs4).stp hs5).stp hs6).stp hs7
 clear hlt hs hs4 hs5 hs6 hs7 b8 b9 rb rh hch1 hti1 hc3 hc4 hb1 hh1 qch qti qe qt rch rti
 -- region 2: the hooks
 refine Zf (Z5 (Zx (Z8 p8 0) (Zc Xt rfl (PT.ptr q8)) rfl (Z4 rfl (Z6 (g:=g7) isAgg3 sizeOf3 rfl (Zm Kf.1 q8) fun v r=>?_))))
 obtain rfl:=Zj.1 r
 refine Zx (Z8 p9 0) (Zc Vk rfl (PT.ptr q9)) rfl (Z4 rfl (Z6 (g:=g7) isAgg3 sizeOf3 rfl (Zm Wf.1 q9) fun v r=>?_))
 obtain rfl:=Zj.1 r
 refine Z9 (.bool (ch.Chain.Hooks != ti.Harness.Hooks)) rfl rfl rfl rfl (Z3 ?_)
 rcases Zt hf with ⟨hc,hf⟩ | ⟨hc,hf⟩
 ·refine G6 hc rfl (Z5 (Zg (.slice none 0 0) rfl rfl (Zg (Iz 4) rfl rfl (Z3 (Ga ?_)))))
  obtain rfl:=sinj hf
  exact Jq rfl rfl rfl rfl ⟨_,hfr,_,_,rfl,T0,rfl,by rw [Po hi]; exact mpI.back mp⟩
 refine G7 hc rfl (Zu (Zd ?_))
 obtain ⟨c1,hc1,hf⟩:=Z1 hf
 obtain ⟨pk,hpk,hf⟩:=Z1 hf
 obtain ⟨wv,hwv,hf⟩:=Z1 hf
 -- region 4: another chain on the loom
 refine Kw (fun e ds w'=>ds=[]∧e 0=Tb pv i 2∧e 5=pc∧e 8=p8∧e 9=p9∧∃ g',FrM iI gI wI g' w'∧Ch g7.m w5 g'.m w'∧OM 1 g' w' 90 (xs.set i.toNat c1) pv) (fun Q' hQ=>?_) (fun e ds w' hR=>?_)
 ·have hpp := mp.ptrE (k := 2) hi
  refine Zf (Lh (x:=.tmp 34) Vy.1 isAgg3 sizeOf3 mp hi fun v r hl1=>?_)
  obtain rfl:=Zj.1 r
  refine Zs (x:=.tmp 36) isAgg3 sizeOf3 (Zm Wt.1 qc) fun v r hl2=>?_
  obtain rfl:=Zj.1 r
  refine To (g:=g7) (n:=8) [] [0,1,2,3,4,5,6,7] rfl Jm (by kernel_rfl) trivial (Z0 (Tb pv i 2) rfl rfl (Zk rfl) (Z0 (Tb pv i 2) rfl rfl (Fd rfl hpp) (Z0 (Z8 (Tb pv i 2) 0) rfl rfl (Zc Ev rfl hpp) (Tm (c:=Iz cy.chain) rfl rfl .plain (fun _ _ h=>⟨h.ch,fun b hb _=>h.below.block b hb⟩) hl1 rfl (Z0 (Z8 pc 2) rfl rfl (Zc Vx rfl (PT.ptr qc)) (Tm (c:=Iz c.Chain) rfl rfl .plain (fun _ _ h=>h.ch) hl2 rfl (Z0 (Iz (w64 (c.Chain + (1:Int)))) rfl rfl (Gk rfl rfl rfl) (Z0 (.bool (cy.chain != w64 (c.Chain + (1:Int)))) rfl rfl (Gk rfl rfl rfl) (J6 fun g8 w8 hall=>?_)))))))))
  have hs:=hall.1
  refine Z3 ?_
  rcases Bool.eq_false_or_eq_true (cy.chain != w64 (c.Chain + (1:Int))) with hq | hq
  ·rw [hq] at hc1
   obtain rfl:=sinj hc1
   refine G6 hq rfl (Za (Zn (Tb pv i 2) rfl rfl (Zx (Z8 pc 2) (Zc Vx rfl (PT.ptr qc)) rfl (Z4 rfl (Z6 (g:=g8) isAgg3 sizeOf3 rfl (Zm Wt.1 (qc.ext hs)) fun v r=>?_)))))
   obtain rfl:=Zj.1 r
   refine Z9 (Iz (w64 (c.Chain + (1:Int)))) rfl rfl rfl rfl (Zx (.agg #[Iz (w64 (c.Chain + (1:Int))),Iz 0]) (show Pur _ _ _ (.agg #[Iz (w64 (c.Chain + (1:Int))),Iz 0]) from Tu (vs:=[(0,Iz (w64 (c.Chain + (1:Int))))]) [[Iz 0],[Iz 0]] lay_90w rfl rfl (.cons rfl .nil) ⟨⟨_,rfl,rfl⟩,trivial⟩) rfl (Zx (Tb pv i 2) (Fd rfl hpp) rfl (Z4 rfl (Ys (g:=g8) (α:=T4) (a':=⟨w64 (c.Chain + (1:Int)),0⟩) (u:=.agg #[Iz (w64 (c.Chain + (1:Int))),Iz 0]) sizeOf90 rfl (mp.ext hs) hi rfl ⟨_,Gb Zw Zw,rfl⟩ fun g9 w9 hs9 mp9=>?_))))
   exact Zb (hQ _ _ _ ⟨rfl,rfl,rfl,rfl,rfl,g9,(hfr.ext hs).stp hs9,hs.ch.trans hs9.ch,mp9⟩)
  ·rw [hq] at hc1
   obtain rfl:=sinj hc1
   exact G7 hq rfl (Zu (hQ _ _ _ ⟨rfl,rfl,rfl,rfl,rfl,g8,hfr.ext hs,hs.ch,by show OM 1 g8 w8 90 (xs.set i.toNat cy) pv; rw [Po hi]; exact mp.ext hs⟩))
 obtain ⟨rfl,e0,e5,e8,e9,g,hfrN,hch7,mpN⟩:=hR
 replace hfr:=hfrN
 replace mp:=mpN
 have q8:=q8.ch hch7
 have q9:=q9.ch hch7
 have qc:=qc.ch hch7
 have hi1:=N7 (b:=c1) hi
 have hpp:=mp.ptrE (k:=2) hi1
 clear hfrN mpN hch7 hc1
 -- region 6: the picks of the chain
 refine Zf (Zs (x:=.tmp 8) isAgg94 sizeOf94 q8 fun vb rb hb1=>(Lh (x:=.tmp 50) Jp.1 isAgg3 sizeOf3 mp hi1 fun v r hl1=>?_))
 obtain rfl:=Zj.1 r
 refine Zs (x:=.tmp 53) isAgg3 sizeOf3 (Zm Wv.1 qc) fun v r hl2=>?_
 obtain rfl:=Zj.1 r
 refine Xy (g:=g) (n:=14) [12,13] [(5,fun v g w=>RV g.m w ([1]:List Int) v),(8,fun v g w=>RV g.m w pk v),(9,fun v g w=>∃ y0 y1 y2,v=.tuple #[y0,y1,y2]∧RV g.m w wv.1 y0∧y1=Iz wv.2.1∧y2=Iz wv.2.2)] [0,1,2,3,4,5,6,7,8,9,10,11,12,13] rfl Jm (by kernel_rfl) ⟨fun _=>Jf,fun _=>Jf,fun _=>(fun _ _ _ _ hx h=>let ⟨y0,y1,y2,h1,h2,h3⟩:=h; ⟨y0,y1,y2,h1,RV.ext h2 hx,h3⟩),trivial⟩ rfl (Tm (c:=vb) rfl rfl .plain (fun _ _ h=>h.ch) hb1 e8 (Z0 (Tb pv i 2) rfl rfl (Zk e0) (Z0 (Tb pv i 2) rfl rfl (Fd rfl hpp) (Z0 (Z8 (Tb pv i 2) 1) rfl rfl (Zc A2 rfl hpp) (Tm (c:=Iz c1.card) rfl rfl .plain (fun _ _ h=>⟨h.ch,fun b hb _=>h.below.block b hb⟩) hl1 rfl (W7 (φ:=fun v g w=>RV g.m w ([1]:List Int) v) rfl rfl .plain (fun g w hd=>Z7 (g:=g) 5 (xs:=([1]:List Int)) (vs:=[Iz 1]) underlying25 sizeOf3 zeroValue3 rfl rfl (.cons rfl .nil) (RVs.cons (Zj.2 rfl) RVs.nil) rfl rfl fun g' w' v _ _ r hx _=>⟨g',hx,r⟩) (fun v5 hv=>?_)))))))
 clear hv
 refine Z0 (Z8 pc 4) rfl rfl (Zc Vu e5 (PT.ptr qc)) (Tm (c:=Iz c.Picks) rfl rfl .plain (fun _ _ h=>h.ch) hl2 rfl (W7 (φ:=fun v g w=>RV g.m w pk v) rfl rfl .plain (fun g w hd=>Zp (g:=g) (vs:=[v5,Iz c.Picks]) en58 (.cons rfl (.cons rfl .nil)) (wk58 (D4 (A:=fun g w=>RV g.m w ([1]:List Int) v5) 5 rfl rfl (K7 hd)) hpk) fun g' w' v hs hr=>⟨g',hs,hr⟩) (fun v8 hv=>?_)))
 clear hv
 refine W7 (φ:=fun v g w=>∃ y0 y1 y2,v=.tuple #[y0,y1,y2]∧RV g.m w wv.1 y0∧y1=Iz wv.2.1∧y2=Iz wv.2.2) rfl rfl .plain (fun g w hd=>Zp (g:=g) (vs:=[vb,Iz c1.card,v8]) en57 (.cons rfl (.cons rfl (.cons rfl .nil))) (wk57 (rb.ext hd.1) (D4 (A:=fun g w=>RV g.m w pk v8) 8 rfl rfl (K7 hd)) hwv) fun g' w' v hs hr=>⟨g',hs,hr⟩) (fun v9 hv=>?_)
 obtain ⟨_,_,_,y0,y1,y2,rfl,_,rfl,rfl⟩:=hv
 refine Z0 (.tuple #[y0,Iz wv.2.1,Iz wv.2.2]) rfl rfl (Zk rfl) (Z0 y0 rfl rfl (Zi rfl rfl) (Jo (c:=Iz wv.2.1) rfl rfl .plain (Zi rfl rfl) (Jo (c:=Iz wv.2.2) rfl rfl .plain (Zi rfl rfl) (J6 fun g10 w10 hall=>?_))))
 have hs:=hall.1
 have ry:RV g10.m w10 wv.1 y0:=by
  obtain ⟨a0,a1,a2,ha,hb,_⟩:=T1 (A:=fun g w=>∃ a0 a1 a2,(Value.tuple #[y0,Iz wv.2.1,Iz wv.2.2])=.tuple #[a0,a1,a2]∧RV g.m w wv.1 a0∧a1=Iz wv.2.1∧a2=Iz wv.2.2) 9 rfl hall
  injection ha with ha
  have h1:[y0,Iz wv.2.1,Iz wv.2.2]=[a0,a1,a2]:=congrArg Array.toList ha
  injection h1 with h0 _
  exact h0 ▸ hb
 have hlt:Lt g.m w' g10 w10:=hs.ch
 clear hall
 refine Su hlt.w (v:=y0) (Te rfl) .plain rfl (Su hlt.w (v:=Iz wv.2.1) (Te rfl) .plain rfl (Su hlt.w (v:=Iz wv.2.2) (Te rfl) .plain rfl (Fx hlt.w (Zd ?_))))
 replace hfr:=hfr.ext hs
 replace mp:=mp.ext hs
 replace q8:=q8.ext hs
 replace q9:=q9.ext hs
 clear hlt hs rb hb1 hl1 hl2 qc
 refine Zf (Z5 (Zn (Iz wv.2.2) rfl rfl (Z9 (.bool (wv.2.2 != (0:Int))) rfl rfl rfl rfl (Z3 ?_))))
 rcases Zt hf with ⟨hc2,hf⟩ | ⟨hc2,hf⟩
 ·refine G6 hc2 rfl (Z5 (Zn (Iz wv.2.2) rfl rfl (Zg (.slice none 0 0) rfl rfl (Zg (Iz wv.2.2) rfl rfl (Z3 (Ga ?_))))))
  obtain rfl:=sinj hf
  exact Jq rfl rfl rfl rfl ⟨_,hfr,_,_,rfl,T0,rfl,mpI.back mp⟩
 refine G7 hc2 rfl (Zu (Zd ?_))
 obtain ⟨tv,htv,hf⟩:=Z1 hf
 obtain rfl:=sinj hf
 refine Z5 (Zo e0 rfl (Zn (Iz wv.2.1) rfl rfl (Zx (Tb pv i 2) (Fd rfl hpp) rfl (Zx (Z8 (Tb pv i 2) 1) (Zc A2 rfl hpp) rfl (Z4 rfl (Nn (g:=g10) (y0:=wv.2.1) Jp sizeOf3 rfl mp hi1 rfl (Zj.2 rfl) fun g11 w11 hs11 mp11=>?_))))))
 rw [List.set_set] at mp11
 refine Z3 (Z5 ?_)
 replace hfr:=hfr.stp hs11
 replace q8:=q8.stp hs11
 replace q9:=q9.stp hs11
 replace ry:=ry.stp hs11
 refine Z4 rfl (Z6 (g:=g11) isAgg27 sizeOf27 e9 q9 fun vh rh=>(Zx (Z8 p8 0) (Zc Xt e8 (PT.ptr q8)) rfl (Z4 rfl (Z6 (g:=g11) isAgg3 sizeOf3 rfl (Zm Kf.1 q8) fun v r=>?_))))
 obtain rfl:=Zj.1 r
 refine Zn y0 rfl rfl ?_
 have rd:RV g11.m w11 (⟨ch.Chain.Hooks,wv.1⟩:Design) (.agg (Td [[Iz 0],[.slice none 0 0]] [(0,Iz ch.Chain.Hooks),(1,y0)]).flatten.toArray):=Tc rfl (Gm (rfl) (Tf (RV.cells ry)))
 generalize hgd:(Value.agg (Td [[Iz 0],[.slice none 0 0]] [(0,Iz ch.Chain.Hooks),(1,y0)]).flatten.toArray)=vd at rd
 refine Zx vd (hgd ▸ Tu (vs:=[(0,Iz ch.Chain.Hooks),(1,y0)]) [[Iz 0],[.slice none 0 0]] lay_29w rfl rfl (.cons rfl (.cons rfl .nil)) ⟨⟨_,rfl,rfl⟩,⟨⟨_,rfl,Ti ry⟩,trivial⟩⟩) rfl (Z4 rfl (Zp (g:=g11) (vs:=[vh,vd]) en59 (.cons rfl (.cons rfl .nil)) (wk59 rh rd htv) fun g12 w12 v12 hx12 hv=>?_))
 obtain ⟨z0,z1,rfl,rz,rfl⟩:=hv
 refine Zx z0 (Zi rfl rfl) rfl (Zx (Iz tv.2) (Zi rfl rfl) rfl (Zg z0 rfl rfl (Zg (Iz tv.2) rfl rfl (Z3 (Ga ?_)))))
 exact Jq rfl rfl rfl rfl ⟨_,hfr.ext hx12,_,_,rfl,rz,rfl,mpI.back (mp11.ext hx12)⟩

def f48 (x0:Gj):Option (Bool):=
 (f49 ((x0).Chain)).bind fun y5=>
 some ((y5 != (0:Int)))
theorem en48:Enters prog 48:=enters_of func48 (by kernel_rfl) rfl
theorem wk48 {gI:Gh} {wI:World} {x0:Gj} {up0:Value} (rp0:RV gI.m wI x0 up0) {r:Bool} (h:f48 x0=some r):Fn prog 48 #[up0] gI wI (fun _ _ v=>v=.bool (r)):=by
 unfold f48 at h;refine fnE func48 rfl rfl fun g0 hm hfr=>?_;have rp0:=RVc hm rp0;show E _ 7 none _ _ _ _ _;refine Z5 (Z4 rfl (Tv (g:=g0) rfl rp0 fun g1 w1 p1 hs q1=>?_));have hfr:=hfr.ext hs;refine Zg (.bool false) rfl rfl (Z3 (Z5 (Zx (Z8 p1 1) (Zc Vc rfl (PT.ptr q1)) rfl ?_)));have q2:=Zm (H6).1 q1;refine Z4 rfl (Z6 (g:=g1) isAgg94 sizeOf94 rfl q2 fun v3 r3=>?_);obtain ⟨y5,hy5,h⟩:=Z1 h;refine Z4 rfl (Zp (g:=g1) (vs:=[v3]) en49 (.cons rfl .nil) (wk49 r3 hy5) fun g4 w4_ v4 hs hr=>?_);have hfr:=hfr.ext hs;subst hr;refine Z9 (.bool ((y5 != (0:Int)))) rfl rfl rfl rfl (Zg (.bool ((y5 != (0:Int)))) rfl rfl (Z3 (Ga ?_)));obtain rfl:=sinj h;exact Tg rfl rfl (rq (.bool ((y5 != (0:Int))))) ⟨_,hfr,rfl⟩
def f23 (x0:Tq):Option (Int):=
 jn (σ:=Unit) (fun _=>
  (f50 ((x0).Ties) ((fun a0=>f51 a0))).bind fun nD=>
  (f52 ((x0).Chains) ((fun a0=>f53 a0))).bind fun oD=>
  jn (σ:=Unit) (fun _=>
   some ((0:Int))
   ) fun yD=>
  Option.bind (α:=Bool) (
   (f54 nD).bind fun n9=>
   bif (!n9) then
    some (true)
   else
    (f54 oD).bind fun l9=>
    bif (!l9) then
     some (true)
    else
     (f55 ((x0).Ties) ((fun a0=>f46 a0))).bind fun aB=>
     bif aB then
      some (true)
     else
      (f56 ((x0).Chains) ((fun a0=>f48 a0))).bind fun vB=>
      some (vB)
   ) fun l5=>
  bif l5 then
   some ((2:Int))
  else
   yD ()
  ) fun k14=>
 Option.bind (α:=Bool) (
  bif (decide ((((x0).Ties).length : Int) > (8 : Int))) then
   some (true)
  else
   some ((decide ((((x0).Chains).length:Int) > (8:Int))))
  ) fun n8=>
 bif n8 then
  some ((5:Int))
 else
  k14 ()
theorem en23:Enters prog 23:=enters_of func23 (by kernel_rfl) rfl
theorem wk23 {gI:Gh} {wI:World} {x0:Tq} {up0:Value} (rp0:RV gI.m wI x0 up0) {r:Int} (h:f23 x0=some r):Fn prog 23 #[up0] gI wI (fun _ _ v=>v=Iz (r)):=by
 unfold f23 at h;refine fnE func23 rfl rfl fun g0 hm hfr=>?_;have rp0:=RVc hm rp0;show E _ 43 none _ _ _ _ _;refine Z5 (Z4 rfl (Tv (g:=g0) rfl rp0 fun g1 w1 p1 hs q1=>?_));have hfr:=hfr.ext hs;refine Zg (Iz (0)) rfl rfl (Z3 (Zq h (fun (s:Unit) e w=>∃ (g:Gh) ,Fr gI wI g w∧e 1=p1∧PT g.m w (x0:Tq) p1) (fun X14 k14 iE h=>?_) ?_))
 ·obtain ⟨n8, hx, h⟩ := Z1 h
  refine Gl (fun e w=>∃ (g:Gh) ,Fr gI wI g w∧e 1=p1∧PT g.m w (x0:Tq) p1∧e 16=.bool (n8)) (fun Q' hQ=>?_) (fun sG nH hR=>?_)
  ·replace h := hx
   clear hx;refine Za (Zx (Z8 p1 0) (Zc Vn rfl (PT.ptr q1)) rfl ?_);have zE:=Zm (W3).1 q1;refine Z4 rfl (Z6 (g:=g1) isAgg52 sizeOf52 rfl zE fun oH cF=>(Zx (Iz (((x0).Ties).length:Int)) (Gz underlying52 rfl cF) rfl (Zx (.bool ((decide ((((x0).Ties).length:Int) > (8:Int))))) (Gk rfl rfl rfl) rfl (Zx (.bool ((decide ((((x0).Ties).length:Int) > (8:Int))))) (Zk rfl) rfl ?_))));rcases Zt h with ⟨t5,h⟩ | ⟨t5,h⟩
   ·refine Zz rfl rfl t5 rfl rfl ?_
    iterate 3 refine Zz rfl rfl t5 rfl rfl ?_
    refine Zx (.bool true) (Zl (b:=(decide ((((x0).Ties).length:Int) > (8:Int)))) rfl (G4 t5 rfl)) rfl (Zb ?_);obtain rfl:=sinj h;exact hQ _ _ ⟨g1,hfr,rfl,q1,rfl⟩
   ·refine Zy (Z8 p1 1) (Zc Vm rfl (PT.ptr q1)) rfl rfl t5 rfl ?_
    have dF:=Zm (W4).1 q1;refine Ze (.yes2 rfl rfl t5) rfl (Z6 (g:=g1) isAgg53 sizeOf53 rfl dF fun pH eF=>(Zy (Iz (((x0).Chains).length:Int)) (Gz underlying53 rfl eF) rfl rfl t5 rfl (Zy (.bool ((decide ((((x0).Chains).length:Int) > (8:Int))))) (Gk rfl rfl rfl) rfl rfl t5 rfl (Zx (.bool ((decide ((((x0).Chains).length:Int) > (8:Int))))) (Zl (b:=(decide ((((x0).Ties).length:Int) > (8:Int)))) rfl (G5 t5 rfl)) rfl (Zb ?_)))));obtain rfl:=sinj h;exact hQ _ _ ⟨g1,hfr,rfl,q1,rfl⟩
  ·clear hx
   obtain ⟨rF,hfr,cD,lD,nB⟩:=hR;rcases Zt h with ⟨oB,h⟩ | ⟨oB,h⟩
   ·refine Ta (Eq.trans (show ev _ _ = .bool (n8) from nB) (congrArg Value.bool oB)) (Z5 (Zg (Iz (5)) rfl rfl (Z3 (Ga (Gp ?_)))))
    obtain rfl:=sinj h;exact Tg rfl rfl (rq (Iz (5))) ⟨_,hfr,rfl⟩
   ·refine Gs (Eq.trans (show ev _ _ = .bool (n8) from nB) (congrArg Value.bool oB)) ?_
    exact Zu (Zd (iE () _ _ ⟨rF,hfr,cD,lD⟩ h))
 ·rintro _ xG qH ⟨zD, hfr, v8, o0⟩ h
  refine Z5 (Zg (.func (.func 46) #[] #[]) rfl rfl (Z3 (Z5 (Zg (.func (.func 48) #[] #[]) rfl rfl (Z3 (Z5 (Zx (Z8 p1 0) (Zc Vn v8 (PT.ptr o0)) rfl ?_)))))));have sF:=Zm (W3).1 o0;refine Z4 rfl (Z6 (g:=zD) isAgg52 sizeOf52 rfl sF fun tF uF=>?_);obtain ⟨nD,lE,h⟩:=Z1 h;refine Z4 rfl (Zp (g:=zD) (vs:=[tF,.func (.func 51) #[] #[]]) en50 (.cons rfl (.cons rfl .nil)) (wk50 uF ⟨51,#[],#[],rfl,en51,fun g' w' hch a0 b0 r hu0 hr=>by exact Fn.mono (wk51 hu0  hr) fun _ _ _ h=>Kv.2 h⟩ lE) fun aE yG yB hs hr=>?_);have hfr:=hfr.ext hs;have o0:=o0.ext hs;have zB:=hr;refine Zg yB rfl rfl (Z3 (Z5 (Zx (Z8 p1 1) (Zc Vm v8 (PT.ptr o0)) rfl ?_)));have vF:=Zm (W4).1 o0;refine Z4 rfl (Z6 (g:=aE) isAgg53 sizeOf53 rfl vF fun xF yF=>?_);obtain ⟨oD,mE,h⟩:=Z1 h;refine Z4 rfl (Zp (g:=aE) (vs:=[xF,.func (.func 53) #[] #[]]) en52 (.cons rfl (.cons rfl .nil)) (wk52 yF ⟨53,#[],#[],rfl,en53,fun g' w' hch a0 b0 r hu0 hr=>by exact Fn.mono (wk53 hu0  hr) fun _ _ _ h=>Kv.2 h⟩ mE) fun aG zG cC hs hr=>?_);have hfr:=hfr.ext hs;have o0:=o0.ext hs;have zB:=zB.ext hs;have uC:=hr;refine Zg cC rfl rfl (Z3 (Zq h (fun (s:Unit) e w=>∃ (g:Gh) ,Fr gI wI g w) (fun X69 yD oE h=>?_) ?_))
  ·obtain ⟨l5, hx, h⟩ := Z1 h
   refine Gl (fun e w=>∃ (g:Gh) ,Fr gI wI g w∧e 42=.bool (l5)) (fun Q' hQ=>?_) (fun lG aH hR=>?_)
   ·replace h := hx
    clear hx;refine Za (Zn yB rfl rfl ?_);obtain ⟨n9,rE,h⟩:=Z1 h;refine Z4 rfl (Zp (g:=aG) (vs:=[yB]) en54 (.cons rfl .nil) (wk54 zB rE) fun bE cH sH hs hr=>?_);have hfr:=hfr.ext hs;have o0:=o0.ext hs;have uC:=uC.ext hs;subst hr;refine Zx (.bool (!n9)) (Qm rfl) rfl (Zn (.bool (!n9)) rfl rfl ?_);rcases Zt h with ⟨i6,h⟩ | ⟨i6,h⟩
    ·refine Zz rfl rfl i6 rfl rfl (Zz rfl rfl i6 rfl rfl (Zz rfl rfl i6 rfl rfl (Zx (.bool true) (Zl (b := (!n9)) rfl (G4 i6 rfl)) rfl (Qv 12 rfl (Zb ?_)))))
     obtain rfl:=sinj h;exact hQ _ _ ⟨bE,hfr,rfl⟩
    ·refine Zy cC (Zk rfl) rfl rfl i6 rfl ?_
     obtain ⟨l9,uE,h⟩:=Z1 h;refine Ze (.yes2 rfl rfl i6) rfl (Zp (g:=bE) (vs:=[cC]) en54 (.cons rfl .nil) (wk54 uC uE) fun vC gH tH hs hr=>?_);have hfr:=hfr.ext hs;have o0:=o0.ext hs;subst hr;refine Zy (.bool (!l9)) (Qm rfl) rfl rfl i6 rfl (Zx (.bool (!l9)) (Zl (b:=(!n9)) rfl (G5 i6 rfl)) rfl (Zn (.bool (!l9)) rfl rfl ?_));rcases Zt h with ⟨g8,h⟩ | ⟨g8,h⟩
     ·refine Zz rfl rfl g8 rfl rfl ?_
      iterate 3 refine Zz rfl rfl g8 rfl rfl ?_
      refine Zx (.bool true) (Zl (b:=(!l9)) rfl (G4 g8 rfl)) rfl (Qv 6 rfl (Zb ?_));obtain rfl:=sinj h;exact hQ _ _ ⟨vC,hfr,rfl⟩
     ·refine Zy (Z8 p1 0) (Zc Vn v8 (PT.ptr o0)) rfl rfl g8 rfl ?_
      have bG:=Zm (W3).1 o0;refine Ze (.yes2 rfl rfl g8) rfl (Z6 (g:=vC) isAgg52 sizeOf52 rfl bG fun cG eG=>(Zy (.func (.func 46) #[] #[]) (Zk rfl) rfl rfl g8 rfl ?_));obtain ⟨aB,vE,h⟩:=Z1 h;refine Ze (.yes2 rfl rfl g8) rfl (Zp (g:=vC) (vs:=[cG,.func (.func 46) #[] #[]]) en55 (.cons rfl (.cons rfl .nil)) (wk55 eG ⟨46,#[],#[],rfl,en46,fun g' w' hch a0 b0 r hu0 hr=>by exact Fn.mono (wk46 hu0  hr) fun _ _ _ h=>Q1.2 h⟩ vE) fun bD jH uH hs hr=>?_);have hfr:=hfr.ext hs;have o0:=o0.ext hs;subst hr;refine Zx (.bool (aB)) (Zl (b:=(!l9)) rfl (G5 g8 rfl)) rfl (Zn (.bool (aB)) rfl rfl ?_);rcases Zt h with ⟨l8,h⟩ | ⟨l8,h⟩
      ·refine Zz rfl rfl l8 rfl rfl ?_
       iterate 3 refine Zz rfl rfl l8 rfl rfl ?_
       refine Zx (.bool true) (Zl (b:=aB) rfl (G4 l8 rfl)) rfl (Zb ?_);obtain rfl:=sinj h;exact hQ _ _ ⟨bD,hfr,rfl⟩
      ·refine Zy (Z8 p1 1) (Zc Vm v8 (PT.ptr o0)) rfl rfl l8 rfl ?_
       have gG:=Zm (W4).1 o0;refine Ze (.yes2 rfl rfl l8) rfl (Z6 (g:=bD) isAgg53 sizeOf53 rfl gG fun iG jG=>(Zy (.func (.func 48) #[] #[]) (Zk rfl) rfl rfl l8 rfl ?_));obtain ⟨vB,xE,h⟩:=Z1 h;refine Ze (.yes2 rfl rfl l8) rfl (Zp (g:=bD) (vs:=[iG,.func (.func 48) #[] #[]]) en56 (.cons rfl (.cons rfl .nil)) (wk56 jG ⟨48,#[],#[],rfl,en48,fun g' w' hch a0 b0 r hu0 hr=>by exact Fn.mono (wk48 hu0  hr) fun _ _ _ h=>Q1.2 h⟩ xE) fun kG kH xH hs hr=>?_);have hfr:=hfr.ext hs;subst hr;refine Zx (.bool (vB)) (Zl (b:=aB) rfl (G5 l8 rfl)) rfl (Zb ?_);obtain rfl:=sinj h;exact hQ _ _ ⟨kG,hfr,rfl⟩
   ·clear hx
    obtain ⟨yE,hfr,lB⟩:=hR;rcases Zt h with ⟨mB,h⟩ | ⟨mB,h⟩
    ·refine Ta (Eq.trans (show ev _ _ = .bool (l5) from lB) (congrArg Value.bool mB)) (Z5 (Zg (Iz (2)) rfl rfl (Z3 (Ga (Gp ?_)))))
     obtain rfl:=sinj h;exact Tg rfl rfl (rq (Iz (2))) ⟨_,hfr,rfl⟩
    ·refine Gs (Eq.trans (show ev _ _ = .bool (l5) from lB) (congrArg Value.bool mB)) ?_
     exact Zu (Zd (oE () _ _ ⟨yE,hfr⟩ h))
  ·rintro _ mG lH ⟨mH, hfr⟩ h
   refine Z5 (Zg (Iz (0)) rfl rfl (Z3 (Ga ?_)));obtain rfl:=sinj h;exact Tg rfl rfl (rq (Iz (0))) ⟨_,hfr,rfl⟩
theorem en113:Enters prog 113:=enters_of func113 (by kernel_rfl) rfl
theorem it_ok:ItOk prog 113 0:=fun n h0 h1 w hT=>Tryz.strconv_Itoa n h0 h1 w (Iv (by kernel_rfl) hT)
abbrev He:=AnyV 3 9
theorem Cd (a:Addr) (w:World):(Instr.fieldAt 181 (.pointer (some a)) 0).run prog w=.ok (.pointer (some (a.add 0))) w:=by simp [Instr.fieldAt,run_underlying underlying181,Instr.sureAddr,fieldPlace,Result.andThen]
theorem N9 (a:Addr) (w:World):(Instr.fieldAt 181 (.pointer (some a)) 1).run prog w=.ok (.pointer (some (a.add 2))) w:=by simp [Instr.fieldAt,run_underlying underlying181,Instr.sureAddr,fieldPlace,Result.andThen]
theorem wcc {i : Nat} {g : Gh} {w : World} {b : Nat} {a v : Value} {n : Int} (hb : HBm i g w b (.cells #[a, v, Iz n] 181 (0, 0))) (ha : a = .pointer none ∨ a = .pointer (some ⟨b, 0, none⟩)) :
  Calls prog 159 #[.pointer (some ⟨b,0,none⟩)] w fun r w'=>∃ u,r=.returned u∧Stp i g w g w'∧HBm i g w' b (.cells #[.pointer (some ⟨b,0,none⟩),v,Iz n] 181 (0,0))∧∀ k,k ≠ b→w'.heap[k]?=w.heap[k]?:=by
 obtain ⟨jt,hj,hjs⟩:=Lw
 have hsh:=hb.shape
 refine Q9 func159 rfl (Nat.le_of_ble_eq_true rfl) ?_
 show E _ 20 none _ _ _ _ _
 refine Z5 (Zn (.pointer (some ⟨b,0,none⟩)) rfl rfl (Zx (.pointer (some ⟨b,0,none⟩)) (Tx rfl) rfl (Zx (.pointer (some ⟨b,0,none⟩)) (show Pur _ _ _ (Z8 (.pointer (some ⟨b,0,none⟩)) 0) from Zc R4 rfl ⟨b,0,rfl⟩) rfl (Z4 rfl (Ub isAgg177 rfl (hb.cell.trans rfl) ?_)))))
 rcases ha with ha | ha
 ·subst ha
  refine Zx (.bool true) (Vr (u1:=.pointer none) (u2:=.pointer none) (.inl rfl) rfl rfl ⟨_,rfl⟩ ⟨_,rfl⟩ (fun w=>by simpa using run_eql_pointer_nil (P:=prog) w 177 none underlying177)) rfl (Z3 (Ta rfl (Za (Zn (.pointer (some ⟨b,0,none⟩)) rfl rfl (Zn (.pointer (some ⟨b,0,none⟩)) rfl rfl ?_)))))
  refine Bc (v:=.pointer (some ⟨b,0,none⟩)) (w':=w) .plain (fun _ h=>by cases h) rfl (by
   have:=Lib.run_to_unsafe w ⟨b,0,none⟩ underlying177 underlying270 hj (by rw [hjs]; decide) hsh (by show 0 < 3; omega)
   show (Sem.run _ (execOp _ _) _)=_
   simp only [execOp,Sem.run_bind]
   rw [show ev _ (Operand.tmp 8)=Value.pointer (some ⟨b,0,none⟩) from rfl,this]
   rfl) ?_
  refine Zx (.pointer (some ⟨b,0,none⟩)) (Pf func181 (by kernel_rfl) (by kernel_rfl) (by kernel_rfl) (ex:=Extern.AbiNoEscape.same) (by kernel_rfl) (.cons rfl .nil) (fun _=>rfl)) rfl ?_
  refine Bc (v:=.pointer (some ⟨b,0,none⟩)) (w':=w) .plain (fun _ h=>by cases h) rfl (by
   have:=Lib.run_from_unsafe w ⟨b,0,none⟩ underlying270 underlying177 hj hsh (by kernel_rfl)
   show (Sem.run _ (execOp _ _) _)=_
   simp only [execOp,Sem.run_bind]
   rw [show ev _ (Operand.tmp 10)=Value.pointer (some ⟨b,0,none⟩) from rfl,this]
   rfl) ?_
  refine Zx (.pointer (some ⟨b,0,none⟩)) (Tx rfl) rfl (Zx (.pointer (some ⟨b,0,none⟩)) (show Pur _ _ _ (Z8 (.pointer (some ⟨b,0,none⟩)) 0) from Zc R4 rfl ⟨b,0,rfl⟩) rfl (Z4 rfl (Yv (c:=.pointer (some ⟨b,0,none⟩)) sizeOf177 rfl rfl rfl (by simp) hb fun w1 hs hb1 hk=>(Zb ?_))))
  exact Y3 rfl rfl ⟨hs,hb1,hk⟩
 ·subst ha
  refine Zx (.bool false) (Vr (u1:=.pointer (some ⟨b,0,none⟩)) (u2:=.pointer none) (.inl rfl) rfl rfl ⟨_,rfl⟩ ⟨_,rfl⟩ (fun w=>by simpa using run_eql_pointer_nil (P:=prog) w 177 (some ⟨b,0,none⟩) underlying177)) rfl (Z3 (Gs rfl (Z5 (Zn (.pointer (some ⟨b,0,none⟩)) rfl rfl (Zx (.pointer (some ⟨b,0,none⟩)) (Tx rfl) rfl (Zx (.pointer (some ⟨b,0,none⟩)) (show Pur _ _ _ (Z8 (.pointer (some ⟨b,0,none⟩)) 0) from Zc R4 rfl ⟨b,0,rfl⟩) rfl (Z4 rfl (Ub isAgg177 rfl (hb.cell.trans rfl) (Zn (.pointer (some ⟨b,0,none⟩)) rfl rfl (Zx (.bool false) (Vr (.inr rfl) rfl rfl ⟨_,rfl⟩ ⟨_,rfl⟩ (fun w=>Lib.run_neq_ptr_same w ⟨b,0,none⟩ underlying177 hj)) rfl (Z3 (Gs rfl (Zu ?_)))))))))))))
  exact Y3 rfl rfl ⟨Sr _ _ _,hb,fun _ _=>rfl⟩
theorem wwb {i : Nat} {g : Gh} {w : World} {c : UInt8} {s : List UInt8 × Int} {r : List UInt8} {p : Value} (h : WR i g w 5 181 s p) (hr : apnd 1 s.1 [c] = some r) :
  Calls prog 111 #[p,.int .u8 c.toNat] w fun q w'=>∃ v,q=.returned v∧∃ g',Stp i g w g' w'∧WR i g' w' 5 181 (r,s.2) p:=by
 obtain ⟨b,a,v,rfl,hb,hz,hne,ha⟩:=h
 refine Q9 func111 rfl (Nat.le_of_ble_eq_true rfl) ?_
 show E _ 17 none _ _ _ _ _
 refine Z5 (Zg .nilIface rfl rfl (Z3 (Z5 (Zn (.pointer (some ⟨b,0,none⟩)) rfl rfl (Z4 rfl (Wc (vs:=[.pointer (some ⟨b,0,none⟩)]) en159 (.cons rfl .nil) (wcc hb ha) fun u w1 h1=>?_))))))
 obtain ⟨hs1,hb1,hk1⟩:=h1
 have hz1:=hz.other hne hk1
 refine Z3 (Z5 (Zn (.pointer (some ⟨b,0,none⟩)) rfl rfl (Zn (.pointer (some ⟨b,0,none⟩)) rfl rfl (Zx (.pointer (some ⟨b,0,none⟩)) (Tx rfl) rfl (Zx (.pointer (some ⟨b,1,none⟩)) (show Pur _ _ _ (Z8 (.pointer (some ⟨b,0,none⟩)) 1) from Zc V2 rfl ⟨b,0,rfl⟩) rfl (Z4 rfl (Ub isAgg43 rfl (hb1.cell.trans rfl) (Zn (.int .u8 c.toNat) rfl rfl (Z4 rfl (Z7 (g:=g) 1 (xs:=[c]) (vs:=[.int .u8 c.toNat]) underlying43 sizeOf5 zeroValue5 rfl rfl (.cons rfl .nil) (RVs.cons (Qy.2 rfl) RVs.nil) rfl rfl fun g3 w3 v3 _ _ r3 hxt _=>?_))))))))))
 have hb3:=hb1.ext hxt
 refine Z4 rfl (Pt (g:=g3) underlying43 Rs rfl (hz1.ext hxt) rfl r3 hr fun g4 w4 v4 hs4 z4 ap4=>?_)
 obtain ⟨hb4,hne4⟩:=hb3.apart ap4 hne
 refine Zx (.pointer (some ⟨b,0,none⟩)) (Tx rfl) rfl (Zx (.pointer (some ⟨b,1,none⟩)) (show Pur _ _ _ (Z8 (.pointer (some ⟨b,0,none⟩)) 1) from Zc V2 rfl ⟨b,0,rfl⟩) rfl (Z4 rfl (Yv (c:=v4) sizeOf43 rfl rfl z4.one (by simp) hb4 fun w5 hs5 hb5 hk5=>(Z3 (Z5 (Zg .nilIface rfl rfl (Z3 ?_)))))))
 exact Ga (Tg rfl rfl (rq .nilIface) ⟨g4,(hs1.trans (hxt.stp.trans (hs4.trans hs5))),b,_,v4,rfl,hb5,z4.other hne4 hk5,hne4,.inr rfl⟩)
theorem en112:Enters prog 112:=enters_of func112 (by kernel_rfl) rfl
theorem wws {i : Nat} {g : Gh} {w : World} {c : Str} {s : List UInt8 × Int} {r : List UInt8} {p : Value} (h : WR i g w 5 181 s p) (hr : apnd 1 s.1 c.b = some r) :
  Calls prog 112 #[p,c.v] w fun q w'=>∃ v,q=.returned v∧∃ g',Stp i g w g' w'∧WR i g' w' 5 181 (r,s.2) p:=by
 obtain ⟨b,a,v,rfl,hb,hz,hne,ha⟩:=h
 refine Q9 func112 rfl (Nat.le_of_ble_eq_true rfl) ?_
 show E _ 19 none _ _ _ _ _
 refine Z5 (Zg (Iz 0) rfl rfl (Zg .nilIface rfl rfl (Z3 (Z5 (Zn (.pointer (some ⟨b,0,none⟩)) rfl rfl (Z4 rfl (Wc (vs:=[.pointer (some ⟨b,0,none⟩)]) en159 (.cons rfl .nil) (wcc hb ha) fun u w1 h1=>?_)))))))
 obtain ⟨hs1,hb1,hk1⟩:=h1
 have hz1:=hz.other hne hk1
 refine Z3 (Z5 (Zn (.pointer (some ⟨b,0,none⟩)) rfl rfl (Zn (.pointer (some ⟨b,0,none⟩)) rfl rfl (Zx (.pointer (some ⟨b,0,none⟩)) (Tx rfl) rfl (Zx (.pointer (some ⟨b,1,none⟩)) (show Pur _ _ _ (Z8 (.pointer (some ⟨b,0,none⟩)) 1) from Zc V2 rfl ⟨b,0,rfl⟩) rfl (Z4 rfl (Ub isAgg43 rfl (hb1.cell.trans rfl) (Zn c.v rfl rfl (Z4 rfl (P2 (g:=g) underlying43 underlying9 Rs rfl hz1 rfl hr fun g4 w4 v4 hs4 z4 ap4=>?_))))))))))
 obtain ⟨hb4,hne4⟩:=hb1.apart ap4 hne
 refine Zx (.pointer (some ⟨b,0,none⟩)) (Tx rfl) rfl (Zx (.pointer (some ⟨b,1,none⟩)) (show Pur _ _ _ (Z8 (.pointer (some ⟨b,0,none⟩)) 1) from Zc V2 rfl ⟨b,0,rfl⟩) rfl (Z4 rfl (Yv (c:=v4) sizeOf43 rfl rfl z4.one (by simp) hb4 fun w5 hs5 hb5 hk5=>(Z3 (Z5 (Zn c.v rfl rfl (Zx (Iz (c.b.length:Int)) (P1 underlying9 rfl) rfl (Zg (Iz (c.b.length:Int)) rfl rfl (Zg .nilIface rfl rfl (Z3 ?_))))))))))
 exact Ga (Jq rfl rfl rfl rfl ⟨g4,(hs1.trans (hs4.trans hs5)),b,_,v4,rfl,hb5,z4.other hne4 hk5,hne4,.inr rfl⟩)
theorem wst {i : Nat} {g : Gh} {w : World} {s : List UInt8 × Int} {p : Value} (h : WR i g w 5 181 s p) (h0 : s.1 ≠ []) :
  Calls prog 77 #[p] w fun q w'=>∃ v,q=.returned v∧v=Str.v ⟨s.1⟩∧(∀ bk,p=.pointer (some ⟨bk,0,none⟩)→w'.heap[bk]?=w.heap[bk]?)∧∃ g',Stp i g w g' w'∧WR i g' w' 5 181 s p:=by
 obtain ⟨b,a,v,rfl,hb,hz,hne,ha⟩:=h
 obtain ⟨sa,c,rfl,hc,_⟩:=hz.hdr
 have hcn:c ≠ 0:=by
  have : 0 < s.1.length := by cases hs : s.1 with
   | nil=>exact absurd hs h0
   | cons _ _=>simp
  omega
 have hl:=Mb isAgg43 hb (o:=1) (c:=.slice sa s.1.length c) rfl
 refine Q9 func77 rfl (Nat.le_of_ble_eq_true rfl) ?_
 show E _ 14 none _ _ _ _ _
 refine Z5 (Zg (Str.v ⟨[]⟩) rfl rfl (Z3 (Zf (To (g:=g) (n:=10) [] [0,1,2,3,4,5,6,7,8,9] rfl Jm (by kernel_rfl) trivial (Y4 (c:=.pointer (some ⟨b,0,none⟩)) rfl rfl .plain (fun _ _ hd=>Zk rfl) (Y4 (c:=.pointer (some ⟨b,0,none⟩)) rfl rfl .plain (fun _ _ hd=>Tx rfl) (Y4 (c:=.pointer (some ⟨b,1,none⟩)) rfl rfl .plain (fun _ _ hd=>show Pur _ _ _ (Z8 (.pointer (some ⟨b,0,none⟩)) 1) from Zc V2 rfl ⟨b,0,rfl⟩) (Tm (c:=.slice sa s.1.length c) rfl rfl .plain (fun _ _ h=>⟨h.ch,fun b hb _=>h.below.block b hb⟩) (hl _) rfl (Y4 (c:=.pointer sa) rfl rfl .plain (fun _ _ hd=>Bq (a:=sa) (n:=s.1.length) (c:=c) rfl (.inl hcn)) (Y4 (c:=.pointer (some ⟨b,0,none⟩)) rfl rfl .plain (fun _ _ hd=>Zk rfl) (Y4 (c:=.pointer (some ⟨b,0,none⟩)) rfl rfl .plain (fun _ _ hd=>Tx rfl) (Y4 (c:=.pointer (some ⟨b,1,none⟩)) rfl rfl .plain (fun _ _ hd=>show Pur _ _ _ (Z8 (.pointer (some ⟨b,0,none⟩)) 1) from Zc V2 rfl ⟨b,0,rfl⟩) (Tm (c:=.slice sa s.1.length c) rfl rfl .plain (fun _ _ h=>⟨h.ch,fun b hb _=>h.below.block b hb⟩) (hl _) rfl (Y4 (c:=Iz (s.1.length:Int)) rfl rfl .plain (fun _ _ hd=>Ol (v:=.slice sa s.1.length c) underlying43 rfl ⟨_,_,rfl⟩) (J6 fun g1 w1 hall=>?_)))))))))))))))
 have hs:=hall.1
 refine Z4 rfl (Bv (g:=g1) (i:=i) (et:=5) rfl underlying223 (by kernel_rfl) h0 rfl rfl (hz.ext hs) fun w2 hs2 z2 ap2=>?_)
 obtain ⟨hb2,hne2⟩:=(hb.ext hs).apart ap2 hne
 refine Zg (Str.v ⟨s.1⟩) rfl rfl (Z3 ?_)
 exact Ga (Tg rfl rfl (rq (Str.v ⟨s.1⟩)) ⟨rfl,fun bk hbk=>by injection hbk with hbk; injection hbk with hbk; injection hbk with hbk _; subst hbk; exact hb2.2.2.trans hb.2.2.symm,g1,hs.stp.trans hs2,b,a,_,rfl,hb2,z2,hne2,ha⟩)
def anyS : He → Option Str
 | .str s=>some s
 | .int n=>N4 n
def f74 (x0:List UInt8 × Int) (x1:List He):Option (List UInt8 × Int):=
 Option.bind (α:=List UInt8) (lp (σ:=List UInt8 × Int) (fun k s=>bif decide (s.2 < (x1.length:Int)) then (idx x1 s.2).bind fun a=>Option.bind (α:=List UInt8) (bif decide (s.2 > (0:Int)) then apnd 1 s.1 [32] else some s.1) fun b=>(anyS a).bind fun t=>(apnd 1 b t.b).bind fun c=>k (c,w64 (s.2 + (1:Int))) else some s.1) big (x0.1,0)) fun b=>
 (apnd 1 b [10]).bind fun c=>some (c,w64 (x0.2 + (1:Int)))
theorem en74:Enters prog 74:=enters_of func74 (by kernel_rfl) rfl
theorem wk74 {i : Nat} {g : Gh} {w : World} {s s' : List UInt8 × Int} {ws : List He} {p u : Value} (hT : Vj 0 g.m w) (h : WR i g w 5 181 s p) (hu : RV g.m w ws u) (hf : f74 s ws = some s') :
  Calls prog 74 #[p,u] w fun q w'=>∃ v,q=.returned v∧∃ g',Stp i g w g' w'∧WR i g' w' 5 181 s' p:=by
 unfold f74 at hf
 obtain ⟨b0,hl,hf⟩:=Z1 hf
 obtain ⟨bk,rfl⟩:∃ b,p=.pointer (some ⟨b,0,none⟩):=by obtain ⟨b,_,_,hh,_⟩:=h; exact ⟨b,hh⟩
 refine Q9 func74 rfl (Nat.le_of_ble_eq_true rfl) ?_
 show E _ 51 none _ _ _ _ _
 refine Kw (fun e ds w'=>ds=[]∧e 0=.pointer (some ⟨bk,0,none⟩)∧∃ g',Stp i g w g' w'∧WR i g' w' 5 181 (b0,s.2) (.pointer (some ⟨bk,0,none⟩))) (fun Q' hQ=>?_) (fun e ds w' hR=>?_)
 ·refine Z5 (Zn u rfl rfl (Zx (Iz (ws.length : Int)) (Gz (v := u) underlying183 rfl hu) rfl (Zn (Iz 0) rfl rfl (Z3 (Zr (Sj hl (fun (t : List UInt8 × Int) e ds w' => ds = [] ∧ e 0 = .pointer (some ⟨bk, 0, none⟩) ∧ e 8 = u ∧ e 9 = Iz (ws.length : Int) ∧ e 10 = Iz t.2 ∧ ∃ g', Stp i g w g' w' ∧ WR i g' w' 5 181 (t.1, s.2) (.pointer (some ⟨bk, 0, none⟩))) ⟨rfl, rfl, rfl, rfl, rfl, g, Sr _ _ _, h⟩ (fun X rec hrec => ?_)))))))
  rintro ⟨xs,n⟩ e ds w1 ⟨rfl,e0,e8,e9,e10,g1,hs,hwr⟩ hk
  refine Z5 (Z9 (.bool (decide (n < (ws.length:Int)))) e10 e9 rfl rfl (Z3 ?_))
  rcases Zt hk with ⟨hc,hk⟩ | ⟨hc,hk⟩
  ·refine Zf (G6 hc rfl (Zu (Zd ?_)))
   obtain ⟨a,ha,hk⟩:=Z1 hk
   obtain ⟨bb,hbb,hk⟩:=Z1 hk
   obtain ⟨tx,htx,hk⟩:=Z1 hk
   obtain ⟨cc,hcc,hk⟩:=Z1 hk
   have hu1:=hu.ch hs.ch
   have hT1:=hT.ch hs.ch
   refine Kw (fun e ds w'=>ds=[]∧e 0=.pointer (some ⟨bk,0,none⟩)∧e 8=u∧e 9=Iz (ws.length:Int)∧e 10=Iz n∧∃ g',Stp i g w g' w'∧WR i g' w' 5 181 (cc,s.2) (.pointer (some ⟨bk,0,none⟩))) (fun Q' hQ=>?_) (fun e2 ds2 w2 hR=>?_)
   ·refine Zr (Z5 (Zn (Iz n) e10 rfl (Zx (Tb u n 1) (Zh (α := He) underlying183 sizeOf20 e8 hu1 e10 ha) rfl (Z4 rfl (Z6 (g := g1) isAgg20 sizeOf20 rfl (Gx hu1 ha) fun va ra => ?_)))))
    obtain rfl:=Hl.1 ra
    refine Zg (Iz n) rfl rfl (Zg a.v rfl rfl (Z3 (Kw (fun e ds w'=>ds=[]∧e 0=.pointer (some ⟨bk,0,none⟩)∧e 5=a.v∧e 8=u∧e 9=Iz (ws.length:Int)∧e 10=Iz n∧∃ g',Stp i g w g' w'∧WR i g' w' 5 181 (bb,s.2) (.pointer (some ⟨bk,0,none⟩))) (fun Q2 hQ2=>?_) (fun e3 ds3 w3 hR3=>?_))))
    ·refine Z5 (Zn (Iz n) rfl rfl (Z9 (.bool (decide (n > (0 : Int)))) rfl rfl rfl rfl (Z3 ?_)))
     rcases Zt hbb with ⟨hc2,hbb⟩ | ⟨hc2,hbb⟩
     ·refine G6 hc2 rfl (Za (Zo e0 rfl (Zx (.pointer (some ⟨bk, 0, none⟩)) (Tx rfl) rfl (Zx (.pointer (some ⟨bk, 0, none⟩)) (show Pur _ _ _ (Z8 (.pointer (some ⟨bk, 0, none⟩)) 0) from Zc Cd rfl ⟨bk, 0, rfl⟩) rfl (Z4 rfl (Wc (vs := [.pointer (some ⟨bk, 0, none⟩), .int .u8 (32 : UInt8).toNat]) en111 (.cons rfl (.cons rfl .nil)) (wwb (c := 32) hwr hbb) fun q4 w4 h4 => ?_))))))
      obtain ⟨g4,hs4,hwr4⟩:=h4
      exact Zb (hQ2 _ _ _ ⟨rfl,e0,rfl,e8,e9,e10,g4,hs.trans hs4,hwr4⟩)
     ·obtain rfl := sinj hbb
      exact G7 hc2 rfl (Zu (hQ2 _ _ _ ⟨rfl,e0,rfl,e8,e9,e10,g1,hs,hwr⟩))
    ·obtain ⟨rfl, e0, e5, e8, e9, e10, g3, hs3, hwr3⟩ := hR3
     have hT3:=hT.ch hs3.ch
     refine Z5 (Zo e5 rfl (Z3 (Zr (Z5 ?_))))
     cases a with
     | str tt=>
      obtain rfl:=sinj htx
      refine Zx (.tuple #[tt.v,.bool true]) (Ey (ti:=3) underlying9 rfl) rfl (Zx (.bool true) (Zi rfl rfl) rfl (Zx tt.v (Zi rfl rfl) rfl (Z3 (Ta rfl (Z5 (Zg tt.v rfl rfl (Z3 (Za (Zo e0 rfl (Zx (.pointer (some ⟨bk,0,none⟩)) (Tx rfl) rfl (Zx (.pointer (some ⟨bk,0,none⟩)) (show Pur _ _ _ (Z8 (.pointer (some ⟨bk,0,none⟩)) 0) from Zc Cd rfl ⟨bk,0,rfl⟩) rfl (Zn tt.v rfl rfl (Z4 rfl (Wc (vs:=[.pointer (some ⟨bk,0,none⟩),tt.v]) en112 (.cons rfl (.cons rfl .nil)) (wws hwr3 hcc) fun q4 w4 h4=>?_))))))))))))))
      obtain ⟨g4,hs4,hwr4⟩:=h4
      exact Zb (Tj (hQ _ _ _ ⟨rfl,e0,e8,e9,e10,g4,hs3.trans hs4,hwr4⟩))
     | int nn=>
      refine Zx (.tuple #[_,.bool false]) (Ir (ti:=3) underlying9 rfl zeroValue9 rfl) rfl (Zx (.bool false) (Zi rfl rfl) rfl (Zx _ (Zi rfl rfl) rfl (Z3 (Gs rfl (Z5 (Zx (.tuple #[Iz nn,.bool true]) (P_isInt (ts:=9) underlying3 rfl) rfl (Zx (.bool true) (Zi rfl rfl) rfl (Zx (Iz nn) (Zi rfl rfl) rfl (Z3 (Ta rfl (Z5 (Zg (Iz nn) rfl rfl (Z3 (Y6 (g:=g3) (n:=6) [0,1,2,3] [] [0,1,2,3,4,5] rfl Jm (by kernel_rfl) fun w_c hx hlt=>?_))))))))))))))
      have hwr4:=hwr3.ext hx
      have hT4:=hT3.ext hx
      refine T7 (c:=.pointer (some ⟨bk,0,none⟩)) rfl rfl .plain (Zk e0) (T7 (c:=.pointer (some ⟨bk,0,none⟩)) rfl rfl .plain (Tx rfl) (T7 (c:=.pointer (some ⟨bk,0,none⟩)) rfl rfl .plain (show Pur _ _ _ (Z8 (.pointer (some ⟨bk,0,none⟩)) 0) from Zc Cd rfl ⟨bk,0,rfl⟩) (T7 (c:=Iz nn) rfl rfl .plain (Zk rfl) (Uk rfl rfl .plain (D_itoa (g:=g3) en113 it_ok hT4 rfl htx fun w5 hx5=>?_)))))
      have hwr5:=hwr4.ext hx5
      have hlt5:=hlt.ext hx5
      refine ⟨hlt5.toW,?_⟩
      refine Uk rfl rfl .plain (Wc (vs:=[.pointer (some ⟨bk,0,none⟩),tx.v]) en112 (.cons rfl (.cons rfl .nil)) (wws hwr5 hcc) fun q6 w6 h6=>?_)
      obtain ⟨g6,hs6,hwr6⟩:=h6
      refine ⟨(hlt5.stp hs6 rfl).toW,?_⟩
      refine V6 (Zb (Tj ?_))
      exact hQ _ _ _ ⟨rfl,e0,e8,e9,e10,g6,hs3.trans (hx.stp.trans (hx5.stp.trans hs6)),hwr6⟩
   ·obtain ⟨rfl, e0, e8, e9, e10, g2, hs2, hwr2⟩ := hR
    refine Za (Z9 (Iz (w64 (n + (1:Int)))) e10 rfl rfl rfl (Zn (Iz (w64 (n + (1:Int)))) rfl rfl ?_))
    exact Z3 (hrec (cc,w64 (n + 1)) _ _ _ ⟨rfl,e0,e8,e9,rfl,g2,hs2,hwr2⟩ hk)
  ·refine Zf (G7 hc rfl (Tn (Gu (Gu (G8 ?_)))))
   obtain rfl:=sinj hk
   exact hQ _ _ _ ⟨rfl,e0,g1,hs,hwr⟩
 ·obtain ⟨rfl, e0, g1, hs, hwr⟩ := hR
  obtain ⟨c0,hc0,hf⟩:=Z1 hf
  obtain rfl:=sinj hf
  refine Z5 (Zo e0 rfl (Zx (.pointer (some ⟨bk,0,none⟩)) (Tx rfl) rfl (Zx (.pointer (some ⟨bk,0,none⟩)) (show Pur _ _ _ (Z8 (.pointer (some ⟨bk,0,none⟩)) 0) from Zc Cd rfl ⟨bk,0,rfl⟩) rfl (Z4 rfl (Wc (vs:=[.pointer (some ⟨bk,0,none⟩),.int .u8 (10:UInt8).toNat]) en111 (.cons rfl (.cons rfl .nil)) (wwb (c:=10) hwr hc0) fun q4 w4 h4=>?_)))))
  obtain ⟨g4,hs4,hwr4⟩:=h4
  refine Z3 (Za (Zo e0 rfl (Zx (.pointer (some ⟨bk,0,none⟩)) (Tx rfl) rfl (Zx (.pointer (some ⟨bk,2,none⟩)) (show Pur _ _ _ (Z8 (.pointer (some ⟨bk,0,none⟩)) 2) from Zc N9 rfl ⟨bk,0,rfl⟩) rfl ?_))))
  obtain ⟨b,a,v,hp,hb,hz,hne,ha⟩:=hwr4
  injection hp with hp; injection hp with hp; injection hp with hp _
  subst hp
  refine Z4 rfl (Ub isAgg3 rfl (hb.cell.trans rfl) (Z9 (Iz (w64 (s.2 + (1:Int)))) rfl rfl rfl rfl (Zx (.pointer (some ⟨bk,0,none⟩)) (Tx rfl) rfl (Zx (.pointer (some ⟨bk,2,none⟩)) (show Pur _ _ _ (Z8 (.pointer (some ⟨bk,0,none⟩)) 2) from Zc N9 rfl ⟨bk,0,rfl⟩) rfl (Z4 rfl (Yv (c:=Iz (w64 (s.2 + (1:Int)))) sizeOf3 rfl rfl rfl (by simp) hb fun w5 hs5 hb5 hk5=>(Zb ?_)))))))
  exact Y3 rfl rfl ⟨g4,hs.trans (hs4.trans hs5),bk,a,v,rfl,hb5,hz.other hne hk5,hne,ha⟩
def f75 (x0:List UInt8 × Int) (c:Gc) (n:Int):Option (List UInt8 × Int):=
 (f114 c.Row n).bind fun t=>f74 x0 [.str ⟨bif c.Turned then [116,117,114,110,101,100] else [99,97,114,100]⟩,bif decide (c.Number=-1) then .str ⟨[63]⟩ else .int c.Number,.str t]
theorem en75:Enters prog 75:=enters_of func75 (by kernel_rfl) rfl
theorem wk75 {i : Nat} {g : Gh} {w : World} {s s' : List UInt8 × Int} {c : Gc} {n : Int} {p u : Value} (hT : Vj 0 g.m w) (h : WR i g w 5 181 s p) (hu : RV g.m w c u) (hf : f75 s c n = some s') :
  Calls prog 75 #[p,u,Iz n] w fun q w'=>∃ v,q=.returned v∧∃ g',Stp i g w g' w'∧WR i g' w' 5 181 s' p:=by
 unfold f75 at hf
 obtain ⟨tx,htx,hf⟩:=Z1 hf
 refine Q9 func75 rfl (Nat.le_of_ble_eq_true rfl) ?_
 show E _ 28 none _ _ _ _ _
 refine Z5 (Z4 rfl (Tv (g:=g) rfl hu fun g1 w1 p1 hx1 q1=>?_))
 have h1:=h.ext hx1
 have hT1:=hT.ext hx1
 refine Z3 (Kw (fun e ds w'=>ds=[]∧e 0=p∧e 2=Iz n∧e 4=p1∧e 6=Str.v ⟨[99,97,114,100]⟩∧e 7=(AnyV.int c.Number:He).v∧∃ g',Ext g1 w1 g' w') (fun Q' hQ=>?_) (fun e ds w' hR=>?_))
 ·refine Zs (x := .tmp 8) isAgg3 sizeOf3 (Zm H8.1 q1) fun vN rN hlN => ?_
  obtain rfl:=Zj.1 rN
  refine To (g:=g1) (n:=5) [] [0,1,2,3,4] rfl Jm (by kernel_rfl) trivial (Z0 (Z8 p1 0) rfl rfl (Zc C0 rfl (PT.ptr q1)) (Tm (c:=Iz c.Number) rfl rfl .plain (fun _ _ h=>h.ch) hlN rfl (Z0 (AnyV.int c.Number:He).v rfl rfl (Yx underlying3 rfl) (Z0 (Str.v ⟨[99,97,114,100]⟩) rfl rfl (Te rfl) (Z0 (AnyV.int c.Number:He).v rfl rfl (Te rfl) (Ka fun g2 w2 hs=>?_))))))
  exact Zb (hQ _ _ _ ⟨rfl,rfl,rfl,rfl,rfl,rfl,g2,hs⟩)
 obtain ⟨rfl,e0,e2,e4,e6,e7,g2,hx2⟩:=hR
 have h2:=h1.ext hx2
 have hT2:=hT1.ext hx2
 have q2:=q1.ext hx2
 refine Kw (fun e ds w'=>ds=[]∧e 0=p∧e 2=Iz n∧e 4=p1∧e 6=Str.v ⟨bif c.Turned then [116,117,114,110,101,100] else [99,97,114,100]⟩∧e 7=(AnyV.int c.Number:He).v∧∃ g',Ext g1 w1 g' w') (fun Q' hQ=>?_) (fun e ds w' hR=>?_)
 ·refine Z5 (Zx (Z8 p1 2) (Zc Mc e4 (PT.ptr q2)) rfl (Z4 rfl (Z6 (g := g2) isAgg4 sizeOf4 rfl (Zm Yw.1 q2) fun v r => ?_)))
  obtain rfl:=Q1.1 r
  refine Z3 ?_
  rcases Bool.eq_false_or_eq_true c.Turned with hb | hb
  ·refine G6 hb rfl (Za (Zg (Str.v ⟨[116, 117, 114, 110, 101, 100]⟩) rfl rfl ?_))
   exact Zb (hQ _ _ _ ⟨rfl,e0,e2,e4,by simp only [hb,cond_true]; rfl,e7,g2,hx2⟩)
  ·exact G7 hb rfl (Zu (hQ _ _ _ ⟨rfl,e0,e2,e4,by simp only [hb,cond_false]; exact e6,e7,g2,hx2⟩))
 clear e0 e2 e4 e6 e7
 obtain ⟨rfl,e0,e2,e4,e6,e7,g2,hx2⟩:=hR
 have h2:=h1.ext hx2
 have hT2:=hT1.ext hx2
 have q2:=q1.ext hx2
 refine Kw (fun e ds w'=>ds=[]∧e 0=p∧e 2=Iz n∧e 4=p1∧e 6=Str.v ⟨bif c.Turned then [116,117,114,110,101,100] else [99,97,114,100]⟩∧e 7=(bif decide (c.Number=-1) then AnyV.str ⟨[63]⟩ else AnyV.int c.Number:He).v∧∃ g',Ext g1 w1 g' w') (fun Q' hQ=>?_) (fun e ds w' hR=>?_)
 ·refine Z5 (Zx (Z8 p1 0) (Zc C0 e4 (PT.ptr q2)) rfl (Z4 rfl (Z6 (g := g2) isAgg3 sizeOf3 rfl (Zm H8.1 q2) fun v r => ?_)))
  obtain rfl:=Zj.1 r
  refine Z9 (.bool (decide (c.Number=-1))) rfl rfl rfl rfl (Z3 ?_)
  rcases Bool.eq_false_or_eq_true (decide (c.Number=-1)) with hb | hb
  ·refine G6 hb rfl (Za (Zx (AnyV.str ⟨[63]⟩ : He).v (Hq underlying9 rfl) rfl (Zg (AnyV.str ⟨[63]⟩ : He).v rfl rfl ?_)))
   exact Zb (hQ _ _ _ ⟨rfl,e0,e2,e4,e6,by simp only [hb,cond_true]; rfl,g2,hx2⟩)
  ·exact G7 hb rfl (Zu (hQ _ _ _ ⟨rfl,e0,e2,e4,e6,by simp only [hb,cond_false]; exact e7,g2,hx2⟩))
 clear e0 e2 e4 e6 e7
 obtain ⟨rfl,e0,e2,e4,e6,e7,g2,hx2⟩:=hR
 have h2:=h1.ext hx2
 have hT2:=hT1.ext hx2
 have q2:=q1.ext hx2
 refine Za (Zo e0 rfl (Zo e6 rfl (Zx (AnyV.str _:He).v (Hq underlying9 rfl) rfl (Zo e7 rfl (Zx (Z8 p1 1) (Zc B5 e4 (PT.ptr q2)) rfl (Z4 rfl (Z6 (g:=g2) isAgg3 sizeOf3 rfl (Zm K5.1 q2) fun v r=>?_)))))))
 obtain rfl:=Zj.1 r
 refine Zo e2 rfl (Z4 rfl (Zp (g:=g2) (vs:=[Iz c.Row,Iz n]) en114 (.cons rfl (.cons rfl .nil)) (wk114 htx) fun g3 w3 v3 hx3 hv3=>?_))
 subst hv3
 have h3:=h2.ext hx3
 have hT3:=hT2.ext hx3
 refine Zx (AnyV.str tx:He).v (Hq underlying9 rfl) rfl (Z4 rfl (Z7 (g:=g3) 1 (xs:=([.str ⟨bif c.Turned then [116,117,114,110,101,100] else [99,97,114,100]⟩,bif decide (c.Number=-1) then .str ⟨[63]⟩ else .int c.Number,.str tx]:List He)) (vs:=[_,_,_]) underlying183 sizeOf20 zeroValue20 rfl rfl (.cons rfl (.cons rfl (.cons rfl .nil))) (RVs.cons (Hl.2 rfl) (RVs.cons (Hl.2 rfl) (RVs.cons (Hl.2 rfl) RVs.nil))) rfl rfl fun g4 w4 v4 _ _ r4 hx4 _=>(Z4 rfl (Wc (vs:=[p,v4]) en74 (.cons rfl (.cons rfl .nil)) (wk74 (hT3.ext hx4) (h3.ext hx4) r4 hf) fun q5 w5 h5=>?_))))
 obtain ⟨g5,hs5,h5⟩:=h5
 refine Zb ?_
 exact Y3 rfl rfl ⟨g5,hx1.stp.trans (hx2.stp.trans (hx3.stp.trans (hx4.stp.trans hs5))),h5⟩
theorem D_boxW {P : Program} {e : Env} {g : Gh} {w : World} {K : Value → World → Prop} (i : Nat) {et T : TypeId} {x : Operand} {v : Value} (hx : ev e x = v) (hv : v.cells = #[.pointer none, .slice none 0 0, Iz 0])
  (h:∀ g' w' b,Stp i g w g' w'→WR i g' w' et T ([],0) (.pointer (some ⟨b,0,none⟩))→K (.pointer (some ⟨b,0,none⟩)) w'):Doe P (.box T x) e w K:=fun d ty pos af gd=>by
 have hrun:(execOp (ev e) ⟨d,.box T x,ty,pos,af,gd⟩).run P w=.ok (.value (.pointer (some ⟨w.heap.size,0,none⟩))) (w.alloc (.cells v.cells T)):=by
  simp [execOp,hx,Instr.box,newVar,newRow,Result.andThen]
 unfold doE; rw [hrun]
 refine h _ _ w.heap.size (Hs i g w _ T 0) ⟨_,_,_,rfl,⟨Tw _ _ _,Tw _ _ _,?_⟩,OZ.nil,(fun h=>by cases h),.inl rfl⟩
 rw [Q5,hv]
theorem Ai {w0 w1:World} {g g1:Gh} {bk:Nat} (hbk:g.o bk=1) (hs:Stp 1 g w0 g1 w1) (hb:w1.heap[bk]?=w0.heap[bk]?):LTg [7] { m:=g.m,o:=fun b=>if b=bk then 7 else g.o b } w0 { m:=g1.m,o:=fun b=>if b=bk then 7 else g1.o b } w1:=by
 refine ⟨hs.ch,fun b hlt hu=>?_⟩;by_cases h:b=bk
 ·subst h; exact ⟨hb,by simp⟩
 ·have h7 : g.o b = 7 := by simpa [h] using hu
  have hne:g.o b ≠ 1:=by rw [h7]; decide
  exact ⟨hs.block b hlt hne,by simp [h,hs.o b hlt hne]⟩
theorem N3:(prog.info? 20).map (fun i=>(i.zero,i.size,i.bytes))=some (some .nilIface,1,16):=by kernel_rfl
theorem Ed:Qi prog 181=some ([.pointer none,.slice none 0 0,Iz 0],[(0,2),(2,1)]):=by kernel_rfl
def tieWs (t:Gw):Option (List He):=
 lp (σ:=List He × Int) (fun k z=>bif decide (z.2 < (t.Harness.Warps.length:Int)) then (idx t.Harness.Warps z.2).bind fun a=>(apnd 16 z.1 [AnyV.int a]).bind fun y=>k (y,w64 (z.2 + (1:Int))) else some z.1) big ([.str ⟨[116,105,101]⟩,.str t.Name,.int t.Harness.Hooks],0)
def wTies (m:Tq) (s:List UInt8 × Int):Option (List UInt8 × Int):=
 lp (σ:=(List UInt8 × Int) × Int) (fun k z=>bif decide (z.2 < (m.Ties.length:Int)) then (idx m.Ties z.2).bind fun a=>(tieWs a).bind fun ws=>(f74 z.1 ws).bind fun y=>k (y,w64 (z.2 + (1:Int))) else some z.1) big (s,0)
def I8 (c:Gj) (s:List UInt8 × Int):Option (List UInt8 × Int):=
 lp (σ:=(List UInt8 × Int) × Int) (fun k z=>bif decide (z.2 < (c.Chain.Cards.length:Int)) then (idx c.Chain.Cards z.2).bind fun a=>(f75 z.1 a c.Chain.Hooks).bind fun y=>k (y,w64 (z.2 + (1:Int))) else some z.1) big (s,0)
def Ml (m:Tq) (s:List UInt8 × Int):Option (List UInt8 × Int):=
 lp (σ:=(List UInt8 × Int) × Int) (fun k z=>bif decide (z.2 < (m.Chains.length:Int)) then (idx m.Chains z.2).bind fun a=>(f74 z.1 [.str ⟨[99,104,97,105,110]⟩,.str a.Name,.int a.Chain.Hooks]).bind fun s1=>(I8 a s1).bind fun y=>k (y,w64 (z.2 + (1:Int))) else some z.1) big (s,0)
def f36 (m:Tq):Option (Str × Int):=
 (f23 m).bind fun ck=>bif !decide (ck=0) then some (⟨[]⟩,ck) else
 (f74 ([],0) [.str ⟨[109,105,108,108]⟩]).bind fun s0=>(wTies m s0).bind fun s1=>(Ml m s1).bind fun s2=>
 bif s2.1.isEmpty then none else (f76 ⟨s2.1⟩).bind fun sm=>(f74 s2 [.str ⟨[101,110,100]⟩,.int s2.2,.int sm]).bind fun s3=>
 bif s3.1.isEmpty then none else some (⟨s3.1⟩,0)
theorem nemp {s:List UInt8} (h:s.isEmpty=false):s ≠ []:=fun h0=>by subst h0; cases h
theorem en36:Enters prog 36:=enters_of func36 (by kernel_rfl) rfl
theorem wk36 {gI:Gh} {wI:World} {x0:Tq} {up0:Value} (hTI:Vj 0 gI.m wI) (rp0:RV gI.m wI x0 up0) {r:Str × Int} (h:f36 x0=some r):Fn prog 36 #[up0] gI wI (fun _ _ v=>∃ y0 y1,v=.tuple #[y0,y1]∧y0=Str.v r.1∧y1=Iz r.2):=by
 unfold f36 at h;refine fnE func36 rfl rfl fun g0 hm hfr=>?_;have rp0:=RVc hm rp0;have hT0:Vj 0 g0.m wI:=hm ▸ hTI;show E _ 113 none _ _ _ _ _;refine Z5 (Z4 rfl (Tv (g:=g0) rfl rp0 fun g1 w1 p1 hx1 q1=>?_));have hfr:=hfr.ext hx1;have hT1:=hT0.ext hx1;refine Zg (Str.v ⟨[]⟩) rfl rfl (Zg (Iz 0) rfl rfl (Z3 (Zf (Z5 (Z4 rfl (Z6 (g:=g1) isAgg55 sizeOf55 rfl q1 fun vm rm=>?_))))));obtain ⟨ck,hck,h⟩:=Z1 h;refine Z4 rfl (Zp (g:=g1) (vs:=[vm]) en23 (.cons rfl .nil) (wk23 rm hck) fun g2 w2 v2 hx2 hv2=>?_);subst hv2;have hfr:=hfr.ext hx2;have hT2:=hT1.ext hx2;have q2:=q1.ext hx2;refine Zg (Iz ck) rfl rfl (Z3 (Z5 (Zn (Iz ck) rfl rfl (Z9 (.bool (!decide (ck=0))) rfl rfl rfl rfl (Z3 ?_)))));rcases Zt h with ⟨hc,h⟩ | ⟨hc,h⟩
 ·refine G6 hc rfl (Z5 (Zn (Iz ck) rfl rfl (Zg (Str.v ⟨[]⟩) rfl rfl (Zg (Iz ck) rfl rfl (Z3 (Ga (Gp ?_)))))))
  obtain rfl:=sinj h;exact Jq rfl rfl rfl rfl ⟨_,hfr,_,_,rfl,rfl,rfl⟩
 refine G7 hc rfl (Zu (Zd ?_));obtain ⟨s0,hs0,h⟩:=Z1 h;obtain ⟨s1,hs1,h⟩:=Z1 h;obtain ⟨s2,hs2,h⟩:=Z1 h;refine Z5 (Zx (.agg #[.pointer none,.slice none 0 0,Iz 0]) (show Pur _ _ _ (.agg #[.pointer none,.slice none 0 0,Iz 0]) from Tu (vs:=[]) [[.pointer none,.slice none 0 0],[Iz 0]] Ed rfl rfl .nil trivial) rfl (Z4 rfl (D_boxW (g:=g2) 1 (et:=5) rfl rfl fun g3 w3 bk hx3 hw3=>?_)));have hfr:=hfr.stp hx3;have hT3:=hT2.stp hx3;have q3:=q2.stp hx3;refine Zg (.pointer (some ⟨bk,0,none⟩)) rfl rfl (Z3 (Z5 (Zn (.pointer (some ⟨bk,0,none⟩)) rfl rfl (Zx (AnyV.str ⟨[109,105,108,108]⟩:He).v (Hq underlying9 rfl) rfl (Z4 rfl (Z7 (g:=g3) 3 (xs:=([.str ⟨[109,105,108,108]⟩]:List He)) (vs:=[_]) underlying183 sizeOf20 zeroValue20 rfl rfl (.cons rfl .nil) (RVs.cons (Hl.2 rfl) RVs.nil) rfl rfl fun g4 w4 v4 _ _ r4 hx4 _=>?_))))));have hfr:=hfr.ext hx4;refine Z4 rfl (Wc (vs:=[.pointer (some ⟨bk,0,none⟩),v4]) en74 (.cons rfl (.cons rfl .nil)) (wk74 (hT3.ext hx4) (hw3.ext hx4) r4 hs0) fun q5 w5 h5=>?_);obtain ⟨g5,hx5,hw5⟩:=h5;have hfr:=hfr.stp hx5;have hT5:=(hT3.ext hx4).stp hx5;have q5:=(q3.ext hx4).stp hx5;refine Z3 ?_;clear hT0 hT1 hT2 hT3 hx1 hx2 hx3 hx4 hx5 q1 q2 q3 rm r4 hc hck hw3;refine Kw (fun e ds w'=>ds=[]∧e 1=p1∧e 5=.pointer (some ⟨bk,0,none⟩)∧∃ g',Fr gI wI g' w'∧Ch g5.m w5 g'.m w'∧WR 1 g' w' 5 181 s1 (.pointer (some ⟨bk,0,none⟩))) (fun Q' hQ=>?_) (fun e ds w6 hR=>?_)
 ·clear h
  refine Z5 (Zx (Z8 p1 0) (Zc Vn rfl (PT.ptr q5)) rfl (Z4 rfl (Z6 (g:=g5) isAgg52 sizeOf52 rfl (Zm W3.1 q5) fun tv rt=>(Zx (Iz (x0.Ties.length:Int)) (Gz (v:=tv) underlying52 rfl rt) rfl (Zn (Iz 0) rfl rfl (Z3 (Zr ?_)))))));unfold wTies at hs1;refine Sj hs1 (fun (z:(List UInt8 × Int) × Int) e ds w'=>ds=[]∧e 1=p1∧e 5=.pointer (some ⟨bk,0,none⟩)∧e 27=tv∧e 28=Iz (x0.Ties.length:Int)∧e 29=Iz z.2∧∃ g',Fr gI wI g' w'∧Ch g5.m w5 g'.m w'∧WR 1 g' w' 5 181 z.1 (.pointer (some ⟨bk,0,none⟩))) ⟨rfl,rfl,rfl,rfl,rfl,rfl,g5,hfr,Ch.refl _ _,hw5⟩ (fun X rec hrec=>?_);rintro ⟨s,n⟩ e ds w1 ⟨rfl,e1,e5,e27,e28,e29,g,hfr,hch,hw⟩ hk;refine Z5 (Z9 (.bool (decide (n < (x0.Ties.length:Int)))) e29 e28 rfl rfl (Z3 ?_));rcases Zt hk with ⟨hc,hk⟩ | ⟨hc,hk⟩
  ·refine Zf (G6 hc rfl (Zu (Zd ?_)))
   obtain ⟨a,ha,hk⟩:=Z1 hk;obtain ⟨ws,hws,hk⟩:=Z1 hk;obtain ⟨y,hy,hk⟩:=Z1 hk;refine Kw (fun e ds w'=>ds=[]∧e 1=p1∧e 5=.pointer (some ⟨bk,0,none⟩)∧e 27=tv∧e 28=Iz (x0.Ties.length:Int)∧e 29=Iz n∧∃ g',Fr gI wI g' w'∧Ch g5.m w5 g'.m w'∧WR 1 g' w' 5 181 y (.pointer (some ⟨bk,0,none⟩))) (fun Q2 hQ2=>?_) (fun e ds w2 hR=>?_)
   ·refine Zr (Z5 ?_)
    have rt1:=rt.ch hch;refine Zx (Tb tv n 3) (Zh (α:=Gw) underlying52 sizeOf99 e27 rt1 e29 ha) rfl (Z4 rfl (Z6 (g:=g) isAgg99 sizeOf99 rfl (Gx rt1 ha) fun va ra=>(Z4 rfl (Df (g:=g) 2 (⟨⟨[]⟩,⟨0,[]⟩⟩:Gw) zeroValue99 (fun m w=>⟨_,Gb B1 (Gb Zw G9),rfl⟩) fun g2 w2 pt hs2 b2=>(Z4 rfl (Y0 (g:=g2) (v:=va) sizeOf99 rfl b2 rfl (ra.stp hs2) fun g3 w3 hs3 b3=>?_))))));obtain ⟨g4,hs4,q4⟩:=b3.pub;have hfr:=((hfr.stp hs2).stp hs3).stp hs4;have hch:=hch.trans (hs2.ch.trans (hs3.ch.trans hs4.ch));have hw:=((hw.stp hs2 rfl).stp hs3 rfl).stp hs4 rfl;clear b2 b3 hs2 hs3 hs4 ra rt1;refine Z3 (Z5 ?_);have qh:=Zm Jy.1 q4;refine Zx (AnyV.str ⟨[116,105,101]⟩:He).v (Hq underlying9 rfl) rfl (Zx (Z8 pt 0) (Zc Aq rfl (PT.ptr q4)) rfl (Z4 rfl (Z6 (g:=g4) isAgg9 sizeOf9 rfl (Zm Uz.1 q4) fun v5 r5=>?_)));obtain rfl:=Kv.1 r5;refine Zx (AnyV.str a.Name:He).v (Hq underlying9 rfl) rfl (Zx (Z8 pt 1) (Zc B8 rfl (PT.ptr q4)) rfl (Zx (Z8 (Z8 pt 1) 0) (Zc Vk rfl (PT.ptr qh)) rfl (Z4 rfl (Z6 (g:=g4) isAgg3 sizeOf3 rfl (Zm Wf.1 qh) fun v6 r6=>?_))));obtain rfl:=Zj.1 r6;refine Zx (AnyV.int a.Harness.Hooks:He).v (Yx underlying3 rfl) rfl (Z4 rfl (Z7 (g:=g4) 3 (xs:=([.str ⟨[116,105,101]⟩,.str a.Name,.int a.Harness.Hooks]:List He)) (vs:=[_,_,_]) underlying183 sizeOf20 zeroValue20 rfl rfl (.cons rfl (.cons rfl (.cons rfl .nil))) (RVs.cons (Hl.2 rfl) (RVs.cons (Hl.2 rfl) (RVs.cons (Hl.2 rfl) RVs.nil))) rfl rfl fun g7 w7 v7 _ o7 r7 hx7 _=>?_));have hfr:=hfr.ext hx7;have hch:=hch.trans hx7.ch;have hw:=hw.ext hx7;have qh:=qh.ext hx7;refine Zg v7 rfl rfl (Z3 ?_);have hpt:=PT.ptr q4;clear hx7 q4;refine Kw (fun e ds w'=>ds=[]∧e 1=p1∧e 5=.pointer (some ⟨bk,0,none⟩)∧e 27=tv∧e 28=Iz (x0.Ties.length:Int)∧e 29=Iz n∧∃ g' v8,e 8=v8∧Fr gI wI g' w'∧Ch g5.m w5 g'.m w'∧WR 1 g' w' 5 181 s (.pointer (some ⟨bk,0,none⟩))∧RV g'.m w' ws v8) (fun Q3 hQ3=>?_) (fun e ds w8 hR=>?_)
    ·refine Z5 (Zx (Z8 pt 1) (Zc B8 rfl hpt) rfl (Zx (Z8 (Z8 pt 1) 1) (Zc Hr rfl (PT.ptr qh)) rfl (Z4 rfl (Z6 (g := g7) isAgg25 sizeOf25 rfl (Zm Qc.1 qh) fun hv rh => (Zx (Iz (a.Harness.Warps.length : Int)) (Gz (v := hv) underlying25 rfl rh) rfl (Zn (Iz 0) rfl rfl (Z3 (Zr ?_))))))))
     unfold tieWs at hws;refine Sj hws (fun (z:List He × Int) e ds w'=>ds=[]∧e 1=p1∧e 5=.pointer (some ⟨bk,0,none⟩)∧e 27=tv∧e 28=Iz (x0.Ties.length:Int)∧e 29=Iz n∧e 44=hv∧e 45=Iz (a.Harness.Warps.length:Int)∧e 46=Iz z.2∧∃ g' v8,e 8=v8∧Fr gI wI g' w'∧Ch g5.m w5 g'.m w'∧Ch g7.m w7 g'.m w'∧WR 1 g' w' 5 181 s (.pointer (some ⟨bk,0,none⟩))∧RV g'.m w' z.1 v8∧OS 3 g' w' 20 z.1 v8) ⟨rfl,e1,e5,e27,e28,e29,rfl,rfl,rfl,g7,v7,rfl,hfr,hch,Ch.refl _ _,hw,r7,o7⟩ (fun X rec hrec=>?_);rintro ⟨zs,j⟩ e ds w1 ⟨rfl,e1,e5,e27,e28,e29,e44,e45,e46,g,v8,e8,hfr,hch,hch7,hw,rz,oz⟩ hk;refine Z5 (Z9 (.bool (decide (j < (a.Harness.Warps.length:Int)))) e46 e45 rfl rfl (Z3 ?_));rcases Zt hk with ⟨hc,hk⟩ | ⟨hc,hk⟩
     ·refine Zf (G6 hc rfl (Zu (Zd ?_)))
      obtain ⟨b,hb,hk⟩:=Z1 hk;obtain ⟨yy,hyy,hk⟩:=Z1 hk;have rh1:=rh.ch hch7;refine Zf (Zr (Z5 (Zx (Tb hv j 1) (Zh (α:=Int) underlying25 sizeOf3 e44 rh1 e46 hb) rfl (Z4 rfl (Z6 (g:=g) isAgg3 sizeOf3 rfl (Gx rh1 hb) fun vb rb=>?_)))));obtain rfl:=Zj.1 rb;refine Zg (Iz b) rfl rfl (Z3 (Za (Zo e8 rfl (Zn (Iz b) rfl rfl (Zx (AnyV.int b:He).v (Yx underlying3 rfl) rfl (Z4 rfl (Z7 (g:=g) 4 (xs:=([.int b]:List He)) (vs:=[_]) underlying183 sizeOf20 zeroValue20 rfl rfl (.cons rfl .nil) (RVs.cons (Hl.2 rfl) RVs.nil) rfl rfl fun g2 w2 v2 _ _ r2 hx2 _=>(Z4 rfl (T5 (g:=g2) (i:=3) underlying183 N3 rfl rfl (oz.ext hx2) (rz.ext hx2) rfl r2 hyy fun g3 w3 v3 hs3 o3 r3 _=>(Zg v3 rfl rfl (Zb (Tj (Zd (Za (Z9 (Iz (w64 (j + (1:Int)))) e46 rfl rfl rfl (Zn (Iz (w64 (j + (1:Int)))) rfl rfl ?_))))))))))))))));exact Z3 (hrec (yy,w64 (j + 1)) _ _ _ ⟨rfl,e1,e5,e27,e28,e29,e44,e45,rfl,g3,v3,rfl,(hfr.ext hx2).stp hs3,hch.trans (hx2.ch.trans hs3.ch),hch7.trans (hx2.ch.trans hs3.ch),(hw.ext hx2).stp hs3 rfl,r3,o3⟩ hk)
     ·refine Zf (G7 hc rfl (Tn (Gu (Gu (G8 ?_)))))
      obtain rfl:=sinj hk;exact hQ3 _ _ _ ⟨rfl,e1,e5,e27,e28,e29,g,v8,e8,hfr,hch,hw,rz⟩
    ·obtain ⟨rfl, e1, e5, e27, e28, e29, g, v8, e8, hfr, hch, hw, rz⟩ := hR
     refine Za (Zo e5 rfl (Zo e8 rfl (Z4 rfl (Wc (vs:=[.pointer (some ⟨bk,0,none⟩),v8]) en74 (.cons rfl (.cons rfl .nil)) (wk74 (hT5.ch hch) hw rz hy) fun q9 w9 h9=>?_))));obtain ⟨g9,hs9,hw9⟩:=h9;exact Zb (Tj (hQ2 _ _ _ ⟨rfl,e1,e5,e27,e28,e29,g9,hfr.stp hs9,hch.trans hs9.ch,hw9⟩))
   ·obtain ⟨rfl, e1, e5, e27, e28, e29, g, hfr, hch, hw⟩ := hR
    refine Za (Z9 (Iz (w64 (n + (1:Int)))) e29 rfl rfl rfl (Zn (Iz (w64 (n + (1:Int)))) rfl rfl ?_));exact Z3 (hrec (y,w64 (n + 1)) _ _ _ ⟨rfl,e1,e5,e27,e28,rfl,g,hfr,hch,hw⟩ hk)
  ·refine Zf (G7 hc rfl (Tn (Gu (Gu (G8 ?_)))))
   obtain rfl:=sinj hk;exact hQ _ _ _ ⟨rfl,e1,e5,g,hfr,hch,hw⟩
 obtain ⟨rfl,e1,e5,g6,hfr6,hch6,hw6⟩:=hR;have q6:=q5.ch hch6;have hT6:=hT5.ch hch6;clear hfr hs1 hw5 q5 hT5 hch6 hs0;refine Kw (fun e ds w'=>ds=[]∧e 5=.pointer (some ⟨bk,0,none⟩)∧∃ g',Fr gI wI g' w'∧Ch g6.m w6 g'.m w'∧WR 1 g' w' 5 181 s2 (.pointer (some ⟨bk,0,none⟩))) (fun Q' hQ=>?_) (fun e ds w' hR=>?_)
 ·clear h
  refine Z5 (Zx (Z8 p1 1) (Zc Vm e1 (PT.ptr q6)) rfl (Z4 rfl (Z6 (g:=g6) isAgg53 sizeOf53 rfl (Zm W4.1 q6) fun tv rt=>(Zx (Iz (x0.Chains.length:Int)) (Gz (v:=tv) underlying53 rfl rt) rfl (Zn (Iz 0) rfl rfl (Z3 (Zr ?_)))))));unfold Ml at hs2;refine Sj hs2 (fun (z:(List UInt8 × Int) × Int) e ds w'=>ds=[]∧e 5=.pointer (some ⟨bk,0,none⟩)∧e 61=tv∧e 62=Iz (x0.Chains.length:Int)∧e 63=Iz z.2∧∃ g',Fr gI wI g' w'∧Ch g6.m w6 g'.m w'∧WR 1 g' w' 5 181 z.1 (.pointer (some ⟨bk,0,none⟩))) ⟨rfl,e5,rfl,rfl,rfl,g6,hfr6,Ch.refl _ _,hw6⟩ (fun X rec hrec=>?_);rintro ⟨s,n⟩ e ds w1 ⟨rfl,e5,e61,e62,e63,g,hfr,hch,hw⟩ hk;refine Z5 (Z9 (.bool (decide (n < (x0.Chains.length:Int)))) e63 e62 rfl rfl (Z3 ?_));rcases Zt hk with ⟨hc,hk⟩ | ⟨hc,hk⟩
  ·refine Zf (G6 hc rfl (Zu (Zd ?_)))
   obtain ⟨a,ha,hk⟩:=Z1 hk;obtain ⟨sa,hsa,hk⟩:=Z1 hk;obtain ⟨y,hy,hk⟩:=Z1 hk;refine Kw (fun e ds w'=>ds=[]∧e 5=.pointer (some ⟨bk,0,none⟩)∧e 61=tv∧e 62=Iz (x0.Chains.length:Int)∧e 63=Iz n∧∃ g',Fr gI wI g' w'∧Ch g6.m w6 g'.m w'∧WR 1 g' w' 5 181 y (.pointer (some ⟨bk,0,none⟩))) (fun Q2 hQ2=>?_) (fun e ds w2 hR=>?_)
   ·refine Zr (Z5 ?_)
    have rt1:=rt.ch hch;refine Zx (Tb tv n 3) (Zh (α:=Gj) underlying53 sizeOf101 e61 rt1 e63 ha) rfl (Z4 rfl (Z6 (g:=g) isAgg101 sizeOf101 rfl (Gx rt1 ha) fun va ra=>(Z4 rfl (Df (g:=g) 2 (⟨⟨[]⟩,⟨0,[]⟩⟩:Gj) zeroValue101 (fun m w=>⟨_,Gb B1 (Gb Zw G9),rfl⟩) fun g2 w2 pt hs2 b2=>(Z4 rfl (Y0 (g:=g2) (v:=va) sizeOf101 rfl b2 rfl (ra.stp hs2) fun g3 w3 hs3 b3=>?_))))));obtain ⟨g4,hs4,q4⟩:=b3.pub;have hfr:=((hfr.stp hs2).stp hs3).stp hs4;have hch:=hch.trans (hs2.ch.trans (hs3.ch.trans hs4.ch));have hw:=((hw.stp hs2 rfl).stp hs3 rfl).stp hs4 rfl;clear b2 b3 hs2 hs3 hs4 ra rt1;refine Z3 (Z5 ?_);have qh:=Zm H6.1 q4;refine Zo e5 rfl (Zx (AnyV.str ⟨[99,104,97,105,110]⟩:He).v (Hq underlying9 rfl) rfl (Zx (Z8 pt 0) (Zc Li rfl (PT.ptr q4)) rfl (Z4 rfl (Z6 (g:=g4) isAgg9 sizeOf9 rfl (Zm Yq.1 q4) fun v5 r5=>?_))));obtain rfl:=Kv.1 r5;refine Zx (AnyV.str a.Name:He).v (Hq underlying9 rfl) rfl (Zx (Z8 pt 1) (Zc Vc rfl (PT.ptr q4)) rfl (Zx (Z8 (Z8 pt 1) 0) (Zc Xt rfl (PT.ptr qh)) rfl (Z4 rfl (Z6 (g:=g4) isAgg3 sizeOf3 rfl (Zm Kf.1 qh) fun v6 r6=>?_))));obtain rfl:=Zj.1 r6;refine Zx (AnyV.int a.Chain.Hooks:He).v (Yx underlying3 rfl) rfl (Z4 rfl (Z7 (g:=g4) 3 (xs:=([.str ⟨[99,104,97,105,110]⟩,.str a.Name,.int a.Chain.Hooks]:List He)) (vs:=[_,_,_]) underlying183 sizeOf20 zeroValue20 rfl rfl (.cons rfl (.cons rfl (.cons rfl .nil))) (RVs.cons (Hl.2 rfl) (RVs.cons (Hl.2 rfl) (RVs.cons (Hl.2 rfl) RVs.nil))) rfl rfl fun g7 w7 v7 _ o7 r7 hx7 _=>?_));have hfr:=hfr.ext hx7;have hch:=hch.trans hx7.ch;have hw:=hw.ext hx7;refine Z4 rfl (Wc (vs:=[.pointer (some ⟨bk,0,none⟩),v7]) en74 (.cons rfl (.cons rfl .nil)) (wk74 (hT6.ch hch) hw r7 hsa) fun q8 w8 h8=>?_);obtain ⟨g8,hs8,hw8⟩:=h8;have hfr:=hfr.stp hs8;have hch:=hch.trans hs8.ch;have hpt:=PT.ptr q4;have qh:=(qh.ext hx7).stp hs8;clear hx7 q4 r7 o7 hw;refine Z3 (Z5 (Zx (Z8 pt 1) (Zc Vc rfl hpt) rfl (Zx (Z8 (Z8 pt 1) 1) (Zc Js rfl (PT.ptr qh)) rfl (Z4 rfl (Z6 (g:=g8) isAgg92 sizeOf92 rfl (Zm Qq.1 qh) fun hv rh=>(Zx (Iz (a.Chain.Cards.length:Int)) (Gz (v:=hv) underlying92 rfl rh) rfl (Zn (Iz 0) rfl rfl (Z3 (Zr ?_)))))))));unfold I8 at hy;refine Sj hy (fun (z:(List UInt8 × Int) × Int) e ds w'=>ds=[]∧e 5=.pointer (some ⟨bk,0,none⟩)∧e 12=pt∧e 61=tv∧e 62=Iz (x0.Chains.length:Int)∧e 63=Iz n∧e 80=hv∧e 81=Iz (a.Chain.Cards.length:Int)∧e 82=Iz z.2∧∃ g',Fr gI wI g' w'∧Ch g6.m w6 g'.m w'∧Ch g8.m w8 g'.m w'∧WR 1 g' w' 5 181 z.1 (.pointer (some ⟨bk,0,none⟩))) ⟨rfl,e5,rfl,e61,e62,e63,rfl,rfl,rfl,g8,hfr,hch,Ch.refl _ _,hw8⟩ (fun X rec hrec=>?_);rintro ⟨sz,j⟩ e ds w1 ⟨rfl,e5,e12,e61,e62,e63,e80,e81,e82,g,hfr,hch,hch8,hw⟩ hk;refine Z5 (Z9 (.bool (decide (j < (a.Chain.Cards.length:Int)))) e82 e81 rfl rfl (Z3 ?_));rcases Zt hk with ⟨hc,hk⟩ | ⟨hc,hk⟩
    ·refine Zf (G6 hc rfl (Zu (Zd ?_)))
     obtain ⟨b,hb,hk⟩:=Z1 hk;obtain ⟨yy,hyy,hk⟩:=Z1 hk;have rh1:=rh.ch hch8;refine Zf (Zr (Z5 (Zx (Tb hv j 3) (Zh (α:=Gc) underlying92 sizeOf96 e80 rh1 e82 hb) rfl (Z4 rfl (Z6 (g:=g) isAgg96 sizeOf96 rfl (Gx rh1 hb) fun vb rb=>(Z4 rfl (Df (g:=g) 2 (⟨0,0,false⟩:Gc) zeroValue96 (fun m w=>⟨_,Gb Zw (Gb Zw Da),rfl⟩) fun g2 w2 pc hs2 b2=>(Z4 rfl (Y0 (g:=g2) (v:=vb) sizeOf96 rfl b2 rfl (rb.stp hs2) fun g3 w3 hs3 b3=>?_)))))))));obtain ⟨g4,hs4,q4⟩:=b3.pub;have hfr:=((hfr.stp hs2).stp hs3).stp hs4;have hch4:=hs2.ch.trans (hs3.ch.trans hs4.ch);have hw:=((hw.stp hs2 rfl).stp hs3 rfl).stp hs4 rfl;refine Z3 (Za (Zo e5 rfl (Z4 rfl (Z6 (g:=g4) isAgg96 sizeOf96 rfl q4 fun vc rc=>(Zx (Z8 pt 1) (Zc Vc e12 hpt) rfl ?_)))));have qh4:=(qh.ch hch8).ch hch4;refine Zx (Z8 (Z8 pt 1) 0) (Zc Xt rfl (PT.ptr qh4)) rfl (Z4 rfl (Z6 (g:=g4) isAgg3 sizeOf3 rfl (Zm Kf.1 qh4) fun v6 r6=>?_));obtain rfl:=Zj.1 r6;refine Z4 rfl (Wc (vs:=[.pointer (some ⟨bk,0,none⟩),vc,Iz a.Chain.Hooks]) en75 (.cons rfl (.cons rfl (.cons rfl .nil))) (wk75 (hT6.ch (hch.trans hch4)) hw rc hyy) fun q9 w9 h9=>?_);obtain ⟨g9,hs9,hw9⟩:=h9;refine Zb (Tj (Zd (Za (Z9 (Iz (w64 (j + (1:Int)))) e82 rfl rfl rfl (Zn (Iz (w64 (j + (1:Int)))) rfl rfl ?_)))));exact Z3 (hrec (yy,w64 (j + 1)) _ _ _ ⟨rfl,e5,e12,e61,e62,e63,e80,e81,rfl,g9,hfr.stp hs9,hch.trans (hch4.trans hs9.ch),hch8.trans (hch4.trans hs9.ch),hw9⟩ hk)
    ·refine Zf (G7 hc rfl (Tn (Gu (Gu (G8 ?_)))))
     obtain rfl:=sinj hk;exact Tj (hQ2 _ _ _ ⟨rfl,e5,e61,e62,e63,g,hfr,hch,hw⟩)
   ·obtain ⟨rfl, e5, e61, e62, e63, g, hfr, hch, hw⟩ := hR
    refine Za (Z9 (Iz (w64 (n + (1:Int)))) e63 rfl rfl rfl (Zn (Iz (w64 (n + (1:Int)))) rfl rfl ?_));exact Z3 (hrec (y,w64 (n + 1)) _ _ _ ⟨rfl,e5,e61,e62,rfl,g,hfr,hch,hw⟩ hk)
  ·refine Zf (G7 hc rfl (Tn (Gu (Gu (G8 ?_)))))
   obtain rfl:=sinj hk;exact hQ _ _ _ ⟨rfl,e5,g,hfr,hch,hw⟩
 clear e1 e5;obtain ⟨rfl,e5,g7,hfr7,hch7,hw7⟩:=hR;have hT7:=hT6.ch hch7;clear hfr6 hch7 hT6 q6 hw6 hs2;rcases Zt h with ⟨hc,h⟩ | ⟨hc,h⟩
 ·cases h
 obtain ⟨sm,hsm,h⟩:=Z1 h;obtain ⟨s3,hs3,h⟩:=Z1 h;rcases Zt h with ⟨hc3,h⟩ | ⟨hc3,h⟩
 ·cases h
 obtain rfl:=sinj h;refine Zf ?_;obtain ⟨b,av,vv,hp,hb7,hz7,hne7,ha7⟩:=hw7;injection hp with hp; injection hp with hp; injection hp with hp _;subst hp;have hw7:WR 1 g7 w' 5 181 s2 (.pointer (some ⟨bk,0,none⟩)):=⟨_,av,vv,rfl,hb7,hz7,hne7,ha7⟩;have hlt7:=hb7.lt;have hbx:HBm 7 { m:=g7.m,o:=fun b=>if b=bk then 7 else g7.o b } w' bk (.cells #[av,vv,Iz s2.2] 181 (0,0)):=⟨by simp,hb7.2.1,hb7.2.2⟩;have hl:=Mb isAgg3 hbx (o:=2) (c:=Iz s2.2) rfl;refine Y6 (g:={ m:=g7.m,o:=fun b=>if b=bk then 7 else g7.o b }) (n:=14) [0,1,2,3,4,5,6,7,8,9,12] [7] [0,1,2,3,4,5,6,7,8,9,10,11,12,13] rfl Jm (by kernel_rfl) fun wc hx hlt=>?_;have hxc:Ext g7 w' g7 wc:=⟨hx.below,fun _ _=>rfl,fun _ _=>rfl⟩;have hwc:=hw7.ext hxc;have hTc:=hT7.ext hxc;refine T7 (c:=.pointer (some ⟨bk,0,none⟩)) rfl rfl .plain (Zk e5) (T7 (c:=(AnyV.str ⟨[101,110,100]⟩:He).v) rfl rfl .plain (Hq underlying9 rfl) (T7 (c:=.pointer (some ⟨bk,0,none⟩)) rfl rfl .plain (Zk e5) (T7 (c:=.pointer (some ⟨bk,0,none⟩)) rfl rfl .plain (Tx rfl) (T7 (c:=.pointer (some ⟨bk,2,none⟩)) rfl rfl .plain (show Pur _ _ _ (Z8 (.pointer (some ⟨bk,0,none⟩)) 2) from Zc N9 rfl ⟨bk,0,rfl⟩) (C8 (n:=7) (c:=Iz s2.2) rfl rfl .plain (hl _) rfl rfl (T7 (c:=(AnyV.int s2.2:He).v) rfl rfl .plain (Yx underlying3 rfl) (T7 (c:=.pointer (some ⟨bk,0,none⟩)) rfl rfl .plain (Zk e5) (T7 (c:=.pointer (some ⟨bk,0,none⟩)) rfl rfl .plain (Tx rfl) (T7 (c:=.pointer (some ⟨bk,0,none⟩)) rfl rfl .plain (show Pur _ _ _ (Z8 (.pointer (some ⟨bk,0,none⟩)) 0) from Zc Cd rfl ⟨bk,0,rfl⟩) (Uk rfl rfl .plain (Wc (vs:=[.pointer (some ⟨bk,0,none⟩)]) en77 (.cons rfl .nil) (wst hwc (nemp hc)) fun q8 w8 h8=>?_)))))))))));obtain ⟨rfl,hbk8,g8,hs8,hw8⟩:=h8;have hbk8:=hbk8 bk rfl;have hst8:Stp 1 g7 w' g8 w8:=hxc.stp.trans hs8;have hhb8:w8.heap[bk]?=w'.heap[bk]?:=hbk8.trans (hxc.below.block bk hlt7);refine ⟨(Ai hb7.1 hst8 hhb8).toW,?_⟩;refine Uk rfl rfl .plain (Zp (g:=g8) (vs:=[Str.v ⟨s2.1⟩]) en76 (.cons rfl .nil) (wk76 hsm) fun g9 w9 v9 hx9 hv9=>?_);subst hv9;have hlt8:bk < w8.heap.size:=Gn (hhb8.trans hb7.2.2);have hhb9:w9.heap[bk]?=w'.heap[bk]?:=(hx9.below.block bk hlt8).trans hhb8;refine ⟨(Ai hb7.1 (hst8.trans hx9.stp) hhb9).toW,?_⟩;refine T7 (c:=(AnyV.int sm:He).v) rfl rfl .plain (Yx underlying3 rfl) (Uk rfl rfl .plain (Z7 (g:=g9) 3 (xs:=([.str ⟨[101,110,100]⟩,.int s2.2,.int sm]:List He)) (vs:=[_,_,_]) underlying183 sizeOf20 zeroValue20 rfl rfl (.cons rfl (.cons rfl (.cons rfl .nil))) (RVs.cons (Hl.2 rfl) (RVs.cons (Hl.2 rfl) (RVs.cons (Hl.2 rfl) RVs.nil))) rfl rfl fun g10 w10 v10 _ o10 r10 hx10 _=>?_));have hlt9:bk < w9.heap.size:=Gn (hhb9.trans hb7.2.2);refine ⟨(Ai hb7.1 ((hst8.trans hx9.stp).trans hx10.stp) ((hx10.below.block bk hlt9).trans hhb9)).toW,?_⟩;refine V6 ?_;have hw10:=(hw8.ext hx9).ext hx10;have hT10:=hT7.ch (hst8.ch.trans (hx9.ch.trans hx10.ch));have hfr10:=((hfr7.stp hst8).ext hx9).ext hx10;refine Z4 rfl (Wc (vs:=[.pointer (some ⟨bk,0,none⟩),v10]) en74 (.cons rfl (.cons rfl .nil)) (wk74 hT10 hw10 r10 hs3) fun q11 w11 h11=>?_);obtain ⟨g11,hs11,hw11⟩:=h11;refine Z3 (Z5 (Zo e5 rfl (Zx (.pointer (some ⟨bk,0,none⟩)) (Tx rfl) rfl (Zx (.pointer (some ⟨bk,0,none⟩)) (show Pur _ _ _ (Z8 (.pointer (some ⟨bk,0,none⟩)) 0) from Zc Cd rfl ⟨bk,0,rfl⟩) rfl (Z4 rfl (Wc (vs:=[.pointer (some ⟨bk,0,none⟩)]) en77 (.cons rfl .nil) (wst hw11 (nemp hc3)) fun q12 w12 h12=>?_))))));obtain ⟨rfl,_,g12,hs12,hw12⟩:=h12;refine Zg (Str.v ⟨s3.1⟩) rfl rfl (Zg (Iz 0) rfl rfl (Z3 (Ga ?_)));exact Jq rfl rfl rfl rfl ⟨_,(hfr10.stp hs11).stp hs12,_,_,rfl,rfl,rfl⟩

theorem L5 {m : Nat → Nat} {w : World} : ∀ {rows : List Fv} {cs : List Value}, Tt m w rows cs → cs = rows.map (·.v)
 | [],_,h=>h
 | _ :: _,_,⟨_,_,rfl,h1,h2⟩=>by
  have h1:_=[_]:=h1
  rw [h1,L5 h2]; rfl
theorem RO.ofOA {i:Nat} {g:Gh} {w:World} {t:TypeId} {rows:List Fv} {v:Value} (h:OA i g w t rows v):RO i g w t rows v:=by
 rcases h with h | ⟨b,c,cs,hv,ho,hm,hh,h1,h2,h3,hf⟩
 ·exact .inl h
 ·refine .inr ⟨b, c, cs, hv, ho, hm, hh, h1, h2, by simpa [GoT.k] using h3, fun n r hn => ?_⟩
  have hk:GoT.k Fv=1:=rfl;have he:=L5 hf;have hl:n < rows.length:=(List.getElem?_eq_some_iff.1 hn).1
  have h5:(cs.toList.take (rows.length * GoT.k Fv))[n]?=some r.v:=by rw [he]; simp [hn]
  rw [List.getElem?_take,hk,if_pos (by omega)] at h5;simpa using h5
theorem I0 {α:Type} [GoT α] {t:TypeId} {j:Nat} {g:Gh} {w:World} (n:Nat):Uq (RS (α:=α) t) j g w (List.replicate n (⟨.slice none 0 0,rfl⟩:Fv)) (List.replicate n []) none:=by
 refine ⟨by simp,fun k r x _ h1 h2=>?_,fun k k' r r' _ _ _ h1 h2=>?_⟩
 ·obtain ⟨_, rfl⟩ := List.getElem?_eq_some_iff.1 h1
  obtain ⟨_,rfl⟩:=List.getElem?_eq_some_iff.1 h2;simp only [List.getElem_replicate];exact ⟨OS.nil,T0⟩
 ·obtain ⟨_, rfl⟩ := List.getElem?_eq_some_iff.1 h1
  simp only [List.getElem_replicate];intro b n c b' n' c' h
  cases h
theorem Ou:(prog.info? 90).map (fun i=>(i.zero,i.size,i.bytes))=some (some (.agg #[.int .i64 0,.int .i64 0]),2,16):=by kernel_rfl
theorem Oa:(prog.info? 66).map (fun i=>(i.zero,i.size,i.bytes))=some (some (.slice none 0 0),1,24):=by kernel_rfl
def f10 (m:Tq) (l:List (List UInt8)):Option ((List (List Str)) × Int × Int):=
  (f23 m).bind fun ck=>bif ck != (0:Int) then some ([],0,ck) else
  (f19 l).bind fun jn=>bif jn.2.2 != (0:Int) then some ([],jn.2.1,jn.2.2) else
  lp (σ:=(List T4 × List (List Str)) × Int) (fun k z=>bif decide (z.2 < (jn.1.length:Int)) then (idx jn.1 z.2).bind fun c=>
    bif (bif decide (c.Chain ≥ (m.Chains.length:Int)) then true else decide (c.Tie ≥ (m.Ties.length:Int))) then some ([],z.2,7) else
    (idx z.1.1 c.Loom).bind fun cy=>(f24 cy m c).bind fun wv=>
    bif wv.2.1 != (0:Int) then some ([],z.2,wv.2.1) else
    (idx z.1.2 c.Loom).bind fun rw=>(apnd 16 rw wv.1).bind fun y=>k ((z.1.1.set c.Loom.toNat wv.2.2,z.1.2.set c.Loom.toNat y),w64 (z.2 + (1:Int)))
   else some (z.1.2,0,0)) big ((List.replicate 16 ⟨0,0⟩,List.replicate 16 []),0)
theorem en10:Enters prog 10:=enters_of func10 (by kernel_rfl) rfl
theorem wk10 {gI : Gh} {wI : World} {x0 : Tq} {x1 : List (List UInt8)} {up0 up1 : Value} (rp0 : RV gI.m wI x0 up0) (rp1 : RV gI.m wI x1 up1) {r : (List (List Str)) × Int × Int} (h : f10 x0 x1 = some r) :
  Fn prog 10 #[up0,up1] gI wI (fun m w v=>∃ y0 y1 y2,v=.tuple #[y0,y1,y2]∧RV m w r.1 y0∧y1=Iz r.2.1∧y2=Iz r.2.2):=by
 unfold f10 at h
 obtain ⟨ck,hck,h⟩:=Z1 h
 refine fnE func10 rfl rfl fun g0 hm hfr=>?_
 have rp0:=RVc hm rp0
 have rp1:=RVc hm rp1
 show E _ 82 none _ _ _ _ _
 refine Z5 (Z4 rfl (Tv (g:=g0) rfl rp0 fun g1 w1 p2 hx1 q2=>?_))
 have hfr:=hfr.ext hx1
 have rp1:=rp1.ext hx1
 refine Zg (.slice none 0 0) rfl rfl (Zg (Iz 0) rfl rfl (Zg (Iz 0) rfl rfl (Z3 (Zf (Z5 (Z4 rfl (Z6 (g:=g1) isAgg55 sizeOf55 rfl q2 fun vm rm=>(Z4 rfl (Zp (g:=g1) (vs:=[vm]) en23 (.cons rfl .nil) (wk23 rm hck) fun g2 w2 v2 hx2 hv2=>?_)))))))))
 subst hv2
 have hfr:=hfr.ext hx2
 have rp1:=rp1.ext hx2
 have q2:=q2.ext hx2
 refine Zg (Iz ck) rfl rfl (Z3 (Z5 (Zn (Iz ck) rfl rfl (Z9 (.bool (ck != (0:Int))) rfl rfl rfl rfl (Z3 ?_)))))
 rcases Zt h with ⟨hc,h⟩ | ⟨hc,h⟩
 ·refine G6 hc rfl (Z5 (Zn (Iz ck) rfl rfl (Zg (.slice none 0 0) rfl rfl (Zg (Iz 0) rfl rfl (Zg (Iz ck) rfl rfl (Z3 (Ga (Gp ?_))))))))
  obtain rfl:=sinj h
  exact Ya rfl rfl rfl rfl rfl ⟨_,hfr,_,_,_,rfl,T0,rfl,rfl⟩
 refine G7 hc rfl (Zu (Zd ?_))
 obtain ⟨jn,hjn,h⟩:=Z1 h
 refine Z5 (Zn up1 rfl rfl (Z4 rfl (Zp (g:=g2) (vs:=[up1]) en19 (.cons rfl .nil) (wk19 rp1 hjn) fun g3 w3 v3 hx3 hv=>?_)))
 obtain ⟨lv,y1,y2,rfl,rl,rfl,rfl⟩:=hv
 have hfr:=hfr.ext hx3
 have q2:=q2.ext hx3
 refine Zn (.tuple #[lv,Iz jn.2.1,Iz jn.2.2]) rfl rfl (Zx lv (Zi rfl rfl) rfl (Zx (Iz jn.2.1) (Zi rfl rfl) rfl (Zx (Iz jn.2.2) (Zi rfl rfl) rfl (Zg lv rfl rfl (Zg (Iz jn.2.1) rfl rfl (Zg (Iz jn.2.2) rfl rfl (Z3 (Zf (Z5 (Zn (Iz jn.2.2) rfl rfl (Z9 (.bool (jn.2.2 != (0:Int))) rfl rfl rfl rfl (Z3 ?_))))))))))))
 rcases Zt h with ⟨hc2,h⟩ | ⟨hc2,h⟩
 ·refine G6 hc2 rfl (Z5 (Zn (Iz jn.2.1) rfl rfl (Zn (Iz jn.2.2) rfl rfl (Zg (.slice none 0 0) rfl rfl (Zg (Iz jn.2.1) rfl rfl (Zg (Iz jn.2.2) rfl rfl (Z3 (Ga ?_))))))))
  obtain rfl:=sinj h
  exact Ya rfl rfl rfl rfl rfl ⟨_,hfr,_,_,_,rfl,T0,rfl,rfl⟩
 refine G7 hc2 rfl (Zu (Zd (Z5 (Z4 rfl (Xz (g:=g3) 3 (⟨0,0⟩:T4) (n:=16) (r:=List.replicate 16 ⟨0,0⟩) underlying87 Ou rfl (fun m w=>⟨_,Gb Zw Zw,rfl⟩) rfl rfl rfl fun g4 w4 v9 hs4 o9=>(Zg v9 rfl rfl (Z3 (Z5 ?_))))))))
 have m9:=o9.toM
 obtain ⟨ah,chh,hh9,_⟩:=m9.hdr
 refine Zn v9 rfl rfl (Zx (Iz 16) (show Pur _ _ _ (Iz ((16:Nat):Int)) from Ol underlying87 rfl ⟨ah,chh,hh9⟩) rfl (Z4 rfl (Xz (g:=g4) 4 (⟨.slice none 0 0,rfl⟩:Fv) (n:=16) (r:=List.replicate 16 ⟨.slice none 0 0,rfl⟩) underlying49 Oa rfl (fun m w=>⟨_,rfl,rfl⟩) rfl rfl rfl fun g5 w5 v4 hs5 o4=>(Zg v4 rfl rfl ?_))))
 have ns0:NS (RS (α:=Str) 9) 4 5 g5 w5 66 (List.replicate 16 []) v4:=⟨_,RO.ofOA o4,I0 16⟩
 have hfr:=(hfr.stp hs4).stp hs5
 have q2:=(q2.stp hs4).stp hs5
 have rl:=(rl.stp hs4).stp hs5
 have m9:=m9.stp hs5 rfl
 clear hx1 hx2 hx3 hs4 hs5 o9 o4 rm rp1 hh9 hck hjn hc hc2
 refine Z3 (Zf (Z5 (Zn lv rfl rfl (Zx (Iz (jn.1.length:Int)) (Gz (v:=lv) underlying33 rfl rl) rfl (Zn (Iz 0) rfl rfl (Z3 (Zr (Sj h (fun (z:(List T4 × List (List Str)) × Int) e ds w'=>ds=[]∧e 2=p2∧e 4=v4∧e 9=v9∧e 33=lv∧e 34=Iz (jn.1.length:Int)∧e 35=Iz z.2∧∃ g',Fr gI wI g' w'∧Ch g5.m w5 g'.m w'∧OM 3 g' w' 90 z.1.1 v9∧NS (RS (α:=Str) 9) 4 5 g' w' 66 z.1.2 v4) ⟨rfl,rfl,rfl,rfl,rfl,rfl,rfl,g5,hfr,Ch.refl _ _,m9,ns0⟩ (fun X rec hrec=>?_)))))))))
 clear m9 ns0 hfr
 rintro ⟨⟨lo,ri⟩,n⟩ e ds w ⟨rfl,e2,e4,e9,e33,e34,e35,g,hfr,hch,ml,nr⟩ hk
 refine Z5 (Z9 (.bool (decide (n < (jn.1.length:Int)))) e35 e34 rfl rfl (Z3 ?_))
 rcases Zt hk with ⟨hc,hk⟩ | ⟨hc,hk⟩
 ·refine Zf (G6 hc rfl (Zu (Zd ?_)))
  obtain ⟨c,hcl,hk⟩:=Z1 hk
  have rl1:=rl.ch hch
  have q1:=q2.ch hch
  refine Zf (Zr (Z5 (Zo e35 rfl (Zx (Tb lv n 5) (Zh (α:=Z2) underlying33 sizeOf60 e33 rl1 e35 hcl) rfl (Z4 rfl (Z6 (g:=g) isAgg60 sizeOf60 rfl (Gx rl1 hcl) fun vc rc=>(Z4 rfl (Df (g:=g) 2 (⟨0,0,0,0,0⟩:Z2) zeroValue60 (fun m w=>⟨_,Gb Zw (Gb Zw (Gb Zw (Gb Zw Zw))),rfl⟩) fun g2 w2 pc hs2 b2=>(Zg (Iz n) rfl rfl (Z4 rfl (Y0 (g:=g2) (v:=vc) sizeOf60 rfl b2 rfl (rc.stp hs2) fun g3 w3 hs3 b3=>?_)))))))))))
  obtain ⟨g4,hs4,qc⟩:=b3.pub
  have hfr:=((hfr.stp hs2).stp hs3).stp hs4
  have hch:=hch.trans (hs2.ch.trans (hs3.ch.trans hs4.ch))
  have ml:=((ml.stp hs2 rfl).stp hs3 rfl).stp hs4 rfl
  have nr:=((nr.stp (Rx 9) hs2 rfl rfl).stp (Rx 9) hs3 rfl rfl).stp (Rx 9) hs4 rfl rfl
  have q1:=((q1.stp hs2).stp hs3).stp hs4
  clear b2 b3 hs2 hs3 hs4 rl1 rc
  refine Z3 (Zf (Z5 (Zx (Z8 pc 2) (Zc Vx rfl (PT.ptr qc)) rfl (Z4 rfl (Z6 (g:=g4) isAgg3 sizeOf3 rfl (Zm Wt.1 qc) fun v r=>?_)))))
  obtain rfl:=Zj.1 r
  refine Zx (Z8 p2 1) (Zc Vm e2 (PT.ptr q1)) rfl (Z4 rfl (Z6 (g:=g4) isAgg53 sizeOf53 rfl (Zm W4.1 q1) fun vch rch=>(Zx (Iz (x0.Chains.length:Int)) (Gz (v:=vch) underlying53 rfl rch) rfl (Z9 (.bool (decide (c.Chain ≥ (x0.Chains.length:Int)))) rfl rfl rfl rfl (Zn (.bool (decide (c.Chain ≥ (x0.Chains.length:Int)))) rfl rfl ?_)))))
  rcases Bool.eq_false_or_eq_true (decide (c.Chain ≥ (x0.Chains.length:Int))) with hq | hq
  ·simp only [hq, cond_true] at hk
   iterate 6 refine Zz rfl rfl hq rfl rfl ?_
   refine Zx (.bool true) (Zl (b:=decide (c.Chain ≥ (x0.Chains.length:Int))) rfl (G4 hq rfl)) rfl (Z3 ?_)
   obtain rfl:=sinj hk
   refine G6 rfl rfl (Z5 (Zn (Iz n) rfl rfl (Zg (.slice none 0 0) rfl rfl (Zg (Iz n) rfl rfl (Zg (Iz 7) rfl rfl (Z3 (Ga (Gp (Tl (Gp (Gp (Tl (Gp ?_)))))))))))))
   exact Ya rfl rfl rfl rfl rfl ⟨_,hfr,_,_,_,rfl,T0,rfl,rfl⟩
  simp only [hq,cond_false] at hk
  refine Zy (Z8 pc 3) (Zc B0 rfl (PT.ptr qc)) rfl rfl hq rfl (Ze (.yes2 rfl rfl hq) rfl (Z6 (g:=g4) isAgg3 sizeOf3 rfl (Zm K4.1 qc) fun v r=>?_))
  obtain rfl:=Zj.1 r
  refine Zy (Z8 p2 0) (Zc Vn e2 (PT.ptr q1)) rfl rfl hq rfl (Ze (.yes2 rfl rfl hq) rfl (Z6 (g:=g4) isAgg52 sizeOf52 rfl (Zm W3.1 q1) fun vti rti=>(Zy (Iz (x0.Ties.length:Int)) (Gz (v:=vti) underlying52 rfl rti) rfl rfl hq rfl (Zy (.bool (decide (c.Tie ≥ (x0.Ties.length:Int)))) (Gk rfl rfl rfl) rfl rfl hq rfl (Zx (.bool (decide (c.Tie ≥ (x0.Ties.length:Int)))) (Zl (b:=decide (c.Chain ≥ (x0.Chains.length:Int))) rfl (G5 hq rfl)) rfl (Z3 ?_))))))
  rcases Zt hk with ⟨hq2,hk⟩ | ⟨hq2,hk⟩
  ·obtain rfl := sinj hk
   refine G6 hq2 rfl (Z5 (Zn (Iz n) rfl rfl (Zg (.slice none 0 0) rfl rfl (Zg (Iz n) rfl rfl (Zg (Iz 7) rfl rfl (Z3 (Ga (Gp (Tl (Gp (Gp (Tl (Gp ?_)))))))))))))
   exact Ya rfl rfl rfl rfl rfl ⟨_,hfr,_,_,_,rfl,T0,rfl,rfl⟩
  refine G7 hq2 rfl (Zu (Zd ?_))
  obtain ⟨cy,hcy,hk⟩:=Z1 hk
  obtain ⟨wv,hwv,hk⟩:=Z1 hk
  clear rch rti
  refine Zf (Zs (x:=.tmp 57) isAgg3 sizeOf3 (Zm Qg.1 qc) fun v r hl1=>?_)
  obtain rfl:=Zj.1 r
  refine Zs (x:=.tmp 2) isAgg55 sizeOf55 q1 fun vm rm hl2=>(Zs (x:=.tmp 11) isAgg60 sizeOf60 qc fun vc rc hl3=>(Y6 (g:=g4) (n:=12) [0,1,2,3,4,5,7,8,9,10,11] [] [0,1,2,3,4,5,6,7,8,9,10,11] rfl Jm (by kernel_rfl) fun wc hx hlt=>(T7 (c:=v9) rfl rfl .plain (Zk e9) (T7 (c:=Z8 pc 1) rfl rfl .plain (Zc Hw rfl (PT.ptr qc)) (Xd (c:=Iz c.Loom) rfl rfl .plain hl1 rfl (T7 (c:=Tb v9 c.Loom 2) rfl rfl .plain (T2 (α:=T4) underlying87 sizeOf90 rfl ml rfl hcy) (Xd (c:=vm) rfl rfl .plain hl2 e2 (Xd (c:=vc) rfl rfl .plain hl3 rfl (Uk rfl rfl .plain (Jv (g:=g4) (i:=3) (vs:=[Tb v9 c.Loom 2,vm,vc]) en24 (.cons rfl (.cons rfl (.cons rfl .nil))) (wk24 (ml.ext hx) hcy (rm.ext hx) (rc.ext hx) hwv) fun g5 w5 v5 hs5 hv5=>?_))))))))))
  obtain ⟨y0,_,rfl,ry,rfl,ml5⟩:=hv5
  refine ⟨((hlt.stp hs5 rfl)).toW,?_⟩
  refine T7 (c:=.tuple #[y0,Iz wv.2.1]) rfl rfl .plain (Zk rfl) (T7 (c:=y0) rfl rfl .plain (Zi rfl rfl) (T7 (c:=Iz wv.2.1) rfl rfl .plain (Zi rfl rfl) (T7 (c:=y0) rfl rfl .plain (Te rfl) (T7 (c:=Iz wv.2.1) rfl rfl .plain (Te rfl) (V6 (Z3 ?_))))))
  replace hfr:=(hfr.ext hx).stp hs5
  replace hch:=(hch.trans hx.ch).trans hs5.ch
  replace nr:=(nr.ext (Rx 9) hx).stp (Rx 9) hs5 rfl rfl
  replace qc:=(qc.ext hx).stp hs5
  clear hx hs5 hlt rm rc hl1 hl2 hl3 ml q1
  refine Zf (Z5 (Zn (Iz wv.2.1) rfl rfl (Z9 (.bool (wv.2.1 != (0:Int))) rfl rfl rfl rfl (Z3 ?_))))
  rcases Zt hk with ⟨hq3,hk⟩ | ⟨hq3,hk⟩
  ·obtain rfl := sinj hk
   refine G6 hq3 rfl (Z5 (Zn (Iz n) rfl rfl (Zn (Iz wv.2.1) rfl rfl (Zg (.slice none 0 0) rfl rfl (Zg (Iz n) rfl rfl (Zg (Iz wv.2.1) rfl rfl (Z3 (Ga (Gp (Tl (Gp (Gp (Tl (Gp ?_))))))))))))))
   exact Ya rfl rfl rfl rfl rfl ⟨_,hfr,_,_,_,rfl,T0,rfl,rfl⟩
  refine G7 hq3 rfl (Zu (Zd ?_))
  obtain ⟨rw0,hrw,hk⟩:=Z1 hk
  obtain ⟨y,hy,hk⟩:=Z1 hk
  obtain ⟨rows,hro,hpo⟩:=nr
  obtain ⟨r0,hr0,hr1,hr2⟩:=hpo.idx hrw
  obtain ⟨g6,hg6,hs6,hrs,hpo6⟩:=hpo.take (Rx 9) hr1 hr2 6
  replace hro:=hro.stp hs6 rfl
  replace hfr:=hfr.stp hs6
  replace hch:=hch.trans hs6.ch
  replace ml5:=ml5.stp hs6 rfl
  replace qc:=qc.stp hs6
  replace ry:=ry.stp hs6
  refine Zs (x:=.tmp 70) isAgg3 sizeOf3 (Zm Qg.1 qc) fun v r hl1=>?_
  obtain rfl:=Zj.1 r
  refine Zs (x:=.tmp 73) isAgg3 sizeOf3 (Zm Qg.1 qc) fun v r hl2=>?_
  obtain rfl:=Zj.1 r
  refine Ju (x:=.tmp 75) isAgg66 sizeOf66 hro.toM hr0 fun u hu hl3=>?_
  obtain rfl:u=r0.v:=Rn.1 hu
  refine Y6 (g:=g6) (n:=10) [0,1,2,3,4,5,6,7,8] [4] [0,1,2,3,4,5,6,7,8,9] rfl Jm (by kernel_rfl) fun wd hx hlt=>(T7 (c:=v4) rfl rfl .plain (Zk e4) (T7 (c:=Z8 pc 1) rfl rfl .plain (Zc Hw rfl (PT.ptr qc)) (Xd (c:=Iz c.Loom) rfl rfl .plain hl1 rfl (T7 (c:=v4) rfl rfl .plain (Zk e4) (T7 (c:=Z8 pc 1) rfl rfl .plain (Zc Hw rfl (PT.ptr qc)) (Xd (c:=Iz c.Loom) rfl rfl .plain hl2 rfl (T7 (c:=Tb v4 c.Loom 1) rfl rfl .plain (T2 (α:=Fv) underlying49 sizeOf66 rfl hro.toM rfl hr0) (C8 (n:=4) (c:=r0.v) rfl rfl .plain hl3 rfl rfl (T7 (c:=y0) rfl rfl .plain (Zk rfl) (Uk rfl rfl .plain (T5 (g:=g6) (i:=6) underlying66 Rm rfl rfl (hrs.1.ext hx) (hrs.2.ext hx) rfl (ry.ext hx) hy fun g7 w7 v7 hs7 o7 r7 _=>(⟨(hlt.stp hs7 rfl).toW,?_⟩))))))))))))
  refine V6 ?_
  have hro7:=(hro.ext hx).stp hs7 rfl
  refine Zx (Tb v4 c.Loom 1) (T2 (α:=Fv) underlying49 sizeOf66 rfl hro7.toM rfl hr0) rfl (Z4 rfl (M6 (⟨v7,by obtain ⟨_,_,rfl,_⟩:=Ql r7; rfl⟩:Fv) sizeOf66 rfl hro7 hr0 rfl fun w8 hs8 hro8=>?_))
  obtain ⟨g9,hg9,hs9,hpo9⟩:=(((hpo6.ext (Rx 9) hx).stp (Rx 9) hs7 rfl).stp (Rx 9) hs8 rfl).put (Rx 9) (⟨v7,by obtain ⟨_,_,rfl,_⟩:=Ql r7; rfl⟩:Fv) (x:=y) (j':=6) ⟨o7.stp hs8 rfl,r7.stp hs8⟩ rfl
  refine Zb (Tj (Zd (Za (Z9 (Iz (w64 (n + (1:Int)))) e35 rfl rfl rfl (Zn (Iz (w64 (n + (1:Int)))) rfl rfl ?_)))))
  exact Z3 (hrec ((lo.set c.Loom.toNat wv.2.2,ri.set c.Loom.toNat y),w64 (n + 1)) _ _ _ ⟨rfl,e2,e4,e9,e33,e34,rfl,g9,(((hfr.ext hx).stp hs7).stp hs8).stp hs9,hch.trans (hx.ch.trans (hs7.ch.trans (hs8.ch.trans hs9.ch))),(((ml5.ext hx).stp hs7 rfl).stp hs8 rfl).stp hs9 rfl,⟨_,hro8.stp hs9 rfl,hpo9⟩⟩ hk)
 ·refine Zf (G7 hc rfl (Tn (Gu (Gu (G8 (Zd ?_))))))
  obtain rfl:=sinj hk
  obtain ⟨g6,hs6,rr⟩:=nr.pub (fun h=>h.2)
  refine Z5 (Zo e4 rfl (Zg v4 rfl rfl (Zg (Iz 0) rfl rfl (Zg (Iz 0) rfl rfl (Z3 (Ga ?_))))))
  exact Ya rfl rfl rfl rfl rfl ⟨_,hfr.stp hs6,_,_,_,rfl,rr,rfl,rfl⟩

def f16 :Option (Bool):=
 (f36 ((⟨([(⟨(⟨[112,108,97,105,110]⟩:Str),(⟨(2:Int),([(0:Int),(1:Int),(0:Int)]:List Int)⟩:TieHarness)⟩:Gw)]:List Gw),([(⟨(⟨[116,119,105,108,108]⟩:Str),(⟨(2:Int),([(⟨0,(1:Int),false⟩:Gc),(⟨(-1:Int),(1:Int),true⟩:Gc)]:List Gc)⟩:ChainBelt)⟩:Gj)]:List Gj)⟩:Tq))).bind fun o0=>
 (f18 (([(⟨(258:Int),(3:Int),0,0,(5:Int)⟩:Z2)]:List Z2))).bind fun l5=>
 (f37 (([(1:UInt8),(2:UInt8),(3:UInt8),(0:UInt8),(0:UInt8),(6:UInt8),(11:UInt8),(44:UInt8)]:List UInt8))).bind fun y23=>
 Option.bind (α:=Bool) (
  bif (o0.2 == (0 : Int)) then
   bif (l5.2.2 == (0 : Int)) then
    bif (y23.2 == (0 : Int)) then
     bif ((o0.1).b == ((⟨[109, 105, 108, 108, 10, 116, 105, 101, 32, 112, 108, 97, 105, 110, 32, 50, 32, 48, 32, 49, 32, 48, 10, 99, 104, 97, 105, 110, 32, 116, 119, 105, 108, 108, 32, 50, 10, 99, 97, 114, 100, 32, 48, 32, 120, 46, 10, 116, 117, 114, 110, 101, 100, 32, 63, 32, 120, 46, 10, 101, 110, 100, 32, 53, 32, 52, 53, 49, 51, 10]⟩ : Str)).b) then
      bif (((⟨l5.1⟩ : Str)).b == ((⟨([(1 : UInt8), (2 : UInt8), (3 : UInt8), (0 : UInt8), (0 : UInt8), (5 : UInt8), (11 : UInt8), (44 : UInt8)] : List UInt8)⟩ : Str)).b) then
       bif (((y23.1).length : Int) == (1 : Int)) then
        (idx (y23.1) (0:Int)).bind fun oB=>
        some (((oB).Day == (258:Int)))
       else
        some (false)
      else
       some (false)
     else
      some (false)
    else
     some (false)
   else
    some (false)
  else
   some (false)
  ) fun mB=>
 some (mB)
theorem en16:Enters prog 16:=enters_of func16 (by kernel_rfl) rfl
theorem wk16 {gI:Gh} {wI:World} (hTI:Vj 0 gI.m wI)   {r:Bool} (h:f16 =some r):Fn prog 16 #[] gI wI (fun _ _ v=>v=.bool (r)):=by
 unfold f16 at h;refine fnE func16 rfl rfl fun g0 hm hfr=>?_;show E _ 70 none _ _ _ _ _;refine Z5 (Zg (.bool false) rfl rfl (Z3 (Z5 (Z4 rfl (Z7 (g:=g0) 3009 (xs:=([(0:Int),(1:Int),(0:Int)]:List Int)) (vs:=[Iz (0),Iz (1),Iz (0)]) underlying25 sizeOf3 zeroValue3 rfl rfl (.cons rfl (.cons rfl (.cons rfl .nil))) (RVs.cons (Zj.2 rfl) (RVs.cons (Zj.2 rfl) (RVs.cons (Zj.2 rfl) RVs.nil))) rfl rfl fun g1 w1 v1 hs o1 r1 hxt hfl=>?_)))));have hfr:=hfr.stp hs;have r2:RV g1.m _ (⟨(2:Int),([(0:Int),(1:Int),(0:Int)]:List Int)⟩:TieHarness) (.agg (Td [[Iz 0],[.slice none 0 0]] [(0,Iz (2)),(1,v1)]).flatten.toArray):=Tc rfl (Gm (rfl) (Tf (RV.cells r1)));generalize hv2:(Value.agg (Td [[Iz 0],[.slice none 0 0]] [(0,Iz (2)),(1,v1)]).flatten.toArray)=v2 at r2;refine Zx v2 (hv2 ▸ Tu (vs:=[(0,Iz (2)),(1,v1)]) [[Iz 0],[.slice none 0 0]] Aj rfl rfl (.cons rfl (.cons rfl .nil)) ⟨⟨_,rfl,rfl⟩,⟨⟨_,rfl,Ti r1⟩,trivial⟩⟩) rfl ?_;have r3:RV g1.m _ (⟨(⟨[112,108,97,105,110]⟩:Str),(⟨(2:Int),([(0:Int),(1:Int),(0:Int)]:List Int)⟩:TieHarness)⟩:Gw) (.agg (Td [[Str.v ⟨[]⟩],[Iz 0,.slice none 0 0]] [(0,Str.v (⟨[112,108,97,105,110]⟩:Str)),(1,v2)]).flatten.toArray):=Tc rfl (Gm (rfl) (Tf (RV.cells r2)));generalize hv3:(Value.agg (Td [[Str.v ⟨[]⟩],[Iz 0,.slice none 0 0]] [(0,Str.v (⟨[112,108,97,105,110]⟩:Str)),(1,v2)]).flatten.toArray)=v3 at r3;refine Zx v3 (hv3 ▸ Tu (vs:=[(0,Str.v (⟨[112,108,97,105,110]⟩:Str)),(1,v2)]) [[Str.v ⟨[]⟩],[Iz 0,.slice none 0 0]] Oi rfl rfl (.cons rfl (.cons rfl .nil)) ⟨⟨_,rfl,rfl⟩,⟨⟨_,rfl,Ti r2⟩,trivial⟩⟩) rfl (Z4 rfl (Z7 (g:=g1) 3012 (xs:=([(⟨(⟨[112,108,97,105,110]⟩:Str),(⟨(2:Int),([(0:Int),(1:Int),(0:Int)]:List Int)⟩:TieHarness)⟩:Gw)]:List Gw)) (vs:=[v3]) underlying52 sizeOf99 zeroValue99 rfl rfl (.cons rfl .nil) (RVs.cons r3 RVs.nil) rfl rfl fun g4 w4 v4 hs o4 r4 hxt hfl=>?_));have hfr:=hfr.stp hs;have r5:RV g4.m w4 (⟨0,(1:Int),false⟩:Gc) (.agg (Td [[Iz 0],[Iz 0],[.bool false]] [(1,Iz (1))]).flatten.toArray):=Tc rfl (Gm (Zw) (Gm (rfl) (Tf (Da))));generalize yE:(Value.agg (Td [[Iz 0],[Iz 0],[.bool false]] [(1,Iz (1))]).flatten.toArray)=v5 at r5;refine Zx v5 (yE ▸ Tu (vs:=[(1,Iz (1))]) [[Iz 0],[Iz 0],[.bool false]] P9 rfl rfl (.cons rfl .nil) ⟨⟨_,rfl,rfl⟩,trivial⟩) rfl ?_;have r6:RV g4.m w4 (⟨(-1:Int),(1:Int),true⟩:Gc) (.agg (Td [[Iz 0],[Iz 0],[.bool false]] [(0,Iz (-1)),(1,Iz (1)),(2,.bool true)]).flatten.toArray):=Tc rfl (Gm (rfl) (Gm (rfl) (Tf (rfl))));generalize zE:(Value.agg (Td [[Iz 0],[Iz 0],[.bool false]] [(0,Iz (-1)),(1,Iz (1)),(2,.bool true)]).flatten.toArray)=v6 at r6;refine Zx v6 (zE ▸ Tu (vs:=[(0,Iz (-1)),(1,Iz (1)),(2,.bool true)]) [[Iz 0],[Iz 0],[.bool false]] P9 rfl rfl (.cons rfl (.cons rfl (.cons rfl .nil))) ⟨⟨_,rfl,rfl⟩,⟨⟨_,rfl,rfl⟩,⟨⟨_,rfl,rfl⟩,trivial⟩⟩⟩) rfl (Z4 rfl (Z7 (g:=g4) 3015 (xs:=([(⟨0,(1:Int),false⟩:Gc),(⟨(-1:Int),(1:Int),true⟩:Gc)]:List Gc)) (vs:=[v5,v6]) underlying92 sizeOf96 zeroValue96 rfl rfl (.cons rfl (.cons rfl .nil)) (RVs.cons r5 (RVs.cons r6 RVs.nil)) rfl rfl fun g7 w7 v7 hs o7 r7 hxt hfl=>?_));have hfr:=hfr.stp hs;have r4:=r4.stp hs;have o4:=o4.stp hs rfl;have r8:RV g7.m _ (⟨(2:Int),([(⟨0,(1:Int),false⟩:Gc),(⟨(-1:Int),(1:Int),true⟩:Gc)]:List Gc)⟩:ChainBelt) (.agg (Td [[Iz 0],[.slice none 0 0]] [(0,Iz (2)),(1,v7)]).flatten.toArray):=Tc rfl (Gm (rfl) (Tf (RV.cells r7)));generalize cF:(Value.agg (Td [[Iz 0],[.slice none 0 0]] [(0,Iz (2)),(1,v7)]).flatten.toArray)=v8 at r8;refine Zx v8 (cF ▸ Tu (vs:=[(0,Iz (2)),(1,v7)]) [[Iz 0],[.slice none 0 0]] Od rfl rfl (.cons rfl (.cons rfl .nil)) ⟨⟨_,rfl,rfl⟩,⟨⟨_,rfl,Ti r7⟩,trivial⟩⟩) rfl ?_;have r9:RV g7.m _ (⟨(⟨[116,119,105,108,108]⟩:Str),(⟨(2:Int),([(⟨0,(1:Int),false⟩:Gc),(⟨(-1:Int),(1:Int),true⟩:Gc)]:List Gc)⟩:ChainBelt)⟩:Gj) (.agg (Td [[Str.v ⟨[]⟩],[Iz 0,.slice none 0 0]] [(0,Str.v (⟨[116,119,105,108,108]⟩:Str)),(1,v8)]).flatten.toArray):=Tc rfl (Gm (rfl) (Tf (RV.cells r8)));generalize dF:(Value.agg (Td [[Str.v ⟨[]⟩],[Iz 0,.slice none 0 0]] [(0,Str.v (⟨[116,119,105,108,108]⟩:Str)),(1,v8)]).flatten.toArray)=v9 at r9
 refine Zx v9 (dF ▸ Tu (vs:=[(0,Str.v (⟨[116,119,105,108,108]⟩:Str)),(1,v8)]) [[Str.v ⟨[]⟩],[Iz 0,.slice none 0 0]] Ay rfl rfl (.cons rfl (.cons rfl .nil)) ⟨⟨_,rfl,rfl⟩,⟨⟨_,rfl,Ti r8⟩,trivial⟩⟩) rfl (Z4 rfl (Z7 (g:=g7) 3018 (xs:=([(⟨(⟨[116,119,105,108,108]⟩:Str),(⟨(2:Int),([(⟨0,(1:Int),false⟩:Gc),(⟨(-1:Int),(1:Int),true⟩:Gc)]:List Gc)⟩:ChainBelt)⟩:Gj)]:List Gj)) (vs:=[v9]) underlying53 sizeOf101 zeroValue101 rfl rfl (.cons rfl .nil) (RVs.cons r9 RVs.nil) rfl rfl fun yD kH uC hs o10 zD hxt hfl=>?_));have hfr:=hfr.stp hs;have r4:=r4.stp hs;have o4:=o4.stp hs rfl;have yB:RV yD.m _ (⟨([(⟨(⟨[112,108,97,105,110]⟩:Str),(⟨(2:Int),([(0:Int),(1:Int),(0:Int)]:List Int)⟩:TieHarness)⟩:Gw)]:List Gw),([(⟨(⟨[116,119,105,108,108]⟩:Str),(⟨(2:Int),([(⟨0,(1:Int),false⟩:Gc),(⟨(-1:Int),(1:Int),true⟩:Gc)]:List Gc)⟩:ChainBelt)⟩:Gj)]:List Gj)⟩:Tq) (.agg (Td [[.slice none 0 0],[.slice none 0 0]] [(0,v4),(1,uC)]).flatten.toArray):=Tc rfl (Gm (RV.cells r4) (Tf (RV.cells zD)));generalize vC:(Value.agg (Td [[.slice none 0 0],[.slice none 0 0]] [(0,v4),(1,uC)]).flatten.toArray)=aE at yB;refine Zx aE (vC ▸ Tu (vs:=[(0,v4),(1,uC)]) [[.slice none 0 0],[.slice none 0 0]] Nr rfl rfl (.cons rfl (.cons rfl .nil)) ⟨⟨_,rfl,Ti r4⟩,⟨⟨_,rfl,Ti zD⟩,trivial⟩⟩) rfl (Z4 rfl (G2 (g:=yD) 2001 (⟨[],[]⟩:Tq) zeroValue55 (fun m w=>⟨_,(Gb G9 G9),rfl⟩) fun bD bE cD hs b12 cb=>?_));have hfr:=hfr.stp hs;have r4:=r4.stp hs;have o4:=o4.stp hs rfl;have yB:=yB.stp hs;have kG:OSF 2001 60100 0 bD bE 99 55 ([]:List Gw) cD:=cb.osf (by rfl);have lG:OSF 2001 60101 1 bD bE 101 55 ([]:List Gj) cD:=cb.osf (by rfl);clear cb;refine Z4 rfl (Gg (g:=bD) (v:=aE) sizeOf55 rfl b12 rfl yB fun lD eF hs b13 cb=>?_);obtain ⟨rF,sF,cC,_,_⟩:=Ql r4;have mG:OSF 2001 3012 0 lD eF 99 55 (([(⟨(⟨[112,108,97,105,110]⟩:Str),(⟨(2:Int),([(0:Int),(1:Int),(0:Int)]:List Int)⟩:TieHarness)⟩:Gw)]:List Gw):List Gw) cD:=cb.osfv (by rw [← vC,cC]; rfl) (o4.stp hs rfl);clear cb;have hfr:=hfr.stp hs;refine Z3 (Z5 (Z4 rfl (Tp (g:=lD) isAgg55 sizeOf55 rfl b13 fun tF uF=>?_)));obtain ⟨o0,rE,h⟩:=Z1 h;refine Z4 rfl (Zp (g:=lD) (vs:=[tF]) en36 (.cons rfl .nil) (wk36 (hTI.ch hfr.ch) uF rE) fun iE uE lH hs hr=>?_);have hfr:=hfr.ext hs;obtain ⟨sG,xG,rfl,rfl,rfl⟩:=hr;refine Zn (.tuple #[Str.v (o0.1),Iz (o0.2)]) rfl rfl (Zx (Str.v (o0.1)) (Zi rfl rfl) rfl (Zx (Iz (o0.2)) (Zi rfl rfl) rfl (Zg (Str.v (o0.1)) rfl rfl (Zg (Iz (o0.2)) rfl rfl (Z3 (Z5 ?_))))));have lE:RV iE.m uE (⟨(258:Int),(3:Int),0,0,(5:Int)⟩:Z2) (.agg (Td [[Iz 0],[Iz 0],[Iz 0],[Iz 0],[Iz 0]] [(0,Iz (258)),(1,Iz (3)),(4,Iz (5))]).flatten.toArray):=Tc rfl (Gm (rfl) (Gm (rfl) (Gm (Zw) (Gm (Zw) (Tf (rfl))))));generalize vE:(Value.agg (Td [[Iz 0],[Iz 0],[Iz 0],[Iz 0],[Iz 0]] [(0,Iz (258)),(1,Iz (3)),(4,Iz (5))]).flatten.toArray)=mE at lE;refine Zx mE (vE ▸ Tu (vs:=[(0,Iz (258)),(1,Iz (3)),(4,Iz (5))]) [[Iz 0],[Iz 0],[Iz 0],[Iz 0],[Iz 0]] Px rfl rfl (.cons rfl (.cons rfl (.cons rfl .nil))) ⟨⟨_,rfl,rfl⟩,⟨⟨_,rfl,rfl⟩,⟨⟨_,rfl,rfl⟩,trivial⟩⟩⟩) rfl (Z4 rfl (Z7 (g:=iE) 3027 (xs:=([(⟨(258:Int),(3:Int),0,0,(5:Int)⟩:Z2)]:List Z2)) (vs:=[mE]) underlying33 sizeOf60 zeroValue60 rfl rfl (.cons rfl .nil) (RVs.cons lE RVs.nil) rfl rfl fun vF mH xF hs o18 yF hxt hfl=>?_));have hfr:=hfr.stp hs;obtain ⟨l5,hy20,h⟩:=Z1 h;refine Z4 rfl (Zp (g:=vF) (vs:=[xF]) en18 (.cons rfl .nil) (wk18 yF hy20) fun aG cH nH hs hr=>?_);have hfr:=hfr.ext hs;obtain ⟨nB,yG,zG,rfl,aB,rfl,rfl⟩:=hr;refine Zn (.tuple #[nB,Iz (l5.2.1),Iz (l5.2.2)]) rfl rfl (Zx nB (Zi rfl rfl) rfl (Zx (Iz (l5.2.1)) (Zi rfl rfl) rfl (Zx (Iz (l5.2.2)) (Zi rfl rfl) rfl (Zg nB rfl rfl (Zg (Iz (l5.2.1)) rfl rfl (Zg (Iz (l5.2.2)) rfl rfl (Z3 (Z5 (Z4 rfl (Z7 (g:=aG) 3033 (xs:=([(1:UInt8),(2:UInt8),(3:UInt8),(0:UInt8),(0:UInt8),(6:UInt8),(11:UInt8),(44:UInt8)]:List UInt8)) (vs:=[.int .u8 (UInt8.toNat 1),.int .u8 (UInt8.toNat 2),.int .u8 (UInt8.toNat 3),.int .u8 (UInt8.toNat 0),.int .u8 (UInt8.toNat 0),.int .u8 (UInt8.toNat 6),.int .u8 (UInt8.toNat 11),.int .u8 (UInt8.toNat 44)]) underlying43 sizeOf5 zeroValue5 rfl rfl (.cons rfl (.cons rfl (.cons rfl (.cons rfl (.cons rfl (.cons rfl (.cons rfl (.cons rfl .nil)))))))) (RVs.cons (Qy.2 rfl) (RVs.cons (Qy.2 rfl) (RVs.cons (Qy.2 rfl) (RVs.cons (Qy.2 rfl) (RVs.cons (Qy.2 rfl) (RVs.cons (Qy.2 rfl) (RVs.cons (Qy.2 rfl) (RVs.cons (Qy.2 rfl) RVs.nil)))))))) rfl rfl fun bG oH cG hs o21 eG hxt hfl=>?_))))))))))
 have hfr:=hfr.stp hs;have aB:=aB.stp hs;obtain ⟨y23,xE,h⟩:=Z1 h;refine Z4 rfl (Zp (g:=bG) (vs:=[cG]) en37 (.cons rfl .nil) (wk37 eG xE) fun vB gH pH hs hr=>?_);have hfr:=hfr.ext hs;have aB:=aB.ext hs;obtain ⟨g8,aH,rfl,lB,rfl⟩:=hr;refine Zn (.tuple #[g8,Iz (y23.2)]) rfl rfl (Zx g8 (Zi rfl rfl) rfl (Zx (Iz (y23.2)) (Zi rfl rfl) rfl (Zg g8 rfl rfl (Zg (Iz (y23.2)) rfl rfl (Z3 ?_)))));obtain ⟨mB,hx,h⟩:=Z1 h;refine Gl (fun e w=>∃ (g:Gh) ,Fr gI wI g w∧e 0=.bool (mB)) (fun Q' hQ=>?_) (fun jH qH hR=>?_)
 ·replace h := hx
  clear hx;refine Za (Zn (Iz (o0.2)) rfl rfl (Z9 (.bool ((o0.2 == (0:Int)))) rfl rfl rfl rfl (Zn (.bool ((o0.2 == (0:Int)))) rfl rfl ?_)));rcases Zt h with ⟨n8,h⟩ | ⟨n8,h⟩
  ·refine Zy (Iz (l5.2.2)) (Zk rfl) rfl rfl n8 rfl (Zy (.bool ((l5.2.2 == (0 : Int)))) (Gk rfl rfl rfl) rfl rfl n8 rfl (Zx (.bool ((l5.2.2 == (0 : Int)))) (Zl (b := (o0.2 == (0 : Int))) rfl (G4 n8 rfl)) rfl (Zn (.bool ((l5.2.2 == (0 : Int)))) rfl rfl ?_)))
   rcases Zt h with ⟨l9,h⟩ | ⟨l9,h⟩
   ·refine Zy (Iz (y23.2)) (Zk rfl) rfl rfl l9 rfl (Zy (.bool ((y23.2 == (0 : Int)))) (Gk rfl rfl rfl) rfl rfl l9 rfl (Zx (.bool ((y23.2 == (0 : Int)))) (Zl (b := (l5.2.2 == (0 : Int))) rfl (G4 l9 rfl)) rfl (Zn (.bool ((y23.2 == (0 : Int)))) rfl rfl ?_)))
    rcases Zt h with ⟨n9,h⟩ | ⟨n9,h⟩
    ·refine Zy (Str.v (o0.1)) (Zk rfl) rfl rfl n9 rfl (Zy (.bool (((o0.1).b == ((⟨[109, 105, 108, 108, 10, 116, 105, 101, 32, 112, 108, 97, 105, 110, 32, 50, 32, 48, 32, 49, 32, 48, 10, 99, 104, 97, 105, 110, 32, 116, 119, 105, 108, 108, 32, 50, 10, 99, 97, 114, 100, 32, 48, 32, 120, 46, 10, 116, 117, 114, 110, 101, 100, 32, 63, 32, 120, 46, 10, 101, 110, 100, 32, 53, 32, 52, 53, 49, 51, 10]⟩ : Str)).b))) (R8 rfl rfl rfl) rfl rfl n9 rfl (Zx (.bool (((o0.1).b == ((⟨[109, 105, 108, 108, 10, 116, 105, 101, 32, 112, 108, 97, 105, 110, 32, 50, 32, 48, 32, 49, 32, 48, 10, 99, 104, 97, 105, 110, 32, 116, 119, 105, 108, 108, 32, 50, 10, 99, 97, 114, 100, 32, 48, 32, 120, 46, 10, 116, 117, 114, 110, 101, 100, 32, 63, 32, 120, 46, 10, 101, 110, 100, 32, 53, 32, 52, 53, 49, 51, 10]⟩ : Str)).b))) (Zl (b := (y23.2 == (0 : Int))) rfl (G4 n9 rfl)) rfl (Zn (.bool (((o0.1).b == ((⟨[109, 105, 108, 108, 10, 116, 105, 101, 32, 112, 108, 97, 105, 110, 32, 50, 32, 48, 32, 49, 32, 48, 10, 99, 104, 97, 105, 110, 32, 116, 119, 105, 108, 108, 32, 50, 10, 99, 97, 114, 100, 32, 48, 32, 120, 46, 10, 116, 117, 114, 110, 101, 100, 32, 63, 32, 120, 46, 10, 101, 110, 100, 32, 53, 32, 52, 53, 49, 51, 10]⟩ : Str)).b))) rfl rfl ?_)))
     rcases Zt h with ⟨t5,h⟩ | ⟨t5,h⟩
     ·refine Zy nB (Zk rfl) rfl rfl t5 rfl (Ze (.yes2 rfl rfl t5) rfl (R3 underlying43 underlying9 underlying5 rfl aB (Ze (.yes2 rfl rfl t5) rfl (Z7 (g := vB) 3054 (xs := ([(1 : UInt8), (2 : UInt8), (3 : UInt8), (0 : UInt8), (0 : UInt8), (5 : UInt8), (11 : UInt8), (44 : UInt8)] : List UInt8)) (vs := [.int .u8 (UInt8.toNat 1), .int .u8 (UInt8.toNat 2), .int .u8 (UInt8.toNat 3), .int .u8 (UInt8.toNat 0), .int .u8 (UInt8.toNat 0), .int .u8 (UInt8.toNat 5), .int .u8 (UInt8.toNat 11), .int .u8 (UInt8.toNat 44)]) underlying43 sizeOf5 zeroValue5 rfl rfl (.cons rfl (.cons rfl (.cons rfl (.cons rfl (.cons rfl (.cons rfl (.cons rfl (.cons rfl .nil)))))))) (RVs.cons (Qy.2 rfl) (RVs.cons (Qy.2 rfl) (RVs.cons (Qy.2 rfl) (RVs.cons (Qy.2 rfl) (RVs.cons (Qy.2 rfl) (RVs.cons (Qy.2 rfl) (RVs.cons (Qy.2 rfl) (RVs.cons (Qy.2 rfl) RVs.nil)))))))) rfl rfl fun zB sH tH hs o39 gG hxt hfl => ?_))))
      have hfr:=hfr.stp hs;have lB:=lB.stp hs;refine Ze (.yes2 rfl rfl t5) rfl (R3 underlying43 underlying9 underlying5 rfl gG (Zy (.bool ((((⟨l5.1⟩:Str)).b == ((⟨([(1:UInt8),(2:UInt8),(3:UInt8),(0:UInt8),(0:UInt8),(5:UInt8),(11:UInt8),(44:UInt8)]:List UInt8)⟩:Str)).b))) (R8 rfl rfl rfl) rfl rfl t5 rfl (Zx (.bool ((((⟨l5.1⟩:Str)).b == ((⟨([(1:UInt8),(2:UInt8),(3:UInt8),(0:UInt8),(0:UInt8),(5:UInt8),(11:UInt8),(44:UInt8)]:List UInt8)⟩:Str)).b))) (Zl (b:=((o0.1).b == ((⟨[109,105,108,108,10,116,105,101,32,112,108,97,105,110,32,50,32,48,32,49,32,48,10,99,104,97,105,110,32,116,119,105,108,108,32,50,10,99,97,114,100,32,48,32,120,46,10,116,117,114,110,101,100,32,63,32,120,46,10,101,110,100,32,53,32,52,53,49,51,10]⟩:Str)).b)) rfl (G4 t5 rfl)) rfl (Zx (.bool ((((⟨l5.1⟩:Str)).b == ((⟨([(1:UInt8),(2:UInt8),(3:UInt8),(0:UInt8),(0:UInt8),(5:UInt8),(11:UInt8),(44:UInt8)]:List UInt8)⟩:Str)).b))) (Zk rfl) rfl ?_))));rcases Zt h with ⟨l8,h⟩ | ⟨l8,h⟩
      ·refine Zy g8 (Zk rfl) rfl rfl l8 rfl (Zy (Iz ((y23.1).length : Int)) (Gz underlying33 rfl lB) rfl rfl l8 rfl (Zy (.bool ((((y23.1).length : Int) == (1 : Int)))) (Gk rfl rfl rfl) rfl rfl l8 rfl (Zx (.bool ((((y23.1).length : Int) == (1 : Int)))) (Zl (b := (((⟨l5.1⟩ : Str)).b == ((⟨([(1 : UInt8), (2 : UInt8), (3 : UInt8), (0 : UInt8), (0 : UInt8), (5 : UInt8), (11 : UInt8), (44 : UInt8)] : List UInt8)⟩ : Str)).b)) rfl (G4 l8 rfl)) rfl (Zn (.bool ((((y23.1).length : Int) == (1 : Int)))) rfl rfl ?_))))
       rcases Zt h with ⟨i6,h⟩ | ⟨i6,h⟩
       ·refine Zy g8 (Zk rfl) rfl rfl i6 rfl ?_
        obtain ⟨oB,nD,h⟩:=Z1 h;refine Zy (Tb g8 (0:Int) 5) (Zh (α:=Z2) underlying33 sizeOf60 rfl lB rfl nD) rfl rfl i6 rfl ?_;have oE:=Gx lB nD;refine Zy (Z8 (Tb g8 (0:Int) 5) 0) (Zc Yd rfl (PT.ptr oE)) rfl rfl i6 rfl ?_;have iG:=Zm (Qz).1 oE;refine Ze (.yes2 rfl rfl i6) rfl (Z6 (g:=zB) isAgg3 sizeOf3 rfl iG fun uH jG=>?_);obtain rfl:=Zj.1 jG;refine Zy (.bool (((oB).Day == (258:Int)))) (Gk rfl rfl rfl) rfl rfl i6 rfl (Zx (.bool (((oB).Day == (258:Int)))) (Zl (b:=(((y23.1).length:Int) == (1:Int))) rfl (G4 i6 rfl)) rfl (Zg (.bool (((oB).Day == (258:Int)))) rfl rfl (Zb ?_)));obtain rfl:=sinj h;exact hQ _ _ ⟨zB,hfr,rfl⟩
       ·refine Zz rfl rfl i6 rfl rfl ?_
        iterate 4 refine Zz rfl rfl i6 rfl rfl ?_
        refine Zx (.bool false) (Zl (b:=(((y23.1).length:Int) == (1:Int))) rfl (G5 i6 rfl)) rfl (Zg (.bool false) rfl rfl (Zb ?_));obtain rfl:=sinj h;exact hQ _ _ ⟨zB,hfr,rfl⟩
      ·refine Zz rfl rfl l8 rfl rfl (Zz rfl rfl l8 rfl rfl (Zz rfl rfl l8 rfl rfl (Zx (.bool false) (Zl (b := (((⟨l5.1⟩ : Str)).b == ((⟨([(1 : UInt8), (2 : UInt8), (3 : UInt8), (0 : UInt8), (0 : UInt8), (5 : UInt8), (11 : UInt8), (44 : UInt8)] : List UInt8)⟩ : Str)).b)) rfl (G5 l8 rfl)) rfl (Qv 7 rfl (Zg (.bool false) rfl rfl (Zb ?_))))))
       obtain rfl:=sinj h;exact hQ _ _ ⟨zB,hfr,rfl⟩
     ·refine Zz rfl rfl t5 rfl rfl ?_
      iterate 4 refine Zz rfl rfl t5 rfl rfl ?_
      refine Zx (.bool false) (Zl (b:=((o0.1).b == ((⟨[109,105,108,108,10,116,105,101,32,112,108,97,105,110,32,50,32,48,32,49,32,48,10,99,104,97,105,110,32,116,119,105,108,108,32,50,10,99,97,114,100,32,48,32,120,46,10,116,117,114,110,101,100,32,63,32,120,46,10,101,110,100,32,53,32,52,53,49,51,10]⟩:Str)).b)) rfl (G5 t5 rfl)) rfl (Qv 12 rfl (Zg (.bool false) rfl rfl (Zb ?_)));obtain rfl:=sinj h;exact hQ _ _ ⟨vB,hfr,rfl⟩
    ·refine Zz rfl rfl n9 rfl rfl (Zz rfl rfl n9 rfl rfl (Zx (.bool false) (Zl (b := (y23.2 == (0 : Int))) rfl (G5 n9 rfl)) rfl (Qv 19 rfl (Zg (.bool false) rfl rfl (Zb ?_)))))
     obtain rfl:=sinj h;exact hQ _ _ ⟨vB,hfr,rfl⟩
   ·refine Zz rfl rfl l9 rfl rfl (Zz rfl rfl l9 rfl rfl (Zx (.bool false) (Zl (b := (l5.2.2 == (0 : Int))) rfl (G5 l9 rfl)) rfl (Qv 23 rfl (Zg (.bool false) rfl rfl (Zb ?_)))))
    obtain rfl:=sinj h;exact hQ _ _ ⟨vB,hfr,rfl⟩
  ·refine Zz rfl rfl n8 rfl rfl (Zz rfl rfl n8 rfl rfl (Zx (.bool false) (Zl (b := (o0.2 == (0 : Int))) rfl (G5 n8 rfl)) rfl (Qv 27 rfl (Zg (.bool false) rfl rfl (Zb ?_)))))
   obtain rfl:=sinj h;exact hQ _ _ ⟨vB,hfr,rfl⟩
 ·clear hx
  obtain ⟨xH,hfr,oD⟩:=hR;refine Ga ?_;obtain rfl:=sinj h;exact Tg rfl rfl (show _=.bool (mB) from oD) ⟨_,hfr,rfl⟩
def f3 (x0:List UInt16) (x1:List (Vector UInt8 3)) (x2:Vector UInt8 4):Option (Bool):=
 (f4 ((3:UInt8)) x0).bind fun y3=>
 (f5 x1).bind fun y5=>
 (f6 x2).bind fun y8=>
 (idx (x2).toList (0:Int)).bind fun nO=>
 (idx (x2).toList (1:Int)).bind fun cN=>
 (f7 y5 ((((nO).toUInt16) + ((256:UInt16) * ((cN).toUInt16))))).bind fun zH=>
 jn (σ:=Unit) (fun _=>
  (idx (zH.1) (0:Int)).bind fun y40=>
  (apnd 1 (([]:List UInt8)) y40).bind fun y44=>
  (apnd 24 (zH.1) (([y44]:List (List UInt8)))).bind fun dW=>
  (f8 dW).bind fun cH=>
  (f9 (cH.1)).bind fun yB=>
  (f11 y3).bind fun y54=>
  (f10 y54 dW).bind fun y56=>
  jn (σ:=Unit) (fun _=>
   jn (σ:=(List Gf) × (Vector Int 3)) (fun (dN,vC)=>
    (f13 y8).bind fun eW=>
    (f12 eW dN).bind fun t5=>
    jn (σ:=Unit) (fun _=>
     jn (σ:=Int) (fun lD=>
      Option.bind (α:=Int) (
       lp (σ:=Int × Int) (fun bS (sF,nB)=>
        jn (σ:=Unit) (fun _=>
         Option.bind (α:=Int) (
          (idx y5 nB).bind fun dL=>
          some ((w64 (sF + (dL).Picks)))
          ) fun nH=>
         bS (nH,(w64 (nB + (1:Int))))
         ) fun cS=>
        bif (decide (nB < ((y5).length : Int))) then
         cS ()
        else
         some (sF)
        ) big ((0:Int),(0:Int))
       ) fun yE=>
      Option.bind (α:=Bool) (
       bif (lD == yE) then
        (f15).bind fun iI=>
        bif iI then
         (f16).bind fun eL=>
         some (eL)
        else
         some (false)
       else
        some (false)
       ) fun jI=>
      some (jI)
      ) fun dS=>
     lp (σ:=Int × Int) (fun eS (oB,o0)=>
      jn (σ:=Unit) (fun _=>
       jn (σ:=Int) (fun sI=>
        eS (sI,(w64 (o0 + (1:Int))))
        ) fun gS=>
       jn (σ:=Unit) (fun _=>
        (f13 y8).bind fun kI=>
        (idx (t5.1) o0).bind fun sJ=>
        (idx (vC).toList sJ).bind fun gH=>
        (f14 kI ((⟨0,(50:Int),(w64 ((1000:Int) * gH)),[],0⟩:Gf))).bind fun l8=>
        jn (σ:=Unit) (fun _=>
         (idx (t5.1) o0).bind fun bO=>
         (idx (y56.1) bO).bind fun lI=>
         gS ((w64 (oB + ((lI).length:Int))))
         ) fun iS=>
        Option.bind (α:=Bool) (
         bif (l8.2.2.2 != (0 : Int)) then
          some (true)
         else
          (idx (t5.2.1) o0).bind fun gL=>
          some ((l8.2.2.1 != gL))
         ) fun iG=>
        bif iG then
         some (false)
        else
         iS ()
        ) fun jS=>
       Option.bind (α:=Bool) (
        (idx (t5.1) o0).bind fun aE=>
        bif (decide (aE < (0 : Int))) then
         some (true)
        else
         (idx (t5.1) o0).bind fun xE=>
         bif (decide (xE > (2 : Int))) then
          some (true)
         else
          (idx (t5.1) o0).bind fun iL=>
          (idx (y56.1) iL).bind fun vJ=>
          (idx (t5.1) o0).bind fun xJ=>
          (idx (vC).toList xJ).bind fun zJ=>
          some ((((vJ).length:Int) != zJ))
        ) fun jG=>
       bif jG then
        some (false)
       else
        jS ()
       ) fun lS=>
      bif (decide (o0 < ((t5.1).length : Int))) then
       lS ()
      else
       dS (oB)
      ) big ((0:Int),(0:Int))
     ) fun gW=>
    Option.bind (α:=Bool) (
     bif (t5.2.2.2 != (0 : Int)) then
      some (true)
     else
      some ((((t5.1).length:Int) != ((t5.2.1).length:Int)))
     ) fun mG=>
    bif mG then
     some (false)
    else
     gW ()
    ) fun iW=>
   lp (σ:=(List Gf) × (Vector Int 3) × Int) (fun jW (zE,iE,aB)=>
    jn (σ:=Unit) (fun _=>
     jn (σ:=(List Gf) × (Vector Int 3)) (fun (dK,lK)=>
      jW (dK,lK,(w64 (aB + (1:Int))))
      ) fun kW=>
     (idx (yB.1) aB).bind fun v8=>
     jn (σ:=Unit) (fun _=>
      (apnd 56 zE (([(⟨(v8).Loom,(50:Int),(w64 ((1000:Int) * (v8).Picks)),[],0⟩:Gf)]:List Gf))).bind fun mP=>
      (idx (iE).toList (v8).Loom).bind fun jL=>
      (idx (iE).toList (v8).Loom).bind fun c02=>
      kW (mP,(Fz iE ((v8).Loom) ((w64 (jL + (v8).Picks)))))
      ) fun lW=>
     (idx y5 aB).bind fun nP=>
     bif (!(decide (v8 = nP))) then
      some (false)
     else
      lW ()
     ) fun mW=>
    bif (decide (aB < ((yB.1).length : Int))) then
     mW ()
    else
     iW (zE,iE)
    ) big (([]:List Gf),(⟨List.toArray [0,0,0],rfl⟩:Vector Int 3),(0:Int))
   ) fun k68=>
  Option.bind (α:=Bool) (
   bif (cH.2.2 != (0 : Int)) then
    some (true)
   else
    bif (yB.2.2 != (0 : Int)) then
     some (true)
    else
     bif (y56.2.2 != (0 : Int)) then
      some (true)
     else
      bif (((yB.1).length : Int) != ((y5).length : Int)) then
       some (true)
      else
       some ((((y56.1).length:Int) != (16:Int)))
   ) fun kH=>
  bif kH then
   some (false)
  else
   k68 ()
  ) fun k36=>
 bif (!zH.2) then
  some (false)
 else
  k36 ()
theorem wk3 {gI:Gh} {wI:World} (hTI:Vj 0 gI.m wI) {x0:List UInt16} {x1:List (Vector UInt8 3)} {x2:Vector UInt8 4} {up0:Value} (rp0:RV gI.m wI x0 up0) {up1:Value} (rp1:RV gI.m wI x1 up1) {up2:Value} (rp2:RV gI.m wI x2 up2) {r:Bool} (h:f3 x0 x1 x2=some r):Fn prog 3 #[up0,up1,up2] gI wI (fun _ _ v=>v=.bool (r)):=by
 unfold f3 at h;refine fnE func3 rfl rfl fun g0 hm hfr=>?_;have rp0:=RVc hm rp0;have rp1:=RVc hm rp1;have rp2:=RVc hm rp2;show E _ 254 none _ _ _ _ _;refine Z5 (Z4 rfl (Tv (g:=g0) rfl rp2 fun g1 w1 p1 hs q1=>?_));have hfr:=hfr.ext hs;have rp0:=rp0.ext hs;have rp1:=rp1.ext hs;refine Zg (.bool false) rfl rfl (Z3 (Zf ?_));obtain ⟨y3,hy3,h⟩:=Z1 h;obtain ⟨y5,hy5,h⟩:=Z1 h;refine Zs (x:=.tmp 5) isAgg24 sizeOf24 q1 fun v6 r6 hl6=>?_;obtain ⟨y8,hy8,h⟩:=Z1 h;refine To (g:=g1) (n:=8) [(1,(fun v g w=>RV g.m w y3 v)),(3,(fun v g w=>RV g.m w y5 v)),(5,(fun v g w=>RV g.m w y8 v)),(6,(fun v g w=>OB 2007 g w 31 (⟨⟨0,[]⟩,⟨0,[]⟩⟩:Gi) v)),(7,(fun v g w=>OB 2009 g w 37 (⟨[],[],0,0⟩:PayList) v))] [0,1,2,3,4,5,6,7] rfl mixed (by kernel_rfl) (⟨fun _=>Jf,fun _=>Jf,fun _=>Jf,fun _=>up_ob,fun _=>up_ob,trivial⟩) (Z0 up0 rfl rfl (Zk rfl) (W7 (φ:=fun v g w=>RV g.m w y3 v) rfl rfl .plain (fun g w hd=>Zp (g:=g) (vs:=[.int .u8 (UInt8.toNat 3),up0]) en4 (.cons rfl (.cons rfl .nil)) (wk4 (rp0.ext hd.1) hy3) fun g' w' v hs hr=>⟨g',hs,hr⟩) (fun v2 hv=>?_)));obtain ⟨_,_,_,rq2⟩:=hv;refine Z0 up1 rfl rfl (Zk rfl) (W7 (φ:=fun v g w=>RV g.m w y5 v) rfl rfl .plain (fun g w hd=>Zp (g:=g) (vs:=[up1]) en5 (.cons rfl .nil) (wk5 (rp1.ext hd.1) hy5) fun g' w' v hs hr=>⟨g',hs,hr⟩) (fun v4 hv=>?_));obtain ⟨_,_,_,rq4⟩:=hv;refine Tm (c:=v6) rfl rfl .plain (fun _ _ h=>h.ch) hl6 rfl (W7 (φ:=fun v g w=>RV g.m w y8 v) rfl rfl .plain (fun g w hd=>Zp (g:=g) (vs:=[v6]) en6 (.cons rfl .nil) (wk6 (r6.ext hd.1) hy8) fun g' w' v hs hr=>⟨g',hs,hr⟩) (fun v7 hv=>?_));obtain ⟨_,_,_,rq7⟩:=hv;refine W7 (φ:=fun v g w=>OB 2007 g w 31 (⟨⟨0,[]⟩,⟨0,[]⟩⟩:Gi) v) rfl rfl .plain (fun g w hd=>Dg (g:=g) 2007 (⟨⟨0,[]⟩,⟨0,[]⟩⟩:Gi) zeroValue31 (fun m w=>⟨_,(Gb (Gb Zw G9) (Gb Zw G9)),rfl⟩) fun g' w' v hs b=>⟨g',hs,b⟩) (fun v9 hv=>?_);clear hv;refine W7 (φ:=fun v g w=>OB 2009 g w 37 (⟨[],[],0,0⟩:PayList) v) rfl rfl .plain (fun g w hd=>Dg (g:=g) 2009 (⟨[],[],0,0⟩:PayList) zeroValue37 (fun m w=>⟨_,(Gb G9 (Gb G9 (Gb Zw Zw))),rfl⟩) fun g' w' v hs b=>⟨g',hs,b⟩) (fun mB hv=>?_);clear hv;refine J6 fun g11 w11 hall=>?_;have hs:=hall.1;have hfr:=hfr.ext hs;have q1:=q1.ext hs;have r18:=(T1 (A:=fun g w=>RV g.m w y3 v2) 1 rfl hall);have yK:=(T1 (A:=fun g w=>RV g.m w y5 v4) 3 rfl hall);have nW:=(T1 (A:=fun g w=>RV g.m w y8 v7) 5 rfl hall);have b23:=(T1 (A:=fun g w=>OB 2007 g w 31 (⟨⟨0,[]⟩,⟨0,[]⟩⟩:Gi) v9) 6 rfl hall);have b24:=(T1 (A:=fun g w=>OB 2009 g w 37 (⟨[],[],0,0⟩:PayList) mB) 7 rfl hall);clear hs hall;refine Z4 rfl (Gg (g:=g11) (v:=v2) sizeOf31 rfl b23 rfl r18 fun g25 w25 hs b25 cb=>?_);clear cb;have hfr:=hfr.stp hs;have q1:=q1.stp hs;have yK:=yK.stp hs;have nW:=nW.stp hs;have b24:=b24.stp hs rfl;refine Zg v4 rfl rfl (Z4 rfl (Gg (g:=g25) (v:=v7) sizeOf37 rfl b24 rfl nW fun oW w26 hs b26 cb=>?_));clear cb;have hfr:=hfr.stp hs;have q1:=q1.stp hs;have yK:=yK.stp hs;have b25:=b25.stp hs rfl;refine Z3 (Z5 (Zn v4 rfl rfl ?_));obtain ⟨nO,pW,h⟩:=Z1 h;refine Zx (Z8 p1 (((0:Int):Int).toNat * 1)) (Tk (α:=UInt8) underlying24 sizeOf5 rfl (PT.ptr q1) rfl pW) rfl ?_;have q28:=Wo q1 pW;refine Z4 rfl (Z6 (g:=oW) isAgg5 sizeOf5 rfl q28 fun v29 r29=>?_);obtain rfl:=Qy.1 r29;refine Zx (.int .u16 (UInt16.toNat (((nO).toUInt16)))) (A3 underlying5 underlying42 rfl) rfl ?_;obtain ⟨cN,qW,h⟩:=Z1 h;refine Zx (Z8 p1 (((1:Int):Int).toNat * 1)) (Tk (α:=UInt8) underlying24 sizeOf5 rfl (PT.ptr q1) rfl qW) rfl ?_;have q31:=Wo q1 qW;refine Z4 rfl (Z6 (g:=oW) isAgg5 sizeOf5 rfl q31 fun v32 r32=>?_);obtain rfl:=Qy.1 r32;refine Zx (.int .u16 (UInt16.toNat (((cN).toUInt16)))) (A3 underlying5 underlying42 rfl) rfl (Zx (.int .u16 (UInt16.toNat (((256:UInt16) * ((cN).toUInt16))))) (Ep rfl rfl) rfl (Zx (.int .u16 (UInt16.toNat ((((nO).toUInt16) + ((256:UInt16) * ((cN).toUInt16)))))) (E7 rfl rfl) rfl ?_));obtain ⟨zH,d02,h⟩:=Z1 h;refine Z4 rfl (Xn (g:=oW) (vs:=[v4,.int .u16 (UInt16.toNat ((((nO).toUInt16) + ((256:UInt16) * ((cN).toUInt16)))))]) en7 (.cons rfl (.cons rfl .nil)) (u7 (iO:=9053) yK d02) fun g33 u07 v33 hs hr=>?_)
 have hfr:=hfr.ext hs;have yK:=yK.ext hs;have b25:=b25.ext hs;have b26:=b26.ext hs;obtain ⟨oH,u05,rfl,⟨o33,aZ⟩,rfl⟩:=hr;refine Zn (.tuple #[oH,.bool (zH.2)]) rfl rfl (Zx oH (Zi rfl rfl) rfl (Zx (.bool (zH.2)) (Zi rfl rfl) rfl (Zg oH rfl rfl (Zg (.bool (zH.2)) rfl rfl (Z3 (Zq h (fun (s:Unit) e w=>∃ (g:Gh) ,Fr gI wI g w∧e 7=v9∧OB 2007 g w 31 (y3:Gi) v9∧e 8=v4∧RV g.m w (y5:List Z2) v4∧e 9=mB∧OB 2009 g w 37 (y8:PayList) mB∧e 10=oH∧RV g.m w (zH.1:List (List UInt8)) oH∧OS 9053 g w 43 (zH.1:List (List UInt8)) oH) (fun X36 k36 e02 h=>?_) ?_))))))
 ·refine Z5 (Zn (.bool (zH.2)) rfl rfl (Zx (.bool (!zH.2)) (Qm rfl) rfl (Z3 ?_)))
  rcases Zt h with ⟨oP,h⟩ | ⟨oP,h⟩
  ·refine G6 oP rfl (Z5 (Zg (.bool false) rfl rfl (Z3 (Ga (Gp ?_)))))
   obtain rfl:=sinj h;exact Tg rfl rfl (rq (.bool false)) ⟨_,hfr,rfl⟩
  ·refine G7 oP rfl ?_
   exact Zu (Zd (e02 () _ _ ⟨g33,hfr,rfl,b25,rfl,yK,rfl,b26,rfl,aZ,o33⟩ h))
 ·rintro _ v07 w38 ⟨g38, hfr, bZ, lE, mI, n9, aK, lB, oO, cF, sG⟩ h
  refine Z5 (Zo oO rfl (Z4 rfl (Z7 (g:=g38) 3059 (xs:=([]:List UInt8)) (vs:=[]) underlying43 sizeOf5 zeroValue5 rfl rfl .nil RVs.nil rfl rfl fun g39 w39 v39 hs o39 r39 hxt hfl=>?_)));have hfr:=hfr.stp hs;have lE:=lE.stp hs rfl;have n9:=n9.stp hs;have lB:=lB.stp hs rfl;have cF:=cF.stp hs;have sG:=sG.stp hs rfl;refine Zo oO rfl ?_;obtain ⟨y40,sW,h⟩:=Z1 h;refine Zx (Tb oH (0:Int) 1) (Zh (α:=List UInt8) underlying39 sizeOf43 rfl cF rfl sW) rfl ?_;have q41:=Gx cF sW;refine Z4 rfl (Z6 (g:=g39) isAgg43 sizeOf43 rfl q41 fun v42 r42=>?_);obtain ⟨y44,g02,h⟩:=Z1 h;refine Z4 rfl (T5 (g:=g39) (i:=3059) underlying43 Rs rfl rfl o39 r39 rfl r42 g02 fun g43 w43 v43 hs o43 r43 _=>?_);have hfr:=hfr.stp hs;have lE:=lE.stp hs rfl;have n9:=n9.stp hs;have lB:=lB.stp hs rfl;have cF:=cF.stp hs;have sG:=sG.stp hs rfl;refine Z4 rfl (Z7 (g:=g43) 3064 (xs:=([y44]:List (List UInt8))) (vs:=[v43]) underlying39 sizeOf43 zeroValue43 rfl rfl (.cons rfl .nil) (RVs.cons r43 RVs.nil) rfl rfl fun g45 w45 v45 hs o45 r45 hxt hfl=>?_);have hfr:=hfr.stp hs;have lE:=lE.stp hs rfl;have n9:=n9.stp hs;have lB:=lB.stp hs rfl;have cF:=cF.stp hs;have sG:=sG.stp hs rfl;obtain ⟨dW,h02,h⟩:=Z1 h;refine Z4 rfl (T5 (g:=g45) (i:=9053) underlying39 E9 rfl rfl sG cF rfl r45 h02 fun g46 w46 pO hs o46 zK _=>?_);have hfr:=hfr.stp hs;have lE:=lE.stp hs rfl;have n9:=n9.stp hs;have lB:=lB.stp hs rfl;refine Zg pO rfl rfl (Z3 (Z5 (Zn pO rfl rfl ?_)));obtain ⟨cH,i02,h⟩:=Z1 h;refine Z4 rfl (Zp (g:=g46) (vs:=[pO]) en8 (.cons rfl .nil) (wk8 zK i02) fun g48 x07 v48 hs hr=>?_);have hfr:=hfr.ext hs;have lE:=lE.ext hs;have n9:=n9.ext hs;have lB:=lB.ext hs;have zK:=zK.ext hs;obtain ⟨bK,v05,x05,rfl,cZ,rfl,rfl⟩:=hr;refine Zn (.tuple #[bK,Iz (cH.2.1),Iz (cH.2.2)]) rfl rfl (Zx bK (Zi rfl rfl) rfl (Zx (Iz (cH.2.1)) (Zi rfl rfl) rfl (Zx (Iz (cH.2.2)) (Zi rfl rfl) rfl (Zg bK rfl rfl (Zg (Iz (cH.2.1)) rfl rfl (Zg (Iz (cH.2.2)) rfl rfl (Z3 (Z5 (Zn bK rfl rfl ?_)))))))));obtain ⟨yB,j02,h⟩:=Z1 h;refine Z4 rfl (Zp (g:=g48) (vs:=[bK]) en9 (.cons rfl .nil) (wk9 cZ j02) fun g50 y07 v50 hs hr=>?_);have hfr:=hfr.ext hs;have lE:=lE.ext hs;have n9:=n9.ext hs;have lB:=lB.ext hs;have zK:=zK.ext hs;obtain ⟨cD,y05,z05,rfl,eG,rfl,rfl⟩:=hr;refine Zn (.tuple #[cD,Iz (yB.2.1),Iz (yB.2.2)]) rfl rfl (Zx cD (Zi rfl rfl) rfl (Zx (Iz (yB.2.1)) (Zi rfl rfl) rfl (Zx (Iz (yB.2.2)) (Zi rfl rfl) rfl (Zg cD rfl rfl (Zg (Iz (yB.2.1)) rfl rfl (Zg (Iz (yB.2.2)) rfl rfl (Z3 (Z5 (Z4 rfl (Tp (g:=g50) isAgg31 sizeOf31 bZ lE fun v52 r52=>?_))))))))));obtain ⟨y54,k02,h⟩:=Z1 h;refine Z4 rfl (Zp (g:=g50) (vs:=[v52]) en11 (.cons rfl .nil) (wk11 r52 k02) fun g53 z07 v53 hs hr=>?_);have hfr:=hfr.ext hs;have n9:=n9.ext hs;have lB:=lB.ext hs;have zK:=zK.ext hs;have eG:=eG.ext hs;have r53:=hr;refine Zn pO rfl rfl ?_;obtain ⟨y56,l02,h⟩:=Z1 h;refine Z4 rfl (Zp (g:=g53) (vs:=[v53,pO]) en10 (.cons rfl (.cons rfl .nil)) (wk10 r53 zK l02) fun qO a08 v55 hs hr=>?_);have hfr:=hfr.ext hs;have n9:=n9.ext hs;have lB:=lB.ext hs;have eG:=eG.ext hs;obtain ⟨i6,a06,b06,rfl,nI,rfl,rfl⟩:=hr;refine Zn (.tuple #[i6,Iz (y56.2.1),Iz (y56.2.2)]) rfl rfl (Zx i6 (Zi rfl rfl) rfl (Zx (Iz (y56.2.1)) (Zi rfl rfl) rfl (Zx (Iz (y56.2.2)) (Zi rfl rfl) rfl (Zg i6 rfl rfl (Zg (Iz (y56.2.1)) rfl rfl (Zg (Iz (y56.2.2)) rfl rfl (Z3 (Zq h (fun (s:Unit) e w=>∃ (g:Gh) ,Fr gI wI g w∧e 8=v4∧RV g.m w (y5:List Z2) v4∧e 9=mB∧OB 2009 g w 37 (y8:PayList) mB∧e 15=cD∧RV g.m w (yB.1:List Z2) cD∧e 18=i6∧RV g.m w (y56.1:List (List Str)) i6) (fun X68 k68 m02 h=>?_) ?_))))))))
  ·obtain ⟨kH, hx, h⟩ := Z1 h
   refine Gl (fun e w=>∃ (g:Gh) ,Fr gI wI g w∧e 8=v4∧RV g.m w (y5:List Z2) v4∧e 9=mB∧OB 2009 g w 37 (y8:PayList) mB∧e 15=cD∧RV g.m w (yB.1:List Z2) cD∧e 18=i6∧RV g.m w (y56.1:List (List Str)) i6∧e 107=.bool (kH)) (fun Q' hQ=>?_) (fun b08 w77 hR=>?_)
   ·replace h := hx
    clear hx;refine Za (Zn (Iz (cH.2.2)) rfl rfl (Z9 (.bool ((cH.2.2 != (0:Int)))) rfl rfl rfl rfl (Zn (.bool ((cH.2.2 != (0:Int)))) rfl rfl ?_)));rcases Zt h with ⟨jJ,h⟩ | ⟨jJ,h⟩
    ·refine Zz rfl rfl jJ rfl rfl (Zz rfl rfl jJ rfl rfl (Zx (.bool true) (Zl (b := (cH.2.2 != (0 : Int))) rfl (G4 jJ rfl)) rfl (Qv 16 rfl (Zb ?_))))
     obtain rfl:=sinj h;exact hQ _ _ ⟨qO,hfr,mI,n9,aK,lB,rfl,eG,rfl,nI,rfl⟩
    ·refine Zy (Iz (yB.2.2)) (Zk rfl) rfl rfl jJ rfl (Zy (.bool ((yB.2.2 != (0 : Int)))) (Gk rfl rfl rfl) rfl rfl jJ rfl (Zx (.bool ((yB.2.2 != (0 : Int)))) (Zl (b := (cH.2.2 != (0 : Int))) rfl (G5 jJ rfl)) rfl (Zn (.bool ((yB.2.2 != (0 : Int)))) rfl rfl ?_)))
     rcases Zt h with ⟨kJ,h⟩ | ⟨kJ,h⟩
     ·refine Zz rfl rfl kJ rfl rfl (Zz rfl rfl kJ rfl rfl (Zx (.bool true) (Zl (b := (yB.2.2 != (0 : Int))) rfl (G4 kJ rfl)) rfl (Qv 12 rfl (Zb ?_))))
      obtain rfl:=sinj h;exact hQ _ _ ⟨qO,hfr,mI,n9,aK,lB,rfl,eG,rfl,nI,rfl⟩
     ·refine Zy (Iz (y56.2.2)) (Zk rfl) rfl rfl kJ rfl (Zy (.bool ((y56.2.2 != (0 : Int)))) (Gk rfl rfl rfl) rfl rfl kJ rfl (Zx (.bool ((y56.2.2 != (0 : Int)))) (Zl (b := (yB.2.2 != (0 : Int))) rfl (G5 kJ rfl)) rfl (Zn (.bool ((y56.2.2 != (0 : Int)))) rfl rfl ?_)))
      rcases Zt h with ⟨jH,h⟩ | ⟨jH,h⟩
      ·refine Zz rfl rfl jH rfl rfl ?_
       iterate 4 refine Zz rfl rfl jH rfl rfl ?_
       refine Zx (.bool true) (Zl (b:=(y56.2.2 != (0:Int))) rfl (G4 jH rfl)) rfl (Qv 5 rfl (Zb ?_));obtain rfl:=sinj h;exact hQ _ _ ⟨qO,hfr,mI,n9,aK,lB,rfl,eG,rfl,nI,rfl⟩
      ·refine Zy cD (Zk rfl) rfl rfl jH rfl (Zy (Iz ((yB.1).length : Int)) (Gz underlying33 rfl eG) rfl rfl jH rfl (Zy v4 (Zk mI) rfl rfl jH rfl (Zy (Iz ((y5).length : Int)) (Gz underlying33 rfl n9) rfl rfl jH rfl (Zy (.bool ((((yB.1).length : Int) != ((y5).length : Int)))) (Gk rfl rfl rfl) rfl rfl jH rfl (Zx (.bool ((((yB.1).length : Int) != ((y5).length : Int)))) (Zl (b := (y56.2.2 != (0 : Int))) rfl (G5 jH rfl)) rfl (Zn (.bool ((((yB.1).length : Int) != ((y5).length : Int)))) rfl rfl ?_))))))
       rcases Zt h with ⟨pH,h⟩ | ⟨pH,h⟩
       ·refine Zz rfl rfl pH rfl rfl (Zz rfl rfl pH rfl rfl (Zz rfl rfl pH rfl rfl (Zx (.bool true) (Zl (b := (((yB.1).length : Int) != ((y5).length : Int))) rfl (G4 pH rfl)) rfl (Zb ?_))))
        obtain rfl:=sinj h;exact hQ _ _ ⟨qO,hfr,mI,n9,aK,lB,rfl,eG,rfl,nI,rfl⟩
       ·refine Zy i6 (Zk rfl) rfl rfl pH rfl (Zy (Iz ((y56.1).length : Int)) (Gz underlying49 rfl nI) rfl rfl pH rfl (Zy (.bool ((((y56.1).length : Int) != (16 : Int)))) (Gk rfl rfl rfl) rfl rfl pH rfl (Zx (.bool ((((y56.1).length : Int) != (16 : Int)))) (Zl (b := (((yB.1).length : Int) != ((y5).length : Int))) rfl (G5 pH rfl)) rfl (Zb ?_))))
        obtain rfl:=sinj h;exact hQ _ _ ⟨qO,hfr,mI,n9,aK,lB,rfl,eG,rfl,nI,rfl⟩
   ·clear hx
    obtain ⟨g77,hfr,dZ,mZ,nZ,oZ,tW,uW,vW,xW,eN⟩:=hR;rcases Zt h with ⟨pP,h⟩ | ⟨pP,h⟩
    ·refine Ta (Eq.trans (show ev _ _ = .bool (kH) from eN) (congrArg Value.bool pP)) (Z5 (Zg (.bool false) rfl rfl (Z3 (Ga (Gp ?_)))))
     obtain rfl:=sinj h;exact Tg rfl rfl (rq (.bool false)) ⟨_,hfr,rfl⟩
    ·refine Gs (Eq.trans (show ev _ _ = .bool (kH) from eN) (congrArg Value.bool pP)) ?_
     exact Zu (Zd (m02 () _ _ ⟨g77,hfr,dZ,mZ,nZ,oZ,tW,uW,vW,xW⟩ h))
  ·rintro _ c08 w79 ⟨g79, hfr, pZ, qH, qZ, sH, yW, xG, zW, yG⟩ h
   refine Z5 (Z4 rfl (Z7 (g:=g79) 3108 (xs:=([]:List Gf)) (vs:=[]) underlying57 sizeOf62 zeroValue62 rfl rfl .nil RVs.nil rfl rfl fun g80 w80 v80 hs o80 rO hxt hfl=>?_));have hfr:=hfr.stp hs;have qH:=qH.stp hs;have sH:=sH.stp hs rfl;have xG:=xG.stp hs;have yG:=yG.stp hs;have mS:RV g80.m w80 (⟨List.toArray [0,0,0],rfl⟩:Vector Int 3) (.agg (Td [[Iz 0],[Iz 0],[Iz 0]] []).flatten.toArray):=Tc rfl (Jt (Zv Zw (Zv Zw (Zv Zw Jd))) rfl);generalize n02:(Value.agg (Td [[Iz 0],[Iz 0],[Iz 0]] []).flatten.toArray)=v81 at mS;refine Zx v81 (n02 ▸ Rj (vs:=[]) [[Iz 0],[Iz 0],[Iz 0]] underlying58 E2 szA_3 rfl (by simp) .nil trivial) rfl (Z4 rfl (G2 (g:=g80) 2022 ((⟨List.toArray [0,0,0],rfl⟩:Vector Int 3):Vector Int 3) zeroValue58 (fun m w=>⟨_,(Jt (Zv Zw (Zv Zw (Zv Zw Jd))) rfl),rfl⟩) fun g82 w82 vB hs b82 cb=>?_));have hfr:=hfr.stp hs;have qH:=qH.stp hs;have sH:=sH.stp hs rfl;have xG:=xG.stp hs;have yG:=yG.stp hs;have rO:=rO.stp hs;have o80:=o80.stp hs rfl;have mS:=mS.stp hs;clear cb;refine Zg v80 rfl rfl (Z4 rfl (Gg (g:=g82) (v:=v81) sizeOf58 rfl b82 rfl mS fun g83 w83 hs b83 cb=>?_));clear cb;have hfr:=hfr.stp hs;have qH:=qH.stp hs;have sH:=sH.stp hs rfl;have xG:=xG.stp hs;have yG:=yG.stp hs;have rO:=rO.stp hs;have o80:=o80.stp hs rfl;refine Z3 (Zq h (fun (s:(List Gf) × (Vector Int 3)) e w=>∃ (g:Gh) (aI:Value),Fr gI wI g w∧e 8=v4∧RV g.m w (y5:List Z2) v4∧e 9=mB∧OB 2009 g w 37 (y8:PayList) mB∧e 18=i6∧RV g.m w (y56.1:List (List Str)) i6∧e 21=aI∧RV g.m w (s.1:List Gf) aI∧OS 3108 g w 62 (s.1:List Gf) aI∧e 22=vB∧OB 2022 g w 58 (s.2:Vector Int 3) vB) (fun X290 iW rZ h=>?_) ?_)
   ·refine Z5 (Zg (Iz (0)) rfl rfl (Z3 (Zr (Q0 h (fun (s : (List Gf) × (Vector Int 3) × Int) e w => ∃ (g : Gh) (aI : Value), Fr gI wI g w ∧ e 8 = v4 ∧ RV g.m w (y5 : List Z2) v4 ∧ e 9 = mB ∧ OB 2009 g w 37 (y8 : PayList) mB ∧ e 15 = cD ∧ RV g.m w (yB.1 : List Z2) cD ∧ e 18 = i6 ∧ RV g.m w (y56.1 : List (List Str)) i6 ∧ e 21 = aI ∧ RV g.m w (s.1 : List Gf) aI ∧ OS 3108 g w 62 (s.1 : List Gf) aI ∧ e 22 = vB ∧ OB 2022 g w 58 (s.2.1 : Vector Int 3) vB ∧ e 23 = Iz (s.2.2)) ⟨g83, (v80), hfr, pZ, qH, qZ, sH, yW, xG, zW, yG, rfl, rO, o80, rfl, b83, rfl⟩ (fun X291 jW sZ => ?_)))))
    rintro ⟨zE,iE,aB⟩ c06 d08 ⟨aX,tF,hfr,sO,tO,uO,vO,gN,iN,jN,kN,lN,mN,nN,oN,pN,qN⟩ h;refine Zq h (fun (s:Unit) e w=>∃ (g:Gh) ,Fr gI wI g w∧e 8=v4∧RV g.m w (y5:List Z2) v4∧e 9=mB∧OB 2009 g w 37 (y8:PayList) mB∧e 15=cD∧RV g.m w (yB.1:List Z2) cD∧e 18=i6∧RV g.m w (y56.1:List (List Str)) i6∧e 21=tF∧RV g.m w (zE:List Gf) tF∧OS 3108 g w 62 (zE:List Gf) tF∧e 22=vB∧OB 2022 g w 58 (iE:Vector Int 3) vB∧e 23=Iz (aB)) (fun X294 mW tZ h=>?_) ?_
    ·refine Z5 (Zo qN rfl (Zo gN rfl (Zx (Iz ((yB.1).length : Int)) (Gz underlying33 rfl iN) rfl (Z9 (.bool ((decide (aB < ((yB.1).length : Int))))) rfl rfl rfl rfl (Z3 ?_)))))
     rcases Zt h with ⟨cO,h⟩ | ⟨cO,h⟩
     ·refine G6 cO rfl ?_
      exact Zu (Zd (tZ () _ _ ⟨aX,hfr,sO,tO,uO,vO,gN,iN,jN,kN,lN,mN,nN,oN,pN,qN⟩ h))
     ·refine G7 cO rfl (Tn (Gu (Gu (G8 ?_))))
      exact Zd (rZ (zE,iE) _ _ ⟨aX,(tF),hfr,sO,tO,uO,vO,jN,kN,lN,mN,nN,oN,pN⟩ h)
    ·rintro _ d06 e08 ⟨bX, hfr, xO, dF, cX, zG, rN, mE, mT, uF, nT, vF, xF, oT, yF, mK⟩ h
     refine Zq h (fun (s:(List Gf) × (Vector Int 3)) e w=>∃ (g:Gh) (aI:Value),Fr gI wI g w∧e 8=v4∧RV g.m w (y5:List Z2) v4∧e 9=mB∧OB 2009 g w 37 (y8:PayList) mB∧e 15=cD∧RV g.m w (yB.1:List Z2) cD∧e 18=i6∧RV g.m w (y56.1:List (List Str)) i6∧e 21=aI∧RV g.m w (s.1:List Gf) aI∧OS 3108 g w 62 (s.1:List Gf) aI∧e 22=vB∧OB 2022 g w 58 (s.2:Vector Int 3) vB∧e 23=Iz (aB)) (fun X396 kW uZ h=>?_) ?_
     ·refine Zr (Z5 (Zo rN rfl (Zo mK rfl ?_)))
      obtain ⟨v8,nS,h⟩:=Z1 h;refine Zx (Tb cD aB 5) (Zh (α:=Z2) underlying33 sizeOf60 rfl mE rfl nS) rfl ?_;have o02:=Gx mE nS;refine Z4 rfl (Z6 (g:=bX) isAgg60 sizeOf60 rfl o02 fun p02 sP=>(Z4 rfl (G2 (g:=bX) 2024 (⟨0,0,0,0,0⟩:Z2) zeroValue60 (fun m w=>⟨_,(Gb Zw (Gb Zw (Gb Zw (Gb Zw Zw)))),rfl⟩) fun q02 g08 nK hs b400 cb=>?_)));have hfr:=hfr.stp hs;have dF:=dF.stp hs;have zG:=zG.stp hs rfl;have mE:=mE.stp hs;have uF:=uF.stp hs;have vF:=vF.stp hs;have xF:=xF.stp hs rfl;have yF:=yF.stp hs rfl;have sP:=sP.stp hs;clear cb;refine Z4 rfl (Gg (g:=q02) (v:=p02) sizeOf60 rfl b400 rfl sP fun r02 h08 hs b401 cb=>?_);clear cb;have hfr:=hfr.stp hs;have dF:=dF.stp hs;have zG:=zG.stp hs rfl;have mE:=mE.stp hs;have uF:=uF.stp hs;have vF:=vF.stp hs;have xF:=xF.stp hs rfl;have yF:=yF.stp hs rfl;refine Z3 (Zq h (fun (s:Unit) e w=>∃ (g:Gh) ,Fr gI wI g w∧e 8=v4∧RV g.m w (y5:List Z2) v4∧e 9=mB∧OB 2009 g w 37 (y8:PayList) mB∧e 15=cD∧RV g.m w (yB.1:List Z2) cD∧e 18=i6∧RV g.m w (y56.1:List (List Str)) i6∧e 21=tF∧RV g.m w (zE:List Gf) tF∧OS 3108 g w 62 (zE:List Gf) tF∧e 22=vB∧OB 2022 g w 58 (iE:Vector Int 3) vB∧e 23=Iz (aB)∧e 24=nK∧OB 2024 g w 60 (v8:Z2) nK) (fun X426 lW vZ h=>?_) ?_)
      ·refine Zf (Ht (x := .tmp 24) isAgg60 sizeOf60 b401 fun s02 t02 xZ => ?_)
       obtain ⟨nP,oS,h⟩:=Z1 h;have u02:=Gx dF oS;refine Zs (x:=.tmp 123) isAgg60 sizeOf60 u02 fun v02 x02 yZ=>(To (g:=r02) (n:=6) [] [0,1,2,3,4,5] rfl mixed (by kernel_rfl) trivial (Tm (c:=s02) rfl rfl .plain (fun _ _ h=>⟨h.ch,fun b hb _=>h.below.block b hb⟩) xZ rfl (Z0 v4 rfl rfl (Zk xO) (Z0 (Iz (aB)) rfl rfl (Zk mK) (Z0 (Tb v4 aB 5) rfl rfl (Zh (α:=Z2) underlying33 sizeOf60 rfl dF rfl oS) (Tm (c:=v02) rfl rfl .plain (fun _ _ h=>h.ch) yZ rfl (Z0 (.bool ((!(decide (v8=nP))))) rfl rfl (P_sne Om rfl eg_60 rfl rfl t02 x02) (Ka fun y02 i08 hs=>?_))))))));have hfr:=hfr.ext hs;have dF:=dF.ext hs;have zG:=zG.ext hs;have mE:=mE.ext hs;have uF:=uF.ext hs;have vF:=vF.ext hs;have xF:=xF.ext hs;have yF:=yF.ext hs;have b401:=b401.ext hs;clear hs;refine Z3 ?_;rcases Zt h with ⟨dO,h⟩ | ⟨dO,h⟩
       ·refine G6 dO rfl (Z5 (Zg (.bool false) rfl rfl (Z3 (Ga (Gp (Tl (Gp (Gp (Tl (Gp ?_))))))))))
        obtain rfl:=sinj h;exact Tg rfl rfl (rq (.bool false)) ⟨_,hfr,rfl⟩
       ·refine G7 dO rfl ?_
        exact Zu (Zd (vZ () _ _ ⟨y02,hfr,xO,dF,cX,zG,rN,mE,mT,uF,nT,vF,xF,oT,yF,mK,rfl,b401⟩ h))
      ·rintro _ e06 z02 ⟨eO, hfr, dX, eF, eX, rF, pT, oE, sT, rE, tT, oK, pK, qK, zD, uT, pI, bD⟩ h
       refine Z5 (Zo tT rfl (Zx (Z8 nK 1) (Zc Hw pI (OB.ptr bD)) rfl (Z4 rfl (Qt (g:=eO) Qg.1 isAgg3 sizeOf3 rfl bD fun j08 a03=>?_))));obtain rfl:=Zj.1 a03;refine Zx (Z8 nK 4) (Zc Vu pI (OB.ptr bD)) rfl (Z4 rfl (Qt (g:=eO) Wv.1 isAgg3 sizeOf3 rfl bD fun k08 b03=>?_));obtain rfl:=Zj.1 b03;refine Z9 (Iz ((w64 ((1000:Int) * (v8).Picks)))) rfl rfl rfl rfl ?_;have gX:RV eO.m z02 (⟨(v8).Loom,(50:Int),(w64 ((1000:Int) * (v8).Picks)),[],0⟩:Gf) (.agg (Td [[Iz 0],[Iz 0],[Iz 0],[.slice none 0 0],[Iz 0]] [(0,Iz ((v8).Loom)),(1,Iz (50)),(2,Iz ((w64 ((1000:Int) * (v8).Picks))))]).flatten.toArray):=Tc rfl (Gm (rfl) (Gm (rfl) (Gm (rfl) (Gm (G9) (Tf (Zw))))));generalize zZ:(Value.agg (Td [[Iz 0],[Iz 0],[Iz 0],[.slice none 0 0],[Iz 0]] [(0,Iz ((v8).Loom)),(1,Iz (50)),(2,Iz ((w64 ((1000:Int) * (v8).Picks))))]).flatten.toArray)=iX at gX;refine Zx iX (zZ ▸ Tu (vs:=[(0,Iz ((v8).Loom)),(1,Iz (50)),(2,Iz ((w64 ((1000:Int) * (v8).Picks))))]) [[Iz 0],[Iz 0],[Iz 0],[.slice none 0 0],[Iz 0]] Pw rfl rfl (.cons rfl (.cons rfl (.cons rfl .nil))) ⟨⟨_,rfl,rfl⟩,⟨⟨_,rfl,rfl⟩,⟨⟨_,rfl,rfl⟩,trivial⟩⟩⟩) rfl (Z4 rfl (Z7 (g:=eO) 3133 (xs:=([(⟨(v8).Loom,(50:Int),(w64 ((1000:Int) * (v8).Picks)),[],0⟩:Gf)]:List Gf)) (vs:=[iX]) underlying57 sizeOf62 zeroValue62 rfl rfl (.cons rfl .nil) (RVs.cons gX RVs.nil) rfl rfl fun c03 l08 m08 hs o457 d03 hxt hfl=>?_));have hfr:=hfr.stp hs;have eF:=eF.stp hs;have rF:=rF.stp hs rfl;have oE:=oE.stp hs;have rE:=rE.stp hs;have oK:=oK.stp hs;have pK:=pK.stp hs rfl;have zD:=zD.stp hs rfl;have bD:=bD.stp hs rfl;obtain ⟨mP,a00,h⟩:=Z1 h;refine Z4 rfl (T5 (g:=c03) (i:=3108) underlying57 Ex rfl rfl pK oK rfl d03 a00 fun e03 n08 jX hs o458 lL _=>?_);have hfr:=hfr.stp hs;have eF:=eF.stp hs;have rF:=rF.stp hs rfl;have oE:=oE.stp hs;have rE:=rE.stp hs;have zD:=zD.stp hs rfl;have bD:=bD.stp hs rfl;refine Zg jX rfl rfl (Z3 (Hj (x:=.tmp 135) Qg.1 isAgg3 sizeOf3 bD fun o08 g03 b00=>?_));obtain rfl:=Zj.1 g03;obtain ⟨jL,pS,h⟩:=Z1 h;obtain ⟨hi463,he463⟩:=Dn pS;refine Rf (off:=(((v8).Loom:Int).toNat * 1)) (x:=.tmp 137) (Gd.dyn hi463).1 he463 isAgg3 sizeOf3 zD fun p08 h03 c00=>?_;obtain rfl:=Zj.1 h03;refine Hj (x:=.tmp 139) Wv.1 isAgg3 sizeOf3 bD fun q08 i03 d00=>?_;obtain rfl:=Zj.1 i03;obtain ⟨c02,qS,h⟩:=Z1 h;obtain ⟨hi468,he468⟩:=Dn qS;refine To (g:=e03) (n:=8) [] [0,1,2,3,4,5,6,7] rfl mixed (by kernel_rfl) trivial (Z0 (Z8 nK 1) rfl rfl (Zc Hw pI (OB.ptr bD)) (Tm (c:=Iz ((v8).Loom)) rfl rfl .plain (fun _ _ h=>⟨h.ch,fun b hb _=>h.below.block b hb⟩) b00 rfl (Z0 (Z8 vB (((v8).Loom:Int).toNat * 1)) rfl rfl (Tk (α:=Int) underlying58 sizeOf3 qK (OB.ptr zD) rfl pS) (Tm (c:=Iz (jL)) rfl rfl .plain (fun _ _ h=>⟨h.ch,fun b hb _=>h.below.block b hb⟩) c00 rfl (Z0 (Z8 nK 4) rfl rfl (Zc Vu pI (OB.ptr bD)) (Tm (c:=Iz ((v8).Picks)) rfl rfl .plain (fun _ _ h=>⟨h.ch,fun b hb _=>h.below.block b hb⟩) d00 rfl (Z0 (Iz ((w64 (jL + (v8).Picks)))) rfl rfl (Gk rfl rfl rfl) (Z0 (Z8 vB (((v8).Loom:Int).toNat * 1)) rfl rfl (Tk (α:=Int) underlying58 sizeOf3 qK (OB.ptr zD) rfl qS) (Ka fun j03 r08 hs=>?_)))))))));have hfr:=hfr.ext hs;have eF:=eF.ext hs;have rF:=rF.ext hs;have oE:=oE.ext hs;have rE:=rE.ext hs;have lL:=lL.ext hs;have o458:=o458.ext hs;have zD:=zD.ext hs;clear hs;refine Z4 rfl (W2 (g:=j03) (Gd.dyn hi468) sizeOf3 rfl zD rfl (Zj.2 rfl) fun k03 s08 hs b495 rst hos=>?_);clear rst hos;have hfr:=hfr.stp hs;have eF:=eF.stp hs;have rF:=rF.stp hs rfl;have oE:=oE.stp hs;have rE:=rE.stp hs;have lL:=lL.stp hs;have o458:=o458.stp hs rfl;exact Zb (Tj (Zd (uZ (mP,(Fz iE ((v8).Loom) ((w64 (jL + (v8).Picks))))) _ _ ⟨k03,(jX),hfr,dX,eF,eX,rF,pT,oE,sT,rE,rfl,lL,o458,qK,b495,uT⟩ h)))
     ·rintro ⟨dK, lK⟩ g06 t08 ⟨l03, xT, hfr, kX, lX, mX, nX, yT, zT, aU, bU, cU, dU, eU, gU, iU, jU⟩ h
      refine Za (Zo jU rfl (Z9 (Iz ((w64 (aB + (1:Int))))) rfl rfl rfl rfl (Zg (Iz ((w64 (aB + (1:Int))))) rfl rfl ?_)));exact Z3 (sZ (dK,lK,(w64 (aB + (1:Int)))) _ _ ⟨l03,(xT),hfr,kX,lX,mX,nX,yT,zT,aU,bU,cU,dU,eU,gU,iU,rfl⟩ h)
   ·rintro ⟨dN, vC⟩ h06 u08 ⟨oX, kU, hfr, yO, lH, mL, aH, sN, kG, lU, sK, t03, tN, lG⟩ h
    refine Z5 (Z4 rfl (Tp (g:=oX) isAgg37 sizeOf37 mL aH fun m03 n03=>?_));obtain ⟨eW,g00,h⟩:=Z1 h;refine Z4 rfl (Zp (g:=oX) (vs:=[m03]) en13 (.cons rfl .nil) (wk13 n03 g00) fun o03 i06 p03 hs hr=>?_);have hfr:=hfr.ext hs;have lH:=lH.ext hs;have aH:=aH.ext hs;have kG:=kG.ext hs;have sK:=sK.ext hs;have lG:=lG.ext hs;have q03:=hr;refine Zo lU rfl ?_;obtain ⟨t5,h00,h⟩:=Z1 h;refine Z4 rfl (Zp (g:=o03) (vs:=[p03,kU]) en12 (.cons rfl (.cons rfl .nil)) (wk12 q03 sK h00) fun pX j06 v08 hs hr=>?_);have hfr:=hfr.ext hs;have lH:=lH.ext hs;have aH:=aH.ext hs;have kG:=kG.ext hs;have lG:=lG.ext hs;obtain ⟨l5,n8,c05,d05,rfl,nL,oL,rfl,rfl⟩:=hr;refine Zn (.tuple #[l5,n8,Iz (t5.2.2.1),Iz (t5.2.2.2)]) rfl rfl (Zx l5 (Zi rfl rfl) rfl (Zx n8 (Zi rfl rfl) rfl (Zx (Iz (t5.2.2.1)) (Zi rfl rfl) rfl (Zx (Iz (t5.2.2.2)) (Zi rfl rfl) rfl (Zg l5 rfl rfl (Zg n8 rfl rfl (Zg (Iz (t5.2.2.1)) rfl rfl (Zg (Iz (t5.2.2.2)) rfl rfl (Z3 (Zq h (fun (s:Unit) e w=>∃ (g:Gh) ,Fr gI wI g w∧e 8=v4∧RV g.m w (y5:List Z2) v4∧e 9=mB∧OB 2009 g w 37 (y8:PayList) mB∧e 18=i6∧RV g.m w (y56.1:List (List Str)) i6∧e 22=vB∧OB 2022 g w 58 (vC:Vector Int 3) vB∧e 25=l5∧RV g.m w (t5.1:List Int) l5∧e 26=n8∧RV g.m w (t5.2.1:List Int) n8) (fun X507 gW i00 h=>?_) ?_))))))))))
    ·obtain ⟨mG, hx, h⟩ := Z1 h
     refine Gl (fun e w=>∃ (g:Gh) ,Fr gI wI g w∧e 8=v4∧RV g.m w (y5:List Z2) v4∧e 9=mB∧OB 2009 g w 37 (y8:PayList) mB∧e 18=i6∧RV g.m w (y56.1:List (List Str)) i6∧e 22=vB∧OB 2022 g w 58 (vC:Vector Int 3) vB∧e 25=l5∧RV g.m w (t5.1:List Int) l5∧e 26=n8∧RV g.m w (t5.2.1:List Int) n8∧e 160=.bool (mG)) (fun Q' hQ=>?_) (fun k06 x08 hR=>?_)
     ·replace h := hx
      clear hx;refine Za (Zn (Iz (t5.2.2.2)) rfl rfl (Z9 (.bool ((t5.2.2.2 != (0:Int)))) rfl rfl rfl rfl (Zn (.bool ((t5.2.2.2 != (0:Int)))) rfl rfl ?_)));rcases Zt h with ⟨gG,h⟩ | ⟨gG,h⟩
      ·refine Zz rfl rfl gG rfl rfl ?_
       iterate 4 refine Zz rfl rfl gG rfl rfl ?_
       refine Zx (.bool true) (Zl (b:=(t5.2.2.2 != (0:Int))) rfl (G4 gG rfl)) rfl (Zb ?_);obtain rfl:=sinj h;exact hQ _ _ ⟨pX,hfr,yO,lH,mL,aH,sN,kG,tN,lG,rfl,nL,rfl,oL,rfl⟩
      ·refine Zy l5 (Zk rfl) rfl rfl gG rfl (Zy (Iz ((t5.1).length : Int)) (Gz underlying25 rfl nL) rfl rfl gG rfl (Zy n8 (Zk rfl) rfl rfl gG rfl (Zy (Iz ((t5.2.1).length : Int)) (Gz underlying25 rfl oL) rfl rfl gG rfl (Zy (.bool ((((t5.1).length : Int) != ((t5.2.1).length : Int)))) (Gk rfl rfl rfl) rfl rfl gG rfl (Zx (.bool ((((t5.1).length : Int) != ((t5.2.1).length : Int)))) (Zl (b := (t5.2.2.2 != (0 : Int))) rfl (G5 gG rfl)) rfl (Zb ?_))))))
       obtain rfl:=sinj h;exact hQ _ _ ⟨pX,hfr,yO,lH,mL,aH,sN,kG,tN,lG,rfl,nL,rfl,oL,rfl⟩
     ·clear hx
      obtain ⟨r03,hfr,qX,rX,sX,tX,mU,nU,oU,pU,qU,rU,sU,tU,xL⟩:=hR;rcases Zt h with ⟨gO,h⟩ | ⟨gO,h⟩
      ·refine Ta (Eq.trans (show ev _ _ = .bool (mG) from xL) (congrArg Value.bool gO)) (Z5 (Zg (.bool false) rfl rfl (Z3 (Ga (Gp ?_)))))
       obtain rfl:=sinj h;exact Tg rfl rfl (rq (.bool false)) ⟨_,hfr,rfl⟩
      ·refine Gs (Eq.trans (show ev _ _ = .bool (mG) from xL) (congrArg Value.bool gO)) ?_
       exact Zu (Zd (i00 () _ _ ⟨r03,hfr,qX,rX,sX,tX,mU,nU,oU,pU,qU,rU,sU,tU⟩ h))
    ·rintro _ l06 y08 ⟨s03, hfr, uX, vX, xX, yX, uU, vU, xU, yU, zU, aV, bV, cV⟩ h
     refine Z5 (Zg (Iz (0)) rfl rfl (Z3 (Zq h (fun (s:Int) e w=>∃ (g:Gh) ,Fr gI wI g w∧e 8=v4∧RV g.m w (y5:List Z2) v4∧e 29=Iz (s)) (fun X1743 dS zX h=>?_) ?_)))
     ·refine Z5 (Zg (Iz (0)) rfl rfl (Z3 (Zr (Q0 h (fun (s : Int × Int) e w => ∃ (g : Gh) , Fr gI wI g w ∧ e 8 = v4 ∧ RV g.m w (y5 : List Z2) v4 ∧ e 9 = mB ∧ OB 2009 g w 37 (y8 : PayList) mB ∧ e 18 = i6 ∧ RV g.m w (y56.1 : List (List Str)) i6 ∧ e 22 = vB ∧ OB 2022 g w 58 (vC : Vector Int 3) vB ∧ e 25 = l5 ∧ RV g.m w (t5.1 : List Int) l5 ∧ e 26 = n8 ∧ RV g.m w (t5.2.1 : List Int) n8 ∧ e 29 = Iz (s.1) ∧ e 30 = Iz (s.2)) ⟨s03, hfr, uX, vX, xX, yX, uU, vU, xU, yU, zU, aV, bV, cV, rfl, rfl⟩ (fun X1744 eS aY => ?_)))))
      rintro ⟨oB,o0⟩ e05 m06 ⟨rS,hfr,uN,vN,dV,eV,tP,uP,vP,xP,yL,zL,yP,zP,aM,bM⟩ h;refine Zq h (fun (s:Unit) e w=>∃ (g:Gh) ,Fr gI wI g w∧e 8=v4∧RV g.m w (y5:List Z2) v4∧e 9=mB∧OB 2009 g w 37 (y8:PayList) mB∧e 18=i6∧RV g.m w (y56.1:List (List Str)) i6∧e 22=vB∧OB 2022 g w 58 (vC:Vector Int 3) vB∧e 25=l5∧RV g.m w (t5.1:List Int) l5∧e 26=n8∧RV g.m w (t5.2.1:List Int) n8∧e 29=Iz (oB)∧e 30=Iz (o0)) (fun X1747 lS bY h=>?_) ?_
      ·refine Z5 (Zo bM rfl (Zo yL rfl (Zx (Iz ((t5.1).length : Int)) (Gz underlying25 rfl zL) rfl (Z9 (.bool ((decide (o0 < ((t5.1).length : Int))))) rfl rfl rfl rfl (Z3 ?_)))))
       rcases Zt h with ⟨cM,h⟩ | ⟨cM,h⟩
       ·refine G6 cM rfl ?_
        exact Zu (Zd (bY () _ _ ⟨rS,hfr,uN,vN,dV,eV,tP,uP,vP,xP,yL,zL,yP,zP,aM,bM⟩ h))
       ·refine G7 cM rfl (Tn (Gu (Gu (G8 ?_))))
        exact Zd (zX (oB) _ _ ⟨rS,hfr,uN,vN,aM⟩ h)
      ·rintro _ g05 n06 ⟨jO, hfr, tK, uE, uK, vE, tH, zB, uH, cC, nD, g8, lJ, yD, mJ, oD⟩ h
       refine Zq h (fun (s:Int) e w=>∃ (g:Gh) ,Fr gI wI g w∧e 8=v4∧RV g.m w (y5:List Z2) v4∧e 9=mB∧OB 2009 g w 37 (y8:PayList) mB∧e 18=i6∧RV g.m w (y56.1:List (List Str)) i6∧e 22=vB∧OB 2022 g w 58 (vC:Vector Int 3) vB∧e 25=l5∧RV g.m w (t5.1:List Int) l5∧e 26=n8∧RV g.m w (t5.2.1:List Int) n8∧e 29=Iz (s)∧e 30=Iz (o0)) (fun X2361 gS cY h=>?_) ?_
       ·refine Zr (Zq h (fun (s : Unit) e w => ∃ (g : Gh) , Fr gI wI g w ∧ e 8 = v4 ∧ RV g.m w (y5 : List Z2) v4 ∧ e 9 = mB ∧ OB 2009 g w 37 (y8 : PayList) mB ∧ e 18 = i6 ∧ RV g.m w (y56.1 : List (List Str)) i6 ∧ e 22 = vB ∧ OB 2022 g w 58 (vC : Vector Int 3) vB ∧ e 25 = l5 ∧ RV g.m w (t5.1 : List Int) l5 ∧ e 26 = n8 ∧ RV g.m w (t5.2.1 : List Int) n8 ∧ e 29 = Iz (oB) ∧ e 30 = Iz (o0)) (fun X2632 jS dY h => ?_) ?_)
        ·obtain ⟨jG, hx, h⟩ := Z1 h
         refine Gl (fun e w=>∃ (g:Gh) ,Fr gI wI g w∧e 8=v4∧RV g.m w (y5:List Z2) v4∧e 9=mB∧OB 2009 g w 37 (y8:PayList) mB∧e 18=i6∧RV g.m w (y56.1:List (List Str)) i6∧e 22=vB∧OB 2022 g w 58 (vC:Vector Int 3) vB∧e 25=l5∧RV g.m w (t5.1:List Int) l5∧e 26=n8∧RV g.m w (t5.2.1:List Int) n8∧e 29=Iz (oB)∧e 30=Iz (o0)∧e 195=.bool (jG)) (fun Q' hQ=>?_) (fun h05 o06 hR=>?_)
         ·replace h := hx
          clear hx;obtain ⟨aE,cK,h⟩:=Z1 h;have j00:=Gx g8 cK;refine Zs (x:=.tmp 169) isAgg3 sizeOf3 j00 fun p06 k00 dM=>?_;obtain rfl:=Zj.1 k00;rcases Zt h with ⟨uC,h⟩ | ⟨uC,h⟩
          ·refine To (g := jO) (n := 29) [] [0, 1, 2, 3, 4, 5, 6, 7, 8, 9, 10, 11, 12, 13, 14, 15, 16, 17, 18, 19, 20, 21, 22, 23, 24, 25, 26, 27, 28] rfl mixed (by kernel_rfl) trivial (Z0 l5 rfl rfl (Zk nD) (Z0 (Iz (o0)) rfl rfl (Zk oD) (Z0 (Tb l5 o0 1) rfl rfl (Zh (α := Int) underlying25 sizeOf3 rfl g8 rfl cK) (Tm (c := Iz (aE)) rfl rfl .plain (fun _ _ h => h.ch) dM rfl (Z0 (.bool ((decide (aE < (0 : Int))))) rfl rfl (Gk rfl rfl rfl) (Z0 (.bool ((decide (aE < (0 : Int))))) rfl rfl (Zk rfl) ?_))))))
           iterate 5 refine L_s rfl rfl rfl uC rfl ?_
           refine Z0 (.bool true) rfl rfl (Zl (b:=(decide (aE < (0:Int)))) rfl (G4 uC rfl)) (Xb (fun _=>rfl) 17 rfl (Ka fun l00 q06 hs=>?_));have hfr:=hfr.ext hs;have uE:=uE.ext hs;have vE:=vE.ext hs;have zB:=zB.ext hs;have cC:=cC.ext hs;have g8:=g8.ext hs;have yD:=yD.ext hs;clear hs;refine Zb ?_;obtain rfl:=sinj h;exact hQ _ _ ⟨l00,hfr,tK,uE,uK,vE,tH,zB,uH,cC,nD,g8,lJ,yD,mJ,oD,rfl⟩
          ·obtain ⟨xE, eM, h⟩ := Z1 h
           have m00:=Gx g8 eM;refine Zs (x:=.tmp 175) isAgg3 sizeOf3 m00 fun r06 n00 zO=>?_;obtain rfl:=Zj.1 n00;rcases Zt h with ⟨l9,h⟩ | ⟨l9,h⟩
           ·refine To (g := jO) (n := 29) [] [0, 1, 2, 3, 4, 5, 6, 7, 8, 9, 10, 11, 12, 13, 14, 15, 16, 17, 18, 19, 20, 21, 22, 23, 24, 25, 26, 27, 28] rfl mixed (by kernel_rfl) trivial (Z0 l5 rfl rfl (Zk nD) (Z0 (Iz (o0)) rfl rfl (Zk oD) (Z0 (Tb l5 o0 1) rfl rfl (Zh (α := Int) underlying25 sizeOf3 rfl g8 rfl cK) (Tm (c := Iz (aE)) rfl rfl .plain (fun _ _ h => h.ch) dM rfl (Z0 (.bool ((decide (aE < (0 : Int))))) rfl rfl (Gk rfl rfl rfl) (Z0 (.bool ((decide (aE < (0 : Int))))) rfl rfl (Zk rfl) (L_y l5 rfl rfl rfl rfl uC (Zk nD) (L_y (Iz (o0)) rfl rfl rfl rfl uC (Zk oD) (L_y (Tb l5 o0 1) rfl rfl rfl rfl uC (Zh (α := Int) underlying25 sizeOf3 rfl g8 rfl eM) (Tm (c := Iz (xE)) rfl rfl (.yes2 rfl rfl uC) (fun _ _ h => h.ch) zO rfl (L_y (.bool ((decide (xE > (2 : Int))))) rfl rfl rfl rfl uC (Gk rfl rfl rfl) (Z0 (.bool ((decide (xE > (2 : Int))))) rfl rfl (Zl (b := (decide (aE < (0 : Int)))) rfl (G5 uC rfl)) (Z0 (.bool ((decide (xE > (2 : Int))))) rfl rfl (Zk rfl) ?_)))))))))))))
            iterate 15 refine L_s rfl rfl rfl l9 rfl ?_
            refine Z0 (.bool true) rfl rfl (Zl (b:=(decide (xE > (2:Int)))) rfl (G4 l9 rfl)) (Ka fun o00 s06 hs=>?_);have hfr:=hfr.ext hs;have uE:=uE.ext hs;have vE:=vE.ext hs;have zB:=zB.ext hs;have cC:=cC.ext hs;have g8:=g8.ext hs;have yD:=yD.ext hs;clear hs;refine Zb ?_;obtain rfl:=sinj h;exact hQ _ _ ⟨o00,hfr,tK,uE,uK,vE,tH,zB,uH,cC,nD,g8,lJ,yD,mJ,oD,rfl⟩
           ·obtain ⟨iL, aP, h⟩ := Z1 h
            have p00:=Gx g8 aP;refine Zs (x:=.tmp 183) isAgg3 sizeOf3 p00 fun t06 q00 eY=>?_;obtain rfl:=Zj.1 q00;obtain ⟨vJ,bP,h⟩:=Z1 h;have r00:=Gx zB bP;refine Zs (x:=.tmp 185) isAgg66 sizeOf66 r00 fun s00 t00 gY=>?_;obtain ⟨xJ,cP,h⟩:=Z1 h;have u00:=Gx g8 cP;refine Zs (x:=.tmp 190) isAgg3 sizeOf3 u00 fun u06 v00 iY=>?_;obtain rfl:=Zj.1 v00;obtain ⟨zJ,dP,h⟩:=Z1 h;obtain ⟨hi2861,he2861⟩:=Dn dP;refine Rf (off:=((xJ:Int).toNat * 1)) (x:=.tmp 192) (Gd.dyn hi2861).1 he2861 isAgg3 sizeOf3 cC fun v06 x00 jY=>?_;obtain rfl:=Zj.1 x00;refine To (g:=jO) (n:=29) [] [0,1,2,3,4,5,6,7,8,9,10,11,12,13,14,15,16,17,18,19,20,21,22,23,24,25,26,27,28] rfl mixed (by kernel_rfl) trivial (Z0 l5 rfl rfl (Zk nD) (Z0 (Iz (o0)) rfl rfl (Zk oD) (Z0 (Tb l5 o0 1) rfl rfl (Zh (α:=Int) underlying25 sizeOf3 rfl g8 rfl cK) (Tm (c:=Iz (aE)) rfl rfl .plain (fun _ _ h=>h.ch) dM rfl (Z0 (.bool ((decide (aE < (0:Int))))) rfl rfl (Gk rfl rfl rfl) (Z0 (.bool ((decide (aE < (0:Int))))) rfl rfl (Zk rfl) (L_y l5 rfl rfl rfl rfl uC (Zk nD) (L_y (Iz (o0)) rfl rfl rfl rfl uC (Zk oD) (L_y (Tb l5 o0 1) rfl rfl rfl rfl uC (Zh (α:=Int) underlying25 sizeOf3 rfl g8 rfl eM) (Tm (c:=Iz (xE)) rfl rfl (.yes2 rfl rfl uC) (fun _ _ h=>h.ch) zO rfl (L_y (.bool ((decide (xE > (2:Int))))) rfl rfl rfl rfl uC (Gk rfl rfl rfl) (Z0 (.bool ((decide (xE > (2:Int))))) rfl rfl (Zl (b:=(decide (aE < (0:Int)))) rfl (G5 uC rfl)) (Z0 (.bool ((decide (xE > (2:Int))))) rfl rfl (Zk rfl) (L_y i6 rfl rfl rfl rfl l9 (Zk tH) (L_y l5 rfl rfl rfl rfl l9 (Zk nD) (L_y (Iz (o0)) rfl rfl rfl rfl l9 (Zk oD) ?_))))))))))))))));refine L_y (Tb l5 o0 1) rfl rfl rfl rfl l9 (Zh (α:=Int) underlying25 sizeOf3 rfl g8 rfl aP) (Tm (c:=Iz (iL)) rfl rfl (.yes2 rfl rfl l9) (fun _ _ h=>h.ch) eY rfl (L_y (Tb i6 iL 1) rfl rfl rfl rfl l9 (Zh (α:=List Str) underlying49 sizeOf66 rfl zB rfl bP) (Tm (c:=s00) rfl rfl (.yes2 rfl rfl l9) (fun _ _ h=>h.ch) gY rfl (L_y (Iz ((vJ).length:Int)) rfl rfl rfl rfl l9 (Gz underlying66 rfl t00) (L_y l5 rfl rfl rfl rfl l9 (Zk nD) (L_y (Iz (o0)) rfl rfl rfl rfl l9 (Zk oD) (L_y (Tb l5 o0 1) rfl rfl rfl rfl l9 (Zh (α:=Int) underlying25 sizeOf3 rfl g8 rfl cP) (Tm (c:=Iz (xJ)) rfl rfl (.yes2 rfl rfl l9) (fun _ _ h=>h.ch) iY rfl (L_y (Z8 vB ((xJ:Int).toNat * 1)) rfl rfl rfl rfl l9 (Tk (α:=Int) underlying58 sizeOf3 uH (OB.ptr cC) rfl dP) (Tm (c:=Iz (zJ)) rfl rfl (.yes2 rfl rfl l9) (fun _ _ h=>⟨h.ch,fun b hb _=>h.below.block b hb⟩) jY rfl (L_y (.bool ((((vJ).length:Int) != zJ))) rfl rfl rfl rfl l9 (Gk rfl rfl rfl) (Z0 (.bool ((((vJ).length:Int) != zJ))) rfl rfl (Zl (b:=(decide (xE > (2:Int)))) rfl (G5 l9 rfl)) (Ka fun y00 x06 hs=>?_)))))))))))));have hfr:=hfr.ext hs;have uE:=uE.ext hs;have vE:=vE.ext hs;have zB:=zB.ext hs;have cC:=cC.ext hs;have g8:=g8.ext hs;have yD:=yD.ext hs;clear hs;refine Zb ?_;obtain rfl:=sinj h;exact hQ _ _ ⟨y00,hfr,tK,uE,uK,vE,tH,zB,uH,cC,nD,g8,lJ,yD,mJ,oD,rfl⟩
         ·clear hx
          obtain ⟨z00,hfr,gV,iV,jV,kV,bQ,cQ,dQ,eQ,gQ,iQ,jQ,kQ,lQ,mQ,aL⟩:=hR;rcases Zt h with ⟨iM,h⟩ | ⟨iM,h⟩
          ·refine Ta (Eq.trans (show ev _ _ = .bool (jG) from aL) (congrArg Value.bool iM)) (Z5 (Zg (.bool false) rfl rfl (Z3 (Ga (Gp (Tl (Gp (Gp (Tl (Gp ?_))))))))))
           obtain rfl:=sinj h;exact Tg rfl rfl (rq (.bool false)) ⟨_,hfr,rfl⟩
          ·refine Gs (Eq.trans (show ev _ _ = .bool (jG) from aL) (congrArg Value.bool iM)) ?_
           exact Zu (Zd (dY () _ _ ⟨z00,hfr,gV,iV,jV,kV,bQ,cQ,dQ,eQ,gQ,iQ,jQ,kQ,lQ,mQ⟩ h))
        ·rintro _ i05 a01 ⟨sS, hfr, xN, qI, vK, mH, jM, xH, nJ, aG, oJ, bG, pJ, cG, kM, yH⟩ h
         refine Zf (Ht (x:=.tmp 9) isAgg37 sizeOf37 mH fun tS b01 kY=>?_);obtain ⟨kI,mY,h⟩:=Z1 h;obtain ⟨sJ,eP,h⟩:=Z1 h;have c01:=Gx bG eP;refine Zs (x:=.tmp 201) isAgg3 sizeOf3 c01 fun y06 d01 nY=>?_;obtain rfl:=Zj.1 d01;obtain ⟨gH,gP,h⟩:=Z1 h;obtain ⟨hi2911,he2911⟩:=Dn gP;refine Rf (off:=((sJ:Int).toNat * 1)) (x:=.tmp 203) (Gd.dyn hi2911).1 he2911 isAgg3 sizeOf3 aG fun z06 e01 oY=>?_;obtain rfl:=Zj.1 e01;have uS:RV sS.m a01 (⟨0,(50:Int),(w64 ((1000:Int) * gH)),[],0⟩:Gf) (.agg (Td [[Iz 0],[Iz 0],[Iz 0],[.slice none 0 0],[Iz 0]] [(1,Iz (50)),(2,Iz ((w64 ((1000:Int) * gH))))]).flatten.toArray):=Tc rfl (Gm (Zw) (Gm (rfl) (Gm (rfl) (Gm (G9) (Tf (Zw))))));generalize pY:(Value.agg (Td [[Iz 0],[Iz 0],[Iz 0],[.slice none 0 0],[Iz 0]] [(1,Iz (50)),(2,Iz ((w64 ((1000:Int) * gH))))]).flatten.toArray)=vS at uS;obtain ⟨l8,qY,h⟩:=Z1 h;refine To (g:=sS) (n:=20) [(1,(fun v g w=>RV g.m w kI v)),(10,(fun v g w=>∃ y0 y1 y2 y3:Value,v=.tuple #[y0,y1,y2,y3]∧y0=Iz (l8.1)∧y1=Iz (l8.2.1)∧y2=Iz (l8.2.2.1)∧y3=Iz (l8.2.2.2)))] [0,1,2,3,4,5,6,7,8,9,10,11,12,13,14,15,16,17,18,19] rfl mixed (by kernel_rfl) (⟨fun _=>Jf,fun _=>(As fun _=>(As fun _=>(As fun _=>(As fun _=>(W0 (Wk _) (W0 (Wk _) (W0 (Wk _) (W0 (Wk _) (Wk _))))))))),trivial⟩) (Tm (c:=tS) rfl rfl .plain (fun _ _ h=>⟨h.ch,fun b hb _=>h.below.block b hb⟩) kY vK (W7 (φ:=fun v g w=>RV g.m w kI v) rfl rfl .plain (fun g w hd=>Zp (g:=g) (vs:=[tS]) en13 (.cons rfl .nil) (wk13 (b01.ext hd.1) mY) fun g' w' v hs hr=>⟨g',hs,hr⟩) (fun kO hv=>?_)));obtain ⟨_,_,_,rq2905⟩:=hv;refine Z0 l5 rfl rfl (Zk oJ) (Z0 (Iz (o0)) rfl rfl (Zk yH) (Z0 (Tb l5 o0 1) rfl rfl (Zh (α:=Int) underlying25 sizeOf3 rfl bG rfl eP) (Tm (c:=Iz (sJ)) rfl rfl .plain (fun _ _ h=>h.ch) nY rfl (Z0 (Z8 vB ((sJ:Int).toNat * 1)) rfl rfl (Tk (α:=Int) underlying58 sizeOf3 nJ (OB.ptr aG) rfl gP) (Tm (c:=Iz (gH)) rfl rfl .plain (fun _ _ h=>⟨h.ch,fun b hb _=>h.below.block b hb⟩) oY rfl (Z0 (Iz ((w64 ((1000:Int) * gH)))) rfl rfl (Gk rfl rfl rfl) (Z0 vS rfl rfl (pY ▸ Tu (vs:=[(1,Iz (50)),(2,Iz ((w64 ((1000:Int) * gH))))]) [[Iz 0],[Iz 0],[Iz 0],[.slice none 0 0],[Iz 0]] Pw rfl rfl (.cons rfl (.cons rfl .nil)) ⟨⟨_,rfl,rfl⟩,⟨⟨_,rfl,rfl⟩,trivial⟩⟩) (W7 (φ:=fun v g w=>∃ y0 y1 y2 y3:Value,v=.tuple #[y0,y1,y2,y3]∧y0=Iz (l8.1)∧y1=Iz (l8.2.1)∧y2=Iz (l8.2.2.1)∧y3=Iz (l8.2.2.2)) rfl rfl .plain (fun g w hd=>Zp (g:=g) (vs:=[kO,vS]) en14 (.cons rfl (.cons rfl .nil)) (wk14 (D4 (A:=fun g w=>RV g.m w kI kO) 1 rfl rfl (K7 hd)) (uS.ext hd.1) qY) fun g' w' v hs hr=>⟨g',hs,hr⟩) (fun a07 hv=>?_)))))))));obtain ⟨_,_,_,_,_,_,_,rfl,rfl,rfl,rfl,rfl⟩:=hv;refine Z0 (.tuple #[Iz (l8.1),Iz (l8.2.1),Iz (l8.2.2.1),Iz (l8.2.2.2)]) rfl rfl (Zk rfl) (Z0 (Iz (l8.1)) rfl rfl (Zi rfl rfl) (Z0 (Iz (l8.2.1)) rfl rfl (Zi rfl rfl) (Z0 (Iz (l8.2.2.1)) rfl rfl (Zi rfl rfl) (Z0 (Iz (l8.2.2.2)) rfl rfl (Zi rfl rfl) (Z0 (Iz (l8.1)) rfl rfl (Te rfl) (Z0 (Iz (l8.2.1)) rfl rfl (Te rfl) (Z0 (Iz (l8.2.2.1)) rfl rfl (Te rfl) (Z0 (Iz (l8.2.2.2)) rfl rfl (Te rfl) (J6 fun lO b07 hall=>?_)))))))));have hs:=hall.1;have hfr:=hfr.ext hs;have qI:=qI.ext hs;have mH:=mH.ext hs;have xH:=xH.ext hs;have aG:=aG.ext hs;have bG:=bG.ext hs;have cG:=cG.ext hs;have c07:=(T1 (A:=fun g w=>RV g.m w kI kO) 1 rfl hall);clear hs hall;refine Z3 (Zq h (fun (s:Unit) e w=>∃ (g:Gh) ,Fr gI wI g w∧e 8=v4∧RV g.m w (y5:List Z2) v4∧e 9=mB∧OB 2009 g w 37 (y8:PayList) mB∧e 18=i6∧RV g.m w (y56.1:List (List Str)) i6∧e 22=vB∧OB 2022 g w 58 (vC:Vector Int 3) vB∧e 25=l5∧RV g.m w (t5.1:List Int) l5∧e 26=n8∧RV g.m w (t5.2.1:List Int) n8∧e 29=Iz (oB)∧e 30=Iz (o0)) (fun X2955 iS uY h=>?_) ?_)
         ·obtain ⟨iG, hx, h⟩ := Z1 h
          refine Gl (fun e w=>∃ (g:Gh) ,Fr gI wI g w∧e 8=v4∧RV g.m w (y5:List Z2) v4∧e 9=mB∧OB 2009 g w 37 (y8:PayList) mB∧e 18=i6∧RV g.m w (y56.1:List (List Str)) i6∧e 22=vB∧OB 2022 g w 58 (vC:Vector Int 3) vB∧e 25=l5∧RV g.m w (t5.1:List Int) l5∧e 26=n8∧RV g.m w (t5.2.1:List Int) n8∧e 29=Iz (oB)∧e 30=Iz (o0)∧e 221=.bool (iG)) (fun Q' hQ=>?_) (fun j05 d07 hR=>?_)
          ·replace h := hx
           clear hx;refine Za (Zn (Iz (l8.2.2.2)) rfl rfl (Z9 (.bool ((l8.2.2.2 != (0:Int)))) rfl rfl rfl rfl (Zn (.bool ((l8.2.2.2 != (0:Int)))) rfl rfl ?_)));rcases Zt h with ⟨bE,h⟩ | ⟨bE,h⟩
           ·refine Zz rfl rfl bE rfl rfl ?_
            iterate 5 refine Zz rfl rfl bE rfl rfl ?_
            refine Zx (.bool true) (Zl (b:=(l8.2.2.2 != (0:Int))) rfl (G4 bE rfl)) rfl (Zb ?_);obtain rfl:=sinj h;exact hQ _ _ ⟨lO,hfr,xN,qI,vK,mH,jM,xH,nJ,aG,oJ,bG,pJ,cG,kM,yH,rfl⟩
           ·refine Zy (Iz (l8.2.2.1)) (Zk rfl) rfl rfl bE rfl (Zy n8 (Zk pJ) rfl rfl bE rfl (Zy (Iz (o0)) (Zk yH) rfl rfl bE rfl ?_))
            obtain ⟨gL,iP,h⟩:=Z1 h;refine Zy (Tb n8 o0 1) (Zh (α:=Int) underlying25 sizeOf3 rfl cG rfl iP) rfl rfl bE rfl ?_;have g01:=Gx cG iP;refine Ze (.yes2 rfl rfl bE) rfl (Z6 (g:=lO) isAgg3 sizeOf3 rfl g01 fun e07 h01=>?_);obtain rfl:=Zj.1 h01;refine Zy (.bool ((l8.2.2.1 != gL))) (Gk rfl rfl rfl) rfl rfl bE rfl (Zx (.bool ((l8.2.2.1 != gL))) (Zl (b:=(l8.2.2.2 != (0:Int))) rfl (G5 bE rfl)) rfl (Zb ?_));obtain rfl:=sinj h;exact hQ _ _ ⟨lO,hfr,xN,qI,vK,mH,jM,xH,nJ,aG,oJ,bG,pJ,cG,kM,yH,rfl⟩
          ·clear hx
           obtain ⟨i01,hfr,lV,mV,nV,oV,nQ,oQ,pQ,qQ,rQ,sQ,tQ,uQ,vQ,xQ,bL⟩:=hR;rcases Zt h with ⟨pM,h⟩ | ⟨pM,h⟩
           ·refine Ta (Eq.trans (show ev _ _ = .bool (iG) from bL) (congrArg Value.bool pM)) (Z5 (Zg (.bool false) rfl rfl (Z3 (Ga (Gp (Tl (Gp (Gp (Tl (Gp ?_))))))))))
            obtain rfl:=sinj h;exact Tg rfl rfl (rq (.bool false)) ⟨_,hfr,rfl⟩
           ·refine Gs (Eq.trans (show ev _ _ = .bool (iG) from bL) (congrArg Value.bool pM)) ?_
            exact Zu (Zd (uY () _ _ ⟨i01,hfr,lV,mV,nV,oV,nQ,oQ,pQ,qQ,rQ,sQ,tQ,uQ,vQ,xQ⟩ h))
         ·rintro _ k05 g07 ⟨mO, hfr, pV, qV, rV, sV, qM, qJ, yQ, zQ, rM, rJ, aR, bR, dR, sM⟩ h
          refine Za (Zo dR rfl (Zo qM rfl (Zo rM rfl (Zo sM rfl ?_))));obtain ⟨bO,jP,h⟩:=Z1 h;refine Zx (Tb l5 o0 1) (Zh (α:=Int) underlying25 sizeOf3 rfl rJ rfl jP) rfl ?_;have j01:=Gx rJ jP;refine Z4 rfl (Z6 (g:=mO) isAgg3 sizeOf3 rfl j01 fun h07 k01=>?_);obtain rfl:=Zj.1 k01;obtain ⟨lI,kP,h⟩:=Z1 h;refine Zx (Tb i6 bO 1) (Zh (α:=List Str) underlying49 sizeOf66 rfl qJ rfl kP) rfl ?_;have l01:=Gx qJ kP;refine Z4 rfl (Z6 (g:=mO) isAgg66 sizeOf66 rfl l01 fun i07 m01=>(Zx (Iz ((lI).length:Int)) (Gz underlying66 rfl m01) rfl (Z9 (Iz ((w64 (oB + ((lI).length:Int))))) rfl rfl rfl rfl (Zg (Iz ((w64 (oB + ((lI).length:Int))))) rfl rfl ?_))));exact Zb (Tj (Zd (cY ((w64 (oB + ((lI).length:Int)))) _ _ ⟨mO,hfr,pV,qV,rV,sV,qM,qJ,yQ,zQ,rM,rJ,aR,bR,rfl,sM⟩ h)))
       ·rintro sI l05 j07 ⟨n01, hfr, tV, uV, vV, xV, eR, gR, iR, jR, lR, mR, nR, oR, pR, qR⟩ h
        refine Za (Zo qR rfl (Z9 (Iz ((w64 (o0 + (1:Int))))) rfl rfl rfl rfl (Zg (Iz ((w64 (o0 + (1:Int))))) rfl rfl ?_)));exact Z3 (aY (sI,(w64 (o0 + (1:Int)))) _ _ ⟨n01,hfr,tV,uV,vV,xV,eR,gR,iR,jR,lR,mR,nR,oR,pR,rfl⟩ h)
     ·rintro lD m05 k07 ⟨o01, hfr, yV, zV, rR⟩ h
      refine Z5 (Zg (Iz (0)) rfl rfl (Z3 ?_));obtain ⟨yE,hx,h⟩:=Z1 h;refine Gl (fun e w=>∃ (g:Gh) ,Fr gI wI g w∧e 29=Iz (lD)∧e 35=Iz (yE)) (fun Q' hQ=>?_) (fun n05 l07 hR=>?_)
      ·replace h := hx
       clear hx;refine Z5 (Zg (Iz (0)) rfl rfl (Z3 (Zr (Q0 h (fun (s:Int × Int) e w=>∃ (g:Gh) ,Fr gI wI g w∧e 8=v4∧RV g.m w (y5:List Z2) v4∧e 29=Iz (lD)∧e 35=Iz (s.1)∧e 36=Iz (s.2)) ⟨o01,hfr,yV,zV,rR,rfl,rfl⟩ (fun X2990 bS vY=>?_)))));rintro ⟨sF,nB⟩ o05 m07 ⟨xS,hfr,yN,zN,tM,uM,vM⟩ h;refine Zq h (fun (s:Unit) e w=>∃ (g:Gh) ,Fr gI wI g w∧e 8=v4∧RV g.m w (y5:List Z2) v4∧e 29=Iz (lD)∧e 35=Iz (sF)∧e 36=Iz (nB)) (fun X2993 cS xY h=>?_) ?_
       ·refine Z5 (Zo vM rfl (Zo yN rfl (Zx (Iz ((y5).length : Int)) (Gz underlying33 rfl zN) rfl (Z9 (.bool ((decide (nB < ((y5).length : Int))))) rfl rfl rfl rfl (Z3 ?_)))))
        rcases Zt h with ⟨xM,h⟩ | ⟨xM,h⟩
        ·refine G6 xM rfl ?_
         exact Zu (Zd (xY () _ _ ⟨xS,hfr,yN,zN,tM,uM,vM⟩ h))
        ·refine G7 xM rfl (Tn (Gu (Gu (G8 ?_))))
         obtain rfl:=sinj h;exact hQ _ _ ⟨xS,hfr,tM,uM⟩
       ·rintro _ p05 n07 ⟨yS, hfr, aO, xK, tR, uR, bN⟩ h
        obtain ⟨nH,hx,h⟩:=Z1 h;refine Gl (fun e w=>∃ (g:Gh) ,Fr gI wI g w∧e 8=v4∧RV g.m w (y5:List Z2) v4∧e 29=Iz (lD)∧e 35=Iz (nH)∧e 36=Iz (nB)) (fun Q' hQ=>?_) (fun q05 o07 hR=>?_)
        ·replace h := hx
         clear hx;refine Zr (Za (Zo uR rfl (Zo aO rfl (Zo bN rfl ?_))));obtain ⟨dL,lP,h⟩:=Z1 h;refine Zx (Tb v4 nB 5) (Zh (α:=Z2) underlying33 sizeOf60 rfl xK rfl lP) rfl ?_;have zS:=Gx xK lP;refine Zx (Z8 (Tb v4 nB 5) 4) (Zc Vu rfl (PT.ptr zS)) rfl ?_;have p01:=Zm (Wv).1 zS;refine Z4 rfl (Z6 (g:=yS) isAgg3 sizeOf3 rfl p01 fun p07 q01=>?_);obtain rfl:=Zj.1 q01;refine Z9 (Iz ((w64 (sF + (dL).Picks)))) rfl rfl rfl rfl (Zg (Iz ((w64 (sF + (dL).Picks)))) rfl rfl (Zb (Tj ?_)));obtain rfl:=sinj h;exact hQ _ _ ⟨yS,hfr,aO,xK,tR,rfl,bN⟩
        ·clear hx
         obtain ⟨r01,hfr,aW,bW,vR,xR,yR⟩:=hR;refine Za (Zo yR rfl (Z9 (Iz ((w64 (nB + (1:Int))))) rfl rfl rfl rfl (Zg (Iz ((w64 (nB + (1:Int))))) rfl rfl ?_)));exact Z3 (vY (nH,(w64 (nB + (1:Int)))) _ _ ⟨r01,hfr,aW,bW,vR,xR,rfl⟩ h)
      ·clear hx
       obtain ⟨eT,hfr,zR,aS⟩:=hR;obtain ⟨jI,hx,h⟩:=Z1 h;refine Gl (fun e w=>∃ (g:Gh) ,Fr gI wI g w∧e 6=.bool (jI)) (fun Q' hQ=>?_) (fun r05 q07 hR=>?_)
       ·replace h := hx
        clear hx;refine Za (Zo zR rfl (Zo aS rfl (Z9 (.bool ((lD == yE))) rfl rfl rfl rfl (Zn (.bool ((lD == yE))) rfl rfl ?_))));rcases Zt h with ⟨bI,h⟩ | ⟨bI,h⟩
        ·obtain ⟨iI, yY, h⟩ := Z1 h
         refine Ze (.yes2 rfl rfl bI) rfl (Zp (g:=eT) (vs:=[]) en15 .nil (wk15  yY) fun lT s05 r07 hs hr=>?_);have hfr:=hfr.ext hs;subst hr;refine Zx (.bool (iI)) (Zl (b:=(lD == yE)) rfl (G4 bI rfl)) rfl (Zn (.bool (iI)) rfl rfl ?_);rcases Zt h with ⟨dI,h⟩ | ⟨dI,h⟩
         ·obtain ⟨eL, zY, h⟩ := Z1 h
          refine Ze (.yes2 rfl rfl dI) rfl (Zp (g:=lT) (vs:=[]) en16 .nil (wk16 (hTI.ch hfr.ch)  zY) fun s01 t05 s07 hs hr=>?_);have hfr:=hfr.ext hs;subst hr;refine Zx (.bool (eL)) (Zl (b:=iI) rfl (G4 dI rfl)) rfl (Zg (.bool (eL)) rfl rfl (Zb ?_));obtain rfl:=sinj h;exact hQ _ _ ⟨s01,hfr,rfl⟩
         ·refine Zz rfl rfl dI rfl rfl (Zx (.bool false) (Zl (b := iI) rfl (G5 dI rfl)) rfl (Zg (.bool false) rfl rfl (Zb ?_)))
          obtain rfl:=sinj h;exact hQ _ _ ⟨lT,hfr,rfl⟩
        ·refine Zz rfl rfl bI rfl rfl (Zx (.bool false) (Zl (b := (lD == yE)) rfl (G5 bI rfl)) rfl (Qv 3 rfl (Zg (.bool false) rfl rfl (Zb ?_))))
         obtain rfl:=sinj h;exact hQ _ _ ⟨eT,hfr,rfl⟩
       ·clear hx
        obtain ⟨t07,hfr,cW⟩:=hR;refine Ga ?_;obtain rfl:=sinj h;exact Tg rfl rfl (show _=.bool (jI) from cW) ⟨_,hfr,rfl⟩
end Go.Proofs.YtjjbobaoifflpaaGreatDoor
