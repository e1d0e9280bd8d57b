import Derived.Test.YtbelgnbjkciafaaGreatDoorCode2
set_option maxRecDepth 8000
set_option maxHeartbeats 4000000
namespace Go.Proofs.YtbelgnbjkciafaaGreatDoor
open Go.RowKit
def f14 :Option (Bool):=
 (f12 ((⟨(60:Int),(1:Int),([(⟨(30:Int),(70:Int)⟩:BeamPair)]:List BeamPair),(300000:Int)⟩:BeamTake))).bind fun y8=>
 (f28 y8).bind fun t5=>
 (f12 ((⟨(60:Int),(1:Int),([(⟨(30:Int),(70:Int)⟩:BeamPair)]:List BeamPair),(300000:Int)⟩:BeamTake))).bind fun nD=>
 (f13 nD ((25400:Int))).bind fun o0=>
 (f30 ((1000000:Int)) ((1000000:Int))).bind fun vB=>
 (f30 ((10:Int)) ((20:Int))).bind fun yB=>
 (f30 ((50:Int)) ((60:Int))).bind fun y23=>
 (f30 ((1000:Int)) ((2000:Int))).bind fun zB=>
 (f29 ((⟨vB,yB,y23,zB⟩:BeamWarp)) ((947400:Int))).bind fun l5=>
 Option.bind (α:=Bool) (
  bif (t5.2 == (0 : Int)) then
   bif (o0.2 == (0 : Int)) then
    bif (l5.2 == (0 : Int)) then
     bif (decide (t5.1 = (⟨(15000 : Int), (7 : Int)⟩ : Ratio))) then
      bif (o0.1 == (11 : Int)) then
       some ((l5.1 == (1000000:Int)))
      else
       some (false)
     else
      some (false)
    else
     some (false)
   else
    some (false)
  else
   some (false)
  ) fun aB=>
 some (aB)
theorem en14:Enters Tryz.prog 14:=enters_of Tryz.func14 (by kernel_rfl) rfl
theorem wk14 {gI:Gh} {wI:World}   {r:Bool} (h:f14 =some r):Fn Tryz.prog 14 #[] gI wI (fun _ _ v=>v=.bool (r)):=by
 unfold f14 at h
 refine fn_of_E Tryz.func14 rfl (Nat.le_of_ble_eq_true rfl) fun g0 hm hfr=>?_
 show E _ 55 none _ _ _ _ _
 refine E_seq (E_region (EL_at (.bool false) rfl rfl ?_))
 refine EL_nil (thn_n (E_seq (E_region ?_)))
 have r1:RV g0.m wI (⟨(30:Int),(70:Int)⟩:BeamPair) (.agg (setCh [[.int .i64 0],[.int .i64 0]] [(0,.int .i64 (30)),(1,.int .i64 (70))]).flatten.toArray):=RV_build rfl (rep_pair (rfl) (rep_last (rfl)))
 generalize hv1:(Value.agg (setCh [[.int .i64 0],[.int .i64 0]] [(0,.int .i64 (30)),(1,.int .i64 (70))]).flatten.toArray)=v1 at r1
 refine EL_p v1 (hv1 ▸ P_build (vs:=[(0,.int .i64 (30)),(1,.int .i64 (70))]) [[.int .i64 0],[.int .i64 0]] lay_69 rfl rfl (.cons rfl (.cons rfl .nil)) ⟨⟨_,rfl,rfl⟩,⟨⟨_,rfl,rfl⟩,trivial⟩⟩) rfl ?_
 refine EL_do .plain rfl (D_buildSlice (g:=g0) 3009 (xs:=([(⟨(30:Int),(70:Int)⟩:BeamPair)]:List BeamPair)) (vs:=[v1]) Tryz.underlying35 Tryz.sizeOf69 Tryz.zeroValue69 rfl rfl (.cons rfl .nil) (RVs.cons r1 RVs.nil) rfl rfl fun g2 w2 v2 hs o2 r2 hxt hfl=>?_)
 have hfr:=hfr.stp hs
 have r3:RV g2.m _ (⟨(60:Int),(1:Int),([(⟨(30:Int),(70:Int)⟩:BeamPair)]:List BeamPair),(300000:Int)⟩:BeamTake) (.agg (setCh [[.int .i64 0],[.int .i64 0],[.slice none 0 0],[.int .i64 0]] [(0,.int .i64 (60)),(1,.int .i64 (1)),(2,v2),(3,.int .i64 (300000))]).flatten.toArray):=RV_build rfl (rep_pair (rfl) (rep_pair (rfl) (rep_pair (RV.cells r2) (rep_last (rfl)))))
 generalize hv3:(Value.agg (setCh [[.int .i64 0],[.int .i64 0],[.slice none 0 0],[.int .i64 0]] [(0,.int .i64 (60)),(1,.int .i64 (1)),(2,v2),(3,.int .i64 (300000))]).flatten.toArray)=v3 at r3
 refine EL_p v3 (hv3 ▸ P_build (vs:=[(0,.int .i64 (60)),(1,.int .i64 (1)),(2,v2),(3,.int .i64 (300000))]) [[.int .i64 0],[.int .i64 0],[.slice none 0 0],[.int .i64 0]] lay_37 rfl rfl (.cons rfl (.cons rfl (.cons rfl (.cons rfl .nil)))) ⟨⟨_,rfl,rfl⟩,⟨⟨_,rfl,rfl⟩,⟨⟨_,rfl,cells_size r2⟩,⟨⟨_,rfl,rfl⟩,trivial⟩⟩⟩⟩) rfl ?_
 refine EL_do .plain rfl (D_allocOc (g:=g2) 2001 (⟨0,0,[],0⟩:BeamTake) Tryz.zeroValue37 (fun m w=>⟨_,(rep_two rep_int (rep_two rep_int (rep_two rep_nil rep_int))),rfl⟩) fun g4 w4 p4 hs b4 cb=>?_)
 have hfr:=hfr.stp hs
 have r2:=r2.stp hs
 have o2:=o2.stp hs rfl
 have r3:=r3.stp hs
 have xG:OSF 2001 60102 2 g4 w4 69 37 ([]:List BeamPair) p4:=cb.osf (by rfl)
 clear cb
 refine EL_do .plain rfl (D_storeOc (g:=g4) (v:=v3) Tryz.sizeOf37 rfl b4 rfl r3 fun g5 w5 hs b5 cb=>?_)
 obtain ⟨iG,jG,cC,_,_⟩:=RV_list r2
 have yG:OSF 2001 3009 2 g5 w5 69 37 (([(⟨(30:Int),(70:Int)⟩:BeamPair)]:List BeamPair):List BeamPair) p4:=cb.osfv (by rw [← hv3,cC]; rfl) (o2.stp hs rfl)
 clear cb
 have hfr:=hfr.stp hs
 refine EL_nil (thn_n (E_seq (E_region (EL_do .plain rfl (D_loadO (g:=g5) Tryz.isAgg37 Tryz.sizeOf37 rfl b5 fun v6 r6=>?_)))))
 obtain ⟨y8,eF,h⟩:=bsome h
 refine EL_do .plain rfl (D_call (g:=g5) (vs:=[v6]) en12 (.cons rfl .nil) (wk12 r6 eF) fun g7 w7_ v7 hs hr=>?_)
 have hfr:=hfr.ext hs
 have b5:=b5.ext hs
 have r7:=hr
 obtain ⟨t5,lE,h⟩:=bsome h
 refine EL_do .plain rfl (D_call (g:=g7) (vs:=[v7]) en28 (.cons rfl .nil) (wk28 r7 lE) fun g9 w9_ v9 hs hr=>?_)
 have hfr:=hfr.ext hs
 have b5:=b5.ext hs
 obtain ⟨mB,zG,rfl,nB,rfl⟩:=hr
 refine EL_mw (.tuple #[mB,.int .i64 (t5.2)]) rfl rfl ?_
 refine EL_p mB (P_extract rfl rfl) rfl ?_
 refine EL_p (.int .i64 (t5.2)) (P_extract rfl rfl) rfl ?_
 refine EL_do .plain rfl (D_allocOc (g:=g9) 2002 (⟨0,0⟩:Ratio) Tryz.zeroValue97 (fun m w=>⟨_,(rep_two rep_int rep_int),rfl⟩) fun rF nH oH hs b11 cb=>?_)
 have hfr:=hfr.stp hs
 have b5:=b5.stp hs rfl
 have nB:=nB.stp hs
 clear cb
 refine EL_do .plain rfl (D_storeOc (g:=rF) (v:=mB) Tryz.sizeOf97 rfl b11 rfl nB fun oD pH hs b12 cb=>?_)
 clear cb
 have hfr:=hfr.stp hs
 have b5:=b5.stp hs rfl
 refine EL_at (.int .i64 (t5.2)) rfl rfl ?_
 refine EL_nil (thn_n (E_seq (E_region (EL_do .plain rfl (D_loadO (g:=oD) Tryz.isAgg37 Tryz.sizeOf37 rfl b5 fun sF tF=>?_)))))
 obtain ⟨nD,mE,h⟩:=bsome h
 refine EL_do .plain rfl (D_call (g:=oD) (vs:=[sF]) en12 (.cons rfl .nil) (wk12 tF mE) fun uF aH vF hs hr=>?_)
 have hfr:=hfr.ext hs
 have b12:=b12.ext hs
 have xF:=hr
 obtain ⟨o0,oE,h⟩:=bsome h
 refine EL_do .plain rfl (D_call (g:=uF) (vs:=[vF,.int .i64 (25400)]) en13 (.cons rfl (.cons rfl .nil)) (wk13 xF oE) fun yF cH qH hs hr=>?_)
 have hfr:=hfr.ext hs
 have b12:=b12.ext hs
 obtain ⟨kG,lG,rfl,rfl,rfl⟩:=hr
 refine EL_mw (.tuple #[.int .i64 (o0.1),.int .i64 (o0.2)]) rfl rfl ?_
 refine EL_p (.int .i64 (o0.1)) (P_extract rfl rfl) rfl ?_
 refine EL_p (.int .i64 (o0.2)) (P_extract rfl rfl) rfl ?_
 refine EL_at (.int .i64 (o0.1)) rfl rfl ?_
 refine EL_at (.int .i64 (o0.2)) rfl rfl ?_
 refine EL_nil (thn_n (E_seq (E_region ?_)))
 obtain ⟨vB,rE,h⟩:=bsome h
 refine EL_do .plain rfl (D_call (g:=yF) (vs:=[.int .i64 (1000000),.int .i64 (1000000)]) en30 (.cons rfl (.cons rfl .nil)) (wk30  rE) fun aG gH uC hs hr=>?_)
 have hfr:=hfr.ext hs
 have b12:=b12.ext hs
 have l9:=hr
 obtain ⟨yB,uE,h⟩:=bsome h
 refine EL_do .plain rfl (D_call (g:=aG) (vs:=[.int .i64 (10),.int .i64 (20)]) en30 (.cons rfl (.cons rfl .nil)) (wk30  uE) fun bG jH vC hs hr=>?_)
 have hfr:=hfr.ext hs
 have b12:=b12.ext hs
 have l9:=l9.ext hs
 have lB:=hr
 obtain ⟨y23,vE,h⟩:=bsome h
 refine EL_do .plain rfl (D_call (g:=bG) (vs:=[.int .i64 (50),.int .i64 (60)]) en30 (.cons rfl (.cons rfl .nil)) (wk30  vE) fun cG kH bD hs hr=>?_)
 have hfr:=hfr.ext hs
 have b12:=b12.ext hs
 have l9:=l9.ext hs
 have lB:=lB.ext hs
 have oB:=hr
 obtain ⟨zB,xE,h⟩:=bsome h
 refine EL_do .plain rfl (D_call (g:=cG) (vs:=[.int .i64 (1000),.int .i64 (2000)]) en30 (.cons rfl (.cons rfl .nil)) (wk30  xE) fun yD lH cD hs hr=>?_)
 have hfr:=hfr.ext hs
 have b12:=b12.ext hs
 have l9:=l9.ext hs
 have lB:=lB.ext hs
 have oB:=oB.ext hs
 have zD:=hr
 have aE:RV yD.m _ (⟨vB,yB,y23,zB⟩:BeamWarp) (.agg (setCh [[.int .i64 0,.int .i64 0],[.int .i64 0,.int .i64 0],[.int .i64 0,.int .i64 0],[.int .i64 0,.int .i64 0]] [(0,uC),(1,vC),(2,bD),(3,cD)]).flatten.toArray):=RV_build rfl (rep_pair (RV.cells l9) (rep_pair (RV.cells lB) (rep_pair (RV.cells oB) (rep_last (RV.cells zD)))))
 generalize yE:(Value.agg (setCh [[.int .i64 0,.int .i64 0],[.int .i64 0,.int .i64 0],[.int .i64 0,.int .i64 0],[.int .i64 0,.int .i64 0]] [(0,uC),(1,vC),(2,bD),(3,cD)]).flatten.toArray)=bE at aE
 refine EL_p bE (yE ▸ P_build (vs:=[(0,uC),(1,vC),(2,bD),(3,cD)]) [[.int .i64 0,.int .i64 0],[.int .i64 0,.int .i64 0],[.int .i64 0,.int .i64 0],[.int .i64 0,.int .i64 0]] lay_108 rfl rfl (.cons rfl (.cons rfl (.cons rfl (.cons rfl .nil)))) ⟨⟨_,rfl,cells_size l9⟩,⟨⟨_,rfl,cells_size lB⟩,⟨⟨_,rfl,cells_size oB⟩,⟨⟨_,rfl,cells_size zD⟩,trivial⟩⟩⟩⟩) rfl ?_
 obtain ⟨l5,zE,h⟩:=bsome h
 refine EL_do .plain rfl (D_call (g:=yD) (vs:=[bE,.int .i64 (947400)]) en29 (.cons rfl (.cons rfl .nil)) (wk29 aE zE) fun n9 cF sH hs hr=>?_)
 have hfr:=hfr.ext hs
 have b12:=b12.ext hs
 obtain ⟨mG,sG,rfl,rfl,rfl⟩:=hr
 refine EL_mw (.tuple #[.int .i64 (l5.1),.int .i64 (l5.2)]) rfl rfl ?_
 refine EL_p (.int .i64 (l5.1)) (P_extract rfl rfl) rfl ?_
 refine EL_p (.int .i64 (l5.2)) (P_extract rfl rfl) rfl ?_
 refine EL_at (.int .i64 (l5.1)) rfl rfl ?_
 refine EL_at (.int .i64 (l5.2)) rfl rfl ?_
 refine EL_nil (thn_n ?_)
 obtain ⟨aB,hx,h⟩:=bsome h
 refine E_join (fun e w=>∃ (g:Gh) ,Fr gI wI g w∧e 0=.bool (aB)) (fun Q' hQ=>?_) (fun mH tH hR=>?_)
 ·replace h := hx
  clear hx
  refine E_region (EL_mw (.int .i64 (t5.2)) rfl rfl ?_)
  refine EL_in (.bool ((t5.2 == (0:Int)))) rfl rfl rfl rfl ?_
  refine EL_mw (.bool ((t5.2 == (0:Int)))) rfl rfl ?_
  rcases csome h with ⟨g8,h⟩ | ⟨g8,h⟩
  ·refine EL_y (.int .i64 (o0.2)) (P_move rfl) rfl rfl g8 rfl ?_
   refine EL_y (.bool ((o0.2 == (0:Int)))) (P_int rfl rfl rfl) rfl rfl g8 rfl ?_
   refine EL_p (.bool ((o0.2 == (0:Int)))) (P_pick (b:=(t5.2 == (0:Int))) rfl (pick_t g8 rfl)) rfl ?_
   refine EL_mw (.bool ((o0.2 == (0:Int)))) rfl rfl ?_
   rcases csome h with ⟨l8,h⟩ | ⟨l8,h⟩
   ·refine EL_y (.int .i64 (l5.2)) (P_move rfl) rfl rfl l8 rfl ?_
    refine EL_y (.bool ((l5.2 == (0:Int)))) (P_int rfl rfl rfl) rfl rfl l8 rfl ?_
    refine EL_p (.bool ((l5.2 == (0:Int)))) (P_pick (b:=(o0.2 == (0:Int))) rfl (pick_t l8 rfl)) rfl ?_
    refine EL_mw (.bool ((l5.2 == (0:Int)))) rfl rfl ?_
    rcases csome h with ⟨i6,h⟩ | ⟨i6,h⟩
    ·refine EL_do (.yes2 rfl rfl i6) rfl (D_loadO (g := n9) Tryz.isAgg97 Tryz.sizeOf97 rfl b12 fun uH eG => ?_)
     have iE:RV n9.m cF (⟨(15000:Int),(7:Int)⟩:Ratio) (.agg (setCh [[.int .i64 0],[.int .i64 0]] [(0,.int .i64 (15000)),(1,.int .i64 (7))]).flatten.toArray):=RV_build rfl (rep_pair (rfl) (rep_last (rfl)))
     generalize dF:(Value.agg (setCh [[.int .i64 0],[.int .i64 0]] [(0,.int .i64 (15000)),(1,.int .i64 (7))]).flatten.toArray)=gG at iE
     refine EL_y gG (dF ▸ P_build (vs:=[(0,.int .i64 (15000)),(1,.int .i64 (7))]) [[.int .i64 0],[.int .i64 0]] lay_97 rfl rfl (.cons rfl (.cons rfl .nil)) ⟨⟨_,rfl,rfl⟩,⟨⟨_,rfl,rfl⟩,trivial⟩⟩) rfl rfl i6 rfl ?_
     refine EL_y (.bool ((decide (t5.1=(⟨(15000:Int),(7:Int)⟩:Ratio))))) (P_seq seq_97 rfl eg_97 rfl rfl eG iE) rfl rfl i6 rfl ?_
     refine EL_p (.bool ((decide (t5.1=(⟨(15000:Int),(7:Int)⟩:Ratio))))) (P_pick (b:=(l5.2 == (0:Int))) rfl (pick_t i6 rfl)) rfl ?_
     refine EL_mw (.bool ((decide (t5.1=(⟨(15000:Int),(7:Int)⟩:Ratio))))) rfl rfl ?_
     rcases csome h with ⟨n8,h⟩ | ⟨n8,h⟩
     ·refine EL_y (.int .i64 (o0.1)) (P_move rfl) rfl rfl n8 rfl ?_
      refine EL_y (.bool ((o0.1 == (11:Int)))) (P_int rfl rfl rfl) rfl rfl n8 rfl ?_
      refine EL_p (.bool ((o0.1 == (11:Int)))) (P_pick (b:=(decide (t5.1=(⟨(15000:Int),(7:Int)⟩:Ratio)))) rfl (pick_t n8 rfl)) rfl ?_
      refine EL_mw (.bool ((o0.1 == (11:Int)))) rfl rfl ?_
      rcases csome h with ⟨v8,h⟩ | ⟨v8,h⟩
      ·refine EL_y (.int .i64 (l5.1)) (P_move rfl) rfl rfl v8 rfl ?_
       refine EL_y (.bool ((l5.1 == (1000000:Int)))) (P_int rfl rfl rfl) rfl rfl v8 rfl ?_
       refine EL_p (.bool ((l5.1 == (1000000:Int)))) (P_pick (b:=(o0.1 == (11:Int))) rfl (pick_t v8 rfl)) rfl ?_
       refine EL_at (.bool ((l5.1 == (1000000:Int)))) rfl rfl ?_
       refine EL_nil ?_
       obtain rfl:=sinj h
       exact hQ _ _ ⟨n9,hfr,rfl⟩
      ·refine EL_s rfl rfl v8 rfl rfl ?_
       refine EL_s rfl rfl v8 rfl rfl ?_
       refine EL_p (.bool false) (P_pick (b:=(o0.1 == (11:Int))) rfl (pick_f v8 rfl)) rfl ?_
       refine EL_at (.bool false) rfl rfl ?_
       refine EL_nil ?_
       obtain rfl:=sinj h
       exact hQ _ _ ⟨n9,hfr,rfl⟩
     ·refine EL_s rfl rfl n8 rfl rfl ?_
      refine EL_s rfl rfl n8 rfl rfl ?_
      refine EL_p (.bool false) (P_pick (b:=(decide (t5.1=(⟨(15000:Int),(7:Int)⟩:Ratio)))) rfl (pick_f n8 rfl)) rfl ?_
      refine EL_dead 4 rfl ?_
      refine EL_at (.bool false) rfl rfl ?_
      refine EL_nil ?_
      obtain rfl:=sinj h
      exact hQ _ _ ⟨n9,hfr,rfl⟩
    ·refine EL_s rfl rfl i6 rfl rfl ?_
     refine EL_s rfl rfl i6 rfl rfl ?_
     refine EL_s rfl rfl i6 rfl rfl ?_
     refine EL_p (.bool false) (P_pick (b:=(l5.2 == (0:Int))) rfl (pick_f i6 rfl)) rfl ?_
     refine EL_dead 8 rfl ?_
     refine EL_at (.bool false) rfl rfl ?_
     refine EL_nil ?_
     obtain rfl:=sinj h
     exact hQ _ _ ⟨n9,hfr,rfl⟩
   ·refine EL_s rfl rfl l8 rfl rfl ?_
    refine EL_s rfl rfl l8 rfl rfl ?_
    refine EL_p (.bool false) (P_pick (b:=(o0.2 == (0:Int))) rfl (pick_f l8 rfl)) rfl ?_
    refine EL_dead 13 rfl ?_
    refine EL_at (.bool false) rfl rfl ?_
    refine EL_nil ?_
    obtain rfl:=sinj h
    exact hQ _ _ ⟨n9,hfr,rfl⟩
  ·refine EL_s rfl rfl g8 rfl rfl ?_
   refine EL_s rfl rfl g8 rfl rfl ?_
   refine EL_p (.bool false) (P_pick (b:=(t5.2 == (0:Int))) rfl (pick_f g8 rfl)) rfl ?_
   refine EL_dead 17 rfl ?_
   refine EL_at (.bool false) rfl rfl ?_
   refine EL_nil ?_
   obtain rfl:=sinj h
   exact hQ _ _ ⟨n9,hfr,rfl⟩
 ·clear hx
  obtain ⟨xH,hfr,lD⟩:=hR
  refine E_ret ?_
  obtain rfl:=sinj h
  exact end1 rfl rfl (show _=.bool (aB) from lD) ⟨_,hfr,rfl⟩
def f19 (x0:List (List UInt8)):Option ((List BookCloth) × Int × Int):=
 jn (σ:=Unit) (fun _=>
  jn (σ:=(List (List BookCloth))) (fun i6=>
   jn (σ:=(List BookCloth)) (fun cD=>
    jn (σ:=Unit) (fun _=>
     (f48 cD ((fun a0 a1=>f34 a0 a1))).bind fun jM=>
     some (jM,(0:Int),(0:Int))
     ) fun kM=>
    bif (decide (((cD).length : Int) > (100 : Int))) then
     some (([]:List BookCloth),(0:Int),(5:Int))
    else
     kM ()
    ) fun pM=>
   lp (σ:=(List BookCloth) × (List (BookSpot × BookCloth)) × Int) (fun qM (xE,sG,t5)=>
    bif (decide (t5 < ((i6).length : Int))) then
     jn (σ:=(List BookCloth) × (List (BookSpot × BookCloth))) (fun (jG,dF)=>
      qM (jG,dF,(w64 (t5 + (1:Int))))
      ) fun rM=>
     (idx i6 t5).bind fun yB=>
     lp (σ:=(List BookCloth) × (List (BookSpot × BookCloth)) × Int) (fun sM (zB,l5,n8)=>
      bif (decide (n8 < ((yB).length : Int))) then
       jn (σ:=(List BookCloth) × (List (BookSpot × BookCloth))) (fun (kG,eF)=>
        sM (kG,eF,(w64 (n8 + (1:Int))))
        ) fun sI=>
       (idx yB n8).bind fun o0=>
       jn (σ:=Unit) (fun _=>
        bif (!((mget l5 ((⟨(o0).Day, (o0).Loom⟩ : BookSpot))).isSome)) then
         (apnd 40 zB (([o0]:List BookCloth))).bind fun jJ=>
         sI (jJ,(mset l5 ((⟨(o0).Day,(o0).Loom⟩:BookSpot)) o0))
        else
         sI (zB,l5)
        ) fun tM=>
       Option.bind (α:=Bool) (
        bif ((mget l5 ((⟨(o0).Day, (o0).Loom⟩ : BookSpot))).isSome) then
         some ((!(decide (((mget l5 ((⟨(o0).Day,(o0).Loom⟩:BookSpot))).getD (⟨0,0,0,0,0⟩:BookCloth))=o0))))
        else
         some (false)
        ) fun lD=>
       bif lD then
        some (([]:List BookCloth),t5,(6:Int))
       else
        tM ()
      else
       rM (zB,l5)
      ) big (xE,sG,(0:Int))
    else
     pM (xE)
    ) big (([]:List BookCloth),([]:List (BookSpot × BookCloth)),(0:Int))
   ) fun eP=>
  lp (σ:=(List (List BookCloth)) × Int) (fun gP (lE,g8)=>
   bif (decide (g8 < ((x0).length : Int))) then
    jn (σ:=(List (List BookCloth))) (fun qH=>
     gP (qH,(w64 (g8 + (1:Int))))
     ) fun iP=>
    (idx x0 g8).bind fun jP=>
    (f47 jP).bind fun cC=>
    jn (σ:=Unit) (fun _=>
     (apnd 24 lE (([cC.1]:List (List BookCloth)))).bind fun uM=>
     iP (uM)
     ) fun k80=>
    bif (cC.2.2 != (0 : Int)) then
     some (([]:List BookCloth),g8,cC.2.2)
    else
     k80 ()
   else
    eP (lE)
   ) big ([],(0:Int))
  ) fun k5=>
 bif (decide (((x0).length : Int) > (10 : Int))) then
  some (([]:List BookCloth),(0:Int),(5:Int))
 else
  k5 ()
theorem en19:Enters Tryz.prog 19:=enters_of Tryz.func19 (by kernel_rfl) rfl
theorem wk19 {gI:Gh} {wI:World} {x0:List (List UInt8)} {up0:Value} (rp0:RV gI.m wI x0 up0) {r:(List BookCloth) × Int × Int} (h:f19 x0=some r):Fn Tryz.prog 19 #[up0] gI wI (fun m w v=>∃ y0 y1 y2,v=.tuple #[y0,y1,y2]∧RV m w (r.1) y0∧y1=.int .i64 (r.2.1)∧y2=.int .i64 (r.2.2)):=by
 unfold f19 at h
 refine fn_of_E Tryz.func19 rfl (Nat.le_of_ble_eq_true rfl) fun g0 hm hfr=>?_
 have rp0:RV g0.m wI x0 up0:=hm ▸ rp0
 show E _ 95 none _ _ _ _ _
 refine E_seq (E_region (EL_at (.slice none 0 0) rfl rfl ?_))
 have b1:OA 4002 g0 wI 63 ([]:List BookCloth) (.slice none 0 0):=OA.nil
 refine EL_at (.int .i64 (0)) rfl rfl ?_
 refine EL_at (.int .i64 (0)) rfl rfl ?_
 refine EL_nil (thn_n (E_joinC h (fun (s:Unit) e w=>∃ (g:Gh) ,Fr gI wI g w∧e 0=up0∧RV g.m w (x0:List (List UInt8)) up0∧e 2=.slice none 0 0∧OA 4002 g w 63 (([]:List BookCloth):List BookCloth) (Value.slice none 0 0)) (fun X5 k5 hk5 h=>?_) ?_))
 ·refine E_seq (E_region (EL_mw up0 rfl rfl ?_))
  refine EL_p (.int .i64 ((x0).length:Int)) (P_len Tryz.underlying39 rfl rp0) rfl ?_
  refine EL_in (.bool ((decide (((x0).length:Int) > (10:Int))))) rfl rfl rfl rfl ?_
  refine EL_nil (thn_n ?_)
  rcases csome h with ⟨hc6,h⟩ | ⟨hc6,h⟩
  ·refine E_ct hc6 rfl ?_
   refine E_seq (E_region (EL_at (.slice none 0 0) rfl rfl ?_))
   have b7:OA 4002 g0 wI 63 ([]:List BookCloth) (.slice none 0 0):=OA.nil
   refine EL_at (.int .i64 (0)) rfl rfl ?_
   refine EL_at (.int .i64 (5)) rfl rfl ?_
   refine EL_nil (thn_n (E_ret (thn_r ?_)))
   obtain ⟨gp8,hs,rp8⟩:=OM.pub (b7.toM)
   have hfr:=hfr.stp hs
   obtain rfl:=sinj h
   exact end3 rfl rfl (show _=.slice none 0 0 from rfl) (show _=.int .i64 (0) from rfl) (show _=.int .i64 (5) from rfl) ⟨_,hfr,_,_,_,rfl,rp8,rfl,rfl⟩
  ·refine E_cf hc6 rfl ?_
   exact E_skip (thn_n (hk5 () _ _ ⟨g0,hfr,rfl,rp0,rfl,b1⟩ h))
 ·rintro _ sT w9 ⟨g9, hfr, mP, vM, nP, oP⟩ h
  refine E_seq (E_region (EL_at (.slice none 0 0) rfl rfl ?_))
  refine EL_nil (thn_n (E_joinC h (fun (s:(List (List BookCloth))) e w=>∃ (g:Gh) (v5:Value),Fr gI wI g w∧e 2=.slice none 0 0∧OA 4002 g w 63 (([]:List BookCloth):List BookCloth) (Value.slice none 0 0)∧e 5=v5∧RV g.m w (s:List (List BookCloth)) v5∧OS 1005 g w 33 (s:List (List BookCloth)) v5) (fun X49 eP pP h=>?_) ?_))
  ·refine E_seq (E_region (EL_mv mP rfl ?_))
   refine EL_p (.int .i64 ((x0).length:Int)) (P_len Tryz.underlying39 rfl vM) rfl ?_
   refine EL_mw (.int .i64 (0)) rfl rfl ?_
   refine EL_nil (thn_n (E_block ?_))
   refine E_lp h (fun (s:(List (List BookCloth)) × Int) e w=>∃ (g:Gh) (v5:Value),Fr gI wI g w∧e 2=.slice none 0 0∧OA 4002 g w 63 (([]:List BookCloth):List BookCloth) (Value.slice none 0 0)∧e 5=v5∧RV g.m w (s.1:List (List BookCloth)) v5∧OS 1005 g w 33 (s.1:List (List BookCloth)) v5∧e 21=up0∧RV g.m w (x0:List (List UInt8)) up0∧e 22=.int .i64 (((x0).length:Int))∧e 23=.int .i64 (s.2)) ⟨g9,(.slice none 0 0),hfr,nP,oP,rfl,RV_nil,OS.nil,rfl,vM,rfl,rfl⟩ (fun X50 gP sP=>?_)
   rintro ⟨lE,g8⟩ cS tT ⟨xM,bG,hfr,rJ,cG,sJ,eG,gG,dI,aE,iI,yE⟩ h
   refine E_seq (E_region (EL_in (.bool ((decide (g8 < ((x0).length:Int))))) yE iI rfl rfl ?_))
   refine EL_nil (thn_n (E_seq ?_))
   rcases csome h with ⟨kJ,h⟩ | ⟨kJ,h⟩
   ·refine E_ct kJ rfl ?_
    refine E_skip (thn_n (E_joinC h (fun (s:(List (List BookCloth))) e w=>∃ (g:Gh) (v5:Value),Fr gI wI g w∧e 2=.slice none 0 0∧OA 4002 g w 63 (([]:List BookCloth):List BookCloth) (Value.slice none 0 0)∧e 5=v5∧RV g.m w (s:List (List BookCloth)) v5∧OS 1005 g w 33 (s:List (List BookCloth)) v5∧e 21=up0∧RV g.m w (x0:List (List UInt8)) up0∧e 22=.int .i64 (((x0).length:Int))∧e 23=.int .i64 (g8)) (fun X71 iP tP h=>?_) ?_))
    ·refine E_block ?_
     refine E_seq (E_region (EL_mv yE rfl ?_))
     obtain ⟨jP,bN,h⟩:=bsome h
     refine EL_p (ePtr up0 g8 1) (P_indexAddr (α:=List UInt8) Tryz.underlying39 Tryz.sizeOf72 dI aE yE bN) rfl ?_
     have eR:=PT_idx aE bN
     refine EL_do .plain rfl (D_load (g:=xM) Tryz.isAgg72 Tryz.sizeOf72 rfl eR fun cN gR=>?_)
     refine EL_at (.int .i64 (g8)) rfl rfl ?_
     refine EL_at cN rfl rfl ?_
     refine EL_nil (thn_n (E_seq (E_region (EL_mw cN rfl rfl ?_))))
     obtain ⟨cC,uP,h⟩:=bsome h
     refine EL_do .plain rfl (D_call (g:=xM) (vs:=[cN]) en47 (.cons rfl .nil) (wk47 gR uP) fun kP vP uT hs hr=>?_)
     have hfr:=hfr.ext hs
     have cG:=cG.ext hs
     have eG:=eG.ext hs
     have gG:=gG.ext hs
     have aE:=aE.ext hs
     obtain ⟨mE,pR,qR,rfl,dO,rfl,rfl⟩:=hr
     refine EL_mw (.tuple #[mE,.int .i64 (cC.2.1),.int .i64 (cC.2.2)]) rfl rfl ?_
     refine EL_p mE (P_extract rfl rfl) rfl ?_
     refine EL_p (.int .i64 (cC.2.1)) (P_extract rfl rfl) rfl ?_
     refine EL_p (.int .i64 (cC.2.2)) (P_extract rfl rfl) rfl ?_
     refine EL_at mE rfl rfl ?_
     refine EL_at (.int .i64 (cC.2.1)) rfl rfl ?_
     refine EL_at (.int .i64 (cC.2.2)) rfl rfl ?_
     refine EL_nil (thn_n (E_joinC h (fun (s:Unit) e w=>∃ (g:Gh) ,Fr gI wI g w∧e 2=.slice none 0 0∧OA 4002 g w 63 (([]:List BookCloth):List BookCloth) (Value.slice none 0 0)∧e 5=bG∧RV g.m w (lE:List (List BookCloth)) bG∧OS 1005 g w 33 (lE:List (List BookCloth)) bG∧e 8=mE∧RV g.m w (cC.1:List BookCloth) mE∧e 21=up0∧RV g.m w (x0:List (List UInt8)) up0∧e 22=.int .i64 (((x0).length:Int))∧e 23=.int .i64 (g8)) (fun X80 k80 xP h=>?_) ?_))
     ·refine E_seq (E_region (EL_mw (.int .i64 (cC.2.2)) rfl rfl ?_))
      refine EL_in (.bool ((cC.2.2 != (0:Int)))) rfl rfl rfl rfl ?_
      refine EL_nil (thn_n ?_)
      rcases csome h with ⟨lJ,h⟩ | ⟨lJ,h⟩
      ·refine E_ct lJ rfl ?_
       refine E_seq (E_region (EL_mw (.int .i64 (g8)) rfl rfl ?_))
       refine EL_mw (.int .i64 (cC.2.2)) rfl rfl ?_
       refine EL_at (.slice none 0 0) rfl rfl ?_
       have b82:OA 4002 kP vP 63 ([]:List BookCloth) (.slice none 0 0):=OA.nil
       refine EL_at (.int .i64 (g8)) rfl rfl ?_
       refine EL_at (.int .i64 (cC.2.2)) rfl rfl ?_
       refine EL_nil (thn_n (E_ret (thn_r ?_)))
       refine blk_r ?_
       refine thn_r ?_
       refine thn_r ?_
       refine blk_r ?_
       refine thn_r ?_
       obtain ⟨gp83,hs,rp83⟩:=OM.pub (b82.toM)
       have hfr:=hfr.stp hs
       obtain rfl:=sinj h
       exact end3 rfl rfl (show _=.slice none 0 0 from rfl) (show _=.int .i64 (g8) from rfl) (show _=.int .i64 (cC.2.2) from rfl) ⟨_,hfr,_,_,_,rfl,rp83,rfl,rfl⟩
      ·refine E_cf lJ rfl ?_
       exact E_skip (thn_n (xP () _ _ ⟨kP,hfr,rJ,cG,sJ,eG,gG,rfl,dO,dI,aE,iI,yE⟩ h))
     ·rintro _ dS xT ⟨iR, hfr, eO, zD, gO, zE, cF, jO, kO, dN, vC, eN, gN⟩ h
      refine E_region (EL_mv gO rfl ?_)
      refine EL_mv jO rfl ?_
      refine EL_do .plain rfl (D_buildSliceA (g:=iR) 4040 (xs:=([cC.1]:List (List BookCloth))) (vs:=[mE]) Tryz.underlying129 Tryz.sizeOf33 Tryz.zeroValue33 rfl rfl (.cons rfl .nil) (RVs.cons kO RVs.nil) rfl rfl fun yT zT aU hs b85 _=>?_)
      have hfr:=hfr.stp hs
      have zD:=zD.stp hs rfl
      have zE:=zE.stp hs
      have cF:=cF.stp hs rfl
      have vC:=vC.stp hs
      obtain ⟨gp86,hs,rp86⟩:=OM.pub (b85.toM)
      have hfr:=hfr.stp hs
      have zD:=zD.stp hs rfl
      have zE:=zE.stp hs
      have cF:=cF.stp hs rfl
      have vC:=vC.stp hs
      obtain ⟨uM,yP,h⟩:=bsome h
      refine EL_do .plain rfl (D_append (g:=gp86) (i:=1005) Tryz.underlying129 info_33 rfl rfl cF zE rfl rp86 yP fun jR bU lP hs o87 lR _=>?_)
      have hfr:=hfr.stp hs
      have zD:=zD.stp hs rfl
      have vC:=vC.stp hs
      refine EL_at lP rfl rfl ?_
      exact EL_nil (blk_n (thn_n (tP (uM) _ _ ⟨jR,(lP),hfr,eO,zD,rfl,lR,o87,dN,vC,eN,gN⟩ h)))
    ·rintro qH eS cU ⟨mR, lO, hfr, mO, nO, oO, pO, qO, iN, jN, kN, lN⟩ h
     refine E_region (EL_in (.int .i64 ((w64 (g8 + (1:Int))))) lN rfl rfl rfl ?_)
     refine EL_mw (.int .i64 ((w64 (g8 + (1:Int))))) rfl rfl ?_
     exact EL_nil (thn_n (sP (qH,(w64 (g8 + (1:Int)))) _ _ ⟨mR,(lO),hfr,mO,nO,oO,pO,qO,iN,jN,kN,rfl⟩ h))
   ·refine E_cf kJ rfl ?_
    refine E_exit ?_
    refine thn_e ?_
    refine thn_e ?_
    refine blk_hit ?_
    exact thn_n (pP (lE) _ _ ⟨xM,(bG),hfr,rJ,cG,sJ,eG,gG⟩ h)
  ·rintro i6 gS dU ⟨nR, l8, hfr, rO, sH, sO, iG, tH⟩ h
   refine E_seq (E_region (EL_do .plain rfl (D_makeMap (g:=nR) (encK pl_134) BookCloth 8043 fun oR eU nD hs m91=>?_)))
   have hfr:=hfr.stp hs
   have sH:=sH.stp hs rfl
   have iG:=iG.stp hs
   have tH:=tH.stp hs rfl
   refine EL_at nD rfl rfl ?_
   refine EL_nil (thn_n (E_joinC h (fun (s:(List BookCloth)) e w=>∃ (g:Gh) (v2:Value),Fr gI wI g w∧e 2=v2∧OA 4002 g w 63 (s:List BookCloth) v2) (fun X301 pM tO h=>?_) ?_))
   ·refine E_seq (E_region (EL_mv sO rfl ?_))
    refine EL_p (.int .i64 ((i6).length:Int)) (P_len Tryz.underlying129 rfl iG) rfl ?_
    refine EL_mw (.int .i64 (0)) rfl rfl ?_
    refine EL_nil (thn_n (E_block ?_))
    refine E_lp h (fun (s:(List BookCloth) × (List (BookSpot × BookCloth)) × Int) e w=>∃ (g:Gh) (v2:Value),Fr gI wI g w∧e 2=v2∧OA 4002 g w 63 (s.1:List BookCloth) v2∧e 11=nD∧MP (encK pl_134) 8043 g w (s.2.1:List (BookSpot × BookCloth)) nD∧e 44=l8∧RV g.m w (i6:List (List BookCloth)) l8∧OS 1005 g w 33 (i6:List (List BookCloth)) l8∧e 45=.int .i64 (((i6).length:Int))∧e 46=.int .i64 (s.2.2)) ⟨oR,(.slice none 0 0),hfr,rO,sH,rfl,m91,rfl,iG,tH,rfl,rfl⟩ (fun X302 qM uO=>?_)
    rintro ⟨xE,sG,t5⟩ rR iS ⟨mJ,jI,hfr,kI,lI,aK,bK,xG,rF,cK,yG,oE⟩ h
    refine E_seq (E_region (EL_in (.bool ((decide (t5 < ((i6).length:Int))))) oE yG rfl rfl ?_))
    refine EL_nil (thn_n (E_seq ?_))
    rcases csome h with ⟨uH,h⟩ | ⟨uH,h⟩
    ·refine E_ct uH rfl ?_
     refine E_skip (thn_n (E_joinC h (fun (s:(List BookCloth) × (List (BookSpot × BookCloth))) e w=>∃ (g:Gh) (v2:Value),Fr gI wI g w∧e 2=v2∧OA 4002 g w 63 (s.1:List BookCloth) v2∧e 11=nD∧MP (encK pl_134) 8043 g w (s.2:List (BookSpot × BookCloth)) nD∧e 44=l8∧RV g.m w (i6:List (List BookCloth)) l8∧OS 1005 g w 33 (i6:List (List BookCloth)) l8∧e 45=.int .i64 (((i6).length:Int))∧e 46=.int .i64 (t5)) (fun X407 rM vO h=>?_) ?_))
     ·refine E_block ?_
      refine E_seq (E_region (EL_mv oE rfl ?_))
      obtain ⟨yB,vJ,h⟩:=bsome h
      refine EL_p (ePtr l8 t5 1) (P_indexAddr (α:=List BookCloth) Tryz.underlying129 Tryz.sizeOf33 xG rF oE vJ) rfl ?_
      have zP:=PT_idx rF vJ
      refine EL_do .plain rfl (D_load (g:=mJ) Tryz.isAgg33 Tryz.sizeOf33 rfl zP fun bD mN=>?_)
      refine EL_at (.int .i64 (t5)) rfl rfl ?_
      refine EL_at bD rfl rfl ?_
      refine EL_nil (thn_n (E_seq (E_region (EL_mw bD rfl rfl ?_))))
      refine EL_p (.int .i64 ((yB).length:Int)) (P_len Tryz.underlying33 rfl mN) rfl ?_
      refine EL_mw (.int .i64 (0)) rfl rfl ?_
      refine EL_nil (thn_n (E_block ?_))
      refine E_lp h (fun (s:(List BookCloth) × (List (BookSpot × BookCloth)) × Int) e w=>∃ (g:Gh) (v2:Value),Fr gI wI g w∧e 2=v2∧OA 4002 g w 63 (s.1:List BookCloth) v2∧e 11=nD∧MP (encK pl_134) 8043 g w (s.2.1:List (BookSpot × BookCloth)) nD∧e 12=.int .i64 (t5)∧e 44=l8∧RV g.m w (i6:List (List BookCloth)) l8∧OS 1005 g w 33 (i6:List (List BookCloth)) l8∧e 45=.int .i64 (((i6).length:Int))∧e 46=.int .i64 (t5)∧e 51=bD∧RV g.m w (yB:List BookCloth) bD∧e 52=.int .i64 (((yB).length:Int))∧e 53=.int .i64 (s.2.2)) ⟨mJ,(jI),hfr,kI,lI,aK,bK,rfl,xG,rF,cK,yG,oE,rfl,mN,rfl,rfl⟩ (fun X411 sM xO=>?_)
      rintro ⟨zB,l5,n8⟩ tR jS ⟨nJ,oD,hfr,lG,lB,rE,v8,zG,sF,n9,aB,tF,uF,vF,l9,xF,uE⟩ h
      refine E_seq (E_region (EL_in (.bool ((decide (n8 < ((yB).length:Int))))) uE xF rfl rfl ?_))
      refine EL_nil (thn_n (E_seq ?_))
      rcases csome h with ⟨xH,h⟩ | ⟨xH,h⟩
      ·refine E_ct xH rfl ?_
       refine E_skip (thn_n (E_joinC h (fun (s:(List BookCloth) × (List (BookSpot × BookCloth))) e w=>∃ (g:Gh) (v2:Value),Fr gI wI g w∧e 2=v2∧OA 4002 g w 63 (s.1:List BookCloth) v2∧e 11=nD∧MP (encK pl_134) 8043 g w (s.2:List (BookSpot × BookCloth)) nD∧e 12=.int .i64 (t5)∧e 44=l8∧RV g.m w (i6:List (List BookCloth)) l8∧OS 1005 g w 33 (i6:List (List BookCloth)) l8∧e 45=.int .i64 (((i6).length:Int))∧e 46=.int .i64 (t5)∧e 51=bD∧RV g.m w (yB:List BookCloth) bD∧e 52=.int .i64 (((yB).length:Int))∧e 53=.int .i64 (n8)) (fun X461 sI xJ h=>?_) ?_))
       ·refine E_block ?_
        refine E_seq (E_region ?_)
        obtain ⟨o0,zJ,h⟩:=bsome h
        refine EL_p (ePtr bD n8 5) (P_indexAddr (α:=BookCloth) Tryz.underlying33 Tryz.sizeOf63 vF l9 uE zJ) rfl ?_
        have bQ:=PT_idx l9 zJ
        refine EL_do .plain rfl (D_load (g:=nJ) Tryz.isAgg63 Tryz.sizeOf63 rfl bQ fun cQ oJ=>?_)
        refine EL_do .plain rfl (D_allocOc (g:=nJ) 2015 (⟨0,0,0,0,0⟩:BookCloth) Tryz.zeroValue63 (fun m w=>⟨_,(rep_two rep_int (rep_two rep_int (rep_two rep_int (rep_two rep_int rep_int)))),rfl⟩) fun dQ lS bE hs b465 cb=>?_)
        have hfr:=hfr.stp hs
        have lB:=lB.stp hs rfl
        have v8:=v8.stp hs rfl
        have n9:=n9.stp hs
        have aB:=aB.stp hs rfl
        have l9:=l9.stp hs
        have oJ:=oJ.stp hs
        clear cb
        refine EL_do .plain rfl (D_storeOc (g:=dQ) (v:=cQ) Tryz.sizeOf63 rfl b465 rfl oJ fun mG eQ hs b466 cb=>?_)
        clear cb
        have hfr:=hfr.stp hs
        have lB:=lB.stp hs rfl
        have v8:=v8.stp hs rfl
        have n9:=n9.stp hs
        have aB:=aB.stp hs rfl
        have l9:=l9.stp hs
        refine EL_nil (thn_n (E_seq (E_region (EL_mv rE rfl ?_))))
        refine EL_p (fPtr bE 0) (P_fieldAddr at_63_0 rfl (OB.ptr b466)) rfl ?_
        refine EL_do .plain rfl (D_loadF (g:=mG) part_BookCloth_0.1 Tryz.isAgg3 Tryz.sizeOf3 rfl b466 fun mS gQ=>?_)
        obtain rfl:=RV_int.1 gQ
        refine EL_p (fPtr bE 1) (P_fieldAddr at_63_1 rfl (OB.ptr b466)) rfl ?_
        refine EL_do .plain rfl (D_loadF (g:=mG) part_BookCloth_1.1 Tryz.isAgg3 Tryz.sizeOf3 rfl b466 fun nS iQ=>?_)
        obtain rfl:=RV_int.1 iQ
        have nN:RV mG.m eQ (⟨(o0).Day,(o0).Loom⟩:BookSpot) (.agg (setCh [[.int .i64 0],[.int .i64 0]] [(0,.int .i64 ((o0).Day)),(1,.int .i64 ((o0).Loom))]).flatten.toArray):=RV_build rfl (rep_pair (rfl) (rep_last (rfl)))
        generalize yO:(Value.agg (setCh [[.int .i64 0],[.int .i64 0]] [(0,.int .i64 ((o0).Day)),(1,.int .i64 ((o0).Loom))]).flatten.toArray)=jQ at nN
        refine EL_p jQ (yO ▸ P_build (vs:=[(0,.int .i64 ((o0).Day)),(1,.int .i64 ((o0).Loom))]) [[.int .i64 0],[.int .i64 0]] lay_134 rfl rfl (.cons rfl (.cons rfl .nil)) ⟨⟨_,rfl,rfl⟩,⟨⟨_,rfl,rfl⟩,trivial⟩⟩) rfl ?_
        refine EL_do .plain rfl (D_lookupOk (g:=mG) (z0:=(⟨0,0,0,0,0⟩:BookCloth)) Tryz.underlying131 key_134 Tryz.zeroValue63 (fun m w=>⟨_,(rep_two rep_int (rep_two rep_int (rep_two rep_int (rep_two rep_int rep_int)))),rfl⟩) rfl v8 (rfl.trans (encK_of pl_134 nN)) fun pJ qJ=>?_)
        refine EL_mw (.tuple #[pJ,.bool ((mget l5 ((⟨(o0).Day,(o0).Loom⟩:BookSpot))).isSome)]) rfl rfl ?_
        refine EL_p pJ (P_extract rfl rfl) rfl ?_
        refine EL_p (.bool ((mget l5 ((⟨(o0).Day,(o0).Loom⟩:BookSpot))).isSome)) (P_extract rfl rfl) rfl ?_
        refine EL_do .plain rfl (D_allocOc (g:=mG) 2016 (⟨0,0,0,0,0⟩:BookCloth) Tryz.zeroValue63 (fun m w=>⟨_,(rep_two rep_int (rep_two rep_int (rep_two rep_int (rep_two rep_int rep_int)))),rfl⟩) fun kQ oS pS hs b473 cb=>?_)
        have hfr:=hfr.stp hs
        have lB:=lB.stp hs rfl
        have v8:=v8.stp hs rfl
        have n9:=n9.stp hs
        have aB:=aB.stp hs rfl
        have l9:=l9.stp hs
        have b466:=b466.stp hs rfl
        have qJ:=qJ.stp hs
        clear cb
        refine EL_do .plain rfl (D_storeOc (g:=kQ) (v:=pJ) Tryz.sizeOf63 rfl b473 rfl qJ fun yH qS hs b474 cb=>?_)
        clear cb
        have hfr:=hfr.stp hs
        have lB:=lB.stp hs rfl
        have v8:=v8.stp hs rfl
        have n9:=n9.stp hs
        have aB:=aB.stp hs rfl
        have l9:=l9.stp hs
        have b466:=b466.stp hs rfl
        refine EL_at (.bool ((mget l5 ((⟨(o0).Day,(o0).Loom⟩:BookSpot))).isSome)) rfl rfl ?_
        refine EL_nil (thn_n (E_joinC h (fun (s:Unit) e w=>∃ (g:Gh) ,Fr gI wI g w∧e 2=oD∧OA 4002 g w 63 (zB:List BookCloth) oD∧e 11=nD∧MP (encK pl_134) 8043 g w (l5:List (BookSpot × BookCloth)) nD∧e 12=.int .i64 (t5)∧e 15=bE∧OB 2015 g w 63 (o0:BookCloth) bE∧e 17=.bool (((mget l5 ((⟨(o0).Day,(o0).Loom⟩:BookSpot))).isSome))∧e 44=l8∧RV g.m w (i6:List (List BookCloth)) l8∧OS 1005 g w 33 (i6:List (List BookCloth)) l8∧e 45=.int .i64 (((i6).length:Int))∧e 46=.int .i64 (t5)∧e 51=bD∧RV g.m w (yB:List BookCloth) bD∧e 52=.int .i64 (((yB).length:Int))∧e 53=.int .i64 (n8)) (fun X485 tM zO h=>?_) ?_))
        ·obtain ⟨lD, hx, h⟩ := bsome h
         refine E_join (fun e w=>∃ (g:Gh) ,Fr gI wI g w∧e 2=oD∧OA 4002 g w 63 (zB:List BookCloth) oD∧e 11=nD∧MP (encK pl_134) 8043 g w (l5:List (BookSpot × BookCloth)) nD∧e 12=.int .i64 (t5)∧e 15=bE∧OB 2015 g w 63 (o0:BookCloth) bE∧e 17=.bool (((mget l5 ((⟨(o0).Day,(o0).Loom⟩:BookSpot))).isSome))∧e 44=l8∧RV g.m w (i6:List (List BookCloth)) l8∧OS 1005 g w 33 (i6:List (List BookCloth)) l8∧e 45=.int .i64 (((i6).length:Int))∧e 46=.int .i64 (t5)∧e 51=bD∧RV g.m w (yB:List BookCloth) bD∧e 52=.int .i64 (((yB).length:Int))∧e 53=.int .i64 (n8)∧e 72=.bool (lD)) (fun Q' hQ=>?_) (fun uR lQ hR=>?_)
         ·replace h := hx
          clear hx
          refine E_region (EL_mw (.bool ((mget l5 ((⟨(o0).Day,(o0).Loom⟩:BookSpot))).isSome)) rfl rfl ?_)
          refine EL_mw (.bool ((mget l5 ((⟨(o0).Day,(o0).Loom⟩:BookSpot))).isSome)) rfl rfl ?_
          rcases csome h with ⟨uC,h⟩ | ⟨uC,h⟩
          ·refine EL_do (.yes2 rfl rfl uC) rfl (D_loadO (g := yH) Tryz.isAgg63 Tryz.sizeOf63 rfl b474 fun rS mQ => ?_)
           refine EL_do (.yes2 rfl rfl uC) rfl (D_loadO (g:=yH) Tryz.isAgg63 Tryz.sizeOf63 rfl b466 fun sS nQ=>?_)
           refine EL_y (.bool ((!(decide (((mget l5 ((⟨(o0).Day,(o0).Loom⟩:BookSpot))).getD (⟨0,0,0,0,0⟩:BookCloth))=o0))))) (P_sne seq_63 rfl eg_63 rfl rfl mQ nQ) rfl rfl uC rfl ?_
           refine EL_p (.bool ((!(decide (((mget l5 ((⟨(o0).Day,(o0).Loom⟩:BookSpot))).getD (⟨0,0,0,0,0⟩:BookCloth))=o0))))) (P_pick (b:=((mget l5 ((⟨(o0).Day,(o0).Loom⟩:BookSpot))).isSome)) rfl (pick_t uC rfl)) rfl ?_
           refine EL_nil ?_
           obtain rfl:=sinj h
           exact hQ _ _ ⟨yH,hfr,lG,lB,rE,v8,zG,rfl,b466,rfl,sF,n9,aB,tF,uF,vF,l9,xF,uE,rfl⟩
          ·refine EL_s rfl rfl uC rfl rfl ?_
           refine EL_s rfl rfl uC rfl rfl ?_
           refine EL_s rfl rfl uC rfl rfl ?_
           refine EL_p (.bool false) (P_pick (b:=((mget l5 ((⟨(o0).Day,(o0).Loom⟩:BookSpot))).isSome)) rfl (pick_f uC rfl)) rfl ?_
           refine EL_nil ?_
           obtain rfl:=sinj h
           exact hQ _ _ ⟨yH,hfr,lG,lB,rE,v8,zG,rfl,b466,rfl,sF,n9,aB,tF,uF,vF,l9,xF,uE,rfl⟩
         ·clear hx
          obtain ⟨oN,hfr,pN,qN,dK,lK,aH,mK,nK,oK,pK,qK,sK,tK,uK,vK,xK,yK,zK,cH⟩:=hR
          rcases csome h with ⟨zH,h⟩ | ⟨zH,h⟩
          ·refine E_cond_true (Eq.trans (show ev _ _ = .bool (lD) from cH) (congrArg Value.bool zH)) ?_
           refine E_seq (E_region (EL_mv aH rfl ?_))
           refine EL_at (.slice none 0 0) rfl rfl ?_
           have b494:OA 4002 oN lQ 63 ([]:List BookCloth) (.slice none 0 0):=OA.nil
           refine EL_at (.int .i64 (t5)) rfl rfl ?_
           refine EL_at (.int .i64 (6)) rfl rfl ?_
           refine EL_nil (thn_n (E_ret (thn_r ?_)))
           refine blk_r ?_
           refine thn_r ?_
           refine thn_r ?_
           refine blk_r ?_
           refine blk_r ?_
           refine thn_r ?_
           refine thn_r ?_
           refine blk_r ?_
           refine thn_r ?_
           obtain ⟨gp495,hs,rp495⟩:=OM.pub (b494.toM)
           have hfr:=hfr.stp hs
           obtain rfl:=sinj h
           exact end3 rfl rfl (show _=.slice none 0 0 from rfl) (show _=.int .i64 (t5) from rfl) (show _=.int .i64 (6) from rfl) ⟨_,hfr,_,_,_,rfl,rp495,rfl,rfl⟩
          ·refine E_cond_false (Eq.trans (show ev _ _ = .bool (lD) from cH) (congrArg Value.bool zH)) ?_
           exact E_skip (thn_n (zO () _ _ ⟨oN,hfr,pN,qN,dK,lK,aH,mK,nK,oK,pK,qK,sK,tK,uK,vK,xK,yK,zK⟩ h))
        ·rintro _ vR oQ ⟨yF, hfr, mI, yD, aG, gH, jH, vE, mB, aL, kH, nB, oB, lH, mH, nH, vB, oH, pH⟩ h
         refine E_seq (E_region (EL_p (.bool (((mget l5 ((⟨(o0).Day,(o0).Loom⟩:BookSpot))).isSome))) (P_move aL) rfl ?_))
         refine EL_p (.bool (!((mget l5 ((⟨(o0).Day,(o0).Loom⟩:BookSpot))).isSome))) (P_not rfl) rfl ?_
         refine EL_nil (thn_n ?_)
         rcases csome h with ⟨aI,h⟩ | ⟨aI,h⟩
         ·refine E_ct aI rfl ?_
          refine E_seq (E_region (EL_mv aG rfl ?_))
          refine EL_p (fPtr bE 0) (P_fieldAddr at_63_0 vE (OB.ptr mB)) rfl ?_
          refine EL_do .plain rfl (D_loadF (g:=yF) part_BookCloth_0.1 Tryz.isAgg3 Tryz.sizeOf3 rfl mB fun tS pQ=>?_)
          obtain rfl:=RV_int.1 pQ
          refine EL_p (fPtr bE 1) (P_fieldAddr at_63_1 vE (OB.ptr mB)) rfl ?_
          refine EL_do .plain rfl (D_loadF (g:=yF) part_BookCloth_1.1 Tryz.isAgg3 Tryz.sizeOf3 rfl mB fun uS qQ=>?_)
          obtain rfl:=RV_int.1 qQ
          have rN:RV yF.m oQ (⟨(o0).Day,(o0).Loom⟩:BookSpot) (.agg (setCh [[.int .i64 0],[.int .i64 0]] [(0,.int .i64 ((o0).Day)),(1,.int .i64 ((o0).Loom))]).flatten.toArray):=RV_build rfl (rep_pair (rfl) (rep_last (rfl)))
          generalize aP:(Value.agg (setCh [[.int .i64 0],[.int .i64 0]] [(0,.int .i64 ((o0).Day)),(1,.int .i64 ((o0).Loom))]).flatten.toArray)=rQ at rN
          refine EL_p rQ (aP ▸ P_build (vs:=[(0,.int .i64 ((o0).Day)),(1,.int .i64 ((o0).Loom))]) [[.int .i64 0],[.int .i64 0]] lay_134 rfl rfl (.cons rfl (.cons rfl .nil)) ⟨⟨_,rfl,rfl⟩,⟨⟨_,rfl,rfl⟩,trivial⟩⟩) rfl ?_
          refine EL_do .plain rfl (D_loadO (g:=yF) Tryz.isAgg63 Tryz.sizeOf63 vE mB fun vS sQ=>?_)
          refine EL_do .plain rfl (D_mapUpdate (g:=yF) Tryz.underlying131 key_134 rfl gH (rfl.trans (encK_of pl_134 rN)) rfl sQ fun sN xS hs m504=>?_)
          have hfr:=hfr.stp hs
          have yD:=yD.stp hs rfl
          have mB:=mB.stp hs rfl
          have nB:=nB.stp hs
          have oB:=oB.stp hs rfl
          have vB:=vB.stp hs
          refine EL_nil (thn_n (E_region (EL_mv mI rfl ?_)))
          refine EL_do .plain rfl (D_loadO (g:=sN) Tryz.isAgg63 Tryz.sizeOf63 vE mB fun tQ uQ=>?_)
          refine EL_do .plain rfl (D_buildSlice (g:=sN) 3085 (xs:=([o0]:List BookCloth)) (vs:=[tQ]) Tryz.underlying33 Tryz.sizeOf63 Tryz.zeroValue63 rfl rfl (.cons rfl .nil) (RVs.cons uQ RVs.nil) rfl rfl fun vQ yS zS hs o506 xQ hxt hfl=>?_)
          have hfr:=hfr.stp hs
          have yD:=yD.stp hs rfl
          have m504:=m504.stp hs rfl
          have nB:=nB.stp hs
          have oB:=oB.stp hs rfl
          have vB:=vB.stp hs
          obtain ⟨jJ,bP,h⟩:=bsome h
          refine EL_do .plain rfl (D_appendA (g:=vQ) plain_BookCloth (i:=4002) Tryz.underlying33 info_63 rfl rfl yD rfl xQ bP fun yQ eT tN hs b507=>?_)
          have hfr:=hfr.stp hs
          have m504:=m504.stp hs rfl
          have nB:=nB.stp hs
          have oB:=oB.stp hs rfl
          have vB:=vB.stp hs
          refine EL_at tN rfl rfl ?_
          exact EL_nil (blk_n (thn_n (xJ (jJ,(mset l5 ((⟨(o0).Day,(o0).Loom⟩:BookSpot)) o0)) _ _ ⟨yQ,(tN),hfr,rfl,b507,aG,m504,jH,kH,nB,oB,lH,mH,nH,vB,oH,pH⟩ h)))
         ·refine E_cf aI rfl ?_
          exact E_skip (blk_n (thn_n (xJ (zB,l5) _ _ ⟨yF,(oD),hfr,mI,yD,aG,gH,jH,kH,nB,oB,lH,mH,nH,vB,oH,pH⟩ h)))
       ·rintro ⟨kG, eF⟩ xR lT ⟨zQ, uN, hfr, vN, xN, bL, dL, eL, gL, iL, jL, lL, mL, nL, oL, xL, yL⟩ h
        refine E_region (EL_in (.int .i64 ((w64 (n8 + (1:Int))))) yL rfl rfl rfl ?_)
        refine EL_mw (.int .i64 ((w64 (n8 + (1:Int))))) rfl rfl ?_
        exact EL_nil (thn_n (xO (kG,eF,(w64 (n8 + (1:Int)))) _ _ ⟨zQ,(uN),hfr,vN,xN,bL,dL,eL,gL,iL,jL,lL,mL,nL,oL,xL,rfl⟩ h))
      ·refine E_cf xH rfl ?_
       refine E_exit ?_
       refine thn_e ?_
       refine thn_e ?_
       refine blk_hit ?_
       exact blk_n (thn_n (vO (zB,l5) _ _ ⟨nJ,(oD),hfr,lG,lB,rE,v8,sF,n9,aB,tF,uF⟩ h))
     ·rintro ⟨jG, dF⟩ yR mT ⟨aR, yN, hfr, zN, aO, zL, aM, bM, cM, dM, eM, iM⟩ h
      refine E_region (EL_in (.int .i64 ((w64 (t5 + (1:Int))))) iM rfl rfl rfl ?_)
      refine EL_mw (.int .i64 ((w64 (t5 + (1:Int))))) rfl rfl ?_
      exact EL_nil (thn_n (uO (jG,dF,(w64 (t5 + (1:Int)))) _ _ ⟨aR,(yN),hfr,zN,aO,zL,aM,bM,cM,dM,eM,rfl⟩ h))
    ·refine E_cf uH rfl ?_
     refine E_exit ?_
     refine thn_e ?_
     refine thn_e ?_
     refine blk_hit ?_
     exact thn_n (tO (xE) _ _ ⟨mJ,(jI),hfr,kI,lI⟩ h)
   ·rintro cD zR bR ⟨bO, iE, hfr, nI, pI⟩ h
    refine E_joinC h (fun (s:Unit) e w=>∃ (g:Gh) ,Fr gI wI g w∧e 2=iE∧OA 4002 g w 63 (cD:List BookCloth) iE) (fun X515 kM cP h=>?_) ?_
    ·refine E_seq (E_region (EL_mv nI rfl ?_))
     refine EL_p (.int .i64 ((cD).length:Int)) (P_lenM Tryz.underlying33 rfl (pI.toM)) rfl ?_
     refine EL_in (.bool ((decide (((cD).length:Int) > (100:Int))))) rfl rfl rfl rfl ?_
     refine EL_nil (thn_n ?_)
     rcases csome h with ⟨bI,h⟩ | ⟨bI,h⟩
     ·refine E_ct bI rfl ?_
      refine E_seq (E_region (EL_at (.slice none 0 0) rfl rfl ?_))
      have b517:OA 4002 bO bR 63 ([]:List BookCloth) (.slice none 0 0):=OA.nil
      refine EL_at (.int .i64 (0)) rfl rfl ?_
      refine EL_at (.int .i64 (5)) rfl rfl ?_
      refine EL_nil (thn_n (E_ret (thn_r ?_)))
      obtain ⟨gp518,hs,rp518⟩:=OM.pub (b517.toM)
      have hfr:=hfr.stp hs
      obtain rfl:=sinj h
      exact end3 rfl rfl (show _=.slice none 0 0 from rfl) (show _=.int .i64 (0) from rfl) (show _=.int .i64 (5) from rfl) ⟨_,hfr,_,_,_,rfl,rp518,rfl,rfl⟩
     ·refine E_cf bI rfl ?_
      exact E_skip (thn_n (cP () _ _ ⟨bO,hfr,nI,pI⟩ h))
    ·rintro _ aS nT ⟨dR, hfr, qI, cO⟩ h
     refine E_seq (E_region (EL_mv qI rfl ?_))
     obtain ⟨jM,dP,h⟩:=bsome h
     refine EL_do .plain rfl (D_callM (g:=dR) (i:=4002) (vs:=[iE,.func (.func 34) #[] #[]]) en48 (.cons rfl (.cons rfl .nil)) (wk48 (cO.toM) ⟨34,#[],#[],rfl,en34,fun g' w' hch a0 a1 b0 b1 r hu0 hu1 hr=>by exact Fn.mono (wk34 hu0 hu1  hr) fun _ _ _ h=>RV_int.2 h⟩ dP) fun oT bS pT hs hr=>?_)
     obtain ⟨hrv,b520⟩:=hr
     have hfr:=hfr.stp hs
     subst hrv
     refine EL_nil (thn_n (E_seq (E_region (EL_mv qI rfl ?_))))
     refine EL_at iE rfl rfl ?_
     refine EL_at (.int .i64 (0)) rfl rfl ?_
     refine EL_at (.int .i64 (0)) rfl rfl ?_
     refine EL_nil (thn_n (E_ret ?_))
     obtain ⟨gp522,hs,rp522⟩:=OM.pub b520
     have hfr:=hfr.stp hs
     obtain rfl:=sinj h
     exact end3 rfl rfl (show _=iE from rfl) (show _=.int .i64 (0) from rfl) (show _=.int .i64 (0) from rfl) ⟨_,hfr,_,_,_,rfl,rp522,rfl,rfl⟩
def f39 (x0:ChainBelt):Option (Int):=
 (f74 x0).bind fun y4=>
 some (y4.2)
theorem en39:Enters Tryz.prog 39:=enters_of Tryz.func39 (by kernel_rfl) rfl
theorem wk39 {gI:Gh} {wI:World} {x0:ChainBelt} {up0:Value} (rp0:RV gI.m wI x0 up0) {r:Int} (h:f39 x0=some r):Fn Tryz.prog 39 #[up0] gI wI (fun _ _ v=>v=.int .i64 (r)):=by
 unfold f39 at h
 refine fn_of_E Tryz.func39 rfl (Nat.le_of_ble_eq_true rfl) fun g0 hm hfr=>?_
 have rp0:RV g0.m wI x0 up0:=hm ▸ rp0
 show E _ 11 none _ _ _ _ _
 refine E_seq (E_region (EL_do .plain rfl (D_box (g:=g0) rfl rp0 fun g1 w1 p1 hs q1=>?_)))
 have hfr:=hfr.ext hs
 refine EL_at (.int .i64 (0)) rfl rfl ?_
 refine EL_nil (thn_n (E_seq (E_region (EL_do .plain rfl (D_load (g:=g1) Tryz.isAgg85 Tryz.sizeOf85 rfl q1 fun v2 r2=>?_)))))
 obtain ⟨y4,t5,h⟩:=bsome h
 refine EL_do .plain rfl (D_call (g:=g1) (vs:=[v2]) en74 (.cons rfl .nil) (wk74 r2 t5) fun g3 w3_ v3 hs hr=>?_)
 have hfr:=hfr.ext hs
 obtain ⟨o0,i6,rfl,l5,rfl⟩:=hr
 refine EL_mw (.tuple #[o0,.int .i64 (y4.2)]) rfl rfl ?_
 refine EL_p o0 (P_extract rfl rfl) rfl ?_
 refine EL_p (.int .i64 (y4.2)) (P_extract rfl rfl) rfl ?_
 refine EL_do .plain rfl (D_allocOc (g:=g3) 2003 (⟨⟨0,[]⟩,0⟩:ChainChainBelt) Tryz.zeroValue171 (fun m w=>⟨_,(rep_two (rep_two rep_int rep_nil) rep_int),rfl⟩) fun g5 w5 p5 hs b5 cb=>?_)
 have hfr:=hfr.stp hs
 have l5:=l5.stp hs
 have g8:OSF 2003 60301 1 g5 w5 87 171 ([]:List ChainCard) p5:=cb.osf (by rfl)
 clear cb
 refine EL_do .plain rfl (D_storeOc (g:=g5) (v:=o0) Tryz.sizeOf171 rfl b5 rfl l5 fun g6 w6 hs b6 cb=>?_)
 clear cb
 have hfr:=hfr.stp hs
 refine EL_at (.int .i64 (y4.2)) rfl rfl ?_
 refine EL_nil (thn_n (E_seq (E_region (EL_mw (.int .i64 (y4.2)) rfl rfl ?_))))
 refine EL_at (.int .i64 (y4.2)) rfl rfl ?_
 refine EL_nil (thn_n (E_ret ?_))
 obtain rfl:=sinj h
 exact end1 rfl rfl (show _=.int .i64 (y4.2) from rfl) ⟨_,hfr,rfl⟩
def f44 (x0:List Str):Option (Bool):=
 Option.bind (α:=Bool) (
  (f77 x0 ((fun a0=>f75 a0))).bind fun i6=>
  bif (!i6) then
   (f78 x0).bind fun g8=>
   bif g8 then
    (f80 x0).bind fun v8=>
    (f79 v8).bind fun l8=>
    some ((((l8).length:Int) == ((x0).length:Int)))
   else
    some (false)
  else
   some (false)
  ) fun t5=>
 some (t5)
theorem en44:Enters Tryz.prog 44:=enters_of Tryz.func44 (by kernel_rfl) rfl
theorem wk44 {gI:Gh} {wI:World} {x0:List Str} {up0:Value} (rp0:RV gI.m wI x0 up0) {r:Bool} (h:f44 x0=some r):Fn Tryz.prog 44 #[up0] gI wI (fun _ _ v=>v=.bool (r)):=by
 unfold f44 at h
 refine fn_of_E Tryz.func44 rfl (Nat.le_of_ble_eq_true rfl) fun g0 hm hfr=>?_
 have rp0:RV g0.m wI x0 up0:=hm ▸ rp0
 show E _ 21 none _ _ _ _ _
 refine E_seq (E_region (EL_at (.bool false) rfl rfl ?_))
 refine EL_nil (thn_n (E_seq (E_region (EL_at (.func (.func 75) #[] #[]) rfl rfl ?_))))
 refine EL_nil (thn_n ?_)
 obtain ⟨t5,hx,h⟩:=bsome h
 refine E_join (fun e w=>∃ (g:Gh) ,Fr gI wI g w∧e 2=.bool (t5)) (fun Q' hQ=>?_) (fun cC lD hR=>?_)
 ·replace h := hx
  clear hx
  refine E_region (EL_mw up0 rfl rfl ?_)
  refine EL_mw (.func (.func 75) #[] #[]) rfl rfl ?_
  obtain ⟨i6,aB,h⟩:=bsome h
  refine EL_do .plain rfl (D_call (g:=g0) (vs:=[up0,.func (.func 75) #[] #[]]) en77 (.cons rfl (.cons rfl .nil)) (wk77 rp0 ⟨75,#[],#[],rfl,en75,fun g' w' hch a0 b0 r hu0 hr=>by obtain rfl:=RV_str.1 hu0; exact Fn.mono (wk75   hr) fun _ _ _ h=>RV_bool.2 h⟩ aB) fun l9 uC nD hs hr=>?_)
  have hfr:=hfr.ext hs
  have rp0:=rp0.ext hs
  subst hr
  refine EL_p (.bool (!i6)) (P_not rfl) rfl ?_
  refine EL_mw (.bool (!i6)) rfl rfl ?_
  rcases csome h with ⟨l5,h⟩ | ⟨l5,h⟩
  ·refine EL_y up0 (P_move rfl) rfl rfl l5 rfl ?_
   obtain ⟨g8,lB,h⟩:=bsome h
   refine EL_do (.yes2 rfl rfl l5) rfl (D_call (g:=l9) (vs:=[up0]) en78 (.cons rfl .nil) (wk78 rp0 lB) fun n9 vC oD hs hr=>?_)
   have hfr:=hfr.ext hs
   have rp0:=rp0.ext hs
   subst hr
   refine EL_p (.bool (g8)) (P_pick (b:=(!i6)) rfl (pick_t l5 rfl)) rfl ?_
   refine EL_mw (.bool (g8)) rfl rfl ?_
   rcases csome h with ⟨o0,h⟩ | ⟨o0,h⟩
   ·refine EL_y up0 (P_move rfl) rfl rfl o0 rfl ?_
    obtain ⟨v8,mB,h⟩:=bsome h
    refine EL_do (.yes2 rfl rfl o0) rfl (D_call (g:=n9) (vs:=[up0]) en80 (.cons rfl .nil) (wk80 rp0 mB) fun nB bD oB hs hr=>?_)
    have hfr:=hfr.ext hs
    have rp0:=rp0.ext hs
    have vB:=hr
    obtain ⟨l8,hy20,h⟩:=bsome h
    refine EL_do (.yes2 rfl rfl o0) rfl (D_call (g:=nB) (vs:=[oB]) en79 (.cons rfl .nil) (wk79 vB hy20) fun yB cD yD hs hr=>?_)
    have hfr:=hfr.ext hs
    have rp0:=rp0.ext hs
    have zB:=hr
    refine EL_y (.int .i64 ((l8).length:Int)) (P_len Tryz.underlying54 rfl zB) rfl rfl o0 rfl ?_
    refine EL_y up0 (P_move rfl) rfl rfl o0 rfl ?_
    refine EL_y (.int .i64 ((x0).length:Int)) (P_len Tryz.underlying54 rfl rp0) rfl rfl o0 rfl ?_
    refine EL_y (.bool ((((l8).length:Int) == ((x0).length:Int)))) (P_int rfl rfl rfl) rfl rfl o0 rfl ?_
    refine EL_p (.bool ((((l8).length:Int) == ((x0).length:Int)))) (P_pick (b:=g8) rfl (pick_t o0 rfl)) rfl ?_
    refine EL_at (.bool ((((l8).length:Int) == ((x0).length:Int)))) rfl rfl ?_
    refine EL_nil ?_
    obtain rfl:=sinj h
    exact hQ _ _ ⟨yB,hfr,rfl⟩
   ·refine EL_s rfl rfl o0 rfl rfl ?_
    iterate 6 refine EL_s rfl rfl o0 rfl rfl ?_
    refine EL_p (.bool false) (P_pick (b:=g8) rfl (pick_f o0 rfl)) rfl ?_
    refine EL_at (.bool false) rfl rfl ?_
    refine EL_nil ?_
    obtain rfl:=sinj h
    exact hQ _ _ ⟨n9,hfr,rfl⟩
  ·refine EL_s rfl rfl l5 rfl rfl ?_
   refine EL_s rfl rfl l5 rfl rfl ?_
   refine EL_p (.bool false) (P_pick (b:=(!i6)) rfl (pick_f l5 rfl)) rfl ?_
   refine EL_dead 9 rfl ?_
   refine EL_at (.bool false) rfl rfl ?_
   refine EL_nil ?_
   obtain rfl:=sinj h
   exact hQ _ _ ⟨l9,hfr,rfl⟩
 ·clear hx
  obtain ⟨zD,hfr,n8⟩:=hR
  refine E_ret ?_
  obtain rfl:=sinj h
  exact end1 rfl rfl (show _=.bool (t5) from n8) ⟨_,hfr,rfl⟩
def f49 (x0:ChainBelt) (x1:Int) (x2:List Int):Option ((List Int) × Int × Int):=
 (f74 x0).bind fun y4=>
 jn (σ:=Unit) (fun _=>
  Option.bind (α:=(List Int) × Int) (
   lp (σ:=(List Int) × Int × Int) (fun gG (lB,i6,l5)=>
    bif (decide (l5 < ((x2).length : Int))) then
     Option.bind (α:=(List Int) × Int) (
      (idx x2 l5).bind fun oB=>
      (f87 (y4.1) i6).bind fun y80=>
      (apnd 8 lB (([y80]:List Int))).bind fun iG=>
      (f88 (y4.1) i6 oB).bind fun iE=>
      some (iG,iE)
      ) fun (n8,l9)=>
     gG (n8,l9,(w64 (l5 + (1:Int))))
    else
     some (lB,i6)
    ) big ([],x1,(0:Int))
   ) fun (n9,v8)=>
  some (n9,v8,(0:Int))
  ) fun k18=>
 bif (y4.2 != (0 : Int)) then
  some ([],(0:Int),y4.2)
 else
  (f86 ((0:Int)) ((w64 ((((x0).Cards).length:Int) - (1:Int)))) (([x1]:List Int))).bind fun nD=>
  bif (!nD) then
   some ([],(0:Int),(7:Int))
  else
   bif (decide (((x2).length : Int) > (60 : Int))) then
    some ([],(0:Int),(5:Int))
   else
    (f86 ((0:Int)) ((2:Int)) x2).bind fun oD=>
    bif (!oD) then
     some ([],(0:Int),(2:Int))
    else
     k18 ()
theorem en49:Enters Tryz.prog 49:=enters_of Tryz.func49 (by kernel_rfl) rfl
theorem wk49 {gI:Gh} {wI:World} {x0:ChainBelt} {x1:Int} {x2:List Int} {up0:Value} (rp0:RV gI.m wI x0 up0) {up2:Value} (rp2:RV gI.m wI x2 up2) {r:(List Int) × Int × Int} (h:f49 x0 x1 x2=some r):Fn Tryz.prog 49 #[up0,.int .i64 (x1),up2] gI wI (fun m w v=>∃ y0 y1 y2,v=.tuple #[y0,y1,y2]∧RV m w (r.1) y0∧y1=.int .i64 (r.2.1)∧y2=.int .i64 (r.2.2)):=by
 unfold f49 at h
 refine fn_of_E Tryz.func49 rfl (Nat.le_of_ble_eq_true rfl) fun g0 hm hfr=>?_
 have rp0:RV g0.m wI x0 up0:=hm ▸ rp0
 have rp2:RV g0.m wI x2 up2:=hm ▸ rp2
 show E _ 58 none _ _ _ _ _
 refine E_seq (E_region (EL_do .plain rfl (D_box (g:=g0) rfl rp0 fun g1 w1 p1 hs q1=>?_)))
 have hfr:=hfr.ext hs
 have rp2:=rp2.ext hs
 refine EL_at (.slice none 0 0) rfl rfl ?_
 refine EL_at (.int .i64 (0)) rfl rfl ?_
 refine EL_at (.int .i64 (0)) rfl rfl ?_
 refine EL_nil (thn_n (E_seq (E_region (EL_do .plain rfl (D_load (g:=g1) Tryz.isAgg85 Tryz.sizeOf85 rfl q1 fun v2 r2=>?_)))))
 obtain ⟨y4,cH,h⟩:=bsome h
 refine EL_do .plain rfl (D_call (g:=g1) (vs:=[v2]) en74 (.cons rfl .nil) (wk74 r2 cH) fun g3 w3_ v3 hs hr=>?_)
 have hfr:=hfr.ext hs
 have rp2:=rp2.ext hs
 have q1:=q1.ext hs
 obtain ⟨zB,kI,rfl,cC,rfl⟩:=hr
 refine EL_mw (.tuple #[zB,.int .i64 (y4.2)]) rfl rfl ?_
 refine EL_p zB (P_extract rfl rfl) rfl ?_
 refine EL_p (.int .i64 (y4.2)) (P_extract rfl rfl) rfl ?_
 refine EL_do .plain rfl (D_allocOc (g:=g3) 2009 (⟨⟨0,[]⟩,0⟩:ChainChainBelt) Tryz.zeroValue171 (fun m w=>⟨_,(rep_two (rep_two rep_int rep_nil) rep_int),rfl⟩) fun g5 w5 p5 hs b5 cb=>?_)
 have hfr:=hfr.stp hs
 have rp2:=rp2.stp hs
 have q1:=q1.stp hs
 have cC:=cC.stp hs
 have lI:OSF 2009 60901 1 g5 w5 87 171 ([]:List ChainCard) p5:=cb.osf (by rfl)
 clear cb
 refine EL_do .plain rfl (D_storeOc (g:=g5) (v:=zB) Tryz.sizeOf171 rfl b5 rfl cC fun g6 w6 hs b6 cb=>?_)
 clear cb
 have hfr:=hfr.stp hs
 have rp2:=rp2.stp hs
 have q1:=q1.stp hs
 refine EL_at (.int .i64 (y4.2)) rfl rfl ?_
 refine EL_nil (thn_n (E_joinC h (fun (s:Unit) e w=>∃ (g:Gh) ,Fr gI wI g w∧e 1=.int .i64 (x1)∧e 2=up2∧RV g.m w (x2:List Int) up2∧e 6=.slice none 0 0∧RV g.m w ([]:List Int) (Value.slice none 0 0)∧e 9=p5∧OB 2009 g w 171 (y4.1:ChainChainBelt) p5) (fun X18 k18 lG h=>?_) ?_))
 ·refine E_block ?_
  refine E_seq (E_region (EL_mw (.int .i64 (y4.2)) rfl rfl ?_))
  refine EL_in (.bool ((y4.2 != (0:Int)))) rfl rfl rfl rfl ?_
  refine EL_at (.bool ((y4.2 != (0:Int)))) rfl rfl ?_
  refine EL_nil (thn_n ?_)
  rcases csome h with ⟨uC,h⟩ | ⟨uC,h⟩
  ·refine E_ct uC rfl ?_
   refine E_seq (E_region (EL_mw (.int .i64 (y4.2)) rfl rfl ?_))
   refine EL_at (.slice none 0 0) rfl rfl ?_
   refine EL_at (.int .i64 (0)) rfl rfl ?_
   refine EL_at (.int .i64 (y4.2)) rfl rfl ?_
   refine EL_nil (thn_n (E_ret (blk_r ?_)))
   refine thn_r ?_
   obtain rfl:=sinj h
   exact end3 rfl rfl (show _=.slice none 0 0 from rfl) (show _=.int .i64 (0) from rfl) (show _=.int .i64 (y4.2) from rfl) ⟨_,hfr,_,_,_,rfl,RV_nil,rfl,rfl⟩
  ·refine E_cf uC rfl ?_
   refine E_seq (E_region (EL_p (fPtr p1 1) (P_fieldAddr at_85_1 rfl (PT.ptr q1)) rfl ?_))
   have gH:=PT_field (part_ChainBelt_1).1 q1
   refine EL_do .plain rfl (D_load (g:=g6) Tryz.isAgg83 Tryz.sizeOf83 rfl gH fun mJ jH=>?_)
   refine EL_p (.int .i64 (((x0).Cards).length:Int)) (P_len Tryz.underlying83 rfl jH) rfl ?_
   refine EL_p (.int .i64 ((w64 ((((x0).Cards).length:Int) - (1:Int))))) (P_int rfl rfl rfl) rfl ?_
   refine EL_mw (.int .i64 (x1)) rfl rfl ?_
   refine EL_do .plain rfl (D_buildSlice (g:=g6) 3027 (xs:=([x1]:List Int)) (vs:=[.int .i64 (x1)]) Tryz.underlying25 Tryz.sizeOf3 Tryz.zeroValue3 rfl rfl (.cons rfl .nil) (RVs.cons (RV_int.2 rfl) RVs.nil) rfl rfl fun kH nJ lH hs o22 mH hxt hfl=>?_)
   have hfr:=hfr.stp hs
   have rp2:=rp2.stp hs
   have b6:=b6.stp hs rfl
   obtain ⟨nD,mG,h⟩:=bsome h
   refine EL_do .plain rfl (D_call (g:=kH) (vs:=[.int .i64 (0),.int .i64 ((w64 ((((x0).Cards).length:Int) - (1:Int)))),lH]) en86 (.cons rfl (.cons rfl (.cons rfl .nil))) (wk86 mH mG) fun nH mI oJ hs hr=>?_)
   have hfr:=hfr.ext hs
   have rp2:=rp2.ext hs
   have b6:=b6.ext hs
   subst hr
   refine EL_p (.bool (!nD)) (P_not rfl) rfl ?_
   refine EL_at (.bool (!nD)) rfl rfl ?_
   refine EL_nil (thn_n ?_)
   rcases csome h with ⟨vC,h⟩ | ⟨vC,h⟩
   ·refine E_ct vC rfl ?_
    refine E_seq (E_region (EL_at (.slice none 0 0) rfl rfl ?_))
    refine EL_at (.int .i64 (0)) rfl rfl ?_
    refine EL_at (.int .i64 (7)) rfl rfl ?_
    refine EL_nil (thn_n (E_ret (blk_r ?_)))
    refine thn_r ?_
    obtain rfl:=sinj h
    exact end3 rfl rfl (show _=.slice none 0 0 from rfl) (show _=.int .i64 (0) from rfl) (show _=.int .i64 (7) from rfl) ⟨_,hfr,_,_,_,rfl,RV_nil,rfl,rfl⟩
   ·refine E_cf vC rfl ?_
    refine E_seq (E_region (EL_mw up2 rfl rfl ?_))
    refine EL_p (.int .i64 ((x2).length:Int)) (P_len Tryz.underlying25 rfl rp2) rfl ?_
    refine EL_in (.bool ((decide (((x2).length:Int) > (60:Int))))) rfl rfl rfl rfl ?_
    refine EL_at (.bool ((decide (((x2).length:Int) > (60:Int))))) rfl rfl ?_
    refine EL_nil (thn_n ?_)
    rcases csome h with ⟨bD,h⟩ | ⟨bD,h⟩
    ·refine E_ct bD rfl ?_
     refine E_seq (E_region (EL_at (.slice none 0 0) rfl rfl ?_))
     refine EL_at (.int .i64 (0)) rfl rfl ?_
     refine EL_at (.int .i64 (5)) rfl rfl ?_
     refine EL_nil (thn_n (E_ret (blk_r ?_)))
     refine thn_r ?_
     obtain rfl:=sinj h
     exact end3 rfl rfl (show _=.slice none 0 0 from rfl) (show _=.int .i64 (0) from rfl) (show _=.int .i64 (5) from rfl) ⟨_,hfr,_,_,_,rfl,RV_nil,rfl,rfl⟩
    ·refine E_cf bD rfl ?_
     refine E_seq (E_region (EL_mw up2 rfl rfl ?_))
     obtain ⟨oD,sG,h⟩:=bsome h
     refine EL_do .plain rfl (D_call (g:=nH) (vs:=[.int .i64 (0),.int .i64 (2),up2]) en86 (.cons rfl (.cons rfl (.cons rfl .nil))) (wk86 rp2 sG) fun oH nI pJ hs hr=>?_)
     have hfr:=hfr.ext hs
     have rp2:=rp2.ext hs
     have b6:=b6.ext hs
     subst hr
     refine EL_p (.bool (!oD)) (P_not rfl) rfl ?_
     refine EL_at (.bool (!oD)) rfl rfl ?_
     refine EL_nil (thn_n ?_)
     rcases csome h with ⟨cD,h⟩ | ⟨cD,h⟩
     ·refine E_ct cD rfl ?_
      refine E_seq (E_region (EL_at (.slice none 0 0) rfl rfl ?_))
      refine EL_at (.int .i64 (0)) rfl rfl ?_
      refine EL_at (.int .i64 (2)) rfl rfl ?_
      refine EL_nil (thn_n (E_ret (blk_r ?_)))
      refine thn_r ?_
      obtain rfl:=sinj h
      exact end3 rfl rfl (show _=.slice none 0 0 from rfl) (show _=.int .i64 (0) from rfl) (show _=.int .i64 (2) from rfl) ⟨_,hfr,_,_,_,rfl,RV_nil,rfl,rfl⟩
     ·refine E_cf cD rfl ?_
      exact E_skip (blk_n (thn_n (lG () _ _ ⟨oH,hfr,rfl,rfl,rp2,rfl,RV_nil,rfl,b6⟩ h)))
 ·rintro _ pI qJ ⟨pH, hfr, xE, yE, yD, zE, cF, dF, eF⟩ h
  refine E_seq (E_region (EL_mv xE rfl ?_))
  refine EL_at (.int .i64 (x1)) rfl rfl ?_
  refine EL_nil (thn_n ?_)
  obtain ⟨⟨n9,v8⟩,hx,h⟩:=bsome h
  refine E_join (fun e w=>∃ (g:Gh) (v6:Value),Fr gI wI g w∧e 6=v6∧RV g.m w (n9:List Int) v6∧OS 1006 g w 3 (n9:List Int) v6∧e 7=.int .i64 (v8)) (fun Q' hQ=>?_) (fun qI rJ hR=>?_)
  ·replace h := hx
   clear hx
   refine E_seq (E_region (EL_mv yE rfl ?_))
   refine EL_p (.int .i64 ((x2).length:Int)) (P_len Tryz.underlying25 rfl yD) rfl ?_
   refine EL_mw (.int .i64 (0)) rfl rfl ?_
   refine EL_nil (thn_n (E_block ?_))
   refine E_lp h (fun (s:(List Int) × Int × Int) e w=>∃ (g:Gh) (v6:Value),Fr gI wI g w∧e 6=v6∧RV g.m w (s.1:List Int) v6∧OS 1006 g w 3 (s.1:List Int) v6∧e 7=.int .i64 (s.2.1)∧e 9=p5∧OB 2009 g w 171 (y4.1:ChainChainBelt) p5∧e 39=up2∧RV g.m w (x2:List Int) up2∧e 40=.int .i64 (((x2).length:Int))∧e 41=.int .i64 (s.2.2)) ⟨pH,(.slice none 0 0),hfr,zE,cF,OS.nil,rfl,dF,eF,rfl,yD,rfl,rfl⟩ (fun X59 gG xG=>?_)
   rintro ⟨lB,i6,l5⟩ sI sJ ⟨zD,rF,hfr,aE,g8,l8,mB,nB,t5,vB,o0,yB,aB⟩ h
   refine E_seq (E_region (EL_in (.bool ((decide (l5 < ((x2).length:Int))))) aB yB rfl rfl ?_))
   refine EL_nil (thn_n (E_seq ?_))
   rcases csome h with ⟨lD,h⟩ | ⟨lD,h⟩
   ·refine E_ct lD rfl ?_
    refine E_skip (thn_n ?_)
    obtain ⟨⟨n8,l9⟩,hx,h⟩:=bsome h
    refine E_join (fun e w=>∃ (g:Gh) (v6:Value),Fr gI wI g w∧e 6=v6∧RV g.m w (n8:List Int) v6∧OS 1006 g w 3 (n8:List Int) v6∧e 7=.int .i64 (l9)∧e 9=p5∧OB 2009 g w 171 (y4.1:ChainChainBelt) p5∧e 39=up2∧RV g.m w (x2:List Int) up2∧e 40=.int .i64 (((x2).length:Int))∧e 41=.int .i64 (l5)) (fun Q' hQ=>?_) (fun jJ vJ hR=>?_)
    ·replace h := hx
     clear hx
     refine E_block ?_
     refine E_seq (E_region ?_)
     obtain ⟨oB,lE,h⟩:=bsome h
     refine EL_p (ePtr up2 l5 1) (P_indexAddr (α:=Int) Tryz.underlying25 Tryz.sizeOf3 vB o0 aB lE) rfl ?_
     have qH:=PT_idx o0 lE
     refine EL_do .plain rfl (D_load (g:=zD) Tryz.isAgg3 Tryz.sizeOf3 rfl qH fun xJ sH=>?_)
     obtain rfl:=RV_int.1 sH
     refine EL_at (.int .i64 (oB)) rfl rfl ?_
     refine EL_nil (thn_n (E_seq (E_region (EL_mv aE rfl ?_))))
     refine EL_do .plain rfl (D_loadO (g:=zD) Tryz.isAgg171 Tryz.sizeOf171 nB t5 fun tH uH=>?_)
     refine EL_mv mB rfl ?_
     obtain ⟨y80,yG,h⟩:=bsome h
     refine EL_do .plain rfl (D_call (g:=zD) (vs:=[tH,.int .i64 (i6)]) en87 (.cons rfl (.cons rfl .nil)) (wk87 uH yG) fun xH kJ zJ hs hr=>?_)
     have hfr:=hfr.ext hs
     have g8:=g8.ext hs
     have l8:=l8.ext hs
     have t5:=t5.ext hs
     have o0:=o0.ext hs
     subst hr
     refine EL_do .plain rfl (D_buildSlice (g:=xH) 3049 (xs:=([y80]:List Int)) (vs:=[.int .i64 (y80)]) Tryz.underlying25 Tryz.sizeOf3 Tryz.zeroValue3 rfl rfl (.cons rfl .nil) (RVs.cons (RV_int.2 rfl) RVs.nil) rfl rfl fun yH aK bK hs o81 zH hxt hfl=>?_)
     have hfr:=hfr.stp hs
     have g8:=g8.stp hs
     have l8:=l8.stp hs rfl
     have t5:=t5.stp hs rfl
     have o0:=o0.stp hs
     obtain ⟨iG,zG,h⟩:=bsome h
     refine EL_do .plain rfl (D_append (g:=yH) (i:=1006) Tryz.underlying25 info_3 rfl rfl l8 g8 rfl zH zG fun jG cK kG hs o82 mE _=>?_)
     have hfr:=hfr.stp hs
     have t5:=t5.stp hs rfl
     have o0:=o0.stp hs
     refine EL_at kG rfl rfl ?_
     refine EL_nil (thn_n (E_region (EL_do .plain rfl (D_loadO (g:=jG) Tryz.isAgg171 Tryz.sizeOf171 nB t5 fun aI bI=>?_))))
     refine EL_mv mB rfl ?_
     refine EL_mw (.int .i64 (oB)) rfl rfl ?_
     obtain ⟨iE,aH,h⟩:=bsome h
     refine EL_do .plain rfl (D_call (g:=jG) (vs:=[aI,.int .i64 (i6),.int .i64 (oB)]) en88 (.cons rfl (.cons rfl (.cons rfl .nil))) (wk88 bI aH) fun dI lJ dK hs hr=>?_)
     have hfr:=hfr.ext hs
     have mE:=mE.ext hs
     have o82:=o82.ext hs
     have t5:=t5.ext hs
     have o0:=o0.ext hs
     subst hr
     refine EL_at (.int .i64 (iE)) rfl rfl ?_
     refine EL_nil (blk_n ?_)
     obtain ⟨rfl,rfl⟩:=pairs2 h
     exact hQ _ _ ⟨dI,(kG),hfr,rfl,mE,o82,rfl,nB,t5,vB,o0,yB,aB⟩
    ·clear hx
     obtain ⟨iI,sF,hfr,tF,uF,vF,xF,yF,aG,oE,rE,uE,vE⟩:=hR
     refine E_region (EL_in (.int .i64 ((w64 (l5 + (1:Int))))) vE rfl rfl rfl ?_)
     refine EL_mw (.int .i64 ((w64 (l5 + (1:Int))))) rfl rfl ?_
     exact EL_nil (thn_n (xG (n8,l9,(w64 (l5 + (1:Int)))) _ _ ⟨iI,(sF),hfr,tF,uF,vF,xF,yF,aG,oE,rE,uE,rfl⟩ h))
   ·refine E_cf lD rfl ?_
    refine E_exit ?_
    refine thn_e ?_
    refine thn_e ?_
    refine blk_hit ?_
    obtain ⟨rfl,rfl⟩:=pairs2 h
    exact hQ _ _ ⟨zD,(rF),hfr,aE,g8,l8,mB⟩
  ·clear hx
   obtain ⟨lK,bE,hfr,bG,cG,jI,eG⟩:=hR
   refine E_seq (E_region (EL_mv bG rfl ?_))
   refine EL_mv eG rfl ?_
   refine EL_at bE rfl rfl ?_
   refine EL_at (.int .i64 (v8)) rfl rfl ?_
   refine EL_at (.int .i64 (0)) rfl rfl ?_
   refine EL_nil (thn_n (E_ret ?_))
   obtain rfl:=sinj h
   exact end3 rfl rfl (show _=bE from rfl) (show _=.int .i64 (v8) from rfl) (show _=.int .i64 (0) from rfl) ⟨_,hfr,_,_,_,rfl,cG,rfl,rfl⟩
theorem idx_lt {α:Type} {xs:List α} {i:Int} {a:α} (h:idx xs i=some a):i.toNat < xs.length:=(List.getElem?_eq_some_iff.1 (idx_some h).2).1
theorem set_self {α:Type} {xs:List α} {i:Int} {a:α} (h:idx xs i=some a):xs.set i.toNat a=xs:=by
 have h1:=(List.getElem?_eq_some_iff.1 (idx_some h).2)
 obtain ⟨hl,rfl⟩:=h1
 exact List.set_getElem_self hl
theorem idx_setS {α:Type} {xs:List α} {i:Int} {a b:α} (h:idx xs i=some a):idx (xs.set i.toNat b) i=some b:=by
 have h0:=(idx_some h).1
 have hl:=idx_lt h
 unfold idx at h ⊢
 simp [h0,hl]
theorem P_nilE {P:Program} {e:Env} {x:Operand} {p:Value} (hx:ev e x=p) (hp:∃ b o,p=.pointer (some ⟨b,o,none⟩)):Pur P (.nilCheck x) e p:=by
 obtain ⟨b,o,rfl⟩:=hp; exact P_nilCheck hx
theorem lay_81w:layoutOf Tryz.prog 81=some ([.int .i64 0,.int .i64 0],[(0,1),(1,1)]):=by kernel_rfl
theorem lay_29w:layoutOf Tryz.prog 29=some ([.int .i64 0,.slice none 0 0],[(0,1),(1,1)]):=by kernel_rfl
def f20 (cy:BookCylinder) (m:BookMill) (c:BookCloth):Option ((List Str) × Int × BookCylinder):=
 (idx m.Chains c.Chain).bind fun ch=>(idx m.Ties c.Tie).bind fun ti=>
 bif ch.Chain.Hooks != ti.Harness.Hooks then some ([],4,cy) else
 Option.bind (some (bif cy.chain != w64 (c.Chain + (1:Int)) then ⟨w64 (c.Chain + (1:Int)),0⟩ else cy)) fun c1=>
 (f50 [1] c.Picks).bind fun pk=>(f49 ch.Chain c1.card pk).bind fun wv=>
 bif wv.2.2 != (0:Int) then some ([],wv.2.2,c1) else
 (f51 ti.Harness ⟨ch.Chain.Hooks,wv.1⟩).bind fun t=>some (t.1,t.2,{ c1 with card:=wv.2.1 })
theorem en20:Enters Tryz.prog 20:=enters_of Tryz.func20 (by kernel_rfl) rfl
theorem wk20 {iI : Nat} {gI : Gh} {wI : World} {xs : List BookCylinder} {pv : Value} {i : Int} {cy : BookCylinder} {m : BookMill} {c : BookCloth} {um uc : Value} (mp0 : OM iI gI wI 81 xs pv) (hi : idx xs i = some cy) (rm : RV gI.m wI m um) (rc : RV gI.m wI c uc) {r : (List Str) × Int × BookCylinder} (hf : f20 cy m c = some r) :
  FnM Tryz.prog 20 #[ePtr pv i 2,um,uc] iI gI wI (fun g w v=>∃ y0 y1,v=.tuple #[y0,y1]∧RV g.m w r.1 y0∧y1=.int .i64 r.2.1∧OM iI g w 81 (xs.set i.toNat r.2.2) pv):=by
 unfold f20 at hf
 obtain ⟨ch,hch,hf⟩:=bsome hf
 obtain ⟨ti,hti,hf⟩:=bsome hf
 refine fnM_of_E Tryz.func20 rfl (Nat.le_of_ble_eq_true rfl) fun g0 hm hfr=>?_
 have mpI:=mp0
 replace mp0:=mp0.enter
 rw [← hm] at mp0
 replace hm:g0.m=gI.m:=by rw [hm]
 replace rm:RV g0.m wI m um:=hm ▸ rm
 replace rc:RV g0.m wI c uc:=hm ▸ rc
 show E _ 75 none _ _ _ _ _
 refine E_seq (E_region ?_)
 refine EL_do .plain rfl (D_box (g:=g0) rfl rm fun g1 w1 pm hx1 qm=>?_)
 refine EL_do .plain rfl (D_box (g:=g1) rfl (rc.ext hx1) fun g2 w2 pc hx2 qc=>?_)
 have hfr:=(hfr.ext hx1).ext hx2
 have mp:=(mp0.ext hx1).ext hx2
 have qm:=qm.ext hx2
 refine EL_at (.slice none 0 0) rfl rfl ?_
 refine EL_at (.int .i64 0) rfl rfl ?_
 refine EL_nil (thn_n (E_seq ?_))
 clear mp0 hx1 hx2
 -- region 1: the chain and the tie
 have qch:=PT_field part_BookMill_1.1 qm
 refine L_load (x:=.tmp 13) Tryz.isAgg48 Tryz.sizeOf48 qch fun vch rch hch1=>?_
 have qti:=PT_field part_BookMill_0.1 qm
 refine L_load (x:=.tmp 20) Tryz.isAgg47 Tryz.sizeOf47 qti fun vti rti hti1=>?_
 refine L_load (x:=.tmp 15) Tryz.isAgg3 Tryz.sizeOf3 (PT_field part_BookCloth_2.1 qc) fun v0 r0 hc3=>?_
 obtain rfl:=RV_int.1 r0
 refine L_load (x:=.tmp 22) Tryz.isAgg3 Tryz.sizeOf3 (PT_field part_BookCloth_3.1 qc) fun v0 r0 hc4=>?_
 obtain rfl:=RV_int.1 r0
 have qe:=PT_idx rch hch
 refine L_load (x:=.tmp 18) Tryz.isAgg85 Tryz.sizeOf85 (PT_field part_BookChain_1.1 qe) fun vb rb hb1=>?_
 have qt:=PT_idx rti hti
 refine L_load (x:=.tmp 25) Tryz.isAgg27 Tryz.sizeOf27 (PT_field part_BookTie_1.1 qt) fun vh rh hh1=>?_
 refine E_drawTL (g:=g2) (n:=16) [7,8,9,10,11,12,13] [(14,fun v g w=>OB 8 g w 85 (⟨0,[]⟩:ChainBelt) v),(15,fun v g w=>OB 9 g w 27 (⟨0,[]⟩:TieHarness) v)] [0,1,2,3,4,5,6,7,8,9,10,11,12,13,14,15] rfl mixedS (by kernel_rfl) ⟨fun _=>(fun _ _ _ _ hx h=>OB.ext h hx),fun _=>(fun _ _ _ _ hx h=>OB.ext h hx),trivial⟩ rfl ?_
 refine L_p (fPtr pm 1) rfl rfl (P_fieldAddr at_50_1 rfl (PT.ptr qm)) ?_
 refine L_ld (c:=vch) rfl rfl .plain (fun _ _ h=>h.ch) hch1 rfl ?_
 refine L_p (fPtr pc 2) rfl rfl (P_fieldAddr at_63_2 rfl (PT.ptr qc)) ?_
 refine L_ld (c:=.int .i64 c.Chain) rfl rfl .plain (fun _ _ h=>h.ch) hc3 rfl ?_
 refine L_p (ePtr vch c.Chain 3) rfl rfl (P_indexAddr (α:=BookChain) Tryz.underlying48 Tryz.sizeOf92 rfl rch rfl hch) ?_
 refine L_p (fPtr (ePtr vch c.Chain 3) 1) rfl rfl (P_fieldAddr at_92_1 rfl (PT.ptr qe)) ?_
 refine L_ld (c:=vb) rfl rfl .plain (fun _ _ h=>h.ch) hb1 rfl ?_
 refine L_purL (c:=fPtr pm 0) rfl rfl .plain (P_fieldAddr at_50_0 rfl (PT.ptr qm)) ?_
 refine L_ldL (c:=vti) rfl rfl .plain (fun _ _ h=>h.ch) rfl hti1 rfl ?_
 refine L_purL (c:=fPtr pc 3) rfl rfl .plain (P_fieldAddr at_63_3 rfl (PT.ptr qc)) ?_
 refine L_ldL (c:=.int .i64 c.Tie) rfl rfl .plain (fun _ _ h=>h.ch) rfl hc4 rfl ?_
 refine L_purL (c:=ePtr vti c.Tie 3) rfl rfl .plain (P_indexAddr (α:=BookTie) Tryz.underlying47 Tryz.sizeOf90 rfl rti rfl hti) ?_
 refine L_purL (c:=fPtr (ePtr vti c.Tie 3) 1) rfl rfl .plain (P_fieldAddr at_90_1 rfl (PT.ptr qt)) ?_
 refine L_ldL (c:=vh) rfl rfl .plain (fun _ _ h=>h.ch) rfl hh1 rfl ?_
 refine L_do (φ:=fun v g w=>OB 8 g w 85 (⟨0,[]⟩:ChainBelt) v) rfl rfl .plain (fun g w hd=>D_allocX (g:=g) 8 (⟨0,[]⟩:ChainBelt) Tryz.zeroValue85 (fun m w=>⟨_,rep_two rep_int rep_nil,rfl⟩) fun g' w' p hs hr=>⟨g',hs,hr⟩) (fun p8 hv=>?_)
 clear hv
 refine L_do (φ:=fun v g w=>OB 9 g w 27 (⟨0,[]⟩:TieHarness) v) rfl rfl .plain (fun g w hd=>D_allocX (g:=g) 9 (⟨0,[]⟩:TieHarness) Tryz.zeroValue27 (fun m w=>⟨_,rep_two rep_int rep_nil,rfl⟩) fun g' w' p hs hr=>⟨g',hs,hr⟩) (fun p9 hv=>?_)
 clear hv
 refine L_nil fun g3 w3 hall=>?_
 have hs:=hall.1
 have b8:=word_all (A:=fun g w=>OB 8 g w 85 (⟨0,[]⟩:ChainBelt) p8) 14 rfl hall
 have b9:=word_all (A:=fun g w=>OB 9 g w 27 (⟨0,[]⟩:TieHarness) p9) 15 rfl hall
 have hlt:Lt g2.m w2 g3 w3:=hs.ch
 clear hall
 refine TL_do hlt.w .plain rfl (D_storeO (g:=g3) (v:=vb) Tryz.sizeOf85 rfl b8 rfl (rb.ext hs) fun g4 w4 hs4 b8=>?_)
 have hlt:=hlt.stp hs4
 refine TL_do hlt.w .plain rfl (D_storeO (g:=g4) (v:=vh) Tryz.sizeOf27 rfl (b9.stp hs4 rfl) rfl ((rh.ext hs).stp hs4) fun g5 w5 hs5 b9=>?_)
 have hlt:=hlt.stp hs5
 refine TL_nil hlt.w (thn_n ?_)
 obtain ⟨g6,hs6,q8⟩:=(b8.stp hs5 rfl).pub
 obtain ⟨g7,hs7,q9⟩:=(b9.stp hs6 rfl).pub
 have q8:=q8.stp hs7
 have hfr:=((((hfr.ext hs).stp hs4).stp hs5).stp hs6).stp hs7
 have mp:=((((mp.ext hs).stp hs4 rfl).stp hs5 rfl).stp hs6 rfl).stp hs7 rfl
 have qc:=((((qc.ext hs).stp hs4).stp hs5).stp hs6).stp hs7
 clear hlt hs hs4 hs5 hs6 hs7 b8 b9 rb rh hch1 hti1 hc3 hc4 hb1 hh1 qch qti qe qt rch rti
 -- region 2: the hooks
 refine E_seq (E_seq (E_region ?_))
 refine EL_p (fPtr p8 0) (P_fieldAddr at_85_0 rfl (PT.ptr q8)) rfl ?_
 refine EL_do .plain rfl (D_load (g:=g7) Tryz.isAgg3 Tryz.sizeOf3 rfl (PT_field part_ChainBelt_0.1 q8) fun v r=>?_)
 obtain rfl:=RV_int.1 r
 refine EL_p (fPtr p9 0) (P_fieldAddr at_27_0 rfl (PT.ptr q9)) rfl ?_
 refine EL_do .plain rfl (D_load (g:=g7) Tryz.isAgg3 Tryz.sizeOf3 rfl (PT_field part_TieHarness_0.1 q9) fun v r=>?_)
 obtain rfl:=RV_int.1 r
 refine EL_in (.bool (ch.Chain.Hooks != ti.Harness.Hooks)) rfl rfl rfl rfl ?_
 refine EL_nil (thn_n ?_)
 rcases csome hf with ⟨hc,hf⟩ | ⟨hc,hf⟩
 ·refine E_ct hc rfl (E_seq (E_region ?_))
  refine EL_at (.slice none 0 0) rfl rfl ?_
  refine EL_at (.int .i64 4) rfl rfl ?_
  refine EL_nil (thn_n (E_ret ?_))
  obtain rfl:=sinj hf
  exact end2 rfl rfl rfl rfl ⟨_,hfr,_,_,rfl,RV_nil,rfl,by rw [set_self hi]; exact mpI.back mp⟩
 refine E_cf hc rfl (E_skip (thn_n ?_))
 obtain ⟨c1,hc1,hf⟩:=bsome hf
 obtain ⟨pk,hpk,hf⟩:=bsome hf
 obtain ⟨wv,hwv,hf⟩:=bsome hf
 -- region 4: another chain on the loom
 refine E_joinD (fun e ds w'=>ds=[]∧e 0=ePtr pv i 2∧e 5=pc∧e 8=p8∧e 9=p9∧∃ g',FrM iI gI wI g' w'∧Ch g7.m w5 g'.m w'∧OM 1 g' w' 81 (xs.set i.toNat c1) pv) (fun Q' hQ=>?_) (fun e ds w' hR=>?_)
 ·have hpp := mp.ptrE (k := 2) hi
  refine E_seq ?_
  refine L_loadMF (x:=.tmp 34) part_BookCylinder_0.1 Tryz.isAgg3 Tryz.sizeOf3 mp hi fun v r hl1=>?_
  obtain rfl:=RV_int.1 r
  refine L_load (x:=.tmp 36) Tryz.isAgg3 Tryz.sizeOf3 (PT_field part_BookCloth_2.1 qc) fun v r hl2=>?_
  obtain rfl:=RV_int.1 r
  refine E_drawL (g:=g7) (n:=8) [] [0,1,2,3,4,5,6,7] rfl mixedS (by kernel_rfl) trivial ?_
  refine L_p (ePtr pv i 2) rfl rfl (P_move rfl) ?_
  refine L_p (ePtr pv i 2) rfl rfl (P_nilE rfl hpp) ?_
  refine L_p (fPtr (ePtr pv i 2) 0) rfl rfl (P_fieldAddr at_81_0 rfl hpp) ?_
  refine L_ld (c:=.int .i64 cy.chain) rfl rfl .plain (fun _ _ h=>⟨h.ch,fun b hb _=>h.below.block b hb⟩) hl1 rfl ?_
  refine L_p (fPtr pc 2) rfl rfl (P_fieldAddr at_63_2 rfl (PT.ptr qc)) ?_
  refine L_ld (c:=.int .i64 c.Chain) rfl rfl .plain (fun _ _ h=>h.ch) hl2 rfl ?_
  refine L_p (.int .i64 (w64 (c.Chain + (1:Int)))) rfl rfl (P_int rfl rfl rfl) ?_
  refine L_p (.bool (cy.chain != w64 (c.Chain + (1:Int)))) rfl rfl (P_int rfl rfl rfl) ?_
  refine L_nil fun g8 w8 hall=>?_
  have hs:=hall.1
  refine EL_nil (thn_n ?_)
  rcases Bool.eq_false_or_eq_true (cy.chain != w64 (c.Chain + (1:Int))) with hq | hq
  ·rw [hq] at hc1
   obtain rfl:=sinj hc1
   refine E_ct hq rfl (E_region ?_)
   refine EL_mw (ePtr pv i 2) rfl rfl ?_
   refine EL_p (fPtr pc 2) (P_fieldAddr at_63_2 rfl (PT.ptr qc)) rfl ?_
   refine EL_do .plain rfl (D_load (g:=g8) Tryz.isAgg3 Tryz.sizeOf3 rfl (PT_field part_BookCloth_2.1 (qc.ext hs)) fun v r=>?_)
   obtain rfl:=RV_int.1 r
   refine EL_in (.int .i64 (w64 (c.Chain + (1:Int)))) rfl rfl rfl rfl ?_
   refine EL_p (.agg #[.int .i64 (w64 (c.Chain + (1:Int))),.int .i64 0]) (show Pur _ _ _ (.agg #[.int .i64 (w64 (c.Chain + (1:Int))),.int .i64 0]) from P_build (vs:=[(0,.int .i64 (w64 (c.Chain + (1:Int))))]) [[.int .i64 0],[.int .i64 0]] lay_81w rfl rfl (.cons rfl .nil) ⟨⟨_,rfl,rfl⟩,trivial⟩) rfl ?_
   refine EL_p (ePtr pv i 2) (P_nilE rfl hpp) rfl ?_
   refine EL_do .plain rfl (D_storeM (g:=g8) (α:=BookCylinder) (a':=⟨w64 (c.Chain + (1:Int)),0⟩) (u:=.agg #[.int .i64 (w64 (c.Chain + (1:Int))),.int .i64 0]) Tryz.sizeOf81 rfl (mp.ext hs) hi rfl ⟨_,rep_two rep_int rep_int,rfl⟩ fun g9 w9 hs9 mp9=>?_)
   exact EL_nil (hQ _ _ _ ⟨rfl,rfl,rfl,rfl,rfl,g9,(hfr.ext hs).stp hs9,hs.ch.trans hs9.ch,mp9⟩)
  ·rw [hq] at hc1
   obtain rfl:=sinj hc1
   exact E_cf hq rfl (E_skip (hQ _ _ _ ⟨rfl,rfl,rfl,rfl,rfl,g8,hfr.ext hs,hs.ch,by show OM 1 g8 w8 81 (xs.set i.toNat cy) pv; rw [set_self hi]; exact mp.ext hs⟩))
 obtain ⟨rfl,e0,e5,e8,e9,g,hfrN,hch7,mpN⟩:=hR
 replace hfr:=hfrN
 replace mp:=mpN
 have q8:=q8.ch hch7
 have q9:=q9.ch hch7
 have qc:=qc.ch hch7
 have hi1:=idx_setS (b:=c1) hi
 have hpp:=mp.ptrE (k:=2) hi1
 clear hfrN mpN hch7 hc1
 -- region 6: the picks of the chain
 refine E_seq ?_
 refine L_load (x:=.tmp 8) Tryz.isAgg85 Tryz.sizeOf85 q8 fun vb rb hb1=>?_
 refine L_loadMF (x:=.tmp 50) part_BookCylinder_1.1 Tryz.isAgg3 Tryz.sizeOf3 mp hi1 fun v r hl1=>?_
 obtain rfl:=RV_int.1 r
 refine L_load (x:=.tmp 53) Tryz.isAgg3 Tryz.sizeOf3 (PT_field part_BookCloth_4.1 qc) fun v r hl2=>?_
 obtain rfl:=RV_int.1 r
 refine E_drawTL (g:=g) (n:=14) [12,13] [(5,fun v g w=>RV g.m w ([1]:List Int) v),(8,fun v g w=>RV g.m w pk v),(9,fun v g w=>∃ y0 y1 y2,v=.tuple #[y0,y1,y2]∧RV g.m w wv.1 y0∧y1=.int .i64 wv.2.1∧y2=.int .i64 wv.2.2)] [0,1,2,3,4,5,6,7,8,9,10,11,12,13] rfl mixedS (by kernel_rfl) ⟨fun _=>up_rv,fun _=>up_rv,fun _=>(fun _ _ _ _ hx h=>let ⟨y0,y1,y2,h1,h2,h3⟩:=h; ⟨y0,y1,y2,h1,RV.ext h2 hx,h3⟩),trivial⟩ rfl ?_
 refine L_ld (c:=vb) rfl rfl .plain (fun _ _ h=>h.ch) hb1 e8 ?_
 refine L_p (ePtr pv i 2) rfl rfl (P_move e0) ?_
 refine L_p (ePtr pv i 2) rfl rfl (P_nilE rfl hpp) ?_
 refine L_p (fPtr (ePtr pv i 2) 1) rfl rfl (P_fieldAddr at_81_1 rfl hpp) ?_
 refine L_ld (c:=.int .i64 c1.card) rfl rfl .plain (fun _ _ h=>⟨h.ch,fun b hb _=>h.below.block b hb⟩) hl1 rfl ?_
 refine L_do (φ:=fun v g w=>RV g.m w ([1]:List Int) v) rfl rfl .plain (fun g w hd=>D_buildSlice (g:=g) 5 (xs:=([1]:List Int)) (vs:=[.int .i64 1]) Tryz.underlying25 Tryz.sizeOf3 Tryz.zeroValue3 rfl rfl (.cons rfl .nil) (RVs.cons (RV_int.2 rfl) RVs.nil) rfl rfl fun g' w' v _ _ r hx _=>⟨g',hx,r⟩) (fun v5 hv=>?_)
 clear hv
 refine L_p (fPtr pc 4) rfl rfl (P_fieldAddr at_63_4 e5 (PT.ptr qc)) ?_
 refine L_ld (c:=.int .i64 c.Picks) rfl rfl .plain (fun _ _ h=>h.ch) hl2 rfl ?_
 refine L_do (φ:=fun v g w=>RV g.m w pk v) rfl rfl .plain (fun g w hd=>D_call (g:=g) (vs:=[v5,.int .i64 c.Picks]) en50 (.cons rfl (.cons rfl .nil)) (wk50 (word (A:=fun g w=>RV g.m w ([1]:List Int) v5) 5 rfl rfl (deps_of hd)) hpk) fun g' w' v hs hr=>⟨g',hs,hr⟩) (fun v8 hv=>?_)
 clear hv
 refine L_do (φ:=fun v g w=>∃ y0 y1 y2,v=.tuple #[y0,y1,y2]∧RV g.m w wv.1 y0∧y1=.int .i64 wv.2.1∧y2=.int .i64 wv.2.2) rfl rfl .plain (fun g w hd=>D_call (g:=g) (vs:=[vb,.int .i64 c1.card,v8]) en49 (.cons rfl (.cons rfl (.cons rfl .nil))) (wk49 (rb.ext hd.1) (word (A:=fun g w=>RV g.m w pk v8) 8 rfl rfl (deps_of hd)) hwv) fun g' w' v hs hr=>⟨g',hs,hr⟩) (fun v9 hv=>?_)
 obtain ⟨_,_,_,y0,y1,y2,rfl,_,rfl,rfl⟩:=hv
 refine L_p (.tuple #[y0,.int .i64 wv.2.1,.int .i64 wv.2.2]) rfl rfl (P_move rfl) ?_
 refine L_p y0 rfl rfl (P_extract rfl rfl) ?_
 refine L_purL (c:=.int .i64 wv.2.1) rfl rfl .plain (P_extract rfl rfl) ?_
 refine L_purL (c:=.int .i64 wv.2.2) rfl rfl .plain (P_extract rfl rfl) ?_
 refine L_nil fun g10 w10 hall=>?_
 have hs:=hall.1
 have ry:RV g10.m w10 wv.1 y0:=by
  obtain ⟨a0,a1,a2,ha,hb,_⟩:=word_all (A:=fun g w=>∃ a0 a1 a2,(Value.tuple #[y0,.int .i64 wv.2.1,.int .i64 wv.2.2])=.tuple #[a0,a1,a2]∧RV g.m w wv.1 a0∧a1=.int .i64 wv.2.1∧a2=.int .i64 wv.2.2) 9 rfl hall
  injection ha with ha
  have h1:[y0,.int .i64 wv.2.1,.int .i64 wv.2.2]=[a0,a1,a2]:=congrArg Array.toList ha
  injection h1 with h0 _
  exact h0 ▸ hb
 have hlt:Lt g.m w' g10 w10:=hs.ch
 clear hall
 refine TL_pur hlt.w (v:=y0) (P_assign rfl) .plain rfl ?_
 refine TL_pur hlt.w (v:=.int .i64 wv.2.1) (P_assign rfl) .plain rfl ?_
 refine TL_pur hlt.w (v:=.int .i64 wv.2.2) (P_assign rfl) .plain rfl ?_
 refine TL_nil hlt.w (thn_n ?_)
 replace hfr:=hfr.ext hs
 replace mp:=mp.ext hs
 replace q8:=q8.ext hs
 replace q9:=q9.ext hs
 clear hlt hs rb hb1 hl1 hl2 qc
 refine E_seq (E_seq (E_region ?_))
 refine EL_mw (.int .i64 wv.2.2) rfl rfl ?_
 refine EL_in (.bool (wv.2.2 != (0:Int))) rfl rfl rfl rfl ?_
 refine EL_nil (thn_n ?_)
 rcases csome hf with ⟨hc2,hf⟩ | ⟨hc2,hf⟩
 ·refine E_ct hc2 rfl (E_seq (E_region ?_))
  refine EL_mw (.int .i64 wv.2.2) rfl rfl ?_
  refine EL_at (.slice none 0 0) rfl rfl ?_
  refine EL_at (.int .i64 wv.2.2) rfl rfl ?_
  refine EL_nil (thn_n (E_ret ?_))
  obtain rfl:=sinj hf
  exact end2 rfl rfl rfl rfl ⟨_,hfr,_,_,rfl,RV_nil,rfl,mpI.back mp⟩
 refine E_cf hc2 rfl (E_skip (thn_n ?_))
 obtain ⟨tv,htv,hf⟩:=bsome hf
 obtain rfl:=sinj hf
 refine E_seq (E_region ?_)
 refine EL_mv e0 rfl ?_
 refine EL_mw (.int .i64 wv.2.1) rfl rfl ?_
 refine EL_p (ePtr pv i 2) (P_nilE rfl hpp) rfl ?_
 refine EL_p (fPtr (ePtr pv i 2) 1) (P_fieldAddr at_81_1 rfl hpp) rfl ?_
 refine EL_do .plain rfl (D_storeMF (g:=g10) (y0:=wv.2.1) part_BookCylinder_1 Tryz.sizeOf3 rfl mp hi1 rfl (RV_int.2 rfl) fun g11 w11 hs11 mp11=>?_)
 rw [List.set_set] at mp11
 refine EL_nil (thn_n (E_seq (E_region ?_)))
 replace hfr:=hfr.stp hs11
 replace q8:=q8.stp hs11
 replace q9:=q9.stp hs11
 replace ry:=ry.stp hs11
 refine EL_do .plain rfl (D_load (g:=g11) Tryz.isAgg27 Tryz.sizeOf27 e9 q9 fun vh rh=>?_)
 refine EL_p (fPtr p8 0) (P_fieldAddr at_85_0 e8 (PT.ptr q8)) rfl ?_
 refine EL_do .plain rfl (D_load (g:=g11) Tryz.isAgg3 Tryz.sizeOf3 rfl (PT_field part_ChainBelt_0.1 q8) fun v r=>?_)
 obtain rfl:=RV_int.1 r
 refine EL_mw y0 rfl rfl ?_
 have rd:RV g11.m w11 (⟨ch.Chain.Hooks,wv.1⟩:Design) (.agg (setCh [[.int .i64 0],[.slice none 0 0]] [(0,.int .i64 ch.Chain.Hooks),(1,y0)]).flatten.toArray):=RV_build rfl (rep_pair (rfl) (rep_last (RV.cells ry)))
 generalize hgd:(Value.agg (setCh [[.int .i64 0],[.slice none 0 0]] [(0,.int .i64 ch.Chain.Hooks),(1,y0)]).flatten.toArray)=vd at rd
 refine EL_p vd (hgd ▸ P_build (vs:=[(0,.int .i64 ch.Chain.Hooks),(1,y0)]) [[.int .i64 0],[.slice none 0 0]] lay_29w rfl rfl (.cons rfl (.cons rfl .nil)) ⟨⟨_,rfl,rfl⟩,⟨⟨_,rfl,cells_size ry⟩,trivial⟩⟩) rfl ?_
 refine EL_do .plain rfl (D_call (g:=g11) (vs:=[vh,vd]) en51 (.cons rfl (.cons rfl .nil)) (wk51 rh rd htv) fun g12 w12 v12 hx12 hv=>?_)
 obtain ⟨z0,z1,rfl,rz,rfl⟩:=hv
 refine EL_p z0 (P_extract rfl rfl) rfl ?_
 refine EL_p (.int .i64 tv.2) (P_extract rfl rfl) rfl ?_
 refine EL_at z0 rfl rfl ?_
 refine EL_at (.int .i64 tv.2) rfl rfl ?_
 refine EL_nil (thn_n (E_ret ?_))
 exact end2 rfl rfl rfl rfl ⟨_,hfr.ext hx12,_,_,rfl,rz,rfl,mpI.back (mp11.ext hx12)⟩

def f38 (x0:BookChain):Option (Bool):=
 (f39 ((x0).Chain)).bind fun y5=>
 some ((y5 != (0:Int)))
theorem en38:Enters Tryz.prog 38:=enters_of Tryz.func38 (by kernel_rfl) rfl
theorem wk38 {gI:Gh} {wI:World} {x0:BookChain} {up0:Value} (rp0:RV gI.m wI x0 up0) {r:Bool} (h:f38 x0=some r):Fn Tryz.prog 38 #[up0] gI wI (fun _ _ v=>v=.bool (r)):=by
 unfold f38 at h
 refine fn_of_E Tryz.func38 rfl (Nat.le_of_ble_eq_true rfl) fun g0 hm hfr=>?_
 have rp0:RV g0.m wI x0 up0:=hm ▸ rp0
 show E _ 7 none _ _ _ _ _
 refine E_seq (E_region (EL_do .plain rfl (D_box (g:=g0) rfl rp0 fun g1 w1 p1 hs q1=>?_)))
 have hfr:=hfr.ext hs
 refine EL_at (.bool false) rfl rfl ?_
 refine EL_nil (thn_n (E_seq (E_region (EL_p (fPtr p1 1) (P_fieldAddr at_92_1 rfl (PT.ptr q1)) rfl ?_))))
 have q2:=PT_field (part_BookChain_1).1 q1
 refine EL_do .plain rfl (D_load (g:=g1) Tryz.isAgg85 Tryz.sizeOf85 rfl q2 fun v3 r3=>?_)
 obtain ⟨y5,hy5,h⟩:=bsome h
 refine EL_do .plain rfl (D_call (g:=g1) (vs:=[v3]) en39 (.cons rfl .nil) (wk39 r3 hy5) fun g4 w4_ v4 hs hr=>?_)
 have hfr:=hfr.ext hs
 subst hr
 refine EL_in (.bool ((y5 != (0:Int)))) rfl rfl rfl rfl ?_
 refine EL_at (.bool ((y5 != (0:Int)))) rfl rfl ?_
 refine EL_nil (thn_n (E_ret ?_))
 obtain rfl:=sinj h
 exact end1 rfl rfl (show _=.bool ((y5 != (0:Int))) from rfl) ⟨_,hfr,rfl⟩
def f18 (x0:BookMill):Option (Int):=
 jn (σ:=Unit) (fun _=>
  (f40 ((x0).Ties) ((fun a0=>f41 a0))).bind fun nD=>
  (f42 ((x0).Chains) ((fun a0=>f43 a0))).bind fun oD=>
  jn (σ:=Unit) (fun _=>
   some ((0:Int))
   ) fun yD=>
  Option.bind (α:=Bool) (
   (f44 nD).bind fun n9=>
   bif (!n9) then
    some (true)
   else
    (f44 oD).bind fun l9=>
    bif (!l9) then
     some (true)
    else
     (f45 ((x0).Ties) ((fun a0=>f36 a0))).bind fun aB=>
     bif aB then
      some (true)
     else
      (f46 ((x0).Chains) ((fun a0=>f38 a0))).bind fun vB=>
      some (vB)
   ) fun l5=>
  bif l5 then
   some ((2:Int))
  else
   yD ()
  ) fun k14=>
 Option.bind (α:=Bool) (
  bif (decide ((((x0).Ties).length : Int) > (8 : Int))) then
   some (true)
  else
   some ((decide ((((x0).Chains).length:Int) > (8:Int))))
  ) fun n8=>
 bif n8 then
  some ((5:Int))
 else
  k14 ()
theorem en18:Enters Tryz.prog 18:=enters_of Tryz.func18 (by kernel_rfl) rfl
theorem wk18 {gI:Gh} {wI:World} {x0:BookMill} {up0:Value} (rp0:RV gI.m wI x0 up0) {r:Int} (h:f18 x0=some r):Fn Tryz.prog 18 #[up0] gI wI (fun _ _ v=>v=.int .i64 (r)):=by
 unfold f18 at h
 refine fn_of_E Tryz.func18 rfl (Nat.le_of_ble_eq_true rfl) fun g0 hm hfr=>?_
 have rp0:RV g0.m wI x0 up0:=hm ▸ rp0
 show E _ 43 none _ _ _ _ _
 refine E_seq (E_region (EL_do .plain rfl (D_box (g:=g0) rfl rp0 fun g1 w1 p1 hs q1=>?_)))
 have hfr:=hfr.ext hs
 refine EL_at (.int .i64 (0)) rfl rfl ?_
 refine EL_nil (thn_n (E_joinC h (fun (s:Unit) e w=>∃ (g:Gh) ,Fr gI wI g w∧e 1=p1∧PT g.m w (x0:BookMill) p1) (fun X14 k14 iE h=>?_) ?_))
 ·obtain ⟨n8, hx, h⟩ := bsome h
  refine E_join (fun e w=>∃ (g:Gh) ,Fr gI wI g w∧e 1=p1∧PT g.m w (x0:BookMill) p1∧e 16=.bool (n8)) (fun Q' hQ=>?_) (fun sG nH hR=>?_)
  ·replace h := hx
   clear hx
   refine E_region (EL_p (fPtr p1 0) (P_fieldAddr at_50_0 rfl (PT.ptr q1)) rfl ?_)
   have zE:=PT_field (part_BookMill_0).1 q1
   refine EL_do .plain rfl (D_load (g:=g1) Tryz.isAgg47 Tryz.sizeOf47 rfl zE fun oH cF=>?_)
   refine EL_p (.int .i64 (((x0).Ties).length:Int)) (P_len Tryz.underlying47 rfl cF) rfl ?_
   refine EL_p (.bool ((decide ((((x0).Ties).length:Int) > (8:Int))))) (P_int rfl rfl rfl) rfl ?_
   refine EL_p (.bool ((decide ((((x0).Ties).length:Int) > (8:Int))))) (P_move rfl) rfl ?_
   rcases csome h with ⟨t5,h⟩ | ⟨t5,h⟩
   ·refine EL_s rfl rfl t5 rfl rfl ?_
    iterate 3 refine EL_s rfl rfl t5 rfl rfl ?_
    refine EL_p (.bool true) (P_pick (b:=(decide ((((x0).Ties).length:Int) > (8:Int)))) rfl (pick_t t5 rfl)) rfl ?_
    refine EL_nil ?_
    obtain rfl:=sinj h
    exact hQ _ _ ⟨g1,hfr,rfl,q1,rfl⟩
   ·refine EL_y (fPtr p1 1) (P_fieldAddr at_50_1 rfl (PT.ptr q1)) rfl rfl t5 rfl ?_
    have dF:=PT_field (part_BookMill_1).1 q1
    refine EL_do (.yes2 rfl rfl t5) rfl (D_load (g:=g1) Tryz.isAgg48 Tryz.sizeOf48 rfl dF fun pH eF=>?_)
    refine EL_y (.int .i64 (((x0).Chains).length:Int)) (P_len Tryz.underlying48 rfl eF) rfl rfl t5 rfl ?_
    refine EL_y (.bool ((decide ((((x0).Chains).length:Int) > (8:Int))))) (P_int rfl rfl rfl) rfl rfl t5 rfl ?_
    refine EL_p (.bool ((decide ((((x0).Chains).length:Int) > (8:Int))))) (P_pick (b:=(decide ((((x0).Ties).length:Int) > (8:Int)))) rfl (pick_f t5 rfl)) rfl ?_
    refine EL_nil ?_
    obtain rfl:=sinj h
    exact hQ _ _ ⟨g1,hfr,rfl,q1,rfl⟩
  ·clear hx
   obtain ⟨rF,hfr,cD,lD,nB⟩:=hR
   rcases csome h with ⟨oB,h⟩ | ⟨oB,h⟩
   ·refine E_cond_true (Eq.trans (show ev _ _ = .bool (n8) from nB) (congrArg Value.bool oB)) ?_
    refine E_seq (E_region (EL_at (.int .i64 (5)) rfl rfl ?_))
    refine EL_nil (thn_n (E_ret (thn_r ?_)))
    obtain rfl:=sinj h
    exact end1 rfl rfl (show _=.int .i64 (5) from rfl) ⟨_,hfr,rfl⟩
   ·refine E_cond_false (Eq.trans (show ev _ _ = .bool (n8) from nB) (congrArg Value.bool oB)) ?_
    exact E_skip (thn_n (iE () _ _ ⟨rF,hfr,cD,lD⟩ h))
 ·rintro _ xG qH ⟨zD, hfr, v8, o0⟩ h
  refine E_seq (E_region (EL_at (.func (.func 36) #[] #[]) rfl rfl ?_))
  refine EL_nil (thn_n (E_seq (E_region (EL_at (.func (.func 38) #[] #[]) rfl rfl ?_))))
  refine EL_nil (thn_n (E_seq (E_region (EL_p (fPtr p1 0) (P_fieldAddr at_50_0 v8 (PT.ptr o0)) rfl ?_))))
  have sF:=PT_field (part_BookMill_0).1 o0
  refine EL_do .plain rfl (D_load (g:=zD) Tryz.isAgg47 Tryz.sizeOf47 rfl sF fun tF uF=>?_)
  obtain ⟨nD,lE,h⟩:=bsome h
  refine EL_do .plain rfl (D_call (g:=zD) (vs:=[tF,.func (.func 41) #[] #[]]) en40 (.cons rfl (.cons rfl .nil)) (wk40 uF ⟨41,#[],#[],rfl,en41,fun g' w' hch a0 b0 r hu0 hr=>by exact Fn.mono (wk41 hu0  hr) fun _ _ _ h=>RV_str.2 h⟩ lE) fun aE yG yB hs hr=>?_)
  have hfr:=hfr.ext hs
  have o0:=o0.ext hs
  have zB:=hr
  refine EL_at yB rfl rfl ?_
  refine EL_nil (thn_n (E_seq (E_region (EL_p (fPtr p1 1) (P_fieldAddr at_50_1 v8 (PT.ptr o0)) rfl ?_))))
  have vF:=PT_field (part_BookMill_1).1 o0
  refine EL_do .plain rfl (D_load (g:=aE) Tryz.isAgg48 Tryz.sizeOf48 rfl vF fun xF yF=>?_)
  obtain ⟨oD,mE,h⟩:=bsome h
  refine EL_do .plain rfl (D_call (g:=aE) (vs:=[xF,.func (.func 43) #[] #[]]) en42 (.cons rfl (.cons rfl .nil)) (wk42 yF ⟨43,#[],#[],rfl,en43,fun g' w' hch a0 b0 r hu0 hr=>by exact Fn.mono (wk43 hu0  hr) fun _ _ _ h=>RV_str.2 h⟩ mE) fun aG zG cC hs hr=>?_)
  have hfr:=hfr.ext hs
  have o0:=o0.ext hs
  have zB:=zB.ext hs
  have uC:=hr
  refine EL_at cC rfl rfl ?_
  refine EL_nil (thn_n (E_joinC h (fun (s:Unit) e w=>∃ (g:Gh) ,Fr gI wI g w) (fun X69 yD oE h=>?_) ?_))
  ·obtain ⟨l5, hx, h⟩ := bsome h
   refine E_join (fun e w=>∃ (g:Gh) ,Fr gI wI g w∧e 42=.bool (l5)) (fun Q' hQ=>?_) (fun lG aH hR=>?_)
   ·replace h := hx
    clear hx
    refine E_region (EL_mw yB rfl rfl ?_)
    obtain ⟨n9,rE,h⟩:=bsome h
    refine EL_do .plain rfl (D_call (g:=aG) (vs:=[yB]) en44 (.cons rfl .nil) (wk44 zB rE) fun bE cH sH hs hr=>?_)
    have hfr:=hfr.ext hs
    have o0:=o0.ext hs
    have uC:=uC.ext hs
    subst hr
    refine EL_p (.bool (!n9)) (P_not rfl) rfl ?_
    refine EL_mw (.bool (!n9)) rfl rfl ?_
    rcases csome h with ⟨i6,h⟩ | ⟨i6,h⟩
    ·refine EL_s rfl rfl i6 rfl rfl ?_
     refine EL_s rfl rfl i6 rfl rfl ?_
     refine EL_s rfl rfl i6 rfl rfl ?_
     refine EL_p (.bool true) (P_pick (b:=(!n9)) rfl (pick_t i6 rfl)) rfl ?_
     refine EL_dead 12 rfl ?_
     refine EL_nil ?_
     obtain rfl:=sinj h
     exact hQ _ _ ⟨bE,hfr,rfl⟩
    ·refine EL_y cC (P_move rfl) rfl rfl i6 rfl ?_
     obtain ⟨l9,uE,h⟩:=bsome h
     refine EL_do (.yes2 rfl rfl i6) rfl (D_call (g:=bE) (vs:=[cC]) en44 (.cons rfl .nil) (wk44 uC uE) fun vC gH tH hs hr=>?_)
     have hfr:=hfr.ext hs
     have o0:=o0.ext hs
     subst hr
     refine EL_y (.bool (!l9)) (P_not rfl) rfl rfl i6 rfl ?_
     refine EL_p (.bool (!l9)) (P_pick (b:=(!n9)) rfl (pick_f i6 rfl)) rfl ?_
     refine EL_mw (.bool (!l9)) rfl rfl ?_
     rcases csome h with ⟨g8,h⟩ | ⟨g8,h⟩
     ·refine EL_s rfl rfl g8 rfl rfl ?_
      iterate 3 refine EL_s rfl rfl g8 rfl rfl ?_
      refine EL_p (.bool true) (P_pick (b:=(!l9)) rfl (pick_t g8 rfl)) rfl ?_
      refine EL_dead 6 rfl ?_
      refine EL_nil ?_
      obtain rfl:=sinj h
      exact hQ _ _ ⟨vC,hfr,rfl⟩
     ·refine EL_y (fPtr p1 0) (P_fieldAddr at_50_0 v8 (PT.ptr o0)) rfl rfl g8 rfl ?_
      have bG:=PT_field (part_BookMill_0).1 o0
      refine EL_do (.yes2 rfl rfl g8) rfl (D_load (g:=vC) Tryz.isAgg47 Tryz.sizeOf47 rfl bG fun cG eG=>?_)
      refine EL_y (.func (.func 36) #[] #[]) (P_move rfl) rfl rfl g8 rfl ?_
      obtain ⟨aB,vE,h⟩:=bsome h
      refine EL_do (.yes2 rfl rfl g8) rfl (D_call (g:=vC) (vs:=[cG,.func (.func 36) #[] #[]]) en45 (.cons rfl (.cons rfl .nil)) (wk45 eG ⟨36,#[],#[],rfl,en36,fun g' w' hch a0 b0 r hu0 hr=>by exact Fn.mono (wk36 hu0  hr) fun _ _ _ h=>RV_bool.2 h⟩ vE) fun bD jH uH hs hr=>?_)
      have hfr:=hfr.ext hs
      have o0:=o0.ext hs
      subst hr
      refine EL_p (.bool (aB)) (P_pick (b:=(!l9)) rfl (pick_f g8 rfl)) rfl ?_
      refine EL_mw (.bool (aB)) rfl rfl ?_
      rcases csome h with ⟨l8,h⟩ | ⟨l8,h⟩
      ·refine EL_s rfl rfl l8 rfl rfl ?_
       iterate 3 refine EL_s rfl rfl l8 rfl rfl ?_
       refine EL_p (.bool true) (P_pick (b:=aB) rfl (pick_t l8 rfl)) rfl ?_
       refine EL_nil ?_
       obtain rfl:=sinj h
       exact hQ _ _ ⟨bD,hfr,rfl⟩
      ·refine EL_y (fPtr p1 1) (P_fieldAddr at_50_1 v8 (PT.ptr o0)) rfl rfl l8 rfl ?_
       have gG:=PT_field (part_BookMill_1).1 o0
       refine EL_do (.yes2 rfl rfl l8) rfl (D_load (g:=bD) Tryz.isAgg48 Tryz.sizeOf48 rfl gG fun iG jG=>?_)
       refine EL_y (.func (.func 38) #[] #[]) (P_move rfl) rfl rfl l8 rfl ?_
       obtain ⟨vB,xE,h⟩:=bsome h
       refine EL_do (.yes2 rfl rfl l8) rfl (D_call (g:=bD) (vs:=[iG,.func (.func 38) #[] #[]]) en46 (.cons rfl (.cons rfl .nil)) (wk46 jG ⟨38,#[],#[],rfl,en38,fun g' w' hch a0 b0 r hu0 hr=>by exact Fn.mono (wk38 hu0  hr) fun _ _ _ h=>RV_bool.2 h⟩ xE) fun kG kH xH hs hr=>?_)
       have hfr:=hfr.ext hs
       subst hr
       refine EL_p (.bool (vB)) (P_pick (b:=aB) rfl (pick_f l8 rfl)) rfl ?_
       refine EL_nil ?_
       obtain rfl:=sinj h
       exact hQ _ _ ⟨kG,hfr,rfl⟩
   ·clear hx
    obtain ⟨yE,hfr,lB⟩:=hR
    rcases csome h with ⟨mB,h⟩ | ⟨mB,h⟩
    ·refine E_cond_true (Eq.trans (show ev _ _ = .bool (l5) from lB) (congrArg Value.bool mB)) ?_
     refine E_seq (E_region (EL_at (.int .i64 (2)) rfl rfl ?_))
     refine EL_nil (thn_n (E_ret (thn_r ?_)))
     obtain rfl:=sinj h
     exact end1 rfl rfl (show _=.int .i64 (2) from rfl) ⟨_,hfr,rfl⟩
    ·refine E_cond_false (Eq.trans (show ev _ _ = .bool (l5) from lB) (congrArg Value.bool mB)) ?_
     exact E_skip (thn_n (oE () _ _ ⟨yE,hfr⟩ h))
  ·rintro _ mG lH ⟨mH, hfr⟩ h
   refine E_seq (E_region (EL_at (.int .i64 (0)) rfl rfl ?_))
   refine EL_nil (thn_n (E_ret ?_))
   obtain rfl:=sinj h
   exact end1 rfl rfl (show _=.int .i64 (0) from rfl) ⟨_,hfr,rfl⟩
theorem en96:Enters Tryz.prog 96:=enters_of Tryz.func96 (by kernel_rfl) rfl
theorem it_ok:ItOk Tryz.prog 96 0:=fun n h0 h1 w hT=>Tryz.strconv_Itoa n h0 h1 w (tabIs_of (by kernel_rfl) hT)
abbrev AnyT:=AnyV 3 9
theorem atW_0 (a:Addr) (w:World):(Instr.fieldAt 158 (.pointer (some a)) 0).run Tryz.prog w=.ok (.pointer (some (a.add 0))) w:=by simp [Instr.fieldAt,run_underlying Tryz.underlying158,Instr.sureAddr,fieldPlace,Result.andThen]
theorem atW_1 (a:Addr) (w:World):(Instr.fieldAt 158 (.pointer (some a)) 1).run Tryz.prog w=.ok (.pointer (some (a.add 2))) w:=by simp [Instr.fieldAt,run_underlying Tryz.underlying158,Instr.sureAddr,fieldPlace,Result.andThen]
theorem wcc {i : Nat} {g : Gh} {w : World} {b : Nat} {a v : Value} {n : Int} (hb : HBm i g w b (.cells #[a, v, .int .i64 n] 158 (0, 0))) (ha : a = .pointer none ∨ a = .pointer (some ⟨b, 0, none⟩)) :
  Calls Tryz.prog 126 #[.pointer (some ⟨b,0,none⟩)] w fun r w'=>∃ u,r=.returned u∧Stp i g w g w'∧HBm i g w' b (.cells #[.pointer (some ⟨b,0,none⟩),v,.int .i64 n] 158 (0,0))∧∀ k,k ≠ b→w'.heap[k]?=w.heap[k]?:=by
 obtain ⟨jt,hj,hjs⟩:=sb_psize
 have hsh:=hb.shape
 refine calls_of_E Tryz.func126 rfl (Nat.le_of_ble_eq_true rfl) ?_
 show E _ 20 none _ _ _ _ _
 refine E_seq (E_region ?_)
 refine EL_mw (.pointer (some ⟨b,0,none⟩)) rfl rfl ?_
 refine EL_p (.pointer (some ⟨b,0,none⟩)) (P_nilCheck rfl) rfl ?_
 refine EL_p (.pointer (some ⟨b,0,none⟩)) (show Pur _ _ _ (fPtr (.pointer (some ⟨b,0,none⟩)) 0) from P_fieldAddr atS_0 rfl ⟨b,0,rfl⟩) rfl ?_
 refine EL_do .plain rfl (D_load1 Tryz.isAgg154 rfl (hb.cell.trans rfl) ?_)
 rcases ha with ha | ha
 ·subst ha
  refine EL_p (.bool true) (P_ptreq (u1:=.pointer none) (u2:=.pointer none) (.inl rfl) rfl rfl ⟨_,rfl⟩ ⟨_,rfl⟩ (fun w=>by simpa using run_eql_pointer_nil (P:=Tryz.prog) w 154 none Tryz.underlying154)) rfl ?_
  refine EL_nil (thn_n ?_)
  refine E_cond_true rfl (E_region ?_)
  refine EL_mw (.pointer (some ⟨b,0,none⟩)) rfl rfl ?_
  refine EL_mw (.pointer (some ⟨b,0,none⟩)) rfl rfl ?_
  refine EL_val (v:=.pointer (some ⟨b,0,none⟩)) (w':=w) .plain (fun _ h=>by cases h) rfl (by
   have:=Lib.run_to_unsafe w ⟨b,0,none⟩ Tryz.underlying154 Tryz.underlying236 hj (by rw [hjs]; decide) hsh (by show 0 < 3; omega)
   show (Sem.run _ (execOp _ _) _)=_
   simp only [execOp,Sem.run_bind]
   rw [show ev _ (Operand.tmp 8)=Value.pointer (some ⟨b,0,none⟩) from rfl,this]
   rfl) ?_
  refine EL_p (.pointer (some ⟨b,0,none⟩)) (P_extern Tryz.func141 (by kernel_rfl) (by kernel_rfl) (by kernel_rfl) (ex:=Extern.AbiNoEscape.same) (by kernel_rfl) (.cons rfl .nil) (fun _=>rfl)) rfl ?_
  refine EL_val (v:=.pointer (some ⟨b,0,none⟩)) (w':=w) .plain (fun _ h=>by cases h) rfl (by
   have:=Lib.run_from_unsafe w ⟨b,0,none⟩ Tryz.underlying236 Tryz.underlying154 hj hsh (by kernel_rfl)
   show (Sem.run _ (execOp _ _) _)=_
   simp only [execOp,Sem.run_bind]
   rw [show ev _ (Operand.tmp 10)=Value.pointer (some ⟨b,0,none⟩) from rfl,this]
   rfl) ?_
  refine EL_p (.pointer (some ⟨b,0,none⟩)) (P_nilCheck rfl) rfl ?_
  refine EL_p (.pointer (some ⟨b,0,none⟩)) (show Pur _ _ _ (fPtr (.pointer (some ⟨b,0,none⟩)) 0) from P_fieldAddr atS_0 rfl ⟨b,0,rfl⟩) rfl ?_
  refine EL_do .plain rfl (D_store1 (c:=.pointer (some ⟨b,0,none⟩)) Tryz.sizeOf154 rfl rfl rfl (by simp) hb fun w1 hs hb1 hk=>?_)
  refine EL_nil ?_
  exact end0n rfl rfl ⟨hs,hb1,hk⟩
 ·subst ha
  refine EL_p (.bool false) (P_ptreq (u1:=.pointer (some ⟨b,0,none⟩)) (u2:=.pointer none) (.inl rfl) rfl rfl ⟨_,rfl⟩ ⟨_,rfl⟩ (fun w=>by simpa using run_eql_pointer_nil (P:=Tryz.prog) w 154 (some ⟨b,0,none⟩) Tryz.underlying154)) rfl ?_
  refine EL_nil (thn_n ?_)
  refine E_cond_false rfl ?_
  refine E_seq (E_region ?_)
  refine EL_mw (.pointer (some ⟨b,0,none⟩)) rfl rfl ?_
  refine EL_p (.pointer (some ⟨b,0,none⟩)) (P_nilCheck rfl) rfl ?_
  refine EL_p (.pointer (some ⟨b,0,none⟩)) (show Pur _ _ _ (fPtr (.pointer (some ⟨b,0,none⟩)) 0) from P_fieldAddr atS_0 rfl ⟨b,0,rfl⟩) rfl ?_
  refine EL_do .plain rfl (D_load1 Tryz.isAgg154 rfl (hb.cell.trans rfl) ?_)
  refine EL_mw (.pointer (some ⟨b,0,none⟩)) rfl rfl ?_
  refine EL_p (.bool false) (P_ptreq (.inr rfl) rfl rfl ⟨_,rfl⟩ ⟨_,rfl⟩ (fun w=>Lib.run_neq_ptr_same w ⟨b,0,none⟩ Tryz.underlying154 hj)) rfl ?_
  refine EL_nil (thn_n ?_)
  refine E_cond_false rfl (E_skip ?_)
  exact end0n rfl rfl ⟨stp_refl _ _ _,hb,fun _ _=>rfl⟩
theorem wwb {i : Nat} {g : Gh} {w : World} {c : UInt8} {s : List UInt8 × Int} {r : List UInt8} {p : Value} (h : WR i g w 5 158 s p) (hr : apnd 1 s.1 [c] = some r) :
  Calls Tryz.prog 94 #[p,.int .u8 c.toNat] w fun q w'=>∃ v,q=.returned v∧∃ g',Stp i g w g' w'∧WR i g' w' 5 158 (r,s.2) p:=by
 obtain ⟨b,a,v,rfl,hb,hz,hne,ha⟩:=h
 refine calls_of_E Tryz.func94 rfl (Nat.le_of_ble_eq_true rfl) ?_
 show E _ 17 none _ _ _ _ _
 refine E_seq (E_region ?_)
 refine EL_at .nilIface rfl rfl ?_
 refine EL_nil (thn_n ?_)
 refine E_seq (E_region ?_)
 refine EL_mw (.pointer (some ⟨b,0,none⟩)) rfl rfl ?_
 refine EL_do .plain rfl (D_callC (vs:=[.pointer (some ⟨b,0,none⟩)]) en126 (.cons rfl .nil) (wcc hb ha) fun u w1 h1=>?_)
 obtain ⟨hs1,hb1,hk1⟩:=h1
 have hz1:=hz.other hne hk1
 refine EL_nil (thn_n ?_)
 refine E_seq (E_region ?_)
 refine EL_mw (.pointer (some ⟨b,0,none⟩)) rfl rfl ?_
 refine EL_mw (.pointer (some ⟨b,0,none⟩)) rfl rfl ?_
 refine EL_p (.pointer (some ⟨b,0,none⟩)) (P_nilCheck rfl) rfl ?_
 refine EL_p (.pointer (some ⟨b,1,none⟩)) (show Pur _ _ _ (fPtr (.pointer (some ⟨b,0,none⟩)) 1) from P_fieldAddr atS_1 rfl ⟨b,0,rfl⟩) rfl ?_
 refine EL_do .plain rfl (D_load1 Tryz.isAgg72 rfl (hb1.cell.trans rfl) ?_)
 refine EL_mw (.int .u8 c.toNat) rfl rfl ?_
 refine EL_do .plain rfl (D_buildSlice (g:=g) 1 (xs:=[c]) (vs:=[.int .u8 c.toNat]) Tryz.underlying72 Tryz.sizeOf5 Tryz.zeroValue5 rfl rfl (.cons rfl .nil) (RVs.cons (RV_u8.2 rfl) RVs.nil) rfl rfl fun g3 w3 v3 _ _ r3 hxt _=>?_)
 have hb3:=hb1.ext hxt
 refine EL_do .plain rfl (D_appendBZ (g:=g3) Tryz.underlying72 info_5 rfl (hz1.ext hxt) rfl r3 hr fun g4 w4 v4 hs4 z4 ap4=>?_)
 obtain ⟨hb4,hne4⟩:=hb3.apart ap4 hne
 refine EL_p (.pointer (some ⟨b,0,none⟩)) (P_nilCheck rfl) rfl ?_
 refine EL_p (.pointer (some ⟨b,1,none⟩)) (show Pur _ _ _ (fPtr (.pointer (some ⟨b,0,none⟩)) 1) from P_fieldAddr atS_1 rfl ⟨b,0,rfl⟩) rfl ?_
 refine EL_do .plain rfl (D_store1 (c:=v4) Tryz.sizeOf72 rfl rfl z4.one (by simp) hb4 fun w5 hs5 hb5 hk5=>?_)
 refine EL_nil (thn_n ?_)
 refine E_seq (E_region ?_)
 refine EL_at .nilIface rfl rfl ?_
 refine EL_nil (thn_n ?_)
 exact E_ret (end1 rfl rfl (show _=.nilIface from rfl) ⟨g4,(hs1.trans (hxt.stp.trans (hs4.trans hs5))),b,_,v4,rfl,hb5,z4.other hne4 hk5,hne4,.inr rfl⟩)
theorem en95:Enters Tryz.prog 95:=enters_of Tryz.func95 (by kernel_rfl) rfl
theorem wws {i : Nat} {g : Gh} {w : World} {c : Str} {s : List UInt8 × Int} {r : List UInt8} {p : Value} (h : WR i g w 5 158 s p) (hr : apnd 1 s.1 c.b = some r) :
  Calls Tryz.prog 95 #[p,c.v] w fun q w'=>∃ v,q=.returned v∧∃ g',Stp i g w g' w'∧WR i g' w' 5 158 (r,s.2) p:=by
 obtain ⟨b,a,v,rfl,hb,hz,hne,ha⟩:=h
 refine calls_of_E Tryz.func95 rfl (Nat.le_of_ble_eq_true rfl) ?_
 show E _ 19 none _ _ _ _ _
 refine E_seq (E_region ?_)
 refine EL_at (.int .i64 0) rfl rfl ?_
 refine EL_at .nilIface rfl rfl ?_
 refine EL_nil (thn_n ?_)
 refine E_seq (E_region ?_)
 refine EL_mw (.pointer (some ⟨b,0,none⟩)) rfl rfl ?_
 refine EL_do .plain rfl (D_callC (vs:=[.pointer (some ⟨b,0,none⟩)]) en126 (.cons rfl .nil) (wcc hb ha) fun u w1 h1=>?_)
 obtain ⟨hs1,hb1,hk1⟩:=h1
 have hz1:=hz.other hne hk1
 refine EL_nil (thn_n ?_)
 refine E_seq (E_region ?_)
 refine EL_mw (.pointer (some ⟨b,0,none⟩)) rfl rfl ?_
 refine EL_mw (.pointer (some ⟨b,0,none⟩)) rfl rfl ?_
 refine EL_p (.pointer (some ⟨b,0,none⟩)) (P_nilCheck rfl) rfl ?_
 refine EL_p (.pointer (some ⟨b,1,none⟩)) (show Pur _ _ _ (fPtr (.pointer (some ⟨b,0,none⟩)) 1) from P_fieldAddr atS_1 rfl ⟨b,0,rfl⟩) rfl ?_
 refine EL_do .plain rfl (D_load1 Tryz.isAgg72 rfl (hb1.cell.trans rfl) ?_)
 refine EL_mw c.v rfl rfl ?_
 refine EL_do .plain rfl (D_appendSZ (g:=g) Tryz.underlying72 Tryz.underlying9 info_5 rfl hz1 rfl hr fun g4 w4 v4 hs4 z4 ap4=>?_)
 obtain ⟨hb4,hne4⟩:=hb1.apart ap4 hne
 refine EL_p (.pointer (some ⟨b,0,none⟩)) (P_nilCheck rfl) rfl ?_
 refine EL_p (.pointer (some ⟨b,1,none⟩)) (show Pur _ _ _ (fPtr (.pointer (some ⟨b,0,none⟩)) 1) from P_fieldAddr atS_1 rfl ⟨b,0,rfl⟩) rfl ?_
 refine EL_do .plain rfl (D_store1 (c:=v4) Tryz.sizeOf72 rfl rfl z4.one (by simp) hb4 fun w5 hs5 hb5 hk5=>?_)
 refine EL_nil (thn_n ?_)
 refine E_seq (E_region ?_)
 refine EL_mw c.v rfl rfl ?_
 refine EL_p (.int .i64 (c.b.length:Int)) (P_lenS Tryz.underlying9 rfl) rfl ?_
 refine EL_at (.int .i64 (c.b.length:Int)) rfl rfl ?_
 refine EL_at .nilIface rfl rfl ?_
 refine EL_nil (thn_n ?_)
 exact E_ret (end2 rfl rfl rfl rfl ⟨g4,(hs1.trans (hs4.trans hs5)),b,_,v4,rfl,hb5,z4.other hne4 hk5,hne4,.inr rfl⟩)
theorem wst {i : Nat} {g : Gh} {w : World} {s : List UInt8 × Int} {p : Value} (h : WR i g w 5 158 s p) (h0 : s.1 ≠ []) :
  Calls Tryz.prog 67 #[p] w fun q w'=>∃ v,q=.returned v∧v=Str.v ⟨s.1⟩∧(∀ bk,p=.pointer (some ⟨bk,0,none⟩)→w'.heap[bk]?=w.heap[bk]?)∧∃ g',Stp i g w g' w'∧WR i g' w' 5 158 s p:=by
 obtain ⟨b,a,v,rfl,hb,hz,hne,ha⟩:=h
 obtain ⟨sa,c,rfl,hc,_⟩:=hz.hdr
 have hcn:c ≠ 0:=by
  have : 0 < s.1.length := by cases hs : s.1 with
   | nil=>exact absurd hs h0
   | cons _ _=>simp
  omega
 have hl:=L_ldW Tryz.isAgg72 hb (o:=1) (c:=.slice sa s.1.length c) rfl
 refine calls_of_E Tryz.func67 rfl (Nat.le_of_ble_eq_true rfl) ?_
 show E _ 14 none _ _ _ _ _
 refine E_seq (E_region ?_)
 refine EL_at (Str.v ⟨[]⟩) rfl rfl ?_
 refine EL_nil (thn_n ?_)
 refine E_seq ?_
 refine E_drawL (g:=g) (n:=10) [] [0,1,2,3,4,5,6,7,8,9] rfl mixedS (by kernel_rfl) trivial ?_
 refine L_pur (c:=.pointer (some ⟨b,0,none⟩)) rfl rfl .plain (fun _ _ hd=>P_move rfl) ?_
 refine L_pur (c:=.pointer (some ⟨b,0,none⟩)) rfl rfl .plain (fun _ _ hd=>P_nilCheck rfl) ?_
 refine L_pur (c:=.pointer (some ⟨b,1,none⟩)) rfl rfl .plain (fun _ _ hd=>show Pur _ _ _ (fPtr (.pointer (some ⟨b,0,none⟩)) 1) from P_fieldAddr atS_1 rfl ⟨b,0,rfl⟩) ?_
 refine L_ld (c:=.slice sa s.1.length c) rfl rfl .plain (fun _ _ h=>⟨h.ch,fun b hb _=>h.below.block b hb⟩) (hl _) rfl ?_
 refine L_pur (c:=.pointer sa) rfl rfl .plain (fun _ _ hd=>P_sliceData (a:=sa) (n:=s.1.length) (c:=c) rfl (.inl hcn)) ?_
 refine L_pur (c:=.pointer (some ⟨b,0,none⟩)) rfl rfl .plain (fun _ _ hd=>P_move rfl) ?_
 refine L_pur (c:=.pointer (some ⟨b,0,none⟩)) rfl rfl .plain (fun _ _ hd=>P_nilCheck rfl) ?_
 refine L_pur (c:=.pointer (some ⟨b,1,none⟩)) rfl rfl .plain (fun _ _ hd=>show Pur _ _ _ (fPtr (.pointer (some ⟨b,0,none⟩)) 1) from P_fieldAddr atS_1 rfl ⟨b,0,rfl⟩) ?_
 refine L_ld (c:=.slice sa s.1.length c) rfl rfl .plain (fun _ _ h=>⟨h.ch,fun b hb _=>h.below.block b hb⟩) (hl _) rfl ?_
 refine L_pur (c:=.int .i64 (s.1.length:Int)) rfl rfl .plain (fun _ _ hd=>P_lenH (v:=.slice sa s.1.length c) Tryz.underlying72 rfl ⟨_,_,rfl⟩) ?_
 refine L_nil fun g1 w1 hall=>?_
 have hs:=hall.1
 refine EL_do .plain rfl (D_unsafeStringZ (g:=g1) (i:=i) (et:=5) rfl Tryz.underlying197 (by kernel_rfl) h0 rfl rfl (hz.ext hs) fun w2 hs2 z2 ap2=>?_)
 obtain ⟨hb2,hne2⟩:=(hb.ext hs).apart ap2 hne
 refine EL_at (Str.v ⟨s.1⟩) rfl rfl ?_
 refine EL_nil (thn_n ?_)
 exact E_ret (end1 rfl rfl (show _=Str.v ⟨s.1⟩ from rfl) ⟨rfl,fun bk hbk=>by injection hbk with hbk; injection hbk with hbk; injection hbk with hbk _; subst hbk; exact hb2.2.2.trans hb.2.2.symm,g1,hs.stp.trans hs2,b,a,_,rfl,hb2,z2,hne2,ha⟩)
def anyS : AnyT → Option Str
 | .str s=>some s
 | .int n=>itoaN n
def f64 (x0:List UInt8 × Int) (x1:List AnyT):Option (List UInt8 × Int):=
 Option.bind (α:=List UInt8) (lp (σ:=List UInt8 × Int) (fun k s=>bif decide (s.2 < (x1.length:Int)) then (idx x1 s.2).bind fun a=>Option.bind (α:=List UInt8) (bif decide (s.2 > (0:Int)) then apnd 1 s.1 [32] else some s.1) fun b=>(anyS a).bind fun t=>(apnd 1 b t.b).bind fun c=>k (c,w64 (s.2 + (1:Int))) else some s.1) big (x0.1,0)) fun b=>
 (apnd 1 b [10]).bind fun c=>some (c,w64 (x0.2 + (1:Int)))
theorem en64:Enters Tryz.prog 64:=enters_of Tryz.func64 (by kernel_rfl) rfl
theorem wk64 {i : Nat} {g : Gh} {w : World} {s s' : List UInt8 × Int} {ws : List AnyT} {p u : Value} (hT : TabP 0 g.m w) (h : WR i g w 5 158 s p) (hu : RV g.m w ws u) (hf : f64 s ws = some s') :
  Calls Tryz.prog 64 #[p,u] w fun q w'=>∃ v,q=.returned v∧∃ g',Stp i g w g' w'∧WR i g' w' 5 158 s' p:=by
 unfold f64 at hf
 obtain ⟨b0,hl,hf⟩:=bsome hf
 obtain ⟨bk,rfl⟩:∃ b,p=.pointer (some ⟨b,0,none⟩):=by obtain ⟨b,_,_,hh,_⟩:=h; exact ⟨b,hh⟩
 refine calls_of_E Tryz.func64 rfl (Nat.le_of_ble_eq_true rfl) ?_
 show E _ 51 none _ _ _ _ _
 refine E_joinD (fun e ds w'=>ds=[]∧e 0=.pointer (some ⟨bk,0,none⟩)∧∃ g',Stp i g w g' w'∧WR i g' w' 5 158 (b0,s.2) (.pointer (some ⟨bk,0,none⟩))) (fun Q' hQ=>?_) (fun e ds w' hR=>?_)
 ·refine E_seq (E_region ?_)
  refine EL_mw u rfl rfl ?_
  refine EL_p (.int .i64 (ws.length:Int)) (P_len (v:=u) Tryz.underlying160 rfl hu) rfl ?_
  refine EL_mw (.int .i64 0) rfl rfl ?_
  refine EL_nil (thn_n ?_)
  refine E_block ?_
  refine E_lpD hl (fun (t:List UInt8 × Int) e ds w'=>ds=[]∧e 0=.pointer (some ⟨bk,0,none⟩)∧e 8=u∧e 9=.int .i64 (ws.length:Int)∧e 10=.int .i64 t.2∧∃ g',Stp i g w g' w'∧WR i g' w' 5 158 (t.1,s.2) (.pointer (some ⟨bk,0,none⟩))) ⟨rfl,rfl,rfl,rfl,rfl,g,stp_refl _ _ _,h⟩ (fun X rec hrec=>?_)
  rintro ⟨xs,n⟩ e ds w1 ⟨rfl,e0,e8,e9,e10,g1,hs,hwr⟩ hk
  refine E_seq (E_region ?_)
  refine EL_in (.bool (decide (n < (ws.length:Int)))) e10 e9 rfl rfl ?_
  refine EL_nil (thn_n ?_)
  rcases csome hk with ⟨hc,hk⟩ | ⟨hc,hk⟩
  ·refine E_seq (E_ct hc rfl (E_skip (thn_n ?_)))
   obtain ⟨a,ha,hk⟩:=bsome hk
   obtain ⟨bb,hbb,hk⟩:=bsome hk
   obtain ⟨tx,htx,hk⟩:=bsome hk
   obtain ⟨cc,hcc,hk⟩:=bsome hk
   have hu1:=hu.ch hs.ch
   have hT1:=hT.ch hs.ch
   refine E_joinD (fun e ds w'=>ds=[]∧e 0=.pointer (some ⟨bk,0,none⟩)∧e 8=u∧e 9=.int .i64 (ws.length:Int)∧e 10=.int .i64 n∧∃ g',Stp i g w g' w'∧WR i g' w' 5 158 (cc,s.2) (.pointer (some ⟨bk,0,none⟩))) (fun Q' hQ=>?_) (fun e2 ds2 w2 hR=>?_)
   ·refine E_block ?_
    refine E_seq (E_region ?_)
    refine EL_mw (.int .i64 n) e10 rfl ?_
    refine EL_p (ePtr u n 1) (P_indexAddr (α:=AnyT) Tryz.underlying160 Tryz.sizeOf20 e8 hu1 e10 ha) rfl ?_
    refine EL_do .plain rfl (D_load (g:=g1) Tryz.isAgg20 Tryz.sizeOf20 rfl (PT_idx hu1 ha) fun va ra=>?_)
    obtain rfl:=RV_any.1 ra
    refine EL_at (.int .i64 n) rfl rfl ?_
    refine EL_at a.v rfl rfl ?_
    refine EL_nil (thn_n ?_)
    refine E_joinD (fun e ds w'=>ds=[]∧e 0=.pointer (some ⟨bk,0,none⟩)∧e 5=a.v∧e 8=u∧e 9=.int .i64 (ws.length:Int)∧e 10=.int .i64 n∧∃ g',Stp i g w g' w'∧WR i g' w' 5 158 (bb,s.2) (.pointer (some ⟨bk,0,none⟩))) (fun Q2 hQ2=>?_) (fun e3 ds3 w3 hR3=>?_)
    ·refine E_seq (E_region ?_)
     refine EL_mw (.int .i64 n) rfl rfl ?_
     refine EL_in (.bool (decide (n > (0:Int)))) rfl rfl rfl rfl ?_
     refine EL_nil (thn_n ?_)
     rcases csome hbb with ⟨hc2,hbb⟩ | ⟨hc2,hbb⟩
     ·refine E_ct hc2 rfl (E_region ?_)
      refine EL_mv e0 rfl ?_
      refine EL_p (.pointer (some ⟨bk,0,none⟩)) (P_nilCheck rfl) rfl ?_
      refine EL_p (.pointer (some ⟨bk,0,none⟩)) (show Pur _ _ _ (fPtr (.pointer (some ⟨bk,0,none⟩)) 0) from P_fieldAddr atW_0 rfl ⟨bk,0,rfl⟩) rfl ?_
      refine EL_do .plain rfl (D_callC (vs:=[.pointer (some ⟨bk,0,none⟩),.int .u8 (32:UInt8).toNat]) en94 (.cons rfl (.cons rfl .nil)) (wwb (c:=32) hwr hbb) fun q4 w4 h4=>?_)
      obtain ⟨g4,hs4,hwr4⟩:=h4
      exact EL_nil (hQ2 _ _ _ ⟨rfl,e0,rfl,e8,e9,e10,g4,hs.trans hs4,hwr4⟩)
     ·obtain rfl := sinj hbb
      exact E_cf hc2 rfl (E_skip (hQ2 _ _ _ ⟨rfl,e0,rfl,e8,e9,e10,g1,hs,hwr⟩))
    ·obtain ⟨rfl, e0, e5, e8, e9, e10, g3, hs3, hwr3⟩ := hR3
     have hT3:=hT.ch hs3.ch
     refine E_seq (E_region (EL_mv e5 rfl (EL_nil (thn_n (E_block ?_)))))
     refine E_seq (E_region ?_)
     cases a with
     | str tt=>
      obtain rfl:=sinj htx
      refine EL_p (.tuple #[tt.v,.bool true]) (P_isStr (ti:=3) Tryz.underlying9 rfl) rfl ?_
      refine EL_p (.bool true) (P_extract rfl rfl) rfl ?_
      refine EL_p tt.v (P_extract rfl rfl) rfl ?_
      refine EL_nil (thn_n (E_cond_true rfl ?_))
      refine E_seq (E_region (EL_at tt.v rfl rfl (EL_nil (thn_n (E_region ?_)))))
      refine EL_mv e0 rfl ?_
      refine EL_p (.pointer (some ⟨bk,0,none⟩)) (P_nilCheck rfl) rfl ?_
      refine EL_p (.pointer (some ⟨bk,0,none⟩)) (show Pur _ _ _ (fPtr (.pointer (some ⟨bk,0,none⟩)) 0) from P_fieldAddr atW_0 rfl ⟨bk,0,rfl⟩) rfl ?_
      refine EL_mw tt.v rfl rfl ?_
      refine EL_do .plain rfl (D_callC (vs:=[.pointer (some ⟨bk,0,none⟩),tt.v]) en95 (.cons rfl (.cons rfl .nil)) (wws hwr3 hcc) fun q4 w4 h4=>?_)
      obtain ⟨g4,hs4,hwr4⟩:=h4
      exact EL_nil (blk_n (hQ _ _ _ ⟨rfl,e0,e8,e9,e10,g4,hs3.trans hs4,hwr4⟩))
     | int nn=>
      refine EL_p (.tuple #[_,.bool false]) (P_notStr (ti:=3) Tryz.underlying9 rfl Tryz.zeroValue9 rfl) rfl ?_
      refine EL_p (.bool false) (P_extract rfl rfl) rfl ?_
      refine EL_p _ (P_extract rfl rfl) rfl ?_
      refine EL_nil (thn_n (E_cond_false rfl ?_))
      refine E_seq (E_region ?_)
      refine EL_p (.tuple #[.int .i64 nn,.bool true]) (P_isInt (ts:=9) Tryz.underlying3 rfl) rfl ?_
      refine EL_p (.bool true) (P_extract rfl rfl) rfl ?_
      refine EL_p (.int .i64 nn) (P_extract rfl rfl) rfl ?_
      refine EL_nil (thn_n (E_cond_true rfl ?_))
      refine E_seq (E_region (EL_at (.int .i64 nn) rfl rfl (EL_nil (thn_n ?_))))
      refine E_drawC (g:=g3) (n:=6) [0,1,2,3] [] [0,1,2,3,4,5] rfl mixedS (by kernel_rfl) fun w_c hx hlt=>?_
      have hwr4:=hwr3.ext hx
      have hT4:=hT3.ext hx
      refine CH_pur (c:=.pointer (some ⟨bk,0,none⟩)) rfl rfl .plain (P_move e0) ?_
      refine CH_pur (c:=.pointer (some ⟨bk,0,none⟩)) rfl rfl .plain (P_nilCheck rfl) ?_
      refine CH_pur (c:=.pointer (some ⟨bk,0,none⟩)) rfl rfl .plain (show Pur _ _ _ (fPtr (.pointer (some ⟨bk,0,none⟩)) 0) from P_fieldAddr atW_0 rfl ⟨bk,0,rfl⟩) ?_
      refine CH_pur (c:=.int .i64 nn) rfl rfl .plain (P_move rfl) ?_
      refine CH_do rfl rfl .plain (D_itoa (g:=g3) en96 it_ok hT4 rfl htx fun w5 hx5=>?_)
      have hwr5:=hwr4.ext hx5
      have hlt5:=hlt.ext hx5
      refine ⟨hlt5.toW,?_⟩
      refine CH_do rfl rfl .plain (D_callC (vs:=[.pointer (some ⟨bk,0,none⟩),tx.v]) en95 (.cons rfl (.cons rfl .nil)) (wws hwr5 hcc) fun q6 w6 h6=>?_)
      obtain ⟨g6,hs6,hwr6⟩:=h6
      refine ⟨(hlt5.stp hs6 rfl).toW,?_⟩
      refine CH_nil (EL_nil (blk_n ?_))
      exact hQ _ _ _ ⟨rfl,e0,e8,e9,e10,g6,hs3.trans (hx.stp.trans (hx5.stp.trans hs6)),hwr6⟩
   ·obtain ⟨rfl, e0, e8, e9, e10, g2, hs2, hwr2⟩ := hR
    refine E_region (EL_in (.int .i64 (w64 (n + (1:Int)))) e10 rfl rfl rfl ?_)
    refine EL_mw (.int .i64 (w64 (n + (1:Int)))) rfl rfl ?_
    exact EL_nil (thn_n (hrec (cc,w64 (n + 1)) _ _ _ ⟨rfl,e0,e8,e9,rfl,g2,hs2,hwr2⟩ hk))
  ·refine E_seq (E_cf hc rfl ?_)
   refine E_exit (thn_e (thn_e (blk_hit ?_)))
   obtain rfl:=sinj hk
   exact hQ _ _ _ ⟨rfl,e0,g1,hs,hwr⟩
 ·obtain ⟨rfl, e0, g1, hs, hwr⟩ := hR
  obtain ⟨c0,hc0,hf⟩:=bsome hf
  obtain rfl:=sinj hf
  refine E_seq (E_region ?_)
  refine EL_mv e0 rfl ?_
  refine EL_p (.pointer (some ⟨bk,0,none⟩)) (P_nilCheck rfl) rfl ?_
  refine EL_p (.pointer (some ⟨bk,0,none⟩)) (show Pur _ _ _ (fPtr (.pointer (some ⟨bk,0,none⟩)) 0) from P_fieldAddr atW_0 rfl ⟨bk,0,rfl⟩) rfl ?_
  refine EL_do .plain rfl (D_callC (vs:=[.pointer (some ⟨bk,0,none⟩),.int .u8 (10:UInt8).toNat]) en94 (.cons rfl (.cons rfl .nil)) (wwb (c:=10) hwr hc0) fun q4 w4 h4=>?_)
  obtain ⟨g4,hs4,hwr4⟩:=h4
  refine EL_nil (thn_n (E_region ?_))
  refine EL_mv e0 rfl ?_
  refine EL_p (.pointer (some ⟨bk,0,none⟩)) (P_nilCheck rfl) rfl ?_
  refine EL_p (.pointer (some ⟨bk,2,none⟩)) (show Pur _ _ _ (fPtr (.pointer (some ⟨bk,0,none⟩)) 2) from P_fieldAddr atW_1 rfl ⟨bk,0,rfl⟩) rfl ?_
  obtain ⟨b,a,v,hp,hb,hz,hne,ha⟩:=hwr4
  injection hp with hp; injection hp with hp; injection hp with hp _
  subst hp
  refine EL_do .plain rfl (D_load1 Tryz.isAgg3 rfl (hb.cell.trans rfl) ?_)
  refine EL_in (.int .i64 (w64 (s.2 + (1:Int)))) rfl rfl rfl rfl ?_
  refine EL_p (.pointer (some ⟨bk,0,none⟩)) (P_nilCheck rfl) rfl ?_
  refine EL_p (.pointer (some ⟨bk,2,none⟩)) (show Pur _ _ _ (fPtr (.pointer (some ⟨bk,0,none⟩)) 2) from P_fieldAddr atW_1 rfl ⟨bk,0,rfl⟩) rfl ?_
  refine EL_do .plain rfl (D_store1 (c:=.int .i64 (w64 (s.2 + (1:Int)))) Tryz.sizeOf3 rfl rfl rfl (by simp) hb fun w5 hs5 hb5 hk5=>?_)
  refine EL_nil ?_
  exact end0n rfl rfl ⟨g4,hs.trans (hs4.trans hs5),bk,a,v,rfl,hb5,hz.other hne hk5,hne,ha⟩
def f65 (x0:List UInt8 × Int) (c:ChainCard) (n:Int):Option (List UInt8 × Int):=
 (f97 c.Row n).bind fun t=>f64 x0 [.str ⟨bif c.Turned then [116,117,114,110,101,100] else [99,97,114,100]⟩,bif decide (c.Number=-1) then .str ⟨[63]⟩ else .int c.Number,.str t]
theorem en65:Enters Tryz.prog 65:=enters_of Tryz.func65 (by kernel_rfl) rfl
theorem wk65 {i : Nat} {g : Gh} {w : World} {s s' : List UInt8 × Int} {c : ChainCard} {n : Int} {p u : Value} (hT : TabP 0 g.m w) (h : WR i g w 5 158 s p) (hu : RV g.m w c u) (hf : f65 s c n = some s') :
  Calls Tryz.prog 65 #[p,u,.int .i64 n] w fun q w'=>∃ v,q=.returned v∧∃ g',Stp i g w g' w'∧WR i g' w' 5 158 s' p:=by
 unfold f65 at hf
 obtain ⟨tx,htx,hf⟩:=bsome hf
 refine calls_of_E Tryz.func65 rfl (Nat.le_of_ble_eq_true rfl) ?_
 show E _ 28 none _ _ _ _ _
 refine E_seq (E_region ?_)
 refine EL_do .plain rfl (D_box (g:=g) rfl hu fun g1 w1 p1 hx1 q1=>?_)
 have h1:=h.ext hx1
 have hT1:=hT.ext hx1
 refine EL_nil (thn_n ?_)
 refine E_joinD (fun e ds w'=>ds=[]∧e 0=p∧e 2=.int .i64 n∧e 4=p1∧e 6=Str.v ⟨[99,97,114,100]⟩∧e 7=(AnyV.int c.Number:AnyT).v∧∃ g',Ext g1 w1 g' w') (fun Q' hQ=>?_) (fun e ds w' hR=>?_)
 ·refine L_load (x := .tmp 8) Tryz.isAgg3 Tryz.sizeOf3 (PT_field part_ChainCard_0.1 q1) fun vN rN hlN => ?_
  obtain rfl:=RV_int.1 rN
  refine E_drawL (g:=g1) (n:=5) [] [0,1,2,3,4] rfl mixedS (by kernel_rfl) trivial ?_
  refine L_p (fPtr p1 0) rfl rfl (P_fieldAddr at_87_0 rfl (PT.ptr q1)) ?_
  refine L_ld (c:=.int .i64 c.Number) rfl rfl .plain (fun _ _ h=>h.ch) hlN rfl ?_
  refine L_p (AnyV.int c.Number:AnyT).v rfl rfl (P_anyInt Tryz.underlying3 rfl) ?_
  refine L_p (Str.v ⟨[99,97,114,100]⟩) rfl rfl (P_assign rfl) ?_
  refine L_p (AnyV.int c.Number:AnyT).v rfl rfl (P_assign rfl) ?_
  refine L_nl fun g2 w2 hs=>?_
  exact EL_nil (hQ _ _ _ ⟨rfl,rfl,rfl,rfl,rfl,rfl,g2,hs⟩)
 obtain ⟨rfl,e0,e2,e4,e6,e7,g2,hx2⟩:=hR
 have h2:=h1.ext hx2
 have hT2:=hT1.ext hx2
 have q2:=q1.ext hx2
 refine E_joinD (fun e ds w'=>ds=[]∧e 0=p∧e 2=.int .i64 n∧e 4=p1∧e 6=Str.v ⟨bif c.Turned then [116,117,114,110,101,100] else [99,97,114,100]⟩∧e 7=(AnyV.int c.Number:AnyT).v∧∃ g',Ext g1 w1 g' w') (fun Q' hQ=>?_) (fun e ds w' hR=>?_)
 ·refine E_seq (E_region ?_)
  refine EL_p (fPtr p1 2) (P_fieldAddr at_87_2 e4 (PT.ptr q2)) rfl ?_
  refine EL_do .plain rfl (D_load (g:=g2) Tryz.isAgg4 Tryz.sizeOf4 rfl (PT_field part_ChainCard_2.1 q2) fun v r=>?_)
  obtain rfl:=RV_bool.1 r
  refine EL_nil (thn_n ?_)
  rcases Bool.eq_false_or_eq_true c.Turned with hb | hb
  ·refine E_ct hb rfl (E_region (EL_at (Str.v ⟨[116, 117, 114, 110, 101, 100]⟩) rfl rfl ?_))
   exact EL_nil (hQ _ _ _ ⟨rfl,e0,e2,e4,by simp only [hb,cond_true]; rfl,e7,g2,hx2⟩)
  ·exact E_cf hb rfl (E_skip (hQ _ _ _ ⟨rfl,e0,e2,e4,by simp only [hb,cond_false]; exact e6,e7,g2,hx2⟩))
 clear e0 e2 e4 e6 e7
 obtain ⟨rfl,e0,e2,e4,e6,e7,g2,hx2⟩:=hR
 have h2:=h1.ext hx2
 have hT2:=hT1.ext hx2
 have q2:=q1.ext hx2
 refine E_joinD (fun e ds w'=>ds=[]∧e 0=p∧e 2=.int .i64 n∧e 4=p1∧e 6=Str.v ⟨bif c.Turned then [116,117,114,110,101,100] else [99,97,114,100]⟩∧e 7=(bif decide (c.Number=-1) then AnyV.str ⟨[63]⟩ else AnyV.int c.Number:AnyT).v∧∃ g',Ext g1 w1 g' w') (fun Q' hQ=>?_) (fun e ds w' hR=>?_)
 ·refine E_seq (E_region ?_)
  refine EL_p (fPtr p1 0) (P_fieldAddr at_87_0 e4 (PT.ptr q2)) rfl ?_
  refine EL_do .plain rfl (D_load (g:=g2) Tryz.isAgg3 Tryz.sizeOf3 rfl (PT_field part_ChainCard_0.1 q2) fun v r=>?_)
  obtain rfl:=RV_int.1 r
  refine EL_in (.bool (decide (c.Number=-1))) rfl rfl rfl rfl ?_
  refine EL_nil (thn_n ?_)
  rcases Bool.eq_false_or_eq_true (decide (c.Number=-1)) with hb | hb
  ·refine E_ct hb rfl (E_region (EL_p (AnyV.str ⟨[63]⟩ : AnyT).v (P_anyStr Tryz.underlying9 rfl) rfl ?_))
   refine EL_at (AnyV.str ⟨[63]⟩:AnyT).v rfl rfl ?_
   exact EL_nil (hQ _ _ _ ⟨rfl,e0,e2,e4,e6,by simp only [hb,cond_true]; rfl,g2,hx2⟩)
  ·exact E_cf hb rfl (E_skip (hQ _ _ _ ⟨rfl,e0,e2,e4,e6,by simp only [hb,cond_false]; exact e7,g2,hx2⟩))
 clear e0 e2 e4 e6 e7
 obtain ⟨rfl,e0,e2,e4,e6,e7,g2,hx2⟩:=hR
 have h2:=h1.ext hx2
 have hT2:=hT1.ext hx2
 have q2:=q1.ext hx2
 refine E_region ?_
 refine EL_mv e0 rfl ?_
 refine EL_mv e6 rfl ?_
 refine EL_p (AnyV.str _:AnyT).v (P_anyStr Tryz.underlying9 rfl) rfl ?_
 refine EL_mv e7 rfl ?_
 refine EL_p (fPtr p1 1) (P_fieldAddr at_87_1 e4 (PT.ptr q2)) rfl ?_
 refine EL_do .plain rfl (D_load (g:=g2) Tryz.isAgg3 Tryz.sizeOf3 rfl (PT_field part_ChainCard_1.1 q2) fun v r=>?_)
 obtain rfl:=RV_int.1 r
 refine EL_mv e2 rfl ?_
 refine EL_do .plain rfl (D_call (g:=g2) (vs:=[.int .i64 c.Row,.int .i64 n]) en97 (.cons rfl (.cons rfl .nil)) (wk97 htx) fun g3 w3 v3 hx3 hv3=>?_)
 subst hv3
 have h3:=h2.ext hx3
 have hT3:=hT2.ext hx3
 refine EL_p (AnyV.str tx:AnyT).v (P_anyStr Tryz.underlying9 rfl) rfl ?_
 refine EL_do .plain rfl (D_buildSlice (g:=g3) 1 (xs:=([.str ⟨bif c.Turned then [116,117,114,110,101,100] else [99,97,114,100]⟩,bif decide (c.Number=-1) then .str ⟨[63]⟩ else .int c.Number,.str tx]:List AnyT)) (vs:=[_,_,_]) Tryz.underlying160 Tryz.sizeOf20 Tryz.zeroValue20 rfl rfl (.cons rfl (.cons rfl (.cons rfl .nil))) (RVs.cons (RV_any.2 rfl) (RVs.cons (RV_any.2 rfl) (RVs.cons (RV_any.2 rfl) RVs.nil))) rfl rfl fun g4 w4 v4 _ _ r4 hx4 _=>?_)
 refine EL_do .plain rfl (D_callC (vs:=[p,v4]) en64 (.cons rfl (.cons rfl .nil)) (wk64 (hT3.ext hx4) (h3.ext hx4) r4 hf) fun q5 w5 h5=>?_)
 obtain ⟨g5,hs5,h5⟩:=h5
 refine EL_nil ?_
 exact end0n rfl rfl ⟨g5,hx1.stp.trans (hx2.stp.trans (hx3.stp.trans (hx4.stp.trans hs5))),h5⟩
theorem D_boxW {P : Program} {e : Env} {g : Gh} {w : World} {K : Value → World → Prop} (i : Nat) {et T : TypeId} {x : Operand} {v : Value} (hx : ev e x = v) (hv : v.cells = #[.pointer none, .slice none 0 0, .int .i64 0])
  (h:∀ g' w' b,Stp i g w g' w'→WR i g' w' et T ([],0) (.pointer (some ⟨b,0,none⟩))→K (.pointer (some ⟨b,0,none⟩)) w'):Doe P (.box T x) e w K:=fun d ty pos af gd=>by
 have hrun:(execOp (ev e) ⟨d,.box T x,ty,pos,af,gd⟩).run P w=.ok (.value (.pointer (some ⟨w.heap.size,0,none⟩))) (w.alloc (.cells v.cells T)):=by
  simp [execOp,hx,Instr.box,newVar,newRow,Result.andThen]
 unfold doE; rw [hrun]
 refine h _ _ w.heap.size (stp_new i g w _ T 0) ⟨_,_,_,rfl,⟨updN_same _ _ _,updN_same _ _ _,?_⟩,OZ.nil,(fun h=>by cases h),.inl rfl⟩
 rw [heap_new_at,hv]
theorem retagW {w0 w1:World} {g g1:Gh} {bk:Nat} (hbk:g.o bk=1) (hs:Stp 1 g w0 g1 w1) (hb:w1.heap[bk]?=w0.heap[bk]?):LTg [7] { m:=g.m,o:=fun b=>if b=bk then 7 else g.o b } w0 { m:=g1.m,o:=fun b=>if b=bk then 7 else g1.o b } w1:=by
 refine ⟨hs.ch,fun b hlt hu=>?_⟩
 by_cases h:b=bk
 ·subst h; exact ⟨hb,by simp⟩
 ·have h7 : g.o b = 7 := by simpa [h] using hu
  have hne:g.o b ≠ 1:=by rw [h7]; decide
  exact ⟨hs.block b hlt hne,by simp [h,hs.o b hlt hne]⟩
theorem info_20w:(Tryz.prog.info? 20).map (fun i=>(i.zero,i.size,i.bytes))=some (some .nilIface,1,16):=by kernel_rfl
theorem lay_158w:layoutOf Tryz.prog 158=some ([.pointer none,.slice none 0 0,.int .i64 0],[(0,2),(2,1)]):=by kernel_rfl
def tieWs (t:BookTie):Option (List AnyT):=
 lp (σ:=List AnyT × Int) (fun k z=>bif decide (z.2 < (t.Harness.Warps.length:Int)) then (idx t.Harness.Warps z.2).bind fun a=>(apnd 16 z.1 [AnyV.int a]).bind fun y=>k (y,w64 (z.2 + (1:Int))) else some z.1) big ([.str ⟨[116,105,101]⟩,.str t.Name,.int t.Harness.Hooks],0)
def wTies (m:BookMill) (s:List UInt8 × Int):Option (List UInt8 × Int):=
 lp (σ:=(List UInt8 × Int) × Int) (fun k z=>bif decide (z.2 < (m.Ties.length:Int)) then (idx m.Ties z.2).bind fun a=>(tieWs a).bind fun ws=>(f64 z.1 ws).bind fun y=>k (y,w64 (z.2 + (1:Int))) else some z.1) big (s,0)
def wCards (c:BookChain) (s:List UInt8 × Int):Option (List UInt8 × Int):=
 lp (σ:=(List UInt8 × Int) × Int) (fun k z=>bif decide (z.2 < (c.Chain.Cards.length:Int)) then (idx c.Chain.Cards z.2).bind fun a=>(f65 z.1 a c.Chain.Hooks).bind fun y=>k (y,w64 (z.2 + (1:Int))) else some z.1) big (s,0)
def wChains (m:BookMill) (s:List UInt8 × Int):Option (List UInt8 × Int):=
 lp (σ:=(List UInt8 × Int) × Int) (fun k z=>bif decide (z.2 < (m.Chains.length:Int)) then (idx m.Chains z.2).bind fun a=>(f64 z.1 [.str ⟨[99,104,97,105,110]⟩,.str a.Name,.int a.Chain.Hooks]).bind fun s1=>(wCards a s1).bind fun y=>k (y,w64 (z.2 + (1:Int))) else some z.1) big (s,0)
def f31 (m:BookMill):Option (Str × Int):=
 (f18 m).bind fun ck=>bif !decide (ck=0) then some (⟨[]⟩,ck) else
 (f64 ([],0) [.str ⟨[109,105,108,108]⟩]).bind fun s0=>(wTies m s0).bind fun s1=>(wChains m s1).bind fun s2=>
 bif s2.1.isEmpty then none else (f66 ⟨s2.1⟩).bind fun sm=>(f64 s2 [.str ⟨[101,110,100]⟩,.int s2.2,.int sm]).bind fun s3=>
 bif s3.1.isEmpty then none else some (⟨s3.1⟩,0)
theorem nemp {s:List UInt8} (h:s.isEmpty=false):s ≠ []:=fun h0=>by subst h0; cases h
theorem en31:Enters Tryz.prog 31:=enters_of Tryz.func31 (by kernel_rfl) rfl
theorem wk31 {gI:Gh} {wI:World} {x0:BookMill} {up0:Value} (hTI:TabP 0 gI.m wI) (rp0:RV gI.m wI x0 up0) {r:Str × Int} (h:f31 x0=some r):Fn Tryz.prog 31 #[up0] gI wI (fun _ _ v=>∃ y0 y1,v=.tuple #[y0,y1]∧y0=Str.v r.1∧y1=.int .i64 r.2):=by
 unfold f31 at h
 refine fn_of_E Tryz.func31 rfl (Nat.le_of_ble_eq_true rfl) fun g0 hm hfr=>?_
 have rp0:RV g0.m wI x0 up0:=hm ▸ rp0
 have hT0:TabP 0 g0.m wI:=hm ▸ hTI
 show E _ 113 none _ _ _ _ _
 refine E_seq (E_region ?_)
 refine EL_do .plain rfl (D_box (g:=g0) rfl rp0 fun g1 w1 p1 hx1 q1=>?_)
 have hfr:=hfr.ext hx1
 have hT1:=hT0.ext hx1
 refine EL_at (Str.v ⟨[]⟩) rfl rfl ?_
 refine EL_at (.int .i64 0) rfl rfl ?_
 refine EL_nil (thn_n ?_)
 refine E_seq (E_seq (E_region ?_))
 refine EL_do .plain rfl (D_load (g:=g1) Tryz.isAgg50 Tryz.sizeOf50 rfl q1 fun vm rm=>?_)
 obtain ⟨ck,hck,h⟩:=bsome h
 refine EL_do .plain rfl (D_call (g:=g1) (vs:=[vm]) en18 (.cons rfl .nil) (wk18 rm hck) fun g2 w2 v2 hx2 hv2=>?_)
 subst hv2
 have hfr:=hfr.ext hx2
 have hT2:=hT1.ext hx2
 have q2:=q1.ext hx2
 refine EL_at (.int .i64 ck) rfl rfl ?_
 refine EL_nil (thn_n ?_)
 refine E_seq (E_region ?_)
 refine EL_mw (.int .i64 ck) rfl rfl ?_
 refine EL_in (.bool (!decide (ck=0))) rfl rfl rfl rfl ?_
 refine EL_nil (thn_n ?_)
 rcases csome h with ⟨hc,h⟩ | ⟨hc,h⟩
 ·refine E_ct hc rfl (E_seq (E_region ?_))
  refine EL_mw (.int .i64 ck) rfl rfl ?_
  refine EL_at (Str.v ⟨[]⟩) rfl rfl ?_
  refine EL_at (.int .i64 ck) rfl rfl ?_
  refine EL_nil (thn_n (E_ret (thn_r ?_)))
  obtain rfl:=sinj h
  exact end2 rfl rfl rfl rfl ⟨_,hfr,_,_,rfl,rfl,rfl⟩
 refine E_cf hc rfl (E_skip (thn_n ?_))
 obtain ⟨s0,hs0,h⟩:=bsome h
 obtain ⟨s1,hs1,h⟩:=bsome h
 obtain ⟨s2,hs2,h⟩:=bsome h
 refine E_seq (E_region ?_)
 refine EL_p (.agg #[.pointer none,.slice none 0 0,.int .i64 0]) (show Pur _ _ _ (.agg #[.pointer none,.slice none 0 0,.int .i64 0]) from P_build (vs:=[]) [[.pointer none,.slice none 0 0],[.int .i64 0]] lay_158w rfl rfl .nil trivial) rfl ?_
 refine EL_do .plain rfl (D_boxW (g:=g2) 1 (et:=5) rfl rfl fun g3 w3 bk hx3 hw3=>?_)
 have hfr:=hfr.stp hx3
 have hT3:=hT2.stp hx3
 have q3:=q2.stp hx3
 refine EL_at (.pointer (some ⟨bk,0,none⟩)) rfl rfl ?_
 refine EL_nil (thn_n (E_seq (E_region ?_)))
 refine EL_mw (.pointer (some ⟨bk,0,none⟩)) rfl rfl ?_
 refine EL_p (AnyV.str ⟨[109,105,108,108]⟩:AnyT).v (P_anyStr Tryz.underlying9 rfl) rfl ?_
 refine EL_do .plain rfl (D_buildSlice (g:=g3) 3 (xs:=([.str ⟨[109,105,108,108]⟩]:List AnyT)) (vs:=[_]) Tryz.underlying160 Tryz.sizeOf20 Tryz.zeroValue20 rfl rfl (.cons rfl .nil) (RVs.cons (RV_any.2 rfl) RVs.nil) rfl rfl fun g4 w4 v4 _ _ r4 hx4 _=>?_)
 have hfr:=hfr.ext hx4
 refine EL_do .plain rfl (D_callC (vs:=[.pointer (some ⟨bk,0,none⟩),v4]) en64 (.cons rfl (.cons rfl .nil)) (wk64 (hT3.ext hx4) (hw3.ext hx4) r4 hs0) fun q5 w5 h5=>?_)
 obtain ⟨g5,hx5,hw5⟩:=h5
 have hfr:=hfr.stp hx5
 have hT5:=(hT3.ext hx4).stp hx5
 have q5:=(q3.ext hx4).stp hx5
 refine EL_nil (thn_n ?_)
 clear hT0 hT1 hT2 hT3 hx1 hx2 hx3 hx4 hx5 q1 q2 q3 rm r4 hc hck hw3
 refine E_joinD (fun e ds w'=>ds=[]∧e 1=p1∧e 5=.pointer (some ⟨bk,0,none⟩)∧∃ g',Fr gI wI g' w'∧Ch g5.m w5 g'.m w'∧WR 1 g' w' 5 158 s1 (.pointer (some ⟨bk,0,none⟩))) (fun Q' hQ=>?_) (fun e ds w6 hR=>?_)
 ·clear h
  refine E_seq (E_region ?_)
  refine EL_p (fPtr p1 0) (P_fieldAddr at_50_0 rfl (PT.ptr q5)) rfl ?_
  refine EL_do .plain rfl (D_load (g:=g5) Tryz.isAgg47 Tryz.sizeOf47 rfl (PT_field part_BookMill_0.1 q5) fun tv rt=>?_)
  refine EL_p (.int .i64 (x0.Ties.length:Int)) (P_len (v:=tv) Tryz.underlying47 rfl rt) rfl ?_
  refine EL_mw (.int .i64 0) rfl rfl ?_
  refine EL_nil (thn_n (E_block ?_))
  unfold wTies at hs1
  refine E_lpD hs1 (fun (z:(List UInt8 × Int) × Int) e ds w'=>ds=[]∧e 1=p1∧e 5=.pointer (some ⟨bk,0,none⟩)∧e 27=tv∧e 28=.int .i64 (x0.Ties.length:Int)∧e 29=.int .i64 z.2∧∃ g',Fr gI wI g' w'∧Ch g5.m w5 g'.m w'∧WR 1 g' w' 5 158 z.1 (.pointer (some ⟨bk,0,none⟩))) ⟨rfl,rfl,rfl,rfl,rfl,rfl,g5,hfr,Ch.refl _ _,hw5⟩ (fun X rec hrec=>?_)
  rintro ⟨s,n⟩ e ds w1 ⟨rfl,e1,e5,e27,e28,e29,g,hfr,hch,hw⟩ hk
  refine E_seq (E_region ?_)
  refine EL_in (.bool (decide (n < (x0.Ties.length:Int)))) e29 e28 rfl rfl ?_
  refine EL_nil (thn_n ?_)
  rcases csome hk with ⟨hc,hk⟩ | ⟨hc,hk⟩
  ·refine E_seq (E_ct hc rfl (E_skip (thn_n ?_)))
   obtain ⟨a,ha,hk⟩:=bsome hk
   obtain ⟨ws,hws,hk⟩:=bsome hk
   obtain ⟨y,hy,hk⟩:=bsome hk
   refine E_joinD (fun e ds w'=>ds=[]∧e 1=p1∧e 5=.pointer (some ⟨bk,0,none⟩)∧e 27=tv∧e 28=.int .i64 (x0.Ties.length:Int)∧e 29=.int .i64 n∧∃ g',Fr gI wI g' w'∧Ch g5.m w5 g'.m w'∧WR 1 g' w' 5 158 y (.pointer (some ⟨bk,0,none⟩))) (fun Q2 hQ2=>?_) (fun e ds w2 hR=>?_)
   ·refine E_block (E_seq (E_region ?_))
    have rt1:=rt.ch hch
    refine EL_p (ePtr tv n 3) (P_indexAddr (α:=BookTie) Tryz.underlying47 Tryz.sizeOf90 e27 rt1 e29 ha) rfl ?_
    refine EL_do .plain rfl (D_load (g:=g) Tryz.isAgg90 Tryz.sizeOf90 rfl (PT_idx rt1 ha) fun va ra=>?_)
    refine EL_do .plain rfl (D_allocO (g:=g) 2 (⟨⟨[]⟩,⟨0,[]⟩⟩:BookTie) Tryz.zeroValue90 (fun m w=>⟨_,rep_two rep_str (rep_two rep_int rep_nil),rfl⟩) fun g2 w2 pt hs2 b2=>?_)
    refine EL_do .plain rfl (D_storeO (g:=g2) (v:=va) Tryz.sizeOf90 rfl b2 rfl (ra.stp hs2) fun g3 w3 hs3 b3=>?_)
    obtain ⟨g4,hs4,q4⟩:=b3.pub
    have hfr:=((hfr.stp hs2).stp hs3).stp hs4
    have hch:=hch.trans (hs2.ch.trans (hs3.ch.trans hs4.ch))
    have hw:=((hw.stp hs2 rfl).stp hs3 rfl).stp hs4 rfl
    clear b2 b3 hs2 hs3 hs4 ra rt1
    refine EL_nil (thn_n (E_seq (E_region ?_)))
    have qh:=PT_field part_BookTie_1.1 q4
    refine EL_p (AnyV.str ⟨[116,105,101]⟩:AnyT).v (P_anyStr Tryz.underlying9 rfl) rfl ?_
    refine EL_p (fPtr pt 0) (P_fieldAddr at_90_0 rfl (PT.ptr q4)) rfl ?_
    refine EL_do .plain rfl (D_load (g:=g4) Tryz.isAgg9 Tryz.sizeOf9 rfl (PT_field part_BookTie_0.1 q4) fun v5 r5=>?_)
    obtain rfl:=RV_str.1 r5
    refine EL_p (AnyV.str a.Name:AnyT).v (P_anyStr Tryz.underlying9 rfl) rfl ?_
    refine EL_p (fPtr pt 1) (P_fieldAddr at_90_1 rfl (PT.ptr q4)) rfl ?_
    refine EL_p (fPtr (fPtr pt 1) 0) (P_fieldAddr at_27_0 rfl (PT.ptr qh)) rfl ?_
    refine EL_do .plain rfl (D_load (g:=g4) Tryz.isAgg3 Tryz.sizeOf3 rfl (PT_field part_TieHarness_0.1 qh) fun v6 r6=>?_)
    obtain rfl:=RV_int.1 r6
    refine EL_p (AnyV.int a.Harness.Hooks:AnyT).v (P_anyInt Tryz.underlying3 rfl) rfl ?_
    refine EL_do .plain rfl (D_buildSlice (g:=g4) 3 (xs:=([.str ⟨[116,105,101]⟩,.str a.Name,.int a.Harness.Hooks]:List AnyT)) (vs:=[_,_,_]) Tryz.underlying160 Tryz.sizeOf20 Tryz.zeroValue20 rfl rfl (.cons rfl (.cons rfl (.cons rfl .nil))) (RVs.cons (RV_any.2 rfl) (RVs.cons (RV_any.2 rfl) (RVs.cons (RV_any.2 rfl) RVs.nil))) rfl rfl fun g7 w7 v7 _ o7 r7 hx7 _=>?_)
    have hfr:=hfr.ext hx7
    have hch:=hch.trans hx7.ch
    have hw:=hw.ext hx7
    have qh:=qh.ext hx7
    refine EL_at v7 rfl rfl ?_
    refine EL_nil (thn_n ?_)
    have hpt:=PT.ptr q4
    clear hx7 q4
    refine E_joinD (fun e ds w'=>ds=[]∧e 1=p1∧e 5=.pointer (some ⟨bk,0,none⟩)∧e 27=tv∧e 28=.int .i64 (x0.Ties.length:Int)∧e 29=.int .i64 n∧∃ g' v8,e 8=v8∧Fr gI wI g' w'∧Ch g5.m w5 g'.m w'∧WR 1 g' w' 5 158 s (.pointer (some ⟨bk,0,none⟩))∧RV g'.m w' ws v8) (fun Q3 hQ3=>?_) (fun e ds w8 hR=>?_)
    ·refine E_seq (E_region ?_)
     refine EL_p (fPtr pt 1) (P_fieldAddr at_90_1 rfl hpt) rfl ?_
     refine EL_p (fPtr (fPtr pt 1) 1) (P_fieldAddr at_27_1 rfl (PT.ptr qh)) rfl ?_
     refine EL_do .plain rfl (D_load (g:=g7) Tryz.isAgg25 Tryz.sizeOf25 rfl (PT_field part_TieHarness_1.1 qh) fun hv rh=>?_)
     refine EL_p (.int .i64 (a.Harness.Warps.length:Int)) (P_len (v:=hv) Tryz.underlying25 rfl rh) rfl ?_
     refine EL_mw (.int .i64 0) rfl rfl ?_
     refine EL_nil (thn_n (E_block ?_))
     unfold tieWs at hws
     refine E_lpD hws (fun (z:List AnyT × Int) e ds w'=>ds=[]∧e 1=p1∧e 5=.pointer (some ⟨bk,0,none⟩)∧e 27=tv∧e 28=.int .i64 (x0.Ties.length:Int)∧e 29=.int .i64 n∧e 44=hv∧e 45=.int .i64 (a.Harness.Warps.length:Int)∧e 46=.int .i64 z.2∧∃ g' v8,e 8=v8∧Fr gI wI g' w'∧Ch g5.m w5 g'.m w'∧Ch g7.m w7 g'.m w'∧WR 1 g' w' 5 158 s (.pointer (some ⟨bk,0,none⟩))∧RV g'.m w' z.1 v8∧OS 3 g' w' 20 z.1 v8) ⟨rfl,e1,e5,e27,e28,e29,rfl,rfl,rfl,g7,v7,rfl,hfr,hch,Ch.refl _ _,hw,r7,o7⟩ (fun X rec hrec=>?_)
     rintro ⟨zs,j⟩ e ds w1 ⟨rfl,e1,e5,e27,e28,e29,e44,e45,e46,g,v8,e8,hfr,hch,hch7,hw,rz,oz⟩ hk
     refine E_seq (E_region ?_)
     refine EL_in (.bool (decide (j < (a.Harness.Warps.length:Int)))) e46 e45 rfl rfl ?_
     refine EL_nil (thn_n ?_)
     rcases csome hk with ⟨hc,hk⟩ | ⟨hc,hk⟩
     ·refine E_seq (E_ct hc rfl (E_skip (thn_n ?_)))
      obtain ⟨b,hb,hk⟩:=bsome hk
      obtain ⟨yy,hyy,hk⟩:=bsome hk
      have rh1:=rh.ch hch7
      refine E_seq (E_block (E_seq (E_region ?_)))
      refine EL_p (ePtr hv j 1) (P_indexAddr (α:=Int) Tryz.underlying25 Tryz.sizeOf3 e44 rh1 e46 hb) rfl ?_
      refine EL_do .plain rfl (D_load (g:=g) Tryz.isAgg3 Tryz.sizeOf3 rfl (PT_idx rh1 hb) fun vb rb=>?_)
      obtain rfl:=RV_int.1 rb
      refine EL_at (.int .i64 b) rfl rfl ?_
      refine EL_nil (thn_n (E_region ?_))
      refine EL_mv e8 rfl ?_
      refine EL_mw (.int .i64 b) rfl rfl ?_
      refine EL_p (AnyV.int b:AnyT).v (P_anyInt Tryz.underlying3 rfl) rfl ?_
      refine EL_do .plain rfl (D_buildSlice (g:=g) 4 (xs:=([.int b]:List AnyT)) (vs:=[_]) Tryz.underlying160 Tryz.sizeOf20 Tryz.zeroValue20 rfl rfl (.cons rfl .nil) (RVs.cons (RV_any.2 rfl) RVs.nil) rfl rfl fun g2 w2 v2 _ _ r2 hx2 _=>?_)
      refine EL_do .plain rfl (D_append (g:=g2) (i:=3) Tryz.underlying160 info_20w rfl rfl (oz.ext hx2) (rz.ext hx2) rfl r2 hyy fun g3 w3 v3 hs3 o3 r3 _=>?_)
      refine EL_at v3 rfl rfl ?_
      refine EL_nil (blk_n (thn_n (E_region ?_)))
      refine EL_in (.int .i64 (w64 (j + (1:Int)))) e46 rfl rfl rfl ?_
      refine EL_mw (.int .i64 (w64 (j + (1:Int)))) rfl rfl ?_
      exact EL_nil (thn_n (hrec (yy,w64 (j + 1)) _ _ _ ⟨rfl,e1,e5,e27,e28,e29,e44,e45,rfl,g3,v3,rfl,(hfr.ext hx2).stp hs3,hch.trans (hx2.ch.trans hs3.ch),hch7.trans (hx2.ch.trans hs3.ch),(hw.ext hx2).stp hs3 rfl,r3,o3⟩ hk))
     ·refine E_seq (E_cf hc rfl ?_)
      refine E_exit (thn_e (thn_e (blk_hit ?_)))
      obtain rfl:=sinj hk
      exact hQ3 _ _ _ ⟨rfl,e1,e5,e27,e28,e29,g,v8,e8,hfr,hch,hw,rz⟩
    ·obtain ⟨rfl, e1, e5, e27, e28, e29, g, v8, e8, hfr, hch, hw, rz⟩ := hR
     refine E_region ?_
     refine EL_mv e5 rfl ?_
     refine EL_mv e8 rfl ?_
     refine EL_do .plain rfl (D_callC (vs:=[.pointer (some ⟨bk,0,none⟩),v8]) en64 (.cons rfl (.cons rfl .nil)) (wk64 (hT5.ch hch) hw rz hy) fun q9 w9 h9=>?_)
     obtain ⟨g9,hs9,hw9⟩:=h9
     exact EL_nil (blk_n (hQ2 _ _ _ ⟨rfl,e1,e5,e27,e28,e29,g9,hfr.stp hs9,hch.trans hs9.ch,hw9⟩))
   ·obtain ⟨rfl, e1, e5, e27, e28, e29, g, hfr, hch, hw⟩ := hR
    refine E_region (EL_in (.int .i64 (w64 (n + (1:Int)))) e29 rfl rfl rfl ?_)
    refine EL_mw (.int .i64 (w64 (n + (1:Int)))) rfl rfl ?_
    exact EL_nil (thn_n (hrec (y,w64 (n + 1)) _ _ _ ⟨rfl,e1,e5,e27,e28,rfl,g,hfr,hch,hw⟩ hk))
  ·refine E_seq (E_cf hc rfl ?_)
   refine E_exit (thn_e (thn_e (blk_hit ?_)))
   obtain rfl:=sinj hk
   exact hQ _ _ _ ⟨rfl,e1,e5,g,hfr,hch,hw⟩
 obtain ⟨rfl,e1,e5,g6,hfr6,hch6,hw6⟩:=hR
 have q6:=q5.ch hch6
 have hT6:=hT5.ch hch6
 clear hfr hs1 hw5 q5 hT5 hch6 hs0
 refine E_joinD (fun e ds w'=>ds=[]∧e 5=.pointer (some ⟨bk,0,none⟩)∧∃ g',Fr gI wI g' w'∧Ch g6.m w6 g'.m w'∧WR 1 g' w' 5 158 s2 (.pointer (some ⟨bk,0,none⟩))) (fun Q' hQ=>?_) (fun e ds w' hR=>?_)
 ·clear h
  refine E_seq (E_region ?_)
  refine EL_p (fPtr p1 1) (P_fieldAddr at_50_1 e1 (PT.ptr q6)) rfl ?_
  refine EL_do .plain rfl (D_load (g:=g6) Tryz.isAgg48 Tryz.sizeOf48 rfl (PT_field part_BookMill_1.1 q6) fun tv rt=>?_)
  refine EL_p (.int .i64 (x0.Chains.length:Int)) (P_len (v:=tv) Tryz.underlying48 rfl rt) rfl ?_
  refine EL_mw (.int .i64 0) rfl rfl ?_
  refine EL_nil (thn_n (E_block ?_))
  unfold wChains at hs2
  refine E_lpD hs2 (fun (z:(List UInt8 × Int) × Int) e ds w'=>ds=[]∧e 5=.pointer (some ⟨bk,0,none⟩)∧e 61=tv∧e 62=.int .i64 (x0.Chains.length:Int)∧e 63=.int .i64 z.2∧∃ g',Fr gI wI g' w'∧Ch g6.m w6 g'.m w'∧WR 1 g' w' 5 158 z.1 (.pointer (some ⟨bk,0,none⟩))) ⟨rfl,e5,rfl,rfl,rfl,g6,hfr6,Ch.refl _ _,hw6⟩ (fun X rec hrec=>?_)
  rintro ⟨s,n⟩ e ds w1 ⟨rfl,e5,e61,e62,e63,g,hfr,hch,hw⟩ hk
  refine E_seq (E_region ?_)
  refine EL_in (.bool (decide (n < (x0.Chains.length:Int)))) e63 e62 rfl rfl ?_
  refine EL_nil (thn_n ?_)
  rcases csome hk with ⟨hc,hk⟩ | ⟨hc,hk⟩
  ·refine E_seq (E_ct hc rfl (E_skip (thn_n ?_)))
   obtain ⟨a,ha,hk⟩:=bsome hk
   obtain ⟨sa,hsa,hk⟩:=bsome hk
   obtain ⟨y,hy,hk⟩:=bsome hk
   refine E_joinD (fun e ds w'=>ds=[]∧e 5=.pointer (some ⟨bk,0,none⟩)∧e 61=tv∧e 62=.int .i64 (x0.Chains.length:Int)∧e 63=.int .i64 n∧∃ g',Fr gI wI g' w'∧Ch g6.m w6 g'.m w'∧WR 1 g' w' 5 158 y (.pointer (some ⟨bk,0,none⟩))) (fun Q2 hQ2=>?_) (fun e ds w2 hR=>?_)
   ·refine E_block (E_seq (E_region ?_))
    have rt1:=rt.ch hch
    refine EL_p (ePtr tv n 3) (P_indexAddr (α:=BookChain) Tryz.underlying48 Tryz.sizeOf92 e61 rt1 e63 ha) rfl ?_
    refine EL_do .plain rfl (D_load (g:=g) Tryz.isAgg92 Tryz.sizeOf92 rfl (PT_idx rt1 ha) fun va ra=>?_)
    refine EL_do .plain rfl (D_allocO (g:=g) 2 (⟨⟨[]⟩,⟨0,[]⟩⟩:BookChain) Tryz.zeroValue92 (fun m w=>⟨_,rep_two rep_str (rep_two rep_int rep_nil),rfl⟩) fun g2 w2 pt hs2 b2=>?_)
    refine EL_do .plain rfl (D_storeO (g:=g2) (v:=va) Tryz.sizeOf92 rfl b2 rfl (ra.stp hs2) fun g3 w3 hs3 b3=>?_)
    obtain ⟨g4,hs4,q4⟩:=b3.pub
    have hfr:=((hfr.stp hs2).stp hs3).stp hs4
    have hch:=hch.trans (hs2.ch.trans (hs3.ch.trans hs4.ch))
    have hw:=((hw.stp hs2 rfl).stp hs3 rfl).stp hs4 rfl
    clear b2 b3 hs2 hs3 hs4 ra rt1
    refine EL_nil (thn_n (E_seq (E_region ?_)))
    have qh:=PT_field part_BookChain_1.1 q4
    refine EL_mv e5 rfl ?_
    refine EL_p (AnyV.str ⟨[99,104,97,105,110]⟩:AnyT).v (P_anyStr Tryz.underlying9 rfl) rfl ?_
    refine EL_p (fPtr pt 0) (P_fieldAddr at_92_0 rfl (PT.ptr q4)) rfl ?_
    refine EL_do .plain rfl (D_load (g:=g4) Tryz.isAgg9 Tryz.sizeOf9 rfl (PT_field part_BookChain_0.1 q4) fun v5 r5=>?_)
    obtain rfl:=RV_str.1 r5
    refine EL_p (AnyV.str a.Name:AnyT).v (P_anyStr Tryz.underlying9 rfl) rfl ?_
    refine EL_p (fPtr pt 1) (P_fieldAddr at_92_1 rfl (PT.ptr q4)) rfl ?_
    refine EL_p (fPtr (fPtr pt 1) 0) (P_fieldAddr at_85_0 rfl (PT.ptr qh)) rfl ?_
    refine EL_do .plain rfl (D_load (g:=g4) Tryz.isAgg3 Tryz.sizeOf3 rfl (PT_field part_ChainBelt_0.1 qh) fun v6 r6=>?_)
    obtain rfl:=RV_int.1 r6
    refine EL_p (AnyV.int a.Chain.Hooks:AnyT).v (P_anyInt Tryz.underlying3 rfl) rfl ?_
    refine EL_do .plain rfl (D_buildSlice (g:=g4) 3 (xs:=([.str ⟨[99,104,97,105,110]⟩,.str a.Name,.int a.Chain.Hooks]:List AnyT)) (vs:=[_,_,_]) Tryz.underlying160 Tryz.sizeOf20 Tryz.zeroValue20 rfl rfl (.cons rfl (.cons rfl (.cons rfl .nil))) (RVs.cons (RV_any.2 rfl) (RVs.cons (RV_any.2 rfl) (RVs.cons (RV_any.2 rfl) RVs.nil))) rfl rfl fun g7 w7 v7 _ o7 r7 hx7 _=>?_)
    have hfr:=hfr.ext hx7
    have hch:=hch.trans hx7.ch
    have hw:=hw.ext hx7
    refine EL_do .plain rfl (D_callC (vs:=[.pointer (some ⟨bk,0,none⟩),v7]) en64 (.cons rfl (.cons rfl .nil)) (wk64 (hT6.ch hch) hw r7 hsa) fun q8 w8 h8=>?_)
    obtain ⟨g8,hs8,hw8⟩:=h8
    have hfr:=hfr.stp hs8
    have hch:=hch.trans hs8.ch
    have hpt:=PT.ptr q4
    have qh:=(qh.ext hx7).stp hs8
    clear hx7 q4 r7 o7 hw
    refine EL_nil (thn_n (E_seq (E_region ?_)))
    refine EL_p (fPtr pt 1) (P_fieldAddr at_92_1 rfl hpt) rfl ?_
    refine EL_p (fPtr (fPtr pt 1) 1) (P_fieldAddr at_85_1 rfl (PT.ptr qh)) rfl ?_
    refine EL_do .plain rfl (D_load (g:=g8) Tryz.isAgg83 Tryz.sizeOf83 rfl (PT_field part_ChainBelt_1.1 qh) fun hv rh=>?_)
    refine EL_p (.int .i64 (a.Chain.Cards.length:Int)) (P_len (v:=hv) Tryz.underlying83 rfl rh) rfl ?_
    refine EL_mw (.int .i64 0) rfl rfl ?_
    refine EL_nil (thn_n (E_block ?_))
    unfold wCards at hy
    refine E_lpD hy (fun (z:(List UInt8 × Int) × Int) e ds w'=>ds=[]∧e 5=.pointer (some ⟨bk,0,none⟩)∧e 12=pt∧e 61=tv∧e 62=.int .i64 (x0.Chains.length:Int)∧e 63=.int .i64 n∧e 80=hv∧e 81=.int .i64 (a.Chain.Cards.length:Int)∧e 82=.int .i64 z.2∧∃ g',Fr gI wI g' w'∧Ch g6.m w6 g'.m w'∧Ch g8.m w8 g'.m w'∧WR 1 g' w' 5 158 z.1 (.pointer (some ⟨bk,0,none⟩))) ⟨rfl,e5,rfl,e61,e62,e63,rfl,rfl,rfl,g8,hfr,hch,Ch.refl _ _,hw8⟩ (fun X rec hrec=>?_)
    rintro ⟨sz,j⟩ e ds w1 ⟨rfl,e5,e12,e61,e62,e63,e80,e81,e82,g,hfr,hch,hch8,hw⟩ hk
    refine E_seq (E_region ?_)
    refine EL_in (.bool (decide (j < (a.Chain.Cards.length:Int)))) e82 e81 rfl rfl ?_
    refine EL_nil (thn_n ?_)
    rcases csome hk with ⟨hc,hk⟩ | ⟨hc,hk⟩
    ·refine E_seq (E_ct hc rfl (E_skip (thn_n ?_)))
     obtain ⟨b,hb,hk⟩:=bsome hk
     obtain ⟨yy,hyy,hk⟩:=bsome hk
     have rh1:=rh.ch hch8
     refine E_seq (E_block (E_seq (E_region ?_)))
     refine EL_p (ePtr hv j 3) (P_indexAddr (α:=ChainCard) Tryz.underlying83 Tryz.sizeOf87 e80 rh1 e82 hb) rfl ?_
     refine EL_do .plain rfl (D_load (g:=g) Tryz.isAgg87 Tryz.sizeOf87 rfl (PT_idx rh1 hb) fun vb rb=>?_)
     refine EL_do .plain rfl (D_allocO (g:=g) 2 (⟨0,0,false⟩:ChainCard) Tryz.zeroValue87 (fun m w=>⟨_,rep_two rep_int (rep_two rep_int rep_bool),rfl⟩) fun g2 w2 pc hs2 b2=>?_)
     refine EL_do .plain rfl (D_storeO (g:=g2) (v:=vb) Tryz.sizeOf87 rfl b2 rfl (rb.stp hs2) fun g3 w3 hs3 b3=>?_)
     obtain ⟨g4,hs4,q4⟩:=b3.pub
     have hfr:=((hfr.stp hs2).stp hs3).stp hs4
     have hch4:=hs2.ch.trans (hs3.ch.trans hs4.ch)
     have hw:=((hw.stp hs2 rfl).stp hs3 rfl).stp hs4 rfl
     refine EL_nil (thn_n (E_region ?_))
     refine EL_mv e5 rfl ?_
     refine EL_do .plain rfl (D_load (g:=g4) Tryz.isAgg87 Tryz.sizeOf87 rfl q4 fun vc rc=>?_)
     refine EL_p (fPtr pt 1) (P_fieldAddr at_92_1 e12 hpt) rfl ?_
     have qh4:=(qh.ch hch8).ch hch4
     refine EL_p (fPtr (fPtr pt 1) 0) (P_fieldAddr at_85_0 rfl (PT.ptr qh4)) rfl ?_
     refine EL_do .plain rfl (D_load (g:=g4) Tryz.isAgg3 Tryz.sizeOf3 rfl (PT_field part_ChainBelt_0.1 qh4) fun v6 r6=>?_)
     obtain rfl:=RV_int.1 r6
     refine EL_do .plain rfl (D_callC (vs:=[.pointer (some ⟨bk,0,none⟩),vc,.int .i64 a.Chain.Hooks]) en65 (.cons rfl (.cons rfl (.cons rfl .nil))) (wk65 (hT6.ch (hch.trans hch4)) hw rc hyy) fun q9 w9 h9=>?_)
     obtain ⟨g9,hs9,hw9⟩:=h9
     refine EL_nil (blk_n (thn_n (E_region ?_)))
     refine EL_in (.int .i64 (w64 (j + (1:Int)))) e82 rfl rfl rfl ?_
     refine EL_mw (.int .i64 (w64 (j + (1:Int)))) rfl rfl ?_
     exact EL_nil (thn_n (hrec (yy,w64 (j + 1)) _ _ _ ⟨rfl,e5,e12,e61,e62,e63,e80,e81,rfl,g9,hfr.stp hs9,hch.trans (hch4.trans hs9.ch),hch8.trans (hch4.trans hs9.ch),hw9⟩ hk))
    ·refine E_seq (E_cf hc rfl ?_)
     refine E_exit (thn_e (thn_e (blk_hit ?_)))
     obtain rfl:=sinj hk
     exact blk_n (hQ2 _ _ _ ⟨rfl,e5,e61,e62,e63,g,hfr,hch,hw⟩)
   ·obtain ⟨rfl, e5, e61, e62, e63, g, hfr, hch, hw⟩ := hR
    refine E_region (EL_in (.int .i64 (w64 (n + (1:Int)))) e63 rfl rfl rfl ?_)
    refine EL_mw (.int .i64 (w64 (n + (1:Int)))) rfl rfl ?_
    exact EL_nil (thn_n (hrec (y,w64 (n + 1)) _ _ _ ⟨rfl,e5,e61,e62,rfl,g,hfr,hch,hw⟩ hk))
  ·refine E_seq (E_cf hc rfl ?_)
   refine E_exit (thn_e (thn_e (blk_hit ?_)))
   obtain rfl:=sinj hk
   exact hQ _ _ _ ⟨rfl,e5,g,hfr,hch,hw⟩
 clear e1 e5
 obtain ⟨rfl,e5,g7,hfr7,hch7,hw7⟩:=hR
 have hT7:=hT6.ch hch7
 clear hfr6 hch7 hT6 q6 hw6 hs2
 rcases csome h with ⟨hc,h⟩ | ⟨hc,h⟩
 ·cases h
 obtain ⟨sm,hsm,h⟩:=bsome h
 obtain ⟨s3,hs3,h⟩:=bsome h
 rcases csome h with ⟨hc3,h⟩ | ⟨hc3,h⟩
 ·cases h
 obtain rfl:=sinj h
 refine E_seq ?_
 obtain ⟨b,av,vv,hp,hb7,hz7,hne7,ha7⟩:=hw7
 injection hp with hp; injection hp with hp; injection hp with hp _
 subst hp
 have hw7:WR 1 g7 w' 5 158 s2 (.pointer (some ⟨bk,0,none⟩)):=⟨_,av,vv,rfl,hb7,hz7,hne7,ha7⟩
 have hlt7:=hb7.lt
 have hbx:HBm 7 { m:=g7.m,o:=fun b=>if b=bk then 7 else g7.o b } w' bk (.cells #[av,vv,.int .i64 s2.2] 158 (0,0)):=⟨by simp,hb7.2.1,hb7.2.2⟩
 have hl:=L_ldW Tryz.isAgg3 hbx (o:=2) (c:=.int .i64 s2.2) rfl
 refine E_drawC (g:={ m:=g7.m,o:=fun b=>if b=bk then 7 else g7.o b }) (n:=14) [0,1,2,3,4,5,6,7,8,9,12] [7] [0,1,2,3,4,5,6,7,8,9,10,11,12,13] rfl mixedS (by kernel_rfl) fun wc hx hlt=>?_
 have hxc:Ext g7 w' g7 wc:=⟨hx.below,fun _ _=>rfl,fun _ _=>rfl⟩
 have hwc:=hw7.ext hxc
 have hTc:=hT7.ext hxc
 refine CH_pur (c:=.pointer (some ⟨bk,0,none⟩)) rfl rfl .plain (P_move e5) ?_
 refine CH_pur (c:=(AnyV.str ⟨[101,110,100]⟩:AnyT).v) rfl rfl .plain (P_anyStr Tryz.underlying9 rfl) ?_
 refine CH_pur (c:=.pointer (some ⟨bk,0,none⟩)) rfl rfl .plain (P_move e5) ?_
 refine CH_pur (c:=.pointer (some ⟨bk,0,none⟩)) rfl rfl .plain (P_nilCheck rfl) ?_
 refine CH_pur (c:=.pointer (some ⟨bk,2,none⟩)) rfl rfl .plain (show Pur _ _ _ (fPtr (.pointer (some ⟨bk,0,none⟩)) 2) from P_fieldAddr atW_1 rfl ⟨bk,0,rfl⟩) ?_
 refine CH_ldO (n:=7) (c:=.int .i64 s2.2) rfl rfl .plain (hl _) rfl rfl ?_
 refine CH_pur (c:=(AnyV.int s2.2:AnyT).v) rfl rfl .plain (P_anyInt Tryz.underlying3 rfl) ?_
 refine CH_pur (c:=.pointer (some ⟨bk,0,none⟩)) rfl rfl .plain (P_move e5) ?_
 refine CH_pur (c:=.pointer (some ⟨bk,0,none⟩)) rfl rfl .plain (P_nilCheck rfl) ?_
 refine CH_pur (c:=.pointer (some ⟨bk,0,none⟩)) rfl rfl .plain (show Pur _ _ _ (fPtr (.pointer (some ⟨bk,0,none⟩)) 0) from P_fieldAddr atW_0 rfl ⟨bk,0,rfl⟩) ?_
 refine CH_do rfl rfl .plain (D_callC (vs:=[.pointer (some ⟨bk,0,none⟩)]) en67 (.cons rfl .nil) (wst hwc (nemp hc)) fun q8 w8 h8=>?_)
 obtain ⟨rfl,hbk8,g8,hs8,hw8⟩:=h8
 have hbk8:=hbk8 bk rfl
 have hst8:Stp 1 g7 w' g8 w8:=hxc.stp.trans hs8
 have hhb8:w8.heap[bk]?=w'.heap[bk]?:=hbk8.trans (hxc.below.block bk hlt7)
 refine ⟨(retagW hb7.1 hst8 hhb8).toW,?_⟩
 refine CH_do rfl rfl .plain (D_call (g:=g8) (vs:=[Str.v ⟨s2.1⟩]) en66 (.cons rfl .nil) (wk66 hsm) fun g9 w9 v9 hx9 hv9=>?_)
 subst hv9
 have hlt8:bk < w8.heap.size:=lt_of_heap (hhb8.trans hb7.2.2)
 have hhb9:w9.heap[bk]?=w'.heap[bk]?:=(hx9.below.block bk hlt8).trans hhb8
 refine ⟨(retagW hb7.1 (hst8.trans hx9.stp) hhb9).toW,?_⟩
 refine CH_pur (c:=(AnyV.int sm:AnyT).v) rfl rfl .plain (P_anyInt Tryz.underlying3 rfl) ?_
 refine CH_do rfl rfl .plain (D_buildSlice (g:=g9) 3 (xs:=([.str ⟨[101,110,100]⟩,.int s2.2,.int sm]:List AnyT)) (vs:=[_,_,_]) Tryz.underlying160 Tryz.sizeOf20 Tryz.zeroValue20 rfl rfl (.cons rfl (.cons rfl (.cons rfl .nil))) (RVs.cons (RV_any.2 rfl) (RVs.cons (RV_any.2 rfl) (RVs.cons (RV_any.2 rfl) RVs.nil))) rfl rfl fun g10 w10 v10 _ o10 r10 hx10 _=>?_)
 have hlt9:bk < w9.heap.size:=lt_of_heap (hhb9.trans hb7.2.2)
 refine ⟨(retagW hb7.1 ((hst8.trans hx9.stp).trans hx10.stp) ((hx10.below.block bk hlt9).trans hhb9)).toW,?_⟩
 refine CH_nil ?_
 have hw10:=(hw8.ext hx9).ext hx10
 have hT10:=hT7.ch (hst8.ch.trans (hx9.ch.trans hx10.ch))
 have hfr10:=((hfr7.stp hst8).ext hx9).ext hx10
 refine EL_do .plain rfl (D_callC (vs:=[.pointer (some ⟨bk,0,none⟩),v10]) en64 (.cons rfl (.cons rfl .nil)) (wk64 hT10 hw10 r10 hs3) fun q11 w11 h11=>?_)
 obtain ⟨g11,hs11,hw11⟩:=h11
 refine EL_nil (thn_n (E_seq (E_region ?_)))
 refine EL_mv e5 rfl ?_
 refine EL_p (.pointer (some ⟨bk,0,none⟩)) (P_nilCheck rfl) rfl ?_
 refine EL_p (.pointer (some ⟨bk,0,none⟩)) (show Pur _ _ _ (fPtr (.pointer (some ⟨bk,0,none⟩)) 0) from P_fieldAddr atW_0 rfl ⟨bk,0,rfl⟩) rfl ?_
 refine EL_do .plain rfl (D_callC (vs:=[.pointer (some ⟨bk,0,none⟩)]) en67 (.cons rfl .nil) (wst hw11 (nemp hc3)) fun q12 w12 h12=>?_)
 obtain ⟨rfl,_,g12,hs12,hw12⟩:=h12
 refine EL_at (Str.v ⟨s3.1⟩) rfl rfl ?_
 refine EL_at (.int .i64 0) rfl rfl ?_
 refine EL_nil (thn_n (E_ret ?_))
 exact end2 rfl rfl rfl rfl ⟨_,(hfr10.stp hs11).stp hs12,_,_,rfl,rfl,rfl⟩

theorem flat_fvs {m : Nat → Nat} {w : World} : ∀ {rows : List Fv} {cs : List Value}, FlatR m w rows cs → cs = rows.map (·.v)
 | [],_,h=>h
 | _ :: _,_,⟨_,_,rfl,h1,h2⟩=>by
  have h1:_=[_]:=h1
  rw [h1,flat_fvs h2]; rfl
theorem RO.ofOA {i:Nat} {g:Gh} {w:World} {t:TypeId} {rows:List Fv} {v:Value} (h:OA i g w t rows v):RO i g w t rows v:=by
 rcases h with h | ⟨b,c,cs,hv,ho,hm,hh,h1,h2,h3,hf⟩
 ·exact .inl h
 ·refine .inr ⟨b, c, cs, hv, ho, hm, hh, h1, h2, by simpa [GoT.k] using h3, fun n r hn => ?_⟩
  have hk:GoT.k Fv=1:=rfl
  have he:=flat_fvs hf
  have hl:n < rows.length:=(List.getElem?_eq_some_iff.1 hn).1
  have h5:(cs.toList.take (rows.length * GoT.k Fv))[n]?=some r.v:=by rw [he]; simp [hn]
  rw [List.getElem?_take,hk,if_pos (by omega)] at h5
  simpa using h5
theorem pool_nil {α:Type} [GoT α] {t:TypeId} {j:Nat} {g:Gh} {w:World} (n:Nat):Pool (RS (α:=α) t) j g w (List.replicate n (⟨.slice none 0 0,rfl⟩:Fv)) (List.replicate n []) none:=by
 refine ⟨by simp,fun k r x _ h1 h2=>?_,fun k k' r r' _ _ _ h1 h2=>?_⟩
 ·obtain ⟨_, rfl⟩ := List.getElem?_eq_some_iff.1 h1
  obtain ⟨_,rfl⟩:=List.getElem?_eq_some_iff.1 h2
  simp only [List.getElem_replicate]
  exact ⟨OS.nil,RV_nil⟩
 ·obtain ⟨_, rfl⟩ := List.getElem?_eq_some_iff.1 h1
  simp only [List.getElem_replicate]
  intro b n c b' n' c' h
  cases h
theorem info_81w:(Tryz.prog.info? 81).map (fun i=>(i.zero,i.size,i.bytes))=some (some (.agg #[.int .i64 0,.int .i64 0]),2,16):=by kernel_rfl
theorem info_54w:(Tryz.prog.info? 54).map (fun i=>(i.zero,i.size,i.bytes))=some (some (.slice none 0 0),1,24):=by kernel_rfl
def f8 (m:BookMill) (l:List (List UInt8)):Option ((List (List Str)) × Int × Int):=
  (f18 m).bind fun ck=>bif ck != (0:Int) then some ([],0,ck) else
  (f19 l).bind fun jn=>bif jn.2.2 != (0:Int) then some ([],jn.2.1,jn.2.2) else
  lp (σ:=(List BookCylinder × List (List Str)) × Int) (fun k z=>bif decide (z.2 < (jn.1.length:Int)) then (idx jn.1 z.2).bind fun c=>
    bif (bif decide (c.Chain ≥ (m.Chains.length:Int)) then true else decide (c.Tie ≥ (m.Ties.length:Int))) then some ([],z.2,7) else
    (idx z.1.1 c.Loom).bind fun cy=>(f20 cy m c).bind fun wv=>
    bif wv.2.1 != (0:Int) then some ([],z.2,wv.2.1) else
    (idx z.1.2 c.Loom).bind fun rw=>(apnd 16 rw wv.1).bind fun y=>k ((z.1.1.set c.Loom.toNat wv.2.2,z.1.2.set c.Loom.toNat y),w64 (z.2 + (1:Int)))
   else some (z.1.2,0,0)) big ((List.replicate 16 ⟨0,0⟩,List.replicate 16 []),0)
theorem en8:Enters Tryz.prog 8:=enters_of Tryz.func8 (by kernel_rfl) rfl
theorem wk8 {gI : Gh} {wI : World} {x0 : BookMill} {x1 : List (List UInt8)} {up0 up1 : Value} (rp0 : RV gI.m wI x0 up0) (rp1 : RV gI.m wI x1 up1) {r : (List (List Str)) × Int × Int} (h : f8 x0 x1 = some r) :
  Fn Tryz.prog 8 #[up0,up1] gI wI (fun m w v=>∃ y0 y1 y2,v=.tuple #[y0,y1,y2]∧RV m w r.1 y0∧y1=.int .i64 r.2.1∧y2=.int .i64 r.2.2):=by
 unfold f8 at h
 obtain ⟨ck,hck,h⟩:=bsome h
 refine fn_of_E Tryz.func8 rfl (Nat.le_of_ble_eq_true rfl) fun g0 hm hfr=>?_
 have rp0:RV g0.m wI x0 up0:=hm ▸ rp0
 have rp1:RV g0.m wI x1 up1:=hm ▸ rp1
 show E _ 82 none _ _ _ _ _
 refine E_seq (E_region ?_)
 refine EL_do .plain rfl (D_box (g:=g0) rfl rp0 fun g1 w1 p2 hx1 q2=>?_)
 have hfr:=hfr.ext hx1
 have rp1:=rp1.ext hx1
 refine EL_at (.slice none 0 0) rfl rfl ?_
 refine EL_at (.int .i64 0) rfl rfl ?_
 refine EL_at (.int .i64 0) rfl rfl ?_
 refine EL_nil (thn_n ?_)
 refine E_seq (E_seq (E_region ?_))
 refine EL_do .plain rfl (D_load (g:=g1) Tryz.isAgg50 Tryz.sizeOf50 rfl q2 fun vm rm=>?_)
 refine EL_do .plain rfl (D_call (g:=g1) (vs:=[vm]) en18 (.cons rfl .nil) (wk18 rm hck) fun g2 w2 v2 hx2 hv2=>?_)
 subst hv2
 have hfr:=hfr.ext hx2
 have rp1:=rp1.ext hx2
 have q2:=q2.ext hx2
 refine EL_at (.int .i64 ck) rfl rfl ?_
 refine EL_nil (thn_n (E_seq (E_region ?_)))
 refine EL_mw (.int .i64 ck) rfl rfl ?_
 refine EL_in (.bool (ck != (0:Int))) rfl rfl rfl rfl ?_
 refine EL_nil (thn_n ?_)
 rcases csome h with ⟨hc,h⟩ | ⟨hc,h⟩
 ·refine E_ct hc rfl (E_seq (E_region ?_))
  refine EL_mw (.int .i64 ck) rfl rfl ?_
  refine EL_at (.slice none 0 0) rfl rfl ?_
  refine EL_at (.int .i64 0) rfl rfl ?_
  refine EL_at (.int .i64 ck) rfl rfl ?_
  refine EL_nil (thn_n (E_ret (thn_r ?_)))
  obtain rfl:=sinj h
  exact end3 rfl rfl rfl rfl rfl ⟨_,hfr,_,_,_,rfl,RV_nil,rfl,rfl⟩
 refine E_cf hc rfl (E_skip (thn_n ?_))
 obtain ⟨jn,hjn,h⟩:=bsome h
 refine E_seq (E_region ?_)
 refine EL_mw up1 rfl rfl ?_
 refine EL_do .plain rfl (D_call (g:=g2) (vs:=[up1]) en19 (.cons rfl .nil) (wk19 rp1 hjn) fun g3 w3 v3 hx3 hv=>?_)
 obtain ⟨lv,y1,y2,rfl,rl,rfl,rfl⟩:=hv
 have hfr:=hfr.ext hx3
 have q2:=q2.ext hx3
 refine EL_mw (.tuple #[lv,.int .i64 jn.2.1,.int .i64 jn.2.2]) rfl rfl ?_
 refine EL_p lv (P_extract rfl rfl) rfl ?_
 refine EL_p (.int .i64 jn.2.1) (P_extract rfl rfl) rfl ?_
 refine EL_p (.int .i64 jn.2.2) (P_extract rfl rfl) rfl ?_
 refine EL_at lv rfl rfl ?_
 refine EL_at (.int .i64 jn.2.1) rfl rfl ?_
 refine EL_at (.int .i64 jn.2.2) rfl rfl ?_
 refine EL_nil (thn_n (E_seq (E_seq (E_region ?_))))
 refine EL_mw (.int .i64 jn.2.2) rfl rfl ?_
 refine EL_in (.bool (jn.2.2 != (0:Int))) rfl rfl rfl rfl ?_
 refine EL_nil (thn_n ?_)
 rcases csome h with ⟨hc2,h⟩ | ⟨hc2,h⟩
 ·refine E_ct hc2 rfl (E_seq (E_region ?_))
  refine EL_mw (.int .i64 jn.2.1) rfl rfl ?_
  refine EL_mw (.int .i64 jn.2.2) rfl rfl ?_
  refine EL_at (.slice none 0 0) rfl rfl ?_
  refine EL_at (.int .i64 jn.2.1) rfl rfl ?_
  refine EL_at (.int .i64 jn.2.2) rfl rfl ?_
  refine EL_nil (thn_n (E_ret ?_))
  obtain rfl:=sinj h
  exact end3 rfl rfl rfl rfl rfl ⟨_,hfr,_,_,_,rfl,RV_nil,rfl,rfl⟩
 refine E_cf hc2 rfl (E_skip (thn_n ?_))
 refine E_seq (E_region ?_)
 refine EL_do .plain rfl (D_makeSliceA (g:=g3) 3 (⟨0,0⟩:BookCylinder) (n:=16) (r:=List.replicate 16 ⟨0,0⟩) Tryz.underlying78 info_81w rfl (fun m w=>⟨_,rep_two rep_int rep_int,rfl⟩) rfl rfl rfl fun g4 w4 v9 hs4 o9=>?_)
 refine EL_at v9 rfl rfl ?_
 refine EL_nil (thn_n (E_seq (E_region ?_)))
 have m9:=o9.toM
 obtain ⟨ah,chh,hh9,_⟩:=m9.hdr
 refine EL_mw v9 rfl rfl ?_
 refine EL_p (.int .i64 16) (show Pur _ _ _ (.int .i64 ((16:Nat):Int)) from P_lenH Tryz.underlying78 rfl ⟨ah,chh,hh9⟩) rfl ?_
 refine EL_do .plain rfl (D_makeSliceA (g:=g4) 4 (⟨.slice none 0 0,rfl⟩:Fv) (n:=16) (r:=List.replicate 16 ⟨.slice none 0 0,rfl⟩) Tryz.underlying43 info_54w rfl (fun m w=>⟨_,rfl,rfl⟩) rfl rfl rfl fun g5 w5 v4 hs5 o4=>?_)
 refine EL_at v4 rfl rfl ?_
 have ns0:NS (RS (α:=Str) 9) 4 5 g5 w5 54 (List.replicate 16 []) v4:=⟨_,RO.ofOA o4,pool_nil 16⟩
 have hfr:=(hfr.stp hs4).stp hs5
 have q2:=(q2.stp hs4).stp hs5
 have rl:=(rl.stp hs4).stp hs5
 have m9:=m9.stp hs5 rfl
 clear hx1 hx2 hx3 hs4 hs5 o9 o4 rm rp1 hh9 hck hjn hc hc2
 refine EL_nil (thn_n (E_seq (E_seq (E_region ?_))))
 refine EL_mw lv rfl rfl ?_
 refine EL_p (.int .i64 (jn.1.length:Int)) (P_len (v:=lv) Tryz.underlying33 rfl rl) rfl ?_
 refine EL_mw (.int .i64 0) rfl rfl ?_
 refine EL_nil (thn_n (E_block ?_))
 refine E_lpD h (fun (z:(List BookCylinder × List (List Str)) × Int) e ds w'=>ds=[]∧e 2=p2∧e 4=v4∧e 9=v9∧e 33=lv∧e 34=.int .i64 (jn.1.length:Int)∧e 35=.int .i64 z.2∧∃ g',Fr gI wI g' w'∧Ch g5.m w5 g'.m w'∧OM 3 g' w' 81 z.1.1 v9∧NS (RS (α:=Str) 9) 4 5 g' w' 54 z.1.2 v4) ⟨rfl,rfl,rfl,rfl,rfl,rfl,rfl,g5,hfr,Ch.refl _ _,m9,ns0⟩ (fun X rec hrec=>?_)
 clear m9 ns0 hfr
 rintro ⟨⟨lo,ri⟩,n⟩ e ds w ⟨rfl,e2,e4,e9,e33,e34,e35,g,hfr,hch,ml,nr⟩ hk
 refine E_seq (E_region ?_)
 refine EL_in (.bool (decide (n < (jn.1.length:Int)))) e35 e34 rfl rfl ?_
 refine EL_nil (thn_n ?_)
 rcases csome hk with ⟨hc,hk⟩ | ⟨hc,hk⟩
 ·refine E_seq (E_ct hc rfl (E_skip (thn_n ?_)))
  obtain ⟨c,hcl,hk⟩:=bsome hk
  have rl1:=rl.ch hch
  have q1:=q2.ch hch
  refine E_seq (E_block (E_seq (E_region ?_)))
  refine EL_mv e35 rfl ?_
  refine EL_p (ePtr lv n 5) (P_indexAddr (α:=BookCloth) Tryz.underlying33 Tryz.sizeOf63 e33 rl1 e35 hcl) rfl ?_
  refine EL_do .plain rfl (D_load (g:=g) Tryz.isAgg63 Tryz.sizeOf63 rfl (PT_idx rl1 hcl) fun vc rc=>?_)
  refine EL_do .plain rfl (D_allocO (g:=g) 2 (⟨0,0,0,0,0⟩:BookCloth) Tryz.zeroValue63 (fun m w=>⟨_,rep_two rep_int (rep_two rep_int (rep_two rep_int (rep_two rep_int rep_int))),rfl⟩) fun g2 w2 pc hs2 b2=>?_)
  refine EL_at (.int .i64 n) rfl rfl ?_
  refine EL_do .plain rfl (D_storeO (g:=g2) (v:=vc) Tryz.sizeOf63 rfl b2 rfl (rc.stp hs2) fun g3 w3 hs3 b3=>?_)
  obtain ⟨g4,hs4,qc⟩:=b3.pub
  have hfr:=((hfr.stp hs2).stp hs3).stp hs4
  have hch:=hch.trans (hs2.ch.trans (hs3.ch.trans hs4.ch))
  have ml:=((ml.stp hs2 rfl).stp hs3 rfl).stp hs4 rfl
  have nr:=((nr.stp (rowS 9) hs2 rfl rfl).stp (rowS 9) hs3 rfl rfl).stp (rowS 9) hs4 rfl rfl
  have q1:=((q1.stp hs2).stp hs3).stp hs4
  clear b2 b3 hs2 hs3 hs4 rl1 rc
  refine EL_nil (thn_n (E_seq (E_seq (E_region ?_))))
  refine EL_p (fPtr pc 2) (P_fieldAddr at_63_2 rfl (PT.ptr qc)) rfl ?_
  refine EL_do .plain rfl (D_load (g:=g4) Tryz.isAgg3 Tryz.sizeOf3 rfl (PT_field part_BookCloth_2.1 qc) fun v r=>?_)
  obtain rfl:=RV_int.1 r
  refine EL_p (fPtr p2 1) (P_fieldAddr at_50_1 e2 (PT.ptr q1)) rfl ?_
  refine EL_do .plain rfl (D_load (g:=g4) Tryz.isAgg48 Tryz.sizeOf48 rfl (PT_field part_BookMill_1.1 q1) fun vch rch=>?_)
  refine EL_p (.int .i64 (x0.Chains.length:Int)) (P_len (v:=vch) Tryz.underlying48 rfl rch) rfl ?_
  refine EL_in (.bool (decide (c.Chain ≥ (x0.Chains.length:Int)))) rfl rfl rfl rfl ?_
  refine EL_mw (.bool (decide (c.Chain ≥ (x0.Chains.length:Int)))) rfl rfl ?_
  rcases Bool.eq_false_or_eq_true (decide (c.Chain ≥ (x0.Chains.length:Int))) with hq | hq
  ·simp only [hq, cond_true] at hk
   iterate 6 refine EL_s rfl rfl hq rfl rfl ?_
   refine EL_p (.bool true) (P_pick (b:=decide (c.Chain ≥ (x0.Chains.length:Int))) rfl (pick_t hq rfl)) rfl ?_
   refine EL_nil (thn_n ?_)
   obtain rfl:=sinj hk
   refine E_ct rfl rfl (E_seq (E_region ?_))
   refine EL_mw (.int .i64 n) rfl rfl ?_
   refine EL_at (.slice none 0 0) rfl rfl ?_
   refine EL_at (.int .i64 n) rfl rfl ?_
   refine EL_at (.int .i64 7) rfl rfl ?_
   refine EL_nil (thn_n (E_ret (thn_r (blk_r (thn_r (thn_r (blk_r (thn_r ?_))))))))
   exact end3 rfl rfl rfl rfl rfl ⟨_,hfr,_,_,_,rfl,RV_nil,rfl,rfl⟩
  simp only [hq,cond_false] at hk
  refine EL_y (fPtr pc 3) (P_fieldAddr at_63_3 rfl (PT.ptr qc)) rfl rfl hq rfl ?_
  refine EL_do (.yes2 rfl rfl hq) rfl (D_load (g:=g4) Tryz.isAgg3 Tryz.sizeOf3 rfl (PT_field part_BookCloth_3.1 qc) fun v r=>?_)
  obtain rfl:=RV_int.1 r
  refine EL_y (fPtr p2 0) (P_fieldAddr at_50_0 e2 (PT.ptr q1)) rfl rfl hq rfl ?_
  refine EL_do (.yes2 rfl rfl hq) rfl (D_load (g:=g4) Tryz.isAgg47 Tryz.sizeOf47 rfl (PT_field part_BookMill_0.1 q1) fun vti rti=>?_)
  refine EL_y (.int .i64 (x0.Ties.length:Int)) (P_len (v:=vti) Tryz.underlying47 rfl rti) rfl rfl hq rfl ?_
  refine EL_y (.bool (decide (c.Tie ≥ (x0.Ties.length:Int)))) (P_int rfl rfl rfl) rfl rfl hq rfl ?_
  refine EL_p (.bool (decide (c.Tie ≥ (x0.Ties.length:Int)))) (P_pick (b:=decide (c.Chain ≥ (x0.Chains.length:Int))) rfl (pick_f hq rfl)) rfl ?_
  refine EL_nil (thn_n ?_)
  rcases csome hk with ⟨hq2,hk⟩ | ⟨hq2,hk⟩
  ·obtain rfl := sinj hk
   refine E_ct hq2 rfl (E_seq (E_region ?_))
   refine EL_mw (.int .i64 n) rfl rfl ?_
   refine EL_at (.slice none 0 0) rfl rfl ?_
   refine EL_at (.int .i64 n) rfl rfl ?_
   refine EL_at (.int .i64 7) rfl rfl ?_
   refine EL_nil (thn_n (E_ret (thn_r (blk_r (thn_r (thn_r (blk_r (thn_r ?_))))))))
   exact end3 rfl rfl rfl rfl rfl ⟨_,hfr,_,_,_,rfl,RV_nil,rfl,rfl⟩
  refine E_cf hq2 rfl (E_skip (thn_n ?_))
  obtain ⟨cy,hcy,hk⟩:=bsome hk
  obtain ⟨wv,hwv,hk⟩:=bsome hk
  clear rch rti
  refine E_seq ?_
  refine L_load (x:=.tmp 57) Tryz.isAgg3 Tryz.sizeOf3 (PT_field part_BookCloth_1.1 qc) fun v r hl1=>?_
  obtain rfl:=RV_int.1 r
  refine L_load (x:=.tmp 2) Tryz.isAgg50 Tryz.sizeOf50 q1 fun vm rm hl2=>?_
  refine L_load (x:=.tmp 11) Tryz.isAgg63 Tryz.sizeOf63 qc fun vc rc hl3=>?_
  refine E_drawC (g:=g4) (n:=12) [0,1,2,3,4,5,7,8,9,10,11] [] [0,1,2,3,4,5,6,7,8,9,10,11] rfl mixedS (by kernel_rfl) fun wc hx hlt=>?_
  refine CH_pur (c:=v9) rfl rfl .plain (P_move e9) ?_
  refine CH_pur (c:=fPtr pc 1) rfl rfl .plain (P_fieldAddr at_63_1 rfl (PT.ptr qc)) ?_
  refine CH_ldP (c:=.int .i64 c.Loom) rfl rfl .plain hl1 rfl ?_
  refine CH_pur (c:=ePtr v9 c.Loom 2) rfl rfl .plain (P_indexAddrM (α:=BookCylinder) Tryz.underlying78 Tryz.sizeOf81 rfl ml rfl hcy) ?_
  refine CH_ldP (c:=vm) rfl rfl .plain hl2 e2 ?_
  refine CH_ldP (c:=vc) rfl rfl .plain hl3 rfl ?_
  refine CH_do rfl rfl .plain (D_callM (g:=g4) (i:=3) (vs:=[ePtr v9 c.Loom 2,vm,vc]) en20 (.cons rfl (.cons rfl (.cons rfl .nil))) (wk20 (ml.ext hx) hcy (rm.ext hx) (rc.ext hx) hwv) fun g5 w5 v5 hs5 hv5=>?_)
  obtain ⟨y0,_,rfl,ry,rfl,ml5⟩:=hv5
  refine ⟨((hlt.stp hs5 rfl)).toW,?_⟩
  refine CH_pur (c:=.tuple #[y0,.int .i64 wv.2.1]) rfl rfl .plain (P_move rfl) ?_
  refine CH_pur (c:=y0) rfl rfl .plain (P_extract rfl rfl) ?_
  refine CH_pur (c:=.int .i64 wv.2.1) rfl rfl .plain (P_extract rfl rfl) ?_
  refine CH_pur (c:=y0) rfl rfl .plain (P_assign rfl) ?_
  refine CH_pur (c:=.int .i64 wv.2.1) rfl rfl .plain (P_assign rfl) ?_
  refine CH_nil (EL_nil (thn_n ?_))
  replace hfr:=(hfr.ext hx).stp hs5
  replace hch:=(hch.trans hx.ch).trans hs5.ch
  replace nr:=(nr.ext (rowS 9) hx).stp (rowS 9) hs5 rfl rfl
  replace qc:=(qc.ext hx).stp hs5
  clear hx hs5 hlt rm rc hl1 hl2 hl3 ml q1
  refine E_seq (E_seq (E_region ?_))
  refine EL_mw (.int .i64 wv.2.1) rfl rfl ?_
  refine EL_in (.bool (wv.2.1 != (0:Int))) rfl rfl rfl rfl ?_
  refine EL_nil (thn_n ?_)
  rcases csome hk with ⟨hq3,hk⟩ | ⟨hq3,hk⟩
  ·obtain rfl := sinj hk
   refine E_ct hq3 rfl (E_seq (E_region ?_))
   refine EL_mw (.int .i64 n) rfl rfl ?_
   refine EL_mw (.int .i64 wv.2.1) rfl rfl ?_
   refine EL_at (.slice none 0 0) rfl rfl ?_
   refine EL_at (.int .i64 n) rfl rfl ?_
   refine EL_at (.int .i64 wv.2.1) rfl rfl ?_
   refine EL_nil (thn_n (E_ret (thn_r (blk_r (thn_r (thn_r (blk_r (thn_r ?_))))))))
   exact end3 rfl rfl rfl rfl rfl ⟨_,hfr,_,_,_,rfl,RV_nil,rfl,rfl⟩
  refine E_cf hq3 rfl (E_skip (thn_n ?_))
  obtain ⟨rw0,hrw,hk⟩:=bsome hk
  obtain ⟨y,hy,hk⟩:=bsome hk
  obtain ⟨rows,hro,hpo⟩:=nr
  obtain ⟨r0,hr0,hr1,hr2⟩:=hpo.idx hrw
  obtain ⟨g6,hg6,hs6,hrs,hpo6⟩:=hpo.take (rowS 9) hr1 hr2 6
  replace hro:=hro.stp hs6 rfl
  replace hfr:=hfr.stp hs6
  replace hch:=hch.trans hs6.ch
  replace ml5:=ml5.stp hs6 rfl
  replace qc:=qc.stp hs6
  replace ry:=ry.stp hs6
  refine L_load (x:=.tmp 70) Tryz.isAgg3 Tryz.sizeOf3 (PT_field part_BookCloth_1.1 qc) fun v r hl1=>?_
  obtain rfl:=RV_int.1 r
  refine L_load (x:=.tmp 73) Tryz.isAgg3 Tryz.sizeOf3 (PT_field part_BookCloth_1.1 qc) fun v r hl2=>?_
  obtain rfl:=RV_int.1 r
  refine L_loadM (x:=.tmp 75) Tryz.isAgg54 Tryz.sizeOf54 hro.toM hr0 fun u hu hl3=>?_
  obtain rfl:u=r0.v:=RV_fv.1 hu
  refine E_drawC (g:=g6) (n:=10) [0,1,2,3,4,5,6,7,8] [4] [0,1,2,3,4,5,6,7,8,9] rfl mixedS (by kernel_rfl) fun wd hx hlt=>?_
  refine CH_pur (c:=v4) rfl rfl .plain (P_move e4) ?_
  refine CH_pur (c:=fPtr pc 1) rfl rfl .plain (P_fieldAddr at_63_1 rfl (PT.ptr qc)) ?_
  refine CH_ldP (c:=.int .i64 c.Loom) rfl rfl .plain hl1 rfl ?_
  refine CH_pur (c:=v4) rfl rfl .plain (P_move e4) ?_
  refine CH_pur (c:=fPtr pc 1) rfl rfl .plain (P_fieldAddr at_63_1 rfl (PT.ptr qc)) ?_
  refine CH_ldP (c:=.int .i64 c.Loom) rfl rfl .plain hl2 rfl ?_
  refine CH_pur (c:=ePtr v4 c.Loom 1) rfl rfl .plain (P_indexAddrM (α:=Fv) Tryz.underlying43 Tryz.sizeOf54 rfl hro.toM rfl hr0) ?_
  refine CH_ldO (n:=4) (c:=r0.v) rfl rfl .plain hl3 rfl rfl ?_
  refine CH_pur (c:=y0) rfl rfl .plain (P_move rfl) ?_
  refine CH_do rfl rfl .plain (D_append (g:=g6) (i:=6) Tryz.underlying54 info_9 rfl rfl (hrs.1.ext hx) (hrs.2.ext hx) rfl (ry.ext hx) hy fun g7 w7 v7 hs7 o7 r7 _=>?_)
  refine ⟨(hlt.stp hs7 rfl).toW,?_⟩
  refine CH_nil ?_
  have hro7:=(hro.ext hx).stp hs7 rfl
  refine EL_p (ePtr v4 c.Loom 1) (P_indexAddrM (α:=Fv) Tryz.underlying43 Tryz.sizeOf54 rfl hro7.toM rfl hr0) rfl ?_
  refine EL_do .plain rfl (D_storeRO (⟨v7,by obtain ⟨_,_,rfl,_⟩:=RV_list r7; rfl⟩:Fv) Tryz.sizeOf54 rfl hro7 hr0 rfl fun w8 hs8 hro8=>?_)
  obtain ⟨g9,hg9,hs9,hpo9⟩:=(((hpo6.ext (rowS 9) hx).stp (rowS 9) hs7 rfl).stp (rowS 9) hs8 rfl).put (rowS 9) (⟨v7,by obtain ⟨_,_,rfl,_⟩:=RV_list r7; rfl⟩:Fv) (x:=y) (j':=6) ⟨o7.stp hs8 rfl,r7.stp hs8⟩ rfl
  refine EL_nil (blk_n (thn_n (E_region ?_)))
  refine EL_in (.int .i64 (w64 (n + (1:Int)))) e35 rfl rfl rfl ?_
  refine EL_mw (.int .i64 (w64 (n + (1:Int)))) rfl rfl ?_
  exact EL_nil (thn_n (hrec ((lo.set c.Loom.toNat wv.2.2,ri.set c.Loom.toNat y),w64 (n + 1)) _ _ _ ⟨rfl,e2,e4,e9,e33,e34,rfl,g9,(((hfr.ext hx).stp hs7).stp hs8).stp hs9,hch.trans (hx.ch.trans (hs7.ch.trans (hs8.ch.trans hs9.ch))),(((ml5.ext hx).stp hs7 rfl).stp hs8 rfl).stp hs9 rfl,⟨_,hro8.stp hs9 rfl,hpo9⟩⟩ hk))
 ·refine E_seq (E_cf hc rfl ?_)
  refine E_exit (thn_e (thn_e (blk_hit (thn_n ?_))))
  obtain rfl:=sinj hk
  obtain ⟨g6,hs6,rr⟩:=nr.pub (fun h=>h.2)
  refine E_seq (E_region ?_)
  refine EL_mv e4 rfl ?_
  refine EL_at v4 rfl rfl ?_
  refine EL_at (.int .i64 0) rfl rfl ?_
  refine EL_at (.int .i64 0) rfl rfl ?_
  refine EL_nil (thn_n (E_ret ?_))
  exact end3 rfl rfl rfl rfl rfl ⟨_,hfr.stp hs6,_,_,_,rfl,rr,rfl,rfl⟩

def f15 :Option (Bool):=
 (f31 ((⟨([(⟨(⟨[112,108,97,105,110]⟩:Str),(⟨(2:Int),([(0:Int),(1:Int),(0:Int)]:List Int)⟩:TieHarness)⟩:BookTie)]:List BookTie),([(⟨(⟨[116,119,105,108,108]⟩:Str),(⟨(2:Int),([(⟨0,(1:Int),false⟩:ChainCard),(⟨(-1:Int),(1:Int),true⟩:ChainCard)]:List ChainCard)⟩:ChainBelt)⟩:BookChain)]:List BookChain)⟩:BookMill))).bind fun o0=>
 (f17 (([(⟨(258:Int),(3:Int),0,0,(5:Int)⟩:BookCloth)]:List BookCloth))).bind fun l5=>
 (f32 (([(1:UInt8),(2:UInt8),(3:UInt8),(0:UInt8),(0:UInt8),(6:UInt8),(11:UInt8),(44:UInt8)]:List UInt8))).bind fun y23=>
 Option.bind (α:=Bool) (
  bif (o0.2 == (0 : Int)) then
   bif (l5.2.2 == (0 : Int)) then
    bif (y23.2 == (0 : Int)) then
     bif ((o0.1).b == ((⟨[109, 105, 108, 108, 10, 116, 105, 101, 32, 112, 108, 97, 105, 110, 32, 50, 32, 48, 32, 49, 32, 48, 10, 99, 104, 97, 105, 110, 32, 116, 119, 105, 108, 108, 32, 50, 10, 99, 97, 114, 100, 32, 48, 32, 120, 46, 10, 116, 117, 114, 110, 101, 100, 32, 63, 32, 120, 46, 10, 101, 110, 100, 32, 53, 32, 52, 53, 49, 51, 10]⟩ : Str)).b) then
      bif (((⟨l5.1⟩ : Str)).b == ((⟨([(1 : UInt8), (2 : UInt8), (3 : UInt8), (0 : UInt8), (0 : UInt8), (5 : UInt8), (11 : UInt8), (44 : UInt8)] : List UInt8)⟩ : Str)).b) then
       bif (((y23.1).length : Int) == (1 : Int)) then
        (idx (y23.1) (0:Int)).bind fun oB=>
        some (((oB).Day == (258:Int)))
       else
        some (false)
      else
       some (false)
     else
      some (false)
    else
     some (false)
   else
    some (false)
  else
   some (false)
  ) fun mB=>
 some (mB)
theorem en15:Enters Tryz.prog 15:=enters_of Tryz.func15 (by kernel_rfl) rfl
theorem wk15 {gI:Gh} {wI:World} (hTI:TabP 0 gI.m wI)   {r:Bool} (h:f15 =some r):Fn Tryz.prog 15 #[] gI wI (fun _ _ v=>v=.bool (r)):=by
 unfold f15 at h
 refine fn_of_E Tryz.func15 rfl (Nat.le_of_ble_eq_true rfl) fun g0 hm hfr=>?_
 show E _ 70 none _ _ _ _ _
 refine E_seq (E_region (EL_at (.bool false) rfl rfl ?_))
 refine EL_nil (thn_n (E_seq (E_region (EL_do .plain rfl (D_buildSlice (g:=g0) 3009 (xs:=([(0:Int),(1:Int),(0:Int)]:List Int)) (vs:=[.int .i64 (0),.int .i64 (1),.int .i64 (0)]) Tryz.underlying25 Tryz.sizeOf3 Tryz.zeroValue3 rfl rfl (.cons rfl (.cons rfl (.cons rfl .nil))) (RVs.cons (RV_int.2 rfl) (RVs.cons (RV_int.2 rfl) (RVs.cons (RV_int.2 rfl) RVs.nil))) rfl rfl fun g1 w1 v1 hs o1 r1 hxt hfl=>?_)))))
 have hfr:=hfr.stp hs
 have r2:RV g1.m _ (⟨(2:Int),([(0:Int),(1:Int),(0:Int)]:List Int)⟩:TieHarness) (.agg (setCh [[.int .i64 0],[.slice none 0 0]] [(0,.int .i64 (2)),(1,v1)]).flatten.toArray):=RV_build rfl (rep_pair (rfl) (rep_last (RV.cells r1)))
 generalize hv2:(Value.agg (setCh [[.int .i64 0],[.slice none 0 0]] [(0,.int .i64 (2)),(1,v1)]).flatten.toArray)=v2 at r2
 refine EL_p v2 (hv2 ▸ P_build (vs:=[(0,.int .i64 (2)),(1,v1)]) [[.int .i64 0],[.slice none 0 0]] lay_27 rfl rfl (.cons rfl (.cons rfl .nil)) ⟨⟨_,rfl,rfl⟩,⟨⟨_,rfl,cells_size r1⟩,trivial⟩⟩) rfl ?_
 have r3:RV g1.m _ (⟨(⟨[112,108,97,105,110]⟩:Str),(⟨(2:Int),([(0:Int),(1:Int),(0:Int)]:List Int)⟩:TieHarness)⟩:BookTie) (.agg (setCh [[Str.v ⟨[]⟩],[.int .i64 0,.slice none 0 0]] [(0,Str.v (⟨[112,108,97,105,110]⟩:Str)),(1,v2)]).flatten.toArray):=RV_build rfl (rep_pair (rfl) (rep_last (RV.cells r2)))
 generalize hv3:(Value.agg (setCh [[Str.v ⟨[]⟩],[.int .i64 0,.slice none 0 0]] [(0,Str.v (⟨[112,108,97,105,110]⟩:Str)),(1,v2)]).flatten.toArray)=v3 at r3
 refine EL_p v3 (hv3 ▸ P_build (vs:=[(0,Str.v (⟨[112,108,97,105,110]⟩:Str)),(1,v2)]) [[Str.v ⟨[]⟩],[.int .i64 0,.slice none 0 0]] lay_90 rfl rfl (.cons rfl (.cons rfl .nil)) ⟨⟨_,rfl,rfl⟩,⟨⟨_,rfl,cells_size r2⟩,trivial⟩⟩) rfl ?_
 refine EL_do .plain rfl (D_buildSlice (g:=g1) 3012 (xs:=([(⟨(⟨[112,108,97,105,110]⟩:Str),(⟨(2:Int),([(0:Int),(1:Int),(0:Int)]:List Int)⟩:TieHarness)⟩:BookTie)]:List BookTie)) (vs:=[v3]) Tryz.underlying47 Tryz.sizeOf90 Tryz.zeroValue90 rfl rfl (.cons rfl .nil) (RVs.cons r3 RVs.nil) rfl rfl fun g4 w4 v4 hs o4 r4 hxt hfl=>?_)
 have hfr:=hfr.stp hs
 have r5:RV g4.m w4 (⟨0,(1:Int),false⟩:ChainCard) (.agg (setCh [[.int .i64 0],[.int .i64 0],[.bool false]] [(1,.int .i64 (1))]).flatten.toArray):=RV_build rfl (rep_pair (rep_int) (rep_pair (rfl) (rep_last (rep_bool))))
 generalize yE:(Value.agg (setCh [[.int .i64 0],[.int .i64 0],[.bool false]] [(1,.int .i64 (1))]).flatten.toArray)=v5 at r5
 refine EL_p v5 (yE ▸ P_build (vs:=[(1,.int .i64 (1))]) [[.int .i64 0],[.int .i64 0],[.bool false]] lay_87 rfl rfl (.cons rfl .nil) ⟨⟨_,rfl,rfl⟩,trivial⟩) rfl ?_
 have r6:RV g4.m w4 (⟨(-1:Int),(1:Int),true⟩:ChainCard) (.agg (setCh [[.int .i64 0],[.int .i64 0],[.bool false]] [(0,.int .i64 (-1)),(1,.int .i64 (1)),(2,.bool true)]).flatten.toArray):=RV_build rfl (rep_pair (rfl) (rep_pair (rfl) (rep_last (rfl))))
 generalize zE:(Value.agg (setCh [[.int .i64 0],[.int .i64 0],[.bool false]] [(0,.int .i64 (-1)),(1,.int .i64 (1)),(2,.bool true)]).flatten.toArray)=v6 at r6
 refine EL_p v6 (zE ▸ P_build (vs:=[(0,.int .i64 (-1)),(1,.int .i64 (1)),(2,.bool true)]) [[.int .i64 0],[.int .i64 0],[.bool false]] lay_87 rfl rfl (.cons rfl (.cons rfl (.cons rfl .nil))) ⟨⟨_,rfl,rfl⟩,⟨⟨_,rfl,rfl⟩,⟨⟨_,rfl,rfl⟩,trivial⟩⟩⟩) rfl ?_
 refine EL_do .plain rfl (D_buildSlice (g:=g4) 3015 (xs:=([(⟨0,(1:Int),false⟩:ChainCard),(⟨(-1:Int),(1:Int),true⟩:ChainCard)]:List ChainCard)) (vs:=[v5,v6]) Tryz.underlying83 Tryz.sizeOf87 Tryz.zeroValue87 rfl rfl (.cons rfl (.cons rfl .nil)) (RVs.cons r5 (RVs.cons r6 RVs.nil)) rfl rfl fun g7 w7 v7 hs o7 r7 hxt hfl=>?_)
 have hfr:=hfr.stp hs
 have r4:=r4.stp hs
 have o4:=o4.stp hs rfl
 have r8:RV g7.m _ (⟨(2:Int),([(⟨0,(1:Int),false⟩:ChainCard),(⟨(-1:Int),(1:Int),true⟩:ChainCard)]:List ChainCard)⟩:ChainBelt) (.agg (setCh [[.int .i64 0],[.slice none 0 0]] [(0,.int .i64 (2)),(1,v7)]).flatten.toArray):=RV_build rfl (rep_pair (rfl) (rep_last (RV.cells r7)))
 generalize cF:(Value.agg (setCh [[.int .i64 0],[.slice none 0 0]] [(0,.int .i64 (2)),(1,v7)]).flatten.toArray)=v8 at r8
 refine EL_p v8 (cF ▸ P_build (vs:=[(0,.int .i64 (2)),(1,v7)]) [[.int .i64 0],[.slice none 0 0]] lay_85 rfl rfl (.cons rfl (.cons rfl .nil)) ⟨⟨_,rfl,rfl⟩,⟨⟨_,rfl,cells_size r7⟩,trivial⟩⟩) rfl ?_
 have r9:RV g7.m _ (⟨(⟨[116,119,105,108,108]⟩:Str),(⟨(2:Int),([(⟨0,(1:Int),false⟩:ChainCard),(⟨(-1:Int),(1:Int),true⟩:ChainCard)]:List ChainCard)⟩:ChainBelt)⟩:BookChain) (.agg (setCh [[Str.v ⟨[]⟩],[.int .i64 0,.slice none 0 0]] [(0,Str.v (⟨[116,119,105,108,108]⟩:Str)),(1,v8)]).flatten.toArray):=RV_build rfl (rep_pair (rfl) (rep_last (RV.cells r8)))
 generalize dF:(Value.agg (setCh [[Str.v ⟨[]⟩],[.int .i64 0,.slice none 0 0]] [(0,Str.v (⟨[116,119,105,108,108]⟩:Str)),(1,v8)]).flatten.toArray)=v9 at r9
 refine EL_p v9 (dF ▸ P_build (vs:=[(0,Str.v (⟨[116,119,105,108,108]⟩:Str)),(1,v8)]) [[Str.v ⟨[]⟩],[.int .i64 0,.slice none 0 0]] lay_92 rfl rfl (.cons rfl (.cons rfl .nil)) ⟨⟨_,rfl,rfl⟩,⟨⟨_,rfl,cells_size r8⟩,trivial⟩⟩) rfl ?_
 refine EL_do .plain rfl (D_buildSlice (g:=g7) 3018 (xs:=([(⟨(⟨[116,119,105,108,108]⟩:Str),(⟨(2:Int),([(⟨0,(1:Int),false⟩:ChainCard),(⟨(-1:Int),(1:Int),true⟩:ChainCard)]:List ChainCard)⟩:ChainBelt)⟩:BookChain)]:List BookChain)) (vs:=[v9]) Tryz.underlying48 Tryz.sizeOf92 Tryz.zeroValue92 rfl rfl (.cons rfl .nil) (RVs.cons r9 RVs.nil) rfl rfl fun yD kH uC hs o10 zD hxt hfl=>?_)
 have hfr:=hfr.stp hs
 have r4:=r4.stp hs
 have o4:=o4.stp hs rfl
 have yB:RV yD.m _ (⟨([(⟨(⟨[112,108,97,105,110]⟩:Str),(⟨(2:Int),([(0:Int),(1:Int),(0:Int)]:List Int)⟩:TieHarness)⟩:BookTie)]:List BookTie),([(⟨(⟨[116,119,105,108,108]⟩:Str),(⟨(2:Int),([(⟨0,(1:Int),false⟩:ChainCard),(⟨(-1:Int),(1:Int),true⟩:ChainCard)]:List ChainCard)⟩:ChainBelt)⟩:BookChain)]:List BookChain)⟩:BookMill) (.agg (setCh [[.slice none 0 0],[.slice none 0 0]] [(0,v4),(1,uC)]).flatten.toArray):=RV_build rfl (rep_pair (RV.cells r4) (rep_last (RV.cells zD)))
 generalize vC:(Value.agg (setCh [[.slice none 0 0],[.slice none 0 0]] [(0,v4),(1,uC)]).flatten.toArray)=aE at yB
 refine EL_p aE (vC ▸ P_build (vs:=[(0,v4),(1,uC)]) [[.slice none 0 0],[.slice none 0 0]] lay_50 rfl rfl (.cons rfl (.cons rfl .nil)) ⟨⟨_,rfl,cells_size r4⟩,⟨⟨_,rfl,cells_size zD⟩,trivial⟩⟩) rfl ?_
 refine EL_do .plain rfl (D_allocOc (g:=yD) 2001 (⟨[],[]⟩:BookMill) Tryz.zeroValue50 (fun m w=>⟨_,(rep_two rep_nil rep_nil),rfl⟩) fun bD bE cD hs b12 cb=>?_)
 have hfr:=hfr.stp hs
 have r4:=r4.stp hs
 have o4:=o4.stp hs rfl
 have yB:=yB.stp hs
 have kG:OSF 2001 60100 0 bD bE 90 50 ([]:List BookTie) cD:=cb.osf (by rfl)
 have lG:OSF 2001 60101 1 bD bE 92 50 ([]:List BookChain) cD:=cb.osf (by rfl)
 clear cb
 refine EL_do .plain rfl (D_storeOc (g:=bD) (v:=aE) Tryz.sizeOf50 rfl b12 rfl yB fun lD eF hs b13 cb=>?_)
 obtain ⟨rF,sF,cC,_,_⟩:=RV_list r4
 have mG:OSF 2001 3012 0 lD eF 90 50 (([(⟨(⟨[112,108,97,105,110]⟩:Str),(⟨(2:Int),([(0:Int),(1:Int),(0:Int)]:List Int)⟩:TieHarness)⟩:BookTie)]:List BookTie):List BookTie) cD:=cb.osfv (by rw [← vC,cC]; rfl) (o4.stp hs rfl)
 clear cb
 have hfr:=hfr.stp hs
 refine EL_nil (thn_n (E_seq (E_region (EL_do .plain rfl (D_loadO (g:=lD) Tryz.isAgg50 Tryz.sizeOf50 rfl b13 fun tF uF=>?_)))))
 obtain ⟨o0,rE,h⟩:=bsome h
 refine EL_do .plain rfl (D_call (g:=lD) (vs:=[tF]) en31 (.cons rfl .nil) (wk31 (hTI.ch hfr.ch) uF rE) fun iE uE lH hs hr=>?_)
 have hfr:=hfr.ext hs
 obtain ⟨sG,xG,rfl,rfl,rfl⟩:=hr
 refine EL_mw (.tuple #[Str.v (o0.1),.int .i64 (o0.2)]) rfl rfl ?_
 refine EL_p (Str.v (o0.1)) (P_extract rfl rfl) rfl ?_
 refine EL_p (.int .i64 (o0.2)) (P_extract rfl rfl) rfl ?_
 refine EL_at (Str.v (o0.1)) rfl rfl ?_
 refine EL_at (.int .i64 (o0.2)) rfl rfl ?_
 refine EL_nil (thn_n (E_seq (E_region ?_)))
 have lE:RV iE.m uE (⟨(258:Int),(3:Int),0,0,(5:Int)⟩:BookCloth) (.agg (setCh [[.int .i64 0],[.int .i64 0],[.int .i64 0],[.int .i64 0],[.int .i64 0]] [(0,.int .i64 (258)),(1,.int .i64 (3)),(4,.int .i64 (5))]).flatten.toArray):=RV_build rfl (rep_pair (rfl) (rep_pair (rfl) (rep_pair (rep_int) (rep_pair (rep_int) (rep_last (rfl))))))
 generalize vE:(Value.agg (setCh [[.int .i64 0],[.int .i64 0],[.int .i64 0],[.int .i64 0],[.int .i64 0]] [(0,.int .i64 (258)),(1,.int .i64 (3)),(4,.int .i64 (5))]).flatten.toArray)=mE at lE
 refine EL_p mE (vE ▸ P_build (vs:=[(0,.int .i64 (258)),(1,.int .i64 (3)),(4,.int .i64 (5))]) [[.int .i64 0],[.int .i64 0],[.int .i64 0],[.int .i64 0],[.int .i64 0]] lay_63 rfl rfl (.cons rfl (.cons rfl (.cons rfl .nil))) ⟨⟨_,rfl,rfl⟩,⟨⟨_,rfl,rfl⟩,⟨⟨_,rfl,rfl⟩,trivial⟩⟩⟩) rfl ?_
 refine EL_do .plain rfl (D_buildSlice (g:=iE) 3027 (xs:=([(⟨(258:Int),(3:Int),0,0,(5:Int)⟩:BookCloth)]:List BookCloth)) (vs:=[mE]) Tryz.underlying33 Tryz.sizeOf63 Tryz.zeroValue63 rfl rfl (.cons rfl .nil) (RVs.cons lE RVs.nil) rfl rfl fun vF mH xF hs o18 yF hxt hfl=>?_)
 have hfr:=hfr.stp hs
 obtain ⟨l5,hy20,h⟩:=bsome h
 refine EL_do .plain rfl (D_call (g:=vF) (vs:=[xF]) en17 (.cons rfl .nil) (wk17 yF hy20) fun aG cH nH hs hr=>?_)
 have hfr:=hfr.ext hs
 obtain ⟨nB,yG,zG,rfl,aB,rfl,rfl⟩:=hr
 refine EL_mw (.tuple #[nB,.int .i64 (l5.2.1),.int .i64 (l5.2.2)]) rfl rfl ?_
 refine EL_p nB (P_extract rfl rfl) rfl ?_
 refine EL_p (.int .i64 (l5.2.1)) (P_extract rfl rfl) rfl ?_
 refine EL_p (.int .i64 (l5.2.2)) (P_extract rfl rfl) rfl ?_
 refine EL_at nB rfl rfl ?_
 refine EL_at (.int .i64 (l5.2.1)) rfl rfl ?_
 refine EL_at (.int .i64 (l5.2.2)) rfl rfl ?_
 refine EL_nil (thn_n (E_seq (E_region (EL_do .plain rfl (D_buildSlice (g:=aG) 3033 (xs:=([(1:UInt8),(2:UInt8),(3:UInt8),(0:UInt8),(0:UInt8),(6:UInt8),(11:UInt8),(44:UInt8)]:List UInt8)) (vs:=[.int .u8 (UInt8.toNat 1),.int .u8 (UInt8.toNat 2),.int .u8 (UInt8.toNat 3),.int .u8 (UInt8.toNat 0),.int .u8 (UInt8.toNat 0),.int .u8 (UInt8.toNat 6),.int .u8 (UInt8.toNat 11),.int .u8 (UInt8.toNat 44)]) Tryz.underlying72 Tryz.sizeOf5 Tryz.zeroValue5 rfl rfl (.cons rfl (.cons rfl (.cons rfl (.cons rfl (.cons rfl (.cons rfl (.cons rfl (.cons rfl .nil)))))))) (RVs.cons (RV_u8.2 rfl) (RVs.cons (RV_u8.2 rfl) (RVs.cons (RV_u8.2 rfl) (RVs.cons (RV_u8.2 rfl) (RVs.cons (RV_u8.2 rfl) (RVs.cons (RV_u8.2 rfl) (RVs.cons (RV_u8.2 rfl) (RVs.cons (RV_u8.2 rfl) RVs.nil)))))))) rfl rfl fun bG oH cG hs o21 eG hxt hfl=>?_)))))
 have hfr:=hfr.stp hs
 have aB:=aB.stp hs
 obtain ⟨y23,xE,h⟩:=bsome h
 refine EL_do .plain rfl (D_call (g:=bG) (vs:=[cG]) en32 (.cons rfl .nil) (wk32 eG xE) fun vB gH pH hs hr=>?_)
 have hfr:=hfr.ext hs
 have aB:=aB.ext hs
 obtain ⟨g8,aH,rfl,lB,rfl⟩:=hr
 refine EL_mw (.tuple #[g8,.int .i64 (y23.2)]) rfl rfl ?_
 refine EL_p g8 (P_extract rfl rfl) rfl ?_
 refine EL_p (.int .i64 (y23.2)) (P_extract rfl rfl) rfl ?_
 refine EL_at g8 rfl rfl ?_
 refine EL_at (.int .i64 (y23.2)) rfl rfl ?_
 refine EL_nil (thn_n ?_)
 obtain ⟨mB,hx,h⟩:=bsome h
 refine E_join (fun e w=>∃ (g:Gh) ,Fr gI wI g w∧e 0=.bool (mB)) (fun Q' hQ=>?_) (fun jH qH hR=>?_)
 ·replace h := hx
  clear hx
  refine E_region (EL_mw (.int .i64 (o0.2)) rfl rfl ?_)
  refine EL_in (.bool ((o0.2 == (0:Int)))) rfl rfl rfl rfl ?_
  refine EL_mw (.bool ((o0.2 == (0:Int)))) rfl rfl ?_
  rcases csome h with ⟨n8,h⟩ | ⟨n8,h⟩
  ·refine EL_y (.int .i64 (l5.2.2)) (P_move rfl) rfl rfl n8 rfl ?_
   refine EL_y (.bool ((l5.2.2 == (0:Int)))) (P_int rfl rfl rfl) rfl rfl n8 rfl ?_
   refine EL_p (.bool ((l5.2.2 == (0:Int)))) (P_pick (b:=(o0.2 == (0:Int))) rfl (pick_t n8 rfl)) rfl ?_
   refine EL_mw (.bool ((l5.2.2 == (0:Int)))) rfl rfl ?_
   rcases csome h with ⟨l9,h⟩ | ⟨l9,h⟩
   ·refine EL_y (.int .i64 (y23.2)) (P_move rfl) rfl rfl l9 rfl ?_
    refine EL_y (.bool ((y23.2 == (0:Int)))) (P_int rfl rfl rfl) rfl rfl l9 rfl ?_
    refine EL_p (.bool ((y23.2 == (0:Int)))) (P_pick (b:=(l5.2.2 == (0:Int))) rfl (pick_t l9 rfl)) rfl ?_
    refine EL_mw (.bool ((y23.2 == (0:Int)))) rfl rfl ?_
    rcases csome h with ⟨n9,h⟩ | ⟨n9,h⟩
    ·refine EL_y (Str.v (o0.1)) (P_move rfl) rfl rfl n9 rfl ?_
     refine EL_y (.bool (((o0.1).b == ((⟨[109,105,108,108,10,116,105,101,32,112,108,97,105,110,32,50,32,48,32,49,32,48,10,99,104,97,105,110,32,116,119,105,108,108,32,50,10,99,97,114,100,32,48,32,120,46,10,116,117,114,110,101,100,32,63,32,120,46,10,101,110,100,32,53,32,52,53,49,51,10]⟩:Str)).b))) (P_str rfl rfl rfl) rfl rfl n9 rfl ?_
     refine EL_p (.bool (((o0.1).b == ((⟨[109,105,108,108,10,116,105,101,32,112,108,97,105,110,32,50,32,48,32,49,32,48,10,99,104,97,105,110,32,116,119,105,108,108,32,50,10,99,97,114,100,32,48,32,120,46,10,116,117,114,110,101,100,32,63,32,120,46,10,101,110,100,32,53,32,52,53,49,51,10]⟩:Str)).b))) (P_pick (b:=(y23.2 == (0:Int))) rfl (pick_t n9 rfl)) rfl ?_
     refine EL_mw (.bool (((o0.1).b == ((⟨[109,105,108,108,10,116,105,101,32,112,108,97,105,110,32,50,32,48,32,49,32,48,10,99,104,97,105,110,32,116,119,105,108,108,32,50,10,99,97,114,100,32,48,32,120,46,10,116,117,114,110,101,100,32,63,32,120,46,10,101,110,100,32,53,32,52,53,49,51,10]⟩:Str)).b))) rfl rfl ?_
     rcases csome h with ⟨t5,h⟩ | ⟨t5,h⟩
     ·refine EL_y nB (P_move rfl) rfl rfl t5 rfl ?_
      refine EL_do (.yes2 rfl rfl t5) rfl (D_convBSr Tryz.underlying72 Tryz.underlying9 Tryz.underlying5 rfl aB ?_)
      refine EL_do (.yes2 rfl rfl t5) rfl (D_buildSlice (g:=vB) 3054 (xs:=([(1:UInt8),(2:UInt8),(3:UInt8),(0:UInt8),(0:UInt8),(5:UInt8),(11:UInt8),(44:UInt8)]:List UInt8)) (vs:=[.int .u8 (UInt8.toNat 1),.int .u8 (UInt8.toNat 2),.int .u8 (UInt8.toNat 3),.int .u8 (UInt8.toNat 0),.int .u8 (UInt8.toNat 0),.int .u8 (UInt8.toNat 5),.int .u8 (UInt8.toNat 11),.int .u8 (UInt8.toNat 44)]) Tryz.underlying72 Tryz.sizeOf5 Tryz.zeroValue5 rfl rfl (.cons rfl (.cons rfl (.cons rfl (.cons rfl (.cons rfl (.cons rfl (.cons rfl (.cons rfl .nil)))))))) (RVs.cons (RV_u8.2 rfl) (RVs.cons (RV_u8.2 rfl) (RVs.cons (RV_u8.2 rfl) (RVs.cons (RV_u8.2 rfl) (RVs.cons (RV_u8.2 rfl) (RVs.cons (RV_u8.2 rfl) (RVs.cons (RV_u8.2 rfl) (RVs.cons (RV_u8.2 rfl) RVs.nil)))))))) rfl rfl fun zB sH tH hs o39 gG hxt hfl=>?_)
      have hfr:=hfr.stp hs
      have lB:=lB.stp hs
      refine EL_do (.yes2 rfl rfl t5) rfl (D_convBSr Tryz.underlying72 Tryz.underlying9 Tryz.underlying5 rfl gG ?_)
      refine EL_y (.bool ((((⟨l5.1⟩:Str)).b == ((⟨([(1:UInt8),(2:UInt8),(3:UInt8),(0:UInt8),(0:UInt8),(5:UInt8),(11:UInt8),(44:UInt8)]:List UInt8)⟩:Str)).b))) (P_str rfl rfl rfl) rfl rfl t5 rfl ?_
      refine EL_p (.bool ((((⟨l5.1⟩:Str)).b == ((⟨([(1:UInt8),(2:UInt8),(3:UInt8),(0:UInt8),(0:UInt8),(5:UInt8),(11:UInt8),(44:UInt8)]:List UInt8)⟩:Str)).b))) (P_pick (b:=((o0.1).b == ((⟨[109,105,108,108,10,116,105,101,32,112,108,97,105,110,32,50,32,48,32,49,32,48,10,99,104,97,105,110,32,116,119,105,108,108,32,50,10,99,97,114,100,32,48,32,120,46,10,116,117,114,110,101,100,32,63,32,120,46,10,101,110,100,32,53,32,52,53,49,51,10]⟩:Str)).b)) rfl (pick_t t5 rfl)) rfl ?_
      refine EL_p (.bool ((((⟨l5.1⟩:Str)).b == ((⟨([(1:UInt8),(2:UInt8),(3:UInt8),(0:UInt8),(0:UInt8),(5:UInt8),(11:UInt8),(44:UInt8)]:List UInt8)⟩:Str)).b))) (P_move rfl) rfl ?_
      rcases csome h with ⟨l8,h⟩ | ⟨l8,h⟩
      ·refine EL_y g8 (P_move rfl) rfl rfl l8 rfl ?_
       refine EL_y (.int .i64 ((y23.1).length:Int)) (P_len Tryz.underlying33 rfl lB) rfl rfl l8 rfl ?_
       refine EL_y (.bool ((((y23.1).length:Int) == (1:Int)))) (P_int rfl rfl rfl) rfl rfl l8 rfl ?_
       refine EL_p (.bool ((((y23.1).length:Int) == (1:Int)))) (P_pick (b:=(((⟨l5.1⟩:Str)).b == ((⟨([(1:UInt8),(2:UInt8),(3:UInt8),(0:UInt8),(0:UInt8),(5:UInt8),(11:UInt8),(44:UInt8)]:List UInt8)⟩:Str)).b)) rfl (pick_t l8 rfl)) rfl ?_
       refine EL_mw (.bool ((((y23.1).length:Int) == (1:Int)))) rfl rfl ?_
       rcases csome h with ⟨i6,h⟩ | ⟨i6,h⟩
       ·refine EL_y g8 (P_move rfl) rfl rfl i6 rfl ?_
        obtain ⟨oB,nD,h⟩:=bsome h
        refine EL_y (ePtr g8 (0:Int) 5) (P_indexAddr (α:=BookCloth) Tryz.underlying33 Tryz.sizeOf63 rfl lB rfl nD) rfl rfl i6 rfl ?_
        have oE:=PT_idx lB nD
        refine EL_y (fPtr (ePtr g8 (0:Int) 5) 0) (P_fieldAddr at_63_0 rfl (PT.ptr oE)) rfl rfl i6 rfl ?_
        have iG:=PT_field (part_BookCloth_0).1 oE
        refine EL_do (.yes2 rfl rfl i6) rfl (D_load (g:=zB) Tryz.isAgg3 Tryz.sizeOf3 rfl iG fun uH jG=>?_)
        obtain rfl:=RV_int.1 jG
        refine EL_y (.bool (((oB).Day == (258:Int)))) (P_int rfl rfl rfl) rfl rfl i6 rfl ?_
        refine EL_p (.bool (((oB).Day == (258:Int)))) (P_pick (b:=(((y23.1).length:Int) == (1:Int))) rfl (pick_t i6 rfl)) rfl ?_
        refine EL_at (.bool (((oB).Day == (258:Int)))) rfl rfl ?_
        refine EL_nil ?_
        obtain rfl:=sinj h
        exact hQ _ _ ⟨zB,hfr,rfl⟩
       ·refine EL_s rfl rfl i6 rfl rfl ?_
        iterate 4 refine EL_s rfl rfl i6 rfl rfl ?_
        refine EL_p (.bool false) (P_pick (b:=(((y23.1).length:Int) == (1:Int))) rfl (pick_f i6 rfl)) rfl ?_
        refine EL_at (.bool false) rfl rfl ?_
        refine EL_nil ?_
        obtain rfl:=sinj h
        exact hQ _ _ ⟨zB,hfr,rfl⟩
      ·refine EL_s rfl rfl l8 rfl rfl ?_
       refine EL_s rfl rfl l8 rfl rfl ?_
       refine EL_s rfl rfl l8 rfl rfl ?_
       refine EL_p (.bool false) (P_pick (b:=(((⟨l5.1⟩:Str)).b == ((⟨([(1:UInt8),(2:UInt8),(3:UInt8),(0:UInt8),(0:UInt8),(5:UInt8),(11:UInt8),(44:UInt8)]:List UInt8)⟩:Str)).b)) rfl (pick_f l8 rfl)) rfl ?_
       refine EL_dead 7 rfl ?_
       refine EL_at (.bool false) rfl rfl ?_
       refine EL_nil ?_
       obtain rfl:=sinj h
       exact hQ _ _ ⟨zB,hfr,rfl⟩
     ·refine EL_s rfl rfl t5 rfl rfl ?_
      iterate 4 refine EL_s rfl rfl t5 rfl rfl ?_
      refine EL_p (.bool false) (P_pick (b:=((o0.1).b == ((⟨[109,105,108,108,10,116,105,101,32,112,108,97,105,110,32,50,32,48,32,49,32,48,10,99,104,97,105,110,32,116,119,105,108,108,32,50,10,99,97,114,100,32,48,32,120,46,10,116,117,114,110,101,100,32,63,32,120,46,10,101,110,100,32,53,32,52,53,49,51,10]⟩:Str)).b)) rfl (pick_f t5 rfl)) rfl ?_
      refine EL_dead 12 rfl ?_
      refine EL_at (.bool false) rfl rfl ?_
      refine EL_nil ?_
      obtain rfl:=sinj h
      exact hQ _ _ ⟨vB,hfr,rfl⟩
    ·refine EL_s rfl rfl n9 rfl rfl ?_
     refine EL_s rfl rfl n9 rfl rfl ?_
     refine EL_p (.bool false) (P_pick (b:=(y23.2 == (0:Int))) rfl (pick_f n9 rfl)) rfl ?_
     refine EL_dead 19 rfl ?_
     refine EL_at (.bool false) rfl rfl ?_
     refine EL_nil ?_
     obtain rfl:=sinj h
     exact hQ _ _ ⟨vB,hfr,rfl⟩
   ·refine EL_s rfl rfl l9 rfl rfl ?_
    refine EL_s rfl rfl l9 rfl rfl ?_
    refine EL_p (.bool false) (P_pick (b:=(l5.2.2 == (0:Int))) rfl (pick_f l9 rfl)) rfl ?_
    refine EL_dead 23 rfl ?_
    refine EL_at (.bool false) rfl rfl ?_
    refine EL_nil ?_
    obtain rfl:=sinj h
    exact hQ _ _ ⟨vB,hfr,rfl⟩
  ·refine EL_s rfl rfl n8 rfl rfl ?_
   refine EL_s rfl rfl n8 rfl rfl ?_
   refine EL_p (.bool false) (P_pick (b:=(o0.2 == (0:Int))) rfl (pick_f n8 rfl)) rfl ?_
   refine EL_dead 27 rfl ?_
   refine EL_at (.bool false) rfl rfl ?_
   refine EL_nil ?_
   obtain rfl:=sinj h
   exact hQ _ _ ⟨vB,hfr,rfl⟩
 ·clear hx
  obtain ⟨xH,hfr,oD⟩:=hR
  refine E_ret ?_
  obtain rfl:=sinj h
  exact end1 rfl rfl (show _=.bool (mB) from oD) ⟨_,hfr,rfl⟩
def f3 (x0:List UInt16) (x1:List (Vector UInt8 3)) (x2:Vector UInt8 4):Option (Bool):=
 (f4 ((4:UInt8)) x0).bind fun y3=>
 (f5 x1).bind fun y5=>
 (f6 x2).bind fun y8=>
 (idx (x2).toList (0:Int)).bind fun dL=>
 (f7 y5 ((((dL).toUInt16) * (3:UInt16)))).bind fun tF=>
 (f9 y3).bind fun aV=>
 (f8 aV (tF.1)).bind fun nD=>
 jn (σ:=Unit) (fun _=>
  (f10 y8).bind fun zB=>
  jn (σ:=Int × Int × Int) (fun (cC,n8,aB)=>
   Option.bind (α:=Int) (
    lp (σ:=Int × Int) (fun mO (lE,vC)=>
     jn (σ:=Unit) (fun _=>
      Option.bind (α:=Int) (
       (idx y5 vC).bind fun pH=>
       some ((w64 (lE + (pH).Picks)))
       ) fun dF=>
      mO (dF,(w64 (vC + (1:Int))))
      ) fun nO=>
     bif (decide (vC < ((y5).length : Int))) then
      nO ()
     else
      some (lE)
     ) big ((0:Int),(0:Int))
    ) fun eF=>
   jn (σ:=Unit) (fun _=>
    jn (σ:=Unit) (fun _=>
     (f12 y8).bind fun oO=>
     (f11 oO ((⟨0,0⟩:Span)) cC).bind fun lB=>
     Option.bind (α:=Bool) (
      bif (lB.2 == (0 : Int)) then
       bif (decide (n8 ≤ (lB.1).Low)) then
        bif (decide (n8 > (w64 ((lB.1).Low - aB)))) then
         (f14).bind fun aG=>
         bif aG then
          (f15).bind fun qH=>
          some (qH)
         else
          some (false)
        else
         some (false)
       else
        some (false)
      else
       some (false)
      ) fun bG=>
     some (bG)
     ) fun pO=>
    bif (cC == (0 : Int)) then
     Option.bind (α:=Bool) (
      (f14).bind fun zG=>
      bif zG then
       (f15).bind fun sH=>
       some (sH)
      else
       some (false)
      ) fun cG=>
     some (cG)
    else
     pO ()
    ) fun qO=>
   bif (cC != eF) then
    some (false)
   else
    qO ()
   ) fun rO=>
  lp (σ:=Int × Int × Int × Int) (fun sO (mB,nB,oB,vB)=>
   jn (σ:=Unit) (fun _=>
    jn (σ:=Int × Int × Int) (fun (jG,kG,lG)=>
     sO (jG,kG,lG,(w64 (vB + (1:Int))))
     ) fun xK=>
    (idx (nD.1) vB).bind fun l5=>
    jn (σ:=Unit) (fun _=>
     (f12 y8).bind fun tO=>
     (f11 tO ((⟨0,0⟩:Span)) (((l5).length:Int))).bind fun o0=>
     (f12 y8).bind fun eG=>
     (quo64 (w64 ((w64 ((w64 (((l5).length:Int) * zB.1)) + zB.2)) - (1:Int))) zB.2).bind fun tH=>
     (f13 eG tH).bind fun l8=>
     jn (σ:=Unit) (fun _=>
      xK ((w64 (mB + ((l5).length:Int))),(w64 (nB + (o0.1).Low)),(w64 (oB + (1:Int))))
      ) fun uO=>
     Option.bind (α:=Bool) (
      bif (decide (((l5).length : Int) > (1000 : Int))) then
       some (true)
      else
       bif (o0.2 != (0 : Int)) then
        some (true)
       else
        bif (l8.2 != (0 : Int)) then
         some (true)
        else
         bif ((o0.1).Low != (o0.1).High) then
          some (true)
         else
          (quo64 (w64 (((l5).length:Int) * zB.1)) zB.2).bind fun aE=>
          bif ((o0.1).Low != aE) then
           some (true)
          else
           some ((l8.1 != ((l5).length:Int)))
      ) fun xE=>
     bif xE then
      some (false)
     else
      uO ()
     ) fun vO=>
    bif (((l5).length : Int) == (0 : Int)) then
     xK (mB,nB,oB)
    else
     vO ()
    ) fun xO=>
   bif (decide (vB < (3 : Int))) then
    xO ()
   else
    rO (mB,nB,oB)
   ) big ((0:Int),(0:Int),(0:Int),(0:Int))
  ) fun bV=>
 Option.bind (α:=Bool) (
  bif (!tF.2) then
   some (true)
  else
   bif (nD.2.2 != (0 : Int)) then
    some (true)
   else
    some ((((nD.1).length:Int) != (16:Int)))
  ) fun uF=>
 bif uF then
  some (false)
 else
  bV ()
theorem wk3 {gI:Gh} {wI:World} (hTI:TabP 0 gI.m wI) {x0:List UInt16} {x1:List (Vector UInt8 3)} {x2:Vector UInt8 4} {up0:Value} (rp0:RV gI.m wI x0 up0) {up1:Value} (rp1:RV gI.m wI x1 up1) {up2:Value} (rp2:RV gI.m wI x2 up2) {r:Bool} (h:f3 x0 x1 x2=some r):Fn Tryz.prog 3 #[up0,up1,up2] gI wI (fun _ _ v=>v=.bool (r)):=by
 unfold f3 at h
 refine fn_of_E Tryz.func3 rfl (Nat.le_of_ble_eq_true rfl) fun g0 hm hfr=>?_
 have rp0:RV g0.m wI x0 up0:=hm ▸ rp0
 have rp1:RV g0.m wI x1 up1:=hm ▸ rp1
 have rp2:RV g0.m wI x2 up2:=hm ▸ rp2
 show E _ 195 none _ _ _ _ _
 refine E_seq (E_region (EL_do .plain rfl (D_box (g:=g0) rfl rp2 fun g1 w1 p1 hs q1=>?_)))
 have hfr:=hfr.ext hs
 have rp0:=rp0.ext hs
 have rp1:=rp1.ext hs
 refine EL_at (.bool false) rfl rfl ?_
 refine EL_nil (thn_n (E_seq ?_))
 obtain ⟨y3,hy3,h⟩:=bsome h
 obtain ⟨y5,hy5,h⟩:=bsome h
 refine L_load (x:=.tmp 5) Tryz.isAgg24 Tryz.sizeOf24 q1 fun v6 r6 oV=>?_
 obtain ⟨y8,pV,h⟩:=bsome h
 refine E_drawL (g:=g1) (n:=8) [(1,(fun v g w=>RV g.m w y3 v)),(3,(fun v g w=>RV g.m w y5 v)),(5,(fun v g w=>RV g.m w y8 v)),(6,(fun v g w=>OB 2007 g w 31 (⟨⟨0,[]⟩,⟨0,[]⟩⟩:FaultLoom) v)),(7,(fun v g w=>OB 2009 g w 37 (⟨0,0,[],0⟩:BeamTake) v))] [0,1,2,3,4,5,6,7] rfl mixed (by kernel_rfl) (⟨fun _=>up_rv,fun _=>up_rv,fun _=>up_rv,fun _=>up_ob,fun _=>up_ob,trivial⟩) ?_
 refine L_p up0 rfl rfl (P_move rfl) ?_
 refine L_do (φ:=fun v g w=>RV g.m w y3 v) rfl rfl .plain (fun g w hd=>D_call (g:=g) (vs:=[.int .u8 (UInt8.toNat 4),up0]) en4 (.cons rfl (.cons rfl .nil)) (wk4 (rp0.ext hd.1) hy3) fun g' w' v hs hr=>⟨g',hs,hr⟩) (fun v2 hv=>?_)
 obtain ⟨_,_,_,rq2⟩:=hv
 refine L_p up1 rfl rfl (P_move rfl) ?_
 refine L_do (φ:=fun v g w=>RV g.m w y5 v) rfl rfl .plain (fun g w hd=>D_call (g:=g) (vs:=[up1]) en5 (.cons rfl .nil) (wk5 (rp1.ext hd.1) hy5) fun g' w' v hs hr=>⟨g',hs,hr⟩) (fun v4 hv=>?_)
 obtain ⟨_,_,_,rq4⟩:=hv
 refine L_ld (c:=v6) rfl rfl .plain (fun _ _ h=>h.ch) oV rfl ?_
 refine L_do (φ:=fun v g w=>RV g.m w y8 v) rfl rfl .plain (fun g w hd=>D_call (g:=g) (vs:=[v6]) en6 (.cons rfl .nil) (wk6 (r6.ext hd.1) pV) fun g' w' v hs hr=>⟨g',hs,hr⟩) (fun v7 hv=>?_)
 obtain ⟨_,_,_,rq7⟩:=hv
 refine L_do (φ:=fun v g w=>OB 2007 g w 31 (⟨⟨0,[]⟩,⟨0,[]⟩⟩:FaultLoom) v) rfl rfl .plain (fun g w hd=>D_allocX (g:=g) 2007 (⟨⟨0,[]⟩,⟨0,[]⟩⟩:FaultLoom) Tryz.zeroValue31 (fun m w=>⟨_,(rep_two (rep_two rep_int rep_nil) (rep_two rep_int rep_nil)),rfl⟩) fun g' w' v hs b=>⟨g',hs,b⟩) (fun v9 hv=>?_)
 clear hv
 refine L_do (φ:=fun v g w=>OB 2009 g w 37 (⟨0,0,[],0⟩:BeamTake) v) rfl rfl .plain (fun g w hd=>D_allocX (g:=g) 2009 (⟨0,0,[],0⟩:BeamTake) Tryz.zeroValue37 (fun m w=>⟨_,(rep_two rep_int (rep_two rep_int (rep_two rep_nil rep_int))),rfl⟩) fun g' w' v hs b=>⟨g',hs,b⟩) (fun cD hv=>?_)
 clear hv
 refine L_nil fun qV w11 hall=>?_
 have hs:=hall.1
 have hfr:=hfr.ext hs
 have q1:=q1.ext hs
 have rV:=(word_all (A:=fun g w=>RV g.m w y3 v2) 1 rfl hall)
 have cF:=(word_all (A:=fun g w=>RV g.m w y5 v4) 3 rfl hall)
 have bR:=(word_all (A:=fun g w=>RV g.m w y8 v7) 5 rfl hall)
 have b23:=(word_all (A:=fun g w=>OB 2007 g w 31 (⟨⟨0,[]⟩,⟨0,[]⟩⟩:FaultLoom) v9) 6 rfl hall)
 have b24:=(word_all (A:=fun g w=>OB 2009 g w 37 (⟨0,0,[],0⟩:BeamTake) cD) 7 rfl hall)
 clear hs hall
 refine EL_do .plain rfl (D_storeOc (g:=qV) (v:=v2) Tryz.sizeOf31 rfl b23 rfl rV fun sV w25 hs b25 cb=>?_)
 clear cb
 have hfr:=hfr.stp hs
 have q1:=q1.stp hs
 have cF:=cF.stp hs
 have bR:=bR.stp hs
 have b24:=b24.stp hs rfl
 refine EL_at v4 rfl rfl ?_
 refine EL_do .plain rfl (D_storeOc (g:=sV) (v:=v7) Tryz.sizeOf37 rfl b24 rfl bR fun cV w26 hs b26 cb=>?_)
 clear cb
 have hfr:=hfr.stp hs
 have q1:=q1.stp hs
 have cF:=cF.stp hs
 have b25:=b25.stp hs rfl
 refine EL_nil (thn_n (E_seq (E_region (EL_mw v4 rfl rfl ?_))))
 obtain ⟨dL,dR,h⟩:=bsome h
 refine EL_p (fPtr p1 (((0:Int):Int).toNat * 1)) (P_indexAddrA (α:=UInt8) Tryz.underlying24 Tryz.sizeOf5 rfl (PT.ptr q1) rfl dR) rfl ?_
 have tV:=PT_idxA q1 dR
 refine EL_do .plain rfl (D_load (g:=cV) Tryz.isAgg5 Tryz.sizeOf5 rfl tV fun v29 uV=>?_)
 obtain rfl:=RV_u8.1 uV
 refine EL_p (.int .u16 (UInt16.toNat (((dL).toUInt16)))) (P_u8u16 Tryz.underlying5 Tryz.underlying42 rfl) rfl ?_
 refine EL_p (.int .u16 (UInt16.toNat ((((dL).toUInt16) * (3:UInt16))))) (P_mul16 rfl rfl) rfl ?_
 obtain ⟨tF,gV,h⟩:=bsome h
 refine EL_do .plain rfl (D_call (g:=cV) (vs:=[v4,.int .u16 (UInt16.toNat ((((dL).toUInt16) * (3:UInt16))))]) en7 (.cons rfl (.cons rfl .nil)) (wk7 cF gV) fun dV uZ v30 hs hr=>?_)
 have hfr:=hfr.ext hs
 have cF:=cF.ext hs
 have b25:=b25.ext hs
 have b26:=b26.ext hs
 obtain ⟨aH,eX,rfl,yK,rfl⟩:=hr
 refine EL_mw (.tuple #[aH,.bool (tF.2)]) rfl rfl ?_
 refine EL_p aH (P_extract rfl rfl) rfl ?_
 refine EL_p (.bool (tF.2)) (P_extract rfl rfl) rfl ?_
 refine EL_at aH rfl rfl ?_
 refine EL_at (.bool (tF.2)) rfl rfl ?_
 refine EL_nil (thn_n (E_seq (E_region (EL_do .plain rfl (D_loadO (g:=dV) Tryz.isAgg31 Tryz.sizeOf31 rfl b25 fun vV xV=>?_)))))
 obtain ⟨aV,iV,h⟩:=bsome h
 refine EL_do .plain rfl (D_call (g:=dV) (vs:=[vV]) en9 (.cons rfl .nil) (wk9 xV iV) fun yV vZ zV hs hr=>?_)
 have hfr:=hfr.ext hs
 have cF:=cF.ext hs
 have b26:=b26.ext hs
 have yK:=yK.ext hs
 have aW:=hr
 refine EL_mw aH rfl rfl ?_
 obtain ⟨nD,jV,h⟩:=bsome h
 refine EL_do .plain rfl (D_call (g:=yV) (vs:=[zV,aH]) en8 (.cons rfl (.cons rfl .nil)) (wk8 aW yK jV) fun eR xZ v35 hs hr=>?_)
 have hfr:=hfr.ext hs
 have cF:=cF.ext hs
 have b26:=b26.ext hs
 obtain ⟨uC,gX,iX,rfl,uH,rfl,rfl⟩:=hr
 refine EL_mw (.tuple #[uC,.int .i64 (nD.2.1),.int .i64 (nD.2.2)]) rfl rfl ?_
 refine EL_p uC (P_extract rfl rfl) rfl ?_
 refine EL_p (.int .i64 (nD.2.1)) (P_extract rfl rfl) rfl ?_
 refine EL_p (.int .i64 (nD.2.2)) (P_extract rfl rfl) rfl ?_
 refine EL_at uC rfl rfl ?_
 refine EL_at (.int .i64 (nD.2.1)) rfl rfl ?_
 refine EL_at (.int .i64 (nD.2.2)) rfl rfl ?_
 refine EL_nil (thn_n (E_joinC h (fun (s:Unit) e w=>∃ (g:Gh) ,Fr gI wI g w∧e 8=v4∧RV g.m w (y5:List BookCloth) v4∧e 9=cD∧OB 2009 g w 37 (y8:BeamTake) cD∧e 12=uC∧RV g.m w (nD.1:List (List Str)) uC) (fun X43 bV kV h=>?_) ?_))
 ·obtain ⟨uF, hx, h⟩ := bsome h
  refine E_join (fun e w=>∃ (g:Gh) ,Fr gI wI g w∧e 8=v4∧RV g.m w (y5:List BookCloth) v4∧e 9=cD∧OB 2009 g w 37 (y8:BeamTake) cD∧e 12=uC∧RV g.m w (nD.1:List (List Str)) uC∧e 63=.bool (uF)) (fun Q' hQ=>?_) (fun yZ w48 hR=>?_)
  ·replace h := hx
   clear hx
   refine E_region (EL_mw (.bool (tF.2)) rfl rfl ?_)
   refine EL_p (.bool (!tF.2)) (P_not rfl) rfl ?_
   refine EL_mw (.bool (!tF.2)) rfl rfl ?_
   rcases csome h with ⟨mG,h⟩ | ⟨mG,h⟩
   ·refine EL_s rfl rfl mG rfl rfl ?_
    refine EL_s rfl rfl mG rfl rfl ?_
    refine EL_p (.bool true) (P_pick (b:=(!tF.2)) rfl (pick_t mG rfl)) rfl ?_
    refine EL_dead 5 rfl ?_
    refine EL_nil ?_
    obtain rfl:=sinj h
    exact hQ _ _ ⟨eR,hfr,rfl,cF,rfl,b26,rfl,uH,rfl⟩
   ·refine EL_y (.int .i64 (nD.2.2)) (P_move rfl) rfl rfl mG rfl ?_
    refine EL_y (.bool ((nD.2.2 != (0:Int)))) (P_int rfl rfl rfl) rfl rfl mG rfl ?_
    refine EL_p (.bool ((nD.2.2 != (0:Int)))) (P_pick (b:=(!tF.2)) rfl (pick_f mG rfl)) rfl ?_
    refine EL_mw (.bool ((nD.2.2 != (0:Int)))) rfl rfl ?_
    rcases csome h with ⟨rF,h⟩ | ⟨rF,h⟩
    ·refine EL_s rfl rfl rF rfl rfl ?_
     refine EL_s rfl rfl rF rfl rfl ?_
     refine EL_s rfl rfl rF rfl rfl ?_
     refine EL_p (.bool true) (P_pick (b:=(nD.2.2 != (0:Int))) rfl (pick_t rF rfl)) rfl ?_
     refine EL_nil ?_
     obtain rfl:=sinj h
     exact hQ _ _ ⟨eR,hfr,rfl,cF,rfl,b26,rfl,uH,rfl⟩
    ·refine EL_y uC (P_move rfl) rfl rfl rF rfl ?_
     refine EL_y (.int .i64 ((nD.1).length:Int)) (P_len Tryz.underlying43 rfl uH) rfl rfl rF rfl ?_
     refine EL_y (.bool ((((nD.1).length:Int) != (16:Int)))) (P_int rfl rfl rfl) rfl rfl rF rfl ?_
     refine EL_p (.bool ((((nD.1).length:Int) != (16:Int)))) (P_pick (b:=(nD.2.2 != (0:Int))) rfl (pick_f rF rfl)) rfl ?_
     refine EL_nil ?_
     obtain rfl:=sinj h
     exact hQ _ _ ⟨eR,hfr,rfl,cF,rfl,b26,rfl,uH,rfl⟩
  ·clear hx
   obtain ⟨bW,hfr,qS,rS,sS,tS,gR,iR,eL⟩:=hR
   rcases csome h with ⟨nL,h⟩ | ⟨nL,h⟩
   ·refine E_cond_true (Eq.trans (show ev _ _ = .bool (uF) from eL) (congrArg Value.bool nL)) ?_
    refine E_seq (E_region (EL_at (.bool false) rfl rfl ?_))
    refine EL_nil (thn_n (E_ret (thn_r ?_)))
    obtain rfl:=sinj h
    exact end1 rfl rfl (show _=.bool false from rfl) ⟨_,hfr,rfl⟩
   ·refine E_cond_false (Eq.trans (show ev _ _ = .bool (uF) from eL) (congrArg Value.bool nL)) ?_
    exact E_skip (thn_n (kV () _ _ ⟨bW,hfr,qS,rS,sS,tS,gR,iR⟩ h))
 ·rintro _ zZ w50 ⟨eV, hfr, uS, zK, yO, xH, jR, yH⟩ h
  refine E_seq (E_region (EL_do .plain rfl (D_loadO (g:=eV) Tryz.isAgg37 Tryz.sizeOf37 yO xH fun cW dW=>?_)))
  obtain ⟨zB,lV,h⟩:=bsome h
  refine EL_do .plain rfl (D_call (g:=eV) (vs:=[cW]) en10 (.cons rfl .nil) (wk10 dW lV) fun eW a00 v52 hs hr=>?_)
  have hfr:=hfr.ext hs
  have zK:=zK.ext hs
  have xH:=xH.ext hs
  have yH:=yH.ext hs
  obtain ⟨jX,kX,rfl,rfl,rfl⟩:=hr
  refine EL_mw (.tuple #[.int .i64 (zB.1),.int .i64 (zB.2)]) rfl rfl ?_
  refine EL_p (.int .i64 (zB.1)) (P_extract rfl rfl) rfl ?_
  refine EL_p (.int .i64 (zB.2)) (P_extract rfl rfl) rfl ?_
  refine EL_at (.int .i64 (zB.1)) rfl rfl ?_
  refine EL_at (.int .i64 (zB.2)) rfl rfl ?_
  refine EL_nil (thn_n (E_seq (E_region ?_)))
  iterate 3 refine EL_at (.int .i64 (0)) rfl rfl ?_
  refine EL_nil (thn_n (E_joinC h (fun (s:Int × Int × Int) e w=>∃ (g:Gh) ,Fr gI wI g w∧e 8=v4∧RV g.m w (y5:List BookCloth) v4∧e 9=cD∧OB 2009 g w 37 (y8:BeamTake) cD∧e 17=.int .i64 (s.1)∧e 18=.int .i64 (s.2.1)∧e 19=.int .i64 (s.2.2)) (fun X3645 rO lR h=>?_) ?_))
  ·refine E_seq (E_region (EL_at (.int .i64 (0)) rfl rfl ?_))
   refine EL_nil (thn_n (E_block ?_))
   refine E_lp h (fun (s:Int × Int × Int × Int) e w=>∃ (g:Gh) ,Fr gI wI g w∧e 8=v4∧RV g.m w (y5:List BookCloth) v4∧e 9=cD∧OB 2009 g w 37 (y8:BeamTake) cD∧e 12=uC∧RV g.m w (nD.1:List (List Str)) uC∧e 15=.int .i64 (zB.1)∧e 16=.int .i64 (zB.2)∧e 17=.int .i64 (s.1)∧e 18=.int .i64 (s.2.1)∧e 19=.int .i64 (s.2.2.1)∧e 20=.int .i64 (s.2.2.2)) ⟨eW,hfr,uS,zK,yO,xH,jR,yH,rfl,rfl,rfl,rfl,rfl,rfl⟩ (fun X3646 sO mR=>?_)
   rintro ⟨mB,nB,oB,vB⟩ gW lX ⟨zO,hfr,bK,cK,dK,lK,oL,xL,yL,zL,zH,aI,bI,dI⟩ h
   refine E_joinC h (fun (s:Unit) e w=>∃ (g:Gh) ,Fr gI wI g w∧e 8=v4∧RV g.m w (y5:List BookCloth) v4∧e 9=cD∧OB 2009 g w 37 (y8:BeamTake) cD∧e 12=uC∧RV g.m w (nD.1:List (List Str)) uC∧e 15=.int .i64 (zB.1)∧e 16=.int .i64 (zB.2)∧e 17=.int .i64 (mB)∧e 18=.int .i64 (nB)∧e 19=.int .i64 (oB)∧e 20=.int .i64 (vB)) (fun X3649 xO nR h=>?_) ?_
   ·refine E_seq (E_region (EL_mv dI rfl ?_))
    refine EL_in (.bool ((decide (vB < (3:Int))))) rfl rfl rfl rfl ?_
    refine EL_nil (thn_n ?_)
    rcases csome h with ⟨iI,h⟩ | ⟨iI,h⟩
    ·refine E_ct iI rfl ?_
     exact E_skip (thn_n (nR () _ _ ⟨zO,hfr,bK,cK,dK,lK,oL,xL,yL,zL,zH,aI,bI,dI⟩ h))
    ·refine E_cf iI rfl ?_
     refine E_exit ?_
     refine thn_e ?_
     refine thn_e ?_
     refine blk_hit ?_
     exact thn_n (lR (mB,nB,oB) _ _ ⟨zO,hfr,bK,cK,dK,lK,zH,aI,bI⟩ h)
   ·rintro _ iW mX ⟨aL, hfr, mK, nK, oK, pK, sG, sF, jI, kI, lI, mI, nI, xG⟩ h
    refine E_joinC h (fun (s:Int × Int × Int) e w=>∃ (g:Gh) ,Fr gI wI g w∧e 8=v4∧RV g.m w (y5:List BookCloth) v4∧e 9=cD∧OB 2009 g w 37 (y8:BeamTake) cD∧e 12=uC∧RV g.m w (nD.1:List (List Str)) uC∧e 15=.int .i64 (zB.1)∧e 16=.int .i64 (zB.2)∧e 17=.int .i64 (s.1)∧e 18=.int .i64 (s.2.1)∧e 19=.int .i64 (s.2.2)∧e 20=.int .i64 (vB)) (fun X5443 xK gL h=>?_) ?_
    ·refine E_block ?_
     refine E_seq (E_region (EL_mv sG rfl ?_))
     refine EL_mv xG rfl ?_
     obtain ⟨l5,iL,h⟩:=bsome h
     refine EL_p (ePtr uC vB 1) (P_indexAddr (α:=List Str) Tryz.underlying43 Tryz.sizeOf54 rfl sF rfl iL) rfl ?_
     have vS:=PT_idx sF iL
     refine EL_do .plain rfl (D_load (g:=aL) Tryz.isAgg54 Tryz.sizeOf54 rfl vS fun nX xS=>?_)
     refine EL_p (.int .i64 ((l5).length:Int)) (P_len Tryz.underlying54 rfl xS) rfl ?_
     refine EL_at (.int .i64 ((l5).length:Int)) rfl rfl ?_
     refine EL_nil (thn_n (E_joinC h (fun (s:Unit) e w=>∃ (g:Gh) ,Fr gI wI g w∧e 8=v4∧RV g.m w (y5:List BookCloth) v4∧e 9=cD∧OB 2009 g w 37 (y8:BeamTake) cD∧e 12=uC∧RV g.m w (nD.1:List (List Str)) uC∧e 15=.int .i64 (zB.1)∧e 16=.int .i64 (zB.2)∧e 17=.int .i64 (mB)∧e 18=.int .i64 (nB)∧e 19=.int .i64 (oB)∧e 20=.int .i64 (vB)∧e 21=.int .i64 (((l5).length:Int))) (fun X5448 vO oR h=>?_) ?_))
     ·refine E_seq (E_region (EL_mw (.int .i64 ((l5).length : Int)) rfl rfl ?_))
      refine EL_in (.bool ((((l5).length:Int) == (0:Int)))) rfl rfl rfl rfl ?_
      refine EL_nil (thn_n ?_)
      rcases csome h with ⟨pI,h⟩ | ⟨pI,h⟩
      ·refine E_ct pI rfl ?_
       refine E_exit ?_
       refine thn_e ?_
       refine blk_hit ?_
       exact thn_n (gL (mB,nB,oB) _ _ ⟨aL,hfr,mK,nK,oK,pK,sG,sF,jI,kI,lI,mI,nI,xG⟩ h)
      ·refine E_cf pI rfl ?_
       exact E_skip (thn_n (oR () _ _ ⟨aL,hfr,mK,nK,oK,pK,sG,sF,jI,kI,lI,mI,nI,xG,rfl⟩ h))
     ·rintro _ jW oX ⟨aP, hfr, yE, g8, bE, i6, mE, t5, oD, lD, oE, rE, uE, vE, v8⟩ h
      refine E_seq (E_region (EL_do .plain rfl (D_loadO (g:=aP) Tryz.isAgg37 Tryz.sizeOf37 bE i6 fun yS zS=>?_)))
      obtain ⟨tO,pR,h⟩:=bsome h
      refine EL_do .plain rfl (D_call (g:=aP) (vs:=[yS]) en12 (.cons rfl .nil) (wk12 zS pR) fun bP qR eT hs hr=>?_)
      have hfr:=hfr.ext hs
      have g8:=g8.ext hs
      have i6:=i6.ext hs
      have t5:=t5.ext hs
      have lT:=hr
      have cP:RV bP.m qR (⟨0,0⟩:Span) (.agg (setCh [[.int .i64 0],[.int .i64 0]] []).flatten.toArray):=RV_build rfl (rep_pair (rep_int) (rep_last (rep_int)))
      generalize rR:(Value.agg (setCh [[.int .i64 0],[.int .i64 0]] []).flatten.toArray)=dP at cP
      refine EL_p dP (rR ▸ P_build (vs:=[]) [[.int .i64 0],[.int .i64 0]] lay_56 rfl rfl .nil trivial) rfl ?_
      refine EL_mv v8 rfl ?_
      obtain ⟨o0,tR,h⟩:=bsome h
      refine EL_do .plain rfl (D_call (g:=bP) (vs:=[eT,dP,.int .i64 (((l5).length:Int))]) en11 (.cons rfl (.cons rfl (.cons rfl .nil))) (wk11 lT cP tR) fun mT kW pX hs hr=>?_)
      have hfr:=hfr.ext hs
      have g8:=g8.ext hs
      have i6:=i6.ext hs
      have t5:=t5.ext hs
      obtain ⟨cH,mV,rfl,gH,rfl⟩:=hr
      refine EL_mw (.tuple #[cH,.int .i64 (o0.2)]) rfl rfl ?_
      refine EL_p cH (P_extract rfl rfl) rfl ?_
      refine EL_p (.int .i64 (o0.2)) (P_extract rfl rfl) rfl ?_
      refine EL_do .plain rfl (D_allocOc (g:=mT) 2022 (⟨0,0⟩:Span) Tryz.zeroValue56 (fun m w=>⟨_,(rep_two rep_int rep_int),rfl⟩) fun nT qX zD hs b5457 cb=>?_)
      have hfr:=hfr.stp hs
      have g8:=g8.stp hs
      have i6:=i6.stp hs rfl
      have t5:=t5.stp hs
      have gH:=gH.stp hs
      clear cb
      refine EL_do .plain rfl (D_storeOc (g:=nT) (v:=cH) Tryz.sizeOf56 rfl b5457 rfl gH fun oT rX hs b5458 cb=>?_)
      clear cb
      have hfr:=hfr.stp hs
      have g8:=g8.stp hs
      have i6:=i6.stp hs rfl
      have t5:=t5.stp hs
      refine EL_at (.int .i64 (o0.2)) rfl rfl ?_
      refine EL_nil (thn_n (E_seq (L_loadO0 (x:=.tmp 9) Tryz.isAgg37 Tryz.sizeOf37 i6 fun eP pT uR=>?_)))
      obtain ⟨eG,vR,h⟩:=bsome h
      obtain ⟨tH,xR,h⟩:=bsome h
      obtain ⟨l8,yR,h⟩:=bsome h
      refine E_drawL (g:=oT) (n:=16) [(1,(fun v g w=>RV g.m w eG v)),(10,(fun v g w=>∃ y0 y1:Value,v=.tuple #[y0,y1]∧y0=.int .i64 (l8.1)∧y1=.int .i64 (l8.2)))] [0,1,2,3,4,5,6,7,8,9,10,11,12,13,14,15] rfl mixed (by kernel_rfl) (⟨fun _=>up_rv,fun _=>(up_ex fun _=>(up_ex fun _=>(up_and (up_eq _) (up_and (up_eq _) (up_eq _))))),trivial⟩) ?_
      refine L_ld (c:=eP) rfl rfl .plain (fun _ _ h=>⟨h.ch,fun b hb _=>h.below.block b hb⟩) uR bE ?_
      refine L_do (φ:=fun v g w=>RV g.m w eG v) rfl rfl .plain (fun g w hd=>D_call (g:=g) (vs:=[eP]) en12 (.cons rfl .nil) (wk12 (pT.ext hd.1) vR) fun g' w' v hs hr=>⟨g',hs,hr⟩) (fun bL hv=>?_)
      obtain ⟨_,_,_,rq5460⟩:=hv
      refine L_p (.int .i64 (((l5).length:Int))) rfl rfl (P_move v8) ?_
      refine L_p (.int .i64 (zB.1)) rfl rfl (P_move oD) ?_
      refine L_p (.int .i64 ((w64 (((l5).length:Int) * zB.1)))) rfl rfl (P_int rfl rfl rfl) ?_
      refine L_p (.int .i64 (zB.2)) rfl rfl (P_move lD) ?_
      refine L_p (.int .i64 ((w64 ((w64 (((l5).length:Int) * zB.1)) + zB.2)))) rfl rfl (P_int rfl rfl rfl) ?_
      refine L_p (.int .i64 ((w64 ((w64 ((w64 (((l5).length:Int) * zB.1)) + zB.2)) - (1:Int))))) rfl rfl (P_int rfl rfl rfl) ?_
      refine L_p (.int .i64 (zB.2)) rfl rfl (P_move lD) ?_
      refine L_p (.int .i64 (tH)) rfl rfl (P_int rfl rfl (congrArg (Option.map (Value.int .i64)) xR)) ?_
      refine L_do (φ:=fun v g w=>∃ y0 y1:Value,v=.tuple #[y0,y1]∧y0=.int .i64 (l8.1)∧y1=.int .i64 (l8.2)) rfl rfl .plain (fun g w hd=>D_call (g:=g) (vs:=[bL,.int .i64 (tH)]) en13 (.cons rfl (.cons rfl .nil)) (wk13 (word (A:=fun g w=>RV g.m w eG bL) 1 rfl rfl (deps_of hd)) yR) fun g' w' v hs hr=>⟨g',hs,hr⟩) (fun sX hv=>?_)
      obtain ⟨_,_,_,_,_,rfl,rfl,rfl⟩:=hv
      refine L_p (.tuple #[.int .i64 (l8.1),.int .i64 (l8.2)]) rfl rfl (P_move rfl) ?_
      refine L_p (.int .i64 (l8.1)) rfl rfl (P_extract rfl rfl) ?_
      refine L_p (.int .i64 (l8.2)) rfl rfl (P_extract rfl rfl) ?_
      refine L_p (.int .i64 (l8.1)) rfl rfl (P_assign rfl) ?_
      refine L_p (.int .i64 (l8.2)) rfl rfl (P_assign rfl) ?_
      refine L_nil fun gG tX hall=>?_
      have hs:=hall.1
      have hfr:=hfr.ext hs
      have g8:=g8.ext hs
      have i6:=i6.ext hs
      have t5:=t5.ext hs
      have b5458:=b5458.ext hs
      have uX:=(word_all (A:=fun g w=>RV g.m w eG bL) 1 rfl hall)
      clear hs hall
      refine EL_nil (thn_n (E_joinC h (fun (s:Unit) e w=>∃ (g:Gh) ,Fr gI wI g w∧e 8=v4∧RV g.m w (y5:List BookCloth) v4∧e 9=cD∧OB 2009 g w 37 (y8:BeamTake) cD∧e 12=uC∧RV g.m w (nD.1:List (List Str)) uC∧e 15=.int .i64 (zB.1)∧e 16=.int .i64 (zB.2)∧e 17=.int .i64 (mB)∧e 18=.int .i64 (nB)∧e 19=.int .i64 (oB)∧e 20=.int .i64 (vB)∧e 21=.int .i64 (((l5).length:Int))∧e 22=zD∧OB 2022 g w 56 (o0.1:Span) zD) (fun X6356 uO zR h=>?_) ?_))
      ·obtain ⟨xE, hx, h⟩ := bsome h
       refine E_join (fun e w=>∃ (g:Gh) ,Fr gI wI g w∧e 8=v4∧RV g.m w (y5:List BookCloth) v4∧e 9=cD∧OB 2009 g w 37 (y8:BeamTake) cD∧e 12=uC∧RV g.m w (nD.1:List (List Str)) uC∧e 15=.int .i64 (zB.1)∧e 16=.int .i64 (zB.2)∧e 17=.int .i64 (mB)∧e 18=.int .i64 (nB)∧e 19=.int .i64 (oB)∧e 20=.int .i64 (vB)∧e 21=.int .i64 (((l5).length:Int))∧e 22=zD∧OB 2022 g w 56 (o0.1:Span) zD∧e 133=.bool (xE)) (fun Q' hQ=>?_) (fun lW vX hR=>?_)
       ·replace h := hx
        clear hx
        rcases csome h with ⟨yB,h⟩ | ⟨yB,h⟩
        ·refine E_drawL (g := gG) (n := 32) [] [0, 1, 2, 3, 4, 5, 6, 7, 8, 9, 10, 11, 12, 13, 14, 15, 16, 17, 18, 19, 20, 21, 22, 23, 24, 25, 26, 27, 28, 29, 30, 31] rfl mixed (by kernel_rfl) trivial ?_
         refine L_p (.int .i64 (((l5).length:Int))) rfl rfl (P_move v8) ?_
         refine L_p (.bool ((decide (((l5).length:Int) > (1000:Int))))) rfl rfl (P_int rfl rfl rfl) ?_
         refine L_p (.bool ((decide (((l5).length:Int) > (1000:Int))))) rfl rfl (P_move rfl) ?_
         refine L_s rfl rfl rfl yB rfl ?_
         refine L_s rfl rfl rfl yB rfl ?_
         refine L_p (.bool true) rfl rfl (P_pick (b:=(decide (((l5).length:Int) > (1000:Int)))) rfl (pick_t yB rfl)) ?_
         refine L_dead (fun _=>rfl) 26 rfl ?_
         refine L_nl fun sT xX hs=>?_
         have hfr:=hfr.ext hs
         have g8:=g8.ext hs
         have i6:=i6.ext hs
         have t5:=t5.ext hs
         have b5458:=b5458.ext hs
         clear hs
         refine EL_nil ?_
         obtain rfl:=sinj h
         exact hQ _ _ ⟨sT,hfr,yE,g8,bE,i6,mE,t5,oD,lD,oE,rE,uE,vE,v8,rfl,b5458,rfl⟩
        ·rcases csome h with ⟨bD, h⟩ | ⟨bD, h⟩
         ·refine E_drawL (g := gG) (n := 32) [] [0, 1, 2, 3, 4, 5, 6, 7, 8, 9, 10, 11, 12, 13, 14, 15, 16, 17, 18, 19, 20, 21, 22, 23, 24, 25, 26, 27, 28, 29, 30, 31] rfl mixed (by kernel_rfl) trivial ?_
          refine L_p (.int .i64 (((l5).length:Int))) rfl rfl (P_move v8) ?_
          refine L_p (.bool ((decide (((l5).length:Int) > (1000:Int))))) rfl rfl (P_int rfl rfl rfl) ?_
          refine L_p (.bool ((decide (((l5).length:Int) > (1000:Int))))) rfl rfl (P_move rfl) ?_
          refine L_y (.int .i64 (o0.2)) rfl rfl rfl rfl yB (P_move rfl) ?_
          refine L_y (.bool ((o0.2 != (0:Int)))) rfl rfl rfl rfl yB (P_int rfl rfl rfl) ?_
          refine L_p (.bool ((o0.2 != (0:Int)))) rfl rfl (P_pick (b:=(decide (((l5).length:Int) > (1000:Int)))) rfl (pick_f yB rfl)) ?_
          refine L_p (.bool ((o0.2 != (0:Int)))) rfl rfl (P_move rfl) ?_
          refine L_s rfl rfl rfl bD rfl ?_
          refine L_s rfl rfl rfl bD rfl ?_
          refine L_p (.bool true) rfl rfl (P_pick (b:=(o0.2 != (0:Int))) rfl (pick_t bD rfl)) ?_
          refine L_dead (fun _=>rfl) 22 rfl ?_
          refine L_nl fun tT yX hs=>?_
          have hfr:=hfr.ext hs
          have g8:=g8.ext hs
          have i6:=i6.ext hs
          have t5:=t5.ext hs
          have b5458:=b5458.ext hs
          clear hs
          refine EL_nil ?_
          obtain rfl:=sinj h
          exact hQ _ _ ⟨tT,hfr,yE,g8,bE,i6,mE,t5,oD,lD,oE,rE,uE,vE,v8,rfl,b5458,rfl⟩
         ·rcases csome h with ⟨l9, h⟩ | ⟨l9, h⟩
          ·refine E_drawL (g := gG) (n := 32) [] [0, 1, 2, 3, 4, 5, 6, 7, 8, 9, 10, 11, 12, 13, 14, 15, 16, 17, 18, 19, 20, 21, 22, 23, 24, 25, 26, 27, 28, 29, 30, 31] rfl mixed (by kernel_rfl) trivial ?_
           refine L_p (.int .i64 (((l5).length:Int))) rfl rfl (P_move v8) ?_
           refine L_p (.bool ((decide (((l5).length:Int) > (1000:Int))))) rfl rfl (P_int rfl rfl rfl) ?_
           refine L_p (.bool ((decide (((l5).length:Int) > (1000:Int))))) rfl rfl (P_move rfl) ?_
           refine L_y (.int .i64 (o0.2)) rfl rfl rfl rfl yB (P_move rfl) ?_
           refine L_y (.bool ((o0.2 != (0:Int)))) rfl rfl rfl rfl yB (P_int rfl rfl rfl) ?_
           refine L_p (.bool ((o0.2 != (0:Int)))) rfl rfl (P_pick (b:=(decide (((l5).length:Int) > (1000:Int)))) rfl (pick_f yB rfl)) ?_
           refine L_p (.bool ((o0.2 != (0:Int)))) rfl rfl (P_move rfl) ?_
           refine L_y (.int .i64 (l8.2)) rfl rfl rfl rfl bD (P_move rfl) ?_
           refine L_y (.bool ((l8.2 != (0:Int)))) rfl rfl rfl rfl bD (P_int rfl rfl rfl) ?_
           refine L_p (.bool ((l8.2 != (0:Int)))) rfl rfl (P_pick (b:=(o0.2 != (0:Int))) rfl (pick_f bD rfl)) ?_
           refine L_p (.bool ((l8.2 != (0:Int)))) rfl rfl (P_move rfl) ?_
           iterate 5 refine L_s rfl rfl rfl l9 rfl ?_
           refine L_p (.bool true) rfl rfl (P_pick (b:=(l8.2 != (0:Int))) rfl (pick_t l9 rfl)) ?_
           refine L_dead (fun _=>rfl) 15 rfl ?_
           refine L_nl fun uT zX hs=>?_
           have hfr:=hfr.ext hs
           have g8:=g8.ext hs
           have i6:=i6.ext hs
           have t5:=t5.ext hs
           have b5458:=b5458.ext hs
           clear hs
           refine EL_nil ?_
           obtain rfl:=sinj h
           exact hQ _ _ ⟨uT,hfr,yE,g8,bE,i6,mE,t5,oD,lD,oE,rE,uE,vE,v8,rfl,b5458,rfl⟩
          ·refine L_loadO (x := .tmp 113) part_Span_0.1 Tryz.isAgg3 Tryz.sizeOf3 b5458 fun aY xT qI => ?_
           obtain rfl:=RV_int.1 xT
           refine L_loadO (x:=.tmp 115) part_Span_1.1 Tryz.isAgg3 Tryz.sizeOf3 b5458 fun bY yT sI=>?_
           obtain rfl:=RV_int.1 yT
           rcases csome h with ⟨n9,h⟩ | ⟨n9,h⟩
           ·refine E_drawL (g := gG) (n := 32) [] [0, 1, 2, 3, 4, 5, 6, 7, 8, 9, 10, 11, 12, 13, 14, 15, 16, 17, 18, 19, 20, 21, 22, 23, 24, 25, 26, 27, 28, 29, 30, 31] rfl mixed (by kernel_rfl) trivial ?_
            refine L_p (.int .i64 (((l5).length:Int))) rfl rfl (P_move v8) ?_
            refine L_p (.bool ((decide (((l5).length:Int) > (1000:Int))))) rfl rfl (P_int rfl rfl rfl) ?_
            refine L_p (.bool ((decide (((l5).length:Int) > (1000:Int))))) rfl rfl (P_move rfl) ?_
            refine L_y (.int .i64 (o0.2)) rfl rfl rfl rfl yB (P_move rfl) ?_
            refine L_y (.bool ((o0.2 != (0:Int)))) rfl rfl rfl rfl yB (P_int rfl rfl rfl) ?_
            refine L_p (.bool ((o0.2 != (0:Int)))) rfl rfl (P_pick (b:=(decide (((l5).length:Int) > (1000:Int)))) rfl (pick_f yB rfl)) ?_
            refine L_p (.bool ((o0.2 != (0:Int)))) rfl rfl (P_move rfl) ?_
            refine L_y (.int .i64 (l8.2)) rfl rfl rfl rfl bD (P_move rfl) ?_
            refine L_y (.bool ((l8.2 != (0:Int)))) rfl rfl rfl rfl bD (P_int rfl rfl rfl) ?_
            refine L_p (.bool ((l8.2 != (0:Int)))) rfl rfl (P_pick (b:=(o0.2 != (0:Int))) rfl (pick_f bD rfl)) ?_
            refine L_p (.bool ((l8.2 != (0:Int)))) rfl rfl (P_move rfl) ?_
            refine L_y (fPtr zD 0) rfl rfl rfl rfl l9 (P_fieldAddr at_56_0 rfl (OB.ptr b5458)) ?_
            refine L_ld (c:=.int .i64 ((o0.1).Low)) rfl rfl (.yes2 rfl rfl l9) (fun _ _ h=>⟨h.ch,fun b hb _=>h.below.block b hb⟩) qI rfl ?_
            refine L_y (fPtr zD 1) rfl rfl rfl rfl l9 (P_fieldAddr at_56_1 rfl (OB.ptr b5458)) ?_
            refine L_ld (c:=.int .i64 ((o0.1).High)) rfl rfl (.yes2 rfl rfl l9) (fun _ _ h=>⟨h.ch,fun b hb _=>h.below.block b hb⟩) sI rfl ?_
            refine L_y (.bool (((o0.1).Low != (o0.1).High))) rfl rfl rfl rfl l9 (P_int rfl rfl rfl) ?_
            refine L_p (.bool (((o0.1).Low != (o0.1).High))) rfl rfl (P_pick (b:=(l8.2 != (0:Int))) rfl (pick_f l9 rfl)) ?_
            refine L_p (.bool (((o0.1).Low != (o0.1).High))) rfl rfl (P_move rfl) ?_
            iterate 8 refine L_s rfl rfl rfl n9 rfl ?_
            refine L_p (.bool true) rfl rfl (P_pick (b:=((o0.1).Low != (o0.1).High)) rfl (pick_t n9 rfl)) ?_
            refine L_dead (fun _=>rfl) 5 rfl ?_
            refine L_nl fun zT cY hs=>?_
            have hfr:=hfr.ext hs
            have g8:=g8.ext hs
            have i6:=i6.ext hs
            have t5:=t5.ext hs
            have b5458:=b5458.ext hs
            clear hs
            refine EL_nil ?_
            obtain rfl:=sinj h
            exact hQ _ _ ⟨zT,hfr,yE,g8,bE,i6,mE,t5,oD,lD,oE,rE,uE,vE,v8,rfl,b5458,rfl⟩
           ·refine L_loadO (x := .tmp 120) part_Span_0.1 Tryz.isAgg3 Tryz.sizeOf3 b5458 fun dY aU jL => ?_
            obtain rfl:=RV_int.1 aU
            obtain ⟨aE,lL,h⟩:=bsome h
            rcases csome h with ⟨zE,h⟩ | ⟨zE,h⟩
            ·refine E_drawL (g := gG) (n := 32) [] [0, 1, 2, 3, 4, 5, 6, 7, 8, 9, 10, 11, 12, 13, 14, 15, 16, 17, 18, 19, 20, 21, 22, 23, 24, 25, 26, 27, 28, 29, 30, 31] rfl mixed (by kernel_rfl) trivial ?_
             refine L_p (.int .i64 (((l5).length:Int))) rfl rfl (P_move v8) ?_
             refine L_p (.bool ((decide (((l5).length:Int) > (1000:Int))))) rfl rfl (P_int rfl rfl rfl) ?_
             refine L_p (.bool ((decide (((l5).length:Int) > (1000:Int))))) rfl rfl (P_move rfl) ?_
             refine L_y (.int .i64 (o0.2)) rfl rfl rfl rfl yB (P_move rfl) ?_
             refine L_y (.bool ((o0.2 != (0:Int)))) rfl rfl rfl rfl yB (P_int rfl rfl rfl) ?_
             refine L_p (.bool ((o0.2 != (0:Int)))) rfl rfl (P_pick (b:=(decide (((l5).length:Int) > (1000:Int)))) rfl (pick_f yB rfl)) ?_
             refine L_p (.bool ((o0.2 != (0:Int)))) rfl rfl (P_move rfl) ?_
             refine L_y (.int .i64 (l8.2)) rfl rfl rfl rfl bD (P_move rfl) ?_
             refine L_y (.bool ((l8.2 != (0:Int)))) rfl rfl rfl rfl bD (P_int rfl rfl rfl) ?_
             refine L_p (.bool ((l8.2 != (0:Int)))) rfl rfl (P_pick (b:=(o0.2 != (0:Int))) rfl (pick_f bD rfl)) ?_
             refine L_p (.bool ((l8.2 != (0:Int)))) rfl rfl (P_move rfl) ?_
             refine L_y (fPtr zD 0) rfl rfl rfl rfl l9 (P_fieldAddr at_56_0 rfl (OB.ptr b5458)) ?_
             refine L_ld (c:=.int .i64 ((o0.1).Low)) rfl rfl (.yes2 rfl rfl l9) (fun _ _ h=>⟨h.ch,fun b hb _=>h.below.block b hb⟩) qI rfl ?_
             refine L_y (fPtr zD 1) rfl rfl rfl rfl l9 (P_fieldAddr at_56_1 rfl (OB.ptr b5458)) ?_
             refine L_ld (c:=.int .i64 ((o0.1).High)) rfl rfl (.yes2 rfl rfl l9) (fun _ _ h=>⟨h.ch,fun b hb _=>h.below.block b hb⟩) sI rfl ?_
             refine L_y (.bool (((o0.1).Low != (o0.1).High))) rfl rfl rfl rfl l9 (P_int rfl rfl rfl) ?_
             refine L_p (.bool (((o0.1).Low != (o0.1).High))) rfl rfl (P_pick (b:=(l8.2 != (0:Int))) rfl (pick_f l9 rfl)) ?_
             refine L_p (.bool (((o0.1).Low != (o0.1).High))) rfl rfl (P_move rfl) ?_
             refine L_y (fPtr zD 0) rfl rfl rfl rfl n9 (P_fieldAddr at_56_0 rfl (OB.ptr b5458)) ?_
             refine L_ld (c:=.int .i64 ((o0.1).Low)) rfl rfl (.yes2 rfl rfl n9) (fun _ _ h=>⟨h.ch,fun b hb _=>h.below.block b hb⟩) jL rfl ?_
             refine L_y (.int .i64 (((l5).length:Int))) rfl rfl rfl rfl n9 (P_move v8) ?_
             refine L_y (.int .i64 (zB.1)) rfl rfl rfl rfl n9 (P_move oD) ?_
             refine L_y (.int .i64 ((w64 (((l5).length:Int) * zB.1)))) rfl rfl rfl rfl n9 (P_int rfl rfl rfl) ?_
             refine L_y (.int .i64 (zB.2)) rfl rfl rfl rfl n9 (P_move lD) ?_
             refine L_y (.int .i64 (aE)) rfl rfl rfl rfl n9 (P_int rfl rfl (congrArg (Option.map (Value.int .i64)) lL)) ?_
             refine L_y (.bool (((o0.1).Low != aE))) rfl rfl rfl rfl n9 (P_int rfl rfl rfl) ?_
             refine L_p (.bool (((o0.1).Low != aE))) rfl rfl (P_pick (b:=((o0.1).Low != (o0.1).High)) rfl (pick_f n9 rfl)) ?_
             refine L_p (.bool (((o0.1).Low != aE))) rfl rfl (P_move rfl) ?_
             iterate 3 refine L_s rfl rfl rfl zE rfl ?_
             refine L_p (.bool true) rfl rfl (P_pick (b:=((o0.1).Low != aE)) rfl (pick_t zE rfl)) ?_
             refine L_nl fun bU eY hs=>?_
             have hfr:=hfr.ext hs
             have g8:=g8.ext hs
             have i6:=i6.ext hs
             have t5:=t5.ext hs
             have b5458:=b5458.ext hs
             clear hs
             refine EL_nil ?_
             obtain rfl:=sinj h
             exact hQ _ _ ⟨bU,hfr,yE,g8,bE,i6,mE,t5,oD,lD,oE,rE,uE,vE,v8,rfl,b5458,rfl⟩
            ·refine E_drawL (g := gG) (n := 32) [] [0, 1, 2, 3, 4, 5, 6, 7, 8, 9, 10, 11, 12, 13, 14, 15, 16, 17, 18, 19, 20, 21, 22, 23, 24, 25, 26, 27, 28, 29, 30, 31] rfl mixed (by kernel_rfl) trivial ?_
             refine L_p (.int .i64 (((l5).length:Int))) rfl rfl (P_move v8) ?_
             refine L_p (.bool ((decide (((l5).length:Int) > (1000:Int))))) rfl rfl (P_int rfl rfl rfl) ?_
             refine L_p (.bool ((decide (((l5).length:Int) > (1000:Int))))) rfl rfl (P_move rfl) ?_
             refine L_y (.int .i64 (o0.2)) rfl rfl rfl rfl yB (P_move rfl) ?_
             refine L_y (.bool ((o0.2 != (0:Int)))) rfl rfl rfl rfl yB (P_int rfl rfl rfl) ?_
             refine L_p (.bool ((o0.2 != (0:Int)))) rfl rfl (P_pick (b:=(decide (((l5).length:Int) > (1000:Int)))) rfl (pick_f yB rfl)) ?_
             refine L_p (.bool ((o0.2 != (0:Int)))) rfl rfl (P_move rfl) ?_
             refine L_y (.int .i64 (l8.2)) rfl rfl rfl rfl bD (P_move rfl) ?_
             refine L_y (.bool ((l8.2 != (0:Int)))) rfl rfl rfl rfl bD (P_int rfl rfl rfl) ?_
             refine L_p (.bool ((l8.2 != (0:Int)))) rfl rfl (P_pick (b:=(o0.2 != (0:Int))) rfl (pick_f bD rfl)) ?_
             refine L_p (.bool ((l8.2 != (0:Int)))) rfl rfl (P_move rfl) ?_
             refine L_y (fPtr zD 0) rfl rfl rfl rfl l9 (P_fieldAddr at_56_0 rfl (OB.ptr b5458)) ?_
             refine L_ld (c:=.int .i64 ((o0.1).Low)) rfl rfl (.yes2 rfl rfl l9) (fun _ _ h=>⟨h.ch,fun b hb _=>h.below.block b hb⟩) qI rfl ?_
             refine L_y (fPtr zD 1) rfl rfl rfl rfl l9 (P_fieldAddr at_56_1 rfl (OB.ptr b5458)) ?_
             refine L_ld (c:=.int .i64 ((o0.1).High)) rfl rfl (.yes2 rfl rfl l9) (fun _ _ h=>⟨h.ch,fun b hb _=>h.below.block b hb⟩) sI rfl ?_
             refine L_y (.bool (((o0.1).Low != (o0.1).High))) rfl rfl rfl rfl l9 (P_int rfl rfl rfl) ?_
             refine L_p (.bool (((o0.1).Low != (o0.1).High))) rfl rfl (P_pick (b:=(l8.2 != (0:Int))) rfl (pick_f l9 rfl)) ?_
             refine L_p (.bool (((o0.1).Low != (o0.1).High))) rfl rfl (P_move rfl) ?_
             refine L_y (fPtr zD 0) rfl rfl rfl rfl n9 (P_fieldAddr at_56_0 rfl (OB.ptr b5458)) ?_
             refine L_ld (c:=.int .i64 ((o0.1).Low)) rfl rfl (.yes2 rfl rfl n9) (fun _ _ h=>⟨h.ch,fun b hb _=>h.below.block b hb⟩) jL rfl ?_
             refine L_y (.int .i64 (((l5).length:Int))) rfl rfl rfl rfl n9 (P_move v8) ?_
             refine L_y (.int .i64 (zB.1)) rfl rfl rfl rfl n9 (P_move oD) ?_
             refine L_y (.int .i64 ((w64 (((l5).length:Int) * zB.1)))) rfl rfl rfl rfl n9 (P_int rfl rfl rfl) ?_
             refine L_y (.int .i64 (zB.2)) rfl rfl rfl rfl n9 (P_move lD) ?_
             refine L_y (.int .i64 (aE)) rfl rfl rfl rfl n9 (P_int rfl rfl (congrArg (Option.map (Value.int .i64)) lL)) ?_
             refine L_y (.bool (((o0.1).Low != aE))) rfl rfl rfl rfl n9 (P_int rfl rfl rfl) ?_
             refine L_p (.bool (((o0.1).Low != aE))) rfl rfl (P_pick (b:=((o0.1).Low != (o0.1).High)) rfl (pick_f n9 rfl)) ?_
             refine L_p (.bool (((o0.1).Low != aE))) rfl rfl (P_move rfl) ?_
             refine L_y (.int .i64 (l8.1)) rfl rfl rfl rfl zE (P_move rfl) ?_
             refine L_y (.int .i64 (((l5).length:Int))) rfl rfl rfl rfl zE (P_move v8) ?_
             refine L_y (.bool ((l8.1 != ((l5).length:Int)))) rfl rfl rfl rfl zE (P_int rfl rfl rfl) ?_
             refine L_p (.bool ((l8.1 != ((l5).length:Int)))) rfl rfl (P_pick (b:=((o0.1).Low != aE)) rfl (pick_f zE rfl)) ?_
             refine L_nl fun cU gY hs=>?_
             have hfr:=hfr.ext hs
             have g8:=g8.ext hs
             have i6:=i6.ext hs
             have t5:=t5.ext hs
             have b5458:=b5458.ext hs
             clear hs
             refine EL_nil ?_
             obtain rfl:=sinj h
             exact hQ _ _ ⟨cU,hfr,yE,g8,bE,i6,mE,t5,oD,lD,oE,rE,uE,vE,v8,rfl,b5458,rfl⟩
       ·clear hx
        obtain ⟨dU,hfr,uP,vP,xP,yP,aM,bM,cM,dM,eM,iM,jM,kM,pM,qM,rM,oH⟩:=hR
        rcases csome h with ⟨jJ,h⟩ | ⟨jJ,h⟩
        ·refine E_cond_true (Eq.trans (show ev _ _ = .bool (xE) from oH) (congrArg Value.bool jJ)) ?_
         refine E_seq (E_region (EL_at (.bool false) rfl rfl ?_))
         refine EL_nil (thn_n (E_ret (thn_r ?_)))
         refine blk_r ?_
         refine thn_r ?_
         refine thn_r ?_
         refine blk_r ?_
         refine thn_r ?_
         obtain rfl:=sinj h
         exact end1 rfl rfl (show _=.bool false from rfl) ⟨_,hfr,rfl⟩
        ·refine E_cond_false (Eq.trans (show ev _ _ = .bool (xE) from oH) (congrArg Value.bool jJ)) ?_
         exact E_skip (thn_n (zR () _ _ ⟨dU,hfr,uP,vP,xP,yP,aM,bM,cM,dM,eM,iM,jM,kM,pM,qM,rM⟩ h))
      ·rintro _ mW iY ⟨eU, hfr, zP, jH, bQ, kH, sM, yG, tM, uM, vM, xM, bN, cN, dN, eN, kJ⟩ h
       refine L_loadO (x:=.tmp 138) part_Span_0.1 Tryz.isAgg3 Tryz.sizeOf3 kJ fun jY gU aS=>?_
       obtain rfl:=RV_int.1 gU
       refine E_drawL (g:=eU) (n:=12) [] [0,1,2,3,4,5,6,7,8,9,10,11] rfl mixed (by kernel_rfl) trivial ?_
       refine L_p (.int .i64 (mB)) rfl rfl (P_move vM) ?_
       refine L_p (.int .i64 (((l5).length:Int))) rfl rfl (P_move dN) ?_
       refine L_p (.int .i64 ((w64 (mB + ((l5).length:Int))))) rfl rfl (P_int rfl rfl rfl) ?_
       refine L_p (.int .i64 (nB)) rfl rfl (P_move xM) ?_
       refine L_p (fPtr zD 0) rfl rfl (P_fieldAddr at_56_0 eN (OB.ptr kJ)) ?_
       refine L_ld (c:=.int .i64 ((o0.1).Low)) rfl rfl .plain (fun _ _ h=>⟨h.ch,fun b hb _=>h.below.block b hb⟩) aS rfl ?_
       refine L_p (.int .i64 ((w64 (nB + (o0.1).Low)))) rfl rfl (P_int rfl rfl rfl) ?_
       refine L_p (.int .i64 (oB)) rfl rfl (P_move bN) ?_
       refine L_p (.int .i64 ((w64 (oB + (1:Int))))) rfl rfl (P_int rfl rfl rfl) ?_
       refine L_p (.int .i64 ((w64 (mB + ((l5).length:Int))))) rfl rfl (P_assign rfl) ?_
       refine L_p (.int .i64 ((w64 (nB + (o0.1).Low)))) rfl rfl (P_assign rfl) ?_
       refine L_p (.int .i64 ((w64 (oB + (1:Int))))) rfl rfl (P_assign rfl) ?_
       refine L_nl fun iU kY hs=>?_
       have hfr:=hfr.ext hs
       have jH:=jH.ext hs
       have kH:=kH.ext hs
       have yG:=yG.ext hs
       clear hs
       exact EL_nil (blk_n (thn_n (gL ((w64 (mB + ((l5).length:Int))),(w64 (nB + (o0.1).Low)),(w64 (oB + (1:Int)))) _ _ ⟨iU,hfr,zP,jH,bQ,kH,sM,yG,tM,uM,rfl,rfl,rfl,cN⟩ h)))
    ·rintro ⟨jG, kG, lG⟩ nW mY ⟨jU, hfr, cQ, dQ, eQ, gQ, gN, iN, jN, kN, lN, mN, nN, oN⟩ h
     refine E_region (EL_mv oN rfl ?_)
     refine EL_in (.int .i64 ((w64 (vB + (1:Int))))) rfl rfl rfl rfl ?_
     refine EL_at (.int .i64 ((w64 (vB + (1:Int))))) rfl rfl ?_
     exact EL_nil (thn_n (mR (jG,kG,lG,(w64 (vB + (1:Int)))) _ _ ⟨jU,hfr,cQ,dQ,eQ,gQ,gN,iN,jN,kN,lN,mN,nN,rfl⟩ h))
  ·rintro ⟨cC, n8, aB⟩ oW nY ⟨kU, hfr, iQ, jQ, kQ, lQ, pN, qN, rN⟩ h
   refine E_seq (E_region (EL_at (.int .i64 (0)) rfl rfl ?_))
   refine EL_nil (thn_n ?_)
   obtain ⟨eF,hx,h⟩:=bsome h
   refine E_join (fun e w=>∃ (g:Gh) ,Fr gI wI g w∧e 9=cD∧OB 2009 g w 37 (y8:BeamTake) cD∧e 17=.int .i64 (cC)∧e 18=.int .i64 (n8)∧e 19=.int .i64 (aB)∧e 26=.int .i64 (eF)) (fun Q' hQ=>?_) (fun pW oY hR=>?_)
   ·replace h := hx
    clear hx
    refine E_seq (E_region (EL_at (.int .i64 (0)) rfl rfl ?_))
    refine EL_nil (thn_n (E_block ?_))
    refine E_lp h (fun (s:Int × Int) e w=>∃ (g:Gh) ,Fr gI wI g w∧e 8=v4∧RV g.m w (y5:List BookCloth) v4∧e 9=cD∧OB 2009 g w 37 (y8:BeamTake) cD∧e 17=.int .i64 (cC)∧e 18=.int .i64 (n8)∧e 19=.int .i64 (aB)∧e 26=.int .i64 (s.1)∧e 27=.int .i64 (s.2)) ⟨kU,hfr,iQ,jQ,kQ,lQ,pN,qN,rN,rfl,rfl⟩ (fun X7252 mO bS=>?_)
    rintro ⟨lE,vC⟩ qW pY ⟨gP,hfr,qK,sK,tK,uK,lJ,mJ,nJ,oJ,pJ⟩ h
    refine E_joinC h (fun (s:Unit) e w=>∃ (g:Gh) ,Fr gI wI g w∧e 8=v4∧RV g.m w (y5:List BookCloth) v4∧e 9=cD∧OB 2009 g w 37 (y8:BeamTake) cD∧e 17=.int .i64 (cC)∧e 18=.int .i64 (n8)∧e 19=.int .i64 (aB)∧e 26=.int .i64 (lE)∧e 27=.int .i64 (vC)) (fun X7255 nO cS h=>?_) ?_
    ·refine E_seq (E_region (EL_mv pJ rfl ?_))
     refine EL_mv qK rfl ?_
     refine EL_p (.int .i64 ((y5).length:Int)) (P_len Tryz.underlying33 rfl sK) rfl ?_
     refine EL_in (.bool ((decide (vC < ((y5).length:Int))))) rfl rfl rfl rfl ?_
     refine EL_nil (thn_n ?_)
     rcases csome h with ⟨qJ,h⟩ | ⟨qJ,h⟩
     ·refine E_ct qJ rfl ?_
      exact E_skip (thn_n (cS () _ _ ⟨gP,hfr,qK,sK,tK,uK,lJ,mJ,nJ,oJ,pJ⟩ h))
     ·refine E_cf qJ rfl ?_
      refine E_exit ?_
      refine thn_e ?_
      refine thn_e ?_
      refine blk_hit ?_
      obtain rfl:=sinj h
      exact hQ _ _ ⟨gP,hfr,tK,uK,lJ,mJ,nJ,oJ⟩
    ·rintro _ sW qY ⟨iP, hfr, vK, lH, mQ, nQ, sN, tN, uN, vN, rJ⟩ h
     obtain ⟨dF,hx,h⟩:=bsome h
     refine E_join (fun e w=>∃ (g:Gh) ,Fr gI wI g w∧e 8=v4∧RV g.m w (y5:List BookCloth) v4∧e 9=cD∧OB 2009 g w 37 (y8:BeamTake) cD∧e 17=.int .i64 (cC)∧e 18=.int .i64 (n8)∧e 19=.int .i64 (aB)∧e 26=.int .i64 (dF)∧e 27=.int .i64 (vC)) (fun Q' hQ=>?_) (fun tW uY hR=>?_)
     ·replace h := hx
      clear hx
      refine E_block ?_
      refine E_region (EL_mv vN rfl ?_)
      refine EL_mv vK rfl ?_
      refine EL_mv rJ rfl ?_
      obtain ⟨pH,mL,h⟩:=bsome h
      refine EL_p (ePtr v4 vC 5) (P_indexAddr (α:=BookCloth) Tryz.underlying33 Tryz.sizeOf63 rfl lH rfl mL) rfl ?_
      have jP:=PT_idx lH mL
      refine EL_p (fPtr (ePtr v4 vC 5) 4) (P_fieldAddr at_63_4 rfl (PT.ptr jP)) rfl ?_
      have lU:=PT_field (part_BookCloth_4).1 jP
      refine EL_do .plain rfl (D_load (g:=iP) Tryz.isAgg3 Tryz.sizeOf3 rfl lU fun vY mU=>?_)
      obtain rfl:=RV_int.1 mU
      refine EL_in (.int .i64 ((w64 (lE + (pH).Picks)))) rfl rfl rfl rfl ?_
      refine EL_at (.int .i64 ((w64 (lE + (pH).Picks)))) rfl rfl ?_
      refine EL_nil (blk_n ?_)
      obtain rfl:=sinj h
      exact hQ _ _ ⟨iP,hfr,vK,lH,mQ,nQ,sN,tN,uN,rfl,rJ⟩
     ·clear hx
      obtain ⟨nU,hfr,oQ,pQ,qQ,rQ,xN,yN,zN,aO,bO⟩:=hR
      refine E_region (EL_mv bO rfl ?_)
      refine EL_in (.int .i64 ((w64 (vC + (1:Int))))) rfl rfl rfl rfl ?_
      refine EL_at (.int .i64 ((w64 (vC + (1:Int))))) rfl rfl ?_
      exact EL_nil (thn_n (bS (dF,(w64 (vC + (1:Int)))) _ _ ⟨nU,hfr,oQ,pQ,qQ,rQ,xN,yN,zN,aO,rfl⟩ h))
   ·clear hx
    obtain ⟨oU,hfr,sQ,tQ,sJ,cO,dO,eO⟩:=hR
    refine E_joinC h (fun (s:Unit) e w=>∃ (g:Gh) ,Fr gI wI g w∧e 9=cD∧OB 2009 g w 37 (y8:BeamTake) cD∧e 17=.int .i64 (cC)∧e 18=.int .i64 (n8)∧e 19=.int .i64 (aB)) (fun X7269 qO dS h=>?_) ?_
    ·refine E_seq (E_region (EL_mv sJ rfl ?_))
     refine EL_mv eO rfl ?_
     refine EL_in (.bool ((cC != eF))) rfl rfl rfl rfl ?_
     refine EL_nil (thn_n ?_)
     rcases csome h with ⟨vJ,h⟩ | ⟨vJ,h⟩
     ·refine E_ct vJ rfl ?_
      refine E_seq (E_region (EL_at (.bool false) rfl rfl ?_))
      refine EL_nil (thn_n (E_ret (thn_r ?_)))
      obtain rfl:=sinj h
      exact end1 rfl rfl (show _=.bool false from rfl) ⟨_,hfr,rfl⟩
     ·refine E_cf vJ rfl ?_
      exact E_skip (thn_n (dS () _ _ ⟨oU,hfr,sQ,tQ,sJ,cO,dO⟩ h))
    ·rintro _ uW xY ⟨kP, hfr, uQ, vQ, xJ, gO, jO⟩ h
     refine E_joinC h (fun (s:Unit) e w=>∃ (g:Gh) ,Fr gI wI g w∧e 9=cD∧OB 2009 g w 37 (y8:BeamTake) cD∧e 17=.int .i64 (cC)∧e 18=.int .i64 (n8)∧e 19=.int .i64 (aB)) (fun X7284 pO eS h=>?_) ?_
     ·refine E_seq (E_region (EL_mv xJ rfl ?_))
      refine EL_in (.bool ((cC == (0:Int)))) rfl rfl rfl rfl ?_
      refine EL_nil (thn_n ?_)
      rcases csome h with ⟨zJ,h⟩ | ⟨zJ,h⟩
      ·refine E_ct zJ rfl ?_
       obtain ⟨cG,hx,h⟩:=bsome h
       refine E_join (fun e w=>∃ (g:Gh) ,Fr gI wI g w∧e 6=.bool (cG)) (fun Q' hQ=>?_) (fun vW yY hR=>?_)
       ·replace h := hx
        clear hx
        refine E_region ?_
        obtain ⟨zG,gS,h⟩:=bsome h
        refine EL_do .plain rfl (D_call (g:=kP) (vs:=[]) en14 .nil (wk14  gS) fun lP xW zY hs hr=>?_)
        have hfr:=hfr.ext hs
        subst hr
        refine EL_mw (.bool (zG)) rfl rfl ?_
        rcases csome h with ⟨vF,h⟩ | ⟨vF,h⟩
        ·obtain ⟨sH, iS, h⟩ := bsome h
         refine EL_do (.yes2 rfl rfl vF) rfl (D_call (g:=lP) (vs:=[]) en15 .nil (wk15 (hTI.ch hfr.ch)  iS) fun pU yW aZ hs hr=>?_)
         have hfr:=hfr.ext hs
         subst hr
         refine EL_p (.bool (sH)) (P_pick (b:=zG) rfl (pick_t vF rfl)) rfl ?_
         refine EL_at (.bool (sH)) rfl rfl ?_
         refine EL_nil ?_
         obtain rfl:=sinj h
         exact hQ _ _ ⟨pU,hfr,rfl⟩
        ·refine EL_s rfl rfl vF rfl rfl ?_
         refine EL_p (.bool false) (P_pick (b:=zG) rfl (pick_f vF rfl)) rfl ?_
         refine EL_at (.bool false) rfl rfl ?_
         refine EL_nil ?_
         obtain rfl:=sinj h
         exact hQ _ _ ⟨lP,hfr,rfl⟩
       ·clear hx
        obtain ⟨bZ,hfr,xQ⟩:=hR
        refine E_ret (thn_r ?_)
        obtain rfl:=sinj h
        exact end1 rfl rfl (show _=.bool (cG) from xQ) ⟨_,hfr,rfl⟩
      ·refine E_cf zJ rfl ?_
       exact E_skip (thn_n (eS () _ _ ⟨kP,hfr,uQ,vQ,xJ,gO,jO⟩ h))
     ·rintro _ zW cZ ⟨mP, hfr, yQ, zQ, kO, aK, lO⟩ h
      refine E_seq (E_region (EL_do .plain rfl (D_loadO (g:=mP) Tryz.isAgg37 Tryz.sizeOf37 yQ zQ fun qU rU=>?_)))
      obtain ⟨oO,jS,h⟩:=bsome h
      refine EL_do .plain rfl (D_call (g:=mP) (vs:=[qU]) en12 (.cons rfl .nil) (wk12 rU jS) fun nP lS sU hs hr=>?_)
      have hfr:=hfr.ext hs
      have tU:=hr
      have oP:RV nP.m lS (⟨0,0⟩:Span) (.agg (setCh [[.int .i64 0],[.int .i64 0]] []).flatten.toArray):=RV_build rfl (rep_pair (rep_int) (rep_last (rep_int)))
      generalize mS:(Value.agg (setCh [[.int .i64 0],[.int .i64 0]] []).flatten.toArray)=pP at oP
      refine EL_p pP (mS ▸ P_build (vs:=[]) [[.int .i64 0],[.int .i64 0]] lay_56 rfl rfl .nil trivial) rfl ?_
      refine EL_mv kO rfl ?_
      obtain ⟨lB,nS,h⟩:=bsome h
      refine EL_do .plain rfl (D_call (g:=nP) (vs:=[sU,pP,.int .i64 (cC)]) en11 (.cons rfl (.cons rfl (.cons rfl .nil))) (wk11 tU oP nS) fun uU aX dZ hs hr=>?_)
      have hfr:=hfr.ext hs
      obtain ⟨mH,nV,rfl,nH,rfl⟩:=hr
      refine EL_mw (.tuple #[mH,.int .i64 (lB.2)]) rfl rfl ?_
      refine EL_p mH (P_extract rfl rfl) rfl ?_
      refine EL_p (.int .i64 (lB.2)) (P_extract rfl rfl) rfl ?_
      refine EL_do .plain rfl (D_allocOc (g:=uU) 2028 (⟨0,0⟩:Span) Tryz.zeroValue56 (fun m w=>⟨_,(rep_two rep_int rep_int),rfl⟩) fun vU mZ sP hs b7304 cb=>?_)
      have hfr:=hfr.stp hs
      have nH:=nH.stp hs
      clear cb
      refine EL_do .plain rfl (D_storeOc (g:=vU) (v:=mH) Tryz.sizeOf56 rfl b7304 rfl nH fun iG nZ hs b7305 cb=>?_)
      clear cb
      have hfr:=hfr.stp hs
      refine EL_at (.int .i64 (lB.2)) rfl rfl ?_
      refine EL_nil (thn_n ?_)
      obtain ⟨bG,hx,h⟩:=bsome h
      refine E_join (fun e w=>∃ (g:Gh) ,Fr gI wI g w∧e 6=.bool (bG)) (fun Q' hQ=>?_) (fun bX oZ hR=>?_)
      ·replace h := hx
       clear hx
       refine E_region (EL_mw (.int .i64 (lB.2)) rfl rfl ?_)
       refine EL_in (.bool ((lB.2 == (0:Int)))) rfl rfl rfl rfl ?_
       refine EL_mw (.bool ((lB.2 == (0:Int)))) rfl rfl ?_
       rcases csome h with ⟨iE,h⟩ | ⟨iE,h⟩
       ·refine EL_y (.int .i64 (n8)) (P_move aK) rfl rfl iE rfl ?_
        refine EL_y (fPtr sP 0) (P_fieldAddr at_56_0 rfl (OB.ptr b7305)) rfl rfl iE rfl ?_
        refine EL_do (.yes2 rfl rfl iE) rfl (D_loadF (g:=iG) part_Span_0.1 Tryz.isAgg3 Tryz.sizeOf3 rfl b7305 fun pZ xU=>?_)
        obtain rfl:=RV_int.1 xU
        refine EL_y (.bool ((decide (n8 ≤ (lB.1).Low)))) (P_int rfl rfl rfl) rfl rfl iE rfl ?_
        refine EL_p (.bool ((decide (n8 ≤ (lB.1).Low)))) (P_pick (b:=(lB.2 == (0:Int))) rfl (pick_t iE rfl)) rfl ?_
        refine EL_mw (.bool ((decide (n8 ≤ (lB.1).Low)))) rfl rfl ?_
        rcases csome h with ⟨yD,h⟩ | ⟨yD,h⟩
        ·refine EL_y (.int .i64 (n8)) (P_move aK) rfl rfl yD rfl ?_
         refine EL_y (fPtr sP 0) (P_fieldAddr at_56_0 rfl (OB.ptr b7305)) rfl rfl yD rfl ?_
         refine EL_do (.yes2 rfl rfl yD) rfl (D_loadF (g:=iG) part_Span_0.1 Tryz.isAgg3 Tryz.sizeOf3 rfl b7305 fun qZ yU=>?_)
         obtain rfl:=RV_int.1 yU
         refine EL_y (.int .i64 (aB)) (P_move lO) rfl rfl yD rfl ?_
         refine EL_y (.int .i64 ((w64 ((lB.1).Low - aB)))) (P_int rfl rfl rfl) rfl rfl yD rfl ?_
         refine EL_y (.bool ((decide (n8 > (w64 ((lB.1).Low - aB)))))) (P_int rfl rfl rfl) rfl rfl yD rfl ?_
         refine EL_p (.bool ((decide (n8 > (w64 ((lB.1).Low - aB)))))) (P_pick (b:=(decide (n8 ≤ (lB.1).Low))) rfl (pick_t yD rfl)) rfl ?_
         refine EL_p (.bool ((decide (n8 > (w64 ((lB.1).Low - aB)))))) (P_move rfl) rfl ?_
         rcases csome h with ⟨xF,h⟩ | ⟨xF,h⟩
         ·obtain ⟨aG, oS, h⟩ := bsome h
          refine EL_do (.yes2 rfl rfl xF) rfl (D_call (g:=iG) (vs:=[]) en14 .nil (wk14  oS) fun tP cX rZ hs hr=>?_)
          have hfr:=hfr.ext hs
          subst hr
          refine EL_p (.bool (aG)) (P_pick (b:=(decide (n8 > (w64 ((lB.1).Low - aB))))) rfl (pick_t xF rfl)) rfl ?_
          refine EL_mw (.bool (aG)) rfl rfl ?_
          rcases csome h with ⟨yF,h⟩ | ⟨yF,h⟩
          ·obtain ⟨qH, pS, h⟩ := bsome h
           refine EL_do (.yes2 rfl rfl yF) rfl (D_call (g:=tP) (vs:=[]) en15 .nil (wk15 (hTI.ch hfr.ch)  pS) fun zU dX sZ hs hr=>?_)
           have hfr:=hfr.ext hs
           subst hr
           refine EL_p (.bool (qH)) (P_pick (b:=aG) rfl (pick_t yF rfl)) rfl ?_
           refine EL_at (.bool (qH)) rfl rfl ?_
           refine EL_nil ?_
           obtain rfl:=sinj h
           exact hQ _ _ ⟨zU,hfr,rfl⟩
          ·refine EL_s rfl rfl yF rfl rfl ?_
           refine EL_p (.bool false) (P_pick (b:=aG) rfl (pick_f yF rfl)) rfl ?_
           refine EL_at (.bool false) rfl rfl ?_
           refine EL_nil ?_
           obtain rfl:=sinj h
           exact hQ _ _ ⟨tP,hfr,rfl⟩
         ·refine EL_s rfl rfl xF rfl rfl ?_
          refine EL_p (.bool false) (P_pick (b:=(decide (n8 > (w64 ((lB.1).Low - aB))))) rfl (pick_f xF rfl)) rfl ?_
          refine EL_dead 3 rfl ?_
          refine EL_at (.bool false) rfl rfl ?_
          refine EL_nil ?_
          obtain rfl:=sinj h
          exact hQ _ _ ⟨iG,hfr,rfl⟩
        ·refine EL_s rfl rfl yD rfl rfl ?_
         iterate 5 refine EL_s rfl rfl yD rfl rfl ?_
         refine EL_p (.bool false) (P_pick (b:=(decide (n8 ≤ (lB.1).Low))) rfl (pick_f yD rfl)) rfl ?_
         refine EL_dead 6 rfl ?_
         refine EL_at (.bool false) rfl rfl ?_
         refine EL_nil ?_
         obtain rfl:=sinj h
         exact hQ _ _ ⟨iG,hfr,rfl⟩
       ·refine EL_s rfl rfl iE rfl rfl ?_
        iterate 3 refine EL_s rfl rfl iE rfl rfl ?_
        refine EL_p (.bool false) (P_pick (b:=(lB.2 == (0:Int))) rfl (pick_f iE rfl)) rfl ?_
        refine EL_dead 14 rfl ?_
        refine EL_at (.bool false) rfl rfl ?_
        refine EL_nil ?_
        obtain rfl:=sinj h
        exact hQ _ _ ⟨iG,hfr,rfl⟩
      ·clear hx
       obtain ⟨tZ,hfr,aR⟩:=hR
       refine E_ret ?_
       obtain rfl:=sinj h
       exact end1 rfl rfl (show _=.bool (bG) from aR) ⟨_,hfr,rfl⟩
end Go.Proofs.YtbelgnbjkciafaaGreatDoor
