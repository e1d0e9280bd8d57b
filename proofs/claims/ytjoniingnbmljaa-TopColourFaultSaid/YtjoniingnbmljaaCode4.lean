import Derived.Test.YtjoniingnbmljaaCode3
set_option maxRecDepth 8000
set_option maxHeartbeats 4000000
namespace Go.Proofs.Ytjoniingnbmljaa
open Go.RowKit
def f3 (x0:Loom) (x1:UInt8):Option (Bool):=
 (f9 x0).bind fun y4=>
 (rem64 ((x1).toNat:Int) ((((y4).Design).Rows).length:Int)).bind fun m7=>
 Option.bind (α:=(List Int)) (
  lp (σ:=(List Int) × Int) (fun mX (zG,rA)=>
   jn (σ:=Unit) (fun _=>
    Option.bind (α:=(List Int)) (
     (idx (((y4).Design).Rows) rA).bind fun nX=>
     (rem64 nX (3:Int)).bind fun y98=>
     (apnd 8 zG (([y98]:List Int))).bind fun bP=>
     some (bP)
     ) fun xF=>
    mX (xF,(w64 (rA + (1:Int))))
    ) fun oX=>
   bif (decide (rA < ((((y4).Design).Rows).length : Int))) then
    oX ()
   else
    some (zG)
   ) big (([]:List Int),(0:Int))
  ) fun g8=>
 (f11 g8).bind fun iG=>
 (f10 ((⟨([(3:Int),(3:Int)]:List Int),([(0:Int),(0:Int)]:List Int),([(⟨(0:Int),0,0,(⟨(99:Int),(99:Int)⟩:Span)⟩:Zw),(⟨(1:Int),0,(1:Int),(⟨(99:Int),(99:Int)⟩:Span)⟩:Zw),(⟨(2:Int),(1:Int),(2:Int),(⟨(99:Int),(99:Int)⟩:Span)⟩:Zw)]:List Zw)⟩:BoxLoom)) iG).bind fun l5=>
 jn (σ:=Unit) (fun _=>
  (f12 ((⟨([(3:Int),(3:Int)]:List Int),([(0:Int),(0:Int)]:List Int),([(⟨(0:Int),0,0,(⟨(99:Int),(99:Int)⟩:Span)⟩:Zw),(⟨(1:Int),0,(1:Int),(⟨(99:Int),(99:Int)⟩:Span)⟩:Zw),(⟨(2:Int),(1:Int),(2:Int),(⟨(99:Int),(99:Int)⟩:Span)⟩:Zw)]:List Zw)⟩:BoxLoom)) ((l5.1:List BoxPick))).bind fun y140=>
  jn (σ:=Unit) (fun _=>
   Option.bind (α:=(Vector Int 3)) (
    lp (σ:=(Vector Int 3) × Int) (fun cP (rC,d9)=>
     jn (σ:=Unit) (fun _=>
      Option.bind (α:=(Vector Int 3)) (
       (idx g8 d9).bind fun jG=>
       (idx (rC).toList jG).bind fun pL=>
       (idx (rC).toList jG).bind fun dY=>
       some ((vset rC jG ((w64 (pL + (1:Int))))))
       ) fun xE=>
      cP (xE,(w64 (d9 + (1:Int))))
      ) fun dP=>
     bif (decide (d9 < ((((y4).Design).Rows).length : Int))) then
      dP ()
     else
      some (rC)
     ) big ((⟨List.toArray [0,0,0],rfl⟩:Vector Int 3),(0:Int))
    ) fun uC=>
   jn (σ:=Unit) (fun _=>
    (f15 y4).bind fun eP=>
    (f14 eP (([(⟨(4:Int),m7,0,0,false⟩:Zv)]:List Zv)) (((((y4).Design).Rows).length:Int))).bind fun t5=>
    (f15 y4).bind fun gP=>
    (f14 gP ([]) (((((y4).Design).Rows).length:Int))).bind fun x5=>
    jn (σ:=Unit) (fun _=>
     (idx g8 m7).bind fun uD=>
     (rem64 (w64 (m7 + (1:Int))) ((((y4).Design).Rows).length:Int)).bind fun aH=>
     (idx g8 aH).bind fun cD=>
     (idx g8 m7).bind fun xU=>
     (rem64 (w64 (m7 + (1:Int))) ((((y4).Design).Rows).length:Int)).bind fun yE=>
     (idx ((List.set g8 (Int.toNat m7) cD)) yE).bind fun yU=>
     (f11 ((List.set ((List.set g8 (Int.toNat m7) cD)) (Int.toNat yE) uD))).bind fun zE=>
     (f10 ((⟨([(3:Int),(3:Int)]:List Int),([(0:Int),(0:Int)]:List Int),([(⟨(0:Int),0,0,(⟨(99:Int),(99:Int)⟩:Span)⟩:Zw),(⟨(1:Int),0,(1:Int),(⟨(99:Int),(99:Int)⟩:Span)⟩:Zw),(⟨(2:Int),(1:Int),(2:Int),(⟨(99:Int),(99:Int)⟩:Span)⟩:Zw)]:List Zw)⟩:BoxLoom)) zE).bind fun u3=>
     (f12 ((⟨([(3:Int),(3:Int)]:List Int),([(0:Int),(0:Int)]:List Int),([(⟨(0:Int),0,0,(⟨(99:Int),(99:Int)⟩:Span)⟩:Zw),(⟨(1:Int),0,(1:Int),(⟨(99:Int),(99:Int)⟩:Span)⟩:Zw),(⟨(2:Int),(1:Int),(2:Int),(⟨(99:Int),(99:Int)⟩:Span)⟩:Zw)]:List Zw)⟩:BoxLoom)) ((u3.1:List BoxPick))).bind fun m8=>
     Option.bind (α:=Bool) (
      bif (u3.2.2.2 == (0 : Int)) then
       bif (m8.2.2.2.2 == (0 : Int)) then
        bif (u3.2.1 == m8.2.2.1) then
         (f13 (m8.1) ((List.set ((List.set g8 (Int.toNat m7) cD)) (Int.toNat yE) uD))).bind fun cF=>
         bif cF then
          (f16).bind fun dF=>
          bif dF then
           (f17).bind fun cH=>
           some (cH)
          else
           some (false)
         else
          some (false)
        else
         some (false)
       else
        some (false)
      else
       some (false)
      ) fun eF=>
     some (eF)
     ) fun cM=>
    Option.bind (α:=Bool) (
     bif (t5.2 != (0 : Int)) then
      some (true)
     else
      bif (x5.2 != (0 : Int)) then
       some (true)
      else
       bif (((t5.1).length : Int) != ((((y4).Design).Rows).length : Int)) then
        some (true)
       else
        bif (((x5.1).length : Int) != ((((y4).Design).Rows).length : Int)) then
         some (true)
        else
         (idx (t5.1) m7).bind fun dB=>
         (rem64 (w64 (m7 + (1:Int))) ((((y4).Design).Rows).length:Int)).bind fun rF=>
         (idx (x5.1) rF).bind fun iB=>
         bif (!((dB).b == (iB).b)) then
          some (true)
         else
          (rem64 (w64 (m7 + (1:Int))) ((((y4).Design).Rows).length:Int)).bind fun dH=>
          (idx (t5.1) dH).bind fun yF=>
          (idx (x5.1) m7).bind fun zF=>
          some ((!((yF).b == (zF).b)))
     ) fun tB=>
    bif tB then
     some (false)
    else
     cM ()
    ) fun iP=>
   lp (σ:=Int) (fun jP k8=>
    jn (σ:=Unit) (fun _=>
     jn (σ:=Unit) (fun _=>
      jP ((w64 (k8 + (1:Int))))
      ) fun kP=>
     (idx (([(⟨(0:Int),0,0,(⟨(99:Int),(99:Int)⟩:Span)⟩:Zw),(⟨(1:Int),0,(1:Int),(⟨(99:Int),(99:Int)⟩:Span)⟩:Zw),(⟨(2:Int),(1:Int),(2:Int),(⟨(99:Int),(99:Int)⟩:Span)⟩:Zw)]:List Zw)) k8).bind fun jH=>
     (idx ((y140.2.1).Shuttles) k8).bind fun vI=>
     (idx (uC).toList k8).bind fun yI=>
     (rem64 (w64 ((jH).Side + yI)) (2:Int)).bind fun zI=>
     bif ((vI).Side != zI) then
      some (false)
     else
      kP ()
     ) fun lP=>
    bif (decide (k8 < (3 : Int))) then
     lP ()
    else
     iP ()
    ) big ((0:Int))
   ) fun mP=>
  Option.bind (α:=Bool) (
   bif (y140.2.2.2.2 != (0 : Int)) then
    some (true)
   else
    bif (y140.2.2.1 != l5.2.1) then
     some (true)
    else
     (f13 (y140.1) g8).bind fun vF=>
     bif (!vF) then
      some (true)
     else
      some (((((y140.2.1).Shuttles).length:Int) != (3:Int)))
   ) fun aD=>
  bif aD then
   some (false)
  else
   mP ()
  ) fun nP=>
 Option.bind (α:=Bool) (
  bif (l5.2.2.2 != (0 : Int)) then
   some (true)
  else
   some (((((l5.1:List BoxPick)).length:Int) != ((((y4).Design).Rows).length:Int)))
  ) fun gD=>
 bif gD then
  some (false)
 else
  nP ()
theorem wk3 {gI:Gh} {wI:World} {x0:Loom} {x1:UInt8} {up0:Value} (rp0:RV gI.m wI x0 up0) {r:Bool} (h:f3 x0 x1=some r):Fn Try.prog 3 #[up0,.int .u8 (UInt8.toNat (x1))] gI wI (fun _ _ v=>v=.bool (r)):=by
 unfold f3 at h
 refine fn_of_E Try.func3 rfl (Nat.le_of_ble_eq_true rfl) fun g0 hm hfr=>?_
 have rp0:RV g0.m wI x0 up0:=hm ▸ rp0
 show E _ 285 none _ _ _ _ _
 refine Zf (Za (Ze .plain rfl (D_box (g:=g0) rfl rp0 fun g1 w1 p1 hs q1=>?_)))
 have hfr:=hfr.ext hs
 refine Zg (.bool false) rfl rfl ?_
 refine Zb (Zd (Zf (Za (Ze .plain rfl (D_load (g:=g1) Try.isAgg25 Try.sizeOf25 rfl q1 fun v2 r2=>?_)))))
 obtain ⟨y4,hy4,h⟩:=Ge h
 refine Ze .plain rfl (Zp (g:=g1) (vs:=[v2]) en9 (.cons rfl .nil) (wk9 r2 hy4) fun g3 w3_ v3 hs hr=>?_)
 have hfr:=hfr.ext hs
 have r3:=hr
 refine Ze .plain rfl (D_allocOc (g:=g3) 2005 (⟨⟨0,[]⟩,⟨0,[]⟩⟩:FaultLoom) Try.zeroValue32 (fun m w=>⟨_,(rep_two (rep_two Zy rep_nil) (rep_two Zy rep_nil)),rfl⟩) fun g5 w5 p5 hs b5 cb=>?_)
 have hfr:=hfr.stp hs
 have r3:=r3.stp hs
 have i04:OSF 2005 60501 1 g5 w5 3 32 ([]:List Int) p5:=cb.osf (by rfl)
 have j04:OSF 2005 60503 3 g5 w5 3 32 ([]:List Int) p5:=cb.osf (by rfl)
 clear cb
 refine Ze .plain rfl (D_storeOc (g:=g5) (v:=v3) Try.sizeOf32 rfl b5 rfl r3 fun g6 w6 hs b6 cb=>?_)
 clear cb
 have hfr:=hfr.stp hs
 refine Zb (Zd (Zf (L_loadO (x:=.tmp 42) (SubS.comp part_FaultLoom_1 part_Design_1 rfl).1 Try.isAgg26 Try.sizeOf26 b6 fun v9 r9 hl9=>?_)))
 refine L_loadO (x:=.tmp 48) (SubS.comp part_FaultLoom_1 part_Design_1 rfl).1 Try.isAgg26 Try.sizeOf26 b6 fun v12 r12 hl12=>?_
 obtain ⟨m7,eY,h⟩:=Ge h
 refine E_drawL (g:=g6) (n:=13) [] [0,1,2,3,4,5,6,7,8,9,10,11,12] rfl mixed (by kernel_rfl) trivial ?_
 refine Gd (fPtr p5 2) rfl rfl (Zc at_32_1 rfl (OB.ptr b6)) ?_
 refine Gd (fPtr p5 3) rfl rfl (P_fieldAddr2 (o1:=2) rfl at_30_1 rfl (OB.ptr b6)) ?_
 refine L_ld (c:=v9) rfl rfl .plain (fun _ _ h=>⟨h.ch,fun b hb _=>h.below.block b hb⟩) hl9 rfl ?_
 refine Gd (.int .i64 ((((y4).Design).Rows).length:Int)) rfl rfl (P_len Try.underlying26 rfl r9) ?_
 refine Gd (.int .u8 (UInt8.toNat (x1))) rfl rfl (Zk rfl) ?_
 refine Gd (.int .i64 (((x1).toNat:Int))) rfl rfl (P_u8int Try.underlying5 Try.underlying3 rfl) ?_
 refine Gd (fPtr p5 2) rfl rfl (Zc at_32_1 rfl (OB.ptr b6)) ?_
 refine Gd (fPtr p5 3) rfl rfl (P_fieldAddr2 (o1:=2) rfl at_30_1 rfl (OB.ptr b6)) ?_
 refine L_ld (c:=v12) rfl rfl .plain (fun _ _ h=>⟨h.ch,fun b hb _=>h.below.block b hb⟩) hl12 rfl ?_
 refine Gd (.int .i64 ((((y4).Design).Rows).length:Int)) rfl rfl (P_len Try.underlying26 rfl r12) ?_
 refine Gd (.int .i64 (m7)) rfl rfl (P_int rfl rfl (congrArg (Option.map (Value.int .i64)) eY)) ?_
 refine Gd (.int .i64 ((((y4).Design).Rows).length:Int)) rfl rfl (P_assign rfl) ?_
 refine Gd (.int .i64 (m7)) rfl rfl (P_assign rfl) ?_
 refine L_nl fun g14 w14 hs=>?_
 have hfr:=hfr.ext hs
 have b6:=b6.ext hs
 clear hs
 refine Zb (Zd (Zf (Za (Ze .plain rfl (D_buildSlice (g:=g14) 3052 (xs:=([(3:Int),(3:Int)]:List Int)) (vs:=[.int .i64 (3),.int .i64 (3)]) Try.underlying26 Try.sizeOf3 Try.zeroValue3 rfl rfl (.cons rfl (.cons rfl .nil)) (RVs.cons (Zj.2 rfl) (RVs.cons (Zj.2 rfl) RVs.nil)) rfl rfl fun g35 w35 oP hs o35 aG hxt hfl=>?_)))))
 have hfr:=hfr.stp hs
 have b6:=b6.stp hs rfl
 refine Ze .plain rfl (D_buildSlice (g:=g35) 3053 (xs:=([(0:Int),(0:Int)]:List Int)) (vs:=[.int .i64 (0),.int .i64 (0)]) Try.underlying26 Try.sizeOf3 Try.zeroValue3 rfl rfl (.cons rfl (.cons rfl .nil)) (RVs.cons (Zj.2 rfl) (RVs.cons (Zj.2 rfl) RVs.nil)) rfl rfl fun kH pP sP hs o36 dM hxt hfl=>?_)
 have hfr:=hfr.stp hs
 have b6:=b6.stp hs rfl
 have aG:=aG.stp hs
 have o35:=o35.stp hs rfl
 have tP:RV kH.m pP (⟨(99:Int),(99:Int)⟩:Span) (.agg (setCh [[.int .i64 0],[.int .i64 0]] [(0,.int .i64 (99)),(1,.int .i64 (99))]).flatten.toArray):=RV_build rfl (rep_pair (rfl) (rep_last (rfl)))
 generalize gY:(Value.agg (setCh [[.int .i64 0],[.int .i64 0]] [(0,.int .i64 (99)),(1,.int .i64 (99))]).flatten.toArray)=eM at tP
 refine Ga eM (gY ▸ P_build (vs:=[(0,.int .i64 (99)),(1,.int .i64 (99))]) [[.int .i64 0],[.int .i64 0]] lay_35 rfl rfl (.cons rfl (.cons rfl .nil)) ⟨⟨_,rfl,rfl⟩,⟨⟨_,rfl,rfl⟩,trivial⟩⟩) rfl ?_
 have pX:RV kH.m _ (⟨(0:Int),0,0,(⟨(99:Int),(99:Int)⟩:Span)⟩:Zw) (.agg (setCh [[.int .i64 0],[.int .i64 0],[.int .i64 0],[.int .i64 0,.int .i64 0]] [(0,.int .i64 (0)),(3,eM)]).flatten.toArray):=RV_build rfl (rep_pair (rfl) (rep_pair (Zy) (rep_pair (Zy) (rep_last (RV.cells tP)))))
 generalize iY:(Value.agg (setCh [[.int .i64 0],[.int .i64 0],[.int .i64 0],[.int .i64 0,.int .i64 0]] [(0,.int .i64 (0)),(3,eM)]).flatten.toArray)=qX at pX
 refine Ga qX (iY ▸ P_build (vs:=[(0,.int .i64 (0)),(3,eM)]) [[.int .i64 0],[.int .i64 0],[.int .i64 0],[.int .i64 0,.int .i64 0]] lay_37 rfl rfl (.cons rfl (.cons rfl .nil)) ⟨⟨_,rfl,rfl⟩,⟨⟨_,rfl,cells_size tP⟩,trivial⟩⟩) rfl ?_
 have uP:RV kH.m pP (⟨(99:Int),(99:Int)⟩:Span) (.agg (setCh [[.int .i64 0],[.int .i64 0]] [(0,.int .i64 (99)),(1,.int .i64 (99))]).flatten.toArray):=RV_build rfl (rep_pair (rfl) (rep_last (rfl)))
 generalize jY:(Value.agg (setCh [[.int .i64 0],[.int .i64 0]] [(0,.int .i64 (99)),(1,.int .i64 (99))]).flatten.toArray)=iM at uP
 refine Ga iM (jY ▸ P_build (vs:=[(0,.int .i64 (99)),(1,.int .i64 (99))]) [[.int .i64 0],[.int .i64 0]] lay_35 rfl rfl (.cons rfl (.cons rfl .nil)) ⟨⟨_,rfl,rfl⟩,⟨⟨_,rfl,rfl⟩,trivial⟩⟩) rfl ?_
 have rX:RV kH.m _ (⟨(1:Int),0,(1:Int),(⟨(99:Int),(99:Int)⟩:Span)⟩:Zw) (.agg (setCh [[.int .i64 0],[.int .i64 0],[.int .i64 0],[.int .i64 0,.int .i64 0]] [(0,.int .i64 (1)),(2,.int .i64 (1)),(3,iM)]).flatten.toArray):=RV_build rfl (rep_pair (rfl) (rep_pair (Zy) (rep_pair (rfl) (rep_last (RV.cells uP)))))
 generalize kY:(Value.agg (setCh [[.int .i64 0],[.int .i64 0],[.int .i64 0],[.int .i64 0,.int .i64 0]] [(0,.int .i64 (1)),(2,.int .i64 (1)),(3,iM)]).flatten.toArray)=sX at rX
 refine Ga sX (kY ▸ P_build (vs:=[(0,.int .i64 (1)),(2,.int .i64 (1)),(3,iM)]) [[.int .i64 0],[.int .i64 0],[.int .i64 0],[.int .i64 0,.int .i64 0]] lay_37 rfl rfl (.cons rfl (.cons rfl (.cons rfl .nil))) ⟨⟨_,rfl,rfl⟩,⟨⟨_,rfl,rfl⟩,⟨⟨_,rfl,cells_size uP⟩,trivial⟩⟩⟩) rfl ?_
 have vP:RV kH.m pP (⟨(99:Int),(99:Int)⟩:Span) (.agg (setCh [[.int .i64 0],[.int .i64 0]] [(0,.int .i64 (99)),(1,.int .i64 (99))]).flatten.toArray):=RV_build rfl (rep_pair (rfl) (rep_last (rfl)))
 generalize mY:(Value.agg (setCh [[.int .i64 0],[.int .i64 0]] [(0,.int .i64 (99)),(1,.int .i64 (99))]).flatten.toArray)=jM at vP
 refine Ga jM (mY ▸ P_build (vs:=[(0,.int .i64 (99)),(1,.int .i64 (99))]) [[.int .i64 0],[.int .i64 0]] lay_35 rfl rfl (.cons rfl (.cons rfl .nil)) ⟨⟨_,rfl,rfl⟩,⟨⟨_,rfl,rfl⟩,trivial⟩⟩) rfl ?_
 have tX:RV kH.m _ (⟨(2:Int),(1:Int),(2:Int),(⟨(99:Int),(99:Int)⟩:Span)⟩:Zw) (.agg (setCh [[.int .i64 0],[.int .i64 0],[.int .i64 0],[.int .i64 0,.int .i64 0]] [(0,.int .i64 (2)),(1,.int .i64 (1)),(2,.int .i64 (2)),(3,jM)]).flatten.toArray):=RV_build rfl (rep_pair (rfl) (rep_pair (rfl) (rep_pair (rfl) (rep_last (RV.cells vP)))))
 generalize nY:(Value.agg (setCh [[.int .i64 0],[.int .i64 0],[.int .i64 0],[.int .i64 0,.int .i64 0]] [(0,.int .i64 (2)),(1,.int .i64 (1)),(2,.int .i64 (2)),(3,jM)]).flatten.toArray)=uX at tX
 refine Ga uX (nY ▸ P_build (vs:=[(0,.int .i64 (2)),(1,.int .i64 (1)),(2,.int .i64 (2)),(3,jM)]) [[.int .i64 0],[.int .i64 0],[.int .i64 0],[.int .i64 0,.int .i64 0]] lay_37 rfl rfl (.cons rfl (.cons rfl (.cons rfl (.cons rfl .nil)))) ⟨⟨_,rfl,rfl⟩,⟨⟨_,rfl,rfl⟩,⟨⟨_,rfl,rfl⟩,⟨⟨_,rfl,cells_size vP⟩,trivial⟩⟩⟩⟩) rfl ?_
 refine Ze .plain rfl (D_buildSlice (g:=kH) 3060 (xs:=([(⟨(0:Int),0,0,(⟨(99:Int),(99:Int)⟩:Span)⟩:Zw),(⟨(1:Int),0,(1:Int),(⟨(99:Int),(99:Int)⟩:Span)⟩:Zw),(⟨(2:Int),(1:Int),(2:Int),(⟨(99:Int),(99:Int)⟩:Span)⟩:Zw)]:List Zw)) (vs:=[qX,sX,uX]) Try.underlying38 Try.sizeOf37 Try.zeroValue37 rfl rfl (.cons rfl (.cons rfl (.cons rfl .nil))) (RVs.cons pX (RVs.cons rX (RVs.cons tX RVs.nil))) rfl rfl fun vX w43 xP hs o43 xX hxt hfl=>?_)
 have hfr:=hfr.stp hs
 have b6:=b6.stp hs rfl
 have aG:=aG.stp hs
 have o35:=o35.stp hs rfl
 have dM:=dM.stp hs
 have kM:RV vX.m _ (⟨([(3:Int),(3:Int)]:List Int),([(0:Int),(0:Int)]:List Int),([(⟨(0:Int),0,0,(⟨(99:Int),(99:Int)⟩:Span)⟩:Zw),(⟨(1:Int),0,(1:Int),(⟨(99:Int),(99:Int)⟩:Span)⟩:Zw),(⟨(2:Int),(1:Int),(2:Int),(⟨(99:Int),(99:Int)⟩:Span)⟩:Zw)]:List Zw)⟩:BoxLoom) (.agg (setCh [[.slice none 0 0],[.slice none 0 0],[.slice none 0 0]] [(0,oP),(1,sP),(2,xP)]).flatten.toArray):=RV_build rfl (rep_pair (RV.cells aG) (rep_pair (RV.cells dM) (rep_last (RV.cells xX))))
 generalize yP:(Value.agg (setCh [[.slice none 0 0],[.slice none 0 0],[.slice none 0 0]] [(0,oP),(1,sP),(2,xP)]).flatten.toArray)=yX at kM
 refine Ga yX (yP ▸ P_build (vs:=[(0,oP),(1,sP),(2,xP)]) [[.slice none 0 0],[.slice none 0 0],[.slice none 0 0]] lay_40 rfl rfl (.cons rfl (.cons rfl (.cons rfl .nil))) ⟨⟨_,rfl,cells_size aG⟩,⟨⟨_,rfl,cells_size dM⟩,⟨⟨_,rfl,cells_size xX⟩,trivial⟩⟩⟩) rfl ?_
 refine Ze .plain rfl (D_allocOc (g:=vX) 2008 (⟨[],[],[]⟩:BoxLoom) Try.zeroValue40 (fun m w=>⟨_,(rep_two rep_nil (rep_two rep_nil rep_nil)),rfl⟩) fun mM zP i6 hs b45 cb=>?_)
 have hfr:=hfr.stp hs
 have b6:=b6.stp hs rfl
 have aG:=aG.stp hs
 have o35:=o35.stp hs rfl
 have kM:=kM.stp hs
 have g02:OSF 2008 60800 0 mM zP 3 40 ([]:List Int) i6:=cb.osf (by rfl)
 have h02:OSF 2008 60801 1 mM zP 3 40 ([]:List Int) i6:=cb.osf (by rfl)
 have i02:OSF 2008 60802 2 mM zP 37 40 ([]:List Zw) i6:=cb.osf (by rfl)
 clear cb
 refine Ze .plain rfl (D_storeOc (g:=mM) (v:=yX) Try.sizeOf40 rfl b45 rfl kM fun zX w46 hs b46 cb=>?_)
 obtain ⟨h01,i01,lN,_,_⟩:=RV_list aG
 have eJ:OSF 2008 3052 0 zX w46 3 40 (([(3:Int),(3:Int)]:List Int):List Int) i6:=cb.osfv (by rw [← yP,lN]; rfl) (o35.stp hs rfl)
 clear cb
 have hfr:=hfr.stp hs
 have b6:=b6.stp hs rfl
 refine Zb (Zd (Zf (Za (Ze .plain rfl (D_buildSliceA (g:=zX) 4009 (xs:=([]:List Int)) (vs:=[]) Try.underlying26 Try.sizeOf3 Try.zeroValue3 rfl rfl .nil RVs.nil rfl rfl fun g47 w47 aY hs b47 _=>?_)))))
 have hfr:=hfr.stp hs
 have b6:=b6.stp hs rfl
 have eJ:=eJ.stp hs rfl
 have b46:=b46.stp hs rfl
 refine Zg aY rfl rfl ?_
 refine Zb (Zd ?_)
 obtain ⟨g8,hx,h⟩:=Ge h
 refine E_join (fun e w=>∃ (g:Gh) (v9:Value),Fr gI wI g w∧e 5=p5∧OB 2005 g w 32 (y4:FaultLoom) p5∧e 6=.int .i64 (((((y4).Design).Rows).length:Int))∧e 7=.int .i64 (m7)∧e 8=i6∧OB 2008 g w 40 ((⟨([(3:Int),(3:Int)]:List Int),([(0:Int),(0:Int)]:List Int),([(⟨(0:Int),0,0,(⟨(99:Int),(99:Int)⟩:Span)⟩:Zw),(⟨(1:Int),0,(1:Int),(⟨(99:Int),(99:Int)⟩:Span)⟩:Zw),(⟨(2:Int),(1:Int),(2:Int),(⟨(99:Int),(99:Int)⟩:Span)⟩:Zw)]:List Zw)⟩:BoxLoom):BoxLoom) i6∧OSF 2008 3052 0 g w 3 40 (((⟨([(3:Int),(3:Int)]:List Int),([(0:Int),(0:Int)]:List Int),([(⟨(0:Int),0,0,(⟨(99:Int),(99:Int)⟩:Span)⟩:Zw),(⟨(1:Int),0,(1:Int),(⟨(99:Int),(99:Int)⟩:Span)⟩:Zw),(⟨(2:Int),(1:Int),(2:Int),(⟨(99:Int),(99:Int)⟩:Span)⟩:Zw)]:List Zw)⟩:BoxLoom)).Boxes) i6∧e 9=v9∧OA 4009 g w 3 (g8:List Int) v9) (fun Q' hQ=>?_) (fun j02 k04 hR=>?_)
 ·replace h := hx
  clear hx
  refine Zf (Za (Zg (.int .i64 (0)) rfl rfl ?_))
  refine Zb (Zd (Zr ?_))
  refine E_lp h (fun (s:(List Int) × Int) e w=>∃ (g:Gh) (v9:Value),Fr gI wI g w∧e 5=p5∧OB 2005 g w 32 (y4:FaultLoom) p5∧e 6=.int .i64 (((((y4).Design).Rows).length:Int))∧e 7=.int .i64 (m7)∧e 8=i6∧OB 2008 g w 40 ((⟨([(3:Int),(3:Int)]:List Int),([(0:Int),(0:Int)]:List Int),([(⟨(0:Int),0,0,(⟨(99:Int),(99:Int)⟩:Span)⟩:Zw),(⟨(1:Int),0,(1:Int),(⟨(99:Int),(99:Int)⟩:Span)⟩:Zw),(⟨(2:Int),(1:Int),(2:Int),(⟨(99:Int),(99:Int)⟩:Span)⟩:Zw)]:List Zw)⟩:BoxLoom):BoxLoom) i6∧OSF 2008 3052 0 g w 3 40 (((⟨([(3:Int),(3:Int)]:List Int),([(0:Int),(0:Int)]:List Int),([(⟨(0:Int),0,0,(⟨(99:Int),(99:Int)⟩:Span)⟩:Zw),(⟨(1:Int),0,(1:Int),(⟨(99:Int),(99:Int)⟩:Span)⟩:Zw),(⟨(2:Int),(1:Int),(2:Int),(⟨(99:Int),(99:Int)⟩:Span)⟩:Zw)]:List Zw)⟩:BoxLoom)).Boxes) i6∧e 9=v9∧OA 4009 g w 3 (s.1:List Int) v9∧e 10=.int .i64 (s.2)) ⟨g47,(aY),hfr,rfl,b6,rfl,rfl,rfl,b46,eJ,rfl,b47,rfl⟩ (fun X76 mX oY=>?_)
  rintro ⟨zG,rA⟩ l04 w77 ⟨bY,gJ,hfr,nM,oM,iJ,pM,qM,rM,u8_0_77,sM,tM,xJ⟩ h
  refine Zq h (fun (s:Unit) e w=>∃ (g:Gh) ,Fr gI wI g w∧e 5=p5∧OB 2005 g w 32 (y4:FaultLoom) p5∧e 6=.int .i64 (((((y4).Design).Rows).length:Int))∧e 7=.int .i64 (m7)∧e 8=i6∧OB 2008 g w 40 ((⟨([(3:Int),(3:Int)]:List Int),([(0:Int),(0:Int)]:List Int),([(⟨(0:Int),0,0,(⟨(99:Int),(99:Int)⟩:Span)⟩:Zw),(⟨(1:Int),0,(1:Int),(⟨(99:Int),(99:Int)⟩:Span)⟩:Zw),(⟨(2:Int),(1:Int),(2:Int),(⟨(99:Int),(99:Int)⟩:Span)⟩:Zw)]:List Zw)⟩:BoxLoom):BoxLoom) i6∧OSF 2008 3052 0 g w 3 40 (((⟨([(3:Int),(3:Int)]:List Int),([(0:Int),(0:Int)]:List Int),([(⟨(0:Int),0,0,(⟨(99:Int),(99:Int)⟩:Span)⟩:Zw),(⟨(1:Int),0,(1:Int),(⟨(99:Int),(99:Int)⟩:Span)⟩:Zw),(⟨(2:Int),(1:Int),(2:Int),(⟨(99:Int),(99:Int)⟩:Span)⟩:Zw)]:List Zw)⟩:BoxLoom)).Boxes) i6∧e 9=gJ∧OA 4009 g w 3 (zG:List Int) gJ∧e 10=.int .i64 (rA)) (fun X79 oX pY h=>?_) ?_
  ·refine Zf (Za (Zo xJ rfl ?_))
   refine Zo iJ rfl ?_
   refine Ga (.bool ((decide (rA < ((((y4).Design).Rows).length:Int))))) (P_int rfl rfl rfl) rfl ?_
   refine Zb (Zd ?_)
   rcases Zt h with ⟨qL,h⟩ | ⟨qL,h⟩
   ·refine E_ct qL rfl ?_
    exact Zu (Zd (pY () _ _ ⟨bY,hfr,nM,oM,iJ,pM,qM,rM,u8_0_77,sM,tM,xJ⟩ h))
   ·refine E_cf qL rfl ?_
    refine E_exit ?_
    refine thn_e ?_
    refine thn_e ?_
    refine blk_hit ?_
    obtain rfl:=sinj h
    exact hQ _ _ ⟨bY,(gJ),hfr,nM,oM,iJ,pM,qM,rM,u8_0_77,sM,tM⟩
  ·rintro _ m04 w81 ⟨bQ, hfr, uM, eD, zU, aV, bV, bG, u8_0_81, cV, jJ, yJ⟩ h
   obtain ⟨xF,hx,h⟩:=Ge h
   refine E_join (fun e w=>∃ (g:Gh) (v9:Value),Fr gI wI g w∧e 5=p5∧OB 2005 g w 32 (y4:FaultLoom) p5∧e 6=.int .i64 (((((y4).Design).Rows).length:Int))∧e 7=.int .i64 (m7)∧e 8=i6∧OB 2008 g w 40 ((⟨([(3:Int),(3:Int)]:List Int),([(0:Int),(0:Int)]:List Int),([(⟨(0:Int),0,0,(⟨(99:Int),(99:Int)⟩:Span)⟩:Zw),(⟨(1:Int),0,(1:Int),(⟨(99:Int),(99:Int)⟩:Span)⟩:Zw),(⟨(2:Int),(1:Int),(2:Int),(⟨(99:Int),(99:Int)⟩:Span)⟩:Zw)]:List Zw)⟩:BoxLoom):BoxLoom) i6∧OSF 2008 3052 0 g w 3 40 (((⟨([(3:Int),(3:Int)]:List Int),([(0:Int),(0:Int)]:List Int),([(⟨(0:Int),0,0,(⟨(99:Int),(99:Int)⟩:Span)⟩:Zw),(⟨(1:Int),0,(1:Int),(⟨(99:Int),(99:Int)⟩:Span)⟩:Zw),(⟨(2:Int),(1:Int),(2:Int),(⟨(99:Int),(99:Int)⟩:Span)⟩:Zw)]:List Zw)⟩:BoxLoom)).Boxes) i6∧e 9=v9∧OA 4009 g w 3 (xF:List Int) v9∧e 10=.int .i64 (rA)) (fun Q' hQ=>?_) (fun k02 n04 hR=>?_)
   ·replace h := hx
    clear hx
    refine Zr ?_
    refine Za (Zo cV rfl ?_)
    refine Ga (fPtr p5 2) (Zc at_32_1 uM (OB.ptr eD)) rfl ?_
    refine Ga (fPtr p5 3) (P_fieldAddr2 (o1:=2) rfl at_30_1 rfl (OB.ptr eD)) rfl ?_
    refine Ze .plain rfl (D_loadF (g:=bQ) (SubS.comp part_FaultLoom_1 part_Design_1 rfl).1 Try.isAgg26 Try.sizeOf26 rfl eD fun v94 cY=>?_)
    refine Zo yJ rfl ?_
    obtain ⟨nX,cQ,h⟩:=Ge h
    refine Ga (ePtr v94 rA 1) (Zh (α:=Int) Try.underlying26 Try.sizeOf3 rfl cY rfl cQ) rfl ?_
    have q96:=PT_idx cY cQ
    refine Ze .plain rfl (D_load (g:=bQ) Try.isAgg3 Try.sizeOf3 rfl q96 fun v97 r97=>?_)
    obtain rfl:=Zj.1 r97
    obtain ⟨y98,qY,h⟩:=Ge h
    refine Ga (.int .i64 (y98)) (P_int rfl rfl (congrArg (Option.map (Value.int .i64)) qY)) rfl ?_
    refine Ze .plain rfl (D_buildSlice (g:=bQ) 3076 (xs:=([y98]:List Int)) (vs:=[.int .i64 (y98)]) Try.underlying26 Try.sizeOf3 Try.zeroValue3 rfl rfl (.cons rfl .nil) (RVs.cons (Zj.2 rfl) RVs.nil) rfl rfl fun g99 w99 v99 hs o99 r99 hxt hfl=>?_)
    have hfr:=hfr.stp hs
    have eD:=eD.stp hs rfl
    have u8_0_81:=u8_0_81.stp hs rfl
    have bG:=bG.stp hs rfl
    have jJ:=jJ.stp hs rfl
    obtain ⟨bP,dV,h⟩:=Ge h
    refine Ze .plain rfl (D_appendA (g:=g99) plain_int (i:=4009) Try.underlying26 info_3 rfl rfl jJ rfl r99 dV fun uY o04 dQ hs b100=>?_)
    have hfr:=hfr.stp hs
    have eD:=eD.stp hs rfl
    have u8_0_81:=u8_0_81.stp hs rfl
    have bG:=bG.stp hs rfl
    refine Zg dQ rfl rfl ?_
    refine Zb (blk_n ?_)
    obtain rfl:=sinj h
    exact hQ _ _ ⟨uY,(dQ),hfr,uM,eD,zU,aV,bV,bG,u8_0_81,rfl,b100,yJ⟩
   ·clear hx
    obtain ⟨vY,eQ,hfr,gQ,iQ,jQ,kQ,lQ,mQ,u8_0_102,nQ,oQ,mN⟩:=hR
    refine Za (Zo mN rfl ?_)
    refine EL_in (.int .i64 ((w64 (rA + (1:Int))))) rfl rfl rfl rfl ?_
    refine Zg (.int .i64 ((w64 (rA + (1:Int))))) rfl rfl ?_
    exact Zb (Zd (oY (xF,(w64 (rA + (1:Int)))) _ _ ⟨vY,(eQ),hfr,gQ,iQ,jQ,kQ,lQ,mQ,u8_0_102,nQ,oQ,rfl⟩ h))
 ·clear hx
  obtain ⟨xY,o0,hfr,zJ,cG,lH,aK,mH,vD,u8_0_103,nH,xD⟩:=hR
  refine Zf (L_loadO0 (x:=.tmp 8) Try.isAgg40 Try.sizeOf40 vD fun pQ yY eV=>?_)
  obtain ⟨iG,gV,h⟩:=Ge h
  obtain ⟨l5,iV,h⟩:=Ge h
  refine E_drawL (g:=xY) (n:=13) [(2,(fun v g w=>RV g.m w iG v)),(3,(fun v g w=>∃ y0 y1 y2 y3:Value,v=.tuple #[y0,y1,y2,y3]∧RV g.m w (l5.1:List BoxPick) y0∧y1=.int .i64 (l5.2.1)∧y2=.int .i64 (l5.2.2.1)∧y3=.int .i64 (l5.2.2.2)))] [0,1,2,3,4,5,6,7,8,9,10,11,12] rfl mixed (by kernel_rfl) (⟨fun _=>up_rv,fun _=>(up_ex fun _=>(up_ex fun _=>(up_ex fun _=>(up_ex fun _=>(up_and (up_eq _) (up_and up_rv (up_and (up_eq _) (up_and (up_eq _) (up_eq _))))))))),trivial⟩) ?_
  refine L_ld (c:=pQ) rfl rfl .plain (fun _ _ h=>⟨h.ch,fun b hb _=>h.below.block b hb⟩) eV mH ?_
  refine Gd o0 rfl rfl (Zk nH) ?_
  refine L_do (φ:=fun v g w=>RV g.m w iG v) rfl rfl .plain (fun g w hd=>D_callGF (g:=g) (vs:=[o0]) en11 (.cons rfl .nil) (v11_0 (iO:=1) (OM.lent ((xD.toM).ext hd.1)) gV) fun gl w' v hxl hr=>(hr.unlendV plain_int hxl).imp fun _ h=>⟨h.1,h.2⟩) (fun rL hv=>?_)
  obtain ⟨_,_,_,rq105⟩:=hv
  refine L_do (φ:=fun v g w=>∃ y0 y1 y2 y3:Value,v=.tuple #[y0,y1,y2,y3]∧RV g.m w (l5.1:List BoxPick) y0∧y1=.int .i64 (l5.2.1)∧y2=.int .i64 (l5.2.2.1)∧y3=.int .i64 (l5.2.2.2)) rfl rfl .plain (fun g w hd=>Zp (g:=g) (vs:=[pQ,rL]) en10 (.cons rfl (.cons rfl .nil)) (wk10 (yY.ext hd.1) (word (A:=fun g w=>RV g.m w iG rL) 2 rfl rfl (deps_of hd)) iV) fun g' w' v hs hr=>⟨g',hs,hr⟩) (fun p04 hv=>?_)
  obtain ⟨_,_,_,yA,_,_,_,rfl,r00,rfl,rfl,rfl⟩:=hv
  refine Gd (.tuple #[yA,.int .i64 (l5.2.1),.int .i64 (l5.2.2.1),.int .i64 (l5.2.2.2)]) rfl rfl (Zk rfl) ?_
  refine Gd yA rfl rfl (Zi rfl rfl) ?_
  refine Gd (.int .i64 (l5.2.1)) rfl rfl (Zi rfl rfl) ?_
  refine Gd (.int .i64 (l5.2.2.1)) rfl rfl (Zi rfl rfl) ?_
  refine Gd (.int .i64 (l5.2.2.2)) rfl rfl (Zi rfl rfl) ?_
  refine Gd yA rfl rfl (P_assign rfl) ?_
  refine Gd (.int .i64 (l5.2.1)) rfl rfl (P_assign rfl) ?_
  refine Gd (.int .i64 (l5.2.2.1)) rfl rfl (P_assign rfl) ?_
  refine Gd (.int .i64 (l5.2.2.2)) rfl rfl (P_assign rfl) ?_
  refine L_nil fun qQ q04 hall=>?_
  have hs:=hall.1
  have hfr:=hfr.ext hs
  have cG:=cG.ext hs
  have u8_0_103:=u8_0_103.ext hs
  have vD:=vD.ext hs
  have xD:=xD.ext hs
  have r04:=(word_all (A:=fun g w=>RV g.m w iG rL) 2 rfl hall)
  have s04:=(tup4_0 (word_all (A:=fun g w=>∃ y0 y1 y2 y3:Value,Value.tuple #[yA,.int .i64 (l5.2.1),.int .i64 (l5.2.2.1),.int .i64 (l5.2.2.2)]=.tuple #[y0,y1,y2,y3]∧RV g.m w (l5.1:List BoxPick) y0∧y1=.int .i64 (l5.2.1)∧y2=.int .i64 (l5.2.2.1)∧y3=.int .i64 (l5.2.2.2)) 3 rfl hall))
  have tL:=(tup4_0 (word_all (A:=fun g w=>∃ y0 y1 y2 y3:Value,Value.tuple #[yA,.int .i64 (l5.2.1),.int .i64 (l5.2.2.1),.int .i64 (l5.2.2.2)]=.tuple #[y0,y1,y2,y3]∧RV g.m w (l5.1:List BoxPick) y0∧y1=.int .i64 (l5.2.1)∧y2=.int .i64 (l5.2.2.1)∧y3=.int .i64 (l5.2.2.2)) 3 rfl hall))
  clear hs hall
  refine Zb (Zd (Zq h (fun (s:Unit) e w=>∃ (g:Gh) ,Fr gI wI g w∧e 5=p5∧OB 2005 g w 32 (y4:FaultLoom) p5∧e 6=.int .i64 (((((y4).Design).Rows).length:Int))∧e 7=.int .i64 (m7)∧e 8=i6∧OB 2008 g w 40 ((⟨([(3:Int),(3:Int)]:List Int),([(0:Int),(0:Int)]:List Int),([(⟨(0:Int),0,0,(⟨(99:Int),(99:Int)⟩:Span)⟩:Zw),(⟨(1:Int),0,(1:Int),(⟨(99:Int),(99:Int)⟩:Span)⟩:Zw),(⟨(2:Int),(1:Int),(2:Int),(⟨(99:Int),(99:Int)⟩:Span)⟩:Zw)]:List Zw)⟩:BoxLoom):BoxLoom) i6∧OSF 2008 3052 0 g w 3 40 (((⟨([(3:Int),(3:Int)]:List Int),([(0:Int),(0:Int)]:List Int),([(⟨(0:Int),0,0,(⟨(99:Int),(99:Int)⟩:Span)⟩:Zw),(⟨(1:Int),0,(1:Int),(⟨(99:Int),(99:Int)⟩:Span)⟩:Zw),(⟨(2:Int),(1:Int),(2:Int),(⟨(99:Int),(99:Int)⟩:Span)⟩:Zw)]:List Zw)⟩:BoxLoom)).Boxes) i6∧e 9=o0∧OA 4009 g w 3 (g8:List Int) o0∧e 11=yA∧RV g.m w ((l5.1:List BoxPick):List BoxPick) yA∧e 12=.int .i64 (l5.2.1)) (fun X132 nP jV h=>?_) ?_))
  ·obtain ⟨gD, hx, h⟩ := Ge h
   refine E_join (fun e w=>∃ (g:Gh) ,Fr gI wI g w∧e 5=p5∧OB 2005 g w 32 (y4:FaultLoom) p5∧e 6=.int .i64 (((((y4).Design).Rows).length:Int))∧e 7=.int .i64 (m7)∧e 8=i6∧OB 2008 g w 40 ((⟨([(3:Int),(3:Int)]:List Int),([(0:Int),(0:Int)]:List Int),([(⟨(0:Int),0,0,(⟨(99:Int),(99:Int)⟩:Span)⟩:Zw),(⟨(1:Int),0,(1:Int),(⟨(99:Int),(99:Int)⟩:Span)⟩:Zw),(⟨(2:Int),(1:Int),(2:Int),(⟨(99:Int),(99:Int)⟩:Span)⟩:Zw)]:List Zw)⟩:BoxLoom):BoxLoom) i6∧OSF 2008 3052 0 g w 3 40 (((⟨([(3:Int),(3:Int)]:List Int),([(0:Int),(0:Int)]:List Int),([(⟨(0:Int),0,0,(⟨(99:Int),(99:Int)⟩:Span)⟩:Zw),(⟨(1:Int),0,(1:Int),(⟨(99:Int),(99:Int)⟩:Span)⟩:Zw),(⟨(2:Int),(1:Int),(2:Int),(⟨(99:Int),(99:Int)⟩:Span)⟩:Zw)]:List Zw)⟩:BoxLoom)).Boxes) i6∧e 9=o0∧OA 4009 g w 3 (g8:List Int) o0∧e 11=yA∧RV g.m w ((l5.1:List BoxPick):List BoxPick) yA∧e 12=.int .i64 (l5.2.1)∧e 94=.bool (gD)) (fun Q' hQ=>?_) (fun l02 t04 hR=>?_)
   ·replace h := hx
    clear hx
    refine Za (Zn (.int .i64 (l5.2.2.2)) rfl rfl ?_)
    refine EL_in (.bool ((l5.2.2.2 != (0:Int)))) rfl rfl rfl rfl ?_
    refine Zn (.bool ((l5.2.2.2 != (0:Int)))) rfl rfl ?_
    rcases Zt h with ⟨zB,h⟩ | ⟨zB,h⟩
    ·refine Gc rfl rfl zB rfl rfl ?_
     iterate 3 refine Gc rfl rfl zB rfl rfl ?_
     refine Ga (.bool true) (Zl (b:=(l5.2.2.2 != (0:Int))) rfl (pick_t zB rfl)) rfl ?_
     refine Zb ?_
     obtain rfl:=sinj h
     exact hQ _ _ ⟨qQ,hfr,zJ,cG,lH,aK,mH,vD,u8_0_103,nH,xD,rfl,tL,rfl,rfl⟩
    ·refine Gb yA (Zk rfl) rfl rfl zB rfl ?_
     refine Gb (.int .i64 (((l5.1:List BoxPick)).length:Int)) (P_len Try.underlying41 rfl tL) rfl rfl zB rfl ?_
     refine Gb (.int .i64 (((((y4).Design).Rows).length:Int))) (Zk lH) rfl rfl zB rfl ?_
     refine Gb (.bool (((((l5.1:List BoxPick)).length:Int) != ((((y4).Design).Rows).length:Int)))) (P_int rfl rfl rfl) rfl rfl zB rfl ?_
     refine Ga (.bool (((((l5.1:List BoxPick)).length:Int) != ((((y4).Design).Rows).length:Int)))) (Zl (b:=(l5.2.2.2 != (0:Int))) rfl (pick_f zB rfl)) rfl ?_
     refine Zb ?_
     obtain rfl:=sinj h
     exact hQ _ _ ⟨qQ,hfr,zJ,cG,lH,aK,mH,vD,u8_0_103,nH,xD,rfl,tL,rfl,rfl⟩
   ·clear hx
    obtain ⟨zY,hfr,rQ,sQ,tQ,uQ,vQ,xQ,u8_0_135,yQ,zQ,nN,oN,pN,dI⟩:=hR
    rcases Zt h with ⟨kJ,h⟩ | ⟨kJ,h⟩
    ·refine E_cond_true (Eq.trans (show ev _ _ = .bool (gD) from dI) (congrArg Value.bool kJ)) ?_
     refine Zf (Za (Zg (.bool false) rfl rfl ?_))
     refine Zb (Zd (E_ret (thn_r ?_)))
     obtain rfl:=sinj h
     exact end1 rfl rfl (show _=.bool false from rfl) ⟨_,hfr,rfl⟩
    ·refine E_cond_false (Eq.trans (show ev _ _ = .bool (gD) from dI) (congrArg Value.bool kJ)) ?_
     exact Zu (Zd (jV () _ _ ⟨zY,hfr,rQ,sQ,tQ,uQ,vQ,xQ,u8_0_135,yQ,zQ,nN,oN,pN⟩ h))
  ·rintro _ m02 u04 ⟨aR, hfr, eG, z9, gG, hG, yD, k9, u8_0_137, zD, l9, qN, rN, sN⟩ h
   refine Zf (Za (Ze .plain rfl (D_loadO (g:=aR) Try.isAgg40 Try.sizeOf40 yD k9 fun aZ bZ=>?_)))
   refine Zo qN rfl ?_
   obtain ⟨y140,kV,h⟩:=Ge h
   refine Ze .plain rfl (Zp (g:=aR) (vs:=[aZ,yA]) en12 (.cons rfl (.cons rfl .nil)) (wk12 bZ rN kV) fun cZ n02 v04 hs hr=>?_)
   have hfr:=hfr.ext hs
   have z9:=z9.ext hs
   have u8_0_137:=u8_0_137.ext hs
   have k9:=k9.ext hs
   have l9:=l9.ext hs
   obtain ⟨aE,oH,p01,q01,r01,rfl,bE,pH,rfl,rfl,rfl⟩:=hr
   refine Zn (.tuple #[aE,oH,.int .i64 (y140.2.2.1),.int .i64 (y140.2.2.2.1),.int .i64 (y140.2.2.2.2)]) rfl rfl ?_
   refine Ga aE (Zi rfl rfl) rfl ?_
   refine Ga oH (Zi rfl rfl) rfl ?_
   refine Ga (.int .i64 (y140.2.2.1)) (Zi rfl rfl) rfl ?_
   refine Ga (.int .i64 (y140.2.2.2.1)) (Zi rfl rfl) rfl ?_
   refine Ga (.int .i64 (y140.2.2.2.2)) (Zi rfl rfl) rfl ?_
   refine Ze .plain rfl (D_allocOc (g:=cZ) 2016 (⟨[],[],[]⟩:BoxLoom) Try.zeroValue40 (fun m w=>⟨_,(rep_two rep_nil (rep_two rep_nil rep_nil)),rfl⟩) fun lJ uL a9 hs b141 cb=>?_)
   have hfr:=hfr.stp hs
   have z9:=z9.stp hs rfl
   have u8_0_137:=u8_0_137.stp hs rfl
   have k9:=k9.stp hs rfl
   have l9:=l9.stp hs rfl
   have bE:=bE.stp hs
   have pH:=pH.stp hs
   have s01:OSF 2016 61600 0 lJ uL 3 40 ([]:List Int) a9:=cb.osf (by rfl)
   have t01:OSF 2016 61601 1 lJ uL 3 40 ([]:List Int) a9:=cb.osf (by rfl)
   have u01:OSF 2016 61602 2 lJ uL 37 40 ([]:List Zw) a9:=cb.osf (by rfl)
   clear cb
   refine Zg aE rfl rfl ?_
   refine Ze .plain rfl (D_storeOc (g:=lJ) (v:=oH) Try.sizeOf40 rfl b141 rfl pH fun vL x04 hs b142 cb=>?_)
   clear cb
   have hfr:=hfr.stp hs
   have z9:=z9.stp hs rfl
   have u8_0_137:=u8_0_137.stp hs rfl
   have k9:=k9.stp hs rfl
   have l9:=l9.stp hs rfl
   have bE:=bE.stp hs
   refine Zg (.int .i64 (y140.2.2.1)) rfl rfl ?_
   refine Zg (.int .i64 (y140.2.2.2.1)) rfl rfl ?_
   refine Zg (.int .i64 (y140.2.2.2.2)) rfl rfl ?_
   refine Zb (Zd (Zq h (fun (s:Unit) e w=>∃ (g:Gh) ,Fr gI wI g w∧e 5=p5∧OB 2005 g w 32 (y4:FaultLoom) p5∧e 6=.int .i64 (((((y4).Design).Rows).length:Int))∧e 7=.int .i64 (m7)∧e 8=i6∧OB 2008 g w 40 ((⟨([(3:Int),(3:Int)]:List Int),([(0:Int),(0:Int)]:List Int),([(⟨(0:Int),0,0,(⟨(99:Int),(99:Int)⟩:Span)⟩:Zw),(⟨(1:Int),0,(1:Int),(⟨(99:Int),(99:Int)⟩:Span)⟩:Zw),(⟨(2:Int),(1:Int),(2:Int),(⟨(99:Int),(99:Int)⟩:Span)⟩:Zw)]:List Zw)⟩:BoxLoom):BoxLoom) i6∧OSF 2008 3052 0 g w 3 40 (((⟨([(3:Int),(3:Int)]:List Int),([(0:Int),(0:Int)]:List Int),([(⟨(0:Int),0,0,(⟨(99:Int),(99:Int)⟩:Span)⟩:Zw),(⟨(1:Int),0,(1:Int),(⟨(99:Int),(99:Int)⟩:Span)⟩:Zw),(⟨(2:Int),(1:Int),(2:Int),(⟨(99:Int),(99:Int)⟩:Span)⟩:Zw)]:List Zw)⟩:BoxLoom)).Boxes) i6∧e 9=o0∧OA 4009 g w 3 (g8:List Int) o0∧e 16=a9∧OB 2016 g w 40 (y140.2.1:BoxLoom) a9) (fun X159 mP lV h=>?_) ?_))
   ·obtain ⟨aD, hx, h⟩ := Ge h
    refine E_join (fun e w=>∃ (g:Gh) ,Fr gI wI g w∧e 5=p5∧OB 2005 g w 32 (y4:FaultLoom) p5∧e 6=.int .i64 (((((y4).Design).Rows).length:Int))∧e 7=.int .i64 (m7)∧e 8=i6∧OB 2008 g w 40 ((⟨([(3:Int),(3:Int)]:List Int),([(0:Int),(0:Int)]:List Int),([(⟨(0:Int),0,0,(⟨(99:Int),(99:Int)⟩:Span)⟩:Zw),(⟨(1:Int),0,(1:Int),(⟨(99:Int),(99:Int)⟩:Span)⟩:Zw),(⟨(2:Int),(1:Int),(2:Int),(⟨(99:Int),(99:Int)⟩:Span)⟩:Zw)]:List Zw)⟩:BoxLoom):BoxLoom) i6∧OSF 2008 3052 0 g w 3 40 (((⟨([(3:Int),(3:Int)]:List Int),([(0:Int),(0:Int)]:List Int),([(⟨(0:Int),0,0,(⟨(99:Int),(99:Int)⟩:Span)⟩:Zw),(⟨(1:Int),0,(1:Int),(⟨(99:Int),(99:Int)⟩:Span)⟩:Zw),(⟨(2:Int),(1:Int),(2:Int),(⟨(99:Int),(99:Int)⟩:Span)⟩:Zw)]:List Zw)⟩:BoxLoom)).Boxes) i6∧e 9=o0∧OA 4009 g w 3 (g8:List Int) o0∧e 16=a9∧OB 2016 g w 40 (y140.2.1:BoxLoom) a9∧e 122=.bool (aD)) (fun Q' hQ=>?_) (fun o02 y04 hR=>?_)
    ·replace h := hx
     clear hx
     refine Za (Zn (.int .i64 (y140.2.2.2.2)) rfl rfl ?_)
     refine EL_in (.bool ((y140.2.2.2.2 != (0:Int)))) rfl rfl rfl rfl ?_
     refine Zn (.bool ((y140.2.2.2.2 != (0:Int)))) rfl rfl ?_
     rcases Zt h with ⟨cC,h⟩ | ⟨cC,h⟩
     ·refine Gc rfl rfl cC rfl rfl ?_
      refine Gc rfl rfl cC rfl rfl ?_
      refine Gc rfl rfl cC rfl rfl ?_
      refine Ga (.bool true) (Zl (b:=(y140.2.2.2.2 != (0:Int))) rfl (pick_t cC rfl)) rfl ?_
      refine EL_dead 12 rfl ?_
      refine Zb ?_
      obtain rfl:=sinj h
      exact hQ _ _ ⟨vL,hfr,eG,z9,gG,hG,yD,k9,u8_0_137,zD,l9,rfl,b142,rfl⟩
     ·refine Gb (.int .i64 (y140.2.2.1)) (Zk rfl) rfl rfl cC rfl ?_
      refine Gb (.int .i64 (l5.2.1)) (Zk sN) rfl rfl cC rfl ?_
      refine Gb (.bool ((y140.2.2.1 != l5.2.1))) (P_int rfl rfl rfl) rfl rfl cC rfl ?_
      refine Ga (.bool ((y140.2.2.1 != l5.2.1))) (Zl (b:=(y140.2.2.2.2 != (0:Int))) rfl (pick_f cC rfl)) rfl ?_
      refine Zn (.bool ((y140.2.2.1 != l5.2.1))) rfl rfl ?_
      rcases Zt h with ⟨mC,h⟩ | ⟨mC,h⟩
      ·refine Gc rfl rfl mC rfl rfl ?_
       iterate 3 refine Gc rfl rfl mC rfl rfl ?_
       refine Ga (.bool true) (Zl (b:=(y140.2.2.1 != l5.2.1)) rfl (pick_t mC rfl)) rfl ?_
       refine EL_dead 6 rfl ?_
       refine Zb ?_
       obtain rfl:=sinj h
       exact hQ _ _ ⟨vL,hfr,eG,z9,gG,hG,yD,k9,u8_0_137,zD,l9,rfl,b142,rfl⟩
      ·refine Gb aE (Zk rfl) rfl rfl mC rfl ?_
       refine Gb o0 (Zk zD) rfl rfl mC rfl ?_
       obtain ⟨vF,mV,h⟩:=Ge h
       refine Ze (.yes2 rfl rfl mC) rfl (D_callF (g:=vL) (vs:=[aE,o0]) en13 (.cons rfl (.cons rfl .nil)) (wk13 (RV.lent bE) (OM.lent (l9.toM)) mV) fun xL p02 z04 hs hr=>?_)
       have hfr:=hfr.ext hs
       have z9:=z9.ext hs
       have u8_0_137:=u8_0_137.ext hs
       have k9:=k9.ext hs
       have l9:=l9.ext hs
       have b142:=b142.ext hs
       subst hr
       refine Gb (.bool (!vF)) (P_not rfl) rfl rfl mC rfl ?_
       refine Ga (.bool (!vF)) (Zl (b:=(y140.2.2.1 != l5.2.1)) rfl (pick_f mC rfl)) rfl ?_
       refine Zn (.bool (!vF)) rfl rfl ?_
       rcases Zt h with ⟨qC,h⟩ | ⟨qC,h⟩
       ·refine Gc rfl rfl qC rfl rfl ?_
        iterate 3 refine Gc rfl rfl qC rfl rfl ?_
        refine Ga (.bool true) (Zl (b:=(!vF)) rfl (pick_t qC rfl)) rfl ?_
        refine Zb ?_
        obtain rfl:=sinj h
        exact hQ _ _ ⟨xL,hfr,eG,z9,gG,hG,yD,k9,u8_0_137,zD,l9,rfl,b142,rfl⟩
       ·refine Gb (fPtr a9 2) (Zc at_40_2 rfl (OB.ptr b142)) rfl rfl qC rfl ?_
        refine Ze (.yes2 rfl rfl qC) rfl (D_loadF (g:=xL) part_BoxLoom_2.1 Try.isAgg38 Try.sizeOf38 rfl b142 fun a05 dZ=>?_)
        refine Gb (.int .i64 (((y140.2.1).Shuttles).length:Int)) (P_len Try.underlying38 rfl dZ) rfl rfl qC rfl ?_
        refine Gb (.bool (((((y140.2.1).Shuttles).length:Int) != (3:Int)))) (P_int rfl rfl rfl) rfl rfl qC rfl ?_
        refine Ga (.bool (((((y140.2.1).Shuttles).length:Int) != (3:Int)))) (Zl (b:=(!vF)) rfl (pick_f qC rfl)) rfl ?_
        refine Zb ?_
        obtain rfl:=sinj h
        exact hQ _ _ ⟨xL,hfr,eG,z9,gG,hG,yD,k9,u8_0_137,zD,l9,rfl,b142,rfl⟩
    ·clear hx
     obtain ⟨mZ,hfr,bR,cR,dR,eR,gR,iR,u8_0_174,jR,lR,tN,uN,qH⟩:=hR
     rcases Zt h with ⟨mJ,h⟩ | ⟨mJ,h⟩
     ·refine E_cond_true (Eq.trans (show ev _ _ = .bool (aD) from qH) (congrArg Value.bool mJ)) ?_
      refine Zf (Za (Zg (.bool false) rfl rfl ?_))
      refine Zb (Zd (E_ret (thn_r ?_)))
      obtain rfl:=sinj h
      exact end1 rfl rfl (show _=.bool false from rfl) ⟨_,hfr,rfl⟩
     ·refine E_cond_false (Eq.trans (show ev _ _ = .bool (aD) from qH) (congrArg Value.bool mJ)) ?_
      exact Zu (Zd (lV () _ _ ⟨mZ,hfr,bR,cR,dR,eR,gR,iR,u8_0_174,jR,lR,tN,uN⟩ h))
   ·rintro _ q02 nZ ⟨mR, hfr, nR, iE, oR, pR, qR, lE, u8_0_176, rR, mE, vN, iD⟩ h
    refine Zf (Za ?_)
    have nJ:RV mR.m nZ (⟨List.toArray [0,0,0],rfl⟩:Vector Int 3) (.agg (setCh [[.int .i64 0],[.int .i64 0],[.int .i64 0]] []).flatten.toArray):=RV_build rfl (rep_vec (Zx Zy (Zx Zy (Zx Zy flat_nil))) rfl)
    generalize nV:(Value.agg (setCh [[.int .i64 0],[.int .i64 0],[.int .i64 0]] []).flatten.toArray)=tR at nJ
    refine Ga tR (nV ▸ P_buildA (vs:=[]) [[.int .i64 0],[.int .i64 0],[.int .i64 0]] Try.underlying49 layA_49 szA_3 rfl (by simp) .nil trivial) rfl ?_
    refine Ze .plain rfl (D_allocOc (g:=mR) 2020 ((⟨List.toArray [0,0,0],rfl⟩:Vector Int 3):Vector Int 3) Try.zeroValue49 (fun m w=>⟨_,(rep_vec (Zx Zy (Zx Zy (Zx Zy flat_nil))) rfl),rfl⟩) fun oZ b05 aB hs b178 cb=>?_)
    have hfr:=hfr.stp hs
    have iE:=iE.stp hs rfl
    have u8_0_176:=u8_0_176.stp hs rfl
    have lE:=lE.stp hs rfl
    have mE:=mE.stp hs rfl
    have iD:=iD.stp hs rfl
    have nJ:=nJ.stp hs
    clear cb
    refine Ze .plain rfl (D_storeOc (g:=oZ) (v:=tR) Try.sizeOf49 rfl b178 rfl nJ fun pZ c05 hs b179 cb=>?_)
    clear cb
    have hfr:=hfr.stp hs
    have iE:=iE.stp hs rfl
    have u8_0_176:=u8_0_176.stp hs rfl
    have lE:=lE.stp hs rfl
    have mE:=mE.stp hs rfl
    have iD:=iD.stp hs rfl
    refine Zb (Zd ?_)
    obtain ⟨uC,hx,h⟩:=Ge h
    refine E_join (fun e w=>∃ (g:Gh) ,Fr gI wI g w∧e 5=p5∧OB 2005 g w 32 (y4:FaultLoom) p5∧e 6=.int .i64 (((((y4).Design).Rows).length:Int))∧e 7=.int .i64 (m7)∧e 8=i6∧OB 2008 g w 40 ((⟨([(3:Int),(3:Int)]:List Int),([(0:Int),(0:Int)]:List Int),([(⟨(0:Int),0,0,(⟨(99:Int),(99:Int)⟩:Span)⟩:Zw),(⟨(1:Int),0,(1:Int),(⟨(99:Int),(99:Int)⟩:Span)⟩:Zw),(⟨(2:Int),(1:Int),(2:Int),(⟨(99:Int),(99:Int)⟩:Span)⟩:Zw)]:List Zw)⟩:BoxLoom):BoxLoom) i6∧OSF 2008 3052 0 g w 3 40 (((⟨([(3:Int),(3:Int)]:List Int),([(0:Int),(0:Int)]:List Int),([(⟨(0:Int),0,0,(⟨(99:Int),(99:Int)⟩:Span)⟩:Zw),(⟨(1:Int),0,(1:Int),(⟨(99:Int),(99:Int)⟩:Span)⟩:Zw),(⟨(2:Int),(1:Int),(2:Int),(⟨(99:Int),(99:Int)⟩:Span)⟩:Zw)]:List Zw)⟩:BoxLoom)).Boxes) i6∧e 9=o0∧OA 4009 g w 3 (g8:List Int) o0∧e 16=a9∧OB 2016 g w 40 (y140.2.1:BoxLoom) a9∧e 20=aB∧OB 2020 g w 49 (uC:Vector Int 3) aB) (fun Q' hQ=>?_) (fun r02 d05 hR=>?_)
    ·replace h := hx
     clear hx
     refine Zf (Za (Zg (.int .i64 (0)) rfl rfl ?_))
     refine Zb (Zd (Zr ?_))
     refine E_lp h (fun (s:(Vector Int 3) × Int) e w=>∃ (g:Gh) ,Fr gI wI g w∧e 5=p5∧OB 2005 g w 32 (y4:FaultLoom) p5∧e 6=.int .i64 (((((y4).Design).Rows).length:Int))∧e 7=.int .i64 (m7)∧e 8=i6∧OB 2008 g w 40 ((⟨([(3:Int),(3:Int)]:List Int),([(0:Int),(0:Int)]:List Int),([(⟨(0:Int),0,0,(⟨(99:Int),(99:Int)⟩:Span)⟩:Zw),(⟨(1:Int),0,(1:Int),(⟨(99:Int),(99:Int)⟩:Span)⟩:Zw),(⟨(2:Int),(1:Int),(2:Int),(⟨(99:Int),(99:Int)⟩:Span)⟩:Zw)]:List Zw)⟩:BoxLoom):BoxLoom) i6∧OSF 2008 3052 0 g w 3 40 (((⟨([(3:Int),(3:Int)]:List Int),([(0:Int),(0:Int)]:List Int),([(⟨(0:Int),0,0,(⟨(99:Int),(99:Int)⟩:Span)⟩:Zw),(⟨(1:Int),0,(1:Int),(⟨(99:Int),(99:Int)⟩:Span)⟩:Zw),(⟨(2:Int),(1:Int),(2:Int),(⟨(99:Int),(99:Int)⟩:Span)⟩:Zw)]:List Zw)⟩:BoxLoom)).Boxes) i6∧e 9=o0∧OA 4009 g w 3 (g8:List Int) o0∧e 16=a9∧OB 2016 g w 40 (y140.2.1:BoxLoom) a9∧e 20=aB∧OB 2020 g w 49 (s.1:Vector Int 3) aB∧e 21=.int .i64 (s.2)) ⟨pZ,hfr,nR,iE,oR,pR,qR,lE,u8_0_176,rR,mE,vN,iD,rfl,b179,rfl⟩ (fun X203 cP oV=>?_)
     rintro ⟨rC,d9⟩ s02 e05 ⟨uR,hfr,bK,cK,sH,dK,lK,mK,u8_0_204,nK,oK,iI,jI,kI,lI,mI⟩ h
     refine Zq h (fun (s:Unit) e w=>∃ (g:Gh) ,Fr gI wI g w∧e 5=p5∧OB 2005 g w 32 (y4:FaultLoom) p5∧e 6=.int .i64 (((((y4).Design).Rows).length:Int))∧e 7=.int .i64 (m7)∧e 8=i6∧OB 2008 g w 40 ((⟨([(3:Int),(3:Int)]:List Int),([(0:Int),(0:Int)]:List Int),([(⟨(0:Int),0,0,(⟨(99:Int),(99:Int)⟩:Span)⟩:Zw),(⟨(1:Int),0,(1:Int),(⟨(99:Int),(99:Int)⟩:Span)⟩:Zw),(⟨(2:Int),(1:Int),(2:Int),(⟨(99:Int),(99:Int)⟩:Span)⟩:Zw)]:List Zw)⟩:BoxLoom):BoxLoom) i6∧OSF 2008 3052 0 g w 3 40 (((⟨([(3:Int),(3:Int)]:List Int),([(0:Int),(0:Int)]:List Int),([(⟨(0:Int),0,0,(⟨(99:Int),(99:Int)⟩:Span)⟩:Zw),(⟨(1:Int),0,(1:Int),(⟨(99:Int),(99:Int)⟩:Span)⟩:Zw),(⟨(2:Int),(1:Int),(2:Int),(⟨(99:Int),(99:Int)⟩:Span)⟩:Zw)]:List Zw)⟩:BoxLoom)).Boxes) i6∧e 9=o0∧OA 4009 g w 3 (g8:List Int) o0∧e 16=a9∧OB 2016 g w 40 (y140.2.1:BoxLoom) a9∧e 20=aB∧OB 2020 g w 49 (rC:Vector Int 3) aB∧e 21=.int .i64 (d9)) (fun X206 dP pV h=>?_) ?_
     ·refine Zf (Za (Zo mI rfl ?_))
      refine Zo sH rfl ?_
      refine Ga (.bool ((decide (d9 < ((((y4).Design).Rows).length:Int))))) (P_int rfl rfl rfl) rfl ?_
      refine Zb (Zd ?_)
      rcases Zt h with ⟨oJ,h⟩ | ⟨oJ,h⟩
      ·refine E_ct oJ rfl ?_
       exact Zu (Zd (pV () _ _ ⟨uR,hfr,bK,cK,sH,dK,lK,mK,u8_0_204,nK,oK,iI,jI,kI,lI,mI⟩ h))
      ·refine E_cf oJ rfl ?_
       refine E_exit ?_
       refine thn_e ?_
       refine thn_e ?_
       refine blk_hit ?_
       obtain rfl:=sinj h
       exact hQ _ _ ⟨uR,hfr,bK,cK,sH,dK,lK,mK,u8_0_204,nK,oK,iI,jI,kI,lI⟩
     ·rintro _ t02 g05 ⟨yL, hfr, vR, tH, xR, yR, zR, uH, u8_0_208, pK, oE, xN, kG, lG, sF, nI⟩ h
      obtain ⟨xE,hx,h⟩:=Ge h
      refine E_join (fun e w=>∃ (g:Gh) ,Fr gI wI g w∧e 5=p5∧OB 2005 g w 32 (y4:FaultLoom) p5∧e 6=.int .i64 (((((y4).Design).Rows).length:Int))∧e 7=.int .i64 (m7)∧e 8=i6∧OB 2008 g w 40 ((⟨([(3:Int),(3:Int)]:List Int),([(0:Int),(0:Int)]:List Int),([(⟨(0:Int),0,0,(⟨(99:Int),(99:Int)⟩:Span)⟩:Zw),(⟨(1:Int),0,(1:Int),(⟨(99:Int),(99:Int)⟩:Span)⟩:Zw),(⟨(2:Int),(1:Int),(2:Int),(⟨(99:Int),(99:Int)⟩:Span)⟩:Zw)]:List Zw)⟩:BoxLoom):BoxLoom) i6∧OSF 2008 3052 0 g w 3 40 (((⟨([(3:Int),(3:Int)]:List Int),([(0:Int),(0:Int)]:List Int),([(⟨(0:Int),0,0,(⟨(99:Int),(99:Int)⟩:Span)⟩:Zw),(⟨(1:Int),0,(1:Int),(⟨(99:Int),(99:Int)⟩:Span)⟩:Zw),(⟨(2:Int),(1:Int),(2:Int),(⟨(99:Int),(99:Int)⟩:Span)⟩:Zw)]:List Zw)⟩:BoxLoom)).Boxes) i6∧e 9=o0∧OA 4009 g w 3 (g8:List Int) o0∧e 16=a9∧OB 2016 g w 40 (y140.2.1:BoxLoom) a9∧e 20=aB∧OB 2020 g w 49 (xE:Vector Int 3) aB∧e 21=.int .i64 (d9)) (fun Q' hQ=>?_) (fun u02 h05 hR=>?_)
      ·replace h := hx
       clear hx
       refine Zr ?_
       refine Za (Zo pK rfl ?_)
       refine Zo nI rfl ?_
       obtain ⟨jG,vM,h⟩:=Ge h
       refine Ga (ePtr o0 d9 1) (P_indexAddrM (α:=Int) Try.underlying26 Try.sizeOf3 rfl (oE.toM) rfl vM) rfl ?_
       refine Ze .plain rfl (D_loadM (g:=yL) Try.isAgg3 Try.sizeOf3 rfl (oE.toM) vM fun i05 qZ=>?_)
       obtain rfl:=Zj.1 qZ
       obtain ⟨pL,xM,h⟩:=Ge h
       obtain ⟨hi220,he220⟩:=vat_idx xM
       refine Ga (fPtr aB ((jG:Int).toNat * 1)) (P_indexAddrA (α:=Int) Try.underlying49 Try.sizeOf3 lG (OB.ptr sF) rfl xM) rfl ?_
       refine Ze .plain rfl (D_loadD (g:=yL) (SubS.dyn hi220).1 he220 Try.isAgg3 Try.sizeOf3 rfl sF fun j05 rZ=>?_)
       obtain rfl:=Zj.1 rZ
       refine EL_in (.int .i64 ((w64 (pL + (1:Int))))) rfl rfl rfl rfl ?_
       obtain ⟨dY,bN,h⟩:=Ge h
       obtain ⟨hi223,he223⟩:=vat_idx bN
       refine Ga (fPtr aB ((jG:Int).toNat * 1)) (P_indexAddrA (α:=Int) Try.underlying49 Try.sizeOf3 lG (OB.ptr sF) rfl bN) rfl ?_
       refine Ze .plain rfl (D_storeFc (g:=yL) (SubS.dyn hi223) Try.sizeOf3 rfl sF rfl (Zj.2 rfl) fun sZ k05 hs b224 rst hos=>?_)
       clear rst hos
       have hfr:=hfr.stp hs
       have tH:=tH.stp hs rfl
       have u8_0_208:=u8_0_208.stp hs rfl
       have uH:=uH.stp hs rfl
       have oE:=oE.stp hs rfl
       have kG:=kG.stp hs rfl
       refine Zb (blk_n ?_)
       obtain rfl:=sinj h
       exact hQ _ _ ⟨sZ,hfr,vR,tH,xR,yR,zR,uH,u8_0_208,pK,oE,xN,kG,lG,b224,nI⟩
      ·clear hx
       obtain ⟨tZ,hfr,aS,bS,cS,dS,eS,gS,u8_0_225,iS,jS,yN,zN,aO,bO,cO⟩:=hR
       refine Za (Zo cO rfl ?_)
       refine EL_in (.int .i64 ((w64 (d9 + (1:Int))))) rfl rfl rfl rfl ?_
       refine Zg (.int .i64 ((w64 (d9 + (1:Int))))) rfl rfl ?_
       exact Zb (Zd (oV (xE,(w64 (d9 + (1:Int)))) _ _ ⟨tZ,hfr,aS,bS,cS,dS,eS,gS,u8_0_225,iS,jS,yN,zN,aO,bO,rfl⟩ h))
    ·clear hx
     obtain ⟨uZ,hfr,lS,mS,nS,oS,pS,qS,u8_0_226,rS,sS,dO,eO,gO,jO⟩:=hR
     refine Zq h (fun (s:Unit) e w=>∃ (g:Gh) ,Fr gI wI g w∧e 5=p5∧OB 2005 g w 32 (y4:FaultLoom) p5∧e 6=.int .i64 (((((y4).Design).Rows).length:Int))∧e 7=.int .i64 (m7)∧e 8=i6∧OB 2008 g w 40 ((⟨([(3:Int),(3:Int)]:List Int),([(0:Int),(0:Int)]:List Int),([(⟨(0:Int),0,0,(⟨(99:Int),(99:Int)⟩:Span)⟩:Zw),(⟨(1:Int),0,(1:Int),(⟨(99:Int),(99:Int)⟩:Span)⟩:Zw),(⟨(2:Int),(1:Int),(2:Int),(⟨(99:Int),(99:Int)⟩:Span)⟩:Zw)]:List Zw)⟩:BoxLoom):BoxLoom) i6∧OSF 2008 3052 0 g w 3 40 (((⟨([(3:Int),(3:Int)]:List Int),([(0:Int),(0:Int)]:List Int),([(⟨(0:Int),0,0,(⟨(99:Int),(99:Int)⟩:Span)⟩:Zw),(⟨(1:Int),0,(1:Int),(⟨(99:Int),(99:Int)⟩:Span)⟩:Zw),(⟨(2:Int),(1:Int),(2:Int),(⟨(99:Int),(99:Int)⟩:Span)⟩:Zw)]:List Zw)⟩:BoxLoom)).Boxes) i6∧e 9=o0∧OA 4009 g w 3 (g8:List Int) o0) (fun X327 iP qV h=>?_) ?_
     ·refine Zf (Za (Zg (.int .i64 (0)) rfl rfl ?_))
      refine Zb (Zd (Zr ?_))
      refine E_lp h (fun (s:Int) e w=>∃ (g:Gh) ,Fr gI wI g w∧e 5=p5∧OB 2005 g w 32 (y4:FaultLoom) p5∧e 6=.int .i64 (((((y4).Design).Rows).length:Int))∧e 7=.int .i64 (m7)∧e 8=i6∧OB 2008 g w 40 ((⟨([(3:Int),(3:Int)]:List Int),([(0:Int),(0:Int)]:List Int),([(⟨(0:Int),0,0,(⟨(99:Int),(99:Int)⟩:Span)⟩:Zw),(⟨(1:Int),0,(1:Int),(⟨(99:Int),(99:Int)⟩:Span)⟩:Zw),(⟨(2:Int),(1:Int),(2:Int),(⟨(99:Int),(99:Int)⟩:Span)⟩:Zw)]:List Zw)⟩:BoxLoom):BoxLoom) i6∧OSF 2008 3052 0 g w 3 40 (((⟨([(3:Int),(3:Int)]:List Int),([(0:Int),(0:Int)]:List Int),([(⟨(0:Int),0,0,(⟨(99:Int),(99:Int)⟩:Span)⟩:Zw),(⟨(1:Int),0,(1:Int),(⟨(99:Int),(99:Int)⟩:Span)⟩:Zw),(⟨(2:Int),(1:Int),(2:Int),(⟨(99:Int),(99:Int)⟩:Span)⟩:Zw)]:List Zw)⟩:BoxLoom)).Boxes) i6∧e 9=o0∧OA 4009 g w 3 (g8:List Int) o0∧e 16=a9∧OB 2016 g w 40 (y140.2.1:BoxLoom) a9∧e 20=aB∧OB 2020 g w 49 (uC:Vector Int 3) aB∧e 22=.int .i64 (s)) ⟨uZ,hfr,lS,mS,nS,oS,pS,qS,u8_0_226,rS,sS,dO,eO,gO,jO,rfl⟩ (fun X328 jP rV=>?_)
      rintro k8 v02 l05 ⟨tS,hfr,qK,sK,tK,uK,vK,xK,u8_0_329,yK,zK,kO,lO,mO,nO,pI⟩ h
      refine Zq h (fun (s:Unit) e w=>∃ (g:Gh) ,Fr gI wI g w∧e 5=p5∧OB 2005 g w 32 (y4:FaultLoom) p5∧e 6=.int .i64 (((((y4).Design).Rows).length:Int))∧e 7=.int .i64 (m7)∧e 8=i6∧OB 2008 g w 40 ((⟨([(3:Int),(3:Int)]:List Int),([(0:Int),(0:Int)]:List Int),([(⟨(0:Int),0,0,(⟨(99:Int),(99:Int)⟩:Span)⟩:Zw),(⟨(1:Int),0,(1:Int),(⟨(99:Int),(99:Int)⟩:Span)⟩:Zw),(⟨(2:Int),(1:Int),(2:Int),(⟨(99:Int),(99:Int)⟩:Span)⟩:Zw)]:List Zw)⟩:BoxLoom):BoxLoom) i6∧OSF 2008 3052 0 g w 3 40 (((⟨([(3:Int),(3:Int)]:List Int),([(0:Int),(0:Int)]:List Int),([(⟨(0:Int),0,0,(⟨(99:Int),(99:Int)⟩:Span)⟩:Zw),(⟨(1:Int),0,(1:Int),(⟨(99:Int),(99:Int)⟩:Span)⟩:Zw),(⟨(2:Int),(1:Int),(2:Int),(⟨(99:Int),(99:Int)⟩:Span)⟩:Zw)]:List Zw)⟩:BoxLoom)).Boxes) i6∧e 9=o0∧OA 4009 g w 3 (g8:List Int) o0∧e 16=a9∧OB 2016 g w 40 (y140.2.1:BoxLoom) a9∧e 20=aB∧OB 2020 g w 49 (uC:Vector Int 3) aB∧e 22=.int .i64 (k8)) (fun X331 lP sV h=>?_) ?_
      ·refine Zf (Za (Zo pI rfl ?_))
       refine EL_in (.bool ((decide (k8 < (3:Int))))) rfl rfl rfl rfl ?_
       refine Zb (Zd ?_)
       rcases Zt h with ⟨pJ,h⟩ | ⟨pJ,h⟩
       ·refine E_ct pJ rfl ?_
        exact Zu (Zd (sV () _ _ ⟨tS,hfr,qK,sK,tK,uK,vK,xK,u8_0_329,yK,zK,kO,lO,mO,nO,pI⟩ h))
       ·refine E_cf pJ rfl ?_
        refine E_exit ?_
        refine thn_e ?_
        refine thn_e ?_
        refine blk_hit ?_
        exact Zd (qV () _ _ ⟨tS,hfr,qK,sK,tK,uK,vK,xK,u8_0_329,yK,zK⟩ h)
      ·rintro _ x02 m05 ⟨zL, hfr, uS, xH, vS, xS, aL, rE, u8_0_333, yS, yH, qI, jD, sI, lD, tF⟩ h
       refine Zq h (fun (s:Unit) e w=>∃ (g:Gh) ,Fr gI wI g w∧e 5=p5∧OB 2005 g w 32 (y4:FaultLoom) p5∧e 6=.int .i64 (((((y4).Design).Rows).length:Int))∧e 7=.int .i64 (m7)∧e 8=i6∧OB 2008 g w 40 ((⟨([(3:Int),(3:Int)]:List Int),([(0:Int),(0:Int)]:List Int),([(⟨(0:Int),0,0,(⟨(99:Int),(99:Int)⟩:Span)⟩:Zw),(⟨(1:Int),0,(1:Int),(⟨(99:Int),(99:Int)⟩:Span)⟩:Zw),(⟨(2:Int),(1:Int),(2:Int),(⟨(99:Int),(99:Int)⟩:Span)⟩:Zw)]:List Zw)⟩:BoxLoom):BoxLoom) i6∧OSF 2008 3052 0 g w 3 40 (((⟨([(3:Int),(3:Int)]:List Int),([(0:Int),(0:Int)]:List Int),([(⟨(0:Int),0,0,(⟨(99:Int),(99:Int)⟩:Span)⟩:Zw),(⟨(1:Int),0,(1:Int),(⟨(99:Int),(99:Int)⟩:Span)⟩:Zw),(⟨(2:Int),(1:Int),(2:Int),(⟨(99:Int),(99:Int)⟩:Span)⟩:Zw)]:List Zw)⟩:BoxLoom)).Boxes) i6∧e 9=o0∧OA 4009 g w 3 (g8:List Int) o0∧e 16=a9∧OB 2016 g w 40 (y140.2.1:BoxLoom) a9∧e 20=aB∧OB 2020 g w 49 (uC:Vector Int 3) aB∧e 22=.int .i64 (k8)) (fun X380 kP tV h=>?_) ?_
       ·refine Zr ?_
        refine Zf (Za (Ga (fPtr i6 2) (Zc at_40_2 aL (OB.ptr rE)) rfl ?_))
        refine Ze .plain rfl (D_loadF (g:=zL) part_BoxLoom_2.1 Try.isAgg38 Try.sizeOf38 rfl rE fun zS eT=>?_)
        refine Zo tF rfl ?_
        obtain ⟨jH,cN,h⟩:=Ge h
        refine Ga (ePtr zS k8 5) (Zh (α:=Zw) Try.underlying38 Try.sizeOf37 rfl eT rfl cN) rfl ?_
        have lT:=PT_idx eT cN
        refine Ga (fPtr (ePtr zS k8 5) 1) (Zc at_37_1 rfl (PT.ptr lT)) rfl ?_
        have vZ:=Zm (part_BoxShuttle_1).1 lT
        refine Ze .plain rfl (D_load (g:=zL) Try.isAgg3 Try.sizeOf3 rfl vZ fun n05 xZ=>?_)
        obtain rfl:=Zj.1 xZ
        refine Zg (.int .i64 ((jH).Side)) rfl rfl ?_
        refine Zb (Zd (Zf (L_loadO (x:=.tmp 147) part_BoxLoom_2.1 Try.isAgg38 Try.sizeOf38 jD fun aM mT uV=>?_)))
        obtain ⟨vI,dN,h⟩:=Ge h
        have nT:=PT_idx mT dN
        have yZ:=Zm (part_BoxShuttle_1).1 nT
        refine Zs (x:=.tmp 151) Try.isAgg3 Try.sizeOf3 yZ fun o05 zZ vV=>?_
        obtain rfl:=Zj.1 zZ
        obtain ⟨yI,eN,h⟩:=Ge h
        obtain ⟨hi394,he394⟩:=vat_idx eN
        refine L_loadOD (off:=((k8:Int).toNat * 1)) (x:=.tmp 155) (SubS.dyn hi394).1 he394 Try.isAgg3 Try.sizeOf3 lD fun p05 a00 xV=>?_
        obtain rfl:=Zj.1 a00
        obtain ⟨zI,yV,h⟩:=Ge h
        refine E_drawL (g:=zL) (n:=13) [] [0,1,2,3,4,5,6,7,8,9,10,11,12] rfl mixed (by kernel_rfl) trivial ?_
        refine Gd (fPtr a9 2) rfl rfl (Zc at_40_2 qI (OB.ptr jD)) ?_
        refine L_ld (c:=aM) rfl rfl .plain (fun _ _ h=>⟨h.ch,fun b hb _=>h.below.block b hb⟩) uV rfl ?_
        refine Gd (.int .i64 (k8)) rfl rfl (Zk tF) ?_
        refine Gd (ePtr aM k8 5) rfl rfl (Zh (α:=Zw) Try.underlying38 Try.sizeOf37 rfl mT rfl dN) ?_
        refine Gd (fPtr (ePtr aM k8 5) 1) rfl rfl (Zc at_37_1 rfl (PT.ptr nT)) ?_
        refine L_ld (c:=.int .i64 ((vI).Side)) rfl rfl .plain (fun _ _ h=>h.ch) vV rfl ?_
        refine Gd (.int .i64 ((jH).Side)) rfl rfl (Zk rfl) ?_
        refine Gd (.int .i64 (k8)) rfl rfl (Zk tF) ?_
        refine Gd (fPtr aB ((k8:Int).toNat * 1)) rfl rfl (P_indexAddrA (α:=Int) Try.underlying49 Try.sizeOf3 sI (OB.ptr lD) rfl eN) ?_
        refine L_ld (c:=.int .i64 (yI)) rfl rfl .plain (fun _ _ h=>⟨h.ch,fun b hb _=>h.below.block b hb⟩) xV rfl ?_
        refine Gd (.int .i64 ((w64 ((jH).Side + yI)))) rfl rfl (P_int rfl rfl rfl) ?_
        refine Gd (.int .i64 (zI)) rfl rfl (P_int rfl rfl (congrArg (Option.map (Value.int .i64)) yV)) ?_
        refine Gd (.bool (((vI).Side != zI))) rfl rfl (P_int rfl rfl rfl) ?_
        refine L_nl fun b00 q05 hs=>?_
        have hfr:=hfr.ext hs
        have xH:=xH.ext hs
        have u8_0_333:=u8_0_333.ext hs
        have rE:=rE.ext hs
        have yH:=yH.ext hs
        have jD:=jD.ext hs
        have lD:=lD.ext hs
        clear hs
        refine Zb (Zd ?_)
        rcases Zt h with ⟨qJ,h⟩ | ⟨qJ,h⟩
        ·refine E_ct qJ rfl ?_
         refine Zf (Za (Zg (.bool false) rfl rfl ?_))
         refine Zb (Zd (E_ret (blk_r ?_)))
         refine thn_r ?_
         refine thn_r ?_
         refine blk_r ?_
         refine thn_r ?_
         obtain rfl:=sinj h
         exact end1 rfl rfl (show _=.bool false from rfl) ⟨_,hfr,rfl⟩
        ·refine E_cf qJ rfl ?_
         exact Zu (blk_n (Zd (tV () _ _ ⟨b00,hfr,uS,xH,vS,xS,aL,rE,u8_0_333,yS,yH,qI,jD,sI,lD,tF⟩ h)))
       ·rintro _ y02 r05 ⟨c00, hfr, oT, pT, sT, tT, uT, xT, u8_0_427, yT, zT, oO, pO, qO, rO, sO⟩ h
        refine Za (Zo sO rfl ?_)
        refine EL_in (.int .i64 ((w64 (k8 + (1:Int))))) rfl rfl rfl rfl ?_
        refine Zg (.int .i64 ((w64 (k8 + (1:Int))))) rfl rfl ?_
        exact Zb (Zd (rV ((w64 (k8 + (1:Int)))) _ _ ⟨c00,hfr,oT,pT,sT,tT,uT,xT,u8_0_427,yT,zT,oO,pO,qO,rO,rfl⟩ h))
     ·rintro _ z02 s05 ⟨aU, hfr, bL, vB, r8, n9, nD, y6, u8_0_428, oD, i7⟩ h
      refine Zf (Za (Ze .plain rfl (D_loadO (g:=aU) Try.isAgg32 Try.sizeOf32 bL vB fun d00 g00=>?_)))
      obtain ⟨eP,zV,h⟩:=Ge h
      refine Ze .plain rfl (Zp (g:=aU) (vs:=[d00]) en15 (.cons rfl .nil) (wk15 g00 zV) fun bU aW h00 hs hr=>?_)
      have hfr:=hfr.ext hs
      have vB:=vB.ext hs
      have u8_0_428:=u8_0_428.ext hs
      have y6:=y6.ext hs
      have i7:=i7.ext hs
      have bM:=hr
      refine Zo n9 rfl ?_
      have cU:RV bU.m aW (⟨(4:Int),m7,0,0,false⟩:Zv) (.agg (setCh [[.int .i64 0],[.int .i64 0],[.int .i64 0],[.int .i64 0],[.bool false]] [(0,.int .i64 (4)),(1,.int .i64 (m7))]).flatten.toArray):=RV_build rfl (rep_pair (rfl) (rep_pair (rfl) (rep_pair (Zy) (rep_pair (Zy) (rep_last (rep_bool))))))
      generalize bW:(Value.agg (setCh [[.int .i64 0],[.int .i64 0],[.int .i64 0],[.int .i64 0],[.bool false]] [(0,.int .i64 (4)),(1,.int .i64 (m7))]).flatten.toArray)=dU at cU
      refine Ga dU (bW ▸ P_build (vs:=[(0,.int .i64 (4)),(1,.int .i64 (m7))]) [[.int .i64 0],[.int .i64 0],[.int .i64 0],[.int .i64 0],[.bool false]] lay_56 rfl rfl (.cons rfl (.cons rfl .nil)) ⟨⟨_,rfl,rfl⟩,⟨⟨_,rfl,rfl⟩,trivial⟩⟩) rfl ?_
      refine Ze .plain rfl (D_buildSlice (g:=bU) 3165 (xs:=([(⟨(4:Int),m7,0,0,false⟩:Zv)]:List Zv)) (vs:=[dU]) Try.underlying57 Try.sizeOf56 Try.zeroValue56 rfl rfl (.cons rfl .nil) (RVs.cons cU RVs.nil) rfl rfl fun i00 t05 j00 hs o433 k00 hxt hfl=>?_)
      have hfr:=hfr.stp hs
      have vB:=vB.stp hs rfl
      have u8_0_428:=u8_0_428.stp hs rfl
      have y6:=y6.stp hs rfl
      have i7:=i7.stp hs rfl
      have bM:=bM.stp hs
      refine Zo r8 rfl ?_
      obtain ⟨t5,cW,h⟩:=Ge h
      refine Ze .plain rfl (Zp (g:=i00) (vs:=[h00,j00,.int .i64 (((((y4).Design).Rows).length:Int))]) en14 (.cons rfl (.cons rfl (.cons rfl .nil))) (wk14 bM k00 cW) fun eU a03 u05 hs hr=>?_)
      have hfr:=hfr.ext hs
      have vB:=vB.ext hs
      have u8_0_428:=u8_0_428.ext hs
      have y6:=y6.ext hs
      have i7:=i7.ext hs
      obtain ⟨u9,v01,rfl,y9,rfl⟩:=hr
      refine Zn (.tuple #[u9,.int .i64 (t5.2)]) rfl rfl ?_
      refine Ga u9 (Zi rfl rfl) rfl ?_
      refine Ga (.int .i64 (t5.2)) (Zi rfl rfl) rfl ?_
      refine Zg u9 rfl rfl ?_
      refine Zg (.int .i64 (t5.2)) rfl rfl ?_
      refine Zb (Zd (Zf (Za (Ze .plain rfl (D_loadO (g:=eU) Try.isAgg32 Try.sizeOf32 bL vB fun l00 m00=>?_)))))
      obtain ⟨gP,dW,h⟩:=Ge h
      refine Ze .plain rfl (Zp (g:=eU) (vs:=[l00]) en15 (.cons rfl .nil) (wk15 m00 dW) fun n00 b03 o00 hs hr=>?_)
      have hfr:=hfr.ext hs
      have u8_0_428:=u8_0_428.ext hs
      have y6:=y6.ext hs
      have i7:=i7.ext hs
      have y9:=y9.ext hs
      have p00:=hr
      refine Zo r8 rfl ?_
      obtain ⟨x5,eW,h⟩:=Ge h
      refine Ze .plain rfl (Zp (g:=n00) (vs:=[o00,.slice none 0 0,.int .i64 (((((y4).Design).Rows).length:Int))]) en14 (.cons rfl (.cons rfl (.cons rfl .nil))) (wk14 p00 RV_nil eW) fun mG c03 v05 hs hr=>?_)
      have hfr:=hfr.ext hs
      have u8_0_428:=u8_0_428.ext hs
      have y6:=y6.ext hs
      have i7:=i7.ext hs
      have y9:=y9.ext hs
      obtain ⟨bA,x01,rfl,yB,rfl⟩:=hr
      refine Zn (.tuple #[bA,.int .i64 (x5.2)]) rfl rfl ?_
      refine Ga bA (Zi rfl rfl) rfl ?_
      refine Ga (.int .i64 (x5.2)) (Zi rfl rfl) rfl ?_
      refine Zg bA rfl rfl ?_
      refine Zg (.int .i64 (x5.2)) rfl rfl ?_
      refine Zb (Zd (Zq h (fun (s:Unit) e w=>∃ (g:Gh) ,Fr gI wI g w∧e 6=.int .i64 (((((y4).Design).Rows).length:Int))∧e 7=.int .i64 (m7)∧e 8=i6∧OB 2008 g w 40 ((⟨([(3:Int),(3:Int)]:List Int),([(0:Int),(0:Int)]:List Int),([(⟨(0:Int),0,0,(⟨(99:Int),(99:Int)⟩:Span)⟩:Zw),(⟨(1:Int),0,(1:Int),(⟨(99:Int),(99:Int)⟩:Span)⟩:Zw),(⟨(2:Int),(1:Int),(2:Int),(⟨(99:Int),(99:Int)⟩:Span)⟩:Zw)]:List Zw)⟩:BoxLoom):BoxLoom) i6∧OSF 2008 3052 0 g w 3 40 (((⟨([(3:Int),(3:Int)]:List Int),([(0:Int),(0:Int)]:List Int),([(⟨(0:Int),0,0,(⟨(99:Int),(99:Int)⟩:Span)⟩:Zw),(⟨(1:Int),0,(1:Int),(⟨(99:Int),(99:Int)⟩:Span)⟩:Zw),(⟨(2:Int),(1:Int),(2:Int),(⟨(99:Int),(99:Int)⟩:Span)⟩:Zw)]:List Zw)⟩:BoxLoom)).Boxes) i6∧e 9=o0∧OA 4009 g w 3 (g8:List Int) o0) (fun X1357 cM gU h=>?_) ?_))
      ·obtain ⟨tB, hx, h⟩ := Ge h
       refine E_join (fun e w=>∃ (g:Gh) ,Fr gI wI g w∧e 6=.int .i64 (((((y4).Design).Rows).length:Int))∧e 7=.int .i64 (m7)∧e 8=i6∧OB 2008 g w 40 ((⟨([(3:Int),(3:Int)]:List Int),([(0:Int),(0:Int)]:List Int),([(⟨(0:Int),0,0,(⟨(99:Int),(99:Int)⟩:Span)⟩:Zw),(⟨(1:Int),0,(1:Int),(⟨(99:Int),(99:Int)⟩:Span)⟩:Zw),(⟨(2:Int),(1:Int),(2:Int),(⟨(99:Int),(99:Int)⟩:Span)⟩:Zw)]:List Zw)⟩:BoxLoom):BoxLoom) i6∧OSF 2008 3052 0 g w 3 40 (((⟨([(3:Int),(3:Int)]:List Int),([(0:Int),(0:Int)]:List Int),([(⟨(0:Int),0,0,(⟨(99:Int),(99:Int)⟩:Span)⟩:Zw),(⟨(1:Int),0,(1:Int),(⟨(99:Int),(99:Int)⟩:Span)⟩:Zw),(⟨(2:Int),(1:Int),(2:Int),(⟨(99:Int),(99:Int)⟩:Span)⟩:Zw)]:List Zw)⟩:BoxLoom)).Boxes) i6∧e 9=o0∧OA 4009 g w 3 (g8:List Int) o0∧e 222=.bool (tB)) (fun Q' hQ=>?_) (fun y01 d03 hR=>?_)
       ·replace h := hx
        clear hx
        rcases Zt h with ⟨n8,h⟩ | ⟨n8,h⟩
        ·refine E_drawL (g := mG) (n := 46) [] [0, 1, 2, 3, 4, 5, 6, 7, 8, 9, 10, 11, 12, 13, 14, 15, 16, 17, 18, 19, 20, 21, 22, 23, 24, 25, 26, 27, 28, 29, 30, 31, 32, 33, 34, 35, 36, 37, 38, 39, 40, 41, 42, 43, 44, 45] rfl mixed (by kernel_rfl) trivial ?_
         refine Gd (.int .i64 (t5.2)) rfl rfl (Zk rfl) ?_
         refine Gd (.bool ((t5.2 != (0:Int)))) rfl rfl (P_int rfl rfl rfl) ?_
         refine Gd (.bool ((t5.2 != (0:Int)))) rfl rfl (Zk rfl) ?_
         refine L_s rfl rfl rfl n8 rfl ?_
         refine L_s rfl rfl rfl n8 rfl ?_
         refine Gd (.bool true) rfl rfl (Zl (b:=(t5.2 != (0:Int))) rfl (pick_t n8 rfl)) ?_
         refine L_dead (fun _=>rfl) 40 rfl ?_
         refine L_nl fun gW e03 hs=>?_
         have hfr:=hfr.ext hs
         have u8_0_428:=u8_0_428.ext hs
         have y6:=y6.ext hs
         have i7:=i7.ext hs
         clear hs
         refine Zb ?_
         obtain rfl:=sinj h
         exact hQ _ _ ⟨gW,hfr,r8,n9,nD,y6,u8_0_428,oD,i7,rfl⟩
        ·rcases Zt h with ⟨l8, h⟩ | ⟨l8, h⟩
         ·refine E_drawL (g := mG) (n := 46) [] [0, 1, 2, 3, 4, 5, 6, 7, 8, 9, 10, 11, 12, 13, 14, 15, 16, 17, 18, 19, 20, 21, 22, 23, 24, 25, 26, 27, 28, 29, 30, 31, 32, 33, 34, 35, 36, 37, 38, 39, 40, 41, 42, 43, 44, 45] rfl mixed (by kernel_rfl) trivial ?_
          refine Gd (.int .i64 (t5.2)) rfl rfl (Zk rfl) ?_
          refine Gd (.bool ((t5.2 != (0:Int)))) rfl rfl (P_int rfl rfl rfl) ?_
          refine Gd (.bool ((t5.2 != (0:Int)))) rfl rfl (Zk rfl) ?_
          refine L_y (.int .i64 (x5.2)) rfl rfl rfl rfl n8 (Zk rfl) ?_
          refine L_y (.bool ((x5.2 != (0:Int)))) rfl rfl rfl rfl n8 (P_int rfl rfl rfl) ?_
          refine Gd (.bool ((x5.2 != (0:Int)))) rfl rfl (Zl (b:=(t5.2 != (0:Int))) rfl (pick_f n8 rfl)) ?_
          refine Gd (.bool ((x5.2 != (0:Int)))) rfl rfl (Zk rfl) ?_
          iterate 4 refine L_s rfl rfl rfl l8 rfl ?_
          refine Gd (.bool true) rfl rfl (Zl (b:=(x5.2 != (0:Int))) rfl (pick_t l8 rfl)) ?_
          refine L_dead (fun _=>rfl) 34 rfl ?_
          refine L_nl fun iW g03 hs=>?_
          have hfr:=hfr.ext hs
          have u8_0_428:=u8_0_428.ext hs
          have y6:=y6.ext hs
          have i7:=i7.ext hs
          clear hs
          refine Zb ?_
          obtain rfl:=sinj h
          exact hQ _ _ ⟨iW,hfr,r8,n9,nD,y6,u8_0_428,oD,i7,rfl⟩
         ·rcases Zt h with ⟨v8, h⟩ | ⟨v8, h⟩
          ·refine E_drawL (g := mG) (n := 46) [] [0, 1, 2, 3, 4, 5, 6, 7, 8, 9, 10, 11, 12, 13, 14, 15, 16, 17, 18, 19, 20, 21, 22, 23, 24, 25, 26, 27, 28, 29, 30, 31, 32, 33, 34, 35, 36, 37, 38, 39, 40, 41, 42, 43, 44, 45] rfl mixed (by kernel_rfl) trivial ?_
           refine Gd (.int .i64 (t5.2)) rfl rfl (Zk rfl) ?_
           refine Gd (.bool ((t5.2 != (0:Int)))) rfl rfl (P_int rfl rfl rfl) ?_
           refine Gd (.bool ((t5.2 != (0:Int)))) rfl rfl (Zk rfl) ?_
           refine L_y (.int .i64 (x5.2)) rfl rfl rfl rfl n8 (Zk rfl) ?_
           refine L_y (.bool ((x5.2 != (0:Int)))) rfl rfl rfl rfl n8 (P_int rfl rfl rfl) ?_
           refine Gd (.bool ((x5.2 != (0:Int)))) rfl rfl (Zl (b:=(t5.2 != (0:Int))) rfl (pick_f n8 rfl)) ?_
           refine Gd (.bool ((x5.2 != (0:Int)))) rfl rfl (Zk rfl) ?_
           refine L_y u9 rfl rfl rfl rfl l8 (Zk rfl) ?_
           refine L_y (.int .i64 ((t5.1).length:Int)) rfl rfl rfl rfl l8 (P_len Try.underlying50 rfl y9) ?_
           refine L_y (.int .i64 (((((y4).Design).Rows).length:Int))) rfl rfl rfl rfl l8 (Zk r8) ?_
           refine L_y (.bool ((((t5.1).length:Int) != ((((y4).Design).Rows).length:Int)))) rfl rfl rfl rfl l8 (P_int rfl rfl rfl) ?_
           refine Gd (.bool ((((t5.1).length:Int) != ((((y4).Design).Rows).length:Int)))) rfl rfl (Zl (b:=(x5.2 != (0:Int))) rfl (pick_f l8 rfl)) ?_
           refine Gd (.bool ((((t5.1).length:Int) != ((((y4).Design).Rows).length:Int)))) rfl rfl (Zk rfl) ?_
           iterate 4 refine L_s rfl rfl rfl v8 rfl ?_
           refine Gd (.bool true) rfl rfl (Zl (b:=(((t5.1).length:Int) != ((((y4).Design).Rows).length:Int))) rfl (pick_t v8 rfl)) ?_
           refine L_dead (fun _=>rfl) 28 rfl ?_
           refine L_nl fun jW h03 hs=>?_
           have hfr:=hfr.ext hs
           have u8_0_428:=u8_0_428.ext hs
           have y6:=y6.ext hs
           have i7:=i7.ext hs
           clear hs
           refine Zb ?_
           obtain rfl:=sinj h
           exact hQ _ _ ⟨jW,hfr,r8,n9,nD,y6,u8_0_428,oD,i7,rfl⟩
          ·rcases Zt h with ⟨x6, h⟩ | ⟨x6, h⟩
           ·refine E_drawL (g := mG) (n := 46) [] [0, 1, 2, 3, 4, 5, 6, 7, 8, 9, 10, 11, 12, 13, 14, 15, 16, 17, 18, 19, 20, 21, 22, 23, 24, 25, 26, 27, 28, 29, 30, 31, 32, 33, 34, 35, 36, 37, 38, 39, 40, 41, 42, 43, 44, 45] rfl mixed (by kernel_rfl) trivial ?_
            refine Gd (.int .i64 (t5.2)) rfl rfl (Zk rfl) ?_
            refine Gd (.bool ((t5.2 != (0:Int)))) rfl rfl (P_int rfl rfl rfl) ?_
            refine Gd (.bool ((t5.2 != (0:Int)))) rfl rfl (Zk rfl) ?_
            refine L_y (.int .i64 (x5.2)) rfl rfl rfl rfl n8 (Zk rfl) ?_
            refine L_y (.bool ((x5.2 != (0:Int)))) rfl rfl rfl rfl n8 (P_int rfl rfl rfl) ?_
            refine Gd (.bool ((x5.2 != (0:Int)))) rfl rfl (Zl (b:=(t5.2 != (0:Int))) rfl (pick_f n8 rfl)) ?_
            refine Gd (.bool ((x5.2 != (0:Int)))) rfl rfl (Zk rfl) ?_
            refine L_y u9 rfl rfl rfl rfl l8 (Zk rfl) ?_
            refine L_y (.int .i64 ((t5.1).length:Int)) rfl rfl rfl rfl l8 (P_len Try.underlying50 rfl y9) ?_
            refine L_y (.int .i64 (((((y4).Design).Rows).length:Int))) rfl rfl rfl rfl l8 (Zk r8) ?_
            refine L_y (.bool ((((t5.1).length:Int) != ((((y4).Design).Rows).length:Int)))) rfl rfl rfl rfl l8 (P_int rfl rfl rfl) ?_
            refine Gd (.bool ((((t5.1).length:Int) != ((((y4).Design).Rows).length:Int)))) rfl rfl (Zl (b:=(x5.2 != (0:Int))) rfl (pick_f l8 rfl)) ?_
            refine Gd (.bool ((((t5.1).length:Int) != ((((y4).Design).Rows).length:Int)))) rfl rfl (Zk rfl) ?_
            refine L_y bA rfl rfl rfl rfl v8 (Zk rfl) ?_
            refine L_y (.int .i64 ((x5.1).length:Int)) rfl rfl rfl rfl v8 (P_len Try.underlying50 rfl yB) ?_
            refine L_y (.int .i64 (((((y4).Design).Rows).length:Int))) rfl rfl rfl rfl v8 (Zk r8) ?_
            refine L_y (.bool ((((x5.1).length:Int) != ((((y4).Design).Rows).length:Int)))) rfl rfl rfl rfl v8 (P_int rfl rfl rfl) ?_
            refine Gd (.bool ((((x5.1).length:Int) != ((((y4).Design).Rows).length:Int)))) rfl rfl (Zl (b:=(((t5.1).length:Int) != ((((y4).Design).Rows).length:Int))) rfl (pick_f v8 rfl)) ?_
            refine Gd (.bool ((((x5.1).length:Int) != ((((y4).Design).Rows).length:Int)))) rfl rfl (Zk rfl) ?_
            iterate 12 refine L_s rfl rfl rfl x6 rfl ?_
            refine Gd (.bool true) rfl rfl (Zl (b:=(((x5.1).length:Int) != ((((y4).Design).Rows).length:Int))) rfl (pick_t x6 rfl)) ?_
            refine L_dead (fun _=>rfl) 14 rfl ?_
            refine L_nl fun kW i03 hs=>?_
            have hfr:=hfr.ext hs
            have u8_0_428:=u8_0_428.ext hs
            have y6:=y6.ext hs
            have i7:=i7.ext hs
            clear hs
            refine Zb ?_
            obtain rfl:=sinj h
            exact hQ _ _ ⟨kW,hfr,r8,n9,nD,y6,u8_0_428,oD,i7,rfl⟩
           ·obtain ⟨dB, zH, h⟩ := Ge h
            have lW:=PT_idx y9 zH
            refine Zs (x:=.tmp 198) Try.isAgg9 Try.sizeOf9 lW fun j03 mW dL=>?_
            obtain rfl:=RV_str.1 mW
            obtain ⟨rF,eL,h⟩:=Ge h
            obtain ⟨iB,aI,h⟩:=Ge h
            have nW:=PT_idx yB aI
            refine Zs (x:=.tmp 205) Try.isAgg9 Try.sizeOf9 nW fun k03 oW gL=>?_
            obtain rfl:=RV_str.1 oW
            rcases Zt h with ⟨x8,h⟩ | ⟨x8,h⟩
            ·refine E_drawL (g := mG) (n := 46) [] [0, 1, 2, 3, 4, 5, 6, 7, 8, 9, 10, 11, 12, 13, 14, 15, 16, 17, 18, 19, 20, 21, 22, 23, 24, 25, 26, 27, 28, 29, 30, 31, 32, 33, 34, 35, 36, 37, 38, 39, 40, 41, 42, 43, 44, 45] rfl mixed (by kernel_rfl) trivial ?_
             refine Gd (.int .i64 (t5.2)) rfl rfl (Zk rfl) ?_
             refine Gd (.bool ((t5.2 != (0:Int)))) rfl rfl (P_int rfl rfl rfl) ?_
             refine Gd (.bool ((t5.2 != (0:Int)))) rfl rfl (Zk rfl) ?_
             refine L_y (.int .i64 (x5.2)) rfl rfl rfl rfl n8 (Zk rfl) ?_
             refine L_y (.bool ((x5.2 != (0:Int)))) rfl rfl rfl rfl n8 (P_int rfl rfl rfl) ?_
             refine Gd (.bool ((x5.2 != (0:Int)))) rfl rfl (Zl (b:=(t5.2 != (0:Int))) rfl (pick_f n8 rfl)) ?_
             refine Gd (.bool ((x5.2 != (0:Int)))) rfl rfl (Zk rfl) ?_
             refine L_y u9 rfl rfl rfl rfl l8 (Zk rfl) ?_
             refine L_y (.int .i64 ((t5.1).length:Int)) rfl rfl rfl rfl l8 (P_len Try.underlying50 rfl y9) ?_
             refine L_y (.int .i64 (((((y4).Design).Rows).length:Int))) rfl rfl rfl rfl l8 (Zk r8) ?_
             refine L_y (.bool ((((t5.1).length:Int) != ((((y4).Design).Rows).length:Int)))) rfl rfl rfl rfl l8 (P_int rfl rfl rfl) ?_
             refine Gd (.bool ((((t5.1).length:Int) != ((((y4).Design).Rows).length:Int)))) rfl rfl (Zl (b:=(x5.2 != (0:Int))) rfl (pick_f l8 rfl)) ?_
             refine Gd (.bool ((((t5.1).length:Int) != ((((y4).Design).Rows).length:Int)))) rfl rfl (Zk rfl) ?_
             refine L_y bA rfl rfl rfl rfl v8 (Zk rfl) ?_
             refine L_y (.int .i64 ((x5.1).length:Int)) rfl rfl rfl rfl v8 (P_len Try.underlying50 rfl yB) ?_
             refine L_y (.int .i64 (((((y4).Design).Rows).length:Int))) rfl rfl rfl rfl v8 (Zk r8) ?_
             refine L_y (.bool ((((x5.1).length:Int) != ((((y4).Design).Rows).length:Int)))) rfl rfl rfl rfl v8 (P_int rfl rfl rfl) ?_
             refine Gd (.bool ((((x5.1).length:Int) != ((((y4).Design).Rows).length:Int)))) rfl rfl (Zl (b:=(((t5.1).length:Int) != ((((y4).Design).Rows).length:Int))) rfl (pick_f v8 rfl)) ?_
             refine Gd (.bool ((((x5.1).length:Int) != ((((y4).Design).Rows).length:Int)))) rfl rfl (Zk rfl) ?_
             refine L_y u9 rfl rfl rfl rfl x6 (Zk rfl) ?_
             refine L_y (.int .i64 (m7)) rfl rfl rfl rfl x6 (Zk n9) ?_
             refine L_y (ePtr u9 m7 1) rfl rfl rfl rfl x6 (Zh (α:=Str) Try.underlying50 Try.sizeOf9 rfl y9 rfl zH) ?_
             refine L_ld (c:=Str.v (dB)) rfl rfl (.yes2 rfl rfl x6) (fun _ _ h=>h.ch) dL rfl ?_
             refine L_y bA rfl rfl rfl rfl x6 (Zk rfl) ?_
             refine L_y (.int .i64 (m7)) rfl rfl rfl rfl x6 (Zk n9) ?_
             refine L_y (.int .i64 ((w64 (m7 + (1:Int))))) rfl rfl rfl rfl x6 (P_int rfl rfl rfl) ?_
             refine L_y (.int .i64 (((((y4).Design).Rows).length:Int))) rfl rfl rfl rfl x6 (Zk r8) ?_
             refine L_y (.int .i64 (rF)) rfl rfl rfl rfl x6 (P_int rfl rfl (congrArg (Option.map (Value.int .i64)) eL)) ?_
             refine L_y (ePtr bA rF 1) rfl rfl rfl rfl x6 (Zh (α:=Str) Try.underlying50 Try.sizeOf9 rfl yB rfl aI) ?_
             refine L_ld (c:=Str.v (iB)) rfl rfl (.yes2 rfl rfl x6) (fun _ _ h=>h.ch) gL rfl ?_
             refine L_y (.bool ((!((dB).b == (iB).b)))) rfl rfl rfl rfl x6 (P_str rfl rfl rfl) ?_
             refine Gd (.bool ((!((dB).b == (iB).b)))) rfl rfl (Zl (b:=(((x5.1).length:Int) != ((((y4).Design).Rows).length:Int))) rfl (pick_f x6 rfl)) ?_
             refine Gd (.bool ((!((dB).b == (iB).b)))) rfl rfl (Zk rfl) ?_
             iterate 12 refine L_s rfl rfl rfl x8 rfl ?_
             refine Gd (.bool true) rfl rfl (Zl (b:=(!((dB).b == (iB).b))) rfl (pick_t x8 rfl)) ?_
             refine L_nl fun pW l03 hs=>?_
             have hfr:=hfr.ext hs
             have u8_0_428:=u8_0_428.ext hs
             have y6:=y6.ext hs
             have i7:=i7.ext hs
             clear hs
             refine Zb ?_
             obtain rfl:=sinj h
             exact hQ _ _ ⟨pW,hfr,r8,n9,nD,y6,u8_0_428,oD,i7,rfl⟩
            ·obtain ⟨dH, iU, h⟩ := Ge h
             obtain ⟨yF,iL,h⟩:=Ge h
             have qW:=PT_idx y9 iL
             refine Zs (x:=.tmp 215) Try.isAgg9 Try.sizeOf9 qW fun m03 sW jU=>?_
             obtain rfl:=RV_str.1 sW
             obtain ⟨zF,jL,h⟩:=Ge h
             have tW:=PT_idx yB jL
             refine Zs (x:=.tmp 219) Try.isAgg9 Try.sizeOf9 tW fun n03 uW kU=>?_
             obtain rfl:=RV_str.1 uW
             refine E_drawL (g:=mG) (n:=46) [] [0,1,2,3,4,5,6,7,8,9,10,11,12,13,14,15,16,17,18,19,20,21,22,23,24,25,26,27,28,29,30,31,32,33,34,35,36,37,38,39,40,41,42,43,44,45] rfl mixed (by kernel_rfl) trivial ?_
             refine Gd (.int .i64 (t5.2)) rfl rfl (Zk rfl) ?_
             refine Gd (.bool ((t5.2 != (0:Int)))) rfl rfl (P_int rfl rfl rfl) ?_
             refine Gd (.bool ((t5.2 != (0:Int)))) rfl rfl (Zk rfl) ?_
             refine L_y (.int .i64 (x5.2)) rfl rfl rfl rfl n8 (Zk rfl) ?_
             refine L_y (.bool ((x5.2 != (0:Int)))) rfl rfl rfl rfl n8 (P_int rfl rfl rfl) ?_
             refine Gd (.bool ((x5.2 != (0:Int)))) rfl rfl (Zl (b:=(t5.2 != (0:Int))) rfl (pick_f n8 rfl)) ?_
             refine Gd (.bool ((x5.2 != (0:Int)))) rfl rfl (Zk rfl) ?_
             refine L_y u9 rfl rfl rfl rfl l8 (Zk rfl) ?_
             refine L_y (.int .i64 ((t5.1).length:Int)) rfl rfl rfl rfl l8 (P_len Try.underlying50 rfl y9) ?_
             refine L_y (.int .i64 (((((y4).Design).Rows).length:Int))) rfl rfl rfl rfl l8 (Zk r8) ?_
             refine L_y (.bool ((((t5.1).length:Int) != ((((y4).Design).Rows).length:Int)))) rfl rfl rfl rfl l8 (P_int rfl rfl rfl) ?_
             refine Gd (.bool ((((t5.1).length:Int) != ((((y4).Design).Rows).length:Int)))) rfl rfl (Zl (b:=(x5.2 != (0:Int))) rfl (pick_f l8 rfl)) ?_
             refine Gd (.bool ((((t5.1).length:Int) != ((((y4).Design).Rows).length:Int)))) rfl rfl (Zk rfl) ?_
             refine L_y bA rfl rfl rfl rfl v8 (Zk rfl) ?_
             refine L_y (.int .i64 ((x5.1).length:Int)) rfl rfl rfl rfl v8 (P_len Try.underlying50 rfl yB) ?_
             refine L_y (.int .i64 (((((y4).Design).Rows).length:Int))) rfl rfl rfl rfl v8 (Zk r8) ?_
             refine L_y (.bool ((((x5.1).length:Int) != ((((y4).Design).Rows).length:Int)))) rfl rfl rfl rfl v8 (P_int rfl rfl rfl) ?_
             refine Gd (.bool ((((x5.1).length:Int) != ((((y4).Design).Rows).length:Int)))) rfl rfl (Zl (b:=(((t5.1).length:Int) != ((((y4).Design).Rows).length:Int))) rfl (pick_f v8 rfl)) ?_
             refine Gd (.bool ((((x5.1).length:Int) != ((((y4).Design).Rows).length:Int)))) rfl rfl (Zk rfl) ?_
             refine L_y u9 rfl rfl rfl rfl x6 (Zk rfl) ?_
             refine L_y (.int .i64 (m7)) rfl rfl rfl rfl x6 (Zk n9) ?_
             refine L_y (ePtr u9 m7 1) rfl rfl rfl rfl x6 (Zh (α:=Str) Try.underlying50 Try.sizeOf9 rfl y9 rfl zH) ?_
             refine L_ld (c:=Str.v (dB)) rfl rfl (.yes2 rfl rfl x6) (fun _ _ h=>h.ch) dL rfl ?_
             refine L_y bA rfl rfl rfl rfl x6 (Zk rfl) ?_
             refine L_y (.int .i64 (m7)) rfl rfl rfl rfl x6 (Zk n9) ?_
             refine L_y (.int .i64 ((w64 (m7 + (1:Int))))) rfl rfl rfl rfl x6 (P_int rfl rfl rfl) ?_
             refine L_y (.int .i64 (((((y4).Design).Rows).length:Int))) rfl rfl rfl rfl x6 (Zk r8) ?_
             refine L_y (.int .i64 (rF)) rfl rfl rfl rfl x6 (P_int rfl rfl (congrArg (Option.map (Value.int .i64)) eL)) ?_
             refine L_y (ePtr bA rF 1) rfl rfl rfl rfl x6 (Zh (α:=Str) Try.underlying50 Try.sizeOf9 rfl yB rfl aI) ?_
             refine L_ld (c:=Str.v (iB)) rfl rfl (.yes2 rfl rfl x6) (fun _ _ h=>h.ch) gL rfl ?_
             refine L_y (.bool ((!((dB).b == (iB).b)))) rfl rfl rfl rfl x6 (P_str rfl rfl rfl) ?_
             refine Gd (.bool ((!((dB).b == (iB).b)))) rfl rfl (Zl (b:=(((x5.1).length:Int) != ((((y4).Design).Rows).length:Int))) rfl (pick_f x6 rfl)) ?_
             refine Gd (.bool ((!((dB).b == (iB).b)))) rfl rfl (Zk rfl) ?_
             refine L_y u9 rfl rfl rfl rfl x8 (Zk rfl) ?_
             refine L_y (.int .i64 (m7)) rfl rfl rfl rfl x8 (Zk n9) ?_
             refine L_y (.int .i64 ((w64 (m7 + (1:Int))))) rfl rfl rfl rfl x8 (P_int rfl rfl rfl) ?_
             refine L_y (.int .i64 (((((y4).Design).Rows).length:Int))) rfl rfl rfl rfl x8 (Zk r8) ?_
             refine L_y (.int .i64 (dH)) rfl rfl rfl rfl x8 (P_int rfl rfl (congrArg (Option.map (Value.int .i64)) iU)) ?_
             refine L_y (ePtr u9 dH 1) rfl rfl rfl rfl x8 (Zh (α:=Str) Try.underlying50 Try.sizeOf9 rfl y9 rfl iL) ?_
             refine L_ld (c:=Str.v (yF)) rfl rfl (.yes2 rfl rfl x8) (fun _ _ h=>h.ch) jU rfl ?_
             refine L_y bA rfl rfl rfl rfl x8 (Zk rfl) ?_
             refine L_y (.int .i64 (m7)) rfl rfl rfl rfl x8 (Zk n9) ?_
             refine L_y (ePtr bA m7 1) rfl rfl rfl rfl x8 (Zh (α:=Str) Try.underlying50 Try.sizeOf9 rfl yB rfl jL) ?_
             refine L_ld (c:=Str.v (zF)) rfl rfl (.yes2 rfl rfl x8) (fun _ _ h=>h.ch) kU rfl ?_
             refine L_y (.bool ((!((yF).b == (zF).b)))) rfl rfl rfl rfl x8 (P_str rfl rfl rfl) ?_
             refine Gd (.bool ((!((yF).b == (zF).b)))) rfl rfl (Zl (b:=(!((dB).b == (iB).b))) rfl (pick_f x8 rfl)) ?_
             refine L_nl fun vW o03 hs=>?_
             have hfr:=hfr.ext hs
             have u8_0_428:=u8_0_428.ext hs
             have y6:=y6.ext hs
             have i7:=i7.ext hs
             clear hs
             refine Zb ?_
             obtain rfl:=sinj h
             exact hQ _ _ ⟨vW,hfr,r8,n9,nD,y6,u8_0_428,oD,i7,rfl⟩
       ·clear hx
        obtain ⟨xW,hfr,tO,uO,vO,xO,u8_0_2272,yO,zO,yG⟩:=hR
        rcases Zt h with ⟨bI,h⟩ | ⟨bI,h⟩
        ·refine E_cond_true (Eq.trans (show ev _ _ = .bool (tB) from yG) (congrArg Value.bool bI)) ?_
         refine Zf (Za (Zg (.bool false) rfl rfl ?_))
         refine Zb (Zd (E_ret (thn_r ?_)))
         obtain rfl:=sinj h
         exact end1 rfl rfl (show _=.bool false from rfl) ⟨_,hfr,rfl⟩
        ·refine E_cond_false (Eq.trans (show ev _ _ = .bool (tB) from yG) (congrArg Value.bool bI)) ?_
         exact Zu (Zd (gU () _ _ ⟨xW,hfr,tO,uO,vO,xO,u8_0_2272,yO,zO⟩ h))
      ·rintro _ z01 p03 ⟨yW, hfr, tI, uF, uI, iA, u8_0_2274, vC, lB⟩ h
       refine Zf ?_
       obtain ⟨uD,lL,h⟩:=Ge h
       refine L_loadM (x:=.tmp 225) Try.isAgg3 Try.sizeOf3 (lB.toM) lL fun q03 zW lU=>?_
       obtain rfl:=Zj.1 zW
       obtain ⟨aH,mU,h⟩:=Ge h
       obtain ⟨cD,mL,h⟩:=Ge h
       refine L_loadM (x:=.tmp 232) Try.isAgg3 Try.sizeOf3 (lB.toM) mL fun r03 aX nU=>?_
       obtain rfl:=Zj.1 aX
       refine E_drawL (g:=yW) (n:=13) [] [0,1,2,3,4,5,6,7,8,9,10,11,12] rfl mixed (by kernel_rfl) trivial ?_
       refine Gd o0 rfl rfl (Zk vC) ?_
       refine Gd (.int .i64 (m7)) rfl rfl (Zk uF) ?_
       refine Gd (ePtr o0 m7 1) rfl rfl (P_indexAddrM (α:=Int) Try.underlying26 Try.sizeOf3 rfl (lB.toM) rfl lL) ?_
       refine L_ld (c:=.int .i64 (uD)) rfl rfl .plain (fun _ _ h=>⟨h.ch,fun b hb _=>h.below.block b hb⟩) lU rfl ?_
       refine Gd o0 rfl rfl (Zk vC) ?_
       refine Gd (.int .i64 (m7)) rfl rfl (Zk uF) ?_
       refine Gd (.int .i64 ((w64 (m7 + (1:Int))))) rfl rfl (P_int rfl rfl rfl) ?_
       refine Gd (.int .i64 (((((y4).Design).Rows).length:Int))) rfl rfl (Zk tI) ?_
       refine Gd (.int .i64 (aH)) rfl rfl (P_int rfl rfl (congrArg (Option.map (Value.int .i64)) mU)) ?_
       refine Gd (ePtr o0 aH 1) rfl rfl (P_indexAddrM (α:=Int) Try.underlying26 Try.sizeOf3 rfl (lB.toM) rfl mL) ?_
       refine L_ld (c:=.int .i64 (cD)) rfl rfl .plain (fun _ _ h=>⟨h.ch,fun b hb _=>h.below.block b hb⟩) nU rfl ?_
       refine Gd (.int .i64 (uD)) rfl rfl (P_assign rfl) ?_
       refine Gd (.int .i64 (cD)) rfl rfl (P_assign rfl) ?_
       refine L_nl fun bX s03 hs=>?_
       have hfr:=hfr.ext hs
       have iA:=iA.ext hs
       have lB:=lB.ext hs
       clear hs
       refine Zb (Zd (Zf (Za (Zo vC rfl ?_))))
       refine Zo uF rfl ?_
       refine Zn (.int .i64 (cD)) rfl rfl ?_
       obtain ⟨xU,nL,h⟩:=Ge h
       refine Ga (ePtr o0 m7 1) (P_indexAddrM (α:=Int) Try.underlying26 Try.sizeOf3 rfl (lB.toM) rfl nL) rfl ?_
       refine Ze .plain rfl (D_storeA (g:=bX) (α:=Int) (a':=cD) Try.sizeOf3 rfl lB nL rfl (Zj.2 rfl) fun cX t03 hs b2299=>?_)
       have hfr:=hfr.stp hs
       have iA:=iA.stp hs rfl
       refine Zb (Zd (Zf (Za (Zo vC rfl ?_))))
       refine Zo uF rfl ?_
       refine EL_in (.int .i64 ((w64 (m7 + (1:Int))))) rfl rfl rfl rfl ?_
       refine Zo tI rfl ?_
       obtain ⟨yE,oU,h⟩:=Ge h
       refine Ga (.int .i64 (yE)) (P_int rfl rfl (congrArg (Option.map (Value.int .i64)) oU)) rfl ?_
       refine Zn (.int .i64 (uD)) rfl rfl ?_
       obtain ⟨yU,oL,h⟩:=Ge h
       refine Ga (ePtr o0 yE 1) (P_indexAddrM (α:=Int) Try.underlying26 Try.sizeOf3 rfl (b2299.toM) rfl oL) rfl ?_
       refine Ze .plain rfl (D_storeA (g:=cX) (α:=Int) (a':=uD) Try.sizeOf3 rfl b2299 oL rfl (Zj.2 rfl) fun dX u03 hs b2302=>?_)
       have hfr:=hfr.stp hs
       have iA:=iA.stp hs rfl
       refine Zb (Zd (Zf (L_loadO0 (x:=.tmp 8) Try.isAgg40 Try.sizeOf40 iA fun gN eX pU=>?_)))
       obtain ⟨zE,qU,h⟩:=Ge h
       obtain ⟨u3,rU,h⟩:=Ge h
       refine E_drawL (g:=dX) (n:=13) [(2,(fun v g w=>RV g.m w zE v)),(3,(fun v g w=>∃ y0 y1 y2 y3:Value,v=.tuple #[y0,y1,y2,y3]∧RV g.m w (u3.1:List BoxPick) y0∧y1=.int .i64 (u3.2.1)∧y2=.int .i64 (u3.2.2.1)∧y3=.int .i64 (u3.2.2.2)))] [0,1,2,3,4,5,6,7,8,9,10,11,12] rfl mixed (by kernel_rfl) (⟨fun _=>up_rv,fun _=>(up_ex fun _=>(up_ex fun _=>(up_ex fun _=>(up_ex fun _=>(up_and (up_eq _) (up_and up_rv (up_and (up_eq _) (up_and (up_eq _) (up_eq _))))))))),trivial⟩) ?_
       refine L_ld (c:=gN) rfl rfl .plain (fun _ _ h=>⟨h.ch,fun b hb _=>h.below.block b hb⟩) pU uI ?_
       refine Gd o0 rfl rfl (Zk vC) ?_
       refine L_do (φ:=fun v g w=>RV g.m w zE v) rfl rfl .plain (fun g w hd=>D_callGF (g:=g) (vs:=[o0]) en11 (.cons rfl .nil) (v11_0 (iO:=1) (OM.lent ((b2302.toM).ext hd.1)) qU) fun gl w' v hxl hr=>(hr.unlendV plain_int hxl).imp fun _ h=>⟨h.1,h.2⟩) (fun rJ hv=>?_)
       obtain ⟨_,_,_,rq2304⟩:=hv
       refine L_do (φ:=fun v g w=>∃ y0 y1 y2 y3:Value,v=.tuple #[y0,y1,y2,y3]∧RV g.m w (u3.1:List BoxPick) y0∧y1=.int .i64 (u3.2.1)∧y2=.int .i64 (u3.2.2.1)∧y3=.int .i64 (u3.2.2.2)) rfl rfl .plain (fun g w hd=>Zp (g:=g) (vs:=[gN,rJ]) en10 (.cons rfl (.cons rfl .nil)) (wk10 (eX.ext hd.1) (word (A:=fun g w=>RV g.m w zE rJ) 2 rfl rfl (deps_of hd)) rU) fun g' w' v hs hr=>⟨g',hs,hr⟩) (fun v03 hv=>?_)
       obtain ⟨_,_,_,oB,_,_,_,rfl,q00,rfl,rfl,rfl⟩:=hv
       refine Gd (.tuple #[oB,.int .i64 (u3.2.1),.int .i64 (u3.2.2.1),.int .i64 (u3.2.2.2)]) rfl rfl (Zk rfl) ?_
       refine Gd oB rfl rfl (Zi rfl rfl) ?_
       refine Gd (.int .i64 (u3.2.1)) rfl rfl (Zi rfl rfl) ?_
       refine Gd (.int .i64 (u3.2.2.1)) rfl rfl (Zi rfl rfl) ?_
       refine Gd (.int .i64 (u3.2.2.2)) rfl rfl (Zi rfl rfl) ?_
       refine Gd oB rfl rfl (P_assign rfl) ?_
       refine Gd (.int .i64 (u3.2.1)) rfl rfl (P_assign rfl) ?_
       refine Gd (.int .i64 (u3.2.2.1)) rfl rfl (P_assign rfl) ?_
       refine Gd (.int .i64 (u3.2.2.2)) rfl rfl (P_assign rfl) ?_
       refine L_nil fun iN x03 hall=>?_
       have hs:=hall.1
       have hfr:=hfr.ext hs
       have iA:=iA.ext hs
       have b2302:=b2302.ext hs
       have y03:=(word_all (A:=fun g w=>RV g.m w zE rJ) 2 rfl hall)
       have z03:=(tup4_0 (word_all (A:=fun g w=>∃ y0 y1 y2 y3:Value,Value.tuple #[oB,.int .i64 (u3.2.1),.int .i64 (u3.2.2.1),.int .i64 (u3.2.2.2)]=.tuple #[y0,y1,y2,y3]∧RV g.m w (u3.1:List BoxPick) y0∧y1=.int .i64 (u3.2.1)∧y2=.int .i64 (u3.2.2.1)∧y3=.int .i64 (u3.2.2.2)) 3 rfl hall))
       have gX:=(tup4_0 (word_all (A:=fun g w=>∃ y0 y1 y2 y3:Value,Value.tuple #[oB,.int .i64 (u3.2.1),.int .i64 (u3.2.2.1),.int .i64 (u3.2.2.2)]=.tuple #[y0,y1,y2,y3]∧RV g.m w (u3.1:List BoxPick) y0∧y1=.int .i64 (u3.2.1)∧y2=.int .i64 (u3.2.2.1)∧y3=.int .i64 (u3.2.2.2)) 3 rfl hall))
       clear hs hall
       refine Zb (Zd (Zf (Za (Ze .plain rfl (D_loadO (g:=iN) Try.isAgg40 Try.sizeOf40 uI iA fun iX jX=>?_)))))
       refine Zn oB rfl rfl ?_
       obtain ⟨m8,sU,h⟩:=Ge h
       refine Ze .plain rfl (Zp (g:=iN) (vs:=[iX,oB]) en12 (.cons rfl (.cons rfl .nil)) (wk12 jX gX sU) fun kX a02 a04 hs hr=>?_)
       have hfr:=hfr.ext hs
       have b2302:=b2302.ext hs
       obtain ⟨sD,sG,s00,t00,u00,rfl,tD,xG,rfl,rfl,rfl⟩:=hr
       refine Zn (.tuple #[sD,sG,.int .i64 (m8.2.2.1),.int .i64 (m8.2.2.2.1),.int .i64 (m8.2.2.2.2)]) rfl rfl ?_
       refine Ga sD (Zi rfl rfl) rfl ?_
       refine Ga sG (Zi rfl rfl) rfl ?_
       refine Ga (.int .i64 (m8.2.2.1)) (Zi rfl rfl) rfl ?_
       refine Ga (.int .i64 (m8.2.2.2.1)) (Zi rfl rfl) rfl ?_
       refine Ga (.int .i64 (m8.2.2.2.2)) (Zi rfl rfl) rfl ?_
       refine Ze .plain rfl (D_allocOc (g:=kX) 2035 (⟨[],[],[]⟩:BoxLoom) Try.zeroValue40 (fun m w=>⟨_,(rep_two rep_nil (rep_two rep_nil rep_nil)),rfl⟩) fun gH sJ vJ hs b2353 cb=>?_)
       have hfr:=hfr.stp hs
       have b2302:=b2302.stp hs rfl
       have tD:=tD.stp hs
       have xG:=xG.stp hs
       have v00:OSF 2035 63500 0 gH sJ 3 40 ([]:List Int) vJ:=cb.osf (by rfl)
       have x00:OSF 2035 63501 1 gH sJ 3 40 ([]:List Int) vJ:=cb.osf (by rfl)
       have y00:OSF 2035 63502 2 gH sJ 37 40 ([]:List Zw) vJ:=cb.osf (by rfl)
       clear cb
       refine Zg sD rfl rfl ?_
       refine Ze .plain rfl (D_storeOc (g:=gH) (v:=sG) Try.sizeOf40 rfl b2353 rfl xG fun iH b04 hs b2354 cb=>?_)
       clear cb
       have hfr:=hfr.stp hs
       have b2302:=b2302.stp hs rfl
       have tD:=tD.stp hs
       refine Zg (.int .i64 (m8.2.2.1)) rfl rfl ?_
       refine Zg (.int .i64 (m8.2.2.2.1)) rfl rfl ?_
       refine Zg (.int .i64 (m8.2.2.2.2)) rfl rfl ?_
       refine Zb (Zd ?_)
       obtain ⟨eF,hx,h⟩:=Ge h
       refine E_join (fun e w=>∃ (g:Gh) ,Fr gI wI g w∧e 4=.bool (eF)) (fun Q' hQ=>?_) (fun b02 c04 hR=>?_)
       ·replace h := hx
        clear hx
        refine Za (Zn (.int .i64 (u3.2.2.2)) rfl rfl ?_)
        refine EL_in (.bool ((u3.2.2.2 == (0:Int)))) rfl rfl rfl rfl ?_
        refine Zn (.bool ((u3.2.2.2 == (0:Int)))) rfl rfl ?_
        rcases Zt h with ⟨bD,h⟩ | ⟨bD,h⟩
        ·refine Gb (.int .i64 (m8.2.2.2.2)) (Zk rfl) rfl rfl bD rfl ?_
         refine Gb (.bool ((m8.2.2.2.2 == (0:Int)))) (P_int rfl rfl rfl) rfl rfl bD rfl ?_
         refine Ga (.bool ((m8.2.2.2.2 == (0:Int)))) (Zl (b:=(u3.2.2.2 == (0:Int))) rfl (pick_t bD rfl)) rfl ?_
         refine Zn (.bool ((m8.2.2.2.2 == (0:Int)))) rfl rfl ?_
         rcases Zt h with ⟨mB,h⟩ | ⟨mB,h⟩
         ·refine Gb (.int .i64 (u3.2.1)) (Zk rfl) rfl rfl mB rfl ?_
          refine Gb (.int .i64 (m8.2.2.1)) (Zk rfl) rfl rfl mB rfl ?_
          refine Gb (.bool ((u3.2.1 == m8.2.2.1))) (P_int rfl rfl rfl) rfl rfl mB rfl ?_
          refine Ga (.bool ((u3.2.1 == m8.2.2.1))) (Zl (b:=(m8.2.2.2.2 == (0:Int))) rfl (pick_t mB rfl)) rfl ?_
          refine Zn (.bool ((u3.2.1 == m8.2.2.1))) rfl rfl ?_
          rcases Zt h with ⟨nB,h⟩ | ⟨nB,h⟩
          ·refine Gb sD (Zk rfl) rfl rfl nB rfl ?_
           refine Gb o0 (Zk vC) rfl rfl nB rfl ?_
           obtain ⟨cF,tU,h⟩:=Ge h
           refine Ze (.yes2 rfl rfl nB) rfl (D_callF (g:=iH) (vs:=[sD,o0]) en13 (.cons rfl (.cons rfl .nil)) (wk13 (RV.lent tD) (OM.lent (b2302.toM)) tU) fun jN c02 d04 hs hr=>?_)
           have hfr:=hfr.ext hs
           subst hr
           refine Ga (.bool (cF)) (Zl (b:=(u3.2.1 == m8.2.2.1)) rfl (pick_t nB rfl)) rfl ?_
           refine Zn (.bool (cF)) rfl rfl ?_
           rcases Zt h with ⟨uE,h⟩ | ⟨uE,h⟩
           ·obtain ⟨dF, uU, h⟩ := Ge h
            refine Ze (.yes2 rfl rfl uE) rfl (Zp (g:=jN) (vs:=[]) en16 .nil (wk16  uU) fun kN d02 e04 hs hr=>?_)
            have hfr:=hfr.ext hs
            subst hr
            refine Ga (.bool (dF)) (Zl (b:=cF) rfl (pick_t uE rfl)) rfl ?_
            refine Zn (.bool (dF)) rfl rfl ?_
            rcases Zt h with ⟨vE,h⟩ | ⟨vE,h⟩
            ·obtain ⟨cH, vU, h⟩ := Ge h
             refine Ze (.yes2 rfl rfl vE) rfl (Zp (g:=kN) (vs:=[]) en17 .nil (wk17  vU) fun lX e02 g04 hs hr=>?_)
             have hfr:=hfr.ext hs
             subst hr
             refine Ga (.bool (cH)) (Zl (b:=dF) rfl (pick_t vE rfl)) rfl ?_
             refine Zg (.bool (cH)) rfl rfl ?_
             refine Zb ?_
             obtain rfl:=sinj h
             exact hQ _ _ ⟨lX,hfr,rfl⟩
            ·refine Gc rfl rfl vE rfl rfl ?_
             refine Ga (.bool false) (Zl (b:=dF) rfl (pick_f vE rfl)) rfl ?_
             refine Zg (.bool false) rfl rfl ?_
             refine Zb ?_
             obtain rfl:=sinj h
             exact hQ _ _ ⟨kN,hfr,rfl⟩
           ·refine Gc rfl rfl uE rfl rfl ?_
            refine Ga (.bool false) (Zl (b:=cF) rfl (pick_f uE rfl)) rfl ?_
            refine EL_dead 3 rfl ?_
            refine Zg (.bool false) rfl rfl ?_
            refine Zb ?_
            obtain rfl:=sinj h
            exact hQ _ _ ⟨jN,hfr,rfl⟩
          ·refine Gc rfl rfl nB rfl rfl ?_
           refine Gc rfl rfl nB rfl rfl ?_
           refine Gc rfl rfl nB rfl rfl ?_
           refine Ga (.bool false) (Zl (b:=(u3.2.1 == m8.2.2.1)) rfl (pick_f nB rfl)) rfl ?_
           refine EL_dead 6 rfl ?_
           refine Zg (.bool false) rfl rfl ?_
           refine Zb ?_
           obtain rfl:=sinj h
           exact hQ _ _ ⟨iH,hfr,rfl⟩
         ·refine Gc rfl rfl mB rfl rfl ?_
          refine Gc rfl rfl mB rfl rfl ?_
          refine Gc rfl rfl mB rfl rfl ?_
          refine Ga (.bool false) (Zl (b:=(m8.2.2.2.2 == (0:Int))) rfl (pick_f mB rfl)) rfl ?_
          refine EL_dead 11 rfl ?_
          refine Zg (.bool false) rfl rfl ?_
          refine Zb ?_
          obtain rfl:=sinj h
          exact hQ _ _ ⟨iH,hfr,rfl⟩
        ·refine Gc rfl rfl bD rfl rfl ?_
         refine Gc rfl rfl bD rfl rfl ?_
         refine Ga (.bool false) (Zl (b:=(u3.2.2.2 == (0:Int))) rfl (pick_f bD rfl)) rfl ?_
         refine EL_dead 16 rfl ?_
         refine Zg (.bool false) rfl rfl ?_
         refine Zb ?_
         obtain rfl:=sinj h
         exact hQ _ _ ⟨iH,hfr,rfl⟩
       ·clear hx
        obtain ⟨h04,hfr,aP⟩:=hR
        refine E_ret ?_
        obtain rfl:=sinj h
        exact end1 rfl rfl (show _=.bool (eF) from aP) ⟨_,hfr,rfl⟩
end Go.Proofs.Ytjoniingnbmljaa
