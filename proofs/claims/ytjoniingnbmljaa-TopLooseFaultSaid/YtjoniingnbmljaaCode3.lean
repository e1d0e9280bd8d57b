import Derived.Test.YtjoniingnbmljaaCode2
set_option maxRecDepth 8000
set_option maxHeartbeats 4000000
namespace Go.Proofs.Ytjoniingnbmljaa
open Go.RowKit
def f17 :Option (Bool):=
 (f34 ((⟨(⟨(4:Int),([(0:Int),(1:Int),(2:Int),(3:Int),(2:Int),(1:Int)]:List Int)⟩:TieHarness),(⟨(4:Int),([(1:Int),(6:Int)]:List Int)⟩:Design)⟩:FaultLoom)) (([(⟨(1:Int),(4:Int),false⟩:Zz)]:List Zz))).bind fun u3=>
 (f75 ((⟨(⟨(4:Int),([(0:Int),(1:Int),(2:Int),(3:Int),(2:Int),(1:Int)]:List Int)⟩:TieHarness),(⟨(4:Int),([(1:Int),(6:Int)]:List Int)⟩:Design)⟩:FaultLoom)) ((⟨(1:Int),(1:Int),(2:Int),0,false⟩:Zv)) ((⟨(5:Int),0,0,(4:Int),false⟩:Zv))).bind fun o0=>
 Option.bind (α:=Bool) (
  bif (u3.2.2 == (0 : Int)) then
   bif (o0.2.2 == (0 : Int)) then
    bif (((u3.1).length : Int) == (5 : Int)) then
     bif (!u3.2.1) then
      bif (o0.1 == (1 : Int)) then
       some ((o0.2.1 == (2:Int)))
      else
       some (false)
     else
      some (false)
    else
     some (false)
   else
    some (false)
  else
   some (false)
  ) fun y6=>
 some (y6)
theorem en17:Enters Try.prog 17:=enters_of Try.func17 (by kernel_rfl) rfl
theorem wk17 {gI:Gh} {wI:World}   {r:Bool} (h:f17 =some r):Fn Try.prog 17 #[] gI wI (fun _ _ v=>v=.bool (r)):=by
 unfold f17 at h
 refine fn_of_E Try.func17 rfl (Nat.le_of_ble_eq_true rfl) fun g0 hm hfr=>?_
 show E _ 52 none _ _ _ _ _
 refine Zf (Za (Zg (.bool false) rfl rfl ?_))
 refine Zb (Zd (Zf (Za (Ze .plain rfl (D_buildSlice (g:=g0) 3008 (xs:=([(0:Int),(1:Int),(2:Int),(3:Int),(2:Int),(1:Int)]:List Int)) (vs:=[.int .i64 (0),.int .i64 (1),.int .i64 (2),.int .i64 (3),.int .i64 (2),.int .i64 (1)]) Try.underlying26 Try.sizeOf3 Try.zeroValue3 rfl rfl (.cons rfl (.cons rfl (.cons rfl (.cons rfl (.cons rfl (.cons rfl .nil)))))) (RVs.cons (Zj.2 rfl) (RVs.cons (Zj.2 rfl) (RVs.cons (Zj.2 rfl) (RVs.cons (Zj.2 rfl) (RVs.cons (Zj.2 rfl) (RVs.cons (Zj.2 rfl) RVs.nil)))))) rfl rfl fun g1 w1 v1 hs o1 r1 hxt hfl=>?_)))))
 have hfr:=hfr.stp hs
 have r2:RV g1.m _ (⟨(4:Int),([(0:Int),(1:Int),(2:Int),(3:Int),(2:Int),(1:Int)]:List Int)⟩:TieHarness) (.agg (setCh [[.int .i64 0],[.slice none 0 0]] [(0,.int .i64 (4)),(1,v1)]).flatten.toArray):=RV_build rfl (rep_pair (rfl) (rep_last (RV.cells r1)))
 generalize hv2:(Value.agg (setCh [[.int .i64 0],[.slice none 0 0]] [(0,.int .i64 (4)),(1,v1)]).flatten.toArray)=v2 at r2
 refine Ga v2 (hv2 ▸ P_build (vs:=[(0,.int .i64 (4)),(1,v1)]) [[.int .i64 0],[.slice none 0 0]] lay_28 rfl rfl (.cons rfl (.cons rfl .nil)) ⟨⟨_,rfl,rfl⟩,⟨⟨_,rfl,cells_size r1⟩,trivial⟩⟩) rfl ?_
 refine Ze .plain rfl (D_buildSlice (g:=g1) 3010 (xs:=([(1:Int),(6:Int)]:List Int)) (vs:=[.int .i64 (1),.int .i64 (6)]) Try.underlying26 Try.sizeOf3 Try.zeroValue3 rfl rfl (.cons rfl (.cons rfl .nil)) (RVs.cons (Zj.2 rfl) (RVs.cons (Zj.2 rfl) RVs.nil)) rfl rfl fun g3 w3 v3 hs o3 r3 hxt hfl=>?_)
 have hfr:=hfr.stp hs
 have r2:=r2.stp hs
 have r4:RV g3.m _ (⟨(4:Int),([(1:Int),(6:Int)]:List Int)⟩:Design) (.agg (setCh [[.int .i64 0],[.slice none 0 0]] [(0,.int .i64 (4)),(1,v3)]).flatten.toArray):=RV_build rfl (rep_pair (rfl) (rep_last (RV.cells r3)))
 generalize y9:(Value.agg (setCh [[.int .i64 0],[.slice none 0 0]] [(0,.int .i64 (4)),(1,v3)]).flatten.toArray)=v4 at r4
 refine Ga v4 (y9 ▸ P_build (vs:=[(0,.int .i64 (4)),(1,v3)]) [[.int .i64 0],[.slice none 0 0]] lay_30 rfl rfl (.cons rfl (.cons rfl .nil)) ⟨⟨_,rfl,rfl⟩,⟨⟨_,rfl,cells_size r3⟩,trivial⟩⟩) rfl ?_
 have r5:RV g3.m _ (⟨(⟨(4:Int),([(0:Int),(1:Int),(2:Int),(3:Int),(2:Int),(1:Int)]:List Int)⟩:TieHarness),(⟨(4:Int),([(1:Int),(6:Int)]:List Int)⟩:Design)⟩:FaultLoom) (.agg (setCh [[.int .i64 0,.slice none 0 0],[.int .i64 0,.slice none 0 0]] [(0,v2),(1,v4)]).flatten.toArray):=RV_build rfl (rep_pair (RV.cells r2) (rep_last (RV.cells r4)))
 generalize z9:(Value.agg (setCh [[.int .i64 0,.slice none 0 0],[.int .i64 0,.slice none 0 0]] [(0,v2),(1,v4)]).flatten.toArray)=v5 at r5
 refine Ga v5 (z9 ▸ P_build (vs:=[(0,v2),(1,v4)]) [[.int .i64 0,.slice none 0 0],[.int .i64 0,.slice none 0 0]] lay_32 rfl rfl (.cons rfl (.cons rfl .nil)) ⟨⟨_,rfl,cells_size r2⟩,⟨⟨_,rfl,cells_size r4⟩,trivial⟩⟩) rfl ?_
 refine Ze .plain rfl (D_allocOc (g:=g3) 2001 (⟨⟨0,[]⟩,⟨0,[]⟩⟩:FaultLoom) Try.zeroValue32 (fun m w=>⟨_,(rep_two (rep_two Zy rep_nil) (rep_two Zy rep_nil)),rfl⟩) fun g6 w6 p6 hs b6 cb=>?_)
 have hfr:=hfr.stp hs
 have r5:=r5.stp hs
 have tB:OSF 2001 60101 1 g6 w6 3 32 ([]:List Int) p6:=cb.osf (by rfl)
 have vB:OSF 2001 60103 3 g6 w6 3 32 ([]:List Int) p6:=cb.osf (by rfl)
 clear cb
 refine Ze .plain rfl (D_storeOc (g:=g6) (v:=v5) Try.sizeOf32 rfl b6 rfl r5 fun g7 w7 hs b7 cb=>?_)
 clear cb
 have hfr:=hfr.stp hs
 refine Zb (Zd (Zf (Za (Ze .plain rfl (D_loadO (g:=g7) Try.isAgg32 Try.sizeOf32 rfl b7 fun v8 r8=>?_)))))
 have r9:RV g7.m w7 (⟨(1:Int),(4:Int),false⟩:Zz) (.agg (setCh [[.int .i64 0],[.int .i64 0],[.bool false]] [(0,.int .i64 (1)),(1,.int .i64 (4))]).flatten.toArray):=RV_build rfl (rep_pair (rfl) (rep_pair (rfl) (rep_last (rep_bool))))
 generalize bA:(Value.agg (setCh [[.int .i64 0],[.int .i64 0],[.bool false]] [(0,.int .i64 (1)),(1,.int .i64 (4))]).flatten.toArray)=v9 at r9
 refine Ga v9 (bA ▸ P_build (vs:=[(0,.int .i64 (1)),(1,.int .i64 (4))]) [[.int .i64 0],[.int .i64 0],[.bool false]] lay_87 rfl rfl (.cons rfl (.cons rfl .nil)) ⟨⟨_,rfl,rfl⟩,⟨⟨_,rfl,rfl⟩,trivial⟩⟩) rfl ?_
 refine Ze .plain rfl (D_buildSlice (g:=g7) 3016 (xs:=([(⟨(1:Int),(4:Int),false⟩:Zz)]:List Zz)) (vs:=[v9]) Try.underlying85 Try.sizeOf87 Try.zeroValue87 rfl rfl (.cons rfl .nil) (RVs.cons r9 RVs.nil) rfl rfl fun iA cC rA hs o10 yA hxt hfl=>?_)
 have hfr:=hfr.stp hs
 have b7:=b7.stp hs rfl
 have r8:=r8.stp hs
 obtain ⟨u3,k9,h⟩:=Ge h
 refine Ze .plain rfl (Zp (g:=iA) (vs:=[v8,rA]) en34 (.cons rfl (.cons rfl .nil)) (wk34 r8 yA k9) fun k8 l8 mC hs hr=>?_)
 have hfr:=hfr.ext hs
 have b7:=b7.ext hs
 obtain ⟨i7,iB,lB,rfl,g8,rfl,rfl⟩:=hr
 refine Zn (.tuple #[i7,.bool (u3.2.1),.int .i64 (u3.2.2)]) rfl rfl ?_
 refine Ga i7 (Zi rfl rfl) rfl ?_
 refine Ga (.bool (u3.2.1)) (Zi rfl rfl) rfl ?_
 refine Ga (.int .i64 (u3.2.2)) (Zi rfl rfl) rfl ?_
 refine Zg i7 rfl rfl ?_
 refine Zg (.bool (u3.2.1)) rfl rfl ?_
 refine Zg (.int .i64 (u3.2.2)) rfl rfl ?_
 refine Zb (Zd (Zf (Za (Ze .plain rfl (D_loadO (g:=k8) Try.isAgg32 Try.sizeOf32 rfl b7 fun aB dB=>?_)))))
 have n8:RV k8.m l8 (⟨(1:Int),(1:Int),(2:Int),0,false⟩:Zv) (.agg (setCh [[.int .i64 0],[.int .i64 0],[.int .i64 0],[.int .i64 0],[.bool false]] [(0,.int .i64 (1)),(1,.int .i64 (1)),(2,.int .i64 (2))]).flatten.toArray):=RV_build rfl (rep_pair (rfl) (rep_pair (rfl) (rep_pair (rfl) (rep_pair (Zy) (rep_last (rep_bool))))))
 generalize l9:(Value.agg (setCh [[.int .i64 0],[.int .i64 0],[.int .i64 0],[.int .i64 0],[.bool false]] [(0,.int .i64 (1)),(1,.int .i64 (1)),(2,.int .i64 (2))]).flatten.toArray)=x8 at n8
 refine Ga x8 (l9 ▸ P_build (vs:=[(0,.int .i64 (1)),(1,.int .i64 (1)),(2,.int .i64 (2))]) [[.int .i64 0],[.int .i64 0],[.int .i64 0],[.int .i64 0],[.bool false]] lay_56 rfl rfl (.cons rfl (.cons rfl (.cons rfl .nil))) ⟨⟨_,rfl,rfl⟩,⟨⟨_,rfl,rfl⟩,⟨⟨_,rfl,rfl⟩,trivial⟩⟩⟩) rfl ?_
 have a9:RV k8.m l8 (⟨(5:Int),0,0,(4:Int),false⟩:Zv) (.agg (setCh [[.int .i64 0],[.int .i64 0],[.int .i64 0],[.int .i64 0],[.bool false]] [(0,.int .i64 (5)),(3,.int .i64 (4))]).flatten.toArray):=RV_build rfl (rep_pair (rfl) (rep_pair (Zy) (rep_pair (Zy) (rep_pair (rfl) (rep_last (rep_bool))))))
 generalize n9:(Value.agg (setCh [[.int .i64 0],[.int .i64 0],[.int .i64 0],[.int .i64 0],[.bool false]] [(0,.int .i64 (5)),(3,.int .i64 (4))]).flatten.toArray)=d9 at a9
 refine Ga d9 (n9 ▸ P_build (vs:=[(0,.int .i64 (5)),(3,.int .i64 (4))]) [[.int .i64 0],[.int .i64 0],[.int .i64 0],[.int .i64 0],[.bool false]] lay_56 rfl rfl (.cons rfl (.cons rfl .nil)) ⟨⟨_,rfl,rfl⟩,⟨⟨_,rfl,rfl⟩,trivial⟩⟩) rfl ?_
 obtain ⟨o0,u9,h⟩:=Ge h
 refine Ze .plain rfl (Zp (g:=k8) (vs:=[aB,x8,d9]) en75 (.cons rfl (.cons rfl (.cons rfl .nil))) (wk75 dB n8 a9 u9) fun m7 yB qC hs hr=>?_)
 have hfr:=hfr.ext hs
 have g8:=g8.ext hs
 obtain ⟨mB,nB,oB,rfl,rfl,rfl,rfl⟩:=hr
 refine Zn (.tuple #[.int .i64 (o0.1),.int .i64 (o0.2.1),.int .i64 (o0.2.2)]) rfl rfl ?_
 refine Ga (.int .i64 (o0.1)) (Zi rfl rfl) rfl ?_
 refine Ga (.int .i64 (o0.2.1)) (Zi rfl rfl) rfl ?_
 refine Ga (.int .i64 (o0.2.2)) (Zi rfl rfl) rfl ?_
 refine Zg (.int .i64 (o0.1)) rfl rfl ?_
 refine Zg (.int .i64 (o0.2.1)) rfl rfl ?_
 refine Zg (.int .i64 (o0.2.2)) rfl rfl ?_
 refine Zb (Zd ?_)
 obtain ⟨y6,hx,h⟩:=Ge h
 refine E_join (fun e w=>∃ (g:Gh) ,Fr gI wI g w∧e 0=.bool (y6)) (fun Q' hQ=>?_) (fun zB rC hR=>?_)
 ·replace h := hx
  clear hx
  refine Za (Zn (.int .i64 (u3.2.2)) rfl rfl ?_)
  refine EL_in (.bool ((u3.2.2 == (0:Int)))) rfl rfl rfl rfl ?_
  refine Zn (.bool ((u3.2.2 == (0:Int)))) rfl rfl ?_
  rcases Zt h with ⟨t5,h⟩ | ⟨t5,h⟩
  ·refine Gb (.int .i64 (o0.2.2)) (Zk rfl) rfl rfl t5 rfl ?_
   refine Gb (.bool ((o0.2.2 == (0:Int)))) (P_int rfl rfl rfl) rfl rfl t5 rfl ?_
   refine Ga (.bool ((o0.2.2 == (0:Int)))) (Zl (b:=(u3.2.2 == (0:Int))) rfl (pick_t t5 rfl)) rfl ?_
   refine Zn (.bool ((o0.2.2 == (0:Int)))) rfl rfl ?_
   rcases Zt h with ⟨l5,h⟩ | ⟨l5,h⟩
   ·refine Gb i7 (Zk rfl) rfl rfl l5 rfl ?_
    refine Gb (.int .i64 ((u3.1).length:Int)) (P_len Try.underlying57 rfl g8) rfl rfl l5 rfl ?_
    refine Gb (.bool ((((u3.1).length:Int) == (5:Int)))) (P_int rfl rfl rfl) rfl rfl l5 rfl ?_
    refine Ga (.bool ((((u3.1).length:Int) == (5:Int)))) (Zl (b:=(o0.2.2 == (0:Int))) rfl (pick_t l5 rfl)) rfl ?_
    refine Zn (.bool ((((u3.1).length:Int) == (5:Int)))) rfl rfl ?_
    rcases Zt h with ⟨x5,h⟩ | ⟨x5,h⟩
    ·refine Gb (.bool (u3.2.1)) (Zk rfl) rfl rfl x5 rfl ?_
     refine Gb (.bool (!u3.2.1)) (P_not rfl) rfl rfl x5 rfl ?_
     refine Ga (.bool (!u3.2.1)) (Zl (b:=(((u3.1).length:Int) == (5:Int))) rfl (pick_t x5 rfl)) rfl ?_
     refine Zn (.bool (!u3.2.1)) rfl rfl ?_
     rcases Zt h with ⟨i6,h⟩ | ⟨i6,h⟩
     ·refine Gb (.int .i64 (o0.1)) (Zk rfl) rfl rfl i6 rfl ?_
      refine Gb (.bool ((o0.1 == (1:Int)))) (P_int rfl rfl rfl) rfl rfl i6 rfl ?_
      refine Ga (.bool ((o0.1 == (1:Int)))) (Zl (b:=(!u3.2.1)) rfl (pick_t i6 rfl)) rfl ?_
      refine Zn (.bool ((o0.1 == (1:Int)))) rfl rfl ?_
      rcases Zt h with ⟨x6,h⟩ | ⟨x6,h⟩
      ·refine Gb (.int .i64 (o0.2.1)) (Zk rfl) rfl rfl x6 rfl ?_
       refine Gb (.bool ((o0.2.1 == (2:Int)))) (P_int rfl rfl rfl) rfl rfl x6 rfl ?_
       refine Ga (.bool ((o0.2.1 == (2:Int)))) (Zl (b:=(o0.1 == (1:Int))) rfl (pick_t x6 rfl)) rfl ?_
       refine Zg (.bool ((o0.2.1 == (2:Int)))) rfl rfl ?_
       refine Zb ?_
       obtain rfl:=sinj h
       exact hQ _ _ ⟨m7,hfr,rfl⟩
      ·refine Gc rfl rfl x6 rfl rfl ?_
       refine Gc rfl rfl x6 rfl rfl ?_
       refine Ga (.bool false) (Zl (b:=(o0.1 == (1:Int))) rfl (pick_f x6 rfl)) rfl ?_
       refine Zg (.bool false) rfl rfl ?_
       refine Zb ?_
       obtain rfl:=sinj h
       exact hQ _ _ ⟨m7,hfr,rfl⟩
     ·refine Gc rfl rfl i6 rfl rfl ?_
      refine Gc rfl rfl i6 rfl rfl ?_
      refine Ga (.bool false) (Zl (b:=(!u3.2.1)) rfl (pick_f i6 rfl)) rfl ?_
      refine EL_dead 4 rfl ?_
      refine Zg (.bool false) rfl rfl ?_
      refine Zb ?_
      obtain rfl:=sinj h
      exact hQ _ _ ⟨m7,hfr,rfl⟩
    ·refine Gc rfl rfl x5 rfl rfl ?_
     refine Gc rfl rfl x5 rfl rfl ?_
     refine Ga (.bool false) (Zl (b:=(((u3.1).length:Int) == (5:Int))) rfl (pick_f x5 rfl)) rfl ?_
     refine EL_dead 8 rfl ?_
     refine Zg (.bool false) rfl rfl ?_
     refine Zb ?_
     obtain rfl:=sinj h
     exact hQ _ _ ⟨m7,hfr,rfl⟩
   ·refine Gc rfl rfl l5 rfl rfl ?_
    refine Gc rfl rfl l5 rfl rfl ?_
    refine Gc rfl rfl l5 rfl rfl ?_
    refine Ga (.bool false) (Zl (b:=(o0.2.2 == (0:Int))) rfl (pick_f l5 rfl)) rfl ?_
    refine EL_dead 12 rfl ?_
    refine Zg (.bool false) rfl rfl ?_
    refine Zb ?_
    obtain rfl:=sinj h
    exact hQ _ _ ⟨m7,hfr,rfl⟩
  ·refine Gc rfl rfl t5 rfl rfl ?_
   refine Gc rfl rfl t5 rfl rfl ?_
   refine Ga (.bool false) (Zl (b:=(u3.2.2 == (0:Int))) rfl (pick_f t5 rfl)) rfl ?_
   refine EL_dead 17 rfl ?_
   refine Zg (.bool false) rfl rfl ?_
   refine Zb ?_
   obtain rfl:=sinj h
   exact hQ _ _ ⟨m7,hfr,rfl⟩
 ·clear hx
  obtain ⟨uC,hfr,m8⟩:=hR
  refine E_ret ?_
  obtain rfl:=sinj h
  exact end1 rfl rfl (show _=.bool (y6) from m8) ⟨_,hfr,rfl⟩
def f5 (x0:Loom) (x1:UInt8):Option (Bool):=
 (f9 x0).bind fun y4=>
 (rem64 ((x1).toNat:Int) ((((y4).Harness).Warps).length:Int)).bind fun o0=>
 (f28 (((((y4).Harness).Warps).length:Int)) ([])).bind fun bE=>
 (idx bE o0).bind fun oX=>
 (f30 ((y4).Harness)).bind fun bU=>
 (f11 ((List.set bE (Int.toNat o0) ((-1:Int))))).bind fun cU=>
 (f31 ((y4).Design)).bind fun dU=>
 (f29 bU cU dU).bind fun y56=>
 (f15 y4).bind fun iH=>
 (f14 iH (([(⟨(5:Int),0,0,o0,false⟩:Zv)]:List Zv)) (((((y4).Design).Rows).length:Int))).bind fun y63=>
 (f15 y4).bind fun rO=>
 (f14 rO ([]) (((((y4).Design).Rows).length:Int))).bind fun m7=>
 jn (σ:=Unit) (fun _=>
  jn (σ:=(List Zz)) (fun uF=>
   (f30 ((y4).Harness)).bind fun y251=>
   (f31 ((y4).Design)).bind fun vF=>
   (apnd 24 (([]:List Zz)) uF).bind fun y258=>
   (f33 y251 vF y258).bind fun x5=>
   (f15 y4).bind fun sO=>
   (f34 sO uF).bind fun l8=>
   (f30 ((y4).Harness)).bind fun tO=>
   (f35 tO ((List.set bE (Int.toNat o0) ((-1:Int))))).bind fun v8=>
   jn (σ:=Unit) (fun _=>
    Option.bind (α:=Bool) (
     lp (σ:=Bool × Int) (fun uO (x8,n8)=>
      jn (σ:=Unit) (fun _=>
       Option.bind (α:=Bool) (
        bif x8 then
         some (true)
        else
         (idx (l8.1) n8).bind fun sG=>
         some ((decide (sG=(⟨(5:Int),0,0,o0,false⟩:Zv))))
        ) fun vE=>
       uO (vE,(w64 (n8 + (1:Int))))
       ) fun vO=>
      bif (decide (n8 < ((l8.1).length : Int))) then
       vO ()
      else
       some (x8)
      ) big (false,(0:Int))
     ) fun k9=>
    (f29 ((y4).Harness) (v8.2.1) ((y4).Design)).bind fun eD=>
    Option.bind (α:=Bool) (
     bif (eD.2 == (0 : Int)) then
      (f32 (eD.1) (m7.1)).bind fun xF=>
      bif xF then
       (f32 ((y63.1:List Str)) (m7.1)).bind fun iE=>
       bif (k9 == (!iE)) then
        (f17).bind fun yF=>
        bif yF then
         (f36).bind fun zI=>
         some (zI)
        else
         some (false)
       else
        some (false)
      else
       some (false)
     else
      some (false)
     ) fun eF=>
    some (eF)
    ) fun xO=>
   Option.bind (α:=Bool) (
    bif (x5.2.2 != (0 : Int)) then
     some (true)
    else
     bif (l8.2.2 != (0 : Int)) then
      some (true)
     else
      bif (v8.2.2 != (0 : Int)) then
       some (true)
      else
       bif ((((x5.2.1 : List Bool)).length : Int) != ((((y4).Harness).Warps).length : Int)) then
        some (true)
       else
        (idx ((x5.2.1:List Bool)) o0).bind fun yE=>
        bif (!yE) then
         some (true)
        else
         (f13 (v8.1) (([o0]:List Int))).bind fun eJ=>
         some ((!eJ))
    ) fun gD=>
   bif gD then
    some (false)
   else
    xO ()
   ) fun yO=>
  lp (σ:=(List Zz) × Int) (fun zO (z9,i6)=>
   jn (σ:=Unit) (fun _=>
    jn (σ:=(List Zz)) (fun zF=>
     zO (zF,(w64 (i6 + (1:Int))))
     ) fun aP=>
    jn (σ:=Unit) (fun _=>
     (idx (y56.1) i6).bind fun bP=>
     (idx (bP).b o0).bind fun vD=>
     (apnd 24 z9 (([(⟨i6,o0,(vD == (120:UInt8))⟩:Zz)]:List Zz))).bind fun lK=>
     aP (lK)
     ) fun cP=>
    (idx (y56.1) i6).bind fun gJ=>
    bif (((gJ).b.length : Int) != ((((y4).Harness).Warps).length : Int)) then
     some (false)
    else
     cP ()
    ) fun dP=>
   bif (decide (i6 < ((((y4).Design).Rows).length : Int))) then
    dP ()
   else
    yO (z9)
   ) big (([]:List Zz),(0:Int))
  ) fun eP=>
 Option.bind (α:=Bool) (
  bif (y56.2 != (0 : Int)) then
   some (true)
  else
   bif (y63.2 != (0 : Int)) then
    some (true)
   else
    bif (m7.2 != (0 : Int)) then
     some (true)
    else
     (f32 (y56.1) ((y63.1:List Str))).bind fun zE=>
     bif (!zE) then
      some (true)
     else
      some ((((m7.1).length:Int) != ((((y4).Design).Rows).length:Int)))
  ) fun iD=>
 bif iD then
  some (false)
 else
  eP ()
theorem wk5 {gI:Gh} {wI:World} {x0:Loom} {x1:UInt8} {up0:Value} (rp0:RV gI.m wI x0 up0) {r:Bool} (h:f5 x0 x1=some r):Fn Try.prog 5 #[up0,.int .u8 (UInt8.toNat (x1))] gI wI (fun _ _ v=>v=.bool (r)):=by
 unfold f5 at h
 refine fn_of_E Try.func5 rfl (Nat.le_of_ble_eq_true rfl) fun g0 hm hfr=>?_
 have rp0:RV g0.m wI x0 up0:=hm ▸ rp0
 show E _ 235 none _ _ _ _ _
 refine Zf (Za (Ze .plain rfl (D_box (g:=g0) rfl rp0 fun g1 w1 p1 hs q1=>?_)))
 have hfr:=hfr.ext hs
 refine Zg (.bool false) rfl rfl ?_
 refine Zb (Zd (Zf (Za (Ze .plain rfl (D_load (g:=g1) Try.isAgg25 Try.sizeOf25 rfl q1 fun v2 r2=>?_)))))
 obtain ⟨y4,pX,h⟩:=Ge h
 refine Ze .plain rfl (Zp (g:=g1) (vs:=[v2]) en9 (.cons rfl .nil) (wk9 r2 pX) fun g3 w3_ v3 hs hr=>?_)
 have hfr:=hfr.ext hs
 have r3:=hr
 refine Ze .plain rfl (D_allocOc (g:=g3) 2005 (⟨⟨0,[]⟩,⟨0,[]⟩⟩:FaultLoom) Try.zeroValue32 (fun m w=>⟨_,(rep_two (rep_two Zy rep_nil) (rep_two Zy rep_nil)),rfl⟩) fun g5 w5 p5 hs b5 cb=>?_)
 have hfr:=hfr.stp hs
 have r3:=r3.stp hs
 have i00:OSF 2005 60501 1 g5 w5 3 32 ([]:List Int) p5:=cb.osf (by rfl)
 have j00:OSF 2005 60503 3 g5 w5 3 32 ([]:List Int) p5:=cb.osf (by rfl)
 clear cb
 refine Ze .plain rfl (D_storeOc (g:=g5) (v:=v3) Try.sizeOf32 rfl b5 rfl r3 fun g6 w6 hs b6 cb=>?_)
 clear cb
 have hfr:=hfr.stp hs
 refine Zb (Zd (Zf (L_loadO (x:=.tmp 35) (SubS.comp part_FaultLoom_0 part_TieHarness_1 rfl).1 Try.isAgg26 Try.sizeOf26 b6 fun v9 r9 qX=>?_)))
 refine L_loadO (x:=.tmp 39) (SubS.comp part_FaultLoom_1 part_Design_1 rfl).1 Try.isAgg26 Try.sizeOf26 b6 fun rX sX hl12=>?_
 refine E_drawL (g:=g6) (n:=10) [] [0,1,2,3,4,5,6,7,8,9] rfl mixed (by kernel_rfl) trivial ?_
 refine Gd (fPtr p5 0) rfl rfl (Zc at_32_0 rfl (OB.ptr b6)) ?_
 refine Gd (fPtr p5 1) rfl rfl (P_fieldAddr2 (o1:=0) rfl at_28_1 rfl (OB.ptr b6)) ?_
 refine L_ld (c:=v9) rfl rfl .plain (fun _ _ h=>⟨h.ch,fun b hb _=>h.below.block b hb⟩) qX rfl ?_
 refine Gd (.int .i64 ((((y4).Harness).Warps).length:Int)) rfl rfl (P_len Try.underlying26 rfl r9) ?_
 refine Gd (fPtr p5 2) rfl rfl (Zc at_32_1 rfl (OB.ptr b6)) ?_
 refine Gd (fPtr p5 3) rfl rfl (P_fieldAddr2 (o1:=2) rfl at_30_1 rfl (OB.ptr b6)) ?_
 refine L_ld (c:=rX) rfl rfl .plain (fun _ _ h=>⟨h.ch,fun b hb _=>h.below.block b hb⟩) hl12 rfl ?_
 refine Gd (.int .i64 ((((y4).Design).Rows).length:Int)) rfl rfl (P_len Try.underlying26 rfl sX) ?_
 refine Gd (.int .i64 ((((y4).Harness).Warps).length:Int)) rfl rfl (P_assign rfl) ?_
 refine Gd (.int .i64 ((((y4).Design).Rows).length:Int)) rfl rfl (P_assign rfl) ?_
 refine L_nl fun tX w13 hs=>?_
 have hfr:=hfr.ext hs
 have b6:=b6.ext hs
 clear hs
 refine Zb (Zd (Zf (Za (Zn (.int .u8 (UInt8.toNat (x1))) rfl rfl ?_))))
 refine Ga (.int .i64 (((x1).toNat:Int))) (P_u8int Try.underlying5 Try.underlying3 rfl) rfl ?_
 refine Zn (.int .i64 ((((y4).Harness).Warps).length:Int)) rfl rfl ?_
 obtain ⟨o0,oU,h⟩:=Ge h
 refine Ga (.int .i64 (o0)) (P_int rfl rfl (congrArg (Option.map (Value.int .i64)) oU)) rfl ?_
 refine Zg (.int .i64 (o0)) rfl rfl ?_
 refine Zb (Zd (Zf (Za (Zn (.int .i64 ((((y4).Harness).Warps).length:Int)) rfl rfl ?_))))
 obtain ⟨bE,pU,h⟩:=Ge h
 refine Ze .plain rfl (D_callG (g:=tX) (vs:=[.int .i64 ((((y4).Harness).Warps).length:Int),.slice none 0 0]) en28 (.cons rfl (.cons rfl .nil)) (v28_0 (iO:=9047) RV_nil pU) fun uX k00 bA hs hr=>?_)
 have hfr:=hfr.ext hs
 have b6:=b6.ext hs
 have hm32:=hr
 refine Zg bA rfl rfl ?_
 refine Zb (Zd (Zf (Za (Zn bA rfl rfl ?_))))
 refine Zn (.int .i64 (o0)) rfl rfl ?_
 obtain ⟨oX,gP,h⟩:=Ge h
 refine Ga (ePtr bA o0 1) (P_indexAddrM (α:=Int) Try.underlying26 Try.sizeOf3 rfl hm32 rfl gP) rfl ?_
 refine Ze .plain rfl (D_storeM (g:=uX) (α:=Int) (a':=((-1:Int))) Try.sizeOf3 rfl hm32 gP rfl (Zj.2 rfl) fun eU vX hs b35=>?_)
 have hfr:=hfr.stp hs
 have b6:=b6.stp hs rfl
 refine Zb (Zd (Zf (Za (Zn (.int .i64 (o0)) rfl rfl ?_))))
 have qK:RV eU.m vX (⟨(5:Int),0,0,o0,false⟩:Zv) (.agg (setCh [[.int .i64 0],[.int .i64 0],[.int .i64 0],[.int .i64 0],[.bool false]] [(0,.int .i64 (5)),(3,.int .i64 (o0))]).flatten.toArray):=RV_build rfl (rep_pair (rfl) (rep_pair (Zy) (rep_pair (Zy) (rep_pair (rfl) (rep_last (rep_bool))))))
 generalize qU:(Value.agg (setCh [[.int .i64 0],[.int .i64 0],[.int .i64 0],[.int .i64 0],[.bool false]] [(0,.int .i64 (5)),(3,.int .i64 (o0))]).flatten.toArray)=gU at qK
 refine Ga gU (qU ▸ P_build (vs:=[(0,.int .i64 (5)),(3,.int .i64 (o0))]) [[.int .i64 0],[.int .i64 0],[.int .i64 0],[.int .i64 0],[.bool false]] lay_56 rfl rfl (.cons rfl (.cons rfl .nil)) ⟨⟨_,rfl,rfl⟩,⟨⟨_,rfl,rfl⟩,trivial⟩⟩) rfl ?_
 refine Ze .plain rfl (D_allocOc (g:=eU) 2010 (⟨0,0,0,0,false⟩:Zv) Try.zeroValue56 (fun m w=>⟨_,(rep_two Zy (rep_two Zy (rep_two Zy (rep_two Zy rep_bool)))),rfl⟩) fun xX w37 a9 hs b37 cb=>?_)
 have hfr:=hfr.stp hs
 have b6:=b6.stp hs rfl
 have b35:=b35.stp hs rfl
 have qK:=qK.stp hs
 clear cb
 refine Ze .plain rfl (D_storeOc (g:=xX) (v:=gU) Try.sizeOf56 rfl b37 rfl qK fun iU yX hs b38 cb=>?_)
 clear cb
 have hfr:=hfr.stp hs
 have b6:=b6.stp hs rfl
 have b35:=b35.stp hs rfl
 refine Zb (Zd (Zf (L_loadO (x:=.tmp 54) part_FaultLoom_0.1 Try.isAgg28 Try.sizeOf28 b6 fun jU iP rU=>?_)))
 obtain ⟨bU,sU,h⟩:=Ge h
 obtain ⟨cU,tU,h⟩:=Ge h
 refine L_loadO (x:=.tmp 59) part_FaultLoom_1.1 Try.isAgg30 Try.sizeOf30 b6 fun kU jP uU=>?_
 obtain ⟨dU,vU,h⟩:=Ge h
 obtain ⟨y56,xU,h⟩:=Ge h
 refine E_drawC (g:=iU) (w:=yX) (n:=13) [0,1,3,5,6,9,10,11,12] [2005] [0,1,2,3,4,5,6,7,8,9,10,11,12] rfl mixed (by kernel_rfl) fun w_c43 hs hlt=>?_
 have hfr:=hfr.ext hs
 have b6:=b6.ext hs
 have b35:=b35.ext hs
 have b38:=b38.ext hs
 clear hs
 refine CH_pur (c:=fPtr p5 0) rfl rfl .plain (Zc at_32_0 rfl (OB.ptr b6)) ?_
 refine CH_ldO (n:=2005) (c:=jU) rfl rfl .plain rU rfl rfl ?_
 have iP:=iP.ch hlt.1
 refine CH_do rfl rfl .plain (Zp (g:=iU) (vs:=[jU]) en30 (.cons rfl .nil) (wk30 iP sU) fun g46 l00 zX hs hr=>?_)
 have hfr:=hfr.ext hs
 have hlt:=hlt.ext hs
 have b6:=b6.ext hs
 have b35:=b35.ext hs
 have b38:=b38.ext hs
 have xG:=hr
 refine ⟨hlt.toW,?_⟩
 refine CH_pur (c:=bA) rfl rfl .plain (Zk rfl) ?_
 obtain ⟨gp48,hs,rp48⟩:=OM.pub b35
 have hfr:=hfr.stp hs
 have hlt:=hlt.stp hs
 have b6:=b6.stp hs rfl
 have b38:=b38.stp hs rfl
 have xG:=xG.stp hs
 refine CH_do rfl rfl .plain (Zp (g:=gp48) (vs:=[bA]) en11 (.cons rfl .nil) (wk11 rp48 tU) fun aY m00 bY hs hr=>?_)
 have hfr:=hfr.ext hs
 have hlt:=hlt.ext hs
 have b6:=b6.ext hs
 have rp48:=rp48.ext hs
 have b38:=b38.ext hs
 have xG:=xG.ext hs
 have kP:=hr
 refine ⟨hlt.toW,?_⟩
 refine CH_pur (c:=fPtr p5 2) rfl rfl .plain (Zc at_32_1 rfl (OB.ptr b6)) ?_
 refine CH_ldO (n:=2005) (c:=kU) rfl rfl .plain uU rfl rfl ?_
 have jP:=jP.ch hlt.1
 refine CH_do rfl rfl .plain (Zp (g:=aY) (vs:=[kU]) en31 (.cons rfl .nil) (wk31 jP vU) fun cY n00 dY hs hr=>?_)
 have hfr:=hfr.ext hs
 have hlt:=hlt.ext hs
 have b6:=b6.ext hs
 have rp48:=rp48.ext hs
 have b38:=b38.ext hs
 have xG:=xG.ext hs
 have kP:=kP.ext hs
 have eY:=hr
 refine ⟨hlt.toW,?_⟩
 refine CH_do rfl rfl .plain (Zp (g:=cY) (vs:=[zX,bY,dY]) en29 (.cons rfl (.cons rfl (.cons rfl .nil))) (wk29 xG kP eY xU) fun gY o00 v55 hs hr=>?_)
 have hfr:=hfr.ext hs
 have hlt:=hlt.ext hs
 have b6:=b6.ext hs
 have rp48:=rp48.ext hs
 have b38:=b38.ext hs
 obtain ⟨k8,uY,rfl,d9,rfl⟩:=hr
 refine ⟨hlt.toW,?_⟩
 refine CH_pur (c:=.tuple #[k8,.int .i64 (y56.2)]) rfl rfl .plain (Zk rfl) ?_
 refine CH_pur (c:=k8) rfl rfl .plain (Zi rfl rfl) ?_
 refine CH_pur (c:=.int .i64 (y56.2)) rfl rfl .plain (Zi rfl rfl) ?_
 refine CH_pur (c:=k8) rfl rfl .plain (P_assign rfl) ?_
 refine CH_nil ?_
 clear hlt
 refine Zg (.int .i64 (y56.2)) rfl rfl ?_
 refine Zb (Zd (Zf (L_loadO0 (x:=.tmp 5) Try.isAgg32 Try.sizeOf32 b6 fun lU iY yU=>?_)))
 obtain ⟨iH,zU,h⟩:=Ge h
 refine L_loadO0 (x:=.tmp 10) Try.isAgg56 Try.sizeOf56 b38 fun mU jY hl60=>?_
 obtain ⟨y63,aV,h⟩:=Ge h
 refine E_drawL (g:=gY) (n:=11) [(1,(fun v g w=>RV g.m w iH v)),(3,(fun v g w=>RV g.m w ([(⟨(5:Int),0,0,o0,false⟩:Zv)]:List Zv) v∧OS 3069 g w 56 ([(⟨(5:Int),0,0,o0,false⟩:Zv)]:List Zv) v∧FullV v)),(5,(fun v g w=>∃ y0 y1:Value,v=.tuple #[y0,y1]∧RV g.m w (y63.1:List Str) y0∧y1=.int .i64 (y63.2)))] [0,1,2,3,4,5,6,7,8,9,10] rfl mixed (by kernel_rfl) (⟨fun _=>up_rv,fun _=>up_and up_rv (up_and up_os (up_eq _)),fun _=>(up_ex fun _=>(up_ex fun _=>(up_and (up_eq _) (up_and up_rv (up_eq _))))),trivial⟩) ?_
 refine L_ld (c:=lU) rfl rfl .plain (fun _ _ h=>⟨h.ch,fun b hb _=>h.below.block b hb⟩) yU rfl ?_
 refine L_do (φ:=fun v g w=>RV g.m w iH v) rfl rfl .plain (fun g w hd=>Zp (g:=g) (vs:=[lU]) en15 (.cons rfl .nil) (wk15 (iY.ext hd.1) zU) fun g' w' v hs hr=>⟨g',hs,hr⟩) (fun lP hv=>?_)
 obtain ⟨_,_,_,rq58⟩:=hv
 refine L_ld (c:=mU) rfl rfl .plain (fun _ _ h=>⟨h.ch,fun b hb _=>h.below.block b hb⟩) hl60 rfl ?_
 refine L_do (φ:=fun v g w=>RV g.m w ([(⟨(5:Int),0,0,o0,false⟩:Zv)]:List Zv) v∧OS 3069 g w 56 ([(⟨(5:Int),0,0,o0,false⟩:Zv)]:List Zv) v∧FullV v) rfl rfl .plain (fun g w hd=>D_buildSlice (g:=g) 3069 (xs:=([(⟨(5:Int),0,0,o0,false⟩:Zv)]:List Zv)) (vs:=[mU]) Try.underlying57 Try.sizeOf56 Try.zeroValue56 rfl rfl (.cons rfl .nil) (RVs.cons (jY.ext hd.1) RVs.nil) rfl rfl fun g' w' v hs o r hxt hfl=>⟨g',hxt,r,o,hfl⟩) (fun xE hv=>?_)
 clear hv
 refine Gd (.int .i64 ((((y4).Design).Rows).length:Int)) rfl rfl (Zk rfl) ?_
 refine L_do (φ:=fun v g w=>∃ y0 y1:Value,v=.tuple #[y0,y1]∧RV g.m w (y63.1:List Str) y0∧y1=.int .i64 (y63.2)) rfl rfl .plain (fun g w hd=>Zp (g:=g) (vs:=[lP,xE,.int .i64 ((((y4).Design).Rows).length:Int)]) en14 (.cons rfl (.cons rfl (.cons rfl .nil))) (wk14 (word (A:=fun g w=>RV g.m w iH lP) 1 rfl rfl (deps_of hd)) (word (A:=fun g w=>RV g.m w ([(⟨(5:Int),0,0,o0,false⟩:Zv)]:List Zv) xE∧OS 3069 g w 56 ([(⟨(5:Int),0,0,o0,false⟩:Zv)]:List Zv) xE∧FullV xE) 3 rfl rfl (deps_of hd)).1 aV) fun g' w' v hs hr=>⟨g',hs,hr⟩) (fun v62 hv=>?_)
 obtain ⟨_,_,_,l5,_,rfl,kY,rfl⟩:=hv
 refine Gd (.tuple #[l5,.int .i64 (y63.2)]) rfl rfl (Zk rfl) ?_
 refine Gd l5 rfl rfl (Zi rfl rfl) ?_
 refine Gd (.int .i64 (y63.2)) rfl rfl (Zi rfl rfl) ?_
 refine Gd l5 rfl rfl (P_assign rfl) ?_
 refine Gd (.int .i64 (y63.2)) rfl rfl (P_assign rfl) ?_
 refine L_nil fun nU w65 hall=>?_
 have hs:=hall.1
 have hfr:=hfr.ext hs
 have b6:=b6.ext hs
 have rp48:=rp48.ext hs
 have b38:=b38.ext hs
 have d9:=d9.ext hs
 have p00:=(word_all (A:=fun g w=>RV g.m w iH lP) 1 rfl hall)
 have q00:=(word_all (A:=fun g w=>RV g.m w ([(⟨(5:Int),0,0,o0,false⟩:Zv)]:List Zv) xE∧OS 3069 g w 56 ([(⟨(5:Int),0,0,o0,false⟩:Zv)]:List Zv) xE∧FullV xE) 3 rfl hall).1
 have o114:=(word_all (A:=fun g w=>RV g.m w ([(⟨(5:Int),0,0,o0,false⟩:Zv)]:List Zv) xE∧OS 3069 g w 56 ([(⟨(5:Int),0,0,o0,false⟩:Zv)]:List Zv) xE∧FullV xE) 3 rfl hall).2.1
 have r00:=(tup2_0 (word_all (A:=fun g w=>∃ y0 y1:Value,Value.tuple #[l5,.int .i64 (y63.2)]=.tuple #[y0,y1]∧RV g.m w (y63.1:List Str) y0∧y1=.int .i64 (y63.2)) 5 rfl hall))
 have tB:=(tup2_0 (word_all (A:=fun g w=>∃ y0 y1:Value,Value.tuple #[l5,.int .i64 (y63.2)]=.tuple #[y0,y1]∧RV g.m w (y63.1:List Str) y0∧y1=.int .i64 (y63.2)) 5 rfl hall))
 clear hs hall
 refine Zb (Zd (Zf (Za (Ze .plain rfl (D_loadO (g:=nU) Try.isAgg32 Try.sizeOf32 rfl b6 fun bV cV=>?_)))))
 obtain ⟨rO,cS,h⟩:=Ge h
 refine Ze .plain rfl (Zp (g:=nU) (vs:=[bV]) en15 (.cons rfl .nil) (wk15 cV cS) fun dV vY eV hs hr=>?_)
 have hfr:=hfr.ext hs
 have b6:=b6.ext hs
 have rp48:=rp48.ext hs
 have b38:=b38.ext hs
 have d9:=d9.ext hs
 have tB:=tB.ext hs
 have gV:=hr
 refine Zn (.int .i64 ((((y4).Design).Rows).length:Int)) rfl rfl ?_
 obtain ⟨m7,dS,h⟩:=Ge h
 refine Ze .plain rfl (Zp (g:=dV) (vs:=[eV,.slice none 0 0,.int .i64 ((((y4).Design).Rows).length:Int)]) en14 (.cons rfl (.cons rfl (.cons rfl .nil))) (wk14 gV RV_nil dS) fun iJ xY s00 hs hr=>?_)
 have hfr:=hfr.ext hs
 have b6:=b6.ext hs
 have rp48:=rp48.ext hs
 have b38:=b38.ext hs
 have d9:=d9.ext hs
 have tB:=tB.ext hs
 obtain ⟨u3,mY,rfl,oB,rfl⟩:=hr
 refine Zn (.tuple #[u3,.int .i64 (m7.2)]) rfl rfl ?_
 refine Ga u3 (Zi rfl rfl) rfl ?_
 refine Ga (.int .i64 (m7.2)) (Zi rfl rfl) rfl ?_
 refine Zg u3 rfl rfl ?_
 refine Zg (.int .i64 (m7.2)) rfl rfl ?_
 refine Zb (Zd (Zq h (fun (s:Unit) e w=>∃ (g:Gh) ,Fr gI wI g w∧e 5=p5∧OB 2005 g w 32 (y4:FaultLoom) p5∧e 6=.int .i64 (((((y4).Harness).Warps).length:Int))∧e 7=.int .i64 (((((y4).Design).Rows).length:Int))∧e 8=.int .i64 (o0)∧e 9=bA∧RV g.m w ((List.set bE (Int.toNat o0) ((-1:Int))):List Int) bA∧e 10=a9∧OB 2010 g w 56 ((⟨(5:Int),0,0,o0,false⟩:Zv):Zv) a9∧e 11=k8∧RV g.m w (y56.1:List Str) k8∧e 13=l5∧RV g.m w ((y63.1:List Str):List Str) l5∧e 15=u3∧RV g.m w (m7.1:List Str) u3) (fun X141 eP eS h=>?_) ?_))
 ·obtain ⟨iD, hx, h⟩ := Ge h
  refine E_join (fun e w=>∃ (g:Gh) ,Fr gI wI g w∧e 5=p5∧OB 2005 g w 32 (y4:FaultLoom) p5∧e 6=.int .i64 (((((y4).Harness).Warps).length:Int))∧e 7=.int .i64 (((((y4).Design).Rows).length:Int))∧e 8=.int .i64 (o0)∧e 9=bA∧RV g.m w ((List.set bE (Int.toNat o0) ((-1:Int))):List Int) bA∧e 10=a9∧OB 2010 g w 56 ((⟨(5:Int),0,0,o0,false⟩:Zv):Zv) a9∧e 11=k8∧RV g.m w (y56.1:List Str) k8∧e 13=l5∧RV g.m w ((y63.1:List Str):List Str) l5∧e 15=u3∧RV g.m w (m7.1:List Str) u3∧e 102=.bool (iD)) (fun Q' hQ=>?_) (fun yY t00 hR=>?_)
  ·replace h := hx
   clear hx
   refine Za (Zn (.int .i64 (y56.2)) rfl rfl ?_)
   refine EL_in (.bool ((y56.2 != (0:Int)))) rfl rfl rfl rfl ?_
   refine Zn (.bool ((y56.2 != (0:Int)))) rfl rfl ?_
   rcases Zt h with ⟨xD,h⟩ | ⟨xD,h⟩
   ·refine Gc rfl rfl xD rfl rfl ?_
    refine Gc rfl rfl xD rfl rfl ?_
    refine Ga (.bool true) (Zl (b:=(y56.2 != (0:Int))) rfl (pick_t xD rfl)) rfl ?_
    refine EL_dead 16 rfl ?_
    refine Zb ?_
    obtain rfl:=sinj h
    exact hQ _ _ ⟨iJ,hfr,rfl,b6,rfl,rfl,rfl,rfl,rp48,rfl,b38,rfl,d9,rfl,tB,rfl,oB,rfl⟩
   ·refine Gb (.int .i64 (y63.2)) (Zk rfl) rfl rfl xD rfl ?_
    refine Gb (.bool ((y63.2 != (0:Int)))) (P_int rfl rfl rfl) rfl rfl xD rfl ?_
    refine Ga (.bool ((y63.2 != (0:Int)))) (Zl (b:=(y56.2 != (0:Int))) rfl (pick_f xD rfl)) rfl ?_
    refine Zn (.bool ((y63.2 != (0:Int)))) rfl rfl ?_
    rcases Zt h with ⟨yD,h⟩ | ⟨yD,h⟩
    ·refine Gc rfl rfl yD rfl rfl ?_
     refine Gc rfl rfl yD rfl rfl ?_
     refine Ga (.bool true) (Zl (b:=(y63.2 != (0:Int))) rfl (pick_t yD rfl)) rfl ?_
     refine EL_dead 12 rfl ?_
     refine Zb ?_
     obtain rfl:=sinj h
     exact hQ _ _ ⟨iJ,hfr,rfl,b6,rfl,rfl,rfl,rfl,rp48,rfl,b38,rfl,d9,rfl,tB,rfl,oB,rfl⟩
    ·refine Gb (.int .i64 (m7.2)) (Zk rfl) rfl rfl yD rfl ?_
     refine Gb (.bool ((m7.2 != (0:Int)))) (P_int rfl rfl rfl) rfl rfl yD rfl ?_
     refine Ga (.bool ((m7.2 != (0:Int)))) (Zl (b:=(y63.2 != (0:Int))) rfl (pick_f yD rfl)) rfl ?_
     refine Zn (.bool ((m7.2 != (0:Int)))) rfl rfl ?_
     rcases Zt h with ⟨vB,h⟩ | ⟨vB,h⟩
     ·refine Gc rfl rfl vB rfl rfl ?_
      iterate 3 refine Gc rfl rfl vB rfl rfl ?_
      refine Ga (.bool true) (Zl (b:=(m7.2 != (0:Int))) rfl (pick_t vB rfl)) rfl ?_
      refine EL_dead 6 rfl ?_
      refine Zb ?_
      obtain rfl:=sinj h
      exact hQ _ _ ⟨iJ,hfr,rfl,b6,rfl,rfl,rfl,rfl,rp48,rfl,b38,rfl,d9,rfl,tB,rfl,oB,rfl⟩
     ·refine Gb k8 (Zk rfl) rfl rfl vB rfl ?_
      refine Gb l5 (Zk rfl) rfl rfl vB rfl ?_
      obtain ⟨zE,gS,h⟩:=Ge h
      refine Ze (.yes2 rfl rfl vB) rfl (Zp (g:=iJ) (vs:=[k8,l5]) en32 (.cons rfl (.cons rfl .nil)) (wk32 d9 tB gS) fun mP zY u00 hs hr=>?_)
      have hfr:=hfr.ext hs
      have b6:=b6.ext hs
      have rp48:=rp48.ext hs
      have b38:=b38.ext hs
      have d9:=d9.ext hs
      have tB:=tB.ext hs
      have oB:=oB.ext hs
      subst hr
      refine Gb (.bool (!zE)) (P_not rfl) rfl rfl vB rfl ?_
      refine Ga (.bool (!zE)) (Zl (b:=(m7.2 != (0:Int))) rfl (pick_f vB rfl)) rfl ?_
      refine Zn (.bool (!zE)) rfl rfl ?_
      rcases Zt h with ⟨yB,h⟩ | ⟨yB,h⟩
      ·refine Gc rfl rfl yB rfl rfl ?_
       iterate 3 refine Gc rfl rfl yB rfl rfl ?_
       refine Ga (.bool true) (Zl (b:=(!zE)) rfl (pick_t yB rfl)) rfl ?_
       refine Zb ?_
       obtain rfl:=sinj h
       exact hQ _ _ ⟨mP,hfr,rfl,b6,rfl,rfl,rfl,rfl,rp48,rfl,b38,rfl,d9,rfl,tB,rfl,oB,rfl⟩
      ·refine Gb u3 (Zk rfl) rfl rfl yB rfl ?_
       refine Gb (.int .i64 ((m7.1).length:Int)) (P_len Try.underlying50 rfl oB) rfl rfl yB rfl ?_
       refine Gb (.int .i64 ((((y4).Design).Rows).length:Int)) (Zk rfl) rfl rfl yB rfl ?_
       refine Gb (.bool ((((m7.1).length:Int) != ((((y4).Design).Rows).length:Int)))) (P_int rfl rfl rfl) rfl rfl yB rfl ?_
       refine Ga (.bool ((((m7.1).length:Int) != ((((y4).Design).Rows).length:Int)))) (Zl (b:=(!zE)) rfl (pick_f yB rfl)) rfl ?_
       refine Zb ?_
       obtain rfl:=sinj h
       exact hQ _ _ ⟨mP,hfr,rfl,b6,rfl,rfl,rfl,rfl,rp48,rfl,b38,rfl,d9,rfl,tB,rfl,oB,rfl⟩
  ·clear hx
   obtain ⟨iV,hfr,nP,oP,pP,sP,tP,uP,vP,xK,yK,zK,aL,bL,dL,eL,gL,yG⟩:=hR
   rcases Zt h with ⟨jJ,h⟩ | ⟨jJ,h⟩
   ·refine E_cond_true (Eq.trans (show ev _ _ = .bool (iD) from yG) (congrArg Value.bool jJ)) ?_
    refine Zf (Za (Zg (.bool false) rfl rfl ?_))
    refine Zb (Zd (E_ret (thn_r ?_)))
    obtain rfl:=sinj h
    exact end1 rfl rfl (show _=.bool false from rfl) ⟨_,hfr,rfl⟩
   ·refine E_cond_false (Eq.trans (show ev _ _ = .bool (iD) from yG) (congrArg Value.bool jJ)) ?_
    exact Zu (Zd (eS () _ _ ⟨iV,hfr,nP,oP,pP,sP,tP,uP,vP,xK,yK,zK,aL,bL,dL,eL,gL⟩ h))
 ·rintro _ aZ v00 ⟨jV, hfr, xP, zG, yP, zP, bQ, cQ, aH, iL, aG, jL, bG, lL, cG, mL, eG⟩ h
  refine Zf (Za (Ze .plain rfl (D_buildSlice (g:=jV) 3103 (xs:=([]:List Zz)) (vs:=[]) Try.underlying85 Try.sizeOf87 Try.zeroValue87 rfl rfl .nil RVs.nil rfl rfl fun kV x00 dQ hs o157 lV hxt hfl=>?_)))
  have hfr:=hfr.stp hs
  have zG:=zG.stp hs rfl
  have aH:=aH.stp hs
  have aG:=aG.stp hs rfl
  have bG:=bG.stp hs
  have cG:=cG.stp hs
  have eG:=eG.stp hs
  refine Zg dQ rfl rfl ?_
  refine Zb (Zd (Zq h (fun (s:(List Zz)) e w=>∃ (g:Gh) (lE:Value),Fr gI wI g w∧e 5=p5∧OB 2005 g w 32 (y4:FaultLoom) p5∧e 6=.int .i64 (((((y4).Harness).Warps).length:Int))∧e 8=.int .i64 (o0)∧e 9=bA∧RV g.m w ((List.set bE (Int.toNat o0) ((-1:Int))):List Int) bA∧e 10=a9∧OB 2010 g w 56 ((⟨(5:Int),0,0,o0,false⟩:Zv):Zv) a9∧e 13=l5∧RV g.m w ((y63.1:List Str):List Str) l5∧e 15=u3∧RV g.m w (m7.1:List Str) u3∧e 17=lE∧RV g.m w (s:List Zz) lE∧OS 3103 g w 87 (s:List Zz) lE) (fun X202 yO iS h=>?_) ?_))
  ·refine Zf (Za (Zg (.int .i64 (0)) rfl rfl ?_))
   refine Zb (Zd (Zr ?_))
   refine E_lp h (fun (s:(List Zz) × Int) e w=>∃ (g:Gh) (lE:Value),Fr gI wI g w∧e 5=p5∧OB 2005 g w 32 (y4:FaultLoom) p5∧e 6=.int .i64 (((((y4).Harness).Warps).length:Int))∧e 7=.int .i64 (((((y4).Design).Rows).length:Int))∧e 8=.int .i64 (o0)∧e 9=bA∧RV g.m w ((List.set bE (Int.toNat o0) ((-1:Int))):List Int) bA∧e 10=a9∧OB 2010 g w 56 ((⟨(5:Int),0,0,o0,false⟩:Zv):Zv) a9∧e 11=k8∧RV g.m w (y56.1:List Str) k8∧e 13=l5∧RV g.m w ((y63.1:List Str):List Str) l5∧e 15=u3∧RV g.m w (m7.1:List Str) u3∧e 17=lE∧RV g.m w (s.1:List Zz) lE∧OS 3103 g w 87 (s.1:List Zz) lE∧e 18=.int .i64 (s.2)) ⟨kV,(dQ),hfr,xP,zG,yP,zP,bQ,cQ,aH,iL,aG,jL,bG,lL,cG,mL,eG,rfl,lV,o157,rfl⟩ (fun X203 zO jS=>?_)
   rintro ⟨z9,i6⟩ bZ y00 ⟨eQ,aB,hfr,oJ,pJ,qJ,rJ,sJ,vJ,xJ,jH,kH,nL,oL,lH,mH,nH,oH,pH,qH,sH,tH⟩ h
   refine Zq h (fun (s:Unit) e w=>∃ (g:Gh) ,Fr gI wI g w∧e 5=p5∧OB 2005 g w 32 (y4:FaultLoom) p5∧e 6=.int .i64 (((((y4).Harness).Warps).length:Int))∧e 7=.int .i64 (((((y4).Design).Rows).length:Int))∧e 8=.int .i64 (o0)∧e 9=bA∧RV g.m w ((List.set bE (Int.toNat o0) ((-1:Int))):List Int) bA∧e 10=a9∧OB 2010 g w 56 ((⟨(5:Int),0,0,o0,false⟩:Zv):Zv) a9∧e 11=k8∧RV g.m w (y56.1:List Str) k8∧e 13=l5∧RV g.m w ((y63.1:List Str):List Str) l5∧e 15=u3∧RV g.m w (m7.1:List Str) u3∧e 17=aB∧RV g.m w (z9:List Zz) aB∧OS 3103 g w 87 (z9:List Zz) aB∧e 18=.int .i64 (i6)) (fun X206 dP lS h=>?_) ?_
   ·refine Zf (Za (Zo tH rfl ?_))
    refine Zo rJ rfl ?_
    refine Ga (.bool ((decide (i6 < ((((y4).Design).Rows).length:Int))))) (P_int rfl rfl rfl) rfl ?_
    refine Zb (Zd ?_)
    rcases Zt h with ⟨kJ,h⟩ | ⟨kJ,h⟩
    ·refine E_ct kJ rfl ?_
     exact Zu (Zd (lS () _ _ ⟨eQ,hfr,oJ,pJ,qJ,rJ,sJ,vJ,xJ,jH,kH,nL,oL,lH,mH,nH,oH,pH,qH,sH,tH⟩ h))
    ·refine E_cf kJ rfl ?_
     refine E_exit ?_
     refine thn_e ?_
     refine thn_e ?_
     refine blk_hit ?_
     exact Zd (iS (z9) _ _ ⟨eQ,(aB),hfr,oJ,pJ,qJ,sJ,vJ,xJ,jH,kH,lH,mH,nH,oH,pH,qH,sH⟩ h)
   ·rintro _ cZ z00 ⟨gQ, hfr, iQ, jQ, yJ, kQ, lQ, mQ, nQ, pL, qL, uH, gG, rL, tL, uL, vL, xL, yL, zL, xH⟩ h
    refine Zq h (fun (s:(List Zz)) e w=>∃ (g:Gh) (lE:Value),Fr gI wI g w∧e 5=p5∧OB 2005 g w 32 (y4:FaultLoom) p5∧e 6=.int .i64 (((((y4).Harness).Warps).length:Int))∧e 7=.int .i64 (((((y4).Design).Rows).length:Int))∧e 8=.int .i64 (o0)∧e 9=bA∧RV g.m w ((List.set bE (Int.toNat o0) ((-1:Int))):List Int) bA∧e 10=a9∧OB 2010 g w 56 ((⟨(5:Int),0,0,o0,false⟩:Zv):Zv) a9∧e 11=k8∧RV g.m w (y56.1:List Str) k8∧e 13=l5∧RV g.m w ((y63.1:List Str):List Str) l5∧e 15=u3∧RV g.m w (m7.1:List Str) u3∧e 17=lE∧RV g.m w (s:List Zz) lE∧OS 3103 g w 87 (s:List Zz) lE∧e 18=.int .i64 (i6)) (fun X227 aP mS h=>?_) ?_
    ·refine Zr ?_
     refine Zq h (fun (s:Unit) e w=>∃ (g:Gh) ,Fr gI wI g w∧e 5=p5∧OB 2005 g w 32 (y4:FaultLoom) p5∧e 6=.int .i64 (((((y4).Harness).Warps).length:Int))∧e 7=.int .i64 (((((y4).Design).Rows).length:Int))∧e 8=.int .i64 (o0)∧e 9=bA∧RV g.m w ((List.set bE (Int.toNat o0) ((-1:Int))):List Int) bA∧e 10=a9∧OB 2010 g w 56 ((⟨(5:Int),0,0,o0,false⟩:Zv):Zv) a9∧e 11=k8∧RV g.m w (y56.1:List Str) k8∧e 13=l5∧RV g.m w ((y63.1:List Str):List Str) l5∧e 15=u3∧RV g.m w (m7.1:List Str) u3∧e 17=aB∧RV g.m w (z9:List Zz) aB∧OS 3103 g w 87 (z9:List Zz) aB∧e 18=.int .i64 (i6)) (fun X232 cP nS h=>?_) ?_
     ·refine Zf (Za (Zo uH rfl ?_))
      refine Zo xH rfl ?_
      obtain ⟨gJ,sK,h⟩:=Ge h
      refine Ga (ePtr k8 i6 1) (Zh (α:=Str) Try.underlying50 Try.sizeOf9 rfl gG rfl sK) rfl ?_
      have mV:=PT_idx gG sK
      refine Ze .plain rfl (D_load (g:=gQ) Try.isAgg9 Try.sizeOf9 rfl mV fun a01 nV=>?_)
      obtain rfl:=RV_str.1 nV
      refine Ga (.int .i64 ((gJ).b.length:Int)) (P_lenS Try.underlying9 rfl) rfl ?_
      refine Zo yJ rfl ?_
      refine Ga (.bool ((((gJ).b.length:Int) != ((((y4).Harness).Warps).length:Int)))) (P_int rfl rfl rfl) rfl ?_
      refine Zb (Zd ?_)
      rcases Zt h with ⟨lJ,h⟩ | ⟨lJ,h⟩
      ·refine E_ct lJ rfl ?_
       refine Zf (Za (Zg (.bool false) rfl rfl ?_))
       refine Zb (Zd (E_ret (thn_r ?_)))
       refine blk_r ?_
       refine thn_r ?_
       refine thn_r ?_
       refine blk_r ?_
       refine thn_r ?_
       obtain rfl:=sinj h
       exact end1 rfl rfl (show _=.bool false from rfl) ⟨_,hfr,rfl⟩
      ·refine E_cf lJ rfl ?_
       exact Zu (Zd (nS () _ _ ⟨gQ,hfr,iQ,jQ,yJ,kQ,lQ,mQ,nQ,pL,qL,uH,gG,rL,tL,uL,vL,xL,yL,zL,xH⟩ h))
     ·rintro _ dZ oV ⟨mK, hfr, oQ, mE, pQ, qQ, cH, rQ, oE, aM, nD, yH, dB, bM, oD, cM, sD, dM, hG, iG, jG⟩ h
      refine Za (Zo dM rfl ?_)
      refine Zo jG rfl ?_
      refine Zo cH rfl ?_
      refine Zo yH rfl ?_
      refine Zo jG rfl ?_
      obtain ⟨bP,tK,h⟩:=Ge h
      refine Ga (ePtr k8 i6 1) (Zh (α:=Str) Try.underlying50 Try.sizeOf9 rfl dB rfl tK) rfl ?_
      have pV:=PT_idx dB tK
      refine Ze .plain rfl (D_load (g:=mK) Try.isAgg9 Try.sizeOf9 rfl pV fun b01 qV=>?_)
      obtain rfl:=RV_str.1 qV
      refine Zo cH rfl ?_
      obtain ⟨vD,oS,h⟩:=Ge h
      refine Ga (.int .u8 (UInt8.toNat (vD))) (P_indexS Try.underlying9 rfl rfl oS) rfl ?_
      refine Ga (.bool ((vD == (120:UInt8)))) (P_u8 rfl rfl rfl) rfl ?_
      have sQ:RV mK.m oV (⟨i6,o0,(vD == (120:UInt8))⟩:Zz) (.agg (setCh [[.int .i64 0],[.int .i64 0],[.bool false]] [(0,.int .i64 (i6)),(1,.int .i64 (o0)),(2,.bool ((vD == (120:UInt8))))]).flatten.toArray):=RV_build rfl (rep_pair (rfl) (rep_pair (rfl) (rep_last (rfl))))
      generalize pS:(Value.agg (setCh [[.int .i64 0],[.int .i64 0],[.bool false]] [(0,.int .i64 (i6)),(1,.int .i64 (o0)),(2,.bool ((vD == (120:UInt8))))]).flatten.toArray)=tQ at sQ
      refine Ga tQ (pS ▸ P_build (vs:=[(0,.int .i64 (i6)),(1,.int .i64 (o0)),(2,.bool ((vD == (120:UInt8))))]) [[.int .i64 0],[.int .i64 0],[.bool false]] lay_87 rfl rfl (.cons rfl (.cons rfl (.cons rfl .nil))) ⟨⟨_,rfl,rfl⟩,⟨⟨_,rfl,rfl⟩,⟨⟨_,rfl,rfl⟩,trivial⟩⟩⟩) rfl ?_
      refine Ze .plain rfl (D_buildSlice (g:=mK) 3127 (xs:=([(⟨i6,o0,(vD == (120:UInt8))⟩:Zz)]:List Zz)) (vs:=[tQ]) Try.underlying85 Try.sizeOf87 Try.zeroValue87 rfl rfl (.cons rfl .nil) (RVs.cons sQ RVs.nil) rfl rfl fun rV c01 d01 hs o243 sV hxt hfl=>?_)
      have hfr:=hfr.stp hs
      have mE:=mE.stp hs rfl
      have oE:=oE.stp hs
      have nD:=nD.stp hs rfl
      have dB:=dB.stp hs
      have oD:=oD.stp hs
      have sD:=sD.stp hs
      have hG:=hG.stp hs
      have iG:=iG.stp hs rfl
      obtain ⟨lK,qS,h⟩:=Ge h
      refine Ze .plain rfl (D_append (g:=rV) (i:=3103) Try.underlying85 info_87 rfl rfl iG hG rfl sV qS fun tV e01 uQ hs o244 uV _=>?_)
      have hfr:=hfr.stp hs
      have mE:=mE.stp hs rfl
      have oE:=oE.stp hs
      have nD:=nD.stp hs rfl
      have dB:=dB.stp hs
      have oD:=oD.stp hs
      have sD:=sD.stp hs
      refine Zg uQ rfl rfl ?_
      exact Zb (blk_n (Zd (mS (lK) _ _ ⟨tV,(uQ),hfr,oQ,mE,pQ,qQ,cH,rQ,oE,aM,nD,yH,dB,bM,oD,cM,sD,rfl,uV,o244,jG⟩ h)))
    ·rintro zF mZ g01 ⟨vV, eM, hfr, vQ, xQ, yQ, zQ, aR, bR, cR, iM, jM, kM, mM, nM, oM, pM, qM, rM, sM, tM, uM⟩ h
     refine Za (Zo uM rfl ?_)
     refine EL_in (.int .i64 ((w64 (i6 + (1:Int))))) rfl rfl rfl rfl ?_
     refine Zg (.int .i64 ((w64 (i6 + (1:Int))))) rfl rfl ?_
     exact Zb (Zd (jS (zF,(w64 (i6 + (1:Int)))) _ _ ⟨vV,(eM),hfr,vQ,xQ,yQ,zQ,aR,bR,cR,iM,jM,kM,mM,nM,oM,pM,qM,rM,sM,tM,rfl⟩ h))
  ·rintro uF nZ h01 ⟨xV, zH, hfr, l9, t5, dR, zJ, eR, rA, mC, x6, qC, y6, rC, i7, aI, uC, lX⟩ h
   refine Zf (L_loadO (x:=.tmp 130) part_FaultLoom_0.1 Try.isAgg28 Try.sizeOf28 t5 fun gR yV rS=>?_)
   obtain ⟨y251,sS,h⟩:=Ge h
   refine L_loadO (x:=.tmp 133) part_FaultLoom_1.1 Try.isAgg30 Try.sizeOf30 t5 fun iR zV tS=>?_
   obtain ⟨vF,uS,h⟩:=Ge h
   obtain ⟨y258,vS,h⟩:=Ge h
   obtain ⟨x5,xS,h⟩:=Ge h
   refine E_drawL (g:=xV) (n:=17) [(2,(fun v g w=>RV g.m w y251 v)),(5,(fun v g w=>RV g.m w vF v)),(6,(fun v g w=>RV g.m w ([]:List Zz) v∧OS 3136 g w 87 ([]:List Zz) v∧FullV v)),(8,(fun v g w=>RV g.m w y258 v∧OS 3136 g w 87 y258 v)),(9,(fun v g w=>∃ y0 y1 y2:Value,v=.tuple #[y0,y1,y2]∧RV g.m w (x5.1:List Int) y0∧RV g.m w (x5.2.1:List Bool) y1∧y2=.int .i64 (x5.2.2)))] [0,1,2,3,4,5,6,7,8,9,10,11,12,13,14,15,16] rfl mixed (by kernel_rfl) (⟨fun _=>up_rv,fun _=>up_rv,fun _=>up_and up_rv (up_and up_os (up_eq _)),fun _=>up_and up_rv up_os,fun _=>(up_ex fun _=>(up_ex fun _=>(up_ex fun _=>(up_and (up_eq _) (up_and up_rv (up_and up_rv (up_eq _))))))),trivial⟩) ?_
   refine Gd (fPtr p5 0) rfl rfl (Zc at_32_0 l9 (OB.ptr t5)) ?_
   refine L_ld (c:=gR) rfl rfl .plain (fun _ _ h=>⟨h.ch,fun b hb _=>h.below.block b hb⟩) rS rfl ?_
   refine L_do (φ:=fun v g w=>RV g.m w y251 v) rfl rfl .plain (fun g w hd=>Zp (g:=g) (vs:=[gR]) en30 (.cons rfl .nil) (wk30 (yV.ext hd.1) sS) fun g' w' v hs hr=>⟨g',hs,hr⟩) (fun nK hv=>?_)
   obtain ⟨_,_,_,rq250⟩:=hv
   refine Gd (fPtr p5 2) rfl rfl (Zc at_32_1 l9 (OB.ptr t5)) ?_
   refine L_ld (c:=iR) rfl rfl .plain (fun _ _ h=>⟨h.ch,fun b hb _=>h.below.block b hb⟩) tS rfl ?_
   refine L_do (φ:=fun v g w=>RV g.m w vF v) rfl rfl .plain (fun g w hd=>Zp (g:=g) (vs:=[iR]) en31 (.cons rfl .nil) (wk31 (zV.ext hd.1) uS) fun g' w' v hs hr=>⟨g',hs,hr⟩) (fun oK hv=>?_)
   obtain ⟨_,_,_,rq254⟩:=hv
   refine L_do (φ:=fun v g w=>RV g.m w ([]:List Zz) v∧OS 3136 g w 87 ([]:List Zz) v∧FullV v) rfl rfl .plain (fun g w hd=>D_buildSlice (g:=g) 3136 (xs:=([]:List Zz)) (vs:=[]) Try.underlying85 Try.sizeOf87 Try.zeroValue87 rfl rfl .nil RVs.nil rfl rfl fun g' w' v hs o r hxt hfl=>⟨g',hxt,r,o,hfl⟩) (fun y9 hv=>?_)
   clear hv
   refine Gd zH rfl rfl (Zk aI) ?_
   refine L_do (φ:=fun v g w=>RV g.m w y258 v∧OS 3136 g w 87 y258 v) rfl rfl .plain (fun g w hd=>D_append (g:=g) (i:=3136) Try.underlying85 info_87 rfl rfl (word (A:=fun g w=>RV g.m w ([]:List Zz) y9∧OS 3136 g w 87 ([]:List Zz) y9∧FullV y9) 6 rfl rfl (deps_of hd)).2.1 (word (A:=fun g w=>RV g.m w ([]:List Zz) y9∧OS 3136 g w 87 ([]:List Zz) y9∧FullV y9) 6 rfl rfl (deps_of hd)).1 rfl (uC.ext hd.1) vS fun g' w' v hs o r hf=>⟨g',hf (word (A:=fun g w=>RV g.m w ([]:List Zz) y9∧OS 3136 g w 87 ([]:List Zz) y9∧FullV y9) 6 rfl rfl (deps_of hd)).2.2,r,o⟩) (fun cF hv=>?_)
   clear hv
   refine L_do (φ:=fun v g w=>∃ y0 y1 y2:Value,v=.tuple #[y0,y1,y2]∧RV g.m w (x5.1:List Int) y0∧RV g.m w (x5.2.1:List Bool) y1∧y2=.int .i64 (x5.2.2)) rfl rfl .plain (fun g w hd=>Zp (g:=g) (vs:=[nK,oK,cF]) en33 (.cons rfl (.cons rfl (.cons rfl .nil))) (wk33 (word (A:=fun g w=>RV g.m w y251 nK) 2 rfl rfl (deps_of hd)) (word (A:=fun g w=>RV g.m w vF oK) 5 rfl rfl (deps_of hd)) (word (A:=fun g w=>RV g.m w y258 cF∧OS 3136 g w 87 y258 cF) 8 rfl rfl (deps_of hd)).1 xS) fun g' w' v hs hr=>⟨g',hs,hr⟩) (fun i01 hv=>?_)
   obtain ⟨_,_,_,jD,n9,_,rfl,mX,nX,rfl⟩:=hv
   refine Gd (.tuple #[jD,n9,.int .i64 (x5.2.2)]) rfl rfl (Zk rfl) ?_
   refine Gd jD rfl rfl (Zi rfl rfl) ?_
   refine Gd n9 rfl rfl (Zi rfl rfl) ?_
   refine Gd (.int .i64 (x5.2.2)) rfl rfl (Zi rfl rfl) ?_
   refine Gd jD rfl rfl (P_assign rfl) ?_
   refine Gd n9 rfl rfl (P_assign rfl) ?_
   refine Gd (.int .i64 (x5.2.2)) rfl rfl (P_assign rfl) ?_
   refine L_nil fun jR j01 hall=>?_
   have hs:=hall.1
   have hfr:=hfr.ext hs
   have t5:=t5.ext hs
   have rA:=rA.ext hs
   have x6:=x6.ext hs
   have y6:=y6.ext hs
   have i7:=i7.ext hs
   have uC:=uC.ext hs
   have k01:=(word_all (A:=fun g w=>RV g.m w y251 nK) 2 rfl hall)
   have l01:=(word_all (A:=fun g w=>RV g.m w vF oK) 5 rfl hall)
   have m01:=(word_all (A:=fun g w=>RV g.m w ([]:List Zz) y9∧OS 3136 g w 87 ([]:List Zz) y9∧FullV y9) 6 rfl hall).1
   have o276:=(word_all (A:=fun g w=>RV g.m w ([]:List Zz) y9∧OS 3136 g w 87 ([]:List Zz) y9∧FullV y9) 6 rfl hall).2.1
   have n01:=(word_all (A:=fun g w=>RV g.m w y258 cF∧OS 3136 g w 87 y258 cF) 8 rfl hall).1
   have o278:=(word_all (A:=fun g w=>RV g.m w y258 cF∧OS 3136 g w 87 y258 cF) 8 rfl hall).2
   have o01:=(tup3_0 (word_all (A:=fun g w=>∃ y0 y1 y2:Value,Value.tuple #[jD,n9,.int .i64 (x5.2.2)]=.tuple #[y0,y1,y2]∧RV g.m w (x5.1:List Int) y0∧RV g.m w (x5.2.1:List Bool) y1∧y2=.int .i64 (x5.2.2)) 9 rfl hall))
   have p01:=(tup3_1 (word_all (A:=fun g w=>∃ y0 y1 y2:Value,Value.tuple #[jD,n9,.int .i64 (x5.2.2)]=.tuple #[y0,y1,y2]∧RV g.m w (x5.1:List Int) y0∧RV g.m w (x5.2.1:List Bool) y1∧y2=.int .i64 (x5.2.2)) 9 rfl hall))
   have q01:=(tup3_0 (word_all (A:=fun g w=>∃ y0 y1 y2:Value,Value.tuple #[jD,n9,.int .i64 (x5.2.2)]=.tuple #[y0,y1,y2]∧RV g.m w (x5.1:List Int) y0∧RV g.m w (x5.2.1:List Bool) y1∧y2=.int .i64 (x5.2.2)) 9 rfl hall))
   have lD:=(tup3_1 (word_all (A:=fun g w=>∃ y0 y1 y2:Value,Value.tuple #[jD,n9,.int .i64 (x5.2.2)]=.tuple #[y0,y1,y2]∧RV g.m w (x5.1:List Int) y0∧RV g.m w (x5.2.1:List Bool) y1∧y2=.int .i64 (x5.2.2)) 9 rfl hall))
   clear hs hall
   refine Zb (Zd (Zf (Za (Ze .plain rfl (D_loadO (g:=jR) Try.isAgg32 Try.sizeOf32 l9 t5 fun aW bW=>?_)))))
   obtain ⟨sO,yS,h⟩:=Ge h
   refine Ze .plain rfl (Zp (g:=jR) (vs:=[aW]) en15 (.cons rfl .nil) (wk15 bW yS) fun cW oZ dW hs hr=>?_)
   have hfr:=hfr.ext hs
   have t5:=t5.ext hs
   have rA:=rA.ext hs
   have x6:=x6.ext hs
   have y6:=y6.ext hs
   have i7:=i7.ext hs
   have uC:=uC.ext hs
   have lD:=lD.ext hs
   have eW:=hr
   refine Zo aI rfl ?_
   obtain ⟨l8,zS,h⟩:=Ge h
   refine Ze .plain rfl (Zp (g:=cW) (vs:=[dW,zH]) en34 (.cons rfl (.cons rfl .nil)) (wk34 eW uC zS) fun lR pZ r01 hs hr=>?_)
   have hfr:=hfr.ext hs
   have t5:=t5.ext hs
   have rA:=rA.ext hs
   have x6:=x6.ext hs
   have y6:=y6.ext hs
   have i7:=i7.ext hs
   have lD:=lD.ext hs
   obtain ⟨m8,nY,oY,rfl,r8,rfl,rfl⟩:=hr
   refine Zn (.tuple #[m8,.bool (l8.2.1),.int .i64 (l8.2.2)]) rfl rfl ?_
   refine Ga m8 (Zi rfl rfl) rfl ?_
   refine Ga (.bool (l8.2.1)) (Zi rfl rfl) rfl ?_
   refine Ga (.int .i64 (l8.2.2)) (Zi rfl rfl) rfl ?_
   refine Zg m8 rfl rfl ?_
   refine Zg (.bool (l8.2.1)) rfl rfl ?_
   refine Zg (.int .i64 (l8.2.2)) rfl rfl ?_
   refine Zb (Zd (Zf (Za (Ga (fPtr p5 0) (Zc at_32_0 l9 (OB.ptr t5)) rfl ?_))))
   refine Ze .plain rfl (D_loadF (g:=lR) part_FaultLoom_0.1 Try.isAgg28 Try.sizeOf28 rfl t5 fun gW iW=>?_)
   obtain ⟨tO,eT,h⟩:=Ge h
   refine Ze .plain rfl (Zp (g:=lR) (vs:=[gW]) en30 (.cons rfl .nil) (wk30 iW eT) fun jW qZ kW hs hr=>?_)
   have hfr:=hfr.ext hs
   have t5:=t5.ext hs
   have rA:=rA.ext hs
   have x6:=x6.ext hs
   have y6:=y6.ext hs
   have i7:=i7.ext hs
   have lD:=lD.ext hs
   have r8:=r8.ext hs
   have lW:=hr
   refine Zo eR rfl ?_
   obtain ⟨v8,lT,h⟩:=Ge h
   refine Ze .plain rfl (Zp (g:=jW) (vs:=[kW,bA]) en35 (.cons rfl (.cons rfl .nil)) (wk35 lW rA lT) fun dF rZ s01 hs hr=>?_)
   have hfr:=hfr.ext hs
   have t5:=t5.ext hs
   have x6:=x6.ext hs
   have y6:=y6.ext hs
   have i7:=i7.ext hs
   have lD:=lD.ext hs
   have r8:=r8.ext hs
   obtain ⟨rE,g8,pY,rfl,dH,u9,rfl⟩:=hr
   refine Zn (.tuple #[rE,g8,.int .i64 (v8.2.2)]) rfl rfl ?_
   refine Ga rE (Zi rfl rfl) rfl ?_
   refine Ga g8 (Zi rfl rfl) rfl ?_
   refine Ga (.int .i64 (v8.2.2)) (Zi rfl rfl) rfl ?_
   refine Zg rE rfl rfl ?_
   refine Zg g8 rfl rfl ?_
   refine Zg (.int .i64 (v8.2.2)) rfl rfl ?_
   refine Zb (Zd (Zq h (fun (s:Unit) e w=>∃ (g:Gh) ,Fr gI wI g w∧e 5=p5∧OB 2005 g w 32 (y4:FaultLoom) p5∧e 10=a9∧OB 2010 g w 56 ((⟨(5:Int),0,0,o0,false⟩:Zv):Zv) a9∧e 13=l5∧RV g.m w ((y63.1:List Str):List Str) l5∧e 15=u3∧RV g.m w (m7.1:List Str) u3∧e 22=m8∧RV g.m w (l8.1:List Zv) m8∧e 26=g8∧RV g.m w (v8.2.1:List Int) g8) (fun X322 xO mT h=>?_) ?_))
   ·obtain ⟨gD, hx, h⟩ := Ge h
    refine E_join (fun e w=>∃ (g:Gh) ,Fr gI wI g w∧e 5=p5∧OB 2005 g w 32 (y4:FaultLoom) p5∧e 10=a9∧OB 2010 g w 56 ((⟨(5:Int),0,0,o0,false⟩:Zv):Zv) a9∧e 13=l5∧RV g.m w ((y63.1:List Str):List Str) l5∧e 15=u3∧RV g.m w (m7.1:List Str) u3∧e 22=m8∧RV g.m w (l8.1:List Zv) m8∧e 26=g8∧RV g.m w (v8.2.1:List Int) g8∧e 189=.bool (gD)) (fun Q' hQ=>?_) (fun sZ t01 hR=>?_)
    ·replace h := hx
     clear hx
     refine Za (Zn (.int .i64 (x5.2.2)) rfl rfl ?_)
     refine EL_in (.bool ((x5.2.2 != (0:Int)))) rfl rfl rfl rfl ?_
     refine Zn (.bool ((x5.2.2 != (0:Int)))) rfl rfl ?_
     rcases Zt h with ⟨zD,h⟩ | ⟨zD,h⟩
     ·refine Gc rfl rfl zD rfl rfl ?_
      refine Gc rfl rfl zD rfl rfl ?_
      refine Ga (.bool true) (Zl (b:=(x5.2.2 != (0:Int))) rfl (pick_t zD rfl)) rfl ?_
      refine EL_dead 24 rfl ?_
      refine Zb ?_
      obtain rfl:=sinj h
      exact hQ _ _ ⟨dF,hfr,l9,t5,mC,x6,qC,y6,rC,i7,rfl,r8,rfl,u9,rfl⟩
     ·refine Gb (.int .i64 (l8.2.2)) (Zk rfl) rfl rfl zD rfl ?_
      refine Gb (.bool ((l8.2.2 != (0:Int)))) (P_int rfl rfl rfl) rfl rfl zD rfl ?_
      refine Ga (.bool ((l8.2.2 != (0:Int)))) (Zl (b:=(x5.2.2 != (0:Int))) rfl (pick_f zD rfl)) rfl ?_
      refine Zn (.bool ((l8.2.2 != (0:Int)))) rfl rfl ?_
      rcases Zt h with ⟨aE,h⟩ | ⟨aE,h⟩
      ·refine Gc rfl rfl aE rfl rfl ?_
       refine Gc rfl rfl aE rfl rfl ?_
       refine Ga (.bool true) (Zl (b:=(l8.2.2 != (0:Int))) rfl (pick_t aE rfl)) rfl ?_
       refine EL_dead 20 rfl ?_
       refine Zb ?_
       obtain rfl:=sinj h
       exact hQ _ _ ⟨dF,hfr,l9,t5,mC,x6,qC,y6,rC,i7,rfl,r8,rfl,u9,rfl⟩
      ·refine Gb (.int .i64 (v8.2.2)) (Zk rfl) rfl rfl aE rfl ?_
       refine Gb (.bool ((v8.2.2 != (0:Int)))) (P_int rfl rfl rfl) rfl rfl aE rfl ?_
       refine Ga (.bool ((v8.2.2 != (0:Int)))) (Zl (b:=(l8.2.2 != (0:Int))) rfl (pick_f aE rfl)) rfl ?_
       refine Zn (.bool ((v8.2.2 != (0:Int)))) rfl rfl ?_
       rcases Zt h with ⟨zB,h⟩ | ⟨zB,h⟩
       ·refine Gc rfl rfl zB rfl rfl ?_
        iterate 3 refine Gc rfl rfl zB rfl rfl ?_
        refine Ga (.bool true) (Zl (b:=(v8.2.2 != (0:Int))) rfl (pick_t zB rfl)) rfl ?_
        refine EL_dead 14 rfl ?_
        refine Zb ?_
        obtain rfl:=sinj h
        exact hQ _ _ ⟨dF,hfr,l9,t5,mC,x6,qC,y6,rC,i7,rfl,r8,rfl,u9,rfl⟩
       ·refine Gb n9 (Zk rfl) rfl rfl zB rfl ?_
        refine Gb (.int .i64 (((x5.2.1:List Bool)).length:Int)) (P_len Try.underlying88 rfl lD) rfl rfl zB rfl ?_
        refine Gb (.int .i64 (((((y4).Harness).Warps).length:Int))) (Zk dR) rfl rfl zB rfl ?_
        refine Gb (.bool (((((x5.2.1:List Bool)).length:Int) != ((((y4).Harness).Warps).length:Int)))) (P_int rfl rfl rfl) rfl rfl zB rfl ?_
        refine Ga (.bool (((((x5.2.1:List Bool)).length:Int) != ((((y4).Harness).Warps).length:Int)))) (Zl (b:=(v8.2.2 != (0:Int))) rfl (pick_f zB rfl)) rfl ?_
        refine Ga (.bool (((((x5.2.1:List Bool)).length:Int) != ((((y4).Harness).Warps).length:Int)))) (Zk rfl) rfl ?_
        rcases Zt h with ⟨lB,h⟩ | ⟨lB,h⟩
        ·refine Gc rfl rfl lB rfl rfl ?_
         iterate 4 refine Gc rfl rfl lB rfl rfl ?_
         refine Ga (.bool true) (Zl (b:=((((x5.2.1:List Bool)).length:Int) != ((((y4).Harness).Warps).length:Int))) rfl (pick_t lB rfl)) rfl ?_
         refine EL_dead 7 rfl ?_
         refine Zb ?_
         obtain rfl:=sinj h
         exact hQ _ _ ⟨dF,hfr,l9,t5,mC,x6,qC,y6,rC,i7,rfl,r8,rfl,u9,rfl⟩
        ·refine Gb n9 (Zk rfl) rfl rfl lB rfl ?_
         refine Gb (.int .i64 (o0)) (Zk zJ) rfl rfl lB rfl ?_
         obtain ⟨yE,uK,h⟩:=Ge h
         refine Gb (ePtr n9 o0 1) (Zh (α:=Bool) Try.underlying88 Try.sizeOf4 rfl lD rfl uK) rfl rfl lB rfl ?_
         have mW:=PT_idx lD uK
         refine Ze (.yes2 rfl rfl lB) rfl (D_load (g:=dF) Try.isAgg4 Try.sizeOf4 rfl mW fun u01 nW=>?_)
         obtain rfl:=RV_bool.1 nW
         refine Gb (.bool (!yE)) (P_not rfl) rfl rfl lB rfl ?_
         refine Ga (.bool (!yE)) (Zl (b:=((((x5.2.1:List Bool)).length:Int) != ((((y4).Harness).Warps).length:Int))) rfl (pick_f lB rfl)) rfl ?_
         refine Zn (.bool (!yE)) rfl rfl ?_
         rcases Zt h with ⟨mB,h⟩ | ⟨mB,h⟩
         ·refine Gc rfl rfl mB rfl rfl ?_
          iterate 4 refine Gc rfl rfl mB rfl rfl ?_
          refine Ga (.bool true) (Zl (b:=(!yE)) rfl (pick_t mB rfl)) rfl ?_
          refine Zb ?_
          obtain rfl:=sinj h
          exact hQ _ _ ⟨dF,hfr,l9,t5,mC,x6,qC,y6,rC,i7,rfl,r8,rfl,u9,rfl⟩
         ·refine Gb rE (Zk rfl) rfl rfl mB rfl ?_
          refine Gb (.int .i64 (o0)) (Zk zJ) rfl rfl mB rfl ?_
          refine Ze (.yes2 rfl rfl mB) rfl (D_buildSlice (g:=dF) 3186 (xs:=([o0]:List Int)) (vs:=[.int .i64 (o0)]) Try.underlying26 Try.sizeOf3 Try.zeroValue3 rfl rfl (.cons rfl .nil) (RVs.cons (Zj.2 rfl) RVs.nil) rfl rfl fun oW v01 pW hs o342 qW hxt hfl=>?_)
          have hfr:=hfr.stp hs
          have t5:=t5.stp hs rfl
          have x6:=x6.stp hs rfl
          have y6:=y6.stp hs
          have i7:=i7.stp hs
          have r8:=r8.stp hs
          have dH:=dH.stp hs
          have u9:=u9.stp hs
          obtain ⟨eJ,nT,h⟩:=Ge h
          refine Ze (.yes2 rfl rfl mB) rfl (Zp (g:=oW) (vs:=[rE,pW]) en13 (.cons rfl (.cons rfl .nil)) (wk13 dH qW nT) fun sW tZ x01 hs hr=>?_)
          have hfr:=hfr.ext hs
          have t5:=t5.ext hs
          have x6:=x6.ext hs
          have y6:=y6.ext hs
          have i7:=i7.ext hs
          have r8:=r8.ext hs
          have u9:=u9.ext hs
          subst hr
          refine Gb (.bool (!eJ)) (P_not rfl) rfl rfl mB rfl ?_
          refine Ga (.bool (!eJ)) (Zl (b:=(!yE)) rfl (pick_f mB rfl)) rfl ?_
          refine Zb ?_
          obtain rfl:=sinj h
          exact hQ _ _ ⟨sW,hfr,l9,t5,mC,x6,qC,y6,rC,i7,rfl,r8,rfl,u9,rfl⟩
    ·clear hx
     obtain ⟨tW,hfr,mR,nR,vM,xM,bN,cN,dN,eN,gN,iN,jN,kN,gH⟩:=hR
     rcases Zt h with ⟨mJ,h⟩ | ⟨mJ,h⟩
     ·refine E_cond_true (Eq.trans (show ev _ _ = .bool (gD) from gH) (congrArg Value.bool mJ)) ?_
      refine Zf (Za (Zg (.bool false) rfl rfl ?_))
      refine Zb (Zd (E_ret (thn_r ?_)))
      obtain rfl:=sinj h
      exact end1 rfl rfl (show _=.bool false from rfl) ⟨_,hfr,rfl⟩
     ·refine E_cond_false (Eq.trans (show ev _ _ = .bool (gD) from gH) (congrArg Value.bool mJ)) ?_
      exact Zu (Zd (mT () _ _ ⟨tW,hfr,mR,nR,vM,xM,bN,cN,dN,eN,gN,iN,jN,kN⟩ h))
   ·rintro _ uZ y01 ⟨uW, hfr, oR, pR, lN, mN, nN, oN, pN, qN, rN, sN, tN, uN⟩ h
    refine Zf (Za (Zg (.bool false) rfl rfl ?_))
    refine Zb (Zd ?_)
    obtain ⟨k9,hx,h⟩:=Ge h
    refine E_join (fun e w=>∃ (g:Gh) ,Fr gI wI g w∧e 5=p5∧OB 2005 g w 32 (y4:FaultLoom) p5∧e 13=l5∧RV g.m w ((y63.1:List Str):List Str) l5∧e 15=u3∧RV g.m w (m7.1:List Str) u3∧e 26=g8∧RV g.m w (v8.2.1:List Int) g8∧e 28=.bool (k9)) (fun Q' hQ=>?_) (fun vZ z01 hR=>?_)
    ·replace h := hx
     clear hx
     refine Zf (Za (Zg (.int .i64 (0)) rfl rfl ?_))
     refine Zb (Zd (Zr ?_))
     refine E_lp h (fun (s:Bool × Int) e w=>∃ (g:Gh) ,Fr gI wI g w∧e 5=p5∧OB 2005 g w 32 (y4:FaultLoom) p5∧e 10=a9∧OB 2010 g w 56 ((⟨(5:Int),0,0,o0,false⟩:Zv):Zv) a9∧e 13=l5∧RV g.m w ((y63.1:List Str):List Str) l5∧e 15=u3∧RV g.m w (m7.1:List Str) u3∧e 22=m8∧RV g.m w (l8.1:List Zv) m8∧e 26=g8∧RV g.m w (v8.2.1:List Int) g8∧e 28=.bool (s.1)∧e 29=.int .i64 (s.2)) ⟨uW,hfr,oR,pR,lN,mN,nN,oN,pN,qN,rN,sN,tN,uN,rfl,rfl⟩ (fun X437 uO oT=>?_)
     rintro ⟨x8,n8⟩ xZ a02 ⟨qR,hfr,aK,bK,vN,xN,bI,dI,iI,jI,kI,lI,mI,nI,pI,qI⟩ h
     refine Zq h (fun (s:Unit) e w=>∃ (g:Gh) ,Fr gI wI g w∧e 5=p5∧OB 2005 g w 32 (y4:FaultLoom) p5∧e 10=a9∧OB 2010 g w 56 ((⟨(5:Int),0,0,o0,false⟩:Zv):Zv) a9∧e 13=l5∧RV g.m w ((y63.1:List Str):List Str) l5∧e 15=u3∧RV g.m w (m7.1:List Str) u3∧e 22=m8∧RV g.m w (l8.1:List Zv) m8∧e 26=g8∧RV g.m w (v8.2.1:List Int) g8∧e 28=.bool (x8)∧e 29=.int .i64 (n8)) (fun X440 vO pT h=>?_) ?_
     ·refine Zf (Za (Zo qI rfl ?_))
      refine Zo kI rfl ?_
      refine Ga (.int .i64 ((l8.1).length:Int)) (P_len Try.underlying57 rfl lI) rfl ?_
      refine EL_in (.bool ((decide (n8 < ((l8.1).length:Int))))) rfl rfl rfl rfl ?_
      refine Zb (Zd ?_)
      rcases Zt h with ⟨nJ,h⟩ | ⟨nJ,h⟩
      ·refine E_ct nJ rfl ?_
       exact Zu (Zd (pT () _ _ ⟨qR,hfr,aK,bK,vN,xN,bI,dI,iI,jI,kI,lI,mI,nI,pI,qI⟩ h))
      ·refine E_cf nJ rfl ?_
       refine E_exit ?_
       refine thn_e ?_
       refine thn_e ?_
       refine blk_hit ?_
       obtain rfl:=sinj h
       exact hQ _ _ ⟨qR,hfr,aK,bK,bI,dI,iI,jI,mI,nI,pI⟩
     ·rintro _ yZ b02 ⟨rR, hfr, cK, tD, kG, iB, sI, vC, tI, aD, lG, iA, uI, bD, vI, mG⟩ h
      obtain ⟨vE,hx,h⟩:=Ge h
      refine E_join (fun e w=>∃ (g:Gh) ,Fr gI wI g w∧e 5=p5∧OB 2005 g w 32 (y4:FaultLoom) p5∧e 10=a9∧OB 2010 g w 56 ((⟨(5:Int),0,0,o0,false⟩:Zv):Zv) a9∧e 13=l5∧RV g.m w ((y63.1:List Str):List Str) l5∧e 15=u3∧RV g.m w (m7.1:List Str) u3∧e 22=m8∧RV g.m w (l8.1:List Zv) m8∧e 26=g8∧RV g.m w (v8.2.1:List Int) g8∧e 28=.bool (vE)∧e 29=.int .i64 (n8)) (fun Q' hQ=>?_) (fun zZ c02 hR=>?_)
      ·replace h := hx
       clear hx
       refine Zr ?_
       rcases Zt h with ⟨nB,h⟩ | ⟨nB,h⟩
       ·refine E_drawL (g := rR) (n := 10) [] [0, 1, 2, 3, 4, 5, 6, 7, 8, 9] rfl mixed (by kernel_rfl) trivial ?_
        refine Gd (.bool (x8)) rfl rfl (Zk vI) ?_
        refine Gd (.bool (x8)) rfl rfl (Zk rfl) ?_
        iterate 6 refine L_s rfl rfl rfl nB rfl ?_
        refine Gd (.bool true) rfl rfl (Zl (b:=x8) rfl (pick_t nB rfl)) ?_
        refine Gd (.bool true) rfl rfl (P_assign rfl) ?_
        refine L_nl fun vW d02 hs=>?_
        have hfr:=hfr.ext hs
        have tD:=tD.ext hs
        have iB:=iB.ext hs
        have vC:=vC.ext hs
        have aD:=aD.ext hs
        have iA:=iA.ext hs
        have bD:=bD.ext hs
        clear hs
        refine Zb (blk_n ?_)
        obtain rfl:=sinj h
        exact hQ _ _ ⟨vW,hfr,cK,tD,kG,iB,sI,vC,tI,aD,lG,iA,uI,bD,rfl,mG⟩
       ·obtain ⟨sG, vK, h⟩ := Ge h
        have xW:=PT_idx iA vK
        refine Zs (x:=.tmp 200) Try.isAgg56 Try.sizeOf56 xW fun yW zW sT=>?_
        refine L_loadO0 (x:=.tmp 10) Try.isAgg56 Try.sizeOf56 iB fun aX bX tT=>?_
        refine E_drawL (g:=rR) (n:=10) [] [0,1,2,3,4,5,6,7,8,9] rfl mixed (by kernel_rfl) trivial ?_
        refine Gd (.bool (x8)) rfl rfl (Zk vI) ?_
        refine Gd (.bool (x8)) rfl rfl (Zk rfl) ?_
        refine L_y m8 rfl rfl rfl rfl nB (Zk lG) ?_
        refine L_y (.int .i64 (n8)) rfl rfl rfl rfl nB (Zk mG) ?_
        refine L_y (ePtr m8 n8 5) rfl rfl rfl rfl nB (Zh (α:=Zv) Try.underlying57 Try.sizeOf56 rfl iA rfl vK) ?_
        refine L_ld (c:=yW) rfl rfl (.yes2 rfl rfl nB) (fun _ _ h=>h.ch) sT rfl ?_
        refine L_ld (c:=aX) rfl rfl (.yes2 rfl rfl nB) (fun _ _ h=>⟨h.ch,fun b hb _=>h.below.block b hb⟩) tT kG ?_
        refine L_y (.bool ((decide (sG=(⟨(5:Int),0,0,o0,false⟩:Zv))))) rfl rfl rfl rfl nB (P_seq seq_56 rfl eg_56 rfl rfl zW bX) ?_
        refine Gd (.bool ((decide (sG=(⟨(5:Int),0,0,o0,false⟩:Zv))))) rfl rfl (Zl (b:=x8) rfl (pick_f nB rfl)) ?_
        refine Gd (.bool ((decide (sG=(⟨(5:Int),0,0,o0,false⟩:Zv))))) rfl rfl (P_assign rfl) ?_
        refine L_nl fun cX e02 hs=>?_
        have hfr:=hfr.ext hs
        have tD:=tD.ext hs
        have iB:=iB.ext hs
        have vC:=vC.ext hs
        have aD:=aD.ext hs
        have iA:=iA.ext hs
        have bD:=bD.ext hs
        clear hs
        refine Zb (blk_n ?_)
        obtain rfl:=sinj h
        exact hQ _ _ ⟨cX,hfr,cK,tD,kG,iB,sI,vC,tI,aD,lG,iA,uI,bD,rfl,mG⟩
      ·clear hx
       obtain ⟨dX,hfr,tR,uR,yN,zN,aO,bO,cO,dO,eO,gO,jO,kO,lO,mO⟩:=hR
       refine Za (Zo mO rfl ?_)
       refine EL_in (.int .i64 ((w64 (n8 + (1:Int))))) rfl rfl rfl rfl ?_
       refine Zg (.int .i64 ((w64 (n8 + (1:Int))))) rfl rfl ?_
       exact Zb (Zd (oT (vE,(w64 (n8 + (1:Int)))) _ _ ⟨dX,hfr,tR,uR,yN,zN,aO,bO,cO,dO,eO,gO,jO,kO,lO,rfl⟩ h))
    ·clear hx
     obtain ⟨pK,hfr,dK,rF,nO,uD,yI,cD,oO,pO,qO⟩:=hR
     refine Zf (Za (Ga (fPtr p5 0) (Zc at_32_0 dK (OB.ptr rF)) rfl ?_))
     refine Ze .plain rfl (D_loadF (g:=pK) part_FaultLoom_0.1 Try.isAgg28 Try.sizeOf28 rfl rF fun eX gX=>?_)
     refine Zo oO rfl ?_
     refine Ga (fPtr p5 2) (Zc at_32_1 dK (OB.ptr rF)) rfl ?_
     refine Ze .plain rfl (D_loadF (g:=pK) part_FaultLoom_1.1 Try.isAgg30 Try.sizeOf30 rfl rF fun iX jX=>?_)
     obtain ⟨eD,uT,h⟩:=Ge h
     refine Ze .plain rfl (Zp (g:=pK) (vs:=[eX,g8,iX]) en29 (.cons rfl (.cons rfl (.cons rfl .nil))) (wk29 gX pO jX uT) fun vR a00 g02 hs hr=>?_)
     have hfr:=hfr.ext hs
     have uD:=uD.ext hs
     have cD:=cD.ext hs
     obtain ⟨uE,qY,rfl,xR,rfl⟩:=hr
     refine Zn (.tuple #[uE,.int .i64 (eD.2)]) rfl rfl ?_
     refine Ga uE (Zi rfl rfl) rfl ?_
     refine Ga (.int .i64 (eD.2)) (Zi rfl rfl) rfl ?_
     refine Zg uE rfl rfl ?_
     refine Zg (.int .i64 (eD.2)) rfl rfl ?_
     refine Zb (Zd ?_)
     obtain ⟨eF,hx,h⟩:=Ge h
     refine E_join (fun e w=>∃ (g:Gh) ,Fr gI wI g w∧e 4=.bool (eF)) (fun Q' hQ=>?_) (fun b00 h02 hR=>?_)
     ·replace h := hx
      clear hx
      refine Za (Zn (.int .i64 (eD.2)) rfl rfl ?_)
      refine EL_in (.bool ((eD.2 == (0:Int)))) rfl rfl rfl rfl ?_
      refine Zn (.bool ((eD.2 == (0:Int)))) rfl rfl ?_
      rcases Zt h with ⟨cC,h⟩ | ⟨cC,h⟩
      ·refine Gb uE (Zk rfl) rfl rfl cC rfl ?_
       refine Gb u3 (Zk yI) rfl rfl cC rfl ?_
       obtain ⟨xF,xT,h⟩:=Ge h
       refine Ze (.yes2 rfl rfl cC) rfl (Zp (g:=vR) (vs:=[uE,u3]) en32 (.cons rfl (.cons rfl .nil)) (wk32 xR cD xT) fun yR c00 i02 hs hr=>?_)
       have hfr:=hfr.ext hs
       have uD:=uD.ext hs
       have cD:=cD.ext hs
       subst hr
       refine Ga (.bool (xF)) (Zl (b:=(eD.2 == (0:Int))) rfl (pick_t cC rfl)) rfl ?_
       refine Zn (.bool (xF)) rfl rfl ?_
       rcases Zt h with ⟨yA,h⟩ | ⟨yA,h⟩
       ·refine Gb (.bool (k9)) (Zk qO) rfl rfl yA rfl ?_
        refine Gb l5 (Zk nO) rfl rfl yA rfl ?_
        refine Gb u3 (Zk yI) rfl rfl yA rfl ?_
        obtain ⟨iE,yT,h⟩:=Ge h
        refine Ze (.yes2 rfl rfl yA) rfl (Zp (g:=yR) (vs:=[l5,u3]) en32 (.cons rfl (.cons rfl .nil)) (wk32 uD cD yT) fun zR d00 j02 hs hr=>?_)
        have hfr:=hfr.ext hs
        subst hr
        refine Gb (.bool (!iE)) (P_not rfl) rfl rfl yA rfl ?_
        refine Gb (.bool ((k9 == (!iE)))) (P_bool Try.underlying4 rfl rfl rfl) rfl rfl yA rfl ?_
        refine Ga (.bool ((k9 == (!iE)))) (Zl (b:=xF) rfl (pick_t yA rfl)) rfl ?_
        refine Zn (.bool ((k9 == (!iE)))) rfl rfl ?_
        rcases Zt h with ⟨sF,h⟩ | ⟨sF,h⟩
        ·obtain ⟨yF, zT, h⟩ := Ge h
         refine Ze (.yes2 rfl rfl sF) rfl (Zp (g:=zR) (vs:=[]) en17 .nil (wk17  zT) fun aS g00 k02 hs hr=>?_)
         have hfr:=hfr.ext hs
         subst hr
         refine Ga (.bool (yF)) (Zl (b:=(k9 == (!iE))) rfl (pick_t sF rfl)) rfl ?_
         refine Zn (.bool (yF)) rfl rfl ?_
         rcases Zt h with ⟨tF,h⟩ | ⟨tF,h⟩
         ·obtain ⟨zI, aU, h⟩ := Ge h
          refine Ze (.yes2 rfl rfl tF) rfl (Zp (g:=aS) (vs:=[]) en36 .nil (wk36  aU) fun kX h00 l02 hs hr=>?_)
          have hfr:=hfr.ext hs
          subst hr
          refine Ga (.bool (zI)) (Zl (b:=yF) rfl (pick_t tF rfl)) rfl ?_
          refine Zg (.bool (zI)) rfl rfl ?_
          refine Zb ?_
          obtain rfl:=sinj h
          exact hQ _ _ ⟨kX,hfr,rfl⟩
         ·refine Gc rfl rfl tF rfl rfl ?_
          refine Ga (.bool false) (Zl (b:=yF) rfl (pick_f tF rfl)) rfl ?_
          refine Zg (.bool false) rfl rfl ?_
          refine Zb ?_
          obtain rfl:=sinj h
          exact hQ _ _ ⟨aS,hfr,rfl⟩
        ·refine Gc rfl rfl sF rfl rfl ?_
         refine Ga (.bool false) (Zl (b:=(k9 == (!iE))) rfl (pick_f sF rfl)) rfl ?_
         refine EL_dead 3 rfl ?_
         refine Zg (.bool false) rfl rfl ?_
         refine Zb ?_
         obtain rfl:=sinj h
         exact hQ _ _ ⟨zR,hfr,rfl⟩
       ·refine Gc rfl rfl yA rfl rfl ?_
        iterate 5 refine Gc rfl rfl yA rfl rfl ?_
        refine Ga (.bool false) (Zl (b:=xF) rfl (pick_f yA rfl)) rfl ?_
        refine EL_dead 6 rfl ?_
        refine Zg (.bool false) rfl rfl ?_
        refine Zb ?_
        obtain rfl:=sinj h
        exact hQ _ _ ⟨yR,hfr,rfl⟩
      ·refine Gc rfl rfl cC rfl rfl ?_
       refine Gc rfl rfl cC rfl rfl ?_
       refine Gc rfl rfl cC rfl rfl ?_
       refine Ga (.bool false) (Zl (b:=(eD.2 == (0:Int))) rfl (pick_f cC rfl)) rfl ?_
       refine EL_dead 14 rfl ?_
       refine Zg (.bool false) rfl rfl ?_
       refine Zb ?_
       obtain rfl:=sinj h
       exact hQ _ _ ⟨vR,hfr,rfl⟩
     ·clear hx
      obtain ⟨m02,hfr,bS⟩:=hR
      refine E_ret ?_
      obtain rfl:=sinj h
      exact end1 rfl rfl (show _=.bool (eF) from bS) ⟨_,hfr,rfl⟩
end Go.Proofs.Ytjoniingnbmljaa
