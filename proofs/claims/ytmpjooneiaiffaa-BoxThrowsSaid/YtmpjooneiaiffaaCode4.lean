import Derived.Test.YtmpjooneiaiffaaCode3
set_option maxRecDepth 8000
set_option maxHeartbeats 4000000
namespace Go.Proofs.Ytmpjooneiaiffaa
open Go.RowKit
def f22 : Nat → (BoxLoom) → (List Int) → Option ((List BoxPick) × Int × Int)
 | 0,_,_=>none
 | n + 1,x0,x1=>
  jn (σ:=Unit) (fun _=>
   (f60 x0).bind fun y11=>
   Option.bind (α:=(List BoxPick) × Int × Int) (
    lp (σ:=(List BoxPick) × Int × Int × Bool × Int) (fun nE (j7,t5,x6,i5,u3)=>
     jn (σ:=Unit) (fun _=>
      Option.bind (α:=(List BoxPick) × Int × Int × Bool) (
       (idx y11 u3).bind fun oE=>
       (f61 x0 oE).bind fun o0=>
       jn (σ:=Unit) (fun _=>
        (cut x1 (1:Int) ((x1).length:Int)).bind fun rE=>
        (f22 n ((o0.1:BoxLoom)) rE).bind fun i3=>
        Option.bind (α:=Bool) (
         bif (i3.2.2 == (w64 (((x1).length : Int) - (1 : Int)))) then
          bif (!i5) then
           some (true)
          else
           some ((decide ((w64 (o0.2.2.1 + i3.2.1)) < t5)))
         else
          some (false)
         ) fun n8=>
        bif n8 then
         (idx y11 u3).bind fun jD=>
         (apnd 16 (([jD]:List BoxPick)) ((i3.1:List BoxPick))).bind fun sE=>
         some (sE,(w64 (o0.2.2.1 + i3.2.1)),(max64 x6 (w64 ((1:Int) + i3.2.2))),true)
        else
         some (j7,t5,(max64 x6 (w64 ((1:Int) + i3.2.2))),i5)
        ) fun tE=>
       Option.bind (α:=Bool) (
        bif (!o0.2.2.2) then
         some (true)
        else
         (idx ((x0).Shuttles) o0.2.1).bind fun uA=>
         (idx x1 (0:Int)).bind fun xA=>
         some (((uA).Colour != xA))
        ) fun q8=>
       bif q8 then
        some (j7,t5,x6,i5)
       else
        tE ()
       ) fun (u9,y9,z9,k9)=>
      nE (u9,y9,z9,k9,(w64 (u3 + (1:Int))))
      ) fun uE=>
     bif (decide (u3 < ((y11).length : Int))) then
      uE ()
     else
      some (j7,t5,x6)
     ) big (([]:List BoxPick),(0:Int),(0:Int),false,(0:Int))
    ) fun (zA,x8,y8)=>
   some (zA,x8,y8)
   ) fun k4=>
  bif (((x1).length : Int) == (0 : Int)) then
   some (([]:List BoxPick),(0:Int),(0:Int))
  else
   k4 ()
def f32 (x0:BoxLoom) (x1:List BoxPick):Option (Grifferef04Run × Bool):=
 (f50 x0).bind fun y5=>
 jn (σ:=Grifferef04Run × Grifferef04Run) (fun (qA,y8)=>
  some (y8,true)
  ) fun rA=>
 lp (σ:=Grifferef04Run × Grifferef04Run × Int) (fun uA (i5,i3,u3)=>
  jn (σ:=Unit) (fun _=>
   jn (σ:=Grifferef04Run × Grifferef04Run) (fun (l8,m8)=>
    uA (l8,m8,(w64 (u3 + (1:Int))))
    ) fun xA=>
   (idx x1 u3).bind fun yA=>
   (f61 ((i3).After) yA).bind fun o0=>
   jn (σ:=Grifferef04Run) (fun n8=>
    (apnd 8 ((i3).Thrown) (([o0.2.1]:List Int))).bind fun l5=>
    xA (n8,(⟨l5,(o0.1:BoxLoom),(w64 ((i3).Moves + o0.2.2.1))⟩:Grifferef04Run))
    ) fun zA=>
   bif (!o0.2.2.2) then
    some (i3,false)
   else
    zA (i5)
   ) fun aB=>
  bif (decide (u3 < ((x1).length : Int))) then
   aB ()
  else
   rA (i5,i3)
  ) big ((⟨[],⟨[],[],[]⟩,0⟩:Grifferef04Run),(⟨[],y5,0⟩:Grifferef04Run),(0:Int))
theorem en32:Enters Try.prog 32:=enters_of Try.func32 (by kernel_rfl) rfl
theorem wk32 {gI:Gh} {wI:World} {x0:BoxLoom} {x1:List BoxPick} {up0:Value} (rp0:RV gI.m wI x0 up0) {up1:Value} (rp1:RV gI.m wI x1 up1) {r:Grifferef04Run × Bool} (h:f32 x0 x1=some r):Fn Try.prog 32 #[up0,up1] gI wI (fun m w v=>∃ y0 y1,v=.tuple #[y0,y1]∧RV m w (r.1) y0∧y1=.bool (r.2)):=by
 unfold f32 at h
 refine fn_of_E Try.func32 rfl (Nat.le_of_ble_eq_true rfl) fun g0 hm hfr=>?_
 have rp0:RV g0.m wI x0 up0:=hm ▸ rp0
 have rp1:RV g0.m wI x1 up1:=hm ▸ rp1
 show E _ 48 none _ _ _ _ _
 refine Zf (Za (Ze .plain rfl (D_box (g:=g0) rfl rp0 fun g1 w1 p1 hs q1=>?_)))
 have hfr:=hfr.ext hs
 have rp1:=rp1.ext hs
 refine Ze .plain rfl (D_allocOc (g:=g1) 2004 (⟨[],⟨[],[],[]⟩,0⟩:Grifferef04Run) Try.zeroValue58 (fun m w=>⟨_,(rep_two rep_nil (rep_two (rep_two rep_nil (rep_two rep_nil rep_nil)) rep_int)),rfl⟩) fun g2 w2 p2 hs b2 cb=>?_)
 have hfr:=hfr.stp hs
 have rp1:=rp1.stp hs
 have q1:=q1.stp hs
 have d7:OSF 2004 60400 0 g2 w2 3 58 ([]:List Int) p2:=cb.osf (by rfl)
 have i7:OSF 2004 60401 1 g2 w2 3 58 ([]:List Int) p2:=cb.osf (by rfl)
 have j7:OSF 2004 60402 2 g2 w2 3 58 ([]:List Int) p2:=cb.osf (by rfl)
 have m7:OSF 2004 60403 3 g2 w2 87 58 ([]:List BoxShuttle) p2:=cb.osf (by rfl)
 clear cb
 refine Zg (.bool false) rfl rfl ?_
 refine Zb (Zd (Zf (Za (Ze .plain rfl (D_load (g:=g2) Try.isAgg25 Try.sizeOf25 rfl q1 fun v3 r3=>?_)))))
 obtain ⟨y5,hy5,h⟩:=bsome h
 refine Ze .plain rfl (Zp (g:=g2) (vs:=[v3]) en50 (.cons rfl .nil) (wk50 r3 hy5) fun g4 w4_ v4 hs hr=>?_)
 have hfr:=hfr.ext hs
 have rp1:=rp1.ext hs
 have d7:=d7.ext hs
 have i7:=i7.ext hs
 have j7:=j7.ext hs
 have m7:=m7.ext hs
 have b2:=b2.ext hs
 have r4:=hr
 have r6:RV g4.m _ (⟨[],y5,0⟩:Grifferef04Run) (.agg (setCh [[.slice none 0 0],[.slice none 0 0,.slice none 0 0,.slice none 0 0],[.int .i64 0]] [(1,v4)]).flatten.toArray):=RV_build rfl (rep_pair (rep_nil) (rep_pair (RV.cells r4) (rep_last (rep_int))))
 generalize sD:(Value.agg (setCh [[.slice none 0 0],[.slice none 0 0,.slice none 0 0,.slice none 0 0],[.int .i64 0]] [(1,v4)]).flatten.toArray)=v6 at r6
 refine EL_p v6 (sD ▸ P_build (vs:=[(1,v4)]) [[.slice none 0 0],[.slice none 0 0,.slice none 0 0,.slice none 0 0],[.int .i64 0]] lay_58 rfl rfl (.cons rfl .nil) ⟨⟨_,rfl,cells_size r4⟩,trivial⟩) rfl ?_
 refine Ze .plain rfl (D_allocOc (g:=g4) 2006 (⟨[],⟨[],[],[]⟩,0⟩:Grifferef04Run) Try.zeroValue58 (fun m w=>⟨_,(rep_two rep_nil (rep_two (rep_two rep_nil (rep_two rep_nil rep_nil)) rep_int)),rfl⟩) fun g7 w7 p7 hs b7 cb=>?_)
 have hfr:=hfr.stp hs
 have rp1:=rp1.stp hs
 have d7:=d7.stp hs rfl
 have i7:=i7.stp hs rfl
 have j7:=j7.stp hs rfl
 have m7:=m7.stp hs rfl
 have b2:=b2.stp hs rfl
 have r6:=r6.stp hs
 have yE:OSF 2006 60600 0 g7 w7 3 58 ([]:List Int) p7:=cb.osf (by rfl)
 have zE:OSF 2006 60601 1 g7 w7 3 58 ([]:List Int) p7:=cb.osf (by rfl)
 have cF:OSF 2006 60602 2 g7 w7 3 58 ([]:List Int) p7:=cb.osf (by rfl)
 have dF:OSF 2006 60603 3 g7 w7 87 58 ([]:List BoxShuttle) p7:=cb.osf (by rfl)
 clear cb
 refine Ze .plain rfl (D_storeOc (g:=g7) (v:=v6) Try.sizeOf58 rfl b7 rfl r6 fun g8 w8 hs b8 cb=>?_)
 have tD:OSF 2006 60600 0 g8 w8 3 58 ([]:List Int) p7:=cb.osf (by rw [← sD]; rfl)
 clear cb
 have hfr:=hfr.stp hs
 have rp1:=rp1.stp hs
 have d7:=d7.stp hs rfl
 have i7:=i7.stp hs rfl
 have j7:=j7.stp hs rfl
 have m7:=m7.stp hs rfl
 have b2:=b2.stp hs rfl
 refine Zb (Zd (Zq h (fun (s:Grifferef04Run × Grifferef04Run) e w=>∃ (g:Gh) ,Fr gI wI g w∧e 4=p2∧OB 2004 g w 58 (s.1:Grifferef04Run) p2∧OSF 2004 60400 0 g w 3 58 ((s.1).Thrown) p2∧OSF 2004 60401 1 g w 3 58 (((s.1).After).Boxes) p2∧OSF 2004 60402 2 g w 3 58 (((s.1).After).At) p2∧OSF 2004 60403 3 g w 87 58 (((s.1).After).Shuttles) p2∧e 6=p7∧OB 2006 g w 58 (s.2:Grifferef04Run) p7∧OSF 2006 60600 0 g w 3 58 ((s.2).Thrown) p7) (fun X158 rA xC h=>?_) ?_))
 ·refine Zf (Za (Zg (.int .i64 (0)) rfl rfl ?_))
  refine Zb (Zd (Zr ?_))
  refine E_lp h (fun (s:Grifferef04Run × Grifferef04Run × Int) e w=>∃ (g:Gh) ,Fr gI wI g w∧e 1=up1∧RV g.m w (x1:List BoxPick) up1∧e 4=p2∧OB 2004 g w 58 (s.1:Grifferef04Run) p2∧OSF 2004 60400 0 g w 3 58 ((s.1).Thrown) p2∧OSF 2004 60401 1 g w 3 58 (((s.1).After).Boxes) p2∧OSF 2004 60402 2 g w 3 58 (((s.1).After).At) p2∧OSF 2004 60403 3 g w 87 58 (((s.1).After).Shuttles) p2∧e 6=p7∧OB 2006 g w 58 (s.2.1:Grifferef04Run) p7∧OSF 2006 60600 0 g w 3 58 ((s.2.1).Thrown) p7∧e 7=.int .i64 (s.2.2)) ⟨g8,hfr,rfl,rp1,rfl,b2,d7,i7,j7,m7,rfl,b8,tD,rfl⟩ (fun X159 uA yC=>?_)
  rintro ⟨i5,i3,u3⟩ sE eF ⟨bB,hfr,a9,d9,i9,k9,u4_0_160,u4_1_160,u4_2_160,u4_3_160,l9,n9,u6_0_160,u9⟩ h
  refine Zq h (fun (s:Unit) e w=>∃ (g:Gh) ,Fr gI wI g w∧e 1=up1∧RV g.m w (x1:List BoxPick) up1∧e 4=p2∧OB 2004 g w 58 (i5:Grifferef04Run) p2∧OSF 2004 60400 0 g w 3 58 ((i5).Thrown) p2∧OSF 2004 60401 1 g w 3 58 (((i5).After).Boxes) p2∧OSF 2004 60402 2 g w 3 58 (((i5).After).At) p2∧OSF 2004 60403 3 g w 87 58 (((i5).After).Shuttles) p2∧e 6=p7∧OB 2006 g w 58 (i3:Grifferef04Run) p7∧OSF 2006 60600 0 g w 3 58 ((i3).Thrown) p7∧e 7=.int .i64 (u3)) (fun X162 aB aD h=>?_) ?_
  ·refine Zf (Za (Zo u9 rfl ?_))
   refine Zo a9 rfl ?_
   refine EL_p (.int .i64 ((x1).length:Int)) (P_len Try.underlying30 rfl d9) rfl ?_
   refine EL_in (.bool ((decide (u3 < ((x1).length:Int))))) rfl rfl rfl rfl ?_
   refine Zb (Zd ?_)
   rcases Zt h with ⟨r8,h⟩ | ⟨r8,h⟩
   ·refine E_ct r8 rfl ?_
    exact Zu (Zd (aD () _ _ ⟨bB,hfr,a9,d9,i9,k9,u4_0_160,u4_1_160,u4_2_160,u4_3_160,l9,n9,u6_0_160,u9⟩ h))
   ·refine E_cf r8 rfl ?_
    refine E_exit ?_
    refine thn_e ?_
    refine thn_e ?_
    refine blk_hit ?_
    exact Zd (xC (i5,i3) _ _ ⟨bB,hfr,i9,k9,u4_0_160,u4_1_160,u4_2_160,u4_3_160,l9,n9,u6_0_160⟩ h)
  ·rintro _ tE uD ⟨cB, hfr, y9, x5, o8, j6, u4_0_164, u4_1_164, u4_2_164, u4_3_164, q8, t5, u6_0_164, z9⟩ h
   refine Zq h (fun (s:Grifferef04Run × Grifferef04Run) e w=>∃ (g:Gh) ,Fr gI wI g w∧e 1=up1∧RV g.m w (x1:List BoxPick) up1∧e 4=p2∧OB 2004 g w 58 (s.1:Grifferef04Run) p2∧OSF 2004 60400 0 g w 3 58 ((s.1).Thrown) p2∧OSF 2004 60401 1 g w 3 58 (((s.1).After).Boxes) p2∧OSF 2004 60402 2 g w 3 58 (((s.1).After).At) p2∧OSF 2004 60403 3 g w 87 58 (((s.1).After).Shuttles) p2∧e 6=p7∧OB 2006 g w 58 (s.2:Grifferef04Run) p7∧OSF 2006 60600 0 g w 3 58 ((s.2).Thrown) p7∧e 7=.int .i64 (u3)) (fun X235 xA bD h=>?_) ?_
   ·refine Zr ?_
    refine Zf (L_loadO (x:=.tmp 22) part_Grifferef04Run_1.1 Try.isAgg25 Try.sizeOf25 t5 fun dB vD cD=>?_)
    obtain ⟨yA,nA,h⟩:=bsome h
    have xD:=PT_idx x5 nA
    refine Zs (x:=.tmp 26) Try.isAgg83 Try.sizeOf83 xD fun eB yD eD=>?_
    obtain ⟨o0,gD,h⟩:=bsome h
    refine E_drawTL (g:=cB) (n:=13) [9,10,11] [(6,(fun v g w=>∃ y0 y1 y2 y3:Value,v=.tuple #[y0,y1,y2,y3]∧RV g.m w (o0.1:BoxLoom) y0∧y1=.int .i64 (o0.2.1)∧y2=.int .i64 (o0.2.2.1)∧y3=.bool (o0.2.2.2))),(12,(fun v g w=>OB 2008 g w 25 (⟨[],[],[]⟩:BoxLoom) v))] [0,1,2,3,4,5,6,7,8,9,10,11,12] rfl mixed (by kernel_rfl) (⟨fun _=>(up_ex fun _=>(up_ex fun _=>(up_ex fun _=>(up_ex fun _=>(up_and (up_eq _) (up_and up_rv (up_and (up_eq _) (up_and (up_eq _) (up_eq _))))))))),fun _=>up_ob,trivial⟩) rfl ?_
    refine L_p (fPtr p7 1) rfl rfl (Zc at_58_1 q8 (OB.ptr t5)) ?_
    refine L_ld (c:=dB) rfl rfl .plain (fun _ _ h=>⟨h.ch,fun b hb _=>h.below.block b hb⟩) cD rfl ?_
    refine L_p up1 rfl rfl (Zk y9) ?_
    refine L_p (.int .i64 (u3)) rfl rfl (Zk z9) ?_
    refine L_p (ePtr up1 u3 2) rfl rfl (Zh (α:=BoxPick) Try.underlying30 Try.sizeOf83 rfl x5 rfl nA) ?_
    refine L_ld (c:=eB) rfl rfl .plain (fun _ _ h=>h.ch) eD rfl ?_
    refine L_do (φ:=fun v g w=>∃ y0 y1 y2 y3:Value,v=.tuple #[y0,y1,y2,y3]∧RV g.m w (o0.1:BoxLoom) y0∧y1=.int .i64 (o0.2.1)∧y2=.int .i64 (o0.2.2.1)∧y3=.bool (o0.2.2.2)) rfl rfl .plain (fun g w hd=>Zp (g:=g) (vs:=[dB,eB]) en61 (.cons rfl (.cons rfl .nil)) (wk61 (vD.ext hd.1) (yD.ext hd.1) gD) fun g' w' v hs hr=>⟨g',hs,hr⟩) (fun iF hv=>?_)
    obtain ⟨_,_,_,i8,_,_,_,rfl,nE,rfl,rfl,rfl⟩:=hv
    refine L_p (.tuple #[i8,.int .i64 (o0.2.1),.int .i64 (o0.2.2.1),.bool (o0.2.2.2)]) rfl rfl (Zk rfl) ?_
    refine L_p i8 rfl rfl (Zi rfl rfl) ?_
    refine L_purL (c:=.int .i64 (o0.2.1)) rfl rfl .plain (Zi rfl rfl) ?_
    refine L_purL (c:=.int .i64 (o0.2.2.1)) rfl rfl .plain (Zi rfl rfl) ?_
    refine L_purL (c:=.bool (o0.2.2.2)) rfl rfl .plain (Zi rfl rfl) ?_
    refine L_do (φ:=fun v g w=>OB 2008 g w 25 (⟨[],[],[]⟩:BoxLoom) v) rfl rfl .plain (fun g w hd=>D_allocX (g:=g) 2008 (⟨[],[],[]⟩:BoxLoom) Try.zeroValue25 (fun m w=>⟨_,(rep_two rep_nil (rep_two rep_nil rep_nil)),rfl⟩) fun g' w' v hs b=>⟨g',hs,b⟩) (fun gA hv=>?_)
    clear hv
    refine L_nil fun iB zD hall=>?_
    have hs:=hall.1
    have hlt:Lt cB.m uD iB zD:=hs.ch
    have hfr:=hfr.ext hs
    have x5:=x5.ext hs
    have u4_0_164:=u4_0_164.ext hs
    have u4_1_164:=u4_1_164.ext hs
    have u4_2_164:=u4_2_164.ext hs
    have u4_3_164:=u4_3_164.ext hs
    have j6:=j6.ext hs
    have u6_0_164:=u6_0_164.ext hs
    have t5:=t5.ext hs
    have aE:=(tup4_0 (word_all (A:=fun g w=>∃ y0 y1 y2 y3:Value,Value.tuple #[i8,.int .i64 (o0.2.1),.int .i64 (o0.2.2.1),.bool (o0.2.2.2)]=.tuple #[y0,y1,y2,y3]∧RV g.m w (o0.1:BoxLoom) y0∧y1=.int .i64 (o0.2.1)∧y2=.int .i64 (o0.2.2.1)∧y3=.bool (o0.2.2.2)) 6 rfl hall))
    have b261:=(word_all (A:=fun g w=>OB 2008 g w 25 (⟨[],[],[]⟩:BoxLoom) gA) 12 rfl hall)
    clear hs hall
    refine TL_do hlt.w .plain rfl (D_storeOc (g:=iB) (v:=i8) Try.sizeOf25 rfl b261 rfl aE fun iA nF hs b262 cb=>?_)
    clear cb
    have hfr:=hfr.stp hs
    have hlt:=hlt.stp hs
    have x5:=x5.stp hs
    have u4_0_164:=u4_0_164.stp hs rfl
    have u4_1_164:=u4_1_164.stp hs rfl
    have u4_2_164:=u4_2_164.stp hs rfl
    have u4_3_164:=u4_3_164.stp hs rfl
    have j6:=j6.stp hs rfl
    have u6_0_164:=u6_0_164.stp hs rfl
    have t5:=t5.stp hs rfl
    refine TL_pur hlt.w (v:=.int .i64 (o0.2.1)) (P_assign rfl) .plain rfl ?_
    refine TL_pur hlt.w (v:=.int .i64 (o0.2.2.1)) (P_assign rfl) .plain rfl ?_
    refine TL_pur hlt.w (v:=.bool (o0.2.2.2)) (P_assign rfl) .plain rfl ?_
    refine TL_nil hlt.w ?_
    clear hlt
    refine Zd (Zq h (fun (s:Grifferef04Run) e w=>∃ (g:Gh) ,Fr gI wI g w∧e 1=up1∧RV g.m w (x1:List BoxPick) up1∧e 4=p2∧OB 2004 g w 58 (s:Grifferef04Run) p2∧OSF 2004 60400 0 g w 3 58 ((s).Thrown) p2∧OSF 2004 60401 1 g w 3 58 (((s).After).Boxes) p2∧OSF 2004 60402 2 g w 3 58 (((s).After).At) p2∧OSF 2004 60403 3 g w 87 58 (((s).After).Shuttles) p2∧e 6=p7∧OB 2006 g w 58 (i3:Grifferef04Run) p7∧OSF 2006 60600 0 g w 3 58 ((i3).Thrown) p7∧e 7=.int .i64 (u3)∧e 8=gA∧OB 2008 g w 25 ((o0.1:BoxLoom):BoxLoom) gA∧e 9=.int .i64 (o0.2.1)∧e 10=.int .i64 (o0.2.2.1)) (fun X267 zA iD h=>?_) ?_)
    ·refine Zf (Za (Zn (.bool (o0.2.2.2)) rfl rfl ?_))
     refine EL_p (.bool (!o0.2.2.2)) (P_not rfl) rfl ?_
     refine Zb (Zd ?_)
     rcases Zt h with ⟨t8,h⟩ | ⟨t8,h⟩
     ·refine E_ct t8 rfl ?_
      refine Zf (Za (Ze .plain rfl (D_loadO (g:=iA) Try.isAgg58 Try.sizeOf58 q8 t5 fun bE cE=>?_)))
      refine Ze .plain rfl (D_storeOc (g:=iA) (v:=bE) Try.sizeOf58 o8 j6 rfl cE fun oF pF hs b270 cb=>?_)
      clear cb
      have hfr:=hfr.stp hs
      refine Zg (.bool false) rfl rfl ?_
      refine Zb (Zd (E_ret (thn_r ?_)))
      refine blk_r ?_
      refine thn_r ?_
      refine thn_r ?_
      refine blk_r ?_
      refine thn_r ?_
      obtain rfl:=sinj h
      obtain ⟨ad271,cv271,hp271,jD,cr271⟩:=ob_read Try.isAgg58 Try.sizeOf58 b270
      exact endm_ct rfl rfl ((show _=p2 from o8).trans hp271) jD (show _=.bool false from rfl) ⟨_,hfr,_,_,rfl,cr271,rfl⟩
     ·refine E_cf t8 rfl ?_
      exact Zu (Zd (iD (i5) _ _ ⟨iA,hfr,y9,x5,o8,j6,u4_0_164,u4_1_164,u4_2_164,u4_3_164,q8,t5,u6_0_164,z9,rfl,b262,rfl,rfl⟩ h))
    ·rintro n8 uE dE ⟨eE, hfr, jB, y6, lB, a7, u4_0_272, u4_1_272, u4_2_272, u4_3_272, k8, i6, u6_0_272, mB, nB, oB, tB, pA⟩ h
     refine L_loadFS (x:=.tmp 36) part_Grifferef04Run_0.1 Try.isAgg22 Try.sizeOf22 i6 u6_0_272 fun vB gE o279 kD=>?_
     obtain ⟨l5,lD,h⟩:=bsome h
     refine L_loadO0 (x:=.tmp 8) Try.isAgg25 Try.sizeOf25 oB fun v8 x8 mD=>?_
     refine L_loadO (x:=.tmp 42) part_Grifferef04Run_2.1 Try.isAgg3 Try.sizeOf3 i6 fun qF iE nD=>?_
     obtain rfl:=Zj.1 iE
     refine E_drawAS (g:=eE) (w:=dE) (i:=60600) (et:=3) (xs:=((i3).Thrown:List Int)) (r:=l5) (u:=vB) gE o279 (n:=10) [(3,(fun v g w=>RV g.m w ([o0.2.1]:List Int) v∧OS 3039 g w 3 ([o0.2.1]:List Int) v∧FullV v)),(4,(fun v g w=>RV g.m w l5 v∧OS 60600 g w 3 l5 v))] [0,1,2,3,4,5,6,7,8,9] rfl mixed (by kernel_rfl) (⟨fun _=>up_and upS_rv (up_and upS_os (upS_eq _)),fun _=>up_as,trivial⟩) ?_
     refine L_p (fPtr p7 0) rfl rfl (Zc at_58_0 k8 (OB.ptr i6)) ?_
     refine L_ld (c:=vB) rfl rfl .plain (fun _ _ h=>⟨h.1.ch,fun b hb ho=>h.1.block b hb (by rw [ho]; decide)⟩) kD rfl ?_
     refine L_p (.int .i64 (o0.2.1)) rfl rfl (Zk tB) ?_
     refine L_do (φ:=fun v g w=>RV g.m w ([o0.2.1]:List Int) v∧OS 3039 g w 3 ([o0.2.1]:List Int) v∧FullV v) rfl rfl .plain (fun g w hd=>D_buildSlice (g:=g) 3039 (xs:=([o0.2.1]:List Int)) (vs:=[.int .i64 (o0.2.1)]) Try.underlying22 Try.sizeOf3 Try.zeroValue3 rfl rfl (.cons rfl .nil) (RVs.cons (Zj.2 rfl) RVs.nil) rfl rfl fun g' w' v hs o r hxt hfl=>⟨g',as_ext hxt,r,o,hfl⟩) (fun x6 hv=>?_)
     clear hv
     refine L_do (φ:=fun v g w=>RV g.m w l5 v∧OS 60600 g w 3 l5 v) rfl rfl .plain (fun g w hd=>D_appendS (g:=g) det_int rfl Try.underlying22 info_3 rfl rfl hd.1.2 rfl (word (A:=fun g w=>RV g.m w ([o0.2.1]:List Int) x6∧OS 3039 g w 3 ([o0.2.1]:List Int) x6∧FullV x6) 3 rfl rfl (deps_of hd)).1 lD) (fun v7 hv=>?_)
     clear hv
     refine L_ld (c:=v8) rfl rfl .plain (fun _ _ h=>⟨h.1.ch,fun b hb ho=>h.1.block b hb (by rw [ho]; decide)⟩) mD nB ?_
     refine L_p (fPtr p7 4) rfl rfl (Zc at_58_2 k8 (OB.ptr i6)) ?_
     refine L_ld (c:=.int .i64 ((i3).Moves)) rfl rfl .plain (fun _ _ h=>⟨h.1.ch,fun b hb ho=>h.1.block b hb (by rw [ho]; decide)⟩) nD rfl ?_
     refine L_p (.int .i64 (o0.2.2.1)) rfl rfl (Zk pA) ?_
     refine L_p (.int .i64 ((w64 ((i3).Moves + o0.2.2.1)))) rfl rfl (P_int rfl rfl rfl) ?_
     refine L_nil fun yB rF hall=>?_
     have hs:=hall.1.1
     have hfr:=hfr.stp hs
     have y6:=y6.stp hs
     have u4_0_272:=u4_0_272.stp hs rfl
     have u4_1_272:=u4_1_272.stp hs rfl
     have u4_2_272:=u4_2_272.stp hs rfl
     have u4_3_272:=u4_3_272.stp hs rfl
     have a7:=a7.stp hs rfl
     have i6:=i6.stp hs rfl
     have x8:=x8.stp hs
     have sF:=(word_all (A:=fun g w=>RV g.m w ([o0.2.1]:List Int) x6∧OS 3039 g w 3 ([o0.2.1]:List Int) x6∧FullV x6) 3 rfl hall).1
     have o297:=(word_all (A:=fun g w=>RV g.m w ([o0.2.1]:List Int) x6∧OS 3039 g w 3 ([o0.2.1]:List Int) x6∧FullV x6) 3 rfl hall).2.1
     have jA:=(word_all (A:=fun g w=>RV g.m w l5 v7∧OS 60600 g w 3 l5 v7) 4 rfl hall).1
     have o298:=(word_all (A:=fun g w=>RV g.m w l5 v7∧OS 60600 g w 3 l5 v7) 4 rfl hall).2
     clear hs hall
     have zB:RV yB.m _ (⟨l5,(o0.1:BoxLoom),(w64 ((i3).Moves + o0.2.2.1))⟩:Grifferef04Run) (.agg (setCh [[.slice none 0 0],[.slice none 0 0,.slice none 0 0,.slice none 0 0],[.int .i64 0]] [(0,v7),(1,v8),(2,.int .i64 ((w64 ((i3).Moves + o0.2.2.1))))]).flatten.toArray):=RV_build rfl (rep_pair (RV.cells jA) (rep_pair (RV.cells x8) (rep_last (rfl))))
     generalize oA:(Value.agg (setCh [[.slice none 0 0],[.slice none 0 0,.slice none 0 0,.slice none 0 0],[.int .i64 0]] [(0,v7),(1,v8),(2,.int .i64 ((w64 ((i3).Moves + o0.2.2.1))))]).flatten.toArray)=aC at zB
     refine EL_p aC (oA ▸ P_build (vs:=[(0,v7),(1,v8),(2,.int .i64 ((w64 ((i3).Moves + o0.2.2.1))))]) [[.slice none 0 0],[.slice none 0 0,.slice none 0 0,.slice none 0 0],[.int .i64 0]] lay_58 rfl rfl (.cons rfl (.cons rfl (.cons rfl .nil))) ⟨⟨_,rfl,cells_size jA⟩,⟨⟨_,rfl,cells_size x8⟩,⟨⟨_,rfl,rfl⟩,trivial⟩⟩⟩) rfl ?_
     refine Ze .plain rfl (D_storeOc (g:=yB) (v:=aC) Try.sizeOf58 k8 i6 rfl zB fun cC jE hs b305 cb=>?_)
     obtain ⟨oE,rE,mA,_,_⟩:=RV_list jA
     have dC:OSF 2006 60600 0 cC jE 3 58 (l5:List Int) p7:=cb.osfv (by rw [← oA,mA]; rfl) (o298.stp hs rfl)
     clear cb
     have hfr:=hfr.stp hs
     have y6:=y6.stp hs
     have u4_0_272:=u4_0_272.stp hs rfl
     have u4_1_272:=u4_1_272.stp hs rfl
     have u4_2_272:=u4_2_272.stp hs rfl
     have u4_3_272:=u4_3_272.stp hs rfl
     have a7:=a7.stp hs rfl
     exact Zb (blk_n (Zd (bD (n8,(⟨l5,(o0.1:BoxLoom),(w64 ((i3).Moves + o0.2.2.1))⟩:Grifferef04Run)) _ _ ⟨cC,hfr,jB,y6,lB,a7,u4_0_272,u4_1_272,u4_2_272,u4_3_272,k8,b305,dC,mB⟩ h)))
   ·rintro ⟨l8, m8⟩ vE tF ⟨kE, hfr, eC, iC, jC, kC, u4_0_306, u4_1_306, u4_2_306, u4_3_306, lC, mC, u6_0_306, qC⟩ h
    refine Za (Zo qC rfl ?_)
    refine EL_in (.int .i64 ((w64 (u3 + (1:Int))))) rfl rfl rfl rfl ?_
    refine Zg (.int .i64 ((w64 (u3 + (1:Int))))) rfl rfl ?_
    exact Zb (Zd (yC (l8,m8,(w64 (u3 + (1:Int)))) _ _ ⟨kE,hfr,eC,iC,jC,kC,u4_0_306,u4_1_306,u4_2_306,u4_3_306,lC,mC,u6_0_306,rfl⟩ h))
 ·rintro ⟨qA, y8⟩ xE uF ⟨rC, hfr, bA, tC, u4_0_307, u4_1_307, u4_2_307, u4_3_307, uC, vC, u6_0_307⟩ h
  refine Zf (Za (Ze .plain rfl (D_loadO (g:=rC) Try.isAgg58 Try.sizeOf58 uC vC fun lE mE=>?_)))
  refine Ze .plain rfl (D_storeOc (g:=rC) (v:=lE) Try.sizeOf58 bA tC rfl mE fun vF xF hs b309 cb=>?_)
  clear cb
  have hfr:=hfr.stp hs
  refine Zg (.bool true) rfl rfl ?_
  refine Zb (Zd (E_ret ?_))
  obtain rfl:=sinj h
  obtain ⟨ad310,cv310,hp310,oD,cr310⟩:=ob_read Try.isAgg58 Try.sizeOf58 b309
  exact endm_ct rfl rfl ((show _=p2 from bA).trans hp310) oD (show _=.bool true from rfl) ⟨_,hfr,_,_,rfl,cr310,rfl⟩
def f37 (x0:BoxLoom) (x1:List BoxPick):Option (Int × Bool):=
 lp (σ:=BoxLoom × Int) (fun k5 (b7,o0)=>
  jn (σ:=BoxLoom) (fun j6=>
   k5 (j6,(w64 (o0 + (1:Int))))
   ) fun a9=>
  (f32 b7 x1).bind fun i3=>
  jn (σ:=Unit) (fun _=>
   (f77 ((i3.1).After) x0).bind fun y40=>
   bif y40 then
    some (o0,true)
   else
    a9 ((i3.1).After)
   ) fun d9=>
  bif (!i3.2) then
   some ((0:Int),false)
  else
   d9 ()
  ) big (x0,(1:Int))
def f47 (x0:BoxLoom):Option ((List Int)):=
 Option.bind (α:=(List Int)) (
  lp (σ:=(List Int) × Int) (fun vB (i5,i3)=>
   jn (σ:=Unit) (fun _=>
    Option.bind (α:=(List Int)) (
     (f60 x0).bind fun b7=>
     Option.bind (α:=Bool) (
      lp (σ:=Bool × Int) (fun yB (d7,l5)=>
       jn (σ:=Unit) (fun _=>
        Option.bind (α:=Bool) (
         (idx b7 l5).bind fun zB=>
         (f61 x0 zB).bind fun o0=>
         Option.bind (α:=Bool) (
          bif o0.2.2.2 then
           (idx ((x0).Shuttles) o0.2.1).bind fun x8=>
           some (((x8).Colour == i3))
          else
           some (false)
          ) fun v6=>
         bif v6 then
          some (true)
         else
          some (d7)
         ) fun i7=>
        yB (i7,(w64 (l5 + (1:Int))))
        ) fun aC=>
       bif (decide (l5 < ((b7).length : Int))) then
        aC ()
       else
        some (d7)
       ) big (false,(0:Int))
      ) fun l8=>
     bif l8 then
      (apnd 8 i5 (([i3]:List Int))).bind fun cC=>
      some (cC)
     else
      some (i5)
     ) fun g7=>
    vB (g7,(w64 (i3 + (1:Int))))
    ) fun dC=>
   bif (decide (i3 ≤ (9 : Int))) then
    dC ()
   else
    some (i5)
   ) big (([]:List Int),(0:Int))
  ) fun j7=>
 some (j7)
theorem en47:Enters Try.prog 47:=enters_of Try.func47 (by kernel_rfl) rfl
theorem wk47 {gI:Gh} {wI:World} {x0:BoxLoom} {up0:Value} (rp0:RV gI.m wI x0 up0) {r:(List Int)} (h:f47 x0=some r):Fn Try.prog 47 #[up0] gI wI (fun m w v=>RV m w (r) v):=by
 unfold f47 at h
 refine fn_of_E Try.func47 rfl (Nat.le_of_ble_eq_true rfl) fun g0 hm hfr=>?_
 have rp0:RV g0.m wI x0 up0:=hm ▸ rp0
 show E _ 53 none _ _ _ _ _
 refine Zf (Za (Ze .plain rfl (D_box (g:=g0) rfl rp0 fun g1 w1 p1 hs q1=>?_)))
 have hfr:=hfr.ext hs
 refine Zg (.slice none 0 0) rfl rfl ?_
 refine Zb (Zd (Zf (Za (Ze .plain rfl (D_buildSlice (g:=g1) 3012 (xs:=([]:List Int)) (vs:=[]) Try.underlying22 Try.sizeOf3 Try.zeroValue3 rfl rfl .nil RVs.nil rfl rfl fun g2 w2 v2 hs o2 r2 hxt hfl=>?_)))))
 have hfr:=hfr.stp hs
 have q1:=q1.stp hs
 refine Zg v2 rfl rfl ?_
 refine Zb (Zd ?_)
 obtain ⟨j7,hx,h⟩:=bsome h
 refine E_join (fun e w=>∃ (g:Gh) (v3:Value),Fr gI wI g w∧e 3=v3∧RV g.m w (j7:List Int) v3∧OS 3012 g w 3 (j7:List Int) v3) (fun Q' hQ=>?_) (fun aG lG hR=>?_)
 ·replace h := hx
  clear hx
  refine Zf (Za (Zg (.int .i64 (0)) rfl rfl ?_))
  refine Zb (Zd (Zr ?_))
  refine E_lp h (fun (s:(List Int) × Int) e w=>∃ (g:Gh) (v3:Value),Fr gI wI g w∧e 1=p1∧PT g.m w (x0:BoxLoom) p1∧e 3=v3∧RV g.m w (s.1:List Int) v3∧OS 3012 g w 3 (s.1:List Int) v3∧e 4=.int .i64 (s.2)) ⟨g2,(v2),hfr,rfl,q1,rfl,r2,o2,rfl⟩ (fun X399 vB iE=>?_)
  rintro ⟨i5,i3⟩ bG mG ⟨eC,u3,hfr,iC,jC,l9,n9,u9,y9⟩ h
  refine Zq h (fun (s:Unit) e w=>∃ (g:Gh) ,Fr gI wI g w∧e 1=p1∧PT g.m w (x0:BoxLoom) p1∧e 3=u3∧RV g.m w (i5:List Int) u3∧OS 3012 g w 3 (i5:List Int) u3∧e 4=.int .i64 (i3)) (fun X402 dC jE h=>?_) ?_
  ·refine Zf (Za (Zo y9 rfl ?_))
   refine EL_in (.bool ((decide (i3 ≤ (9:Int))))) rfl rfl rfl rfl ?_
   refine Zb (Zd ?_)
   rcases Zt h with ⟨y8,h⟩ | ⟨y8,h⟩
   ·refine E_ct y8 rfl ?_
    exact Zu (Zd (jE () _ _ ⟨eC,hfr,iC,jC,l9,n9,u9,y9⟩ h))
   ·refine E_cf y8 rfl ?_
    refine E_exit ?_
    refine thn_e ?_
    refine thn_e ?_
    refine blk_hit ?_
    obtain rfl:=sinj h
    exact hQ _ _ ⟨eC,(u3),hfr,l9,n9,u9⟩
  ·rintro _ cG nG ⟨kC, hfr, z9, m7, lC, m8, n8, mC⟩ h
   obtain ⟨g7,hx,h⟩:=bsome h
   refine E_join (fun e w=>∃ (g:Gh) (v3:Value),Fr gI wI g w∧e 1=p1∧PT g.m w (x0:BoxLoom) p1∧e 3=v3∧RV g.m w (g7:List Int) v3∧OS 3012 g w 3 (g7:List Int) v3∧e 4=.int .i64 (i3)) (fun Q' hQ=>?_) (fun dG oG hR=>?_)
   ·replace h := hx
    clear hx
    refine Zr ?_
    refine Zf (Za (Ze .plain rfl (D_load (g:=kC) Try.isAgg25 Try.sizeOf25 z9 m7 fun tE uE=>?_)))
    obtain ⟨b7,kE,h⟩:=bsome h
    refine Ze .plain rfl (Zp (g:=kC) (vs:=[tE]) en60 (.cons rfl .nil) (wk60 uE kE) fun vE eG j6 hs hr=>?_)
    have hfr:=hfr.ext hs
    have m7:=m7.ext hs
    have m8:=m8.ext hs
    have n8:=n8.ext hs
    have xE:=hr
    refine Zg (.bool false) rfl rfl ?_
    refine Zg j6 rfl rfl ?_
    refine Zb (Zd ?_)
    obtain ⟨l8,hx,h⟩:=bsome h
    refine E_join (fun e w=>∃ (g:Gh) ,Fr gI wI g w∧e 1=p1∧PT g.m w (x0:BoxLoom) p1∧e 3=u3∧RV g.m w (i5:List Int) u3∧OS 3012 g w 3 (i5:List Int) u3∧e 4=.int .i64 (i3)∧e 5=.bool (l8)) (fun Q' hQ=>?_) (fun gG pG hR=>?_)
    ·replace h := hx
     clear hx
     refine Zf (Za (Zg (.int .i64 (0)) rfl rfl ?_))
     refine Zb (Zd (Zr ?_))
     refine E_lp h (fun (s:Bool × Int) e w=>∃ (g:Gh) ,Fr gI wI g w∧e 1=p1∧PT g.m w (x0:BoxLoom) p1∧e 3=u3∧RV g.m w (i5:List Int) u3∧OS 3012 g w 3 (i5:List Int) u3∧e 4=.int .i64 (i3)∧e 5=.bool (s.1)∧e 6=j6∧RV g.m w (b7:List BoxPick) j6∧e 7=.int .i64 (s.2)) ⟨vE,hfr,z9,m7,lC,m8,n8,mC,rfl,rfl,xE,rfl⟩ (fun X695 yB lE=>?_)
     rintro ⟨d7,l5⟩ hG qG ⟨qC,hfr,bA,gA,iA,jA,mA,nA,oA,pA,qA,rA⟩ h
     refine Zq h (fun (s:Unit) e w=>∃ (g:Gh) ,Fr gI wI g w∧e 1=p1∧PT g.m w (x0:BoxLoom) p1∧e 3=u3∧RV g.m w (i5:List Int) u3∧OS 3012 g w 3 (i5:List Int) u3∧e 4=.int .i64 (i3)∧e 5=.bool (d7)∧e 6=j6∧RV g.m w (b7:List BoxPick) j6∧e 7=.int .i64 (l5)) (fun X698 aC mE h=>?_) ?_
     ·refine Zf (Za (Zo rA rfl ?_))
      refine Zo pA rfl ?_
      refine EL_p (.int .i64 ((b7).length:Int)) (P_len Try.underlying30 rfl qA) rfl ?_
      refine EL_in (.bool ((decide (l5 < ((b7).length:Int))))) rfl rfl rfl rfl ?_
      refine Zb (Zd ?_)
      rcases Zt h with ⟨a9,h⟩ | ⟨a9,h⟩
      ·refine E_ct a9 rfl ?_
       exact Zu (Zd (mE () _ _ ⟨qC,hfr,bA,gA,iA,jA,mA,nA,oA,pA,qA,rA⟩ h))
      ·refine E_cf a9 rfl ?_
       refine E_exit ?_
       refine thn_e ?_
       refine thn_e ?_
       refine blk_hit ?_
       obtain rfl:=sinj h
       exact hQ _ _ ⟨qC,hfr,bA,gA,iA,jA,mA,nA,oA⟩
     ·rintro _ iG yE ⟨rC, hfr, v7, x5, uA, x6, y6, o8, xA, q8, i6, r8⟩ h
      obtain ⟨i7,hx,h⟩:=bsome h
      refine E_join (fun e w=>∃ (g:Gh) ,Fr gI wI g w∧e 1=p1∧PT g.m w (x0:BoxLoom) p1∧e 3=u3∧RV g.m w (i5:List Int) u3∧OS 3012 g w 3 (i5:List Int) u3∧e 4=.int .i64 (i3)∧e 5=.bool (i7)∧e 6=j6∧RV g.m w (b7:List BoxPick) j6∧e 7=.int .i64 (l5)) (fun Q' hQ=>?_) (fun jG rG hR=>?_)
      ·replace h := hx
       clear hx
       refine Zr ?_
       refine Zf (Zs (x:=.tmp 1) Try.isAgg25 Try.sizeOf25 x5 fun tC zE nE=>?_)
       obtain ⟨zB,oB,h⟩:=bsome h
       have cF:=PT_idx i6 oB
       refine Zs (x:=.tmp 29) Try.isAgg83 Try.sizeOf83 cF fun uC dF oE=>?_
       obtain ⟨o0,rE,h⟩:=bsome h
       refine E_drawTL (g:=rC) (n:=12) [8,9,10] [(5,(fun v g w=>∃ y0 y1 y2 y3:Value,v=.tuple #[y0,y1,y2,y3]∧RV g.m w (o0.1:BoxLoom) y0∧y1=.int .i64 (o0.2.1)∧y2=.int .i64 (o0.2.2.1)∧y3=.bool (o0.2.2.2))),(11,(fun v g w=>OB 2008 g w 25 (⟨[],[],[]⟩:BoxLoom) v))] [0,1,2,3,4,5,6,7,8,9,10,11] rfl mixed (by kernel_rfl) (⟨fun _=>(up_ex fun _=>(up_ex fun _=>(up_ex fun _=>(up_ex fun _=>(up_and (up_eq _) (up_and up_rv (up_and (up_eq _) (up_and (up_eq _) (up_eq _))))))))),fun _=>up_ob,trivial⟩) rfl ?_
       refine L_ld (c:=tC) rfl rfl .plain (fun _ _ h=>h.ch) nE v7 ?_
       refine L_p j6 rfl rfl (Zk q8) ?_
       refine L_p (.int .i64 (l5)) rfl rfl (Zk r8) ?_
       refine L_p (ePtr j6 l5 2) rfl rfl (Zh (α:=BoxPick) Try.underlying30 Try.sizeOf83 rfl i6 rfl oB) ?_
       refine L_ld (c:=uC) rfl rfl .plain (fun _ _ h=>h.ch) oE rfl ?_
       refine L_do (φ:=fun v g w=>∃ y0 y1 y2 y3:Value,v=.tuple #[y0,y1,y2,y3]∧RV g.m w (o0.1:BoxLoom) y0∧y1=.int .i64 (o0.2.1)∧y2=.int .i64 (o0.2.2.1)∧y3=.bool (o0.2.2.2)) rfl rfl .plain (fun g w hd=>Zp (g:=g) (vs:=[tC,uC]) en61 (.cons rfl (.cons rfl .nil)) (wk61 (zE.ext hd.1) (dF.ext hd.1) rE) fun g' w' v hs hr=>⟨g',hs,hr⟩) (fun sG hv=>?_)
       obtain ⟨_,_,_,g8,_,_,_,rfl,yF,rfl,rfl,rfl⟩:=hv
       refine L_p (.tuple #[g8,.int .i64 (o0.2.1),.int .i64 (o0.2.2.1),.bool (o0.2.2.2)]) rfl rfl (Zk rfl) ?_
       refine L_p g8 rfl rfl (Zi rfl rfl) ?_
       refine L_purL (c:=.int .i64 (o0.2.1)) rfl rfl .plain (Zi rfl rfl) ?_
       refine L_purL (c:=.int .i64 (o0.2.2.1)) rfl rfl .plain (Zi rfl rfl) ?_
       refine L_purL (c:=.bool (o0.2.2.2)) rfl rfl .plain (Zi rfl rfl) ?_
       refine L_do (φ:=fun v g w=>OB 2008 g w 25 (⟨[],[],[]⟩:BoxLoom) v) rfl rfl .plain (fun g w hd=>D_allocX (g:=g) 2008 (⟨[],[],[]⟩:BoxLoom) Try.zeroValue25 (fun m w=>⟨_,(rep_two rep_nil (rep_two rep_nil rep_nil)),rfl⟩) fun g' w' v hs b=>⟨g',hs,b⟩) (fun eF hv=>?_)
       clear hv
       refine L_nil fun vC iF hall=>?_
       have hs:=hall.1
       have hlt:Lt rC.m yE vC iF:=hs.ch
       have hfr:=hfr.ext hs
       have x5:=x5.ext hs
       have x6:=x6.ext hs
       have y6:=y6.ext hs
       have i6:=i6.ext hs
       have nF:=(tup4_0 (word_all (A:=fun g w=>∃ y0 y1 y2 y3:Value,Value.tuple #[g8,.int .i64 (o0.2.1),.int .i64 (o0.2.2.1),.bool (o0.2.2.2)]=.tuple #[y0,y1,y2,y3]∧RV g.m w (o0.1:BoxLoom) y0∧y1=.int .i64 (o0.2.1)∧y2=.int .i64 (o0.2.2.1)∧y3=.bool (o0.2.2.2)) 5 rfl hall))
       have b769:=(word_all (A:=fun g w=>OB 2008 g w 25 (⟨[],[],[]⟩:BoxLoom) eF) 11 rfl hall)
       clear hs hall
       refine TL_do hlt.w .plain rfl (D_storeOc (g:=vC) (v:=g8) Try.sizeOf25 rfl b769 rfl nF fun d9 tG hs b770 cb=>?_)
       clear cb
       have hfr:=hfr.stp hs
       have hlt:=hlt.stp hs
       have x5:=x5.stp hs
       have x6:=x6.stp hs
       have y6:=y6.stp hs rfl
       have i6:=i6.stp hs
       refine TL_pur hlt.w (v:=.int .i64 (o0.2.1)) (P_assign rfl) .plain rfl ?_
       refine TL_pur hlt.w (v:=.int .i64 (o0.2.2.1)) (P_assign rfl) .plain rfl ?_
       refine TL_pur hlt.w (v:=.bool (o0.2.2.2)) (P_assign rfl) .plain rfl ?_
       refine TL_nil hlt.w ?_
       clear hlt
       refine Zd ?_
       obtain ⟨v6,hx,h⟩:=bsome h
       refine E_join (fun e w=>∃ (g:Gh) ,Fr gI wI g w∧e 1=p1∧PT g.m w (x0:BoxLoom) p1∧e 3=u3∧RV g.m w (i5:List Int) u3∧OS 3012 g w 3 (i5:List Int) u3∧e 4=.int .i64 (i3)∧e 5=.bool (d7)∧e 6=j6∧RV g.m w (b7:List BoxPick) j6∧e 7=.int .i64 (l5)∧e 46=.bool (v6)) (fun Q' hQ=>?_) (fun kG uG hR=>?_)
       ·replace h := hx
        clear hx
        refine Za (Zn (.bool (o0.2.2.2)) rfl rfl ?_)
        refine Zn (.bool (o0.2.2.2)) rfl rfl ?_
        rcases Zt h with ⟨t5,h⟩ | ⟨t5,h⟩
        ·refine EL_y (fPtr p1 2) (Zc at_25_2 v7 (PT.ptr x5)) rfl rfl t5 rfl ?_
         have oF:=Zm (part_BoxLoom_2).1 x5
         refine Ze (.yes2 rfl rfl t5) rfl (D_load (g:=d9) Try.isAgg23 Try.sizeOf23 rfl oF fun xC yC=>?_)
         refine EL_y (.int .i64 (o0.2.1)) (Zk rfl) rfl rfl t5 rfl ?_
         obtain ⟨x8,tB,h⟩:=bsome h
         refine EL_y (ePtr xC o0.2.1 5) (Zh (α:=BoxShuttle) Try.underlying23 Try.sizeOf87 rfl yC rfl tB) rfl rfl t5 rfl ?_
         have aD:=PT_idx yC tB
         refine EL_y (fPtr (ePtr xC o0.2.1 5) 0) (Zc at_87_0 rfl (PT.ptr aD)) rfl rfl t5 rfl ?_
         have pF:=Zm (part_BoxShuttle_0).1 aD
         refine Ze (.yes2 rfl rfl t5) rfl (D_load (g:=d9) Try.isAgg3 Try.sizeOf3 rfl pF fun vG qF=>?_)
         obtain rfl:=Zj.1 qF
         refine EL_y (.int .i64 (i3)) (Zk o8) rfl rfl t5 rfl ?_
         refine EL_y (.bool (((x8).Colour == i3))) (P_int rfl rfl rfl) rfl rfl t5 rfl ?_
         refine EL_p (.bool (((x8).Colour == i3))) (Zl (b:=o0.2.2.2) rfl (pick_t t5 rfl)) rfl ?_
         refine Zb ?_
         obtain rfl:=sinj h
         exact hQ _ _ ⟨d9,hfr,v7,x5,uA,x6,y6,o8,xA,q8,i6,r8,rfl⟩
        ·refine EL_s rfl rfl t5 rfl rfl ?_
         iterate 7 refine EL_s rfl rfl t5 rfl rfl ?_
         refine EL_p (.bool false) (Zl (b:=o0.2.2.2) rfl (pick_f t5 rfl)) rfl ?_
         refine Zb ?_
         obtain rfl:=sinj h
         exact hQ _ _ ⟨d9,hfr,v7,x5,uA,x6,y6,o8,xA,q8,i6,r8,rfl⟩
       ·clear hx
        obtain ⟨bD,hfr,yA,zA,aB,bB,cB,dB,cD,eB,iB,jB,v8⟩:=hR
        rcases Zt h with ⟨i9,h⟩ | ⟨i9,h⟩
        ·refine E_cond_true (Eq.trans (show ev _ _ = .bool (v6) from v8) (congrArg Value.bool i9)) ?_
         refine Za (Zg (.bool true) rfl rfl ?_)
         refine Zb (blk_n ?_)
         obtain rfl:=sinj h
         exact hQ _ _ ⟨bD,hfr,yA,zA,aB,bB,cB,dB,rfl,eB,iB,jB⟩
        ·refine E_cond_false (Eq.trans (show ev _ _ = .bool (v6) from v8) (congrArg Value.bool i9)) ?_
         refine Zu (blk_n ?_)
         obtain rfl:=sinj h
         exact hQ _ _ ⟨bD,hfr,yA,zA,aB,bB,cB,dB,cD,eB,iB,jB⟩
      ·clear hx
       obtain ⟨rF,hfr,eD,gD,iD,jD,kD,lD,mD,nD,oD,sD⟩:=hR
       refine Za (Zo sD rfl ?_)
       refine EL_in (.int .i64 ((w64 (l5 + (1:Int))))) rfl rfl rfl rfl ?_
       refine Zg (.int .i64 ((w64 (l5 + (1:Int))))) rfl rfl ?_
       exact Zb (Zd (lE (i7,(w64 (l5 + (1:Int)))) _ _ ⟨rF,hfr,eD,gD,iD,jD,kD,lD,mD,nD,oD,rfl⟩ h))
    ·clear hx
     obtain ⟨tD,hfr,lB,a7,mB,i8,k8,t8,uD⟩:=hR
     refine Zf (Za (Zo uD rfl ?_))
     refine Zb (Zd ?_)
     rcases Zt h with ⟨k9,h⟩ | ⟨k9,h⟩
     ·refine E_ct k9 rfl ?_
      refine Za (Zo mB rfl ?_)
      refine Zo t8 rfl ?_
      refine Ze .plain rfl (D_buildSlice (g:=tD) 3050 (xs:=([i3]:List Int)) (vs:=[.int .i64 (i3)]) Try.underlying22 Try.sizeOf3 Try.zeroValue3 rfl rfl (.cons rfl .nil) (RVs.cons (Zj.2 rfl) RVs.nil) rfl rfl fun sF xG yG hs o790 tF hxt hfl=>?_)
      have hfr:=hfr.stp hs
      have a7:=a7.stp hs
      have i8:=i8.stp hs
      have k8:=k8.stp hs rfl
      obtain ⟨cC,sE,h⟩:=bsome h
      refine Ze .plain rfl (D_append (g:=sF) (i:=3012) Try.underlying22 info_3 rfl rfl k8 i8 rfl tF sE fun uF zG vD hs o791 vF _=>?_)
      have hfr:=hfr.stp hs
      have a7:=a7.stp hs
      refine Zg vD rfl rfl ?_
      refine Zb (blk_n ?_)
      obtain rfl:=sinj h
      exact hQ _ _ ⟨uF,(vD),hfr,lB,a7,rfl,vF,o791,t8⟩
     ·refine E_cf k9 rfl ?_
      refine Zu (blk_n ?_)
      obtain rfl:=sinj h
      exact hQ _ _ ⟨tD,(u3),hfr,lB,a7,mB,i8,k8,t8⟩
   ·clear hx
    obtain ⟨xF,xD,hfr,yD,zD,aE,bE,cE,dE⟩:=hR
    refine Za (Zo dE rfl ?_)
    refine EL_in (.int .i64 ((w64 (i3 + (1:Int))))) rfl rfl rfl rfl ?_
    refine Zg (.int .i64 ((w64 (i3 + (1:Int))))) rfl rfl ?_
    exact Zb (Zd (iE (g7,(w64 (i3 + (1:Int)))) _ _ ⟨xF,(xD),hfr,yD,zD,aE,bE,cE,rfl⟩ h))
 ·clear hx
  obtain ⟨aH,nB,hfr,eE,gE,zF⟩:=hR
  refine Zf (Za (Zo eE rfl ?_))
  refine Zg nB rfl rfl ?_
  refine Zb (Zd (E_ret ?_))
  obtain rfl:=sinj h
  exact end1 rfl rfl (show _=nB from rfl) ⟨_,hfr,gE⟩
def f57 : Nat → (BoxMill) → (List (BoxPoint × Int)) → (List (List Int)) → (BoxPoint) → Option (Int × (List (BoxPoint × Int)))
 | 0,_,_,_,_=>none
 | n + 1,x0,m0,x1,x2=>
  jn (σ:=Unit) (fun _=>
   jn (σ:=Unit) (fun _=>
    Option.bind (α:=Int × (List (BoxPoint × Int))) (
     (f80 x0 ((x2).race)).bind fun oA=>
     (oA (Int × (List (BoxPoint × Int))) (fun (k8,g8) (dB,j7)=>
      (f88 x2 x1 j7).bind fun r8=>
      bif r8.2 then
       (f57 n x0 g8 x1 (r8.1)).bind fun t8=>
       some (true,((min64 k8 (w64 ((j7).moves + t8.1))),t8.2))
      else
       some (true,(k8,g8))
      ) ((1073741824:Int),m0)).bind fun (mA,q8)=>
     some (mA,q8)
     ) fun (m7,i8)=>
    some (m7,(mset i8 x2 m7))
    ) fun mD=>
   bif ((mget m0 x2).isSome) then
    some (((mget m0 x2).getD (0:Int)),m0)
   else
    mD ()
   ) fun k9=>
  bif ((x2).group == ((x1).length : Int)) then
   some ((0:Int),m0)
  else
   k9 ()
def f58 (x0:BoxMill) (m0:List (BoxPoint × Int)) (x1:List (List Int)) (x2:BoxPoint):Option (BoxPick × BoxPoint × (List (BoxPoint × Int))):=
 jn (σ:=BoxPick × BoxPoint × (List (BoxPoint × Int))) (fun (zA,aB,v8)=>
  some (zA,aB,v8)
  ) fun vB=>
 (f80 x0 ((x2).race)).bind fun rA=>
 (rA (Nat × BoxPick × BoxPoint × (List (BoxPoint × Int))) (guardC fun (x8,bA,l8) (i8,k8)=>
  (f88 x2 x1 k8).bind fun g7=>
  Option.bind (α:=Bool × (List (BoxPoint × Int))) (
   bif g7.2 then
    (f57 big x0 l8 x1 (g7.1)).bind fun u9=>
    (f57 big x0 (u9.2) x1 x2).bind fun gA=>
    some (((w64 ((k8).moves + u9.1)) == gA.1),gA.2)
   else
    some (false,l8)
   ) fun (m8,j7)=>
  bif m8 then
   some (false,((1:Nat),(i8,g7.1,j7)))
  else
   some (true,((0:Nat),(x8,bA,j7)))
  ) (0,((⟨0,0⟩:BoxPick),(⟨0,0,⟨(⟨List.toArray [(⟨List.toArray [0,0,0,0],rfl⟩:Vector Int 4),(⟨List.toArray [0,0,0,0],rfl⟩:Vector Int 4)],rfl⟩:Vector (Vector Int 4) 2),⟨0,0⟩⟩⟩:BoxPoint),m0))).bind fun (y8,(a9,d9,m7))=>
 bif Nat.beq y8 0 then
  vB (a9,d9,m7)
 else
  some (a9,d9,m7)
def f83 (x0:BoxShuttle) (z0:BoxBoxLoom):Option (Bool):=
 (f84 z0 x0).bind fun y5=>
 some ((!y5))
theorem en83:Enters Try.prog 83:=enters_of Try.func83 (by kernel_rfl) rfl
theorem wk83 {gI:Gh} {wI:World} {x0:BoxShuttle} {z0:BoxBoxLoom} {up0:Value} (rp0:RV gI.m wI x0 up0) {pf0:Value} (qf0:PT gI.m wI z0 pf0) {r:Bool} (h:f83 x0 z0=some r):Fn Try.prog 83 #[up0,pf0] gI wI (fun _ _ v=>v=.bool (r)):=by
 unfold f83 at h
 refine fn_of_E Try.func83 rfl (Nat.le_of_ble_eq_true rfl) fun g0 hm hfr=>?_
 have qf0:PT g0.m wI z0 pf0:=hm ▸ qf0
 have rp0:RV g0.m wI x0 up0:=hm ▸ rp0
 show E _ 8 none _ _ _ _ _
 refine Zf (Za (Ze .plain rfl (D_box (g:=g0) rfl rp0 fun g1 w1 p1 hs q1=>?_)))
 have hfr:=hfr.ext hs
 have qf0:=qf0.ext hs
 refine Zg (.bool false) rfl rfl ?_
 refine Zb (Zd (Zf (Za (Ze .plain rfl (D_load (g:=g1) Try.isAgg102 Try.sizeOf102 rfl qf0 fun v2 r2=>?_)))))
 refine Ze .plain rfl (D_load (g:=g1) Try.isAgg87 Try.sizeOf87 rfl q1 fun v3 r3=>?_)
 obtain ⟨y5,hy5,h⟩:=bsome h
 refine Ze .plain rfl (Zp (g:=g1) (vs:=[v2,v3]) en84 (.cons rfl (.cons rfl .nil)) (wk84 r2 r3 hy5) fun g4 w4_ v4 hs hr=>?_)
 have hfr:=hfr.ext hs
 subst hr
 refine EL_p (.bool (!y5)) (P_not rfl) rfl ?_
 refine Zg (.bool (!y5)) rfl rfl ?_
 refine Zb (Zd (E_ret ?_))
 obtain rfl:=sinj h
 exact end1 rfl rfl (show _=.bool (!y5) from rfl) ⟨_,hfr,rfl⟩
def f108 : Nat → (List Int) → (Int) → (Int) → (Int) → Option ((List Int))
 | 0,_,_,_,_=>none
 | n + 1,x0,x1,x2,x3=>
  lp (σ:=(List Int) × Int × Int × Int × Bool × Bool) (fun k1 (l5,o0,i3,u3,i5,t5)=>
   jn (σ:=(List Int)) (fun x5=>
    jn (σ:=(List Int)) (fun y6=>
     Option.bind (α:=Int) (
      bif (!i5) then
       none
      else
       some (u3)
      ) fun a7=>
     none
     ) fun n9=>
    bif (u3 == (0 : Int)) then
     none
    else
     n9 (x5)
    ) fun k6=>
   bif (decide ((w64 (i3 - o0)) ≤ (12 : Int))) then
    (f110 l5 o0 i3).bind fun y9=>
    some (y9)
   else
    k6 (l5)
   ) big (x0,x1,x2,x3,true,true)
def f51 (x0:BoxLoom):Option (BoxBoxLoom × Int):=
 jn (σ:=BoxBoxLoom) (fun o0=>
  Option.bind (α:=(List ((Vector Int 2) × Bool))) (
   lp (σ:=(List ((Vector Int 2) × Bool)) × Int) (fun tB (n8,i3)=>
    bif (decide (i3 < (((x0).Shuttles).length : Int))) then
     Option.bind (α:=(List ((Vector Int 2) × Bool))) (
      (idx ((x0).Shuttles) i3).bind fun v6=>
      some ((mset n8 ((⟨List.toArray [(v6).Side,(v6).Box],rfl⟩:Vector Int 2)) true))
      ) fun g8=>
     tB (g8,(w64 (i3 + (1:Int))))
    else
     some (n8)
    ) big (([]:List ((Vector Int 2) × Bool)),(0:Int))
   ) fun i8=>
  jn (σ:=BoxBoxLoom) (fun vB=>
   some ((⟨x0⟩:BoxBoxLoom),(0:Int))
   ) fun yB=>
  bif (decide (((i8).length : Int) < (((x0).Shuttles).length : Int))) then
   some ((⟨x0⟩:BoxBoxLoom),(6:Int))
  else
   yB (o0)
  ) fun k54=>
 Option.bind (α:=Bool) (
  bif ((((x0).Boxes).length : Int) != (2 : Int)) then
   some (((((x0).Boxes).length:Int) != (2:Int)))
  else
   some (((((x0).At).length:Int) != (2:Int)))
  ) fun a7=>
 bif a7 then
  some ((⟨x0⟩:BoxBoxLoom),(4:Int))
 else
  (f85 ((⟨x0⟩:BoxBoxLoom))).bind fun bB=>
  bif (!bB) then
   some ((⟨x0⟩:BoxBoxLoom),(3:Int))
  else
   bif (decide ((((x0).Shuttles).length : Int) > (6 : Int))) then
    some ((⟨x0⟩:BoxBoxLoom),(5:Int))
   else
    Option.bind (α:=Bool) (
     bif ((((x0).Shuttles).length : Int) == (0 : Int)) then
      some (((((x0).Shuttles).length:Int) == (0:Int)))
     else
      (f86 ((x0).Shuttles) ((fun a0=>f83 a0 ((⟨x0⟩:BoxBoxLoom))))).bind fun zB=>
      some (zB)
     ) fun b7=>
    bif b7 then
     some ((⟨x0⟩:BoxBoxLoom),(2:Int))
    else
     k54 ((⟨⟨[],[],[]⟩⟩:BoxBoxLoom))
theorem en51:Enters Try.prog 51:=enters_of Try.func51 (by kernel_rfl) rfl
theorem wk51 {gI:Gh} {wI:World} {x0:BoxLoom} {up0:Value} (rp0:RV gI.m wI x0 up0) {r:BoxBoxLoom × Int} (h:f51 x0=some r):Fn Try.prog 51 #[up0] gI wI (fun m w v=>∃ y0 y1,v=.tuple #[y0,y1]∧RV m w (r.1) y0∧y1=.int .i64 (r.2)):=by
 unfold f51 at h
 refine fn_of_E Try.func51 rfl (Nat.le_of_ble_eq_true rfl) fun g0 hm hfr=>?_
 have rp0:RV g0.m wI x0 up0:=hm ▸ rp0
 show E _ 66 none _ _ _ _ _
 refine Zf (Za (Ze .plain rfl (D_box (g:=g0) rfl rp0 fun g1 w1 p1 hs q1=>?_)))
 have hfr:=hfr.ext hs
 refine Ze .plain rfl (D_allocOc (g:=g1) 2002 (⟨⟨[],[],[]⟩⟩:BoxBoxLoom) Try.zeroValue102 (fun m w=>⟨_,(rep_two rep_nil (rep_two rep_nil rep_nil)),rfl⟩) fun g2 w2 p2 hs b2 cb=>?_)
 have hfr:=hfr.stp hs
 have q1:=q1.stp hs
 have d7:OSF 2002 60200 0 g2 w2 3 102 ([]:List Int) p2:=cb.osf (by rfl)
 have g7:OSF 2002 60201 1 g2 w2 3 102 ([]:List Int) p2:=cb.osf (by rfl)
 have i7:OSF 2002 60202 2 g2 w2 87 102 ([]:List BoxShuttle) p2:=cb.osf (by rfl)
 clear cb
 refine Zg (.int .i64 (0)) rfl rfl ?_
 refine Zb (Zd (Zf (Za (Ze .plain rfl (D_load (g:=g2) Try.isAgg25 Try.sizeOf25 rfl q1 fun v3 r3=>?_)))))
 have r4:RV g2.m _ (⟨x0⟩:BoxBoxLoom) (.agg (setCh [[.slice none 0 0,.slice none 0 0,.slice none 0 0]] [(0,v3)]).flatten.toArray):=RV_build rfl (rep_last (RV.cells r3))
 generalize cF:(Value.agg (setCh [[.slice none 0 0,.slice none 0 0,.slice none 0 0]] [(0,v3)]).flatten.toArray)=v4 at r4
 refine EL_p v4 (cF ▸ P_build (vs:=[(0,v3)]) [[.slice none 0 0,.slice none 0 0,.slice none 0 0]] lay_102 rfl rfl (.cons rfl .nil) ⟨⟨_,rfl,cells_size r3⟩,trivial⟩) rfl ?_
 refine Ze .plain rfl (D_allocOc (g:=g2) 2004 (⟨⟨[],[],[]⟩⟩:BoxBoxLoom) Try.zeroValue102 (fun m w=>⟨_,(rep_two rep_nil (rep_two rep_nil rep_nil)),rfl⟩) fun g5 w5 p5 hs b5 cb=>?_)
 have hfr:=hfr.stp hs
 have q1:=q1.stp hs
 have d7:=d7.stp hs rfl
 have g7:=g7.stp hs rfl
 have i7:=i7.stp hs rfl
 have b2:=b2.stp hs rfl
 have r4:=r4.stp hs
 have lG:OSF 2004 60400 0 g5 w5 3 102 ([]:List Int) p5:=cb.osf (by rfl)
 have mG:OSF 2004 60401 1 g5 w5 3 102 ([]:List Int) p5:=cb.osf (by rfl)
 have nG:OSF 2004 60402 2 g5 w5 87 102 ([]:List BoxShuttle) p5:=cb.osf (by rfl)
 clear cb
 refine Ze .plain rfl (D_storeOc (g:=g5) (v:=v4) Try.sizeOf102 rfl b5 rfl r4 fun g6 w6 hs b6 cb=>?_)
 clear cb
 have hfr:=hfr.stp hs
 have q1:=q1.stp hs
 have d7:=d7.stp hs rfl
 have g7:=g7.stp hs rfl
 have i7:=i7.stp hs rfl
 have b2:=b2.stp hs rfl
 obtain ⟨gp6,hs,qp6⟩:=OB.pub b6
 have hfr:=hfr.stp hs
 have q1:=q1.stp hs
 have d7:=d7.stp hs rfl
 have g7:=g7.stp hs rfl
 have i7:=i7.stp hs rfl
 have b2:=b2.stp hs rfl
 refine Zb (Zd (Zf (Za (EL_p ((.func (.func 83) #[] #[p5])) (P_makeFunc (capf_0_1 (show ev _ _=p5 from rfl))) rfl ?_))))
 refine Zg ((.func (.func 83) #[] #[p5])) rfl rfl ?_
 refine Zb (Zd (Zq h (fun (s:BoxBoxLoom) e w=>∃ (g:Gh) ,Fr gI wI g w∧e 1=p1∧PT g.m w (x0:BoxLoom) p1∧e 2=p2∧OB 2002 g w 102 (s:BoxBoxLoom) p2∧OSF 2002 60200 0 g w 3 102 (((s).BoxLoom).Boxes) p2∧OSF 2002 60201 1 g w 3 102 (((s).BoxLoom).At) p2∧OSF 2002 60202 2 g w 87 102 (((s).BoxLoom).Shuttles) p2∧e 4=p5∧PT g.m w ((⟨x0⟩:BoxBoxLoom):BoxBoxLoom) p5) (fun X54 k54 vD h=>?_) ?_))
 ·refine Zr ?_
  obtain ⟨a7,hx,h⟩:=bsome h
  refine E_join (fun e w=>∃ (g:Gh) ,Fr gI wI g w∧e 1=p1∧PT g.m w (x0:BoxLoom) p1∧e 2=p2∧OB 2002 g w 102 ((⟨⟨[],[],[]⟩⟩:BoxBoxLoom):BoxBoxLoom) p2∧OSF 2002 60200 0 g w 3 102 ((((⟨⟨[],[],[]⟩⟩:BoxBoxLoom)).BoxLoom).Boxes) p2∧OSF 2002 60201 1 g w 3 102 ((((⟨⟨[],[],[]⟩⟩:BoxBoxLoom)).BoxLoom).At) p2∧OSF 2002 60202 2 g w 87 102 ((((⟨⟨[],[],[]⟩⟩:BoxBoxLoom)).BoxLoom).Shuttles) p2∧e 4=p5∧PT g.m w ((⟨x0⟩:BoxBoxLoom):BoxBoxLoom) p5∧e 5=(.func (.func 83) #[] #[p5])∧e 12=.bool (a7)) (fun Q' hQ=>?_) (fun oG nH hR=>?_)
  ·replace h := hx
   clear hx
   refine Zf (Za (EL_p (fPtr p1 0) (Zc at_25_0 rfl (PT.ptr q1)) rfl ?_))
   have dF:=Zm (part_BoxLoom_0).1 q1
   refine Ze .plain rfl (D_load (g:=gp6) Try.isAgg22 Try.sizeOf22 rfl dF fun oH eF=>?_)
   refine EL_p (.int .i64 (((x0).Boxes).length:Int)) (P_len Try.underlying22 rfl eF) rfl ?_
   refine EL_in (.bool (((((x0).Boxes).length:Int) != (2:Int)))) rfl rfl rfl rfl ?_
   refine Zg (.bool (((((x0).Boxes).length:Int) != (2:Int)))) rfl rfl ?_
   refine Zb (Zd ?_)
   rcases Zt h with ⟨pA,h⟩ | ⟨pA,h⟩
   ·refine E_ct pA rfl ?_
    refine Zu ?_
    obtain rfl:=sinj h
    exact hQ _ _ ⟨gp6,hfr,rfl,q1,rfl,b2,d7,g7,i7,rfl,qp6,rfl,rfl⟩
   ·refine E_cf pA rfl ?_
    refine Za (EL_p (fPtr p1 1) (Zc at_25_1 rfl (PT.ptr q1)) rfl ?_)
    have iF:=Zm (part_BoxLoom_1).1 q1
    refine Ze .plain rfl (D_load (g:=gp6) Try.isAgg22 Try.sizeOf22 rfl iF fun pH nF=>?_)
    refine EL_p (.int .i64 (((x0).At).length:Int)) (P_len Try.underlying22 rfl nF) rfl ?_
    refine EL_in (.bool (((((x0).At).length:Int) != (2:Int)))) rfl rfl rfl rfl ?_
    refine Zg (.bool (((((x0).At).length:Int) != (2:Int)))) rfl rfl ?_
    refine Zb ?_
    obtain rfl:=sinj h
    exact hQ _ _ ⟨gp6,hfr,rfl,q1,rfl,b2,d7,g7,i7,rfl,qp6,rfl,rfl⟩
  ·clear hx
   obtain ⟨cB,hfr,k8,i5,x6,j6,u2_0_66,u2_1_66,u2_2_66,m7,l5,jD,n9⟩:=hR
   rcases Zt h with ⟨qA,h⟩ | ⟨qA,h⟩
   ·refine E_cond_true (Eq.trans (show ev _ _ = .bool (a7) from n9) (congrArg Value.bool qA)) ?_
    refine Zf (Za (Ze .plain rfl (D_load (g:=cB) Try.isAgg102 Try.sizeOf102 m7 l5 fun oF pF=>?_)))
    refine Ze .plain rfl (D_storeOc (g:=cB) (v:=oF) Try.sizeOf102 x6 j6 rfl pF fun qH sH hs b69 cb=>?_)
    clear cb
    have hfr:=hfr.stp hs
    refine Zg (.int .i64 (4)) rfl rfl ?_
    refine Zb (Zd (E_ret (blk_r ?_)))
    refine thn_r ?_
    obtain rfl:=sinj h
    obtain ⟨ad70,cv70,hp70,xD,cr70⟩:=ob_read Try.isAgg102 Try.sizeOf102 b69
    exact endm_ct rfl rfl ((show _=p2 from x6).trans hp70) xD (show _=.int .i64 (4) from rfl) ⟨_,hfr,_,_,rfl,cr70,rfl⟩
   ·refine E_cond_false (Eq.trans (show ev _ _ = .bool (a7) from n9) (congrArg Value.bool qA)) ?_
    refine Zf (Za (Ze .plain rfl (D_load (g:=cB) Try.isAgg102 Try.sizeOf102 m7 l5 fun qF rF=>?_)))
    obtain ⟨bB,yD,h⟩:=bsome h
    refine Ze .plain rfl (Zp (g:=cB) (vs:=[qF]) en85 (.cons rfl .nil) (wk85 rF yD) fun l8 pG tH hs hr=>?_)
    have hfr:=hfr.ext hs
    have i5:=i5.ext hs
    have u2_0_66:=u2_0_66.ext hs
    have u2_1_66:=u2_1_66.ext hs
    have u2_2_66:=u2_2_66.ext hs
    have j6:=j6.ext hs
    have l5:=l5.ext hs
    subst hr
    refine EL_p (.bool (!bB)) (P_not rfl) rfl ?_
    refine Zg (.bool (!bB)) rfl rfl ?_
    refine Zb (Zd ?_)
    rcases Zt h with ⟨rA,h⟩ | ⟨rA,h⟩
    ·refine E_ct rA rfl ?_
     refine Zf (Za (Ze .plain rfl (D_load (g:=l8) Try.isAgg102 Try.sizeOf102 m7 l5 fun sF tF=>?_)))
     refine Ze .plain rfl (D_storeOc (g:=l8) (v:=sF) Try.sizeOf102 x6 j6 rfl tF fun uH vH hs b76 cb=>?_)
     clear cb
     have hfr:=hfr.stp hs
     refine Zg (.int .i64 (3)) rfl rfl ?_
     refine Zb (Zd (E_ret (blk_r ?_)))
     refine thn_r ?_
     obtain rfl:=sinj h
     obtain ⟨ad77,cv77,hp77,zD,cr77⟩:=ob_read Try.isAgg102 Try.sizeOf102 b76
     exact endm_ct rfl rfl ((show _=p2 from x6).trans hp77) zD (show _=.int .i64 (3) from rfl) ⟨_,hfr,_,_,rfl,cr77,rfl⟩
    ·refine E_cf rA rfl ?_
     refine Zf (Za (EL_p (fPtr p1 2) (Zc at_25_2 k8 (PT.ptr i5)) rfl ?_))
     have uF:=Zm (part_BoxLoom_2).1 i5
     refine Ze .plain rfl (D_load (g:=l8) Try.isAgg23 Try.sizeOf23 rfl uF fun xH vF=>?_)
     refine EL_p (.int .i64 (((x0).Shuttles).length:Int)) (P_len Try.underlying23 rfl vF) rfl ?_
     refine EL_p (.bool ((decide ((((x0).Shuttles).length:Int) > (6:Int))))) (P_int rfl rfl rfl) rfl ?_
     refine EL_p (.bool ((decide ((((x0).Shuttles).length:Int) > (6:Int))))) (P_assign rfl) rfl ?_
     refine Zb (Zd ?_)
     rcases Zt h with ⟨uA,h⟩ | ⟨uA,h⟩
     ·refine E_ct uA rfl ?_
      refine Zf (Za (Ze .plain rfl (D_load (g:=l8) Try.isAgg102 Try.sizeOf102 m7 l5 fun xF yF=>?_)))
      refine Ze .plain rfl (D_storeOc (g:=l8) (v:=xF) Try.sizeOf102 x6 j6 rfl yF fun yH zH hs b82 cb=>?_)
      clear cb
      have hfr:=hfr.stp hs
      refine Zg (.int .i64 (5)) rfl rfl ?_
      refine Zb (Zd (E_ret (blk_r ?_)))
      refine thn_r ?_
      obtain rfl:=sinj h
      obtain ⟨ad83,cv83,hp83,aE,cr83⟩:=ob_read Try.isAgg102 Try.sizeOf102 b82
      exact endm_ct rfl rfl ((show _=p2 from x6).trans hp83) aE (show _=.int .i64 (5) from rfl) ⟨_,hfr,_,_,rfl,cr83,rfl⟩
     ·refine E_cf uA rfl ?_
      obtain ⟨b7,hx,h⟩:=bsome h
      refine E_join (fun e w=>∃ (g:Gh) ,Fr gI wI g w∧e 1=p1∧PT g.m w (x0:BoxLoom) p1∧e 2=p2∧OB 2002 g w 102 ((⟨⟨[],[],[]⟩⟩:BoxBoxLoom):BoxBoxLoom) p2∧OSF 2002 60200 0 g w 3 102 ((((⟨⟨[],[],[]⟩⟩:BoxBoxLoom)).BoxLoom).Boxes) p2∧OSF 2002 60201 1 g w 3 102 ((((⟨⟨[],[],[]⟩⟩:BoxBoxLoom)).BoxLoom).At) p2∧OSF 2002 60202 2 g w 87 102 ((((⟨⟨[],[],[]⟩⟩:BoxBoxLoom)).BoxLoom).Shuttles) p2∧e 4=p5∧PT g.m w ((⟨x0⟩:BoxBoxLoom):BoxBoxLoom) p5∧e 33=.bool (b7)) (fun Q' hQ=>?_) (fun qG aI hR=>?_)
      ·replace h := hx
       clear hx
       refine Zf (Za (EL_p (fPtr p1 2) (Zc at_25_2 k8 (PT.ptr i5)) rfl ?_))
       have zF:=Zm (part_BoxLoom_2).1 i5
       refine Ze .plain rfl (D_load (g:=l8) Try.isAgg23 Try.sizeOf23 rfl zF fun bI aG=>?_)
       refine EL_p (.int .i64 (((x0).Shuttles).length:Int)) (P_len Try.underlying23 rfl aG) rfl ?_
       refine EL_in (.bool (((((x0).Shuttles).length:Int) == (0:Int)))) rfl rfl rfl rfl ?_
       refine Zg (.bool (((((x0).Shuttles).length:Int) == (0:Int)))) rfl rfl ?_
       refine Zb (Zd ?_)
       rcases Zt h with ⟨xA,h⟩ | ⟨xA,h⟩
       ·refine E_ct xA rfl ?_
        refine Zu ?_
        obtain rfl:=sinj h
        exact hQ _ _ ⟨l8,hfr,k8,i5,x6,j6,u2_0_66,u2_1_66,u2_2_66,m7,l5,rfl⟩
       ·refine E_cf xA rfl ?_
        refine Za (EL_p (fPtr p1 2) (Zc at_25_2 k8 (PT.ptr i5)) rfl ?_)
        have bG:=Zm (part_BoxLoom_2).1 i5
        refine Ze .plain rfl (D_load (g:=l8) Try.isAgg23 Try.sizeOf23 rfl bG fun cG dG=>?_)
        refine Zo jD rfl ?_
        obtain ⟨zB,bE,h⟩:=bsome h
        refine Ze .plain rfl (Zp (g:=l8) (vs:=[cG,(.func (.func 83) #[] #[p5])]) en86 (.cons rfl (.cons rfl .nil)) (wk86 dG ⟨83,#[],#[p5],rfl,en83,fun g' w' hch a0 b0 r hu0 hr=>by exact Fn.mono (wk83 hu0 (l5.ch hch) hr) fun _ _ _ h=>RV_bool.2 h⟩ bE) fun eG rG cI hs hr=>?_)
        have hfr:=hfr.ext hs
        have i5:=i5.ext hs
        have u2_0_66:=u2_0_66.ext hs
        have u2_1_66:=u2_1_66.ext hs
        have u2_2_66:=u2_2_66.ext hs
        have j6:=j6.ext hs
        have l5:=l5.ext hs
        subst hr
        refine Zg (.bool (zB)) rfl rfl ?_
        refine Zb ?_
        obtain rfl:=sinj h
        exact hQ _ _ ⟨eG,hfr,k8,i5,x6,j6,u2_0_66,u2_1_66,u2_2_66,m7,l5,rfl⟩
      ·clear hx
       obtain ⟨aC,hfr,kD,lD,d9,dB,u2_0_98,u2_1_98,u2_2_98,eB,iB,u9⟩:=hR
       rcases Zt h with ⟨yA,h⟩ | ⟨yA,h⟩
       ·refine E_cond_true (Eq.trans (show ev _ _ = .bool (b7) from u9) (congrArg Value.bool yA)) ?_
        refine Zf (Za (Ze .plain rfl (D_load (g:=aC) Try.isAgg102 Try.sizeOf102 eB iB fun cE dE=>?_)))
        refine Ze .plain rfl (D_storeOc (g:=aC) (v:=cE) Try.sizeOf102 d9 dB rfl dE fun sG tG hs b101 cb=>?_)
        clear cb
        have hfr:=hfr.stp hs
        refine Zg (.int .i64 (2)) rfl rfl ?_
        refine Zb (Zd (E_ret (blk_r ?_)))
        refine thn_r ?_
        obtain rfl:=sinj h
        obtain ⟨ad102,cv102,hp102,mD,cr102⟩:=ob_read Try.isAgg102 Try.sizeOf102 b101
        exact endm_ct rfl rfl ((show _=p2 from d9).trans hp102) mD (show _=.int .i64 (2) from rfl) ⟨_,hfr,_,_,rfl,cr102,rfl⟩
       ·refine E_cond_false (Eq.trans (show ev _ _ = .bool (b7) from u9) (congrArg Value.bool yA)) ?_
        exact Zu (blk_n (Zd (vD ((⟨⟨[],[],[]⟩⟩:BoxBoxLoom)) _ _ ⟨aC,hfr,kD,lD,d9,dB,u2_0_98,u2_1_98,u2_2_98,eB,iB⟩ h)))
 ·rintro o0 gG uG ⟨eE, hfr, y9, j7, cC, o8, u2_0_103, u2_1_103, u2_2_103, dC, q8⟩ h
  refine Zf (Za (Ze .plain rfl (D_makeMap (g:=eE) (encK pl_138) Bool 8043 fun eC vG v7 hs m104=>?_)))
  have hfr:=hfr.stp hs
  have j7:=j7.stp hs
  have u2_0_103:=u2_0_103.stp hs rfl
  have u2_1_103:=u2_1_103.stp hs rfl
  have u2_2_103:=u2_2_103.stp hs rfl
  have o8:=o8.stp hs rfl
  have q8:=q8.stp hs
  refine Zg v7 rfl rfl ?_
  refine Zb (Zd ?_)
  obtain ⟨i8,hx,h⟩:=bsome h
  refine E_join (fun e w=>∃ (g:Gh) ,Fr gI wI g w∧e 1=p1∧PT g.m w (x0:BoxLoom) p1∧e 2=p2∧OB 2002 g w 102 (o0:BoxBoxLoom) p2∧OSF 2002 60200 0 g w 3 102 (((o0).BoxLoom).Boxes) p2∧OSF 2002 60201 1 g w 3 102 (((o0).BoxLoom).At) p2∧OSF 2002 60202 2 g w 87 102 (((o0).BoxLoom).Shuttles) p2∧e 4=p5∧PT g.m w ((⟨x0⟩:BoxBoxLoom):BoxBoxLoom) p5∧e 6=v7∧MP (encK pl_138) 8043 g w (i8:List ((Vector Int 2) × Bool)) v7) (fun Q' hQ=>?_) (fun hG xG hR=>?_)
  ·replace h := hx
   clear hx
   refine Zf (Za (EL_p (fPtr p1 2) (Zc at_25_2 y9 (PT.ptr j7)) rfl ?_))
   have gE:=Zm (part_BoxLoom_2).1 j7
   refine Ze .plain rfl (D_load (g:=eC) Try.isAgg23 Try.sizeOf23 rfl gE fun r8 iC=>?_)
   refine EL_p (.int .i64 (((x0).Shuttles).length:Int)) (P_len Try.underlying23 rfl iC) rfl ?_
   refine Zn (.int .i64 (0)) rfl rfl ?_
   refine Zb (Zd (Zr ?_))
   refine E_lp h (fun (s:(List ((Vector Int 2) × Bool)) × Int) e w=>∃ (g:Gh) ,Fr gI wI g w∧e 1=p1∧PT g.m w (x0:BoxLoom) p1∧e 2=p2∧OB 2002 g w 102 (o0:BoxBoxLoom) p2∧OSF 2002 60200 0 g w 3 102 (((o0).BoxLoom).Boxes) p2∧OSF 2002 60201 1 g w 3 102 (((o0).BoxLoom).At) p2∧OSF 2002 60202 2 g w 87 102 (((o0).BoxLoom).Shuttles) p2∧e 4=p5∧PT g.m w ((⟨x0⟩:BoxBoxLoom):BoxBoxLoom) p5∧e 6=v7∧MP (encK pl_138) 8043 g w (s.1:List ((Vector Int 2) × Bool)) v7∧e 45=r8∧RV g.m w ((x0).Shuttles:List BoxShuttle) r8∧e 46=.int .i64 ((((x0).Shuttles).length:Int))∧e 47=.int .i64 (s.2)) ⟨eC,hfr,y9,j7,cC,o8,u2_0_103,u2_1_103,u2_2_103,dC,q8,rfl,m104,rfl,iC,rfl,rfl⟩ (fun X135 tB nD=>?_)
   rintro ⟨n8,i3⟩ iG yG ⟨zA,hfr,z9,t5,bA,x5,u2_0_136,u2_1_136,u2_2_136,gA,i6,t8,y6,y8,u3,a9,m8⟩ h
   refine Zf (Za (EL_p (.bool ((decide (i3 < (((x0).Shuttles).length:Int))))) (P_int m8 a9 rfl) rfl ?_))
   refine Zb (Zd (Zf ?_))
   rcases Zt h with ⟨i9,h⟩ | ⟨i9,h⟩
   ·refine E_ct i9 rfl ?_
    refine Zu (Zd ?_)
    obtain ⟨g8,hx,h⟩:=bsome h
    refine E_join (fun e w=>∃ (g:Gh) ,Fr gI wI g w∧e 1=p1∧PT g.m w (x0:BoxLoom) p1∧e 2=p2∧OB 2002 g w 102 (o0:BoxBoxLoom) p2∧OSF 2002 60200 0 g w 3 102 (((o0).BoxLoom).Boxes) p2∧OSF 2002 60201 1 g w 3 102 (((o0).BoxLoom).At) p2∧OSF 2002 60202 2 g w 87 102 (((o0).BoxLoom).Shuttles) p2∧e 4=p5∧PT g.m w ((⟨x0⟩:BoxBoxLoom):BoxBoxLoom) p5∧e 6=v7∧MP (encK pl_138) 8043 g w (g8:List ((Vector Int 2) × Bool)) v7∧e 45=r8∧RV g.m w ((x0).Shuttles:List BoxShuttle) r8∧e 46=.int .i64 ((((x0).Shuttles).length:Int))∧e 47=.int .i64 (i3)) (fun Q' hQ=>?_) (fun jG zG hR=>?_)
    ·replace h := hx
     clear hx
     refine Zr ?_
     refine Zf (Za ?_)
     obtain ⟨v6,jB,h⟩:=bsome h
     refine EL_p (ePtr r8 i3 5) (Zh (α:=BoxShuttle) Try.underlying23 Try.sizeOf87 y8 u3 m8 jB) rfl ?_
     have iE:=PT_idx u3 jB
     refine Ze .plain rfl (D_load (g:=zA) Try.isAgg87 Try.sizeOf87 rfl iE fun jE aB=>?_)
     refine Ze .plain rfl (D_allocOc (g:=zA) 2008 (⟨0,0,0,⟨0,0⟩⟩:BoxShuttle) Try.zeroValue87 (fun m w=>⟨_,(rep_two rep_int (rep_two rep_int (rep_two rep_int (rep_two rep_int rep_int)))),rfl⟩) fun kE aH jC hs b152 cb=>?_)
     have hfr:=hfr.stp hs
     have t5:=t5.stp hs
     have u2_0_136:=u2_0_136.stp hs rfl
     have u2_1_136:=u2_1_136.stp hs rfl
     have u2_2_136:=u2_2_136.stp hs rfl
     have x5:=x5.stp hs rfl
     have i6:=i6.stp hs
     have y6:=y6.stp hs rfl
     have u3:=u3.stp hs
     have aB:=aB.stp hs
     clear cb
     refine Ze .plain rfl (D_storeOc (g:=kE) (v:=jE) Try.sizeOf87 rfl b152 rfl aB fun k9 lE hs b153 cb=>?_)
     clear cb
     have hfr:=hfr.stp hs
     have t5:=t5.stp hs
     have u2_0_136:=u2_0_136.stp hs rfl
     have u2_1_136:=u2_1_136.stp hs rfl
     have u2_2_136:=u2_2_136.stp hs rfl
     have x5:=x5.stp hs rfl
     have i6:=i6.stp hs
     have y6:=y6.stp hs rfl
     have u3:=u3.stp hs
     refine Zb (Zd (Za (Zo t8 rfl ?_)))
     refine EL_p (fPtr jC 1) (Zc at_87_1 rfl (OB.ptr b153)) rfl ?_
     refine Ze .plain rfl (D_loadF (g:=k9) part_BoxShuttle_1.1 Try.isAgg3 Try.sizeOf3 rfl b153 fun bH mE=>?_)
     obtain rfl:=Zj.1 mE
     refine EL_p (fPtr jC 2) (Zc at_87_2 rfl (OB.ptr b153)) rfl ?_
     refine Ze .plain rfl (D_loadF (g:=k9) part_BoxShuttle_2.1 Try.isAgg3 Try.sizeOf3 rfl b153 fun cH nE=>?_)
     obtain rfl:=Zj.1 nE
     have kC:RV k9.m lE (⟨List.toArray [(v6).Side,(v6).Box],rfl⟩:Vector Int 2) (.agg (setCh [[.int .i64 0],[.int .i64 0]] [(0,.int .i64 ((v6).Side)),(1,.int .i64 ((v6).Box))]).flatten.toArray):=RV_build rfl (rep_vec (flat_chunk rfl (flat_chunk rfl flat_nil)) rfl)
     generalize oD:(Value.agg (setCh [[.int .i64 0],[.int .i64 0]] [(0,.int .i64 ((v6).Side)),(1,.int .i64 ((v6).Box))]).flatten.toArray)=oE at kC
     refine EL_p oE (oD ▸ P_buildA (vs:=[(0,.int .i64 ((v6).Side)),(1,.int .i64 ((v6).Box))]) [[.int .i64 0],[.int .i64 0]] Try.underlying138 layA_138 szA_3 rfl (by simp) (.cons rfl (.cons rfl .nil)) ⟨⟨_,rfl,rfl⟩,⟨⟨_,rfl,rfl⟩,trivial⟩⟩) rfl ?_
     refine Ze .plain rfl (D_mapUpdate (g:=k9) Try.underlying151 key_138 rfl y6 (rfl.trans (encK_of pl_138 kC)) rfl (RV_bool.2 rfl) fun rE dH hs m159=>?_)
     have hfr:=hfr.stp hs
     have t5:=t5.stp hs
     have u2_0_136:=u2_0_136.stp hs rfl
     have u2_1_136:=u2_1_136.stp hs rfl
     have u2_2_136:=u2_2_136.stp hs rfl
     have x5:=x5.stp hs rfl
     have i6:=i6.stp hs
     have u3:=u3.stp hs
     refine Zb (blk_n ?_)
     obtain rfl:=sinj h
     exact hQ _ _ ⟨rE,hfr,z9,t5,bA,x5,u2_0_136,u2_1_136,u2_2_136,gA,i6,t8,m159,y8,u3,a9,m8⟩
    ·clear hx
     obtain ⟨sE,hfr,lC,mC,qC,rC,u2_0_160,u2_1_160,u2_2_160,tC,uC,vC,xC,lB,mB,nB,oB⟩:=hR
     refine Za (EL_in (.int .i64 ((w64 (i3 + (1:Int))))) oB rfl rfl rfl ?_)
     refine Zn (.int .i64 ((w64 (i3 + (1:Int))))) rfl rfl ?_
     exact Zb (Zd (nD (g8,(w64 (i3 + (1:Int)))) _ _ ⟨sE,hfr,lC,mC,qC,rC,u2_0_160,u2_1_160,u2_2_160,tC,uC,vC,xC,lB,mB,nB,rfl⟩ h))
   ·refine E_cf i9 rfl ?_
    refine E_exit ?_
    refine thn_e ?_
    refine thn_e ?_
    refine blk_hit ?_
    obtain rfl:=sinj h
    exact hQ _ _ ⟨zA,hfr,z9,t5,bA,x5,u2_0_136,u2_1_136,u2_2_136,gA,i6,t8,y6⟩
  ·clear hx
   obtain ⟨v8,hfr,yC,iA,x8,jA,u2_0_161,u2_1_161,u2_2_161,mA,nA,aD,bD⟩:=hR
   refine Zq h (fun (s:BoxBoxLoom) e w=>∃ (g:Gh) ,Fr gI wI g w∧e 2=p2∧OB 2002 g w 102 (s:BoxBoxLoom) p2∧OSF 2002 60200 0 g w 3 102 (((s).BoxLoom).Boxes) p2∧OSF 2002 60201 1 g w 3 102 (((s).BoxLoom).At) p2∧OSF 2002 60202 2 g w 87 102 (((s).BoxLoom).Shuttles) p2∧e 4=p5∧PT g.m w ((⟨x0⟩:BoxBoxLoom):BoxBoxLoom) p5) (fun X168 yB sD h=>?_) ?_
   ·refine Zf (Za (Zo aD rfl ?_))
    refine Ze .plain rfl (P_lenMap (g:=v8) Try.underlying151 rfl bD ?_)
    refine EL_p (fPtr p1 2) (Zc at_25_2 yC (PT.ptr iA)) rfl ?_
    have tE:=Zm (part_BoxLoom_2).1 iA
    refine Ze .plain rfl (D_load (g:=v8) Try.isAgg23 Try.sizeOf23 rfl tE fun gH uE=>?_)
    refine EL_p (.int .i64 (((x0).Shuttles).length:Int)) (P_len Try.underlying23 rfl uE) rfl ?_
    refine EL_p (.bool ((decide (((i8).length:Int) < (((x0).Shuttles).length:Int))))) (P_int rfl rfl rfl) rfl ?_
    refine Zb (Zd ?_)
    rcases Zt h with ⟨l9,h⟩ | ⟨l9,h⟩
    ·refine E_ct l9 rfl ?_
     refine Zf (Za (Ze .plain rfl (D_load (g:=v8) Try.isAgg102 Try.sizeOf102 mA nA fun vE xE=>?_)))
     refine Ze .plain rfl (D_storeOc (g:=v8) (v:=vE) Try.sizeOf102 x8 jA rfl xE fun iH jH hs b173 cb=>?_)
     clear cb
     have hfr:=hfr.stp hs
     refine Zg (.int .i64 (6)) rfl rfl ?_
     refine Zb (Zd (E_ret (thn_r ?_)))
     obtain rfl:=sinj h
     obtain ⟨ad174,cv174,hp174,tD,cr174⟩:=ob_read Try.isAgg102 Try.sizeOf102 b173
     exact endm_ct rfl rfl ((show _=p2 from x8).trans hp174) tD (show _=.int .i64 (6) from rfl) ⟨_,hfr,_,_,rfl,cr174,rfl⟩
    ·refine E_cf l9 rfl ?_
     exact Zu (Zd (sD (o0) _ _ ⟨v8,hfr,x8,jA,u2_0_161,u2_1_161,u2_2_161,mA,nA⟩ h))
   ·rintro vB kG kH ⟨cD, hfr, oA, eD, u2_0_175, u2_1_175, u2_2_175, gD, iD⟩ h
    refine Zf (Za (Ze .plain rfl (D_load (g:=cD) Try.isAgg102 Try.sizeOf102 gD iD fun yE zE=>?_)))
    refine Ze .plain rfl (D_storeOc (g:=cD) (v:=yE) Try.sizeOf102 oA eD rfl zE fun lH mH hs b177 cb=>?_)
    clear cb
    have hfr:=hfr.stp hs
    refine Zg (.int .i64 (0)) rfl rfl ?_
    refine Zb (Zd (E_ret ?_))
    obtain rfl:=sinj h
    obtain ⟨ad178,cv178,hp178,uD,cr178⟩:=ob_read Try.isAgg102 Try.sizeOf102 b177
    exact endm_ct rfl rfl ((show _=p2 from oA).trans hp178) uD (show _=.int .i64 (0) from rfl) ⟨_,hfr,_,_,rfl,cr178,rfl⟩
def f74 (x0:BoxLoom) (x1:List BoxPick):Option (BoxBoxLoom × Int):=
 (f51 x0).bind fun y5=>
 jn (σ:=BoxBoxLoom) (fun y6=>
  some (y5.1,(0:Int))
  ) fun j7=>
 bif (y5.2 != (0 : Int)) then
  some (y5.1,y5.2)
 else
  bif (decide (((x1).length : Int) > (24 : Int))) then
   some (y5.1,(5:Int))
  else
   (f96 x1 ((fun a0=>f95 a0 (y5.1)))).bind fun v6=>
   bif v6 then
    some (y5.1,(2:Int))
   else
    j7 ((⟨⟨[],[],[]⟩⟩:BoxBoxLoom))
theorem en74:Enters Try.prog 74:=enters_of Try.func74 (by kernel_rfl) rfl
theorem wk74 {gI:Gh} {wI:World} {x0:BoxLoom} {x1:List BoxPick} {up0:Value} (rp0:RV gI.m wI x0 up0) {up1:Value} (rp1:RV gI.m wI x1 up1) {r:BoxBoxLoom × Int} (h:f74 x0 x1=some r):Fn Try.prog 74 #[up0,up1] gI wI (fun m w v=>∃ y0 y1,v=.tuple #[y0,y1]∧RV m w (r.1) y0∧y1=.int .i64 (r.2)):=by
 unfold f74 at h
 refine fn_of_E Try.func74 rfl (Nat.le_of_ble_eq_true rfl) fun g0 hm hfr=>?_
 have rp0:RV g0.m wI x0 up0:=hm ▸ rp0
 have rp1:RV g0.m wI x1 up1:=hm ▸ rp1
 show E _ 31 none _ _ _ _ _
 refine Zf (Za (Ze .plain rfl (D_box (g:=g0) rfl rp0 fun g1 w1 p1 hs q1=>?_)))
 have hfr:=hfr.ext hs
 have rp1:=rp1.ext hs
 refine Ze .plain rfl (D_allocOc (g:=g1) 2004 (⟨⟨[],[],[]⟩⟩:BoxBoxLoom) Try.zeroValue102 (fun m w=>⟨_,(rep_two rep_nil (rep_two rep_nil rep_nil)),rfl⟩) fun g2 w2 p2 hs b2 cb=>?_)
 have hfr:=hfr.stp hs
 have rp1:=rp1.stp hs
 have q1:=q1.stp hs
 have o0:OSF 2004 60400 0 g2 w2 3 102 ([]:List Int) p2:=cb.osf (by rfl)
 have i3:OSF 2004 60401 1 g2 w2 3 102 ([]:List Int) p2:=cb.osf (by rfl)
 have u3:OSF 2004 60402 2 g2 w2 87 102 ([]:List BoxShuttle) p2:=cb.osf (by rfl)
 clear cb
 refine Zg (.int .i64 (0)) rfl rfl ?_
 refine Zb (Zd (Zf (Za (Ze .plain rfl (D_load (g:=g2) Try.isAgg25 Try.sizeOf25 rfl q1 fun v3 r3=>?_)))))
 obtain ⟨y5,hy5,h⟩:=bsome h
 refine Ze .plain rfl (Zp (g:=g2) (vs:=[v3]) en51 (.cons rfl .nil) (wk51 r3 hy5) fun g4 w4_ v4 hs hr=>?_)
 have hfr:=hfr.ext hs
 have rp1:=rp1.ext hs
 have o0:=o0.ext hs
 have i3:=i3.ext hs
 have u3:=u3.ext hs
 have b2:=b2.ext hs
 obtain ⟨i5,a9,rfl,l5,rfl⟩:=hr
 refine Zn (.tuple #[i5,.int .i64 (y5.2)]) rfl rfl ?_
 refine EL_p i5 (Zi rfl rfl) rfl ?_
 refine EL_p (.int .i64 (y5.2)) (Zi rfl rfl) rfl ?_
 refine Ze .plain rfl (D_allocOc (g:=g4) 2006 (⟨⟨[],[],[]⟩⟩:BoxBoxLoom) Try.zeroValue102 (fun m w=>⟨_,(rep_two rep_nil (rep_two rep_nil rep_nil)),rfl⟩) fun g6 w6 p6 hs b6 cb=>?_)
 have hfr:=hfr.stp hs
 have rp1:=rp1.stp hs
 have o0:=o0.stp hs rfl
 have i3:=i3.stp hs rfl
 have u3:=u3.stp hs rfl
 have b2:=b2.stp hs rfl
 have l5:=l5.stp hs
 have d9:OSF 2006 60600 0 g6 w6 3 102 ([]:List Int) p6:=cb.osf (by rfl)
 have i9:OSF 2006 60601 1 g6 w6 3 102 ([]:List Int) p6:=cb.osf (by rfl)
 have k9:OSF 2006 60602 2 g6 w6 87 102 ([]:List BoxShuttle) p6:=cb.osf (by rfl)
 clear cb
 refine Ze .plain rfl (D_storeOc (g:=g6) (v:=i5) Try.sizeOf102 rfl b6 rfl l5 fun g7 w7 hs b7 cb=>?_)
 clear cb
 have hfr:=hfr.stp hs
 have rp1:=rp1.stp hs
 have o0:=o0.stp hs rfl
 have i3:=i3.stp hs rfl
 have u3:=u3.stp hs rfl
 have b2:=b2.stp hs rfl
 obtain ⟨gp7,hs,qp7⟩:=OB.pub b7
 have hfr:=hfr.stp hs
 have rp1:=rp1.stp hs
 have o0:=o0.stp hs rfl
 have i3:=i3.stp hs rfl
 have u3:=u3.stp hs rfl
 have b2:=b2.stp hs rfl
 refine Zg (.int .i64 (y5.2)) rfl rfl ?_
 refine Zb (Zd (Zf (Za (EL_p ((.func (.func 95) #[] #[p6])) (P_makeFunc (capf_0_1 (show ev _ _=p6 from rfl))) rfl ?_))))
 refine Zg ((.func (.func 95) #[] #[p6])) rfl rfl ?_
 refine Zb (Zd (Zq h (fun (s:BoxBoxLoom) e w=>∃ (g:Gh) ,Fr gI wI g w∧e 4=p2∧OB 2004 g w 102 (s:BoxBoxLoom) p2∧OSF 2004 60400 0 g w 3 102 (((s).BoxLoom).Boxes) p2∧OSF 2004 60401 1 g w 3 102 (((s).BoxLoom).At) p2∧OSF 2004 60402 2 g w 87 102 (((s).BoxLoom).Shuttles) p2∧e 6=p6∧PT g.m w (y5.1:BoxBoxLoom) p6) (fun X22 j7 v7 h=>?_) ?_))
 ·refine Zr ?_
  refine Zf (Za (Zn (.int .i64 (y5.2)) rfl rfl ?_))
  refine EL_in (.bool ((y5.2 != (0:Int)))) rfl rfl rfl rfl ?_
  refine Zg (.bool ((y5.2 != (0:Int)))) rfl rfl ?_
  refine Zb (Zd ?_)
  rcases Zt h with ⟨t5,h⟩ | ⟨t5,h⟩
  ·refine E_ct t5 rfl ?_
   refine Zf (Za (Ze .plain rfl (D_load (g:=gp7) Try.isAgg102 Try.sizeOf102 rfl qp7 fun n8 o8=>?_)))
   refine Zn (.int .i64 (y5.2)) rfl rfl ?_
   refine Ze .plain rfl (D_storeOc (g:=gp7) (v:=n8) Try.sizeOf102 rfl b2 rfl o8 fun u9 y9 hs b25 cb=>?_)
   clear cb
   have hfr:=hfr.stp hs
   refine Zg (.int .i64 (y5.2)) rfl rfl ?_
   refine Zb (Zd (E_ret (blk_r ?_)))
   refine thn_r ?_
   obtain rfl:=sinj h
   obtain ⟨ad26,cv26,hp26,g8,cr26⟩:=ob_read Try.isAgg102 Try.sizeOf102 b25
   exact endm_ct rfl rfl ((show _=p2 from rfl).trans hp26) g8 (show _=.int .i64 (y5.2) from rfl) ⟨_,hfr,_,_,rfl,cr26,rfl⟩
  ·refine E_cf t5 rfl ?_
   refine Zf (Za (Zn up1 rfl rfl ?_))
   refine EL_p (.int .i64 ((x1).length:Int)) (P_len Try.underlying30 rfl rp1) rfl ?_
   refine EL_in (.bool ((decide (((x1).length:Int) > (24:Int))))) rfl rfl rfl rfl ?_
   refine Zg (.bool ((decide (((x1).length:Int) > (24:Int))))) rfl rfl ?_
   refine Zb (Zd ?_)
   rcases Zt h with ⟨x5,h⟩ | ⟨x5,h⟩
   ·refine E_ct x5 rfl ?_
    refine Zf (Za (Ze .plain rfl (D_load (g:=gp7) Try.isAgg102 Try.sizeOf102 rfl qp7 fun q8 r8=>?_)))
    refine Ze .plain rfl (D_storeOc (g:=gp7) (v:=q8) Try.sizeOf102 rfl b2 rfl r8 fun z9 bA hs b29 cb=>?_)
    clear cb
    have hfr:=hfr.stp hs
    refine Zg (.int .i64 (5)) rfl rfl ?_
    refine Zb (Zd (E_ret (blk_r ?_)))
    refine thn_r ?_
    obtain rfl:=sinj h
    obtain ⟨ad30,cv30,hp30,i8,cr30⟩:=ob_read Try.isAgg102 Try.sizeOf102 b29
    exact endm_ct rfl rfl ((show _=p2 from rfl).trans hp30) i8 (show _=.int .i64 (5) from rfl) ⟨_,hfr,_,_,rfl,cr30,rfl⟩
   ·refine E_cf x5 rfl ?_
    refine Zf (Za (Zn up1 rfl rfl ?_))
    refine Zn ((.func (.func 95) #[] #[p6])) rfl rfl ?_
    obtain ⟨v6,k8,h⟩:=bsome h
    refine Ze .plain rfl (Zp (g:=gp7) (vs:=[up1,(.func (.func 95) #[] #[p6])]) en96 (.cons rfl (.cons rfl .nil)) (wk96 rp1 ⟨95,#[],#[p6],rfl,en95,fun g' w' hch a0 b0 r hu0 hr=>by exact Fn.mono (wk95 hu0 (qp7.ch hch) hr) fun _ _ _ h=>RV_bool.2 h⟩ k8) fun x6 l9 gA hs hr=>?_)
    have hfr:=hfr.ext hs
    have o0:=o0.ext hs
    have i3:=i3.ext hs
    have u3:=u3.ext hs
    have b2:=b2.ext hs
    have qp7:=qp7.ext hs
    subst hr
    refine Zg (.bool (v6)) rfl rfl ?_
    refine Zb (Zd ?_)
    rcases Zt h with ⟨i6,h⟩ | ⟨i6,h⟩
    ·refine E_ct i6 rfl ?_
     refine Zf (Za (Ze .plain rfl (D_load (g:=x6) Try.isAgg102 Try.sizeOf102 rfl qp7 fun t8 v8=>?_)))
     refine Ze .plain rfl (D_storeOc (g:=x6) (v:=t8) Try.sizeOf102 rfl b2 rfl v8 fun iA jA hs b35 cb=>?_)
     clear cb
     have hfr:=hfr.stp hs
     refine Zg (.int .i64 (2)) rfl rfl ?_
     refine Zb (Zd (E_ret (blk_r ?_)))
     refine thn_r ?_
     obtain rfl:=sinj h
     obtain ⟨ad36,cv36,hp36,l8,cr36⟩:=ob_read Try.isAgg102 Try.sizeOf102 b35
     exact endm_ct rfl rfl ((show _=p2 from rfl).trans hp36) l8 (show _=.int .i64 (2) from rfl) ⟨_,hfr,_,_,rfl,cr36,rfl⟩
    ·refine E_cf i6 rfl ?_
     exact Zu (blk_n (Zd (v7 ((⟨⟨[],[],[]⟩⟩:BoxBoxLoom)) _ _ ⟨x6,hfr,rfl,b2,o0,i3,u3,rfl,qp7⟩ h)))
 ·rintro y6 n9 mA ⟨m7, hfr, j6, a7, u4_0_37, u4_1_37, u4_2_37, d7, i7⟩ h
  refine Zf (Za (Ze .plain rfl (D_load (g:=m7) Try.isAgg102 Try.sizeOf102 d7 i7 fun x8 y8=>?_)))
  refine Ze .plain rfl (D_storeOc (g:=m7) (v:=x8) Try.sizeOf102 j6 a7 rfl y8 fun nA oA hs b39 cb=>?_)
  clear cb
  have hfr:=hfr.stp hs
  refine Zg (.int .i64 (0)) rfl rfl ?_
  refine Zb (Zd (E_ret ?_))
  obtain rfl:=sinj h
  obtain ⟨ad40,cv40,hp40,m8,cr40⟩:=ob_read Try.isAgg102 Try.sizeOf102 b39
  exact endm_ct rfl rfl ((show _=p2 from j6).trans hp40) m8 (show _=.int .i64 (0) from rfl) ⟨_,hfr,_,_,rfl,cr40,rfl⟩
def f100 (x0:List Int):Option ((List Int)):=
 (f109 ((wu64 ((x0).length:Int)))).bind fun y2=>
 (f108 big x0 ((0:Int)) (((x0).length:Int)) y2).bind fun y4=>
 some (y4)
def f36 (x0:BoxLoom) (x1:List BoxPick):Option (Int × Int):=
 (f74 x0 x1).bind fun y4=>
 jn (σ:=Int) (fun gA=>
  (f54 (y4.1) ((fun a0 a1=>f75 a0 a1))).bind fun d7=>
  jn (σ:=Int) (fun g7=>
   some (g7,(0:Int))
   ) fun tC=>
  lp (σ:=Int × BoxRace) (fun uC (i3,j6)=>
   jn (σ:=Unit) (fun _=>
    jn (σ:=Int × BoxRace) (fun (x6,m7)=>
     uC ((w64 (x6 + (1:Int))),m7)
     ) fun nA=>
    (f76 j6 x1).bind fun o0=>
    jn (σ:=Int) (fun v7=>
     nA (v7,(o0.1).last)
     ) fun oA=>
    bif (o0.2.2 != (0 : Int)) then
     some ((0:Int),o0.2.2)
    else
     oA (i3)
    ) fun k97=>
   Option.bind (α:=Bool) (
    bif (i3 == (0 : Int)) then
     some (true)
    else
     some ((!(decide ((j6).boxes=(d7).boxes))))
    ) fun v6=>
   bif v6 then
    k97 ()
   else
    tC (i3)
   ) big (gA,d7)
  ) fun k9=>
 bif (y4.2 != (0 : Int)) then
  some ((0:Int),y4.2)
 else
  bif (((x1).length : Int) == (0 : Int)) then
   some ((0:Int),(7:Int))
  else
   k9 ((0:Int))
def f43 (x0:BoxLoom):Option ((List Int) × Int):=
 (f51 x0).bind fun y4=>
 jn (σ:=Unit) (fun _=>
  Option.bind (α:=(List (Int × Bool))) (
   (f56 (y4.1)).bind fun v7=>
   (f54 (y4.1) ((fun a0 a1=>f55 a0 a1))).bind fun y55=>
   (f80 v7 y55).bind fun g8=>
   (g8 ((List (Int × Bool))) (fun b7 (r8,d7)=>
    some (true,((mset b7 ((d7).colour) true)))
    ) (([]:List (Int × Bool)))).bind fun g7=>
   some (g7)
   ) fun v6=>
  (keysS v6).bind fun y81=>
  some (y81,(0:Int))
  ) fun k9=>
 bif (y4.2 != (0 : Int)) then
  some ([],y4.2)
 else
  k9 ()
theorem en43:Enters Try.prog 43:=enters_of Try.func43 (by kernel_rfl) rfl
theorem wk43 {gI:Gh} {wI:World} {x0:BoxLoom} {up0:Value} (rp0:RV gI.m wI x0 up0) {r:(List Int) × Int} (h:f43 x0=some r):Fn Try.prog 43 #[up0] gI wI (fun m w v=>∃ y0 y1,v=.tuple #[y0,y1]∧RV m w (r.1) y0∧y1=.int .i64 (r.2)):=by
 unfold f43 at h
 refine fnD_of_E Try.func43 rfl (Nat.le_of_ble_eq_true rfl) fun g0 hm hfr=>?_
 have hmk:MkF g0 wI []:=MkF.start
 have rp0:RV g0.m wI x0 up0:=hm ▸ rp0
 show E _ 31 none _ _ _ _ _
 refine Zf (Za (Ze .plain rfl (D_box (g:=g0) rfl rp0 fun g1 w1 p1 hs q1=>?_)))
 have hfr:=hfr.ext hs
 have hmk:=hmk.ext hs
 refine Zg (.slice none 0 0) rfl rfl ?_
 refine Zg (.int .i64 (0)) rfl rfl ?_
 refine Zb (Zd (Zf (Za (Ze .plain rfl (D_load (g:=g1) Try.isAgg25 Try.sizeOf25 rfl q1 fun v2 r2=>?_)))))
 obtain ⟨y4,zA,h⟩:=bsome h
 refine Ze .plain rfl (Zp (g:=g1) (vs:=[v2]) en51 (.cons rfl .nil) (wk51 r2 zA) fun g3 w3_ v3 hs hr=>?_)
 have hfr:=hfr.ext hs
 have hmk:=hmk.ext hs
 obtain ⟨x6,qC,rfl,y6,rfl⟩:=hr
 refine Zn (.tuple #[x6,.int .i64 (y4.2)]) rfl rfl ?_
 refine EL_p x6 (Zi rfl rfl) rfl ?_
 refine EL_p (.int .i64 (y4.2)) (Zi rfl rfl) rfl ?_
 refine Ze .plain rfl (D_allocOc (g:=g3) 2004 (⟨⟨[],[],[]⟩⟩:BoxBoxLoom) Try.zeroValue102 (fun m w=>⟨_,(rep_two rep_nil (rep_two rep_nil rep_nil)),rfl⟩) fun g5 w5 p5 hs b5 cb=>?_)
 have hfr:=hfr.stp hs
 have hmk:=hmk.stp hs
 have y6:=y6.stp hs
 have rC:OSF 2004 60400 0 g5 w5 3 102 ([]:List Int) p5:=cb.osf (by rfl)
 have tC:OSF 2004 60401 1 g5 w5 3 102 ([]:List Int) p5:=cb.osf (by rfl)
 have uC:OSF 2004 60402 2 g5 w5 87 102 ([]:List BoxShuttle) p5:=cb.osf (by rfl)
 clear cb
 refine Ze .plain rfl (D_storeOc (g:=g5) (v:=x6) Try.sizeOf102 rfl b5 rfl y6 fun g6 w6 hs b6 cb=>?_)
 clear cb
 have hfr:=hfr.stp hs
 have hmk:=hmk.stp hs
 refine Zg (.int .i64 (y4.2)) rfl rfl ?_
 refine Zb (Zd (E_joinCD h (fun (s:Unit) e ds w=>∃ (g:Gh) ,Fr gI wI g w∧MkF g w ds∧e 4=p5∧OB 2004 g w 102 (y4.1:BoxBoxLoom) p5) (fun X9 k9 aB h=>?_) ?_))
 ·refine Zf (Za (Zn (.int .i64 (y4.2)) rfl rfl ?_))
  refine EL_in (.bool ((y4.2 != (0:Int)))) rfl rfl rfl rfl ?_
  refine Zb (Zd ?_)
  rcases Zt h with ⟨a7,h⟩ | ⟨a7,h⟩
  ·refine E_ct a7 rfl ?_
   refine Zf (Za (Zn (.int .i64 (y4.2)) rfl rfl ?_))
   refine Zg (.slice none 0 0) rfl rfl ?_
   refine Zg (.int .i64 (y4.2)) rfl rfl ?_
   refine Zb (Zd (E_ret (thn_r ?_)))
   refine endM (.inr rfl) hmk fun eD gD hs=>?_
   have hfr:=hfr.stp hs
   obtain rfl:=sinj h
   exact end2 rfl rfl (show _=.slice none 0 0 from rfl) (show _=.int .i64 (y4.2) from rfl) ⟨_,hfr,_,_,rfl,RV_nil,rfl⟩
  ·refine E_cf a7 rfl ?_
   exact Zu (Zd (aB () _ _ _ ⟨g6,hfr,hmk,rfl,b6⟩ h))
 ·rintro _ vC i7 iD ⟨bB, hfr, hmk, j7, l5⟩ h
  refine Zf (Za (Ze .plain rfl (D_makeMap (g:=bB) (Value.int .i64) Bool 8017 fun cB jD i9 hs m13=>?_)))
  have hfr:=hfr.stp hs
  have hmk:=hmk.stp hs
  have l5:=l5.stp hs rfl
  refine Ze .plain rfl (D_allocOc (g:=cB) 2006 (⟨.map none,rfl⟩:Fv) Try.zeroValue140 (fun _ _=>fvm_rep) fun dB kD i8 hs b14 cb=>?_)
  clear cb
  have hfr:=hfr.stp hs
  have hmk:=hmk.stp hs
  have l5:=l5.stp hs rfl
  have m13:=m13.stp hs rfl
  have on15:=mp_one m13
  refine Ze .plain rfl (D_storeOc (g:=dB) (v:=i9) (a':=(⟨i9,on15⟩:Fv)) Try.sizeOf140 rfl b14 rfl (RV_fv.2 rfl) fun l9 w15 hs b15 cb=>?_)
  clear cb
  have hfr:=hfr.stp hs
  have hmk:=hmk.stp hs
  have l5:=l5.stp hs rfl
  have m13:=m13.stp hs rfl
  refine Zb (Zd ?_)
  obtain ⟨v6,hx,h⟩:=bsome h
  refine E_joinD (fun e ds w=>∃ (g:Gh) ,Fr gI wI g w∧MkF g w ds∧e 6=i8∧BM (Value.int .i64) 2006 8017 g w 140 (v6:List (Int × Bool)) i8) (fun Q' hQ=>?_) (fun xC iC lD hR=>?_)
  ·replace h := hx
   clear hx
   refine Zf (L_loadO0 (x:=.tmp 4) Try.isAgg102 Try.sizeOf102 l5 fun n9 k8 pA=>?_)
   obtain ⟨v7,qA,h⟩:=bsome h
   refine L_loadO0 (x:=.tmp 4) Try.isAgg102 Try.sizeOf102 l5 fun u9 l8 rA=>?_
   refine E_drawC (g:=l9) (w:=w15) (n:=3) [0,2] [2004] [0,1,2] rfl mixed (by kernel_rfl) fun w_c49 hs hlt=>?_
   have hfr:=hfr.ext hs
   have hmk:=hmk.ext hs
   have b15:=b15.ext hs
   have m13:=m13.ext hs
   clear hs
   refine CH_ldO (n:=2004) (c:=n9) rfl rfl .plain pA j7 rfl ?_
   have k8:=k8.ch hlt.1
   refine CH_do rfl rfl .plain (Zp (g:=l9) (vs:=[n9]) en56 (.cons rfl .nil) (wk56 k8 qA) fun eB yC y9 hs hr=>?_)
   have hfr:=hfr.ext hs
   have hmk:=hmk.ext hs
   have hlt:=hlt.ext hs
   have b15:=b15.ext hs
   have m13:=m13.ext hs
   have i6:=hr
   have hone500219:=PT.one i6
   refine ⟨hlt.toW,?_⟩
   refine CH_ldO (n:=2004) (c:=u9) rfl rfl .plain rA j7 rfl ?_
   have l8:=l8.ch hlt.1
   refine CH_nil ?_
   clear hlt
   obtain ⟨y55,uA,h⟩:=bsome h
   refine Ze .plain rfl (Zp (g:=eB) (vs:=[u9,.func (.func 55) #[] #[]]) en54 (.cons rfl (.cons rfl .nil)) (wk54 l8 ⟨55,#[],#[],rfl,en55,fun g' w' hch a0 a1 b0 b1 r hu0 hu1 hr=>by obtain rfl:=Zj.1 hu0; exact Fn.mono (wk55 hu1  hr) fun _ _ _ h=>Zj.2 h⟩ uA) fun iB aD jB hs hr=>?_)
   have hfr:=hfr.ext hs
   have hmk:=hmk.ext hs
   have b15:=b15.ext hs
   have m13:=m13.ext hs
   have i6:=i6.ext hs
   have lB:=hr
   obtain ⟨g8,xA,h⟩:=bsome h
   refine Ze .plain rfl (Zp (g:=iB) (vs:=[y9,jB]) en80 (.cons rfl (.cons rfl .nil)) (wk80 i6 lB xA) fun mD bD mB hs hr=>?_)
   have hfr:=hfr.ext hs
   have hmk:=hmk.ext hs
   have b15:=b15.ext hs
   have m13:=m13.ext hs
   have i6:=i6.ext hs
   have z9:=hr
   refine Zb (Zd (Zr ?_))
   have hB0:=hfr.size
   have hmk0:=hmk
   obtain ⟨g7,hφ,h⟩:=bsome h
   refine E_rangeFunc (σ:=((List (Int × Bool)))) (s0:=(([]:List (Int × Bool)))) 10 rfl (fun _=>0) [] (fun (s:(List (Int × Bool))) (g:Gh) (w:World)=>Fr gI wI g w∧MkF g w i7∧BM (Value.int .i64) 2006 8017 g w 140 (s:List (Int × Bool)) i8∧ItV Try.prog (RA2 (α:=BoxPick) (β:=BoxStep)) g8 mB g.m w∧PT g.m w (v7:BoxMill) y9) rfl z9 hφ (fun _ _ _ _=>rfl) rfl ra2_size rfl (fun _ _ _ _ _ hx hR=>by obtain ⟨hfr,hmk,z2,z3,z4⟩:=hR; exact ⟨hfr.ist hx hB0,hmk.ist hx,z2.ist hx,z3.ist hx,z4.ist hx⟩) (fun _ _ _ _ _ hx hR=>by obtain ⟨hfr,hmk,z2,z3,z4⟩:=hR; exact ⟨hfr.stp hx,hmk.stp hx,z2.stp hx rfl,z3.stp hx,z4.stp hx⟩) ⟨hfr,hmk,⟨_,b15,m13⟩,z9,i6⟩ (fun _ h=>by cases h) ?_ ?_
   ·intro cD jC s x b s2 bA nB vs hsz h hR hrec_0 m8 hrd
    obtain ⟨b7,hse⟩:∃ y,y=s:=⟨s,rfl⟩
    subst hse
    obtain ⟨hfr,hmk,⟨t8,u3,t5⟩,i3,o0⟩:=hR
    obtain ⟨r8,d7⟩:=x
    obtain ⟨kC,v8,rfl,oB,j6⟩:=ra2_get hrd
    have i5:=RFr.refl bA nB
    refine Za (Ze .plain rfl (D_allocOc (g:=bA) 2008 (⟨⟨(⟨List.toArray [(⟨List.toArray [0,0,0,0],rfl⟩:Vector Int 4),(⟨List.toArray [0,0,0,0],rfl⟩:Vector Int 4)],rfl⟩:Vector (Vector Int 4) 2),⟨0,0⟩⟩,0,0⟩:BoxStep) Try.zeroValue144 (fun m w=>⟨_,(rep_two (rep_two (rep_vec (flat_chunk (rep_vec (flat_chunk rep_int (flat_chunk rep_int (flat_chunk rep_int (flat_chunk rep_int flat_nil)))) rfl) (flat_chunk (rep_vec (flat_chunk rep_int (flat_chunk rep_int (flat_chunk rep_int (flat_chunk rep_int flat_nil)))) rfl) flat_nil)) rfl) (rep_two rep_int rep_int)) (rep_two rep_int rep_int)),rfl⟩) fun tB nD vB hs b68 cb=>?_))
    have hfr:=hfr.stp hs
    have hmk:=hmk.stp hs
    have i5:=i5.stp hs
    have hrec_0:=hrec_0.stp hs rfl
    have u3:=u3.stp hs rfl
    have t5:=t5.stp hs rfl
    have i3:=i3.stp hs
    have o0:=o0.stp hs
    have j6:=j6.stp hs
    clear cb
    refine Ze .plain rfl (D_storeOc (g:=tB) (v:=v8) Try.sizeOf144 rfl b68 rfl j6 fun n8 oD hs b69 cb=>?_)
    clear cb
    have hfr:=hfr.stp hs
    have hmk:=hmk.stp hs
    have i5:=i5.stp hs
    have hrec_0:=hrec_0.stp hs rfl
    have u3:=u3.stp hs rfl
    have t5:=t5.stp hs rfl
    have i3:=i3.stp hs
    have o0:=o0.stp hs
    refine Zb (Zd ?_)
    obtain ⟨yB,hbr,hs,hrN⟩:=begin_round hrec_0 m8
    refine ⟨yB,hbr,?_⟩
    have hfr:=hfr.stp hs
    have hmk:=hmk.stp hs
    have i5:=i5.stp hs
    have u3:=u3.stp hs rfl
    have t5:=t5.stp hs rfl
    have i3:=i3.stp hs
    have o0:=o0.stp hs
    have b69:=b69.stp hs rfl
    have hrec_0:=hrN
    clear hbr hs hrN
    refine Zr ?_
    refine Za (Ze .plain rfl (D_loadO (α:=Fv) (g:=n8) Try.isAgg140 Try.sizeOf140 rfl u3 fun gA iA=>?_))
    have e71:gA=t8.v:=RV_fv.1 iA
    clear iA
    subst gA
    refine EL_p (fPtr vB 10) (Zc at_144_1 rfl (OB.ptr b69)) rfl ?_
    refine Ze .plain rfl (D_loadF (g:=n8) part_BoxStep_1.1 Try.isAgg3 Try.sizeOf3 rfl b69 fun sD zB=>?_)
    obtain rfl:=Zj.1 zB
    refine Ze .plain rfl (D_mapUpdate (g:=n8) Try.underlying140 key_3 rfl t5 rfl rfl (RV_bool.2 rfl) fun tD uD hs m74=>?_)
    have hfr:=hfr.stp hs
    have hmk:=hmk.stp hs
    have i5:=i5.stp hs
    have hrec_0:=hrec_0.stp hs rfl
    have u3:=u3.stp hs rfl
    have i3:=i3.stp hs
    have o0:=o0.stp hs
    refine Zb (blk_n ?_)
    obtain ⟨rfl,rfl⟩:=pairs2 h
    exact ⟨_,i5,⟨hfr,hmk,⟨_,u3,m74⟩,i3,o0⟩,hrec_0,rfl,rfl⟩
   ·intro aC vD ds76 hsz hR hds
    obtain ⟨hfr,hmk,⟨lC,x8,y8⟩,cC,q8⟩:=hR
    obtain ⟨D,hdse,hD,hDb⟩:=hds.1 rfl
    subst hdse
    replace hmk:=MkF.push hmk0 hmk hD hDb
    clear hD hDb hds
    revert hmk
    generalize ({ target:=.collected D,args:=#[] } :: i7:List Deferred)=mC
    intro hmk
    refine ⟨fun _=>?_,fun k c hs _=>absurd hs (Nat.succ_ne_zero k).symm⟩
    refine blk_n ?_
    obtain rfl:=sinj h
    exact hQ _ _ _ ⟨aC,hfr,hmk,rfl,⟨_,x8,y8⟩⟩
  ·clear hx
   obtain ⟨jA,hfr,hmk,a9,⟨m7,d9,x5⟩⟩:=hR
   refine Zf (Za (Ze .plain rfl (D_loadO (α:=Fv) (g:=jA) Try.isAgg140 Try.sizeOf140 a9 d9 fun mA nA=>?_)))
   have e78:mA=m7.v:=RV_fv.1 nA
   clear nA
   subst mA
   refine Ze .plain rfl (D_callG (g:=jA) (vs:=[m7.v]) en82 (.cons rfl .nil) (keys_fnG Try.keys_ok x5) fun dC xD eC hs m79=>?_)
   have hfr:=hfr.ext hs
   have hmk:=hmk.ext hs
   have x5:=x5.ext hs
   obtain ⟨y81,yA,h⟩:=bsome h
   refine Ze .plain rfl (D_callG (g:=dC) (vs:=[eC]) en81 (.cons rfl .nil) (sorted_fnG Try.underlying3 Try.sorted_ok x5 m79 yA) fun yD zD oA hs o8=>?_)
   have hfr:=hfr.ext hs
   have hmk:=hmk.ext hs
   refine Zg oA rfl rfl ?_
   refine Zg (.int .i64 (0)) rfl rfl ?_
   refine Zb (Zd (E_ret (endM (.inr rfl) hmk fun aE bE hs=>?_)))
   have hfr:=hfr.stp hs
   have o8:=o8.stp hs
   obtain rfl:=sinj h
   exact end2 rfl rfl (show _=oA from rfl) (show _=.int .i64 (0) from rfl) ⟨_,hfr,_,_,rfl,o8,rfl⟩
def f46 (x0:BoxLoom):Option (Int):=
 (f51 x0).bind fun y4=>
 some (y4.2)
theorem en46:Enters Try.prog 46:=enters_of Try.func46 (by kernel_rfl) rfl
theorem wk46 {gI:Gh} {wI:World} {x0:BoxLoom} {up0:Value} (rp0:RV gI.m wI x0 up0) {r:Int} (h:f46 x0=some r):Fn Try.prog 46 #[up0] gI wI (fun _ _ v=>v=.int .i64 (r)):=by
 unfold f46 at h
 refine fn_of_E Try.func46 rfl (Nat.le_of_ble_eq_true rfl) fun g0 hm hfr=>?_
 have rp0:RV g0.m wI x0 up0:=hm ▸ rp0
 show E _ 11 none _ _ _ _ _
 refine Zf (Za (Ze .plain rfl (D_box (g:=g0) rfl rp0 fun g1 w1 p1 hs q1=>?_)))
 have hfr:=hfr.ext hs
 refine Zg (.int .i64 (0)) rfl rfl ?_
 refine Zb (Zd (Zf (Za (Ze .plain rfl (D_load (g:=g1) Try.isAgg25 Try.sizeOf25 rfl q1 fun v2 r2=>?_)))))
 obtain ⟨y4,u3,h⟩:=bsome h
 refine Ze .plain rfl (Zp (g:=g1) (vs:=[v2]) en51 (.cons rfl .nil) (wk51 r2 u3) fun g3 w3_ v3 hs hr=>?_)
 have hfr:=hfr.ext hs
 obtain ⟨o0,i5,rfl,i3,rfl⟩:=hr
 refine Zn (.tuple #[o0,.int .i64 (y4.2)]) rfl rfl ?_
 refine EL_p o0 (Zi rfl rfl) rfl ?_
 refine EL_p (.int .i64 (y4.2)) (Zi rfl rfl) rfl ?_
 refine Ze .plain rfl (D_allocOc (g:=g3) 2003 (⟨⟨[],[],[]⟩⟩:BoxBoxLoom) Try.zeroValue102 (fun m w=>⟨_,(rep_two rep_nil (rep_two rep_nil rep_nil)),rfl⟩) fun g5 w5 p5 hs b5 cb=>?_)
 have hfr:=hfr.stp hs
 have i3:=i3.stp hs
 have l5:OSF 2003 60300 0 g5 w5 3 102 ([]:List Int) p5:=cb.osf (by rfl)
 have t5:OSF 2003 60301 1 g5 w5 3 102 ([]:List Int) p5:=cb.osf (by rfl)
 have x5:OSF 2003 60302 2 g5 w5 87 102 ([]:List BoxShuttle) p5:=cb.osf (by rfl)
 clear cb
 refine Ze .plain rfl (D_storeOc (g:=g5) (v:=o0) Try.sizeOf102 rfl b5 rfl i3 fun g6 w6 hs b6 cb=>?_)
 clear cb
 have hfr:=hfr.stp hs
 refine Zg (.int .i64 (y4.2)) rfl rfl ?_
 refine Zb (Zd (Zf (Za (Zn (.int .i64 (y4.2)) rfl rfl ?_))))
 refine Zg (.int .i64 (y4.2)) rfl rfl ?_
 refine Zb (Zd (E_ret ?_))
 obtain rfl:=sinj h
 exact end1 rfl rfl (show _=.int .i64 (y4.2) from rfl) ⟨_,hfr,rfl⟩
def f70 (x0:BoxLoom) (x1:List BoxPick):Option (BoxBoxLoom × BoxRun × Int × Int):=
 jn (σ:=BoxBoxLoom × BoxRun) (fun (x5,y6)=>
  (f54 x5 ((fun a0 a1=>f75 a0 a1))).bind fun g7=>
  (f76 g7 x1).bind fun y71=>
  some (x5,y71.1,y71.2.1,y71.2.2)
  ) fun i7=>
 (f74 x0 x1).bind fun i3=>
 bif (i3.2 != (0 : Int)) then
  some (i3.1,(⟨[],⟨(⟨List.toArray [(⟨List.toArray [0,0,0,0],rfl⟩:Vector Int 4),(⟨List.toArray [0,0,0,0],rfl⟩:Vector Int 4)],rfl⟩:Vector (Vector Int 4) 2),⟨0,0⟩⟩,0⟩:BoxRun),(0:Int),i3.2)
 else
  i7 (i3.1,(⟨[],⟨(⟨List.toArray [(⟨List.toArray [0,0,0,0],rfl⟩:Vector Int 4),(⟨List.toArray [0,0,0,0],rfl⟩:Vector Int 4)],rfl⟩:Vector (Vector Int 4) 2),⟨0,0⟩⟩,0⟩:BoxRun))
theorem en70:Enters Try.prog 70:=enters_of Try.func70 (by kernel_rfl) rfl
theorem wk70 {gI:Gh} {wI:World} {x0:BoxLoom} {x1:List BoxPick} {up0:Value} (rp0:RV gI.m wI x0 up0) {up1:Value} (rp1:RV gI.m wI x1 up1) {r:BoxBoxLoom × BoxRun × Int × Int} (h:f70 x0 x1=some r):Fn Try.prog 70 #[up0,up1] gI wI (fun m w v=>∃ y0 y1 y2 y3,v=.tuple #[y0,y1,y2,y3]∧RV m w (r.1) y0∧RV m w (r.2.1) y1∧y2=.int .i64 (r.2.2.1)∧y3=.int .i64 (r.2.2.2)):=by
 unfold f70 at h
 refine fn_of_E Try.func70 rfl (Nat.le_of_ble_eq_true rfl) fun g0 hm hfr=>?_
 have rp0:RV g0.m wI x0 up0:=hm ▸ rp0
 have rp1:RV g0.m wI x1 up1:=hm ▸ rp1
 show E _ 31 none _ _ _ _ _
 refine Zf (Za (Ze .plain rfl (D_box (g:=g0) rfl rp0 fun g1 w1 p1 hs q1=>?_)))
 have hfr:=hfr.ext hs
 have rp1:=rp1.ext hs
 refine Ze .plain rfl (D_allocOc (g:=g1) 2004 (⟨⟨[],[],[]⟩⟩:BoxBoxLoom) Try.zeroValue102 (fun m w=>⟨_,(rep_two rep_nil (rep_two rep_nil rep_nil)),rfl⟩) fun g2 w2 p2 hs b2 cb=>?_)
 have hfr:=hfr.stp hs
 have rp1:=rp1.stp hs
 have q1:=q1.stp hs
 have uA:OSF 2004 60400 0 g2 w2 3 102 ([]:List Int) p2:=cb.osf (by rfl)
 have xA:OSF 2004 60401 1 g2 w2 3 102 ([]:List Int) p2:=cb.osf (by rfl)
 have yA:OSF 2004 60402 2 g2 w2 87 102 ([]:List BoxShuttle) p2:=cb.osf (by rfl)
 clear cb
 refine Ze .plain rfl (D_allocOc (g:=g2) 2005 (⟨[],⟨(⟨List.toArray [(⟨List.toArray [0,0,0,0],rfl⟩:Vector Int 4),(⟨List.toArray [0,0,0,0],rfl⟩:Vector Int 4)],rfl⟩:Vector (Vector Int 4) 2),⟨0,0⟩⟩,0⟩:BoxRun) Try.zeroValue129 (fun m w=>⟨_,(rep_two rep_nil (rep_two (rep_two (rep_vec (flat_chunk (rep_vec (flat_chunk rep_int (flat_chunk rep_int (flat_chunk rep_int (flat_chunk rep_int flat_nil)))) rfl) (flat_chunk (rep_vec (flat_chunk rep_int (flat_chunk rep_int (flat_chunk rep_int (flat_chunk rep_int flat_nil)))) rfl) flat_nil)) rfl) (rep_two rep_int rep_int)) rep_int)),rfl⟩) fun g3 w3 p3 hs b3 cb=>?_)
 have hfr:=hfr.stp hs
 have rp1:=rp1.stp hs
 have q1:=q1.stp hs
 have b2:=b2.stp hs rfl
 have t5:OSF 2005 60500 0 g3 w3 3 129 ([]:List Int) p3:=cb.osf (by rfl)
 clear cb
 refine Zg (.int .i64 (0)) rfl rfl ?_
 refine Zg (.int .i64 (0)) rfl rfl ?_
 refine Zb (Zd (Zq h (fun (s:BoxBoxLoom × BoxRun) e w=>∃ (g:Gh) ,Fr gI wI g w∧e 1=up1∧RV g.m w (x1:List BoxPick) up1∧e 4=p2∧OB 2004 g w 102 (s.1:BoxBoxLoom) p2∧e 5=p3∧OB 2005 g w 129 (s.2:BoxRun) p3∧OSF 2005 60500 0 g w 3 129 ((s.2).thrown) p3) (fun X34 i7 v7 h=>?_) ?_))
 ·refine Zf (Za (Ze .plain rfl (D_load (g := g3) Try.isAgg25 Try.sizeOf25 rfl q1 fun i9 k9 => ?_)))
  refine Zn up1 rfl rfl ?_
  obtain ⟨i3,g8,h⟩:=bsome h
  refine Ze .plain rfl (Zp (g:=g3) (vs:=[i9,up1]) en74 (.cons rfl (.cons rfl .nil)) (wk74 k9 rp1 g8) fun l9 zA dB hs hr=>?_)
  have hfr:=hfr.ext hs
  have rp1:=rp1.ext hs
  have b2:=b2.ext hs
  have t5:=t5.ext hs
  have b3:=b3.ext hs
  obtain ⟨i6,pA,rfl,a7,rfl⟩:=hr
  refine Zn (.tuple #[i6,.int .i64 (i3.2)]) rfl rfl ?_
  refine EL_p i6 (Zi rfl rfl) rfl ?_
  refine EL_p (.int .i64 (i3.2)) (Zi rfl rfl) rfl ?_
  refine Ze .plain rfl (D_storeOc (g:=l9) (v:=i6) Try.sizeOf102 rfl b2 rfl a7 fun j7 eB hs b38 cb=>?_)
  clear cb
  have hfr:=hfr.stp hs
  have rp1:=rp1.stp hs
  have t5:=t5.stp hs rfl
  have b3:=b3.stp hs rfl
  refine Zg (.int .i64 (i3.2)) rfl rfl ?_
  refine Zb (Zd (Zf (Za (Zn (.int .i64 (i3.2)) rfl rfl ?_))))
  refine EL_in (.bool ((i3.2 != (0:Int)))) rfl rfl rfl rfl ?_
  refine Zb (Zd ?_)
  rcases Zt h with ⟨x6,h⟩ | ⟨x6,h⟩
  ·refine E_ct x6 rfl ?_
   refine Zf (L_selfO Try.isAgg102 Try.sizeOf102 rfl b38 fun n9 i8 k8=>?_)
   refine L_selfO Try.isAgg129 Try.sizeOf129 rfl b3 fun u9 l8 m8=>?_
   refine E_drawL (g:=j7) (n:=7) [(3,(fun _ _ _=>True)),(4,(fun _ _ _=>True))] [0,1,2,3,4,5,6] rfl mixed (by kernel_rfl) (⟨fun _=>(fun _ _ _ _ _ _=>trivial),fun _=>(fun _ _ _ _ _ _=>trivial),trivial⟩) ?_
   refine L_ld (c:=n9) rfl rfl .plain (fun _ _ h=>⟨h.ch,fun b hb _=>h.below.block b hb⟩) (i8 _) rfl ?_
   refine L_ld (c:=u9) rfl rfl .plain (fun _ _ h=>⟨h.ch,fun b hb _=>h.below.block b hb⟩) (l8 _) rfl ?_
   refine L_p (.int .i64 (i3.2)) rfl rfl (Zk rfl) ?_
   refine L_do (φ:=fun _ _ _=>True) rfl rfl .plain (fun g w hd=>k8 _ _ _ g w ⟨hd.1.ch,fun b hb _=>hd.1.below.block b hb⟩ rfl rfl) (fun iB hv=>?_)
   clear hv
   refine L_do (φ:=fun _ _ _=>True) rfl rfl .plain (fun g w hd=>m8 _ _ _ g w ⟨hd.1.ch,fun b hb _=>hd.1.below.block b hb⟩ rfl rfl) (fun jB hv=>?_)
   clear hv
   refine L_p (.int .i64 (0)) rfl rfl (P_assign rfl) ?_
   refine L_p (.int .i64 (i3.2)) rfl rfl (P_assign rfl) ?_
   refine L_nl fun lB mB hs=>?_
   have hfr:=hfr.ext hs
   have b38:=b38.ext hs
   have b3:=b3.ext hs
   clear hs
   refine Zb (Zd (E_ret (thn_r ?_)))
   obtain rfl:=sinj h
   obtain ⟨ad63,cv63,hp63,n8,cr63⟩:=ob_read Try.isAgg102 Try.sizeOf102 b38
   obtain ⟨ad65,cv65,hp65,o8,cr65⟩:=ob_read Try.isAgg129 Try.sizeOf129 b3
   exact endm_cctt rfl rfl ((show _=p2 from rfl).trans hp63) n8 ((show _=p3 from rfl).trans hp65) o8 (show _=.int .i64 (0) from rfl) (show _=.int .i64 (i3.2) from rfl) ⟨_,hfr,_,_,_,_,rfl,cr63,cr65,rfl,rfl⟩
  ·refine E_cf x6 rfl ?_
   exact Zu (Zd (v7 (i3.1,(⟨[],⟨(⟨List.toArray [(⟨List.toArray [0,0,0,0],rfl⟩:Vector Int 4),(⟨List.toArray [0,0,0,0],rfl⟩:Vector Int 4)],rfl⟩:Vector (Vector Int 4) 2),⟨0,0⟩⟩,0⟩:BoxRun)) _ _ ⟨j7,hfr,rfl,rp1,rfl,b38,rfl,b3,t5⟩ h))
 ·rintro ⟨x5, y6⟩ aB nB ⟨m7, hfr, b7, j6, i5, o0, l5, u3, u5_0_66⟩ h
  refine Zf (Za (Ze .plain rfl (D_loadO (g:=m7) Try.isAgg102 Try.sizeOf102 i5 o0 fun y9 z9=>?_)))
  obtain ⟨g7,q8,h⟩:=bsome h
  refine Ze .plain rfl (Zp (g:=m7) (vs:=[y9,.func (.func 75) #[] #[]]) en54 (.cons rfl (.cons rfl .nil)) (wk54 z9 ⟨75,#[],#[],rfl,en75,fun g' w' hch a0 a1 b0 b1 r hu0 hu1 hr=>by obtain rfl:=Zj.1 hu0; exact Fn.mono (wk75 hu1  hr) fun _ _ _ h=>Zj.2 h⟩ q8) fun bA bB gA hs hr=>?_)
  have hfr:=hfr.ext hs
  have j6:=j6.ext hs
  have o0:=o0.ext hs
  have u3:=u3.ext hs
  have iA:=hr
  refine Zo b7 rfl ?_
  obtain ⟨y71,r8,h⟩:=bsome h
  refine Ze .plain rfl (Zp (g:=bA) (vs:=[gA,up1]) en76 (.cons rfl (.cons rfl .nil)) (wk76 iA j6 r8) fun jA cB oB hs hr=>?_)
  have hfr:=hfr.ext hs
  have o0:=o0.ext hs
  have u3:=u3.ext hs
  obtain ⟨v6,qA,rA,rfl,d7,rfl,rfl⟩:=hr
  refine Zn (.tuple #[v6,.int .i64 (y71.2.1),.int .i64 (y71.2.2)]) rfl rfl ?_
  refine EL_p v6 (Zi rfl rfl) rfl ?_
  refine EL_p (.int .i64 (y71.2.1)) (Zi rfl rfl) rfl ?_
  refine EL_p (.int .i64 (y71.2.2)) (Zi rfl rfl) rfl ?_
  refine Ze .plain rfl (D_storeOc (g:=jA) (v:=v6) Try.sizeOf129 l5 u3 rfl d7 fun mA tB hs b72 cb=>?_)
  clear cb
  have hfr:=hfr.stp hs
  have o0:=o0.stp hs rfl
  refine Zg (.int .i64 (y71.2.1)) rfl rfl ?_
  refine Zg (.int .i64 (y71.2.2)) rfl rfl ?_
  refine Zb (Zd (Zf (L_selfO Try.isAgg102 Try.sizeOf102 rfl o0 fun nA t8 v8=>?_)))
  refine L_selfO Try.isAgg129 Try.sizeOf129 rfl b72 fun oA x8 y8=>?_
  refine E_drawL (g:=mA) (n:=8) [(4,(fun _ _ _=>True)),(5,(fun _ _ _=>True))] [0,1,2,3,4,5,6,7] rfl mixed (by kernel_rfl) (⟨fun _=>(fun _ _ _ _ _ _=>trivial),fun _=>(fun _ _ _ _ _ _=>trivial),trivial⟩) ?_
  refine L_ld (c:=nA) rfl rfl .plain (fun _ _ h=>⟨h.ch,fun b hb _=>h.below.block b hb⟩) (t8 _) i5 ?_
  refine L_ld (c:=oA) rfl rfl .plain (fun _ _ h=>⟨h.ch,fun b hb _=>h.below.block b hb⟩) (x8 _) l5 ?_
  refine L_p (.int .i64 (y71.2.1)) rfl rfl (Zk rfl) ?_
  refine L_p (.int .i64 (y71.2.2)) rfl rfl (Zk rfl) ?_
  refine L_do (φ:=fun _ _ _=>True) rfl rfl .plain (fun g w hd=>v8 _ _ _ g w ⟨hd.1.ch,fun b hb _=>hd.1.below.block b hb⟩ i5 rfl) (fun vB hv=>?_)
  clear hv
  refine L_do (φ:=fun _ _ _=>True) rfl rfl .plain (fun g w hd=>y8 _ _ _ g w ⟨hd.1.ch,fun b hb _=>hd.1.below.block b hb⟩ l5 rfl) (fun yB hv=>?_)
  clear hv
  refine L_p (.int .i64 (y71.2.1)) rfl rfl (P_assign rfl) ?_
  refine L_p (.int .i64 (y71.2.2)) rfl rfl (P_assign rfl) ?_
  refine L_nl fun zB aC hs=>?_
  have hfr:=hfr.ext hs
  have o0:=o0.ext hs
  have b72:=b72.ext hs
  clear hs
  refine Zb (Zd (E_ret ?_))
  obtain rfl:=sinj h
  obtain ⟨ad95,cv95,hp95,a9,cr95⟩:=ob_read Try.isAgg102 Try.sizeOf102 o0
  obtain ⟨ad96,cv96,hp96,d9,cr96⟩:=ob_read Try.isAgg129 Try.sizeOf129 b72
  exact endm_cctt rfl rfl ((show _=p2 from i5).trans hp95) a9 ((show _=p3 from l5).trans hp96) d9 (show _=.int .i64 (y71.2.1) from rfl) (show _=.int .i64 (y71.2.2) from rfl) ⟨_,hfr,_,_,_,_,rfl,cr95,cr96,rfl,rfl⟩
def f6 (x0:BoxLoom) (x1:List BoxPick):Option (Bool):=
 jn (σ:=Unit) (fun _=>
  (f15 x0).bind fun bB=>
  (f28 x1).bind fun cB=>
  (f36 bB cB).bind fun o0=>
  jn (σ:=Unit) (fun _=>
   (f31 x0 x1).bind fun g7=>
   Option.bind (α:=Int) (
    Option.bind (α:=Bool) (
     bif (g7 == (0 : Int)) then
      some ((((x1).length:Int) == (0:Int)))
     else
      some (false)
     ) fun x6=>
    bif x6 then
     some ((7:Int))
    else
     some (g7)
    ) fun b7=>
   jn (σ:=Int) (fun t5=>
    Option.bind (α:=Bool) (
     bif (o0.2 == t5) then
      bif (o0.1 == (0 : Int)) then
       (f14).bind fun o8=>
       some (o8)
      else
       some (false)
     else
      some (false)
     ) fun j7=>
    some (j7)
    ) fun u9=>
   bif (b7 == (0 : Int)) then
    (f37 x0 x1).bind fun i5=>
    jn (σ:=Unit) (fun _=>
     u9 ((9:Int))
     ) fun dB=>
    bif i5.2 then
     Option.bind (α:=Bool) (
      bif (o0.2 == (0 : Int)) then
       bif (o0.1 == i5.1) then
        (f14).bind fun y135=>
        some (y135)
       else
        some (false)
      else
       some (false)
      ) fun m7=>
     some (m7)
    else
     dB ()
   else
    u9 (b7)
   ) fun k54=>
  Option.bind (α:=Bool) (
   (f18 bB x0).bind fun n8=>
   bif (!n8) then
    some (true)
   else
    (f23 cB x1).bind fun iA=>
    some ((!iA))
   ) fun y6=>
  bif y6 then
   some (false)
  else
   k54 ()
  ) fun eD=>
 Option.bind (α:=Bool) (
  (f13 x0).bind fun a9=>
  bif a9 then
   some (true)
  else
   some ((decide (((x1).length:Int) > (30:Int))))
  ) fun a7=>
 bif a7 then
  (f14).bind fun jA=>
  some (jA)
 else
  eD ()
def f17 (x0:BoxLoom) (x1:List Int):Option ((List BoxPick) × Int × Int × Int):=
 (f51 x0).bind fun y4=>
 jn (σ:=(List BoxPick)) (fun cD=>
  (f53 x1).bind fun r8=>
  (f54 (y4.1) ((fun a0 a1=>f55 a0 a1))).bind fun y23=>
  jn (σ:=(List BoxPick)) (fun eD=>
   (f56 (y4.1)).bind fun gA=>
   (f57 big gA (([]:List (BoxPoint × Int))) r8 ((⟨0,0,y23⟩:BoxPoint))).bind fun iA=>
   Option.bind (α:=(List BoxPick) × (List (BoxPoint × Int))) (
    lp (σ:=(List BoxPick) × BoxPoint × (List (BoxPoint × Int))) (fun xD (a9,t8,d7)=>
     jn (σ:=Unit) (fun _=>
      Option.bind (α:=(List BoxPick) × BoxPoint × (List (BoxPoint × Int))) (
       (f58 gA d7 r8 t8).bind fun uA=>
       (apnd 16 a9 (([uA.1]:List BoxPick))).bind fun yD=>
       some (yD,uA.2.1,uA.2.2)
       ) fun (d9,bA,g7)=>
      xD (d9,bA,g7)
      ) fun zD=>
     bif (decide ((t8).group < ((r8).length : Int))) then
      zD ()
     else
      some (a9,d7)
     ) big (eD,(⟨0,0,y23⟩:BoxPoint),iA.2)
    ) fun (oA,jA)=>
   some (oA,iA.1,(0:Int),(0:Int))
   ) fun nG=>
  lp (σ:=(List BoxPick) × Int) (fun oG (pA,t5)=>
   bif (decide (t5 < ((x1).length : Int))) then
    jn (σ:=(List BoxPick)) (fun jB=>
     oG (jB,(w64 (t5 + (1:Int))))
     ) fun pG=>
    (f56 (y4.1)).bind fun qG=>
    (cut r8 0 (w64 (t5 + (1:Int)))).bind fun y84=>
    (f57 big qG (([]:List (BoxPoint × Int))) y84 ((⟨0,0,y23⟩:BoxPoint))).bind fun aE=>
    bif (decide (aE.1 ≥ (1073741824 : Int))) then
     some ([],(0:Int),t5,(9:Int))
    else
     pG (pA)
   else
    nG (pA)
   ) big (cD,(0:Int))
  ) fun rG=>
 bif (y4.2 != (0 : Int)) then
  some ([],(0:Int),(0:Int),y4.2)
 else
  bif (decide (((x1).length : Int) > (24 : Int))) then
   some ([],(0:Int),(0:Int),(5:Int))
  else
   (f52 x1).bind fun gD=>
   bif (!gD) then
    some ([],(0:Int),(0:Int),(2:Int))
   else
    rG ([])
end Go.Proofs.Ytmpjooneiaiffaa
