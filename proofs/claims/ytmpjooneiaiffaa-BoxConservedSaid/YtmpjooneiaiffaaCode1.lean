import Derived.Test.YtmpjooneiaiffaaTypes
import Derived.Test.YtmpjooneiaiffaaKn
import Derived.Test.YtmpjooneiaiffaaShelf
set_option maxRecDepth 8000
set_option maxHeartbeats 4000000
namespace Go.Proofs.Ytmpjooneiaiffaa
open Go.RowKit
theorem info_3:(Try.prog.info? 3).map (fun i=>(i.zero,i.size,i.bytes))=some (some (.int .i64 0),1,8):=by kernel_rfl
theorem info_87:(Try.prog.info? 87).map (fun i=>(i.zero,i.size,i.bytes))=some (some (.agg #[.int .i64 0,.int .i64 0,.int .i64 0,.int .i64 0,.int .i64 0]),5,40):=by kernel_rfl
theorem plain_Span:Plain Span:=fun _ m' _ w' x _ h=>(plain_two plain_int plain_int) _ m' _ w' _ _ h
theorem mixed:Try.prog.follows .mixedOrders=true:=by kernel_rfl
theorem plain_BoxShuttle:Plain BoxShuttle:=fun _ m' _ w' x _ h=>(plain_two plain_int (plain_two plain_int (plain_two plain_int plain_Span))) _ m' _ w' _ _ h
theorem info_83:(Try.prog.info? 83).map (fun i=>(i.zero,i.size,i.bytes))=some (some (.agg #[.int .i64 0,.int .i64 0]),2,16):=by kernel_rfl
theorem fl_85 : Try.prog.fieldsOf 85 = #[{ name := "Low", type := 3, offset := 0, embedded := false, tag := "", pkgPath := "", byteOffset := 0 }, { name := "High", type := 3, offset := 1, embedded := false, tag := "", pkgPath := "", byteOffset := 8 }] := by kernel_rfl
theorem seq_85:SEq (α:=Span) Try.prog 85:=by
 intro d x y w a b m wx m2 wy hx hy
 obtain ⟨_,⟨_,_,rfl,rfl,rfl⟩,rfl⟩:=hx
 obtain ⟨_,⟨_,_,rfl,rfl,rfl⟩,rfl⟩:=hy
 refine (run_equalIn_struct w (d + 1) 85 _ _ (by kernel_rfl) (by kernel_rfl)).trans ?_
 rw [fl_85]
 obtain ⟨x0,x1⟩:=x
 obtain ⟨y0,y1⟩:=y
 show (Op.eqFields (d + 1) #[.int .i64 (x0),.int .i64 (x1)] #[.int .i64 (y0),.int .i64 (y1)] _).run _ _=_
 have x0p:(part 3 #[.int .i64 (x0),.int .i64 (x1)] 0).run Try.prog w=.ok (.int .i64 (x0)) w:=part_one Try.isAgg3 rfl
 have x1p:(part 3 #[.int .i64 (x0),.int .i64 (x1)] 1).run Try.prog w=.ok (.int .i64 (x1)) w:=part_one Try.isAgg3 rfl
 have y0p:(part 3 #[.int .i64 (y0),.int .i64 (y1)] 0).run Try.prog w=.ok (.int .i64 (y0)) w:=part_one Try.isAgg3 rfl
 have y1p:(part 3 #[.int .i64 (y0),.int .i64 (y1)] 1).run Try.prog w=.ok (.int .i64 (y1)) w:=part_one Try.isAgg3 rfl
 simp only [Op.eqFields,Sem.run_bind,Sem.run_ite,Sem.run_pure,x0p,x1p,y0p,y1p,Result.andThen_ok,run_equalIn_int _ _ _ _ _ _ _ Try.underlying3]
 simp
 grind
theorem eg_85:Try.prog.eqGuardType Try.prog.depth 85=false:=by kernel_rfl
theorem lay_85:layoutOf Try.prog 85=some ([.int .i64 0,.int .i64 0],[(0,1),(1,1)]):=by kernel_rfl
theorem info_85:(Try.prog.info? 85).map (fun i=>(i.zero,i.size,i.bytes))=some (some (.agg #[.int .i64 0,.int .i64 0]),2,16):=by kernel_rfl
theorem lay_25:layoutOf Try.prog 25=some ([.slice none 0 0,.slice none 0 0,.slice none 0 0],[(0,1),(1,1),(2,1)]):=by kernel_rfl
theorem layA_137:((Try.prog.info? 137).bind (·.zero)).map (·.cells.toList)=some [.bool false,.bool false,.bool false,.bool false,.bool false,.bool false,.bool false,.bool false]:=by kernel_rfl
theorem szA_4:(Try.prog.info? 4).map (·.size)=some 1:=by kernel_rfl
theorem layA_69:((Try.prog.info? 69).bind (·.zero)).map (·.cells.toList)=some [.int .u8 0,.int .u8 0,.int .u8 0,.int .u8 0]:=by kernel_rfl
theorem szA_5:(Try.prog.info? 5).map (·.size)=some 1:=by kernel_rfl
theorem endm_c {P:Program} {e:Env} {ds:List Deferred} {w:World} {fn:Func} {R:Value→World→Prop} {t0:Tmp} {v0:Value} {y0:TypeId} {a0:Addr} (hres:fn.results=#[.cell t0 y0]) (hd:ds=[]) (h0:e t0=.pointer (some a0)) (l0:(loadVar y0 a0).run P w=.ok v0 w) (h:R v0 w):atEnd P fn R .ret e ds w:=
 ⟨hd,fun tmps ht=>⟨_,by simp [results,hres,ht,asAddr,h0,l0],h⟩⟩
theorem layA_76:((Try.prog.info? 76).bind (·.zero)).map (·.cells.toList)=some [.int .i64 0,.int .i64 0,.int .i64 0,.int .i64 0,.int .i64 0,.int .i64 0,.int .i64 0,.int .i64 0]:=by kernel_rfl
theorem szA_75:(Try.prog.info? 75).map (·.size)=some 4:=by kernel_rfl
theorem lay_87:layoutOf Try.prog 87=some ([.int .i64 0,.int .i64 0,.int .i64 0,.int .i64 0,.int .i64 0],[(0,1),(1,1),(2,1),(3,2)]):=by kernel_rfl
theorem lay_83:layoutOf Try.prog 83=some ([.int .i64 0,.int .i64 0],[(0,1),(1,1)]):=by kernel_rfl
theorem lay_102:layoutOf Try.prog 102=some ([.slice none 0 0,.slice none 0 0,.slice none 0 0],[(0,3)]):=by kernel_rfl
theorem capf_0_1 {e:Env} {f:FuncId} {o0:Operand} {b0:Value} (hb0:ev e o0=b0):(Value.func (.func f) ((#[]:Array Operand).map (ev e)) ((#[o0]:Array Operand).map (ev e)))=.func (.func f) #[] #[b0]:=by simp [hb0]
theorem endm_ct {P:Program} {e:Env} {ds:List Deferred} {w:World} {fn:Func} {R:Value→World→Prop} {t0:Tmp} {v0:Value} {y0:TypeId} {a0:Addr} {t1:Tmp} {v1:Value} (hres:fn.results=#[.cell t0 y0,.tmp t1]) (hd:ds=[]) (h0:e t0=.pointer (some a0)) (l0:(loadVar y0 a0).run P w=.ok v0 w) (h1:e t1=v1) (h:R (.tuple #[v0,v1]) w):atEnd P fn R .ret e ds w:=
 ⟨hd,fun tmps ht=>⟨_,by simp [results,hres,ht,asAddr,h0,l0,h1],h⟩⟩
theorem pl_75:Pl (Vector Int 4):=Pl.array Pl.int
theorem pl_76:Pl (Vector (Vector Int 4) 2):=Pl.array pl_75
theorem pl_83:Pl BoxPick:=Pl.of (Pl.prod Pl.int Pl.int)
theorem pl_108:Pl BoxRace:=Pl.of (Pl.prod pl_76 pl_83)
theorem pl_112:Pl BoxPoint:=Pl.of (Pl.prod Pl.int (Pl.prod Pl.int pl_108))
theorem lay_154:layoutOf Try.prog 154=some ([.int .i64 0,.int .i64 0,.map none],[(0,1),(1,1),(2,1)]):=by kernel_rfl
theorem capf_0_2 {e:Env} {f:FuncId} {o0:Operand} {i3:Operand} {b0:Value} {b1:Value} (hb0:ev e o0=b0) (hb1:ev e i3=b1):(Value.func (.func f) ((#[]:Array Operand).map (ev e)) ((#[o0,i3]:Array Operand).map (ev e)))=.func (.func f) #[] #[b0,b1]:=by simp [hb0,hb1]
theorem key_3:KeyLaw Try.prog 3 (Value.int .i64):=keyLaw_int Try.underlying3
theorem endm_ctt {P:Program} {e:Env} {ds:List Deferred} {w:World} {fn:Func} {R:Value→World→Prop} {t0:Tmp} {v0:Value} {y0:TypeId} {a0:Addr} {t1:Tmp} {v1:Value} {t2:Tmp} {v2:Value} (hres:fn.results=#[.cell t0 y0,.tmp t1,.tmp t2]) (hd:ds=[]) (h0:e t0=.pointer (some a0)) (l0:(loadVar y0 a0).run P w=.ok v0 w) (h1:e t1=v1) (h2:e t2=v2) (h:R (.tuple #[v0,v1,v2]) w):atEnd P fn R .ret e ds w:=
 ⟨hd,fun tmps ht=>⟨_,by simp [results,hres,ht,asAddr,h0,l0,h1,h2],h⟩⟩
theorem layA_138:((Try.prog.info? 138).bind (·.zero)).map (·.cells.toList)=some [.int .i64 0,.int .i64 0]:=by kernel_rfl
theorem szA_3:(Try.prog.info? 3).map (·.size)=some 1:=by kernel_rfl
theorem endm_ttct {P:Program} {e:Env} {ds:List Deferred} {w:World} {fn:Func} {R:Value→World→Prop} {t0:Tmp} {v0:Value} {t1:Tmp} {v1:Value} {t2:Tmp} {v2:Value} {y2:TypeId} {a2:Addr} {t3:Tmp} {v3:Value} (hres:fn.results=#[.tmp t0,.tmp t1,.cell t2 y2,.tmp t3]) (hd:ds=[]) (h0:e t0=v0) (h1:e t1=v1) (h2:e t2=.pointer (some a2)) (l2:(loadVar y2 a2).run P w=.ok v2 w) (h3:e t3=v3) (h:R (.tuple #[v0,v1,v2,v3]) w):atEnd P fn R .ret e ds w:=
 ⟨hd,fun tmps ht=>⟨_,by simp [results,hres,ht,asAddr,h0,h1,h2,l2,h3],h⟩⟩
@[reducible] def ow_BoxLoom:Ow BoxLoom:=Ow.struct (fun (x:BoxLoom)=>(x.Boxes,x.At,x.Shuttles)) (Ow.pair (Ow.list 3 (Ow.sh Int)) (Ow.pair (Ow.list 3 (Ow.sh Int)) (Ow.list 87 (Ow.sh BoxShuttle))))
theorem lay_144:layoutOf Try.prog 144=some ([.int .i64 0,.int .i64 0,.int .i64 0,.int .i64 0,.int .i64 0,.int .i64 0,.int .i64 0,.int .i64 0,.int .i64 0,.int .i64 0,.int .i64 0,.int .i64 0],[(0,10),(10,1),(11,1)]):=by kernel_rfl
theorem fl_BoxLoom_2:Fl ow_BoxLoom (Ow.list 87 (Ow.sh BoxShuttle)) 2 (fun (x:BoxLoom) y=>{ x with Shuttles:=y }) (fun (q:(ow_BoxLoom).S) (r:((Ow.list 87 (Ow.sh BoxShuttle))).S)=>(Prod.fst q,(Prod.fst (Prod.snd q),r))):=Fl.of _ (Fl.comp Prod.snd Prod.snd (Fl.snd _ _) (Fl.comp Prod.snd Prod.snd (Fl.snd _ _) (Fl.id_ _) rfl) rfl) (fun _ _=>rfl)
theorem fl_BoxShuttle_1:Fl (Ow.sh BoxShuttle) (Ow.sh Int) 1 (fun (x:BoxShuttle) y=>{ x with Side:=y }) (fun q _=>q):=Fl.shd part_BoxShuttle_1 (fun _ _=>rfl) (fun _ _ _=>rfl)
theorem fl_BoxShuttle_2:Fl (Ow.sh BoxShuttle) (Ow.sh Int) 2 (fun (x:BoxShuttle) y=>{ x with Box:=y }) (fun q _=>q):=Fl.shd part_BoxShuttle_2 (fun _ _=>rfl) (fun _ _ _=>rfl)
theorem lay_129:layoutOf Try.prog 129=some ([.slice none 0 0,.int .i64 0,.int .i64 0,.int .i64 0,.int .i64 0,.int .i64 0,.int .i64 0,.int .i64 0,.int .i64 0,.int .i64 0,.int .i64 0,.int .i64 0],[(0,1),(1,10),(11,1)]):=by kernel_rfl
theorem pl_138:Pl (Vector Int 2):=Pl.array Pl.int
theorem eqd_138:EqD Try.prog (Vector Int 2) 2 138:=EqD.array Try.underlying138 info_3 (by kernel_rfl) Try.isAgg3 Try.sizeOf3 (EqD.int Try.underlying3)
theorem ckd_138:CkD Try.prog (Vector Int 2) 2 138:=CkD.array Try.underlying138 info_3 (by kernel_rfl) Try.isAgg3 Try.sizeOf3 (CkD.int Try.underlying3)
theorem key_138:KeyLaw Try.prog 138 (encK pl_138):=keyLaw_pl pl_138 (by rw [Try.underlying138]) rfl eqd_138 ckd_138 (by decide)
theorem endm_cctt {P:Program} {e:Env} {ds:List Deferred} {w:World} {fn:Func} {R:Value→World→Prop} {t0:Tmp} {v0:Value} {y0:TypeId} {a0:Addr} {t1:Tmp} {v1:Value} {y1:TypeId} {a1:Addr} {t2:Tmp} {v2:Value} {t3:Tmp} {v3:Value} (hres:fn.results=#[.cell t0 y0,.cell t1 y1,.tmp t2,.tmp t3]) (hd:ds=[]) (h0:e t0=.pointer (some a0)) (l0:(loadVar y0 a0).run P w=.ok v0 w) (h1:e t1=.pointer (some a1)) (l1:(loadVar y1 a1).run P w=.ok v1 w) (h2:e t2=v2) (h3:e t3=v3) (h:R (.tuple #[v0,v1,v2,v3]) w):atEnd P fn R .ret e ds w:=
 ⟨hd,fun tmps ht=>⟨_,by simp [results,hres,ht,asAddr,h0,l0,h1,l1,h2,h3],h⟩⟩
theorem endm_tcttt {P:Program} {e:Env} {ds:List Deferred} {w:World} {fn:Func} {R:Value→World→Prop} {t0:Tmp} {v0:Value} {t1:Tmp} {v1:Value} {y1:TypeId} {a1:Addr} {t2:Tmp} {v2:Value} {t3:Tmp} {v3:Value} {t4:Tmp} {v4:Value} (hres:fn.results=#[.tmp t0,.cell t1 y1,.tmp t2,.tmp t3,.tmp t4]) (hd:ds=[]) (h0:e t0=v0) (h1:e t1=.pointer (some a1)) (l1:(loadVar y1 a1).run P w=.ok v1 w) (h2:e t2=v2) (h3:e t3=v3) (h4:e t4=v4) (h:R (.tuple #[v0,v1,v2,v3,v4]) w):atEnd P fn R .ret e ds w:=
 ⟨hd,fun tmps ht=>⟨_,by simp [results,hres,ht,asAddr,h0,h1,l1,h2,h3,h4],h⟩⟩
def f78 (x0:List Int):Option (List Int):=apnd 8 [] x0
theorem en78:Enters Try.prog 78:=enters_of Try.func78 (by kernel_rfl) rfl
def f79 (x0:List BoxShuttle):Option (List BoxShuttle):=apnd 40 [] x0
theorem en79:Enters Try.prog 79:=enters_of Try.func79 (by kernel_rfl) rfl
def f14:Option Bool:=some true
theorem en14:Enters Try.prog 14:=enters_of Try.func14 (by kernel_rfl) rfl
theorem wk14 {gI:Gh} {wI:World} {r:Bool} (h:f14=some r):Fn Try.prog 14 #[] gI wI (fun _ _ v=>v=.bool (r)):=by
 injection h with h
 subst h
 exact wkK14
theorem en81:Enters Try.prog 81:=enters_of Try.func81 (by kernel_rfl) rfl
theorem en82:Enters Try.prog 82:=enters_of Try.func82 (by kernel_rfl) rfl
def f28 (x0:List BoxPick):Option ((List BoxPick)):=
 (apnd 16 (([]:List BoxPick)) x0).bind fun y3=>
 some (y3)
theorem en28:Enters Try.prog 28:=enters_of Try.func28 (by kernel_rfl) rfl
theorem wk28 {gI:Gh} {wI:World} {x0:List BoxPick} {up0:Value} (rp0:RV gI.m wI x0 up0) {r:(List BoxPick)} (h:f28 x0=some r):Fn Try.prog 28 #[up0] gI wI (fun m w v=>RV m w (r) v):=by
 unfold f28 at h
 refine fn_of_E Try.func28 rfl (Nat.le_of_ble_eq_true rfl) fun g0 hm hfr=>?_
 have rp0:RV g0.m wI x0 up0:=hm ▸ rp0
 show E _ 6 none _ _ _ _ _
 refine Zf (Za (Zg (.slice none 0 0) rfl rfl ?_))
 refine Zb (Zd (Zf (Za (Ze .plain rfl (D_buildSlice (g:=g0) 3003 (xs:=([]:List BoxPick)) (vs:=[]) Try.underlying30 Try.sizeOf83 Try.zeroValue83 rfl rfl .nil RVs.nil rfl rfl fun g1 w1 v1 hs o1 r1 hxt hfl=>?_)))))
 have hfr:=hfr.stp hs
 have rp0:=rp0.stp hs
 refine Zn up0 rfl rfl ?_
 obtain ⟨y3,hy3,h⟩:=bsome h
 refine Ze .plain rfl (D_append (g:=g1) (i:=3003) Try.underlying30 info_83 rfl rfl o1 r1 rfl rp0 hy3 fun g2 w2 v2 hs o2 r2 _=>?_)
 have hfr:=hfr.stp hs
 refine Zg v2 rfl rfl ?_
 refine Zb (Zd (E_ret ?_))
 obtain rfl:=sinj h
 exact end1 rfl rfl (show _=v2 from rfl) ⟨_,hfr,r2⟩
def f41 (x0:BoxLoom) (x1:BoxLoom) (x2:Vector (Vector Int 4) 2):Option (Bool):=
 jn (σ:=Unit) (fun _=>
  jn (σ:=Unit) (fun _=>
   some (true)
   ) fun eD=>
  lp (σ:=Int) (fun gD i6=>
   jn (σ:=Unit) (fun _=>
    jn (σ:=Unit) (fun _=>
     gD ((w64 (i6 + (1:Int))))
     ) fun iD=>
    (idx ((x0).Shuttles) i6).bind fun o0=>
    (idx ((x1).Shuttles) i6).bind fun i3=>
    Option.bind (α:=Bool) (
     bif ((o0).Colour != (i3).Colour) then
      some (true)
     else
      bif (!(decide ((o0).Yarn = (i3).Yarn))) then
       some (true)
      else
       bif (decide ((o0).Side < (0 : Int))) then
        some (true)
       else
        bif (decide ((o0).Side > (1 : Int))) then
         some (true)
        else
         bif (decide ((o0).Box < (0 : Int))) then
          some (true)
         else
          bif (decide ((o0).Box > (3 : Int))) then
           some (true)
          else
           (idx (x2).toList (o0).Side).bind fun jD=>
           (idx (jD).toList (o0).Box).bind fun y9=>
           some ((y9 != (w64 (i6 + (1:Int)))))
     ) fun l8=>
    bif l8 then
     some (false)
    else
     iD ()
    ) fun kD=>
   bif (decide (i6 < (((x0).Shuttles).length : Int))) then
    kD ()
   else
    eD ()
   ) big ((0:Int))
  ) fun dF=>
 Option.bind (α:=Bool) (
  bif ((((x0).Shuttles).length : Int) != (((x1).Shuttles).length : Int)) then
   some (true)
  else
   bif ((((x0).Boxes).length : Int) != (2 : Int)) then
    some (true)
   else
    (idx ((x0).Boxes) (0:Int)).bind fun m8=>
    (idx ((x1).Boxes) (0:Int)).bind fun n8=>
    bif (m8 != n8) then
     some (true)
    else
     (idx ((x0).Boxes) (1:Int)).bind fun pA=>
     (idx ((x1).Boxes) (1:Int)).bind fun qA=>
     some ((pA != qA))
  ) fun t8=>
 bif t8 then
  some (false)
 else
  dF ()
theorem en41:Enters Try.prog 41:=enters_of Try.func41 (by kernel_rfl) rfl
theorem wk41 {gI:Gh} {wI:World} {x0:BoxLoom} {x1:BoxLoom} {x2:Vector (Vector Int 4) 2} {up0:Value} (rp0:RV gI.m wI x0 up0) {up1:Value} (rp1:RV gI.m wI x1 up1) {up2:Value} (rp2:RV gI.m wI x2 up2) {r:Bool} (h:f41 x0 x1 x2=some r):Fn Try.prog 41 #[up0,up1,up2] gI wI (fun _ _ v=>v=.bool (r)):=by
 unfold f41 at h
 refine fn_of_E Try.func41 rfl (Nat.le_of_ble_eq_true rfl) fun g0 hm hfr=>?_
 have rp0:RV g0.m wI x0 up0:=hm ▸ rp0
 have rp1:RV g0.m wI x1 up1:=hm ▸ rp1
 have rp2:RV g0.m wI x2 up2:=hm ▸ rp2
 show E _ 106 none _ _ _ _ _
 refine Zf (Za (Ze .plain rfl (D_box (g:=g0) rfl rp0 fun g1 w1 p1 hs q1=>?_)))
 have hfr:=hfr.ext hs
 have rp1:=rp1.ext hs
 have rp2:=rp2.ext hs
 refine Ze .plain rfl (D_box (g:=g1) rfl rp1 fun g2 w2 p2 hs q2=>?_)
 have hfr:=hfr.ext hs
 have rp2:=rp2.ext hs
 have q1:=q1.ext hs
 refine Ze .plain rfl (D_box (g:=g2) rfl rp2 fun g3 w3 p3 hs q3=>?_)
 have hfr:=hfr.ext hs
 have q1:=q1.ext hs
 have q2:=q2.ext hs
 refine Zg (.bool false) rfl rfl ?_
 refine Zb (Zd (Zq h (fun (s:Unit) e w=>∃ (g:Gh) ,Fr gI wI g w∧e 3=p1∧PT g.m w (x0:BoxLoom) p1∧e 4=p2∧PT g.m w (x1:BoxLoom) p2∧e 5=p3∧PT g.m w (x2:Vector (Vector Int 4) 2) p3) (fun X409 dF oG h=>?_) ?_))
 ·obtain ⟨t8, hx, h⟩ := bsome h
  refine E_join (fun e w=>∃ (g:Gh) ,Fr gI wI g w∧e 3=p1∧PT g.m w (x0:BoxLoom) p1∧e 4=p2∧PT g.m w (x1:BoxLoom) p2∧e 5=p3∧PT g.m w (x2:Vector (Vector Int 4) 2) p3∧e 44=.bool (t8)) (fun Q' hQ=>?_) (fun kJ sK hR=>?_)
  ·replace h := hx
   clear hx
   have cI:=Zm (part_BoxLoom_2).1 q1
   refine Zs (x:=.tmp 10) Try.isAgg23 Try.sizeOf23 cI fun lB mB jA=>?_
   have dI:=Zm (part_BoxLoom_2).1 q2
   refine Zs (x:=.tmp 13) Try.isAgg23 Try.sizeOf23 dI fun nB oB mA=>?_
   rcases Zt h with ⟨a7,h⟩ | ⟨a7,h⟩
   ·refine E_drawL (g := g3) (n := 35) [] [0, 1, 2, 3, 4, 5, 6, 7, 8, 9, 10, 11, 12, 13, 14, 15, 16, 17, 18, 19, 20, 21, 22, 23, 24, 25, 26, 27, 28, 29, 30, 31, 32, 33, 34] rfl mixed (by kernel_rfl) trivial ?_
    refine L_p (fPtr p1 2) rfl rfl (Zc at_25_2 rfl (PT.ptr q1)) ?_
    refine L_ld (c:=lB) rfl rfl .plain (fun _ _ h=>h.ch) jA rfl ?_
    refine L_p (.int .i64 (((x0).Shuttles).length:Int)) rfl rfl (P_len Try.underlying23 rfl mB) ?_
    refine L_p (fPtr p2 2) rfl rfl (Zc at_25_2 rfl (PT.ptr q2)) ?_
    refine L_ld (c:=nB) rfl rfl .plain (fun _ _ h=>h.ch) mA rfl ?_
    refine L_p (.int .i64 (((x1).Shuttles).length:Int)) rfl rfl (P_len Try.underlying23 rfl oB) ?_
    refine L_p (.bool (((((x0).Shuttles).length:Int) != (((x1).Shuttles).length:Int)))) rfl rfl (P_int rfl rfl rfl) ?_
    refine L_p (.bool (((((x0).Shuttles).length:Int) != (((x1).Shuttles).length:Int)))) rfl rfl (Zk rfl) ?_
    iterate 4 refine L_s rfl rfl rfl a7 rfl ?_
    refine L_p (.bool true) rfl rfl (Zl (b:=((((x0).Shuttles).length:Int) != (((x1).Shuttles).length:Int))) rfl (pick_t a7 rfl)) ?_
    refine L_dead (fun _=>rfl) 22 rfl ?_
    refine L_nl fun iI tK hs=>?_
    have hfr:=hfr.ext hs
    have q1:=q1.ext hs
    have q2:=q2.ext hs
    have q3:=q3.ext hs
    clear hs
    refine Zb ?_
    obtain rfl:=sinj h
    exact hQ _ _ ⟨iI,hfr,rfl,q1,rfl,q2,rfl,q3,rfl⟩
   ·have jI := Zm (part_BoxLoom_0).1 q1
    refine Zs (x:=.tmp 18) Try.isAgg22 Try.sizeOf22 jI fun vC aD tB=>?_
    rcases Zt h with ⟨v6,h⟩ | ⟨v6,h⟩
    ·refine E_drawL (g := g3) (n := 35) [] [0, 1, 2, 3, 4, 5, 6, 7, 8, 9, 10, 11, 12, 13, 14, 15, 16, 17, 18, 19, 20, 21, 22, 23, 24, 25, 26, 27, 28, 29, 30, 31, 32, 33, 34] rfl mixed (by kernel_rfl) trivial ?_
     refine L_p (fPtr p1 2) rfl rfl (Zc at_25_2 rfl (PT.ptr q1)) ?_
     refine L_ld (c:=lB) rfl rfl .plain (fun _ _ h=>h.ch) jA rfl ?_
     refine L_p (.int .i64 (((x0).Shuttles).length:Int)) rfl rfl (P_len Try.underlying23 rfl mB) ?_
     refine L_p (fPtr p2 2) rfl rfl (Zc at_25_2 rfl (PT.ptr q2)) ?_
     refine L_ld (c:=nB) rfl rfl .plain (fun _ _ h=>h.ch) mA rfl ?_
     refine L_p (.int .i64 (((x1).Shuttles).length:Int)) rfl rfl (P_len Try.underlying23 rfl oB) ?_
     refine L_p (.bool (((((x0).Shuttles).length:Int) != (((x1).Shuttles).length:Int)))) rfl rfl (P_int rfl rfl rfl) ?_
     refine L_p (.bool (((((x0).Shuttles).length:Int) != (((x1).Shuttles).length:Int)))) rfl rfl (Zk rfl) ?_
     refine L_y (fPtr p1 0) rfl rfl rfl rfl a7 (Zc at_25_0 rfl (PT.ptr q1)) ?_
     refine L_ld (c:=vC) rfl rfl (.yes2 rfl rfl a7) (fun _ _ h=>h.ch) tB rfl ?_
     refine L_y (.int .i64 (((x0).Boxes).length:Int)) rfl rfl rfl rfl a7 (P_len Try.underlying22 rfl aD) ?_
     refine L_y (.bool (((((x0).Boxes).length:Int) != (2:Int)))) rfl rfl rfl rfl a7 (P_int rfl rfl rfl) ?_
     refine L_p (.bool (((((x0).Boxes).length:Int) != (2:Int)))) rfl rfl (Zl (b:=((((x0).Shuttles).length:Int) != (((x1).Shuttles).length:Int))) rfl (pick_f a7 rfl)) ?_
     refine L_p (.bool (((((x0).Boxes).length:Int) != (2:Int)))) rfl rfl (Zk rfl) ?_
     iterate 9 refine L_s rfl rfl rfl v6 rfl ?_
     refine L_p (.bool true) rfl rfl (Zl (b:=((((x0).Boxes).length:Int) != (2:Int))) rfl (pick_t v6 rfl)) ?_
     refine L_dead (fun _=>rfl) 11 rfl ?_
     refine L_nl fun kI uK hs=>?_
     have hfr:=hfr.ext hs
     have q1:=q1.ext hs
     have q2:=q2.ext hs
     have q3:=q3.ext hs
     clear hs
     refine Zb ?_
     obtain rfl:=sinj h
     exact hQ _ _ ⟨kI,hfr,rfl,q1,rfl,q2,rfl,q3,rfl⟩
    ·have lI := Zm (part_BoxLoom_0).1 q1
     refine Zs (x:=.tmp 24) Try.isAgg22 Try.sizeOf22 lI fun vB bD lD=>?_
     obtain ⟨m8,yB,h⟩:=bsome h
     have mI:=PT_idx bD yB
     refine Zs (x:=.tmp 26) Try.isAgg3 Try.sizeOf3 mI fun vK nI mD=>?_
     obtain rfl:=Zj.1 nI
     have pI:=Zm (part_BoxLoom_0).1 q2
     refine Zs (x:=.tmp 28) Try.isAgg22 Try.sizeOf22 pI fun zB cD nD=>?_
     obtain ⟨n8,aC,h⟩:=bsome h
     have qI:=PT_idx cD aC
     refine Zs (x:=.tmp 30) Try.isAgg3 Try.sizeOf3 qI fun xK rI oD=>?_
     obtain rfl:=Zj.1 rI
     rcases Zt h with ⟨v7,h⟩ | ⟨v7,h⟩
     ·refine E_drawL (g := g3) (n := 35) [] [0, 1, 2, 3, 4, 5, 6, 7, 8, 9, 10, 11, 12, 13, 14, 15, 16, 17, 18, 19, 20, 21, 22, 23, 24, 25, 26, 27, 28, 29, 30, 31, 32, 33, 34] rfl mixed (by kernel_rfl) trivial ?_
      refine L_p (fPtr p1 2) rfl rfl (Zc at_25_2 rfl (PT.ptr q1)) ?_
      refine L_ld (c:=lB) rfl rfl .plain (fun _ _ h=>h.ch) jA rfl ?_
      refine L_p (.int .i64 (((x0).Shuttles).length:Int)) rfl rfl (P_len Try.underlying23 rfl mB) ?_
      refine L_p (fPtr p2 2) rfl rfl (Zc at_25_2 rfl (PT.ptr q2)) ?_
      refine L_ld (c:=nB) rfl rfl .plain (fun _ _ h=>h.ch) mA rfl ?_
      refine L_p (.int .i64 (((x1).Shuttles).length:Int)) rfl rfl (P_len Try.underlying23 rfl oB) ?_
      refine L_p (.bool (((((x0).Shuttles).length:Int) != (((x1).Shuttles).length:Int)))) rfl rfl (P_int rfl rfl rfl) ?_
      refine L_p (.bool (((((x0).Shuttles).length:Int) != (((x1).Shuttles).length:Int)))) rfl rfl (Zk rfl) ?_
      refine L_y (fPtr p1 0) rfl rfl rfl rfl a7 (Zc at_25_0 rfl (PT.ptr q1)) ?_
      refine L_ld (c:=vC) rfl rfl (.yes2 rfl rfl a7) (fun _ _ h=>h.ch) tB rfl ?_
      refine L_y (.int .i64 (((x0).Boxes).length:Int)) rfl rfl rfl rfl a7 (P_len Try.underlying22 rfl aD) ?_
      refine L_y (.bool (((((x0).Boxes).length:Int) != (2:Int)))) rfl rfl rfl rfl a7 (P_int rfl rfl rfl) ?_
      refine L_p (.bool (((((x0).Boxes).length:Int) != (2:Int)))) rfl rfl (Zl (b:=((((x0).Shuttles).length:Int) != (((x1).Shuttles).length:Int))) rfl (pick_f a7 rfl)) ?_
      refine L_p (.bool (((((x0).Boxes).length:Int) != (2:Int)))) rfl rfl (Zk rfl) ?_
      refine L_y (fPtr p1 0) rfl rfl rfl rfl v6 (Zc at_25_0 rfl (PT.ptr q1)) ?_
      refine L_ld (c:=vB) rfl rfl (.yes2 rfl rfl v6) (fun _ _ h=>h.ch) lD rfl ?_
      refine L_y (ePtr vB (0:Int) 1) rfl rfl rfl rfl v6 (Zh (α:=Int) Try.underlying22 Try.sizeOf3 rfl bD rfl yB) ?_
      refine L_ld (c:=.int .i64 (m8)) rfl rfl (.yes2 rfl rfl v6) (fun _ _ h=>h.ch) mD rfl ?_
      refine L_y (fPtr p2 0) rfl rfl rfl rfl v6 (Zc at_25_0 rfl (PT.ptr q2)) ?_
      refine L_ld (c:=zB) rfl rfl (.yes2 rfl rfl v6) (fun _ _ h=>h.ch) nD rfl ?_
      refine L_y (ePtr zB (0:Int) 1) rfl rfl rfl rfl v6 (Zh (α:=Int) Try.underlying22 Try.sizeOf3 rfl cD rfl aC) ?_
      refine L_ld (c:=.int .i64 (n8)) rfl rfl (.yes2 rfl rfl v6) (fun _ _ h=>h.ch) oD rfl ?_
      refine L_y (.bool ((m8 != n8))) rfl rfl rfl rfl v6 (P_int rfl rfl rfl) ?_
      refine L_p (.bool ((m8 != n8))) rfl rfl (Zl (b:=((((x0).Boxes).length:Int) != (2:Int))) rfl (pick_f v6 rfl)) ?_
      refine L_p (.bool ((m8 != n8))) rfl rfl (Zk rfl) ?_
      iterate 9 refine L_s rfl rfl rfl v7 rfl ?_
      refine L_p (.bool true) rfl rfl (Zl (b:=(m8 != n8)) rfl (pick_t v7 rfl)) ?_
      refine L_nl fun sI yK hs=>?_
      have hfr:=hfr.ext hs
      have q1:=q1.ext hs
      have q2:=q2.ext hs
      have q3:=q3.ext hs
      clear hs
      refine Zb ?_
      obtain rfl:=sinj h
      exact hQ _ _ ⟨sI,hfr,rfl,q1,rfl,q2,rfl,q3,rfl⟩
     ·have tI := Zm (part_BoxLoom_0).1 q1
      refine Zs (x:=.tmp 35) Try.isAgg22 Try.sizeOf22 tI fun eF iF pG=>?_
      obtain ⟨pA,sD,h⟩:=bsome h
      have uI:=PT_idx iF sD
      refine Zs (x:=.tmp 37) Try.isAgg3 Try.sizeOf3 uI fun zK vI qG=>?_
      obtain rfl:=Zj.1 vI
      have xI:=Zm (part_BoxLoom_0).1 q2
      refine Zs (x:=.tmp 39) Try.isAgg22 Try.sizeOf22 xI fun nF oF rG=>?_
      obtain ⟨qA,tD,h⟩:=bsome h
      have yI:=PT_idx oF tD
      refine Zs (x:=.tmp 41) Try.isAgg3 Try.sizeOf3 yI fun aL zI sG=>?_
      obtain rfl:=Zj.1 zI
      refine E_drawL (g:=g3) (n:=35) [] [0,1,2,3,4,5,6,7,8,9,10,11,12,13,14,15,16,17,18,19,20,21,22,23,24,25,26,27,28,29,30,31,32,33,34] rfl mixed (by kernel_rfl) trivial ?_
      refine L_p (fPtr p1 2) rfl rfl (Zc at_25_2 rfl (PT.ptr q1)) ?_
      refine L_ld (c:=lB) rfl rfl .plain (fun _ _ h=>h.ch) jA rfl ?_
      refine L_p (.int .i64 (((x0).Shuttles).length:Int)) rfl rfl (P_len Try.underlying23 rfl mB) ?_
      refine L_p (fPtr p2 2) rfl rfl (Zc at_25_2 rfl (PT.ptr q2)) ?_
      refine L_ld (c:=nB) rfl rfl .plain (fun _ _ h=>h.ch) mA rfl ?_
      refine L_p (.int .i64 (((x1).Shuttles).length:Int)) rfl rfl (P_len Try.underlying23 rfl oB) ?_
      refine L_p (.bool (((((x0).Shuttles).length:Int) != (((x1).Shuttles).length:Int)))) rfl rfl (P_int rfl rfl rfl) ?_
      refine L_p (.bool (((((x0).Shuttles).length:Int) != (((x1).Shuttles).length:Int)))) rfl rfl (Zk rfl) ?_
      refine L_y (fPtr p1 0) rfl rfl rfl rfl a7 (Zc at_25_0 rfl (PT.ptr q1)) ?_
      refine L_ld (c:=vC) rfl rfl (.yes2 rfl rfl a7) (fun _ _ h=>h.ch) tB rfl ?_
      refine L_y (.int .i64 (((x0).Boxes).length:Int)) rfl rfl rfl rfl a7 (P_len Try.underlying22 rfl aD) ?_
      refine L_y (.bool (((((x0).Boxes).length:Int) != (2:Int)))) rfl rfl rfl rfl a7 (P_int rfl rfl rfl) ?_
      refine L_p (.bool (((((x0).Boxes).length:Int) != (2:Int)))) rfl rfl (Zl (b:=((((x0).Shuttles).length:Int) != (((x1).Shuttles).length:Int))) rfl (pick_f a7 rfl)) ?_
      refine L_p (.bool (((((x0).Boxes).length:Int) != (2:Int)))) rfl rfl (Zk rfl) ?_
      refine L_y (fPtr p1 0) rfl rfl rfl rfl v6 (Zc at_25_0 rfl (PT.ptr q1)) ?_
      refine L_ld (c:=vB) rfl rfl (.yes2 rfl rfl v6) (fun _ _ h=>h.ch) lD rfl ?_
      refine L_y (ePtr vB (0:Int) 1) rfl rfl rfl rfl v6 (Zh (α:=Int) Try.underlying22 Try.sizeOf3 rfl bD rfl yB) ?_
      refine L_ld (c:=.int .i64 (m8)) rfl rfl (.yes2 rfl rfl v6) (fun _ _ h=>h.ch) mD rfl ?_
      refine L_y (fPtr p2 0) rfl rfl rfl rfl v6 (Zc at_25_0 rfl (PT.ptr q2)) ?_
      refine L_ld (c:=zB) rfl rfl (.yes2 rfl rfl v6) (fun _ _ h=>h.ch) nD rfl ?_
      refine L_y (ePtr zB (0:Int) 1) rfl rfl rfl rfl v6 (Zh (α:=Int) Try.underlying22 Try.sizeOf3 rfl cD rfl aC) ?_
      refine L_ld (c:=.int .i64 (n8)) rfl rfl (.yes2 rfl rfl v6) (fun _ _ h=>h.ch) oD rfl ?_
      refine L_y (.bool ((m8 != n8))) rfl rfl rfl rfl v6 (P_int rfl rfl rfl) ?_
      refine L_p (.bool ((m8 != n8))) rfl rfl (Zl (b:=((((x0).Boxes).length:Int) != (2:Int))) rfl (pick_f v6 rfl)) ?_
      refine L_p (.bool ((m8 != n8))) rfl rfl (Zk rfl) ?_
      refine L_y (fPtr p1 0) rfl rfl rfl rfl v7 (Zc at_25_0 rfl (PT.ptr q1)) ?_
      refine L_ld (c:=eF) rfl rfl (.yes2 rfl rfl v7) (fun _ _ h=>h.ch) pG rfl ?_
      refine L_y (ePtr eF (1:Int) 1) rfl rfl rfl rfl v7 (Zh (α:=Int) Try.underlying22 Try.sizeOf3 rfl iF rfl sD) ?_
      refine L_ld (c:=.int .i64 (pA)) rfl rfl (.yes2 rfl rfl v7) (fun _ _ h=>h.ch) qG rfl ?_
      refine L_y (fPtr p2 0) rfl rfl rfl rfl v7 (Zc at_25_0 rfl (PT.ptr q2)) ?_
      refine L_ld (c:=nF) rfl rfl (.yes2 rfl rfl v7) (fun _ _ h=>h.ch) rG rfl ?_
      refine L_y (ePtr nF (1:Int) 1) rfl rfl rfl rfl v7 (Zh (α:=Int) Try.underlying22 Try.sizeOf3 rfl oF rfl tD) ?_
      refine L_ld (c:=.int .i64 (qA)) rfl rfl (.yes2 rfl rfl v7) (fun _ _ h=>h.ch) sG rfl ?_
      refine L_y (.bool ((pA != qA))) rfl rfl rfl rfl v7 (P_int rfl rfl rfl) ?_
      refine L_p (.bool ((pA != qA))) rfl rfl (Zl (b:=(m8 != n8)) rfl (pick_f v7 rfl)) ?_
      refine L_nl fun aJ bL hs=>?_
      have hfr:=hfr.ext hs
      have q1:=q1.ext hs
      have q2:=q2.ext hs
      have q3:=q3.ext hs
      clear hs
      refine Zb ?_
      obtain rfl:=sinj h
      exact hQ _ _ ⟨aJ,hfr,rfl,q1,rfl,q2,rfl,q3,rfl⟩
  ·clear hx
   obtain ⟨bJ,hfr,pF,qF,rF,sF,tF,uF,dB⟩:=hR
   rcases Zt h with ⟨cC,h⟩ | ⟨cC,h⟩
   ·refine E_cond_true (Eq.trans (show ev _ _ = .bool (t8) from dB) (congrArg Value.bool cC)) ?_
    refine Zf (Za (Zg (.bool false) rfl rfl ?_))
    refine Zb (Zd (E_ret (thn_r ?_)))
    obtain rfl:=sinj h
    exact end1 rfl rfl (show _=.bool false from rfl) ⟨_,hfr,rfl⟩
   ·refine E_cond_false (Eq.trans (show ev _ _ = .bool (t8) from dB) (congrArg Value.bool cC)) ?_
    exact Zu (Zd (oG () _ _ ⟨bJ,hfr,pF,qF,rF,sF,tF,uF⟩ h))
 ·rintro _ lJ cL ⟨cJ, hfr, vF, xF, yF, zF, aG, bG⟩ h
  refine Zq h (fun (s:Unit) e w=>∃ (g:Gh) ,Fr gI wI g w) (fun X2725 eD cG h=>?_) ?_
  ·refine Zf (Za (Zg (.int .i64 (0)) rfl rfl ?_))
   refine Zb (Zd (Zr ?_))
   refine E_lp h (fun (s:Int) e w=>∃ (g:Gh) ,Fr gI wI g w∧e 3=p1∧PT g.m w (x0:BoxLoom) p1∧e 4=p2∧PT g.m w (x1:BoxLoom) p2∧e 5=p3∧PT g.m w (x2:Vector (Vector Int 4) 2) p3∧e 7=.int .i64 (s)) ⟨cJ,hfr,vF,xF,yF,zF,aG,bG,rfl⟩ (fun X2726 gD dG=>?_)
   rintro i6 dJ mJ ⟨eC,hfr,iB,gA,eE,gE,iE,jE,jB⟩ h
   refine Zq h (fun (s:Unit) e w=>∃ (g:Gh) ,Fr gI wI g w∧e 3=p1∧PT g.m w (x0:BoxLoom) p1∧e 4=p2∧PT g.m w (x1:BoxLoom) p2∧e 5=p3∧PT g.m w (x2:Vector (Vector Int 4) 2) p3∧e 7=.int .i64 (i6)) (fun X2731 kD eG h=>?_) ?_
   ·refine Zf (Za (Zo jB rfl ?_))
    refine EL_p (fPtr p1 2) (Zc at_25_2 iB (PT.ptr gA)) rfl ?_
    have tG:=Zm (part_BoxLoom_2).1 gA
    refine Ze .plain rfl (D_load (g:=eC) Try.isAgg23 Try.sizeOf23 rfl tG fun nJ uG=>?_)
    refine EL_p (.int .i64 (((x0).Shuttles).length:Int)) (P_len Try.underlying23 rfl uG) rfl ?_
    refine EL_p (.bool ((decide (i6 < (((x0).Shuttles).length:Int))))) (P_int rfl rfl rfl) rfl ?_
    refine Zb (Zd ?_)
    rcases Zt h with ⟨rA,h⟩ | ⟨rA,h⟩
    ·refine E_ct rA rfl ?_
     exact Zu (Zd (eG () _ _ ⟨eC,hfr,iB,gA,eE,gE,iE,jE,jB⟩ h))
    ·refine E_cf rA rfl ?_
     refine E_exit ?_
     refine thn_e ?_
     refine thn_e ?_
     refine blk_hit ?_
     exact Zd (cG () _ _ ⟨eC,hfr⟩ h)
   ·rintro _ eJ vG ⟨uD, hfr, g8, i5, i8, l5, k8, t5, i7⟩ h
    refine Zq h (fun (s:Unit) e w=>∃ (g:Gh) ,Fr gI wI g w∧e 3=p1∧PT g.m w (x0:BoxLoom) p1∧e 4=p2∧PT g.m w (x1:BoxLoom) p2∧e 5=p3∧PT g.m w (x2:Vector (Vector Int 4) 2) p3∧e 7=.int .i64 (i6)) (fun X3685 iD gG h=>?_) ?_
    ·refine Zr ?_
     refine Zf ?_
     have xG:=Zm (part_BoxLoom_2).1 i5
     refine Zs (x:=.tmp 52) Try.isAgg23 Try.sizeOf23 xG fun vD xD hG=>?_
     obtain ⟨o0,lC,h⟩:=bsome h
     have yG:=PT_idx xD lC
     refine Zs (x:=.tmp 55) Try.isAgg87 Try.sizeOf87 yG fun yD iC iG=>?_
     have zG:=Zm (part_BoxLoom_2).1 l5
     refine Zs (x:=.tmp 57) Try.isAgg23 Try.sizeOf23 zG fun zD aE jG=>?_
     obtain ⟨i3,mC,h⟩:=bsome h
     have aH:=PT_idx aE mC
     refine Zs (x:=.tmp 60) Try.isAgg87 Try.sizeOf87 aH fun bE z9 kG=>?_
     refine E_drawTL (g:=uD) (n:=12) [5,6,7,8,9] [(10,(fun v g w=>OB 2008 g w 87 (⟨0,0,0,⟨0,0⟩⟩:BoxShuttle) v)),(11,(fun v g w=>OB 2009 g w 87 (⟨0,0,0,⟨0,0⟩⟩:BoxShuttle) v))] [0,1,2,3,4,5,6,7,8,9,10,11] rfl mixed (by kernel_rfl) (⟨fun _=>up_ob,fun _=>up_ob,trivial⟩) rfl ?_
     refine L_p (fPtr p1 2) rfl rfl (Zc at_25_2 g8 (PT.ptr i5)) ?_
     refine L_ld (c:=vD) rfl rfl .plain (fun _ _ h=>h.ch) hG rfl ?_
     refine L_p (.int .i64 (i6)) rfl rfl (Zk i7) ?_
     refine L_p (ePtr vD i6 5) rfl rfl (Zh (α:=BoxShuttle) Try.underlying23 Try.sizeOf87 rfl xD rfl lC) ?_
     refine L_ld (c:=yD) rfl rfl .plain (fun _ _ h=>h.ch) iG rfl ?_
     refine L_purL (c:=fPtr p2 2) rfl rfl .plain (Zc at_25_2 i8 (PT.ptr l5)) ?_
     refine L_ldL (c:=zD) rfl rfl .plain (fun _ _ h=>h.ch) rfl jG rfl ?_
     refine L_purL (c:=.int .i64 (i6)) rfl rfl .plain (Zk i7) ?_
     refine L_purL (c:=ePtr zD i6 5) rfl rfl .plain (Zh (α:=BoxShuttle) Try.underlying23 Try.sizeOf87 rfl aE rfl mC) ?_
     refine L_ldL (c:=bE) rfl rfl .plain (fun _ _ h=>h.ch) rfl kG rfl ?_
     refine L_do (φ:=fun v g w=>OB 2008 g w 87 (⟨0,0,0,⟨0,0⟩⟩:BoxShuttle) v) rfl rfl .plain (fun g w hd=>D_allocX (g:=g) 2008 (⟨0,0,0,⟨0,0⟩⟩:BoxShuttle) Try.zeroValue87 (fun m w=>⟨_,(rep_two rep_int (rep_two rep_int (rep_two rep_int (rep_two rep_int rep_int)))),rfl⟩) fun g' w' v hs b=>⟨g',hs,b⟩) (fun x5 hv=>?_)
     clear hv
     refine L_do (φ:=fun v g w=>OB 2009 g w 87 (⟨0,0,0,⟨0,0⟩⟩:BoxShuttle) v) rfl rfl .plain (fun g w hd=>D_allocX (g:=g) 2009 (⟨0,0,0,⟨0,0⟩⟩:BoxShuttle) Try.zeroValue87 (fun m w=>⟨_,(rep_two rep_int (rep_two rep_int (rep_two rep_int (rep_two rep_int rep_int)))),rfl⟩) fun g' w' v hs b=>⟨g',hs,b⟩) (fun j7 hv=>?_)
     clear hv
     refine L_nil fun cE bH hall=>?_
     have hs:=hall.1
     have hlt:Lt uD.m vG cE bH:=hs.ch
     have hfr:=hfr.ext hs
     have i5:=i5.ext hs
     have l5:=l5.ext hs
     have t5:=t5.ext hs
     have iC:=iC.ext hs
     have z9:=z9.ext hs
     have b3713:=(word_all (A:=fun g w=>OB 2008 g w 87 (⟨0,0,0,⟨0,0⟩⟩:BoxShuttle) x5) 10 rfl hall)
     have b3714:=(word_all (A:=fun g w=>OB 2009 g w 87 (⟨0,0,0,⟨0,0⟩⟩:BoxShuttle) j7) 11 rfl hall)
     clear hs hall
     refine TL_do hlt.w .plain rfl (D_storeOc (g:=cE) (v:=yD) Try.sizeOf87 rfl b3713 rfl iC fun cH oJ hs b3715 cb=>?_)
     clear cb
     have hfr:=hfr.stp hs
     have hlt:=hlt.stp hs
     have i5:=i5.stp hs
     have l5:=l5.stp hs
     have t5:=t5.stp hs
     have z9:=z9.stp hs
     have b3714:=b3714.stp hs rfl
     refine TL_do hlt.w .plain rfl (D_storeOc (g:=cH) (v:=bE) Try.sizeOf87 rfl b3714 rfl z9 fun a9 pJ hs b3716 cb=>?_)
     clear cb
     have hfr:=hfr.stp hs
     have hlt:=hlt.stp hs
     have i5:=i5.stp hs
     have l5:=l5.stp hs
     have t5:=t5.stp hs
     have b3715:=b3715.stp hs rfl
     refine TL_nil hlt.w ?_
     clear hlt
     refine Zd ?_
     obtain ⟨l8,hx,h⟩:=bsome h
     refine E_join (fun e w=>∃ (g:Gh) ,Fr gI wI g w∧e 3=p1∧PT g.m w (x0:BoxLoom) p1∧e 4=p2∧PT g.m w (x1:BoxLoom) p2∧e 5=p3∧PT g.m w (x2:Vector (Vector Int 4) 2) p3∧e 7=.int .i64 (i6)∧e 105=.bool (l8)) (fun Q' hQ=>?_) (fun gJ qJ hR=>?_)
     ·replace h := hx
      clear hx
      refine L_loadO (x:=.tmp 62) part_BoxShuttle_0.1 Try.isAgg3 Try.sizeOf3 b3715 fun rJ dH q8=>?_
      obtain rfl:=Zj.1 dH
      refine L_loadO (x:=.tmp 64) part_BoxShuttle_0.1 Try.isAgg3 Try.sizeOf3 b3716 fun sJ gH r8=>?_
      obtain rfl:=Zj.1 gH
      rcases Zt h with ⟨u3,h⟩ | ⟨u3,h⟩
      ·refine E_drawL (g := a9) (n := 44) [] [0, 1, 2, 3, 4, 5, 6, 7, 8, 9, 10, 11, 12, 13, 14, 15, 16, 17, 18, 19, 20, 21, 22, 23, 24, 25, 26, 27, 28, 29, 30, 31, 32, 33, 34, 35, 36, 37, 38, 39, 40, 41, 42, 43] rfl mixed (by kernel_rfl) trivial ?_
       refine L_p (fPtr x5 0) rfl rfl (Zc at_87_0 rfl (OB.ptr b3715)) ?_
       refine L_ld (c:=.int .i64 ((o0).Colour)) rfl rfl .plain (fun _ _ h=>⟨h.ch,fun b hb _=>h.below.block b hb⟩) q8 rfl ?_
       refine L_p (fPtr j7 0) rfl rfl (Zc at_87_0 rfl (OB.ptr b3716)) ?_
       refine L_ld (c:=.int .i64 ((i3).Colour)) rfl rfl .plain (fun _ _ h=>⟨h.ch,fun b hb _=>h.below.block b hb⟩) r8 rfl ?_
       refine L_p (.bool (((o0).Colour != (i3).Colour))) rfl rfl (P_int rfl rfl rfl) ?_
       refine L_p (.bool (((o0).Colour != (i3).Colour))) rfl rfl (Zk rfl) ?_
       iterate 5 refine L_s rfl rfl rfl u3 rfl ?_
       refine L_p (.bool true) rfl rfl (Zl (b:=((o0).Colour != (i3).Colour)) rfl (pick_t u3 rfl)) ?_
       refine L_dead (fun _=>rfl) 32 rfl ?_
       refine L_nl fun iH tJ hs=>?_
       have hfr:=hfr.ext hs
       have i5:=i5.ext hs
       have l5:=l5.ext hs
       have t5:=t5.ext hs
       clear hs
       refine Zb ?_
       obtain rfl:=sinj h
       exact hQ _ _ ⟨iH,hfr,g8,i5,i8,l5,k8,t5,i7,rfl⟩
      ·refine L_loadO (x := .tmp 68) part_BoxShuttle_3.1 Try.isAgg85 Try.sizeOf85 b3715 fun k9 l9 v8 => ?_
       refine L_loadO (x:=.tmp 70) part_BoxShuttle_3.1 Try.isAgg85 Try.sizeOf85 b3716 fun n9 u9 x8=>?_
       rcases Zt h with ⟨j6,h⟩ | ⟨j6,h⟩
       ·refine E_drawL (g := a9) (n := 44) [] [0, 1, 2, 3, 4, 5, 6, 7, 8, 9, 10, 11, 12, 13, 14, 15, 16, 17, 18, 19, 20, 21, 22, 23, 24, 25, 26, 27, 28, 29, 30, 31, 32, 33, 34, 35, 36, 37, 38, 39, 40, 41, 42, 43] rfl mixed (by kernel_rfl) trivial ?_
        refine L_p (fPtr x5 0) rfl rfl (Zc at_87_0 rfl (OB.ptr b3715)) ?_
        refine L_ld (c:=.int .i64 ((o0).Colour)) rfl rfl .plain (fun _ _ h=>⟨h.ch,fun b hb _=>h.below.block b hb⟩) q8 rfl ?_
        refine L_p (fPtr j7 0) rfl rfl (Zc at_87_0 rfl (OB.ptr b3716)) ?_
        refine L_ld (c:=.int .i64 ((i3).Colour)) rfl rfl .plain (fun _ _ h=>⟨h.ch,fun b hb _=>h.below.block b hb⟩) r8 rfl ?_
        refine L_p (.bool (((o0).Colour != (i3).Colour))) rfl rfl (P_int rfl rfl rfl) ?_
        refine L_p (.bool (((o0).Colour != (i3).Colour))) rfl rfl (Zk rfl) ?_
        refine L_y (fPtr x5 3) rfl rfl rfl rfl u3 (Zc at_87_3 rfl (OB.ptr b3715)) ?_
        refine L_ld (c:=k9) rfl rfl (.yes2 rfl rfl u3) (fun _ _ h=>⟨h.ch,fun b hb _=>h.below.block b hb⟩) v8 rfl ?_
        refine L_y (fPtr j7 3) rfl rfl rfl rfl u3 (Zc at_87_3 rfl (OB.ptr b3716)) ?_
        refine L_ld (c:=n9) rfl rfl (.yes2 rfl rfl u3) (fun _ _ h=>⟨h.ch,fun b hb _=>h.below.block b hb⟩) x8 rfl ?_
        refine L_y (.bool ((!(decide ((o0).Yarn=(i3).Yarn))))) rfl rfl rfl rfl u3 (P_sne seq_85 rfl eg_85 rfl rfl l9 u9) ?_
        refine L_p (.bool ((!(decide ((o0).Yarn=(i3).Yarn))))) rfl rfl (Zl (b:=((o0).Colour != (i3).Colour)) rfl (pick_f u3 rfl)) ?_
        refine L_p (.bool ((!(decide ((o0).Yarn=(i3).Yarn))))) rfl rfl (Zk rfl) ?_
        iterate 3 refine L_s rfl rfl rfl j6 rfl ?_
        refine L_p (.bool true) rfl rfl (Zl (b:=(!(decide ((o0).Yarn=(i3).Yarn)))) rfl (pick_t j6 rfl)) ?_
        refine L_dead (fun _=>rfl) 27 rfl ?_
        refine L_nl fun jH uJ hs=>?_
        have hfr:=hfr.ext hs
        have i5:=i5.ext hs
        have l5:=l5.ext hs
        have t5:=t5.ext hs
        clear hs
        refine Zb ?_
        obtain rfl:=sinj h
        exact hQ _ _ ⟨jH,hfr,g8,i5,i8,l5,k8,t5,i7,rfl⟩
       ·refine L_loadO (x := .tmp 75) part_BoxShuttle_1.1 Try.isAgg3 Try.sizeOf3 b3715 fun vJ kH d9 => ?_
        obtain rfl:=Zj.1 kH
        rcases Zt h with ⟨x6,h⟩ | ⟨x6,h⟩
        ·refine E_drawL (g := a9) (n := 44) [] [0, 1, 2, 3, 4, 5, 6, 7, 8, 9, 10, 11, 12, 13, 14, 15, 16, 17, 18, 19, 20, 21, 22, 23, 24, 25, 26, 27, 28, 29, 30, 31, 32, 33, 34, 35, 36, 37, 38, 39, 40, 41, 42, 43] rfl mixed (by kernel_rfl) trivial ?_
         refine L_p (fPtr x5 0) rfl rfl (Zc at_87_0 rfl (OB.ptr b3715)) ?_
         refine L_ld (c:=.int .i64 ((o0).Colour)) rfl rfl .plain (fun _ _ h=>⟨h.ch,fun b hb _=>h.below.block b hb⟩) q8 rfl ?_
         refine L_p (fPtr j7 0) rfl rfl (Zc at_87_0 rfl (OB.ptr b3716)) ?_
         refine L_ld (c:=.int .i64 ((i3).Colour)) rfl rfl .plain (fun _ _ h=>⟨h.ch,fun b hb _=>h.below.block b hb⟩) r8 rfl ?_
         refine L_p (.bool (((o0).Colour != (i3).Colour))) rfl rfl (P_int rfl rfl rfl) ?_
         refine L_p (.bool (((o0).Colour != (i3).Colour))) rfl rfl (Zk rfl) ?_
         refine L_y (fPtr x5 3) rfl rfl rfl rfl u3 (Zc at_87_3 rfl (OB.ptr b3715)) ?_
         refine L_ld (c:=k9) rfl rfl (.yes2 rfl rfl u3) (fun _ _ h=>⟨h.ch,fun b hb _=>h.below.block b hb⟩) v8 rfl ?_
         refine L_y (fPtr j7 3) rfl rfl rfl rfl u3 (Zc at_87_3 rfl (OB.ptr b3716)) ?_
         refine L_ld (c:=n9) rfl rfl (.yes2 rfl rfl u3) (fun _ _ h=>⟨h.ch,fun b hb _=>h.below.block b hb⟩) x8 rfl ?_
         refine L_y (.bool ((!(decide ((o0).Yarn=(i3).Yarn))))) rfl rfl rfl rfl u3 (P_sne seq_85 rfl eg_85 rfl rfl l9 u9) ?_
         refine L_p (.bool ((!(decide ((o0).Yarn=(i3).Yarn))))) rfl rfl (Zl (b:=((o0).Colour != (i3).Colour)) rfl (pick_f u3 rfl)) ?_
         refine L_p (.bool ((!(decide ((o0).Yarn=(i3).Yarn))))) rfl rfl (Zk rfl) ?_
         refine L_y (fPtr x5 1) rfl rfl rfl rfl j6 (Zc at_87_1 rfl (OB.ptr b3715)) ?_
         refine L_ld (c:=.int .i64 ((o0).Side)) rfl rfl (.yes2 rfl rfl j6) (fun _ _ h=>⟨h.ch,fun b hb _=>h.below.block b hb⟩) d9 rfl ?_
         refine L_y (.bool ((decide ((o0).Side < (0:Int))))) rfl rfl rfl rfl j6 (P_int rfl rfl rfl) ?_
         refine L_p (.bool ((decide ((o0).Side < (0:Int))))) rfl rfl (Zl (b:=(!(decide ((o0).Yarn=(i3).Yarn)))) rfl (pick_f j6 rfl)) ?_
         refine L_p (.bool ((decide ((o0).Side < (0:Int))))) rfl rfl (Zk rfl) ?_
         iterate 3 refine L_s rfl rfl rfl x6 rfl ?_
         refine L_p (.bool true) rfl rfl (Zl (b:=(decide ((o0).Side < (0:Int)))) rfl (pick_t x6 rfl)) ?_
         refine L_dead (fun _=>rfl) 22 rfl ?_
         refine L_nl fun lH xJ hs=>?_
         have hfr:=hfr.ext hs
         have i5:=i5.ext hs
         have l5:=l5.ext hs
         have t5:=t5.ext hs
         clear hs
         refine Zb ?_
         obtain rfl:=sinj h
         exact hQ _ _ ⟨lH,hfr,g8,i5,i8,l5,k8,t5,i7,rfl⟩
        ·refine L_loadO (x := .tmp 80) part_BoxShuttle_1.1 Try.isAgg3 Try.sizeOf3 b3715 fun yJ mH bA => ?_
         obtain rfl:=Zj.1 mH
         rcases Zt h with ⟨y6,h⟩ | ⟨y6,h⟩
         ·refine E_drawL (g := a9) (n := 44) [] [0, 1, 2, 3, 4, 5, 6, 7, 8, 9, 10, 11, 12, 13, 14, 15, 16, 17, 18, 19, 20, 21, 22, 23, 24, 25, 26, 27, 28, 29, 30, 31, 32, 33, 34, 35, 36, 37, 38, 39, 40, 41, 42, 43] rfl mixed (by kernel_rfl) trivial ?_
          refine L_p (fPtr x5 0) rfl rfl (Zc at_87_0 rfl (OB.ptr b3715)) ?_
          refine L_ld (c:=.int .i64 ((o0).Colour)) rfl rfl .plain (fun _ _ h=>⟨h.ch,fun b hb _=>h.below.block b hb⟩) q8 rfl ?_
          refine L_p (fPtr j7 0) rfl rfl (Zc at_87_0 rfl (OB.ptr b3716)) ?_
          refine L_ld (c:=.int .i64 ((i3).Colour)) rfl rfl .plain (fun _ _ h=>⟨h.ch,fun b hb _=>h.below.block b hb⟩) r8 rfl ?_
          refine L_p (.bool (((o0).Colour != (i3).Colour))) rfl rfl (P_int rfl rfl rfl) ?_
          refine L_p (.bool (((o0).Colour != (i3).Colour))) rfl rfl (Zk rfl) ?_
          refine L_y (fPtr x5 3) rfl rfl rfl rfl u3 (Zc at_87_3 rfl (OB.ptr b3715)) ?_
          refine L_ld (c:=k9) rfl rfl (.yes2 rfl rfl u3) (fun _ _ h=>⟨h.ch,fun b hb _=>h.below.block b hb⟩) v8 rfl ?_
          refine L_y (fPtr j7 3) rfl rfl rfl rfl u3 (Zc at_87_3 rfl (OB.ptr b3716)) ?_
          refine L_ld (c:=n9) rfl rfl (.yes2 rfl rfl u3) (fun _ _ h=>⟨h.ch,fun b hb _=>h.below.block b hb⟩) x8 rfl ?_
          refine L_y (.bool ((!(decide ((o0).Yarn=(i3).Yarn))))) rfl rfl rfl rfl u3 (P_sne seq_85 rfl eg_85 rfl rfl l9 u9) ?_
          refine L_p (.bool ((!(decide ((o0).Yarn=(i3).Yarn))))) rfl rfl (Zl (b:=((o0).Colour != (i3).Colour)) rfl (pick_f u3 rfl)) ?_
          refine L_p (.bool ((!(decide ((o0).Yarn=(i3).Yarn))))) rfl rfl (Zk rfl) ?_
          refine L_y (fPtr x5 1) rfl rfl rfl rfl j6 (Zc at_87_1 rfl (OB.ptr b3715)) ?_
          refine L_ld (c:=.int .i64 ((o0).Side)) rfl rfl (.yes2 rfl rfl j6) (fun _ _ h=>⟨h.ch,fun b hb _=>h.below.block b hb⟩) d9 rfl ?_
          refine L_y (.bool ((decide ((o0).Side < (0:Int))))) rfl rfl rfl rfl j6 (P_int rfl rfl rfl) ?_
          refine L_p (.bool ((decide ((o0).Side < (0:Int))))) rfl rfl (Zl (b:=(!(decide ((o0).Yarn=(i3).Yarn)))) rfl (pick_f j6 rfl)) ?_
          refine L_p (.bool ((decide ((o0).Side < (0:Int))))) rfl rfl (Zk rfl) ?_
          refine L_y (fPtr x5 1) rfl rfl rfl rfl x6 (Zc at_87_1 rfl (OB.ptr b3715)) ?_
          refine L_ld (c:=.int .i64 ((o0).Side)) rfl rfl (.yes2 rfl rfl x6) (fun _ _ h=>⟨h.ch,fun b hb _=>h.below.block b hb⟩) bA rfl ?_
          refine L_y (.bool ((decide ((o0).Side > (1:Int))))) rfl rfl rfl rfl x6 (P_int rfl rfl rfl) ?_
          refine L_p (.bool ((decide ((o0).Side > (1:Int))))) rfl rfl (Zl (b:=(decide ((o0).Side < (0:Int)))) rfl (pick_f x6 rfl)) ?_
          refine L_p (.bool ((decide ((o0).Side > (1:Int))))) rfl rfl (Zk rfl) ?_
          iterate 3 refine L_s rfl rfl rfl y6 rfl ?_
          refine L_p (.bool true) rfl rfl (Zl (b:=(decide ((o0).Side > (1:Int)))) rfl (pick_t y6 rfl)) ?_
          refine L_dead (fun _=>rfl) 17 rfl ?_
          refine L_nl fun nH zJ hs=>?_
          have hfr:=hfr.ext hs
          have i5:=i5.ext hs
          have l5:=l5.ext hs
          have t5:=t5.ext hs
          clear hs
          refine Zb ?_
          obtain rfl:=sinj h
          exact hQ _ _ ⟨nH,hfr,g8,i5,i8,l5,k8,t5,i7,rfl⟩
         ·refine L_loadO (x := .tmp 85) part_BoxShuttle_2.1 Try.isAgg3 Try.sizeOf3 b3715 fun aK oH yA => ?_
          obtain rfl:=Zj.1 oH
          rcases Zt h with ⟨m7,h⟩ | ⟨m7,h⟩
          ·refine E_drawL (g := a9) (n := 44) [] [0, 1, 2, 3, 4, 5, 6, 7, 8, 9, 10, 11, 12, 13, 14, 15, 16, 17, 18, 19, 20, 21, 22, 23, 24, 25, 26, 27, 28, 29, 30, 31, 32, 33, 34, 35, 36, 37, 38, 39, 40, 41, 42, 43] rfl mixed (by kernel_rfl) trivial ?_
           refine L_p (fPtr x5 0) rfl rfl (Zc at_87_0 rfl (OB.ptr b3715)) ?_
           refine L_ld (c:=.int .i64 ((o0).Colour)) rfl rfl .plain (fun _ _ h=>⟨h.ch,fun b hb _=>h.below.block b hb⟩) q8 rfl ?_
           refine L_p (fPtr j7 0) rfl rfl (Zc at_87_0 rfl (OB.ptr b3716)) ?_
           refine L_ld (c:=.int .i64 ((i3).Colour)) rfl rfl .plain (fun _ _ h=>⟨h.ch,fun b hb _=>h.below.block b hb⟩) r8 rfl ?_
           refine L_p (.bool (((o0).Colour != (i3).Colour))) rfl rfl (P_int rfl rfl rfl) ?_
           refine L_p (.bool (((o0).Colour != (i3).Colour))) rfl rfl (Zk rfl) ?_
           refine L_y (fPtr x5 3) rfl rfl rfl rfl u3 (Zc at_87_3 rfl (OB.ptr b3715)) ?_
           refine L_ld (c:=k9) rfl rfl (.yes2 rfl rfl u3) (fun _ _ h=>⟨h.ch,fun b hb _=>h.below.block b hb⟩) v8 rfl ?_
           refine L_y (fPtr j7 3) rfl rfl rfl rfl u3 (Zc at_87_3 rfl (OB.ptr b3716)) ?_
           refine L_ld (c:=n9) rfl rfl (.yes2 rfl rfl u3) (fun _ _ h=>⟨h.ch,fun b hb _=>h.below.block b hb⟩) x8 rfl ?_
           refine L_y (.bool ((!(decide ((o0).Yarn=(i3).Yarn))))) rfl rfl rfl rfl u3 (P_sne seq_85 rfl eg_85 rfl rfl l9 u9) ?_
           refine L_p (.bool ((!(decide ((o0).Yarn=(i3).Yarn))))) rfl rfl (Zl (b:=((o0).Colour != (i3).Colour)) rfl (pick_f u3 rfl)) ?_
           refine L_p (.bool ((!(decide ((o0).Yarn=(i3).Yarn))))) rfl rfl (Zk rfl) ?_
           refine L_y (fPtr x5 1) rfl rfl rfl rfl j6 (Zc at_87_1 rfl (OB.ptr b3715)) ?_
           refine L_ld (c:=.int .i64 ((o0).Side)) rfl rfl (.yes2 rfl rfl j6) (fun _ _ h=>⟨h.ch,fun b hb _=>h.below.block b hb⟩) d9 rfl ?_
           refine L_y (.bool ((decide ((o0).Side < (0:Int))))) rfl rfl rfl rfl j6 (P_int rfl rfl rfl) ?_
           refine L_p (.bool ((decide ((o0).Side < (0:Int))))) rfl rfl (Zl (b:=(!(decide ((o0).Yarn=(i3).Yarn)))) rfl (pick_f j6 rfl)) ?_
           refine L_p (.bool ((decide ((o0).Side < (0:Int))))) rfl rfl (Zk rfl) ?_
           refine L_y (fPtr x5 1) rfl rfl rfl rfl x6 (Zc at_87_1 rfl (OB.ptr b3715)) ?_
           refine L_ld (c:=.int .i64 ((o0).Side)) rfl rfl (.yes2 rfl rfl x6) (fun _ _ h=>⟨h.ch,fun b hb _=>h.below.block b hb⟩) bA rfl ?_
           refine L_y (.bool ((decide ((o0).Side > (1:Int))))) rfl rfl rfl rfl x6 (P_int rfl rfl rfl) ?_
           refine L_p (.bool ((decide ((o0).Side > (1:Int))))) rfl rfl (Zl (b:=(decide ((o0).Side < (0:Int)))) rfl (pick_f x6 rfl)) ?_
           refine L_p (.bool ((decide ((o0).Side > (1:Int))))) rfl rfl (Zk rfl) ?_
           refine L_y (fPtr x5 2) rfl rfl rfl rfl y6 (Zc at_87_2 rfl (OB.ptr b3715)) ?_
           refine L_ld (c:=.int .i64 ((o0).Box)) rfl rfl (.yes2 rfl rfl y6) (fun _ _ h=>⟨h.ch,fun b hb _=>h.below.block b hb⟩) yA rfl ?_
           refine L_y (.bool ((decide ((o0).Box < (0:Int))))) rfl rfl rfl rfl y6 (P_int rfl rfl rfl) ?_
           refine L_p (.bool ((decide ((o0).Box < (0:Int))))) rfl rfl (Zl (b:=(decide ((o0).Side > (1:Int)))) rfl (pick_f y6 rfl)) ?_
           refine L_p (.bool ((decide ((o0).Box < (0:Int))))) rfl rfl (Zk rfl) ?_
           iterate 3 refine L_s rfl rfl rfl m7 rfl ?_
           refine L_p (.bool true) rfl rfl (Zl (b:=(decide ((o0).Box < (0:Int)))) rfl (pick_t m7 rfl)) ?_
           refine L_dead (fun _=>rfl) 12 rfl ?_
           refine L_nl fun pH bK hs=>?_
           have hfr:=hfr.ext hs
           have i5:=i5.ext hs
           have l5:=l5.ext hs
           have t5:=t5.ext hs
           clear hs
           refine Zb ?_
           obtain rfl:=sinj h
           exact hQ _ _ ⟨pH,hfr,g8,i5,i8,l5,k8,t5,i7,rfl⟩
          ·refine L_loadO (x := .tmp 90) part_BoxShuttle_2.1 Try.isAgg3 Try.sizeOf3 b3715 fun cK qH qC => ?_
           obtain rfl:=Zj.1 qH
           rcases Zt h with ⟨d7,h⟩ | ⟨d7,h⟩
           ·refine E_drawL (g := a9) (n := 44) [] [0, 1, 2, 3, 4, 5, 6, 7, 8, 9, 10, 11, 12, 13, 14, 15, 16, 17, 18, 19, 20, 21, 22, 23, 24, 25, 26, 27, 28, 29, 30, 31, 32, 33, 34, 35, 36, 37, 38, 39, 40, 41, 42, 43] rfl mixed (by kernel_rfl) trivial ?_
            refine L_p (fPtr x5 0) rfl rfl (Zc at_87_0 rfl (OB.ptr b3715)) ?_
            refine L_ld (c:=.int .i64 ((o0).Colour)) rfl rfl .plain (fun _ _ h=>⟨h.ch,fun b hb _=>h.below.block b hb⟩) q8 rfl ?_
            refine L_p (fPtr j7 0) rfl rfl (Zc at_87_0 rfl (OB.ptr b3716)) ?_
            refine L_ld (c:=.int .i64 ((i3).Colour)) rfl rfl .plain (fun _ _ h=>⟨h.ch,fun b hb _=>h.below.block b hb⟩) r8 rfl ?_
            refine L_p (.bool (((o0).Colour != (i3).Colour))) rfl rfl (P_int rfl rfl rfl) ?_
            refine L_p (.bool (((o0).Colour != (i3).Colour))) rfl rfl (Zk rfl) ?_
            refine L_y (fPtr x5 3) rfl rfl rfl rfl u3 (Zc at_87_3 rfl (OB.ptr b3715)) ?_
            refine L_ld (c:=k9) rfl rfl (.yes2 rfl rfl u3) (fun _ _ h=>⟨h.ch,fun b hb _=>h.below.block b hb⟩) v8 rfl ?_
            refine L_y (fPtr j7 3) rfl rfl rfl rfl u3 (Zc at_87_3 rfl (OB.ptr b3716)) ?_
            refine L_ld (c:=n9) rfl rfl (.yes2 rfl rfl u3) (fun _ _ h=>⟨h.ch,fun b hb _=>h.below.block b hb⟩) x8 rfl ?_
            refine L_y (.bool ((!(decide ((o0).Yarn=(i3).Yarn))))) rfl rfl rfl rfl u3 (P_sne seq_85 rfl eg_85 rfl rfl l9 u9) ?_
            refine L_p (.bool ((!(decide ((o0).Yarn=(i3).Yarn))))) rfl rfl (Zl (b:=((o0).Colour != (i3).Colour)) rfl (pick_f u3 rfl)) ?_
            refine L_p (.bool ((!(decide ((o0).Yarn=(i3).Yarn))))) rfl rfl (Zk rfl) ?_
            refine L_y (fPtr x5 1) rfl rfl rfl rfl j6 (Zc at_87_1 rfl (OB.ptr b3715)) ?_
            refine L_ld (c:=.int .i64 ((o0).Side)) rfl rfl (.yes2 rfl rfl j6) (fun _ _ h=>⟨h.ch,fun b hb _=>h.below.block b hb⟩) d9 rfl ?_
            refine L_y (.bool ((decide ((o0).Side < (0:Int))))) rfl rfl rfl rfl j6 (P_int rfl rfl rfl) ?_
            refine L_p (.bool ((decide ((o0).Side < (0:Int))))) rfl rfl (Zl (b:=(!(decide ((o0).Yarn=(i3).Yarn)))) rfl (pick_f j6 rfl)) ?_
            refine L_p (.bool ((decide ((o0).Side < (0:Int))))) rfl rfl (Zk rfl) ?_
            refine L_y (fPtr x5 1) rfl rfl rfl rfl x6 (Zc at_87_1 rfl (OB.ptr b3715)) ?_
            refine L_ld (c:=.int .i64 ((o0).Side)) rfl rfl (.yes2 rfl rfl x6) (fun _ _ h=>⟨h.ch,fun b hb _=>h.below.block b hb⟩) bA rfl ?_
            refine L_y (.bool ((decide ((o0).Side > (1:Int))))) rfl rfl rfl rfl x6 (P_int rfl rfl rfl) ?_
            refine L_p (.bool ((decide ((o0).Side > (1:Int))))) rfl rfl (Zl (b:=(decide ((o0).Side < (0:Int)))) rfl (pick_f x6 rfl)) ?_
            refine L_p (.bool ((decide ((o0).Side > (1:Int))))) rfl rfl (Zk rfl) ?_
            refine L_y (fPtr x5 2) rfl rfl rfl rfl y6 (Zc at_87_2 rfl (OB.ptr b3715)) ?_
            refine L_ld (c:=.int .i64 ((o0).Box)) rfl rfl (.yes2 rfl rfl y6) (fun _ _ h=>⟨h.ch,fun b hb _=>h.below.block b hb⟩) yA rfl ?_
            refine L_y (.bool ((decide ((o0).Box < (0:Int))))) rfl rfl rfl rfl y6 (P_int rfl rfl rfl) ?_
            refine L_p (.bool ((decide ((o0).Box < (0:Int))))) rfl rfl (Zl (b:=(decide ((o0).Side > (1:Int)))) rfl (pick_f y6 rfl)) ?_
            refine L_p (.bool ((decide ((o0).Box < (0:Int))))) rfl rfl (Zk rfl) ?_
            refine L_y (fPtr x5 2) rfl rfl rfl rfl m7 (Zc at_87_2 rfl (OB.ptr b3715)) ?_
            refine L_ld (c:=.int .i64 ((o0).Box)) rfl rfl (.yes2 rfl rfl m7) (fun _ _ h=>⟨h.ch,fun b hb _=>h.below.block b hb⟩) qC rfl ?_
            refine L_y (.bool ((decide ((o0).Box > (3:Int))))) rfl rfl rfl rfl m7 (P_int rfl rfl rfl) ?_
            refine L_p (.bool ((decide ((o0).Box > (3:Int))))) rfl rfl (Zl (b:=(decide ((o0).Box < (0:Int)))) rfl (pick_f m7 rfl)) ?_
            refine L_p (.bool ((decide ((o0).Box > (3:Int))))) rfl rfl (Zk rfl) ?_
            iterate 10 refine L_s rfl rfl rfl d7 rfl ?_
            refine L_p (.bool true) rfl rfl (Zl (b:=(decide ((o0).Box > (3:Int)))) rfl (pick_t d7 rfl)) ?_
            refine L_nl fun sH dK hs=>?_
            have hfr:=hfr.ext hs
            have i5:=i5.ext hs
            have l5:=l5.ext hs
            have t5:=t5.ext hs
            clear hs
            refine Zb ?_
            obtain rfl:=sinj h
            exact hQ _ _ ⟨sH,hfr,g8,i5,i8,l5,k8,t5,i7,rfl⟩
           ·refine L_loadO (x := .tmp 95) part_BoxShuttle_1.1 Try.isAgg3 Try.sizeOf3 b3715 fun eK tH lG => ?_
            obtain rfl:=Zj.1 tH
            refine L_loadO (x:=.tmp 97) part_BoxShuttle_2.1 Try.isAgg3 Try.sizeOf3 b3715 fun lK uH mG=>?_
            obtain rfl:=Zj.1 uH
            obtain ⟨jD,rC,h⟩:=bsome h
            have dE:=PT_idxA t5 rC
            obtain ⟨y9,uC,h⟩:=bsome h
            have xH:=PT_idxA dE uC
            refine Zs (x:=.tmp 100) Try.isAgg3 Try.sizeOf3 xH fun mK yH nG=>?_
            obtain rfl:=Zj.1 yH
            refine E_drawL (g:=a9) (n:=44) [] [0,1,2,3,4,5,6,7,8,9,10,11,12,13,14,15,16,17,18,19,20,21,22,23,24,25,26,27,28,29,30,31,32,33,34,35,36,37,38,39,40,41,42,43] rfl mixed (by kernel_rfl) trivial ?_
            refine L_p (fPtr x5 0) rfl rfl (Zc at_87_0 rfl (OB.ptr b3715)) ?_
            refine L_ld (c:=.int .i64 ((o0).Colour)) rfl rfl .plain (fun _ _ h=>⟨h.ch,fun b hb _=>h.below.block b hb⟩) q8 rfl ?_
            refine L_p (fPtr j7 0) rfl rfl (Zc at_87_0 rfl (OB.ptr b3716)) ?_
            refine L_ld (c:=.int .i64 ((i3).Colour)) rfl rfl .plain (fun _ _ h=>⟨h.ch,fun b hb _=>h.below.block b hb⟩) r8 rfl ?_
            refine L_p (.bool (((o0).Colour != (i3).Colour))) rfl rfl (P_int rfl rfl rfl) ?_
            refine L_p (.bool (((o0).Colour != (i3).Colour))) rfl rfl (Zk rfl) ?_
            refine L_y (fPtr x5 3) rfl rfl rfl rfl u3 (Zc at_87_3 rfl (OB.ptr b3715)) ?_
            refine L_ld (c:=k9) rfl rfl (.yes2 rfl rfl u3) (fun _ _ h=>⟨h.ch,fun b hb _=>h.below.block b hb⟩) v8 rfl ?_
            refine L_y (fPtr j7 3) rfl rfl rfl rfl u3 (Zc at_87_3 rfl (OB.ptr b3716)) ?_
            refine L_ld (c:=n9) rfl rfl (.yes2 rfl rfl u3) (fun _ _ h=>⟨h.ch,fun b hb _=>h.below.block b hb⟩) x8 rfl ?_
            refine L_y (.bool ((!(decide ((o0).Yarn=(i3).Yarn))))) rfl rfl rfl rfl u3 (P_sne seq_85 rfl eg_85 rfl rfl l9 u9) ?_
            refine L_p (.bool ((!(decide ((o0).Yarn=(i3).Yarn))))) rfl rfl (Zl (b:=((o0).Colour != (i3).Colour)) rfl (pick_f u3 rfl)) ?_
            refine L_p (.bool ((!(decide ((o0).Yarn=(i3).Yarn))))) rfl rfl (Zk rfl) ?_
            refine L_y (fPtr x5 1) rfl rfl rfl rfl j6 (Zc at_87_1 rfl (OB.ptr b3715)) ?_
            refine L_ld (c:=.int .i64 ((o0).Side)) rfl rfl (.yes2 rfl rfl j6) (fun _ _ h=>⟨h.ch,fun b hb _=>h.below.block b hb⟩) d9 rfl ?_
            refine L_y (.bool ((decide ((o0).Side < (0:Int))))) rfl rfl rfl rfl j6 (P_int rfl rfl rfl) ?_
            refine L_p (.bool ((decide ((o0).Side < (0:Int))))) rfl rfl (Zl (b:=(!(decide ((o0).Yarn=(i3).Yarn)))) rfl (pick_f j6 rfl)) ?_
            refine L_p (.bool ((decide ((o0).Side < (0:Int))))) rfl rfl (Zk rfl) ?_
            refine L_y (fPtr x5 1) rfl rfl rfl rfl x6 (Zc at_87_1 rfl (OB.ptr b3715)) ?_
            refine L_ld (c:=.int .i64 ((o0).Side)) rfl rfl (.yes2 rfl rfl x6) (fun _ _ h=>⟨h.ch,fun b hb _=>h.below.block b hb⟩) bA rfl ?_
            refine L_y (.bool ((decide ((o0).Side > (1:Int))))) rfl rfl rfl rfl x6 (P_int rfl rfl rfl) ?_
            refine L_p (.bool ((decide ((o0).Side > (1:Int))))) rfl rfl (Zl (b:=(decide ((o0).Side < (0:Int)))) rfl (pick_f x6 rfl)) ?_
            refine L_p (.bool ((decide ((o0).Side > (1:Int))))) rfl rfl (Zk rfl) ?_
            refine L_y (fPtr x5 2) rfl rfl rfl rfl y6 (Zc at_87_2 rfl (OB.ptr b3715)) ?_
            refine L_ld (c:=.int .i64 ((o0).Box)) rfl rfl (.yes2 rfl rfl y6) (fun _ _ h=>⟨h.ch,fun b hb _=>h.below.block b hb⟩) yA rfl ?_
            refine L_y (.bool ((decide ((o0).Box < (0:Int))))) rfl rfl rfl rfl y6 (P_int rfl rfl rfl) ?_
            refine L_p (.bool ((decide ((o0).Box < (0:Int))))) rfl rfl (Zl (b:=(decide ((o0).Side > (1:Int)))) rfl (pick_f y6 rfl)) ?_
            refine L_p (.bool ((decide ((o0).Box < (0:Int))))) rfl rfl (Zk rfl) ?_
            refine L_y (fPtr x5 2) rfl rfl rfl rfl m7 (Zc at_87_2 rfl (OB.ptr b3715)) ?_
            refine L_ld (c:=.int .i64 ((o0).Box)) rfl rfl (.yes2 rfl rfl m7) (fun _ _ h=>⟨h.ch,fun b hb _=>h.below.block b hb⟩) qC rfl ?_
            refine L_y (.bool ((decide ((o0).Box > (3:Int))))) rfl rfl rfl rfl m7 (P_int rfl rfl rfl) ?_
            refine L_p (.bool ((decide ((o0).Box > (3:Int))))) rfl rfl (Zl (b:=(decide ((o0).Box < (0:Int)))) rfl (pick_f m7 rfl)) ?_
            refine L_p (.bool ((decide ((o0).Box > (3:Int))))) rfl rfl (Zk rfl) ?_
            refine L_y (fPtr x5 1) rfl rfl rfl rfl d7 (Zc at_87_1 rfl (OB.ptr b3715)) ?_
            refine L_ld (c:=.int .i64 ((o0).Side)) rfl rfl (.yes2 rfl rfl d7) (fun _ _ h=>⟨h.ch,fun b hb _=>h.below.block b hb⟩) lG rfl ?_
            refine L_y (fPtr x5 2) rfl rfl rfl rfl d7 (Zc at_87_2 rfl (OB.ptr b3715)) ?_
            refine L_ld (c:=.int .i64 ((o0).Box)) rfl rfl (.yes2 rfl rfl d7) (fun _ _ h=>⟨h.ch,fun b hb _=>h.below.block b hb⟩) mG rfl ?_
            refine L_y (fPtr p3 (((o0).Side:Int).toNat * 4)) rfl rfl rfl rfl d7 (P_indexAddrA (α:=Vector Int 4) Try.underlying76 Try.sizeOf75 k8 (PT.ptr t5) rfl rC) ?_
            refine L_y (fPtr (fPtr p3 (((o0).Side:Int).toNat * 4)) (((o0).Box:Int).toNat * 1)) rfl rfl rfl rfl d7 (P_indexAddrA (α:=Int) Try.underlying75 Try.sizeOf3 rfl (PT.ptr dE) rfl uC) ?_
            refine L_ld (c:=.int .i64 (y9)) rfl rfl (.yes2 rfl rfl d7) (fun _ _ h=>h.ch) nG rfl ?_
            refine L_y (.int .i64 (i6)) rfl rfl rfl rfl d7 (Zk i7) ?_
            refine L_y (.int .i64 ((w64 (i6 + (1:Int))))) rfl rfl rfl rfl d7 (P_int rfl rfl rfl) ?_
            refine L_y (.bool ((y9 != (w64 (i6 + (1:Int)))))) rfl rfl rfl rfl d7 (P_int rfl rfl rfl) ?_
            refine L_p (.bool ((y9 != (w64 (i6 + (1:Int)))))) rfl rfl (Zl (b:=(decide ((o0).Box > (3:Int)))) rfl (pick_f d7 rfl)) ?_
            refine L_nl fun zH nK hs=>?_
            have hfr:=hfr.ext hs
            have i5:=i5.ext hs
            have l5:=l5.ext hs
            have t5:=t5.ext hs
            clear hs
            refine Zb ?_
            obtain rfl:=sinj h
            exact hQ _ _ ⟨zH,hfr,g8,i5,i8,l5,k8,t5,i7,rfl⟩
     ·clear hx
      obtain ⟨aI,hfr,kE,lE,mE,nE,oE,rE,sE,iA⟩:=hR
      rcases Zt h with ⟨aB,h⟩ | ⟨aB,h⟩
      ·refine E_cond_true (Eq.trans (show ev _ _ = .bool (l8) from iA) (congrArg Value.bool aB)) ?_
       refine Zf (Za (Zg (.bool false) rfl rfl ?_))
       refine Zb (Zd (E_ret (blk_r ?_)))
       refine thn_r ?_
       refine thn_r ?_
       refine blk_r ?_
       refine thn_r ?_
       obtain rfl:=sinj h
       exact end1 rfl rfl (show _=.bool false from rfl) ⟨_,hfr,rfl⟩
      ·refine E_cond_false (Eq.trans (show ev _ _ = .bool (l8) from iA) (congrArg Value.bool aB)) ?_
       exact Zu (blk_n (Zd (gG () _ _ ⟨aI,hfr,kE,lE,mE,nE,oE,rE,sE⟩ h)))
    ·rintro _ iJ oK ⟨bI, hfr, tE, uE, vE, xE, yE, zE, cF⟩ h
     refine Za (Zo cF rfl ?_)
     refine EL_in (.int .i64 ((w64 (i6 + (1:Int))))) rfl rfl rfl rfl ?_
     refine Zg (.int .i64 ((w64 (i6 + (1:Int))))) rfl rfl ?_
     exact Zb (Zd (dG ((w64 (i6 + (1:Int)))) _ _ ⟨bI,hfr,tE,uE,vE,xE,yE,zE,rfl⟩ h))
  ·rintro _ jJ pK ⟨qK, hfr⟩ h
   refine Zf (Za (Zg (.bool true) rfl rfl ?_))
   refine Zb (Zd (E_ret ?_))
   obtain rfl:=sinj h
   exact end1 rfl rfl (show _=.bool true from rfl) ⟨_,hfr,rfl⟩
def f42 (x0:Int) (x1:Int):Option (Span):=
 some ((⟨x0,x1⟩:Span))
theorem en42:Enters Try.prog 42:=enters_of Try.func42 (by kernel_rfl) rfl
theorem wk42 {gI:Gh} {wI:World} {x0:Int} {x1:Int}  {r:Span} (h:f42 x0 x1=some r):Fn Try.prog 42 #[.int .i64 (x0),.int .i64 (x1)] gI wI (fun m w v=>RV m w (r) v):=by
 unfold f42 at h
 refine fn_of_E Try.func42 rfl (Nat.le_of_ble_eq_true rfl) fun g0 hm hfr=>?_
 show E _ 8 none _ _ _ _ _
 refine Zf (Za (Ze .plain rfl (D_allocOc (g:=g0) 2004 (⟨0,0⟩:Span) Try.zeroValue85 (fun m w=>⟨_,(rep_two rep_int rep_int),rfl⟩) fun g1 w1 p1 hs b1 cb=>?_)))
 have hfr:=hfr.stp hs
 clear cb
 refine Zb (Zd (Zf (Za (Zn (.int .i64 (x0)) rfl rfl ?_))))
 refine Zn (.int .i64 (x1)) rfl rfl ?_
 have r2:RV g1.m w1 (⟨x0,x1⟩:Span) (.agg (setCh [[.int .i64 0],[.int .i64 0]] [(0,.int .i64 (x0)),(1,.int .i64 (x1))]).flatten.toArray):=RV_build rfl (rep_pair (rfl) (rep_last (rfl)))
 generalize hv2:(Value.agg (setCh [[.int .i64 0],[.int .i64 0]] [(0,.int .i64 (x0)),(1,.int .i64 (x1))]).flatten.toArray)=v2 at r2
 refine EL_p v2 (hv2 ▸ P_build (vs:=[(0,.int .i64 (x0)),(1,.int .i64 (x1))]) [[.int .i64 0],[.int .i64 0]] lay_85 rfl rfl (.cons rfl (.cons rfl .nil)) ⟨⟨_,rfl,rfl⟩,⟨⟨_,rfl,rfl⟩,trivial⟩⟩) rfl ?_
 refine Ze .plain rfl (D_storeOc (g:=g1) (v:=v2) Try.sizeOf85 rfl b1 rfl r2 fun g3 w3 hs b3 cb=>?_)
 clear cb
 have hfr:=hfr.stp hs
 refine Zb (Zd (E_ret ?_))
 obtain rfl:=sinj h
 obtain ⟨ad4,cv4,hp4,o0,cr4⟩:=ob_read Try.isAgg85 Try.sizeOf85 b3
 exact endm_c rfl rfl ((show _=p1 from rfl).trans hp4) o0 ⟨_,hfr,cr4⟩
def f45 (x0:BoxLoom):Option ((Vector (Vector Int 4) 2)):=
 Option.bind (α:=(Vector (Vector Int 4) 2)) (
  lp (σ:=(Vector (Vector Int 4) 2) × Int) (fun k94 (t5,o0)=>
   jn (σ:=Unit) (fun _=>
    Option.bind (α:=(Vector (Vector Int 4) 2)) (
     (idx ((x0).Shuttles) o0).bind fun l5=>
     (idx ((x0).Shuttles) o0).bind fun j6=>
     (idx (t5).toList (l5).Side).bind fun y9=>
     (idx (y9).toList (j6).Box).bind fun vB=>
     some ((vmod t5 ((l5).Side) (fun b=>(vset b ((j6).Box) ((w64 (o0 + (1:Int))))))))
     ) fun x5=>
    k94 (x5,(w64 (o0 + (1:Int))))
    ) fun tB=>
   bif (decide (o0 < (((x0).Shuttles).length : Int))) then
    tB ()
   else
    some (t5)
   ) big ((⟨List.toArray [(⟨List.toArray [0,0,0,0],rfl⟩:Vector Int 4),(⟨List.toArray [0,0,0,0],rfl⟩:Vector Int 4)],rfl⟩:Vector (Vector Int 4) 2),(0:Int))
  ) fun v6=>
 some (v6)
theorem en45:Enters Try.prog 45:=enters_of Try.func45 (by kernel_rfl) rfl
theorem wk45 {gI:Gh} {wI:World} {x0:BoxLoom} {up0:Value} (rp0:RV gI.m wI x0 up0) {r:(Vector (Vector Int 4) 2)} (h:f45 x0=some r):Fn Try.prog 45 #[up0] gI wI (fun m w v=>RV m w (r) v):=by
 unfold f45 at h
 refine fn_of_E Try.func45 rfl (Nat.le_of_ble_eq_true rfl) fun g0 hm hfr=>?_
 have rp0:RV g0.m wI x0 up0:=hm ▸ rp0
 show E _ 30 none _ _ _ _ _
 refine Zf (Za (Ze .plain rfl (D_box (g:=g0) rfl rp0 fun g1 w1 p1 hs q1=>?_)))
 have hfr:=hfr.ext hs
 have rp0:=rp0.ext hs
 refine Ze .plain rfl (D_allocOc (g:=g1) 2002 ((⟨List.toArray [(⟨List.toArray [0,0,0,0],rfl⟩:Vector Int 4),(⟨List.toArray [0,0,0,0],rfl⟩:Vector Int 4)],rfl⟩:Vector (Vector Int 4) 2):Vector (Vector Int 4) 2) Try.zeroValue76 (fun m w=>⟨_,(rep_vec (flat_chunk (rep_vec (flat_chunk rep_int (flat_chunk rep_int (flat_chunk rep_int (flat_chunk rep_int flat_nil)))) rfl) (flat_chunk (rep_vec (flat_chunk rep_int (flat_chunk rep_int (flat_chunk rep_int (flat_chunk rep_int flat_nil)))) rfl) flat_nil)) rfl),rfl⟩) fun g2 w2 p2 hs b2 cb=>?_)
 have hfr:=hfr.stp hs
 have rp0:=rp0.stp hs
 have q1:=q1.stp hs
 clear cb
 refine Zb (Zd (Zf (Za ?_)))
 have r3:RV g2.m w2 (⟨List.toArray [(⟨List.toArray [0,0,0,0],rfl⟩:Vector Int 4),(⟨List.toArray [0,0,0,0],rfl⟩:Vector Int 4)],rfl⟩:Vector (Vector Int 4) 2) (.agg (setCh [[.int .i64 0,.int .i64 0,.int .i64 0,.int .i64 0],[.int .i64 0,.int .i64 0,.int .i64 0,.int .i64 0]] []).flatten.toArray):=RV_build rfl (rep_vec (flat_chunk (rep_vec (flat_chunk rep_int (flat_chunk rep_int (flat_chunk rep_int (flat_chunk rep_int flat_nil)))) rfl) (flat_chunk (rep_vec (flat_chunk rep_int (flat_chunk rep_int (flat_chunk rep_int (flat_chunk rep_int flat_nil)))) rfl) flat_nil)) rfl)
 generalize hv3:(Value.agg (setCh [[.int .i64 0,.int .i64 0,.int .i64 0,.int .i64 0],[.int .i64 0,.int .i64 0,.int .i64 0,.int .i64 0]] []).flatten.toArray)=v3 at r3
 refine EL_p v3 (hv3 ▸ P_buildA (vs:=[]) [[.int .i64 0,.int .i64 0,.int .i64 0,.int .i64 0],[.int .i64 0,.int .i64 0,.int .i64 0,.int .i64 0]] Try.underlying76 layA_76 szA_75 rfl (by simp) .nil trivial) rfl ?_
 refine Ze .plain rfl (D_allocOc (g:=g2) 2003 ((⟨List.toArray [(⟨List.toArray [0,0,0,0],rfl⟩:Vector Int 4),(⟨List.toArray [0,0,0,0],rfl⟩:Vector Int 4)],rfl⟩:Vector (Vector Int 4) 2):Vector (Vector Int 4) 2) Try.zeroValue76 (fun m w=>⟨_,(rep_vec (flat_chunk (rep_vec (flat_chunk rep_int (flat_chunk rep_int (flat_chunk rep_int (flat_chunk rep_int flat_nil)))) rfl) (flat_chunk (rep_vec (flat_chunk rep_int (flat_chunk rep_int (flat_chunk rep_int (flat_chunk rep_int flat_nil)))) rfl) flat_nil)) rfl),rfl⟩) fun g4 w4 p4 hs b4 cb=>?_)
 have hfr:=hfr.stp hs
 have rp0:=rp0.stp hs
 have q1:=q1.stp hs
 have b2:=b2.stp hs rfl
 have r3:=r3.stp hs
 clear cb
 refine Ze .plain rfl (D_storeOc (g:=g4) (v:=v3) Try.sizeOf76 rfl b4 rfl r3 fun g5 w5 hs b5 cb=>?_)
 clear cb
 have hfr:=hfr.stp hs
 have rp0:=rp0.stp hs
 have q1:=q1.stp hs
 have b2:=b2.stp hs rfl
 have r3:=r3.stp hs
 refine Zb (Zd ?_)
 obtain ⟨v6,hx,h⟩:=bsome h
 refine E_join (fun e w=>∃ (g:Gh) ,Fr gI wI g w∧e 2=p2∧OB 2002 g w 76 (((⟨List.toArray [(⟨List.toArray [0,0,0,0],rfl⟩:Vector Int 4),(⟨List.toArray [0,0,0,0],rfl⟩:Vector Int 4)],rfl⟩:Vector (Vector Int 4) 2):Vector (Vector Int 4) 2):Vector (Vector Int 4) 2) p2∧e 3=p4∧OB 2003 g w 76 (v6:Vector (Vector Int 4) 2) p4) (fun Q' hQ=>?_) (fun aD eD hR=>?_)
 ·replace h := hx
  clear hx
  refine Zf (Za (Zg (.int .i64 (0)) rfl rfl ?_))
  refine Zb (Zd (Zr ?_))
  refine E_lp h (fun (s:(Vector (Vector Int 4) 2) × Int) e w=>∃ (g:Gh) ,Fr gI wI g w∧e 1=p1∧PT g.m w (x0:BoxLoom) p1∧e 2=p2∧OB 2002 g w 76 (((⟨List.toArray [(⟨List.toArray [0,0,0,0],rfl⟩:Vector Int 4),(⟨List.toArray [0,0,0,0],rfl⟩:Vector Int 4)],rfl⟩:Vector (Vector Int 4) 2):Vector (Vector Int 4) 2):Vector (Vector Int 4) 2) p2∧e 3=p4∧OB 2003 g w 76 (s.1:Vector (Vector Int 4) 2) p4∧e 4=.int .i64 (s.2)) ⟨g5,hfr,rfl,q1,rfl,b2,rfl,b5,rfl⟩ (fun X94 k94 yB=>?_)
  rintro ⟨t5,o0⟩ gD uD ⟨z9,hfr,r8,y6,t8,v8,x8,a9,d9⟩ h
  refine Zq h (fun (s:Unit) e w=>∃ (g:Gh) ,Fr gI wI g w∧e 1=p1∧PT g.m w (x0:BoxLoom) p1∧e 2=p2∧OB 2002 g w 76 (((⟨List.toArray [(⟨List.toArray [0,0,0,0],rfl⟩:Vector Int 4),(⟨List.toArray [0,0,0,0],rfl⟩:Vector Int 4)],rfl⟩:Vector (Vector Int 4) 2):Vector (Vector Int 4) 2):Vector (Vector Int 4) 2) p2∧e 3=p4∧OB 2003 g w 76 (t5:Vector (Vector Int 4) 2) p4∧e 4=.int .i64 (o0)) (fun X99 tB zB h=>?_) ?_
  ·refine Zf (Za (Zo d9 rfl ?_))
   refine EL_p (fPtr p1 2) (Zc at_25_2 r8 (PT.ptr y6)) rfl ?_
   have aC:=Zm (part_BoxLoom_2).1 y6
   refine Ze .plain rfl (D_load (g:=z9) Try.isAgg23 Try.sizeOf23 rfl aC fun iD cC=>?_)
   refine EL_p (.int .i64 (((x0).Shuttles).length:Int)) (P_len Try.underlying23 rfl cC) rfl ?_
   refine EL_p (.bool ((decide (o0 < (((x0).Shuttles).length:Int))))) (P_int rfl rfl rfl) rfl ?_
   refine Zb (Zd ?_)
   rcases Zt h with ⟨a7,h⟩ | ⟨a7,h⟩
   ·refine E_ct a7 rfl ?_
    exact Zu (Zd (zB () _ _ ⟨z9,hfr,r8,y6,t8,v8,x8,a9,d9⟩ h))
   ·refine E_cf a7 rfl ?_
    refine E_exit ?_
    refine thn_e ?_
    refine thn_e ?_
    refine blk_hit ?_
    obtain rfl:=sinj h
    exact hQ _ _ ⟨z9,hfr,t8,v8,x8,a9⟩
  ·rintro _ bD jD ⟨eC, hfr, x6, i3, bA, u3, v7, i5, i6⟩ h
   obtain ⟨x5,hx,h⟩:=bsome h
   refine E_join (fun e w=>∃ (g:Gh) ,Fr gI wI g w∧e 1=p1∧PT g.m w (x0:BoxLoom) p1∧e 2=p2∧OB 2002 g w 76 (((⟨List.toArray [(⟨List.toArray [0,0,0,0],rfl⟩:Vector Int 4),(⟨List.toArray [0,0,0,0],rfl⟩:Vector Int 4)],rfl⟩:Vector (Vector Int 4) 2):Vector (Vector Int 4) 2):Vector (Vector Int 4) 2) p2∧e 3=p4∧OB 2003 g w 76 (x5:Vector (Vector Int 4) 2) p4∧e 4=.int .i64 (o0)) (fun Q' hQ=>?_) (fun cD kD hR=>?_)
   ·replace h := hx
    clear hx
    refine Zr ?_
    have i8:=Zm (part_BoxLoom_2).1 i3
    refine Zs (x:=.tmp 13) Try.isAgg23 Try.sizeOf23 i8 fun k8 d7 jB=>?_
    obtain ⟨l5,k9,h⟩:=bsome h
    have i7:=PT_idx d7 k9
    have l8:=Zm (part_BoxShuttle_1).1 i7
    refine Zs (x:=.tmp 17) Try.isAgg3 Try.sizeOf3 l8 fun lD iC lB=>?_
    obtain rfl:=Zj.1 iC
    have m8:=Zm (part_BoxLoom_2).1 i3
    refine Zs (x:=.tmp 19) Try.isAgg23 Try.sizeOf23 m8 fun n8 j7 mB=>?_
    obtain ⟨j6,l9,h⟩:=bsome h
    have m7:=PT_idx j7 l9
    have q8:=Zm (part_BoxShuttle_2).1 m7
    refine Zs (x:=.tmp 23) Try.isAgg3 Try.sizeOf3 q8 fun mD lC nB=>?_
    obtain rfl:=Zj.1 lC
    obtain ⟨y9,n9,h⟩:=bsome h
    obtain ⟨hi155,he155⟩:=vat_idx n9
    obtain ⟨vB,u9,h⟩:=bsome h
    obtain ⟨hi157,he157⟩:=vat_idx u9
    refine E_drawL (g:=eC) (n:=16) [] [0,1,2,3,4,5,6,7,8,9,10,11,12,13,14,15] rfl mixed (by kernel_rfl) trivial ?_
    refine L_p (fPtr p1 2) rfl rfl (Zc at_25_2 x6 (PT.ptr i3)) ?_
    refine L_ld (c:=k8) rfl rfl .plain (fun _ _ h=>h.ch) jB rfl ?_
    refine L_p (.int .i64 (o0)) rfl rfl (Zk i6) ?_
    refine L_p (ePtr k8 o0 5) rfl rfl (Zh (α:=BoxShuttle) Try.underlying23 Try.sizeOf87 rfl d7 rfl k9) ?_
    refine L_p (fPtr (ePtr k8 o0 5) 1) rfl rfl (Zc at_87_1 rfl (PT.ptr i7)) ?_
    refine L_ld (c:=.int .i64 ((l5).Side)) rfl rfl .plain (fun _ _ h=>h.ch) lB rfl ?_
    refine L_p (fPtr p1 2) rfl rfl (Zc at_25_2 x6 (PT.ptr i3)) ?_
    refine L_ld (c:=n8) rfl rfl .plain (fun _ _ h=>h.ch) mB rfl ?_
    refine L_p (.int .i64 (o0)) rfl rfl (Zk i6) ?_
    refine L_p (ePtr n8 o0 5) rfl rfl (Zh (α:=BoxShuttle) Try.underlying23 Try.sizeOf87 rfl j7 rfl l9) ?_
    refine L_p (fPtr (ePtr n8 o0 5) 2) rfl rfl (Zc at_87_2 rfl (PT.ptr m7)) ?_
    refine L_ld (c:=.int .i64 ((j6).Box)) rfl rfl .plain (fun _ _ h=>h.ch) nB rfl ?_
    refine L_p (.int .i64 (o0)) rfl rfl (Zk i6) ?_
    refine L_p (.int .i64 ((w64 (o0 + (1:Int))))) rfl rfl (P_int rfl rfl rfl) ?_
    refine L_p (fPtr p4 (((l5).Side:Int).toNat * 4)) rfl rfl (P_indexAddrA (α:=Vector Int 4) Try.underlying76 Try.sizeOf75 v7 (OB.ptr i5) rfl n9) ?_
    refine L_p (fPtr p4 ((((l5).Side:Int).toNat * 4) + ((j6).Box:Int).toNat * 1)) rfl rfl (P_indexAddrA2 (α:=Int) (o1:=(((l5).Side:Int).toNat * 4)) rfl Try.underlying75 Try.sizeOf3 rfl (OB.ptr i5) rfl u9) ?_
    refine L_nl fun mC nD hs=>?_
    have hfr:=hfr.ext hs
    have i3:=i3.ext hs
    have u3:=u3.ext hs
    have i5:=i5.ext hs
    have i8:=i8.ext hs
    have d7:=d7.ext hs
    have i7:=i7.ext hs
    have l8:=l8.ext hs
    have m8:=m8.ext hs
    have j7:=j7.ext hs
    have m7:=m7.ext hs
    have q8:=q8.ext hs
    clear hs
    refine Ze .plain rfl (D_storeFc (g:=mC) (SubS.at_ (SubS.dynC hi155 (SubS.dyn hi157) rfl) (by first | rfl | exact Nat.add_assoc _ _ _ | simp only [Nat.add_assoc,Nat.zero_add] | omega)) Try.sizeOf3 rfl i5 rfl (Zj.2 rfl) fun qC oD hs b179 rst hos=>?_)
    clear rst hos
    have hfr:=hfr.stp hs
    have i3:=i3.stp hs
    have u3:=u3.stp hs rfl
    refine Zb (blk_n ?_)
    obtain rfl:=sinj h
    exact hQ _ _ ⟨qC,hfr,x6,i3,bA,u3,v7,b179,i6⟩
   ·clear hx
    obtain ⟨rC,hfr,gA,iA,jA,mA,pA,qA,rA⟩:=hR
    refine Za (Zo rA rfl ?_)
    refine EL_in (.int .i64 ((w64 (o0 + (1:Int))))) rfl rfl rfl rfl ?_
    refine Zg (.int .i64 ((w64 (o0 + (1:Int))))) rfl rfl ?_
    exact Zb (Zd (yB (x5,(w64 (o0 + (1:Int)))) _ _ ⟨rC,hfr,gA,iA,jA,mA,pA,qA,rfl⟩ h))
 ·clear hx
  obtain ⟨yA,hfr,g8,aB,dB,iB⟩:=hR
  refine Zf (Za (Ze .plain rfl (D_loadO (g:=yA) Try.isAgg76 Try.sizeOf76 dB iB fun uC vC=>?_)))
  refine Ze .plain rfl (D_storeOc (g:=yA) (v:=uC) Try.sizeOf76 g8 aB rfl vC fun sD tD hs b183 cb=>?_)
  clear cb
  have hfr:=hfr.stp hs
  refine Zb (Zd (E_ret ?_))
  obtain rfl:=sinj h
  obtain ⟨ad184,cv184,hp184,oB,cr184⟩:=ob_read Try.isAgg76 Try.sizeOf76 b183
  exact endm_c rfl rfl ((show _=p2 from g8).trans hp184) oB ⟨_,hfr,cr184⟩
def f49 (x0:Int) (x1:Int):Option (BoxPick):=
 some ((⟨x0,x1⟩:BoxPick))
theorem en49:Enters Try.prog 49:=enters_of Try.func49 (by kernel_rfl) rfl
theorem wk49 {gI:Gh} {wI:World} {x0:Int} {x1:Int}  {r:BoxPick} (h:f49 x0 x1=some r):Fn Try.prog 49 #[.int .i64 (x0),.int .i64 (x1)] gI wI (fun m w v=>RV m w (r) v):=by
 unfold f49 at h
 refine fn_of_E Try.func49 rfl (Nat.le_of_ble_eq_true rfl) fun g0 hm hfr=>?_
 show E _ 8 none _ _ _ _ _
 refine Zf (Za (Ze .plain rfl (D_allocOc (g:=g0) 2004 (⟨0,0⟩:BoxPick) Try.zeroValue83 (fun m w=>⟨_,(rep_two rep_int rep_int),rfl⟩) fun g1 w1 p1 hs b1 cb=>?_)))
 have hfr:=hfr.stp hs
 clear cb
 refine Zb (Zd (Zf (Za (Zn (.int .i64 (x0)) rfl rfl ?_))))
 refine Zn (.int .i64 (x1)) rfl rfl ?_
 have r2:RV g1.m w1 (⟨x0,x1⟩:BoxPick) (.agg (setCh [[.int .i64 0],[.int .i64 0]] [(0,.int .i64 (x0)),(1,.int .i64 (x1))]).flatten.toArray):=RV_build rfl (rep_pair (rfl) (rep_last (rfl)))
 generalize hv2:(Value.agg (setCh [[.int .i64 0],[.int .i64 0]] [(0,.int .i64 (x0)),(1,.int .i64 (x1))]).flatten.toArray)=v2 at r2
 refine EL_p v2 (hv2 ▸ P_build (vs:=[(0,.int .i64 (x0)),(1,.int .i64 (x1))]) [[.int .i64 0],[.int .i64 0]] lay_83 rfl rfl (.cons rfl (.cons rfl .nil)) ⟨⟨_,rfl,rfl⟩,⟨⟨_,rfl,rfl⟩,trivial⟩⟩) rfl ?_
 refine Ze .plain rfl (D_storeOc (g:=g1) (v:=v2) Try.sizeOf83 rfl b1 rfl r2 fun g3 w3 hs b3 cb=>?_)
 clear cb
 have hfr:=hfr.stp hs
 refine Zb (Zd (E_ret ?_))
 obtain rfl:=sinj h
 obtain ⟨ad4,cv4,hp4,o0,cr4⟩:=ob_read Try.isAgg83 Try.sizeOf83 b3
 exact endm_c rfl rfl ((show _=p1 from rfl).trans hp4) o0 ⟨_,hfr,cr4⟩
def f50 (x0:BoxLoom):Option (BoxLoom):=
 (apnd 8 (([]:List Int)) ((x0).Boxes)).bind fun y7=>
 (apnd 8 (([]:List Int)) ((x0).At)).bind fun i3=>
 (apnd 40 (([]:List BoxShuttle)) ((x0).Shuttles)).bind fun u3=>
 some ((⟨y7,i3,u3⟩:BoxLoom))
theorem en50:Enters Try.prog 50:=enters_of Try.func50 (by kernel_rfl) rfl
theorem wk50 {gI:Gh} {wI:World} {x0:BoxLoom} {up0:Value} (rp0:RV gI.m wI x0 up0) {r:BoxLoom} (h:f50 x0=some r):Fn Try.prog 50 #[up0] gI wI (fun m w v=>RV m w (r) v):=by
 unfold f50 at h
 refine fn_of_E Try.func50 rfl (Nat.le_of_ble_eq_true rfl) fun g0 hm hfr=>?_
 have rp0:RV g0.m wI x0 up0:=hm ▸ rp0
 show E _ 16 none _ _ _ _ _
 refine Zf (Za (Ze .plain rfl (D_box (g:=g0) rfl rp0 fun g1 w1 p1 hs q1=>?_)))
 have hfr:=hfr.ext hs
 refine Ze .plain rfl (D_allocOc (g:=g1) 2002 (⟨[],[],[]⟩:BoxLoom) Try.zeroValue25 (fun m w=>⟨_,(rep_two rep_nil (rep_two rep_nil rep_nil)),rfl⟩) fun g2 w2 p2 hs b2 cb=>?_)
 have hfr:=hfr.stp hs
 have q1:=q1.stp hs
 have l9:OSF 2002 60200 0 g2 w2 3 25 ([]:List Int) p2:=cb.osf (by rfl)
 have n9:OSF 2002 60201 1 g2 w2 3 25 ([]:List Int) p2:=cb.osf (by rfl)
 have u9:OSF 2002 60202 2 g2 w2 87 25 ([]:List BoxShuttle) p2:=cb.osf (by rfl)
 clear cb
 refine Zb (Zd (Zf ?_))
 have q4:=Zm (part_BoxLoom_0).1 q1
 refine Zs (x:=.tmp 4) Try.isAgg22 Try.sizeOf22 q4 fun v5 r5 i8=>?_
 obtain ⟨y7,k8,h⟩:=bsome h
 have q9:=Zm (part_BoxLoom_1).1 q1
 refine Zs (x:=.tmp 8) Try.isAgg22 Try.sizeOf22 q9 fun l8 m8 i7=>?_
 obtain ⟨i3,j7,h⟩:=bsome h
 have n8:=Zm (part_BoxLoom_2).1 q1
 refine Zs (x:=.tmp 12) Try.isAgg23 Try.sizeOf23 n8 fun q8 r8 m7=>?_
 obtain ⟨u3,v7,h⟩:=bsome h
 refine E_drawL (g:=g2) (n:=12) [(0,(fun v g w=>RV g.m w ([]:List Int) v∧OS 3003 g w 3 ([]:List Int) v∧FullV v)),(3,(fun v g w=>RV g.m w y7 v∧OS 3003 g w 3 y7 v)),(4,(fun v g w=>RV g.m w ([]:List Int) v∧OS 3007 g w 3 ([]:List Int) v∧FullV v)),(7,(fun v g w=>RV g.m w i3 v∧OS 3007 g w 3 i3 v)),(8,(fun v g w=>RV g.m w ([]:List BoxShuttle) v∧OS 3011 g w 87 ([]:List BoxShuttle) v∧FullV v)),(11,(fun v g w=>RV g.m w u3 v∧OS 3011 g w 87 u3 v))] [0,1,2,3,4,5,6,7,8,9,10,11] rfl mixed (by kernel_rfl) (⟨fun _=>up_and up_rv (up_and up_os (up_eq _)),fun _=>up_and up_rv up_os,fun _=>up_and up_rv (up_and up_os (up_eq _)),fun _=>up_and up_rv up_os,fun _=>up_and up_rv (up_and up_os (up_eq _)),fun _=>up_and up_rv up_os,trivial⟩) ?_
 refine L_do (φ:=fun v g w=>RV g.m w ([]:List Int) v∧OS 3003 g w 3 ([]:List Int) v∧FullV v) rfl rfl .plain (fun g w hd=>D_buildSlice (g:=g) 3003 (xs:=([]:List Int)) (vs:=[]) Try.underlying22 Try.sizeOf3 Try.zeroValue3 rfl rfl .nil RVs.nil rfl rfl fun g' w' v hs o r hxt hfl=>⟨g',hxt,r,o,hfl⟩) (fun v3 hv=>?_)
 clear hv
 refine L_p (fPtr p1 0) rfl rfl (Zc at_25_0 rfl (PT.ptr q1)) ?_
 refine L_ld (c:=v5) rfl rfl .plain (fun _ _ h=>h.ch) i8 rfl ?_
 refine L_do (φ:=fun v g w=>RV g.m w y7 v∧OS 3003 g w 3 y7 v) rfl rfl .plain (fun g w hd=>D_append (g:=g) (i:=3003) Try.underlying22 info_3 rfl rfl (word (A:=fun g w=>RV g.m w ([]:List Int) v3∧OS 3003 g w 3 ([]:List Int) v3∧FullV v3) 0 rfl rfl (deps_of hd)).2.1 (word (A:=fun g w=>RV g.m w ([]:List Int) v3∧OS 3003 g w 3 ([]:List Int) v3∧FullV v3) 0 rfl rfl (deps_of hd)).1 rfl (r5.ext hd.1) k8 fun g' w' v hs o r hf=>⟨g',hf (word (A:=fun g w=>RV g.m w ([]:List Int) v3∧OS 3003 g w 3 ([]:List Int) v3∧FullV v3) 0 rfl rfl (deps_of hd)).2.2,r,o⟩) (fun v6 hv=>?_)
 clear hv
 refine L_do (φ:=fun v g w=>RV g.m w ([]:List Int) v∧OS 3007 g w 3 ([]:List Int) v∧FullV v) rfl rfl .plain (fun g w hd=>D_buildSlice (g:=g) 3007 (xs:=([]:List Int)) (vs:=[]) Try.underlying22 Try.sizeOf3 Try.zeroValue3 rfl rfl .nil RVs.nil rfl rfl fun g' w' v hs o r hxt hfl=>⟨g',hxt,r,o,hfl⟩) (fun v8 hv=>?_)
 clear hv
 refine L_p (fPtr p1 1) rfl rfl (Zc at_25_1 rfl (PT.ptr q1)) ?_
 refine L_ld (c:=l8) rfl rfl .plain (fun _ _ h=>h.ch) i7 rfl ?_
 refine L_do (φ:=fun v g w=>RV g.m w i3 v∧OS 3007 g w 3 i3 v) rfl rfl .plain (fun g w hd=>D_append (g:=g) (i:=3007) Try.underlying22 info_3 rfl rfl (word (A:=fun g w=>RV g.m w ([]:List Int) v8∧OS 3007 g w 3 ([]:List Int) v8∧FullV v8) 4 rfl rfl (deps_of hd)).2.1 (word (A:=fun g w=>RV g.m w ([]:List Int) v8∧OS 3007 g w 3 ([]:List Int) v8∧FullV v8) 4 rfl rfl (deps_of hd)).1 rfl (m8.ext hd.1) j7 fun g' w' v hs o r hf=>⟨g',hf (word (A:=fun g w=>RV g.m w ([]:List Int) v8∧OS 3007 g w 3 ([]:List Int) v8∧FullV v8) 4 rfl rfl (deps_of hd)).2.2,r,o⟩) (fun i5 hv=>?_)
 clear hv
 refine L_do (φ:=fun v g w=>RV g.m w ([]:List BoxShuttle) v∧OS 3011 g w 87 ([]:List BoxShuttle) v∧FullV v) rfl rfl .plain (fun g w hd=>D_buildSlice (g:=g) 3011 (xs:=([]:List BoxShuttle)) (vs:=[]) Try.underlying23 Try.sizeOf87 Try.zeroValue87 rfl rfl .nil RVs.nil rfl rfl fun g' w' v hs o r hxt hfl=>⟨g',hxt,r,o,hfl⟩) (fun o0 hv=>?_)
 clear hv
 refine L_p (fPtr p1 2) rfl rfl (Zc at_25_2 rfl (PT.ptr q1)) ?_
 refine L_ld (c:=q8) rfl rfl .plain (fun _ _ h=>h.ch) m7 rfl ?_
 refine L_do (φ:=fun v g w=>RV g.m w u3 v∧OS 3011 g w 87 u3 v) rfl rfl .plain (fun g w hd=>D_append (g:=g) (i:=3011) Try.underlying23 info_87 rfl rfl (word (A:=fun g w=>RV g.m w ([]:List BoxShuttle) o0∧OS 3011 g w 87 ([]:List BoxShuttle) o0∧FullV o0) 8 rfl rfl (deps_of hd)).2.1 (word (A:=fun g w=>RV g.m w ([]:List BoxShuttle) o0∧OS 3011 g w 87 ([]:List BoxShuttle) o0∧FullV o0) 8 rfl rfl (deps_of hd)).1 rfl (r8.ext hd.1) v7 fun g' w' v hs o r hf=>⟨g',hf (word (A:=fun g w=>RV g.m w ([]:List BoxShuttle) o0∧OS 3011 g w 87 ([]:List BoxShuttle) o0∧FullV o0) 8 rfl rfl (deps_of hd)).2.2,r,o⟩) (fun l5 hv=>?_)
 clear hv
 refine L_nil fun j6 y9 hall=>?_
 have hs:=hall.1
 have hfr:=hfr.ext hs
 have b2:=b2.ext hs
 have z9:=(word_all (A:=fun g w=>RV g.m w ([]:List Int) v3∧OS 3003 g w 3 ([]:List Int) v3∧FullV v3) 0 rfl hall).1
 have o22:=(word_all (A:=fun g w=>RV g.m w ([]:List Int) v3∧OS 3003 g w 3 ([]:List Int) v3∧FullV v3) 0 rfl hall).2.1
 have x5:=(word_all (A:=fun g w=>RV g.m w y7 v6∧OS 3003 g w 3 y7 v6) 3 rfl hall).1
 have o25:=(word_all (A:=fun g w=>RV g.m w y7 v6∧OS 3003 g w 3 y7 v6) 3 rfl hall).2
 have bA:=(word_all (A:=fun g w=>RV g.m w ([]:List Int) v8∧OS 3007 g w 3 ([]:List Int) v8∧FullV v8) 4 rfl hall).1
 have o26:=(word_all (A:=fun g w=>RV g.m w ([]:List Int) v8∧OS 3007 g w 3 ([]:List Int) v8∧FullV v8) 4 rfl hall).2.1
 have x6:=(word_all (A:=fun g w=>RV g.m w i3 i5∧OS 3007 g w 3 i3 i5) 7 rfl hall).1
 have o29:=(word_all (A:=fun g w=>RV g.m w i3 i5∧OS 3007 g w 3 i3 i5) 7 rfl hall).2
 have gA:=(word_all (A:=fun g w=>RV g.m w ([]:List BoxShuttle) o0∧OS 3011 g w 87 ([]:List BoxShuttle) o0∧FullV o0) 8 rfl hall).1
 have o30:=(word_all (A:=fun g w=>RV g.m w ([]:List BoxShuttle) o0∧OS 3011 g w 87 ([]:List BoxShuttle) o0∧FullV o0) 8 rfl hall).2.1
 have y6:=(word_all (A:=fun g w=>RV g.m w u3 l5∧OS 3011 g w 87 u3 l5) 11 rfl hall).1
 have o33:=(word_all (A:=fun g w=>RV g.m w u3 l5∧OS 3011 g w 87 u3 l5) 11 rfl hall).2
 clear hs hall
 have a7:RV j6.m _ (⟨y7,i3,u3⟩:BoxLoom) (.agg (setCh [[.slice none 0 0],[.slice none 0 0],[.slice none 0 0]] [(0,v6),(1,i5),(2,l5)]).flatten.toArray):=RV_build rfl (rep_pair (RV.cells x5) (rep_pair (RV.cells x6) (rep_last (RV.cells y6))))
 generalize i6:(Value.agg (setCh [[.slice none 0 0],[.slice none 0 0],[.slice none 0 0]] [(0,v6),(1,i5),(2,l5)]).flatten.toArray)=d7 at a7
 refine EL_p d7 (i6 ▸ P_build (vs:=[(0,v6),(1,i5),(2,l5)]) [[.slice none 0 0],[.slice none 0 0],[.slice none 0 0]] lay_25 rfl rfl (.cons rfl (.cons rfl (.cons rfl .nil))) ⟨⟨_,rfl,cells_size x5⟩,⟨⟨_,rfl,cells_size x6⟩,⟨⟨_,rfl,cells_size y6⟩,trivial⟩⟩⟩) rfl ?_
 refine Ze .plain rfl (D_storeOc (g:=j6) (v:=d7) Try.sizeOf25 rfl b2 rfl a7 fun t8 x8 hs b35 cb=>?_)
 obtain ⟨a9,d9,t5,_,_⟩:=RV_list x5
 have k9:OSF 2002 3003 0 t8 x8 3 25 (y7:List Int) p2:=cb.osfv (by rw [← i6,t5]; rfl) (o25.stp hs rfl)
 clear cb
 have hfr:=hfr.stp hs
 refine Zb (Zd (E_ret ?_))
 obtain rfl:=sinj h
 obtain ⟨ad36,cv36,hp36,g8,cr36⟩:=ob_read Try.isAgg25 Try.sizeOf25 b35
 exact endm_c rfl rfl ((show _=p2 from rfl).trans hp36) g8 ⟨_,hfr,cr36⟩
def f54 (x0:BoxBoxLoom) (x1:Int→BoxShuttle→Option Int):Option (BoxRace):=
 Option.bind (α:=BoxRace) (
  lp (σ:=BoxRace × Int) (fun mC (v6,o0)=>
   bif (decide (o0 < ((((x0).BoxLoom).Shuttles).length : Int))) then
    Option.bind (α:=BoxRace) (
     (idx (((x0).BoxLoom).Shuttles) o0).bind fun l5=>
     (x1 o0 l5).bind fun m7=>
     (idx ((v6).boxes).toList (l5).Side).bind fun u9=>
     (idx (u9).toList (l5).Box).bind fun y158=>
     some ({ v6 with boxes:=(vmod ((v6).boxes) ((l5).Side) (fun b=>(vset b ((l5).Box) m7))) })
     ) fun x6=>
    mC (x6,(w64 (o0 + (1:Int))))
   else
    some (v6)
   ) big ((⟨(⟨List.toArray [(⟨List.toArray [0,0,0,0],rfl⟩:Vector Int 4),(⟨List.toArray [0,0,0,0],rfl⟩:Vector Int 4)],rfl⟩:Vector (Vector Int 4) 2),⟨0,0⟩⟩:BoxRace),(0:Int))
  ) fun j7=>
 (idx (((x0).BoxLoom).At) (0:Int)).bind fun t5=>
 (idx (((x0).BoxLoom).At) (1:Int)).bind fun x5=>
 some ({ j7 with at_:=(⟨t5,x5⟩:BoxPick) })
theorem en54:Enters Try.prog 54:=enters_of Try.func54 (by kernel_rfl) rfl
theorem wk54 {gI:Gh} {wI:World} {x0:BoxBoxLoom} {x1:Int→BoxShuttle→Option Int} {up0:Value} (rp0:RV gI.m wI x0 up0) {up1:Value} (rp1:FnV2 Try.prog x1 up1 gI wI) {r:BoxRace} (h:f54 x0 x1=some r):Fn Try.prog 54 #[up0,up1] gI wI (fun m w v=>RV m w (r) v):=by
 unfold f54 at h
 refine fn_of_E Try.func54 rfl (Nat.le_of_ble_eq_true rfl) fun g0 hm hfr=>?_
 have rp0:RV g0.m wI x0 up0:=hm ▸ rp0
 obtain ⟨ff1,fa1,fc1,rfl,fen1,fcl1⟩:=rp1
 show E _ 41 none _ _ _ _ _
 refine Zf (Za (Ze .plain rfl (D_box (g:=g0) rfl rp0 fun g1 w1 p1 hs q1=>?_)))
 have hfr:=hfr.ext hs
 have rp0:=rp0.ext hs
 refine Ze .plain rfl (D_allocOc (g:=g1) 2004 (⟨(⟨List.toArray [(⟨List.toArray [0,0,0,0],rfl⟩:Vector Int 4),(⟨List.toArray [0,0,0,0],rfl⟩:Vector Int 4)],rfl⟩:Vector (Vector Int 4) 2),⟨0,0⟩⟩:BoxRace) Try.zeroValue108 (fun m w=>⟨_,(rep_two (rep_vec (flat_chunk (rep_vec (flat_chunk rep_int (flat_chunk rep_int (flat_chunk rep_int (flat_chunk rep_int flat_nil)))) rfl) (flat_chunk (rep_vec (flat_chunk rep_int (flat_chunk rep_int (flat_chunk rep_int (flat_chunk rep_int flat_nil)))) rfl) flat_nil)) rfl) (rep_two rep_int rep_int)),rfl⟩) fun g2 w2 p2 hs b2 cb=>?_)
 have hfr:=hfr.stp hs
 have rp0:=rp0.stp hs
 have q1:=q1.stp hs
 clear cb
 refine Zb (Zd ?_)
 obtain ⟨j7,hx,h⟩:=bsome h
 refine E_join (fun e w=>∃ (g:Gh) ,Fr gI wI g w∧e 2=p1∧PT g.m w (x0:BoxBoxLoom) p1∧e 4=p2∧OB 2004 g w 108 (j7:BoxRace) p2) (fun Q' hQ=>?_) (fun aE uC hR=>?_)
 ·replace h := hx
  clear hx
  refine Zf (Za (EL_p (fPtr p1 0) (Zc at_102_0 rfl (PT.ptr q1)) rfl ?_))
  have qC:=Zm (part_BoxBoxLoom_0).1 q1
  refine EL_p (fPtr (fPtr p1 0) 2) (Zc at_25_2 rfl (PT.ptr qC)) rfl ?_
  have zD:=Zm (part_BoxLoom_2).1 qC
  refine Ze .plain rfl (D_load (g:=g2) Try.isAgg23 Try.sizeOf23 rfl zD fun k8 rC=>?_)
  refine EL_p (.int .i64 ((((x0).BoxLoom).Shuttles).length:Int)) (P_len Try.underlying23 rfl rC) rfl ?_
  refine Zn (.int .i64 (0)) rfl rfl ?_
  refine Zb (Zd (Zr ?_))
  refine E_lp h (fun (s:BoxRace × Int) e w=>∃ (g:Gh) ,Fr gI wI g w∧e 1=(.func (.func ff1) fa1 fc1)∧e 2=p1∧PT g.m w (x0:BoxBoxLoom) p1∧e 4=p2∧OB 2004 g w 108 (s.1:BoxRace) p2∧e 9=k8∧RV g.m w (((x0).BoxLoom).Shuttles:List BoxShuttle) k8∧e 10=.int .i64 (((((x0).BoxLoom).Shuttles).length:Int))∧e 11=.int .i64 (s.2)) ⟨g2,hfr,rfl,rfl,q1,rfl,b2,rfl,rC,rfl,rfl⟩ (fun X98 mC vC=>?_)
  rintro ⟨v6,o0⟩ cE vE ⟨y9,hfr,q8,r8,i5,v7,i3,t8,u3,l8,y6⟩ h
  refine Zf (Za (EL_p (.bool ((decide (o0 < ((((x0).BoxLoom).Shuttles).length:Int))))) (P_int y6 l8 rfl) rfl ?_))
  refine Zb (Zd (Zf ?_))
  rcases Zt h with ⟨g8,h⟩ | ⟨g8,h⟩
  ·refine E_ct g8 rfl ?_
   refine Zu (Zd ?_)
   obtain ⟨x6,hx,h⟩:=bsome h
   refine E_join (fun e w=>∃ (g:Gh) ,Fr gI wI g w∧e 1=(.func (.func ff1) fa1 fc1)∧e 2=p1∧PT g.m w (x0:BoxBoxLoom) p1∧e 4=p2∧OB 2004 g w 108 (x6:BoxRace) p2∧e 9=k8∧RV g.m w (((x0).BoxLoom).Shuttles:List BoxShuttle) k8∧e 10=.int .i64 (((((x0).BoxLoom).Shuttles).length:Int))∧e 11=.int .i64 (o0)) (fun Q' hQ=>?_) (fun bE dE hR=>?_)
   ·replace h := hx
    clear hx
    refine Zr ?_
    refine Zf (Za (Zo y6 rfl ?_))
    obtain ⟨l5,v8,h⟩:=bsome h
    refine EL_p (ePtr k8 o0 5) (Zh (α:=BoxShuttle) Try.underlying23 Try.sizeOf87 t8 u3 y6 v8) rfl ?_
    have i6:=PT_idx u3 v8
    refine Ze .plain rfl (D_load (g:=y9) Try.isAgg87 Try.sizeOf87 rfl i6 fun aD j6=>?_)
    refine Ze .plain rfl (D_allocOc (g:=y9) 2006 (⟨0,0,0,⟨0,0⟩⟩:BoxShuttle) Try.zeroValue87 (fun m w=>⟨_,(rep_two rep_int (rep_two rep_int (rep_two rep_int (rep_two rep_int rep_int)))),rfl⟩) fun bD eE z9 hs b146 cb=>?_)
    have hfr:=hfr.stp hs
    have i5:=i5.stp hs
    have i3:=i3.stp hs rfl
    have u3:=u3.stp hs
    have i6:=i6.stp hs
    have j6:=j6.stp hs
    clear cb
    refine Zg (.int .i64 (o0)) rfl rfl ?_
    refine Ze .plain rfl (D_storeOc (g:=bD) (v:=aD) Try.sizeOf87 rfl b146 rfl j6 fun cD gE hs b147 cb=>?_)
    clear cb
    have hfr:=hfr.stp hs
    have i5:=i5.stp hs
    have i3:=i3.stp hs rfl
    have u3:=u3.stp hs
    have i6:=i6.stp hs
    have j6:=j6.stp hs
    refine Zb (Zd (L_loadO (x:=.tmp 16) part_BoxShuttle_1.1 Try.isAgg3 Try.sizeOf3 b147 fun iE eD oB=>?_))
    obtain rfl:=Zj.1 eD
    refine L_loadO (x:=.tmp 18) part_BoxShuttle_2.1 Try.isAgg3 Try.sizeOf3 b147 fun jE gD tB=>?_
    obtain rfl:=Zj.1 gD
    refine L_loadO0 (x:=.tmp 6) Try.isAgg87 Try.sizeOf87 b147 fun bA n8 vB=>?_
    obtain ⟨m7,yB,h⟩:=bsome h
    obtain ⟨u9,x8,h⟩:=bsome h
    obtain ⟨hi157,he157⟩:=vat_idx x8
    obtain ⟨y158,a9,h⟩:=bsome h
    obtain ⟨hi159,he159⟩:=vat_idx a9
    refine E_drawL (g:=cD) (n:=11) [(7,(fun v g w=>v=.int .i64 (m7)))] [0,1,2,3,4,5,6,7,8,9,10] rfl mixed (by kernel_rfl) (⟨fun _=>up_eq _,trivial⟩) ?_
    refine L_p (fPtr z9 1) rfl rfl (Zc at_87_1 rfl (OB.ptr b147)) ?_
    refine L_ld (c:=.int .i64 ((l5).Side)) rfl rfl .plain (fun _ _ h=>⟨h.ch,fun b hb _=>h.below.block b hb⟩) oB rfl ?_
    refine L_p (fPtr z9 2) rfl rfl (Zc at_87_2 rfl (OB.ptr b147)) ?_
    refine L_ld (c:=.int .i64 ((l5).Box)) rfl rfl .plain (fun _ _ h=>⟨h.ch,fun b hb _=>h.below.block b hb⟩) tB rfl ?_
    refine L_p ((.func (.func ff1) fa1 fc1)) rfl rfl (Zk q8) ?_
    refine L_p (.int .i64 (o0)) rfl rfl (Zk rfl) ?_
    refine L_ld (c:=bA) rfl rfl .plain (fun _ _ h=>⟨h.ch,fun b hb _=>h.below.block b hb⟩) vB rfl ?_
    refine L_do (φ:=fun v g w=>v=.int .i64 (m7)) rfl rfl .plain (fun g w hd=>D_callv (g:=g) (vs:=[.int .i64 (o0),bA]) rfl fen1 (.cons rfl (.cons rfl .nil)) (fcl1 _ _ (hfr.ext hd.1).ch _ _ _ _ _  (Zj.2 rfl) (n8.ext hd.1) yB) fun g' w' v hs hr=>⟨g',hs,Zj.1 hr⟩) (fun kE hv=>?_)
    obtain ⟨_,_,_,rfl⟩:=hv
    refine L_p (fPtr p2 0) rfl rfl (Zc at_108_0 v7 (OB.ptr i3)) ?_
    refine L_p (fPtr p2 (0 + ((l5).Side:Int).toNat * 4)) rfl rfl (P_indexAddrA2 (α:=Vector Int 4) (o1:=0) rfl Try.underlying76 Try.sizeOf75 rfl (OB.ptr i3) rfl x8) ?_
    refine L_p (fPtr p2 ((0 + ((l5).Side:Int).toNat * 4) + ((l5).Box:Int).toNat * 1)) rfl rfl (P_indexAddrA2 (α:=Int) (o1:=(0 + ((l5).Side:Int).toNat * 4)) rfl Try.underlying75 Try.sizeOf3 rfl (OB.ptr i3) rfl a9) ?_
    refine L_nl fun iD lE hs=>?_
    have hfr:=hfr.ext hs
    have i5:=i5.ext hs
    have i3:=i3.ext hs
    have u3:=u3.ext hs
    have i6:=i6.ext hs
    have j6:=j6.ext hs
    have b147:=b147.ext hs
    have n8:=n8.ext hs
    clear hs
    refine Ze .plain rfl (D_storeFc (g:=iD) (SubS.at_ (SubS.comp part_BoxRace_0 (SubS.dynC hi157 (SubS.dyn hi159) rfl) rfl) (by first | rfl | exact Nat.add_assoc _ _ _ | simp only [Nat.add_assoc,Nat.zero_add] | omega)) Try.sizeOf3 rfl i3 rfl (Zj.2 rfl) fun jD mE hs b184 rst hos=>?_)
    clear rst hos
    have hfr:=hfr.stp hs
    have i5:=i5.stp hs
    have u3:=u3.stp hs
    refine Zb (blk_n ?_)
    obtain rfl:=sinj h
    exact hQ _ _ ⟨jD,hfr,q8,r8,i5,v7,b184,t8,u3,l8,y6⟩
   ·clear hx
    obtain ⟨kD,hfr,gA,iA,jA,mA,pA,qA,rA,l9,n9⟩:=hR
    refine Za (EL_in (.int .i64 ((w64 (o0 + (1:Int))))) n9 rfl rfl rfl ?_)
    refine Zn (.int .i64 ((w64 (o0 + (1:Int))))) rfl rfl ?_
    exact Zb (Zd (vC (x6,(w64 (o0 + (1:Int)))) _ _ ⟨kD,hfr,gA,iA,jA,mA,pA,qA,rA,l9,rfl⟩ h))
  ·refine E_cf g8 rfl ?_
   refine E_exit ?_
   refine thn_e ?_
   refine thn_e ?_
   refine blk_hit ?_
   obtain rfl:=sinj h
   exact hQ _ _ ⟨y9,hfr,r8,i5,v7,i3⟩
 ·clear hx
  obtain ⟨yA,hfr,m8,a7,d7,i7⟩:=hR
  refine Zf ?_
  have aB:=Zm (part_BoxBoxLoom_0).1 a7
  have lD:=Zm (part_BoxLoom_1).1 aB
  refine Zs (x:=.tmp 29) Try.isAgg22 Try.sizeOf22 lD fun dB iB zB=>?_
  obtain ⟨t5,d9,h⟩:=bsome h
  have mD:=PT_idx iB d9
  refine Zs (x:=.tmp 31) Try.isAgg3 Try.sizeOf3 mD fun nE nD aC=>?_
  obtain rfl:=Zj.1 nD
  have jB:=Zm (part_BoxBoxLoom_0).1 a7
  have oD:=Zm (part_BoxLoom_1).1 jB
  refine Zs (x:=.tmp 34) Try.isAgg22 Try.sizeOf22 oD fun lB mB cC=>?_
  obtain ⟨x5,k9,h⟩:=bsome h
  have sD:=PT_idx mB k9
  refine Zs (x:=.tmp 36) Try.isAgg3 Try.sizeOf3 sD fun oE tD eC=>?_
  obtain rfl:=Zj.1 tD
  have i8:RV yA.m uC (⟨t5,x5⟩:BoxPick) (.agg (setCh [[.int .i64 0],[.int .i64 0]] [(0,.int .i64 (t5)),(1,.int .i64 (x5))]).flatten.toArray):=RV_build rfl (rep_pair (rfl) (rep_last (rfl)))
  generalize iC:(Value.agg (setCh [[.int .i64 0],[.int .i64 0]] [(0,.int .i64 (t5)),(1,.int .i64 (x5))]).flatten.toArray)=uD at i8
  refine E_drawL (g:=yA) (n:=12) [] [0,1,2,3,4,5,6,7,8,9,10,11] rfl mixed (by kernel_rfl) trivial ?_
  refine L_p (fPtr p1 0) rfl rfl (Zc at_102_0 m8 (PT.ptr a7)) ?_
  refine L_p (fPtr (fPtr p1 0) 1) rfl rfl (Zc at_25_1 rfl (PT.ptr aB)) ?_
  refine L_ld (c:=dB) rfl rfl .plain (fun _ _ h=>h.ch) zB rfl ?_
  refine L_p (ePtr dB (0:Int) 1) rfl rfl (Zh (α:=Int) Try.underlying22 Try.sizeOf3 rfl iB rfl d9) ?_
  refine L_ld (c:=.int .i64 (t5)) rfl rfl .plain (fun _ _ h=>h.ch) aC rfl ?_
  refine L_p (fPtr p1 0) rfl rfl (Zc at_102_0 m8 (PT.ptr a7)) ?_
  refine L_p (fPtr (fPtr p1 0) 1) rfl rfl (Zc at_25_1 rfl (PT.ptr jB)) ?_
  refine L_ld (c:=lB) rfl rfl .plain (fun _ _ h=>h.ch) cC rfl ?_
  refine L_p (ePtr lB (1:Int) 1) rfl rfl (Zh (α:=Int) Try.underlying22 Try.sizeOf3 rfl mB rfl k9) ?_
  refine L_ld (c:=.int .i64 (x5)) rfl rfl .plain (fun _ _ h=>h.ch) eC rfl ?_
  refine L_p uD rfl rfl (iC ▸ P_build (vs:=[(0,.int .i64 (t5)),(1,.int .i64 (x5))]) [[.int .i64 0],[.int .i64 0]] lay_83 rfl rfl (.cons rfl (.cons rfl .nil)) ⟨⟨_,rfl,rfl⟩,⟨⟨_,rfl,rfl⟩,trivial⟩⟩) ?_
  refine L_p (fPtr p2 8) rfl rfl (Zc at_108_1 d7 (OB.ptr i7)) ?_
  refine L_nl fun vD rE hs=>?_
  have hfr:=hfr.ext hs
  have i7:=i7.ext hs
  have i8:=i8.ext hs
  clear hs
  refine Ze .plain rfl (D_storeFc (g:=vD) part_BoxRace_1 Try.sizeOf83 rfl i7 rfl i8 fun nB sE hs b216 rst hos=>?_)
  clear rst hos
  have hfr:=hfr.stp hs
  refine Zb (Zd (Zf (Za (Ze .plain rfl (D_loadO (g:=nB) Try.isAgg108 Try.sizeOf108 d7 b216 fun xD yD=>?_)))))
  refine Ze .plain rfl (D_storeOc (g:=nB) (v:=xD) Try.sizeOf108 d7 b216 rfl yD fun tE uE hs b218 cb=>?_)
  clear cb
  have hfr:=hfr.stp hs
  refine Zb (Zd (E_ret ?_))
  obtain rfl:=sinj h
  obtain ⟨ad219,cv219,hp219,lC,cr219⟩:=ob_read Try.isAgg108 Try.sizeOf108 b218
  exact endm_c rfl rfl ((show _=p2 from d7).trans hp219) lC ⟨_,hfr,cr219⟩
def f55 (x0:Int) (x1:BoxShuttle):Option (Int):=
 some ((w64 ((x1).Colour + (1:Int))))
theorem en55:Enters Try.prog 55:=enters_of Try.func55 (by kernel_rfl) rfl
theorem wk55 {gI:Gh} {wI:World} {x0:Int} {x1:BoxShuttle} {up1:Value} (rp1:RV gI.m wI x1 up1) {r:Int} (h:f55 x0 x1=some r):Fn Try.prog 55 #[.int .i64 (x0),up1] gI wI (fun _ _ v=>v=.int .i64 (r)):=by
 unfold f55 at h
 refine fn_of_E Try.func55 rfl (Nat.le_of_ble_eq_true rfl) fun g0 hm hfr=>?_
 have rp1:RV g0.m wI x1 up1:=hm ▸ rp1
 show E _ 8 none _ _ _ _ _
 refine Zf (Za (Ze .plain rfl (D_box (g:=g0) rfl rp1 fun g1 w1 p1 hs q1=>?_)))
 have hfr:=hfr.ext hs
 refine Zg (.int .i64 (0)) rfl rfl ?_
 refine Zb (Zd (Zf (Za (EL_p (fPtr p1 0) (Zc at_87_0 rfl (PT.ptr q1)) rfl ?_))))
 have q2:=Zm (part_BoxShuttle_0).1 q1
 refine Ze .plain rfl (D_load (g:=g1) Try.isAgg3 Try.sizeOf3 rfl q2 fun v3 r3=>?_)
 obtain rfl:=Zj.1 r3
 refine EL_in (.int .i64 ((w64 ((x1).Colour + (1:Int))))) rfl rfl rfl rfl ?_
 refine Zg (.int .i64 ((w64 ((x1).Colour + (1:Int))))) rfl rfl ?_
 refine Zb (Zd (E_ret ?_))
 obtain rfl:=sinj h
 exact end1 rfl rfl (show _=.int .i64 ((w64 ((x1).Colour + (1:Int)))) from rfl) ⟨_,hfr,rfl⟩
def f56 (x0:BoxBoxLoom):Option (BoxMill):=
 (idx (((x0).BoxLoom).Boxes) (0:Int)).bind fun y5=>
 (idx (((x0).BoxLoom).Boxes) (1:Int)).bind fun y11=>
 some ((⟨y5,y11,⟨⟩⟩:BoxMill))
theorem en56:Enters Try.prog 56:=enters_of Try.func56 (by kernel_rfl) rfl
theorem wk56 {gI:Gh} {wI:World} {x0:BoxBoxLoom} {up0:Value} (rp0:RV gI.m wI x0 up0) {r:BoxMill} (h:f56 x0=some r):Fn Try.prog 56 #[up0] gI wI (fun m w v=>PT m w (r) v):=by
 unfold f56 at h
 refine fn_of_E Try.func56 rfl (Nat.le_of_ble_eq_true rfl) fun g0 hm hfr=>?_
 have rp0:RV g0.m wI x0 up0:=hm ▸ rp0
 show E _ 16 none _ _ _ _ _
 refine Zf (Za (Ze .plain rfl (D_box (g:=g0) rfl rp0 fun g1 w1 p1 hs q1=>?_)))
 have hfr:=hfr.ext hs
 refine Zg (.pointer none) rfl rfl ?_
 refine Zb (Zd (Zf ?_))
 have q2:=Zm (part_BoxBoxLoom_0).1 q1
 have q3:=Zm (part_BoxLoom_0).1 q2
 refine Zs (x:=.tmp 4) Try.isAgg22 Try.sizeOf22 q3 fun v4 r4 i7=>?_
 obtain ⟨y5,hy5,h⟩:=bsome h
 have q6:=PT_idx r4 hy5
 refine Zs (x:=.tmp 6) Try.isAgg3 Try.sizeOf3 q6 fun v7 r7 hl7=>?_
 obtain rfl:=Zj.1 r7
 have q8:=Zm (part_BoxBoxLoom_0).1 q1
 have q9:=Zm (part_BoxLoom_0).1 q8
 refine Zs (x:=.tmp 9) Try.isAgg22 Try.sizeOf22 q9 fun l5 t5 a7=>?_
 obtain ⟨y11,u3,h⟩:=bsome h
 have j7:=PT_idx t5 u3
 refine Zs (x:=.tmp 11) Try.isAgg3 Try.sizeOf3 j7 fun i8 m7 d7=>?_
 obtain rfl:=Zj.1 m7
 refine E_drawTL (g:=g1) (n:=10) [0,1,2,3,4,5,6,7,8,9] [] [0,1,2,3,4,5,6,7,8,9] rfl mixed (by kernel_rfl) trivial rfl ?_
 refine L_purL (c:=fPtr p1 0) rfl rfl .plain (Zc at_102_0 rfl (PT.ptr q1)) ?_
 refine L_purL (c:=fPtr (fPtr p1 0) 0) rfl rfl .plain (Zc at_25_0 rfl (PT.ptr q2)) ?_
 refine L_ldL (c:=v4) rfl rfl .plain (fun _ _ h=>h.ch) rfl i7 rfl ?_
 refine L_purL (c:=ePtr v4 (0:Int) 1) rfl rfl .plain (Zh (α:=Int) Try.underlying22 Try.sizeOf3 rfl r4 rfl hy5) ?_
 refine L_ldL (c:=.int .i64 (y5)) rfl rfl .plain (fun _ _ h=>h.ch) rfl hl7 rfl ?_
 refine L_purL (c:=fPtr p1 0) rfl rfl .plain (Zc at_102_0 rfl (PT.ptr q1)) ?_
 refine L_purL (c:=fPtr (fPtr p1 0) 0) rfl rfl .plain (Zc at_25_0 rfl (PT.ptr q8)) ?_
 refine L_ldL (c:=l5) rfl rfl .plain (fun _ _ h=>h.ch) rfl a7 rfl ?_
 refine L_purL (c:=ePtr l5 (1:Int) 1) rfl rfl .plain (Zh (α:=Int) Try.underlying22 Try.sizeOf3 rfl t5 rfl u3) ?_
 refine L_ldL (c:=.int .i64 (y11)) rfl rfl .plain (fun _ _ h=>h.ch) rfl d7 rfl ?_
 refine L_nl fun x5 g8 hs=>?_
 have hlt:Lt g1.m w1 x5 g8:=hs.ch
 have hfr:=hfr.ext hs
 clear hs
 refine TL_do hlt.w .plain rfl (D_makeMap (g:=x5) (encK pl_112) Int 8013 fun o0 i6 i3 hs m28=>?_)
 have hfr:=hfr.stp hs
 have hlt:=hlt.stp hs
 have j6:RV o0.m _ (⟨y5,y11,⟨⟩⟩:BoxMill) (.agg (setCh [[.int .i64 0],[.int .i64 0],[.map none]] [(0,.int .i64 (y5)),(1,.int .i64 (y11)),(2,i3)]).flatten.toArray):=RV_build rfl (rep_pair (rfl) (rep_pair (rfl) (rep_last (RV.cells (m28.ref (m:=o0.m) (w':=i6))))))
 generalize i5:(Value.agg (setCh [[.int .i64 0],[.int .i64 0],[.map none]] [(0,.int .i64 (y5)),(1,.int .i64 (y11)),(2,i3)]).flatten.toArray)=v6 at j6
 refine TL_pur hlt.w (v:=v6) (i5 ▸ P_build (vs:=[(0,.int .i64 (y5)),(1,.int .i64 (y11)),(2,i3)]) [[.int .i64 0],[.int .i64 0],[.map none]] lay_154 rfl rfl (.cons rfl (.cons rfl (.cons rfl .nil))) ⟨⟨_,rfl,rfl⟩,⟨⟨_,rfl,rfl⟩,⟨⟨_,rfl,cells_size (m28.ref (m:=o0.m) (w':=i6))⟩,trivial⟩⟩⟩) .plain rfl ?_
 refine TL_do hlt.w .plain rfl (D_boxF (g:=o0) (v:=v6) (off:=2) (u:=i3) rfl j6 (by rw [← i5]; simp only [setCh,mp_cells m28]; rfl) fun k8 l8 x6 hs y6 fc30=>?_)
 have hfr:=hfr.ext hs
 have hlt:=hlt.ext hs
 have hone500215:=PT.one y6
 refine TL_pur hlt.w (v:=x6) (P_assign rfl) .plain rfl ?_
 refine TL_nil hlt.w ?_
 clear hlt
 refine Zd (E_ret ?_)
 obtain rfl:=sinj h
 exact end1 rfl rfl (show _=x6 from rfl) ⟨_,hfr,y6⟩
def f75 (x0:Int) (x1:BoxShuttle):Option (Int):=
 some ((w64 (x0 + (1:Int))))
theorem en75:Enters Try.prog 75:=enters_of Try.func75 (by kernel_rfl) rfl
theorem wk75 {gI:Gh} {wI:World} {x0:Int} {x1:BoxShuttle} {up1:Value} (rp1:RV gI.m wI x1 up1) {r:Int} (h:f75 x0 x1=some r):Fn Try.prog 75 #[.int .i64 (x0),up1] gI wI (fun _ _ v=>v=.int .i64 (r)):=by
 unfold f75 at h
 refine fn_of_E Try.func75 rfl (Nat.le_of_ble_eq_true rfl) fun g0 hm hfr=>?_
 have rp1:RV g0.m wI x1 up1:=hm ▸ rp1
 show E _ 7 none _ _ _ _ _
 refine Zf (Za (Ze .plain rfl (D_box (g:=g0) rfl rp1 fun g1 w1 p1 hs q1=>?_)))
 have hfr:=hfr.ext hs
 refine Zg (.int .i64 (0)) rfl rfl ?_
 refine Zb (Zd (Zf (Za (Zn (.int .i64 (x0)) rfl rfl ?_))))
 refine EL_in (.int .i64 ((w64 (x0 + (1:Int))))) rfl rfl rfl rfl ?_
 refine Zg (.int .i64 ((w64 (x0 + (1:Int))))) rfl rfl ?_
 refine Zb (Zd (E_ret ?_))
 obtain rfl:=sinj h
 exact end1 rfl rfl (show _=.int .i64 ((w64 (x0 + (1:Int)))) from rfl) ⟨_,hfr,rfl⟩
end Go.Proofs.Ytmpjooneiaiffaa
