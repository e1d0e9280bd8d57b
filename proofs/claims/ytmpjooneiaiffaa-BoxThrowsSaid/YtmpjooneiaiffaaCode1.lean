import Derived.Test.YtmpjooneiaiffaaTypes
import Derived.Test.YtmpjooneiaiffaaKn
import Derived.Test.YtmpjooneiaiffaaShelf
set_option maxRecDepth 8000
set_option maxHeartbeats 4000000
namespace Go.Proofs.Ytmpjooneiaiffaa
open Go.RowKit
theorem info_3:(Try.prog.info? 3).map (fun i=>(i.zero,i.size,i.bytes))=some (some (.int .i64 0),1,8):=by kernel_rfl
theorem info_87:(Try.prog.info? 87).map (fun i=>(i.zero,i.size,i.bytes))=some (some (.agg #[.int .i64 0,.int .i64 0,.int .i64 0,.int .i64 0,.int .i64 0]),5,40):=by kernel_rfl
theorem plain_Span:Plain Span:=fun _ m' _ w' x _ h=>(plain_two plain_int plain_int) _ m' _ w' _ _ h
theorem mixed:Try.prog.follows .mixedOrders=true:=by kernel_rfl
theorem plain_BoxShuttle:Plain BoxShuttle:=fun _ m' _ w' x _ h=>(plain_two plain_int (plain_two plain_int (plain_two plain_int plain_Span))) _ m' _ w' _ _ h
theorem fl_83 : Try.prog.fieldsOf 83 = #[{ name := "Left", type := 3, offset := 0, embedded := false, tag := "", pkgPath := "", byteOffset := 0 }, { name := "Right", type := 3, offset := 1, embedded := false, tag := "", pkgPath := "", byteOffset := 8 }] := by kernel_rfl
theorem seq_83:SEq (α:=BoxPick) Try.prog 83:=by
 intro d x y w a b m wx m2 wy hx hy
 obtain ⟨_,⟨_,_,rfl,rfl,rfl⟩,rfl⟩:=hx
 obtain ⟨_,⟨_,_,rfl,rfl,rfl⟩,rfl⟩:=hy
 refine (run_equalIn_struct w (d + 1) 83 _ _ (by kernel_rfl) (by kernel_rfl)).trans ?_
 rw [fl_83]
 obtain ⟨x0,x1⟩:=x
 obtain ⟨y0,y1⟩:=y
 show (Op.eqFields (d + 1) #[.int .i64 (x0),.int .i64 (x1)] #[.int .i64 (y0),.int .i64 (y1)] _).run _ _=_
 have x0p:(part 3 #[.int .i64 (x0),.int .i64 (x1)] 0).run Try.prog w=.ok (.int .i64 (x0)) w:=part_one Try.isAgg3 rfl
 have x1p:(part 3 #[.int .i64 (x0),.int .i64 (x1)] 1).run Try.prog w=.ok (.int .i64 (x1)) w:=part_one Try.isAgg3 rfl
 have y0p:(part 3 #[.int .i64 (y0),.int .i64 (y1)] 0).run Try.prog w=.ok (.int .i64 (y0)) w:=part_one Try.isAgg3 rfl
 have y1p:(part 3 #[.int .i64 (y0),.int .i64 (y1)] 1).run Try.prog w=.ok (.int .i64 (y1)) w:=part_one Try.isAgg3 rfl
 simp only [Op.eqFields,Sem.run_bind,Sem.run_ite,Sem.run_pure,x0p,x1p,y0p,y1p,Result.andThen_ok,run_equalIn_int _ _ _ _ _ _ _ Try.underlying3]
 simp
 grind
theorem eg_83:Try.prog.eqGuardType Try.prog.depth 83=false:=by kernel_rfl
theorem info_83:(Try.prog.info? 83).map (fun i=>(i.zero,i.size,i.bytes))=some (some (.agg #[.int .i64 0,.int .i64 0]),2,16):=by kernel_rfl
theorem fl_85 : Try.prog.fieldsOf 85 = #[{ name := "Low", type := 3, offset := 0, embedded := false, tag := "", pkgPath := "", byteOffset := 0 }, { name := "High", type := 3, offset := 1, embedded := false, tag := "", pkgPath := "", byteOffset := 8 }] := by kernel_rfl
theorem lay_25:layoutOf Try.prog 25=some ([.slice none 0 0,.slice none 0 0,.slice none 0 0],[(0,1),(1,1),(2,1)]):=by kernel_rfl
theorem endm_c {P:Program} {e:Env} {ds:List Deferred} {w:World} {fn:Func} {R:Value→World→Prop} {t0:Tmp} {v0:Value} {y0:TypeId} {a0:Addr} (hres:fn.results=#[.cell t0 y0]) (hd:ds=[]) (h0:e t0=.pointer (some a0)) (l0:(loadVar y0 a0).run P w=.ok v0 w) (h:R v0 w):atEnd P fn R .ret e ds w:=
 ⟨hd,fun tmps ht=>⟨_,by simp [results,hres,ht,asAddr,h0,l0],h⟩⟩
theorem lay_83:layoutOf Try.prog 83=some ([.int .i64 0,.int .i64 0],[(0,1),(1,1)]):=by kernel_rfl
theorem lay_102:layoutOf Try.prog 102=some ([.slice none 0 0,.slice none 0 0,.slice none 0 0],[(0,3)]):=by kernel_rfl
theorem capf_0_1 {e:Env} {f:FuncId} {o0:Operand} {b0:Value} (hb0:ev e o0=b0):(Value.func (.func f) ((#[]:Array Operand).map (ev e)) ((#[o0]:Array Operand).map (ev e)))=.func (.func f) #[] #[b0]:=by simp [hb0]
theorem endm_ct {P:Program} {e:Env} {ds:List Deferred} {w:World} {fn:Func} {R:Value→World→Prop} {t0:Tmp} {v0:Value} {y0:TypeId} {a0:Addr} {t1:Tmp} {v1:Value} (hres:fn.results=#[.cell t0 y0,.tmp t1]) (hd:ds=[]) (h0:e t0=.pointer (some a0)) (l0:(loadVar y0 a0).run P w=.ok v0 w) (h1:e t1=v1) (h:R (.tuple #[v0,v1]) w):atEnd P fn R .ret e ds w:=
 ⟨hd,fun tmps ht=>⟨_,by simp [results,hres,ht,asAddr,h0,l0,h1],h⟩⟩
theorem pl_75:Pl (Vector Int 4):=Pl.array Pl.int
theorem pl_76:Pl (Vector (Vector Int 4) 2):=Pl.array pl_75
theorem pl_83:Pl BoxPick:=Pl.of (Pl.prod Pl.int Pl.int)
theorem pl_108:Pl BoxRace:=Pl.of (Pl.prod pl_76 pl_83)
theorem pl_112:Pl BoxPoint:=Pl.of (Pl.prod Pl.int (Pl.prod Pl.int pl_108))
theorem lay_154:layoutOf Try.prog 154=some ([.int .i64 0,.int .i64 0,.map none],[(0,1),(1,1),(2,1)]):=by kernel_rfl
theorem key_3:KeyLaw Try.prog 3 (Value.int .i64):=keyLaw_int Try.underlying3
theorem capf_0_2 {e:Env} {f:FuncId} {o0:Operand} {i3:Operand} {b0:Value} {b1:Value} (hb0:ev e o0=b0) (hb1:ev e i3=b1):(Value.func (.func f) ((#[]:Array Operand).map (ev e)) ((#[o0,i3]:Array Operand).map (ev e)))=.func (.func f) #[] #[b0,b1]:=by simp [hb0,hb1]
theorem endm_ctt {P:Program} {e:Env} {ds:List Deferred} {w:World} {fn:Func} {R:Value→World→Prop} {t0:Tmp} {v0:Value} {y0:TypeId} {a0:Addr} {t1:Tmp} {v1:Value} {t2:Tmp} {v2:Value} (hres:fn.results=#[.cell t0 y0,.tmp t1,.tmp t2]) (hd:ds=[]) (h0:e t0=.pointer (some a0)) (l0:(loadVar y0 a0).run P w=.ok v0 w) (h1:e t1=v1) (h2:e t2=v2) (h:R (.tuple #[v0,v1,v2]) w):atEnd P fn R .ret e ds w:=
 ⟨hd,fun tmps ht=>⟨_,by simp [results,hres,ht,asAddr,h0,l0,h1,h2],h⟩⟩
theorem eqd_85:EqD Try.prog Span 2 85:=EqD.struct rfl (by kernel_rfl) (by kernel_rfl) (by rw [fl_85]; exact (FEq.cons (by decide) (part_Span_0).1 Try.isAgg3 Try.sizeOf3 (EqD.int Try.underlying3) (FEq.cons (by decide) (part_Span_1).1 Try.isAgg3 Try.sizeOf3 (EqD.int Try.underlying3) FEq.nil))) (fun x y=>by cases x; cases y; simp)
theorem fl_87 : Try.prog.fieldsOf 87 = #[{ name := "Colour", type := 3, offset := 0, embedded := false, tag := "", pkgPath := "", byteOffset := 0 }, { name := "Side", type := 3, offset := 1, embedded := false, tag := "", pkgPath := "", byteOffset := 8 }, { name := "Box", type := 3, offset := 2, embedded := false, tag := "", pkgPath := "", byteOffset := 16 }, { name := "Yarn", type := 85, offset := 3, embedded := false, tag := "", pkgPath := "", byteOffset := 24 }] := by kernel_rfl
theorem eqd_87:EqD Try.prog BoxShuttle 3 87:=EqD.struct rfl (by kernel_rfl) (by kernel_rfl) (by rw [fl_87]; exact (FEq.cons (by decide) (part_BoxShuttle_0).1 Try.isAgg3 Try.sizeOf3 ((EqD.int Try.underlying3).up (by decide)) (FEq.cons (by decide) (part_BoxShuttle_1).1 Try.isAgg3 Try.sizeOf3 ((EqD.int Try.underlying3).up (by decide)) (FEq.cons (by decide) (part_BoxShuttle_2).1 Try.isAgg3 Try.sizeOf3 ((EqD.int Try.underlying3).up (by decide)) (FEq.cons (by decide) (part_BoxShuttle_3).1 Try.isAgg85 Try.sizeOf85 eqd_85 FEq.nil))))) (fun x y=>by cases x; cases y; simp)
theorem eg_87:Try.prog.eqGuardType Try.prog.depth 87=false:=by kernel_rfl
theorem lay_58:layoutOf Try.prog 58=some ([.slice none 0 0,.slice none 0 0,.slice none 0 0,.slice none 0 0,.int .i64 0],[(0,1),(1,3),(4,1)]):=by kernel_rfl
theorem layA_138:((Try.prog.info? 138).bind (·.zero)).map (·.cells.toList)=some [.int .i64 0,.int .i64 0]:=by kernel_rfl
theorem szA_3:(Try.prog.info? 3).map (·.size)=some 1:=by kernel_rfl
theorem endm_cttt {P:Program} {e:Env} {ds:List Deferred} {w:World} {fn:Func} {R:Value→World→Prop} {t0:Tmp} {v0:Value} {y0:TypeId} {a0:Addr} {t1:Tmp} {v1:Value} {t2:Tmp} {v2:Value} {t3:Tmp} {v3:Value} (hres:fn.results=#[.cell t0 y0,.tmp t1,.tmp t2,.tmp t3]) (hd:ds=[]) (h0:e t0=.pointer (some a0)) (l0:(loadVar y0 a0).run P w=.ok v0 w) (h1:e t1=v1) (h2:e t2=v2) (h3:e t3=v3) (h:R (.tuple #[v0,v1,v2,v3]) w):atEnd P fn R .ret e ds w:=
 ⟨hd,fun tmps ht=>⟨_,by simp [results,hres,ht,asAddr,h0,l0,h1,h2,h3],h⟩⟩
@[reducible] def ow_BoxLoom:Ow BoxLoom:=Ow.struct (fun (x:BoxLoom)=>(x.Boxes,x.At,x.Shuttles)) (Ow.pair (Ow.list 3 (Ow.sh Int)) (Ow.pair (Ow.list 3 (Ow.sh Int)) (Ow.list 87 (Ow.sh BoxShuttle))))
theorem lay_144:layoutOf Try.prog 144=some ([.int .i64 0,.int .i64 0,.int .i64 0,.int .i64 0,.int .i64 0,.int .i64 0,.int .i64 0,.int .i64 0,.int .i64 0,.int .i64 0,.int .i64 0,.int .i64 0],[(0,10),(10,1),(11,1)]):=by kernel_rfl
theorem fl_BoxLoom_2:Fl ow_BoxLoom (Ow.list 87 (Ow.sh BoxShuttle)) 2 (fun (x:BoxLoom) y=>{ x with Shuttles:=y }) (fun (q:(ow_BoxLoom).S) (r:((Ow.list 87 (Ow.sh BoxShuttle))).S)=>(Prod.fst q,(Prod.fst (Prod.snd q),r))):=Fl.of _ (Fl.comp Prod.snd Prod.snd (Fl.snd _ _) (Fl.comp Prod.snd Prod.snd (Fl.snd _ _) (Fl.id_ _) rfl) rfl) (fun _ _=>rfl)
theorem fl_BoxShuttle_1:Fl (Ow.sh BoxShuttle) (Ow.sh Int) 1 (fun (x:BoxShuttle) y=>{ x with Side:=y }) (fun q _=>q):=Fl.shd part_BoxShuttle_1 (fun _ _=>rfl) (fun _ _ _=>rfl)
theorem fl_BoxShuttle_2:Fl (Ow.sh BoxShuttle) (Ow.sh Int) 2 (fun (x:BoxShuttle) y=>{ x with Box:=y }) (fun q _=>q):=Fl.shd part_BoxShuttle_2 (fun _ _=>rfl) (fun _ _ _=>rfl)
theorem fl_BoxLoom_1:Fl ow_BoxLoom (Ow.list 3 (Ow.sh Int)) 1 (fun (x:BoxLoom) y=>{ x with At:=y }) (fun (q:(ow_BoxLoom).S) (r:((Ow.list 3 (Ow.sh Int))).S)=>(Prod.fst q,(r,Prod.snd (Prod.snd q)))):=Fl.of _ (Fl.comp Prod.snd Prod.snd (Fl.snd _ _) (Fl.fst _ _) rfl) (fun _ _=>rfl)
theorem lay_129:layoutOf Try.prog 129=some ([.slice none 0 0,.int .i64 0,.int .i64 0,.int .i64 0,.int .i64 0,.int .i64 0,.int .i64 0,.int .i64 0,.int .i64 0,.int .i64 0,.int .i64 0,.int .i64 0],[(0,1),(1,10),(11,1)]):=by kernel_rfl
theorem tup4_0 {b0 b1 b2 b3:Value} {B0:Value→Prop} {B1:Value→Prop} {B2:Value→Prop} {B3:Value→Prop} (h:∃ c0 c1 c2 c3:Value,Value.tuple #[b0,b1,b2,b3]=.tuple #[c0,c1,c2,c3]∧B0 c0∧B1 c1∧B2 c2∧B3 c3):B0 b0:=by
 obtain ⟨c0,c1,c2,c3,he,h0,h1,h2,h3⟩:=h; simp at he; obtain ⟨rfl,rfl,rfl,rfl⟩:=he; exact h0
theorem pl_138:Pl (Vector Int 2):=Pl.array Pl.int
theorem eqd_138:EqD Try.prog (Vector Int 2) 2 138:=EqD.array Try.underlying138 info_3 (by kernel_rfl) Try.isAgg3 Try.sizeOf3 (EqD.int Try.underlying3)
theorem ckd_138:CkD Try.prog (Vector Int 2) 2 138:=CkD.array Try.underlying138 info_3 (by kernel_rfl) Try.isAgg3 Try.sizeOf3 (CkD.int Try.underlying3)
theorem key_138:KeyLaw Try.prog 138 (encK pl_138):=keyLaw_pl pl_138 (by rw [Try.underlying138]) rfl eqd_138 ckd_138 (by decide)
theorem endm_cctt {P:Program} {e:Env} {ds:List Deferred} {w:World} {fn:Func} {R:Value→World→Prop} {t0:Tmp} {v0:Value} {y0:TypeId} {a0:Addr} {t1:Tmp} {v1:Value} {y1:TypeId} {a1:Addr} {t2:Tmp} {v2:Value} {t3:Tmp} {v3:Value} (hres:fn.results=#[.cell t0 y0,.cell t1 y1,.tmp t2,.tmp t3]) (hd:ds=[]) (h0:e t0=.pointer (some a0)) (l0:(loadVar y0 a0).run P w=.ok v0 w) (h1:e t1=.pointer (some a1)) (l1:(loadVar y1 a1).run P w=.ok v1 w) (h2:e t2=v2) (h3:e t3=v3) (h:R (.tuple #[v0,v1,v2,v3]) w):atEnd P fn R .ret e ds w:=
 ⟨hd,fun tmps ht=>⟨_,by simp [results,hres,ht,asAddr,h0,l0,h1,l1,h2,h3],h⟩⟩
theorem endm_tcttt {P:Program} {e:Env} {ds:List Deferred} {w:World} {fn:Func} {R:Value→World→Prop} {t0:Tmp} {v0:Value} {t1:Tmp} {v1:Value} {y1:TypeId} {a1:Addr} {t2:Tmp} {v2:Value} {t3:Tmp} {v3:Value} {t4:Tmp} {v4:Value} (hres:fn.results=#[.tmp t0,.cell t1 y1,.tmp t2,.tmp t3,.tmp t4]) (hd:ds=[]) (h0:e t0=v0) (h1:e t1=.pointer (some a1)) (l1:(loadVar y1 a1).run P w=.ok v1 w) (h2:e t2=v2) (h3:e t3=v3) (h4:e t4=v4) (h:R (.tuple #[v0,v1,v2,v3,v4]) w):atEnd P fn R .ret e ds w:=
 ⟨hd,fun tmps ht=>⟨_,by simp [results,hres,ht,asAddr,h0,h1,l1,h2,h3,h4],h⟩⟩
def f78 (x0:List Int):Option (List Int):=apnd 8 [] x0
theorem en78:Enters Try.prog 78:=enters_of Try.func78 (by kernel_rfl) rfl
def f79 (x0:List BoxShuttle):Option (List BoxShuttle):=apnd 40 [] x0
theorem en79:Enters Try.prog 79:=enters_of Try.func79 (by kernel_rfl) rfl
def lenTab:Str:=(⟨[0,1,2,2,3,3,3,3,4,4,4,4,4,4,4,4,5,5,5,5,5,5,5,5,5,5,5,5,5,5,5,5,6,6,6,6,6,6,6,6,6,6,6,6,6,6,6,6,6,6,6,6,6,6,6,6,6,6,6,6,6,6,6,6,7,7,7,7,7,7,7,7,7,7,7,7,7,7,7,7,7,7,7,7,7,7,7,7,7,7,7,7,7,7,7,7,7,7,7,7,7,7,7,7,7,7,7,7,7,7,7,7,7,7,7,7,7,7,7,7,7,7,7,7,7,7,7,7,8,8,8,8,8,8,8,8,8,8,8,8,8,8,8,8,8,8,8,8,8,8,8,8,8,8,8,8,8,8,8,8,8,8,8,8,8,8,8,8,8,8,8,8,8,8,8,8,8,8,8,8,8,8,8,8,8,8,8,8,8,8,8,8,8,8,8,8,8,8,8,8,8,8,8,8,8,8,8,8,8,8,8,8,8,8,8,8,8,8,8,8,8,8,8,8,8,8,8,8,8,8,8,8,8,8,8,8,8,8,8,8,8,8,8,8,8,8,8,8,8,8,8,8,8,8,8,8]⟩:Str)
def f120 (x:Int):Option Int:=if 0 ≤ x∧x < 256 then (idx lenTab.b x).map fun c=>w64 (0 + (c.toNat:Int)) else none
def f109 (x:Int):Option Int:=f120 x
def f14:Option Bool:=some true
theorem en14:Enters Try.prog 14:=enters_of Try.func14 (by kernel_rfl) rfl
theorem wk14 {gI:Gh} {wI:World} {r:Bool} (h:f14=some r):Fn Try.prog 14 #[] gI wI (fun _ _ v=>v=.bool (r)):=by
 injection h with h
 subst h
 exact wkK14
theorem en81:Enters Try.prog 81:=enters_of Try.func81 (by kernel_rfl) rfl
theorem en82:Enters Try.prog 82:=enters_of Try.func82 (by kernel_rfl) rfl
def f13 (x0:BoxLoom):Option (Bool):=
 Option.bind (α:=Bool) (
  bif (decide ((((x0).Boxes).length : Int) > (10 : Int))) then
   some (true)
  else
   bif (decide ((((x0).At).length : Int) > (10 : Int))) then
    some (true)
   else
    some ((decide ((((x0).Shuttles).length:Int) > (10:Int))))
  ) fun u3=>
 some (u3)
theorem en13:Enters Try.prog 13:=enters_of Try.func13 (by kernel_rfl) rfl
theorem wk13 {gI:Gh} {wI:World} {x0:BoxLoom} {up0:Value} (rp0:RV gI.m wI x0 up0) {r:Bool} (h:f13 x0=some r):Fn Try.prog 13 #[up0] gI wI (fun _ _ v=>v=.bool (r)):=by
 unfold f13 at h
 refine fn_of_E Try.func13 rfl (Nat.le_of_ble_eq_true rfl) fun g0 hm hfr=>?_
 have rp0:RV g0.m wI x0 up0:=hm ▸ rp0
 show E _ 19 none _ _ _ _ _
 refine Zf (Za (Ze .plain rfl (D_box (g:=g0) rfl rp0 fun g1 w1 p1 hs q1=>?_)))
 have hfr:=hfr.ext hs
 refine Zg (.bool false) rfl rfl ?_
 refine Zb (Zd ?_)
 obtain ⟨u3,hx,h⟩:=bsome h
 refine E_join (fun e w=>∃ (g:Gh) ,Fr gI wI g w∧e 2=.bool (u3)) (fun Q' hQ=>?_) (fun x6 y6 hR=>?_)
 ·replace h := hx
  clear hx
  refine Za (EL_p (fPtr p1 0) (Zc at_25_0 rfl (PT.ptr q1)) rfl ?_)
  have l5:=Zm (part_BoxLoom_0).1 q1
  refine Ze .plain rfl (D_load (g:=g1) Try.isAgg22 Try.sizeOf22 rfl l5 fun a7 t5=>?_)
  refine EL_p (.int .i64 (((x0).Boxes).length:Int)) (P_len Try.underlying22 rfl t5) rfl ?_
  refine EL_p (.bool ((decide ((((x0).Boxes).length:Int) > (10:Int))))) (P_int rfl rfl rfl) rfl ?_
  refine EL_p (.bool ((decide ((((x0).Boxes).length:Int) > (10:Int))))) (Zk rfl) rfl ?_
  rcases Zt h with ⟨o0,h⟩ | ⟨o0,h⟩
  ·refine EL_s rfl rfl o0 rfl rfl ?_
   iterate 3 refine EL_s rfl rfl o0 rfl rfl ?_
   refine EL_p (.bool true) (Zl (b:=(decide ((((x0).Boxes).length:Int) > (10:Int)))) rfl (pick_t o0 rfl)) rfl ?_
   refine EL_dead 6 rfl ?_
   refine Zg (.bool true) rfl rfl ?_
   refine Zb ?_
   obtain rfl:=sinj h
   exact hQ _ _ ⟨g1,hfr,rfl⟩
  ·refine EL_y (fPtr p1 1) (Zc at_25_1 rfl (PT.ptr q1)) rfl rfl o0 rfl ?_
   have x5:=Zm (part_BoxLoom_1).1 q1
   refine Ze (.yes2 rfl rfl o0) rfl (D_load (g:=g1) Try.isAgg22 Try.sizeOf22 rfl x5 fun b7 i6=>?_)
   refine EL_y (.int .i64 (((x0).At).length:Int)) (P_len Try.underlying22 rfl i6) rfl rfl o0 rfl ?_
   refine EL_y (.bool ((decide ((((x0).At).length:Int) > (10:Int))))) (P_int rfl rfl rfl) rfl rfl o0 rfl ?_
   refine EL_p (.bool ((decide ((((x0).At).length:Int) > (10:Int))))) (Zl (b:=(decide ((((x0).Boxes).length:Int) > (10:Int)))) rfl (pick_f o0 rfl)) rfl ?_
   refine EL_p (.bool ((decide ((((x0).At).length:Int) > (10:Int))))) (Zk rfl) rfl ?_
   rcases Zt h with ⟨i3,h⟩ | ⟨i3,h⟩
   ·refine EL_s rfl rfl i3 rfl rfl ?_
    iterate 3 refine EL_s rfl rfl i3 rfl rfl ?_
    refine EL_p (.bool true) (Zl (b:=(decide ((((x0).At).length:Int) > (10:Int)))) rfl (pick_t i3 rfl)) rfl ?_
    refine Zg (.bool true) rfl rfl ?_
    refine Zb ?_
    obtain rfl:=sinj h
    exact hQ _ _ ⟨g1,hfr,rfl⟩
   ·refine EL_y (fPtr p1 2) (Zc at_25_2 rfl (PT.ptr q1)) rfl rfl i3 rfl ?_
    have j6:=Zm (part_BoxLoom_2).1 q1
    refine Ze (.yes2 rfl rfl i3) rfl (D_load (g:=g1) Try.isAgg23 Try.sizeOf23 rfl j6 fun d7 v6=>?_)
    refine EL_y (.int .i64 (((x0).Shuttles).length:Int)) (P_len Try.underlying23 rfl v6) rfl rfl i3 rfl ?_
    refine EL_y (.bool ((decide ((((x0).Shuttles).length:Int) > (10:Int))))) (P_int rfl rfl rfl) rfl rfl i3 rfl ?_
    refine EL_p (.bool ((decide ((((x0).Shuttles).length:Int) > (10:Int))))) (Zl (b:=(decide ((((x0).At).length:Int) > (10:Int)))) rfl (pick_f i3 rfl)) rfl ?_
    refine EL_p (.bool ((decide ((((x0).Shuttles).length:Int) > (10:Int))))) (P_assign rfl) rfl ?_
    refine Zb ?_
    obtain rfl:=sinj h
    exact hQ _ _ ⟨g1,hfr,rfl⟩
 ·clear hx
  obtain ⟨g7,hfr,i5⟩:=hR
  refine E_ret ?_
  obtain rfl:=sinj h
  exact end1 rfl rfl (show _=.bool (u3) from i5) ⟨_,hfr,rfl⟩
def f16 (x0:List Int):Option ((List Int)):=
 (apnd 8 (([]:List Int)) x0).bind fun y3=>
 some (y3)
def f19 (x0:List Int) (x1:List Int):Option (Bool):=
 jn (σ:=Unit) (fun _=>
  jn (σ:=Unit) (fun _=>
   some (true)
   ) fun k53=>
  lp (σ:=Int) (fun k54 o0=>
   jn (σ:=Unit) (fun _=>
    jn (σ:=Unit) (fun _=>
     k54 ((w64 (o0 + (1:Int))))
     ) fun k8=>
    (idx x0 o0).bind fun x5=>
    (idx x1 o0).bind fun i6=>
    bif (x5 != i6) then
     some (false)
    else
     k8 ()
    ) fun k57=>
   bif (decide (o0 < ((x0).length : Int))) then
    k57 ()
   else
    k53 ()
   ) big ((0:Int))
  ) fun k2=>
 bif (((x0).length : Int) != ((x1).length : Int)) then
  some (false)
 else
  k2 ()
theorem en19:Enters Try.prog 19:=enters_of Try.func19 (by kernel_rfl) rfl
theorem wk19 {gI:Gh} {wI:World} {x0:List Int} {x1:List Int} {up0:Value} (rp0:RV gI.m wI x0 up0) {up1:Value} (rp1:RV gI.m wI x1 up1) {r:Bool} (h:f19 x0 x1=some r):Fn Try.prog 19 #[up0,up1] gI wI (fun _ _ v=>v=.bool (r)):=by
 unfold f19 at h
 refine fn_of_E Try.func19 rfl (Nat.le_of_ble_eq_true rfl) fun g0 hm hfr=>?_
 have rp0:RV g0.m wI x0 up0:=hm ▸ rp0
 have rp1:RV g0.m wI x1 up1:=hm ▸ rp1
 show E _ 26 none _ _ _ _ _
 refine Zf (Za (Zg (.bool false) rfl rfl ?_))
 refine Zb (Zd (Zq h (fun (s:Unit) e w=>∃ (g:Gh) ,Fr gI wI g w∧e 0=up0∧RV g.m w (x0:List Int) up0∧e 1=up1∧RV g.m w (x1:List Int) up1) (fun X2 k2 hk2 h=>?_) ?_))
 ·refine Zf (Za (Zn up0 rfl rfl ?_))
  refine EL_p (.int .i64 ((x0).length:Int)) (P_len Try.underlying22 rfl rp0) rfl ?_
  refine Zn up1 rfl rfl ?_
  refine EL_p (.int .i64 ((x1).length:Int)) (P_len Try.underlying22 rfl rp1) rfl ?_
  refine EL_in (.bool ((((x0).length:Int) != ((x1).length:Int)))) rfl rfl rfl rfl ?_
  refine Zb (Zd ?_)
  rcases Zt h with ⟨hc3,h⟩ | ⟨hc3,h⟩
  ·refine E_ct hc3 rfl ?_
   refine Zf (Za (Zg (.bool false) rfl rfl ?_))
   refine Zb (Zd (E_ret (thn_r ?_)))
   obtain rfl:=sinj h
   exact end1 rfl rfl (show _=.bool false from rfl) ⟨_,hfr,rfl⟩
  ·refine E_cf hc3 rfl ?_
   exact Zu (Zd (hk2 () _ _ ⟨g0,hfr,rfl,rp0,rfl,rp1⟩ h))
 ·rintro _ oA w4 ⟨g4, hfr, m8, n8, o8, q8⟩ h
  refine Zq h (fun (s:Unit) e w=>∃ (g:Gh) ,Fr gI wI g w) (fun X53 k53 r8 h=>?_) ?_
  ·refine Zf (Za (Zg (.int .i64 (0)) rfl rfl ?_))
   refine Zb (Zd (Zr ?_))
   refine E_lp h (fun (s:Int) e w=>∃ (g:Gh) ,Fr gI wI g w∧e 0=up0∧RV g.m w (x0:List Int) up0∧e 1=up1∧RV g.m w (x1:List Int) up1∧e 5=.int .i64 (s)) ⟨g4,hfr,m8,n8,o8,q8,rfl⟩ (fun X54 k54 t8=>?_)
   rintro o0 gA pA ⟨l8,hfr,j6,v6,g8,i8,x6⟩ h
   refine Zq h (fun (s:Unit) e w=>∃ (g:Gh) ,Fr gI wI g w∧e 0=up0∧RV g.m w (x0:List Int) up0∧e 1=up1∧RV g.m w (x1:List Int) up1∧e 5=.int .i64 (o0)) (fun X57 k57 v8 h=>?_) ?_
   ·refine Zf (Za (Zo x6 rfl ?_))
    refine Zo j6 rfl ?_
    refine EL_p (.int .i64 ((x0).length:Int)) (P_len Try.underlying22 rfl v6) rfl ?_
    refine EL_in (.bool ((decide (o0 < ((x0).length:Int))))) rfl rfl rfl rfl ?_
    refine Zb (Zd ?_)
    rcases Zt h with ⟨t5,h⟩ | ⟨t5,h⟩
    ·refine E_ct t5 rfl ?_
     exact Zu (Zd (v8 () _ _ ⟨l8,hfr,j6,v6,g8,i8,x6⟩ h))
    ·refine E_cf t5 rfl ?_
     refine E_exit ?_
     refine thn_e ?_
     refine thn_e ?_
     refine blk_hit ?_
     exact Zd (r8 () _ _ ⟨l8,hfr⟩ h)
   ·rintro _ iA qA ⟨i9, hfr, y6, i3, a7, u3, i5⟩ h
    refine Zq h (fun (s:Unit) e w=>∃ (g:Gh) ,Fr gI wI g w∧e 0=up0∧RV g.m w (x0:List Int) up0∧e 1=up1∧RV g.m w (x1:List Int) up1∧e 5=.int .i64 (o0)) (fun X81 k8 x8 h=>?_) ?_
    ·refine Zr ?_
     refine Zf ?_
     obtain ⟨x5,b7,h⟩:=bsome h
     have k9:=PT_idx i3 b7
     refine Zs (x:=.tmp 19) Try.isAgg3 Try.sizeOf3 k9 fun rA l9 y8=>?_
     obtain rfl:=Zj.1 l9
     obtain ⟨i6,d7,h⟩:=bsome h
     have n9:=PT_idx u3 d7
     refine Zs (x:=.tmp 23) Try.isAgg3 Try.sizeOf3 n9 fun uA u9 a9=>?_
     obtain rfl:=Zj.1 u9
     refine E_drawL (g:=i9) (n:=9) [] [0,1,2,3,4,5,6,7,8] rfl mixed (by kernel_rfl) trivial ?_
     refine L_p up0 rfl rfl (Zk y6) ?_
     refine L_p (.int .i64 (o0)) rfl rfl (Zk i5) ?_
     refine L_p (ePtr up0 o0 1) rfl rfl (Zh (α:=Int) Try.underlying22 Try.sizeOf3 rfl i3 rfl b7) ?_
     refine L_ld (c:=.int .i64 (x5)) rfl rfl .plain (fun _ _ h=>h.ch) y8 rfl ?_
     refine L_p up1 rfl rfl (Zk a7) ?_
     refine L_p (.int .i64 (o0)) rfl rfl (Zk i5) ?_
     refine L_p (ePtr up1 o0 1) rfl rfl (Zh (α:=Int) Try.underlying22 Try.sizeOf3 rfl u3 rfl d7) ?_
     refine L_ld (c:=.int .i64 (i6)) rfl rfl .plain (fun _ _ h=>h.ch) a9 rfl ?_
     refine L_p (.bool ((x5 != i6))) rfl rfl (P_int rfl rfl rfl) ?_
     refine L_nl fun y9 xA hs=>?_
     have hfr:=hfr.ext hs
     have i3:=i3.ext hs
     have u3:=u3.ext hs
     clear hs
     refine Zb (Zd ?_)
     rcases Zt h with ⟨l5,h⟩ | ⟨l5,h⟩
     ·refine E_ct l5 rfl ?_
      refine Zf (Za (Zg (.bool false) rfl rfl ?_))
      refine Zb (Zd (E_ret (blk_r ?_)))
      refine thn_r ?_
      refine thn_r ?_
      refine blk_r ?_
      refine thn_r ?_
      obtain rfl:=sinj h
      exact end1 rfl rfl (show _=.bool false from rfl) ⟨_,hfr,rfl⟩
     ·refine E_cf l5 rfl ?_
      exact Zu (blk_n (Zd (x8 () _ _ ⟨y9,hfr,y6,i3,a7,u3,i5⟩ h)))
    ·rintro _ z9 jA ⟨d9, hfr, g7, i7, j7, m7, v7⟩ h
     refine Za (Zo v7 rfl ?_)
     refine EL_in (.int .i64 ((w64 (o0 + (1:Int))))) rfl rfl rfl rfl ?_
     refine Zg (.int .i64 ((w64 (o0 + (1:Int))))) rfl rfl ?_
     exact Zb (Zd (t8 ((w64 (o0 + (1:Int)))) _ _ ⟨d9,hfr,g7,i7,j7,m7,rfl⟩ h))
  ·rintro _ bA mA ⟨nA, hfr⟩ h
   refine Zf (Za (Zg (.bool true) rfl rfl ?_))
   refine Zb (Zd (E_ret ?_))
   obtain rfl:=sinj h
   exact end1 rfl rfl (show _=.bool true from rfl) ⟨_,hfr,rfl⟩
def f23 (x0:List BoxPick) (x1:List BoxPick):Option (Bool):=
 jn (σ:=Unit) (fun _=>
  jn (σ:=Unit) (fun _=>
   some (true)
   ) fun k53=>
  lp (σ:=Int) (fun k54 o0=>
   jn (σ:=Unit) (fun _=>
    jn (σ:=Unit) (fun _=>
     k54 ((w64 (o0 + (1:Int))))
     ) fun k8=>
    (idx x0 o0).bind fun y6=>
    (idx x1 o0).bind fun a7=>
    bif (!(decide (y6 = a7))) then
     some (false)
    else
     k8 ()
    ) fun k57=>
   bif (decide (o0 < ((x0).length : Int))) then
    k57 ()
   else
    k53 ()
   ) big ((0:Int))
  ) fun k2=>
 bif (((x0).length : Int) != ((x1).length : Int)) then
  some (false)
 else
  k2 ()
theorem en23:Enters Try.prog 23:=enters_of Try.func23 (by kernel_rfl) rfl
theorem wk23 {gI:Gh} {wI:World} {x0:List BoxPick} {x1:List BoxPick} {up0:Value} (rp0:RV gI.m wI x0 up0) {up1:Value} (rp1:RV gI.m wI x1 up1) {r:Bool} (h:f23 x0 x1=some r):Fn Try.prog 23 #[up0,up1] gI wI (fun _ _ v=>v=.bool (r)):=by
 unfold f23 at h
 refine fn_of_E Try.func23 rfl (Nat.le_of_ble_eq_true rfl) fun g0 hm hfr=>?_
 have rp0:RV g0.m wI x0 up0:=hm ▸ rp0
 have rp1:RV g0.m wI x1 up1:=hm ▸ rp1
 show E _ 26 none _ _ _ _ _
 refine Zf (Za (Zg (.bool false) rfl rfl ?_))
 refine Zb (Zd (Zq h (fun (s:Unit) e w=>∃ (g:Gh) ,Fr gI wI g w∧e 0=up0∧RV g.m w (x0:List BoxPick) up0∧e 1=up1∧RV g.m w (x1:List BoxPick) up1) (fun X2 k2 hk2 h=>?_) ?_))
 ·refine Zf (Za (Zn up0 rfl rfl ?_))
  refine EL_p (.int .i64 ((x0).length:Int)) (P_len Try.underlying30 rfl rp0) rfl ?_
  refine Zn up1 rfl rfl ?_
  refine EL_p (.int .i64 ((x1).length:Int)) (P_len Try.underlying30 rfl rp1) rfl ?_
  refine EL_in (.bool ((((x0).length:Int) != ((x1).length:Int)))) rfl rfl rfl rfl ?_
  refine Zb (Zd ?_)
  rcases Zt h with ⟨hc3,h⟩ | ⟨hc3,h⟩
  ·refine E_ct hc3 rfl ?_
   refine Zf (Za (Zg (.bool false) rfl rfl ?_))
   refine Zb (Zd (E_ret (thn_r ?_)))
   obtain rfl:=sinj h
   exact end1 rfl rfl (show _=.bool false from rfl) ⟨_,hfr,rfl⟩
  ·refine E_cf hc3 rfl ?_
   exact Zu (Zd (hk2 () _ _ ⟨g0,hfr,rfl,rp0,rfl,rp1⟩ h))
 ·rintro _ qA w4 ⟨g4, hfr, m8, n8, o8, q8⟩ h
  refine Zq h (fun (s:Unit) e w=>∃ (g:Gh) ,Fr gI wI g w) (fun X53 k53 r8 h=>?_) ?_
  ·refine Zf (Za (Zg (.int .i64 (0)) rfl rfl ?_))
   refine Zb (Zd (Zr ?_))
   refine E_lp h (fun (s:Int) e w=>∃ (g:Gh) ,Fr gI wI g w∧e 0=up0∧RV g.m w (x0:List BoxPick) up0∧e 1=up1∧RV g.m w (x1:List BoxPick) up1∧e 5=.int .i64 (s)) ⟨g4,hfr,m8,n8,o8,q8,rfl⟩ (fun X54 k54 t8=>?_)
   rintro o0 jA rA ⟨l8,hfr,x5,i6,g8,i8,j6⟩ h
   refine Zq h (fun (s:Unit) e w=>∃ (g:Gh) ,Fr gI wI g w∧e 0=up0∧RV g.m w (x0:List BoxPick) up0∧e 1=up1∧RV g.m w (x1:List BoxPick) up1∧e 5=.int .i64 (o0)) (fun X57 k57 v8 h=>?_) ?_
   ·refine Zf (Za (Zo j6 rfl ?_))
    refine Zo x5 rfl ?_
    refine EL_p (.int .i64 ((x0).length:Int)) (P_len Try.underlying30 rfl i6) rfl ?_
    refine EL_in (.bool ((decide (o0 < ((x0).length:Int))))) rfl rfl rfl rfl ?_
    refine Zb (Zd ?_)
    rcases Zt h with ⟨t5,h⟩ | ⟨t5,h⟩
    ·refine E_ct t5 rfl ?_
     exact Zu (Zd (v8 () _ _ ⟨l8,hfr,x5,i6,g8,i8,j6⟩ h))
    ·refine E_cf t5 rfl ?_
     refine E_exit ?_
     refine thn_e ?_
     refine thn_e ?_
     refine blk_hit ?_
     exact Zd (r8 () _ _ ⟨l8,hfr⟩ h)
   ·rintro _ mA uA ⟨i9, hfr, v6, i3, x6, u3, i5⟩ h
    refine Zq h (fun (s:Unit) e w=>∃ (g:Gh) ,Fr gI wI g w∧e 0=up0∧RV g.m w (x0:List BoxPick) up0∧e 1=up1∧RV g.m w (x1:List BoxPick) up1∧e 5=.int .i64 (o0)) (fun X81 k8 x8 h=>?_) ?_
    ·refine Zr ?_
     refine Zf ?_
     obtain ⟨y6,b7,h⟩:=bsome h
     have k9:=PT_idx i3 b7
     refine Zs (x:=.tmp 19) Try.isAgg83 Try.sizeOf83 k9 fun l9 n9 y8=>?_
     obtain ⟨a7,d7,h⟩:=bsome h
     have u9:=PT_idx u3 d7
     refine Zs (x:=.tmp 23) Try.isAgg83 Try.sizeOf83 u9 fun y9 z9 a9=>?_
     refine E_drawL (g:=i9) (n:=9) [] [0,1,2,3,4,5,6,7,8] rfl mixed (by kernel_rfl) trivial ?_
     refine L_p up0 rfl rfl (Zk v6) ?_
     refine L_p (.int .i64 (o0)) rfl rfl (Zk i5) ?_
     refine L_p (ePtr up0 o0 2) rfl rfl (Zh (α:=BoxPick) Try.underlying30 Try.sizeOf83 rfl i3 rfl b7) ?_
     refine L_ld (c:=l9) rfl rfl .plain (fun _ _ h=>h.ch) y8 rfl ?_
     refine L_p up1 rfl rfl (Zk x6) ?_
     refine L_p (.int .i64 (o0)) rfl rfl (Zk i5) ?_
     refine L_p (ePtr up1 o0 2) rfl rfl (Zh (α:=BoxPick) Try.underlying30 Try.sizeOf83 rfl u3 rfl d7) ?_
     refine L_ld (c:=y9) rfl rfl .plain (fun _ _ h=>h.ch) a9 rfl ?_
     refine L_p (.bool ((!(decide (y6=a7))))) rfl rfl (P_sne seq_83 rfl eg_83 rfl rfl n9 z9) ?_
     refine L_nl fun bA xA hs=>?_
     have hfr:=hfr.ext hs
     have i3:=i3.ext hs
     have u3:=u3.ext hs
     clear hs
     refine Zb (Zd ?_)
     rcases Zt h with ⟨l5,h⟩ | ⟨l5,h⟩
     ·refine E_ct l5 rfl ?_
      refine Zf (Za (Zg (.bool false) rfl rfl ?_))
      refine Zb (Zd (E_ret (blk_r ?_)))
      refine thn_r ?_
      refine thn_r ?_
      refine blk_r ?_
      refine thn_r ?_
      obtain rfl:=sinj h
      exact end1 rfl rfl (show _=.bool false from rfl) ⟨_,hfr,rfl⟩
     ·refine E_cf l5 rfl ?_
      exact Zu (blk_n (Zd (x8 () _ _ ⟨bA,hfr,v6,i3,x6,u3,i5⟩ h)))
    ·rintro _ gA nA ⟨d9, hfr, g7, i7, j7, m7, v7⟩ h
     refine Za (Zo v7 rfl ?_)
     refine EL_in (.int .i64 ((w64 (o0 + (1:Int))))) rfl rfl rfl rfl ?_
     refine Zg (.int .i64 ((w64 (o0 + (1:Int))))) rfl rfl ?_
     exact Zb (Zd (t8 ((w64 (o0 + (1:Int)))) _ _ ⟨d9,hfr,g7,i7,j7,m7,rfl⟩ h))
  ·rintro _ iA oA ⟨pA, hfr⟩ h
   refine Zf (Za (Zg (.bool true) rfl rfl ?_))
   refine Zb (Zd (E_ret ?_))
   obtain rfl:=sinj h
   exact end1 rfl rfl (show _=.bool true from rfl) ⟨_,hfr,rfl⟩
def f28 (x0:List BoxPick):Option ((List BoxPick)):=
 (apnd 16 (([]:List BoxPick)) x0).bind fun y3=>
 some (y3)
theorem en28:Enters Try.prog 28:=enters_of Try.func28 (by kernel_rfl) rfl
theorem wk28 {gI:Gh} {wI:World} {x0:List BoxPick} {up0:Value} (rp0:RV gI.m wI x0 up0) {r:(List BoxPick)} (h:f28 x0=some r):Fn Try.prog 28 #[up0] gI wI (fun m w v=>RV m w (r) v):=by
 unfold f28 at h
 refine fn_of_E Try.func28 rfl (Nat.le_of_ble_eq_true rfl) fun g0 hm hfr=>?_
 have rp0:RV g0.m wI x0 up0:=hm ▸ rp0
 show E _ 6 none _ _ _ _ _
 refine Zf (Za (Zg (.slice none 0 0) rfl rfl ?_))
 refine Zb (Zd (Zf (Za (Ze .plain rfl (D_buildSlice (g:=g0) 3003 (xs:=([]:List BoxPick)) (vs:=[]) Try.underlying30 Try.sizeOf83 Try.zeroValue83 rfl rfl .nil RVs.nil rfl rfl fun g1 w1 v1 hs o1 r1 hxt hfl=>?_)))))
 have hfr:=hfr.stp hs
 have rp0:=rp0.stp hs
 refine Zn up0 rfl rfl ?_
 obtain ⟨y3,hy3,h⟩:=bsome h
 refine Ze .plain rfl (D_append (g:=g1) (i:=3003) Try.underlying30 info_83 rfl rfl o1 r1 rfl rp0 hy3 fun g2 w2 v2 hs o2 r2 _=>?_)
 have hfr:=hfr.stp hs
 refine Zg v2 rfl rfl ?_
 refine Zb (Zd (E_ret ?_))
 obtain rfl:=sinj h
 exact end1 rfl rfl (show _=v2 from rfl) ⟨_,hfr,r2⟩
def f41 (x0:BoxLoom) (x1:BoxLoom) (x2:Vector (Vector Int 4) 2):Option (Bool):=
 jn (σ:=Unit) (fun _=>
  jn (σ:=Unit) (fun _=>
   some (true)
   ) fun aC=>
  lp (σ:=Int) (fun cC i6=>
   jn (σ:=Unit) (fun _=>
    jn (σ:=Unit) (fun _=>
     cC ((w64 (i6 + (1:Int))))
     ) fun dC=>
    (idx ((x0).Shuttles) i6).bind fun o0=>
    (idx ((x1).Shuttles) i6).bind fun i3=>
    Option.bind (α:=Bool) (
     bif ((o0).Colour != (i3).Colour) then
      some (true)
     else
      bif (!(decide ((o0).Yarn = (i3).Yarn))) then
       some (true)
      else
       bif (decide ((o0).Side < (0 : Int))) then
        some (true)
       else
        bif (decide ((o0).Side > (1 : Int))) then
         some (true)
        else
         bif (decide ((o0).Box < (0 : Int))) then
          some (true)
         else
          bif (decide ((o0).Box > (3 : Int))) then
           some (true)
          else
           (idx (x2).toList (o0).Side).bind fun eC=>
           (idx (eC).toList (o0).Box).bind fun i9=>
           some ((i9 != (w64 (i6 + (1:Int)))))
     ) fun i8=>
    bif i8 then
     some (false)
    else
     dC ()
    ) fun iC=>
   bif (decide (i6 < (((x0).Shuttles).length : Int))) then
    iC ()
   else
    aC ()
   ) big ((0:Int))
  ) fun dE=>
 Option.bind (α:=Bool) (
  bif ((((x0).Shuttles).length : Int) != (((x1).Shuttles).length : Int)) then
   some (true)
  else
   bif ((((x0).Boxes).length : Int) != (2 : Int)) then
    some (true)
   else
    (idx ((x0).Boxes) (0:Int)).bind fun k8=>
    (idx ((x1).Boxes) (0:Int)).bind fun l8=>
    bif (k8 != l8) then
     some (true)
    else
     (idx ((x0).Boxes) (1:Int)).bind fun bA=>
     (idx ((x1).Boxes) (1:Int)).bind fun gA=>
     some ((bA != gA))
  ) fun o8=>
 bif o8 then
  some (false)
 else
  dE ()
def f42 (x0:Int) (x1:Int):Option (Span):=
 some ((⟨x0,x1⟩:Span))
def f45 (x0:BoxLoom):Option ((Vector (Vector Int 4) 2)):=
 Option.bind (α:=(Vector (Vector Int 4) 2)) (
  lp (σ:=(Vector (Vector Int 4) 2) × Int) (fun k94 (t5,o0)=>
   jn (σ:=Unit) (fun _=>
    Option.bind (α:=(Vector (Vector Int 4) 2)) (
     (idx ((x0).Shuttles) o0).bind fun l5=>
     (idx ((x0).Shuttles) o0).bind fun j6=>
     (idx (t5).toList (l5).Side).bind fun i9=>
     (idx (i9).toList (j6).Box).bind fun zA=>
     some ((vmod t5 ((l5).Side) (fun b=>(vset b ((j6).Box) ((w64 (o0 + (1:Int))))))))
     ) fun x5=>
    k94 (x5,(w64 (o0 + (1:Int))))
    ) fun yA=>
   bif (decide (o0 < (((x0).Shuttles).length : Int))) then
    yA ()
   else
    some (t5)
   ) big ((⟨List.toArray [(⟨List.toArray [0,0,0,0],rfl⟩:Vector Int 4),(⟨List.toArray [0,0,0,0],rfl⟩:Vector Int 4)],rfl⟩:Vector (Vector Int 4) 2),(0:Int))
  ) fun v6=>
 some (v6)
def f48 :Option (BoxLoom):=
 (f42 ((2:Int)) ((3:Int))).bind fun y5=>
 (f42 ((1:Int)) ((1:Int))).bind fun y8=>
 (f42 ((9:Int)) ((9:Int))).bind fun y11=>
 some ((⟨([(2:Int),(2:Int)]:List Int),([(0:Int),(0:Int)]:List Int),([(⟨(3:Int),0,0,y5⟩:BoxShuttle),(⟨(5:Int),0,(1:Int),y8⟩:BoxShuttle),(⟨(7:Int),(1:Int),(1:Int),y11⟩:BoxShuttle)]:List BoxShuttle)⟩:BoxLoom))
def f49 (x0:Int) (x1:Int):Option (BoxPick):=
 some ((⟨x0,x1⟩:BoxPick))
def f50 (x0:BoxLoom):Option (BoxLoom):=
 (apnd 8 (([]:List Int)) ((x0).Boxes)).bind fun y7=>
 (apnd 8 (([]:List Int)) ((x0).At)).bind fun i3=>
 (apnd 40 (([]:List BoxShuttle)) ((x0).Shuttles)).bind fun u3=>
 some ((⟨y7,i3,u3⟩:BoxLoom))
theorem en50:Enters Try.prog 50:=enters_of Try.func50 (by kernel_rfl) rfl
theorem wk50 {gI:Gh} {wI:World} {x0:BoxLoom} {up0:Value} (rp0:RV gI.m wI x0 up0) {r:BoxLoom} (h:f50 x0=some r):Fn Try.prog 50 #[up0] gI wI (fun m w v=>RV m w (r) v):=by
 unfold f50 at h
 refine fn_of_E Try.func50 rfl (Nat.le_of_ble_eq_true rfl) fun g0 hm hfr=>?_
 have rp0:RV g0.m wI x0 up0:=hm ▸ rp0
 show E _ 16 none _ _ _ _ _
 refine Zf (Za (Ze .plain rfl (D_box (g:=g0) rfl rp0 fun g1 w1 p1 hs q1=>?_)))
 have hfr:=hfr.ext hs
 refine Ze .plain rfl (D_allocOc (g:=g1) 2002 (⟨[],[],[]⟩:BoxLoom) Try.zeroValue25 (fun m w=>⟨_,(rep_two rep_nil (rep_two rep_nil rep_nil)),rfl⟩) fun g2 w2 p2 hs b2 cb=>?_)
 have hfr:=hfr.stp hs
 have q1:=q1.stp hs
 have y8:OSF 2002 60200 0 g2 w2 3 25 ([]:List Int) p2:=cb.osf (by rfl)
 have a9:OSF 2002 60201 1 g2 w2 3 25 ([]:List Int) p2:=cb.osf (by rfl)
 have d9:OSF 2002 60202 2 g2 w2 87 25 ([]:List BoxShuttle) p2:=cb.osf (by rfl)
 clear cb
 refine Zb (Zd (Zf ?_))
 have q4:=Zm (part_BoxLoom_0).1 q1
 refine Zs (x:=.tmp 4) Try.isAgg22 Try.sizeOf22 q4 fun v5 r5 v7=>?_
 obtain ⟨y7,g8,h⟩:=bsome h
 have q9:=Zm (part_BoxLoom_1).1 q1
 refine Zs (x:=.tmp 8) Try.isAgg22 Try.sizeOf22 q9 fun i8 k8 d7=>?_
 obtain ⟨i3,g7,h⟩:=bsome h
 have l8:=Zm (part_BoxLoom_2).1 q1
 refine Zs (x:=.tmp 12) Try.isAgg23 Try.sizeOf23 l8 fun m8 n8 i7=>?_
 obtain ⟨u3,j7,h⟩:=bsome h
 refine E_drawL (g:=g2) (n:=12) [(0,(fun v g w=>RV g.m w ([]:List Int) v∧OS 3003 g w 3 ([]:List Int) v∧FullV v)),(3,(fun v g w=>RV g.m w y7 v∧OS 3003 g w 3 y7 v)),(4,(fun v g w=>RV g.m w ([]:List Int) v∧OS 3007 g w 3 ([]:List Int) v∧FullV v)),(7,(fun v g w=>RV g.m w i3 v∧OS 3007 g w 3 i3 v)),(8,(fun v g w=>RV g.m w ([]:List BoxShuttle) v∧OS 3011 g w 87 ([]:List BoxShuttle) v∧FullV v)),(11,(fun v g w=>RV g.m w u3 v∧OS 3011 g w 87 u3 v))] [0,1,2,3,4,5,6,7,8,9,10,11] rfl mixed (by kernel_rfl) (⟨fun _=>up_and up_rv (up_and up_os (up_eq _)),fun _=>up_and up_rv up_os,fun _=>up_and up_rv (up_and up_os (up_eq _)),fun _=>up_and up_rv up_os,fun _=>up_and up_rv (up_and up_os (up_eq _)),fun _=>up_and up_rv up_os,trivial⟩) ?_
 refine L_do (φ:=fun v g w=>RV g.m w ([]:List Int) v∧OS 3003 g w 3 ([]:List Int) v∧FullV v) rfl rfl .plain (fun g w hd=>D_buildSlice (g:=g) 3003 (xs:=([]:List Int)) (vs:=[]) Try.underlying22 Try.sizeOf3 Try.zeroValue3 rfl rfl .nil RVs.nil rfl rfl fun g' w' v hs o r hxt hfl=>⟨g',hxt,r,o,hfl⟩) (fun v3 hv=>?_)
 clear hv
 refine L_p (fPtr p1 0) rfl rfl (Zc at_25_0 rfl (PT.ptr q1)) ?_
 refine L_ld (c:=v5) rfl rfl .plain (fun _ _ h=>h.ch) v7 rfl ?_
 refine L_do (φ:=fun v g w=>RV g.m w y7 v∧OS 3003 g w 3 y7 v) rfl rfl .plain (fun g w hd=>D_append (g:=g) (i:=3003) Try.underlying22 info_3 rfl rfl (word (A:=fun g w=>RV g.m w ([]:List Int) v3∧OS 3003 g w 3 ([]:List Int) v3∧FullV v3) 0 rfl rfl (deps_of hd)).2.1 (word (A:=fun g w=>RV g.m w ([]:List Int) v3∧OS 3003 g w 3 ([]:List Int) v3∧FullV v3) 0 rfl rfl (deps_of hd)).1 rfl (r5.ext hd.1) g8 fun g' w' v hs o r hf=>⟨g',hf (word (A:=fun g w=>RV g.m w ([]:List Int) v3∧OS 3003 g w 3 ([]:List Int) v3∧FullV v3) 0 rfl rfl (deps_of hd)).2.2,r,o⟩) (fun v6 hv=>?_)
 clear hv
 refine L_do (φ:=fun v g w=>RV g.m w ([]:List Int) v∧OS 3007 g w 3 ([]:List Int) v∧FullV v) rfl rfl .plain (fun g w hd=>D_buildSlice (g:=g) 3007 (xs:=([]:List Int)) (vs:=[]) Try.underlying22 Try.sizeOf3 Try.zeroValue3 rfl rfl .nil RVs.nil rfl rfl fun g' w' v hs o r hxt hfl=>⟨g',hxt,r,o,hfl⟩) (fun v8 hv=>?_)
 clear hv
 refine L_p (fPtr p1 1) rfl rfl (Zc at_25_1 rfl (PT.ptr q1)) ?_
 refine L_ld (c:=i8) rfl rfl .plain (fun _ _ h=>h.ch) d7 rfl ?_
 refine L_do (φ:=fun v g w=>RV g.m w i3 v∧OS 3007 g w 3 i3 v) rfl rfl .plain (fun g w hd=>D_append (g:=g) (i:=3007) Try.underlying22 info_3 rfl rfl (word (A:=fun g w=>RV g.m w ([]:List Int) v8∧OS 3007 g w 3 ([]:List Int) v8∧FullV v8) 4 rfl rfl (deps_of hd)).2.1 (word (A:=fun g w=>RV g.m w ([]:List Int) v8∧OS 3007 g w 3 ([]:List Int) v8∧FullV v8) 4 rfl rfl (deps_of hd)).1 rfl (k8.ext hd.1) g7 fun g' w' v hs o r hf=>⟨g',hf (word (A:=fun g w=>RV g.m w ([]:List Int) v8∧OS 3007 g w 3 ([]:List Int) v8∧FullV v8) 4 rfl rfl (deps_of hd)).2.2,r,o⟩) (fun i5 hv=>?_)
 clear hv
 refine L_do (φ:=fun v g w=>RV g.m w ([]:List BoxShuttle) v∧OS 3011 g w 87 ([]:List BoxShuttle) v∧FullV v) rfl rfl .plain (fun g w hd=>D_buildSlice (g:=g) 3011 (xs:=([]:List BoxShuttle)) (vs:=[]) Try.underlying23 Try.sizeOf87 Try.zeroValue87 rfl rfl .nil RVs.nil rfl rfl fun g' w' v hs o r hxt hfl=>⟨g',hxt,r,o,hfl⟩) (fun o0 hv=>?_)
 clear hv
 refine L_p (fPtr p1 2) rfl rfl (Zc at_25_2 rfl (PT.ptr q1)) ?_
 refine L_ld (c:=m8) rfl rfl .plain (fun _ _ h=>h.ch) i7 rfl ?_
 refine L_do (φ:=fun v g w=>RV g.m w u3 v∧OS 3011 g w 87 u3 v) rfl rfl .plain (fun g w hd=>D_append (g:=g) (i:=3011) Try.underlying23 info_87 rfl rfl (word (A:=fun g w=>RV g.m w ([]:List BoxShuttle) o0∧OS 3011 g w 87 ([]:List BoxShuttle) o0∧FullV o0) 8 rfl rfl (deps_of hd)).2.1 (word (A:=fun g w=>RV g.m w ([]:List BoxShuttle) o0∧OS 3011 g w 87 ([]:List BoxShuttle) o0∧FullV o0) 8 rfl rfl (deps_of hd)).1 rfl (n8.ext hd.1) j7 fun g' w' v hs o r hf=>⟨g',hf (word (A:=fun g w=>RV g.m w ([]:List BoxShuttle) o0∧OS 3011 g w 87 ([]:List BoxShuttle) o0∧FullV o0) 8 rfl rfl (deps_of hd)).2.2,r,o⟩) (fun l5 hv=>?_)
 clear hv
 refine L_nil fun j6 i9 hall=>?_
 have hs:=hall.1
 have hfr:=hfr.ext hs
 have b2:=b2.ext hs
 have k9:=(word_all (A:=fun g w=>RV g.m w ([]:List Int) v3∧OS 3003 g w 3 ([]:List Int) v3∧FullV v3) 0 rfl hall).1
 have o22:=(word_all (A:=fun g w=>RV g.m w ([]:List Int) v3∧OS 3003 g w 3 ([]:List Int) v3∧FullV v3) 0 rfl hall).2.1
 have x5:=(word_all (A:=fun g w=>RV g.m w y7 v6∧OS 3003 g w 3 y7 v6) 3 rfl hall).1
 have o25:=(word_all (A:=fun g w=>RV g.m w y7 v6∧OS 3003 g w 3 y7 v6) 3 rfl hall).2
 have l9:=(word_all (A:=fun g w=>RV g.m w ([]:List Int) v8∧OS 3007 g w 3 ([]:List Int) v8∧FullV v8) 4 rfl hall).1
 have o26:=(word_all (A:=fun g w=>RV g.m w ([]:List Int) v8∧OS 3007 g w 3 ([]:List Int) v8∧FullV v8) 4 rfl hall).2.1
 have x6:=(word_all (A:=fun g w=>RV g.m w i3 i5∧OS 3007 g w 3 i3 i5) 7 rfl hall).1
 have o29:=(word_all (A:=fun g w=>RV g.m w i3 i5∧OS 3007 g w 3 i3 i5) 7 rfl hall).2
 have n9:=(word_all (A:=fun g w=>RV g.m w ([]:List BoxShuttle) o0∧OS 3011 g w 87 ([]:List BoxShuttle) o0∧FullV o0) 8 rfl hall).1
 have o30:=(word_all (A:=fun g w=>RV g.m w ([]:List BoxShuttle) o0∧OS 3011 g w 87 ([]:List BoxShuttle) o0∧FullV o0) 8 rfl hall).2.1
 have y6:=(word_all (A:=fun g w=>RV g.m w u3 l5∧OS 3011 g w 87 u3 l5) 11 rfl hall).1
 have o33:=(word_all (A:=fun g w=>RV g.m w u3 l5∧OS 3011 g w 87 u3 l5) 11 rfl hall).2
 clear hs hall
 have a7:RV j6.m _ (⟨y7,i3,u3⟩:BoxLoom) (.agg (setCh [[.slice none 0 0],[.slice none 0 0],[.slice none 0 0]] [(0,v6),(1,i5),(2,l5)]).flatten.toArray):=RV_build rfl (rep_pair (RV.cells x5) (rep_pair (RV.cells x6) (rep_last (RV.cells y6))))
 generalize i6:(Value.agg (setCh [[.slice none 0 0],[.slice none 0 0],[.slice none 0 0]] [(0,v6),(1,i5),(2,l5)]).flatten.toArray)=b7 at a7
 refine EL_p b7 (i6 ▸ P_build (vs:=[(0,v6),(1,i5),(2,l5)]) [[.slice none 0 0],[.slice none 0 0],[.slice none 0 0]] lay_25 rfl rfl (.cons rfl (.cons rfl (.cons rfl .nil))) ⟨⟨_,rfl,cells_size x5⟩,⟨⟨_,rfl,cells_size x6⟩,⟨⟨_,rfl,cells_size y6⟩,trivial⟩⟩⟩) rfl ?_
 refine Ze .plain rfl (D_storeOc (g:=j6) (v:=b7) Try.sizeOf25 rfl b2 rfl a7 fun o8 q8 hs b35 cb=>?_)
 obtain ⟨r8,t8,t5,_,_⟩:=RV_list x5
 have x8:OSF 2002 3003 0 o8 q8 3 25 (y7:List Int) p2:=cb.osfv (by rw [← i6,t5]; rfl) (o25.stp hs rfl)
 clear cb
 have hfr:=hfr.stp hs
 refine Zb (Zd (E_ret ?_))
 obtain rfl:=sinj h
 obtain ⟨ad36,cv36,hp36,m7,cr36⟩:=ob_read Try.isAgg25 Try.sizeOf25 b35
 exact endm_c rfl rfl ((show _=p2 from rfl).trans hp36) m7 ⟨_,hfr,cr36⟩
def f53 (x0:List Int):Option ((List (List Int))):=
 Option.bind (α:=(List (List Int))) (
  lp (σ:=(List (List Int)) × Int) (fun k19 (i6,o0)=>
   bif (decide (o0 < ((x0).length : Int))) then
    Option.bind (α:=(List (List Int))) (
     (idx x0 o0).bind fun x5=>
     (apnd 24 i6 (([([x5]:List Int)]:List (List Int)))).bind fun q8=>
     some (q8)
     ) fun l5=>
    k19 (l5,(w64 (o0 + (1:Int))))
   else
    some (i6)
   ) big ([],(0:Int))
  ) fun t5=>
 some (t5)
def f54 (x0:BoxBoxLoom) (x1:Int→BoxShuttle→Option Int):Option (BoxRace):=
 Option.bind (α:=BoxRace) (
  lp (σ:=BoxRace × Int) (fun lB (v6,o0)=>
   bif (decide (o0 < ((((x0).BoxLoom).Shuttles).length : Int))) then
    Option.bind (α:=BoxRace) (
     (idx (((x0).BoxLoom).Shuttles) o0).bind fun l5=>
     (x1 o0 l5).bind fun i7=>
     (idx ((v6).boxes).toList (l5).Side).bind fun d9=>
     (idx (d9).toList (l5).Box).bind fun y158=>
     some ({ v6 with boxes:=(vmod ((v6).boxes) ((l5).Side) (fun b=>(vset b ((l5).Box) i7))) })
     ) fun x6=>
    lB (x6,(w64 (o0 + (1:Int))))
   else
    some (v6)
   ) big ((⟨(⟨List.toArray [(⟨List.toArray [0,0,0,0],rfl⟩:Vector Int 4),(⟨List.toArray [0,0,0,0],rfl⟩:Vector Int 4)],rfl⟩:Vector (Vector Int 4) 2),⟨0,0⟩⟩:BoxRace),(0:Int))
  ) fun g7=>
 (idx (((x0).BoxLoom).At) (0:Int)).bind fun t5=>
 (idx (((x0).BoxLoom).At) (1:Int)).bind fun x5=>
 some ({ g7 with at_:=(⟨t5,x5⟩:BoxPick) })
theorem en54:Enters Try.prog 54:=enters_of Try.func54 (by kernel_rfl) rfl
theorem wk54 {gI:Gh} {wI:World} {x0:BoxBoxLoom} {x1:Int→BoxShuttle→Option Int} {up0:Value} (rp0:RV gI.m wI x0 up0) {up1:Value} (rp1:FnV2 Try.prog x1 up1 gI wI) {r:BoxRace} (h:f54 x0 x1=some r):Fn Try.prog 54 #[up0,up1] gI wI (fun m w v=>RV m w (r) v):=by
 unfold f54 at h
 refine fn_of_E Try.func54 rfl (Nat.le_of_ble_eq_true rfl) fun g0 hm hfr=>?_
 have rp0:RV g0.m wI x0 up0:=hm ▸ rp0
 obtain ⟨ff1,fa1,fc1,rfl,fen1,fcl1⟩:=rp1
 show E _ 41 none _ _ _ _ _
 refine Zf (Za (Ze .plain rfl (D_box (g:=g0) rfl rp0 fun g1 w1 p1 hs q1=>?_)))
 have hfr:=hfr.ext hs
 have rp0:=rp0.ext hs
 refine Ze .plain rfl (D_allocOc (g:=g1) 2004 (⟨(⟨List.toArray [(⟨List.toArray [0,0,0,0],rfl⟩:Vector Int 4),(⟨List.toArray [0,0,0,0],rfl⟩:Vector Int 4)],rfl⟩:Vector (Vector Int 4) 2),⟨0,0⟩⟩:BoxRace) Try.zeroValue108 (fun m w=>⟨_,(rep_two (rep_vec (flat_chunk (rep_vec (flat_chunk rep_int (flat_chunk rep_int (flat_chunk rep_int (flat_chunk rep_int flat_nil)))) rfl) (flat_chunk (rep_vec (flat_chunk rep_int (flat_chunk rep_int (flat_chunk rep_int (flat_chunk rep_int flat_nil)))) rfl) flat_nil)) rfl) (rep_two rep_int rep_int)),rfl⟩) fun g2 w2 p2 hs b2 cb=>?_)
 have hfr:=hfr.stp hs
 have rp0:=rp0.stp hs
 have q1:=q1.stp hs
 clear cb
 refine Zb (Zd ?_)
 obtain ⟨g7,hx,h⟩:=bsome h
 refine E_join (fun e w=>∃ (g:Gh) ,Fr gI wI g w∧e 2=p1∧PT g.m w (x0:BoxBoxLoom) p1∧e 4=p2∧OB 2004 g w 108 (g7:BoxRace) p2) (fun Q' hQ=>?_) (fun aD oB hR=>?_)
 ·replace h := hx
  clear hx
  refine Zf (Za (EL_p (fPtr p1 0) (Zc at_102_0 rfl (PT.ptr q1)) rfl ?_))
  have mB:=Zm (part_BoxBoxLoom_0).1 q1
  refine EL_p (fPtr (fPtr p1 0) 2) (Zc at_25_2 rfl (PT.ptr mB)) rfl ?_
  have yC:=Zm (part_BoxLoom_2).1 mB
  refine Ze .plain rfl (D_load (g:=g2) Try.isAgg23 Try.sizeOf23 rfl yC fun g8 nB=>?_)
  refine EL_p (.int .i64 ((((x0).BoxLoom).Shuttles).length:Int)) (P_len Try.underlying23 rfl nB) rfl ?_
  refine Zn (.int .i64 (0)) rfl rfl ?_
  refine Zb (Zd (Zr ?_))
  refine E_lp h (fun (s:BoxRace × Int) e w=>∃ (g:Gh) ,Fr gI wI g w∧e 1=(.func (.func ff1) fa1 fc1)∧e 2=p1∧PT g.m w (x0:BoxBoxLoom) p1∧e 4=p2∧OB 2004 g w 108 (s.1:BoxRace) p2∧e 9=g8∧RV g.m w (((x0).BoxLoom).Shuttles:List BoxShuttle) g8∧e 10=.int .i64 (((((x0).BoxLoom).Shuttles).length:Int))∧e 11=.int .i64 (s.2)) ⟨g2,hfr,rfl,rfl,q1,rfl,b2,rfl,nB,rfl,rfl⟩ (fun X98 lB tB=>?_)
  rintro ⟨v6,o0⟩ cD yD ⟨i9,hfr,m8,n8,i5,j7,i3,o8,u3,i8,y6⟩ h
  refine Zf (Za (EL_p (.bool ((decide (o0 < ((((x0).BoxLoom).Shuttles).length:Int))))) (P_int y6 i8 rfl) rfl ?_))
  refine Zb (Zd (Zf ?_))
  rcases Zt h with ⟨m7,h⟩ | ⟨m7,h⟩
  ·refine E_ct m7 rfl ?_
   refine Zu (Zd ?_)
   obtain ⟨x6,hx,h⟩:=bsome h
   refine E_join (fun e w=>∃ (g:Gh) ,Fr gI wI g w∧e 1=(.func (.func ff1) fa1 fc1)∧e 2=p1∧PT g.m w (x0:BoxBoxLoom) p1∧e 4=p2∧OB 2004 g w 108 (x6:BoxRace) p2∧e 9=g8∧RV g.m w (((x0).BoxLoom).Shuttles:List BoxShuttle) g8∧e 10=.int .i64 (((((x0).BoxLoom).Shuttles).length:Int))∧e 11=.int .i64 (o0)) (fun Q' hQ=>?_) (fun bD eD hR=>?_)
   ·replace h := hx
    clear hx
    refine Zr ?_
    refine Zf (Za (Zo y6 rfl ?_))
    obtain ⟨l5,q8,h⟩:=bsome h
    refine EL_p (ePtr g8 o0 5) (Zh (α:=BoxShuttle) Try.underlying23 Try.sizeOf87 o8 u3 y6 q8) rfl ?_
    have i6:=PT_idx u3 q8
    refine Ze .plain rfl (D_load (g:=i9) Try.isAgg87 Try.sizeOf87 rfl i6 fun vB j6=>?_)
    refine Ze .plain rfl (D_allocOc (g:=i9) 2006 (⟨0,0,0,⟨0,0⟩⟩:BoxShuttle) Try.zeroValue87 (fun m w=>⟨_,(rep_two rep_int (rep_two rep_int (rep_two rep_int (rep_two rep_int rep_int)))),rfl⟩) fun yB gD k9 hs b146 cb=>?_)
    have hfr:=hfr.stp hs
    have i5:=i5.stp hs
    have i3:=i3.stp hs rfl
    have u3:=u3.stp hs
    have i6:=i6.stp hs
    have j6:=j6.stp hs
    clear cb
    refine Zg (.int .i64 (o0)) rfl rfl ?_
    refine Ze .plain rfl (D_storeOc (g:=yB) (v:=vB) Try.sizeOf87 rfl b146 rfl j6 fun zB iD hs b147 cb=>?_)
    clear cb
    have hfr:=hfr.stp hs
    have i5:=i5.stp hs
    have i3:=i3.stp hs rfl
    have u3:=u3.stp hs
    have i6:=i6.stp hs
    have j6:=j6.stp hs
    refine Zb (Zd (L_loadO (x:=.tmp 16) part_BoxShuttle_1.1 Try.isAgg3 Try.sizeOf3 b147 fun jD aC xA=>?_))
    obtain rfl:=Zj.1 aC
    refine L_loadO (x:=.tmp 18) part_BoxShuttle_2.1 Try.isAgg3 Try.sizeOf3 b147 fun kD cC yA=>?_
    obtain rfl:=Zj.1 cC
    refine L_loadO0 (x:=.tmp 6) Try.isAgg87 Try.sizeOf87 b147 fun l9 l8 zA=>?_
    obtain ⟨i7,aB,h⟩:=bsome h
    obtain ⟨d9,r8,h⟩:=bsome h
    obtain ⟨hi157,he157⟩:=vat_idx r8
    obtain ⟨y158,t8,h⟩:=bsome h
    obtain ⟨hi159,he159⟩:=vat_idx t8
    refine E_drawL (g:=zB) (n:=11) [(7,(fun v g w=>v=.int .i64 (i7)))] [0,1,2,3,4,5,6,7,8,9,10] rfl mixed (by kernel_rfl) (⟨fun _=>up_eq _,trivial⟩) ?_
    refine L_p (fPtr k9 1) rfl rfl (Zc at_87_1 rfl (OB.ptr b147)) ?_
    refine L_ld (c:=.int .i64 ((l5).Side)) rfl rfl .plain (fun _ _ h=>⟨h.ch,fun b hb _=>h.below.block b hb⟩) xA rfl ?_
    refine L_p (fPtr k9 2) rfl rfl (Zc at_87_2 rfl (OB.ptr b147)) ?_
    refine L_ld (c:=.int .i64 ((l5).Box)) rfl rfl .plain (fun _ _ h=>⟨h.ch,fun b hb _=>h.below.block b hb⟩) yA rfl ?_
    refine L_p ((.func (.func ff1) fa1 fc1)) rfl rfl (Zk m8) ?_
    refine L_p (.int .i64 (o0)) rfl rfl (Zk rfl) ?_
    refine L_ld (c:=l9) rfl rfl .plain (fun _ _ h=>⟨h.ch,fun b hb _=>h.below.block b hb⟩) zA rfl ?_
    refine L_do (φ:=fun v g w=>v=.int .i64 (i7)) rfl rfl .plain (fun g w hd=>D_callv (g:=g) (vs:=[.int .i64 (o0),l9]) rfl fen1 (.cons rfl (.cons rfl .nil)) (fcl1 _ _ (hfr.ext hd.1).ch _ _ _ _ _  (Zj.2 rfl) (l8.ext hd.1) aB) fun g' w' v hs hr=>⟨g',hs,Zj.1 hr⟩) (fun lD hv=>?_)
    obtain ⟨_,_,_,rfl⟩:=hv
    refine L_p (fPtr p2 0) rfl rfl (Zc at_108_0 j7 (OB.ptr i3)) ?_
    refine L_p (fPtr p2 (0 + ((l5).Side:Int).toNat * 4)) rfl rfl (P_indexAddrA2 (α:=Vector Int 4) (o1:=0) rfl Try.underlying76 Try.sizeOf75 rfl (OB.ptr i3) rfl r8) ?_
    refine L_p (fPtr p2 ((0 + ((l5).Side:Int).toNat * 4) + ((l5).Box:Int).toNat * 1)) rfl rfl (P_indexAddrA2 (α:=Int) (o1:=(0 + ((l5).Side:Int).toNat * 4)) rfl Try.underlying75 Try.sizeOf3 rfl (OB.ptr i3) rfl t8) ?_
    refine L_nl fun dC mD hs=>?_
    have hfr:=hfr.ext hs
    have i5:=i5.ext hs
    have i3:=i3.ext hs
    have u3:=u3.ext hs
    have i6:=i6.ext hs
    have j6:=j6.ext hs
    have b147:=b147.ext hs
    have l8:=l8.ext hs
    clear hs
    refine Ze .plain rfl (D_storeFc (g:=dC) (SubS.at_ (SubS.comp part_BoxRace_0 (SubS.dynC hi157 (SubS.dyn hi159) rfl) rfl) (by first | rfl | exact Nat.add_assoc _ _ _ | simp only [Nat.add_assoc,Nat.zero_add] | omega)) Try.sizeOf3 rfl i3 rfl (Zj.2 rfl) fun eC nD hs b184 rst hos=>?_)
    clear rst hos
    have hfr:=hfr.stp hs
    have i5:=i5.stp hs
    have u3:=u3.stp hs
    refine Zb (blk_n ?_)
    obtain rfl:=sinj h
    exact hQ _ _ ⟨eC,hfr,m8,n8,i5,j7,b184,o8,u3,i8,y6⟩
   ·clear hx
    obtain ⟨iC,hfr,n9,u9,y9,z9,bA,gA,iA,y8,a9⟩:=hR
    refine Za (EL_in (.int .i64 ((w64 (o0 + (1:Int))))) a9 rfl rfl rfl ?_)
    refine Zn (.int .i64 ((w64 (o0 + (1:Int))))) rfl rfl ?_
    exact Zb (Zd (tB (x6,(w64 (o0 + (1:Int)))) _ _ ⟨iC,hfr,n9,u9,y9,z9,bA,gA,iA,y8,rfl⟩ h))
  ·refine E_cf m7 rfl ?_
   refine E_exit ?_
   refine thn_e ?_
   refine thn_e ?_
   refine blk_hit ?_
   obtain rfl:=sinj h
   exact hQ _ _ ⟨i9,hfr,n8,i5,j7,i3⟩
 ·clear hx
  obtain ⟨jA,hfr,k8,a7,b7,d7⟩:=hR
  refine Zf ?_
  have mA:=Zm (part_BoxBoxLoom_0).1 a7
  have jC:=Zm (part_BoxLoom_1).1 mA
  refine Zs (x:=.tmp 29) Try.isAgg22 Try.sizeOf22 jC fun nA oA bB=>?_
  obtain ⟨t5,v8,h⟩:=bsome h
  have kC:=PT_idx oA v8
  refine Zs (x:=.tmp 31) Try.isAgg3 Try.sizeOf3 kC fun oD lC cB=>?_
  obtain rfl:=Zj.1 lC
  have pA:=Zm (part_BoxBoxLoom_0).1 a7
  have mC:=Zm (part_BoxLoom_1).1 pA
  refine Zs (x:=.tmp 34) Try.isAgg22 Try.sizeOf22 mC fun qA rA dB=>?_
  obtain ⟨x5,x8,h⟩:=bsome h
  have qC:=PT_idx rA x8
  refine Zs (x:=.tmp 36) Try.isAgg3 Try.sizeOf3 qC fun sD rC eB=>?_
  obtain rfl:=Zj.1 rC
  have v7:RV jA.m oB (⟨t5,x5⟩:BoxPick) (.agg (setCh [[.int .i64 0],[.int .i64 0]] [(0,.int .i64 (t5)),(1,.int .i64 (x5))]).flatten.toArray):=RV_build rfl (rep_pair (rfl) (rep_last (rfl)))
  generalize iB:(Value.agg (setCh [[.int .i64 0],[.int .i64 0]] [(0,.int .i64 (t5)),(1,.int .i64 (x5))]).flatten.toArray)=tC at v7
  refine E_drawL (g:=jA) (n:=12) [] [0,1,2,3,4,5,6,7,8,9,10,11] rfl mixed (by kernel_rfl) trivial ?_
  refine L_p (fPtr p1 0) rfl rfl (Zc at_102_0 k8 (PT.ptr a7)) ?_
  refine L_p (fPtr (fPtr p1 0) 1) rfl rfl (Zc at_25_1 rfl (PT.ptr mA)) ?_
  refine L_ld (c:=nA) rfl rfl .plain (fun _ _ h=>h.ch) bB rfl ?_
  refine L_p (ePtr nA (0:Int) 1) rfl rfl (Zh (α:=Int) Try.underlying22 Try.sizeOf3 rfl oA rfl v8) ?_
  refine L_ld (c:=.int .i64 (t5)) rfl rfl .plain (fun _ _ h=>h.ch) cB rfl ?_
  refine L_p (fPtr p1 0) rfl rfl (Zc at_102_0 k8 (PT.ptr a7)) ?_
  refine L_p (fPtr (fPtr p1 0) 1) rfl rfl (Zc at_25_1 rfl (PT.ptr pA)) ?_
  refine L_ld (c:=qA) rfl rfl .plain (fun _ _ h=>h.ch) dB rfl ?_
  refine L_p (ePtr qA (1:Int) 1) rfl rfl (Zh (α:=Int) Try.underlying22 Try.sizeOf3 rfl rA rfl x8) ?_
  refine L_ld (c:=.int .i64 (x5)) rfl rfl .plain (fun _ _ h=>h.ch) eB rfl ?_
  refine L_p tC rfl rfl (iB ▸ P_build (vs:=[(0,.int .i64 (t5)),(1,.int .i64 (x5))]) [[.int .i64 0],[.int .i64 0]] lay_83 rfl rfl (.cons rfl (.cons rfl .nil)) ⟨⟨_,rfl,rfl⟩,⟨⟨_,rfl,rfl⟩,trivial⟩⟩) ?_
  refine L_p (fPtr p2 8) rfl rfl (Zc at_108_1 b7 (OB.ptr d7)) ?_
  refine L_nl fun uC tD hs=>?_
  have hfr:=hfr.ext hs
  have d7:=d7.ext hs
  have v7:=v7.ext hs
  clear hs
  refine Ze .plain rfl (D_storeFc (g:=uC) part_BoxRace_1 Try.sizeOf83 rfl d7 rfl v7 fun uA uD hs b216 rst hos=>?_)
  clear rst hos
  have hfr:=hfr.stp hs
  refine Zb (Zd (Zf (Za (Ze .plain rfl (D_loadO (g:=uA) Try.isAgg108 Try.sizeOf108 b7 b216 fun vC xC=>?_)))))
  refine Ze .plain rfl (D_storeOc (g:=uA) (v:=vC) Try.sizeOf108 b7 b216 rfl xC fun vD xD hs b218 cb=>?_)
  clear cb
  have hfr:=hfr.stp hs
  refine Zb (Zd (E_ret ?_))
  obtain rfl:=sinj h
  obtain ⟨ad219,cv219,hp219,jB,cr219⟩:=ob_read Try.isAgg108 Try.sizeOf108 b218
  exact endm_c rfl rfl ((show _=p2 from b7).trans hp219) jB ⟨_,hfr,cr219⟩
def f55 (x0:Int) (x1:BoxShuttle):Option (Int):=
 some ((w64 ((x1).Colour + (1:Int))))
theorem en55:Enters Try.prog 55:=enters_of Try.func55 (by kernel_rfl) rfl
theorem wk55 {gI:Gh} {wI:World} {x0:Int} {x1:BoxShuttle} {up1:Value} (rp1:RV gI.m wI x1 up1) {r:Int} (h:f55 x0 x1=some r):Fn Try.prog 55 #[.int .i64 (x0),up1] gI wI (fun _ _ v=>v=.int .i64 (r)):=by
 unfold f55 at h
 refine fn_of_E Try.func55 rfl (Nat.le_of_ble_eq_true rfl) fun g0 hm hfr=>?_
 have rp1:RV g0.m wI x1 up1:=hm ▸ rp1
 show E _ 8 none _ _ _ _ _
 refine Zf (Za (Ze .plain rfl (D_box (g:=g0) rfl rp1 fun g1 w1 p1 hs q1=>?_)))
 have hfr:=hfr.ext hs
 refine Zg (.int .i64 (0)) rfl rfl ?_
 refine Zb (Zd (Zf (Za (EL_p (fPtr p1 0) (Zc at_87_0 rfl (PT.ptr q1)) rfl ?_))))
 have q2:=Zm (part_BoxShuttle_0).1 q1
 refine Ze .plain rfl (D_load (g:=g1) Try.isAgg3 Try.sizeOf3 rfl q2 fun v3 r3=>?_)
 obtain rfl:=Zj.1 r3
 refine EL_in (.int .i64 ((w64 ((x1).Colour + (1:Int))))) rfl rfl rfl rfl ?_
 refine Zg (.int .i64 ((w64 ((x1).Colour + (1:Int))))) rfl rfl ?_
 refine Zb (Zd (E_ret ?_))
 obtain rfl:=sinj h
 exact end1 rfl rfl (show _=.int .i64 ((w64 ((x1).Colour + (1:Int)))) from rfl) ⟨_,hfr,rfl⟩
def f56 (x0:BoxBoxLoom):Option (BoxMill):=
 (idx (((x0).BoxLoom).Boxes) (0:Int)).bind fun y5=>
 (idx (((x0).BoxLoom).Boxes) (1:Int)).bind fun y11=>
 some ((⟨y5,y11,⟨⟩⟩:BoxMill))
theorem en56:Enters Try.prog 56:=enters_of Try.func56 (by kernel_rfl) rfl
theorem wk56 {gI:Gh} {wI:World} {x0:BoxBoxLoom} {up0:Value} (rp0:RV gI.m wI x0 up0) {r:BoxMill} (h:f56 x0=some r):Fn Try.prog 56 #[up0] gI wI (fun m w v=>PT m w (r) v):=by
 unfold f56 at h
 refine fn_of_E Try.func56 rfl (Nat.le_of_ble_eq_true rfl) fun g0 hm hfr=>?_
 have rp0:RV g0.m wI x0 up0:=hm ▸ rp0
 show E _ 16 none _ _ _ _ _
 refine Zf (Za (Ze .plain rfl (D_box (g:=g0) rfl rp0 fun g1 w1 p1 hs q1=>?_)))
 have hfr:=hfr.ext hs
 refine Zg (.pointer none) rfl rfl ?_
 refine Zb (Zd (Zf ?_))
 have q2:=Zm (part_BoxBoxLoom_0).1 q1
 have q3:=Zm (part_BoxLoom_0).1 q2
 refine Zs (x:=.tmp 4) Try.isAgg22 Try.sizeOf22 q3 fun v4 r4 d7=>?_
 obtain ⟨y5,hy5,h⟩:=bsome h
 have q6:=PT_idx r4 hy5
 refine Zs (x:=.tmp 6) Try.isAgg3 Try.sizeOf3 q6 fun v7 r7 hl7=>?_
 obtain rfl:=Zj.1 r7
 have q8:=Zm (part_BoxBoxLoom_0).1 q1
 have q9:=Zm (part_BoxLoom_0).1 q8
 refine Zs (x:=.tmp 9) Try.isAgg22 Try.sizeOf22 q9 fun l5 t5 a7=>?_
 obtain ⟨y11,u3,h⟩:=bsome h
 have g7:=PT_idx t5 u3
 refine Zs (x:=.tmp 11) Try.isAgg3 Try.sizeOf3 g7 fun m7 i7 b7=>?_
 obtain rfl:=Zj.1 i7
 refine E_drawTL (g:=g1) (n:=10) [0,1,2,3,4,5,6,7,8,9] [] [0,1,2,3,4,5,6,7,8,9] rfl mixed (by kernel_rfl) trivial rfl ?_
 refine L_purL (c:=fPtr p1 0) rfl rfl .plain (Zc at_102_0 rfl (PT.ptr q1)) ?_
 refine L_purL (c:=fPtr (fPtr p1 0) 0) rfl rfl .plain (Zc at_25_0 rfl (PT.ptr q2)) ?_
 refine L_ldL (c:=v4) rfl rfl .plain (fun _ _ h=>h.ch) rfl d7 rfl ?_
 refine L_purL (c:=ePtr v4 (0:Int) 1) rfl rfl .plain (Zh (α:=Int) Try.underlying22 Try.sizeOf3 rfl r4 rfl hy5) ?_
 refine L_ldL (c:=.int .i64 (y5)) rfl rfl .plain (fun _ _ h=>h.ch) rfl hl7 rfl ?_
 refine L_purL (c:=fPtr p1 0) rfl rfl .plain (Zc at_102_0 rfl (PT.ptr q1)) ?_
 refine L_purL (c:=fPtr (fPtr p1 0) 0) rfl rfl .plain (Zc at_25_0 rfl (PT.ptr q8)) ?_
 refine L_ldL (c:=l5) rfl rfl .plain (fun _ _ h=>h.ch) rfl a7 rfl ?_
 refine L_purL (c:=ePtr l5 (1:Int) 1) rfl rfl .plain (Zh (α:=Int) Try.underlying22 Try.sizeOf3 rfl t5 rfl u3) ?_
 refine L_ldL (c:=.int .i64 (y11)) rfl rfl .plain (fun _ _ h=>h.ch) rfl b7 rfl ?_
 refine L_nl fun x5 j7 hs=>?_
 have hlt:Lt g1.m w1 x5 j7:=hs.ch
 have hfr:=hfr.ext hs
 clear hs
 refine TL_do hlt.w .plain rfl (D_makeMap (g:=x5) (encK pl_112) Int 8013 fun o0 i6 i3 hs m28=>?_)
 have hfr:=hfr.stp hs
 have hlt:=hlt.stp hs
 have j6:RV o0.m _ (⟨y5,y11,⟨⟩⟩:BoxMill) (.agg (setCh [[.int .i64 0],[.int .i64 0],[.map none]] [(0,.int .i64 (y5)),(1,.int .i64 (y11)),(2,i3)]).flatten.toArray):=RV_build rfl (rep_pair (rfl) (rep_pair (rfl) (rep_last (RV.cells (m28.ref (m:=o0.m) (w':=i6))))))
 generalize i5:(Value.agg (setCh [[.int .i64 0],[.int .i64 0],[.map none]] [(0,.int .i64 (y5)),(1,.int .i64 (y11)),(2,i3)]).flatten.toArray)=v6 at j6
 refine TL_pur hlt.w (v:=v6) (i5 ▸ P_build (vs:=[(0,.int .i64 (y5)),(1,.int .i64 (y11)),(2,i3)]) [[.int .i64 0],[.int .i64 0],[.map none]] lay_154 rfl rfl (.cons rfl (.cons rfl (.cons rfl .nil))) ⟨⟨_,rfl,rfl⟩,⟨⟨_,rfl,rfl⟩,⟨⟨_,rfl,cells_size (m28.ref (m:=o0.m) (w':=i6))⟩,trivial⟩⟩⟩) .plain rfl ?_
 refine TL_do hlt.w .plain rfl (D_boxF (g:=o0) (v:=v6) (off:=2) (u:=i3) rfl j6 (by rw [← i5]; simp only [setCh,mp_cells m28]; rfl) fun g8 i8 x6 hs y6 fc30=>?_)
 have hfr:=hfr.ext hs
 have hlt:=hlt.ext hs
 have hone500215:=PT.one y6
 refine TL_pur hlt.w (v:=x6) (P_assign rfl) .plain rfl ?_
 refine TL_nil hlt.w ?_
 clear hlt
 refine Zd (E_ret ?_)
 obtain rfl:=sinj h
 exact end1 rfl rfl (show _=x6 from rfl) ⟨_,hfr,y6⟩
def f59 (x0:Int) (x1:Int) (x2:Int):Option (Bool):=
 Option.bind (α:=Bool) (
  bif (decide (x0 ≥ x1)) then
   some ((decide (x0 ≤ x2)))
  else
   some (false)
  ) fun o0=>
 some (o0)
theorem en59:Enters Try.prog 59:=enters_of Try.func59 (by kernel_rfl) rfl
theorem wk59 {gI:Gh} {wI:World} {x0:Int} {x1:Int} {x2:Int}  {r:Bool} (h:f59 x0 x1 x2=some r):Fn Try.prog 59 #[.int .i64 (x0),.int .i64 (x1),.int .i64 (x2)] gI wI (fun _ _ v=>v=.bool (r)):=by
 unfold f59 at h
 refine fn_of_E Try.func59 rfl (Nat.le_of_ble_eq_true rfl) fun g0 hm hfr=>?_
 show E _ 15 none _ _ _ _ _
 refine Zf (Za (Zg (.bool false) rfl rfl ?_))
 refine Zb (Zd ?_)
 obtain ⟨o0,hx,h⟩:=bsome h
 refine E_join (fun e w=>∃ (g:Gh) ,Fr gI wI g w∧e 6=.bool (o0)) (fun Q' hQ=>?_) (fun u3 w3 hR=>?_)
 ·replace h := hx
  clear hx
  refine Za (Zn (.int .i64 (x0)) rfl rfl ?_)
  refine Zn (.int .i64 (x1)) rfl rfl ?_
  refine EL_in (.bool ((decide (x0 ≥ x1)))) rfl rfl rfl rfl ?_
  refine Zn (.bool ((decide (x0 ≥ x1)))) rfl rfl ?_
  rcases Zt h with ⟨hc2,h⟩ | ⟨hc2,h⟩
  ·refine EL_y (.int .i64 (x0)) (Zk rfl) rfl rfl hc2 rfl ?_
   refine EL_y (.int .i64 (x2)) (Zk rfl) rfl rfl hc2 rfl ?_
   refine EL_y (.bool ((decide (x0 ≤ x2)))) (P_int rfl rfl rfl) rfl rfl hc2 rfl ?_
   refine EL_p (.bool ((decide (x0 ≤ x2)))) (Zl (b:=(decide (x0 ≥ x1))) rfl (pick_t hc2 rfl)) rfl ?_
   refine Zg (.bool ((decide (x0 ≤ x2)))) rfl rfl ?_
   refine Zb ?_
   obtain rfl:=sinj h
   exact hQ _ _ ⟨g0,hfr,rfl⟩
  ·refine EL_s rfl rfl hc2 rfl rfl ?_
   refine EL_s rfl rfl hc2 rfl rfl ?_
   refine EL_s rfl rfl hc2 rfl rfl ?_
   refine EL_p (.bool false) (Zl (b:=(decide (x0 ≥ x1))) rfl (pick_f hc2 rfl)) rfl ?_
   refine Zg (.bool false) rfl rfl ?_
   refine Zb ?_
   obtain rfl:=sinj h
   exact hQ _ _ ⟨g0,hfr,rfl⟩
 ·clear hx
  obtain ⟨g3,hfr,i3⟩:=hR
  refine E_ret ?_
  obtain rfl:=sinj h
  exact end1 rfl rfl (show _=.bool (o0) from i3) ⟨_,hfr,rfl⟩
def f60 (x0:BoxLoom):Option ((List BoxPick)):=
 Option.bind (α:=(List BoxPick)) (
  lp (σ:=(List BoxPick) × Int) (fun cC (x5,i3)=>
   jn (σ:=Unit) (fun _=>
    Option.bind (α:=(List BoxPick)) (
     lp (σ:=(List BoxPick) × Int) (fun d9 (u3,o0)=>
      jn (σ:=Unit) (fun _=>
       Option.bind (α:=(List BoxPick)) (
        (apnd 16 u3 (([(⟨i3,o0⟩:BoxPick)]:List BoxPick))).bind fun y135=>
        some (y135)
        ) fun i5=>
       d9 (i5,(w64 (o0 + (1:Int))))
       ) fun i9=>
      (idx ((x0).Boxes) (1:Int)).bind fun n8=>
      bif (decide (o0 < n8)) then
       i9 ()
      else
       some (u3)
      ) big (x5,(0:Int))
     ) fun l5=>
    cC (l5,(w64 (i3 + (1:Int))))
    ) fun dC=>
   (idx ((x0).Boxes) (0:Int)).bind fun k9=>
   bif (decide (i3 < k9)) then
    dC ()
   else
    some (x5)
   ) big (([]:List BoxPick),(0:Int))
  ) fun i6=>
 some (i6)
theorem en60:Enters Try.prog 60:=enters_of Try.func60 (by kernel_rfl) rfl
theorem wk60 {gI:Gh} {wI:World} {x0:BoxLoom} {up0:Value} (rp0:RV gI.m wI x0 up0) {r:(List BoxPick)} (h:f60 x0=some r):Fn Try.prog 60 #[up0] gI wI (fun m w v=>RV m w (r) v):=by
 unfold f60 at h
 refine fn_of_E Try.func60 rfl (Nat.le_of_ble_eq_true rfl) fun g0 hm hfr=>?_
 have rp0:RV g0.m wI x0 up0:=hm ▸ rp0
 show E _ 30 none _ _ _ _ _
 refine Zf (Za (Ze .plain rfl (D_box (g:=g0) rfl rp0 fun g1 w1 p1 hs q1=>?_)))
 have hfr:=hfr.ext hs
 refine Zg (.slice none 0 0) rfl rfl ?_
 refine Zb (Zd (Zf (Za (Ze .plain rfl (D_buildSlice (g:=g1) 3006 (xs:=([]:List BoxPick)) (vs:=[]) Try.underlying30 Try.sizeOf83 Try.zeroValue83 rfl rfl .nil RVs.nil rfl rfl fun g2 w2 v2 hs o2 r2 hxt hfl=>?_)))))
 have hfr:=hfr.stp hs
 have q1:=q1.stp hs
 refine Zg v2 rfl rfl ?_
 refine Zb (Zd ?_)
 obtain ⟨i6,hx,h⟩:=bsome h
 refine E_join (fun e w=>∃ (g:Gh) (v3:Value),Fr gI wI g w∧e 3=v3∧RV g.m w (i6:List BoxPick) v3∧OS 3006 g w 83 (i6:List BoxPick) v3) (fun Q' hQ=>?_) (fun kD sD hR=>?_)
 ·replace h := hx
  clear hx
  refine Zf (Za (Zg (.int .i64 (0)) rfl rfl ?_))
  refine Zb (Zd (Zr ?_))
  refine E_lp h (fun (s:(List BoxPick) × Int) e w=>∃ (g:Gh) (v3:Value),Fr gI wI g w∧e 1=p1∧PT g.m w (x0:BoxLoom) p1∧e 3=v3∧RV g.m w (s.1:List BoxPick) v3∧OS 3006 g w 83 (s.1:List BoxPick) v3∧e 4=.int .i64 (s.2)) ⟨g2,(v2),hfr,rfl,q1,rfl,r2,o2,rfl⟩ (fun X71 cC iC=>?_)
  rintro ⟨x5,i3⟩ tD eE ⟨q8,j6,hfr,r8,d7,t8,v8,x8,y8⟩ h
  refine Zq h (fun (s:Unit) e w=>∃ (g:Gh) ,Fr gI wI g w∧e 1=p1∧PT g.m w (x0:BoxLoom) p1∧e 3=j6∧RV g.m w (x5:List BoxPick) j6∧OS 3006 g w 83 (x5:List BoxPick) j6∧e 4=.int .i64 (i3)) (fun X79 dC jC h=>?_) ?_
  ·refine Zf (Za (Zo y8 rfl ?_))
   refine EL_p (fPtr p1 0) (Zc at_25_0 r8 (PT.ptr d7)) rfl ?_
   have bD:=Zm (part_BoxLoom_0).1 d7
   refine Ze .plain rfl (D_load (g:=q8) Try.isAgg22 Try.sizeOf22 rfl bD fun cD eC=>?_)
   obtain ⟨k9,l9,h⟩:=bsome h
   refine EL_p (ePtr cD (0:Int) 1) (Zh (α:=Int) Try.underlying22 Try.sizeOf3 rfl eC rfl l9) rfl ?_
   have eD:=PT_idx eC l9
   refine Ze .plain rfl (D_load (g:=q8) Try.isAgg3 Try.sizeOf3 rfl eD fun gE gD=>?_)
   obtain rfl:=Zj.1 gD
   refine EL_in (.bool ((decide (i3 < k9)))) rfl rfl rfl rfl ?_
   refine Zb (Zd ?_)
   rcases Zt h with ⟨o8,h⟩ | ⟨o8,h⟩
   ·refine E_ct o8 rfl ?_
    exact Zu (Zd (jC () _ _ ⟨q8,hfr,r8,d7,t8,v8,x8,y8⟩ h))
   ·refine E_cf o8 rfl ?_
    refine E_exit ?_
    refine thn_e ?_
    refine thn_e ?_
    refine blk_hit ?_
    obtain rfl:=sinj h
    exact hQ _ _ ⟨q8,(j6),hfr,t8,v8,x8⟩
  ·rintro _ uD iE ⟨iD, hfr, jB, lB, mB, nB, oB, tB⟩ h
   obtain ⟨l5,hx,h⟩:=bsome h
   refine E_join (fun e w=>∃ (g:Gh) (v3:Value),Fr gI wI g w∧e 1=p1∧PT g.m w (x0:BoxLoom) p1∧e 3=v3∧RV g.m w (l5:List BoxPick) v3∧OS 3006 g w 83 (l5:List BoxPick) v3∧e 4=.int .i64 (i3)) (fun Q' hQ=>?_) (fun lD vD hR=>?_)
   ·replace h := hx
    clear hx
    refine Zr ?_
    refine Zf (Za (Zg (.int .i64 (0)) rfl rfl ?_))
    refine Zb (Zd (Zr ?_))
    refine E_lp h (fun (s:(List BoxPick) × Int) e w=>∃ (g:Gh) (v3:Value),Fr gI wI g w∧e 1=p1∧PT g.m w (x0:BoxLoom) p1∧e 3=v3∧RV g.m w (s.1:List BoxPick) v3∧OS 3006 g w 83 (s.1:List BoxPick) v3∧e 4=.int .i64 (i3)∧e 5=.int .i64 (s.2)) ⟨iD,(j6),hfr,jB,lB,mB,nB,oB,tB,rfl⟩ (fun X112 d9 vB=>?_)
    rintro ⟨u3,o0⟩ mD xD ⟨g7,v6,hfr,y6,x6,j7,m7,v7,g8,i8⟩ h
    refine Zq h (fun (s:Unit) e w=>∃ (g:Gh) ,Fr gI wI g w∧e 1=p1∧PT g.m w (x0:BoxLoom) p1∧e 3=v6∧RV g.m w (u3:List BoxPick) v6∧OS 3006 g w 83 (u3:List BoxPick) v6∧e 4=.int .i64 (i3)∧e 5=.int .i64 (o0)) (fun X120 i9 yB h=>?_) ?_
    ·refine Zf (Za (Zo i8 rfl ?_))
     refine EL_p (fPtr p1 0) (Zc at_25_0 y6 (PT.ptr x6)) rfl ?_
     have kC:=Zm (part_BoxLoom_0).1 x6
     refine Ze .plain rfl (D_load (g:=g7) Try.isAgg22 Try.sizeOf22 rfl kC fun lC n9=>?_)
     obtain ⟨n8,a9,h⟩:=bsome h
     refine EL_p (ePtr lC (1:Int) 1) (Zh (α:=Int) Try.underlying22 Try.sizeOf3 rfl n9 rfl a9) rfl ?_
     have mC:=PT_idx n9 a9
     refine Ze .plain rfl (D_load (g:=g7) Try.isAgg3 Try.sizeOf3 rfl mC fun yD qC=>?_)
     obtain rfl:=Zj.1 qC
     refine EL_in (.bool ((decide (o0 < n8)))) rfl rfl rfl rfl ?_
     refine Zb (Zd ?_)
     rcases Zt h with ⟨i7,h⟩ | ⟨i7,h⟩
     ·refine E_ct i7 rfl ?_
      exact Zu (Zd (yB () _ _ ⟨g7,hfr,y6,x6,j7,m7,v7,g8,i8⟩ h))
     ·refine E_cf i7 rfl ?_
      refine E_exit ?_
      refine thn_e ?_
      refine thn_e ?_
      refine blk_hit ?_
      refine blk_n ?_
      obtain rfl:=sinj h
      exact hQ _ _ ⟨g7,(v6),hfr,y6,x6,j7,m7,v7,g8⟩
    ·rintro _ nD rC ⟨u9, hfr, y9, t5, z9, a7, b7, k8, l8⟩ h
     obtain ⟨i5,hx,h⟩:=bsome h
     refine E_join (fun e w=>∃ (g:Gh) (v3:Value),Fr gI wI g w∧e 1=p1∧PT g.m w (x0:BoxLoom) p1∧e 3=v3∧RV g.m w (i5:List BoxPick) v3∧OS 3006 g w 83 (i5:List BoxPick) v3∧e 4=.int .i64 (i3)∧e 5=.int .i64 (o0)) (fun Q' hQ=>?_) (fun oD zD hR=>?_)
     ·replace h := hx
      clear hx
      refine Zr ?_
      refine Za (Zo z9 rfl ?_)
      refine Zo k8 rfl ?_
      refine Zo l8 rfl ?_
      have bA:RV u9.m rC (⟨i3,o0⟩:BoxPick) (.agg (setCh [[.int .i64 0],[.int .i64 0]] [(0,.int .i64 (i3)),(1,.int .i64 (o0))]).flatten.toArray):=RV_build rfl (rep_pair (rfl) (rep_last (rfl)))
      generalize zB:(Value.agg (setCh [[.int .i64 0],[.int .i64 0]] [(0,.int .i64 (i3)),(1,.int .i64 (o0))]).flatten.toArray)=gA at bA
      refine EL_p gA (zB ▸ P_build (vs:=[(0,.int .i64 (i3)),(1,.int .i64 (o0))]) [[.int .i64 0],[.int .i64 0]] lay_83 rfl rfl (.cons rfl (.cons rfl .nil)) ⟨⟨_,rfl,rfl⟩,⟨⟨_,rfl,rfl⟩,trivial⟩⟩) rfl ?_
      refine Ze .plain rfl (D_buildSlice (g:=u9) 3027 (xs:=([(⟨i3,o0⟩:BoxPick)]:List BoxPick)) (vs:=[gA]) Try.underlying30 Try.sizeOf83 Try.zeroValue83 rfl rfl (.cons rfl .nil) (RVs.cons bA RVs.nil) rfl rfl fun tC aE bE hs o133 uC hxt hfl=>?_)
      have hfr:=hfr.stp hs
      have t5:=t5.stp hs
      have a7:=a7.stp hs
      have b7:=b7.stp hs rfl
      obtain ⟨y135,aC,h⟩:=bsome h
      refine Ze .plain rfl (D_append (g:=tC) (i:=3006) Try.underlying30 info_83 rfl rfl b7 a7 rfl uC aC fun vC cE iA hs o134 xC _=>?_)
      have hfr:=hfr.stp hs
      have t5:=t5.stp hs
      refine Zg iA rfl rfl ?_
      refine Zb (blk_n ?_)
      obtain rfl:=sinj h
      exact hQ _ _ ⟨vC,(iA),hfr,y9,t5,rfl,xC,o134,k8,l8⟩
     ·clear hx
      obtain ⟨yC,jA,hfr,mA,nA,oA,pA,qA,rA,uA⟩:=hR
      refine Za (Zo uA rfl ?_)
      refine EL_in (.int .i64 ((w64 (o0 + (1:Int))))) rfl rfl rfl rfl ?_
      refine Zg (.int .i64 ((w64 (o0 + (1:Int))))) rfl rfl ?_
      exact Zb (Zd (vB (i5,(w64 (o0 + (1:Int)))) _ _ ⟨yC,(jA),hfr,mA,nA,oA,pA,qA,rA,rfl⟩ h))
   ·clear hx
    obtain ⟨aD,xA,hfr,yA,zA,aB,bB,cB,dB⟩:=hR
    refine Za (Zo dB rfl ?_)
    refine EL_in (.int .i64 ((w64 (i3 + (1:Int))))) rfl rfl rfl rfl ?_
    refine Zg (.int .i64 ((w64 (i3 + (1:Int))))) rfl rfl ?_
    exact Zb (Zd (iC (l5,(w64 (i3 + (1:Int)))) _ _ ⟨aD,(xA),hfr,yA,zA,aB,bB,cB,rfl⟩ h))
 ·clear hx
  obtain ⟨dE,m8,hfr,eB,iB,jD⟩:=hR
  refine Zf (Za (Zo eB rfl ?_))
  refine Zg m8 rfl rfl ?_
  refine Zb (Zd (E_ret ?_))
  obtain rfl:=sinj h
  exact end1 rfl rfl (show _=m8 from rfl) ⟨_,hfr,iB⟩
def f62 (x0:List Int):Option (Bool):=
 some ((decide (((x0).length:Int) > (3:Int))))
def f65 (x0:BoxPoint) (x1:List (List Int)):Option (BoxPoint):=
 Option.bind (α:=BoxPoint) (
  lp (σ:=BoxPoint) (fun n8 o0=>
   jn (σ:=Unit) (fun _=>
    n8 ({ { o0 with group:=(w64 ((o0).group + (1:Int))) } with done:=(0:Int) })
    ) fun o8=>
   Option.bind (α:=Bool) (
    bif (decide ((o0).group < ((x1).length : Int))) then
     (idx x1 (o0).group).bind fun k8=>
     (shl64 (1:Int) ((k8).length:Int)).bind fun a7=>
     some (((o0).done == (w64 (a7 - (1:Int)))))
    else
     some (false)
    ) fun l5=>
   bif l5 then
    o8 ()
   else
    some (o0)
   ) big (x0)
  ) fun b7=>
 some (b7)
def f71 (x0:Span):Option (Int):=
 some ((x0).Low)
def f72 (x0:Span):Option (Int):=
 some ((x0).High)
def f75 (x0:Int) (x1:BoxShuttle):Option (Int):=
 some ((w64 (x0 + (1:Int))))
theorem en75:Enters Try.prog 75:=enters_of Try.func75 (by kernel_rfl) rfl
theorem wk75 {gI:Gh} {wI:World} {x0:Int} {x1:BoxShuttle} {up1:Value} (rp1:RV gI.m wI x1 up1) {r:Int} (h:f75 x0 x1=some r):Fn Try.prog 75 #[.int .i64 (x0),up1] gI wI (fun _ _ v=>v=.int .i64 (r)):=by
 unfold f75 at h
 refine fn_of_E Try.func75 rfl (Nat.le_of_ble_eq_true rfl) fun g0 hm hfr=>?_
 have rp1:RV g0.m wI x1 up1:=hm ▸ rp1
 show E _ 7 none _ _ _ _ _
 refine Zf (Za (Ze .plain rfl (D_box (g:=g0) rfl rp1 fun g1 w1 p1 hs q1=>?_)))
 have hfr:=hfr.ext hs
 refine Zg (.int .i64 (0)) rfl rfl ?_
 refine Zb (Zd (Zf (Za (Zn (.int .i64 (x0)) rfl rfl ?_))))
 refine EL_in (.int .i64 ((w64 (x0 + (1:Int))))) rfl rfl rfl rfl ?_
 refine Zg (.int .i64 ((w64 (x0 + (1:Int))))) rfl rfl ?_
 refine Zb (Zd (E_ret ?_))
 obtain rfl:=sinj h
 exact end1 rfl rfl (show _=.int .i64 ((w64 (x0 + (1:Int)))) from rfl) ⟨_,hfr,rfl⟩
def f77 (x0:BoxLoom) (x1:BoxLoom):Option (Bool):=
 jn (σ:=Unit) (fun _=>
  some (true)
  ) fun i9=>
 lp (σ:=Int) (fun k9 o0=>
  jn (σ:=Unit) (fun _=>
   jn (σ:=Unit) (fun _=>
    k9 ((w64 (o0 + (1:Int))))
    ) fun l9=>
   Option.bind (α:=Bool) (
    (idx ((x0).Shuttles) o0).bind fun t5=>
    (idx ((x1).Shuttles) o0).bind fun x5=>
    bif ((t5).Side != (x5).Side) then
     some (true)
    else
     (idx ((x0).Shuttles) o0).bind fun a7=>
     (idx ((x1).Shuttles) o0).bind fun b7=>
     some (((a7).Box != (b7).Box))
    ) fun i6=>
   bif i6 then
    some (false)
   else
    l9 ()
   ) fun n9=>
  bif (decide (o0 < (((x0).Shuttles).length : Int))) then
   n9 ()
  else
   i9 ()
  ) big ((0:Int))
def f88 (x0:BoxPoint) (x1:List (List Int)) (x2:BoxStep):Option (BoxPoint × Bool):=
 jn (σ:=BoxPoint × BoxPoint) (fun (x8,nA)=>
  some (x8,false)
  ) fun oA=>
 (idx x1 (x0).group).bind fun t5=>
 lp (σ:=BoxPoint × BoxPoint × Int) (fun pA (i3,j6,o0)=>
  bif (decide (o0 < ((t5).length : Int))) then
   jn (σ:=BoxPoint × BoxPoint) (fun (i8,k8)=>
    pA (i8,k8,(w64 (o0 + (1:Int))))
    ) fun qA=>
   (idx t5 o0).bind fun y6=>
   Option.bind (α:=Bool) (
    bif (y6 == (x2).colour) then
     (shr64 (i3).done o0).bind fun y180=>
     some (((bit64 .and y180 (1:Int)) == (0:Int)))
    else
     some (false)
    ) fun v6=>
   bif v6 then
    (shl64 (1:Int) o0).bind fun r8=>
    (f65 ({ { i3 with done:=(bit64 .or (i3).done r8) } with race:=(x2).next }) x1).bind fun rA=>
    some (rA,true)
   else
    qA (i3,j6)
  else
   oA (i3,j6)
  ) big (x0,(⟨0,0,⟨(⟨List.toArray [(⟨List.toArray [0,0,0,0],rfl⟩:Vector Int 4),(⟨List.toArray [0,0,0,0],rfl⟩:Vector Int 4)],rfl⟩:Vector (Vector Int 4) 2),⟨0,0⟩⟩⟩:BoxPoint),(0:Int))
def f89 (x0:BoxLoom) (x1:Int) (x2:Int):Option (Int):=
 jn (σ:=Unit) (fun _=>
  some ((-1:Int))
  ) fun y9=>
 lp (σ:=Int) (fun z9 o0=>
  jn (σ:=Unit) (fun _=>
   jn (σ:=Unit) (fun _=>
    z9 ((w64 (o0 + (1:Int))))
    ) fun g8=>
   Option.bind (α:=Bool) (
    (idx ((x0).Shuttles) o0).bind fun l5=>
    bif ((l5).Side == x1) then
     (idx ((x0).Shuttles) o0).bind fun v6=>
     some (((v6).Box == x2))
    else
     some (false)
    ) fun u3=>
   bif u3 then
    some (o0)
   else
    g8 ()
   ) fun bA=>
  bif (decide (o0 < (((x0).Shuttles).length : Int))) then
   bA ()
  else
   y9 ()
  ) big ((0:Int))
theorem en89:Enters Try.prog 89:=enters_of Try.func89 (by kernel_rfl) rfl
theorem wk89 {gI:Gh} {wI:World} {x0:BoxLoom} {x1:Int} {x2:Int} {up0:Value} (rp0:RV gI.m wI x0 up0) {r:Int} (h:f89 x0 x1 x2=some r):Fn Try.prog 89 #[up0,.int .i64 (x1),.int .i64 (x2)] gI wI (fun _ _ v=>v=.int .i64 (r)):=by
 unfold f89 at h
 refine fn_of_E Try.func89 rfl (Nat.le_of_ble_eq_true rfl) fun g0 hm hfr=>?_
 have rp0:RV g0.m wI x0 up0:=hm ▸ rp0
 show E _ 34 none _ _ _ _ _
 refine Zf (Za (Ze .plain rfl (D_box (g:=g0) rfl rp0 fun g1 w1 p1 hs q1=>?_)))
 have hfr:=hfr.ext hs
 refine Zg (.int .i64 (0)) rfl rfl ?_
 refine Zb (Zd (Zq h (fun (s:Unit) e w=>∃ (g:Gh) ,Fr gI wI g w) (fun X71 y9 gA h=>?_) ?_))
 ·refine Zf (Za (Zg (.int .i64 (0)) rfl rfl ?_))
  refine Zb (Zd (Zr ?_))
  refine E_lp h (fun (s:Int) e w=>∃ (g:Gh) ,Fr gI wI g w∧e 1=.int .i64 (x1)∧e 2=.int .i64 (x2)∧e 3=p1∧PT g.m w (x0:BoxLoom) p1∧e 7=.int .i64 (s)) ⟨g1,hfr,rfl,rfl,rfl,q1,rfl⟩ (fun X72 z9 iA=>?_)
  rintro o0 dB tB ⟨i8,hfr,l9,n9,i7,x6,j7⟩ h
  refine Zq h (fun (s:Unit) e w=>∃ (g:Gh) ,Fr gI wI g w∧e 1=.int .i64 (x1)∧e 2=.int .i64 (x2)∧e 3=p1∧PT g.m w (x0:BoxLoom) p1∧e 7=.int .i64 (o0)) (fun X77 bA jA h=>?_) ?_
  ·refine Zf (Za (Zo j7 rfl ?_))
   refine EL_p (fPtr p1 2) (Zc at_25_2 i7 (PT.ptr x6)) rfl ?_
   have yA:=Zm (part_BoxLoom_2).1 x6
   refine Ze .plain rfl (D_load (g:=i8) Try.isAgg23 Try.sizeOf23 rfl yA fun vB zA=>?_)
   refine EL_p (.int .i64 (((x0).Shuttles).length:Int)) (P_len Try.underlying23 rfl zA) rfl ?_
   refine EL_p (.bool ((decide (o0 < (((x0).Shuttles).length:Int))))) (P_int rfl rfl rfl) rfl ?_
   refine Zb (Zd ?_)
   rcases Zt h with ⟨g7,h⟩ | ⟨g7,h⟩
   ·refine E_ct g7 rfl ?_
    exact Zu (Zd (jA () _ _ ⟨i8,hfr,l9,n9,i7,x6,j7⟩ h))
   ·refine E_cf g7 rfl ?_
    refine E_exit ?_
    refine thn_e ?_
    refine thn_e ?_
    refine blk_hit ?_
    exact Zd (gA () _ _ ⟨i8,hfr⟩ h)
  ·rintro _ eB yB ⟨i6, hfr, y6, a7, t5, i5, x5⟩ h
   refine Zq h (fun (s:Unit) e w=>∃ (g:Gh) ,Fr gI wI g w∧e 1=.int .i64 (x1)∧e 2=.int .i64 (x2)∧e 3=p1∧PT g.m w (x0:BoxLoom) p1∧e 7=.int .i64 (o0)) (fun X110 g8 u9 h=>?_) ?_
   ·refine Zr ?_
    obtain ⟨u3,hx,h⟩:=bsome h
    refine E_join (fun e w=>∃ (g:Gh) ,Fr gI wI g w∧e 1=.int .i64 (x1)∧e 2=.int .i64 (x2)∧e 3=p1∧PT g.m w (x0:BoxLoom) p1∧e 7=.int .i64 (o0)∧e 32=.bool (u3)) (fun Q' hQ=>?_) (fun aB iB hR=>?_)
    ·replace h := hx
     clear hx
     refine Za (EL_p (fPtr p1 2) (Zc at_25_2 t5 (PT.ptr i5)) rfl ?_)
     have mA:=Zm (part_BoxLoom_2).1 i5
     refine Ze .plain rfl (D_load (g:=i6) Try.isAgg23 Try.sizeOf23 rfl mA fun k8 l8=>?_)
     refine Zo x5 rfl ?_
     obtain ⟨l5,m7,h⟩:=bsome h
     refine EL_p (ePtr k8 o0 5) (Zh (α:=BoxShuttle) Try.underlying23 Try.sizeOf87 rfl l8 rfl m7) rfl ?_
     have m8:=PT_idx l8 m7
     refine EL_p (fPtr (ePtr k8 o0 5) 1) (Zc at_87_1 rfl (PT.ptr m8)) rfl ?_
     have nA:=Zm (part_BoxShuttle_1).1 m8
     refine Ze .plain rfl (D_load (g:=i6) Try.isAgg3 Try.sizeOf3 rfl nA fun jB oA=>?_)
     obtain rfl:=Zj.1 oA
     refine Zo y6 rfl ?_
     refine EL_in (.bool (((l5).Side == x1))) rfl rfl rfl rfl ?_
     refine Zn (.bool (((l5).Side == x1))) rfl rfl ?_
     rcases Zt h with ⟨i3,h⟩ | ⟨i3,h⟩
     ·refine EL_y (fPtr p1 2) (Zc at_25_2 t5 (PT.ptr i5)) rfl rfl i3 rfl ?_
      have pA:=Zm (part_BoxLoom_2).1 i5
      refine Ze (.yes2 rfl rfl i3) rfl (D_load (g:=i6) Try.isAgg23 Try.sizeOf23 rfl pA fun n8 o8=>?_)
      refine EL_y (.int .i64 (o0)) (Zk x5) rfl rfl i3 rfl ?_
      obtain ⟨v6,v7,h⟩:=bsome h
      refine EL_y (ePtr n8 o0 5) (Zh (α:=BoxShuttle) Try.underlying23 Try.sizeOf87 rfl o8 rfl v7) rfl rfl i3 rfl ?_
      have q8:=PT_idx o8 v7
      refine EL_y (fPtr (ePtr n8 o0 5) 2) (Zc at_87_2 rfl (PT.ptr q8)) rfl rfl i3 rfl ?_
      have qA:=Zm (part_BoxShuttle_2).1 q8
      refine Ze (.yes2 rfl rfl i3) rfl (D_load (g:=i6) Try.isAgg3 Try.sizeOf3 rfl qA fun lB rA=>?_)
      obtain rfl:=Zj.1 rA
      refine EL_y (.int .i64 (x2)) (Zk a7) rfl rfl i3 rfl ?_
      refine EL_y (.bool (((v6).Box == x2))) (P_int rfl rfl rfl) rfl rfl i3 rfl ?_
      refine EL_p (.bool (((v6).Box == x2))) (Zl (b:=((l5).Side == x1)) rfl (pick_t i3 rfl)) rfl ?_
      refine Zb ?_
      obtain rfl:=sinj h
      exact hQ _ _ ⟨i6,hfr,y6,a7,t5,i5,x5,rfl⟩
     ·refine EL_s rfl rfl i3 rfl rfl ?_
      iterate 7 refine EL_s rfl rfl i3 rfl rfl ?_
      refine EL_p (.bool false) (Zl (b:=((l5).Side == x1)) rfl (pick_f i3 rfl)) rfl ?_
      refine Zb ?_
      obtain rfl:=sinj h
      exact hQ _ _ ⟨i6,hfr,y6,a7,t5,i5,x5,rfl⟩
    ·clear hx
     obtain ⟨uA,hfr,r8,t8,v8,x8,d7,j6⟩:=hR
     rcases Zt h with ⟨b7,h⟩ | ⟨b7,h⟩
     ·refine E_cond_true (Eq.trans (show ev _ _ = .bool (u3) from j6) (congrArg Value.bool b7)) ?_
      refine Zf (Za (Zo d7 rfl ?_))
      refine Zg (.int .i64 (o0)) rfl rfl ?_
      refine Zb (Zd (E_ret (blk_r ?_)))
      refine thn_r ?_
      refine thn_r ?_
      refine blk_r ?_
      refine thn_r ?_
      obtain rfl:=sinj h
      exact end1 rfl rfl (show _=.int .i64 (o0) from rfl) ⟨_,hfr,rfl⟩
     ·refine E_cond_false (Eq.trans (show ev _ _ = .bool (u3) from j6) (congrArg Value.bool b7)) ?_
      exact Zu (blk_n (Zd (u9 () _ _ ⟨uA,hfr,r8,t8,v8,x8,d7⟩ h)))
   ·rintro _ bB mB ⟨xA, hfr, y8, a9, d9, i9, k9⟩ h
    refine Za (Zo k9 rfl ?_)
    refine EL_in (.int .i64 ((w64 (o0 + (1:Int))))) rfl rfl rfl rfl ?_
    refine Zg (.int .i64 ((w64 (o0 + (1:Int))))) rfl rfl ?_
    exact Zb (Zd (iA ((w64 (o0 + (1:Int)))) _ _ ⟨xA,hfr,y8,a9,d9,i9,rfl⟩ h))
 ·rintro _ cB nB ⟨oB, hfr⟩ h
  refine Zf (Za (Zg (.int .i64 (-1)) rfl rfl ?_))
  refine Zb (Zd (E_ret ?_))
  obtain rfl:=sinj h
  exact end1 rfl rfl (show _=.int .i64 (-1) from rfl) ⟨_,hfr,rfl⟩
def f90 (x0:List (List Int)) (x1:(List Int)→Option Bool):Option (Int):=
 jn (σ:=Unit) (fun _=>
  some ((-1:Int))
  ) fun k18=>
 lp (σ:=Int) (fun k19 o0=>
  bif (decide (o0 < ((x0).length : Int))) then
   jn (σ:=Unit) (fun _=>
    k19 ((w64 (o0 + (1:Int))))
    ) fun k28=>
   (idx x0 o0).bind fun g7=>
   (x1 g7).bind fun i7=>
   bif i7 then
    some (o0)
   else
    k28 ()
  else
   k18 ()
  ) big ((0:Int))
def f91 (x1:Int):Option ((List Int)):=
 Option.bind (α:=Unit) (
  bif (decide (x1 < (0 : Int))) then
   none
  else
   some ()
  ) fun (_:Unit)=>
 Option.bind (α:=(List Int)) (
  bif (decide ((w64 (x1 - (w64 (((0 : Nat) : Int) - ((([] : List Int)).length : Int))))) > (0 : Int))) then
   (grwz 8 ((w64 (x1 - (w64 (((0:Nat):Int) - ((([]:List Int)).length:Int))))))).bind fun _=>
   some (([]:List Int))
  else
   some (([]:List Int))
  ) fun u3=>
 some (u3)
end Go.Proofs.Ytmpjooneiaiffaa
