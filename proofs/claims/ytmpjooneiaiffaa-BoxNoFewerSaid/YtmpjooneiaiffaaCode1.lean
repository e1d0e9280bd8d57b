import Derived.Test.YtmpjooneiaiffaaTypes
import Derived.Test.YtmpjooneiaiffaaKn
import Derived.Test.YtmpjooneiaiffaaMap
import Derived.Test.YtmpjooneiaiffaaProg
set_option maxRecDepth 8000
set_option maxHeartbeats 4000000
namespace Go.Proofs.Ytmpjooneiaiffaa
open Go.RowKit
theorem info_3:(Try.prog.info? 3).map (fun i=>(i.zero,i.size,i.bytes))=some (some (.int .i64 0),1,8):=by kernel_rfl
theorem info_87:(Try.prog.info? 87).map (fun i=>(i.zero,i.size,i.bytes))=some (some (.agg #[.int .i64 0,.int .i64 0,.int .i64 0,.int .i64 0,.int .i64 0]),5,40):=by kernel_rfl
theorem plain_Span:Plain Span:=fun _ m' _ w' x _ h=>(plain_two plain_int plain_int) _ m' _ w' _ _ h
theorem mixed:Try.prog.follows .mixedOrders=true:=by kernel_rfl
theorem plain_BoxShuttle:Plain BoxShuttle:=fun _ m' _ w' x _ h=>(plain_two plain_int (plain_two plain_int (plain_two plain_int plain_Span))) _ m' _ w' _ _ h
theorem fl_83 : Try.prog.fieldsOf 83 = #[{ name := "Left", type := 3, offset := 0, embedded := false, tag := "", pkgPath := "", byteOffset := 0 }, { name := "Right", type := 3, offset := 1, embedded := false, tag := "", pkgPath := "", byteOffset := 8 }] := by kernel_rfl
theorem seq_83:SEq (α:=BoxPick) Try.prog 83:=by
 intro d x y w a b m wx m2 wy hx hy
 obtain ⟨_,⟨_,_,rfl,rfl,rfl⟩,rfl⟩:=hx
 obtain ⟨_,⟨_,_,rfl,rfl,rfl⟩,rfl⟩:=hy
 refine (run_equalIn_struct w (d + 1) 83 _ _ (by kernel_rfl) (by kernel_rfl)).trans ?_
 rw [fl_83]
 obtain ⟨x0,x1⟩:=x
 obtain ⟨y0,y1⟩:=y
 show (Op.eqFields (d + 1) #[.int .i64 (x0),.int .i64 (x1)] #[.int .i64 (y0),.int .i64 (y1)] _).run _ _=_
 have x0p:(part 3 #[.int .i64 (x0),.int .i64 (x1)] 0).run Try.prog w=.ok (.int .i64 (x0)) w:=part_one Try.isAgg3 rfl
 have x1p:(part 3 #[.int .i64 (x0),.int .i64 (x1)] 1).run Try.prog w=.ok (.int .i64 (x1)) w:=part_one Try.isAgg3 rfl
 have y0p:(part 3 #[.int .i64 (y0),.int .i64 (y1)] 0).run Try.prog w=.ok (.int .i64 (y0)) w:=part_one Try.isAgg3 rfl
 have y1p:(part 3 #[.int .i64 (y0),.int .i64 (y1)] 1).run Try.prog w=.ok (.int .i64 (y1)) w:=part_one Try.isAgg3 rfl
 simp only [Op.eqFields,Sem.run_bind,Sem.run_ite,Sem.run_pure,x0p,x1p,y0p,y1p,Result.andThen_ok,run_equalIn_int _ _ _ _ _ _ _ Try.underlying3]
 simp
 grind
theorem eg_83:Try.prog.eqGuardType Try.prog.depth 83=false:=by kernel_rfl
theorem info_22:(Try.prog.info? 22).map (fun i=>(i.zero,i.size,i.bytes))=some (some (.slice none 0 0),1,24):=by kernel_rfl
theorem info_83:(Try.prog.info? 83).map (fun i=>(i.zero,i.size,i.bytes))=some (some (.agg #[.int .i64 0,.int .i64 0]),2,16):=by kernel_rfl
theorem lay_85:layoutOf Try.prog 85=some ([.int .i64 0,.int .i64 0],[(0,1),(1,1)]):=by kernel_rfl
theorem lay_25:layoutOf Try.prog 25=some ([.slice none 0 0,.slice none 0 0,.slice none 0 0],[(0,1),(1,1),(2,1)]):=by kernel_rfl
theorem layA_137:((Try.prog.info? 137).bind (·.zero)).map (·.cells.toList)=some [.bool false,.bool false,.bool false,.bool false,.bool false,.bool false,.bool false,.bool false]:=by kernel_rfl
theorem szA_4:(Try.prog.info? 4).map (·.size)=some 1:=by kernel_rfl
theorem layA_69:((Try.prog.info? 69).bind (·.zero)).map (·.cells.toList)=some [.int .u8 0,.int .u8 0,.int .u8 0,.int .u8 0]:=by kernel_rfl
theorem szA_5:(Try.prog.info? 5).map (·.size)=some 1:=by kernel_rfl
theorem endm_c {P:Program} {e:Env} {ds:List Deferred} {w:World} {fn:Func} {R:Value→World→Prop} {t0:Tmp} {v0:Value} {y0:TypeId} {a0:Addr} (hres:fn.results=#[.cell t0 y0]) (hd:ds=[]) (h0:e t0=.pointer (some a0)) (l0:(loadVar y0 a0).run P w=.ok v0 w) (h:R v0 w):atEnd P fn R .ret e ds w:=
 ⟨hd,fun tmps ht=>⟨_,by simp [results,hres,ht,asAddr,h0,l0],h⟩⟩
theorem layA_76:((Try.prog.info? 76).bind (·.zero)).map (·.cells.toList)=some [.int .i64 0,.int .i64 0,.int .i64 0,.int .i64 0,.int .i64 0,.int .i64 0,.int .i64 0,.int .i64 0]:=by kernel_rfl
theorem szA_75:(Try.prog.info? 75).map (·.size)=some 4:=by kernel_rfl
theorem lay_87:layoutOf Try.prog 87=some ([.int .i64 0,.int .i64 0,.int .i64 0,.int .i64 0,.int .i64 0],[(0,1),(1,1),(2,1),(3,2)]):=by kernel_rfl
theorem lay_83:layoutOf Try.prog 83=some ([.int .i64 0,.int .i64 0],[(0,1),(1,1)]):=by kernel_rfl
theorem lay_102:layoutOf Try.prog 102=some ([.slice none 0 0,.slice none 0 0,.slice none 0 0],[(0,3)]):=by kernel_rfl
theorem capf_0_1 {e:Env} {f:FuncId} {o0:Operand} {b0:Value} (hb0:ev e o0=b0):(Value.func (.func f) ((#[]:Array Operand).map (ev e)) ((#[o0]:Array Operand).map (ev e)))=.func (.func f) #[] #[b0]:=by simp [hb0]
theorem endm_ct {P:Program} {e:Env} {ds:List Deferred} {w:World} {fn:Func} {R:Value→World→Prop} {t0:Tmp} {v0:Value} {y0:TypeId} {a0:Addr} {t1:Tmp} {v1:Value} (hres:fn.results=#[.cell t0 y0,.tmp t1]) (hd:ds=[]) (h0:e t0=.pointer (some a0)) (l0:(loadVar y0 a0).run P w=.ok v0 w) (h1:e t1=v1) (h:R (.tuple #[v0,v1]) w):atEnd P fn R .ret e ds w:=
 ⟨hd,fun tmps ht=>⟨_,by simp [results,hres,ht,asAddr,h0,l0,h1],h⟩⟩
theorem pl_75:Pl (Vector Int 4):=Pl.array Pl.int
theorem pl_76:Pl (Vector (Vector Int 4) 2):=Pl.array pl_75
theorem pl_83:Pl BoxPick:=Pl.of (Pl.prod Pl.int Pl.int)
theorem pl_108:Pl BoxRace:=Pl.of (Pl.prod pl_76 pl_83)
theorem pl_112:Pl BoxPoint:=Pl.of (Pl.prod Pl.int (Pl.prod Pl.int pl_108))
theorem eqd_75:EqD Try.prog (Vector Int 4) 2 75:=EqD.array Try.underlying75 info_3 (by kernel_rfl) Try.isAgg3 Try.sizeOf3 (EqD.int Try.underlying3)
theorem info_75:(Try.prog.info? 75).map (fun i=>(i.zero,i.size,i.bytes))=some (some (.agg #[.int .i64 0,.int .i64 0,.int .i64 0,.int .i64 0]),4,32):=by kernel_rfl
theorem eqd_76:EqD Try.prog (Vector (Vector Int 4) 2) 3 76:=EqD.array Try.underlying76 info_75 (by kernel_rfl) Try.isAgg75 Try.sizeOf75 eqd_75
theorem eqd_83:EqD Try.prog BoxPick 2 83:=EqD.struct rfl (by kernel_rfl) (by kernel_rfl) (by rw [fl_83]; exact (FEq.cons (by decide) (part_BoxPick_0).1 Try.isAgg3 Try.sizeOf3 (EqD.int Try.underlying3) (FEq.cons (by decide) (part_BoxPick_1).1 Try.isAgg3 Try.sizeOf3 (EqD.int Try.underlying3) FEq.nil))) (fun x y=>by cases x; cases y; simp)
theorem fl_108 : Try.prog.fieldsOf 108 = #[{ name := "boxes", type := 76, offset := 0, embedded := false, tag := "", pkgPath := "griffe/box", byteOffset := 0 }, { name := "at", type := 83, offset := 8, embedded := false, tag := "", pkgPath := "griffe/box", byteOffset := 64 }] := by kernel_rfl
theorem eqd_108:EqD Try.prog BoxRace 4 108:=EqD.struct rfl (by kernel_rfl) (by kernel_rfl) (by rw [fl_108]; exact (FEq.cons (by decide) (part_BoxRace_0).1 Try.isAgg76 Try.sizeOf76 eqd_76 (FEq.cons (by decide) (part_BoxRace_1).1 Try.isAgg83 Try.sizeOf83 (eqd_83.up (by decide)) FEq.nil))) (fun x y=>by cases x; cases y; simp)
theorem fl_112 : Try.prog.fieldsOf 112 = #[{ name := "group", type := 3, offset := 0, embedded := false, tag := "", pkgPath := "griffe/box", byteOffset := 0 }, { name := "done", type := 3, offset := 1, embedded := false, tag := "", pkgPath := "griffe/box", byteOffset := 8 }, { name := "race", type := 108, offset := 2, embedded := true, tag := "", pkgPath := "griffe/box", byteOffset := 16 }] := by kernel_rfl
theorem eqd_112:EqD Try.prog BoxPoint 5 112:=EqD.struct rfl (by kernel_rfl) (by kernel_rfl) (by rw [fl_112]; exact (FEq.cons (by decide) (part_BoxPoint_0).1 Try.isAgg3 Try.sizeOf3 ((EqD.int Try.underlying3).up (by decide)) (FEq.cons (by decide) (part_BoxPoint_1).1 Try.isAgg3 Try.sizeOf3 ((EqD.int Try.underlying3).up (by decide)) (FEq.cons (by decide) (part_BoxPoint_2).1 Try.isAgg108 Try.sizeOf108 eqd_108 FEq.nil)))) (fun x y=>by cases x; cases y; simp)
theorem ckd_75:CkD Try.prog (Vector Int 4) 2 75:=CkD.array Try.underlying75 info_3 (by kernel_rfl) Try.isAgg3 Try.sizeOf3 (CkD.int Try.underlying3)
theorem ckd_76:CkD Try.prog (Vector (Vector Int 4) 2) 3 76:=CkD.array Try.underlying76 info_75 (by kernel_rfl) Try.isAgg75 Try.sizeOf75 ckd_75
theorem ckd_83:CkD Try.prog BoxPick 2 83:=CkD.struct rfl Try.underlying83 fun f hf=>by
 simp only [List.mem_cons,List.not_mem_nil,or_false] at hf
 rcases hf with rfl | rfl
 ·exact ⟨by decide,_,_,_,(part_BoxPick_0).1,Try.isAgg3,Try.sizeOf3,(CkD.int Try.underlying3)⟩
 ·exact ⟨by decide,_,_,_,(part_BoxPick_1).1,Try.isAgg3,Try.sizeOf3,(CkD.int Try.underlying3)⟩
theorem ckd_108:CkD Try.prog BoxRace 4 108:=CkD.struct rfl Try.underlying108 fun f hf=>by
 simp only [List.mem_cons,List.not_mem_nil,or_false] at hf
 rcases hf with rfl | rfl
 ·exact ⟨by decide,_,_,_,(part_BoxRace_0).1,Try.isAgg76,Try.sizeOf76,ckd_76⟩
 ·exact ⟨by decide,_,_,_,(part_BoxRace_1).1,Try.isAgg83,Try.sizeOf83,ckd_83.up (by decide)⟩
theorem ckd_112:CkD Try.prog BoxPoint 5 112:=CkD.struct rfl Try.underlying112 fun f hf=>by
 simp only [List.mem_cons,List.not_mem_nil,or_false] at hf
 rcases hf with rfl | rfl | rfl
 ·exact ⟨by decide,_,_,_,(part_BoxPoint_0).1,Try.isAgg3,Try.sizeOf3,(CkD.int Try.underlying3).up (by decide)⟩
 ·exact ⟨by decide,_,_,_,(part_BoxPoint_1).1,Try.isAgg3,Try.sizeOf3,(CkD.int Try.underlying3).up (by decide)⟩
 ·exact ⟨by decide,_,_,_,(part_BoxPoint_2).1,Try.isAgg108,Try.sizeOf108,ckd_108⟩
theorem key_112:KeyLaw Try.prog 112 (encK pl_112):=keyLaw_pl pl_112 (by rw [Try.underlying112]) rfl eqd_112 ckd_112 (by decide)
theorem lay_154:layoutOf Try.prog 154=some ([.int .i64 0,.int .i64 0,.map none],[(0,1),(1,1),(2,1)]):=by kernel_rfl
theorem capf_0_2 {e:Env} {f:FuncId} {o0:Operand} {i3:Operand} {b0:Value} {b1:Value} (hb0:ev e o0=b0) (hb1:ev e i3=b1):(Value.func (.func f) ((#[]:Array Operand).map (ev e)) ((#[o0,i3]:Array Operand).map (ev e)))=.func (.func f) #[] #[b0,b1]:=by simp [hb0,hb1]
theorem endm_ctt {P:Program} {e:Env} {ds:List Deferred} {w:World} {fn:Func} {R:Value→World→Prop} {t0:Tmp} {v0:Value} {y0:TypeId} {a0:Addr} {t1:Tmp} {v1:Value} {t2:Tmp} {v2:Value} (hres:fn.results=#[.cell t0 y0,.tmp t1,.tmp t2]) (hd:ds=[]) (h0:e t0=.pointer (some a0)) (l0:(loadVar y0 a0).run P w=.ok v0 w) (h1:e t1=v1) (h2:e t2=v2) (h:R (.tuple #[v0,v1,v2]) w):atEnd P fn R .ret e ds w:=
 ⟨hd,fun tmps ht=>⟨_,by simp [results,hres,ht,asAddr,h0,l0,h1,h2],h⟩⟩
theorem layA_138:((Try.prog.info? 138).bind (·.zero)).map (·.cells.toList)=some [.int .i64 0,.int .i64 0]:=by kernel_rfl
theorem szA_3:(Try.prog.info? 3).map (·.size)=some 1:=by kernel_rfl
theorem endm_ttct {P:Program} {e:Env} {ds:List Deferred} {w:World} {fn:Func} {R:Value→World→Prop} {t0:Tmp} {v0:Value} {t1:Tmp} {v1:Value} {t2:Tmp} {v2:Value} {y2:TypeId} {a2:Addr} {t3:Tmp} {v3:Value} (hres:fn.results=#[.tmp t0,.tmp t1,.cell t2 y2,.tmp t3]) (hd:ds=[]) (h0:e t0=v0) (h1:e t1=v1) (h2:e t2=.pointer (some a2)) (l2:(loadVar y2 a2).run P w=.ok v2 w) (h3:e t3=v3) (h:R (.tuple #[v0,v1,v2,v3]) w):atEnd P fn R .ret e ds w:=
 ⟨hd,fun tmps ht=>⟨_,by simp [results,hres,ht,asAddr,h0,h1,h2,l2,h3],h⟩⟩
@[reducible] def ow_BoxLoom:Ow BoxLoom:=Ow.struct (fun (x:BoxLoom)=>(x.Boxes,x.At,x.Shuttles)) (Ow.pair (Ow.list 3 (Ow.sh Int)) (Ow.pair (Ow.list 3 (Ow.sh Int)) (Ow.list 87 (Ow.sh BoxShuttle))))
theorem lay_144:layoutOf Try.prog 144=some ([.int .i64 0,.int .i64 0,.int .i64 0,.int .i64 0,.int .i64 0,.int .i64 0,.int .i64 0,.int .i64 0,.int .i64 0,.int .i64 0,.int .i64 0,.int .i64 0],[(0,10),(10,1),(11,1)]):=by kernel_rfl
theorem fl_BoxLoom_2:Fl ow_BoxLoom (Ow.list 87 (Ow.sh BoxShuttle)) 2 (fun (x:BoxLoom) y=>{ x with Shuttles:=y }) (fun (q:(ow_BoxLoom).S) (r:((Ow.list 87 (Ow.sh BoxShuttle))).S)=>(Prod.fst q,(Prod.fst (Prod.snd q),r))):=Fl.of _ (Fl.comp Prod.snd Prod.snd (Fl.snd _ _) (Fl.comp Prod.snd Prod.snd (Fl.snd _ _) (Fl.id_ _) rfl) rfl) (fun _ _=>rfl)
theorem fl_BoxShuttle_1:Fl (Ow.sh BoxShuttle) (Ow.sh Int) 1 (fun (x:BoxShuttle) y=>{ x with Side:=y }) (fun q _=>q):=Fl.shd part_BoxShuttle_1 (fun _ _=>rfl) (fun _ _ _=>rfl)
theorem fl_BoxShuttle_2:Fl (Ow.sh BoxShuttle) (Ow.sh Int) 2 (fun (x:BoxShuttle) y=>{ x with Box:=y }) (fun q _=>q):=Fl.shd part_BoxShuttle_2 (fun _ _=>rfl) (fun _ _ _=>rfl)
theorem lay_129:layoutOf Try.prog 129=some ([.slice none 0 0,.int .i64 0,.int .i64 0,.int .i64 0,.int .i64 0,.int .i64 0,.int .i64 0,.int .i64 0,.int .i64 0,.int .i64 0,.int .i64 0,.int .i64 0],[(0,1),(1,10),(11,1)]):=by kernel_rfl
theorem tup4_0 {b0 b1 b2 b3:Value} {B0:Value→Prop} {B1:Value→Prop} {B2:Value→Prop} {B3:Value→Prop} (h:∃ c0 c1 c2 c3:Value,Value.tuple #[b0,b1,b2,b3]=.tuple #[c0,c1,c2,c3]∧B0 c0∧B1 c1∧B2 c2∧B3 c3):B0 b0:=by
 obtain ⟨c0,c1,c2,c3,he,h0,h1,h2,h3⟩:=h; simp at he; obtain ⟨rfl,rfl,rfl,rfl⟩:=he; exact h0
theorem endm_cc {P:Program} {e:Env} {ds:List Deferred} {w:World} {fn:Func} {R:Value→World→Prop} {t0:Tmp} {v0:Value} {y0:TypeId} {a0:Addr} {t1:Tmp} {v1:Value} {y1:TypeId} {a1:Addr} (hres:fn.results=#[.cell t0 y0,.cell t1 y1]) (hd:ds=[]) (h0:e t0=.pointer (some a0)) (l0:(loadVar y0 a0).run P w=.ok v0 w) (h1:e t1=.pointer (some a1)) (l1:(loadVar y1 a1).run P w=.ok v1 w) (h:R (.tuple #[v0,v1]) w):atEnd P fn R .ret e ds w:=
 ⟨hd,fun tmps ht=>⟨_,by simp [results,hres,ht,asAddr,h0,l0,h1,l1],h⟩⟩
theorem pl_138:Pl (Vector Int 2):=Pl.array Pl.int
theorem eqd_138:EqD Try.prog (Vector Int 2) 2 138:=EqD.array Try.underlying138 info_3 (by kernel_rfl) Try.isAgg3 Try.sizeOf3 (EqD.int Try.underlying3)
theorem ckd_138:CkD Try.prog (Vector Int 2) 2 138:=CkD.array Try.underlying138 info_3 (by kernel_rfl) Try.isAgg3 Try.sizeOf3 (CkD.int Try.underlying3)
theorem key_138:KeyLaw Try.prog 138 (encK pl_138):=keyLaw_pl pl_138 (by rw [Try.underlying138]) rfl eqd_138 ckd_138 (by decide)
theorem lay_112:layoutOf Try.prog 112=some ([.int .i64 0,.int .i64 0,.int .i64 0,.int .i64 0,.int .i64 0,.int .i64 0,.int .i64 0,.int .i64 0,.int .i64 0,.int .i64 0,.int .i64 0,.int .i64 0],[(0,1),(1,1),(2,10)]):=by kernel_rfl
theorem endm_cctt {P:Program} {e:Env} {ds:List Deferred} {w:World} {fn:Func} {R:Value→World→Prop} {t0:Tmp} {v0:Value} {y0:TypeId} {a0:Addr} {t1:Tmp} {v1:Value} {y1:TypeId} {a1:Addr} {t2:Tmp} {v2:Value} {t3:Tmp} {v3:Value} (hres:fn.results=#[.cell t0 y0,.cell t1 y1,.tmp t2,.tmp t3]) (hd:ds=[]) (h0:e t0=.pointer (some a0)) (l0:(loadVar y0 a0).run P w=.ok v0 w) (h1:e t1=.pointer (some a1)) (l1:(loadVar y1 a1).run P w=.ok v1 w) (h2:e t2=v2) (h3:e t3=v3) (h:R (.tuple #[v0,v1,v2,v3]) w):atEnd P fn R .ret e ds w:=
 ⟨hd,fun tmps ht=>⟨_,by simp [results,hres,ht,asAddr,h0,l0,h1,l1,h2,h3],h⟩⟩
theorem endm_tcttt {P:Program} {e:Env} {ds:List Deferred} {w:World} {fn:Func} {R:Value→World→Prop} {t0:Tmp} {v0:Value} {t1:Tmp} {v1:Value} {y1:TypeId} {a1:Addr} {t2:Tmp} {v2:Value} {t3:Tmp} {v3:Value} {t4:Tmp} {v4:Value} (hres:fn.results=#[.tmp t0,.cell t1 y1,.tmp t2,.tmp t3,.tmp t4]) (hd:ds=[]) (h0:e t0=v0) (h1:e t1=.pointer (some a1)) (l1:(loadVar y1 a1).run P w=.ok v1 w) (h2:e t2=v2) (h3:e t3=v3) (h4:e t4=v4) (h:R (.tuple #[v0,v1,v2,v3,v4]) w):atEnd P fn R .ret e ds w:=
 ⟨hd,fun tmps ht=>⟨_,by simp [results,hres,ht,asAddr,h0,h1,l1,h2,h3,h4],h⟩⟩
theorem fl_BoxLoom_0:Fl ow_BoxLoom (Ow.list 3 (Ow.sh Int)) 0 (fun (x:BoxLoom) y=>{ x with Boxes:=y }) (fun (q:(ow_BoxLoom).S) (r:((Ow.list 3 (Ow.sh Int))).S)=>(r,Prod.snd q)):=Fl.of _ (Fl.fst _ _) (fun _ _=>rfl)
def f78 (x0:List Int):Option (List Int):=apnd 8 [] x0
theorem en78:Enters Try.prog 78:=enters_of Try.func78 (by kernel_rfl) rfl
def f79 (x0:List BoxShuttle):Option (List BoxShuttle):=apnd 40 [] x0
theorem en79:Enters Try.prog 79:=enters_of Try.func79 (by kernel_rfl) rfl
def f14:Option Bool:=some true
theorem en14:Enters Try.prog 14:=enters_of Try.func14 (by kernel_rfl) rfl
theorem wk14 {gI:Gh} {wI:World} {r:Bool} (h:f14=some r):Fn Try.prog 14 #[] gI wI (fun _ _ v=>v=.bool (r)):=by
 injection h with h
 subst h
 exact wkK14
def f16 (x0:List Int):Option ((List Int)):=
 (apnd 8 (([]:List Int)) x0).bind fun y3=>
 some (y3)
theorem en16:Enters Try.prog 16:=enters_of Try.func16 (by kernel_rfl) rfl
theorem wk16 {gI:Gh} {wI:World} {x0:List Int} {up0:Value} (rp0:RV gI.m wI x0 up0) {r:(List Int)} (h:f16 x0=some r):Fn Try.prog 16 #[up0] gI wI (fun m w v=>RV m w (r) v):=by
 unfold f16 at h
 refine fn_of_E Try.func16 rfl (Nat.le_of_ble_eq_true rfl) fun g0 hm hfr=>?_
 have rp0:RV g0.m wI x0 up0:=hm ▸ rp0
 show E _ 6 none _ _ _ _ _
 refine Zf (Za (Zg (.slice none 0 0) rfl rfl ?_))
 refine Zb (Zd (Zf (Za (Ze .plain rfl (D_buildSlice (g:=g0) 3003 (xs:=([]:List Int)) (vs:=[]) Try.underlying22 Try.sizeOf3 Try.zeroValue3 rfl rfl .nil RVs.nil rfl rfl fun g1 w1 v1 hs o1 r1 hxt hfl=>?_)))))
 have hfr:=hfr.stp hs
 have rp0:=rp0.stp hs
 refine Zn up0 rfl rfl ?_
 obtain ⟨y3,hy3,h⟩:=bsome h
 refine Ze .plain rfl (D_append (g:=g1) (i:=3003) Try.underlying22 info_3 rfl rfl o1 r1 rfl rp0 hy3 fun g2 w2 v2 hs o2 r2 _=>?_)
 have hfr:=hfr.stp hs
 refine Zg v2 rfl rfl ?_
 refine Zb (Zd (E_ret ?_))
 obtain rfl:=sinj h
 exact end1 rfl rfl (show _=v2 from rfl) ⟨_,hfr,r2⟩
def f28 (x0:List BoxPick):Option ((List BoxPick)):=
 (apnd 16 (([]:List BoxPick)) x0).bind fun y3=>
 some (y3)
theorem en28:Enters Try.prog 28:=enters_of Try.func28 (by kernel_rfl) rfl
theorem wk28 {gI:Gh} {wI:World} {x0:List BoxPick} {up0:Value} (rp0:RV gI.m wI x0 up0) {r:(List BoxPick)} (h:f28 x0=some r):Fn Try.prog 28 #[up0] gI wI (fun m w v=>RV m w (r) v):=by
 unfold f28 at h
 refine fn_of_E Try.func28 rfl (Nat.le_of_ble_eq_true rfl) fun g0 hm hfr=>?_
 have rp0:RV g0.m wI x0 up0:=hm ▸ rp0
 show E _ 6 none _ _ _ _ _
 refine Zf (Za (Zg (.slice none 0 0) rfl rfl ?_))
 refine Zb (Zd (Zf (Za (Ze .plain rfl (D_buildSlice (g:=g0) 3003 (xs:=([]:List BoxPick)) (vs:=[]) Try.underlying30 Try.sizeOf83 Try.zeroValue83 rfl rfl .nil RVs.nil rfl rfl fun g1 w1 v1 hs o1 r1 hxt hfl=>?_)))))
 have hfr:=hfr.stp hs
 have rp0:=rp0.stp hs
 refine Zn up0 rfl rfl ?_
 obtain ⟨y3,hy3,h⟩:=bsome h
 refine Ze .plain rfl (D_append (g:=g1) (i:=3003) Try.underlying30 info_83 rfl rfl o1 r1 rfl rp0 hy3 fun g2 w2 v2 hs o2 r2 _=>?_)
 have hfr:=hfr.stp hs
 refine Zg v2 rfl rfl ?_
 refine Zb (Zd (E_ret ?_))
 obtain rfl:=sinj h
 exact end1 rfl rfl (show _=v2 from rfl) ⟨_,hfr,r2⟩
def f42 (x0:Int) (x1:Int):Option (Span):=
 some ((⟨x0,x1⟩:Span))
theorem en42:Enters Try.prog 42:=enters_of Try.func42 (by kernel_rfl) rfl
theorem wk42 {gI:Gh} {wI:World} {x0:Int} {x1:Int}  {r:Span} (h:f42 x0 x1=some r):Fn Try.prog 42 #[.int .i64 (x0),.int .i64 (x1)] gI wI (fun m w v=>RV m w (r) v):=by
 unfold f42 at h
 refine fn_of_E Try.func42 rfl (Nat.le_of_ble_eq_true rfl) fun g0 hm hfr=>?_
 show E _ 8 none _ _ _ _ _
 refine Zf (Za (Ze .plain rfl (D_allocOc (g:=g0) 2004 (⟨0,0⟩:Span) Try.zeroValue85 (fun m w=>⟨_,(rep_two rep_int rep_int),rfl⟩) fun g1 w1 p1 hs b1 cb=>?_)))
 have hfr:=hfr.stp hs
 clear cb
 refine Zb (Zd (Zf (Za (Zn (.int .i64 (x0)) rfl rfl ?_))))
 refine Zn (.int .i64 (x1)) rfl rfl ?_
 have r2:RV g1.m w1 (⟨x0,x1⟩:Span) (.agg (setCh [[.int .i64 0],[.int .i64 0]] [(0,.int .i64 (x0)),(1,.int .i64 (x1))]).flatten.toArray):=RV_build rfl (rep_pair (rfl) (rep_last (rfl)))
 generalize hv2:(Value.agg (setCh [[.int .i64 0],[.int .i64 0]] [(0,.int .i64 (x0)),(1,.int .i64 (x1))]).flatten.toArray)=v2 at r2
 refine EL_p v2 (hv2 ▸ P_build (vs:=[(0,.int .i64 (x0)),(1,.int .i64 (x1))]) [[.int .i64 0],[.int .i64 0]] lay_85 rfl rfl (.cons rfl (.cons rfl .nil)) ⟨⟨_,rfl,rfl⟩,⟨⟨_,rfl,rfl⟩,trivial⟩⟩) rfl ?_
 refine Ze .plain rfl (D_storeOc (g:=g1) (v:=v2) Try.sizeOf85 rfl b1 rfl r2 fun g3 w3 hs b3 cb=>?_)
 clear cb
 have hfr:=hfr.stp hs
 refine Zb (Zd (E_ret ?_))
 obtain rfl:=sinj h
 obtain ⟨ad4,cv4,hp4,o0,cr4⟩:=ob_read Try.isAgg85 Try.sizeOf85 b3
 exact endm_c rfl rfl ((show _=p1 from rfl).trans hp4) o0 ⟨_,hfr,cr4⟩
def f44 (x0:BoxLoom) (x1:List Int):Option ((List Int)):=
 Option.bind (α:=(List Int)) (
  lp (σ:=(List Int) × Int) (fun iB (t5,o0)=>
   jn (σ:=Unit) (fun _=>
    Option.bind (α:=(List Int)) (
     (idx x1 o0).bind fun v6=>
     (idx ((x0).Shuttles) v6).bind fun i3=>
     (apnd 8 t5 (([(i3).Colour]:List Int))).bind fun t8=>
     some (t8)
     ) fun l5=>
    iB (l5,(w64 (o0 + (1:Int))))
    ) fun jB=>
   bif (decide (o0 < ((x1).length : Int))) then
    jB ()
   else
    some (t5)
   ) big (([]:List Int),(0:Int))
  ) fun x5=>
 some (x5)
theorem en44:Enters Try.prog 44:=enters_of Try.func44 (by kernel_rfl) rfl
theorem wk44 {gI:Gh} {wI:World} {x0:BoxLoom} {x1:List Int} {up0:Value} (rp0:RV gI.m wI x0 up0) {up1:Value} (rp1:RV gI.m wI x1 up1) {r:(List Int)} (h:f44 x0 x1=some r):Fn Try.prog 44 #[up0,up1] gI wI (fun m w v=>RV m w (r) v):=by
 unfold f44 at h
 refine fn_of_E Try.func44 rfl (Nat.le_of_ble_eq_true rfl) fun g0 hm hfr=>?_
 have rp0:RV g0.m wI x0 up0:=hm ▸ rp0
 have rp1:RV g0.m wI x1 up1:=hm ▸ rp1
 show E _ 27 none _ _ _ _ _
 refine Zf (Za (Ze .plain rfl (D_box (g:=g0) rfl rp0 fun g1 w1 p1 hs q1=>?_)))
 have hfr:=hfr.ext hs
 have rp1:=rp1.ext hs
 refine Zg (.slice none 0 0) rfl rfl ?_
 refine Zb (Zd (Zf (Za (Ze .plain rfl (D_buildSlice (g:=g1) 3007 (xs:=([]:List Int)) (vs:=[]) Try.underlying22 Try.sizeOf3 Try.zeroValue3 rfl rfl .nil RVs.nil rfl rfl fun g2 w2 v2 hs o2 r2 hxt hfl=>?_)))))
 have hfr:=hfr.stp hs
 have rp1:=rp1.stp hs
 have q1:=q1.stp hs
 refine Zg v2 rfl rfl ?_
 refine Zb (Zd ?_)
 obtain ⟨x5,hx,h⟩:=bsome h
 refine E_join (fun e w=>∃ (g:Gh) (v5:Value),Fr gI wI g w∧e 5=v5∧RV g.m w (x5:List Int) v5∧OS 3007 g w 3 (x5:List Int) v5) (fun Q' hQ=>?_) (fun rC vC hR=>?_)
 ·replace h := hx
  clear hx
  refine Zf (Za (Zg (.int .i64 (0)) rfl rfl ?_))
  refine Zb (Zd (Zr ?_))
  refine E_lp h (fun (s:(List Int) × Int) e w=>∃ (g:Gh) (v5:Value),Fr gI wI g w∧e 1=up1∧RV g.m w (x1:List Int) up1∧e 2=p1∧PT g.m w (x0:BoxLoom) p1∧e 5=v5∧RV g.m w (s.1:List Int) v5∧OS 3007 g w 3 (s.1:List Int) v5∧e 6=.int .i64 (s.2)) ⟨g2,(v2),hfr,rfl,rp1,rfl,q1,rfl,r2,o2,rfl⟩ (fun X67 iB mB=>?_)
  rintro ⟨t5,o0⟩ aD lD ⟨lB,i6,hfr,j7,m7,mA,pA,v7,g8,i8,k8⟩ h
  refine Zq h (fun (s:Unit) e w=>∃ (g:Gh) ,Fr gI wI g w∧e 1=up1∧RV g.m w (x1:List Int) up1∧e 2=p1∧PT g.m w (x0:BoxLoom) p1∧e 5=i6∧RV g.m w (t5:List Int) i6∧OS 3007 g w 3 (t5:List Int) i6∧e 6=.int .i64 (o0)) (fun X70 jB nB h=>?_) ?_
  ·refine Zf (Za (Zo k8 rfl ?_))
   refine Zo j7 rfl ?_
   refine EL_p (.int .i64 ((x1).length:Int)) (P_len Try.underlying22 rfl m7) rfl ?_
   refine EL_in (.bool ((decide (o0 < ((x1).length:Int))))) rfl rfl rfl rfl ?_
   refine Zb (Zd ?_)
   rcases Zt h with ⟨d7,h⟩ | ⟨d7,h⟩
   ·refine E_ct d7 rfl ?_
    exact Zu (Zd (nB () _ _ ⟨lB,hfr,j7,m7,mA,pA,v7,g8,i8,k8⟩ h))
   ·refine E_cf d7 rfl ?_
    refine E_exit ?_
    refine thn_e ?_
    refine thn_e ?_
    refine blk_hit ?_
    obtain rfl:=sinj h
    exact hQ _ _ ⟨lB,(i6),hfr,v7,g8,i8⟩
  ·rintro _ bD mD ⟨mC, hfr, l8, u3, m8, i5, qA, x6, y6, n8⟩ h
   obtain ⟨l5,hx,h⟩:=bsome h
   refine E_join (fun e w=>∃ (g:Gh) (v5:Value),Fr gI wI g w∧e 1=up1∧RV g.m w (x1:List Int) up1∧e 2=p1∧PT g.m w (x0:BoxLoom) p1∧e 5=v5∧RV g.m w (l5:List Int) v5∧OS 3007 g w 3 (l5:List Int) v5∧e 6=.int .i64 (o0)) (fun Q' hQ=>?_) (fun uC cD hR=>?_)
   ·replace h := hx
    clear hx
    refine Zr ?_
    have oB:=Zm (part_BoxLoom_2).1 i5
    refine Zs (x:=.tmp 15) Try.isAgg23 Try.sizeOf23 oB fun i7 v8 rA=>?_
    obtain ⟨v6,q8,h⟩:=bsome h
    have tB:=PT_idx u3 q8
    refine Zs (x:=.tmp 19) Try.isAgg3 Try.sizeOf3 tB fun eD vB yA=>?_
    obtain rfl:=Zj.1 vB
    obtain ⟨i3,r8,h⟩:=bsome h
    have x8:=PT_idx v8 r8
    have yB:=Zm (part_BoxShuttle_0).1 x8
    refine Zs (x:=.tmp 22) Try.isAgg3 Try.sizeOf3 yB fun gD zB aB=>?_
    obtain rfl:=Zj.1 zB
    refine E_drawL (g:=mC) (n:=11) [(10,(fun v g w=>RV g.m w ([(i3).Colour]:List Int) v∧OS 3024 g w 3 ([(i3).Colour]:List Int) v∧FullV v))] [0,1,2,3,4,5,6,7,8,9,10] rfl mixed (by kernel_rfl) (⟨fun _=>up_and up_rv (up_and up_os (up_eq _)),trivial⟩) ?_
    refine L_p i6 rfl rfl (Zk qA) ?_
    refine L_p (fPtr p1 2) rfl rfl (Zc at_25_2 m8 (PT.ptr i5)) ?_
    refine L_ld (c:=i7) rfl rfl .plain (fun _ _ h=>h.ch) rA rfl ?_
    refine L_p up1 rfl rfl (Zk l8) ?_
    refine L_p (.int .i64 (o0)) rfl rfl (Zk n8) ?_
    refine L_p (ePtr up1 o0 1) rfl rfl (Zh (α:=Int) Try.underlying22 Try.sizeOf3 rfl u3 rfl q8) ?_
    refine L_ld (c:=.int .i64 (v6)) rfl rfl .plain (fun _ _ h=>h.ch) yA rfl ?_
    refine L_p (ePtr i7 v6 5) rfl rfl (Zh (α:=BoxShuttle) Try.underlying23 Try.sizeOf87 rfl v8 rfl r8) ?_
    refine L_p (fPtr (ePtr i7 v6 5) 0) rfl rfl (Zc at_87_0 rfl (PT.ptr x8)) ?_
    refine L_ld (c:=.int .i64 ((i3).Colour)) rfl rfl .plain (fun _ _ h=>h.ch) aB rfl ?_
    refine L_do (φ:=fun v g w=>RV g.m w ([(i3).Colour]:List Int) v∧OS 3024 g w 3 ([(i3).Colour]:List Int) v∧FullV v) rfl rfl .plain (fun g w hd=>D_buildSlice (g:=g) 3024 (xs:=([(i3).Colour]:List Int)) (vs:=[.int .i64 ((i3).Colour)]) Try.underlying22 Try.sizeOf3 Try.zeroValue3 rfl rfl (.cons rfl .nil) (RVs.cons (Zj.2 rfl) RVs.nil) rfl rfl fun g' w' v hs o r hxt hfl=>⟨g',hxt,r,o,hfl⟩) (fun j6 hv=>?_)
    clear hv
    refine L_nil fun aC iD hall=>?_
    have hs:=hall.1
    have hfr:=hfr.ext hs
    have u3:=u3.ext hs
    have i5:=i5.ext hs
    have x6:=x6.ext hs
    have y6:=y6.ext hs
    have cC:=(word_all (A:=fun g w=>RV g.m w ([(i3).Colour]:List Int) j6∧OS 3024 g w 3 ([(i3).Colour]:List Int) j6∧FullV j6) 10 rfl hall).1
    have o126:=(word_all (A:=fun g w=>RV g.m w ([(i3).Colour]:List Int) j6∧OS 3024 g w 3 ([(i3).Colour]:List Int) j6∧FullV j6) 10 rfl hall).2.1
    clear hs hall
    obtain ⟨t8,dB,h⟩:=bsome h
    refine Ze .plain rfl (D_append (g:=aC) (i:=3007) Try.underlying22 info_3 rfl rfl y6 x6 rfl cC dB fun eC jD a9 hs o127 iC _=>?_)
    have hfr:=hfr.stp hs
    have u3:=u3.stp hs
    have i5:=i5.stp hs
    refine Zg a9 rfl rfl ?_
    refine Zb (blk_n ?_)
    obtain rfl:=sinj h
    exact hQ _ _ ⟨eC,(a9),hfr,l8,u3,m8,i5,rfl,iC,o127,n8⟩
   ·clear hx
    obtain ⟨lC,d9,hfr,k9,l9,n9,u9,y9,z9,bA,gA⟩:=hR
    refine Za (Zo gA rfl ?_)
    refine EL_in (.int .i64 ((w64 (o0 + (1:Int))))) rfl rfl rfl rfl ?_
    refine Zg (.int .i64 ((w64 (o0 + (1:Int))))) rfl rfl ?_
    exact Zb (Zd (mB (l5,(w64 (o0 + (1:Int)))) _ _ ⟨lC,(d9),hfr,k9,l9,n9,u9,y9,z9,bA,rfl⟩ h))
 ·clear hx
  obtain ⟨kD,a7,hfr,iA,jA,qC⟩:=hR
  refine Zf (Za (Zo iA rfl ?_))
  refine Zg a7 rfl rfl ?_
  refine Zb (Zd (E_ret ?_))
  obtain rfl:=sinj h
  exact end1 rfl rfl (show _=a7 from rfl) ⟨_,hfr,jA⟩
def f45 (x0:BoxLoom):Option ((Vector (Vector Int 4) 2)):=
 Option.bind (α:=(Vector (Vector Int 4) 2)) (
  lp (σ:=(Vector (Vector Int 4) 2) × Int) (fun k94 (t5,o0)=>
   jn (σ:=Unit) (fun _=>
    Option.bind (α:=(Vector (Vector Int 4) 2)) (
     (idx ((x0).Shuttles) o0).bind fun l5=>
     (idx ((x0).Shuttles) o0).bind fun j6=>
     (idx (t5).toList (l5).Side).bind fun y9=>
     (idx (y9).toList (j6).Box).bind fun vB=>
     some ((vmod t5 ((l5).Side) (fun b=>(vset b ((j6).Box) ((w64 (o0 + (1:Int))))))))
     ) fun x5=>
    k94 (x5,(w64 (o0 + (1:Int))))
    ) fun tB=>
   bif (decide (o0 < (((x0).Shuttles).length : Int))) then
    tB ()
   else
    some (t5)
   ) big ((⟨List.toArray [(⟨List.toArray [0,0,0,0],rfl⟩:Vector Int 4),(⟨List.toArray [0,0,0,0],rfl⟩:Vector Int 4)],rfl⟩:Vector (Vector Int 4) 2),(0:Int))
  ) fun v6=>
 some (v6)
theorem en45:Enters Try.prog 45:=enters_of Try.func45 (by kernel_rfl) rfl
theorem wk45 {gI:Gh} {wI:World} {x0:BoxLoom} {up0:Value} (rp0:RV gI.m wI x0 up0) {r:(Vector (Vector Int 4) 2)} (h:f45 x0=some r):Fn Try.prog 45 #[up0] gI wI (fun m w v=>RV m w (r) v):=by
 unfold f45 at h
 refine fn_of_E Try.func45 rfl (Nat.le_of_ble_eq_true rfl) fun g0 hm hfr=>?_
 have rp0:RV g0.m wI x0 up0:=hm ▸ rp0
 show E _ 30 none _ _ _ _ _
 refine Zf (Za (Ze .plain rfl (D_box (g:=g0) rfl rp0 fun g1 w1 p1 hs q1=>?_)))
 have hfr:=hfr.ext hs
 have rp0:=rp0.ext hs
 refine Ze .plain rfl (D_allocOc (g:=g1) 2002 ((⟨List.toArray [(⟨List.toArray [0,0,0,0],rfl⟩:Vector Int 4),(⟨List.toArray [0,0,0,0],rfl⟩:Vector Int 4)],rfl⟩:Vector (Vector Int 4) 2):Vector (Vector Int 4) 2) Try.zeroValue76 (fun m w=>⟨_,(rep_vec (flat_chunk (rep_vec (flat_chunk rep_int (flat_chunk rep_int (flat_chunk rep_int (flat_chunk rep_int flat_nil)))) rfl) (flat_chunk (rep_vec (flat_chunk rep_int (flat_chunk rep_int (flat_chunk rep_int (flat_chunk rep_int flat_nil)))) rfl) flat_nil)) rfl),rfl⟩) fun g2 w2 p2 hs b2 cb=>?_)
 have hfr:=hfr.stp hs
 have rp0:=rp0.stp hs
 have q1:=q1.stp hs
 clear cb
 refine Zb (Zd (Zf (Za ?_)))
 have r3:RV g2.m w2 (⟨List.toArray [(⟨List.toArray [0,0,0,0],rfl⟩:Vector Int 4),(⟨List.toArray [0,0,0,0],rfl⟩:Vector Int 4)],rfl⟩:Vector (Vector Int 4) 2) (.agg (setCh [[.int .i64 0,.int .i64 0,.int .i64 0,.int .i64 0],[.int .i64 0,.int .i64 0,.int .i64 0,.int .i64 0]] []).flatten.toArray):=RV_build rfl (rep_vec (flat_chunk (rep_vec (flat_chunk rep_int (flat_chunk rep_int (flat_chunk rep_int (flat_chunk rep_int flat_nil)))) rfl) (flat_chunk (rep_vec (flat_chunk rep_int (flat_chunk rep_int (flat_chunk rep_int (flat_chunk rep_int flat_nil)))) rfl) flat_nil)) rfl)
 generalize hv3:(Value.agg (setCh [[.int .i64 0,.int .i64 0,.int .i64 0,.int .i64 0],[.int .i64 0,.int .i64 0,.int .i64 0,.int .i64 0]] []).flatten.toArray)=v3 at r3
 refine EL_p v3 (hv3 ▸ P_buildA (vs:=[]) [[.int .i64 0,.int .i64 0,.int .i64 0,.int .i64 0],[.int .i64 0,.int .i64 0,.int .i64 0,.int .i64 0]] Try.underlying76 layA_76 szA_75 rfl (by simp) .nil trivial) rfl ?_
 refine Ze .plain rfl (D_allocOc (g:=g2) 2003 ((⟨List.toArray [(⟨List.toArray [0,0,0,0],rfl⟩:Vector Int 4),(⟨List.toArray [0,0,0,0],rfl⟩:Vector Int 4)],rfl⟩:Vector (Vector Int 4) 2):Vector (Vector Int 4) 2) Try.zeroValue76 (fun m w=>⟨_,(rep_vec (flat_chunk (rep_vec (flat_chunk rep_int (flat_chunk rep_int (flat_chunk rep_int (flat_chunk rep_int flat_nil)))) rfl) (flat_chunk (rep_vec (flat_chunk rep_int (flat_chunk rep_int (flat_chunk rep_int (flat_chunk rep_int flat_nil)))) rfl) flat_nil)) rfl),rfl⟩) fun g4 w4 p4 hs b4 cb=>?_)
 have hfr:=hfr.stp hs
 have rp0:=rp0.stp hs
 have q1:=q1.stp hs
 have b2:=b2.stp hs rfl
 have r3:=r3.stp hs
 clear cb
 refine Ze .plain rfl (D_storeOc (g:=g4) (v:=v3) Try.sizeOf76 rfl b4 rfl r3 fun g5 w5 hs b5 cb=>?_)
 clear cb
 have hfr:=hfr.stp hs
 have rp0:=rp0.stp hs
 have q1:=q1.stp hs
 have b2:=b2.stp hs rfl
 have r3:=r3.stp hs
 refine Zb (Zd ?_)
 obtain ⟨v6,hx,h⟩:=bsome h
 refine E_join (fun e w=>∃ (g:Gh) ,Fr gI wI g w∧e 2=p2∧OB 2002 g w 76 (((⟨List.toArray [(⟨List.toArray [0,0,0,0],rfl⟩:Vector Int 4),(⟨List.toArray [0,0,0,0],rfl⟩:Vector Int 4)],rfl⟩:Vector (Vector Int 4) 2):Vector (Vector Int 4) 2):Vector (Vector Int 4) 2) p2∧e 3=p4∧OB 2003 g w 76 (v6:Vector (Vector Int 4) 2) p4) (fun Q' hQ=>?_) (fun aD eD hR=>?_)
 ·replace h := hx
  clear hx
  refine Zf (Za (Zg (.int .i64 (0)) rfl rfl ?_))
  refine Zb (Zd (Zr ?_))
  refine E_lp h (fun (s:(Vector (Vector Int 4) 2) × Int) e w=>∃ (g:Gh) ,Fr gI wI g w∧e 1=p1∧PT g.m w (x0:BoxLoom) p1∧e 2=p2∧OB 2002 g w 76 (((⟨List.toArray [(⟨List.toArray [0,0,0,0],rfl⟩:Vector Int 4),(⟨List.toArray [0,0,0,0],rfl⟩:Vector Int 4)],rfl⟩:Vector (Vector Int 4) 2):Vector (Vector Int 4) 2):Vector (Vector Int 4) 2) p2∧e 3=p4∧OB 2003 g w 76 (s.1:Vector (Vector Int 4) 2) p4∧e 4=.int .i64 (s.2)) ⟨g5,hfr,rfl,q1,rfl,b2,rfl,b5,rfl⟩ (fun X94 k94 yB=>?_)
  rintro ⟨t5,o0⟩ gD uD ⟨z9,hfr,r8,y6,t8,v8,x8,a9,d9⟩ h
  refine Zq h (fun (s:Unit) e w=>∃ (g:Gh) ,Fr gI wI g w∧e 1=p1∧PT g.m w (x0:BoxLoom) p1∧e 2=p2∧OB 2002 g w 76 (((⟨List.toArray [(⟨List.toArray [0,0,0,0],rfl⟩:Vector Int 4),(⟨List.toArray [0,0,0,0],rfl⟩:Vector Int 4)],rfl⟩:Vector (Vector Int 4) 2):Vector (Vector Int 4) 2):Vector (Vector Int 4) 2) p2∧e 3=p4∧OB 2003 g w 76 (t5:Vector (Vector Int 4) 2) p4∧e 4=.int .i64 (o0)) (fun X99 tB zB h=>?_) ?_
  ·refine Zf (Za (Zo d9 rfl ?_))
   refine EL_p (fPtr p1 2) (Zc at_25_2 r8 (PT.ptr y6)) rfl ?_
   have aC:=Zm (part_BoxLoom_2).1 y6
   refine Ze .plain rfl (D_load (g:=z9) Try.isAgg23 Try.sizeOf23 rfl aC fun iD cC=>?_)
   refine EL_p (.int .i64 (((x0).Shuttles).length:Int)) (P_len Try.underlying23 rfl cC) rfl ?_
   refine EL_p (.bool ((decide (o0 < (((x0).Shuttles).length:Int))))) (P_int rfl rfl rfl) rfl ?_
   refine Zb (Zd ?_)
   rcases Zt h with ⟨a7,h⟩ | ⟨a7,h⟩
   ·refine E_ct a7 rfl ?_
    exact Zu (Zd (zB () _ _ ⟨z9,hfr,r8,y6,t8,v8,x8,a9,d9⟩ h))
   ·refine E_cf a7 rfl ?_
    refine E_exit ?_
    refine thn_e ?_
    refine thn_e ?_
    refine blk_hit ?_
    obtain rfl:=sinj h
    exact hQ _ _ ⟨z9,hfr,t8,v8,x8,a9⟩
  ·rintro _ bD jD ⟨eC, hfr, x6, i3, bA, u3, v7, i5, i6⟩ h
   obtain ⟨x5,hx,h⟩:=bsome h
   refine E_join (fun e w=>∃ (g:Gh) ,Fr gI wI g w∧e 1=p1∧PT g.m w (x0:BoxLoom) p1∧e 2=p2∧OB 2002 g w 76 (((⟨List.toArray [(⟨List.toArray [0,0,0,0],rfl⟩:Vector Int 4),(⟨List.toArray [0,0,0,0],rfl⟩:Vector Int 4)],rfl⟩:Vector (Vector Int 4) 2):Vector (Vector Int 4) 2):Vector (Vector Int 4) 2) p2∧e 3=p4∧OB 2003 g w 76 (x5:Vector (Vector Int 4) 2) p4∧e 4=.int .i64 (o0)) (fun Q' hQ=>?_) (fun cD kD hR=>?_)
   ·replace h := hx
    clear hx
    refine Zr ?_
    have i8:=Zm (part_BoxLoom_2).1 i3
    refine Zs (x:=.tmp 13) Try.isAgg23 Try.sizeOf23 i8 fun k8 d7 jB=>?_
    obtain ⟨l5,k9,h⟩:=bsome h
    have i7:=PT_idx d7 k9
    have l8:=Zm (part_BoxShuttle_1).1 i7
    refine Zs (x:=.tmp 17) Try.isAgg3 Try.sizeOf3 l8 fun lD iC lB=>?_
    obtain rfl:=Zj.1 iC
    have m8:=Zm (part_BoxLoom_2).1 i3
    refine Zs (x:=.tmp 19) Try.isAgg23 Try.sizeOf23 m8 fun n8 j7 mB=>?_
    obtain ⟨j6,l9,h⟩:=bsome h
    have m7:=PT_idx j7 l9
    have q8:=Zm (part_BoxShuttle_2).1 m7
    refine Zs (x:=.tmp 23) Try.isAgg3 Try.sizeOf3 q8 fun mD lC nB=>?_
    obtain rfl:=Zj.1 lC
    obtain ⟨y9,n9,h⟩:=bsome h
    obtain ⟨hi155,he155⟩:=vat_idx n9
    obtain ⟨vB,u9,h⟩:=bsome h
    obtain ⟨hi157,he157⟩:=vat_idx u9
    refine E_drawL (g:=eC) (n:=16) [] [0,1,2,3,4,5,6,7,8,9,10,11,12,13,14,15] rfl mixed (by kernel_rfl) trivial ?_
    refine L_p (fPtr p1 2) rfl rfl (Zc at_25_2 x6 (PT.ptr i3)) ?_
    refine L_ld (c:=k8) rfl rfl .plain (fun _ _ h=>h.ch) jB rfl ?_
    refine L_p (.int .i64 (o0)) rfl rfl (Zk i6) ?_
    refine L_p (ePtr k8 o0 5) rfl rfl (Zh (α:=BoxShuttle) Try.underlying23 Try.sizeOf87 rfl d7 rfl k9) ?_
    refine L_p (fPtr (ePtr k8 o0 5) 1) rfl rfl (Zc at_87_1 rfl (PT.ptr i7)) ?_
    refine L_ld (c:=.int .i64 ((l5).Side)) rfl rfl .plain (fun _ _ h=>h.ch) lB rfl ?_
    refine L_p (fPtr p1 2) rfl rfl (Zc at_25_2 x6 (PT.ptr i3)) ?_
    refine L_ld (c:=n8) rfl rfl .plain (fun _ _ h=>h.ch) mB rfl ?_
    refine L_p (.int .i64 (o0)) rfl rfl (Zk i6) ?_
    refine L_p (ePtr n8 o0 5) rfl rfl (Zh (α:=BoxShuttle) Try.underlying23 Try.sizeOf87 rfl j7 rfl l9) ?_
    refine L_p (fPtr (ePtr n8 o0 5) 2) rfl rfl (Zc at_87_2 rfl (PT.ptr m7)) ?_
    refine L_ld (c:=.int .i64 ((j6).Box)) rfl rfl .plain (fun _ _ h=>h.ch) nB rfl ?_
    refine L_p (.int .i64 (o0)) rfl rfl (Zk i6) ?_
    refine L_p (.int .i64 ((w64 (o0 + (1:Int))))) rfl rfl (P_int rfl rfl rfl) ?_
    refine L_p (fPtr p4 (((l5).Side:Int).toNat * 4)) rfl rfl (P_indexAddrA (α:=Vector Int 4) Try.underlying76 Try.sizeOf75 v7 (OB.ptr i5) rfl n9) ?_
    refine L_p (fPtr p4 ((((l5).Side:Int).toNat * 4) + ((j6).Box:Int).toNat * 1)) rfl rfl (P_indexAddrA2 (α:=Int) (o1:=(((l5).Side:Int).toNat * 4)) rfl Try.underlying75 Try.sizeOf3 rfl (OB.ptr i5) rfl u9) ?_
    refine L_nl fun mC nD hs=>?_
    have hfr:=hfr.ext hs
    have i3:=i3.ext hs
    have u3:=u3.ext hs
    have i5:=i5.ext hs
    have i8:=i8.ext hs
    have d7:=d7.ext hs
    have i7:=i7.ext hs
    have l8:=l8.ext hs
    have m8:=m8.ext hs
    have j7:=j7.ext hs
    have m7:=m7.ext hs
    have q8:=q8.ext hs
    clear hs
    refine Ze .plain rfl (D_storeFc (g:=mC) (SubS.at_ (SubS.dynC hi155 (SubS.dyn hi157) rfl) (by first | rfl | exact Nat.add_assoc _ _ _ | simp only [Nat.add_assoc,Nat.zero_add] | omega)) Try.sizeOf3 rfl i5 rfl (Zj.2 rfl) fun qC oD hs b179 rst hos=>?_)
    clear rst hos
    have hfr:=hfr.stp hs
    have i3:=i3.stp hs
    have u3:=u3.stp hs rfl
    refine Zb (blk_n ?_)
    obtain rfl:=sinj h
    exact hQ _ _ ⟨qC,hfr,x6,i3,bA,u3,v7,b179,i6⟩
   ·clear hx
    obtain ⟨rC,hfr,gA,iA,jA,mA,pA,qA,rA⟩:=hR
    refine Za (Zo rA rfl ?_)
    refine EL_in (.int .i64 ((w64 (o0 + (1:Int))))) rfl rfl rfl rfl ?_
    refine Zg (.int .i64 ((w64 (o0 + (1:Int))))) rfl rfl ?_
    exact Zb (Zd (yB (x5,(w64 (o0 + (1:Int)))) _ _ ⟨rC,hfr,gA,iA,jA,mA,pA,qA,rfl⟩ h))
 ·clear hx
  obtain ⟨yA,hfr,g8,aB,dB,iB⟩:=hR
  refine Zf (Za (Ze .plain rfl (D_loadO (g:=yA) Try.isAgg76 Try.sizeOf76 dB iB fun uC vC=>?_)))
  refine Ze .plain rfl (D_storeOc (g:=yA) (v:=uC) Try.sizeOf76 g8 aB rfl vC fun sD tD hs b183 cb=>?_)
  clear cb
  have hfr:=hfr.stp hs
  refine Zb (Zd (E_ret ?_))
  obtain rfl:=sinj h
  obtain ⟨ad184,cv184,hp184,oB,cr184⟩:=ob_read Try.isAgg76 Try.sizeOf76 b183
  exact endm_c rfl rfl ((show _=p2 from g8).trans hp184) oB ⟨_,hfr,cr184⟩
def f49 (x0:Int) (x1:Int):Option (BoxPick):=
 some ((⟨x0,x1⟩:BoxPick))
theorem en49:Enters Try.prog 49:=enters_of Try.func49 (by kernel_rfl) rfl
theorem wk49 {gI:Gh} {wI:World} {x0:Int} {x1:Int}  {r:BoxPick} (h:f49 x0 x1=some r):Fn Try.prog 49 #[.int .i64 (x0),.int .i64 (x1)] gI wI (fun m w v=>RV m w (r) v):=by
 unfold f49 at h
 refine fn_of_E Try.func49 rfl (Nat.le_of_ble_eq_true rfl) fun g0 hm hfr=>?_
 show E _ 8 none _ _ _ _ _
 refine Zf (Za (Ze .plain rfl (D_allocOc (g:=g0) 2004 (⟨0,0⟩:BoxPick) Try.zeroValue83 (fun m w=>⟨_,(rep_two rep_int rep_int),rfl⟩) fun g1 w1 p1 hs b1 cb=>?_)))
 have hfr:=hfr.stp hs
 clear cb
 refine Zb (Zd (Zf (Za (Zn (.int .i64 (x0)) rfl rfl ?_))))
 refine Zn (.int .i64 (x1)) rfl rfl ?_
 have r2:RV g1.m w1 (⟨x0,x1⟩:BoxPick) (.agg (setCh [[.int .i64 0],[.int .i64 0]] [(0,.int .i64 (x0)),(1,.int .i64 (x1))]).flatten.toArray):=RV_build rfl (rep_pair (rfl) (rep_last (rfl)))
 generalize hv2:(Value.agg (setCh [[.int .i64 0],[.int .i64 0]] [(0,.int .i64 (x0)),(1,.int .i64 (x1))]).flatten.toArray)=v2 at r2
 refine EL_p v2 (hv2 ▸ P_build (vs:=[(0,.int .i64 (x0)),(1,.int .i64 (x1))]) [[.int .i64 0],[.int .i64 0]] lay_83 rfl rfl (.cons rfl (.cons rfl .nil)) ⟨⟨_,rfl,rfl⟩,⟨⟨_,rfl,rfl⟩,trivial⟩⟩) rfl ?_
 refine Ze .plain rfl (D_storeOc (g:=g1) (v:=v2) Try.sizeOf83 rfl b1 rfl r2 fun g3 w3 hs b3 cb=>?_)
 clear cb
 have hfr:=hfr.stp hs
 refine Zb (Zd (E_ret ?_))
 obtain rfl:=sinj h
 obtain ⟨ad4,cv4,hp4,o0,cr4⟩:=ob_read Try.isAgg83 Try.sizeOf83 b3
 exact endm_c rfl rfl ((show _=p1 from rfl).trans hp4) o0 ⟨_,hfr,cr4⟩
def f50 (x0:BoxLoom):Option (BoxLoom):=
 (apnd 8 (([]:List Int)) ((x0).Boxes)).bind fun y7=>
 (apnd 8 (([]:List Int)) ((x0).At)).bind fun i3=>
 (apnd 40 (([]:List BoxShuttle)) ((x0).Shuttles)).bind fun u3=>
 some ((⟨y7,i3,u3⟩:BoxLoom))
theorem en50:Enters Try.prog 50:=enters_of Try.func50 (by kernel_rfl) rfl
theorem wk50 {gI:Gh} {wI:World} {x0:BoxLoom} {up0:Value} (rp0:RV gI.m wI x0 up0) {r:BoxLoom} (h:f50 x0=some r):Fn Try.prog 50 #[up0] gI wI (fun m w v=>RV m w (r) v):=by
 unfold f50 at h
 refine fn_of_E Try.func50 rfl (Nat.le_of_ble_eq_true rfl) fun g0 hm hfr=>?_
 have rp0:RV g0.m wI x0 up0:=hm ▸ rp0
 show E _ 16 none _ _ _ _ _
 refine Zf (Za (Ze .plain rfl (D_box (g:=g0) rfl rp0 fun g1 w1 p1 hs q1=>?_)))
 have hfr:=hfr.ext hs
 refine Ze .plain rfl (D_allocOc (g:=g1) 2002 (⟨[],[],[]⟩:BoxLoom) Try.zeroValue25 (fun m w=>⟨_,(rep_two rep_nil (rep_two rep_nil rep_nil)),rfl⟩) fun g2 w2 p2 hs b2 cb=>?_)
 have hfr:=hfr.stp hs
 have q1:=q1.stp hs
 have l9:OSF 2002 60200 0 g2 w2 3 25 ([]:List Int) p2:=cb.osf (by rfl)
 have n9:OSF 2002 60201 1 g2 w2 3 25 ([]:List Int) p2:=cb.osf (by rfl)
 have u9:OSF 2002 60202 2 g2 w2 87 25 ([]:List BoxShuttle) p2:=cb.osf (by rfl)
 clear cb
 refine Zb (Zd (Zf ?_))
 have q4:=Zm (part_BoxLoom_0).1 q1
 refine Zs (x:=.tmp 4) Try.isAgg22 Try.sizeOf22 q4 fun v5 r5 i8=>?_
 obtain ⟨y7,k8,h⟩:=bsome h
 have q9:=Zm (part_BoxLoom_1).1 q1
 refine Zs (x:=.tmp 8) Try.isAgg22 Try.sizeOf22 q9 fun l8 m8 i7=>?_
 obtain ⟨i3,j7,h⟩:=bsome h
 have n8:=Zm (part_BoxLoom_2).1 q1
 refine Zs (x:=.tmp 12) Try.isAgg23 Try.sizeOf23 n8 fun q8 r8 m7=>?_
 obtain ⟨u3,v7,h⟩:=bsome h
 refine E_drawL (g:=g2) (n:=12) [(0,(fun v g w=>RV g.m w ([]:List Int) v∧OS 3003 g w 3 ([]:List Int) v∧FullV v)),(3,(fun v g w=>RV g.m w y7 v∧OS 3003 g w 3 y7 v)),(4,(fun v g w=>RV g.m w ([]:List Int) v∧OS 3007 g w 3 ([]:List Int) v∧FullV v)),(7,(fun v g w=>RV g.m w i3 v∧OS 3007 g w 3 i3 v)),(8,(fun v g w=>RV g.m w ([]:List BoxShuttle) v∧OS 3011 g w 87 ([]:List BoxShuttle) v∧FullV v)),(11,(fun v g w=>RV g.m w u3 v∧OS 3011 g w 87 u3 v))] [0,1,2,3,4,5,6,7,8,9,10,11] rfl mixed (by kernel_rfl) (⟨fun _=>up_and up_rv (up_and up_os (up_eq _)),fun _=>up_and up_rv up_os,fun _=>up_and up_rv (up_and up_os (up_eq _)),fun _=>up_and up_rv up_os,fun _=>up_and up_rv (up_and up_os (up_eq _)),fun _=>up_and up_rv up_os,trivial⟩) ?_
 refine L_do (φ:=fun v g w=>RV g.m w ([]:List Int) v∧OS 3003 g w 3 ([]:List Int) v∧FullV v) rfl rfl .plain (fun g w hd=>D_buildSlice (g:=g) 3003 (xs:=([]:List Int)) (vs:=[]) Try.underlying22 Try.sizeOf3 Try.zeroValue3 rfl rfl .nil RVs.nil rfl rfl fun g' w' v hs o r hxt hfl=>⟨g',hxt,r,o,hfl⟩) (fun v3 hv=>?_)
 clear hv
 refine L_p (fPtr p1 0) rfl rfl (Zc at_25_0 rfl (PT.ptr q1)) ?_
 refine L_ld (c:=v5) rfl rfl .plain (fun _ _ h=>h.ch) i8 rfl ?_
 refine L_do (φ:=fun v g w=>RV g.m w y7 v∧OS 3003 g w 3 y7 v) rfl rfl .plain (fun g w hd=>D_append (g:=g) (i:=3003) Try.underlying22 info_3 rfl rfl (word (A:=fun g w=>RV g.m w ([]:List Int) v3∧OS 3003 g w 3 ([]:List Int) v3∧FullV v3) 0 rfl rfl (deps_of hd)).2.1 (word (A:=fun g w=>RV g.m w ([]:List Int) v3∧OS 3003 g w 3 ([]:List Int) v3∧FullV v3) 0 rfl rfl (deps_of hd)).1 rfl (r5.ext hd.1) k8 fun g' w' v hs o r hf=>⟨g',hf (word (A:=fun g w=>RV g.m w ([]:List Int) v3∧OS 3003 g w 3 ([]:List Int) v3∧FullV v3) 0 rfl rfl (deps_of hd)).2.2,r,o⟩) (fun v6 hv=>?_)
 clear hv
 refine L_do (φ:=fun v g w=>RV g.m w ([]:List Int) v∧OS 3007 g w 3 ([]:List Int) v∧FullV v) rfl rfl .plain (fun g w hd=>D_buildSlice (g:=g) 3007 (xs:=([]:List Int)) (vs:=[]) Try.underlying22 Try.sizeOf3 Try.zeroValue3 rfl rfl .nil RVs.nil rfl rfl fun g' w' v hs o r hxt hfl=>⟨g',hxt,r,o,hfl⟩) (fun v8 hv=>?_)
 clear hv
 refine L_p (fPtr p1 1) rfl rfl (Zc at_25_1 rfl (PT.ptr q1)) ?_
 refine L_ld (c:=l8) rfl rfl .plain (fun _ _ h=>h.ch) i7 rfl ?_
 refine L_do (φ:=fun v g w=>RV g.m w i3 v∧OS 3007 g w 3 i3 v) rfl rfl .plain (fun g w hd=>D_append (g:=g) (i:=3007) Try.underlying22 info_3 rfl rfl (word (A:=fun g w=>RV g.m w ([]:List Int) v8∧OS 3007 g w 3 ([]:List Int) v8∧FullV v8) 4 rfl rfl (deps_of hd)).2.1 (word (A:=fun g w=>RV g.m w ([]:List Int) v8∧OS 3007 g w 3 ([]:List Int) v8∧FullV v8) 4 rfl rfl (deps_of hd)).1 rfl (m8.ext hd.1) j7 fun g' w' v hs o r hf=>⟨g',hf (word (A:=fun g w=>RV g.m w ([]:List Int) v8∧OS 3007 g w 3 ([]:List Int) v8∧FullV v8) 4 rfl rfl (deps_of hd)).2.2,r,o⟩) (fun i5 hv=>?_)
 clear hv
 refine L_do (φ:=fun v g w=>RV g.m w ([]:List BoxShuttle) v∧OS 3011 g w 87 ([]:List BoxShuttle) v∧FullV v) rfl rfl .plain (fun g w hd=>D_buildSlice (g:=g) 3011 (xs:=([]:List BoxShuttle)) (vs:=[]) Try.underlying23 Try.sizeOf87 Try.zeroValue87 rfl rfl .nil RVs.nil rfl rfl fun g' w' v hs o r hxt hfl=>⟨g',hxt,r,o,hfl⟩) (fun o0 hv=>?_)
 clear hv
 refine L_p (fPtr p1 2) rfl rfl (Zc at_25_2 rfl (PT.ptr q1)) ?_
 refine L_ld (c:=q8) rfl rfl .plain (fun _ _ h=>h.ch) m7 rfl ?_
 refine L_do (φ:=fun v g w=>RV g.m w u3 v∧OS 3011 g w 87 u3 v) rfl rfl .plain (fun g w hd=>D_append (g:=g) (i:=3011) Try.underlying23 info_87 rfl rfl (word (A:=fun g w=>RV g.m w ([]:List BoxShuttle) o0∧OS 3011 g w 87 ([]:List BoxShuttle) o0∧FullV o0) 8 rfl rfl (deps_of hd)).2.1 (word (A:=fun g w=>RV g.m w ([]:List BoxShuttle) o0∧OS 3011 g w 87 ([]:List BoxShuttle) o0∧FullV o0) 8 rfl rfl (deps_of hd)).1 rfl (r8.ext hd.1) v7 fun g' w' v hs o r hf=>⟨g',hf (word (A:=fun g w=>RV g.m w ([]:List BoxShuttle) o0∧OS 3011 g w 87 ([]:List BoxShuttle) o0∧FullV o0) 8 rfl rfl (deps_of hd)).2.2,r,o⟩) (fun l5 hv=>?_)
 clear hv
 refine L_nil fun j6 y9 hall=>?_
 have hs:=hall.1
 have hfr:=hfr.ext hs
 have b2:=b2.ext hs
 have z9:=(word_all (A:=fun g w=>RV g.m w ([]:List Int) v3∧OS 3003 g w 3 ([]:List Int) v3∧FullV v3) 0 rfl hall).1
 have o22:=(word_all (A:=fun g w=>RV g.m w ([]:List Int) v3∧OS 3003 g w 3 ([]:List Int) v3∧FullV v3) 0 rfl hall).2.1
 have x5:=(word_all (A:=fun g w=>RV g.m w y7 v6∧OS 3003 g w 3 y7 v6) 3 rfl hall).1
 have o25:=(word_all (A:=fun g w=>RV g.m w y7 v6∧OS 3003 g w 3 y7 v6) 3 rfl hall).2
 have bA:=(word_all (A:=fun g w=>RV g.m w ([]:List Int) v8∧OS 3007 g w 3 ([]:List Int) v8∧FullV v8) 4 rfl hall).1
 have o26:=(word_all (A:=fun g w=>RV g.m w ([]:List Int) v8∧OS 3007 g w 3 ([]:List Int) v8∧FullV v8) 4 rfl hall).2.1
 have x6:=(word_all (A:=fun g w=>RV g.m w i3 i5∧OS 3007 g w 3 i3 i5) 7 rfl hall).1
 have o29:=(word_all (A:=fun g w=>RV g.m w i3 i5∧OS 3007 g w 3 i3 i5) 7 rfl hall).2
 have gA:=(word_all (A:=fun g w=>RV g.m w ([]:List BoxShuttle) o0∧OS 3011 g w 87 ([]:List BoxShuttle) o0∧FullV o0) 8 rfl hall).1
 have o30:=(word_all (A:=fun g w=>RV g.m w ([]:List BoxShuttle) o0∧OS 3011 g w 87 ([]:List BoxShuttle) o0∧FullV o0) 8 rfl hall).2.1
 have y6:=(word_all (A:=fun g w=>RV g.m w u3 l5∧OS 3011 g w 87 u3 l5) 11 rfl hall).1
 have o33:=(word_all (A:=fun g w=>RV g.m w u3 l5∧OS 3011 g w 87 u3 l5) 11 rfl hall).2
 clear hs hall
 have a7:RV j6.m _ (⟨y7,i3,u3⟩:BoxLoom) (.agg (setCh [[.slice none 0 0],[.slice none 0 0],[.slice none 0 0]] [(0,v6),(1,i5),(2,l5)]).flatten.toArray):=RV_build rfl (rep_pair (RV.cells x5) (rep_pair (RV.cells x6) (rep_last (RV.cells y6))))
 generalize i6:(Value.agg (setCh [[.slice none 0 0],[.slice none 0 0],[.slice none 0 0]] [(0,v6),(1,i5),(2,l5)]).flatten.toArray)=d7 at a7
 refine EL_p d7 (i6 ▸ P_build (vs:=[(0,v6),(1,i5),(2,l5)]) [[.slice none 0 0],[.slice none 0 0],[.slice none 0 0]] lay_25 rfl rfl (.cons rfl (.cons rfl (.cons rfl .nil))) ⟨⟨_,rfl,cells_size x5⟩,⟨⟨_,rfl,cells_size x6⟩,⟨⟨_,rfl,cells_size y6⟩,trivial⟩⟩⟩) rfl ?_
 refine Ze .plain rfl (D_storeOc (g:=j6) (v:=d7) Try.sizeOf25 rfl b2 rfl a7 fun t8 x8 hs b35 cb=>?_)
 obtain ⟨a9,d9,t5,_,_⟩:=RV_list x5
 have k9:OSF 2002 3003 0 t8 x8 3 25 (y7:List Int) p2:=cb.osfv (by rw [← i6,t5]; rfl) (o25.stp hs rfl)
 clear cb
 have hfr:=hfr.stp hs
 refine Zb (Zd (E_ret ?_))
 obtain rfl:=sinj h
 obtain ⟨ad36,cv36,hp36,g8,cr36⟩:=ob_read Try.isAgg25 Try.sizeOf25 b35
 exact endm_c rfl rfl ((show _=p2 from rfl).trans hp36) g8 ⟨_,hfr,cr36⟩
def f53 (x0:List Int):Option ((List (List Int))):=
 Option.bind (α:=(List (List Int))) (
  lp (σ:=(List (List Int)) × Int) (fun k19 (i6,o0)=>
   bif (decide (o0 < ((x0).length : Int))) then
    Option.bind (α:=(List (List Int))) (
     (idx x0 o0).bind fun x5=>
     (apnd 24 i6 (([([x5]:List Int)]:List (List Int)))).bind fun v8=>
     some (v8)
     ) fun l5=>
    k19 (l5,(w64 (o0 + (1:Int))))
   else
    some (i6)
   ) big ([],(0:Int))
  ) fun t5=>
 some (t5)
theorem en53:Enters Try.prog 53:=enters_of Try.func53 (by kernel_rfl) rfl
theorem wk53 {gI:Gh} {wI:World} {x0:List Int} {up0:Value} (rp0:RV gI.m wI x0 up0) {r:(List (List Int))} (h:f53 x0=some r):Fn Try.prog 53 #[up0] gI wI (fun m w v=>RV m w (r) v):=by
 unfold f53 at h
 refine fn_of_E Try.func53 rfl (Nat.le_of_ble_eq_true rfl) fun g0 hm hfr=>?_
 have rp0:RV g0.m wI x0 up0:=hm ▸ rp0
 show E _ 18 none _ _ _ _ _
 refine Zf (Za (Zg (.slice none 0 0) rfl rfl ?_))
 refine Zb (Zd ?_)
 obtain ⟨t5,hx,h⟩:=bsome h
 refine E_join (fun e w=>∃ (g:Gh) (v2:Value),Fr gI wI g w∧e 2=v2∧RV g.m w (t5:List (List Int)) v2∧OS 1002 g w 22 (t5:List (List Int)) v2) (fun Q' hQ=>?_) (fun pA yA hR=>?_)
 ·replace h := hx
  clear hx
  refine Zf (Za (Zn up0 rfl rfl ?_))
  refine EL_p (.int .i64 ((x0).length:Int)) (P_len Try.underlying22 rfl rp0) rfl ?_
  refine Zn (.int .i64 (0)) rfl rfl ?_
  refine Zb (Zd (Zr ?_))
  refine E_lp h (fun (s:(List (List Int)) × Int) e w=>∃ (g:Gh) (v2:Value),Fr gI wI g w∧e 2=v2∧RV g.m w (s.1:List (List Int)) v2∧OS 1002 g w 22 (s.1:List (List Int)) v2∧e 5=up0∧RV g.m w (x0:List Int) up0∧e 6=.int .i64 (((x0).length:Int))∧e 7=.int .i64 (s.2)) ⟨g0,(.slice none 0 0),hfr,rfl,RV_nil,OS.nil,rfl,rp0,rfl,rfl⟩ (fun X19 k19 a9=>?_)
  rintro ⟨i6,o0⟩ qA aB ⟨i7,m7,hfr,x6,u3,i5,y6,i3,a7,j6⟩ h
  refine Zf (Za (EL_in (.bool ((decide (o0 < ((x0).length:Int))))) j6 a7 rfl rfl ?_))
  refine Zb (Zd (Zf ?_))
  rcases Zt h with ⟨v6,h⟩ | ⟨v6,h⟩
  ·refine E_ct v6 rfl ?_
   refine Zu (Zd ?_)
   obtain ⟨l5,hx,h⟩:=bsome h
   refine E_join (fun e w=>∃ (g:Gh) (v2:Value),Fr gI wI g w∧e 2=v2∧RV g.m w (l5:List (List Int)) v2∧OS 1002 g w 22 (l5:List (List Int)) v2∧e 5=up0∧RV g.m w (x0:List Int) up0∧e 6=.int .i64 (((x0).length:Int))∧e 7=.int .i64 (o0)) (fun Q' hQ=>?_) (fun rA dB hR=>?_)
   ·replace h := hx
    clear hx
    refine Zr ?_
    refine Zf (Za ?_)
    obtain ⟨x5,j7,h⟩:=bsome h
    refine EL_p (ePtr up0 o0 1) (Zh (α:=Int) Try.underlying22 Try.sizeOf3 y6 i3 j6 j7) rfl ?_
    have k9:=PT_idx i3 j7
    refine Ze .plain rfl (D_load (g:=i7) Try.isAgg3 Try.sizeOf3 rfl k9 fun iB l9=>?_)
    obtain rfl:=Zj.1 l9
    refine Zg (.int .i64 (x5)) rfl rfl ?_
    refine Zb (Zd (Za (Zo x6 rfl ?_)))
    refine Zn (.int .i64 (x5)) rfl rfl ?_
    refine Ze .plain rfl (D_buildSlice (g:=i7) 3013 (xs:=([x5]:List Int)) (vs:=[.int .i64 (x5)]) Try.underlying22 Try.sizeOf3 Try.zeroValue3 rfl rfl (.cons rfl .nil) (RVs.cons (Zj.2 rfl) RVs.nil) rfl rfl fun n9 jB u9 hs o32 y9 hxt hfl=>?_)
    have hfr:=hfr.stp hs
    have u3:=u3.stp hs
    have i5:=i5.stp hs rfl
    have i3:=i3.stp hs
    refine Ze .plain rfl (D_buildSlice (g:=n9) 3014 (xs:=([([x5]:List Int)]:List (List Int))) (vs:=[u9]) Try.underlying42 Try.sizeOf22 Try.zeroValue22 rfl rfl (.cons rfl .nil) (RVs.cons y9 RVs.nil) rfl rfl fun z9 lB mB hs o33 bA hxt hfl=>?_)
    have hfr:=hfr.stp hs
    have u3:=u3.stp hs
    have i5:=i5.stp hs rfl
    have i3:=i3.stp hs
    obtain ⟨v8,d9,h⟩:=bsome h
    refine Ze .plain rfl (D_append (g:=z9) (i:=1002) Try.underlying42 info_22 rfl rfl i5 u3 rfl bA d9 fun gA nB x8 hs o34 iA _=>?_)
    have hfr:=hfr.stp hs
    have i3:=i3.stp hs
    refine Zg x8 rfl rfl ?_
    refine Zb (blk_n ?_)
    obtain rfl:=sinj h
    exact hQ _ _ ⟨gA,(x8),hfr,rfl,iA,o34,y6,i3,a7,j6⟩
   ·clear hx
    obtain ⟨jA,v7,hfr,g8,i8,k8,l8,m8,n8,q8⟩:=hR
    refine Za (EL_in (.int .i64 ((w64 (o0 + (1:Int))))) q8 rfl rfl rfl ?_)
    refine Zn (.int .i64 ((w64 (o0 + (1:Int))))) rfl rfl ?_
    exact Zb (Zd (a9 (l5,(w64 (o0 + (1:Int)))) _ _ ⟨jA,(v7),hfr,g8,i8,k8,l8,m8,n8,rfl⟩ h))
  ·refine E_cf v6 rfl ?_
   refine E_exit ?_
   refine thn_e ?_
   refine thn_e ?_
   refine blk_hit ?_
   obtain rfl:=sinj h
   exact hQ _ _ ⟨i7,(m7),hfr,x6,u3,i5⟩
 ·clear hx
  obtain ⟨oB,d7,hfr,r8,t8,mA⟩:=hR
  refine Zf (Za (Zo r8 rfl ?_))
  refine Zg d7 rfl rfl ?_
  refine Zb (Zd (E_ret ?_))
  obtain rfl:=sinj h
  exact end1 rfl rfl (show _=d7 from rfl) ⟨_,hfr,t8⟩
def f54 (x0:BoxBoxLoom) (x1:Int→BoxShuttle→Option Int):Option (BoxRace):=
 Option.bind (α:=BoxRace) (
  lp (σ:=BoxRace × Int) (fun mC (v6,o0)=>
   bif (decide (o0 < ((((x0).BoxLoom).Shuttles).length : Int))) then
    Option.bind (α:=BoxRace) (
     (idx (((x0).BoxLoom).Shuttles) o0).bind fun l5=>
     (x1 o0 l5).bind fun m7=>
     (idx ((v6).boxes).toList (l5).Side).bind fun u9=>
     (idx (u9).toList (l5).Box).bind fun y158=>
     some ({ v6 with boxes:=(vmod ((v6).boxes) ((l5).Side) (fun b=>(vset b ((l5).Box) m7))) })
     ) fun x6=>
    mC (x6,(w64 (o0 + (1:Int))))
   else
    some (v6)
   ) big ((⟨(⟨List.toArray [(⟨List.toArray [0,0,0,0],rfl⟩:Vector Int 4),(⟨List.toArray [0,0,0,0],rfl⟩:Vector Int 4)],rfl⟩:Vector (Vector Int 4) 2),⟨0,0⟩⟩:BoxRace),(0:Int))
  ) fun j7=>
 (idx (((x0).BoxLoom).At) (0:Int)).bind fun t5=>
 (idx (((x0).BoxLoom).At) (1:Int)).bind fun x5=>
 some ({ j7 with at_:=(⟨t5,x5⟩:BoxPick) })
theorem en54:Enters Try.prog 54:=enters_of Try.func54 (by kernel_rfl) rfl
theorem wk54 {gI:Gh} {wI:World} {x0:BoxBoxLoom} {x1:Int→BoxShuttle→Option Int} {up0:Value} (rp0:RV gI.m wI x0 up0) {up1:Value} (rp1:FnV2 Try.prog x1 up1 gI wI) {r:BoxRace} (h:f54 x0 x1=some r):Fn Try.prog 54 #[up0,up1] gI wI (fun m w v=>RV m w (r) v):=by
 unfold f54 at h
 refine fn_of_E Try.func54 rfl (Nat.le_of_ble_eq_true rfl) fun g0 hm hfr=>?_
 have rp0:RV g0.m wI x0 up0:=hm ▸ rp0
 obtain ⟨ff1,fa1,fc1,rfl,fen1,fcl1⟩:=rp1
 show E _ 41 none _ _ _ _ _
 refine Zf (Za (Ze .plain rfl (D_box (g:=g0) rfl rp0 fun g1 w1 p1 hs q1=>?_)))
 have hfr:=hfr.ext hs
 have rp0:=rp0.ext hs
 refine Ze .plain rfl (D_allocOc (g:=g1) 2004 (⟨(⟨List.toArray [(⟨List.toArray [0,0,0,0],rfl⟩:Vector Int 4),(⟨List.toArray [0,0,0,0],rfl⟩:Vector Int 4)],rfl⟩:Vector (Vector Int 4) 2),⟨0,0⟩⟩:BoxRace) Try.zeroValue108 (fun m w=>⟨_,(rep_two (rep_vec (flat_chunk (rep_vec (flat_chunk rep_int (flat_chunk rep_int (flat_chunk rep_int (flat_chunk rep_int flat_nil)))) rfl) (flat_chunk (rep_vec (flat_chunk rep_int (flat_chunk rep_int (flat_chunk rep_int (flat_chunk rep_int flat_nil)))) rfl) flat_nil)) rfl) (rep_two rep_int rep_int)),rfl⟩) fun g2 w2 p2 hs b2 cb=>?_)
 have hfr:=hfr.stp hs
 have rp0:=rp0.stp hs
 have q1:=q1.stp hs
 clear cb
 refine Zb (Zd ?_)
 obtain ⟨j7,hx,h⟩:=bsome h
 refine E_join (fun e w=>∃ (g:Gh) ,Fr gI wI g w∧e 2=p1∧PT g.m w (x0:BoxBoxLoom) p1∧e 4=p2∧OB 2004 g w 108 (j7:BoxRace) p2) (fun Q' hQ=>?_) (fun aE uC hR=>?_)
 ·replace h := hx
  clear hx
  refine Zf (Za (EL_p (fPtr p1 0) (Zc at_102_0 rfl (PT.ptr q1)) rfl ?_))
  have qC:=Zm (part_BoxBoxLoom_0).1 q1
  refine EL_p (fPtr (fPtr p1 0) 2) (Zc at_25_2 rfl (PT.ptr qC)) rfl ?_
  have zD:=Zm (part_BoxLoom_2).1 qC
  refine Ze .plain rfl (D_load (g:=g2) Try.isAgg23 Try.sizeOf23 rfl zD fun k8 rC=>?_)
  refine EL_p (.int .i64 ((((x0).BoxLoom).Shuttles).length:Int)) (P_len Try.underlying23 rfl rC) rfl ?_
  refine Zn (.int .i64 (0)) rfl rfl ?_
  refine Zb (Zd (Zr ?_))
  refine E_lp h (fun (s:BoxRace × Int) e w=>∃ (g:Gh) ,Fr gI wI g w∧e 1=(.func (.func ff1) fa1 fc1)∧e 2=p1∧PT g.m w (x0:BoxBoxLoom) p1∧e 4=p2∧OB 2004 g w 108 (s.1:BoxRace) p2∧e 9=k8∧RV g.m w (((x0).BoxLoom).Shuttles:List BoxShuttle) k8∧e 10=.int .i64 (((((x0).BoxLoom).Shuttles).length:Int))∧e 11=.int .i64 (s.2)) ⟨g2,hfr,rfl,rfl,q1,rfl,b2,rfl,rC,rfl,rfl⟩ (fun X98 mC vC=>?_)
  rintro ⟨v6,o0⟩ cE vE ⟨y9,hfr,q8,r8,i5,v7,i3,t8,u3,l8,y6⟩ h
  refine Zf (Za (EL_p (.bool ((decide (o0 < ((((x0).BoxLoom).Shuttles).length:Int))))) (P_int y6 l8 rfl) rfl ?_))
  refine Zb (Zd (Zf ?_))
  rcases Zt h with ⟨g8,h⟩ | ⟨g8,h⟩
  ·refine E_ct g8 rfl ?_
   refine Zu (Zd ?_)
   obtain ⟨x6,hx,h⟩:=bsome h
   refine E_join (fun e w=>∃ (g:Gh) ,Fr gI wI g w∧e 1=(.func (.func ff1) fa1 fc1)∧e 2=p1∧PT g.m w (x0:BoxBoxLoom) p1∧e 4=p2∧OB 2004 g w 108 (x6:BoxRace) p2∧e 9=k8∧RV g.m w (((x0).BoxLoom).Shuttles:List BoxShuttle) k8∧e 10=.int .i64 (((((x0).BoxLoom).Shuttles).length:Int))∧e 11=.int .i64 (o0)) (fun Q' hQ=>?_) (fun bE dE hR=>?_)
   ·replace h := hx
    clear hx
    refine Zr ?_
    refine Zf (Za (Zo y6 rfl ?_))
    obtain ⟨l5,v8,h⟩:=bsome h
    refine EL_p (ePtr k8 o0 5) (Zh (α:=BoxShuttle) Try.underlying23 Try.sizeOf87 t8 u3 y6 v8) rfl ?_
    have i6:=PT_idx u3 v8
    refine Ze .plain rfl (D_load (g:=y9) Try.isAgg87 Try.sizeOf87 rfl i6 fun aD j6=>?_)
    refine Ze .plain rfl (D_allocOc (g:=y9) 2006 (⟨0,0,0,⟨0,0⟩⟩:BoxShuttle) Try.zeroValue87 (fun m w=>⟨_,(rep_two rep_int (rep_two rep_int (rep_two rep_int (rep_two rep_int rep_int)))),rfl⟩) fun bD eE z9 hs b146 cb=>?_)
    have hfr:=hfr.stp hs
    have i5:=i5.stp hs
    have i3:=i3.stp hs rfl
    have u3:=u3.stp hs
    have i6:=i6.stp hs
    have j6:=j6.stp hs
    clear cb
    refine Zg (.int .i64 (o0)) rfl rfl ?_
    refine Ze .plain rfl (D_storeOc (g:=bD) (v:=aD) Try.sizeOf87 rfl b146 rfl j6 fun cD gE hs b147 cb=>?_)
    clear cb
    have hfr:=hfr.stp hs
    have i5:=i5.stp hs
    have i3:=i3.stp hs rfl
    have u3:=u3.stp hs
    have i6:=i6.stp hs
    have j6:=j6.stp hs
    refine Zb (Zd (L_loadO (x:=.tmp 16) part_BoxShuttle_1.1 Try.isAgg3 Try.sizeOf3 b147 fun iE eD oB=>?_))
    obtain rfl:=Zj.1 eD
    refine L_loadO (x:=.tmp 18) part_BoxShuttle_2.1 Try.isAgg3 Try.sizeOf3 b147 fun jE gD tB=>?_
    obtain rfl:=Zj.1 gD
    refine L_loadO0 (x:=.tmp 6) Try.isAgg87 Try.sizeOf87 b147 fun bA n8 vB=>?_
    obtain ⟨m7,yB,h⟩:=bsome h
    obtain ⟨u9,x8,h⟩:=bsome h
    obtain ⟨hi157,he157⟩:=vat_idx x8
    obtain ⟨y158,a9,h⟩:=bsome h
    obtain ⟨hi159,he159⟩:=vat_idx a9
    refine E_drawL (g:=cD) (n:=11) [(7,(fun v g w=>v=.int .i64 (m7)))] [0,1,2,3,4,5,6,7,8,9,10] rfl mixed (by kernel_rfl) (⟨fun _=>up_eq _,trivial⟩) ?_
    refine L_p (fPtr z9 1) rfl rfl (Zc at_87_1 rfl (OB.ptr b147)) ?_
    refine L_ld (c:=.int .i64 ((l5).Side)) rfl rfl .plain (fun _ _ h=>⟨h.ch,fun b hb _=>h.below.block b hb⟩) oB rfl ?_
    refine L_p (fPtr z9 2) rfl rfl (Zc at_87_2 rfl (OB.ptr b147)) ?_
    refine L_ld (c:=.int .i64 ((l5).Box)) rfl rfl .plain (fun _ _ h=>⟨h.ch,fun b hb _=>h.below.block b hb⟩) tB rfl ?_
    refine L_p ((.func (.func ff1) fa1 fc1)) rfl rfl (Zk q8) ?_
    refine L_p (.int .i64 (o0)) rfl rfl (Zk rfl) ?_
    refine L_ld (c:=bA) rfl rfl .plain (fun _ _ h=>⟨h.ch,fun b hb _=>h.below.block b hb⟩) vB rfl ?_
    refine L_do (φ:=fun v g w=>v=.int .i64 (m7)) rfl rfl .plain (fun g w hd=>D_callv (g:=g) (vs:=[.int .i64 (o0),bA]) rfl fen1 (.cons rfl (.cons rfl .nil)) (fcl1 _ _ (hfr.ext hd.1).ch _ _ _ _ _  (Zj.2 rfl) (n8.ext hd.1) yB) fun g' w' v hs hr=>⟨g',hs,Zj.1 hr⟩) (fun kE hv=>?_)
    obtain ⟨_,_,_,rfl⟩:=hv
    refine L_p (fPtr p2 0) rfl rfl (Zc at_108_0 v7 (OB.ptr i3)) ?_
    refine L_p (fPtr p2 (0 + ((l5).Side:Int).toNat * 4)) rfl rfl (P_indexAddrA2 (α:=Vector Int 4) (o1:=0) rfl Try.underlying76 Try.sizeOf75 rfl (OB.ptr i3) rfl x8) ?_
    refine L_p (fPtr p2 ((0 + ((l5).Side:Int).toNat * 4) + ((l5).Box:Int).toNat * 1)) rfl rfl (P_indexAddrA2 (α:=Int) (o1:=(0 + ((l5).Side:Int).toNat * 4)) rfl Try.underlying75 Try.sizeOf3 rfl (OB.ptr i3) rfl a9) ?_
    refine L_nl fun iD lE hs=>?_
    have hfr:=hfr.ext hs
    have i5:=i5.ext hs
    have i3:=i3.ext hs
    have u3:=u3.ext hs
    have i6:=i6.ext hs
    have j6:=j6.ext hs
    have b147:=b147.ext hs
    have n8:=n8.ext hs
    clear hs
    refine Ze .plain rfl (D_storeFc (g:=iD) (SubS.at_ (SubS.comp part_BoxRace_0 (SubS.dynC hi157 (SubS.dyn hi159) rfl) rfl) (by first | rfl | exact Nat.add_assoc _ _ _ | simp only [Nat.add_assoc,Nat.zero_add] | omega)) Try.sizeOf3 rfl i3 rfl (Zj.2 rfl) fun jD mE hs b184 rst hos=>?_)
    clear rst hos
    have hfr:=hfr.stp hs
    have i5:=i5.stp hs
    have u3:=u3.stp hs
    refine Zb (blk_n ?_)
    obtain rfl:=sinj h
    exact hQ _ _ ⟨jD,hfr,q8,r8,i5,v7,b184,t8,u3,l8,y6⟩
   ·clear hx
    obtain ⟨kD,hfr,gA,iA,jA,mA,pA,qA,rA,l9,n9⟩:=hR
    refine Za (EL_in (.int .i64 ((w64 (o0 + (1:Int))))) n9 rfl rfl rfl ?_)
    refine Zn (.int .i64 ((w64 (o0 + (1:Int))))) rfl rfl ?_
    exact Zb (Zd (vC (x6,(w64 (o0 + (1:Int)))) _ _ ⟨kD,hfr,gA,iA,jA,mA,pA,qA,rA,l9,rfl⟩ h))
  ·refine E_cf g8 rfl ?_
   refine E_exit ?_
   refine thn_e ?_
   refine thn_e ?_
   refine blk_hit ?_
   obtain rfl:=sinj h
   exact hQ _ _ ⟨y9,hfr,r8,i5,v7,i3⟩
 ·clear hx
  obtain ⟨yA,hfr,m8,a7,d7,i7⟩:=hR
  refine Zf ?_
  have aB:=Zm (part_BoxBoxLoom_0).1 a7
  have lD:=Zm (part_BoxLoom_1).1 aB
  refine Zs (x:=.tmp 29) Try.isAgg22 Try.sizeOf22 lD fun dB iB zB=>?_
  obtain ⟨t5,d9,h⟩:=bsome h
  have mD:=PT_idx iB d9
  refine Zs (x:=.tmp 31) Try.isAgg3 Try.sizeOf3 mD fun nE nD aC=>?_
  obtain rfl:=Zj.1 nD
  have jB:=Zm (part_BoxBoxLoom_0).1 a7
  have oD:=Zm (part_BoxLoom_1).1 jB
  refine Zs (x:=.tmp 34) Try.isAgg22 Try.sizeOf22 oD fun lB mB cC=>?_
  obtain ⟨x5,k9,h⟩:=bsome h
  have sD:=PT_idx mB k9
  refine Zs (x:=.tmp 36) Try.isAgg3 Try.sizeOf3 sD fun oE tD eC=>?_
  obtain rfl:=Zj.1 tD
  have i8:RV yA.m uC (⟨t5,x5⟩:BoxPick) (.agg (setCh [[.int .i64 0],[.int .i64 0]] [(0,.int .i64 (t5)),(1,.int .i64 (x5))]).flatten.toArray):=RV_build rfl (rep_pair (rfl) (rep_last (rfl)))
  generalize iC:(Value.agg (setCh [[.int .i64 0],[.int .i64 0]] [(0,.int .i64 (t5)),(1,.int .i64 (x5))]).flatten.toArray)=uD at i8
  refine E_drawL (g:=yA) (n:=12) [] [0,1,2,3,4,5,6,7,8,9,10,11] rfl mixed (by kernel_rfl) trivial ?_
  refine L_p (fPtr p1 0) rfl rfl (Zc at_102_0 m8 (PT.ptr a7)) ?_
  refine L_p (fPtr (fPtr p1 0) 1) rfl rfl (Zc at_25_1 rfl (PT.ptr aB)) ?_
  refine L_ld (c:=dB) rfl rfl .plain (fun _ _ h=>h.ch) zB rfl ?_
  refine L_p (ePtr dB (0:Int) 1) rfl rfl (Zh (α:=Int) Try.underlying22 Try.sizeOf3 rfl iB rfl d9) ?_
  refine L_ld (c:=.int .i64 (t5)) rfl rfl .plain (fun _ _ h=>h.ch) aC rfl ?_
  refine L_p (fPtr p1 0) rfl rfl (Zc at_102_0 m8 (PT.ptr a7)) ?_
  refine L_p (fPtr (fPtr p1 0) 1) rfl rfl (Zc at_25_1 rfl (PT.ptr jB)) ?_
  refine L_ld (c:=lB) rfl rfl .plain (fun _ _ h=>h.ch) cC rfl ?_
  refine L_p (ePtr lB (1:Int) 1) rfl rfl (Zh (α:=Int) Try.underlying22 Try.sizeOf3 rfl mB rfl k9) ?_
  refine L_ld (c:=.int .i64 (x5)) rfl rfl .plain (fun _ _ h=>h.ch) eC rfl ?_
  refine L_p uD rfl rfl (iC ▸ P_build (vs:=[(0,.int .i64 (t5)),(1,.int .i64 (x5))]) [[.int .i64 0],[.int .i64 0]] lay_83 rfl rfl (.cons rfl (.cons rfl .nil)) ⟨⟨_,rfl,rfl⟩,⟨⟨_,rfl,rfl⟩,trivial⟩⟩) ?_
  refine L_p (fPtr p2 8) rfl rfl (Zc at_108_1 d7 (OB.ptr i7)) ?_
  refine L_nl fun vD rE hs=>?_
  have hfr:=hfr.ext hs
  have i7:=i7.ext hs
  have i8:=i8.ext hs
  clear hs
  refine Ze .plain rfl (D_storeFc (g:=vD) part_BoxRace_1 Try.sizeOf83 rfl i7 rfl i8 fun nB sE hs b216 rst hos=>?_)
  clear rst hos
  have hfr:=hfr.stp hs
  refine Zb (Zd (Zf (Za (Ze .plain rfl (D_loadO (g:=nB) Try.isAgg108 Try.sizeOf108 d7 b216 fun xD yD=>?_)))))
  refine Ze .plain rfl (D_storeOc (g:=nB) (v:=xD) Try.sizeOf108 d7 b216 rfl yD fun tE uE hs b218 cb=>?_)
  clear cb
  have hfr:=hfr.stp hs
  refine Zb (Zd (E_ret ?_))
  obtain rfl:=sinj h
  obtain ⟨ad219,cv219,hp219,lC,cr219⟩:=ob_read Try.isAgg108 Try.sizeOf108 b218
  exact endm_c rfl rfl ((show _=p2 from d7).trans hp219) lC ⟨_,hfr,cr219⟩
def f55 (x0:Int) (x1:BoxShuttle):Option (Int):=
 some ((w64 ((x1).Colour + (1:Int))))
theorem en55:Enters Try.prog 55:=enters_of Try.func55 (by kernel_rfl) rfl
theorem wk55 {gI:Gh} {wI:World} {x0:Int} {x1:BoxShuttle} {up1:Value} (rp1:RV gI.m wI x1 up1) {r:Int} (h:f55 x0 x1=some r):Fn Try.prog 55 #[.int .i64 (x0),up1] gI wI (fun _ _ v=>v=.int .i64 (r)):=by
 unfold f55 at h
 refine fn_of_E Try.func55 rfl (Nat.le_of_ble_eq_true rfl) fun g0 hm hfr=>?_
 have rp1:RV g0.m wI x1 up1:=hm ▸ rp1
 show E _ 8 none _ _ _ _ _
 refine Zf (Za (Ze .plain rfl (D_box (g:=g0) rfl rp1 fun g1 w1 p1 hs q1=>?_)))
 have hfr:=hfr.ext hs
 refine Zg (.int .i64 (0)) rfl rfl ?_
 refine Zb (Zd (Zf (Za (EL_p (fPtr p1 0) (Zc at_87_0 rfl (PT.ptr q1)) rfl ?_))))
 have q2:=Zm (part_BoxShuttle_0).1 q1
 refine Ze .plain rfl (D_load (g:=g1) Try.isAgg3 Try.sizeOf3 rfl q2 fun v3 r3=>?_)
 obtain rfl:=Zj.1 r3
 refine EL_in (.int .i64 ((w64 ((x1).Colour + (1:Int))))) rfl rfl rfl rfl ?_
 refine Zg (.int .i64 ((w64 ((x1).Colour + (1:Int))))) rfl rfl ?_
 refine Zb (Zd (E_ret ?_))
 obtain rfl:=sinj h
 exact end1 rfl rfl (show _=.int .i64 ((w64 ((x1).Colour + (1:Int)))) from rfl) ⟨_,hfr,rfl⟩
def f56 (x0:BoxBoxLoom):Option (BoxMill):=
 (idx (((x0).BoxLoom).Boxes) (0:Int)).bind fun y5=>
 (idx (((x0).BoxLoom).Boxes) (1:Int)).bind fun y11=>
 some ((⟨y5,y11,⟨⟩⟩:BoxMill))
theorem en56:Enters Try.prog 56:=enters_of Try.func56 (by kernel_rfl) rfl
def f65 (x0:BoxPoint) (x1:List (List Int)):Option (BoxPoint):=
 Option.bind (α:=BoxPoint) (
  lp (σ:=BoxPoint) (fun r8 o0=>
   jn (σ:=Unit) (fun _=>
    r8 ({ { o0 with group:=(w64 ((o0).group + (1:Int))) } with done:=(0:Int) })
    ) fun t8=>
   Option.bind (α:=Bool) (
    bif (decide ((o0).group < ((x1).length : Int))) then
     (idx x1 (o0).group).bind fun m8=>
     (shl64 (1:Int) ((m8).length:Int)).bind fun a7=>
     some (((o0).done == (w64 (a7 - (1:Int)))))
    else
     some (false)
    ) fun l5=>
   bif l5 then
    t8 ()
   else
    some (o0)
   ) big (x0)
  ) fun d7=>
 some (d7)
theorem en65:Enters Try.prog 65:=enters_of Try.func65 (by kernel_rfl) rfl
theorem wk65 {gI:Gh} {wI:World} {x0:BoxPoint} {x1:List (List Int)} {up0:Value} (rp0:RV gI.m wI x0 up0) {up1:Value} (rp1:RV gI.m wI x1 up1) {r:BoxPoint} (h:f65 x0 x1=some r):Fn Try.prog 65 #[up0,up1] gI wI (fun m w v=>RV m w (r) v):=by
 unfold f65 at h
 refine fn_of_E Try.func65 rfl (Nat.le_of_ble_eq_true rfl) fun g0 hm hfr=>?_
 have rp0:RV g0.m wI x0 up0:=hm ▸ rp0
 have rp1:RV g0.m wI x1 up1:=hm ▸ rp1
 show E _ 29 none _ _ _ _ _
 refine Zf (Za (Ze .plain rfl (D_boxO (g:=g0) 2002 rfl rp0 fun g1 w1 p1 hs b1=>?_)))
 have hfr:=hfr.stp hs
 have rp1:=rp1.stp hs
 refine Ze .plain rfl (D_allocOc (g:=g1) 2004 (⟨0,0,⟨(⟨List.toArray [(⟨List.toArray [0,0,0,0],rfl⟩:Vector Int 4),(⟨List.toArray [0,0,0,0],rfl⟩:Vector Int 4)],rfl⟩:Vector (Vector Int 4) 2),⟨0,0⟩⟩⟩:BoxPoint) Try.zeroValue112 (fun m w=>⟨_,(rep_two rep_int (rep_two rep_int (rep_two (rep_vec (flat_chunk (rep_vec (flat_chunk rep_int (flat_chunk rep_int (flat_chunk rep_int (flat_chunk rep_int flat_nil)))) rfl) (flat_chunk (rep_vec (flat_chunk rep_int (flat_chunk rep_int (flat_chunk rep_int (flat_chunk rep_int flat_nil)))) rfl) flat_nil)) rfl) (rep_two rep_int rep_int)))),rfl⟩) fun g2 w2 p2 hs b2 cb=>?_)
 have hfr:=hfr.stp hs
 have rp1:=rp1.stp hs
 have b1:=b1.stp hs rfl
 clear cb
 refine Zb (Zd ?_)
 obtain ⟨d7,hx,h⟩:=bsome h
 refine E_join (fun e w=>∃ (g:Gh) ,Fr gI wI g w∧e 2=p1∧OB 2002 g w 112 (d7:BoxPoint) p1∧e 4=p2∧OB 2004 g w 112 ((⟨0,0,⟨(⟨List.toArray [(⟨List.toArray [0,0,0,0],rfl⟩:Vector Int 4),(⟨List.toArray [0,0,0,0],rfl⟩:Vector Int 4)],rfl⟩:Vector (Vector Int 4) 2),⟨0,0⟩⟩⟩:BoxPoint):BoxPoint) p2) (fun Q' hQ=>?_) (fun aC lC hR=>?_)
 ·replace h := hx
  clear hx
  refine Zr ?_
  refine E_lp h (fun (s:BoxPoint) e w=>∃ (g:Gh) ,Fr gI wI g w∧e 1=up1∧RV g.m w (x1:List (List Int)) up1∧e 2=p1∧OB 2002 g w 112 (s:BoxPoint) p1∧e 4=p2∧OB 2004 g w 112 ((⟨0,0,⟨(⟨List.toArray [(⟨List.toArray [0,0,0,0],rfl⟩:Vector Int 4),(⟨List.toArray [0,0,0,0],rfl⟩:Vector Int 4)],rfl⟩:Vector (Vector Int 4) 2),⟨0,0⟩⟩⟩:BoxPoint):BoxPoint) p2) ⟨g2,hfr,rfl,rp1,rfl,b1,rfl,b2⟩ (fun X238 r8 gA=>?_)
  rintro o0 cC mC ⟨v8,hfr,i6,i5,t5,i3,m7,x5⟩ h
  refine Zq h (fun (s:Unit) e w=>∃ (g:Gh) ,Fr gI wI g w∧e 1=up1∧RV g.m w (x1:List (List Int)) up1∧e 2=p1∧OB 2002 g w 112 (o0:BoxPoint) p1∧e 4=p2∧OB 2004 g w 112 ((⟨0,0,⟨(⟨List.toArray [(⟨List.toArray [0,0,0,0],rfl⟩:Vector Int 4),(⟨List.toArray [0,0,0,0],rfl⟩:Vector Int 4)],rfl⟩:Vector (Vector Int 4) 2),⟨0,0⟩⟩⟩:BoxPoint):BoxPoint) p2) (fun X352 t8 iA h=>?_) ?_
  ·obtain ⟨l5, hx, h⟩ := bsome h
   refine E_join (fun e w=>∃ (g:Gh) ,Fr gI wI g w∧e 1=up1∧RV g.m w (x1:List (List Int)) up1∧e 2=p1∧OB 2002 g w 112 (o0:BoxPoint) p1∧e 4=p2∧OB 2004 g w 112 ((⟨0,0,⟨(⟨List.toArray [(⟨List.toArray [0,0,0,0],rfl⟩:Vector Int 4),(⟨List.toArray [0,0,0,0],rfl⟩:Vector Int 4)],rfl⟩:Vector (Vector Int 4) 2),⟨0,0⟩⟩⟩:BoxPoint):BoxPoint) p2∧e 22=.bool (l5)) (fun Q' hQ=>?_) (fun eC qC hR=>?_)
   ·replace h := hx
    clear hx
    refine L_loadO (x:=.tmp 5) part_BoxPoint_0.1 Try.isAgg3 Try.sizeOf3 i3 fun rC yA n8=>?_
    obtain rfl:=Zj.1 yA
    rcases Zt h with ⟨u3,h⟩ | ⟨u3,h⟩
    ·refine L_loadO (x := .tmp 11) part_BoxPoint_1.1 Try.isAgg3 Try.sizeOf3 i3 fun uC aB jA => ?_
     obtain rfl:=Zj.1 aB
     refine L_loadO (x:=.tmp 14) part_BoxPoint_0.1 Try.isAgg3 Try.sizeOf3 i3 fun vC dB mA=>?_
     obtain rfl:=Zj.1 dB
     obtain ⟨m8,q8,h⟩:=bsome h
     have iB:=PT_idx i5 q8
     refine Zs (x:=.tmp 16) Try.isAgg22 Try.sizeOf22 iB fun jB lB pA=>?_
     obtain ⟨a7,qA,h⟩:=bsome h
     refine E_drawL (g:=v8) (n:=18) [] [0,1,2,3,4,5,6,7,8,9,10,11,12,13,14,15,16,17] rfl mixed (by kernel_rfl) trivial ?_
     refine L_p (fPtr p1 0) rfl rfl (Zc at_112_0 t5 (OB.ptr i3)) ?_
     refine L_ld (c:=.int .i64 ((o0).group)) rfl rfl .plain (fun _ _ h=>⟨h.ch,fun b hb _=>h.below.block b hb⟩) n8 rfl ?_
     refine L_p up1 rfl rfl (Zk i6) ?_
     refine L_p (.int .i64 ((x1).length:Int)) rfl rfl (P_len Try.underlying42 rfl i5) ?_
     refine L_p (.bool ((decide ((o0).group < ((x1).length:Int))))) rfl rfl (P_int rfl rfl rfl) ?_
     refine L_p (.bool ((decide ((o0).group < ((x1).length:Int))))) rfl rfl (Zk rfl) ?_
     refine L_y (fPtr p1 1) rfl rfl rfl rfl u3 (Zc at_112_1 t5 (OB.ptr i3)) ?_
     refine L_ld (c:=.int .i64 ((o0).done)) rfl rfl (.yes2 rfl rfl u3) (fun _ _ h=>⟨h.ch,fun b hb _=>h.below.block b hb⟩) jA rfl ?_
     refine L_y up1 rfl rfl rfl rfl u3 (Zk i6) ?_
     refine L_y (fPtr p1 0) rfl rfl rfl rfl u3 (Zc at_112_0 t5 (OB.ptr i3)) ?_
     refine L_ld (c:=.int .i64 ((o0).group)) rfl rfl (.yes2 rfl rfl u3) (fun _ _ h=>⟨h.ch,fun b hb _=>h.below.block b hb⟩) mA rfl ?_
     refine L_y (ePtr up1 (o0).group 1) rfl rfl rfl rfl u3 (Zh (α:=List Int) Try.underlying42 Try.sizeOf22 rfl i5 rfl q8) ?_
     refine L_ld (c:=jB) rfl rfl (.yes2 rfl rfl u3) (fun _ _ h=>h.ch) pA rfl ?_
     refine L_y (.int .i64 ((m8).length:Int)) rfl rfl rfl rfl u3 (P_len Try.underlying22 rfl lB) ?_
     refine L_y (.int .i64 (a7)) rfl rfl rfl rfl u3 (P_int rfl rfl (congrArg (Option.map (Value.int .i64)) qA)) ?_
     refine L_y (.int .i64 ((w64 (a7 - (1:Int))))) rfl rfl rfl rfl u3 (P_int rfl rfl rfl) ?_
     refine L_y (.bool (((o0).done == (w64 (a7 - (1:Int)))))) rfl rfl rfl rfl u3 (P_int rfl rfl rfl) ?_
     refine L_p (.bool (((o0).done == (w64 (a7 - (1:Int)))))) rfl rfl (Zl (b:=(decide ((o0).group < ((x1).length:Int)))) rfl (pick_t u3 rfl)) ?_
     refine L_nl fun mB aD hs=>?_
     have hfr:=hfr.ext hs
     have i5:=i5.ext hs
     have i3:=i3.ext hs
     have x5:=x5.ext hs
     clear hs
     refine Zb ?_
     obtain rfl:=sinj h
     exact hQ _ _ ⟨mB,hfr,i6,i5,t5,i3,m7,x5,rfl⟩
    ·refine E_drawL (g := v8) (n := 18) [] [0, 1, 2, 3, 4, 5, 6, 7, 8, 9, 10, 11, 12, 13, 14, 15, 16, 17] rfl mixed (by kernel_rfl) trivial ?_
     refine L_p (fPtr p1 0) rfl rfl (Zc at_112_0 t5 (OB.ptr i3)) ?_
     refine L_ld (c:=.int .i64 ((o0).group)) rfl rfl .plain (fun _ _ h=>⟨h.ch,fun b hb _=>h.below.block b hb⟩) n8 rfl ?_
     refine L_p up1 rfl rfl (Zk i6) ?_
     refine L_p (.int .i64 ((x1).length:Int)) rfl rfl (P_len Try.underlying42 rfl i5) ?_
     refine L_p (.bool ((decide ((o0).group < ((x1).length:Int))))) rfl rfl (P_int rfl rfl rfl) ?_
     refine L_p (.bool ((decide ((o0).group < ((x1).length:Int))))) rfl rfl (Zk rfl) ?_
     iterate 11 refine L_s rfl rfl rfl u3 rfl ?_
     refine L_p (.bool false) rfl rfl (Zl (b:=(decide ((o0).group < ((x1).length:Int)))) rfl (pick_f u3 rfl)) ?_
     refine L_nl fun nB bD hs=>?_
     have hfr:=hfr.ext hs
     have i5:=i5.ext hs
     have i3:=i3.ext hs
     have x5:=x5.ext hs
     clear hs
     refine Zb ?_
     obtain rfl:=sinj h
     exact hQ _ _ ⟨nB,hfr,i6,i5,t5,i3,m7,x5,rfl⟩
   ·clear hx
    obtain ⟨x8,hfr,a9,d9,v7,g8,i8,k8,i7⟩:=hR
    rcases Zt h with ⟨j7,h⟩ | ⟨j7,h⟩
    ·refine E_cond_true (Eq.trans (show ev _ _ = .bool (l5) from i7) (congrArg Value.bool j7)) ?_
     exact Zu (Zd (iA () _ _ ⟨x8,hfr,a9,d9,v7,g8,i8,k8⟩ h))
    ·refine E_cond_false (Eq.trans (show ev _ _ = .bool (l5) from i7) (congrArg Value.bool j7)) ?_
     refine E_exit ?_
     refine thn_e ?_
     refine thn_e ?_
     refine blk_hit ?_
     obtain rfl:=sinj h
     exact hQ _ _ ⟨x8,hfr,v7,g8,i8,k8⟩
  ·rintro _ iC cD ⟨k9, hfr, l9, j6, x6, y6, n9, v6⟩ h
   refine Zr ?_
   refine Za (EL_p (fPtr p1 0) (Zc at_112_0 x6 (OB.ptr y6)) rfl ?_)
   refine Ze .plain rfl (D_loadF (g:=k9) part_BoxPoint_0.1 Try.isAgg3 Try.sizeOf3 rfl y6 fun eD oB=>?_)
   obtain rfl:=Zj.1 oB
   refine EL_in (.int .i64 ((w64 ((o0).group + (1:Int))))) rfl rfl rfl rfl ?_
   refine EL_p (fPtr p1 0) (Zc at_112_0 x6 (OB.ptr y6)) rfl ?_
   refine Ze .plain rfl (D_storeFc (g:=k9) part_BoxPoint_0 Try.sizeOf3 rfl y6 rfl (Zj.2 rfl) fun tB gD hs b469 rst hos=>?_)
   clear rst hos
   have hfr:=hfr.stp hs
   have j6:=j6.stp hs
   have v6:=v6.stp hs rfl
   refine EL_p (fPtr p1 1) (Zc at_112_1 x6 (OB.ptr b469)) rfl ?_
   refine Ze .plain rfl (D_storeFc (g:=tB) part_BoxPoint_1 Try.sizeOf3 rfl b469 rfl (Zj.2 rfl) fun vB iD hs b471 rst hos=>?_)
   clear rst hos
   have hfr:=hfr.stp hs
   have j6:=j6.stp hs
   have v6:=v6.stp hs rfl
   exact Zb (blk_n (Zd (gA ({ { o0 with group:=(w64 ((o0).group + (1:Int))) } with done:=(0:Int) }) _ _ ⟨vB,hfr,l9,j6,x6,b471,n9,v6⟩ h)))
 ·clear hx
  obtain ⟨u9,hfr,y9,z9,l8,bA⟩:=hR
  refine Zf (Za (Ze .plain rfl (D_loadO (g:=u9) Try.isAgg112 Try.sizeOf112 y9 z9 fun yB zB=>?_)))
  refine Ze .plain rfl (D_storeOc (g:=u9) (v:=yB) Try.sizeOf112 l8 bA rfl zB fun jD kD hs b474 cb=>?_)
  clear cb
  have hfr:=hfr.stp hs
  refine Zb (Zd (E_ret ?_))
  obtain rfl:=sinj h
  obtain ⟨ad475,cv475,hp475,rA,cr475⟩:=ob_read Try.isAgg112 Try.sizeOf112 b474
  exact endm_c rfl rfl ((show _=p2 from l8).trans hp475) rA ⟨_,hfr,cr475⟩
def f75 (x0:Int) (x1:BoxShuttle):Option (Int):=
 some ((w64 (x0 + (1:Int))))
theorem en75:Enters Try.prog 75:=enters_of Try.func75 (by kernel_rfl) rfl
theorem wk75 {gI:Gh} {wI:World} {x0:Int} {x1:BoxShuttle} {up1:Value} (rp1:RV gI.m wI x1 up1) {r:Int} (h:f75 x0 x1=some r):Fn Try.prog 75 #[.int .i64 (x0),up1] gI wI (fun _ _ v=>v=.int .i64 (r)):=by
 unfold f75 at h
 refine fn_of_E Try.func75 rfl (Nat.le_of_ble_eq_true rfl) fun g0 hm hfr=>?_
 have rp1:RV g0.m wI x1 up1:=hm ▸ rp1
 show E _ 7 none _ _ _ _ _
 refine Zf (Za (Ze .plain rfl (D_box (g:=g0) rfl rp1 fun g1 w1 p1 hs q1=>?_)))
 have hfr:=hfr.ext hs
 refine Zg (.int .i64 (0)) rfl rfl ?_
 refine Zb (Zd (Zf (Za (Zn (.int .i64 (x0)) rfl rfl ?_))))
 refine EL_in (.int .i64 ((w64 (x0 + (1:Int))))) rfl rfl rfl rfl ?_
 refine Zg (.int .i64 ((w64 (x0 + (1:Int))))) rfl rfl ?_
 refine Zb (Zd (E_ret ?_))
 obtain rfl:=sinj h
 exact end1 rfl rfl (show _=.int .i64 ((w64 (x0 + (1:Int)))) from rfl) ⟨_,hfr,rfl⟩
def f88 (x0:BoxPoint) (x1:List (List Int)) (x2:BoxStep):Option (BoxPoint × Bool):=
 jn (σ:=BoxPoint × BoxPoint) (fun (k9,dB)=>
  some (k9,false)
  ) fun iB=>
 (idx x1 (x0).group).bind fun t5=>
 lp (σ:=BoxPoint × BoxPoint × Int) (fun jB (i3,j6,o0)=>
  bif (decide (o0 < ((t5).length : Int))) then
   jn (σ:=BoxPoint × BoxPoint) (fun (l8,m8)=>
    jB (l8,m8,(w64 (o0 + (1:Int))))
    ) fun lB=>
   (idx t5 o0).bind fun y6=>
   Option.bind (α:=Bool) (
    bif (y6 == (x2).colour) then
     (shr64 (i3).done o0).bind fun y180=>
     some (((bit64 .and y180 (1:Int)) == (0:Int)))
    else
     some (false)
    ) fun v6=>
   bif v6 then
    (shl64 (1:Int) o0).bind fun x8=>
    (f65 ({ { i3 with done:=(bit64 .or (i3).done x8) } with race:=(x2).next }) x1).bind fun mB=>
    some (mB,true)
   else
    lB (i3,j6)
  else
   iB (i3,j6)
  ) big (x0,(⟨0,0,⟨(⟨List.toArray [(⟨List.toArray [0,0,0,0],rfl⟩:Vector Int 4),(⟨List.toArray [0,0,0,0],rfl⟩:Vector Int 4)],rfl⟩:Vector (Vector Int 4) 2),⟨0,0⟩⟩⟩:BoxPoint),(0:Int))
theorem en88:Enters Try.prog 88:=enters_of Try.func88 (by kernel_rfl) rfl
theorem wk88 {gI:Gh} {wI:World} {x0:BoxPoint} {x1:List (List Int)} {x2:BoxStep} {up0:Value} (rp0:RV gI.m wI x0 up0) {up1:Value} (rp1:RV gI.m wI x1 up1) {up2:Value} (rp2:RV gI.m wI x2 up2) {r:BoxPoint × Bool} (h:f88 x0 x1 x2=some r):Fn Try.prog 88 #[up0,up1,up2] gI wI (fun m w v=>∃ y0 y1,v=.tuple #[y0,y1]∧RV m w (r.1) y0∧y1=.bool (r.2)):=by
 unfold f88 at h
 refine fn_of_E Try.func88 rfl (Nat.le_of_ble_eq_true rfl) fun g0 hm hfr=>?_
 have rp0:RV g0.m wI x0 up0:=hm ▸ rp0
 have rp1:RV g0.m wI x1 up1:=hm ▸ rp1
 have rp2:RV g0.m wI x2 up2:=hm ▸ rp2
 show E _ 47 none _ _ _ _ _
 refine Zf (Za (Ze .plain rfl (D_boxO (g:=g0) 2003 rfl rp0 fun g1 w1 p1 hs b1=>?_)))
 have hfr:=hfr.stp hs
 have rp1:=rp1.stp hs
 have rp2:=rp2.stp hs
 refine Ze .plain rfl (D_box (g:=g1) rfl rp2 fun g2 w2 p2 hs q2=>?_)
 have hfr:=hfr.ext hs
 have rp1:=rp1.ext hs
 have b1:=b1.ext hs
 refine Ze .plain rfl (D_allocOc (g:=g2) 2006 (⟨0,0,⟨(⟨List.toArray [(⟨List.toArray [0,0,0,0],rfl⟩:Vector Int 4),(⟨List.toArray [0,0,0,0],rfl⟩:Vector Int 4)],rfl⟩:Vector (Vector Int 4) 2),⟨0,0⟩⟩⟩:BoxPoint) Try.zeroValue112 (fun m w=>⟨_,(rep_two rep_int (rep_two rep_int (rep_two (rep_vec (flat_chunk (rep_vec (flat_chunk rep_int (flat_chunk rep_int (flat_chunk rep_int (flat_chunk rep_int flat_nil)))) rfl) (flat_chunk (rep_vec (flat_chunk rep_int (flat_chunk rep_int (flat_chunk rep_int (flat_chunk rep_int flat_nil)))) rfl) flat_nil)) rfl) (rep_two rep_int rep_int)))),rfl⟩) fun g3 w3 p3 hs b3 cb=>?_)
 have hfr:=hfr.stp hs
 have rp1:=rp1.stp hs
 have b1:=b1.stp hs rfl
 have q2:=q2.stp hs
 clear cb
 refine Zg (.bool false) rfl rfl ?_
 refine Zb (Zd (Zq h (fun (s:BoxPoint × BoxPoint) e w=>∃ (g:Gh) ,Fr gI wI g w∧e 3=p1∧OB 2003 g w 112 (s.1:BoxPoint) p1∧e 6=p3∧OB 2006 g w 112 (s.2:BoxPoint) p3) (fun X109 iB bD h=>?_) ?_))
 ·refine Zf (Za (Zn up1 rfl rfl ?_))
  refine EL_p (fPtr p1 0) (Zc at_112_0 rfl (OB.ptr b1)) rfl ?_
  refine Ze .plain rfl (D_loadF (g:=g3) part_BoxPoint_0.1 Try.isAgg3 Try.sizeOf3 rfl b1 fun tE nD=>?_)
  obtain rfl:=Zj.1 nD
  obtain ⟨t5,bA,h⟩:=bsome h
  refine EL_p (ePtr up1 (x0).group 1) (Zh (α:=List Int) Try.underlying42 Try.sizeOf22 rfl rp1 rfl bA) rfl ?_
  have oD:=PT_idx rp1 bA
  refine Ze .plain rfl (D_load (g:=g3) Try.isAgg22 Try.sizeOf22 rfl oD fun j7 nB=>?_)
  refine EL_p (.int .i64 ((t5).length:Int)) (P_len Try.underlying22 rfl nB) rfl ?_
  refine Zn (.int .i64 (0)) rfl rfl ?_
  refine Zb (Zd (Zr ?_))
  refine E_lp h (fun (s:BoxPoint × BoxPoint × Int) e w=>∃ (g:Gh) ,Fr gI wI g w∧e 1=up1∧RV g.m w (x1:List (List Int)) up1∧e 3=p1∧OB 2003 g w 112 (s.1:BoxPoint) p1∧e 5=p2∧PT g.m w (x2:BoxStep) p2∧e 6=p3∧OB 2006 g w 112 (s.2.1:BoxPoint) p3∧e 14=j7∧RV g.m w (t5:List Int) j7∧e 15=.int .i64 (((t5).length:Int))∧e 16=.int .i64 (s.2.2)) ⟨g3,hfr,rfl,rp1,rfl,b1,rfl,q2,rfl,b3,rfl,nB,rfl,rfl⟩ (fun X115 jB cD=>?_)
  rintro ⟨i3,j6,o0⟩ mE uE ⟨g8,hfr,l9,n9,m7,a7,n8,v7,q8,r8,i8,i7,k8,x6⟩ h
  refine Zf (Za (EL_in (.bool ((decide (o0 < ((t5).length:Int))))) x6 k8 rfl rfl ?_))
  refine Zb (Zd (Zf ?_))
  rcases Zt h with ⟨a9,h⟩ | ⟨a9,h⟩
  ·refine E_ct a9 rfl ?_
   refine Zu (Zd (Zq h (fun (s:BoxPoint × BoxPoint) e w=>∃ (g:Gh) ,Fr gI wI g w∧e 1=up1∧RV g.m w (x1:List (List Int)) up1∧e 3=p1∧OB 2003 g w 112 (s.1:BoxPoint) p1∧e 5=p2∧PT g.m w (x2:BoxStep) p2∧e 6=p3∧OB 2006 g w 112 (s.2:BoxPoint) p3∧e 14=j7∧RV g.m w (t5:List Int) j7∧e 15=.int .i64 (((t5).length:Int))∧e 16=.int .i64 (o0)) (fun X165 lB eD h=>?_) ?_))
   ·refine Zr ?_
    refine Zf (Za (Zo x6 rfl ?_))
    obtain ⟨y6,gA,h⟩:=bsome h
    refine EL_p (ePtr j7 o0 1) (Zh (α:=Int) Try.underlying22 Try.sizeOf3 i8 i7 x6 gA) rfl ?_
    have sD:=PT_idx i7 gA
    refine Ze .plain rfl (D_load (g:=g8) Try.isAgg3 Try.sizeOf3 rfl sD fun vE tD=>?_)
    obtain rfl:=Zj.1 tD
    refine Zg (.int .i64 (o0)) rfl rfl ?_
    refine Zg (.int .i64 (y6)) rfl rfl ?_
    refine Zb (Zd ?_)
    obtain ⟨v6,hx,h⟩:=bsome h
    refine E_join (fun e w=>∃ (g:Gh) ,Fr gI wI g w∧e 1=up1∧RV g.m w (x1:List (List Int)) up1∧e 3=p1∧OB 2003 g w 112 (i3:BoxPoint) p1∧e 5=p2∧PT g.m w (x2:BoxStep) p2∧e 6=p3∧OB 2006 g w 112 (j6:BoxPoint) p3∧e 8=.int .i64 (o0)∧e 14=j7∧RV g.m w (t5:List Int) j7∧e 15=.int .i64 (((t5).length:Int))∧e 16=.int .i64 (o0)∧e 32=.bool (v6)) (fun Q' hQ=>?_) (fun nE xE hR=>?_)
    ·replace h := hx
     clear hx
     refine Za (Zn (.int .i64 (y6)) rfl rfl ?_)
     refine EL_p (fPtr p2 10) (Zc at_144_1 n8 (PT.ptr v7)) rfl ?_
     have uD:=Zm (part_BoxStep_1).1 v7
     refine Ze .plain rfl (D_load (g:=g8) Try.isAgg3 Try.sizeOf3 rfl uD fun yE vD=>?_)
     obtain rfl:=Zj.1 vD
     refine EL_in (.bool ((y6 == (x2).colour))) rfl rfl rfl rfl ?_
     refine Zn (.bool ((y6 == (x2).colour))) rfl rfl ?_
     rcases Zt h with ⟨i5,h⟩ | ⟨i5,h⟩
     ·refine EL_y (fPtr p1 1) (Zc at_112_1 m7 (OB.ptr a7)) rfl rfl i5 rfl ?_
      refine Ze (.yes2 rfl rfl i5) rfl (D_loadF (g:=g8) part_BoxPoint_1.1 Try.isAgg3 Try.sizeOf3 rfl a7 fun zE xD=>?_)
      obtain rfl:=Zj.1 xD
      refine EL_y (.int .i64 (o0)) (Zk rfl) rfl rfl i5 rfl ?_
      obtain ⟨y180,gD,h⟩:=bsome h
      refine EL_y (.int .i64 (y180)) (P_int rfl rfl (congrArg (Option.map (Value.int .i64)) gD)) rfl rfl i5 rfl ?_
      refine EL_y (.int .i64 ((bit64 .and y180 (1:Int)))) (P_int rfl rfl rfl) rfl rfl i5 rfl ?_
      refine EL_y (.bool (((bit64 .and y180 (1:Int)) == (0:Int)))) (P_int rfl rfl rfl) rfl rfl i5 rfl ?_
      refine EL_p (.bool (((bit64 .and y180 (1:Int)) == (0:Int)))) (Zl (b:=(y6 == (x2).colour)) rfl (pick_t i5 rfl)) rfl ?_
      refine Zb ?_
      obtain rfl:=sinj h
      exact hQ _ _ ⟨g8,hfr,l9,n9,m7,a7,n8,v7,q8,r8,rfl,i8,i7,k8,x6,rfl⟩
     ·refine EL_s rfl rfl i5 rfl rfl ?_
      iterate 5 refine EL_s rfl rfl i5 rfl rfl ?_
      refine EL_p (.bool false) (Zl (b:=(y6 == (x2).colour)) rfl (pick_f i5 rfl)) rfl ?_
      refine Zb ?_
      obtain rfl:=sinj h
      exact hQ _ _ ⟨g8,hfr,l9,n9,m7,a7,n8,v7,q8,r8,rfl,i8,i7,k8,x6,rfl⟩
    ·clear hx
     obtain ⟨oB,hfr,u9,l5,d7,x5,y9,i6,t8,u3,tB,iA,jA,mA,pA,v8⟩:=hR
     rcases Zt h with ⟨d9,h⟩ | ⟨d9,h⟩
     ·refine E_cond_true (Eq.trans (show ev _ _ = .bool (v6) from v8) (congrArg Value.bool d9)) ?_
      refine Zf (L_loadO (x:=.tmp 33) part_BoxPoint_1.1 Try.isAgg3 Try.sizeOf3 x5 fun cF yD iD=>?_)
      obtain rfl:=Zj.1 yD
      obtain ⟨x8,jD,h⟩:=bsome h
      refine E_drawL (g:=oB) (n:=6) [] [0,1,2,3,4,5] rfl mixed (by kernel_rfl) trivial ?_
      refine L_p (fPtr p1 1) rfl rfl (Zc at_112_1 d7 (OB.ptr x5)) ?_
      refine L_ld (c:=.int .i64 ((i3).done)) rfl rfl .plain (fun _ _ h=>⟨h.ch,fun b hb _=>h.below.block b hb⟩) iD rfl ?_
      refine L_p (.int .i64 (o0)) rfl rfl (Zk tB) ?_
      refine L_p (.int .i64 (x8)) rfl rfl (P_int rfl rfl (congrArg (Option.map (Value.int .i64)) jD)) ?_
      refine L_p (.int .i64 ((bit64 .or (i3).done x8))) rfl rfl (P_int rfl rfl rfl) ?_
      refine L_p (fPtr p1 1) rfl rfl (Zc at_112_1 d7 (OB.ptr x5)) ?_
      refine L_nl fun zD dF hs=>?_
      have hfr:=hfr.ext hs
      have l5:=l5.ext hs
      have x5:=x5.ext hs
      have i6:=i6.ext hs
      have u3:=u3.ext hs
      clear hs
      refine Ze .plain rfl (D_storeFc (g:=zD) part_BoxPoint_1 Try.sizeOf3 rfl x5 rfl (Zj.2 rfl) fun vB eF hs b203 rst hos=>?_)
      clear rst hos
      have hfr:=hfr.stp hs
      have l5:=l5.stp hs
      have i6:=i6.stp hs
      have u3:=u3.stp hs rfl
      refine Zb (Zd (Zf (Za (EL_p (fPtr p2 0) (Zc at_144_0 y9 (PT.ptr i6)) rfl ?_))))
      have aE:=Zm (part_BoxStep_0).1 i6
      refine Ze .plain rfl (D_load (g:=vB) Try.isAgg108 Try.sizeOf108 rfl aE fun iF bE=>?_)
      refine EL_p (fPtr p1 2) (Zc at_112_2 d7 (OB.ptr b203)) rfl ?_
      refine Ze .plain rfl (D_storeFc (g:=vB) part_BoxPoint_2 Try.sizeOf108 rfl b203 rfl bE fun yB nF hs b207 rst hos=>?_)
      clear rst hos
      have hfr:=hfr.stp hs
      have l5:=l5.stp hs
      have u3:=u3.stp hs rfl
      refine Zb (Zd (Zf (Za (Ze .plain rfl (D_loadO (g:=yB) Try.isAgg112 Try.sizeOf112 d7 b207 fun cE dE=>?_)))))
      refine Zo u9 rfl ?_
      obtain ⟨mB,kD,h⟩:=bsome h
      refine Ze .plain rfl (Zp (g:=yB) (vs:=[cE,up1]) en65 (.cons rfl (.cons rfl .nil)) (wk65 dE l5 kD) fun eE oE gE hs hr=>?_)
      have hfr:=hfr.ext hs
      have u3:=u3.ext hs
      have iE:=hr
      refine Ze .plain rfl (D_storeOc (g:=eE) (v:=gE) Try.sizeOf112 t8 u3 rfl iE fun oF pF hs b211 cb=>?_)
      clear cb
      have hfr:=hfr.stp hs
      refine Zg (.bool true) rfl rfl ?_
      refine Zb (Zd (E_ret (blk_r ?_)))
      refine thn_r ?_
      refine thn_r ?_
      refine blk_r ?_
      refine thn_r ?_
      obtain rfl:=sinj h
      obtain ⟨ad212,cv212,hp212,lD,cr212⟩:=ob_read Try.isAgg112 Try.sizeOf112 b211
      exact endm_ct rfl rfl ((show _=p3 from t8).trans hp212) lD (show _=.bool true from rfl) ⟨_,hfr,_,_,rfl,cr212,rfl⟩
     ·refine E_cond_false (Eq.trans (show ev _ _ = .bool (v6) from v8) (congrArg Value.bool d9)) ?_
      exact Zu (blk_n (Zd (eD (i3,j6) _ _ ⟨oB,hfr,u9,l5,d7,x5,y9,i6,t8,u3,iA,jA,mA,pA⟩ h)))
   ·rintro ⟨l8, m8⟩ rE qF ⟨jE, hfr, zB, aC, cC, eC, iC, lC, mC, qC, qA, rA, yA, aB⟩ h
    refine Za (EL_in (.int .i64 ((w64 (o0 + (1:Int))))) aB rfl rfl rfl ?_)
    refine Zn (.int .i64 ((w64 (o0 + (1:Int))))) rfl rfl ?_
    exact Zb (Zd (cD (l8,m8,(w64 (o0 + (1:Int)))) _ _ ⟨jE,hfr,zB,aC,cC,eC,iC,lC,mC,qC,qA,rA,yA,rfl⟩ h))
  ·refine E_cf a9 rfl ?_
   refine E_exit ?_
   refine thn_e ?_
   refine thn_e ?_
   refine blk_hit ?_
   exact Zd (bD (i3,j6) _ _ ⟨g8,hfr,m7,a7,q8,r8⟩ h)
 ·rintro ⟨k9, dB⟩ sE rF ⟨rC, hfr, uC, vC, z9, aD⟩ h
  refine Zf (Za (Ze .plain rfl (D_loadO (g:=rC) Try.isAgg112 Try.sizeOf112 uC vC fun kE lE=>?_)))
  refine Ze .plain rfl (D_storeOc (g:=rC) (v:=kE) Try.sizeOf112 z9 aD rfl lE fun sF tF hs b216 cb=>?_)
  clear cb
  have hfr:=hfr.stp hs
  refine Zg (.bool false) rfl rfl ?_
  refine Zb (Zd (E_ret ?_))
  obtain rfl:=sinj h
  obtain ⟨ad217,cv217,hp217,mD,cr217⟩:=ob_read Try.isAgg112 Try.sizeOf112 b216
  exact endm_ct rfl rfl ((show _=p3 from z9).trans hp217) mD (show _=.bool false from rfl) ⟨_,hfr,_,_,rfl,cr217,rfl⟩
end Go.Proofs.Ytmpjooneiaiffaa
