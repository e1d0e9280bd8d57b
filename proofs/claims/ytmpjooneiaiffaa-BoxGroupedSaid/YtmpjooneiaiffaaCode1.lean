import Derived.Test.YtmpjooneiaiffaaTypes
import Derived.Test.YtmpjooneiaiffaaShelf
set_option maxRecDepth 8000
set_option maxHeartbeats 4000000
namespace Go.Proofs.Ytmpjooneiaiffaa
open Go.RowKit
theorem Jo:(Try.prog.info? 3).map (fun i=>(i.zero,i.size,i.bytes))=some (some (.int .i64 0),1,8):=by kernel_rfl
theorem Mq:(Try.prog.info? 87).map (fun i=>(i.zero,i.size,i.bytes))=some (some (.agg #[.int .i64 0,.int .i64 0,.int .i64 0,.int .i64 0,.int .i64 0]),5,40):=by kernel_rfl
theorem Lh:Plain Kf:=fun _ m' _ w' x _ h=>(Bf Uy Uy) _ m' _ w' _ _ h
theorem mixed:Try.prog.follows .mixedOrders=true:=by kernel_rfl
theorem Ri:Plain Zv:=fun _ m' _ w' x _ h=>(Bf Uy (Bf Uy (Bf Uy Lh))) _ m' _ w' _ _ h
theorem fl_83 : Try.prog.fieldsOf 83 = #[{ name := "Left", type := 3, offset := 0, embedded := false, tag := "", pkgPath := "", byteOffset := 0 }, { name := "Right", type := 3, offset := 1, embedded := false, tag := "", pkgPath := "", byteOffset := 8 }] := by kernel_rfl
theorem seq_83:SEq (α:=Gf) Try.prog 83:=by
 intro d x y w a b m wx m2 wy hx hy;obtain ⟨_,⟨_,_,rfl,rfl,rfl⟩,rfl⟩:=hx;obtain ⟨_,⟨_,_,rfl,rfl,rfl⟩,rfl⟩:=hy;refine (run_equalIn_struct w (d + 1) 83 _ _ (by kernel_rfl) (by kernel_rfl)).trans ?_;rw [fl_83];obtain ⟨x0,x1⟩:=x;obtain ⟨y0,y1⟩:=y;show (Op.eqFields (d + 1) #[.int .i64 (x0),.int .i64 (x1)] #[.int .i64 (y0),.int .i64 (y1)] _).run _ _=_;have x0p:(part 3 #[.int .i64 (x0),.int .i64 (x1)] 0).run Try.prog w=.ok (.int .i64 (x0)) w:=Yc Try.isAgg3 rfl;have x1p:(part 3 #[.int .i64 (x0),.int .i64 (x1)] 1).run Try.prog w=.ok (.int .i64 (x1)) w:=Yc Try.isAgg3 rfl;have y0p:(part 3 #[.int .i64 (y0),.int .i64 (y1)] 0).run Try.prog w=.ok (.int .i64 (y0)) w:=Yc Try.isAgg3 rfl;have y1p:(part 3 #[.int .i64 (y0),.int .i64 (y1)] 1).run Try.prog w=.ok (.int .i64 (y1)) w:=Yc Try.isAgg3 rfl;simp only [Op.eqFields,Sem.run_bind,Sem.run_ite,Sem.run_pure,x0p,x1p,y0p,y1p,Result.andThen_ok,run_equalIn_int _ _ _ _ _ _ _ Try.underlying3];simp;grind
theorem eg_83:Try.prog.eqGuardType Try.prog.depth 83=false:=by kernel_rfl
theorem Dz:(Try.prog.info? 22).map (fun i=>(i.zero,i.size,i.bytes))=some (some (.slice none 0 0),1,24):=by kernel_rfl
theorem info_83:(Try.prog.info? 83).map (fun i=>(i.zero,i.size,i.bytes))=some (some (.agg #[.int .i64 0,.int .i64 0]),2,16):=by kernel_rfl
theorem fl_85 : Try.prog.fieldsOf 85 = #[{ name := "Low", type := 3, offset := 0, embedded := false, tag := "", pkgPath := "", byteOffset := 0 }, { name := "High", type := 3, offset := 1, embedded := false, tag := "", pkgPath := "", byteOffset := 8 }] := by kernel_rfl
theorem seq_85:SEq (α:=Kf) Try.prog 85:=by
 intro d x y w a b m wx m2 wy hx hy;obtain ⟨_,⟨_,_,rfl,rfl,rfl⟩,rfl⟩:=hx;obtain ⟨_,⟨_,_,rfl,rfl,rfl⟩,rfl⟩:=hy;refine (run_equalIn_struct w (d + 1) 85 _ _ (by kernel_rfl) (by kernel_rfl)).trans ?_;rw [fl_85];obtain ⟨x0,x1⟩:=x;obtain ⟨y0,y1⟩:=y;show (Op.eqFields (d + 1) #[.int .i64 (x0),.int .i64 (x1)] #[.int .i64 (y0),.int .i64 (y1)] _).run _ _=_;have x0p:(part 3 #[.int .i64 (x0),.int .i64 (x1)] 0).run Try.prog w=.ok (.int .i64 (x0)) w:=Yc Try.isAgg3 rfl;have x1p:(part 3 #[.int .i64 (x0),.int .i64 (x1)] 1).run Try.prog w=.ok (.int .i64 (x1)) w:=Yc Try.isAgg3 rfl;have y0p:(part 3 #[.int .i64 (y0),.int .i64 (y1)] 0).run Try.prog w=.ok (.int .i64 (y0)) w:=Yc Try.isAgg3 rfl;have y1p:(part 3 #[.int .i64 (y0),.int .i64 (y1)] 1).run Try.prog w=.ok (.int .i64 (y1)) w:=Yc Try.isAgg3 rfl;simp only [Op.eqFields,Sem.run_bind,Sem.run_ite,Sem.run_pure,x0p,x1p,y0p,y1p,Result.andThen_ok,run_equalIn_int _ _ _ _ _ _ _ Try.underlying3];simp;grind
theorem eg_85:Try.prog.eqGuardType Try.prog.depth 85=false:=by kernel_rfl
theorem lay_85:Ji Try.prog 85=some ([.int .i64 0,.int .i64 0],[(0,1),(1,1)]):=by kernel_rfl
theorem info_85:(Try.prog.info? 85).map (fun i=>(i.zero,i.size,i.bytes))=some (some (.agg #[.int .i64 0,.int .i64 0]),2,16):=by kernel_rfl
theorem Ng:Ji Try.prog 25=some ([.slice none 0 0,.slice none 0 0,.slice none 0 0],[(0,1),(1,1),(2,1)]):=by kernel_rfl
theorem layA_137:((Try.prog.info? 137).bind (·.zero)).map (·.cells.toList)=some [.bool false,.bool false,.bool false,.bool false,.bool false,.bool false,.bool false,.bool false]:=by kernel_rfl
theorem szA_4:(Try.prog.info? 4).map (·.size)=some 1:=by kernel_rfl
theorem layA_69:((Try.prog.info? 69).bind (·.zero)).map (·.cells.toList)=some [.int .u8 0,.int .u8 0,.int .u8 0,.int .u8 0]:=by kernel_rfl
theorem szA_5:(Try.prog.info? 5).map (·.size)=some 1:=by kernel_rfl
theorem Xh {P:Program} {e:Env} {ds:List Deferred} {w:World} {fn:Func} {R:Value→World→Prop} {t0:Tmp} {v0:Value} {y0:TypeId} {a0:Addr} (hres:fn.results=#[.cell t0 y0]) (hd:ds=[]) (h0:e t0=.pointer (some a0)) (l0:(loadVar y0 a0).run P w=.ok v0 w) (h:R v0 w):Ye P fn R .ret e ds w:=
 ⟨hd,fun tmps ht=>⟨_,by simp [results,hres,ht,asAddr,h0,l0],h⟩⟩
theorem layA_76:((Try.prog.info? 76).bind (·.zero)).map (·.cells.toList)=some [.int .i64 0,.int .i64 0,.int .i64 0,.int .i64 0,.int .i64 0,.int .i64 0,.int .i64 0,.int .i64 0]:=by kernel_rfl
theorem szA_75:(Try.prog.info? 75).map (·.size)=some 4:=by kernel_rfl
theorem Me:Ji Try.prog 87=some ([.int .i64 0,.int .i64 0,.int .i64 0,.int .i64 0,.int .i64 0],[(0,1),(1,1),(2,1),(3,2)]):=by kernel_rfl
theorem Io:Ji Try.prog 83=some ([.int .i64 0,.int .i64 0],[(0,1),(1,1)]):=by kernel_rfl
theorem lay_102:Ji Try.prog 102=some ([.slice none 0 0,.slice none 0 0,.slice none 0 0],[(0,3)]):=by kernel_rfl
theorem Nr {e:Env} {f:FuncId} {o0:Operand} {b0:Value} (hb0:ev e o0=b0):(Value.func (.func f) ((#[]:Array Operand).map (ev e)) ((#[o0]:Array Operand).map (ev e)))=.func (.func f) #[] #[b0]:=by simp [hb0]
theorem Yi {P:Program} {e:Env} {ds:List Deferred} {w:World} {fn:Func} {R:Value→World→Prop} {t0:Tmp} {v0:Value} {y0:TypeId} {a0:Addr} {t1:Tmp} {v1:Value} (hres:fn.results=#[.cell t0 y0,.tmp t1]) (hd:ds=[]) (h0:e t0=.pointer (some a0)) (l0:(loadVar y0 a0).run P w=.ok v0 w) (h1:e t1=v1) (h:R (.tuple #[v0,v1]) w):Ye P fn R .ret e ds w:=
 ⟨hd,fun tmps ht=>⟨_,by simp [results,hres,ht,asAddr,h0,l0,h1],h⟩⟩
theorem pl_75:Pl (Vector Int 4):=Pl.array Pl.int
theorem pl_76:Pl (Vector (Vector Int 4) 2):=Pl.array pl_75
theorem pl_83:Pl Gf:=Pl.of (Pl.prod Pl.int Pl.int)
theorem pl_108:Pl Gu:=Pl.of (Pl.prod pl_76 pl_83)
theorem Tz:Pl Gd:=Pl.of (Pl.prod Pl.int (Pl.prod Pl.int pl_108))
theorem eqd_75:EqD Try.prog (Vector Int 4) 2 75:=EqD.array Try.underlying75 Jo (by kernel_rfl) Try.isAgg3 Try.sizeOf3 (EqD.int Try.underlying3)
theorem info_75:(Try.prog.info? 75).map (fun i=>(i.zero,i.size,i.bytes))=some (some (.agg #[.int .i64 0,.int .i64 0,.int .i64 0,.int .i64 0]),4,32):=by kernel_rfl
theorem eqd_76:EqD Try.prog (Vector (Vector Int 4) 2) 3 76:=EqD.array Try.underlying76 info_75 (by kernel_rfl) Try.isAgg75 Try.sizeOf75 eqd_75
theorem eqd_83:EqD Try.prog Gf 2 83:=EqD.struct rfl (by kernel_rfl) (by kernel_rfl) (by rw [fl_83]; exact (FEq.cons (by decide) (Qx).1 Try.isAgg3 Try.sizeOf3 (EqD.int Try.underlying3) (FEq.cons (by decide) (Qz).1 Try.isAgg3 Try.sizeOf3 (EqD.int Try.underlying3) FEq.nil))) (fun x y=>by cases x; cases y; simp)
theorem fl_108 : Try.prog.fieldsOf 108 = #[{ name := "boxes", type := 76, offset := 0, embedded := false, tag := "", pkgPath := "griffe/box", byteOffset := 0 }, { name := "at", type := 83, offset := 8, embedded := false, tag := "", pkgPath := "griffe/box", byteOffset := 64 }] := by kernel_rfl
theorem eqd_108:EqD Try.prog Gu 4 108:=EqD.struct rfl (by kernel_rfl) (by kernel_rfl) (by rw [fl_108]; exact (FEq.cons (by decide) (Ww).1 Try.isAgg76 Try.sizeOf76 eqd_76 (FEq.cons (by decide) (Ks).1 Try.isAgg83 Try.sizeOf83 (eqd_83.up (by decide)) FEq.nil))) (fun x y=>by cases x; cases y; simp)
theorem fl_112 : Try.prog.fieldsOf 112 = #[{ name := "group", type := 3, offset := 0, embedded := false, tag := "", pkgPath := "griffe/box", byteOffset := 0 }, { name := "done", type := 3, offset := 1, embedded := false, tag := "", pkgPath := "griffe/box", byteOffset := 8 }, { name := "race", type := 108, offset := 2, embedded := true, tag := "", pkgPath := "griffe/box", byteOffset := 16 }] := by kernel_rfl
theorem eqd_112:EqD Try.prog Gd 5 112:=EqD.struct rfl (by kernel_rfl) (by kernel_rfl) (by rw [fl_112]; exact (FEq.cons (by decide) (Wy).1 Try.isAgg3 Try.sizeOf3 ((EqD.int Try.underlying3).up (by decide)) (FEq.cons (by decide) (Ky).1 Try.isAgg3 Try.sizeOf3 ((EqD.int Try.underlying3).up (by decide)) (FEq.cons (by decide) (Hm).1 Try.isAgg108 Try.sizeOf108 eqd_108 FEq.nil)))) (fun x y=>by cases x; cases y; simp)
theorem ckd_75:CkD Try.prog (Vector Int 4) 2 75:=CkD.array Try.underlying75 Jo (by kernel_rfl) Try.isAgg3 Try.sizeOf3 (CkD.int Try.underlying3)
theorem ckd_76:CkD Try.prog (Vector (Vector Int 4) 2) 3 76:=CkD.array Try.underlying76 info_75 (by kernel_rfl) Try.isAgg75 Try.sizeOf75 ckd_75
theorem ckd_83:CkD Try.prog Gf 2 83:=CkD.struct rfl Try.underlying83 fun f hf=>by
 simp only [List.mem_cons,List.not_mem_nil,or_false] at hf;rcases hf with rfl | rfl
 ·exact ⟨by decide,_,_,_,(Qx).1,Try.isAgg3,Try.sizeOf3,(CkD.int Try.underlying3)⟩
 ·exact ⟨by decide,_,_,_,(Qz).1,Try.isAgg3,Try.sizeOf3,(CkD.int Try.underlying3)⟩
theorem ckd_108:CkD Try.prog Gu 4 108:=CkD.struct rfl Try.underlying108 fun f hf=>by
 simp only [List.mem_cons,List.not_mem_nil,or_false] at hf;rcases hf with rfl | rfl
 ·exact ⟨by decide,_,_,_,(Ww).1,Try.isAgg76,Try.sizeOf76,ckd_76⟩
 ·exact ⟨by decide,_,_,_,(Ks).1,Try.isAgg83,Try.sizeOf83,ckd_83.up (by decide)⟩
theorem ckd_112:CkD Try.prog Gd 5 112:=CkD.struct rfl Try.underlying112 fun f hf=>by
 simp only [List.mem_cons,List.not_mem_nil,or_false] at hf;rcases hf with rfl | rfl | rfl
 ·exact ⟨by decide,_,_,_,(Wy).1,Try.isAgg3,Try.sizeOf3,(CkD.int Try.underlying3).up (by decide)⟩
 ·exact ⟨by decide,_,_,_,(Ky).1,Try.isAgg3,Try.sizeOf3,(CkD.int Try.underlying3).up (by decide)⟩
 ·exact ⟨by decide,_,_,_,(Hm).1,Try.isAgg108,Try.sizeOf108,ckd_108⟩
theorem Fd:Xn Try.prog 112 (Ws Tz):=Ae Tz (by rw [Try.underlying112]) rfl eqd_112 ckd_112 (by decide)
theorem lay_154:Ji Try.prog 154=some ([.int .i64 0,.int .i64 0,.map none],[(0,1),(1,1),(2,1)]):=by kernel_rfl
theorem Oo {e:Env} {f:FuncId} {o0:Operand} {l5:Operand} {b0:Value} {b1:Value} (hb0:ev e o0=b0) (hb1:ev e l5=b1):(Value.func (.func f) ((#[]:Array Operand).map (ev e)) ((#[o0,l5]:Array Operand).map (ev e)))=.func (.func f) #[] #[b0,b1]:=by simp [hb0,hb1]
theorem Ev:Xn Try.prog 3 (Value.int .i64):=Ea Try.underlying3
theorem capf_0_3 {e:Env} {f:FuncId} {o0:Operand} {l5:Operand} {t5:Operand} {b0:Value} {b1:Value} {b2:Value} (hb0:ev e o0=b0) (hb1:ev e l5=b1) (hb2:ev e t5=b2):(Value.func (.func f) ((#[]:Array Operand).map (ev e)) ((#[o0,l5,t5]:Array Operand).map (ev e)))=.func (.func f) #[] #[b0,b1,b2]:=by simp [hb0,hb1,hb2]
theorem Sp {P:Program} {e:Env} {ds:List Deferred} {w:World} {fn:Func} {R:Value→World→Prop} {t0:Tmp} {v0:Value} {y0:TypeId} {a0:Addr} {t1:Tmp} {v1:Value} {t2:Tmp} {v2:Value} (hres:fn.results=#[.cell t0 y0,.tmp t1,.tmp t2]) (hd:ds=[]) (h0:e t0=.pointer (some a0)) (l0:(loadVar y0 a0).run P w=.ok v0 w) (h1:e t1=v1) (h2:e t2=v2) (h:R (.tuple #[v0,v1,v2]) w):Ye P fn R .ret e ds w:=
 ⟨hd,fun tmps ht=>⟨_,by simp [results,hres,ht,asAddr,h0,l0,h1,h2],h⟩⟩
theorem Lq:((Try.prog.info? 138).bind (·.zero)).map (·.cells.toList)=some [.int .i64 0,.int .i64 0]:=by kernel_rfl
theorem Nm:(Try.prog.info? 3).map (·.size)=some 1:=by kernel_rfl
theorem endm_ttct {P:Program} {e:Env} {ds:List Deferred} {w:World} {fn:Func} {R:Value→World→Prop} {t0:Tmp} {v0:Value} {t1:Tmp} {v1:Value} {t2:Tmp} {v2:Value} {y2:TypeId} {a2:Addr} {t3:Tmp} {v3:Value} (hres:fn.results=#[.tmp t0,.tmp t1,.cell t2 y2,.tmp t3]) (hd:ds=[]) (h0:e t0=v0) (h1:e t1=v1) (h2:e t2=.pointer (some a2)) (l2:(loadVar y2 a2).run P w=.ok v2 w) (h3:e t3=v3) (h:R (.tuple #[v0,v1,v2,v3]) w):Ye P fn R .ret e ds w:=
 ⟨hd,fun tmps ht=>⟨_,by simp [results,hres,ht,asAddr,h0,h1,h2,l2,h3],h⟩⟩
@[reducible] def ow_BoxLoom:Ow BoxLoom:=Ow.struct (fun (x:BoxLoom)=>(x.Boxes,x.At,x.Shuttles)) (Ow.pair (Ow.list 3 (Ow.sh Int)) (Ow.pair (Ow.list 3 (Ow.sh Int)) (Ow.list 87 (Ow.sh Zv))))
theorem lay_144:Ji Try.prog 144=some ([.int .i64 0,.int .i64 0,.int .i64 0,.int .i64 0,.int .i64 0,.int .i64 0,.int .i64 0,.int .i64 0,.int .i64 0,.int .i64 0,.int .i64 0,.int .i64 0],[(0,10),(10,1),(11,1)]):=by kernel_rfl
theorem Jc:Fl ow_BoxLoom (Ow.list 87 (Ow.sh Zv)) 2 (fun (x:BoxLoom) y=>{ x with Shuttles:=y }) (fun (q:(ow_BoxLoom).S) (r:((Ow.list 87 (Ow.sh Zv))).S)=>((Prod.fst q),((Prod.fst (Prod.snd q)),r))):=Fl.of _ (Fl.comp Prod.snd Prod.snd (Fl.snd _ _) (Fl.comp Prod.snd Prod.snd (Fl.snd _ _) (Fl.id_ _) rfl) rfl) (fun _ _=>rfl)
theorem Co:Fl (Ow.sh Zv) (Ow.sh Int) 1 (fun (x:Zv) y=>{ x with Side:=y }) (fun q _=>q):=Fl.shd Wq (fun _ _=>rfl) (fun _ _ _=>rfl)
theorem Cm:Fl (Ow.sh Zv) (Ow.sh Int) 2 (fun (x:Zv) y=>{ x with Box:=y }) (fun q _=>q):=Fl.shd Kw (fun _ _=>rfl) (fun _ _ _=>rfl)
theorem lay_129:Ji Try.prog 129=some ([.slice none 0 0,.int .i64 0,.int .i64 0,.int .i64 0,.int .i64 0,.int .i64 0,.int .i64 0,.int .i64 0,.int .i64 0,.int .i64 0,.int .i64 0,.int .i64 0],[(0,1),(1,10),(11,1)]):=by kernel_rfl
theorem tup4_0 {b0 b1 b2 b3:Value} {B0:Value→Prop} {B1:Value→Prop} {B2:Value→Prop} {B3:Value→Prop} (h:∃ c0 c1 c2 c3:Value,Value.tuple #[b0,b1,b2,b3]=.tuple #[c0,c1,c2,c3]∧B0 c0∧B1 c1∧B2 c2∧B3 c3):B0 b0:=by
 obtain ⟨c0,c1,c2,c3,he,h0,h1,h2,h3⟩:=h; simp at he; obtain ⟨rfl,rfl,rfl,rfl⟩:=he; exact h0
theorem Mx {P:Program} {e:Env} {ds:List Deferred} {w:World} {fn:Func} {R:Value→World→Prop} {t0:Tmp} {v0:Value} {y0:TypeId} {a0:Addr} {t1:Tmp} {v1:Value} {y1:TypeId} {a1:Addr} (hres:fn.results=#[.cell t0 y0,.cell t1 y1]) (hd:ds=[]) (h0:e t0=.pointer (some a0)) (l0:(loadVar y0 a0).run P w=.ok v0 w) (h1:e t1=.pointer (some a1)) (l1:(loadVar y1 a1).run P w=.ok v1 w) (h:R (.tuple #[v0,v1]) w):Ye P fn R .ret e ds w:=
 ⟨hd,fun tmps ht=>⟨_,by simp [results,hres,ht,asAddr,h0,l0,h1,l1],h⟩⟩
theorem Bu:Pl (Vector Int 2):=Pl.array Pl.int
theorem eqd_138:EqD Try.prog (Vector Int 2) 2 138:=EqD.array Try.underlying138 Jo (by kernel_rfl) Try.isAgg3 Try.sizeOf3 (EqD.int Try.underlying3)
theorem ckd_138:CkD Try.prog (Vector Int 2) 2 138:=CkD.array Try.underlying138 Jo (by kernel_rfl) Try.isAgg3 Try.sizeOf3 (CkD.int Try.underlying3)
theorem key_138:Xn Try.prog 138 (Ws Bu):=Ae Bu (by rw [Try.underlying138]) rfl eqd_138 ckd_138 (by decide)
theorem Ew:Ji Try.prog 112=some ([.int .i64 0,.int .i64 0,.int .i64 0,.int .i64 0,.int .i64 0,.int .i64 0,.int .i64 0,.int .i64 0,.int .i64 0,.int .i64 0,.int .i64 0,.int .i64 0],[(0,1),(1,1),(2,10)]):=by kernel_rfl
theorem eg_76:Try.prog.eqGuardType Try.prog.depth 76=false:=by kernel_rfl
theorem Pz {P:Program} {e:Env} {ds:List Deferred} {w:World} {fn:Func} {R:Value→World→Prop} {t0:Tmp} {v0:Value} {y0:TypeId} {a0:Addr} {t1:Tmp} {v1:Value} {y1:TypeId} {a1:Addr} {t2:Tmp} {v2:Value} {t3:Tmp} {v3:Value} (hres:fn.results=#[.cell t0 y0,.cell t1 y1,.tmp t2,.tmp t3]) (hd:ds=[]) (h0:e t0=.pointer (some a0)) (l0:(loadVar y0 a0).run P w=.ok v0 w) (h1:e t1=.pointer (some a1)) (l1:(loadVar y1 a1).run P w=.ok v1 w) (h2:e t2=v2) (h3:e t3=v3) (h:R (.tuple #[v0,v1,v2,v3]) w):Ye P fn R .ret e ds w:=
 ⟨hd,fun tmps ht=>⟨_,by simp [results,hres,ht,asAddr,h0,l0,h1,l1,h2,h3],h⟩⟩
theorem Lu {P:Program} {e:Env} {ds:List Deferred} {w:World} {fn:Func} {R:Value→World→Prop} {t0:Tmp} {v0:Value} {t1:Tmp} {v1:Value} {y1:TypeId} {a1:Addr} {t2:Tmp} {v2:Value} {t3:Tmp} {v3:Value} {t4:Tmp} {v4:Value} (hres:fn.results=#[.tmp t0,.cell t1 y1,.tmp t2,.tmp t3,.tmp t4]) (hd:ds=[]) (h0:e t0=v0) (h1:e t1=.pointer (some a1)) (l1:(loadVar y1 a1).run P w=.ok v1 w) (h2:e t2=v2) (h3:e t3=v3) (h4:e t4=v4) (h:R (.tuple #[v0,v1,v2,v3,v4]) w):Ye P fn R .ret e ds w:=
 ⟨hd,fun tmps ht=>⟨_,by simp [results,hres,ht,asAddr,h0,h1,l1,h2,h3,h4],h⟩⟩
theorem Es:((Try.prog.info? 95).bind (·.zero)).map (·.cells.toList)=some [.int .i64 0,.int .i64 0,.int .i64 0,.int .i64 0,.int .i64 0,.int .i64 0,.int .i64 0,.int .i64 0,.int .i64 0,.int .i64 0]:=by kernel_rfl
theorem seq_95:SEq (α:=Vector Int 10) Try.prog 95:=seq_arr Try.underlying95 Jo Try.underlying3 (by kernel_rfl) Try.isAgg3
theorem eg_95:Try.prog.eqGuardType Try.prog.depth 95=false:=by kernel_rfl
def f78 (x0:List Int):Option (List Int):=apnd 8 [] x0
theorem en78:Enters Try.prog 78:=enters_of Try.func78 (by kernel_rfl) rfl
def f79 (x0:List Zv):Option (List Zv):=apnd 40 [] x0
theorem en79:Enters Try.prog 79:=enters_of Try.func79 (by kernel_rfl) rfl
theorem en81:Enters Try.prog 81:=enters_of Try.func81 (by kernel_rfl) rfl
theorem en82:Enters Try.prog 82:=enters_of Try.func82 (by kernel_rfl) rfl
def f16 (x0:List Int):Option ((List Int)):=
 (apnd 8 (([]:List Int)) x0).bind fun y3=>
 some (y3)
theorem en16:Enters Try.prog 16:=enters_of Try.func16 (by kernel_rfl) rfl
theorem wk16 {gI:Gh} {wI:World} {x0:List Int} {up0:Value} (rp0:RV gI.m wI x0 up0) {r:(List Int)} (h:f16 x0=some r):Fn Try.prog 16 #[up0] gI wI (fun m w v=>RV m w (r) v):=by
 unfold f16 at h;refine Tk Try.func16 rfl (Nat.le_of_ble_eq_true rfl) fun g0 hm hfr=>?_;have rp0:RV g0.m wI x0 up0:=hm ▸ rp0;show E _ 6 none _ _ _ _ _;refine Zf (Za (Zg (.slice none 0 0) rfl rfl ?_));refine Zb (Zd (Zf (Za (Ze .plain rfl (Gm (g:=g0) 3003 (xs:=([]:List Int)) (vs:=[]) Try.underlying22 Try.sizeOf3 Try.zeroValue3 rfl rfl .nil RVs.nil rfl rfl fun g1 w1 v1 hs o1 r1 hxt hfl=>?_)))));have hfr:=hfr.stp hs;have rp0:=rp0.stp hs;refine Zn up0 rfl rfl ?_;obtain ⟨y3,hy3,h⟩:=Gc h;refine Ze .plain rfl (Ke (g:=g1) (i:=3003) Try.underlying22 Jo rfl rfl o1 r1 rfl rp0 hy3 fun g2 w2 v2 hs o2 r2 _=>?_);have hfr:=hfr.stp hs;refine Zg v2 rfl rfl ?_;refine Zb (Zd (Gz ?_));obtain rfl:=sinj h;exact Kb rfl rfl (show _=v2 from rfl) ⟨_,hfr,r2⟩
def f19 (x0:List Int) (x1:List Int):Option (Bool):=
 jn (σ:=Unit) (fun _=>
  jn (σ:=Unit) (fun _=>
   some (true)
   ) fun k53=>
  lp (σ:=Int) (fun k54 o0=>
   jn (σ:=Unit) (fun _=>
    jn (σ:=Unit) (fun _=>
     k54 ((w64 (o0 + (1:Int))))
     ) fun cD=>
    (idx x0 o0).bind fun n8=>
    (idx x1 o0).bind fun v8=>
    bif (n8 != v8) then
     some (false)
    else
     cD ()
    ) fun k57=>
   bif (decide (o0 < ((x0).length : Int))) then
    k57 ()
   else
    k53 ()
   ) big ((0:Int))
  ) fun k2=>
 bif (((x0).length : Int) != ((x1).length : Int)) then
  some (false)
 else
  k2 ()
theorem en19:Enters Try.prog 19:=enters_of Try.func19 (by kernel_rfl) rfl
theorem wk19 {gI:Gh} {wI:World} {x0:List Int} {x1:List Int} {up0:Value} (rp0:RV gI.m wI x0 up0) {up1:Value} (rp1:RV gI.m wI x1 up1) {r:Bool} (h:f19 x0 x1=some r):Fn Try.prog 19 #[up0,up1] gI wI (fun _ _ v=>v=.bool (r)):=by
 unfold f19 at h;refine Tk Try.func19 rfl (Nat.le_of_ble_eq_true rfl) fun g0 hm hfr=>?_;have rp0:RV g0.m wI x0 up0:=hm ▸ rp0;have rp1:RV g0.m wI x1 up1:=hm ▸ rp1;show E _ 26 none _ _ _ _ _;refine Zf (Za (Zg (.bool false) rfl rfl ?_));refine Zb (Zd (Zq h (fun (s:Unit) e w=>∃ (g:Gh) ,Fr gI wI g w∧e 0=up0∧RV g.m w (x0:List Int) up0∧e 1=up1∧RV g.m w (x1:List Int) up1) (fun X2 k2 hk2 h=>?_) ?_))
 ·refine Zf (Za (Zn up0 rfl rfl ?_))
  refine Zy (.int .i64 ((x0).length:Int)) (Qm Try.underlying22 rfl rp0) rfl ?_;refine Zn up1 rfl rfl ?_;refine Zy (.int .i64 ((x1).length:Int)) (Qm Try.underlying22 rfl rp1) rfl ?_;refine Gy (.bool ((((x0).length:Int) != ((x1).length:Int)))) rfl rfl rfl rfl ?_;refine Zb (Zd ?_);rcases Zt h with ⟨hc3,h⟩ | ⟨hc3,h⟩
  ·refine Wi hc3 rfl ?_
   refine Zf (Za (Zg (.bool false) rfl rfl ?_));refine Zb (Zd (Gz (Tq ?_)));obtain rfl:=sinj h;exact Kb rfl rfl (show _=.bool false from rfl) ⟨_,hfr,rfl⟩
  ·refine Wg hc3 rfl ?_
   exact Zu (Zd (hk2 () _ _ ⟨g0,hfr,rfl,rp0,rfl,rp1⟩ h))
 ·rintro _ xF w4 ⟨g4, hfr, nD, oD, yD, zD⟩ h
  refine Zq h (fun (s:Unit) e w=>∃ (g:Gh) ,Fr gI wI g w) (fun X53 k53 aE h=>?_) ?_
  ·refine Zf (Za (Zg (.int .i64 (0)) rfl rfl ?_))
   refine Zb (Zd (Zr ?_));refine Jv h (fun (s:Int) e w=>∃ (g:Gh) ,Fr gI wI g w∧e 0=up0∧RV g.m w (x0:List Int) up0∧e 1=up1∧RV g.m w (x1:List Int) up1∧e 5=.int .i64 (s)) ⟨g4,hfr,nD,oD,yD,zD,rfl⟩ (fun X54 k54 bE=>?_);rintro o0 rF yF ⟨lD,hfr,l9,n9,vC,bD,aB⟩ h;refine Zq h (fun (s:Unit) e w=>∃ (g:Gh) ,Fr gI wI g w∧e 0=up0∧RV g.m w (x0:List Int) up0∧e 1=up1∧RV g.m w (x1:List Int) up1∧e 5=.int .i64 (o0)) (fun X57 k57 iE h=>?_) ?_
   ·refine Zf (Za (Zo aB rfl ?_))
    refine Zo l9 rfl ?_;refine Zy (.int .i64 ((x0).length:Int)) (Qm Try.underlying22 rfl n9) rfl ?_;refine Gy (.bool ((decide (o0 < ((x0).length:Int))))) rfl rfl rfl rfl ?_;refine Zb (Zd ?_);rcases Zt h with ⟨l8,h⟩ | ⟨l8,h⟩
    ·refine Wi l8 rfl ?_
     exact Zu (Zd (iE () _ _ ⟨lD,hfr,l9,n9,vC,bD,aB⟩ h))
    ·refine Wg l8 rfl ?_
     refine Wb ?_;refine Tx ?_;refine Tx ?_;refine Qh ?_;exact Zd (aE () _ _ ⟨lD,hfr⟩ h)
   ·rintro _ sF aG ⟨uE, hfr, lB, l5, mB, t5, i6⟩ h
    refine Zq h (fun (s:Unit) e w=>∃ (g:Gh) ,Fr gI wI g w∧e 0=up0∧RV g.m w (x0:List Int) up0∧e 1=up1∧RV g.m w (x1:List Int) up1∧e 5=.int .i64 (o0)) (fun X81 cD lE h=>?_) ?_
    ·refine Zr ?_
     refine Zf ?_;obtain ⟨n8,nB,h⟩:=Gc h;have vE:=Tp l5 nB;refine Zs (x:=.tmp 19) Try.isAgg3 Try.sizeOf3 vE fun bG xE mE=>?_;obtain rfl:=Zj.1 xE;obtain ⟨v8,oB,h⟩:=Gc h;have yE:=Tp t5 oB;refine Zs (x:=.tmp 23) Try.isAgg3 Try.sizeOf3 yE fun cG zE oE=>?_;obtain rfl:=Zj.1 zE;refine Qi (g:=uE) (n:=9) [] [0,1,2,3,4,5,6,7,8] rfl mixed (by kernel_rfl) trivial ?_;refine Gb up0 rfl rfl (Zk lB) ?_;refine Gb (.int .i64 (o0)) rfl rfl (Zk i6) ?_;refine Gb (Qu up0 o0 1) rfl rfl (Zh (α:=Int) Try.underlying22 Try.sizeOf3 rfl l5 rfl nB) ?_;refine Te (c:=.int .i64 (n8)) rfl rfl .plain (fun _ _ h=>h.ch) mE rfl ?_;refine Gb up1 rfl rfl (Zk mB) ?_;refine Gb (.int .i64 (o0)) rfl rfl (Zk i6) ?_;refine Gb (Qu up1 o0 1) rfl rfl (Zh (α:=Int) Try.underlying22 Try.sizeOf3 rfl t5 rfl oB) ?_;refine Te (c:=.int .i64 (v8)) rfl rfl .plain (fun _ _ h=>h.ch) oE rfl ?_;refine Gb (.bool ((n8 != v8))) rfl rfl (Td rfl rfl rfl) ?_;refine Ul fun cF eG hs=>?_;have hfr:=hfr.ext hs;have l5:=l5.ext hs;have t5:=t5.ext hs;clear hs;refine Zb (Zd ?_);rcases Zt h with ⟨g8,h⟩ | ⟨g8,h⟩
     ·refine Wi g8 rfl ?_
      refine Zf (Za (Zg (.bool false) rfl rfl ?_));refine Zb (Zd (Gz (Wf ?_)));refine Tq ?_;refine Tq ?_;refine Wf ?_;refine Tq ?_;obtain rfl:=sinj h;exact Kb rfl rfl (show _=.bool false from rfl) ⟨_,hfr,rfl⟩
     ·refine Wg g8 rfl ?_
      exact Zu (We (Zd (lE () _ _ ⟨cF,hfr,lB,l5,mB,t5,i6⟩ h)))
    ·rintro _ dF tF ⟨rE, hfr, vB, yB, zB, cC, uC⟩ h
     refine Za (Zo uC rfl ?_);refine Gy (.int .i64 ((w64 (o0 + (1:Int))))) rfl rfl rfl rfl ?_;refine Zg (.int .i64 ((w64 (o0 + (1:Int))))) rfl rfl ?_;exact Zb (Zd (bE ((w64 (o0 + (1:Int)))) _ _ ⟨rE,hfr,vB,yB,zB,cC,rfl⟩ h))
  ·rintro _ eF uF ⟨vF, hfr⟩ h
   refine Zf (Za (Zg (.bool true) rfl rfl ?_));refine Zb (Zd (Gz ?_));obtain rfl:=sinj h;exact Kb rfl rfl (show _=.bool true from rfl) ⟨_,hfr,rfl⟩
def f24 (x0:List (List Int)):Option ((List (List Int))):=
 Option.bind (α:=(List (List Int))) (
  lp (σ:=(List (List Int)) × Int) (fun bE (t5,o0)=>
   jn (σ:=Unit) (fun _=>
    Option.bind (α:=(List (List Int))) (
     (idx x0 o0).bind fun iE=>
     (f16 iE).bind fun y43=>
     (apnd 24 t5 (([y43]:List (List Int)))).bind fun lE=>
     some (lE)
     ) fun i6=>
    bE (i6,(w64 (o0 + (1:Int))))
    ) fun k28=>
   bif (decide (o0 < ((x0).length : Int))) then
    k28 ()
   else
    some (t5)
   ) big (([]:List (List Int)),(0:Int))
  ) fun n8=>
 some (n8)
theorem en24:Enters Try.prog 24:=enters_of Try.func24 (by kernel_rfl) rfl
theorem wk24 {gI:Gh} {wI:World} {x0:List (List Int)} {up0:Value} (rp0:RV gI.m wI x0 up0) {r:(List (List Int))} (h:f24 x0=some r):Fn Try.prog 24 #[up0] gI wI (fun m w v=>RV m w (r) v):=by
 unfold f24 at h;refine Tk Try.func24 rfl (Nat.le_of_ble_eq_true rfl) fun g0 hm hfr=>?_;have rp0:RV g0.m wI x0 up0:=hm ▸ rp0;show E _ 21 none _ _ _ _ _;refine Zf (Za (Zg (.slice none 0 0) rfl rfl ?_));refine Zb (Zd (Zf (Za (Ze .plain rfl (Gm (g:=g0) 3005 (xs:=([]:List (List Int))) (vs:=[]) Try.underlying42 Try.sizeOf22 Try.zeroValue22 rfl rfl .nil RVs.nil rfl rfl fun g1 w1 v1 hs o1 r1 hxt hfl=>?_)))));have hfr:=hfr.stp hs;have rp0:=rp0.stp hs;refine Zg v1 rfl rfl ?_;refine Zb (Zd ?_);obtain ⟨n8,hx,h⟩:=Gc h;refine Tm (fun e w=>∃ (g:Gh) (v3:Value),Fr gI wI g w∧e 3=v3∧RV g.m w (n8:List (List Int)) v3∧OS 3005 g w 22 (n8:List (List Int)) v3) (fun Q' hQ=>?_) (fun bG jG hR=>?_)
 ·replace h := hx
  clear hx;refine Zf (Za (Zg (.int .i64 (0)) rfl rfl ?_));refine Zb (Zd (Zr ?_));refine Jv h (fun (s:(List (List Int)) × Int) e w=>∃ (g:Gh) (v3:Value),Fr gI wI g w∧e 0=up0∧RV g.m w (x0:List (List Int)) up0∧e 3=v3∧RV g.m w (s.1:List (List Int)) v3∧OS 3005 g w 22 (s.1:List (List Int)) v3∧e 4=.int .i64 (s.2)) ⟨g1,(v1),hfr,rfl,rp0,rfl,r1,o1,rfl⟩ (fun X25 bE uE=>?_);rintro ⟨t5,o0⟩ cG kG ⟨mE,v8,hfr,n9,aB,lB,mB,nB,oB⟩ h;refine Zq h (fun (s:Unit) e w=>∃ (g:Gh) ,Fr gI wI g w∧e 0=up0∧RV g.m w (x0:List (List Int)) up0∧e 3=v8∧RV g.m w (t5:List (List Int)) v8∧OS 3005 g w 22 (t5:List (List Int)) v8∧e 4=.int .i64 (o0)) (fun X28 k28 vE h=>?_) ?_
  ·refine Zf (Za (Zo oB rfl ?_))
   refine Zo n9 rfl ?_;refine Zy (.int .i64 ((x0).length:Int)) (Qm Try.underlying42 rfl aB) rfl ?_;refine Gy (.bool ((decide (o0 < ((x0).length:Int))))) rfl rfl rfl rfl ?_;refine Zb (Zd ?_);rcases Zt h with ⟨l9,h⟩ | ⟨l9,h⟩
   ·refine Wi l9 rfl ?_
    exact Zu (Zd (vE () _ _ ⟨mE,hfr,n9,aB,lB,mB,nB,oB⟩ h))
   ·refine Wg l9 rfl ?_
    refine Wb ?_;refine Tx ?_;refine Tx ?_;refine Qh ?_;obtain rfl:=sinj h;exact hQ _ _ ⟨mE,(v8),hfr,lB,mB,nB⟩
  ·rintro _ eG lG ⟨oE, hfr, vB, l5, uC, g8, l8, yB⟩ h
   obtain ⟨i6,hx,h⟩:=Gc h;refine Tm (fun e w=>∃ (g:Gh) (v3:Value),Fr gI wI g w∧e 0=up0∧RV g.m w (x0:List (List Int)) up0∧e 3=v3∧RV g.m w (i6:List (List Int)) v3∧OS 3005 g w 22 (i6:List (List Int)) v3∧e 4=.int .i64 (o0)) (fun Q' hQ=>?_) (fun gG mG hR=>?_)
   ·replace h := hx
    clear hx;refine Zr ?_;refine Za (Zo uC rfl ?_);refine Zo vB rfl ?_;refine Zo yB rfl ?_;obtain ⟨iE,cC,h⟩:=Gc h;refine Zy (Qu up0 o0 1) (Zh (α:=List Int) Try.underlying42 Try.sizeOf22 rfl l5 rfl cC) rfl ?_;have zE:=Tp l5 cC;refine Ze .plain rfl (Gx (g:=oE) Try.isAgg22 Try.sizeOf22 rfl zE fun cF dF=>?_);obtain ⟨y43,xE,h⟩:=Gc h;refine Ze .plain rfl (Zp (g:=oE) (vs:=[cF]) en16 (.cons rfl .nil) (wk16 dF xE) fun eF iG rF hs hr=>?_);have hfr:=hfr.ext hs;have l5:=l5.ext hs;have g8:=g8.ext hs;have l8:=l8.ext hs;have sF:=hr;refine Ze .plain rfl (Gm (g:=eF) 3018 (xs:=([y43]:List (List Int))) (vs:=[rF]) Try.underlying42 Try.sizeOf22 Try.zeroValue22 rfl rfl (.cons rfl .nil) (RVs.cons sF RVs.nil) rfl rfl fun tF sG xG hs o44 uF hxt hfl=>?_);have hfr:=hfr.stp hs;have l5:=l5.stp hs;have g8:=g8.stp hs;have l8:=l8.stp hs rfl;obtain ⟨lE,yE,h⟩:=Gc h;refine Ze .plain rfl (Ke (g:=tF) (i:=3005) Try.underlying42 Dz rfl rfl l8 g8 rfl uF yE fun vF yG rE hs o45 xF _=>?_);have hfr:=hfr.stp hs;have l5:=l5.stp hs;refine Zg rE rfl rfl ?_;refine Zb (We ?_);obtain rfl:=sinj h;exact hQ _ _ ⟨vF,(rE),hfr,vB,l5,rfl,xF,o45,yB⟩
   ·clear hx
    obtain ⟨yF,vC,hfr,bD,cD,lD,nD,oD,yD⟩:=hR;refine Za (Zo yD rfl ?_);refine Gy (.int .i64 ((w64 (o0 + (1:Int))))) rfl rfl rfl rfl ?_;refine Zg (.int .i64 ((w64 (o0 + (1:Int))))) rfl rfl ?_;exact Zb (Zd (uE (i6,(w64 (o0 + (1:Int)))) _ _ ⟨yF,(vC),hfr,bD,cD,lD,nD,oD,rfl⟩ h))
 ·clear hx
  obtain ⟨zG,zB,hfr,zD,aE,aG⟩:=hR;refine Zf (Za (Zo zD rfl ?_));refine Zg zB rfl rfl ?_;refine Zb (Zd (Gz ?_));obtain rfl:=sinj h;exact Kb rfl rfl (show _=zB from rfl) ⟨_,hfr,aE⟩
def f42 (x0:Int) (x1:Int):Option (Kf):=
 some ((⟨x0,x1⟩:Kf))
theorem en42:Enters Try.prog 42:=enters_of Try.func42 (by kernel_rfl) rfl
theorem wk42 {gI:Gh} {wI:World} {x0:Int} {x1:Int}  {r:Kf} (h:f42 x0 x1=some r):Fn Try.prog 42 #[.int .i64 (x0),.int .i64 (x1)] gI wI (fun m w v=>RV m w (r) v):=by
 unfold f42 at h;refine Tk Try.func42 rfl (Nat.le_of_ble_eq_true rfl) fun g0 hm hfr=>?_;show E _ 8 none _ _ _ _ _;refine Zf (Za (Ze .plain rfl (Gq (g:=g0) 2004 (⟨0,0⟩:Kf) Try.zeroValue85 (fun m w=>⟨_,(Gi Zx Zx),rfl⟩) fun g1 w1 p1 hs b1 cb=>?_)));have hfr:=hfr.stp hs;clear cb;refine Zb (Zd (Zf (Za (Zn (.int .i64 (x0)) rfl rfl ?_))));refine Zn (.int .i64 (x1)) rfl rfl ?_;have r2:RV g1.m w1 (⟨x0,x1⟩:Kf) (.agg (Qj [[.int .i64 0],[.int .i64 0]] [(0,.int .i64 (x0)),(1,.int .i64 (x1))]).flatten.toArray):=Qv rfl (Qc (rfl) (Kd (rfl)));generalize hv2:(Value.agg (Qj [[.int .i64 0],[.int .i64 0]] [(0,.int .i64 (x0)),(1,.int .i64 (x1))]).flatten.toArray)=v2 at r2;refine Zy v2 (hv2 ▸ Kr (vs:=[(0,.int .i64 (x0)),(1,.int .i64 (x1))]) [[.int .i64 0],[.int .i64 0]] lay_85 rfl rfl (.cons rfl (.cons rfl .nil)) ⟨⟨_,rfl,rfl⟩,⟨⟨_,rfl,rfl⟩,trivial⟩⟩) rfl ?_;refine Ze .plain rfl (Gl (g:=g1) (v:=v2) Try.sizeOf85 rfl b1 rfl r2 fun g3 w3 hs b3 cb=>?_);clear cb;have hfr:=hfr.stp hs;refine Zb (Zd (Gz ?_));obtain rfl:=sinj h;obtain ⟨ad4,cv4,hp4,o0,cr4⟩:=Qn Try.isAgg85 Try.sizeOf85 b3;exact Xh rfl rfl ((show _=p1 from rfl).trans hp4) o0 ⟨_,hfr,cr4⟩
def f44 (x0:BoxLoom) (x1:List Int):Option ((List Int)):=
 Option.bind (α:=(List Int)) (
  lp (σ:=(List Int) × Int) (fun xF (l8,o0)=>
   jn (σ:=Unit) (fun _=>
    Option.bind (α:=(List Int)) (
     (idx x1 o0).bind fun n9=>
     (idx ((x0).Shuttles) n9).bind fun l5=>
     (apnd 8 l8 (([(l5).Colour]:List Int))).bind fun yD=>
     some (yD)
     ) fun g8=>
    xF (g8,(w64 (o0 + (1:Int))))
    ) fun yF=>
   bif (decide (o0 < ((x1).length : Int))) then
    yF ()
   else
    some (l8)
   ) big (([]:List Int),(0:Int))
  ) fun n8=>
 some (n8)
theorem en44:Enters Try.prog 44:=enters_of Try.func44 (by kernel_rfl) rfl
theorem wk44 {gI:Gh} {wI:World} {x0:BoxLoom} {x1:List Int} {up0:Value} (rp0:RV gI.m wI x0 up0) {up1:Value} (rp1:RV gI.m wI x1 up1) {r:(List Int)} (h:f44 x0 x1=some r):Fn Try.prog 44 #[up0,up1] gI wI (fun m w v=>RV m w (r) v):=by
 unfold f44 at h;refine Tk Try.func44 rfl (Nat.le_of_ble_eq_true rfl) fun g0 hm hfr=>?_;have rp0:RV g0.m wI x0 up0:=hm ▸ rp0;have rp1:RV g0.m wI x1 up1:=hm ▸ rp1;show E _ 27 none _ _ _ _ _;refine Zf (Za (Ze .plain rfl (Wj (g:=g0) rfl rp0 fun g1 w1 p1 hs q1=>?_)));have hfr:=hfr.ext hs;have rp1:=rp1.ext hs;refine Zg (.slice none 0 0) rfl rfl ?_;refine Zb (Zd (Zf (Za (Ze .plain rfl (Gm (g:=g1) 3007 (xs:=([]:List Int)) (vs:=[]) Try.underlying22 Try.sizeOf3 Try.zeroValue3 rfl rfl .nil RVs.nil rfl rfl fun g2 w2 v2 hs o2 r2 hxt hfl=>?_)))));have hfr:=hfr.stp hs;have rp1:=rp1.stp hs;have q1:=q1.stp hs;refine Zg v2 rfl rfl ?_;refine Zb (Zd ?_);obtain ⟨n8,hx,h⟩:=Gc h;refine Tm (fun e w=>∃ (g:Gh) (v5:Value),Fr gI wI g w∧e 5=v5∧RV g.m w (n8:List Int) v5∧OS 3007 g w 3 (n8:List Int) v5) (fun Q' hQ=>?_) (fun cH jH hR=>?_)
 ·replace h := hx
  clear hx;refine Zf (Za (Zg (.int .i64 (0)) rfl rfl ?_));refine Zb (Zd (Zr ?_));refine Jv h (fun (s:(List Int) × Int) e w=>∃ (g:Gh) (v5:Value),Fr gI wI g w∧e 1=up1∧RV g.m w (x1:List Int) up1∧e 2=p1∧PT g.m w (x0:BoxLoom) p1∧e 5=v5∧RV g.m w (s.1:List Int) v5∧OS 3007 g w 3 (s.1:List Int) v5∧e 6=.int .i64 (s.2)) ⟨g2,(v2),hfr,rfl,rp1,rfl,q1,rfl,r2,o2,rfl⟩ (fun X67 xF bG=>?_);rintro ⟨l8,o0⟩ kH tH ⟨aG,v8,hfr,vB,yB,dF,eF,zB,cC,uC,vC⟩ h;refine Zq h (fun (s:Unit) e w=>∃ (g:Gh) ,Fr gI wI g w∧e 1=up1∧RV g.m w (x1:List Int) up1∧e 2=p1∧PT g.m w (x0:BoxLoom) p1∧e 5=v8∧RV g.m w (l8:List Int) v8∧OS 3007 g w 3 (l8:List Int) v8∧e 6=.int .i64 (o0)) (fun X70 yF cG h=>?_) ?_
  ·refine Zf (Za (Zo vC rfl ?_))
   refine Zo vB rfl ?_;refine Zy (.int .i64 ((x1).length:Int)) (Qm Try.underlying22 rfl yB) rfl ?_;refine Gy (.bool ((decide (o0 < ((x1).length:Int))))) rfl rfl rfl rfl ?_;refine Zb (Zd ?_);rcases Zt h with ⟨nB,h⟩ | ⟨nB,h⟩
   ·refine Wi nB rfl ?_
    exact Zu (Zd (cG () _ _ ⟨aG,hfr,vB,yB,dF,eF,zB,cC,uC,vC⟩ h))
   ·refine Wg nB rfl ?_
    refine Wb ?_;refine Tx ?_;refine Tx ?_;refine Qh ?_;obtain rfl:=sinj h;exact hQ _ _ ⟨aG,(v8),hfr,zB,cC,uC⟩
  ·rintro _ lH uH ⟨zG, hfr, bD, t5, cD, i6, rF, aB, lB, lD⟩ h
   obtain ⟨g8,hx,h⟩:=Gc h;refine Tm (fun e w=>∃ (g:Gh) (v5:Value),Fr gI wI g w∧e 1=up1∧RV g.m w (x1:List Int) up1∧e 2=p1∧PT g.m w (x0:BoxLoom) p1∧e 5=v5∧RV g.m w (g8:List Int) v5∧OS 3007 g w 3 (g8:List Int) v5∧e 6=.int .i64 (o0)) (fun Q' hQ=>?_) (fun gH mH hR=>?_)
   ·replace h := hx
    clear hx;refine Zr ?_;have eG:=Zm (Tu).1 i6;refine Zs (x:=.tmp 15) Try.isAgg23 Try.sizeOf23 eG fun oB zD sF=>?_;obtain ⟨n9,nD,h⟩:=Gc h;have gG:=Tp t5 nD;refine Zs (x:=.tmp 19) Try.isAgg3 Try.sizeOf3 gG fun nH iG tF=>?_;obtain rfl:=Zj.1 iG;obtain ⟨l5,oD,h⟩:=Gc h;have aE:=Tp zD oD;have jG:=Zm (Jt).1 aE;refine Zs (x:=.tmp 22) Try.isAgg3 Try.sizeOf3 jG fun oH kG uF=>?_;obtain rfl:=Zj.1 kG;refine Qi (g:=zG) (n:=11) [(10,(fun v g w=>RV g.m w ([(l5).Colour]:List Int) v∧OS 3024 g w 3 ([(l5).Colour]:List Int) v∧Gw v))] [0,1,2,3,4,5,6,7,8,9,10] rfl mixed (by kernel_rfl) (⟨fun _=>Tt Kp (Tt Ho (Qq _)),trivial⟩) ?_;refine Gb v8 rfl rfl (Zk rF) ?_;refine Gb (Gn p1 2) rfl rfl (Zc Kq cD (PT.ptr i6)) ?_;refine Te (c:=oB) rfl rfl .plain (fun _ _ h=>h.ch) sF rfl ?_;refine Gb up1 rfl rfl (Zk bD) ?_;refine Gb (.int .i64 (o0)) rfl rfl (Zk lD) ?_;refine Gb (Qu up1 o0 1) rfl rfl (Zh (α:=Int) Try.underlying22 Try.sizeOf3 rfl t5 rfl nD) ?_;refine Te (c:=.int .i64 (n9)) rfl rfl .plain (fun _ _ h=>h.ch) tF rfl ?_;refine Gb (Qu oB n9 5) rfl rfl (Zh (α:=Zv) Try.underlying23 Try.sizeOf87 rfl zD rfl oD) ?_;refine Gb (Gn (Qu oB n9 5) 0) rfl rfl (Zc Vv rfl (PT.ptr aE)) ?_;refine Te (c:=.int .i64 ((l5).Colour)) rfl rfl .plain (fun _ _ h=>h.ch) uF rfl ?_;refine Qw (φ:=fun v g w=>RV g.m w ([(l5).Colour]:List Int) v∧OS 3024 g w 3 ([(l5).Colour]:List Int) v∧Gw v) rfl rfl .plain (fun g w hd=>Gm (g:=g) 3024 (xs:=([(l5).Colour]:List Int)) (vs:=[.int .i64 ((l5).Colour)]) Try.underlying22 Try.sizeOf3 Try.zeroValue3 rfl rfl (.cons rfl .nil) (RVs.cons (Zj.2 rfl) RVs.nil) rfl rfl fun g' w' v hs o r hxt hfl=>⟨g',hxt,r,o,hfl⟩) (fun l9 hv=>?_);clear hv;refine Jr fun lG pH hall=>?_;have hs:=hall.1;have hfr:=hfr.ext hs;have t5:=t5.ext hs;have i6:=i6.ext hs;have aB:=aB.ext hs;have lB:=lB.ext hs;have mG:=(Gs (A:=fun g w=>RV g.m w ([(l5).Colour]:List Int) l9∧OS 3024 g w 3 ([(l5).Colour]:List Int) l9∧Gw l9) 10 rfl hall).1;have o126:=(Gs (A:=fun g w=>RV g.m w ([(l5).Colour]:List Int) l9∧OS 3024 g w 3 ([(l5).Colour]:List Int) l9∧Gw l9) 10 rfl hall).2.1;clear hs hall;obtain ⟨yD,vF,h⟩:=Gc h;refine Ze .plain rfl (Ke (g:=lG) (i:=3007) Try.underlying22 Jo rfl rfl lB aB rfl mG vF fun sG qH bE hs o127 xG _=>?_);have hfr:=hfr.stp hs;have t5:=t5.stp hs;have i6:=i6.stp hs;refine Zg bE rfl rfl ?_;refine Zb (We ?_);obtain rfl:=sinj h;exact hQ _ _ ⟨sG,(bE),hfr,bD,t5,cD,i6,rfl,xG,o127,lD⟩
   ·clear hx
    obtain ⟨yG,iE,hfr,lE,mE,oE,rE,uE,vE,xE,yE⟩:=hR;refine Za (Zo yE rfl ?_);refine Gy (.int .i64 ((w64 (o0 + (1:Int))))) rfl rfl rfl rfl ?_;refine Zg (.int .i64 ((w64 (o0 + (1:Int))))) rfl rfl ?_;exact Zb (Zd (bG (g8,(w64 (o0 + (1:Int)))) _ _ ⟨yG,(iE),hfr,lE,mE,oE,rE,uE,vE,xE,rfl⟩ h))
 ·clear hx
  obtain ⟨sH,mB,hfr,zE,cF,aH⟩:=hR;refine Zf (Za (Zo zE rfl ?_));refine Zg mB rfl rfl ?_;refine Zb (Zd (Gz ?_));obtain rfl:=sinj h;exact Kb rfl rfl (show _=mB from rfl) ⟨_,hfr,cF⟩
def f45 (x0:BoxLoom):Option ((Vector (Vector Int 4) 2)):=
 Option.bind (α:=(Vector (Vector Int 4) 2)) (
  lp (σ:=(Vector (Vector Int 4) 2) × Int) (fun k94 (l8,o0)=>
   jn (σ:=Unit) (fun _=>
    Option.bind (α:=(Vector (Vector Int 4) 2)) (
     (idx ((x0).Shuttles) o0).bind fun g8=>
     (idx ((x0).Shuttles) o0).bind fun l9=>
     (idx (l8).toList (g8).Side).bind fun uE=>
     (idx (uE).toList (l9).Box).bind fun iG=>
     some ((Jq l8 ((g8).Side) (fun b=>(Ku b ((l9).Box) ((w64 (o0 + (1:Int))))))))
     ) fun n8=>
    k94 (n8,(w64 (o0 + (1:Int))))
    ) fun gG=>
   bif (decide (o0 < (((x0).Shuttles).length : Int))) then
    gG ()
   else
    some (l8)
   ) big ((⟨List.toArray [(⟨List.toArray [0,0,0,0],rfl⟩:Vector Int 4),(⟨List.toArray [0,0,0,0],rfl⟩:Vector Int 4)],rfl⟩:Vector (Vector Int 4) 2),(0:Int))
  ) fun n9=>
 some (n9)
theorem en45:Enters Try.prog 45:=enters_of Try.func45 (by kernel_rfl) rfl
theorem wk45 {gI:Gh} {wI:World} {x0:BoxLoom} {up0:Value} (rp0:RV gI.m wI x0 up0) {r:(Vector (Vector Int 4) 2)} (h:f45 x0=some r):Fn Try.prog 45 #[up0] gI wI (fun m w v=>RV m w (r) v):=by
 unfold f45 at h;refine Tk Try.func45 rfl (Nat.le_of_ble_eq_true rfl) fun g0 hm hfr=>?_;have rp0:RV g0.m wI x0 up0:=hm ▸ rp0;show E _ 30 none _ _ _ _ _;refine Zf (Za (Ze .plain rfl (Wj (g:=g0) rfl rp0 fun g1 w1 p1 hs q1=>?_)));have hfr:=hfr.ext hs;have rp0:=rp0.ext hs;refine Ze .plain rfl (Gq (g:=g1) 2002 ((⟨List.toArray [(⟨List.toArray [0,0,0,0],rfl⟩:Vector Int 4),(⟨List.toArray [0,0,0,0],rfl⟩:Vector Int 4)],rfl⟩:Vector (Vector Int 4) 2):Vector (Vector Int 4) 2) Try.zeroValue76 (fun m w=>⟨_,(Gp (Zw (Gp (Zw Zx (Zw Zx (Zw Zx (Zw Zx Gk)))) rfl) (Zw (Gp (Zw Zx (Zw Zx (Zw Zx (Zw Zx Gk)))) rfl) Gk)) rfl),rfl⟩) fun g2 w2 p2 hs b2 cb=>?_);have hfr:=hfr.stp hs;have rp0:=rp0.stp hs;have q1:=q1.stp hs;clear cb;refine Zb (Zd (Zf (Za ?_)));have r3:RV g2.m w2 (⟨List.toArray [(⟨List.toArray [0,0,0,0],rfl⟩:Vector Int 4),(⟨List.toArray [0,0,0,0],rfl⟩:Vector Int 4)],rfl⟩:Vector (Vector Int 4) 2) (.agg (Qj [[.int .i64 0,.int .i64 0,.int .i64 0,.int .i64 0],[.int .i64 0,.int .i64 0,.int .i64 0,.int .i64 0]] []).flatten.toArray):=Qv rfl (Gp (Zw (Gp (Zw Zx (Zw Zx (Zw Zx (Zw Zx Gk)))) rfl) (Zw (Gp (Zw Zx (Zw Zx (Zw Zx (Zw Zx Gk)))) rfl) Gk)) rfl);generalize hv3:(Value.agg (Qj [[.int .i64 0,.int .i64 0,.int .i64 0,.int .i64 0],[.int .i64 0,.int .i64 0,.int .i64 0,.int .i64 0]] []).flatten.toArray)=v3 at r3;refine Zy v3 (hv3 ▸ Ug (vs:=[]) [[.int .i64 0,.int .i64 0,.int .i64 0,.int .i64 0],[.int .i64 0,.int .i64 0,.int .i64 0,.int .i64 0]] Try.underlying76 layA_76 szA_75 rfl (by simp) .nil trivial) rfl ?_;refine Ze .plain rfl (Gq (g:=g2) 2003 ((⟨List.toArray [(⟨List.toArray [0,0,0,0],rfl⟩:Vector Int 4),(⟨List.toArray [0,0,0,0],rfl⟩:Vector Int 4)],rfl⟩:Vector (Vector Int 4) 2):Vector (Vector Int 4) 2) Try.zeroValue76 (fun m w=>⟨_,(Gp (Zw (Gp (Zw Zx (Zw Zx (Zw Zx (Zw Zx Gk)))) rfl) (Zw (Gp (Zw Zx (Zw Zx (Zw Zx (Zw Zx Gk)))) rfl) Gk)) rfl),rfl⟩) fun g4 w4 p4 hs b4 cb=>?_);have hfr:=hfr.stp hs;have rp0:=rp0.stp hs;have q1:=q1.stp hs;have b2:=b2.stp hs rfl;have r3:=r3.stp hs;clear cb;refine Ze .plain rfl (Gl (g:=g4) (v:=v3) Try.sizeOf76 rfl b4 rfl r3 fun g5 w5 hs b5 cb=>?_);clear cb;have hfr:=hfr.stp hs;have rp0:=rp0.stp hs;have q1:=q1.stp hs;have b2:=b2.stp hs rfl;have r3:=r3.stp hs;refine Zb (Zd ?_);obtain ⟨n9,hx,h⟩:=Gc h;refine Tm (fun e w=>∃ (g:Gh) ,Fr gI wI g w∧e 2=p2∧OB 2002 g w 76 (((⟨List.toArray [(⟨List.toArray [0,0,0,0],rfl⟩:Vector Int 4),(⟨List.toArray [0,0,0,0],rfl⟩:Vector Int 4)],rfl⟩:Vector (Vector Int 4) 2):Vector (Vector Int 4) 2):Vector (Vector Int 4) 2) p2∧e 3=p4∧OB 2003 g w 76 (n9:Vector (Vector Int 4) 2) p4) (fun Q' hQ=>?_) (fun kH nH hR=>?_)
 ·replace h := hx
  clear hx;refine Zf (Za (Zg (.int .i64 (0)) rfl rfl ?_));refine Zb (Zd (Zr ?_));refine Jv h (fun (s:(Vector (Vector Int 4) 2) × Int) e w=>∃ (g:Gh) ,Fr gI wI g w∧e 1=p1∧PT g.m w (x0:BoxLoom) p1∧e 2=p2∧OB 2002 g w 76 (((⟨List.toArray [(⟨List.toArray [0,0,0,0],rfl⟩:Vector Int 4),(⟨List.toArray [0,0,0,0],rfl⟩:Vector Int 4)],rfl⟩:Vector (Vector Int 4) 2):Vector (Vector Int 4) 2):Vector (Vector Int 4) 2) p2∧e 3=p4∧OB 2003 g w 76 (s.1:Vector (Vector Int 4) 2) p4∧e 4=.int .i64 (s.2)) ⟨g5,hfr,rfl,q1,rfl,b2,rfl,b5,rfl⟩ (fun X94 k94 jG=>?_);rintro ⟨l8,o0⟩ oH bI ⟨vE,hfr,oD,lB,yD,zD,aE,bE,iE⟩ h;refine Zq h (fun (s:Unit) e w=>∃ (g:Gh) ,Fr gI wI g w∧e 1=p1∧PT g.m w (x0:BoxLoom) p1∧e 2=p2∧OB 2002 g w 76 (((⟨List.toArray [(⟨List.toArray [0,0,0,0],rfl⟩:Vector Int 4),(⟨List.toArray [0,0,0,0],rfl⟩:Vector Int 4)],rfl⟩:Vector (Vector Int 4) 2):Vector (Vector Int 4) 2):Vector (Vector Int 4) 2) p2∧e 3=p4∧OB 2003 g w 76 (l8:Vector (Vector Int 4) 2) p4∧e 4=.int .i64 (o0)) (fun X99 gG kG h=>?_) ?_
  ·refine Zf (Za (Zo iE rfl ?_))
   refine Zy (Gn p1 2) (Zc Kq oD (PT.ptr lB)) rfl ?_;have lG:=Zm (Tu).1 lB;refine Ze .plain rfl (Gx (g:=vE) Try.isAgg23 Try.sizeOf23 rfl lG fun pH mG=>?_);refine Zy (.int .i64 (((x0).Shuttles).length:Int)) (Qm Try.underlying23 rfl mG) rfl ?_;refine Zy (.bool ((decide (o0 < (((x0).Shuttles).length:Int))))) (Td rfl rfl rfl) rfl ?_;refine Zb (Zd ?_);rcases Zt h with ⟨mB,h⟩ | ⟨mB,h⟩
   ·refine Wi mB rfl ?_
    exact Zu (Zd (kG () _ _ ⟨vE,hfr,oD,lB,yD,zD,aE,bE,iE⟩ h))
   ·refine Wg mB rfl ?_
    refine Wb ?_;refine Tx ?_;refine Tx ?_;refine Qh ?_;obtain rfl:=sinj h;exact hQ _ _ ⟨vE,hfr,yD,zD,aE,bE⟩
  ·rintro _ lH qH ⟨sG, hfr, aB, l5, xE, t5, zB, i6, v8⟩ h
   obtain ⟨n8,hx,h⟩:=Gc h;refine Tm (fun e w=>∃ (g:Gh) ,Fr gI wI g w∧e 1=p1∧PT g.m w (x0:BoxLoom) p1∧e 2=p2∧OB 2002 g w 76 (((⟨List.toArray [(⟨List.toArray [0,0,0,0],rfl⟩:Vector Int 4),(⟨List.toArray [0,0,0,0],rfl⟩:Vector Int 4)],rfl⟩:Vector (Vector Int 4) 2):Vector (Vector Int 4) 2):Vector (Vector Int 4) 2) p2∧e 3=p4∧OB 2003 g w 76 (n8:Vector (Vector Int 4) 2) p4∧e 4=.int .i64 (o0)) (fun Q' hQ=>?_) (fun mH sH hR=>?_)
   ·replace h := hx
    clear hx;refine Zr ?_;have uC:=Zm (Tu).1 l5;refine Zs (x:=.tmp 13) Try.isAgg23 Try.sizeOf23 uC fun vC nB yF=>?_;obtain ⟨g8,lE,h⟩:=Gc h;have oB:=Tp nB lE;have bD:=Zm (Wq).1 oB;refine Zs (x:=.tmp 17) Try.isAgg3 Try.sizeOf3 bD fun tH xG aG=>?_;obtain rfl:=Zj.1 xG;have cD:=Zm (Tu).1 l5;refine Zs (x:=.tmp 19) Try.isAgg23 Try.sizeOf23 cD fun lD vB bG=>?_;obtain ⟨l9,mE,h⟩:=Gc h;have yB:=Tp vB mE;have nD:=Zm (Kw).1 yB;refine Zs (x:=.tmp 23) Try.isAgg3 Try.sizeOf3 nD fun uH yG cG=>?_;obtain rfl:=Zj.1 yG;obtain ⟨uE,oE,h⟩:=Gc h;obtain ⟨hi155,he155⟩:=Wr oE;obtain ⟨iG,rE,h⟩:=Gc h;obtain ⟨hi157,he157⟩:=Wr rE;refine Qi (g:=sG) (n:=16) [] [0,1,2,3,4,5,6,7,8,9,10,11,12,13,14,15] rfl mixed (by kernel_rfl) trivial ?_;refine Gb (Gn p1 2) rfl rfl (Zc Kq aB (PT.ptr l5)) ?_;refine Te (c:=vC) rfl rfl .plain (fun _ _ h=>h.ch) yF rfl ?_;refine Gb (.int .i64 (o0)) rfl rfl (Zk v8) ?_;refine Gb (Qu vC o0 5) rfl rfl (Zh (α:=Zv) Try.underlying23 Try.sizeOf87 rfl nB rfl lE) ?_;refine Gb (Gn (Qu vC o0 5) 1) rfl rfl (Zc Jz rfl (PT.ptr oB)) ?_;refine Te (c:=.int .i64 ((g8).Side)) rfl rfl .plain (fun _ _ h=>h.ch) aG rfl ?_;refine Gb (Gn p1 2) rfl rfl (Zc Kq aB (PT.ptr l5)) ?_;refine Te (c:=lD) rfl rfl .plain (fun _ _ h=>h.ch) bG rfl ?_;refine Gb (.int .i64 (o0)) rfl rfl (Zk v8) ?_;refine Gb (Qu lD o0 5) rfl rfl (Zh (α:=Zv) Try.underlying23 Try.sizeOf87 rfl vB rfl mE) ?_;refine Gb (Gn (Qu lD o0 5) 2) rfl rfl (Zc Vx rfl (PT.ptr yB)) ?_;refine Te (c:=.int .i64 ((l9).Box)) rfl rfl .plain (fun _ _ h=>h.ch) cG rfl ?_;refine Gb (.int .i64 (o0)) rfl rfl (Zk v8) ?_;refine Gb (.int .i64 ((w64 (o0 + (1:Int))))) rfl rfl (Td rfl rfl rfl) ?_;refine Gb (Gn p4 (((g8).Side:Int).toNat * 4)) rfl rfl (To (α:=Vector Int 4) Try.underlying76 Try.sizeOf75 zB (OB.ptr i6) rfl oE) ?_;refine Gb (Gn p4 ((((g8).Side:Int).toNat * 4) + ((l9).Box:Int).toNat * 1)) rfl rfl (Qs (α:=Int) (o1:=(((g8).Side:Int).toNat * 4)) rfl Try.underlying75 Try.sizeOf3 rfl (OB.ptr i6) rfl rE) ?_;refine Ul fun zG xH hs=>?_;have hfr:=hfr.ext hs;have l5:=l5.ext hs;have t5:=t5.ext hs;have i6:=i6.ext hs;have uC:=uC.ext hs;have nB:=nB.ext hs;have oB:=oB.ext hs;have bD:=bD.ext hs;have cD:=cD.ext hs;have vB:=vB.ext hs;have yB:=yB.ext hs;have nD:=nD.ext hs;clear hs;refine Ze .plain rfl (Wt (g:=zG) (Gv.at_ (Gv.dynC hi155 (Gv.dyn hi157) rfl) (by first | rfl | exact Nat.add_assoc _ _ _ | simp only [Nat.add_assoc,Nat.zero_add] | omega)) Try.sizeOf3 rfl i6 rfl (Zj.2 rfl) fun aH yH hs b179 rst hos=>?_);clear rst hos;have hfr:=hfr.stp hs;have l5:=l5.stp hs;have t5:=t5.stp hs rfl;refine Zb (We ?_);obtain rfl:=sinj h;exact hQ _ _ ⟨aH,hfr,aB,l5,xE,t5,zB,b179,v8⟩
   ·clear hx
    obtain ⟨cH,hfr,yE,zE,cF,dF,eF,rF,sF⟩:=hR;refine Za (Zo sF rfl ?_);refine Gy (.int .i64 ((w64 (o0 + (1:Int))))) rfl rfl rfl rfl ?_;refine Zg (.int .i64 ((w64 (o0 + (1:Int))))) rfl rfl ?_;exact Zb (Zd (jG (n8,(w64 (o0 + (1:Int)))) _ _ ⟨cH,hfr,yE,zE,cF,dF,eF,rF,rfl⟩ h))
 ·clear hx
  obtain ⟨tF,hfr,cC,uF,vF,xF⟩:=hR;refine Zf (Za (Ze .plain rfl (Tr (g:=tF) Try.isAgg76 Try.sizeOf76 vF xF fun gH jH=>?_)));refine Ze .plain rfl (Gl (g:=tF) (v:=gH) Try.sizeOf76 cC uF rfl jH fun zH aI hs b183 cb=>?_);clear cb;have hfr:=hfr.stp hs;refine Zb (Zd (Gz ?_));obtain rfl:=sinj h;obtain ⟨ad184,cv184,hp184,eG,cr184⟩:=Qn Try.isAgg76 Try.sizeOf76 b183;exact Xh rfl rfl ((show _=p2 from cC).trans hp184) eG ⟨_,hfr,cr184⟩
def f48 :Option (BoxLoom):=
 (f42 ((2:Int)) ((3:Int))).bind fun y5=>
 (f42 ((1:Int)) ((1:Int))).bind fun y8=>
 (f42 ((9:Int)) ((9:Int))).bind fun y11=>
 some ((⟨([(2:Int),(2:Int)]:List Int),([(0:Int),(0:Int)]:List Int),([(⟨(3:Int),0,0,y5⟩:Zv),(⟨(5:Int),0,(1:Int),y8⟩:Zv),(⟨(7:Int),(1:Int),(1:Int),y11⟩:Zv)]:List Zv)⟩:BoxLoom))
theorem en48:Enters Try.prog 48:=enters_of Try.func48 (by kernel_rfl) rfl
theorem wk48 {gI:Gh} {wI:World}   {r:BoxLoom} (h:f48 =some r):Fn Try.prog 48 #[] gI wI (fun m w v=>RV m w (r) v):=by
 unfold f48 at h;refine Tk Try.func48 rfl (Nat.le_of_ble_eq_true rfl) fun g0 hm hfr=>?_;show E _ 11 none _ _ _ _ _;refine Zf (Za (Ze .plain rfl (Gq (g:=g0) 2000 (⟨[],[],[]⟩:BoxLoom) Try.zeroValue25 (fun m w=>⟨_,(Gi Tb (Gi Tb Tb)),rfl⟩) fun g1 w1 p1 hs b1 cb=>?_)));have hfr:=hfr.stp hs;have cD:OSF 2000 60000 0 g1 w1 3 25 ([]:List Int) p1:=cb.osf (by rfl);have lD:OSF 2000 60001 1 g1 w1 3 25 ([]:List Int) p1:=cb.osf (by rfl);have nD:OSF 2000 60002 2 g1 w1 87 25 ([]:List Zv) p1:=cb.osf (by rfl);clear cb;refine Zb (Zd (Zf (Za (Ze .plain rfl (Gm (g:=g1) 3001 (xs:=([(2:Int),(2:Int)]:List Int)) (vs:=[.int .i64 (2),.int .i64 (2)]) Try.underlying22 Try.sizeOf3 Try.zeroValue3 rfl rfl (.cons rfl (.cons rfl .nil)) (RVs.cons (Zj.2 rfl) (RVs.cons (Zj.2 rfl) RVs.nil)) rfl rfl fun g2 w2 v2 hs o2 r2 hxt hfl=>?_)))));have hfr:=hfr.stp hs;have b1:=b1.stp hs rfl;refine Ze .plain rfl (Gm (g:=g2) 3002 (xs:=([(0:Int),(0:Int)]:List Int)) (vs:=[.int .i64 (0),.int .i64 (0)]) Try.underlying22 Try.sizeOf3 Try.zeroValue3 rfl rfl (.cons rfl (.cons rfl .nil)) (RVs.cons (Zj.2 rfl) (RVs.cons (Zj.2 rfl) RVs.nil)) rfl rfl fun g3 w3 v3 hs o3 r3 hxt hfl=>?_);have hfr:=hfr.stp hs;have b1:=b1.stp hs rfl;have r2:=r2.stp hs;have o2:=o2.stp hs rfl;obtain ⟨y5,hy5,h⟩:=Gc h;refine Ze .plain rfl (Zp (g:=g3) (vs:=[.int .i64 (2),.int .i64 (3)]) en42 (.cons rfl (.cons rfl .nil)) (wk42  hy5) fun g4 w4_ v4 hs hr=>?_);have hfr:=hfr.ext hs;have b1:=b1.ext hs;have r2:=r2.ext hs;have o2:=o2.ext hs;have r3:=r3.ext hs;have r4:=hr;have r6:RV g4.m _ (⟨(3:Int),0,0,y5⟩:Zv) (.agg (Qj [[.int .i64 0],[.int .i64 0],[.int .i64 0],[.int .i64 0,.int .i64 0]] [(0,.int .i64 (3)),(3,v4)]).flatten.toArray):=Qv rfl (Qc (rfl) (Qc (Zx) (Qc (Zx) (Kd (RV.cells r4)))));generalize vB:(Value.agg (Qj [[.int .i64 0],[.int .i64 0],[.int .i64 0],[.int .i64 0,.int .i64 0]] [(0,.int .i64 (3)),(3,v4)]).flatten.toArray)=v6 at r6;refine Zy v6 (vB ▸ Kr (vs:=[(0,.int .i64 (3)),(3,v4)]) [[.int .i64 0],[.int .i64 0],[.int .i64 0],[.int .i64 0,.int .i64 0]] Me rfl rfl (.cons rfl (.cons rfl .nil)) ⟨⟨_,rfl,rfl⟩,⟨⟨_,rfl,Qe r4⟩,trivial⟩⟩) rfl ?_;obtain ⟨y8,yB,h⟩:=Gc h;refine Ze .plain rfl (Zp (g:=g4) (vs:=[.int .i64 (1),.int .i64 (1)]) en42 (.cons rfl (.cons rfl .nil)) (wk42  yB) fun g7 w7_ v7 hs hr=>?_);have hfr:=hfr.ext hs;have b1:=b1.ext hs;have r2:=r2.ext hs;have o2:=o2.ext hs;have r3:=r3.ext hs;have r6:=r6.ext hs;have r7:=hr;have r9:RV g7.m _ (⟨(5:Int),0,(1:Int),y8⟩:Zv) (.agg (Qj [[.int .i64 0],[.int .i64 0],[.int .i64 0],[.int .i64 0,.int .i64 0]] [(0,.int .i64 (5)),(2,.int .i64 (1)),(3,v7)]).flatten.toArray):=Qv rfl (Qc (rfl) (Qc (Zx) (Qc (rfl) (Kd (RV.cells r7)))));generalize zB:(Value.agg (Qj [[.int .i64 0],[.int .i64 0],[.int .i64 0],[.int .i64 0,.int .i64 0]] [(0,.int .i64 (5)),(2,.int .i64 (1)),(3,v7)]).flatten.toArray)=v9 at r9;refine Zy v9 (zB ▸ Kr (vs:=[(0,.int .i64 (5)),(2,.int .i64 (1)),(3,v7)]) [[.int .i64 0],[.int .i64 0],[.int .i64 0],[.int .i64 0,.int .i64 0]] Me rfl rfl (.cons rfl (.cons rfl (.cons rfl .nil))) ⟨⟨_,rfl,rfl⟩,⟨⟨_,rfl,rfl⟩,⟨⟨_,rfl,Qe r7⟩,trivial⟩⟩⟩) rfl ?_;obtain ⟨y11,mB,h⟩:=Gc h;refine Ze .plain rfl (Zp (g:=g7) (vs:=[.int .i64 (9),.int .i64 (9)]) en42 (.cons rfl (.cons rfl .nil)) (wk42  mB) fun g8 oD l5 hs hr=>?_);have hfr:=hfr.ext hs;have b1:=b1.ext hs;have r2:=r2.ext hs;have o2:=o2.ext hs;have r3:=r3.ext hs;have r6:=r6.ext hs;have r9:=r9.ext hs;have l8:=hr;have n8:RV g8.m _ (⟨(7:Int),(1:Int),(1:Int),y11⟩:Zv) (.agg (Qj [[.int .i64 0],[.int .i64 0],[.int .i64 0],[.int .i64 0,.int .i64 0]] [(0,.int .i64 (7)),(1,.int .i64 (1)),(2,.int .i64 (1)),(3,l5)]).flatten.toArray):=Qv rfl (Qc (rfl) (Qc (rfl) (Qc (rfl) (Kd (RV.cells l8)))));generalize nB:(Value.agg (Qj [[.int .i64 0],[.int .i64 0],[.int .i64 0],[.int .i64 0,.int .i64 0]] [(0,.int .i64 (7)),(1,.int .i64 (1)),(2,.int .i64 (1)),(3,l5)]).flatten.toArray)=v8 at n8;refine Zy v8 (nB ▸ Kr (vs:=[(0,.int .i64 (7)),(1,.int .i64 (1)),(2,.int .i64 (1)),(3,l5)]) [[.int .i64 0],[.int .i64 0],[.int .i64 0],[.int .i64 0,.int .i64 0]] Me rfl rfl (.cons rfl (.cons rfl (.cons rfl (.cons rfl .nil)))) ⟨⟨_,rfl,rfl⟩,⟨⟨_,rfl,rfl⟩,⟨⟨_,rfl,rfl⟩,⟨⟨_,rfl,Qe l8⟩,trivial⟩⟩⟩⟩) rfl ?_
 refine Ze .plain rfl (Gm (g:=g8) 3009 (xs:=([(⟨(3:Int),0,0,y5⟩:Zv),(⟨(5:Int),0,(1:Int),y8⟩:Zv),(⟨(7:Int),(1:Int),(1:Int),y11⟩:Zv)]:List Zv)) (vs:=[v6,v9,v8]) Try.underlying23 Try.sizeOf87 Try.zeroValue87 rfl rfl (.cons rfl (.cons rfl (.cons rfl .nil))) (RVs.cons r6 (RVs.cons r9 (RVs.cons n8 RVs.nil))) rfl rfl fun l9 yD t5 hs o13 n9 hxt hfl=>?_);have hfr:=hfr.stp hs;have b1:=b1.stp hs rfl;have r2:=r2.stp hs;have o2:=o2.stp hs rfl;have r3:=r3.stp hs;have aB:RV l9.m _ (⟨([(2:Int),(2:Int)]:List Int),([(0:Int),(0:Int)]:List Int),([(⟨(3:Int),0,0,y5⟩:Zv),(⟨(5:Int),0,(1:Int),y8⟩:Zv),(⟨(7:Int),(1:Int),(1:Int),y11⟩:Zv)]:List Zv)⟩:BoxLoom) (.agg (Qj [[.slice none 0 0],[.slice none 0 0],[.slice none 0 0]] [(0,v2),(1,v3),(2,t5)]).flatten.toArray):=Qv rfl (Qc (RV.cells r2) (Qc (RV.cells r3) (Kd (RV.cells n9))));generalize i6:(Value.agg (Qj [[.slice none 0 0],[.slice none 0 0],[.slice none 0 0]] [(0,v2),(1,v3),(2,t5)]).flatten.toArray)=lB at aB;refine Zy lB (i6 ▸ Kr (vs:=[(0,v2),(1,v3),(2,t5)]) [[.slice none 0 0],[.slice none 0 0],[.slice none 0 0]] Ng rfl rfl (.cons rfl (.cons rfl (.cons rfl .nil))) ⟨⟨_,rfl,Qe r2⟩,⟨⟨_,rfl,Qe r3⟩,⟨⟨_,rfl,Qe n9⟩,trivial⟩⟩⟩) rfl ?_;refine Ze .plain rfl (Gl (g:=l9) (v:=lB) Try.sizeOf25 rfl b1 rfl aB fun cC w15 hs b15 cb=>?_);obtain ⟨uC,vC,o0,_,_⟩:=Hb r2;have bD:OSF 2000 3001 0 cC w15 3 25 (([(2:Int),(2:Int)]:List Int):List Int) p1:=cb.osfv (by rw [← i6,o0]; rfl) (o2.stp hs rfl);clear cb;have hfr:=hfr.stp hs;refine Zb (Zd (Gz ?_));obtain rfl:=sinj h;obtain ⟨ad16,cv16,hp16,oB,cr16⟩:=Qn Try.isAgg25 Try.sizeOf25 b15;exact Xh rfl rfl ((show _=p1 from rfl).trans hp16) oB ⟨_,hfr,cr16⟩
def f49 (x0:Int) (x1:Int):Option (Gf):=
 some ((⟨x0,x1⟩:Gf))
theorem en49:Enters Try.prog 49:=enters_of Try.func49 (by kernel_rfl) rfl
theorem wk49 {gI:Gh} {wI:World} {x0:Int} {x1:Int}  {r:Gf} (h:f49 x0 x1=some r):Fn Try.prog 49 #[.int .i64 (x0),.int .i64 (x1)] gI wI (fun m w v=>RV m w (r) v):=by
 unfold f49 at h;refine Tk Try.func49 rfl (Nat.le_of_ble_eq_true rfl) fun g0 hm hfr=>?_;show E _ 8 none _ _ _ _ _;refine Zf (Za (Ze .plain rfl (Gq (g:=g0) 2004 (⟨0,0⟩:Gf) Try.zeroValue83 (fun m w=>⟨_,(Gi Zx Zx),rfl⟩) fun g1 w1 p1 hs b1 cb=>?_)));have hfr:=hfr.stp hs;clear cb;refine Zb (Zd (Zf (Za (Zn (.int .i64 (x0)) rfl rfl ?_))));refine Zn (.int .i64 (x1)) rfl rfl ?_;have r2:RV g1.m w1 (⟨x0,x1⟩:Gf) (.agg (Qj [[.int .i64 0],[.int .i64 0]] [(0,.int .i64 (x0)),(1,.int .i64 (x1))]).flatten.toArray):=Qv rfl (Qc (rfl) (Kd (rfl)));generalize hv2:(Value.agg (Qj [[.int .i64 0],[.int .i64 0]] [(0,.int .i64 (x0)),(1,.int .i64 (x1))]).flatten.toArray)=v2 at r2;refine Zy v2 (hv2 ▸ Kr (vs:=[(0,.int .i64 (x0)),(1,.int .i64 (x1))]) [[.int .i64 0],[.int .i64 0]] Io rfl rfl (.cons rfl (.cons rfl .nil)) ⟨⟨_,rfl,rfl⟩,⟨⟨_,rfl,rfl⟩,trivial⟩⟩) rfl ?_;refine Ze .plain rfl (Gl (g:=g1) (v:=v2) Try.sizeOf83 rfl b1 rfl r2 fun g3 w3 hs b3 cb=>?_);clear cb;have hfr:=hfr.stp hs;refine Zb (Zd (Gz ?_));obtain rfl:=sinj h;obtain ⟨ad4,cv4,hp4,o0,cr4⟩:=Qn Try.isAgg83 Try.sizeOf83 b3;exact Xh rfl rfl ((show _=p1 from rfl).trans hp4) o0 ⟨_,hfr,cr4⟩
def f50 (x0:BoxLoom):Option (BoxLoom):=
 (apnd 8 (([]:List Int)) ((x0).Boxes)).bind fun y7=>
 (apnd 8 (([]:List Int)) ((x0).At)).bind fun l5=>
 (apnd 40 (([]:List Zv)) ((x0).Shuttles)).bind fun t5=>
 some ((⟨y7,l5,t5⟩:BoxLoom))
theorem en50:Enters Try.prog 50:=enters_of Try.func50 (by kernel_rfl) rfl
theorem wk50 {gI:Gh} {wI:World} {x0:BoxLoom} {up0:Value} (rp0:RV gI.m wI x0 up0) {r:BoxLoom} (h:f50 x0=some r):Fn Try.prog 50 #[up0] gI wI (fun m w v=>RV m w (r) v):=by
 unfold f50 at h;refine Tk Try.func50 rfl (Nat.le_of_ble_eq_true rfl) fun g0 hm hfr=>?_;have rp0:RV g0.m wI x0 up0:=hm ▸ rp0;show E _ 16 none _ _ _ _ _;refine Zf (Za (Ze .plain rfl (Wj (g:=g0) rfl rp0 fun g1 w1 p1 hs q1=>?_)));have hfr:=hfr.ext hs;refine Ze .plain rfl (Gq (g:=g1) 2002 (⟨[],[],[]⟩:BoxLoom) Try.zeroValue25 (fun m w=>⟨_,(Gi Tb (Gi Tb Tb)),rfl⟩) fun g2 w2 p2 hs b2 cb=>?_);have hfr:=hfr.stp hs;have q1:=q1.stp hs;have lE:OSF 2002 60200 0 g2 w2 3 25 ([]:List Int) p2:=cb.osf (by rfl);have mE:OSF 2002 60201 1 g2 w2 3 25 ([]:List Int) p2:=cb.osf (by rfl);have oE:OSF 2002 60202 2 g2 w2 87 25 ([]:List Zv) p2:=cb.osf (by rfl);clear cb;refine Zb (Zd (Zf ?_));have q4:=Zm (Tv).1 q1;refine Zs (x:=.tmp 4) Try.isAgg22 Try.sizeOf22 q4 fun v5 r5 uC=>?_;obtain ⟨y7,vC,h⟩:=Gc h;have q9:=Zm (Kk).1 q1;refine Zs (x:=.tmp 8) Try.isAgg22 Try.sizeOf22 q9 fun bD cD oB=>?_;obtain ⟨l5,vB,h⟩:=Gc h;have lD:=Zm (Tu).1 q1;refine Zs (x:=.tmp 12) Try.isAgg23 Try.sizeOf23 lD fun nD oD yB=>?_;obtain ⟨t5,zB,h⟩:=Gc h;refine Qi (g:=g2) (n:=12) [(0,(fun v g w=>RV g.m w ([]:List Int) v∧OS 3003 g w 3 ([]:List Int) v∧Gw v)),(3,(fun v g w=>RV g.m w y7 v∧OS 3003 g w 3 y7 v)),(4,(fun v g w=>RV g.m w ([]:List Int) v∧OS 3007 g w 3 ([]:List Int) v∧Gw v)),(7,(fun v g w=>RV g.m w l5 v∧OS 3007 g w 3 l5 v)),(8,(fun v g w=>RV g.m w ([]:List Zv) v∧OS 3011 g w 87 ([]:List Zv) v∧Gw v)),(11,(fun v g w=>RV g.m w t5 v∧OS 3011 g w 87 t5 v))] [0,1,2,3,4,5,6,7,8,9,10,11] rfl mixed (by kernel_rfl) (⟨fun _=>Tt Kp (Tt Ho (Qq _)),fun _=>Tt Kp Ho,fun _=>Tt Kp (Tt Ho (Qq _)),fun _=>Tt Kp Ho,fun _=>Tt Kp (Tt Ho (Qq _)),fun _=>Tt Kp Ho,trivial⟩) ?_;refine Qw (φ:=fun v g w=>RV g.m w ([]:List Int) v∧OS 3003 g w 3 ([]:List Int) v∧Gw v) rfl rfl .plain (fun g w hd=>Gm (g:=g) 3003 (xs:=([]:List Int)) (vs:=[]) Try.underlying22 Try.sizeOf3 Try.zeroValue3 rfl rfl .nil RVs.nil rfl rfl fun g' w' v hs o r hxt hfl=>⟨g',hxt,r,o,hfl⟩) (fun v3 hv=>?_);clear hv;refine Gb (Gn p1 0) rfl rfl (Zc Km rfl (PT.ptr q1)) ?_;refine Te (c:=v5) rfl rfl .plain (fun _ _ h=>h.ch) uC rfl ?_;refine Qw (φ:=fun v g w=>RV g.m w y7 v∧OS 3003 g w 3 y7 v) rfl rfl .plain (fun g w hd=>Ke (g:=g) (i:=3003) Try.underlying22 Jo rfl rfl (Ju (A:=fun g w=>RV g.m w ([]:List Int) v3∧OS 3003 g w 3 ([]:List Int) v3∧Gw v3) 0 rfl rfl (Qp hd)).2.1 (Ju (A:=fun g w=>RV g.m w ([]:List Int) v3∧OS 3003 g w 3 ([]:List Int) v3∧Gw v3) 0 rfl rfl (Qp hd)).1 rfl (r5.ext hd.1) vC fun g' w' v hs o r hf=>⟨g',hf (Ju (A:=fun g w=>RV g.m w ([]:List Int) v3∧OS 3003 g w 3 ([]:List Int) v3∧Gw v3) 0 rfl rfl (Qp hd)).2.2,r,o⟩) (fun v6 hv=>?_);clear hv;refine Qw (φ:=fun v g w=>RV g.m w ([]:List Int) v∧OS 3007 g w 3 ([]:List Int) v∧Gw v) rfl rfl .plain (fun g w hd=>Gm (g:=g) 3007 (xs:=([]:List Int)) (vs:=[]) Try.underlying22 Try.sizeOf3 Try.zeroValue3 rfl rfl .nil RVs.nil rfl rfl fun g' w' v hs o r hxt hfl=>⟨g',hxt,r,o,hfl⟩) (fun v8 hv=>?_);clear hv;refine Gb (Gn p1 1) rfl rfl (Zc Uv rfl (PT.ptr q1)) ?_;refine Te (c:=bD) rfl rfl .plain (fun _ _ h=>h.ch) oB rfl ?_;refine Qw (φ:=fun v g w=>RV g.m w l5 v∧OS 3007 g w 3 l5 v) rfl rfl .plain (fun g w hd=>Ke (g:=g) (i:=3007) Try.underlying22 Jo rfl rfl (Ju (A:=fun g w=>RV g.m w ([]:List Int) v8∧OS 3007 g w 3 ([]:List Int) v8∧Gw v8) 4 rfl rfl (Qp hd)).2.1 (Ju (A:=fun g w=>RV g.m w ([]:List Int) v8∧OS 3007 g w 3 ([]:List Int) v8∧Gw v8) 4 rfl rfl (Qp hd)).1 rfl (cD.ext hd.1) vB fun g' w' v hs o r hf=>⟨g',hf (Ju (A:=fun g w=>RV g.m w ([]:List Int) v8∧OS 3007 g w 3 ([]:List Int) v8∧Gw v8) 4 rfl rfl (Qp hd)).2.2,r,o⟩) (fun i6 hv=>?_);clear hv;refine Qw (φ:=fun v g w=>RV g.m w ([]:List Zv) v∧OS 3011 g w 87 ([]:List Zv) v∧Gw v) rfl rfl .plain (fun g w hd=>Gm (g:=g) 3011 (xs:=([]:List Zv)) (vs:=[]) Try.underlying23 Try.sizeOf87 Try.zeroValue87 rfl rfl .nil RVs.nil rfl rfl fun g' w' v hs o r hxt hfl=>⟨g',hxt,r,o,hfl⟩) (fun o0 hv=>?_);clear hv;refine Gb (Gn p1 2) rfl rfl (Zc Kq rfl (PT.ptr q1)) ?_;refine Te (c:=nD) rfl rfl .plain (fun _ _ h=>h.ch) yB rfl ?_;refine Qw (φ:=fun v g w=>RV g.m w t5 v∧OS 3011 g w 87 t5 v) rfl rfl .plain (fun g w hd=>Ke (g:=g) (i:=3011) Try.underlying23 Mq rfl rfl (Ju (A:=fun g w=>RV g.m w ([]:List Zv) o0∧OS 3011 g w 87 ([]:List Zv) o0∧Gw o0) 8 rfl rfl (Qp hd)).2.1 (Ju (A:=fun g w=>RV g.m w ([]:List Zv) o0∧OS 3011 g w 87 ([]:List Zv) o0∧Gw o0) 8 rfl rfl (Qp hd)).1 rfl (oD.ext hd.1) zB fun g' w' v hs o r hf=>⟨g',hf (Ju (A:=fun g w=>RV g.m w ([]:List Zv) o0∧OS 3011 g w 87 ([]:List Zv) o0∧Gw o0) 8 rfl rfl (Qp hd)).2.2,r,o⟩) (fun g8 hv=>?_)
 clear hv;refine Jr fun n9 rE hall=>?_;have hs:=hall.1;have hfr:=hfr.ext hs;have b2:=b2.ext hs;have uE:=(Gs (A:=fun g w=>RV g.m w ([]:List Int) v3∧OS 3003 g w 3 ([]:List Int) v3∧Gw v3) 0 rfl hall).1;have o22:=(Gs (A:=fun g w=>RV g.m w ([]:List Int) v3∧OS 3003 g w 3 ([]:List Int) v3∧Gw v3) 0 rfl hall).2.1;have n8:=(Gs (A:=fun g w=>RV g.m w y7 v6∧OS 3003 g w 3 y7 v6) 3 rfl hall).1;have o25:=(Gs (A:=fun g w=>RV g.m w y7 v6∧OS 3003 g w 3 y7 v6) 3 rfl hall).2;have vE:=(Gs (A:=fun g w=>RV g.m w ([]:List Int) v8∧OS 3007 g w 3 ([]:List Int) v8∧Gw v8) 4 rfl hall).1;have o26:=(Gs (A:=fun g w=>RV g.m w ([]:List Int) v8∧OS 3007 g w 3 ([]:List Int) v8∧Gw v8) 4 rfl hall).2.1;have aB:=(Gs (A:=fun g w=>RV g.m w l5 i6∧OS 3007 g w 3 l5 i6) 7 rfl hall).1;have o29:=(Gs (A:=fun g w=>RV g.m w l5 i6∧OS 3007 g w 3 l5 i6) 7 rfl hall).2;have xE:=(Gs (A:=fun g w=>RV g.m w ([]:List Zv) o0∧OS 3011 g w 87 ([]:List Zv) o0∧Gw o0) 8 rfl hall).1;have o30:=(Gs (A:=fun g w=>RV g.m w ([]:List Zv) o0∧OS 3011 g w 87 ([]:List Zv) o0∧Gw o0) 8 rfl hall).2.1;have lB:=(Gs (A:=fun g w=>RV g.m w t5 g8∧OS 3011 g w 87 t5 g8) 11 rfl hall).1;have o33:=(Gs (A:=fun g w=>RV g.m w t5 g8∧OS 3011 g w 87 t5 g8) 11 rfl hall).2;clear hs hall;have mB:RV n9.m _ (⟨y7,l5,t5⟩:BoxLoom) (.agg (Qj [[.slice none 0 0],[.slice none 0 0],[.slice none 0 0]] [(0,v6),(1,i6),(2,g8)]).flatten.toArray):=Qv rfl (Qc (RV.cells n8) (Qc (RV.cells aB) (Kd (RV.cells lB))));generalize l9:(Value.agg (Qj [[.slice none 0 0],[.slice none 0 0],[.slice none 0 0]] [(0,v6),(1,i6),(2,g8)]).flatten.toArray)=nB at mB;refine Zy nB (l9 ▸ Kr (vs:=[(0,v6),(1,i6),(2,g8)]) [[.slice none 0 0],[.slice none 0 0],[.slice none 0 0]] Ng rfl rfl (.cons rfl (.cons rfl (.cons rfl .nil))) ⟨⟨_,rfl,Qe n8⟩,⟨⟨_,rfl,Qe aB⟩,⟨⟨_,rfl,Qe lB⟩,trivial⟩⟩⟩) rfl ?_;refine Ze .plain rfl (Gl (g:=n9) (v:=nB) Try.sizeOf25 rfl b2 rfl mB fun yD zD hs b35 cb=>?_);obtain ⟨aE,bE,l8,_,_⟩:=Hb n8;have iE:OSF 2002 3003 0 yD zD 3 25 (y7:List Int) p2:=cb.osfv (by rw [← l9,l8]; rfl) (o25.stp hs rfl);clear cb;have hfr:=hfr.stp hs;refine Zb (Zd (Gz ?_));obtain rfl:=sinj h;obtain ⟨ad36,cv36,hp36,cC,cr36⟩:=Qn Try.isAgg25 Try.sizeOf25 b35;exact Xh rfl rfl ((show _=p2 from rfl).trans hp36) cC ⟨_,hfr,cr36⟩
def f53 (x0:List Int):Option ((List (List Int))):=
 Option.bind (α:=(List (List Int))) (
  lp (σ:=(List (List Int)) × Int) (fun k19 (v8,o0)=>
   bif (decide (o0 < ((x0).length : Int))) then
    Option.bind (α:=(List (List Int))) (
     (idx x0 o0).bind fun n8=>
     (apnd 24 v8 (([([n8]:List Int)]:List (List Int)))).bind fun zD=>
     some (zD)
     ) fun g8=>
    k19 (g8,(w64 (o0 + (1:Int))))
   else
    some (v8)
   ) big ([],(0:Int))
  ) fun l8=>
 some (l8)
theorem en53:Enters Try.prog 53:=enters_of Try.func53 (by kernel_rfl) rfl
theorem wk53 {gI:Gh} {wI:World} {x0:List Int} {up0:Value} (rp0:RV gI.m wI x0 up0) {r:(List (List Int))} (h:f53 x0=some r):Fn Try.prog 53 #[up0] gI wI (fun m w v=>RV m w (r) v):=by
 unfold f53 at h;refine Tk Try.func53 rfl (Nat.le_of_ble_eq_true rfl) fun g0 hm hfr=>?_;have rp0:RV g0.m wI x0 up0:=hm ▸ rp0;show E _ 18 none _ _ _ _ _;refine Zf (Za (Zg (.slice none 0 0) rfl rfl ?_));refine Zb (Zd ?_);obtain ⟨l8,hx,h⟩:=Gc h;refine Tm (fun e w=>∃ (g:Gh) (v2:Value),Fr gI wI g w∧e 2=v2∧RV g.m w (l8:List (List Int)) v2∧OS 1002 g w 22 (l8:List (List Int)) v2) (fun Q' hQ=>?_) (fun eF tF hR=>?_)
 ·replace h := hx
  clear hx;refine Zf (Za (Zn up0 rfl rfl ?_));refine Zy (.int .i64 ((x0).length:Int)) (Qm Try.underlying22 rfl rp0) rfl ?_;refine Zn (.int .i64 (0)) rfl rfl ?_;refine Zb (Zd (Zr ?_));refine Jv h (fun (s:(List (List Int)) × Int) e w=>∃ (g:Gh) (v2:Value),Fr gI wI g w∧e 2=v2∧RV g.m w (s.1:List (List Int)) v2∧OS 1002 g w 22 (s.1:List (List Int)) v2∧e 5=up0∧RV g.m w (x0:List Int) up0∧e 6=.int .i64 (((x0).length:Int))∧e 7=.int .i64 (s.2)) ⟨g0,(.slice none 0 0),hfr,rfl,Hc,OS.nil,rfl,rp0,rfl,rfl⟩ (fun X19 k19 bE=>?_);rintro ⟨v8,o0⟩ rF uF ⟨oB,yB,hfr,aB,t5,i6,lB,l5,mB,l9⟩ h;refine Zf (Za (Gy (.bool ((decide (o0 < ((x0).length:Int))))) l9 mB rfl rfl ?_));refine Zb (Zd (Zf ?_));rcases Zt h with ⟨n9,h⟩ | ⟨n9,h⟩
  ·refine Wi n9 rfl ?_
   refine Zu (Zd ?_);obtain ⟨g8,hx,h⟩:=Gc h;refine Tm (fun e w=>∃ (g:Gh) (v2:Value),Fr gI wI g w∧e 2=v2∧RV g.m w (g8:List (List Int)) v2∧OS 1002 g w 22 (g8:List (List Int)) v2∧e 5=up0∧RV g.m w (x0:List Int) up0∧e 6=.int .i64 (((x0).length:Int))∧e 7=.int .i64 (o0)) (fun Q' hQ=>?_) (fun sF vF hR=>?_)
   ·replace h := hx
    clear hx;refine Zr ?_;refine Zf (Za ?_);obtain ⟨n8,vB,h⟩:=Gc h;refine Zy (Qu up0 o0 1) (Zh (α:=Int) Try.underlying22 Try.sizeOf3 lB l5 l9 vB) rfl ?_;have lE:=Tp l5 vB;refine Ze .plain rfl (Gx (g:=oB) Try.isAgg3 Try.sizeOf3 rfl lE fun xF mE=>?_);obtain rfl:=Zj.1 mE;refine Zg (.int .i64 (n8)) rfl rfl ?_;refine Zb (Zd (Za (Zo aB rfl ?_)));refine Zn (.int .i64 (n8)) rfl rfl ?_;refine Ze .plain rfl (Gm (g:=oB) 3013 (xs:=([n8]:List Int)) (vs:=[.int .i64 (n8)]) Try.underlying22 Try.sizeOf3 Try.zeroValue3 rfl rfl (.cons rfl .nil) (RVs.cons (Zj.2 rfl) RVs.nil) rfl rfl fun oE yF rE hs o32 uE hxt hfl=>?_);have hfr:=hfr.stp hs;have t5:=t5.stp hs;have i6:=i6.stp hs rfl;have l5:=l5.stp hs;refine Ze .plain rfl (Gm (g:=oE) 3014 (xs:=([([n8]:List Int)]:List (List Int))) (vs:=[rE]) Try.underlying42 Try.sizeOf22 Try.zeroValue22 rfl rfl (.cons rfl .nil) (RVs.cons uE RVs.nil) rfl rfl fun vE aG bG hs o33 xE hxt hfl=>?_);have hfr:=hfr.stp hs;have t5:=t5.stp hs;have i6:=i6.stp hs rfl;have l5:=l5.stp hs;obtain ⟨zD,iE,h⟩:=Gc h;refine Ze .plain rfl (Ke (g:=vE) (i:=1002) Try.underlying42 Dz rfl rfl i6 t5 rfl xE iE fun yE cG aE hs o34 zE _=>?_);have hfr:=hfr.stp hs;have l5:=l5.stp hs;refine Zg aE rfl rfl ?_;refine Zb (We ?_);obtain rfl:=sinj h;exact hQ _ _ ⟨yE,(aE),hfr,rfl,zE,o34,lB,l5,mB,l9⟩
   ·clear hx
    obtain ⟨cF,zB,hfr,cC,uC,vC,bD,cD,lD,nD⟩:=hR;refine Za (Gy (.int .i64 ((w64 (o0 + (1:Int))))) nD rfl rfl rfl ?_);refine Zn (.int .i64 ((w64 (o0 + (1:Int))))) rfl rfl ?_;exact Zb (Zd (bE (g8,(w64 (o0 + (1:Int)))) _ _ ⟨cF,(zB),hfr,cC,uC,vC,bD,cD,lD,rfl⟩ h))
  ·refine Wg n9 rfl ?_
   refine Wb ?_;refine Tx ?_;refine Tx ?_;refine Qh ?_;obtain rfl:=sinj h;exact hQ _ _ ⟨oB,(yB),hfr,aB,t5,i6⟩
 ·clear hx
  obtain ⟨eG,nB,hfr,oD,yD,dF⟩:=hR;refine Zf (Za (Zo oD rfl ?_));refine Zg nB rfl rfl ?_;refine Zb (Zd (Gz ?_));obtain rfl:=sinj h;exact Kb rfl rfl (show _=nB from rfl) ⟨_,hfr,yD⟩
def f54 (x0:Gg) (x1:Int→Zv→Option Int):Option (Gu):=
 Option.bind (α:=Gu) (
  lp (σ:=Gu × Int) (fun zG (n9,o0)=>
   bif (decide (o0 < ((((x0).BoxLoom).Shuttles).length : Int))) then
    Option.bind (α:=Gu) (
     (idx (((x0).BoxLoom).Shuttles) o0).bind fun g8=>
     (x1 o0 g8).bind fun yB=>
     (idx ((n9).boxes).toList (g8).Side).bind fun rE=>
     (idx (rE).toList (g8).Box).bind fun y158=>
     some ({ n9 with boxes:=(Jq ((n9).boxes) ((g8).Side) (fun b=>(Ku b ((g8).Box) yB))) })
     ) fun aB=>
    zG (aB,(w64 (o0 + (1:Int))))
   else
    some (n9)
   ) big ((⟨(⟨List.toArray [(⟨List.toArray [0,0,0,0],rfl⟩:Vector Int 4),(⟨List.toArray [0,0,0,0],rfl⟩:Vector Int 4)],rfl⟩:Vector (Vector Int 4) 2),⟨0,0⟩⟩:Gu),(0:Int))
  ) fun vB=>
 (idx (((x0).BoxLoom).At) (0:Int)).bind fun l8=>
 (idx (((x0).BoxLoom).At) (1:Int)).bind fun n8=>
 some ({ vB with at_:=(⟨l8,n8⟩:Gf) })
theorem en54:Enters Try.prog 54:=enters_of Try.func54 (by kernel_rfl) rfl
theorem wk54 {gI:Gh} {wI:World} {x0:Gg} {x1:Int→Zv→Option Int} {up0:Value} (rp0:RV gI.m wI x0 up0) {up1:Value} (rp1:FnV2 Try.prog x1 up1 gI wI) {r:Gu} (h:f54 x0 x1=some r):Fn Try.prog 54 #[up0,up1] gI wI (fun m w v=>RV m w (r) v):=by
 unfold f54 at h;refine Tk Try.func54 rfl (Nat.le_of_ble_eq_true rfl) fun g0 hm hfr=>?_;have rp0:RV g0.m wI x0 up0:=hm ▸ rp0;obtain ⟨ff1,fa1,fc1,rfl,fen1,fcl1⟩:=rp1;show E _ 41 none _ _ _ _ _;refine Zf (Za (Ze .plain rfl (Wj (g:=g0) rfl rp0 fun g1 w1 p1 hs q1=>?_)));have hfr:=hfr.ext hs;have rp0:=rp0.ext hs;refine Ze .plain rfl (Gq (g:=g1) 2004 (⟨(⟨List.toArray [(⟨List.toArray [0,0,0,0],rfl⟩:Vector Int 4),(⟨List.toArray [0,0,0,0],rfl⟩:Vector Int 4)],rfl⟩:Vector (Vector Int 4) 2),⟨0,0⟩⟩:Gu) Try.zeroValue108 (fun m w=>⟨_,(Gi (Gp (Zw (Gp (Zw Zx (Zw Zx (Zw Zx (Zw Zx Gk)))) rfl) (Zw (Gp (Zw Zx (Zw Zx (Zw Zx (Zw Zx Gk)))) rfl) Gk)) rfl) (Gi Zx Zx)),rfl⟩) fun g2 w2 p2 hs b2 cb=>?_);have hfr:=hfr.stp hs;have rp0:=rp0.stp hs;have q1:=q1.stp hs;clear cb;refine Zb (Zd ?_);obtain ⟨vB,hx,h⟩:=Gc h;refine Tm (fun e w=>∃ (g:Gh) ,Fr gI wI g w∧e 2=p1∧PT g.m w (x0:Gg) p1∧e 4=p2∧OB 2004 g w 108 (vB:Gu) p2) (fun Q' hQ=>?_) (fun lI gH hR=>?_)
 ·replace h := hx
  clear hx;refine Zf (Za (Zy (Gn p1 0) (Zc Kc rfl (PT.ptr q1)) rfl ?_));have aH:=Zm (Tn).1 q1;refine Zy (Gn (Gn p1 0) 2) (Zc Kq rfl (PT.ptr aH)) rfl ?_;have kI:=Zm (Tu).1 aH;refine Ze .plain rfl (Gx (g:=g2) Try.isAgg23 Try.sizeOf23 rfl kI fun vC cH=>?_);refine Zy (.int .i64 ((((x0).BoxLoom).Shuttles).length:Int)) (Qm Try.underlying23 rfl cH) rfl ?_;refine Zn (.int .i64 (0)) rfl rfl ?_;refine Zb (Zd (Zr ?_));refine Jv h (fun (s:Gu × Int) e w=>∃ (g:Gh) ,Fr gI wI g w∧e 1=(.func (.func ff1) fa1 fc1)∧e 2=p1∧PT g.m w (x0:Gg) p1∧e 4=p2∧OB 2004 g w 108 (s.1:Gu) p2∧e 9=vC∧RV g.m w (((x0).BoxLoom).Shuttles:List Zv) vC∧e 10=.int .i64 (((((x0).BoxLoom).Shuttles).length:Int))∧e 11=.int .i64 (s.2)) ⟨g2,hfr,rfl,rfl,q1,rfl,b2,rfl,cH,rfl,rfl⟩ (fun X98 zG jH=>?_);rintro ⟨n9,o0⟩ nI xJ ⟨uE,hfr,nD,oD,i6,zB,l5,yD,t5,bD,lB⟩ h;refine Zf (Za (Zy (.bool ((decide (o0 < ((((x0).BoxLoom).Shuttles).length:Int))))) (Td lB bD rfl) rfl ?_));refine Zb (Zd (Zf ?_));rcases Zt h with ⟨cC,h⟩ | ⟨cC,h⟩
  ·refine Wi cC rfl ?_
   refine Zu (Zd ?_);obtain ⟨aB,hx,h⟩:=Gc h;refine Tm (fun e w=>∃ (g:Gh) ,Fr gI wI g w∧e 1=(.func (.func ff1) fa1 fc1)∧e 2=p1∧PT g.m w (x0:Gg) p1∧e 4=p2∧OB 2004 g w 108 (aB:Gu) p2∧e 9=vC∧RV g.m w (((x0).BoxLoom).Shuttles:List Zv) vC∧e 10=.int .i64 (((((x0).BoxLoom).Shuttles).length:Int))∧e 11=.int .i64 (o0)) (fun Q' hQ=>?_) (fun mI pI hR=>?_)
   ·replace h := hx
    clear hx;refine Zr ?_;refine Zf (Za (Zo lB rfl ?_));obtain ⟨g8,zD,h⟩:=Gc h;refine Zy (Qu vC o0 5) (Zh (α:=Zv) Try.underlying23 Try.sizeOf87 yD t5 lB zD) rfl ?_;have v8:=Tp t5 zD;refine Ze .plain rfl (Gx (g:=uE) Try.isAgg87 Try.sizeOf87 rfl v8 fun kH l9=>?_);refine Ze .plain rfl (Gq (g:=uE) 2006 (⟨0,0,0,⟨0,0⟩⟩:Zv) Try.zeroValue87 (fun m w=>⟨_,(Gi Zx (Gi Zx (Gi Zx (Gi Zx Zx)))),rfl⟩) fun lH qI vE hs b146 cb=>?_);have hfr:=hfr.stp hs;have i6:=i6.stp hs;have l5:=l5.stp hs rfl;have t5:=t5.stp hs;have v8:=v8.stp hs;have l9:=l9.stp hs;clear cb;refine Zg (.int .i64 (o0)) rfl rfl ?_;refine Ze .plain rfl (Gl (g:=lH) (v:=kH) Try.sizeOf87 rfl b146 rfl l9 fun mH sI hs b147 cb=>?_);clear cb;have hfr:=hfr.stp hs;have i6:=i6.stp hs;have l5:=l5.stp hs rfl;have t5:=t5.stp hs;have v8:=v8.stp hs;have l9:=l9.stp hs;refine Zb (Zd (Wa (x:=.tmp 16) Wq.1 Try.isAgg3 Try.sizeOf3 b147 fun jJ nH eG=>?_));obtain rfl:=Zj.1 nH;refine Wa (x:=.tmp 18) Kw.1 Try.isAgg3 Try.sizeOf3 b147 fun kJ oH gG=>?_;obtain rfl:=Zj.1 oH;refine Wo (x:=.tmp 6) Try.isAgg87 Try.sizeOf87 b147 fun xE lD iG=>?_;obtain ⟨yB,jG,h⟩:=Gc h;obtain ⟨rE,aE,h⟩:=Gc h;obtain ⟨hi157,he157⟩:=Wr aE;obtain ⟨y158,bE,h⟩:=Gc h;obtain ⟨hi159,he159⟩:=Wr bE;refine Qi (g:=mH) (n:=11) [(7,(fun v g w=>v=.int .i64 (yB)))] [0,1,2,3,4,5,6,7,8,9,10] rfl mixed (by kernel_rfl) (⟨fun _=>Qq _,trivial⟩) ?_;refine Gb (Gn vE 1) rfl rfl (Zc Jz rfl (OB.ptr b147)) ?_;refine Te (c:=.int .i64 ((g8).Side)) rfl rfl .plain (fun _ _ h=>⟨h.ch,fun b hb _=>h.below.block b hb⟩) eG rfl ?_;refine Gb (Gn vE 2) rfl rfl (Zc Vx rfl (OB.ptr b147)) ?_;refine Te (c:=.int .i64 ((g8).Box)) rfl rfl .plain (fun _ _ h=>⟨h.ch,fun b hb _=>h.below.block b hb⟩) gG rfl ?_;refine Gb ((.func (.func ff1) fa1 fc1)) rfl rfl (Zk nD) ?_;refine Gb (.int .i64 (o0)) rfl rfl (Zk rfl) ?_;refine Te (c:=xE) rfl rfl .plain (fun _ _ h=>⟨h.ch,fun b hb _=>h.below.block b hb⟩) iG rfl ?_;refine Qw (φ:=fun v g w=>v=.int .i64 (yB)) rfl rfl .plain (fun g w hd=>Bb (g:=g) (vs:=[.int .i64 (o0),xE]) rfl fen1 (.cons rfl (.cons rfl .nil)) (fcl1 _ _ (hfr.ext hd.1).ch _ _ _ _ _  (Zj.2 rfl) (lD.ext hd.1) jG) fun g' w' v hs hr=>⟨g',hs,Zj.1 hr⟩) (fun lJ hv=>?_);obtain ⟨_,_,_,rfl⟩:=hv;refine Gb (Gn p2 0) rfl rfl (Zc Uc zB (OB.ptr l5)) ?_;refine Gb (Gn p2 (0 + ((g8).Side:Int).toNat * 4)) rfl rfl (Qs (α:=Vector Int 4) (o1:=0) rfl Try.underlying76 Try.sizeOf75 rfl (OB.ptr l5) rfl aE) ?_;refine Gb (Gn p2 ((0 + ((g8).Side:Int).toNat * 4) + ((g8).Box:Int).toNat * 1)) rfl rfl (Qs (α:=Int) (o1:=(0 + ((g8).Side:Int).toNat * 4)) rfl Try.underlying75 Try.sizeOf3 rfl (OB.ptr l5) rfl bE) ?_;refine Ul fun pH mJ hs=>?_;have hfr:=hfr.ext hs;have i6:=i6.ext hs;have l5:=l5.ext hs;have t5:=t5.ext hs;have v8:=v8.ext hs;have l9:=l9.ext hs;have b147:=b147.ext hs;have lD:=lD.ext hs;clear hs;refine Ze .plain rfl (Wt (g:=pH) (Gv.at_ (Gv.comp Ww (Gv.dynC hi157 (Gv.dyn hi159) rfl) rfl) (by first | rfl | exact Nat.add_assoc _ _ _ | simp only [Nat.add_assoc,Nat.zero_add] | omega)) Try.sizeOf3 rfl l5 rfl (Zj.2 rfl) fun qH nJ hs b184 rst hos=>?_);clear rst hos;have hfr:=hfr.stp hs;have i6:=i6.stp hs;have t5:=t5.stp hs;refine Zb (We ?_);obtain rfl:=sinj h;exact hQ _ _ ⟨qH,hfr,nD,oD,i6,zB,b184,yD,t5,bD,lB⟩
   ·clear hx
    obtain ⟨sH,hfr,yE,zE,cF,dF,eF,rF,sF,mE,oE⟩:=hR;refine Za (Gy (.int .i64 ((w64 (o0 + (1:Int))))) oE rfl rfl rfl ?_);refine Zn (.int .i64 ((w64 (o0 + (1:Int))))) rfl rfl ?_;exact Zb (Zd (jH (aB,(w64 (o0 + (1:Int)))) _ _ ⟨sH,hfr,yE,zE,cF,dF,eF,rF,sF,mE,rfl⟩ h))
  ·refine Wg cC rfl ?_
   refine Wb ?_;refine Tx ?_;refine Tx ?_;refine Qh ?_;obtain rfl:=sinj h;exact hQ _ _ ⟨uE,hfr,oD,i6,zB,l5⟩
 ·clear hx
  obtain ⟨tF,hfr,cD,mB,nB,oB⟩:=hR;refine Zf ?_;have uF:=Zm (Tn).1 mB;have tH:=Zm (Kk).1 uF;refine Zs (x:=.tmp 29) Try.isAgg22 Try.sizeOf22 tH fun vF xF kG=>?_;obtain ⟨l8,iE,h⟩:=Gc h;have uH:=Tp xF iE;refine Zs (x:=.tmp 31) Try.isAgg3 Try.sizeOf3 uH fun oJ xH lG=>?_;obtain rfl:=Zj.1 xH;have yF:=Zm (Tn).1 mB;have yH:=Zm (Kk).1 yF;refine Zs (x:=.tmp 34) Try.isAgg22 Try.sizeOf22 yH fun aG bG mG=>?_;obtain ⟨n8,lE,h⟩:=Gc h;have zH:=Tp bG lE;refine Zs (x:=.tmp 36) Try.isAgg3 Try.sizeOf3 zH fun pJ aI sG=>?_;obtain rfl:=Zj.1 aI;have uC:RV tF.m gH (⟨l8,n8⟩:Gf) (.agg (Qj [[.int .i64 0],[.int .i64 0]] [(0,.int .i64 (l8)),(1,.int .i64 (n8))]).flatten.toArray):=Qv rfl (Qc (rfl) (Kd (rfl)));generalize xG:(Value.agg (Qj [[.int .i64 0],[.int .i64 0]] [(0,.int .i64 (l8)),(1,.int .i64 (n8))]).flatten.toArray)=bI at uC;refine Qi (g:=tF) (n:=12) [] [0,1,2,3,4,5,6,7,8,9,10,11] rfl mixed (by kernel_rfl) trivial ?_;refine Gb (Gn p1 0) rfl rfl (Zc Kc cD (PT.ptr mB)) ?_;refine Gb (Gn (Gn p1 0) 1) rfl rfl (Zc Uv rfl (PT.ptr uF)) ?_;refine Te (c:=vF) rfl rfl .plain (fun _ _ h=>h.ch) kG rfl ?_;refine Gb (Qu vF (0:Int) 1) rfl rfl (Zh (α:=Int) Try.underlying22 Try.sizeOf3 rfl xF rfl iE) ?_;refine Te (c:=.int .i64 (l8)) rfl rfl .plain (fun _ _ h=>h.ch) lG rfl ?_;refine Gb (Gn p1 0) rfl rfl (Zc Kc cD (PT.ptr mB)) ?_;refine Gb (Gn (Gn p1 0) 1) rfl rfl (Zc Uv rfl (PT.ptr yF)) ?_;refine Te (c:=aG) rfl rfl .plain (fun _ _ h=>h.ch) mG rfl ?_;refine Gb (Qu aG (1:Int) 1) rfl rfl (Zh (α:=Int) Try.underlying22 Try.sizeOf3 rfl bG rfl lE) ?_;refine Te (c:=.int .i64 (n8)) rfl rfl .plain (fun _ _ h=>h.ch) sG rfl ?_;refine Gb bI rfl rfl (xG ▸ Kr (vs:=[(0,.int .i64 (l8)),(1,.int .i64 (n8))]) [[.int .i64 0],[.int .i64 0]] Io rfl rfl (.cons rfl (.cons rfl .nil)) ⟨⟨_,rfl,rfl⟩,⟨⟨_,rfl,rfl⟩,trivial⟩⟩) ?_;refine Gb (Gn p2 8) rfl rfl (Zc Xg nB (OB.ptr oB)) ?_;refine Ul fun dI qJ hs=>?_;have hfr:=hfr.ext hs;have oB:=oB.ext hs;have uC:=uC.ext hs;clear hs;refine Ze .plain rfl (Wt (g:=dI) Ks Try.sizeOf83 rfl oB rfl uC fun cG rJ hs b216 rst hos=>?_);clear rst hos;have hfr:=hfr.stp hs;refine Zb (Zd (Zf (Za (Ze .plain rfl (Tr (g:=cG) Try.isAgg108 Try.sizeOf108 nB b216 fun iI jI=>?_)))));refine Ze .plain rfl (Gl (g:=cG) (v:=iI) Try.sizeOf108 nB b216 rfl jI fun sJ vJ hs b218 cb=>?_);clear cb;have hfr:=hfr.stp hs;refine Zb (Zd (Gz ?_));obtain rfl:=sinj h;obtain ⟨ad219,cv219,hp219,yG,cr219⟩:=Qn Try.isAgg108 Try.sizeOf108 b218;exact Xh rfl rfl ((show _=p2 from nB).trans hp219) yG ⟨_,hfr,cr219⟩
def f55 (x0:Int) (x1:Zv):Option (Int):=
 some ((w64 ((x1).Colour + (1:Int))))
theorem en55:Enters Try.prog 55:=enters_of Try.func55 (by kernel_rfl) rfl
theorem wk55 {gI:Gh} {wI:World} {x0:Int} {x1:Zv} {up1:Value} (rp1:RV gI.m wI x1 up1) {r:Int} (h:f55 x0 x1=some r):Fn Try.prog 55 #[.int .i64 (x0),up1] gI wI (fun _ _ v=>v=.int .i64 (r)):=by
 unfold f55 at h;refine Tk Try.func55 rfl (Nat.le_of_ble_eq_true rfl) fun g0 hm hfr=>?_;have rp1:RV g0.m wI x1 up1:=hm ▸ rp1;show E _ 8 none _ _ _ _ _;refine Zf (Za (Ze .plain rfl (Wj (g:=g0) rfl rp1 fun g1 w1 p1 hs q1=>?_)));have hfr:=hfr.ext hs;refine Zg (.int .i64 (0)) rfl rfl ?_;refine Zb (Zd (Zf (Za (Zy (Gn p1 0) (Zc Vv rfl (PT.ptr q1)) rfl ?_))));have q2:=Zm (Jt).1 q1;refine Ze .plain rfl (Gx (g:=g1) Try.isAgg3 Try.sizeOf3 rfl q2 fun v3 r3=>?_);obtain rfl:=Zj.1 r3;refine Gy (.int .i64 ((w64 ((x1).Colour + (1:Int))))) rfl rfl rfl rfl ?_;refine Zg (.int .i64 ((w64 ((x1).Colour + (1:Int))))) rfl rfl ?_;refine Zb (Zd (Gz ?_));obtain rfl:=sinj h;exact Kb rfl rfl (show _=.int .i64 ((w64 ((x1).Colour + (1:Int)))) from rfl) ⟨_,hfr,rfl⟩
def f56 (x0:Gg):Option (Th):=
 (idx (((x0).BoxLoom).Boxes) (0:Int)).bind fun y5=>
 (idx (((x0).BoxLoom).Boxes) (1:Int)).bind fun y11=>
 some ((⟨y5,y11,⟨⟩⟩:Th))
theorem en56:Enters Try.prog 56:=enters_of Try.func56 (by kernel_rfl) rfl
theorem wk56 {gI:Gh} {wI:World} {x0:Gg} {up0:Value} (rp0:RV gI.m wI x0 up0) {r:Th} (h:f56 x0=some r):Fn Try.prog 56 #[up0] gI wI (fun m w v=>PT m w (r) v):=by
 unfold f56 at h;refine Tk Try.func56 rfl (Nat.le_of_ble_eq_true rfl) fun g0 hm hfr=>?_;have rp0:RV g0.m wI x0 up0:=hm ▸ rp0;show E _ 16 none _ _ _ _ _;refine Zf (Za (Ze .plain rfl (Wj (g:=g0) rfl rp0 fun g1 w1 p1 hs q1=>?_)));have hfr:=hfr.ext hs;refine Zg (.pointer none) rfl rfl ?_;refine Zb (Zd (Zf ?_));have q2:=Zm (Tn).1 q1;have q3:=Zm (Tv).1 q2;refine Zs (x:=.tmp 4) Try.isAgg22 Try.sizeOf22 q3 fun v4 r4 oB=>?_;obtain ⟨y5,hy5,h⟩:=Gc h;have q6:=Tp r4 hy5;refine Zs (x:=.tmp 6) Try.isAgg3 Try.sizeOf3 q6 fun v7 r7 hl7=>?_;obtain rfl:=Zj.1 r7;have q8:=Zm (Tn).1 q1;have q9:=Zm (Tv).1 q8;refine Zs (x:=.tmp 9) Try.isAgg22 Try.sizeOf22 q9 fun g8 l8 mB=>?_;obtain ⟨y11,t5,h⟩:=Gc h;have vB:=Tp l8 t5;refine Zs (x:=.tmp 11) Try.isAgg3 Try.sizeOf3 vB fun cC yB nB=>?_;obtain rfl:=Zj.1 yB;refine Nw (g:=g1) (n:=10) [0,1,2,3,4,5,6,7,8,9] [] [0,1,2,3,4,5,6,7,8,9] rfl mixed (by kernel_rfl) trivial rfl ?_;refine Un (c:=Gn p1 0) rfl rfl .plain (Zc Kc rfl (PT.ptr q1)) ?_;refine Un (c:=Gn (Gn p1 0) 0) rfl rfl .plain (Zc Km rfl (PT.ptr q2)) ?_;refine Cf (c:=v4) rfl rfl .plain (fun _ _ h=>h.ch) rfl oB rfl ?_;refine Un (c:=Qu v4 (0:Int) 1) rfl rfl .plain (Zh (α:=Int) Try.underlying22 Try.sizeOf3 rfl r4 rfl hy5) ?_;refine Cf (c:=.int .i64 (y5)) rfl rfl .plain (fun _ _ h=>h.ch) rfl hl7 rfl ?_;refine Un (c:=Gn p1 0) rfl rfl .plain (Zc Kc rfl (PT.ptr q1)) ?_;refine Un (c:=Gn (Gn p1 0) 0) rfl rfl .plain (Zc Km rfl (PT.ptr q8)) ?_;refine Cf (c:=g8) rfl rfl .plain (fun _ _ h=>h.ch) rfl mB rfl ?_;refine Un (c:=Qu g8 (1:Int) 1) rfl rfl .plain (Zh (α:=Int) Try.underlying22 Try.sizeOf3 rfl l8 rfl t5) ?_;refine Cf (c:=.int .i64 (y11)) rfl rfl .plain (fun _ _ h=>h.ch) rfl nB rfl ?_;refine Ul fun n8 zB hs=>?_;have hlt:Lt g1.m w1 n8 zB:=hs.ch;have hfr:=hfr.ext hs;clear hs;refine TL_do hlt.w .plain rfl (Yz (g:=n8) (Ws Tz) Int 8013 fun o0 v8 l5 hs m28=>?_);have hfr:=hfr.stp hs;have hlt:=hlt.stp hs;have l9:RV o0.m _ (⟨y5,y11,⟨⟩⟩:Th) (.agg (Qj [[.int .i64 0],[.int .i64 0],[.map none]] [(0,.int .i64 (y5)),(1,.int .i64 (y11)),(2,l5)]).flatten.toArray):=Qv rfl (Qc (rfl) (Qc (rfl) (Kd (RV.cells (m28.ref (m:=o0.m) (w':=v8))))));generalize i6:(Value.agg (Qj [[.int .i64 0],[.int .i64 0],[.map none]] [(0,.int .i64 (y5)),(1,.int .i64 (y11)),(2,l5)]).flatten.toArray)=n9 at l9;refine Nb hlt.w (v:=n9) (i6 ▸ Kr (vs:=[(0,.int .i64 (y5)),(1,.int .i64 (y11)),(2,l5)]) [[.int .i64 0],[.int .i64 0],[.map none]] lay_154 rfl rfl (.cons rfl (.cons rfl (.cons rfl .nil))) ⟨⟨_,rfl,rfl⟩,⟨⟨_,rfl,rfl⟩,⟨⟨_,rfl,Qe (m28.ref (m:=o0.m) (w':=v8))⟩,trivial⟩⟩⟩) .plain rfl ?_;refine TL_do hlt.w .plain rfl (D_boxF (g:=o0) (v:=n9) (off:=2) (u:=l5) rfl l9 (by rw [← i6]; simp only [Qj,Ov m28]; rfl) fun uC vC aB hs lB fc30=>?_);have hfr:=hfr.ext hs;have hlt:=hlt.ext hs;have hone500215:=PT.one lB;refine Nb hlt.w (v:=aB) (Tf rfl) .plain rfl ?_;refine TL_nil hlt.w ?_;clear hlt;refine Zd (Gz ?_);obtain rfl:=sinj h;exact Kb rfl rfl (show _=aB from rfl) ⟨_,hfr,lB⟩
def f59 (x0:Int) (x1:Int) (x2:Int):Option (Bool):=
 Option.bind (α:=Bool) (
  bif (decide (x0 ≥ x1)) then
   some ((decide (x0 ≤ x2)))
  else
   some (false)
  ) fun o0=>
 some (o0)
def f60 (x0:BoxLoom):Option ((List Gf)):=
 Option.bind (α:=(List Gf)) (
  lp (σ:=(List Gf) × Int) (fun oH (n8,l5)=>
   jn (σ:=Unit) (fun _=>
    Option.bind (α:=(List Gf)) (
     lp (σ:=(List Gf) × Int) (fun rE (t5,o0)=>
      jn (σ:=Unit) (fun _=>
       Option.bind (α:=(List Gf)) (
        (apnd 16 t5 (([(⟨l5,o0⟩:Gf)]:List Gf))).bind fun y135=>
        some (y135)
        ) fun i6=>
       rE (i6,(w64 (o0 + (1:Int))))
       ) fun uE=>
      (idx ((x0).Boxes) (1:Int)).bind fun oD=>
      bif (decide (o0 < oD)) then
       uE ()
      else
       some (t5)
      ) big (n8,(0:Int))
     ) fun g8=>
    oH (g8,(w64 (l5 + (1:Int))))
    ) fun pH=>
   (idx ((x0).Boxes) (0:Int)).bind fun vE=>
   bif (decide (l5 < vE)) then
    pH ()
   else
    some (n8)
   ) big (([]:List Gf),(0:Int))
  ) fun v8=>
 some (v8)
def f62 (x0:List Int):Option (Bool):=
 some ((decide (((x0).length:Int) > (3:Int))))
theorem en62:Enters Try.prog 62:=enters_of Try.func62 (by kernel_rfl) rfl
theorem wk62 {gI:Gh} {wI:World} {x0:List Int} {up0:Value} (rp0:RV gI.m wI x0 up0) {r:Bool} (h:f62 x0=some r):Fn Try.prog 62 #[up0] gI wI (fun _ _ v=>v=.bool (r)):=by
 unfold f62 at h;refine Tk Try.func62 rfl (Nat.le_of_ble_eq_true rfl) fun g0 hm hfr=>?_;have rp0:RV g0.m wI x0 up0:=hm ▸ rp0;show E _ 6 none _ _ _ _ _;refine Zf (Za (Zg (.bool false) rfl rfl ?_));refine Zb (Zd (Zf (Za (Zn up0 rfl rfl ?_))));refine Zy (.int .i64 ((x0).length:Int)) (Qm Try.underlying22 rfl rp0) rfl ?_;refine Gy (.bool ((decide (((x0).length:Int) > (3:Int))))) rfl rfl rfl rfl ?_;refine Zg (.bool ((decide (((x0).length:Int) > (3:Int))))) rfl rfl ?_;refine Zb (Zd (Gz ?_));obtain rfl:=sinj h;exact Kb rfl rfl (show _=.bool ((decide (((x0).length:Int) > (3:Int)))) from rfl) ⟨_,hfr,rfl⟩
def f65 (x0:Gd) (x1:List (List Int)):Option (Gd):=
 Option.bind (α:=Gd) (
  lp (σ:=Gd) (fun oD o0=>
   jn (σ:=Unit) (fun _=>
    oD ({ { o0 with group:=(w64 ((o0).group + (1:Int))) } with done:=(0:Int) })
    ) fun yD=>
   Option.bind (α:=Bool) (
    bif (decide ((o0).group < ((x1).length : Int))) then
     (idx x1 (o0).group).bind fun cD=>
     (Cg (1:Int) ((cD).length:Int)).bind fun mB=>
     some (((o0).done == (w64 (mB - (1:Int)))))
    else
     some (false)
    ) fun g8=>
   bif g8 then
    yD ()
   else
    some (o0)
   ) big (x0)
  ) fun nB=>
 some (nB)
theorem en65:Enters Try.prog 65:=enters_of Try.func65 (by kernel_rfl) rfl
theorem wk65 {gI:Gh} {wI:World} {x0:Gd} {x1:List (List Int)} {up0:Value} (rp0:RV gI.m wI x0 up0) {up1:Value} (rp1:RV gI.m wI x1 up1) {r:Gd} (h:f65 x0 x1=some r):Fn Try.prog 65 #[up0,up1] gI wI (fun m w v=>RV m w (r) v):=by
 unfold f65 at h;refine Tk Try.func65 rfl (Nat.le_of_ble_eq_true rfl) fun g0 hm hfr=>?_;have rp0:RV g0.m wI x0 up0:=hm ▸ rp0;have rp1:RV g0.m wI x1 up1:=hm ▸ rp1;show E _ 29 none _ _ _ _ _;refine Zf (Za (Ze .plain rfl (Im (g:=g0) 2002 rfl rp0 fun g1 w1 p1 hs b1=>?_)));have hfr:=hfr.stp hs;have rp1:=rp1.stp hs;refine Ze .plain rfl (Gq (g:=g1) 2004 (⟨0,0,⟨(⟨List.toArray [(⟨List.toArray [0,0,0,0],rfl⟩:Vector Int 4),(⟨List.toArray [0,0,0,0],rfl⟩:Vector Int 4)],rfl⟩:Vector (Vector Int 4) 2),⟨0,0⟩⟩⟩:Gd) Try.zeroValue112 (fun m w=>⟨_,(Gi Zx (Gi Zx (Gi (Gp (Zw (Gp (Zw Zx (Zw Zx (Zw Zx (Zw Zx Gk)))) rfl) (Zw (Gp (Zw Zx (Zw Zx (Zw Zx (Zw Zx Gk)))) rfl) Gk)) rfl) (Gi Zx Zx)))),rfl⟩) fun g2 w2 p2 hs b2 cb=>?_);have hfr:=hfr.stp hs;have rp1:=rp1.stp hs;have b1:=b1.stp hs rfl;clear cb;refine Zb (Zd ?_);obtain ⟨nB,hx,h⟩:=Gc h;refine Tm (fun e w=>∃ (g:Gh) ,Fr gI wI g w∧e 2=p1∧OB 2002 g w 112 (nB:Gd) p1∧e 4=p2∧OB 2004 g w 112 ((⟨0,0,⟨(⟨List.toArray [(⟨List.toArray [0,0,0,0],rfl⟩:Vector Int 4),(⟨List.toArray [0,0,0,0],rfl⟩:Vector Int 4)],rfl⟩:Vector (Vector Int 4) 2),⟨0,0⟩⟩⟩:Gd):Gd) p2) (fun Q' hQ=>?_) (fun lG yG hR=>?_)
 ·replace h := hx
  clear hx;refine Zr ?_;refine Jv h (fun (s:Gd) e w=>∃ (g:Gh) ,Fr gI wI g w∧e 1=up1∧RV g.m w (x1:List (List Int)) up1∧e 2=p1∧OB 2002 g w 112 (s:Gd) p1∧e 4=p2∧OB 2004 g w 112 ((⟨0,0,⟨(⟨List.toArray [(⟨List.toArray [0,0,0,0],rfl⟩:Vector Int 4),(⟨List.toArray [0,0,0,0],rfl⟩:Vector Int 4)],rfl⟩:Vector (Vector Int 4) 2),⟨0,0⟩⟩⟩:Gd):Gd) p2) ⟨g2,hfr,rfl,rp1,rfl,b1,rfl,b2⟩ (fun X238 oD yE=>?_);rintro o0 mG zG ⟨zD,hfr,v8,i6,l8,l5,yB,n8⟩ h;refine Zq h (fun (s:Unit) e w=>∃ (g:Gh) ,Fr gI wI g w∧e 1=up1∧RV g.m w (x1:List (List Int)) up1∧e 2=p1∧OB 2002 g w 112 (o0:Gd) p1∧e 4=p2∧OB 2004 g w 112 ((⟨0,0,⟨(⟨List.toArray [(⟨List.toArray [0,0,0,0],rfl⟩:Vector Int 4),(⟨List.toArray [0,0,0,0],rfl⟩:Vector Int 4)],rfl⟩:Vector (Vector Int 4) 2),⟨0,0⟩⟩⟩:Gd):Gd) p2) (fun X352 yD zE h=>?_) ?_
  ·obtain ⟨g8, hx, h⟩ := Gc h
   refine Tm (fun e w=>∃ (g:Gh) ,Fr gI wI g w∧e 1=up1∧RV g.m w (x1:List (List Int)) up1∧e 2=p1∧OB 2002 g w 112 (o0:Gd) p1∧e 4=p2∧OB 2004 g w 112 ((⟨0,0,⟨(⟨List.toArray [(⟨List.toArray [0,0,0,0],rfl⟩:Vector Int 4),(⟨List.toArray [0,0,0,0],rfl⟩:Vector Int 4)],rfl⟩:Vector (Vector Int 4) 2),⟨0,0⟩⟩⟩:Gd):Gd) p2∧e 22=.bool (g8)) (fun Q' hQ=>?_) (fun sG aH hR=>?_)
   ·replace h := hx
    clear hx;refine Wa (x:=.tmp 5) Wy.1 Try.isAgg3 Try.sizeOf3 l5 fun cH tF lD=>?_;obtain rfl:=Zj.1 tF;rcases Zt h with ⟨t5,h⟩ | ⟨t5,h⟩
    ·refine Wa (x := .tmp 11) Ky.1 Try.isAgg3 Try.sizeOf3 l5 fun gH uF cF => ?_
     obtain rfl:=Zj.1 uF;refine Wa (x:=.tmp 14) Wy.1 Try.isAgg3 Try.sizeOf3 l5 fun jH vF dF=>?_;obtain rfl:=Zj.1 vF;obtain ⟨cD,nD,h⟩:=Gc h;have xF:=Tp i6 nD;refine Zs (x:=.tmp 16) Try.isAgg22 Try.sizeOf22 xF fun yF aG eF=>?_;obtain ⟨mB,rF,h⟩:=Gc h;refine Qi (g:=zD) (n:=18) [] [0,1,2,3,4,5,6,7,8,9,10,11,12,13,14,15,16,17] rfl mixed (by kernel_rfl) trivial ?_;refine Gb (Gn p1 0) rfl rfl (Zc Uh l8 (OB.ptr l5)) ?_;refine Te (c:=.int .i64 ((o0).group)) rfl rfl .plain (fun _ _ h=>⟨h.ch,fun b hb _=>h.below.block b hb⟩) lD rfl ?_;refine Gb up1 rfl rfl (Zk v8) ?_;refine Gb (.int .i64 ((x1).length:Int)) rfl rfl (Qm Try.underlying42 rfl i6) ?_;refine Gb (.bool ((decide ((o0).group < ((x1).length:Int))))) rfl rfl (Td rfl rfl rfl) ?_;refine Gb (.bool ((decide ((o0).group < ((x1).length:Int))))) rfl rfl (Zk rfl) ?_;refine L_y (Gn p1 1) rfl rfl rfl rfl t5 (Zc Dw l8 (OB.ptr l5)) ?_;refine Te (c:=.int .i64 ((o0).done)) rfl rfl (.yes2 rfl rfl t5) (fun _ _ h=>⟨h.ch,fun b hb _=>h.below.block b hb⟩) cF rfl ?_;refine L_y up1 rfl rfl rfl rfl t5 (Zk v8) ?_;refine L_y (Gn p1 0) rfl rfl rfl rfl t5 (Zc Uh l8 (OB.ptr l5)) ?_;refine Te (c:=.int .i64 ((o0).group)) rfl rfl (.yes2 rfl rfl t5) (fun _ _ h=>⟨h.ch,fun b hb _=>h.below.block b hb⟩) dF rfl ?_;refine L_y (Qu up1 (o0).group 1) rfl rfl rfl rfl t5 (Zh (α:=List Int) Try.underlying42 Try.sizeOf22 rfl i6 rfl nD) ?_;refine Te (c:=yF) rfl rfl (.yes2 rfl rfl t5) (fun _ _ h=>h.ch) eF rfl ?_;refine L_y (.int .i64 ((cD).length:Int)) rfl rfl rfl rfl t5 (Qm Try.underlying22 rfl aG) ?_;refine L_y (.int .i64 (mB)) rfl rfl rfl rfl t5 (Td rfl rfl (congrArg (Option.map (Value.int .i64)) rF)) ?_;refine L_y (.int .i64 ((w64 (mB - (1:Int))))) rfl rfl rfl rfl t5 (Td rfl rfl rfl) ?_;refine L_y (.bool (((o0).done == (w64 (mB - (1:Int)))))) rfl rfl rfl rfl t5 (Td rfl rfl rfl) ?_;refine Gb (.bool (((o0).done == (w64 (mB - (1:Int)))))) rfl rfl (Zl (b:=(decide ((o0).group < ((x1).length:Int)))) rfl (Qt t5 rfl)) ?_;refine Ul fun bG kH hs=>?_;have hfr:=hfr.ext hs;have i6:=i6.ext hs;have l5:=l5.ext hs;have n8:=n8.ext hs;clear hs;refine Zb ?_;obtain rfl:=sinj h;exact hQ _ _ ⟨bG,hfr,v8,i6,l8,l5,yB,n8,rfl⟩
    ·refine Qi (g := zD) (n := 18) [] [0, 1, 2, 3, 4, 5, 6, 7, 8, 9, 10, 11, 12, 13, 14, 15, 16, 17] rfl mixed (by kernel_rfl) trivial ?_
     refine Gb (Gn p1 0) rfl rfl (Zc Uh l8 (OB.ptr l5)) ?_;refine Te (c:=.int .i64 ((o0).group)) rfl rfl .plain (fun _ _ h=>⟨h.ch,fun b hb _=>h.below.block b hb⟩) lD rfl ?_;refine Gb up1 rfl rfl (Zk v8) ?_;refine Gb (.int .i64 ((x1).length:Int)) rfl rfl (Qm Try.underlying42 rfl i6) ?_;refine Gb (.bool ((decide ((o0).group < ((x1).length:Int))))) rfl rfl (Td rfl rfl rfl) ?_;refine Gb (.bool ((decide ((o0).group < ((x1).length:Int))))) rfl rfl (Zk rfl) ?_;iterate 11 refine L_s rfl rfl rfl t5 rfl ?_
     refine Gb (.bool false) rfl rfl (Zl (b:=(decide ((o0).group < ((x1).length:Int)))) rfl (Qk t5 rfl)) ?_;refine Ul fun cG lH hs=>?_;have hfr:=hfr.ext hs;have i6:=i6.ext hs;have l5:=l5.ext hs;have n8:=n8.ext hs;clear hs;refine Zb ?_;obtain rfl:=sinj h;exact hQ _ _ ⟨cG,hfr,v8,i6,l8,l5,yB,n8,rfl⟩
   ·clear hx
    obtain ⟨aE,hfr,bE,iE,zB,cC,uC,vC,oB⟩:=hR;rcases Zt h with ⟨vB,h⟩ | ⟨vB,h⟩
    ·refine Ts (Eq.trans (show ev _ _ = .bool (g8) from oB) (congrArg Value.bool vB)) ?_
     exact Zu (Zd (zE () _ _ ⟨aE,hfr,bE,iE,zB,cC,uC,vC⟩ h))
    ·refine Tj (Eq.trans (show ev _ _ = .bool (g8) from oB) (congrArg Value.bool vB)) ?_
     refine Wb ?_;refine Tx ?_;refine Tx ?_;refine Qh ?_;obtain rfl:=sinj h;exact hQ _ _ ⟨aE,hfr,zB,cC,uC,vC⟩
  ·rintro _ xG mH ⟨lE, hfr, mE, l9, aB, lB, oE, n9⟩ h
   refine Zr ?_;refine Za (Zy (Gn p1 0) (Zc Uh aB (OB.ptr lB)) rfl ?_);refine Ze .plain rfl (Qo (g:=lE) Wy.1 Try.isAgg3 Try.sizeOf3 rfl lB fun nH eG=>?_);obtain rfl:=Zj.1 eG;refine Gy (.int .i64 ((w64 ((o0).group + (1:Int))))) rfl rfl rfl rfl ?_;refine Zy (Gn p1 0) (Zc Uh aB (OB.ptr lB)) rfl ?_;refine Ze .plain rfl (Wt (g:=lE) Wy Try.sizeOf3 rfl lB rfl (Zj.2 rfl) fun gG oH hs b469 rst hos=>?_);clear rst hos;have hfr:=hfr.stp hs;have l9:=l9.stp hs;have n9:=n9.stp hs rfl;refine Zy (Gn p1 1) (Zc Dw aB (OB.ptr b469)) rfl ?_;refine Ze .plain rfl (Wt (g:=gG) Ky Try.sizeOf3 rfl b469 rfl (Zj.2 rfl) fun iG pH hs b471 rst hos=>?_);clear rst hos;have hfr:=hfr.stp hs;have l9:=l9.stp hs;have n9:=n9.stp hs rfl;exact Zb (We (Zd (yE ({ { o0 with group:=(w64 ((o0).group + (1:Int))) } with done:=(0:Int) }) _ _ ⟨iG,hfr,mE,l9,aB,b471,oE,n9⟩ h)))
 ·clear hx
  obtain ⟨rE,hfr,uE,vE,bD,xE⟩:=hR;refine Zf (Za (Ze .plain rfl (Tr (g:=rE) Try.isAgg112 Try.sizeOf112 uE vE fun jG kG=>?_)));refine Ze .plain rfl (Gl (g:=rE) (v:=jG) Try.sizeOf112 bD xE rfl kG fun qH sH hs b474 cb=>?_);clear cb;have hfr:=hfr.stp hs;refine Zb (Zd (Gz ?_));obtain rfl:=sinj h;obtain ⟨ad475,cv475,hp475,sF,cr475⟩:=Qn Try.isAgg112 Try.sizeOf112 b474;exact Xh rfl rfl ((show _=p2 from bD).trans hp475) sF ⟨_,hfr,cr475⟩
def f69 (x0:List Int) (x1:List Int):Option (Bool):=
 jn (σ:=Unit) (fun _=>
  some (false)
  ) fun zB=>
 lp (σ:=Int) (fun cC o0=>
  jn (σ:=Unit) (fun _=>
   jn (σ:=Unit) (fun _=>
    cC ((w64 (o0 + (1:Int))))
    ) fun uC=>
   (idx x0 o0).bind fun y165=>
   (idx x1 o0).bind fun y168=>
   bif (y165 != y168) then
    (idx x0 o0).bind fun g8=>
    (idx x1 o0).bind fun l8=>
    some ((decide (g8 < l8)))
   else
    uC ()
   ) fun vC=>
  bif (decide (o0 < ((x0).length : Int))) then
   vC ()
  else
   zB ()
  ) big ((0:Int))
def f71 (x0:Kf):Option (Int):=
 some ((x0).Low)
theorem en71:Enters Try.prog 71:=enters_of Try.func71 (by kernel_rfl) rfl
theorem wk71 {gI:Gh} {wI:World} {x0:Kf} {up0:Value} (rp0:RV gI.m wI x0 up0) {r:Int} (h:f71 x0=some r):Fn Try.prog 71 #[up0] gI wI (fun _ _ v=>v=.int .i64 (r)):=by
 unfold f71 at h;refine Tk Try.func71 rfl (Nat.le_of_ble_eq_true rfl) fun g0 hm hfr=>?_;have rp0:RV g0.m wI x0 up0:=hm ▸ rp0;show E _ 5 none _ _ _ _ _;refine Zf (Za (Ze .plain rfl (Wj (g:=g0) rfl rp0 fun g1 w1 p1 hs q1=>?_)));have hfr:=hfr.ext hs;refine Zg (.int .i64 (0)) rfl rfl ?_;refine Zb (Zd (Zf (Za (Zy (Gn p1 0) (Zc Sc rfl (PT.ptr q1)) rfl ?_))));have q2:=Zm (Vo).1 q1;refine Ze .plain rfl (Gx (g:=g1) Try.isAgg3 Try.sizeOf3 rfl q2 fun v3 r3=>?_);obtain rfl:=Zj.1 r3;refine Zg (.int .i64 ((x0).Low)) rfl rfl ?_;refine Zb (Zd (Gz ?_));obtain rfl:=sinj h;exact Kb rfl rfl (show _=.int .i64 ((x0).Low) from rfl) ⟨_,hfr,rfl⟩
def f72 (x0:Kf):Option (Int):=
 some ((x0).High)
theorem en72:Enters Try.prog 72:=enters_of Try.func72 (by kernel_rfl) rfl
theorem wk72 {gI:Gh} {wI:World} {x0:Kf} {up0:Value} (rp0:RV gI.m wI x0 up0) {r:Int} (h:f72 x0=some r):Fn Try.prog 72 #[up0] gI wI (fun _ _ v=>v=.int .i64 (r)):=by
 unfold f72 at h;refine Tk Try.func72 rfl (Nat.le_of_ble_eq_true rfl) fun g0 hm hfr=>?_;have rp0:RV g0.m wI x0 up0:=hm ▸ rp0;show E _ 5 none _ _ _ _ _;refine Zf (Za (Ze .plain rfl (Wj (g:=g0) rfl rp0 fun g1 w1 p1 hs q1=>?_)));have hfr:=hfr.ext hs;refine Zg (.int .i64 (0)) rfl rfl ?_;refine Zb (Zd (Zf (Za (Zy (Gn p1 1) (Zc So rfl (PT.ptr q1)) rfl ?_))));have q2:=Zm (Vm).1 q1;refine Ze .plain rfl (Gx (g:=g1) Try.isAgg3 Try.sizeOf3 rfl q2 fun v3 r3=>?_);obtain rfl:=Zj.1 r3;refine Zg (.int .i64 ((x0).High)) rfl rfl ?_;refine Zb (Zd (Gz ?_));obtain rfl:=sinj h;exact Kb rfl rfl (show _=.int .i64 ((x0).High) from rfl) ⟨_,hfr,rfl⟩
def f75 (x0:Int) (x1:Zv):Option (Int):=
 some ((w64 (x0 + (1:Int))))
theorem en75:Enters Try.prog 75:=enters_of Try.func75 (by kernel_rfl) rfl
theorem wk75 {gI:Gh} {wI:World} {x0:Int} {x1:Zv} {up1:Value} (rp1:RV gI.m wI x1 up1) {r:Int} (h:f75 x0 x1=some r):Fn Try.prog 75 #[.int .i64 (x0),up1] gI wI (fun _ _ v=>v=.int .i64 (r)):=by
 unfold f75 at h;refine Tk Try.func75 rfl (Nat.le_of_ble_eq_true rfl) fun g0 hm hfr=>?_;have rp1:RV g0.m wI x1 up1:=hm ▸ rp1;show E _ 7 none _ _ _ _ _;refine Zf (Za (Ze .plain rfl (Wj (g:=g0) rfl rp1 fun g1 w1 p1 hs q1=>?_)));have hfr:=hfr.ext hs;refine Zg (.int .i64 (0)) rfl rfl ?_;refine Zb (Zd (Zf (Za (Zn (.int .i64 (x0)) rfl rfl ?_))));refine Gy (.int .i64 ((w64 (x0 + (1:Int))))) rfl rfl rfl rfl ?_;refine Zg (.int .i64 ((w64 (x0 + (1:Int))))) rfl rfl ?_;refine Zb (Zd (Gz ?_));obtain rfl:=sinj h;exact Kb rfl rfl (show _=.int .i64 ((w64 (x0 + (1:Int)))) from rfl) ⟨_,hfr,rfl⟩
def f88 (x0:Gd) (x1:List (List Int)) (x2:Tc):Option (Gd × Bool):=
 jn (σ:=Gd × Gd) (fun (lE,vF)=>
  some (lE,false)
  ) fun xF=>
 (idx x1 (x0).group).bind fun l8=>
 lp (σ:=Gd × Gd × Int) (fun yF (l5,l9,o0)=>
  bif (decide (o0 < ((l8).length : Int))) then
   jn (σ:=Gd × Gd) (fun (bD,cD)=>
    yF (bD,cD,(w64 (o0 + (1:Int))))
    ) fun aG=>
   (idx l8 o0).bind fun lB=>
   Option.bind (α:=Bool) (
    bif (lB == (x2).colour) then
     (Ig (l5).done o0).bind fun y180=>
     some (((Xt .and y180 (1:Int)) == (0:Int)))
    else
     some (false)
    ) fun n9=>
   bif n9 then
    (Cg (1:Int) o0).bind fun aE=>
    (f65 ({ { l5 with done:=(Xt .or (l5).done aE) } with race:=(x2).next }) x1).bind fun bG=>
    some (bG,true)
   else
    aG (l5,l9)
  else
   xF (l5,l9)
  ) big (x0,(⟨0,0,⟨(⟨List.toArray [(⟨List.toArray [0,0,0,0],rfl⟩:Vector Int 4),(⟨List.toArray [0,0,0,0],rfl⟩:Vector Int 4)],rfl⟩:Vector (Vector Int 4) 2),⟨0,0⟩⟩⟩:Gd),(0:Int))
theorem en88:Enters Try.prog 88:=enters_of Try.func88 (by kernel_rfl) rfl
theorem wk88 {gI:Gh} {wI:World} {x0:Gd} {x1:List (List Int)} {x2:Tc} {up0:Value} (rp0:RV gI.m wI x0 up0) {up1:Value} (rp1:RV gI.m wI x1 up1) {up2:Value} (rp2:RV gI.m wI x2 up2) {r:Gd × Bool} (h:f88 x0 x1 x2=some r):Fn Try.prog 88 #[up0,up1,up2] gI wI (fun m w v=>∃ y0 y1,v=.tuple #[y0,y1]∧RV m w (r.1) y0∧y1=.bool (r.2)):=by
 unfold f88 at h;refine Tk Try.func88 rfl (Nat.le_of_ble_eq_true rfl) fun g0 hm hfr=>?_;have rp0:RV g0.m wI x0 up0:=hm ▸ rp0;have rp1:RV g0.m wI x1 up1:=hm ▸ rp1;have rp2:RV g0.m wI x2 up2:=hm ▸ rp2;show E _ 47 none _ _ _ _ _;refine Zf (Za (Ze .plain rfl (Im (g:=g0) 2003 rfl rp0 fun g1 w1 p1 hs b1=>?_)));have hfr:=hfr.stp hs;have rp1:=rp1.stp hs;have rp2:=rp2.stp hs;refine Ze .plain rfl (Wj (g:=g1) rfl rp2 fun g2 w2 p2 hs q2=>?_);have hfr:=hfr.ext hs;have rp1:=rp1.ext hs;have b1:=b1.ext hs;refine Ze .plain rfl (Gq (g:=g2) 2006 (⟨0,0,⟨(⟨List.toArray [(⟨List.toArray [0,0,0,0],rfl⟩:Vector Int 4),(⟨List.toArray [0,0,0,0],rfl⟩:Vector Int 4)],rfl⟩:Vector (Vector Int 4) 2),⟨0,0⟩⟩⟩:Gd) Try.zeroValue112 (fun m w=>⟨_,(Gi Zx (Gi Zx (Gi (Gp (Zw (Gp (Zw Zx (Zw Zx (Zw Zx (Zw Zx Gk)))) rfl) (Zw (Gp (Zw Zx (Zw Zx (Zw Zx (Zw Zx Gk)))) rfl) Gk)) rfl) (Gi Zx Zx)))),rfl⟩) fun g3 w3 p3 hs b3 cb=>?_);have hfr:=hfr.stp hs;have rp1:=rp1.stp hs;have b1:=b1.stp hs rfl;have q2:=q2.stp hs;clear cb;refine Zg (.bool false) rfl rfl ?_;refine Zb (Zd (Zq h (fun (s:Gd × Gd) e w=>∃ (g:Gh) ,Fr gI wI g w∧e 3=p1∧OB 2003 g w 112 (s.1:Gd) p1∧e 6=p3∧OB 2006 g w 112 (s.2:Gd) p3) (fun X109 xF lH h=>?_) ?_))
 ·refine Zf (Za (Zn up1 rfl rfl ?_))
  refine Zy (Gn p1 0) (Zc Uh rfl (OB.ptr b1)) rfl ?_;refine Ze .plain rfl (Qo (g:=g3) Wy.1 Try.isAgg3 Try.sizeOf3 rfl b1 fun sJ xH=>?_);obtain rfl:=Zj.1 xH;obtain ⟨l8,xE,h⟩:=Gc h;refine Zy (Qu up1 (x0).group 1) (Zh (α:=List Int) Try.underlying42 Try.sizeOf22 rfl rp1 rfl xE) rfl ?_;have yH:=Tp rp1 xE;refine Ze .plain rfl (Gx (g:=g3) Try.isAgg22 Try.sizeOf22 rfl yH fun vB cG=>?_);refine Zy (.int .i64 ((l8).length:Int)) (Qm Try.underlying22 rfl cG) rfl ?_;refine Zn (.int .i64 (0)) rfl rfl ?_;refine Zb (Zd (Zr ?_));refine Jv h (fun (s:Gd × Gd × Int) e w=>∃ (g:Gh) ,Fr gI wI g w∧e 1=up1∧RV g.m w (x1:List (List Int)) up1∧e 3=p1∧OB 2003 g w 112 (s.1:Gd) p1∧e 5=p2∧PT g.m w (x2:Tc) p2∧e 6=p3∧OB 2006 g w 112 (s.2.1:Gd) p3∧e 14=vB∧RV g.m w (l8:List Int) vB∧e 15=.int .i64 (((l8).length:Int))∧e 16=.int .i64 (s.2.2)) ⟨g3,hfr,rfl,rp1,rfl,b1,rfl,q2,rfl,b3,rfl,cG,rfl,rfl⟩ (fun X115 yF mH=>?_);rintro ⟨l5,l9,o0⟩ nJ vJ ⟨cC,hfr,mE,oE,yB,mB,lD,zB,nD,oD,uC,oB,vC,aB⟩ h;refine Zf (Za (Gy (.bool ((decide (o0 < ((l8).length:Int))))) aB vC rfl rfl ?_));refine Zb (Zd (Zf ?_));rcases Zt h with ⟨bE,h⟩ | ⟨bE,h⟩
  ·refine Wi bE rfl ?_
   refine Zu (Zd (Zq h (fun (s:Gd × Gd) e w=>∃ (g:Gh) ,Fr gI wI g w∧e 1=up1∧RV g.m w (x1:List (List Int)) up1∧e 3=p1∧OB 2003 g w 112 (s.1:Gd) p1∧e 5=p2∧PT g.m w (x2:Tc) p2∧e 6=p3∧OB 2006 g w 112 (s.2:Gd) p3∧e 14=vB∧RV g.m w (l8:List Int) vB∧e 15=.int .i64 (((l8).length:Int))∧e 16=.int .i64 (o0)) (fun X165 aG nH h=>?_) ?_))
   ·refine Zr ?_
    refine Zf (Za (Zo aB rfl ?_));obtain ⟨lB,yE,h⟩:=Gc h;refine Zy (Qu vB o0 1) (Zh (α:=Int) Try.underlying22 Try.sizeOf3 uC oB aB yE) rfl ?_;have zH:=Tp oB yE;refine Ze .plain rfl (Gx (g:=cC) Try.isAgg3 Try.sizeOf3 rfl zH fun xJ aI=>?_);obtain rfl:=Zj.1 aI;refine Zg (.int .i64 (o0)) rfl rfl ?_;refine Zg (.int .i64 (lB)) rfl rfl ?_;refine Zb (Zd ?_);obtain ⟨n9,hx,h⟩:=Gc h;refine Tm (fun e w=>∃ (g:Gh) ,Fr gI wI g w∧e 1=up1∧RV g.m w (x1:List (List Int)) up1∧e 3=p1∧OB 2003 g w 112 (l5:Gd) p1∧e 5=p2∧PT g.m w (x2:Tc) p2∧e 6=p3∧OB 2006 g w 112 (l9:Gd) p3∧e 8=.int .i64 (o0)∧e 14=vB∧RV g.m w (l8:List Int) vB∧e 15=.int .i64 (((l8).length:Int))∧e 16=.int .i64 (o0)∧e 32=.bool (n9)) (fun Q' hQ=>?_) (fun oJ zJ hR=>?_)
    ·replace h := hx
     clear hx;refine Za (Zn (.int .i64 (lB)) rfl rfl ?_);refine Zy (Gn p2 10) (Zc Xb lD (PT.ptr zB)) rfl ?_;have bI:=Zm (Jx).1 zB;refine Ze .plain rfl (Gx (g:=cC) Try.isAgg3 Try.sizeOf3 rfl bI fun aK dI=>?_);obtain rfl:=Zj.1 dI;refine Gy (.bool ((lB == (x2).colour))) rfl rfl rfl rfl ?_;refine Zn (.bool ((lB == (x2).colour))) rfl rfl ?_;rcases Zt h with ⟨i6,h⟩ | ⟨i6,h⟩
     ·refine Zz (Gn p1 1) (Zc Dw yB (OB.ptr mB)) rfl rfl i6 rfl ?_
      refine Ze (.yes2 rfl rfl i6) rfl (Qo (g:=cC) Ky.1 Try.isAgg3 Try.sizeOf3 rfl mB fun bK iI=>?_);obtain rfl:=Zj.1 iI;refine Zz (.int .i64 (o0)) (Zk rfl) rfl rfl i6 rfl ?_;obtain ⟨y180,oH,h⟩:=Gc h;refine Zz (.int .i64 (y180)) (Td rfl rfl (congrArg (Option.map (Value.int .i64)) oH)) rfl rfl i6 rfl ?_;refine Zz (.int .i64 ((Xt .and y180 (1:Int)))) (Td rfl rfl rfl) rfl rfl i6 rfl ?_;refine Zz (.bool (((Xt .and y180 (1:Int)) == (0:Int)))) (Td rfl rfl rfl) rfl rfl i6 rfl ?_;refine Zy (.bool (((Xt .and y180 (1:Int)) == (0:Int)))) (Zl (b:=(lB == (x2).colour)) rfl (Qt i6 rfl)) rfl ?_;refine Zb ?_;obtain rfl:=sinj h;exact hQ _ _ ⟨cC,hfr,mE,oE,yB,mB,lD,zB,nD,oD,rfl,uC,oB,vC,aB,rfl⟩
     ·refine Ga rfl rfl i6 rfl rfl ?_
      iterate 5 refine Ga rfl rfl i6 rfl rfl ?_
      refine Zy (.bool false) (Zl (b:=(lB == (x2).colour)) rfl (Qk i6 rfl)) rfl ?_;refine Zb ?_;obtain rfl:=sinj h;exact hQ _ _ ⟨cC,hfr,mE,oE,yB,mB,lD,zB,nD,oD,rfl,uC,oB,vC,aB,rfl⟩
    ·clear hx
     obtain ⟨eG,hfr,rE,g8,nB,n8,uE,v8,yD,t5,gG,zE,cF,dF,eF,zD⟩:=hR;rcases Zt h with ⟨iE,h⟩ | ⟨iE,h⟩
     ·refine Ts (Eq.trans (show ev _ _ = .bool (n9) from zD) (congrArg Value.bool iE)) ?_
      refine Zf (Wa (x:=.tmp 33) Ky.1 Try.isAgg3 Try.sizeOf3 n8 fun cK jI pH=>?_);obtain rfl:=Zj.1 jI;obtain ⟨aE,qH,h⟩:=Gc h;refine Qi (g:=eG) (n:=6) [] [0,1,2,3,4,5] rfl mixed (by kernel_rfl) trivial ?_;refine Gb (Gn p1 1) rfl rfl (Zc Dw nB (OB.ptr n8)) ?_;refine Te (c:=.int .i64 ((l5).done)) rfl rfl .plain (fun _ _ h=>⟨h.ch,fun b hb _=>h.below.block b hb⟩) pH rfl ?_;refine Gb (.int .i64 (o0)) rfl rfl (Zk gG) ?_;refine Gb (.int .i64 (aE)) rfl rfl (Td rfl rfl (congrArg (Option.map (Value.int .i64)) qH)) ?_;refine Gb (.int .i64 ((Xt .or (l5).done aE))) rfl rfl (Td rfl rfl rfl) ?_;refine Gb (Gn p1 1) rfl rfl (Zc Dw nB (OB.ptr n8)) ?_;refine Ul fun kI dK hs=>?_;have hfr:=hfr.ext hs;have g8:=g8.ext hs;have n8:=n8.ext hs;have v8:=v8.ext hs;have t5:=t5.ext hs;clear hs;refine Ze .plain rfl (Wt (g:=kI) Ky Try.sizeOf3 rfl n8 rfl (Zj.2 rfl) fun iG lK hs b203 rst hos=>?_);clear rst hos;have hfr:=hfr.stp hs;have g8:=g8.stp hs;have v8:=v8.stp hs;have t5:=t5.stp hs rfl;refine Zb (Zd (Zf (Za (Zy (Gn p2 0) (Zc at_144_0 uE (PT.ptr v8)) rfl ?_))));have lI:=Zm (Lo).1 v8;refine Ze .plain rfl (Gx (g:=iG) Try.isAgg108 Try.sizeOf108 rfl lI fun mK mI=>?_);refine Zy (Gn p1 2) (Zc Sd nB (OB.ptr b203)) rfl ?_;refine Ze .plain rfl (Wt (g:=iG) Hm Try.sizeOf108 rfl b203 rfl mI fun jG nK hs b207 rst hos=>?_);clear rst hos;have hfr:=hfr.stp hs;have g8:=g8.stp hs;have t5:=t5.stp hs rfl;refine Zb (Zd (Zf (Za (Ze .plain rfl (Tr (g:=jG) Try.isAgg112 Try.sizeOf112 nB b207 fun nI pI=>?_)))));refine Zo rE rfl ?_;obtain ⟨bG,sH,h⟩:=Gc h;refine Ze .plain rfl (Zp (g:=jG) (vs:=[nI,up1]) en65 (.cons rfl (.cons rfl .nil)) (wk65 pI g8 sH) fun qI pJ sI hs hr=>?_);have hfr:=hfr.ext hs;have t5:=t5.ext hs;have jJ:=hr;refine Ze .plain rfl (Gl (g:=qI) (v:=sI) Try.sizeOf112 yD t5 rfl jJ fun oK pK hs b211 cb=>?_);clear cb;have hfr:=hfr.stp hs;refine Zg (.bool true) rfl rfl ?_;refine Zb (Zd (Gz (Wf ?_)));refine Tq ?_;refine Tq ?_;refine Wf ?_;refine Tq ?_;obtain rfl:=sinj h;obtain ⟨ad212,cv212,hp212,tH,cr212⟩:=Qn Try.isAgg112 Try.sizeOf112 b211;exact Yi rfl rfl ((show _=p3 from yD).trans hp212) tH (show _=.bool true from rfl) ⟨_,hfr,_,_,rfl,cr212,rfl⟩
     ·refine Tj (Eq.trans (show ev _ _ = .bool (n9) from zD) (congrArg Value.bool iE)) ?_
      exact Zu (We (Zd (nH (l5,l9) _ _ ⟨eG,hfr,rE,g8,nB,n8,uE,v8,yD,t5,zE,cF,dF,eF⟩ h)))
   ·rintro ⟨bD, cD⟩ qJ qK ⟨kJ, hfr, kG, lG, mG, sG, xG, yG, zG, aH, rF, sF, tF, uF⟩ h
    refine Za (Gy (.int .i64 ((w64 (o0 + (1:Int))))) uF rfl rfl rfl ?_);refine Zn (.int .i64 ((w64 (o0 + (1:Int))))) rfl rfl ?_;exact Zb (Zd (mH (bD,cD,(w64 (o0 + (1:Int)))) _ _ ⟨kJ,hfr,kG,lG,mG,sG,xG,yG,zG,aH,rF,sF,tF,rfl⟩ h))
  ·refine Wg bE rfl ?_
   refine Wb ?_;refine Tx ?_;refine Tx ?_;refine Qh ?_;exact Zd (lH (l5,l9) _ _ ⟨cC,hfr,yB,mB,nD,oD⟩ h)
 ·rintro ⟨lE, vF⟩ rJ sK ⟨cH, hfr, gH, jH, vE, kH⟩ h
  refine Zf (Za (Ze .plain rfl (Tr (g:=cH) Try.isAgg112 Try.sizeOf112 gH jH fun lJ mJ=>?_)));refine Ze .plain rfl (Gl (g:=cH) (v:=lJ) Try.sizeOf112 vE kH rfl mJ fun tK uK hs b216 cb=>?_);clear cb;have hfr:=hfr.stp hs;refine Zg (.bool false) rfl rfl ?_;refine Zb (Zd (Gz ?_));obtain rfl:=sinj h;obtain ⟨ad217,cv217,hp217,uH,cr217⟩:=Qn Try.isAgg112 Try.sizeOf112 b216;exact Yi rfl rfl ((show _=p3 from vE).trans hp217) uH (show _=.bool false from rfl) ⟨_,hfr,_,_,rfl,cr217,rfl⟩
def f89 (x0:BoxLoom) (x1:Int) (x2:Int):Option (Int):=
 jn (σ:=Unit) (fun _=>
  some ((-1:Int))
  ) fun cF=>
 lp (σ:=Int) (fun dF o0=>
  jn (σ:=Unit) (fun _=>
   jn (σ:=Unit) (fun _=>
    dF ((w64 (o0 + (1:Int))))
    ) fun vC=>
   Option.bind (α:=Bool) (
    (idx ((x0).Shuttles) o0).bind fun g8=>
    bif ((g8).Side == x1) then
     (idx ((x0).Shuttles) o0).bind fun n9=>
     some (((n9).Box == x2))
    else
     some (false)
    ) fun t5=>
   bif t5 then
    some (o0)
   else
    vC ()
   ) fun eF=>
  bif (decide (o0 < (((x0).Shuttles).length : Int))) then
   eF ()
  else
   cF ()
  ) big ((0:Int))
def f90 (x0:List (List Int)) (x1:(List Int)→Option Bool):Option (Int):=
 jn (σ:=Unit) (fun _=>
  some ((-1:Int))
  ) fun k18=>
 lp (σ:=Int) (fun k19 o0=>
  bif (decide (o0 < ((x0).length : Int))) then
   jn (σ:=Unit) (fun _=>
    k19 ((w64 (o0 + (1:Int))))
    ) fun k28=>
   (idx x0 o0).bind fun vB=>
   (x1 vB).bind fun yB=>
   bif yB then
    some (o0)
   else
    k28 ()
  else
   k18 ()
  ) big ((0:Int))
theorem en90:Enters Try.prog 90:=enters_of Try.func90 (by kernel_rfl) rfl
theorem wk90 {gI:Gh} {wI:World} {x0:List (List Int)} {x1:(List Int)→Option Bool} {up0:Value} (rp0:RV gI.m wI x0 up0) {up1:Value} (rp1:Dx Try.prog x1 up1 gI wI) {r:Int} (h:f90 x0 x1=some r):Fn Try.prog 90 #[up0,up1] gI wI (fun _ _ v=>v=.int .i64 (r)):=by
 unfold f90 at h;refine Tk Try.func90 rfl (Nat.le_of_ble_eq_true rfl) fun g0 hm hfr=>?_;have rp0:RV g0.m wI x0 up0:=hm ▸ rp0;obtain ⟨ff1,fa1,fc1,rfl,fen1,fcl1⟩:=rp1;show E _ 19 none _ _ _ _ _;refine Zf (Za (Zg (.int .i64 (0)) rfl rfl ?_));refine Zb (Zd (Zq h (fun (s:Unit) e w=>∃ (g:Gh) ,Fr gI wI g w) (fun X18 k18 zB h=>?_) ?_))
 ·refine Zf (Za (Zn up0 rfl rfl ?_))
  refine Zy (.int .i64 ((x0).length:Int)) (Qm Try.underlying42 rfl rp0) rfl ?_;refine Zn (.int .i64 (0)) rfl rfl ?_;refine Zb (Zd (Zr ?_));refine Jv h (fun (s:Int) e w=>∃ (g:Gh) ,Fr gI wI g w∧e 0=up0∧RV g.m w (x0:List (List Int)) up0∧e 1=(.func (.func ff1) fa1 fc1)∧e 7=.int .i64 (((x0).length:Int))∧e 8=.int .i64 (s)) ⟨g0,hfr,rfl,rp0,rfl,rfl,rfl⟩ (fun X19 k19 cC=>?_);rintro o0 yD bE ⟨l9,hfr,l8,l5,n8,v8,t5⟩ h;refine Zf (Za (Gy (.bool ((decide (o0 < ((x0).length:Int))))) t5 v8 rfl rfl ?_));refine Zb (Zd (Zf ?_));rcases Zt h with ⟨i6,h⟩ | ⟨i6,h⟩
  ·refine Wi i6 rfl ?_
   refine Zu (Zd (Zq h (fun (s:Unit) e w=>∃ (g:Gh) ,Fr gI wI g w∧e 0=up0∧RV g.m w (x0:List (List Int)) up0∧e 1=(.func (.func ff1) fa1 fc1)∧e 7=.int .i64 (((x0).length:Int))∧e 8=.int .i64 (o0)) (fun X28 k28 uC h=>?_) ?_))
   ·refine Zr ?_
    refine Zf (Za (Zo t5 rfl ?_));refine Zg (.int .i64 (o0)) rfl rfl ?_;refine Zb (Zd (Zf (Za (Zo n8 rfl ?_))));refine Zo l8 rfl ?_;refine Zn (.int .i64 (o0)) rfl rfl ?_;obtain ⟨vB,n9,h⟩:=Gc h;refine Zy (Qu up0 o0 1) (Zh (α:=List Int) Try.underlying42 Try.sizeOf22 rfl l5 rfl n9) rfl ?_;have bD:=Tp l5 n9;refine Ze .plain rfl (Gx (g:=l9) Try.isAgg22 Try.sizeOf22 rfl bD fun cD lD=>?_);obtain ⟨yB,vC,h⟩:=Gc h;refine Ze .plain rfl (Bb (g:=l9) (vs:=[cD]) rfl fen1 (.cons rfl .nil) (fcl1 _ _ hfr.ch _ _ _  lD vC) fun nD iE lE hs hr=>?_);have hfr:=hfr.ext hs;have l5:=l5.ext hs;obtain rfl:=Hz.1 hr;refine Zb (Zd ?_);rcases Zt h with ⟨g8,h⟩ | ⟨g8,h⟩
    ·refine Wi g8 rfl ?_
     refine Zf (Za (Zn (.int .i64 (o0)) rfl rfl ?_));refine Zg (.int .i64 (o0)) rfl rfl ?_;refine Zb (Zd (Gz (Wf ?_)));refine Tq ?_;refine Tq ?_;refine Wf ?_;refine Tq ?_;obtain rfl:=sinj h;exact Kb rfl rfl (show _=.int .i64 (o0) from rfl) ⟨_,hfr,rfl⟩
    ·refine Wg g8 rfl ?_
     exact Zu (We (Zd (uC () _ _ ⟨nD,hfr,l8,l5,n8,v8,t5⟩ h)))
   ·rintro _ zD mE ⟨oD, hfr, aB, lB, mB, nB, oB⟩ h
    refine Za (Gy (.int .i64 ((w64 (o0 + (1:Int))))) oB rfl rfl rfl ?_);refine Zn (.int .i64 ((w64 (o0 + (1:Int))))) rfl rfl ?_;exact Zb (Zd (cC ((w64 (o0 + (1:Int)))) _ _ ⟨oD,hfr,aB,lB,mB,nB,rfl⟩ h))
  ·refine Wg i6 rfl ?_
   refine Wb ?_;refine Tx ?_;refine Tx ?_;refine Qh ?_;exact Zd (zB () _ _ ⟨l9,hfr⟩ h)
 ·rintro _ aE oE ⟨rE, hfr⟩ h
  refine Zf (Za (Zg (.int .i64 (-1)) rfl rfl ?_));refine Zb (Zd (Gz ?_));obtain rfl:=sinj h;exact Kb rfl rfl (show _=.int .i64 (-1) from rfl) ⟨_,hfr,rfl⟩
def f91 (x1:Int):Option ((List Int)):=
 Option.bind (α:=Unit) (
  bif (decide (x1 < (0 : Int))) then
   none
  else
   some ()
  ) fun (_:Unit)=>
 Option.bind (α:=(List Int)) (
  bif (decide ((w64 (x1 - (w64 (((0 : Nat) : Int) - ((([] : List Int)).length : Int))))) > (0 : Int))) then
   (grwz 8 ((w64 (x1 - (w64 (((0:Nat):Int) - ((([]:List Int)).length:Int))))))).bind fun _=>
   some (([]:List Int))
  else
   some (([]:List Int))
  ) fun t5=>
 some (t5)
theorem en91:Enters Try.prog 91:=enters_of Try.func91 (by kernel_rfl) rfl
theorem wk91 {iO:Nat} {gI:Gh} {wI:World} {x1:Int}  {r:(List Int)} (h:f91 x1=some r):FnG Try.prog 91 #[.slice none 0 0,.int .i64 (x1)] gI wI (fun g w v=>OS iO g w 3 r v∧RV g.m w r v):=by
 unfold f91 at h;refine Da Try.func91 rfl (Nat.le_of_ble_eq_true rfl) fun g0 hm hfr=>?_;show E _ 27 none _ _ _ _ _;refine Zf (Za (Zg (.slice none 0 0) rfl rfl ?_));refine Zb (Zd ?_);obtain ⟨_,hx,h⟩:=Gc h;refine Tm (fun e w=>∃ (g:Gh) ,Fr gI wI g w∧e 0=.slice none 0 0∧RV g.m w (([]:List Int):List Int) (Value.slice none 0 0)∧e 1=.int .i64 (x1)) (fun Q' hQ=>?_) (fun aB w3 hR=>?_)
 ·replace h := hx
  clear hx;refine Zf (Za (Zn (.int .i64 (x1)) rfl rfl ?_));refine Gy (.bool ((decide (x1 < (0:Int))))) rfl rfl rfl rfl ?_;refine Zb (Zd ?_);rcases Zt h with ⟨hc2,h⟩ | ⟨hc2,h⟩
  ·refine Wi hc2 rfl ?_
   refine Za ?_
   cases h
  ·refine Wg hc2 rfl ?_
   refine Zu ?_;obtain rfl:=sinj h;exact hQ _ _ ⟨g0,hfr,rfl,Hc,rfl⟩
 ·clear hx
  obtain ⟨g3,hfr,o0,l5,l8⟩:=hR;obtain ⟨t5,hx,h⟩:=Gc h;refine Tm (fun e w=>∃ (g:Gh) (v0:Value),Fr gI wI g w∧e 0=v0∧RV g.m w (t5:List Int) v0∧OS 4022 g w 3 (t5:List Int) v0) (fun Q' hQ=>?_) (fun lB w8 hR=>?_)
  ·replace h := hx
   clear hx;refine Zf (Za (Zo l8 rfl ?_));refine Zo o0 rfl ?_;refine Zy (.int .i64 ((0:Nat):Int)) (P_cap Try.underlying22 rfl) rfl ?_;refine Zo o0 rfl ?_;refine Zy (.int .i64 ((([]:List Int)).length:Int)) (Qm Try.underlying22 rfl l5) rfl ?_;refine Zy (.int .i64 ((w64 (((0:Nat):Int) - ((([]:List Int)).length:Int))))) (Td rfl rfl rfl) rfl ?_;refine Zy (.int .i64 ((w64 (x1 - (w64 (((0:Nat):Int) - ((([]:List Int)).length:Int))))))) (Td rfl rfl rfl) rfl ?_;refine Zy (.int .i64 ((w64 (x1 - (w64 (((0:Nat):Int) - ((([]:List Int)).length:Int))))))) (Tf rfl) rfl ?_;refine Zb (Zd (Zf (Za (Zy (.int .i64 ((w64 (x1 - (w64 (((0:Nat):Int) - ((([]:List Int)).length:Int))))))) (Zk rfl) rfl ?_))));refine Zy (.bool ((decide ((w64 (x1 - (w64 (((0:Nat):Int) - ((([]:List Int)).length:Int))))) > (0:Int))))) (Td rfl rfl rfl) rfl ?_;refine Zb (Zd ?_);rcases Zt h with ⟨hc6,h⟩ | ⟨hc6,h⟩
   ·refine Wi hc6 rfl ?_
    refine Za (Zo o0 rfl ?_);refine Zo o0 rfl ?_;refine Zy (.int .i64 ((0:Nat):Int)) (P_cap Try.underlying22 rfl) rfl ?_;refine Zy (.slice none 0 0) (P_cutN Try.underlying22 Try.sizeOf3 rfl rfl (fun p hp=>by cases hp)) rfl ?_;refine Zy (.int .i64 ((w64 (x1 - (w64 (((0:Nat):Int) - ((([]:List Int)).length:Int))))))) (Zk rfl) rfl ?_;obtain ⟨y7,n9,h⟩:=Gc h;refine Ze .plain rfl (D_growZ (g:=g3) (α:=Int) 4022 Try.underlying22 Try.underlying3 Jo rfl (Nat.le_of_ble_eq_true rfl) rfl rfl n9 fun g7 w7 b7 c7 m7 hs o7 r7=>?_);have hfr:=hfr.stp hs;have l5:=l5.stp hs;refine Zo o0 rfl ?_;refine Zy (.int .i64 ((([]:List Int)).length:Int)) (Qm Try.underlying22 rfl l5) rfl ?_;refine Zy ((.slice (some ⟨b7,0,none⟩) 0 c7)) (P_cutN Try.underlying22 Try.sizeOf3 rfl rfl (fun p hp=>by cases hp; rfl)) rfl ?_;refine Zg ((.slice (some ⟨b7,0,none⟩) 0 c7)) rfl rfl ?_;refine Zb ?_;obtain rfl:=sinj h;exact hQ _ _ ⟨g7,((.slice (some ⟨b7,0,none⟩) 0 c7)),hfr,rfl,r7,o7⟩
   ·refine Wg hc6 rfl ?_
    refine Zu ?_;obtain rfl:=sinj h;exact hQ _ _ ⟨g3,(.slice none 0 0),hfr,o0,l5,OS.nil⟩
  ·clear hx
   obtain ⟨g8,i6,hfr,n8,v8,l9⟩:=hR;refine Zf (Za (Zo n8 rfl ?_));refine Zg i6 rfl rfl ?_;refine Zb (Zd (Gz ?_));obtain rfl:=sinj h;obtain ⟨gh,hxh,homh,hrvh⟩:=OS.handn (i:=iO) hfr l9 v8;exact Kb rfl rfl (show _=i6 from rfl) ⟨gh,hxh,homh,hrvh⟩
def f92 : Nat → (List Int) → Option ((List (List Int)))
 | 0,_=>none
 | n + 1,x0=>
  jn (σ:=Unit) (fun _=>
   Option.bind (α:=(List (List Int))) (
    lp (σ:=(List (List Int)) × Int) (fun kG (oB,o0)=>
     jn (σ:=Unit) (fun _=>
      Option.bind (α:=(List (List Int))) (
       (cut x0 0 o0).bind fun lG=>
       (apnd 8 (([]:List Int)) lG).bind fun mB=>
       (cut x0 (w64 (o0 + (1:Int))) ((x0).length:Int)).bind fun mG=>
       (apnd 8 mB mG).bind fun sG=>
       (f92 n sG).bind fun vB=>
       lp (σ:=(List (List Int)) × Int) (fun xG (yB,i6)=>
        jn (σ:=Unit) (fun _=>
         Option.bind (α:=(List (List Int))) (
          (idx x0 o0).bind fun t5=>
          (idx vB i6).bind fun yG=>
          (apnd 8 (([t5]:List Int)) yG).bind fun l5=>
          (apnd 24 yB (([l5]:List (List Int)))).bind fun zG=>
          some (zG)
          ) fun zB=>
         xG (zB,(w64 (i6 + (1:Int))))
         ) fun aH=>
        bif (decide (i6 < ((vB).length : Int))) then
         aH ()
        else
         some (yB)
        ) big (oB,(0:Int))
       ) fun cC=>
      kG (cC,(w64 (o0 + (1:Int))))
      ) fun cH=>
     bif (decide (o0 < ((x0).length : Int))) then
      cH ()
     else
      some (oB)
     ) big (([]:List (List Int)),(0:Int))
    ) fun cD=>
   some (cD)
   ) fun k4=>
  bif (((x0).length : Int) == (0 : Int)) then
   some (([([]:List Int)]:List (List Int)))
  else
   k4 ()
def f93 (x0:List Int) (x1:Int→Option Bool):Option (Int):=
 jn (σ:=Unit) (fun _=>
  some ((-1:Int))
  ) fun k18=>
 lp (σ:=Int) (fun k19 o0=>
  bif (decide (o0 < ((x0).length : Int))) then
   jn (σ:=Unit) (fun _=>
    k19 ((w64 (o0 + (1:Int))))
    ) fun k28=>
   (idx x0 o0).bind fun l9=>
   (x1 l9).bind fun yB=>
   bif yB then
    some (o0)
   else
    k28 ()
  else
   k18 ()
  ) big ((0:Int))
theorem en93:Enters Try.prog 93:=enters_of Try.func93 (by kernel_rfl) rfl
theorem wk93 {gI:Gh} {wI:World} {x0:List Int} {x1:Int→Option Bool} {up0:Value} (rp0:RV gI.m wI x0 up0) {up1:Value} (rp1:Dx Try.prog x1 up1 gI wI) {r:Int} (h:f93 x0 x1=some r):Fn Try.prog 93 #[up0,up1] gI wI (fun _ _ v=>v=.int .i64 (r)):=by
 unfold f93 at h;refine Tk Try.func93 rfl (Nat.le_of_ble_eq_true rfl) fun g0 hm hfr=>?_;have rp0:RV g0.m wI x0 up0:=hm ▸ rp0;obtain ⟨ff1,fa1,fc1,rfl,fen1,fcl1⟩:=rp1;show E _ 19 none _ _ _ _ _;refine Zf (Za (Zg (.int .i64 (0)) rfl rfl ?_));refine Zb (Zd (Zq h (fun (s:Unit) e w=>∃ (g:Gh) ,Fr gI wI g w) (fun X18 k18 zB h=>?_) ?_))
 ·refine Zf (Za (Zn up0 rfl rfl ?_))
  refine Zy (.int .i64 ((x0).length:Int)) (Qm Try.underlying22 rfl rp0) rfl ?_;refine Zn (.int .i64 (0)) rfl rfl ?_;refine Zb (Zd (Zr ?_));refine Jv h (fun (s:Int) e w=>∃ (g:Gh) ,Fr gI wI g w∧e 0=up0∧RV g.m w (x0:List Int) up0∧e 1=(.func (.func ff1) fa1 fc1)∧e 7=.int .i64 (((x0).length:Int))∧e 8=.int .i64 (s)) ⟨g0,hfr,rfl,rp0,rfl,rfl,rfl⟩ (fun X19 k19 cC=>?_);rintro o0 oD aE ⟨n9,hfr,l8,l5,n8,v8,t5⟩ h;refine Zf (Za (Gy (.bool ((decide (o0 < ((x0).length:Int))))) t5 v8 rfl rfl ?_));refine Zb (Zd (Zf ?_));rcases Zt h with ⟨i6,h⟩ | ⟨i6,h⟩
  ·refine Wi i6 rfl ?_
   refine Zu (Zd (Zq h (fun (s:Unit) e w=>∃ (g:Gh) ,Fr gI wI g w∧e 0=up0∧RV g.m w (x0:List Int) up0∧e 1=(.func (.func ff1) fa1 fc1)∧e 7=.int .i64 (((x0).length:Int))∧e 8=.int .i64 (o0)) (fun X28 k28 uC h=>?_) ?_))
   ·refine Zr ?_
    refine Zf (Za (Zo t5 rfl ?_));refine Zg (.int .i64 (o0)) rfl rfl ?_;refine Zb (Zd (Zf (Za (Zo n8 rfl ?_))));refine Zo l8 rfl ?_;refine Zn (.int .i64 (o0)) rfl rfl ?_;obtain ⟨l9,aB,h⟩:=Gc h;refine Zy (Qu up0 o0 1) (Zh (α:=Int) Try.underlying22 Try.sizeOf3 rfl l5 rfl aB) rfl ?_;have bD:=Tp l5 aB;refine Ze .plain rfl (Gx (g:=n9) Try.isAgg3 Try.sizeOf3 rfl bD fun bE cD=>?_);obtain rfl:=Zj.1 cD;obtain ⟨yB,vC,h⟩:=Gc h;refine Ze .plain rfl (Bb (g:=n9) (vs:=[.int .i64 (l9)]) rfl fen1 (.cons rfl .nil) (fcl1 _ _ hfr.ch _ _ _  (Zj.2 rfl) vC) fun lD iE lE hs hr=>?_);have hfr:=hfr.ext hs;have l5:=l5.ext hs;obtain rfl:=Hz.1 hr;refine Zb (Zd ?_);rcases Zt h with ⟨g8,h⟩ | ⟨g8,h⟩
    ·refine Wi g8 rfl ?_
     refine Zf (Za (Zn (.int .i64 (o0)) rfl rfl ?_));refine Zg (.int .i64 (o0)) rfl rfl ?_;refine Zb (Zd (Gz (Wf ?_)));refine Tq ?_;refine Tq ?_;refine Wf ?_;refine Tq ?_;obtain rfl:=sinj h;exact Kb rfl rfl (show _=.int .i64 (o0) from rfl) ⟨_,hfr,rfl⟩
    ·refine Wg g8 rfl ?_
     exact Zu (We (Zd (uC () _ _ ⟨lD,hfr,l8,l5,n8,v8,t5⟩ h)))
   ·rintro _ yD mE ⟨nD, hfr, lB, mB, nB, oB, vB⟩ h
    refine Za (Gy (.int .i64 ((w64 (o0 + (1:Int))))) vB rfl rfl rfl ?_);refine Zn (.int .i64 ((w64 (o0 + (1:Int))))) rfl rfl ?_;exact Zb (Zd (cC ((w64 (o0 + (1:Int)))) _ _ ⟨nD,hfr,lB,mB,nB,oB,rfl⟩ h))
  ·refine Wg i6 rfl ?_
   refine Wb ?_;refine Tx ?_;refine Tx ?_;refine Qh ?_;exact Zd (zB () _ _ ⟨n9,hfr⟩ h)
 ·rintro _ zD oE ⟨rE, hfr⟩ h
  refine Zf (Za (Zg (.int .i64 (-1)) rfl rfl ?_));refine Zb (Zd (Gz ?_));obtain rfl:=sinj h;exact Kb rfl rfl (show _=.int .i64 (-1) from rfl) ⟨_,hfr,rfl⟩
def f94 (x0:Int) (m1:List (Int × Int)) (z1:Kf→Option Int) (z2:Gg):Option (Bool × (List (Int × Int))):=
 (idx (((z2).BoxLoom).Shuttles) (w64 (x0 - (1:Int)))).bind fun i6=>
 (z1 ((i6).Yarn)).bind fun o0=>
 some ((decide (((Jf ((Hg m1 x0 ((w64 (((Jf m1 x0).getD (0:Int)) + (1:Int)))))) x0).getD (0:Int)) > o0)),(Hg m1 x0 ((w64 (((Jf m1 x0).getD (0:Int)) + (1:Int))))))
theorem en94:Enters Try.prog 94:=enters_of Try.func94 (by kernel_rfl) rfl
theorem wk94 {iI:Nat} {gI:Gh} {wI:World} {x0:Int} {m1:List (Int × Int)} {z1:Kf→Option Int} {z2:Gg} {pf0:Value} {kv500001:Value} (fc1:FC gI.m wI 0 kv500001 pf0) (mp500001:MP (Value.int .i64) iI gI wI m1 kv500001) {pf1:Value} {qv1:Fv} (qf1:PT gI.m wI qv1 pf1) (rp2:Dx Try.prog z1 qv1.v gI wI) {pf2:Value} (qf2:PT gI.m wI z2 pf2) {r:Bool × (List (Int × Int))} (h:f94 x0 m1 z1 z2=some r):FnM Try.prog 94 #[.int .i64 (x0),pf0,pf1,pf2] iI gI wI (fun g w v=>v=.bool (r.1)∧MP (Value.int .i64) iI g w (r.2) kv500001):=by
 unfold f94 at h;refine fnM_of_E Try.func94 rfl (Nat.le_of_ble_eq_true rfl) fun g0 hm hfr=>?_;have l5:=mp500001;replace mp500001:=mp500001.enter;rw [← hm] at mp500001
 replace hm:g0.m=gI.m:=by rw [hm]
 have fc1:FC g0.m wI 0 kv500001 pf0:=hm ▸ fc1;obtain ⟨ff2,fa2,fc2,hq2,fen2,fcl2⟩:=rp2;have qf1:PT g0.m wI qv1 pf1:=hm ▸ qf1;have qf2:PT g0.m wI z2 pf2:=hm ▸ qf2;show E _ 24 none _ _ _ _ _;refine Zf (Za (Zg (.bool false) rfl rfl ?_));refine Zb (Zd (Zf (Za (Ze .plain rfl (D_loadFC0 (g:=g0) Try.isAgg160 Try.sizeOf160 (Xy mp500001) rfl fc1 ?_)))));refine Zn (.int .i64 (x0)) rfl rfl ?_;refine Ze .plain rfl (Nq (g:=g0) (z0:=(0:Int)) Try.underlying160 Ev Try.zeroValue3 (fun m w=>⟨_,Zx,rfl⟩) rfl mp500001 rfl fun v2 r2=>?_);obtain rfl:=Zj.1 r2;refine Gy (.int .i64 ((w64 (((Jf m1 x0).getD (0:Int)) + (1:Int))))) rfl rfl rfl rfl ?_;refine Ze .plain rfl (Ym (g:=g0) Try.underlying160 Ev rfl mp500001 rfl rfl (Zj.2 rfl) fun g3 w3 hs m3=>?_);have hfr:=hfr.stp hs;have fc1:=fc1.stp hs;have qf1:=qf1.stp hs;have qf2:=qf2.stp hs;refine Zb (Zd (Zf ?_));have l9:=L_loadFC0 (P:=Try.prog) (x:=.tmp 1) Try.isAgg160 Try.sizeOf160 (Xy m3) fc1;refine Zs (α:=Fv) (x:=.tmp 2) Try.isAgg132 Try.sizeOf132 qf1 fun v6 r6 n9=>?_;obtain rfl:=(Jh.1 r6).trans hq2;have q7:=Zm (Tn).1 qf2;have q8:=Zm (Tu).1 q7;refine Zs (x:=.tmp 15) Try.isAgg23 Try.sizeOf23 q8 fun v9 r9 aB=>?_;obtain ⟨i6,t5,h⟩:=Gc h;have g8:=Tp r9 t5;have lB:=Zm (Kx).1 g8;refine Zs (x:=.tmp 20) Try.isAgg85 Try.sizeOf85 lB fun l8 mB n8=>?_;obtain ⟨o0,v8,h⟩:=Gc h;refine Qi (g:=g3) (n:=15) [(2,(fun v _ _=>v=.int .i64 (((Jf ((Hg m1 x0 ((w64 (((Jf m1 x0).getD (0:Int)) + (1:Int)))))) x0).getD (0:Int))))),(12,(fun v g w=>v=.int .i64 (o0)))] [0,1,2,3,4,5,6,7,8,9,10,11,12,13,14] rfl mixed (by kernel_rfl) (⟨fun _=>Qq _,fun _=>Qq _,trivial⟩) ?_;refine Te (c:=kv500001) rfl rfl .plain (fun _ _ h=>h.ch) l9 rfl ?_;refine Gb (.int .i64 (x0)) rfl rfl (Zk rfl) ?_;refine Qw (φ:=(fun v _ _=>v=.int .i64 (((Jf ((Hg m1 x0 ((w64 (((Jf m1 x0).getD (0:Int)) + (1:Int)))))) x0).getD (0:Int))))) rfl rfl .plain (fun g w hd=>Nq (g:=g) (z0:=(0:Int)) Try.underlying160 Ev Try.zeroValue3 (fun m w=>⟨_,Zx,rfl⟩) rfl (m3.ext hd.1) rfl fun v r=>⟨g,Ext.refl g w,Zj.1 r⟩) (fun v5 hv=>?_);obtain ⟨_,_,_,rfl⟩:=hv;refine Te (c:=(.func (.func ff2) fa2 fc2)) rfl rfl .plain (fun _ _ h=>h.ch) n9 rfl ?_;refine Gb (Gn pf2 0) rfl rfl (Zc Kc rfl (PT.ptr qf2)) ?_;refine Gb (Gn (Gn pf2 0) 2) rfl rfl (Zc Kq rfl (PT.ptr q7)) ?_;refine Te (c:=v9) rfl rfl .plain (fun _ _ h=>h.ch) aB rfl ?_;refine Gb (.int .i64 (x0)) rfl rfl (Zk rfl) ?_;refine Gb (.int .i64 ((w64 (x0 - (1:Int))))) rfl rfl (Td rfl rfl rfl) ?_;refine Gb (Qu v9 (w64 (x0 - (1:Int))) 5) rfl rfl (Zh (α:=Zv) Try.underlying23 Try.sizeOf87 rfl r9 rfl t5) ?_;refine Gb (Gn (Qu v9 (w64 (x0 - (1:Int))) 5) 3) rfl rfl (Zc Vy rfl (PT.ptr g8)) ?_;refine Te (c:=l8) rfl rfl .plain (fun _ _ h=>h.ch) n8 rfl ?_;refine Qw (φ:=fun v g w=>v=.int .i64 (o0)) rfl rfl .plain (fun g w hd=>Bb (g:=g) (vs:=[l8]) rfl fen2 (.cons rfl .nil) (fcl2 _ _ (hfr.ext hd.1).ch _ _ _  (mB.ext hd.1) v8) fun g' w' v hs hr=>⟨g',hs,Zj.1 hr⟩) (fun nB hv=>?_);obtain ⟨_,_,_,rfl⟩:=hv;refine Gb (.bool ((decide (((Jf ((Hg m1 x0 ((w64 (((Jf m1 x0).getD (0:Int)) + (1:Int)))))) x0).getD (0:Int)) > o0)))) rfl rfl (Td rfl rfl rfl) ?_;refine Gb (.bool ((decide (((Jf ((Hg m1 x0 ((w64 (((Jf m1 x0).getD (0:Int)) + (1:Int)))))) x0).getD (0:Int)) > o0)))) rfl rfl (Tf rfl) ?_;refine Ul fun oB vB hs=>?_;have hfr:=hfr.ext hs;have m3:=m3.ext hs;clear hs;refine Zb (Zd (Gz ?_));obtain rfl:=sinj h;exact Kb rfl rfl (show _=.bool ((decide (((Jf ((Hg m1 x0 ((w64 (((Jf m1 x0).getD (0:Int)) + (1:Int)))))) x0).getD (0:Int)) > o0))) from rfl) ⟨_,hfr,rfl,l5.back m3⟩
theorem ws93 {σ : Type} {I : σ → Gh → World → Prop} {φ : σ → Int → Option (Bool × σ)} {x0 : List Int} {up0 : Value} {ff : FuncId} {caps : Array Value} {gI : Gh} {wI : World} {s0 : σ} {r : Int} (i : Nat) (hen : Enters Try.prog ff)
  (hφ:∀ s x b s' g w,φ s x=some (b,s')→I s g w→Ch gI.m wI g.m w→FnM Try.prog ff (#[] ++ #[.int .i64 x] ++ caps) i g w (fun g' w' v=>v=.bool b∧I s' g' w'))
  (rp0:RV gI.m wI x0 up0) (h0:I s0 gI wI) (h:idxS x0 φ s0=some r):Calls Try.prog 93 #[up0,.func (.func ff) #[] caps] wI fun e w=>∃ v,e=.returned v∧v=.int .i64 r∧∃ g s',Stp i gI wI g w∧I s' g w:=by
 unfold idxS at h
 refine Vc Try.func93 rfl (Nat.le_of_ble_eq_true rfl) (R:=fun v w=>v=.int .i64 r∧∃ g s',Stp i gI wI g w∧I s' g w) ?_
 have hfr:Stp i gI wI gI wI:=(Ext.refl gI wI).stp
 show E _ 19 none _ _ _ _ _
 refine Zf (Za (Zg (.int .i64 (0)) rfl rfl (Zb (Zd ?_))))
 refine Zq h (fun (_:Unit) e w=>∃ (g:Gh) (t:σ),Stp i gI wI g w∧I t g w) (fun X18 k18 yB h=>?_) ?_
 ·refine Zf (Za (Zn up0 rfl rfl ?_))
  refine Zy (.int .i64 ((x0).length:Int)) (Qm Try.underlying22 rfl rp0) rfl ?_
  refine Zn (.int .i64 (0)) rfl rfl (Zb (Zd (Zr ?_)))
  refine Jv h (fun (s:σ × Int) e w=>∃ (g:Gh) ,Stp i gI wI g w∧I s.1 g w∧e 0=up0∧RV g.m w (x0:List Int) up0∧e 1=(.func (.func ff) #[] caps)∧e 7=.int .i64 (((x0).length:Int))∧e 8=.int .i64 (s.2)) ⟨gI,hfr,h0,rfl,rp0,rfl,rfl,rfl⟩ (fun X19 k19 zB=>?_)
  rintro ⟨yD,o0⟩ zD iE ⟨l9,hfr,hI,l8,l5,n8,v8,t5⟩ h
  refine Zf (Za (Gy (.bool ((decide (o0 < ((x0).length:Int))))) t5 v8 rfl rfl (Zb (Zd ?_))))
  refine Zf ?_
  rcases Zt h with ⟨i6,h⟩ | ⟨i6,h⟩
  ·refine Wi i6 rfl (Zu (Zd ?_))
   refine Zq h (fun (t:σ) e w=>∃ (g:Gh) ,Stp i gI wI g w∧I t g w∧e 0=up0∧RV g.m w (x0:List Int) up0∧e 1=(.func (.func ff) #[] caps)∧e 7=.int .i64 (((x0).length:Int))∧e 8=.int .i64 (o0)) (fun X28 k28 cC h=>?_) ?_
   ·refine Zr (Zf (Za ?_))
    refine Zo t5 rfl ?_
    refine Zg (.int .i64 (o0)) rfl rfl (Zb (Zd (Zf (Za ?_))))
    refine Zo n8 rfl ?_
    refine Zo l8 rfl ?_
    refine Zn (.int .i64 (o0)) rfl rfl ?_
    obtain ⟨bD,n9,h⟩:=Gc h
    refine Zy (Qu up0 o0 1) (Zh (α:=Int) Try.underlying22 Try.sizeOf3 rfl l5 rfl n9) rfl ?_
    have cD:=Tp l5 n9
    refine Ze .plain rfl (Gx (g:=l9) Try.isAgg3 Try.sizeOf3 rfl cD fun lE lD=>?_)
    obtain rfl:=Zj.1 lD
    obtain ⟨⟨b33,t33⟩,uC,h⟩:=Gc h
    refine Ze .plain rfl (D_callvM (g:=l9) (vs:=[.int .i64 (bD)]) rfl hen (.cons rfl .nil) (hφ _ _ _ _ _ _ uC hI hfr.ch) fun vB mE oE hs hr=>?_)
    obtain ⟨rfl,hI⟩:=hr
    have hfr:=hfr.trans hs
    have l5:=l5.stp hs
    refine Zb (Zd ?_)
    rcases Zt h with ⟨g8,h⟩ | ⟨g8,h⟩
    ·refine Wi g8 rfl (Zf (Za ?_))
     refine Zn (.int .i64 (o0)) rfl rfl ?_
     refine Zg (.int .i64 (o0)) rfl rfl (Zb (Zd (Gz ?_)))
     refine Wf (Tq (Tq (Wf (Tq ?_))))
     obtain rfl:=sinj h
     exact Kb rfl rfl (show _=.int .i64 (o0) from rfl) ⟨rfl,vB,t33,hfr,hI⟩
    ·refine Wg g8 rfl (Zu (We ?_))
     exact Zd (cC t33 _ _ ⟨vB,hfr,hI,l8,l5,n8,v8,t5⟩ h)
   ·rintro vC aE rE ⟨nD, hfr, hI, aB, lB, mB, nB, oB⟩ h
    refine Za (Gy (.int .i64 ((w64 (o0 + (1:Int))))) oB rfl rfl rfl ?_)
    refine Zn (.int .i64 ((w64 (o0 + (1:Int))))) rfl rfl (Zb ?_)
    exact Zd (zB (vC,(w64 (o0 + (1:Int)))) _ _ ⟨nD,hfr,hI,aB,lB,mB,nB,rfl⟩ h)
  ·refine Wg i6 rfl (Wb (Tx (Tx (Qh ?_))))
   exact Zd (yB () _ _ ⟨l9,_,hfr,hI⟩ h)
 ·rintro _ bE uE ⟨oD, t36, hfr, hI⟩ h
  refine Zf (Za (Zg (.int .i64 (-1)) rfl rfl (Zb (Zd (Gz ?_)))))
  obtain rfl:=sinj h
  exact Kb rfl rfl (show _=.int .i64 (-1) from rfl) ⟨rfl,oD,t36,hfr,hI⟩
def f73 (x0:Gg) (x1:List Int) (x2:Kf→Option Int):Option Int:=idxS x1 (fun m n=>f94 n m x2 x0) []
theorem en73:Enters Try.prog 73:=enters_of Try.func73 (by kernel_rfl) rfl
theorem wk73 {gI:Gh} {wI:World} {x0:Gg} {x1:List Int} {x2:Kf→Option Int} {up0 up1 up2:Value} (rp0:RV gI.m wI x0 up0) (rp1:RV gI.m wI x1 up1) (rp2:Dx Try.prog x2 up2 gI wI) {r:Int} (h:f73 x0 x1 x2=some r):Fn Try.prog 73 #[up0,up1,up2] gI wI (fun _ _ v=>v=.int .i64 (r)):=by
 unfold f73 at h;refine Tk Try.func73 rfl (Nat.le_of_ble_eq_true rfl) fun g0 hm hfr=>?_;have rp0:RV g0.m wI x0 up0:=hm ▸ rp0;have rp1:RV g0.m wI x1 up1:=hm ▸ rp1
 have hone:up2.oneCell'=true:=by obtain ⟨ff,fa,fc,rfl,_⟩:=rp2; rfl
 have hfc:Ch gI.m wI g0.m wI:=hm ▸ Ch.refl _ _;show E _ 12 none _ _ _ _ _;refine Zf (Za (Ze .plain rfl (Wj (g:=g0) rfl rp0 fun g1 w1 p1 hs q1=>?_)));have hfr:=hfr.ext hs;have hfc:=hfc.trans hs.ch;have rp1:=rp1.ext hs;refine Ze .plain rfl (Wj (g:=g1) (a:=(⟨up2,hone⟩:Fv)) rfl (Jh.2 rfl) fun g2 w2 p2 hs q2=>?_);have hfr:=hfr.ext hs;have hfc:=hfc.trans hs.ch;have rp1:=rp1.ext hs;have q1:=q1.ext hs;refine Zg (.int .i64 (0)) rfl rfl (Zb (Zd ?_));refine Zf (Za (Ze .plain rfl (Yz (g:=g2) (Value.int .i64) Int 8008 fun g3 w3 v3 hs m3=>?_)));have hfr:=hfr.stp hs;have hfc:=hfc.trans hs.ch;have rp1:=rp1.stp hs;have q1:=q1.stp hs;have q2:=q2.stp hs;refine Ze .plain rfl (Gq (g:=g3) 2007 (⟨.map none,rfl⟩:Fv) Try.zeroValue160 (fun _ _=>Ml) fun g4 w4 p4 hs b4 cb=>?_);clear cb;have hfr:=hfr.stp hs;have hfc:=hfc.trans hs.ch;have rp1:=rp1.stp hs;have q1:=q1.stp hs;have q2:=q2.stp hs;have m3:=m3.stp hs rfl;have hv3:=Xy m3;refine Ze .plain rfl (Gl (g:=g4) (v:=v3) (a':=(⟨v3,hv3⟩:Fv)) Try.sizeOf160 rfl b4 rfl (Jh.2 rfl) fun g5 w5 hs b5 cb=>?_);clear cb;have hfr:=hfr.stp hs;have hfc:=hfc.trans hs.ch;have rp1:=rp1.stp hs;have q1:=q1.stp hs;have q2:=q2.stp hs;have m3:=m3.stp hs rfl;obtain ⟨g6,hs,q6⟩:=OB.pub b5;have hfr:=hfr.stp hs;have hfc:=hfc.trans hs.ch;have rp1:=rp1.stp hs;have q1:=q1.stp hs;have q2:=q2.stp hs;have m3:=m3.stp hs rfl;have fc6:=q6.fc;have rp2:=rp2.ch (g':=g6) (w':=w5) hfc;refine Zb (Zd (Zf (Za (Zn up1 rfl rfl ?_))));refine Zy (.func (.func 94) #[] #[p4,p2,p1]) (Vf (capf_0_3 rfl rfl rfl)) rfl ?_;refine Ze .plain rfl (D_callC (vs:=[up1,.func (.func 94) #[] #[p4,p2,p1]]) en93 (.cons rfl (.cons rfl .nil)) (ws93 (I:=fun m g w=>MP (Value.int .i64) 8008 g w m v3) 8008 en94 (fun s x b s' g w hx hI hch=>?_) rp1 m3 h) fun v7 w7 hq=>?_)
 ·exact wk94 (fc6.ch hch) hI (q2.ch hch) (rp2.ch hch) (q1.ch hch) hx
 ·obtain ⟨rfl, g7, s7, hs, _⟩ := hq
  have hfr:=hfr.stp hs;refine Zg (.int .i64 r) rfl rfl (Zb (Zd (Gz ?_)));exact Kb rfl rfl (show _=.int .i64 r from rfl) ⟨_,hfr,rfl⟩
def f102 (x0:List Zv) (x1:Zv→Option Bool):Option (Int):=
 jn (σ:=Unit) (fun _=>
  some ((-1:Int))
  ) fun k18=>
 lp (σ:=Int) (fun k19 o0=>
  bif (decide (o0 < ((x0).length : Int))) then
   jn (σ:=Unit) (fun _=>
    k19 ((w64 (o0 + (1:Int))))
    ) fun k28=>
   (idx x0 o0).bind fun vB=>
   (x1 vB).bind fun yB=>
   bif yB then
    some (o0)
   else
    k28 ()
  else
   k18 ()
  ) big ((0:Int))
theorem en102:Enters Try.prog 102:=enters_of Try.func102 (by kernel_rfl) rfl
theorem wk102 {gI:Gh} {wI:World} {x0:List Zv} {x1:Zv→Option Bool} {up0:Value} (rp0:RV gI.m wI x0 up0) {up1:Value} (rp1:Dx Try.prog x1 up1 gI wI) {r:Int} (h:f102 x0 x1=some r):Fn Try.prog 102 #[up0,up1] gI wI (fun _ _ v=>v=.int .i64 (r)):=by
 unfold f102 at h;refine Tk Try.func102 rfl (Nat.le_of_ble_eq_true rfl) fun g0 hm hfr=>?_;have rp0:RV g0.m wI x0 up0:=hm ▸ rp0;obtain ⟨ff1,fa1,fc1,rfl,fen1,fcl1⟩:=rp1;show E _ 19 none _ _ _ _ _;refine Zf (Za (Zg (.int .i64 (0)) rfl rfl ?_));refine Zb (Zd (Zq h (fun (s:Unit) e w=>∃ (g:Gh) ,Fr gI wI g w) (fun X18 k18 zB h=>?_) ?_))
 ·refine Zf (Za (Zn up0 rfl rfl ?_))
  refine Zy (.int .i64 ((x0).length:Int)) (Qm Try.underlying23 rfl rp0) rfl ?_;refine Zn (.int .i64 (0)) rfl rfl ?_;refine Zb (Zd (Zr ?_));refine Jv h (fun (s:Int) e w=>∃ (g:Gh) ,Fr gI wI g w∧e 0=up0∧RV g.m w (x0:List Zv) up0∧e 1=(.func (.func ff1) fa1 fc1)∧e 7=.int .i64 (((x0).length:Int))∧e 8=.int .i64 (s)) ⟨g0,hfr,rfl,rp0,rfl,rfl,rfl⟩ (fun X19 k19 cC=>?_);rintro o0 yD bE ⟨l9,hfr,l8,l5,n8,v8,t5⟩ h;refine Zf (Za (Gy (.bool ((decide (o0 < ((x0).length:Int))))) t5 v8 rfl rfl ?_));refine Zb (Zd (Zf ?_));rcases Zt h with ⟨i6,h⟩ | ⟨i6,h⟩
  ·refine Wi i6 rfl ?_
   refine Zu (Zd (Zq h (fun (s:Unit) e w=>∃ (g:Gh) ,Fr gI wI g w∧e 0=up0∧RV g.m w (x0:List Zv) up0∧e 1=(.func (.func ff1) fa1 fc1)∧e 7=.int .i64 (((x0).length:Int))∧e 8=.int .i64 (o0)) (fun X28 k28 uC h=>?_) ?_))
   ·refine Zr ?_
    refine Zf (Za (Zo t5 rfl ?_));refine Zg (.int .i64 (o0)) rfl rfl ?_;refine Zb (Zd (Zf (Za (Zo n8 rfl ?_))));refine Zo l8 rfl ?_;refine Zn (.int .i64 (o0)) rfl rfl ?_;obtain ⟨vB,n9,h⟩:=Gc h;refine Zy (Qu up0 o0 5) (Zh (α:=Zv) Try.underlying23 Try.sizeOf87 rfl l5 rfl n9) rfl ?_;have bD:=Tp l5 n9;refine Ze .plain rfl (Gx (g:=l9) Try.isAgg87 Try.sizeOf87 rfl bD fun cD lD=>?_);obtain ⟨yB,vC,h⟩:=Gc h;refine Ze .plain rfl (Bb (g:=l9) (vs:=[cD]) rfl fen1 (.cons rfl .nil) (fcl1 _ _ hfr.ch _ _ _  lD vC) fun nD iE lE hs hr=>?_);have hfr:=hfr.ext hs;have l5:=l5.ext hs;obtain rfl:=Hz.1 hr;refine Zb (Zd ?_);rcases Zt h with ⟨g8,h⟩ | ⟨g8,h⟩
    ·refine Wi g8 rfl ?_
     refine Zf (Za (Zn (.int .i64 (o0)) rfl rfl ?_));refine Zg (.int .i64 (o0)) rfl rfl ?_;refine Zb (Zd (Gz (Wf ?_)));refine Tq ?_;refine Tq ?_;refine Wf ?_;refine Tq ?_;obtain rfl:=sinj h;exact Kb rfl rfl (show _=.int .i64 (o0) from rfl) ⟨_,hfr,rfl⟩
    ·refine Wg g8 rfl ?_
     exact Zu (We (Zd (uC () _ _ ⟨nD,hfr,l8,l5,n8,v8,t5⟩ h)))
   ·rintro _ zD mE ⟨oD, hfr, aB, lB, mB, nB, oB⟩ h
    refine Za (Gy (.int .i64 ((w64 (o0 + (1:Int))))) oB rfl rfl rfl ?_);refine Zn (.int .i64 ((w64 (o0 + (1:Int))))) rfl rfl ?_;exact Zb (Zd (cC ((w64 (o0 + (1:Int)))) _ _ ⟨oD,hfr,aB,lB,mB,nB,rfl⟩ h))
  ·refine Wg i6 rfl ?_
   refine Wb ?_;refine Tx ?_;refine Tx ?_;refine Qh ?_;exact Zd (zB () _ _ ⟨l9,hfr⟩ h)
 ·rintro _ aE oE ⟨rE, hfr⟩ h
  refine Zf (Za (Zg (.int .i64 (-1)) rfl rfl ?_));refine Zb (Zd (Gz ?_));obtain rfl:=sinj h;exact Kb rfl rfl (show _=.int .i64 (-1) from rfl) ⟨_,hfr,rfl⟩
def f103 (x0:List Int) (x1:Int→Option Bool):Option (Bool):=
 (f93 x0 x1).bind fun y2=>
 some ((decide (y2 ≥ (0:Int))))
theorem en103:Enters Try.prog 103:=enters_of Try.func103 (by kernel_rfl) rfl
theorem wk103 {gI:Gh} {wI:World} {x0:List Int} {x1:Int→Option Bool} {up0:Value} (rp0:RV gI.m wI x0 up0) {up1:Value} (rp1:Dx Try.prog x1 up1 gI wI) {r:Bool} (h:f103 x0 x1=some r):Fn Try.prog 103 #[up0,up1] gI wI (fun _ _ v=>v=.bool (r)):=by
 unfold f103 at h;refine Tk Try.func103 rfl (Nat.le_of_ble_eq_true rfl) fun g0 hm hfr=>?_;have rp0:RV g0.m wI x0 up0:=hm ▸ rp0;obtain ⟨ff1,fa1,fc1,rfl,fen1,fcl1⟩:=rp1;show E _ 9 none _ _ _ _ _;refine Zf (Za (Zg (.bool false) rfl rfl ?_));refine Zb (Zd (Zf (Za (Zn up0 rfl rfl ?_))));refine Zn ((.func (.func ff1) fa1 fc1)) rfl rfl ?_;obtain ⟨y2,hy2,h⟩:=Gc h;refine Ze .plain rfl (Zp (g:=g0) (vs:=[up0,(.func (.func ff1) fa1 fc1)]) en93 (.cons rfl (.cons rfl .nil)) (wk93 rp0 (Dx.ch ⟨_,_,_,rfl,fen1,fcl1⟩ hfr.ch) hy2) fun g1 w1_ v1 hs hr=>?_);have hfr:=hfr.ext hs;subst hr;refine Gy (.bool ((decide (y2 ≥ (0:Int))))) rfl rfl rfl rfl ?_;refine Zg (.bool ((decide (y2 ≥ (0:Int))))) rfl rfl ?_;refine Zb (Zd (Gz ?_));obtain rfl:=sinj h;exact Kb rfl rfl (show _=.bool ((decide (y2 ≥ (0:Int)))) from rfl) ⟨_,hfr,rfl⟩
def f104 (x0:Int) (z0:Int) (z1:Int):Option (Bool):=
 Option.bind (α:=Bool) (
  bif (decide (x0 < z0)) then
   some (true)
  else
   some ((decide (x0 > z1)))
  ) fun o0=>
 some (o0)
theorem en104:Enters Try.prog 104:=enters_of Try.func104 (by kernel_rfl) rfl
theorem wk104 {gI:Gh} {wI:World} {x0:Int} {z0:Int} {z1:Int} {pf0:Value} (qf0:PT gI.m wI z0 pf0) {pf1:Value} (qf1:PT gI.m wI z1 pf1) {r:Bool} (h:f104 x0 z0 z1=some r):Fn Try.prog 104 #[.int .i64 (x0),pf0,pf1] gI wI (fun _ _ v=>v=.bool (r)):=by
 unfold f104 at h;refine Tk Try.func104 rfl (Nat.le_of_ble_eq_true rfl) fun g0 hm hfr=>?_;have qf0:PT g0.m wI z0 pf0:=hm ▸ qf0;have qf1:PT g0.m wI z1 pf1:=hm ▸ qf1;show E _ 13 none _ _ _ _ _;refine Zf (Za (Zg (.bool false) rfl rfl ?_));refine Zb (Zd ?_);obtain ⟨o0,hx,h⟩:=Gc h;refine Tm (fun e w=>∃ (g:Gh) ,Fr gI wI g w∧e 4=.bool (o0)) (fun Q' hQ=>?_) (fun t5 w7 hR=>?_)
 ·replace h := hx
  clear hx;refine Za (Zn (.int .i64 (x0)) rfl rfl ?_);refine Ze .plain rfl (Gx (g:=g0) Try.isAgg3 Try.sizeOf3 rfl qf0 fun v4 r4=>?_);obtain rfl:=Zj.1 r4;refine Gy (.bool ((decide (x0 < z0)))) rfl rfl rfl rfl ?_;refine Zn (.bool ((decide (x0 < z0)))) rfl rfl ?_;rcases Zt h with ⟨hc5,h⟩ | ⟨hc5,h⟩
  ·refine Ga rfl rfl hc5 rfl rfl ?_
   refine Ga rfl rfl hc5 rfl rfl ?_;refine Ga rfl rfl hc5 rfl rfl ?_;refine Zy (.bool true) (Zl (b:=(decide (x0 < z0))) rfl (Qt hc5 rfl)) rfl ?_;refine Zg (.bool true) rfl rfl ?_;refine Zb ?_;obtain rfl:=sinj h;exact hQ _ _ ⟨g0,hfr,rfl⟩
  ·refine Zz (.int .i64 (x0)) (Zk rfl) rfl rfl hc5 rfl ?_
   refine Ze (.yes2 rfl rfl hc5) rfl (Gx (g:=g0) Try.isAgg3 Try.sizeOf3 rfl qf1 fun v6 r6=>?_);obtain rfl:=Zj.1 r6;refine Zz (.bool ((decide (x0 > z1)))) (Td rfl rfl rfl) rfl rfl hc5 rfl ?_;refine Zy (.bool ((decide (x0 > z1)))) (Zl (b:=(decide (x0 < z0))) rfl (Qk hc5 rfl)) rfl ?_;refine Zg (.bool ((decide (x0 > z1)))) rfl rfl ?_;refine Zb ?_;obtain rfl:=sinj h;exact hQ _ _ ⟨g0,hfr,rfl⟩
 ·clear hx
  obtain ⟨g7,hfr,l5⟩:=hR;refine Gz ?_;obtain rfl:=sinj h;exact Kb rfl rfl (show _=.bool (o0) from l5) ⟨_,hfr,rfl⟩
end Go.Proofs.Ytmpjooneiaiffaa
