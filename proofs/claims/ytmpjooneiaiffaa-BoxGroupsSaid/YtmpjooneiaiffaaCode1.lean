import Derived.Test.YtmpjooneiaiffaaTypes
import Derived.Test.YtmpjooneiaiffaaShelf
set_option maxRecDepth 8000
set_option maxHeartbeats 4000000
namespace Go.Proofs.Ytmpjooneiaiffaa
open Go.RowKit
theorem info_3:(Try.prog.info? 3).map (fun i=>(i.zero,i.size,i.bytes))=some (some (.int .i64 0),1,8):=by kernel_rfl
theorem info_87:(Try.prog.info? 87).map (fun i=>(i.zero,i.size,i.bytes))=some (some (.agg #[.int .i64 0,.int .i64 0,.int .i64 0,.int .i64 0,.int .i64 0]),5,40):=by kernel_rfl
theorem plain_Span:Plain Wt:=fun _ m' _ w' x _ h=>(plain_two plain_int plain_int) _ m' _ w' _ _ h
theorem Qf:Try.prog.follows .mixedOrders=true:=by kernel_rfl
theorem plain_BoxShuttle:Plain Zv:=fun _ m' _ w' x _ h=>(plain_two plain_int (plain_two plain_int (plain_two plain_int plain_Span))) _ m' _ w' _ _ h
theorem fl_83 : Try.prog.fieldsOf 83 = #[{ name := "Left", type := 3, offset := 0, embedded := false, tag := "", pkgPath := "", byteOffset := 0 }, { name := "Right", type := 3, offset := 1, embedded := false, tag := "", pkgPath := "", byteOffset := 8 }] := by kernel_rfl
theorem seq_83:SEq (α:=Ge) Try.prog 83:=by
 intro d x y w a b m wx m2 wy hx hy
 obtain ⟨_,⟨_,_,rfl,rfl,rfl⟩,rfl⟩:=hx
 obtain ⟨_,⟨_,_,rfl,rfl,rfl⟩,rfl⟩:=hy
 refine (run_equalIn_struct w (d + 1) 83 _ _ (by kernel_rfl) (by kernel_rfl)).trans ?_
 rw [fl_83]
 obtain ⟨x0,x1⟩:=x
 obtain ⟨y0,y1⟩:=y
 show (Op.eqFields (d + 1) #[.int .i64 (x0),.int .i64 (x1)] #[.int .i64 (y0),.int .i64 (y1)] _).run _ _=_
 have x0p:(part 3 #[.int .i64 (x0),.int .i64 (x1)] 0).run Try.prog w=.ok (.int .i64 (x0)) w:=part_one Try.isAgg3 rfl
 have x1p:(part 3 #[.int .i64 (x0),.int .i64 (x1)] 1).run Try.prog w=.ok (.int .i64 (x1)) w:=part_one Try.isAgg3 rfl
 have y0p:(part 3 #[.int .i64 (y0),.int .i64 (y1)] 0).run Try.prog w=.ok (.int .i64 (y0)) w:=part_one Try.isAgg3 rfl
 have y1p:(part 3 #[.int .i64 (y0),.int .i64 (y1)] 1).run Try.prog w=.ok (.int .i64 (y1)) w:=part_one Try.isAgg3 rfl
 simp only [Op.eqFields,Sem.run_bind,Sem.run_ite,Sem.run_pure,x0p,x1p,y0p,y1p,Result.andThen_ok,run_equalIn_int _ _ _ _ _ _ _ Try.underlying3]
 simp
 grind
theorem eg_83:Try.prog.eqGuardType Try.prog.depth 83=false:=by kernel_rfl
theorem info_22:(Try.prog.info? 22).map (fun i=>(i.zero,i.size,i.bytes))=some (some (.slice none 0 0),1,24):=by kernel_rfl
theorem info_83:(Try.prog.info? 83).map (fun i=>(i.zero,i.size,i.bytes))=some (some (.agg #[.int .i64 0,.int .i64 0]),2,16):=by kernel_rfl
theorem fl_85 : Try.prog.fieldsOf 85 = #[{ name := "Low", type := 3, offset := 0, embedded := false, tag := "", pkgPath := "", byteOffset := 0 }, { name := "High", type := 3, offset := 1, embedded := false, tag := "", pkgPath := "", byteOffset := 8 }] := by kernel_rfl
theorem seq_85:SEq (α:=Wt) Try.prog 85:=by
 intro d x y w a b m wx m2 wy hx hy
 obtain ⟨_,⟨_,_,rfl,rfl,rfl⟩,rfl⟩:=hx
 obtain ⟨_,⟨_,_,rfl,rfl,rfl⟩,rfl⟩:=hy
 refine (run_equalIn_struct w (d + 1) 85 _ _ (by kernel_rfl) (by kernel_rfl)).trans ?_
 rw [fl_85]
 obtain ⟨x0,x1⟩:=x
 obtain ⟨y0,y1⟩:=y
 show (Op.eqFields (d + 1) #[.int .i64 (x0),.int .i64 (x1)] #[.int .i64 (y0),.int .i64 (y1)] _).run _ _=_
 have x0p:(part 3 #[.int .i64 (x0),.int .i64 (x1)] 0).run Try.prog w=.ok (.int .i64 (x0)) w:=part_one Try.isAgg3 rfl
 have x1p:(part 3 #[.int .i64 (x0),.int .i64 (x1)] 1).run Try.prog w=.ok (.int .i64 (x1)) w:=part_one Try.isAgg3 rfl
 have y0p:(part 3 #[.int .i64 (y0),.int .i64 (y1)] 0).run Try.prog w=.ok (.int .i64 (y0)) w:=part_one Try.isAgg3 rfl
 have y1p:(part 3 #[.int .i64 (y0),.int .i64 (y1)] 1).run Try.prog w=.ok (.int .i64 (y1)) w:=part_one Try.isAgg3 rfl
 simp only [Op.eqFields,Sem.run_bind,Sem.run_ite,Sem.run_pure,x0p,x1p,y0p,y1p,Result.andThen_ok,run_equalIn_int _ _ _ _ _ _ _ Try.underlying3]
 simp
 grind
theorem eg_85:Try.prog.eqGuardType Try.prog.depth 85=false:=by kernel_rfl
theorem lay_85:layoutOf Try.prog 85=some ([.int .i64 0,.int .i64 0],[(0,1),(1,1)]):=by kernel_rfl
theorem info_85:(Try.prog.info? 85).map (fun i=>(i.zero,i.size,i.bytes))=some (some (.agg #[.int .i64 0,.int .i64 0]),2,16):=by kernel_rfl
theorem lay_25:layoutOf Try.prog 25=some ([.slice none 0 0,.slice none 0 0,.slice none 0 0],[(0,1),(1,1),(2,1)]):=by kernel_rfl
theorem endm_c {P:Program} {e:Env} {ds:List Deferred} {w:World} {fn:Func} {R:Value→World→Prop} {t0:Tmp} {v0:Value} {y0:TypeId} {a0:Addr} (hres:fn.results=#[.cell t0 y0]) (hd:ds=[]) (h0:e t0=.pointer (some a0)) (l0:(loadVar y0 a0).run P w=.ok v0 w) (h:R v0 w):atEnd P fn R .ret e ds w:=
 ⟨hd,fun tmps ht=>⟨_,by simp [results,hres,ht,asAddr,h0,l0],h⟩⟩
theorem lay_87:layoutOf Try.prog 87=some ([.int .i64 0,.int .i64 0,.int .i64 0,.int .i64 0,.int .i64 0],[(0,1),(1,1),(2,1),(3,2)]):=by kernel_rfl
theorem lay_83:layoutOf Try.prog 83=some ([.int .i64 0,.int .i64 0],[(0,1),(1,1)]):=by kernel_rfl
theorem lay_102:layoutOf Try.prog 102=some ([.slice none 0 0,.slice none 0 0,.slice none 0 0],[(0,3)]):=by kernel_rfl
theorem capf_0_1 {e:Env} {f:FuncId} {o0:Operand} {b0:Value} (hb0:ev e o0=b0):(Value.func (.func f) ((#[]:Array Operand).map (ev e)) ((#[o0]:Array Operand).map (ev e)))=.func (.func f) #[] #[b0]:=by simp [hb0]
theorem endm_ct {P:Program} {e:Env} {ds:List Deferred} {w:World} {fn:Func} {R:Value→World→Prop} {t0:Tmp} {v0:Value} {y0:TypeId} {a0:Addr} {t1:Tmp} {v1:Value} (hres:fn.results=#[.cell t0 y0,.tmp t1]) (hd:ds=[]) (h0:e t0=.pointer (some a0)) (l0:(loadVar y0 a0).run P w=.ok v0 w) (h1:e t1=v1) (h:R (.tuple #[v0,v1]) w):atEnd P fn R .ret e ds w:=
 ⟨hd,fun tmps ht=>⟨_,by simp [results,hres,ht,asAddr,h0,l0,h1],h⟩⟩
theorem pl_75:Pl (Vector Int 4):=Pl.array Pl.int
theorem pl_76:Pl (Vector (Vector Int 4) 2):=Pl.array pl_75
theorem pl_83:Pl Ge:=Pl.of (Pl.prod Pl.int Pl.int)
theorem pl_108:Pl Gv:=Pl.of (Pl.prod pl_76 pl_83)
theorem Ty:Pl Gd:=Pl.of (Pl.prod Pl.int (Pl.prod Pl.int pl_108))
theorem eqd_75:EqD Try.prog (Vector Int 4) 2 75:=EqD.array Try.underlying75 info_3 (by kernel_rfl) Try.isAgg3 Try.sizeOf3 (EqD.int Try.underlying3)
theorem info_75:(Try.prog.info? 75).map (fun i=>(i.zero,i.size,i.bytes))=some (some (.agg #[.int .i64 0,.int .i64 0,.int .i64 0,.int .i64 0]),4,32):=by kernel_rfl
theorem eqd_76:EqD Try.prog (Vector (Vector Int 4) 2) 3 76:=EqD.array Try.underlying76 info_75 (by kernel_rfl) Try.isAgg75 Try.sizeOf75 eqd_75
theorem eqd_83:EqD Try.prog Ge 2 83:=EqD.struct rfl (by kernel_rfl) (by kernel_rfl) (by rw [fl_83]; exact (FEq.cons (by decide) (Wa).1 Try.isAgg3 Try.sizeOf3 (EqD.int Try.underlying3) (FEq.cons (by decide) (Wc).1 Try.isAgg3 Try.sizeOf3 (EqD.int Try.underlying3) FEq.nil))) (fun x y=>by cases x; cases y; simp)
theorem fl_108 : Try.prog.fieldsOf 108 = #[{ name := "boxes", type := 76, offset := 0, embedded := false, tag := "", pkgPath := "griffe/box", byteOffset := 0 }, { name := "at", type := 83, offset := 8, embedded := false, tag := "", pkgPath := "griffe/box", byteOffset := 64 }] := by kernel_rfl
theorem eqd_108:EqD Try.prog Gv 4 108:=EqD.struct rfl (by kernel_rfl) (by kernel_rfl) (by rw [fl_108]; exact (FEq.cons (by decide) (Wu).1 Try.isAgg76 Try.sizeOf76 eqd_76 (FEq.cons (by decide) (part_BoxRace_1).1 Try.isAgg83 Try.sizeOf83 (eqd_83.up (by decide)) FEq.nil))) (fun x y=>by cases x; cases y; simp)
theorem fl_112 : Try.prog.fieldsOf 112 = #[{ name := "group", type := 3, offset := 0, embedded := false, tag := "", pkgPath := "griffe/box", byteOffset := 0 }, { name := "done", type := 3, offset := 1, embedded := false, tag := "", pkgPath := "griffe/box", byteOffset := 8 }, { name := "race", type := 108, offset := 2, embedded := true, tag := "", pkgPath := "griffe/box", byteOffset := 16 }] := by kernel_rfl
theorem eqd_112:EqD Try.prog Gd 5 112:=EqD.struct rfl (by kernel_rfl) (by kernel_rfl) (by rw [fl_112]; exact (FEq.cons (by decide) (Wx).1 Try.isAgg3 Try.sizeOf3 ((EqD.int Try.underlying3).up (by decide)) (FEq.cons (by decide) (part_BoxPoint_1).1 Try.isAgg3 Try.sizeOf3 ((EqD.int Try.underlying3).up (by decide)) (FEq.cons (by decide) (part_BoxPoint_2).1 Try.isAgg108 Try.sizeOf108 eqd_108 FEq.nil)))) (fun x y=>by cases x; cases y; simp)
theorem ckd_75:CkD Try.prog (Vector Int 4) 2 75:=CkD.array Try.underlying75 info_3 (by kernel_rfl) Try.isAgg3 Try.sizeOf3 (CkD.int Try.underlying3)
theorem ckd_76:CkD Try.prog (Vector (Vector Int 4) 2) 3 76:=CkD.array Try.underlying76 info_75 (by kernel_rfl) Try.isAgg75 Try.sizeOf75 ckd_75
theorem ckd_83:CkD Try.prog Ge 2 83:=CkD.struct rfl Try.underlying83 fun f hf=>by
 simp only [List.mem_cons,List.not_mem_nil,or_false] at hf
 rcases hf with rfl | rfl
 ·exact ⟨by decide,_,_,_,(Wa).1,Try.isAgg3,Try.sizeOf3,(CkD.int Try.underlying3)⟩
 ·exact ⟨by decide,_,_,_,(Wc).1,Try.isAgg3,Try.sizeOf3,(CkD.int Try.underlying3)⟩
theorem ckd_108:CkD Try.prog Gv 4 108:=CkD.struct rfl Try.underlying108 fun f hf=>by
 simp only [List.mem_cons,List.not_mem_nil,or_false] at hf
 rcases hf with rfl | rfl
 ·exact ⟨by decide,_,_,_,(Wu).1,Try.isAgg76,Try.sizeOf76,ckd_76⟩
 ·exact ⟨by decide,_,_,_,(part_BoxRace_1).1,Try.isAgg83,Try.sizeOf83,ckd_83.up (by decide)⟩
theorem ckd_112:CkD Try.prog Gd 5 112:=CkD.struct rfl Try.underlying112 fun f hf=>by
 simp only [List.mem_cons,List.not_mem_nil,or_false] at hf
 rcases hf with rfl | rfl | rfl
 ·exact ⟨by decide,_,_,_,(Wx).1,Try.isAgg3,Try.sizeOf3,(CkD.int Try.underlying3).up (by decide)⟩
 ·exact ⟨by decide,_,_,_,(part_BoxPoint_1).1,Try.isAgg3,Try.sizeOf3,(CkD.int Try.underlying3).up (by decide)⟩
 ·exact ⟨by decide,_,_,_,(part_BoxPoint_2).1,Try.isAgg108,Try.sizeOf108,ckd_108⟩
theorem key_112:KeyLaw Try.prog 112 (Ws Ty):=keyLaw_pl Ty (by rw [Try.underlying112]) rfl eqd_112 ckd_112 (by decide)
theorem lay_154:layoutOf Try.prog 154=some ([.int .i64 0,.int .i64 0,.map none],[(0,1),(1,1),(2,1)]):=by kernel_rfl
theorem capf_0_2 {e:Env} {f:FuncId} {o0:Operand} {u3:Operand} {b0:Value} {b1:Value} (hb0:ev e o0=b0) (hb1:ev e u3=b1):(Value.func (.func f) ((#[]:Array Operand).map (ev e)) ((#[o0,u3]:Array Operand).map (ev e)))=.func (.func f) #[] #[b0,b1]:=by simp [hb0,hb1]
theorem key_3:KeyLaw Try.prog 3 (Value.int .i64):=keyLaw_int Try.underlying3
theorem capf_0_3 {e:Env} {f:FuncId} {o0:Operand} {u3:Operand} {l5:Operand} {b0:Value} {b1:Value} {b2:Value} (hb0:ev e o0=b0) (hb1:ev e u3=b1) (hb2:ev e l5=b2):(Value.func (.func f) ((#[]:Array Operand).map (ev e)) ((#[o0,u3,l5]:Array Operand).map (ev e)))=.func (.func f) #[] #[b0,b1,b2]:=by simp [hb0,hb1,hb2]
theorem endm_ctt {P:Program} {e:Env} {ds:List Deferred} {w:World} {fn:Func} {R:Value→World→Prop} {t0:Tmp} {v0:Value} {y0:TypeId} {a0:Addr} {t1:Tmp} {v1:Value} {t2:Tmp} {v2:Value} (hres:fn.results=#[.cell t0 y0,.tmp t1,.tmp t2]) (hd:ds=[]) (h0:e t0=.pointer (some a0)) (l0:(loadVar y0 a0).run P w=.ok v0 w) (h1:e t1=v1) (h2:e t2=v2) (h:R (.tuple #[v0,v1,v2]) w):atEnd P fn R .ret e ds w:=
 ⟨hd,fun tmps ht=>⟨_,by simp [results,hres,ht,asAddr,h0,l0,h1,h2],h⟩⟩
theorem eqd_85:EqD Try.prog Wt 2 85:=EqD.struct rfl (by kernel_rfl) (by kernel_rfl) (by rw [fl_85]; exact (FEq.cons (by decide) (part_Span_0).1 Try.isAgg3 Try.sizeOf3 (EqD.int Try.underlying3) (FEq.cons (by decide) (part_Span_1).1 Try.isAgg3 Try.sizeOf3 (EqD.int Try.underlying3) FEq.nil))) (fun x y=>by cases x; cases y; simp)
theorem fl_87 : Try.prog.fieldsOf 87 = #[{ name := "Colour", type := 3, offset := 0, embedded := false, tag := "", pkgPath := "", byteOffset := 0 }, { name := "Side", type := 3, offset := 1, embedded := false, tag := "", pkgPath := "", byteOffset := 8 }, { name := "Box", type := 3, offset := 2, embedded := false, tag := "", pkgPath := "", byteOffset := 16 }, { name := "Yarn", type := 85, offset := 3, embedded := false, tag := "", pkgPath := "", byteOffset := 24 }] := by kernel_rfl
theorem eqd_87:EqD Try.prog Zv 3 87:=EqD.struct rfl (by kernel_rfl) (by kernel_rfl) (by rw [fl_87]; exact (FEq.cons (by decide) (part_BoxShuttle_0).1 Try.isAgg3 Try.sizeOf3 ((EqD.int Try.underlying3).up (by decide)) (FEq.cons (by decide) (Qt).1 Try.isAgg3 Try.sizeOf3 ((EqD.int Try.underlying3).up (by decide)) (FEq.cons (by decide) (Wl).1 Try.isAgg3 Try.sizeOf3 ((EqD.int Try.underlying3).up (by decide)) (FEq.cons (by decide) (Wd).1 Try.isAgg85 Try.sizeOf85 eqd_85 FEq.nil))))) (fun x y=>by cases x; cases y; simp)
theorem eg_87:Try.prog.eqGuardType Try.prog.depth 87=false:=by kernel_rfl
theorem layA_138:((Try.prog.info? 138).bind (·.zero)).map (·.cells.toList)=some [.int .i64 0,.int .i64 0]:=by kernel_rfl
theorem szA_3:(Try.prog.info? 3).map (·.size)=some 1:=by kernel_rfl
theorem endm_cttt {P:Program} {e:Env} {ds:List Deferred} {w:World} {fn:Func} {R:Value→World→Prop} {t0:Tmp} {v0:Value} {y0:TypeId} {a0:Addr} {t1:Tmp} {v1:Value} {t2:Tmp} {v2:Value} {t3:Tmp} {v3:Value} (hres:fn.results=#[.cell t0 y0,.tmp t1,.tmp t2,.tmp t3]) (hd:ds=[]) (h0:e t0=.pointer (some a0)) (l0:(loadVar y0 a0).run P w=.ok v0 w) (h1:e t1=v1) (h2:e t2=v2) (h3:e t3=v3) (h:R (.tuple #[v0,v1,v2,v3]) w):atEnd P fn R .ret e ds w:=
 ⟨hd,fun tmps ht=>⟨_,by simp [results,hres,ht,asAddr,h0,l0,h1,h2,h3],h⟩⟩
@[reducible] def ow_BoxLoom:Ow BoxLoom:=Ow.struct (fun (x:BoxLoom)=>(x.Boxes,x.At,x.Shuttles)) (Ow.pair (Ow.list 3 (Ow.sh Int)) (Ow.pair (Ow.list 3 (Ow.sh Int)) (Ow.list 87 (Ow.sh Zv))))
theorem lay_144:layoutOf Try.prog 144=some ([.int .i64 0,.int .i64 0,.int .i64 0,.int .i64 0,.int .i64 0,.int .i64 0,.int .i64 0,.int .i64 0,.int .i64 0,.int .i64 0,.int .i64 0,.int .i64 0],[(0,10),(10,1),(11,1)]):=by kernel_rfl
theorem Qe:Fl ow_BoxLoom (Ow.list 87 (Ow.sh Zv)) 2 (fun (x:BoxLoom) y=>{ x with Shuttles:=y }) (fun (q:(ow_BoxLoom).S) (r:((Ow.list 87 (Ow.sh Zv))).S)=>((Prod.fst q),((Prod.fst (Prod.snd q)),r))):=Fl.of _ (Fl.comp Prod.snd Prod.snd (Fl.snd _ _) (Fl.comp Prod.snd Prod.snd (Fl.snd _ _) (Fl.id_ _) rfl) rfl) (fun _ _=>rfl)
theorem fl_BoxShuttle_1:Fl (Ow.sh Zv) (Ow.sh Int) 1 (fun (x:Zv) y=>{ x with Side:=y }) (fun q _=>q):=Fl.shd Qt (fun _ _=>rfl) (fun _ _ _=>rfl)
theorem fl_BoxShuttle_2:Fl (Ow.sh Zv) (Ow.sh Int) 2 (fun (x:Zv) y=>{ x with Box:=y }) (fun q _=>q):=Fl.shd Wl (fun _ _=>rfl) (fun _ _ _=>rfl)
theorem fl_BoxLoom_1:Fl ow_BoxLoom (Ow.list 3 (Ow.sh Int)) 1 (fun (x:BoxLoom) y=>{ x with At:=y }) (fun (q:(ow_BoxLoom).S) (r:((Ow.list 3 (Ow.sh Int))).S)=>((Prod.fst q),(r,(Prod.snd (Prod.snd q))))):=Fl.of _ (Fl.comp Prod.snd Prod.snd (Fl.snd _ _) (Fl.fst _ _) rfl) (fun _ _=>rfl)
theorem lay_129:layoutOf Try.prog 129=some ([.slice none 0 0,.int .i64 0,.int .i64 0,.int .i64 0,.int .i64 0,.int .i64 0,.int .i64 0,.int .i64 0,.int .i64 0,.int .i64 0,.int .i64 0,.int .i64 0],[(0,1),(1,10),(11,1)]):=by kernel_rfl
theorem tup4_0 {b0 b1 b2 b3:Value} {B0:Value→Prop} {B1:Value→Prop} {B2:Value→Prop} {B3:Value→Prop} (h:∃ c0 c1 c2 c3:Value,Value.tuple #[b0,b1,b2,b3]=.tuple #[c0,c1,c2,c3]∧B0 c0∧B1 c1∧B2 c2∧B3 c3):B0 b0:=by
 obtain ⟨c0,c1,c2,c3,he,h0,h1,h2,h3⟩:=h; simp at he; obtain ⟨rfl,rfl,rfl,rfl⟩:=he; exact h0
theorem tup3_0 {b0 b1 b2:Value} {B0:Value→Prop} {B1:Value→Prop} {B2:Value→Prop} (h:∃ c0 c1 c2:Value,Value.tuple #[b0,b1,b2]=.tuple #[c0,c1,c2]∧B0 c0∧B1 c1∧B2 c2):B0 b0:=by
 obtain ⟨c0,c1,c2,he,h0,h1,h2⟩:=h; simp at he; obtain ⟨rfl,rfl,rfl⟩:=he; exact h0
theorem endm_cc {P:Program} {e:Env} {ds:List Deferred} {w:World} {fn:Func} {R:Value→World→Prop} {t0:Tmp} {v0:Value} {y0:TypeId} {a0:Addr} {t1:Tmp} {v1:Value} {y1:TypeId} {a1:Addr} (hres:fn.results=#[.cell t0 y0,.cell t1 y1]) (hd:ds=[]) (h0:e t0=.pointer (some a0)) (l0:(loadVar y0 a0).run P w=.ok v0 w) (h1:e t1=.pointer (some a1)) (l1:(loadVar y1 a1).run P w=.ok v1 w) (h:R (.tuple #[v0,v1]) w):atEnd P fn R .ret e ds w:=
 ⟨hd,fun tmps ht=>⟨_,by simp [results,hres,ht,asAddr,h0,l0,h1,l1],h⟩⟩
theorem pl_138:Pl (Vector Int 2):=Pl.array Pl.int
theorem eqd_138:EqD Try.prog (Vector Int 2) 2 138:=EqD.array Try.underlying138 info_3 (by kernel_rfl) Try.isAgg3 Try.sizeOf3 (EqD.int Try.underlying3)
theorem ckd_138:CkD Try.prog (Vector Int 2) 2 138:=CkD.array Try.underlying138 info_3 (by kernel_rfl) Try.isAgg3 Try.sizeOf3 (CkD.int Try.underlying3)
theorem key_138:KeyLaw Try.prog 138 (Ws pl_138):=keyLaw_pl pl_138 (by rw [Try.underlying138]) rfl eqd_138 ckd_138 (by decide)
theorem lay_112:layoutOf Try.prog 112=some ([.int .i64 0,.int .i64 0,.int .i64 0,.int .i64 0,.int .i64 0,.int .i64 0,.int .i64 0,.int .i64 0,.int .i64 0,.int .i64 0,.int .i64 0,.int .i64 0],[(0,1),(1,1),(2,10)]):=by kernel_rfl
theorem eg_76:Try.prog.eqGuardType Try.prog.depth 76=false:=by kernel_rfl
theorem endm_cctt {P:Program} {e:Env} {ds:List Deferred} {w:World} {fn:Func} {R:Value→World→Prop} {t0:Tmp} {v0:Value} {y0:TypeId} {a0:Addr} {t1:Tmp} {v1:Value} {y1:TypeId} {a1:Addr} {t2:Tmp} {v2:Value} {t3:Tmp} {v3:Value} (hres:fn.results=#[.cell t0 y0,.cell t1 y1,.tmp t2,.tmp t3]) (hd:ds=[]) (h0:e t0=.pointer (some a0)) (l0:(loadVar y0 a0).run P w=.ok v0 w) (h1:e t1=.pointer (some a1)) (l1:(loadVar y1 a1).run P w=.ok v1 w) (h2:e t2=v2) (h3:e t3=v3) (h:R (.tuple #[v0,v1,v2,v3]) w):atEnd P fn R .ret e ds w:=
 ⟨hd,fun tmps ht=>⟨_,by simp [results,hres,ht,asAddr,h0,l0,h1,l1,h2,h3],h⟩⟩
theorem endm_tcttt {P:Program} {e:Env} {ds:List Deferred} {w:World} {fn:Func} {R:Value→World→Prop} {t0:Tmp} {v0:Value} {t1:Tmp} {v1:Value} {y1:TypeId} {a1:Addr} {t2:Tmp} {v2:Value} {t3:Tmp} {v3:Value} {t4:Tmp} {v4:Value} (hres:fn.results=#[.tmp t0,.cell t1 y1,.tmp t2,.tmp t3,.tmp t4]) (hd:ds=[]) (h0:e t0=v0) (h1:e t1=.pointer (some a1)) (l1:(loadVar y1 a1).run P w=.ok v1 w) (h2:e t2=v2) (h3:e t3=v3) (h4:e t4=v4) (h:R (.tuple #[v0,v1,v2,v3,v4]) w):atEnd P fn R .ret e ds w:=
 ⟨hd,fun tmps ht=>⟨_,by simp [results,hres,ht,asAddr,h0,h1,l1,h2,h3,h4],h⟩⟩
def f78 (x0:List Int):Option (List Int):=apnd 8 [] x0
theorem en78:Enters Try.prog 78:=enters_of Try.func78 (by kernel_rfl) rfl
def f79 (x0:List Zv):Option (List Zv):=apnd 40 [] x0
theorem en79:Enters Try.prog 79:=enters_of Try.func79 (by kernel_rfl) rfl
theorem en81:Enters Try.prog 81:=enters_of Try.func81 (by kernel_rfl) rfl
theorem en82:Enters Try.prog 82:=enters_of Try.func82 (by kernel_rfl) rfl
def f13 (x0:BoxLoom):Option (Bool):=
 Option.bind (α:=Bool) (
  bif (decide ((((x0).Boxes).length : Int) > (10 : Int))) then
   some (true)
  else
   bif (decide ((((x0).At).length : Int) > (10 : Int))) then
    some (true)
   else
    some ((decide ((((x0).Shuttles).length:Int) > (10:Int))))
  ) fun l5=>
 some (l5)
theorem en13:Enters Try.prog 13:=enters_of Try.func13 (by kernel_rfl) rfl
theorem wk13 {gI:Gh} {wI:World} {x0:BoxLoom} {up0:Value} (rp0:RV gI.m wI x0 up0) {r:Bool} (h:f13 x0=some r):Fn Try.prog 13 #[up0] gI wI (fun _ _ v=>v=.bool (r)):=by
 unfold f13 at h
 refine Tf Try.func13 rfl (Nat.le_of_ble_eq_true rfl) fun g0 hm hfr=>?_
 have rp0:RV g0.m wI x0 up0:=hm ▸ rp0
 show E _ 19 none _ _ _ _ _
 refine Zf (Za (Ze .plain rfl (We (g:=g0) rfl rp0 fun g1 w1 p1 hs q1=>?_)))
 have hfr:=hfr.ext hs
 refine Zg (.bool false) rfl rfl ?_
 refine Zb (Zd ?_)
 obtain ⟨l5,hx,h⟩:=Gc h
 refine Th (fun e w=>∃ (g:Gh) ,Fr gI wI g w∧e 2=.bool (l5)) (fun Q' hQ=>?_) (fun n9 aB hR=>?_)
 ·replace h := hx
  clear hx
  refine Za (Zy (Gj p1 0) (Zc Wo rfl (PT.ptr q1)) rfl ?_)
  have i6:=Zm (Ts).1 q1
  refine Ze .plain rfl (Gr (g:=g1) Try.isAgg22 Try.sizeOf22 rfl i6 fun lB g8=>?_)
  refine Zy (.int .i64 (((x0).Boxes).length:Int)) (Tw Try.underlying22 rfl g8) rfl ?_
  refine Zy (.bool ((decide ((((x0).Boxes).length:Int) > (10:Int))))) (Td rfl rfl rfl) rfl ?_
  refine Zy (.bool ((decide ((((x0).Boxes).length:Int) > (10:Int))))) (Zk rfl) rfl ?_
  rcases Zt h with ⟨o0,h⟩ | ⟨o0,h⟩
  ·refine Ga rfl rfl o0 rfl rfl ?_
   iterate 3 refine Ga rfl rfl o0 rfl rfl ?_
   refine Zy (.bool true) (Zl (b:=(decide ((((x0).Boxes).length:Int) > (10:Int)))) rfl (Tp o0 rfl)) rfl ?_
   refine EL_dead 6 rfl ?_
   refine Zg (.bool true) rfl rfl ?_
   refine Zb ?_
   obtain rfl:=sinj h
   exact hQ _ _ ⟨g1,hfr,rfl⟩
  ·refine Zz (Gj p1 1) (Zc at_25_1 rfl (PT.ptr q1)) rfl rfl o0 rfl ?_
   have l8:=Zm (Qo).1 q1
   refine Ze (.yes2 rfl rfl o0) rfl (Gr (g:=g1) Try.isAgg22 Try.sizeOf22 rfl l8 fun mB n8=>?_)
   refine Zz (.int .i64 (((x0).At).length:Int)) (Tw Try.underlying22 rfl n8) rfl rfl o0 rfl ?_
   refine Zz (.bool ((decide ((((x0).At).length:Int) > (10:Int))))) (Td rfl rfl rfl) rfl rfl o0 rfl ?_
   refine Zy (.bool ((decide ((((x0).At).length:Int) > (10:Int))))) (Zl (b:=(decide ((((x0).Boxes).length:Int) > (10:Int)))) rfl (Tl o0 rfl)) rfl ?_
   refine Zy (.bool ((decide ((((x0).At).length:Int) > (10:Int))))) (Zk rfl) rfl ?_
   rcases Zt h with ⟨u3,h⟩ | ⟨u3,h⟩
   ·refine Ga rfl rfl u3 rfl rfl ?_
    iterate 3 refine Ga rfl rfl u3 rfl rfl ?_
    refine Zy (.bool true) (Zl (b:=(decide ((((x0).At).length:Int) > (10:Int)))) rfl (Tp u3 rfl)) rfl ?_
    refine Zg (.bool true) rfl rfl ?_
    refine Zb ?_
    obtain rfl:=sinj h
    exact hQ _ _ ⟨g1,hfr,rfl⟩
   ·refine Zz (Gj p1 2) (Zc Qk rfl (PT.ptr q1)) rfl rfl u3 rfl ?_
    have v8:=Zm (Gx).1 q1
    refine Ze (.yes2 rfl rfl u3) rfl (Gr (g:=g1) Try.isAgg23 Try.sizeOf23 rfl v8 fun nB l9=>?_)
    refine Zz (.int .i64 (((x0).Shuttles).length:Int)) (Tw Try.underlying23 rfl l9) rfl rfl u3 rfl ?_
    refine Zz (.bool ((decide ((((x0).Shuttles).length:Int) > (10:Int))))) (Td rfl rfl rfl) rfl rfl u3 rfl ?_
    refine Zy (.bool ((decide ((((x0).Shuttles).length:Int) > (10:Int))))) (Zl (b:=(decide ((((x0).At).length:Int) > (10:Int)))) rfl (Tl u3 rfl)) rfl ?_
    refine Zy (.bool ((decide ((((x0).Shuttles).length:Int) > (10:Int))))) (Tg rfl) rfl ?_
    refine Zb ?_
    obtain rfl:=sinj h
    exact hQ _ _ ⟨g1,hfr,rfl⟩
 ·clear hx
  obtain ⟨oB,hfr,t5⟩:=hR
  refine Gw ?_
  obtain rfl:=sinj h
  exact Wb rfl rfl (show _=.bool (l5) from t5) ⟨_,hfr,rfl⟩
def f16 (x0:List Int):Option ((List Int)):=
 (apnd 8 (([]:List Int)) x0).bind fun y3=>
 some (y3)
theorem en16:Enters Try.prog 16:=enters_of Try.func16 (by kernel_rfl) rfl
theorem wk16 {gI:Gh} {wI:World} {x0:List Int} {up0:Value} (rp0:RV gI.m wI x0 up0) {r:(List Int)} (h:f16 x0=some r):Fn Try.prog 16 #[up0] gI wI (fun m w v=>RV m w (r) v):=by
 unfold f16 at h
 refine Tf Try.func16 rfl (Nat.le_of_ble_eq_true rfl) fun g0 hm hfr=>?_
 have rp0:RV g0.m wI x0 up0:=hm ▸ rp0
 show E _ 6 none _ _ _ _ _
 refine Zf (Za (Zg (.slice none 0 0) rfl rfl ?_))
 refine Zb (Zd (Zf (Za (Ze .plain rfl (Gi (g:=g0) 3003 (xs:=([]:List Int)) (vs:=[]) Try.underlying22 Try.sizeOf3 Try.zeroValue3 rfl rfl .nil RVs.nil rfl rfl fun g1 w1 v1 hs o1 r1 hxt hfl=>?_)))))
 have hfr:=hfr.stp hs
 have rp0:=rp0.stp hs
 refine Zn up0 rfl rfl ?_
 obtain ⟨y3,hy3,h⟩:=Gc h
 refine Ze .plain rfl (Ke (g:=g1) (i:=3003) Try.underlying22 info_3 rfl rfl o1 r1 rfl rp0 hy3 fun g2 w2 v2 hs o2 r2 _=>?_)
 have hfr:=hfr.stp hs
 refine Zg v2 rfl rfl ?_
 refine Zb (Zd (Gw ?_))
 obtain rfl:=sinj h
 exact Wb rfl rfl (show _=v2 from rfl) ⟨_,hfr,r2⟩
def f19 (x0:List Int) (x1:List Int):Option (Bool):=
 jn (σ:=Unit) (fun _=>
  jn (σ:=Unit) (fun _=>
   some (true)
   ) fun k53=>
  lp (σ:=Int) (fun k54 o0=>
   jn (σ:=Unit) (fun _=>
    jn (σ:=Unit) (fun _=>
     k54 ((w64 (o0 + (1:Int))))
     ) fun bD=>
    (idx x0 o0).bind fun l8=>
    (idx x1 o0).bind fun n8=>
    bif (l8 != n8) then
     some (false)
    else
     bD ()
    ) fun k57=>
   bif (decide (o0 < ((x0).length : Int))) then
    k57 ()
   else
    k53 ()
   ) big ((0:Int))
  ) fun k2=>
 bif (((x0).length : Int) != ((x1).length : Int)) then
  some (false)
 else
  k2 ()
theorem en19:Enters Try.prog 19:=enters_of Try.func19 (by kernel_rfl) rfl
theorem wk19 {gI:Gh} {wI:World} {x0:List Int} {x1:List Int} {up0:Value} (rp0:RV gI.m wI x0 up0) {up1:Value} (rp1:RV gI.m wI x1 up1) {r:Bool} (h:f19 x0 x1=some r):Fn Try.prog 19 #[up0,up1] gI wI (fun _ _ v=>v=.bool (r)):=by
 unfold f19 at h
 refine Tf Try.func19 rfl (Nat.le_of_ble_eq_true rfl) fun g0 hm hfr=>?_
 have rp0:RV g0.m wI x0 up0:=hm ▸ rp0
 have rp1:RV g0.m wI x1 up1:=hm ▸ rp1
 show E _ 26 none _ _ _ _ _
 refine Zf (Za (Zg (.bool false) rfl rfl ?_))
 refine Zb (Zd (Zq h (fun (s:Unit) e w=>∃ (g:Gh) ,Fr gI wI g w∧e 0=up0∧RV g.m w (x0:List Int) up0∧e 1=up1∧RV g.m w (x1:List Int) up1) (fun X2 k2 hk2 h=>?_) ?_))
 ·refine Zf (Za (Zn up0 rfl rfl ?_))
  refine Zy (.int .i64 ((x0).length:Int)) (Tw Try.underlying22 rfl rp0) rfl ?_
  refine Zn up1 rfl rfl ?_
  refine Zy (.int .i64 ((x1).length:Int)) (Tw Try.underlying22 rfl rp1) rfl ?_
  refine Gu (.bool ((((x0).length:Int) != ((x1).length:Int)))) rfl rfl rfl rfl ?_
  refine Zb (Zd ?_)
  rcases Zt h with ⟨hc3,h⟩ | ⟨hc3,h⟩
  ·refine Qq hc3 rfl ?_
   refine Zf (Za (Zg (.bool false) rfl rfl ?_))
   refine Zb (Zd (Gw (Tc ?_)))
   obtain rfl:=sinj h
   exact Wb rfl rfl (show _=.bool false from rfl) ⟨_,hfr,rfl⟩
  ·refine Qr hc3 rfl ?_
   exact Zu (Zd (hk2 () _ _ ⟨g0,hfr,rfl,rp0,rfl,rp1⟩ h))
 ·rintro _ vF w4 ⟨g4, hfr, lD, nD, oD, yD⟩ h
  refine Zq h (fun (s:Unit) e w=>∃ (g:Gh) ,Fr gI wI g w) (fun X53 k53 zD h=>?_) ?_
  ·refine Zf (Za (Zg (.int .i64 (0)) rfl rfl ?_))
   refine Zb (Zd (Zr ?_))
   refine E_lp h (fun (s:Int) e w=>∃ (g:Gh) ,Fr gI wI g w∧e 0=up0∧RV g.m w (x0:List Int) up0∧e 1=up1∧RV g.m w (x1:List Int) up1∧e 5=.int .i64 (s)) ⟨g4,hfr,lD,nD,oD,yD,rfl⟩ (fun X54 k54 aE=>?_)
   rintro o0 eF xF ⟨cD,hfr,v8,l9,uC,vC,n9⟩ h
   refine Zq h (fun (s:Unit) e w=>∃ (g:Gh) ,Fr gI wI g w∧e 0=up0∧RV g.m w (x0:List Int) up0∧e 1=up1∧RV g.m w (x1:List Int) up1∧e 5=.int .i64 (o0)) (fun X57 k57 bE h=>?_) ?_
   ·refine Zf (Za (Zo n9 rfl ?_))
    refine Zo v8 rfl ?_
    refine Zy (.int .i64 ((x0).length:Int)) (Tw Try.underlying22 rfl l9) rfl ?_
    refine Gu (.bool ((decide (o0 < ((x0).length:Int))))) rfl rfl rfl rfl ?_
    refine Zb (Zd ?_)
    rcases Zt h with ⟨g8,h⟩ | ⟨g8,h⟩
    ·refine Qq g8 rfl ?_
     exact Zu (Zd (bE () _ _ ⟨cD,hfr,v8,l9,uC,vC,n9⟩ h))
    ·refine Qr g8 rfl ?_
     refine Qm ?_
     refine Tm ?_
     refine Tm ?_
     refine Tu ?_
     exact Zd (zD () _ _ ⟨cD,hfr⟩ h)
   ·rintro _ rF yF ⟨rE, hfr, aB, u3, lB, l5, t5⟩ h
    refine Zq h (fun (s:Unit) e w=>∃ (g:Gh) ,Fr gI wI g w∧e 0=up0∧RV g.m w (x0:List Int) up0∧e 1=up1∧RV g.m w (x1:List Int) up1∧e 5=.int .i64 (o0)) (fun X81 bD iE h=>?_) ?_
    ·refine Zr ?_
     refine Zf ?_
     obtain ⟨l8,mB,h⟩:=Gc h
     have uE:=Tj u3 mB
     refine Zs (x:=.tmp 19) Try.isAgg3 Try.sizeOf3 uE fun aG vE lE=>?_
     obtain rfl:=Zj.1 vE
     obtain ⟨n8,nB,h⟩:=Gc h
     have xE:=Tj l5 nB
     refine Zs (x:=.tmp 23) Try.isAgg3 Try.sizeOf3 xE fun bG yE mE=>?_
     obtain rfl:=Zj.1 yE
     refine Tt (g:=rE) (n:=9) [] [0,1,2,3,4,5,6,7,8] rfl Qf (by kernel_rfl) trivial ?_
     refine Gb up0 rfl rfl (Zk aB) ?_
     refine Gb (.int .i64 (o0)) rfl rfl (Zk t5) ?_
     refine Gb (Qc up0 o0 1) rfl rfl (Zh (α:=Int) Try.underlying22 Try.sizeOf3 rfl u3 rfl mB) ?_
     refine Gy (c:=.int .i64 (l8)) rfl rfl .plain (fun _ _ h=>h.ch) lE rfl ?_
     refine Gb up1 rfl rfl (Zk lB) ?_
     refine Gb (.int .i64 (o0)) rfl rfl (Zk t5) ?_
     refine Gb (Qc up1 o0 1) rfl rfl (Zh (α:=Int) Try.underlying22 Try.sizeOf3 rfl l5 rfl nB) ?_
     refine Gy (c:=.int .i64 (n8)) rfl rfl .plain (fun _ _ h=>h.ch) mE rfl ?_
     refine Gb (.bool ((l8 != n8))) rfl rfl (Td rfl rfl rfl) ?_
     refine L_nl fun zE cG hs=>?_
     have hfr:=hfr.ext hs
     have u3:=u3.ext hs
     have l5:=l5.ext hs
     clear hs
     refine Zb (Zd ?_)
     rcases Zt h with ⟨i6,h⟩ | ⟨i6,h⟩
     ·refine Qq i6 rfl ?_
      refine Zf (Za (Zg (.bool false) rfl rfl ?_))
      refine Zb (Zd (Gw (Qu ?_)))
      refine Tc ?_
      refine Tc ?_
      refine Qu ?_
      refine Tc ?_
      obtain rfl:=sinj h
      exact Wb rfl rfl (show _=.bool false from rfl) ⟨_,hfr,rfl⟩
     ·refine Qr i6 rfl ?_
      exact Zu (Qn (Zd (iE () _ _ ⟨zE,hfr,aB,u3,lB,l5,t5⟩ h)))
    ·rintro _ cF sF ⟨oE, hfr, oB, vB, yB, zB, cC⟩ h
     refine Za (Zo cC rfl ?_)
     refine Gu (.int .i64 ((w64 (o0 + (1:Int))))) rfl rfl rfl rfl ?_
     refine Zg (.int .i64 ((w64 (o0 + (1:Int))))) rfl rfl ?_
     exact Zb (Zd (aE ((w64 (o0 + (1:Int)))) _ _ ⟨oE,hfr,oB,vB,yB,zB,rfl⟩ h))
  ·rintro _ dF tF ⟨uF, hfr⟩ h
   refine Zf (Za (Zg (.bool true) rfl rfl ?_))
   refine Zb (Zd (Gw ?_))
   obtain rfl:=sinj h
   exact Wb rfl rfl (show _=.bool true from rfl) ⟨_,hfr,rfl⟩
def f24 (x0:List (List Int)):Option ((List (List Int))):=
 Option.bind (α:=(List (List Int))) (
  lp (σ:=(List (List Int)) × Int) (fun aE (l5,o0)=>
   jn (σ:=Unit) (fun _=>
    Option.bind (α:=(List (List Int))) (
     (idx x0 o0).bind fun bE=>
     (f16 bE).bind fun y43=>
     (apnd 24 l5 (([y43]:List (List Int)))).bind fun iE=>
     some (iE)
     ) fun t5=>
    aE (t5,(w64 (o0 + (1:Int))))
    ) fun k28=>
   bif (decide (o0 < ((x0).length : Int))) then
    k28 ()
   else
    some (l5)
   ) big (([]:List (List Int)),(0:Int))
  ) fun l8=>
 some (l8)
theorem en24:Enters Try.prog 24:=enters_of Try.func24 (by kernel_rfl) rfl
theorem wk24 {gI:Gh} {wI:World} {x0:List (List Int)} {up0:Value} (rp0:RV gI.m wI x0 up0) {r:(List (List Int))} (h:f24 x0=some r):Fn Try.prog 24 #[up0] gI wI (fun m w v=>RV m w (r) v):=by
 unfold f24 at h
 refine Tf Try.func24 rfl (Nat.le_of_ble_eq_true rfl) fun g0 hm hfr=>?_
 have rp0:RV g0.m wI x0 up0:=hm ▸ rp0
 show E _ 21 none _ _ _ _ _
 refine Zf (Za (Zg (.slice none 0 0) rfl rfl ?_))
 refine Zb (Zd (Zf (Za (Ze .plain rfl (Gi (g:=g0) 3005 (xs:=([]:List (List Int))) (vs:=[]) Try.underlying42 Try.sizeOf22 Try.zeroValue22 rfl rfl .nil RVs.nil rfl rfl fun g1 w1 v1 hs o1 r1 hxt hfl=>?_)))))
 have hfr:=hfr.stp hs
 have rp0:=rp0.stp hs
 refine Zg v1 rfl rfl ?_
 refine Zb (Zd ?_)
 obtain ⟨l8,hx,h⟩:=Gc h
 refine Th (fun e w=>∃ (g:Gh) (v3:Value),Fr gI wI g w∧e 3=v3∧RV g.m w (l8:List (List Int)) v3∧OS 3005 g w 22 (l8:List (List Int)) v3) (fun Q' hQ=>?_) (fun aG iG hR=>?_)
 ·replace h := hx
  clear hx
  refine Zf (Za (Zg (.int .i64 (0)) rfl rfl ?_))
  refine Zb (Zd (Zr ?_))
  refine E_lp h (fun (s:(List (List Int)) × Int) e w=>∃ (g:Gh) (v3:Value),Fr gI wI g w∧e 0=up0∧RV g.m w (x0:List (List Int)) up0∧e 3=v3∧RV g.m w (s.1:List (List Int)) v3∧OS 3005 g w 22 (s.1:List (List Int)) v3∧e 4=.int .i64 (s.2)) ⟨g1,(v1),hfr,rfl,rp0,rfl,r1,o1,rfl⟩ (fun X25 aE rE=>?_)
  rintro ⟨l5,o0⟩ bG jG ⟨lE,n8,hfr,l9,n9,aB,lB,mB,nB⟩ h
  refine Zq h (fun (s:Unit) e w=>∃ (g:Gh) ,Fr gI wI g w∧e 0=up0∧RV g.m w (x0:List (List Int)) up0∧e 3=n8∧RV g.m w (l5:List (List Int)) n8∧OS 3005 g w 22 (l5:List (List Int)) n8∧e 4=.int .i64 (o0)) (fun X28 k28 uE h=>?_) ?_
  ·refine Zf (Za (Zo nB rfl ?_))
   refine Zo l9 rfl ?_
   refine Zy (.int .i64 ((x0).length:Int)) (Tw Try.underlying42 rfl n9) rfl ?_
   refine Gu (.bool ((decide (o0 < ((x0).length:Int))))) rfl rfl rfl rfl ?_
   refine Zb (Zd ?_)
   rcases Zt h with ⟨v8,h⟩ | ⟨v8,h⟩
   ·refine Qq v8 rfl ?_
    exact Zu (Zd (uE () _ _ ⟨lE,hfr,l9,n9,aB,lB,mB,nB⟩ h))
   ·refine Qr v8 rfl ?_
    refine Qm ?_
    refine Tm ?_
    refine Tm ?_
    refine Tu ?_
    obtain rfl:=sinj h
    exact hQ _ _ ⟨lE,(n8),hfr,aB,lB,mB⟩
  ·rintro _ cG kG ⟨mE, hfr, oB, u3, cC, i6, g8, vB⟩ h
   obtain ⟨t5,hx,h⟩:=Gc h
   refine Th (fun e w=>∃ (g:Gh) (v3:Value),Fr gI wI g w∧e 0=up0∧RV g.m w (x0:List (List Int)) up0∧e 3=v3∧RV g.m w (t5:List (List Int)) v3∧OS 3005 g w 22 (t5:List (List Int)) v3∧e 4=.int .i64 (o0)) (fun Q' hQ=>?_) (fun eG lG hR=>?_)
   ·replace h := hx
    clear hx
    refine Zr ?_
    refine Za (Zo cC rfl ?_)
    refine Zo oB rfl ?_
    refine Zo vB rfl ?_
    obtain ⟨bE,zB,h⟩:=Gc h
    refine Zy (Qc up0 o0 1) (Zh (α:=List Int) Try.underlying42 Try.sizeOf22 rfl u3 rfl zB) rfl ?_
    have yE:=Tj u3 zB
    refine Ze .plain rfl (Gr (g:=mE) Try.isAgg22 Try.sizeOf22 rfl yE fun zE cF=>?_)
    obtain ⟨y43,vE,h⟩:=Gc h
    refine Ze .plain rfl (Zp (g:=mE) (vs:=[zE]) en16 (.cons rfl .nil) (wk16 cF vE) fun dF gG eF hs hr=>?_)
    have hfr:=hfr.ext hs
    have u3:=u3.ext hs
    have i6:=i6.ext hs
    have g8:=g8.ext hs
    have rF:=hr
    refine Ze .plain rfl (Gi (g:=dF) 3018 (xs:=([y43]:List (List Int))) (vs:=[eF]) Try.underlying42 Try.sizeOf22 Try.zeroValue22 rfl rfl (.cons rfl .nil) (RVs.cons rF RVs.nil) rfl rfl fun sF mG sG hs o44 tF hxt hfl=>?_)
    have hfr:=hfr.stp hs
    have u3:=u3.stp hs
    have i6:=i6.stp hs
    have g8:=g8.stp hs rfl
    obtain ⟨iE,xE,h⟩:=Gc h
    refine Ze .plain rfl (Ke (g:=sF) (i:=3005) Try.underlying42 info_22 rfl rfl g8 i6 rfl tF xE fun uF xG oE hs o45 vF _=>?_)
    have hfr:=hfr.stp hs
    have u3:=u3.stp hs
    refine Zg oE rfl rfl ?_
    refine Zb (Qn ?_)
    obtain rfl:=sinj h
    exact hQ _ _ ⟨uF,(oE),hfr,oB,u3,rfl,vF,o45,vB⟩
   ·clear hx
    obtain ⟨xF,uC,hfr,vC,bD,cD,lD,nD,oD⟩:=hR
    refine Za (Zo oD rfl ?_)
    refine Gu (.int .i64 ((w64 (o0 + (1:Int))))) rfl rfl rfl rfl ?_
    refine Zg (.int .i64 ((w64 (o0 + (1:Int))))) rfl rfl ?_
    exact Zb (Zd (rE (t5,(w64 (o0 + (1:Int)))) _ _ ⟨xF,(uC),hfr,vC,bD,cD,lD,nD,rfl⟩ h))
 ·clear hx
  obtain ⟨yG,yB,hfr,yD,zD,yF⟩:=hR
  refine Zf (Za (Zo yD rfl ?_))
  refine Zg yB rfl rfl ?_
  refine Zb (Zd (Gw ?_))
  obtain rfl:=sinj h
  exact Wb rfl rfl (show _=yB from rfl) ⟨_,hfr,zD⟩
def f26 (x0:List (List Int)) (x1:List (List Int)):Option (Bool):=
 jn (σ:=Unit) (fun _=>
  jn (σ:=Unit) (fun _=>
   some (true)
   ) fun uC=>
  lp (σ:=Int) (fun k60 o0=>
   jn (σ:=Unit) (fun _=>
    jn (σ:=Unit) (fun _=>
     k60 ((w64 (o0 + (1:Int))))
     ) fun vC=>
    (idx x0 o0).bind fun bD=>
    (idx x1 o0).bind fun cD=>
    (f19 bD cD).bind fun y98=>
    bif (!y98) then
     some (false)
    else
     vC ()
    ) fun lD=>
   bif (decide (o0 < ((x0).length : Int))) then
    lD ()
   else
    uC ()
   ) big ((0:Int))
  ) fun k2=>
 bif (((x0).length : Int) != ((x1).length : Int)) then
  some (false)
 else
  k2 ()
theorem en26:Enters Try.prog 26:=enters_of Try.func26 (by kernel_rfl) rfl
theorem wk26 {gI:Gh} {wI:World} {x0:List (List Int)} {x1:List (List Int)} {up0:Value} (rp0:RV gI.m wI x0 up0) {up1:Value} (rp1:RV gI.m wI x1 up1) {r:Bool} (h:f26 x0 x1=some r):Fn Try.prog 26 #[up0,up1] gI wI (fun _ _ v=>v=.bool (r)):=by
 unfold f26 at h
 refine Tf Try.func26 rfl (Nat.le_of_ble_eq_true rfl) fun g0 hm hfr=>?_
 have rp0:RV g0.m wI x0 up0:=hm ▸ rp0
 have rp1:RV g0.m wI x1 up1:=hm ▸ rp1
 show E _ 27 none _ _ _ _ _
 refine Zf (Za (Zg (.bool false) rfl rfl ?_))
 refine Zb (Zd (Zq h (fun (s:Unit) e w=>∃ (g:Gh) ,Fr gI wI g w∧e 0=up0∧RV g.m w (x0:List (List Int)) up0∧e 1=up1∧RV g.m w (x1:List (List Int)) up1) (fun X2 k2 hk2 h=>?_) ?_))
 ·refine Zf (Za (Zn up0 rfl rfl ?_))
  refine Zy (.int .i64 ((x0).length:Int)) (Tw Try.underlying42 rfl rp0) rfl ?_
  refine Zn up1 rfl rfl ?_
  refine Zy (.int .i64 ((x1).length:Int)) (Tw Try.underlying42 rfl rp1) rfl ?_
  refine Gu (.bool ((((x0).length:Int) != ((x1).length:Int)))) rfl rfl rfl rfl ?_
  refine Zb (Zd ?_)
  rcases Zt h with ⟨hc3,h⟩ | ⟨hc3,h⟩
  ·refine Qq hc3 rfl ?_
   refine Zf (Za (Zg (.bool false) rfl rfl ?_))
   refine Zb (Zd (Gw (Tc ?_)))
   obtain rfl:=sinj h
   exact Wb rfl rfl (show _=.bool false from rfl) ⟨_,hfr,rfl⟩
  ·refine Qr hc3 rfl ?_
   exact Zu (Zd (hk2 () _ _ ⟨g0,hfr,rfl,rp0,rfl,rp1⟩ h))
 ·rintro _ cG w4 ⟨g4, hfr, zD, aE, bE, iE⟩ h
  refine Zq h (fun (s:Unit) e w=>∃ (g:Gh) ,Fr gI wI g w) (fun X59 uC lE h=>?_) ?_
  ·refine Zf (Za (Zg (.int .i64 (0)) rfl rfl ?_))
   refine Zb (Zd (Zr ?_))
   refine E_lp h (fun (s:Int) e w=>∃ (g:Gh) ,Fr gI wI g w∧e 0=up0∧RV g.m w (x0:List (List Int)) up0∧e 1=up1∧RV g.m w (x1:List (List Int)) up1∧e 5=.int .i64 (s)) ⟨g4,hfr,zD,aE,bE,iE,rfl⟩ (fun X60 k60 mE=>?_)
   rintro o0 vF eG ⟨nD,hfr,l8,n8,zB,cC,v8⟩ h
   refine Zq h (fun (s:Unit) e w=>∃ (g:Gh) ,Fr gI wI g w∧e 0=up0∧RV g.m w (x0:List (List Int)) up0∧e 1=up1∧RV g.m w (x1:List (List Int)) up1∧e 5=.int .i64 (o0)) (fun X63 lD oE h=>?_) ?_
   ·refine Zf (Za (Zo v8 rfl ?_))
    refine Zo l8 rfl ?_
    refine Zy (.int .i64 ((x0).length:Int)) (Tw Try.underlying42 rfl n8) rfl ?_
    refine Gu (.bool ((decide (o0 < ((x0).length:Int))))) rfl rfl rfl rfl ?_
    refine Zb (Zd ?_)
    rcases Zt h with ⟨g8,h⟩ | ⟨g8,h⟩
    ·refine Qq g8 rfl ?_
     exact Zu (Zd (oE () _ _ ⟨nD,hfr,l8,n8,zB,cC,v8⟩ h))
    ·refine Qr g8 rfl ?_
     refine Qm ?_
     refine Tm ?_
     refine Tm ?_
     refine Tu ?_
     exact Zd (lE () _ _ ⟨nD,hfr⟩ h)
   ·rintro _ xF gG ⟨zE, hfr, l9, u3, n9, l5, t5⟩ h
    refine Zq h (fun (s:Unit) e w=>∃ (g:Gh) ,Fr gI wI g w∧e 0=up0∧RV g.m w (x0:List (List Int)) up0∧e 1=up1∧RV g.m w (x1:List (List Int)) up1∧e 5=.int .i64 (o0)) (fun X90 vC rE h=>?_) ?_
    ·refine Zr ?_
     refine Zf ?_
     obtain ⟨bD,aB,h⟩:=Gc h
     have cF:=Tj u3 aB
     refine Zs (x:=.tmp 19) Try.isAgg22 Try.sizeOf22 cF fun oD dF uE=>?_
     obtain ⟨cD,lB,h⟩:=Gc h
     have eF:=Tj l5 lB
     refine Zs (x:=.tmp 23) Try.isAgg22 Try.sizeOf22 eF fun yD rF vE=>?_
     obtain ⟨y98,xE,h⟩:=Gc h
     refine Tt (g:=zE) (n:=10) [(8,(fun v g w=>v=.bool (y98)))] [0,1,2,3,4,5,6,7,8,9] rfl Qf (by kernel_rfl) (⟨fun _=>Tr _,trivial⟩) ?_
     refine Gb up0 rfl rfl (Zk l9) ?_
     refine Gb (.int .i64 (o0)) rfl rfl (Zk t5) ?_
     refine Gb (Qc up0 o0 1) rfl rfl (Zh (α:=List Int) Try.underlying42 Try.sizeOf22 rfl u3 rfl aB) ?_
     refine Gy (c:=oD) rfl rfl .plain (fun _ _ h=>h.ch) uE rfl ?_
     refine Gb up1 rfl rfl (Zk n9) ?_
     refine Gb (.int .i64 (o0)) rfl rfl (Zk t5) ?_
     refine Gb (Qc up1 o0 1) rfl rfl (Zh (α:=List Int) Try.underlying42 Try.sizeOf22 rfl l5 rfl lB) ?_
     refine Gy (c:=yD) rfl rfl .plain (fun _ _ h=>h.ch) vE rfl ?_
     refine Qa (φ:=fun v g w=>v=.bool (y98)) rfl rfl .plain (fun g w hd=>Zp (g:=g) (vs:=[oD,yD]) en19 (.cons rfl (.cons rfl .nil)) (wk19 (dF.ext hd.1) (rF.ext hd.1) xE) fun g' w' v hs hr=>⟨g',hs,hr⟩) (fun iG hv=>?_)
     obtain ⟨_,_,_,rfl⟩:=hv
     refine Gb (.bool (!y98)) rfl rfl (Wm rfl) ?_
     refine L_nl fun sF jG hs=>?_
     have hfr:=hfr.ext hs
     have u3:=u3.ext hs
     have l5:=l5.ext hs
     clear hs
     refine Zb (Zd ?_)
     rcases Zt h with ⟨i6,h⟩ | ⟨i6,h⟩
     ·refine Qq i6 rfl ?_
      refine Zf (Za (Zg (.bool false) rfl rfl ?_))
      refine Zb (Zd (Gw (Qu ?_)))
      refine Tc ?_
      refine Tc ?_
      refine Qu ?_
      refine Tc ?_
      obtain rfl:=sinj h
      exact Wb rfl rfl (show _=.bool false from rfl) ⟨_,hfr,rfl⟩
     ·refine Qr i6 rfl ?_
      exact Zu (Qn (Zd (rE () _ _ ⟨sF,hfr,l9,u3,n9,l5,t5⟩ h)))
    ·rintro _ tF yF ⟨yE, hfr, mB, nB, oB, vB, yB⟩ h
     refine Za (Zo yB rfl ?_)
     refine Gu (.int .i64 ((w64 (o0 + (1:Int))))) rfl rfl rfl rfl ?_
     refine Zg (.int .i64 ((w64 (o0 + (1:Int))))) rfl rfl ?_
     exact Zb (Zd (mE ((w64 (o0 + (1:Int)))) _ _ ⟨yE,hfr,mB,nB,oB,vB,rfl⟩ h))
  ·rintro _ uF aG ⟨bG, hfr⟩ h
   refine Zf (Za (Zg (.bool true) rfl rfl ?_))
   refine Zb (Zd (Gw ?_))
   obtain rfl:=sinj h
   exact Wb rfl rfl (show _=.bool true from rfl) ⟨_,hfr,rfl⟩
def f42 (x0:Int) (x1:Int):Option (Wt):=
 some ((⟨x0,x1⟩:Wt))
theorem en42:Enters Try.prog 42:=enters_of Try.func42 (by kernel_rfl) rfl
theorem wk42 {gI:Gh} {wI:World} {x0:Int} {x1:Int}  {r:Wt} (h:f42 x0 x1=some r):Fn Try.prog 42 #[.int .i64 (x0),.int .i64 (x1)] gI wI (fun m w v=>RV m w (r) v):=by
 unfold f42 at h
 refine Tf Try.func42 rfl (Nat.le_of_ble_eq_true rfl) fun g0 hm hfr=>?_
 show E _ 8 none _ _ _ _ _
 refine Zf (Za (Ze .plain rfl (Gs (g:=g0) 2004 (⟨0,0⟩:Wt) Try.zeroValue85 (fun m w=>⟨_,(Gg Zx Zx),rfl⟩) fun g1 w1 p1 hs b1 cb=>?_)))
 have hfr:=hfr.stp hs
 clear cb
 refine Zb (Zd (Zf (Za (Zn (.int .i64 (x0)) rfl rfl ?_))))
 refine Zn (.int .i64 (x1)) rfl rfl ?_
 have r2:RV g1.m w1 (⟨x0,x1⟩:Wt) (.agg (Wf [[.int .i64 0],[.int .i64 0]] [(0,.int .i64 (x0)),(1,.int .i64 (x1))]).flatten.toArray):=Wz rfl (Qp (rfl) (Kd (rfl)))
 generalize hv2:(Value.agg (Wf [[.int .i64 0],[.int .i64 0]] [(0,.int .i64 (x0)),(1,.int .i64 (x1))]).flatten.toArray)=v2 at r2
 refine Zy v2 (hv2 ▸ P_build (vs:=[(0,.int .i64 (x0)),(1,.int .i64 (x1))]) [[.int .i64 0],[.int .i64 0]] lay_85 rfl rfl (.cons rfl (.cons rfl .nil)) ⟨⟨_,rfl,rfl⟩,⟨⟨_,rfl,rfl⟩,trivial⟩⟩) rfl ?_
 refine Ze .plain rfl (Gk (g:=g1) (v:=v2) Try.sizeOf85 rfl b1 rfl r2 fun g3 w3 hs b3 cb=>?_)
 clear cb
 have hfr:=hfr.stp hs
 refine Zb (Zd (Gw ?_))
 obtain rfl:=sinj h
 obtain ⟨ad4,cv4,hp4,o0,cr4⟩:=Qv Try.isAgg85 Try.sizeOf85 b3
 exact endm_c rfl rfl ((show _=p1 from rfl).trans hp4) o0 ⟨_,hfr,cr4⟩
def f48 :Option (BoxLoom):=
 (f42 ((2:Int)) ((3:Int))).bind fun y5=>
 (f42 ((1:Int)) ((1:Int))).bind fun y8=>
 (f42 ((9:Int)) ((9:Int))).bind fun y11=>
 some ((⟨([(2:Int),(2:Int)]:List Int),([(0:Int),(0:Int)]:List Int),([(⟨(3:Int),0,0,y5⟩:Zv),(⟨(5:Int),0,(1:Int),y8⟩:Zv),(⟨(7:Int),(1:Int),(1:Int),y11⟩:Zv)]:List Zv)⟩:BoxLoom))
theorem en48:Enters Try.prog 48:=enters_of Try.func48 (by kernel_rfl) rfl
theorem wk48 {gI:Gh} {wI:World}   {r:BoxLoom} (h:f48 =some r):Fn Try.prog 48 #[] gI wI (fun m w v=>RV m w (r) v):=by
 unfold f48 at h
 refine Tf Try.func48 rfl (Nat.le_of_ble_eq_true rfl) fun g0 hm hfr=>?_
 show E _ 11 none _ _ _ _ _
 refine Zf (Za (Ze .plain rfl (Gs (g:=g0) 2000 (⟨[],[],[]⟩:BoxLoom) Try.zeroValue25 (fun m w=>⟨_,(Gg Gz (Gg Gz Gz)),rfl⟩) fun g1 w1 p1 hs b1 cb=>?_)))
 have hfr:=hfr.stp hs
 have bD:OSF 2000 60000 0 g1 w1 3 25 ([]:List Int) p1:=cb.osf (by rfl)
 have cD:OSF 2000 60001 1 g1 w1 3 25 ([]:List Int) p1:=cb.osf (by rfl)
 have lD:OSF 2000 60002 2 g1 w1 87 25 ([]:List Zv) p1:=cb.osf (by rfl)
 clear cb
 refine Zb (Zd (Zf (Za (Ze .plain rfl (Gi (g:=g1) 3001 (xs:=([(2:Int),(2:Int)]:List Int)) (vs:=[.int .i64 (2),.int .i64 (2)]) Try.underlying22 Try.sizeOf3 Try.zeroValue3 rfl rfl (.cons rfl (.cons rfl .nil)) (RVs.cons (Zj.2 rfl) (RVs.cons (Zj.2 rfl) RVs.nil)) rfl rfl fun g2 w2 v2 hs o2 r2 hxt hfl=>?_)))))
 have hfr:=hfr.stp hs
 have b1:=b1.stp hs rfl
 refine Ze .plain rfl (Gi (g:=g2) 3002 (xs:=([(0:Int),(0:Int)]:List Int)) (vs:=[.int .i64 (0),.int .i64 (0)]) Try.underlying22 Try.sizeOf3 Try.zeroValue3 rfl rfl (.cons rfl (.cons rfl .nil)) (RVs.cons (Zj.2 rfl) (RVs.cons (Zj.2 rfl) RVs.nil)) rfl rfl fun g3 w3 v3 hs o3 r3 hxt hfl=>?_)
 have hfr:=hfr.stp hs
 have b1:=b1.stp hs rfl
 have r2:=r2.stp hs
 have o2:=o2.stp hs rfl
 obtain ⟨y5,hy5,h⟩:=Gc h
 refine Ze .plain rfl (Zp (g:=g3) (vs:=[.int .i64 (2),.int .i64 (3)]) en42 (.cons rfl (.cons rfl .nil)) (wk42  hy5) fun g4 w4_ v4 hs hr=>?_)
 have hfr:=hfr.ext hs
 have b1:=b1.ext hs
 have r2:=r2.ext hs
 have o2:=o2.ext hs
 have r3:=r3.ext hs
 have r4:=hr
 have r6:RV g4.m _ (⟨(3:Int),0,0,y5⟩:Zv) (.agg (Wf [[.int .i64 0],[.int .i64 0],[.int .i64 0],[.int .i64 0,.int .i64 0]] [(0,.int .i64 (3)),(3,v4)]).flatten.toArray):=Wz rfl (Qp (rfl) (Qp (Zx) (Qp (Zx) (Kd (RV.cells r4)))))
 generalize oB:(Value.agg (Wf [[.int .i64 0],[.int .i64 0],[.int .i64 0],[.int .i64 0,.int .i64 0]] [(0,.int .i64 (3)),(3,v4)]).flatten.toArray)=v6 at r6
 refine Zy v6 (oB ▸ P_build (vs:=[(0,.int .i64 (3)),(3,v4)]) [[.int .i64 0],[.int .i64 0],[.int .i64 0],[.int .i64 0,.int .i64 0]] lay_87 rfl rfl (.cons rfl (.cons rfl .nil)) ⟨⟨_,rfl,rfl⟩,⟨⟨_,rfl,Qs r4⟩,trivial⟩⟩) rfl ?_
 obtain ⟨y8,vB,h⟩:=Gc h
 refine Ze .plain rfl (Zp (g:=g4) (vs:=[.int .i64 (1),.int .i64 (1)]) en42 (.cons rfl (.cons rfl .nil)) (wk42  vB) fun g7 w7_ v7 hs hr=>?_)
 have hfr:=hfr.ext hs
 have b1:=b1.ext hs
 have r2:=r2.ext hs
 have o2:=o2.ext hs
 have r3:=r3.ext hs
 have r6:=r6.ext hs
 have r7:=hr
 have r9:RV g7.m _ (⟨(5:Int),0,(1:Int),y8⟩:Zv) (.agg (Wf [[.int .i64 0],[.int .i64 0],[.int .i64 0],[.int .i64 0,.int .i64 0]] [(0,.int .i64 (5)),(2,.int .i64 (1)),(3,v7)]).flatten.toArray):=Wz rfl (Qp (rfl) (Qp (Zx) (Qp (rfl) (Kd (RV.cells r7)))))
 generalize yB:(Value.agg (Wf [[.int .i64 0],[.int .i64 0],[.int .i64 0],[.int .i64 0,.int .i64 0]] [(0,.int .i64 (5)),(2,.int .i64 (1)),(3,v7)]).flatten.toArray)=v9 at r9
 refine Zy v9 (yB ▸ P_build (vs:=[(0,.int .i64 (5)),(2,.int .i64 (1)),(3,v7)]) [[.int .i64 0],[.int .i64 0],[.int .i64 0],[.int .i64 0,.int .i64 0]] lay_87 rfl rfl (.cons rfl (.cons rfl (.cons rfl .nil))) ⟨⟨_,rfl,rfl⟩,⟨⟨_,rfl,rfl⟩,⟨⟨_,rfl,Qs r7⟩,trivial⟩⟩⟩) rfl ?_
 obtain ⟨y11,lB,h⟩:=Gc h
 refine Ze .plain rfl (Zp (g:=g7) (vs:=[.int .i64 (9),.int .i64 (9)]) en42 (.cons rfl (.cons rfl .nil)) (wk42  lB) fun i6 nD u3 hs hr=>?_)
 have hfr:=hfr.ext hs
 have b1:=b1.ext hs
 have r2:=r2.ext hs
 have o2:=o2.ext hs
 have r3:=r3.ext hs
 have r6:=r6.ext hs
 have r9:=r9.ext hs
 have g8:=hr
 have l8:RV i6.m _ (⟨(7:Int),(1:Int),(1:Int),y11⟩:Zv) (.agg (Wf [[.int .i64 0],[.int .i64 0],[.int .i64 0],[.int .i64 0,.int .i64 0]] [(0,.int .i64 (7)),(1,.int .i64 (1)),(2,.int .i64 (1)),(3,u3)]).flatten.toArray):=Wz rfl (Qp (rfl) (Qp (rfl) (Qp (rfl) (Kd (RV.cells g8)))))
 generalize mB:(Value.agg (Wf [[.int .i64 0],[.int .i64 0],[.int .i64 0],[.int .i64 0,.int .i64 0]] [(0,.int .i64 (7)),(1,.int .i64 (1)),(2,.int .i64 (1)),(3,u3)]).flatten.toArray)=n8 at l8
 refine Zy n8 (mB ▸ P_build (vs:=[(0,.int .i64 (7)),(1,.int .i64 (1)),(2,.int .i64 (1)),(3,u3)]) [[.int .i64 0],[.int .i64 0],[.int .i64 0],[.int .i64 0,.int .i64 0]] lay_87 rfl rfl (.cons rfl (.cons rfl (.cons rfl (.cons rfl .nil)))) ⟨⟨_,rfl,rfl⟩,⟨⟨_,rfl,rfl⟩,⟨⟨_,rfl,rfl⟩,⟨⟨_,rfl,Qs g8⟩,trivial⟩⟩⟩⟩) rfl ?_
 refine Ze .plain rfl (Gi (g:=i6) 3009 (xs:=([(⟨(3:Int),0,0,y5⟩:Zv),(⟨(5:Int),0,(1:Int),y8⟩:Zv),(⟨(7:Int),(1:Int),(1:Int),y11⟩:Zv)]:List Zv)) (vs:=[v6,v9,n8]) Try.underlying23 Try.sizeOf87 Try.zeroValue87 rfl rfl (.cons rfl (.cons rfl (.cons rfl .nil))) (RVs.cons r6 (RVs.cons r9 (RVs.cons l8 RVs.nil))) rfl rfl fun v8 oD l5 hs o13 l9 hxt hfl=>?_)
 have hfr:=hfr.stp hs
 have b1:=b1.stp hs rfl
 have r2:=r2.stp hs
 have o2:=o2.stp hs rfl
 have r3:=r3.stp hs
 have n9:RV v8.m _ (⟨([(2:Int),(2:Int)]:List Int),([(0:Int),(0:Int)]:List Int),([(⟨(3:Int),0,0,y5⟩:Zv),(⟨(5:Int),0,(1:Int),y8⟩:Zv),(⟨(7:Int),(1:Int),(1:Int),y11⟩:Zv)]:List Zv)⟩:BoxLoom) (.agg (Wf [[.slice none 0 0],[.slice none 0 0],[.slice none 0 0]] [(0,v2),(1,v3),(2,l5)]).flatten.toArray):=Wz rfl (Qp (RV.cells r2) (Qp (RV.cells r3) (Kd (RV.cells l9))))
 generalize t5:(Value.agg (Wf [[.slice none 0 0],[.slice none 0 0],[.slice none 0 0]] [(0,v2),(1,v3),(2,l5)]).flatten.toArray)=aB at n9
 refine Zy aB (t5 ▸ P_build (vs:=[(0,v2),(1,v3),(2,l5)]) [[.slice none 0 0],[.slice none 0 0],[.slice none 0 0]] lay_25 rfl rfl (.cons rfl (.cons rfl (.cons rfl .nil))) ⟨⟨_,rfl,Qs r2⟩,⟨⟨_,rfl,Qs r3⟩,⟨⟨_,rfl,Qs l9⟩,trivial⟩⟩⟩) rfl ?_
 refine Ze .plain rfl (Gk (g:=v8) (v:=aB) Try.sizeOf25 rfl b1 rfl n9 fun zB w15 hs b15 cb=>?_)
 obtain ⟨cC,uC,o0,_,_⟩:=RV_list r2
 have vC:OSF 2000 3001 0 zB w15 3 25 (([(2:Int),(2:Int)]:List Int):List Int) p1:=cb.osfv (by rw [← t5,o0]; rfl) (o2.stp hs rfl)
 clear cb
 have hfr:=hfr.stp hs
 refine Zb (Zd (Gw ?_))
 obtain rfl:=sinj h
 obtain ⟨ad16,cv16,hp16,nB,cr16⟩:=Qv Try.isAgg25 Try.sizeOf25 b15
 exact endm_c rfl rfl ((show _=p1 from rfl).trans hp16) nB ⟨_,hfr,cr16⟩
def f49 (x0:Int) (x1:Int):Option (Ge):=
 some ((⟨x0,x1⟩:Ge))
theorem en49:Enters Try.prog 49:=enters_of Try.func49 (by kernel_rfl) rfl
theorem wk49 {gI:Gh} {wI:World} {x0:Int} {x1:Int}  {r:Ge} (h:f49 x0 x1=some r):Fn Try.prog 49 #[.int .i64 (x0),.int .i64 (x1)] gI wI (fun m w v=>RV m w (r) v):=by
 unfold f49 at h
 refine Tf Try.func49 rfl (Nat.le_of_ble_eq_true rfl) fun g0 hm hfr=>?_
 show E _ 8 none _ _ _ _ _
 refine Zf (Za (Ze .plain rfl (Gs (g:=g0) 2004 (⟨0,0⟩:Ge) Try.zeroValue83 (fun m w=>⟨_,(Gg Zx Zx),rfl⟩) fun g1 w1 p1 hs b1 cb=>?_)))
 have hfr:=hfr.stp hs
 clear cb
 refine Zb (Zd (Zf (Za (Zn (.int .i64 (x0)) rfl rfl ?_))))
 refine Zn (.int .i64 (x1)) rfl rfl ?_
 have r2:RV g1.m w1 (⟨x0,x1⟩:Ge) (.agg (Wf [[.int .i64 0],[.int .i64 0]] [(0,.int .i64 (x0)),(1,.int .i64 (x1))]).flatten.toArray):=Wz rfl (Qp (rfl) (Kd (rfl)))
 generalize hv2:(Value.agg (Wf [[.int .i64 0],[.int .i64 0]] [(0,.int .i64 (x0)),(1,.int .i64 (x1))]).flatten.toArray)=v2 at r2
 refine Zy v2 (hv2 ▸ P_build (vs:=[(0,.int .i64 (x0)),(1,.int .i64 (x1))]) [[.int .i64 0],[.int .i64 0]] lay_83 rfl rfl (.cons rfl (.cons rfl .nil)) ⟨⟨_,rfl,rfl⟩,⟨⟨_,rfl,rfl⟩,trivial⟩⟩) rfl ?_
 refine Ze .plain rfl (Gk (g:=g1) (v:=v2) Try.sizeOf83 rfl b1 rfl r2 fun g3 w3 hs b3 cb=>?_)
 clear cb
 have hfr:=hfr.stp hs
 refine Zb (Zd (Gw ?_))
 obtain rfl:=sinj h
 obtain ⟨ad4,cv4,hp4,o0,cr4⟩:=Qv Try.isAgg83 Try.sizeOf83 b3
 exact endm_c rfl rfl ((show _=p1 from rfl).trans hp4) o0 ⟨_,hfr,cr4⟩
def f50 (x0:BoxLoom):Option (BoxLoom):=
 (apnd 8 (([]:List Int)) ((x0).Boxes)).bind fun y7=>
 (apnd 8 (([]:List Int)) ((x0).At)).bind fun u3=>
 (apnd 40 (([]:List Zv)) ((x0).Shuttles)).bind fun l5=>
 some ((⟨y7,u3,l5⟩:BoxLoom))
theorem en50:Enters Try.prog 50:=enters_of Try.func50 (by kernel_rfl) rfl
theorem wk50 {gI:Gh} {wI:World} {x0:BoxLoom} {up0:Value} (rp0:RV gI.m wI x0 up0) {r:BoxLoom} (h:f50 x0=some r):Fn Try.prog 50 #[up0] gI wI (fun m w v=>RV m w (r) v):=by
 unfold f50 at h
 refine Tf Try.func50 rfl (Nat.le_of_ble_eq_true rfl) fun g0 hm hfr=>?_
 have rp0:RV g0.m wI x0 up0:=hm ▸ rp0
 show E _ 16 none _ _ _ _ _
 refine Zf (Za (Ze .plain rfl (We (g:=g0) rfl rp0 fun g1 w1 p1 hs q1=>?_)))
 have hfr:=hfr.ext hs
 refine Ze .plain rfl (Gs (g:=g1) 2002 (⟨[],[],[]⟩:BoxLoom) Try.zeroValue25 (fun m w=>⟨_,(Gg Gz (Gg Gz Gz)),rfl⟩) fun g2 w2 p2 hs b2 cb=>?_)
 have hfr:=hfr.stp hs
 have q1:=q1.stp hs
 have iE:OSF 2002 60200 0 g2 w2 3 25 ([]:List Int) p2:=cb.osf (by rfl)
 have lE:OSF 2002 60201 1 g2 w2 3 25 ([]:List Int) p2:=cb.osf (by rfl)
 have mE:OSF 2002 60202 2 g2 w2 87 25 ([]:List Zv) p2:=cb.osf (by rfl)
 clear cb
 refine Zb (Zd (Zf ?_))
 have q4:=Zm (Ts).1 q1
 refine Zs (x:=.tmp 4) Try.isAgg22 Try.sizeOf22 q4 fun v5 r5 cC=>?_
 obtain ⟨y7,uC,h⟩:=Gc h
 have q9:=Zm (Qo).1 q1
 refine Zs (x:=.tmp 8) Try.isAgg22 Try.sizeOf22 q9 fun vC bD nB=>?_
 obtain ⟨u3,oB,h⟩:=Gc h
 have cD:=Zm (Gx).1 q1
 refine Zs (x:=.tmp 12) Try.isAgg23 Try.sizeOf23 cD fun lD nD vB=>?_
 obtain ⟨l5,yB,h⟩:=Gc h
 refine Tt (g:=g2) (n:=12) [(0,(fun v g w=>RV g.m w ([]:List Int) v∧OS 3003 g w 3 ([]:List Int) v∧Gn v)),(3,(fun v g w=>RV g.m w y7 v∧OS 3003 g w 3 y7 v)),(4,(fun v g w=>RV g.m w ([]:List Int) v∧OS 3007 g w 3 ([]:List Int) v∧Gn v)),(7,(fun v g w=>RV g.m w u3 v∧OS 3007 g w 3 u3 v)),(8,(fun v g w=>RV g.m w ([]:List Zv) v∧OS 3011 g w 87 ([]:List Zv) v∧Gn v)),(11,(fun v g w=>RV g.m w l5 v∧OS 3011 g w 87 l5 v))] [0,1,2,3,4,5,6,7,8,9,10,11] rfl Qf (by kernel_rfl) (⟨fun _=>Ti Wy (Ti up_os (Tr _)),fun _=>Ti Wy up_os,fun _=>Ti Wy (Ti up_os (Tr _)),fun _=>Ti Wy up_os,fun _=>Ti Wy (Ti up_os (Tr _)),fun _=>Ti Wy up_os,trivial⟩) ?_
 refine Qa (φ:=fun v g w=>RV g.m w ([]:List Int) v∧OS 3003 g w 3 ([]:List Int) v∧Gn v) rfl rfl .plain (fun g w hd=>Gi (g:=g) 3003 (xs:=([]:List Int)) (vs:=[]) Try.underlying22 Try.sizeOf3 Try.zeroValue3 rfl rfl .nil RVs.nil rfl rfl fun g' w' v hs o r hxt hfl=>⟨g',hxt,r,o,hfl⟩) (fun v3 hv=>?_)
 clear hv
 refine Gb (Gj p1 0) rfl rfl (Zc Wo rfl (PT.ptr q1)) ?_
 refine Gy (c:=v5) rfl rfl .plain (fun _ _ h=>h.ch) cC rfl ?_
 refine Qa (φ:=fun v g w=>RV g.m w y7 v∧OS 3003 g w 3 y7 v) rfl rfl .plain (fun g w hd=>Ke (g:=g) (i:=3003) Try.underlying22 info_3 rfl rfl (word (A:=fun g w=>RV g.m w ([]:List Int) v3∧OS 3003 g w 3 ([]:List Int) v3∧Gn v3) 0 rfl rfl (Tv hd)).2.1 (word (A:=fun g w=>RV g.m w ([]:List Int) v3∧OS 3003 g w 3 ([]:List Int) v3∧Gn v3) 0 rfl rfl (Tv hd)).1 rfl (r5.ext hd.1) uC fun g' w' v hs o r hf=>⟨g',hf (word (A:=fun g w=>RV g.m w ([]:List Int) v3∧OS 3003 g w 3 ([]:List Int) v3∧Gn v3) 0 rfl rfl (Tv hd)).2.2,r,o⟩) (fun v6 hv=>?_)
 clear hv
 refine Qa (φ:=fun v g w=>RV g.m w ([]:List Int) v∧OS 3007 g w 3 ([]:List Int) v∧Gn v) rfl rfl .plain (fun g w hd=>Gi (g:=g) 3007 (xs:=([]:List Int)) (vs:=[]) Try.underlying22 Try.sizeOf3 Try.zeroValue3 rfl rfl .nil RVs.nil rfl rfl fun g' w' v hs o r hxt hfl=>⟨g',hxt,r,o,hfl⟩) (fun v8 hv=>?_)
 clear hv
 refine Gb (Gj p1 1) rfl rfl (Zc at_25_1 rfl (PT.ptr q1)) ?_
 refine Gy (c:=vC) rfl rfl .plain (fun _ _ h=>h.ch) nB rfl ?_
 refine Qa (φ:=fun v g w=>RV g.m w u3 v∧OS 3007 g w 3 u3 v) rfl rfl .plain (fun g w hd=>Ke (g:=g) (i:=3007) Try.underlying22 info_3 rfl rfl (word (A:=fun g w=>RV g.m w ([]:List Int) v8∧OS 3007 g w 3 ([]:List Int) v8∧Gn v8) 4 rfl rfl (Tv hd)).2.1 (word (A:=fun g w=>RV g.m w ([]:List Int) v8∧OS 3007 g w 3 ([]:List Int) v8∧Gn v8) 4 rfl rfl (Tv hd)).1 rfl (bD.ext hd.1) oB fun g' w' v hs o r hf=>⟨g',hf (word (A:=fun g w=>RV g.m w ([]:List Int) v8∧OS 3007 g w 3 ([]:List Int) v8∧Gn v8) 4 rfl rfl (Tv hd)).2.2,r,o⟩) (fun t5 hv=>?_)
 clear hv
 refine Qa (φ:=fun v g w=>RV g.m w ([]:List Zv) v∧OS 3011 g w 87 ([]:List Zv) v∧Gn v) rfl rfl .plain (fun g w hd=>Gi (g:=g) 3011 (xs:=([]:List Zv)) (vs:=[]) Try.underlying23 Try.sizeOf87 Try.zeroValue87 rfl rfl .nil RVs.nil rfl rfl fun g' w' v hs o r hxt hfl=>⟨g',hxt,r,o,hfl⟩) (fun o0 hv=>?_)
 clear hv
 refine Gb (Gj p1 2) rfl rfl (Zc Qk rfl (PT.ptr q1)) ?_
 refine Gy (c:=lD) rfl rfl .plain (fun _ _ h=>h.ch) vB rfl ?_
 refine Qa (φ:=fun v g w=>RV g.m w l5 v∧OS 3011 g w 87 l5 v) rfl rfl .plain (fun g w hd=>Ke (g:=g) (i:=3011) Try.underlying23 info_87 rfl rfl (word (A:=fun g w=>RV g.m w ([]:List Zv) o0∧OS 3011 g w 87 ([]:List Zv) o0∧Gn o0) 8 rfl rfl (Tv hd)).2.1 (word (A:=fun g w=>RV g.m w ([]:List Zv) o0∧OS 3011 g w 87 ([]:List Zv) o0∧Gn o0) 8 rfl rfl (Tv hd)).1 rfl (nD.ext hd.1) yB fun g' w' v hs o r hf=>⟨g',hf (word (A:=fun g w=>RV g.m w ([]:List Zv) o0∧OS 3011 g w 87 ([]:List Zv) o0∧Gn o0) 8 rfl rfl (Tv hd)).2.2,r,o⟩) (fun i6 hv=>?_)
 clear hv
 refine L_nil fun l9 oE hall=>?_
 have hs:=hall.1
 have hfr:=hfr.ext hs
 have b2:=b2.ext hs
 have rE:=(Gl (A:=fun g w=>RV g.m w ([]:List Int) v3∧OS 3003 g w 3 ([]:List Int) v3∧Gn v3) 0 rfl hall).1
 have o22:=(Gl (A:=fun g w=>RV g.m w ([]:List Int) v3∧OS 3003 g w 3 ([]:List Int) v3∧Gn v3) 0 rfl hall).2.1
 have l8:=(Gl (A:=fun g w=>RV g.m w y7 v6∧OS 3003 g w 3 y7 v6) 3 rfl hall).1
 have o25:=(Gl (A:=fun g w=>RV g.m w y7 v6∧OS 3003 g w 3 y7 v6) 3 rfl hall).2
 have uE:=(Gl (A:=fun g w=>RV g.m w ([]:List Int) v8∧OS 3007 g w 3 ([]:List Int) v8∧Gn v8) 4 rfl hall).1
 have o26:=(Gl (A:=fun g w=>RV g.m w ([]:List Int) v8∧OS 3007 g w 3 ([]:List Int) v8∧Gn v8) 4 rfl hall).2.1
 have n9:=(Gl (A:=fun g w=>RV g.m w u3 t5∧OS 3007 g w 3 u3 t5) 7 rfl hall).1
 have o29:=(Gl (A:=fun g w=>RV g.m w u3 t5∧OS 3007 g w 3 u3 t5) 7 rfl hall).2
 have vE:=(Gl (A:=fun g w=>RV g.m w ([]:List Zv) o0∧OS 3011 g w 87 ([]:List Zv) o0∧Gn o0) 8 rfl hall).1
 have o30:=(Gl (A:=fun g w=>RV g.m w ([]:List Zv) o0∧OS 3011 g w 87 ([]:List Zv) o0∧Gn o0) 8 rfl hall).2.1
 have aB:=(Gl (A:=fun g w=>RV g.m w l5 i6∧OS 3011 g w 87 l5 i6) 11 rfl hall).1
 have o33:=(Gl (A:=fun g w=>RV g.m w l5 i6∧OS 3011 g w 87 l5 i6) 11 rfl hall).2
 clear hs hall
 have lB:RV l9.m _ (⟨y7,u3,l5⟩:BoxLoom) (.agg (Wf [[.slice none 0 0],[.slice none 0 0],[.slice none 0 0]] [(0,v6),(1,t5),(2,i6)]).flatten.toArray):=Wz rfl (Qp (RV.cells l8) (Qp (RV.cells n9) (Kd (RV.cells aB))))
 generalize n8:(Value.agg (Wf [[.slice none 0 0],[.slice none 0 0],[.slice none 0 0]] [(0,v6),(1,t5),(2,i6)]).flatten.toArray)=mB at lB
 refine Zy mB (n8 ▸ P_build (vs:=[(0,v6),(1,t5),(2,i6)]) [[.slice none 0 0],[.slice none 0 0],[.slice none 0 0]] lay_25 rfl rfl (.cons rfl (.cons rfl (.cons rfl .nil))) ⟨⟨_,rfl,Qs l8⟩,⟨⟨_,rfl,Qs n9⟩,⟨⟨_,rfl,Qs aB⟩,trivial⟩⟩⟩) rfl ?_
 refine Ze .plain rfl (Gk (g:=l9) (v:=mB) Try.sizeOf25 rfl b2 rfl lB fun oD yD hs b35 cb=>?_)
 obtain ⟨zD,aE,g8,_,_⟩:=RV_list l8
 have bE:OSF 2002 3003 0 oD yD 3 25 (y7:List Int) p2:=cb.osfv (by rw [← n8,g8]; rfl) (o25.stp hs rfl)
 clear cb
 have hfr:=hfr.stp hs
 refine Zb (Zd (Gw ?_))
 obtain rfl:=sinj h
 obtain ⟨ad36,cv36,hp36,zB,cr36⟩:=Qv Try.isAgg25 Try.sizeOf25 b35
 exact endm_c rfl rfl ((show _=p2 from rfl).trans hp36) zB ⟨_,hfr,cr36⟩
def f53 (x0:List Int):Option ((List (List Int))):=
 Option.bind (α:=(List (List Int))) (
  lp (σ:=(List (List Int)) × Int) (fun k19 (n8,o0)=>
   bif (decide (o0 < ((x0).length : Int))) then
    Option.bind (α:=(List (List Int))) (
     (idx x0 o0).bind fun l8=>
     (apnd 24 n8 (([([l8]:List Int)]:List (List Int)))).bind fun yD=>
     some (yD)
     ) fun i6=>
    k19 (i6,(w64 (o0 + (1:Int))))
   else
    some (n8)
   ) big ([],(0:Int))
  ) fun g8=>
 some (g8)
theorem en53:Enters Try.prog 53:=enters_of Try.func53 (by kernel_rfl) rfl
theorem wk53 {gI:Gh} {wI:World} {x0:List Int} {up0:Value} (rp0:RV gI.m wI x0 up0) {r:(List (List Int))} (h:f53 x0=some r):Fn Try.prog 53 #[up0] gI wI (fun m w v=>RV m w (r) v):=by
 unfold f53 at h
 refine Tf Try.func53 rfl (Nat.le_of_ble_eq_true rfl) fun g0 hm hfr=>?_
 have rp0:RV g0.m wI x0 up0:=hm ▸ rp0
 show E _ 18 none _ _ _ _ _
 refine Zf (Za (Zg (.slice none 0 0) rfl rfl ?_))
 refine Zb (Zd ?_)
 obtain ⟨g8,hx,h⟩:=Gc h
 refine Th (fun e w=>∃ (g:Gh) (v2:Value),Fr gI wI g w∧e 2=v2∧RV g.m w (g8:List (List Int)) v2∧OS 1002 g w 22 (g8:List (List Int)) v2) (fun Q' hQ=>?_) (fun dF sF hR=>?_)
 ·replace h := hx
  clear hx
  refine Zf (Za (Zn up0 rfl rfl ?_))
  refine Zy (.int .i64 ((x0).length:Int)) (Tw Try.underlying22 rfl rp0) rfl ?_
  refine Zn (.int .i64 (0)) rfl rfl ?_
  refine Zb (Zd (Zr ?_))
  refine E_lp h (fun (s:(List (List Int)) × Int) e w=>∃ (g:Gh) (v2:Value),Fr gI wI g w∧e 2=v2∧RV g.m w (s.1:List (List Int)) v2∧OS 1002 g w 22 (s.1:List (List Int)) v2∧e 5=up0∧RV g.m w (x0:List Int) up0∧e 6=.int .i64 (((x0).length:Int))∧e 7=.int .i64 (s.2)) ⟨g0,(.slice none 0 0),hfr,rfl,RV_nil,OS.nil,rfl,rp0,rfl,rfl⟩ (fun X19 k19 aE=>?_)
  rintro ⟨n8,o0⟩ eF tF ⟨nB,vB,hfr,n9,l5,t5,aB,u3,lB,v8⟩ h
  refine Zf (Za (Gu (.bool ((decide (o0 < ((x0).length:Int))))) v8 lB rfl rfl ?_))
  refine Zb (Zd (Zf ?_))
  rcases Zt h with ⟨l9,h⟩ | ⟨l9,h⟩
  ·refine Qq l9 rfl ?_
   refine Zu (Zd ?_)
   obtain ⟨i6,hx,h⟩:=Gc h
   refine Th (fun e w=>∃ (g:Gh) (v2:Value),Fr gI wI g w∧e 2=v2∧RV g.m w (i6:List (List Int)) v2∧OS 1002 g w 22 (i6:List (List Int)) v2∧e 5=up0∧RV g.m w (x0:List Int) up0∧e 6=.int .i64 (((x0).length:Int))∧e 7=.int .i64 (o0)) (fun Q' hQ=>?_) (fun rF uF hR=>?_)
   ·replace h := hx
    clear hx
    refine Zr ?_
    refine Zf (Za ?_)
    obtain ⟨l8,oB,h⟩:=Gc h
    refine Zy (Qc up0 o0 1) (Zh (α:=Int) Try.underlying22 Try.sizeOf3 aB u3 v8 oB) rfl ?_
    have iE:=Tj u3 oB
    refine Ze .plain rfl (Gr (g:=nB) Try.isAgg3 Try.sizeOf3 rfl iE fun vF lE=>?_)
    obtain rfl:=Zj.1 lE
    refine Zg (.int .i64 (l8)) rfl rfl ?_
    refine Zb (Zd (Za (Zo n9 rfl ?_)))
    refine Zn (.int .i64 (l8)) rfl rfl ?_
    refine Ze .plain rfl (Gi (g:=nB) 3013 (xs:=([l8]:List Int)) (vs:=[.int .i64 (l8)]) Try.underlying22 Try.sizeOf3 Try.zeroValue3 rfl rfl (.cons rfl .nil) (RVs.cons (Zj.2 rfl) RVs.nil) rfl rfl fun mE xF oE hs o32 rE hxt hfl=>?_)
    have hfr:=hfr.stp hs
    have l5:=l5.stp hs
    have t5:=t5.stp hs rfl
    have u3:=u3.stp hs
    refine Ze .plain rfl (Gi (g:=mE) 3014 (xs:=([([l8]:List Int)]:List (List Int))) (vs:=[oE]) Try.underlying42 Try.sizeOf22 Try.zeroValue22 rfl rfl (.cons rfl .nil) (RVs.cons rE RVs.nil) rfl rfl fun uE yF aG hs o33 vE hxt hfl=>?_)
    have hfr:=hfr.stp hs
    have l5:=l5.stp hs
    have t5:=t5.stp hs rfl
    have u3:=u3.stp hs
    obtain ⟨yD,bE,h⟩:=Gc h
    refine Ze .plain rfl (Ke (g:=uE) (i:=1002) Try.underlying42 info_22 rfl rfl t5 l5 rfl vE bE fun xE bG zD hs o34 yE _=>?_)
    have hfr:=hfr.stp hs
    have u3:=u3.stp hs
    refine Zg zD rfl rfl ?_
    refine Zb (Qn ?_)
    obtain rfl:=sinj h
    exact hQ _ _ ⟨xE,(zD),hfr,rfl,yE,o34,aB,u3,lB,v8⟩
   ·clear hx
    obtain ⟨zE,yB,hfr,zB,cC,uC,vC,bD,cD,lD⟩:=hR
    refine Za (Gu (.int .i64 ((w64 (o0 + (1:Int))))) lD rfl rfl rfl ?_)
    refine Zn (.int .i64 ((w64 (o0 + (1:Int))))) rfl rfl ?_
    exact Zb (Zd (aE (i6,(w64 (o0 + (1:Int)))) _ _ ⟨zE,(yB),hfr,zB,cC,uC,vC,bD,cD,rfl⟩ h))
  ·refine Qr l9 rfl ?_
   refine Qm ?_
   refine Tm ?_
   refine Tm ?_
   refine Tu ?_
   obtain rfl:=sinj h
   exact hQ _ _ ⟨nB,(vB),hfr,n9,l5,t5⟩
 ·clear hx
  obtain ⟨cG,mB,hfr,nD,oD,cF⟩:=hR
  refine Zf (Za (Zo nD rfl ?_))
  refine Zg mB rfl rfl ?_
  refine Zb (Zd (Gw ?_))
  obtain rfl:=sinj h
  exact Wb rfl rfl (show _=mB from rfl) ⟨_,hfr,oD⟩
def f54 (x0:Gf) (x1:Int→Zv→Option Int):Option (Gv):=
 Option.bind (α:=Gv) (
  lp (σ:=Gv × Int) (fun yG (l9,o0)=>
   bif (decide (o0 < ((((x0).BoxLoom).Shuttles).length : Int))) then
    Option.bind (α:=Gv) (
     (idx (((x0).BoxLoom).Shuttles) o0).bind fun i6=>
     (x1 o0 i6).bind fun vB=>
     (idx ((l9).boxes).toList (i6).Side).bind fun oE=>
     (idx (oE).toList (i6).Box).bind fun y158=>
     some ({ l9 with boxes:=(vmod ((l9).boxes) ((i6).Side) (fun b=>(vset b ((i6).Box) vB))) })
     ) fun n9=>
    yG (n9,(w64 (o0 + (1:Int))))
   else
    some (l9)
   ) big ((⟨(⟨List.toArray [(⟨List.toArray [0,0,0,0],rfl⟩:Vector Int 4),(⟨List.toArray [0,0,0,0],rfl⟩:Vector Int 4)],rfl⟩:Vector (Vector Int 4) 2),⟨0,0⟩⟩:Gv),(0:Int))
  ) fun oB=>
 (idx (((x0).BoxLoom).At) (0:Int)).bind fun g8=>
 (idx (((x0).BoxLoom).At) (1:Int)).bind fun l8=>
 some ({ oB with at_:=(⟨g8,l8⟩:Ge) })
theorem en54:Enters Try.prog 54:=enters_of Try.func54 (by kernel_rfl) rfl
theorem wk54 {gI:Gh} {wI:World} {x0:Gf} {x1:Int→Zv→Option Int} {up0:Value} (rp0:RV gI.m wI x0 up0) {up1:Value} (rp1:FnV2 Try.prog x1 up1 gI wI) {r:Gv} (h:f54 x0 x1=some r):Fn Try.prog 54 #[up0,up1] gI wI (fun m w v=>RV m w (r) v):=by
 unfold f54 at h
 refine Tf Try.func54 rfl (Nat.le_of_ble_eq_true rfl) fun g0 hm hfr=>?_
 have rp0:RV g0.m wI x0 up0:=hm ▸ rp0
 obtain ⟨ff1,fa1,fc1,rfl,fen1,fcl1⟩:=rp1
 show E _ 41 none _ _ _ _ _
 refine Zf (Za (Ze .plain rfl (We (g:=g0) rfl rp0 fun g1 w1 p1 hs q1=>?_)))
 have hfr:=hfr.ext hs
 have rp0:=rp0.ext hs
 refine Ze .plain rfl (Gs (g:=g1) 2004 (⟨(⟨List.toArray [(⟨List.toArray [0,0,0,0],rfl⟩:Vector Int 4),(⟨List.toArray [0,0,0,0],rfl⟩:Vector Int 4)],rfl⟩:Vector (Vector Int 4) 2),⟨0,0⟩⟩:Gv) Try.zeroValue108 (fun m w=>⟨_,(Gg (Gt (Zw (Gt (Zw Zx (Zw Zx (Zw Zx (Zw Zx Gm)))) rfl) (Zw (Gt (Zw Zx (Zw Zx (Zw Zx (Zw Zx Gm)))) rfl) Gm)) rfl) (Gg Zx Zx)),rfl⟩) fun g2 w2 p2 hs b2 cb=>?_)
 have hfr:=hfr.stp hs
 have rp0:=rp0.stp hs
 have q1:=q1.stp hs
 clear cb
 refine Zb (Zd ?_)
 obtain ⟨oB,hx,h⟩:=Gc h
 refine Th (fun e w=>∃ (g:Gh) ,Fr gI wI g w∧e 2=p1∧PT g.m w (x0:Gf) p1∧e 4=p2∧OB 2004 g w 108 (oB:Gv) p2) (fun Q' hQ=>?_) (fun kI cH hR=>?_)
 ·replace h := hx
  clear hx
  refine Zf (Za (Zy (Gj p1 0) (Zc Ka rfl (PT.ptr q1)) rfl ?_))
  have zG:=Zm (Tq).1 q1
  refine Zy (Gj (Gj p1 0) 2) (Zc Qk rfl (PT.ptr zG)) rfl ?_
  have jI:=Zm (Gx).1 zG
  refine Ze .plain rfl (Gr (g:=g2) Try.isAgg23 Try.sizeOf23 rfl jI fun uC aH=>?_)
  refine Zy (.int .i64 ((((x0).BoxLoom).Shuttles).length:Int)) (Tw Try.underlying23 rfl aH) rfl ?_
  refine Zn (.int .i64 (0)) rfl rfl ?_
  refine Zb (Zd (Zr ?_))
  refine E_lp h (fun (s:Gv × Int) e w=>∃ (g:Gh) ,Fr gI wI g w∧e 1=(.func (.func ff1) fa1 fc1)∧e 2=p1∧PT g.m w (x0:Gf) p1∧e 4=p2∧OB 2004 g w 108 (s.1:Gv) p2∧e 9=uC∧RV g.m w (((x0).BoxLoom).Shuttles:List Zv) uC∧e 10=.int .i64 (((((x0).BoxLoom).Shuttles).length:Int))∧e 11=.int .i64 (s.2)) ⟨g2,hfr,rfl,rfl,q1,rfl,b2,rfl,aH,rfl,rfl⟩ (fun X98 yG gH=>?_)
  rintro ⟨l9,o0⟩ mI vJ ⟨rE,hfr,lD,nD,t5,yB,u3,oD,l5,vC,aB⟩ h
  refine Zf (Za (Zy (.bool ((decide (o0 < ((((x0).BoxLoom).Shuttles).length:Int))))) (Td aB vC rfl) rfl ?_))
  refine Zb (Zd (Zf ?_))
  rcases Zt h with ⟨zB,h⟩ | ⟨zB,h⟩
  ·refine Qq zB rfl ?_
   refine Zu (Zd ?_)
   obtain ⟨n9,hx,h⟩:=Gc h
   refine Th (fun e w=>∃ (g:Gh) ,Fr gI wI g w∧e 1=(.func (.func ff1) fa1 fc1)∧e 2=p1∧PT g.m w (x0:Gf) p1∧e 4=p2∧OB 2004 g w 108 (n9:Gv) p2∧e 9=uC∧RV g.m w (((x0).BoxLoom).Shuttles:List Zv) uC∧e 10=.int .i64 (((((x0).BoxLoom).Shuttles).length:Int))∧e 11=.int .i64 (o0)) (fun Q' hQ=>?_) (fun lI nI hR=>?_)
   ·replace h := hx
    clear hx
    refine Zr ?_
    refine Zf (Za (Zo aB rfl ?_))
    obtain ⟨i6,yD,h⟩:=Gc h
    refine Zy (Qc uC o0 5) (Zh (α:=Zv) Try.underlying23 Try.sizeOf87 oD l5 aB yD) rfl ?_
    have n8:=Tj l5 yD
    refine Ze .plain rfl (Gr (g:=rE) Try.isAgg87 Try.sizeOf87 rfl n8 fun jH v8=>?_)
    refine Ze .plain rfl (Gs (g:=rE) 2006 (⟨0,0,0,⟨0,0⟩⟩:Zv) Try.zeroValue87 (fun m w=>⟨_,(Gg Zx (Gg Zx (Gg Zx (Gg Zx Zx)))),rfl⟩) fun kH pI uE hs b146 cb=>?_)
    have hfr:=hfr.stp hs
    have t5:=t5.stp hs
    have u3:=u3.stp hs rfl
    have l5:=l5.stp hs
    have n8:=n8.stp hs
    have v8:=v8.stp hs
    clear cb
    refine Zg (.int .i64 (o0)) rfl rfl ?_
    refine Ze .plain rfl (Gk (g:=kH) (v:=jH) Try.sizeOf87 rfl b146 rfl v8 fun lH qI hs b147 cb=>?_)
    clear cb
    have hfr:=hfr.stp hs
    have t5:=t5.stp hs
    have u3:=u3.stp hs rfl
    have l5:=l5.stp hs
    have n8:=n8.stp hs
    have v8:=v8.stp hs
    refine Zb (Zd (Wg (x:=.tmp 16) Qt.1 Try.isAgg3 Try.sizeOf3 b147 fun sI mH cG=>?_))
    obtain rfl:=Zj.1 mH
    refine Wg (x:=.tmp 18) Wl.1 Try.isAgg3 Try.sizeOf3 b147 fun jJ nH eG=>?_
    obtain rfl:=Zj.1 nH
    refine Wq (x:=.tmp 6) Try.isAgg87 Try.sizeOf87 b147 fun vE cD gG=>?_
    obtain ⟨vB,iG,h⟩:=Gc h
    obtain ⟨oE,zD,h⟩:=Gc h
    obtain ⟨hi157,he157⟩:=vat_idx zD
    obtain ⟨y158,aE,h⟩:=Gc h
    obtain ⟨hi159,he159⟩:=vat_idx aE
    refine Tt (g:=lH) (n:=11) [(7,(fun v g w=>v=.int .i64 (vB)))] [0,1,2,3,4,5,6,7,8,9,10] rfl Qf (by kernel_rfl) (⟨fun _=>Tr _,trivial⟩) ?_
    refine Gb (Gj uE 1) rfl rfl (Zc Ww rfl (OB.ptr b147)) ?_
    refine Gy (c:=.int .i64 ((i6).Side)) rfl rfl .plain (fun _ _ h=>⟨h.ch,fun b hb _=>h.below.block b hb⟩) cG rfl ?_
    refine Gb (Gj uE 2) rfl rfl (Zc at_87_2 rfl (OB.ptr b147)) ?_
    refine Gy (c:=.int .i64 ((i6).Box)) rfl rfl .plain (fun _ _ h=>⟨h.ch,fun b hb _=>h.below.block b hb⟩) eG rfl ?_
    refine Gb ((.func (.func ff1) fa1 fc1)) rfl rfl (Zk lD) ?_
    refine Gb (.int .i64 (o0)) rfl rfl (Zk rfl) ?_
    refine Gy (c:=vE) rfl rfl .plain (fun _ _ h=>⟨h.ch,fun b hb _=>h.below.block b hb⟩) gG rfl ?_
    refine Qa (φ:=fun v g w=>v=.int .i64 (vB)) rfl rfl .plain (fun g w hd=>D_callv (g:=g) (vs:=[.int .i64 (o0),vE]) rfl fen1 (.cons rfl (.cons rfl .nil)) (fcl1 _ _ (hfr.ext hd.1).ch _ _ _ _ _  (Zj.2 rfl) (cD.ext hd.1) iG) fun g' w' v hs hr=>⟨g',hs,Zj.1 hr⟩) (fun kJ hv=>?_)
    obtain ⟨_,_,_,rfl⟩:=hv
    refine Gb (Gj p2 0) rfl rfl (Zc at_108_0 yB (OB.ptr u3)) ?_
    refine Gb (Gj p2 (0 + ((i6).Side:Int).toNat * 4)) rfl rfl (Kc (α:=Vector Int 4) (o1:=0) rfl Try.underlying76 Try.sizeOf75 rfl (OB.ptr u3) rfl zD) ?_
    refine Gb (Gj p2 ((0 + ((i6).Side:Int).toNat * 4) + ((i6).Box:Int).toNat * 1)) rfl rfl (Kc (α:=Int) (o1:=(0 + ((i6).Side:Int).toNat * 4)) rfl Try.underlying75 Try.sizeOf3 rfl (OB.ptr u3) rfl aE) ?_
    refine L_nl fun oH lJ hs=>?_
    have hfr:=hfr.ext hs
    have t5:=t5.ext hs
    have u3:=u3.ext hs
    have l5:=l5.ext hs
    have n8:=n8.ext hs
    have v8:=v8.ext hs
    have b147:=b147.ext hs
    have cD:=cD.ext hs
    clear hs
    refine Ze .plain rfl (D_storeFc (g:=oH) (Ta.at_ (Ta.comp Wu (Ta.dynC hi157 (Ta.dyn hi159) rfl) rfl) (by first | rfl | exact Nat.add_assoc _ _ _ | simp only [Nat.add_assoc,Nat.zero_add] | omega)) Try.sizeOf3 rfl u3 rfl (Zj.2 rfl) fun pH mJ hs b184 rst hos=>?_)
    clear rst hos
    have hfr:=hfr.stp hs
    have t5:=t5.stp hs
    have l5:=l5.stp hs
    refine Zb (Qn ?_)
    obtain rfl:=sinj h
    exact hQ _ _ ⟨pH,hfr,lD,nD,t5,yB,b184,oD,l5,vC,aB⟩
   ·clear hx
    obtain ⟨qH,hfr,xE,yE,zE,cF,dF,eF,rF,lE,mE⟩:=hR
    refine Za (Gu (.int .i64 ((w64 (o0 + (1:Int))))) mE rfl rfl rfl ?_)
    refine Zn (.int .i64 ((w64 (o0 + (1:Int))))) rfl rfl ?_
    exact Zb (Zd (gH (n9,(w64 (o0 + (1:Int)))) _ _ ⟨qH,hfr,xE,yE,zE,cF,dF,eF,rF,lE,rfl⟩ h))
  ·refine Qr zB rfl ?_
   refine Qm ?_
   refine Tm ?_
   refine Tm ?_
   refine Tu ?_
   obtain rfl:=sinj h
   exact hQ _ _ ⟨rE,hfr,nD,t5,yB,u3⟩
 ·clear hx
  obtain ⟨sF,hfr,bD,lB,mB,nB⟩:=hR
  refine Zf ?_
  have tF:=Zm (Tq).1 lB
  have sH:=Zm (Qo).1 tF
  refine Zs (x:=.tmp 29) Try.isAgg22 Try.sizeOf22 sH fun uF vF jG=>?_
  obtain ⟨g8,bE,h⟩:=Gc h
  have tH:=Tj vF bE
  refine Zs (x:=.tmp 31) Try.isAgg3 Try.sizeOf3 tH fun nJ uH kG=>?_
  obtain rfl:=Zj.1 uH
  have xF:=Zm (Tq).1 lB
  have xH:=Zm (Qo).1 xF
  refine Zs (x:=.tmp 34) Try.isAgg22 Try.sizeOf22 xH fun yF aG lG=>?_
  obtain ⟨l8,iE,h⟩:=Gc h
  have yH:=Tj aG iE
  refine Zs (x:=.tmp 36) Try.isAgg3 Try.sizeOf3 yH fun oJ zH mG=>?_
  obtain rfl:=Zj.1 zH
  have cC:RV sF.m cH (⟨g8,l8⟩:Ge) (.agg (Wf [[.int .i64 0],[.int .i64 0]] [(0,.int .i64 (g8)),(1,.int .i64 (l8))]).flatten.toArray):=Wz rfl (Qp (rfl) (Kd (rfl)))
  generalize sG:(Value.agg (Wf [[.int .i64 0],[.int .i64 0]] [(0,.int .i64 (g8)),(1,.int .i64 (l8))]).flatten.toArray)=aI at cC
  refine Tt (g:=sF) (n:=12) [] [0,1,2,3,4,5,6,7,8,9,10,11] rfl Qf (by kernel_rfl) trivial ?_
  refine Gb (Gj p1 0) rfl rfl (Zc Ka bD (PT.ptr lB)) ?_
  refine Gb (Gj (Gj p1 0) 1) rfl rfl (Zc at_25_1 rfl (PT.ptr tF)) ?_
  refine Gy (c:=uF) rfl rfl .plain (fun _ _ h=>h.ch) jG rfl ?_
  refine Gb (Qc uF (0:Int) 1) rfl rfl (Zh (α:=Int) Try.underlying22 Try.sizeOf3 rfl vF rfl bE) ?_
  refine Gy (c:=.int .i64 (g8)) rfl rfl .plain (fun _ _ h=>h.ch) kG rfl ?_
  refine Gb (Gj p1 0) rfl rfl (Zc Ka bD (PT.ptr lB)) ?_
  refine Gb (Gj (Gj p1 0) 1) rfl rfl (Zc at_25_1 rfl (PT.ptr xF)) ?_
  refine Gy (c:=yF) rfl rfl .plain (fun _ _ h=>h.ch) lG rfl ?_
  refine Gb (Qc yF (1:Int) 1) rfl rfl (Zh (α:=Int) Try.underlying22 Try.sizeOf3 rfl aG rfl iE) ?_
  refine Gy (c:=.int .i64 (l8)) rfl rfl .plain (fun _ _ h=>h.ch) mG rfl ?_
  refine Gb aI rfl rfl (sG ▸ P_build (vs:=[(0,.int .i64 (g8)),(1,.int .i64 (l8))]) [[.int .i64 0],[.int .i64 0]] lay_83 rfl rfl (.cons rfl (.cons rfl .nil)) ⟨⟨_,rfl,rfl⟩,⟨⟨_,rfl,rfl⟩,trivial⟩⟩) ?_
  refine Gb (Gj p2 8) rfl rfl (Zc at_108_1 mB (OB.ptr nB)) ?_
  refine L_nl fun bI pJ hs=>?_
  have hfr:=hfr.ext hs
  have nB:=nB.ext hs
  have cC:=cC.ext hs
  clear hs
  refine Ze .plain rfl (D_storeFc (g:=bI) part_BoxRace_1 Try.sizeOf83 rfl nB rfl cC fun bG qJ hs b216 rst hos=>?_)
  clear rst hos
  have hfr:=hfr.stp hs
  refine Zb (Zd (Zf (Za (Ze .plain rfl (Qj (g:=bG) Try.isAgg108 Try.sizeOf108 mB b216 fun dI iI=>?_)))))
  refine Ze .plain rfl (Gk (g:=bG) (v:=dI) Try.sizeOf108 mB b216 rfl iI fun rJ sJ hs b218 cb=>?_)
  clear cb
  have hfr:=hfr.stp hs
  refine Zb (Zd (Gw ?_))
  obtain rfl:=sinj h
  obtain ⟨ad219,cv219,hp219,xG,cr219⟩:=Qv Try.isAgg108 Try.sizeOf108 b218
  exact endm_c rfl rfl ((show _=p2 from mB).trans hp219) xG ⟨_,hfr,cr219⟩
def f55 (x0:Int) (x1:Zv):Option (Int):=
 some ((w64 ((x1).Colour + (1:Int))))
theorem en55:Enters Try.prog 55:=enters_of Try.func55 (by kernel_rfl) rfl
theorem wk55 {gI:Gh} {wI:World} {x0:Int} {x1:Zv} {up1:Value} (rp1:RV gI.m wI x1 up1) {r:Int} (h:f55 x0 x1=some r):Fn Try.prog 55 #[.int .i64 (x0),up1] gI wI (fun _ _ v=>v=.int .i64 (r)):=by
 unfold f55 at h
 refine Tf Try.func55 rfl (Nat.le_of_ble_eq_true rfl) fun g0 hm hfr=>?_
 have rp1:RV g0.m wI x1 up1:=hm ▸ rp1
 show E _ 8 none _ _ _ _ _
 refine Zf (Za (Ze .plain rfl (We (g:=g0) rfl rp1 fun g1 w1 p1 hs q1=>?_)))
 have hfr:=hfr.ext hs
 refine Zg (.int .i64 (0)) rfl rfl ?_
 refine Zb (Zd (Zf (Za (Zy (Gj p1 0) (Zc at_87_0 rfl (PT.ptr q1)) rfl ?_))))
 have q2:=Zm (part_BoxShuttle_0).1 q1
 refine Ze .plain rfl (Gr (g:=g1) Try.isAgg3 Try.sizeOf3 rfl q2 fun v3 r3=>?_)
 obtain rfl:=Zj.1 r3
 refine Gu (.int .i64 ((w64 ((x1).Colour + (1:Int))))) rfl rfl rfl rfl ?_
 refine Zg (.int .i64 ((w64 ((x1).Colour + (1:Int))))) rfl rfl ?_
 refine Zb (Zd (Gw ?_))
 obtain rfl:=sinj h
 exact Wb rfl rfl (show _=.int .i64 ((w64 ((x1).Colour + (1:Int)))) from rfl) ⟨_,hfr,rfl⟩
def f56 (x0:Gf):Option (Tn):=
 (idx (((x0).BoxLoom).Boxes) (0:Int)).bind fun y5=>
 (idx (((x0).BoxLoom).Boxes) (1:Int)).bind fun y11=>
 some ((⟨y5,y11,⟨⟩⟩:Tn))
theorem en56:Enters Try.prog 56:=enters_of Try.func56 (by kernel_rfl) rfl
theorem wk56 {gI:Gh} {wI:World} {x0:Gf} {up0:Value} (rp0:RV gI.m wI x0 up0) {r:Tn} (h:f56 x0=some r):Fn Try.prog 56 #[up0] gI wI (fun m w v=>PT m w (r) v):=by
 unfold f56 at h
 refine Tf Try.func56 rfl (Nat.le_of_ble_eq_true rfl) fun g0 hm hfr=>?_
 have rp0:RV g0.m wI x0 up0:=hm ▸ rp0
 show E _ 16 none _ _ _ _ _
 refine Zf (Za (Ze .plain rfl (We (g:=g0) rfl rp0 fun g1 w1 p1 hs q1=>?_)))
 have hfr:=hfr.ext hs
 refine Zg (.pointer none) rfl rfl ?_
 refine Zb (Zd (Zf ?_))
 have q2:=Zm (Tq).1 q1
 have q3:=Zm (Ts).1 q2
 refine Zs (x:=.tmp 4) Try.isAgg22 Try.sizeOf22 q3 fun v4 r4 nB=>?_
 obtain ⟨y5,hy5,h⟩:=Gc h
 have q6:=Tj r4 hy5
 refine Zs (x:=.tmp 6) Try.isAgg3 Try.sizeOf3 q6 fun v7 r7 hl7=>?_
 obtain rfl:=Zj.1 r7
 have q8:=Zm (Tq).1 q1
 have q9:=Zm (Ts).1 q8
 refine Zs (x:=.tmp 9) Try.isAgg22 Try.sizeOf22 q9 fun i6 g8 lB=>?_
 obtain ⟨y11,l5,h⟩:=Gc h
 have oB:=Tj g8 l5
 refine Zs (x:=.tmp 11) Try.isAgg3 Try.sizeOf3 oB fun zB vB mB=>?_
 obtain rfl:=Zj.1 vB
 refine E_drawTL (g:=g1) (n:=10) [0,1,2,3,4,5,6,7,8,9] [] [0,1,2,3,4,5,6,7,8,9] rfl Qf (by kernel_rfl) trivial rfl ?_
 refine L_purL (c:=Gj p1 0) rfl rfl .plain (Zc Ka rfl (PT.ptr q1)) ?_
 refine L_purL (c:=Gj (Gj p1 0) 0) rfl rfl .plain (Zc Wo rfl (PT.ptr q2)) ?_
 refine L_ldL (c:=v4) rfl rfl .plain (fun _ _ h=>h.ch) rfl nB rfl ?_
 refine L_purL (c:=Qc v4 (0:Int) 1) rfl rfl .plain (Zh (α:=Int) Try.underlying22 Try.sizeOf3 rfl r4 rfl hy5) ?_
 refine L_ldL (c:=.int .i64 (y5)) rfl rfl .plain (fun _ _ h=>h.ch) rfl hl7 rfl ?_
 refine L_purL (c:=Gj p1 0) rfl rfl .plain (Zc Ka rfl (PT.ptr q1)) ?_
 refine L_purL (c:=Gj (Gj p1 0) 0) rfl rfl .plain (Zc Wo rfl (PT.ptr q8)) ?_
 refine L_ldL (c:=i6) rfl rfl .plain (fun _ _ h=>h.ch) rfl lB rfl ?_
 refine L_purL (c:=Qc i6 (1:Int) 1) rfl rfl .plain (Zh (α:=Int) Try.underlying22 Try.sizeOf3 rfl g8 rfl l5) ?_
 refine L_ldL (c:=.int .i64 (y11)) rfl rfl .plain (fun _ _ h=>h.ch) rfl mB rfl ?_
 refine L_nl fun l8 yB hs=>?_
 have hlt:Lt g1.m w1 l8 yB:=hs.ch
 have hfr:=hfr.ext hs
 clear hs
 refine TL_do hlt.w .plain rfl (D_makeMap (g:=l8) (Ws Ty) Int 8013 fun o0 n8 u3 hs m28=>?_)
 have hfr:=hfr.stp hs
 have hlt:=hlt.stp hs
 have v8:RV o0.m _ (⟨y5,y11,⟨⟩⟩:Tn) (.agg (Wf [[.int .i64 0],[.int .i64 0],[.map none]] [(0,.int .i64 (y5)),(1,.int .i64 (y11)),(2,u3)]).flatten.toArray):=Wz rfl (Qp (rfl) (Qp (rfl) (Kd (RV.cells (m28.ref (m:=o0.m) (w':=n8))))))
 generalize t5:(Value.agg (Wf [[.int .i64 0],[.int .i64 0],[.map none]] [(0,.int .i64 (y5)),(1,.int .i64 (y11)),(2,u3)]).flatten.toArray)=l9 at v8
 refine TL_pur hlt.w (v:=l9) (t5 ▸ P_build (vs:=[(0,.int .i64 (y5)),(1,.int .i64 (y11)),(2,u3)]) [[.int .i64 0],[.int .i64 0],[.map none]] lay_154 rfl rfl (.cons rfl (.cons rfl (.cons rfl .nil))) ⟨⟨_,rfl,rfl⟩,⟨⟨_,rfl,rfl⟩,⟨⟨_,rfl,Qs (m28.ref (m:=o0.m) (w':=n8))⟩,trivial⟩⟩⟩) .plain rfl ?_
 refine TL_do hlt.w .plain rfl (D_boxF (g:=o0) (v:=l9) (off:=2) (u:=u3) rfl v8 (by rw [← t5]; simp only [Wf,mp_cells m28]; rfl) fun cC uC n9 hs aB fc30=>?_)
 have hfr:=hfr.ext hs
 have hlt:=hlt.ext hs
 have hone500215:=PT.one aB
 refine TL_pur hlt.w (v:=n9) (Tg rfl) .plain rfl ?_
 refine TL_nil hlt.w ?_
 clear hlt
 refine Zd (Gw ?_)
 obtain rfl:=sinj h
 exact Wb rfl rfl (show _=n9 from rfl) ⟨_,hfr,aB⟩
def f59 (x0:Int) (x1:Int) (x2:Int):Option (Bool):=
 Option.bind (α:=Bool) (
  bif (decide (x0 ≥ x1)) then
   some ((decide (x0 ≤ x2)))
  else
   some (false)
  ) fun o0=>
 some (o0)
theorem en59:Enters Try.prog 59:=enters_of Try.func59 (by kernel_rfl) rfl
theorem wk59 {gI:Gh} {wI:World} {x0:Int} {x1:Int} {x2:Int}  {r:Bool} (h:f59 x0 x1 x2=some r):Fn Try.prog 59 #[.int .i64 (x0),.int .i64 (x1),.int .i64 (x2)] gI wI (fun _ _ v=>v=.bool (r)):=by
 unfold f59 at h
 refine Tf Try.func59 rfl (Nat.le_of_ble_eq_true rfl) fun g0 hm hfr=>?_
 show E _ 15 none _ _ _ _ _
 refine Zf (Za (Zg (.bool false) rfl rfl ?_))
 refine Zb (Zd ?_)
 obtain ⟨o0,hx,h⟩:=Gc h
 refine Th (fun e w=>∃ (g:Gh) ,Fr gI wI g w∧e 6=.bool (o0)) (fun Q' hQ=>?_) (fun l5 w3 hR=>?_)
 ·replace h := hx
  clear hx
  refine Za (Zn (.int .i64 (x0)) rfl rfl ?_)
  refine Zn (.int .i64 (x1)) rfl rfl ?_
  refine Gu (.bool ((decide (x0 ≥ x1)))) rfl rfl rfl rfl ?_
  refine Zn (.bool ((decide (x0 ≥ x1)))) rfl rfl ?_
  rcases Zt h with ⟨hc2,h⟩ | ⟨hc2,h⟩
  ·refine Zz (.int .i64 (x0)) (Zk rfl) rfl rfl hc2 rfl ?_
   refine Zz (.int .i64 (x2)) (Zk rfl) rfl rfl hc2 rfl ?_
   refine Zz (.bool ((decide (x0 ≤ x2)))) (Td rfl rfl rfl) rfl rfl hc2 rfl ?_
   refine Zy (.bool ((decide (x0 ≤ x2)))) (Zl (b:=(decide (x0 ≥ x1))) rfl (Tp hc2 rfl)) rfl ?_
   refine Zg (.bool ((decide (x0 ≤ x2)))) rfl rfl ?_
   refine Zb ?_
   obtain rfl:=sinj h
   exact hQ _ _ ⟨g0,hfr,rfl⟩
  ·refine Ga rfl rfl hc2 rfl rfl ?_
   refine Ga rfl rfl hc2 rfl rfl ?_
   refine Ga rfl rfl hc2 rfl rfl ?_
   refine Zy (.bool false) (Zl (b:=(decide (x0 ≥ x1))) rfl (Tl hc2 rfl)) rfl ?_
   refine Zg (.bool false) rfl rfl ?_
   refine Zb ?_
   obtain rfl:=sinj h
   exact hQ _ _ ⟨g0,hfr,rfl⟩
 ·clear hx
  obtain ⟨g3,hfr,u3⟩:=hR
  refine Gw ?_
  obtain rfl:=sinj h
  exact Wb rfl rfl (show _=.bool (o0) from u3) ⟨_,hfr,rfl⟩
def f60 (x0:BoxLoom):Option ((List Ge)):=
 Option.bind (α:=(List Ge)) (
  lp (σ:=(List Ge) × Int) (fun nH (l8,u3)=>
   jn (σ:=Unit) (fun _=>
    Option.bind (α:=(List Ge)) (
     lp (σ:=(List Ge) × Int) (fun oE (l5,o0)=>
      jn (σ:=Unit) (fun _=>
       Option.bind (α:=(List Ge)) (
        (apnd 16 l5 (([(⟨u3,o0⟩:Ge)]:List Ge))).bind fun y135=>
        some (y135)
        ) fun t5=>
       oE (t5,(w64 (o0 + (1:Int))))
       ) fun rE=>
      (idx ((x0).Boxes) (1:Int)).bind fun nD=>
      bif (decide (o0 < nD)) then
       rE ()
      else
       some (l5)
      ) big (l8,(0:Int))
     ) fun i6=>
    nH (i6,(w64 (u3 + (1:Int))))
    ) fun oH=>
   (idx ((x0).Boxes) (0:Int)).bind fun uE=>
   bif (decide (u3 < uE)) then
    oH ()
   else
    some (l8)
   ) big (([]:List Ge),(0:Int))
  ) fun n8=>
 some (n8)
theorem en60:Enters Try.prog 60:=enters_of Try.func60 (by kernel_rfl) rfl
theorem wk60 {gI:Gh} {wI:World} {x0:BoxLoom} {up0:Value} (rp0:RV gI.m wI x0 up0) {r:(List Ge)} (h:f60 x0=some r):Fn Try.prog 60 #[up0] gI wI (fun m w v=>RV m w (r) v):=by
 unfold f60 at h
 refine Tf Try.func60 rfl (Nat.le_of_ble_eq_true rfl) fun g0 hm hfr=>?_
 have rp0:RV g0.m wI x0 up0:=hm ▸ rp0
 show E _ 30 none _ _ _ _ _
 refine Zf (Za (Ze .plain rfl (We (g:=g0) rfl rp0 fun g1 w1 p1 hs q1=>?_)))
 have hfr:=hfr.ext hs
 refine Zg (.slice none 0 0) rfl rfl ?_
 refine Zb (Zd (Zf (Za (Ze .plain rfl (Gi (g:=g1) 3006 (xs:=([]:List Ge)) (vs:=[]) Try.underlying30 Try.sizeOf83 Try.zeroValue83 rfl rfl .nil RVs.nil rfl rfl fun g2 w2 v2 hs o2 r2 hxt hfl=>?_)))))
 have hfr:=hfr.stp hs
 have q1:=q1.stp hs
 refine Zg v2 rfl rfl ?_
 refine Zb (Zd ?_)
 obtain ⟨n8,hx,h⟩:=Gc h
 refine Th (fun e w=>∃ (g:Gh) (v3:Value),Fr gI wI g w∧e 3=v3∧RV g.m w (n8:List Ge) v3∧OS 3006 g w 83 (n8:List Ge) v3) (fun Q' hQ=>?_) (fun jJ oJ hR=>?_)
 ·replace h := hx
  clear hx
  refine Zf (Za (Zg (.int .i64 (0)) rfl rfl ?_))
  refine Zb (Zd (Zr ?_))
  refine E_lp h (fun (s:(List Ge) × Int) e w=>∃ (g:Gh) (v3:Value),Fr gI wI g w∧e 1=p1∧PT g.m w (x0:BoxLoom) p1∧e 3=v3∧RV g.m w (s.1:List Ge) v3∧OS 3006 g w 83 (s.1:List Ge) v3∧e 4=.int .i64 (s.2)) ⟨g2,(v2),hfr,rfl,q1,rfl,r2,o2,rfl⟩ (fun X71 nH qH=>?_)
  rintro ⟨l8,u3⟩ pJ dK ⟨yD,v8,hfr,zD,nB,aE,bE,iE,lE⟩ h
  refine Zq h (fun (s:Unit) e w=>∃ (g:Gh) ,Fr gI wI g w∧e 1=p1∧PT g.m w (x0:BoxLoom) p1∧e 3=v8∧RV g.m w (l8:List Ge) v8∧OS 3006 g w 83 (l8:List Ge) v8∧e 4=.int .i64 (u3)) (fun X79 oH sH h=>?_) ?_
  ·refine Zf (Za (Zo lE rfl ?_))
   refine Zy (Gj p1 0) (Zc Wo zD (PT.ptr nB)) rfl ?_
   have lI:=Zm (Ts).1 nB
   refine Ze .plain rfl (Gr (g:=yD) Try.isAgg22 Try.sizeOf22 rfl lI fun mI pH=>?_)
   obtain ⟨uE,vE,h⟩:=Gc h
   refine Zy (Qc mI (0:Int) 1) (Zh (α:=Int) Try.underlying22 Try.sizeOf3 rfl pH rfl vE) rfl ?_
   have nI:=Tj pH vE
   refine Ze .plain rfl (Gr (g:=yD) Try.isAgg3 Try.sizeOf3 rfl nI fun lK pI=>?_)
   obtain rfl:=Zj.1 pI
   refine Gu (.bool ((decide (u3 < uE)))) rfl rfl rfl rfl ?_
   refine Zb (Zd ?_)
   rcases Zt h with ⟨oD,h⟩ | ⟨oD,h⟩
   ·refine Qq oD rfl ?_
    exact Zu (Zd (sH () _ _ ⟨yD,hfr,zD,nB,aE,bE,iE,lE⟩ h))
   ·refine Qr oD rfl ?_
    refine Qm ?_
    refine Tm ?_
    refine Tm ?_
    refine Tu ?_
    obtain rfl:=sinj h
    exact hQ _ _ ⟨yD,(v8),hfr,aE,bE,iE⟩
  ·rintro _ qJ mK ⟨qI, hfr, xG, yG, zG, aH, cH, gH⟩ h
   obtain ⟨i6,hx,h⟩:=Gc h
   refine Th (fun e w=>∃ (g:Gh) (v3:Value),Fr gI wI g w∧e 1=p1∧PT g.m w (x0:BoxLoom) p1∧e 3=v3∧RV g.m w (i6:List Ge) v3∧OS 3006 g w 83 (i6:List Ge) v3∧e 4=.int .i64 (u3)) (fun Q' hQ=>?_) (fun kJ rJ hR=>?_)
   ·replace h := hx
    clear hx
    refine Zr ?_
    refine Zf (Za (Zg (.int .i64 (0)) rfl rfl ?_))
    refine Zb (Zd (Zr ?_))
    refine E_lp h (fun (s:(List Ge) × Int) e w=>∃ (g:Gh) (v3:Value),Fr gI wI g w∧e 1=p1∧PT g.m w (x0:BoxLoom) p1∧e 3=v3∧RV g.m w (s.1:List Ge) v3∧OS 3006 g w 83 (s.1:List Ge) v3∧e 4=.int .i64 (u3)∧e 5=.int .i64 (s.2)) ⟨qI,(v8),hfr,xG,yG,zG,aH,cH,gH,rfl⟩ (fun X112 oE jH=>?_)
    rintro ⟨l5,o0⟩ lJ sJ ⟨oB,l9,hfr,aB,n9,yB,zB,cC,uC,vC⟩ h
    refine Zq h (fun (s:Unit) e w=>∃ (g:Gh) ,Fr gI wI g w∧e 1=p1∧PT g.m w (x0:BoxLoom) p1∧e 3=l9∧RV g.m w (l5:List Ge) l9∧OS 3006 g w 83 (l5:List Ge) l9∧e 4=.int .i64 (u3)∧e 5=.int .i64 (o0)) (fun X120 rE kH h=>?_) ?_
    ·refine Zf (Za (Zo vC rfl ?_))
     refine Zy (Gj p1 0) (Zc Wo aB (PT.ptr n9)) rfl ?_
     have tH:=Zm (Ts).1 n9
     refine Ze .plain rfl (Gr (g:=oB) Try.isAgg22 Try.sizeOf22 rfl tH fun uH xE=>?_)
     obtain ⟨nD,mE,h⟩:=Gc h
     refine Zy (Qc uH (1:Int) 1) (Zh (α:=Int) Try.underlying22 Try.sizeOf3 rfl xE rfl mE) rfl ?_
     have xH:=Tj xE mE
     refine Ze .plain rfl (Gr (g:=oB) Try.isAgg3 Try.sizeOf3 rfl xH fun vJ yH=>?_)
     obtain rfl:=Zj.1 yH
     refine Gu (.bool ((decide (o0 < nD)))) rfl rfl rfl rfl ?_
     refine Zb (Zd ?_)
     rcases Zt h with ⟨vB,h⟩ | ⟨vB,h⟩
     ·refine Qq vB rfl ?_
      exact Zu (Zd (kH () _ _ ⟨oB,hfr,aB,n9,yB,zB,cC,uC,vC⟩ h))
     ·refine Qr vB rfl ?_
      refine Qm ?_
      refine Tm ?_
      refine Tm ?_
      refine Tu ?_
      refine Qn ?_
      obtain rfl:=sinj h
      exact hQ _ _ ⟨oB,(l9),hfr,aB,n9,yB,zB,cC,uC⟩
    ·rintro _ mJ zH ⟨yE, hfr, zE, g8, cF, lB, mB, bD, cD⟩ h
     obtain ⟨t5,hx,h⟩:=Gc h
     refine Th (fun e w=>∃ (g:Gh) (v3:Value),Fr gI wI g w∧e 1=p1∧PT g.m w (x0:BoxLoom) p1∧e 3=v3∧RV g.m w (t5:List Ge) v3∧OS 3006 g w 83 (t5:List Ge) v3∧e 4=.int .i64 (u3)∧e 5=.int .i64 (o0)) (fun Q' hQ=>?_) (fun nJ xJ hR=>?_)
     ·replace h := hx
      clear hx
      refine Zr ?_
      refine Za (Zo cF rfl ?_)
      refine Zo bD rfl ?_
      refine Zo cD rfl ?_
      have dF:RV yE.m zH (⟨u3,o0⟩:Ge) (.agg (Wf [[.int .i64 0],[.int .i64 0]] [(0,.int .i64 (u3)),(1,.int .i64 (o0))]).flatten.toArray):=Wz rfl (Qp (rfl) (Kd (rfl)))
      generalize lH:(Value.agg (Wf [[.int .i64 0],[.int .i64 0]] [(0,.int .i64 (u3)),(1,.int .i64 (o0))]).flatten.toArray)=eF at dF
      refine Zy eF (lH ▸ P_build (vs:=[(0,.int .i64 (u3)),(1,.int .i64 (o0))]) [[.int .i64 0],[.int .i64 0]] lay_83 rfl rfl (.cons rfl (.cons rfl .nil)) ⟨⟨_,rfl,rfl⟩,⟨⟨_,rfl,rfl⟩,trivial⟩⟩) rfl ?_
      refine Ze .plain rfl (Gi (g:=yE) 3027 (xs:=([(⟨u3,o0⟩:Ge)]:List Ge)) (vs:=[eF]) Try.underlying30 Try.sizeOf83 Try.zeroValue83 rfl rfl (.cons rfl .nil) (RVs.cons dF RVs.nil) rfl rfl fun aI zJ aK hs o133 bI hxt hfl=>?_)
      have hfr:=hfr.stp hs
      have g8:=g8.stp hs
      have lB:=lB.stp hs
      have mB:=mB.stp hs rfl
      obtain ⟨y135,mH,h⟩:=Gc h
      refine Ze .plain rfl (Ke (g:=aI) (i:=3006) Try.underlying30 info_83 rfl rfl mB lB rfl bI mH fun dI bK rF hs o134 iI _=>?_)
      have hfr:=hfr.stp hs
      have g8:=g8.stp hs
      refine Zg rF rfl rfl ?_
      refine Zb (Qn ?_)
      obtain rfl:=sinj h
      exact hQ _ _ ⟨dI,(rF),hfr,zE,g8,rfl,iI,o134,bD,cD⟩
     ·clear hx
      obtain ⟨jI,sF,hfr,tF,uF,vF,xF,yF,aG,bG⟩:=hR
      refine Za (Zo bG rfl ?_)
      refine Gu (.int .i64 ((w64 (o0 + (1:Int))))) rfl rfl rfl rfl ?_
      refine Zg (.int .i64 ((w64 (o0 + (1:Int))))) rfl rfl ?_
      exact Zb (Zd (jH (t5,(w64 (o0 + (1:Int)))) _ _ ⟨jI,(sF),hfr,tF,uF,vF,xF,yF,aG,rfl⟩ h))
   ·clear hx
    obtain ⟨kI,cG,hfr,eG,gG,iG,jG,kG,lG⟩:=hR
    refine Za (Zo lG rfl ?_)
    refine Gu (.int .i64 ((w64 (u3 + (1:Int))))) rfl rfl rfl rfl ?_
    refine Zg (.int .i64 ((w64 (u3 + (1:Int))))) rfl rfl ?_
    exact Zb (Zd (qH (i6,(w64 (u3 + (1:Int)))) _ _ ⟨kI,(cG),hfr,eG,gG,iG,jG,kG,rfl⟩ h))
 ·clear hx
  obtain ⟨cK,lD,hfr,mG,sG,sI⟩:=hR
  refine Zf (Za (Zo mG rfl ?_))
  refine Zg lD rfl rfl ?_
  refine Zb (Zd (Gw ?_))
  obtain rfl:=sinj h
  exact Wb rfl rfl (show _=lD from rfl) ⟨_,hfr,sG⟩
def f62 (x0:List Int):Option (Bool):=
 some ((decide (((x0).length:Int) > (3:Int))))
theorem en62:Enters Try.prog 62:=enters_of Try.func62 (by kernel_rfl) rfl
theorem wk62 {gI:Gh} {wI:World} {x0:List Int} {up0:Value} (rp0:RV gI.m wI x0 up0) {r:Bool} (h:f62 x0=some r):Fn Try.prog 62 #[up0] gI wI (fun _ _ v=>v=.bool (r)):=by
 unfold f62 at h
 refine Tf Try.func62 rfl (Nat.le_of_ble_eq_true rfl) fun g0 hm hfr=>?_
 have rp0:RV g0.m wI x0 up0:=hm ▸ rp0
 show E _ 6 none _ _ _ _ _
 refine Zf (Za (Zg (.bool false) rfl rfl ?_))
 refine Zb (Zd (Zf (Za (Zn up0 rfl rfl ?_))))
 refine Zy (.int .i64 ((x0).length:Int)) (Tw Try.underlying22 rfl rp0) rfl ?_
 refine Gu (.bool ((decide (((x0).length:Int) > (3:Int))))) rfl rfl rfl rfl ?_
 refine Zg (.bool ((decide (((x0).length:Int) > (3:Int))))) rfl rfl ?_
 refine Zb (Zd (Gw ?_))
 obtain rfl:=sinj h
 exact Wb rfl rfl (show _=.bool ((decide (((x0).length:Int) > (3:Int)))) from rfl) ⟨_,hfr,rfl⟩
def f65 (x0:Gd) (x1:List (List Int)):Option (Gd):=
 Option.bind (α:=Gd) (
  lp (σ:=Gd) (fun nD o0=>
   jn (σ:=Unit) (fun _=>
    nD ({ { o0 with group:=(w64 ((o0).group + (1:Int))) } with done:=(0:Int) })
    ) fun oD=>
   Option.bind (α:=Bool) (
    bif (decide ((o0).group < ((x1).length : Int))) then
     (idx x1 (o0).group).bind fun bD=>
     (shl64 (1:Int) ((bD).length:Int)).bind fun lB=>
     some (((o0).done == (w64 (lB - (1:Int)))))
    else
     some (false)
    ) fun i6=>
   bif i6 then
    oD ()
   else
    some (o0)
   ) big (x0)
  ) fun mB=>
 some (mB)
theorem en65:Enters Try.prog 65:=enters_of Try.func65 (by kernel_rfl) rfl
theorem wk65 {gI:Gh} {wI:World} {x0:Gd} {x1:List (List Int)} {up0:Value} (rp0:RV gI.m wI x0 up0) {up1:Value} (rp1:RV gI.m wI x1 up1) {r:Gd} (h:f65 x0 x1=some r):Fn Try.prog 65 #[up0,up1] gI wI (fun m w v=>RV m w (r) v):=by
 unfold f65 at h
 refine Tf Try.func65 rfl (Nat.le_of_ble_eq_true rfl) fun g0 hm hfr=>?_
 have rp0:RV g0.m wI x0 up0:=hm ▸ rp0
 have rp1:RV g0.m wI x1 up1:=hm ▸ rp1
 show E _ 29 none _ _ _ _ _
 refine Zf (Za (Ze .plain rfl (D_boxO (g:=g0) 2002 rfl rp0 fun g1 w1 p1 hs b1=>?_)))
 have hfr:=hfr.stp hs
 have rp1:=rp1.stp hs
 refine Ze .plain rfl (Gs (g:=g1) 2004 (⟨0,0,⟨(⟨List.toArray [(⟨List.toArray [0,0,0,0],rfl⟩:Vector Int 4),(⟨List.toArray [0,0,0,0],rfl⟩:Vector Int 4)],rfl⟩:Vector (Vector Int 4) 2),⟨0,0⟩⟩⟩:Gd) Try.zeroValue112 (fun m w=>⟨_,(Gg Zx (Gg Zx (Gg (Gt (Zw (Gt (Zw Zx (Zw Zx (Zw Zx (Zw Zx Gm)))) rfl) (Zw (Gt (Zw Zx (Zw Zx (Zw Zx (Zw Zx Gm)))) rfl) Gm)) rfl) (Gg Zx Zx)))),rfl⟩) fun g2 w2 p2 hs b2 cb=>?_)
 have hfr:=hfr.stp hs
 have rp1:=rp1.stp hs
 have b1:=b1.stp hs rfl
 clear cb
 refine Zb (Zd ?_)
 obtain ⟨mB,hx,h⟩:=Gc h
 refine Th (fun e w=>∃ (g:Gh) ,Fr gI wI g w∧e 2=p1∧OB 2002 g w 112 (mB:Gd) p1∧e 4=p2∧OB 2004 g w 112 ((⟨0,0,⟨(⟨List.toArray [(⟨List.toArray [0,0,0,0],rfl⟩:Vector Int 4),(⟨List.toArray [0,0,0,0],rfl⟩:Vector Int 4)],rfl⟩:Vector (Vector Int 4) 2),⟨0,0⟩⟩⟩:Gd):Gd) p2) (fun Q' hQ=>?_) (fun kG xG hR=>?_)
 ·replace h := hx
  clear hx
  refine Zr ?_
  refine E_lp h (fun (s:Gd) e w=>∃ (g:Gh) ,Fr gI wI g w∧e 1=up1∧RV g.m w (x1:List (List Int)) up1∧e 2=p1∧OB 2002 g w 112 (s:Gd) p1∧e 4=p2∧OB 2004 g w 112 ((⟨0,0,⟨(⟨List.toArray [(⟨List.toArray [0,0,0,0],rfl⟩:Vector Int 4),(⟨List.toArray [0,0,0,0],rfl⟩:Vector Int 4)],rfl⟩:Vector (Vector Int 4) 2),⟨0,0⟩⟩⟩:Gd):Gd) p2) ⟨g2,hfr,rfl,rp1,rfl,b1,rfl,b2⟩ (fun X238 nD xE=>?_)
  rintro o0 lG yG ⟨yD,hfr,n8,t5,g8,u3,vB,l8⟩ h
  refine Zq h (fun (s:Unit) e w=>∃ (g:Gh) ,Fr gI wI g w∧e 1=up1∧RV g.m w (x1:List (List Int)) up1∧e 2=p1∧OB 2002 g w 112 (o0:Gd) p1∧e 4=p2∧OB 2004 g w 112 ((⟨0,0,⟨(⟨List.toArray [(⟨List.toArray [0,0,0,0],rfl⟩:Vector Int 4),(⟨List.toArray [0,0,0,0],rfl⟩:Vector Int 4)],rfl⟩:Vector (Vector Int 4) 2),⟨0,0⟩⟩⟩:Gd):Gd) p2) (fun X352 oD yE h=>?_) ?_
  ·obtain ⟨i6, hx, h⟩ := Gc h
   refine Th (fun e w=>∃ (g:Gh) ,Fr gI wI g w∧e 1=up1∧RV g.m w (x1:List (List Int)) up1∧e 2=p1∧OB 2002 g w 112 (o0:Gd) p1∧e 4=p2∧OB 2004 g w 112 ((⟨0,0,⟨(⟨List.toArray [(⟨List.toArray [0,0,0,0],rfl⟩:Vector Int 4),(⟨List.toArray [0,0,0,0],rfl⟩:Vector Int 4)],rfl⟩:Vector (Vector Int 4) 2),⟨0,0⟩⟩⟩:Gd):Gd) p2∧e 22=.bool (i6)) (fun Q' hQ=>?_) (fun mG zG hR=>?_)
   ·replace h := hx
    clear hx
    refine Wg (x:=.tmp 5) Wx.1 Try.isAgg3 Try.sizeOf3 u3 fun aH sF cD=>?_
    obtain rfl:=Zj.1 sF
    rcases Zt h with ⟨l5,h⟩ | ⟨l5,h⟩
    ·refine Wg (x := .tmp 11) part_BoxPoint_1.1 Try.isAgg3 Try.sizeOf3 u3 fun cH tF zE => ?_
     obtain rfl:=Zj.1 tF
     refine Wg (x:=.tmp 14) Wx.1 Try.isAgg3 Try.sizeOf3 u3 fun gH uF cF=>?_
     obtain rfl:=Zj.1 uF
     obtain ⟨bD,lD,h⟩:=Gc h
     have vF:=Tj t5 lD
     refine Zs (x:=.tmp 16) Try.isAgg22 Try.sizeOf22 vF fun xF yF dF=>?_
     obtain ⟨lB,eF,h⟩:=Gc h
     refine Tt (g:=yD) (n:=18) [] [0,1,2,3,4,5,6,7,8,9,10,11,12,13,14,15,16,17] rfl Qf (by kernel_rfl) trivial ?_
     refine Gb (Gj p1 0) rfl rfl (Zc at_112_0 g8 (OB.ptr u3)) ?_
     refine Gy (c:=.int .i64 ((o0).group)) rfl rfl .plain (fun _ _ h=>⟨h.ch,fun b hb _=>h.below.block b hb⟩) cD rfl ?_
     refine Gb up1 rfl rfl (Zk n8) ?_
     refine Gb (.int .i64 ((x1).length:Int)) rfl rfl (Tw Try.underlying42 rfl t5) ?_
     refine Gb (.bool ((decide ((o0).group < ((x1).length:Int))))) rfl rfl (Td rfl rfl rfl) ?_
     refine Gb (.bool ((decide ((o0).group < ((x1).length:Int))))) rfl rfl (Zk rfl) ?_
     refine L_y (Gj p1 1) rfl rfl rfl rfl l5 (Zc at_112_1 g8 (OB.ptr u3)) ?_
     refine Gy (c:=.int .i64 ((o0).done)) rfl rfl (.yes2 rfl rfl l5) (fun _ _ h=>⟨h.ch,fun b hb _=>h.below.block b hb⟩) zE rfl ?_
     refine L_y up1 rfl rfl rfl rfl l5 (Zk n8) ?_
     refine L_y (Gj p1 0) rfl rfl rfl rfl l5 (Zc at_112_0 g8 (OB.ptr u3)) ?_
     refine Gy (c:=.int .i64 ((o0).group)) rfl rfl (.yes2 rfl rfl l5) (fun _ _ h=>⟨h.ch,fun b hb _=>h.below.block b hb⟩) cF rfl ?_
     refine L_y (Qc up1 (o0).group 1) rfl rfl rfl rfl l5 (Zh (α:=List Int) Try.underlying42 Try.sizeOf22 rfl t5 rfl lD) ?_
     refine Gy (c:=xF) rfl rfl (.yes2 rfl rfl l5) (fun _ _ h=>h.ch) dF rfl ?_
     refine L_y (.int .i64 ((bD).length:Int)) rfl rfl rfl rfl l5 (Tw Try.underlying22 rfl yF) ?_
     refine L_y (.int .i64 (lB)) rfl rfl rfl rfl l5 (Td rfl rfl (congrArg (Option.map (Value.int .i64)) eF)) ?_
     refine L_y (.int .i64 ((w64 (lB - (1:Int))))) rfl rfl rfl rfl l5 (Td rfl rfl rfl) ?_
     refine L_y (.bool (((o0).done == (w64 (lB - (1:Int)))))) rfl rfl rfl rfl l5 (Td rfl rfl rfl) ?_
     refine Gb (.bool (((o0).done == (w64 (lB - (1:Int)))))) rfl rfl (Zl (b:=(decide ((o0).group < ((x1).length:Int)))) rfl (Tp l5 rfl)) ?_
     refine L_nl fun aG jH hs=>?_
     have hfr:=hfr.ext hs
     have t5:=t5.ext hs
     have u3:=u3.ext hs
     have l8:=l8.ext hs
     clear hs
     refine Zb ?_
     obtain rfl:=sinj h
     exact hQ _ _ ⟨aG,hfr,n8,t5,g8,u3,vB,l8,rfl⟩
    ·refine Tt (g := yD) (n := 18) [] [0, 1, 2, 3, 4, 5, 6, 7, 8, 9, 10, 11, 12, 13, 14, 15, 16, 17] rfl Qf (by kernel_rfl) trivial ?_
     refine Gb (Gj p1 0) rfl rfl (Zc at_112_0 g8 (OB.ptr u3)) ?_
     refine Gy (c:=.int .i64 ((o0).group)) rfl rfl .plain (fun _ _ h=>⟨h.ch,fun b hb _=>h.below.block b hb⟩) cD rfl ?_
     refine Gb up1 rfl rfl (Zk n8) ?_
     refine Gb (.int .i64 ((x1).length:Int)) rfl rfl (Tw Try.underlying42 rfl t5) ?_
     refine Gb (.bool ((decide ((o0).group < ((x1).length:Int))))) rfl rfl (Td rfl rfl rfl) ?_
     refine Gb (.bool ((decide ((o0).group < ((x1).length:Int))))) rfl rfl (Zk rfl) ?_
     iterate 11 refine L_s rfl rfl rfl l5 rfl ?_
     refine Gb (.bool false) rfl rfl (Zl (b:=(decide ((o0).group < ((x1).length:Int)))) rfl (Tl l5 rfl)) ?_
     refine L_nl fun bG kH hs=>?_
     have hfr:=hfr.ext hs
     have t5:=t5.ext hs
     have u3:=u3.ext hs
     have l8:=l8.ext hs
     clear hs
     refine Zb ?_
     obtain rfl:=sinj h
     exact hQ _ _ ⟨bG,hfr,n8,t5,g8,u3,vB,l8,rfl⟩
   ·clear hx
    obtain ⟨zD,hfr,aE,bE,yB,zB,cC,uC,nB⟩:=hR
    rcases Zt h with ⟨oB,h⟩ | ⟨oB,h⟩
    ·refine To (Eq.trans (show ev _ _ = .bool (i6) from nB) (congrArg Value.bool oB)) ?_
     exact Zu (Zd (yE () _ _ ⟨zD,hfr,aE,bE,yB,zB,cC,uC⟩ h))
    ·refine Tk (Eq.trans (show ev _ _ = .bool (i6) from nB) (congrArg Value.bool oB)) ?_
     refine Qm ?_
     refine Tm ?_
     refine Tm ?_
     refine Tu ?_
     obtain rfl:=sinj h
     exact hQ _ _ ⟨zD,hfr,yB,zB,cC,uC⟩
  ·rintro _ sG lH ⟨iE, hfr, lE, v8, n9, aB, mE, l9⟩ h
   refine Zr ?_
   refine Za (Zy (Gj p1 0) (Zc at_112_0 n9 (OB.ptr aB)) rfl ?_)
   refine Ze .plain rfl (Kb (g:=iE) Wx.1 Try.isAgg3 Try.sizeOf3 rfl aB fun mH cG=>?_)
   obtain rfl:=Zj.1 cG
   refine Gu (.int .i64 ((w64 ((o0).group + (1:Int))))) rfl rfl rfl rfl ?_
   refine Zy (Gj p1 0) (Zc at_112_0 n9 (OB.ptr aB)) rfl ?_
   refine Ze .plain rfl (D_storeFc (g:=iE) Wx Try.sizeOf3 rfl aB rfl (Zj.2 rfl) fun eG nH hs b469 rst hos=>?_)
   clear rst hos
   have hfr:=hfr.stp hs
   have v8:=v8.stp hs
   have l9:=l9.stp hs rfl
   refine Zy (Gj p1 1) (Zc at_112_1 n9 (OB.ptr b469)) rfl ?_
   refine Ze .plain rfl (D_storeFc (g:=eG) part_BoxPoint_1 Try.sizeOf3 rfl b469 rfl (Zj.2 rfl) fun gG oH hs b471 rst hos=>?_)
   clear rst hos
   have hfr:=hfr.stp hs
   have v8:=v8.stp hs
   have l9:=l9.stp hs rfl
   exact Zb (Qn (Zd (xE ({ { o0 with group:=(w64 ((o0).group + (1:Int))) } with done:=(0:Int) }) _ _ ⟨gG,hfr,lE,v8,n9,b471,mE,l9⟩ h)))
 ·clear hx
  obtain ⟨oE,hfr,rE,uE,vC,vE⟩:=hR
  refine Zf (Za (Ze .plain rfl (Qj (g:=oE) Try.isAgg112 Try.sizeOf112 rE uE fun iG jG=>?_)))
  refine Ze .plain rfl (Gk (g:=oE) (v:=iG) Try.sizeOf112 vC vE rfl jG fun pH qH hs b474 cb=>?_)
  clear cb
  have hfr:=hfr.stp hs
  refine Zb (Zd (Gw ?_))
  obtain rfl:=sinj h
  obtain ⟨ad475,cv475,hp475,rF,cr475⟩:=Qv Try.isAgg112 Try.sizeOf112 b474
  exact endm_c rfl rfl ((show _=p2 from vC).trans hp475) rF ⟨_,hfr,cr475⟩
def f69 (x0:List Int) (x1:List Int):Option (Bool):=
 jn (σ:=Unit) (fun _=>
  some (false)
  ) fun yB=>
 lp (σ:=Int) (fun zB o0=>
  jn (σ:=Unit) (fun _=>
   jn (σ:=Unit) (fun _=>
    zB ((w64 (o0 + (1:Int))))
    ) fun cC=>
   (idx x0 o0).bind fun y165=>
   (idx x1 o0).bind fun y168=>
   bif (y165 != y168) then
    (idx x0 o0).bind fun i6=>
    (idx x1 o0).bind fun g8=>
    some ((decide (i6 < g8)))
   else
    cC ()
   ) fun uC=>
  bif (decide (o0 < ((x0).length : Int))) then
   uC ()
  else
   yB ()
  ) big ((0:Int))
theorem en69:Enters Try.prog 69:=enters_of Try.func69 (by kernel_rfl) rfl
theorem wk69 {gI:Gh} {wI:World} {x0:List Int} {x1:List Int} {up0:Value} (rp0:RV gI.m wI x0 up0) {up1:Value} (rp1:RV gI.m wI x1 up1) {r:Bool} (h:f69 x0 x1=some r):Fn Try.prog 69 #[up0,up1] gI wI (fun _ _ v=>v=.bool (r)):=by
 unfold f69 at h
 refine Tf Try.func69 rfl (Nat.le_of_ble_eq_true rfl) fun g0 hm hfr=>?_
 have rp0:RV g0.m wI x0 up0:=hm ▸ rp0
 have rp1:RV g0.m wI x1 up1:=hm ▸ rp1
 show E _ 30 none _ _ _ _ _
 refine Zf (Za (Zg (.bool false) rfl rfl ?_))
 refine Zb (Zd (Zq h (fun (s:Unit) e w=>∃ (g:Gh) ,Fr gI wI g w) (fun X108 yB bE h=>?_) ?_))
 ·refine Zf (Za (Zg (.int .i64 (0)) rfl rfl ?_))
  refine Zb (Zd (Zr ?_))
  refine E_lp h (fun (s:Int) e w=>∃ (g:Gh) ,Fr gI wI g w∧e 0=up0∧RV g.m w (x0:List Int) up0∧e 1=up1∧RV g.m w (x1:List Int) up1∧e 5=.int .i64 (s)) ⟨g0,hfr,rfl,rp0,rfl,rp1,rfl⟩ (fun X109 zB iE=>?_)
  rintro o0 vF bG ⟨vC,hfr,n9,aB,bD,cD,lB⟩ h
  refine Zq h (fun (s:Unit) e w=>∃ (g:Gh) ,Fr gI wI g w∧e 0=up0∧RV g.m w (x0:List Int) up0∧e 1=up1∧RV g.m w (x1:List Int) up1∧e 5=.int .i64 (o0)) (fun X112 uC lE h=>?_) ?_
  ·refine Zf (Za (Zo lB rfl ?_))
   refine Zo n9 rfl ?_
   refine Zy (.int .i64 ((x0).length:Int)) (Tw Try.underlying22 rfl aB) rfl ?_
   refine Gu (.bool ((decide (o0 < ((x0).length:Int))))) rfl rfl rfl rfl ?_
   refine Zb (Zd ?_)
   rcases Zt h with ⟨v8,h⟩ | ⟨v8,h⟩
   ·refine Qq v8 rfl ?_
    exact Zu (Zd (lE () _ _ ⟨vC,hfr,n9,aB,bD,cD,lB⟩ h))
   ·refine Qr v8 rfl ?_
    refine Qm ?_
    refine Tm ?_
    refine Tm ?_
    refine Tu ?_
    exact Zd (bE () _ _ ⟨vC,hfr⟩ h)
  ·rintro _ xF cG ⟨xE, hfr, l8, u3, n8, l5, t5⟩ h
   refine Zq h (fun (s:Unit) e w=>∃ (g:Gh) ,Fr gI wI g w∧e 0=up0∧RV g.m w (x0:List Int) up0∧e 1=up1∧RV g.m w (x1:List Int) up1∧e 5=.int .i64 (o0)) (fun X164 cC mE h=>?_) ?_
   ·refine Zr ?_
    refine Zf ?_
    obtain ⟨y165,mB,h⟩:=Gc h
    have yE:=Tj u3 mB
    refine Zs (x:=.tmp 14) Try.isAgg3 Try.sizeOf3 yE fun eG zE oE=>?_
    obtain rfl:=Zj.1 zE
    obtain ⟨y168,nB,h⟩:=Gc h
    have cF:=Tj l5 nB
    refine Zs (x:=.tmp 18) Try.isAgg3 Try.sizeOf3 cF fun gG dF rE=>?_
    obtain rfl:=Zj.1 dF
    refine Tt (g:=xE) (n:=9) [] [0,1,2,3,4,5,6,7,8] rfl Qf (by kernel_rfl) trivial ?_
    refine Gb up0 rfl rfl (Zk l8) ?_
    refine Gb (.int .i64 (o0)) rfl rfl (Zk t5) ?_
    refine Gb (Qc up0 o0 1) rfl rfl (Zh (α:=Int) Try.underlying22 Try.sizeOf3 rfl u3 rfl mB) ?_
    refine Gy (c:=.int .i64 (y165)) rfl rfl .plain (fun _ _ h=>h.ch) oE rfl ?_
    refine Gb up1 rfl rfl (Zk n8) ?_
    refine Gb (.int .i64 (o0)) rfl rfl (Zk t5) ?_
    refine Gb (Qc up1 o0 1) rfl rfl (Zh (α:=Int) Try.underlying22 Try.sizeOf3 rfl l5 rfl nB) ?_
    refine Gy (c:=.int .i64 (y168)) rfl rfl .plain (fun _ _ h=>h.ch) rE rfl ?_
    refine Gb (.bool ((y165 != y168))) rfl rfl (Td rfl rfl rfl) ?_
    refine L_nl fun lD iG hs=>?_
    have hfr:=hfr.ext hs
    have u3:=u3.ext hs
    have l5:=l5.ext hs
    clear hs
    refine Zb (Zd ?_)
    rcases Zt h with ⟨l9,h⟩ | ⟨l9,h⟩
    ·refine Qq l9 rfl ?_
     refine Zf ?_
     obtain ⟨i6,oB,h⟩:=Gc h
     have eF:=Tj u3 oB
     refine Zs (x:=.tmp 23) Try.isAgg3 Try.sizeOf3 eF fun jG rF uE=>?_
     obtain rfl:=Zj.1 rF
     obtain ⟨g8,vB,h⟩:=Gc h
     have sF:=Tj l5 vB
     refine Zs (x:=.tmp 27) Try.isAgg3 Try.sizeOf3 sF fun kG tF vE=>?_
     obtain rfl:=Zj.1 tF
     refine Tt (g:=lD) (n:=10) [] [0,1,2,3,4,5,6,7,8,9] rfl Qf (by kernel_rfl) trivial ?_
     refine Gb up0 rfl rfl (Zk l8) ?_
     refine Gb (.int .i64 (o0)) rfl rfl (Zk t5) ?_
     refine Gb (Qc up0 o0 1) rfl rfl (Zh (α:=Int) Try.underlying22 Try.sizeOf3 rfl u3 rfl oB) ?_
     refine Gy (c:=.int .i64 (i6)) rfl rfl .plain (fun _ _ h=>h.ch) uE rfl ?_
     refine Gb up1 rfl rfl (Zk n8) ?_
     refine Gb (.int .i64 (o0)) rfl rfl (Zk t5) ?_
     refine Gb (Qc up1 o0 1) rfl rfl (Zh (α:=Int) Try.underlying22 Try.sizeOf3 rfl l5 rfl vB) ?_
     refine Gy (c:=.int .i64 (g8)) rfl rfl .plain (fun _ _ h=>h.ch) vE rfl ?_
     refine Gb (.bool ((decide (i6 < g8)))) rfl rfl (Td rfl rfl rfl) ?_
     refine Gb (.bool ((decide (i6 < g8)))) rfl rfl (Tg rfl) ?_
     refine L_nl fun lG mG hs=>?_
     have hfr:=hfr.ext hs
     clear hs
     refine Zb (Zd (Gw (Qu ?_)))
     refine Tc ?_
     refine Tc ?_
     refine Qu ?_
     refine Tc ?_
     obtain rfl:=sinj h
     exact Wb rfl rfl (show _=.bool ((decide (i6 < g8))) from rfl) ⟨_,hfr,rfl⟩
    ·refine Qr l9 rfl ?_
     exact Zu (Qn (Zd (mE () _ _ ⟨lD,hfr,l8,u3,n8,l5,t5⟩ h)))
   ·rintro _ yF sG ⟨uF, hfr, nD, oD, yD, zD, aE⟩ h
    refine Za (Zo aE rfl ?_)
    refine Gu (.int .i64 ((w64 (o0 + (1:Int))))) rfl rfl rfl rfl ?_
    refine Zg (.int .i64 ((w64 (o0 + (1:Int))))) rfl rfl ?_
    exact Zb (Zd (iE ((w64 (o0 + (1:Int)))) _ _ ⟨uF,hfr,nD,oD,yD,zD,rfl⟩ h))
 ·rintro _ aG xG ⟨yG, hfr⟩ h
  refine Zf (Za (Zg (.bool false) rfl rfl ?_))
  refine Zb (Zd (Gw ?_))
  obtain rfl:=sinj h
  exact Wb rfl rfl (show _=.bool false from rfl) ⟨_,hfr,rfl⟩
def f71 (x0:Wt):Option (Int):=
 some ((x0).Low)
theorem en71:Enters Try.prog 71:=enters_of Try.func71 (by kernel_rfl) rfl
theorem wk71 {gI:Gh} {wI:World} {x0:Wt} {up0:Value} (rp0:RV gI.m wI x0 up0) {r:Int} (h:f71 x0=some r):Fn Try.prog 71 #[up0] gI wI (fun _ _ v=>v=.int .i64 (r)):=by
 unfold f71 at h
 refine Tf Try.func71 rfl (Nat.le_of_ble_eq_true rfl) fun g0 hm hfr=>?_
 have rp0:RV g0.m wI x0 up0:=hm ▸ rp0
 show E _ 5 none _ _ _ _ _
 refine Zf (Za (Ze .plain rfl (We (g:=g0) rfl rp0 fun g1 w1 p1 hs q1=>?_)))
 have hfr:=hfr.ext hs
 refine Zg (.int .i64 (0)) rfl rfl ?_
 refine Zb (Zd (Zf (Za (Zy (Gj p1 0) (Zc at_85_0 rfl (PT.ptr q1)) rfl ?_))))
 have q2:=Zm (part_Span_0).1 q1
 refine Ze .plain rfl (Gr (g:=g1) Try.isAgg3 Try.sizeOf3 rfl q2 fun v3 r3=>?_)
 obtain rfl:=Zj.1 r3
 refine Zg (.int .i64 ((x0).Low)) rfl rfl ?_
 refine Zb (Zd (Gw ?_))
 obtain rfl:=sinj h
 exact Wb rfl rfl (show _=.int .i64 ((x0).Low) from rfl) ⟨_,hfr,rfl⟩
def f72 (x0:Wt):Option (Int):=
 some ((x0).High)
theorem en72:Enters Try.prog 72:=enters_of Try.func72 (by kernel_rfl) rfl
theorem wk72 {gI:Gh} {wI:World} {x0:Wt} {up0:Value} (rp0:RV gI.m wI x0 up0) {r:Int} (h:f72 x0=some r):Fn Try.prog 72 #[up0] gI wI (fun _ _ v=>v=.int .i64 (r)):=by
 unfold f72 at h
 refine Tf Try.func72 rfl (Nat.le_of_ble_eq_true rfl) fun g0 hm hfr=>?_
 have rp0:RV g0.m wI x0 up0:=hm ▸ rp0
 show E _ 5 none _ _ _ _ _
 refine Zf (Za (Ze .plain rfl (We (g:=g0) rfl rp0 fun g1 w1 p1 hs q1=>?_)))
 have hfr:=hfr.ext hs
 refine Zg (.int .i64 (0)) rfl rfl ?_
 refine Zb (Zd (Zf (Za (Zy (Gj p1 1) (Zc at_85_1 rfl (PT.ptr q1)) rfl ?_))))
 have q2:=Zm (part_Span_1).1 q1
 refine Ze .plain rfl (Gr (g:=g1) Try.isAgg3 Try.sizeOf3 rfl q2 fun v3 r3=>?_)
 obtain rfl:=Zj.1 r3
 refine Zg (.int .i64 ((x0).High)) rfl rfl ?_
 refine Zb (Zd (Gw ?_))
 obtain rfl:=sinj h
 exact Wb rfl rfl (show _=.int .i64 ((x0).High) from rfl) ⟨_,hfr,rfl⟩
def f75 (x0:Int) (x1:Zv):Option (Int):=
 some ((w64 (x0 + (1:Int))))
theorem en75:Enters Try.prog 75:=enters_of Try.func75 (by kernel_rfl) rfl
theorem wk75 {gI:Gh} {wI:World} {x0:Int} {x1:Zv} {up1:Value} (rp1:RV gI.m wI x1 up1) {r:Int} (h:f75 x0 x1=some r):Fn Try.prog 75 #[.int .i64 (x0),up1] gI wI (fun _ _ v=>v=.int .i64 (r)):=by
 unfold f75 at h
 refine Tf Try.func75 rfl (Nat.le_of_ble_eq_true rfl) fun g0 hm hfr=>?_
 have rp1:RV g0.m wI x1 up1:=hm ▸ rp1
 show E _ 7 none _ _ _ _ _
 refine Zf (Za (Ze .plain rfl (We (g:=g0) rfl rp1 fun g1 w1 p1 hs q1=>?_)))
 have hfr:=hfr.ext hs
 refine Zg (.int .i64 (0)) rfl rfl ?_
 refine Zb (Zd (Zf (Za (Zn (.int .i64 (x0)) rfl rfl ?_))))
 refine Gu (.int .i64 ((w64 (x0 + (1:Int))))) rfl rfl rfl rfl ?_
 refine Zg (.int .i64 ((w64 (x0 + (1:Int))))) rfl rfl ?_
 refine Zb (Zd (Gw ?_))
 obtain rfl:=sinj h
 exact Wb rfl rfl (show _=.int .i64 ((w64 (x0 + (1:Int)))) from rfl) ⟨_,hfr,rfl⟩
def f88 (x0:Gd) (x1:List (List Int)) (x2:Te):Option (Gd × Bool):=
 jn (σ:=Gd × Gd) (fun (iE,uF)=>
  some (iE,false)
  ) fun vF=>
 (idx x1 (x0).group).bind fun g8=>
 lp (σ:=Gd × Gd × Int) (fun xF (u3,v8,o0)=>
  bif (decide (o0 < ((g8).length : Int))) then
   jn (σ:=Gd × Gd) (fun (vC,bD)=>
    xF (vC,bD,(w64 (o0 + (1:Int))))
    ) fun yF=>
   (idx g8 o0).bind fun aB=>
   Option.bind (α:=Bool) (
    bif (aB == (x2).colour) then
     (shr64 (u3).done o0).bind fun y180=>
     some (((bit64 .and y180 (1:Int)) == (0:Int)))
    else
     some (false)
    ) fun l9=>
   bif l9 then
    (shl64 (1:Int) o0).bind fun zD=>
    (f65 ({ { u3 with done:=(bit64 .or (u3).done zD) } with race:=(x2).next }) x1).bind fun aG=>
    some (aG,true)
   else
    yF (u3,v8)
  else
   vF (u3,v8)
  ) big (x0,(⟨0,0,⟨(⟨List.toArray [(⟨List.toArray [0,0,0,0],rfl⟩:Vector Int 4),(⟨List.toArray [0,0,0,0],rfl⟩:Vector Int 4)],rfl⟩:Vector (Vector Int 4) 2),⟨0,0⟩⟩⟩:Gd),(0:Int))
theorem en88:Enters Try.prog 88:=enters_of Try.func88 (by kernel_rfl) rfl
theorem wk88 {gI:Gh} {wI:World} {x0:Gd} {x1:List (List Int)} {x2:Te} {up0:Value} (rp0:RV gI.m wI x0 up0) {up1:Value} (rp1:RV gI.m wI x1 up1) {up2:Value} (rp2:RV gI.m wI x2 up2) {r:Gd × Bool} (h:f88 x0 x1 x2=some r):Fn Try.prog 88 #[up0,up1,up2] gI wI (fun m w v=>∃ y0 y1,v=.tuple #[y0,y1]∧RV m w (r.1) y0∧y1=.bool (r.2)):=by
 unfold f88 at h
 refine Tf Try.func88 rfl (Nat.le_of_ble_eq_true rfl) fun g0 hm hfr=>?_
 have rp0:RV g0.m wI x0 up0:=hm ▸ rp0
 have rp1:RV g0.m wI x1 up1:=hm ▸ rp1
 have rp2:RV g0.m wI x2 up2:=hm ▸ rp2
 show E _ 47 none _ _ _ _ _
 refine Zf (Za (Ze .plain rfl (D_boxO (g:=g0) 2003 rfl rp0 fun g1 w1 p1 hs b1=>?_)))
 have hfr:=hfr.stp hs
 have rp1:=rp1.stp hs
 have rp2:=rp2.stp hs
 refine Ze .plain rfl (We (g:=g1) rfl rp2 fun g2 w2 p2 hs q2=>?_)
 have hfr:=hfr.ext hs
 have rp1:=rp1.ext hs
 have b1:=b1.ext hs
 refine Ze .plain rfl (Gs (g:=g2) 2006 (⟨0,0,⟨(⟨List.toArray [(⟨List.toArray [0,0,0,0],rfl⟩:Vector Int 4),(⟨List.toArray [0,0,0,0],rfl⟩:Vector Int 4)],rfl⟩:Vector (Vector Int 4) 2),⟨0,0⟩⟩⟩:Gd) Try.zeroValue112 (fun m w=>⟨_,(Gg Zx (Gg Zx (Gg (Gt (Zw (Gt (Zw Zx (Zw Zx (Zw Zx (Zw Zx Gm)))) rfl) (Zw (Gt (Zw Zx (Zw Zx (Zw Zx (Zw Zx Gm)))) rfl) Gm)) rfl) (Gg Zx Zx)))),rfl⟩) fun g3 w3 p3 hs b3 cb=>?_)
 have hfr:=hfr.stp hs
 have rp1:=rp1.stp hs
 have b1:=b1.stp hs rfl
 have q2:=q2.stp hs
 clear cb
 refine Zg (.bool false) rfl rfl ?_
 refine Zb (Zd (Zq h (fun (s:Gd × Gd) e w=>∃ (g:Gh) ,Fr gI wI g w∧e 3=p1∧OB 2003 g w 112 (s.1:Gd) p1∧e 6=p3∧OB 2006 g w 112 (s.2:Gd) p3) (fun X109 vF kH h=>?_) ?_))
 ·refine Zf (Za (Zn up1 rfl rfl ?_))
  refine Zy (Gj p1 0) (Zc at_112_0 rfl (OB.ptr b1)) rfl ?_
  refine Ze .plain rfl (Kb (g:=g3) Wx.1 Try.isAgg3 Try.sizeOf3 rfl b1 fun rJ uH=>?_)
  obtain rfl:=Zj.1 uH
  obtain ⟨g8,vE,h⟩:=Gc h
  refine Zy (Qc up1 (x0).group 1) (Zh (α:=List Int) Try.underlying42 Try.sizeOf22 rfl rp1 rfl vE) rfl ?_
  have xH:=Tj rp1 vE
  refine Ze .plain rfl (Gr (g:=g3) Try.isAgg22 Try.sizeOf22 rfl xH fun oB bG=>?_)
  refine Zy (.int .i64 ((g8).length:Int)) (Tw Try.underlying22 rfl bG) rfl ?_
  refine Zn (.int .i64 (0)) rfl rfl ?_
  refine Zb (Zd (Zr ?_))
  refine E_lp h (fun (s:Gd × Gd × Int) e w=>∃ (g:Gh) ,Fr gI wI g w∧e 1=up1∧RV g.m w (x1:List (List Int)) up1∧e 3=p1∧OB 2003 g w 112 (s.1:Gd) p1∧e 5=p2∧PT g.m w (x2:Te) p2∧e 6=p3∧OB 2006 g w 112 (s.2.1:Gd) p3∧e 14=oB∧RV g.m w (g8:List Int) oB∧e 15=.int .i64 (((g8).length:Int))∧e 16=.int .i64 (s.2.2)) ⟨g3,hfr,rfl,rp1,rfl,b1,rfl,q2,rfl,b3,rfl,bG,rfl,rfl⟩ (fun X115 xF lH=>?_)
  rintro ⟨u3,v8,o0⟩ mJ sJ ⟨zB,hfr,lE,mE,vB,lB,cD,yB,lD,nD,cC,nB,uC,n9⟩ h
  refine Zf (Za (Gu (.bool ((decide (o0 < ((g8).length:Int))))) n9 uC rfl rfl ?_))
  refine Zb (Zd (Zf ?_))
  rcases Zt h with ⟨aE,h⟩ | ⟨aE,h⟩
  ·refine Qq aE rfl ?_
   refine Zu (Zd (Zq h (fun (s:Gd × Gd) e w=>∃ (g:Gh) ,Fr gI wI g w∧e 1=up1∧RV g.m w (x1:List (List Int)) up1∧e 3=p1∧OB 2003 g w 112 (s.1:Gd) p1∧e 5=p2∧PT g.m w (x2:Te) p2∧e 6=p3∧OB 2006 g w 112 (s.2:Gd) p3∧e 14=oB∧RV g.m w (g8:List Int) oB∧e 15=.int .i64 (((g8).length:Int))∧e 16=.int .i64 (o0)) (fun X165 yF mH h=>?_) ?_))
   ·refine Zr ?_
    refine Zf (Za (Zo n9 rfl ?_))
    obtain ⟨aB,xE,h⟩:=Gc h
    refine Zy (Qc oB o0 1) (Zh (α:=Int) Try.underlying22 Try.sizeOf3 cC nB n9 xE) rfl ?_
    have yH:=Tj nB xE
    refine Ze .plain rfl (Gr (g:=zB) Try.isAgg3 Try.sizeOf3 rfl yH fun vJ zH=>?_)
    obtain rfl:=Zj.1 zH
    refine Zg (.int .i64 (o0)) rfl rfl ?_
    refine Zg (.int .i64 (aB)) rfl rfl ?_
    refine Zb (Zd ?_)
    obtain ⟨l9,hx,h⟩:=Gc h
    refine Th (fun e w=>∃ (g:Gh) ,Fr gI wI g w∧e 1=up1∧RV g.m w (x1:List (List Int)) up1∧e 3=p1∧OB 2003 g w 112 (u3:Gd) p1∧e 5=p2∧PT g.m w (x2:Te) p2∧e 6=p3∧OB 2006 g w 112 (v8:Gd) p3∧e 8=.int .i64 (o0)∧e 14=oB∧RV g.m w (g8:List Int) oB∧e 15=.int .i64 (((g8).length:Int))∧e 16=.int .i64 (o0)∧e 32=.bool (l9)) (fun Q' hQ=>?_) (fun nJ xJ hR=>?_)
    ·replace h := hx
     clear hx
     refine Za (Zn (.int .i64 (aB)) rfl rfl ?_)
     refine Zy (Gj p2 10) (Zc at_144_1 cD (PT.ptr yB)) rfl ?_
     have aI:=Zm (part_BoxStep_1).1 yB
     refine Ze .plain rfl (Gr (g:=zB) Try.isAgg3 Try.sizeOf3 rfl aI fun zJ bI=>?_)
     obtain rfl:=Zj.1 bI
     refine Gu (.bool ((aB == (x2).colour))) rfl rfl rfl rfl ?_
     refine Zn (.bool ((aB == (x2).colour))) rfl rfl ?_
     rcases Zt h with ⟨t5,h⟩ | ⟨t5,h⟩
     ·refine Zz (Gj p1 1) (Zc at_112_1 vB (OB.ptr lB)) rfl rfl t5 rfl ?_
      refine Ze (.yes2 rfl rfl t5) rfl (Kb (g:=zB) part_BoxPoint_1.1 Try.isAgg3 Try.sizeOf3 rfl lB fun aK dI=>?_)
      obtain rfl:=Zj.1 dI
      refine Zz (.int .i64 (o0)) (Zk rfl) rfl rfl t5 rfl ?_
      obtain ⟨y180,nH,h⟩:=Gc h
      refine Zz (.int .i64 (y180)) (Td rfl rfl (congrArg (Option.map (Value.int .i64)) nH)) rfl rfl t5 rfl ?_
      refine Zz (.int .i64 ((bit64 .and y180 (1:Int)))) (Td rfl rfl rfl) rfl rfl t5 rfl ?_
      refine Zz (.bool (((bit64 .and y180 (1:Int)) == (0:Int)))) (Td rfl rfl rfl) rfl rfl t5 rfl ?_
      refine Zy (.bool (((bit64 .and y180 (1:Int)) == (0:Int)))) (Zl (b:=(aB == (x2).colour)) rfl (Tp t5 rfl)) rfl ?_
      refine Zb ?_
      obtain rfl:=sinj h
      exact hQ _ _ ⟨zB,hfr,lE,mE,vB,lB,cD,yB,lD,nD,rfl,cC,nB,uC,n9,rfl⟩
     ·refine Ga rfl rfl t5 rfl rfl ?_
      iterate 5 refine Ga rfl rfl t5 rfl rfl ?_
      refine Zy (.bool false) (Zl (b:=(aB == (x2).colour)) rfl (Tl t5 rfl)) rfl ?_
      refine Zb ?_
      obtain rfl:=sinj h
      exact hQ _ _ ⟨zB,hfr,lE,mE,vB,lB,cD,yB,lD,nD,rfl,cC,nB,uC,n9,rfl⟩
    ·clear hx
     obtain ⟨cG,hfr,oE,i6,mB,l8,rE,n8,oD,l5,eG,yE,zE,cF,dF,yD⟩:=hR
     rcases Zt h with ⟨bE,h⟩ | ⟨bE,h⟩
     ·refine To (Eq.trans (show ev _ _ = .bool (l9) from yD) (congrArg Value.bool bE)) ?_
      refine Zf (Wg (x:=.tmp 33) part_BoxPoint_1.1 Try.isAgg3 Try.sizeOf3 l8 fun bK iI oH=>?_)
      obtain rfl:=Zj.1 iI
      obtain ⟨zD,pH,h⟩:=Gc h
      refine Tt (g:=cG) (n:=6) [] [0,1,2,3,4,5] rfl Qf (by kernel_rfl) trivial ?_
      refine Gb (Gj p1 1) rfl rfl (Zc at_112_1 mB (OB.ptr l8)) ?_
      refine Gy (c:=.int .i64 ((u3).done)) rfl rfl .plain (fun _ _ h=>⟨h.ch,fun b hb _=>h.below.block b hb⟩) oH rfl ?_
      refine Gb (.int .i64 (o0)) rfl rfl (Zk eG) ?_
      refine Gb (.int .i64 (zD)) rfl rfl (Td rfl rfl (congrArg (Option.map (Value.int .i64)) pH)) ?_
      refine Gb (.int .i64 ((bit64 .or (u3).done zD))) rfl rfl (Td rfl rfl rfl) ?_
      refine Gb (Gj p1 1) rfl rfl (Zc at_112_1 mB (OB.ptr l8)) ?_
      refine L_nl fun jI cK hs=>?_
      have hfr:=hfr.ext hs
      have i6:=i6.ext hs
      have l8:=l8.ext hs
      have n8:=n8.ext hs
      have l5:=l5.ext hs
      clear hs
      refine Ze .plain rfl (D_storeFc (g:=jI) part_BoxPoint_1 Try.sizeOf3 rfl l8 rfl (Zj.2 rfl) fun gG dK hs b203 rst hos=>?_)
      clear rst hos
      have hfr:=hfr.stp hs
      have i6:=i6.stp hs
      have n8:=n8.stp hs
      have l5:=l5.stp hs rfl
      refine Zb (Zd (Zf (Za (Zy (Gj p2 0) (Zc at_144_0 rE (PT.ptr n8)) rfl ?_))))
      have kI:=Zm (part_BoxStep_0).1 n8
      refine Ze .plain rfl (Gr (g:=gG) Try.isAgg108 Try.sizeOf108 rfl kI fun lK lI=>?_)
      refine Zy (Gj p1 2) (Zc at_112_2 mB (OB.ptr b203)) rfl ?_
      refine Ze .plain rfl (D_storeFc (g:=gG) part_BoxPoint_2 Try.sizeOf108 rfl b203 rfl lI fun iG mK hs b207 rst hos=>?_)
      clear rst hos
      have hfr:=hfr.stp hs
      have i6:=i6.stp hs
      have l5:=l5.stp hs rfl
      refine Zb (Zd (Zf (Za (Ze .plain rfl (Qj (g:=iG) Try.isAgg112 Try.sizeOf112 mB b207 fun mI nI=>?_)))))
      refine Zo oE rfl ?_
      obtain ⟨aG,qH,h⟩:=Gc h
      refine Ze .plain rfl (Zp (g:=iG) (vs:=[mI,up1]) en65 (.cons rfl (.cons rfl .nil)) (wk65 nI i6 qH) fun pI oJ qI hs hr=>?_)
      have hfr:=hfr.ext hs
      have l5:=l5.ext hs
      have sI:=hr
      refine Ze .plain rfl (Gk (g:=pI) (v:=qI) Try.sizeOf112 oD l5 rfl sI fun nK oK hs b211 cb=>?_)
      clear cb
      have hfr:=hfr.stp hs
      refine Zg (.bool true) rfl rfl ?_
      refine Zb (Zd (Gw (Qu ?_)))
      refine Tc ?_
      refine Tc ?_
      refine Qu ?_
      refine Tc ?_
      obtain rfl:=sinj h
      obtain ⟨ad212,cv212,hp212,sH,cr212⟩:=Qv Try.isAgg112 Try.sizeOf112 b211
      exact endm_ct rfl rfl ((show _=p3 from oD).trans hp212) sH (show _=.bool true from rfl) ⟨_,hfr,_,_,rfl,cr212,rfl⟩
     ·refine Tk (Eq.trans (show ev _ _ = .bool (l9) from yD) (congrArg Value.bool bE)) ?_
      exact Zu (Qn (Zd (mH (u3,v8) _ _ ⟨cG,hfr,oE,i6,mB,l8,rE,n8,oD,l5,yE,zE,cF,dF⟩ h)))
   ·rintro ⟨vC, bD⟩ pJ pK ⟨jJ, hfr, jG, kG, lG, mG, sG, xG, yG, zG, eF, rF, sF, tF⟩ h
    refine Za (Gu (.int .i64 ((w64 (o0 + (1:Int))))) tF rfl rfl rfl ?_)
    refine Zn (.int .i64 ((w64 (o0 + (1:Int))))) rfl rfl ?_
    exact Zb (Zd (lH (vC,bD,(w64 (o0 + (1:Int)))) _ _ ⟨jJ,hfr,jG,kG,lG,mG,sG,xG,yG,zG,eF,rF,sF,rfl⟩ h))
  ·refine Qr aE rfl ?_
   refine Qm ?_
   refine Tm ?_
   refine Tm ?_
   refine Tu ?_
   exact Zd (kH (u3,v8) _ _ ⟨zB,hfr,vB,lB,lD,nD⟩ h)
 ·rintro ⟨iE, uF⟩ qJ qK ⟨aH, hfr, cH, gH, uE, jH⟩ h
  refine Zf (Za (Ze .plain rfl (Qj (g:=aH) Try.isAgg112 Try.sizeOf112 cH gH fun kJ lJ=>?_)))
  refine Ze .plain rfl (Gk (g:=aH) (v:=kJ) Try.sizeOf112 uE jH rfl lJ fun sK tK hs b216 cb=>?_)
  clear cb
  have hfr:=hfr.stp hs
  refine Zg (.bool false) rfl rfl ?_
  refine Zb (Zd (Gw ?_))
  obtain rfl:=sinj h
  obtain ⟨ad217,cv217,hp217,tH,cr217⟩:=Qv Try.isAgg112 Try.sizeOf112 b216
  exact endm_ct rfl rfl ((show _=p3 from uE).trans hp217) tH (show _=.bool false from rfl) ⟨_,hfr,_,_,rfl,cr217,rfl⟩
def f89 (x0:BoxLoom) (x1:Int) (x2:Int):Option (Int):=
 jn (σ:=Unit) (fun _=>
  some ((-1:Int))
  ) fun zE=>
 lp (σ:=Int) (fun cF o0=>
  jn (σ:=Unit) (fun _=>
   jn (σ:=Unit) (fun _=>
    cF ((w64 (o0 + (1:Int))))
    ) fun uC=>
   Option.bind (α:=Bool) (
    (idx ((x0).Shuttles) o0).bind fun i6=>
    bif ((i6).Side == x1) then
     (idx ((x0).Shuttles) o0).bind fun l9=>
     some (((l9).Box == x2))
    else
     some (false)
    ) fun l5=>
   bif l5 then
    some (o0)
   else
    uC ()
   ) fun dF=>
  bif (decide (o0 < (((x0).Shuttles).length : Int))) then
   dF ()
  else
   zE ()
  ) big ((0:Int))
theorem en89:Enters Try.prog 89:=enters_of Try.func89 (by kernel_rfl) rfl
theorem wk89 {gI:Gh} {wI:World} {x0:BoxLoom} {x1:Int} {x2:Int} {up0:Value} (rp0:RV gI.m wI x0 up0) {r:Int} (h:f89 x0 x1 x2=some r):Fn Try.prog 89 #[up0,.int .i64 (x1),.int .i64 (x2)] gI wI (fun _ _ v=>v=.int .i64 (r)):=by
 unfold f89 at h
 refine Tf Try.func89 rfl (Nat.le_of_ble_eq_true rfl) fun g0 hm hfr=>?_
 have rp0:RV g0.m wI x0 up0:=hm ▸ rp0
 show E _ 34 none _ _ _ _ _
 refine Zf (Za (Ze .plain rfl (We (g:=g0) rfl rp0 fun g1 w1 p1 hs q1=>?_)))
 have hfr:=hfr.ext hs
 refine Zg (.int .i64 (0)) rfl rfl ?_
 refine Zb (Zd (Zq h (fun (s:Unit) e w=>∃ (g:Gh) ,Fr gI wI g w) (fun X71 zE eF h=>?_) ?_))
 ·refine Zf (Za (Zg (.int .i64 (0)) rfl rfl ?_))
  refine Zb (Zd (Zr ?_))
  refine E_lp h (fun (s:Int) e w=>∃ (g:Gh) ,Fr gI wI g w∧e 1=.int .i64 (x1)∧e 2=.int .i64 (x2)∧e 3=p1∧PT g.m w (x0:BoxLoom) p1∧e 7=.int .i64 (s)) ⟨g1,hfr,rfl,rfl,rfl,q1,rfl⟩ (fun X72 cF rF=>?_)
  rintro o0 lG gH ⟨vC,hfr,vE,xE,vB,n9,yB⟩ h
  refine Zq h (fun (s:Unit) e w=>∃ (g:Gh) ,Fr gI wI g w∧e 1=.int .i64 (x1)∧e 2=.int .i64 (x2)∧e 3=p1∧PT g.m w (x0:BoxLoom) p1∧e 7=.int .i64 (o0)) (fun X77 dF sF h=>?_) ?_
  ·refine Zf (Za (Zo yB rfl ?_))
   refine Zy (Gj p1 2) (Zc Qk vB (PT.ptr n9)) rfl ?_
   have eG:=Zm (Gx).1 n9
   refine Ze .plain rfl (Gr (g:=vC) Try.isAgg23 Try.sizeOf23 rfl eG fun jH gG=>?_)
   refine Zy (.int .i64 (((x0).Shuttles).length:Int)) (Tw Try.underlying23 rfl gG) rfl ?_
   refine Zy (.bool ((decide (o0 < (((x0).Shuttles).length:Int))))) (Td rfl rfl rfl) rfl ?_
   refine Zb (Zd ?_)
   rcases Zt h with ⟨oB,h⟩ | ⟨oB,h⟩
   ·refine Qq oB rfl ?_
    exact Zu (Zd (sF () _ _ ⟨vC,hfr,vE,xE,vB,n9,yB⟩ h))
   ·refine Qr oB rfl ?_
    refine Qm ?_
    refine Tm ?_
    refine Tm ?_
    refine Tu ?_
    exact Zd (eF () _ _ ⟨vC,hfr⟩ h)
  ·rintro _ mG kH ⟨n8, hfr, aB, lB, g8, t5, l8⟩ h
   refine Zq h (fun (s:Unit) e w=>∃ (g:Gh) ,Fr gI wI g w∧e 1=.int .i64 (x1)∧e 2=.int .i64 (x2)∧e 3=p1∧PT g.m w (x0:BoxLoom) p1∧e 7=.int .i64 (o0)) (fun X110 uC yE h=>?_) ?_
   ·refine Zr ?_
    obtain ⟨l5,hx,h⟩:=Gc h
    refine Th (fun e w=>∃ (g:Gh) ,Fr gI wI g w∧e 1=.int .i64 (x1)∧e 2=.int .i64 (x2)∧e 3=p1∧PT g.m w (x0:BoxLoom) p1∧e 7=.int .i64 (o0)∧e 32=.bool (l5)) (fun Q' hQ=>?_) (fun iG sG hR=>?_)
    ·replace h := hx
     clear hx
     refine Za (Zy (Gj p1 2) (Zc Qk g8 (PT.ptr t5)) rfl ?_)
     have tF:=Zm (Gx).1 t5
     refine Ze .plain rfl (Gr (g:=n8) Try.isAgg23 Try.sizeOf23 rfl tF fun bD cD=>?_)
     refine Zo l8 rfl ?_
     obtain ⟨i6,zB,h⟩:=Gc h
     refine Zy (Qc bD o0 5) (Zh (α:=Zv) Try.underlying23 Try.sizeOf87 rfl cD rfl zB) rfl ?_
     have lD:=Tj cD zB
     refine Zy (Gj (Qc bD o0 5) 1) (Zc Ww rfl (PT.ptr lD)) rfl ?_
     have uF:=Zm (Qt).1 lD
     refine Ze .plain rfl (Gr (g:=n8) Try.isAgg3 Try.sizeOf3 rfl uF fun xG vF=>?_)
     obtain rfl:=Zj.1 vF
     refine Zo aB rfl ?_
     refine Gu (.bool (((i6).Side == x1))) rfl rfl rfl rfl ?_
     refine Zn (.bool (((i6).Side == x1))) rfl rfl ?_
     rcases Zt h with ⟨u3,h⟩ | ⟨u3,h⟩
     ·refine Zz (Gj p1 2) (Zc Qk g8 (PT.ptr t5)) rfl rfl u3 rfl ?_
      have xF:=Zm (Gx).1 t5
      refine Ze (.yes2 rfl rfl u3) rfl (Gr (g:=n8) Try.isAgg23 Try.sizeOf23 rfl xF fun nD oD=>?_)
      refine Zz (.int .i64 (o0)) (Zk l8) rfl rfl u3 rfl ?_
      obtain ⟨l9,cC,h⟩:=Gc h
      refine Zz (Qc nD o0 5) (Zh (α:=Zv) Try.underlying23 Try.sizeOf87 rfl oD rfl cC) rfl rfl u3 rfl ?_
      have yD:=Tj oD cC
      refine Zz (Gj (Qc nD o0 5) 2) (Zc at_87_2 rfl (PT.ptr yD)) rfl rfl u3 rfl ?_
      have yF:=Zm (Wl).1 yD
      refine Ze (.yes2 rfl rfl u3) rfl (Gr (g:=n8) Try.isAgg3 Try.sizeOf3 rfl yF fun yG aG=>?_)
      obtain rfl:=Zj.1 aG
      refine Zz (.int .i64 (x2)) (Zk lB) rfl rfl u3 rfl ?_
      refine Zz (.bool (((l9).Box == x2))) (Td rfl rfl rfl) rfl rfl u3 rfl ?_
      refine Zy (.bool (((l9).Box == x2))) (Zl (b:=((i6).Side == x1)) rfl (Tp u3 rfl)) rfl ?_
      refine Zb ?_
      obtain rfl:=sinj h
      exact hQ _ _ ⟨n8,hfr,aB,lB,g8,t5,l8,rfl⟩
     ·refine Ga rfl rfl u3 rfl rfl ?_
      iterate 7 refine Ga rfl rfl u3 rfl rfl ?_
      refine Zy (.bool false) (Zl (b:=((i6).Side == x1)) rfl (Tl u3 rfl)) rfl ?_
      refine Zb ?_
      obtain rfl:=sinj h
      exact hQ _ _ ⟨n8,hfr,aB,lB,g8,t5,l8,rfl⟩
    ·clear hx
     obtain ⟨bG,hfr,zD,aE,bE,iE,nB,v8⟩:=hR
     rcases Zt h with ⟨mB,h⟩ | ⟨mB,h⟩
     ·refine To (Eq.trans (show ev _ _ = .bool (l5) from v8) (congrArg Value.bool mB)) ?_
      refine Zf (Za (Zo nB rfl ?_))
      refine Zg (.int .i64 (o0)) rfl rfl ?_
      refine Zb (Zd (Gw (Qu ?_)))
      refine Tc ?_
      refine Tc ?_
      refine Qu ?_
      refine Tc ?_
      obtain rfl:=sinj h
      exact Wb rfl rfl (show _=.int .i64 (o0) from rfl) ⟨_,hfr,rfl⟩
     ·refine Tk (Eq.trans (show ev _ _ = .bool (l5) from v8) (congrArg Value.bool mB)) ?_
      exact Zu (Qn (Zd (yE () _ _ ⟨bG,hfr,zD,aE,bE,iE,nB⟩ h)))
   ·rintro _ jG zG ⟨cG, hfr, lE, mE, oE, rE, uE⟩ h
    refine Za (Zo uE rfl ?_)
    refine Gu (.int .i64 ((w64 (o0 + (1:Int))))) rfl rfl rfl rfl ?_
    refine Zg (.int .i64 ((w64 (o0 + (1:Int))))) rfl rfl ?_
    exact Zb (Zd (rF ((w64 (o0 + (1:Int)))) _ _ ⟨cG,hfr,lE,mE,oE,rE,rfl⟩ h))
 ·rintro _ kG aH ⟨cH, hfr⟩ h
  refine Zf (Za (Zg (.int .i64 (-1)) rfl rfl ?_))
  refine Zb (Zd (Gw ?_))
  obtain rfl:=sinj h
  exact Wb rfl rfl (show _=.int .i64 (-1) from rfl) ⟨_,hfr,rfl⟩
def f90 (x0:List (List Int)) (x1:(List Int)→Option Bool):Option (Int):=
 jn (σ:=Unit) (fun _=>
  some ((-1:Int))
  ) fun k18=>
 lp (σ:=Int) (fun k19 o0=>
  bif (decide (o0 < ((x0).length : Int))) then
   jn (σ:=Unit) (fun _=>
    k19 ((w64 (o0 + (1:Int))))
    ) fun k28=>
   (idx x0 o0).bind fun oB=>
   (x1 oB).bind fun vB=>
   bif vB then
    some (o0)
   else
    k28 ()
  else
   k18 ()
  ) big ((0:Int))
theorem en90:Enters Try.prog 90:=enters_of Try.func90 (by kernel_rfl) rfl
theorem wk90 {gI:Gh} {wI:World} {x0:List (List Int)} {x1:(List Int)→Option Bool} {up0:Value} (rp0:RV gI.m wI x0 up0) {up1:Value} (rp1:FnV1 Try.prog x1 up1 gI wI) {r:Int} (h:f90 x0 x1=some r):Fn Try.prog 90 #[up0,up1] gI wI (fun _ _ v=>v=.int .i64 (r)):=by
 unfold f90 at h
 refine Tf Try.func90 rfl (Nat.le_of_ble_eq_true rfl) fun g0 hm hfr=>?_
 have rp0:RV g0.m wI x0 up0:=hm ▸ rp0
 obtain ⟨ff1,fa1,fc1,rfl,fen1,fcl1⟩:=rp1
 show E _ 19 none _ _ _ _ _
 refine Zf (Za (Zg (.int .i64 (0)) rfl rfl ?_))
 refine Zb (Zd (Zq h (fun (s:Unit) e w=>∃ (g:Gh) ,Fr gI wI g w) (fun X18 k18 yB h=>?_) ?_))
 ·refine Zf (Za (Zn up0 rfl rfl ?_))
  refine Zy (.int .i64 ((x0).length:Int)) (Tw Try.underlying42 rfl rp0) rfl ?_
  refine Zn (.int .i64 (0)) rfl rfl ?_
  refine Zb (Zd (Zr ?_))
  refine E_lp h (fun (s:Int) e w=>∃ (g:Gh) ,Fr gI wI g w∧e 0=up0∧RV g.m w (x0:List (List Int)) up0∧e 1=(.func (.func ff1) fa1 fc1)∧e 7=.int .i64 (((x0).length:Int))∧e 8=.int .i64 (s)) ⟨g0,hfr,rfl,rp0,rfl,rfl,rfl⟩ (fun X19 k19 zB=>?_)
  rintro o0 oD aE ⟨v8,hfr,g8,u3,l8,n8,l5⟩ h
  refine Zf (Za (Gu (.bool ((decide (o0 < ((x0).length:Int))))) l5 n8 rfl rfl ?_))
  refine Zb (Zd (Zf ?_))
  rcases Zt h with ⟨t5,h⟩ | ⟨t5,h⟩
  ·refine Qq t5 rfl ?_
   refine Zu (Zd (Zq h (fun (s:Unit) e w=>∃ (g:Gh) ,Fr gI wI g w∧e 0=up0∧RV g.m w (x0:List (List Int)) up0∧e 1=(.func (.func ff1) fa1 fc1)∧e 7=.int .i64 (((x0).length:Int))∧e 8=.int .i64 (o0)) (fun X28 k28 cC h=>?_) ?_))
   ·refine Zr ?_
    refine Zf (Za (Zo l5 rfl ?_))
    refine Zg (.int .i64 (o0)) rfl rfl ?_
    refine Zb (Zd (Zf (Za (Zo l8 rfl ?_))))
    refine Zo g8 rfl ?_
    refine Zn (.int .i64 (o0)) rfl rfl ?_
    obtain ⟨oB,l9,h⟩:=Gc h
    refine Zy (Qc up0 o0 1) (Zh (α:=List Int) Try.underlying42 Try.sizeOf22 rfl u3 rfl l9) rfl ?_
    have vC:=Tj u3 l9
    refine Ze .plain rfl (Gr (g:=v8) Try.isAgg22 Try.sizeOf22 rfl vC fun bD cD=>?_)
    obtain ⟨vB,uC,h⟩:=Gc h
    refine Ze .plain rfl (D_callv (g:=v8) (vs:=[bD]) rfl fen1 (.cons rfl .nil) (fcl1 _ _ hfr.ch _ _ _  cD uC) fun lD bE iE hs hr=>?_)
    have hfr:=hfr.ext hs
    have u3:=u3.ext hs
    obtain rfl:=RV_bool.1 hr
    refine Zb (Zd ?_)
    rcases Zt h with ⟨i6,h⟩ | ⟨i6,h⟩
    ·refine Qq i6 rfl ?_
     refine Zf (Za (Zn (.int .i64 (o0)) rfl rfl ?_))
     refine Zg (.int .i64 (o0)) rfl rfl ?_
     refine Zb (Zd (Gw (Qu ?_)))
     refine Tc ?_
     refine Tc ?_
     refine Qu ?_
     refine Tc ?_
     obtain rfl:=sinj h
     exact Wb rfl rfl (show _=.int .i64 (o0) from rfl) ⟨_,hfr,rfl⟩
    ·refine Qr i6 rfl ?_
     exact Zu (Qn (Zd (cC () _ _ ⟨lD,hfr,g8,u3,l8,n8,l5⟩ h)))
   ·rintro _ yD lE ⟨nD, hfr, n9, aB, lB, mB, nB⟩ h
    refine Za (Gu (.int .i64 ((w64 (o0 + (1:Int))))) nB rfl rfl rfl ?_)
    refine Zn (.int .i64 ((w64 (o0 + (1:Int))))) rfl rfl ?_
    exact Zb (Zd (zB ((w64 (o0 + (1:Int)))) _ _ ⟨nD,hfr,n9,aB,lB,mB,rfl⟩ h))
  ·refine Qr t5 rfl ?_
   refine Qm ?_
   refine Tm ?_
   refine Tm ?_
   refine Tu ?_
   exact Zd (yB () _ _ ⟨v8,hfr⟩ h)
 ·rintro _ zD mE ⟨oE, hfr⟩ h
  refine Zf (Za (Zg (.int .i64 (-1)) rfl rfl ?_))
  refine Zb (Zd (Gw ?_))
  obtain rfl:=sinj h
  exact Wb rfl rfl (show _=.int .i64 (-1) from rfl) ⟨_,hfr,rfl⟩
def f91 (x1:Int):Option ((List Int)):=
 Option.bind (α:=Unit) (
  bif (decide (x1 < (0 : Int))) then
   none
  else
   some ()
  ) fun (_:Unit)=>
 Option.bind (α:=(List Int)) (
  bif (decide ((w64 (x1 - (w64 (((0 : Nat) : Int) - ((([] : List Int)).length : Int))))) > (0 : Int))) then
   (grwz 8 ((w64 (x1 - (w64 (((0:Nat):Int) - ((([]:List Int)).length:Int))))))).bind fun _=>
   some (([]:List Int))
  else
   some (([]:List Int))
  ) fun l5=>
 some (l5)
theorem en91:Enters Try.prog 91:=enters_of Try.func91 (by kernel_rfl) rfl
theorem wk91 {iO:Nat} {gI:Gh} {wI:World} {x1:Int}  {r:(List Int)} (h:f91 x1=some r):FnG Try.prog 91 #[.slice none 0 0,.int .i64 (x1)] gI wI (fun g w v=>OS iO g w 3 r v∧RV g.m w r v):=by
 unfold f91 at h
 refine fnG_of_E Try.func91 rfl (Nat.le_of_ble_eq_true rfl) fun g0 hm hfr=>?_
 show E _ 27 none _ _ _ _ _
 refine Zf (Za (Zg (.slice none 0 0) rfl rfl ?_))
 refine Zb (Zd ?_)
 obtain ⟨_,hx,h⟩:=Gc h
 refine Th (fun e w=>∃ (g:Gh) ,Fr gI wI g w∧e 0=.slice none 0 0∧RV g.m w (([]:List Int):List Int) (Value.slice none 0 0)∧e 1=.int .i64 (x1)) (fun Q' hQ=>?_) (fun n9 w3 hR=>?_)
 ·replace h := hx
  clear hx
  refine Zf (Za (Zn (.int .i64 (x1)) rfl rfl ?_))
  refine Gu (.bool ((decide (x1 < (0:Int))))) rfl rfl rfl rfl ?_
  refine Zb (Zd ?_)
  rcases Zt h with ⟨hc2,h⟩ | ⟨hc2,h⟩
  ·refine Qq hc2 rfl ?_
   refine Za ?_
   cases h
  ·refine Qr hc2 rfl ?_
   refine Zu ?_
   obtain rfl:=sinj h
   exact hQ _ _ ⟨g0,hfr,rfl,RV_nil,rfl⟩
 ·clear hx
  obtain ⟨g3,hfr,o0,u3,i6⟩:=hR
  obtain ⟨l5,hx,h⟩:=Gc h
  refine Th (fun e w=>∃ (g:Gh) (v0:Value),Fr gI wI g w∧e 0=v0∧RV g.m w (l5:List Int) v0∧OS 4022 g w 3 (l5:List Int) v0) (fun Q' hQ=>?_) (fun aB w8 hR=>?_)
  ·replace h := hx
   clear hx
   refine Zf (Za (Zo i6 rfl ?_))
   refine Zo o0 rfl ?_
   refine Zy (.int .i64 ((0:Nat):Int)) (P_cap Try.underlying22 rfl) rfl ?_
   refine Zo o0 rfl ?_
   refine Zy (.int .i64 ((([]:List Int)).length:Int)) (Tw Try.underlying22 rfl u3) rfl ?_
   refine Zy (.int .i64 ((w64 (((0:Nat):Int) - ((([]:List Int)).length:Int))))) (Td rfl rfl rfl) rfl ?_
   refine Zy (.int .i64 ((w64 (x1 - (w64 (((0:Nat):Int) - ((([]:List Int)).length:Int))))))) (Td rfl rfl rfl) rfl ?_
   refine Zy (.int .i64 ((w64 (x1 - (w64 (((0:Nat):Int) - ((([]:List Int)).length:Int))))))) (Tg rfl) rfl ?_
   refine Zb (Zd (Zf (Za (Zy (.int .i64 ((w64 (x1 - (w64 (((0:Nat):Int) - ((([]:List Int)).length:Int))))))) (Zk rfl) rfl ?_))))
   refine Zy (.bool ((decide ((w64 (x1 - (w64 (((0:Nat):Int) - ((([]:List Int)).length:Int))))) > (0:Int))))) (Td rfl rfl rfl) rfl ?_
   refine Zb (Zd ?_)
   rcases Zt h with ⟨hc6,h⟩ | ⟨hc6,h⟩
   ·refine Qq hc6 rfl ?_
    refine Za (Zo o0 rfl ?_)
    refine Zo o0 rfl ?_
    refine Zy (.int .i64 ((0:Nat):Int)) (P_cap Try.underlying22 rfl) rfl ?_
    refine Zy (.slice none 0 0) (P_cutN Try.underlying22 Try.sizeOf3 rfl rfl (fun p hp=>by cases hp)) rfl ?_
    refine Zy (.int .i64 ((w64 (x1 - (w64 (((0:Nat):Int) - ((([]:List Int)).length:Int))))))) (Zk rfl) rfl ?_
    obtain ⟨y7,l9,h⟩:=Gc h
    refine Ze .plain rfl (D_growZ (g:=g3) (α:=Int) 4022 Try.underlying22 Try.underlying3 info_3 rfl (Nat.le_of_ble_eq_true rfl) rfl rfl l9 fun g7 w7 b7 c7 m7 hs o7 r7=>?_)
    have hfr:=hfr.stp hs
    have u3:=u3.stp hs
    refine Zo o0 rfl ?_
    refine Zy (.int .i64 ((([]:List Int)).length:Int)) (Tw Try.underlying22 rfl u3) rfl ?_
    refine Zy ((.slice (some ⟨b7,0,none⟩) 0 c7)) (P_cutN Try.underlying22 Try.sizeOf3 rfl rfl (fun p hp=>by cases hp; rfl)) rfl ?_
    refine Zg ((.slice (some ⟨b7,0,none⟩) 0 c7)) rfl rfl ?_
    refine Zb ?_
    obtain rfl:=sinj h
    exact hQ _ _ ⟨g7,((.slice (some ⟨b7,0,none⟩) 0 c7)),hfr,rfl,r7,o7⟩
   ·refine Qr hc6 rfl ?_
    refine Zu ?_
    obtain rfl:=sinj h
    exact hQ _ _ ⟨g3,(.slice none 0 0),hfr,o0,u3,OS.nil⟩
  ·clear hx
   obtain ⟨g8,t5,hfr,l8,n8,v8⟩:=hR
   refine Zf (Za (Zo l8 rfl ?_))
   refine Zg t5 rfl rfl ?_
   refine Zb (Zd (Gw ?_))
   obtain rfl:=sinj h
   obtain ⟨gh,hxh,homh,hrvh⟩:=OS.handn (i:=iO) hfr v8 n8
   exact Wb rfl rfl (show _=t5 from rfl) ⟨gh,hxh,homh,hrvh⟩
def f92 : Nat → (List Int) → Option ((List (List Int)))
 | 0,_=>none
 | n + 1,x0=>
  jn (σ:=Unit) (fun _=>
   Option.bind (α:=(List (List Int))) (
    lp (σ:=(List (List Int)) × Int) (fun jG (nB,o0)=>
     jn (σ:=Unit) (fun _=>
      Option.bind (α:=(List (List Int))) (
       (cut x0 0 o0).bind fun kG=>
       (apnd 8 (([]:List Int)) kG).bind fun lB=>
       (cut x0 (w64 (o0 + (1:Int))) ((x0).length:Int)).bind fun lG=>
       (apnd 8 lB lG).bind fun mG=>
       (f92 n mG).bind fun oB=>
       lp (σ:=(List (List Int)) × Int) (fun sG (vB,t5)=>
        jn (σ:=Unit) (fun _=>
         Option.bind (α:=(List (List Int))) (
          (idx x0 o0).bind fun l5=>
          (idx oB t5).bind fun xG=>
          (apnd 8 (([l5]:List Int)) xG).bind fun u3=>
          (apnd 24 vB (([u3]:List (List Int)))).bind fun yG=>
          some (yG)
          ) fun yB=>
         sG (yB,(w64 (t5 + (1:Int))))
         ) fun zG=>
        bif (decide (t5 < ((oB).length : Int))) then
         zG ()
        else
         some (vB)
        ) big (nB,(0:Int))
       ) fun zB=>
      jG (zB,(w64 (o0 + (1:Int))))
      ) fun aH=>
     bif (decide (o0 < ((x0).length : Int))) then
      aH ()
     else
      some (nB)
     ) big (([]:List (List Int)),(0:Int))
    ) fun bD=>
   some (bD)
   ) fun k4=>
  bif (((x0).length : Int) == (0 : Int)) then
   some (([([]:List Int)]:List (List Int)))
  else
   k4 ()
theorem en92:Enters Try.prog 92:=enters_of Try.func92 (by kernel_rfl) rfl
theorem wk92 (n:Nat):∀ {gI:Gh} {wI:World} {x0:List Int} {up0:Value} (rp0:RV gI.m wI x0 up0) {r:(List (List Int))} (h:f92 n x0=some r),Fn Try.prog 92 #[up0] gI wI (fun m w v=>RV m w (r) v):=by
 induction n with
 | zero=>intros; rename_i h; cases h
 | succ n ih=>
 intro gI wI x0 up0 rp0 r h
 simp only [f92] at h
 refine Tf Try.func92 rfl (Nat.le_of_ble_eq_true rfl) fun g0 hm hfr=>?_
 have rp0:RV g0.m wI x0 up0:=hm ▸ rp0
 show E _ 50 none _ _ _ _ _
 refine Zf (Za (Zg (.slice none 0 0) rfl rfl ?_))
 refine Zb (Zd (Zq h (fun (s:Unit) e w=>∃ (g:Gh) ,Fr gI wI g w∧e 0=up0∧RV g.m w (x0:List Int) up0) (fun X4 k4 hk4 h=>?_) ?_))
 ·refine Zf (Za (Zn up0 rfl rfl ?_))
  refine Zy (.int .i64 ((x0).length:Int)) (Tw Try.underlying22 rfl rp0) rfl ?_
  refine Gu (.bool ((((x0).length:Int) == (0:Int)))) rfl rfl rfl rfl ?_
  refine Zb (Zd ?_)
  rcases Zt h with ⟨hc5,h⟩ | ⟨hc5,h⟩
  ·refine Qq hc5 rfl ?_
   refine Zf (Za (Ze .plain rfl (Gi (g:=g0) 3010 (xs:=([]:List Int)) (vs:=[]) Try.underlying22 Try.sizeOf3 Try.zeroValue3 rfl rfl .nil RVs.nil rfl rfl fun g6 w6 v6 hs o6 r6 hxt hfl=>?_)))
   have hfr:=hfr.stp hs
   refine Ze .plain rfl (Gi (g:=g6) 3011 (xs:=([([]:List Int)]:List (List Int))) (vs:=[v6]) Try.underlying42 Try.sizeOf22 Try.zeroValue22 rfl rfl (.cons rfl .nil) (RVs.cons r6 RVs.nil) rfl rfl fun g7 w7 v7 hs o7 r7 hxt hfl=>?_)
   have hfr:=hfr.stp hs
   refine Zg v7 rfl rfl ?_
   refine Zb (Zd (Gw (Tc ?_)))
   obtain rfl:=sinj h
   exact Wb rfl rfl (show _=v7 from rfl) ⟨_,hfr,r7⟩
  ·refine Qr hc5 rfl ?_
   exact Zu (Zd (hk4 () _ _ ⟨g0,hfr,rfl,rp0⟩ h))
 ·rintro _ rM w8 ⟨g8, hfr, qJ, aG⟩ h
  refine Zf (Za (Ze .plain rfl (Gi (g:=g8) 3012 (xs:=([]:List (List Int))) (vs:=[]) Try.underlying42 Try.sizeOf22 Try.zeroValue22 rfl rfl .nil RVs.nil rfl rfl fun g9 w9 v9 hs o9 r9 hxt hfl=>?_)))
  have hfr:=hfr.stp hs
  have aG:=aG.stp hs
  refine Zg v9 rfl rfl ?_
  refine Zb (Zd ?_)
  obtain ⟨bD,hx,h⟩:=Gc h
  refine Th (fun e w=>∃ (g:Gh) (v3:Value),Fr gI wI g w∧e 3=v3∧RV g.m w (bD:List (List Int)) v3∧OS 3012 g w 22 (bD:List (List Int)) v3) (fun Q' hQ=>?_) (fun aL mL hR=>?_)
  ·replace h := hx
   clear hx
   refine Zf (Za (Zg (.int .i64 (0)) rfl rfl ?_))
   refine Zb (Zd (Zr ?_))
   refine E_lp h (fun (s:(List (List Int)) × Int) e w=>∃ (g:Gh) (v3:Value),Fr gI wI g w∧e 0=up0∧RV g.m w (x0:List Int) up0∧e 3=v3∧RV g.m w (s.1:List (List Int)) v3∧OS 3012 g w 22 (s.1:List (List Int)) v3∧e 4=.int .i64 (s.2)) ⟨g9,(v9),hfr,qJ,aG,rfl,r9,o9,rfl⟩ (fun X200 jG nI=>?_)
   rintro ⟨nB,o0⟩ bL nL ⟨cH,cC,hfr,iE,lE,mE,oE,rE,uE⟩ h
   refine Zq h (fun (s:Unit) e w=>∃ (g:Gh) ,Fr gI wI g w∧e 0=up0∧RV g.m w (x0:List Int) up0∧e 3=cC∧RV g.m w (nB:List (List Int)) cC∧OS 3012 g w 22 (nB:List (List Int)) cC∧e 4=.int .i64 (o0)) (fun X203 aH pI h=>?_) ?_
   ·refine Zf (Za (Zo uE rfl ?_))
    refine Zo iE rfl ?_
    refine Zy (.int .i64 ((x0).length:Int)) (Tw Try.underlying22 rfl lE) rfl ?_
    refine Gu (.bool ((decide (o0 < ((x0).length:Int))))) rfl rfl rfl rfl ?_
    refine Zb (Zd ?_)
    rcases Zt h with ⟨zD,h⟩ | ⟨zD,h⟩
    ·refine Qq zD rfl ?_
     exact Zu (Zd (pI () _ _ ⟨cH,hfr,iE,lE,mE,oE,rE,uE⟩ h))
    ·refine Qr zD rfl ?_
     refine Qm ?_
     refine Tm ?_
     refine Tm ?_
     refine Tu ?_
     obtain rfl:=sinj h
     exact hQ _ _ ⟨cH,(cC),hfr,mE,oE,rE⟩
   ·rintro _ dL oL ⟨rJ, hfr, lD, i6, gH, v8, l9, nD⟩ h
    obtain ⟨zB,hx,h⟩:=Gc h
    refine Th (fun e w=>∃ (g:Gh) (v3:Value),Fr gI wI g w∧e 0=up0∧RV g.m w (x0:List Int) up0∧e 3=v3∧RV g.m w (zB:List (List Int)) v3∧OS 3012 g w 22 (zB:List (List Int)) v3∧e 4=.int .i64 (o0)) (fun Q' hQ=>?_) (fun eL xL hR=>?_)
    ·replace h := hx
     clear hx
     refine Zr ?_
     refine Zf ?_
     obtain ⟨kG,cG,h⟩:=Gc h
     have sJ:=RV_cut i6 cG
     obtain ⟨lB,qI,h⟩:=Gc h
     obtain ⟨lG,eG,h⟩:=Gc h
     have bG:=RV_cut i6 eG
     refine Tt (g:=rJ) (n:=9) [(0,(fun v g w=>RV g.m w ([]:List Int) v∧OS 3019 g w 3 ([]:List Int) v∧Gn v)),(4,(fun v g w=>RV g.m w lB v∧OS 3019 g w 3 lB v))] [0,1,2,3,4,5,6,7,8] rfl Qf (by kernel_rfl) (⟨fun _=>Ti Wy (Ti up_os (Tr _)),fun _=>Ti Wy up_os,trivial⟩) ?_
     refine Qa (φ:=fun v g w=>RV g.m w ([]:List Int) v∧OS 3019 g w 3 ([]:List Int) v∧Gn v) rfl rfl .plain (fun g w hd=>Gi (g:=g) 3019 (xs:=([]:List Int)) (vs:=[]) Try.underlying22 Try.sizeOf3 Try.zeroValue3 rfl rfl .nil RVs.nil rfl rfl fun g' w' v hs o r hxt hfl=>⟨g',hxt,r,o,hfl⟩) (fun l8 hv=>?_)
     clear hv
     refine Gb up0 rfl rfl (Zk lD) ?_
     refine Gb (.int .i64 (o0)) rfl rfl (Zk nD) ?_
     refine Gb ((cutV up0 (Int.toNat 0) (Int.toNat o0) 1)) rfl rfl (P_slice Try.underlying22 Try.sizeOf3 rfl i6 rfl rfl cG) ?_
     refine Qa (φ:=fun v g w=>RV g.m w lB v∧OS 3019 g w 3 lB v) rfl rfl .plain (fun g w hd=>Ke (g:=g) (i:=3019) Try.underlying22 info_3 rfl rfl (word (A:=fun g w=>RV g.m w ([]:List Int) l8∧OS 3019 g w 3 ([]:List Int) l8∧Gn l8) 0 rfl rfl (Tv hd)).2.1 (word (A:=fun g w=>RV g.m w ([]:List Int) l8∧OS 3019 g w 3 ([]:List Int) l8∧Gn l8) 0 rfl rfl (Tv hd)).1 rfl (sJ.ext hd.1) qI fun g' w' v hs o r hf=>⟨g',hf (word (A:=fun g w=>RV g.m w ([]:List Int) l8∧OS 3019 g w 3 ([]:List Int) l8∧Gn l8) 0 rfl rfl (Tv hd)).2.2,r,o⟩) (fun aE hv=>?_)
     clear hv
     refine Gb up0 rfl rfl (Zk lD) ?_
     refine Gb (.int .i64 (o0)) rfl rfl (Zk nD) ?_
     refine Gb (.int .i64 ((w64 (o0 + (1:Int))))) rfl rfl (Td rfl rfl rfl) ?_
     refine Gb ((cutV up0 (Int.toNat (w64 (o0 + (1:Int)))) (Int.toNat ((x0).length:Int)) 1)) rfl rfl (P_slice Try.underlying22 Try.sizeOf3 rfl i6 rfl rfl eG) ?_
     refine L_nil fun vJ yL hall=>?_
     have hs:=hall.1
     have hfr:=hfr.ext hs
     have i6:=i6.ext hs
     have v8:=v8.ext hs
     have l9:=l9.ext hs
     have bG:=bG.ext hs
     have zL:=(Gl (A:=fun g w=>RV g.m w ([]:List Int) l8∧OS 3019 g w 3 ([]:List Int) l8∧Gn l8) 0 rfl hall).1
     have o308:=(Gl (A:=fun g w=>RV g.m w ([]:List Int) l8∧OS 3019 g w 3 ([]:List Int) l8∧Gn l8) 0 rfl hall).2.1
     have xJ:=(Gl (A:=fun g w=>RV g.m w lB aE∧OS 3019 g w 3 lB aE) 4 rfl hall).1
     have o312:=(Gl (A:=fun g w=>RV g.m w lB aE∧OS 3019 g w 3 lB aE) 4 rfl hall).2
     clear hs hall
     obtain ⟨mG,sI,h⟩:=Gc h
     refine Ze .plain rfl (Ke (g:=vJ) (i:=3019) Try.underlying22 info_3 rfl rfl o312 xJ rfl bG sI fun zJ aM aK hs o317 bK _=>?_)
     have hfr:=hfr.stp hs
     have i6:=i6.stp hs
     have v8:=v8.stp hs
     have l9:=l9.stp hs rfl
     obtain ⟨oB,jJ,h⟩:=Gc h
     refine Ze .plain rfl (Zp (g:=zJ) (vs:=[aK]) en92 (.cons rfl .nil) (ih bK jJ) fun cK gL mB hs hr=>?_)
     have hfr:=hfr.ext hs
     have i6:=i6.ext hs
     have v8:=v8.ext hs
     have l9:=l9.ext hs
     have dK:=hr
     refine Zg mB rfl rfl ?_
     refine Zb (Zd (Zf (Za (Zg (.int .i64 (0)) rfl rfl ?_))))
     refine Zb (Zd (Zr ?_))
     refine E_lp h (fun (s:(List (List Int)) × Int) e w=>∃ (g:Gh) (v3:Value),Fr gI wI g w∧e 0=up0∧RV g.m w (x0:List Int) up0∧e 3=v3∧RV g.m w (s.1:List (List Int)) v3∧OS 3012 g w 22 (s.1:List (List Int)) v3∧e 4=.int .i64 (o0)∧e 5=mB∧RV g.m w (oB:List (List Int)) mB∧e 6=.int .i64 (s.2)) ⟨cK,(cC),hfr,lD,i6,gH,v8,l9,nD,rfl,dK,rfl⟩ (fun X321 sG kJ=>?_)
     rintro ⟨vB,t5⟩ iL bM ⟨jH,uC,hfr,vE,xE,yE,zE,cF,dF,eF,rF,sF⟩ h
     refine Zq h (fun (s:Unit) e w=>∃ (g:Gh) ,Fr gI wI g w∧e 0=up0∧RV g.m w (x0:List Int) up0∧e 3=uC∧RV g.m w (vB:List (List Int)) uC∧OS 3012 g w 22 (vB:List (List Int)) uC∧e 4=.int .i64 (o0)∧e 5=mB∧RV g.m w (oB:List (List Int)) mB∧e 6=.int .i64 (t5)) (fun X324 zG lJ h=>?_) ?_
     ·refine Zf (Za (Zo sF rfl ?_))
      refine Zo eF rfl ?_
      refine Zy (.int .i64 ((oB).length:Int)) (Tw Try.underlying42 rfl rF) rfl ?_
      refine Gu (.bool ((decide (t5 < ((oB).length:Int))))) rfl rfl rfl rfl ?_
      refine Zb (Zd ?_)
      rcases Zt h with ⟨bE,h⟩ | ⟨bE,h⟩
      ·refine Qq bE rfl ?_
       exact Zu (Zd (lJ () _ _ ⟨jH,hfr,vE,xE,yE,zE,cF,dF,eF,rF,sF⟩ h))
      ·refine Qr bE rfl ?_
       refine Qm ?_
       refine Tm ?_
       refine Tm ?_
       refine Tu ?_
       refine Qn ?_
       obtain rfl:=sinj h
       exact hQ _ _ ⟨jH,(uC),hfr,vE,xE,yE,zE,cF,dF⟩
     ·rintro _ jL cM ⟨lK, hfr, tF, n9, kH, oD, yD, uF, vF, aB, xF⟩ h
      obtain ⟨yB,hx,h⟩:=Gc h
      refine Th (fun e w=>∃ (g:Gh) (v3:Value),Fr gI wI g w∧e 0=up0∧RV g.m w (x0:List Int) up0∧e 3=v3∧RV g.m w (yB:List (List Int)) v3∧OS 3012 g w 22 (yB:List (List Int)) v3∧e 4=.int .i64 (o0)∧e 5=mB∧RV g.m w (oB:List (List Int)) mB∧e 6=.int .i64 (t5)) (fun Q' hQ=>?_) (fun lL dM hR=>?_)
      ·replace h := hx
       clear hx
       refine Zr ?_
       obtain ⟨l5,gG,h⟩:=Gc h
       have mK:=Tj n9 gG
       refine Zs (x:=.tmp 39) Try.isAgg3 Try.sizeOf3 mK fun eM nK mJ=>?_
       obtain rfl:=Zj.1 nK
       obtain ⟨xG,iG,h⟩:=Gc h
       have oK:=Tj aB iG
       refine Zs (x:=.tmp 44) Try.isAgg22 Try.sizeOf22 oK fun pK qK nJ=>?_
       obtain ⟨u3,oJ,h⟩:=Gc h
       refine Tt (g:=lK) (n:=12) [(5,(fun v g w=>RV g.m w ([l5]:List Int) v∧OS 3041 g w 3 ([l5]:List Int) v∧Gn v)),(10,(fun v g w=>RV g.m w u3 v∧OS 3041 g w 3 u3 v)),(11,(fun v g w=>RV g.m w ([u3]:List (List Int)) v∧OS 3047 g w 22 ([u3]:List (List Int)) v∧Gn v))] [0,1,2,3,4,5,6,7,8,9,10,11] rfl Qf (by kernel_rfl) (⟨fun _=>Ti Wy (Ti up_os (Tr _)),fun _=>Ti Wy up_os,fun _=>Ti Wy (Ti up_os (Tr _)),trivial⟩) ?_
       refine Gb uC rfl rfl (Zk kH) ?_
       refine Gb up0 rfl rfl (Zk tF) ?_
       refine Gb (.int .i64 (o0)) rfl rfl (Zk uF) ?_
       refine Gb (Qc up0 o0 1) rfl rfl (Zh (α:=Int) Try.underlying22 Try.sizeOf3 rfl n9 rfl gG) ?_
       refine Gy (c:=.int .i64 (l5)) rfl rfl .plain (fun _ _ h=>h.ch) mJ rfl ?_
       refine Qa (φ:=fun v g w=>RV g.m w ([l5]:List Int) v∧OS 3041 g w 3 ([l5]:List Int) v∧Gn v) rfl rfl .plain (fun g w hd=>Gi (g:=g) 3041 (xs:=([l5]:List Int)) (vs:=[.int .i64 (l5)]) Try.underlying22 Try.sizeOf3 Try.zeroValue3 rfl rfl (.cons rfl .nil) (RVs.cons (Zj.2 rfl) RVs.nil) rfl rfl fun g' w' v hs o r hxt hfl=>⟨g',hxt,r,o,hfl⟩) (fun n8 hv=>?_)
       clear hv
       refine Gb mB rfl rfl (Zk vF) ?_
       refine Gb (.int .i64 (t5)) rfl rfl (Zk xF) ?_
       refine Gb (Qc mB t5 1) rfl rfl (Zh (α:=List Int) Try.underlying42 Try.sizeOf22 rfl aB rfl iG) ?_
       refine Gy (c:=pK) rfl rfl .plain (fun _ _ h=>h.ch) nJ rfl ?_
       refine Qa (φ:=fun v g w=>RV g.m w u3 v∧OS 3041 g w 3 u3 v) rfl rfl .plain (fun g w hd=>Ke (g:=g) (i:=3041) Try.underlying22 info_3 rfl rfl (word (A:=fun g w=>RV g.m w ([l5]:List Int) n8∧OS 3041 g w 3 ([l5]:List Int) n8∧Gn n8) 5 rfl rfl (Tv hd)).2.1 (word (A:=fun g w=>RV g.m w ([l5]:List Int) n8∧OS 3041 g w 3 ([l5]:List Int) n8∧Gn n8) 5 rfl rfl (Tv hd)).1 rfl (qK.ext hd.1) oJ fun g' w' v hs o r hf=>⟨g',hf (word (A:=fun g w=>RV g.m w ([l5]:List Int) n8∧OS 3041 g w 3 ([l5]:List Int) n8∧Gn n8) 5 rfl rfl (Tv hd)).2.2,r,o⟩) (fun vC hv=>?_)
       clear hv
       refine Qa (φ:=fun v g w=>RV g.m w ([u3]:List (List Int)) v∧OS 3047 g w 22 ([u3]:List (List Int)) v∧Gn v) rfl rfl .plain (fun g w hd=>Gi (g:=g) 3047 (xs:=([u3]:List (List Int))) (vs:=[vC]) Try.underlying42 Try.sizeOf22 Try.zeroValue22 rfl rfl (.cons rfl .nil) (RVs.cons (word (A:=fun g w=>RV g.m w u3 vC∧OS 3041 g w 3 u3 vC) 10 rfl rfl (Tv hd)).1 RVs.nil) rfl rfl fun g' w' v hs o r hxt hfl=>⟨g',hxt,r,o,hfl⟩) (fun cD hv=>?_)
       clear hv
       refine L_nil fun sK iM hall=>?_
       have hs:=hall.1
       have hfr:=hfr.ext hs
       have n9:=n9.ext hs
       have oD:=oD.ext hs
       have yD:=yD.ext hs
       have aB:=aB.ext hs
       have jM:=(Gl (A:=fun g w=>RV g.m w ([l5]:List Int) n8∧OS 3041 g w 3 ([l5]:List Int) n8∧Gn n8) 5 rfl hall).1
       have o378:=(Gl (A:=fun g w=>RV g.m w ([l5]:List Int) n8∧OS 3041 g w 3 ([l5]:List Int) n8∧Gn n8) 5 rfl hall).2.1
       have kM:=(Gl (A:=fun g w=>RV g.m w u3 vC∧OS 3041 g w 3 u3 vC) 10 rfl hall).1
       have o383:=(Gl (A:=fun g w=>RV g.m w u3 vC∧OS 3041 g w 3 u3 vC) 10 rfl hall).2
       have tK:=(Gl (A:=fun g w=>RV g.m w ([u3]:List (List Int)) cD∧OS 3047 g w 22 ([u3]:List (List Int)) cD∧Gn cD) 11 rfl hall).1
       have o384:=(Gl (A:=fun g w=>RV g.m w ([u3]:List (List Int)) cD∧OS 3047 g w 22 ([u3]:List (List Int)) cD∧Gn cD) 11 rfl hall).2.1
       clear hs hall
       obtain ⟨yG,pJ,h⟩:=Gc h
       refine Ze .plain rfl (Ke (g:=sK) (i:=3012) Try.underlying42 info_22 rfl rfl yD oD rfl tK pJ fun uK pM lH hs o385 vK _=>?_)
       have hfr:=hfr.stp hs
       have n9:=n9.stp hs
       have aB:=aB.stp hs
       refine Zg lH rfl rfl ?_
       refine Zb (Qn ?_)
       obtain rfl:=sinj h
       exact hQ _ _ ⟨uK,(lH),hfr,tF,n9,rfl,vK,o385,uF,vF,aB,xF⟩
      ·clear hx
       obtain ⟨xK,mH,hfr,nH,oH,pH,qH,sH,tH,uH,xH,yH⟩:=hR
       refine Za (Zo yH rfl ?_)
       refine Gu (.int .i64 ((w64 (t5 + (1:Int))))) rfl rfl rfl rfl ?_
       refine Zg (.int .i64 ((w64 (t5 + (1:Int))))) rfl rfl ?_
       exact Zb (Zd (kJ (yB,(w64 (t5 + (1:Int)))) _ _ ⟨xK,(mH),hfr,nH,oH,pH,qH,sH,tH,uH,xH,rfl⟩ h))
    ·clear hx
     obtain ⟨yK,zH,hfr,aI,bI,dI,iI,jI,kI⟩:=hR
     refine Za (Zo kI rfl ?_)
     refine Gu (.int .i64 ((w64 (o0 + (1:Int))))) rfl rfl rfl rfl ?_
     refine Zg (.int .i64 ((w64 (o0 + (1:Int))))) rfl rfl ?_
     exact Zb (Zd (nI (zB,(w64 (o0 + (1:Int)))) _ _ ⟨yK,(zH),hfr,aI,bI,dI,iI,jI,rfl⟩ h))
  ·clear hx
   obtain ⟨qM,yF,hfr,lI,mI,zK⟩:=hR
   refine Zf (Za (Zo lI rfl ?_))
   refine Zg yF rfl rfl ?_
   refine Zb (Zd (Gw ?_))
   obtain rfl:=sinj h
   exact Wb rfl rfl (show _=yF from rfl) ⟨_,hfr,mI⟩
def f93 (x0:List Int) (x1:Int→Option Bool):Option (Int):=
 jn (σ:=Unit) (fun _=>
  some ((-1:Int))
  ) fun k18=>
 lp (σ:=Int) (fun k19 o0=>
  bif (decide (o0 < ((x0).length : Int))) then
   jn (σ:=Unit) (fun _=>
    k19 ((w64 (o0 + (1:Int))))
    ) fun k28=>
   (idx x0 o0).bind fun v8=>
   (x1 v8).bind fun vB=>
   bif vB then
    some (o0)
   else
    k28 ()
  else
   k18 ()
  ) big ((0:Int))
theorem en93:Enters Try.prog 93:=enters_of Try.func93 (by kernel_rfl) rfl
theorem wk93 {gI:Gh} {wI:World} {x0:List Int} {x1:Int→Option Bool} {up0:Value} (rp0:RV gI.m wI x0 up0) {up1:Value} (rp1:FnV1 Try.prog x1 up1 gI wI) {r:Int} (h:f93 x0 x1=some r):Fn Try.prog 93 #[up0,up1] gI wI (fun _ _ v=>v=.int .i64 (r)):=by
 unfold f93 at h
 refine Tf Try.func93 rfl (Nat.le_of_ble_eq_true rfl) fun g0 hm hfr=>?_
 have rp0:RV g0.m wI x0 up0:=hm ▸ rp0
 obtain ⟨ff1,fa1,fc1,rfl,fen1,fcl1⟩:=rp1
 show E _ 19 none _ _ _ _ _
 refine Zf (Za (Zg (.int .i64 (0)) rfl rfl ?_))
 refine Zb (Zd (Zq h (fun (s:Unit) e w=>∃ (g:Gh) ,Fr gI wI g w) (fun X18 k18 yB h=>?_) ?_))
 ·refine Zf (Za (Zn up0 rfl rfl ?_))
  refine Zy (.int .i64 ((x0).length:Int)) (Tw Try.underlying22 rfl rp0) rfl ?_
  refine Zn (.int .i64 (0)) rfl rfl ?_
  refine Zb (Zd (Zr ?_))
  refine E_lp h (fun (s:Int) e w=>∃ (g:Gh) ,Fr gI wI g w∧e 0=up0∧RV g.m w (x0:List Int) up0∧e 1=(.func (.func ff1) fa1 fc1)∧e 7=.int .i64 (((x0).length:Int))∧e 8=.int .i64 (s)) ⟨g0,hfr,rfl,rp0,rfl,rfl,rfl⟩ (fun X19 k19 zB=>?_)
  rintro o0 nD zD ⟨l9,hfr,g8,u3,l8,n8,l5⟩ h
  refine Zf (Za (Gu (.bool ((decide (o0 < ((x0).length:Int))))) l5 n8 rfl rfl ?_))
  refine Zb (Zd (Zf ?_))
  rcases Zt h with ⟨t5,h⟩ | ⟨t5,h⟩
  ·refine Qq t5 rfl ?_
   refine Zu (Zd (Zq h (fun (s:Unit) e w=>∃ (g:Gh) ,Fr gI wI g w∧e 0=up0∧RV g.m w (x0:List Int) up0∧e 1=(.func (.func ff1) fa1 fc1)∧e 7=.int .i64 (((x0).length:Int))∧e 8=.int .i64 (o0)) (fun X28 k28 cC h=>?_) ?_))
   ·refine Zr ?_
    refine Zf (Za (Zo l5 rfl ?_))
    refine Zg (.int .i64 (o0)) rfl rfl ?_
    refine Zb (Zd (Zf (Za (Zo l8 rfl ?_))))
    refine Zo g8 rfl ?_
    refine Zn (.int .i64 (o0)) rfl rfl ?_
    obtain ⟨v8,n9,h⟩:=Gc h
    refine Zy (Qc up0 o0 1) (Zh (α:=Int) Try.underlying22 Try.sizeOf3 rfl u3 rfl n9) rfl ?_
    have vC:=Tj u3 n9
    refine Ze .plain rfl (Gr (g:=l9) Try.isAgg3 Try.sizeOf3 rfl vC fun aE bD=>?_)
    obtain rfl:=Zj.1 bD
    obtain ⟨vB,uC,h⟩:=Gc h
    refine Ze .plain rfl (D_callv (g:=l9) (vs:=[.int .i64 (v8)]) rfl fen1 (.cons rfl .nil) (fcl1 _ _ hfr.ch _ _ _  (Zj.2 rfl) uC) fun cD bE iE hs hr=>?_)
    have hfr:=hfr.ext hs
    have u3:=u3.ext hs
    obtain rfl:=RV_bool.1 hr
    refine Zb (Zd ?_)
    rcases Zt h with ⟨i6,h⟩ | ⟨i6,h⟩
    ·refine Qq i6 rfl ?_
     refine Zf (Za (Zn (.int .i64 (o0)) rfl rfl ?_))
     refine Zg (.int .i64 (o0)) rfl rfl ?_
     refine Zb (Zd (Gw (Qu ?_)))
     refine Tc ?_
     refine Tc ?_
     refine Qu ?_
     refine Tc ?_
     obtain rfl:=sinj h
     exact Wb rfl rfl (show _=.int .i64 (o0) from rfl) ⟨_,hfr,rfl⟩
    ·refine Qr i6 rfl ?_
     exact Zu (Qn (Zd (cC () _ _ ⟨cD,hfr,g8,u3,l8,n8,l5⟩ h)))
   ·rintro _ oD lE ⟨lD, hfr, aB, lB, mB, nB, oB⟩ h
    refine Za (Gu (.int .i64 ((w64 (o0 + (1:Int))))) oB rfl rfl rfl ?_)
    refine Zn (.int .i64 ((w64 (o0 + (1:Int))))) rfl rfl ?_
    exact Zb (Zd (zB ((w64 (o0 + (1:Int)))) _ _ ⟨lD,hfr,aB,lB,mB,nB,rfl⟩ h))
  ·refine Qr t5 rfl ?_
   refine Qm ?_
   refine Tm ?_
   refine Tm ?_
   refine Tu ?_
   exact Zd (yB () _ _ ⟨l9,hfr⟩ h)
 ·rintro _ yD mE ⟨oE, hfr⟩ h
  refine Zf (Za (Zg (.int .i64 (-1)) rfl rfl ?_))
  refine Zb (Zd (Gw ?_))
  obtain rfl:=sinj h
  exact Wb rfl rfl (show _=.int .i64 (-1) from rfl) ⟨_,hfr,rfl⟩
def f94 (x0:Int) (m1:List (Int × Int)) (z1:Wt→Option Int) (z2:Gf):Option (Bool × (List (Int × Int))):=
 (idx (((z2).BoxLoom).Shuttles) (w64 (x0 - (1:Int)))).bind fun t5=>
 (z1 ((t5).Yarn)).bind fun o0=>
 some ((decide (((mget ((mset m1 x0 ((w64 (((mget m1 x0).getD (0:Int)) + (1:Int)))))) x0).getD (0:Int)) > o0)),(mset m1 x0 ((w64 (((mget m1 x0).getD (0:Int)) + (1:Int))))))
theorem en94:Enters Try.prog 94:=enters_of Try.func94 (by kernel_rfl) rfl
theorem wk94 {iI:Nat} {gI:Gh} {wI:World} {x0:Int} {m1:List (Int × Int)} {z1:Wt→Option Int} {z2:Gf} {pf0:Value} {kv500001:Value} (fc1:FC gI.m wI 0 kv500001 pf0) (mp500001:MP (Value.int .i64) iI gI wI m1 kv500001) {pf1:Value} {qv1:Fv} (qf1:PT gI.m wI qv1 pf1) (rp2:FnV1 Try.prog z1 qv1.v gI wI) {pf2:Value} (qf2:PT gI.m wI z2 pf2) {r:Bool × (List (Int × Int))} (h:f94 x0 m1 z1 z2=some r):FnM Try.prog 94 #[.int .i64 (x0),pf0,pf1,pf2] iI gI wI (fun g w v=>v=.bool (r.1)∧MP (Value.int .i64) iI g w (r.2) kv500001):=by
 unfold f94 at h
 refine fnM_of_E Try.func94 rfl (Nat.le_of_ble_eq_true rfl) fun g0 hm hfr=>?_
 have u3:=mp500001
 replace mp500001:=mp500001.enter
 rw [← hm] at mp500001
 replace hm:g0.m=gI.m:=by rw [hm]
 have fc1:FC g0.m wI 0 kv500001 pf0:=hm ▸ fc1
 obtain ⟨ff2,fa2,fc2,hq2,fen2,fcl2⟩:=rp2
 have qf1:PT g0.m wI qv1 pf1:=hm ▸ qf1
 have qf2:PT g0.m wI z2 pf2:=hm ▸ qf2
 show E _ 24 none _ _ _ _ _
 refine Zf (Za (Zg (.bool false) rfl rfl ?_))
 refine Zb (Zd (Zf (Za (Ze .plain rfl (D_loadFC0 (g:=g0) Try.isAgg160 Try.sizeOf160 (mp_one mp500001) rfl fc1 ?_)))))
 refine Zn (.int .i64 (x0)) rfl rfl ?_
 refine Ze .plain rfl (D_lookup (g:=g0) (z0:=(0:Int)) Try.underlying160 key_3 Try.zeroValue3 (fun m w=>⟨_,Zx,rfl⟩) rfl mp500001 rfl fun v2 r2=>?_)
 obtain rfl:=Zj.1 r2
 refine Gu (.int .i64 ((w64 (((mget m1 x0).getD (0:Int)) + (1:Int))))) rfl rfl rfl rfl ?_
 refine Ze .plain rfl (D_mapUpdate (g:=g0) Try.underlying160 key_3 rfl mp500001 rfl rfl (Zj.2 rfl) fun g3 w3 hs m3=>?_)
 have hfr:=hfr.stp hs
 have fc1:=fc1.stp hs
 have qf1:=qf1.stp hs
 have qf2:=qf2.stp hs
 refine Zb (Zd (Zf ?_))
 have v8:=L_loadFC0 (P:=Try.prog) (x:=.tmp 1) Try.isAgg160 Try.sizeOf160 (mp_one m3) fc1
 refine Zs (α:=Fv) (x:=.tmp 2) Try.isAgg132 Try.sizeOf132 qf1 fun v6 r6 l9=>?_
 obtain rfl:=(RV_fv.1 r6).trans hq2
 have q7:=Zm (Tq).1 qf2
 have q8:=Zm (Gx).1 q7
 refine Zs (x:=.tmp 15) Try.isAgg23 Try.sizeOf23 q8 fun v9 r9 n9=>?_
 obtain ⟨t5,l5,h⟩:=Gc h
 have i6:=Tj r9 l5
 have aB:=Zm (Wd).1 i6
 refine Zs (x:=.tmp 20) Try.isAgg85 Try.sizeOf85 aB fun g8 lB l8=>?_
 obtain ⟨o0,n8,h⟩:=Gc h
 refine Tt (g:=g3) (n:=15) [(2,(fun v _ _=>v=.int .i64 (((mget ((mset m1 x0 ((w64 (((mget m1 x0).getD (0:Int)) + (1:Int)))))) x0).getD (0:Int))))),(12,(fun v g w=>v=.int .i64 (o0)))] [0,1,2,3,4,5,6,7,8,9,10,11,12,13,14] rfl Qf (by kernel_rfl) (⟨fun _=>Tr _,fun _=>Tr _,trivial⟩) ?_
 refine Gy (c:=kv500001) rfl rfl .plain (fun _ _ h=>h.ch) v8 rfl ?_
 refine Gb (.int .i64 (x0)) rfl rfl (Zk rfl) ?_
 refine Qa (φ:=(fun v _ _=>v=.int .i64 (((mget ((mset m1 x0 ((w64 (((mget m1 x0).getD (0:Int)) + (1:Int)))))) x0).getD (0:Int))))) rfl rfl .plain (fun g w hd=>D_lookup (g:=g) (z0:=(0:Int)) Try.underlying160 key_3 Try.zeroValue3 (fun m w=>⟨_,Zx,rfl⟩) rfl (m3.ext hd.1) rfl fun v r=>⟨g,Ext.refl g w,Zj.1 r⟩) (fun v5 hv=>?_)
 obtain ⟨_,_,_,rfl⟩:=hv
 refine Gy (c:=(.func (.func ff2) fa2 fc2)) rfl rfl .plain (fun _ _ h=>h.ch) l9 rfl ?_
 refine Gb (Gj pf2 0) rfl rfl (Zc Ka rfl (PT.ptr qf2)) ?_
 refine Gb (Gj (Gj pf2 0) 2) rfl rfl (Zc Qk rfl (PT.ptr q7)) ?_
 refine Gy (c:=v9) rfl rfl .plain (fun _ _ h=>h.ch) n9 rfl ?_
 refine Gb (.int .i64 (x0)) rfl rfl (Zk rfl) ?_
 refine Gb (.int .i64 ((w64 (x0 - (1:Int))))) rfl rfl (Td rfl rfl rfl) ?_
 refine Gb (Qc v9 (w64 (x0 - (1:Int))) 5) rfl rfl (Zh (α:=Zv) Try.underlying23 Try.sizeOf87 rfl r9 rfl l5) ?_
 refine Gb (Gj (Qc v9 (w64 (x0 - (1:Int))) 5) 3) rfl rfl (Zc at_87_3 rfl (PT.ptr i6)) ?_
 refine Gy (c:=g8) rfl rfl .plain (fun _ _ h=>h.ch) l8 rfl ?_
 refine Qa (φ:=fun v g w=>v=.int .i64 (o0)) rfl rfl .plain (fun g w hd=>D_callv (g:=g) (vs:=[g8]) rfl fen2 (.cons rfl .nil) (fcl2 _ _ (hfr.ext hd.1).ch _ _ _  (lB.ext hd.1) n8) fun g' w' v hs hr=>⟨g',hs,Zj.1 hr⟩) (fun mB hv=>?_)
 obtain ⟨_,_,_,rfl⟩:=hv
 refine Gb (.bool ((decide (((mget ((mset m1 x0 ((w64 (((mget m1 x0).getD (0:Int)) + (1:Int)))))) x0).getD (0:Int)) > o0)))) rfl rfl (Td rfl rfl rfl) ?_
 refine Gb (.bool ((decide (((mget ((mset m1 x0 ((w64 (((mget m1 x0).getD (0:Int)) + (1:Int)))))) x0).getD (0:Int)) > o0)))) rfl rfl (Tg rfl) ?_
 refine L_nl fun nB oB hs=>?_
 have hfr:=hfr.ext hs
 have m3:=m3.ext hs
 clear hs
 refine Zb (Zd (Gw ?_))
 obtain rfl:=sinj h
 exact Wb rfl rfl (show _=.bool ((decide (((mget ((mset m1 x0 ((w64 (((mget m1 x0).getD (0:Int)) + (1:Int)))))) x0).getD (0:Int)) > o0))) from rfl) ⟨_,hfr,rfl,u3.back m3⟩
theorem ws93 {σ : Type} {I : σ → Gh → World → Prop} {φ : σ → Int → Option (Bool × σ)} {x0 : List Int} {up0 : Value} {ff : FuncId} {caps : Array Value} {gI : Gh} {wI : World} {s0 : σ} {r : Int} (i : Nat) (hen : Enters Try.prog ff)
  (hφ:∀ s x b s' g w,φ s x=some (b,s')→I s g w→Ch gI.m wI g.m w→FnM Try.prog ff (#[] ++ #[.int .i64 x] ++ caps) i g w (fun g' w' v=>v=.bool b∧I s' g' w'))
  (rp0:RV gI.m wI x0 up0) (h0:I s0 gI wI) (h:idxS x0 φ s0=some r):Calls Try.prog 93 #[up0,.func (.func ff) #[] caps] wI fun e w=>∃ v,e=.returned v∧v=.int .i64 r∧∃ g s',Stp i gI wI g w∧I s' g w:=by
 unfold idxS at h
 refine calls_of_E Try.func93 rfl (Nat.le_of_ble_eq_true rfl) (R:=fun v w=>v=.int .i64 r∧∃ g s',Stp i gI wI g w∧I s' g w) ?_
 have hfr:Stp i gI wI gI wI:=(Ext.refl gI wI).stp
 show E _ 19 none _ _ _ _ _
 refine Zf (Za (Zg (.int .i64 (0)) rfl rfl (Zb (Zd ?_))))
 refine Zq h (fun (_:Unit) e w=>∃ (g:Gh) (t:σ),Stp i gI wI g w∧I t g w) (fun X18 k18 vB h=>?_) ?_
 ·refine Zf (Za (Zn up0 rfl rfl ?_))
  refine Zy (.int .i64 ((x0).length:Int)) (Tw Try.underlying22 rfl rp0) rfl ?_
  refine Zn (.int .i64 (0)) rfl rfl (Zb (Zd (Zr ?_)))
  refine E_lp h (fun (s:σ × Int) e w=>∃ (g:Gh) ,Stp i gI wI g w∧I s.1 g w∧e 0=up0∧RV g.m w (x0:List Int) up0∧e 1=(.func (.func ff) #[] caps)∧e 7=.int .i64 (((x0).length:Int))∧e 8=.int .i64 (s.2)) ⟨gI,hfr,h0,rfl,rp0,rfl,rfl,rfl⟩ (fun X19 k19 yB=>?_)
  rintro ⟨oD,o0⟩ yD bE ⟨v8,hfr,hI,g8,u3,l8,n8,l5⟩ h
  refine Zf (Za (Gu (.bool ((decide (o0 < ((x0).length:Int))))) l5 n8 rfl rfl (Zb (Zd ?_))))
  refine Zf ?_
  rcases Zt h with ⟨t5,h⟩ | ⟨t5,h⟩
  ·refine Qq t5 rfl (Zu (Zd ?_))
   refine Zq h (fun (t:σ) e w=>∃ (g:Gh) ,Stp i gI wI g w∧I t g w∧e 0=up0∧RV g.m w (x0:List Int) up0∧e 1=(.func (.func ff) #[] caps)∧e 7=.int .i64 (((x0).length:Int))∧e 8=.int .i64 (o0)) (fun X28 k28 zB h=>?_) ?_
   ·refine Zr (Zf (Za ?_))
    refine Zo l5 rfl ?_
    refine Zg (.int .i64 (o0)) rfl rfl (Zb (Zd (Zf (Za ?_))))
    refine Zo l8 rfl ?_
    refine Zo g8 rfl ?_
    refine Zn (.int .i64 (o0)) rfl rfl ?_
    obtain ⟨vC,l9,h⟩:=Gc h
    refine Zy (Qc up0 o0 1) (Zh (α:=Int) Try.underlying22 Try.sizeOf3 rfl u3 rfl l9) rfl ?_
    have bD:=Tj u3 l9
    refine Ze .plain rfl (Gr (g:=v8) Try.isAgg3 Try.sizeOf3 rfl bD fun iE cD=>?_)
    obtain rfl:=Zj.1 cD
    obtain ⟨⟨b33,t33⟩,cC,h⟩:=Gc h
    refine Ze .plain rfl (D_callvM (g:=v8) (vs:=[.int .i64 (vC)]) rfl hen (.cons rfl .nil) (hφ _ _ _ _ _ _ cC hI hfr.ch) fun oB lE mE hs hr=>?_)
    obtain ⟨rfl,hI⟩:=hr
    have hfr:=hfr.trans hs
    have u3:=u3.stp hs
    refine Zb (Zd ?_)
    rcases Zt h with ⟨i6,h⟩ | ⟨i6,h⟩
    ·refine Qq i6 rfl (Zf (Za ?_))
     refine Zn (.int .i64 (o0)) rfl rfl ?_
     refine Zg (.int .i64 (o0)) rfl rfl (Zb (Zd (Gw ?_)))
     refine Qu (Tc (Tc (Qu (Tc ?_))))
     obtain rfl:=sinj h
     exact Wb rfl rfl (show _=.int .i64 (o0) from rfl) ⟨rfl,oB,t33,hfr,hI⟩
    ·refine Qr i6 rfl (Zu (Qn ?_))
     exact Zd (zB t33 _ _ ⟨oB,hfr,hI,g8,u3,l8,n8,l5⟩ h)
   ·rintro uC zD oE ⟨lD, hfr, hI, n9, aB, lB, mB, nB⟩ h
    refine Za (Gu (.int .i64 ((w64 (o0 + (1:Int))))) nB rfl rfl rfl ?_)
    refine Zn (.int .i64 ((w64 (o0 + (1:Int))))) rfl rfl (Zb ?_)
    exact Zd (yB (uC,(w64 (o0 + (1:Int)))) _ _ ⟨lD,hfr,hI,n9,aB,lB,mB,rfl⟩ h)
  ·refine Qr t5 rfl (Qm (Tm (Tm (Tu ?_))))
   exact Zd (vB () _ _ ⟨v8,_,hfr,hI⟩ h)
 ·rintro _ aE rE ⟨nD, t36, hfr, hI⟩ h
  refine Zf (Za (Zg (.int .i64 (-1)) rfl rfl (Zb (Zd (Gw ?_)))))
  obtain rfl:=sinj h
  exact Wb rfl rfl (show _=.int .i64 (-1) from rfl) ⟨rfl,nD,t36,hfr,hI⟩
def f73 (x0:Gf) (x1:List Int) (x2:Wt→Option Int):Option Int:=idxS x1 (fun m n=>f94 n m x2 x0) []
theorem en73:Enters Try.prog 73:=enters_of Try.func73 (by kernel_rfl) rfl
theorem wk73 {gI:Gh} {wI:World} {x0:Gf} {x1:List Int} {x2:Wt→Option Int} {up0 up1 up2:Value} (rp0:RV gI.m wI x0 up0) (rp1:RV gI.m wI x1 up1) (rp2:FnV1 Try.prog x2 up2 gI wI) {r:Int} (h:f73 x0 x1 x2=some r):Fn Try.prog 73 #[up0,up1,up2] gI wI (fun _ _ v=>v=.int .i64 (r)):=by
 unfold f73 at h
 refine Tf Try.func73 rfl (Nat.le_of_ble_eq_true rfl) fun g0 hm hfr=>?_
 have rp0:RV g0.m wI x0 up0:=hm ▸ rp0
 have rp1:RV g0.m wI x1 up1:=hm ▸ rp1
 have hone:up2.oneCell'=true:=by obtain ⟨ff,fa,fc,rfl,_⟩:=rp2; rfl
 have hfc:Ch gI.m wI g0.m wI:=hm ▸ Ch.refl _ _
 show E _ 12 none _ _ _ _ _
 refine Zf (Za (Ze .plain rfl (We (g:=g0) rfl rp0 fun g1 w1 p1 hs q1=>?_)))
 have hfr:=hfr.ext hs
 have hfc:=hfc.trans hs.ch
 have rp1:=rp1.ext hs
 refine Ze .plain rfl (We (g:=g1) (a:=(⟨up2,hone⟩:Fv)) rfl (RV_fv.2 rfl) fun g2 w2 p2 hs q2=>?_)
 have hfr:=hfr.ext hs
 have hfc:=hfc.trans hs.ch
 have rp1:=rp1.ext hs
 have q1:=q1.ext hs
 refine Zg (.int .i64 (0)) rfl rfl (Zb (Zd ?_))
 refine Zf (Za (Ze .plain rfl (D_makeMap (g:=g2) (Value.int .i64) Int 8008 fun g3 w3 v3 hs m3=>?_)))
 have hfr:=hfr.stp hs
 have hfc:=hfc.trans hs.ch
 have rp1:=rp1.stp hs
 have q1:=q1.stp hs
 have q2:=q2.stp hs
 refine Ze .plain rfl (Gs (g:=g3) 2007 (⟨.map none,rfl⟩:Fv) Try.zeroValue160 (fun _ _=>fvm_rep) fun g4 w4 p4 hs b4 cb=>?_)
 clear cb
 have hfr:=hfr.stp hs
 have hfc:=hfc.trans hs.ch
 have rp1:=rp1.stp hs
 have q1:=q1.stp hs
 have q2:=q2.stp hs
 have m3:=m3.stp hs rfl
 have hv3:=mp_one m3
 refine Ze .plain rfl (Gk (g:=g4) (v:=v3) (a':=(⟨v3,hv3⟩:Fv)) Try.sizeOf160 rfl b4 rfl (RV_fv.2 rfl) fun g5 w5 hs b5 cb=>?_)
 clear cb
 have hfr:=hfr.stp hs
 have hfc:=hfc.trans hs.ch
 have rp1:=rp1.stp hs
 have q1:=q1.stp hs
 have q2:=q2.stp hs
 have m3:=m3.stp hs rfl
 obtain ⟨g6,hs,q6⟩:=OB.pub b5
 have hfr:=hfr.stp hs
 have hfc:=hfc.trans hs.ch
 have rp1:=rp1.stp hs
 have q1:=q1.stp hs
 have q2:=q2.stp hs
 have m3:=m3.stp hs rfl
 have fc6:=q6.fc
 have rp2:=rp2.ch (g':=g6) (w':=w5) hfc
 refine Zb (Zd (Zf (Za (Zn up1 rfl rfl ?_))))
 refine Zy (.func (.func 94) #[] #[p4,p2,p1]) (P_makeFunc (capf_0_3 rfl rfl rfl)) rfl ?_
 refine Ze .plain rfl (D_callC (vs:=[up1,.func (.func 94) #[] #[p4,p2,p1]]) en93 (.cons rfl (.cons rfl .nil)) (ws93 (I:=fun m g w=>MP (Value.int .i64) 8008 g w m v3) 8008 en94 (fun s x b s' g w hx hI hch=>?_) rp1 m3 h) fun v7 w7 hq=>?_)
 ·exact wk94 (fc6.ch hch) hI (q2.ch hch) (rp2.ch hch) (q1.ch hch) hx
 ·obtain ⟨rfl, g7, s7, hs, _⟩ := hq
  have hfr:=hfr.stp hs
  refine Zg (.int .i64 r) rfl rfl (Zb (Zd (Gw ?_)))
  exact Wb rfl rfl (show _=.int .i64 r from rfl) ⟨_,hfr,rfl⟩
def f102 (x0:List Zv) (x1:Zv→Option Bool):Option (Int):=
 jn (σ:=Unit) (fun _=>
  some ((-1:Int))
  ) fun k18=>
 lp (σ:=Int) (fun k19 o0=>
  bif (decide (o0 < ((x0).length : Int))) then
   jn (σ:=Unit) (fun _=>
    k19 ((w64 (o0 + (1:Int))))
    ) fun k28=>
   (idx x0 o0).bind fun oB=>
   (x1 oB).bind fun vB=>
   bif vB then
    some (o0)
   else
    k28 ()
  else
   k18 ()
  ) big ((0:Int))
theorem en102:Enters Try.prog 102:=enters_of Try.func102 (by kernel_rfl) rfl
theorem wk102 {gI:Gh} {wI:World} {x0:List Zv} {x1:Zv→Option Bool} {up0:Value} (rp0:RV gI.m wI x0 up0) {up1:Value} (rp1:FnV1 Try.prog x1 up1 gI wI) {r:Int} (h:f102 x0 x1=some r):Fn Try.prog 102 #[up0,up1] gI wI (fun _ _ v=>v=.int .i64 (r)):=by
 unfold f102 at h
 refine Tf Try.func102 rfl (Nat.le_of_ble_eq_true rfl) fun g0 hm hfr=>?_
 have rp0:RV g0.m wI x0 up0:=hm ▸ rp0
 obtain ⟨ff1,fa1,fc1,rfl,fen1,fcl1⟩:=rp1
 show E _ 19 none _ _ _ _ _
 refine Zf (Za (Zg (.int .i64 (0)) rfl rfl ?_))
 refine Zb (Zd (Zq h (fun (s:Unit) e w=>∃ (g:Gh) ,Fr gI wI g w) (fun X18 k18 yB h=>?_) ?_))
 ·refine Zf (Za (Zn up0 rfl rfl ?_))
  refine Zy (.int .i64 ((x0).length:Int)) (Tw Try.underlying23 rfl rp0) rfl ?_
  refine Zn (.int .i64 (0)) rfl rfl ?_
  refine Zb (Zd (Zr ?_))
  refine E_lp h (fun (s:Int) e w=>∃ (g:Gh) ,Fr gI wI g w∧e 0=up0∧RV g.m w (x0:List Zv) up0∧e 1=(.func (.func ff1) fa1 fc1)∧e 7=.int .i64 (((x0).length:Int))∧e 8=.int .i64 (s)) ⟨g0,hfr,rfl,rp0,rfl,rfl,rfl⟩ (fun X19 k19 zB=>?_)
  rintro o0 oD aE ⟨v8,hfr,g8,u3,l8,n8,l5⟩ h
  refine Zf (Za (Gu (.bool ((decide (o0 < ((x0).length:Int))))) l5 n8 rfl rfl ?_))
  refine Zb (Zd (Zf ?_))
  rcases Zt h with ⟨t5,h⟩ | ⟨t5,h⟩
  ·refine Qq t5 rfl ?_
   refine Zu (Zd (Zq h (fun (s:Unit) e w=>∃ (g:Gh) ,Fr gI wI g w∧e 0=up0∧RV g.m w (x0:List Zv) up0∧e 1=(.func (.func ff1) fa1 fc1)∧e 7=.int .i64 (((x0).length:Int))∧e 8=.int .i64 (o0)) (fun X28 k28 cC h=>?_) ?_))
   ·refine Zr ?_
    refine Zf (Za (Zo l5 rfl ?_))
    refine Zg (.int .i64 (o0)) rfl rfl ?_
    refine Zb (Zd (Zf (Za (Zo l8 rfl ?_))))
    refine Zo g8 rfl ?_
    refine Zn (.int .i64 (o0)) rfl rfl ?_
    obtain ⟨oB,l9,h⟩:=Gc h
    refine Zy (Qc up0 o0 5) (Zh (α:=Zv) Try.underlying23 Try.sizeOf87 rfl u3 rfl l9) rfl ?_
    have vC:=Tj u3 l9
    refine Ze .plain rfl (Gr (g:=v8) Try.isAgg87 Try.sizeOf87 rfl vC fun bD cD=>?_)
    obtain ⟨vB,uC,h⟩:=Gc h
    refine Ze .plain rfl (D_callv (g:=v8) (vs:=[bD]) rfl fen1 (.cons rfl .nil) (fcl1 _ _ hfr.ch _ _ _  cD uC) fun lD bE iE hs hr=>?_)
    have hfr:=hfr.ext hs
    have u3:=u3.ext hs
    obtain rfl:=RV_bool.1 hr
    refine Zb (Zd ?_)
    rcases Zt h with ⟨i6,h⟩ | ⟨i6,h⟩
    ·refine Qq i6 rfl ?_
     refine Zf (Za (Zn (.int .i64 (o0)) rfl rfl ?_))
     refine Zg (.int .i64 (o0)) rfl rfl ?_
     refine Zb (Zd (Gw (Qu ?_)))
     refine Tc ?_
     refine Tc ?_
     refine Qu ?_
     refine Tc ?_
     obtain rfl:=sinj h
     exact Wb rfl rfl (show _=.int .i64 (o0) from rfl) ⟨_,hfr,rfl⟩
    ·refine Qr i6 rfl ?_
     exact Zu (Qn (Zd (cC () _ _ ⟨lD,hfr,g8,u3,l8,n8,l5⟩ h)))
   ·rintro _ yD lE ⟨nD, hfr, n9, aB, lB, mB, nB⟩ h
    refine Za (Gu (.int .i64 ((w64 (o0 + (1:Int))))) nB rfl rfl rfl ?_)
    refine Zn (.int .i64 ((w64 (o0 + (1:Int))))) rfl rfl ?_
    exact Zb (Zd (zB ((w64 (o0 + (1:Int)))) _ _ ⟨nD,hfr,n9,aB,lB,mB,rfl⟩ h))
  ·refine Qr t5 rfl ?_
   refine Qm ?_
   refine Tm ?_
   refine Tm ?_
   refine Tu ?_
   exact Zd (yB () _ _ ⟨v8,hfr⟩ h)
 ·rintro _ zD mE ⟨oE, hfr⟩ h
  refine Zf (Za (Zg (.int .i64 (-1)) rfl rfl ?_))
  refine Zb (Zd (Gw ?_))
  obtain rfl:=sinj h
  exact Wb rfl rfl (show _=.int .i64 (-1) from rfl) ⟨_,hfr,rfl⟩
def f103 (x0:List Int) (x1:Int→Option Bool):Option (Bool):=
 (f93 x0 x1).bind fun y2=>
 some ((decide (y2 ≥ (0:Int))))
theorem en103:Enters Try.prog 103:=enters_of Try.func103 (by kernel_rfl) rfl
theorem wk103 {gI:Gh} {wI:World} {x0:List Int} {x1:Int→Option Bool} {up0:Value} (rp0:RV gI.m wI x0 up0) {up1:Value} (rp1:FnV1 Try.prog x1 up1 gI wI) {r:Bool} (h:f103 x0 x1=some r):Fn Try.prog 103 #[up0,up1] gI wI (fun _ _ v=>v=.bool (r)):=by
 unfold f103 at h
 refine Tf Try.func103 rfl (Nat.le_of_ble_eq_true rfl) fun g0 hm hfr=>?_
 have rp0:RV g0.m wI x0 up0:=hm ▸ rp0
 obtain ⟨ff1,fa1,fc1,rfl,fen1,fcl1⟩:=rp1
 show E _ 9 none _ _ _ _ _
 refine Zf (Za (Zg (.bool false) rfl rfl ?_))
 refine Zb (Zd (Zf (Za (Zn up0 rfl rfl ?_))))
 refine Zn ((.func (.func ff1) fa1 fc1)) rfl rfl ?_
 obtain ⟨y2,hy2,h⟩:=Gc h
 refine Ze .plain rfl (Zp (g:=g0) (vs:=[up0,(.func (.func ff1) fa1 fc1)]) en93 (.cons rfl (.cons rfl .nil)) (wk93 rp0 (FnV1.ch ⟨_,_,_,rfl,fen1,fcl1⟩ hfr.ch) hy2) fun g1 w1_ v1 hs hr=>?_)
 have hfr:=hfr.ext hs
 subst hr
 refine Gu (.bool ((decide (y2 ≥ (0:Int))))) rfl rfl rfl rfl ?_
 refine Zg (.bool ((decide (y2 ≥ (0:Int))))) rfl rfl ?_
 refine Zb (Zd (Gw ?_))
 obtain rfl:=sinj h
 exact Wb rfl rfl (show _=.bool ((decide (y2 ≥ (0:Int)))) from rfl) ⟨_,hfr,rfl⟩
def f104 (x0:Int) (z0:Int) (z1:Int):Option (Bool):=
 Option.bind (α:=Bool) (
  bif (decide (x0 < z0)) then
   some (true)
  else
   some ((decide (x0 > z1)))
  ) fun o0=>
 some (o0)
theorem en104:Enters Try.prog 104:=enters_of Try.func104 (by kernel_rfl) rfl
theorem wk104 {gI:Gh} {wI:World} {x0:Int} {z0:Int} {z1:Int} {pf0:Value} (qf0:PT gI.m wI z0 pf0) {pf1:Value} (qf1:PT gI.m wI z1 pf1) {r:Bool} (h:f104 x0 z0 z1=some r):Fn Try.prog 104 #[.int .i64 (x0),pf0,pf1] gI wI (fun _ _ v=>v=.bool (r)):=by
 unfold f104 at h
 refine Tf Try.func104 rfl (Nat.le_of_ble_eq_true rfl) fun g0 hm hfr=>?_
 have qf0:PT g0.m wI z0 pf0:=hm ▸ qf0
 have qf1:PT g0.m wI z1 pf1:=hm ▸ qf1
 show E _ 13 none _ _ _ _ _
 refine Zf (Za (Zg (.bool false) rfl rfl ?_))
 refine Zb (Zd ?_)
 obtain ⟨o0,hx,h⟩:=Gc h
 refine Th (fun e w=>∃ (g:Gh) ,Fr gI wI g w∧e 4=.bool (o0)) (fun Q' hQ=>?_) (fun l5 w7 hR=>?_)
 ·replace h := hx
  clear hx
  refine Za (Zn (.int .i64 (x0)) rfl rfl ?_)
  refine Ze .plain rfl (Gr (g:=g0) Try.isAgg3 Try.sizeOf3 rfl qf0 fun v4 r4=>?_)
  obtain rfl:=Zj.1 r4
  refine Gu (.bool ((decide (x0 < z0)))) rfl rfl rfl rfl ?_
  refine Zn (.bool ((decide (x0 < z0)))) rfl rfl ?_
  rcases Zt h with ⟨hc5,h⟩ | ⟨hc5,h⟩
  ·refine Ga rfl rfl hc5 rfl rfl ?_
   refine Ga rfl rfl hc5 rfl rfl ?_
   refine Ga rfl rfl hc5 rfl rfl ?_
   refine Zy (.bool true) (Zl (b:=(decide (x0 < z0))) rfl (Tp hc5 rfl)) rfl ?_
   refine Zg (.bool true) rfl rfl ?_
   refine Zb ?_
   obtain rfl:=sinj h
   exact hQ _ _ ⟨g0,hfr,rfl⟩
  ·refine Zz (.int .i64 (x0)) (Zk rfl) rfl rfl hc5 rfl ?_
   refine Ze (.yes2 rfl rfl hc5) rfl (Gr (g:=g0) Try.isAgg3 Try.sizeOf3 rfl qf1 fun v6 r6=>?_)
   obtain rfl:=Zj.1 r6
   refine Zz (.bool ((decide (x0 > z1)))) (Td rfl rfl rfl) rfl rfl hc5 rfl ?_
   refine Zy (.bool ((decide (x0 > z1)))) (Zl (b:=(decide (x0 < z0))) rfl (Tl hc5 rfl)) rfl ?_
   refine Zg (.bool ((decide (x0 > z1)))) rfl rfl ?_
   refine Zb ?_
   obtain rfl:=sinj h
   exact hQ _ _ ⟨g0,hfr,rfl⟩
 ·clear hx
  obtain ⟨g7,hfr,u3⟩:=hR
  refine Gw ?_
  obtain rfl:=sinj h
  exact Wb rfl rfl (show _=.bool (o0) from u3) ⟨_,hfr,rfl⟩
def f105 (x0:List Ge) (x1:Ge→Option Bool):Option (Int):=
 jn (σ:=Unit) (fun _=>
  some ((-1:Int))
  ) fun k18=>
 lp (σ:=Int) (fun k19 o0=>
  bif (decide (o0 < ((x0).length : Int))) then
   jn (σ:=Unit) (fun _=>
    k19 ((w64 (o0 + (1:Int))))
    ) fun k28=>
   (idx x0 o0).bind fun oB=>
   (x1 oB).bind fun vB=>
   bif vB then
    some (o0)
   else
    k28 ()
  else
   k18 ()
  ) big ((0:Int))
theorem en105:Enters Try.prog 105:=enters_of Try.func105 (by kernel_rfl) rfl
theorem wk105 {gI:Gh} {wI:World} {x0:List Ge} {x1:Ge→Option Bool} {up0:Value} (rp0:RV gI.m wI x0 up0) {up1:Value} (rp1:FnV1 Try.prog x1 up1 gI wI) {r:Int} (h:f105 x0 x1=some r):Fn Try.prog 105 #[up0,up1] gI wI (fun _ _ v=>v=.int .i64 (r)):=by
 unfold f105 at h
 refine Tf Try.func105 rfl (Nat.le_of_ble_eq_true rfl) fun g0 hm hfr=>?_
 have rp0:RV g0.m wI x0 up0:=hm ▸ rp0
 obtain ⟨ff1,fa1,fc1,rfl,fen1,fcl1⟩:=rp1
 show E _ 19 none _ _ _ _ _
 refine Zf (Za (Zg (.int .i64 (0)) rfl rfl ?_))
 refine Zb (Zd (Zq h (fun (s:Unit) e w=>∃ (g:Gh) ,Fr gI wI g w) (fun X18 k18 yB h=>?_) ?_))
 ·refine Zf (Za (Zn up0 rfl rfl ?_))
  refine Zy (.int .i64 ((x0).length:Int)) (Tw Try.underlying30 rfl rp0) rfl ?_
  refine Zn (.int .i64 (0)) rfl rfl ?_
  refine Zb (Zd (Zr ?_))
  refine E_lp h (fun (s:Int) e w=>∃ (g:Gh) ,Fr gI wI g w∧e 0=up0∧RV g.m w (x0:List Ge) up0∧e 1=(.func (.func ff1) fa1 fc1)∧e 7=.int .i64 (((x0).length:Int))∧e 8=.int .i64 (s)) ⟨g0,hfr,rfl,rp0,rfl,rfl,rfl⟩ (fun X19 k19 zB=>?_)
  rintro o0 oD aE ⟨v8,hfr,g8,u3,l8,n8,l5⟩ h
  refine Zf (Za (Gu (.bool ((decide (o0 < ((x0).length:Int))))) l5 n8 rfl rfl ?_))
  refine Zb (Zd (Zf ?_))
  rcases Zt h with ⟨t5,h⟩ | ⟨t5,h⟩
  ·refine Qq t5 rfl ?_
   refine Zu (Zd (Zq h (fun (s:Unit) e w=>∃ (g:Gh) ,Fr gI wI g w∧e 0=up0∧RV g.m w (x0:List Ge) up0∧e 1=(.func (.func ff1) fa1 fc1)∧e 7=.int .i64 (((x0).length:Int))∧e 8=.int .i64 (o0)) (fun X28 k28 cC h=>?_) ?_))
   ·refine Zr ?_
    refine Zf (Za (Zo l5 rfl ?_))
    refine Zg (.int .i64 (o0)) rfl rfl ?_
    refine Zb (Zd (Zf (Za (Zo l8 rfl ?_))))
    refine Zo g8 rfl ?_
    refine Zn (.int .i64 (o0)) rfl rfl ?_
    obtain ⟨oB,l9,h⟩:=Gc h
    refine Zy (Qc up0 o0 2) (Zh (α:=Ge) Try.underlying30 Try.sizeOf83 rfl u3 rfl l9) rfl ?_
    have vC:=Tj u3 l9
    refine Ze .plain rfl (Gr (g:=v8) Try.isAgg83 Try.sizeOf83 rfl vC fun bD cD=>?_)
    obtain ⟨vB,uC,h⟩:=Gc h
    refine Ze .plain rfl (D_callv (g:=v8) (vs:=[bD]) rfl fen1 (.cons rfl .nil) (fcl1 _ _ hfr.ch _ _ _  cD uC) fun lD bE iE hs hr=>?_)
    have hfr:=hfr.ext hs
    have u3:=u3.ext hs
    obtain rfl:=RV_bool.1 hr
    refine Zb (Zd ?_)
    rcases Zt h with ⟨i6,h⟩ | ⟨i6,h⟩
    ·refine Qq i6 rfl ?_
     refine Zf (Za (Zn (.int .i64 (o0)) rfl rfl ?_))
     refine Zg (.int .i64 (o0)) rfl rfl ?_
     refine Zb (Zd (Gw (Qu ?_)))
     refine Tc ?_
     refine Tc ?_
     refine Qu ?_
     refine Tc ?_
     obtain rfl:=sinj h
     exact Wb rfl rfl (show _=.int .i64 (o0) from rfl) ⟨_,hfr,rfl⟩
    ·refine Qr i6 rfl ?_
     exact Zu (Qn (Zd (cC () _ _ ⟨lD,hfr,g8,u3,l8,n8,l5⟩ h)))
   ·rintro _ yD lE ⟨nD, hfr, n9, aB, lB, mB, nB⟩ h
    refine Za (Gu (.int .i64 ((w64 (o0 + (1:Int))))) nB rfl rfl rfl ?_)
    refine Zn (.int .i64 ((w64 (o0 + (1:Int))))) rfl rfl ?_
    exact Zb (Zd (zB ((w64 (o0 + (1:Int)))) _ _ ⟨nD,hfr,n9,aB,lB,mB,rfl⟩ h))
  ·refine Qr t5 rfl ?_
   refine Qm ?_
   refine Tm ?_
   refine Tm ?_
   refine Tu ?_
   exact Zd (yB () _ _ ⟨v8,hfr⟩ h)
 ·rintro _ zD mE ⟨oE, hfr⟩ h
  refine Zf (Za (Zg (.int .i64 (-1)) rfl rfl ?_))
  refine Zb (Zd (Gw ?_))
  obtain rfl:=sinj h
  exact Wb rfl rfl (show _=.int .i64 (-1) from rfl) ⟨_,hfr,rfl⟩
def f106 (x0:Int) (x1:Int):Option (Int):=
 some ((w64 ((Wj x0 x1) - (min64 x0 x1))))
theorem en106:Enters Try.prog 106:=enters_of Try.func106 (by kernel_rfl) rfl
theorem wk106 {gI:Gh} {wI:World} {x0:Int} {x1:Int}  {r:Int} (h:f106 x0 x1=some r):Fn Try.prog 106 #[.int .i64 (x0),.int .i64 (x1)] gI wI (fun _ _ v=>v=.int .i64 (r)):=by
 unfold f106 at h
 refine Tf Try.func106 rfl (Nat.le_of_ble_eq_true rfl) fun g0 hm hfr=>?_
 show E _ 12 none _ _ _ _ _
 refine Zf (Za (Zg (.int .i64 (0)) rfl rfl ?_))
 refine Zb (Zd (Zf (Za (Zn (.int .i64 (x0)) rfl rfl ?_))))
 refine Zn (.int .i64 (x1)) rfl rfl ?_
 refine Zy (.int .i64 (Wj x0 x1)) (P_max rfl rfl) rfl ?_
 refine Zn (.int .i64 (x0)) rfl rfl ?_
 refine Zn (.int .i64 (x1)) rfl rfl ?_
 refine Zy (.int .i64 (min64 x0 x1)) (P_min rfl rfl) rfl ?_
 refine Gu (.int .i64 ((w64 ((Wj x0 x1) - (min64 x0 x1))))) rfl rfl rfl rfl ?_
 refine Zg (.int .i64 ((w64 ((Wj x0 x1) - (min64 x0 x1))))) rfl rfl ?_
 refine Zb (Zd (Gw ?_))
 obtain rfl:=sinj h
 exact Wb rfl rfl (show _=.int .i64 ((w64 ((Wj x0 x1) - (min64 x0 x1)))) from rfl) ⟨_,hfr,rfl⟩
def f15 (x0:BoxLoom):Option (BoxLoom):=
 (f50 x0).bind fun y5=>
 some (y5)
theorem en15:Enters Try.prog 15:=enters_of Try.func15 (by kernel_rfl) rfl
theorem wk15 {gI:Gh} {wI:World} {x0:BoxLoom} {up0:Value} (rp0:RV gI.m wI x0 up0) {r:BoxLoom} (h:f15 x0=some r):Fn Try.prog 15 #[up0] gI wI (fun m w v=>RV m w (r) v):=by
 unfold f15 at h
 refine Tf Try.func15 rfl (Nat.le_of_ble_eq_true rfl) fun g0 hm hfr=>?_
 have rp0:RV g0.m wI x0 up0:=hm ▸ rp0
 show E _ 5 none _ _ _ _ _
 refine Zf (Za (Ze .plain rfl (We (g:=g0) rfl rp0 fun g1 w1 p1 hs q1=>?_)))
 have hfr:=hfr.ext hs
 refine Ze .plain rfl (Gs (g:=g1) 2002 (⟨[],[],[]⟩:BoxLoom) Try.zeroValue25 (fun m w=>⟨_,(Gg Gz (Gg Gz Gz)),rfl⟩) fun g2 w2 p2 hs b2 cb=>?_)
 have hfr:=hfr.stp hs
 have q1:=q1.stp hs
 have o0:OSF 2002 60200 0 g2 w2 3 25 ([]:List Int) p2:=cb.osf (by rfl)
 have u3:OSF 2002 60201 1 g2 w2 3 25 ([]:List Int) p2:=cb.osf (by rfl)
 have l5:OSF 2002 60202 2 g2 w2 87 25 ([]:List Zv) p2:=cb.osf (by rfl)
 clear cb
 refine Zb (Zd (Zf (Za (Ze .plain rfl (Gr (g:=g2) Try.isAgg25 Try.sizeOf25 rfl q1 fun v3 r3=>?_)))))
 obtain ⟨y5,hy5,h⟩:=Gc h
 refine Ze .plain rfl (Zp (g:=g2) (vs:=[v3]) en50 (.cons rfl .nil) (wk50 r3 hy5) fun g4 w4_ v4 hs hr=>?_)
 have hfr:=hfr.ext hs
 have b2:=b2.ext hs
 have r4:=hr
 refine Ze .plain rfl (Gk (g:=g4) (v:=v4) Try.sizeOf25 rfl b2 rfl r4 fun g6 w6 hs b6 cb=>?_)
 clear cb
 have hfr:=hfr.stp hs
 refine Zb (Zd (Gw ?_))
 obtain rfl:=sinj h
 obtain ⟨ad7,cv7,hp7,hl7,cr7⟩:=Qv Try.isAgg25 Try.sizeOf25 b6
 exact endm_c rfl rfl ((show _=p2 from rfl).trans hp7) hl7 ⟨_,hfr,cr7⟩
end Go.Proofs.Ytmpjooneiaiffaa
