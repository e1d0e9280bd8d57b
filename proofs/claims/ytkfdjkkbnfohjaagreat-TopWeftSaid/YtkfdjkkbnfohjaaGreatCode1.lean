import Derived.Test.YtkfdjkkbnfohjaaGreatTypes
import Derived.Test.YtkfdjkkbnfohjaaGreatShelf
set_option maxRecDepth 8000
set_option maxHeartbeats 4000000
namespace Go.Proofs.YtkfdjkkbnfohjaaGreat
open Go.RowKit
theorem info_3:(Tryz.prog.info? 3).map (fun i=>(i.zero,i.size,i.bytes))=some (some (.int .i64 0),1,8):=by kernel_rfl
theorem info_65:(Tryz.prog.info? 65).map (fun i=>(i.zero,i.size,i.bytes))=some (some (.agg #[.int .i64 0,.int .i64 0,.int .i64 0,.int .i64 0,.int .i64 0]),5,40):=by kernel_rfl
theorem info_5:(Tryz.prog.info? 5).map (fun i=>(i.zero,i.size,i.bytes))=some (some (.int .u8 0),1,1):=by kernel_rfl
theorem lay_29:layoutOf Tryz.prog 29=some ([.int .i64 0,.slice none 0 0],[(0,1),(1,1)]):=by kernel_rfl
theorem mixed:Tryz.prog.follows .mixedOrders=true:=by kernel_rfl
theorem endm_c {P:Program} {e:Env} {ds:List Deferred} {w:World} {fn:Func} {R:Value→World→Prop} {t0:Tmp} {v0:Value} {y0:TypeId} {a0:Addr} (hres:fn.results=#[.cell t0 y0]) (hd:ds=[]) (h0:e t0=.pointer (some a0)) (l0:(loadVar y0 a0).run P w=.ok v0 w) (h:R v0 w):atEnd P fn R .ret e ds w:=
 ⟨hd,fun tmps ht=>⟨_,by simp [results,hres,ht,asAddr,h0,l0],h⟩⟩
theorem plain_Span:Plain Span:=fun _ m' _ w' x _ h=>(plain_two plain_int plain_int) _ m' _ w' _ _ h
theorem plain_BoxShuttle:Plain BoxShuttle:=fun _ m' _ w' x _ h=>(plain_two plain_int (plain_two plain_int (plain_two plain_int plain_Span))) _ m' _ w' _ _ h
theorem lay_33:layoutOf Tryz.prog 33=some ([.slice none 0 0,.slice none 0 0,.slice none 0 0],[(0,1),(1,1),(2,1)]):=by kernel_rfl
theorem layA_70:((Tryz.prog.info? 70).bind (·.zero)).map (·.cells.toList)=some [.bool false,.bool false,.bool false,.bool false,.bool false,.bool false]:=by kernel_rfl
theorem szA_4:(Tryz.prog.info? 4).map (·.size)=some 1:=by kernel_rfl
theorem lay_42:layoutOf Tryz.prog 42=some ([.int .i64 0,.int .i64 0,.int .i64 0,.int .i64 0],[(0,1),(1,1),(2,1),(3,1)]):=by kernel_rfl
theorem lay_63:layoutOf Tryz.prog 63=some ([.int .i64 0,.int .i64 0],[(0,1),(1,1)]):=by kernel_rfl
theorem capf_0_2 {e:Env} {f:FuncId} {o0:Operand} {u3:Operand} {b0:Value} {b1:Value} (hb0:ev e o0=b0) (hb1:ev e u3=b1):(Value.func (.func f) ((#[]:Array Operand).map (ev e)) ((#[o0,u3]:Array Operand).map (ev e)))=.func (.func f) #[] #[b0,b1]:=by simp [hb0,hb1]
theorem lay_83:layoutOf Tryz.prog 83=some ([.slice none 0 0,.slice none 0 0,.slice none 0 0],[(0,3)]):=by kernel_rfl
theorem capf_0_1 {e:Env} {f:FuncId} {o0:Operand} {b0:Value} (hb0:ev e o0=b0):(Value.func (.func f) ((#[]:Array Operand).map (ev e)) ((#[o0]:Array Operand).map (ev e)))=.func (.func f) #[] #[b0]:=by simp [hb0]
theorem endm_ct {P:Program} {e:Env} {ds:List Deferred} {w:World} {fn:Func} {R:Value→World→Prop} {t0:Tmp} {v0:Value} {y0:TypeId} {a0:Addr} {t1:Tmp} {v1:Value} (hres:fn.results=#[.cell t0 y0,.tmp t1]) (hd:ds=[]) (h0:e t0=.pointer (some a0)) (l0:(loadVar y0 a0).run P w=.ok v0 w) (h1:e t1=v1) (h:R (.tuple #[v0,v1]) w):atEnd P fn R .ret e ds w:=
 ⟨hd,fun tmps ht=>⟨_,by simp [results,hres,ht,asAddr,h0,l0,h1],h⟩⟩
theorem info_27:(Tryz.prog.info? 27).map (fun i=>(i.zero,i.size,i.bytes))=some (some (.slice none 0 0),1,24):=by kernel_rfl
theorem lay_92:layoutOf Tryz.prog 92=some ([.int .i64 0,.int .i64 0],[(0,1),(1,1)]):=by kernel_rfl
theorem pl_89:Pl (Vector Int 4):=Pl.array Pl.int
theorem pl_90:Pl (Vector (Vector Int 4) 2):=Pl.array pl_89
theorem pl_92:Pl BoxPick:=Pl.of (Pl.prod Pl.int Pl.int)
theorem pl_94:Pl BoxRace:=Pl.of (Pl.prod pl_90 pl_92)
theorem pl_98:Pl BoxPoint:=Pl.of (Pl.prod Pl.int (Pl.prod Pl.int pl_94))
theorem eqd_89:EqD Tryz.prog (Vector Int 4) 2 89:=EqD.array Tryz.underlying89 info_3 (by kernel_rfl) Tryz.isAgg3 Tryz.sizeOf3 (EqD.int Tryz.underlying3)
theorem info_89:(Tryz.prog.info? 89).map (fun i=>(i.zero,i.size,i.bytes))=some (some (.agg #[.int .i64 0,.int .i64 0,.int .i64 0,.int .i64 0]),4,32):=by kernel_rfl
theorem eqd_90:EqD Tryz.prog (Vector (Vector Int 4) 2) 3 90:=EqD.array Tryz.underlying90 info_89 (by kernel_rfl) Tryz.isAgg89 Tryz.sizeOf89 eqd_89
theorem fl_92 : Tryz.prog.fieldsOf 92 = #[{ name := "Left", type := 3, offset := 0, embedded := false, tag := "", pkgPath := "", byteOffset := 0 }, { name := "Right", type := 3, offset := 1, embedded := false, tag := "", pkgPath := "", byteOffset := 8 }] := by kernel_rfl
theorem eqd_92:EqD Tryz.prog BoxPick 2 92:=EqD.struct rfl (by kernel_rfl) (by kernel_rfl) (by rw [fl_92]; exact (FEq.cons (by decide) (part_BoxPick_0).1 Tryz.isAgg3 Tryz.sizeOf3 (EqD.int Tryz.underlying3) (FEq.cons (by decide) (part_BoxPick_1).1 Tryz.isAgg3 Tryz.sizeOf3 (EqD.int Tryz.underlying3) FEq.nil))) (fun x y=>by cases x; cases y; simp)
theorem fl_94 : Tryz.prog.fieldsOf 94 = #[{ name := "boxes", type := 90, offset := 0, embedded := false, tag := "", pkgPath := "griffe/box", byteOffset := 0 }, { name := "at", type := 92, offset := 8, embedded := false, tag := "", pkgPath := "griffe/box", byteOffset := 64 }] := by kernel_rfl
theorem eqd_94:EqD Tryz.prog BoxRace 4 94:=EqD.struct rfl (by kernel_rfl) (by kernel_rfl) (by rw [fl_94]; exact (FEq.cons (by decide) (part_BoxRace_0).1 Tryz.isAgg90 Tryz.sizeOf90 eqd_90 (FEq.cons (by decide) (part_BoxRace_1).1 Tryz.isAgg92 Tryz.sizeOf92 (eqd_92.up (by decide)) FEq.nil))) (fun x y=>by cases x; cases y; simp)
theorem fl_98 : Tryz.prog.fieldsOf 98 = #[{ name := "group", type := 3, offset := 0, embedded := false, tag := "", pkgPath := "griffe/box", byteOffset := 0 }, { name := "done", type := 3, offset := 1, embedded := false, tag := "", pkgPath := "griffe/box", byteOffset := 8 }, { name := "race", type := 94, offset := 2, embedded := true, tag := "", pkgPath := "griffe/box", byteOffset := 16 }] := by kernel_rfl
theorem eqd_98:EqD Tryz.prog BoxPoint 5 98:=EqD.struct rfl (by kernel_rfl) (by kernel_rfl) (by rw [fl_98]; exact (FEq.cons (by decide) (part_BoxPoint_0).1 Tryz.isAgg3 Tryz.sizeOf3 ((EqD.int Tryz.underlying3).up (by decide)) (FEq.cons (by decide) (part_BoxPoint_1).1 Tryz.isAgg3 Tryz.sizeOf3 ((EqD.int Tryz.underlying3).up (by decide)) (FEq.cons (by decide) (part_BoxPoint_2).1 Tryz.isAgg94 Tryz.sizeOf94 eqd_94 FEq.nil)))) (fun x y=>by cases x; cases y; simp)
theorem ckd_89:CkD Tryz.prog (Vector Int 4) 2 89:=CkD.array Tryz.underlying89 info_3 (by kernel_rfl) Tryz.isAgg3 Tryz.sizeOf3 (CkD.int Tryz.underlying3)
theorem ckd_90:CkD Tryz.prog (Vector (Vector Int 4) 2) 3 90:=CkD.array Tryz.underlying90 info_89 (by kernel_rfl) Tryz.isAgg89 Tryz.sizeOf89 ckd_89
theorem ckd_92:CkD Tryz.prog BoxPick 2 92:=CkD.struct rfl Tryz.underlying92 fun f hf=>by
 simp only [List.mem_cons,List.not_mem_nil,or_false] at hf
 rcases hf with rfl | rfl
 ·exact ⟨by decide,_,_,_,(part_BoxPick_0).1,Tryz.isAgg3,Tryz.sizeOf3,(CkD.int Tryz.underlying3)⟩
 ·exact ⟨by decide,_,_,_,(part_BoxPick_1).1,Tryz.isAgg3,Tryz.sizeOf3,(CkD.int Tryz.underlying3)⟩
theorem ckd_94:CkD Tryz.prog BoxRace 4 94:=CkD.struct rfl Tryz.underlying94 fun f hf=>by
 simp only [List.mem_cons,List.not_mem_nil,or_false] at hf
 rcases hf with rfl | rfl
 ·exact ⟨by decide,_,_,_,(part_BoxRace_0).1,Tryz.isAgg90,Tryz.sizeOf90,ckd_90⟩
 ·exact ⟨by decide,_,_,_,(part_BoxRace_1).1,Tryz.isAgg92,Tryz.sizeOf92,ckd_92.up (by decide)⟩
theorem ckd_98:CkD Tryz.prog BoxPoint 5 98:=CkD.struct rfl Tryz.underlying98 fun f hf=>by
 simp only [List.mem_cons,List.not_mem_nil,or_false] at hf
 rcases hf with rfl | rfl | rfl
 ·exact ⟨by decide,_,_,_,(part_BoxPoint_0).1,Tryz.isAgg3,Tryz.sizeOf3,(CkD.int Tryz.underlying3).up (by decide)⟩
 ·exact ⟨by decide,_,_,_,(part_BoxPoint_1).1,Tryz.isAgg3,Tryz.sizeOf3,(CkD.int Tryz.underlying3).up (by decide)⟩
 ·exact ⟨by decide,_,_,_,(part_BoxPoint_2).1,Tryz.isAgg94,Tryz.sizeOf94,ckd_94⟩
theorem key_98:KeyLaw Tryz.prog 98 (encK pl_98):=keyLaw_pl pl_98 (by rw [Tryz.underlying98]) rfl eqd_98 ckd_98 (by decide)
theorem lay_136:layoutOf Tryz.prog 136=some ([.int .i64 0,.int .i64 0,.map none],[(0,1),(1,1),(2,1)]):=by kernel_rfl
theorem key_3:KeyLaw Tryz.prog 3 (Value.int .i64):=keyLaw_int Tryz.underlying3
theorem capf_0_3 {e:Env} {f:FuncId} {o0:Operand} {u3:Operand} {l5:Operand} {b0:Value} {b1:Value} {b2:Value} (hb0:ev e o0=b0) (hb1:ev e u3=b1) (hb2:ev e l5=b2):(Value.func (.func f) ((#[]:Array Operand).map (ev e)) ((#[o0,u3,l5]:Array Operand).map (ev e)))=.func (.func f) #[] #[b0,b1,b2]:=by simp [hb0,hb1,hb2]
theorem endm_ctt {P:Program} {e:Env} {ds:List Deferred} {w:World} {fn:Func} {R:Value→World→Prop} {t0:Tmp} {v0:Value} {y0:TypeId} {a0:Addr} {t1:Tmp} {v1:Value} {t2:Tmp} {v2:Value} (hres:fn.results=#[.cell t0 y0,.tmp t1,.tmp t2]) (hd:ds=[]) (h0:e t0=.pointer (some a0)) (l0:(loadVar y0 a0).run P w=.ok v0 w) (h1:e t1=v1) (h2:e t2=v2) (h:R (.tuple #[v0,v1,v2]) w):atEnd P fn R .ret e ds w:=
 ⟨hd,fun tmps ht=>⟨_,by simp [results,hres,ht,asAddr,h0,l0,h1,h2],h⟩⟩
theorem lay_65:layoutOf Tryz.prog 65=some ([.int .i64 0,.int .i64 0,.int .i64 0,.int .i64 0,.int .i64 0],[(0,1),(1,1),(2,1),(3,2)]):=by kernel_rfl
theorem lay_105:layoutOf Tryz.prog 105=some ([.slice none 0 0,.int .i64 0,.int .i64 0,.int .i64 0,.int .i64 0,.int .i64 0,.int .i64 0,.int .i64 0,.int .i64 0,.int .i64 0,.int .i64 0,.int .i64 0],[(0,1),(1,10),(11,1)]):=by kernel_rfl
theorem lay_141:layoutOf Tryz.prog 141=some ([.int .i64 0,.int .i64 0,.int .i64 0,.int .i64 0,.int .i64 0,.int .i64 0,.int .i64 0,.int .i64 0,.int .i64 0,.int .i64 0,.int .i64 0,.int .i64 0],[(0,10),(10,1),(11,1)]):=by kernel_rfl
theorem lay_74:layoutOf Tryz.prog 74=some ([.int .i64 0,.int .i64 0,.int .i64 0,.int .i64 0],[(0,4)]):=by kernel_rfl
theorem lay_79:layoutOf Tryz.prog 79=some ([.int .i64 0,.slice none 0 0],[(0,2)]):=by kernel_rfl
theorem info_9:(Tryz.prog.info? 9).map (fun i=>(i.zero,i.size,i.bytes))=some (some (Str.v ⟨[]⟩),1,16):=by kernel_rfl
theorem lay_36:layoutOf Tryz.prog 36=some ([.int .i64 0,.slice none 0 0],[(0,1),(1,1)]):=by kernel_rfl
theorem pl_133:Pl (Vector Int 2):=Pl.array Pl.int
theorem eqd_133:EqD Tryz.prog (Vector Int 2) 2 133:=EqD.array Tryz.underlying133 info_3 (by kernel_rfl) Tryz.isAgg3 Tryz.sizeOf3 (EqD.int Tryz.underlying3)
theorem ckd_133:CkD Tryz.prog (Vector Int 2) 2 133:=CkD.array Tryz.underlying133 info_3 (by kernel_rfl) Tryz.isAgg3 Tryz.sizeOf3 (CkD.int Tryz.underlying3)
theorem key_133:KeyLaw Tryz.prog 133 (encK pl_133):=keyLaw_pl pl_133 (by rw [Tryz.underlying133]) rfl eqd_133 ckd_133 (by decide)
theorem layA_133:((Tryz.prog.info? 133).bind (·.zero)).map (·.cells.toList)=some [.int .i64 0,.int .i64 0]:=by kernel_rfl
theorem szA_3:(Tryz.prog.info? 3).map (·.size)=some 1:=by kernel_rfl
theorem endm_cc {P:Program} {e:Env} {ds:List Deferred} {w:World} {fn:Func} {R:Value→World→Prop} {t0:Tmp} {v0:Value} {y0:TypeId} {a0:Addr} {t1:Tmp} {v1:Value} {y1:TypeId} {a1:Addr} (hres:fn.results=#[.cell t0 y0,.cell t1 y1]) (hd:ds=[]) (h0:e t0=.pointer (some a0)) (l0:(loadVar y0 a0).run P w=.ok v0 w) (h1:e t1=.pointer (some a1)) (l1:(loadVar y1 a1).run P w=.ok v1 w) (h:R (.tuple #[v0,v1]) w):atEnd P fn R .ret e ds w:=
 ⟨hd,fun tmps ht=>⟨_,by simp [results,hres,ht,asAddr,h0,l0,h1,l1],h⟩⟩
theorem tup2_0 {b0 b1:Value} {B0:Value→Prop} {B1:Value→Prop} (h:∃ c0 c1:Value,Value.tuple #[b0,b1]=.tuple #[c0,c1]∧B0 c0∧B1 c1):B0 b0:=by
 obtain ⟨c0,c1,he,h0,h1⟩:=h; simp at he; obtain ⟨rfl,rfl⟩:=he; exact h0
theorem lay_98:layoutOf Tryz.prog 98=some ([.int .i64 0,.int .i64 0,.int .i64 0,.int .i64 0,.int .i64 0,.int .i64 0,.int .i64 0,.int .i64 0,.int .i64 0,.int .i64 0,.int .i64 0,.int .i64 0],[(0,1),(1,1),(2,10)]):=by kernel_rfl
theorem endm_cctt {P:Program} {e:Env} {ds:List Deferred} {w:World} {fn:Func} {R:Value→World→Prop} {t0:Tmp} {v0:Value} {y0:TypeId} {a0:Addr} {t1:Tmp} {v1:Value} {y1:TypeId} {a1:Addr} {t2:Tmp} {v2:Value} {t3:Tmp} {v3:Value} (hres:fn.results=#[.cell t0 y0,.cell t1 y1,.tmp t2,.tmp t3]) (hd:ds=[]) (h0:e t0=.pointer (some a0)) (l0:(loadVar y0 a0).run P w=.ok v0 w) (h1:e t1=.pointer (some a1)) (l1:(loadVar y1 a1).run P w=.ok v1 w) (h2:e t2=v2) (h3:e t3=v3) (h:R (.tuple #[v0,v1,v2,v3]) w):atEnd P fn R .ret e ds w:=
 ⟨hd,fun tmps ht=>⟨_,by simp [results,hres,ht,asAddr,h0,l0,h1,l1,h2,h3],h⟩⟩
theorem info_92:(Tryz.prog.info? 92).map (fun i=>(i.zero,i.size,i.bytes))=some (some (.agg #[.int .i64 0,.int .i64 0]),2,16):=by kernel_rfl
theorem endm_tcttt {P:Program} {e:Env} {ds:List Deferred} {w:World} {fn:Func} {R:Value→World→Prop} {t0:Tmp} {v0:Value} {t1:Tmp} {v1:Value} {y1:TypeId} {a1:Addr} {t2:Tmp} {v2:Value} {t3:Tmp} {v3:Value} {t4:Tmp} {v4:Value} (hres:fn.results=#[.tmp t0,.cell t1 y1,.tmp t2,.tmp t3,.tmp t4]) (hd:ds=[]) (h0:e t0=v0) (h1:e t1=.pointer (some a1)) (l1:(loadVar y1 a1).run P w=.ok v1 w) (h2:e t2=v2) (h3:e t3=v3) (h4:e t4=v4) (h:R (.tuple #[v0,v1,v2,v3,v4]) w):atEnd P fn R .ret e ds w:=
 ⟨hd,fun tmps ht=>⟨_,by simp [results,hres,ht,asAddr,h0,h1,l1,h2,h3,h4],h⟩⟩
theorem info_63:(Tryz.prog.info? 63).map (fun i=>(i.zero,i.size,i.bytes))=some (some (.agg #[.int .i64 0,.int .i64 0]),2,16):=by kernel_rfl
@[reducible] def ow_BoxLoom:Ow BoxLoom:=Ow.struct (fun (x:BoxLoom)=>(x.Boxes,x.At,x.Shuttles)) (Ow.pair (Ow.list 3 (Ow.sh Int)) (Ow.pair (Ow.list 3 (Ow.sh Int)) (Ow.list 65 (Ow.sh BoxShuttle))))
theorem fl_BoxLoom_2:Fl ow_BoxLoom (Ow.list 65 (Ow.sh BoxShuttle)) 2 (fun (x:BoxLoom) y=>{ x with Shuttles:=y }) (fun (q:(ow_BoxLoom).S) (r:((Ow.list 65 (Ow.sh BoxShuttle))).S)=>((Prod.fst q),((Prod.fst (Prod.snd q)),r))):=Fl.of _ (Fl.comp Prod.snd Prod.snd (Fl.snd _ _) (Fl.comp Prod.snd Prod.snd (Fl.snd _ _) (Fl.id_ _) rfl) rfl) (fun _ _=>rfl)
theorem fl_BoxShuttle_1:Fl (Ow.sh BoxShuttle) (Ow.sh Int) 1 (fun (x:BoxShuttle) y=>{ x with Side:=y }) (fun q _=>q):=Fl.shd part_BoxShuttle_1 (fun _ _=>rfl) (fun _ _ _=>rfl)
theorem fl_BoxShuttle_2:Fl (Ow.sh BoxShuttle) (Ow.sh Int) 2 (fun (x:BoxShuttle) y=>{ x with Box:=y }) (fun q _=>q):=Fl.shd part_BoxShuttle_2 (fun _ _=>rfl) (fun _ _ _=>rfl)
def f36 (x0:List Int):Option (List Int):=apnd 8 [] x0
theorem en36:Enters Tryz.prog 36:=enters_of Tryz.func36 (by kernel_rfl) rfl
def f37 (x0:List BoxShuttle):Option (List BoxShuttle):=apnd 40 [] x0
theorem en37:Enters Tryz.prog 37:=enters_of Tryz.func37 (by kernel_rfl) rfl
theorem atS_0 (a:Addr) (w:World):(Instr.fieldAt 123 (.pointer (some a)) 0).run Tryz.prog w=.ok (.pointer (some (a.add 0))) w:=by simp [Instr.fieldAt,run_underlying Tryz.underlying123,Instr.sureAddr,fieldPlace,Result.andThen]
theorem atS_1 (a:Addr) (w:World):(Instr.fieldAt 123 (.pointer (some a)) 1).run Tryz.prog w=.ok (.pointer (some (a.add 1))) w:=by simp [Instr.fieldAt,run_underlying Tryz.underlying123,Instr.sureAddr,fieldPlace,Result.andThen]
theorem sb_size:(Tryz.prog.info? 123).map (·.size)=some 2:=by kernel_rfl
theorem sb_psize:∃ j,Tryz.prog.info? 123=some j∧j.size=2:=Option.map_eq_some_iff.1 sb_size
theorem en71:Enters Tryz.prog 71:=enters_of Tryz.func71 (by kernel_rfl) rfl
theorem ob_shape {i:Nat} {g:Gh} {w:World} {x:Fv × List UInt8} {b o:Nat} (hb:OB i g w 123 x (.pointer (some ⟨b,o,none⟩))):o=0∧w.shape? b=some (123,2):=by
 obtain ⟨b',cs,hp,_,_,hh,hr⟩:=hb
 injection hp with hp; injection hp with hp; injection hp with h1 h2
 subst h1; subst h2
 have hl:=GoT.len hr
 simp [GoT.k] at hl
 exact ⟨rfl,by simp [World.shape?,hh,hl]⟩
theorem wk71 {i j : Nat} (hji : Nat.beq j i = false) {g : Gh} {w : World} {a : Fv} {xs : List UInt8} {p : Value} (hb : OB i g w 123 (a, xs) p) (ho : OSF i j 1 g w 5 123 xs p) (ha : a.v = .pointer none ∨ a.v = p) :
  Calls Tryz.prog 71 #[p] w fun r w'=>∃ v,r=.returned v∧∃ g',Stp i g w g' w'∧∃ a':Fv,a'.v=p∧OB i g' w' 123 (a',xs) p∧OSF i j 1 g' w' 5 123 xs p:=by
 obtain ⟨b,o,rfl⟩:=hb.ptr
 obtain ⟨hoff,hsh⟩:=ob_shape hb
 subst hoff
 obtain ⟨jt,hj,hjs⟩:=sb_psize
 refine calls_of_E Tryz.func71 rfl (Nat.le_of_ble_eq_true rfl) ?_
 show E _ 20 none _ _ _ _ _
 refine E_seq (E_region (EL_mw (.pointer (some ⟨b,0,none⟩)) rfl rfl ?_))
 refine EL_p (.pointer (some ⟨b,0,none⟩)) (P_nilCheck rfl) rfl ?_
 refine EL_p (fPtr (.pointer (some ⟨b,0,none⟩)) 0) (P_fieldAddr atS_0 rfl ⟨b,0,rfl⟩) rfl ?_
 refine EL_do .plain rfl (D_loadF (g:=g) (a:=(a,xs)) Sub.fst Tryz.isAgg120 Tryz.sizeOf120 rfl hb fun v r=>?_)
 obtain rfl:=RV_fv.1 r
 rcases ha with ha | ha
 ·refine EL_p (.bool true) (P_ptreq (u2 := .pointer none) (.inl rfl) (show _ = .pointer none from ha) rfl ⟨_, rfl⟩ ⟨_, rfl⟩ (fun w => by simpa using run_eql_pointer_nil (P := Tryz.prog) w 120 none Tryz.underlying120)) rfl ?_
  refine EL_nil (thn_n (E_cond_true rfl (E_region ?_)))
  refine EL_mw (.pointer (some ⟨b,0,none⟩)) rfl rfl ?_
  refine EL_mw (.pointer (some ⟨b,0,none⟩)) rfl rfl ?_
  refine EL_val (v:=.pointer (some ⟨b,0,none⟩)) (w':=w) .plain (fun _ h=>by cases h) rfl (by
   have:=Lib.run_to_unsafe w ⟨b,0,none⟩ Tryz.underlying120 Tryz.underlying168 hj (by rw [hjs]; decide) hsh (by show 0 < 2; omega)
   show (Sem.run _ (execOp _ _) _)=_
   simp only [execOp,Sem.run_bind]
   rw [show ev _ (Operand.tmp 8)=Value.pointer (some ⟨b,0,none⟩) from rfl,this]
   rfl) ?_
  refine EL_p (.pointer (some ⟨b,0,none⟩)) (P_extern Tryz.func81 (by kernel_rfl) (by kernel_rfl) (by kernel_rfl) (ex:=Extern.AbiNoEscape.same) (by kernel_rfl) (.cons rfl .nil) (fun _=>rfl)) rfl ?_
  refine EL_val (v:=.pointer (some ⟨b,0,none⟩)) (w':=w) .plain (fun _ h=>by cases h) rfl (by
   have:=Lib.run_from_unsafe w ⟨b,0,none⟩ Tryz.underlying168 Tryz.underlying120 hj hsh (by kernel_rfl)
   show (Sem.run _ (execOp _ _) _)=_
   simp only [execOp,Sem.run_bind]
   rw [show ev _ (Operand.tmp 10)=Value.pointer (some ⟨b,0,none⟩) from rfl,this]
   rfl) ?_
  refine EL_p (.pointer (some ⟨b,0,none⟩)) (P_nilCheck rfl) rfl ?_
  refine EL_p (fPtr (.pointer (some ⟨b,0,none⟩)) 0) (P_fieldAddr atS_0 rfl ⟨b,0,rfl⟩) rfl ?_
  refine EL_do .plain rfl (D_storeFc (g:=g) (a:=(a,xs)) (b:=(⟨.pointer (some ⟨b,0,none⟩),rfl⟩:Fv)) SubS.fst Tryz.sizeOf120 rfl hb rfl (RV_fv.2 rfl) fun g1 w1 hs b1 rst _=>?_)
  exact EL_nil (end0n rfl rfl ⟨g1,hs,_,rfl,b1,ho.rest hs rst rfl hji⟩)
 ·refine EL_p (.bool false) (P_ptreq (u2 := .pointer none) (.inl rfl) (show _ = .pointer (some ⟨b, 0, none⟩) from ha) rfl ⟨_, rfl⟩ ⟨_, rfl⟩ (fun w => by simpa using run_eql_pointer_nil (P := Tryz.prog) w 120 (some ⟨b, 0, none⟩) Tryz.underlying120)) rfl ?_
  refine EL_nil (thn_n (E_cond_false rfl ?_))
  refine E_seq (E_region (EL_mw (.pointer (some ⟨b,0,none⟩)) rfl rfl ?_))
  refine EL_p (.pointer (some ⟨b,0,none⟩)) (P_nilCheck rfl) rfl ?_
  refine EL_p (fPtr (.pointer (some ⟨b,0,none⟩)) 0) (P_fieldAddr atS_0 rfl ⟨b,0,rfl⟩) rfl ?_
  refine EL_do .plain rfl (D_loadF (g:=g) (a:=(a,xs)) Sub.fst Tryz.isAgg120 Tryz.sizeOf120 rfl hb fun v r=>?_)
  obtain rfl:=RV_fv.1 r
  refine EL_mw (.pointer (some ⟨b,0,none⟩)) rfl rfl ?_
  refine EL_p (.bool false) (P_ptreq (.inr rfl) (show _=.pointer (some ⟨b,0,none⟩) from ha) rfl ⟨_,rfl⟩ ⟨_,rfl⟩ (fun w=>Lib.run_neq_ptr_same w ⟨b,0,none⟩ Tryz.underlying120 hj)) rfl ?_
  refine EL_nil (thn_n (E_cond_false rfl (E_skip ?_)))
  exact end0n rfl rfl ⟨g,stp_refl _ _ _,_,ha,hb,ho⟩
theorem en48:Enters Tryz.prog 48:=enters_of Tryz.func48 (by kernel_rfl) rfl
theorem wk48 {i j : Nat} (hji : Nat.beq j i = false) (hij : Nat.beq i j = false) {g : Gh} {w : World} {c : UInt8} {xs r : List UInt8} {p : Value} (hsb : SB i j g w 5 123 xs p) (hr : apnd 1 xs [c] = some r) :
  Calls Tryz.prog 48 #[p,.int .u8 c.toNat] w fun q w'=>∃ v,q=.returned v∧v=.nilIface∧WB i j g w 5 123 r p w':=by
 obtain ⟨a,hb,ho,ha⟩:=hsb
 obtain ⟨b,o,rfl⟩:=hb.ptr
 obtain ⟨hoff,hsh⟩:=ob_shape hb
 subst hoff
 refine calls_of_E Tryz.func48 rfl (Nat.le_of_ble_eq_true rfl) ?_
 show E _ 17 none _ _ _ _ _
 refine E_seq (E_region (EL_at (.nilIface) rfl rfl ?_))
 refine EL_nil (thn_n (E_seq (E_region (EL_mw (.pointer (some ⟨b,0,none⟩)) rfl rfl ?_))))
 refine EL_do .plain rfl (D_callC (vs:=[.pointer (some ⟨b,0,none⟩)]) en71 (.cons rfl .nil) (wk71 hji hb ho ha) fun v w1 h1=>?_)
 obtain ⟨g1,hs1,a1,ha1,hb1,ho1⟩:=h1
 refine EL_nil (thn_n (E_seq (E_region (EL_mw (.pointer (some ⟨b,0,none⟩)) rfl rfl ?_))))
 refine EL_mw (.pointer (some ⟨b,0,none⟩)) rfl rfl ?_
 refine EL_p (.pointer (some ⟨b,0,none⟩)) (P_nilCheck rfl) rfl ?_
 refine EL_p (fPtr (.pointer (some ⟨b,0,none⟩)) 1) (P_fieldAddr atS_1 rfl ⟨b,0,rfl⟩) rfl ?_
 refine EL_do .plain rfl (D_loadFS (g:=g1) (a:=(a1,xs)) (f:=Prod.snd) Sub.snd Tryz.isAgg121 Tryz.sizeOf121 rfl hb1 ho1 fun v2 r2 o2=>?_)
 refine EL_mw (.int .u8 c.toNat) rfl rfl ?_
 refine EL_do .plain rfl (D_buildSlice (g:=g1) 1 (xs:=[c]) (vs:=[.int .u8 c.toNat]) Tryz.underlying121 Tryz.sizeOf5 Tryz.zeroValue5 rfl rfl (.cons rfl .nil) (RVs.cons (RV_u8.2 rfl) RVs.nil) rfl rfl fun g3 w3 v3 _ _ r3 hxt _=>?_)
 refine EL_do .plain rfl (D_append (g:=g3) (i:=j) Tryz.underlying121 info_5 rfl rfl (o2.ext hxt) (r2.ext hxt) rfl r3 hr fun g4 w4 v4 hs4 o4 r4 _=>?_)
 have hb4:=(hb1.ext hxt).stp hs4 hij
 refine EL_p (.pointer (some ⟨b,0,none⟩)) (P_nilCheck rfl) rfl ?_
 refine EL_p (fPtr (.pointer (some ⟨b,0,none⟩)) 1) (P_fieldAddr atS_1 rfl ⟨b,0,rfl⟩) rfl ?_
 refine EL_do .plain rfl (D_storeFc (g:=g4) (a:=(a1,xs)) SubS.snd Tryz.sizeOf121 rfl hb4 rfl r4 fun g5 w5 hs5 b5 _ hos=>?_)
 have o5:=hos _ _ j 5 r (rv_cells1 r4) hji o4
 refine EL_nil (thn_n (E_seq (E_region (EL_at (.nilIface) rfl rfl ?_))))
 refine EL_nil (thn_n (E_ret (end1 rfl rfl (show _=.nilIface from rfl) ⟨rfl,g5,⟨g1,w1,g4,w4,hs1,(hxt.stp.trans hs4),hs5⟩,a1,b5,o5,.inr ha1⟩)))
theorem en51:Enters Tryz.prog 51:=enters_of Tryz.func51 (by kernel_rfl) rfl
theorem mixedS:Tryz.prog.follows .mixedOrders=true:=by kernel_rfl
theorem wk51 {i j : Nat} (hij : Nat.beq i 0 = false) {g : Gh} {w : World} {xs : List UInt8} {p : Value} (hsb : SB i j g w 5 123 xs p) (h0 : xs ≠ []) :
  Calls Tryz.prog 51 #[p] w fun q w'=>∃ v,q=.returned v∧GS j g w xs v w':=by
 obtain ⟨a,hb,ho,ha⟩:=hsb
 obtain ⟨b,o,rfl⟩:=hb.ptr
 obtain ⟨hoff,hsh⟩:=ob_shape hb
 subst hoff
 refine calls_of_E Tryz.func51 rfl (Nat.le_of_ble_eq_true rfl) ?_
 show E _ 14 none _ _ _ _ _
 refine E_seq (E_region (EL_at (Str.v ⟨[]⟩) rfl rfl ?_))
 refine EL_nil (thn_n (L_loadFSx (f:=Prod.snd) (a:=(a,xs)) Sub.snd Tryz.isAgg121 Tryz.sizeOf121 hb ho fun v r os hl=>?_))
 obtain ⟨sa,c,rfl,hc,_⟩:=RV_list r
 have hne:c ≠ 0:=by
  have : 0 < xs.length := by cases xs with
   | nil=>exact absurd rfl h0
   | cons _ _=>simp
  have hc':xs.length ≤ c:=hc
  omega
 refine E_seq (E_drawL (g:=g) (n:=10) [] [0,1,2,3,4,5,6,7,8,9] rfl mixedS (by kernel_rfl) trivial ?_)
 refine L_p (.pointer (some ⟨b,0,none⟩)) rfl rfl (P_move rfl) ?_
 refine L_p (.pointer (some ⟨b,0,none⟩)) rfl rfl (P_nilCheck rfl) ?_
 refine L_p (fPtr (.pointer (some ⟨b,0,none⟩)) 1) rfl rfl (P_fieldAddr atS_1 rfl ⟨b,0,rfl⟩) ?_
 refine L_ld (c:=.slice sa xs.length c) rfl rfl .plain (fun _ _ h=>⟨h.ch,fun b hb _=>h.below.block b hb⟩) (hl _) rfl ?_
 refine L_p (.pointer sa) rfl rfl (P_sliceData (a:=sa) (n:=xs.length) (c:=c) rfl (.inl hne)) ?_
 refine L_p (.pointer (some ⟨b,0,none⟩)) rfl rfl (P_move rfl) ?_
 refine L_p (.pointer (some ⟨b,0,none⟩)) rfl rfl (P_nilCheck rfl) ?_
 refine L_p (fPtr (.pointer (some ⟨b,0,none⟩)) 1) rfl rfl (P_fieldAddr atS_1 rfl ⟨b,0,rfl⟩) ?_
 refine L_ld (c:=.slice sa xs.length c) rfl rfl .plain (fun _ _ h=>⟨h.ch,fun b hb _=>h.below.block b hb⟩) (hl _) rfl ?_
 refine L_p (.int .i64 (xs.length:Int)) rfl rfl (P_len (v:=.slice sa xs.length c) Tryz.underlying121 rfl r) ?_
 refine L_nil fun g1 w1 hall=>?_
 have hs:=hall.1
 refine EL_do .plain rfl (D_unsafeString (g:=g1) (j:=j) (et:=5) rfl Tryz.underlying159 (by kernel_rfl) h0 rfl rfl (os.ext hs) (r.ext hs) fun g2 w2 hs2=>?_)
 refine EL_at (Str.v ⟨xs⟩) rfl rfl ?_
 exact EL_nil (thn_n (E_ret (end1 rfl rfl (show _=Str.v ⟨xs⟩ from rfl) ⟨rfl,g2,hs.stp.trans hs2⟩)))
theorem en44:Enters Tryz.prog 44:=enters_of Tryz.func44 (by kernel_rfl) rfl
theorem mul_ok:Muls Tryz.prog 44:=fun x y hx hy w=>Tryz.bits_Mul x y hx hy w
theorem en64:Enters Tryz.prog 64:=enters_of Tryz.func64 (by kernel_rfl) rfl
theorem en65:Enters Tryz.prog 65:=enters_of Tryz.func65 (by kernel_rfl) rfl
def f4 (x0:UInt8) (x1:List UInt16):Option (Design):=
 (rem64 ((x0).toNat:Int) (7:Int)).bind fun y2=>
 Option.bind (α:=Design) (
  lp (σ:=Design × Int) (fun mC (u3,o0)=>
   jn (σ:=Unit) (fun _=>
    Option.bind (α:=Design) (
     Option.bind (α:=Int) (
      bif (decide (o0 < ((x1).length : Int))) then
       (idx x1 o0).bind fun iA=>
       (shl64 (1:Int) (wu64 (u3).Hooks)).bind fun tB=>
       (rem64 ((iA).toNat:Int) tB).bind fun rA=>
       some (rA)
      else
       some ((1:Int))
      ) fun k8=>
     (apnd 8 ((u3).Rows) (([k8]:List Int))).bind fun vB=>
     some ({ u3 with Rows:=vB })
     ) fun l8=>
    mC (l8,(w64 (o0 + (1:Int))))
    ) fun qC=>
   Option.bind (α:=Bool) (
    bif (o0 == (0 : Int)) then
     some (true)
    else
     bif (decide (o0 < ((x1).length : Int))) then
      some ((decide (o0 < (12:Int))))
     else
      some (false)
    ) fun y6=>
   bif y6 then
    qC ()
   else
    some (u3)
   ) big ((⟨(w64 ((2:Int) + y2)),[]⟩:Design),(0:Int))
  ) fun m8=>
 some (m8)
theorem en4:Enters Tryz.prog 4:=enters_of Tryz.func4 (by kernel_rfl) rfl
theorem wk4 {gI:Gh} {wI:World} {x0:UInt8} {x1:List UInt16} {up1:Value} (rp1:RV gI.m wI x1 up1) {r:Design} (h:f4 x0 x1=some r):Fn Tryz.prog 4 #[.int .u8 (UInt8.toNat (x0)),up1] gI wI (fun m w v=>RV m w (r) v):=by
 unfold f4 at h
 refine fn_of_E Tryz.func4 rfl (Nat.le_of_ble_eq_true rfl) fun g0 hm hfr=>?_
 have rp1:RV g0.m wI x1 up1:=hm ▸ rp1
 show E _ 48 none _ _ _ _ _
 refine E_seq (E_region (EL_do .plain rfl (D_allocOc (g:=g0) 2004 (⟨0,[]⟩:Design) Tryz.zeroValue29 (fun m w=>⟨_,(rep_two rep_int rep_nil),rfl⟩) fun g1 w1 p1 hs b1 cb=>?_)))
 have hfr:=hfr.stp hs
 have rp1:=rp1.stp hs
 have d9:OSF 2004 60401 1 g1 w1 3 29 ([]:List Int) p1:=cb.osf (by rfl)
 clear cb
 refine EL_nil (thn_n (E_seq (E_region (EL_mw (.int .u8 (UInt8.toNat (x0))) rfl rfl ?_))))
 refine EL_p (.int .i64 (((x0).toNat:Int))) (P_u8int Tryz.underlying5 Tryz.underlying3 rfl) rfl ?_
 obtain ⟨y2,hy2,h⟩:=bsome h
 refine EL_p (.int .i64 (y2)) (P_int rfl rfl (congrArg (Option.map (Value.int .i64)) hy2)) rfl ?_
 refine EL_in (.int .i64 ((w64 ((2:Int) + y2)))) rfl rfl rfl rfl ?_
 have r3:RV g1.m w1 (⟨(w64 ((2:Int) + y2)),[]⟩:Design) (.agg (setCh [[.int .i64 0],[.slice none 0 0]] [(0,.int .i64 ((w64 ((2:Int) + y2))))]).flatten.toArray):=RV_build rfl (rep_pair (rfl) (rep_last (rep_nil)))
 generalize hv3:(Value.agg (setCh [[.int .i64 0],[.slice none 0 0]] [(0,.int .i64 ((w64 ((2:Int) + y2))))]).flatten.toArray)=v3 at r3
 refine EL_p v3 (hv3 ▸ P_build (vs:=[(0,.int .i64 ((w64 ((2:Int) + y2))))]) [[.int .i64 0],[.slice none 0 0]] lay_29 rfl rfl (.cons rfl .nil) ⟨⟨_,rfl,rfl⟩,trivial⟩) rfl ?_
 refine EL_do .plain rfl (D_allocOc (g:=g1) 2005 (⟨0,[]⟩:Design) Tryz.zeroValue29 (fun m w=>⟨_,(rep_two rep_int rep_nil),rfl⟩) fun g4 w4 p4 hs b4 cb=>?_)
 have hfr:=hfr.stp hs
 have rp1:=rp1.stp hs
 have d9:=d9.stp hs rfl
 have b1:=b1.stp hs rfl
 have r3:=r3.stp hs
 have iG:OSF 2005 60501 1 g4 w4 3 29 ([]:List Int) p4:=cb.osf (by rfl)
 clear cb
 refine EL_do .plain rfl (D_storeOc (g:=g4) (v:=v3) Tryz.sizeOf29 rfl b4 rfl r3 fun g5 w5 hs b5 cb=>?_)
 have zE:OSF 2005 60501 1 g5 w5 3 29 ([]:List Int) p4:=cb.osf (by rw [← hv3]; rfl)
 clear cb
 have hfr:=hfr.stp hs
 have rp1:=rp1.stp hs
 have d9:=d9.stp hs rfl
 have b1:=b1.stp hs rfl
 refine EL_nil (thn_n ?_)
 obtain ⟨m8,hx,h⟩:=bsome h
 refine E_join (fun e w=>∃ (g:Gh) ,Fr gI wI g w∧e 4=p1∧OB 2004 g w 29 ((⟨0,[]⟩:Design):Design) p1∧OSF 2004 60401 1 g w 3 29 (((⟨0,[]⟩:Design)).Rows) p1∧e 5=p4∧OB 2005 g w 29 (m8:Design) p4∧OSF 2005 60501 1 g w 3 29 ((m8).Rows) p4) (fun Q' hQ=>?_) (fun aG jG hR=>?_)
 ·replace h := hx
  clear hx
  refine E_seq (E_region (EL_at (.int .i64 (0)) rfl rfl ?_))
  refine EL_nil (thn_n (E_block ?_))
  refine E_lp h (fun (s:Design × Int) e w=>∃ (g:Gh) ,Fr gI wI g w∧e 1=up1∧RV g.m w (x1:List UInt16) up1∧e 4=p1∧OB 2004 g w 29 ((⟨0,[]⟩:Design):Design) p1∧OSF 2004 60401 1 g w 3 29 (((⟨0,[]⟩:Design)).Rows) p1∧e 5=p4∧OB 2005 g w 29 (s.1:Design) p4∧OSF 2005 60501 1 g w 3 29 ((s.1).Rows) p4∧e 6=.int .i64 (s.2)) ⟨g5,hfr,rfl,rp1,rfl,b1,d9,rfl,b5,zE,rfl⟩ (fun X152 mC lE=>?_)
  rintro ⟨u3,o0⟩ bG kG ⟨yB,hfr,n8,r8,k9,l9,u4_1_153,n9,u9,u5_1_153,i7⟩ h
  refine E_joinC h (fun (s:Unit) e w=>∃ (g:Gh) ,Fr gI wI g w∧e 1=up1∧RV g.m w (x1:List UInt16) up1∧e 4=p1∧OB 2004 g w 29 ((⟨0,[]⟩:Design):Design) p1∧OSF 2004 60401 1 g w 3 29 (((⟨0,[]⟩:Design)).Rows) p1∧e 5=p4∧OB 2005 g w 29 (u3:Design) p4∧OSF 2005 60501 1 g w 3 29 ((u3).Rows) p4∧e 6=.int .i64 (o0)) (fun X160 qC mE h=>?_) ?_
  ·obtain ⟨y6, hx, h⟩ := bsome h
   refine E_join (fun e w=>∃ (g:Gh) ,Fr gI wI g w∧e 1=up1∧RV g.m w (x1:List UInt16) up1∧e 4=p1∧OB 2004 g w 29 ((⟨0,[]⟩:Design):Design) p1∧OSF 2004 60401 1 g w 3 29 (((⟨0,[]⟩:Design)).Rows) p1∧e 5=p4∧OB 2005 g w 29 (u3:Design) p4∧OSF 2005 60501 1 g w 3 29 ((u3).Rows) p4∧e 6=.int .i64 (o0)∧e 24=.bool (y6)) (fun Q' hQ=>?_) (fun cG lG hR=>?_)
   ·replace h := hx
    clear hx
    refine E_region (EL_mv i7 rfl ?_)
    refine EL_in (.bool ((o0 == (0:Int)))) rfl rfl rfl rfl ?_
    refine EL_mw (.bool ((o0 == (0:Int)))) rfl rfl ?_
    rcases csome h with ⟨l5,h⟩ | ⟨l5,h⟩
    ·refine EL_s rfl rfl l5 rfl rfl ?_
     iterate 4 refine EL_s rfl rfl l5 rfl rfl ?_
     refine EL_skip (.off rfl rfl) rfl ?_
     refine EL_skip (.off rfl rfl) rfl ?_
     refine EL_s rfl rfl l5 rfl rfl ?_
     refine EL_p (.bool true) (P_pick (b:=(o0 == (0:Int))) rfl (pick_t l5 rfl)) rfl ?_
     refine EL_nil ?_
     obtain rfl:=sinj h
     exact hQ _ _ ⟨yB,hfr,n8,r8,k9,l9,u4_1_153,n9,u9,u5_1_153,i7,rfl⟩
    ·refine EL_y (.int .i64 (o0)) (P_move i7) rfl rfl l5 rfl ?_
     refine EL_y up1 (P_move n8) rfl rfl l5 rfl ?_
     refine EL_y (.int .i64 ((x1).length:Int)) (P_len Tryz.underlying22 rfl r8) rfl rfl l5 rfl ?_
     refine EL_y (.bool ((decide (o0 < ((x1).length:Int))))) (P_int rfl rfl rfl) rfl rfl l5 rfl ?_
     refine EL_y (.bool ((decide (o0 < ((x1).length:Int))))) (P_move rfl) rfl rfl l5 rfl ?_
     rcases csome h with ⟨g8,h⟩ | ⟨g8,h⟩
     ·refine EL_y (.int .i64 (o0)) (P_move i7) rfl rfl g8 rfl ?_
      refine EL_y (.bool ((decide (o0 < (12:Int))))) (P_int rfl rfl rfl) rfl rfl g8 rfl ?_
      refine EL_y (.bool ((decide (o0 < (12:Int))))) (P_pick (b:=(decide (o0 < ((x1).length:Int)))) rfl (pick_t g8 rfl)) rfl rfl l5 rfl ?_
      refine EL_p (.bool ((decide (o0 < (12:Int))))) (P_pick (b:=(o0 == (0:Int))) rfl (pick_f l5 rfl)) rfl ?_
      refine EL_nil ?_
      obtain rfl:=sinj h
      exact hQ _ _ ⟨yB,hfr,n8,r8,k9,l9,u4_1_153,n9,u9,u5_1_153,i7,rfl⟩
     ·refine EL_s rfl rfl g8 rfl rfl ?_
      refine EL_s rfl rfl g8 rfl rfl ?_
      refine EL_y (.bool false) (P_pick (b:=(decide (o0 < ((x1).length:Int)))) rfl (pick_f g8 rfl)) rfl rfl l5 rfl ?_
      refine EL_p (.bool false) (P_pick (b:=(o0 == (0:Int))) rfl (pick_f l5 rfl)) rfl ?_
      refine EL_nil ?_
      obtain rfl:=sinj h
      exact hQ _ _ ⟨yB,hfr,n8,r8,k9,l9,u4_1_153,n9,u9,u5_1_153,i7,rfl⟩
   ·clear hx
    obtain ⟨rC,hfr,uC,vC,dB,iB,u4_1_165,lB,mB,u5_1_165,aD,bA⟩:=hR
    rcases csome h with ⟨yA,h⟩ | ⟨yA,h⟩
    ·refine E_cond_true (Eq.trans (show ev _ _ = .bool (y6) from bA) (congrArg Value.bool yA)) ?_
     exact E_skip (thn_n (mE () _ _ ⟨rC,hfr,uC,vC,dB,iB,u4_1_165,lB,mB,u5_1_165,aD⟩ h))
    ·refine E_cond_false (Eq.trans (show ev _ _ = .bool (y6) from bA) (congrArg Value.bool yA)) ?_
     refine E_exit ?_
     refine thn_e ?_
     refine thn_e ?_
     refine blk_hit ?_
     obtain rfl:=sinj h
     exact hQ _ _ ⟨rC,hfr,dB,iB,u4_1_165,lB,mB,u5_1_165⟩
  ·rintro _ eG mG ⟨bD, hfr, v8, x5, nB, x8, u4_1_167, y9, m7, u5_1_167, a9⟩ h
   obtain ⟨l8,hx,h⟩:=bsome h
   refine E_join (fun e w=>∃ (g:Gh) ,Fr gI wI g w∧e 1=up1∧RV g.m w (x1:List UInt16) up1∧e 4=p1∧OB 2004 g w 29 ((⟨0,[]⟩:Design):Design) p1∧OSF 2004 60401 1 g w 3 29 (((⟨0,[]⟩:Design)).Rows) p1∧e 5=p4∧OB 2005 g w 29 (l8:Design) p4∧OSF 2005 60501 1 g w 3 29 ((l8).Rows) p4∧e 6=.int .i64 (o0)) (fun Q' hQ=>?_) (fun gG sG hR=>?_)
   ·replace h := hx
    clear hx
    refine E_block ?_
    refine E_seq (E_region (EL_at (.int .i64 (1)) rfl rfl ?_))
    refine EL_nil (thn_n ?_)
    obtain ⟨k8,hx,h⟩:=bsome h
    refine E_join (fun e w=>∃ (g:Gh) ,Fr gI wI g w∧e 1=up1∧RV g.m w (x1:List UInt16) up1∧e 4=p1∧OB 2004 g w 29 ((⟨0,[]⟩:Design):Design) p1∧OSF 2004 60401 1 g w 3 29 (((⟨0,[]⟩:Design)).Rows) p1∧e 5=p4∧OB 2005 g w 29 (u3:Design) p4∧OSF 2005 60501 1 g w 3 29 ((u3).Rows) p4∧e 6=.int .i64 (o0)∧e 7=.int .i64 (k8)) (fun Q' hQ=>?_) (fun hG xG hR=>?_)
    ·replace h := hx
     clear hx
     refine E_seq (E_region (EL_mv a9 rfl ?_))
     refine EL_mv v8 rfl ?_
     refine EL_p (.int .i64 ((x1).length:Int)) (P_len Tryz.underlying22 rfl x5) rfl ?_
     refine EL_in (.bool ((decide (o0 < ((x1).length:Int))))) rfl rfl rfl rfl ?_
     refine EL_nil (thn_n ?_)
     rcases csome h with ⟨aB,h⟩ | ⟨aB,h⟩
     ·refine E_ct aB rfl ?_
      obtain ⟨iA,cC,h⟩:=bsome h
      have cF:=PT_idx x5 cC
      refine L_load (x:=.tmp 33) Tryz.isAgg68 Tryz.sizeOf68 cF fun yG dF oE=>?_
      obtain rfl:=RV_u16.1 dF
      refine L_loadO (x:=.tmp 36) part_Design_0.1 Tryz.isAgg3 Tryz.sizeOf3 m7 fun zG eF rE=>?_
      obtain rfl:=RV_int.1 eF
      obtain ⟨tB,uE,h⟩:=bsome h
      obtain ⟨rA,vE,h⟩:=bsome h
      refine E_drawL (g:=bD) (n:=11) [] [0,1,2,3,4,5,6,7,8,9,10] rfl mixed (by kernel_rfl) trivial ?_
      refine L_p up1 rfl rfl (P_move v8) ?_
      refine L_p (.int .i64 (o0)) rfl rfl (P_move a9) ?_
      refine L_p (ePtr up1 o0 1) rfl rfl (P_indexAddr (α:=UInt16) Tryz.underlying22 Tryz.sizeOf68 rfl x5 rfl cC) ?_
      refine L_ld (c:=.int .u16 (UInt16.toNat (iA))) rfl rfl .plain (fun _ _ h=>h.ch) oE rfl ?_
      refine L_p (.int .i64 (((iA).toNat:Int))) rfl rfl (P_u16int Tryz.underlying68 Tryz.underlying3 rfl) ?_
      refine L_p (fPtr p4 0) rfl rfl (P_fieldAddr at_29_0 y9 (OB.ptr m7)) ?_
      refine L_ld (c:=.int .i64 ((u3).Hooks)) rfl rfl .plain (fun _ _ h=>⟨h.ch,fun b hb _=>h.below.block b hb⟩) rE rfl ?_
      refine L_p (.int .u64 (wu64 (u3).Hooks)) rfl rfl (P_intu64 Tryz.underlying3 Tryz.underlying69 rfl) ?_
      refine L_p (.int .i64 (tB)) rfl rfl (P_shlu rfl rfl uE) ?_
      refine L_p (.int .i64 (rA)) rfl rfl (P_int rfl rfl (congrArg (Option.map (Value.int .i64)) vE)) ?_
      refine L_p (.int .i64 (rA)) rfl rfl (P_assign rfl) ?_
      refine L_nl fun rF aH hs=>?_
      have hfr:=hfr.ext hs
      have x5:=x5.ext hs
      have u4_1_167:=u4_1_167.ext hs
      have x8:=x8.ext hs
      have u5_1_167:=u5_1_167.ext hs
      have m7:=m7.ext hs
      clear hs
      refine EL_nil ?_
      obtain rfl:=sinj h
      exact hQ _ _ ⟨rF,hfr,v8,x5,nB,x8,u4_1_167,y9,m7,u5_1_167,a9,rfl⟩
     ·refine E_cf aB rfl ?_
      refine E_skip ?_
      obtain rfl:=sinj h
      exact hQ _ _ ⟨bD,hfr,v8,x5,nB,x8,u4_1_167,y9,m7,u5_1_167,a9,rfl⟩
    ·clear hx
     obtain ⟨cD,hfr,eD,i6,gD,x6,u4_1_288,z9,t5,u5_1_288,iD,jD⟩:=hR
     refine E_region (EL_p (fPtr p4 1) (P_fieldAddr at_29_1 z9 (OB.ptr t5)) rfl ?_)
     refine EL_do .plain rfl (D_loadFS (g:=cD) part_Design_1.1 Tryz.isAgg27 Tryz.sizeOf27 rfl t5 u5_1_288 fun cH zB o290=>?_)
     refine EL_mv jD rfl ?_
     refine EL_do .plain rfl (D_buildSlice (g:=cD) 3044 (xs:=([k8]:List Int)) (vs:=[.int .i64 (k8)]) Tryz.underlying27 Tryz.sizeOf3 Tryz.zeroValue3 rfl rfl (.cons rfl .nil) (RVs.cons (RV_int.2 rfl) RVs.nil) rfl rfl fun sF dH gH hs o291 tF hxt hfl=>?_)
     have hfr:=hfr.stp hs
     have i6:=i6.stp hs
     have u4_1_288:=u4_1_288.stp hs rfl
     have x6:=x6.stp hs rfl
     have t5:=t5.stp hs rfl
     have zB:=zB.stp hs
     have o290:=o290.stp hs rfl
     obtain ⟨vB,xE,h⟩:=bsome h
     refine EL_do .plain rfl (D_append (g:=sF) (i:=60501) Tryz.underlying27 info_3 rfl rfl o290 zB rfl tF xE fun uF iH jH hs o292 lD _=>?_)
     have hfr:=hfr.stp hs
     have i6:=i6.stp hs
     have u4_1_288:=u4_1_288.stp hs rfl
     have x6:=x6.stp hs rfl
     have t5:=t5.stp hs rfl
     refine EL_p (fPtr p4 1) (P_fieldAddr at_29_1 z9 (OB.ptr t5)) rfl ?_
     refine EL_do .plain rfl (D_storeFc (g:=uF) part_Design_1 Tryz.sizeOf27 rfl t5 rfl lD fun vF kH hs b295 rst hos=>?_)
     have nD:=hos _ _ 60501 3 (vB:List Int) (rv_cells1 lD) rfl o292
     clear rst hos
     have hfr:=hfr.stp hs
     have i6:=i6.stp hs
     have u4_1_288:=u4_1_288.stp hs rfl
     have x6:=x6.stp hs rfl
     refine EL_nil (blk_n ?_)
     obtain rfl:=sinj h
     exact hQ _ _ ⟨vF,hfr,eD,i6,gD,x6,u4_1_288,z9,b295,nD,iD⟩
   ·clear hx
    obtain ⟨xF,hfr,oD,sD,tD,uD,u4_1_296,vD,xD,u5_1_296,yD⟩:=hR
    refine E_region (EL_mv yD rfl ?_)
    refine EL_in (.int .i64 ((w64 (o0 + (1:Int))))) rfl rfl rfl rfl ?_
    refine EL_at (.int .i64 ((w64 (o0 + (1:Int))))) rfl rfl ?_
    exact EL_nil (thn_n (lE (l8,(w64 (o0 + (1:Int)))) _ _ ⟨xF,hfr,oD,sD,tD,uD,u4_1_296,vD,xD,u5_1_296,rfl⟩ h))
 ·clear hx
  obtain ⟨zD,hfr,oB,aE,u4_1_297,bE,iE,u5_1_297⟩:=hR
  refine E_seq (E_region (EL_do .plain rfl (D_loadO (g:=zD) Tryz.isAgg29 Tryz.sizeOf29 bE iE fun yF zF=>?_)))
  refine EL_do .plain rfl (D_storeOc (g:=zD) (v:=yF) Tryz.sizeOf29 oB aE rfl zF fun lH mH hs b299 cb=>?_)
  clear cb
  have hfr:=hfr.stp hs
  refine EL_nil (thn_n (E_ret ?_))
  obtain rfl:=sinj h
  obtain ⟨ad300,cv300,hp300,yE,cr300⟩:=ob_read Tryz.isAgg29 Tryz.sizeOf29 b299
  exact endm_c rfl rfl ((show _=p1 from oB).trans hp300) yE ⟨_,hfr,cr300⟩
def f8 (x0:Design):Option (Design):=
 (apnd 8 (([]:List Int)) ((x0).Rows)).bind fun y7=>
 some ({ x0 with Rows:=y7 })
theorem en8:Enters Tryz.prog 8:=enters_of Tryz.func8 (by kernel_rfl) rfl
theorem wk8 {gI:Gh} {wI:World} {x0:Design} {up0:Value} (rp0:RV gI.m wI x0 up0) {r:Design} (h:f8 x0=some r):Fn Tryz.prog 8 #[up0] gI wI (fun m w v=>RV m w (r) v):=by
 unfold f8 at h
 refine fn_of_E Tryz.func8 rfl (Nat.le_of_ble_eq_true rfl) fun g0 hm hfr=>?_
 have rp0:RV g0.m wI x0 up0:=hm ▸ rp0
 show E _ 9 none _ _ _ _ _
 refine E_seq (E_region (EL_do .plain rfl (D_boxO (g:=g0) 2001 rfl rp0 fun g1 w1 p1 hs b1=>?_)))
 have hfr:=hfr.stp hs
 refine EL_do .plain rfl (D_allocOc (g:=g1) 2002 (⟨0,[]⟩:Design) Tryz.zeroValue29 (fun m w=>⟨_,(rep_two rep_int rep_nil),rfl⟩) fun g2 w2 p2 hs b2 cb=>?_)
 have hfr:=hfr.stp hs
 have b1:=b1.stp hs rfl
 have t5:OSF 2002 60201 1 g2 w2 3 29 ([]:List Int) p2:=cb.osf (by rfl)
 clear cb
 refine EL_nil (thn_n (E_seq (E_region (EL_do .plain rfl (D_buildSlice (g:=g2) 3003 (xs:=([]:List Int)) (vs:=[]) Tryz.underlying27 Tryz.sizeOf3 Tryz.zeroValue3 rfl rfl .nil RVs.nil rfl rfl fun g3 w3 v3 hs o3 r3 hxt hfl=>?_)))))
 have hfr:=hfr.stp hs
 have b1:=b1.stp hs rfl
 have b2:=b2.stp hs rfl
 refine EL_p (fPtr p1 1) (P_fieldAddr at_29_1 rfl (OB.ptr b1)) rfl ?_
 refine EL_do .plain rfl (D_loadF (g:=g3) part_Design_1.1 Tryz.isAgg27 Tryz.sizeOf27 rfl b1 fun v5 r5=>?_)
 obtain ⟨y7,o0,h⟩:=bsome h
 refine EL_do .plain rfl (D_append (g:=g3) (i:=3003) Tryz.underlying27 info_3 rfl rfl o3 r3 rfl r5 o0 fun g6 w6 v6 hs o6 r6 _=>?_)
 have hfr:=hfr.stp hs
 have b1:=b1.stp hs rfl
 have b2:=b2.stp hs rfl
 refine EL_p (fPtr p1 1) (P_fieldAddr at_29_1 rfl (OB.ptr b1)) rfl ?_
 refine EL_do .plain rfl (D_storeFc (g:=g6) part_Design_1 Tryz.sizeOf27 rfl b1 rfl r6 fun g9 w9 hs b9 rst hos=>?_)
 have x5:=hos _ _ 3003 3 (y7:List Int) (rv_cells1 r6) rfl o6
 clear rst hos
 have hfr:=hfr.stp hs
 have b2:=b2.stp hs rfl
 refine EL_nil (thn_n (E_seq (E_region (EL_do .plain rfl (D_loadO (g:=g9) Tryz.isAgg29 Tryz.sizeOf29 rfl b9 fun u3 l5=>?_)))))
 refine EL_do .plain rfl (D_storeOc (g:=g9) (v:=u3) Tryz.sizeOf29 rfl b2 rfl l5 fun i6 x6 hs b11 cb=>?_)
 clear cb
 have hfr:=hfr.stp hs
 refine EL_nil (thn_n (E_ret ?_))
 obtain rfl:=sinj h
 obtain ⟨ad12,cv12,hp12,hl12,cr12⟩:=ob_read Tryz.isAgg29 Tryz.sizeOf29 b11
 exact endm_c rfl rfl ((show _=p2 from rfl).trans hp12) hl12 ⟨_,hfr,cr12⟩
def f12 (x0:List Int):Option ((List Int)):=
 (apnd 8 (([]:List Int)) x0).bind fun y3=>
 some (y3)
theorem en12:Enters Tryz.prog 12:=enters_of Tryz.func12 (by kernel_rfl) rfl
theorem wk12 {gI:Gh} {wI:World} {x0:List Int} {up0:Value} (rp0:RV gI.m wI x0 up0) {r:(List Int)} (h:f12 x0=some r):Fn Tryz.prog 12 #[up0] gI wI (fun m w v=>RV m w (r) v):=by
 unfold f12 at h
 refine fn_of_E Tryz.func12 rfl (Nat.le_of_ble_eq_true rfl) fun g0 hm hfr=>?_
 have rp0:RV g0.m wI x0 up0:=hm ▸ rp0
 show E _ 6 none _ _ _ _ _
 refine E_seq (E_region (EL_at (.slice none 0 0) rfl rfl ?_))
 refine EL_nil (thn_n (E_seq (E_region (EL_do .plain rfl (D_buildSlice (g:=g0) 3003 (xs:=([]:List Int)) (vs:=[]) Tryz.underlying27 Tryz.sizeOf3 Tryz.zeroValue3 rfl rfl .nil RVs.nil rfl rfl fun g1 w1 v1 hs o1 r1 hxt hfl=>?_)))))
 have hfr:=hfr.stp hs
 have rp0:=rp0.stp hs
 refine EL_mw up0 rfl rfl ?_
 obtain ⟨y3,hy3,h⟩:=bsome h
 refine EL_do .plain rfl (D_append (g:=g1) (i:=3003) Tryz.underlying27 info_3 rfl rfl o1 r1 rfl rp0 hy3 fun g2 w2 v2 hs o2 r2 _=>?_)
 have hfr:=hfr.stp hs
 refine EL_at v2 rfl rfl ?_
 refine EL_nil (thn_n (E_ret ?_))
 obtain rfl:=sinj h
 exact end1 rfl rfl (show _=v2 from rfl) ⟨_,hfr,r2⟩
def f16 (x0:List Int) (x1:List Int):Option (Bool):=
 jn (σ:=Unit) (fun _=>
  jn (σ:=Unit) (fun _=>
   some (true)
   ) fun k53=>
  lp (σ:=Int) (fun k54 o0=>
   jn (σ:=Unit) (fun _=>
    jn (σ:=Unit) (fun _=>
     k54 ((w64 (o0 + (1:Int))))
     ) fun n9=>
    (idx x0 o0).bind fun x6=>
    (idx x1 o0).bind fun y6=>
    bif (x6 != y6) then
     some (false)
    else
     n9 ()
    ) fun k57=>
   bif (decide (o0 < ((x0).length : Int))) then
    k57 ()
   else
    k53 ()
   ) big ((0:Int))
  ) fun k2=>
 bif (((x0).length : Int) != ((x1).length : Int)) then
  some (false)
 else
  k2 ()
theorem en16:Enters Tryz.prog 16:=enters_of Tryz.func16 (by kernel_rfl) rfl
theorem wk16 {gI:Gh} {wI:World} {x0:List Int} {x1:List Int} {up0:Value} (rp0:RV gI.m wI x0 up0) {up1:Value} (rp1:RV gI.m wI x1 up1) {r:Bool} (h:f16 x0 x1=some r):Fn Tryz.prog 16 #[up0,up1] gI wI (fun _ _ v=>v=.bool (r)):=by
 unfold f16 at h
 refine fn_of_E Tryz.func16 rfl (Nat.le_of_ble_eq_true rfl) fun g0 hm hfr=>?_
 have rp0:RV g0.m wI x0 up0:=hm ▸ rp0
 have rp1:RV g0.m wI x1 up1:=hm ▸ rp1
 show E _ 26 none _ _ _ _ _
 refine E_seq (E_region (EL_at (.bool false) rfl rfl ?_))
 refine EL_nil (thn_n (E_joinC h (fun (s:Unit) e w=>∃ (g:Gh) ,Fr gI wI g w∧e 0=up0∧RV g.m w (x0:List Int) up0∧e 1=up1∧RV g.m w (x1:List Int) up1) (fun X2 k2 hk2 h=>?_) ?_))
 ·refine E_seq (E_region (EL_mw up0 rfl rfl ?_))
  refine EL_p (.int .i64 ((x0).length:Int)) (P_len Tryz.underlying27 rfl rp0) rfl ?_
  refine EL_mw up1 rfl rfl ?_
  refine EL_p (.int .i64 ((x1).length:Int)) (P_len Tryz.underlying27 rfl rp1) rfl ?_
  refine EL_in (.bool ((((x0).length:Int) != ((x1).length:Int)))) rfl rfl rfl rfl ?_
  refine EL_nil (thn_n ?_)
  rcases csome h with ⟨hc3,h⟩ | ⟨hc3,h⟩
  ·refine E_ct hc3 rfl ?_
   refine E_seq (E_region (EL_at (.bool false) rfl rfl ?_))
   refine EL_nil (thn_n (E_ret (thn_r ?_)))
   obtain rfl:=sinj h
   exact end1 rfl rfl (show _=.bool false from rfl) ⟨_,hfr,rfl⟩
  ·refine E_cf hc3 rfl ?_
   exact E_skip (thn_n (hk2 () _ _ ⟨g0,hfr,rfl,rp0,rfl,rp1⟩ h))
 ·rintro _ bD w4 ⟨g4, hfr, y9, z9, bA, iA⟩ h
  refine E_joinC h (fun (s:Unit) e w=>∃ (g:Gh) ,Fr gI wI g w) (fun X53 k53 rA h=>?_) ?_
  ·refine E_seq (E_region (EL_at (.int .i64 (0)) rfl rfl ?_))
   refine EL_nil (thn_n (E_block ?_))
   refine E_lp h (fun (s:Int) e w=>∃ (g:Gh) ,Fr gI wI g w∧e 0=up0∧RV g.m w (x0:List Int) up0∧e 1=up1∧RV g.m w (x1:List Int) up1∧e 5=.int .i64 (s)) ⟨g4,hfr,y9,z9,bA,iA,rfl⟩ (fun X54 k54 yA=>?_)
   rintro o0 qC cD ⟨u9,hfr,i7,m7,k9,l9,g8⟩ h
   refine E_joinC h (fun (s:Unit) e w=>∃ (g:Gh) ,Fr gI wI g w∧e 0=up0∧RV g.m w (x0:List Int) up0∧e 1=up1∧RV g.m w (x1:List Int) up1∧e 5=.int .i64 (o0)) (fun X57 k57 aB h=>?_) ?_
   ·refine E_seq (E_region (EL_mv g8 rfl ?_))
    refine EL_mv i7 rfl ?_
    refine EL_p (.int .i64 ((x0).length:Int)) (P_len Tryz.underlying27 rfl m7) rfl ?_
    refine EL_in (.bool ((decide (o0 < ((x0).length:Int))))) rfl rfl rfl rfl ?_
    refine EL_nil (thn_n ?_)
    rcases csome h with ⟨i6,h⟩ | ⟨i6,h⟩
    ·refine E_ct i6 rfl ?_
     exact E_skip (thn_n (aB () _ _ ⟨u9,hfr,i7,m7,k9,l9,g8⟩ h))
    ·refine E_cf i6 rfl ?_
     refine E_exit ?_
     refine thn_e ?_
     refine thn_e ?_
     refine blk_hit ?_
     exact thn_n (rA () _ _ ⟨u9,hfr⟩ h)
   ·rintro _ rC eD ⟨nB, hfr, k8, u3, l8, l5, t5⟩ h
    refine E_joinC h (fun (s:Unit) e w=>∃ (g:Gh) ,Fr gI wI g w∧e 0=up0∧RV g.m w (x0:List Int) up0∧e 1=up1∧RV g.m w (x1:List Int) up1∧e 5=.int .i64 (o0)) (fun X81 n9 dB h=>?_) ?_
    ·refine E_block ?_
     refine E_seq ?_
     obtain ⟨x6,m8,h⟩:=bsome h
     have oB:=PT_idx u3 m8
     refine L_load (x:=.tmp 19) Tryz.isAgg3 Tryz.sizeOf3 oB fun gD tB iB=>?_
     obtain rfl:=RV_int.1 tB
     obtain ⟨y6,n8,h⟩:=bsome h
     have vB:=PT_idx l5 n8
     refine L_load (x:=.tmp 23) Tryz.isAgg3 Tryz.sizeOf3 vB fun iD yB lB=>?_
     obtain rfl:=RV_int.1 yB
     refine E_drawL (g:=nB) (n:=9) [] [0,1,2,3,4,5,6,7,8] rfl mixed (by kernel_rfl) trivial ?_
     refine L_p up0 rfl rfl (P_move k8) ?_
     refine L_p (.int .i64 (o0)) rfl rfl (P_move t5) ?_
     refine L_p (ePtr up0 o0 1) rfl rfl (P_indexAddr (α:=Int) Tryz.underlying27 Tryz.sizeOf3 rfl u3 rfl m8) ?_
     refine L_ld (c:=.int .i64 (x6)) rfl rfl .plain (fun _ _ h=>h.ch) iB rfl ?_
     refine L_p up1 rfl rfl (P_move l8) ?_
     refine L_p (.int .i64 (o0)) rfl rfl (P_move t5) ?_
     refine L_p (ePtr up1 o0 1) rfl rfl (P_indexAddr (α:=Int) Tryz.underlying27 Tryz.sizeOf3 rfl l5 rfl n8) ?_
     refine L_ld (c:=.int .i64 (y6)) rfl rfl .plain (fun _ _ h=>h.ch) lB rfl ?_
     refine L_p (.bool ((x6 != y6))) rfl rfl (P_int rfl rfl rfl) ?_
     refine L_nl fun zB jD hs=>?_
     have hfr:=hfr.ext hs
     have u3:=u3.ext hs
     have l5:=l5.ext hs
     clear hs
     refine EL_nil (thn_n ?_)
     rcases csome h with ⟨x5,h⟩ | ⟨x5,h⟩
     ·refine E_ct x5 rfl ?_
      refine E_seq (E_region (EL_at (.bool false) rfl rfl ?_))
      refine EL_nil (thn_n (E_ret (blk_r ?_)))
      refine thn_r ?_
      refine thn_r ?_
      refine blk_r ?_
      refine thn_r ?_
      obtain rfl:=sinj h
      exact end1 rfl rfl (show _=.bool false from rfl) ⟨_,hfr,rfl⟩
     ·refine E_cf x5 rfl ?_
      exact E_skip (blk_n (thn_n (dB () _ _ ⟨zB,hfr,k8,u3,l8,l5,t5⟩ h)))
    ·rintro _ cC uC ⟨mB, hfr, r8, v8, x8, a9, d9⟩ h
     refine E_region (EL_mv d9 rfl ?_)
     refine EL_in (.int .i64 ((w64 (o0 + (1:Int))))) rfl rfl rfl rfl ?_
     refine EL_at (.int .i64 ((w64 (o0 + (1:Int))))) rfl rfl ?_
     exact EL_nil (thn_n (yA ((w64 (o0 + (1:Int)))) _ _ ⟨mB,hfr,r8,v8,x8,a9,rfl⟩ h))
  ·rintro _ mC vC ⟨aD, hfr⟩ h
   refine E_seq (E_region (EL_at (.bool true) rfl rfl ?_))
   refine EL_nil (thn_n (E_ret ?_))
   obtain rfl:=sinj h
   exact end1 rfl rfl (show _=.bool true from rfl) ⟨_,hfr,rfl⟩
def f19 (x0:Int) (x1:Int):Option (Span):=
 some ((⟨x0,x1⟩:Span))
theorem en19:Enters Tryz.prog 19:=enters_of Tryz.func19 (by kernel_rfl) rfl
theorem wk19 {gI:Gh} {wI:World} {x0:Int} {x1:Int}  {r:Span} (h:f19 x0 x1=some r):Fn Tryz.prog 19 #[.int .i64 (x0),.int .i64 (x1)] gI wI (fun m w v=>RV m w (r) v):=by
 unfold f19 at h
 refine fn_of_E Tryz.func19 rfl (Nat.le_of_ble_eq_true rfl) fun g0 hm hfr=>?_
 show E _ 8 none _ _ _ _ _
 refine E_seq (E_region (EL_do .plain rfl (D_allocOc (g:=g0) 2004 (⟨0,0⟩:Span) Tryz.zeroValue63 (fun m w=>⟨_,(rep_two rep_int rep_int),rfl⟩) fun g1 w1 p1 hs b1 cb=>?_)))
 have hfr:=hfr.stp hs
 clear cb
 refine EL_nil (thn_n (E_seq (E_region (EL_mw (.int .i64 (x0)) rfl rfl ?_))))
 refine EL_mw (.int .i64 (x1)) rfl rfl ?_
 have r2:RV g1.m w1 (⟨x0,x1⟩:Span) (.agg (setCh [[.int .i64 0],[.int .i64 0]] [(0,.int .i64 (x0)),(1,.int .i64 (x1))]).flatten.toArray):=RV_build rfl (rep_pair (rfl) (rep_last (rfl)))
 generalize hv2:(Value.agg (setCh [[.int .i64 0],[.int .i64 0]] [(0,.int .i64 (x0)),(1,.int .i64 (x1))]).flatten.toArray)=v2 at r2
 refine EL_p v2 (hv2 ▸ P_build (vs:=[(0,.int .i64 (x0)),(1,.int .i64 (x1))]) [[.int .i64 0],[.int .i64 0]] lay_63 rfl rfl (.cons rfl (.cons rfl .nil)) ⟨⟨_,rfl,rfl⟩,⟨⟨_,rfl,rfl⟩,trivial⟩⟩) rfl ?_
 refine EL_do .plain rfl (D_storeOc (g:=g1) (v:=v2) Tryz.sizeOf63 rfl b1 rfl r2 fun g3 w3 hs b3 cb=>?_)
 clear cb
 have hfr:=hfr.stp hs
 refine EL_nil (thn_n (E_ret ?_))
 obtain rfl:=sinj h
 obtain ⟨ad4,cv4,hp4,o0,cr4⟩:=ob_read Tryz.isAgg63 Tryz.sizeOf63 b3
 exact endm_c rfl rfl ((show _=p1 from rfl).trans hp4) o0 ⟨_,hfr,cr4⟩
def f21 (x0:List Int) (x1:Int):Option ((List Int)):=
 Option.bind (α:=Unit) (
  bif (decide (x1 < (0 : Int))) then
   none
  else
   some ()
  ) fun (_:Unit)=>
 (mulU ((wu64 ((x0).length:Int))) ((wu64 x1))).bind fun y4=>
 Option.bind (α:=Unit) (
  Option.bind (α:=Bool) (
   bif (decide (y4.1 > (0 : Int))) then
    some (true)
   else
    some ((decide (y4.2 > (9223372036854775807:Int))))
   ) fun t5=>
  bif t5 then
   none
  else
   some ()
  ) fun (_:Unit)=>
 (mks 8 (0:Int) ((w64 y4.2))).bind fun n8=>
 Option.bind (α:=(List Int)) (
  lp (σ:=(List Int) × Int) (fun aB (u3,o0)=>
   jn (σ:=Unit) (fun _=>
    (cut u3 o0 ((u3).length:Int)).bind fun x6=>
    (cut u3 0 o0).bind fun y6=>
    aB ((cpy u3 o0 x6 y6),(w64 (o0 + ((min (y6).length (x6).length:Nat):Int))))
    ) fun dB=>
   bif (decide (o0 < ((u3).length : Int))) then
    dB ()
   else
    some (u3)
   ) big ((cpy n8 0 n8 x0),((min (x0).length (n8).length:Nat):Int))
  ) fun i7=>
 some (i7)
theorem en21:Enters Tryz.prog 21:=enters_of Tryz.func21 (by kernel_rfl) rfl
theorem wk21 {gI:Gh} {wI:World} {x0:List Int} {x1:Int} {up0:Value} (rp0:RV gI.m wI x0 up0) {r:(List Int)} (h:f21 x0 x1=some r):Fn Tryz.prog 21 #[up0,.int .i64 (x1)] gI wI (fun m w v=>RV m w (r) v):=by
 unfold f21 at h
 refine fn_of_E Tryz.func21 rfl (Nat.le_of_ble_eq_true rfl) fun g0 hm hfr=>?_
 have rp0:RV g0.m wI x0 up0:=hm ▸ rp0
 show E _ 48 none _ _ _ _ _
 refine E_seq (E_region (EL_at (.slice none 0 0) rfl rfl ?_))
 refine EL_nil (thn_n ?_)
 obtain ⟨_,hx,h⟩:=bsome h
 refine E_join (fun e w=>∃ (g:Gh) ,Fr gI wI g w∧e 0=up0∧RV g.m w (x0:List Int) up0∧e 1=.int .i64 (x1)) (fun Q' hQ=>?_) (fun eD w3 hR=>?_)
 ·replace h := hx
  clear hx
  refine E_seq (E_region (EL_mw (.int .i64 (x1)) rfl rfl ?_))
  refine EL_in (.bool ((decide (x1 < (0:Int))))) rfl rfl rfl rfl ?_
  refine EL_nil (thn_n ?_)
  rcases csome h with ⟨hc2,h⟩ | ⟨hc2,h⟩
  ·refine E_ct hc2 rfl ?_
   refine E_region ?_
   cases h
  ·refine E_cf hc2 rfl ?_
   refine E_skip ?_
   obtain rfl:=sinj h
   exact hQ _ _ ⟨g0,hfr,rfl,rp0,rfl⟩
 ·clear hx
  obtain ⟨g3,hfr,v8,x8,mB⟩:=hR
  refine E_seq (E_region (EL_mv v8 rfl ?_))
  refine EL_p (.int .i64 ((x0).length:Int)) (P_len Tryz.underlying27 rfl x8) rfl ?_
  refine EL_p (.int .u64 (wu64 ((x0).length:Int))) (P_intu64 Tryz.underlying3 Tryz.underlying69 rfl) rfl ?_
  refine EL_mv mB rfl ?_
  refine EL_p (.int .u64 (wu64 x1)) (P_intu64 Tryz.underlying3 Tryz.underlying69 rfl) rfl ?_
  obtain ⟨y4,vB,h⟩:=bsome h
  refine EL_do .plain rfl (D_mulU en44 mul_ok rfl rfl vB ?_)
  refine EL_mw (.tuple #[.int .u64 y4.1,.int .u64 y4.2]) rfl rfl ?_
  refine EL_p (.int .u64 y4.1) (P_extract rfl rfl) rfl ?_
  refine EL_p (.int .u64 y4.2) (P_extract rfl rfl) rfl ?_
  refine EL_at (.int .u64 y4.1) rfl rfl ?_
  refine EL_at (.int .u64 y4.2) rfl rfl ?_
  refine EL_nil (thn_n ?_)
  obtain ⟨_,hx,h⟩:=bsome h
  refine E_join (fun e w=>∃ (g:Gh) ,Fr gI wI g w∧e 0=up0∧RV g.m w (x0:List Int) up0∧e 6=.int .u64 y4.2) (fun Q' hQ=>?_) (fun uC gD hR=>?_)
  ·replace h := hx
   clear hx
   obtain ⟨t5,hx,h⟩:=bsome h
   refine E_join (fun e w=>∃ (g:Gh) ,Fr gI wI g w∧e 0=up0∧RV g.m w (x0:List Int) up0∧e 6=.int .u64 y4.2∧e 26=.bool (t5)) (fun Q' hQ=>?_) (fun vC iD hR=>?_)
   ·replace h := hx
    clear hx
    refine E_region (EL_mw (.int .u64 y4.1) rfl rfl ?_)
    refine EL_p (.bool (decide (y4.1 > (0:Int)))) (P_u64cmp rfl rfl rfl) rfl ?_
    refine EL_mw (.bool (decide (y4.1 > (0:Int)))) rfl rfl ?_
    rcases csome h with ⟨x5,h⟩ | ⟨x5,h⟩
    ·refine EL_s rfl rfl x5 rfl rfl ?_
     refine EL_s rfl rfl x5 rfl rfl ?_
     refine EL_p (.bool true) (P_pick (b:=(decide (y4.1 > (0:Int)))) rfl (pick_t x5 rfl)) rfl ?_
     refine EL_nil ?_
     obtain rfl:=sinj h
     exact hQ _ _ ⟨g3,hfr,v8,x8,rfl,rfl⟩
    ·refine EL_y (.int .u64 y4.2) (P_move rfl) rfl rfl x5 rfl ?_
     refine EL_y (.bool (decide (y4.2 > (9223372036854775807:Int)))) (P_u64cmp rfl rfl rfl) rfl rfl x5 rfl ?_
     refine EL_p (.bool (decide (y4.2 > (9223372036854775807:Int)))) (P_pick (b:=(decide (y4.1 > (0:Int)))) rfl (pick_f x5 rfl)) rfl ?_
     refine EL_nil ?_
     obtain rfl:=sinj h
     exact hQ _ _ ⟨g3,hfr,v8,x8,rfl,rfl⟩
   ·clear hx
    obtain ⟨yB,hfr,u9,y9,z9,r8⟩:=hR
    rcases csome h with ⟨a9,h⟩ | ⟨a9,h⟩
    ·refine E_cond_true (Eq.trans (show ev _ _ = .bool (t5) from r8) (congrArg Value.bool a9)) ?_
     refine E_region ?_
     cases h
    ·refine E_cond_false (Eq.trans (show ev _ _ = .bool (t5) from r8) (congrArg Value.bool a9)) ?_
     refine E_skip ?_
     obtain rfl:=sinj h
     exact hQ _ _ ⟨yB,hfr,u9,y9,z9⟩
  ·clear hx
   obtain ⟨zB,hfr,bA,m7,iA⟩:=hR
   refine E_seq (E_region (EL_mv iA rfl ?_))
   refine EL_p (.int .i64 ((w64 y4.2))) (P_u64int Tryz.underlying69 Tryz.underlying3 rfl) rfl ?_
   obtain ⟨n8,nB,h⟩:=bsome h
   refine EL_do .plain rfl (D_makeSliceM (g:=zB) 9030 (0:Int) rfl Tryz.underlying27 info_3 rfl (fun _ _=>rfl) rfl rfl nB fun cC w15 l5 hs b15=>?_)
   have hfr:=hfr.stp hs
   have m7:=m7.stp hs
   refine EL_at l5 rfl rfl ?_
   refine EL_nil (thn_n (E_seq (E_region (EL_mw l5 rfl rfl ?_))))
   refine EL_mv bA rfl ?_
   refine EL_do .plain rfl (D_copyM (g:=cC) (α:=Int) Tryz.underlying27 info_3 rfl b15 rfl m7 fun mC jD hs b16=>?_)
   have hfr:=hfr.stp hs
   refine EL_at (.int .i64 ((min (x0).length (n8).length:Nat):Int)) rfl rfl ?_
   refine EL_nil (thn_n ?_)
   obtain ⟨i7,hx,h⟩:=bsome h
   refine E_join (fun e w=>∃ (g:Gh) ,Fr gI wI g w∧e 7=l5∧OM 9030 g w 3 (i7:List Int) l5) (fun Q' hQ=>?_) (fun aD lD hR=>?_)
   ·replace h := hx
    clear hx
    refine E_block ?_
    refine E_lp h (fun (s:(List Int) × Int) e w=>∃ (g:Gh) ,Fr gI wI g w∧e 7=l5∧OM 9030 g w 3 (s.1:List Int) l5∧e 8=.int .i64 (s.2)) ⟨mC,hfr,rfl,b16,rfl⟩ (fun X29 aB oB=>?_)
    rintro ⟨u3,o0⟩ bD nD ⟨iB,hfr,g8,k8,k9⟩ h
    refine E_joinC h (fun (s:Unit) e w=>∃ (g:Gh) ,Fr gI wI g w∧e 7=l5∧OM 9030 g w 3 (u3:List Int) l5∧e 8=.int .i64 (o0)) (fun X32 dB tB h=>?_) ?_
    ·refine E_seq (E_region (EL_mv k9 rfl ?_))
     refine EL_mv g8 rfl ?_
     refine EL_p (.int .i64 ((u3).length:Int)) (P_lenM Tryz.underlying27 rfl k8) rfl ?_
     refine EL_in (.bool ((decide (o0 < ((u3).length:Int))))) rfl rfl rfl rfl ?_
     refine EL_nil (thn_n ?_)
     rcases csome h with ⟨d9,h⟩ | ⟨d9,h⟩
     ·refine E_ct d9 rfl ?_
      exact E_skip (thn_n (tB () _ _ ⟨iB,hfr,g8,k8,k9⟩ h))
     ·refine E_cf d9 rfl ?_
      refine E_exit ?_
      refine thn_e ?_
      refine thn_e ?_
      refine blk_hit ?_
      obtain rfl:=sinj h
      exact hQ _ _ ⟨iB,hfr,g8,k8⟩
    ·rintro _ cD qC ⟨lB, hfr, l8, i6, m8⟩ h
     refine E_block ?_
     obtain ⟨x6,l9,h⟩:=bsome h
     obtain ⟨y6,n9,h⟩:=bsome h
     refine E_drawC (g:=lB) (w:=qC) (n:=8) [0,1,2,3,4,5,6] [] [0,1,2,3,4,5,6,7] rfl mixed (by kernel_rfl) fun w_c37 hs hlt=>?_
     have hfr:=hfr.ext hs
     have i6:=i6.ext hs
     clear hs
     refine CH_pur (c:=.int .i64 (o0)) rfl rfl .plain (P_move m8) ?_
     refine CH_pur (c:=l5) rfl rfl .plain (P_move l8) ?_
     refine CH_pur (c:=.int .i64 (o0)) rfl rfl .plain (P_move m8) ?_
     refine CH_pur (c:=(cutV l5 (Int.toNat o0) (Int.toNat ((u3).length:Int)) 1)) rfl rfl .plain (P_cutM (α:=Int) Tryz.underlying27 Tryz.sizeOf3 rfl (OM.hdr i6) rfl rfl l9) ?_
     refine CH_pur (c:=l5) rfl rfl .plain (P_move l8) ?_
     refine CH_pur (c:=.int .i64 (o0)) rfl rfl .plain (P_move m8) ?_
     refine CH_pur (c:=(cutV l5 0 (Int.toNat o0) 1)) rfl rfl .plain (P_cutM (α:=Int) Tryz.underlying27 Tryz.sizeOf3 rfl (OM.hdr i6) rfl rfl n9) ?_
     refine CH_do rfl rfl .plain (D_copyMM (g:=lB) (α:=Int) Tryz.underlying27 info_3 rfl i6 rfl l9 n9 fun rC oD hs b40=>?_)
     have hfr:=hfr.stp hs
     have hlt:=hlt.stp hs
     refine ⟨hlt.toW,?_⟩
     refine CH_nil ?_
     clear hlt
     refine EL_p (.int .i64 ((w64 (o0 + ((min (y6).length (x6).length:Nat):Int))))) (P_int rfl rfl rfl) rfl ?_
     refine EL_p (.int .i64 ((w64 (o0 + ((min (y6).length (x6).length:Nat):Int))))) (P_assign rfl) rfl ?_
     exact EL_nil (blk_n (thn_n (oB ((cpy u3 o0 x6 y6),(w64 (o0 + ((min (y6).length (x6).length:Nat):Int)))) _ _ ⟨rC,hfr,l8,b40,rfl⟩ h)))
   ·clear hx
    obtain ⟨sD,hfr,rA,yA⟩:=hR
    refine E_seq (E_region (EL_mv rA rfl ?_))
    obtain ⟨gp42,hs,rp42⟩:=OM.pub yA
    have hfr:=hfr.stp hs
    refine EL_at l5 rfl rfl ?_
    refine EL_nil (thn_n (E_ret ?_))
    obtain rfl:=sinj h
    exact end1 rfl rfl (show _=l5 from rfl) ⟨_,hfr,rp42⟩
def f26 (x0:Int):Option (Int):=
 Option.bind (α:=Int) (
  lp (σ:=Int × Int) (fun r8 (o0,u3)=>
   jn (σ:=Unit) (fun _=>
    Option.bind (α:=Int) (
     (rem64 o0 (2:Int)).bind fun x5=>
     some ((w64 (u3 + x5)))
     ) fun l5=>
    (quo64 o0 (2:Int)).bind fun i6=>
    r8 (i6,l5)
    ) fun v8=>
   bif (decide (o0 > (0 : Int))) then
    v8 ()
   else
    some (u3)
   ) big (x0,(0:Int))
  ) fun t5=>
 (rem64 t5 (3:Int)).bind fun x6=>
 some (x6)
theorem en26:Enters Tryz.prog 26:=enters_of Tryz.func26 (by kernel_rfl) rfl
theorem wk26 {gI:Gh} {wI:World} {x0:Int}  {r:Int} (h:f26 x0=some r):Fn Tryz.prog 26 #[.int .i64 (x0)] gI wI (fun _ _ v=>v=.int .i64 (r)):=by
 unfold f26 at h
 refine fn_of_E Tryz.func26 rfl (Nat.le_of_ble_eq_true rfl) fun g0 hm hfr=>?_
 show E _ 14 none _ _ _ _ _
 refine E_seq (E_region (EL_at (.int .i64 (0)) rfl rfl ?_))
 refine EL_nil (thn_n (E_seq (E_region (EL_at (.int .i64 (0)) rfl rfl ?_))))
 refine EL_nil (thn_n ?_)
 obtain ⟨t5,hx,h⟩:=bsome h
 refine E_join (fun e w=>∃ (g:Gh) ,Fr gI wI g w∧e 3=.int .i64 (t5)) (fun Q' hQ=>?_) (fun y9 rA hR=>?_)
 ·replace h := hx
  clear hx
  refine E_block ?_
  refine E_lp h (fun (s:Int × Int) e w=>∃ (g:Gh) ,Fr gI wI g w∧e 0=.int .i64 (s.1)∧e 3=.int .i64 (s.2)) ⟨g0,hfr,rfl,rfl⟩ (fun X11 r8 a9=>?_)
  rintro ⟨o0,u3⟩ z9 yA ⟨x8,hfr,i7,m7⟩ h
  refine E_joinC h (fun (s:Unit) e w=>∃ (g:Gh) ,Fr gI wI g w∧e 0=.int .i64 (o0)∧e 3=.int .i64 (u3)) (fun X14 v8 d9 h=>?_) ?_
  ·refine E_seq (E_region (EL_mv i7 rfl ?_))
   refine EL_in (.bool ((decide (o0 > (0:Int))))) rfl rfl rfl rfl ?_
   refine EL_nil (thn_n ?_)
   rcases csome h with ⟨y6,h⟩ | ⟨y6,h⟩
   ·refine E_ct y6 rfl ?_
    exact E_skip (thn_n (d9 () _ _ ⟨x8,hfr,i7,m7⟩ h))
   ·refine E_cf y6 rfl ?_
    refine E_exit ?_
    refine thn_e ?_
    refine thn_e ?_
    refine blk_hit ?_
    obtain rfl:=sinj h
    exact hQ _ _ ⟨x8,hfr,m7⟩
  ·rintro _ bA aB ⟨n9, hfr, g8, k8⟩ h
   obtain ⟨l5,hx,h⟩:=bsome h
   refine E_join (fun e w=>∃ (g:Gh) ,Fr gI wI g w∧e 0=.int .i64 (o0)∧e 3=.int .i64 (l5)) (fun Q' hQ=>?_) (fun iA dB hR=>?_)
   ·replace h := hx
    clear hx
    refine E_block ?_
    refine E_region (EL_mv k8 rfl ?_)
    refine EL_mv g8 rfl ?_
    obtain ⟨x5,k9,h⟩:=bsome h
    refine EL_p (.int .i64 (x5)) (P_int rfl rfl (congrArg (Option.map (Value.int .i64)) k9)) rfl ?_
    refine EL_in (.int .i64 ((w64 (u3 + x5)))) rfl rfl rfl rfl ?_
    refine EL_at (.int .i64 ((w64 (u3 + x5)))) rfl rfl ?_
    refine EL_nil (blk_n ?_)
    obtain rfl:=sinj h
    exact hQ _ _ ⟨n9,hfr,g8,rfl⟩
   ·clear hx
    obtain ⟨u9,hfr,l8,m8⟩:=hR
    refine E_region (EL_mv l8 rfl ?_)
    obtain ⟨i6,hy20,h⟩:=bsome h
    refine EL_p (.int .i64 (i6)) (P_int rfl rfl (congrArg (Option.map (Value.int .i64)) hy20)) rfl ?_
    refine EL_at (.int .i64 (i6)) rfl rfl ?_
    exact EL_nil (thn_n (a9 (i6,l5) _ _ ⟨u9,hfr,rfl,m8⟩ h))
 ·clear hx
  obtain ⟨iB,hfr,n8⟩:=hR
  refine E_seq (E_region (EL_mv n8 rfl ?_))
  obtain ⟨x6,l9,h⟩:=bsome h
  refine EL_p (.int .i64 (x6)) (P_int rfl rfl (congrArg (Option.map (Value.int .i64)) l9)) rfl ?_
  refine EL_at (.int .i64 (x6)) rfl rfl ?_
  refine EL_nil (thn_n (E_ret ?_))
  obtain rfl:=sinj h
  exact end1 rfl rfl (show _=.int .i64 (x6) from rfl) ⟨_,hfr,rfl⟩
def f29 (x0:List Int):Option ((List (List Int))):=
 Option.bind (α:=(List (List Int))) (
  lp (σ:=(List (List Int)) × Int) (fun k19 (y6,o0)=>
   bif (decide (o0 < ((x0).length : Int))) then
    Option.bind (α:=(List (List Int))) (
     (idx x0 o0).bind fun x6=>
     (apnd 24 y6 (([([x6]:List Int)]:List (List Int)))).bind fun iA=>
     some (iA)
     ) fun x5=>
    k19 (x5,(w64 (o0 + (1:Int))))
   else
    some (y6)
   ) big ([],(0:Int))
  ) fun i6=>
 some (i6)
theorem en29:Enters Tryz.prog 29:=enters_of Tryz.func29 (by kernel_rfl) rfl
theorem wk29 {gI:Gh} {wI:World} {x0:List Int} {up0:Value} (rp0:RV gI.m wI x0 up0) {r:(List (List Int))} (h:f29 x0=some r):Fn Tryz.prog 29 #[up0] gI wI (fun m w v=>RV m w (r) v):=by
 unfold f29 at h
 refine fn_of_E Tryz.func29 rfl (Nat.le_of_ble_eq_true rfl) fun g0 hm hfr=>?_
 have rp0:RV g0.m wI x0 up0:=hm ▸ rp0
 show E _ 18 none _ _ _ _ _
 refine E_seq (E_region (EL_at (.slice none 0 0) rfl rfl ?_))
 refine EL_nil (thn_n ?_)
 obtain ⟨i6,hx,h⟩:=bsome h
 refine E_join (fun e w=>∃ (g:Gh) (v2:Value),Fr gI wI g w∧e 2=v2∧RV g.m w (i6:List (List Int)) v2∧OS 1002 g w 27 (i6:List (List Int)) v2) (fun Q' hQ=>?_) (fun mC uC hR=>?_)
 ·replace h := hx
  clear hx
  refine E_seq (E_region (EL_mw up0 rfl rfl ?_))
  refine EL_p (.int .i64 ((x0).length:Int)) (P_len Tryz.underlying27 rfl rp0) rfl ?_
  refine EL_mw (.int .i64 (0)) rfl rfl ?_
  refine EL_nil (thn_n (E_block ?_))
  refine E_lp h (fun (s:(List (List Int)) × Int) e w=>∃ (g:Gh) (v2:Value),Fr gI wI g w∧e 2=v2∧RV g.m w (s.1:List (List Int)) v2∧OS 1002 g w 27 (s.1:List (List Int)) v2∧e 5=up0∧RV g.m w (x0:List Int) up0∧e 6=.int .i64 (((x0).length:Int))∧e 7=.int .i64 (s.2)) ⟨g0,(.slice none 0 0),hfr,rfl,RV_nil,OS.nil,rfl,rp0,rfl,rfl⟩ (fun X19 k19 yA=>?_)
  rintro ⟨y6,o0⟩ qC vC ⟨n8,v8,hfr,g8,l5,t5,k8,u3,l8,i7⟩ h
  refine E_seq (E_region (EL_in (.bool ((decide (o0 < ((x0).length:Int))))) i7 l8 rfl rfl ?_))
  refine EL_nil (thn_n (E_seq ?_))
  rcases csome h with ⟨m7,h⟩ | ⟨m7,h⟩
  ·refine E_ct m7 rfl ?_
   refine E_skip (thn_n ?_)
   obtain ⟨x5,hx,h⟩:=bsome h
   refine E_join (fun e w=>∃ (g:Gh) (v2:Value),Fr gI wI g w∧e 2=v2∧RV g.m w (x5:List (List Int)) v2∧OS 1002 g w 27 (x5:List (List Int)) v2∧e 5=up0∧RV g.m w (x0:List Int) up0∧e 6=.int .i64 (((x0).length:Int))∧e 7=.int .i64 (o0)) (fun Q' hQ=>?_) (fun rC aD hR=>?_)
   ·replace h := hx
    clear hx
    refine E_block ?_
    refine E_seq (E_region ?_)
    obtain ⟨x6,r8,h⟩:=bsome h
    refine EL_p (ePtr up0 o0 1) (P_indexAddr (α:=Int) Tryz.underlying27 Tryz.sizeOf3 k8 u3 i7 r8) rfl ?_
    have dB:=PT_idx u3 r8
    refine EL_do .plain rfl (D_load (g:=n8) Tryz.isAgg3 Tryz.sizeOf3 rfl dB fun bD iB=>?_)
    obtain rfl:=RV_int.1 iB
    refine EL_at (.int .i64 (x6)) rfl rfl ?_
    refine EL_nil (thn_n (E_region (EL_mv g8 rfl ?_)))
    refine EL_mw (.int .i64 (x6)) rfl rfl ?_
    refine EL_do .plain rfl (D_buildSlice (g:=n8) 3013 (xs:=([x6]:List Int)) (vs:=[.int .i64 (x6)]) Tryz.underlying27 Tryz.sizeOf3 Tryz.zeroValue3 rfl rfl (.cons rfl .nil) (RVs.cons (RV_int.2 rfl) RVs.nil) rfl rfl fun lB cD mB hs o32 nB hxt hfl=>?_)
    have hfr:=hfr.stp hs
    have l5:=l5.stp hs
    have t5:=t5.stp hs rfl
    have u3:=u3.stp hs
    refine EL_do .plain rfl (D_buildSlice (g:=lB) 3014 (xs:=([([x6]:List Int)]:List (List Int))) (vs:=[mB]) Tryz.underlying87 Tryz.sizeOf27 Tryz.zeroValue27 rfl rfl (.cons rfl .nil) (RVs.cons nB RVs.nil) rfl rfl fun oB eD gD hs o33 tB hxt hfl=>?_)
    have hfr:=hfr.stp hs
    have l5:=l5.stp hs
    have t5:=t5.stp hs rfl
    have u3:=u3.stp hs
    obtain ⟨iA,aB,h⟩:=bsome h
    refine EL_do .plain rfl (D_append (g:=oB) (i:=1002) Tryz.underlying87 info_27 rfl rfl t5 l5 rfl tB aB fun vB iD rA hs o34 yB _=>?_)
    have hfr:=hfr.stp hs
    have u3:=u3.stp hs
    refine EL_at rA rfl rfl ?_
    refine EL_nil (blk_n ?_)
    obtain rfl:=sinj h
    exact hQ _ _ ⟨vB,(rA),hfr,rfl,yB,o34,k8,u3,l8,i7⟩
   ·clear hx
    obtain ⟨zB,x8,hfr,a9,d9,k9,l9,n9,u9,y9⟩:=hR
    refine E_region (EL_in (.int .i64 ((w64 (o0 + (1:Int))))) y9 rfl rfl rfl ?_)
    refine EL_mw (.int .i64 ((w64 (o0 + (1:Int))))) rfl rfl ?_
    exact EL_nil (thn_n (yA (x5,(w64 (o0 + (1:Int)))) _ _ ⟨zB,(x8),hfr,a9,d9,k9,l9,n9,u9,rfl⟩ h))
  ·refine E_cf m7 rfl ?_
   refine E_exit ?_
   refine thn_e ?_
   refine thn_e ?_
   refine blk_hit ?_
   obtain rfl:=sinj h
   exact hQ _ _ ⟨n8,(v8),hfr,g8,l5,t5⟩
 ·clear hx
  obtain ⟨jD,m8,hfr,z9,bA,cC⟩:=hR
  refine E_seq (E_region (EL_mv z9 rfl ?_))
  refine EL_at m8 rfl rfl ?_
  refine EL_nil (thn_n (E_ret ?_))
  obtain rfl:=sinj h
  exact end1 rfl rfl (show _=m8 from rfl) ⟨_,hfr,bA⟩
def f30 (x0:BoxBoxLoom) (x1:Int→BoxShuttle→Option Int):Option (BoxRace):=
 Option.bind (α:=BoxRace) (
  lp (σ:=BoxRace × Int) (fun zD (m7,o0)=>
   bif (decide (o0 < ((((x0).BoxLoom).Shuttles).length : Int))) then
    Option.bind (α:=BoxRace) (
     (idx (((x0).BoxLoom).Shuttles) o0).bind fun x5=>
     (x1 o0 x5).bind fun v8=>
     (idx ((m7).boxes).toList (x5).Side).bind fun mB=>
     (idx (mB).toList (x5).Box).bind fun y158=>
     some ({ m7 with boxes:=(vmod ((m7).boxes) ((x5).Side) (fun b=>(vset b ((x5).Box) v8))) })
     ) fun g8=>
    zD (g8,(w64 (o0 + (1:Int))))
   else
    some (m7)
   ) big ((⟨(⟨List.toArray [(⟨List.toArray [0,0,0,0],rfl⟩:Vector Int 4),(⟨List.toArray [0,0,0,0],rfl⟩:Vector Int 4)],rfl⟩:Vector (Vector Int 4) 2),⟨0,0⟩⟩:BoxRace),(0:Int))
  ) fun r8=>
 (idx (((x0).BoxLoom).At) (0:Int)).bind fun i6=>
 (idx (((x0).BoxLoom).At) (1:Int)).bind fun x6=>
 some ({ r8 with at_:=(⟨i6,x6⟩:BoxPick) })
theorem en30:Enters Tryz.prog 30:=enters_of Tryz.func30 (by kernel_rfl) rfl
theorem wk30 {gI:Gh} {wI:World} {x0:BoxBoxLoom} {x1:Int→BoxShuttle→Option Int} {up0:Value} (rp0:RV gI.m wI x0 up0) {up1:Value} (rp1:FnV2 Tryz.prog x1 up1 gI wI) {r:BoxRace} (h:f30 x0 x1=some r):Fn Tryz.prog 30 #[up0,up1] gI wI (fun m w v=>RV m w (r) v):=by
 unfold f30 at h
 refine fn_of_E Tryz.func30 rfl (Nat.le_of_ble_eq_true rfl) fun g0 hm hfr=>?_
 have rp0:RV g0.m wI x0 up0:=hm ▸ rp0
 obtain ⟨ff1,fa1,fc1,rfl,fen1,fcl1⟩:=rp1
 show E _ 41 none _ _ _ _ _
 refine E_seq (E_region (EL_do .plain rfl (D_box (g:=g0) rfl rp0 fun g1 w1 p1 hs q1=>?_)))
 have hfr:=hfr.ext hs
 have rp0:=rp0.ext hs
 refine EL_do .plain rfl (D_allocOc (g:=g1) 2004 (⟨(⟨List.toArray [(⟨List.toArray [0,0,0,0],rfl⟩:Vector Int 4),(⟨List.toArray [0,0,0,0],rfl⟩:Vector Int 4)],rfl⟩:Vector (Vector Int 4) 2),⟨0,0⟩⟩:BoxRace) Tryz.zeroValue94 (fun m w=>⟨_,(rep_two (rep_vec (flat_chunk (rep_vec (flat_chunk rep_int (flat_chunk rep_int (flat_chunk rep_int (flat_chunk rep_int flat_nil)))) rfl) (flat_chunk (rep_vec (flat_chunk rep_int (flat_chunk rep_int (flat_chunk rep_int (flat_chunk rep_int flat_nil)))) rfl) flat_nil)) rfl) (rep_two rep_int rep_int)),rfl⟩) fun g2 w2 p2 hs b2 cb=>?_)
 have hfr:=hfr.stp hs
 have rp0:=rp0.stp hs
 have q1:=q1.stp hs
 clear cb
 refine EL_nil (thn_n ?_)
 obtain ⟨r8,hx,h⟩:=bsome h
 refine E_join (fun e w=>∃ (g:Gh) ,Fr gI wI g w∧e 2=p1∧PT g.m w (x0:BoxBoxLoom) p1∧e 4=p2∧OB 2004 g w 94 (r8:BoxRace) p2) (fun Q' hQ=>?_) (fun aG iE hR=>?_)
 ·replace h := hx
  clear hx
  refine E_seq (E_region (EL_p (fPtr p1 0) (P_fieldAddr at_83_0 rfl (PT.ptr q1)) rfl ?_))
  have aE:=PT_field (part_BoxBoxLoom_0).1 q1
  refine EL_p (fPtr (fPtr p1 0) 2) (P_fieldAddr at_33_2 rfl (PT.ptr aE)) rfl ?_
  have zF:=PT_field (part_BoxLoom_2).1 aE
  refine EL_do .plain rfl (D_load (g:=g2) Tryz.isAgg31 Tryz.sizeOf31 rfl zF fun k9 bE=>?_)
  refine EL_p (.int .i64 ((((x0).BoxLoom).Shuttles).length:Int)) (P_len Tryz.underlying31 rfl bE) rfl ?_
  refine EL_mw (.int .i64 (0)) rfl rfl ?_
  refine EL_nil (thn_n (E_block ?_))
  refine E_lp h (fun (s:BoxRace × Int) e w=>∃ (g:Gh) ,Fr gI wI g w∧e 1=(.func (.func ff1) fa1 fc1)∧e 2=p1∧PT g.m w (x0:BoxBoxLoom) p1∧e 4=p2∧OB 2004 g w 94 (s.1:BoxRace) p2∧e 9=k9∧RV g.m w (((x0).BoxLoom).Shuttles:List BoxShuttle) k9∧e 10=.int .i64 (((((x0).BoxLoom).Shuttles).length:Int))∧e 11=.int .i64 (s.2)) ⟨g2,hfr,rfl,rfl,q1,rfl,b2,rfl,bE,rfl,rfl⟩ (fun X98 zD lE=>?_)
  rintro ⟨m7,o0⟩ cG dH ⟨nB,hfr,y9,z9,t5,x8,u3,bA,l5,l9,k8⟩ h
  refine E_seq (E_region (EL_p (.bool ((decide (o0 < ((((x0).BoxLoom).Shuttles).length:Int))))) (P_int k8 l9 rfl) rfl ?_))
  refine EL_nil (thn_n (E_seq ?_))
  rcases csome h with ⟨a9,h⟩ | ⟨a9,h⟩
  ·refine E_ct a9 rfl ?_
   refine E_skip (thn_n ?_)
   obtain ⟨g8,hx,h⟩:=bsome h
   refine E_join (fun e w=>∃ (g:Gh) ,Fr gI wI g w∧e 1=(.func (.func ff1) fa1 fc1)∧e 2=p1∧PT g.m w (x0:BoxBoxLoom) p1∧e 4=p2∧OB 2004 g w 94 (g8:BoxRace) p2∧e 9=k9∧RV g.m w (((x0).BoxLoom).Shuttles:List BoxShuttle) k9∧e 10=.int .i64 (((((x0).BoxLoom).Shuttles).length:Int))∧e 11=.int .i64 (o0)) (fun Q' hQ=>?_) (fun bG eG hR=>?_)
   ·replace h := hx
    clear hx
    refine E_block ?_
    refine E_seq (E_region (EL_mv k8 rfl ?_))
    obtain ⟨x5,iA,h⟩:=bsome h
    refine EL_p (ePtr k9 o0 5) (P_indexAddr (α:=BoxShuttle) Tryz.underlying31 Tryz.sizeOf65 bA l5 k8 iA) rfl ?_
    have y6:=PT_idx l5 iA
    refine EL_do .plain rfl (D_load (g:=nB) Tryz.isAgg65 Tryz.sizeOf65 rfl y6 fun mE i7=>?_)
    refine EL_do .plain rfl (D_allocOc (g:=nB) 2006 (⟨0,0,0,⟨0,0⟩⟩:BoxShuttle) Tryz.zeroValue65 (fun m w=>⟨_,(rep_two rep_int (rep_two rep_int (rep_two rep_int (rep_two rep_int rep_int)))),rfl⟩) fun oE gG oB hs b146 cb=>?_)
    have hfr:=hfr.stp hs
    have t5:=t5.stp hs
    have u3:=u3.stp hs rfl
    have l5:=l5.stp hs
    have y6:=y6.stp hs
    have i7:=i7.stp hs
    clear cb
    refine EL_at (.int .i64 (o0)) rfl rfl ?_
    refine EL_do .plain rfl (D_storeOc (g:=oE) (v:=mE) Tryz.sizeOf65 rfl b146 rfl i7 fun rE hG hs b147 cb=>?_)
    clear cb
    have hfr:=hfr.stp hs
    have t5:=t5.stp hs
    have u3:=u3.stp hs rfl
    have l5:=l5.stp hs
    have y6:=y6.stp hs
    have i7:=i7.stp hs
    refine EL_nil (thn_n (L_loadO (x:=.tmp 16) part_BoxShuttle_1.1 Tryz.isAgg3 Tryz.sizeOf3 b147 fun iG uE jD=>?_))
    obtain rfl:=RV_int.1 uE
    refine L_loadO (x:=.tmp 18) part_BoxShuttle_2.1 Tryz.isAgg3 Tryz.sizeOf3 b147 fun jG vE lD=>?_
    obtain rfl:=RV_int.1 vE
    refine L_loadO0 (x:=.tmp 6) Tryz.isAgg65 Tryz.sizeOf65 b147 fun tB u9 nD=>?_
    obtain ⟨v8,oD,h⟩:=bsome h
    obtain ⟨mB,rA,h⟩:=bsome h
    obtain ⟨hi157,he157⟩:=vat_idx rA
    obtain ⟨y158,yA,h⟩:=bsome h
    obtain ⟨hi159,he159⟩:=vat_idx yA
    refine E_drawL (g:=rE) (n:=11) [(7,(fun v g w=>v=.int .i64 (v8)))] [0,1,2,3,4,5,6,7,8,9,10] rfl mixed (by kernel_rfl) (⟨fun _=>up_eq _,trivial⟩) ?_
    refine L_p (fPtr oB 1) rfl rfl (P_fieldAddr at_65_1 rfl (OB.ptr b147)) ?_
    refine L_ld (c:=.int .i64 ((x5).Side)) rfl rfl .plain (fun _ _ h=>⟨h.ch,fun b hb _=>h.below.block b hb⟩) jD rfl ?_
    refine L_p (fPtr oB 2) rfl rfl (P_fieldAddr at_65_2 rfl (OB.ptr b147)) ?_
    refine L_ld (c:=.int .i64 ((x5).Box)) rfl rfl .plain (fun _ _ h=>⟨h.ch,fun b hb _=>h.below.block b hb⟩) lD rfl ?_
    refine L_p ((.func (.func ff1) fa1 fc1)) rfl rfl (P_move y9) ?_
    refine L_p (.int .i64 (o0)) rfl rfl (P_move rfl) ?_
    refine L_ld (c:=tB) rfl rfl .plain (fun _ _ h=>⟨h.ch,fun b hb _=>h.below.block b hb⟩) nD rfl ?_
    refine L_do (φ:=fun v g w=>v=.int .i64 (v8)) rfl rfl .plain (fun g w hd=>D_callv (g:=g) (vs:=[.int .i64 (o0),tB]) rfl fen1 (.cons rfl (.cons rfl .nil)) (fcl1 _ _ (hfr.ext hd.1).ch _ _ _ _ _  (RV_int.2 rfl) (u9.ext hd.1) oD) fun g' w' v hs hr=>⟨g',hs,RV_int.1 hr⟩) (fun kG hv=>?_)
    obtain ⟨_,_,_,rfl⟩:=hv
    refine L_p (fPtr p2 0) rfl rfl (P_fieldAddr at_94_0 x8 (OB.ptr u3)) ?_
    refine L_p (fPtr p2 (0 + ((x5).Side:Int).toNat * 4)) rfl rfl (P_indexAddrA2 (α:=Vector Int 4) (o1:=0) rfl Tryz.underlying90 Tryz.sizeOf89 rfl (OB.ptr u3) rfl rA) ?_
    refine L_p (fPtr p2 ((0 + ((x5).Side:Int).toNat * 4) + ((x5).Box:Int).toNat * 1)) rfl rfl (P_indexAddrA2 (α:=Int) (o1:=(0 + ((x5).Side:Int).toNat * 4)) rfl Tryz.underlying89 Tryz.sizeOf3 rfl (OB.ptr u3) rfl yA) ?_
    refine L_nl fun xE lG hs=>?_
    have hfr:=hfr.ext hs
    have t5:=t5.ext hs
    have u3:=u3.ext hs
    have l5:=l5.ext hs
    have y6:=y6.ext hs
    have i7:=i7.ext hs
    have b147:=b147.ext hs
    have u9:=u9.ext hs
    clear hs
    refine EL_do .plain rfl (D_storeFc (g:=xE) (SubS.at_ (SubS.comp part_BoxRace_0 (SubS.dynC hi157 (SubS.dyn hi159) rfl) rfl) (by first | rfl | exact Nat.add_assoc _ _ _ | simp only [Nat.add_assoc,Nat.zero_add] | omega)) Tryz.sizeOf3 rfl u3 rfl (RV_int.2 rfl) fun yE mG hs b184 rst hos=>?_)
    clear rst hos
    have hfr:=hfr.stp hs
    have t5:=t5.stp hs
    have l5:=l5.stp hs
    refine EL_nil (blk_n ?_)
    obtain rfl:=sinj h
    exact hQ _ _ ⟨yE,hfr,y9,z9,t5,x8,b184,bA,l5,l9,k8⟩
   ·clear hx
    obtain ⟨zE,hfr,vB,yB,zB,cC,mC,qC,rC,iB,lB⟩:=hR
    refine E_region (EL_in (.int .i64 ((w64 (o0 + (1:Int))))) lB rfl rfl rfl ?_)
    refine EL_mw (.int .i64 ((w64 (o0 + (1:Int))))) rfl rfl ?_
    exact EL_nil (thn_n (lE (g8,(w64 (o0 + (1:Int)))) _ _ ⟨zE,hfr,vB,yB,zB,cC,mC,qC,rC,iB,rfl⟩ h))
  ·refine E_cf a9 rfl ?_
   refine E_exit ?_
   refine thn_e ?_
   refine thn_e ?_
   refine blk_hit ?_
   obtain rfl:=sinj h
   exact hQ _ _ ⟨nB,hfr,z9,t5,x8,u3⟩
 ·clear hx
  obtain ⟨uC,hfr,n9,l8,m8,n8⟩:=hR
  refine E_seq ?_
  have vC:=PT_field (part_BoxBoxLoom_0).1 l8
  have cF:=PT_field (part_BoxLoom_1).1 vC
  refine L_load (x:=.tmp 29) Tryz.isAgg27 Tryz.sizeOf27 cF fun aD bD sD=>?_
  obtain ⟨i6,aB,h⟩:=bsome h
  have dF:=PT_idx bD aB
  refine L_load (x:=.tmp 31) Tryz.isAgg3 Tryz.sizeOf3 dF fun sG eF tD=>?_
  obtain rfl:=RV_int.1 eF
  have cD:=PT_field (part_BoxBoxLoom_0).1 l8
  have rF:=PT_field (part_BoxLoom_1).1 cD
  refine L_load (x:=.tmp 34) Tryz.isAgg27 Tryz.sizeOf27 rF fun eD gD uD=>?_
  obtain ⟨x6,dB,h⟩:=bsome h
  have sF:=PT_idx gD dB
  refine L_load (x:=.tmp 36) Tryz.isAgg3 Tryz.sizeOf3 sF fun xG tF vD=>?_
  obtain rfl:=RV_int.1 tF
  have d9:RV uC.m iE (⟨i6,x6⟩:BoxPick) (.agg (setCh [[.int .i64 0],[.int .i64 0]] [(0,.int .i64 (i6)),(1,.int .i64 (x6))]).flatten.toArray):=RV_build rfl (rep_pair (rfl) (rep_last (rfl)))
  generalize xD:(Value.agg (setCh [[.int .i64 0],[.int .i64 0]] [(0,.int .i64 (i6)),(1,.int .i64 (x6))]).flatten.toArray)=uF at d9
  refine E_drawL (g:=uC) (n:=12) [] [0,1,2,3,4,5,6,7,8,9,10,11] rfl mixed (by kernel_rfl) trivial ?_
  refine L_p (fPtr p1 0) rfl rfl (P_fieldAddr at_83_0 n9 (PT.ptr l8)) ?_
  refine L_p (fPtr (fPtr p1 0) 1) rfl rfl (P_fieldAddr at_33_1 rfl (PT.ptr vC)) ?_
  refine L_ld (c:=aD) rfl rfl .plain (fun _ _ h=>h.ch) sD rfl ?_
  refine L_p (ePtr aD (0:Int) 1) rfl rfl (P_indexAddr (α:=Int) Tryz.underlying27 Tryz.sizeOf3 rfl bD rfl aB) ?_
  refine L_ld (c:=.int .i64 (i6)) rfl rfl .plain (fun _ _ h=>h.ch) tD rfl ?_
  refine L_p (fPtr p1 0) rfl rfl (P_fieldAddr at_83_0 n9 (PT.ptr l8)) ?_
  refine L_p (fPtr (fPtr p1 0) 1) rfl rfl (P_fieldAddr at_33_1 rfl (PT.ptr cD)) ?_
  refine L_ld (c:=eD) rfl rfl .plain (fun _ _ h=>h.ch) uD rfl ?_
  refine L_p (ePtr eD (1:Int) 1) rfl rfl (P_indexAddr (α:=Int) Tryz.underlying27 Tryz.sizeOf3 rfl gD rfl dB) ?_
  refine L_ld (c:=.int .i64 (x6)) rfl rfl .plain (fun _ _ h=>h.ch) vD rfl ?_
  refine L_p uF rfl rfl (xD ▸ P_build (vs:=[(0,.int .i64 (i6)),(1,.int .i64 (x6))]) [[.int .i64 0],[.int .i64 0]] lay_92 rfl rfl (.cons rfl (.cons rfl .nil)) ⟨⟨_,rfl,rfl⟩,⟨⟨_,rfl,rfl⟩,trivial⟩⟩) ?_
  refine L_p (fPtr p2 8) rfl rfl (P_fieldAddr at_94_1 m8 (OB.ptr n8)) ?_
  refine L_nl fun vF yG hs=>?_
  have hfr:=hfr.ext hs
  have n8:=n8.ext hs
  have d9:=d9.ext hs
  clear hs
  refine EL_do .plain rfl (D_storeFc (g:=vF) part_BoxRace_1 Tryz.sizeOf92 rfl n8 rfl d9 fun iD zG hs b216 rst hos=>?_)
  clear rst hos
  have hfr:=hfr.stp hs
  refine EL_nil (thn_n (E_seq (E_region (EL_do .plain rfl (D_loadO (g:=iD) Tryz.isAgg94 Tryz.sizeOf94 m8 b216 fun xF yF=>?_)))))
  refine EL_do .plain rfl (D_storeOc (g:=iD) (v:=xF) Tryz.sizeOf94 m8 b216 rfl yF fun aH cH hs b218 cb=>?_)
  clear cb
  have hfr:=hfr.stp hs
  refine EL_nil (thn_n (E_ret ?_))
  obtain rfl:=sinj h
  obtain ⟨ad219,cv219,hp219,yD,cr219⟩:=ob_read Tryz.isAgg94 Tryz.sizeOf94 b218
  exact endm_c rfl rfl ((show _=p2 from m8).trans hp219) yD ⟨_,hfr,cr219⟩
def f31 (x0:Int) (x1:BoxShuttle):Option (Int):=
 some ((w64 ((x1).Colour + (1:Int))))
theorem en31:Enters Tryz.prog 31:=enters_of Tryz.func31 (by kernel_rfl) rfl
theorem wk31 {gI:Gh} {wI:World} {x0:Int} {x1:BoxShuttle} {up1:Value} (rp1:RV gI.m wI x1 up1) {r:Int} (h:f31 x0 x1=some r):Fn Tryz.prog 31 #[.int .i64 (x0),up1] gI wI (fun _ _ v=>v=.int .i64 (r)):=by
 unfold f31 at h
 refine fn_of_E Tryz.func31 rfl (Nat.le_of_ble_eq_true rfl) fun g0 hm hfr=>?_
 have rp1:RV g0.m wI x1 up1:=hm ▸ rp1
 show E _ 8 none _ _ _ _ _
 refine E_seq (E_region (EL_do .plain rfl (D_box (g:=g0) rfl rp1 fun g1 w1 p1 hs q1=>?_)))
 have hfr:=hfr.ext hs
 refine EL_at (.int .i64 (0)) rfl rfl ?_
 refine EL_nil (thn_n (E_seq (E_region (EL_p (fPtr p1 0) (P_fieldAddr at_65_0 rfl (PT.ptr q1)) rfl ?_))))
 have q2:=PT_field (part_BoxShuttle_0).1 q1
 refine EL_do .plain rfl (D_load (g:=g1) Tryz.isAgg3 Tryz.sizeOf3 rfl q2 fun v3 r3=>?_)
 obtain rfl:=RV_int.1 r3
 refine EL_in (.int .i64 ((w64 ((x1).Colour + (1:Int))))) rfl rfl rfl rfl ?_
 refine EL_at (.int .i64 ((w64 ((x1).Colour + (1:Int))))) rfl rfl ?_
 refine EL_nil (thn_n (E_ret ?_))
 obtain rfl:=sinj h
 exact end1 rfl rfl (show _=.int .i64 ((w64 ((x1).Colour + (1:Int)))) from rfl) ⟨_,hfr,rfl⟩
def f32 (x0:BoxBoxLoom):Option (BoxMill):=
 (idx (((x0).BoxLoom).Boxes) (0:Int)).bind fun y5=>
 (idx (((x0).BoxLoom).Boxes) (1:Int)).bind fun y11=>
 some ((⟨y5,y11,⟨⟩⟩:BoxMill))
theorem en32:Enters Tryz.prog 32:=enters_of Tryz.func32 (by kernel_rfl) rfl
theorem wk32 {gI:Gh} {wI:World} {x0:BoxBoxLoom} {up0:Value} (rp0:RV gI.m wI x0 up0) {r:BoxMill} (h:f32 x0=some r):Fn Tryz.prog 32 #[up0] gI wI (fun m w v=>PT m w (r) v):=by
 unfold f32 at h
 refine fn_of_E Tryz.func32 rfl (Nat.le_of_ble_eq_true rfl) fun g0 hm hfr=>?_
 have rp0:RV g0.m wI x0 up0:=hm ▸ rp0
 show E _ 16 none _ _ _ _ _
 refine E_seq (E_region (EL_do .plain rfl (D_box (g:=g0) rfl rp0 fun g1 w1 p1 hs q1=>?_)))
 have hfr:=hfr.ext hs
 refine EL_at (.pointer none) rfl rfl ?_
 refine EL_nil (thn_n (E_seq ?_))
 have q2:=PT_field (part_BoxBoxLoom_0).1 q1
 have q3:=PT_field (part_BoxLoom_0).1 q2
 refine L_load (x:=.tmp 4) Tryz.isAgg27 Tryz.sizeOf27 q3 fun v4 r4 n8=>?_
 obtain ⟨y5,hy5,h⟩:=bsome h
 have q6:=PT_idx r4 hy5
 refine L_load (x:=.tmp 6) Tryz.isAgg3 Tryz.sizeOf3 q6 fun v7 r7 hl7=>?_
 obtain rfl:=RV_int.1 r7
 have q8:=PT_field (part_BoxBoxLoom_0).1 q1
 have q9:=PT_field (part_BoxLoom_0).1 q8
 refine L_load (x:=.tmp 9) Tryz.isAgg27 Tryz.sizeOf27 q9 fun x5 i6 l8=>?_
 obtain ⟨y11,l5,h⟩:=bsome h
 have r8:=PT_idx i6 l5
 refine L_load (x:=.tmp 11) Tryz.isAgg3 Tryz.sizeOf3 r8 fun a9 v8 m8=>?_
 obtain rfl:=RV_int.1 v8
 refine E_drawTL (g:=g1) (n:=10) [0,1,2,3,4,5,6,7,8,9] [] [0,1,2,3,4,5,6,7,8,9] rfl mixed (by kernel_rfl) trivial rfl ?_
 refine L_purL (c:=fPtr p1 0) rfl rfl .plain (P_fieldAddr at_83_0 rfl (PT.ptr q1)) ?_
 refine L_purL (c:=fPtr (fPtr p1 0) 0) rfl rfl .plain (P_fieldAddr at_33_0 rfl (PT.ptr q2)) ?_
 refine L_ldL (c:=v4) rfl rfl .plain (fun _ _ h=>h.ch) rfl n8 rfl ?_
 refine L_purL (c:=ePtr v4 (0:Int) 1) rfl rfl .plain (P_indexAddr (α:=Int) Tryz.underlying27 Tryz.sizeOf3 rfl r4 rfl hy5) ?_
 refine L_ldL (c:=.int .i64 (y5)) rfl rfl .plain (fun _ _ h=>h.ch) rfl hl7 rfl ?_
 refine L_purL (c:=fPtr p1 0) rfl rfl .plain (P_fieldAddr at_83_0 rfl (PT.ptr q1)) ?_
 refine L_purL (c:=fPtr (fPtr p1 0) 0) rfl rfl .plain (P_fieldAddr at_33_0 rfl (PT.ptr q8)) ?_
 refine L_ldL (c:=x5) rfl rfl .plain (fun _ _ h=>h.ch) rfl l8 rfl ?_
 refine L_purL (c:=ePtr x5 (1:Int) 1) rfl rfl .plain (P_indexAddr (α:=Int) Tryz.underlying27 Tryz.sizeOf3 rfl i6 rfl l5) ?_
 refine L_ldL (c:=.int .i64 (y11)) rfl rfl .plain (fun _ _ h=>h.ch) rfl m8 rfl ?_
 refine L_nl fun x6 x8 hs=>?_
 have hlt:Lt g1.m w1 x6 x8:=hs.ch
 have hfr:=hfr.ext hs
 clear hs
 refine TL_do hlt.w .plain rfl (D_makeMap (g:=x6) (encK pl_98) Int 8013 fun o0 y6 u3 hs m28=>?_)
 have hfr:=hfr.stp hs
 have hlt:=hlt.stp hs
 have i7:RV o0.m _ (⟨y5,y11,⟨⟩⟩:BoxMill) (.agg (setCh [[.int .i64 0],[.int .i64 0],[.map none]] [(0,.int .i64 (y5)),(1,.int .i64 (y11)),(2,u3)]).flatten.toArray):=RV_build rfl (rep_pair (rfl) (rep_pair (rfl) (rep_last (RV.cells (m28.ref (m:=o0.m) (w':=y6))))))
 generalize t5:(Value.agg (setCh [[.int .i64 0],[.int .i64 0],[.map none]] [(0,.int .i64 (y5)),(1,.int .i64 (y11)),(2,u3)]).flatten.toArray)=m7 at i7
 refine TL_pur hlt.w (v:=m7) (t5 ▸ P_build (vs:=[(0,.int .i64 (y5)),(1,.int .i64 (y11)),(2,u3)]) [[.int .i64 0],[.int .i64 0],[.map none]] lay_136 rfl rfl (.cons rfl (.cons rfl (.cons rfl .nil))) ⟨⟨_,rfl,rfl⟩,⟨⟨_,rfl,rfl⟩,⟨⟨_,rfl,cells_size (m28.ref (m:=o0.m) (w':=y6))⟩,trivial⟩⟩⟩) .plain rfl ?_
 refine TL_do hlt.w .plain rfl (D_boxF (g:=o0) (v:=m7) (off:=2) (u:=u3) rfl i7 (by rw [← t5]; simp only [setCh,mp_cells m28]; rfl) fun d9 k9 g8 hs k8 fc30=>?_)
 have hfr:=hfr.ext hs
 have hlt:=hlt.ext hs
 have hone500215:=PT.one k8
 refine TL_pur hlt.w (v:=g8) (P_assign rfl) .plain rfl ?_
 refine TL_nil hlt.w ?_
 clear hlt
 refine thn_n (E_ret ?_)
 obtain rfl:=sinj h
 exact end1 rfl rfl (show _=g8 from rfl) ⟨_,hfr,k8⟩
def f38 (x0:Span):Option (Int):=
 some ((x0).Low)
theorem en38:Enters Tryz.prog 38:=enters_of Tryz.func38 (by kernel_rfl) rfl
theorem wk38 {gI:Gh} {wI:World} {x0:Span} {up0:Value} (rp0:RV gI.m wI x0 up0) {r:Int} (h:f38 x0=some r):Fn Tryz.prog 38 #[up0] gI wI (fun _ _ v=>v=.int .i64 (r)):=by
 unfold f38 at h
 refine fn_of_E Tryz.func38 rfl (Nat.le_of_ble_eq_true rfl) fun g0 hm hfr=>?_
 have rp0:RV g0.m wI x0 up0:=hm ▸ rp0
 show E _ 5 none _ _ _ _ _
 refine E_seq (E_region (EL_do .plain rfl (D_box (g:=g0) rfl rp0 fun g1 w1 p1 hs q1=>?_)))
 have hfr:=hfr.ext hs
 refine EL_at (.int .i64 (0)) rfl rfl ?_
 refine EL_nil (thn_n (E_seq (E_region (EL_p (fPtr p1 0) (P_fieldAddr at_63_0 rfl (PT.ptr q1)) rfl ?_))))
 have q2:=PT_field (part_Span_0).1 q1
 refine EL_do .plain rfl (D_load (g:=g1) Tryz.isAgg3 Tryz.sizeOf3 rfl q2 fun v3 r3=>?_)
 obtain rfl:=RV_int.1 r3
 refine EL_at (.int .i64 ((x0).Low)) rfl rfl ?_
 refine EL_nil (thn_n (E_ret ?_))
 obtain rfl:=sinj h
 exact end1 rfl rfl (show _=.int .i64 ((x0).Low) from rfl) ⟨_,hfr,rfl⟩
def f39 (x0:Span):Option (Int):=
 some ((x0).High)
theorem en39:Enters Tryz.prog 39:=enters_of Tryz.func39 (by kernel_rfl) rfl
theorem wk39 {gI:Gh} {wI:World} {x0:Span} {up0:Value} (rp0:RV gI.m wI x0 up0) {r:Int} (h:f39 x0=some r):Fn Tryz.prog 39 #[up0] gI wI (fun _ _ v=>v=.int .i64 (r)):=by
 unfold f39 at h
 refine fn_of_E Tryz.func39 rfl (Nat.le_of_ble_eq_true rfl) fun g0 hm hfr=>?_
 have rp0:RV g0.m wI x0 up0:=hm ▸ rp0
 show E _ 5 none _ _ _ _ _
 refine E_seq (E_region (EL_do .plain rfl (D_box (g:=g0) rfl rp0 fun g1 w1 p1 hs q1=>?_)))
 have hfr:=hfr.ext hs
 refine EL_at (.int .i64 (0)) rfl rfl ?_
 refine EL_nil (thn_n (E_seq (E_region (EL_p (fPtr p1 1) (P_fieldAddr at_63_1 rfl (PT.ptr q1)) rfl ?_))))
 have q2:=PT_field (part_Span_1).1 q1
 refine EL_do .plain rfl (D_load (g:=g1) Tryz.isAgg3 Tryz.sizeOf3 rfl q2 fun v3 r3=>?_)
 obtain rfl:=RV_int.1 r3
 refine EL_at (.int .i64 ((x0).High)) rfl rfl ?_
 refine EL_nil (thn_n (E_ret ?_))
 obtain rfl:=sinj h
 exact end1 rfl rfl (show _=.int .i64 ((x0).High) from rfl) ⟨_,hfr,rfl⟩
def f43 (x0:Int) (z0:Int) (z1:Int):Option (Bool):=
 Option.bind (α:=Bool) (
  bif (decide (x0 < z0)) then
   some (true)
  else
   some ((decide (x0 > z1)))
  ) fun o0=>
 some (o0)
theorem en43:Enters Tryz.prog 43:=enters_of Tryz.func43 (by kernel_rfl) rfl
theorem wk43 {gI:Gh} {wI:World} {x0:Int} {z0:Int} {z1:Int} {pf0:Value} (qf0:PT gI.m wI z0 pf0) {pf1:Value} (qf1:PT gI.m wI z1 pf1) {r:Bool} (h:f43 x0 z0 z1=some r):Fn Tryz.prog 43 #[.int .i64 (x0),pf0,pf1] gI wI (fun _ _ v=>v=.bool (r)):=by
 unfold f43 at h
 refine fn_of_E Tryz.func43 rfl (Nat.le_of_ble_eq_true rfl) fun g0 hm hfr=>?_
 have qf0:PT g0.m wI z0 pf0:=hm ▸ qf0
 have qf1:PT g0.m wI z1 pf1:=hm ▸ qf1
 show E _ 13 none _ _ _ _ _
 refine E_seq (E_region (EL_at (.bool false) rfl rfl ?_))
 refine EL_nil (thn_n ?_)
 obtain ⟨o0,hx,h⟩:=bsome h
 refine E_join (fun e w=>∃ (g:Gh) ,Fr gI wI g w∧e 4=.bool (o0)) (fun Q' hQ=>?_) (fun l5 w7 hR=>?_)
 ·replace h := hx
  clear hx
  refine E_region (EL_mw (.int .i64 (x0)) rfl rfl ?_)
  refine EL_do .plain rfl (D_load (g:=g0) Tryz.isAgg3 Tryz.sizeOf3 rfl qf0 fun v4 r4=>?_)
  obtain rfl:=RV_int.1 r4
  refine EL_in (.bool ((decide (x0 < z0)))) rfl rfl rfl rfl ?_
  refine EL_mw (.bool ((decide (x0 < z0)))) rfl rfl ?_
  rcases csome h with ⟨hc5,h⟩ | ⟨hc5,h⟩
  ·refine EL_s rfl rfl hc5 rfl rfl ?_
   refine EL_s rfl rfl hc5 rfl rfl ?_
   refine EL_s rfl rfl hc5 rfl rfl ?_
   refine EL_p (.bool true) (P_pick (b:=(decide (x0 < z0))) rfl (pick_t hc5 rfl)) rfl ?_
   refine EL_at (.bool true) rfl rfl ?_
   refine EL_nil ?_
   obtain rfl:=sinj h
   exact hQ _ _ ⟨g0,hfr,rfl⟩
  ·refine EL_y (.int .i64 (x0)) (P_move rfl) rfl rfl hc5 rfl ?_
   refine EL_do (.yes2 rfl rfl hc5) rfl (D_load (g:=g0) Tryz.isAgg3 Tryz.sizeOf3 rfl qf1 fun v6 r6=>?_)
   obtain rfl:=RV_int.1 r6
   refine EL_y (.bool ((decide (x0 > z1)))) (P_int rfl rfl rfl) rfl rfl hc5 rfl ?_
   refine EL_p (.bool ((decide (x0 > z1)))) (P_pick (b:=(decide (x0 < z0))) rfl (pick_f hc5 rfl)) rfl ?_
   refine EL_at (.bool ((decide (x0 > z1)))) rfl rfl ?_
   refine EL_nil ?_
   obtain rfl:=sinj h
   exact hQ _ _ ⟨g0,hfr,rfl⟩
 ·clear hx
  obtain ⟨g7,hfr,u3⟩:=hR
  refine E_ret ?_
  obtain rfl:=sinj h
  exact end1 rfl rfl (show _=.bool (o0) from u3) ⟨_,hfr,rfl⟩
def f49 (x0:Bool):Option (UInt8):=
 jn (σ:=Unit) (fun _=>
  some ((46:UInt8))
  ) fun k2=>
 bif x0 then
  some ((120:UInt8))
 else
  k2 ()
theorem en49:Enters Tryz.prog 49:=enters_of Tryz.func49 (by kernel_rfl) rfl
theorem wk49 {gI:Gh} {wI:World} {x0:Bool}  {r:UInt8} (h:f49 x0=some r):Fn Tryz.prog 49 #[.bool (x0)] gI wI (fun _ _ v=>v=.int .u8 (UInt8.toNat (r))):=by
 unfold f49 at h
 refine fn_of_E Tryz.func49 rfl (Nat.le_of_ble_eq_true rfl) fun g0 hm hfr=>?_
 show E _ 4 none _ _ _ _ _
 refine E_seq (E_region (EL_at (.int .u8 (UInt8.toNat 0)) rfl rfl ?_))
 refine EL_nil (thn_n (E_joinC h (fun (s:Unit) e w=>∃ (g:Gh) ,Fr gI wI g w) (fun X2 k2 hk2 h=>?_) ?_))
 ·refine E_seq (E_region (EL_mw (.bool (x0)) rfl rfl ?_))
  refine EL_nil (thn_n ?_)
  rcases csome h with ⟨hc3,h⟩ | ⟨hc3,h⟩
  ·refine E_ct hc3 rfl ?_
   refine E_seq (E_region (EL_at (.int .u8 (UInt8.toNat 120)) rfl rfl ?_))
   refine EL_nil (thn_n (E_ret (thn_r ?_)))
   obtain rfl:=sinj h
   exact end1 rfl rfl (show _=.int .u8 (UInt8.toNat 120) from rfl) ⟨_,hfr,rfl⟩
  ·refine E_cf hc3 rfl ?_
   exact E_skip (thn_n (hk2 () _ _ ⟨g0,hfr⟩ h))
 ·rintro _ o0 w4 ⟨g4, hfr⟩ h
  refine E_seq (E_region (EL_at (.int .u8 (UInt8.toNat 46)) rfl rfl ?_))
  refine EL_nil (thn_n (E_ret ?_))
  obtain rfl:=sinj h
  exact end1 rfl rfl (show _=.int .u8 (UInt8.toNat 46) from rfl) ⟨_,hfr,rfl⟩
def f50 (x0:TieTieHarness) (x1:Int) (x2:Int):Option (Bool):=
 (idx (((x0).TieHarness).Warps) x2).bind fun y5=>
 (shr64 x1 y5).bind fun y8=>
 some (((bit64 .and y8 (1:Int)) == (1:Int)))
theorem en50:Enters Tryz.prog 50:=enters_of Tryz.func50 (by kernel_rfl) rfl
theorem wk50 {gI:Gh} {wI:World} {x0:TieTieHarness} {x1:Int} {x2:Int} {up0:Value} (rp0:RV gI.m wI x0 up0) {r:Bool} (h:f50 x0 x1 x2=some r):Fn Tryz.prog 50 #[up0,.int .i64 (x1),.int .i64 (x2)] gI wI (fun _ _ v=>v=.bool (r)):=by
 unfold f50 at h
 refine fn_of_E Tryz.func50 rfl (Nat.le_of_ble_eq_true rfl) fun g0 hm hfr=>?_
 have rp0:RV g0.m wI x0 up0:=hm ▸ rp0
 show E _ 17 none _ _ _ _ _
 refine E_seq (E_region (EL_do .plain rfl (D_box (g:=g0) rfl rp0 fun g1 w1 p1 hs q1=>?_)))
 have hfr:=hfr.ext hs
 refine EL_at (.bool false) rfl rfl ?_
 refine EL_nil (thn_n (E_seq (E_region (EL_mw (.int .i64 (x1)) rfl rfl ?_))))
 refine EL_p (fPtr p1 0) (P_fieldAddr at_79_0 rfl (PT.ptr q1)) rfl ?_
 have q2:=PT_field (part_TieTieHarness_0).1 q1
 refine EL_p (fPtr (fPtr p1 0) 1) (P_fieldAddr at_36_1 rfl (PT.ptr q2)) rfl ?_
 have q3:=PT_field (part_TieHarness_1).1 q2
 refine EL_do .plain rfl (D_load (g:=g1) Tryz.isAgg27 Tryz.sizeOf27 rfl q3 fun v4 r4=>?_)
 refine EL_mw (.int .i64 (x2)) rfl rfl ?_
 obtain ⟨y5,hy5,h⟩:=bsome h
 refine EL_p (ePtr v4 x2 1) (P_indexAddr (α:=Int) Tryz.underlying27 Tryz.sizeOf3 rfl r4 rfl hy5) rfl ?_
 have q6:=PT_idx r4 hy5
 refine EL_do .plain rfl (D_load (g:=g1) Tryz.isAgg3 Tryz.sizeOf3 rfl q6 fun v7 r7=>?_)
 obtain rfl:=RV_int.1 r7
 obtain ⟨y8,o0,h⟩:=bsome h
 refine EL_p (.int .i64 (y8)) (P_int rfl rfl (congrArg (Option.map (Value.int .i64)) o0)) rfl ?_
 refine EL_in (.int .i64 ((bit64 .and y8 (1:Int)))) rfl rfl rfl rfl ?_
 refine EL_in (.bool (((bit64 .and y8 (1:Int)) == (1:Int)))) rfl rfl rfl rfl ?_
 refine EL_at (.bool (((bit64 .and y8 (1:Int)) == (1:Int)))) rfl rfl ?_
 refine EL_nil (thn_n (E_ret ?_))
 obtain rfl:=sinj h
 exact end1 rfl rfl (show _=.bool (((bit64 .and y8 (1:Int)) == (1:Int))) from rfl) ⟨_,hfr,rfl⟩
def f61 (x0:Int) (x1:BoxShuttle):Option (Int):=
 some ((w64 (x0 + (1:Int))))
theorem en61:Enters Tryz.prog 61:=enters_of Tryz.func61 (by kernel_rfl) rfl
theorem wk61 {gI:Gh} {wI:World} {x0:Int} {x1:BoxShuttle} {up1:Value} (rp1:RV gI.m wI x1 up1) {r:Int} (h:f61 x0 x1=some r):Fn Tryz.prog 61 #[.int .i64 (x0),up1] gI wI (fun _ _ v=>v=.int .i64 (r)):=by
 unfold f61 at h
 refine fn_of_E Tryz.func61 rfl (Nat.le_of_ble_eq_true rfl) fun g0 hm hfr=>?_
 have rp1:RV g0.m wI x1 up1:=hm ▸ rp1
 show E _ 7 none _ _ _ _ _
 refine E_seq (E_region (EL_do .plain rfl (D_box (g:=g0) rfl rp1 fun g1 w1 p1 hs q1=>?_)))
 have hfr:=hfr.ext hs
 refine EL_at (.int .i64 (0)) rfl rfl ?_
 refine EL_nil (thn_n (E_seq (E_region (EL_mw (.int .i64 (x0)) rfl rfl ?_))))
 refine EL_in (.int .i64 ((w64 (x0 + (1:Int))))) rfl rfl rfl rfl ?_
 refine EL_at (.int .i64 ((w64 (x0 + (1:Int))))) rfl rfl ?_
 refine EL_nil (thn_n (E_ret ?_))
 obtain rfl:=sinj h
 exact end1 rfl rfl (show _=.int .i64 ((w64 (x0 + (1:Int)))) from rfl) ⟨_,hfr,rfl⟩
def f62 (x0:List Int) (x1:Int→Option Bool):Option (Int):=
 jn (σ:=Unit) (fun _=>
  some ((-1:Int))
  ) fun k18=>
 lp (σ:=Int) (fun k19 o0=>
  bif (decide (o0 < ((x0).length : Int))) then
   jn (σ:=Unit) (fun _=>
    k19 ((w64 (o0 + (1:Int))))
    ) fun k28=>
   (idx x0 o0).bind fun i7=>
   (x1 i7).bind fun v8=>
   bif v8 then
    some (o0)
   else
    k28 ()
  else
   k18 ()
  ) big ((0:Int))
theorem en62:Enters Tryz.prog 62:=enters_of Tryz.func62 (by kernel_rfl) rfl
theorem wk62 {gI:Gh} {wI:World} {x0:List Int} {x1:Int→Option Bool} {up0:Value} (rp0:RV gI.m wI x0 up0) {up1:Value} (rp1:FnV1 Tryz.prog x1 up1 gI wI) {r:Int} (h:f62 x0 x1=some r):Fn Tryz.prog 62 #[up0,up1] gI wI (fun _ _ v=>v=.int .i64 (r)):=by
 unfold f62 at h
 refine fn_of_E Tryz.func62 rfl (Nat.le_of_ble_eq_true rfl) fun g0 hm hfr=>?_
 have rp0:RV g0.m wI x0 up0:=hm ▸ rp0
 obtain ⟨ff1,fa1,fc1,rfl,fen1,fcl1⟩:=rp1
 show E _ 19 none _ _ _ _ _
 refine E_seq (E_region (EL_at (.int .i64 (0)) rfl rfl ?_))
 refine EL_nil (thn_n (E_joinC h (fun (s:Unit) e w=>∃ (g:Gh) ,Fr gI wI g w) (fun X18 k18 x8 h=>?_) ?_))
 ·refine E_seq (E_region (EL_mw up0 rfl rfl ?_))
  refine EL_p (.int .i64 ((x0).length:Int)) (P_len Tryz.underlying27 rfl rp0) rfl ?_
  refine EL_mw (.int .i64 (0)) rfl rfl ?_
  refine EL_nil (thn_n (E_block ?_))
  refine E_lp h (fun (s:Int) e w=>∃ (g:Gh) ,Fr gI wI g w∧e 0=up0∧RV g.m w (x0:List Int) up0∧e 1=(.func (.func ff1) fa1 fc1)∧e 7=.int .i64 (((x0).length:Int))∧e 8=.int .i64 (s)) ⟨g0,hfr,rfl,rp0,rfl,rfl,rfl⟩ (fun X19 k19 a9=>?_)
  rintro o0 z9 rA ⟨m7,hfr,i6,u3,x6,y6,l5⟩ h
  refine E_seq (E_region (EL_in (.bool ((decide (o0 < ((x0).length:Int))))) l5 y6 rfl rfl ?_))
  refine EL_nil (thn_n (E_seq ?_))
  rcases csome h with ⟨t5,h⟩ | ⟨t5,h⟩
  ·refine E_ct t5 rfl ?_
   refine E_skip (thn_n (E_joinC h (fun (s:Unit) e w=>∃ (g:Gh) ,Fr gI wI g w∧e 0=up0∧RV g.m w (x0:List Int) up0∧e 1=(.func (.func ff1) fa1 fc1)∧e 7=.int .i64 (((x0).length:Int))∧e 8=.int .i64 (o0)) (fun X28 k28 d9 h=>?_) ?_))
   ·refine E_block ?_
    refine E_seq (E_region (EL_mv l5 rfl ?_))
    refine EL_at (.int .i64 (o0)) rfl rfl ?_
    refine EL_nil (thn_n (E_seq (E_region (EL_mv x6 rfl ?_))))
    refine EL_mv i6 rfl ?_
    refine EL_mw (.int .i64 (o0)) rfl rfl ?_
    obtain ⟨i7,g8,h⟩:=bsome h
    refine EL_p (ePtr up0 o0 1) (P_indexAddr (α:=Int) Tryz.underlying27 Tryz.sizeOf3 rfl u3 rfl g8) rfl ?_
    have l9:=PT_idx u3 g8
    refine EL_do .plain rfl (D_load (g:=m7) Tryz.isAgg3 Tryz.sizeOf3 rfl l9 fun yA n9=>?_)
    obtain rfl:=RV_int.1 n9
    obtain ⟨v8,k9,h⟩:=bsome h
    refine EL_do .plain rfl (D_callv (g:=m7) (vs:=[.int .i64 (i7)]) rfl fen1 (.cons rfl .nil) (fcl1 _ _ hfr.ch _ _ _  (RV_int.2 rfl) k9) fun u9 aB dB hs hr=>?_)
    have hfr:=hfr.ext hs
    have u3:=u3.ext hs
    obtain rfl:=RV_bool.1 hr
    refine EL_nil (thn_n ?_)
    rcases csome h with ⟨x5,h⟩ | ⟨x5,h⟩
    ·refine E_ct x5 rfl ?_
     refine E_seq (E_region (EL_mw (.int .i64 (o0)) rfl rfl ?_))
     refine EL_at (.int .i64 (o0)) rfl rfl ?_
     refine EL_nil (thn_n (E_ret (blk_r ?_)))
     refine thn_r ?_
     refine thn_r ?_
     refine blk_r ?_
     refine thn_r ?_
     obtain rfl:=sinj h
     exact end1 rfl rfl (show _=.int .i64 (o0) from rfl) ⟨_,hfr,rfl⟩
    ·refine E_cf x5 rfl ?_
     exact E_skip (blk_n (thn_n (d9 () _ _ ⟨u9,hfr,i6,u3,x6,y6,l5⟩ h)))
   ·rintro _ bA iB ⟨y9, hfr, k8, l8, m8, n8, r8⟩ h
    refine E_region (EL_in (.int .i64 ((w64 (o0 + (1:Int))))) r8 rfl rfl rfl ?_)
    refine EL_mw (.int .i64 ((w64 (o0 + (1:Int))))) rfl rfl ?_
    exact EL_nil (thn_n (a9 ((w64 (o0 + (1:Int)))) _ _ ⟨y9,hfr,k8,l8,m8,n8,rfl⟩ h))
  ·refine E_cf t5 rfl ?_
   refine E_exit ?_
   refine thn_e ?_
   refine thn_e ?_
   refine blk_hit ?_
   exact thn_n (x8 () _ _ ⟨m7,hfr⟩ h)
 ·rintro _ iA lB ⟨mB, hfr⟩ h
  refine E_seq (E_region (EL_at (.int .i64 (-1)) rfl rfl ?_))
  refine EL_nil (thn_n (E_ret ?_))
  obtain rfl:=sinj h
  exact end1 rfl rfl (show _=.int .i64 (-1) from rfl) ⟨_,hfr,rfl⟩
def f63 (x0:Int) (m1:List (Int × Int)) (z1:Span→Option Int) (z2:BoxBoxLoom):Option (Bool × (List (Int × Int))):=
 (idx (((z2).BoxLoom).Shuttles) (w64 (x0 - (1:Int)))).bind fun t5=>
 (z1 ((t5).Yarn)).bind fun o0=>
 some ((decide (((mget ((mset m1 x0 ((w64 (((mget m1 x0).getD (0:Int)) + (1:Int)))))) x0).getD (0:Int)) > o0)),(mset m1 x0 ((w64 (((mget m1 x0).getD (0:Int)) + (1:Int))))))
theorem en63:Enters Tryz.prog 63:=enters_of Tryz.func63 (by kernel_rfl) rfl
theorem wk63 {iI:Nat} {gI:Gh} {wI:World} {x0:Int} {m1:List (Int × Int)} {z1:Span→Option Int} {z2:BoxBoxLoom} {pf0:Value} {kv500001:Value} (fc1:FC gI.m wI 0 kv500001 pf0) (mp500001:MP (Value.int .i64) iI gI wI m1 kv500001) {pf1:Value} {qv1:Fv} (qf1:PT gI.m wI qv1 pf1) (rp2:FnV1 Tryz.prog z1 qv1.v gI wI) {pf2:Value} (qf2:PT gI.m wI z2 pf2) {r:Bool × (List (Int × Int))} (h:f63 x0 m1 z1 z2=some r):FnM Tryz.prog 63 #[.int .i64 (x0),pf0,pf1,pf2] iI gI wI (fun g w v=>v=.bool (r.1)∧MP (Value.int .i64) iI g w (r.2) kv500001):=by
 unfold f63 at h
 refine fnM_of_E Tryz.func63 rfl (Nat.le_of_ble_eq_true rfl) fun g0 hm hfr=>?_
 have u3:=mp500001
 replace mp500001:=mp500001.enter
 rw [← hm] at mp500001
 replace hm:g0.m=gI.m:=by rw [hm]
 have fc1:FC g0.m wI 0 kv500001 pf0:=hm ▸ fc1
 obtain ⟨ff2,fa2,fc2,hq2,fen2,fcl2⟩:=rp2
 have qf1:PT g0.m wI qv1 pf1:=hm ▸ qf1
 have qf2:PT g0.m wI z2 pf2:=hm ▸ qf2
 show E _ 24 none _ _ _ _ _
 refine E_seq (E_region (EL_at (.bool false) rfl rfl ?_))
 refine EL_nil (thn_n (E_seq (E_region (EL_do .plain rfl (D_loadFC0 (g:=g0) Tryz.isAgg147 Tryz.sizeOf147 (mp_one mp500001) rfl fc1 ?_)))))
 refine EL_mw (.int .i64 (x0)) rfl rfl ?_
 refine EL_do .plain rfl (D_lookup (g:=g0) (z0:=(0:Int)) Tryz.underlying147 key_3 Tryz.zeroValue3 (fun m w=>⟨_,rep_int,rfl⟩) rfl mp500001 rfl fun v2 r2=>?_)
 obtain rfl:=RV_int.1 r2
 refine EL_in (.int .i64 ((w64 (((mget m1 x0).getD (0:Int)) + (1:Int))))) rfl rfl rfl rfl ?_
 refine EL_do .plain rfl (D_mapUpdate (g:=g0) Tryz.underlying147 key_3 rfl mp500001 rfl rfl (RV_int.2 rfl) fun g3 w3 hs m3=>?_)
 have hfr:=hfr.stp hs
 have fc1:=fc1.stp hs
 have qf1:=qf1.stp hs
 have qf2:=qf2.stp hs
 refine EL_nil (thn_n (E_seq ?_))
 have i7:=L_loadFC0 (P:=Tryz.prog) (x:=.tmp 1) Tryz.isAgg147 Tryz.sizeOf147 (mp_one m3) fc1
 refine L_load (α:=Fv) (x:=.tmp 2) Tryz.isAgg109 Tryz.sizeOf109 qf1 fun v6 r6 m7=>?_
 obtain rfl:=(RV_fv.1 r6).trans hq2
 have q7:=PT_field (part_BoxBoxLoom_0).1 qf2
 have q8:=PT_field (part_BoxLoom_2).1 q7
 refine L_load (x:=.tmp 15) Tryz.isAgg31 Tryz.sizeOf31 q8 fun v9 r9 g8=>?_
 obtain ⟨t5,l5,h⟩:=bsome h
 have x5:=PT_idx r9 l5
 have k8:=PT_field (part_BoxShuttle_3).1 x5
 refine L_load (x:=.tmp 20) Tryz.isAgg63 Tryz.sizeOf63 k8 fun i6 l8 x6=>?_
 obtain ⟨o0,y6,h⟩:=bsome h
 refine E_drawL (g:=g3) (n:=15) [(2,(fun v _ _=>v=.int .i64 (((mget ((mset m1 x0 ((w64 (((mget m1 x0).getD (0:Int)) + (1:Int)))))) x0).getD (0:Int))))),(12,(fun v g w=>v=.int .i64 (o0)))] [0,1,2,3,4,5,6,7,8,9,10,11,12,13,14] rfl mixed (by kernel_rfl) (⟨fun _=>up_eq _,fun _=>up_eq _,trivial⟩) ?_
 refine L_ld (c:=kv500001) rfl rfl .plain (fun _ _ h=>h.ch) i7 rfl ?_
 refine L_p (.int .i64 (x0)) rfl rfl (P_move rfl) ?_
 refine L_do (φ:=(fun v _ _=>v=.int .i64 (((mget ((mset m1 x0 ((w64 (((mget m1 x0).getD (0:Int)) + (1:Int)))))) x0).getD (0:Int))))) rfl rfl .plain (fun g w hd=>D_lookup (g:=g) (z0:=(0:Int)) Tryz.underlying147 key_3 Tryz.zeroValue3 (fun m w=>⟨_,rep_int,rfl⟩) rfl (m3.ext hd.1) rfl fun v r=>⟨g,Ext.refl g w,RV_int.1 r⟩) (fun v5 hv=>?_)
 obtain ⟨_,_,_,rfl⟩:=hv
 refine L_ld (c:=(.func (.func ff2) fa2 fc2)) rfl rfl .plain (fun _ _ h=>h.ch) m7 rfl ?_
 refine L_p (fPtr pf2 0) rfl rfl (P_fieldAddr at_83_0 rfl (PT.ptr qf2)) ?_
 refine L_p (fPtr (fPtr pf2 0) 2) rfl rfl (P_fieldAddr at_33_2 rfl (PT.ptr q7)) ?_
 refine L_ld (c:=v9) rfl rfl .plain (fun _ _ h=>h.ch) g8 rfl ?_
 refine L_p (.int .i64 (x0)) rfl rfl (P_move rfl) ?_
 refine L_p (.int .i64 ((w64 (x0 - (1:Int))))) rfl rfl (P_int rfl rfl rfl) ?_
 refine L_p (ePtr v9 (w64 (x0 - (1:Int))) 5) rfl rfl (P_indexAddr (α:=BoxShuttle) Tryz.underlying31 Tryz.sizeOf65 rfl r9 rfl l5) ?_
 refine L_p (fPtr (ePtr v9 (w64 (x0 - (1:Int))) 5) 3) rfl rfl (P_fieldAddr at_65_3 rfl (PT.ptr x5)) ?_
 refine L_ld (c:=i6) rfl rfl .plain (fun _ _ h=>h.ch) x6 rfl ?_
 refine L_do (φ:=fun v g w=>v=.int .i64 (o0)) rfl rfl .plain (fun g w hd=>D_callv (g:=g) (vs:=[i6]) rfl fen2 (.cons rfl .nil) (fcl2 _ _ (hfr.ext hd.1).ch _ _ _  (l8.ext hd.1) y6) fun g' w' v hs hr=>⟨g',hs,RV_int.1 hr⟩) (fun m8 hv=>?_)
 obtain ⟨_,_,_,rfl⟩:=hv
 refine L_p (.bool ((decide (((mget ((mset m1 x0 ((w64 (((mget m1 x0).getD (0:Int)) + (1:Int)))))) x0).getD (0:Int)) > o0)))) rfl rfl (P_int rfl rfl rfl) ?_
 refine L_p (.bool ((decide (((mget ((mset m1 x0 ((w64 (((mget m1 x0).getD (0:Int)) + (1:Int)))))) x0).getD (0:Int)) > o0)))) rfl rfl (P_assign rfl) ?_
 refine L_nl fun n8 r8 hs=>?_
 have hfr:=hfr.ext hs
 have m3:=m3.ext hs
 clear hs
 refine EL_nil (thn_n (E_ret ?_))
 obtain rfl:=sinj h
 exact end1 rfl rfl (show _=.bool ((decide (((mget ((mset m1 x0 ((w64 (((mget m1 x0).getD (0:Int)) + (1:Int)))))) x0).getD (0:Int)) > o0))) from rfl) ⟨_,hfr,rfl,u3.back m3⟩
theorem ws62 {σ : Type} {I : σ → Gh → World → Prop} {φ : σ → Int → Option (Bool × σ)} {x0 : List Int} {up0 : Value} {ff : FuncId} {caps : Array Value} {gI : Gh} {wI : World} {s0 : σ} {r : Int} (i : Nat) (hen : Enters Tryz.prog ff)
  (hφ:∀ s x b s' g w,φ s x=some (b,s')→I s g w→Ch gI.m wI g.m w→FnM Tryz.prog ff (#[] ++ #[.int .i64 x] ++ caps) i g w (fun g' w' v=>v=.bool b∧I s' g' w'))
  (rp0:RV gI.m wI x0 up0) (h0:I s0 gI wI) (h:idxS x0 φ s0=some r):Calls Tryz.prog 62 #[up0,.func (.func ff) #[] caps] wI fun e w=>∃ v,e=.returned v∧v=.int .i64 r∧∃ g s',Stp i gI wI g w∧I s' g w:=by
 unfold idxS at h
 refine calls_of_E Tryz.func62 rfl (Nat.le_of_ble_eq_true rfl) (R:=fun v w=>v=.int .i64 r∧∃ g s',Stp i gI wI g w∧I s' g w) ?_
 have hfr:Stp i gI wI gI wI:=(Ext.refl gI wI).stp
 show E _ 19 none _ _ _ _ _
 refine E_seq (E_region (EL_at (.int .i64 (0)) rfl rfl (EL_nil (thn_n ?_))))
 refine E_joinC h (fun (_:Unit) e w=>∃ (g:Gh) (t:σ),Stp i gI wI g w∧I t g w) (fun X18 k18 v8 h=>?_) ?_
 ·refine E_seq (E_region (EL_mw up0 rfl rfl ?_))
  refine EL_p (.int .i64 ((x0).length:Int)) (P_len Tryz.underlying27 rfl rp0) rfl ?_
  refine EL_mw (.int .i64 (0)) rfl rfl (EL_nil (thn_n (E_block ?_)))
  refine E_lp h (fun (s:σ × Int) e w=>∃ (g:Gh) ,Stp i gI wI g w∧I s.1 g w∧e 0=up0∧RV g.m w (x0:List Int) up0∧e 1=(.func (.func ff) #[] caps)∧e 7=.int .i64 (((x0).length:Int))∧e 8=.int .i64 (s.2)) ⟨gI,hfr,h0,rfl,rp0,rfl,rfl,rfl⟩ (fun X19 k19 x8=>?_)
  rintro ⟨bA,o0⟩ iA aB ⟨i7,hfr,hI,i6,u3,x6,y6,l5⟩ h
  refine E_seq (E_region (EL_in (.bool ((decide (o0 < ((x0).length:Int))))) l5 y6 rfl rfl (EL_nil (thn_n ?_))))
  refine E_seq ?_
  rcases csome h with ⟨t5,h⟩ | ⟨t5,h⟩
  ·refine E_ct t5 rfl (E_skip (thn_n ?_))
   refine E_joinC h (fun (t:σ) e w=>∃ (g:Gh) ,Stp i gI wI g w∧I t g w∧e 0=up0∧RV g.m w (x0:List Int) up0∧e 1=(.func (.func ff) #[] caps)∧e 7=.int .i64 (((x0).length:Int))∧e 8=.int .i64 (o0)) (fun X28 k28 a9 h=>?_) ?_
   ·refine E_block (E_seq (E_region ?_))
    refine EL_mv l5 rfl ?_
    refine EL_at (.int .i64 (o0)) rfl rfl (EL_nil (thn_n (E_seq (E_region ?_))))
    refine EL_mv x6 rfl ?_
    refine EL_mv i6 rfl ?_
    refine EL_mw (.int .i64 (o0)) rfl rfl ?_
    obtain ⟨l9,m7,h⟩:=bsome h
    refine EL_p (ePtr up0 o0 1) (P_indexAddr (α:=Int) Tryz.underlying27 Tryz.sizeOf3 rfl u3 rfl m7) rfl ?_
    have n9:=PT_idx u3 m7
    refine EL_do .plain rfl (D_load (g:=i7) Tryz.isAgg3 Tryz.sizeOf3 rfl n9 fun dB u9=>?_)
    obtain rfl:=RV_int.1 u9
    obtain ⟨⟨b33,t33⟩,d9,h⟩:=bsome h
    refine EL_do .plain rfl (D_callvM (g:=i7) (vs:=[.int .i64 (l9)]) rfl hen (.cons rfl .nil) (hφ _ _ _ _ _ _ d9 hI hfr.ch) fun r8 iB lB hs hr=>?_)
    obtain ⟨rfl,hI⟩:=hr
    have hfr:=hfr.trans hs
    have u3:=u3.stp hs
    refine EL_nil (thn_n ?_)
    rcases csome h with ⟨x5,h⟩ | ⟨x5,h⟩
    ·refine E_ct x5 rfl (E_seq (E_region ?_))
     refine EL_mw (.int .i64 (o0)) rfl rfl ?_
     refine EL_at (.int .i64 (o0)) rfl rfl (EL_nil (thn_n (E_ret ?_)))
     refine blk_r (thn_r (thn_r (blk_r (thn_r ?_))))
     obtain rfl:=sinj h
     exact end1 rfl rfl (show _=.int .i64 (o0) from rfl) ⟨rfl,r8,t33,hfr,hI⟩
    ·refine E_cf x5 rfl (E_skip (blk_n ?_))
     exact thn_n (a9 t33 _ _ ⟨r8,hfr,hI,i6,u3,x6,y6,l5⟩ h)
   ·rintro k9 rA mB ⟨y9, hfr, hI, g8, k8, l8, m8, n8⟩ h
    refine E_region (EL_in (.int .i64 ((w64 (o0 + (1:Int))))) n8 rfl rfl rfl ?_)
    refine EL_mw (.int .i64 ((w64 (o0 + (1:Int))))) rfl rfl (EL_nil ?_)
    exact thn_n (x8 (k9,(w64 (o0 + (1:Int)))) _ _ ⟨y9,hfr,hI,g8,k8,l8,m8,rfl⟩ h)
  ·refine E_cf t5 rfl (E_exit (thn_e (thn_e (blk_hit ?_))))
   exact thn_n (v8 () _ _ ⟨i7,_,hfr,hI⟩ h)
 ·rintro _ yA nB ⟨z9, t36, hfr, hI⟩ h
  refine E_seq (E_region (EL_at (.int .i64 (-1)) rfl rfl (EL_nil (thn_n (E_ret ?_)))))
  obtain rfl:=sinj h
  exact end1 rfl rfl (show _=.int .i64 (-1) from rfl) ⟨rfl,z9,t36,hfr,hI⟩
def f40 (x0:BoxBoxLoom) (x1:List Int) (x2:Span→Option Int):Option Int:=idxS x1 (fun m n=>f63 n m x2 x0) []
theorem en40:Enters Tryz.prog 40:=enters_of Tryz.func40 (by kernel_rfl) rfl
theorem wk40 {gI:Gh} {wI:World} {x0:BoxBoxLoom} {x1:List Int} {x2:Span→Option Int} {up0 up1 up2:Value} (rp0:RV gI.m wI x0 up0) (rp1:RV gI.m wI x1 up1) (rp2:FnV1 Tryz.prog x2 up2 gI wI) {r:Int} (h:f40 x0 x1 x2=some r):Fn Tryz.prog 40 #[up0,up1,up2] gI wI (fun _ _ v=>v=.int .i64 (r)):=by
 unfold f40 at h
 refine fn_of_E Tryz.func40 rfl (Nat.le_of_ble_eq_true rfl) fun g0 hm hfr=>?_
 have rp0:RV g0.m wI x0 up0:=hm ▸ rp0
 have rp1:RV g0.m wI x1 up1:=hm ▸ rp1
 have hone:up2.oneCell'=true:=by obtain ⟨ff,fa,fc,rfl,_⟩:=rp2; rfl
 have hfc:Ch gI.m wI g0.m wI:=hm ▸ Ch.refl _ _
 show E _ 12 none _ _ _ _ _
 refine E_seq (E_region (EL_do .plain rfl (D_box (g:=g0) rfl rp0 fun g1 w1 p1 hs q1=>?_)))
 have hfr:=hfr.ext hs
 have hfc:=hfc.trans hs.ch
 have rp1:=rp1.ext hs
 refine EL_do .plain rfl (D_box (g:=g1) (a:=(⟨up2,hone⟩:Fv)) rfl (RV_fv.2 rfl) fun g2 w2 p2 hs q2=>?_)
 have hfr:=hfr.ext hs
 have hfc:=hfc.trans hs.ch
 have rp1:=rp1.ext hs
 have q1:=q1.ext hs
 refine EL_at (.int .i64 (0)) rfl rfl (EL_nil (thn_n ?_))
 refine E_seq (E_region (EL_do .plain rfl (D_makeMap (g:=g2) (Value.int .i64) Int 8008 fun g3 w3 v3 hs m3=>?_)))
 have hfr:=hfr.stp hs
 have hfc:=hfc.trans hs.ch
 have rp1:=rp1.stp hs
 have q1:=q1.stp hs
 have q2:=q2.stp hs
 refine EL_do .plain rfl (D_allocOc (g:=g3) 2007 (⟨.map none,rfl⟩:Fv) Tryz.zeroValue147 (fun _ _=>fvm_rep) fun g4 w4 p4 hs b4 cb=>?_)
 clear cb
 have hfr:=hfr.stp hs
 have hfc:=hfc.trans hs.ch
 have rp1:=rp1.stp hs
 have q1:=q1.stp hs
 have q2:=q2.stp hs
 have m3:=m3.stp hs rfl
 have hv3:=mp_one m3
 refine EL_do .plain rfl (D_storeOc (g:=g4) (v:=v3) (a':=(⟨v3,hv3⟩:Fv)) Tryz.sizeOf147 rfl b4 rfl (RV_fv.2 rfl) fun g5 w5 hs b5 cb=>?_)
 clear cb
 have hfr:=hfr.stp hs
 have hfc:=hfc.trans hs.ch
 have rp1:=rp1.stp hs
 have q1:=q1.stp hs
 have q2:=q2.stp hs
 have m3:=m3.stp hs rfl
 obtain ⟨g6,hs,q6⟩:=OB.pub b5
 have hfr:=hfr.stp hs
 have hfc:=hfc.trans hs.ch
 have rp1:=rp1.stp hs
 have q1:=q1.stp hs
 have q2:=q2.stp hs
 have m3:=m3.stp hs rfl
 have fc6:=q6.fc
 have rp2:=rp2.ch (g':=g6) (w':=w5) hfc
 refine EL_nil (thn_n (E_seq (E_region (EL_mw up1 rfl rfl ?_))))
 refine EL_p (.func (.func 63) #[] #[p4,p2,p1]) (P_makeFunc (capf_0_3 rfl rfl rfl)) rfl ?_
 refine EL_do .plain rfl (D_callC (vs:=[up1,.func (.func 63) #[] #[p4,p2,p1]]) en62 (.cons rfl (.cons rfl .nil)) (ws62 (I:=fun m g w=>MP (Value.int .i64) 8008 g w m v3) 8008 en63 (fun s x b s' g w hx hI hch=>?_) rp1 m3 h) fun v7 w7 hq=>?_)
 ·exact wk63 (fc6.ch hch) hI (q2.ch hch) (rp2.ch hch) (q1.ch hch) hx
 ·obtain ⟨rfl, g7, s7, hs, _⟩ := hq
  have hfr:=hfr.stp hs
  refine EL_at (.int .i64 r) rfl rfl (EL_nil (thn_n (E_ret ?_)))
  exact end1 rfl rfl (show _=.int .i64 r from rfl) ⟨_,hfr,rfl⟩
def f68 (x1:It Int):Option ((List Int)):=
 Option.bind (α:=(List Int)) (
  (x1 ((List Int)) (fun i6 t5=>
   (apnd 8 i6 (([t5]:List Int))).bind fun y6=>
   some (true,(y6))
   ) ((([]:List Int):List Int))).bind fun x6=>
  some (x6)
  ) fun x5=>
 some (x5)
theorem en68:Enters Tryz.prog 68:=enters_of Tryz.func68 (by kernel_rfl) rfl
def f69 (z0:Int) (z1:Int) (σ:Type) (cons:Cons σ Int) (s0:σ):Option σ:=
 Option.bind (α:=Int) (
  bif (decide (z0 < z1)) then
   some ((-1:Int))
  else
   some ((1:Int))
  ) fun u3=>
 lp (σ:=σ × Int) (fun k9 (n8,o0)=>
  jn (σ:=σ) (fun i7=>
   k9 (i7,(w64 (o0 + u3)))
   ) fun aB=>
  Option.bind (α:=σ × Bool) (
   (cons n8 o0).bind fun (x6,l8)=>
   bif (!x6) then
    some (l8,true)
   else
    some (l8,(o0 == z0))
   ) fun (x5,t5)=>
  bif t5 then
   some x5
  else
   aB (x5)
  ) big (s0,z1)
theorem en69:Enters Tryz.prog 69:=enters_of Tryz.func69 (by kernel_rfl) rfl
theorem wk69 {σ:Type} {cons:Cons σ Int} {s0 r:σ} {gI:Gh} {wI:World} {z0:Int} {z1:Int} {pf0:Value} (qf0:PT gI.m wI z0 pf0) {pf1:Value} (qf1:PT gI.m wI z1 pf1) (h:f69 z0 z1 σ cons s0=some r):IterC Tryz.prog (RA1 (α:=Int)) 69 #[] #[pf0,pf1] gI wI cons s0 r:=by
 unfold f69 at h
 refine iter_of_E Tryz.func69 rfl (Nat.le_of_ble_eq_true rfl) fun l B J g0 hm hAb hRo hfr=>?_
 have qf0:PT g0.m wI z0 pf0:=hm ▸ qf0
 have qf1:PT g0.m wI z1 pf1:=hm ▸ qf1
 show E _ 22 none _ _ (envAt #[.func (.yield l) #[] #[],pf0,pf1]) _ _
 refine E_seq (E_region (EL_at (.int .i64 (1)) rfl rfl ?_))
 refine EL_nil (thn_n ?_)
 obtain ⟨u3,hx,h⟩:=bsome h
 refine E_join (fun e w=>∃ (g:Gh) ,FrY gI wI B J (s0) g w∧e 0=(.func (.yield l) #[] #[])∧e 1=pf0∧PT g.m w (z0:Int) pf0∧e 2=pf1∧PT g.m w (z1:Int) pf1∧e 4=.int .i64 (u3)) (fun Q' hQ=>?_) (fun bD w7 hR=>?_)
 ·replace h := hx
  clear hx
  refine E_seq (E_region (EL_do .plain rfl (D_load (g:=g0) Tryz.isAgg3 Tryz.sizeOf3 rfl qf0 fun v4 r4=>?_)))
  obtain rfl:=RV_int.1 r4
  refine EL_do .plain rfl (D_load (g:=g0) Tryz.isAgg3 Tryz.sizeOf3 rfl qf1 fun v5 r5=>?_)
  obtain rfl:=RV_int.1 r5
  refine EL_in (.bool ((decide (z0 < z1)))) rfl rfl rfl rfl ?_
  refine EL_nil (thn_n ?_)
  rcases csome h with ⟨hc6,h⟩ | ⟨hc6,h⟩
  ·refine E_ct hc6 rfl ?_
   refine E_region (EL_at (.int .i64 (-1)) rfl rfl ?_)
   refine EL_nil ?_
   obtain rfl:=sinj h
   exact hQ _ _ ⟨g0,hfr,rfl,rfl,qf0,rfl,qf1,rfl⟩
  ·refine E_cf hc6 rfl ?_
   refine E_skip ?_
   obtain rfl:=sinj h
   exact hQ _ _ ⟨g0,hfr,rfl,rfl,qf0,rfl,qf1,rfl⟩
 ·clear hx
  obtain ⟨g7,hfr,dB,iB,lB,mB,nB,oB⟩:=hR
  refine E_seq (E_region (EL_do .plain rfl (D_load (g:=g7) Tryz.isAgg3 Tryz.sizeOf3 mB nB fun v8 r8=>?_)))
  obtain rfl:=RV_int.1 r8
  refine EL_at (.int .i64 (z1)) rfl rfl ?_
  refine EL_nil (thn_n (E_block ?_))
  refine E_lp h (fun (s:σ × Int) e w=>∃ (g:Gh) ,FrY gI wI B J (s.1) g w∧e 0=(.func (.yield l) #[] #[])∧e 1=pf0∧PT g.m w (z0:Int) pf0∧e 4=.int .i64 (u3)∧e 5=.int .i64 (s.2)) ⟨g7,hfr,dB,iB,lB,oB,rfl⟩ (fun X9 k9 yB=>?_)
  rintro ⟨n8,o0⟩ uC cD ⟨zB,hfr,m7,g8,i6,x8,y6⟩ h
  refine E_joinC h (fun (s:σ) e w=>∃ (g:Gh) ,FrY gI wI B J (s) g w∧e 0=(.func (.yield l) #[] #[])∧e 1=pf0∧PT g.m w (z0:Int) pf0∧e 4=.int .i64 (u3)∧e 5=.int .i64 (o0)) (fun X21 aB tB h=>?_) ?_
  ·refine E_block ?_
   obtain ⟨⟨x5,t5⟩,hx,h⟩:=bsome h
   refine E_join (fun e w=>∃ (g:Gh) ,FrY gI wI B J (x5) g w∧e 0=(.func (.yield l) #[] #[])∧e 1=pf0∧PT g.m w (z0:Int) pf0∧e 4=.int .i64 (u3)∧e 5=.int .i64 (o0)∧e 21=.bool (t5)) (fun Q' hQ=>?_) (fun vC eD hR=>?_)
   ·replace h := hx
    clear hx
    refine E_region (EL_mv m7 rfl ?_)
    refine EL_mv y6 rfl ?_
    obtain ⟨cC,vB,h⟩:=bsome h
    obtain ⟨x6,l8⟩:=cC
    refine EL_do .plain rfl (D_yield (g:=zB) (x:=o0) rfl (.cons rfl .nil) hRo hfr vB ⟨_,rfl,(RV_int.2 rfl)⟩ fun d9 gD hs hfrY=>?_)
    have i6:=i6.stp hs
    have hfr:=hfrY
    clear hfrY
    refine EL_p (.bool (!x6)) (P_not rfl) rfl ?_
    refine EL_mw (.bool (!x6)) rfl rfl ?_
    rcases csome h with ⟨l5,h⟩ | ⟨l5,h⟩
    ·refine EL_s rfl rfl l5 rfl rfl ?_
     refine EL_s rfl rfl l5 rfl rfl ?_
     refine EL_s rfl rfl l5 rfl rfl ?_
     refine EL_p (.bool true) (P_pick (b:=(!x6)) rfl (pick_t l5 rfl)) rfl ?_
     refine EL_nil ?_
     obtain ⟨rfl,rfl⟩:=pairs2 h
     exact hQ _ _ ⟨d9,hfr,m7,g8,i6,x8,y6,rfl⟩
    ·refine EL_y (.int .i64 (o0)) (P_move y6) rfl rfl l5 rfl ?_
     refine EL_do (.yes2 rfl rfl l5) rfl (D_load (g:=d9) Tryz.isAgg3 Tryz.sizeOf3 g8 i6 fun iD mC=>?_)
     obtain rfl:=RV_int.1 mC
     refine EL_y (.bool ((o0 == z0))) (P_int rfl rfl rfl) rfl rfl l5 rfl ?_
     refine EL_p (.bool ((o0 == z0))) (P_pick (b:=(!x6)) rfl (pick_f l5 rfl)) rfl ?_
     refine EL_nil ?_
     obtain ⟨rfl,rfl⟩:=pairs2 h
     exact hQ _ _ ⟨d9,hfr,m7,g8,i6,x8,y6,rfl⟩
   ·clear hx
    obtain ⟨qC,hfr,l9,n9,u9,y9,z9,k8⟩:=hR
    rcases csome h with ⟨m8,h⟩ | ⟨m8,h⟩
    ·refine E_cond_true (Eq.trans (show ev _ _ = .bool (t5) from k8) (congrArg Value.bool m8)) ?_
     refine E_ret (blk_r ?_)
     refine thn_r ?_
     refine thn_r ?_
     refine blk_r ?_
     obtain rfl:=sinj h
     exact end0 rfl rfl (FrY.done hfr)
    ·refine E_cond_false (Eq.trans (show ev _ _ = .bool (t5) from k8) (congrArg Value.bool m8)) ?_
     exact E_skip (blk_n (thn_n (tB (x5) _ _ ⟨qC,hfr,l9,n9,u9,y9,z9⟩ h)))
  ·rintro i7 aD jD ⟨rC, hfr, bA, iA, rA, a9, yA⟩ h
   refine E_region (EL_mv yA rfl ?_)
   refine EL_mv a9 rfl ?_
   refine EL_in (.int .i64 ((w64 (o0 + u3)))) rfl rfl rfl rfl ?_
   refine EL_at (.int .i64 ((w64 (o0 + u3)))) rfl rfl ?_
   exact EL_nil (thn_n (yB (i7,(w64 (o0 + u3))) _ _ ⟨rC,hfr,bA,iA,rA,a9,rfl⟩ h))
def f70 (x0:Int) (z0:Int) (z1:Int):Option (Bool):=
 Option.bind (α:=Bool) (
  bif (decide (x0 < z0)) then
   some (true)
  else
   some ((decide (x0 > z1)))
  ) fun o0=>
 some (o0)
theorem en70:Enters Tryz.prog 70:=enters_of Tryz.func70 (by kernel_rfl) rfl
theorem wk70 {gI:Gh} {wI:World} {x0:Int} {z0:Int} {z1:Int} {pf0:Value} (qf0:PT gI.m wI z0 pf0) {pf1:Value} (qf1:PT gI.m wI z1 pf1) {r:Bool} (h:f70 x0 z0 z1=some r):Fn Tryz.prog 70 #[.int .i64 (x0),pf0,pf1] gI wI (fun _ _ v=>v=.bool (r)):=by
 unfold f70 at h
 refine fn_of_E Tryz.func70 rfl (Nat.le_of_ble_eq_true rfl) fun g0 hm hfr=>?_
 have qf0:PT g0.m wI z0 pf0:=hm ▸ qf0
 have qf1:PT g0.m wI z1 pf1:=hm ▸ qf1
 show E _ 13 none _ _ _ _ _
 refine E_seq (E_region (EL_at (.bool false) rfl rfl ?_))
 refine EL_nil (thn_n ?_)
 obtain ⟨o0,hx,h⟩:=bsome h
 refine E_join (fun e w=>∃ (g:Gh) ,Fr gI wI g w∧e 4=.bool (o0)) (fun Q' hQ=>?_) (fun l5 w7 hR=>?_)
 ·replace h := hx
  clear hx
  refine E_region (EL_mw (.int .i64 (x0)) rfl rfl ?_)
  refine EL_do .plain rfl (D_load (g:=g0) Tryz.isAgg3 Tryz.sizeOf3 rfl qf0 fun v4 r4=>?_)
  obtain rfl:=RV_int.1 r4
  refine EL_in (.bool ((decide (x0 < z0)))) rfl rfl rfl rfl ?_
  refine EL_mw (.bool ((decide (x0 < z0)))) rfl rfl ?_
  rcases csome h with ⟨hc5,h⟩ | ⟨hc5,h⟩
  ·refine EL_s rfl rfl hc5 rfl rfl ?_
   refine EL_s rfl rfl hc5 rfl rfl ?_
   refine EL_s rfl rfl hc5 rfl rfl ?_
   refine EL_p (.bool true) (P_pick (b:=(decide (x0 < z0))) rfl (pick_t hc5 rfl)) rfl ?_
   refine EL_at (.bool true) rfl rfl ?_
   refine EL_nil ?_
   obtain rfl:=sinj h
   exact hQ _ _ ⟨g0,hfr,rfl⟩
  ·refine EL_y (.int .i64 (x0)) (P_move rfl) rfl rfl hc5 rfl ?_
   refine EL_do (.yes2 rfl rfl hc5) rfl (D_load (g:=g0) Tryz.isAgg3 Tryz.sizeOf3 rfl qf1 fun v6 r6=>?_)
   obtain rfl:=RV_int.1 r6
   refine EL_y (.bool ((decide (x0 > z1)))) (P_int rfl rfl rfl) rfl rfl hc5 rfl ?_
   refine EL_p (.bool ((decide (x0 > z1)))) (P_pick (b:=(decide (x0 < z0))) rfl (pick_f hc5 rfl)) rfl ?_
   refine EL_at (.bool ((decide (x0 > z1)))) rfl rfl ?_
   refine EL_nil ?_
   obtain rfl:=sinj h
   exact hQ _ _ ⟨g0,hfr,rfl⟩
 ·clear hx
  obtain ⟨g7,hfr,u3⟩:=hR
  refine E_ret ?_
  obtain rfl:=sinj h
  exact end1 rfl rfl (show _=.bool (o0) from u3) ⟨_,hfr,rfl⟩
def f72 (x0:List BoxShuttle) (x1:BoxShuttle→Option Bool):Option (Int):=
 jn (σ:=Unit) (fun _=>
  some ((-1:Int))
  ) fun k18=>
 lp (σ:=Int) (fun k19 o0=>
  bif (decide (o0 < ((x0).length : Int))) then
   jn (σ:=Unit) (fun _=>
    k19 ((w64 (o0 + (1:Int))))
    ) fun k28=>
   (idx x0 o0).bind fun r8=>
   (x1 r8).bind fun v8=>
   bif v8 then
    some (o0)
   else
    k28 ()
  else
   k18 ()
  ) big ((0:Int))
theorem en72:Enters Tryz.prog 72:=enters_of Tryz.func72 (by kernel_rfl) rfl
theorem wk72 {gI:Gh} {wI:World} {x0:List BoxShuttle} {x1:BoxShuttle→Option Bool} {up0:Value} (rp0:RV gI.m wI x0 up0) {up1:Value} (rp1:FnV1 Tryz.prog x1 up1 gI wI) {r:Int} (h:f72 x0 x1=some r):Fn Tryz.prog 72 #[up0,up1] gI wI (fun _ _ v=>v=.int .i64 (r)):=by
 unfold f72 at h
 refine fn_of_E Tryz.func72 rfl (Nat.le_of_ble_eq_true rfl) fun g0 hm hfr=>?_
 have rp0:RV g0.m wI x0 up0:=hm ▸ rp0
 obtain ⟨ff1,fa1,fc1,rfl,fen1,fcl1⟩:=rp1
 show E _ 19 none _ _ _ _ _
 refine E_seq (E_region (EL_at (.int .i64 (0)) rfl rfl ?_))
 refine EL_nil (thn_n (E_joinC h (fun (s:Unit) e w=>∃ (g:Gh) ,Fr gI wI g w) (fun X18 k18 x8 h=>?_) ?_))
 ·refine E_seq (E_region (EL_mw up0 rfl rfl ?_))
  refine EL_p (.int .i64 ((x0).length:Int)) (P_len Tryz.underlying31 rfl rp0) rfl ?_
  refine EL_mw (.int .i64 (0)) rfl rfl ?_
  refine EL_nil (thn_n (E_block ?_))
  refine E_lp h (fun (s:Int) e w=>∃ (g:Gh) ,Fr gI wI g w∧e 0=up0∧RV g.m w (x0:List BoxShuttle) up0∧e 1=(.func (.func ff1) fa1 fc1)∧e 7=.int .i64 (((x0).length:Int))∧e 8=.int .i64 (s)) ⟨g0,hfr,rfl,rp0,rfl,rfl,rfl⟩ (fun X19 k19 a9=>?_)
  rintro o0 bA yA ⟨i7,hfr,i6,u3,x6,y6,l5⟩ h
  refine E_seq (E_region (EL_in (.bool ((decide (o0 < ((x0).length:Int))))) l5 y6 rfl rfl ?_))
  refine EL_nil (thn_n (E_seq ?_))
  rcases csome h with ⟨t5,h⟩ | ⟨t5,h⟩
  ·refine E_ct t5 rfl ?_
   refine E_skip (thn_n (E_joinC h (fun (s:Unit) e w=>∃ (g:Gh) ,Fr gI wI g w∧e 0=up0∧RV g.m w (x0:List BoxShuttle) up0∧e 1=(.func (.func ff1) fa1 fc1)∧e 7=.int .i64 (((x0).length:Int))∧e 8=.int .i64 (o0)) (fun X28 k28 d9 h=>?_) ?_))
   ·refine E_block ?_
    refine E_seq (E_region (EL_mv l5 rfl ?_))
    refine EL_at (.int .i64 (o0)) rfl rfl ?_
    refine EL_nil (thn_n (E_seq (E_region (EL_mv x6 rfl ?_))))
    refine EL_mv i6 rfl ?_
    refine EL_mw (.int .i64 (o0)) rfl rfl ?_
    obtain ⟨r8,m7,h⟩:=bsome h
    refine EL_p (ePtr up0 o0 5) (P_indexAddr (α:=BoxShuttle) Tryz.underlying31 Tryz.sizeOf65 rfl u3 rfl m7) rfl ?_
    have l9:=PT_idx u3 m7
    refine EL_do .plain rfl (D_load (g:=i7) Tryz.isAgg65 Tryz.sizeOf65 rfl l9 fun n9 u9=>?_)
    obtain ⟨v8,k9,h⟩:=bsome h
    refine EL_do .plain rfl (D_callv (g:=i7) (vs:=[n9]) rfl fen1 (.cons rfl .nil) (fcl1 _ _ hfr.ch _ _ _  u9 k9) fun y9 aB dB hs hr=>?_)
    have hfr:=hfr.ext hs
    have u3:=u3.ext hs
    obtain rfl:=RV_bool.1 hr
    refine EL_nil (thn_n ?_)
    rcases csome h with ⟨x5,h⟩ | ⟨x5,h⟩
    ·refine E_ct x5 rfl ?_
     refine E_seq (E_region (EL_mw (.int .i64 (o0)) rfl rfl ?_))
     refine EL_at (.int .i64 (o0)) rfl rfl ?_
     refine EL_nil (thn_n (E_ret (blk_r ?_)))
     refine thn_r ?_
     refine thn_r ?_
     refine blk_r ?_
     refine thn_r ?_
     obtain rfl:=sinj h
     exact end1 rfl rfl (show _=.int .i64 (o0) from rfl) ⟨_,hfr,rfl⟩
    ·refine E_cf x5 rfl ?_
     exact E_skip (blk_n (thn_n (d9 () _ _ ⟨y9,hfr,i6,u3,x6,y6,l5⟩ h)))
   ·rintro _ iA iB ⟨z9, hfr, g8, k8, l8, m8, n8⟩ h
    refine E_region (EL_in (.int .i64 ((w64 (o0 + (1:Int))))) n8 rfl rfl rfl ?_)
    refine EL_mw (.int .i64 ((w64 (o0 + (1:Int))))) rfl rfl ?_
    exact EL_nil (thn_n (a9 ((w64 (o0 + (1:Int)))) _ _ ⟨z9,hfr,g8,k8,l8,m8,rfl⟩ h))
  ·refine E_cf t5 rfl ?_
   refine E_exit ?_
   refine thn_e ?_
   refine thn_e ?_
   refine blk_hit ?_
   exact thn_n (x8 () _ _ ⟨i7,hfr⟩ h)
 ·rintro _ rA lB ⟨mB, hfr⟩ h
  refine E_seq (E_region (EL_at (.int .i64 (-1)) rfl rfl ?_))
  refine EL_nil (thn_n (E_ret ?_))
  obtain rfl:=sinj h
  exact end1 rfl rfl (show _=.int .i64 (-1) from rfl) ⟨_,hfr,rfl⟩
def f73 (x0:Int) (z0:Int) (z1:Int):Option (Bool):=
 Option.bind (α:=Bool) (
  bif (decide (x0 < z0)) then
   some (true)
  else
   some ((decide (x0 > z1)))
  ) fun o0=>
 some (o0)
theorem en73:Enters Tryz.prog 73:=enters_of Tryz.func73 (by kernel_rfl) rfl
theorem wk73 {gI:Gh} {wI:World} {x0:Int} {z0:Int} {z1:Int} {pf0:Value} (qf0:PT gI.m wI z0 pf0) {pf1:Value} (qf1:PT gI.m wI z1 pf1) {r:Bool} (h:f73 x0 z0 z1=some r):Fn Tryz.prog 73 #[.int .i64 (x0),pf0,pf1] gI wI (fun _ _ v=>v=.bool (r)):=by
 unfold f73 at h
 refine fn_of_E Tryz.func73 rfl (Nat.le_of_ble_eq_true rfl) fun g0 hm hfr=>?_
 have qf0:PT g0.m wI z0 pf0:=hm ▸ qf0
 have qf1:PT g0.m wI z1 pf1:=hm ▸ qf1
 show E _ 13 none _ _ _ _ _
 refine E_seq (E_region (EL_at (.bool false) rfl rfl ?_))
 refine EL_nil (thn_n ?_)
 obtain ⟨o0,hx,h⟩:=bsome h
 refine E_join (fun e w=>∃ (g:Gh) ,Fr gI wI g w∧e 4=.bool (o0)) (fun Q' hQ=>?_) (fun l5 w7 hR=>?_)
 ·replace h := hx
  clear hx
  refine E_region (EL_mw (.int .i64 (x0)) rfl rfl ?_)
  refine EL_do .plain rfl (D_load (g:=g0) Tryz.isAgg3 Tryz.sizeOf3 rfl qf0 fun v4 r4=>?_)
  obtain rfl:=RV_int.1 r4
  refine EL_in (.bool ((decide (x0 < z0)))) rfl rfl rfl rfl ?_
  refine EL_mw (.bool ((decide (x0 < z0)))) rfl rfl ?_
  rcases csome h with ⟨hc5,h⟩ | ⟨hc5,h⟩
  ·refine EL_s rfl rfl hc5 rfl rfl ?_
   refine EL_s rfl rfl hc5 rfl rfl ?_
   refine EL_s rfl rfl hc5 rfl rfl ?_
   refine EL_p (.bool true) (P_pick (b:=(decide (x0 < z0))) rfl (pick_t hc5 rfl)) rfl ?_
   refine EL_at (.bool true) rfl rfl ?_
   refine EL_nil ?_
   obtain rfl:=sinj h
   exact hQ _ _ ⟨g0,hfr,rfl⟩
  ·refine EL_y (.int .i64 (x0)) (P_move rfl) rfl rfl hc5 rfl ?_
   refine EL_do (.yes2 rfl rfl hc5) rfl (D_load (g:=g0) Tryz.isAgg3 Tryz.sizeOf3 rfl qf1 fun v6 r6=>?_)
   obtain rfl:=RV_int.1 r6
   refine EL_y (.bool ((decide (x0 > z1)))) (P_int rfl rfl rfl) rfl rfl hc5 rfl ?_
   refine EL_p (.bool ((decide (x0 > z1)))) (P_pick (b:=(decide (x0 < z0))) rfl (pick_f hc5 rfl)) rfl ?_
   refine EL_at (.bool ((decide (x0 > z1)))) rfl rfl ?_
   refine EL_nil ?_
   obtain rfl:=sinj h
   exact hQ _ _ ⟨g0,hfr,rfl⟩
 ·clear hx
  obtain ⟨g7,hfr,u3⟩:=hR
  refine E_ret ?_
  obtain rfl:=sinj h
  exact end1 rfl rfl (show _=.bool (o0) from u3) ⟨_,hfr,rfl⟩
def f76 (x0:BoxPoint) (x1:List (List Int)):Option (BoxPoint):=
 Option.bind (α:=BoxPoint) (
  lp (σ:=BoxPoint) (fun z9 o0=>
   jn (σ:=Unit) (fun _=>
    z9 ({ { o0 with group:=(w64 ((o0).group + (1:Int))) } with done:=(0:Int) })
    ) fun bA=>
   Option.bind (α:=Bool) (
    bif (decide ((o0).group < ((x1).length : Int))) then
     (idx x1 (o0).group).bind fun n9=>
     (shl64 (1:Int) ((n9).length:Int)).bind fun l8=>
     some (((o0).done == (w64 (l8 - (1:Int)))))
    else
     some (false)
    ) fun x5=>
   bif x5 then
    bA ()
   else
    some (o0)
   ) big (x0)
  ) fun m8=>
 some (m8)
theorem en76:Enters Tryz.prog 76:=enters_of Tryz.func76 (by kernel_rfl) rfl
theorem wk76 {gI:Gh} {wI:World} {x0:BoxPoint} {x1:List (List Int)} {up0:Value} (rp0:RV gI.m wI x0 up0) {up1:Value} (rp1:RV gI.m wI x1 up1) {r:BoxPoint} (h:f76 x0 x1=some r):Fn Tryz.prog 76 #[up0,up1] gI wI (fun m w v=>RV m w (r) v):=by
 unfold f76 at h
 refine fn_of_E Tryz.func76 rfl (Nat.le_of_ble_eq_true rfl) fun g0 hm hfr=>?_
 have rp0:RV g0.m wI x0 up0:=hm ▸ rp0
 have rp1:RV g0.m wI x1 up1:=hm ▸ rp1
 show E _ 29 none _ _ _ _ _
 refine E_seq (E_region (EL_do .plain rfl (D_boxO (g:=g0) 2002 rfl rp0 fun g1 w1 p1 hs b1=>?_)))
 have hfr:=hfr.stp hs
 have rp1:=rp1.stp hs
 refine EL_do .plain rfl (D_allocOc (g:=g1) 2004 (⟨0,0,⟨(⟨List.toArray [(⟨List.toArray [0,0,0,0],rfl⟩:Vector Int 4),(⟨List.toArray [0,0,0,0],rfl⟩:Vector Int 4)],rfl⟩:Vector (Vector Int 4) 2),⟨0,0⟩⟩⟩:BoxPoint) Tryz.zeroValue98 (fun m w=>⟨_,(rep_two rep_int (rep_two rep_int (rep_two (rep_vec (flat_chunk (rep_vec (flat_chunk rep_int (flat_chunk rep_int (flat_chunk rep_int (flat_chunk rep_int flat_nil)))) rfl) (flat_chunk (rep_vec (flat_chunk rep_int (flat_chunk rep_int (flat_chunk rep_int (flat_chunk rep_int flat_nil)))) rfl) flat_nil)) rfl) (rep_two rep_int rep_int)))),rfl⟩) fun g2 w2 p2 hs b2 cb=>?_)
 have hfr:=hfr.stp hs
 have rp1:=rp1.stp hs
 have b1:=b1.stp hs rfl
 clear cb
 refine EL_nil (thn_n ?_)
 obtain ⟨m8,hx,h⟩:=bsome h
 refine E_join (fun e w=>∃ (g:Gh) ,Fr gI wI g w∧e 2=p1∧OB 2002 g w 98 (m8:BoxPoint) p1∧e 4=p2∧OB 2004 g w 98 ((⟨0,0,⟨(⟨List.toArray [(⟨List.toArray [0,0,0,0],rfl⟩:Vector Int 4),(⟨List.toArray [0,0,0,0],rfl⟩:Vector Int 4)],rfl⟩:Vector (Vector Int 4) 2),⟨0,0⟩⟩⟩:BoxPoint):BoxPoint) p2) (fun Q' hQ=>?_) (fun tD yD hR=>?_)
 ·replace h := hx
  clear hx
  refine E_block ?_
  refine E_lp h (fun (s:BoxPoint) e w=>∃ (g:Gh) ,Fr gI wI g w∧e 1=up1∧RV g.m w (x1:List (List Int)) up1∧e 2=p1∧OB 2002 g w 98 (s:BoxPoint) p1∧e 4=p2∧OB 2004 g w 98 ((⟨0,0,⟨(⟨List.toArray [(⟨List.toArray [0,0,0,0],rfl⟩:Vector Int 4),(⟨List.toArray [0,0,0,0],rfl⟩:Vector Int 4)],rfl⟩:Vector (Vector Int 4) 2),⟨0,0⟩⟩⟩:BoxPoint):BoxPoint) p2) ⟨g2,hfr,rfl,rp1,rfl,b1,rfl,b2⟩ (fun X238 z9 vB=>?_)
  rintro o0 uD zD ⟨iA,hfr,y6,t5,i6,u3,v8,x6⟩ h
  refine E_joinC h (fun (s:Unit) e w=>∃ (g:Gh) ,Fr gI wI g w∧e 1=up1∧RV g.m w (x1:List (List Int)) up1∧e 2=p1∧OB 2002 g w 98 (o0:BoxPoint) p1∧e 4=p2∧OB 2004 g w 98 ((⟨0,0,⟨(⟨List.toArray [(⟨List.toArray [0,0,0,0],rfl⟩:Vector Int 4),(⟨List.toArray [0,0,0,0],rfl⟩:Vector Int 4)],rfl⟩:Vector (Vector Int 4) 2),⟨0,0⟩⟩⟩:BoxPoint):BoxPoint) p2) (fun X352 bA yB h=>?_) ?_
  ·obtain ⟨x5, hx, h⟩ := bsome h
   refine E_join (fun e w=>∃ (g:Gh) ,Fr gI wI g w∧e 1=up1∧RV g.m w (x1:List (List Int)) up1∧e 2=p1∧OB 2002 g w 98 (o0:BoxPoint) p1∧e 4=p2∧OB 2004 g w 98 ((⟨0,0,⟨(⟨List.toArray [(⟨List.toArray [0,0,0,0],rfl⟩:Vector Int 4),(⟨List.toArray [0,0,0,0],rfl⟩:Vector Int 4)],rfl⟩:Vector (Vector Int 4) 2),⟨0,0⟩⟩⟩:BoxPoint):BoxPoint) p2∧e 22=.bool (x5)) (fun Q' hQ=>?_) (fun vD aE hR=>?_)
   ·replace h := hx
    clear hx
    refine L_loadO (x:=.tmp 5) part_BoxPoint_0.1 Tryz.isAgg3 Tryz.sizeOf3 u3 fun bE uC u9=>?_
    obtain rfl:=RV_int.1 uC
    rcases csome h with ⟨l5,h⟩ | ⟨l5,h⟩
    ·refine L_loadO (x := .tmp 11) part_BoxPoint_1.1 Tryz.isAgg3 Tryz.sizeOf3 u3 fun iE vC zB => ?_
     obtain rfl:=RV_int.1 vC
     refine L_loadO (x:=.tmp 14) part_BoxPoint_0.1 Tryz.isAgg3 Tryz.sizeOf3 u3 fun lE aD cC=>?_
     obtain rfl:=RV_int.1 aD
     obtain ⟨n9,y9,h⟩:=bsome h
     have bD:=PT_idx t5 y9
     refine L_load (x:=.tmp 16) Tryz.isAgg27 Tryz.sizeOf27 bD fun cD eD mC=>?_
     obtain ⟨l8,qC,h⟩:=bsome h
     refine E_drawL (g:=iA) (n:=18) [] [0,1,2,3,4,5,6,7,8,9,10,11,12,13,14,15,16,17] rfl mixed (by kernel_rfl) trivial ?_
     refine L_p (fPtr p1 0) rfl rfl (P_fieldAddr at_98_0 i6 (OB.ptr u3)) ?_
     refine L_ld (c:=.int .i64 ((o0).group)) rfl rfl .plain (fun _ _ h=>⟨h.ch,fun b hb _=>h.below.block b hb⟩) u9 rfl ?_
     refine L_p up1 rfl rfl (P_move y6) ?_
     refine L_p (.int .i64 ((x1).length:Int)) rfl rfl (P_len Tryz.underlying87 rfl t5) ?_
     refine L_p (.bool ((decide ((o0).group < ((x1).length:Int))))) rfl rfl (P_int rfl rfl rfl) ?_
     refine L_p (.bool ((decide ((o0).group < ((x1).length:Int))))) rfl rfl (P_move rfl) ?_
     refine L_y (fPtr p1 1) rfl rfl rfl rfl l5 (P_fieldAddr at_98_1 i6 (OB.ptr u3)) ?_
     refine L_ld (c:=.int .i64 ((o0).done)) rfl rfl (.yes2 rfl rfl l5) (fun _ _ h=>⟨h.ch,fun b hb _=>h.below.block b hb⟩) zB rfl ?_
     refine L_y up1 rfl rfl rfl rfl l5 (P_move y6) ?_
     refine L_y (fPtr p1 0) rfl rfl rfl rfl l5 (P_fieldAddr at_98_0 i6 (OB.ptr u3)) ?_
     refine L_ld (c:=.int .i64 ((o0).group)) rfl rfl (.yes2 rfl rfl l5) (fun _ _ h=>⟨h.ch,fun b hb _=>h.below.block b hb⟩) cC rfl ?_
     refine L_y (ePtr up1 (o0).group 1) rfl rfl rfl rfl l5 (P_indexAddr (α:=List Int) Tryz.underlying87 Tryz.sizeOf27 rfl t5 rfl y9) ?_
     refine L_ld (c:=cD) rfl rfl (.yes2 rfl rfl l5) (fun _ _ h=>h.ch) mC rfl ?_
     refine L_y (.int .i64 ((n9).length:Int)) rfl rfl rfl rfl l5 (P_len Tryz.underlying27 rfl eD) ?_
     refine L_y (.int .i64 (l8)) rfl rfl rfl rfl l5 (P_int rfl rfl (congrArg (Option.map (Value.int .i64)) qC)) ?_
     refine L_y (.int .i64 ((w64 (l8 - (1:Int))))) rfl rfl rfl rfl l5 (P_int rfl rfl rfl) ?_
     refine L_y (.bool (((o0).done == (w64 (l8 - (1:Int)))))) rfl rfl rfl rfl l5 (P_int rfl rfl rfl) ?_
     refine L_p (.bool (((o0).done == (w64 (l8 - (1:Int)))))) rfl rfl (P_pick (b:=(decide ((o0).group < ((x1).length:Int)))) rfl (pick_t l5 rfl)) ?_
     refine L_nl fun gD mE hs=>?_
     have hfr:=hfr.ext hs
     have t5:=t5.ext hs
     have u3:=u3.ext hs
     have x6:=x6.ext hs
     clear hs
     refine EL_nil ?_
     obtain rfl:=sinj h
     exact hQ _ _ ⟨gD,hfr,y6,t5,i6,u3,v8,x6,rfl⟩
    ·refine E_drawL (g := iA) (n := 18) [] [0, 1, 2, 3, 4, 5, 6, 7, 8, 9, 10, 11, 12, 13, 14, 15, 16, 17] rfl mixed (by kernel_rfl) trivial ?_
     refine L_p (fPtr p1 0) rfl rfl (P_fieldAddr at_98_0 i6 (OB.ptr u3)) ?_
     refine L_ld (c:=.int .i64 ((o0).group)) rfl rfl .plain (fun _ _ h=>⟨h.ch,fun b hb _=>h.below.block b hb⟩) u9 rfl ?_
     refine L_p up1 rfl rfl (P_move y6) ?_
     refine L_p (.int .i64 ((x1).length:Int)) rfl rfl (P_len Tryz.underlying87 rfl t5) ?_
     refine L_p (.bool ((decide ((o0).group < ((x1).length:Int))))) rfl rfl (P_int rfl rfl rfl) ?_
     refine L_p (.bool ((decide ((o0).group < ((x1).length:Int))))) rfl rfl (P_move rfl) ?_
     iterate 11 refine L_s rfl rfl rfl l5 rfl ?_
     refine L_p (.bool false) rfl rfl (P_pick (b:=(decide ((o0).group < ((x1).length:Int)))) rfl (pick_f l5 rfl)) ?_
     refine L_nl fun iD oE hs=>?_
     have hfr:=hfr.ext hs
     have t5:=t5.ext hs
     have u3:=u3.ext hs
     have x6:=x6.ext hs
     clear hs
     refine EL_nil ?_
     obtain rfl:=sinj h
     exact hQ _ _ ⟨iD,hfr,y6,t5,i6,u3,v8,x6,rfl⟩
   ·clear hx
    obtain ⟨rA,hfr,yA,aB,x8,a9,d9,k9,n8⟩:=hR
    rcases csome h with ⟨r8,h⟩ | ⟨r8,h⟩
    ·refine E_cond_true (Eq.trans (show ev _ _ = .bool (x5) from n8) (congrArg Value.bool r8)) ?_
     exact E_skip (thn_n (yB () _ _ ⟨rA,hfr,yA,aB,x8,a9,d9,k9⟩ h))
    ·refine E_cond_false (Eq.trans (show ev _ _ = .bool (x5) from n8) (congrArg Value.bool r8)) ?_
     refine E_exit ?_
     refine thn_e ?_
     refine thn_e ?_
     refine blk_hit ?_
     obtain rfl:=sinj h
     exact hQ _ _ ⟨rA,hfr,x8,a9,d9,k9⟩
  ·rintro _ xD rE ⟨dB, hfr, iB, i7, g8, k8, lB, m7⟩ h
   refine E_block ?_
   refine E_region (EL_p (fPtr p1 0) (P_fieldAddr at_98_0 g8 (OB.ptr k8)) rfl ?_)
   refine EL_do .plain rfl (D_loadF (g:=dB) part_BoxPoint_0.1 Tryz.isAgg3 Tryz.sizeOf3 rfl k8 fun uE jD=>?_)
   obtain rfl:=RV_int.1 jD
   refine EL_in (.int .i64 ((w64 ((o0).group + (1:Int))))) rfl rfl rfl rfl ?_
   refine EL_p (fPtr p1 0) (P_fieldAddr at_98_0 g8 (OB.ptr k8)) rfl ?_
   refine EL_do .plain rfl (D_storeFc (g:=dB) part_BoxPoint_0 Tryz.sizeOf3 rfl k8 rfl (RV_int.2 rfl) fun lD vE hs b469 rst hos=>?_)
   clear rst hos
   have hfr:=hfr.stp hs
   have i7:=i7.stp hs
   have m7:=m7.stp hs rfl
   refine EL_p (fPtr p1 1) (P_fieldAddr at_98_1 g8 (OB.ptr b469)) rfl ?_
   refine EL_do .plain rfl (D_storeFc (g:=lD) part_BoxPoint_1 Tryz.sizeOf3 rfl b469 rfl (RV_int.2 rfl) fun nD xE hs b471 rst hos=>?_)
   clear rst hos
   have hfr:=hfr.stp hs
   have i7:=i7.stp hs
   have m7:=m7.stp hs rfl
   exact EL_nil (blk_n (thn_n (vB ({ { o0 with group:=(w64 ((o0).group + (1:Int))) } with done:=(0:Int) }) _ _ ⟨nD,hfr,iB,i7,g8,b471,lB,m7⟩ h)))
 ·clear hx
  obtain ⟨mB,hfr,nB,oB,l9,tB⟩:=hR
  refine E_seq (E_region (EL_do .plain rfl (D_loadO (g:=mB) Tryz.isAgg98 Tryz.sizeOf98 nB oB fun oD sD=>?_)))
  refine EL_do .plain rfl (D_storeOc (g:=mB) (v:=oD) Tryz.sizeOf98 l9 tB rfl sD fun yE zE hs b474 cb=>?_)
  clear cb
  have hfr:=hfr.stp hs
  refine EL_nil (thn_n (E_ret ?_))
  obtain rfl:=sinj h
  obtain ⟨ad475,cv475,hp475,rC,cr475⟩:=ob_read Tryz.isAgg98 Tryz.sizeOf98 b474
  exact endm_c rfl rfl ((show _=p2 from l9).trans hp475) rC ⟨_,hfr,cr475⟩
def f82 (x0:Int) (x1:Int):Option (Int):=
 some ((w64 ((max64 x0 x1) - (min64 x0 x1))))
theorem en82:Enters Tryz.prog 82:=enters_of Tryz.func82 (by kernel_rfl) rfl
theorem wk82 {gI:Gh} {wI:World} {x0:Int} {x1:Int}  {r:Int} (h:f82 x0 x1=some r):Fn Tryz.prog 82 #[.int .i64 (x0),.int .i64 (x1)] gI wI (fun _ _ v=>v=.int .i64 (r)):=by
 unfold f82 at h
 refine fn_of_E Tryz.func82 rfl (Nat.le_of_ble_eq_true rfl) fun g0 hm hfr=>?_
 show E _ 12 none _ _ _ _ _
 refine E_seq (E_region (EL_at (.int .i64 (0)) rfl rfl ?_))
 refine EL_nil (thn_n (E_seq (E_region (EL_mw (.int .i64 (x0)) rfl rfl ?_))))
 refine EL_mw (.int .i64 (x1)) rfl rfl ?_
 refine EL_p (.int .i64 (max64 x0 x1)) (P_max rfl rfl) rfl ?_
 refine EL_mw (.int .i64 (x0)) rfl rfl ?_
 refine EL_mw (.int .i64 (x1)) rfl rfl ?_
 refine EL_p (.int .i64 (min64 x0 x1)) (P_min rfl rfl) rfl ?_
 refine EL_in (.int .i64 ((w64 ((max64 x0 x1) - (min64 x0 x1))))) rfl rfl rfl rfl ?_
 refine EL_at (.int .i64 ((w64 ((max64 x0 x1) - (min64 x0 x1))))) rfl rfl ?_
 refine EL_nil (thn_n (E_ret ?_))
 obtain rfl:=sinj h
 exact end1 rfl rfl (show _=.int .i64 ((w64 ((max64 x0 x1) - (min64 x0 x1)))) from rfl) ⟨_,hfr,rfl⟩
def f83 (x0:List BoxPick) (x1:BoxPick→Option Bool):Option (Int):=
 jn (σ:=Unit) (fun _=>
  some ((-1:Int))
  ) fun k18=>
 lp (σ:=Int) (fun k19 o0=>
  bif (decide (o0 < ((x0).length : Int))) then
   jn (σ:=Unit) (fun _=>
    k19 ((w64 (o0 + (1:Int))))
    ) fun k28=>
   (idx x0 o0).bind fun r8=>
   (x1 r8).bind fun v8=>
   bif v8 then
    some (o0)
   else
    k28 ()
  else
   k18 ()
  ) big ((0:Int))
theorem en83:Enters Tryz.prog 83:=enters_of Tryz.func83 (by kernel_rfl) rfl
theorem wk83 {gI:Gh} {wI:World} {x0:List BoxPick} {x1:BoxPick→Option Bool} {up0:Value} (rp0:RV gI.m wI x0 up0) {up1:Value} (rp1:FnV1 Tryz.prog x1 up1 gI wI) {r:Int} (h:f83 x0 x1=some r):Fn Tryz.prog 83 #[up0,up1] gI wI (fun _ _ v=>v=.int .i64 (r)):=by
 unfold f83 at h
 refine fn_of_E Tryz.func83 rfl (Nat.le_of_ble_eq_true rfl) fun g0 hm hfr=>?_
 have rp0:RV g0.m wI x0 up0:=hm ▸ rp0
 obtain ⟨ff1,fa1,fc1,rfl,fen1,fcl1⟩:=rp1
 show E _ 19 none _ _ _ _ _
 refine E_seq (E_region (EL_at (.int .i64 (0)) rfl rfl ?_))
 refine EL_nil (thn_n (E_joinC h (fun (s:Unit) e w=>∃ (g:Gh) ,Fr gI wI g w) (fun X18 k18 x8 h=>?_) ?_))
 ·refine E_seq (E_region (EL_mw up0 rfl rfl ?_))
  refine EL_p (.int .i64 ((x0).length:Int)) (P_len Tryz.underlying49 rfl rp0) rfl ?_
  refine EL_mw (.int .i64 (0)) rfl rfl ?_
  refine EL_nil (thn_n (E_block ?_))
  refine E_lp h (fun (s:Int) e w=>∃ (g:Gh) ,Fr gI wI g w∧e 0=up0∧RV g.m w (x0:List BoxPick) up0∧e 1=(.func (.func ff1) fa1 fc1)∧e 7=.int .i64 (((x0).length:Int))∧e 8=.int .i64 (s)) ⟨g0,hfr,rfl,rp0,rfl,rfl,rfl⟩ (fun X19 k19 a9=>?_)
  rintro o0 bA yA ⟨i7,hfr,i6,u3,x6,y6,l5⟩ h
  refine E_seq (E_region (EL_in (.bool ((decide (o0 < ((x0).length:Int))))) l5 y6 rfl rfl ?_))
  refine EL_nil (thn_n (E_seq ?_))
  rcases csome h with ⟨t5,h⟩ | ⟨t5,h⟩
  ·refine E_ct t5 rfl ?_
   refine E_skip (thn_n (E_joinC h (fun (s:Unit) e w=>∃ (g:Gh) ,Fr gI wI g w∧e 0=up0∧RV g.m w (x0:List BoxPick) up0∧e 1=(.func (.func ff1) fa1 fc1)∧e 7=.int .i64 (((x0).length:Int))∧e 8=.int .i64 (o0)) (fun X28 k28 d9 h=>?_) ?_))
   ·refine E_block ?_
    refine E_seq (E_region (EL_mv l5 rfl ?_))
    refine EL_at (.int .i64 (o0)) rfl rfl ?_
    refine EL_nil (thn_n (E_seq (E_region (EL_mv x6 rfl ?_))))
    refine EL_mv i6 rfl ?_
    refine EL_mw (.int .i64 (o0)) rfl rfl ?_
    obtain ⟨r8,m7,h⟩:=bsome h
    refine EL_p (ePtr up0 o0 2) (P_indexAddr (α:=BoxPick) Tryz.underlying49 Tryz.sizeOf92 rfl u3 rfl m7) rfl ?_
    have l9:=PT_idx u3 m7
    refine EL_do .plain rfl (D_load (g:=i7) Tryz.isAgg92 Tryz.sizeOf92 rfl l9 fun n9 u9=>?_)
    obtain ⟨v8,k9,h⟩:=bsome h
    refine EL_do .plain rfl (D_callv (g:=i7) (vs:=[n9]) rfl fen1 (.cons rfl .nil) (fcl1 _ _ hfr.ch _ _ _  u9 k9) fun y9 aB dB hs hr=>?_)
    have hfr:=hfr.ext hs
    have u3:=u3.ext hs
    obtain rfl:=RV_bool.1 hr
    refine EL_nil (thn_n ?_)
    rcases csome h with ⟨x5,h⟩ | ⟨x5,h⟩
    ·refine E_ct x5 rfl ?_
     refine E_seq (E_region (EL_mw (.int .i64 (o0)) rfl rfl ?_))
     refine EL_at (.int .i64 (o0)) rfl rfl ?_
     refine EL_nil (thn_n (E_ret (blk_r ?_)))
     refine thn_r ?_
     refine thn_r ?_
     refine blk_r ?_
     refine thn_r ?_
     obtain rfl:=sinj h
     exact end1 rfl rfl (show _=.int .i64 (o0) from rfl) ⟨_,hfr,rfl⟩
    ·refine E_cf x5 rfl ?_
     exact E_skip (blk_n (thn_n (d9 () _ _ ⟨y9,hfr,i6,u3,x6,y6,l5⟩ h)))
   ·rintro _ iA iB ⟨z9, hfr, g8, k8, l8, m8, n8⟩ h
    refine E_region (EL_in (.int .i64 ((w64 (o0 + (1:Int))))) n8 rfl rfl rfl ?_)
    refine EL_mw (.int .i64 ((w64 (o0 + (1:Int))))) rfl rfl ?_
    exact EL_nil (thn_n (a9 ((w64 (o0 + (1:Int)))) _ _ ⟨z9,hfr,g8,k8,l8,m8,rfl⟩ h))
  ·refine E_cf t5 rfl ?_
   refine E_exit ?_
   refine thn_e ?_
   refine thn_e ?_
   refine blk_hit ?_
   exact thn_n (x8 () _ _ ⟨i7,hfr⟩ h)
 ·rintro _ rA lB ⟨mB, hfr⟩ h
  refine E_seq (E_region (EL_at (.int .i64 (-1)) rfl rfl ?_))
  refine EL_nil (thn_n (E_ret ?_))
  obtain rfl:=sinj h
  exact end1 rfl rfl (show _=.int .i64 (-1) from rfl) ⟨_,hfr,rfl⟩
def f5 (x0:Race):Option (BoxLoom):=
 (idx ((x0).Boxes).toList (0:Int)).bind fun y4=>
 (rem64 ((y4).toNat:Int) (2:Int)).bind fun y7=>
 (idx ((x0).Boxes).toList (1:Int)).bind fun y9=>
 (rem64 ((y9).toNat:Int) (2:Int)).bind fun uC=>
 (idx ((x0).Boxes).toList (0:Int)).bind fun aK=>
 (quo64 ((aK).toNat:Int) (2:Int)).bind fun bK=>
 (rem64 bK (2:Int)).bind fun tD=>
 (idx ((x0).Boxes).toList (1:Int)).bind fun cK=>
 (quo64 ((cK).toNat:Int) (2:Int)).bind fun dK=>
 (rem64 dK (2:Int)).bind fun uD=>
 Option.bind (α:=BoxLoom) (
  lp (σ:=BoxLoom × (Vector Bool 6) × Int) (fun lK (u3,i7,o0)=>
   jn (σ:=Unit) (fun _=>
    Option.bind (α:=BoxLoom × (Vector Bool 6)) (
     (idx ((x0).Shuttles).toList o0).bind fun mK=>
     (idx (mK).toList (0:Int)).bind fun zD=>
     (idx ((u3).Boxes) (0:Int)).bind fun aE=>
     (idx ((u3).Boxes) (1:Int)).bind fun bE=>
     (rem64 ((zD).toNat:Int) (w64 (aE + bE))).bind fun iE=>
     Option.bind (α:=Int) (
      lp (σ:=Int) (fun nK x8=>
       jn (σ:=Unit) (fun _=>
        (idx ((u3).Boxes) (0:Int)).bind fun aD=>
        (idx ((u3).Boxes) (1:Int)).bind fun bD=>
        (rem64 (w64 (x8 + (1:Int))) (w64 (aD + bD))).bind fun iB=>
        nK (iB)
        ) fun oK=>
       (idx (i7).toList x8).bind fun pK=>
       bif pK then
        oK ()
       else
        some (x8)
       ) big (iE)
      ) fun l5=>
     (idx (i7).toList l5).bind fun kM=>
     (idx ((x0).Shuttles).toList o0).bind fun cH=>
     (idx (cH).toList (1:Int)).bind fun lE=>
     (rem64 ((lE).toNat:Int) (9:Int)).bind fun v8=>
     (idx ((x0).Shuttles).toList o0).bind fun dH=>
     (idx (dH).toList (1:Int)).bind fun mE=>
     (quo64 ((mE).toNat:Int) (9:Int)).bind fun oE=>
     (rem64 oE (3:Int)).bind fun lB=>
     (f19 v8 ((w64 (v8 + lB)))).bind fun d9=>
     Option.bind (α:=BoxShuttle) (
      (idx ((u3).Boxes) (0:Int)).bind fun rE=>
      bif (decide (l5 ≥ rE)) then
       (idx ((u3).Boxes) (0:Int)).bind fun cD=>
       some ((⟨o0,(1:Int),(w64 (l5 - cD)),d9⟩:BoxShuttle))
      else
       some ((⟨o0,0,l5,d9⟩:BoxShuttle))
      ) fun iA=>
     (apnd 40 ((u3).Shuttles) (([iA]:List BoxShuttle))).bind fun uE=>
     some ({ u3 with Shuttles:=uE },(vset i7 l5 true))
     ) fun (k9,rA)=>
    lK (k9,rA,(w64 (o0 + (1:Int))))
    ) fun qK=>
   bif (decide (o0 < (3 : Int))) then
    qK ()
   else
    some (u3)
   ) big ((⟨([(w64 ((2:Int) + y7)),(w64 ((2:Int) + uC))]:List Int),([tD,uD]:List Int),[]⟩:BoxLoom),(⟨List.toArray [false,false,false,false,false,false],rfl⟩:Vector Bool 6),(0:Int))
  ) fun n9=>
 some (n9)
theorem en5:Enters Tryz.prog 5:=enters_of Tryz.func5 (by kernel_rfl) rfl
theorem wk5 {gI:Gh} {wI:World} {x0:Race} {up0:Value} (rp0:RV gI.m wI x0 up0) {r:BoxLoom} (h:f5 x0=some r):Fn Tryz.prog 5 #[up0] gI wI (fun m w v=>RV m w (r) v):=by
 unfold f5 at h
 refine fn_of_E Tryz.func5 rfl (Nat.le_of_ble_eq_true rfl) fun g0 hm hfr=>?_
 have rp0:RV g0.m wI x0 up0:=hm ▸ rp0
 show E _ 117 none _ _ _ _ _
 refine E_seq (E_region (EL_do .plain rfl (D_box (g:=g0) rfl rp0 fun g1 w1 p1 hs q1=>?_)))
 have hfr:=hfr.ext hs
 refine EL_do .plain rfl (D_allocOc (g:=g1) 2002 (⟨[],[],[]⟩:BoxLoom) Tryz.zeroValue33 (fun m w=>⟨_,(rep_two rep_nil (rep_two rep_nil rep_nil)),rfl⟩) fun g2 w2 p2 hs b2 cb=>?_)
 have hfr:=hfr.stp hs
 have q1:=q1.stp hs
 have m7:OSF 2002 60200 0 g2 w2 3 33 ([]:List Int) p2:=cb.osf (by rfl)
 have g8:OSF 2002 60201 1 g2 w2 3 33 ([]:List Int) p2:=cb.osf (by rfl)
 have k8:OSF 2002 60202 2 g2 w2 65 33 ([]:List BoxShuttle) p2:=cb.osf (by rfl)
 clear cb
 refine EL_nil (thn_n (E_seq (E_region (EL_p (fPtr p1 0) (P_fieldAddr at_26_0 rfl (PT.ptr q1)) rfl ?_))))
 have q3:=PT_field (part_Race_0).1 q1
 obtain ⟨y4,gO,h⟩:=bsome h
 refine EL_p (fPtr (fPtr p1 0) (((0:Int):Int).toNat * 1)) (P_indexAddrA (α:=UInt8) Tryz.underlying23 Tryz.sizeOf5 rfl (PT.ptr q3) rfl gO) rfl ?_
 have q5:=PT_idxA q3 gO
 refine EL_do .plain rfl (D_load (g:=g2) Tryz.isAgg5 Tryz.sizeOf5 rfl q5 fun v6 r6=>?_)
 obtain rfl:=RV_u8.1 r6
 refine EL_p (.int .i64 (((y4).toNat:Int))) (P_u8int Tryz.underlying5 Tryz.underlying3 rfl) rfl ?_
 obtain ⟨y7,eP,h⟩:=bsome h
 refine EL_p (.int .i64 (y7)) (P_int rfl rfl (congrArg (Option.map (Value.int .i64)) eP)) rfl ?_
 refine EL_in (.int .i64 ((w64 ((2:Int) + y7)))) rfl rfl rfl rfl ?_
 refine EL_p (fPtr p1 0) (P_fieldAddr at_26_0 rfl (PT.ptr q1)) rfl ?_
 have q8:=PT_field (part_Race_0).1 q1
 obtain ⟨y9,iO,h⟩:=bsome h
 refine EL_p (fPtr (fPtr p1 0) (((1:Int):Int).toNat * 1)) (P_indexAddrA (α:=UInt8) Tryz.underlying23 Tryz.sizeOf5 rfl (PT.ptr q8) rfl iO) rfl ?_
 have gP:=PT_idxA q8 iO
 refine EL_do .plain rfl (D_load (g:=g2) Tryz.isAgg5 Tryz.sizeOf5 rfl gP fun bS iP=>?_)
 obtain rfl:=RV_u8.1 iP
 refine EL_p (.int .i64 (((y9).toNat:Int))) (P_u8int Tryz.underlying5 Tryz.underlying3 rfl) rfl ?_
 obtain ⟨uC,oO,h⟩:=bsome h
 refine EL_p (.int .i64 (uC)) (P_int rfl rfl (congrArg (Option.map (Value.int .i64)) oO)) rfl ?_
 refine EL_in (.int .i64 ((w64 ((2:Int) + uC)))) rfl rfl rfl rfl ?_
 refine EL_do .plain rfl (D_buildSlice (g:=g2) 3021 (xs:=([(w64 ((2:Int) + y7)),(w64 ((2:Int) + uC))]:List Int)) (vs:=[.int .i64 ((w64 ((2:Int) + y7))),.int .i64 ((w64 ((2:Int) + uC)))]) Tryz.underlying27 Tryz.sizeOf3 Tryz.zeroValue3 rfl rfl (.cons rfl (.cons rfl .nil)) (RVs.cons (RV_int.2 rfl) (RVs.cons (RV_int.2 rfl) RVs.nil)) rfl rfl fun sK cS tK hs o13 vC hxt hfl=>?_)
 have hfr:=hfr.stp hs
 have q1:=q1.stp hs
 have m7:=m7.stp hs rfl
 have g8:=g8.stp hs rfl
 have k8:=k8.stp hs rfl
 have b2:=b2.stp hs rfl
 refine EL_p (fPtr p1 0) (P_fieldAddr at_26_0 rfl (PT.ptr q1)) rfl ?_
 have jO:=PT_field (part_Race_0).1 q1
 obtain ⟨aK,uK,h⟩:=bsome h
 refine EL_p (fPtr (fPtr p1 0) (((0:Int):Int).toNat * 1)) (P_indexAddrA (α:=UInt8) Tryz.underlying23 Tryz.sizeOf5 rfl (PT.ptr jO) rfl uK) rfl ?_
 have jP:=PT_idxA jO uK
 refine EL_do .plain rfl (D_load (g:=sK) Tryz.isAgg5 Tryz.sizeOf5 rfl jP fun dS kP=>?_)
 obtain rfl:=RV_u8.1 kP
 refine EL_p (.int .i64 (((aK).toNat:Int))) (P_u8int Tryz.underlying5 Tryz.underlying3 rfl) rfl ?_
 obtain ⟨bK,pO,h⟩:=bsome h
 refine EL_p (.int .i64 (bK)) (P_int rfl rfl (congrArg (Option.map (Value.int .i64)) pO)) rfl ?_
 obtain ⟨tD,qO,h⟩:=bsome h
 refine EL_p (.int .i64 (tD)) (P_int rfl rfl (congrArg (Option.map (Value.int .i64)) qO)) rfl ?_
 refine EL_p (fPtr p1 0) (P_fieldAddr at_26_0 rfl (PT.ptr q1)) rfl ?_
 have kO:=PT_field (part_Race_0).1 q1
 obtain ⟨cK,vK,h⟩:=bsome h
 refine EL_p (fPtr (fPtr p1 0) (((1:Int):Int).toNat * 1)) (P_indexAddrA (α:=UInt8) Tryz.underlying23 Tryz.sizeOf5 rfl (PT.ptr kO) rfl vK) rfl ?_
 have lP:=PT_idxA kO vK
 refine EL_do .plain rfl (D_load (g:=sK) Tryz.isAgg5 Tryz.sizeOf5 rfl lP fun eS mP=>?_)
 obtain rfl:=RV_u8.1 mP
 refine EL_p (.int .i64 (((cK).toNat:Int))) (P_u8int Tryz.underlying5 Tryz.underlying3 rfl) rfl ?_
 obtain ⟨dK,rO,h⟩:=bsome h
 refine EL_p (.int .i64 (dK)) (P_int rfl rfl (congrArg (Option.map (Value.int .i64)) rO)) rfl ?_
 obtain ⟨uD,sO,h⟩:=bsome h
 refine EL_p (.int .i64 (uD)) (P_int rfl rfl (congrArg (Option.map (Value.int .i64)) sO)) rfl ?_
 refine EL_do .plain rfl (D_buildSlice (g:=sK) 3034 (xs:=([tD,uD]:List Int)) (vs:=[.int .i64 (tD),.int .i64 (uD)]) Tryz.underlying27 Tryz.sizeOf3 Tryz.zeroValue3 rfl rfl (.cons rfl (.cons rfl .nil)) (RVs.cons (RV_int.2 rfl) (RVs.cons (RV_int.2 rfl) RVs.nil)) rfl rfl fun lO gS xK hs o26 yK hxt hfl=>?_)
 have hfr:=hfr.stp hs
 have q1:=q1.stp hs
 have m7:=m7.stp hs rfl
 have g8:=g8.stp hs rfl
 have k8:=k8.stp hs rfl
 have b2:=b2.stp hs rfl
 have vC:=vC.stp hs
 have o13:=o13.stp hs rfl
 have gH:RV lO.m _ (⟨([(w64 ((2:Int) + y7)),(w64 ((2:Int) + uC))]:List Int),([tD,uD]:List Int),[]⟩:BoxLoom) (.agg (setCh [[.slice none 0 0],[.slice none 0 0],[.slice none 0 0]] [(0,tK),(1,xK)]).flatten.toArray):=RV_build rfl (rep_pair (RV.cells vC) (rep_pair (RV.cells yK) (rep_last (rep_nil))))
 generalize zG:(Value.agg (setCh [[.slice none 0 0],[.slice none 0 0],[.slice none 0 0]] [(0,tK),(1,xK)]).flatten.toArray)=mO at gH
 obtain ⟨nP,oP,tB,_,_⟩:=RV_list vC
 replace tB:=tB.symm
 obtain ⟨pP,sP,vB,_,_⟩:=RV_list yK
 replace vB:=vB.symm
 refine EL_p mO (zG ▸ P_build (vs:=[(0,tK),(1,xK)]) [[.slice none 0 0],[.slice none 0 0],[.slice none 0 0]] lay_33 rfl rfl (.cons rfl (.cons rfl .nil)) ⟨⟨_,rfl,cells_size vC⟩,⟨⟨_,rfl,cells_size yK⟩,trivial⟩⟩) rfl ?_
 refine EL_do .plain rfl (D_allocOc (g:=lO) 2003 (⟨[],[],[]⟩:BoxLoom) Tryz.zeroValue33 (fun m w=>⟨_,(rep_two rep_nil (rep_two rep_nil rep_nil)),rfl⟩) fun iH zK t5 hs b28 cb=>?_)
 have hfr:=hfr.stp hs
 have q1:=q1.stp hs
 have m7:=m7.stp hs rfl
 have g8:=g8.stp hs rfl
 have k8:=k8.stp hs rfl
 have b2:=b2.stp hs rfl
 have vC:=vC.stp hs
 have o13:=o13.stp hs rfl
 have gH:=gH.stp hs
 have gQ:OSF 2003 60300 0 iH zK 3 33 ([]:List Int) t5:=cb.osf (by rfl)
 have iQ:OSF 2003 60301 1 iH zK 3 33 ([]:List Int) t5:=cb.osf (by rfl)
 have jQ:OSF 2003 60302 2 iH zK 65 33 ([]:List BoxShuttle) t5:=cb.osf (by rfl)
 clear cb
 refine EL_do .plain rfl (D_storeOc (g:=iH) (v:=mO) Tryz.sizeOf33 rfl b28 rfl gH fun jH w29 hs b29 cb=>?_)
 have mB:OSF 2003 60302 2 jH w29 65 33 ([]:List BoxShuttle) t5:=cb.osf (by rw [← zG,← tB,← vB]; rfl)
 obtain ⟨tP,uP,pI,_,_⟩:=RV_list vC
 have nB:OSF 2003 3021 0 jH w29 3 33 (([(w64 ((2:Int) + y7)),(w64 ((2:Int) + uC))]:List Int):List Int) t5:=cb.osfv (by rw [← zG,pI]; rfl) (o13.stp hs rfl)
 clear cb
 have hfr:=hfr.stp hs
 have q1:=q1.stp hs
 have m7:=m7.stp hs rfl
 have g8:=g8.stp hs rfl
 have k8:=k8.stp hs rfl
 have b2:=b2.stp hs rfl
 refine EL_nil (thn_n (E_seq (E_region ?_)))
 have kH:RV jH.m w29 (⟨List.toArray [false,false,false,false,false,false],rfl⟩:Vector Bool 6) (.agg (setCh [[.bool false],[.bool false],[.bool false],[.bool false],[.bool false],[.bool false]] []).flatten.toArray):=RV_build rfl (rep_vec (flat_chunk rep_bool (flat_chunk rep_bool (flat_chunk rep_bool (flat_chunk rep_bool (flat_chunk rep_bool (flat_chunk rep_bool flat_nil)))))) rfl)
 generalize tO:(Value.agg (setCh [[.bool false],[.bool false],[.bool false],[.bool false],[.bool false],[.bool false]] []).flatten.toArray)=nO at kH
 refine EL_p nO (tO ▸ P_buildA (vs:=[]) [[.bool false],[.bool false],[.bool false],[.bool false],[.bool false],[.bool false]] Tryz.underlying70 layA_70 szA_4 rfl (by simp) .nil trivial) rfl ?_
 refine EL_do .plain rfl (D_allocOc (g:=jH) 2004 ((⟨List.toArray [false,false,false,false,false,false],rfl⟩:Vector Bool 6):Vector Bool 6) Tryz.zeroValue70 (fun m w=>⟨_,(rep_vec (flat_chunk rep_bool (flat_chunk rep_bool (flat_chunk rep_bool (flat_chunk rep_bool (flat_chunk rep_bool (flat_chunk rep_bool flat_nil)))))) rfl),rfl⟩) fun vP iS a9 hs b31 cb=>?_)
 have hfr:=hfr.stp hs
 have q1:=q1.stp hs
 have m7:=m7.stp hs rfl
 have g8:=g8.stp hs rfl
 have k8:=k8.stp hs rfl
 have b2:=b2.stp hs rfl
 have mB:=mB.stp hs rfl
 have nB:=nB.stp hs rfl
 have b29:=b29.stp hs rfl
 have kH:=kH.stp hs
 clear cb
 refine EL_do .plain rfl (D_storeOc (g:=vP) (v:=nO) Tryz.sizeOf70 rfl b31 rfl kH fun xP jS hs b32 cb=>?_)
 clear cb
 have hfr:=hfr.stp hs
 have q1:=q1.stp hs
 have m7:=m7.stp hs rfl
 have g8:=g8.stp hs rfl
 have k8:=k8.stp hs rfl
 have b2:=b2.stp hs rfl
 have mB:=mB.stp hs rfl
 have nB:=nB.stp hs rfl
 have b29:=b29.stp hs rfl
 refine EL_nil (thn_n ?_)
 obtain ⟨n9,hx,h⟩:=bsome h
 refine E_join (fun e w=>∃ (g:Gh) ,Fr gI wI g w∧e 2=p2∧OB 2002 g w 33 ((⟨[],[],[]⟩:BoxLoom):BoxLoom) p2∧OSF 2002 60200 0 g w 3 33 (((⟨[],[],[]⟩:BoxLoom)).Boxes) p2∧OSF 2002 60201 1 g w 3 33 (((⟨[],[],[]⟩:BoxLoom)).At) p2∧OSF 2002 60202 2 g w 65 33 (((⟨[],[],[]⟩:BoxLoom)).Shuttles) p2∧e 3=t5∧OB 2003 g w 33 (n9:BoxLoom) t5∧OSF 2003 3021 0 g w 3 33 ((n9).Boxes) t5∧OSF 2003 60302 2 g w 65 33 ((n9).Shuttles) t5) (fun Q' hQ=>?_) (fun yP kQ hR=>?_)
 ·replace h := hx
  clear hx
  refine E_seq (E_region (EL_at (.int .i64 (0)) rfl rfl ?_))
  refine EL_nil (thn_n (E_block ?_))
  refine E_lp h (fun (s:BoxLoom × (Vector Bool 6) × Int) e w=>∃ (g:Gh) ,Fr gI wI g w∧e 1=p1∧PT g.m w (x0:Race) p1∧e 2=p2∧OB 2002 g w 33 ((⟨[],[],[]⟩:BoxLoom):BoxLoom) p2∧OSF 2002 60200 0 g w 3 33 (((⟨[],[],[]⟩:BoxLoom)).Boxes) p2∧OSF 2002 60201 1 g w 3 33 (((⟨[],[],[]⟩:BoxLoom)).At) p2∧OSF 2002 60202 2 g w 65 33 (((⟨[],[],[]⟩:BoxLoom)).Shuttles) p2∧e 3=t5∧OB 2003 g w 33 (s.1:BoxLoom) t5∧OSF 2003 3021 0 g w 3 33 ((s.1).Boxes) t5∧OSF 2003 60302 2 g w 65 33 ((s.1).Shuttles) t5∧e 4=a9∧OB 2004 g w 70 (s.2.1:Vector Bool 6) a9∧e 5=.int .i64 (s.2.2)) ⟨xP,hfr,rfl,q1,rfl,b2,m7,g8,k8,rfl,b29,nB,mB,rfl,b32,rfl⟩ (fun X615 lK mM=>?_)
  rintro ⟨u3,i7,o0⟩ lQ rR ⟨aL,hfr,bL,dL,eF,rF,u2_0_616,u2_1_616,u2_2_616,sF,tF,u3_0_616,u3_2_616,eL,gL,uF⟩ h
  refine E_joinC h (fun (s:Unit) e w=>∃ (g:Gh) ,Fr gI wI g w∧e 1=p1∧PT g.m w (x0:Race) p1∧e 2=p2∧OB 2002 g w 33 ((⟨[],[],[]⟩:BoxLoom):BoxLoom) p2∧OSF 2002 60200 0 g w 3 33 (((⟨[],[],[]⟩:BoxLoom)).Boxes) p2∧OSF 2002 60201 1 g w 3 33 (((⟨[],[],[]⟩:BoxLoom)).At) p2∧OSF 2002 60202 2 g w 65 33 (((⟨[],[],[]⟩:BoxLoom)).Shuttles) p2∧e 3=t5∧OB 2003 g w 33 (u3:BoxLoom) t5∧OSF 2003 3021 0 g w 3 33 ((u3).Boxes) t5∧OSF 2003 60302 2 g w 65 33 ((u3).Shuttles) t5∧e 4=a9∧OB 2004 g w 70 (i7:Vector Bool 6) a9∧e 5=.int .i64 (o0)) (fun X618 qK nM h=>?_) ?_
  ·refine E_seq (E_region (EL_mv uF rfl ?_))
   refine EL_in (.bool ((decide (o0 < (3:Int))))) rfl rfl rfl rfl ?_
   refine EL_nil (thn_n ?_)
   rcases csome h with ⟨vE,h⟩ | ⟨vE,h⟩
   ·refine E_ct vE rfl ?_
    exact E_skip (thn_n (nM () _ _ ⟨aL,hfr,bL,dL,eF,rF,u2_0_616,u2_1_616,u2_2_616,sF,tF,u3_0_616,u3_2_616,eL,gL,uF⟩ h))
   ·refine E_cf vE rfl ?_
    refine E_exit ?_
    refine thn_e ?_
    refine thn_e ?_
    refine blk_hit ?_
    obtain rfl:=sinj h
    exact hQ _ _ ⟨aL,hfr,eF,rF,u2_0_616,u2_1_616,u2_2_616,sF,tF,u3_0_616,u3_2_616⟩
  ·rintro _ mQ tR ⟨uO, hfr, vF, bA, iL, gD, u2_0_620, u2_1_620, u2_2_620, iD, l9, u3_0_620, u3_2_620, jL, jD, xF⟩ h
   obtain ⟨⟨k9,rA⟩,hx,h⟩:=bsome h
   refine E_join (fun e w=>∃ (g:Gh) ,Fr gI wI g w∧e 1=p1∧PT g.m w (x0:Race) p1∧e 2=p2∧OB 2002 g w 33 ((⟨[],[],[]⟩:BoxLoom):BoxLoom) p2∧OSF 2002 60200 0 g w 3 33 (((⟨[],[],[]⟩:BoxLoom)).Boxes) p2∧OSF 2002 60201 1 g w 3 33 (((⟨[],[],[]⟩:BoxLoom)).At) p2∧OSF 2002 60202 2 g w 65 33 (((⟨[],[],[]⟩:BoxLoom)).Shuttles) p2∧e 3=t5∧OB 2003 g w 33 (k9:BoxLoom) t5∧OSF 2003 3021 0 g w 3 33 ((k9).Boxes) t5∧OSF 2003 60302 2 g w 65 33 ((k9).Shuttles) t5∧e 4=a9∧OB 2004 g w 70 (rA:Vector Bool 6) a9∧e 5=.int .i64 (o0)) (fun Q' hQ=>?_) (fun zP nQ hR=>?_)
   ·replace h := hx
    clear hx
    refine E_block ?_
    refine E_seq ?_
    have lL:=PT_field (part_Race_1).1 bA
    obtain ⟨mK,lH,h⟩:=bsome h
    have mL:=PT_idxA lL lH
    obtain ⟨zD,mH,h⟩:=bsome h
    have vO:=PT_idxA mL mH
    refine L_load (x:=.tmp 44) Tryz.isAgg5 Tryz.sizeOf5 vO fun uR xO oM=>?_
    obtain rfl:=RV_u8.1 xO
    refine L_loadFS (x:=.tmp 47) part_BoxLoom_0.1 Tryz.isAgg27 Tryz.sizeOf27 l9 u3_0_620 fun nL oL o915 pM=>?_
    obtain ⟨aE,nH,h⟩:=bsome h
    have yO:=PT_idx oL nH
    refine L_load (x:=.tmp 49) Tryz.isAgg3 Tryz.sizeOf3 yO fun vR zO qM=>?_
    obtain rfl:=RV_int.1 zO
    refine L_loadFS (x:=.tmp 51) part_BoxLoom_0.1 Tryz.isAgg27 Tryz.sizeOf27 l9 u3_0_620 fun pL qL o920 rM=>?_
    obtain ⟨bE,oH,h⟩:=bsome h
    have aP:=PT_idx qL oH
    refine L_load (x:=.tmp 53) Tryz.isAgg3 Tryz.sizeOf3 aP fun xR bP sM=>?_
    obtain rfl:=RV_int.1 bP
    obtain ⟨iE,tM,h⟩:=bsome h
    refine E_drawL (g:=uO) (n:=17) [] [0,1,2,3,4,5,6,7,8,9,10,11,12,13,14,15,16] rfl mixed (by kernel_rfl) trivial ?_
    refine L_p (.int .i64 (o0)) rfl rfl (P_move xF) ?_
    refine L_p (fPtr p1 2) rfl rfl (P_fieldAddr at_26_1 vF (PT.ptr bA)) ?_
    refine L_p (fPtr (fPtr p1 2) ((o0:Int).toNat * 2)) rfl rfl (P_indexAddrA (α:=Vector UInt8 2) Tryz.underlying24 Tryz.sizeOf23 rfl (PT.ptr lL) rfl lH) ?_
    refine L_p (fPtr (fPtr (fPtr p1 2) ((o0:Int).toNat * 2)) (((0:Int):Int).toNat * 1)) rfl rfl (P_indexAddrA (α:=UInt8) Tryz.underlying23 Tryz.sizeOf5 rfl (PT.ptr mL) rfl mH) ?_
    refine L_ld (c:=.int .u8 (UInt8.toNat (zD))) rfl rfl .plain (fun _ _ h=>h.ch) oM rfl ?_
    refine L_p (.int .i64 (((zD).toNat:Int))) rfl rfl (P_u8int Tryz.underlying5 Tryz.underlying3 rfl) ?_
    refine L_p (fPtr t5 0) rfl rfl (P_fieldAddr at_33_0 iD (OB.ptr l9)) ?_
    refine L_ld (c:=nL) rfl rfl .plain (fun _ _ h=>⟨h.ch,fun b hb _=>h.below.block b hb⟩) pM rfl ?_
    refine L_p (ePtr nL (0:Int) 1) rfl rfl (P_indexAddr (α:=Int) Tryz.underlying27 Tryz.sizeOf3 rfl oL rfl nH) ?_
    refine L_ld (c:=.int .i64 (aE)) rfl rfl .plain (fun _ _ h=>h.ch) qM rfl ?_
    refine L_p (fPtr t5 0) rfl rfl (P_fieldAddr at_33_0 iD (OB.ptr l9)) ?_
    refine L_ld (c:=pL) rfl rfl .plain (fun _ _ h=>⟨h.ch,fun b hb _=>h.below.block b hb⟩) rM rfl ?_
    refine L_p (ePtr pL (1:Int) 1) rfl rfl (P_indexAddr (α:=Int) Tryz.underlying27 Tryz.sizeOf3 rfl qL rfl oH) ?_
    refine L_ld (c:=.int .i64 (bE)) rfl rfl .plain (fun _ _ h=>h.ch) sM rfl ?_
    refine L_p (.int .i64 ((w64 (aE + bE)))) rfl rfl (P_int rfl rfl rfl) ?_
    refine L_p (.int .i64 (iE)) rfl rfl (P_int rfl rfl (congrArg (Option.map (Value.int .i64)) tM)) ?_
    refine L_p (.int .i64 (iE)) rfl rfl (P_assign rfl) ?_
    refine L_nl fun cP yR hs=>?_
    have hfr:=hfr.ext hs
    have bA:=bA.ext hs
    have u2_0_620:=u2_0_620.ext hs
    have u2_1_620:=u2_1_620.ext hs
    have u2_2_620:=u2_2_620.ext hs
    have gD:=gD.ext hs
    have u3_0_620:=u3_0_620.ext hs
    have u3_2_620:=u3_2_620.ext hs
    have l9:=l9.ext hs
    have jD:=jD.ext hs
    clear hs
    refine EL_nil (thn_n ?_)
    obtain ⟨l5,hx,h⟩:=bsome h
    refine E_join (fun e w=>∃ (g:Gh) ,Fr gI wI g w∧e 1=p1∧PT g.m w (x0:Race) p1∧e 2=p2∧OB 2002 g w 33 ((⟨[],[],[]⟩:BoxLoom):BoxLoom) p2∧OSF 2002 60200 0 g w 3 33 (((⟨[],[],[]⟩:BoxLoom)).Boxes) p2∧OSF 2002 60201 1 g w 3 33 (((⟨[],[],[]⟩:BoxLoom)).At) p2∧OSF 2002 60202 2 g w 65 33 (((⟨[],[],[]⟩:BoxLoom)).Shuttles) p2∧e 3=t5∧OB 2003 g w 33 (u3:BoxLoom) t5∧OSF 2003 3021 0 g w 3 33 ((u3).Boxes) t5∧OSF 2003 60302 2 g w 65 33 ((u3).Shuttles) t5∧e 4=a9∧OB 2004 g w 70 (i7:Vector Bool 6) a9∧e 5=.int .i64 (o0)∧e 6=.int .i64 (l5)) (fun Q' hQ=>?_) (fun bQ oQ hR=>?_)
    ·replace h := hx
     clear hx
     refine E_block ?_
     refine E_lp h (fun (s:Int) e w=>∃ (g:Gh) ,Fr gI wI g w∧e 1=p1∧PT g.m w (x0:Race) p1∧e 2=p2∧OB 2002 g w 33 ((⟨[],[],[]⟩:BoxLoom):BoxLoom) p2∧OSF 2002 60200 0 g w 3 33 (((⟨[],[],[]⟩:BoxLoom)).Boxes) p2∧OSF 2002 60201 1 g w 3 33 (((⟨[],[],[]⟩:BoxLoom)).At) p2∧OSF 2002 60202 2 g w 65 33 (((⟨[],[],[]⟩:BoxLoom)).Shuttles) p2∧e 3=t5∧OB 2003 g w 33 (u3:BoxLoom) t5∧OSF 2003 3021 0 g w 3 33 ((u3).Boxes) t5∧OSF 2003 60302 2 g w 65 33 ((u3).Shuttles) t5∧e 4=a9∧OB 2004 g w 70 (i7:Vector Bool 6) a9∧e 5=.int .i64 (o0)∧e 6=.int .i64 (s)) ⟨cP,hfr,vF,bA,iL,gD,u2_0_620,u2_1_620,u2_2_620,iD,l9,u3_0_620,u3_2_620,jL,jD,xF,rfl⟩ (fun X990 nK uM=>?_)
     rintro x8 pQ zR ⟨aH,hfr,yF,zF,aG,bG,u2_0_991,u2_1_991,u2_2_991,cG,eG,u3_0_991,u3_2_991,lD,oB,gG,nD⟩ h
     refine E_joinC h (fun (s:Unit) e w=>∃ (g:Gh) ,Fr gI wI g w∧e 1=p1∧PT g.m w (x0:Race) p1∧e 2=p2∧OB 2002 g w 33 ((⟨[],[],[]⟩:BoxLoom):BoxLoom) p2∧OSF 2002 60200 0 g w 3 33 (((⟨[],[],[]⟩:BoxLoom)).Boxes) p2∧OSF 2002 60201 1 g w 3 33 (((⟨[],[],[]⟩:BoxLoom)).At) p2∧OSF 2002 60202 2 g w 65 33 (((⟨[],[],[]⟩:BoxLoom)).Shuttles) p2∧e 3=t5∧OB 2003 g w 33 (u3:BoxLoom) t5∧OSF 2003 3021 0 g w 3 33 ((u3).Boxes) t5∧OSF 2003 60302 2 g w 65 33 ((u3).Shuttles) t5∧e 4=a9∧OB 2004 g w 70 (i7:Vector Bool 6) a9∧e 5=.int .i64 (o0)∧e 6=.int .i64 (x8)) (fun X996 oK vM h=>?_) ?_
     ·refine E_seq (E_region (EL_mv nD rfl ?_))
      obtain ⟨pK,pH,h⟩:=bsome h
      obtain ⟨hi998,he998⟩:=vat_idx pH
      refine EL_p (fPtr a9 ((x8:Int).toNat * 1)) (P_indexAddrA (α:=Bool) Tryz.underlying70 Tryz.sizeOf4 lD (OB.ptr oB) rfl pH) rfl ?_
      refine EL_do .plain rfl (D_loadD (g:=aH) (SubS.dyn hi998).1 he998 Tryz.isAgg4 Tryz.sizeOf4 rfl oB fun aS dP=>?_)
      obtain rfl:=RV_bool.1 dP
      refine EL_nil (thn_n ?_)
      rcases csome h with ⟨oD,h⟩ | ⟨oD,h⟩
      ·refine E_ct oD rfl ?_
       exact E_skip (thn_n (vM () _ _ ⟨aH,hfr,yF,zF,aG,bG,u2_0_991,u2_1_991,u2_2_991,cG,eG,u3_0_991,u3_2_991,lD,oB,gG,nD⟩ h))
      ·refine E_cf oD rfl ?_
       refine E_exit ?_
       refine thn_e ?_
       refine thn_e ?_
       refine blk_hit ?_
       obtain rfl:=sinj h
       exact hQ _ _ ⟨aH,hfr,yF,zF,aG,bG,u2_0_991,u2_1_991,u2_2_991,cG,eG,u3_0_991,u3_2_991,lD,oB,gG,nD⟩
     ·rintro _ cQ qQ ⟨xM, hfr, qI, yB, sI, zB, u2_0_1001, u2_1_1001, u2_2_1001, cC, l8, u3_0_1001, u3_2_1001, tI, mC, uI, vI⟩ h
      refine E_block ?_
      refine L_loadFS (x:=.tmp 62) part_BoxLoom_0.1 Tryz.isAgg27 Tryz.sizeOf27 l8 u3_0_1001 fun qH sH o1003 rL=>?_
      obtain ⟨aD,hG,h⟩:=bsome h
      have bN:=PT_idx sH hG
      refine L_load (x:=.tmp 64) Tryz.isAgg3 Tryz.sizeOf3 bN fun rQ cN tL=>?_
      obtain rfl:=RV_int.1 cN
      refine L_loadFS (x:=.tmp 66) part_BoxLoom_0.1 Tryz.isAgg27 Tryz.sizeOf27 l8 u3_0_1001 fun tH uH o1008 uL=>?_
      obtain ⟨bD,iG,h⟩:=bsome h
      have dN:=PT_idx uH iG
      refine L_load (x:=.tmp 68) Tryz.isAgg3 Tryz.sizeOf3 dN fun sQ eN vL=>?_
      obtain rfl:=RV_int.1 eN
      obtain ⟨iB,xL,h⟩:=bsome h
      refine E_drawL (g:=xM) (n:=13) [] [0,1,2,3,4,5,6,7,8,9,10,11,12] rfl mixed (by kernel_rfl) trivial ?_
      refine L_p (.int .i64 (x8)) rfl rfl (P_move vI) ?_
      refine L_p (.int .i64 ((w64 (x8 + (1:Int))))) rfl rfl (P_int rfl rfl rfl) ?_
      refine L_p (fPtr t5 0) rfl rfl (P_fieldAddr at_33_0 cC (OB.ptr l8)) ?_
      refine L_ld (c:=qH) rfl rfl .plain (fun _ _ h=>⟨h.ch,fun b hb _=>h.below.block b hb⟩) rL rfl ?_
      refine L_p (ePtr qH (0:Int) 1) rfl rfl (P_indexAddr (α:=Int) Tryz.underlying27 Tryz.sizeOf3 rfl sH rfl hG) ?_
      refine L_ld (c:=.int .i64 (aD)) rfl rfl .plain (fun _ _ h=>h.ch) tL rfl ?_
      refine L_p (fPtr t5 0) rfl rfl (P_fieldAddr at_33_0 cC (OB.ptr l8)) ?_
      refine L_ld (c:=tH) rfl rfl .plain (fun _ _ h=>⟨h.ch,fun b hb _=>h.below.block b hb⟩) uL rfl ?_
      refine L_p (ePtr tH (1:Int) 1) rfl rfl (P_indexAddr (α:=Int) Tryz.underlying27 Tryz.sizeOf3 rfl uH rfl iG) ?_
      refine L_ld (c:=.int .i64 (bD)) rfl rfl .plain (fun _ _ h=>h.ch) vL rfl ?_
      refine L_p (.int .i64 ((w64 (aD + bD)))) rfl rfl (P_int rfl rfl rfl) ?_
      refine L_p (.int .i64 (iB)) rfl rfl (P_int rfl rfl (congrArg (Option.map (Value.int .i64)) xL)) ?_
      refine L_p (.int .i64 (iB)) rfl rfl (P_assign rfl) ?_
      refine L_nl fun gN tQ hs=>?_
      have hfr:=hfr.ext hs
      have yB:=yB.ext hs
      have u2_0_1001:=u2_0_1001.ext hs
      have u2_1_1001:=u2_1_1001.ext hs
      have u2_2_1001:=u2_2_1001.ext hs
      have zB:=zB.ext hs
      have u3_0_1001:=u3_0_1001.ext hs
      have u3_2_1001:=u3_2_1001.ext hs
      have l8:=l8.ext hs
      have mC:=mC.ext hs
      clear hs
      exact EL_nil (blk_n (thn_n (uM (iB) _ _ ⟨gN,hfr,qI,yB,sI,zB,u2_0_1001,u2_1_1001,u2_2_1001,cC,l8,u3_0_1001,u3_2_1001,tI,mC,uI,rfl⟩ h)))
    ·clear hx
     obtain ⟨iN,hfr,yA,x5,vD,x6,u2_0_1032,u2_1_1032,u2_2_1032,aB,i6,u3_0_1032,u3_2_1032,qC,xD,u9,dB⟩:=hR
     refine E_seq (E_region (EL_mv dB rfl ?_))
     obtain ⟨kM,jG,h⟩:=bsome h
     obtain ⟨hi1034,he1034⟩:=vat_idx jG
     refine EL_p (fPtr a9 ((l5:Int).toNat * 1)) (P_indexAddrA (α:=Bool) Tryz.underlying70 Tryz.sizeOf4 qC (OB.ptr xD) rfl jG) rfl ?_
     refine EL_do .plain rfl (D_storeFc (g:=iN) (SubS.dyn hi1034) Tryz.sizeOf4 rfl xD rfl (RV_bool.2 rfl) fun xE uQ hs b1035 rst hos=>?_)
     clear rst hos
     have hfr:=hfr.stp hs
     have x5:=x5.stp hs
     have u2_0_1032:=u2_0_1032.stp hs rfl
     have u2_1_1032:=u2_1_1032.stp hs rfl
     have u2_2_1032:=u2_2_1032.stp hs rfl
     have x6:=x6.stp hs rfl
     have u3_0_1032:=u3_0_1032.stp hs rfl
     have u3_2_1032:=u3_2_1032.stp hs rfl
     have i6:=i6.stp hs rfl
     refine EL_nil (thn_n (E_seq (E_region (EL_mv u9 rfl ?_))))
     refine EL_p (fPtr p1 2) (P_fieldAddr at_26_1 yA (PT.ptr x5)) rfl ?_
     have xH:=PT_field (part_Race_1).1 x5
     obtain ⟨cH,kG,h⟩:=bsome h
     refine EL_p (fPtr (fPtr p1 2) ((o0:Int).toNat * 2)) (P_indexAddrA (α:=Vector UInt8 2) Tryz.underlying24 Tryz.sizeOf23 rfl (PT.ptr xH) rfl kG) rfl ?_
     have yH:=PT_idxA xH kG
     obtain ⟨lE,lG,h⟩:=bsome h
     refine EL_p (fPtr (fPtr (fPtr p1 2) ((o0:Int).toNat * 2)) (((1:Int):Int).toNat * 1)) (P_indexAddrA (α:=UInt8) Tryz.underlying23 Tryz.sizeOf5 rfl (PT.ptr yH) rfl lG) rfl ?_
     have jN:=PT_idxA yH lG
     refine EL_do .plain rfl (D_load (g:=xE) Tryz.isAgg5 Tryz.sizeOf5 rfl jN fun vQ kN=>?_)
     obtain rfl:=RV_u8.1 kN
     refine EL_p (.int .i64 (((lE).toNat:Int))) (P_u8int Tryz.underlying5 Tryz.underlying3 rfl) rfl ?_
     obtain ⟨v8,yL,h⟩:=bsome h
     refine EL_p (.int .i64 (v8)) (P_int rfl rfl (congrArg (Option.map (Value.int .i64)) yL)) rfl ?_
     refine EL_at (.int .i64 (v8)) rfl rfl ?_
     refine EL_nil (thn_n (E_seq (E_region (EL_mv u9 rfl ?_))))
     refine EL_mv dB rfl ?_
     refine EL_mw (.int .i64 (v8)) rfl rfl ?_
     refine EL_mw (.int .i64 (v8)) rfl rfl ?_
     refine EL_mv u9 rfl ?_
     refine EL_p (fPtr p1 2) (P_fieldAddr at_26_1 yA (PT.ptr x5)) rfl ?_
     have zH:=PT_field (part_Race_1).1 x5
     obtain ⟨dH,mG,h⟩:=bsome h
     refine EL_p (fPtr (fPtr p1 2) ((o0:Int).toNat * 2)) (P_indexAddrA (α:=Vector UInt8 2) Tryz.underlying24 Tryz.sizeOf23 rfl (PT.ptr zH) rfl mG) rfl ?_
     have aI:=PT_idxA zH mG
     obtain ⟨mE,sG,h⟩:=bsome h
     refine EL_p (fPtr (fPtr (fPtr p1 2) ((o0:Int).toNat * 2)) (((1:Int):Int).toNat * 1)) (P_indexAddrA (α:=UInt8) Tryz.underlying23 Tryz.sizeOf5 rfl (PT.ptr aI) rfl sG) rfl ?_
     have lN:=PT_idxA aI sG
     refine EL_do .plain rfl (D_load (g:=xE) Tryz.isAgg5 Tryz.sizeOf5 rfl lN fun xQ mN=>?_)
     obtain rfl:=RV_u8.1 mN
     refine EL_p (.int .i64 (((mE).toNat:Int))) (P_u8int Tryz.underlying5 Tryz.underlying3 rfl) rfl ?_
     obtain ⟨oE,zL,h⟩:=bsome h
     refine EL_p (.int .i64 (oE)) (P_int rfl rfl (congrArg (Option.map (Value.int .i64)) zL)) rfl ?_
     obtain ⟨lB,aM,h⟩:=bsome h
     refine EL_p (.int .i64 (lB)) (P_int rfl rfl (congrArg (Option.map (Value.int .i64)) aM)) rfl ?_
     refine EL_in (.int .i64 ((w64 (v8 + lB)))) rfl rfl rfl rfl ?_
     obtain ⟨d9,bM,h⟩:=bsome h
     refine EL_do .plain rfl (D_call (g:=xE) (vs:=[.int .i64 (v8),.int .i64 ((w64 (v8 + lB)))]) en19 (.cons rfl (.cons rfl .nil)) (wk19  bM) fun bI dQ yE hs hr=>?_)
     have hfr:=hfr.ext hs
     have x5:=x5.ext hs
     have u2_0_1032:=u2_0_1032.ext hs
     have u2_1_1032:=u2_1_1032.ext hs
     have u2_2_1032:=u2_2_1032.ext hs
     have x6:=x6.ext hs
     have u3_0_1032:=u3_0_1032.ext hs
     have u3_2_1032:=u3_2_1032.ext hs
     have i6:=i6.ext hs
     have b1035:=b1035.ext hs
     have dI:=hr
     have eD:RV bI.m _ (⟨o0,0,l5,d9⟩:BoxShuttle) (.agg (setCh [[.int .i64 0],[.int .i64 0],[.int .i64 0],[.int .i64 0,.int .i64 0]] [(0,.int .i64 (o0)),(2,.int .i64 (l5)),(3,yE)]).flatten.toArray):=RV_build rfl (rep_pair (rfl) (rep_pair (rep_int) (rep_pair (rfl) (rep_last (RV.cells dI)))))
     generalize cM:(Value.agg (setCh [[.int .i64 0],[.int .i64 0],[.int .i64 0],[.int .i64 0,.int .i64 0]] [(0,.int .i64 (o0)),(2,.int .i64 (l5)),(3,yE)]).flatten.toArray)=iI at eD
     refine EL_p iI (cM ▸ P_build (vs:=[(0,.int .i64 (o0)),(2,.int .i64 (l5)),(3,yE)]) [[.int .i64 0],[.int .i64 0],[.int .i64 0],[.int .i64 0,.int .i64 0]] lay_65 rfl rfl (.cons rfl (.cons rfl (.cons rfl .nil))) ⟨⟨_,rfl,rfl⟩,⟨⟨_,rfl,rfl⟩,⟨⟨_,rfl,cells_size dI⟩,trivial⟩⟩⟩) rfl ?_
     refine EL_do .plain rfl (D_allocOc (g:=bI) 2008 (⟨0,0,0,⟨0,0⟩⟩:BoxShuttle) Tryz.zeroValue65 (fun m w=>⟨_,(rep_two rep_int (rep_two rep_int (rep_two rep_int (rep_two rep_int rep_int)))),rfl⟩) fun nN yQ z9 hs b1054 cb=>?_)
     have hfr:=hfr.stp hs
     have x5:=x5.stp hs
     have u2_0_1032:=u2_0_1032.stp hs rfl
     have u2_1_1032:=u2_1_1032.stp hs rfl
     have u2_2_1032:=u2_2_1032.stp hs rfl
     have x6:=x6.stp hs rfl
     have u3_0_1032:=u3_0_1032.stp hs rfl
     have u3_2_1032:=u3_2_1032.stp hs rfl
     have i6:=i6.stp hs rfl
     have b1035:=b1035.stp hs rfl
     have eD:=eD.stp hs
     clear cb
     refine EL_do .plain rfl (D_storeOc (g:=nN) (v:=iI) Tryz.sizeOf65 rfl b1054 rfl eD fun zE zQ hs b1055 cb=>?_)
     clear cb
     have hfr:=hfr.stp hs
     have x5:=x5.stp hs
     have u2_0_1032:=u2_0_1032.stp hs rfl
     have u2_1_1032:=u2_1_1032.stp hs rfl
     have u2_2_1032:=u2_2_1032.stp hs rfl
     have x6:=x6.stp hs rfl
     have u3_0_1032:=u3_0_1032.stp hs rfl
     have u3_2_1032:=u3_2_1032.stp hs rfl
     have i6:=i6.stp hs rfl
     have b1035:=b1035.stp hs rfl
     refine EL_nil (thn_n ?_)
     obtain ⟨iA,hx,h⟩:=bsome h
     refine E_join (fun e w=>∃ (g:Gh) ,Fr gI wI g w∧e 1=p1∧PT g.m w (x0:Race) p1∧e 2=p2∧OB 2002 g w 33 ((⟨[],[],[]⟩:BoxLoom):BoxLoom) p2∧OSF 2002 60200 0 g w 3 33 (((⟨[],[],[]⟩:BoxLoom)).Boxes) p2∧OSF 2002 60201 1 g w 3 33 (((⟨[],[],[]⟩:BoxLoom)).At) p2∧OSF 2002 60202 2 g w 65 33 (((⟨[],[],[]⟩:BoxLoom)).Shuttles) p2∧e 3=t5∧OB 2003 g w 33 (u3:BoxLoom) t5∧OSF 2003 3021 0 g w 3 33 ((u3).Boxes) t5∧OSF 2003 60302 2 g w 65 33 ((u3).Shuttles) t5∧e 4=a9∧OB 2004 g w 70 ((vset i7 l5 true):Vector Bool 6) a9∧e 5=.int .i64 (o0)∧e 8=z9∧OB 2008 g w 65 (iA:BoxShuttle) z9) (fun Q' hQ=>?_) (fun eQ aR hR=>?_)
     ·replace h := hx
      clear hx
      refine E_seq (E_region (EL_mv dB rfl ?_))
      refine EL_p (fPtr t5 0) (P_fieldAddr at_33_0 aB (OB.ptr i6)) rfl ?_
      refine EL_do .plain rfl (D_loadFS (g:=zE) part_BoxLoom_0.1 Tryz.isAgg27 Tryz.sizeOf27 rfl i6 u3_0_1032 fun oN jI o1122=>?_)
      obtain ⟨rE,xG,h⟩:=bsome h
      refine EL_p (ePtr oN (0:Int) 1) (P_indexAddr (α:=Int) Tryz.underlying27 Tryz.sizeOf3 rfl jI rfl xG) rfl ?_
      have pN:=PT_idx jI xG
      refine EL_do .plain rfl (D_load (g:=zE) Tryz.isAgg3 Tryz.sizeOf3 rfl pN fun bR qN=>?_)
      obtain rfl:=RV_int.1 qN
      refine EL_in (.bool ((decide (l5 ≥ rE)))) rfl rfl rfl rfl ?_
      refine EL_nil (thn_n ?_)
      rcases csome h with ⟨sD,h⟩ | ⟨sD,h⟩
      ·refine E_ct sD rfl ?_
       refine L_loadO (x:=.tmp 103) part_BoxLoom_0.1 Tryz.isAgg27 Tryz.sizeOf27 i6 fun kI lI dM=>?_
       obtain ⟨cD,yG,h⟩:=bsome h
       have rN:=PT_idx lI yG
       refine L_load (x:=.tmp 105) Tryz.isAgg3 Tryz.sizeOf3 rN fun cR sN eM=>?_
       obtain rfl:=RV_int.1 sN
       refine E_drawB (a0:=((⟨o0,0,l5,d9⟩:BoxShuttle):BoxShuttle)) (a1:=((⟨o0,(1:Int),l5,d9⟩:BoxShuttle):BoxShuttle)) b1055 (n:=9) [(7,(fun _ g w=>OB 2008 g w 65 ((⟨o0,(1:Int),l5,d9⟩:BoxShuttle):BoxShuttle) z9))] [0,1,2,3,4,5,6,7,8] rfl mixed (by kernel_rfl) (⟨fun _=>up_box,trivial⟩) ?_
       refine L_p (.int .i64 (l5)) rfl rfl (P_move dB) ?_
       refine L_p (fPtr t5 0) rfl rfl (P_fieldAddr at_33_0 aB (OB.ptr i6)) ?_
       refine L_ld (c:=kI) rfl rfl .plain (fun _ _ h=>⟨h.1.ch,fun b hb ho=>h.1.block b hb (by rw [ho]; decide)⟩) dM rfl ?_
       refine L_p (ePtr kI (0:Int) 1) rfl rfl (P_indexAddr (α:=Int) Tryz.underlying27 Tryz.sizeOf3 rfl lI rfl yG) ?_
       refine L_ld (c:=.int .i64 (cD)) rfl rfl .plain (fun _ _ h=>h.1.ch) eM rfl ?_
       refine L_p (.int .i64 ((w64 (l5 - cD)))) rfl rfl (P_int rfl rfl rfl) ?_
       refine L_p (fPtr z9 1) rfl rfl (P_fieldAddr at_65_1 rfl (OB.ptr b1055)) ?_
       refine L_do (φ:=fun _ g w=>OB 2008 g w 65 ((⟨o0,(1:Int),l5,d9⟩:BoxShuttle):BoxShuttle) z9) rfl rfl .plain (fun g w hd=>D_storeR (g:=g) (by rfl) (by exact rfl) part_BoxShuttle_1 Tryz.sizeOf3 rfl hd.1.2 rfl (RV_int.2 rfl)) (fun dR hv=>?_)
       clear hv
       refine L_p (fPtr z9 2) rfl rfl (P_fieldAddr at_65_2 rfl (OB.ptr b1055)) ?_
       refine L_nil fun tN eR hall=>?_
       have hs:=hall.1.1
       have hfr:=hfr.stp hs
       have x5:=x5.stp hs
       have u2_0_1032:=u2_0_1032.stp hs rfl
       have u2_1_1032:=u2_1_1032.stp hs rfl
       have u2_2_1032:=u2_2_1032.stp hs rfl
       have x6:=x6.stp hs rfl
       have u3_0_1032:=u3_0_1032.stp hs rfl
       have u3_2_1032:=u3_2_1032.stp hs rfl
       have i6:=i6.stp hs rfl
       have b1035:=b1035.stp hs rfl
       have b1170:=(word_all (A:=fun g w=>OB 2008 g w 65 ((⟨o0,(1:Int),l5,d9⟩:BoxShuttle):BoxShuttle) z9) 7 rfl hall)
       clear hs hall
       refine EL_do .plain rfl (D_storeFc (g:=tN) part_BoxShuttle_2 Tryz.sizeOf3 rfl b1170 rfl (RV_int.2 rfl) fun uN gR hs b1185 rst hos=>?_)
       clear rst hos
       have hfr:=hfr.stp hs
       have x5:=x5.stp hs
       have u2_0_1032:=u2_0_1032.stp hs rfl
       have u2_1_1032:=u2_1_1032.stp hs rfl
       have u2_2_1032:=u2_2_1032.stp hs rfl
       have x6:=x6.stp hs rfl
       have u3_0_1032:=u3_0_1032.stp hs rfl
       have u3_2_1032:=u3_2_1032.stp hs rfl
       have i6:=i6.stp hs rfl
       have b1035:=b1035.stp hs rfl
       refine EL_nil ?_
       obtain rfl:=sinj h
       exact hQ _ _ ⟨uN,hfr,yA,x5,vD,x6,u2_0_1032,u2_1_1032,u2_2_1032,aB,i6,u3_0_1032,u3_2_1032,qC,b1035,u9,rfl,b1185⟩
      ·refine E_cf sD rfl ?_
       refine E_skip ?_
       obtain rfl:=sinj h
       exact hQ _ _ ⟨zE,hfr,yA,x5,vD,x6,u2_0_1032,u2_1_1032,u2_2_1032,aB,i6,u3_0_1032,u3_2_1032,qC,b1035,u9,rfl,b1055⟩
     ·clear hx
      obtain ⟨cF,hfr,yI,m8,zI,n8,u2_0_1186,u2_1_1186,u2_2_1186,rC,y6,u3_0_1186,u3_2_1186,eJ,r8,gJ,iJ,jJ⟩:=hR
      refine E_region (EL_p (fPtr t5 2) (P_fieldAddr at_33_2 rC (OB.ptr y6)) rfl ?_)
      refine EL_do .plain rfl (D_loadFS (g:=cF) part_BoxLoom_2.1 Tryz.isAgg31 Tryz.sizeOf31 rfl y6 u3_2_1186 fun iR dF o1188=>?_)
      refine EL_do .plain rfl (D_loadO (g:=cF) Tryz.isAgg65 Tryz.sizeOf65 iJ jJ fun vN xN=>?_)
      refine EL_do .plain rfl (D_buildSlice (g:=cF) 3113 (xs:=([iA]:List BoxShuttle)) (vs:=[vN]) Tryz.underlying31 Tryz.sizeOf65 Tryz.zeroValue65 rfl rfl (.cons rfl .nil) (RVs.cons xN RVs.nil) rfl rfl fun yN jR lR hs o1190 zN hxt hfl=>?_)
      have hfr:=hfr.stp hs
      have m8:=m8.stp hs
      have u2_0_1186:=u2_0_1186.stp hs rfl
      have u2_1_1186:=u2_1_1186.stp hs rfl
      have u2_2_1186:=u2_2_1186.stp hs rfl
      have n8:=n8.stp hs rfl
      have u3_0_1186:=u3_0_1186.stp hs rfl
      have y6:=y6.stp hs rfl
      have r8:=r8.stp hs rfl
      have dF:=dF.stp hs
      have o1188:=o1188.stp hs rfl
      obtain ⟨uE,iM,h⟩:=bsome h
      refine EL_do .plain rfl (D_append (g:=yN) (i:=60302) Tryz.underlying31 info_65 rfl rfl o1188 dF rfl zN iM fun aO mR nR hs o1191 mI _=>?_)
      have hfr:=hfr.stp hs
      have m8:=m8.stp hs
      have u2_0_1186:=u2_0_1186.stp hs rfl
      have u2_1_1186:=u2_1_1186.stp hs rfl
      have u2_2_1186:=u2_2_1186.stp hs rfl
      have n8:=n8.stp hs rfl
      have u3_0_1186:=u3_0_1186.stp hs rfl
      have y6:=y6.stp hs rfl
      have r8:=r8.stp hs rfl
      refine EL_p (fPtr t5 2) (P_fieldAddr at_33_2 rC (OB.ptr y6)) rfl ?_
      refine EL_do .plain rfl (D_storeFc (g:=aO) part_BoxLoom_2 Tryz.sizeOf31 rfl y6 rfl mI fun bO oR hs b1194 rst hos=>?_)
      have u3_0_1186:=u3_0_1186.rest hs rst
      have kJ:=hos _ _ 60302 65 (uE:List BoxShuttle) (rv_cells1 mI) rfl o1191
      clear rst hos
      have hfr:=hfr.stp hs
      have m8:=m8.stp hs
      have u2_0_1186:=u2_0_1186.stp hs rfl
      have u2_1_1186:=u2_1_1186.stp hs rfl
      have u2_2_1186:=u2_2_1186.stp hs rfl
      have n8:=n8.stp hs rfl
      have r8:=r8.stp hs rfl
      refine EL_nil (blk_n ?_)
      obtain ⟨rfl,rfl⟩:=pairs2 h
      exact hQ _ _ ⟨bO,hfr,yI,m8,zI,n8,u2_0_1186,u2_1_1186,u2_2_1186,rC,b1194,u3_0_1186,kJ,eJ,r8,gJ⟩
   ·clear hx
    obtain ⟨cO,hfr,lJ,mJ,nJ,oJ,u2_0_1195,u2_1_1195,u2_2_1195,pJ,qJ,u3_0_1195,u3_2_1195,rJ,sJ,vJ⟩:=hR
    refine E_region (EL_mv vJ rfl ?_)
    refine EL_in (.int .i64 ((w64 (o0 + (1:Int))))) rfl rfl rfl rfl ?_
    refine EL_at (.int .i64 ((w64 (o0 + (1:Int))))) rfl rfl ?_
    exact EL_nil (thn_n (mM (k9,rA,(w64 (o0 + (1:Int)))) _ _ ⟨cO,hfr,lJ,mJ,nJ,oJ,u2_0_1195,u2_1_1195,u2_2_1195,pJ,qJ,u3_0_1195,u3_2_1195,rJ,sJ,rfl⟩ h))
 ·clear hx
  obtain ⟨nI,hfr,yD,xJ,u2_0_1196,u2_1_1196,u2_2_1196,yJ,zJ,u3_0_1196,u3_2_1196⟩:=hR
  refine E_seq (E_region (EL_do .plain rfl (D_loadO (g:=nI) Tryz.isAgg33 Tryz.sizeOf33 yJ zJ fun dO eO=>?_)))
  refine EL_do .plain rfl (D_storeOc (g:=nI) (v:=dO) Tryz.sizeOf33 yD xJ rfl eO fun pR qR hs b1198 cb=>?_)
  clear cb
  have hfr:=hfr.stp hs
  refine EL_nil (thn_n (E_ret ?_))
  obtain rfl:=sinj h
  obtain ⟨ad1199,cv1199,hp1199,jM,cr1199⟩:=ob_read Tryz.isAgg33 Tryz.sizeOf33 b1198
  exact endm_c rfl rfl ((show _=p2 from yD).trans hp1199) jM ⟨_,hfr,cr1199⟩
def f9 (x0:List Int) (x1:Int):Option ((List Int)):=
 Option.bind (α:=(List Int)) (
  lp (σ:=(List Int) × Int) (fun qC (l5,o0)=>
   jn (σ:=Unit) (fun _=>
    Option.bind (α:=(List Int)) (
     (idx x0 o0).bind fun z9=>
     (f26 z9).bind fun y55=>
     (apnd 8 l5 (([y55]:List Int))).bind fun rC=>
     some (rC)
     ) fun x6=>
    qC (x6,(w64 (o0 + (1:Int))))
    ) fun uC=>
   Option.bind (α:=Bool) (
    bif (decide (o0 < ((x0).length : Int))) then
     some ((decide (o0 < x1)))
    else
     some (false)
    ) fun i6=>
   bif i6 then
    uC ()
   else
    some (l5)
   ) big (([]:List Int),(0:Int))
  ) fun m7=>
 some (m7)
theorem en9:Enters Tryz.prog 9:=enters_of Tryz.func9 (by kernel_rfl) rfl
theorem wk9 {gI:Gh} {wI:World} {x0:List Int} {x1:Int} {up0:Value} (rp0:RV gI.m wI x0 up0) {r:(List Int)} (h:f9 x0 x1=some r):Fn Tryz.prog 9 #[up0,.int .i64 (x1)] gI wI (fun m w v=>RV m w (r) v):=by
 unfold f9 at h
 refine fn_of_E Tryz.func9 rfl (Nat.le_of_ble_eq_true rfl) fun g0 hm hfr=>?_
 have rp0:RV g0.m wI x0 up0:=hm ▸ rp0
 show E _ 28 none _ _ _ _ _
 refine E_seq (E_region (EL_at (.slice none 0 0) rfl rfl ?_))
 refine EL_nil (thn_n (E_seq (E_region (EL_do .plain rfl (D_buildSlice (g:=g0) 3007 (xs:=([]:List Int)) (vs:=[]) Tryz.underlying27 Tryz.sizeOf3 Tryz.zeroValue3 rfl rfl .nil RVs.nil rfl rfl fun g1 w1 v1 hs o1 r1 hxt hfl=>?_)))))
 have hfr:=hfr.stp hs
 have rp0:=rp0.stp hs
 refine EL_at v1 rfl rfl ?_
 refine EL_nil (thn_n ?_)
 obtain ⟨m7,hx,h⟩:=bsome h
 refine E_join (fun e w=>∃ (g:Gh) (v5:Value),Fr gI wI g w∧e 5=v5∧RV g.m w (m7:List Int) v5∧OS 3007 g w 3 (m7:List Int) v5) (fun Q' hQ=>?_) (fun zD oE hR=>?_)
 ·replace h := hx
  clear hx
  refine E_seq (E_region (EL_at (.int .i64 (0)) rfl rfl ?_))
  refine EL_nil (thn_n (E_block ?_))
  refine E_lp h (fun (s:(List Int) × Int) e w=>∃ (g:Gh) (v5:Value),Fr gI wI g w∧e 0=up0∧RV g.m w (x0:List Int) up0∧e 1=.int .i64 (x1)∧e 5=v5∧RV g.m w (s.1:List Int) v5∧OS 3007 g w 3 (s.1:List Int) v5∧e 6=.int .i64 (s.2)) ⟨g1,(v1),hfr,rfl,rp0,rfl,rfl,r1,o1,rfl⟩ (fun X31 qC eD=>?_)
  rintro ⟨l5,o0⟩ aE rE ⟨vC,t5,hfr,k8,l8,m8,v8,x8,a9,g8⟩ h
  refine E_joinC h (fun (s:Unit) e w=>∃ (g:Gh) ,Fr gI wI g w∧e 0=up0∧RV g.m w (x0:List Int) up0∧e 1=.int .i64 (x1)∧e 5=t5∧RV g.m w (l5:List Int) t5∧OS 3007 g w 3 (l5:List Int) t5∧e 6=.int .i64 (o0)) (fun X37 uC gD h=>?_) ?_
  ·obtain ⟨i6, hx, h⟩ := bsome h
   refine E_join (fun e w=>∃ (g:Gh) ,Fr gI wI g w∧e 0=up0∧RV g.m w (x0:List Int) up0∧e 1=.int .i64 (x1)∧e 5=t5∧RV g.m w (l5:List Int) t5∧OS 3007 g w 3 (l5:List Int) t5∧e 6=.int .i64 (o0)∧e 16=.bool (i6)) (fun Q' hQ=>?_) (fun bE uE hR=>?_)
   ·replace h := hx
    clear hx
    refine E_region (EL_mv g8 rfl ?_)
    refine EL_mv k8 rfl ?_
    refine EL_p (.int .i64 ((x0).length:Int)) (P_len Tryz.underlying27 rfl l8) rfl ?_
    refine EL_in (.bool ((decide (o0 < ((x0).length:Int))))) rfl rfl rfl rfl ?_
    refine EL_mw (.bool ((decide (o0 < ((x0).length:Int))))) rfl rfl ?_
    rcases csome h with ⟨x5,h⟩ | ⟨x5,h⟩
    ·refine EL_y (.int .i64 (o0)) (P_move g8) rfl rfl x5 rfl ?_
     refine EL_y (.int .i64 (x1)) (P_move m8) rfl rfl x5 rfl ?_
     refine EL_y (.bool ((decide (o0 < x1)))) (P_int rfl rfl rfl) rfl rfl x5 rfl ?_
     refine EL_p (.bool ((decide (o0 < x1)))) (P_pick (b:=(decide (o0 < ((x0).length:Int)))) rfl (pick_t x5 rfl)) rfl ?_
     refine EL_nil ?_
     obtain rfl:=sinj h
     exact hQ _ _ ⟨vC,hfr,k8,l8,m8,v8,x8,a9,g8,rfl⟩
    ·refine EL_s rfl rfl x5 rfl rfl ?_
     refine EL_s rfl rfl x5 rfl rfl ?_
     refine EL_s rfl rfl x5 rfl rfl ?_
     refine EL_p (.bool false) (P_pick (b:=(decide (o0 < ((x0).length:Int)))) rfl (pick_f x5 rfl)) rfl ?_
     refine EL_nil ?_
     obtain rfl:=sinj h
     exact hQ _ _ ⟨vC,hfr,k8,l8,m8,v8,x8,a9,g8,rfl⟩
   ·clear hx
    obtain ⟨aD,hfr,iA,rA,yA,d9,k9,l9,aB,n8⟩:=hR
    rcases csome h with ⟨r8,h⟩ | ⟨r8,h⟩
    ·refine E_cond_true (Eq.trans (show ev _ _ = .bool (i6) from n8) (congrArg Value.bool r8)) ?_
     exact E_skip (thn_n (gD () _ _ ⟨aD,hfr,iA,rA,yA,d9,k9,l9,aB⟩ h))
    ·refine E_cond_false (Eq.trans (show ev _ _ = .bool (i6) from n8) (congrArg Value.bool r8)) ?_
     refine E_exit ?_
     refine thn_e ?_
     refine thn_e ?_
     refine blk_hit ?_
     obtain rfl:=sinj h
     exact hQ _ _ ⟨aD,(t5),hfr,d9,k9,l9⟩
  ·rintro _ iE vE ⟨bD, hfr, n9, u3, dB, iB, y6, i7, u9⟩ h
   obtain ⟨x6,hx,h⟩:=bsome h
   refine E_join (fun e w=>∃ (g:Gh) (v5:Value),Fr gI wI g w∧e 0=up0∧RV g.m w (x0:List Int) up0∧e 1=.int .i64 (x1)∧e 5=v5∧RV g.m w (x6:List Int) v5∧OS 3007 g w 3 (x6:List Int) v5∧e 6=.int .i64 (o0)) (fun Q' hQ=>?_) (fun lE xE hR=>?_)
   ·replace h := hx
    clear hx
    refine E_block ?_
    refine E_region (EL_mv iB rfl ?_)
    refine EL_mv n9 rfl ?_
    refine EL_mv u9 rfl ?_
    obtain ⟨z9,bA,h⟩:=bsome h
    refine EL_p (ePtr up0 o0 1) (P_indexAddr (α:=Int) Tryz.underlying27 Tryz.sizeOf3 rfl u3 rfl bA) rfl ?_
    have lD:=PT_idx u3 bA
    refine EL_do .plain rfl (D_load (g:=bD) Tryz.isAgg3 Tryz.sizeOf3 rfl lD fun yE nD=>?_)
    obtain rfl:=RV_int.1 nD
    obtain ⟨y55,iD,h⟩:=bsome h
    refine EL_do .plain rfl (D_call (g:=bD) (vs:=[.int .i64 (z9)]) en26 (.cons rfl .nil) (wk26  iD) fun oD mE zE hs hr=>?_)
    have hfr:=hfr.ext hs
    have u3:=u3.ext hs
    have y6:=y6.ext hs
    have i7:=i7.ext hs
    subst hr
    refine EL_do .plain rfl (D_buildSlice (g:=oD) 3025 (xs:=([y55]:List Int)) (vs:=[.int .i64 (y55)]) Tryz.underlying27 Tryz.sizeOf3 Tryz.zeroValue3 rfl rfl (.cons rfl .nil) (RVs.cons (RV_int.2 rfl) RVs.nil) rfl rfl fun sD cF dF hs o56 tD hxt hfl=>?_)
    have hfr:=hfr.stp hs
    have u3:=u3.stp hs
    have y6:=y6.stp hs
    have i7:=i7.stp hs rfl
    obtain ⟨rC,jD,h⟩:=bsome h
    refine EL_do .plain rfl (D_append (g:=sD) (i:=3007) Tryz.underlying27 info_3 rfl rfl i7 y6 rfl tD jD fun uD eF cD hs o57 vD _=>?_)
    have hfr:=hfr.stp hs
    have u3:=u3.stp hs
    refine EL_at cD rfl rfl ?_
    refine EL_nil (blk_n ?_)
    obtain rfl:=sinj h
    exact hQ _ _ ⟨uD,(cD),hfr,n9,u3,dB,rfl,vD,o57,u9⟩
   ·clear hx
    obtain ⟨xD,lB,hfr,mB,nB,oB,tB,vB,yB,zB⟩:=hR
    refine E_region (EL_mv zB rfl ?_)
    refine EL_in (.int .i64 ((w64 (o0 + (1:Int))))) rfl rfl rfl rfl ?_
    refine EL_at (.int .i64 ((w64 (o0 + (1:Int))))) rfl rfl ?_
    exact EL_nil (thn_n (eD (x6,(w64 (o0 + (1:Int)))) _ _ ⟨xD,(lB),hfr,mB,nB,oB,tB,vB,yB,rfl⟩ h))
 ·clear hx
  obtain ⟨rF,y9,hfr,cC,mC,yD⟩:=hR
  refine E_seq (E_region (EL_mv cC rfl ?_))
  refine EL_at y9 rfl rfl ?_
  refine EL_nil (thn_n (E_ret ?_))
  obtain rfl:=sinj h
  exact end1 rfl rfl (show _=y9 from rfl) ⟨_,hfr,mC⟩
def f11 (x0:BoxLoom):Option (BoxLoom):=
 (f12 ((x0).Boxes)).bind fun y6=>
 (f12 ((x0).At)).bind fun t5=>
 (apnd 40 (([]:List BoxShuttle)) ((x0).Shuttles)).bind fun u3=>
 some ((⟨y6,t5,u3⟩:BoxLoom))
theorem en11:Enters Tryz.prog 11:=enters_of Tryz.func11 (by kernel_rfl) rfl
theorem wk11 {gI:Gh} {wI:World} {x0:BoxLoom} {up0:Value} (rp0:RV gI.m wI x0 up0) {r:BoxLoom} (h:f11 x0=some r):Fn Tryz.prog 11 #[up0] gI wI (fun m w v=>RV m w (r) v):=by
 unfold f11 at h
 refine fn_of_E Tryz.func11 rfl (Nat.le_of_ble_eq_true rfl) fun g0 hm hfr=>?_
 have rp0:RV g0.m wI x0 up0:=hm ▸ rp0
 show E _ 14 none _ _ _ _ _
 refine E_seq (E_region (EL_do .plain rfl (D_box (g:=g0) rfl rp0 fun g1 w1 p1 hs q1=>?_)))
 have hfr:=hfr.ext hs
 refine EL_do .plain rfl (D_allocOc (g:=g1) 2002 (⟨[],[],[]⟩:BoxLoom) Tryz.zeroValue33 (fun m w=>⟨_,(rep_two rep_nil (rep_two rep_nil rep_nil)),rfl⟩) fun g2 w2 p2 hs b2 cb=>?_)
 have hfr:=hfr.stp hs
 have q1:=q1.stp hs
 have y9:OSF 2002 60200 0 g2 w2 3 33 ([]:List Int) p2:=cb.osf (by rfl)
 have z9:OSF 2002 60201 1 g2 w2 3 33 ([]:List Int) p2:=cb.osf (by rfl)
 have bA:OSF 2002 60202 2 g2 w2 65 33 ([]:List BoxShuttle) p2:=cb.osf (by rfl)
 clear cb
 refine EL_nil (thn_n (E_seq ?_))
 have q3:=PT_field (part_BoxLoom_0).1 q1
 refine L_load (x:=.tmp 3) Tryz.isAgg27 Tryz.sizeOf27 q3 fun v4 r4 a9=>?_
 obtain ⟨y6,d9,h⟩:=bsome h
 have q7:=PT_field (part_BoxLoom_1).1 q1
 refine L_load (x:=.tmp 6) Tryz.isAgg27 Tryz.sizeOf27 q7 fun v8 r8 k9=>?_
 obtain ⟨t5,k8,h⟩:=bsome h
 have l9:=PT_field (part_BoxLoom_2).1 q1
 refine L_load (x:=.tmp 10) Tryz.isAgg31 Tryz.sizeOf31 l9 fun n9 u9 l8=>?_
 obtain ⟨u3,m8,h⟩:=bsome h
 refine E_drawL (g:=g2) (n:=10) [(2,(fun v g w=>RV g.m w y6 v)),(5,(fun v g w=>RV g.m w t5 v)),(6,(fun v g w=>RV g.m w ([]:List BoxShuttle) v∧OS 3009 g w 65 ([]:List BoxShuttle) v∧FullV v)),(9,(fun v g w=>RV g.m w u3 v∧OS 3009 g w 65 u3 v))] [0,1,2,3,4,5,6,7,8,9] rfl mixed (by kernel_rfl) (⟨fun _=>up_rv,fun _=>up_rv,fun _=>up_and up_rv (up_and up_os (up_eq _)),fun _=>up_and up_rv up_os,trivial⟩) ?_
 refine L_p (fPtr p1 0) rfl rfl (P_fieldAddr at_33_0 rfl (PT.ptr q1)) ?_
 refine L_ld (c:=v4) rfl rfl .plain (fun _ _ h=>h.ch) a9 rfl ?_
 refine L_do (φ:=fun v g w=>RV g.m w y6 v) rfl rfl .plain (fun g w hd=>D_call (g:=g) (vs:=[v4]) en12 (.cons rfl .nil) (wk12 (r4.ext hd.1) d9) fun g' w' v hs hr=>⟨g',hs,hr⟩) (fun v5 hv=>?_)
 obtain ⟨_,_,_,rq5⟩:=hv
 refine L_p (fPtr p1 1) rfl rfl (P_fieldAddr at_33_1 rfl (PT.ptr q1)) ?_
 refine L_ld (c:=v8) rfl rfl .plain (fun _ _ h=>h.ch) k9 rfl ?_
 refine L_do (φ:=fun v g w=>RV g.m w t5 v) rfl rfl .plain (fun g w hd=>D_call (g:=g) (vs:=[v8]) en12 (.cons rfl .nil) (wk12 (r8.ext hd.1) k8) fun g' w' v hs hr=>⟨g',hs,hr⟩) (fun v9 hv=>?_)
 obtain ⟨_,_,_,rq9⟩:=hv
 refine L_do (φ:=fun v g w=>RV g.m w ([]:List BoxShuttle) v∧OS 3009 g w 65 ([]:List BoxShuttle) v∧FullV v) rfl rfl .plain (fun g w hd=>D_buildSlice (g:=g) 3009 (xs:=([]:List BoxShuttle)) (vs:=[]) Tryz.underlying31 Tryz.sizeOf65 Tryz.zeroValue65 rfl rfl .nil RVs.nil rfl rfl fun g' w' v hs o r hxt hfl=>⟨g',hxt,r,o,hfl⟩) (fun o0 hv=>?_)
 clear hv
 refine L_p (fPtr p1 2) rfl rfl (P_fieldAddr at_33_2 rfl (PT.ptr q1)) ?_
 refine L_ld (c:=n9) rfl rfl .plain (fun _ _ h=>h.ch) l8 rfl ?_
 refine L_do (φ:=fun v g w=>RV g.m w u3 v∧OS 3009 g w 65 u3 v) rfl rfl .plain (fun g w hd=>D_append (g:=g) (i:=3009) Tryz.underlying31 info_65 rfl rfl (word (A:=fun g w=>RV g.m w ([]:List BoxShuttle) o0∧OS 3009 g w 65 ([]:List BoxShuttle) o0∧FullV o0) 6 rfl rfl (deps_of hd)).2.1 (word (A:=fun g w=>RV g.m w ([]:List BoxShuttle) o0∧OS 3009 g w 65 ([]:List BoxShuttle) o0∧FullV o0) 6 rfl rfl (deps_of hd)).1 rfl (u9.ext hd.1) m8 fun g' w' v hs o r hf=>⟨g',hf (word (A:=fun g w=>RV g.m w ([]:List BoxShuttle) o0∧OS 3009 g w 65 ([]:List BoxShuttle) o0∧FullV o0) 6 rfl rfl (deps_of hd)).2.2,r,o⟩) (fun l5 hv=>?_)
 clear hv
 refine L_nil fun x5 iA hall=>?_
 have hs:=hall.1
 have hfr:=hfr.ext hs
 have b2:=b2.ext hs
 have i6:=(word_all (A:=fun g w=>RV g.m w y6 v5) 2 rfl hall)
 have x6:=(word_all (A:=fun g w=>RV g.m w t5 v9) 5 rfl hall)
 have rA:=(word_all (A:=fun g w=>RV g.m w ([]:List BoxShuttle) o0∧OS 3009 g w 65 ([]:List BoxShuttle) o0∧FullV o0) 6 rfl hall).1
 have o26:=(word_all (A:=fun g w=>RV g.m w ([]:List BoxShuttle) o0∧OS 3009 g w 65 ([]:List BoxShuttle) o0∧FullV o0) 6 rfl hall).2.1
 have i7:=(word_all (A:=fun g w=>RV g.m w u3 l5∧OS 3009 g w 65 u3 l5) 9 rfl hall).1
 have o29:=(word_all (A:=fun g w=>RV g.m w u3 l5∧OS 3009 g w 65 u3 l5) 9 rfl hall).2
 clear hs hall
 have m7:RV x5.m _ (⟨y6,t5,u3⟩:BoxLoom) (.agg (setCh [[.slice none 0 0],[.slice none 0 0],[.slice none 0 0]] [(0,v5),(1,v9),(2,l5)]).flatten.toArray):=RV_build rfl (rep_pair (RV.cells i6) (rep_pair (RV.cells x6) (rep_last (RV.cells i7))))
 generalize n8:(Value.agg (setCh [[.slice none 0 0],[.slice none 0 0],[.slice none 0 0]] [(0,v5),(1,v9),(2,l5)]).flatten.toArray)=g8 at m7
 refine EL_p g8 (n8 ▸ P_build (vs:=[(0,v5),(1,v9),(2,l5)]) [[.slice none 0 0],[.slice none 0 0],[.slice none 0 0]] lay_33 rfl rfl (.cons rfl (.cons rfl (.cons rfl .nil))) ⟨⟨_,rfl,cells_size i6⟩,⟨⟨_,rfl,cells_size x6⟩,⟨⟨_,rfl,cells_size i7⟩,trivial⟩⟩⟩) rfl ?_
 refine EL_do .plain rfl (D_storeOc (g:=x5) (v:=g8) Tryz.sizeOf33 rfl b2 rfl m7 fun yA aB hs b31 cb=>?_)
 clear cb
 have hfr:=hfr.stp hs
 refine EL_nil (thn_n (E_ret ?_))
 obtain rfl:=sinj h
 obtain ⟨ad32,cv32,hp32,x8,cr32⟩:=ob_read Tryz.isAgg33 Tryz.sizeOf33 b31
 exact endm_c rfl rfl ((show _=p2 from rfl).trans hp32) x8 ⟨_,hfr,cr32⟩
def f25 (x0:TieTieHarness) (x1:Int):Option (Str):=
 Option.bind (α:=List UInt8) (
  lp (σ:=List UInt8 × Int) (fun z9 (i6,o0)=>
   bif (decide (o0 < ((((x0).TieHarness).Warps).length : Int))) then
    Option.bind (α:=List UInt8) (
     (f50 x0 x1 o0).bind fun m8=>
     (f49 m8).bind fun n8=>
     (apnd 1 i6 [n8]).bind fun y43=>
     some (y43)
     ) fun t5=>
    z9 (t5,(w64 (o0 + (1:Int))))
   else
    some (i6)
   ) big (([]:List UInt8),(0:Int))
  ) fun x6=>
 (sbstr x6).bind fun g8=>
 some (g8)
theorem en25:Enters Tryz.prog 25:=enters_of Tryz.func25 (by kernel_rfl) rfl
theorem wk25 {gI:Gh} {wI:World} {x0:TieTieHarness} {x1:Int} {up0:Value} (rp0:RV gI.m wI x0 up0) {r:Str} (h:f25 x0 x1=some r):Fn Tryz.prog 25 #[up0,.int .i64 (x1)] gI wI (fun _ _ v=>v=Str.v (r)):=by
 unfold f25 at h
 refine fn_of_E Tryz.func25 rfl (Nat.le_of_ble_eq_true rfl) fun g0 hm hfr=>?_
 have rp0:RV g0.m wI x0 up0:=hm ▸ rp0
 show E _ 22 none _ _ _ _ _
 refine E_seq (E_region (EL_do .plain rfl (D_box (g:=g0) rfl rp0 fun g1 w1 p1 hs q1=>?_)))
 have hfr:=hfr.ext hs
 refine EL_at (Str.v (⟨[]⟩:Str)) rfl rfl ?_
 refine EL_nil (thn_n (E_seq (E_region (EL_do .plain rfl (D_allocOc (g:=g1) 2005 ((⟨.pointer none,rfl⟩,[]):Fv × List UInt8) Tryz.zeroValue123 (fun m w=>⟨_,rep_two (show GoT.rep m w (⟨.pointer none,rfl⟩:Fv) [.pointer none] from rfl) rep_nil,rfl⟩) fun g2 w2 p2 hs b2 cb=>?_)))))
 have hfr:=hfr.stp hs
 have q1:=q1.stp hs
 replace b2:SB 2005 60501 g2 w2 5 123 [] p2:=⟨_,b2,cb.osf rfl,.inl rfl⟩
 clear cb
 refine EL_nil (thn_n ?_)
 obtain ⟨x6,hx,h⟩:=bsome h
 refine E_join (fun e w=>∃ (g:Gh) ,Fr gI wI g w∧e 5=p2∧SB 2005 60501 g w 5 123 (x6) p2) (fun Q' hQ=>?_) (fun yB rC hR=>?_)
 ·replace h := hx
  clear hx
  refine E_seq (E_region (EL_p (fPtr p1 0) (P_fieldAddr at_79_0 rfl (PT.ptr q1)) rfl ?_))
  have bA:=PT_field (part_TieTieHarness_0).1 q1
  refine EL_p (fPtr (fPtr p1 0) 1) (P_fieldAddr at_36_1 rfl (PT.ptr bA)) rfl ?_
  have iB:=PT_field (part_TieHarness_1).1 bA
  refine EL_do .plain rfl (D_load (g:=g2) Tryz.isAgg27 Tryz.sizeOf27 rfl iB fun uC lB=>?_)
  refine EL_p (.int .i64 ((((x0).TieHarness).Warps).length:Int)) (P_len Tryz.underlying27 rfl lB) rfl ?_
  refine EL_mw (.int .i64 (0)) rfl rfl ?_
  refine EL_nil (thn_n (E_block ?_))
  refine E_lp h (fun (s:List UInt8 × Int) e w=>∃ (g:Gh) ,Fr gI wI g w∧e 1=.int .i64 (x1)∧e 2=p1∧PT g.m w (x0:TieTieHarness) p1∧e 5=p2∧SB 2005 60501 g w 5 123 (s.1) p2∧e 10=.int .i64 (((((x0).TieHarness).Warps).length:Int))∧e 11=.int .i64 (s.2)) ⟨g2,hfr,rfl,rfl,q1,rfl,b2,rfl,rfl⟩ (fun X27 z9 iA=>?_)
  rintro ⟨i6,o0⟩ zB vC ⟨r8,hfr,k8,l8,u3,y6,l5,i7,x5⟩ h
  refine E_seq (E_region (EL_p (.bool ((decide (o0 < ((((x0).TieHarness).Warps).length:Int))))) (P_int x5 i7 rfl) rfl ?_))
  refine EL_nil (thn_n (E_seq ?_))
  rcases csome h with ⟨m7,h⟩ | ⟨m7,h⟩
  ·refine E_ct m7 rfl ?_
   refine E_skip (thn_n ?_)
   obtain ⟨t5,hx,h⟩:=bsome h
   refine E_join (fun e w=>∃ (g:Gh) ,Fr gI wI g w∧e 1=.int .i64 (x1)∧e 2=p1∧PT g.m w (x0:TieTieHarness) p1∧e 5=p2∧SB 2005 60501 g w 5 123 (t5) p2∧e 10=.int .i64 (((((x0).TieHarness).Warps).length:Int))∧e 11=.int .i64 (o0)) (fun Q' hQ=>?_) (fun cC aD hR=>?_)
   ·replace h := hx
    clear hx
    refine E_block ?_
    refine E_seq (E_region (EL_mv x5 rfl ?_))
    refine EL_at (.int .i64 (o0)) rfl rfl ?_
    refine EL_nil (thn_n (E_region (EL_do .plain rfl (D_load (g:=r8) Tryz.isAgg79 Tryz.sizeOf79 l8 u3 fun mB nB=>?_))))
    refine EL_mv k8 rfl ?_
    refine EL_mw (.int .i64 (o0)) rfl rfl ?_
    obtain ⟨m8,rA,h⟩:=bsome h
    refine EL_do .plain rfl (D_call (g:=r8) (vs:=[mB,.int .i64 (x1),.int .i64 (o0)]) en50 (.cons rfl (.cons rfl (.cons rfl .nil))) (wk50 nB rA) fun oB mC bD hs hr=>?_)
    have hfr:=hfr.ext hs
    have u3:=u3.ext hs
    have l5:=l5.ext hs
    subst hr
    obtain ⟨n8,yA,h⟩:=bsome h
    refine EL_do .plain rfl (D_call (g:=oB) (vs:=[.bool (m8)]) en49 (.cons rfl .nil) (wk49  yA) fun cD qC eD hs hr=>?_)
    have hfr:=hfr.ext hs
    have u3:=u3.ext hs
    have l5:=l5.ext hs
    subst hr
    obtain ⟨y43,aB,h⟩:=bsome h
    refine EL_do .plain rfl (D_callC (vs:=[p2,.int .u8 (UInt8.toNat (n8))]) en48 (.cons y6 (.cons rfl .nil)) (wk48 (i:=2005) (j:=60501) rfl rfl l5 aB) fun gD iD hq=>?_)
    obtain ⟨hv,tB,⟨_,_,_,_,hs1,hs2,hs3⟩,b42⟩:=hq
    subst hv
    have hfr:=hfr.stp hs1
    have u3:=u3.stp hs1
    have hfr:=hfr.stp hs2
    have u3:=u3.stp hs2
    have hfr:=hfr.stp hs3
    have u3:=u3.stp hs3
    clear hs1 hs2 hs3
    refine EL_nil (blk_n ?_)
    obtain rfl:=sinj h
    exact hQ _ _ ⟨tB,hfr,k8,l8,u3,y6,b42,i7,x5⟩
   ·clear hx
    obtain ⟨vB,hfr,a9,d9,k9,l9,n9,v8,x8⟩:=hR
    refine E_region (EL_in (.int .i64 ((w64 (o0 + (1:Int))))) x8 rfl rfl rfl ?_)
    refine EL_mw (.int .i64 ((w64 (o0 + (1:Int))))) rfl rfl ?_
    exact EL_nil (thn_n (iA (t5,(w64 (o0 + (1:Int)))) _ _ ⟨vB,hfr,a9,d9,k9,l9,n9,v8,rfl⟩ h))
  ·refine E_cf m7 rfl ?_
   refine E_exit ?_
   refine thn_e ?_
   refine thn_e ?_
   refine blk_hit ?_
   obtain rfl:=sinj h
   exact hQ _ _ ⟨r8,hfr,y6,l5⟩
 ·clear hx
  obtain ⟨jD,hfr,u9,y9⟩:=hR
  refine E_seq (E_region ?_)
  obtain ⟨g8,dB,h⟩:=bsome h
  obtain ⟨hne46,hye46⟩:=sbstr_h dB
  refine EL_do .plain rfl (D_callC (vs:=[p2]) en51 (.cons u9 .nil) (wk51 (i:=2005) (j:=60501) rfl y9 hne46) fun lD nD hq=>?_)
  obtain ⟨hv,oD,hs⟩:=hq
  rw [← hye46] at hv
  subst hv
  have hfr:=hfr.stp hs
  refine EL_at (Str.v g8) rfl rfl ?_
  refine EL_nil (thn_n (E_ret ?_))
  obtain rfl:=sinj h
  exact end1 rfl rfl (show _=Str.v g8 from rfl) ⟨_,hfr,rfl⟩
def f42 (x0:List Int) (x1:Int→Option Bool):Option (Bool):=
 (f62 x0 x1).bind fun y2=>
 some ((decide (y2 ≥ (0:Int))))
theorem en42:Enters Tryz.prog 42:=enters_of Tryz.func42 (by kernel_rfl) rfl
theorem wk42 {gI:Gh} {wI:World} {x0:List Int} {x1:Int→Option Bool} {up0:Value} (rp0:RV gI.m wI x0 up0) {up1:Value} (rp1:FnV1 Tryz.prog x1 up1 gI wI) {r:Bool} (h:f42 x0 x1=some r):Fn Tryz.prog 42 #[up0,up1] gI wI (fun _ _ v=>v=.bool (r)):=by
 unfold f42 at h
 refine fn_of_E Tryz.func42 rfl (Nat.le_of_ble_eq_true rfl) fun g0 hm hfr=>?_
 have rp0:RV g0.m wI x0 up0:=hm ▸ rp0
 obtain ⟨ff1,fa1,fc1,rfl,fen1,fcl1⟩:=rp1
 show E _ 9 none _ _ _ _ _
 refine E_seq (E_region (EL_at (.bool false) rfl rfl ?_))
 refine EL_nil (thn_n (E_seq (E_region (EL_mw up0 rfl rfl ?_))))
 refine EL_mw ((.func (.func ff1) fa1 fc1)) rfl rfl ?_
 obtain ⟨y2,hy2,h⟩:=bsome h
 refine EL_do .plain rfl (D_call (g:=g0) (vs:=[up0,(.func (.func ff1) fa1 fc1)]) en62 (.cons rfl (.cons rfl .nil)) (wk62 rp0 (FnV1.ch ⟨_,_,_,rfl,fen1,fcl1⟩ hfr.ch) hy2) fun g1 w1_ v1 hs hr=>?_)
 have hfr:=hfr.ext hs
 subst hr
 refine EL_in (.bool ((decide (y2 ≥ (0:Int))))) rfl rfl rfl rfl ?_
 refine EL_at (.bool ((decide (y2 ≥ (0:Int))))) rfl rfl ?_
 refine EL_nil (thn_n (E_ret ?_))
 obtain rfl:=sinj h
 exact end1 rfl rfl (show _=.bool ((decide (y2 ≥ (0:Int)))) from rfl) ⟨_,hfr,rfl⟩
def f45 (x0:It Int):Option ((List Int)):=
 (f68 x0).bind fun y2=>
 some (y2)
theorem en45:Enters Tryz.prog 45:=enters_of Tryz.func45 (by kernel_rfl) rfl
def f46 (x0:Int) (x1:Int):Option (It Int):=
 some ((fun σ cons s=>f69 x1 x0 σ cons s))
theorem en46:Enters Tryz.prog 46:=enters_of Tryz.func46 (by kernel_rfl) rfl
theorem wk46 {gI:Gh} {wI:World} {x0:Int} {x1:Int}  {r:It Int} (h:f46 x0 x1=some r):Fn Tryz.prog 46 #[.int .i64 (x0),.int .i64 (x1)] gI wI (fun m w v=>ItV Tryz.prog (RA1 (α:=Int)) (r) v m w):=by
 unfold f46 at h
 refine fn_of_E Tryz.func46 rfl (Nat.le_of_ble_eq_true rfl) fun g0 hm hfr=>?_
 show E _ 6 none _ _ _ _ _
 refine E_seq (E_region (EL_do .plain rfl (D_box (g:=g0) rfl (RV_int.2 rfl) fun g1 w1 p1 hs q1=>?_)))
 have hfr:=hfr.ext hs
 refine EL_do .plain rfl (D_box (g:=g1) rfl (RV_int.2 rfl) fun g2 w2 p2 hs q2=>?_)
 have hfr:=hfr.ext hs
 have q1:=q1.ext hs
 refine EL_at (.nilFunc) rfl rfl ?_
 refine EL_nil (thn_n (E_seq (E_region (EL_p ((.func (.func 69) #[] #[p2,p1])) (P_makeFunc (capf_0_2 (show ev _ _=p2 from rfl) (show ev _ _=p1 from rfl))) rfl ?_))))
 refine EL_at ((.func (.func 69) #[] #[p2,p1])) rfl rfl ?_
 refine EL_nil (thn_n (E_ret ?_))
 obtain rfl:=sinj h
 exact end1 rfl rfl (show _=(.func (.func 69) #[] #[p2,p1]) from rfl) ⟨_,hfr,(show ItV Tryz.prog (RA1 (α:=Int)) (fun σ cons s=>f69 x1 x0 σ cons s) ((.func (.func 69) #[] #[p2,p1])) g2.m w2 from ⟨69,#[],#[p2,p1],rfl,en69,fun g' w' hch σ cons s s' h=>wk69  (q2.ch hch) (q1.ch hch) h⟩)⟩
def f47 (x0:Int) (x1:Int) (x2:List Int):Option (Bool):=
 (f42 x2 ((fun a0=>f70 a0 x0 x1))).bind fun y4=>
 some ((!y4))
theorem en47:Enters Tryz.prog 47:=enters_of Tryz.func47 (by kernel_rfl) rfl
theorem wk47 {gI:Gh} {wI:World} {x0:Int} {x1:Int} {x2:List Int} {up2:Value} (rp2:RV gI.m wI x2 up2) {r:Bool} (h:f47 x0 x1 x2=some r):Fn Tryz.prog 47 #[.int .i64 (x0),.int .i64 (x1),up2] gI wI (fun _ _ v=>v=.bool (r)):=by
 unfold f47 at h
 refine fn_of_E Tryz.func47 rfl (Nat.le_of_ble_eq_true rfl) fun g0 hm hfr=>?_
 have rp2:RV g0.m wI x2 up2:=hm ▸ rp2
 show E _ 11 none _ _ _ _ _
 refine E_seq (E_region (EL_do .plain rfl (D_box (g:=g0) rfl (RV_int.2 rfl) fun g1 w1 p1 hs q1=>?_)))
 have hfr:=hfr.ext hs
 have rp2:=rp2.ext hs
 refine EL_do .plain rfl (D_box (g:=g1) rfl (RV_int.2 rfl) fun g2 w2 p2 hs q2=>?_)
 have hfr:=hfr.ext hs
 have rp2:=rp2.ext hs
 have q1:=q1.ext hs
 refine EL_at (.bool false) rfl rfl ?_
 refine EL_nil (thn_n (E_seq (E_region (EL_mw up2 rfl rfl ?_))))
 refine EL_p ((.func (.func 70) #[] #[p1,p2])) (P_makeFunc (capf_0_2 (show ev _ _=p1 from rfl) (show ev _ _=p2 from rfl))) rfl ?_
 obtain ⟨y4,o0,h⟩:=bsome h
 refine EL_do .plain rfl (D_call (g:=g2) (vs:=[up2,(.func (.func 70) #[] #[p1,p2])]) en42 (.cons rfl (.cons rfl .nil)) (wk42 rp2 ⟨70,#[],#[p1,p2],rfl,en70,fun g' w' hch a0 b0 r hu0 hr=>by obtain rfl:=RV_int.1 hu0; exact Fn.mono (wk70  (q1.ch hch) (q2.ch hch) hr) fun _ _ _ h=>RV_bool.2 h⟩ o0) fun g3 w3_ v3 hs hr=>?_)
 have hfr:=hfr.ext hs
 subst hr
 refine EL_p (.bool (!y4)) (P_not rfl) rfl ?_
 refine EL_at (.bool (!y4)) rfl rfl ?_
 refine EL_nil (thn_n (E_ret ?_))
 obtain rfl:=sinj h
 exact end1 rfl rfl (show _=.bool (!y4) from rfl) ⟨_,hfr,rfl⟩
def f55 (x0:List BoxShuttle) (x1:BoxShuttle→Option Bool):Option (Bool):=
 (f72 x0 x1).bind fun y2=>
 some ((decide (y2 ≥ (0:Int))))
theorem en55:Enters Tryz.prog 55:=enters_of Tryz.func55 (by kernel_rfl) rfl
theorem wk55 {gI:Gh} {wI:World} {x0:List BoxShuttle} {x1:BoxShuttle→Option Bool} {up0:Value} (rp0:RV gI.m wI x0 up0) {up1:Value} (rp1:FnV1 Tryz.prog x1 up1 gI wI) {r:Bool} (h:f55 x0 x1=some r):Fn Tryz.prog 55 #[up0,up1] gI wI (fun _ _ v=>v=.bool (r)):=by
 unfold f55 at h
 refine fn_of_E Tryz.func55 rfl (Nat.le_of_ble_eq_true rfl) fun g0 hm hfr=>?_
 have rp0:RV g0.m wI x0 up0:=hm ▸ rp0
 obtain ⟨ff1,fa1,fc1,rfl,fen1,fcl1⟩:=rp1
 show E _ 9 none _ _ _ _ _
 refine E_seq (E_region (EL_at (.bool false) rfl rfl ?_))
 refine EL_nil (thn_n (E_seq (E_region (EL_mw up0 rfl rfl ?_))))
 refine EL_mw ((.func (.func ff1) fa1 fc1)) rfl rfl ?_
 obtain ⟨y2,hy2,h⟩:=bsome h
 refine EL_do .plain rfl (D_call (g:=g0) (vs:=[up0,(.func (.func ff1) fa1 fc1)]) en72 (.cons rfl (.cons rfl .nil)) (wk72 rp0 (FnV1.ch ⟨_,_,_,rfl,fen1,fcl1⟩ hfr.ch) hy2) fun g1 w1_ v1 hs hr=>?_)
 have hfr:=hfr.ext hs
 subst hr
 refine EL_in (.bool ((decide (y2 ≥ (0:Int))))) rfl rfl rfl rfl ?_
 refine EL_at (.bool ((decide (y2 ≥ (0:Int))))) rfl rfl ?_
 refine EL_nil (thn_n (E_ret ?_))
 obtain rfl:=sinj h
 exact end1 rfl rfl (show _=.bool ((decide (y2 ≥ (0:Int)))) from rfl) ⟨_,hfr,rfl⟩
def f56 (x0:Int) (x1:Int) (x2:List Int):Option (Bool):=
 (f42 x2 ((fun a0=>f73 a0 x0 x1))).bind fun y4=>
 some ((!y4))
theorem en56:Enters Tryz.prog 56:=enters_of Tryz.func56 (by kernel_rfl) rfl
theorem wk56 {gI:Gh} {wI:World} {x0:Int} {x1:Int} {x2:List Int} {up2:Value} (rp2:RV gI.m wI x2 up2) {r:Bool} (h:f56 x0 x1 x2=some r):Fn Tryz.prog 56 #[.int .i64 (x0),.int .i64 (x1),up2] gI wI (fun _ _ v=>v=.bool (r)):=by
 unfold f56 at h
 refine fn_of_E Tryz.func56 rfl (Nat.le_of_ble_eq_true rfl) fun g0 hm hfr=>?_
 have rp2:RV g0.m wI x2 up2:=hm ▸ rp2
 show E _ 11 none _ _ _ _ _
 refine E_seq (E_region (EL_do .plain rfl (D_box (g:=g0) rfl (RV_int.2 rfl) fun g1 w1 p1 hs q1=>?_)))
 have hfr:=hfr.ext hs
 have rp2:=rp2.ext hs
 refine EL_do .plain rfl (D_box (g:=g1) rfl (RV_int.2 rfl) fun g2 w2 p2 hs q2=>?_)
 have hfr:=hfr.ext hs
 have rp2:=rp2.ext hs
 have q1:=q1.ext hs
 refine EL_at (.bool false) rfl rfl ?_
 refine EL_nil (thn_n (E_seq (E_region (EL_mw up2 rfl rfl ?_))))
 refine EL_p ((.func (.func 73) #[] #[p1,p2])) (P_makeFunc (capf_0_2 (show ev _ _=p1 from rfl) (show ev _ _=p2 from rfl))) rfl ?_
 obtain ⟨y4,o0,h⟩:=bsome h
 refine EL_do .plain rfl (D_call (g:=g2) (vs:=[up2,(.func (.func 73) #[] #[p1,p2])]) en42 (.cons rfl (.cons rfl .nil)) (wk42 rp2 ⟨73,#[],#[p1,p2],rfl,en73,fun g' w' hch a0 b0 r hu0 hr=>by obtain rfl:=RV_int.1 hu0; exact Fn.mono (wk73  (q1.ch hch) (q2.ch hch) hr) fun _ _ _ h=>RV_bool.2 h⟩ o0) fun g3 w3_ v3 hs hr=>?_)
 have hfr:=hfr.ext hs
 subst hr
 refine EL_p (.bool (!y4)) (P_not rfl) rfl ?_
 refine EL_at (.bool (!y4)) rfl rfl ?_
 refine EL_nil (thn_n (E_ret ?_))
 obtain rfl:=sinj h
 exact end1 rfl rfl (show _=.bool (!y4) from rfl) ⟨_,hfr,rfl⟩
def f58 (x0:BoxPoint) (x1:List (List Int)) (x2:BoxStep):Option (BoxPoint × Bool):=
 jn (σ:=BoxPoint × BoxPoint) (fun (dB,aD)=>
  some (dB,false)
  ) fun bD=>
 (idx x1 (x0).group).bind fun i6=>
 lp (σ:=BoxPoint × BoxPoint × Int) (fun cD (u3,i7,o0)=>
  bif (decide (o0 < ((i6).length : Int))) then
   jn (σ:=BoxPoint × BoxPoint) (fun (l9,n9)=>
    cD (l9,n9,(w64 (o0 + (1:Int))))
    ) fun eD=>
   (idx i6 o0).bind fun k8=>
   Option.bind (α:=Bool) (
    bif (k8 == (x2).colour) then
     (shr64 (u3).done o0).bind fun y180=>
     some (((bit64 .and y180 (1:Int)) == (0:Int)))
    else
     some (false)
    ) fun m7=>
   bif m7 then
    (shl64 (1:Int) o0).bind fun rA=>
    (f76 ({ { u3 with done:=(bit64 .or (u3).done rA) } with race:=(x2).next }) x1).bind fun gD=>
    some (gD,true)
   else
    eD (u3,i7)
  else
   bD (u3,i7)
  ) big (x0,(⟨0,0,⟨(⟨List.toArray [(⟨List.toArray [0,0,0,0],rfl⟩:Vector Int 4),(⟨List.toArray [0,0,0,0],rfl⟩:Vector Int 4)],rfl⟩:Vector (Vector Int 4) 2),⟨0,0⟩⟩⟩:BoxPoint),(0:Int))
theorem en58:Enters Tryz.prog 58:=enters_of Tryz.func58 (by kernel_rfl) rfl
theorem wk58 {gI:Gh} {wI:World} {x0:BoxPoint} {x1:List (List Int)} {x2:BoxStep} {up0:Value} (rp0:RV gI.m wI x0 up0) {up1:Value} (rp1:RV gI.m wI x1 up1) {up2:Value} (rp2:RV gI.m wI x2 up2) {r:BoxPoint × Bool} (h:f58 x0 x1 x2=some r):Fn Tryz.prog 58 #[up0,up1,up2] gI wI (fun m w v=>∃ y0 y1,v=.tuple #[y0,y1]∧RV m w (r.1) y0∧y1=.bool (r.2)):=by
 unfold f58 at h
 refine fn_of_E Tryz.func58 rfl (Nat.le_of_ble_eq_true rfl) fun g0 hm hfr=>?_
 have rp0:RV g0.m wI x0 up0:=hm ▸ rp0
 have rp1:RV g0.m wI x1 up1:=hm ▸ rp1
 have rp2:RV g0.m wI x2 up2:=hm ▸ rp2
 show E _ 47 none _ _ _ _ _
 refine E_seq (E_region (EL_do .plain rfl (D_boxO (g:=g0) 2003 rfl rp0 fun g1 w1 p1 hs b1=>?_)))
 have hfr:=hfr.stp hs
 have rp1:=rp1.stp hs
 have rp2:=rp2.stp hs
 refine EL_do .plain rfl (D_box (g:=g1) rfl rp2 fun g2 w2 p2 hs q2=>?_)
 have hfr:=hfr.ext hs
 have rp1:=rp1.ext hs
 have b1:=b1.ext hs
 refine EL_do .plain rfl (D_allocOc (g:=g2) 2006 (⟨0,0,⟨(⟨List.toArray [(⟨List.toArray [0,0,0,0],rfl⟩:Vector Int 4),(⟨List.toArray [0,0,0,0],rfl⟩:Vector Int 4)],rfl⟩:Vector (Vector Int 4) 2),⟨0,0⟩⟩⟩:BoxPoint) Tryz.zeroValue98 (fun m w=>⟨_,(rep_two rep_int (rep_two rep_int (rep_two (rep_vec (flat_chunk (rep_vec (flat_chunk rep_int (flat_chunk rep_int (flat_chunk rep_int (flat_chunk rep_int flat_nil)))) rfl) (flat_chunk (rep_vec (flat_chunk rep_int (flat_chunk rep_int (flat_chunk rep_int (flat_chunk rep_int flat_nil)))) rfl) flat_nil)) rfl) (rep_two rep_int rep_int)))),rfl⟩) fun g3 w3 p3 hs b3 cb=>?_)
 have hfr:=hfr.stp hs
 have rp1:=rp1.stp hs
 have b1:=b1.stp hs rfl
 have q2:=q2.stp hs
 clear cb
 refine EL_at (.bool false) rfl rfl ?_
 refine EL_nil (thn_n (E_joinC h (fun (s:BoxPoint × BoxPoint) e w=>∃ (g:Gh) ,Fr gI wI g w∧e 3=p1∧OB 2003 g w 98 (s.1:BoxPoint) p1∧e 6=p3∧OB 2006 g w 98 (s.2:BoxPoint) p3) (fun X109 bD oE h=>?_) ?_))
 ·refine E_seq (E_region (EL_mw up1 rfl rfl ?_))
  refine EL_p (fPtr p1 0) (P_fieldAddr at_98_0 rfl (OB.ptr b1)) rfl ?_
  refine EL_do .plain rfl (D_loadF (g:=g3) part_BoxPoint_0.1 Tryz.isAgg3 Tryz.sizeOf3 rfl b1 fun aH eF=>?_)
  obtain rfl:=RV_int.1 eF
  obtain ⟨i6,tB,h⟩:=bsome h
  refine EL_p (ePtr up1 (x0).group 1) (P_indexAddr (α:=List Int) Tryz.underlying87 Tryz.sizeOf27 rfl rp1 rfl tB) rfl ?_
  have rF:=PT_idx rp1 tB
  refine EL_do .plain rfl (D_load (g:=g3) Tryz.isAgg27 Tryz.sizeOf27 rfl rF fun r8 iD=>?_)
  refine EL_p (.int .i64 ((i6).length:Int)) (P_len Tryz.underlying27 rfl iD) rfl ?_
  refine EL_mw (.int .i64 (0)) rfl rfl ?_
  refine EL_nil (thn_n (E_block ?_))
  refine E_lp h (fun (s:BoxPoint × BoxPoint × Int) e w=>∃ (g:Gh) ,Fr gI wI g w∧e 1=up1∧RV g.m w (x1:List (List Int)) up1∧e 3=p1∧OB 2003 g w 98 (s.1:BoxPoint) p1∧e 5=p2∧PT g.m w (x2:BoxStep) p2∧e 6=p3∧OB 2006 g w 98 (s.2.1:BoxPoint) p3∧e 14=r8∧RV g.m w (i6:List Int) r8∧e 15=.int .i64 (((i6).length:Int))∧e 16=.int .i64 (s.2.2)) ⟨g3,hfr,rfl,rp1,rfl,b1,rfl,q2,rfl,b3,rfl,iD,rfl,rfl⟩ (fun X115 cD rE=>?_)
  rintro ⟨u3,i7,o0⟩ mG cH ⟨a9,hfr,iB,lB,v8,l8,u9,x8,y9,z9,d9,n8,k9,g8⟩ h
  refine E_seq (E_region (EL_in (.bool ((decide (o0 < ((i6).length:Int))))) g8 k9 rfl rfl ?_))
  refine EL_nil (thn_n (E_seq ?_))
  rcases csome h with ⟨yA,h⟩ | ⟨yA,h⟩
  ·refine E_ct yA rfl ?_
   refine E_skip (thn_n (E_joinC h (fun (s:BoxPoint × BoxPoint) e w=>∃ (g:Gh) ,Fr gI wI g w∧e 1=up1∧RV g.m w (x1:List (List Int)) up1∧e 3=p1∧OB 2003 g w 98 (s.1:BoxPoint) p1∧e 5=p2∧PT g.m w (x2:BoxStep) p2∧e 6=p3∧OB 2006 g w 98 (s.2:BoxPoint) p3∧e 14=r8∧RV g.m w (i6:List Int) r8∧e 15=.int .i64 (((i6).length:Int))∧e 16=.int .i64 (o0)) (fun X165 eD uE h=>?_) ?_))
   ·refine E_block ?_
    refine E_seq (E_region (EL_mv g8 rfl ?_))
    obtain ⟨k8,vB,h⟩:=bsome h
    refine EL_p (ePtr r8 o0 1) (P_indexAddr (α:=Int) Tryz.underlying27 Tryz.sizeOf3 d9 n8 g8 vB) rfl ?_
    have sF:=PT_idx n8 vB
    refine EL_do .plain rfl (D_load (g:=a9) Tryz.isAgg3 Tryz.sizeOf3 rfl sF fun dH tF=>?_)
    obtain rfl:=RV_int.1 tF
    refine EL_at (.int .i64 (o0)) rfl rfl ?_
    refine EL_at (.int .i64 (k8)) rfl rfl ?_
    refine EL_nil (thn_n ?_)
    obtain ⟨m7,hx,h⟩:=bsome h
    refine E_join (fun e w=>∃ (g:Gh) ,Fr gI wI g w∧e 1=up1∧RV g.m w (x1:List (List Int)) up1∧e 3=p1∧OB 2003 g w 98 (u3:BoxPoint) p1∧e 5=p2∧PT g.m w (x2:BoxStep) p2∧e 6=p3∧OB 2006 g w 98 (i7:BoxPoint) p3∧e 8=.int .i64 (o0)∧e 14=r8∧RV g.m w (i6:List Int) r8∧e 15=.int .i64 (((i6).length:Int))∧e 16=.int .i64 (o0)∧e 32=.bool (m7)) (fun Q' hQ=>?_) (fun sG gH hR=>?_)
    ·replace h := hx
     clear hx
     refine E_region (EL_mw (.int .i64 (k8)) rfl rfl ?_)
     refine EL_p (fPtr p2 10) (P_fieldAddr at_141_1 u9 (PT.ptr x8)) rfl ?_
     have uF:=PT_field (part_BoxStep_1).1 x8
     refine EL_do .plain rfl (D_load (g:=a9) Tryz.isAgg3 Tryz.sizeOf3 rfl uF fun iH vF=>?_)
     obtain rfl:=RV_int.1 vF
     refine EL_in (.bool ((k8 == (x2).colour))) rfl rfl rfl rfl ?_
     refine EL_mw (.bool ((k8 == (x2).colour))) rfl rfl ?_
     rcases csome h with ⟨t5,h⟩ | ⟨t5,h⟩
     ·refine EL_y (fPtr p1 1) (P_fieldAddr at_98_1 v8 (OB.ptr l8)) rfl rfl t5 rfl ?_
      refine EL_do (.yes2 rfl rfl t5) rfl (D_loadF (g:=a9) part_BoxPoint_1.1 Tryz.isAgg3 Tryz.sizeOf3 rfl l8 fun jH xF=>?_)
      obtain rfl:=RV_int.1 xF
      refine EL_y (.int .i64 (o0)) (P_move rfl) rfl rfl t5 rfl ?_
      obtain ⟨y180,vE,h⟩:=bsome h
      refine EL_y (.int .i64 (y180)) (P_int rfl rfl (congrArg (Option.map (Value.int .i64)) vE)) rfl rfl t5 rfl ?_
      refine EL_y (.int .i64 ((bit64 .and y180 (1:Int)))) (P_int rfl rfl rfl) rfl rfl t5 rfl ?_
      refine EL_y (.bool (((bit64 .and y180 (1:Int)) == (0:Int)))) (P_int rfl rfl rfl) rfl rfl t5 rfl ?_
      refine EL_p (.bool (((bit64 .and y180 (1:Int)) == (0:Int)))) (P_pick (b:=(k8 == (x2).colour)) rfl (pick_t t5 rfl)) rfl ?_
      refine EL_nil ?_
      obtain rfl:=sinj h
      exact hQ _ _ ⟨a9,hfr,iB,lB,v8,l8,u9,x8,y9,z9,rfl,d9,n8,k9,g8,rfl⟩
     ·refine EL_s rfl rfl t5 rfl rfl ?_
      iterate 5 refine EL_s rfl rfl t5 rfl rfl ?_
      refine EL_p (.bool false) (P_pick (b:=(k8 == (x2).colour)) rfl (pick_f t5 rfl)) rfl ?_
      refine EL_nil ?_
      obtain rfl:=sinj h
      exact hQ _ _ ⟨a9,hfr,iB,lB,v8,l8,u9,x8,y9,z9,rfl,d9,n8,k9,g8,rfl⟩
    ·clear hx
     obtain ⟨jD,hfr,mB,x5,m8,x6,nB,y6,bA,l5,lD,yB,zB,cC,mC,iA⟩:=hR
     rcases csome h with ⟨aB,h⟩ | ⟨aB,h⟩
     ·refine E_cond_true (Eq.trans (show ev _ _ = .bool (m7) from iA) (congrArg Value.bool aB)) ?_
      refine E_seq (L_loadO (x:=.tmp 33) part_BoxPoint_1.1 Tryz.isAgg3 Tryz.sizeOf3 x6 fun kH yF xE=>?_)
      obtain rfl:=RV_int.1 yF
      obtain ⟨rA,yE,h⟩:=bsome h
      refine E_drawL (g:=jD) (n:=6) [] [0,1,2,3,4,5] rfl mixed (by kernel_rfl) trivial ?_
      refine L_p (fPtr p1 1) rfl rfl (P_fieldAddr at_98_1 m8 (OB.ptr x6)) ?_
      refine L_ld (c:=.int .i64 ((u3).done)) rfl rfl .plain (fun _ _ h=>⟨h.ch,fun b hb _=>h.below.block b hb⟩) xE rfl ?_
      refine L_p (.int .i64 (o0)) rfl rfl (P_move lD) ?_
      refine L_p (.int .i64 (rA)) rfl rfl (P_int rfl rfl (congrArg (Option.map (Value.int .i64)) yE)) ?_
      refine L_p (.int .i64 ((bit64 .or (u3).done rA))) rfl rfl (P_int rfl rfl rfl) ?_
      refine L_p (fPtr p1 1) rfl rfl (P_fieldAddr at_98_1 m8 (OB.ptr x6)) ?_
      refine L_nl fun zF lH hs=>?_
      have hfr:=hfr.ext hs
      have x5:=x5.ext hs
      have x6:=x6.ext hs
      have y6:=y6.ext hs
      have l5:=l5.ext hs
      clear hs
      refine EL_do .plain rfl (D_storeFc (g:=zF) part_BoxPoint_1 Tryz.sizeOf3 rfl x6 rfl (RV_int.2 rfl) fun nD mH hs b203 rst hos=>?_)
      clear rst hos
      have hfr:=hfr.stp hs
      have x5:=x5.stp hs
      have y6:=y6.stp hs
      have l5:=l5.stp hs rfl
      refine EL_nil (thn_n (E_seq (E_region (EL_p (fPtr p2 0) (P_fieldAddr at_141_0 nB (PT.ptr y6)) rfl ?_))))
      have aG:=PT_field (part_BoxStep_0).1 y6
      refine EL_do .plain rfl (D_load (g:=nD) Tryz.isAgg94 Tryz.sizeOf94 rfl aG fun nH bG=>?_)
      refine EL_p (fPtr p1 2) (P_fieldAddr at_98_2 m8 (OB.ptr b203)) rfl ?_
      refine EL_do .plain rfl (D_storeFc (g:=nD) part_BoxPoint_2 Tryz.sizeOf94 rfl b203 rfl bG fun oD oH hs b207 rst hos=>?_)
      clear rst hos
      have hfr:=hfr.stp hs
      have x5:=x5.stp hs
      have l5:=l5.stp hs rfl
      refine EL_nil (thn_n (E_seq (E_region (EL_do .plain rfl (D_loadO (g:=oD) Tryz.isAgg98 Tryz.sizeOf98 m8 b207 fun cG eG=>?_)))))
      refine EL_mv mB rfl ?_
      obtain ⟨gD,zE,h⟩:=bsome h
      refine EL_do .plain rfl (D_call (g:=oD) (vs:=[cG,up1]) en76 (.cons rfl (.cons rfl .nil)) (wk76 eG x5 zE) fun gG xG hG hs hr=>?_)
      have hfr:=hfr.ext hs
      have l5:=l5.ext hs
      have iG:=hr
      refine EL_do .plain rfl (D_storeOc (g:=gG) (v:=hG) Tryz.sizeOf98 bA l5 rfl iG fun pH qH hs b211 cb=>?_)
      clear cb
      have hfr:=hfr.stp hs
      refine EL_at (.bool true) rfl rfl ?_
      refine EL_nil (thn_n (E_ret (blk_r ?_)))
      refine thn_r ?_
      refine thn_r ?_
      refine blk_r ?_
      refine thn_r ?_
      obtain rfl:=sinj h
      obtain ⟨ad212,cv212,hp212,cF,cr212⟩:=ob_read Tryz.isAgg98 Tryz.sizeOf98 b211
      exact endm_ct rfl rfl ((show _=p3 from bA).trans hp212) cF (show _=.bool true from rfl) ⟨_,hfr,_,_,rfl,cr212,rfl⟩
     ·refine E_cond_false (Eq.trans (show ev _ _ = .bool (m7) from iA) (congrArg Value.bool aB)) ?_
      exact E_skip (blk_n (thn_n (uE (u3,i7) _ _ ⟨jD,hfr,mB,x5,m8,x6,nB,y6,bA,l5,yB,zB,cC,mC⟩ h)))
   ·rintro ⟨l9, n9⟩ yG sH ⟨jG, hfr, sD, tD, uD, vD, xD, yD, zD, aE, qC, rC, uC, vC⟩ h
    refine E_region (EL_in (.int .i64 ((w64 (o0 + (1:Int))))) vC rfl rfl rfl ?_)
    refine EL_mw (.int .i64 ((w64 (o0 + (1:Int))))) rfl rfl ?_
    exact EL_nil (thn_n (rE (l9,n9,(w64 (o0 + (1:Int)))) _ _ ⟨jG,hfr,sD,tD,uD,vD,xD,yD,zD,aE,qC,rC,uC,rfl⟩ h))
  ·refine E_cf yA rfl ?_
   refine E_exit ?_
   refine thn_e ?_
   refine thn_e ?_
   refine blk_hit ?_
   exact thn_n (oE (u3,i7) _ _ ⟨a9,hfr,v8,l8,y9,z9⟩ h)
 ·rintro ⟨dB, aD⟩ zG tH ⟨bE, hfr, iE, lE, oB, mE⟩ h
  refine E_seq (E_region (EL_do .plain rfl (D_loadO (g:=bE) Tryz.isAgg98 Tryz.sizeOf98 iE lE fun kG lG=>?_)))
  refine EL_do .plain rfl (D_storeOc (g:=bE) (v:=kG) Tryz.sizeOf98 oB mE rfl lG fun uH xH hs b216 cb=>?_)
  clear cb
  have hfr:=hfr.stp hs
  refine EL_at (.bool false) rfl rfl ?_
  refine EL_nil (thn_n (E_ret ?_))
  obtain rfl:=sinj h
  obtain ⟨ad217,cv217,hp217,dF,cr217⟩:=ob_read Tryz.isAgg98 Tryz.sizeOf98 b216
  exact endm_ct rfl rfl ((show _=p3 from oB).trans hp217) dF (show _=.bool false from rfl) ⟨_,hfr,_,_,rfl,cr217,rfl⟩
def f75 (x0:BoxRace) (x1:BoxPick):Option (BoxRace × Int × Int):=
 (idx ((x0).boxes).toList (0:Int)).bind fun y7=>
 (idx (y7).toList (x1).Left).bind fun y9=>
 (idx ((x0).boxes).toList (1:Int)).bind fun rA=>
 (idx (rA).toList (x1).Right).bind fun l5=>
 jn (σ:=BoxRace) (fun bA=>
  (f82 (((x0).at_).Left) ((x1).Left)).bind fun i6=>
  (f82 (((x0).at_).Right) ((x1).Right)).bind fun x6=>
  (idx ((x0).boxes).toList (0:Int)).bind fun yA=>
  (idx (yA).toList (x1).Left).bind fun iD=>
  (idx (({ x0 with boxes:=(vmod ((x0).boxes) ((0:Int)) (fun b=>(vset b ((x1).Left) l5))) }).boxes).toList (1:Int)).bind fun aB=>
  (idx (aB).toList (x1).Right).bind fun mB=>
  some ({ { { x0 with boxes:=(vmod ((x0).boxes) ((0:Int)) (fun b=>(vset b ((x1).Left) l5))) } with boxes:=(vmod (({ x0 with boxes:=(vmod ((x0).boxes) ((0:Int)) (fun b=>(vset b ((x1).Left) l5))) }).boxes) ((1:Int)) (fun b=>(vset b ((x1).Right) y9))) } with at_:=x1 },(w64 (y9 + l5)),(w64 (i6 + x6)))
  ) fun dB=>
 bif ((y9 == (0 : Int)) == (l5 == (0 : Int))) then
  some (x0,(0:Int),(0:Int))
 else
  dB ((⟨(⟨List.toArray [(⟨List.toArray [0,0,0,0],rfl⟩:Vector Int 4),(⟨List.toArray [0,0,0,0],rfl⟩:Vector Int 4)],rfl⟩:Vector (Vector Int 4) 2),⟨0,0⟩⟩:BoxRace))
theorem en75:Enters Tryz.prog 75:=enters_of Tryz.func75 (by kernel_rfl) rfl
theorem wk75 {gI:Gh} {wI:World} {x0:BoxRace} {x1:BoxPick} {up0:Value} (rp0:RV gI.m wI x0 up0) {up1:Value} (rp1:RV gI.m wI x1 up1) {r:BoxRace × Int × Int} (h:f75 x0 x1=some r):Fn Tryz.prog 75 #[up0,up1] gI wI (fun m w v=>∃ y0 y1 y2,v=.tuple #[y0,y1,y2]∧RV m w (r.1) y0∧y1=.int .i64 (r.2.1)∧y2=.int .i64 (r.2.2)):=by
 unfold f75 at h
 refine fn_of_E Tryz.func75 rfl (Nat.le_of_ble_eq_true rfl) fun g0 hm hfr=>?_
 have rp0:RV g0.m wI x0 up0:=hm ▸ rp0
 have rp1:RV g0.m wI x1 up1:=hm ▸ rp1
 show E _ 59 none _ _ _ _ _
 refine E_seq (E_region (EL_do .plain rfl (D_boxO (g:=g0) 2002 rfl rp0 fun g1 w1 p1 hs b1=>?_)))
 have hfr:=hfr.stp hs
 have rp0:=rp0.stp hs
 have rp1:=rp1.stp hs
 refine EL_do .plain rfl (D_box (g:=g1) rfl rp1 fun g2 w2 p2 hs q2=>?_)
 have hfr:=hfr.ext hs
 have rp0:=rp0.ext hs
 have rp1:=rp1.ext hs
 have b1:=b1.ext hs
 refine EL_do .plain rfl (D_allocOc (g:=g2) 2004 (⟨(⟨List.toArray [(⟨List.toArray [0,0,0,0],rfl⟩:Vector Int 4),(⟨List.toArray [0,0,0,0],rfl⟩:Vector Int 4)],rfl⟩:Vector (Vector Int 4) 2),⟨0,0⟩⟩:BoxRace) Tryz.zeroValue94 (fun m w=>⟨_,(rep_two (rep_vec (flat_chunk (rep_vec (flat_chunk rep_int (flat_chunk rep_int (flat_chunk rep_int (flat_chunk rep_int flat_nil)))) rfl) (flat_chunk (rep_vec (flat_chunk rep_int (flat_chunk rep_int (flat_chunk rep_int (flat_chunk rep_int flat_nil)))) rfl) flat_nil)) rfl) (rep_two rep_int rep_int)),rfl⟩) fun g3 w3 p3 hs b3 cb=>?_)
 have hfr:=hfr.stp hs
 have rp0:=rp0.stp hs
 have rp1:=rp1.stp hs
 have b1:=b1.stp hs rfl
 have q2:=q2.stp hs
 clear cb
 refine EL_at (.int .i64 (0)) rfl rfl ?_
 refine EL_at (.int .i64 (0)) rfl rfl ?_
 refine EL_nil (thn_n (E_seq ?_))
 have q4:=PT_field (part_BoxPick_0).1 q2
 refine L_load (x:=.tmp 9) Tryz.isAgg3 Tryz.sizeOf3 q4 fun v5 r5 jD=>?_
 obtain rfl:=RV_int.1 r5
 obtain ⟨y7,iB,h⟩:=bsome h
 obtain ⟨hi8,he8⟩:=vat_idx iB
 obtain ⟨y9,lB,h⟩:=bsome h
 obtain ⟨hi10,he10⟩:=vat_idx lB
 refine L_loadOD (off:=((0 + ((0:Int):Int).toNat * 4) + ((x1).Left:Int).toNat * 1)) (x:=.tmp 13) (SubS.at_ (SubS.comp part_BoxRace_0 (SubS.dynC hi8 (SubS.dyn hi10) rfl) rfl) (by first | rfl | exact Nat.add_assoc _ _ _ | simp only [Nat.add_assoc,Nat.zero_add] | omega)).1 ((congrArg (vat _ hi10) he8).trans he10) Tryz.isAgg3 Tryz.sizeOf3 b1 fun xE lD nB=>?_
 obtain rfl:=RV_int.1 lD
 have n8:=PT_field (part_BoxPick_1).1 q2
 refine L_load (x:=.tmp 15) Tryz.isAgg3 Tryz.sizeOf3 n8 fun yE nD oB=>?_
 obtain rfl:=RV_int.1 nD
 obtain ⟨rA,r8,h⟩:=bsome h
 obtain ⟨hi16,he16⟩:=vat_idx r8
 obtain ⟨l5,v8,h⟩:=bsome h
 obtain ⟨hi18,he18⟩:=vat_idx v8
 refine L_loadOD (off:=((0 + ((1:Int):Int).toNat * 4) + ((x1).Right:Int).toNat * 1)) (x:=.tmp 19) (SubS.at_ (SubS.comp part_BoxRace_0 (SubS.dynC hi16 (SubS.dyn hi18) rfl) rfl) (by first | rfl | exact Nat.add_assoc _ _ _ | simp only [Nat.add_assoc,Nat.zero_add] | omega)).1 ((congrArg (vat _ hi18) he16).trans he18) Tryz.isAgg3 Tryz.sizeOf3 b1 fun zE oD tB=>?_
 obtain rfl:=RV_int.1 oD
 refine E_drawL (g:=g3) (n:=14) [] [0,1,2,3,4,5,6,7,8,9,10,11,12,13] rfl mixed (by kernel_rfl) trivial ?_
 refine L_p (fPtr p2 0) rfl rfl (P_fieldAddr at_92_0 rfl (PT.ptr q2)) ?_
 refine L_ld (c:=.int .i64 ((x1).Left)) rfl rfl .plain (fun _ _ h=>h.ch) jD rfl ?_
 refine L_p (fPtr p1 0) rfl rfl (P_fieldAddr at_94_0 rfl (OB.ptr b1)) ?_
 refine L_p (fPtr p1 (0 + ((0:Int):Int).toNat * 4)) rfl rfl (P_indexAddrA2 (α:=Vector Int 4) (o1:=0) rfl Tryz.underlying90 Tryz.sizeOf89 rfl (OB.ptr b1) rfl iB) ?_
 refine L_p (fPtr p1 ((0 + ((0:Int):Int).toNat * 4) + ((x1).Left:Int).toNat * 1)) rfl rfl (P_indexAddrA2 (α:=Int) (o1:=(0 + ((0:Int):Int).toNat * 4)) rfl Tryz.underlying89 Tryz.sizeOf3 rfl (OB.ptr b1) rfl lB) ?_
 refine L_ld (c:=.int .i64 (y9)) rfl rfl .plain (fun _ _ h=>⟨h.ch,fun b hb _=>h.below.block b hb⟩) nB rfl ?_
 refine L_p (fPtr p2 1) rfl rfl (P_fieldAddr at_92_1 rfl (PT.ptr q2)) ?_
 refine L_ld (c:=.int .i64 ((x1).Right)) rfl rfl .plain (fun _ _ h=>h.ch) oB rfl ?_
 refine L_p (fPtr p1 0) rfl rfl (P_fieldAddr at_94_0 rfl (OB.ptr b1)) ?_
 refine L_p (fPtr p1 (0 + ((1:Int):Int).toNat * 4)) rfl rfl (P_indexAddrA2 (α:=Vector Int 4) (o1:=0) rfl Tryz.underlying90 Tryz.sizeOf89 rfl (OB.ptr b1) rfl r8) ?_
 refine L_p (fPtr p1 ((0 + ((1:Int):Int).toNat * 4) + ((x1).Right:Int).toNat * 1)) rfl rfl (P_indexAddrA2 (α:=Int) (o1:=(0 + ((1:Int):Int).toNat * 4)) rfl Tryz.underlying89 Tryz.sizeOf3 rfl (OB.ptr b1) rfl v8) ?_
 refine L_ld (c:=.int .i64 (l5)) rfl rfl .plain (fun _ _ h=>⟨h.ch,fun b hb _=>h.below.block b hb⟩) tB rfl ?_
 refine L_p (.int .i64 (y9)) rfl rfl (P_assign rfl) ?_
 refine L_p (.int .i64 (l5)) rfl rfl (P_assign rfl) ?_
 refine L_nl fun x8 cF hs=>?_
 have hfr:=hfr.ext hs
 have rp0:=rp0.ext hs
 have rp1:=rp1.ext hs
 have b1:=b1.ext hs
 have q2:=q2.ext hs
 have b3:=b3.ext hs
 have q4:=q4.ext hs
 have n8:=n8.ext hs
 clear hs
 refine EL_nil (thn_n (E_joinC h (fun (s:BoxRace) e w=>∃ (g:Gh) ,Fr gI wI g w∧e 2=p1∧OB 2002 g w 94 (x0:BoxRace) p1∧e 3=p2∧PT g.m w (x1:BoxPick) p2∧e 4=p3∧OB 2004 g w 94 (s:BoxRace) p3∧e 7=.int .i64 (y9)∧e 8=.int .i64 (l5)) (fun X46 dB vB h=>?_) ?_))
 ·refine E_seq (E_region (EL_mw (.int .i64 (y9)) rfl rfl ?_))
  refine EL_in (.bool ((y9 == (0:Int)))) rfl rfl rfl rfl ?_
  refine EL_mw (.int .i64 (l5)) rfl rfl ?_
  refine EL_in (.bool ((l5 == (0:Int)))) rfl rfl rfl rfl ?_
  refine EL_p (.bool (((y9 == (0:Int)) == (l5 == (0:Int))))) (P_bool Tryz.underlying4 rfl rfl rfl) rfl ?_
  refine EL_nil (thn_n ?_)
  rcases csome h with ⟨m7,h⟩ | ⟨m7,h⟩
  ·refine E_ct m7 rfl ?_
   refine E_seq (E_region (EL_do .plain rfl (D_loadO (g:=x8) Tryz.isAgg94 Tryz.sizeOf94 rfl b1 fun sD tD=>?_)))
   refine EL_do .plain rfl (D_storeOc (g:=x8) (v:=sD) Tryz.sizeOf94 rfl b3 rfl tD fun dF eF hs b49 cb=>?_)
   clear cb
   have hfr:=hfr.stp hs
   refine EL_at (.int .i64 (0)) rfl rfl ?_
   refine EL_at (.int .i64 (0)) rfl rfl ?_
   refine EL_nil (thn_n (E_ret (thn_r ?_)))
   obtain rfl:=sinj h
   obtain ⟨ad50,cv50,hp50,yB,cr50⟩:=ob_read Tryz.isAgg94 Tryz.sizeOf94 b49
   exact endm_ctt rfl rfl ((show _=p3 from rfl).trans hp50) yB (show _=.int .i64 (0) from rfl) (show _=.int .i64 (0) from rfl) ⟨_,hfr,_,_,_,rfl,cr50,rfl,rfl⟩
  ·refine E_cf m7 rfl ?_
   exact E_skip (thn_n (vB ((⟨(⟨List.toArray [(⟨List.toArray [0,0,0,0],rfl⟩:Vector Int 4),(⟨List.toArray [0,0,0,0],rfl⟩:Vector Int 4)],rfl⟩:Vector (Vector Int 4) 2),⟨0,0⟩⟩:BoxRace)) _ _ ⟨x8,hfr,rfl,b1,rfl,q2,rfl,b3,rfl,rfl⟩ h))
 ·rintro bA iE rF ⟨uD, hfr, x5, o0, y6, u3, g8, t5, k8, l8⟩ h
  refine E_seq (L_loadO (x:=.tmp 28) (SubS.comp part_BoxRace_1 part_BoxPick_0 rfl).1 Tryz.isAgg3 Tryz.sizeOf3 o0 fun sF vD zB=>?_)
  obtain rfl:=RV_int.1 vD
  have i7:=PT_field (part_BoxPick_0).1 u3
  refine L_load (x:=.tmp 30) Tryz.isAgg3 Tryz.sizeOf3 i7 fun tF xD cC=>?_
  obtain rfl:=RV_int.1 xD
  obtain ⟨i6,mC,h⟩:=bsome h
  refine L_loadO (x:=.tmp 34) (SubS.comp part_BoxRace_1 part_BoxPick_1 rfl).1 Tryz.isAgg3 Tryz.sizeOf3 o0 fun uF yD qC=>?_
  obtain rfl:=RV_int.1 yD
  have q62:=PT_field (part_BoxPick_1).1 u3
  refine L_load (x:=.tmp 36) Tryz.isAgg3 Tryz.sizeOf3 q62 fun vF zD rC=>?_
  obtain rfl:=RV_int.1 zD
  obtain ⟨x6,uC,h⟩:=bsome h
  refine E_drawL (g:=uD) (n:=14) [(5,(fun v g w=>v=.int .i64 (i6))),(11,(fun v g w=>v=.int .i64 (x6)))] [0,1,2,3,4,5,6,7,8,9,10,11,12,13] rfl mixed (by kernel_rfl) (⟨fun _=>up_eq _,fun _=>up_eq _,trivial⟩) ?_
  refine L_p (fPtr p1 8) rfl rfl (P_fieldAddr at_94_1 x5 (OB.ptr o0)) ?_
  refine L_p (fPtr p1 8) rfl rfl (P_fieldAddr2 (o1:=8) rfl at_92_0 rfl (OB.ptr o0)) ?_
  refine L_ld (c:=.int .i64 (((x0).at_).Left)) rfl rfl .plain (fun _ _ h=>⟨h.ch,fun b hb _=>h.below.block b hb⟩) zB rfl ?_
  refine L_p (fPtr p2 0) rfl rfl (P_fieldAddr at_92_0 y6 (PT.ptr u3)) ?_
  refine L_ld (c:=.int .i64 ((x1).Left)) rfl rfl .plain (fun _ _ h=>h.ch) cC rfl ?_
  refine L_do (φ:=fun v g w=>v=.int .i64 (i6)) rfl rfl .plain (fun g w hd=>D_call (g:=g) (vs:=[.int .i64 (((x0).at_).Left),.int .i64 ((x1).Left)]) en82 (.cons rfl (.cons rfl .nil)) (wk82  mC) fun g' w' v hs hr=>⟨g',hs,hr⟩) (fun xF hv=>?_)
  obtain ⟨_,_,_,rfl⟩:=hv
  refine L_p (fPtr p1 8) rfl rfl (P_fieldAddr at_94_1 x5 (OB.ptr o0)) ?_
  refine L_p (fPtr p1 9) rfl rfl (P_fieldAddr2 (o1:=8) rfl at_92_1 rfl (OB.ptr o0)) ?_
  refine L_ld (c:=.int .i64 (((x0).at_).Right)) rfl rfl .plain (fun _ _ h=>⟨h.ch,fun b hb _=>h.below.block b hb⟩) qC rfl ?_
  refine L_p (fPtr p2 1) rfl rfl (P_fieldAddr at_92_1 y6 (PT.ptr u3)) ?_
  refine L_ld (c:=.int .i64 ((x1).Right)) rfl rfl .plain (fun _ _ h=>h.ch) rC rfl ?_
  refine L_do (φ:=fun v g w=>v=.int .i64 (x6)) rfl rfl .plain (fun g w hd=>D_call (g:=g) (vs:=[.int .i64 (((x0).at_).Right),.int .i64 ((x1).Right)]) en82 (.cons rfl (.cons rfl .nil)) (wk82  uC) fun g' w' v hs hr=>⟨g',hs,hr⟩) (fun yF hv=>?_)
  obtain ⟨_,_,_,rfl⟩:=hv
  refine L_p (.int .i64 ((w64 (i6 + x6)))) rfl rfl (P_int rfl rfl rfl) ?_
  refine L_p (.int .i64 ((w64 (i6 + x6)))) rfl rfl (P_assign rfl) ?_
  refine L_nl fun zF aG hs=>?_
  have hfr:=hfr.ext hs
  have o0:=o0.ext hs
  have u3:=u3.ext hs
  have t5:=t5.ext hs
  have i7:=i7.ext hs
  have q62:=q62.ext hs
  clear hs
  refine EL_nil (thn_n (E_seq ?_))
  have a9:=PT_field (part_BoxPick_0).1 u3
  refine L_load (x:=.tmp 40) Tryz.isAgg3 Tryz.sizeOf3 a9 fun bG aE vC=>?_
  obtain rfl:=RV_int.1 aE
  have d9:=PT_field (part_BoxPick_1).1 u3
  refine L_load (x:=.tmp 42) Tryz.isAgg3 Tryz.sizeOf3 d9 fun cG bE aD=>?_
  obtain rfl:=RV_int.1 bE
  obtain ⟨yA,k9,h⟩:=bsome h
  obtain ⟨hi93,he93⟩:=vat_idx k9
  obtain ⟨iD,l9,h⟩:=bsome h
  obtain ⟨hi95,he95⟩:=vat_idx l9
  obtain ⟨aB,n9,h⟩:=bsome h
  obtain ⟨hi100,he100⟩:=vat_idx n9
  obtain ⟨mB,m8,h⟩:=bsome h
  obtain ⟨hi102,he102⟩:=vat_idx m8
  refine E_drawB (a0:=(x0:BoxRace)) (a1:=({ x0 with boxes:=(vmod ((x0).boxes) ((0:Int)) (fun b=>(vset b ((x1).Left) l5))) }:BoxRace)) o0 (n:=13) [(9,(fun _ g w=>OB 2002 g w 94 ({ x0 with boxes:=(vmod ((x0).boxes) ((0:Int)) (fun b=>(vset b ((x1).Left) l5))) }:BoxRace) p1))] [0,1,2,3,4,5,6,7,8,9,10,11,12] rfl mixed (by kernel_rfl) (⟨fun _=>up_box,trivial⟩) ?_
  refine L_p (fPtr p2 0) rfl rfl (P_fieldAddr at_92_0 y6 (PT.ptr u3)) ?_
  refine L_ld (c:=.int .i64 ((x1).Left)) rfl rfl .plain (fun _ _ h=>h.1.ch) vC rfl ?_
  refine L_p (fPtr p2 1) rfl rfl (P_fieldAddr at_92_1 y6 (PT.ptr u3)) ?_
  refine L_ld (c:=.int .i64 ((x1).Right)) rfl rfl .plain (fun _ _ h=>h.1.ch) aD rfl ?_
  refine L_p (.int .i64 (l5)) rfl rfl (P_move l8) ?_
  refine L_p (.int .i64 (y9)) rfl rfl (P_move k8) ?_
  refine L_p (fPtr p1 0) rfl rfl (P_fieldAddr at_94_0 x5 (OB.ptr o0)) ?_
  refine L_p (fPtr p1 (0 + ((0:Int):Int).toNat * 4)) rfl rfl (P_indexAddrA2 (α:=Vector Int 4) (o1:=0) rfl Tryz.underlying90 Tryz.sizeOf89 rfl (OB.ptr o0) rfl k9) ?_
  refine L_p (fPtr p1 ((0 + ((0:Int):Int).toNat * 4) + ((x1).Left:Int).toNat * 1)) rfl rfl (P_indexAddrA2 (α:=Int) (o1:=(0 + ((0:Int):Int).toNat * 4)) rfl Tryz.underlying89 Tryz.sizeOf3 rfl (OB.ptr o0) rfl l9) ?_
  refine L_do (φ:=fun _ g w=>OB 2002 g w 94 ({ x0 with boxes:=(vmod ((x0).boxes) ((0:Int)) (fun b=>(vset b ((x1).Left) l5))) }:BoxRace) p1) rfl rfl .plain (fun g w hd=>D_storeR (g:=g) (by rfl) (by exact (congrArg (fun y=>{ x0 with boxes:=y }) (vmod_vmod (h:=fun b=>(vset b ((x1).Left) l5)) fun b=>(vset_vset _ _ _)))) (SubS.at_ (SubS.comp part_BoxRace_0 (SubS.dynC hi93 (SubS.dyn hi95) rfl) rfl) (by first | rfl | exact Nat.add_assoc _ _ _ | simp only [Nat.add_assoc,Nat.zero_add] | omega)) Tryz.sizeOf3 rfl hd.1.2 rfl (RV_int.2 rfl)) (fun eG hv=>?_)
  clear hv
  refine L_p (fPtr p1 0) rfl rfl (P_fieldAddr at_94_0 x5 (OB.ptr o0)) ?_
  refine L_p (fPtr p1 (0 + ((1:Int):Int).toNat * 4)) rfl rfl (P_indexAddrA2 (α:=Vector Int 4) (o1:=0) rfl Tryz.underlying90 Tryz.sizeOf89 rfl (OB.ptr o0) rfl n9) ?_
  refine L_p (fPtr p1 ((0 + ((1:Int):Int).toNat * 4) + ((x1).Right:Int).toNat * 1)) rfl rfl (P_indexAddrA2 (α:=Int) (o1:=(0 + ((1:Int):Int).toNat * 4)) rfl Tryz.underlying89 Tryz.sizeOf3 rfl (OB.ptr o0) rfl m8) ?_
  refine L_nil fun bD lE hall=>?_
  have hs:=hall.1.1
  have hfr:=hfr.stp hs
  have u3:=u3.stp hs
  have t5:=t5.stp hs rfl
  have i7:=i7.stp hs
  have q62:=q62.stp hs
  have a9:=a9.stp hs
  have d9:=d9.stp hs
  have b104:=(word_all (A:=fun g w=>OB 2002 g w 94 ({ x0 with boxes:=(vmod ((x0).boxes) ((0:Int)) (fun b=>(vset b ((x1).Left) l5))) }:BoxRace) p1) 9 rfl hall)
  clear hs hall
  refine EL_do .plain rfl (D_storeFc (g:=bD) (SubS.at_ (SubS.comp part_BoxRace_0 (SubS.dynC hi100 (SubS.dyn hi102) rfl) rfl) (by first | rfl | exact Nat.add_assoc _ _ _ | simp only [Nat.add_assoc,Nat.zero_add] | omega)) Tryz.sizeOf3 rfl b104 rfl (RV_int.2 rfl) fun u9 mE hs b135 rst hos=>?_)
  clear rst hos
  have hfr:=hfr.stp hs
  have u3:=u3.stp hs
  have t5:=t5.stp hs rfl
  refine EL_nil (thn_n (E_seq (E_region (EL_do .plain rfl (D_load (g:=u9) Tryz.isAgg92 Tryz.sizeOf92 y6 u3 fun oE cD=>?_)))))
  refine EL_p (fPtr p1 8) (P_fieldAddr at_94_1 x5 (OB.ptr b135)) rfl ?_
  refine EL_do .plain rfl (D_storeFc (g:=u9) part_BoxRace_1 Tryz.sizeOf92 rfl b135 rfl cD fun z9 rE hs b138 rst hos=>?_)
  clear rst hos
  have hfr:=hfr.stp hs
  have t5:=t5.stp hs rfl
  refine EL_nil (thn_n (E_seq (E_region (EL_do .plain rfl (D_loadO (g:=z9) Tryz.isAgg94 Tryz.sizeOf94 x5 b138 fun eD gD=>?_)))))
  refine EL_mv k8 rfl ?_
  refine EL_mv l8 rfl ?_
  refine EL_in (.int .i64 ((w64 (y9 + l5)))) rfl rfl rfl rfl ?_
  refine EL_mw (.int .i64 ((w64 (i6 + x6)))) rfl rfl ?_
  refine EL_do .plain rfl (D_storeOc (g:=z9) (v:=eD) Tryz.sizeOf94 g8 t5 rfl gD fun uE vE hs b140 cb=>?_)
  clear cb
  have hfr:=hfr.stp hs
  refine EL_at (.int .i64 ((w64 (y9 + l5)))) rfl rfl ?_
  refine EL_at (.int .i64 ((w64 (i6 + x6)))) rfl rfl ?_
  refine EL_nil (thn_n (E_ret ?_))
  obtain rfl:=sinj h
  obtain ⟨ad141,cv141,hp141,iA,cr141⟩:=ob_read Tryz.isAgg94 Tryz.sizeOf94 b140
  exact endm_ctt rfl rfl ((show _=p3 from g8).trans hp141) iA (show _=.int .i64 ((w64 (y9 + l5))) from rfl) (show _=.int .i64 ((w64 (i6 + x6))) from rfl) ⟨_,hfr,_,_,_,rfl,cr141,rfl,rfl⟩
def f77 (x0:BoxPick) (z0:BoxBoxLoom):Option (Bool):=
 Option.bind (α:=Bool) (
  (idx (((z0).BoxLoom).Boxes) (0:Int)).bind fun i6=>
  (f56 ((0:Int)) ((w64 (i6 - (1:Int)))) (([(x0).Left]:List Int))).bind fun t5=>
  bif (!t5) then
   some (true)
  else
   (idx (((z0).BoxLoom).Boxes) (1:Int)).bind fun x6=>
   (f56 ((0:Int)) ((w64 (x6 - (1:Int)))) (([(x0).Right]:List Int))).bind fun y135=>
   some ((!y135))
  ) fun x5=>
 some (x5)
theorem en77:Enters Tryz.prog 77:=enters_of Tryz.func77 (by kernel_rfl) rfl
theorem wk77 {gI:Gh} {wI:World} {x0:BoxPick} {z0:BoxBoxLoom} {up0:Value} (rp0:RV gI.m wI x0 up0) {pf0:Value} (qf0:PT gI.m wI z0 pf0) {r:Bool} (h:f77 x0 z0=some r):Fn Tryz.prog 77 #[up0,pf0] gI wI (fun _ _ v=>v=.bool (r)):=by
 unfold f77 at h
 refine fn_of_E Tryz.func77 rfl (Nat.le_of_ble_eq_true rfl) fun g0 hm hfr=>?_
 have qf0:PT g0.m wI z0 pf0:=hm ▸ qf0
 have rp0:RV g0.m wI x0 up0:=hm ▸ rp0
 show E _ 28 none _ _ _ _ _
 refine E_seq (E_region (EL_do .plain rfl (D_box (g:=g0) rfl rp0 fun g1 w1 p1 hs q1=>?_)))
 have hfr:=hfr.ext hs
 have qf0:=qf0.ext hs
 refine EL_at (.bool false) rfl rfl ?_
 refine EL_nil (thn_n ?_)
 obtain ⟨x5,hx,h⟩:=bsome h
 refine E_join (fun e w=>∃ (g:Gh) ,Fr gI wI g w∧e 3=.bool (x5)) (fun Q' hQ=>?_) (fun tB vB hR=>?_)
 ·replace h := hx
  clear hx
  have g8:=PT_field (part_BoxBoxLoom_0).1 qf0
  have aB:=PT_field (part_BoxLoom_0).1 g8
  refine L_load (x:=.tmp 5) Tryz.isAgg27 Tryz.sizeOf27 aB fun i7 k8 l8=>?_
  obtain ⟨i6,y6,h⟩:=bsome h
  have dB:=PT_idx k8 y6
  refine L_load (x:=.tmp 7) Tryz.isAgg3 Tryz.sizeOf3 dB fun aD iB m8=>?_
  obtain rfl:=RV_int.1 iB
  have lB:=PT_field (part_BoxPick_0).1 q1
  refine L_load (x:=.tmp 10) Tryz.isAgg3 Tryz.sizeOf3 lB fun bD mB n8=>?_
  obtain rfl:=RV_int.1 mB
  obtain ⟨t5,r8,h⟩:=bsome h
  rcases csome h with ⟨u3,h⟩ | ⟨u3,h⟩
  ·refine E_drawL (g := g1) (n := 25) [(8, (fun v g w => RV g.m w ([(x0).Left] : List Int) v ∧ OS 3012 g w 3 ([(x0).Left] : List Int) v ∧ FullV v)), (9, (fun v g w => v = .bool (t5)))] [0, 1, 2, 3, 4, 5, 6, 7, 8, 9, 10, 11, 12, 13, 14, 15, 16, 17, 18, 19, 20, 21, 22, 23, 24] rfl mixed (by kernel_rfl) (⟨fun _ => up_and up_rv (up_and up_os (up_eq _)), fun _ => up_eq _, trivial⟩) ?_
   refine L_p (fPtr pf0 0) rfl rfl (P_fieldAddr at_83_0 rfl (PT.ptr qf0)) ?_
   refine L_p (fPtr (fPtr pf0 0) 0) rfl rfl (P_fieldAddr at_33_0 rfl (PT.ptr g8)) ?_
   refine L_ld (c:=i7) rfl rfl .plain (fun _ _ h=>h.ch) l8 rfl ?_
   refine L_p (ePtr i7 (0:Int) 1) rfl rfl (P_indexAddr (α:=Int) Tryz.underlying27 Tryz.sizeOf3 rfl k8 rfl y6) ?_
   refine L_ld (c:=.int .i64 (i6)) rfl rfl .plain (fun _ _ h=>h.ch) m8 rfl ?_
   refine L_p (.int .i64 ((w64 (i6 - (1:Int))))) rfl rfl (P_int rfl rfl rfl) ?_
   refine L_p (fPtr p1 0) rfl rfl (P_fieldAddr at_92_0 rfl (PT.ptr q1)) ?_
   refine L_ld (c:=.int .i64 ((x0).Left)) rfl rfl .plain (fun _ _ h=>h.ch) n8 rfl ?_
   refine L_do (φ:=fun v g w=>RV g.m w ([(x0).Left]:List Int) v∧OS 3012 g w 3 ([(x0).Left]:List Int) v∧FullV v) rfl rfl .plain (fun g w hd=>D_buildSlice (g:=g) 3012 (xs:=([(x0).Left]:List Int)) (vs:=[.int .i64 ((x0).Left)]) Tryz.underlying27 Tryz.sizeOf3 Tryz.zeroValue3 rfl rfl (.cons rfl .nil) (RVs.cons (RV_int.2 rfl) RVs.nil) rfl rfl fun g' w' v hs o r hxt hfl=>⟨g',hxt,r,o,hfl⟩) (fun o0 hv=>?_)
   clear hv
   refine L_do (φ:=fun v g w=>v=.bool (t5)) rfl rfl .plain (fun g w hd=>D_call (g:=g) (vs:=[.int .i64 (0),.int .i64 ((w64 (i6 - (1:Int)))),o0]) en56 (.cons rfl (.cons rfl (.cons rfl .nil))) (wk56 (word (A:=fun g w=>RV g.m w ([(x0).Left]:List Int) o0∧OS 3012 g w 3 ([(x0).Left]:List Int) o0∧FullV o0) 8 rfl rfl (deps_of hd)).1 r8) fun g' w' v hs hr=>⟨g',hs,hr⟩) (fun nB hv=>?_)
   obtain ⟨_,_,_,rfl⟩:=hv
   refine L_p (.bool (!t5)) rfl rfl (P_not rfl) ?_
   refine L_p (.bool (!t5)) rfl rfl (P_move rfl) ?_
   iterate 11 refine L_s rfl rfl rfl u3 rfl ?_
   refine L_p (.bool true) rfl rfl (P_pick (b:=(!t5)) rfl (pick_t u3 rfl)) ?_
   refine L_p (.bool true) rfl rfl (P_assign rfl) ?_
   refine L_nil fun oB cD hall=>?_
   have hs:=hall.1
   have hfr:=hfr.ext hs
   have yB:=(word_all (A:=fun g w=>RV g.m w ([(x0).Left]:List Int) o0∧OS 3012 g w 3 ([(x0).Left]:List Int) o0∧FullV o0) 8 rfl hall).1
   have o109:=(word_all (A:=fun g w=>RV g.m w ([(x0).Left]:List Int) o0∧OS 3012 g w 3 ([(x0).Left]:List Int) o0∧FullV o0) 8 rfl hall).2.1
   clear hs hall
   refine EL_nil ?_
   obtain rfl:=sinj h
   exact hQ _ _ ⟨oB,hfr,rfl⟩
  ·have v8 := PT_field (part_BoxBoxLoom_0).1 qf0
   have y9:=PT_field (part_BoxLoom_0).1 v8
   refine L_load (x:=.tmp 17) Tryz.isAgg27 Tryz.sizeOf27 y9 fun x8 a9 k9=>?_
   obtain ⟨x6,m7,h⟩:=bsome h
   have z9:=PT_idx a9 m7
   refine L_load (x:=.tmp 19) Tryz.isAgg3 Tryz.sizeOf3 z9 fun zB bA l9=>?_
   obtain rfl:=RV_int.1 bA
   have iA:=PT_field (part_BoxPick_1).1 q1
   refine L_load (x:=.tmp 22) Tryz.isAgg3 Tryz.sizeOf3 iA fun cC rA n9=>?_
   obtain rfl:=RV_int.1 rA
   obtain ⟨y135,u9,h⟩:=bsome h
   refine E_drawL (g:=g1) (n:=25) [(8,(fun v g w=>RV g.m w ([(x0).Left]:List Int) v∧OS 3012 g w 3 ([(x0).Left]:List Int) v∧FullV v)),(9,(fun v g w=>v=.bool (t5))),(20,(fun v g w=>RV g.m w ([(x0).Right]:List Int) v∧OS 3024 g w 3 ([(x0).Right]:List Int) v∧FullV v)),(21,(fun v g w=>v=.bool (y135)))] [0,1,2,3,4,5,6,7,8,9,10,11,12,13,14,15,16,17,18,19,20,21,22,23,24] rfl mixed (by kernel_rfl) (⟨fun _=>up_and up_rv (up_and up_os (up_eq _)),fun _=>up_eq _,fun _=>up_and up_rv (up_and up_os (up_eq _)),fun _=>up_eq _,trivial⟩) ?_
   refine L_p (fPtr pf0 0) rfl rfl (P_fieldAddr at_83_0 rfl (PT.ptr qf0)) ?_
   refine L_p (fPtr (fPtr pf0 0) 0) rfl rfl (P_fieldAddr at_33_0 rfl (PT.ptr g8)) ?_
   refine L_ld (c:=i7) rfl rfl .plain (fun _ _ h=>h.ch) l8 rfl ?_
   refine L_p (ePtr i7 (0:Int) 1) rfl rfl (P_indexAddr (α:=Int) Tryz.underlying27 Tryz.sizeOf3 rfl k8 rfl y6) ?_
   refine L_ld (c:=.int .i64 (i6)) rfl rfl .plain (fun _ _ h=>h.ch) m8 rfl ?_
   refine L_p (.int .i64 ((w64 (i6 - (1:Int))))) rfl rfl (P_int rfl rfl rfl) ?_
   refine L_p (fPtr p1 0) rfl rfl (P_fieldAddr at_92_0 rfl (PT.ptr q1)) ?_
   refine L_ld (c:=.int .i64 ((x0).Left)) rfl rfl .plain (fun _ _ h=>h.ch) n8 rfl ?_
   refine L_do (φ:=fun v g w=>RV g.m w ([(x0).Left]:List Int) v∧OS 3012 g w 3 ([(x0).Left]:List Int) v∧FullV v) rfl rfl .plain (fun g w hd=>D_buildSlice (g:=g) 3012 (xs:=([(x0).Left]:List Int)) (vs:=[.int .i64 ((x0).Left)]) Tryz.underlying27 Tryz.sizeOf3 Tryz.zeroValue3 rfl rfl (.cons rfl .nil) (RVs.cons (RV_int.2 rfl) RVs.nil) rfl rfl fun g' w' v hs o r hxt hfl=>⟨g',hxt,r,o,hfl⟩) (fun o0 hv=>?_)
   clear hv
   refine L_do (φ:=fun v g w=>v=.bool (t5)) rfl rfl .plain (fun g w hd=>D_call (g:=g) (vs:=[.int .i64 (0),.int .i64 ((w64 (i6 - (1:Int)))),o0]) en56 (.cons rfl (.cons rfl (.cons rfl .nil))) (wk56 (word (A:=fun g w=>RV g.m w ([(x0).Left]:List Int) o0∧OS 3012 g w 3 ([(x0).Left]:List Int) o0∧FullV o0) 8 rfl rfl (deps_of hd)).1 r8) fun g' w' v hs hr=>⟨g',hs,hr⟩) (fun nB hv=>?_)
   obtain ⟨_,_,_,rfl⟩:=hv
   refine L_p (.bool (!t5)) rfl rfl (P_not rfl) ?_
   refine L_p (.bool (!t5)) rfl rfl (P_move rfl) ?_
   refine L_y (fPtr pf0 0) rfl rfl rfl rfl u3 (P_fieldAddr at_83_0 rfl (PT.ptr qf0)) ?_
   refine L_y (fPtr (fPtr pf0 0) 0) rfl rfl rfl rfl u3 (P_fieldAddr at_33_0 rfl (PT.ptr v8)) ?_
   refine L_ld (c:=x8) rfl rfl (.yes2 rfl rfl u3) (fun _ _ h=>h.ch) k9 rfl ?_
   refine L_y (ePtr x8 (1:Int) 1) rfl rfl rfl rfl u3 (P_indexAddr (α:=Int) Tryz.underlying27 Tryz.sizeOf3 rfl a9 rfl m7) ?_
   refine L_ld (c:=.int .i64 (x6)) rfl rfl (.yes2 rfl rfl u3) (fun _ _ h=>h.ch) l9 rfl ?_
   refine L_y (.int .i64 ((w64 (x6 - (1:Int))))) rfl rfl rfl rfl u3 (P_int rfl rfl rfl) ?_
   refine L_y (fPtr p1 1) rfl rfl rfl rfl u3 (P_fieldAddr at_92_1 rfl (PT.ptr q1)) ?_
   refine L_ld (c:=.int .i64 ((x0).Right)) rfl rfl (.yes2 rfl rfl u3) (fun _ _ h=>h.ch) n9 rfl ?_
   refine L_do (φ:=fun v g w=>RV g.m w ([(x0).Right]:List Int) v∧OS 3024 g w 3 ([(x0).Right]:List Int) v∧FullV v) rfl rfl (.yes2 rfl rfl u3) (fun g w hd=>D_buildSlice (g:=g) 3024 (xs:=([(x0).Right]:List Int)) (vs:=[.int .i64 ((x0).Right)]) Tryz.underlying27 Tryz.sizeOf3 Tryz.zeroValue3 rfl rfl (.cons rfl .nil) (RVs.cons (RV_int.2 rfl) RVs.nil) rfl rfl fun g' w' v hs o r hxt hfl=>⟨g',hxt,r,o,hfl⟩) (fun l5 hv=>?_)
   clear hv
   refine L_do (φ:=fun v g w=>v=.bool (y135)) rfl rfl (.yes2 rfl rfl u3) (fun g w hd=>D_call (g:=g) (vs:=[.int .i64 (0),.int .i64 ((w64 (x6 - (1:Int)))),l5]) en56 (.cons rfl (.cons rfl (.cons rfl .nil))) (wk56 (word (A:=fun g w=>RV g.m w ([(x0).Right]:List Int) l5∧OS 3024 g w 3 ([(x0).Right]:List Int) l5∧FullV l5) 20 rfl rfl (deps_of hd)).1 u9) fun g' w' v hs hr=>⟨g',hs,hr⟩) (fun mC hv=>?_)
   obtain ⟨_,_,_,rfl⟩:=hv
   refine L_y (.bool (!y135)) rfl rfl rfl rfl u3 (P_not rfl) ?_
   refine L_p (.bool (!y135)) rfl rfl (P_pick (b:=(!t5)) rfl (pick_f u3 rfl)) ?_
   refine L_p (.bool (!y135)) rfl rfl (P_assign rfl) ?_
   refine L_nil fun yA qC hall=>?_
   have hs:=hall.1
   have hfr:=hfr.ext hs
   have rC:=(word_all (A:=fun g w=>RV g.m w ([(x0).Left]:List Int) o0∧OS 3012 g w 3 ([(x0).Left]:List Int) o0∧FullV o0) 8 rfl hall).1
   have o149:=(word_all (A:=fun g w=>RV g.m w ([(x0).Left]:List Int) o0∧OS 3012 g w 3 ([(x0).Left]:List Int) o0∧FullV o0) 8 rfl hall).2.1
   have uC:=(word_all (A:=fun g w=>RV g.m w ([(x0).Right]:List Int) l5∧OS 3024 g w 3 ([(x0).Right]:List Int) l5∧FullV l5) 20 rfl hall).1
   have o161:=(word_all (A:=fun g w=>RV g.m w ([(x0).Right]:List Int) l5∧OS 3024 g w 3 ([(x0).Right]:List Int) l5∧FullV l5) 20 rfl hall).2.1
   clear hs hall
   refine EL_nil ?_
   obtain rfl:=sinj h
   exact hQ _ _ ⟨yA,hfr,rfl⟩
 ·clear hx
  obtain ⟨vC,hfr,d9⟩:=hR
  refine E_ret ?_
  obtain rfl:=sinj h
  exact end1 rfl rfl (show _=.bool (x5) from d9) ⟨_,hfr,rfl⟩
def f78 (x0:List BoxPick) (x1:BoxPick→Option Bool):Option (Bool):=
 (f83 x0 x1).bind fun y2=>
 some ((decide (y2 ≥ (0:Int))))
theorem en78:Enters Tryz.prog 78:=enters_of Tryz.func78 (by kernel_rfl) rfl
theorem wk78 {gI:Gh} {wI:World} {x0:List BoxPick} {x1:BoxPick→Option Bool} {up0:Value} (rp0:RV gI.m wI x0 up0) {up1:Value} (rp1:FnV1 Tryz.prog x1 up1 gI wI) {r:Bool} (h:f78 x0 x1=some r):Fn Tryz.prog 78 #[up0,up1] gI wI (fun _ _ v=>v=.bool (r)):=by
 unfold f78 at h
 refine fn_of_E Tryz.func78 rfl (Nat.le_of_ble_eq_true rfl) fun g0 hm hfr=>?_
 have rp0:RV g0.m wI x0 up0:=hm ▸ rp0
 obtain ⟨ff1,fa1,fc1,rfl,fen1,fcl1⟩:=rp1
 show E _ 9 none _ _ _ _ _
 refine E_seq (E_region (EL_at (.bool false) rfl rfl ?_))
 refine EL_nil (thn_n (E_seq (E_region (EL_mw up0 rfl rfl ?_))))
 refine EL_mw ((.func (.func ff1) fa1 fc1)) rfl rfl ?_
 obtain ⟨y2,hy2,h⟩:=bsome h
 refine EL_do .plain rfl (D_call (g:=g0) (vs:=[up0,(.func (.func ff1) fa1 fc1)]) en83 (.cons rfl (.cons rfl .nil)) (wk83 rp0 (FnV1.ch ⟨_,_,_,rfl,fen1,fcl1⟩ hfr.ch) hy2) fun g1 w1_ v1 hs hr=>?_)
 have hfr:=hfr.ext hs
 subst hr
 refine EL_in (.bool ((decide (y2 ≥ (0:Int))))) rfl rfl rfl rfl ?_
 refine EL_at (.bool ((decide (y2 ≥ (0:Int))))) rfl rfl ?_
 refine EL_nil (thn_n (E_ret ?_))
 obtain rfl:=sinj h
 exact end1 rfl rfl (show _=.bool ((decide (y2 ≥ (0:Int)))) from rfl) ⟨_,hfr,rfl⟩
def f20 (x0:Int) (x1:Int) (x2:List Int):Option (Bool):=
 (f42 x2 ((fun a0=>f43 a0 x0 x1))).bind fun y4=>
 some ((!y4))
theorem en20:Enters Tryz.prog 20:=enters_of Tryz.func20 (by kernel_rfl) rfl
theorem wk20 {gI:Gh} {wI:World} {x0:Int} {x1:Int} {x2:List Int} {up2:Value} (rp2:RV gI.m wI x2 up2) {r:Bool} (h:f20 x0 x1 x2=some r):Fn Tryz.prog 20 #[.int .i64 (x0),.int .i64 (x1),up2] gI wI (fun _ _ v=>v=.bool (r)):=by
 unfold f20 at h
 refine fn_of_E Tryz.func20 rfl (Nat.le_of_ble_eq_true rfl) fun g0 hm hfr=>?_
 have rp2:RV g0.m wI x2 up2:=hm ▸ rp2
 show E _ 11 none _ _ _ _ _
 refine E_seq (E_region (EL_do .plain rfl (D_box (g:=g0) rfl (RV_int.2 rfl) fun g1 w1 p1 hs q1=>?_)))
 have hfr:=hfr.ext hs
 have rp2:=rp2.ext hs
 refine EL_do .plain rfl (D_box (g:=g1) rfl (RV_int.2 rfl) fun g2 w2 p2 hs q2=>?_)
 have hfr:=hfr.ext hs
 have rp2:=rp2.ext hs
 have q1:=q1.ext hs
 refine EL_at (.bool false) rfl rfl ?_
 refine EL_nil (thn_n (E_seq (E_region (EL_mw up2 rfl rfl ?_))))
 refine EL_p ((.func (.func 43) #[] #[p1,p2])) (P_makeFunc (capf_0_2 (show ev _ _=p1 from rfl) (show ev _ _=p2 from rfl))) rfl ?_
 obtain ⟨y4,o0,h⟩:=bsome h
 refine EL_do .plain rfl (D_call (g:=g2) (vs:=[up2,(.func (.func 43) #[] #[p1,p2])]) en42 (.cons rfl (.cons rfl .nil)) (wk42 rp2 ⟨43,#[],#[p1,p2],rfl,en43,fun g' w' hch a0 b0 r hu0 hr=>by obtain rfl:=RV_int.1 hu0; exact Fn.mono (wk43  (q1.ch hch) (q2.ch hch) hr) fun _ _ _ h=>RV_bool.2 h⟩ o0) fun g3 w3_ v3 hs hr=>?_)
 have hfr:=hfr.ext hs
 subst hr
 refine EL_p (.bool (!y4)) (P_not rfl) rfl ?_
 refine EL_at (.bool (!y4)) rfl rfl ?_
 refine EL_nil (thn_n (E_ret ?_))
 obtain rfl:=sinj h
 exact end1 rfl rfl (show _=.bool (!y4) from rfl) ⟨_,hfr,rfl⟩
def f23 (x0:TieHarness):Option (Int):=
 jn (σ:=Unit) (fun _=>
  some ((0:Int))
  ) fun y6=>
 (f20 ((1:Int)) ((24:Int)) (([(x0).Hooks]:List Int))).bind fun i6=>
 bif (!i6) then
  some ((2:Int))
 else
  bif (decide ((((x0).Warps).length : Int) > (96 : Int))) then
   some ((5:Int))
  else
   bif ((((x0).Warps).length : Int) == (0 : Int)) then
    some ((7:Int))
   else
    (f20 ((0:Int)) ((w64 ((x0).Hooks - (1:Int)))) ((x0).Warps)).bind fun x6=>
    bif (!x6) then
     some ((2:Int))
    else
     y6 ()
theorem en23:Enters Tryz.prog 23:=enters_of Tryz.func23 (by kernel_rfl) rfl
theorem wk23 {gI:Gh} {wI:World} {x0:TieHarness} {up0:Value} (rp0:RV gI.m wI x0 up0) {r:Int} (h:f23 x0=some r):Fn Tryz.prog 23 #[up0] gI wI (fun _ _ v=>v=.int .i64 (r)):=by
 unfold f23 at h
 refine fn_of_E Tryz.func23 rfl (Nat.le_of_ble_eq_true rfl) fun g0 hm hfr=>?_
 have rp0:RV g0.m wI x0 up0:=hm ▸ rp0
 show E _ 27 none _ _ _ _ _
 refine E_seq (E_region (EL_do .plain rfl (D_box (g:=g0) rfl rp0 fun g1 w1 p1 hs q1=>?_)))
 have hfr:=hfr.ext hs
 refine EL_at (.int .i64 (0)) rfl rfl ?_
 refine EL_nil (thn_n (E_joinC h (fun (s:Unit) e w=>∃ (g:Gh) ,Fr gI wI g w) (fun X21 y6 i7 h=>?_) ?_))
 ·refine E_block ?_
  refine E_seq (E_region (EL_p (fPtr p1 0) (P_fieldAddr at_36_0 rfl (PT.ptr q1)) rfl ?_))
  have k8:=PT_field (part_TieHarness_0).1 q1
  refine EL_do .plain rfl (D_load (g:=g1) Tryz.isAgg3 Tryz.sizeOf3 rfl k8 fun yA l8=>?_)
  obtain rfl:=RV_int.1 l8
  refine EL_do .plain rfl (D_buildSlice (g:=g1) 3006 (xs:=([(x0).Hooks]:List Int)) (vs:=[.int .i64 ((x0).Hooks)]) Tryz.underlying27 Tryz.sizeOf3 Tryz.zeroValue3 rfl rfl (.cons rfl .nil) (RVs.cons (RV_int.2 rfl) RVs.nil) rfl rfl fun m8 aB n8 hs o24 r8 hxt hfl=>?_)
  have hfr:=hfr.stp hs
  have q1:=q1.stp hs
  obtain ⟨i6,m7,h⟩:=bsome h
  refine EL_do .plain rfl (D_call (g:=m8) (vs:=[.int .i64 (1),.int .i64 (24),n8]) en20 (.cons rfl (.cons rfl (.cons rfl .nil))) (wk20 r8 m7) fun o0 bA dB hs hr=>?_)
  have hfr:=hfr.ext hs
  have q1:=q1.ext hs
  subst hr
  refine EL_p (.bool (!i6)) (P_not rfl) rfl ?_
  refine EL_at (.bool (!i6)) rfl rfl ?_
  refine EL_nil (thn_n ?_)
  rcases csome h with ⟨u3,h⟩ | ⟨u3,h⟩
  ·refine E_ct u3 rfl ?_
   refine E_seq (E_region (EL_at (.int .i64 (2)) rfl rfl ?_))
   refine EL_nil (thn_n (E_ret (blk_r ?_)))
   refine thn_r ?_
   obtain rfl:=sinj h
   exact end1 rfl rfl (show _=.int .i64 (2) from rfl) ⟨_,hfr,rfl⟩
  ·refine E_cf u3 rfl ?_
   refine E_seq (E_region (EL_p (fPtr p1 1) (P_fieldAddr at_36_1 rfl (PT.ptr q1)) rfl ?_))
   have v8:=PT_field (part_TieHarness_1).1 q1
   refine EL_do .plain rfl (D_load (g:=o0) Tryz.isAgg27 Tryz.sizeOf27 rfl v8 fun iB x8=>?_)
   refine EL_p (.int .i64 (((x0).Warps).length:Int)) (P_len Tryz.underlying27 rfl x8) rfl ?_
   refine EL_p (.bool ((decide ((((x0).Warps).length:Int) > (96:Int))))) (P_int rfl rfl rfl) rfl ?_
   refine EL_p (.bool ((decide ((((x0).Warps).length:Int) > (96:Int))))) (P_assign rfl) rfl ?_
   refine EL_nil (thn_n ?_)
   rcases csome h with ⟨l5,h⟩ | ⟨l5,h⟩
   ·refine E_ct l5 rfl ?_
    refine E_seq (E_region (EL_at (.int .i64 (5)) rfl rfl ?_))
    refine EL_nil (thn_n (E_ret (blk_r ?_)))
    refine thn_r ?_
    obtain rfl:=sinj h
    exact end1 rfl rfl (show _=.int .i64 (5) from rfl) ⟨_,hfr,rfl⟩
   ·refine E_cf l5 rfl ?_
    refine E_seq (E_region (EL_p (fPtr p1 1) (P_fieldAddr at_36_1 rfl (PT.ptr q1)) rfl ?_))
    have a9:=PT_field (part_TieHarness_1).1 q1
    refine EL_do .plain rfl (D_load (g:=o0) Tryz.isAgg27 Tryz.sizeOf27 rfl a9 fun lB d9=>?_)
    refine EL_p (.int .i64 (((x0).Warps).length:Int)) (P_len Tryz.underlying27 rfl d9) rfl ?_
    refine EL_in (.bool (((((x0).Warps).length:Int) == (0:Int)))) rfl rfl rfl rfl ?_
    refine EL_at (.bool (((((x0).Warps).length:Int) == (0:Int)))) rfl rfl ?_
    refine EL_nil (thn_n ?_)
    rcases csome h with ⟨t5,h⟩ | ⟨t5,h⟩
    ·refine E_ct t5 rfl ?_
     refine E_seq (E_region (EL_at (.int .i64 (7)) rfl rfl ?_))
     refine EL_nil (thn_n (E_ret (blk_r ?_)))
     refine thn_r ?_
     obtain rfl:=sinj h
     exact end1 rfl rfl (show _=.int .i64 (7) from rfl) ⟨_,hfr,rfl⟩
    ·refine E_cf t5 rfl ?_
     refine E_seq (E_region (EL_p (fPtr p1 0) (P_fieldAddr at_36_0 rfl (PT.ptr q1)) rfl ?_))
     have k9:=PT_field (part_TieHarness_0).1 q1
     refine EL_do .plain rfl (D_load (g:=o0) Tryz.isAgg3 Tryz.sizeOf3 rfl k9 fun mB l9=>?_)
     obtain rfl:=RV_int.1 l9
     refine EL_in (.int .i64 ((w64 ((x0).Hooks - (1:Int))))) rfl rfl rfl rfl ?_
     refine EL_p (fPtr p1 1) (P_fieldAddr at_36_1 rfl (PT.ptr q1)) rfl ?_
     have n9:=PT_field (part_TieHarness_1).1 q1
     refine EL_do .plain rfl (D_load (g:=o0) Tryz.isAgg27 Tryz.sizeOf27 rfl n9 fun u9 y9=>?_)
     obtain ⟨x6,g8,h⟩:=bsome h
     refine EL_do .plain rfl (D_call (g:=o0) (vs:=[.int .i64 (0),.int .i64 ((w64 ((x0).Hooks - (1:Int)))),u9]) en20 (.cons rfl (.cons rfl (.cons rfl .nil))) (wk20 y9 g8) fun z9 iA nB hs hr=>?_)
     have hfr:=hfr.ext hs
     subst hr
     refine EL_p (.bool (!x6)) (P_not rfl) rfl ?_
     refine EL_at (.bool (!x6)) rfl rfl ?_
     refine EL_nil (thn_n ?_)
     rcases csome h with ⟨x5,h⟩ | ⟨x5,h⟩
     ·refine E_ct x5 rfl ?_
      refine E_seq (E_region (EL_at (.int .i64 (2)) rfl rfl ?_))
      refine EL_nil (thn_n (E_ret (blk_r ?_)))
      refine thn_r ?_
      obtain rfl:=sinj h
      exact end1 rfl rfl (show _=.int .i64 (2) from rfl) ⟨_,hfr,rfl⟩
     ·refine E_cf x5 rfl ?_
      exact E_skip (blk_n (thn_n (i7 () _ _ ⟨z9,hfr⟩ h)))
 ·rintro _ rA oB ⟨tB, hfr⟩ h
  refine E_seq (E_region (EL_at (.int .i64 (0)) rfl rfl ?_))
  refine EL_nil (thn_n (E_ret ?_))
  obtain rfl:=sinj h
  exact end1 rfl rfl (show _=.int .i64 (0) from rfl) ⟨_,hfr,rfl⟩
theorem u68 {iO:Nat} {gI:Gh} {wI:World} {x1:It Int} {up1:Value} (rp1:ItV Tryz.prog (RA1 (α:=Int)) x1 up1 gI.m wI) {r:(List Int)} (h:f68 x1=some r):FnG Tryz.prog 68 #[.slice none 0 0,up1] gI wI (fun g w v=>OS iO g w 3 r v∧RV g.m w r v):=by
 unfold f68 at h
 refine fnGD_of_E Tryz.func68 rfl (Nat.le_of_ble_eq_true rfl) fun g0 hm hfr=>?_
 have hmk:MkF g0 wI []:=MkF.start
 have rp1:ItV Tryz.prog (RA1 (α:=Int)) x1 up1 g0.m wI:=hm ▸ rp1
 show E _ 13 none _ _ _ _ _
 refine E_seq (E_region (EL_do .plain rfl (D_boxOc (g:=g0) (a:=(([]:List Int):List Int)) 2002 rfl RV_nil fun g1 w1 p1 hs b1 cb=>?_)))
 have hfr:=hfr.stp hs
 have hmk:=hmk.stp hs
 have rp1:=rp1.stp hs
 have x8:OSF 2002 60200 0 g1 w1 3 27 (([]:List Int):List Int) p1:=cb.osfr rfl (OS.nil:OS 60200 g1 w1 3 (([]:List Int):List Int) (.slice none 0 0))
 clear cb
 refine EL_at (.slice none 0 0) rfl rfl ?_
 refine EL_nil (thn_n ?_)
 obtain ⟨x5,hx,h⟩:=bsome h
 refine E_joinD (fun e ds w=>∃ (g:Gh) ,Fr gI wI g w∧MkF g w ds∧e 2=p1∧OB 2002 g w 27 (x5:List Int) p1∧OSF 2002 60200 0 g w 3 27 (x5) p1) (fun Q' hQ=>?_) (fun oB aB vB hR=>?_)
 ·replace h := hx
  clear hx
  refine E_seq (E_region (EL_mw up1 rfl rfl ?_))
  refine EL_nil (thn_n (E_block ?_))
  have hB0:=hfr.size
  have hmk0:=hmk
  obtain ⟨dB,hφ,h⟩:=bsome h
  refine E_rangeFunc (σ:=((List Int))) (s0:=((([]:List Int):List Int))) 10 rfl (fun _=>0) [] (fun (s:(List Int)) (g:Gh) (w:World)=>Fr gI wI g w∧MkF g w []∧OB 2002 g w 27 (s:List Int) p1∧OSF 2002 60200 0 g w 3 27 (s) p1∧ItV Tryz.prog (RA1 (α:=Int)) x1 up1 g.m w) rfl rp1 hφ (fun _ _ _ _=>rfl) rfl ra1_size rfl (fun _ _ _ _ _ hx hR=>by obtain ⟨hfr,hmk,z2,z3,z4⟩:=hR; exact ⟨hfr.ist hx hB0,hmk.ist hx,z2.ist hx,z3.ist hx,z4.ist hx⟩) (fun _ _ _ _ _ hx hR=>by obtain ⟨hfr,hmk,z2,z3,z4⟩:=hR; exact ⟨hfr.stp hx,hmk.stp hx,z2.stp hx rfl,z3.stp hx rfl,z4.stp hx⟩) ⟨hfr,hmk,b1,x8,rp1⟩ (fun _ h=>by cases h) ?_ ?_
  ·intro tB iB s x b s2 i6 d9 vs hsz h hR hrec_0 x6 hrd
   obtain ⟨lB,hse⟩:∃ y,y=s:=⟨s,rfl⟩
   subst hse
   obtain ⟨hfr,hmk,l5,u2_0_25,o0⟩:=hR
   obtain ⟨t5,hxe⟩:∃ y,y=x:=⟨x,rfl⟩
   subst hxe
   obtain ⟨g8,rfl,y6⟩:=ra1_get hrd
   obtain rfl:g8=.int .i64 (t5):=RV_int.1 y6
   have u3:=RFr.refl i6 d9
   refine E_region (EL_at (.int .i64 (t5)) rfl rfl ?_)
   refine EL_nil (thn_n ?_)
   obtain ⟨k9,hbr,hs,hrN⟩:=begin_round hrec_0 x6
   refine ⟨k9,hbr,?_⟩
   have hfr:=hfr.stp hs
   have hmk:=hmk.stp hs
   have u3:=u3.stp hs
   have u2_0_25:=u2_0_25.stp hs rfl
   have l5:=l5.stp hs rfl
   have o0:=o0.stp hs
   have hrec_0:=hrN
   clear hbr hs hrN
   refine E_block ?_
   refine E_region (EL_do .plain rfl (D_loadOS (g:=i6) Tryz.isAgg27 Tryz.sizeOf27 rfl l5 u2_0_25 fun yB i7 o27=>?_))
   refine EL_mw (.int .i64 (t5)) rfl rfl ?_
   refine EL_do .plain rfl (D_buildSlice (g:=i6) 3010 (xs:=([t5]:List Int)) (vs:=[.int .i64 (t5)]) Tryz.underlying27 Tryz.sizeOf3 Tryz.zeroValue3 rfl rfl (.cons rfl .nil) (RVs.cons (RV_int.2 rfl) RVs.nil) rfl rfl fun l9 zB cC hs o28 n9 hxt hfl=>?_)
   have hfr:=hfr.stp hs
   have hmk:=hmk.stp hs
   have u3:=u3.stp hs
   have hrec_0:=hrec_0.stp hs rfl
   have l5:=l5.stp hs rfl
   have o0:=o0.stp hs
   have i7:=i7.stp hs
   have o27:=o27.stp hs rfl
   obtain ⟨u9,a9,h⟩:=bsome h
   refine EL_do .plain rfl (D_append (g:=l9) (i:=60200) Tryz.underlying27 info_3 rfl rfl o27 i7 rfl n9 a9 fun y9 w29 z9 hs o29 r8 _=>?_)
   have hfr:=hfr.stp hs
   have hmk:=hmk.stp hs
   have u3:=u3.stp hs
   have hrec_0:=hrec_0.stp hs rfl
   have l5:=l5.stp hs rfl
   have o0:=o0.stp hs
   refine EL_do .plain rfl (D_storeOc (g:=y9) (v:=z9) Tryz.sizeOf27 rfl l5 rfl r8 fun bA iA hs b31 cb=>?_)
   have k8:OSF 2002 60200 0 bA iA 3 27 (u9:List Int) p1:=cb.osfr (rv_cells1 r8) (o29.stp hs rfl)
   clear cb
   have hfr:=hfr.stp hs
   have hmk:=hmk.stp hs
   have u3:=u3.stp hs
   have hrec_0:=hrec_0.stp hs rfl
   have o0:=o0.stp hs
   refine EL_nil (blk_n ?_)
   obtain ⟨rfl,rfl⟩:=pairs2 h
   exact ⟨_,u3,⟨hfr,hmk,b31,k8,o0⟩,hrec_0,rfl,rfl⟩
  ·intro rA mC ds33 hsz hR hds
   obtain ⟨hfr,hmk,l8,u2_0_33,mB⟩:=hR
   obtain ⟨D,hdse,hD,hDb⟩:=hds.1 rfl
   subst hdse
   replace hmk:=MkF.push hmk0 hmk hD hDb
   clear hD hDb hds
   revert hmk
   generalize ({ target:=.collected D,args:=#[] } :: []:List Deferred)=nB
   intro hmk
   refine ⟨fun _=>?_,fun k c hs _=>absurd hs (Nat.succ_ne_zero k).symm⟩
   refine blk_n ?_
   obtain rfl:=sinj h
   exact hQ _ _ _ ⟨rA,hfr,hmk,rfl,l8,u2_0_33⟩
 ·clear hx
  obtain ⟨yA,hfr,hmk,m8,n8,u2_0_34⟩:=hR
  refine E_seq (E_region (EL_do .plain rfl (D_loadOS (g:=yA) Tryz.isAgg27 Tryz.sizeOf27 m8 n8 u2_0_34 fun v8 m7 o35=>?_)))
  refine EL_at v8 rfl rfl ?_
  refine EL_nil (thn_n (E_ret (endM (.inr rfl) hmk fun qC rC hs=>?_)))
  have hfr:=hfr.stp hs
  have m7:=m7.stp hs
  have o35:=o35.stp hs rfl
  obtain rfl:=sinj h
  obtain ⟨gh,hxh,homh,hrvh⟩:=OS.handn (i:=iO) hfr o35 m7
  exact end1 rfl rfl (show _=v8 from rfl) ⟨gh,hxh,homh,hrvh⟩
def f24 (x0:Design):Option (Int):=
 jn (σ:=Unit) (fun _=>
  some ((0:Int))
  ) fun x6=>
 (f47 ((1:Int)) ((24:Int)) (([(x0).Hooks]:List Int))).bind fun y56=>
 bif (!y56) then
  some ((2:Int))
 else
  bif (decide ((((x0).Rows).length : Int) > (60 : Int))) then
   some ((5:Int))
  else
   bif ((((x0).Rows).length : Int) == (0 : Int)) then
    some ((7:Int))
   else
    (shl64 (1:Int) (x0).Hooks).bind fun u3=>
    (f47 ((0:Int)) ((w64 (u3 - (1:Int)))) ((x0).Rows)).bind fun y71=>
    bif (!y71) then
     some ((2:Int))
    else
     x6 ()
theorem en24:Enters Tryz.prog 24:=enters_of Tryz.func24 (by kernel_rfl) rfl
theorem wk24 {gI:Gh} {wI:World} {x0:Design} {up0:Value} (rp0:RV gI.m wI x0 up0) {r:Int} (h:f24 x0=some r):Fn Tryz.prog 24 #[up0] gI wI (fun _ _ v=>v=.int .i64 (r)):=by
 unfold f24 at h
 refine fn_of_E Tryz.func24 rfl (Nat.le_of_ble_eq_true rfl) fun g0 hm hfr=>?_
 have rp0:RV g0.m wI x0 up0:=hm ▸ rp0
 show E _ 28 none _ _ _ _ _
 refine E_seq (E_region (EL_do .plain rfl (D_box (g:=g0) rfl rp0 fun g1 w1 p1 hs q1=>?_)))
 have hfr:=hfr.ext hs
 refine EL_at (.int .i64 (0)) rfl rfl ?_
 refine EL_nil (thn_n (E_joinC h (fun (s:Unit) e w=>∃ (g:Gh) ,Fr gI wI g w) (fun X51 x6 i7 h=>?_) ?_))
 ·refine E_block ?_
  refine E_seq (E_region (EL_p (fPtr p1 0) (P_fieldAddr at_29_0 rfl (PT.ptr q1)) rfl ?_))
  have n8:=PT_field (part_Design_0).1 q1
  refine EL_do .plain rfl (D_load (g:=g1) Tryz.isAgg3 Tryz.sizeOf3 rfl n8 fun iB r8=>?_)
  obtain rfl:=RV_int.1 r8
  refine EL_do .plain rfl (D_buildSlice (g:=g1) 3006 (xs:=([(x0).Hooks]:List Int)) (vs:=[.int .i64 ((x0).Hooks)]) Tryz.underlying27 Tryz.sizeOf3 Tryz.zeroValue3 rfl rfl (.cons rfl .nil) (RVs.cons (RV_int.2 rfl) RVs.nil) rfl rfl fun v8 lB x8 hs o54 a9 hxt hfl=>?_)
  have hfr:=hfr.stp hs
  have q1:=q1.stp hs
  obtain ⟨y56,m7,h⟩:=bsome h
  refine EL_do .plain rfl (D_call (g:=v8) (vs:=[.int .i64 (1),.int .i64 (24),x8]) en47 (.cons rfl (.cons rfl (.cons rfl .nil))) (wk47 a9 m7) fun i6 yA mB hs hr=>?_)
  have hfr:=hfr.ext hs
  have q1:=q1.ext hs
  subst hr
  refine EL_p (.bool (!y56)) (P_not rfl) rfl ?_
  refine EL_at (.bool (!y56)) rfl rfl ?_
  refine EL_nil (thn_n ?_)
  rcases csome h with ⟨l5,h⟩ | ⟨l5,h⟩
  ·refine E_ct l5 rfl ?_
   refine E_seq (E_region (EL_at (.int .i64 (2)) rfl rfl ?_))
   refine EL_nil (thn_n (E_ret (blk_r ?_)))
   refine thn_r ?_
   obtain rfl:=sinj h
   exact end1 rfl rfl (show _=.int .i64 (2) from rfl) ⟨_,hfr,rfl⟩
  ·refine E_cf l5 rfl ?_
   refine E_seq (E_region (EL_p (fPtr p1 1) (P_fieldAddr at_29_1 rfl (PT.ptr q1)) rfl ?_))
   have d9:=PT_field (part_Design_1).1 q1
   refine EL_do .plain rfl (D_load (g:=i6) Tryz.isAgg27 Tryz.sizeOf27 rfl d9 fun nB k9=>?_)
   refine EL_p (.int .i64 (((x0).Rows).length:Int)) (P_len Tryz.underlying27 rfl k9) rfl ?_
   refine EL_p (.bool ((decide ((((x0).Rows).length:Int) > (60:Int))))) (P_int rfl rfl rfl) rfl ?_
   refine EL_p (.bool ((decide ((((x0).Rows).length:Int) > (60:Int))))) (P_assign rfl) rfl ?_
   refine EL_nil (thn_n ?_)
   rcases csome h with ⟨t5,h⟩ | ⟨t5,h⟩
   ·refine E_ct t5 rfl ?_
    refine E_seq (E_region (EL_at (.int .i64 (5)) rfl rfl ?_))
    refine EL_nil (thn_n (E_ret (blk_r ?_)))
    refine thn_r ?_
    obtain rfl:=sinj h
    exact end1 rfl rfl (show _=.int .i64 (5) from rfl) ⟨_,hfr,rfl⟩
   ·refine E_cf t5 rfl ?_
    refine E_seq (E_region (EL_p (fPtr p1 1) (P_fieldAddr at_29_1 rfl (PT.ptr q1)) rfl ?_))
    have l9:=PT_field (part_Design_1).1 q1
    refine EL_do .plain rfl (D_load (g:=i6) Tryz.isAgg27 Tryz.sizeOf27 rfl l9 fun v62 n9=>?_)
    refine EL_p (.int .i64 (((x0).Rows).length:Int)) (P_len Tryz.underlying27 rfl n9) rfl ?_
    refine EL_in (.bool (((((x0).Rows).length:Int) == (0:Int)))) rfl rfl rfl rfl ?_
    refine EL_at (.bool (((((x0).Rows).length:Int) == (0:Int)))) rfl rfl ?_
    refine EL_nil (thn_n ?_)
    rcases csome h with ⟨x5,h⟩ | ⟨x5,h⟩
    ·refine E_ct x5 rfl ?_
     refine E_seq (E_region (EL_at (.int .i64 (7)) rfl rfl ?_))
     refine EL_nil (thn_n (E_ret (blk_r ?_)))
     refine thn_r ?_
     obtain rfl:=sinj h
     exact end1 rfl rfl (show _=.int .i64 (7) from rfl) ⟨_,hfr,rfl⟩
    ·refine E_cf x5 rfl ?_
     refine E_seq ?_
     have u9:=PT_field (part_Design_0).1 q1
     refine L_load (x:=.tmp 20) Tryz.isAgg3 Tryz.sizeOf3 u9 fun oB y9 g8=>?_
     obtain rfl:=RV_int.1 y9
     obtain ⟨u3,k8,h⟩:=bsome h
     have z9:=PT_field (part_Design_1).1 q1
     refine L_load (x:=.tmp 24) Tryz.isAgg27 Tryz.sizeOf27 z9 fun y6 bA l8=>?_
     obtain ⟨y71,m8,h⟩:=bsome h
     refine E_drawL (g:=i6) (n:=9) [(6,(fun v g w=>v=.bool (y71)))] [0,1,2,3,4,5,6,7,8] rfl mixed (by kernel_rfl) (⟨fun _=>up_eq _,trivial⟩) ?_
     refine L_p (fPtr p1 0) rfl rfl (P_fieldAddr at_29_0 rfl (PT.ptr q1)) ?_
     refine L_ld (c:=.int .i64 ((x0).Hooks)) rfl rfl .plain (fun _ _ h=>h.ch) g8 rfl ?_
     refine L_p (.int .i64 (u3)) rfl rfl (P_int rfl rfl (congrArg (Option.map (Value.int .i64)) k8)) ?_
     refine L_p (.int .i64 ((w64 (u3 - (1:Int))))) rfl rfl (P_int rfl rfl rfl) ?_
     refine L_p (fPtr p1 1) rfl rfl (P_fieldAddr at_29_1 rfl (PT.ptr q1)) ?_
     refine L_ld (c:=y6) rfl rfl .plain (fun _ _ h=>h.ch) l8 rfl ?_
     refine L_do (φ:=fun v g w=>v=.bool (y71)) rfl rfl .plain (fun g w hd=>D_call (g:=g) (vs:=[.int .i64 (0),.int .i64 ((w64 (u3 - (1:Int)))),y6]) en47 (.cons rfl (.cons rfl (.cons rfl .nil))) (wk47 (bA.ext hd.1) m8) fun g' w' v hs hr=>⟨g',hs,hr⟩) (fun tB hv=>?_)
     obtain ⟨_,_,_,rfl⟩:=hv
     refine L_p (.bool (!y71)) rfl rfl (P_not rfl) ?_
     refine L_p (.bool (!y71)) rfl rfl (P_assign rfl) ?_
     refine L_nl fun iA vB hs=>?_
     have hfr:=hfr.ext hs
     clear hs
     refine EL_nil (thn_n ?_)
     rcases csome h with ⟨o0,h⟩ | ⟨o0,h⟩
     ·refine E_ct o0 rfl ?_
      refine E_seq (E_region (EL_at (.int .i64 (2)) rfl rfl ?_))
      refine EL_nil (thn_n (E_ret (blk_r ?_)))
      refine thn_r ?_
      obtain rfl:=sinj h
      exact end1 rfl rfl (show _=.int .i64 (2) from rfl) ⟨_,hfr,rfl⟩
     ·refine E_cf o0 rfl ?_
      exact E_skip (blk_n (thn_n (i7 () _ _ ⟨iA,hfr⟩ h)))
 ·rintro _ rA aB ⟨dB, hfr⟩ h
  refine E_seq (E_region (EL_at (.int .i64 (0)) rfl rfl ?_))
  refine EL_nil (thn_n (E_ret ?_))
  obtain rfl:=sinj h
  exact end1 rfl rfl (show _=.int .i64 (0) from rfl) ⟨_,hfr,rfl⟩
theorem u45 {iO:Nat} {gI:Gh} {wI:World} {x0:It Int} {up0:Value} (rp0:ItV Tryz.prog (RA1 (α:=Int)) x0 up0 gI.m wI) {r:(List Int)} (h:f45 x0=some r):FnG Tryz.prog 45 #[up0] gI wI (fun g w v=>OS iO g w 3 r v∧RV g.m w r v):=by
 unfold f45 at h
 refine fnG_of_E Tryz.func45 rfl (Nat.le_of_ble_eq_true rfl) fun g0 hm hfr=>?_
 have rp0:ItV Tryz.prog (RA1 (α:=Int)) x0 up0 g0.m wI:=hm ▸ rp0
 show E _ 5 none _ _ _ _ _
 refine E_seq (E_region (EL_at (.slice none 0 0) rfl rfl ?_))
 refine EL_nil (thn_n (E_seq (E_region (EL_mw up0 rfl rfl ?_))))
 obtain ⟨y2,hy2,h⟩:=bsome h
 refine EL_do .plain rfl (D_callG (g:=g0) (vs:=[.slice none 0 0,up0]) en68 (.cons rfl (.cons rfl .nil)) (u68 (iO:=4004) rp0 hy2) fun g1 w1 v1 hs m1=>?_)
 obtain ⟨o1,r1⟩:=m1
 have hfr:=hfr.ext hs
 refine EL_at v1 rfl rfl ?_
 refine EL_nil (thn_n (E_ret ?_))
 obtain rfl:=sinj h
 obtain ⟨gh,hxh,homh,hrvh⟩:=OS.handn (i:=iO) hfr o1 r1
 exact end1 rfl rfl (show _=v1 from rfl) ⟨gh,hxh,homh,hrvh⟩
def f28 (x0:List Int):Option (Bool):=
 (f56 ((0:Int)) ((9:Int)) x0).bind fun y2=>
 some (y2)
theorem en28:Enters Tryz.prog 28:=enters_of Tryz.func28 (by kernel_rfl) rfl
theorem wk28 {gI:Gh} {wI:World} {x0:List Int} {up0:Value} (rp0:RV gI.m wI x0 up0) {r:Bool} (h:f28 x0=some r):Fn Tryz.prog 28 #[up0] gI wI (fun _ _ v=>v=.bool (r)):=by
 unfold f28 at h
 refine fn_of_E Tryz.func28 rfl (Nat.le_of_ble_eq_true rfl) fun g0 hm hfr=>?_
 have rp0:RV g0.m wI x0 up0:=hm ▸ rp0
 show E _ 5 none _ _ _ _ _
 refine E_seq (E_region (EL_at (.bool false) rfl rfl ?_))
 refine EL_nil (thn_n (E_seq (E_region (EL_mw up0 rfl rfl ?_))))
 obtain ⟨y2,hy2,h⟩:=bsome h
 refine EL_do .plain rfl (D_call (g:=g0) (vs:=[.int .i64 (0),.int .i64 (9),up0]) en56 (.cons rfl (.cons rfl (.cons rfl .nil))) (wk56 rp0 hy2) fun g1 w1_ v1 hs hr=>?_)
 have hfr:=hfr.ext hs
 subst hr
 refine EL_at (.bool (y2)) rfl rfl ?_
 refine EL_nil (thn_n (E_ret ?_))
 obtain rfl:=sinj h
 exact end1 rfl rfl (show _=.bool (y2) from rfl) ⟨_,hfr,rfl⟩
end Go.Proofs.YtkfdjkkbnfohjaaGreat
