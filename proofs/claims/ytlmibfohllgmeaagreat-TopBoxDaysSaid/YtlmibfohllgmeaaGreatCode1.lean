import Derived.Test.YtlmibfohllgmeaaGreatTypes
import Derived.Test.YtlmibfohllgmeaaGreatShelf
import Derived.Test.YtlmibfohllgmeaaGreatOwm
set_option maxRecDepth 8000
set_option maxHeartbeats 4000000
namespace Go.Proofs.YtlmibfohllgmeaaGreat
open Go.RowKit
theorem Ua:(Tryz.prog.info? 3).map (fun i=>(i.zero,i.size,i.bytes))=some (some (.int .i64 0),1,8):=by kernel_rfl
theorem info_83:(Tryz.prog.info? 83).map (fun i=>(i.zero,i.size,i.bytes))=some (some (.agg #[.int .i64 0,.int .i64 0,.int .i64 0,.int .i64 0,.int .i64 0]),5,40):=by kernel_rfl
theorem Uz:Plain Gf:=fun _ m' _ w' x _ h=>(Sn Xz (Sn Xz (Sn Xz (Sn Xz Xz)))) _ m' _ w' _ _ h
theorem lay_30:Ku Tryz.prog 30=some ([.slice none 0 0,.int .i64 0],[(0,1),(1,1)]):=by kernel_rfl
theorem Oh:Ku Tryz.prog 49=some ([.int .i64 0,.int .i64 0,.int .i64 0,.int .i64 0,.int .i64 0],[(0,1),(1,1),(2,1),(3,1),(4,1)]):=by kernel_rfl
theorem mixed:Tryz.prog.follows .mixedOrders=true:=by kernel_rfl
theorem info_49:(Tryz.prog.info? 49).map (fun i=>(i.zero,i.size,i.bytes))=some (some (.agg #[.int .i64 0,.int .i64 0,.int .i64 0,.int .i64 0,.int .i64 0]),5,40):=by kernel_rfl
theorem Hr {P:Program} {e:Env} {ds:List Deferred} {w:World} {fn:Func} {R:Value→World→Prop} {t0:Tmp} {v0:Value} {y0:TypeId} {a0:Addr} {t1:Tmp} {v1:Value} (hres:fn.results=#[.cell t0 y0,.tmp t1]) (hd:ds=[]) (h0:e t0=.pointer (some a0)) (l0:(loadVar y0 a0).run P w=.ok v0 w) (h1:e t1=v1) (h:R (.tuple #[v0,v1]) w):Yw P fn R .ret e ds w:=
 ⟨hd,fun tmps ht=>⟨_,by simp [results,hres,ht,asAddr,h0,l0,h1],h⟩⟩
theorem lay_44:Ku Tryz.prog 44=some ([.slice none 0 0,.slice none 0 0,.slice none 0 0],[(0,1),(1,1),(2,1)]):=by kernel_rfl
theorem layA_125:((Tryz.prog.info? 125).bind (·.zero)).map (·.cells.toList)=some [.bool false,.bool false,.bool false,.bool false,.bool false,.bool false]:=by kernel_rfl
theorem szA_4:(Tryz.prog.info? 4).map (·.size)=some 1:=by kernel_rfl
theorem Fi {P:Program} {e:Env} {ds:List Deferred} {w:World} {fn:Func} {R:Value→World→Prop} {t0:Tmp} {v0:Value} {y0:TypeId} {a0:Addr} (hres:fn.results=#[.cell t0 y0]) (hd:ds=[]) (h0:e t0=.pointer (some a0)) (l0:(loadVar y0 a0).run P w=.ok v0 w) (h:R v0 w):Yw P fn R .ret e ds w:=
 ⟨hd,fun tmps ht=>⟨_,by simp [results,hres,ht,asAddr,h0,l0],h⟩⟩
theorem lay_80:Ku Tryz.prog 80=some ([.int .i64 0,.int .i64 0],[(0,1),(1,1)]):=by kernel_rfl
theorem lay_105:Ku Tryz.prog 105=some ([.slice none 0 0,.slice none 0 0,.slice none 0 0],[(0,3)]):=by kernel_rfl
theorem Ce {e:Env} {f:FuncId} {o0:Operand} {b0:Value} (hb0:ev e o0=b0):(Value.func (.func f) ((#[]:Array Operand).map (ev e)) ((#[o0]:Array Operand).map (ev e)))=.func (.func f) #[] #[b0]:=by simp [hb0]
theorem info_28:(Tryz.prog.info? 28).map (fun i=>(i.zero,i.size,i.bytes))=some (some (.slice none 0 0),1,24):=by kernel_rfl
theorem Sk:Ku Tryz.prog 113=some ([.int .i64 0,.int .i64 0],[(0,1),(1,1)]):=by kernel_rfl
theorem pl_110:Pl (Vector Int 4):=Pl.array Pl.int
theorem pl_111:Pl (Vector (Vector Int 4) 2):=Pl.array pl_110
theorem pl_113:Pl Gg:=Pl.of (Pl.prod Pl.int Pl.int)
theorem pl_115:Pl Tf:=Pl.of (Pl.prod pl_111 pl_113)
theorem Tx:Pl Gd:=Pl.of (Pl.prod Pl.int (Pl.prod Pl.int pl_115))
theorem eqd_110:EqD Tryz.prog (Vector Int 4) 2 110:=EqD.array Tryz.underlying110 Ua (by kernel_rfl) Tryz.isAgg3 Tryz.sizeOf3 (EqD.int Tryz.underlying3)
theorem info_110:(Tryz.prog.info? 110).map (fun i=>(i.zero,i.size,i.bytes))=some (some (.agg #[.int .i64 0,.int .i64 0,.int .i64 0,.int .i64 0]),4,32):=by kernel_rfl
theorem eqd_111:EqD Tryz.prog (Vector (Vector Int 4) 2) 3 111:=EqD.array Tryz.underlying111 info_110 (by kernel_rfl) Tryz.isAgg110 Tryz.sizeOf110 eqd_110
theorem fl_113 : Tryz.prog.fieldsOf 113 = #[{ name := "Left", type := 3, offset := 0, embedded := false, tag := "", pkgPath := "", byteOffset := 0 }, { name := "Right", type := 3, offset := 1, embedded := false, tag := "", pkgPath := "", byteOffset := 8 }] := by kernel_rfl
theorem eqd_113:EqD Tryz.prog Gg 2 113:=EqD.struct rfl (by kernel_rfl) (by kernel_rfl) (by rw [fl_113]; exact (FEq.cons (by decide) (Kz).1 Tryz.isAgg3 Tryz.sizeOf3 (EqD.int Tryz.underlying3) (FEq.cons (by decide) (Hd).1 Tryz.isAgg3 Tryz.sizeOf3 (EqD.int Tryz.underlying3) FEq.nil))) (fun x y=>by cases x; cases y; simp)
theorem fl_115 : Tryz.prog.fieldsOf 115 = #[{ name := "boxes", type := 111, offset := 0, embedded := false, tag := "", pkgPath := "griffe/box", byteOffset := 0 }, { name := "at", type := 113, offset := 8, embedded := false, tag := "", pkgPath := "griffe/box", byteOffset := 64 }] := by kernel_rfl
theorem eqd_115:EqD Tryz.prog Tf 4 115:=EqD.struct rfl (by kernel_rfl) (by kernel_rfl) (by rw [fl_115]; exact (FEq.cons (by decide) (Hb).1 Tryz.isAgg111 Tryz.sizeOf111 eqd_111 (FEq.cons (by decide) (Hv).1 Tryz.isAgg113 Tryz.sizeOf113 (eqd_113.up (by decide)) FEq.nil))) (fun x y=>by cases x; cases y; simp)
theorem fl_119 : Tryz.prog.fieldsOf 119 = #[{ name := "group", type := 3, offset := 0, embedded := false, tag := "", pkgPath := "griffe/box", byteOffset := 0 }, { name := "done", type := 3, offset := 1, embedded := false, tag := "", pkgPath := "griffe/box", byteOffset := 8 }, { name := "race", type := 115, offset := 2, embedded := true, tag := "", pkgPath := "griffe/box", byteOffset := 16 }] := by kernel_rfl
theorem eqd_119:EqD Tryz.prog Gd 5 119:=EqD.struct rfl (by kernel_rfl) (by kernel_rfl) (by rw [fl_119]; exact (FEq.cons (by decide) (Wy).1 Tryz.isAgg3 Tryz.sizeOf3 ((EqD.int Tryz.underlying3).up (by decide)) (FEq.cons (by decide) (Kp).1 Tryz.isAgg3 Tryz.sizeOf3 ((EqD.int Tryz.underlying3).up (by decide)) (FEq.cons (by decide) (Hh).1 Tryz.isAgg115 Tryz.sizeOf115 eqd_115 FEq.nil)))) (fun x y=>by cases x; cases y; simp)
theorem ckd_110:CkD Tryz.prog (Vector Int 4) 2 110:=CkD.array Tryz.underlying110 Ua (by kernel_rfl) Tryz.isAgg3 Tryz.sizeOf3 (CkD.int Tryz.underlying3)
theorem ckd_111:CkD Tryz.prog (Vector (Vector Int 4) 2) 3 111:=CkD.array Tryz.underlying111 info_110 (by kernel_rfl) Tryz.isAgg110 Tryz.sizeOf110 ckd_110
theorem ckd_113:CkD Tryz.prog Gg 2 113:=CkD.struct rfl Tryz.underlying113 fun f hf=>by
 simp only [List.mem_cons,List.not_mem_nil,or_false] at hf;rcases hf with rfl | rfl
 ·exact ⟨by decide,_,_,_,(Kz).1,Tryz.isAgg3,Tryz.sizeOf3,(CkD.int Tryz.underlying3)⟩
 ·exact ⟨by decide,_,_,_,(Hd).1,Tryz.isAgg3,Tryz.sizeOf3,(CkD.int Tryz.underlying3)⟩
theorem ckd_115:CkD Tryz.prog Tf 4 115:=CkD.struct rfl Tryz.underlying115 fun f hf=>by
 simp only [List.mem_cons,List.not_mem_nil,or_false] at hf;rcases hf with rfl | rfl
 ·exact ⟨by decide,_,_,_,(Hb).1,Tryz.isAgg111,Tryz.sizeOf111,ckd_111⟩
 ·exact ⟨by decide,_,_,_,(Hv).1,Tryz.isAgg113,Tryz.sizeOf113,ckd_113.up (by decide)⟩
theorem ckd_119:CkD Tryz.prog Gd 5 119:=CkD.struct rfl Tryz.underlying119 fun f hf=>by
 simp only [List.mem_cons,List.not_mem_nil,or_false] at hf;rcases hf with rfl | rfl | rfl
 ·exact ⟨by decide,_,_,_,(Wy).1,Tryz.isAgg3,Tryz.sizeOf3,(CkD.int Tryz.underlying3).up (by decide)⟩
 ·exact ⟨by decide,_,_,_,(Kp).1,Tryz.isAgg3,Tryz.sizeOf3,(CkD.int Tryz.underlying3).up (by decide)⟩
 ·exact ⟨by decide,_,_,_,(Hh).1,Tryz.isAgg115,Tryz.sizeOf115,ckd_115⟩
theorem Pk:Xq Tryz.prog 119 (Wt Tx):=Ns Tx (by rw [Tryz.underlying119]) rfl eqd_119 ckd_119 (by decide)
theorem lay_193:Ku Tryz.prog 193=some ([.int .i64 0,.int .i64 0,.map none],[(0,1),(1,1),(2,1)]):=by kernel_rfl
theorem Ny:Ku Tryz.prog 134=some ([.slice none 0 0,.int .i64 0,.slice none 0 0],[(0,2),(2,1)]):=by kernel_rfl
theorem Py:Xq Tryz.prog 3 (Value.int .i64):=keyLaw_int Tryz.underlying3
theorem info_4:(Tryz.prog.info? 4).map (fun i=>(i.zero,i.size,i.bytes))=some (some (.bool false),1,1):=by kernel_rfl
theorem Ci {e:Env} {f:FuncId} {o0:Operand} {l5:Operand} {b0:Value} {b1:Value} (hb0:ev e o0=b0) (hb1:ev e l5=b1):(Value.func (.func f) ((#[]:Array Operand).map (ev e)) ((#[o0,l5]:Array Operand).map (ev e)))=.func (.func f) #[] #[b0,b1]:=by simp [hb0,hb1]
theorem Cl {P:Program} {e:Env} {ds:List Deferred} {w:World} {fn:Func} {R:Value→World→Prop} {t0:Tmp} {v0:Value} {y0:TypeId} {a0:Addr} {t1:Tmp} {v1:Value} {t2:Tmp} {v2:Value} (hres:fn.results=#[.cell t0 y0,.tmp t1,.tmp t2]) (hd:ds=[]) (h0:e t0=.pointer (some a0)) (l0:(loadVar y0 a0).run P w=.ok v0 w) (h1:e t1=v1) (h2:e t2=v2) (h:R (.tuple #[v0,v1,v2]) w):Yw P fn R .ret e ds w:=
 ⟨hd,fun tmps ht=>⟨_,by simp [results,hres,ht,asAddr,h0,l0,h1,h2],h⟩⟩
theorem capf_0_3 {e:Env} {f:FuncId} {o0:Operand} {l5:Operand} {t5:Operand} {b0:Value} {b1:Value} {b2:Value} (hb0:ev e o0=b0) (hb1:ev e l5=b1) (hb2:ev e t5=b2):(Value.func (.func f) ((#[]:Array Operand).map (ev e)) ((#[o0,l5,t5]:Array Operand).map (ev e)))=.func (.func f) #[] #[b0,b1,b2]:=by simp [hb0,hb1,hb2]
theorem Ih:Ku Tryz.prog 83=some ([.int .i64 0,.int .i64 0,.int .i64 0,.int .i64 0,.int .i64 0],[(0,1),(1,1),(2,1),(3,2)]):=by kernel_rfl
theorem lay_66:Ku Tryz.prog 66=some ([.int .i64 0,.int .i64 0,.int .i64 0],[(0,1),(1,1),(2,1)]):=by kernel_rfl
theorem lay_168:Ku Tryz.prog 168=some ([.slice none 0 0,.int .i64 0,.int .i64 0,.int .i64 0,.int .i64 0,.int .i64 0,.int .i64 0,.int .i64 0,.int .i64 0,.int .i64 0,.int .i64 0,.int .i64 0],[(0,1),(1,10),(11,1)]):=by kernel_rfl
theorem lay_198:Ku Tryz.prog 198=some ([.int .i64 0,.int .i64 0,.int .i64 0,.int .i64 0,.int .i64 0,.int .i64 0,.int .i64 0,.int .i64 0,.int .i64 0,.int .i64 0,.int .i64 0,.int .i64 0],[(0,10),(10,1),(11,1)]):=by kernel_rfl
theorem Rl:Pl (Vector Int 2):=Pl.array Pl.int
theorem eqd_191:EqD Tryz.prog (Vector Int 2) 2 191:=EqD.array Tryz.underlying191 Ua (by kernel_rfl) Tryz.isAgg3 Tryz.sizeOf3 (EqD.int Tryz.underlying3)
theorem ckd_191:CkD Tryz.prog (Vector Int 2) 2 191:=CkD.array Tryz.underlying191 Ua (by kernel_rfl) Tryz.isAgg3 Tryz.sizeOf3 (CkD.int Tryz.underlying3)
theorem key_191:Xq Tryz.prog 191 (Wt Rl):=Ns Rl (by rw [Tryz.underlying191]) rfl eqd_191 ckd_191 (by decide)
theorem layA_191:((Tryz.prog.info? 191).bind (·.zero)).map (·.cells.toList)=some [.int .i64 0,.int .i64 0]:=by kernel_rfl
theorem szA_3:(Tryz.prog.info? 3).map (·.size)=some 1:=by kernel_rfl
theorem Ok {P:Program} {e:Env} {ds:List Deferred} {w:World} {fn:Func} {R:Value→World→Prop} {t0:Tmp} {v0:Value} {y0:TypeId} {a0:Addr} {t1:Tmp} {v1:Value} {y1:TypeId} {a1:Addr} (hres:fn.results=#[.cell t0 y0,.cell t1 y1]) (hd:ds=[]) (h0:e t0=.pointer (some a0)) (l0:(loadVar y0 a0).run P w=.ok v0 w) (h1:e t1=.pointer (some a1)) (l1:(loadVar y1 a1).run P w=.ok v1 w) (h:R (.tuple #[v0,v1]) w):Yw P fn R .ret e ds w:=
 ⟨hd,fun tmps ht=>⟨_,by simp [results,hres,ht,asAddr,h0,l0,h1,l1],h⟩⟩
theorem lay_119:Ku Tryz.prog 119=some ([.int .i64 0,.int .i64 0,.int .i64 0,.int .i64 0,.int .i64 0,.int .i64 0,.int .i64 0,.int .i64 0,.int .i64 0,.int .i64 0,.int .i64 0,.int .i64 0],[(0,1),(1,1),(2,10)]):=by kernel_rfl
theorem info_66:(Tryz.prog.info? 66).map (fun i=>(i.zero,i.size,i.bytes))=some (some (.agg #[.int .i64 0,.int .i64 0,.int .i64 0]),3,24):=by kernel_rfl
theorem Mv {P:Program} {e:Env} {ds:List Deferred} {w:World} {fn:Func} {R:Value→World→Prop} {t0:Tmp} {v0:Value} {y0:TypeId} {a0:Addr} {t1:Tmp} {v1:Value} {y1:TypeId} {a1:Addr} {t2:Tmp} {v2:Value} {t3:Tmp} {v3:Value} (hres:fn.results=#[.cell t0 y0,.cell t1 y1,.tmp t2,.tmp t3]) (hd:ds=[]) (h0:e t0=.pointer (some a0)) (l0:(loadVar y0 a0).run P w=.ok v0 w) (h1:e t1=.pointer (some a1)) (l1:(loadVar y1 a1).run P w=.ok v1 w) (h2:e t2=v2) (h3:e t3=v3) (h:R (.tuple #[v0,v1,v2,v3]) w):Yw P fn R .ret e ds w:=
 ⟨hd,fun tmps ht=>⟨_,by simp [results,hres,ht,asAddr,h0,l0,h1,l1,h2,h3],h⟩⟩
theorem info_113:(Tryz.prog.info? 113).map (fun i=>(i.zero,i.size,i.bytes))=some (some (.agg #[.int .i64 0,.int .i64 0]),2,16):=by kernel_rfl
theorem fl_66 : Tryz.prog.fieldsOf 66 = #[{ name := "Order", type := 3, offset := 0, embedded := false, tag := "", pkgPath := "", byteOffset := 0 }, { name := "Loom", type := 3, offset := 1, embedded := false, tag := "", pkgPath := "", byteOffset := 8 }, { name := "From", type := 3, offset := 2, embedded := false, tag := "", pkgPath := "", byteOffset := 16 }] := by kernel_rfl
theorem seq_66:SEq (α:=Gl) Tryz.prog 66:=by
 intro d x y w a b m wx m2 wy hx hy;obtain ⟨_,⟨_,_,rfl,rfl,⟨_,_,rfl,rfl,rfl⟩⟩,rfl⟩:=hx;obtain ⟨_,⟨_,_,rfl,rfl,⟨_,_,rfl,rfl,rfl⟩⟩,rfl⟩:=hy;refine (run_equalIn_struct w (d + 1) 66 _ _ (by kernel_rfl) (by kernel_rfl)).trans ?_;rw [fl_66];obtain ⟨x0,x1,x2⟩:=x;obtain ⟨y0,y1,y2⟩:=y;show (Op.eqFields (d + 1) #[.int .i64 (x0),.int .i64 (x1),.int .i64 (x2)] #[.int .i64 (y0),.int .i64 (y1),.int .i64 (y2)] _).run _ _=_;have x0p:(part 3 #[.int .i64 (x0),.int .i64 (x1),.int .i64 (x2)] 0).run Tryz.prog w=.ok (.int .i64 (x0)) w:=Df Tryz.isAgg3 rfl;have x1p:(part 3 #[.int .i64 (x0),.int .i64 (x1),.int .i64 (x2)] 1).run Tryz.prog w=.ok (.int .i64 (x1)) w:=Df Tryz.isAgg3 rfl;have x2p:(part 3 #[.int .i64 (x0),.int .i64 (x1),.int .i64 (x2)] 2).run Tryz.prog w=.ok (.int .i64 (x2)) w:=Df Tryz.isAgg3 rfl;have y0p:(part 3 #[.int .i64 (y0),.int .i64 (y1),.int .i64 (y2)] 0).run Tryz.prog w=.ok (.int .i64 (y0)) w:=Df Tryz.isAgg3 rfl;have y1p:(part 3 #[.int .i64 (y0),.int .i64 (y1),.int .i64 (y2)] 1).run Tryz.prog w=.ok (.int .i64 (y1)) w:=Df Tryz.isAgg3 rfl;have y2p:(part 3 #[.int .i64 (y0),.int .i64 (y1),.int .i64 (y2)] 2).run Tryz.prog w=.ok (.int .i64 (y2)) w:=Df Tryz.isAgg3 rfl;simp only [Op.eqFields,Sem.run_bind,Sem.run_ite,Sem.run_pure,x0p,x1p,x2p,y0p,y1p,y2p,Result.andThen_ok,run_equalIn_int _ _ _ _ _ _ _ Tryz.underlying3];simp;grind
theorem eg_66:Tryz.prog.eqGuardType Tryz.prog.depth 66=false:=by kernel_rfl
theorem en61:Enters Tryz.prog 61:=enters_of Tryz.func61 (by kernel_rfl) rfl
theorem en96:Enters Tryz.prog 96:=enters_of Tryz.func96 (by kernel_rfl) rfl
def f6 (x0:UInt8) (x1:UInt8) (x2:List (Vector UInt8 3)):Option (LoomMill × (List Gf)):=
 (Jw ((x1).toNat:Int) (4:Int)).bind fun y2=>
 Option.bind (α:=LoomMill) (
  lp (σ:=LoomMill × Int) (fun uN (nD,v8)=>
   jn (σ:=Unit) (fun _=>
    Option.bind (α:=LoomMill) (
     (apnd 8 ((nD).Widths) (([(10:Int)]:List Int))).bind fun pI=>
     some ({ nD with Widths:=pI })
     ) fun aE=>
    uN (aE,(w64 (v8 + (1:Int))))
    ) fun vN=>
   (Jw ((x0).toNat:Int) (3:Int)).bind fun gH=>
   bif (decide (v8 ≤ gH)) then
    vN ()
   else
    some (nD)
   ) big ((⟨[],y2⟩:LoomMill),(0:Int))
  ) fun t5=>
 Option.bind (α:=(List Gf)) (
  lp (σ:=(List Gf) × Int × Int) (fun qI (aB,g8,o0)=>
   jn (σ:=Unit) (fun _=>
    Option.bind (α:=(List Gf) × Int) (
     (idx x2 o0).bind fun sI=>
     (idx (sI).toList (0:Int)).bind fun vE=>
     (Jw ((vE).toNat:Int) (10:Int)).bind fun vB=>
     (idx x2 o0).bind fun jJ=>
     (idx (jJ).toList (1:Int)).bind fun xE=>
     (Jw ((xE).toNat:Int) (3:Int)).bind fun bD=>
     (idx x2 o0).bind fun kJ=>
     (idx (kJ).toList (2:Int)).bind fun yE=>
     (Jw ((yE).toNat:Int) (12:Int)).bind fun l8=>
     (idx x2 o0).bind fun lJ=>
     (idx (lJ).toList (1:Int)).bind fun yG=>
     (Rd ((yG).toNat:Int) (3:Int)).bind fun zG=>
     (Jw zG (9:Int)).bind fun iE=>
     (apnd 40 aB (([(⟨(w64 ((1:Int) + vB)),bD,(w64 ((1:Int) + l8)),0,(w64 ((w64 (g8 + (w64 ((w64 ((1:Int) + l8)) + (t5).Change)))) + iE))⟩:Gf)]:List Gf))).bind fun mJ=>
     some (mJ,(w64 (g8 + (w64 ((w64 ((1:Int) + l8)) + (t5).Change)))))
     ) fun (cD,oD)=>
    qI (cD,oD,(w64 (o0 + (1:Int))))
    ) fun nJ=>
   Option.bind (α:=Bool) (
    bif (decide (o0 < ((x2).length : Int))) then
     some ((decide (o0 < (6:Int))))
    else
     some (false)
    ) fun nB=>
   bif nB then
    nJ ()
   else
    some (aB)
   ) big (([]:List Gf),(0:Int),(0:Int))
  ) fun bE=>
 some (t5,bE)
theorem en6:Enters Tryz.prog 6:=enters_of Tryz.func6 (by kernel_rfl) rfl
theorem wk6 {gI:Gh} {wI:World} {x0:UInt8} {x1:UInt8} {x2:List (Vector UInt8 3)} {up2:Value} (rp2:RV gI.m wI x2 up2) {r:LoomMill × (List Gf)} (h:f6 x0 x1 x2=some r):Fn Tryz.prog 6 #[.int .u8 (UInt8.toNat (x0)),.int .u8 (UInt8.toNat (x1)),up2] gI wI (fun m w v=>∃ y0 y1,v=.tuple #[y0,y1]∧RV m w (r.1) y0∧RV m w (r.2) y1):=by
 unfold f6 at h;refine Tc Tryz.func6 rfl (Nat.le_of_ble_eq_true rfl) fun g0 hm hfr=>?_;have rp2:RV g0.m wI x2 up2:=hm ▸ rp2;show E _ 89 none _ _ _ _ _;refine Zf (Za (Ze .plain rfl (Gu (g:=g0) 2006 (⟨[],0⟩:LoomMill) Tryz.zeroValue30 (fun m w=>⟨_,(Gk Ti Zx),rfl⟩) fun g1 w1 p1 hs b1 cb=>?_)));have hfr:=hfr.stp hs;have rp2:=rp2.stp hs;have zD:OSF 2006 60600 0 g1 w1 3 30 ([]:List Int) p1:=cb.osf (by rfl);clear cb;refine Zg (.slice none 0 0) rfl rfl ?_;refine Zb (Zd (Zf (Za (Zn (.int .u8 (UInt8.toNat (x1))) rfl rfl ?_))));refine Zy (.int .i64 (((x1).toNat:Int))) (Ji Tryz.underlying5 Tryz.underlying3 rfl) rfl ?_;obtain ⟨y2,hy2,h⟩:=Gc h;refine Zy (.int .i64 (y2)) (Td rfl rfl (congrArg (Option.map (Value.int .i64)) hy2)) rfl ?_;have r3:RV g1.m w1 (⟨[],y2⟩:LoomMill) (.agg (Tt [[.slice none 0 0],[.int .i64 0]] [(1,.int .i64 (y2))]).flatten.toArray):=Qe rfl (Tb (Ti) (Qi (rfl)));generalize hv3:(Value.agg (Tt [[.slice none 0 0],[.int .i64 0]] [(1,.int .i64 (y2))]).flatten.toArray)=v3 at r3;refine Zy v3 (hv3 ▸ Wd (vs:=[(1,.int .i64 (y2))]) [[.slice none 0 0],[.int .i64 0]] lay_30 rfl rfl (.cons rfl .nil) ⟨⟨_,rfl,rfl⟩,trivial⟩) rfl ?_;refine Ze .plain rfl (Gp (g:=g1) 3018 (xs:=([]:List Gf)) (vs:=[]) Tryz.underlying31 Tryz.sizeOf49 Tryz.zeroValue49 rfl rfl .nil RVs.nil rfl rfl fun g4 w4 v4 hs o4 r4 hxt hfl=>?_);have hfr:=hfr.stp hs;have rp2:=rp2.stp hs;have zD:=zD.stp hs rfl;have b1:=b1.stp hs rfl;have r3:=r3.stp hs;refine Ze .plain rfl (Gu (g:=g4) 2008 (⟨[],0⟩:LoomMill) Tryz.zeroValue30 (fun m w=>⟨_,(Gk Ti Zx),rfl⟩) fun g5 w5 p5 hs b5 cb=>?_);have hfr:=hfr.stp hs;have rp2:=rp2.stp hs;have zD:=zD.stp hs rfl;have b1:=b1.stp hs rfl;have r3:=r3.stp hs;have r4:=r4.stp hs;have o4:=o4.stp hs rfl;have uP:OSF 2008 60800 0 g5 w5 3 30 ([]:List Int) p5:=cb.osf (by rfl);clear cb;refine Ze .plain rfl (Gn (g:=g5) (v:=v3) Tryz.sizeOf30 rfl b5 rfl r3 fun g6 w6 hs b6 cb=>?_);have aO:OSF 2008 60800 0 g6 w6 3 30 ([]:List Int) p5:=cb.osf (by rw [← hv3]; rfl);clear cb;have hfr:=hfr.stp hs;have rp2:=rp2.stp hs;have zD:=zD.stp hs rfl;have b1:=b1.stp hs rfl;have r4:=r4.stp hs;have o4:=o4.stp hs rfl;refine Zg v4 rfl rfl ?_;refine Zg (.int .i64 (0)) rfl rfl ?_;refine Zb (Zd ?_);obtain ⟨t5,hx,h⟩:=Gc h;refine Tq (fun e w=>∃ (g:Gh) ,Fr gI wI g w∧e 2=up2∧RV g.m w (x2:List (Vector UInt8 3)) up2∧e 6=p1∧OB 2006 g w 30 ((⟨[],0⟩:LoomMill):LoomMill) p1∧OSF 2006 60600 0 g w 3 30 (((⟨[],0⟩:LoomMill)).Widths) p1∧e 8=p5∧OB 2008 g w 30 (t5:LoomMill) p5∧OSF 2008 60800 0 g w 3 30 ((t5).Widths) p5∧e 9=v4∧RV g.m w (([]:List Gf):List Gf) v4∧OS 3018 g w 49 (([]:List Gf):List Gf) v4∧e 10=.int .i64 ((0:Int))) (fun Q' hQ=>?_) (fun vP vQ hR=>?_)
 ·replace h := hx
  clear hx;refine Zf (Za (Zg (.int .i64 (0)) rfl rfl ?_));refine Zb (Zd (Zr ?_));refine Je h (fun (s:LoomMill × Int) e w=>∃ (g:Gh) ,Fr gI wI g w∧e 0=.int .u8 (UInt8.toNat (x0))∧e 2=up2∧RV g.m w (x2:List (Vector UInt8 3)) up2∧e 6=p1∧OB 2006 g w 30 ((⟨[],0⟩:LoomMill):LoomMill) p1∧OSF 2006 60600 0 g w 3 30 (((⟨[],0⟩:LoomMill)).Widths) p1∧e 8=p5∧OB 2008 g w 30 (s.1:LoomMill) p5∧OSF 2008 60800 0 g w 3 30 ((s.1).Widths) p5∧e 9=v4∧RV g.m w (([]:List Gf):List Gf) v4∧OS 3018 g w 49 (([]:List Gf):List Gf) v4∧e 10=.int .i64 ((0:Int))∧e 11=.int .i64 (s.2)) ⟨g6,hfr,rfl,rfl,rp2,rfl,b1,zD,rfl,b6,aO,rfl,r4,o4,rfl,rfl⟩ (fun X30 uN bO=>?_);rintro ⟨nD,v8⟩ xP xQ ⟨xN,hfr,jH,kH,lH,mH,nH,u6_0_31,oH,pH,u8_0_31,qH,sH,tH,rF,sF⟩ h;refine Zq h (fun (s:Unit) e w=>∃ (g:Gh) ,Fr gI wI g w∧e 0=.int .u8 (UInt8.toNat (x0))∧e 2=up2∧RV g.m w (x2:List (Vector UInt8 3)) up2∧e 6=p1∧OB 2006 g w 30 ((⟨[],0⟩:LoomMill):LoomMill) p1∧OSF 2006 60600 0 g w 3 30 (((⟨[],0⟩:LoomMill)).Widths) p1∧e 8=p5∧OB 2008 g w 30 (nD:LoomMill) p5∧OSF 2008 60800 0 g w 3 30 ((nD).Widths) p5∧e 9=v4∧RV g.m w (([]:List Gf):List Gf) v4∧OS 3018 g w 49 (([]:List Gf):List Gf) v4∧e 10=.int .i64 ((0:Int))∧e 11=.int .i64 (v8)) (fun X34 vN cO h=>?_) ?_
  ·refine Zf (Za (Zo sF rfl ?_))
   refine Zo jH rfl ?_;refine Zy (.int .i64 (((x0).toNat:Int))) (Ji Tryz.underlying5 Tryz.underlying3 rfl) rfl ?_;obtain ⟨gH,dO,h⟩:=Gc h;refine Zy (.int .i64 (gH)) (Td rfl rfl (congrArg (Option.map (Value.int .i64)) dO)) rfl ?_;refine Gy (.bool ((decide (v8 ≤ gH)))) rfl rfl rfl rfl ?_;refine Zb (Zd ?_);rcases Zt h with ⟨aH,h⟩ | ⟨aH,h⟩
   ·refine Qo aH rfl ?_
    exact Zu (Zd (cO () _ _ ⟨xN,hfr,jH,kH,lH,mH,nH,u6_0_31,oH,pH,u8_0_31,qH,sH,tH,rF,sF⟩ h))
   ·refine Qm aH rfl ?_
    refine Qz ?_;refine Tr ?_;refine Tr ?_;refine Tz ?_;obtain rfl:=sinj h;exact hQ _ _ ⟨xN,hfr,kH,lH,mH,nH,u6_0_31,oH,pH,u8_0_31,qH,sH,tH,rF⟩
  ·rintro _ yP yQ ⟨yN, hfr, oL, xL, yB, yL, zB, u6_0_37, zE, mB, u8_0_37, zL, cC, uC, oJ, pJ⟩ h
   obtain ⟨aE,hx,h⟩:=Gc h;refine Tq (fun e w=>∃ (g:Gh) ,Fr gI wI g w∧e 0=.int .u8 (UInt8.toNat (x0))∧e 2=up2∧RV g.m w (x2:List (Vector UInt8 3)) up2∧e 6=p1∧OB 2006 g w 30 ((⟨[],0⟩:LoomMill):LoomMill) p1∧OSF 2006 60600 0 g w 3 30 (((⟨[],0⟩:LoomMill)).Widths) p1∧e 8=p5∧OB 2008 g w 30 (aE:LoomMill) p5∧OSF 2008 60800 0 g w 3 30 ((aE).Widths) p5∧e 9=v4∧RV g.m w (([]:List Gf):List Gf) v4∧OS 3018 g w 49 (([]:List Gf):List Gf) v4∧e 10=.int .i64 ((0:Int))∧e 11=.int .i64 (v8)) (fun Q' hQ=>?_) (fun zP zQ hR=>?_)
   ·replace h := hx
    clear hx;refine Zr ?_;refine Za (Zy (Gm p5 0) (Zc Ul zE (OB.ptr mB)) rfl ?_);refine Ze .plain rfl (Au (g:=yN) Wx.1 Tryz.isAgg28 Tryz.sizeOf28 rfl mB u8_0_37 fun aR qJ o46=>?_);refine Ze .plain rfl (Gp (g:=yN) 3028 (xs:=([(10:Int)]:List Int)) (vs:=[.int .i64 (10)]) Tryz.underlying28 Tryz.sizeOf3 Tryz.zeroValue3 rfl rfl (.cons rfl .nil) (RVs.cons (Zj.2 rfl) RVs.nil) rfl rfl fun eP bR dR hs o47 gP hxt hfl=>?_);have hfr:=hfr.stp hs;have yB:=yB.stp hs;have u6_0_37:=u6_0_37.stp hs rfl;have zB:=zB.stp hs rfl;have mB:=mB.stp hs rfl;have cC:=cC.stp hs;have uC:=uC.stp hs rfl;have qJ:=qJ.stp hs;have o46:=o46.stp hs rfl;obtain ⟨pI,eO,h⟩:=Gc h;refine Ze .plain rfl (Ha (g:=eP) (i:=60800) Tryz.underlying28 Ua rfl rfl o46 qJ rfl gP eO fun iP eR gR hs o48 zN _=>?_);have hfr:=hfr.stp hs;have yB:=yB.stp hs;have u6_0_37:=u6_0_37.stp hs rfl;have zB:=zB.stp hs rfl;have mB:=mB.stp hs rfl;have cC:=cC.stp hs;have uC:=uC.stp hs rfl;refine Zy (Gm p5 0) (Zc Ul zE (OB.ptr mB)) rfl ?_;refine Ze .plain rfl (Kb (g:=iP) Wx Tryz.sizeOf28 rfl mB rfl zN fun jP iR hs b51 rst hos=>?_);have aM:=hos _ _ 60800 3 (pI:List Int) (St zN) rfl o48;clear rst hos;have hfr:=hfr.stp hs;have yB:=yB.stp hs;have u6_0_37:=u6_0_37.stp hs rfl;have zB:=zB.stp hs rfl;have cC:=cC.stp hs;have uC:=uC.stp hs rfl;refine Zb (Qx ?_);obtain rfl:=sinj h;exact hQ _ _ ⟨jP,hfr,oL,xL,yB,yL,zB,u6_0_37,zE,b51,aM,zL,cC,uC,oJ,pJ⟩
   ·clear hx
    obtain ⟨kP,hfr,bM,cM,dM,eM,iM,u6_0_52,jM,kM,u8_0_52,pM,qM,rM,rJ,sJ⟩:=hR;refine Za (Zo sJ rfl ?_);refine Gy (.int .i64 ((w64 (v8 + (1:Int))))) rfl rfl rfl rfl ?_;refine Zg (.int .i64 ((w64 (v8 + (1:Int))))) rfl rfl ?_;exact Zb (Zd (bO (aE,(w64 (v8 + (1:Int)))) _ _ ⟨kP,hfr,bM,cM,dM,eM,iM,u6_0_52,jM,kM,u8_0_52,pM,qM,rM,rJ,rfl⟩ h))
 ·clear hx
  obtain ⟨lP,hfr,sM,tM,uM,vM,u6_0_53,xM,bN,u8_0_53,cN,dN,eN,vJ⟩:=hR;obtain ⟨bE,hx,h⟩:=Gc h;refine Tq (fun e w=>∃ (g:Gh) (v9:Value),Fr gI wI g w∧e 6=p1∧OB 2006 g w 30 ((⟨[],0⟩:LoomMill):LoomMill) p1∧OSF 2006 60600 0 g w 3 30 (((⟨[],0⟩:LoomMill)).Widths) p1∧e 8=p5∧OB 2008 g w 30 (t5:LoomMill) p5∧OSF 2008 60800 0 g w 3 30 ((t5).Widths) p5∧e 9=v9∧RV g.m w (bE:List Gf) v9∧OS 3018 g w 49 (bE:List Gf) v9) (fun Q' hQ=>?_) (fun nP bQ hR=>?_)
  ·replace h := hx
   clear hx;refine Zf (Za (Zg (.int .i64 (0)) rfl rfl ?_));refine Zb (Zd (Zr ?_));refine Je h (fun (s:(List Gf) × Int × Int) e w=>∃ (g:Gh) (v9:Value),Fr gI wI g w∧e 2=up2∧RV g.m w (x2:List (Vector UInt8 3)) up2∧e 6=p1∧OB 2006 g w 30 ((⟨[],0⟩:LoomMill):LoomMill) p1∧OSF 2006 60600 0 g w 3 30 (((⟨[],0⟩:LoomMill)).Widths) p1∧e 8=p5∧OB 2008 g w 30 (t5:LoomMill) p5∧OSF 2008 60800 0 g w 3 30 ((t5).Widths) p5∧e 9=v9∧RV g.m w (s.1:List Gf) v9∧OS 3018 g w 49 (s.1:List Gf) v9∧e 10=.int .i64 (s.2.1)∧e 12=.int .i64 (s.2.2)) ⟨lP,(v4),hfr,sM,tM,uM,vM,u6_0_53,xM,bN,u8_0_53,cN,dN,eN,vJ,rfl⟩ (fun X208 qI gN=>?_);rintro ⟨aB,g8,o0⟩ oP cQ ⟨xJ,lB,hfr,lE,mE,tF,uF,u6_0_209,vF,xF,u8_0_209,yF,aG,bG,rE,yD⟩ h;refine Zq h (fun (s:Unit) e w=>∃ (g:Gh) ,Fr gI wI g w∧e 2=up2∧RV g.m w (x2:List (Vector UInt8 3)) up2∧e 6=p1∧OB 2006 g w 30 ((⟨[],0⟩:LoomMill):LoomMill) p1∧OSF 2006 60600 0 g w 3 30 (((⟨[],0⟩:LoomMill)).Widths) p1∧e 8=p5∧OB 2008 g w 30 (t5:LoomMill) p5∧OSF 2008 60800 0 g w 3 30 ((t5).Widths) p5∧e 9=lB∧RV g.m w (aB:List Gf) lB∧OS 3018 g w 49 (aB:List Gf) lB∧e 10=.int .i64 (g8)∧e 12=.int .i64 (o0)) (fun X214 nJ iN h=>?_) ?_
   ·obtain ⟨nB, hx, h⟩ := Gc h
    refine Tq (fun e w=>∃ (g:Gh) ,Fr gI wI g w∧e 2=up2∧RV g.m w (x2:List (Vector UInt8 3)) up2∧e 6=p1∧OB 2006 g w 30 ((⟨[],0⟩:LoomMill):LoomMill) p1∧OSF 2006 60600 0 g w 3 30 (((⟨[],0⟩:LoomMill)).Widths) p1∧e 8=p5∧OB 2008 g w 30 (t5:LoomMill) p5∧OSF 2008 60800 0 g w 3 30 ((t5).Widths) p5∧e 9=lB∧RV g.m w (aB:List Gf) lB∧OS 3018 g w 49 (aB:List Gf) lB∧e 10=.int .i64 (g8)∧e 12=.int .i64 (o0)∧e 38=.bool (nB)) (fun Q' hQ=>?_) (fun pP dQ hR=>?_)
    ·replace h := hx
     clear hx;refine Za (Zo yD rfl ?_);refine Zo lE rfl ?_;refine Zy (.int .i64 ((x2).length:Int)) (Qk Tryz.underlying27 rfl mE) rfl ?_;refine Gy (.bool ((decide (o0 < ((x2).length:Int))))) rfl rfl rfl rfl ?_;refine Zn (.bool ((decide (o0 < ((x2).length:Int))))) rfl rfl ?_;rcases Zt h with ⟨vC,h⟩ | ⟨vC,h⟩
     ·refine Zz (.int .i64 (o0)) (Zk yD) rfl rfl vC rfl ?_
      refine Zz (.bool ((decide (o0 < (6:Int))))) (Td rfl rfl rfl) rfl rfl vC rfl ?_;refine Zy (.bool ((decide (o0 < (6:Int))))) (Zl (b:=(decide (o0 < ((x2).length:Int)))) rfl (Ty vC rfl)) rfl ?_;refine Zb ?_;obtain rfl:=sinj h;exact hQ _ _ ⟨xJ,hfr,lE,mE,tF,uF,u6_0_209,vF,xF,u8_0_209,yF,aG,bG,rE,yD,rfl⟩
     ·refine Ga rfl rfl vC rfl rfl ?_
      refine Ga rfl rfl vC rfl rfl ?_;refine Zy (.bool false) (Zl (b:=(decide (o0 < ((x2).length:Int)))) rfl (Qd vC rfl)) rfl ?_;refine Zb ?_;obtain rfl:=sinj h;exact hQ _ _ ⟨xJ,hfr,lE,mE,tF,uF,u6_0_209,vF,xF,u8_0_209,yF,aG,bG,rE,yD,rfl⟩
    ·clear hx
     obtain ⟨zJ,hfr,aK,bK,cG,eG,u6_0_217,gG,iG,u8_0_217,jG,kG,lG,jI,kI,uE⟩:=hR;rcases Zt h with ⟨cF,h⟩ | ⟨cF,h⟩
     ·refine Qn (Eq.trans (show ev _ _ = .bool (nB) from uE) (congrArg Value.bool cF)) ?_
      exact Zu (Zd (iN () _ _ ⟨zJ,hfr,aK,bK,cG,eG,u6_0_217,gG,iG,u8_0_217,jG,kG,lG,jI,kI⟩ h))
     ·refine Qa (Eq.trans (show ev _ _ = .bool (nB) from uE) (congrArg Value.bool cF)) ?_
      refine Qz ?_;refine Tr ?_;refine Tr ?_;refine Tz ?_;obtain rfl:=sinj h;exact hQ _ _ ⟨zJ,(lB),hfr,cG,eG,u6_0_217,gG,iG,u8_0_217,jG,kG,lG⟩
   ·rintro _ sP gO ⟨cK, hfr, lD, l5, dK, n8, u6_0_219, mG, i6, u8_0_219, lK, l9, n9, lI, oB⟩ h
    obtain ⟨⟨cD,oD⟩,hx,h⟩:=Gc h;refine Tq (fun e w=>∃ (g:Gh) (v9:Value),Fr gI wI g w∧e 2=up2∧RV g.m w (x2:List (Vector UInt8 3)) up2∧e 6=p1∧OB 2006 g w 30 ((⟨[],0⟩:LoomMill):LoomMill) p1∧OSF 2006 60600 0 g w 3 30 (((⟨[],0⟩:LoomMill)).Widths) p1∧e 8=p5∧OB 2008 g w 30 (t5:LoomMill) p5∧OSF 2008 60800 0 g w 3 30 ((t5).Widths) p5∧e 9=v9∧RV g.m w (cD:List Gf) v9∧OS 3018 g w 49 (cD:List Gf) v9∧e 10=.int .i64 (oD)∧e 12=.int .i64 (o0)) (fun Q' hQ=>?_) (fun tP eQ hR=>?_)
    ·replace h := hx
     clear hx;refine Zr ?_;refine Zf ?_;obtain ⟨sI,uH,h⟩:=Gc h;have mK:=Tv l5 uH;obtain ⟨vE,xH,h⟩:=Gc h;have jO:=Kw mK xH;refine Zs (x:=.tmp 44) Tryz.isAgg5 Tryz.sizeOf5 jO fun gQ kO jN=>?_;obtain rfl:=Dr.1 kO;obtain ⟨vB,kN,h⟩:=Gc h;obtain ⟨jJ,yH,h⟩:=Gc h;have nK:=Tv l5 yH;obtain ⟨xE,zH,h⟩:=Gc h;have lO:=Kw nK zH;refine Zs (x:=.tmp 52) Tryz.isAgg5 Tryz.sizeOf5 lO fun iQ mO lN=>?_;obtain rfl:=Dr.1 mO;obtain ⟨bD,mN,h⟩:=Gc h;obtain ⟨kJ,aI,h⟩:=Gc h;have oK:=Tv l5 aI;obtain ⟨yE,bI,h⟩:=Gc h;have nO:=Kw oK bI;refine Zs (x:=.tmp 59) Tryz.isAgg5 Tryz.sizeOf5 nO fun jQ oO nN=>?_;obtain rfl:=Dr.1 oO;obtain ⟨l8,oN,h⟩:=Gc h;have dF:RV cK.m gO (⟨(w64 ((1:Int) + vB)),bD,(w64 ((1:Int) + l8)),0,0⟩:Gf) (.agg (Tt [[.int .i64 0],[.int .i64 0],[.int .i64 0],[.int .i64 0],[.int .i64 0]] [(0,.int .i64 ((w64 ((1:Int) + vB)))),(1,.int .i64 (bD)),(2,.int .i64 ((w64 ((1:Int) + l8))))]).flatten.toArray):=Qe rfl (Tb (rfl) (Tb (rfl) (Tb (rfl) (Tb (Zx) (Qi (Zx))))));generalize pN:(Value.agg (Tt [[.int .i64 0],[.int .i64 0],[.int .i64 0],[.int .i64 0],[.int .i64 0]] [(0,.int .i64 ((w64 ((1:Int) + vB)))),(1,.int .i64 (bD)),(2,.int .i64 ((w64 ((1:Int) + l8))))]).flatten.toArray)=pK at dF;refine Qp (g:=cK) (n:=25) [(24,(fun v g w=>OB 2013 g w 49 (⟨0,0,0,0,0⟩:Gf) v))] [0,1,2,3,4,5,6,7,8,9,10,11,12,13,14,15,16,17,18,19,20,21,22,23,24] rfl mixed (by kernel_rfl) (⟨fun _=>up_ob,trivial⟩) ?_;refine Gb up2 rfl rfl (Zk lD) ?_;refine Gb (.int .i64 (o0)) rfl rfl (Zk oB) ?_;refine Gb (Qb up2 o0 3) rfl rfl (Zh (α:=Vector UInt8 3) Tryz.underlying27 Tryz.sizeOf78 rfl l5 rfl uH) ?_;refine Gb (Gm (Qb up2 o0 3) (((0:Int):Int).toNat * 1)) rfl rfl (Ts (α:=UInt8) Tryz.underlying78 Tryz.sizeOf5 rfl (PT.ptr mK) rfl xH) ?_;refine Tl (c:=.int .u8 (UInt8.toNat (vE))) rfl rfl .plain (fun _ _ h=>h.ch) jN rfl ?_;refine Gb (.int .i64 (((vE).toNat:Int))) rfl rfl (Ji Tryz.underlying5 Tryz.underlying3 rfl) ?_;refine Gb (.int .i64 (vB)) rfl rfl (Td rfl rfl (congrArg (Option.map (Value.int .i64)) kN)) ?_;refine Gb (.int .i64 ((w64 ((1:Int) + vB)))) rfl rfl (Td rfl rfl rfl) ?_;refine Gb up2 rfl rfl (Zk lD) ?_;refine Gb (.int .i64 (o0)) rfl rfl (Zk oB) ?_;refine Gb (Qb up2 o0 3) rfl rfl (Zh (α:=Vector UInt8 3) Tryz.underlying27 Tryz.sizeOf78 rfl l5 rfl yH) ?_;refine Gb (Gm (Qb up2 o0 3) (((1:Int):Int).toNat * 1)) rfl rfl (Ts (α:=UInt8) Tryz.underlying78 Tryz.sizeOf5 rfl (PT.ptr nK) rfl zH) ?_;refine Tl (c:=.int .u8 (UInt8.toNat (xE))) rfl rfl .plain (fun _ _ h=>h.ch) lN rfl ?_;refine Gb (.int .i64 (((xE).toNat:Int))) rfl rfl (Ji Tryz.underlying5 Tryz.underlying3 rfl) ?_;refine Gb (.int .i64 (bD)) rfl rfl (Td rfl rfl (congrArg (Option.map (Value.int .i64)) mN)) ?_;refine Gb up2 rfl rfl (Zk lD) ?_;refine Gb (.int .i64 (o0)) rfl rfl (Zk oB) ?_;refine Gb (Qb up2 o0 3) rfl rfl (Zh (α:=Vector UInt8 3) Tryz.underlying27 Tryz.sizeOf78 rfl l5 rfl aI) ?_;refine Gb (Gm (Qb up2 o0 3) (((2:Int):Int).toNat * 1)) rfl rfl (Ts (α:=UInt8) Tryz.underlying78 Tryz.sizeOf5 rfl (PT.ptr oK) rfl bI) ?_;refine Tl (c:=.int .u8 (UInt8.toNat (yE))) rfl rfl .plain (fun _ _ h=>h.ch) nN rfl ?_;refine Gb (.int .i64 (((yE).toNat:Int))) rfl rfl (Ji Tryz.underlying5 Tryz.underlying3 rfl) ?_;refine Gb (.int .i64 (l8)) rfl rfl (Td rfl rfl (congrArg (Option.map (Value.int .i64)) oN)) ?_;refine Gb (.int .i64 ((w64 ((1:Int) + l8)))) rfl rfl (Td rfl rfl rfl) ?_;refine Gb pK rfl rfl (pN ▸ Wd (vs:=[(0,.int .i64 ((w64 ((1:Int) + vB)))),(1,.int .i64 (bD)),(2,.int .i64 ((w64 ((1:Int) + l8))))]) [[.int .i64 0],[.int .i64 0],[.int .i64 0],[.int .i64 0],[.int .i64 0]] Oh rfl rfl (.cons rfl (.cons rfl (.cons rfl .nil))) ⟨⟨_,rfl,rfl⟩,⟨⟨_,rfl,rfl⟩,⟨⟨_,rfl,rfl⟩,trivial⟩⟩⟩) ?_;refine Wh (φ:=fun v g w=>OB 2013 g w 49 (⟨0,0,0,0,0⟩:Gf) v) rfl rfl .plain (fun g w hd=>Bq (g:=g) 2013 (⟨0,0,0,0,0⟩:Gf) Tryz.zeroValue49 (fun m w=>⟨_,(Gk Zx (Gk Zx (Gk Zx (Gk Zx Zx)))),rfl⟩) fun g' w' v hs b=>⟨g',hs,b⟩) (fun cH hv=>?_);clear hv;refine Yc fun pO kQ hall=>?_;have hs:=hall.1;have hfr:=hfr.ext hs;have l5:=l5.ext hs;have u6_0_219:=u6_0_219.ext hs;have n8:=n8.ext hs;have u8_0_219:=u8_0_219.ext hs
     have i6:=i6.ext hs;have l9:=l9.ext hs;have n9:=n9.ext hs;have dF:=dF.ext hs;have b341:=(Gz (A:=fun g w=>OB 2013 g w 49 (⟨0,0,0,0,0⟩:Gf) cH) 24 rfl hall);clear hs hall;refine Ze .plain rfl (Gn (g:=pO) (v:=pK) Tryz.sizeOf49 rfl b341 rfl dF fun eF lQ hs b342 cb=>?_);clear cb;have hfr:=hfr.stp hs;have l5:=l5.stp hs;have u6_0_219:=u6_0_219.stp hs rfl;have n8:=n8.stp hs rfl;have u8_0_219:=u8_0_219.stp hs rfl;have i6:=i6.stp hs rfl;have l9:=l9.stp hs;have n9:=n9.stp hs rfl;refine Zb (Zd (Zf (Za (Zo lI rfl ?_))));refine Zy (Gm cH 2) (Zc Uf rfl (OB.ptr b342)) rfl ?_;refine Ze .plain rfl (Kf (g:=eF) Wl.1 Tryz.isAgg3 Tryz.sizeOf3 rfl b342 fun mQ qO=>?_);obtain rfl:=Zj.1 qO;refine Zy (Gm p5 1) (Zc Ec mG (OB.ptr i6)) rfl ?_;refine Ze .plain rfl (Kf (g:=eF) Va.1 Tryz.isAgg3 Tryz.sizeOf3 rfl i6 fun nQ rO=>?_);obtain rfl:=Zj.1 rO;refine Zy (.int .i64 ((w64 ((w64 ((1:Int) + l8)) + (t5).Change)))) (Td rfl rfl rfl) rfl ?_;refine Zy (.int .i64 ((w64 (g8 + (w64 ((w64 ((1:Int) + l8)) + (t5).Change)))))) (Td rfl rfl rfl) rfl ?_;refine Zy (.int .i64 ((w64 (g8 + (w64 ((w64 ((1:Int) + l8)) + (t5).Change)))))) (Qt rfl) rfl ?_;refine Zb (Zd (Zf (Za (Zy (.int .i64 ((w64 (g8 + (w64 ((w64 ((1:Int) + l8)) + (t5).Change)))))) (Zk rfl) rfl ?_))));refine Zo lD rfl ?_;refine Zo oB rfl ?_;obtain ⟨lJ,dI,h⟩:=Gc h;refine Zy (Qb up2 o0 3) (Zh (α:=Vector UInt8 3) Tryz.underlying27 Tryz.sizeOf78 rfl l5 rfl dI) rfl ?_;have qK:=Tv l5 dI;obtain ⟨yG,iI,h⟩:=Gc h;refine Zy (Gm (Qb up2 o0 3) (((1:Int):Int).toNat * 1)) (Ts (α:=UInt8) Tryz.underlying78 Tryz.sizeOf5 rfl (PT.ptr qK) rfl iI) rfl ?_;have sO:=Kw qK iI;refine Ze .plain rfl (Gr (g:=eF) Tryz.isAgg5 Tryz.sizeOf5 rfl sO fun oQ tO=>?_);obtain rfl:=Dr.1 tO;refine Zy (.int .i64 (((yG).toNat:Int))) (Ji Tryz.underlying5 Tryz.underlying3 rfl) rfl ?_;obtain ⟨zG,qN,h⟩:=Gc h;refine Zy (.int .i64 (zG)) (Td rfl rfl (congrArg (Option.map (Value.int .i64)) qN)) rfl ?_;obtain ⟨iE,rN,h⟩:=Gc h;refine Zy (.int .i64 (iE)) (Td rfl rfl (congrArg (Option.map (Value.int .i64)) rN)) rfl ?_;refine Zy (.int .i64 ((w64 ((w64 (g8 + (w64 ((w64 ((1:Int) + l8)) + (t5).Change)))) + iE)))) (Td rfl rfl rfl) rfl ?_;refine Zy (Gm cH 4) (Zc Pe rfl (OB.ptr b342)) rfl ?_;refine Ze .plain rfl (Kb (g:=eF) Jt Tryz.sizeOf3 rfl b342 rfl (Zj.2 rfl) fun sK pQ hs b355 rst hos=>?_);clear rst hos;have hfr:=hfr.stp hs;have l5:=l5.stp hs;have u6_0_219:=u6_0_219.stp hs rfl;have n8:=n8.stp hs rfl;have u8_0_219:=u8_0_219.stp hs rfl;have i6:=i6.stp hs rfl;have l9:=l9.stp hs;have n9:=n9.stp hs rfl;refine Zb (Zd (Za (Zo lK rfl ?_)));refine Ze .plain rfl (Tp (g:=sK) Tryz.isAgg49 Tryz.sizeOf49 rfl b355 fun uO vO=>?_);refine Ze .plain rfl (Gp (g:=sK) 3085 (xs:=([(⟨(w64 ((1:Int) + vB)),bD,(w64 ((1:Int) + l8)),0,(w64 ((w64 (g8 + (w64 ((w64 ((1:Int) + l8)) + (t5).Change)))) + iE))⟩:Gf)]:List Gf)) (vs:=[uO]) Tryz.underlying31 Tryz.sizeOf49 Tryz.zeroValue49 rfl rfl (.cons rfl .nil) (RVs.cons vO RVs.nil) rfl rfl fun xO qQ rQ hs o357 yO hxt hfl=>?_);have hfr:=hfr.stp hs;have l5:=l5.stp hs;have u6_0_219:=u6_0_219.stp hs rfl;have n8:=n8.stp hs rfl;have u8_0_219:=u8_0_219.stp hs rfl;have i6:=i6.stp hs rfl;have l9:=l9.stp hs;have n9:=n9.stp hs rfl;obtain ⟨mJ,sN,h⟩:=Gc h;refine Ze .plain rfl (Ha (g:=xO) (i:=3018) Tryz.underlying31 info_49 rfl rfl n9 l9 rfl yO sN fun zO sQ tK hs o358 aP _=>?_);have hfr:=hfr.stp hs;have l5:=l5.stp hs;have u6_0_219:=u6_0_219.stp hs rfl;have n8:=n8.stp hs rfl;have u8_0_219:=u8_0_219.stp hs rfl;have i6:=i6.stp hs rfl;refine Zg tK rfl rfl ?_;refine Zb (Qx ?_);obtain ⟨rfl,rfl⟩:=Wu h;exact hQ _ _ ⟨zO,(tK),hfr,lD,l5,dK,n8,u6_0_219,mG,i6,u8_0_219,rfl,aP,o358,rfl,oB⟩
    ·clear hx
     obtain ⟨bP,uK,hfr,vK,xK,yK,zK,u6_0_360,aL,bL,u8_0_360,dL,eL,gL,mI,nI⟩:=hR;refine Za (Zo nI rfl ?_);refine Gy (.int .i64 ((w64 (o0 + (1:Int))))) rfl rfl rfl rfl ?_;refine Zg (.int .i64 ((w64 (o0 + (1:Int))))) rfl rfl ?_;exact Zb (Zd (gN (cD,oD,(w64 (o0 + (1:Int)))) _ _ ⟨bP,(uK),hfr,vK,xK,yK,zK,u6_0_360,aL,bL,u8_0_360,dL,eL,gL,mI,rfl⟩ h))
  ·clear hx
   obtain ⟨iL,sG,hfr,xG,jL,u6_0_361,lL,mL,u8_0_361,nL,oE,mP⟩:=hR;refine Zf (Za (Ze .plain rfl (Tp (g:=iL) Tryz.isAgg30 Tryz.sizeOf30 lL mL fun cP dP=>?_)));refine Zo nL rfl ?_;refine Ze .plain rfl (Gn (g:=iL) (v:=cP) Tryz.sizeOf30 xG jL rfl dP fun tQ uQ hs b363 cb=>?_);clear cb;have hfr:=hfr.stp hs;have oE:=oE.stp hs;refine Zg sG rfl rfl ?_;refine Zb (Zd (Gx ?_));obtain rfl:=sinj h;obtain ⟨ad364,cv364,hp364,tN,cr364⟩:=Qv Tryz.isAgg30 Tryz.sizeOf30 b363;exact Hr rfl rfl ((show _=p1 from xG).trans hp364) tN (show _=sG from rfl) ⟨_,hfr,_,_,rfl,cr364,oE⟩
def f7 (x0:List Gf):Option ((List Gf)):=
 (apnd 40 (([]:List Gf)) x0).bind fun y3=>
 some (y3)
theorem en7:Enters Tryz.prog 7:=enters_of Tryz.func7 (by kernel_rfl) rfl
def f8 (x0:List Int):Option ((List Int)):=
 (apnd 8 (([]:List Int)) x0).bind fun y3=>
 some (y3)
theorem en8:Enters Tryz.prog 8:=enters_of Tryz.func8 (by kernel_rfl) rfl
theorem wk8 {gI:Gh} {wI:World} {x0:List Int} {up0:Value} (rp0:RV gI.m wI x0 up0) {r:(List Int)} (h:f8 x0=some r):Fn Tryz.prog 8 #[up0] gI wI (fun m w v=>RV m w (r) v):=by
 unfold f8 at h;refine Tc Tryz.func8 rfl (Nat.le_of_ble_eq_true rfl) fun g0 hm hfr=>?_;have rp0:RV g0.m wI x0 up0:=hm ▸ rp0;show E _ 6 none _ _ _ _ _;refine Zf (Za (Zg (.slice none 0 0) rfl rfl ?_));refine Zb (Zd (Zf (Za (Ze .plain rfl (Gp (g:=g0) 3003 (xs:=([]:List Int)) (vs:=[]) Tryz.underlying28 Tryz.sizeOf3 Tryz.zeroValue3 rfl rfl .nil RVs.nil rfl rfl fun g1 w1 v1 hs o1 r1 hxt hfl=>?_)))));have hfr:=hfr.stp hs;have rp0:=rp0.stp hs;refine Zn up0 rfl rfl ?_;obtain ⟨y3,hy3,h⟩:=Gc h;refine Ze .plain rfl (Ha (g:=g1) (i:=3003) Tryz.underlying28 Ua rfl rfl o1 r1 rfl rp0 hy3 fun g2 w2 v2 hs o2 r2 _=>?_);have hfr:=hfr.stp hs;refine Zg v2 rfl rfl ?_;refine Zb (Zd (Gx ?_));obtain rfl:=sinj h;exact Wg rfl rfl (show _=v2 from rfl) ⟨_,hfr,r2⟩
def f13 (x0:LoomMill):Option (LoomMill):=
 (apnd 8 (([]:List Int)) ((x0).Widths)).bind fun y7=>
 some ({ x0 with Widths:=y7 })
theorem en13:Enters Tryz.prog 13:=enters_of Tryz.func13 (by kernel_rfl) rfl
theorem wk13 {gI:Gh} {wI:World} {x0:LoomMill} {up0:Value} (rp0:RV gI.m wI x0 up0) {r:LoomMill} (h:f13 x0=some r):Fn Tryz.prog 13 #[up0] gI wI (fun m w v=>RV m w (r) v):=by
 unfold f13 at h;refine Tc Tryz.func13 rfl (Nat.le_of_ble_eq_true rfl) fun g0 hm hfr=>?_;have rp0:RV g0.m wI x0 up0:=hm ▸ rp0;show E _ 9 none _ _ _ _ _;refine Zf (Za (Ze .plain rfl (Oc (g:=g0) 2001 rfl rp0 fun g1 w1 p1 hs b1=>?_)));have hfr:=hfr.stp hs;refine Ze .plain rfl (Gu (g:=g1) 2002 (⟨[],0⟩:LoomMill) Tryz.zeroValue30 (fun m w=>⟨_,(Gk Ti Zx),rfl⟩) fun g2 w2 p2 hs b2 cb=>?_);have hfr:=hfr.stp hs;have b1:=b1.stp hs rfl;have i6:OSF 2002 60200 0 g2 w2 3 30 ([]:List Int) p2:=cb.osf (by rfl);clear cb;refine Zb (Zd (Zf (Za (Ze .plain rfl (Gp (g:=g2) 3003 (xs:=([]:List Int)) (vs:=[]) Tryz.underlying28 Tryz.sizeOf3 Tryz.zeroValue3 rfl rfl .nil RVs.nil rfl rfl fun g3 w3 v3 hs o3 r3 hxt hfl=>?_)))));have hfr:=hfr.stp hs;have b1:=b1.stp hs rfl;have b2:=b2.stp hs rfl;refine Zy (Gm p1 0) (Zc Ul rfl (OB.ptr b1)) rfl ?_;refine Ze .plain rfl (Kf (g:=g3) Wx.1 Tryz.isAgg28 Tryz.sizeOf28 rfl b1 fun v5 r5=>?_);obtain ⟨y7,o0,h⟩:=Gc h;refine Ze .plain rfl (Ha (g:=g3) (i:=3003) Tryz.underlying28 Ua rfl rfl o3 r3 rfl r5 o0 fun g6 w6 v6 hs o6 r6 _=>?_);have hfr:=hfr.stp hs;have b1:=b1.stp hs rfl;have b2:=b2.stp hs rfl;refine Zy (Gm p1 0) (Zc Ul rfl (OB.ptr b1)) rfl ?_;refine Ze .plain rfl (Kb (g:=g6) Wx Tryz.sizeOf28 rfl b1 rfl r6 fun g9 w9 hs b9 rst hos=>?_);have g8:=hos _ _ 3003 3 (y7:List Int) (St r6) rfl o6;clear rst hos;have hfr:=hfr.stp hs;have b2:=b2.stp hs rfl;refine Zb (Zd (Zf (Za (Ze .plain rfl (Tp (g:=g9) Tryz.isAgg30 Tryz.sizeOf30 rfl b9 fun l5 t5=>?_)))));refine Ze .plain rfl (Gn (g:=g9) (v:=l5) Tryz.sizeOf30 rfl b2 rfl t5 fun l8 n8 hs b11 cb=>?_);clear cb;have hfr:=hfr.stp hs;refine Zb (Zd (Gx ?_));obtain rfl:=sinj h;obtain ⟨ad12,cv12,hp12,hl12,cr12⟩:=Qv Tryz.isAgg30 Tryz.sizeOf30 b11;exact Fi rfl rfl ((show _=p2 from rfl).trans hp12) hl12 ⟨_,hfr,cr12⟩
def f23 (x0:List Int) (x1:List Int):Option (Bool):=
 jn (σ:=Unit) (fun _=>
  jn (σ:=Unit) (fun _=>
   some (true)
   ) fun k53=>
  lp (σ:=Int) (fun k54 o0=>
   jn (σ:=Unit) (fun _=>
    jn (σ:=Unit) (fun _=>
     k54 ((w64 (o0 + (1:Int))))
     ) fun cD=>
    (idx x0 o0).bind fun n8=>
    (idx x1 o0).bind fun v8=>
    bif (n8 != v8) then
     some (false)
    else
     cD ()
    ) fun k57=>
   bif (decide (o0 < ((x0).length : Int))) then
    k57 ()
   else
    k53 ()
   ) big ((0:Int))
  ) fun k2=>
 bif (((x0).length : Int) != ((x1).length : Int)) then
  some (false)
 else
  k2 ()
theorem en23:Enters Tryz.prog 23:=enters_of Tryz.func23 (by kernel_rfl) rfl
theorem wk23 {gI:Gh} {wI:World} {x0:List Int} {x1:List Int} {up0:Value} (rp0:RV gI.m wI x0 up0) {up1:Value} (rp1:RV gI.m wI x1 up1) {r:Bool} (h:f23 x0 x1=some r):Fn Tryz.prog 23 #[up0,up1] gI wI (fun _ _ v=>v=.bool (r)):=by
 unfold f23 at h;refine Tc Tryz.func23 rfl (Nat.le_of_ble_eq_true rfl) fun g0 hm hfr=>?_;have rp0:RV g0.m wI x0 up0:=hm ▸ rp0;have rp1:RV g0.m wI x1 up1:=hm ▸ rp1;show E _ 26 none _ _ _ _ _;refine Zf (Za (Zg (.bool false) rfl rfl ?_));refine Zb (Zd (Zq h (fun (s:Unit) e w=>∃ (g:Gh) ,Fr gI wI g w∧e 0=up0∧RV g.m w (x0:List Int) up0∧e 1=up1∧RV g.m w (x1:List Int) up1) (fun X2 k2 hk2 h=>?_) ?_))
 ·refine Zf (Za (Zn up0 rfl rfl ?_))
  refine Zy (.int .i64 ((x0).length:Int)) (Qk Tryz.underlying28 rfl rp0) rfl ?_;refine Zn up1 rfl rfl ?_;refine Zy (.int .i64 ((x1).length:Int)) (Qk Tryz.underlying28 rfl rp1) rfl ?_;refine Gy (.bool ((((x0).length:Int) != ((x1).length:Int)))) rfl rfl rfl rfl ?_;refine Zb (Zd ?_);rcases Zt h with ⟨hc3,h⟩ | ⟨hc3,h⟩
  ·refine Qo hc3 rfl ?_
   refine Zf (Za (Zg (.bool false) rfl rfl ?_));refine Zb (Zd (Gx (Tm ?_)));obtain rfl:=sinj h;exact Wg rfl rfl (show _=.bool false from rfl) ⟨_,hfr,rfl⟩
  ·refine Qm hc3 rfl ?_
   exact Zu (Zd (hk2 () _ _ ⟨g0,hfr,rfl,rp0,rfl,rp1⟩ h))
 ·rintro _ xF w4 ⟨g4, hfr, nD, oD, yD, zD⟩ h
  refine Zq h (fun (s:Unit) e w=>∃ (g:Gh) ,Fr gI wI g w) (fun X53 k53 aE h=>?_) ?_
  ·refine Zf (Za (Zg (.int .i64 (0)) rfl rfl ?_))
   refine Zb (Zd (Zr ?_));refine Je h (fun (s:Int) e w=>∃ (g:Gh) ,Fr gI wI g w∧e 0=up0∧RV g.m w (x0:List Int) up0∧e 1=up1∧RV g.m w (x1:List Int) up1∧e 5=.int .i64 (s)) ⟨g4,hfr,nD,oD,yD,zD,rfl⟩ (fun X54 k54 bE=>?_);rintro o0 rF yF ⟨lD,hfr,l9,n9,vC,bD,aB⟩ h;refine Zq h (fun (s:Unit) e w=>∃ (g:Gh) ,Fr gI wI g w∧e 0=up0∧RV g.m w (x0:List Int) up0∧e 1=up1∧RV g.m w (x1:List Int) up1∧e 5=.int .i64 (o0)) (fun X57 k57 iE h=>?_) ?_
   ·refine Zf (Za (Zo aB rfl ?_))
    refine Zo l9 rfl ?_;refine Zy (.int .i64 ((x0).length:Int)) (Qk Tryz.underlying28 rfl n9) rfl ?_;refine Gy (.bool ((decide (o0 < ((x0).length:Int))))) rfl rfl rfl rfl ?_;refine Zb (Zd ?_);rcases Zt h with ⟨l8,h⟩ | ⟨l8,h⟩
    ·refine Qo l8 rfl ?_
     exact Zu (Zd (iE () _ _ ⟨lD,hfr,l9,n9,vC,bD,aB⟩ h))
    ·refine Qm l8 rfl ?_
     refine Qz ?_;refine Tr ?_;refine Tr ?_;refine Tz ?_;exact Zd (aE () _ _ ⟨lD,hfr⟩ h)
   ·rintro _ sF aG ⟨uE, hfr, lB, l5, mB, t5, i6⟩ h
    refine Zq h (fun (s:Unit) e w=>∃ (g:Gh) ,Fr gI wI g w∧e 0=up0∧RV g.m w (x0:List Int) up0∧e 1=up1∧RV g.m w (x1:List Int) up1∧e 5=.int .i64 (o0)) (fun X81 cD lE h=>?_) ?_
    ·refine Zr ?_
     refine Zf ?_;obtain ⟨n8,nB,h⟩:=Gc h;have vE:=Tv l5 nB;refine Zs (x:=.tmp 19) Tryz.isAgg3 Tryz.sizeOf3 vE fun bG xE mE=>?_;obtain rfl:=Zj.1 xE;obtain ⟨v8,oB,h⟩:=Gc h;have yE:=Tv t5 oB;refine Zs (x:=.tmp 23) Tryz.isAgg3 Tryz.sizeOf3 yE fun cG zE oE=>?_;obtain rfl:=Zj.1 zE;refine Qp (g:=uE) (n:=9) [] [0,1,2,3,4,5,6,7,8] rfl mixed (by kernel_rfl) trivial ?_;refine Gb up0 rfl rfl (Zk lB) ?_;refine Gb (.int .i64 (o0)) rfl rfl (Zk i6) ?_;refine Gb (Qb up0 o0 1) rfl rfl (Zh (α:=Int) Tryz.underlying28 Tryz.sizeOf3 rfl l5 rfl nB) ?_;refine Tl (c:=.int .i64 (n8)) rfl rfl .plain (fun _ _ h=>h.ch) mE rfl ?_;refine Gb up1 rfl rfl (Zk mB) ?_;refine Gb (.int .i64 (o0)) rfl rfl (Zk i6) ?_;refine Gb (Qb up1 o0 1) rfl rfl (Zh (α:=Int) Tryz.underlying28 Tryz.sizeOf3 rfl t5 rfl oB) ?_;refine Tl (c:=.int .i64 (v8)) rfl rfl .plain (fun _ _ h=>h.ch) oE rfl ?_;refine Gb (.bool ((n8 != v8))) rfl rfl (Td rfl rfl rfl) ?_;refine Yz fun cF eG hs=>?_;have hfr:=hfr.ext hs;have l5:=l5.ext hs;have t5:=t5.ext hs;clear hs;refine Zb (Zd ?_);rcases Zt h with ⟨g8,h⟩ | ⟨g8,h⟩
     ·refine Qo g8 rfl ?_
      refine Zf (Za (Zg (.bool false) rfl rfl ?_));refine Zb (Zd (Gx (Wa ?_)));refine Tm ?_;refine Tm ?_;refine Wa ?_;refine Tm ?_;obtain rfl:=sinj h;exact Wg rfl rfl (show _=.bool false from rfl) ⟨_,hfr,rfl⟩
     ·refine Qm g8 rfl ?_
      exact Zu (Qx (Zd (lE () _ _ ⟨cF,hfr,lB,l5,mB,t5,i6⟩ h)))
    ·rintro _ dF tF ⟨rE, hfr, vB, yB, zB, cC, uC⟩ h
     refine Za (Zo uC rfl ?_);refine Gy (.int .i64 ((w64 (o0 + (1:Int))))) rfl rfl rfl rfl ?_;refine Zg (.int .i64 ((w64 (o0 + (1:Int))))) rfl rfl ?_;exact Zb (Zd (bE ((w64 (o0 + (1:Int)))) _ _ ⟨rE,hfr,vB,yB,zB,cC,rfl⟩ h))
  ·rintro _ eF uF ⟨vF, hfr⟩ h
   refine Zf (Za (Zg (.bool true) rfl rfl ?_));refine Zb (Zd (Gx ?_));obtain rfl:=sinj h;exact Wg rfl rfl (show _=.bool true from rfl) ⟨_,hfr,rfl⟩
def f24 (x0:Int) (x1:Int):Option (Xp):=
 some ((⟨x0,x1⟩:Xp))
theorem en24:Enters Tryz.prog 24:=enters_of Tryz.func24 (by kernel_rfl) rfl
theorem wk24 {gI:Gh} {wI:World} {x0:Int} {x1:Int}  {r:Xp} (h:f24 x0 x1=some r):Fn Tryz.prog 24 #[.int .i64 (x0),.int .i64 (x1)] gI wI (fun m w v=>RV m w (r) v):=by
 unfold f24 at h;refine Tc Tryz.func24 rfl (Nat.le_of_ble_eq_true rfl) fun g0 hm hfr=>?_;show E _ 8 none _ _ _ _ _;refine Zf (Za (Ze .plain rfl (Gu (g:=g0) 2004 (⟨0,0⟩:Xp) Tryz.zeroValue80 (fun m w=>⟨_,(Gk Zx Zx),rfl⟩) fun g1 w1 p1 hs b1 cb=>?_)));have hfr:=hfr.stp hs;clear cb;refine Zb (Zd (Zf (Za (Zn (.int .i64 (x0)) rfl rfl ?_))));refine Zn (.int .i64 (x1)) rfl rfl ?_;have r2:RV g1.m w1 (⟨x0,x1⟩:Xp) (.agg (Tt [[.int .i64 0],[.int .i64 0]] [(0,.int .i64 (x0)),(1,.int .i64 (x1))]).flatten.toArray):=Qe rfl (Tb (rfl) (Qi (rfl)));generalize hv2:(Value.agg (Tt [[.int .i64 0],[.int .i64 0]] [(0,.int .i64 (x0)),(1,.int .i64 (x1))]).flatten.toArray)=v2 at r2;refine Zy v2 (hv2 ▸ Wd (vs:=[(0,.int .i64 (x0)),(1,.int .i64 (x1))]) [[.int .i64 0],[.int .i64 0]] lay_80 rfl rfl (.cons rfl (.cons rfl .nil)) ⟨⟨_,rfl,rfl⟩,⟨⟨_,rfl,rfl⟩,trivial⟩⟩) rfl ?_;refine Ze .plain rfl (Gn (g:=g1) (v:=v2) Tryz.sizeOf80 rfl b1 rfl r2 fun g3 w3 hs b3 cb=>?_);clear cb;have hfr:=hfr.stp hs;refine Zb (Zd (Gx ?_));obtain rfl:=sinj h;obtain ⟨ad4,cv4,hp4,o0,cr4⟩:=Qv Tryz.isAgg80 Tryz.sizeOf80 b3;exact Fi rfl rfl ((show _=p1 from rfl).trans hp4) o0 ⟨_,hfr,cr4⟩
def f25 (x0:BoxLoom):Option (BoxLoom):=
 (f8 ((x0).Boxes)).bind fun y6=>
 (f8 ((x0).At)).bind fun i6=>
 (apnd 40 (([]:List Zv)) ((x0).Shuttles)).bind fun l5=>
 some ((⟨y6,i6,l5⟩:BoxLoom))
theorem en25:Enters Tryz.prog 25:=enters_of Tryz.func25 (by kernel_rfl) rfl
theorem wk25 {gI:Gh} {wI:World} {x0:BoxLoom} {up0:Value} (rp0:RV gI.m wI x0 up0) {r:BoxLoom} (h:f25 x0=some r):Fn Tryz.prog 25 #[up0] gI wI (fun m w v=>RV m w (r) v):=by
 unfold f25 at h;refine Tc Tryz.func25 rfl (Nat.le_of_ble_eq_true rfl) fun g0 hm hfr=>?_;have rp0:RV g0.m wI x0 up0:=hm ▸ rp0;show E _ 14 none _ _ _ _ _;refine Zf (Za (Ze .plain rfl (Wc (g:=g0) rfl rp0 fun g1 w1 p1 hs q1=>?_)));have hfr:=hfr.ext hs;refine Ze .plain rfl (Gu (g:=g1) 2002 (⟨[],[],[]⟩:BoxLoom) Tryz.zeroValue44 (fun m w=>⟨_,(Gk Ti (Gk Ti Ti)),rfl⟩) fun g2 w2 p2 hs b2 cb=>?_);have hfr:=hfr.stp hs;have q1:=q1.stp hs;have cD:OSF 2002 60200 0 g2 w2 3 44 ([]:List Int) p2:=cb.osf (by rfl);have lD:OSF 2002 60201 1 g2 w2 3 44 ([]:List Int) p2:=cb.osf (by rfl);have nD:OSF 2002 60202 2 g2 w2 83 44 ([]:List Zv) p2:=cb.osf (by rfl);clear cb;refine Zb (Zd (Zf ?_));have q3:=Zm (Qj).1 q1;refine Zs (x:=.tmp 3) Tryz.isAgg28 Tryz.sizeOf28 q3 fun v4 r4 yB=>?_;obtain ⟨y6,zB,h⟩:=Gc h;have q7:=Zm (Jo).1 q1;refine Zs (x:=.tmp 6) Tryz.isAgg28 Tryz.sizeOf28 q7 fun v8 r8 cC=>?_;obtain ⟨i6,lB,h⟩:=Gc h;have uC:=Zm (Wv).1 q1;refine Zs (x:=.tmp 10) Tryz.isAgg42 Tryz.sizeOf42 uC fun vC bD mB=>?_;obtain ⟨l5,nB,h⟩:=Gc h;refine Qp (g:=g2) (n:=10) [(2,(fun v g w=>RV g.m w y6 v)),(5,(fun v g w=>RV g.m w i6 v)),(6,(fun v g w=>RV g.m w ([]:List Zv) v∧OS 3009 g w 83 ([]:List Zv) v∧Tk v)),(9,(fun v g w=>RV g.m w l5 v∧OS 3009 g w 83 l5 v))] [0,1,2,3,4,5,6,7,8,9] rfl mixed (by kernel_rfl) (⟨fun _=>Ky,fun _=>Ky,fun _=>Wf Ky (Wf Yo (Wo _)),fun _=>Wf Ky Yo,trivial⟩) ?_;refine Gb (Gm p1 0) rfl rfl (Zc Kv rfl (PT.ptr q1)) ?_;refine Tl (c:=v4) rfl rfl .plain (fun _ _ h=>h.ch) yB rfl ?_;refine Wh (φ:=fun v g w=>RV g.m w y6 v) rfl rfl .plain (fun g w hd=>Zp (g:=g) (vs:=[v4]) en8 (.cons rfl .nil) (wk8 (r4.ext hd.1) zB) fun g' w' v hs hr=>⟨g',hs,hr⟩) (fun v5 hv=>?_);obtain ⟨_,_,_,rq5⟩:=hv;refine Gb (Gm p1 1) rfl rfl (Zc Cx rfl (PT.ptr q1)) ?_;refine Tl (c:=v8) rfl rfl .plain (fun _ _ h=>h.ch) cC rfl ?_;refine Wh (φ:=fun v g w=>RV g.m w i6 v) rfl rfl .plain (fun g w hd=>Zp (g:=g) (vs:=[v8]) en8 (.cons rfl .nil) (wk8 (r8.ext hd.1) lB) fun g' w' v hs hr=>⟨g',hs,hr⟩) (fun v9 hv=>?_);obtain ⟨_,_,_,rq9⟩:=hv;refine Wh (φ:=fun v g w=>RV g.m w ([]:List Zv) v∧OS 3009 g w 83 ([]:List Zv) v∧Tk v) rfl rfl .plain (fun g w hd=>Gp (g:=g) 3009 (xs:=([]:List Zv)) (vs:=[]) Tryz.underlying42 Tryz.sizeOf83 Tryz.zeroValue83 rfl rfl .nil RVs.nil rfl rfl fun g' w' v hs o r hxt hfl=>⟨g',hxt,r,o,hfl⟩) (fun o0 hv=>?_);clear hv;refine Gb (Gm p1 2) rfl rfl (Zc Uk rfl (PT.ptr q1)) ?_;refine Tl (c:=vC) rfl rfl .plain (fun _ _ h=>h.ch) mB rfl ?_;refine Wh (φ:=fun v g w=>RV g.m w l5 v∧OS 3009 g w 83 l5 v) rfl rfl .plain (fun g w hd=>Ha (g:=g) (i:=3009) Tryz.underlying42 info_83 rfl rfl (Jy (A:=fun g w=>RV g.m w ([]:List Zv) o0∧OS 3009 g w 83 ([]:List Zv) o0∧Tk o0) 6 rfl rfl (We hd)).2.1 (Jy (A:=fun g w=>RV g.m w ([]:List Zv) o0∧OS 3009 g w 83 ([]:List Zv) o0∧Tk o0) 6 rfl rfl (We hd)).1 rfl (bD.ext hd.1) nB fun g' w' v hs o r hf=>⟨g',hf (Jy (A:=fun g w=>RV g.m w ([]:List Zv) o0∧OS 3009 g w 83 ([]:List Zv) o0∧Tk o0) 6 rfl rfl (We hd)).2.2,r,o⟩) (fun t5 hv=>?_);clear hv;refine Yc fun g8 oD hall=>?_;have hs:=hall.1;have hfr:=hfr.ext hs;have b2:=b2.ext hs;have l8:=(Gz (A:=fun g w=>RV g.m w y6 v5) 2 rfl hall);have n8:=(Gz (A:=fun g w=>RV g.m w i6 v9) 5 rfl hall);have yD:=(Gz (A:=fun g w=>RV g.m w ([]:List Zv) o0∧OS 3009 g w 83 ([]:List Zv) o0∧Tk o0) 6 rfl hall).1;have o26:=(Gz (A:=fun g w=>RV g.m w ([]:List Zv) o0∧OS 3009 g w 83 ([]:List Zv) o0∧Tk o0) 6 rfl hall).2.1;have l9:=(Gz (A:=fun g w=>RV g.m w l5 t5∧OS 3009 g w 83 l5 t5) 9 rfl hall).1;have o29:=(Gz (A:=fun g w=>RV g.m w l5 t5∧OS 3009 g w 83 l5 t5) 9 rfl hall).2;clear hs hall;have n9:RV g8.m _ (⟨y6,i6,l5⟩:BoxLoom) (.agg (Tt [[.slice none 0 0],[.slice none 0 0],[.slice none 0 0]] [(0,v5),(1,v9),(2,t5)]).flatten.toArray):=Qe rfl (Tb (RV.cells l8) (Tb (RV.cells n8) (Qi (RV.cells l9))));generalize oB:(Value.agg (Tt [[.slice none 0 0],[.slice none 0 0],[.slice none 0 0]] [(0,v5),(1,v9),(2,t5)]).flatten.toArray)=aB at n9;refine Zy aB (oB ▸ Wd (vs:=[(0,v5),(1,v9),(2,t5)]) [[.slice none 0 0],[.slice none 0 0],[.slice none 0 0]] lay_44 rfl rfl (.cons rfl (.cons rfl (.cons rfl .nil))) ⟨⟨_,rfl,To l8⟩,⟨⟨_,rfl,To n8⟩,⟨⟨_,rfl,To l9⟩,trivial⟩⟩⟩) rfl ?_
 refine Ze .plain rfl (Gn (g:=g8) (v:=aB) Tryz.sizeOf44 rfl b2 rfl n9 fun zD aE hs b31 cb=>?_);clear cb;have hfr:=hfr.stp hs;refine Zb (Zd (Gx ?_));obtain rfl:=sinj h;obtain ⟨ad32,cv32,hp32,vB,cr32⟩:=Qv Tryz.isAgg44 Tryz.sizeOf44 b31;exact Fi rfl rfl ((show _=p2 from rfl).trans hp32) vB ⟨_,hfr,cr32⟩
def f34 (x0:List Int):Option ((List (List Int))):=
 Option.bind (α:=(List (List Int))) (
  lp (σ:=(List (List Int)) × Int) (fun k19 (v8,o0)=>
   bif (decide (o0 < ((x0).length : Int))) then
    Option.bind (α:=(List (List Int))) (
     (idx x0 o0).bind fun n8=>
     (apnd 24 v8 (([([n8]:List Int)]:List (List Int)))).bind fun zD=>
     some (zD)
     ) fun g8=>
    k19 (g8,(w64 (o0 + (1:Int))))
   else
    some (v8)
   ) big ([],(0:Int))
  ) fun l8=>
 some (l8)
theorem en34:Enters Tryz.prog 34:=enters_of Tryz.func34 (by kernel_rfl) rfl
theorem wk34 {gI:Gh} {wI:World} {x0:List Int} {up0:Value} (rp0:RV gI.m wI x0 up0) {r:(List (List Int))} (h:f34 x0=some r):Fn Tryz.prog 34 #[up0] gI wI (fun m w v=>RV m w (r) v):=by
 unfold f34 at h;refine Tc Tryz.func34 rfl (Nat.le_of_ble_eq_true rfl) fun g0 hm hfr=>?_;have rp0:RV g0.m wI x0 up0:=hm ▸ rp0;show E _ 18 none _ _ _ _ _;refine Zf (Za (Zg (.slice none 0 0) rfl rfl ?_));refine Zb (Zd ?_);obtain ⟨l8,hx,h⟩:=Gc h;refine Tq (fun e w=>∃ (g:Gh) (v2:Value),Fr gI wI g w∧e 2=v2∧RV g.m w (l8:List (List Int)) v2∧OS 1002 g w 28 (l8:List (List Int)) v2) (fun Q' hQ=>?_) (fun eF tF hR=>?_)
 ·replace h := hx
  clear hx;refine Zf (Za (Zn up0 rfl rfl ?_));refine Zy (.int .i64 ((x0).length:Int)) (Qk Tryz.underlying28 rfl rp0) rfl ?_;refine Zn (.int .i64 (0)) rfl rfl ?_;refine Zb (Zd (Zr ?_));refine Je h (fun (s:(List (List Int)) × Int) e w=>∃ (g:Gh) (v2:Value),Fr gI wI g w∧e 2=v2∧RV g.m w (s.1:List (List Int)) v2∧OS 1002 g w 28 (s.1:List (List Int)) v2∧e 5=up0∧RV g.m w (x0:List Int) up0∧e 6=.int .i64 (((x0).length:Int))∧e 7=.int .i64 (s.2)) ⟨g0,(.slice none 0 0),hfr,rfl,Kh,OS.nil,rfl,rp0,rfl,rfl⟩ (fun X19 k19 bE=>?_);rintro ⟨v8,o0⟩ rF uF ⟨oB,yB,hfr,aB,t5,i6,lB,l5,mB,l9⟩ h;refine Zf (Za (Gy (.bool ((decide (o0 < ((x0).length:Int))))) l9 mB rfl rfl ?_));refine Zb (Zd (Zf ?_));rcases Zt h with ⟨n9,h⟩ | ⟨n9,h⟩
  ·refine Qo n9 rfl ?_
   refine Zu (Zd ?_);obtain ⟨g8,hx,h⟩:=Gc h;refine Tq (fun e w=>∃ (g:Gh) (v2:Value),Fr gI wI g w∧e 2=v2∧RV g.m w (g8:List (List Int)) v2∧OS 1002 g w 28 (g8:List (List Int)) v2∧e 5=up0∧RV g.m w (x0:List Int) up0∧e 6=.int .i64 (((x0).length:Int))∧e 7=.int .i64 (o0)) (fun Q' hQ=>?_) (fun sF vF hR=>?_)
   ·replace h := hx
    clear hx;refine Zr ?_;refine Zf (Za ?_);obtain ⟨n8,vB,h⟩:=Gc h;refine Zy (Qb up0 o0 1) (Zh (α:=Int) Tryz.underlying28 Tryz.sizeOf3 lB l5 l9 vB) rfl ?_;have lE:=Tv l5 vB;refine Ze .plain rfl (Gr (g:=oB) Tryz.isAgg3 Tryz.sizeOf3 rfl lE fun xF mE=>?_);obtain rfl:=Zj.1 mE;refine Zg (.int .i64 (n8)) rfl rfl ?_;refine Zb (Zd (Za (Zo aB rfl ?_)));refine Zn (.int .i64 (n8)) rfl rfl ?_;refine Ze .plain rfl (Gp (g:=oB) 3013 (xs:=([n8]:List Int)) (vs:=[.int .i64 (n8)]) Tryz.underlying28 Tryz.sizeOf3 Tryz.zeroValue3 rfl rfl (.cons rfl .nil) (RVs.cons (Zj.2 rfl) RVs.nil) rfl rfl fun oE yF rE hs o32 uE hxt hfl=>?_);have hfr:=hfr.stp hs;have t5:=t5.stp hs;have i6:=i6.stp hs rfl;have l5:=l5.stp hs;refine Ze .plain rfl (Gp (g:=oE) 3014 (xs:=([([n8]:List Int)]:List (List Int))) (vs:=[rE]) Tryz.underlying35 Tryz.sizeOf28 Tryz.zeroValue28 rfl rfl (.cons rfl .nil) (RVs.cons uE RVs.nil) rfl rfl fun vE aG bG hs o33 xE hxt hfl=>?_);have hfr:=hfr.stp hs;have t5:=t5.stp hs;have i6:=i6.stp hs rfl;have l5:=l5.stp hs;obtain ⟨zD,iE,h⟩:=Gc h;refine Ze .plain rfl (Ha (g:=vE) (i:=1002) Tryz.underlying35 info_28 rfl rfl i6 t5 rfl xE iE fun yE cG aE hs o34 zE _=>?_);have hfr:=hfr.stp hs;have l5:=l5.stp hs;refine Zg aE rfl rfl ?_;refine Zb (Qx ?_);obtain rfl:=sinj h;exact hQ _ _ ⟨yE,(aE),hfr,rfl,zE,o34,lB,l5,mB,l9⟩
   ·clear hx
    obtain ⟨cF,zB,hfr,cC,uC,vC,bD,cD,lD,nD⟩:=hR;refine Za (Gy (.int .i64 ((w64 (o0 + (1:Int))))) nD rfl rfl rfl ?_);refine Zn (.int .i64 ((w64 (o0 + (1:Int))))) rfl rfl ?_;exact Zb (Zd (bE (g8,(w64 (o0 + (1:Int)))) _ _ ⟨cF,(zB),hfr,cC,uC,vC,bD,cD,lD,rfl⟩ h))
  ·refine Qm n9 rfl ?_
   refine Qz ?_;refine Tr ?_;refine Tr ?_;refine Tz ?_;obtain rfl:=sinj h;exact hQ _ _ ⟨oB,(yB),hfr,aB,t5,i6⟩
 ·clear hx
  obtain ⟨eG,nB,hfr,oD,yD,dF⟩:=hR;refine Zf (Za (Zo oD rfl ?_));refine Zg nB rfl rfl ?_;refine Zb (Zd (Gx ?_));obtain rfl:=sinj h;exact Wg rfl rfl (show _=nB from rfl) ⟨_,hfr,yD⟩
def f35 (x0:Gj) (x1:Int→Zv→Option Int):Option (Tf):=
 Option.bind (α:=Tf) (
  lp (σ:=Tf × Int) (fun zG (n9,o0)=>
   bif (decide (o0 < ((((x0).BoxLoom).Shuttles).length : Int))) then
    Option.bind (α:=Tf) (
     (idx (((x0).BoxLoom).Shuttles) o0).bind fun g8=>
     (x1 o0 g8).bind fun yB=>
     (idx ((n9).boxes).toList (g8).Side).bind fun rE=>
     (idx (rE).toList (g8).Box).bind fun y158=>
     some ({ n9 with boxes:=(Jj ((n9).boxes) ((g8).Side) (fun b=>(Hp b ((g8).Box) yB))) })
     ) fun aB=>
    zG (aB,(w64 (o0 + (1:Int))))
   else
    some (n9)
   ) big ((⟨(⟨List.toArray [(⟨List.toArray [0,0,0,0],rfl⟩:Vector Int 4),(⟨List.toArray [0,0,0,0],rfl⟩:Vector Int 4)],rfl⟩:Vector (Vector Int 4) 2),⟨0,0⟩⟩:Tf),(0:Int))
  ) fun vB=>
 (idx (((x0).BoxLoom).At) (0:Int)).bind fun l8=>
 (idx (((x0).BoxLoom).At) (1:Int)).bind fun n8=>
 some ({ vB with at_:=(⟨l8,n8⟩:Gg) })
theorem en35:Enters Tryz.prog 35:=enters_of Tryz.func35 (by kernel_rfl) rfl
theorem wk35 {gI:Gh} {wI:World} {x0:Gj} {x1:Int→Zv→Option Int} {up0:Value} (rp0:RV gI.m wI x0 up0) {up1:Value} (rp1:FnV2 Tryz.prog x1 up1 gI wI) {r:Tf} (h:f35 x0 x1=some r):Fn Tryz.prog 35 #[up0,up1] gI wI (fun m w v=>RV m w (r) v):=by
 unfold f35 at h;refine Tc Tryz.func35 rfl (Nat.le_of_ble_eq_true rfl) fun g0 hm hfr=>?_;have rp0:RV g0.m wI x0 up0:=hm ▸ rp0;obtain ⟨ff1,fa1,fc1,rfl,fen1,fcl1⟩:=rp1;show E _ 41 none _ _ _ _ _;refine Zf (Za (Ze .plain rfl (Wc (g:=g0) rfl rp0 fun g1 w1 p1 hs q1=>?_)));have hfr:=hfr.ext hs;have rp0:=rp0.ext hs;refine Ze .plain rfl (Gu (g:=g1) 2004 (⟨(⟨List.toArray [(⟨List.toArray [0,0,0,0],rfl⟩:Vector Int 4),(⟨List.toArray [0,0,0,0],rfl⟩:Vector Int 4)],rfl⟩:Vector (Vector Int 4) 2),⟨0,0⟩⟩:Tf) Tryz.zeroValue115 (fun m w=>⟨_,(Gk (Ta (Zw (Ta (Zw Zx (Zw Zx (Zw Zx (Zw Zx Gv)))) rfl) (Zw (Ta (Zw Zx (Zw Zx (Zw Zx (Zw Zx Gv)))) rfl) Gv)) rfl) (Gk Zx Zx)),rfl⟩) fun g2 w2 p2 hs b2 cb=>?_);have hfr:=hfr.stp hs;have rp0:=rp0.stp hs;have q1:=q1.stp hs;clear cb;refine Zb (Zd ?_);obtain ⟨vB,hx,h⟩:=Gc h;refine Tq (fun e w=>∃ (g:Gh) ,Fr gI wI g w∧e 2=p1∧PT g.m w (x0:Gj) p1∧e 4=p2∧OB 2004 g w 115 (vB:Tf) p2) (fun Q' hQ=>?_) (fun lI gH hR=>?_)
 ·replace h := hx
  clear hx;refine Zf (Za (Zy (Gm p1 0) (Zc Kr rfl (PT.ptr q1)) rfl ?_));have aH:=Zm (Qg).1 q1;refine Zy (Gm (Gm p1 0) 2) (Zc Uk rfl (PT.ptr aH)) rfl ?_;have kI:=Zm (Wv).1 aH;refine Ze .plain rfl (Gr (g:=g2) Tryz.isAgg42 Tryz.sizeOf42 rfl kI fun vC cH=>?_);refine Zy (.int .i64 ((((x0).BoxLoom).Shuttles).length:Int)) (Qk Tryz.underlying42 rfl cH) rfl ?_;refine Zn (.int .i64 (0)) rfl rfl ?_;refine Zb (Zd (Zr ?_));refine Je h (fun (s:Tf × Int) e w=>∃ (g:Gh) ,Fr gI wI g w∧e 1=(.func (.func ff1) fa1 fc1)∧e 2=p1∧PT g.m w (x0:Gj) p1∧e 4=p2∧OB 2004 g w 115 (s.1:Tf) p2∧e 9=vC∧RV g.m w (((x0).BoxLoom).Shuttles:List Zv) vC∧e 10=.int .i64 (((((x0).BoxLoom).Shuttles).length:Int))∧e 11=.int .i64 (s.2)) ⟨g2,hfr,rfl,rfl,q1,rfl,b2,rfl,cH,rfl,rfl⟩ (fun X98 zG jH=>?_);rintro ⟨n9,o0⟩ nI xJ ⟨uE,hfr,nD,oD,i6,zB,l5,yD,t5,bD,lB⟩ h;refine Zf (Za (Zy (.bool ((decide (o0 < ((((x0).BoxLoom).Shuttles).length:Int))))) (Td lB bD rfl) rfl ?_));refine Zb (Zd (Zf ?_));rcases Zt h with ⟨cC,h⟩ | ⟨cC,h⟩
  ·refine Qo cC rfl ?_
   refine Zu (Zd ?_);obtain ⟨aB,hx,h⟩:=Gc h;refine Tq (fun e w=>∃ (g:Gh) ,Fr gI wI g w∧e 1=(.func (.func ff1) fa1 fc1)∧e 2=p1∧PT g.m w (x0:Gj) p1∧e 4=p2∧OB 2004 g w 115 (aB:Tf) p2∧e 9=vC∧RV g.m w (((x0).BoxLoom).Shuttles:List Zv) vC∧e 10=.int .i64 (((((x0).BoxLoom).Shuttles).length:Int))∧e 11=.int .i64 (o0)) (fun Q' hQ=>?_) (fun mI pI hR=>?_)
   ·replace h := hx
    clear hx;refine Zr ?_;refine Zf (Za (Zo lB rfl ?_));obtain ⟨g8,zD,h⟩:=Gc h;refine Zy (Qb vC o0 5) (Zh (α:=Zv) Tryz.underlying42 Tryz.sizeOf83 yD t5 lB zD) rfl ?_;have v8:=Tv t5 zD;refine Ze .plain rfl (Gr (g:=uE) Tryz.isAgg83 Tryz.sizeOf83 rfl v8 fun kH l9=>?_);refine Ze .plain rfl (Gu (g:=uE) 2006 (⟨0,0,0,⟨0,0⟩⟩:Zv) Tryz.zeroValue83 (fun m w=>⟨_,(Gk Zx (Gk Zx (Gk Zx (Gk Zx Zx)))),rfl⟩) fun lH qI vE hs b146 cb=>?_);have hfr:=hfr.stp hs;have i6:=i6.stp hs;have l5:=l5.stp hs rfl;have t5:=t5.stp hs;have v8:=v8.stp hs;have l9:=l9.stp hs;clear cb;refine Zg (.int .i64 (o0)) rfl rfl ?_;refine Ze .plain rfl (Gn (g:=lH) (v:=kH) Tryz.sizeOf83 rfl b146 rfl l9 fun mH sI hs b147 cb=>?_);clear cb;have hfr:=hfr.stp hs;have i6:=i6.stp hs;have l5:=l5.stp hs rfl;have t5:=t5.stp hs;have v8:=v8.stp hs;have l9:=l9.stp hs;refine Zb (Zd (Kk (x:=.tmp 16) Hl.1 Tryz.isAgg3 Tryz.sizeOf3 b147 fun jJ nH eG=>?_));obtain rfl:=Zj.1 nH;refine Kk (x:=.tmp 18) Jg.1 Tryz.isAgg3 Tryz.sizeOf3 b147 fun kJ oH gG=>?_;obtain rfl:=Zj.1 oH;refine Qh (x:=.tmp 6) Tryz.isAgg83 Tryz.sizeOf83 b147 fun xE lD iG=>?_;obtain ⟨yB,jG,h⟩:=Gc h;obtain ⟨rE,aE,h⟩:=Gc h;obtain ⟨hi157,he157⟩:=Hq aE;obtain ⟨y158,bE,h⟩:=Gc h;obtain ⟨hi159,he159⟩:=Hq bE;refine Qp (g:=mH) (n:=11) [(7,(fun v g w=>v=.int .i64 (yB)))] [0,1,2,3,4,5,6,7,8,9,10] rfl mixed (by kernel_rfl) (⟨fun _=>Wo _,trivial⟩) ?_;refine Gb (Gm vE 1) rfl rfl (Zc Ui rfl (OB.ptr b147)) ?_;refine Tl (c:=.int .i64 ((g8).Side)) rfl rfl .plain (fun _ _ h=>⟨h.ch,fun b hb _=>h.below.block b hb⟩) eG rfl ?_;refine Gb (Gm vE 2) rfl rfl (Zc Sr rfl (OB.ptr b147)) ?_;refine Tl (c:=.int .i64 ((g8).Box)) rfl rfl .plain (fun _ _ h=>⟨h.ch,fun b hb _=>h.below.block b hb⟩) gG rfl ?_;refine Gb ((.func (.func ff1) fa1 fc1)) rfl rfl (Zk nD) ?_;refine Gb (.int .i64 (o0)) rfl rfl (Zk rfl) ?_;refine Tl (c:=xE) rfl rfl .plain (fun _ _ h=>⟨h.ch,fun b hb _=>h.below.block b hb⟩) iG rfl ?_;refine Wh (φ:=fun v g w=>v=.int .i64 (yB)) rfl rfl .plain (fun g w hd=>Ug (g:=g) (vs:=[.int .i64 (o0),xE]) rfl fen1 (.cons rfl (.cons rfl .nil)) (fcl1 _ _ (hfr.ext hd.1).ch _ _ _ _ _  (Zj.2 rfl) (lD.ext hd.1) jG) fun g' w' v hs hr=>⟨g',hs,Zj.1 hr⟩) (fun lJ hv=>?_);obtain ⟨_,_,_,rfl⟩:=hv;refine Gb (Gm p2 0) rfl rfl (Zc Bh zB (OB.ptr l5)) ?_;refine Gb (Gm p2 (0 + ((g8).Side:Int).toNat * 4)) rfl rfl (Wp (α:=Vector Int 4) (o1:=0) rfl Tryz.underlying111 Tryz.sizeOf110 rfl (OB.ptr l5) rfl aE) ?_;refine Gb (Gm p2 ((0 + ((g8).Side:Int).toNat * 4) + ((g8).Box:Int).toNat * 1)) rfl rfl (Wp (α:=Int) (o1:=(0 + ((g8).Side:Int).toNat * 4)) rfl Tryz.underlying110 Tryz.sizeOf3 rfl (OB.ptr l5) rfl bE) ?_;refine Yz fun pH mJ hs=>?_;have hfr:=hfr.ext hs;have i6:=i6.ext hs;have l5:=l5.ext hs;have t5:=t5.ext hs;have v8:=v8.ext hs;have l9:=l9.ext hs;have b147:=b147.ext hs;have lD:=lD.ext hs;clear hs;refine Ze .plain rfl (Kb (g:=pH) (Gs.at_ (Gs.comp Hb (Gs.dynC hi157 (Gs.dyn hi159) rfl) rfl) (by first | rfl | exact Nat.add_assoc _ _ _ | simp only [Nat.add_assoc,Nat.zero_add] | omega)) Tryz.sizeOf3 rfl l5 rfl (Zj.2 rfl) fun qH nJ hs b184 rst hos=>?_);clear rst hos;have hfr:=hfr.stp hs;have i6:=i6.stp hs;have t5:=t5.stp hs;refine Zb (Qx ?_);obtain rfl:=sinj h;exact hQ _ _ ⟨qH,hfr,nD,oD,i6,zB,b184,yD,t5,bD,lB⟩
   ·clear hx
    obtain ⟨sH,hfr,yE,zE,cF,dF,eF,rF,sF,mE,oE⟩:=hR;refine Za (Gy (.int .i64 ((w64 (o0 + (1:Int))))) oE rfl rfl rfl ?_);refine Zn (.int .i64 ((w64 (o0 + (1:Int))))) rfl rfl ?_;exact Zb (Zd (jH (aB,(w64 (o0 + (1:Int)))) _ _ ⟨sH,hfr,yE,zE,cF,dF,eF,rF,sF,mE,rfl⟩ h))
  ·refine Qm cC rfl ?_
   refine Qz ?_;refine Tr ?_;refine Tr ?_;refine Tz ?_;obtain rfl:=sinj h;exact hQ _ _ ⟨uE,hfr,oD,i6,zB,l5⟩
 ·clear hx
  obtain ⟨tF,hfr,cD,mB,nB,oB⟩:=hR;refine Zf ?_;have uF:=Zm (Qg).1 mB;have tH:=Zm (Jo).1 uF;refine Zs (x:=.tmp 29) Tryz.isAgg28 Tryz.sizeOf28 tH fun vF xF kG=>?_;obtain ⟨l8,iE,h⟩:=Gc h;have uH:=Tv xF iE;refine Zs (x:=.tmp 31) Tryz.isAgg3 Tryz.sizeOf3 uH fun oJ xH lG=>?_;obtain rfl:=Zj.1 xH;have yF:=Zm (Qg).1 mB;have yH:=Zm (Jo).1 yF;refine Zs (x:=.tmp 34) Tryz.isAgg28 Tryz.sizeOf28 yH fun aG bG mG=>?_;obtain ⟨n8,lE,h⟩:=Gc h;have zH:=Tv bG lE;refine Zs (x:=.tmp 36) Tryz.isAgg3 Tryz.sizeOf3 zH fun pJ aI sG=>?_;obtain rfl:=Zj.1 aI;have uC:RV tF.m gH (⟨l8,n8⟩:Gg) (.agg (Tt [[.int .i64 0],[.int .i64 0]] [(0,.int .i64 (l8)),(1,.int .i64 (n8))]).flatten.toArray):=Qe rfl (Tb (rfl) (Qi (rfl)));generalize xG:(Value.agg (Tt [[.int .i64 0],[.int .i64 0]] [(0,.int .i64 (l8)),(1,.int .i64 (n8))]).flatten.toArray)=bI at uC;refine Qp (g:=tF) (n:=12) [] [0,1,2,3,4,5,6,7,8,9,10,11] rfl mixed (by kernel_rfl) trivial ?_;refine Gb (Gm p1 0) rfl rfl (Zc Kr cD (PT.ptr mB)) ?_;refine Gb (Gm (Gm p1 0) 1) rfl rfl (Zc Cx rfl (PT.ptr uF)) ?_;refine Tl (c:=vF) rfl rfl .plain (fun _ _ h=>h.ch) kG rfl ?_;refine Gb (Qb vF (0:Int) 1) rfl rfl (Zh (α:=Int) Tryz.underlying28 Tryz.sizeOf3 rfl xF rfl iE) ?_;refine Tl (c:=.int .i64 (l8)) rfl rfl .plain (fun _ _ h=>h.ch) lG rfl ?_;refine Gb (Gm p1 0) rfl rfl (Zc Kr cD (PT.ptr mB)) ?_;refine Gb (Gm (Gm p1 0) 1) rfl rfl (Zc Cx rfl (PT.ptr yF)) ?_;refine Tl (c:=aG) rfl rfl .plain (fun _ _ h=>h.ch) mG rfl ?_;refine Gb (Qb aG (1:Int) 1) rfl rfl (Zh (α:=Int) Tryz.underlying28 Tryz.sizeOf3 rfl bG rfl lE) ?_;refine Tl (c:=.int .i64 (n8)) rfl rfl .plain (fun _ _ h=>h.ch) sG rfl ?_;refine Gb bI rfl rfl (xG ▸ Wd (vs:=[(0,.int .i64 (l8)),(1,.int .i64 (n8))]) [[.int .i64 0],[.int .i64 0]] Sk rfl rfl (.cons rfl (.cons rfl .nil)) ⟨⟨_,rfl,rfl⟩,⟨⟨_,rfl,rfl⟩,trivial⟩⟩) ?_;refine Gb (Gm p2 8) rfl rfl (Zc Rp nB (OB.ptr oB)) ?_;refine Yz fun dI qJ hs=>?_;have hfr:=hfr.ext hs;have oB:=oB.ext hs;have uC:=uC.ext hs;clear hs;refine Ze .plain rfl (Kb (g:=dI) Hv Tryz.sizeOf113 rfl oB rfl uC fun cG rJ hs b216 rst hos=>?_);clear rst hos;have hfr:=hfr.stp hs;refine Zb (Zd (Zf (Za (Ze .plain rfl (Tp (g:=cG) Tryz.isAgg115 Tryz.sizeOf115 nB b216 fun iI jI=>?_)))));refine Ze .plain rfl (Gn (g:=cG) (v:=iI) Tryz.sizeOf115 nB b216 rfl jI fun sJ vJ hs b218 cb=>?_);clear cb;have hfr:=hfr.stp hs;refine Zb (Zd (Gx ?_));obtain rfl:=sinj h;obtain ⟨ad219,cv219,hp219,yG,cr219⟩:=Qv Tryz.isAgg115 Tryz.sizeOf115 b218;exact Fi rfl rfl ((show _=p2 from nB).trans hp219) yG ⟨_,hfr,cr219⟩
def f36 (x0:Int) (x1:Zv):Option (Int):=
 some ((w64 ((x1).Colour + (1:Int))))
theorem en36:Enters Tryz.prog 36:=enters_of Tryz.func36 (by kernel_rfl) rfl
theorem wk36 {gI:Gh} {wI:World} {x0:Int} {x1:Zv} {up1:Value} (rp1:RV gI.m wI x1 up1) {r:Int} (h:f36 x0 x1=some r):Fn Tryz.prog 36 #[.int .i64 (x0),up1] gI wI (fun _ _ v=>v=.int .i64 (r)):=by
 unfold f36 at h;refine Tc Tryz.func36 rfl (Nat.le_of_ble_eq_true rfl) fun g0 hm hfr=>?_;have rp1:RV g0.m wI x1 up1:=hm ▸ rp1;show E _ 8 none _ _ _ _ _;refine Zf (Za (Ze .plain rfl (Wc (g:=g0) rfl rp1 fun g1 w1 p1 hs q1=>?_)));have hfr:=hfr.ext hs;refine Zg (.int .i64 (0)) rfl rfl ?_;refine Zb (Zd (Zf (Za (Zy (Gm p1 0) (Zc Sm rfl (PT.ptr q1)) rfl ?_))));have q2:=Zm (Xe).1 q1;refine Ze .plain rfl (Gr (g:=g1) Tryz.isAgg3 Tryz.sizeOf3 rfl q2 fun v3 r3=>?_);obtain rfl:=Zj.1 r3;refine Gy (.int .i64 ((w64 ((x1).Colour + (1:Int))))) rfl rfl rfl rfl ?_;refine Zg (.int .i64 ((w64 ((x1).Colour + (1:Int))))) rfl rfl ?_;refine Zb (Zd (Gx ?_));obtain rfl:=sinj h;exact Wg rfl rfl (show _=.int .i64 ((w64 ((x1).Colour + (1:Int)))) from rfl) ⟨_,hfr,rfl⟩
def f37 (x0:Gj):Option (Tn):=
 (idx (((x0).BoxLoom).Boxes) (0:Int)).bind fun y5=>
 (idx (((x0).BoxLoom).Boxes) (1:Int)).bind fun y11=>
 some ((⟨y5,y11,⟨⟩⟩:Tn))
theorem en37:Enters Tryz.prog 37:=enters_of Tryz.func37 (by kernel_rfl) rfl
theorem wk37 {gI:Gh} {wI:World} {x0:Gj} {up0:Value} (rp0:RV gI.m wI x0 up0) {r:Tn} (h:f37 x0=some r):Fn Tryz.prog 37 #[up0] gI wI (fun m w v=>PT m w (r) v):=by
 unfold f37 at h;refine Tc Tryz.func37 rfl (Nat.le_of_ble_eq_true rfl) fun g0 hm hfr=>?_;have rp0:RV g0.m wI x0 up0:=hm ▸ rp0;show E _ 16 none _ _ _ _ _;refine Zf (Za (Ze .plain rfl (Wc (g:=g0) rfl rp0 fun g1 w1 p1 hs q1=>?_)));have hfr:=hfr.ext hs;refine Zg (.pointer none) rfl rfl ?_;refine Zb (Zd (Zf ?_));have q2:=Zm (Qg).1 q1;have q3:=Zm (Qj).1 q2;refine Zs (x:=.tmp 4) Tryz.isAgg28 Tryz.sizeOf28 q3 fun v4 r4 oB=>?_;obtain ⟨y5,hy5,h⟩:=Gc h;have q6:=Tv r4 hy5;refine Zs (x:=.tmp 6) Tryz.isAgg3 Tryz.sizeOf3 q6 fun v7 r7 hl7=>?_;obtain rfl:=Zj.1 r7;have q8:=Zm (Qg).1 q1;have q9:=Zm (Qj).1 q8;refine Zs (x:=.tmp 9) Tryz.isAgg28 Tryz.sizeOf28 q9 fun g8 l8 mB=>?_;obtain ⟨y11,t5,h⟩:=Gc h;have vB:=Tv l8 t5;refine Zs (x:=.tmp 11) Tryz.isAgg3 Tryz.sizeOf3 vB fun cC yB nB=>?_;obtain rfl:=Zj.1 yB;refine Ad (g:=g1) (n:=10) [0,1,2,3,4,5,6,7,8,9] [] [0,1,2,3,4,5,6,7,8,9] rfl mixed (by kernel_rfl) trivial rfl ?_;refine Yb (c:=Gm p1 0) rfl rfl .plain (Zc Kr rfl (PT.ptr q1)) ?_;refine Yb (c:=Gm (Gm p1 0) 0) rfl rfl .plain (Zc Kv rfl (PT.ptr q2)) ?_;refine La (c:=v4) rfl rfl .plain (fun _ _ h=>h.ch) rfl oB rfl ?_;refine Yb (c:=Qb v4 (0:Int) 1) rfl rfl .plain (Zh (α:=Int) Tryz.underlying28 Tryz.sizeOf3 rfl r4 rfl hy5) ?_;refine La (c:=.int .i64 (y5)) rfl rfl .plain (fun _ _ h=>h.ch) rfl hl7 rfl ?_;refine Yb (c:=Gm p1 0) rfl rfl .plain (Zc Kr rfl (PT.ptr q1)) ?_;refine Yb (c:=Gm (Gm p1 0) 0) rfl rfl .plain (Zc Kv rfl (PT.ptr q8)) ?_;refine La (c:=g8) rfl rfl .plain (fun _ _ h=>h.ch) rfl mB rfl ?_;refine Yb (c:=Qb g8 (1:Int) 1) rfl rfl .plain (Zh (α:=Int) Tryz.underlying28 Tryz.sizeOf3 rfl l8 rfl t5) ?_;refine La (c:=.int .i64 (y11)) rfl rfl .plain (fun _ _ h=>h.ch) rfl nB rfl ?_;refine Yz fun n8 zB hs=>?_;have hlt:Lt g1.m w1 n8 zB:=hs.ch;have hfr:=hfr.ext hs;clear hs;refine Nu hlt.w .plain rfl (Yp (g:=n8) (Wt Tx) Int 8013 fun o0 v8 l5 hs m28=>?_);have hfr:=hfr.stp hs;have hlt:=hlt.stp hs;have l9:RV o0.m _ (⟨y5,y11,⟨⟩⟩:Tn) (.agg (Tt [[.int .i64 0],[.int .i64 0],[.map none]] [(0,.int .i64 (y5)),(1,.int .i64 (y11)),(2,l5)]).flatten.toArray):=Qe rfl (Tb (rfl) (Tb (rfl) (Qi (RV.cells (m28.ref (m:=o0.m) (w':=v8))))));generalize i6:(Value.agg (Tt [[.int .i64 0],[.int .i64 0],[.map none]] [(0,.int .i64 (y5)),(1,.int .i64 (y11)),(2,l5)]).flatten.toArray)=n9 at l9;refine Fc hlt.w (v:=n9) (i6 ▸ Wd (vs:=[(0,.int .i64 (y5)),(1,.int .i64 (y11)),(2,l5)]) [[.int .i64 0],[.int .i64 0],[.map none]] lay_193 rfl rfl (.cons rfl (.cons rfl (.cons rfl .nil))) ⟨⟨_,rfl,rfl⟩,⟨⟨_,rfl,rfl⟩,⟨⟨_,rfl,To (m28.ref (m:=o0.m) (w':=v8))⟩,trivial⟩⟩⟩) .plain rfl ?_;refine Nu hlt.w .plain rfl (D_boxF (g:=o0) (v:=n9) (off:=2) (u:=l5) rfl l9 (by rw [← i6]; simp only [Tt,mp_cells m28]; rfl) fun uC vC aB hs lB fc30=>?_);have hfr:=hfr.ext hs;have hlt:=hlt.ext hs;have hone500215:=PT.one lB;refine Fc hlt.w (v:=aB) (Qt rfl) .plain rfl ?_;refine TL_nil hlt.w ?_;clear hlt;refine Zd (Gx ?_);obtain rfl:=sinj h;exact Wg rfl rfl (show _=aB from rfl) ⟨_,hfr,lB⟩
def f40 (x0:List Int):Option (Bool):=
 some ((decide (((x0).length:Int) > (3:Int))))
theorem en40:Enters Tryz.prog 40:=enters_of Tryz.func40 (by kernel_rfl) rfl
theorem wk40 {gI:Gh} {wI:World} {x0:List Int} {up0:Value} (rp0:RV gI.m wI x0 up0) {r:Bool} (h:f40 x0=some r):Fn Tryz.prog 40 #[up0] gI wI (fun _ _ v=>v=.bool (r)):=by
 unfold f40 at h;refine Tc Tryz.func40 rfl (Nat.le_of_ble_eq_true rfl) fun g0 hm hfr=>?_;have rp0:RV g0.m wI x0 up0:=hm ▸ rp0;show E _ 6 none _ _ _ _ _;refine Zf (Za (Zg (.bool false) rfl rfl ?_));refine Zb (Zd (Zf (Za (Zn up0 rfl rfl ?_))));refine Zy (.int .i64 ((x0).length:Int)) (Qk Tryz.underlying28 rfl rp0) rfl ?_;refine Gy (.bool ((decide (((x0).length:Int) > (3:Int))))) rfl rfl rfl rfl ?_;refine Zg (.bool ((decide (((x0).length:Int) > (3:Int))))) rfl rfl ?_;refine Zb (Zd (Gx ?_));obtain rfl:=sinj h;exact Wg rfl rfl (show _=.bool ((decide (((x0).length:Int) > (3:Int)))) from rfl) ⟨_,hfr,rfl⟩
def f43 (x0:Gd) (x1:List (List Int)):Option (Gd):=
 Option.bind (α:=Gd) (
  lp (σ:=Gd) (fun oD o0=>
   jn (σ:=Unit) (fun _=>
    oD ({ { o0 with group:=(w64 ((o0).group + (1:Int))) } with done:=(0:Int) })
    ) fun yD=>
   Option.bind (α:=Bool) (
    bif (decide ((o0).group < ((x1).length : Int))) then
     (idx x1 (o0).group).bind fun cD=>
     (Vc (1:Int) ((cD).length:Int)).bind fun mB=>
     some (((o0).done == (w64 (mB - (1:Int)))))
    else
     some (false)
    ) fun g8=>
   bif g8 then
    yD ()
   else
    some (o0)
   ) big (x0)
  ) fun nB=>
 some (nB)
theorem en43:Enters Tryz.prog 43:=enters_of Tryz.func43 (by kernel_rfl) rfl
theorem wk43 {gI:Gh} {wI:World} {x0:Gd} {x1:List (List Int)} {up0:Value} (rp0:RV gI.m wI x0 up0) {up1:Value} (rp1:RV gI.m wI x1 up1) {r:Gd} (h:f43 x0 x1=some r):Fn Tryz.prog 43 #[up0,up1] gI wI (fun m w v=>RV m w (r) v):=by
 unfold f43 at h;refine Tc Tryz.func43 rfl (Nat.le_of_ble_eq_true rfl) fun g0 hm hfr=>?_;have rp0:RV g0.m wI x0 up0:=hm ▸ rp0;have rp1:RV g0.m wI x1 up1:=hm ▸ rp1;show E _ 29 none _ _ _ _ _;refine Zf (Za (Ze .plain rfl (Oc (g:=g0) 2002 rfl rp0 fun g1 w1 p1 hs b1=>?_)));have hfr:=hfr.stp hs;have rp1:=rp1.stp hs;refine Ze .plain rfl (Gu (g:=g1) 2004 (⟨0,0,⟨(⟨List.toArray [(⟨List.toArray [0,0,0,0],rfl⟩:Vector Int 4),(⟨List.toArray [0,0,0,0],rfl⟩:Vector Int 4)],rfl⟩:Vector (Vector Int 4) 2),⟨0,0⟩⟩⟩:Gd) Tryz.zeroValue119 (fun m w=>⟨_,(Gk Zx (Gk Zx (Gk (Ta (Zw (Ta (Zw Zx (Zw Zx (Zw Zx (Zw Zx Gv)))) rfl) (Zw (Ta (Zw Zx (Zw Zx (Zw Zx (Zw Zx Gv)))) rfl) Gv)) rfl) (Gk Zx Zx)))),rfl⟩) fun g2 w2 p2 hs b2 cb=>?_);have hfr:=hfr.stp hs;have rp1:=rp1.stp hs;have b1:=b1.stp hs rfl;clear cb;refine Zb (Zd ?_);obtain ⟨nB,hx,h⟩:=Gc h;refine Tq (fun e w=>∃ (g:Gh) ,Fr gI wI g w∧e 2=p1∧OB 2002 g w 119 (nB:Gd) p1∧e 4=p2∧OB 2004 g w 119 ((⟨0,0,⟨(⟨List.toArray [(⟨List.toArray [0,0,0,0],rfl⟩:Vector Int 4),(⟨List.toArray [0,0,0,0],rfl⟩:Vector Int 4)],rfl⟩:Vector (Vector Int 4) 2),⟨0,0⟩⟩⟩:Gd):Gd) p2) (fun Q' hQ=>?_) (fun lG yG hR=>?_)
 ·replace h := hx
  clear hx;refine Zr ?_;refine Je h (fun (s:Gd) e w=>∃ (g:Gh) ,Fr gI wI g w∧e 1=up1∧RV g.m w (x1:List (List Int)) up1∧e 2=p1∧OB 2002 g w 119 (s:Gd) p1∧e 4=p2∧OB 2004 g w 119 ((⟨0,0,⟨(⟨List.toArray [(⟨List.toArray [0,0,0,0],rfl⟩:Vector Int 4),(⟨List.toArray [0,0,0,0],rfl⟩:Vector Int 4)],rfl⟩:Vector (Vector Int 4) 2),⟨0,0⟩⟩⟩:Gd):Gd) p2) ⟨g2,hfr,rfl,rp1,rfl,b1,rfl,b2⟩ (fun X238 oD yE=>?_);rintro o0 mG zG ⟨zD,hfr,v8,i6,l8,l5,yB,n8⟩ h;refine Zq h (fun (s:Unit) e w=>∃ (g:Gh) ,Fr gI wI g w∧e 1=up1∧RV g.m w (x1:List (List Int)) up1∧e 2=p1∧OB 2002 g w 119 (o0:Gd) p1∧e 4=p2∧OB 2004 g w 119 ((⟨0,0,⟨(⟨List.toArray [(⟨List.toArray [0,0,0,0],rfl⟩:Vector Int 4),(⟨List.toArray [0,0,0,0],rfl⟩:Vector Int 4)],rfl⟩:Vector (Vector Int 4) 2),⟨0,0⟩⟩⟩:Gd):Gd) p2) (fun X352 yD zE h=>?_) ?_
  ·obtain ⟨g8, hx, h⟩ := Gc h
   refine Tq (fun e w=>∃ (g:Gh) ,Fr gI wI g w∧e 1=up1∧RV g.m w (x1:List (List Int)) up1∧e 2=p1∧OB 2002 g w 119 (o0:Gd) p1∧e 4=p2∧OB 2004 g w 119 ((⟨0,0,⟨(⟨List.toArray [(⟨List.toArray [0,0,0,0],rfl⟩:Vector Int 4),(⟨List.toArray [0,0,0,0],rfl⟩:Vector Int 4)],rfl⟩:Vector (Vector Int 4) 2),⟨0,0⟩⟩⟩:Gd):Gd) p2∧e 22=.bool (g8)) (fun Q' hQ=>?_) (fun sG aH hR=>?_)
   ·replace h := hx
    clear hx;refine Kk (x:=.tmp 5) Wy.1 Tryz.isAgg3 Tryz.sizeOf3 l5 fun cH tF lD=>?_;obtain rfl:=Zj.1 tF;rcases Zt h with ⟨t5,h⟩ | ⟨t5,h⟩
    ·refine Kk (x := .tmp 11) Kp.1 Tryz.isAgg3 Tryz.sizeOf3 l5 fun gH uF cF => ?_
     obtain rfl:=Zj.1 uF;refine Kk (x:=.tmp 14) Wy.1 Tryz.isAgg3 Tryz.sizeOf3 l5 fun jH vF dF=>?_;obtain rfl:=Zj.1 vF;obtain ⟨cD,nD,h⟩:=Gc h;have xF:=Tv i6 nD;refine Zs (x:=.tmp 16) Tryz.isAgg28 Tryz.sizeOf28 xF fun yF aG eF=>?_;obtain ⟨mB,rF,h⟩:=Gc h;refine Qp (g:=zD) (n:=18) [] [0,1,2,3,4,5,6,7,8,9,10,11,12,13,14,15,16,17] rfl mixed (by kernel_rfl) trivial ?_;refine Gb (Gm p1 0) rfl rfl (Zc Us l8 (OB.ptr l5)) ?_;refine Tl (c:=.int .i64 ((o0).group)) rfl rfl .plain (fun _ _ h=>⟨h.ch,fun b hb _=>h.below.block b hb⟩) lD rfl ?_;refine Gb up1 rfl rfl (Zk v8) ?_;refine Gb (.int .i64 ((x1).length:Int)) rfl rfl (Qk Tryz.underlying35 rfl i6) ?_;refine Gb (.bool ((decide ((o0).group < ((x1).length:Int))))) rfl rfl (Td rfl rfl rfl) ?_;refine Gb (.bool ((decide ((o0).group < ((x1).length:Int))))) rfl rfl (Zk rfl) ?_;refine L_y (Gm p1 1) rfl rfl rfl rfl t5 (Zc Sf l8 (OB.ptr l5)) ?_;refine Tl (c:=.int .i64 ((o0).done)) rfl rfl (.yes2 rfl rfl t5) (fun _ _ h=>⟨h.ch,fun b hb _=>h.below.block b hb⟩) cF rfl ?_;refine L_y up1 rfl rfl rfl rfl t5 (Zk v8) ?_;refine L_y (Gm p1 0) rfl rfl rfl rfl t5 (Zc Us l8 (OB.ptr l5)) ?_;refine Tl (c:=.int .i64 ((o0).group)) rfl rfl (.yes2 rfl rfl t5) (fun _ _ h=>⟨h.ch,fun b hb _=>h.below.block b hb⟩) dF rfl ?_;refine L_y (Qb up1 (o0).group 1) rfl rfl rfl rfl t5 (Zh (α:=List Int) Tryz.underlying35 Tryz.sizeOf28 rfl i6 rfl nD) ?_;refine Tl (c:=yF) rfl rfl (.yes2 rfl rfl t5) (fun _ _ h=>h.ch) eF rfl ?_;refine L_y (.int .i64 ((cD).length:Int)) rfl rfl rfl rfl t5 (Qk Tryz.underlying28 rfl aG) ?_;refine L_y (.int .i64 (mB)) rfl rfl rfl rfl t5 (Td rfl rfl (congrArg (Option.map (Value.int .i64)) rF)) ?_;refine L_y (.int .i64 ((w64 (mB - (1:Int))))) rfl rfl rfl rfl t5 (Td rfl rfl rfl) ?_;refine L_y (.bool (((o0).done == (w64 (mB - (1:Int)))))) rfl rfl rfl rfl t5 (Td rfl rfl rfl) ?_;refine Gb (.bool (((o0).done == (w64 (mB - (1:Int)))))) rfl rfl (Zl (b:=(decide ((o0).group < ((x1).length:Int)))) rfl (Ty t5 rfl)) ?_;refine Yz fun bG kH hs=>?_;have hfr:=hfr.ext hs;have i6:=i6.ext hs;have l5:=l5.ext hs;have n8:=n8.ext hs;clear hs;refine Zb ?_;obtain rfl:=sinj h;exact hQ _ _ ⟨bG,hfr,v8,i6,l8,l5,yB,n8,rfl⟩
    ·refine Qp (g := zD) (n := 18) [] [0, 1, 2, 3, 4, 5, 6, 7, 8, 9, 10, 11, 12, 13, 14, 15, 16, 17] rfl mixed (by kernel_rfl) trivial ?_
     refine Gb (Gm p1 0) rfl rfl (Zc Us l8 (OB.ptr l5)) ?_;refine Tl (c:=.int .i64 ((o0).group)) rfl rfl .plain (fun _ _ h=>⟨h.ch,fun b hb _=>h.below.block b hb⟩) lD rfl ?_;refine Gb up1 rfl rfl (Zk v8) ?_;refine Gb (.int .i64 ((x1).length:Int)) rfl rfl (Qk Tryz.underlying35 rfl i6) ?_;refine Gb (.bool ((decide ((o0).group < ((x1).length:Int))))) rfl rfl (Td rfl rfl rfl) ?_;refine Gb (.bool ((decide ((o0).group < ((x1).length:Int))))) rfl rfl (Zk rfl) ?_;iterate 11 refine L_s rfl rfl rfl t5 rfl ?_
     refine Gb (.bool false) rfl rfl (Zl (b:=(decide ((o0).group < ((x1).length:Int)))) rfl (Qd t5 rfl)) ?_;refine Yz fun cG lH hs=>?_;have hfr:=hfr.ext hs;have i6:=i6.ext hs;have l5:=l5.ext hs;have n8:=n8.ext hs;clear hs;refine Zb ?_;obtain rfl:=sinj h;exact hQ _ _ ⟨cG,hfr,v8,i6,l8,l5,yB,n8,rfl⟩
   ·clear hx
    obtain ⟨aE,hfr,bE,iE,zB,cC,uC,vC,oB⟩:=hR;rcases Zt h with ⟨vB,h⟩ | ⟨vB,h⟩
    ·refine Qn (Eq.trans (show ev _ _ = .bool (g8) from oB) (congrArg Value.bool vB)) ?_
     exact Zu (Zd (zE () _ _ ⟨aE,hfr,bE,iE,zB,cC,uC,vC⟩ h))
    ·refine Qa (Eq.trans (show ev _ _ = .bool (g8) from oB) (congrArg Value.bool vB)) ?_
     refine Qz ?_;refine Tr ?_;refine Tr ?_;refine Tz ?_;obtain rfl:=sinj h;exact hQ _ _ ⟨aE,hfr,zB,cC,uC,vC⟩
  ·rintro _ xG mH ⟨lE, hfr, mE, l9, aB, lB, oE, n9⟩ h
   refine Zr ?_;refine Za (Zy (Gm p1 0) (Zc Us aB (OB.ptr lB)) rfl ?_);refine Ze .plain rfl (Kf (g:=lE) Wy.1 Tryz.isAgg3 Tryz.sizeOf3 rfl lB fun nH eG=>?_);obtain rfl:=Zj.1 eG;refine Gy (.int .i64 ((w64 ((o0).group + (1:Int))))) rfl rfl rfl rfl ?_;refine Zy (Gm p1 0) (Zc Us aB (OB.ptr lB)) rfl ?_;refine Ze .plain rfl (Kb (g:=lE) Wy Tryz.sizeOf3 rfl lB rfl (Zj.2 rfl) fun gG oH hs b469 rst hos=>?_);clear rst hos;have hfr:=hfr.stp hs;have l9:=l9.stp hs;have n9:=n9.stp hs rfl;refine Zy (Gm p1 1) (Zc Sf aB (OB.ptr b469)) rfl ?_;refine Ze .plain rfl (Kb (g:=gG) Kp Tryz.sizeOf3 rfl b469 rfl (Zj.2 rfl) fun iG pH hs b471 rst hos=>?_);clear rst hos;have hfr:=hfr.stp hs;have l9:=l9.stp hs;have n9:=n9.stp hs rfl;exact Zb (Qx (Zd (yE ({ { o0 with group:=(w64 ((o0).group + (1:Int))) } with done:=(0:Int) }) _ _ ⟨iG,hfr,mE,l9,aB,b471,oE,n9⟩ h)))
 ·clear hx
  obtain ⟨rE,hfr,uE,vE,bD,xE⟩:=hR;refine Zf (Za (Ze .plain rfl (Tp (g:=rE) Tryz.isAgg119 Tryz.sizeOf119 uE vE fun jG kG=>?_)));refine Ze .plain rfl (Gn (g:=rE) (v:=jG) Tryz.sizeOf119 bD xE rfl kG fun qH sH hs b474 cb=>?_);clear cb;have hfr:=hfr.stp hs;refine Zb (Zd (Gx ?_));obtain rfl:=sinj h;obtain ⟨ad475,cv475,hp475,sF,cr475⟩:=Qv Tryz.isAgg119 Tryz.sizeOf119 b474;exact Fi rfl rfl ((show _=p2 from bD).trans hp475) sF ⟨_,hfr,cr475⟩
def f51 (x0:Gi):Option (Int):=
 (Vc (1:Int) (((x0).orders).length:Int)).bind fun y4=>
 some ((w64 (y4 - (1:Int))))
theorem en51:Enters Tryz.prog 51:=enters_of Tryz.func51 (by kernel_rfl) rfl
theorem wk51 {gI:Gh} {wI:World} {x0:Gi} {up0:Value} (rp0:RV gI.m wI x0 up0) {r:Int} (h:f51 x0=some r):Fn Tryz.prog 51 #[up0] gI wI (fun _ _ v=>v=.int .i64 (r)):=by
 unfold f51 at h;refine Tc Tryz.func51 rfl (Nat.le_of_ble_eq_true rfl) fun g0 hm hfr=>?_;have rp0:RV g0.m wI x0 up0:=hm ▸ rp0;show E _ 8 none _ _ _ _ _;refine Zf (Za (Ze .plain rfl (Wc (g:=g0) rfl rp0 fun g1 w1 p1 hs q1=>?_)));have hfr:=hfr.ext hs;refine Zg (.int .i64 (0)) rfl rfl ?_;refine Zb (Zd (Zf (Za (Zy (Gm p1 2) (Zc Yh rfl (PT.ptr q1)) rfl ?_))));have q2:=Zm (Qs).1 q1;refine Ze .plain rfl (Gr (g:=g1) Tryz.isAgg31 Tryz.sizeOf31 rfl q2 fun v3 r3=>?_);refine Zy (.int .i64 (((x0).orders).length:Int)) (Qk Tryz.underlying31 rfl r3) rfl ?_;obtain ⟨y4,o0,h⟩:=Gc h;refine Zy (.int .i64 (y4)) (Td rfl rfl (congrArg (Option.map (Value.int .i64)) o0)) rfl ?_;refine Gy (.int .i64 ((w64 (y4 - (1:Int))))) rfl rfl rfl rfl ?_;refine Zg (.int .i64 ((w64 (y4 - (1:Int))))) rfl rfl ?_;refine Zb (Zd (Gx ?_));obtain rfl:=sinj h;exact Wg rfl rfl (show _=.int .i64 ((w64 (y4 - (1:Int)))) from rfl) ⟨_,hfr,rfl⟩
def f85 (x0:Gd) (x1:List (List Int)) (x2:Tg):Option (Gd × Bool):=
 jn (σ:=Gd × Gd) (fun (lE,vF)=>
  some (lE,false)
  ) fun xF=>
 (idx x1 (x0).group).bind fun l8=>
 lp (σ:=Gd × Gd × Int) (fun yF (l5,l9,o0)=>
  bif (decide (o0 < ((l8).length : Int))) then
   jn (σ:=Gd × Gd) (fun (bD,cD)=>
    yF (bD,cD,(w64 (o0 + (1:Int))))
    ) fun aG=>
   (idx l8 o0).bind fun lB=>
   Option.bind (α:=Bool) (
    bif (lB == (x2).colour) then
     (Sa (l5).done o0).bind fun y180=>
     some (((Qy .and y180 (1:Int)) == (0:Int)))
    else
     some (false)
    ) fun n9=>
   bif n9 then
    (Vc (1:Int) o0).bind fun aE=>
    (f43 ({ { l5 with done:=(Qy .or (l5).done aE) } with race:=(x2).next }) x1).bind fun bG=>
    some (bG,true)
   else
    aG (l5,l9)
  else
   xF (l5,l9)
  ) big (x0,(⟨0,0,⟨(⟨List.toArray [(⟨List.toArray [0,0,0,0],rfl⟩:Vector Int 4),(⟨List.toArray [0,0,0,0],rfl⟩:Vector Int 4)],rfl⟩:Vector (Vector Int 4) 2),⟨0,0⟩⟩⟩:Gd),(0:Int))
theorem en85:Enters Tryz.prog 85:=enters_of Tryz.func85 (by kernel_rfl) rfl
theorem wk85 {gI:Gh} {wI:World} {x0:Gd} {x1:List (List Int)} {x2:Tg} {up0:Value} (rp0:RV gI.m wI x0 up0) {up1:Value} (rp1:RV gI.m wI x1 up1) {up2:Value} (rp2:RV gI.m wI x2 up2) {r:Gd × Bool} (h:f85 x0 x1 x2=some r):Fn Tryz.prog 85 #[up0,up1,up2] gI wI (fun m w v=>∃ y0 y1,v=.tuple #[y0,y1]∧RV m w (r.1) y0∧y1=.bool (r.2)):=by
 unfold f85 at h;refine Tc Tryz.func85 rfl (Nat.le_of_ble_eq_true rfl) fun g0 hm hfr=>?_;have rp0:RV g0.m wI x0 up0:=hm ▸ rp0;have rp1:RV g0.m wI x1 up1:=hm ▸ rp1;have rp2:RV g0.m wI x2 up2:=hm ▸ rp2;show E _ 47 none _ _ _ _ _;refine Zf (Za (Ze .plain rfl (Oc (g:=g0) 2003 rfl rp0 fun g1 w1 p1 hs b1=>?_)));have hfr:=hfr.stp hs;have rp1:=rp1.stp hs;have rp2:=rp2.stp hs;refine Ze .plain rfl (Wc (g:=g1) rfl rp2 fun g2 w2 p2 hs q2=>?_);have hfr:=hfr.ext hs;have rp1:=rp1.ext hs;have b1:=b1.ext hs;refine Ze .plain rfl (Gu (g:=g2) 2006 (⟨0,0,⟨(⟨List.toArray [(⟨List.toArray [0,0,0,0],rfl⟩:Vector Int 4),(⟨List.toArray [0,0,0,0],rfl⟩:Vector Int 4)],rfl⟩:Vector (Vector Int 4) 2),⟨0,0⟩⟩⟩:Gd) Tryz.zeroValue119 (fun m w=>⟨_,(Gk Zx (Gk Zx (Gk (Ta (Zw (Ta (Zw Zx (Zw Zx (Zw Zx (Zw Zx Gv)))) rfl) (Zw (Ta (Zw Zx (Zw Zx (Zw Zx (Zw Zx Gv)))) rfl) Gv)) rfl) (Gk Zx Zx)))),rfl⟩) fun g3 w3 p3 hs b3 cb=>?_);have hfr:=hfr.stp hs;have rp1:=rp1.stp hs;have b1:=b1.stp hs rfl;have q2:=q2.stp hs;clear cb;refine Zg (.bool false) rfl rfl ?_;refine Zb (Zd (Zq h (fun (s:Gd × Gd) e w=>∃ (g:Gh) ,Fr gI wI g w∧e 3=p1∧OB 2003 g w 119 (s.1:Gd) p1∧e 6=p3∧OB 2006 g w 119 (s.2:Gd) p3) (fun X109 xF lH h=>?_) ?_))
 ·refine Zf (Za (Zn up1 rfl rfl ?_))
  refine Zy (Gm p1 0) (Zc Us rfl (OB.ptr b1)) rfl ?_;refine Ze .plain rfl (Kf (g:=g3) Wy.1 Tryz.isAgg3 Tryz.sizeOf3 rfl b1 fun sJ xH=>?_);obtain rfl:=Zj.1 xH;obtain ⟨l8,xE,h⟩:=Gc h;refine Zy (Qb up1 (x0).group 1) (Zh (α:=List Int) Tryz.underlying35 Tryz.sizeOf28 rfl rp1 rfl xE) rfl ?_;have yH:=Tv rp1 xE;refine Ze .plain rfl (Gr (g:=g3) Tryz.isAgg28 Tryz.sizeOf28 rfl yH fun vB cG=>?_);refine Zy (.int .i64 ((l8).length:Int)) (Qk Tryz.underlying28 rfl cG) rfl ?_;refine Zn (.int .i64 (0)) rfl rfl ?_;refine Zb (Zd (Zr ?_));refine Je h (fun (s:Gd × Gd × Int) e w=>∃ (g:Gh) ,Fr gI wI g w∧e 1=up1∧RV g.m w (x1:List (List Int)) up1∧e 3=p1∧OB 2003 g w 119 (s.1:Gd) p1∧e 5=p2∧PT g.m w (x2:Tg) p2∧e 6=p3∧OB 2006 g w 119 (s.2.1:Gd) p3∧e 14=vB∧RV g.m w (l8:List Int) vB∧e 15=.int .i64 (((l8).length:Int))∧e 16=.int .i64 (s.2.2)) ⟨g3,hfr,rfl,rp1,rfl,b1,rfl,q2,rfl,b3,rfl,cG,rfl,rfl⟩ (fun X115 yF mH=>?_);rintro ⟨l5,l9,o0⟩ nJ vJ ⟨cC,hfr,mE,oE,yB,mB,lD,zB,nD,oD,uC,oB,vC,aB⟩ h;refine Zf (Za (Gy (.bool ((decide (o0 < ((l8).length:Int))))) aB vC rfl rfl ?_));refine Zb (Zd (Zf ?_));rcases Zt h with ⟨bE,h⟩ | ⟨bE,h⟩
  ·refine Qo bE rfl ?_
   refine Zu (Zd (Zq h (fun (s:Gd × Gd) e w=>∃ (g:Gh) ,Fr gI wI g w∧e 1=up1∧RV g.m w (x1:List (List Int)) up1∧e 3=p1∧OB 2003 g w 119 (s.1:Gd) p1∧e 5=p2∧PT g.m w (x2:Tg) p2∧e 6=p3∧OB 2006 g w 119 (s.2:Gd) p3∧e 14=vB∧RV g.m w (l8:List Int) vB∧e 15=.int .i64 (((l8).length:Int))∧e 16=.int .i64 (o0)) (fun X165 aG nH h=>?_) ?_))
   ·refine Zr ?_
    refine Zf (Za (Zo aB rfl ?_));obtain ⟨lB,yE,h⟩:=Gc h;refine Zy (Qb vB o0 1) (Zh (α:=Int) Tryz.underlying28 Tryz.sizeOf3 uC oB aB yE) rfl ?_;have zH:=Tv oB yE;refine Ze .plain rfl (Gr (g:=cC) Tryz.isAgg3 Tryz.sizeOf3 rfl zH fun xJ aI=>?_);obtain rfl:=Zj.1 aI;refine Zg (.int .i64 (o0)) rfl rfl ?_;refine Zg (.int .i64 (lB)) rfl rfl ?_;refine Zb (Zd ?_);obtain ⟨n9,hx,h⟩:=Gc h;refine Tq (fun e w=>∃ (g:Gh) ,Fr gI wI g w∧e 1=up1∧RV g.m w (x1:List (List Int)) up1∧e 3=p1∧OB 2003 g w 119 (l5:Gd) p1∧e 5=p2∧PT g.m w (x2:Tg) p2∧e 6=p3∧OB 2006 g w 119 (l9:Gd) p3∧e 8=.int .i64 (o0)∧e 14=vB∧RV g.m w (l8:List Int) vB∧e 15=.int .i64 (((l8).length:Int))∧e 16=.int .i64 (o0)∧e 32=.bool (n9)) (fun Q' hQ=>?_) (fun oJ zJ hR=>?_)
    ·replace h := hx
     clear hx;refine Za (Zn (.int .i64 (lB)) rfl rfl ?_);refine Zy (Gm p2 10) (Zc Da lD (PT.ptr zB)) rfl ?_;have bI:=Zm (Jl).1 zB;refine Ze .plain rfl (Gr (g:=cC) Tryz.isAgg3 Tryz.sizeOf3 rfl bI fun aK dI=>?_);obtain rfl:=Zj.1 dI;refine Gy (.bool ((lB == (x2).colour))) rfl rfl rfl rfl ?_;refine Zn (.bool ((lB == (x2).colour))) rfl rfl ?_;rcases Zt h with ⟨i6,h⟩ | ⟨i6,h⟩
     ·refine Zz (Gm p1 1) (Zc Sf yB (OB.ptr mB)) rfl rfl i6 rfl ?_
      refine Ze (.yes2 rfl rfl i6) rfl (Kf (g:=cC) Kp.1 Tryz.isAgg3 Tryz.sizeOf3 rfl mB fun bK iI=>?_);obtain rfl:=Zj.1 iI;refine Zz (.int .i64 (o0)) (Zk rfl) rfl rfl i6 rfl ?_;obtain ⟨y180,oH,h⟩:=Gc h;refine Zz (.int .i64 (y180)) (Td rfl rfl (congrArg (Option.map (Value.int .i64)) oH)) rfl rfl i6 rfl ?_;refine Zz (.int .i64 ((Qy .and y180 (1:Int)))) (Td rfl rfl rfl) rfl rfl i6 rfl ?_;refine Zz (.bool (((Qy .and y180 (1:Int)) == (0:Int)))) (Td rfl rfl rfl) rfl rfl i6 rfl ?_;refine Zy (.bool (((Qy .and y180 (1:Int)) == (0:Int)))) (Zl (b:=(lB == (x2).colour)) rfl (Ty i6 rfl)) rfl ?_;refine Zb ?_;obtain rfl:=sinj h;exact hQ _ _ ⟨cC,hfr,mE,oE,yB,mB,lD,zB,nD,oD,rfl,uC,oB,vC,aB,rfl⟩
     ·refine Ga rfl rfl i6 rfl rfl ?_
      iterate 5 refine Ga rfl rfl i6 rfl rfl ?_
      refine Zy (.bool false) (Zl (b:=(lB == (x2).colour)) rfl (Qd i6 rfl)) rfl ?_;refine Zb ?_;obtain rfl:=sinj h;exact hQ _ _ ⟨cC,hfr,mE,oE,yB,mB,lD,zB,nD,oD,rfl,uC,oB,vC,aB,rfl⟩
    ·clear hx
     obtain ⟨eG,hfr,rE,g8,nB,n8,uE,v8,yD,t5,gG,zE,cF,dF,eF,zD⟩:=hR;rcases Zt h with ⟨iE,h⟩ | ⟨iE,h⟩
     ·refine Qn (Eq.trans (show ev _ _ = .bool (n9) from zD) (congrArg Value.bool iE)) ?_
      refine Zf (Kk (x:=.tmp 33) Kp.1 Tryz.isAgg3 Tryz.sizeOf3 n8 fun cK jI pH=>?_);obtain rfl:=Zj.1 jI;obtain ⟨aE,qH,h⟩:=Gc h;refine Qp (g:=eG) (n:=6) [] [0,1,2,3,4,5] rfl mixed (by kernel_rfl) trivial ?_;refine Gb (Gm p1 1) rfl rfl (Zc Sf nB (OB.ptr n8)) ?_;refine Tl (c:=.int .i64 ((l5).done)) rfl rfl .plain (fun _ _ h=>⟨h.ch,fun b hb _=>h.below.block b hb⟩) pH rfl ?_;refine Gb (.int .i64 (o0)) rfl rfl (Zk gG) ?_;refine Gb (.int .i64 (aE)) rfl rfl (Td rfl rfl (congrArg (Option.map (Value.int .i64)) qH)) ?_;refine Gb (.int .i64 ((Qy .or (l5).done aE))) rfl rfl (Td rfl rfl rfl) ?_;refine Gb (Gm p1 1) rfl rfl (Zc Sf nB (OB.ptr n8)) ?_;refine Yz fun kI dK hs=>?_;have hfr:=hfr.ext hs;have g8:=g8.ext hs;have n8:=n8.ext hs;have v8:=v8.ext hs;have t5:=t5.ext hs;clear hs;refine Ze .plain rfl (Kb (g:=kI) Kp Tryz.sizeOf3 rfl n8 rfl (Zj.2 rfl) fun iG lK hs b203 rst hos=>?_);clear rst hos;have hfr:=hfr.stp hs;have g8:=g8.stp hs;have v8:=v8.stp hs;have t5:=t5.stp hs rfl;refine Zb (Zd (Zf (Za (Zy (Gm p2 0) (Zc at_198_0 uE (PT.ptr v8)) rfl ?_))));have lI:=Zm (As).1 v8;refine Ze .plain rfl (Gr (g:=iG) Tryz.isAgg115 Tryz.sizeOf115 rfl lI fun mK mI=>?_);refine Zy (Gm p1 2) (Zc Co nB (OB.ptr b203)) rfl ?_;refine Ze .plain rfl (Kb (g:=iG) Hh Tryz.sizeOf115 rfl b203 rfl mI fun jG nK hs b207 rst hos=>?_);clear rst hos;have hfr:=hfr.stp hs;have g8:=g8.stp hs;have t5:=t5.stp hs rfl;refine Zb (Zd (Zf (Za (Ze .plain rfl (Tp (g:=jG) Tryz.isAgg119 Tryz.sizeOf119 nB b207 fun nI pI=>?_)))));refine Zo rE rfl ?_;obtain ⟨bG,sH,h⟩:=Gc h;refine Ze .plain rfl (Zp (g:=jG) (vs:=[nI,up1]) en43 (.cons rfl (.cons rfl .nil)) (wk43 pI g8 sH) fun qI pJ sI hs hr=>?_);have hfr:=hfr.ext hs;have t5:=t5.ext hs;have jJ:=hr;refine Ze .plain rfl (Gn (g:=qI) (v:=sI) Tryz.sizeOf119 yD t5 rfl jJ fun oK pK hs b211 cb=>?_);clear cb;have hfr:=hfr.stp hs;refine Zg (.bool true) rfl rfl ?_;refine Zb (Zd (Gx (Wa ?_)));refine Tm ?_;refine Tm ?_;refine Wa ?_;refine Tm ?_;obtain rfl:=sinj h;obtain ⟨ad212,cv212,hp212,tH,cr212⟩:=Qv Tryz.isAgg119 Tryz.sizeOf119 b211;exact Hr rfl rfl ((show _=p3 from yD).trans hp212) tH (show _=.bool true from rfl) ⟨_,hfr,_,_,rfl,cr212,rfl⟩
     ·refine Qa (Eq.trans (show ev _ _ = .bool (n9) from zD) (congrArg Value.bool iE)) ?_
      exact Zu (Qx (Zd (nH (l5,l9) _ _ ⟨eG,hfr,rE,g8,nB,n8,uE,v8,yD,t5,zE,cF,dF,eF⟩ h)))
   ·rintro ⟨bD, cD⟩ qJ qK ⟨kJ, hfr, kG, lG, mG, sG, xG, yG, zG, aH, rF, sF, tF, uF⟩ h
    refine Za (Gy (.int .i64 ((w64 (o0 + (1:Int))))) uF rfl rfl rfl ?_);refine Zn (.int .i64 ((w64 (o0 + (1:Int))))) rfl rfl ?_;exact Zb (Zd (mH (bD,cD,(w64 (o0 + (1:Int)))) _ _ ⟨kJ,hfr,kG,lG,mG,sG,xG,yG,zG,aH,rF,sF,tF,rfl⟩ h))
  ·refine Qm bE rfl ?_
   refine Qz ?_;refine Tr ?_;refine Tr ?_;refine Tz ?_;exact Zd (lH (l5,l9) _ _ ⟨cC,hfr,yB,mB,nD,oD⟩ h)
 ·rintro ⟨lE, vF⟩ rJ sK ⟨cH, hfr, gH, jH, vE, kH⟩ h
  refine Zf (Za (Ze .plain rfl (Tp (g:=cH) Tryz.isAgg119 Tryz.sizeOf119 gH jH fun lJ mJ=>?_)));refine Ze .plain rfl (Gn (g:=cH) (v:=lJ) Tryz.sizeOf119 vE kH rfl mJ fun tK uK hs b216 cb=>?_);clear cb;have hfr:=hfr.stp hs;refine Zg (.bool false) rfl rfl ?_;refine Zb (Zd (Gx ?_));obtain rfl:=sinj h;obtain ⟨ad217,cv217,hp217,uH,cr217⟩:=Qv Tryz.isAgg119 Tryz.sizeOf119 b216;exact Hr rfl rfl ((show _=p3 from vE).trans hp217) uH (show _=.bool false from rfl) ⟨_,hfr,_,_,rfl,cr217,rfl⟩
def f86 (x0:List (List Int)) (x1:(List Int)→Option Bool):Option (Int):=
 jn (σ:=Unit) (fun _=>
  some ((-1:Int))
  ) fun k18=>
 lp (σ:=Int) (fun k19 o0=>
  bif (decide (o0 < ((x0).length : Int))) then
   jn (σ:=Unit) (fun _=>
    k19 ((w64 (o0 + (1:Int))))
    ) fun k28=>
   (idx x0 o0).bind fun vB=>
   (x1 vB).bind fun yB=>
   bif yB then
    some (o0)
   else
    k28 ()
  else
   k18 ()
  ) big ((0:Int))
theorem en86:Enters Tryz.prog 86:=enters_of Tryz.func86 (by kernel_rfl) rfl
theorem wk86 {gI:Gh} {wI:World} {x0:List (List Int)} {x1:(List Int)→Option Bool} {up0:Value} (rp0:RV gI.m wI x0 up0) {up1:Value} (rp1:Xo Tryz.prog x1 up1 gI wI) {r:Int} (h:f86 x0 x1=some r):Fn Tryz.prog 86 #[up0,up1] gI wI (fun _ _ v=>v=.int .i64 (r)):=by
 unfold f86 at h;refine Tc Tryz.func86 rfl (Nat.le_of_ble_eq_true rfl) fun g0 hm hfr=>?_;have rp0:RV g0.m wI x0 up0:=hm ▸ rp0;obtain ⟨ff1,fa1,fc1,rfl,fen1,fcl1⟩:=rp1;show E _ 19 none _ _ _ _ _;refine Zf (Za (Zg (.int .i64 (0)) rfl rfl ?_));refine Zb (Zd (Zq h (fun (s:Unit) e w=>∃ (g:Gh) ,Fr gI wI g w) (fun X18 k18 zB h=>?_) ?_))
 ·refine Zf (Za (Zn up0 rfl rfl ?_))
  refine Zy (.int .i64 ((x0).length:Int)) (Qk Tryz.underlying35 rfl rp0) rfl ?_;refine Zn (.int .i64 (0)) rfl rfl ?_;refine Zb (Zd (Zr ?_));refine Je h (fun (s:Int) e w=>∃ (g:Gh) ,Fr gI wI g w∧e 0=up0∧RV g.m w (x0:List (List Int)) up0∧e 1=(.func (.func ff1) fa1 fc1)∧e 7=.int .i64 (((x0).length:Int))∧e 8=.int .i64 (s)) ⟨g0,hfr,rfl,rp0,rfl,rfl,rfl⟩ (fun X19 k19 cC=>?_);rintro o0 yD bE ⟨l9,hfr,l8,l5,n8,v8,t5⟩ h;refine Zf (Za (Gy (.bool ((decide (o0 < ((x0).length:Int))))) t5 v8 rfl rfl ?_));refine Zb (Zd (Zf ?_));rcases Zt h with ⟨i6,h⟩ | ⟨i6,h⟩
  ·refine Qo i6 rfl ?_
   refine Zu (Zd (Zq h (fun (s:Unit) e w=>∃ (g:Gh) ,Fr gI wI g w∧e 0=up0∧RV g.m w (x0:List (List Int)) up0∧e 1=(.func (.func ff1) fa1 fc1)∧e 7=.int .i64 (((x0).length:Int))∧e 8=.int .i64 (o0)) (fun X28 k28 uC h=>?_) ?_))
   ·refine Zr ?_
    refine Zf (Za (Zo t5 rfl ?_));refine Zg (.int .i64 (o0)) rfl rfl ?_;refine Zb (Zd (Zf (Za (Zo n8 rfl ?_))));refine Zo l8 rfl ?_;refine Zn (.int .i64 (o0)) rfl rfl ?_;obtain ⟨vB,n9,h⟩:=Gc h;refine Zy (Qb up0 o0 1) (Zh (α:=List Int) Tryz.underlying35 Tryz.sizeOf28 rfl l5 rfl n9) rfl ?_;have bD:=Tv l5 n9;refine Ze .plain rfl (Gr (g:=l9) Tryz.isAgg28 Tryz.sizeOf28 rfl bD fun cD lD=>?_);obtain ⟨yB,vC,h⟩:=Gc h;refine Ze .plain rfl (Ug (g:=l9) (vs:=[cD]) rfl fen1 (.cons rfl .nil) (fcl1 _ _ hfr.ch _ _ _  lD vC) fun nD iE lE hs hr=>?_);have hfr:=hfr.ext hs;have l5:=l5.ext hs;obtain rfl:=Qw.1 hr;refine Zb (Zd ?_);rcases Zt h with ⟨g8,h⟩ | ⟨g8,h⟩
    ·refine Qo g8 rfl ?_
     refine Zf (Za (Zn (.int .i64 (o0)) rfl rfl ?_));refine Zg (.int .i64 (o0)) rfl rfl ?_;refine Zb (Zd (Gx (Wa ?_)));refine Tm ?_;refine Tm ?_;refine Wa ?_;refine Tm ?_;obtain rfl:=sinj h;exact Wg rfl rfl (show _=.int .i64 (o0) from rfl) ⟨_,hfr,rfl⟩
    ·refine Qm g8 rfl ?_
     exact Zu (Qx (Zd (uC () _ _ ⟨nD,hfr,l8,l5,n8,v8,t5⟩ h)))
   ·rintro _ zD mE ⟨oD, hfr, aB, lB, mB, nB, oB⟩ h
    refine Za (Gy (.int .i64 ((w64 (o0 + (1:Int))))) oB rfl rfl rfl ?_);refine Zn (.int .i64 ((w64 (o0 + (1:Int))))) rfl rfl ?_;exact Zb (Zd (cC ((w64 (o0 + (1:Int)))) _ _ ⟨oD,hfr,aB,lB,mB,nB,rfl⟩ h))
  ·refine Qm i6 rfl ?_
   refine Qz ?_;refine Tr ?_;refine Tr ?_;refine Tz ?_;exact Zd (zB () _ _ ⟨l9,hfr⟩ h)
 ·rintro _ aE oE ⟨rE, hfr⟩ h
  refine Zf (Za (Zg (.int .i64 (-1)) rfl rfl ?_));refine Zb (Zd (Gx ?_));obtain rfl:=sinj h;exact Wg rfl rfl (show _=.int .i64 (-1) from rfl) ⟨_,hfr,rfl⟩
def f87 (x1:Int):Option ((List Int)):=
 Option.bind (α:=Unit) (
  bif (decide (x1 < (0 : Int))) then
   none
  else
   some ()
  ) fun (_:Unit)=>
 Option.bind (α:=(List Int)) (
  bif (decide ((w64 (x1 - (w64 (((0 : Nat) : Int) - ((([] : List Int)).length : Int))))) > (0 : Int))) then
   (grwz 8 ((w64 (x1 - (w64 (((0:Nat):Int) - ((([]:List Int)).length:Int))))))).bind fun _=>
   some (([]:List Int))
  else
   some (([]:List Int))
  ) fun t5=>
 some (t5)
theorem en87:Enters Tryz.prog 87:=enters_of Tryz.func87 (by kernel_rfl) rfl
theorem wk87 {iO:Nat} {gI:Gh} {wI:World} {x1:Int}  {r:(List Int)} (h:f87 x1=some r):FnG Tryz.prog 87 #[.slice none 0 0,.int .i64 (x1)] gI wI (fun g w v=>OS iO g w 3 r v∧RV g.m w r v):=by
 unfold f87 at h;refine Pr Tryz.func87 rfl (Nat.le_of_ble_eq_true rfl) fun g0 hm hfr=>?_;show E _ 27 none _ _ _ _ _;refine Zf (Za (Zg (.slice none 0 0) rfl rfl ?_));refine Zb (Zd ?_);obtain ⟨_,hx,h⟩:=Gc h;refine Tq (fun e w=>∃ (g:Gh) ,Fr gI wI g w∧e 0=.slice none 0 0∧RV g.m w (([]:List Int):List Int) (Value.slice none 0 0)∧e 1=.int .i64 (x1)) (fun Q' hQ=>?_) (fun aB w3 hR=>?_)
 ·replace h := hx
  clear hx;refine Zf (Za (Zn (.int .i64 (x1)) rfl rfl ?_));refine Gy (.bool ((decide (x1 < (0:Int))))) rfl rfl rfl rfl ?_;refine Zb (Zd ?_);rcases Zt h with ⟨hc2,h⟩ | ⟨hc2,h⟩
  ·refine Qo hc2 rfl ?_
   refine Za ?_
   cases h
  ·refine Qm hc2 rfl ?_
   refine Zu ?_;obtain rfl:=sinj h;exact hQ _ _ ⟨g0,hfr,rfl,Kh,rfl⟩
 ·clear hx
  obtain ⟨g3,hfr,o0,l5,l8⟩:=hR;obtain ⟨t5,hx,h⟩:=Gc h;refine Tq (fun e w=>∃ (g:Gh) (v0:Value),Fr gI wI g w∧e 0=v0∧RV g.m w (t5:List Int) v0∧OS 4022 g w 3 (t5:List Int) v0) (fun Q' hQ=>?_) (fun lB w8 hR=>?_)
  ·replace h := hx
   clear hx;refine Zf (Za (Zo l8 rfl ?_));refine Zo o0 rfl ?_;refine Zy (.int .i64 ((0:Nat):Int)) (P_cap Tryz.underlying28 rfl) rfl ?_;refine Zo o0 rfl ?_;refine Zy (.int .i64 ((([]:List Int)).length:Int)) (Qk Tryz.underlying28 rfl l5) rfl ?_;refine Zy (.int .i64 ((w64 (((0:Nat):Int) - ((([]:List Int)).length:Int))))) (Td rfl rfl rfl) rfl ?_;refine Zy (.int .i64 ((w64 (x1 - (w64 (((0:Nat):Int) - ((([]:List Int)).length:Int))))))) (Td rfl rfl rfl) rfl ?_;refine Zy (.int .i64 ((w64 (x1 - (w64 (((0:Nat):Int) - ((([]:List Int)).length:Int))))))) (Qt rfl) rfl ?_;refine Zb (Zd (Zf (Za (Zy (.int .i64 ((w64 (x1 - (w64 (((0:Nat):Int) - ((([]:List Int)).length:Int))))))) (Zk rfl) rfl ?_))));refine Zy (.bool ((decide ((w64 (x1 - (w64 (((0:Nat):Int) - ((([]:List Int)).length:Int))))) > (0:Int))))) (Td rfl rfl rfl) rfl ?_;refine Zb (Zd ?_);rcases Zt h with ⟨hc6,h⟩ | ⟨hc6,h⟩
   ·refine Qo hc6 rfl ?_
    refine Za (Zo o0 rfl ?_);refine Zo o0 rfl ?_;refine Zy (.int .i64 ((0:Nat):Int)) (P_cap Tryz.underlying28 rfl) rfl ?_;refine Zy (.slice none 0 0) (P_cutN Tryz.underlying28 Tryz.sizeOf3 rfl rfl (fun p hp=>by cases hp)) rfl ?_;refine Zy (.int .i64 ((w64 (x1 - (w64 (((0:Nat):Int) - ((([]:List Int)).length:Int))))))) (Zk rfl) rfl ?_;obtain ⟨y7,n9,h⟩:=Gc h;refine Ze .plain rfl (D_growZ (g:=g3) (α:=Int) 4022 Tryz.underlying28 Tryz.underlying3 Ua rfl (Nat.le_of_ble_eq_true rfl) rfl rfl n9 fun g7 w7 b7 c7 m7 hs o7 r7=>?_);have hfr:=hfr.stp hs;have l5:=l5.stp hs;refine Zo o0 rfl ?_;refine Zy (.int .i64 ((([]:List Int)).length:Int)) (Qk Tryz.underlying28 rfl l5) rfl ?_;refine Zy ((.slice (some ⟨b7,0,none⟩) 0 c7)) (P_cutN Tryz.underlying28 Tryz.sizeOf3 rfl rfl (fun p hp=>by cases hp; rfl)) rfl ?_;refine Zg ((.slice (some ⟨b7,0,none⟩) 0 c7)) rfl rfl ?_;refine Zb ?_;obtain rfl:=sinj h;exact hQ _ _ ⟨g7,((.slice (some ⟨b7,0,none⟩) 0 c7)),hfr,rfl,r7,o7⟩
   ·refine Qm hc6 rfl ?_
    refine Zu ?_;obtain rfl:=sinj h;exact hQ _ _ ⟨g3,(.slice none 0 0),hfr,o0,l5,OS.nil⟩
  ·clear hx
   obtain ⟨g8,i6,hfr,n8,v8,l9⟩:=hR;refine Zf (Za (Zo n8 rfl ?_));refine Zg i6 rfl rfl ?_;refine Zb (Zd (Gx ?_));obtain rfl:=sinj h;obtain ⟨gh,hxh,homh,hrvh⟩:=OS.handn (i:=iO) hfr l9 v8;exact Wg rfl rfl (show _=i6 from rfl) ⟨gh,hxh,homh,hrvh⟩
def f94 (x0:Int):Option ((List Int)):=
 Option.bind (α:=(List Int)) (
  lp (σ:=(List Int) × Int) (fun aE (l5,o0)=>
   jn (σ:=Unit) (fun _=>
    Option.bind (α:=(List Int)) (
     (Sa x0 o0).bind fun n9=>
     bif ((Qy .and n9 (1 : Int)) == (1 : Int)) then
      (apnd 8 l5 (([o0]:List Int))).bind fun bE=>
      some (bE)
     else
      some (l5)
     ) fun t5=>
    aE (t5,(w64 (o0 + (1:Int))))
    ) fun iE=>
   (Sa x0 o0).bind fun mB=>
   bif (decide (mB > (0 : Int))) then
    iE ()
   else
    some (l5)
   ) big ([],(0:Int))
  ) fun g8=>
 some (g8)
theorem en94:Enters Tryz.prog 94:=enters_of Tryz.func94 (by kernel_rfl) rfl
theorem wk94 {gI:Gh} {wI:World} {x0:Int}  {r:(List Int)} (h:f94 x0=some r):Fn Tryz.prog 94 #[.int .i64 (x0)] gI wI (fun m w v=>RV m w (r) v):=by
 unfold f94 at h;refine Tc Tryz.func94 rfl (Nat.le_of_ble_eq_true rfl) fun g0 hm hfr=>?_;show E _ 20 none _ _ _ _ _;refine Zf (Za (Zg (.slice none 0 0) rfl rfl ?_));refine Zb (Zd ?_);obtain ⟨g8,hx,h⟩:=Gc h;refine Tq (fun e w=>∃ (g:Gh) (v2:Value),Fr gI wI g w∧e 2=v2∧RV g.m w (g8:List Int) v2∧OS 1002 g w 3 (g8:List Int) v2) (fun Q' hQ=>?_) (fun tF yF hR=>?_)
 ·replace h := hx
  clear hx;refine Zf (Za (Zg (.int .i64 (0)) rfl rfl ?_));refine Zb (Zd (Zr ?_));refine Je h (fun (s:(List Int) × Int) e w=>∃ (g:Gh) (v2:Value),Fr gI wI g w∧e 0=.int .i64 (x0)∧e 2=v2∧RV g.m w (s.1:List Int) v2∧OS 1002 g w 3 (s.1:List Int) v2∧e 3=.int .i64 (s.2)) ⟨g0,(.slice none 0 0),hfr,rfl,rfl,Kh,OS.nil,rfl⟩ (fun X20 aE rE=>?_);rintro ⟨l5,o0⟩ uF aG ⟨lE,i6,hfr,nB,oB,vB,yB,zB⟩ h;refine Zq h (fun (s:Unit) e w=>∃ (g:Gh) ,Fr gI wI g w∧e 0=.int .i64 (x0)∧e 2=i6∧RV g.m w (l5:List Int) i6∧OS 1002 g w 3 (l5:List Int) i6∧e 3=.int .i64 (o0)) (fun X24 iE uE h=>?_) ?_
  ·refine Zf (Za (Zo nB rfl ?_))
   refine Zo zB rfl ?_;obtain ⟨mB,vE,h⟩:=Gc h;refine Zy (.int .i64 (mB)) (Td rfl rfl (congrArg (Option.map (Value.int .i64)) vE)) rfl ?_;refine Gy (.bool ((decide (mB > (0:Int))))) rfl rfl rfl rfl ?_;refine Zb (Zd ?_);rcases Zt h with ⟨aB,h⟩ | ⟨aB,h⟩
   ·refine Qo aB rfl ?_
    exact Zu (Zd (uE () _ _ ⟨lE,hfr,nB,oB,vB,yB,zB⟩ h))
   ·refine Qm aB rfl ?_
    refine Qz ?_;refine Tr ?_;refine Tr ?_;refine Tz ?_;obtain rfl:=sinj h;exact hQ _ _ ⟨lE,(i6),hfr,oB,vB,yB⟩
  ·rintro _ vF bG ⟨mE, hfr, l9, cC, l8, n8, v8⟩ h
   obtain ⟨t5,hx,h⟩:=Gc h;refine Tq (fun e w=>∃ (g:Gh) (v2:Value),Fr gI wI g w∧e 0=.int .i64 (x0)∧e 2=v2∧RV g.m w (t5:List Int) v2∧OS 1002 g w 3 (t5:List Int) v2∧e 3=.int .i64 (o0)) (fun Q' hQ=>?_) (fun xF cG hR=>?_)
   ·replace h := hx
    clear hx;refine Zr ?_;refine Zf (Za (Zo l9 rfl ?_));refine Zo v8 rfl ?_;obtain ⟨n9,xE,h⟩:=Gc h;refine Zy (.int .i64 (n9)) (Td rfl rfl (congrArg (Option.map (Value.int .i64)) xE)) rfl ?_;refine Gy (.int .i64 ((Qy .and n9 (1:Int)))) rfl rfl rfl rfl ?_;refine Gy (.bool (((Qy .and n9 (1:Int)) == (1:Int)))) rfl rfl rfl rfl ?_;refine Zb (Zd ?_);rcases Zt h with ⟨lB,h⟩ | ⟨lB,h⟩
    ·refine Qo lB rfl ?_
     refine Za (Zo cC rfl ?_);refine Zo v8 rfl ?_;refine Ze .plain rfl (Gp (g:=mE) 3017 (xs:=([o0]:List Int)) (vs:=[.int .i64 (o0)]) Tryz.underlying28 Tryz.sizeOf3 Tryz.zeroValue3 rfl rfl (.cons rfl .nil) (RVs.cons (Zj.2 rfl) RVs.nil) rfl rfl fun zE eG gG hs o35 cF hxt hfl=>?_);have hfr:=hfr.stp hs;have l8:=l8.stp hs;have n8:=n8.stp hs rfl;obtain ⟨bE,yE,h⟩:=Gc h;refine Ze .plain rfl (Ha (g:=zE) (i:=1002) Tryz.underlying28 Ua rfl rfl n8 l8 rfl cF yE fun dF iG oE hs o36 eF _=>?_);have hfr:=hfr.stp hs;refine Zg oE rfl rfl ?_;refine Zb (Qx ?_);obtain rfl:=sinj h;exact hQ _ _ ⟨dF,(oE),hfr,l9,rfl,eF,o36,v8⟩
    ·refine Qm lB rfl ?_
     refine Zu (Qx ?_);obtain rfl:=sinj h;exact hQ _ _ ⟨mE,(i6),hfr,l9,cC,l8,n8,v8⟩
   ·clear hx
    obtain ⟨rF,vC,hfr,bD,cD,lD,nD,oD⟩:=hR;refine Za (Zo oD rfl ?_);refine Gy (.int .i64 ((w64 (o0 + (1:Int))))) rfl rfl rfl rfl ?_;refine Zg (.int .i64 ((w64 (o0 + (1:Int))))) rfl rfl ?_;exact Zb (Zd (rE (t5,(w64 (o0 + (1:Int)))) _ _ ⟨rF,(vC),hfr,bD,cD,lD,nD,rfl⟩ h))
 ·clear hx
  obtain ⟨jG,uC,hfr,yD,zD,sF⟩:=hR;refine Zf (Za (Zo yD rfl ?_));refine Zg uC rfl rfl ?_;refine Zb (Zd (Gx ?_));obtain rfl:=sinj h;exact Wg rfl rfl (show _=uC from rfl) ⟨_,hfr,zD⟩
def f97 (x0:Xp):Option (Int):=
 some ((x0).Low)
theorem en97:Enters Tryz.prog 97:=enters_of Tryz.func97 (by kernel_rfl) rfl
theorem wk97 {gI:Gh} {wI:World} {x0:Xp} {up0:Value} (rp0:RV gI.m wI x0 up0) {r:Int} (h:f97 x0=some r):Fn Tryz.prog 97 #[up0] gI wI (fun _ _ v=>v=.int .i64 (r)):=by
 unfold f97 at h;refine Tc Tryz.func97 rfl (Nat.le_of_ble_eq_true rfl) fun g0 hm hfr=>?_;have rp0:RV g0.m wI x0 up0:=hm ▸ rp0;show E _ 5 none _ _ _ _ _;refine Zf (Za (Ze .plain rfl (Wc (g:=g0) rfl rp0 fun g1 w1 p1 hs q1=>?_)));have hfr:=hfr.ext hs;refine Zg (.int .i64 (0)) rfl rfl ?_;refine Zb (Zd (Zf (Za (Zy (Gm p1 0) (Zc Lr rfl (PT.ptr q1)) rfl ?_))));have q2:=Zm (Bb).1 q1;refine Ze .plain rfl (Gr (g:=g1) Tryz.isAgg3 Tryz.sizeOf3 rfl q2 fun v3 r3=>?_);obtain rfl:=Zj.1 r3;refine Zg (.int .i64 ((x0).Low)) rfl rfl ?_;refine Zb (Zd (Gx ?_));obtain rfl:=sinj h;exact Wg rfl rfl (show _=.int .i64 ((x0).Low) from rfl) ⟨_,hfr,rfl⟩
def f98 (x0:Xp):Option (Int):=
 some ((x0).High)
theorem en98:Enters Tryz.prog 98:=enters_of Tryz.func98 (by kernel_rfl) rfl
theorem wk98 {gI:Gh} {wI:World} {x0:Xp} {up0:Value} (rp0:RV gI.m wI x0 up0) {r:Int} (h:f98 x0=some r):Fn Tryz.prog 98 #[up0] gI wI (fun _ _ v=>v=.int .i64 (r)):=by
 unfold f98 at h;refine Tc Tryz.func98 rfl (Nat.le_of_ble_eq_true rfl) fun g0 hm hfr=>?_;have rp0:RV g0.m wI x0 up0:=hm ▸ rp0;show E _ 5 none _ _ _ _ _;refine Zf (Za (Ze .plain rfl (Wc (g:=g0) rfl rp0 fun g1 w1 p1 hs q1=>?_)));have hfr:=hfr.ext hs;refine Zg (.int .i64 (0)) rfl rfl ?_;refine Zb (Zd (Zf (Za (Zy (Gm p1 1) (Zc Pm rfl (PT.ptr q1)) rfl ?_))));have q2:=Zm (Bp).1 q1;refine Ze .plain rfl (Gr (g:=g1) Tryz.isAgg3 Tryz.sizeOf3 rfl q2 fun v3 r3=>?_);obtain rfl:=Zj.1 r3;refine Zg (.int .i64 ((x0).High)) rfl rfl ?_;refine Zb (Zd (Gx ?_));obtain rfl:=sinj h;exact Wg rfl rfl (show _=.int .i64 ((x0).High) from rfl) ⟨_,hfr,rfl⟩
def f100 (x0:Int) (z0:List Bool):Option (Bool):=
 (idx z0 x0).bind fun y2=>
 some ((!y2))
theorem en100:Enters Tryz.prog 100:=enters_of Tryz.func100 (by kernel_rfl) rfl
theorem wk100 {gI:Gh} {wI:World} {x0:Int} {z0:List Bool} {pf0:Value} (qf0:PT gI.m wI z0 pf0) {r:Bool} (h:f100 x0 z0=some r):Fn Tryz.prog 100 #[.int .i64 (x0),pf0] gI wI (fun _ _ v=>v=.bool (r)):=by
 unfold f100 at h;refine Tc Tryz.func100 rfl (Nat.le_of_ble_eq_true rfl) fun g0 hm hfr=>?_;have qf0:PT g0.m wI z0 pf0:=hm ▸ qf0;show E _ 9 none _ _ _ _ _;refine Zf (Za (Zg (.bool false) rfl rfl ?_));refine Zb (Zd (Zf (Za (Ze .plain rfl (Gr (g:=g0) Tryz.isAgg137 Tryz.sizeOf137 rfl qf0 fun v1 r1=>?_)))));refine Zn (.int .i64 (x0)) rfl rfl ?_;obtain ⟨y2,hy2,h⟩:=Gc h;refine Zy (Qb v1 x0 1) (Zh (α:=Bool) Tryz.underlying137 Tryz.sizeOf4 rfl r1 rfl hy2) rfl ?_;have q3:=Tv r1 hy2;refine Ze .plain rfl (Gr (g:=g0) Tryz.isAgg4 Tryz.sizeOf4 rfl q3 fun v4 r4=>?_);obtain rfl:=Qw.1 r4;refine Zy (.bool (!y2)) (Hy rfl) rfl ?_;refine Zg (.bool (!y2)) rfl rfl ?_;refine Zb (Zd (Gx ?_));obtain rfl:=sinj h;exact Wg rfl rfl (show _=.bool (!y2) from rfl) ⟨_,hfr,rfl⟩
def f110 (x0:Int):Option (Bool):=
 some ((x0 != x0))
theorem en110:Enters Tryz.prog 110:=enters_of Tryz.func110 (by kernel_rfl) rfl
theorem wk110 {gI:Gh} {wI:World} {x0:Int}  {r:Bool} (h:f110 x0=some r):Fn Tryz.prog 110 #[.int .i64 (x0)] gI wI (fun _ _ v=>v=.bool (r)):=by
 unfold f110 at h;refine Tc Tryz.func110 rfl (Nat.le_of_ble_eq_true rfl) fun g0 hm hfr=>?_;show E _ 6 none _ _ _ _ _;refine Zf (Za (Zg (.bool false) rfl rfl ?_));refine Zb (Zd (Zf (Za (Zn (.int .i64 (x0)) rfl rfl ?_))));refine Zn (.int .i64 (x0)) rfl rfl ?_;refine Gy (.bool ((x0 != x0))) rfl rfl rfl rfl ?_;refine Zg (.bool ((x0 != x0))) rfl rfl ?_;refine Zb (Zd (Gx ?_));obtain rfl:=sinj h;exact Wg rfl rfl (show _=.bool ((x0 != x0)) from rfl) ⟨_,hfr,rfl⟩
def f113 (x0:Int) (x1:Zv):Option (Int):=
 some ((w64 (x0 + (1:Int))))
theorem en113:Enters Tryz.prog 113:=enters_of Tryz.func113 (by kernel_rfl) rfl
theorem wk113 {gI:Gh} {wI:World} {x0:Int} {x1:Zv} {up1:Value} (rp1:RV gI.m wI x1 up1) {r:Int} (h:f113 x0 x1=some r):Fn Tryz.prog 113 #[.int .i64 (x0),up1] gI wI (fun _ _ v=>v=.int .i64 (r)):=by
 unfold f113 at h;refine Tc Tryz.func113 rfl (Nat.le_of_ble_eq_true rfl) fun g0 hm hfr=>?_;have rp1:RV g0.m wI x1 up1:=hm ▸ rp1;show E _ 7 none _ _ _ _ _;refine Zf (Za (Ze .plain rfl (Wc (g:=g0) rfl rp1 fun g1 w1 p1 hs q1=>?_)));have hfr:=hfr.ext hs;refine Zg (.int .i64 (0)) rfl rfl ?_;refine Zb (Zd (Zf (Za (Zn (.int .i64 (x0)) rfl rfl ?_))));refine Gy (.int .i64 ((w64 (x0 + (1:Int))))) rfl rfl rfl rfl ?_;refine Zg (.int .i64 ((w64 (x0 + (1:Int))))) rfl rfl ?_;refine Zb (Zd (Gx ?_));obtain rfl:=sinj h;exact Wg rfl rfl (show _=.int .i64 ((w64 (x0 + (1:Int)))) from rfl) ⟨_,hfr,rfl⟩
def f117 (x0:List Int) (x1:Int→Option Bool):Option (Int):=
 jn (σ:=Unit) (fun _=>
  some ((-1:Int))
  ) fun k18=>
 lp (σ:=Int) (fun k19 o0=>
  bif (decide (o0 < ((x0).length : Int))) then
   jn (σ:=Unit) (fun _=>
    k19 ((w64 (o0 + (1:Int))))
    ) fun k28=>
   (idx x0 o0).bind fun l9=>
   (x1 l9).bind fun yB=>
   bif yB then
    some (o0)
   else
    k28 ()
  else
   k18 ()
  ) big ((0:Int))
theorem en117:Enters Tryz.prog 117:=enters_of Tryz.func117 (by kernel_rfl) rfl
theorem wk117 {gI:Gh} {wI:World} {x0:List Int} {x1:Int→Option Bool} {up0:Value} (rp0:RV gI.m wI x0 up0) {up1:Value} (rp1:Xo Tryz.prog x1 up1 gI wI) {r:Int} (h:f117 x0 x1=some r):Fn Tryz.prog 117 #[up0,up1] gI wI (fun _ _ v=>v=.int .i64 (r)):=by
 unfold f117 at h;refine Tc Tryz.func117 rfl (Nat.le_of_ble_eq_true rfl) fun g0 hm hfr=>?_;have rp0:RV g0.m wI x0 up0:=hm ▸ rp0;obtain ⟨ff1,fa1,fc1,rfl,fen1,fcl1⟩:=rp1;show E _ 19 none _ _ _ _ _;refine Zf (Za (Zg (.int .i64 (0)) rfl rfl ?_));refine Zb (Zd (Zq h (fun (s:Unit) e w=>∃ (g:Gh) ,Fr gI wI g w) (fun X18 k18 zB h=>?_) ?_))
 ·refine Zf (Za (Zn up0 rfl rfl ?_))
  refine Zy (.int .i64 ((x0).length:Int)) (Qk Tryz.underlying28 rfl rp0) rfl ?_;refine Zn (.int .i64 (0)) rfl rfl ?_;refine Zb (Zd (Zr ?_));refine Je h (fun (s:Int) e w=>∃ (g:Gh) ,Fr gI wI g w∧e 0=up0∧RV g.m w (x0:List Int) up0∧e 1=(.func (.func ff1) fa1 fc1)∧e 7=.int .i64 (((x0).length:Int))∧e 8=.int .i64 (s)) ⟨g0,hfr,rfl,rp0,rfl,rfl,rfl⟩ (fun X19 k19 cC=>?_);rintro o0 oD aE ⟨n9,hfr,l8,l5,n8,v8,t5⟩ h;refine Zf (Za (Gy (.bool ((decide (o0 < ((x0).length:Int))))) t5 v8 rfl rfl ?_));refine Zb (Zd (Zf ?_));rcases Zt h with ⟨i6,h⟩ | ⟨i6,h⟩
  ·refine Qo i6 rfl ?_
   refine Zu (Zd (Zq h (fun (s:Unit) e w=>∃ (g:Gh) ,Fr gI wI g w∧e 0=up0∧RV g.m w (x0:List Int) up0∧e 1=(.func (.func ff1) fa1 fc1)∧e 7=.int .i64 (((x0).length:Int))∧e 8=.int .i64 (o0)) (fun X28 k28 uC h=>?_) ?_))
   ·refine Zr ?_
    refine Zf (Za (Zo t5 rfl ?_));refine Zg (.int .i64 (o0)) rfl rfl ?_;refine Zb (Zd (Zf (Za (Zo n8 rfl ?_))));refine Zo l8 rfl ?_;refine Zn (.int .i64 (o0)) rfl rfl ?_;obtain ⟨l9,aB,h⟩:=Gc h;refine Zy (Qb up0 o0 1) (Zh (α:=Int) Tryz.underlying28 Tryz.sizeOf3 rfl l5 rfl aB) rfl ?_;have bD:=Tv l5 aB;refine Ze .plain rfl (Gr (g:=n9) Tryz.isAgg3 Tryz.sizeOf3 rfl bD fun bE cD=>?_);obtain rfl:=Zj.1 cD;obtain ⟨yB,vC,h⟩:=Gc h;refine Ze .plain rfl (Ug (g:=n9) (vs:=[.int .i64 (l9)]) rfl fen1 (.cons rfl .nil) (fcl1 _ _ hfr.ch _ _ _  (Zj.2 rfl) vC) fun lD iE lE hs hr=>?_);have hfr:=hfr.ext hs;have l5:=l5.ext hs;obtain rfl:=Qw.1 hr;refine Zb (Zd ?_);rcases Zt h with ⟨g8,h⟩ | ⟨g8,h⟩
    ·refine Qo g8 rfl ?_
     refine Zf (Za (Zn (.int .i64 (o0)) rfl rfl ?_));refine Zg (.int .i64 (o0)) rfl rfl ?_;refine Zb (Zd (Gx (Wa ?_)));refine Tm ?_;refine Tm ?_;refine Wa ?_;refine Tm ?_;obtain rfl:=sinj h;exact Wg rfl rfl (show _=.int .i64 (o0) from rfl) ⟨_,hfr,rfl⟩
    ·refine Qm g8 rfl ?_
     exact Zu (Qx (Zd (uC () _ _ ⟨lD,hfr,l8,l5,n8,v8,t5⟩ h)))
   ·rintro _ yD mE ⟨nD, hfr, lB, mB, nB, oB, vB⟩ h
    refine Za (Gy (.int .i64 ((w64 (o0 + (1:Int))))) vB rfl rfl rfl ?_);refine Zn (.int .i64 ((w64 (o0 + (1:Int))))) rfl rfl ?_;exact Zb (Zd (cC ((w64 (o0 + (1:Int)))) _ _ ⟨nD,hfr,lB,mB,nB,oB,rfl⟩ h))
  ·refine Qm i6 rfl ?_
   refine Qz ?_;refine Tr ?_;refine Tr ?_;refine Tz ?_;exact Zd (zB () _ _ ⟨n9,hfr⟩ h)
 ·rintro _ zD oE ⟨rE, hfr⟩ h
  refine Zf (Za (Zg (.int .i64 (-1)) rfl rfl ?_));refine Zb (Zd (Gx ?_));obtain rfl:=sinj h;exact Wg rfl rfl (show _=.int .i64 (-1) from rfl) ⟨_,hfr,rfl⟩
def f129 (x0:List Zv) (x1:Zv→Option Bool):Option (Int):=
 jn (σ:=Unit) (fun _=>
  some ((-1:Int))
  ) fun k18=>
 lp (σ:=Int) (fun k19 o0=>
  bif (decide (o0 < ((x0).length : Int))) then
   jn (σ:=Unit) (fun _=>
    k19 ((w64 (o0 + (1:Int))))
    ) fun k28=>
   (idx x0 o0).bind fun vB=>
   (x1 vB).bind fun yB=>
   bif yB then
    some (o0)
   else
    k28 ()
  else
   k18 ()
  ) big ((0:Int))
theorem en129:Enters Tryz.prog 129:=enters_of Tryz.func129 (by kernel_rfl) rfl
theorem wk129 {gI:Gh} {wI:World} {x0:List Zv} {x1:Zv→Option Bool} {up0:Value} (rp0:RV gI.m wI x0 up0) {up1:Value} (rp1:Xo Tryz.prog x1 up1 gI wI) {r:Int} (h:f129 x0 x1=some r):Fn Tryz.prog 129 #[up0,up1] gI wI (fun _ _ v=>v=.int .i64 (r)):=by
 unfold f129 at h;refine Tc Tryz.func129 rfl (Nat.le_of_ble_eq_true rfl) fun g0 hm hfr=>?_;have rp0:RV g0.m wI x0 up0:=hm ▸ rp0;obtain ⟨ff1,fa1,fc1,rfl,fen1,fcl1⟩:=rp1;show E _ 19 none _ _ _ _ _;refine Zf (Za (Zg (.int .i64 (0)) rfl rfl ?_));refine Zb (Zd (Zq h (fun (s:Unit) e w=>∃ (g:Gh) ,Fr gI wI g w) (fun X18 k18 zB h=>?_) ?_))
 ·refine Zf (Za (Zn up0 rfl rfl ?_))
  refine Zy (.int .i64 ((x0).length:Int)) (Qk Tryz.underlying42 rfl rp0) rfl ?_;refine Zn (.int .i64 (0)) rfl rfl ?_;refine Zb (Zd (Zr ?_));refine Je h (fun (s:Int) e w=>∃ (g:Gh) ,Fr gI wI g w∧e 0=up0∧RV g.m w (x0:List Zv) up0∧e 1=(.func (.func ff1) fa1 fc1)∧e 7=.int .i64 (((x0).length:Int))∧e 8=.int .i64 (s)) ⟨g0,hfr,rfl,rp0,rfl,rfl,rfl⟩ (fun X19 k19 cC=>?_);rintro o0 yD bE ⟨l9,hfr,l8,l5,n8,v8,t5⟩ h;refine Zf (Za (Gy (.bool ((decide (o0 < ((x0).length:Int))))) t5 v8 rfl rfl ?_));refine Zb (Zd (Zf ?_));rcases Zt h with ⟨i6,h⟩ | ⟨i6,h⟩
  ·refine Qo i6 rfl ?_
   refine Zu (Zd (Zq h (fun (s:Unit) e w=>∃ (g:Gh) ,Fr gI wI g w∧e 0=up0∧RV g.m w (x0:List Zv) up0∧e 1=(.func (.func ff1) fa1 fc1)∧e 7=.int .i64 (((x0).length:Int))∧e 8=.int .i64 (o0)) (fun X28 k28 uC h=>?_) ?_))
   ·refine Zr ?_
    refine Zf (Za (Zo t5 rfl ?_));refine Zg (.int .i64 (o0)) rfl rfl ?_;refine Zb (Zd (Zf (Za (Zo n8 rfl ?_))));refine Zo l8 rfl ?_;refine Zn (.int .i64 (o0)) rfl rfl ?_;obtain ⟨vB,n9,h⟩:=Gc h;refine Zy (Qb up0 o0 5) (Zh (α:=Zv) Tryz.underlying42 Tryz.sizeOf83 rfl l5 rfl n9) rfl ?_;have bD:=Tv l5 n9;refine Ze .plain rfl (Gr (g:=l9) Tryz.isAgg83 Tryz.sizeOf83 rfl bD fun cD lD=>?_);obtain ⟨yB,vC,h⟩:=Gc h;refine Ze .plain rfl (Ug (g:=l9) (vs:=[cD]) rfl fen1 (.cons rfl .nil) (fcl1 _ _ hfr.ch _ _ _  lD vC) fun nD iE lE hs hr=>?_);have hfr:=hfr.ext hs;have l5:=l5.ext hs;obtain rfl:=Qw.1 hr;refine Zb (Zd ?_);rcases Zt h with ⟨g8,h⟩ | ⟨g8,h⟩
    ·refine Qo g8 rfl ?_
     refine Zf (Za (Zn (.int .i64 (o0)) rfl rfl ?_));refine Zg (.int .i64 (o0)) rfl rfl ?_;refine Zb (Zd (Gx (Wa ?_)));refine Tm ?_;refine Tm ?_;refine Wa ?_;refine Tm ?_;obtain rfl:=sinj h;exact Wg rfl rfl (show _=.int .i64 (o0) from rfl) ⟨_,hfr,rfl⟩
    ·refine Qm g8 rfl ?_
     exact Zu (Qx (Zd (uC () _ _ ⟨nD,hfr,l8,l5,n8,v8,t5⟩ h)))
   ·rintro _ zD mE ⟨oD, hfr, aB, lB, mB, nB, oB⟩ h
    refine Za (Gy (.int .i64 ((w64 (o0 + (1:Int))))) oB rfl rfl rfl ?_);refine Zn (.int .i64 ((w64 (o0 + (1:Int))))) rfl rfl ?_;exact Zb (Zd (cC ((w64 (o0 + (1:Int)))) _ _ ⟨oD,hfr,aB,lB,mB,nB,rfl⟩ h))
  ·refine Qm i6 rfl ?_
   refine Qz ?_;refine Tr ?_;refine Tr ?_;refine Tz ?_;exact Zd (zB () _ _ ⟨l9,hfr⟩ h)
 ·rintro _ aE oE ⟨rE, hfr⟩ h
  refine Zf (Za (Zg (.int .i64 (-1)) rfl rfl ?_));refine Zb (Zd (Gx ?_));obtain rfl:=sinj h;exact Wg rfl rfl (show _=.int .i64 (-1) from rfl) ⟨_,hfr,rfl⟩
def f130 (x0:Int) (z0:Int) (z1:Int):Option (Bool):=
 Option.bind (α:=Bool) (
  bif (decide (x0 < z0)) then
   some (true)
  else
   some ((decide (x0 > z1)))
  ) fun o0=>
 some (o0)
theorem en130:Enters Tryz.prog 130:=enters_of Tryz.func130 (by kernel_rfl) rfl
theorem wk130 {gI:Gh} {wI:World} {x0:Int} {z0:Int} {z1:Int} {pf0:Value} (qf0:PT gI.m wI z0 pf0) {pf1:Value} (qf1:PT gI.m wI z1 pf1) {r:Bool} (h:f130 x0 z0 z1=some r):Fn Tryz.prog 130 #[.int .i64 (x0),pf0,pf1] gI wI (fun _ _ v=>v=.bool (r)):=by
 unfold f130 at h;refine Tc Tryz.func130 rfl (Nat.le_of_ble_eq_true rfl) fun g0 hm hfr=>?_;have qf0:PT g0.m wI z0 pf0:=hm ▸ qf0;have qf1:PT g0.m wI z1 pf1:=hm ▸ qf1;show E _ 13 none _ _ _ _ _;refine Zf (Za (Zg (.bool false) rfl rfl ?_));refine Zb (Zd ?_);obtain ⟨o0,hx,h⟩:=Gc h;refine Tq (fun e w=>∃ (g:Gh) ,Fr gI wI g w∧e 4=.bool (o0)) (fun Q' hQ=>?_) (fun t5 w7 hR=>?_)
 ·replace h := hx
  clear hx;refine Za (Zn (.int .i64 (x0)) rfl rfl ?_);refine Ze .plain rfl (Gr (g:=g0) Tryz.isAgg3 Tryz.sizeOf3 rfl qf0 fun v4 r4=>?_);obtain rfl:=Zj.1 r4;refine Gy (.bool ((decide (x0 < z0)))) rfl rfl rfl rfl ?_;refine Zn (.bool ((decide (x0 < z0)))) rfl rfl ?_;rcases Zt h with ⟨hc5,h⟩ | ⟨hc5,h⟩
  ·refine Ga rfl rfl hc5 rfl rfl ?_
   refine Ga rfl rfl hc5 rfl rfl ?_;refine Ga rfl rfl hc5 rfl rfl ?_;refine Zy (.bool true) (Zl (b:=(decide (x0 < z0))) rfl (Ty hc5 rfl)) rfl ?_;refine Zg (.bool true) rfl rfl ?_;refine Zb ?_;obtain rfl:=sinj h;exact hQ _ _ ⟨g0,hfr,rfl⟩
  ·refine Zz (.int .i64 (x0)) (Zk rfl) rfl rfl hc5 rfl ?_
   refine Ze (.yes2 rfl rfl hc5) rfl (Gr (g:=g0) Tryz.isAgg3 Tryz.sizeOf3 rfl qf1 fun v6 r6=>?_);obtain rfl:=Zj.1 r6;refine Zz (.bool ((decide (x0 > z1)))) (Td rfl rfl rfl) rfl rfl hc5 rfl ?_;refine Zy (.bool ((decide (x0 > z1)))) (Zl (b:=(decide (x0 < z0))) rfl (Qd hc5 rfl)) rfl ?_;refine Zg (.bool ((decide (x0 > z1)))) rfl rfl ?_;refine Zb ?_;obtain rfl:=sinj h;exact hQ _ _ ⟨g0,hfr,rfl⟩
 ·clear hx
  obtain ⟨g7,hfr,l5⟩:=hR;refine Gx ?_;obtain rfl:=sinj h;exact Wg rfl rfl (show _=.bool (o0) from l5) ⟨_,hfr,rfl⟩
def f134 (x0:Int) (z0:Int) (z1:Int):Option (Bool):=
 Option.bind (α:=Bool) (
  bif (decide (x0 < z0)) then
   some (true)
  else
   some ((decide (x0 > z1)))
  ) fun o0=>
 some (o0)
theorem en134:Enters Tryz.prog 134:=enters_of Tryz.func134 (by kernel_rfl) rfl
theorem wk134 {gI:Gh} {wI:World} {x0:Int} {z0:Int} {z1:Int} {pf0:Value} (qf0:PT gI.m wI z0 pf0) {pf1:Value} (qf1:PT gI.m wI z1 pf1) {r:Bool} (h:f134 x0 z0 z1=some r):Fn Tryz.prog 134 #[.int .i64 (x0),pf0,pf1] gI wI (fun _ _ v=>v=.bool (r)):=by
 unfold f134 at h;refine Tc Tryz.func134 rfl (Nat.le_of_ble_eq_true rfl) fun g0 hm hfr=>?_;have qf0:PT g0.m wI z0 pf0:=hm ▸ qf0;have qf1:PT g0.m wI z1 pf1:=hm ▸ qf1;show E _ 13 none _ _ _ _ _;refine Zf (Za (Zg (.bool false) rfl rfl ?_));refine Zb (Zd ?_);obtain ⟨o0,hx,h⟩:=Gc h;refine Tq (fun e w=>∃ (g:Gh) ,Fr gI wI g w∧e 4=.bool (o0)) (fun Q' hQ=>?_) (fun t5 w7 hR=>?_)
 ·replace h := hx
  clear hx;refine Za (Zn (.int .i64 (x0)) rfl rfl ?_);refine Ze .plain rfl (Gr (g:=g0) Tryz.isAgg3 Tryz.sizeOf3 rfl qf0 fun v4 r4=>?_);obtain rfl:=Zj.1 r4;refine Gy (.bool ((decide (x0 < z0)))) rfl rfl rfl rfl ?_;refine Zn (.bool ((decide (x0 < z0)))) rfl rfl ?_;rcases Zt h with ⟨hc5,h⟩ | ⟨hc5,h⟩
  ·refine Ga rfl rfl hc5 rfl rfl ?_
   refine Ga rfl rfl hc5 rfl rfl ?_;refine Ga rfl rfl hc5 rfl rfl ?_;refine Zy (.bool true) (Zl (b:=(decide (x0 < z0))) rfl (Ty hc5 rfl)) rfl ?_;refine Zg (.bool true) rfl rfl ?_;refine Zb ?_;obtain rfl:=sinj h;exact hQ _ _ ⟨g0,hfr,rfl⟩
  ·refine Zz (.int .i64 (x0)) (Zk rfl) rfl rfl hc5 rfl ?_
   refine Ze (.yes2 rfl rfl hc5) rfl (Gr (g:=g0) Tryz.isAgg3 Tryz.sizeOf3 rfl qf1 fun v6 r6=>?_);obtain rfl:=Zj.1 r6;refine Zz (.bool ((decide (x0 > z1)))) (Td rfl rfl rfl) rfl rfl hc5 rfl ?_;refine Zy (.bool ((decide (x0 > z1)))) (Zl (b:=(decide (x0 < z0))) rfl (Qd hc5 rfl)) rfl ?_;refine Zg (.bool ((decide (x0 > z1)))) rfl rfl ?_;refine Zb ?_;obtain rfl:=sinj h;exact hQ _ _ ⟨g0,hfr,rfl⟩
 ·clear hx
  obtain ⟨g7,hfr,l5⟩:=hR;refine Gx ?_;obtain rfl:=sinj h;exact Wg rfl rfl (show _=.bool (o0) from l5) ⟨_,hfr,rfl⟩
def f135 (x0:List Gf) (x1:Gf→Option Bool):Option (Int):=
 jn (σ:=Unit) (fun _=>
  some ((-1:Int))
  ) fun k18=>
 lp (σ:=Int) (fun k19 o0=>
  bif (decide (o0 < ((x0).length : Int))) then
   jn (σ:=Unit) (fun _=>
    k19 ((w64 (o0 + (1:Int))))
    ) fun k28=>
   (idx x0 o0).bind fun vB=>
   (x1 vB).bind fun yB=>
   bif yB then
    some (o0)
   else
    k28 ()
  else
   k18 ()
  ) big ((0:Int))
theorem en135:Enters Tryz.prog 135:=enters_of Tryz.func135 (by kernel_rfl) rfl
theorem wk135 {gI:Gh} {wI:World} {x0:List Gf} {x1:Gf→Option Bool} {up0:Value} (rp0:RV gI.m wI x0 up0) {up1:Value} (rp1:Xo Tryz.prog x1 up1 gI wI) {r:Int} (h:f135 x0 x1=some r):Fn Tryz.prog 135 #[up0,up1] gI wI (fun _ _ v=>v=.int .i64 (r)):=by
 unfold f135 at h;refine Tc Tryz.func135 rfl (Nat.le_of_ble_eq_true rfl) fun g0 hm hfr=>?_;have rp0:RV g0.m wI x0 up0:=hm ▸ rp0;obtain ⟨ff1,fa1,fc1,rfl,fen1,fcl1⟩:=rp1;show E _ 19 none _ _ _ _ _;refine Zf (Za (Zg (.int .i64 (0)) rfl rfl ?_));refine Zb (Zd (Zq h (fun (s:Unit) e w=>∃ (g:Gh) ,Fr gI wI g w) (fun X18 k18 zB h=>?_) ?_))
 ·refine Zf (Za (Zn up0 rfl rfl ?_))
  refine Zy (.int .i64 ((x0).length:Int)) (Qk Tryz.underlying31 rfl rp0) rfl ?_;refine Zn (.int .i64 (0)) rfl rfl ?_;refine Zb (Zd (Zr ?_));refine Je h (fun (s:Int) e w=>∃ (g:Gh) ,Fr gI wI g w∧e 0=up0∧RV g.m w (x0:List Gf) up0∧e 1=(.func (.func ff1) fa1 fc1)∧e 7=.int .i64 (((x0).length:Int))∧e 8=.int .i64 (s)) ⟨g0,hfr,rfl,rp0,rfl,rfl,rfl⟩ (fun X19 k19 cC=>?_);rintro o0 yD bE ⟨l9,hfr,l8,l5,n8,v8,t5⟩ h;refine Zf (Za (Gy (.bool ((decide (o0 < ((x0).length:Int))))) t5 v8 rfl rfl ?_));refine Zb (Zd (Zf ?_));rcases Zt h with ⟨i6,h⟩ | ⟨i6,h⟩
  ·refine Qo i6 rfl ?_
   refine Zu (Zd (Zq h (fun (s:Unit) e w=>∃ (g:Gh) ,Fr gI wI g w∧e 0=up0∧RV g.m w (x0:List Gf) up0∧e 1=(.func (.func ff1) fa1 fc1)∧e 7=.int .i64 (((x0).length:Int))∧e 8=.int .i64 (o0)) (fun X28 k28 uC h=>?_) ?_))
   ·refine Zr ?_
    refine Zf (Za (Zo t5 rfl ?_));refine Zg (.int .i64 (o0)) rfl rfl ?_;refine Zb (Zd (Zf (Za (Zo n8 rfl ?_))));refine Zo l8 rfl ?_;refine Zn (.int .i64 (o0)) rfl rfl ?_;obtain ⟨vB,n9,h⟩:=Gc h;refine Zy (Qb up0 o0 5) (Zh (α:=Gf) Tryz.underlying31 Tryz.sizeOf49 rfl l5 rfl n9) rfl ?_;have bD:=Tv l5 n9;refine Ze .plain rfl (Gr (g:=l9) Tryz.isAgg49 Tryz.sizeOf49 rfl bD fun cD lD=>?_);obtain ⟨yB,vC,h⟩:=Gc h;refine Ze .plain rfl (Ug (g:=l9) (vs:=[cD]) rfl fen1 (.cons rfl .nil) (fcl1 _ _ hfr.ch _ _ _  lD vC) fun nD iE lE hs hr=>?_);have hfr:=hfr.ext hs;have l5:=l5.ext hs;obtain rfl:=Qw.1 hr;refine Zb (Zd ?_);rcases Zt h with ⟨g8,h⟩ | ⟨g8,h⟩
    ·refine Qo g8 rfl ?_
     refine Zf (Za (Zn (.int .i64 (o0)) rfl rfl ?_));refine Zg (.int .i64 (o0)) rfl rfl ?_;refine Zb (Zd (Gx (Wa ?_)));refine Tm ?_;refine Tm ?_;refine Wa ?_;refine Tm ?_;obtain rfl:=sinj h;exact Wg rfl rfl (show _=.int .i64 (o0) from rfl) ⟨_,hfr,rfl⟩
    ·refine Qm g8 rfl ?_
     exact Zu (Qx (Zd (uC () _ _ ⟨nD,hfr,l8,l5,n8,v8,t5⟩ h)))
   ·rintro _ zD mE ⟨oD, hfr, aB, lB, mB, nB, oB⟩ h
    refine Za (Gy (.int .i64 ((w64 (o0 + (1:Int))))) oB rfl rfl rfl ?_);refine Zn (.int .i64 ((w64 (o0 + (1:Int))))) rfl rfl ?_;exact Zb (Zd (cC ((w64 (o0 + (1:Int)))) _ _ ⟨oD,hfr,aB,lB,mB,nB,rfl⟩ h))
  ·refine Qm i6 rfl ?_
   refine Qz ?_;refine Tr ?_;refine Tr ?_;refine Tz ?_;exact Zd (zB () _ _ ⟨l9,hfr⟩ h)
 ·rintro _ aE oE ⟨rE, hfr⟩ h
  refine Zf (Za (Zg (.int .i64 (-1)) rfl rfl ?_));refine Zb (Zd (Gx ?_));obtain rfl:=sinj h;exact Wg rfl rfl (show _=.int .i64 (-1) from rfl) ⟨_,hfr,rfl⟩
def f137 (z0:Int) (σ:Type) (cons:Dn σ Int) (s0:σ):Option σ:=
 lp (σ:=σ × Int) (fun k2 (oB,o0)=>
  jn (σ:=σ) (fun l8=>
   k2 (l8,(Qy .and (w64 (o0 - (1:Int))) z0))
   ) fun cD=>
  Option.bind (α:=σ × Bool) (
   (cons oB o0).bind fun (g8,n9)=>
   bif (!g8) then
    some (n9,true)
   else
    some (n9,(o0 == (0:Int)))
   ) fun (i6,l5)=>
  bif l5 then
   some i6
  else
   cD (i6)
  ) big (s0,z0)
theorem en137:Enters Tryz.prog 137:=enters_of Tryz.func137 (by kernel_rfl) rfl
theorem wk137 {σ:Type} {cons:Dn σ Int} {s0 r:σ} {gI:Gh} {wI:World} {z0:Int} {pf0:Value} (qf0:PT gI.m wI z0 pf0) (h:f137 z0 σ cons s0=some r):IterC Tryz.prog (RA1 (α:=Int)) 137 #[] #[pf0] gI wI cons s0 r:=by
 unfold f137 at h;refine Nk Tryz.func137 rfl (Nat.le_of_ble_eq_true rfl) fun l B J g0 hm hAb hRo hfr=>?_;have qf0:PT g0.m wI z0 pf0:=hm ▸ qf0;show E _ 17 none _ _ (Vw #[.func (.yield l) #[] #[],pf0]) _ _;refine Zf (Za (Ze .plain rfl (Gr (g:=g0) Tryz.isAgg3 Tryz.sizeOf3 rfl qf0 fun v1 r1=>?_)));obtain rfl:=Zj.1 r1;refine Zg (.int .i64 (z0)) rfl rfl ?_;refine Zb (Zd (Zr ?_));refine Je h (fun (s:σ × Int) e w=>∃ (g:Gh) ,FrY gI wI B J (s.1) g w∧e 0=(.func (.yield l) #[] #[])∧e 1=pf0∧PT g.m w (z0:Int) pf0∧e 3=.int .i64 (s.2)) ⟨g0,hfr,rfl,rfl,qf0,rfl⟩ (fun X2 k2 hk2=>?_);rintro ⟨oB,o0⟩ mE w3 ⟨g3,hfr,aB,vB,n8,v8⟩ h;refine Zq h (fun (s:σ) e w=>∃ (g:Gh) ,FrY gI wI B J (s) g w∧e 0=(.func (.yield l) #[] #[])∧e 1=pf0∧PT g.m w (z0:Int) pf0∧e 3=.int .i64 (o0)) (fun X12 cD oD h=>?_) ?_
 ·refine Zr ?_
  obtain ⟨⟨i6,l5⟩,hx,h⟩:=Gc h;refine Tq (fun e w=>∃ (g:Gh) ,FrY gI wI B J (i6) g w∧e 0=(.func (.yield l) #[] #[])∧e 1=pf0∧PT g.m w (z0:Int) pf0∧e 3=.int .i64 (o0)∧e 16=.bool (l5)) (fun Q' hQ=>?_) (fun iE oE hR=>?_)
  ·replace h := hx
   clear hx;refine Za (Zo aB rfl ?_);refine Zo v8 rfl ?_;obtain ⟨zD,yD,h⟩:=Gc h;obtain ⟨g8,n9⟩:=zD;refine Ze .plain rfl (D_yield (g:=g3) (x:=o0) rfl (.cons rfl .nil) hRo hfr yD ⟨_,rfl,(Zj.2 rfl)⟩ fun lD rE hs hfrY=>?_);have n8:=n8.stp hs;have hfr:=hfrY;clear hfrY;refine Zy (.bool (!g8)) (Hy rfl) rfl ?_;refine Zn (.bool (!g8)) rfl rfl ?_;rcases Zt h with ⟨t5,h⟩ | ⟨t5,h⟩
   ·refine Ga rfl rfl t5 rfl rfl ?_
    refine Ga rfl rfl t5 rfl rfl ?_;refine Zy (.bool true) (Zl (b:=(!g8)) rfl (Ty t5 rfl)) rfl ?_;refine Zb ?_;obtain ⟨rfl,rfl⟩:=Wu h;exact hQ _ _ ⟨lD,hfr,aB,vB,n8,v8,rfl⟩
   ·refine Zz (.int .i64 (o0)) (Zk v8) rfl rfl t5 rfl ?_
    refine Zz (.bool ((o0 == (0:Int)))) (Td rfl rfl rfl) rfl rfl t5 rfl ?_;refine Zy (.bool ((o0 == (0:Int)))) (Zl (b:=(!g8)) rfl (Qd t5 rfl)) rfl ?_;refine Zb ?_;obtain ⟨rfl,rfl⟩:=Wu h;exact hQ _ _ ⟨lD,hfr,aB,vB,n8,v8,rfl⟩
  ·clear hx
   obtain ⟨aE,hfr,yB,zB,cC,uC,l9⟩:=hR;rcases Zt h with ⟨lB,h⟩ | ⟨lB,h⟩
   ·refine Qn (Eq.trans (show ev _ _ = .bool (l5) from l9) (congrArg Value.bool lB)) ?_
    refine Gx (Wa ?_);refine Tm ?_;refine Tm ?_;refine Wa ?_;obtain rfl:=sinj h;exact end0 rfl rfl (FrY.done hfr)
   ·refine Qa (Eq.trans (show ev _ _ = .bool (l5) from l9) (congrArg Value.bool lB)) ?_
    exact Zu (Qx (Zd (oD (i6) _ _ ⟨aE,hfr,yB,zB,cC,uC⟩ h)))
 ·rintro l8 lE uE ⟨nD, hfr, vC, mB, nB, bD⟩ h
  refine Za (Zo bD rfl ?_);refine Gy (.int .i64 ((w64 (o0 - (1:Int))))) rfl rfl rfl rfl ?_;refine Ze .plain rfl (Gr (g:=nD) Tryz.isAgg3 Tryz.sizeOf3 mB nB fun vE bE=>?_);obtain rfl:=Zj.1 bE;refine Gy (.int .i64 ((Qy .and (w64 (o0 - (1:Int))) z0))) rfl rfl rfl rfl ?_;refine Zg (.int .i64 ((Qy .and (w64 (o0 - (1:Int))) z0))) rfl rfl ?_;exact Zb (Zd (hk2 (l8,(Qy .and (w64 (o0 - (1:Int))) z0)) _ _ ⟨nD,hfr,vC,mB,nB,rfl⟩ h))
def f139 (x0:Int) (m1:List (Int × Int)) (z1:Xp→Option Int) (z2:Gj):Option (Bool × (List (Int × Int))):=
 (idx (((z2).BoxLoom).Shuttles) (w64 (x0 - (1:Int)))).bind fun i6=>
 (z1 ((i6).Yarn)).bind fun o0=>
 some ((decide (((Wz ((Hf m1 x0 ((w64 (((Wz m1 x0).getD (0:Int)) + (1:Int)))))) x0).getD (0:Int)) > o0)),(Hf m1 x0 ((w64 (((Wz m1 x0).getD (0:Int)) + (1:Int))))))
theorem en139:Enters Tryz.prog 139:=enters_of Tryz.func139 (by kernel_rfl) rfl
theorem wk139 {iI:Nat} {gI:Gh} {wI:World} {x0:Int} {m1:List (Int × Int)} {z1:Xp→Option Int} {z2:Gj} {pf0:Value} {kv500001:Value} (fc1:FC gI.m wI 0 kv500001 pf0) (mp500001:MP (Value.int .i64) iI gI wI m1 kv500001) {pf1:Value} {qv1:Fv} (qf1:PT gI.m wI qv1 pf1) (rp2:Xo Tryz.prog z1 qv1.v gI wI) {pf2:Value} (qf2:PT gI.m wI z2 pf2) {r:Bool × (List (Int × Int))} (h:f139 x0 m1 z1 z2=some r):FnM Tryz.prog 139 #[.int .i64 (x0),pf0,pf1,pf2] iI gI wI (fun g w v=>v=.bool (r.1)∧MP (Value.int .i64) iI g w (r.2) kv500001):=by
 unfold f139 at h;refine fnM_of_E Tryz.func139 rfl (Nat.le_of_ble_eq_true rfl) fun g0 hm hfr=>?_;have l5:=mp500001;replace mp500001:=mp500001.enter;rw [← hm] at mp500001
 replace hm:g0.m=gI.m:=by rw [hm]
 have fc1:FC g0.m wI 0 kv500001 pf0:=hm ▸ fc1;obtain ⟨ff2,fa2,fc2,hq2,fen2,fcl2⟩:=rp2;have qf1:PT g0.m wI qv1 pf1:=hm ▸ qf1;have qf2:PT g0.m wI z2 pf2:=hm ▸ qf2;show E _ 24 none _ _ _ _ _;refine Zf (Za (Zg (.bool false) rfl rfl ?_));refine Zb (Zd (Zf (Za (Ze .plain rfl (D_loadFC0 (g:=g0) Tryz.isAgg160 Tryz.sizeOf160 (Dy mp500001) rfl fc1 ?_)))));refine Zn (.int .i64 (x0)) rfl rfl ?_;refine Ze .plain rfl (Am (g:=g0) (z0:=(0:Int)) Tryz.underlying160 Py Tryz.zeroValue3 (fun m w=>⟨_,Zx,rfl⟩) rfl mp500001 rfl fun v2 r2=>?_);obtain rfl:=Zj.1 r2;refine Gy (.int .i64 ((w64 (((Wz m1 x0).getD (0:Int)) + (1:Int))))) rfl rfl rfl rfl ?_;refine Ze .plain rfl (Jr (g:=g0) Tryz.underlying160 Py rfl mp500001 rfl rfl (Zj.2 rfl) fun g3 w3 hs m3=>?_);have hfr:=hfr.stp hs;have fc1:=fc1.stp hs;have qf1:=qf1.stp hs;have qf2:=qf2.stp hs;refine Zb (Zd (Zf ?_));have l9:=L_loadFC0 (P:=Tryz.prog) (x:=.tmp 1) Tryz.isAgg160 Tryz.sizeOf160 (Dy m3) fc1;refine Zs (α:=Fv) (x:=.tmp 2) Tryz.isAgg211 Tryz.sizeOf211 qf1 fun v6 r6 n9=>?_;obtain rfl:=(Ks.1 r6).trans hq2;have q7:=Zm (Qg).1 qf2;have q8:=Zm (Wv).1 q7;refine Zs (x:=.tmp 15) Tryz.isAgg42 Tryz.sizeOf42 q8 fun v9 r9 aB=>?_;obtain ⟨i6,t5,h⟩:=Gc h;have g8:=Tv r9 t5;have lB:=Zm (Hj).1 g8;refine Zs (x:=.tmp 20) Tryz.isAgg80 Tryz.sizeOf80 lB fun l8 mB n8=>?_;obtain ⟨o0,v8,h⟩:=Gc h;refine Qp (g:=g3) (n:=15) [(2,(fun v _ _=>v=.int .i64 (((Wz ((Hf m1 x0 ((w64 (((Wz m1 x0).getD (0:Int)) + (1:Int)))))) x0).getD (0:Int))))),(12,(fun v g w=>v=.int .i64 (o0)))] [0,1,2,3,4,5,6,7,8,9,10,11,12,13,14] rfl mixed (by kernel_rfl) (⟨fun _=>Wo _,fun _=>Wo _,trivial⟩) ?_;refine Tl (c:=kv500001) rfl rfl .plain (fun _ _ h=>h.ch) l9 rfl ?_;refine Gb (.int .i64 (x0)) rfl rfl (Zk rfl) ?_;refine Wh (φ:=(fun v _ _=>v=.int .i64 (((Wz ((Hf m1 x0 ((w64 (((Wz m1 x0).getD (0:Int)) + (1:Int)))))) x0).getD (0:Int))))) rfl rfl .plain (fun g w hd=>Am (g:=g) (z0:=(0:Int)) Tryz.underlying160 Py Tryz.zeroValue3 (fun m w=>⟨_,Zx,rfl⟩) rfl (m3.ext hd.1) rfl fun v r=>⟨g,Ext.refl g w,Zj.1 r⟩) (fun v5 hv=>?_);obtain ⟨_,_,_,rfl⟩:=hv;refine Tl (c:=(.func (.func ff2) fa2 fc2)) rfl rfl .plain (fun _ _ h=>h.ch) n9 rfl ?_;refine Gb (Gm pf2 0) rfl rfl (Zc Kr rfl (PT.ptr qf2)) ?_;refine Gb (Gm (Gm pf2 0) 2) rfl rfl (Zc Uk rfl (PT.ptr q7)) ?_;refine Tl (c:=v9) rfl rfl .plain (fun _ _ h=>h.ch) aB rfl ?_;refine Gb (.int .i64 (x0)) rfl rfl (Zk rfl) ?_;refine Gb (.int .i64 ((w64 (x0 - (1:Int))))) rfl rfl (Td rfl rfl rfl) ?_;refine Gb (Qb v9 (w64 (x0 - (1:Int))) 5) rfl rfl (Zh (α:=Zv) Tryz.underlying42 Tryz.sizeOf83 rfl r9 rfl t5) ?_;refine Gb (Gm (Qb v9 (w64 (x0 - (1:Int))) 5) 3) rfl rfl (Zc Dm rfl (PT.ptr g8)) ?_;refine Tl (c:=l8) rfl rfl .plain (fun _ _ h=>h.ch) n8 rfl ?_;refine Wh (φ:=fun v g w=>v=.int .i64 (o0)) rfl rfl .plain (fun g w hd=>Ug (g:=g) (vs:=[l8]) rfl fen2 (.cons rfl .nil) (fcl2 _ _ (hfr.ext hd.1).ch _ _ _  (mB.ext hd.1) v8) fun g' w' v hs hr=>⟨g',hs,Zj.1 hr⟩) (fun nB hv=>?_);obtain ⟨_,_,_,rfl⟩:=hv;refine Gb (.bool ((decide (((Wz ((Hf m1 x0 ((w64 (((Wz m1 x0).getD (0:Int)) + (1:Int)))))) x0).getD (0:Int)) > o0)))) rfl rfl (Td rfl rfl rfl) ?_;refine Gb (.bool ((decide (((Wz ((Hf m1 x0 ((w64 (((Wz m1 x0).getD (0:Int)) + (1:Int)))))) x0).getD (0:Int)) > o0)))) rfl rfl (Qt rfl) ?_;refine Yz fun oB vB hs=>?_;have hfr:=hfr.ext hs;have m3:=m3.ext hs;clear hs;refine Zb (Zd (Gx ?_));obtain rfl:=sinj h;exact Wg rfl rfl (show _=.bool ((decide (((Wz ((Hf m1 x0 ((w64 (((Wz m1 x0).getD (0:Int)) + (1:Int)))))) x0).getD (0:Int)) > o0))) from rfl) ⟨_,hfr,rfl,l5.back m3⟩
theorem ws117 {σ : Type} {I : σ → Gh → World → Prop} {φ : σ → Int → Option (Bool × σ)} {x0 : List Int} {up0 : Value} {ff : FuncId} {caps : Array Value} {gI : Gh} {wI : World} {s0 : σ} {r : Int} (i : Nat) (hen : Enters Tryz.prog ff)
  (hφ:∀ s x b s' g w,φ s x=some (b,s')→I s g w→Ch gI.m wI g.m w→FnM Tryz.prog ff (#[] ++ #[.int .i64 x] ++ caps) i g w (fun g' w' v=>v=.bool b∧I s' g' w'))
  (rp0:RV gI.m wI x0 up0) (h0:I s0 gI wI) (h:idxS x0 φ s0=some r):Calls Tryz.prog 117 #[up0,.func (.func ff) #[] caps] wI fun e w=>∃ v,e=.returned v∧v=.int .i64 r∧∃ g s',Stp i gI wI g w∧I s' g w:=by
 unfold idxS at h
 refine Vq Tryz.func117 rfl (Nat.le_of_ble_eq_true rfl) (R:=fun v w=>v=.int .i64 r∧∃ g s',Stp i gI wI g w∧I s' g w) ?_
 have hfr:Stp i gI wI gI wI:=(Ext.refl gI wI).stp
 show E _ 19 none _ _ _ _ _
 refine Zf (Za (Zg (.int .i64 (0)) rfl rfl (Zb (Zd ?_))))
 refine Zq h (fun (_:Unit) e w=>∃ (g:Gh) (t:σ),Stp i gI wI g w∧I t g w) (fun X18 k18 yB h=>?_) ?_
 ·refine Zf (Za (Zn up0 rfl rfl ?_))
  refine Zy (.int .i64 ((x0).length:Int)) (Qk Tryz.underlying28 rfl rp0) rfl ?_
  refine Zn (.int .i64 (0)) rfl rfl (Zb (Zd (Zr ?_)))
  refine Je h (fun (s:σ × Int) e w=>∃ (g:Gh) ,Stp i gI wI g w∧I s.1 g w∧e 0=up0∧RV g.m w (x0:List Int) up0∧e 1=(.func (.func ff) #[] caps)∧e 7=.int .i64 (((x0).length:Int))∧e 8=.int .i64 (s.2)) ⟨gI,hfr,h0,rfl,rp0,rfl,rfl,rfl⟩ (fun X19 k19 zB=>?_)
  rintro ⟨yD,o0⟩ zD iE ⟨l9,hfr,hI,l8,l5,n8,v8,t5⟩ h
  refine Zf (Za (Gy (.bool ((decide (o0 < ((x0).length:Int))))) t5 v8 rfl rfl (Zb (Zd ?_))))
  refine Zf ?_
  rcases Zt h with ⟨i6,h⟩ | ⟨i6,h⟩
  ·refine Qo i6 rfl (Zu (Zd ?_))
   refine Zq h (fun (t:σ) e w=>∃ (g:Gh) ,Stp i gI wI g w∧I t g w∧e 0=up0∧RV g.m w (x0:List Int) up0∧e 1=(.func (.func ff) #[] caps)∧e 7=.int .i64 (((x0).length:Int))∧e 8=.int .i64 (o0)) (fun X28 k28 cC h=>?_) ?_
   ·refine Zr (Zf (Za ?_))
    refine Zo t5 rfl ?_
    refine Zg (.int .i64 (o0)) rfl rfl (Zb (Zd (Zf (Za ?_))))
    refine Zo n8 rfl ?_
    refine Zo l8 rfl ?_
    refine Zn (.int .i64 (o0)) rfl rfl ?_
    obtain ⟨bD,n9,h⟩:=Gc h
    refine Zy (Qb up0 o0 1) (Zh (α:=Int) Tryz.underlying28 Tryz.sizeOf3 rfl l5 rfl n9) rfl ?_
    have cD:=Tv l5 n9
    refine Ze .plain rfl (Gr (g:=l9) Tryz.isAgg3 Tryz.sizeOf3 rfl cD fun lE lD=>?_)
    obtain rfl:=Zj.1 lD
    obtain ⟨⟨b33,t33⟩,uC,h⟩:=Gc h
    refine Ze .plain rfl (D_callvM (g:=l9) (vs:=[.int .i64 (bD)]) rfl hen (.cons rfl .nil) (hφ _ _ _ _ _ _ uC hI hfr.ch) fun vB mE oE hs hr=>?_)
    obtain ⟨rfl,hI⟩:=hr
    have hfr:=hfr.trans hs
    have l5:=l5.stp hs
    refine Zb (Zd ?_)
    rcases Zt h with ⟨g8,h⟩ | ⟨g8,h⟩
    ·refine Qo g8 rfl (Zf (Za ?_))
     refine Zn (.int .i64 (o0)) rfl rfl ?_
     refine Zg (.int .i64 (o0)) rfl rfl (Zb (Zd (Gx ?_)))
     refine Wa (Tm (Tm (Wa (Tm ?_))))
     obtain rfl:=sinj h
     exact Wg rfl rfl (show _=.int .i64 (o0) from rfl) ⟨rfl,vB,t33,hfr,hI⟩
    ·refine Qm g8 rfl (Zu (Qx ?_))
     exact Zd (cC t33 _ _ ⟨vB,hfr,hI,l8,l5,n8,v8,t5⟩ h)
   ·rintro vC aE rE ⟨nD, hfr, hI, aB, lB, mB, nB, oB⟩ h
    refine Za (Gy (.int .i64 ((w64 (o0 + (1:Int))))) oB rfl rfl rfl ?_)
    refine Zn (.int .i64 ((w64 (o0 + (1:Int))))) rfl rfl (Zb ?_)
    exact Zd (zB (vC,(w64 (o0 + (1:Int)))) _ _ ⟨nD,hfr,hI,aB,lB,mB,nB,rfl⟩ h)
  ·refine Qm i6 rfl (Qz (Tr (Tr (Tz ?_))))
   exact Zd (yB () _ _ ⟨l9,_,hfr,hI⟩ h)
 ·rintro _ bE uE ⟨oD, t36, hfr, hI⟩ h
  refine Zf (Za (Zg (.int .i64 (-1)) rfl rfl (Zb (Zd (Gx ?_)))))
  obtain rfl:=sinj h
  exact Wg rfl rfl (show _=.int .i64 (-1) from rfl) ⟨rfl,oD,t36,hfr,hI⟩
def f99 (x0:Gj) (x1:List Int) (x2:Xp→Option Int):Option Int:=idxS x1 (fun m n=>f139 n m x2 x0) []
theorem en99:Enters Tryz.prog 99:=enters_of Tryz.func99 (by kernel_rfl) rfl
theorem wk99 {gI:Gh} {wI:World} {x0:Gj} {x1:List Int} {x2:Xp→Option Int} {up0 up1 up2:Value} (rp0:RV gI.m wI x0 up0) (rp1:RV gI.m wI x1 up1) (rp2:Xo Tryz.prog x2 up2 gI wI) {r:Int} (h:f99 x0 x1 x2=some r):Fn Tryz.prog 99 #[up0,up1,up2] gI wI (fun _ _ v=>v=.int .i64 (r)):=by
 unfold f99 at h;refine Tc Tryz.func99 rfl (Nat.le_of_ble_eq_true rfl) fun g0 hm hfr=>?_;have rp0:RV g0.m wI x0 up0:=hm ▸ rp0;have rp1:RV g0.m wI x1 up1:=hm ▸ rp1
 have hone:up2.oneCell'=true:=by obtain ⟨ff,fa,fc,rfl,_⟩:=rp2; rfl
 have hfc:Ch gI.m wI g0.m wI:=hm ▸ Ch.refl _ _;show E _ 12 none _ _ _ _ _;refine Zf (Za (Ze .plain rfl (Wc (g:=g0) rfl rp0 fun g1 w1 p1 hs q1=>?_)));have hfr:=hfr.ext hs;have hfc:=hfc.trans hs.ch;have rp1:=rp1.ext hs;refine Ze .plain rfl (Wc (g:=g1) (a:=(⟨up2,hone⟩:Fv)) rfl (Ks.2 rfl) fun g2 w2 p2 hs q2=>?_);have hfr:=hfr.ext hs;have hfc:=hfc.trans hs.ch;have rp1:=rp1.ext hs;have q1:=q1.ext hs;refine Zg (.int .i64 (0)) rfl rfl (Zb (Zd ?_));refine Zf (Za (Ze .plain rfl (Yp (g:=g2) (Value.int .i64) Int 8008 fun g3 w3 v3 hs m3=>?_)));have hfr:=hfr.stp hs;have hfc:=hfc.trans hs.ch;have rp1:=rp1.stp hs;have q1:=q1.stp hs;have q2:=q2.stp hs;refine Ze .plain rfl (Gu (g:=g3) 2007 (⟨.map none,rfl⟩:Fv) Tryz.zeroValue160 (fun _ _=>Ig) fun g4 w4 p4 hs b4 cb=>?_);clear cb;have hfr:=hfr.stp hs;have hfc:=hfc.trans hs.ch;have rp1:=rp1.stp hs;have q1:=q1.stp hs;have q2:=q2.stp hs;have m3:=m3.stp hs rfl;have hv3:=Dy m3;refine Ze .plain rfl (Gn (g:=g4) (v:=v3) (a':=(⟨v3,hv3⟩:Fv)) Tryz.sizeOf160 rfl b4 rfl (Ks.2 rfl) fun g5 w5 hs b5 cb=>?_);clear cb;have hfr:=hfr.stp hs;have hfc:=hfc.trans hs.ch;have rp1:=rp1.stp hs;have q1:=q1.stp hs;have q2:=q2.stp hs;have m3:=m3.stp hs rfl;obtain ⟨g6,hs,q6⟩:=OB.pub b5;have hfr:=hfr.stp hs;have hfc:=hfc.trans hs.ch;have rp1:=rp1.stp hs;have q1:=q1.stp hs;have q2:=q2.stp hs;have m3:=m3.stp hs rfl;have fc6:=q6.fc;have rp2:=rp2.ch (g':=g6) (w':=w5) hfc;refine Zb (Zd (Zf (Za (Zn up1 rfl rfl ?_))));refine Zy (.func (.func 139) #[] #[p4,p2,p1]) (Ja (capf_0_3 rfl rfl rfl)) rfl ?_;refine Ze .plain rfl (D_callC (vs:=[up1,.func (.func 139) #[] #[p4,p2,p1]]) en117 (.cons rfl (.cons rfl .nil)) (ws117 (I:=fun m g w=>MP (Value.int .i64) 8008 g w m v3) 8008 en139 (fun s x b s' g w hx hI hch=>?_) rp1 m3 h) fun v7 w7 hq=>?_)
 ·exact wk139 (fc6.ch hch) hI (q2.ch hch) (rp2.ch hch) (q1.ch hch) hx
 ·obtain ⟨rfl, g7, s7, hs, _⟩ := hq
  have hfr:=hfr.stp hs;refine Zg (.int .i64 r) rfl rfl (Zb (Zd (Gx ?_)));exact Wg rfl rfl (show _=.int .i64 r from rfl) ⟨_,hfr,rfl⟩
def f154 (x0:Int) (x1:Int):Option (Int):=
 some ((w64 ((Yt x0 x1) - (Yl x0 x1))))
theorem en154:Enters Tryz.prog 154:=enters_of Tryz.func154 (by kernel_rfl) rfl
theorem wk154 {gI:Gh} {wI:World} {x0:Int} {x1:Int}  {r:Int} (h:f154 x0 x1=some r):Fn Tryz.prog 154 #[.int .i64 (x0),.int .i64 (x1)] gI wI (fun _ _ v=>v=.int .i64 (r)):=by
 unfold f154 at h;refine Tc Tryz.func154 rfl (Nat.le_of_ble_eq_true rfl) fun g0 hm hfr=>?_;show E _ 12 none _ _ _ _ _;refine Zf (Za (Zg (.int .i64 (0)) rfl rfl ?_));refine Zb (Zd (Zf (Za (Zn (.int .i64 (x0)) rfl rfl ?_))));refine Zn (.int .i64 (x1)) rfl rfl ?_;refine Zy (.int .i64 (Yt x0 x1)) (P_max rfl rfl) rfl ?_;refine Zn (.int .i64 (x0)) rfl rfl ?_;refine Zn (.int .i64 (x1)) rfl rfl ?_;refine Zy (.int .i64 (Yl x0 x1)) (P_min rfl rfl) rfl ?_;refine Gy (.int .i64 ((w64 ((Yt x0 x1) - (Yl x0 x1))))) rfl rfl rfl rfl ?_;refine Zg (.int .i64 ((w64 ((Yt x0 x1) - (Yl x0 x1))))) rfl rfl ?_;refine Zb (Zd (Gx ?_));obtain rfl:=sinj h;exact Wg rfl rfl (show _=.int .i64 ((w64 ((Yt x0 x1) - (Yl x0 x1)))) from rfl) ⟨_,hfr,rfl⟩
def f155 (x0:Gi) (x1:Int) (x2:Int) (x3:Int) (x4:List (Int × Gl)):Option (Int):=
 (idx ((x0).orders) x1).bind fun y4=>
 jn (σ:=Int) (fun o0=>
  jn (σ:=Unit) (fun _=>
   some (o0)
   ) fun iE=>
  Option.bind (α:=Bool) (
   (idx (((x0).LoomMill).Widths) x2).bind fun i6=>
   bif (decide ((y4).Width > i6)) then
    some (true)
   else
    some ((decide ((w64 (o0 + (y4).Woven)) > (y4).Late)))
   ) fun l8=>
  bif l8 then
   some ((1048576:Int))
  else
   iE ()
  ) fun lE=>
 bif ((Wz x4 x1).isSome) then
  jn (σ:=Unit) (fun _=>
   lE ((((Wz x4 x1).getD (⟨0,0,0⟩:Gl))).From)
   ) fun k60=>
  Option.bind (α:=Bool) (
   bif ((((Wz x4 x1).getD (⟨0, 0, 0⟩ : Gl))).Loom != x2) then
    some (true)
   else
    some ((decide ((((Wz x4 x1).getD (⟨0,0,0⟩:Gl))).From < (Yt (y4).Early x3))))
   ) fun v8=>
  bif v8 then
   some ((1048576:Int))
  else
   k60 ()
 else
  lE ((Yt (y4).Early x3))
theorem en155:Enters Tryz.prog 155:=enters_of Tryz.func155 (by kernel_rfl) rfl
theorem wk155 {gI:Gh} {wI:World} {x0:Gi} {x1:Int} {x2:Int} {x3:Int} {x4:List (Int × Gl)} {up0:Value} (rp0:RV gI.m wI x0 up0) {up4:Value} (mq4:MR (Value.int .i64) gI wI x4 up4) {r:Int} (h:f155 x0 x1 x2 x3 x4=some r):Fn Tryz.prog 155 #[up0,.int .i64 (x1),.int .i64 (x2),.int .i64 (x3),up4] gI wI (fun _ _ v=>v=.int .i64 (r)):=by
 unfold f155 at h;refine Tc Tryz.func155 rfl (Nat.le_of_ble_eq_true rfl) fun g0 hm hfr=>?_;have rp0:RV g0.m wI x0 up0:=hm ▸ rp0;have mq4:=MQ.enter mq4 hm hfr;show E _ 62 none _ _ _ _ _;refine Zf (Za (Ze .plain rfl (Wc (g:=g0) rfl rp0 fun g1 w1 p1 hs q1=>?_)));have hfr:=hfr.ext hs;have mq4:=mq4.ext hs;refine Zg (.int .i64 (0)) rfl rfl ?_;refine Zb (Zd (Zf (Za (Zy (Gm p1 2) (Zc Yh rfl (PT.ptr q1)) rfl ?_))));have q2:=Zm (Qs).1 q1;refine Ze .plain rfl (Gr (g:=g1) Tryz.isAgg31 Tryz.sizeOf31 rfl q2 fun v3 r3=>?_);refine Zn (.int .i64 (x1)) rfl rfl ?_;obtain ⟨y4,bG,h⟩:=Gc h;refine Zy (Qb v3 x1 5) (Zh (α:=Gf) Tryz.underlying31 Tryz.sizeOf49 rfl r3 rfl bG) rfl ?_;have q5:=Tv r3 bG;refine Ze .plain rfl (Gr (g:=g1) Tryz.isAgg49 Tryz.sizeOf49 rfl q5 fun v6 r6=>?_);refine Ze .plain rfl (Gu (g:=g1) 2011 (⟨0,0,0,0,0⟩:Gf) Tryz.zeroValue49 (fun m w=>⟨_,(Gk Zx (Gk Zx (Gk Zx (Gk Zx Zx)))),rfl⟩) fun g7 w7 p7 hs b7 cb=>?_);have hfr:=hfr.stp hs;have mq4:=mq4.stp hs;have q1:=q1.stp hs;have r6:=r6.stp hs;clear cb;refine Ze .plain rfl (Gn (g:=g7) (v:=v6) Tryz.sizeOf49 rfl b7 rfl r6 fun g8 w8 hs b8 cb=>?_);clear cb;have hfr:=hfr.stp hs;have mq4:=mq4.stp hs;have q1:=q1.stp hs;refine Zb (Zd (Zf (Za (Zy (Gm p7 3) (Zc Od rfl (OB.ptr b8)) rfl ?_))));refine Ze .plain rfl (Kf (g:=g8) Ub.1 Tryz.isAgg3 Tryz.sizeOf3 rfl b8 fun iI aH=>?_);obtain rfl:=Zj.1 aH;refine Zn (.int .i64 (x3)) rfl rfl ?_;refine Zy (.int .i64 (Yt (y4).Early x3)) (P_max rfl rfl) rfl ?_;refine Zg (.int .i64 (Yt (y4).Early x3)) rfl rfl ?_;refine Zb (Zd (Zq h (fun (s:Int) e w=>∃ (g:Gh) ,Fr gI wI g w∧e 2=.int .i64 (x2)∧e 5=p1∧PT g.m w (x0:Gi) p1∧e 11=p7∧OB 2011 g w 49 (y4:Gf) p7∧e 12=.int .i64 (s)) (fun X43 lE mE h=>?_) ?_))
 ·refine Zf (Za (Zn up4 rfl rfl ?_))
  refine Zn (.int .i64 (x1)) rfl rfl ?_;refine Ze .plain rfl (D_lookupOkR (g:=g8) (z0:=(⟨0,0,0⟩:Gl)) Tryz.underlying150 Py Tryz.zeroValue66 (fun m w=>⟨_,(Gk Zx (Gk Zx Zx)),rfl⟩) rfl mq4.r rfl fun oE rE=>?_);refine Zn (.tuple #[oE,.bool ((Wz x4 x1).isSome)]) rfl rfl ?_;refine Zy oE (Zi rfl rfl) rfl ?_;refine Zy (.bool ((Wz x4 x1).isSome)) (Zi rfl rfl) rfl ?_;refine Ze .plain rfl (Gu (g:=g8) 2013 (⟨0,0,0⟩:Gl) Tryz.zeroValue66 (fun m w=>⟨_,(Gk Zx (Gk Zx Zx)),rfl⟩) fun cH jI n9 hs b45 cb=>?_);have hfr:=hfr.stp hs;have q1:=q1.stp hs;have b8:=b8.stp hs rfl;have rE:=rE.stp hs;clear cb;refine Ze .plain rfl (Gn (g:=cH) (v:=oE) Tryz.sizeOf66 rfl b45 rfl rE fun yB kI hs b46 cb=>?_);clear cb;have hfr:=hfr.stp hs;have q1:=q1.stp hs;have b8:=b8.stp hs rfl;refine Zg (.bool ((Wz x4 x1).isSome)) rfl rfl ?_;refine Zb (Zd (Zf (Za (Zn (.bool ((Wz x4 x1).isSome)) rfl rfl ?_))));refine Zb (Zd ?_);rcases Zt h with ⟨uC,h⟩ | ⟨uC,h⟩
  ·refine Qo uC rfl ?_
   refine Zq h (fun (s:Unit) e w=>∃ (g:Gh) ,Fr gI wI g w∧e 2=.int .i64 (x2)∧e 5=p1∧PT g.m w (x0:Gi) p1∧e 11=p7∧OB 2011 g w 49 (y4:Gf) p7∧e 13=n9∧OB 2013 g w 66 (((Wz x4 x1).getD (⟨0,0,0⟩:Gl)):Gl) n9) (fun X60 k60 gG h=>?_) ?_
   ·obtain ⟨v8, hx, h⟩ := Gc h
    refine Tq (fun e w=>∃ (g:Gh) ,Fr gI wI g w∧e 2=.int .i64 (x2)∧e 5=p1∧PT g.m w (x0:Gi) p1∧e 11=p7∧OB 2011 g w 49 (y4:Gf) p7∧e 13=n9∧OB 2013 g w 66 (((Wz x4 x1).getD (⟨0,0,0⟩:Gl)):Gl) n9∧e 40=.bool (v8)) (fun Q' hQ=>?_) (fun oH lI hR=>?_)
    ·replace h := hx
     clear hx;refine Za (Zy (Gm n9 1) (Zc at_66_1 rfl (OB.ptr b46)) rfl ?_);refine Ze .plain rfl (Kf (g:=yB) Pq.1 Tryz.isAgg3 Tryz.sizeOf3 rfl b46 fun mI gH=>?_);obtain rfl:=Zj.1 gH;refine Zn (.int .i64 (x2)) rfl rfl ?_;refine Gy (.bool (((((Wz x4 x1).getD (⟨0,0,0⟩:Gl))).Loom != x2))) rfl rfl rfl rfl ?_;refine Zn (.bool (((((Wz x4 x1).getD (⟨0,0,0⟩:Gl))).Loom != x2))) rfl rfl ?_;rcases Zt h with ⟨n8,h⟩ | ⟨n8,h⟩
     ·refine Ga rfl rfl n8 rfl rfl ?_
      iterate 3 refine Ga rfl rfl n8 rfl rfl ?_
      refine Zy (.bool true) (Zl (b:=((((Wz x4 x1).getD (⟨0,0,0⟩:Gl))).Loom != x2)) rfl (Ty n8 rfl)) rfl ?_;refine Zb ?_;obtain rfl:=sinj h;exact hQ _ _ ⟨yB,hfr,rfl,rfl,q1,rfl,b8,rfl,b46,rfl⟩
     ·refine Zz (Gm n9 2) (Zc at_66_2 rfl (OB.ptr b46)) rfl rfl n8 rfl ?_
      refine Ze (.yes2 rfl rfl n8) rfl (Kf (g:=yB) Bx.1 Tryz.isAgg3 Tryz.sizeOf3 rfl b46 fun nI jH=>?_);obtain rfl:=Zj.1 jH;refine Zz (.int .i64 (Yt (y4).Early x3)) (Zk rfl) rfl rfl n8 rfl ?_;refine Zz (.bool ((decide ((((Wz x4 x1).getD (⟨0,0,0⟩:Gl))).From < (Yt (y4).Early x3))))) (Td rfl rfl rfl) rfl rfl n8 rfl ?_;refine Zy (.bool ((decide ((((Wz x4 x1).getD (⟨0,0,0⟩:Gl))).From < (Yt (y4).Early x3))))) (Zl (b:=((((Wz x4 x1).getD (⟨0,0,0⟩:Gl))).Loom != x2)) rfl (Qd n8 rfl)) rfl ?_;refine Zb ?_;obtain rfl:=sinj h;exact hQ _ _ ⟨yB,hfr,rfl,rfl,q1,rfl,b8,rfl,b46,rfl⟩
    ·clear hx
     obtain ⟨kH,hfr,eF,rF,sF,uE,vE,xE,yE,zB⟩:=hR;rcases Zt h with ⟨vC,h⟩ | ⟨vC,h⟩
     ·refine Qn (Eq.trans (show ev _ _ = .bool (v8) from zB) (congrArg Value.bool vC)) ?_
      refine Zf (Za (Zg (.int .i64 (1048576)) rfl rfl ?_));refine Zb (Zd (Gx (Tm ?_)));refine Tm ?_;obtain rfl:=sinj h;exact Wg rfl rfl (show _=.int .i64 (1048576) from rfl) ⟨_,hfr,rfl⟩
     ·refine Qa (Eq.trans (show ev _ _ = .bool (v8) from zB) (congrArg Value.bool vC)) ?_
      exact Zu (Zd (gG () _ _ ⟨kH,hfr,eF,rF,sF,uE,vE,xE,yE⟩ h))
   ·rintro _ pH pI ⟨cG, hfr, tF, uF, vF, zE, cF, dF, cC⟩ h
    refine Za (Zy (Gm n9 2) (Zc at_66_2 dF (OB.ptr cC)) rfl ?_);refine Ze .plain rfl (Kf (g:=cG) Bx.1 Tryz.isAgg3 Tryz.sizeOf3 rfl cC fun qI lH=>?_);obtain rfl:=Zj.1 lH;refine Zg (.int .i64 ((((Wz x4 x1).getD (⟨0,0,0⟩:Gl))).From)) rfl rfl ?_;exact Zb (Zd (mE ((((Wz x4 x1).getD (⟨0,0,0⟩:Gl))).From) _ _ ⟨cG,hfr,tF,uF,vF,zE,cF,rfl⟩ h))
  ·refine Qm uC rfl ?_
   exact Zu (Zd (mE ((Yt (y4).Early x3)) _ _ ⟨yB,hfr,rfl,rfl,q1,rfl,b8,rfl⟩ h))
 ·rintro o0 qH sI ⟨eG, hfr, lD, nD, mB, l9, t5, aB⟩ h
  refine Zq h (fun (s:Unit) e w=>∃ (g:Gh) ,Fr gI wI g w∧e 12=.int .i64 (o0)) (fun X198 iE xF h=>?_) ?_
  ·obtain ⟨l8, hx, h⟩ := Gc h
   refine Tq (fun e w=>∃ (g:Gh) ,Fr gI wI g w∧e 12=.int .i64 (o0)∧e 60=.bool (l8)) (fun Q' hQ=>?_) (fun mH sH hR=>?_)
   ·replace h := hx
    clear hx;refine Kk (x:=.tmp 43) Dd.1 Tryz.isAgg3 Tryz.sizeOf3 t5 fun tH iG oD=>?_;obtain rfl:=Zj.1 iG;have bD:=Zm (Jx).1 mB;have jG:=Zm (Wx).1 bD;refine Zs (x:=.tmp 46) Tryz.isAgg28 Tryz.sizeOf28 jG fun nB cD yD=>?_;obtain ⟨i6,oB,h⟩:=Gc h;have kG:=Tv cD oB;refine Zs (x:=.tmp 49) Tryz.isAgg3 Tryz.sizeOf3 kG fun uH lG zD=>?_;obtain rfl:=Zj.1 lG;rcases Zt h with ⟨l5,h⟩ | ⟨l5,h⟩
    ·refine Qp (g := eG) (n := 18) [] [0, 1, 2, 3, 4, 5, 6, 7, 8, 9, 10, 11, 12, 13, 14, 15, 16, 17] rfl mixed (by kernel_rfl) trivial ?_
     refine Gb (Gm p7 0) rfl rfl (Zc Iq l9 (OB.ptr t5)) ?_;refine Tl (c:=.int .i64 ((y4).Width)) rfl rfl .plain (fun _ _ h=>⟨h.ch,fun b hb _=>h.below.block b hb⟩) oD rfl ?_;refine Gb (Gm p1 0) rfl rfl (Zc Ro nD (PT.ptr mB)) ?_;refine Gb (Gm (Gm p1 0) 0) rfl rfl (Zc Ul rfl (PT.ptr bD)) ?_;refine Tl (c:=nB) rfl rfl .plain (fun _ _ h=>h.ch) yD rfl ?_;refine Gb (.int .i64 (x2)) rfl rfl (Zk lD) ?_;refine Gb (Qb nB x2 1) rfl rfl (Zh (α:=Int) Tryz.underlying28 Tryz.sizeOf3 rfl cD rfl oB) ?_;refine Tl (c:=.int .i64 (i6)) rfl rfl .plain (fun _ _ h=>h.ch) zD rfl ?_;refine Gb (.bool ((decide ((y4).Width > i6)))) rfl rfl (Td rfl rfl rfl) ?_;refine Gb (.bool ((decide ((y4).Width > i6)))) rfl rfl (Zk rfl) ?_;iterate 7 refine L_s rfl rfl rfl l5 rfl ?_
     refine Gb (.bool true) rfl rfl (Zl (b:=(decide ((y4).Width > i6))) rfl (Ty l5 rfl)) ?_;refine Yz fun mG xH hs=>?_;have hfr:=hfr.ext hs;clear hs;refine Zb ?_;obtain rfl:=sinj h;exact hQ _ _ ⟨mG,hfr,aB,rfl⟩
    ·refine Kk (x := .tmp 54) Wl.1 Tryz.isAgg3 Tryz.sizeOf3 t5 fun yH sG yF => ?_
     obtain rfl:=Zj.1 sG;refine Kk (x:=.tmp 57) Jt.1 Tryz.isAgg3 Tryz.sizeOf3 t5 fun zH xG aG=>?_;obtain rfl:=Zj.1 xG;refine Qp (g:=eG) (n:=18) [] [0,1,2,3,4,5,6,7,8,9,10,11,12,13,14,15,16,17] rfl mixed (by kernel_rfl) trivial ?_;refine Gb (Gm p7 0) rfl rfl (Zc Iq l9 (OB.ptr t5)) ?_;refine Tl (c:=.int .i64 ((y4).Width)) rfl rfl .plain (fun _ _ h=>⟨h.ch,fun b hb _=>h.below.block b hb⟩) oD rfl ?_;refine Gb (Gm p1 0) rfl rfl (Zc Ro nD (PT.ptr mB)) ?_;refine Gb (Gm (Gm p1 0) 0) rfl rfl (Zc Ul rfl (PT.ptr bD)) ?_;refine Tl (c:=nB) rfl rfl .plain (fun _ _ h=>h.ch) yD rfl ?_;refine Gb (.int .i64 (x2)) rfl rfl (Zk lD) ?_;refine Gb (Qb nB x2 1) rfl rfl (Zh (α:=Int) Tryz.underlying28 Tryz.sizeOf3 rfl cD rfl oB) ?_;refine Tl (c:=.int .i64 (i6)) rfl rfl .plain (fun _ _ h=>h.ch) zD rfl ?_;refine Gb (.bool ((decide ((y4).Width > i6)))) rfl rfl (Td rfl rfl rfl) ?_;refine Gb (.bool ((decide ((y4).Width > i6)))) rfl rfl (Zk rfl) ?_;refine L_y (.int .i64 (o0)) rfl rfl rfl rfl l5 (Zk aB) ?_;refine L_y (Gm p7 2) rfl rfl rfl rfl l5 (Zc Uf l9 (OB.ptr t5)) ?_;refine Tl (c:=.int .i64 ((y4).Woven)) rfl rfl (.yes2 rfl rfl l5) (fun _ _ h=>⟨h.ch,fun b hb _=>h.below.block b hb⟩) yF rfl ?_;refine L_y (.int .i64 ((w64 (o0 + (y4).Woven)))) rfl rfl rfl rfl l5 (Td rfl rfl rfl) ?_;refine L_y (Gm p7 4) rfl rfl rfl rfl l5 (Zc Pe l9 (OB.ptr t5)) ?_;refine Tl (c:=.int .i64 ((y4).Late)) rfl rfl (.yes2 rfl rfl l5) (fun _ _ h=>⟨h.ch,fun b hb _=>h.below.block b hb⟩) aG rfl ?_;refine L_y (.bool ((decide ((w64 (o0 + (y4).Woven)) > (y4).Late)))) rfl rfl rfl rfl l5 (Td rfl rfl rfl) ?_;refine Gb (.bool ((decide ((w64 (o0 + (y4).Woven)) > (y4).Late)))) rfl rfl (Zl (b:=(decide ((y4).Width > i6))) rfl (Qd l5 rfl)) ?_;refine Yz fun yG aI hs=>?_;have hfr:=hfr.ext hs;clear hs;refine Zb ?_;obtain rfl:=sinj h;exact hQ _ _ ⟨yG,hfr,aB,rfl⟩
   ·clear hx
    obtain ⟨zG,hfr,aE,lB⟩:=hR;rcases Zt h with ⟨vB,h⟩ | ⟨vB,h⟩
    ·refine Qn (Eq.trans (show ev _ _ = .bool (l8) from lB) (congrArg Value.bool vB)) ?_
     refine Zf (Za (Zg (.int .i64 (1048576)) rfl rfl ?_));refine Zb (Zd (Gx (Tm ?_)));obtain rfl:=sinj h;exact Wg rfl rfl (show _=.int .i64 (1048576) from rfl) ⟨_,hfr,rfl⟩
    ·refine Qa (Eq.trans (show ev _ _ = .bool (l8) from lB) (congrArg Value.bool vB)) ?_
     exact Zu (Zd (xF () _ _ ⟨zG,hfr,aE⟩ h))
  ·rintro _ nH bI ⟨dI, hfr, bE⟩ h
   refine Zf (Za (Zo bE rfl ?_));refine Zg (.int .i64 (o0)) rfl rfl ?_;refine Zb (Zd (Gx ?_));obtain rfl:=sinj h;exact Wg rfl rfl (show _=.int .i64 (o0) from rfl) ⟨_,hfr,rfl⟩
def f170 (x0:List Gg) (x1:Gg→Option Bool):Option (Int):=
 jn (σ:=Unit) (fun _=>
  some ((-1:Int))
  ) fun k18=>
 lp (σ:=Int) (fun k19 o0=>
  bif (decide (o0 < ((x0).length : Int))) then
   jn (σ:=Unit) (fun _=>
    k19 ((w64 (o0 + (1:Int))))
    ) fun k28=>
   (idx x0 o0).bind fun vB=>
   (x1 vB).bind fun yB=>
   bif yB then
    some (o0)
   else
    k28 ()
  else
   k18 ()
  ) big ((0:Int))
theorem en170:Enters Tryz.prog 170:=enters_of Tryz.func170 (by kernel_rfl) rfl
theorem wk170 {gI:Gh} {wI:World} {x0:List Gg} {x1:Gg→Option Bool} {up0:Value} (rp0:RV gI.m wI x0 up0) {up1:Value} (rp1:Xo Tryz.prog x1 up1 gI wI) {r:Int} (h:f170 x0 x1=some r):Fn Tryz.prog 170 #[up0,up1] gI wI (fun _ _ v=>v=.int .i64 (r)):=by
 unfold f170 at h;refine Tc Tryz.func170 rfl (Nat.le_of_ble_eq_true rfl) fun g0 hm hfr=>?_;have rp0:RV g0.m wI x0 up0:=hm ▸ rp0;obtain ⟨ff1,fa1,fc1,rfl,fen1,fcl1⟩:=rp1;show E _ 19 none _ _ _ _ _;refine Zf (Za (Zg (.int .i64 (0)) rfl rfl ?_));refine Zb (Zd (Zq h (fun (s:Unit) e w=>∃ (g:Gh) ,Fr gI wI g w) (fun X18 k18 zB h=>?_) ?_))
 ·refine Zf (Za (Zn up0 rfl rfl ?_))
  refine Zy (.int .i64 ((x0).length:Int)) (Qk Tryz.underlying38 rfl rp0) rfl ?_;refine Zn (.int .i64 (0)) rfl rfl ?_;refine Zb (Zd (Zr ?_));refine Je h (fun (s:Int) e w=>∃ (g:Gh) ,Fr gI wI g w∧e 0=up0∧RV g.m w (x0:List Gg) up0∧e 1=(.func (.func ff1) fa1 fc1)∧e 7=.int .i64 (((x0).length:Int))∧e 8=.int .i64 (s)) ⟨g0,hfr,rfl,rp0,rfl,rfl,rfl⟩ (fun X19 k19 cC=>?_);rintro o0 yD bE ⟨l9,hfr,l8,l5,n8,v8,t5⟩ h;refine Zf (Za (Gy (.bool ((decide (o0 < ((x0).length:Int))))) t5 v8 rfl rfl ?_));refine Zb (Zd (Zf ?_));rcases Zt h with ⟨i6,h⟩ | ⟨i6,h⟩
  ·refine Qo i6 rfl ?_
   refine Zu (Zd (Zq h (fun (s:Unit) e w=>∃ (g:Gh) ,Fr gI wI g w∧e 0=up0∧RV g.m w (x0:List Gg) up0∧e 1=(.func (.func ff1) fa1 fc1)∧e 7=.int .i64 (((x0).length:Int))∧e 8=.int .i64 (o0)) (fun X28 k28 uC h=>?_) ?_))
   ·refine Zr ?_
    refine Zf (Za (Zo t5 rfl ?_));refine Zg (.int .i64 (o0)) rfl rfl ?_;refine Zb (Zd (Zf (Za (Zo n8 rfl ?_))));refine Zo l8 rfl ?_;refine Zn (.int .i64 (o0)) rfl rfl ?_;obtain ⟨vB,n9,h⟩:=Gc h;refine Zy (Qb up0 o0 2) (Zh (α:=Gg) Tryz.underlying38 Tryz.sizeOf113 rfl l5 rfl n9) rfl ?_;have bD:=Tv l5 n9;refine Ze .plain rfl (Gr (g:=l9) Tryz.isAgg113 Tryz.sizeOf113 rfl bD fun cD lD=>?_);obtain ⟨yB,vC,h⟩:=Gc h;refine Ze .plain rfl (Ug (g:=l9) (vs:=[cD]) rfl fen1 (.cons rfl .nil) (fcl1 _ _ hfr.ch _ _ _  lD vC) fun nD iE lE hs hr=>?_);have hfr:=hfr.ext hs;have l5:=l5.ext hs;obtain rfl:=Qw.1 hr;refine Zb (Zd ?_);rcases Zt h with ⟨g8,h⟩ | ⟨g8,h⟩
    ·refine Qo g8 rfl ?_
     refine Zf (Za (Zn (.int .i64 (o0)) rfl rfl ?_));refine Zg (.int .i64 (o0)) rfl rfl ?_;refine Zb (Zd (Gx (Wa ?_)));refine Tm ?_;refine Tm ?_;refine Wa ?_;refine Tm ?_;obtain rfl:=sinj h;exact Wg rfl rfl (show _=.int .i64 (o0) from rfl) ⟨_,hfr,rfl⟩
    ·refine Qm g8 rfl ?_
     exact Zu (Qx (Zd (uC () _ _ ⟨nD,hfr,l8,l5,n8,v8,t5⟩ h)))
   ·rintro _ zD mE ⟨oD, hfr, aB, lB, mB, nB, oB⟩ h
    refine Za (Gy (.int .i64 ((w64 (o0 + (1:Int))))) oB rfl rfl rfl ?_);refine Zn (.int .i64 ((w64 (o0 + (1:Int))))) rfl rfl ?_;exact Zb (Zd (cC ((w64 (o0 + (1:Int)))) _ _ ⟨oD,hfr,aB,lB,mB,nB,rfl⟩ h))
  ·refine Qm i6 rfl ?_
   refine Qz ?_;refine Tr ?_;refine Tr ?_;refine Tz ?_;exact Zd (zB () _ _ ⟨l9,hfr⟩ h)
 ·rintro _ aE oE ⟨rE, hfr⟩ h
  refine Zf (Za (Zg (.int .i64 (-1)) rfl rfl ?_));refine Zb (Zd (Gx ?_));obtain rfl:=sinj h;exact Wg rfl rfl (show _=.int .i64 (-1) from rfl) ⟨_,hfr,rfl⟩
theorem v7_0 {iO:Nat} {gI:Gh} {wI:World} {x0:List Gf} {up0:Value} (rp0:RV gI.m wI x0 up0) {r:(List Gf)} (h:f7 x0=some r):FnG Tryz.prog 7 #[up0] gI wI (fun g w v=>OM iO g w 49 (r) v):=by
 unfold f7 at h;refine Pr Tryz.func7 rfl (Nat.le_of_ble_eq_true rfl) fun g0 hm hfr=>?_;have rp0:RV g0.m wI x0 up0:=hm ▸ rp0;show E _ 6 none _ _ _ _ _;refine Zf (Za (Zg (.slice none 0 0) rfl rfl ?_));refine Zb (Zd (Zf (Za (Ze .plain rfl (Gp (g:=g0) 3003 (xs:=([]:List Gf)) (vs:=[]) Tryz.underlying31 Tryz.sizeOf49 Tryz.zeroValue49 rfl rfl .nil RVs.nil rfl rfl fun g1 w1 v1 hs o1 r1 hxt hfl=>?_)))));have hfr:=hfr.stp hs;have rp0:=rp0.stp hs;refine Zn up0 rfl rfl ?_;obtain ⟨y3,hy3,h⟩:=Gc h;refine Ze .plain rfl (Ha (g:=g1) (i:=3003) Tryz.underlying31 info_49 rfl rfl o1 r1 rfl rp0 hy3 fun g2 w2 v2 hs o2 r2 _=>?_);have hfr:=hfr.stp hs;refine Zg v2 rfl rfl ?_;refine Zb (Zd (Gx ?_));obtain rfl:=sinj h;obtain ⟨gh,hxh,homh⟩:=OM.hand (i:=iO) Uz hfr o2 r2;exact Wg rfl rfl (show _=v2 from rfl) ⟨gh,hxh,homh⟩
def f10 (x0:Ya):Option (BoxLoom):=
 (idx ((x0).Boxes).toList (0:Int)).bind fun y4=>
 (Jw ((y4).toNat:Int) (2:Int)).bind fun y7=>
 (idx ((x0).Boxes).toList (1:Int)).bind fun y9=>
 (Jw ((y9).toNat:Int) (2:Int)).bind fun sF=>
 (idx ((x0).Boxes).toList (0:Int)).bind fun cN=>
 (Rd ((cN).toNat:Int) (2:Int)).bind fun dN=>
 (Jw dN (2:Int)).bind fun kG=>
 (idx ((x0).Boxes).toList (1:Int)).bind fun eN=>
 (Rd ((eN).toNat:Int) (2:Int)).bind fun gN=>
 (Jw gN (2:Int)).bind fun lG=>
 Option.bind (α:=BoxLoom) (
  lp (σ:=BoxLoom × (Vector Bool 6) × Int) (fun iN (l5,l9,o0)=>
   jn (σ:=Unit) (fun _=>
    Option.bind (α:=BoxLoom × (Vector Bool 6)) (
     (idx ((x0).Shuttles).toList o0).bind fun jN=>
     (idx (jN).toList (0:Int)).bind fun yG=>
     (idx ((l5).Boxes) (0:Int)).bind fun zG=>
     (idx ((l5).Boxes) (1:Int)).bind fun aH=>
     (Jw ((yG).toNat:Int) (w64 (zG + aH))).bind fun cH=>
     Option.bind (α:=Int) (
      lp (σ:=Int) (fun kN zB=>
       jn (σ:=Unit) (fun _=>
        (idx ((l5).Boxes) (0:Int)).bind fun uF=>
        (idx ((l5).Boxes) (1:Int)).bind fun vF=>
        (Jw (w64 (zB + (1:Int))) (w64 (uF + vF))).bind fun lE=>
        kN (lE)
        ) fun lN=>
       (idx (l9).toList zB).bind fun mN=>
       bif mN then
        lN ()
       else
        some (zB)
       ) big (cH)
      ) fun t5=>
     (idx (l9).toList t5).bind fun bP=>
     (idx ((x0).Shuttles).toList o0).bind fun sJ=>
     (idx (sJ).toList (1:Int)).bind fun gH=>
     (Jw ((gH).toNat:Int) (9:Int)).bind fun yB=>
     (idx ((x0).Shuttles).toList o0).bind fun vJ=>
     (idx (vJ).toList (1:Int)).bind fun jH=>
     (Rd ((jH).toNat:Int) (9:Int)).bind fun kH=>
     (Jw kH (3:Int)).bind fun mE=>
     (f24 yB ((w64 (yB + mE)))).bind fun uC=>
     Option.bind (α:=Zv) (
      (idx ((l5).Boxes) (0:Int)).bind fun lH=>
      bif (decide (t5 ≥ lH)) then
       (idx ((l5).Boxes) (0:Int)).bind fun xF=>
       some ((⟨o0,(1:Int),(w64 (t5 - xF)),uC⟩:Zv))
      else
       some ((⟨o0,0,t5,uC⟩:Zv))
      ) fun yD=>
     (apnd 40 ((l5).Shuttles) (([yD]:List Zv))).bind fun mH=>
     some ({ l5 with Shuttles:=mH },(Hp l9 t5 true))
     ) fun (vC,zD)=>
    iN (vC,zD,(w64 (o0 + (1:Int))))
    ) fun nN=>
   bif (decide (o0 < (3 : Int))) then
    nN ()
   else
    some (l5)
   ) big ((⟨([(w64 ((2:Int) + y7)),(w64 ((2:Int) + sF))]:List Int),([kG,lG]:List Int),[]⟩:BoxLoom),(⟨List.toArray [false,false,false,false,false,false],rfl⟩:Vector Bool 6),(0:Int))
  ) fun cD=>
 some (cD)
theorem en10:Enters Tryz.prog 10:=enters_of Tryz.func10 (by kernel_rfl) rfl
theorem wk10 {gI:Gh} {wI:World} {x0:Ya} {up0:Value} (rp0:RV gI.m wI x0 up0) {r:BoxLoom} (h:f10 x0=some r):Fn Tryz.prog 10 #[up0] gI wI (fun m w v=>RV m w (r) v):=by
 unfold f10 at h;refine Tc Tryz.func10 rfl (Nat.le_of_ble_eq_true rfl) fun g0 hm hfr=>?_;have rp0:RV g0.m wI x0 up0:=hm ▸ rp0;show E _ 117 none _ _ _ _ _;refine Zf (Za (Ze .plain rfl (Wc (g:=g0) rfl rp0 fun g1 w1 p1 hs q1=>?_)));have hfr:=hfr.ext hs;refine Ze .plain rfl (Gu (g:=g1) 2002 (⟨[],[],[]⟩:BoxLoom) Tryz.zeroValue44 (fun m w=>⟨_,(Gk Ti (Gk Ti Ti)),rfl⟩) fun g2 w2 p2 hs b2 cb=>?_);have hfr:=hfr.stp hs;have q1:=q1.stp hs;have n9:OSF 2002 60200 0 g2 w2 3 44 ([]:List Int) p2:=cb.osf (by rfl);have aB:OSF 2002 60201 1 g2 w2 3 44 ([]:List Int) p2:=cb.osf (by rfl);have lB:OSF 2002 60202 2 g2 w2 83 44 ([]:List Zv) p2:=cb.osf (by rfl);clear cb;refine Zb (Zd (Zf (Za (Zy (Gm p1 0) (Zc Pi rfl (PT.ptr q1)) rfl ?_))));have q3:=Zm (Xf).1 q1;obtain ⟨y4,xQ,h⟩:=Gc h;refine Zy (Gm (Gm p1 0) (((0:Int):Int).toNat * 1)) (Ts (α:=UInt8) Tryz.underlying22 Tryz.sizeOf5 rfl (PT.ptr q3) rfl xQ) rfl ?_;have q5:=Kw q3 xQ;refine Ze .plain rfl (Gr (g:=g2) Tryz.isAgg5 Tryz.sizeOf5 rfl q5 fun v6 r6=>?_);obtain rfl:=Dr.1 r6;refine Zy (.int .i64 (((y4).toNat:Int))) (Ji Tryz.underlying5 Tryz.underlying3 rfl) rfl ?_;obtain ⟨y7,zR,h⟩:=Gc h;refine Zy (.int .i64 (y7)) (Td rfl rfl (congrArg (Option.map (Value.int .i64)) zR)) rfl ?_;refine Gy (.int .i64 ((w64 ((2:Int) + y7)))) rfl rfl rfl rfl ?_;refine Zy (Gm p1 0) (Zc Pi rfl (PT.ptr q1)) rfl ?_;have q8:=Zm (Xf).1 q1;obtain ⟨y9,yQ,h⟩:=Gc h;refine Zy (Gm (Gm p1 0) (((1:Int):Int).toNat * 1)) (Ts (α:=UInt8) Tryz.underlying22 Tryz.sizeOf5 rfl (PT.ptr q8) rfl yQ) rfl ?_;have aS:=Kw q8 yQ;refine Ze .plain rfl (Gr (g:=g2) Tryz.isAgg5 Tryz.sizeOf5 rfl aS fun dV bS=>?_);obtain rfl:=Dr.1 bS;refine Zy (.int .i64 (((y9).toNat:Int))) (Ji Tryz.underlying5 Tryz.underlying3 rfl) rfl ?_;obtain ⟨sF,gR,h⟩:=Gc h;refine Zy (.int .i64 (sF)) (Td rfl rfl (congrArg (Option.map (Value.int .i64)) gR)) rfl ?_;refine Gy (.int .i64 ((w64 ((2:Int) + sF)))) rfl rfl rfl rfl ?_;refine Ze .plain rfl (Gp (g:=g2) 3021 (xs:=([(w64 ((2:Int) + y7)),(w64 ((2:Int) + sF))]:List Int)) (vs:=[.int .i64 ((w64 ((2:Int) + y7))),.int .i64 ((w64 ((2:Int) + sF)))]) Tryz.underlying28 Tryz.sizeOf3 Tryz.zeroValue3 rfl rfl (.cons rfl (.cons rfl .nil)) (RVs.cons (Zj.2 rfl) (RVs.cons (Zj.2 rfl) RVs.nil)) rfl rfl fun oN eV pN hs o13 tF hxt hfl=>?_);have hfr:=hfr.stp hs;have q1:=q1.stp hs;have n9:=n9.stp hs rfl;have aB:=aB.stp hs rfl;have lB:=lB.stp hs rfl;have b2:=b2.stp hs rfl;refine Zy (Gm p1 0) (Zc Pi rfl (PT.ptr q1)) rfl ?_;have zQ:=Zm (Xf).1 q1;obtain ⟨cN,qN,h⟩:=Gc h;refine Zy (Gm (Gm p1 0) (((0:Int):Int).toNat * 1)) (Ts (α:=UInt8) Tryz.underlying22 Tryz.sizeOf5 rfl (PT.ptr zQ) rfl qN) rfl ?_;have cS:=Kw zQ qN;refine Ze .plain rfl (Gr (g:=oN) Tryz.isAgg5 Tryz.sizeOf5 rfl cS fun gV dS=>?_);obtain rfl:=Dr.1 dS;refine Zy (.int .i64 (((cN).toNat:Int))) (Ji Tryz.underlying5 Tryz.underlying3 rfl) rfl ?_;obtain ⟨dN,iR,h⟩:=Gc h;refine Zy (.int .i64 (dN)) (Td rfl rfl (congrArg (Option.map (Value.int .i64)) iR)) rfl ?_;obtain ⟨kG,jR,h⟩:=Gc h;refine Zy (.int .i64 (kG)) (Td rfl rfl (congrArg (Option.map (Value.int .i64)) jR)) rfl ?_;refine Zy (Gm p1 0) (Zc Pi rfl (PT.ptr q1)) rfl ?_;have aR:=Zm (Xf).1 q1;obtain ⟨eN,rN,h⟩:=Gc h;refine Zy (Gm (Gm p1 0) (((1:Int):Int).toNat * 1)) (Ts (α:=UInt8) Tryz.underlying22 Tryz.sizeOf5 rfl (PT.ptr aR) rfl rN) rfl ?_;have eS:=Kw aR rN;refine Ze .plain rfl (Gr (g:=oN) Tryz.isAgg5 Tryz.sizeOf5 rfl eS fun iV gS=>?_);obtain rfl:=Dr.1 gS;refine Zy (.int .i64 (((eN).toNat:Int))) (Ji Tryz.underlying5 Tryz.underlying3 rfl) rfl ?_;obtain ⟨gN,lR,h⟩:=Gc h;refine Zy (.int .i64 (gN)) (Td rfl rfl (congrArg (Option.map (Value.int .i64)) lR)) rfl ?_;obtain ⟨lG,mR,h⟩:=Gc h;refine Zy (.int .i64 (lG)) (Td rfl rfl (congrArg (Option.map (Value.int .i64)) mR)) rfl ?_;refine Ze .plain rfl (Gp (g:=oN) 3034 (xs:=([kG,lG]:List Int)) (vs:=[.int .i64 (kG),.int .i64 (lG)]) Tryz.underlying28 Tryz.sizeOf3 Tryz.zeroValue3 rfl rfl (.cons rfl (.cons rfl .nil)) (RVs.cons (Zj.2 rfl) (RVs.cons (Zj.2 rfl) RVs.nil)) rfl rfl fun bR jV sN hs o26 tN hxt hfl=>?_);have hfr:=hfr.stp hs
 have q1:=q1.stp hs;have n9:=n9.stp hs rfl;have aB:=aB.stp hs rfl;have lB:=lB.stp hs rfl;have b2:=b2.stp hs rfl;have tF:=tF.stp hs;have o13:=o13.stp hs rfl;have xJ:RV bR.m _ (⟨([(w64 ((2:Int) + y7)),(w64 ((2:Int) + sF))]:List Int),([kG,lG]:List Int),[]⟩:BoxLoom) (.agg (Tt [[.slice none 0 0],[.slice none 0 0],[.slice none 0 0]] [(0,pN),(1,sN)]).flatten.toArray):=Qe rfl (Tb (RV.cells tF) (Tb (RV.cells tN) (Qi (Ti))));generalize qJ:(Value.agg (Tt [[.slice none 0 0],[.slice none 0 0],[.slice none 0 0]] [(0,pN),(1,sN)]).flatten.toArray)=dR at xJ;obtain ⟨iS,jS,vE,_,_⟩:=Kx tF;replace vE:=vE.symm;obtain ⟨lS,mS,xE,_,_⟩:=Kx tN;replace xE:=xE.symm;refine Zy dR (qJ ▸ Wd (vs:=[(0,pN),(1,sN)]) [[.slice none 0 0],[.slice none 0 0],[.slice none 0 0]] lay_44 rfl rfl (.cons rfl (.cons rfl .nil)) ⟨⟨_,rfl,To tF⟩,⟨⟨_,rfl,To tN⟩,trivial⟩⟩) rfl ?_;refine Ze .plain rfl (Gu (g:=bR) 2003 (⟨[],[],[]⟩:BoxLoom) Tryz.zeroValue44 (fun m w=>⟨_,(Gk Ti (Gk Ti Ti)),rfl⟩) fun zJ uN i6 hs b28 cb=>?_);have hfr:=hfr.stp hs;have q1:=q1.stp hs;have n9:=n9.stp hs rfl;have aB:=aB.stp hs rfl;have lB:=lB.stp hs rfl;have b2:=b2.stp hs rfl;have tF:=tF.stp hs;have o13:=o13.stp hs rfl;have xJ:=xJ.stp hs;have yS:OSF 2003 60300 0 zJ uN 3 44 ([]:List Int) i6:=cb.osf (by rfl);have zS:OSF 2003 60301 1 zJ uN 3 44 ([]:List Int) i6:=cb.osf (by rfl);have eT:OSF 2003 60302 2 zJ uN 83 44 ([]:List Zv) i6:=cb.osf (by rfl);clear cb;refine Ze .plain rfl (Gn (g:=zJ) (v:=dR) Tryz.sizeOf44 rfl b28 rfl xJ fun aK w29 hs b29 cb=>?_);have oE:OSF 2003 60302 2 aK w29 83 44 ([]:List Zv) i6:=cb.osf (by rw [← qJ,← vE,← xE]; rfl);obtain ⟨nS,oS,jL,_,_⟩:=Kx tF;have rE:OSF 2003 3021 0 aK w29 3 44 (([(w64 ((2:Int) + y7)),(w64 ((2:Int) + sF))]:List Int):List Int) i6:=cb.osfv (by rw [← qJ,jL]; rfl) (o13.stp hs rfl);clear cb;have hfr:=hfr.stp hs;have q1:=q1.stp hs;have n9:=n9.stp hs rfl;have aB:=aB.stp hs rfl;have lB:=lB.stp hs rfl;have b2:=b2.stp hs rfl;refine Zb (Zd (Zf (Za ?_)));have bK:RV aK.m w29 (⟨List.toArray [false,false,false,false,false,false],rfl⟩:Vector Bool 6) (.agg (Tt [[.bool false],[.bool false],[.bool false],[.bool false],[.bool false],[.bool false]] []).flatten.toArray):=Qe rfl (Ta (Zw Jd (Zw Jd (Zw Jd (Zw Jd (Zw Jd (Zw Jd Gv)))))) rfl);generalize nR:(Value.agg (Tt [[.bool false],[.bool false],[.bool false],[.bool false],[.bool false],[.bool false]] []).flatten.toArray)=eR at bK;refine Zy eR (nR ▸ P_buildA (vs:=[]) [[.bool false],[.bool false],[.bool false],[.bool false],[.bool false],[.bool false]] Tryz.underlying125 layA_125 szA_4 rfl (by simp) .nil trivial) rfl ?_;refine Ze .plain rfl (Gu (g:=aK) 2004 ((⟨List.toArray [false,false,false,false,false,false],rfl⟩:Vector Bool 6):Vector Bool 6) Tryz.zeroValue125 (fun m w=>⟨_,(Ta (Zw Jd (Zw Jd (Zw Jd (Zw Jd (Zw Jd (Zw Jd Gv)))))) rfl),rfl⟩) fun pS kV cC hs b31 cb=>?_);have hfr:=hfr.stp hs;have q1:=q1.stp hs;have n9:=n9.stp hs rfl;have aB:=aB.stp hs rfl;have lB:=lB.stp hs rfl;have b2:=b2.stp hs rfl;have oE:=oE.stp hs rfl;have rE:=rE.stp hs rfl;have b29:=b29.stp hs rfl;have bK:=bK.stp hs;clear cb;refine Ze .plain rfl (Gn (g:=pS) (v:=eR) Tryz.sizeOf125 rfl b31 rfl bK fun qS lV hs b32 cb=>?_);clear cb;have hfr:=hfr.stp hs;have q1:=q1.stp hs;have n9:=n9.stp hs rfl;have aB:=aB.stp hs rfl;have lB:=lB.stp hs rfl;have b2:=b2.stp hs rfl;have oE:=oE.stp hs rfl;have rE:=rE.stp hs rfl;have b29:=b29.stp hs rfl;refine Zb (Zd ?_);obtain ⟨cD,hx,h⟩:=Gc h;refine Tq (fun e w=>∃ (g:Gh) ,Fr gI wI g w∧e 2=p2∧OB 2002 g w 44 ((⟨[],[],[]⟩:BoxLoom):BoxLoom) p2∧OSF 2002 60200 0 g w 3 44 (((⟨[],[],[]⟩:BoxLoom)).Boxes) p2∧OSF 2002 60201 1 g w 3 44 (((⟨[],[],[]⟩:BoxLoom)).At) p2∧OSF 2002 60202 2 g w 83 44 (((⟨[],[],[]⟩:BoxLoom)).Shuttles) p2∧e 3=i6∧OB 2003 g w 44 (cD:BoxLoom) i6∧OSF 2003 3021 0 g w 3 44 ((cD).Boxes) i6∧OSF 2003 60302 2 g w 83 44 ((cD).Shuttles) i6) (fun Q' hQ=>?_) (fun rS lT hR=>?_)
 ·replace h := hx
  clear hx;refine Zf (Za (Zg (.int .i64 (0)) rfl rfl ?_));refine Zb (Zd (Zr ?_));refine Je h (fun (s:BoxLoom × (Vector Bool 6) × Int) e w=>∃ (g:Gh) ,Fr gI wI g w∧e 1=p1∧PT g.m w (x0:Ya) p1∧e 2=p2∧OB 2002 g w 44 ((⟨[],[],[]⟩:BoxLoom):BoxLoom) p2∧OSF 2002 60200 0 g w 3 44 (((⟨[],[],[]⟩:BoxLoom)).Boxes) p2∧OSF 2002 60201 1 g w 3 44 (((⟨[],[],[]⟩:BoxLoom)).At) p2∧OSF 2002 60202 2 g w 83 44 (((⟨[],[],[]⟩:BoxLoom)).Shuttles) p2∧e 3=i6∧OB 2003 g w 44 (s.1:BoxLoom) i6∧OSF 2003 3021 0 g w 3 44 ((s.1).Boxes) i6∧OSF 2003 60302 2 g w 83 44 ((s.1).Shuttles) i6∧e 4=cC∧OB 2004 g w 125 (s.2.1:Vector Bool 6) cC∧e 5=.int .i64 (s.2.2)) ⟨qS,hfr,rfl,q1,rfl,b2,n9,aB,lB,rfl,b29,rE,oE,rfl,b32,rfl⟩ (fun X615 iN cP=>?_);rintro ⟨l5,l9,o0⟩ mT uU ⟨vN,hfr,xN,yN,uH,xH,u2_0_616,u2_1_616,u2_2_616,yH,zH,u3_0_616,u3_2_616,zN,aO,aI⟩ h;refine Zq h (fun (s:Unit) e w=>∃ (g:Gh) ,Fr gI wI g w∧e 1=p1∧PT g.m w (x0:Ya) p1∧e 2=p2∧OB 2002 g w 44 ((⟨[],[],[]⟩:BoxLoom):BoxLoom) p2∧OSF 2002 60200 0 g w 3 44 (((⟨[],[],[]⟩:BoxLoom)).Boxes) p2∧OSF 2002 60201 1 g w 3 44 (((⟨[],[],[]⟩:BoxLoom)).At) p2∧OSF 2002 60202 2 g w 83 44 (((⟨[],[],[]⟩:BoxLoom)).Shuttles) p2∧e 3=i6∧OB 2003 g w 44 (l5:BoxLoom) i6∧OSF 2003 3021 0 g w 3 44 ((l5).Boxes) i6∧OSF 2003 60302 2 g w 83 44 ((l5).Shuttles) i6∧e 4=cC∧OB 2004 g w 125 (l9:Vector Bool 6) cC∧e 5=.int .i64 (o0)) (fun X618 nN dP h=>?_) ?_
  ·refine Zf (Za (Zo aI rfl ?_))
   refine Gy (.bool ((decide (o0 < (3:Int))))) rfl rfl rfl rfl ?_;refine Zb (Zd ?_);rcases Zt h with ⟨nH,h⟩ | ⟨nH,h⟩
   ·refine Qo nH rfl ?_
    exact Zu (Zd (dP () _ _ ⟨vN,hfr,xN,yN,uH,xH,u2_0_616,u2_1_616,u2_2_616,yH,zH,u3_0_616,u3_2_616,zN,aO,aI⟩ h))
   ·refine Qm nH rfl ?_
    refine Qz ?_;refine Tr ?_;refine Tr ?_;refine Tz ?_;obtain rfl:=sinj h;exact hQ _ _ ⟨vN,hfr,uH,xH,u2_0_616,u2_1_616,u2_2_616,yH,zH,u3_0_616,u3_2_616⟩
  ·rintro _ nT vU ⟨oR, hfr, bI, oD, bO, aG, u2_0_620, u2_1_620, u2_2_620, bG, bD, u3_0_620, u3_2_620, cO, cG, dI⟩ h
   obtain ⟨⟨vC,zD⟩,hx,h⟩:=Gc h;refine Tq (fun e w=>∃ (g:Gh) ,Fr gI wI g w∧e 1=p1∧PT g.m w (x0:Ya) p1∧e 2=p2∧OB 2002 g w 44 ((⟨[],[],[]⟩:BoxLoom):BoxLoom) p2∧OSF 2002 60200 0 g w 3 44 (((⟨[],[],[]⟩:BoxLoom)).Boxes) p2∧OSF 2002 60201 1 g w 3 44 (((⟨[],[],[]⟩:BoxLoom)).At) p2∧OSF 2002 60202 2 g w 83 44 (((⟨[],[],[]⟩:BoxLoom)).Shuttles) p2∧e 3=i6∧OB 2003 g w 44 (vC:BoxLoom) i6∧OSF 2003 3021 0 g w 3 44 ((vC).Boxes) i6∧OSF 2003 60302 2 g w 83 44 ((vC).Shuttles) i6∧e 4=cC∧OB 2004 g w 125 (zD:Vector Bool 6) cC∧e 5=.int .i64 (o0)) (fun Q' hQ=>?_) (fun sS oT hR=>?_)
   ·replace h := hx
    clear hx;refine Zr ?_;refine Zf ?_;have dO:=Zm (Se).1 oD;obtain ⟨jN,cK,h⟩:=Gc h;have eO:=Kw dO cK;obtain ⟨yG,dK,h⟩:=Gc h;have pR:=Kw eO dK;refine Zs (x:=.tmp 44) Tryz.isAgg5 Tryz.sizeOf5 pR fun xU qR eP=>?_;obtain rfl:=Dr.1 qR;refine Bl (x:=.tmp 47) Qj.1 Tryz.isAgg28 Tryz.sizeOf28 bD u3_0_620 fun gO jO o915 gP=>?_;obtain ⟨zG,lK,h⟩:=Gc h;have rR:=Tv jO lK;refine Zs (x:=.tmp 49) Tryz.isAgg3 Tryz.sizeOf3 rR fun yU tR iP=>?_;obtain rfl:=Zj.1 tR;refine Bl (x:=.tmp 51) Qj.1 Tryz.isAgg28 Tryz.sizeOf28 bD u3_0_620 fun kO lO o920 jP=>?_;obtain ⟨aH,mK,h⟩:=Gc h;have uR:=Tv lO mK;refine Zs (x:=.tmp 53) Tryz.isAgg3 Tryz.sizeOf3 uR fun zU vR kP=>?_;obtain rfl:=Zj.1 vR;obtain ⟨cH,lP,h⟩:=Gc h;refine Qp (g:=oR) (n:=17) [] [0,1,2,3,4,5,6,7,8,9,10,11,12,13,14,15,16] rfl mixed (by kernel_rfl) trivial ?_;refine Gb (.int .i64 (o0)) rfl rfl (Zk dI) ?_;refine Gb (Gm p1 2) rfl rfl (Zc Nz bI (PT.ptr oD)) ?_;refine Gb (Gm (Gm p1 2) ((o0:Int).toNat * 2)) rfl rfl (Ts (α:=Vector UInt8 2) Tryz.underlying23 Tryz.sizeOf22 rfl (PT.ptr dO) rfl cK) ?_;refine Gb (Gm (Gm (Gm p1 2) ((o0:Int).toNat * 2)) (((0:Int):Int).toNat * 1)) rfl rfl (Ts (α:=UInt8) Tryz.underlying22 Tryz.sizeOf5 rfl (PT.ptr eO) rfl dK) ?_;refine Tl (c:=.int .u8 (UInt8.toNat (yG))) rfl rfl .plain (fun _ _ h=>h.ch) eP rfl ?_;refine Gb (.int .i64 (((yG).toNat:Int))) rfl rfl (Ji Tryz.underlying5 Tryz.underlying3 rfl) ?_;refine Gb (Gm i6 0) rfl rfl (Zc Kv bG (OB.ptr bD)) ?_;refine Tl (c:=gO) rfl rfl .plain (fun _ _ h=>⟨h.ch,fun b hb _=>h.below.block b hb⟩) gP rfl ?_;refine Gb (Qb gO (0:Int) 1) rfl rfl (Zh (α:=Int) Tryz.underlying28 Tryz.sizeOf3 rfl jO rfl lK) ?_;refine Tl (c:=.int .i64 (zG)) rfl rfl .plain (fun _ _ h=>h.ch) iP rfl ?_;refine Gb (Gm i6 0) rfl rfl (Zc Kv bG (OB.ptr bD)) ?_;refine Tl (c:=kO) rfl rfl .plain (fun _ _ h=>⟨h.ch,fun b hb _=>h.below.block b hb⟩) jP rfl ?_;refine Gb (Qb kO (1:Int) 1) rfl rfl (Zh (α:=Int) Tryz.underlying28 Tryz.sizeOf3 rfl lO rfl mK) ?_;refine Tl (c:=.int .i64 (aH)) rfl rfl .plain (fun _ _ h=>h.ch) kP rfl ?_;refine Gb (.int .i64 ((w64 (zG + aH)))) rfl rfl (Td rfl rfl rfl) ?_;refine Gb (.int .i64 (cH)) rfl rfl (Td rfl rfl (congrArg (Option.map (Value.int .i64)) lP)) ?_;refine Gb (.int .i64 (cH)) rfl rfl (Qt rfl) ?_;refine Yz fun xR aV hs=>?_;have hfr:=hfr.ext hs;have oD:=oD.ext hs;have u2_0_620:=u2_0_620.ext hs;have u2_1_620:=u2_1_620.ext hs;have u2_2_620:=u2_2_620.ext hs;have aG:=aG.ext hs;have u3_0_620:=u3_0_620.ext hs;have u3_2_620:=u3_2_620.ext hs;have bD:=bD.ext hs;have cG:=cG.ext hs;clear hs;refine Zb (Zd ?_);obtain ⟨t5,hx,h⟩:=Gc h;refine Tq (fun e w=>∃ (g:Gh) ,Fr gI wI g w∧e 1=p1∧PT g.m w (x0:Ya) p1∧e 2=p2∧OB 2002 g w 44 ((⟨[],[],[]⟩:BoxLoom):BoxLoom) p2∧OSF 2002 60200 0 g w 3 44 (((⟨[],[],[]⟩:BoxLoom)).Boxes) p2∧OSF 2002 60201 1 g w 3 44 (((⟨[],[],[]⟩:BoxLoom)).At) p2∧OSF 2002 60202 2 g w 83 44 (((⟨[],[],[]⟩:BoxLoom)).Shuttles) p2∧e 3=i6∧OB 2003 g w 44 (l5:BoxLoom) i6∧OSF 2003 3021 0 g w 3 44 ((l5).Boxes) i6∧OSF 2003 60302 2 g w 83 44 ((l5).Shuttles) i6∧e 4=cC∧OB 2004 g w 125 (l9:Vector Bool 6) cC∧e 5=.int .i64 (o0)∧e 6=.int .i64 (t5)) (fun Q' hQ=>?_) (fun tS pT hR=>?_)
    ·replace h := hx
     clear hx;refine Zr ?_;refine Je h (fun (s:Int) e w=>∃ (g:Gh) ,Fr gI wI g w∧e 1=p1∧PT g.m w (x0:Ya) p1∧e 2=p2∧OB 2002 g w 44 ((⟨[],[],[]⟩:BoxLoom):BoxLoom) p2∧OSF 2002 60200 0 g w 3 44 (((⟨[],[],[]⟩:BoxLoom)).Boxes) p2∧OSF 2002 60201 1 g w 3 44 (((⟨[],[],[]⟩:BoxLoom)).At) p2∧OSF 2002 60202 2 g w 83 44 (((⟨[],[],[]⟩:BoxLoom)).Shuttles) p2∧e 3=i6∧OB 2003 g w 44 (l5:BoxLoom) i6∧OSF 2003 3021 0 g w 3 44 ((l5).Boxes) i6∧OSF 2003 60302 2 g w 83 44 ((l5).Shuttles) i6∧e 4=cC∧OB 2004 g w 125 (l9:Vector Bool 6) cC∧e 5=.int .i64 (o0)∧e 6=.int .i64 (s)) ⟨xR,hfr,bI,oD,bO,aG,u2_0_620,u2_1_620,u2_2_620,bG,bD,u3_0_620,u3_2_620,cO,cG,dI,rfl⟩ (fun X990 kN mP=>?_);rintro zB sT bV ⟨rJ,hfr,iI,jI,kI,lI,u2_0_991,u2_1_991,u2_2_991,mI,nI,u3_0_991,u3_2_991,eG,uE,pI,gG⟩ h;refine Zq h (fun (s:Unit) e w=>∃ (g:Gh) ,Fr gI wI g w∧e 1=p1∧PT g.m w (x0:Ya) p1∧e 2=p2∧OB 2002 g w 44 ((⟨[],[],[]⟩:BoxLoom):BoxLoom) p2∧OSF 2002 60200 0 g w 3 44 (((⟨[],[],[]⟩:BoxLoom)).Boxes) p2∧OSF 2002 60201 1 g w 3 44 (((⟨[],[],[]⟩:BoxLoom)).At) p2∧OSF 2002 60202 2 g w 83 44 (((⟨[],[],[]⟩:BoxLoom)).Shuttles) p2∧e 3=i6∧OB 2003 g w 44 (l5:BoxLoom) i6∧OSF 2003 3021 0 g w 3 44 ((l5).Boxes) i6∧OSF 2003 60302 2 g w 83 44 ((l5).Shuttles) i6∧e 4=cC∧OB 2004 g w 125 (l9:Vector Bool 6) cC∧e 5=.int .i64 (o0)∧e 6=.int .i64 (zB)) (fun X996 lN nP h=>?_) ?_
     ·refine Zf (Za (Zo gG rfl ?_))
      obtain ⟨mN,nK,h⟩:=Gc h;obtain ⟨hi998,he998⟩:=Hq nK;refine Zy (Gm cC ((zB:Int).toNat * 1)) (Ts (α:=Bool) Tryz.underlying125 Tryz.sizeOf4 eG (OB.ptr uE) rfl nK) rfl ?_;refine Ze .plain rfl (D_loadD (g:=rJ) (Gs.dyn hi998).1 he998 Tryz.isAgg4 Tryz.sizeOf4 rfl uE fun cV yR=>?_);obtain rfl:=Qw.1 yR;refine Zb (Zd ?_);rcases Zt h with ⟨iG,h⟩ | ⟨iG,h⟩
      ·refine Qo iG rfl ?_
       exact Zu (Zd (nP () _ _ ⟨rJ,hfr,iI,jI,kI,lI,u2_0_991,u2_1_991,u2_2_991,mI,nI,u3_0_991,u3_2_991,eG,uE,pI,gG⟩ h))
      ·refine Qm iG rfl ?_
       refine Qz ?_;refine Tr ?_;refine Tr ?_;refine Tz ?_;obtain rfl:=sinj h;exact hQ _ _ ⟨rJ,hfr,iI,jI,kI,lI,u2_0_991,u2_1_991,u2_2_991,mI,nI,u3_0_991,u3_2_991,eG,uE,pI,gG⟩
     ·rintro _ uS tT ⟨oP, hfr, lL, yE, mL, zE, u2_0_1001, u2_1_1001, u2_2_1001, cF, mB, u3_0_1001, u3_2_1001, nL, dF, oL, xL⟩ h
      refine Zr ?_;refine Bl (x:=.tmp 62) Qj.1 Tryz.isAgg28 Tryz.sizeOf28 mB u3_0_1001 fun oK pK o1003 mO=>?_;obtain ⟨uF,qI,h⟩:=Gc h;have pP:=Tv pK qI;refine Zs (x:=.tmp 64) Tryz.isAgg3 Tryz.sizeOf3 pP fun uT sP nO=>?_;obtain rfl:=Zj.1 sP;refine Bl (x:=.tmp 66) Qj.1 Tryz.isAgg28 Tryz.sizeOf28 mB u3_0_1001 fun qK sK o1008 oO=>?_;obtain ⟨vF,sI,h⟩:=Gc h;have tP:=Tv sK sI;refine Zs (x:=.tmp 68) Tryz.isAgg3 Tryz.sizeOf3 tP fun xT uP pO=>?_;obtain rfl:=Zj.1 uP;obtain ⟨lE,qO,h⟩:=Gc h;refine Qp (g:=oP) (n:=13) [] [0,1,2,3,4,5,6,7,8,9,10,11,12] rfl mixed (by kernel_rfl) trivial ?_;refine Gb (.int .i64 (zB)) rfl rfl (Zk xL) ?_;refine Gb (.int .i64 ((w64 (zB + (1:Int))))) rfl rfl (Td rfl rfl rfl) ?_;refine Gb (Gm i6 0) rfl rfl (Zc Kv cF (OB.ptr mB)) ?_;refine Tl (c:=oK) rfl rfl .plain (fun _ _ h=>⟨h.ch,fun b hb _=>h.below.block b hb⟩) mO rfl ?_;refine Gb (Qb oK (0:Int) 1) rfl rfl (Zh (α:=Int) Tryz.underlying28 Tryz.sizeOf3 rfl pK rfl qI) ?_;refine Tl (c:=.int .i64 (uF)) rfl rfl .plain (fun _ _ h=>h.ch) nO rfl ?_;refine Gb (Gm i6 0) rfl rfl (Zc Kv cF (OB.ptr mB)) ?_;refine Tl (c:=qK) rfl rfl .plain (fun _ _ h=>⟨h.ch,fun b hb _=>h.below.block b hb⟩) oO rfl ?_;refine Gb (Qb qK (1:Int) 1) rfl rfl (Zh (α:=Int) Tryz.underlying28 Tryz.sizeOf3 rfl sK rfl sI) ?_;refine Tl (c:=.int .i64 (vF)) rfl rfl .plain (fun _ _ h=>h.ch) pO rfl ?_;refine Gb (.int .i64 ((w64 (uF + vF)))) rfl rfl (Td rfl rfl rfl) ?_;refine Gb (.int .i64 (lE)) rfl rfl (Td rfl rfl (congrArg (Option.map (Value.int .i64)) qO)) ?_;refine Gb (.int .i64 (lE)) rfl rfl (Qt rfl) ?_;refine Yz fun vP yT hs=>?_;have hfr:=hfr.ext hs;have yE:=yE.ext hs;have u2_0_1001:=u2_0_1001.ext hs;have u2_1_1001:=u2_1_1001.ext hs;have u2_2_1001:=u2_2_1001.ext hs;have zE:=zE.ext hs;have u3_0_1001:=u3_0_1001.ext hs;have u3_2_1001:=u3_2_1001.ext hs;have mB:=mB.ext hs;have dF:=dF.ext hs;clear hs;exact Zb (Qx (Zd (mP (lE) _ _ ⟨vP,hfr,lL,yE,mL,zE,u2_0_1001,u2_1_1001,u2_2_1001,cF,mB,u3_0_1001,u3_2_1001,nL,dF,oL,rfl⟩ h)))
    ·clear hx
     obtain ⟨xP,hfr,aE,g8,mG,n8,u2_0_1032,u2_1_1032,u2_2_1032,bE,l8,u3_0_1032,u3_2_1032,eF,sG,lD,iE⟩:=hR;refine Zf (Za (Zo iE rfl ?_));obtain ⟨bP,jJ,h⟩:=Gc h;obtain ⟨hi1034,he1034⟩:=Hq jJ;refine Zy (Gm cC ((t5:Int).toNat * 1)) (Ts (α:=Bool) Tryz.underlying125 Tryz.sizeOf4 eF (OB.ptr sG) rfl jJ) rfl ?_;refine Ze .plain rfl (Kb (g:=xP) (Gs.dyn hi1034) Tryz.sizeOf4 rfl sG rfl (Qw.2 rfl) fun oH zT hs b1035 rst hos=>?_);clear rst hos;have hfr:=hfr.stp hs;have g8:=g8.stp hs;have u2_0_1032:=u2_0_1032.stp hs rfl;have u2_1_1032:=u2_1_1032.stp hs rfl;have u2_2_1032:=u2_2_1032.stp hs rfl;have n8:=n8.stp hs rfl;have u3_0_1032:=u3_0_1032.stp hs rfl;have u3_2_1032:=u3_2_1032.stp hs rfl;have l8:=l8.stp hs rfl;refine Zb (Zd (Zf (Za (Zo lD rfl ?_))));refine Zy (Gm p1 2) (Zc Nz aE (PT.ptr g8)) rfl ?_;have tK:=Zm (Se).1 g8;obtain ⟨sJ,kJ,h⟩:=Gc h;refine Zy (Gm (Gm p1 2) ((o0:Int).toNat * 2)) (Ts (α:=Vector UInt8 2) Tryz.underlying23 Tryz.sizeOf22 rfl (PT.ptr tK) rfl kJ) rfl ?_;have uK:=Kw tK kJ;obtain ⟨gH,lJ,h⟩:=Gc h;refine Zy (Gm (Gm (Gm p1 2) ((o0:Int).toNat * 2)) (((1:Int):Int).toNat * 1)) (Ts (α:=UInt8) Tryz.underlying22 Tryz.sizeOf5 rfl (PT.ptr uK) rfl lJ) rfl ?_;have yP:=Kw uK lJ;refine Ze .plain rfl (Gr (g:=oH) Tryz.isAgg5 Tryz.sizeOf5 rfl yP fun aU zP=>?_);obtain rfl:=Dr.1 zP;refine Zy (.int .i64 (((gH).toNat:Int))) (Ji Tryz.underlying5 Tryz.underlying3 rfl) rfl ?_;obtain ⟨yB,rO,h⟩:=Gc h;refine Zy (.int .i64 (yB)) (Td rfl rfl (congrArg (Option.map (Value.int .i64)) rO)) rfl ?_;refine Zg (.int .i64 (yB)) rfl rfl ?_;refine Zb (Zd (Zf (Za (Zo lD rfl ?_))));refine Zo iE rfl ?_;refine Zn (.int .i64 (yB)) rfl rfl ?_;refine Zn (.int .i64 (yB)) rfl rfl ?_;refine Zo lD rfl ?_;refine Zy (Gm p1 2) (Zc Nz aE (PT.ptr g8)) rfl ?_;have vK:=Zm (Se).1 g8;obtain ⟨vJ,mJ,h⟩:=Gc h;refine Zy (Gm (Gm p1 2) ((o0:Int).toNat * 2)) (Ts (α:=Vector UInt8 2) Tryz.underlying23 Tryz.sizeOf22 rfl (PT.ptr vK) rfl mJ) rfl ?_;have xK:=Kw vK mJ;obtain ⟨jH,nJ,h⟩:=Gc h;refine Zy (Gm (Gm (Gm p1 2) ((o0:Int).toNat * 2)) (((1:Int):Int).toNat * 1)) (Ts (α:=UInt8) Tryz.underlying22 Tryz.sizeOf5 rfl (PT.ptr xK) rfl nJ) rfl ?_;have bQ:=Kw xK nJ;refine Ze .plain rfl (Gr (g:=oH) Tryz.isAgg5 Tryz.sizeOf5 rfl bQ fun bU cQ=>?_);obtain rfl:=Dr.1 cQ;refine Zy (.int .i64 (((jH).toNat:Int))) (Ji Tryz.underlying5 Tryz.underlying3 rfl) rfl ?_;obtain ⟨kH,sO,h⟩:=Gc h;refine Zy (.int .i64 (kH)) (Td rfl rfl (congrArg (Option.map (Value.int .i64)) sO)) rfl ?_;obtain ⟨mE,tO,h⟩:=Gc h;refine Zy (.int .i64 (mE)) (Td rfl rfl (congrArg (Option.map (Value.int .i64)) tO)) rfl ?_;refine Gy (.int .i64 ((w64 (yB + mE)))) rfl rfl rfl rfl ?_;obtain ⟨uC,uO,h⟩:=Gc h;refine Ze .plain rfl (Zp (g:=oH) (vs:=[.int .i64 (yB),.int .i64 ((w64 (yB + mE)))]) en24 (.cons rfl (.cons rfl .nil)) (wk24  uO) fun yK vS pH hs hr=>?_);have hfr:=hfr.ext hs;have g8:=g8.ext hs;have u2_0_1032:=u2_0_1032.ext hs;have u2_1_1032:=u2_1_1032.ext hs;have u2_2_1032:=u2_2_1032.ext hs;have n8:=n8.ext hs;have u3_0_1032:=u3_0_1032.ext hs;have u3_2_1032:=u3_2_1032.ext hs;have l8:=l8.ext hs;have b1035:=b1035.ext hs;have zK:=hr;have yF:RV yK.m _ (⟨o0,0,t5,uC⟩:Zv) (.agg (Tt [[.int .i64 0],[.int .i64 0],[.int .i64 0],[.int .i64 0,.int .i64 0]] [(0,.int .i64 (o0)),(2,.int .i64 (t5)),(3,pH)]).flatten.toArray):=Qe rfl (Tb (rfl) (Tb (Zx) (Tb (rfl) (Qi (RV.cells zK)))));generalize vO:(Value.agg (Tt [[.int .i64 0],[.int .i64 0],[.int .i64 0],[.int .i64 0,.int .i64 0]] [(0,.int .i64 (o0)),(2,.int .i64 (t5)),(3,pH)]).flatten.toArray)=aL at yF;refine Zy aL (vO ▸ Wd (vs:=[(0,.int .i64 (o0)),(2,.int .i64 (t5)),(3,pH)]) [[.int .i64 0],[.int .i64 0],[.int .i64 0],[.int .i64 0,.int .i64 0]] Ih rfl rfl (.cons rfl (.cons rfl (.cons rfl .nil))) ⟨⟨_,rfl,rfl⟩,⟨⟨_,rfl,rfl⟩,⟨⟨_,rfl,To zK⟩,trivial⟩⟩⟩) rfl ?_;refine Ze .plain rfl (Gu (g:=yK) 2008 (⟨0,0,0,⟨0,0⟩⟩:Zv) Tryz.zeroValue83 (fun m w=>⟨_,(Gk Zx (Gk Zx (Gk Zx (Gk Zx Zx)))),rfl⟩) fun dQ cU nD hs b1054 cb=>?_);have hfr:=hfr.stp hs;have g8:=g8.stp hs;have u2_0_1032:=u2_0_1032.stp hs rfl;have u2_1_1032:=u2_1_1032.stp hs rfl
     have u2_2_1032:=u2_2_1032.stp hs rfl;have n8:=n8.stp hs rfl;have u3_0_1032:=u3_0_1032.stp hs rfl;have u3_2_1032:=u3_2_1032.stp hs rfl;have l8:=l8.stp hs rfl;have b1035:=b1035.stp hs rfl;have yF:=yF.stp hs;clear cb;refine Ze .plain rfl (Gn (g:=dQ) (v:=aL) Tryz.sizeOf83 rfl b1054 rfl yF fun qH dU hs b1055 cb=>?_);clear cb;have hfr:=hfr.stp hs;have g8:=g8.stp hs;have u2_0_1032:=u2_0_1032.stp hs rfl;have u2_1_1032:=u2_1_1032.stp hs rfl;have u2_2_1032:=u2_2_1032.stp hs rfl;have n8:=n8.stp hs rfl;have u3_0_1032:=u3_0_1032.stp hs rfl;have u3_2_1032:=u3_2_1032.stp hs rfl;have l8:=l8.stp hs rfl;have b1035:=b1035.stp hs rfl;refine Zb (Zd ?_);obtain ⟨yD,hx,h⟩:=Gc h;refine Tq (fun e w=>∃ (g:Gh) ,Fr gI wI g w∧e 1=p1∧PT g.m w (x0:Ya) p1∧e 2=p2∧OB 2002 g w 44 ((⟨[],[],[]⟩:BoxLoom):BoxLoom) p2∧OSF 2002 60200 0 g w 3 44 (((⟨[],[],[]⟩:BoxLoom)).Boxes) p2∧OSF 2002 60201 1 g w 3 44 (((⟨[],[],[]⟩:BoxLoom)).At) p2∧OSF 2002 60202 2 g w 83 44 (((⟨[],[],[]⟩:BoxLoom)).Shuttles) p2∧e 3=i6∧OB 2003 g w 44 (l5:BoxLoom) i6∧OSF 2003 3021 0 g w 3 44 ((l5).Boxes) i6∧OSF 2003 60302 2 g w 83 44 ((l5).Shuttles) i6∧e 4=cC∧OB 2004 g w 125 ((Hp l9 t5 true):Vector Bool 6) cC∧e 5=.int .i64 (o0)∧e 8=nD∧OB 2008 g w 83 (yD:Zv) nD) (fun Q' hQ=>?_) (fun xS eU hR=>?_)
     ·replace h := hx
      clear hx;refine Zf (Za (Zo iE rfl ?_));refine Zy (Gm i6 0) (Zc Kv bE (OB.ptr l8)) rfl ?_;refine Ze .plain rfl (Au (g:=qH) Qj.1 Tryz.isAgg28 Tryz.sizeOf28 rfl l8 u3_0_1032 fun eQ bL o1122=>?_);obtain ⟨lH,oJ,h⟩:=Gc h;refine Zy (Qb eQ (0:Int) 1) (Zh (α:=Int) Tryz.underlying28 Tryz.sizeOf3 rfl bL rfl oJ) rfl ?_;have gQ:=Tv bL oJ;refine Ze .plain rfl (Gr (g:=qH) Tryz.isAgg3 Tryz.sizeOf3 rfl gQ fun gU iQ=>?_);obtain rfl:=Zj.1 iQ;refine Gy (.bool ((decide (t5 ≥ lH)))) rfl rfl rfl rfl ?_;refine Zb (Zd ?_);rcases Zt h with ⟨jG,h⟩ | ⟨jG,h⟩
      ·refine Qo jG rfl ?_
       refine Kk (x:=.tmp 103) Qj.1 Tryz.isAgg28 Tryz.sizeOf28 l8 fun dL eL xO=>?_;obtain ⟨xF,pJ,h⟩:=Gc h;have jQ:=Tv eL pJ;refine Zs (x:=.tmp 105) Tryz.isAgg3 Tryz.sizeOf3 jQ fun iU kQ yO=>?_;obtain rfl:=Zj.1 kQ;refine Po (a0:=((⟨o0,0,t5,uC⟩:Zv):Zv)) (a1:=((⟨o0,(1:Int),t5,uC⟩:Zv):Zv)) b1055 (n:=9) [(7,(fun _ g w=>OB 2008 g w 83 ((⟨o0,(1:Int),t5,uC⟩:Zv):Zv) nD))] [0,1,2,3,4,5,6,7,8] rfl mixed (by kernel_rfl) (⟨fun _=>Ix,trivial⟩) ?_;refine Gb (.int .i64 (t5)) rfl rfl (Zk iE) ?_;refine Gb (Gm i6 0) rfl rfl (Zc Kv bE (OB.ptr l8)) ?_;refine Tl (c:=dL) rfl rfl .plain (fun _ _ h=>⟨h.1.ch,fun b hb ho=>h.1.block b hb (by rw [ho]; decide)⟩) xO rfl ?_;refine Gb (Qb dL (0:Int) 1) rfl rfl (Zh (α:=Int) Tryz.underlying28 Tryz.sizeOf3 rfl eL rfl pJ) ?_;refine Tl (c:=.int .i64 (xF)) rfl rfl .plain (fun _ _ h=>h.1.ch) yO rfl ?_;refine Gb (.int .i64 ((w64 (t5 - xF)))) rfl rfl (Td rfl rfl rfl) ?_;refine Gb (Gm nD 1) rfl rfl (Zc Ui rfl (OB.ptr b1055)) ?_;refine Wh (φ:=fun _ g w=>OB 2008 g w 83 ((⟨o0,(1:Int),t5,uC⟩:Zv):Zv) nD) rfl rfl .plain (fun g w hd=>Em (g:=g) (by rfl) (by exact rfl) Hl Tryz.sizeOf3 rfl hd.1.2 rfl (Zj.2 rfl)) (fun jU hv=>?_);clear hv;refine Gb (Gm nD 2) rfl rfl (Zc Sr rfl (OB.ptr b1055)) ?_;refine Yc fun lQ kU hall=>?_;have hs:=hall.1.1;have hfr:=hfr.stp hs;have g8:=g8.stp hs;have u2_0_1032:=u2_0_1032.stp hs rfl;have u2_1_1032:=u2_1_1032.stp hs rfl;have u2_2_1032:=u2_2_1032.stp hs rfl;have n8:=n8.stp hs rfl;have u3_0_1032:=u3_0_1032.stp hs rfl;have u3_2_1032:=u3_2_1032.stp hs rfl;have l8:=l8.stp hs rfl;have b1035:=b1035.stp hs rfl;have b1170:=(Gz (A:=fun g w=>OB 2008 g w 83 ((⟨o0,(1:Int),t5,uC⟩:Zv):Zv) nD) 7 rfl hall);clear hs hall;refine Ze .plain rfl (Kb (g:=lQ) Jg Tryz.sizeOf3 rfl b1170 rfl (Zj.2 rfl) fun mQ lU hs b1185 rst hos=>?_);clear rst hos;have hfr:=hfr.stp hs;have g8:=g8.stp hs;have u2_0_1032:=u2_0_1032.stp hs rfl;have u2_1_1032:=u2_1_1032.stp hs rfl;have u2_2_1032:=u2_2_1032.stp hs rfl;have n8:=n8.stp hs rfl;have u3_0_1032:=u3_0_1032.stp hs rfl;have u3_2_1032:=u3_2_1032.stp hs rfl;have l8:=l8.stp hs rfl;have b1035:=b1035.stp hs rfl;refine Zb ?_;obtain rfl:=sinj h;exact hQ _ _ ⟨mQ,hfr,aE,g8,mG,n8,u2_0_1032,u2_1_1032,u2_2_1032,bE,l8,u3_0_1032,u3_2_1032,eF,b1035,lD,rfl,b1185⟩
      ·refine Qm jG rfl ?_
       refine Zu ?_;obtain rfl:=sinj h;exact hQ _ _ ⟨qH,hfr,aE,g8,mG,n8,u2_0_1032,u2_1_1032,u2_2_1032,bE,l8,u3_0_1032,u3_2_1032,eF,b1035,lD,rfl,b1055⟩
     ·clear hx
      obtain ⟨sH,hfr,yL,nB,zL,oB,u2_0_1186,u2_1_1186,u2_2_1186,rF,v8,u3_0_1186,u3_2_1186,aM,vB,bM,cM,dM⟩:=hR;refine Za (Zy (Gm i6 2) (Zc Uk rF (OB.ptr v8)) rfl ?_);refine Ze .plain rfl (Au (g:=sH) Wv.1 Tryz.isAgg42 Tryz.sizeOf42 rfl v8 u3_2_1186 fun mU tH o1188=>?_);refine Ze .plain rfl (Tp (g:=sH) Tryz.isAgg83 Tryz.sizeOf83 cM dM fun nQ oQ=>?_);refine Ze .plain rfl (Gp (g:=sH) 3113 (xs:=([yD]:List Zv)) (vs:=[nQ]) Tryz.underlying42 Tryz.sizeOf83 Tryz.zeroValue83 rfl rfl (.cons rfl .nil) (RVs.cons oQ RVs.nil) rfl rfl fun pQ nU oU hs o1190 qQ hxt hfl=>?_);have hfr:=hfr.stp hs;have nB:=nB.stp hs;have u2_0_1186:=u2_0_1186.stp hs rfl;have u2_1_1186:=u2_1_1186.stp hs rfl;have u2_2_1186:=u2_2_1186.stp hs rfl;have oB:=oB.stp hs rfl;have u3_0_1186:=u3_0_1186.stp hs rfl;have v8:=v8.stp hs rfl;have vB:=vB.stp hs rfl;have tH:=tH.stp hs;have o1188:=o1188.stp hs rfl;obtain ⟨mH,zO,h⟩:=Gc h;refine Ze .plain rfl (Ha (g:=pQ) (i:=60302) Tryz.underlying42 info_83 rfl rfl o1188 tH rfl qQ zO fun rQ pU qU hs o1191 gL _=>?_);have hfr:=hfr.stp hs;have nB:=nB.stp hs;have u2_0_1186:=u2_0_1186.stp hs rfl;have u2_1_1186:=u2_1_1186.stp hs rfl;have u2_2_1186:=u2_2_1186.stp hs rfl;have oB:=oB.stp hs rfl;have u3_0_1186:=u3_0_1186.stp hs rfl;have v8:=v8.stp hs rfl;have vB:=vB.stp hs rfl;refine Zy (Gm i6 2) (Zc Uk rF (OB.ptr v8)) rfl ?_;refine Ze .plain rfl (Kb (g:=rQ) Wv Tryz.sizeOf42 rfl v8 rfl gL fun sQ rU hs b1194 rst hos=>?_);have u3_0_1186:=u3_0_1186.rest hs rst;have eM:=hos _ _ 60302 83 (mH:List Zv) (St gL) rfl o1191;clear rst hos;have hfr:=hfr.stp hs;have nB:=nB.stp hs;have u2_0_1186:=u2_0_1186.stp hs rfl;have u2_1_1186:=u2_1_1186.stp hs rfl;have u2_2_1186:=u2_2_1186.stp hs rfl;have oB:=oB.stp hs rfl;have vB:=vB.stp hs rfl;refine Zb (Qx ?_);obtain ⟨rfl,rfl⟩:=Wu h;exact hQ _ _ ⟨sQ,hfr,yL,nB,zL,oB,u2_0_1186,u2_1_1186,u2_2_1186,rF,b1194,u3_0_1186,eM,aM,vB,bM⟩
   ·clear hx
    obtain ⟨tQ,hfr,iM,jM,kM,pM,u2_0_1195,u2_1_1195,u2_2_1195,qM,rM,u3_0_1195,u3_2_1195,sM,tM,uM⟩:=hR;refine Za (Zo uM rfl ?_);refine Gy (.int .i64 ((w64 (o0 + (1:Int))))) rfl rfl rfl rfl ?_;refine Zg (.int .i64 ((w64 (o0 + (1:Int))))) rfl rfl ?_;exact Zb (Zd (cP (vC,zD,(w64 (o0 + (1:Int)))) _ _ ⟨tQ,hfr,iM,jM,kM,pM,u2_0_1195,u2_1_1195,u2_2_1195,qM,rM,u3_0_1195,u3_2_1195,sM,tM,rfl⟩ h))
 ·clear hx
  obtain ⟨iL,hfr,xG,vM,u2_0_1196,u2_1_1196,u2_2_1196,xM,bN,u3_0_1196,u3_2_1196⟩:=hR;refine Zf (Za (Ze .plain rfl (Tp (g:=iL) Tryz.isAgg44 Tryz.sizeOf44 xM bN fun uQ vQ=>?_)));refine Ze .plain rfl (Gn (g:=iL) (v:=uQ) Tryz.sizeOf44 xG vM rfl vQ fun sU tU hs b1198 cb=>?_);clear cb;have hfr:=hfr.stp hs;refine Zb (Zd (Gx ?_));obtain rfl:=sinj h;obtain ⟨ad1199,cv1199,hp1199,aP,cr1199⟩:=Qv Tryz.isAgg44 Tryz.sizeOf44 b1198;exact Fi rfl rfl ((show _=p2 from xG).trans hp1199) aP ⟨_,hfr,cr1199⟩
def f42 (x0:List (List Int)) (x1:(List Int)→Option Bool):Option (Bool):=
 (f86 x0 x1).bind fun y2=>
 some ((decide (y2 ≥ (0:Int))))
theorem en42:Enters Tryz.prog 42:=enters_of Tryz.func42 (by kernel_rfl) rfl
theorem wk42 {gI:Gh} {wI:World} {x0:List (List Int)} {x1:(List Int)→Option Bool} {up0:Value} (rp0:RV gI.m wI x0 up0) {up1:Value} (rp1:Xo Tryz.prog x1 up1 gI wI) {r:Bool} (h:f42 x0 x1=some r):Fn Tryz.prog 42 #[up0,up1] gI wI (fun _ _ v=>v=.bool (r)):=by
 unfold f42 at h;refine Tc Tryz.func42 rfl (Nat.le_of_ble_eq_true rfl) fun g0 hm hfr=>?_;have rp0:RV g0.m wI x0 up0:=hm ▸ rp0;obtain ⟨ff1,fa1,fc1,rfl,fen1,fcl1⟩:=rp1;show E _ 9 none _ _ _ _ _;refine Zf (Za (Zg (.bool false) rfl rfl ?_));refine Zb (Zd (Zf (Za (Zn up0 rfl rfl ?_))));refine Zn ((.func (.func ff1) fa1 fc1)) rfl rfl ?_;obtain ⟨y2,hy2,h⟩:=Gc h;refine Ze .plain rfl (Zp (g:=g0) (vs:=[up0,(.func (.func ff1) fa1 fc1)]) en86 (.cons rfl (.cons rfl .nil)) (wk86 rp0 (Xo.ch ⟨_,_,_,rfl,fen1,fcl1⟩ hfr.ch) hy2) fun g1 w1_ v1 hs hr=>?_);have hfr:=hfr.ext hs;subst hr;refine Gy (.bool ((decide (y2 ≥ (0:Int))))) rfl rfl rfl rfl ?_;refine Zg (.bool ((decide (y2 ≥ (0:Int))))) rfl rfl ?_;refine Zb (Zd (Gx ?_));obtain rfl:=sinj h;exact Wg rfl rfl (show _=.bool ((decide (y2 ≥ (0:Int)))) from rfl) ⟨_,hfr,rfl⟩
def f44 (x0:List (List Int)):Option ((List Int)):=
 Option.bind (α:=Int) (
  lp (σ:=Int × Int) (fun bG (t5,o0)=>
   bif (decide (o0 < ((x0).length : Int))) then
    Option.bind (α:=Int) (
     (idx x0 o0).bind fun l8=>
     bif (decide ((w64 (t5 + ((l8).length : Int))) < (0 : Int))) then
      none
     else
      some ((w64 (t5 + ((l8).length:Int))))
     ) fun n8=>
    bG (n8,(w64 (o0 + (1:Int))))
   else
    some (t5)
   ) big ((0:Int),(0:Int))
  ) fun v8=>
 (f87 v8).bind fun cG=>
 Option.bind (α:=(List Int)) (
  lp (σ:=(List Int) × Int) (fun eG (mB,l5)=>
   bif (decide (l5 < ((x0).length : Int))) then
    Option.bind (α:=(List Int)) (
     (idx x0 l5).bind fun gG=>
     (apnd 8 mB gG).bind fun iG=>
     some (iG)
     ) fun g8=>
    eG (g8,(w64 (l5 + (1:Int))))
   else
    some (mB)
   ) big (cG,(0:Int))
  ) fun l9=>
 some (l9)
theorem en44:Enters Tryz.prog 44:=enters_of Tryz.func44 (by kernel_rfl) rfl
theorem wk44 {gI:Gh} {wI:World} {x0:List (List Int)} {up0:Value} (rp0:RV gI.m wI x0 up0) {r:(List Int)} (h:f44 x0=some r):Fn Tryz.prog 44 #[up0] gI wI (fun m w v=>RV m w (r) v):=by
 unfold f44 at h;refine Tc Tryz.func44 rfl (Nat.le_of_ble_eq_true rfl) fun g0 hm hfr=>?_;have rp0:RV g0.m wI x0 up0:=hm ▸ rp0;show E _ 36 none _ _ _ _ _;refine Zf (Za (Zg (.slice none 0 0) rfl rfl ?_));refine Zb (Zd (Zf (Za (Zg (.int .i64 (0)) rfl rfl ?_))));refine Zb (Zd ?_);obtain ⟨v8,hx,h⟩:=Gc h;refine Tq (fun e w=>∃ (g:Gh) ,Fr gI wI g w∧e 0=up0∧RV g.m w (x0:List (List Int)) up0∧e 3=.int .i64 (v8)) (fun Q' hQ=>?_) (fun tH bI hR=>?_)
 ·replace h := hx
  clear hx;refine Zf (Za (Zn up0 rfl rfl ?_));refine Zy (.int .i64 ((x0).length:Int)) (Qk Tryz.underlying35 rfl rp0) rfl ?_;refine Zn (.int .i64 (0)) rfl rfl ?_;refine Zb (Zd (Zr ?_));refine Je h (fun (s:Int × Int) e w=>∃ (g:Gh) ,Fr gI wI g w∧e 0=up0∧RV g.m w (x0:List (List Int)) up0∧e 3=.int .i64 (s.1)∧e 9=up0∧RV g.m w (x0:List (List Int)) up0∧e 10=.int .i64 (((x0).length:Int))∧e 11=.int .i64 (s.2)) ⟨g0,hfr,rfl,rp0,rfl,rfl,rp0,rfl,rfl⟩ (fun X13 bG sG=>?_);rintro ⟨t5,o0⟩ uH dI ⟨aE,hfr,vC,bD,cD,lD,nB,oB,aB⟩ h;refine Zf (Za (Gy (.bool ((decide (o0 < ((x0).length:Int))))) aB oB rfl rfl ?_));refine Zb (Zd (Zf ?_));rcases Zt h with ⟨zB,h⟩ | ⟨zB,h⟩
  ·refine Qo zB rfl ?_
   refine Zu (Zd ?_);obtain ⟨n8,hx,h⟩:=Gc h;refine Tq (fun e w=>∃ (g:Gh) ,Fr gI wI g w∧e 0=up0∧RV g.m w (x0:List (List Int)) up0∧e 3=.int .i64 (n8)∧e 9=up0∧RV g.m w (x0:List (List Int)) up0∧e 10=.int .i64 (((x0).length:Int))∧e 11=.int .i64 (o0)) (fun Q' hQ=>?_) (fun xH iI hR=>?_)
   ·replace h := hx
    clear hx;refine Zr ?_;refine Zf (Za ?_);obtain ⟨l8,hy20,h⟩:=Gc h;refine Zy (Qb up0 o0 1) (Zh (α:=List Int) Tryz.underlying35 Tryz.sizeOf28 lD nB aB hy20) rfl ?_;have aH:=Tv nB hy20;refine Ze .plain rfl (Gr (g:=aE) Tryz.isAgg28 Tryz.sizeOf28 rfl aH fun jG cH=>?_);refine Zg jG rfl rfl ?_;refine Zb (Zd (Zf (Za (Zo cD rfl ?_))));refine Zn jG rfl rfl ?_;refine Zy (.int .i64 ((l8).length:Int)) (Qk Tryz.underlying28 rfl cH) rfl ?_;refine Gy (.int .i64 ((w64 (t5 + ((l8).length:Int))))) rfl rfl rfl rfl ?_;refine Zg (.int .i64 ((w64 (t5 + ((l8).length:Int))))) rfl rfl ?_;refine Zb (Zd (Zf (Za (Zn (.int .i64 ((w64 (t5 + ((l8).length:Int))))) rfl rfl ?_))));refine Zy (.bool ((decide ((w64 (t5 + ((l8).length:Int))) < (0:Int))))) (Td rfl rfl rfl) rfl ?_;refine Zb (Zd ?_);rcases Zt h with ⟨cC,h⟩ | ⟨cC,h⟩
    ·refine Qo cC rfl ?_
     refine Za ?_
     cases h
    ·refine Qm cC rfl ?_
     refine Zu (Qx ?_);obtain rfl:=sinj h;exact hQ _ _ ⟨aE,hfr,vC,bD,rfl,lD,nB,oB,aB⟩
   ·clear hx
    obtain ⟨gH,hfr,xE,yE,zE,cF,dF,bE,iE⟩:=hR;refine Za (Gy (.int .i64 ((w64 (o0 + (1:Int))))) iE rfl rfl rfl ?_);refine Zn (.int .i64 ((w64 (o0 + (1:Int))))) rfl rfl ?_;exact Zb (Zd (sG (n8,(w64 (o0 + (1:Int)))) _ _ ⟨gH,hfr,xE,yE,zE,cF,dF,bE,rfl⟩ h))
  ·refine Qm zB rfl ?_
   refine Qz ?_;refine Tr ?_;refine Tr ?_;refine Tz ?_;obtain rfl:=sinj h;exact hQ _ _ ⟨aE,hfr,vC,bD,cD⟩
 ·clear hx
  obtain ⟨jH,hfr,eF,n9,rF⟩:=hR;refine Zf (Za (Zo rF rfl ?_));obtain ⟨cG,xG,h⟩:=Gc h;refine Ze .plain rfl (Vi (g:=jH) (vs:=[.slice none 0 0,.int .i64 (v8)]) en87 (.cons rfl (.cons rfl .nil)) (wk87 (iO:=4024) xG) fun kH jI kG hs m26=>?_);obtain ⟨o26,lH⟩:=m26;have hfr:=hfr.ext hs;have n9:=n9.ext hs;refine Zg kG rfl rfl ?_;refine Zb (Zd ?_);obtain ⟨l9,hx,h⟩:=Gc h;refine Tq (fun e w=>∃ (g:Gh) (v6:Value),Fr gI wI g w∧e 6=v6∧RV g.m w (l9:List Int) v6∧OS 4024 g w 3 (l9:List Int) v6) (fun Q' hQ=>?_) (fun yH kI hR=>?_)
  ·replace h := hx
   clear hx;refine Zf (Za (Zo eF rfl ?_));refine Zy (.int .i64 ((x0).length:Int)) (Qk Tryz.underlying35 rfl n9) rfl ?_;refine Zn (.int .i64 (0)) rfl rfl ?_;refine Zb (Zd (Zr ?_));refine Je h (fun (s:(List Int) × Int) e w=>∃ (g:Gh) (v6:Value),Fr gI wI g w∧e 6=v6∧RV g.m w (s.1:List Int) v6∧OS 4024 g w 3 (s.1:List Int) v6∧e 25=up0∧RV g.m w (x0:List (List Int)) up0∧e 26=.int .i64 (((x0).length:Int))∧e 27=.int .i64 (s.2)) ⟨kH,(kG),hfr,rfl,lH,o26,rfl,n9,rfl,rfl⟩ (fun X42 eG yG=>?_);rintro ⟨mB,l5⟩ zH lI ⟨lE,sF,hfr,nD,oD,yD,vB,i6,yB,lB⟩ h;refine Zf (Za (Gy (.bool ((decide (l5 < ((x0).length:Int))))) lB yB rfl rfl ?_));refine Zb (Zd (Zf ?_));rcases Zt h with ⟨uC,h⟩ | ⟨uC,h⟩
   ·refine Qo uC rfl ?_
    refine Zu (Zd ?_);obtain ⟨g8,hx,h⟩:=Gc h;refine Tq (fun e w=>∃ (g:Gh) (v6:Value),Fr gI wI g w∧e 6=v6∧RV g.m w (g8:List Int) v6∧OS 4024 g w 3 (g8:List Int) v6∧e 25=up0∧RV g.m w (x0:List (List Int)) up0∧e 26=.int .i64 (((x0).length:Int))∧e 27=.int .i64 (l5)) (fun Q' hQ=>?_) (fun aI mI hR=>?_)
    ·replace h := hx
     clear hx;refine Zr ?_;refine Zf (Za ?_);obtain ⟨gG,mE,h⟩:=Gc h;refine Zy (Qb up0 l5 1) (Zh (α:=List Int) Tryz.underlying35 Tryz.sizeOf28 vB i6 lB mE) rfl ?_;have mH:=Tv i6 mE;refine Ze .plain rfl (Gr (g:=lE) Tryz.isAgg28 Tryz.sizeOf28 rfl mH fun lG nH=>?_);refine Zg lG rfl rfl ?_;refine Zb (Zd (Za (Zo nD rfl ?_)));refine Zn lG rfl rfl ?_;obtain ⟨iG,zG,h⟩:=Gc h;refine Ze .plain rfl (Ha (g:=lE) (i:=4024) Tryz.underlying28 Ua rfl rfl yD oD rfl nH zG fun oH nI mG hs o53 pH _=>?_);have hfr:=hfr.stp hs;have i6:=i6.stp hs;refine Zg mG rfl rfl ?_;refine Zb (Qx ?_);obtain rfl:=sinj h;exact hQ _ _ ⟨oH,(mG),hfr,rfl,pH,o53,vB,i6,yB,lB⟩
    ·clear hx
     obtain ⟨qH,tF,hfr,uF,vF,xF,oE,rE,uE,vE⟩:=hR;refine Za (Gy (.int .i64 ((w64 (l5 + (1:Int))))) vE rfl rfl rfl ?_);refine Zn (.int .i64 ((w64 (l5 + (1:Int))))) rfl rfl ?_;exact Zb (Zd (yG (g8,(w64 (l5 + (1:Int)))) _ _ ⟨qH,(tF),hfr,uF,vF,xF,oE,rE,uE,rfl⟩ h))
   ·refine Qm uC rfl ?_
    refine Qz ?_;refine Tr ?_;refine Tr ?_;refine Tz ?_;obtain rfl:=sinj h;exact hQ _ _ ⟨lE,(sF),hfr,nD,oD,yD⟩
  ·clear hx
   obtain ⟨pI,zD,hfr,yF,aG,sH⟩:=hR;refine Zf (Za (Zo yF rfl ?_));refine Zg zD rfl rfl ?_;refine Zb (Zd (Gx ?_));obtain rfl:=sinj h;exact Wg rfl rfl (show _=zD from rfl) ⟨_,hfr,aG⟩
def f48 (x0:Gi):Option ((List Int)):=
 (Vc (1:Int) ((((x0).LoomMill).Widths).length:Int)).bind fun y5=>
 (f94 ((w64 (y5 - (1:Int))))).bind fun y7=>
 some (y7)
theorem en48:Enters Tryz.prog 48:=enters_of Tryz.func48 (by kernel_rfl) rfl
theorem wk48 {gI:Gh} {wI:World} {x0:Gi} {up0:Value} (rp0:RV gI.m wI x0 up0) {r:(List Int)} (h:f48 x0=some r):Fn Tryz.prog 48 #[up0] gI wI (fun m w v=>RV m w (r) v):=by
 unfold f48 at h;refine Tc Tryz.func48 rfl (Nat.le_of_ble_eq_true rfl) fun g0 hm hfr=>?_;have rp0:RV g0.m wI x0 up0:=hm ▸ rp0;show E _ 10 none _ _ _ _ _;refine Zf (Za (Ze .plain rfl (Wc (g:=g0) rfl rp0 fun g1 w1 p1 hs q1=>?_)));have hfr:=hfr.ext hs;refine Zg (.slice none 0 0) rfl rfl ?_;refine Zb (Zd (Zf (Za (Zy (Gm p1 0) (Zc Ro rfl (PT.ptr q1)) rfl ?_))));have q2:=Zm (Jx).1 q1;refine Zy (Gm (Gm p1 0) 0) (Zc Ul rfl (PT.ptr q2)) rfl ?_;have q3:=Zm (Wx).1 q2;refine Ze .plain rfl (Gr (g:=g1) Tryz.isAgg28 Tryz.sizeOf28 rfl q3 fun v4 r4=>?_);refine Zy (.int .i64 ((((x0).LoomMill).Widths).length:Int)) (Qk Tryz.underlying28 rfl r4) rfl ?_;obtain ⟨y5,hy5,h⟩:=Gc h;refine Zy (.int .i64 (y5)) (Td rfl rfl (congrArg (Option.map (Value.int .i64)) hy5)) rfl ?_;refine Gy (.int .i64 ((w64 (y5 - (1:Int))))) rfl rfl rfl rfl ?_;obtain ⟨y7,o0,h⟩:=Gc h;refine Ze .plain rfl (Zp (g:=g1) (vs:=[.int .i64 ((w64 (y5 - (1:Int))))]) en94 (.cons rfl .nil) (wk94  o0) fun g6 w6_ v6 hs hr=>?_);have hfr:=hfr.ext hs;have r6:=hr;refine Zg v6 rfl rfl ?_;refine Zb (Zd (Gx ?_));obtain rfl:=sinj h;exact Wg rfl rfl (show _=v6 from rfl) ⟨_,hfr,r6⟩
def f50 (x0:Int) (z0:List Bool) (z1:Gi):Option (Bool):=
 (f51 z1).bind fun y4=>
 (idx z0 (Qy .andNot y4 x0)).bind fun y5=>
 some (y5)
theorem en50:Enters Tryz.prog 50:=enters_of Tryz.func50 (by kernel_rfl) rfl
theorem wk50 {gI:Gh} {wI:World} {x0:Int} {z0:List Bool} {z1:Gi} {pf0:Value} (qf0:PT gI.m wI z0 pf0) {pf1:Value} (qf1:PT gI.m wI z1 pf1) {r:Bool} (h:f50 x0 z0 z1=some r):Fn Tryz.prog 50 #[.int .i64 (x0),pf0,pf1] gI wI (fun _ _ v=>v=.bool (r)):=by
 unfold f50 at h;refine Tc Tryz.func50 rfl (Nat.le_of_ble_eq_true rfl) fun g0 hm hfr=>?_;have qf0:PT g0.m wI z0 pf0:=hm ▸ qf0;have qf1:PT g0.m wI z1 pf1:=hm ▸ qf1;show E _ 12 none _ _ _ _ _;refine Zf (Za (Zg (.bool false) rfl rfl ?_));refine Zb (Zd (Zf (Zs (x:=.tmp 1) Tryz.isAgg137 Tryz.sizeOf137 qf0 fun v1 r1 hl1=>?_)));refine Zs (x:=.tmp 2) Tryz.isAgg134 Tryz.sizeOf134 qf1 fun v2 r2 hl2=>?_;obtain ⟨y4,o0,h⟩:=Gc h;obtain ⟨y5,hy5,h⟩:=Gc h;have q6:=Tv r1 hy5;refine Zs (x:=.tmp 10) Tryz.isAgg4 Tryz.sizeOf4 q6 fun v7 r7 hl7=>?_;obtain rfl:=Qw.1 r7;refine Qp (g:=g0) (n:=8) [(2,(fun v g w=>v=.int .i64 (y4)))] [0,1,2,3,4,5,6,7] rfl mixed (by kernel_rfl) (⟨fun _=>Wo _,trivial⟩) ?_;refine Tl (c:=v1) rfl rfl .plain (fun _ _ h=>h.ch) hl1 rfl ?_;refine Tl (c:=v2) rfl rfl .plain (fun _ _ h=>h.ch) hl2 rfl ?_;refine Wh (φ:=fun v g w=>v=.int .i64 (y4)) rfl rfl .plain (fun g w hd=>Zp (g:=g) (vs:=[v2]) en51 (.cons rfl .nil) (wk51 (r2.ext hd.1) o0) fun g' w' v hs hr=>⟨g',hs,hr⟩) (fun v3 hv=>?_);obtain ⟨_,_,_,rfl⟩:=hv;refine Gb (.int .i64 (x0)) rfl rfl (Zk rfl) ?_;refine Gb (.int .i64 ((Qy .andNot y4 x0))) rfl rfl (Td rfl rfl rfl) ?_;refine Gb (Qb v1 (Qy .andNot y4 x0) 1) rfl rfl (Zh (α:=Bool) Tryz.underlying137 Tryz.sizeOf4 rfl r1 rfl hy5) ?_;refine Tl (c:=.bool (y5)) rfl rfl .plain (fun _ _ h=>h.ch) hl7 rfl ?_;refine Gb (.bool (y5)) rfl rfl (Qt rfl) ?_;refine Yz fun g8 w8 hs=>?_;have hfr:=hfr.ext hs;clear hs;refine Zb (Zd (Gx ?_));obtain rfl:=sinj h;exact Wg rfl rfl (show _=.bool (y5) from rfl) ⟨_,hfr,rfl⟩
def f66 (x0:Int) (x1:Int):Option (Int):=
 (f110 x0).bind fun y2=>
 (f110 x1).bind fun y4=>
 jn (σ:=Unit) (fun _=>
  jn (σ:=Unit) (fun _=>
   jn (σ:=Unit) (fun _=>
    jn (σ:=Unit) (fun _=>
     some ((0:Int))
     ) fun mB=>
    bif (decide (x0 > x1)) then
     some ((1:Int))
    else
     mB ()
    ) fun nB=>
   bif (decide (x0 < x1)) then
    some ((-1:Int))
   else
    nB ()
   ) fun k18=>
  bif y4 then
   some ((1:Int))
  else
   k18 ()
  ) fun oB=>
 bif y2 then
  jn (σ:=Unit) (fun _=>
   some ((-1:Int))
   ) fun vB=>
  bif y4 then
   some ((0:Int))
  else
   vB ()
 else
  oB ()
theorem en66:Enters Tryz.prog 66:=enters_of Tryz.func66 (by kernel_rfl) rfl
theorem wk66 {gI:Gh} {wI:World} {x0:Int} {x1:Int}  {r:Int} (h:f66 x0 x1=some r):Fn Tryz.prog 66 #[.int .i64 (x0),.int .i64 (x1)] gI wI (fun _ _ v=>v=.int .i64 (r)):=by
 unfold f66 at h;refine Tc Tryz.func66 rfl (Nat.le_of_ble_eq_true rfl) fun g0 hm hfr=>?_;show E _ 20 none _ _ _ _ _;refine Zf (Za (Zg (.int .i64 (0)) rfl rfl ?_));refine Zb (Zd (Zf (Za (Zn (.int .i64 (x0)) rfl rfl ?_))));obtain ⟨y2,hy2,h⟩:=Gc h;refine Ze .plain rfl (Zp (g:=g0) (vs:=[.int .i64 (x0)]) en110 (.cons rfl .nil) (wk110  hy2) fun g1 w1_ v1 hs hr=>?_);have hfr:=hfr.ext hs;subst hr;refine Zg (.bool (y2)) rfl rfl ?_;refine Zb (Zd (Zf (Za (Zn (.int .i64 (x1)) rfl rfl ?_))));obtain ⟨y4,bD,h⟩:=Gc h;refine Ze .plain rfl (Zp (g:=g1) (vs:=[.int .i64 (x1)]) en110 (.cons rfl .nil) (wk110  bD) fun g3 w3_ v3 hs hr=>?_);have hfr:=hfr.ext hs;subst hr;refine Zg (.bool (y4)) rfl rfl ?_;refine Zb (Zd (Zq h (fun (s:Unit) e w=>∃ (g:Gh) ,Fr gI wI g w∧e 0=.int .i64 (x0)∧e 1=.int .i64 (x1)∧e 6=.bool (y4)) (fun X10 oB yB h=>?_) ?_))
 ·refine Zf (Za (Zn (.bool (y2)) rfl rfl ?_))
  refine Zb (Zd ?_);rcases Zt h with ⟨o0,h⟩ | ⟨o0,h⟩
  ·refine Qo o0 rfl ?_
   refine Zq h (fun (s:Unit) e w=>∃ (g:Gh) ,Fr gI wI g w) (fun X13 vB zB h=>?_) ?_
   ·refine Zf (Za (Zn (.bool (y4)) rfl rfl ?_))
    refine Zb (Zd ?_);rcases Zt h with ⟨l5,h⟩ | ⟨l5,h⟩
    ·refine Qo l5 rfl ?_
     refine Zf (Za (Zg (.int .i64 (0)) rfl rfl ?_));refine Zb (Zd (Gx (Tm ?_)));refine Tm ?_;obtain rfl:=sinj h;exact Wg rfl rfl (show _=.int .i64 (0) from rfl) ⟨_,hfr,rfl⟩
    ·refine Qm l5 rfl ?_
     exact Zu (Zd (zB () _ _ ⟨g3,hfr⟩ h))
   ·rintro _ oD w15 ⟨iE, hfr⟩ h
    refine Zf (Za (Zg (.int .i64 (-1)) rfl rfl ?_));refine Zb (Zd (Gx (Tm ?_)));obtain rfl:=sinj h;exact Wg rfl rfl (show _=.int .i64 (-1) from rfl) ⟨_,hfr,rfl⟩
  ·refine Qm o0 rfl ?_
   exact Zu (Zd (yB () _ _ ⟨g3,hfr,rfl,rfl,rfl⟩ h))
 ·rintro _ yD lE ⟨cD, hfr, v8, l9, n9⟩ h
  refine Zq h (fun (s:Unit) e w=>∃ (g:Gh) ,Fr gI wI g w∧e 0=.int .i64 (x0)∧e 1=.int .i64 (x1)) (fun X18 k18 cC h=>?_) ?_
  ·refine Zf (Za (Zo n9 rfl ?_))
   refine Zb (Zd ?_);rcases Zt h with ⟨t5,h⟩ | ⟨t5,h⟩
   ·refine Qo t5 rfl ?_
    refine Zf (Za (Zg (.int .i64 (1)) rfl rfl ?_));refine Zb (Zd (Gx (Tm ?_)));obtain rfl:=sinj h;exact Wg rfl rfl (show _=.int .i64 (1) from rfl) ⟨_,hfr,rfl⟩
   ·refine Qm t5 rfl ?_
    exact Zu (Zd (cC () _ _ ⟨cD,hfr,v8,l9⟩ h))
  ·rintro _ zD mE ⟨lD, hfr, l8, n8⟩ h
   refine Zq h (fun (s:Unit) e w=>∃ (g:Gh) ,Fr gI wI g w∧e 0=.int .i64 (x0)∧e 1=.int .i64 (x1)) (fun X22 nB uC h=>?_) ?_
   ·refine Zf (Za (Zo l8 rfl ?_))
    refine Zo n8 rfl ?_;refine Gy (.bool ((decide (x0 < x1)))) rfl rfl rfl rfl ?_;refine Zb (Zd ?_);rcases Zt h with ⟨i6,h⟩ | ⟨i6,h⟩
    ·refine Qo i6 rfl ?_
     refine Zf (Za (Zg (.int .i64 (-1)) rfl rfl ?_));refine Zb (Zd (Gx (Tm ?_)));obtain rfl:=sinj h;exact Wg rfl rfl (show _=.int .i64 (-1) from rfl) ⟨_,hfr,rfl⟩
    ·refine Qm i6 rfl ?_
     exact Zu (Zd (uC () _ _ ⟨lD,hfr,l8,n8⟩ h))
   ·rintro _ aE oE ⟨nD, hfr, aB, lB⟩ h
    refine Zq h (fun (s:Unit) e w=>∃ (g:Gh) ,Fr gI wI g w) (fun X26 mB vC h=>?_) ?_
    ·refine Zf (Za (Zo aB rfl ?_))
     refine Zo lB rfl ?_;refine Gy (.bool ((decide (x0 > x1)))) rfl rfl rfl rfl ?_;refine Zb (Zd ?_);rcases Zt h with ⟨g8,h⟩ | ⟨g8,h⟩
     ·refine Qo g8 rfl ?_
      refine Zf (Za (Zg (.int .i64 (1)) rfl rfl ?_));refine Zb (Zd (Gx (Tm ?_)));obtain rfl:=sinj h;exact Wg rfl rfl (show _=.int .i64 (1) from rfl) ⟨_,hfr,rfl⟩
     ·refine Qm g8 rfl ?_
      exact Zu (Zd (vC () _ _ ⟨nD,hfr⟩ h))
    ·rintro _ bE rE ⟨uE, hfr⟩ h
     refine Zf (Za (Zg (.int .i64 (0)) rfl rfl ?_));refine Zb (Zd (Gx ?_));obtain rfl:=sinj h;exact Wg rfl rfl (show _=.int .i64 (0) from rfl) ⟨_,hfr,rfl⟩
def f72 (x0:List Int) (x1:Int→Option Bool):Option (Bool):=
 (f117 x0 x1).bind fun y2=>
 some ((decide (y2 ≥ (0:Int))))
theorem en72:Enters Tryz.prog 72:=enters_of Tryz.func72 (by kernel_rfl) rfl
theorem wk72 {gI:Gh} {wI:World} {x0:List Int} {x1:Int→Option Bool} {up0:Value} (rp0:RV gI.m wI x0 up0) {up1:Value} (rp1:Xo Tryz.prog x1 up1 gI wI) {r:Bool} (h:f72 x0 x1=some r):Fn Tryz.prog 72 #[up0,up1] gI wI (fun _ _ v=>v=.bool (r)):=by
 unfold f72 at h;refine Tc Tryz.func72 rfl (Nat.le_of_ble_eq_true rfl) fun g0 hm hfr=>?_;have rp0:RV g0.m wI x0 up0:=hm ▸ rp0;obtain ⟨ff1,fa1,fc1,rfl,fen1,fcl1⟩:=rp1;show E _ 9 none _ _ _ _ _;refine Zf (Za (Zg (.bool false) rfl rfl ?_));refine Zb (Zd (Zf (Za (Zn up0 rfl rfl ?_))));refine Zn ((.func (.func ff1) fa1 fc1)) rfl rfl ?_;obtain ⟨y2,hy2,h⟩:=Gc h;refine Ze .plain rfl (Zp (g:=g0) (vs:=[up0,(.func (.func ff1) fa1 fc1)]) en117 (.cons rfl (.cons rfl .nil)) (wk117 rp0 (Xo.ch ⟨_,_,_,rfl,fen1,fcl1⟩ hfr.ch) hy2) fun g1 w1_ v1 hs hr=>?_);have hfr:=hfr.ext hs;subst hr;refine Gy (.bool ((decide (y2 ≥ (0:Int))))) rfl rfl rfl rfl ?_;refine Zg (.bool ((decide (y2 ≥ (0:Int))))) rfl rfl ?_;refine Zb (Zd (Gx ?_));obtain rfl:=sinj h;exact Wg rfl rfl (show _=.bool ((decide (y2 ≥ (0:Int)))) from rfl) ⟨_,hfr,rfl⟩
def f82 (x0:List Zv) (x1:Zv→Option Bool):Option (Bool):=
 (f129 x0 x1).bind fun y2=>
 some ((decide (y2 ≥ (0:Int))))
theorem en82:Enters Tryz.prog 82:=enters_of Tryz.func82 (by kernel_rfl) rfl
theorem wk82 {gI:Gh} {wI:World} {x0:List Zv} {x1:Zv→Option Bool} {up0:Value} (rp0:RV gI.m wI x0 up0) {up1:Value} (rp1:Xo Tryz.prog x1 up1 gI wI) {r:Bool} (h:f82 x0 x1=some r):Fn Tryz.prog 82 #[up0,up1] gI wI (fun _ _ v=>v=.bool (r)):=by
 unfold f82 at h;refine Tc Tryz.func82 rfl (Nat.le_of_ble_eq_true rfl) fun g0 hm hfr=>?_;have rp0:RV g0.m wI x0 up0:=hm ▸ rp0;obtain ⟨ff1,fa1,fc1,rfl,fen1,fcl1⟩:=rp1;show E _ 9 none _ _ _ _ _;refine Zf (Za (Zg (.bool false) rfl rfl ?_));refine Zb (Zd (Zf (Za (Zn up0 rfl rfl ?_))));refine Zn ((.func (.func ff1) fa1 fc1)) rfl rfl ?_;obtain ⟨y2,hy2,h⟩:=Gc h;refine Ze .plain rfl (Zp (g:=g0) (vs:=[up0,(.func (.func ff1) fa1 fc1)]) en129 (.cons rfl (.cons rfl .nil)) (wk129 rp0 (Xo.ch ⟨_,_,_,rfl,fen1,fcl1⟩ hfr.ch) hy2) fun g1 w1_ v1 hs hr=>?_);have hfr:=hfr.ext hs;subst hr;refine Gy (.bool ((decide (y2 ≥ (0:Int))))) rfl rfl rfl rfl ?_;refine Zg (.bool ((decide (y2 ≥ (0:Int))))) rfl rfl ?_;refine Zb (Zd (Gx ?_));obtain rfl:=sinj h;exact Wg rfl rfl (show _=.bool ((decide (y2 ≥ (0:Int)))) from rfl) ⟨_,hfr,rfl⟩
def f83 (x0:Int) (x1:Int) (x2:List Int):Option (Bool):=
 (f72 x2 ((fun a0=>f130 a0 x0 x1))).bind fun y4=>
 some ((!y4))
theorem en83:Enters Tryz.prog 83:=enters_of Tryz.func83 (by kernel_rfl) rfl
theorem wk83 {gI:Gh} {wI:World} {x0:Int} {x1:Int} {x2:List Int} {up2:Value} (rp2:RV gI.m wI x2 up2) {r:Bool} (h:f83 x0 x1 x2=some r):Fn Tryz.prog 83 #[.int .i64 (x0),.int .i64 (x1),up2] gI wI (fun _ _ v=>v=.bool (r)):=by
 unfold f83 at h;refine Tc Tryz.func83 rfl (Nat.le_of_ble_eq_true rfl) fun g0 hm hfr=>?_;have rp2:RV g0.m wI x2 up2:=hm ▸ rp2;show E _ 11 none _ _ _ _ _;refine Zf (Za (Ze .plain rfl (Wc (g:=g0) rfl (Zj.2 rfl) fun g1 w1 p1 hs q1=>?_)));have hfr:=hfr.ext hs;have rp2:=rp2.ext hs;refine Ze .plain rfl (Wc (g:=g1) rfl (Zj.2 rfl) fun g2 w2 p2 hs q2=>?_);have hfr:=hfr.ext hs;have rp2:=rp2.ext hs;have q1:=q1.ext hs;refine Zg (.bool false) rfl rfl ?_;refine Zb (Zd (Zf (Za (Zn up2 rfl rfl ?_))));refine Zy ((.func (.func 130) #[] #[p1,p2])) (Ja (Ci (show ev _ _=p1 from rfl) (show ev _ _=p2 from rfl))) rfl ?_;obtain ⟨y4,o0,h⟩:=Gc h;refine Ze .plain rfl (Zp (g:=g2) (vs:=[up2,(.func (.func 130) #[] #[p1,p2])]) en72 (.cons rfl (.cons rfl .nil)) (wk72 rp2 ⟨130,#[],#[p1,p2],rfl,en130,fun g' w' hch a0 b0 r hu0 hr=>by obtain rfl:=Zj.1 hu0; exact Fn.mono (wk130  (q1.ch hch) (q2.ch hch) hr) fun _ _ _ h=>Qw.2 h⟩ o0) fun g3 w3_ v3 hs hr=>?_);have hfr:=hfr.ext hs;subst hr;refine Zy (.bool (!y4)) (Hy rfl) rfl ?_;refine Zg (.bool (!y4)) rfl rfl ?_;refine Zb (Zd (Gx ?_));obtain rfl:=sinj h;exact Wg rfl rfl (show _=.bool (!y4) from rfl) ⟨_,hfr,rfl⟩
def f90 (x0:Int) (x1:Int) (x2:List Int):Option (Bool):=
 (f72 x2 ((fun a0=>f134 a0 x0 x1))).bind fun y4=>
 some ((!y4))
theorem en90:Enters Tryz.prog 90:=enters_of Tryz.func90 (by kernel_rfl) rfl
theorem wk90 {gI:Gh} {wI:World} {x0:Int} {x1:Int} {x2:List Int} {up2:Value} (rp2:RV gI.m wI x2 up2) {r:Bool} (h:f90 x0 x1 x2=some r):Fn Tryz.prog 90 #[.int .i64 (x0),.int .i64 (x1),up2] gI wI (fun _ _ v=>v=.bool (r)):=by
 unfold f90 at h;refine Tc Tryz.func90 rfl (Nat.le_of_ble_eq_true rfl) fun g0 hm hfr=>?_;have rp2:RV g0.m wI x2 up2:=hm ▸ rp2;show E _ 11 none _ _ _ _ _;refine Zf (Za (Ze .plain rfl (Wc (g:=g0) rfl (Zj.2 rfl) fun g1 w1 p1 hs q1=>?_)));have hfr:=hfr.ext hs;have rp2:=rp2.ext hs;refine Ze .plain rfl (Wc (g:=g1) rfl (Zj.2 rfl) fun g2 w2 p2 hs q2=>?_);have hfr:=hfr.ext hs;have rp2:=rp2.ext hs;have q1:=q1.ext hs;refine Zg (.bool false) rfl rfl ?_;refine Zb (Zd (Zf (Za (Zn up2 rfl rfl ?_))));refine Zy ((.func (.func 134) #[] #[p1,p2])) (Ja (Ci (show ev _ _=p1 from rfl) (show ev _ _=p2 from rfl))) rfl ?_;obtain ⟨y4,o0,h⟩:=Gc h;refine Ze .plain rfl (Zp (g:=g2) (vs:=[up2,(.func (.func 134) #[] #[p1,p2])]) en72 (.cons rfl (.cons rfl .nil)) (wk72 rp2 ⟨134,#[],#[p1,p2],rfl,en134,fun g' w' hch a0 b0 r hu0 hr=>by obtain rfl:=Zj.1 hu0; exact Fn.mono (wk134  (q1.ch hch) (q2.ch hch) hr) fun _ _ _ h=>Qw.2 h⟩ o0) fun g3 w3_ v3 hs hr=>?_);have hfr:=hfr.ext hs;subst hr;refine Zy (.bool (!y4)) (Hy rfl) rfl ?_;refine Zg (.bool (!y4)) rfl rfl ?_;refine Zb (Zd (Gx ?_));obtain rfl:=sinj h;exact Wg rfl rfl (show _=.bool (!y4) from rfl) ⟨_,hfr,rfl⟩
def f91 (x0:List Gf) (x1:Gf→Option Bool):Option (Bool):=
 (f135 x0 x1).bind fun y2=>
 some ((decide (y2 ≥ (0:Int))))
theorem en91:Enters Tryz.prog 91:=enters_of Tryz.func91 (by kernel_rfl) rfl
theorem wk91 {gI:Gh} {wI:World} {x0:List Gf} {x1:Gf→Option Bool} {up0:Value} (rp0:RV gI.m wI x0 up0) {up1:Value} (rp1:Xo Tryz.prog x1 up1 gI wI) {r:Bool} (h:f91 x0 x1=some r):Fn Tryz.prog 91 #[up0,up1] gI wI (fun _ _ v=>v=.bool (r)):=by
 unfold f91 at h;refine Tc Tryz.func91 rfl (Nat.le_of_ble_eq_true rfl) fun g0 hm hfr=>?_;have rp0:RV g0.m wI x0 up0:=hm ▸ rp0;obtain ⟨ff1,fa1,fc1,rfl,fen1,fcl1⟩:=rp1;show E _ 9 none _ _ _ _ _;refine Zf (Za (Zg (.bool false) rfl rfl ?_));refine Zb (Zd (Zf (Za (Zn up0 rfl rfl ?_))));refine Zn ((.func (.func ff1) fa1 fc1)) rfl rfl ?_;obtain ⟨y2,hy2,h⟩:=Gc h;refine Ze .plain rfl (Zp (g:=g0) (vs:=[up0,(.func (.func ff1) fa1 fc1)]) en135 (.cons rfl (.cons rfl .nil)) (wk135 rp0 (Xo.ch ⟨_,_,_,rfl,fen1,fcl1⟩ hfr.ch) hy2) fun g1 w1_ v1 hs hr=>?_);have hfr:=hfr.ext hs;subst hr;refine Gy (.bool ((decide (y2 ≥ (0:Int))))) rfl rfl rfl rfl ?_;refine Zg (.bool ((decide (y2 ≥ (0:Int))))) rfl rfl ?_;refine Zb (Zd (Gx ?_));obtain rfl:=sinj h;exact Wg rfl rfl (show _=.bool ((decide (y2 ≥ (0:Int)))) from rfl) ⟨_,hfr,rfl⟩
def f93 (x0:Int):Option (It Int):=
 some ((fun σ cons s=>f137 x0 σ cons s))
theorem en93:Enters Tryz.prog 93:=enters_of Tryz.func93 (by kernel_rfl) rfl
theorem wk93 {gI:Gh} {wI:World} {x0:Int}  {r:It Int} (h:f93 x0=some r):Fn Tryz.prog 93 #[.int .i64 (x0)] gI wI (fun m w v=>ItV Tryz.prog (RA1 (α:=Int)) (r) v m w):=by
 unfold f93 at h;refine Tc Tryz.func93 rfl (Nat.le_of_ble_eq_true rfl) fun g0 hm hfr=>?_;show E _ 4 none _ _ _ _ _;refine Zf (Za (Ze .plain rfl (Wc (g:=g0) rfl (Zj.2 rfl) fun g1 w1 p1 hs q1=>?_)));have hfr:=hfr.ext hs;refine Zg (.nilFunc) rfl rfl ?_;refine Zb (Zd (Zf (Za (Zy ((.func (.func 137) #[] #[p1])) (Ja (Ce (show ev _ _=p1 from rfl))) rfl ?_))));refine Zg ((.func (.func 137) #[] #[p1])) rfl rfl ?_;refine Zb (Zd (Gx ?_));obtain rfl:=sinj h;exact Wg rfl rfl (show _=(.func (.func 137) #[] #[p1]) from rfl) ⟨_,hfr,(show ItV Tryz.prog (RA1 (α:=Int)) (fun σ cons s=>f137 x0 σ cons s) ((.func (.func 137) #[] #[p1])) g1.m w1 from ⟨137,#[],#[p1],rfl,en137,fun g' w' hch σ cons s s' h=>wk137  (q1.ch hch) h⟩)⟩
def f95 (x0:List Int) (x1:List Int):Option (Int):=
 jn (σ:=Unit) (fun _=>
  jn (σ:=Unit) (fun _=>
   some ((0:Int))
   ) fun dF=>
  bif (decide (((x0).length : Int) < ((x1).length : Int))) then
   some ((-1:Int))
  else
   dF ()
  ) fun eF=>
 lp (σ:=Int) (fun k33 o0=>
  bif (decide (o0 < ((x0).length : Int))) then
   jn (σ:=Unit) (fun _=>
    k33 ((w64 (o0 + (1:Int))))
    ) fun rF=>
   (idx x0 o0).bind fun n9=>
   jn (σ:=Unit) (fun _=>
    (idx x1 o0).bind fun aB=>
    (f66 n9 aB).bind fun l5=>
    bif (l5 != (0 : Int)) then
     some (l5)
    else
     rF ()
    ) fun k54=>
   bif (decide (o0 ≥ ((x1).length : Int))) then
    some ((1:Int))
   else
    k54 ()
  else
   eF ()
  ) big ((0:Int))
theorem en95:Enters Tryz.prog 95:=enters_of Tryz.func95 (by kernel_rfl) rfl
theorem wk95 {gI:Gh} {wI:World} {x0:List Int} {x1:List Int} {up0:Value} (rp0:RV gI.m wI x0 up0) {up1:Value} (rp1:RV gI.m wI x1 up1) {r:Int} (h:f95 x0 x1=some r):Fn Tryz.prog 95 #[up0,up1] gI wI (fun _ _ v=>v=.int .i64 (r)):=by
 unfold f95 at h;refine Tc Tryz.func95 rfl (Nat.le_of_ble_eq_true rfl) fun g0 hm hfr=>?_;have rp0:RV g0.m wI x0 up0:=hm ▸ rp0;have rp1:RV g0.m wI x1 up1:=hm ▸ rp1;show E _ 36 none _ _ _ _ _;refine Zf (Za (Zg (.int .i64 (0)) rfl rfl ?_));refine Zb (Zd (Zq h (fun (s:Unit) e w=>∃ (g:Gh) ,Fr gI wI g w∧e 0=up0∧RV g.m w (x0:List Int) up0∧e 1=up1∧RV g.m w (x1:List Int) up1) (fun X32 eF tF h=>?_) ?_))
 ·refine Zf (Za (Zn up0 rfl rfl ?_))
  refine Zy (.int .i64 ((x0).length:Int)) (Qk Tryz.underlying28 rfl rp0) rfl ?_;refine Zn (.int .i64 (0)) rfl rfl ?_;refine Zb (Zd (Zr ?_));refine Je h (fun (s:Int) e w=>∃ (g:Gh) ,Fr gI wI g w∧e 0=up0∧RV g.m w (x0:List Int) up0∧e 1=up1∧RV g.m w (x1:List Int) up1∧e 9=up0∧RV g.m w (x0:List Int) up0∧e 10=.int .i64 (((x0).length:Int))∧e 11=.int .i64 (s)) ⟨g0,hfr,rfl,rp0,rfl,rp1,rfl,rp0,rfl,rfl⟩ (fun X33 k33 uF=>?_);rintro o0 lG aH ⟨vC,hfr,yB,zB,g8,l8,cC,n8,lB,t5⟩ h;refine Zf (Za (Gy (.bool ((decide (o0 < ((x0).length:Int))))) t5 lB rfl rfl ?_));refine Zb (Zd (Zf ?_));rcases Zt h with ⟨mB,h⟩ | ⟨mB,h⟩
  ·refine Qo mB rfl ?_
   refine Zu (Zd (Zq h (fun (s:Unit) e w=>∃ (g:Gh) ,Fr gI wI g w∧e 0=up0∧RV g.m w (x0:List Int) up0∧e 1=up1∧RV g.m w (x1:List Int) up1∧e 9=up0∧RV g.m w (x0:List Int) up0∧e 10=.int .i64 (((x0).length:Int))∧e 11=.int .i64 (o0)) (fun X49 rF vF h=>?_) ?_))
   ·refine Zr ?_
    refine Zf (Za (Zo t5 rfl ?_));obtain ⟨n9,bD,h⟩:=Gc h;refine Zy (Qb up0 o0 1) (Zh (α:=Int) Tryz.underlying28 Tryz.sizeOf3 cC n8 t5 bD) rfl ?_;have bG:=Tv n8 bD;refine Ze .plain rfl (Gr (g:=vC) Tryz.isAgg3 Tryz.sizeOf3 rfl bG fun cH cG=>?_);obtain rfl:=Zj.1 cG;refine Zg (.int .i64 (o0)) rfl rfl ?_;refine Zg (.int .i64 (n9)) rfl rfl ?_;refine Zb (Zd (Zq h (fun (s:Unit) e w=>∃ (g:Gh) ,Fr gI wI g w∧e 0=up0∧RV g.m w (x0:List Int) up0∧e 1=up1∧RV g.m w (x1:List Int) up1∧e 5=.int .i64 (o0)∧e 6=.int .i64 (n9)∧e 9=up0∧RV g.m w (x0:List Int) up0∧e 10=.int .i64 (((x0).length:Int))∧e 11=.int .i64 (o0)) (fun X54 k54 xF h=>?_) ?_))
    ·refine Zf (Za (Zn (.int .i64 (o0)) rfl rfl ?_))
     refine Zo g8 rfl ?_;refine Zy (.int .i64 ((x1).length:Int)) (Qk Tryz.underlying28 rfl l8) rfl ?_;refine Gy (.bool ((decide (o0 ≥ ((x1).length:Int))))) rfl rfl rfl rfl ?_;refine Zb (Zd ?_);rcases Zt h with ⟨nB,h⟩ | ⟨nB,h⟩
     ·refine Qo nB rfl ?_
      refine Zf (Za (Zg (.int .i64 (1)) rfl rfl ?_));refine Zb (Zd (Gx (Tm ?_)));refine Wa ?_;refine Tm ?_;refine Tm ?_;refine Wa ?_;refine Tm ?_;obtain rfl:=sinj h;exact Wg rfl rfl (show _=.int .i64 (1) from rfl) ⟨_,hfr,rfl⟩
     ·refine Qm nB rfl ?_
      exact Zu (Zd (xF () _ _ ⟨vC,hfr,yB,zB,g8,l8,rfl,rfl,cC,n8,lB,t5⟩ h))
    ·rintro _ mG gH ⟨sF, hfr, zD, v8, uC, i6, aE, bE, iE, l9, cD, lD⟩ h
     refine Zf (Za (Zo uC rfl ?_));refine Zo aE rfl ?_;obtain ⟨aB,nD,h⟩:=Gc h;refine Zy (Qb up1 o0 1) (Zh (α:=Int) Tryz.underlying28 Tryz.sizeOf3 rfl i6 rfl nD) rfl ?_;have eG:=Tv i6 nD;refine Ze .plain rfl (Gr (g:=sF) Tryz.isAgg3 Tryz.sizeOf3 rfl eG fun jH gG=>?_);obtain rfl:=Zj.1 gG;refine Zg (.int .i64 (aB)) rfl rfl ?_;refine Zb (Zd (Zf (Za (Zo bE rfl ?_))));refine Zn (.int .i64 (aB)) rfl rfl ?_;obtain ⟨l5,yF,h⟩:=Gc h;refine Ze .plain rfl (Zp (g:=sF) (vs:=[.int .i64 (n9),.int .i64 (aB)]) en66 (.cons rfl (.cons rfl .nil)) (wk66  yF) fun iG sG kH hs hr=>?_);have hfr:=hfr.ext hs;have v8:=v8.ext hs;have i6:=i6.ext hs;have l9:=l9.ext hs;subst hr;refine Zg (.int .i64 (l5)) rfl rfl ?_;refine Zb (Zd (Zf (Za (Zn (.int .i64 (l5)) rfl rfl ?_))));refine Gy (.bool ((l5 != (0:Int)))) rfl rfl rfl rfl ?_;refine Zb (Zd ?_);rcases Zt h with ⟨oB,h⟩ | ⟨oB,h⟩
     ·refine Qo oB rfl ?_
      refine Zf (Za (Zn (.int .i64 (l5)) rfl rfl ?_));refine Zg (.int .i64 (l5)) rfl rfl ?_;refine Zb (Zd (Gx (Wa ?_)));refine Tm ?_;refine Tm ?_;refine Wa ?_;refine Tm ?_;obtain rfl:=sinj h;exact Wg rfl rfl (show _=.int .i64 (l5) from rfl) ⟨_,hfr,rfl⟩
     ·refine Qm oB rfl ?_
      exact Zu (Qx (Zd (vF () _ _ ⟨iG,hfr,zD,v8,uC,i6,iE,l9,cD,lD⟩ h)))
   ·rintro _ xG lH ⟨jG, hfr, lE, mE, oE, rE, uE, vE, oD, yD⟩ h
    refine Za (Gy (.int .i64 ((w64 (o0 + (1:Int))))) yD rfl rfl rfl ?_);refine Zn (.int .i64 ((w64 (o0 + (1:Int))))) rfl rfl ?_;exact Zb (Zd (uF ((w64 (o0 + (1:Int)))) _ _ ⟨jG,hfr,lE,mE,oE,rE,uE,vE,oD,rfl⟩ h))
  ·refine Qm mB rfl ?_
   refine Qz ?_;refine Tr ?_;refine Tr ?_;refine Tz ?_;exact Zd (tF () _ _ ⟨vC,hfr,yB,zB,g8,l8⟩ h)
 ·rintro _ yG mH ⟨kG, hfr, xE, yE, zE, cF⟩ h
  refine Zq h (fun (s:Unit) e w=>∃ (g:Gh) ,Fr gI wI g w) (fun X67 dF aG h=>?_) ?_
  ·refine Zf (Za (Zo xE rfl ?_))
   refine Zy (.int .i64 ((x0).length:Int)) (Qk Tryz.underlying28 rfl yE) rfl ?_;refine Zo zE rfl ?_;refine Zy (.int .i64 ((x1).length:Int)) (Qk Tryz.underlying28 rfl cF) rfl ?_;refine Gy (.bool ((decide (((x0).length:Int) < ((x1).length:Int))))) rfl rfl rfl rfl ?_;refine Zb (Zd ?_);rcases Zt h with ⟨vB,h⟩ | ⟨vB,h⟩
   ·refine Qo vB rfl ?_
    refine Zf (Za (Zg (.int .i64 (-1)) rfl rfl ?_));refine Zb (Zd (Gx (Tm ?_)));obtain rfl:=sinj h;exact Wg rfl rfl (show _=.int .i64 (-1) from rfl) ⟨_,hfr,rfl⟩
   ·refine Qm vB rfl ?_
    exact Zu (Zd (aG () _ _ ⟨kG,hfr⟩ h))
  ·rintro _ zG nH ⟨oH, hfr⟩ h
   refine Zf (Za (Zg (.int .i64 (0)) rfl rfl ?_));refine Zb (Zd (Gx ?_));obtain rfl:=sinj h;exact Wg rfl rfl (show _=.int .i64 (0) from rfl) ⟨_,hfr,rfl⟩
def f132 (x0:Tf) (x1:Gg):Option (Tf × Int × Int):=
 (idx ((x0).boxes).toList (0:Int)).bind fun y7=>
 (idx (y7).toList (x1).Left).bind fun y9=>
 (idx ((x0).boxes).toList (1:Int)).bind fun zD=>
 (idx (zD).toList (x1).Right).bind fun t5=>
 jn (σ:=Tf) (fun oD=>
  (f154 (((x0).at_).Left) ((x1).Left)).bind fun l8=>
  (f154 (((x0).at_).Right) ((x1).Right)).bind fun n8=>
  (idx ((x0).boxes).toList (0:Int)).bind fun aE=>
  (idx (aE).toList (x1).Left).bind fun bG=>
  (idx (({ x0 with boxes:=(Jj ((x0).boxes) ((0:Int)) (fun b=>(Hp b ((x1).Left) t5))) }).boxes).toList (1:Int)).bind fun bE=>
  (idx (bE).toList (x1).Right).bind fun oE=>
  some ({ { { x0 with boxes:=(Jj ((x0).boxes) ((0:Int)) (fun b=>(Hp b ((x1).Left) t5))) } with boxes:=(Jj (({ x0 with boxes:=(Jj ((x0).boxes) ((0:Int)) (fun b=>(Hp b ((x1).Left) t5))) }).boxes) ((1:Int)) (fun b=>(Hp b ((x1).Right) y9))) } with at_:=x1 },(w64 (y9 + t5)),(w64 (l8 + n8)))
  ) fun iE=>
 bif ((y9 == (0 : Int)) == (t5 == (0 : Int))) then
  some (x0,(0:Int),(0:Int))
 else
  iE ((⟨(⟨List.toArray [(⟨List.toArray [0,0,0,0],rfl⟩:Vector Int 4),(⟨List.toArray [0,0,0,0],rfl⟩:Vector Int 4)],rfl⟩:Vector (Vector Int 4) 2),⟨0,0⟩⟩:Tf))
theorem en132:Enters Tryz.prog 132:=enters_of Tryz.func132 (by kernel_rfl) rfl
theorem wk132 {gI:Gh} {wI:World} {x0:Tf} {x1:Gg} {up0:Value} (rp0:RV gI.m wI x0 up0) {up1:Value} (rp1:RV gI.m wI x1 up1) {r:Tf × Int × Int} (h:f132 x0 x1=some r):Fn Tryz.prog 132 #[up0,up1] gI wI (fun m w v=>∃ y0 y1 y2,v=.tuple #[y0,y1,y2]∧RV m w (r.1) y0∧y1=.int .i64 (r.2.1)∧y2=.int .i64 (r.2.2)):=by
 unfold f132 at h;refine Tc Tryz.func132 rfl (Nat.le_of_ble_eq_true rfl) fun g0 hm hfr=>?_;have rp0:RV g0.m wI x0 up0:=hm ▸ rp0;have rp1:RV g0.m wI x1 up1:=hm ▸ rp1;show E _ 59 none _ _ _ _ _;refine Zf (Za (Ze .plain rfl (Oc (g:=g0) 2002 rfl rp0 fun g1 w1 p1 hs b1=>?_)));have hfr:=hfr.stp hs;have rp0:=rp0.stp hs;have rp1:=rp1.stp hs;refine Ze .plain rfl (Wc (g:=g1) rfl rp1 fun g2 w2 p2 hs q2=>?_);have hfr:=hfr.ext hs;have rp0:=rp0.ext hs;have rp1:=rp1.ext hs;have b1:=b1.ext hs;refine Ze .plain rfl (Gu (g:=g2) 2004 (⟨(⟨List.toArray [(⟨List.toArray [0,0,0,0],rfl⟩:Vector Int 4),(⟨List.toArray [0,0,0,0],rfl⟩:Vector Int 4)],rfl⟩:Vector (Vector Int 4) 2),⟨0,0⟩⟩:Tf) Tryz.zeroValue115 (fun m w=>⟨_,(Gk (Ta (Zw (Ta (Zw Zx (Zw Zx (Zw Zx (Zw Zx Gv)))) rfl) (Zw (Ta (Zw Zx (Zw Zx (Zw Zx (Zw Zx Gv)))) rfl) Gv)) rfl) (Gk Zx Zx)),rfl⟩) fun g3 w3 p3 hs b3 cb=>?_);have hfr:=hfr.stp hs;have rp0:=rp0.stp hs;have rp1:=rp1.stp hs;have b1:=b1.stp hs rfl;have q2:=q2.stp hs;clear cb;refine Zg (.int .i64 (0)) rfl rfl ?_;refine Zg (.int .i64 (0)) rfl rfl ?_;refine Zb (Zd (Zf ?_));have q4:=Zm (Kz).1 q2;refine Zs (x:=.tmp 9) Tryz.isAgg3 Tryz.sizeOf3 q4 fun v5 r5 cG=>?_;obtain rfl:=Zj.1 r5;obtain ⟨y7,lE,h⟩:=Gc h;obtain ⟨hi8,he8⟩:=Hq lE;obtain ⟨y9,mE,h⟩:=Gc h;obtain ⟨hi10,he10⟩:=Hq mE;refine Eu (off:=((0 + ((0:Int):Int).toNat * 4) + ((x1).Left:Int).toNat * 1)) (x:=.tmp 13) (Gs.at_ (Gs.comp Hb (Gs.dynC hi8 (Gs.dyn hi10) rfl) rfl) (by first | rfl | exact Nat.add_assoc _ _ _ | simp only [Nat.add_assoc,Nat.zero_add] | omega)).1 ((congrArg (vat _ hi10) he8).trans he10) Tryz.isAgg3 Tryz.sizeOf3 b1 fun oH eG rE=>?_;obtain rfl:=Zj.1 eG;have oB:=Zm (Hd).1 q2;refine Zs (x:=.tmp 15) Tryz.isAgg3 Tryz.sizeOf3 oB fun pH gG uE=>?_;obtain rfl:=Zj.1 gG;obtain ⟨zD,vB,h⟩:=Gc h;obtain ⟨hi16,he16⟩:=Hq vB;obtain ⟨t5,yB,h⟩:=Gc h;obtain ⟨hi18,he18⟩:=Hq yB;refine Eu (off:=((0 + ((1:Int):Int).toNat * 4) + ((x1).Right:Int).toNat * 1)) (x:=.tmp 19) (Gs.at_ (Gs.comp Hb (Gs.dynC hi16 (Gs.dyn hi18) rfl) rfl) (by first | rfl | exact Nat.add_assoc _ _ _ | simp only [Nat.add_assoc,Nat.zero_add] | omega)).1 ((congrArg (vat _ hi18) he16).trans he18) Tryz.isAgg3 Tryz.sizeOf3 b1 fun qH iG vE=>?_;obtain rfl:=Zj.1 iG;refine Qp (g:=g3) (n:=14) [] [0,1,2,3,4,5,6,7,8,9,10,11,12,13] rfl mixed (by kernel_rfl) trivial ?_;refine Gb (Gm p2 0) rfl rfl (Zc Dc rfl (PT.ptr q2)) ?_;refine Tl (c:=.int .i64 ((x1).Left)) rfl rfl .plain (fun _ _ h=>h.ch) cG rfl ?_;refine Gb (Gm p1 0) rfl rfl (Zc Bh rfl (OB.ptr b1)) ?_;refine Gb (Gm p1 (0 + ((0:Int):Int).toNat * 4)) rfl rfl (Wp (α:=Vector Int 4) (o1:=0) rfl Tryz.underlying111 Tryz.sizeOf110 rfl (OB.ptr b1) rfl lE) ?_;refine Gb (Gm p1 ((0 + ((0:Int):Int).toNat * 4) + ((x1).Left:Int).toNat * 1)) rfl rfl (Wp (α:=Int) (o1:=(0 + ((0:Int):Int).toNat * 4)) rfl Tryz.underlying110 Tryz.sizeOf3 rfl (OB.ptr b1) rfl mE) ?_;refine Tl (c:=.int .i64 (y9)) rfl rfl .plain (fun _ _ h=>⟨h.ch,fun b hb _=>h.below.block b hb⟩) rE rfl ?_;refine Gb (Gm p2 1) rfl rfl (Zc Sg rfl (PT.ptr q2)) ?_;refine Tl (c:=.int .i64 ((x1).Right)) rfl rfl .plain (fun _ _ h=>h.ch) uE rfl ?_;refine Gb (Gm p1 0) rfl rfl (Zc Bh rfl (OB.ptr b1)) ?_;refine Gb (Gm p1 (0 + ((1:Int):Int).toNat * 4)) rfl rfl (Wp (α:=Vector Int 4) (o1:=0) rfl Tryz.underlying111 Tryz.sizeOf110 rfl (OB.ptr b1) rfl vB) ?_;refine Gb (Gm p1 ((0 + ((1:Int):Int).toNat * 4) + ((x1).Right:Int).toNat * 1)) rfl rfl (Wp (α:=Int) (o1:=(0 + ((1:Int):Int).toNat * 4)) rfl Tryz.underlying110 Tryz.sizeOf3 rfl (OB.ptr b1) rfl yB) ?_;refine Tl (c:=.int .i64 (t5)) rfl rfl .plain (fun _ _ h=>⟨h.ch,fun b hb _=>h.below.block b hb⟩) vE rfl ?_;refine Gb (.int .i64 (y9)) rfl rfl (Qt rfl) ?_;refine Gb (.int .i64 (t5)) rfl rfl (Qt rfl) ?_;refine Yz fun zB sH hs=>?_;have hfr:=hfr.ext hs;have rp0:=rp0.ext hs;have rp1:=rp1.ext hs;have b1:=b1.ext hs;have q2:=q2.ext hs;have b3:=b3.ext hs;have q4:=q4.ext hs;have oB:=oB.ext hs;clear hs;refine Zb (Zd (Zq h (fun (s:Tf) e w=>∃ (g:Gh) ,Fr gI wI g w∧e 2=p1∧OB 2002 g w 115 (x0:Tf) p1∧e 3=p2∧PT g.m w (x1:Gg) p2∧e 4=p3∧OB 2004 g w 115 (s:Tf) p3∧e 7=.int .i64 (y9)∧e 8=.int .i64 (t5)) (fun X46 iE xE h=>?_) ?_))
 ·refine Zf (Za (Zn (.int .i64 (y9)) rfl rfl ?_))
  refine Gy (.bool ((y9 == (0:Int)))) rfl rfl rfl rfl ?_;refine Zn (.int .i64 (t5)) rfl rfl ?_;refine Gy (.bool ((t5 == (0:Int)))) rfl rfl rfl rfl ?_;refine Zy (.bool (((y9 == (0:Int)) == (t5 == (0:Int))))) (P_bool Tryz.underlying4 rfl rfl rfl) rfl ?_;refine Zb (Zd ?_);rcases Zt h with ⟨n9,h⟩ | ⟨n9,h⟩
  ·refine Qo n9 rfl ?_
   refine Zf (Za (Ze .plain rfl (Tp (g:=zB) Tryz.isAgg115 Tryz.sizeOf115 rfl b1 fun jG kG=>?_)));refine Ze .plain rfl (Gn (g:=zB) (v:=jG) Tryz.sizeOf115 rfl b3 rfl kG fun tH uH hs b49 cb=>?_);clear cb;have hfr:=hfr.stp hs;refine Zg (.int .i64 (0)) rfl rfl ?_;refine Zg (.int .i64 (0)) rfl rfl ?_;refine Zb (Zd (Gx (Tm ?_)));obtain rfl:=sinj h;obtain ⟨ad50,cv50,hp50,yE,cr50⟩:=Qv Tryz.isAgg115 Tryz.sizeOf115 b49;exact Cl rfl rfl ((show _=p3 from rfl).trans hp50) yE (show _=.int .i64 (0) from rfl) (show _=.int .i64 (0) from rfl) ⟨_,hfr,_,_,_,rfl,cr50,rfl,rfl⟩
  ·refine Qm n9 rfl ?_
   exact Zu (Zd (xE ((⟨(⟨List.toArray [(⟨List.toArray [0,0,0,0],rfl⟩:Vector Int 4),(⟨List.toArray [0,0,0,0],rfl⟩:Vector Int 4)],rfl⟩:Vector (Vector Int 4) 2),⟨0,0⟩⟩:Tf)) _ _ ⟨zB,hfr,rfl,b1,rfl,q2,rfl,b3,rfl,rfl⟩ h))
 ·rintro oD cH xH ⟨lG, hfr, g8, o0, v8, l5, aB, i6, lB, mB⟩ h
  refine Zf (Kk (x:=.tmp 28) (Gs.comp Hv Kz rfl).1 Tryz.isAgg3 Tryz.sizeOf3 o0 fun yH mG zE=>?_);obtain rfl:=Zj.1 mG;have l9:=Zm (Kz).1 l5;refine Zs (x:=.tmp 30) Tryz.isAgg3 Tryz.sizeOf3 l9 fun zH sG cF=>?_;obtain rfl:=Zj.1 sG;obtain ⟨l8,dF,h⟩:=Gc h;refine Kk (x:=.tmp 34) (Gs.comp Hv Hd rfl).1 Tryz.isAgg3 Tryz.sizeOf3 o0 fun aI xG eF=>?_;obtain rfl:=Zj.1 xG;have q62:=Zm (Hd).1 l5;refine Zs (x:=.tmp 36) Tryz.isAgg3 Tryz.sizeOf3 q62 fun bI yG rF=>?_;obtain rfl:=Zj.1 yG;obtain ⟨n8,sF,h⟩:=Gc h;refine Qp (g:=lG) (n:=14) [(5,(fun v g w=>v=.int .i64 (l8))),(11,(fun v g w=>v=.int .i64 (n8)))] [0,1,2,3,4,5,6,7,8,9,10,11,12,13] rfl mixed (by kernel_rfl) (⟨fun _=>Wo _,fun _=>Wo _,trivial⟩) ?_;refine Gb (Gm p1 8) rfl rfl (Zc Rp g8 (OB.ptr o0)) ?_;refine Gb (Gm p1 8) rfl rfl (Rq (o1:=8) rfl Dc rfl (OB.ptr o0)) ?_;refine Tl (c:=.int .i64 (((x0).at_).Left)) rfl rfl .plain (fun _ _ h=>⟨h.ch,fun b hb _=>h.below.block b hb⟩) zE rfl ?_;refine Gb (Gm p2 0) rfl rfl (Zc Dc v8 (PT.ptr l5)) ?_;refine Tl (c:=.int .i64 ((x1).Left)) rfl rfl .plain (fun _ _ h=>h.ch) cF rfl ?_;refine Wh (φ:=fun v g w=>v=.int .i64 (l8)) rfl rfl .plain (fun g w hd=>Zp (g:=g) (vs:=[.int .i64 (((x0).at_).Left),.int .i64 ((x1).Left)]) en154 (.cons rfl (.cons rfl .nil)) (wk154  dF) fun g' w' v hs hr=>⟨g',hs,hr⟩) (fun dI hv=>?_);obtain ⟨_,_,_,rfl⟩:=hv;refine Gb (Gm p1 8) rfl rfl (Zc Rp g8 (OB.ptr o0)) ?_;refine Gb (Gm p1 9) rfl rfl (Rq (o1:=8) rfl Sg rfl (OB.ptr o0)) ?_;refine Tl (c:=.int .i64 (((x0).at_).Right)) rfl rfl .plain (fun _ _ h=>⟨h.ch,fun b hb _=>h.below.block b hb⟩) eF rfl ?_;refine Gb (Gm p2 1) rfl rfl (Zc Sg v8 (PT.ptr l5)) ?_;refine Tl (c:=.int .i64 ((x1).Right)) rfl rfl .plain (fun _ _ h=>h.ch) rF rfl ?_;refine Wh (φ:=fun v g w=>v=.int .i64 (n8)) rfl rfl .plain (fun g w hd=>Zp (g:=g) (vs:=[.int .i64 (((x0).at_).Right),.int .i64 ((x1).Right)]) en154 (.cons rfl (.cons rfl .nil)) (wk154  sF) fun g' w' v hs hr=>⟨g',hs,hr⟩) (fun iI hv=>?_);obtain ⟨_,_,_,rfl⟩:=hv;refine Gb (.int .i64 ((w64 (l8 + n8)))) rfl rfl (Td rfl rfl rfl) ?_;refine Gb (.int .i64 ((w64 (l8 + n8)))) rfl rfl (Qt rfl) ?_;refine Yz fun jI kI hs=>?_;have hfr:=hfr.ext hs;have o0:=o0.ext hs;have l5:=l5.ext hs;have i6:=i6.ext hs;have l9:=l9.ext hs;have q62:=q62.ext hs;clear hs;refine Zb (Zd (Zf ?_));have cC:=Zm (Kz).1 l5;refine Zs (x:=.tmp 40) Tryz.isAgg3 Tryz.sizeOf3 cC fun lI zG tF=>?_;obtain rfl:=Zj.1 zG;have uC:=Zm (Hd).1 l5;refine Zs (x:=.tmp 42) Tryz.isAgg3 Tryz.sizeOf3 uC fun mI aH uF=>?_;obtain rfl:=Zj.1 aH;obtain ⟨aE,vC,h⟩:=Gc h;obtain ⟨hi93,he93⟩:=Hq vC;obtain ⟨bG,bD,h⟩:=Gc h;obtain ⟨hi95,he95⟩:=Hq bD;obtain ⟨bE,cD,h⟩:=Gc h;obtain ⟨hi100,he100⟩:=Hq cD;obtain ⟨oE,nB,h⟩:=Gc h;obtain ⟨hi102,he102⟩:=Hq nB;refine Po (a0:=(x0:Tf)) (a1:=({ x0 with boxes:=(Jj ((x0).boxes) ((0:Int)) (fun b=>(Hp b ((x1).Left) t5))) }:Tf)) o0 (n:=13) [(9,(fun _ g w=>OB 2002 g w 115 ({ x0 with boxes:=(Jj ((x0).boxes) ((0:Int)) (fun b=>(Hp b ((x1).Left) t5))) }:Tf) p1))] [0,1,2,3,4,5,6,7,8,9,10,11,12] rfl mixed (by kernel_rfl) (⟨fun _=>Ix,trivial⟩) ?_;refine Gb (Gm p2 0) rfl rfl (Zc Dc v8 (PT.ptr l5)) ?_;refine Tl (c:=.int .i64 ((x1).Left)) rfl rfl .plain (fun _ _ h=>h.1.ch) tF rfl ?_;refine Gb (Gm p2 1) rfl rfl (Zc Sg v8 (PT.ptr l5)) ?_;refine Tl (c:=.int .i64 ((x1).Right)) rfl rfl .plain (fun _ _ h=>h.1.ch) uF rfl ?_;refine Gb (.int .i64 (t5)) rfl rfl (Zk mB) ?_;refine Gb (.int .i64 (y9)) rfl rfl (Zk lB) ?_;refine Gb (Gm p1 0) rfl rfl (Zc Bh g8 (OB.ptr o0)) ?_;refine Gb (Gm p1 (0 + ((0:Int):Int).toNat * 4)) rfl rfl (Wp (α:=Vector Int 4) (o1:=0) rfl Tryz.underlying111 Tryz.sizeOf110 rfl (OB.ptr o0) rfl vC) ?_;refine Gb (Gm p1 ((0 + ((0:Int):Int).toNat * 4) + ((x1).Left:Int).toNat * 1)) rfl rfl (Wp (α:=Int) (o1:=(0 + ((0:Int):Int).toNat * 4)) rfl Tryz.underlying110 Tryz.sizeOf3 rfl (OB.ptr o0) rfl bD) ?_;refine Wh (φ:=fun _ g w=>OB 2002 g w 115 ({ x0 with boxes:=(Jj ((x0).boxes) ((0:Int)) (fun b=>(Hp b ((x1).Left) t5))) }:Tf) p1) rfl rfl .plain (fun g w hd=>Em (g:=g) (by rfl) (by exact (congrArg (fun y=>{ x0 with boxes:=y }) (vmod_vmod (h:=fun b=>(Hp b ((x1).Left) t5)) fun b=>(vset_vset _ _ _)))) (Gs.at_ (Gs.comp Hb (Gs.dynC hi93 (Gs.dyn hi95) rfl) rfl) (by first | rfl | exact Nat.add_assoc _ _ _ | simp only [Nat.add_assoc,Nat.zero_add] | omega)) Tryz.sizeOf3 rfl hd.1.2 rfl (Zj.2 rfl)) (fun nI hv=>?_)
  clear hv;refine Gb (Gm p1 0) rfl rfl (Zc Bh g8 (OB.ptr o0)) ?_;refine Gb (Gm p1 (0 + ((1:Int):Int).toNat * 4)) rfl rfl (Wp (α:=Vector Int 4) (o1:=0) rfl Tryz.underlying111 Tryz.sizeOf110 rfl (OB.ptr o0) rfl cD) ?_;refine Gb (Gm p1 ((0 + ((1:Int):Int).toNat * 4) + ((x1).Right:Int).toNat * 1)) rfl rfl (Wp (α:=Int) (o1:=(0 + ((1:Int):Int).toNat * 4)) rfl Tryz.underlying110 Tryz.sizeOf3 rfl (OB.ptr o0) rfl nB) ?_;refine Yc fun vF gH hall=>?_;have hs:=hall.1.1;have hfr:=hfr.stp hs;have l5:=l5.stp hs;have i6:=i6.stp hs rfl;have l9:=l9.stp hs;have q62:=q62.stp hs;have cC:=cC.stp hs;have uC:=uC.stp hs;have b104:=(Gz (A:=fun g w=>OB 2002 g w 115 ({ x0 with boxes:=(Jj ((x0).boxes) ((0:Int)) (fun b=>(Hp b ((x1).Left) t5))) }:Tf) p1) 9 rfl hall);clear hs hall;refine Ze .plain rfl (Kb (g:=vF) (Gs.at_ (Gs.comp Hb (Gs.dynC hi100 (Gs.dyn hi102) rfl) rfl) (by first | rfl | exact Nat.add_assoc _ _ _ | simp only [Nat.add_assoc,Nat.zero_add] | omega)) Tryz.sizeOf3 rfl b104 rfl (Zj.2 rfl) fun lD jH hs b135 rst hos=>?_);clear rst hos;have hfr:=hfr.stp hs;have l5:=l5.stp hs;have i6:=i6.stp hs rfl;refine Zb (Zd (Zf (Za (Ze .plain rfl (Gr (g:=lD) Tryz.isAgg113 Tryz.sizeOf113 v8 l5 fun kH xF=>?_)))));refine Zy (Gm p1 8) (Zc Rp g8 (OB.ptr b135)) rfl ?_;refine Ze .plain rfl (Kb (g:=lD) Hv Tryz.sizeOf113 rfl b135 rfl xF fun nD lH hs b138 rst hos=>?_);clear rst hos;have hfr:=hfr.stp hs;have i6:=i6.stp hs rfl;refine Zb (Zd (Zf (Za (Ze .plain rfl (Tp (g:=nD) Tryz.isAgg115 Tryz.sizeOf115 g8 b138 fun yF aG=>?_)))));refine Zo lB rfl ?_;refine Zo mB rfl ?_;refine Gy (.int .i64 ((w64 (y9 + t5)))) rfl rfl rfl rfl ?_;refine Zn (.int .i64 ((w64 (l8 + n8)))) rfl rfl ?_;refine Ze .plain rfl (Gn (g:=nD) (v:=yF) Tryz.sizeOf115 aB i6 rfl aG fun mH nH hs b140 cb=>?_);clear cb;have hfr:=hfr.stp hs;refine Zg (.int .i64 ((w64 (y9 + t5)))) rfl rfl ?_;refine Zg (.int .i64 ((w64 (l8 + n8)))) rfl rfl ?_;refine Zb (Zd (Gx ?_));obtain rfl:=sinj h;obtain ⟨ad141,cv141,hp141,yD,cr141⟩:=Qv Tryz.isAgg115 Tryz.sizeOf115 b140;exact Cl rfl rfl ((show _=p3 from aB).trans hp141) yD (show _=.int .i64 ((w64 (y9 + t5))) from rfl) (show _=.int .i64 ((w64 (l8 + n8))) from rfl) ⟨_,hfr,_,_,_,rfl,cr141,rfl,rfl⟩
def f133 (x0:List Int):Option (Bool):=
 (f90 ((0:Int)) ((300:Int)) x0).bind fun y2=>
 some (y2)
theorem en133:Enters Tryz.prog 133:=enters_of Tryz.func133 (by kernel_rfl) rfl
theorem wk133 {gI:Gh} {wI:World} {x0:List Int} {up0:Value} (rp0:RV gI.m wI x0 up0) {r:Bool} (h:f133 x0=some r):Fn Tryz.prog 133 #[up0] gI wI (fun _ _ v=>v=.bool (r)):=by
 unfold f133 at h;refine Tc Tryz.func133 rfl (Nat.le_of_ble_eq_true rfl) fun g0 hm hfr=>?_;have rp0:RV g0.m wI x0 up0:=hm ▸ rp0;show E _ 5 none _ _ _ _ _;refine Zf (Za (Zg (.bool false) rfl rfl ?_));refine Zb (Zd (Zf (Za (Zn up0 rfl rfl ?_))));obtain ⟨y2,hy2,h⟩:=Gc h;refine Ze .plain rfl (Zp (g:=g0) (vs:=[.int .i64 (0),.int .i64 (300),up0]) en90 (.cons rfl (.cons rfl (.cons rfl .nil))) (wk90 rp0 hy2) fun g1 w1_ v1 hs hr=>?_);have hfr:=hfr.ext hs;subst hr;refine Zg (.bool (y2)) rfl rfl ?_;refine Zb (Zd (Gx ?_));obtain rfl:=sinj h;exact Wg rfl rfl (show _=.bool (y2) from rfl) ⟨_,hfr,rfl⟩
end Go.Proofs.YtlmibfohllgmeaaGreat
