import Derived.Test.YtpckllcdlpoieaaTypes
import Derived.Test.YtpckllcdlpoieaaKn
set_option maxRecDepth 8000
set_option maxHeartbeats 4000000
namespace Go.Proofs.Ytpckllcdlpoieaa
open Go.RowKit
theorem info_3:(Try.prog.info? 3).map (fun i=>(i.zero,i.size,i.bytes))=some (some (.int .i64 0),1,8):=by kernel_rfl
theorem info_37:(Try.prog.info? 37).map (fun i=>(i.zero,i.size,i.bytes))=some (some (.agg #[.int .i64 0,.int .i64 0,.int .i64 0,.int .i64 0,.int .i64 0]),5,40):=by kernel_rfl
theorem mixed:Try.prog.follows .mixedOrders=true:=by kernel_rfl
theorem lay_35:layoutOf Try.prog 35=some ([.int .i64 0,.int .i64 0],[(0,1),(1,1)]):=by kernel_rfl
theorem lay_37:layoutOf Try.prog 37=some ([.int .i64 0,.int .i64 0,.int .i64 0,.int .i64 0,.int .i64 0],[(0,1),(1,1),(2,1),(3,2)]):=by kernel_rfl
theorem lay_40:layoutOf Try.prog 40=some ([.slice none 0 0,.slice none 0 0,.slice none 0 0],[(0,1),(1,1),(2,1)]):=by kernel_rfl
theorem layA_173:((Try.prog.info? 173).bind (·.zero)).map (·.cells.toList)=some [.bool false,.bool false,.bool false,.bool false,.bool false,.bool false]:=by kernel_rfl
theorem szA_4:(Try.prog.info? 4).map (·.size)=some 1:=by kernel_rfl
theorem lay_175:layoutOf Try.prog 175=some ([.int .i64 0,.int .i64 0],[(0,1),(1,1)]):=by kernel_rfl
theorem lay_68:layoutOf Try.prog 68=some ([.int .i64 0,.int .i64 0,.slice none 0 0,.int .i64 0],[(0,1),(1,1),(2,1),(3,1)]):=by kernel_rfl
theorem endm_c {P:Program} {e:Env} {ds:List Deferred} {w:World} {fn:Func} {R:Value→World→Prop} {t0:Tmp} {v0:Value} {y0:TypeId} {a0:Addr} (hres:fn.results=#[.cell t0 y0]) (hd:ds=[]) (h0:e t0=.pointer (some a0)) (l0:(loadVar y0 a0).run P w=.ok v0 w) (h:R v0 w):atEnd P fn R .ret e ds w:=
 ⟨hd,fun tmps ht=>⟨_,by simp [results,hres,ht,asAddr,h0,l0],h⟩⟩
theorem info_175:(Try.prog.info? 175).map (fun i=>(i.zero,i.size,i.bytes))=some (some (.agg #[.int .i64 0,.int .i64 0]),2,16):=by kernel_rfl
theorem capf_0_1 {e:Env} {f:FuncId} {o0:Operand} {b0:Value} (hb0:ev e o0=b0):(Value.func (.func f) ((#[]:Array Operand).map (ev e)) ((#[o0]:Array Operand).map (ev e)))=.func (.func f) #[] #[b0]:=by simp [hb0]
theorem lay_142:layoutOf Try.prog 142=some ([.slice none 0 0,.slice none 0 0,.slice none 0 0],[(0,3)]):=by kernel_rfl
theorem endm_ct {P:Program} {e:Env} {ds:List Deferred} {w:World} {fn:Func} {R:Value→World→Prop} {t0:Tmp} {v0:Value} {y0:TypeId} {a0:Addr} {t1:Tmp} {v1:Value} (hres:fn.results=#[.cell t0 y0,.tmp t1]) (hd:ds=[]) (h0:e t0=.pointer (some a0)) (l0:(loadVar y0 a0).run P w=.ok v0 w) (h1:e t1=v1) (h:R (.tuple #[v0,v1]) w):atEnd P fn R .ret e ds w:=
 ⟨hd,fun tmps ht=>⟨_,by simp [results,hres,ht,asAddr,h0,l0,h1],h⟩⟩
theorem info_26:(Try.prog.info? 26).map (fun i=>(i.zero,i.size,i.bytes))=some (some (.slice none 0 0),1,24):=by kernel_rfl
theorem lay_151:layoutOf Try.prog 151=some ([.int .i64 0,.int .i64 0],[(0,1),(1,1)]):=by kernel_rfl
theorem pl_148:Pl (Vector Int 4):=Pl.array Pl.int
theorem pl_149:Pl (Vector (Vector Int 4) 2):=Pl.array pl_148
theorem pl_151:Pl BoxPick:=Pl.of (Pl.prod Pl.int Pl.int)
theorem pl_153:Pl BoxRace:=Pl.of (Pl.prod pl_149 pl_151)
theorem pl_157:Pl BoxPoint:=Pl.of (Pl.prod Pl.int (Pl.prod Pl.int pl_153))
theorem eqd_148:EqD Try.prog (Vector Int 4) 2 148:=EqD.array Try.underlying148 info_3 (by kernel_rfl) Try.isAgg3 Try.sizeOf3 (EqD.int Try.underlying3)
theorem info_148:(Try.prog.info? 148).map (fun i=>(i.zero,i.size,i.bytes))=some (some (.agg #[.int .i64 0,.int .i64 0,.int .i64 0,.int .i64 0]),4,32):=by kernel_rfl
theorem eqd_149:EqD Try.prog (Vector (Vector Int 4) 2) 3 149:=EqD.array Try.underlying149 info_148 (by kernel_rfl) Try.isAgg148 Try.sizeOf148 eqd_148
theorem fl_151 : Try.prog.fieldsOf 151 = #[{ name := "Left", type := 3, offset := 0, embedded := false, tag := "", pkgPath := "", byteOffset := 0 }, { name := "Right", type := 3, offset := 1, embedded := false, tag := "", pkgPath := "", byteOffset := 8 }] := by kernel_rfl
theorem eqd_151:EqD Try.prog BoxPick 2 151:=EqD.struct rfl (by kernel_rfl) (by kernel_rfl) (by rw [fl_151]; exact (FEq.cons (by decide) (part_BoxPick_0).1 Try.isAgg3 Try.sizeOf3 (EqD.int Try.underlying3) (FEq.cons (by decide) (part_BoxPick_1).1 Try.isAgg3 Try.sizeOf3 (EqD.int Try.underlying3) FEq.nil))) (fun x y=>by cases x; cases y; simp)
theorem fl_153 : Try.prog.fieldsOf 153 = #[{ name := "boxes", type := 149, offset := 0, embedded := false, tag := "", pkgPath := "griffe/box", byteOffset := 0 }, { name := "at", type := 151, offset := 8, embedded := false, tag := "", pkgPath := "griffe/box", byteOffset := 64 }] := by kernel_rfl
theorem eqd_153:EqD Try.prog BoxRace 4 153:=EqD.struct rfl (by kernel_rfl) (by kernel_rfl) (by rw [fl_153]; exact (FEq.cons (by decide) (part_BoxRace_0).1 Try.isAgg149 Try.sizeOf149 eqd_149 (FEq.cons (by decide) (part_BoxRace_1).1 Try.isAgg151 Try.sizeOf151 (eqd_151.up (by decide)) FEq.nil))) (fun x y=>by cases x; cases y; simp)
theorem fl_157 : Try.prog.fieldsOf 157 = #[{ name := "group", type := 3, offset := 0, embedded := false, tag := "", pkgPath := "griffe/box", byteOffset := 0 }, { name := "done", type := 3, offset := 1, embedded := false, tag := "", pkgPath := "griffe/box", byteOffset := 8 }, { name := "race", type := 153, offset := 2, embedded := true, tag := "", pkgPath := "griffe/box", byteOffset := 16 }] := by kernel_rfl
theorem eqd_157:EqD Try.prog BoxPoint 5 157:=EqD.struct rfl (by kernel_rfl) (by kernel_rfl) (by rw [fl_157]; exact (FEq.cons (by decide) (part_BoxPoint_0).1 Try.isAgg3 Try.sizeOf3 ((EqD.int Try.underlying3).up (by decide)) (FEq.cons (by decide) (part_BoxPoint_1).1 Try.isAgg3 Try.sizeOf3 ((EqD.int Try.underlying3).up (by decide)) (FEq.cons (by decide) (part_BoxPoint_2).1 Try.isAgg153 Try.sizeOf153 eqd_153 FEq.nil)))) (fun x y=>by cases x; cases y; simp)
theorem ckd_148:CkD Try.prog (Vector Int 4) 2 148:=CkD.array Try.underlying148 info_3 (by kernel_rfl) Try.isAgg3 Try.sizeOf3 (CkD.int Try.underlying3)
theorem ckd_149:CkD Try.prog (Vector (Vector Int 4) 2) 3 149:=CkD.array Try.underlying149 info_148 (by kernel_rfl) Try.isAgg148 Try.sizeOf148 ckd_148
theorem ckd_151:CkD Try.prog BoxPick 2 151:=CkD.struct rfl Try.underlying151 fun f hf=>by
 simp only [List.mem_cons,List.not_mem_nil,or_false] at hf
 rcases hf with rfl | rfl
 ·exact ⟨by decide,_,_,_,(part_BoxPick_0).1,Try.isAgg3,Try.sizeOf3,(CkD.int Try.underlying3)⟩
 ·exact ⟨by decide,_,_,_,(part_BoxPick_1).1,Try.isAgg3,Try.sizeOf3,(CkD.int Try.underlying3)⟩
theorem ckd_153:CkD Try.prog BoxRace 4 153:=CkD.struct rfl Try.underlying153 fun f hf=>by
 simp only [List.mem_cons,List.not_mem_nil,or_false] at hf
 rcases hf with rfl | rfl
 ·exact ⟨by decide,_,_,_,(part_BoxRace_0).1,Try.isAgg149,Try.sizeOf149,ckd_149⟩
 ·exact ⟨by decide,_,_,_,(part_BoxRace_1).1,Try.isAgg151,Try.sizeOf151,ckd_151.up (by decide)⟩
theorem ckd_157:CkD Try.prog BoxPoint 5 157:=CkD.struct rfl Try.underlying157 fun f hf=>by
 simp only [List.mem_cons,List.not_mem_nil,or_false] at hf
 rcases hf with rfl | rfl | rfl
 ·exact ⟨by decide,_,_,_,(part_BoxPoint_0).1,Try.isAgg3,Try.sizeOf3,(CkD.int Try.underlying3).up (by decide)⟩
 ·exact ⟨by decide,_,_,_,(part_BoxPoint_1).1,Try.isAgg3,Try.sizeOf3,(CkD.int Try.underlying3).up (by decide)⟩
 ·exact ⟨by decide,_,_,_,(part_BoxPoint_2).1,Try.isAgg153,Try.sizeOf153,ckd_153⟩
theorem key_157:KeyLaw Try.prog 157 (encK pl_157):=keyLaw_pl pl_157 (by rw [Try.underlying157]) rfl eqd_157 ckd_157 (by decide)
theorem lay_274:layoutOf Try.prog 274=some ([.int .i64 0,.int .i64 0,.map none],[(0,1),(1,1),(2,1)]):=by kernel_rfl
theorem lay_180:layoutOf Try.prog 180=some ([.int .i64 0,.int .i64 0],[(0,1),(1,1)]):=by kernel_rfl
theorem lay_182:layoutOf Try.prog 182=some ([.int .i64 0,.int .i64 0],[(0,2)]):=by kernel_rfl
theorem capf_0_2 {e:Env} {f:FuncId} {o0:Operand} {u3:Operand} {b0:Value} {b1:Value} (hb0:ev e o0=b0) (hb1:ev e u3=b1):(Value.func (.func f) ((#[]:Array Operand).map (ev e)) ((#[o0,u3]:Array Operand).map (ev e)))=.func (.func f) #[] #[b0,b1]:=by simp [hb0,hb1]
theorem key_3:KeyLaw Try.prog 3 (Value.int .i64):=keyLaw_int Try.underlying3
theorem capf_0_3 {e:Env} {f:FuncId} {o0:Operand} {u3:Operand} {l5:Operand} {b0:Value} {b1:Value} {b2:Value} (hb0:ev e o0=b0) (hb1:ev e u3=b1) (hb2:ev e l5=b2):(Value.func (.func f) ((#[]:Array Operand).map (ev e)) ((#[o0,u3,l5]:Array Operand).map (ev e)))=.func (.func f) #[] #[b0,b1,b2]:=by simp [hb0,hb1,hb2]
theorem endm_ctt {P:Program} {e:Env} {ds:List Deferred} {w:World} {fn:Func} {R:Value→World→Prop} {t0:Tmp} {v0:Value} {y0:TypeId} {a0:Addr} {t1:Tmp} {v1:Value} {t2:Tmp} {v2:Value} (hres:fn.results=#[.cell t0 y0,.tmp t1,.tmp t2]) (hd:ds=[]) (h0:e t0=.pointer (some a0)) (l0:(loadVar y0 a0).run P w=.ok v0 w) (h1:e t1=v1) (h2:e t2=v2) (h:R (.tuple #[v0,v1,v2]) w):atEnd P fn R .ret e ds w:=
 ⟨hd,fun tmps ht=>⟨_,by simp [results,hres,ht,asAddr,h0,l0,h1,h2],h⟩⟩
theorem lay_164:layoutOf Try.prog 164=some ([.slice none 0 0,.int .i64 0,.int .i64 0,.int .i64 0,.int .i64 0,.int .i64 0,.int .i64 0,.int .i64 0,.int .i64 0,.int .i64 0,.int .i64 0,.int .i64 0],[(0,1),(1,10),(11,1)]):=by kernel_rfl
theorem lay_279:layoutOf Try.prog 279=some ([.int .i64 0,.int .i64 0,.int .i64 0,.int .i64 0,.int .i64 0,.int .i64 0,.int .i64 0,.int .i64 0,.int .i64 0,.int .i64 0,.int .i64 0,.int .i64 0],[(0,10),(10,1),(11,1)]):=by kernel_rfl
theorem pl_75:Pl (Vector Int 2):=Pl.array Pl.int
theorem eqd_75:EqD Try.prog (Vector Int 2) 2 75:=EqD.array Try.underlying75 info_3 (by kernel_rfl) Try.isAgg3 Try.sizeOf3 (EqD.int Try.underlying3)
theorem ckd_75:CkD Try.prog (Vector Int 2) 2 75:=CkD.array Try.underlying75 info_3 (by kernel_rfl) Try.isAgg3 Try.sizeOf3 (CkD.int Try.underlying3)
theorem key_75:KeyLaw Try.prog 75 (encK pl_75):=keyLaw_pl pl_75 (by rw [Try.underlying75]) rfl eqd_75 ckd_75 (by decide)
theorem layA_75:((Try.prog.info? 75).bind (·.zero)).map (·.cells.toList)=some [.int .i64 0,.int .i64 0]:=by kernel_rfl
theorem szA_3:(Try.prog.info? 3).map (·.size)=some 1:=by kernel_rfl
theorem endm_cc {P:Program} {e:Env} {ds:List Deferred} {w:World} {fn:Func} {R:Value→World→Prop} {t0:Tmp} {v0:Value} {y0:TypeId} {a0:Addr} {t1:Tmp} {v1:Value} {y1:TypeId} {a1:Addr} (hres:fn.results=#[.cell t0 y0,.cell t1 y1]) (hd:ds=[]) (h0:e t0=.pointer (some a0)) (l0:(loadVar y0 a0).run P w=.ok v0 w) (h1:e t1=.pointer (some a1)) (l1:(loadVar y1 a1).run P w=.ok v1 w) (h:R (.tuple #[v0,v1]) w):atEnd P fn R .ret e ds w:=
 ⟨hd,fun tmps ht=>⟨_,by simp [results,hres,ht,asAddr,h0,l0,h1,l1],h⟩⟩
theorem lay_157:layoutOf Try.prog 157=some ([.int .i64 0,.int .i64 0,.int .i64 0,.int .i64 0,.int .i64 0,.int .i64 0,.int .i64 0,.int .i64 0,.int .i64 0,.int .i64 0,.int .i64 0,.int .i64 0],[(0,1),(1,1),(2,10)]):=by kernel_rfl
theorem endm_cctt {P:Program} {e:Env} {ds:List Deferred} {w:World} {fn:Func} {R:Value→World→Prop} {t0:Tmp} {v0:Value} {y0:TypeId} {a0:Addr} {t1:Tmp} {v1:Value} {y1:TypeId} {a1:Addr} {t2:Tmp} {v2:Value} {t3:Tmp} {v3:Value} (hres:fn.results=#[.cell t0 y0,.cell t1 y1,.tmp t2,.tmp t3]) (hd:ds=[]) (h0:e t0=.pointer (some a0)) (l0:(loadVar y0 a0).run P w=.ok v0 w) (h1:e t1=.pointer (some a1)) (l1:(loadVar y1 a1).run P w=.ok v1 w) (h2:e t2=v2) (h3:e t3=v3) (h:R (.tuple #[v0,v1,v2,v3]) w):atEnd P fn R .ret e ds w:=
 ⟨hd,fun tmps ht=>⟨_,by simp [results,hres,ht,asAddr,h0,l0,h1,l1,h2,h3],h⟩⟩
theorem info_151:(Try.prog.info? 151).map (fun i=>(i.zero,i.size,i.bytes))=some (some (.agg #[.int .i64 0,.int .i64 0]),2,16):=by kernel_rfl
theorem tup4_0 {b0 b1 b2 b3:Value} {B0:Value→Prop} {B1:Value→Prop} {B2:Value→Prop} {B3:Value→Prop} (h:∃ c0 c1 c2 c3:Value,Value.tuple #[b0,b1,b2,b3]=.tuple #[c0,c1,c2,c3]∧B0 c0∧B1 c1∧B2 c2∧B3 c3):B0 b0:=by
 obtain ⟨c0,c1,c2,c3,he,h0,h1,h2,h3⟩:=h; simp at he; obtain ⟨rfl,rfl,rfl,rfl⟩:=he; exact h0
def f26:Option Bool:=some true
theorem en26:Enters Try.prog 26:=enters_of Try.func26 (by kernel_rfl) rfl
theorem wk26 {gI:Gh} {wI:World} {r:Bool} (h:f26=some r):Fn Try.prog 26 #[] gI wI (fun _ _ v=>v=.bool (r)):=by
 injection h with h
 subst h
 exact wkK26
def f27:Option Bool:=some true
theorem en27:Enters Try.prog 27:=enters_of Try.func27 (by kernel_rfl) rfl
theorem wk27 {gI:Gh} {wI:World} {r:Bool} (h:f27=some r):Fn Try.prog 27 #[] gI wI (fun _ _ v=>v=.bool (r)):=by
 injection h with h
 subst h
 exact wkK27
def f19 (x0:Vector UInt8 4):Option (BeamTake):=
 (idx (x0).toList (0:Int)).bind fun y3=>
 (rem64 ((y3).toNat:Int) (81:Int)).bind fun y6=>
 (idx (x0).toList (1:Int)).bind fun y7=>
 (rem64 ((y7).toNat:Int) (5:Int)).bind fun t5=>
 (idx (x0).toList (2:Int)).bind fun y11=>
 (rem64 ((y11).toNat:Int) (91:Int)).bind fun o0=>
 (idx (x0).toList (3:Int)).bind fun i6=>
 (rem64 ((i6).toNat:Int) (91:Int)).bind fun u3=>
 (idx (x0).toList (0:Int)).bind fun l5=>
 some ((⟨(w64 ((20:Int) + y6)),(w64 ((1:Int) + t5)),([(⟨(w64 ((10:Int) + o0)),(w64 ((10:Int) + u3))⟩:BeamPair)]:List BeamPair),(w64 ((100000:Int) + (w64 ((1000:Int) * ((l5).toNat:Int)))))⟩:BeamTake))
theorem en19:Enters Try.prog 19:=enters_of Try.func19 (by kernel_rfl) rfl
theorem wk19 {gI:Gh} {wI:World} {x0:Vector UInt8 4} {up0:Value} (rp0:RV gI.m wI x0 up0) {r:BeamTake} (h:f19 x0=some r):Fn Try.prog 19 #[up0] gI wI (fun m w v=>RV m w (r) v):=by
 unfold f19 at h
 refine fn_of_E Try.func19 rfl (Nat.le_of_ble_eq_true rfl) fun g0 hm hfr=>?_
 have rp0:RV g0.m wI x0 up0:=hm ▸ rp0
 show E _ 31 none _ _ _ _ _
 refine Zf (Za (Ze .plain rfl (D_box (g:=g0) rfl rp0 fun g1 w1 p1 hs q1=>?_)))
 have hfr:=hfr.ext hs
 refine Ze .plain rfl (D_allocOc (g:=g1) 2002 (⟨0,0,[],0⟩:BeamTake) Try.zeroValue68 (fun m w=>⟨_,(rep_two rep_int (rep_two rep_int (rep_two rep_nil rep_int))),rfl⟩) fun g2 w2 p2 hs b2 cb=>?_)
 have hfr:=hfr.stp hs
 have q1:=q1.stp hs
 have oB:OSF 2002 60202 2 g2 w2 175 68 ([]:List BeamPair) p2:=cb.osf (by rfl)
 clear cb
 refine Zb (Zd (Zf (Za ?_)))
 obtain ⟨y3,hy3,h⟩:=bsome h
 refine EL_p (fPtr p1 (((0:Int):Int).toNat * 1)) (P_indexAddrA (α:=UInt8) Try.underlying64 Try.sizeOf5 rfl (PT.ptr q1) rfl hy3) rfl ?_
 have q4:=PT_idxA q1 hy3
 refine Ze .plain rfl (D_load (g:=g2) Try.isAgg5 Try.sizeOf5 rfl q4 fun v5 r5=>?_)
 obtain rfl:=RV_u8.1 r5
 refine EL_p (.int .i64 (((y3).toNat:Int))) (P_u8int Try.underlying5 Try.underlying3 rfl) rfl ?_
 obtain ⟨y6,y9,h⟩:=bsome h
 refine EL_p (.int .i64 (y6)) (P_int rfl rfl (congrArg (Option.map (Value.int .i64)) y9)) rfl ?_
 refine EL_in (.int .i64 ((w64 ((20:Int) + y6)))) rfl rfl rfl rfl ?_
 obtain ⟨y7,n8,h⟩:=bsome h
 refine EL_p (fPtr p1 (((1:Int):Int).toNat * 1)) (P_indexAddrA (α:=UInt8) Try.underlying64 Try.sizeOf5 rfl (PT.ptr q1) rfl n8) rfl ?_
 have q8:=PT_idxA q1 n8
 refine Ze .plain rfl (D_load (g:=g2) Try.isAgg5 Try.sizeOf5 rfl q8 fun v9 r9=>?_)
 obtain rfl:=RV_u8.1 r9
 refine EL_p (.int .i64 (((y7).toNat:Int))) (P_u8int Try.underlying5 Try.underlying3 rfl) rfl ?_
 obtain ⟨t5,d9,h⟩:=bsome h
 refine EL_p (.int .i64 (t5)) (P_int rfl rfl (congrArg (Option.map (Value.int .i64)) d9)) rfl ?_
 refine EL_in (.int .i64 ((w64 ((1:Int) + t5)))) rfl rfl rfl rfl ?_
 obtain ⟨y11,x6,h⟩:=bsome h
 refine EL_p (fPtr p1 (((2:Int):Int).toNat * 1)) (P_indexAddrA (α:=UInt8) Try.underlying64 Try.sizeOf5 rfl (PT.ptr q1) rfl x6) rfl ?_
 have z9:=PT_idxA q1 x6
 refine Ze .plain rfl (D_load (g:=g2) Try.isAgg5 Try.sizeOf5 rfl z9 fun tB bA=>?_)
 obtain rfl:=RV_u8.1 bA
 refine EL_p (.int .i64 (((y11).toNat:Int))) (P_u8int Try.underlying5 Try.underlying3 rfl) rfl ?_
 obtain ⟨o0,k9,h⟩:=bsome h
 refine EL_p (.int .i64 (o0)) (P_int rfl rfl (congrArg (Option.map (Value.int .i64)) k9)) rfl ?_
 refine EL_in (.int .i64 ((w64 ((10:Int) + o0)))) rfl rfl rfl rfl ?_
 obtain ⟨i6,i7,h⟩:=bsome h
 refine EL_p (fPtr p1 (((3:Int):Int).toNat * 1)) (P_indexAddrA (α:=UInt8) Try.underlying64 Try.sizeOf5 rfl (PT.ptr q1) rfl i7) rfl ?_
 have iA:=PT_idxA q1 i7
 refine Ze .plain rfl (D_load (g:=g2) Try.isAgg5 Try.sizeOf5 rfl iA fun vB rA=>?_)
 obtain rfl:=RV_u8.1 rA
 refine EL_p (.int .i64 (((i6).toNat:Int))) (P_u8int Try.underlying5 Try.underlying3 rfl) rfl ?_
 obtain ⟨u3,l9,h⟩:=bsome h
 refine EL_p (.int .i64 (u3)) (P_int rfl rfl (congrArg (Option.map (Value.int .i64)) l9)) rfl ?_
 refine EL_in (.int .i64 ((w64 ((10:Int) + u3)))) rfl rfl rfl rfl ?_
 have r8:RV g2.m w2 (⟨(w64 ((10:Int) + o0)),(w64 ((10:Int) + u3))⟩:BeamPair) (.agg (setCh [[.int .i64 0],[.int .i64 0]] [(0,.int .i64 ((w64 ((10:Int) + o0)))),(1,.int .i64 ((w64 ((10:Int) + u3))))]).flatten.toArray):=RV_build rfl (rep_pair (rfl) (rep_last (rfl)))
 generalize n9:(Value.agg (setCh [[.int .i64 0],[.int .i64 0]] [(0,.int .i64 ((w64 ((10:Int) + o0)))),(1,.int .i64 ((w64 ((10:Int) + u3))))]).flatten.toArray)=v8 at r8
 refine EL_p v8 (n9 ▸ P_build (vs:=[(0,.int .i64 ((w64 ((10:Int) + o0)))),(1,.int .i64 ((w64 ((10:Int) + u3))))]) [[.int .i64 0],[.int .i64 0]] lay_175 rfl rfl (.cons rfl (.cons rfl .nil)) ⟨⟨_,rfl,rfl⟩,⟨⟨_,rfl,rfl⟩,trivial⟩⟩) rfl ?_
 refine Ze .plain rfl (D_buildSlice (g:=g2) 3024 (xs:=([(⟨(w64 ((10:Int) + o0)),(w64 ((10:Int) + u3))⟩:BeamPair)]:List BeamPair)) (vs:=[v8]) Try.underlying66 Try.sizeOf175 Try.zeroValue175 rfl rfl (.cons rfl .nil) (RVs.cons r8 RVs.nil) rfl rfl fun m7 yB g8 hs o20 k8 hxt hfl=>?_)
 have hfr:=hfr.stp hs
 have q1:=q1.stp hs
 have b2:=b2.stp hs rfl
 obtain ⟨l5,l8,h⟩:=bsome h
 refine EL_p (fPtr p1 (((0:Int):Int).toNat * 1)) (P_indexAddrA (α:=UInt8) Try.underlying64 Try.sizeOf5 rfl (PT.ptr q1) rfl l8) rfl ?_
 have yA:=PT_idxA q1 l8
 refine Ze .plain rfl (D_load (g:=m7) Try.isAgg5 Try.sizeOf5 rfl yA fun zB aB=>?_)
 obtain rfl:=RV_u8.1 aB
 refine EL_p (.int .i64 (((l5).toNat:Int))) (P_u8int Try.underlying5 Try.underlying3 rfl) rfl ?_
 refine EL_in (.int .i64 ((w64 ((1000:Int) * ((l5).toNat:Int))))) rfl rfl rfl rfl ?_
 refine EL_p (.int .i64 ((w64 ((100000:Int) + (w64 ((1000:Int) * ((l5).toNat:Int))))))) (P_int rfl rfl rfl) rfl ?_
 have x8:RV m7.m _ (⟨(w64 ((20:Int) + y6)),(w64 ((1:Int) + t5)),([(⟨(w64 ((10:Int) + o0)),(w64 ((10:Int) + u3))⟩:BeamPair)]:List BeamPair),(w64 ((100000:Int) + (w64 ((1000:Int) * ((l5).toNat:Int)))))⟩:BeamTake) (.agg (setCh [[.int .i64 0],[.int .i64 0],[.slice none 0 0],[.int .i64 0]] [(0,.int .i64 ((w64 ((20:Int) + y6)))),(1,.int .i64 ((w64 ((1:Int) + t5)))),(2,g8),(3,.int .i64 ((w64 ((100000:Int) + (w64 ((1000:Int) * ((l5).toNat:Int)))))))]).flatten.toArray):=RV_build rfl (rep_pair (rfl) (rep_pair (rfl) (rep_pair (RV.cells k8) (rep_last (rfl)))))
 generalize m8:(Value.agg (setCh [[.int .i64 0],[.int .i64 0],[.slice none 0 0],[.int .i64 0]] [(0,.int .i64 ((w64 ((20:Int) + y6)))),(1,.int .i64 ((w64 ((1:Int) + t5)))),(2,g8),(3,.int .i64 ((w64 ((100000:Int) + (w64 ((1000:Int) * ((l5).toNat:Int)))))))]).flatten.toArray)=a9 at x8
 refine EL_p a9 (m8 ▸ P_build (vs:=[(0,.int .i64 ((w64 ((20:Int) + y6)))),(1,.int .i64 ((w64 ((1:Int) + t5)))),(2,g8),(3,.int .i64 ((w64 ((100000:Int) + (w64 ((1000:Int) * ((l5).toNat:Int)))))))]) [[.int .i64 0],[.int .i64 0],[.slice none 0 0],[.int .i64 0]] lay_68 rfl rfl (.cons rfl (.cons rfl (.cons rfl (.cons rfl .nil)))) ⟨⟨_,rfl,rfl⟩,⟨⟨_,rfl,rfl⟩,⟨⟨_,rfl,cells_size k8⟩,⟨⟨_,rfl,rfl⟩,trivial⟩⟩⟩⟩) rfl ?_
 refine Ze .plain rfl (D_storeOc (g:=m7) (v:=a9) Try.sizeOf68 rfl b2 rfl x8 fun dB iB hs b25 cb=>?_)
 obtain ⟨lB,mB,x5,_,_⟩:=RV_list k8
 have nB:OSF 2002 3024 2 dB iB 175 68 (([(⟨(w64 ((10:Int) + o0)),(w64 ((10:Int) + u3))⟩:BeamPair)]:List BeamPair):List BeamPair) p2:=cb.osfv (by rw [← m8,x5]; rfl) (o20.stp hs rfl)
 clear cb
 have hfr:=hfr.stp hs
 refine Zb (Zd (E_ret ?_))
 obtain rfl:=sinj h
 obtain ⟨ad26,cv26,hp26,u9,cr26⟩:=ob_read Try.isAgg68 Try.sizeOf68 b25
 exact endm_c rfl rfl ((show _=p2 from rfl).trans hp26) u9 ⟨_,hfr,cr26⟩
def f20 (x0:BeamTake):Option (Int × Int):=
 (idx ((x0).Pairs) (0:Int)).bind fun y8=>
 (idx ((x0).Pairs) (0:Int)).bind fun o0=>
 some ((w64 ((w64 ((x0).Round * (x0).Step)) * (y8).Driver)),(w64 ((x0).Ratchet * (o0).Driven)))
theorem en20:Enters Try.prog 20:=enters_of Try.func20 (by kernel_rfl) rfl
theorem wk20 {gI:Gh} {wI:World} {x0:BeamTake} {up0:Value} (rp0:RV gI.m wI x0 up0) {r:Int × Int} (h:f20 x0=some r):Fn Try.prog 20 #[up0] gI wI (fun m w v=>∃ y0 y1,v=.tuple #[y0,y1]∧y0=.int .i64 (r.1)∧y1=.int .i64 (r.2)):=by
 unfold f20 at h
 refine fn_of_E Try.func20 rfl (Nat.le_of_ble_eq_true rfl) fun g0 hm hfr=>?_
 have rp0:RV g0.m wI x0 up0:=hm ▸ rp0
 show E _ 23 none _ _ _ _ _
 refine Zf (Za (Ze .plain rfl (D_box (g:=g0) rfl rp0 fun g1 w1 p1 hs q1=>?_)))
 have hfr:=hfr.ext hs
 refine Zg (.int .i64 (0)) rfl rfl ?_
 refine Zg (.int .i64 (0)) rfl rfl ?_
 refine Zb (Zd (Zf ?_))
 have q2:=Zm (part_BeamTake_3).1 q1
 refine Zs (x:=.tmp 4) Try.isAgg3 Try.sizeOf3 q2 fun v3 r3 g8=>?_
 obtain rfl:=Zj.1 r3
 have q4:=Zm (part_BeamTake_1).1 q1
 refine Zs (x:=.tmp 6) Try.isAgg3 Try.sizeOf3 q4 fun v5 r5 k8=>?_
 obtain rfl:=Zj.1 r5
 have q6:=Zm (part_BeamTake_2).1 q1
 refine Zs (x:=.tmp 9) Try.isAgg66 Try.sizeOf66 q6 fun v7 r7 hl7=>?_
 obtain ⟨y8,t5,h⟩:=bsome h
 have q9:=PT_idx r7 t5
 have l8:=Zm (part_BeamPair_0).1 q9
 refine Zs (x:=.tmp 12) Try.isAgg3 Try.sizeOf3 l8 fun d9 m8 x6=>?_
 obtain rfl:=Zj.1 m8
 have n8:=Zm (part_BeamTake_0).1 q1
 refine Zs (x:=.tmp 15) Try.isAgg3 Try.sizeOf3 n8 fun k9 r8 y6=>?_
 obtain rfl:=Zj.1 r8
 have v8:=Zm (part_BeamTake_2).1 q1
 refine Zs (x:=.tmp 17) Try.isAgg66 Try.sizeOf66 v8 fun u3 x5 i7=>?_
 obtain ⟨o0,l5,h⟩:=bsome h
 have i6:=PT_idx x5 l5
 have x8:=Zm (part_BeamPair_1).1 i6
 refine Zs (x:=.tmp 20) Try.isAgg3 Try.sizeOf3 x8 fun l9 a9 m7=>?_
 obtain rfl:=Zj.1 a9
 refine E_drawL (g:=g1) (n:=21) [] [0,1,2,3,4,5,6,7,8,9,10,11,12,13,14,15,16,17,18,19,20] rfl mixed (by kernel_rfl) trivial ?_
 refine L_p (fPtr p1 3) rfl rfl (Zc at_68_3 rfl (PT.ptr q1)) ?_
 refine L_ld (c:=.int .i64 ((x0).Round)) rfl rfl .plain (fun _ _ h=>h.ch) g8 rfl ?_
 refine L_p (fPtr p1 1) rfl rfl (Zc at_68_1 rfl (PT.ptr q1)) ?_
 refine L_ld (c:=.int .i64 ((x0).Step)) rfl rfl .plain (fun _ _ h=>h.ch) k8 rfl ?_
 refine L_p (.int .i64 ((w64 ((x0).Round * (x0).Step)))) rfl rfl (P_int rfl rfl rfl) ?_
 refine L_p (fPtr p1 2) rfl rfl (Zc at_68_2 rfl (PT.ptr q1)) ?_
 refine L_ld (c:=v7) rfl rfl .plain (fun _ _ h=>h.ch) hl7 rfl ?_
 refine L_p (ePtr v7 (0:Int) 2) rfl rfl (Zh (α:=BeamPair) Try.underlying66 Try.sizeOf175 rfl r7 rfl t5) ?_
 refine L_p (fPtr (ePtr v7 (0:Int) 2) 0) rfl rfl (Zc at_175_0 rfl (PT.ptr q9)) ?_
 refine L_ld (c:=.int .i64 ((y8).Driver)) rfl rfl .plain (fun _ _ h=>h.ch) x6 rfl ?_
 refine L_p (.int .i64 ((w64 ((w64 ((x0).Round * (x0).Step)) * (y8).Driver)))) rfl rfl (P_int rfl rfl rfl) ?_
 refine L_p (fPtr p1 0) rfl rfl (Zc at_68_0 rfl (PT.ptr q1)) ?_
 refine L_ld (c:=.int .i64 ((x0).Ratchet)) rfl rfl .plain (fun _ _ h=>h.ch) y6 rfl ?_
 refine L_p (fPtr p1 2) rfl rfl (Zc at_68_2 rfl (PT.ptr q1)) ?_
 refine L_ld (c:=u3) rfl rfl .plain (fun _ _ h=>h.ch) i7 rfl ?_
 refine L_p (ePtr u3 (0:Int) 2) rfl rfl (Zh (α:=BeamPair) Try.underlying66 Try.sizeOf175 rfl x5 rfl l5) ?_
 refine L_p (fPtr (ePtr u3 (0:Int) 2) 1) rfl rfl (Zc at_175_1 rfl (PT.ptr i6)) ?_
 refine L_ld (c:=.int .i64 ((o0).Driven)) rfl rfl .plain (fun _ _ h=>h.ch) m7 rfl ?_
 refine L_p (.int .i64 ((w64 ((x0).Ratchet * (o0).Driven)))) rfl rfl (P_int rfl rfl rfl) ?_
 refine L_p (.int .i64 ((w64 ((w64 ((x0).Round * (x0).Step)) * (y8).Driver)))) rfl rfl (P_assign rfl) ?_
 refine L_p (.int .i64 ((w64 ((x0).Ratchet * (o0).Driven)))) rfl rfl (P_assign rfl) ?_
 refine L_nl fun n9 u9 hs=>?_
 have hfr:=hfr.ext hs
 clear hs
 refine Zb (Zd (E_ret ?_))
 obtain rfl:=sinj h
 exact end2 rfl rfl (show _=.int .i64 ((w64 ((w64 ((x0).Round * (x0).Step)) * (y8).Driver))) from rfl) (show _=.int .i64 ((w64 ((x0).Ratchet * (o0).Driven))) from rfl) ⟨_,hfr,_,_,rfl,rfl,rfl⟩
def f22 (x0:List Int):Option ((List Int)):=
 (apnd 8 (([]:List Int)) x0).bind fun y3=>
 some (y3)
theorem en22:Enters Try.prog 22:=enters_of Try.func22 (by kernel_rfl) rfl
theorem wk22 {gI:Gh} {wI:World} {x0:List Int} {up0:Value} (rp0:RV gI.m wI x0 up0) {r:(List Int)} (h:f22 x0=some r):Fn Try.prog 22 #[up0] gI wI (fun m w v=>RV m w (r) v):=by
 unfold f22 at h
 refine fn_of_E Try.func22 rfl (Nat.le_of_ble_eq_true rfl) fun g0 hm hfr=>?_
 have rp0:RV g0.m wI x0 up0:=hm ▸ rp0
 show E _ 6 none _ _ _ _ _
 refine Zf (Za (Zg (.slice none 0 0) rfl rfl ?_))
 refine Zb (Zd (Zf (Za (Ze .plain rfl (D_buildSlice (g:=g0) 3003 (xs:=([]:List Int)) (vs:=[]) Try.underlying26 Try.sizeOf3 Try.zeroValue3 rfl rfl .nil RVs.nil rfl rfl fun g1 w1 v1 hs o1 r1 hxt hfl=>?_)))))
 have hfr:=hfr.stp hs
 have rp0:=rp0.stp hs
 refine Zn up0 rfl rfl ?_
 obtain ⟨y3,hy3,h⟩:=bsome h
 refine Ze .plain rfl (D_append (g:=g1) (i:=3003) Try.underlying26 info_3 rfl rfl o1 r1 rfl rp0 hy3 fun g2 w2 v2 hs o2 r2 _=>?_)
 have hfr:=hfr.stp hs
 refine Zg v2 rfl rfl ?_
 refine Zb (Zd (E_ret ?_))
 obtain rfl:=sinj h
 exact end1 rfl rfl (show _=v2 from rfl) ⟨_,hfr,r2⟩
def f25 (x0:BeamTake):Option (BeamTake):=
 (apnd 16 (([]:List BeamPair)) ((x0).Pairs)).bind fun y7=>
 some ({ x0 with Pairs:=y7 })
theorem en25:Enters Try.prog 25:=enters_of Try.func25 (by kernel_rfl) rfl
theorem wk25 {gI:Gh} {wI:World} {x0:BeamTake} {up0:Value} (rp0:RV gI.m wI x0 up0) {r:BeamTake} (h:f25 x0=some r):Fn Try.prog 25 #[up0] gI wI (fun m w v=>RV m w (r) v):=by
 unfold f25 at h
 refine fn_of_E Try.func25 rfl (Nat.le_of_ble_eq_true rfl) fun g0 hm hfr=>?_
 have rp0:RV g0.m wI x0 up0:=hm ▸ rp0
 show E _ 9 none _ _ _ _ _
 refine Zf (Za (Ze .plain rfl (D_boxO (g:=g0) 2001 rfl rp0 fun g1 w1 p1 hs b1=>?_)))
 have hfr:=hfr.stp hs
 refine Ze .plain rfl (D_allocOc (g:=g1) 2002 (⟨0,0,[],0⟩:BeamTake) Try.zeroValue68 (fun m w=>⟨_,(rep_two rep_int (rep_two rep_int (rep_two rep_nil rep_int))),rfl⟩) fun g2 w2 p2 hs b2 cb=>?_)
 have hfr:=hfr.stp hs
 have b1:=b1.stp hs rfl
 have t5:OSF 2002 60202 2 g2 w2 175 68 ([]:List BeamPair) p2:=cb.osf (by rfl)
 clear cb
 refine Zb (Zd (Zf (Za (Ze .plain rfl (D_buildSlice (g:=g2) 3003 (xs:=([]:List BeamPair)) (vs:=[]) Try.underlying66 Try.sizeOf175 Try.zeroValue175 rfl rfl .nil RVs.nil rfl rfl fun g3 w3 v3 hs o3 r3 hxt hfl=>?_)))))
 have hfr:=hfr.stp hs
 have b1:=b1.stp hs rfl
 have b2:=b2.stp hs rfl
 refine EL_p (fPtr p1 2) (Zc at_68_2 rfl (OB.ptr b1)) rfl ?_
 refine Ze .plain rfl (D_loadF (g:=g3) part_BeamTake_2.1 Try.isAgg66 Try.sizeOf66 rfl b1 fun v5 r5=>?_)
 obtain ⟨y7,o0,h⟩:=bsome h
 refine Ze .plain rfl (D_append (g:=g3) (i:=3003) Try.underlying66 info_175 rfl rfl o3 r3 rfl r5 o0 fun g6 w6 v6 hs o6 r6 _=>?_)
 have hfr:=hfr.stp hs
 have b1:=b1.stp hs rfl
 have b2:=b2.stp hs rfl
 refine EL_p (fPtr p1 2) (Zc at_68_2 rfl (OB.ptr b1)) rfl ?_
 refine Ze .plain rfl (D_storeFc (g:=g6) part_BeamTake_2 Try.sizeOf66 rfl b1 rfl r6 fun g9 w9 hs b9 rst hos=>?_)
 have x5:=hos _ _ 3003 175 (y7:List BeamPair) (rv_cells1 r6) rfl o6
 clear rst hos
 have hfr:=hfr.stp hs
 have b2:=b2.stp hs rfl
 refine Zb (Zd (Zf (Za (Ze .plain rfl (D_loadO (g:=g9) Try.isAgg68 Try.sizeOf68 rfl b9 fun u3 l5=>?_)))))
 refine Ze .plain rfl (D_storeOc (g:=g9) (v:=u3) Try.sizeOf68 rfl b2 rfl l5 fun i6 x6 hs b11 cb=>?_)
 clear cb
 have hfr:=hfr.stp hs
 refine Zb (Zd (E_ret ?_))
 obtain rfl:=sinj h
 obtain ⟨ad12,cv12,hp12,hl12,cr12⟩:=ob_read Try.isAgg68 Try.sizeOf68 b11
 exact endm_c rfl rfl ((show _=p2 from rfl).trans hp12) hl12 ⟨_,hfr,cr12⟩
def f51 (x0:Int) (x1:Int):Option (Span):=
 some ((⟨x0,x1⟩:Span))
theorem en51:Enters Try.prog 51:=enters_of Try.func51 (by kernel_rfl) rfl
theorem wk51 {gI:Gh} {wI:World} {x0:Int} {x1:Int}  {r:Span} (h:f51 x0 x1=some r):Fn Try.prog 51 #[.int .i64 (x0),.int .i64 (x1)] gI wI (fun m w v=>RV m w (r) v):=by
 unfold f51 at h
 refine fn_of_E Try.func51 rfl (Nat.le_of_ble_eq_true rfl) fun g0 hm hfr=>?_
 show E _ 8 none _ _ _ _ _
 refine Zf (Za (Ze .plain rfl (D_allocOc (g:=g0) 2004 (⟨0,0⟩:Span) Try.zeroValue35 (fun m w=>⟨_,(rep_two rep_int rep_int),rfl⟩) fun g1 w1 p1 hs b1 cb=>?_)))
 have hfr:=hfr.stp hs
 clear cb
 refine Zb (Zd (Zf (Za (Zn (.int .i64 (x0)) rfl rfl ?_))))
 refine Zn (.int .i64 (x1)) rfl rfl ?_
 have r2:RV g1.m w1 (⟨x0,x1⟩:Span) (.agg (setCh [[.int .i64 0],[.int .i64 0]] [(0,.int .i64 (x0)),(1,.int .i64 (x1))]).flatten.toArray):=RV_build rfl (rep_pair (rfl) (rep_last (rfl)))
 generalize hv2:(Value.agg (setCh [[.int .i64 0],[.int .i64 0]] [(0,.int .i64 (x0)),(1,.int .i64 (x1))]).flatten.toArray)=v2 at r2
 refine EL_p v2 (hv2 ▸ P_build (vs:=[(0,.int .i64 (x0)),(1,.int .i64 (x1))]) [[.int .i64 0],[.int .i64 0]] lay_35 rfl rfl (.cons rfl (.cons rfl .nil)) ⟨⟨_,rfl,rfl⟩,⟨⟨_,rfl,rfl⟩,trivial⟩⟩) rfl ?_
 refine Ze .plain rfl (D_storeOc (g:=g1) (v:=v2) Try.sizeOf35 rfl b1 rfl r2 fun g3 w3 hs b3 cb=>?_)
 clear cb
 have hfr:=hfr.stp hs
 refine Zb (Zd (E_ret ?_))
 obtain rfl:=sinj h
 obtain ⟨ad4,cv4,hp4,o0,cr4⟩:=ob_read Try.isAgg35 Try.sizeOf35 b3
 exact endm_c rfl rfl ((show _=p1 from rfl).trans hp4) o0 ⟨_,hfr,cr4⟩
def f64 (x0:List Int):Option ((List (List Int))):=
 Option.bind (α:=(List (List Int))) (
  lp (σ:=(List (List Int)) × Int) (fun k19 (y6,o0)=>
   bif (decide (o0 < ((x0).length : Int))) then
    Option.bind (α:=(List (List Int))) (
     (idx x0 o0).bind fun x6=>
     (apnd 24 y6 (([([x6]:List Int)]:List (List Int)))).bind fun iA=>
     some (iA)
     ) fun x5=>
    k19 (x5,(w64 (o0 + (1:Int))))
   else
    some (y6)
   ) big ([],(0:Int))
  ) fun i6=>
 some (i6)
theorem en64:Enters Try.prog 64:=enters_of Try.func64 (by kernel_rfl) rfl
theorem wk64 {gI:Gh} {wI:World} {x0:List Int} {up0:Value} (rp0:RV gI.m wI x0 up0) {r:(List (List Int))} (h:f64 x0=some r):Fn Try.prog 64 #[up0] gI wI (fun m w v=>RV m w (r) v):=by
 unfold f64 at h
 refine fn_of_E Try.func64 rfl (Nat.le_of_ble_eq_true rfl) fun g0 hm hfr=>?_
 have rp0:RV g0.m wI x0 up0:=hm ▸ rp0
 show E _ 18 none _ _ _ _ _
 refine Zf (Za (Zg (.slice none 0 0) rfl rfl ?_))
 refine Zb (Zd ?_)
 obtain ⟨i6,hx,h⟩:=bsome h
 refine E_join (fun e w=>∃ (g:Gh) (v2:Value),Fr gI wI g w∧e 2=v2∧RV g.m w (i6:List (List Int)) v2∧OS 1002 g w 26 (i6:List (List Int)) v2) (fun Q' hQ=>?_) (fun mC uC hR=>?_)
 ·replace h := hx
  clear hx
  refine Zf (Za (Zn up0 rfl rfl ?_))
  refine EL_p (.int .i64 ((x0).length:Int)) (P_len Try.underlying26 rfl rp0) rfl ?_
  refine Zn (.int .i64 (0)) rfl rfl ?_
  refine Zb (Zd (Zr ?_))
  refine E_lp h (fun (s:(List (List Int)) × Int) e w=>∃ (g:Gh) (v2:Value),Fr gI wI g w∧e 2=v2∧RV g.m w (s.1:List (List Int)) v2∧OS 1002 g w 26 (s.1:List (List Int)) v2∧e 5=up0∧RV g.m w (x0:List Int) up0∧e 6=.int .i64 (((x0).length:Int))∧e 7=.int .i64 (s.2)) ⟨g0,(.slice none 0 0),hfr,rfl,RV_nil,OS.nil,rfl,rp0,rfl,rfl⟩ (fun X19 k19 yA=>?_)
  rintro ⟨y6,o0⟩ qC vC ⟨n8,v8,hfr,g8,l5,t5,k8,u3,l8,i7⟩ h
  refine Zf (Za (EL_in (.bool ((decide (o0 < ((x0).length:Int))))) i7 l8 rfl rfl ?_))
  refine Zb (Zd (Zf ?_))
  rcases Zt h with ⟨m7,h⟩ | ⟨m7,h⟩
  ·refine E_ct m7 rfl ?_
   refine Zu (Zd ?_)
   obtain ⟨x5,hx,h⟩:=bsome h
   refine E_join (fun e w=>∃ (g:Gh) (v2:Value),Fr gI wI g w∧e 2=v2∧RV g.m w (x5:List (List Int)) v2∧OS 1002 g w 26 (x5:List (List Int)) v2∧e 5=up0∧RV g.m w (x0:List Int) up0∧e 6=.int .i64 (((x0).length:Int))∧e 7=.int .i64 (o0)) (fun Q' hQ=>?_) (fun rC aD hR=>?_)
   ·replace h := hx
    clear hx
    refine Zr ?_
    refine Zf (Za ?_)
    obtain ⟨x6,r8,h⟩:=bsome h
    refine EL_p (ePtr up0 o0 1) (Zh (α:=Int) Try.underlying26 Try.sizeOf3 k8 u3 i7 r8) rfl ?_
    have dB:=PT_idx u3 r8
    refine Ze .plain rfl (D_load (g:=n8) Try.isAgg3 Try.sizeOf3 rfl dB fun bD iB=>?_)
    obtain rfl:=Zj.1 iB
    refine Zg (.int .i64 (x6)) rfl rfl ?_
    refine Zb (Zd (Za (Zo g8 rfl ?_)))
    refine Zn (.int .i64 (x6)) rfl rfl ?_
    refine Ze .plain rfl (D_buildSlice (g:=n8) 3013 (xs:=([x6]:List Int)) (vs:=[.int .i64 (x6)]) Try.underlying26 Try.sizeOf3 Try.zeroValue3 rfl rfl (.cons rfl .nil) (RVs.cons (Zj.2 rfl) RVs.nil) rfl rfl fun lB cD mB hs o32 nB hxt hfl=>?_)
    have hfr:=hfr.stp hs
    have l5:=l5.stp hs
    have t5:=t5.stp hs rfl
    have u3:=u3.stp hs
    refine Ze .plain rfl (D_buildSlice (g:=lB) 3014 (xs:=([([x6]:List Int)]:List (List Int))) (vs:=[mB]) Try.underlying146 Try.sizeOf26 Try.zeroValue26 rfl rfl (.cons rfl .nil) (RVs.cons nB RVs.nil) rfl rfl fun oB eD gD hs o33 tB hxt hfl=>?_)
    have hfr:=hfr.stp hs
    have l5:=l5.stp hs
    have t5:=t5.stp hs rfl
    have u3:=u3.stp hs
    obtain ⟨iA,aB,h⟩:=bsome h
    refine Ze .plain rfl (D_append (g:=oB) (i:=1002) Try.underlying146 info_26 rfl rfl t5 l5 rfl tB aB fun vB iD rA hs o34 yB _=>?_)
    have hfr:=hfr.stp hs
    have u3:=u3.stp hs
    refine Zg rA rfl rfl ?_
    refine Zb (blk_n ?_)
    obtain rfl:=sinj h
    exact hQ _ _ ⟨vB,(rA),hfr,rfl,yB,o34,k8,u3,l8,i7⟩
   ·clear hx
    obtain ⟨zB,x8,hfr,a9,d9,k9,l9,n9,u9,y9⟩:=hR
    refine Za (EL_in (.int .i64 ((w64 (o0 + (1:Int))))) y9 rfl rfl rfl ?_)
    refine Zn (.int .i64 ((w64 (o0 + (1:Int))))) rfl rfl ?_
    exact Zb (Zd (yA (x5,(w64 (o0 + (1:Int)))) _ _ ⟨zB,(x8),hfr,a9,d9,k9,l9,n9,u9,rfl⟩ h))
  ·refine E_cf m7 rfl ?_
   refine E_exit ?_
   refine thn_e ?_
   refine thn_e ?_
   refine blk_hit ?_
   obtain rfl:=sinj h
   exact hQ _ _ ⟨n8,(v8),hfr,g8,l5,t5⟩
 ·clear hx
  obtain ⟨jD,m8,hfr,z9,bA,cC⟩:=hR
  refine Zf (Za (Zo z9 rfl ?_))
  refine Zg m8 rfl rfl ?_
  refine Zb (Zd (E_ret ?_))
  obtain rfl:=sinj h
  exact end1 rfl rfl (show _=m8 from rfl) ⟨_,hfr,bA⟩
def f65 (x0:BoxBoxLoom) (x1:Int→BoxShuttle→Option Int):Option (BoxRace):=
 Option.bind (α:=BoxRace) (
  lp (σ:=BoxRace × Int) (fun zD (m7,o0)=>
   bif (decide (o0 < ((((x0).BoxLoom).Shuttles).length : Int))) then
    Option.bind (α:=BoxRace) (
     (idx (((x0).BoxLoom).Shuttles) o0).bind fun x5=>
     (x1 o0 x5).bind fun v8=>
     (idx ((m7).boxes).toList (x5).Side).bind fun mB=>
     (idx (mB).toList (x5).Box).bind fun y158=>
     some ({ m7 with boxes:=(vmod ((m7).boxes) ((x5).Side) (fun b=>(vset b ((x5).Box) v8))) })
     ) fun g8=>
    zD (g8,(w64 (o0 + (1:Int))))
   else
    some (m7)
   ) big ((⟨(⟨List.toArray [(⟨List.toArray [0,0,0,0],rfl⟩:Vector Int 4),(⟨List.toArray [0,0,0,0],rfl⟩:Vector Int 4)],rfl⟩:Vector (Vector Int 4) 2),⟨0,0⟩⟩:BoxRace),(0:Int))
  ) fun r8=>
 (idx (((x0).BoxLoom).At) (0:Int)).bind fun i6=>
 (idx (((x0).BoxLoom).At) (1:Int)).bind fun x6=>
 some ({ r8 with at_:=(⟨i6,x6⟩:BoxPick) })
theorem en65:Enters Try.prog 65:=enters_of Try.func65 (by kernel_rfl) rfl
theorem wk65 {gI:Gh} {wI:World} {x0:BoxBoxLoom} {x1:Int→BoxShuttle→Option Int} {up0:Value} (rp0:RV gI.m wI x0 up0) {up1:Value} (rp1:FnV2 Try.prog x1 up1 gI wI) {r:BoxRace} (h:f65 x0 x1=some r):Fn Try.prog 65 #[up0,up1] gI wI (fun m w v=>RV m w (r) v):=by
 unfold f65 at h
 refine fn_of_E Try.func65 rfl (Nat.le_of_ble_eq_true rfl) fun g0 hm hfr=>?_
 have rp0:RV g0.m wI x0 up0:=hm ▸ rp0
 obtain ⟨ff1,fa1,fc1,rfl,fen1,fcl1⟩:=rp1
 show E _ 41 none _ _ _ _ _
 refine Zf (Za (Ze .plain rfl (D_box (g:=g0) rfl rp0 fun g1 w1 p1 hs q1=>?_)))
 have hfr:=hfr.ext hs
 have rp0:=rp0.ext hs
 refine Ze .plain rfl (D_allocOc (g:=g1) 2004 (⟨(⟨List.toArray [(⟨List.toArray [0,0,0,0],rfl⟩:Vector Int 4),(⟨List.toArray [0,0,0,0],rfl⟩:Vector Int 4)],rfl⟩:Vector (Vector Int 4) 2),⟨0,0⟩⟩:BoxRace) Try.zeroValue153 (fun m w=>⟨_,(rep_two (rep_vec (flat_chunk (rep_vec (flat_chunk rep_int (flat_chunk rep_int (flat_chunk rep_int (flat_chunk rep_int flat_nil)))) rfl) (flat_chunk (rep_vec (flat_chunk rep_int (flat_chunk rep_int (flat_chunk rep_int (flat_chunk rep_int flat_nil)))) rfl) flat_nil)) rfl) (rep_two rep_int rep_int)),rfl⟩) fun g2 w2 p2 hs b2 cb=>?_)
 have hfr:=hfr.stp hs
 have rp0:=rp0.stp hs
 have q1:=q1.stp hs
 clear cb
 refine Zb (Zd ?_)
 obtain ⟨r8,hx,h⟩:=bsome h
 refine E_join (fun e w=>∃ (g:Gh) ,Fr gI wI g w∧e 2=p1∧PT g.m w (x0:BoxBoxLoom) p1∧e 4=p2∧OB 2004 g w 153 (r8:BoxRace) p2) (fun Q' hQ=>?_) (fun aG iE hR=>?_)
 ·replace h := hx
  clear hx
  refine Zf (Za (EL_p (fPtr p1 0) (Zc at_142_0 rfl (PT.ptr q1)) rfl ?_))
  have aE:=Zm (part_BoxBoxLoom_0).1 q1
  refine EL_p (fPtr (fPtr p1 0) 2) (Zc at_40_2 rfl (PT.ptr aE)) rfl ?_
  have zF:=Zm (part_BoxLoom_2).1 aE
  refine Ze .plain rfl (D_load (g:=g2) Try.isAgg38 Try.sizeOf38 rfl zF fun k9 bE=>?_)
  refine EL_p (.int .i64 ((((x0).BoxLoom).Shuttles).length:Int)) (P_len Try.underlying38 rfl bE) rfl ?_
  refine Zn (.int .i64 (0)) rfl rfl ?_
  refine Zb (Zd (Zr ?_))
  refine E_lp h (fun (s:BoxRace × Int) e w=>∃ (g:Gh) ,Fr gI wI g w∧e 1=(.func (.func ff1) fa1 fc1)∧e 2=p1∧PT g.m w (x0:BoxBoxLoom) p1∧e 4=p2∧OB 2004 g w 153 (s.1:BoxRace) p2∧e 9=k9∧RV g.m w (((x0).BoxLoom).Shuttles:List BoxShuttle) k9∧e 10=.int .i64 (((((x0).BoxLoom).Shuttles).length:Int))∧e 11=.int .i64 (s.2)) ⟨g2,hfr,rfl,rfl,q1,rfl,b2,rfl,bE,rfl,rfl⟩ (fun X98 zD lE=>?_)
  rintro ⟨m7,o0⟩ cG dH ⟨nB,hfr,y9,z9,t5,x8,u3,bA,l5,l9,k8⟩ h
  refine Zf (Za (EL_p (.bool ((decide (o0 < ((((x0).BoxLoom).Shuttles).length:Int))))) (P_int k8 l9 rfl) rfl ?_))
  refine Zb (Zd (Zf ?_))
  rcases Zt h with ⟨a9,h⟩ | ⟨a9,h⟩
  ·refine E_ct a9 rfl ?_
   refine Zu (Zd ?_)
   obtain ⟨g8,hx,h⟩:=bsome h
   refine E_join (fun e w=>∃ (g:Gh) ,Fr gI wI g w∧e 1=(.func (.func ff1) fa1 fc1)∧e 2=p1∧PT g.m w (x0:BoxBoxLoom) p1∧e 4=p2∧OB 2004 g w 153 (g8:BoxRace) p2∧e 9=k9∧RV g.m w (((x0).BoxLoom).Shuttles:List BoxShuttle) k9∧e 10=.int .i64 (((((x0).BoxLoom).Shuttles).length:Int))∧e 11=.int .i64 (o0)) (fun Q' hQ=>?_) (fun bG eG hR=>?_)
   ·replace h := hx
    clear hx
    refine Zr ?_
    refine Zf (Za (Zo k8 rfl ?_))
    obtain ⟨x5,iA,h⟩:=bsome h
    refine EL_p (ePtr k9 o0 5) (Zh (α:=BoxShuttle) Try.underlying38 Try.sizeOf37 bA l5 k8 iA) rfl ?_
    have y6:=PT_idx l5 iA
    refine Ze .plain rfl (D_load (g:=nB) Try.isAgg37 Try.sizeOf37 rfl y6 fun mE i7=>?_)
    refine Ze .plain rfl (D_allocOc (g:=nB) 2006 (⟨0,0,0,⟨0,0⟩⟩:BoxShuttle) Try.zeroValue37 (fun m w=>⟨_,(rep_two rep_int (rep_two rep_int (rep_two rep_int (rep_two rep_int rep_int)))),rfl⟩) fun oE gG oB hs b146 cb=>?_)
    have hfr:=hfr.stp hs
    have t5:=t5.stp hs
    have u3:=u3.stp hs rfl
    have l5:=l5.stp hs
    have y6:=y6.stp hs
    have i7:=i7.stp hs
    clear cb
    refine Zg (.int .i64 (o0)) rfl rfl ?_
    refine Ze .plain rfl (D_storeOc (g:=oE) (v:=mE) Try.sizeOf37 rfl b146 rfl i7 fun rE hG hs b147 cb=>?_)
    clear cb
    have hfr:=hfr.stp hs
    have t5:=t5.stp hs
    have u3:=u3.stp hs rfl
    have l5:=l5.stp hs
    have y6:=y6.stp hs
    have i7:=i7.stp hs
    refine Zb (Zd (L_loadO (x:=.tmp 16) part_BoxShuttle_1.1 Try.isAgg3 Try.sizeOf3 b147 fun iG uE jD=>?_))
    obtain rfl:=Zj.1 uE
    refine L_loadO (x:=.tmp 18) part_BoxShuttle_2.1 Try.isAgg3 Try.sizeOf3 b147 fun jG vE lD=>?_
    obtain rfl:=Zj.1 vE
    refine L_loadO0 (x:=.tmp 6) Try.isAgg37 Try.sizeOf37 b147 fun tB u9 nD=>?_
    obtain ⟨v8,oD,h⟩:=bsome h
    obtain ⟨mB,rA,h⟩:=bsome h
    obtain ⟨hi157,he157⟩:=vat_idx rA
    obtain ⟨y158,yA,h⟩:=bsome h
    obtain ⟨hi159,he159⟩:=vat_idx yA
    refine E_drawL (g:=rE) (n:=11) [(7,(fun v g w=>v=.int .i64 (v8)))] [0,1,2,3,4,5,6,7,8,9,10] rfl mixed (by kernel_rfl) (⟨fun _=>up_eq _,trivial⟩) ?_
    refine L_p (fPtr oB 1) rfl rfl (Zc at_37_1 rfl (OB.ptr b147)) ?_
    refine L_ld (c:=.int .i64 ((x5).Side)) rfl rfl .plain (fun _ _ h=>⟨h.ch,fun b hb _=>h.below.block b hb⟩) jD rfl ?_
    refine L_p (fPtr oB 2) rfl rfl (Zc at_37_2 rfl (OB.ptr b147)) ?_
    refine L_ld (c:=.int .i64 ((x5).Box)) rfl rfl .plain (fun _ _ h=>⟨h.ch,fun b hb _=>h.below.block b hb⟩) lD rfl ?_
    refine L_p ((.func (.func ff1) fa1 fc1)) rfl rfl (Zk y9) ?_
    refine L_p (.int .i64 (o0)) rfl rfl (Zk rfl) ?_
    refine L_ld (c:=tB) rfl rfl .plain (fun _ _ h=>⟨h.ch,fun b hb _=>h.below.block b hb⟩) nD rfl ?_
    refine L_do (φ:=fun v g w=>v=.int .i64 (v8)) rfl rfl .plain (fun g w hd=>D_callv (g:=g) (vs:=[.int .i64 (o0),tB]) rfl fen1 (.cons rfl (.cons rfl .nil)) (fcl1 _ _ (hfr.ext hd.1).ch _ _ _ _ _  (Zj.2 rfl) (u9.ext hd.1) oD) fun g' w' v hs hr=>⟨g',hs,Zj.1 hr⟩) (fun kG hv=>?_)
    obtain ⟨_,_,_,rfl⟩:=hv
    refine L_p (fPtr p2 0) rfl rfl (Zc at_153_0 x8 (OB.ptr u3)) ?_
    refine L_p (fPtr p2 (0 + ((x5).Side:Int).toNat * 4)) rfl rfl (P_indexAddrA2 (α:=Vector Int 4) (o1:=0) rfl Try.underlying149 Try.sizeOf148 rfl (OB.ptr u3) rfl rA) ?_
    refine L_p (fPtr p2 ((0 + ((x5).Side:Int).toNat * 4) + ((x5).Box:Int).toNat * 1)) rfl rfl (P_indexAddrA2 (α:=Int) (o1:=(0 + ((x5).Side:Int).toNat * 4)) rfl Try.underlying148 Try.sizeOf3 rfl (OB.ptr u3) rfl yA) ?_
    refine L_nl fun xE lG hs=>?_
    have hfr:=hfr.ext hs
    have t5:=t5.ext hs
    have u3:=u3.ext hs
    have l5:=l5.ext hs
    have y6:=y6.ext hs
    have i7:=i7.ext hs
    have b147:=b147.ext hs
    have u9:=u9.ext hs
    clear hs
    refine Ze .plain rfl (D_storeFc (g:=xE) (SubS.at_ (SubS.comp part_BoxRace_0 (SubS.dynC hi157 (SubS.dyn hi159) rfl) rfl) (by first | rfl | exact Nat.add_assoc _ _ _ | simp only [Nat.add_assoc,Nat.zero_add] | omega)) Try.sizeOf3 rfl u3 rfl (Zj.2 rfl) fun yE mG hs b184 rst hos=>?_)
    clear rst hos
    have hfr:=hfr.stp hs
    have t5:=t5.stp hs
    have l5:=l5.stp hs
    refine Zb (blk_n ?_)
    obtain rfl:=sinj h
    exact hQ _ _ ⟨yE,hfr,y9,z9,t5,x8,b184,bA,l5,l9,k8⟩
   ·clear hx
    obtain ⟨zE,hfr,vB,yB,zB,cC,mC,qC,rC,iB,lB⟩:=hR
    refine Za (EL_in (.int .i64 ((w64 (o0 + (1:Int))))) lB rfl rfl rfl ?_)
    refine Zn (.int .i64 ((w64 (o0 + (1:Int))))) rfl rfl ?_
    exact Zb (Zd (lE (g8,(w64 (o0 + (1:Int)))) _ _ ⟨zE,hfr,vB,yB,zB,cC,mC,qC,rC,iB,rfl⟩ h))
  ·refine E_cf a9 rfl ?_
   refine E_exit ?_
   refine thn_e ?_
   refine thn_e ?_
   refine blk_hit ?_
   obtain rfl:=sinj h
   exact hQ _ _ ⟨nB,hfr,z9,t5,x8,u3⟩
 ·clear hx
  obtain ⟨uC,hfr,n9,l8,m8,n8⟩:=hR
  refine Zf ?_
  have vC:=Zm (part_BoxBoxLoom_0).1 l8
  have cF:=Zm (part_BoxLoom_1).1 vC
  refine Zs (x:=.tmp 29) Try.isAgg26 Try.sizeOf26 cF fun aD bD sD=>?_
  obtain ⟨i6,aB,h⟩:=bsome h
  have dF:=PT_idx bD aB
  refine Zs (x:=.tmp 31) Try.isAgg3 Try.sizeOf3 dF fun sG eF tD=>?_
  obtain rfl:=Zj.1 eF
  have cD:=Zm (part_BoxBoxLoom_0).1 l8
  have rF:=Zm (part_BoxLoom_1).1 cD
  refine Zs (x:=.tmp 34) Try.isAgg26 Try.sizeOf26 rF fun eD gD uD=>?_
  obtain ⟨x6,dB,h⟩:=bsome h
  have sF:=PT_idx gD dB
  refine Zs (x:=.tmp 36) Try.isAgg3 Try.sizeOf3 sF fun xG tF vD=>?_
  obtain rfl:=Zj.1 tF
  have d9:RV uC.m iE (⟨i6,x6⟩:BoxPick) (.agg (setCh [[.int .i64 0],[.int .i64 0]] [(0,.int .i64 (i6)),(1,.int .i64 (x6))]).flatten.toArray):=RV_build rfl (rep_pair (rfl) (rep_last (rfl)))
  generalize xD:(Value.agg (setCh [[.int .i64 0],[.int .i64 0]] [(0,.int .i64 (i6)),(1,.int .i64 (x6))]).flatten.toArray)=uF at d9
  refine E_drawL (g:=uC) (n:=12) [] [0,1,2,3,4,5,6,7,8,9,10,11] rfl mixed (by kernel_rfl) trivial ?_
  refine L_p (fPtr p1 0) rfl rfl (Zc at_142_0 n9 (PT.ptr l8)) ?_
  refine L_p (fPtr (fPtr p1 0) 1) rfl rfl (Zc at_40_1 rfl (PT.ptr vC)) ?_
  refine L_ld (c:=aD) rfl rfl .plain (fun _ _ h=>h.ch) sD rfl ?_
  refine L_p (ePtr aD (0:Int) 1) rfl rfl (Zh (α:=Int) Try.underlying26 Try.sizeOf3 rfl bD rfl aB) ?_
  refine L_ld (c:=.int .i64 (i6)) rfl rfl .plain (fun _ _ h=>h.ch) tD rfl ?_
  refine L_p (fPtr p1 0) rfl rfl (Zc at_142_0 n9 (PT.ptr l8)) ?_
  refine L_p (fPtr (fPtr p1 0) 1) rfl rfl (Zc at_40_1 rfl (PT.ptr cD)) ?_
  refine L_ld (c:=eD) rfl rfl .plain (fun _ _ h=>h.ch) uD rfl ?_
  refine L_p (ePtr eD (1:Int) 1) rfl rfl (Zh (α:=Int) Try.underlying26 Try.sizeOf3 rfl gD rfl dB) ?_
  refine L_ld (c:=.int .i64 (x6)) rfl rfl .plain (fun _ _ h=>h.ch) vD rfl ?_
  refine L_p uF rfl rfl (xD ▸ P_build (vs:=[(0,.int .i64 (i6)),(1,.int .i64 (x6))]) [[.int .i64 0],[.int .i64 0]] lay_151 rfl rfl (.cons rfl (.cons rfl .nil)) ⟨⟨_,rfl,rfl⟩,⟨⟨_,rfl,rfl⟩,trivial⟩⟩) ?_
  refine L_p (fPtr p2 8) rfl rfl (Zc at_153_1 m8 (OB.ptr n8)) ?_
  refine L_nl fun vF yG hs=>?_
  have hfr:=hfr.ext hs
  have n8:=n8.ext hs
  have d9:=d9.ext hs
  clear hs
  refine Ze .plain rfl (D_storeFc (g:=vF) part_BoxRace_1 Try.sizeOf151 rfl n8 rfl d9 fun iD zG hs b216 rst hos=>?_)
  clear rst hos
  have hfr:=hfr.stp hs
  refine Zb (Zd (Zf (Za (Ze .plain rfl (D_loadO (g:=iD) Try.isAgg153 Try.sizeOf153 m8 b216 fun xF yF=>?_)))))
  refine Ze .plain rfl (D_storeOc (g:=iD) (v:=xF) Try.sizeOf153 m8 b216 rfl yF fun aH cH hs b218 cb=>?_)
  clear cb
  have hfr:=hfr.stp hs
  refine Zb (Zd (E_ret ?_))
  obtain rfl:=sinj h
  obtain ⟨ad219,cv219,hp219,yD,cr219⟩:=ob_read Try.isAgg153 Try.sizeOf153 b218
  exact endm_c rfl rfl ((show _=p2 from m8).trans hp219) yD ⟨_,hfr,cr219⟩
def f66 (x0:Int) (x1:BoxShuttle):Option (Int):=
 some ((w64 ((x1).Colour + (1:Int))))
theorem en66:Enters Try.prog 66:=enters_of Try.func66 (by kernel_rfl) rfl
theorem wk66 {gI:Gh} {wI:World} {x0:Int} {x1:BoxShuttle} {up1:Value} (rp1:RV gI.m wI x1 up1) {r:Int} (h:f66 x0 x1=some r):Fn Try.prog 66 #[.int .i64 (x0),up1] gI wI (fun _ _ v=>v=.int .i64 (r)):=by
 unfold f66 at h
 refine fn_of_E Try.func66 rfl (Nat.le_of_ble_eq_true rfl) fun g0 hm hfr=>?_
 have rp1:RV g0.m wI x1 up1:=hm ▸ rp1
 show E _ 8 none _ _ _ _ _
 refine Zf (Za (Ze .plain rfl (D_box (g:=g0) rfl rp1 fun g1 w1 p1 hs q1=>?_)))
 have hfr:=hfr.ext hs
 refine Zg (.int .i64 (0)) rfl rfl ?_
 refine Zb (Zd (Zf (Za (EL_p (fPtr p1 0) (Zc at_37_0 rfl (PT.ptr q1)) rfl ?_))))
 have q2:=Zm (part_BoxShuttle_0).1 q1
 refine Ze .plain rfl (D_load (g:=g1) Try.isAgg3 Try.sizeOf3 rfl q2 fun v3 r3=>?_)
 obtain rfl:=Zj.1 r3
 refine EL_in (.int .i64 ((w64 ((x1).Colour + (1:Int))))) rfl rfl rfl rfl ?_
 refine Zg (.int .i64 ((w64 ((x1).Colour + (1:Int))))) rfl rfl ?_
 refine Zb (Zd (E_ret ?_))
 obtain rfl:=sinj h
 exact end1 rfl rfl (show _=.int .i64 ((w64 ((x1).Colour + (1:Int)))) from rfl) ⟨_,hfr,rfl⟩
def f67 (x0:BoxBoxLoom):Option (BoxMill):=
 (idx (((x0).BoxLoom).Boxes) (0:Int)).bind fun y5=>
 (idx (((x0).BoxLoom).Boxes) (1:Int)).bind fun y11=>
 some ((⟨y5,y11,⟨⟩⟩:BoxMill))
theorem en67:Enters Try.prog 67:=enters_of Try.func67 (by kernel_rfl) rfl
def f76 (x0:Span):Option (Int):=
 some ((x0).Low)
theorem en76:Enters Try.prog 76:=enters_of Try.func76 (by kernel_rfl) rfl
theorem wk76 {gI:Gh} {wI:World} {x0:Span} {up0:Value} (rp0:RV gI.m wI x0 up0) {r:Int} (h:f76 x0=some r):Fn Try.prog 76 #[up0] gI wI (fun _ _ v=>v=.int .i64 (r)):=by
 unfold f76 at h
 refine fn_of_E Try.func76 rfl (Nat.le_of_ble_eq_true rfl) fun g0 hm hfr=>?_
 have rp0:RV g0.m wI x0 up0:=hm ▸ rp0
 show E _ 5 none _ _ _ _ _
 refine Zf (Za (Ze .plain rfl (D_box (g:=g0) rfl rp0 fun g1 w1 p1 hs q1=>?_)))
 have hfr:=hfr.ext hs
 refine Zg (.int .i64 (0)) rfl rfl ?_
 refine Zb (Zd (Zf (Za (EL_p (fPtr p1 0) (Zc at_35_0 rfl (PT.ptr q1)) rfl ?_))))
 have q2:=Zm (part_Span_0).1 q1
 refine Ze .plain rfl (D_load (g:=g1) Try.isAgg3 Try.sizeOf3 rfl q2 fun v3 r3=>?_)
 obtain rfl:=Zj.1 r3
 refine Zg (.int .i64 ((x0).Low)) rfl rfl ?_
 refine Zb (Zd (E_ret ?_))
 obtain rfl:=sinj h
 exact end1 rfl rfl (show _=.int .i64 ((x0).Low) from rfl) ⟨_,hfr,rfl⟩
def f77 (x0:Span):Option (Int):=
 some ((x0).High)
theorem en77:Enters Try.prog 77:=enters_of Try.func77 (by kernel_rfl) rfl
theorem wk77 {gI:Gh} {wI:World} {x0:Span} {up0:Value} (rp0:RV gI.m wI x0 up0) {r:Int} (h:f77 x0=some r):Fn Try.prog 77 #[up0] gI wI (fun _ _ v=>v=.int .i64 (r)):=by
 unfold f77 at h
 refine fn_of_E Try.func77 rfl (Nat.le_of_ble_eq_true rfl) fun g0 hm hfr=>?_
 have rp0:RV g0.m wI x0 up0:=hm ▸ rp0
 show E _ 5 none _ _ _ _ _
 refine Zf (Za (Ze .plain rfl (D_box (g:=g0) rfl rp0 fun g1 w1 p1 hs q1=>?_)))
 have hfr:=hfr.ext hs
 refine Zg (.int .i64 (0)) rfl rfl ?_
 refine Zb (Zd (Zf (Za (EL_p (fPtr p1 1) (Zc at_35_1 rfl (PT.ptr q1)) rfl ?_))))
 have q2:=Zm (part_Span_1).1 q1
 refine Ze .plain rfl (D_load (g:=g1) Try.isAgg3 Try.sizeOf3 rfl q2 fun v3 r3=>?_)
 obtain rfl:=Zj.1 r3
 refine Zg (.int .i64 ((x0).High)) rfl rfl ?_
 refine Zb (Zd (E_ret ?_))
 obtain rfl:=sinj h
 exact end1 rfl rfl (show _=.int .i64 ((x0).High) from rfl) ⟨_,hfr,rfl⟩
def f143 (x0:Int) (x1:BoxShuttle):Option (Int):=
 some ((w64 (x0 + (1:Int))))
theorem en143:Enters Try.prog 143:=enters_of Try.func143 (by kernel_rfl) rfl
theorem wk143 {gI:Gh} {wI:World} {x0:Int} {x1:BoxShuttle} {up1:Value} (rp1:RV gI.m wI x1 up1) {r:Int} (h:f143 x0 x1=some r):Fn Try.prog 143 #[.int .i64 (x0),up1] gI wI (fun _ _ v=>v=.int .i64 (r)):=by
 unfold f143 at h
 refine fn_of_E Try.func143 rfl (Nat.le_of_ble_eq_true rfl) fun g0 hm hfr=>?_
 have rp1:RV g0.m wI x1 up1:=hm ▸ rp1
 show E _ 7 none _ _ _ _ _
 refine Zf (Za (Ze .plain rfl (D_box (g:=g0) rfl rp1 fun g1 w1 p1 hs q1=>?_)))
 have hfr:=hfr.ext hs
 refine Zg (.int .i64 (0)) rfl rfl ?_
 refine Zb (Zd (Zf (Za (Zn (.int .i64 (x0)) rfl rfl ?_))))
 refine EL_in (.int .i64 ((w64 (x0 + (1:Int))))) rfl rfl rfl rfl ?_
 refine Zg (.int .i64 ((w64 (x0 + (1:Int))))) rfl rfl ?_
 refine Zb (Zd (E_ret ?_))
 obtain rfl:=sinj h
 exact end1 rfl rfl (show _=.int .i64 ((w64 (x0 + (1:Int)))) from rfl) ⟨_,hfr,rfl⟩
def f151 (x0:List Int) (x1:Int→Option Bool):Option (Int):=
 jn (σ:=Unit) (fun _=>
  some ((-1:Int))
  ) fun k18=>
 lp (σ:=Int) (fun k19 o0=>
  bif (decide (o0 < ((x0).length : Int))) then
   jn (σ:=Unit) (fun _=>
    k19 ((w64 (o0 + (1:Int))))
    ) fun k28=>
   (idx x0 o0).bind fun i7=>
   (x1 i7).bind fun v8=>
   bif v8 then
    some (o0)
   else
    k28 ()
  else
   k18 ()
  ) big ((0:Int))
theorem en151:Enters Try.prog 151:=enters_of Try.func151 (by kernel_rfl) rfl
theorem wk151 {gI:Gh} {wI:World} {x0:List Int} {x1:Int→Option Bool} {up0:Value} (rp0:RV gI.m wI x0 up0) {up1:Value} (rp1:FnV1 Try.prog x1 up1 gI wI) {r:Int} (h:f151 x0 x1=some r):Fn Try.prog 151 #[up0,up1] gI wI (fun _ _ v=>v=.int .i64 (r)):=by
 unfold f151 at h
 refine fn_of_E Try.func151 rfl (Nat.le_of_ble_eq_true rfl) fun g0 hm hfr=>?_
 have rp0:RV g0.m wI x0 up0:=hm ▸ rp0
 obtain ⟨ff1,fa1,fc1,rfl,fen1,fcl1⟩:=rp1
 show E _ 19 none _ _ _ _ _
 refine Zf (Za (Zg (.int .i64 (0)) rfl rfl ?_))
 refine Zb (Zd (Zq h (fun (s:Unit) e w=>∃ (g:Gh) ,Fr gI wI g w) (fun X18 k18 x8 h=>?_) ?_))
 ·refine Zf (Za (Zn up0 rfl rfl ?_))
  refine EL_p (.int .i64 ((x0).length:Int)) (P_len Try.underlying26 rfl rp0) rfl ?_
  refine Zn (.int .i64 (0)) rfl rfl ?_
  refine Zb (Zd (Zr ?_))
  refine E_lp h (fun (s:Int) e w=>∃ (g:Gh) ,Fr gI wI g w∧e 0=up0∧RV g.m w (x0:List Int) up0∧e 1=(.func (.func ff1) fa1 fc1)∧e 7=.int .i64 (((x0).length:Int))∧e 8=.int .i64 (s)) ⟨g0,hfr,rfl,rp0,rfl,rfl,rfl⟩ (fun X19 k19 a9=>?_)
  rintro o0 z9 rA ⟨m7,hfr,i6,u3,x6,y6,l5⟩ h
  refine Zf (Za (EL_in (.bool ((decide (o0 < ((x0).length:Int))))) l5 y6 rfl rfl ?_))
  refine Zb (Zd (Zf ?_))
  rcases Zt h with ⟨t5,h⟩ | ⟨t5,h⟩
  ·refine E_ct t5 rfl ?_
   refine Zu (Zd (Zq h (fun (s:Unit) e w=>∃ (g:Gh) ,Fr gI wI g w∧e 0=up0∧RV g.m w (x0:List Int) up0∧e 1=(.func (.func ff1) fa1 fc1)∧e 7=.int .i64 (((x0).length:Int))∧e 8=.int .i64 (o0)) (fun X28 k28 d9 h=>?_) ?_))
   ·refine Zr ?_
    refine Zf (Za (Zo l5 rfl ?_))
    refine Zg (.int .i64 (o0)) rfl rfl ?_
    refine Zb (Zd (Zf (Za (Zo x6 rfl ?_))))
    refine Zo i6 rfl ?_
    refine Zn (.int .i64 (o0)) rfl rfl ?_
    obtain ⟨i7,g8,h⟩:=bsome h
    refine EL_p (ePtr up0 o0 1) (Zh (α:=Int) Try.underlying26 Try.sizeOf3 rfl u3 rfl g8) rfl ?_
    have l9:=PT_idx u3 g8
    refine Ze .plain rfl (D_load (g:=m7) Try.isAgg3 Try.sizeOf3 rfl l9 fun yA n9=>?_)
    obtain rfl:=Zj.1 n9
    obtain ⟨v8,k9,h⟩:=bsome h
    refine Ze .plain rfl (D_callv (g:=m7) (vs:=[.int .i64 (i7)]) rfl fen1 (.cons rfl .nil) (fcl1 _ _ hfr.ch _ _ _  (Zj.2 rfl) k9) fun u9 aB dB hs hr=>?_)
    have hfr:=hfr.ext hs
    have u3:=u3.ext hs
    obtain rfl:=RV_bool.1 hr
    refine Zb (Zd ?_)
    rcases Zt h with ⟨x5,h⟩ | ⟨x5,h⟩
    ·refine E_ct x5 rfl ?_
     refine Zf (Za (Zn (.int .i64 (o0)) rfl rfl ?_))
     refine Zg (.int .i64 (o0)) rfl rfl ?_
     refine Zb (Zd (E_ret (blk_r ?_)))
     refine thn_r ?_
     refine thn_r ?_
     refine blk_r ?_
     refine thn_r ?_
     obtain rfl:=sinj h
     exact end1 rfl rfl (show _=.int .i64 (o0) from rfl) ⟨_,hfr,rfl⟩
    ·refine E_cf x5 rfl ?_
     exact Zu (blk_n (Zd (d9 () _ _ ⟨u9,hfr,i6,u3,x6,y6,l5⟩ h)))
   ·rintro _ bA iB ⟨y9, hfr, k8, l8, m8, n8, r8⟩ h
    refine Za (EL_in (.int .i64 ((w64 (o0 + (1:Int))))) r8 rfl rfl rfl ?_)
    refine Zn (.int .i64 ((w64 (o0 + (1:Int))))) rfl rfl ?_
    exact Zb (Zd (a9 ((w64 (o0 + (1:Int)))) _ _ ⟨y9,hfr,k8,l8,m8,n8,rfl⟩ h))
  ·refine E_cf t5 rfl ?_
   refine E_exit ?_
   refine thn_e ?_
   refine thn_e ?_
   refine blk_hit ?_
   exact Zd (x8 () _ _ ⟨m7,hfr⟩ h)
 ·rintro _ iA lB ⟨mB, hfr⟩ h
  refine Zf (Za (Zg (.int .i64 (-1)) rfl rfl ?_))
  refine Zb (Zd (E_ret ?_))
  obtain rfl:=sinj h
  exact end1 rfl rfl (show _=.int .i64 (-1) from rfl) ⟨_,hfr,rfl⟩
def f152 (x0:Int) (m1:List (Int × Int)) (z1:Span→Option Int) (z2:BoxBoxLoom):Option (Bool × (List (Int × Int))):=
 (idx (((z2).BoxLoom).Shuttles) (w64 (x0 - (1:Int)))).bind fun t5=>
 (z1 ((t5).Yarn)).bind fun o0=>
 some ((decide (((mget ((mset m1 x0 ((w64 (((mget m1 x0).getD (0:Int)) + (1:Int)))))) x0).getD (0:Int)) > o0)),(mset m1 x0 ((w64 (((mget m1 x0).getD (0:Int)) + (1:Int))))))
theorem en152:Enters Try.prog 152:=enters_of Try.func152 (by kernel_rfl) rfl
theorem wk152 {iI:Nat} {gI:Gh} {wI:World} {x0:Int} {m1:List (Int × Int)} {z1:Span→Option Int} {z2:BoxBoxLoom} {pf0:Value} {kv500001:Value} (fc1:FC gI.m wI 0 kv500001 pf0) (mp500001:MP (Value.int .i64) iI gI wI m1 kv500001) {pf1:Value} {qv1:Fv} (qf1:PT gI.m wI qv1 pf1) (rp2:FnV1 Try.prog z1 qv1.v gI wI) {pf2:Value} (qf2:PT gI.m wI z2 pf2) {r:Bool × (List (Int × Int))} (h:f152 x0 m1 z1 z2=some r):FnM Try.prog 152 #[.int .i64 (x0),pf0,pf1,pf2] iI gI wI (fun g w v=>v=.bool (r.1)∧MP (Value.int .i64) iI g w (r.2) kv500001):=by
 unfold f152 at h
 refine fnM_of_E Try.func152 rfl (Nat.le_of_ble_eq_true rfl) fun g0 hm hfr=>?_
 have u3:=mp500001
 replace mp500001:=mp500001.enter
 rw [← hm] at mp500001
 replace hm:g0.m=gI.m:=by rw [hm]
 have fc1:FC g0.m wI 0 kv500001 pf0:=hm ▸ fc1
 obtain ⟨ff2,fa2,fc2,hq2,fen2,fcl2⟩:=rp2
 have qf1:PT g0.m wI qv1 pf1:=hm ▸ qf1
 have qf2:PT g0.m wI z2 pf2:=hm ▸ qf2
 show E _ 24 none _ _ _ _ _
 refine Zf (Za (Zg (.bool false) rfl rfl ?_))
 refine Zb (Zd (Zf (Za (Ze .plain rfl (D_loadFC0 (g:=g0) Try.isAgg295 Try.sizeOf295 (mp_one mp500001) rfl fc1 ?_)))))
 refine Zn (.int .i64 (x0)) rfl rfl ?_
 refine Ze .plain rfl (D_lookup (g:=g0) (z0:=(0:Int)) Try.underlying295 key_3 Try.zeroValue3 (fun m w=>⟨_,rep_int,rfl⟩) rfl mp500001 rfl fun v2 r2=>?_)
 obtain rfl:=Zj.1 r2
 refine EL_in (.int .i64 ((w64 (((mget m1 x0).getD (0:Int)) + (1:Int))))) rfl rfl rfl rfl ?_
 refine Ze .plain rfl (D_mapUpdate (g:=g0) Try.underlying295 key_3 rfl mp500001 rfl rfl (Zj.2 rfl) fun g3 w3 hs m3=>?_)
 have hfr:=hfr.stp hs
 have fc1:=fc1.stp hs
 have qf1:=qf1.stp hs
 have qf2:=qf2.stp hs
 refine Zb (Zd (Zf ?_))
 have i7:=L_loadFC0 (P:=Try.prog) (x:=.tmp 1) Try.isAgg295 Try.sizeOf295 (mp_one m3) fc1
 refine Zs (α:=Fv) (x:=.tmp 2) Try.isAgg176 Try.sizeOf176 qf1 fun v6 r6 m7=>?_
 obtain rfl:=(RV_fv.1 r6).trans hq2
 have q7:=Zm (part_BoxBoxLoom_0).1 qf2
 have q8:=Zm (part_BoxLoom_2).1 q7
 refine Zs (x:=.tmp 15) Try.isAgg38 Try.sizeOf38 q8 fun v9 r9 g8=>?_
 obtain ⟨t5,l5,h⟩:=bsome h
 have x5:=PT_idx r9 l5
 have k8:=Zm (part_BoxShuttle_3).1 x5
 refine Zs (x:=.tmp 20) Try.isAgg35 Try.sizeOf35 k8 fun i6 l8 x6=>?_
 obtain ⟨o0,y6,h⟩:=bsome h
 refine E_drawL (g:=g3) (n:=15) [(2,(fun v _ _=>v=.int .i64 (((mget ((mset m1 x0 ((w64 (((mget m1 x0).getD (0:Int)) + (1:Int)))))) x0).getD (0:Int))))),(12,(fun v g w=>v=.int .i64 (o0)))] [0,1,2,3,4,5,6,7,8,9,10,11,12,13,14] rfl mixed (by kernel_rfl) (⟨fun _=>up_eq _,fun _=>up_eq _,trivial⟩) ?_
 refine L_ld (c:=kv500001) rfl rfl .plain (fun _ _ h=>h.ch) i7 rfl ?_
 refine L_p (.int .i64 (x0)) rfl rfl (Zk rfl) ?_
 refine L_do (φ:=(fun v _ _=>v=.int .i64 (((mget ((mset m1 x0 ((w64 (((mget m1 x0).getD (0:Int)) + (1:Int)))))) x0).getD (0:Int))))) rfl rfl .plain (fun g w hd=>D_lookup (g:=g) (z0:=(0:Int)) Try.underlying295 key_3 Try.zeroValue3 (fun m w=>⟨_,rep_int,rfl⟩) rfl (m3.ext hd.1) rfl fun v r=>⟨g,Ext.refl g w,Zj.1 r⟩) (fun v5 hv=>?_)
 obtain ⟨_,_,_,rfl⟩:=hv
 refine L_ld (c:=(.func (.func ff2) fa2 fc2)) rfl rfl .plain (fun _ _ h=>h.ch) m7 rfl ?_
 refine L_p (fPtr pf2 0) rfl rfl (Zc at_142_0 rfl (PT.ptr qf2)) ?_
 refine L_p (fPtr (fPtr pf2 0) 2) rfl rfl (Zc at_40_2 rfl (PT.ptr q7)) ?_
 refine L_ld (c:=v9) rfl rfl .plain (fun _ _ h=>h.ch) g8 rfl ?_
 refine L_p (.int .i64 (x0)) rfl rfl (Zk rfl) ?_
 refine L_p (.int .i64 ((w64 (x0 - (1:Int))))) rfl rfl (P_int rfl rfl rfl) ?_
 refine L_p (ePtr v9 (w64 (x0 - (1:Int))) 5) rfl rfl (Zh (α:=BoxShuttle) Try.underlying38 Try.sizeOf37 rfl r9 rfl l5) ?_
 refine L_p (fPtr (ePtr v9 (w64 (x0 - (1:Int))) 5) 3) rfl rfl (Zc at_37_3 rfl (PT.ptr x5)) ?_
 refine L_ld (c:=i6) rfl rfl .plain (fun _ _ h=>h.ch) x6 rfl ?_
 refine L_do (φ:=fun v g w=>v=.int .i64 (o0)) rfl rfl .plain (fun g w hd=>D_callv (g:=g) (vs:=[i6]) rfl fen2 (.cons rfl .nil) (fcl2 _ _ (hfr.ext hd.1).ch _ _ _  (l8.ext hd.1) y6) fun g' w' v hs hr=>⟨g',hs,Zj.1 hr⟩) (fun m8 hv=>?_)
 obtain ⟨_,_,_,rfl⟩:=hv
 refine L_p (.bool ((decide (((mget ((mset m1 x0 ((w64 (((mget m1 x0).getD (0:Int)) + (1:Int)))))) x0).getD (0:Int)) > o0)))) rfl rfl (P_int rfl rfl rfl) ?_
 refine L_p (.bool ((decide (((mget ((mset m1 x0 ((w64 (((mget m1 x0).getD (0:Int)) + (1:Int)))))) x0).getD (0:Int)) > o0)))) rfl rfl (P_assign rfl) ?_
 refine L_nl fun n8 r8 hs=>?_
 have hfr:=hfr.ext hs
 have m3:=m3.ext hs
 clear hs
 refine Zb (Zd (E_ret ?_))
 obtain rfl:=sinj h
 exact end1 rfl rfl (show _=.bool ((decide (((mget ((mset m1 x0 ((w64 (((mget m1 x0).getD (0:Int)) + (1:Int)))))) x0).getD (0:Int)) > o0))) from rfl) ⟨_,hfr,rfl,u3.back m3⟩
theorem ws151 {σ : Type} {I : σ → Gh → World → Prop} {φ : σ → Int → Option (Bool × σ)} {x0 : List Int} {up0 : Value} {ff : FuncId} {caps : Array Value} {gI : Gh} {wI : World} {s0 : σ} {r : Int} (i : Nat) (hen : Enters Try.prog ff)
  (hφ:∀ s x b s' g w,φ s x=some (b,s')→I s g w→Ch gI.m wI g.m w→FnM Try.prog ff (#[] ++ #[.int .i64 x] ++ caps) i g w (fun g' w' v=>v=.bool b∧I s' g' w'))
  (rp0:RV gI.m wI x0 up0) (h0:I s0 gI wI) (h:idxS x0 φ s0=some r):Calls Try.prog 151 #[up0,.func (.func ff) #[] caps] wI fun e w=>∃ v,e=.returned v∧v=.int .i64 r∧∃ g s',Stp i gI wI g w∧I s' g w:=by
 unfold idxS at h
 refine calls_of_E Try.func151 rfl (Nat.le_of_ble_eq_true rfl) (R:=fun v w=>v=.int .i64 r∧∃ g s',Stp i gI wI g w∧I s' g w) ?_
 have hfr:Stp i gI wI gI wI:=(Ext.refl gI wI).stp
 show E _ 19 none _ _ _ _ _
 refine Zf (Za (Zg (.int .i64 (0)) rfl rfl (Zb (Zd ?_))))
 refine Zq h (fun (_:Unit) e w=>∃ (g:Gh) (t:σ),Stp i gI wI g w∧I t g w) (fun X18 k18 v8 h=>?_) ?_
 ·refine Zf (Za (Zn up0 rfl rfl ?_))
  refine EL_p (.int .i64 ((x0).length:Int)) (P_len Try.underlying26 rfl rp0) rfl ?_
  refine Zn (.int .i64 (0)) rfl rfl (Zb (Zd (Zr ?_)))
  refine E_lp h (fun (s:σ × Int) e w=>∃ (g:Gh) ,Stp i gI wI g w∧I s.1 g w∧e 0=up0∧RV g.m w (x0:List Int) up0∧e 1=(.func (.func ff) #[] caps)∧e 7=.int .i64 (((x0).length:Int))∧e 8=.int .i64 (s.2)) ⟨gI,hfr,h0,rfl,rp0,rfl,rfl,rfl⟩ (fun X19 k19 x8=>?_)
  rintro ⟨bA,o0⟩ iA aB ⟨i7,hfr,hI,i6,u3,x6,y6,l5⟩ h
  refine Zf (Za (EL_in (.bool ((decide (o0 < ((x0).length:Int))))) l5 y6 rfl rfl (Zb (Zd ?_))))
  refine Zf ?_
  rcases Zt h with ⟨t5,h⟩ | ⟨t5,h⟩
  ·refine E_ct t5 rfl (Zu (Zd ?_))
   refine Zq h (fun (t:σ) e w=>∃ (g:Gh) ,Stp i gI wI g w∧I t g w∧e 0=up0∧RV g.m w (x0:List Int) up0∧e 1=(.func (.func ff) #[] caps)∧e 7=.int .i64 (((x0).length:Int))∧e 8=.int .i64 (o0)) (fun X28 k28 a9 h=>?_) ?_
   ·refine Zr (Zf (Za ?_))
    refine Zo l5 rfl ?_
    refine Zg (.int .i64 (o0)) rfl rfl (Zb (Zd (Zf (Za ?_))))
    refine Zo x6 rfl ?_
    refine Zo i6 rfl ?_
    refine Zn (.int .i64 (o0)) rfl rfl ?_
    obtain ⟨l9,m7,h⟩:=bsome h
    refine EL_p (ePtr up0 o0 1) (Zh (α:=Int) Try.underlying26 Try.sizeOf3 rfl u3 rfl m7) rfl ?_
    have n9:=PT_idx u3 m7
    refine Ze .plain rfl (D_load (g:=i7) Try.isAgg3 Try.sizeOf3 rfl n9 fun dB u9=>?_)
    obtain rfl:=Zj.1 u9
    obtain ⟨⟨b33,t33⟩,d9,h⟩:=bsome h
    refine Ze .plain rfl (D_callvM (g:=i7) (vs:=[.int .i64 (l9)]) rfl hen (.cons rfl .nil) (hφ _ _ _ _ _ _ d9 hI hfr.ch) fun r8 iB lB hs hr=>?_)
    obtain ⟨rfl,hI⟩:=hr
    have hfr:=hfr.trans hs
    have u3:=u3.stp hs
    refine Zb (Zd ?_)
    rcases Zt h with ⟨x5,h⟩ | ⟨x5,h⟩
    ·refine E_ct x5 rfl (Zf (Za ?_))
     refine Zn (.int .i64 (o0)) rfl rfl ?_
     refine Zg (.int .i64 (o0)) rfl rfl (Zb (Zd (E_ret ?_)))
     refine blk_r (thn_r (thn_r (blk_r (thn_r ?_))))
     obtain rfl:=sinj h
     exact end1 rfl rfl (show _=.int .i64 (o0) from rfl) ⟨rfl,r8,t33,hfr,hI⟩
    ·refine E_cf x5 rfl (Zu (blk_n ?_))
     exact Zd (a9 t33 _ _ ⟨r8,hfr,hI,i6,u3,x6,y6,l5⟩ h)
   ·rintro k9 rA mB ⟨y9, hfr, hI, g8, k8, l8, m8, n8⟩ h
    refine Za (EL_in (.int .i64 ((w64 (o0 + (1:Int))))) n8 rfl rfl rfl ?_)
    refine Zn (.int .i64 ((w64 (o0 + (1:Int))))) rfl rfl (Zb ?_)
    exact Zd (x8 (k9,(w64 (o0 + (1:Int)))) _ _ ⟨y9,hfr,hI,g8,k8,l8,m8,rfl⟩ h)
  ·refine E_cf t5 rfl (E_exit (thn_e (thn_e (blk_hit ?_))))
   exact Zd (v8 () _ _ ⟨i7,_,hfr,hI⟩ h)
 ·rintro _ yA nB ⟨z9, t36, hfr, hI⟩ h
  refine Zf (Za (Zg (.int .i64 (-1)) rfl rfl (Zb (Zd (E_ret ?_)))))
  obtain rfl:=sinj h
  exact end1 rfl rfl (show _=.int .i64 (-1) from rfl) ⟨rfl,z9,t36,hfr,hI⟩
def f78 (x0:BoxBoxLoom) (x1:List Int) (x2:Span→Option Int):Option Int:=idxS x1 (fun m n=>f152 n m x2 x0) []
theorem en78:Enters Try.prog 78:=enters_of Try.func78 (by kernel_rfl) rfl
theorem wk78 {gI:Gh} {wI:World} {x0:BoxBoxLoom} {x1:List Int} {x2:Span→Option Int} {up0 up1 up2:Value} (rp0:RV gI.m wI x0 up0) (rp1:RV gI.m wI x1 up1) (rp2:FnV1 Try.prog x2 up2 gI wI) {r:Int} (h:f78 x0 x1 x2=some r):Fn Try.prog 78 #[up0,up1,up2] gI wI (fun _ _ v=>v=.int .i64 (r)):=by
 unfold f78 at h
 refine fn_of_E Try.func78 rfl (Nat.le_of_ble_eq_true rfl) fun g0 hm hfr=>?_
 have rp0:RV g0.m wI x0 up0:=hm ▸ rp0
 have rp1:RV g0.m wI x1 up1:=hm ▸ rp1
 have hone:up2.oneCell'=true:=by obtain ⟨ff,fa,fc,rfl,_⟩:=rp2; rfl
 have hfc:Ch gI.m wI g0.m wI:=hm ▸ Ch.refl _ _
 show E _ 12 none _ _ _ _ _
 refine Zf (Za (Ze .plain rfl (D_box (g:=g0) rfl rp0 fun g1 w1 p1 hs q1=>?_)))
 have hfr:=hfr.ext hs
 have hfc:=hfc.trans hs.ch
 have rp1:=rp1.ext hs
 refine Ze .plain rfl (D_box (g:=g1) (a:=(⟨up2,hone⟩:Fv)) rfl (RV_fv.2 rfl) fun g2 w2 p2 hs q2=>?_)
 have hfr:=hfr.ext hs
 have hfc:=hfc.trans hs.ch
 have rp1:=rp1.ext hs
 have q1:=q1.ext hs
 refine Zg (.int .i64 (0)) rfl rfl (Zb (Zd ?_))
 refine Zf (Za (Ze .plain rfl (D_makeMap (g:=g2) (Value.int .i64) Int 8008 fun g3 w3 v3 hs m3=>?_)))
 have hfr:=hfr.stp hs
 have hfc:=hfc.trans hs.ch
 have rp1:=rp1.stp hs
 have q1:=q1.stp hs
 have q2:=q2.stp hs
 refine Ze .plain rfl (D_allocOc (g:=g3) 2007 (⟨.map none,rfl⟩:Fv) Try.zeroValue295 (fun _ _=>fvm_rep) fun g4 w4 p4 hs b4 cb=>?_)
 clear cb
 have hfr:=hfr.stp hs
 have hfc:=hfc.trans hs.ch
 have rp1:=rp1.stp hs
 have q1:=q1.stp hs
 have q2:=q2.stp hs
 have m3:=m3.stp hs rfl
 have hv3:=mp_one m3
 refine Ze .plain rfl (D_storeOc (g:=g4) (v:=v3) (a':=(⟨v3,hv3⟩:Fv)) Try.sizeOf295 rfl b4 rfl (RV_fv.2 rfl) fun g5 w5 hs b5 cb=>?_)
 clear cb
 have hfr:=hfr.stp hs
 have hfc:=hfc.trans hs.ch
 have rp1:=rp1.stp hs
 have q1:=q1.stp hs
 have q2:=q2.stp hs
 have m3:=m3.stp hs rfl
 obtain ⟨g6,hs,q6⟩:=OB.pub b5
 have hfr:=hfr.stp hs
 have hfc:=hfc.trans hs.ch
 have rp1:=rp1.stp hs
 have q1:=q1.stp hs
 have q2:=q2.stp hs
 have m3:=m3.stp hs rfl
 have fc6:=q6.fc
 have rp2:=rp2.ch (g':=g6) (w':=w5) hfc
 refine Zb (Zd (Zf (Za (Zn up1 rfl rfl ?_))))
 refine EL_p (.func (.func 152) #[] #[p4,p2,p1]) (P_makeFunc (capf_0_3 rfl rfl rfl)) rfl ?_
 refine Ze .plain rfl (D_callC (vs:=[up1,.func (.func 152) #[] #[p4,p2,p1]]) en151 (.cons rfl (.cons rfl .nil)) (ws151 (I:=fun m g w=>MP (Value.int .i64) 8008 g w m v3) 8008 en152 (fun s x b s' g w hx hI hch=>?_) rp1 m3 h) fun v7 w7 hq=>?_)
 ·exact wk152 (fc6.ch hch) hI (q2.ch hch) (rp2.ch hch) (q1.ch hch) hx
 ·obtain ⟨rfl, g7, s7, hs, _⟩ := hq
  have hfr:=hfr.stp hs
  refine Zg (.int .i64 r) rfl rfl (Zb (Zd (E_ret ?_)))
  exact end1 rfl rfl (show _=.int .i64 r from rfl) ⟨_,hfr,rfl⟩
def f157 (x0:BeamRatio):Option (BeamRatio):=
 Option.bind (α:=Int) (
  lp (σ:=Int × Int) (fun rA (l5,o0)=>
   jn (σ:=Unit) (fun _=>
    (rem64 l5 o0).bind fun y43=>
    rA (o0,y43)
    ) fun yA=>
   bif (decide (o0 > (0 : Int))) then
    yA ()
   else
    some (l5)
   ) big (((x0).Ratio).Num,((x0).Ratio).Den)
  ) fun u3=>
 (quo64 ((x0).Ratio).Num u3).bind fun t5=>
 (quo64 ((x0).Ratio).Den u3).bind fun x5=>
 some ((⟨(⟨t5,x5⟩:Ratio)⟩:BeamRatio))
theorem en157:Enters Try.prog 157:=enters_of Try.func157 (by kernel_rfl) rfl
theorem wk157 {gI:Gh} {wI:World} {x0:BeamRatio} {up0:Value} (rp0:RV gI.m wI x0 up0) {r:BeamRatio} (h:f157 x0=some r):Fn Try.prog 157 #[up0] gI wI (fun m w v=>RV m w (r) v):=by
 unfold f157 at h
 refine fn_of_E Try.func157 rfl (Nat.le_of_ble_eq_true rfl) fun g0 hm hfr=>?_
 have rp0:RV g0.m wI x0 up0:=hm ▸ rp0
 show E _ 29 none _ _ _ _ _
 refine Zf (Za (Ze .plain rfl (D_box (g:=g0) rfl rp0 fun g1 w1 p1 hs q1=>?_)))
 have hfr:=hfr.ext hs
 refine Ze .plain rfl (D_allocOc (g:=g1) 2002 (⟨⟨0,0⟩⟩:BeamRatio) Try.zeroValue182 (fun m w=>⟨_,(rep_two rep_int rep_int),rfl⟩) fun g2 w2 p2 hs b2 cb=>?_)
 have hfr:=hfr.stp hs
 have q1:=q1.stp hs
 clear cb
 refine Zb (Zd (Zf ?_))
 have q3:=Zm (part_BeamRatio_0).1 q1
 have q4:=Zm (part_Ratio_0).1 q3
 refine Zs (x:=.tmp 6) Try.isAgg3 Try.sizeOf3 q4 fun v5 r5 qC=>?_
 obtain rfl:=Zj.1 r5
 have q6:=Zm (part_BeamRatio_0).1 q1
 have q7:=Zm (part_Ratio_1).1 q6
 refine Zs (x:=.tmp 9) Try.isAgg3 Try.sizeOf3 q7 fun v8 r8 rC=>?_
 obtain rfl:=Zj.1 r8
 refine E_drawL (g:=g2) (n:=8) [] [0,1,2,3,4,5,6,7] rfl mixed (by kernel_rfl) trivial ?_
 refine L_p (fPtr p1 0) rfl rfl (Zc at_182_0 rfl (PT.ptr q1)) ?_
 refine L_p (fPtr (fPtr p1 0) 0) rfl rfl (Zc at_180_0 rfl (PT.ptr q3)) ?_
 refine L_ld (c:=.int .i64 (((x0).Ratio).Num)) rfl rfl .plain (fun _ _ h=>h.ch) qC rfl ?_
 refine L_p (fPtr p1 0) rfl rfl (Zc at_182_0 rfl (PT.ptr q1)) ?_
 refine L_p (fPtr (fPtr p1 0) 1) rfl rfl (Zc at_180_1 rfl (PT.ptr q6)) ?_
 refine L_ld (c:=.int .i64 (((x0).Ratio).Den)) rfl rfl .plain (fun _ _ h=>h.ch) rC rfl ?_
 refine L_p (.int .i64 (((x0).Ratio).Num)) rfl rfl (P_assign rfl) ?_
 refine L_p (.int .i64 (((x0).Ratio).Den)) rfl rfl (P_assign rfl) ?_
 refine L_nl fun g9 w9 hs=>?_
 have hfr:=hfr.ext hs
 have q1:=q1.ext hs
 have b2:=b2.ext hs
 clear hs
 refine Zb (Zd ?_)
 obtain ⟨u3,hx,h⟩:=bsome h
 refine E_join (fun e w=>∃ (g:Gh) ,Fr gI wI g w∧e 1=p1∧PT g.m w (x0:BeamRatio) p1∧e 2=p2∧OB 2002 g w 182 ((⟨⟨0,0⟩⟩:BeamRatio):BeamRatio) p2∧e 3=.int .i64 (u3)) (fun Q' hQ=>?_) (fun jD uC hR=>?_)
 ·replace h := hx
  clear hx
  refine Zr ?_
  refine E_lp h (fun (s:Int × Int) e w=>∃ (g:Gh) ,Fr gI wI g w∧e 1=p1∧PT g.m w (x0:BeamRatio) p1∧e 2=p2∧OB 2002 g w 182 ((⟨⟨0,0⟩⟩:BeamRatio):BeamRatio) p2∧e 3=.int .i64 (s.1)∧e 4=.int .i64 (s.2)) ⟨g9,hfr,rfl,q1,rfl,b2,rfl,rfl⟩ (fun X37 rA mB=>?_)
  rintro ⟨l5,o0⟩ lD oD ⟨aB,hfr,g8,k8,l8,m8,n8,x8⟩ h
  refine Zq h (fun (s:Unit) e w=>∃ (g:Gh) ,Fr gI wI g w∧e 1=p1∧PT g.m w (x0:BeamRatio) p1∧e 2=p2∧OB 2002 g w 182 ((⟨⟨0,0⟩⟩:BeamRatio):BeamRatio) p2∧e 3=.int .i64 (l5)∧e 4=.int .i64 (o0)) (fun X40 yA nB h=>?_) ?_
  ·refine Zf (Za (Zo x8 rfl ?_))
   refine EL_in (.bool ((decide (o0 > (0:Int))))) rfl rfl rfl rfl ?_
   refine Zb (Zd ?_)
   rcases Zt h with ⟨m7,h⟩ | ⟨m7,h⟩
   ·refine E_ct m7 rfl ?_
    exact Zu (Zd (nB () _ _ ⟨aB,hfr,g8,k8,l8,m8,n8,x8⟩ h))
   ·refine E_cf m7 rfl ?_
    refine E_exit ?_
    refine thn_e ?_
    refine thn_e ?_
    refine blk_hit ?_
    obtain rfl:=sinj h
    exact hQ _ _ ⟨aB,hfr,g8,k8,l8,m8,n8⟩
  ·rintro _ nD sD ⟨vC, hfr, z9, x6, bA, y6, iA, a9⟩ h
   refine Zr ?_
   obtain ⟨y43,oB,h⟩:=bsome h
   refine E_drawL (g:=vC) (n:=6) [] [0,1,2,3,4,5] rfl mixed (by kernel_rfl) trivial ?_
   refine L_p (.int .i64 (o0)) rfl rfl (Zk a9) ?_
   refine L_p (.int .i64 (l5)) rfl rfl (Zk iA) ?_
   refine L_p (.int .i64 (o0)) rfl rfl (Zk a9) ?_
   refine L_p (.int .i64 (y43)) rfl rfl (P_int rfl rfl (congrArg (Option.map (Value.int .i64)) oB)) ?_
   refine L_p (.int .i64 (o0)) rfl rfl (P_assign rfl) ?_
   refine L_p (.int .i64 (y43)) rfl rfl (P_assign rfl) ?_
   refine L_nl fun aD tD hs=>?_
   have hfr:=hfr.ext hs
   have x6:=x6.ext hs
   have y6:=y6.ext hs
   clear hs
   exact Zb (blk_n (Zd (mB (o0,y43) _ _ ⟨aD,hfr,z9,x6,bA,y6,rfl,rfl⟩ h)))
 ·clear hx
  obtain ⟨u9,hfr,d9,i6,k9,i7,l9⟩:=hR
  refine Zf ?_
  have dB:=Zm (part_BeamRatio_0).1 i6
  have bD:=Zm (part_Ratio_0).1 dB
  refine Zs (x:=.tmp 18) Try.isAgg3 Try.sizeOf3 bD fun uD cD tB=>?_
  obtain rfl:=Zj.1 cD
  obtain ⟨t5,vB,h⟩:=bsome h
  have iB:=Zm (part_BeamRatio_0).1 i6
  have eD:=Zm (part_Ratio_1).1 iB
  refine Zs (x:=.tmp 23) Try.isAgg3 Try.sizeOf3 eD fun vD gD hl60=>?_
  obtain rfl:=Zj.1 gD
  obtain ⟨x5,yB,h⟩:=bsome h
  have y9:RV u9.m uC (⟨t5,x5⟩:Ratio) (.agg (setCh [[.int .i64 0],[.int .i64 0]] [(0,.int .i64 (t5)),(1,.int .i64 (x5))]).flatten.toArray):=RV_build rfl (rep_pair (rfl) (rep_last (rfl)))
  generalize zB:(Value.agg (setCh [[.int .i64 0],[.int .i64 0]] [(0,.int .i64 (t5)),(1,.int .i64 (x5))]).flatten.toArray)=v62 at y9
  have n9:RV u9.m _ (⟨(⟨t5,x5⟩:Ratio)⟩:BeamRatio) (.agg (setCh [[.int .i64 0,.int .i64 0]] [(0,v62)]).flatten.toArray):=RV_build rfl (rep_last (RV.cells y9))
  generalize cC:(Value.agg (setCh [[.int .i64 0,.int .i64 0]] [(0,v62)]).flatten.toArray)=lB at n9
  refine E_drawL (g:=u9) (n:=12) [] [0,1,2,3,4,5,6,7,8,9,10,11] rfl mixed (by kernel_rfl) trivial ?_
  refine L_p (fPtr p1 0) rfl rfl (Zc at_182_0 d9 (PT.ptr i6)) ?_
  refine L_p (fPtr (fPtr p1 0) 0) rfl rfl (Zc at_180_0 rfl (PT.ptr dB)) ?_
  refine L_ld (c:=.int .i64 (((x0).Ratio).Num)) rfl rfl .plain (fun _ _ h=>h.ch) tB rfl ?_
  refine L_p (.int .i64 (u3)) rfl rfl (Zk l9) ?_
  refine L_p (.int .i64 (t5)) rfl rfl (P_int rfl rfl (congrArg (Option.map (Value.int .i64)) vB)) ?_
  refine L_p (fPtr p1 0) rfl rfl (Zc at_182_0 d9 (PT.ptr i6)) ?_
  refine L_p (fPtr (fPtr p1 0) 1) rfl rfl (Zc at_180_1 rfl (PT.ptr iB)) ?_
  refine L_ld (c:=.int .i64 (((x0).Ratio).Den)) rfl rfl .plain (fun _ _ h=>h.ch) hl60 rfl ?_
  refine L_p (.int .i64 (u3)) rfl rfl (Zk l9) ?_
  refine L_p (.int .i64 (x5)) rfl rfl (P_int rfl rfl (congrArg (Option.map (Value.int .i64)) yB)) ?_
  refine L_p v62 rfl rfl (zB ▸ P_build (vs:=[(0,.int .i64 (t5)),(1,.int .i64 (x5))]) [[.int .i64 0],[.int .i64 0]] lay_180 rfl rfl (.cons rfl (.cons rfl .nil)) ⟨⟨_,rfl,rfl⟩,⟨⟨_,rfl,rfl⟩,trivial⟩⟩) ?_
  refine L_p lB rfl rfl (cC ▸ P_build (vs:=[(0,v62)]) [[.int .i64 0,.int .i64 0]] lay_182 rfl rfl (.cons rfl .nil) ⟨⟨_,rfl,cells_size y9⟩,trivial⟩) ?_
  refine L_nl fun iD xD hs=>?_
  have hfr:=hfr.ext hs
  have i7:=i7.ext hs
  have n9:=n9.ext hs
  clear hs
  refine Ze .plain rfl (D_storeOc (g:=iD) (v:=lB) Try.sizeOf182 k9 i7 rfl n9 fun yD zD hs b81 cb=>?_)
  clear cb
  have hfr:=hfr.stp hs
  refine Zb (Zd (E_ret ?_))
  obtain rfl:=sinj h
  obtain ⟨ad82,cv82,hp82,mC,cr82⟩:=ob_read Try.isAgg182 Try.sizeOf182 b81
  exact endm_c rfl rfl ((show _=p2 from k9).trans hp82) mC ⟨_,hfr,cr82⟩
def f165 (x0:List Int) (x1:Int→Option Bool):Option (Bool):=
 (f151 x0 x1).bind fun y2=>
 some ((decide (y2 ≥ (0:Int))))
theorem en165:Enters Try.prog 165:=enters_of Try.func165 (by kernel_rfl) rfl
theorem wk165 {gI:Gh} {wI:World} {x0:List Int} {x1:Int→Option Bool} {up0:Value} (rp0:RV gI.m wI x0 up0) {up1:Value} (rp1:FnV1 Try.prog x1 up1 gI wI) {r:Bool} (h:f165 x0 x1=some r):Fn Try.prog 165 #[up0,up1] gI wI (fun _ _ v=>v=.bool (r)):=by
 unfold f165 at h
 refine fn_of_E Try.func165 rfl (Nat.le_of_ble_eq_true rfl) fun g0 hm hfr=>?_
 have rp0:RV g0.m wI x0 up0:=hm ▸ rp0
 obtain ⟨ff1,fa1,fc1,rfl,fen1,fcl1⟩:=rp1
 show E _ 9 none _ _ _ _ _
 refine Zf (Za (Zg (.bool false) rfl rfl ?_))
 refine Zb (Zd (Zf (Za (Zn up0 rfl rfl ?_))))
 refine Zn ((.func (.func ff1) fa1 fc1)) rfl rfl ?_
 obtain ⟨y2,hy2,h⟩:=bsome h
 refine Ze .plain rfl (Zp (g:=g0) (vs:=[up0,(.func (.func ff1) fa1 fc1)]) en151 (.cons rfl (.cons rfl .nil)) (wk151 rp0 (FnV1.ch ⟨_,_,_,rfl,fen1,fcl1⟩ hfr.ch) hy2) fun g1 w1_ v1 hs hr=>?_)
 have hfr:=hfr.ext hs
 subst hr
 refine EL_in (.bool ((decide (y2 ≥ (0:Int))))) rfl rfl rfl rfl ?_
 refine Zg (.bool ((decide (y2 ≥ (0:Int))))) rfl rfl ?_
 refine Zb (Zd (E_ret ?_))
 obtain rfl:=sinj h
 exact end1 rfl rfl (show _=.bool ((decide (y2 ≥ (0:Int)))) from rfl) ⟨_,hfr,rfl⟩
def f213 (x0:List BoxShuttle) (x1:BoxShuttle→Option Bool):Option (Int):=
 jn (σ:=Unit) (fun _=>
  some ((-1:Int))
  ) fun k18=>
 lp (σ:=Int) (fun k19 o0=>
  bif (decide (o0 < ((x0).length : Int))) then
   jn (σ:=Unit) (fun _=>
    k19 ((w64 (o0 + (1:Int))))
    ) fun k28=>
   (idx x0 o0).bind fun r8=>
   (x1 r8).bind fun v8=>
   bif v8 then
    some (o0)
   else
    k28 ()
  else
   k18 ()
  ) big ((0:Int))
theorem en213:Enters Try.prog 213:=enters_of Try.func213 (by kernel_rfl) rfl
theorem wk213 {gI:Gh} {wI:World} {x0:List BoxShuttle} {x1:BoxShuttle→Option Bool} {up0:Value} (rp0:RV gI.m wI x0 up0) {up1:Value} (rp1:FnV1 Try.prog x1 up1 gI wI) {r:Int} (h:f213 x0 x1=some r):Fn Try.prog 213 #[up0,up1] gI wI (fun _ _ v=>v=.int .i64 (r)):=by
 unfold f213 at h
 refine fn_of_E Try.func213 rfl (Nat.le_of_ble_eq_true rfl) fun g0 hm hfr=>?_
 have rp0:RV g0.m wI x0 up0:=hm ▸ rp0
 obtain ⟨ff1,fa1,fc1,rfl,fen1,fcl1⟩:=rp1
 show E _ 19 none _ _ _ _ _
 refine Zf (Za (Zg (.int .i64 (0)) rfl rfl ?_))
 refine Zb (Zd (Zq h (fun (s:Unit) e w=>∃ (g:Gh) ,Fr gI wI g w) (fun X18 k18 x8 h=>?_) ?_))
 ·refine Zf (Za (Zn up0 rfl rfl ?_))
  refine EL_p (.int .i64 ((x0).length:Int)) (P_len Try.underlying38 rfl rp0) rfl ?_
  refine Zn (.int .i64 (0)) rfl rfl ?_
  refine Zb (Zd (Zr ?_))
  refine E_lp h (fun (s:Int) e w=>∃ (g:Gh) ,Fr gI wI g w∧e 0=up0∧RV g.m w (x0:List BoxShuttle) up0∧e 1=(.func (.func ff1) fa1 fc1)∧e 7=.int .i64 (((x0).length:Int))∧e 8=.int .i64 (s)) ⟨g0,hfr,rfl,rp0,rfl,rfl,rfl⟩ (fun X19 k19 a9=>?_)
  rintro o0 bA yA ⟨i7,hfr,i6,u3,x6,y6,l5⟩ h
  refine Zf (Za (EL_in (.bool ((decide (o0 < ((x0).length:Int))))) l5 y6 rfl rfl ?_))
  refine Zb (Zd (Zf ?_))
  rcases Zt h with ⟨t5,h⟩ | ⟨t5,h⟩
  ·refine E_ct t5 rfl ?_
   refine Zu (Zd (Zq h (fun (s:Unit) e w=>∃ (g:Gh) ,Fr gI wI g w∧e 0=up0∧RV g.m w (x0:List BoxShuttle) up0∧e 1=(.func (.func ff1) fa1 fc1)∧e 7=.int .i64 (((x0).length:Int))∧e 8=.int .i64 (o0)) (fun X28 k28 d9 h=>?_) ?_))
   ·refine Zr ?_
    refine Zf (Za (Zo l5 rfl ?_))
    refine Zg (.int .i64 (o0)) rfl rfl ?_
    refine Zb (Zd (Zf (Za (Zo x6 rfl ?_))))
    refine Zo i6 rfl ?_
    refine Zn (.int .i64 (o0)) rfl rfl ?_
    obtain ⟨r8,m7,h⟩:=bsome h
    refine EL_p (ePtr up0 o0 5) (Zh (α:=BoxShuttle) Try.underlying38 Try.sizeOf37 rfl u3 rfl m7) rfl ?_
    have l9:=PT_idx u3 m7
    refine Ze .plain rfl (D_load (g:=i7) Try.isAgg37 Try.sizeOf37 rfl l9 fun n9 u9=>?_)
    obtain ⟨v8,k9,h⟩:=bsome h
    refine Ze .plain rfl (D_callv (g:=i7) (vs:=[n9]) rfl fen1 (.cons rfl .nil) (fcl1 _ _ hfr.ch _ _ _  u9 k9) fun y9 aB dB hs hr=>?_)
    have hfr:=hfr.ext hs
    have u3:=u3.ext hs
    obtain rfl:=RV_bool.1 hr
    refine Zb (Zd ?_)
    rcases Zt h with ⟨x5,h⟩ | ⟨x5,h⟩
    ·refine E_ct x5 rfl ?_
     refine Zf (Za (Zn (.int .i64 (o0)) rfl rfl ?_))
     refine Zg (.int .i64 (o0)) rfl rfl ?_
     refine Zb (Zd (E_ret (blk_r ?_)))
     refine thn_r ?_
     refine thn_r ?_
     refine blk_r ?_
     refine thn_r ?_
     obtain rfl:=sinj h
     exact end1 rfl rfl (show _=.int .i64 (o0) from rfl) ⟨_,hfr,rfl⟩
    ·refine E_cf x5 rfl ?_
     exact Zu (blk_n (Zd (d9 () _ _ ⟨y9,hfr,i6,u3,x6,y6,l5⟩ h)))
   ·rintro _ iA iB ⟨z9, hfr, g8, k8, l8, m8, n8⟩ h
    refine Za (EL_in (.int .i64 ((w64 (o0 + (1:Int))))) n8 rfl rfl rfl ?_)
    refine Zn (.int .i64 ((w64 (o0 + (1:Int))))) rfl rfl ?_
    exact Zb (Zd (a9 ((w64 (o0 + (1:Int)))) _ _ ⟨z9,hfr,g8,k8,l8,m8,rfl⟩ h))
  ·refine E_cf t5 rfl ?_
   refine E_exit ?_
   refine thn_e ?_
   refine thn_e ?_
   refine blk_hit ?_
   exact Zd (x8 () _ _ ⟨i7,hfr⟩ h)
 ·rintro _ rA lB ⟨mB, hfr⟩ h
  refine Zf (Za (Zg (.int .i64 (-1)) rfl rfl ?_))
  refine Zb (Zd (E_ret ?_))
  obtain rfl:=sinj h
  exact end1 rfl rfl (show _=.int .i64 (-1) from rfl) ⟨_,hfr,rfl⟩
def f214 (x0:Int) (z0:Int) (z1:Int):Option (Bool):=
 Option.bind (α:=Bool) (
  bif (decide (x0 < z0)) then
   some (true)
  else
   some ((decide (x0 > z1)))
  ) fun o0=>
 some (o0)
theorem en214:Enters Try.prog 214:=enters_of Try.func214 (by kernel_rfl) rfl
theorem wk214 {gI:Gh} {wI:World} {x0:Int} {z0:Int} {z1:Int} {pf0:Value} (qf0:PT gI.m wI z0 pf0) {pf1:Value} (qf1:PT gI.m wI z1 pf1) {r:Bool} (h:f214 x0 z0 z1=some r):Fn Try.prog 214 #[.int .i64 (x0),pf0,pf1] gI wI (fun _ _ v=>v=.bool (r)):=by
 unfold f214 at h
 refine fn_of_E Try.func214 rfl (Nat.le_of_ble_eq_true rfl) fun g0 hm hfr=>?_
 have qf0:PT g0.m wI z0 pf0:=hm ▸ qf0
 have qf1:PT g0.m wI z1 pf1:=hm ▸ qf1
 show E _ 13 none _ _ _ _ _
 refine Zf (Za (Zg (.bool false) rfl rfl ?_))
 refine Zb (Zd ?_)
 obtain ⟨o0,hx,h⟩:=bsome h
 refine E_join (fun e w=>∃ (g:Gh) ,Fr gI wI g w∧e 4=.bool (o0)) (fun Q' hQ=>?_) (fun l5 w7 hR=>?_)
 ·replace h := hx
  clear hx
  refine Za (Zn (.int .i64 (x0)) rfl rfl ?_)
  refine Ze .plain rfl (D_load (g:=g0) Try.isAgg3 Try.sizeOf3 rfl qf0 fun v4 r4=>?_)
  obtain rfl:=Zj.1 r4
  refine EL_in (.bool ((decide (x0 < z0)))) rfl rfl rfl rfl ?_
  refine Zn (.bool ((decide (x0 < z0)))) rfl rfl ?_
  rcases Zt h with ⟨hc5,h⟩ | ⟨hc5,h⟩
  ·refine EL_s rfl rfl hc5 rfl rfl ?_
   refine EL_s rfl rfl hc5 rfl rfl ?_
   refine EL_s rfl rfl hc5 rfl rfl ?_
   refine EL_p (.bool true) (Zl (b:=(decide (x0 < z0))) rfl (pick_t hc5 rfl)) rfl ?_
   refine Zg (.bool true) rfl rfl ?_
   refine Zb ?_
   obtain rfl:=sinj h
   exact hQ _ _ ⟨g0,hfr,rfl⟩
  ·refine EL_y (.int .i64 (x0)) (Zk rfl) rfl rfl hc5 rfl ?_
   refine Ze (.yes2 rfl rfl hc5) rfl (D_load (g:=g0) Try.isAgg3 Try.sizeOf3 rfl qf1 fun v6 r6=>?_)
   obtain rfl:=Zj.1 r6
   refine EL_y (.bool ((decide (x0 > z1)))) (P_int rfl rfl rfl) rfl rfl hc5 rfl ?_
   refine EL_p (.bool ((decide (x0 > z1)))) (Zl (b:=(decide (x0 < z0))) rfl (pick_f hc5 rfl)) rfl ?_
   refine Zg (.bool ((decide (x0 > z1)))) rfl rfl ?_
   refine Zb ?_
   obtain rfl:=sinj h
   exact hQ _ _ ⟨g0,hfr,rfl⟩
 ·clear hx
  obtain ⟨g7,hfr,u3⟩:=hR
  refine E_ret ?_
  obtain rfl:=sinj h
  exact end1 rfl rfl (show _=.bool (o0) from u3) ⟨_,hfr,rfl⟩
def f217 (x0:BoxPoint) (x1:List (List Int)):Option (BoxPoint):=
 Option.bind (α:=BoxPoint) (
  lp (σ:=BoxPoint) (fun z9 o0=>
   jn (σ:=Unit) (fun _=>
    z9 ({ { o0 with group:=(w64 ((o0).group + (1:Int))) } with done:=(0:Int) })
    ) fun bA=>
   Option.bind (α:=Bool) (
    bif (decide ((o0).group < ((x1).length : Int))) then
     (idx x1 (o0).group).bind fun n9=>
     (shl64 (1:Int) ((n9).length:Int)).bind fun l8=>
     some (((o0).done == (w64 (l8 - (1:Int)))))
    else
     some (false)
    ) fun x5=>
   bif x5 then
    bA ()
   else
    some (o0)
   ) big (x0)
  ) fun m8=>
 some (m8)
theorem en217:Enters Try.prog 217:=enters_of Try.func217 (by kernel_rfl) rfl
theorem wk217 {gI:Gh} {wI:World} {x0:BoxPoint} {x1:List (List Int)} {up0:Value} (rp0:RV gI.m wI x0 up0) {up1:Value} (rp1:RV gI.m wI x1 up1) {r:BoxPoint} (h:f217 x0 x1=some r):Fn Try.prog 217 #[up0,up1] gI wI (fun m w v=>RV m w (r) v):=by
 unfold f217 at h
 refine fn_of_E Try.func217 rfl (Nat.le_of_ble_eq_true rfl) fun g0 hm hfr=>?_
 have rp0:RV g0.m wI x0 up0:=hm ▸ rp0
 have rp1:RV g0.m wI x1 up1:=hm ▸ rp1
 show E _ 29 none _ _ _ _ _
 refine Zf (Za (Ze .plain rfl (D_boxO (g:=g0) 2002 rfl rp0 fun g1 w1 p1 hs b1=>?_)))
 have hfr:=hfr.stp hs
 have rp1:=rp1.stp hs
 refine Ze .plain rfl (D_allocOc (g:=g1) 2004 (⟨0,0,⟨(⟨List.toArray [(⟨List.toArray [0,0,0,0],rfl⟩:Vector Int 4),(⟨List.toArray [0,0,0,0],rfl⟩:Vector Int 4)],rfl⟩:Vector (Vector Int 4) 2),⟨0,0⟩⟩⟩:BoxPoint) Try.zeroValue157 (fun m w=>⟨_,(rep_two rep_int (rep_two rep_int (rep_two (rep_vec (flat_chunk (rep_vec (flat_chunk rep_int (flat_chunk rep_int (flat_chunk rep_int (flat_chunk rep_int flat_nil)))) rfl) (flat_chunk (rep_vec (flat_chunk rep_int (flat_chunk rep_int (flat_chunk rep_int (flat_chunk rep_int flat_nil)))) rfl) flat_nil)) rfl) (rep_two rep_int rep_int)))),rfl⟩) fun g2 w2 p2 hs b2 cb=>?_)
 have hfr:=hfr.stp hs
 have rp1:=rp1.stp hs
 have b1:=b1.stp hs rfl
 clear cb
 refine Zb (Zd ?_)
 obtain ⟨m8,hx,h⟩:=bsome h
 refine E_join (fun e w=>∃ (g:Gh) ,Fr gI wI g w∧e 2=p1∧OB 2002 g w 157 (m8:BoxPoint) p1∧e 4=p2∧OB 2004 g w 157 ((⟨0,0,⟨(⟨List.toArray [(⟨List.toArray [0,0,0,0],rfl⟩:Vector Int 4),(⟨List.toArray [0,0,0,0],rfl⟩:Vector Int 4)],rfl⟩:Vector (Vector Int 4) 2),⟨0,0⟩⟩⟩:BoxPoint):BoxPoint) p2) (fun Q' hQ=>?_) (fun tD yD hR=>?_)
 ·replace h := hx
  clear hx
  refine Zr ?_
  refine E_lp h (fun (s:BoxPoint) e w=>∃ (g:Gh) ,Fr gI wI g w∧e 1=up1∧RV g.m w (x1:List (List Int)) up1∧e 2=p1∧OB 2002 g w 157 (s:BoxPoint) p1∧e 4=p2∧OB 2004 g w 157 ((⟨0,0,⟨(⟨List.toArray [(⟨List.toArray [0,0,0,0],rfl⟩:Vector Int 4),(⟨List.toArray [0,0,0,0],rfl⟩:Vector Int 4)],rfl⟩:Vector (Vector Int 4) 2),⟨0,0⟩⟩⟩:BoxPoint):BoxPoint) p2) ⟨g2,hfr,rfl,rp1,rfl,b1,rfl,b2⟩ (fun X238 z9 vB=>?_)
  rintro o0 uD zD ⟨iA,hfr,y6,t5,i6,u3,v8,x6⟩ h
  refine Zq h (fun (s:Unit) e w=>∃ (g:Gh) ,Fr gI wI g w∧e 1=up1∧RV g.m w (x1:List (List Int)) up1∧e 2=p1∧OB 2002 g w 157 (o0:BoxPoint) p1∧e 4=p2∧OB 2004 g w 157 ((⟨0,0,⟨(⟨List.toArray [(⟨List.toArray [0,0,0,0],rfl⟩:Vector Int 4),(⟨List.toArray [0,0,0,0],rfl⟩:Vector Int 4)],rfl⟩:Vector (Vector Int 4) 2),⟨0,0⟩⟩⟩:BoxPoint):BoxPoint) p2) (fun X352 bA yB h=>?_) ?_
  ·obtain ⟨x5, hx, h⟩ := bsome h
   refine E_join (fun e w=>∃ (g:Gh) ,Fr gI wI g w∧e 1=up1∧RV g.m w (x1:List (List Int)) up1∧e 2=p1∧OB 2002 g w 157 (o0:BoxPoint) p1∧e 4=p2∧OB 2004 g w 157 ((⟨0,0,⟨(⟨List.toArray [(⟨List.toArray [0,0,0,0],rfl⟩:Vector Int 4),(⟨List.toArray [0,0,0,0],rfl⟩:Vector Int 4)],rfl⟩:Vector (Vector Int 4) 2),⟨0,0⟩⟩⟩:BoxPoint):BoxPoint) p2∧e 22=.bool (x5)) (fun Q' hQ=>?_) (fun vD aE hR=>?_)
   ·replace h := hx
    clear hx
    refine L_loadO (x:=.tmp 5) part_BoxPoint_0.1 Try.isAgg3 Try.sizeOf3 u3 fun bE uC u9=>?_
    obtain rfl:=Zj.1 uC
    rcases Zt h with ⟨l5,h⟩ | ⟨l5,h⟩
    ·refine L_loadO (x := .tmp 11) part_BoxPoint_1.1 Try.isAgg3 Try.sizeOf3 u3 fun iE vC zB => ?_
     obtain rfl:=Zj.1 vC
     refine L_loadO (x:=.tmp 14) part_BoxPoint_0.1 Try.isAgg3 Try.sizeOf3 u3 fun lE aD cC=>?_
     obtain rfl:=Zj.1 aD
     obtain ⟨n9,y9,h⟩:=bsome h
     have bD:=PT_idx t5 y9
     refine Zs (x:=.tmp 16) Try.isAgg26 Try.sizeOf26 bD fun cD eD mC=>?_
     obtain ⟨l8,qC,h⟩:=bsome h
     refine E_drawL (g:=iA) (n:=18) [] [0,1,2,3,4,5,6,7,8,9,10,11,12,13,14,15,16,17] rfl mixed (by kernel_rfl) trivial ?_
     refine L_p (fPtr p1 0) rfl rfl (Zc at_157_0 i6 (OB.ptr u3)) ?_
     refine L_ld (c:=.int .i64 ((o0).group)) rfl rfl .plain (fun _ _ h=>⟨h.ch,fun b hb _=>h.below.block b hb⟩) u9 rfl ?_
     refine L_p up1 rfl rfl (Zk y6) ?_
     refine L_p (.int .i64 ((x1).length:Int)) rfl rfl (P_len Try.underlying146 rfl t5) ?_
     refine L_p (.bool ((decide ((o0).group < ((x1).length:Int))))) rfl rfl (P_int rfl rfl rfl) ?_
     refine L_p (.bool ((decide ((o0).group < ((x1).length:Int))))) rfl rfl (Zk rfl) ?_
     refine L_y (fPtr p1 1) rfl rfl rfl rfl l5 (Zc at_157_1 i6 (OB.ptr u3)) ?_
     refine L_ld (c:=.int .i64 ((o0).done)) rfl rfl (.yes2 rfl rfl l5) (fun _ _ h=>⟨h.ch,fun b hb _=>h.below.block b hb⟩) zB rfl ?_
     refine L_y up1 rfl rfl rfl rfl l5 (Zk y6) ?_
     refine L_y (fPtr p1 0) rfl rfl rfl rfl l5 (Zc at_157_0 i6 (OB.ptr u3)) ?_
     refine L_ld (c:=.int .i64 ((o0).group)) rfl rfl (.yes2 rfl rfl l5) (fun _ _ h=>⟨h.ch,fun b hb _=>h.below.block b hb⟩) cC rfl ?_
     refine L_y (ePtr up1 (o0).group 1) rfl rfl rfl rfl l5 (Zh (α:=List Int) Try.underlying146 Try.sizeOf26 rfl t5 rfl y9) ?_
     refine L_ld (c:=cD) rfl rfl (.yes2 rfl rfl l5) (fun _ _ h=>h.ch) mC rfl ?_
     refine L_y (.int .i64 ((n9).length:Int)) rfl rfl rfl rfl l5 (P_len Try.underlying26 rfl eD) ?_
     refine L_y (.int .i64 (l8)) rfl rfl rfl rfl l5 (P_int rfl rfl (congrArg (Option.map (Value.int .i64)) qC)) ?_
     refine L_y (.int .i64 ((w64 (l8 - (1:Int))))) rfl rfl rfl rfl l5 (P_int rfl rfl rfl) ?_
     refine L_y (.bool (((o0).done == (w64 (l8 - (1:Int)))))) rfl rfl rfl rfl l5 (P_int rfl rfl rfl) ?_
     refine L_p (.bool (((o0).done == (w64 (l8 - (1:Int)))))) rfl rfl (Zl (b:=(decide ((o0).group < ((x1).length:Int)))) rfl (pick_t l5 rfl)) ?_
     refine L_nl fun gD mE hs=>?_
     have hfr:=hfr.ext hs
     have t5:=t5.ext hs
     have u3:=u3.ext hs
     have x6:=x6.ext hs
     clear hs
     refine Zb ?_
     obtain rfl:=sinj h
     exact hQ _ _ ⟨gD,hfr,y6,t5,i6,u3,v8,x6,rfl⟩
    ·refine E_drawL (g := iA) (n := 18) [] [0, 1, 2, 3, 4, 5, 6, 7, 8, 9, 10, 11, 12, 13, 14, 15, 16, 17] rfl mixed (by kernel_rfl) trivial ?_
     refine L_p (fPtr p1 0) rfl rfl (Zc at_157_0 i6 (OB.ptr u3)) ?_
     refine L_ld (c:=.int .i64 ((o0).group)) rfl rfl .plain (fun _ _ h=>⟨h.ch,fun b hb _=>h.below.block b hb⟩) u9 rfl ?_
     refine L_p up1 rfl rfl (Zk y6) ?_
     refine L_p (.int .i64 ((x1).length:Int)) rfl rfl (P_len Try.underlying146 rfl t5) ?_
     refine L_p (.bool ((decide ((o0).group < ((x1).length:Int))))) rfl rfl (P_int rfl rfl rfl) ?_
     refine L_p (.bool ((decide ((o0).group < ((x1).length:Int))))) rfl rfl (Zk rfl) ?_
     iterate 11 refine L_s rfl rfl rfl l5 rfl ?_
     refine L_p (.bool false) rfl rfl (Zl (b:=(decide ((o0).group < ((x1).length:Int)))) rfl (pick_f l5 rfl)) ?_
     refine L_nl fun iD oE hs=>?_
     have hfr:=hfr.ext hs
     have t5:=t5.ext hs
     have u3:=u3.ext hs
     have x6:=x6.ext hs
     clear hs
     refine Zb ?_
     obtain rfl:=sinj h
     exact hQ _ _ ⟨iD,hfr,y6,t5,i6,u3,v8,x6,rfl⟩
   ·clear hx
    obtain ⟨rA,hfr,yA,aB,x8,a9,d9,k9,n8⟩:=hR
    rcases Zt h with ⟨r8,h⟩ | ⟨r8,h⟩
    ·refine E_cond_true (Eq.trans (show ev _ _ = .bool (x5) from n8) (congrArg Value.bool r8)) ?_
     exact Zu (Zd (yB () _ _ ⟨rA,hfr,yA,aB,x8,a9,d9,k9⟩ h))
    ·refine E_cond_false (Eq.trans (show ev _ _ = .bool (x5) from n8) (congrArg Value.bool r8)) ?_
     refine E_exit ?_
     refine thn_e ?_
     refine thn_e ?_
     refine blk_hit ?_
     obtain rfl:=sinj h
     exact hQ _ _ ⟨rA,hfr,x8,a9,d9,k9⟩
  ·rintro _ xD rE ⟨dB, hfr, iB, i7, g8, k8, lB, m7⟩ h
   refine Zr ?_
   refine Za (EL_p (fPtr p1 0) (Zc at_157_0 g8 (OB.ptr k8)) rfl ?_)
   refine Ze .plain rfl (D_loadF (g:=dB) part_BoxPoint_0.1 Try.isAgg3 Try.sizeOf3 rfl k8 fun uE jD=>?_)
   obtain rfl:=Zj.1 jD
   refine EL_in (.int .i64 ((w64 ((o0).group + (1:Int))))) rfl rfl rfl rfl ?_
   refine EL_p (fPtr p1 0) (Zc at_157_0 g8 (OB.ptr k8)) rfl ?_
   refine Ze .plain rfl (D_storeFc (g:=dB) part_BoxPoint_0 Try.sizeOf3 rfl k8 rfl (Zj.2 rfl) fun lD vE hs b469 rst hos=>?_)
   clear rst hos
   have hfr:=hfr.stp hs
   have i7:=i7.stp hs
   have m7:=m7.stp hs rfl
   refine EL_p (fPtr p1 1) (Zc at_157_1 g8 (OB.ptr b469)) rfl ?_
   refine Ze .plain rfl (D_storeFc (g:=lD) part_BoxPoint_1 Try.sizeOf3 rfl b469 rfl (Zj.2 rfl) fun nD xE hs b471 rst hos=>?_)
   clear rst hos
   have hfr:=hfr.stp hs
   have i7:=i7.stp hs
   have m7:=m7.stp hs rfl
   exact Zb (blk_n (Zd (vB ({ { o0 with group:=(w64 ((o0).group + (1:Int))) } with done:=(0:Int) }) _ _ ⟨nD,hfr,iB,i7,g8,b471,lB,m7⟩ h)))
 ·clear hx
  obtain ⟨mB,hfr,nB,oB,l9,tB⟩:=hR
  refine Zf (Za (Ze .plain rfl (D_loadO (g:=mB) Try.isAgg157 Try.sizeOf157 nB oB fun oD sD=>?_)))
  refine Ze .plain rfl (D_storeOc (g:=mB) (v:=oD) Try.sizeOf157 l9 tB rfl sD fun yE zE hs b474 cb=>?_)
  clear cb
  have hfr:=hfr.stp hs
  refine Zb (Zd (E_ret ?_))
  obtain rfl:=sinj h
  obtain ⟨ad475,cv475,hp475,rC,cr475⟩:=ob_read Try.isAgg157 Try.sizeOf157 b474
  exact endm_c rfl rfl ((show _=p2 from l9).trans hp475) rC ⟨_,hfr,cr475⟩
def f230 (x0:Int) (z0:Int) (z1:Int):Option (Bool):=
 Option.bind (α:=Bool) (
  bif (decide (x0 < z0)) then
   some (true)
  else
   some ((decide (x0 > z1)))
  ) fun o0=>
 some (o0)
theorem en230:Enters Try.prog 230:=enters_of Try.func230 (by kernel_rfl) rfl
theorem wk230 {gI:Gh} {wI:World} {x0:Int} {z0:Int} {z1:Int} {pf0:Value} (qf0:PT gI.m wI z0 pf0) {pf1:Value} (qf1:PT gI.m wI z1 pf1) {r:Bool} (h:f230 x0 z0 z1=some r):Fn Try.prog 230 #[.int .i64 (x0),pf0,pf1] gI wI (fun _ _ v=>v=.bool (r)):=by
 unfold f230 at h
 refine fn_of_E Try.func230 rfl (Nat.le_of_ble_eq_true rfl) fun g0 hm hfr=>?_
 have qf0:PT g0.m wI z0 pf0:=hm ▸ qf0
 have qf1:PT g0.m wI z1 pf1:=hm ▸ qf1
 show E _ 13 none _ _ _ _ _
 refine Zf (Za (Zg (.bool false) rfl rfl ?_))
 refine Zb (Zd ?_)
 obtain ⟨o0,hx,h⟩:=bsome h
 refine E_join (fun e w=>∃ (g:Gh) ,Fr gI wI g w∧e 4=.bool (o0)) (fun Q' hQ=>?_) (fun l5 w7 hR=>?_)
 ·replace h := hx
  clear hx
  refine Za (Zn (.int .i64 (x0)) rfl rfl ?_)
  refine Ze .plain rfl (D_load (g:=g0) Try.isAgg3 Try.sizeOf3 rfl qf0 fun v4 r4=>?_)
  obtain rfl:=Zj.1 r4
  refine EL_in (.bool ((decide (x0 < z0)))) rfl rfl rfl rfl ?_
  refine Zn (.bool ((decide (x0 < z0)))) rfl rfl ?_
  rcases Zt h with ⟨hc5,h⟩ | ⟨hc5,h⟩
  ·refine EL_s rfl rfl hc5 rfl rfl ?_
   refine EL_s rfl rfl hc5 rfl rfl ?_
   refine EL_s rfl rfl hc5 rfl rfl ?_
   refine EL_p (.bool true) (Zl (b:=(decide (x0 < z0))) rfl (pick_t hc5 rfl)) rfl ?_
   refine Zg (.bool true) rfl rfl ?_
   refine Zb ?_
   obtain rfl:=sinj h
   exact hQ _ _ ⟨g0,hfr,rfl⟩
  ·refine EL_y (.int .i64 (x0)) (Zk rfl) rfl rfl hc5 rfl ?_
   refine Ze (.yes2 rfl rfl hc5) rfl (D_load (g:=g0) Try.isAgg3 Try.sizeOf3 rfl qf1 fun v6 r6=>?_)
   obtain rfl:=Zj.1 r6
   refine EL_y (.bool ((decide (x0 > z1)))) (P_int rfl rfl rfl) rfl rfl hc5 rfl ?_
   refine EL_p (.bool ((decide (x0 > z1)))) (Zl (b:=(decide (x0 < z0))) rfl (pick_f hc5 rfl)) rfl ?_
   refine Zg (.bool ((decide (x0 > z1)))) rfl rfl ?_
   refine Zb ?_
   obtain rfl:=sinj h
   exact hQ _ _ ⟨g0,hfr,rfl⟩
 ·clear hx
  obtain ⟨g7,hfr,u3⟩:=hR
  refine E_ret ?_
  obtain rfl:=sinj h
  exact end1 rfl rfl (show _=.bool (o0) from u3) ⟨_,hfr,rfl⟩
def f231 (x0:List BeamPair) (x1:BeamPair→Option Bool):Option (Int):=
 jn (σ:=Unit) (fun _=>
  some ((-1:Int))
  ) fun k18=>
 lp (σ:=Int) (fun k19 o0=>
  bif (decide (o0 < ((x0).length : Int))) then
   jn (σ:=Unit) (fun _=>
    k19 ((w64 (o0 + (1:Int))))
    ) fun k28=>
   (idx x0 o0).bind fun r8=>
   (x1 r8).bind fun v8=>
   bif v8 then
    some (o0)
   else
    k28 ()
  else
   k18 ()
  ) big ((0:Int))
theorem en231:Enters Try.prog 231:=enters_of Try.func231 (by kernel_rfl) rfl
theorem wk231 {gI:Gh} {wI:World} {x0:List BeamPair} {x1:BeamPair→Option Bool} {up0:Value} (rp0:RV gI.m wI x0 up0) {up1:Value} (rp1:FnV1 Try.prog x1 up1 gI wI) {r:Int} (h:f231 x0 x1=some r):Fn Try.prog 231 #[up0,up1] gI wI (fun _ _ v=>v=.int .i64 (r)):=by
 unfold f231 at h
 refine fn_of_E Try.func231 rfl (Nat.le_of_ble_eq_true rfl) fun g0 hm hfr=>?_
 have rp0:RV g0.m wI x0 up0:=hm ▸ rp0
 obtain ⟨ff1,fa1,fc1,rfl,fen1,fcl1⟩:=rp1
 show E _ 19 none _ _ _ _ _
 refine Zf (Za (Zg (.int .i64 (0)) rfl rfl ?_))
 refine Zb (Zd (Zq h (fun (s:Unit) e w=>∃ (g:Gh) ,Fr gI wI g w) (fun X18 k18 x8 h=>?_) ?_))
 ·refine Zf (Za (Zn up0 rfl rfl ?_))
  refine EL_p (.int .i64 ((x0).length:Int)) (P_len Try.underlying66 rfl rp0) rfl ?_
  refine Zn (.int .i64 (0)) rfl rfl ?_
  refine Zb (Zd (Zr ?_))
  refine E_lp h (fun (s:Int) e w=>∃ (g:Gh) ,Fr gI wI g w∧e 0=up0∧RV g.m w (x0:List BeamPair) up0∧e 1=(.func (.func ff1) fa1 fc1)∧e 7=.int .i64 (((x0).length:Int))∧e 8=.int .i64 (s)) ⟨g0,hfr,rfl,rp0,rfl,rfl,rfl⟩ (fun X19 k19 a9=>?_)
  rintro o0 bA yA ⟨i7,hfr,i6,u3,x6,y6,l5⟩ h
  refine Zf (Za (EL_in (.bool ((decide (o0 < ((x0).length:Int))))) l5 y6 rfl rfl ?_))
  refine Zb (Zd (Zf ?_))
  rcases Zt h with ⟨t5,h⟩ | ⟨t5,h⟩
  ·refine E_ct t5 rfl ?_
   refine Zu (Zd (Zq h (fun (s:Unit) e w=>∃ (g:Gh) ,Fr gI wI g w∧e 0=up0∧RV g.m w (x0:List BeamPair) up0∧e 1=(.func (.func ff1) fa1 fc1)∧e 7=.int .i64 (((x0).length:Int))∧e 8=.int .i64 (o0)) (fun X28 k28 d9 h=>?_) ?_))
   ·refine Zr ?_
    refine Zf (Za (Zo l5 rfl ?_))
    refine Zg (.int .i64 (o0)) rfl rfl ?_
    refine Zb (Zd (Zf (Za (Zo x6 rfl ?_))))
    refine Zo i6 rfl ?_
    refine Zn (.int .i64 (o0)) rfl rfl ?_
    obtain ⟨r8,m7,h⟩:=bsome h
    refine EL_p (ePtr up0 o0 2) (Zh (α:=BeamPair) Try.underlying66 Try.sizeOf175 rfl u3 rfl m7) rfl ?_
    have l9:=PT_idx u3 m7
    refine Ze .plain rfl (D_load (g:=i7) Try.isAgg175 Try.sizeOf175 rfl l9 fun n9 u9=>?_)
    obtain ⟨v8,k9,h⟩:=bsome h
    refine Ze .plain rfl (D_callv (g:=i7) (vs:=[n9]) rfl fen1 (.cons rfl .nil) (fcl1 _ _ hfr.ch _ _ _  u9 k9) fun y9 aB dB hs hr=>?_)
    have hfr:=hfr.ext hs
    have u3:=u3.ext hs
    obtain rfl:=RV_bool.1 hr
    refine Zb (Zd ?_)
    rcases Zt h with ⟨x5,h⟩ | ⟨x5,h⟩
    ·refine E_ct x5 rfl ?_
     refine Zf (Za (Zn (.int .i64 (o0)) rfl rfl ?_))
     refine Zg (.int .i64 (o0)) rfl rfl ?_
     refine Zb (Zd (E_ret (blk_r ?_)))
     refine thn_r ?_
     refine thn_r ?_
     refine blk_r ?_
     refine thn_r ?_
     obtain rfl:=sinj h
     exact end1 rfl rfl (show _=.int .i64 (o0) from rfl) ⟨_,hfr,rfl⟩
    ·refine E_cf x5 rfl ?_
     exact Zu (blk_n (Zd (d9 () _ _ ⟨y9,hfr,i6,u3,x6,y6,l5⟩ h)))
   ·rintro _ iA iB ⟨z9, hfr, g8, k8, l8, m8, n8⟩ h
    refine Za (EL_in (.int .i64 ((w64 (o0 + (1:Int))))) n8 rfl rfl rfl ?_)
    refine Zn (.int .i64 ((w64 (o0 + (1:Int))))) rfl rfl ?_
    exact Zb (Zd (a9 ((w64 (o0 + (1:Int)))) _ _ ⟨z9,hfr,g8,k8,l8,m8,rfl⟩ h))
  ·refine E_cf t5 rfl ?_
   refine E_exit ?_
   refine thn_e ?_
   refine thn_e ?_
   refine blk_hit ?_
   exact Zd (x8 () _ _ ⟨i7,hfr⟩ h)
 ·rintro _ rA lB ⟨mB, hfr⟩ h
  refine Zf (Za (Zg (.int .i64 (-1)) rfl rfl ?_))
  refine Zb (Zd (E_ret ?_))
  obtain rfl:=sinj h
  exact end1 rfl rfl (show _=.int .i64 (-1) from rfl) ⟨_,hfr,rfl⟩
def f267 (x0:Int) (x1:Int):Option (Int):=
 some ((w64 ((max64 x0 x1) - (min64 x0 x1))))
theorem en267:Enters Try.prog 267:=enters_of Try.func267 (by kernel_rfl) rfl
theorem wk267 {gI:Gh} {wI:World} {x0:Int} {x1:Int}  {r:Int} (h:f267 x0 x1=some r):Fn Try.prog 267 #[.int .i64 (x0),.int .i64 (x1)] gI wI (fun _ _ v=>v=.int .i64 (r)):=by
 unfold f267 at h
 refine fn_of_E Try.func267 rfl (Nat.le_of_ble_eq_true rfl) fun g0 hm hfr=>?_
 show E _ 12 none _ _ _ _ _
 refine Zf (Za (Zg (.int .i64 (0)) rfl rfl ?_))
 refine Zb (Zd (Zf (Za (Zn (.int .i64 (x0)) rfl rfl ?_))))
 refine Zn (.int .i64 (x1)) rfl rfl ?_
 refine EL_p (.int .i64 (max64 x0 x1)) (P_max rfl rfl) rfl ?_
 refine Zn (.int .i64 (x0)) rfl rfl ?_
 refine Zn (.int .i64 (x1)) rfl rfl ?_
 refine EL_p (.int .i64 (min64 x0 x1)) (P_min rfl rfl) rfl ?_
 refine EL_in (.int .i64 ((w64 ((max64 x0 x1) - (min64 x0 x1))))) rfl rfl rfl rfl ?_
 refine Zg (.int .i64 ((w64 ((max64 x0 x1) - (min64 x0 x1))))) rfl rfl ?_
 refine Zb (Zd (E_ret ?_))
 obtain rfl:=sinj h
 exact end1 rfl rfl (show _=.int .i64 ((w64 ((max64 x0 x1) - (min64 x0 x1)))) from rfl) ⟨_,hfr,rfl⟩
def f268 (x0:List BoxPick) (x1:BoxPick→Option Bool):Option (Int):=
 jn (σ:=Unit) (fun _=>
  some ((-1:Int))
  ) fun k18=>
 lp (σ:=Int) (fun k19 o0=>
  bif (decide (o0 < ((x0).length : Int))) then
   jn (σ:=Unit) (fun _=>
    k19 ((w64 (o0 + (1:Int))))
    ) fun k28=>
   (idx x0 o0).bind fun r8=>
   (x1 r8).bind fun v8=>
   bif v8 then
    some (o0)
   else
    k28 ()
  else
   k18 ()
  ) big ((0:Int))
theorem en268:Enters Try.prog 268:=enters_of Try.func268 (by kernel_rfl) rfl
theorem wk268 {gI:Gh} {wI:World} {x0:List BoxPick} {x1:BoxPick→Option Bool} {up0:Value} (rp0:RV gI.m wI x0 up0) {up1:Value} (rp1:FnV1 Try.prog x1 up1 gI wI) {r:Int} (h:f268 x0 x1=some r):Fn Try.prog 268 #[up0,up1] gI wI (fun _ _ v=>v=.int .i64 (r)):=by
 unfold f268 at h
 refine fn_of_E Try.func268 rfl (Nat.le_of_ble_eq_true rfl) fun g0 hm hfr=>?_
 have rp0:RV g0.m wI x0 up0:=hm ▸ rp0
 obtain ⟨ff1,fa1,fc1,rfl,fen1,fcl1⟩:=rp1
 show E _ 19 none _ _ _ _ _
 refine Zf (Za (Zg (.int .i64 (0)) rfl rfl ?_))
 refine Zb (Zd (Zq h (fun (s:Unit) e w=>∃ (g:Gh) ,Fr gI wI g w) (fun X18 k18 x8 h=>?_) ?_))
 ·refine Zf (Za (Zn up0 rfl rfl ?_))
  refine EL_p (.int .i64 ((x0).length:Int)) (P_len Try.underlying41 rfl rp0) rfl ?_
  refine Zn (.int .i64 (0)) rfl rfl ?_
  refine Zb (Zd (Zr ?_))
  refine E_lp h (fun (s:Int) e w=>∃ (g:Gh) ,Fr gI wI g w∧e 0=up0∧RV g.m w (x0:List BoxPick) up0∧e 1=(.func (.func ff1) fa1 fc1)∧e 7=.int .i64 (((x0).length:Int))∧e 8=.int .i64 (s)) ⟨g0,hfr,rfl,rp0,rfl,rfl,rfl⟩ (fun X19 k19 a9=>?_)
  rintro o0 bA yA ⟨i7,hfr,i6,u3,x6,y6,l5⟩ h
  refine Zf (Za (EL_in (.bool ((decide (o0 < ((x0).length:Int))))) l5 y6 rfl rfl ?_))
  refine Zb (Zd (Zf ?_))
  rcases Zt h with ⟨t5,h⟩ | ⟨t5,h⟩
  ·refine E_ct t5 rfl ?_
   refine Zu (Zd (Zq h (fun (s:Unit) e w=>∃ (g:Gh) ,Fr gI wI g w∧e 0=up0∧RV g.m w (x0:List BoxPick) up0∧e 1=(.func (.func ff1) fa1 fc1)∧e 7=.int .i64 (((x0).length:Int))∧e 8=.int .i64 (o0)) (fun X28 k28 d9 h=>?_) ?_))
   ·refine Zr ?_
    refine Zf (Za (Zo l5 rfl ?_))
    refine Zg (.int .i64 (o0)) rfl rfl ?_
    refine Zb (Zd (Zf (Za (Zo x6 rfl ?_))))
    refine Zo i6 rfl ?_
    refine Zn (.int .i64 (o0)) rfl rfl ?_
    obtain ⟨r8,m7,h⟩:=bsome h
    refine EL_p (ePtr up0 o0 2) (Zh (α:=BoxPick) Try.underlying41 Try.sizeOf151 rfl u3 rfl m7) rfl ?_
    have l9:=PT_idx u3 m7
    refine Ze .plain rfl (D_load (g:=i7) Try.isAgg151 Try.sizeOf151 rfl l9 fun n9 u9=>?_)
    obtain ⟨v8,k9,h⟩:=bsome h
    refine Ze .plain rfl (D_callv (g:=i7) (vs:=[n9]) rfl fen1 (.cons rfl .nil) (fcl1 _ _ hfr.ch _ _ _  u9 k9) fun y9 aB dB hs hr=>?_)
    have hfr:=hfr.ext hs
    have u3:=u3.ext hs
    obtain rfl:=RV_bool.1 hr
    refine Zb (Zd ?_)
    rcases Zt h with ⟨x5,h⟩ | ⟨x5,h⟩
    ·refine E_ct x5 rfl ?_
     refine Zf (Za (Zn (.int .i64 (o0)) rfl rfl ?_))
     refine Zg (.int .i64 (o0)) rfl rfl ?_
     refine Zb (Zd (E_ret (blk_r ?_)))
     refine thn_r ?_
     refine thn_r ?_
     refine blk_r ?_
     refine thn_r ?_
     obtain rfl:=sinj h
     exact end1 rfl rfl (show _=.int .i64 (o0) from rfl) ⟨_,hfr,rfl⟩
    ·refine E_cf x5 rfl ?_
     exact Zu (blk_n (Zd (d9 () _ _ ⟨y9,hfr,i6,u3,x6,y6,l5⟩ h)))
   ·rintro _ iA iB ⟨z9, hfr, g8, k8, l8, m8, n8⟩ h
    refine Za (EL_in (.int .i64 ((w64 (o0 + (1:Int))))) n8 rfl rfl rfl ?_)
    refine Zn (.int .i64 ((w64 (o0 + (1:Int))))) rfl rfl ?_
    exact Zb (Zd (a9 ((w64 (o0 + (1:Int)))) _ _ ⟨z9,hfr,g8,k8,l8,m8,rfl⟩ h))
  ·refine E_cf t5 rfl ?_
   refine E_exit ?_
   refine thn_e ?_
   refine thn_e ?_
   refine blk_hit ?_
   exact Zd (x8 () _ _ ⟨i7,hfr⟩ h)
 ·rintro _ rA lB ⟨mB, hfr⟩ h
  refine Zf (Za (Zg (.int .i64 (-1)) rfl rfl ?_))
  refine Zb (Zd (E_ret ?_))
  obtain rfl:=sinj h
  exact end1 rfl rfl (show _=.int .i64 (-1) from rfl) ⟨_,hfr,rfl⟩
def f18 (x0:Race):Option (BoxLoom):=
 (idx ((x0).Boxes).toList (0:Int)).bind fun y4=>
 (rem64 ((y4).toNat:Int) (2:Int)).bind fun y7=>
 (idx ((x0).Boxes).toList (1:Int)).bind fun y9=>
 (rem64 ((y9).toNat:Int) (2:Int)).bind fun uC=>
 (idx ((x0).Boxes).toList (0:Int)).bind fun aK=>
 (quo64 ((aK).toNat:Int) (2:Int)).bind fun bK=>
 (rem64 bK (2:Int)).bind fun tD=>
 (idx ((x0).Boxes).toList (1:Int)).bind fun cK=>
 (quo64 ((cK).toNat:Int) (2:Int)).bind fun dK=>
 (rem64 dK (2:Int)).bind fun uD=>
 Option.bind (α:=BoxLoom) (
  lp (σ:=BoxLoom × (Vector Bool 6) × Int) (fun lK (u3,i7,o0)=>
   jn (σ:=Unit) (fun _=>
    Option.bind (α:=BoxLoom × (Vector Bool 6)) (
     (idx ((x0).Shuttles).toList o0).bind fun mK=>
     (idx (mK).toList (0:Int)).bind fun zD=>
     (idx ((u3).Boxes) (0:Int)).bind fun aE=>
     (idx ((u3).Boxes) (1:Int)).bind fun bE=>
     (rem64 ((zD).toNat:Int) (w64 (aE + bE))).bind fun iE=>
     Option.bind (α:=Int) (
      lp (σ:=Int) (fun nK x8=>
       jn (σ:=Unit) (fun _=>
        (idx ((u3).Boxes) (0:Int)).bind fun aD=>
        (idx ((u3).Boxes) (1:Int)).bind fun bD=>
        (rem64 (w64 (x8 + (1:Int))) (w64 (aD + bD))).bind fun iB=>
        nK (iB)
        ) fun oK=>
       (idx (i7).toList x8).bind fun pK=>
       bif pK then
        oK ()
       else
        some (x8)
       ) big (iE)
      ) fun l5=>
     (idx (i7).toList l5).bind fun kM=>
     (idx ((x0).Shuttles).toList o0).bind fun cH=>
     (idx (cH).toList (1:Int)).bind fun lE=>
     (rem64 ((lE).toNat:Int) (9:Int)).bind fun v8=>
     (idx ((x0).Shuttles).toList o0).bind fun dH=>
     (idx (dH).toList (1:Int)).bind fun mE=>
     (quo64 ((mE).toNat:Int) (9:Int)).bind fun oE=>
     (rem64 oE (3:Int)).bind fun lB=>
     (f51 v8 ((w64 (v8 + lB)))).bind fun d9=>
     Option.bind (α:=BoxShuttle) (
      (idx ((u3).Boxes) (0:Int)).bind fun rE=>
      bif (decide (l5 ≥ rE)) then
       (idx ((u3).Boxes) (0:Int)).bind fun cD=>
       some ((⟨o0,(1:Int),(w64 (l5 - cD)),d9⟩:BoxShuttle))
      else
       some ((⟨o0,0,l5,d9⟩:BoxShuttle))
      ) fun iA=>
     (apnd 40 ((u3).Shuttles) (([iA]:List BoxShuttle))).bind fun uE=>
     some ({ u3 with Shuttles:=uE },(vset i7 l5 true))
     ) fun (k9,rA)=>
    lK (k9,rA,(w64 (o0 + (1:Int))))
    ) fun qK=>
   bif (decide (o0 < (3 : Int))) then
    qK ()
   else
    some (u3)
   ) big ((⟨([(w64 ((2:Int) + y7)),(w64 ((2:Int) + uC))]:List Int),([tD,uD]:List Int),[]⟩:BoxLoom),(⟨List.toArray [false,false,false,false,false,false],rfl⟩:Vector Bool 6),(0:Int))
  ) fun n9=>
 some (n9)
theorem en18:Enters Try.prog 18:=enters_of Try.func18 (by kernel_rfl) rfl
theorem wk18 {gI:Gh} {wI:World} {x0:Race} {up0:Value} (rp0:RV gI.m wI x0 up0) {r:BoxLoom} (h:f18 x0=some r):Fn Try.prog 18 #[up0] gI wI (fun m w v=>RV m w (r) v):=by
 unfold f18 at h
 refine fn_of_E Try.func18 rfl (Nat.le_of_ble_eq_true rfl) fun g0 hm hfr=>?_
 have rp0:RV g0.m wI x0 up0:=hm ▸ rp0
 show E _ 117 none _ _ _ _ _
 refine Zf (Za (Ze .plain rfl (D_box (g:=g0) rfl rp0 fun g1 w1 p1 hs q1=>?_)))
 have hfr:=hfr.ext hs
 refine Ze .plain rfl (D_allocOc (g:=g1) 2002 (⟨[],[],[]⟩:BoxLoom) Try.zeroValue40 (fun m w=>⟨_,(rep_two rep_nil (rep_two rep_nil rep_nil)),rfl⟩) fun g2 w2 p2 hs b2 cb=>?_)
 have hfr:=hfr.stp hs
 have q1:=q1.stp hs
 have m7:OSF 2002 60200 0 g2 w2 3 40 ([]:List Int) p2:=cb.osf (by rfl)
 have g8:OSF 2002 60201 1 g2 w2 3 40 ([]:List Int) p2:=cb.osf (by rfl)
 have k8:OSF 2002 60202 2 g2 w2 37 40 ([]:List BoxShuttle) p2:=cb.osf (by rfl)
 clear cb
 refine Zb (Zd (Zf (Za (EL_p (fPtr p1 0) (Zc at_63_0 rfl (PT.ptr q1)) rfl ?_))))
 have q3:=Zm (part_Race_0).1 q1
 obtain ⟨y4,gO,h⟩:=bsome h
 refine EL_p (fPtr (fPtr p1 0) (((0:Int):Int).toNat * 1)) (P_indexAddrA (α:=UInt8) Try.underlying60 Try.sizeOf5 rfl (PT.ptr q3) rfl gO) rfl ?_
 have q5:=PT_idxA q3 gO
 refine Ze .plain rfl (D_load (g:=g2) Try.isAgg5 Try.sizeOf5 rfl q5 fun v6 r6=>?_)
 obtain rfl:=RV_u8.1 r6
 refine EL_p (.int .i64 (((y4).toNat:Int))) (P_u8int Try.underlying5 Try.underlying3 rfl) rfl ?_
 obtain ⟨y7,eP,h⟩:=bsome h
 refine EL_p (.int .i64 (y7)) (P_int rfl rfl (congrArg (Option.map (Value.int .i64)) eP)) rfl ?_
 refine EL_in (.int .i64 ((w64 ((2:Int) + y7)))) rfl rfl rfl rfl ?_
 refine EL_p (fPtr p1 0) (Zc at_63_0 rfl (PT.ptr q1)) rfl ?_
 have q8:=Zm (part_Race_0).1 q1
 obtain ⟨y9,iO,h⟩:=bsome h
 refine EL_p (fPtr (fPtr p1 0) (((1:Int):Int).toNat * 1)) (P_indexAddrA (α:=UInt8) Try.underlying60 Try.sizeOf5 rfl (PT.ptr q8) rfl iO) rfl ?_
 have gP:=PT_idxA q8 iO
 refine Ze .plain rfl (D_load (g:=g2) Try.isAgg5 Try.sizeOf5 rfl gP fun bS iP=>?_)
 obtain rfl:=RV_u8.1 iP
 refine EL_p (.int .i64 (((y9).toNat:Int))) (P_u8int Try.underlying5 Try.underlying3 rfl) rfl ?_
 obtain ⟨uC,oO,h⟩:=bsome h
 refine EL_p (.int .i64 (uC)) (P_int rfl rfl (congrArg (Option.map (Value.int .i64)) oO)) rfl ?_
 refine EL_in (.int .i64 ((w64 ((2:Int) + uC)))) rfl rfl rfl rfl ?_
 refine Ze .plain rfl (D_buildSlice (g:=g2) 3021 (xs:=([(w64 ((2:Int) + y7)),(w64 ((2:Int) + uC))]:List Int)) (vs:=[.int .i64 ((w64 ((2:Int) + y7))),.int .i64 ((w64 ((2:Int) + uC)))]) Try.underlying26 Try.sizeOf3 Try.zeroValue3 rfl rfl (.cons rfl (.cons rfl .nil)) (RVs.cons (Zj.2 rfl) (RVs.cons (Zj.2 rfl) RVs.nil)) rfl rfl fun sK cS tK hs o13 vC hxt hfl=>?_)
 have hfr:=hfr.stp hs
 have q1:=q1.stp hs
 have m7:=m7.stp hs rfl
 have g8:=g8.stp hs rfl
 have k8:=k8.stp hs rfl
 have b2:=b2.stp hs rfl
 refine EL_p (fPtr p1 0) (Zc at_63_0 rfl (PT.ptr q1)) rfl ?_
 have jO:=Zm (part_Race_0).1 q1
 obtain ⟨aK,uK,h⟩:=bsome h
 refine EL_p (fPtr (fPtr p1 0) (((0:Int):Int).toNat * 1)) (P_indexAddrA (α:=UInt8) Try.underlying60 Try.sizeOf5 rfl (PT.ptr jO) rfl uK) rfl ?_
 have jP:=PT_idxA jO uK
 refine Ze .plain rfl (D_load (g:=sK) Try.isAgg5 Try.sizeOf5 rfl jP fun dS kP=>?_)
 obtain rfl:=RV_u8.1 kP
 refine EL_p (.int .i64 (((aK).toNat:Int))) (P_u8int Try.underlying5 Try.underlying3 rfl) rfl ?_
 obtain ⟨bK,pO,h⟩:=bsome h
 refine EL_p (.int .i64 (bK)) (P_int rfl rfl (congrArg (Option.map (Value.int .i64)) pO)) rfl ?_
 obtain ⟨tD,qO,h⟩:=bsome h
 refine EL_p (.int .i64 (tD)) (P_int rfl rfl (congrArg (Option.map (Value.int .i64)) qO)) rfl ?_
 refine EL_p (fPtr p1 0) (Zc at_63_0 rfl (PT.ptr q1)) rfl ?_
 have kO:=Zm (part_Race_0).1 q1
 obtain ⟨cK,vK,h⟩:=bsome h
 refine EL_p (fPtr (fPtr p1 0) (((1:Int):Int).toNat * 1)) (P_indexAddrA (α:=UInt8) Try.underlying60 Try.sizeOf5 rfl (PT.ptr kO) rfl vK) rfl ?_
 have lP:=PT_idxA kO vK
 refine Ze .plain rfl (D_load (g:=sK) Try.isAgg5 Try.sizeOf5 rfl lP fun eS mP=>?_)
 obtain rfl:=RV_u8.1 mP
 refine EL_p (.int .i64 (((cK).toNat:Int))) (P_u8int Try.underlying5 Try.underlying3 rfl) rfl ?_
 obtain ⟨dK,rO,h⟩:=bsome h
 refine EL_p (.int .i64 (dK)) (P_int rfl rfl (congrArg (Option.map (Value.int .i64)) rO)) rfl ?_
 obtain ⟨uD,sO,h⟩:=bsome h
 refine EL_p (.int .i64 (uD)) (P_int rfl rfl (congrArg (Option.map (Value.int .i64)) sO)) rfl ?_
 refine Ze .plain rfl (D_buildSlice (g:=sK) 3034 (xs:=([tD,uD]:List Int)) (vs:=[.int .i64 (tD),.int .i64 (uD)]) Try.underlying26 Try.sizeOf3 Try.zeroValue3 rfl rfl (.cons rfl (.cons rfl .nil)) (RVs.cons (Zj.2 rfl) (RVs.cons (Zj.2 rfl) RVs.nil)) rfl rfl fun lO gS xK hs o26 yK hxt hfl=>?_)
 have hfr:=hfr.stp hs
 have q1:=q1.stp hs
 have m7:=m7.stp hs rfl
 have g8:=g8.stp hs rfl
 have k8:=k8.stp hs rfl
 have b2:=b2.stp hs rfl
 have vC:=vC.stp hs
 have o13:=o13.stp hs rfl
 have gH:RV lO.m _ (⟨([(w64 ((2:Int) + y7)),(w64 ((2:Int) + uC))]:List Int),([tD,uD]:List Int),[]⟩:BoxLoom) (.agg (setCh [[.slice none 0 0],[.slice none 0 0],[.slice none 0 0]] [(0,tK),(1,xK)]).flatten.toArray):=RV_build rfl (rep_pair (RV.cells vC) (rep_pair (RV.cells yK) (rep_last (rep_nil))))
 generalize zG:(Value.agg (setCh [[.slice none 0 0],[.slice none 0 0],[.slice none 0 0]] [(0,tK),(1,xK)]).flatten.toArray)=mO at gH
 obtain ⟨nP,oP,tB,_,_⟩:=RV_list vC
 replace tB:=tB.symm
 obtain ⟨pP,sP,vB,_,_⟩:=RV_list yK
 replace vB:=vB.symm
 refine EL_p mO (zG ▸ P_build (vs:=[(0,tK),(1,xK)]) [[.slice none 0 0],[.slice none 0 0],[.slice none 0 0]] lay_40 rfl rfl (.cons rfl (.cons rfl .nil)) ⟨⟨_,rfl,cells_size vC⟩,⟨⟨_,rfl,cells_size yK⟩,trivial⟩⟩) rfl ?_
 refine Ze .plain rfl (D_allocOc (g:=lO) 2003 (⟨[],[],[]⟩:BoxLoom) Try.zeroValue40 (fun m w=>⟨_,(rep_two rep_nil (rep_two rep_nil rep_nil)),rfl⟩) fun iH zK t5 hs b28 cb=>?_)
 have hfr:=hfr.stp hs
 have q1:=q1.stp hs
 have m7:=m7.stp hs rfl
 have g8:=g8.stp hs rfl
 have k8:=k8.stp hs rfl
 have b2:=b2.stp hs rfl
 have vC:=vC.stp hs
 have o13:=o13.stp hs rfl
 have gH:=gH.stp hs
 have gQ:OSF 2003 60300 0 iH zK 3 40 ([]:List Int) t5:=cb.osf (by rfl)
 have iQ:OSF 2003 60301 1 iH zK 3 40 ([]:List Int) t5:=cb.osf (by rfl)
 have jQ:OSF 2003 60302 2 iH zK 37 40 ([]:List BoxShuttle) t5:=cb.osf (by rfl)
 clear cb
 refine Ze .plain rfl (D_storeOc (g:=iH) (v:=mO) Try.sizeOf40 rfl b28 rfl gH fun jH w29 hs b29 cb=>?_)
 have mB:OSF 2003 60302 2 jH w29 37 40 ([]:List BoxShuttle) t5:=cb.osf (by rw [← zG,← tB,← vB]; rfl)
 obtain ⟨tP,uP,pI,_,_⟩:=RV_list vC
 have nB:OSF 2003 3021 0 jH w29 3 40 (([(w64 ((2:Int) + y7)),(w64 ((2:Int) + uC))]:List Int):List Int) t5:=cb.osfv (by rw [← zG,pI]; rfl) (o13.stp hs rfl)
 clear cb
 have hfr:=hfr.stp hs
 have q1:=q1.stp hs
 have m7:=m7.stp hs rfl
 have g8:=g8.stp hs rfl
 have k8:=k8.stp hs rfl
 have b2:=b2.stp hs rfl
 refine Zb (Zd (Zf (Za ?_)))
 have kH:RV jH.m w29 (⟨List.toArray [false,false,false,false,false,false],rfl⟩:Vector Bool 6) (.agg (setCh [[.bool false],[.bool false],[.bool false],[.bool false],[.bool false],[.bool false]] []).flatten.toArray):=RV_build rfl (rep_vec (flat_chunk rep_bool (flat_chunk rep_bool (flat_chunk rep_bool (flat_chunk rep_bool (flat_chunk rep_bool (flat_chunk rep_bool flat_nil)))))) rfl)
 generalize tO:(Value.agg (setCh [[.bool false],[.bool false],[.bool false],[.bool false],[.bool false],[.bool false]] []).flatten.toArray)=nO at kH
 refine EL_p nO (tO ▸ P_buildA (vs:=[]) [[.bool false],[.bool false],[.bool false],[.bool false],[.bool false],[.bool false]] Try.underlying173 layA_173 szA_4 rfl (by simp) .nil trivial) rfl ?_
 refine Ze .plain rfl (D_allocOc (g:=jH) 2004 ((⟨List.toArray [false,false,false,false,false,false],rfl⟩:Vector Bool 6):Vector Bool 6) Try.zeroValue173 (fun m w=>⟨_,(rep_vec (flat_chunk rep_bool (flat_chunk rep_bool (flat_chunk rep_bool (flat_chunk rep_bool (flat_chunk rep_bool (flat_chunk rep_bool flat_nil)))))) rfl),rfl⟩) fun vP iS a9 hs b31 cb=>?_)
 have hfr:=hfr.stp hs
 have q1:=q1.stp hs
 have m7:=m7.stp hs rfl
 have g8:=g8.stp hs rfl
 have k8:=k8.stp hs rfl
 have b2:=b2.stp hs rfl
 have mB:=mB.stp hs rfl
 have nB:=nB.stp hs rfl
 have b29:=b29.stp hs rfl
 have kH:=kH.stp hs
 clear cb
 refine Ze .plain rfl (D_storeOc (g:=vP) (v:=nO) Try.sizeOf173 rfl b31 rfl kH fun xP jS hs b32 cb=>?_)
 clear cb
 have hfr:=hfr.stp hs
 have q1:=q1.stp hs
 have m7:=m7.stp hs rfl
 have g8:=g8.stp hs rfl
 have k8:=k8.stp hs rfl
 have b2:=b2.stp hs rfl
 have mB:=mB.stp hs rfl
 have nB:=nB.stp hs rfl
 have b29:=b29.stp hs rfl
 refine Zb (Zd ?_)
 obtain ⟨n9,hx,h⟩:=bsome h
 refine E_join (fun e w=>∃ (g:Gh) ,Fr gI wI g w∧e 2=p2∧OB 2002 g w 40 ((⟨[],[],[]⟩:BoxLoom):BoxLoom) p2∧OSF 2002 60200 0 g w 3 40 (((⟨[],[],[]⟩:BoxLoom)).Boxes) p2∧OSF 2002 60201 1 g w 3 40 (((⟨[],[],[]⟩:BoxLoom)).At) p2∧OSF 2002 60202 2 g w 37 40 (((⟨[],[],[]⟩:BoxLoom)).Shuttles) p2∧e 3=t5∧OB 2003 g w 40 (n9:BoxLoom) t5∧OSF 2003 3021 0 g w 3 40 ((n9).Boxes) t5∧OSF 2003 60302 2 g w 37 40 ((n9).Shuttles) t5) (fun Q' hQ=>?_) (fun yP kQ hR=>?_)
 ·replace h := hx
  clear hx
  refine Zf (Za (Zg (.int .i64 (0)) rfl rfl ?_))
  refine Zb (Zd (Zr ?_))
  refine E_lp h (fun (s:BoxLoom × (Vector Bool 6) × Int) e w=>∃ (g:Gh) ,Fr gI wI g w∧e 1=p1∧PT g.m w (x0:Race) p1∧e 2=p2∧OB 2002 g w 40 ((⟨[],[],[]⟩:BoxLoom):BoxLoom) p2∧OSF 2002 60200 0 g w 3 40 (((⟨[],[],[]⟩:BoxLoom)).Boxes) p2∧OSF 2002 60201 1 g w 3 40 (((⟨[],[],[]⟩:BoxLoom)).At) p2∧OSF 2002 60202 2 g w 37 40 (((⟨[],[],[]⟩:BoxLoom)).Shuttles) p2∧e 3=t5∧OB 2003 g w 40 (s.1:BoxLoom) t5∧OSF 2003 3021 0 g w 3 40 ((s.1).Boxes) t5∧OSF 2003 60302 2 g w 37 40 ((s.1).Shuttles) t5∧e 4=a9∧OB 2004 g w 173 (s.2.1:Vector Bool 6) a9∧e 5=.int .i64 (s.2.2)) ⟨xP,hfr,rfl,q1,rfl,b2,m7,g8,k8,rfl,b29,nB,mB,rfl,b32,rfl⟩ (fun X615 lK mM=>?_)
  rintro ⟨u3,i7,o0⟩ lQ rR ⟨aL,hfr,bL,dL,eF,rF,u2_0_616,u2_1_616,u2_2_616,sF,tF,u3_0_616,u3_2_616,eL,gL,uF⟩ h
  refine Zq h (fun (s:Unit) e w=>∃ (g:Gh) ,Fr gI wI g w∧e 1=p1∧PT g.m w (x0:Race) p1∧e 2=p2∧OB 2002 g w 40 ((⟨[],[],[]⟩:BoxLoom):BoxLoom) p2∧OSF 2002 60200 0 g w 3 40 (((⟨[],[],[]⟩:BoxLoom)).Boxes) p2∧OSF 2002 60201 1 g w 3 40 (((⟨[],[],[]⟩:BoxLoom)).At) p2∧OSF 2002 60202 2 g w 37 40 (((⟨[],[],[]⟩:BoxLoom)).Shuttles) p2∧e 3=t5∧OB 2003 g w 40 (u3:BoxLoom) t5∧OSF 2003 3021 0 g w 3 40 ((u3).Boxes) t5∧OSF 2003 60302 2 g w 37 40 ((u3).Shuttles) t5∧e 4=a9∧OB 2004 g w 173 (i7:Vector Bool 6) a9∧e 5=.int .i64 (o0)) (fun X618 qK nM h=>?_) ?_
  ·refine Zf (Za (Zo uF rfl ?_))
   refine EL_in (.bool ((decide (o0 < (3:Int))))) rfl rfl rfl rfl ?_
   refine Zb (Zd ?_)
   rcases Zt h with ⟨vE,h⟩ | ⟨vE,h⟩
   ·refine E_ct vE rfl ?_
    exact Zu (Zd (nM () _ _ ⟨aL,hfr,bL,dL,eF,rF,u2_0_616,u2_1_616,u2_2_616,sF,tF,u3_0_616,u3_2_616,eL,gL,uF⟩ h))
   ·refine E_cf vE rfl ?_
    refine E_exit ?_
    refine thn_e ?_
    refine thn_e ?_
    refine blk_hit ?_
    obtain rfl:=sinj h
    exact hQ _ _ ⟨aL,hfr,eF,rF,u2_0_616,u2_1_616,u2_2_616,sF,tF,u3_0_616,u3_2_616⟩
  ·rintro _ mQ tR ⟨uO, hfr, vF, bA, iL, gD, u2_0_620, u2_1_620, u2_2_620, iD, l9, u3_0_620, u3_2_620, jL, jD, xF⟩ h
   obtain ⟨⟨k9,rA⟩,hx,h⟩:=bsome h
   refine E_join (fun e w=>∃ (g:Gh) ,Fr gI wI g w∧e 1=p1∧PT g.m w (x0:Race) p1∧e 2=p2∧OB 2002 g w 40 ((⟨[],[],[]⟩:BoxLoom):BoxLoom) p2∧OSF 2002 60200 0 g w 3 40 (((⟨[],[],[]⟩:BoxLoom)).Boxes) p2∧OSF 2002 60201 1 g w 3 40 (((⟨[],[],[]⟩:BoxLoom)).At) p2∧OSF 2002 60202 2 g w 37 40 (((⟨[],[],[]⟩:BoxLoom)).Shuttles) p2∧e 3=t5∧OB 2003 g w 40 (k9:BoxLoom) t5∧OSF 2003 3021 0 g w 3 40 ((k9).Boxes) t5∧OSF 2003 60302 2 g w 37 40 ((k9).Shuttles) t5∧e 4=a9∧OB 2004 g w 173 (rA:Vector Bool 6) a9∧e 5=.int .i64 (o0)) (fun Q' hQ=>?_) (fun zP nQ hR=>?_)
   ·replace h := hx
    clear hx
    refine Zr ?_
    refine Zf ?_
    have lL:=Zm (part_Race_1).1 bA
    obtain ⟨mK,lH,h⟩:=bsome h
    have mL:=PT_idxA lL lH
    obtain ⟨zD,mH,h⟩:=bsome h
    have vO:=PT_idxA mL mH
    refine Zs (x:=.tmp 44) Try.isAgg5 Try.sizeOf5 vO fun uR xO oM=>?_
    obtain rfl:=RV_u8.1 xO
    refine L_loadFS (x:=.tmp 47) part_BoxLoom_0.1 Try.isAgg26 Try.sizeOf26 l9 u3_0_620 fun nL oL o915 pM=>?_
    obtain ⟨aE,nH,h⟩:=bsome h
    have yO:=PT_idx oL nH
    refine Zs (x:=.tmp 49) Try.isAgg3 Try.sizeOf3 yO fun vR zO qM=>?_
    obtain rfl:=Zj.1 zO
    refine L_loadFS (x:=.tmp 51) part_BoxLoom_0.1 Try.isAgg26 Try.sizeOf26 l9 u3_0_620 fun pL qL o920 rM=>?_
    obtain ⟨bE,oH,h⟩:=bsome h
    have aP:=PT_idx qL oH
    refine Zs (x:=.tmp 53) Try.isAgg3 Try.sizeOf3 aP fun xR bP sM=>?_
    obtain rfl:=Zj.1 bP
    obtain ⟨iE,tM,h⟩:=bsome h
    refine E_drawL (g:=uO) (n:=17) [] [0,1,2,3,4,5,6,7,8,9,10,11,12,13,14,15,16] rfl mixed (by kernel_rfl) trivial ?_
    refine L_p (.int .i64 (o0)) rfl rfl (Zk xF) ?_
    refine L_p (fPtr p1 2) rfl rfl (Zc at_63_1 vF (PT.ptr bA)) ?_
    refine L_p (fPtr (fPtr p1 2) ((o0:Int).toNat * 2)) rfl rfl (P_indexAddrA (α:=Vector UInt8 2) Try.underlying61 Try.sizeOf60 rfl (PT.ptr lL) rfl lH) ?_
    refine L_p (fPtr (fPtr (fPtr p1 2) ((o0:Int).toNat * 2)) (((0:Int):Int).toNat * 1)) rfl rfl (P_indexAddrA (α:=UInt8) Try.underlying60 Try.sizeOf5 rfl (PT.ptr mL) rfl mH) ?_
    refine L_ld (c:=.int .u8 (UInt8.toNat (zD))) rfl rfl .plain (fun _ _ h=>h.ch) oM rfl ?_
    refine L_p (.int .i64 (((zD).toNat:Int))) rfl rfl (P_u8int Try.underlying5 Try.underlying3 rfl) ?_
    refine L_p (fPtr t5 0) rfl rfl (Zc at_40_0 iD (OB.ptr l9)) ?_
    refine L_ld (c:=nL) rfl rfl .plain (fun _ _ h=>⟨h.ch,fun b hb _=>h.below.block b hb⟩) pM rfl ?_
    refine L_p (ePtr nL (0:Int) 1) rfl rfl (Zh (α:=Int) Try.underlying26 Try.sizeOf3 rfl oL rfl nH) ?_
    refine L_ld (c:=.int .i64 (aE)) rfl rfl .plain (fun _ _ h=>h.ch) qM rfl ?_
    refine L_p (fPtr t5 0) rfl rfl (Zc at_40_0 iD (OB.ptr l9)) ?_
    refine L_ld (c:=pL) rfl rfl .plain (fun _ _ h=>⟨h.ch,fun b hb _=>h.below.block b hb⟩) rM rfl ?_
    refine L_p (ePtr pL (1:Int) 1) rfl rfl (Zh (α:=Int) Try.underlying26 Try.sizeOf3 rfl qL rfl oH) ?_
    refine L_ld (c:=.int .i64 (bE)) rfl rfl .plain (fun _ _ h=>h.ch) sM rfl ?_
    refine L_p (.int .i64 ((w64 (aE + bE)))) rfl rfl (P_int rfl rfl rfl) ?_
    refine L_p (.int .i64 (iE)) rfl rfl (P_int rfl rfl (congrArg (Option.map (Value.int .i64)) tM)) ?_
    refine L_p (.int .i64 (iE)) rfl rfl (P_assign rfl) ?_
    refine L_nl fun cP yR hs=>?_
    have hfr:=hfr.ext hs
    have bA:=bA.ext hs
    have u2_0_620:=u2_0_620.ext hs
    have u2_1_620:=u2_1_620.ext hs
    have u2_2_620:=u2_2_620.ext hs
    have gD:=gD.ext hs
    have u3_0_620:=u3_0_620.ext hs
    have u3_2_620:=u3_2_620.ext hs
    have l9:=l9.ext hs
    have jD:=jD.ext hs
    clear hs
    refine Zb (Zd ?_)
    obtain ⟨l5,hx,h⟩:=bsome h
    refine E_join (fun e w=>∃ (g:Gh) ,Fr gI wI g w∧e 1=p1∧PT g.m w (x0:Race) p1∧e 2=p2∧OB 2002 g w 40 ((⟨[],[],[]⟩:BoxLoom):BoxLoom) p2∧OSF 2002 60200 0 g w 3 40 (((⟨[],[],[]⟩:BoxLoom)).Boxes) p2∧OSF 2002 60201 1 g w 3 40 (((⟨[],[],[]⟩:BoxLoom)).At) p2∧OSF 2002 60202 2 g w 37 40 (((⟨[],[],[]⟩:BoxLoom)).Shuttles) p2∧e 3=t5∧OB 2003 g w 40 (u3:BoxLoom) t5∧OSF 2003 3021 0 g w 3 40 ((u3).Boxes) t5∧OSF 2003 60302 2 g w 37 40 ((u3).Shuttles) t5∧e 4=a9∧OB 2004 g w 173 (i7:Vector Bool 6) a9∧e 5=.int .i64 (o0)∧e 6=.int .i64 (l5)) (fun Q' hQ=>?_) (fun bQ oQ hR=>?_)
    ·replace h := hx
     clear hx
     refine Zr ?_
     refine E_lp h (fun (s:Int) e w=>∃ (g:Gh) ,Fr gI wI g w∧e 1=p1∧PT g.m w (x0:Race) p1∧e 2=p2∧OB 2002 g w 40 ((⟨[],[],[]⟩:BoxLoom):BoxLoom) p2∧OSF 2002 60200 0 g w 3 40 (((⟨[],[],[]⟩:BoxLoom)).Boxes) p2∧OSF 2002 60201 1 g w 3 40 (((⟨[],[],[]⟩:BoxLoom)).At) p2∧OSF 2002 60202 2 g w 37 40 (((⟨[],[],[]⟩:BoxLoom)).Shuttles) p2∧e 3=t5∧OB 2003 g w 40 (u3:BoxLoom) t5∧OSF 2003 3021 0 g w 3 40 ((u3).Boxes) t5∧OSF 2003 60302 2 g w 37 40 ((u3).Shuttles) t5∧e 4=a9∧OB 2004 g w 173 (i7:Vector Bool 6) a9∧e 5=.int .i64 (o0)∧e 6=.int .i64 (s)) ⟨cP,hfr,vF,bA,iL,gD,u2_0_620,u2_1_620,u2_2_620,iD,l9,u3_0_620,u3_2_620,jL,jD,xF,rfl⟩ (fun X990 nK uM=>?_)
     rintro x8 pQ zR ⟨aH,hfr,yF,zF,aG,bG,u2_0_991,u2_1_991,u2_2_991,cG,eG,u3_0_991,u3_2_991,lD,oB,gG,nD⟩ h
     refine Zq h (fun (s:Unit) e w=>∃ (g:Gh) ,Fr gI wI g w∧e 1=p1∧PT g.m w (x0:Race) p1∧e 2=p2∧OB 2002 g w 40 ((⟨[],[],[]⟩:BoxLoom):BoxLoom) p2∧OSF 2002 60200 0 g w 3 40 (((⟨[],[],[]⟩:BoxLoom)).Boxes) p2∧OSF 2002 60201 1 g w 3 40 (((⟨[],[],[]⟩:BoxLoom)).At) p2∧OSF 2002 60202 2 g w 37 40 (((⟨[],[],[]⟩:BoxLoom)).Shuttles) p2∧e 3=t5∧OB 2003 g w 40 (u3:BoxLoom) t5∧OSF 2003 3021 0 g w 3 40 ((u3).Boxes) t5∧OSF 2003 60302 2 g w 37 40 ((u3).Shuttles) t5∧e 4=a9∧OB 2004 g w 173 (i7:Vector Bool 6) a9∧e 5=.int .i64 (o0)∧e 6=.int .i64 (x8)) (fun X996 oK vM h=>?_) ?_
     ·refine Zf (Za (Zo nD rfl ?_))
      obtain ⟨pK,pH,h⟩:=bsome h
      obtain ⟨hi998,he998⟩:=vat_idx pH
      refine EL_p (fPtr a9 ((x8:Int).toNat * 1)) (P_indexAddrA (α:=Bool) Try.underlying173 Try.sizeOf4 lD (OB.ptr oB) rfl pH) rfl ?_
      refine Ze .plain rfl (D_loadD (g:=aH) (SubS.dyn hi998).1 he998 Try.isAgg4 Try.sizeOf4 rfl oB fun aS dP=>?_)
      obtain rfl:=RV_bool.1 dP
      refine Zb (Zd ?_)
      rcases Zt h with ⟨oD,h⟩ | ⟨oD,h⟩
      ·refine E_ct oD rfl ?_
       exact Zu (Zd (vM () _ _ ⟨aH,hfr,yF,zF,aG,bG,u2_0_991,u2_1_991,u2_2_991,cG,eG,u3_0_991,u3_2_991,lD,oB,gG,nD⟩ h))
      ·refine E_cf oD rfl ?_
       refine E_exit ?_
       refine thn_e ?_
       refine thn_e ?_
       refine blk_hit ?_
       obtain rfl:=sinj h
       exact hQ _ _ ⟨aH,hfr,yF,zF,aG,bG,u2_0_991,u2_1_991,u2_2_991,cG,eG,u3_0_991,u3_2_991,lD,oB,gG,nD⟩
     ·rintro _ cQ qQ ⟨xM, hfr, qI, yB, sI, zB, u2_0_1001, u2_1_1001, u2_2_1001, cC, l8, u3_0_1001, u3_2_1001, tI, mC, uI, vI⟩ h
      refine Zr ?_
      refine L_loadFS (x:=.tmp 62) part_BoxLoom_0.1 Try.isAgg26 Try.sizeOf26 l8 u3_0_1001 fun qH sH o1003 rL=>?_
      obtain ⟨aD,hG,h⟩:=bsome h
      have bN:=PT_idx sH hG
      refine Zs (x:=.tmp 64) Try.isAgg3 Try.sizeOf3 bN fun rQ cN tL=>?_
      obtain rfl:=Zj.1 cN
      refine L_loadFS (x:=.tmp 66) part_BoxLoom_0.1 Try.isAgg26 Try.sizeOf26 l8 u3_0_1001 fun tH uH o1008 uL=>?_
      obtain ⟨bD,iG,h⟩:=bsome h
      have dN:=PT_idx uH iG
      refine Zs (x:=.tmp 68) Try.isAgg3 Try.sizeOf3 dN fun sQ eN vL=>?_
      obtain rfl:=Zj.1 eN
      obtain ⟨iB,xL,h⟩:=bsome h
      refine E_drawL (g:=xM) (n:=13) [] [0,1,2,3,4,5,6,7,8,9,10,11,12] rfl mixed (by kernel_rfl) trivial ?_
      refine L_p (.int .i64 (x8)) rfl rfl (Zk vI) ?_
      refine L_p (.int .i64 ((w64 (x8 + (1:Int))))) rfl rfl (P_int rfl rfl rfl) ?_
      refine L_p (fPtr t5 0) rfl rfl (Zc at_40_0 cC (OB.ptr l8)) ?_
      refine L_ld (c:=qH) rfl rfl .plain (fun _ _ h=>⟨h.ch,fun b hb _=>h.below.block b hb⟩) rL rfl ?_
      refine L_p (ePtr qH (0:Int) 1) rfl rfl (Zh (α:=Int) Try.underlying26 Try.sizeOf3 rfl sH rfl hG) ?_
      refine L_ld (c:=.int .i64 (aD)) rfl rfl .plain (fun _ _ h=>h.ch) tL rfl ?_
      refine L_p (fPtr t5 0) rfl rfl (Zc at_40_0 cC (OB.ptr l8)) ?_
      refine L_ld (c:=tH) rfl rfl .plain (fun _ _ h=>⟨h.ch,fun b hb _=>h.below.block b hb⟩) uL rfl ?_
      refine L_p (ePtr tH (1:Int) 1) rfl rfl (Zh (α:=Int) Try.underlying26 Try.sizeOf3 rfl uH rfl iG) ?_
      refine L_ld (c:=.int .i64 (bD)) rfl rfl .plain (fun _ _ h=>h.ch) vL rfl ?_
      refine L_p (.int .i64 ((w64 (aD + bD)))) rfl rfl (P_int rfl rfl rfl) ?_
      refine L_p (.int .i64 (iB)) rfl rfl (P_int rfl rfl (congrArg (Option.map (Value.int .i64)) xL)) ?_
      refine L_p (.int .i64 (iB)) rfl rfl (P_assign rfl) ?_
      refine L_nl fun gN tQ hs=>?_
      have hfr:=hfr.ext hs
      have yB:=yB.ext hs
      have u2_0_1001:=u2_0_1001.ext hs
      have u2_1_1001:=u2_1_1001.ext hs
      have u2_2_1001:=u2_2_1001.ext hs
      have zB:=zB.ext hs
      have u3_0_1001:=u3_0_1001.ext hs
      have u3_2_1001:=u3_2_1001.ext hs
      have l8:=l8.ext hs
      have mC:=mC.ext hs
      clear hs
      exact Zb (blk_n (Zd (uM (iB) _ _ ⟨gN,hfr,qI,yB,sI,zB,u2_0_1001,u2_1_1001,u2_2_1001,cC,l8,u3_0_1001,u3_2_1001,tI,mC,uI,rfl⟩ h)))
    ·clear hx
     obtain ⟨iN,hfr,yA,x5,vD,x6,u2_0_1032,u2_1_1032,u2_2_1032,aB,i6,u3_0_1032,u3_2_1032,qC,xD,u9,dB⟩:=hR
     refine Zf (Za (Zo dB rfl ?_))
     obtain ⟨kM,jG,h⟩:=bsome h
     obtain ⟨hi1034,he1034⟩:=vat_idx jG
     refine EL_p (fPtr a9 ((l5:Int).toNat * 1)) (P_indexAddrA (α:=Bool) Try.underlying173 Try.sizeOf4 qC (OB.ptr xD) rfl jG) rfl ?_
     refine Ze .plain rfl (D_storeFc (g:=iN) (SubS.dyn hi1034) Try.sizeOf4 rfl xD rfl (RV_bool.2 rfl) fun xE uQ hs b1035 rst hos=>?_)
     clear rst hos
     have hfr:=hfr.stp hs
     have x5:=x5.stp hs
     have u2_0_1032:=u2_0_1032.stp hs rfl
     have u2_1_1032:=u2_1_1032.stp hs rfl
     have u2_2_1032:=u2_2_1032.stp hs rfl
     have x6:=x6.stp hs rfl
     have u3_0_1032:=u3_0_1032.stp hs rfl
     have u3_2_1032:=u3_2_1032.stp hs rfl
     have i6:=i6.stp hs rfl
     refine Zb (Zd (Zf (Za (Zo u9 rfl ?_))))
     refine EL_p (fPtr p1 2) (Zc at_63_1 yA (PT.ptr x5)) rfl ?_
     have xH:=Zm (part_Race_1).1 x5
     obtain ⟨cH,kG,h⟩:=bsome h
     refine EL_p (fPtr (fPtr p1 2) ((o0:Int).toNat * 2)) (P_indexAddrA (α:=Vector UInt8 2) Try.underlying61 Try.sizeOf60 rfl (PT.ptr xH) rfl kG) rfl ?_
     have yH:=PT_idxA xH kG
     obtain ⟨lE,lG,h⟩:=bsome h
     refine EL_p (fPtr (fPtr (fPtr p1 2) ((o0:Int).toNat * 2)) (((1:Int):Int).toNat * 1)) (P_indexAddrA (α:=UInt8) Try.underlying60 Try.sizeOf5 rfl (PT.ptr yH) rfl lG) rfl ?_
     have jN:=PT_idxA yH lG
     refine Ze .plain rfl (D_load (g:=xE) Try.isAgg5 Try.sizeOf5 rfl jN fun vQ kN=>?_)
     obtain rfl:=RV_u8.1 kN
     refine EL_p (.int .i64 (((lE).toNat:Int))) (P_u8int Try.underlying5 Try.underlying3 rfl) rfl ?_
     obtain ⟨v8,yL,h⟩:=bsome h
     refine EL_p (.int .i64 (v8)) (P_int rfl rfl (congrArg (Option.map (Value.int .i64)) yL)) rfl ?_
     refine Zg (.int .i64 (v8)) rfl rfl ?_
     refine Zb (Zd (Zf (Za (Zo u9 rfl ?_))))
     refine Zo dB rfl ?_
     refine Zn (.int .i64 (v8)) rfl rfl ?_
     refine Zn (.int .i64 (v8)) rfl rfl ?_
     refine Zo u9 rfl ?_
     refine EL_p (fPtr p1 2) (Zc at_63_1 yA (PT.ptr x5)) rfl ?_
     have zH:=Zm (part_Race_1).1 x5
     obtain ⟨dH,mG,h⟩:=bsome h
     refine EL_p (fPtr (fPtr p1 2) ((o0:Int).toNat * 2)) (P_indexAddrA (α:=Vector UInt8 2) Try.underlying61 Try.sizeOf60 rfl (PT.ptr zH) rfl mG) rfl ?_
     have aI:=PT_idxA zH mG
     obtain ⟨mE,sG,h⟩:=bsome h
     refine EL_p (fPtr (fPtr (fPtr p1 2) ((o0:Int).toNat * 2)) (((1:Int):Int).toNat * 1)) (P_indexAddrA (α:=UInt8) Try.underlying60 Try.sizeOf5 rfl (PT.ptr aI) rfl sG) rfl ?_
     have lN:=PT_idxA aI sG
     refine Ze .plain rfl (D_load (g:=xE) Try.isAgg5 Try.sizeOf5 rfl lN fun xQ mN=>?_)
     obtain rfl:=RV_u8.1 mN
     refine EL_p (.int .i64 (((mE).toNat:Int))) (P_u8int Try.underlying5 Try.underlying3 rfl) rfl ?_
     obtain ⟨oE,zL,h⟩:=bsome h
     refine EL_p (.int .i64 (oE)) (P_int rfl rfl (congrArg (Option.map (Value.int .i64)) zL)) rfl ?_
     obtain ⟨lB,aM,h⟩:=bsome h
     refine EL_p (.int .i64 (lB)) (P_int rfl rfl (congrArg (Option.map (Value.int .i64)) aM)) rfl ?_
     refine EL_in (.int .i64 ((w64 (v8 + lB)))) rfl rfl rfl rfl ?_
     obtain ⟨d9,bM,h⟩:=bsome h
     refine Ze .plain rfl (Zp (g:=xE) (vs:=[.int .i64 (v8),.int .i64 ((w64 (v8 + lB)))]) en51 (.cons rfl (.cons rfl .nil)) (wk51  bM) fun bI dQ yE hs hr=>?_)
     have hfr:=hfr.ext hs
     have x5:=x5.ext hs
     have u2_0_1032:=u2_0_1032.ext hs
     have u2_1_1032:=u2_1_1032.ext hs
     have u2_2_1032:=u2_2_1032.ext hs
     have x6:=x6.ext hs
     have u3_0_1032:=u3_0_1032.ext hs
     have u3_2_1032:=u3_2_1032.ext hs
     have i6:=i6.ext hs
     have b1035:=b1035.ext hs
     have dI:=hr
     have eD:RV bI.m _ (⟨o0,0,l5,d9⟩:BoxShuttle) (.agg (setCh [[.int .i64 0],[.int .i64 0],[.int .i64 0],[.int .i64 0,.int .i64 0]] [(0,.int .i64 (o0)),(2,.int .i64 (l5)),(3,yE)]).flatten.toArray):=RV_build rfl (rep_pair (rfl) (rep_pair (rep_int) (rep_pair (rfl) (rep_last (RV.cells dI)))))
     generalize cM:(Value.agg (setCh [[.int .i64 0],[.int .i64 0],[.int .i64 0],[.int .i64 0,.int .i64 0]] [(0,.int .i64 (o0)),(2,.int .i64 (l5)),(3,yE)]).flatten.toArray)=iI at eD
     refine EL_p iI (cM ▸ P_build (vs:=[(0,.int .i64 (o0)),(2,.int .i64 (l5)),(3,yE)]) [[.int .i64 0],[.int .i64 0],[.int .i64 0],[.int .i64 0,.int .i64 0]] lay_37 rfl rfl (.cons rfl (.cons rfl (.cons rfl .nil))) ⟨⟨_,rfl,rfl⟩,⟨⟨_,rfl,rfl⟩,⟨⟨_,rfl,cells_size dI⟩,trivial⟩⟩⟩) rfl ?_
     refine Ze .plain rfl (D_allocOc (g:=bI) 2008 (⟨0,0,0,⟨0,0⟩⟩:BoxShuttle) Try.zeroValue37 (fun m w=>⟨_,(rep_two rep_int (rep_two rep_int (rep_two rep_int (rep_two rep_int rep_int)))),rfl⟩) fun nN yQ z9 hs b1054 cb=>?_)
     have hfr:=hfr.stp hs
     have x5:=x5.stp hs
     have u2_0_1032:=u2_0_1032.stp hs rfl
     have u2_1_1032:=u2_1_1032.stp hs rfl
     have u2_2_1032:=u2_2_1032.stp hs rfl
     have x6:=x6.stp hs rfl
     have u3_0_1032:=u3_0_1032.stp hs rfl
     have u3_2_1032:=u3_2_1032.stp hs rfl
     have i6:=i6.stp hs rfl
     have b1035:=b1035.stp hs rfl
     have eD:=eD.stp hs
     clear cb
     refine Ze .plain rfl (D_storeOc (g:=nN) (v:=iI) Try.sizeOf37 rfl b1054 rfl eD fun zE zQ hs b1055 cb=>?_)
     clear cb
     have hfr:=hfr.stp hs
     have x5:=x5.stp hs
     have u2_0_1032:=u2_0_1032.stp hs rfl
     have u2_1_1032:=u2_1_1032.stp hs rfl
     have u2_2_1032:=u2_2_1032.stp hs rfl
     have x6:=x6.stp hs rfl
     have u3_0_1032:=u3_0_1032.stp hs rfl
     have u3_2_1032:=u3_2_1032.stp hs rfl
     have i6:=i6.stp hs rfl
     have b1035:=b1035.stp hs rfl
     refine Zb (Zd ?_)
     obtain ⟨iA,hx,h⟩:=bsome h
     refine E_join (fun e w=>∃ (g:Gh) ,Fr gI wI g w∧e 1=p1∧PT g.m w (x0:Race) p1∧e 2=p2∧OB 2002 g w 40 ((⟨[],[],[]⟩:BoxLoom):BoxLoom) p2∧OSF 2002 60200 0 g w 3 40 (((⟨[],[],[]⟩:BoxLoom)).Boxes) p2∧OSF 2002 60201 1 g w 3 40 (((⟨[],[],[]⟩:BoxLoom)).At) p2∧OSF 2002 60202 2 g w 37 40 (((⟨[],[],[]⟩:BoxLoom)).Shuttles) p2∧e 3=t5∧OB 2003 g w 40 (u3:BoxLoom) t5∧OSF 2003 3021 0 g w 3 40 ((u3).Boxes) t5∧OSF 2003 60302 2 g w 37 40 ((u3).Shuttles) t5∧e 4=a9∧OB 2004 g w 173 ((vset i7 l5 true):Vector Bool 6) a9∧e 5=.int .i64 (o0)∧e 8=z9∧OB 2008 g w 37 (iA:BoxShuttle) z9) (fun Q' hQ=>?_) (fun eQ aR hR=>?_)
     ·replace h := hx
      clear hx
      refine Zf (Za (Zo dB rfl ?_))
      refine EL_p (fPtr t5 0) (Zc at_40_0 aB (OB.ptr i6)) rfl ?_
      refine Ze .plain rfl (D_loadFS (g:=zE) part_BoxLoom_0.1 Try.isAgg26 Try.sizeOf26 rfl i6 u3_0_1032 fun oN jI o1122=>?_)
      obtain ⟨rE,xG,h⟩:=bsome h
      refine EL_p (ePtr oN (0:Int) 1) (Zh (α:=Int) Try.underlying26 Try.sizeOf3 rfl jI rfl xG) rfl ?_
      have pN:=PT_idx jI xG
      refine Ze .plain rfl (D_load (g:=zE) Try.isAgg3 Try.sizeOf3 rfl pN fun bR qN=>?_)
      obtain rfl:=Zj.1 qN
      refine EL_in (.bool ((decide (l5 ≥ rE)))) rfl rfl rfl rfl ?_
      refine Zb (Zd ?_)
      rcases Zt h with ⟨sD,h⟩ | ⟨sD,h⟩
      ·refine E_ct sD rfl ?_
       refine L_loadO (x:=.tmp 103) part_BoxLoom_0.1 Try.isAgg26 Try.sizeOf26 i6 fun kI lI dM=>?_
       obtain ⟨cD,yG,h⟩:=bsome h
       have rN:=PT_idx lI yG
       refine Zs (x:=.tmp 105) Try.isAgg3 Try.sizeOf3 rN fun cR sN eM=>?_
       obtain rfl:=Zj.1 sN
       refine E_drawB (a0:=((⟨o0,0,l5,d9⟩:BoxShuttle):BoxShuttle)) (a1:=((⟨o0,(1:Int),l5,d9⟩:BoxShuttle):BoxShuttle)) b1055 (n:=9) [(7,(fun _ g w=>OB 2008 g w 37 ((⟨o0,(1:Int),l5,d9⟩:BoxShuttle):BoxShuttle) z9))] [0,1,2,3,4,5,6,7,8] rfl mixed (by kernel_rfl) (⟨fun _=>up_box,trivial⟩) ?_
       refine L_p (.int .i64 (l5)) rfl rfl (Zk dB) ?_
       refine L_p (fPtr t5 0) rfl rfl (Zc at_40_0 aB (OB.ptr i6)) ?_
       refine L_ld (c:=kI) rfl rfl .plain (fun _ _ h=>⟨h.1.ch,fun b hb ho=>h.1.block b hb (by rw [ho]; decide)⟩) dM rfl ?_
       refine L_p (ePtr kI (0:Int) 1) rfl rfl (Zh (α:=Int) Try.underlying26 Try.sizeOf3 rfl lI rfl yG) ?_
       refine L_ld (c:=.int .i64 (cD)) rfl rfl .plain (fun _ _ h=>h.1.ch) eM rfl ?_
       refine L_p (.int .i64 ((w64 (l5 - cD)))) rfl rfl (P_int rfl rfl rfl) ?_
       refine L_p (fPtr z9 1) rfl rfl (Zc at_37_1 rfl (OB.ptr b1055)) ?_
       refine L_do (φ:=fun _ g w=>OB 2008 g w 37 ((⟨o0,(1:Int),l5,d9⟩:BoxShuttle):BoxShuttle) z9) rfl rfl .plain (fun g w hd=>D_storeR (g:=g) (by rfl) (by exact rfl) part_BoxShuttle_1 Try.sizeOf3 rfl hd.1.2 rfl (Zj.2 rfl)) (fun dR hv=>?_)
       clear hv
       refine L_p (fPtr z9 2) rfl rfl (Zc at_37_2 rfl (OB.ptr b1055)) ?_
       refine L_nil fun tN eR hall=>?_
       have hs:=hall.1.1
       have hfr:=hfr.stp hs
       have x5:=x5.stp hs
       have u2_0_1032:=u2_0_1032.stp hs rfl
       have u2_1_1032:=u2_1_1032.stp hs rfl
       have u2_2_1032:=u2_2_1032.stp hs rfl
       have x6:=x6.stp hs rfl
       have u3_0_1032:=u3_0_1032.stp hs rfl
       have u3_2_1032:=u3_2_1032.stp hs rfl
       have i6:=i6.stp hs rfl
       have b1035:=b1035.stp hs rfl
       have b1170:=(word_all (A:=fun g w=>OB 2008 g w 37 ((⟨o0,(1:Int),l5,d9⟩:BoxShuttle):BoxShuttle) z9) 7 rfl hall)
       clear hs hall
       refine Ze .plain rfl (D_storeFc (g:=tN) part_BoxShuttle_2 Try.sizeOf3 rfl b1170 rfl (Zj.2 rfl) fun uN gR hs b1185 rst hos=>?_)
       clear rst hos
       have hfr:=hfr.stp hs
       have x5:=x5.stp hs
       have u2_0_1032:=u2_0_1032.stp hs rfl
       have u2_1_1032:=u2_1_1032.stp hs rfl
       have u2_2_1032:=u2_2_1032.stp hs rfl
       have x6:=x6.stp hs rfl
       have u3_0_1032:=u3_0_1032.stp hs rfl
       have u3_2_1032:=u3_2_1032.stp hs rfl
       have i6:=i6.stp hs rfl
       have b1035:=b1035.stp hs rfl
       refine Zb ?_
       obtain rfl:=sinj h
       exact hQ _ _ ⟨uN,hfr,yA,x5,vD,x6,u2_0_1032,u2_1_1032,u2_2_1032,aB,i6,u3_0_1032,u3_2_1032,qC,b1035,u9,rfl,b1185⟩
      ·refine E_cf sD rfl ?_
       refine Zu ?_
       obtain rfl:=sinj h
       exact hQ _ _ ⟨zE,hfr,yA,x5,vD,x6,u2_0_1032,u2_1_1032,u2_2_1032,aB,i6,u3_0_1032,u3_2_1032,qC,b1035,u9,rfl,b1055⟩
     ·clear hx
      obtain ⟨cF,hfr,yI,m8,zI,n8,u2_0_1186,u2_1_1186,u2_2_1186,rC,y6,u3_0_1186,u3_2_1186,eJ,r8,gJ,iJ,jJ⟩:=hR
      refine Za (EL_p (fPtr t5 2) (Zc at_40_2 rC (OB.ptr y6)) rfl ?_)
      refine Ze .plain rfl (D_loadFS (g:=cF) part_BoxLoom_2.1 Try.isAgg38 Try.sizeOf38 rfl y6 u3_2_1186 fun iR dF o1188=>?_)
      refine Ze .plain rfl (D_loadO (g:=cF) Try.isAgg37 Try.sizeOf37 iJ jJ fun vN xN=>?_)
      refine Ze .plain rfl (D_buildSlice (g:=cF) 3113 (xs:=([iA]:List BoxShuttle)) (vs:=[vN]) Try.underlying38 Try.sizeOf37 Try.zeroValue37 rfl rfl (.cons rfl .nil) (RVs.cons xN RVs.nil) rfl rfl fun yN jR lR hs o1190 zN hxt hfl=>?_)
      have hfr:=hfr.stp hs
      have m8:=m8.stp hs
      have u2_0_1186:=u2_0_1186.stp hs rfl
      have u2_1_1186:=u2_1_1186.stp hs rfl
      have u2_2_1186:=u2_2_1186.stp hs rfl
      have n8:=n8.stp hs rfl
      have u3_0_1186:=u3_0_1186.stp hs rfl
      have y6:=y6.stp hs rfl
      have r8:=r8.stp hs rfl
      have dF:=dF.stp hs
      have o1188:=o1188.stp hs rfl
      obtain ⟨uE,iM,h⟩:=bsome h
      refine Ze .plain rfl (D_append (g:=yN) (i:=60302) Try.underlying38 info_37 rfl rfl o1188 dF rfl zN iM fun aO mR nR hs o1191 mI _=>?_)
      have hfr:=hfr.stp hs
      have m8:=m8.stp hs
      have u2_0_1186:=u2_0_1186.stp hs rfl
      have u2_1_1186:=u2_1_1186.stp hs rfl
      have u2_2_1186:=u2_2_1186.stp hs rfl
      have n8:=n8.stp hs rfl
      have u3_0_1186:=u3_0_1186.stp hs rfl
      have y6:=y6.stp hs rfl
      have r8:=r8.stp hs rfl
      refine EL_p (fPtr t5 2) (Zc at_40_2 rC (OB.ptr y6)) rfl ?_
      refine Ze .plain rfl (D_storeFc (g:=aO) part_BoxLoom_2 Try.sizeOf38 rfl y6 rfl mI fun bO oR hs b1194 rst hos=>?_)
      have u3_0_1186:=u3_0_1186.rest hs rst
      have kJ:=hos _ _ 60302 37 (uE:List BoxShuttle) (rv_cells1 mI) rfl o1191
      clear rst hos
      have hfr:=hfr.stp hs
      have m8:=m8.stp hs
      have u2_0_1186:=u2_0_1186.stp hs rfl
      have u2_1_1186:=u2_1_1186.stp hs rfl
      have u2_2_1186:=u2_2_1186.stp hs rfl
      have n8:=n8.stp hs rfl
      have r8:=r8.stp hs rfl
      refine Zb (blk_n ?_)
      obtain ⟨rfl,rfl⟩:=pairs2 h
      exact hQ _ _ ⟨bO,hfr,yI,m8,zI,n8,u2_0_1186,u2_1_1186,u2_2_1186,rC,b1194,u3_0_1186,kJ,eJ,r8,gJ⟩
   ·clear hx
    obtain ⟨cO,hfr,lJ,mJ,nJ,oJ,u2_0_1195,u2_1_1195,u2_2_1195,pJ,qJ,u3_0_1195,u3_2_1195,rJ,sJ,vJ⟩:=hR
    refine Za (Zo vJ rfl ?_)
    refine EL_in (.int .i64 ((w64 (o0 + (1:Int))))) rfl rfl rfl rfl ?_
    refine Zg (.int .i64 ((w64 (o0 + (1:Int))))) rfl rfl ?_
    exact Zb (Zd (mM (k9,rA,(w64 (o0 + (1:Int)))) _ _ ⟨cO,hfr,lJ,mJ,nJ,oJ,u2_0_1195,u2_1_1195,u2_2_1195,pJ,qJ,u3_0_1195,u3_2_1195,rJ,sJ,rfl⟩ h))
 ·clear hx
  obtain ⟨nI,hfr,yD,xJ,u2_0_1196,u2_1_1196,u2_2_1196,yJ,zJ,u3_0_1196,u3_2_1196⟩:=hR
  refine Zf (Za (Ze .plain rfl (D_loadO (g:=nI) Try.isAgg40 Try.sizeOf40 yJ zJ fun dO eO=>?_)))
  refine Ze .plain rfl (D_storeOc (g:=nI) (v:=dO) Try.sizeOf40 yD xJ rfl eO fun pR qR hs b1198 cb=>?_)
  clear cb
  have hfr:=hfr.stp hs
  refine Zb (Zd (E_ret ?_))
  obtain rfl:=sinj h
  obtain ⟨ad1199,cv1199,hp1199,jM,cr1199⟩:=ob_read Try.isAgg40 Try.sizeOf40 b1198
  exact endm_c rfl rfl ((show _=p2 from yD).trans hp1199) jM ⟨_,hfr,cr1199⟩
def f21 (x0:BoxLoom):Option (BoxLoom):=
 (f22 ((x0).Boxes)).bind fun y6=>
 (f22 ((x0).At)).bind fun t5=>
 (apnd 40 (([]:List BoxShuttle)) ((x0).Shuttles)).bind fun u3=>
 some ((⟨y6,t5,u3⟩:BoxLoom))
theorem en21:Enters Try.prog 21:=enters_of Try.func21 (by kernel_rfl) rfl
theorem wk21 {gI:Gh} {wI:World} {x0:BoxLoom} {up0:Value} (rp0:RV gI.m wI x0 up0) {r:BoxLoom} (h:f21 x0=some r):Fn Try.prog 21 #[up0] gI wI (fun m w v=>RV m w (r) v):=by
 unfold f21 at h
 refine fn_of_E Try.func21 rfl (Nat.le_of_ble_eq_true rfl) fun g0 hm hfr=>?_
 have rp0:RV g0.m wI x0 up0:=hm ▸ rp0
 show E _ 14 none _ _ _ _ _
 refine Zf (Za (Ze .plain rfl (D_box (g:=g0) rfl rp0 fun g1 w1 p1 hs q1=>?_)))
 have hfr:=hfr.ext hs
 refine Ze .plain rfl (D_allocOc (g:=g1) 2002 (⟨[],[],[]⟩:BoxLoom) Try.zeroValue40 (fun m w=>⟨_,(rep_two rep_nil (rep_two rep_nil rep_nil)),rfl⟩) fun g2 w2 p2 hs b2 cb=>?_)
 have hfr:=hfr.stp hs
 have q1:=q1.stp hs
 have y9:OSF 2002 60200 0 g2 w2 3 40 ([]:List Int) p2:=cb.osf (by rfl)
 have z9:OSF 2002 60201 1 g2 w2 3 40 ([]:List Int) p2:=cb.osf (by rfl)
 have bA:OSF 2002 60202 2 g2 w2 37 40 ([]:List BoxShuttle) p2:=cb.osf (by rfl)
 clear cb
 refine Zb (Zd (Zf ?_))
 have q3:=Zm (part_BoxLoom_0).1 q1
 refine Zs (x:=.tmp 3) Try.isAgg26 Try.sizeOf26 q3 fun v4 r4 a9=>?_
 obtain ⟨y6,d9,h⟩:=bsome h
 have q7:=Zm (part_BoxLoom_1).1 q1
 refine Zs (x:=.tmp 6) Try.isAgg26 Try.sizeOf26 q7 fun v8 r8 k9=>?_
 obtain ⟨t5,k8,h⟩:=bsome h
 have l9:=Zm (part_BoxLoom_2).1 q1
 refine Zs (x:=.tmp 10) Try.isAgg38 Try.sizeOf38 l9 fun n9 u9 l8=>?_
 obtain ⟨u3,m8,h⟩:=bsome h
 refine E_drawL (g:=g2) (n:=10) [(2,(fun v g w=>RV g.m w y6 v)),(5,(fun v g w=>RV g.m w t5 v)),(6,(fun v g w=>RV g.m w ([]:List BoxShuttle) v∧OS 3009 g w 37 ([]:List BoxShuttle) v∧FullV v)),(9,(fun v g w=>RV g.m w u3 v∧OS 3009 g w 37 u3 v))] [0,1,2,3,4,5,6,7,8,9] rfl mixed (by kernel_rfl) (⟨fun _=>up_rv,fun _=>up_rv,fun _=>up_and up_rv (up_and up_os (up_eq _)),fun _=>up_and up_rv up_os,trivial⟩) ?_
 refine L_p (fPtr p1 0) rfl rfl (Zc at_40_0 rfl (PT.ptr q1)) ?_
 refine L_ld (c:=v4) rfl rfl .plain (fun _ _ h=>h.ch) a9 rfl ?_
 refine L_do (φ:=fun v g w=>RV g.m w y6 v) rfl rfl .plain (fun g w hd=>Zp (g:=g) (vs:=[v4]) en22 (.cons rfl .nil) (wk22 (r4.ext hd.1) d9) fun g' w' v hs hr=>⟨g',hs,hr⟩) (fun v5 hv=>?_)
 obtain ⟨_,_,_,rq5⟩:=hv
 refine L_p (fPtr p1 1) rfl rfl (Zc at_40_1 rfl (PT.ptr q1)) ?_
 refine L_ld (c:=v8) rfl rfl .plain (fun _ _ h=>h.ch) k9 rfl ?_
 refine L_do (φ:=fun v g w=>RV g.m w t5 v) rfl rfl .plain (fun g w hd=>Zp (g:=g) (vs:=[v8]) en22 (.cons rfl .nil) (wk22 (r8.ext hd.1) k8) fun g' w' v hs hr=>⟨g',hs,hr⟩) (fun v9 hv=>?_)
 obtain ⟨_,_,_,rq9⟩:=hv
 refine L_do (φ:=fun v g w=>RV g.m w ([]:List BoxShuttle) v∧OS 3009 g w 37 ([]:List BoxShuttle) v∧FullV v) rfl rfl .plain (fun g w hd=>D_buildSlice (g:=g) 3009 (xs:=([]:List BoxShuttle)) (vs:=[]) Try.underlying38 Try.sizeOf37 Try.zeroValue37 rfl rfl .nil RVs.nil rfl rfl fun g' w' v hs o r hxt hfl=>⟨g',hxt,r,o,hfl⟩) (fun o0 hv=>?_)
 clear hv
 refine L_p (fPtr p1 2) rfl rfl (Zc at_40_2 rfl (PT.ptr q1)) ?_
 refine L_ld (c:=n9) rfl rfl .plain (fun _ _ h=>h.ch) l8 rfl ?_
 refine L_do (φ:=fun v g w=>RV g.m w u3 v∧OS 3009 g w 37 u3 v) rfl rfl .plain (fun g w hd=>D_append (g:=g) (i:=3009) Try.underlying38 info_37 rfl rfl (word (A:=fun g w=>RV g.m w ([]:List BoxShuttle) o0∧OS 3009 g w 37 ([]:List BoxShuttle) o0∧FullV o0) 6 rfl rfl (deps_of hd)).2.1 (word (A:=fun g w=>RV g.m w ([]:List BoxShuttle) o0∧OS 3009 g w 37 ([]:List BoxShuttle) o0∧FullV o0) 6 rfl rfl (deps_of hd)).1 rfl (u9.ext hd.1) m8 fun g' w' v hs o r hf=>⟨g',hf (word (A:=fun g w=>RV g.m w ([]:List BoxShuttle) o0∧OS 3009 g w 37 ([]:List BoxShuttle) o0∧FullV o0) 6 rfl rfl (deps_of hd)).2.2,r,o⟩) (fun l5 hv=>?_)
 clear hv
 refine L_nil fun x5 iA hall=>?_
 have hs:=hall.1
 have hfr:=hfr.ext hs
 have b2:=b2.ext hs
 have i6:=(word_all (A:=fun g w=>RV g.m w y6 v5) 2 rfl hall)
 have x6:=(word_all (A:=fun g w=>RV g.m w t5 v9) 5 rfl hall)
 have rA:=(word_all (A:=fun g w=>RV g.m w ([]:List BoxShuttle) o0∧OS 3009 g w 37 ([]:List BoxShuttle) o0∧FullV o0) 6 rfl hall).1
 have o26:=(word_all (A:=fun g w=>RV g.m w ([]:List BoxShuttle) o0∧OS 3009 g w 37 ([]:List BoxShuttle) o0∧FullV o0) 6 rfl hall).2.1
 have i7:=(word_all (A:=fun g w=>RV g.m w u3 l5∧OS 3009 g w 37 u3 l5) 9 rfl hall).1
 have o29:=(word_all (A:=fun g w=>RV g.m w u3 l5∧OS 3009 g w 37 u3 l5) 9 rfl hall).2
 clear hs hall
 have m7:RV x5.m _ (⟨y6,t5,u3⟩:BoxLoom) (.agg (setCh [[.slice none 0 0],[.slice none 0 0],[.slice none 0 0]] [(0,v5),(1,v9),(2,l5)]).flatten.toArray):=RV_build rfl (rep_pair (RV.cells i6) (rep_pair (RV.cells x6) (rep_last (RV.cells i7))))
 generalize n8:(Value.agg (setCh [[.slice none 0 0],[.slice none 0 0],[.slice none 0 0]] [(0,v5),(1,v9),(2,l5)]).flatten.toArray)=g8 at m7
 refine EL_p g8 (n8 ▸ P_build (vs:=[(0,v5),(1,v9),(2,l5)]) [[.slice none 0 0],[.slice none 0 0],[.slice none 0 0]] lay_40 rfl rfl (.cons rfl (.cons rfl (.cons rfl .nil))) ⟨⟨_,rfl,cells_size i6⟩,⟨⟨_,rfl,cells_size x6⟩,⟨⟨_,rfl,cells_size i7⟩,trivial⟩⟩⟩) rfl ?_
 refine Ze .plain rfl (D_storeOc (g:=x5) (v:=g8) Try.sizeOf40 rfl b2 rfl m7 fun yA aB hs b31 cb=>?_)
 clear cb
 have hfr:=hfr.stp hs
 refine Zb (Zd (E_ret ?_))
 obtain rfl:=sinj h
 obtain ⟨ad32,cv32,hp32,x8,cr32⟩:=ob_read Try.isAgg40 Try.sizeOf40 b31
 exact endm_c rfl rfl ((show _=p2 from rfl).trans hp32) x8 ⟨_,hfr,cr32⟩
def f81 (x0:BeamTake):Option (BeamRatio):=
 Option.bind (α:=BeamRatio) (
  lp (σ:=BeamRatio × Int) (fun yB (o0,l5)=>
   bif (decide (l5 < (((x0).Pairs).length : Int))) then
    Option.bind (α:=BeamRatio) (
     (idx ((x0).Pairs) l5).bind fun i7=>
     some ({ { o0 with Ratio:={ (o0).Ratio with Num:=(w64 (((o0).Ratio).Num * (i7).Driver)) } } with Ratio:={ ({ o0 with Ratio:={ (o0).Ratio with Num:=(w64 (((o0).Ratio).Num * (i7).Driver)) } }).Ratio with Den:=(w64 ((({ o0 with Ratio:={ (o0).Ratio with Num:=(w64 (((o0).Ratio).Num * (i7).Driver)) } }).Ratio).Den * (i7).Driven)) } })
     ) fun y6=>
    yB (y6,(w64 (l5 + (1:Int))))
   else
    some (o0)
   ) big ((⟨(⟨(w64 ((x0).Round * (x0).Step)),(x0).Ratchet⟩:Ratio)⟩:BeamRatio),(0:Int))
  ) fun m7=>
 (f157 m7).bind fun z9=>
 some (z9)
theorem en81:Enters Try.prog 81:=enters_of Try.func81 (by kernel_rfl) rfl
theorem wk81 {gI:Gh} {wI:World} {x0:BeamTake} {up0:Value} (rp0:RV gI.m wI x0 up0) {r:BeamRatio} (h:f81 x0=some r):Fn Try.prog 81 #[up0] gI wI (fun m w v=>RV m w (r) v):=by
 unfold f81 at h
 refine fn_of_E Try.func81 rfl (Nat.le_of_ble_eq_true rfl) fun g0 hm hfr=>?_
 have rp0:RV g0.m wI x0 up0:=hm ▸ rp0
 show E _ 41 none _ _ _ _ _
 refine Zf (Za (Ze .plain rfl (D_box (g:=g0) rfl rp0 fun g1 w1 p1 hs q1=>?_)))
 have hfr:=hfr.ext hs
 refine Ze .plain rfl (D_allocOc (g:=g1) 2002 (⟨⟨0,0⟩⟩:BeamRatio) Try.zeroValue182 (fun m w=>⟨_,(rep_two rep_int rep_int),rfl⟩) fun g2 w2 p2 hs b2 cb=>?_)
 have hfr:=hfr.stp hs
 have q1:=q1.stp hs
 clear cb
 refine Zb (Zd (Zf (Za (EL_p (fPtr p1 3) (Zc at_68_3 rfl (PT.ptr q1)) rfl ?_))))
 have q3:=Zm (part_BeamTake_3).1 q1
 refine Ze .plain rfl (D_load (g:=g2) Try.isAgg3 Try.sizeOf3 rfl q3 fun v4 r4=>?_)
 obtain rfl:=Zj.1 r4
 refine EL_p (fPtr p1 1) (Zc at_68_1 rfl (PT.ptr q1)) rfl ?_
 have q5:=Zm (part_BeamTake_1).1 q1
 refine Ze .plain rfl (D_load (g:=g2) Try.isAgg3 Try.sizeOf3 rfl q5 fun v6 r6=>?_)
 obtain rfl:=Zj.1 r6
 refine EL_in (.int .i64 ((w64 ((x0).Round * (x0).Step)))) rfl rfl rfl rfl ?_
 refine EL_p (fPtr p1 0) (Zc at_68_0 rfl (PT.ptr q1)) rfl ?_
 have q7:=Zm (part_BeamTake_0).1 q1
 refine Ze .plain rfl (D_load (g:=g2) Try.isAgg3 Try.sizeOf3 rfl q7 fun v8 r8=>?_)
 obtain rfl:=Zj.1 r8
 have r9:RV g2.m w2 (⟨(w64 ((x0).Round * (x0).Step)),(x0).Ratchet⟩:Ratio) (.agg (setCh [[.int .i64 0],[.int .i64 0]] [(0,.int .i64 ((w64 ((x0).Round * (x0).Step)))),(1,.int .i64 ((x0).Ratchet))]).flatten.toArray):=RV_build rfl (rep_pair (rfl) (rep_last (rfl)))
 generalize nD:(Value.agg (setCh [[.int .i64 0],[.int .i64 0]] [(0,.int .i64 ((w64 ((x0).Round * (x0).Step)))),(1,.int .i64 ((x0).Ratchet))]).flatten.toArray)=v9 at r9
 refine EL_p v9 (nD ▸ P_build (vs:=[(0,.int .i64 ((w64 ((x0).Round * (x0).Step)))),(1,.int .i64 ((x0).Ratchet))]) [[.int .i64 0],[.int .i64 0]] lay_180 rfl rfl (.cons rfl (.cons rfl .nil)) ⟨⟨_,rfl,rfl⟩,⟨⟨_,rfl,rfl⟩,trivial⟩⟩) rfl ?_
 have d9:RV g2.m _ (⟨(⟨(w64 ((x0).Round * (x0).Step)),(x0).Ratchet⟩:Ratio)⟩:BeamRatio) (.agg (setCh [[.int .i64 0,.int .i64 0]] [(0,v9)]).flatten.toArray):=RV_build rfl (rep_last (RV.cells r9))
 generalize rC:(Value.agg (setCh [[.int .i64 0,.int .i64 0]] [(0,v9)]).flatten.toArray)=zB at d9
 refine EL_p zB (rC ▸ P_build (vs:=[(0,v9)]) [[.int .i64 0,.int .i64 0]] lay_182 rfl rfl (.cons rfl .nil) ⟨⟨_,rfl,cells_size r9⟩,trivial⟩) rfl ?_
 refine Ze .plain rfl (D_allocOc (g:=g2) 2003 (⟨⟨0,0⟩⟩:BeamRatio) Try.zeroValue182 (fun m w=>⟨_,(rep_two rep_int rep_int),rfl⟩) fun oD zE i6 hs b11 cb=>?_)
 have hfr:=hfr.stp hs
 have q1:=q1.stp hs
 have b2:=b2.stp hs rfl
 have d9:=d9.stp hs
 clear cb
 refine Ze .plain rfl (D_storeOc (g:=oD) (v:=zB) Try.sizeOf182 rfl b11 rfl d9 fun cC cF hs b12 cb=>?_)
 clear cb
 have hfr:=hfr.stp hs
 have q1:=q1.stp hs
 have b2:=b2.stp hs rfl
 refine Zb (Zd ?_)
 obtain ⟨m7,hx,h⟩:=bsome h
 refine E_join (fun e w=>∃ (g:Gh) ,Fr gI wI g w∧e 2=p2∧OB 2002 g w 182 ((⟨⟨0,0⟩⟩:BeamRatio):BeamRatio) p2∧e 3=i6∧OB 2003 g w 182 (m7:BeamRatio) i6) (fun Q' hQ=>?_) (fun zD iE hR=>?_)
 ·replace h := hx
  clear hx
  refine Zf (Za (EL_p (fPtr p1 2) (Zc at_68_2 rfl (PT.ptr q1)) rfl ?_))
  have sD:=Zm (part_BeamTake_2).1 q1
  refine Ze .plain rfl (D_load (g:=cC) Try.isAgg66 Try.sizeOf66 rfl sD fun v62 mC=>?_)
  refine EL_p (.int .i64 (((x0).Pairs).length:Int)) (P_len Try.underlying66 rfl mC) rfl ?_
  refine Zn (.int .i64 (0)) rfl rfl ?_
  refine Zb (Zd (Zr ?_))
  refine E_lp h (fun (s:BeamRatio × Int) e w=>∃ (g:Gh) ,Fr gI wI g w∧e 2=p2∧OB 2002 g w 182 ((⟨⟨0,0⟩⟩:BeamRatio):BeamRatio) p2∧e 3=i6∧OB 2003 g w 182 (s.1:BeamRatio) i6∧e 16=v62∧RV g.m w ((x0).Pairs:List BeamPair) v62∧e 17=.int .i64 ((((x0).Pairs).length:Int))∧e 18=.int .i64 (s.2)) ⟨cC,hfr,rfl,b2,rfl,b12,rfl,mC,rfl,rfl⟩ (fun X63 yB uC=>?_)
  rintro ⟨o0,l5⟩ lE dF ⟨bA,hfr,k9,x5,x6,t5,l8,u3,m8,g8⟩ h
  refine Zf (Za (EL_p (.bool ((decide (l5 < (((x0).Pairs).length:Int))))) (P_int g8 m8 rfl) rfl ?_))
  refine Zb (Zd (Zf ?_))
  rcases Zt h with ⟨x8,h⟩ | ⟨x8,h⟩
  ·refine E_ct x8 rfl ?_
   refine Zu (Zd ?_)
   obtain ⟨y6,hx,h⟩:=bsome h
   refine E_join (fun e w=>∃ (g:Gh) ,Fr gI wI g w∧e 2=p2∧OB 2002 g w 182 ((⟨⟨0,0⟩⟩:BeamRatio):BeamRatio) p2∧e 3=i6∧OB 2003 g w 182 (y6:BeamRatio) i6∧e 16=v62∧RV g.m w ((x0).Pairs:List BeamPair) v62∧e 17=.int .i64 ((((x0).Pairs).length:Int))∧e 18=.int .i64 (l5)) (fun Q' hQ=>?_) (fun aE mE hR=>?_)
   ·replace h := hx
    clear hx
    refine Zr ?_
    refine Zf (Za ?_)
    obtain ⟨i7,iA,h⟩:=bsome h
    refine EL_p (ePtr v62 l5 2) (Zh (α:=BeamPair) Try.underlying66 Try.sizeOf175 l8 u3 g8 iA) rfl ?_
    have tD:=PT_idx u3 iA
    refine Ze .plain rfl (D_load (g:=bA) Try.isAgg175 Try.sizeOf175 rfl tD fun uD rA=>?_)
    refine Ze .plain rfl (D_allocOc (g:=bA) 2005 (⟨0,0⟩:BeamPair) Try.zeroValue175 (fun m w=>⟨_,(rep_two rep_int rep_int),rfl⟩) fun vD eF qC hs b91 cb=>?_)
    have hfr:=hfr.stp hs
    have x5:=x5.stp hs rfl
    have t5:=t5.stp hs rfl
    have u3:=u3.stp hs
    have rA:=rA.stp hs
    clear cb
    refine Ze .plain rfl (D_storeOc (g:=vD) (v:=uD) Try.sizeOf175 rfl b91 rfl rA fun yA rF hs b92 cb=>?_)
    clear cb
    have hfr:=hfr.stp hs
    have x5:=x5.stp hs rfl
    have t5:=t5.stp hs rfl
    have u3:=u3.stp hs
    refine Zb (Zd (Zf (Za (EL_p (fPtr i6 0) (Zc at_182_0 x6 (OB.ptr t5)) rfl ?_))))
    refine EL_p (fPtr i6 0) (P_fieldAddr2 (o1:=0) rfl at_180_0 rfl (OB.ptr t5)) rfl ?_
    refine Ze .plain rfl (D_loadF (g:=yA) (SubS.comp part_BeamRatio_0 part_Ratio_0 rfl).1 Try.isAgg3 Try.sizeOf3 rfl t5 fun sF xD=>?_)
    obtain rfl:=Zj.1 xD
    refine EL_p (fPtr qC 0) (Zc at_175_0 rfl (OB.ptr b92)) rfl ?_
    refine Ze .plain rfl (D_loadF (g:=yA) part_BeamPair_0.1 Try.isAgg3 Try.sizeOf3 rfl b92 fun tF yD=>?_)
    obtain rfl:=Zj.1 yD
    refine EL_in (.int .i64 ((w64 (((o0).Ratio).Num * (i7).Driver)))) rfl rfl rfl rfl ?_
    refine EL_p (fPtr i6 0) (Zc at_182_0 x6 (OB.ptr t5)) rfl ?_
    refine EL_p (fPtr i6 0) (P_fieldAddr2 (o1:=0) rfl at_180_0 rfl (OB.ptr t5)) rfl ?_
    refine Ze .plain rfl (D_storeFc (g:=yA) (SubS.comp part_BeamRatio_0 part_Ratio_0 rfl) Try.sizeOf3 rfl t5 rfl (Zj.2 rfl) fun a9 oE hs b100 rst hos=>?_)
    clear rst hos
    have hfr:=hfr.stp hs
    have x5:=x5.stp hs rfl
    have u3:=u3.stp hs
    have b92:=b92.stp hs rfl
    refine Zb (Zd (Za (EL_p (fPtr i6 0) (Zc at_182_0 x6 (OB.ptr b100)) rfl ?_)))
    refine EL_p (fPtr i6 1) (P_fieldAddr2 (o1:=0) rfl at_180_1 rfl (OB.ptr b100)) rfl ?_
    refine Ze .plain rfl (D_loadF (g:=a9) (SubS.comp part_BeamRatio_0 part_Ratio_1 rfl).1 Try.isAgg3 Try.sizeOf3 rfl b100 fun rE vC=>?_)
    obtain rfl:=Zj.1 vC
    refine EL_p (fPtr qC 1) (Zc at_175_1 rfl (OB.ptr b92)) rfl ?_
    refine Ze .plain rfl (D_loadF (g:=a9) part_BeamPair_1.1 Try.isAgg3 Try.sizeOf3 rfl b92 fun uE aD=>?_)
    obtain rfl:=Zj.1 aD
    refine EL_p (.int .i64 ((w64 ((({ o0 with Ratio:={ (o0).Ratio with Num:=(w64 (((o0).Ratio).Num * (i7).Driver)) } }).Ratio).Den * (i7).Driven)))) (P_int rfl rfl rfl) rfl ?_
    refine EL_p (fPtr i6 0) (Zc at_182_0 x6 (OB.ptr b100)) rfl ?_
    refine EL_p (fPtr i6 1) (P_fieldAddr2 (o1:=0) rfl at_180_1 rfl (OB.ptr b100)) rfl ?_
    refine Ze .plain rfl (D_storeFc (g:=a9) (SubS.comp part_BeamRatio_0 part_Ratio_1 rfl) Try.sizeOf3 rfl b100 rfl (Zj.2 rfl) fun bD vE hs b108 rst hos=>?_)
    clear rst hos
    have hfr:=hfr.stp hs
    have x5:=x5.stp hs rfl
    have u3:=u3.stp hs
    refine Zb (blk_n ?_)
    obtain rfl:=sinj h
    exact hQ _ _ ⟨bD,hfr,k9,x5,x6,b108,l8,u3,m8,g8⟩
   ·clear hx
    obtain ⟨cD,hfr,aB,dB,iB,lB,l9,n9,u9,y9⟩:=hR
    refine Za (EL_in (.int .i64 ((w64 (l5 + (1:Int))))) y9 rfl rfl rfl ?_)
    refine Zn (.int .i64 ((w64 (l5 + (1:Int))))) rfl rfl ?_
    exact Zb (Zd (uC (y6,(w64 (l5 + (1:Int)))) _ _ ⟨cD,hfr,aB,dB,iB,lB,l9,n9,u9,rfl⟩ h))
  ·refine E_cf x8 rfl ?_
   refine E_exit ?_
   refine thn_e ?_
   refine thn_e ?_
   refine blk_hit ?_
   obtain rfl:=sinj h
   exact hQ _ _ ⟨bA,hfr,k9,x5,x6,t5⟩
 ·clear hx
  obtain ⟨mB,hfr,n8,k8,nB,oB⟩:=hR
  refine Zf (Za (Ze .plain rfl (D_loadO (g:=mB) Try.isAgg182 Try.sizeOf182 nB oB fun eD gD=>?_)))
  obtain ⟨z9,tB,h⟩:=bsome h
  refine Ze .plain rfl (Zp (g:=mB) (vs:=[eD]) en157 (.cons rfl .nil) (wk157 gD tB) fun iD bE jD hs hr=>?_)
  have hfr:=hfr.ext hs
  have k8:=k8.ext hs
  have lD:=hr
  refine Ze .plain rfl (D_storeOc (g:=iD) (v:=jD) Try.sizeOf182 n8 k8 rfl lD fun xE yE hs b114 cb=>?_)
  clear cb
  have hfr:=hfr.stp hs
  refine Zb (Zd (E_ret ?_))
  obtain rfl:=sinj h
  obtain ⟨ad115,cv115,hp115,vB,cr115⟩:=ob_read Try.isAgg182 Try.sizeOf182 b114
  exact endm_c rfl rfl ((show _=p2 from n8).trans hp115) vB ⟨_,hfr,cr115⟩
def f137 (x0:List BoxShuttle) (x1:BoxShuttle→Option Bool):Option (Bool):=
 (f213 x0 x1).bind fun y2=>
 some ((decide (y2 ≥ (0:Int))))
theorem en137:Enters Try.prog 137:=enters_of Try.func137 (by kernel_rfl) rfl
theorem wk137 {gI:Gh} {wI:World} {x0:List BoxShuttle} {x1:BoxShuttle→Option Bool} {up0:Value} (rp0:RV gI.m wI x0 up0) {up1:Value} (rp1:FnV1 Try.prog x1 up1 gI wI) {r:Bool} (h:f137 x0 x1=some r):Fn Try.prog 137 #[up0,up1] gI wI (fun _ _ v=>v=.bool (r)):=by
 unfold f137 at h
 refine fn_of_E Try.func137 rfl (Nat.le_of_ble_eq_true rfl) fun g0 hm hfr=>?_
 have rp0:RV g0.m wI x0 up0:=hm ▸ rp0
 obtain ⟨ff1,fa1,fc1,rfl,fen1,fcl1⟩:=rp1
 show E _ 9 none _ _ _ _ _
 refine Zf (Za (Zg (.bool false) rfl rfl ?_))
 refine Zb (Zd (Zf (Za (Zn up0 rfl rfl ?_))))
 refine Zn ((.func (.func ff1) fa1 fc1)) rfl rfl ?_
 obtain ⟨y2,hy2,h⟩:=bsome h
 refine Ze .plain rfl (Zp (g:=g0) (vs:=[up0,(.func (.func ff1) fa1 fc1)]) en213 (.cons rfl (.cons rfl .nil)) (wk213 rp0 (FnV1.ch ⟨_,_,_,rfl,fen1,fcl1⟩ hfr.ch) hy2) fun g1 w1_ v1 hs hr=>?_)
 have hfr:=hfr.ext hs
 subst hr
 refine EL_in (.bool ((decide (y2 ≥ (0:Int))))) rfl rfl rfl rfl ?_
 refine Zg (.bool ((decide (y2 ≥ (0:Int))))) rfl rfl ?_
 refine Zb (Zd (E_ret ?_))
 obtain rfl:=sinj h
 exact end1 rfl rfl (show _=.bool ((decide (y2 ≥ (0:Int)))) from rfl) ⟨_,hfr,rfl⟩
def f138 (x0:Int) (x1:Int) (x2:List Int):Option (Bool):=
 (f165 x2 ((fun a0=>f214 a0 x0 x1))).bind fun y4=>
 some ((!y4))
theorem en138:Enters Try.prog 138:=enters_of Try.func138 (by kernel_rfl) rfl
theorem wk138 {gI:Gh} {wI:World} {x0:Int} {x1:Int} {x2:List Int} {up2:Value} (rp2:RV gI.m wI x2 up2) {r:Bool} (h:f138 x0 x1 x2=some r):Fn Try.prog 138 #[.int .i64 (x0),.int .i64 (x1),up2] gI wI (fun _ _ v=>v=.bool (r)):=by
 unfold f138 at h
 refine fn_of_E Try.func138 rfl (Nat.le_of_ble_eq_true rfl) fun g0 hm hfr=>?_
 have rp2:RV g0.m wI x2 up2:=hm ▸ rp2
 show E _ 11 none _ _ _ _ _
 refine Zf (Za (Ze .plain rfl (D_box (g:=g0) rfl (Zj.2 rfl) fun g1 w1 p1 hs q1=>?_)))
 have hfr:=hfr.ext hs
 have rp2:=rp2.ext hs
 refine Ze .plain rfl (D_box (g:=g1) rfl (Zj.2 rfl) fun g2 w2 p2 hs q2=>?_)
 have hfr:=hfr.ext hs
 have rp2:=rp2.ext hs
 have q1:=q1.ext hs
 refine Zg (.bool false) rfl rfl ?_
 refine Zb (Zd (Zf (Za (Zn up2 rfl rfl ?_))))
 refine EL_p ((.func (.func 214) #[] #[p1,p2])) (P_makeFunc (capf_0_2 (show ev _ _=p1 from rfl) (show ev _ _=p2 from rfl))) rfl ?_
 obtain ⟨y4,o0,h⟩:=bsome h
 refine Ze .plain rfl (Zp (g:=g2) (vs:=[up2,(.func (.func 214) #[] #[p1,p2])]) en165 (.cons rfl (.cons rfl .nil)) (wk165 rp2 ⟨214,#[],#[p1,p2],rfl,en214,fun g' w' hch a0 b0 r hu0 hr=>by obtain rfl:=Zj.1 hu0; exact Fn.mono (wk214  (q1.ch hch) (q2.ch hch) hr) fun _ _ _ h=>RV_bool.2 h⟩ o0) fun g3 w3_ v3 hs hr=>?_)
 have hfr:=hfr.ext hs
 subst hr
 refine EL_p (.bool (!y4)) (P_not rfl) rfl ?_
 refine Zg (.bool (!y4)) rfl rfl ?_
 refine Zb (Zd (E_ret ?_))
 obtain rfl:=sinj h
 exact end1 rfl rfl (show _=.bool (!y4) from rfl) ⟨_,hfr,rfl⟩
def f140 (x0:BoxPoint) (x1:List (List Int)) (x2:BoxStep):Option (BoxPoint × Bool):=
 jn (σ:=BoxPoint × BoxPoint) (fun (dB,aD)=>
  some (dB,false)
  ) fun bD=>
 (idx x1 (x0).group).bind fun i6=>
 lp (σ:=BoxPoint × BoxPoint × Int) (fun cD (u3,i7,o0)=>
  bif (decide (o0 < ((i6).length : Int))) then
   jn (σ:=BoxPoint × BoxPoint) (fun (l9,n9)=>
    cD (l9,n9,(w64 (o0 + (1:Int))))
    ) fun eD=>
   (idx i6 o0).bind fun k8=>
   Option.bind (α:=Bool) (
    bif (k8 == (x2).colour) then
     (shr64 (u3).done o0).bind fun y180=>
     some (((bit64 .and y180 (1:Int)) == (0:Int)))
    else
     some (false)
    ) fun m7=>
   bif m7 then
    (shl64 (1:Int) o0).bind fun rA=>
    (f217 ({ { u3 with done:=(bit64 .or (u3).done rA) } with race:=(x2).next }) x1).bind fun gD=>
    some (gD,true)
   else
    eD (u3,i7)
  else
   bD (u3,i7)
  ) big (x0,(⟨0,0,⟨(⟨List.toArray [(⟨List.toArray [0,0,0,0],rfl⟩:Vector Int 4),(⟨List.toArray [0,0,0,0],rfl⟩:Vector Int 4)],rfl⟩:Vector (Vector Int 4) 2),⟨0,0⟩⟩⟩:BoxPoint),(0:Int))
theorem en140:Enters Try.prog 140:=enters_of Try.func140 (by kernel_rfl) rfl
theorem wk140 {gI:Gh} {wI:World} {x0:BoxPoint} {x1:List (List Int)} {x2:BoxStep} {up0:Value} (rp0:RV gI.m wI x0 up0) {up1:Value} (rp1:RV gI.m wI x1 up1) {up2:Value} (rp2:RV gI.m wI x2 up2) {r:BoxPoint × Bool} (h:f140 x0 x1 x2=some r):Fn Try.prog 140 #[up0,up1,up2] gI wI (fun m w v=>∃ y0 y1,v=.tuple #[y0,y1]∧RV m w (r.1) y0∧y1=.bool (r.2)):=by
 unfold f140 at h
 refine fn_of_E Try.func140 rfl (Nat.le_of_ble_eq_true rfl) fun g0 hm hfr=>?_
 have rp0:RV g0.m wI x0 up0:=hm ▸ rp0
 have rp1:RV g0.m wI x1 up1:=hm ▸ rp1
 have rp2:RV g0.m wI x2 up2:=hm ▸ rp2
 show E _ 47 none _ _ _ _ _
 refine Zf (Za (Ze .plain rfl (D_boxO (g:=g0) 2003 rfl rp0 fun g1 w1 p1 hs b1=>?_)))
 have hfr:=hfr.stp hs
 have rp1:=rp1.stp hs
 have rp2:=rp2.stp hs
 refine Ze .plain rfl (D_box (g:=g1) rfl rp2 fun g2 w2 p2 hs q2=>?_)
 have hfr:=hfr.ext hs
 have rp1:=rp1.ext hs
 have b1:=b1.ext hs
 refine Ze .plain rfl (D_allocOc (g:=g2) 2006 (⟨0,0,⟨(⟨List.toArray [(⟨List.toArray [0,0,0,0],rfl⟩:Vector Int 4),(⟨List.toArray [0,0,0,0],rfl⟩:Vector Int 4)],rfl⟩:Vector (Vector Int 4) 2),⟨0,0⟩⟩⟩:BoxPoint) Try.zeroValue157 (fun m w=>⟨_,(rep_two rep_int (rep_two rep_int (rep_two (rep_vec (flat_chunk (rep_vec (flat_chunk rep_int (flat_chunk rep_int (flat_chunk rep_int (flat_chunk rep_int flat_nil)))) rfl) (flat_chunk (rep_vec (flat_chunk rep_int (flat_chunk rep_int (flat_chunk rep_int (flat_chunk rep_int flat_nil)))) rfl) flat_nil)) rfl) (rep_two rep_int rep_int)))),rfl⟩) fun g3 w3 p3 hs b3 cb=>?_)
 have hfr:=hfr.stp hs
 have rp1:=rp1.stp hs
 have b1:=b1.stp hs rfl
 have q2:=q2.stp hs
 clear cb
 refine Zg (.bool false) rfl rfl ?_
 refine Zb (Zd (Zq h (fun (s:BoxPoint × BoxPoint) e w=>∃ (g:Gh) ,Fr gI wI g w∧e 3=p1∧OB 2003 g w 157 (s.1:BoxPoint) p1∧e 6=p3∧OB 2006 g w 157 (s.2:BoxPoint) p3) (fun X109 bD oE h=>?_) ?_))
 ·refine Zf (Za (Zn up1 rfl rfl ?_))
  refine EL_p (fPtr p1 0) (Zc at_157_0 rfl (OB.ptr b1)) rfl ?_
  refine Ze .plain rfl (D_loadF (g:=g3) part_BoxPoint_0.1 Try.isAgg3 Try.sizeOf3 rfl b1 fun aH eF=>?_)
  obtain rfl:=Zj.1 eF
  obtain ⟨i6,tB,h⟩:=bsome h
  refine EL_p (ePtr up1 (x0).group 1) (Zh (α:=List Int) Try.underlying146 Try.sizeOf26 rfl rp1 rfl tB) rfl ?_
  have rF:=PT_idx rp1 tB
  refine Ze .plain rfl (D_load (g:=g3) Try.isAgg26 Try.sizeOf26 rfl rF fun r8 iD=>?_)
  refine EL_p (.int .i64 ((i6).length:Int)) (P_len Try.underlying26 rfl iD) rfl ?_
  refine Zn (.int .i64 (0)) rfl rfl ?_
  refine Zb (Zd (Zr ?_))
  refine E_lp h (fun (s:BoxPoint × BoxPoint × Int) e w=>∃ (g:Gh) ,Fr gI wI g w∧e 1=up1∧RV g.m w (x1:List (List Int)) up1∧e 3=p1∧OB 2003 g w 157 (s.1:BoxPoint) p1∧e 5=p2∧PT g.m w (x2:BoxStep) p2∧e 6=p3∧OB 2006 g w 157 (s.2.1:BoxPoint) p3∧e 14=r8∧RV g.m w (i6:List Int) r8∧e 15=.int .i64 (((i6).length:Int))∧e 16=.int .i64 (s.2.2)) ⟨g3,hfr,rfl,rp1,rfl,b1,rfl,q2,rfl,b3,rfl,iD,rfl,rfl⟩ (fun X115 cD rE=>?_)
  rintro ⟨u3,i7,o0⟩ mG cH ⟨a9,hfr,iB,lB,v8,l8,u9,x8,y9,z9,d9,n8,k9,g8⟩ h
  refine Zf (Za (EL_in (.bool ((decide (o0 < ((i6).length:Int))))) g8 k9 rfl rfl ?_))
  refine Zb (Zd (Zf ?_))
  rcases Zt h with ⟨yA,h⟩ | ⟨yA,h⟩
  ·refine E_ct yA rfl ?_
   refine Zu (Zd (Zq h (fun (s:BoxPoint × BoxPoint) e w=>∃ (g:Gh) ,Fr gI wI g w∧e 1=up1∧RV g.m w (x1:List (List Int)) up1∧e 3=p1∧OB 2003 g w 157 (s.1:BoxPoint) p1∧e 5=p2∧PT g.m w (x2:BoxStep) p2∧e 6=p3∧OB 2006 g w 157 (s.2:BoxPoint) p3∧e 14=r8∧RV g.m w (i6:List Int) r8∧e 15=.int .i64 (((i6).length:Int))∧e 16=.int .i64 (o0)) (fun X165 eD uE h=>?_) ?_))
   ·refine Zr ?_
    refine Zf (Za (Zo g8 rfl ?_))
    obtain ⟨k8,vB,h⟩:=bsome h
    refine EL_p (ePtr r8 o0 1) (Zh (α:=Int) Try.underlying26 Try.sizeOf3 d9 n8 g8 vB) rfl ?_
    have sF:=PT_idx n8 vB
    refine Ze .plain rfl (D_load (g:=a9) Try.isAgg3 Try.sizeOf3 rfl sF fun dH tF=>?_)
    obtain rfl:=Zj.1 tF
    refine Zg (.int .i64 (o0)) rfl rfl ?_
    refine Zg (.int .i64 (k8)) rfl rfl ?_
    refine Zb (Zd ?_)
    obtain ⟨m7,hx,h⟩:=bsome h
    refine E_join (fun e w=>∃ (g:Gh) ,Fr gI wI g w∧e 1=up1∧RV g.m w (x1:List (List Int)) up1∧e 3=p1∧OB 2003 g w 157 (u3:BoxPoint) p1∧e 5=p2∧PT g.m w (x2:BoxStep) p2∧e 6=p3∧OB 2006 g w 157 (i7:BoxPoint) p3∧e 8=.int .i64 (o0)∧e 14=r8∧RV g.m w (i6:List Int) r8∧e 15=.int .i64 (((i6).length:Int))∧e 16=.int .i64 (o0)∧e 32=.bool (m7)) (fun Q' hQ=>?_) (fun sG gH hR=>?_)
    ·replace h := hx
     clear hx
     refine Za (Zn (.int .i64 (k8)) rfl rfl ?_)
     refine EL_p (fPtr p2 10) (Zc at_279_1 u9 (PT.ptr x8)) rfl ?_
     have uF:=Zm (part_BoxStep_1).1 x8
     refine Ze .plain rfl (D_load (g:=a9) Try.isAgg3 Try.sizeOf3 rfl uF fun iH vF=>?_)
     obtain rfl:=Zj.1 vF
     refine EL_in (.bool ((k8 == (x2).colour))) rfl rfl rfl rfl ?_
     refine Zn (.bool ((k8 == (x2).colour))) rfl rfl ?_
     rcases Zt h with ⟨t5,h⟩ | ⟨t5,h⟩
     ·refine EL_y (fPtr p1 1) (Zc at_157_1 v8 (OB.ptr l8)) rfl rfl t5 rfl ?_
      refine Ze (.yes2 rfl rfl t5) rfl (D_loadF (g:=a9) part_BoxPoint_1.1 Try.isAgg3 Try.sizeOf3 rfl l8 fun jH xF=>?_)
      obtain rfl:=Zj.1 xF
      refine EL_y (.int .i64 (o0)) (Zk rfl) rfl rfl t5 rfl ?_
      obtain ⟨y180,vE,h⟩:=bsome h
      refine EL_y (.int .i64 (y180)) (P_int rfl rfl (congrArg (Option.map (Value.int .i64)) vE)) rfl rfl t5 rfl ?_
      refine EL_y (.int .i64 ((bit64 .and y180 (1:Int)))) (P_int rfl rfl rfl) rfl rfl t5 rfl ?_
      refine EL_y (.bool (((bit64 .and y180 (1:Int)) == (0:Int)))) (P_int rfl rfl rfl) rfl rfl t5 rfl ?_
      refine EL_p (.bool (((bit64 .and y180 (1:Int)) == (0:Int)))) (Zl (b:=(k8 == (x2).colour)) rfl (pick_t t5 rfl)) rfl ?_
      refine Zb ?_
      obtain rfl:=sinj h
      exact hQ _ _ ⟨a9,hfr,iB,lB,v8,l8,u9,x8,y9,z9,rfl,d9,n8,k9,g8,rfl⟩
     ·refine EL_s rfl rfl t5 rfl rfl ?_
      iterate 5 refine EL_s rfl rfl t5 rfl rfl ?_
      refine EL_p (.bool false) (Zl (b:=(k8 == (x2).colour)) rfl (pick_f t5 rfl)) rfl ?_
      refine Zb ?_
      obtain rfl:=sinj h
      exact hQ _ _ ⟨a9,hfr,iB,lB,v8,l8,u9,x8,y9,z9,rfl,d9,n8,k9,g8,rfl⟩
    ·clear hx
     obtain ⟨jD,hfr,mB,x5,m8,x6,nB,y6,bA,l5,lD,yB,zB,cC,mC,iA⟩:=hR
     rcases Zt h with ⟨aB,h⟩ | ⟨aB,h⟩
     ·refine E_cond_true (Eq.trans (show ev _ _ = .bool (m7) from iA) (congrArg Value.bool aB)) ?_
      refine Zf (L_loadO (x:=.tmp 33) part_BoxPoint_1.1 Try.isAgg3 Try.sizeOf3 x6 fun kH yF xE=>?_)
      obtain rfl:=Zj.1 yF
      obtain ⟨rA,yE,h⟩:=bsome h
      refine E_drawL (g:=jD) (n:=6) [] [0,1,2,3,4,5] rfl mixed (by kernel_rfl) trivial ?_
      refine L_p (fPtr p1 1) rfl rfl (Zc at_157_1 m8 (OB.ptr x6)) ?_
      refine L_ld (c:=.int .i64 ((u3).done)) rfl rfl .plain (fun _ _ h=>⟨h.ch,fun b hb _=>h.below.block b hb⟩) xE rfl ?_
      refine L_p (.int .i64 (o0)) rfl rfl (Zk lD) ?_
      refine L_p (.int .i64 (rA)) rfl rfl (P_int rfl rfl (congrArg (Option.map (Value.int .i64)) yE)) ?_
      refine L_p (.int .i64 ((bit64 .or (u3).done rA))) rfl rfl (P_int rfl rfl rfl) ?_
      refine L_p (fPtr p1 1) rfl rfl (Zc at_157_1 m8 (OB.ptr x6)) ?_
      refine L_nl fun zF lH hs=>?_
      have hfr:=hfr.ext hs
      have x5:=x5.ext hs
      have x6:=x6.ext hs
      have y6:=y6.ext hs
      have l5:=l5.ext hs
      clear hs
      refine Ze .plain rfl (D_storeFc (g:=zF) part_BoxPoint_1 Try.sizeOf3 rfl x6 rfl (Zj.2 rfl) fun nD mH hs b203 rst hos=>?_)
      clear rst hos
      have hfr:=hfr.stp hs
      have x5:=x5.stp hs
      have y6:=y6.stp hs
      have l5:=l5.stp hs rfl
      refine Zb (Zd (Zf (Za (EL_p (fPtr p2 0) (Zc at_279_0 nB (PT.ptr y6)) rfl ?_))))
      have aG:=Zm (part_BoxStep_0).1 y6
      refine Ze .plain rfl (D_load (g:=nD) Try.isAgg153 Try.sizeOf153 rfl aG fun nH bG=>?_)
      refine EL_p (fPtr p1 2) (Zc at_157_2 m8 (OB.ptr b203)) rfl ?_
      refine Ze .plain rfl (D_storeFc (g:=nD) part_BoxPoint_2 Try.sizeOf153 rfl b203 rfl bG fun oD oH hs b207 rst hos=>?_)
      clear rst hos
      have hfr:=hfr.stp hs
      have x5:=x5.stp hs
      have l5:=l5.stp hs rfl
      refine Zb (Zd (Zf (Za (Ze .plain rfl (D_loadO (g:=oD) Try.isAgg157 Try.sizeOf157 m8 b207 fun cG eG=>?_)))))
      refine Zo mB rfl ?_
      obtain ⟨gD,zE,h⟩:=bsome h
      refine Ze .plain rfl (Zp (g:=oD) (vs:=[cG,up1]) en217 (.cons rfl (.cons rfl .nil)) (wk217 eG x5 zE) fun gG xG hG hs hr=>?_)
      have hfr:=hfr.ext hs
      have l5:=l5.ext hs
      have iG:=hr
      refine Ze .plain rfl (D_storeOc (g:=gG) (v:=hG) Try.sizeOf157 bA l5 rfl iG fun pH qH hs b211 cb=>?_)
      clear cb
      have hfr:=hfr.stp hs
      refine Zg (.bool true) rfl rfl ?_
      refine Zb (Zd (E_ret (blk_r ?_)))
      refine thn_r ?_
      refine thn_r ?_
      refine blk_r ?_
      refine thn_r ?_
      obtain rfl:=sinj h
      obtain ⟨ad212,cv212,hp212,cF,cr212⟩:=ob_read Try.isAgg157 Try.sizeOf157 b211
      exact endm_ct rfl rfl ((show _=p3 from bA).trans hp212) cF (show _=.bool true from rfl) ⟨_,hfr,_,_,rfl,cr212,rfl⟩
     ·refine E_cond_false (Eq.trans (show ev _ _ = .bool (m7) from iA) (congrArg Value.bool aB)) ?_
      exact Zu (blk_n (Zd (uE (u3,i7) _ _ ⟨jD,hfr,mB,x5,m8,x6,nB,y6,bA,l5,yB,zB,cC,mC⟩ h)))
   ·rintro ⟨l9, n9⟩ yG sH ⟨jG, hfr, sD, tD, uD, vD, xD, yD, zD, aE, qC, rC, uC, vC⟩ h
    refine Za (EL_in (.int .i64 ((w64 (o0 + (1:Int))))) vC rfl rfl rfl ?_)
    refine Zn (.int .i64 ((w64 (o0 + (1:Int))))) rfl rfl ?_
    exact Zb (Zd (rE (l9,n9,(w64 (o0 + (1:Int)))) _ _ ⟨jG,hfr,sD,tD,uD,vD,xD,yD,zD,aE,qC,rC,uC,rfl⟩ h))
  ·refine E_cf yA rfl ?_
   refine E_exit ?_
   refine thn_e ?_
   refine thn_e ?_
   refine blk_hit ?_
   exact Zd (oE (u3,i7) _ _ ⟨a9,hfr,v8,l8,y9,z9⟩ h)
 ·rintro ⟨dB, aD⟩ zG tH ⟨bE, hfr, iE, lE, oB, mE⟩ h
  refine Zf (Za (Ze .plain rfl (D_loadO (g:=bE) Try.isAgg157 Try.sizeOf157 iE lE fun kG lG=>?_)))
  refine Ze .plain rfl (D_storeOc (g:=bE) (v:=kG) Try.sizeOf157 oB mE rfl lG fun uH xH hs b216 cb=>?_)
  clear cb
  have hfr:=hfr.stp hs
  refine Zg (.bool false) rfl rfl ?_
  refine Zb (Zd (E_ret ?_))
  obtain rfl:=sinj h
  obtain ⟨ad217,cv217,hp217,dF,cr217⟩:=ob_read Try.isAgg157 Try.sizeOf157 b216
  exact endm_ct rfl rfl ((show _=p3 from oB).trans hp217) dF (show _=.bool false from rfl) ⟨_,hfr,_,_,rfl,cr217,rfl⟩
def f155 (x0:Int) (x1:Int) (x2:List Int):Option (Bool):=
 (f165 x2 ((fun a0=>f230 a0 x0 x1))).bind fun y4=>
 some ((!y4))
theorem en155:Enters Try.prog 155:=enters_of Try.func155 (by kernel_rfl) rfl
theorem wk155 {gI:Gh} {wI:World} {x0:Int} {x1:Int} {x2:List Int} {up2:Value} (rp2:RV gI.m wI x2 up2) {r:Bool} (h:f155 x0 x1 x2=some r):Fn Try.prog 155 #[.int .i64 (x0),.int .i64 (x1),up2] gI wI (fun _ _ v=>v=.bool (r)):=by
 unfold f155 at h
 refine fn_of_E Try.func155 rfl (Nat.le_of_ble_eq_true rfl) fun g0 hm hfr=>?_
 have rp2:RV g0.m wI x2 up2:=hm ▸ rp2
 show E _ 11 none _ _ _ _ _
 refine Zf (Za (Ze .plain rfl (D_box (g:=g0) rfl (Zj.2 rfl) fun g1 w1 p1 hs q1=>?_)))
 have hfr:=hfr.ext hs
 have rp2:=rp2.ext hs
 refine Ze .plain rfl (D_box (g:=g1) rfl (Zj.2 rfl) fun g2 w2 p2 hs q2=>?_)
 have hfr:=hfr.ext hs
 have rp2:=rp2.ext hs
 have q1:=q1.ext hs
 refine Zg (.bool false) rfl rfl ?_
 refine Zb (Zd (Zf (Za (Zn up2 rfl rfl ?_))))
 refine EL_p ((.func (.func 230) #[] #[p1,p2])) (P_makeFunc (capf_0_2 (show ev _ _=p1 from rfl) (show ev _ _=p2 from rfl))) rfl ?_
 obtain ⟨y4,o0,h⟩:=bsome h
 refine Ze .plain rfl (Zp (g:=g2) (vs:=[up2,(.func (.func 230) #[] #[p1,p2])]) en165 (.cons rfl (.cons rfl .nil)) (wk165 rp2 ⟨230,#[],#[p1,p2],rfl,en230,fun g' w' hch a0 b0 r hu0 hr=>by obtain rfl:=Zj.1 hu0; exact Fn.mono (wk230  (q1.ch hch) (q2.ch hch) hr) fun _ _ _ h=>RV_bool.2 h⟩ o0) fun g3 w3_ v3 hs hr=>?_)
 have hfr:=hfr.ext hs
 subst hr
 refine EL_p (.bool (!y4)) (P_not rfl) rfl ?_
 refine Zg (.bool (!y4)) rfl rfl ?_
 refine Zb (Zd (E_ret ?_))
 obtain rfl:=sinj h
 exact end1 rfl rfl (show _=.bool (!y4) from rfl) ⟨_,hfr,rfl⟩
def f156 (x0:List BeamPair) (x1:BeamPair→Option Bool):Option (Bool):=
 (f231 x0 x1).bind fun y2=>
 some ((decide (y2 ≥ (0:Int))))
theorem en156:Enters Try.prog 156:=enters_of Try.func156 (by kernel_rfl) rfl
theorem wk156 {gI:Gh} {wI:World} {x0:List BeamPair} {x1:BeamPair→Option Bool} {up0:Value} (rp0:RV gI.m wI x0 up0) {up1:Value} (rp1:FnV1 Try.prog x1 up1 gI wI) {r:Bool} (h:f156 x0 x1=some r):Fn Try.prog 156 #[up0,up1] gI wI (fun _ _ v=>v=.bool (r)):=by
 unfold f156 at h
 refine fn_of_E Try.func156 rfl (Nat.le_of_ble_eq_true rfl) fun g0 hm hfr=>?_
 have rp0:RV g0.m wI x0 up0:=hm ▸ rp0
 obtain ⟨ff1,fa1,fc1,rfl,fen1,fcl1⟩:=rp1
 show E _ 9 none _ _ _ _ _
 refine Zf (Za (Zg (.bool false) rfl rfl ?_))
 refine Zb (Zd (Zf (Za (Zn up0 rfl rfl ?_))))
 refine Zn ((.func (.func ff1) fa1 fc1)) rfl rfl ?_
 obtain ⟨y2,hy2,h⟩:=bsome h
 refine Ze .plain rfl (Zp (g:=g0) (vs:=[up0,(.func (.func ff1) fa1 fc1)]) en231 (.cons rfl (.cons rfl .nil)) (wk231 rp0 (FnV1.ch ⟨_,_,_,rfl,fen1,fcl1⟩ hfr.ch) hy2) fun g1 w1_ v1 hs hr=>?_)
 have hfr:=hfr.ext hs
 subst hr
 refine EL_in (.bool ((decide (y2 ≥ (0:Int))))) rfl rfl rfl rfl ?_
 refine Zg (.bool ((decide (y2 ≥ (0:Int))))) rfl rfl ?_
 refine Zb (Zd (E_ret ?_))
 obtain rfl:=sinj h
 exact end1 rfl rfl (show _=.bool ((decide (y2 ≥ (0:Int)))) from rfl) ⟨_,hfr,rfl⟩
def f216 (x0:BoxRace) (x1:BoxPick):Option (BoxRace × Int × Int):=
 (idx ((x0).boxes).toList (0:Int)).bind fun y7=>
 (idx (y7).toList (x1).Left).bind fun y9=>
 (idx ((x0).boxes).toList (1:Int)).bind fun rA=>
 (idx (rA).toList (x1).Right).bind fun l5=>
 jn (σ:=BoxRace) (fun bA=>
  (f267 (((x0).at_).Left) ((x1).Left)).bind fun i6=>
  (f267 (((x0).at_).Right) ((x1).Right)).bind fun x6=>
  (idx ((x0).boxes).toList (0:Int)).bind fun yA=>
  (idx (yA).toList (x1).Left).bind fun iD=>
  (idx (({ x0 with boxes:=(vmod ((x0).boxes) ((0:Int)) (fun b=>(vset b ((x1).Left) l5))) }).boxes).toList (1:Int)).bind fun aB=>
  (idx (aB).toList (x1).Right).bind fun mB=>
  some ({ { { x0 with boxes:=(vmod ((x0).boxes) ((0:Int)) (fun b=>(vset b ((x1).Left) l5))) } with boxes:=(vmod (({ x0 with boxes:=(vmod ((x0).boxes) ((0:Int)) (fun b=>(vset b ((x1).Left) l5))) }).boxes) ((1:Int)) (fun b=>(vset b ((x1).Right) y9))) } with at_:=x1 },(w64 (y9 + l5)),(w64 (i6 + x6)))
  ) fun dB=>
 bif ((y9 == (0 : Int)) == (l5 == (0 : Int))) then
  some (x0,(0:Int),(0:Int))
 else
  dB ((⟨(⟨List.toArray [(⟨List.toArray [0,0,0,0],rfl⟩:Vector Int 4),(⟨List.toArray [0,0,0,0],rfl⟩:Vector Int 4)],rfl⟩:Vector (Vector Int 4) 2),⟨0,0⟩⟩:BoxRace))
theorem en216:Enters Try.prog 216:=enters_of Try.func216 (by kernel_rfl) rfl
theorem wk216 {gI:Gh} {wI:World} {x0:BoxRace} {x1:BoxPick} {up0:Value} (rp0:RV gI.m wI x0 up0) {up1:Value} (rp1:RV gI.m wI x1 up1) {r:BoxRace × Int × Int} (h:f216 x0 x1=some r):Fn Try.prog 216 #[up0,up1] gI wI (fun m w v=>∃ y0 y1 y2,v=.tuple #[y0,y1,y2]∧RV m w (r.1) y0∧y1=.int .i64 (r.2.1)∧y2=.int .i64 (r.2.2)):=by
 unfold f216 at h
 refine fn_of_E Try.func216 rfl (Nat.le_of_ble_eq_true rfl) fun g0 hm hfr=>?_
 have rp0:RV g0.m wI x0 up0:=hm ▸ rp0
 have rp1:RV g0.m wI x1 up1:=hm ▸ rp1
 show E _ 59 none _ _ _ _ _
 refine Zf (Za (Ze .plain rfl (D_boxO (g:=g0) 2002 rfl rp0 fun g1 w1 p1 hs b1=>?_)))
 have hfr:=hfr.stp hs
 have rp0:=rp0.stp hs
 have rp1:=rp1.stp hs
 refine Ze .plain rfl (D_box (g:=g1) rfl rp1 fun g2 w2 p2 hs q2=>?_)
 have hfr:=hfr.ext hs
 have rp0:=rp0.ext hs
 have rp1:=rp1.ext hs
 have b1:=b1.ext hs
 refine Ze .plain rfl (D_allocOc (g:=g2) 2004 (⟨(⟨List.toArray [(⟨List.toArray [0,0,0,0],rfl⟩:Vector Int 4),(⟨List.toArray [0,0,0,0],rfl⟩:Vector Int 4)],rfl⟩:Vector (Vector Int 4) 2),⟨0,0⟩⟩:BoxRace) Try.zeroValue153 (fun m w=>⟨_,(rep_two (rep_vec (flat_chunk (rep_vec (flat_chunk rep_int (flat_chunk rep_int (flat_chunk rep_int (flat_chunk rep_int flat_nil)))) rfl) (flat_chunk (rep_vec (flat_chunk rep_int (flat_chunk rep_int (flat_chunk rep_int (flat_chunk rep_int flat_nil)))) rfl) flat_nil)) rfl) (rep_two rep_int rep_int)),rfl⟩) fun g3 w3 p3 hs b3 cb=>?_)
 have hfr:=hfr.stp hs
 have rp0:=rp0.stp hs
 have rp1:=rp1.stp hs
 have b1:=b1.stp hs rfl
 have q2:=q2.stp hs
 clear cb
 refine Zg (.int .i64 (0)) rfl rfl ?_
 refine Zg (.int .i64 (0)) rfl rfl ?_
 refine Zb (Zd (Zf ?_))
 have q4:=Zm (part_BoxPick_0).1 q2
 refine Zs (x:=.tmp 9) Try.isAgg3 Try.sizeOf3 q4 fun v5 r5 jD=>?_
 obtain rfl:=Zj.1 r5
 obtain ⟨y7,iB,h⟩:=bsome h
 obtain ⟨hi8,he8⟩:=vat_idx iB
 obtain ⟨y9,lB,h⟩:=bsome h
 obtain ⟨hi10,he10⟩:=vat_idx lB
 refine L_loadOD (off:=((0 + ((0:Int):Int).toNat * 4) + ((x1).Left:Int).toNat * 1)) (x:=.tmp 13) (SubS.at_ (SubS.comp part_BoxRace_0 (SubS.dynC hi8 (SubS.dyn hi10) rfl) rfl) (by first | rfl | exact Nat.add_assoc _ _ _ | simp only [Nat.add_assoc,Nat.zero_add] | omega)).1 ((congrArg (vat _ hi10) he8).trans he10) Try.isAgg3 Try.sizeOf3 b1 fun xE lD nB=>?_
 obtain rfl:=Zj.1 lD
 have n8:=Zm (part_BoxPick_1).1 q2
 refine Zs (x:=.tmp 15) Try.isAgg3 Try.sizeOf3 n8 fun yE nD oB=>?_
 obtain rfl:=Zj.1 nD
 obtain ⟨rA,r8,h⟩:=bsome h
 obtain ⟨hi16,he16⟩:=vat_idx r8
 obtain ⟨l5,v8,h⟩:=bsome h
 obtain ⟨hi18,he18⟩:=vat_idx v8
 refine L_loadOD (off:=((0 + ((1:Int):Int).toNat * 4) + ((x1).Right:Int).toNat * 1)) (x:=.tmp 19) (SubS.at_ (SubS.comp part_BoxRace_0 (SubS.dynC hi16 (SubS.dyn hi18) rfl) rfl) (by first | rfl | exact Nat.add_assoc _ _ _ | simp only [Nat.add_assoc,Nat.zero_add] | omega)).1 ((congrArg (vat _ hi18) he16).trans he18) Try.isAgg3 Try.sizeOf3 b1 fun zE oD tB=>?_
 obtain rfl:=Zj.1 oD
 refine E_drawL (g:=g3) (n:=14) [] [0,1,2,3,4,5,6,7,8,9,10,11,12,13] rfl mixed (by kernel_rfl) trivial ?_
 refine L_p (fPtr p2 0) rfl rfl (Zc at_151_0 rfl (PT.ptr q2)) ?_
 refine L_ld (c:=.int .i64 ((x1).Left)) rfl rfl .plain (fun _ _ h=>h.ch) jD rfl ?_
 refine L_p (fPtr p1 0) rfl rfl (Zc at_153_0 rfl (OB.ptr b1)) ?_
 refine L_p (fPtr p1 (0 + ((0:Int):Int).toNat * 4)) rfl rfl (P_indexAddrA2 (α:=Vector Int 4) (o1:=0) rfl Try.underlying149 Try.sizeOf148 rfl (OB.ptr b1) rfl iB) ?_
 refine L_p (fPtr p1 ((0 + ((0:Int):Int).toNat * 4) + ((x1).Left:Int).toNat * 1)) rfl rfl (P_indexAddrA2 (α:=Int) (o1:=(0 + ((0:Int):Int).toNat * 4)) rfl Try.underlying148 Try.sizeOf3 rfl (OB.ptr b1) rfl lB) ?_
 refine L_ld (c:=.int .i64 (y9)) rfl rfl .plain (fun _ _ h=>⟨h.ch,fun b hb _=>h.below.block b hb⟩) nB rfl ?_
 refine L_p (fPtr p2 1) rfl rfl (Zc at_151_1 rfl (PT.ptr q2)) ?_
 refine L_ld (c:=.int .i64 ((x1).Right)) rfl rfl .plain (fun _ _ h=>h.ch) oB rfl ?_
 refine L_p (fPtr p1 0) rfl rfl (Zc at_153_0 rfl (OB.ptr b1)) ?_
 refine L_p (fPtr p1 (0 + ((1:Int):Int).toNat * 4)) rfl rfl (P_indexAddrA2 (α:=Vector Int 4) (o1:=0) rfl Try.underlying149 Try.sizeOf148 rfl (OB.ptr b1) rfl r8) ?_
 refine L_p (fPtr p1 ((0 + ((1:Int):Int).toNat * 4) + ((x1).Right:Int).toNat * 1)) rfl rfl (P_indexAddrA2 (α:=Int) (o1:=(0 + ((1:Int):Int).toNat * 4)) rfl Try.underlying148 Try.sizeOf3 rfl (OB.ptr b1) rfl v8) ?_
 refine L_ld (c:=.int .i64 (l5)) rfl rfl .plain (fun _ _ h=>⟨h.ch,fun b hb _=>h.below.block b hb⟩) tB rfl ?_
 refine L_p (.int .i64 (y9)) rfl rfl (P_assign rfl) ?_
 refine L_p (.int .i64 (l5)) rfl rfl (P_assign rfl) ?_
 refine L_nl fun x8 cF hs=>?_
 have hfr:=hfr.ext hs
 have rp0:=rp0.ext hs
 have rp1:=rp1.ext hs
 have b1:=b1.ext hs
 have q2:=q2.ext hs
 have b3:=b3.ext hs
 have q4:=q4.ext hs
 have n8:=n8.ext hs
 clear hs
 refine Zb (Zd (Zq h (fun (s:BoxRace) e w=>∃ (g:Gh) ,Fr gI wI g w∧e 2=p1∧OB 2002 g w 153 (x0:BoxRace) p1∧e 3=p2∧PT g.m w (x1:BoxPick) p2∧e 4=p3∧OB 2004 g w 153 (s:BoxRace) p3∧e 7=.int .i64 (y9)∧e 8=.int .i64 (l5)) (fun X46 dB vB h=>?_) ?_))
 ·refine Zf (Za (Zn (.int .i64 (y9)) rfl rfl ?_))
  refine EL_in (.bool ((y9 == (0:Int)))) rfl rfl rfl rfl ?_
  refine Zn (.int .i64 (l5)) rfl rfl ?_
  refine EL_in (.bool ((l5 == (0:Int)))) rfl rfl rfl rfl ?_
  refine EL_p (.bool (((y9 == (0:Int)) == (l5 == (0:Int))))) (P_bool Try.underlying4 rfl rfl rfl) rfl ?_
  refine Zb (Zd ?_)
  rcases Zt h with ⟨m7,h⟩ | ⟨m7,h⟩
  ·refine E_ct m7 rfl ?_
   refine Zf (Za (Ze .plain rfl (D_loadO (g:=x8) Try.isAgg153 Try.sizeOf153 rfl b1 fun sD tD=>?_)))
   refine Ze .plain rfl (D_storeOc (g:=x8) (v:=sD) Try.sizeOf153 rfl b3 rfl tD fun dF eF hs b49 cb=>?_)
   clear cb
   have hfr:=hfr.stp hs
   refine Zg (.int .i64 (0)) rfl rfl ?_
   refine Zg (.int .i64 (0)) rfl rfl ?_
   refine Zb (Zd (E_ret (thn_r ?_)))
   obtain rfl:=sinj h
   obtain ⟨ad50,cv50,hp50,yB,cr50⟩:=ob_read Try.isAgg153 Try.sizeOf153 b49
   exact endm_ctt rfl rfl ((show _=p3 from rfl).trans hp50) yB (show _=.int .i64 (0) from rfl) (show _=.int .i64 (0) from rfl) ⟨_,hfr,_,_,_,rfl,cr50,rfl,rfl⟩
  ·refine E_cf m7 rfl ?_
   exact Zu (Zd (vB ((⟨(⟨List.toArray [(⟨List.toArray [0,0,0,0],rfl⟩:Vector Int 4),(⟨List.toArray [0,0,0,0],rfl⟩:Vector Int 4)],rfl⟩:Vector (Vector Int 4) 2),⟨0,0⟩⟩:BoxRace)) _ _ ⟨x8,hfr,rfl,b1,rfl,q2,rfl,b3,rfl,rfl⟩ h))
 ·rintro bA iE rF ⟨uD, hfr, x5, o0, y6, u3, g8, t5, k8, l8⟩ h
  refine Zf (L_loadO (x:=.tmp 28) (SubS.comp part_BoxRace_1 part_BoxPick_0 rfl).1 Try.isAgg3 Try.sizeOf3 o0 fun sF vD zB=>?_)
  obtain rfl:=Zj.1 vD
  have i7:=Zm (part_BoxPick_0).1 u3
  refine Zs (x:=.tmp 30) Try.isAgg3 Try.sizeOf3 i7 fun tF xD cC=>?_
  obtain rfl:=Zj.1 xD
  obtain ⟨i6,mC,h⟩:=bsome h
  refine L_loadO (x:=.tmp 34) (SubS.comp part_BoxRace_1 part_BoxPick_1 rfl).1 Try.isAgg3 Try.sizeOf3 o0 fun uF yD qC=>?_
  obtain rfl:=Zj.1 yD
  have q62:=Zm (part_BoxPick_1).1 u3
  refine Zs (x:=.tmp 36) Try.isAgg3 Try.sizeOf3 q62 fun vF zD rC=>?_
  obtain rfl:=Zj.1 zD
  obtain ⟨x6,uC,h⟩:=bsome h
  refine E_drawL (g:=uD) (n:=14) [(5,(fun v g w=>v=.int .i64 (i6))),(11,(fun v g w=>v=.int .i64 (x6)))] [0,1,2,3,4,5,6,7,8,9,10,11,12,13] rfl mixed (by kernel_rfl) (⟨fun _=>up_eq _,fun _=>up_eq _,trivial⟩) ?_
  refine L_p (fPtr p1 8) rfl rfl (Zc at_153_1 x5 (OB.ptr o0)) ?_
  refine L_p (fPtr p1 8) rfl rfl (P_fieldAddr2 (o1:=8) rfl at_151_0 rfl (OB.ptr o0)) ?_
  refine L_ld (c:=.int .i64 (((x0).at_).Left)) rfl rfl .plain (fun _ _ h=>⟨h.ch,fun b hb _=>h.below.block b hb⟩) zB rfl ?_
  refine L_p (fPtr p2 0) rfl rfl (Zc at_151_0 y6 (PT.ptr u3)) ?_
  refine L_ld (c:=.int .i64 ((x1).Left)) rfl rfl .plain (fun _ _ h=>h.ch) cC rfl ?_
  refine L_do (φ:=fun v g w=>v=.int .i64 (i6)) rfl rfl .plain (fun g w hd=>Zp (g:=g) (vs:=[.int .i64 (((x0).at_).Left),.int .i64 ((x1).Left)]) en267 (.cons rfl (.cons rfl .nil)) (wk267  mC) fun g' w' v hs hr=>⟨g',hs,hr⟩) (fun xF hv=>?_)
  obtain ⟨_,_,_,rfl⟩:=hv
  refine L_p (fPtr p1 8) rfl rfl (Zc at_153_1 x5 (OB.ptr o0)) ?_
  refine L_p (fPtr p1 9) rfl rfl (P_fieldAddr2 (o1:=8) rfl at_151_1 rfl (OB.ptr o0)) ?_
  refine L_ld (c:=.int .i64 (((x0).at_).Right)) rfl rfl .plain (fun _ _ h=>⟨h.ch,fun b hb _=>h.below.block b hb⟩) qC rfl ?_
  refine L_p (fPtr p2 1) rfl rfl (Zc at_151_1 y6 (PT.ptr u3)) ?_
  refine L_ld (c:=.int .i64 ((x1).Right)) rfl rfl .plain (fun _ _ h=>h.ch) rC rfl ?_
  refine L_do (φ:=fun v g w=>v=.int .i64 (x6)) rfl rfl .plain (fun g w hd=>Zp (g:=g) (vs:=[.int .i64 (((x0).at_).Right),.int .i64 ((x1).Right)]) en267 (.cons rfl (.cons rfl .nil)) (wk267  uC) fun g' w' v hs hr=>⟨g',hs,hr⟩) (fun yF hv=>?_)
  obtain ⟨_,_,_,rfl⟩:=hv
  refine L_p (.int .i64 ((w64 (i6 + x6)))) rfl rfl (P_int rfl rfl rfl) ?_
  refine L_p (.int .i64 ((w64 (i6 + x6)))) rfl rfl (P_assign rfl) ?_
  refine L_nl fun zF aG hs=>?_
  have hfr:=hfr.ext hs
  have o0:=o0.ext hs
  have u3:=u3.ext hs
  have t5:=t5.ext hs
  have i7:=i7.ext hs
  have q62:=q62.ext hs
  clear hs
  refine Zb (Zd (Zf ?_))
  have a9:=Zm (part_BoxPick_0).1 u3
  refine Zs (x:=.tmp 40) Try.isAgg3 Try.sizeOf3 a9 fun bG aE vC=>?_
  obtain rfl:=Zj.1 aE
  have d9:=Zm (part_BoxPick_1).1 u3
  refine Zs (x:=.tmp 42) Try.isAgg3 Try.sizeOf3 d9 fun cG bE aD=>?_
  obtain rfl:=Zj.1 bE
  obtain ⟨yA,k9,h⟩:=bsome h
  obtain ⟨hi93,he93⟩:=vat_idx k9
  obtain ⟨iD,l9,h⟩:=bsome h
  obtain ⟨hi95,he95⟩:=vat_idx l9
  obtain ⟨aB,n9,h⟩:=bsome h
  obtain ⟨hi100,he100⟩:=vat_idx n9
  obtain ⟨mB,m8,h⟩:=bsome h
  obtain ⟨hi102,he102⟩:=vat_idx m8
  refine E_drawB (a0:=(x0:BoxRace)) (a1:=({ x0 with boxes:=(vmod ((x0).boxes) ((0:Int)) (fun b=>(vset b ((x1).Left) l5))) }:BoxRace)) o0 (n:=13) [(9,(fun _ g w=>OB 2002 g w 153 ({ x0 with boxes:=(vmod ((x0).boxes) ((0:Int)) (fun b=>(vset b ((x1).Left) l5))) }:BoxRace) p1))] [0,1,2,3,4,5,6,7,8,9,10,11,12] rfl mixed (by kernel_rfl) (⟨fun _=>up_box,trivial⟩) ?_
  refine L_p (fPtr p2 0) rfl rfl (Zc at_151_0 y6 (PT.ptr u3)) ?_
  refine L_ld (c:=.int .i64 ((x1).Left)) rfl rfl .plain (fun _ _ h=>h.1.ch) vC rfl ?_
  refine L_p (fPtr p2 1) rfl rfl (Zc at_151_1 y6 (PT.ptr u3)) ?_
  refine L_ld (c:=.int .i64 ((x1).Right)) rfl rfl .plain (fun _ _ h=>h.1.ch) aD rfl ?_
  refine L_p (.int .i64 (l5)) rfl rfl (Zk l8) ?_
  refine L_p (.int .i64 (y9)) rfl rfl (Zk k8) ?_
  refine L_p (fPtr p1 0) rfl rfl (Zc at_153_0 x5 (OB.ptr o0)) ?_
  refine L_p (fPtr p1 (0 + ((0:Int):Int).toNat * 4)) rfl rfl (P_indexAddrA2 (α:=Vector Int 4) (o1:=0) rfl Try.underlying149 Try.sizeOf148 rfl (OB.ptr o0) rfl k9) ?_
  refine L_p (fPtr p1 ((0 + ((0:Int):Int).toNat * 4) + ((x1).Left:Int).toNat * 1)) rfl rfl (P_indexAddrA2 (α:=Int) (o1:=(0 + ((0:Int):Int).toNat * 4)) rfl Try.underlying148 Try.sizeOf3 rfl (OB.ptr o0) rfl l9) ?_
  refine L_do (φ:=fun _ g w=>OB 2002 g w 153 ({ x0 with boxes:=(vmod ((x0).boxes) ((0:Int)) (fun b=>(vset b ((x1).Left) l5))) }:BoxRace) p1) rfl rfl .plain (fun g w hd=>D_storeR (g:=g) (by rfl) (by exact (congrArg (fun y=>{ x0 with boxes:=y }) (vmod_vmod (h:=fun b=>(vset b ((x1).Left) l5)) fun b=>(vset_vset _ _ _)))) (SubS.at_ (SubS.comp part_BoxRace_0 (SubS.dynC hi93 (SubS.dyn hi95) rfl) rfl) (by first | rfl | exact Nat.add_assoc _ _ _ | simp only [Nat.add_assoc,Nat.zero_add] | omega)) Try.sizeOf3 rfl hd.1.2 rfl (Zj.2 rfl)) (fun eG hv=>?_)
  clear hv
  refine L_p (fPtr p1 0) rfl rfl (Zc at_153_0 x5 (OB.ptr o0)) ?_
  refine L_p (fPtr p1 (0 + ((1:Int):Int).toNat * 4)) rfl rfl (P_indexAddrA2 (α:=Vector Int 4) (o1:=0) rfl Try.underlying149 Try.sizeOf148 rfl (OB.ptr o0) rfl n9) ?_
  refine L_p (fPtr p1 ((0 + ((1:Int):Int).toNat * 4) + ((x1).Right:Int).toNat * 1)) rfl rfl (P_indexAddrA2 (α:=Int) (o1:=(0 + ((1:Int):Int).toNat * 4)) rfl Try.underlying148 Try.sizeOf3 rfl (OB.ptr o0) rfl m8) ?_
  refine L_nil fun bD lE hall=>?_
  have hs:=hall.1.1
  have hfr:=hfr.stp hs
  have u3:=u3.stp hs
  have t5:=t5.stp hs rfl
  have i7:=i7.stp hs
  have q62:=q62.stp hs
  have a9:=a9.stp hs
  have d9:=d9.stp hs
  have b104:=(word_all (A:=fun g w=>OB 2002 g w 153 ({ x0 with boxes:=(vmod ((x0).boxes) ((0:Int)) (fun b=>(vset b ((x1).Left) l5))) }:BoxRace) p1) 9 rfl hall)
  clear hs hall
  refine Ze .plain rfl (D_storeFc (g:=bD) (SubS.at_ (SubS.comp part_BoxRace_0 (SubS.dynC hi100 (SubS.dyn hi102) rfl) rfl) (by first | rfl | exact Nat.add_assoc _ _ _ | simp only [Nat.add_assoc,Nat.zero_add] | omega)) Try.sizeOf3 rfl b104 rfl (Zj.2 rfl) fun u9 mE hs b135 rst hos=>?_)
  clear rst hos
  have hfr:=hfr.stp hs
  have u3:=u3.stp hs
  have t5:=t5.stp hs rfl
  refine Zb (Zd (Zf (Za (Ze .plain rfl (D_load (g:=u9) Try.isAgg151 Try.sizeOf151 y6 u3 fun oE cD=>?_)))))
  refine EL_p (fPtr p1 8) (Zc at_153_1 x5 (OB.ptr b135)) rfl ?_
  refine Ze .plain rfl (D_storeFc (g:=u9) part_BoxRace_1 Try.sizeOf151 rfl b135 rfl cD fun z9 rE hs b138 rst hos=>?_)
  clear rst hos
  have hfr:=hfr.stp hs
  have t5:=t5.stp hs rfl
  refine Zb (Zd (Zf (Za (Ze .plain rfl (D_loadO (g:=z9) Try.isAgg153 Try.sizeOf153 x5 b138 fun eD gD=>?_)))))
  refine Zo k8 rfl ?_
  refine Zo l8 rfl ?_
  refine EL_in (.int .i64 ((w64 (y9 + l5)))) rfl rfl rfl rfl ?_
  refine Zn (.int .i64 ((w64 (i6 + x6)))) rfl rfl ?_
  refine Ze .plain rfl (D_storeOc (g:=z9) (v:=eD) Try.sizeOf153 g8 t5 rfl gD fun uE vE hs b140 cb=>?_)
  clear cb
  have hfr:=hfr.stp hs
  refine Zg (.int .i64 ((w64 (y9 + l5)))) rfl rfl ?_
  refine Zg (.int .i64 ((w64 (i6 + x6)))) rfl rfl ?_
  refine Zb (Zd (E_ret ?_))
  obtain rfl:=sinj h
  obtain ⟨ad141,cv141,hp141,iA,cr141⟩:=ob_read Try.isAgg153 Try.sizeOf153 b140
  exact endm_ctt rfl rfl ((show _=p3 from g8).trans hp141) iA (show _=.int .i64 ((w64 (y9 + l5))) from rfl) (show _=.int .i64 ((w64 (i6 + x6))) from rfl) ⟨_,hfr,_,_,_,rfl,cr141,rfl,rfl⟩
def f218 (x0:BoxPick) (z0:BoxBoxLoom):Option (Bool):=
 Option.bind (α:=Bool) (
  (idx (((z0).BoxLoom).Boxes) (0:Int)).bind fun i6=>
  (f138 ((0:Int)) ((w64 (i6 - (1:Int)))) (([(x0).Left]:List Int))).bind fun t5=>
  bif (!t5) then
   some (true)
  else
   (idx (((z0).BoxLoom).Boxes) (1:Int)).bind fun x6=>
   (f138 ((0:Int)) ((w64 (x6 - (1:Int)))) (([(x0).Right]:List Int))).bind fun y135=>
   some ((!y135))
  ) fun x5=>
 some (x5)
theorem en218:Enters Try.prog 218:=enters_of Try.func218 (by kernel_rfl) rfl
theorem wk218 {gI:Gh} {wI:World} {x0:BoxPick} {z0:BoxBoxLoom} {up0:Value} (rp0:RV gI.m wI x0 up0) {pf0:Value} (qf0:PT gI.m wI z0 pf0) {r:Bool} (h:f218 x0 z0=some r):Fn Try.prog 218 #[up0,pf0] gI wI (fun _ _ v=>v=.bool (r)):=by
 unfold f218 at h
 refine fn_of_E Try.func218 rfl (Nat.le_of_ble_eq_true rfl) fun g0 hm hfr=>?_
 have qf0:PT g0.m wI z0 pf0:=hm ▸ qf0
 have rp0:RV g0.m wI x0 up0:=hm ▸ rp0
 show E _ 28 none _ _ _ _ _
 refine Zf (Za (Ze .plain rfl (D_box (g:=g0) rfl rp0 fun g1 w1 p1 hs q1=>?_)))
 have hfr:=hfr.ext hs
 have qf0:=qf0.ext hs
 refine Zg (.bool false) rfl rfl ?_
 refine Zb (Zd ?_)
 obtain ⟨x5,hx,h⟩:=bsome h
 refine E_join (fun e w=>∃ (g:Gh) ,Fr gI wI g w∧e 3=.bool (x5)) (fun Q' hQ=>?_) (fun tB vB hR=>?_)
 ·replace h := hx
  clear hx
  have g8:=Zm (part_BoxBoxLoom_0).1 qf0
  have aB:=Zm (part_BoxLoom_0).1 g8
  refine Zs (x:=.tmp 5) Try.isAgg26 Try.sizeOf26 aB fun i7 k8 l8=>?_
  obtain ⟨i6,y6,h⟩:=bsome h
  have dB:=PT_idx k8 y6
  refine Zs (x:=.tmp 7) Try.isAgg3 Try.sizeOf3 dB fun aD iB m8=>?_
  obtain rfl:=Zj.1 iB
  have lB:=Zm (part_BoxPick_0).1 q1
  refine Zs (x:=.tmp 10) Try.isAgg3 Try.sizeOf3 lB fun bD mB n8=>?_
  obtain rfl:=Zj.1 mB
  obtain ⟨t5,r8,h⟩:=bsome h
  rcases Zt h with ⟨u3,h⟩ | ⟨u3,h⟩
  ·refine E_drawL (g := g1) (n := 25) [(8, (fun v g w => RV g.m w ([(x0).Left] : List Int) v ∧ OS 3012 g w 3 ([(x0).Left] : List Int) v ∧ FullV v)), (9, (fun v g w => v = .bool (t5)))] [0, 1, 2, 3, 4, 5, 6, 7, 8, 9, 10, 11, 12, 13, 14, 15, 16, 17, 18, 19, 20, 21, 22, 23, 24] rfl mixed (by kernel_rfl) (⟨fun _ => up_and up_rv (up_and up_os (up_eq _)), fun _ => up_eq _, trivial⟩) ?_
   refine L_p (fPtr pf0 0) rfl rfl (Zc at_142_0 rfl (PT.ptr qf0)) ?_
   refine L_p (fPtr (fPtr pf0 0) 0) rfl rfl (Zc at_40_0 rfl (PT.ptr g8)) ?_
   refine L_ld (c:=i7) rfl rfl .plain (fun _ _ h=>h.ch) l8 rfl ?_
   refine L_p (ePtr i7 (0:Int) 1) rfl rfl (Zh (α:=Int) Try.underlying26 Try.sizeOf3 rfl k8 rfl y6) ?_
   refine L_ld (c:=.int .i64 (i6)) rfl rfl .plain (fun _ _ h=>h.ch) m8 rfl ?_
   refine L_p (.int .i64 ((w64 (i6 - (1:Int))))) rfl rfl (P_int rfl rfl rfl) ?_
   refine L_p (fPtr p1 0) rfl rfl (Zc at_151_0 rfl (PT.ptr q1)) ?_
   refine L_ld (c:=.int .i64 ((x0).Left)) rfl rfl .plain (fun _ _ h=>h.ch) n8 rfl ?_
   refine L_do (φ:=fun v g w=>RV g.m w ([(x0).Left]:List Int) v∧OS 3012 g w 3 ([(x0).Left]:List Int) v∧FullV v) rfl rfl .plain (fun g w hd=>D_buildSlice (g:=g) 3012 (xs:=([(x0).Left]:List Int)) (vs:=[.int .i64 ((x0).Left)]) Try.underlying26 Try.sizeOf3 Try.zeroValue3 rfl rfl (.cons rfl .nil) (RVs.cons (Zj.2 rfl) RVs.nil) rfl rfl fun g' w' v hs o r hxt hfl=>⟨g',hxt,r,o,hfl⟩) (fun o0 hv=>?_)
   clear hv
   refine L_do (φ:=fun v g w=>v=.bool (t5)) rfl rfl .plain (fun g w hd=>Zp (g:=g) (vs:=[.int .i64 (0),.int .i64 ((w64 (i6 - (1:Int)))),o0]) en138 (.cons rfl (.cons rfl (.cons rfl .nil))) (wk138 (word (A:=fun g w=>RV g.m w ([(x0).Left]:List Int) o0∧OS 3012 g w 3 ([(x0).Left]:List Int) o0∧FullV o0) 8 rfl rfl (deps_of hd)).1 r8) fun g' w' v hs hr=>⟨g',hs,hr⟩) (fun nB hv=>?_)
   obtain ⟨_,_,_,rfl⟩:=hv
   refine L_p (.bool (!t5)) rfl rfl (P_not rfl) ?_
   refine L_p (.bool (!t5)) rfl rfl (Zk rfl) ?_
   iterate 11 refine L_s rfl rfl rfl u3 rfl ?_
   refine L_p (.bool true) rfl rfl (Zl (b:=(!t5)) rfl (pick_t u3 rfl)) ?_
   refine L_p (.bool true) rfl rfl (P_assign rfl) ?_
   refine L_nil fun oB cD hall=>?_
   have hs:=hall.1
   have hfr:=hfr.ext hs
   have yB:=(word_all (A:=fun g w=>RV g.m w ([(x0).Left]:List Int) o0∧OS 3012 g w 3 ([(x0).Left]:List Int) o0∧FullV o0) 8 rfl hall).1
   have o109:=(word_all (A:=fun g w=>RV g.m w ([(x0).Left]:List Int) o0∧OS 3012 g w 3 ([(x0).Left]:List Int) o0∧FullV o0) 8 rfl hall).2.1
   clear hs hall
   refine Zb ?_
   obtain rfl:=sinj h
   exact hQ _ _ ⟨oB,hfr,rfl⟩
  ·have v8 := Zm (part_BoxBoxLoom_0).1 qf0
   have y9:=Zm (part_BoxLoom_0).1 v8
   refine Zs (x:=.tmp 17) Try.isAgg26 Try.sizeOf26 y9 fun x8 a9 k9=>?_
   obtain ⟨x6,m7,h⟩:=bsome h
   have z9:=PT_idx a9 m7
   refine Zs (x:=.tmp 19) Try.isAgg3 Try.sizeOf3 z9 fun zB bA l9=>?_
   obtain rfl:=Zj.1 bA
   have iA:=Zm (part_BoxPick_1).1 q1
   refine Zs (x:=.tmp 22) Try.isAgg3 Try.sizeOf3 iA fun cC rA n9=>?_
   obtain rfl:=Zj.1 rA
   obtain ⟨y135,u9,h⟩:=bsome h
   refine E_drawL (g:=g1) (n:=25) [(8,(fun v g w=>RV g.m w ([(x0).Left]:List Int) v∧OS 3012 g w 3 ([(x0).Left]:List Int) v∧FullV v)),(9,(fun v g w=>v=.bool (t5))),(20,(fun v g w=>RV g.m w ([(x0).Right]:List Int) v∧OS 3024 g w 3 ([(x0).Right]:List Int) v∧FullV v)),(21,(fun v g w=>v=.bool (y135)))] [0,1,2,3,4,5,6,7,8,9,10,11,12,13,14,15,16,17,18,19,20,21,22,23,24] rfl mixed (by kernel_rfl) (⟨fun _=>up_and up_rv (up_and up_os (up_eq _)),fun _=>up_eq _,fun _=>up_and up_rv (up_and up_os (up_eq _)),fun _=>up_eq _,trivial⟩) ?_
   refine L_p (fPtr pf0 0) rfl rfl (Zc at_142_0 rfl (PT.ptr qf0)) ?_
   refine L_p (fPtr (fPtr pf0 0) 0) rfl rfl (Zc at_40_0 rfl (PT.ptr g8)) ?_
   refine L_ld (c:=i7) rfl rfl .plain (fun _ _ h=>h.ch) l8 rfl ?_
   refine L_p (ePtr i7 (0:Int) 1) rfl rfl (Zh (α:=Int) Try.underlying26 Try.sizeOf3 rfl k8 rfl y6) ?_
   refine L_ld (c:=.int .i64 (i6)) rfl rfl .plain (fun _ _ h=>h.ch) m8 rfl ?_
   refine L_p (.int .i64 ((w64 (i6 - (1:Int))))) rfl rfl (P_int rfl rfl rfl) ?_
   refine L_p (fPtr p1 0) rfl rfl (Zc at_151_0 rfl (PT.ptr q1)) ?_
   refine L_ld (c:=.int .i64 ((x0).Left)) rfl rfl .plain (fun _ _ h=>h.ch) n8 rfl ?_
   refine L_do (φ:=fun v g w=>RV g.m w ([(x0).Left]:List Int) v∧OS 3012 g w 3 ([(x0).Left]:List Int) v∧FullV v) rfl rfl .plain (fun g w hd=>D_buildSlice (g:=g) 3012 (xs:=([(x0).Left]:List Int)) (vs:=[.int .i64 ((x0).Left)]) Try.underlying26 Try.sizeOf3 Try.zeroValue3 rfl rfl (.cons rfl .nil) (RVs.cons (Zj.2 rfl) RVs.nil) rfl rfl fun g' w' v hs o r hxt hfl=>⟨g',hxt,r,o,hfl⟩) (fun o0 hv=>?_)
   clear hv
   refine L_do (φ:=fun v g w=>v=.bool (t5)) rfl rfl .plain (fun g w hd=>Zp (g:=g) (vs:=[.int .i64 (0),.int .i64 ((w64 (i6 - (1:Int)))),o0]) en138 (.cons rfl (.cons rfl (.cons rfl .nil))) (wk138 (word (A:=fun g w=>RV g.m w ([(x0).Left]:List Int) o0∧OS 3012 g w 3 ([(x0).Left]:List Int) o0∧FullV o0) 8 rfl rfl (deps_of hd)).1 r8) fun g' w' v hs hr=>⟨g',hs,hr⟩) (fun nB hv=>?_)
   obtain ⟨_,_,_,rfl⟩:=hv
   refine L_p (.bool (!t5)) rfl rfl (P_not rfl) ?_
   refine L_p (.bool (!t5)) rfl rfl (Zk rfl) ?_
   refine L_y (fPtr pf0 0) rfl rfl rfl rfl u3 (Zc at_142_0 rfl (PT.ptr qf0)) ?_
   refine L_y (fPtr (fPtr pf0 0) 0) rfl rfl rfl rfl u3 (Zc at_40_0 rfl (PT.ptr v8)) ?_
   refine L_ld (c:=x8) rfl rfl (.yes2 rfl rfl u3) (fun _ _ h=>h.ch) k9 rfl ?_
   refine L_y (ePtr x8 (1:Int) 1) rfl rfl rfl rfl u3 (Zh (α:=Int) Try.underlying26 Try.sizeOf3 rfl a9 rfl m7) ?_
   refine L_ld (c:=.int .i64 (x6)) rfl rfl (.yes2 rfl rfl u3) (fun _ _ h=>h.ch) l9 rfl ?_
   refine L_y (.int .i64 ((w64 (x6 - (1:Int))))) rfl rfl rfl rfl u3 (P_int rfl rfl rfl) ?_
   refine L_y (fPtr p1 1) rfl rfl rfl rfl u3 (Zc at_151_1 rfl (PT.ptr q1)) ?_
   refine L_ld (c:=.int .i64 ((x0).Right)) rfl rfl (.yes2 rfl rfl u3) (fun _ _ h=>h.ch) n9 rfl ?_
   refine L_do (φ:=fun v g w=>RV g.m w ([(x0).Right]:List Int) v∧OS 3024 g w 3 ([(x0).Right]:List Int) v∧FullV v) rfl rfl (.yes2 rfl rfl u3) (fun g w hd=>D_buildSlice (g:=g) 3024 (xs:=([(x0).Right]:List Int)) (vs:=[.int .i64 ((x0).Right)]) Try.underlying26 Try.sizeOf3 Try.zeroValue3 rfl rfl (.cons rfl .nil) (RVs.cons (Zj.2 rfl) RVs.nil) rfl rfl fun g' w' v hs o r hxt hfl=>⟨g',hxt,r,o,hfl⟩) (fun l5 hv=>?_)
   clear hv
   refine L_do (φ:=fun v g w=>v=.bool (y135)) rfl rfl (.yes2 rfl rfl u3) (fun g w hd=>Zp (g:=g) (vs:=[.int .i64 (0),.int .i64 ((w64 (x6 - (1:Int)))),l5]) en138 (.cons rfl (.cons rfl (.cons rfl .nil))) (wk138 (word (A:=fun g w=>RV g.m w ([(x0).Right]:List Int) l5∧OS 3024 g w 3 ([(x0).Right]:List Int) l5∧FullV l5) 20 rfl rfl (deps_of hd)).1 u9) fun g' w' v hs hr=>⟨g',hs,hr⟩) (fun mC hv=>?_)
   obtain ⟨_,_,_,rfl⟩:=hv
   refine L_y (.bool (!y135)) rfl rfl rfl rfl u3 (P_not rfl) ?_
   refine L_p (.bool (!y135)) rfl rfl (Zl (b:=(!t5)) rfl (pick_f u3 rfl)) ?_
   refine L_p (.bool (!y135)) rfl rfl (P_assign rfl) ?_
   refine L_nil fun yA qC hall=>?_
   have hs:=hall.1
   have hfr:=hfr.ext hs
   have rC:=(word_all (A:=fun g w=>RV g.m w ([(x0).Left]:List Int) o0∧OS 3012 g w 3 ([(x0).Left]:List Int) o0∧FullV o0) 8 rfl hall).1
   have o149:=(word_all (A:=fun g w=>RV g.m w ([(x0).Left]:List Int) o0∧OS 3012 g w 3 ([(x0).Left]:List Int) o0∧FullV o0) 8 rfl hall).2.1
   have uC:=(word_all (A:=fun g w=>RV g.m w ([(x0).Right]:List Int) l5∧OS 3024 g w 3 ([(x0).Right]:List Int) l5∧FullV l5) 20 rfl hall).1
   have o161:=(word_all (A:=fun g w=>RV g.m w ([(x0).Right]:List Int) l5∧OS 3024 g w 3 ([(x0).Right]:List Int) l5∧FullV l5) 20 rfl hall).2.1
   clear hs hall
   refine Zb ?_
   obtain rfl:=sinj h
   exact hQ _ _ ⟨yA,hfr,rfl⟩
 ·clear hx
  obtain ⟨vC,hfr,d9⟩:=hR
  refine E_ret ?_
  obtain rfl:=sinj h
  exact end1 rfl rfl (show _=.bool (x5) from d9) ⟨_,hfr,rfl⟩
def f219 (x0:List BoxPick) (x1:BoxPick→Option Bool):Option (Bool):=
 (f268 x0 x1).bind fun y2=>
 some ((decide (y2 ≥ (0:Int))))
theorem en219:Enters Try.prog 219:=enters_of Try.func219 (by kernel_rfl) rfl
theorem wk219 {gI:Gh} {wI:World} {x0:List BoxPick} {x1:BoxPick→Option Bool} {up0:Value} (rp0:RV gI.m wI x0 up0) {up1:Value} (rp1:FnV1 Try.prog x1 up1 gI wI) {r:Bool} (h:f219 x0 x1=some r):Fn Try.prog 219 #[up0,up1] gI wI (fun _ _ v=>v=.bool (r)):=by
 unfold f219 at h
 refine fn_of_E Try.func219 rfl (Nat.le_of_ble_eq_true rfl) fun g0 hm hfr=>?_
 have rp0:RV g0.m wI x0 up0:=hm ▸ rp0
 obtain ⟨ff1,fa1,fc1,rfl,fen1,fcl1⟩:=rp1
 show E _ 9 none _ _ _ _ _
 refine Zf (Za (Zg (.bool false) rfl rfl ?_))
 refine Zb (Zd (Zf (Za (Zn up0 rfl rfl ?_))))
 refine Zn ((.func (.func ff1) fa1 fc1)) rfl rfl ?_
 obtain ⟨y2,hy2,h⟩:=bsome h
 refine Ze .plain rfl (Zp (g:=g0) (vs:=[up0,(.func (.func ff1) fa1 fc1)]) en268 (.cons rfl (.cons rfl .nil)) (wk268 rp0 (FnV1.ch ⟨_,_,_,rfl,fen1,fcl1⟩ hfr.ch) hy2) fun g1 w1_ v1 hs hr=>?_)
 have hfr:=hfr.ext hs
 subst hr
 refine EL_in (.bool ((decide (y2 ≥ (0:Int))))) rfl rfl rfl rfl ?_
 refine Zg (.bool ((decide (y2 ≥ (0:Int))))) rfl rfl ?_
 refine Zb (Zd (E_ret ?_))
 obtain rfl:=sinj h
 exact end1 rfl rfl (show _=.bool ((decide (y2 ≥ (0:Int)))) from rfl) ⟨_,hfr,rfl⟩
def f63 (x0:List Int):Option (Bool):=
 (f138 ((0:Int)) ((9:Int)) x0).bind fun y2=>
 some (y2)
theorem en63:Enters Try.prog 63:=enters_of Try.func63 (by kernel_rfl) rfl
theorem wk63 {gI:Gh} {wI:World} {x0:List Int} {up0:Value} (rp0:RV gI.m wI x0 up0) {r:Bool} (h:f63 x0=some r):Fn Try.prog 63 #[up0] gI wI (fun _ _ v=>v=.bool (r)):=by
 unfold f63 at h
 refine fn_of_E Try.func63 rfl (Nat.le_of_ble_eq_true rfl) fun g0 hm hfr=>?_
 have rp0:RV g0.m wI x0 up0:=hm ▸ rp0
 show E _ 5 none _ _ _ _ _
 refine Zf (Za (Zg (.bool false) rfl rfl ?_))
 refine Zb (Zd (Zf (Za (Zn up0 rfl rfl ?_))))
 obtain ⟨y2,hy2,h⟩:=bsome h
 refine Ze .plain rfl (Zp (g:=g0) (vs:=[.int .i64 (0),.int .i64 (9),up0]) en138 (.cons rfl (.cons rfl (.cons rfl .nil))) (wk138 rp0 hy2) fun g1 w1_ v1 hs hr=>?_)
 have hfr:=hfr.ext hs
 subst hr
 refine Zg (.bool (y2)) rfl rfl ?_
 refine Zb (Zd (E_ret ?_))
 obtain rfl:=sinj h
 exact end1 rfl rfl (show _=.bool (y2) from rfl) ⟨_,hfr,rfl⟩
def f80 (x0:List Int):Option (Bool):=
 (f155 ((0:Int)) ((10000000000:Int)) x0).bind fun y2=>
 some (y2)
theorem en80:Enters Try.prog 80:=enters_of Try.func80 (by kernel_rfl) rfl
theorem wk80 {gI:Gh} {wI:World} {x0:List Int} {up0:Value} (rp0:RV gI.m wI x0 up0) {r:Bool} (h:f80 x0=some r):Fn Try.prog 80 #[up0] gI wI (fun _ _ v=>v=.bool (r)):=by
 unfold f80 at h
 refine fn_of_E Try.func80 rfl (Nat.le_of_ble_eq_true rfl) fun g0 hm hfr=>?_
 have rp0:RV g0.m wI x0 up0:=hm ▸ rp0
 show E _ 5 none _ _ _ _ _
 refine Zf (Za (Zg (.bool false) rfl rfl ?_))
 refine Zb (Zd (Zf (Za (Zn up0 rfl rfl ?_))))
 obtain ⟨y2,hy2,h⟩:=bsome h
 refine Ze .plain rfl (Zp (g:=g0) (vs:=[.int .i64 (0),.int .i64 (10000000000),up0]) en155 (.cons rfl (.cons rfl (.cons rfl .nil))) (wk155 rp0 hy2) fun g1 w1_ v1 hs hr=>?_)
 have hfr:=hfr.ext hs
 subst hr
 refine Zg (.bool (y2)) rfl rfl ?_
 refine Zb (Zd (E_ret ?_))
 obtain rfl:=sinj h
 exact end1 rfl rfl (show _=.bool (y2) from rfl) ⟨_,hfr,rfl⟩
def f135 (x0:BoxBoxLoom) (x1:BoxShuttle):Option (Bool):=
 Option.bind (α:=Bool) (
  (f138 ((0:Int)) ((9:Int)) (([(x1).Colour]:List Int))).bind fun x6=>
  bif x6 then
   (f138 ((0:Int)) ((1:Int)) (([(x1).Side]:List Int))).bind fun y6=>
   bif y6 then
    (idx (((x0).BoxLoom).Boxes) (x1).Side).bind fun l8=>
    (f138 ((0:Int)) ((w64 (l8 - (1:Int)))) (([(x1).Box]:List Int))).bind fun m7=>
    bif m7 then
     (f138 ((0:Int)) ((1000:Int)) (([((x1).Yarn).Low,((x1).Yarn).High]:List Int))).bind fun k8=>
     bif k8 then
      some ((decide (((x1).Yarn).Low ≤ ((x1).Yarn).High)))
     else
      some (false)
    else
     some (false)
   else
    some (false)
  else
   some (false)
  ) fun m8=>
 some (m8)
theorem en135:Enters Try.prog 135:=enters_of Try.func135 (by kernel_rfl) rfl
theorem wk135 {gI:Gh} {wI:World} {x0:BoxBoxLoom} {x1:BoxShuttle} {up0:Value} (rp0:RV gI.m wI x0 up0) {up1:Value} (rp1:RV gI.m wI x1 up1) {r:Bool} (h:f135 x0 x1=some r):Fn Try.prog 135 #[up0,up1] gI wI (fun _ _ v=>v=.bool (r)):=by
 unfold f135 at h
 refine fn_of_E Try.func135 rfl (Nat.le_of_ble_eq_true rfl) fun g0 hm hfr=>?_
 have rp0:RV g0.m wI x0 up0:=hm ▸ rp0
 have rp1:RV g0.m wI x1 up1:=hm ▸ rp1
 show E _ 48 none _ _ _ _ _
 refine Zf (Za (Ze .plain rfl (D_box (g:=g0) rfl rp0 fun g1 w1 p1 hs q1=>?_)))
 have hfr:=hfr.ext hs
 have rp1:=rp1.ext hs
 refine Ze .plain rfl (D_box (g:=g1) rfl rp1 fun g2 w2 p2 hs q2=>?_)
 have hfr:=hfr.ext hs
 have q1:=q1.ext hs
 refine Zg (.bool false) rfl rfl ?_
 refine Zb (Zd ?_)
 obtain ⟨m8,hx,h⟩:=bsome h
 refine E_join (fun e w=>∃ (g:Gh) ,Fr gI wI g w∧e 4=.bool (m8)) (fun Q' hQ=>?_) (fun bE iE hR=>?_)
 ·replace h := hx
  clear hx
  have zB:=Zm (part_BoxShuttle_0).1 q2
  refine Zs (x:=.tmp 5) Try.isAgg3 Try.sizeOf3 zB fun lE cC n8=>?_
  obtain rfl:=Zj.1 cC
  obtain ⟨x6,r8,h⟩:=bsome h
  rcases Zt h with ⟨x5,h⟩ | ⟨x5,h⟩
  ·have mC := Zm (part_BoxShuttle_1).1 q2
   refine Zs (x:=.tmp 10) Try.isAgg3 Try.sizeOf3 mC fun mE qC x8=>?_
   obtain rfl:=Zj.1 qC
   obtain ⟨y6,a9,h⟩:=bsome h
   rcases Zt h with ⟨u3,h⟩ | ⟨u3,h⟩
   ·have k9 := Zm (part_BoxBoxLoom_0).1 q1
    have rC:=Zm (part_BoxLoom_0).1 k9
    refine Zs (x:=.tmp 17) Try.isAgg26 Try.sizeOf26 rC fun v8 l9 n9=>?_
    have uC:=Zm (part_BoxShuttle_1).1 q2
    refine Zs (x:=.tmp 19) Try.isAgg3 Try.sizeOf3 uC fun oE vC u9=>?_
    obtain rfl:=Zj.1 vC
    obtain ⟨l8,d9,h⟩:=bsome h
    have aD:=PT_idx l9 d9
    refine Zs (x:=.tmp 21) Try.isAgg3 Try.sizeOf3 aD fun rE bD y9=>?_
    obtain rfl:=Zj.1 bD
    have cD:=Zm (part_BoxShuttle_2).1 q2
    refine Zs (x:=.tmp 24) Try.isAgg3 Try.sizeOf3 cD fun uE eD z9=>?_
    obtain rfl:=Zj.1 eD
    obtain ⟨m7,bA,h⟩:=bsome h
    rcases Zt h with ⟨i6,h⟩ | ⟨i6,h⟩
    ·have rA := Zm (part_BoxShuttle_3).1 q2
     have gD:=Zm (part_Span_0).1 rA
     refine Zs (x:=.tmp 31) Try.isAgg3 Try.sizeOf3 gD fun vE iD dB=>?_
     obtain rfl:=Zj.1 iD
     have yA:=Zm (part_BoxShuttle_3).1 q2
     have jD:=Zm (part_Span_1).1 yA
     refine Zs (x:=.tmp 34) Try.isAgg3 Try.sizeOf3 jD fun xE lD iB=>?_
     obtain rfl:=Zj.1 lD
     obtain ⟨k8,lB,h⟩:=bsome h
     rcases Zt h with ⟨g8,h⟩ | ⟨g8,h⟩
     ·have mB := Zm (part_BoxShuttle_3).1 q2
      have nD:=Zm (part_Span_0).1 mB
      refine Zs (x:=.tmp 41) Try.isAgg3 Try.sizeOf3 nD fun yE oD vB=>?_
      obtain rfl:=Zj.1 oD
      have nB:=Zm (part_BoxShuttle_3).1 q2
      have sD:=Zm (part_Span_1).1 nB
      refine Zs (x:=.tmp 44) Try.isAgg3 Try.sizeOf3 sD fun zE tD yB=>?_
      obtain rfl:=Zj.1 tD
      refine E_drawL (g:=g2) (n:=44) [(2,(fun v g w=>RV g.m w ([(x1).Colour]:List Int) v∧OS 3007 g w 3 ([(x1).Colour]:List Int) v∧FullV v)),(3,(fun v g w=>v=.bool (x6))),(7,(fun v g w=>RV g.m w ([(x1).Side]:List Int) v∧OS 3012 g w 3 ([(x1).Side]:List Int) v∧FullV v)),(8,(fun v g w=>v=.bool (y6))),(21,(fun v g w=>RV g.m w ([(x1).Box]:List Int) v∧OS 3026 g w 3 ([(x1).Box]:List Int) v∧FullV v)),(22,(fun v g w=>v=.bool (m7))),(31,(fun v g w=>RV g.m w ([((x1).Yarn).Low,((x1).Yarn).High]:List Int) v∧OS 3036 g w 3 ([((x1).Yarn).Low,((x1).Yarn).High]:List Int) v∧FullV v)),(32,(fun v g w=>v=.bool (k8)))] [0,1,2,3,4,5,6,7,8,9,10,11,12,13,14,15,16,17,18,19,20,21,22,23,24,25,26,27,28,29,30,31,32,33,34,35,36,37,38,39,40,41,42,43] rfl mixed (by kernel_rfl) (⟨fun _=>up_and up_rv (up_and up_os (up_eq _)),fun _=>up_eq _,fun _=>up_and up_rv (up_and up_os (up_eq _)),fun _=>up_eq _,fun _=>up_and up_rv (up_and up_os (up_eq _)),fun _=>up_eq _,fun _=>up_and up_rv (up_and up_os (up_eq _)),fun _=>up_eq _,trivial⟩) ?_
      refine L_p (fPtr p2 0) rfl rfl (Zc at_37_0 rfl (PT.ptr q2)) ?_
      refine L_ld (c:=.int .i64 ((x1).Colour)) rfl rfl .plain (fun _ _ h=>h.ch) n8 rfl ?_
      refine L_do (φ:=fun v g w=>RV g.m w ([(x1).Colour]:List Int) v∧OS 3007 g w 3 ([(x1).Colour]:List Int) v∧FullV v) rfl rfl .plain (fun g w hd=>D_buildSlice (g:=g) 3007 (xs:=([(x1).Colour]:List Int)) (vs:=[.int .i64 ((x1).Colour)]) Try.underlying26 Try.sizeOf3 Try.zeroValue3 rfl rfl (.cons rfl .nil) (RVs.cons (Zj.2 rfl) RVs.nil) rfl rfl fun g' w' v hs o r hxt hfl=>⟨g',hxt,r,o,hfl⟩) (fun o0 hv=>?_)
      clear hv
      refine L_do (φ:=fun v g w=>v=.bool (x6)) rfl rfl .plain (fun g w hd=>Zp (g:=g) (vs:=[.int .i64 (0),.int .i64 (9),o0]) en138 (.cons rfl (.cons rfl (.cons rfl .nil))) (wk138 (word (A:=fun g w=>RV g.m w ([(x1).Colour]:List Int) o0∧OS 3007 g w 3 ([(x1).Colour]:List Int) o0∧FullV o0) 2 rfl rfl (deps_of hd)).1 r8) fun g' w' v hs hr=>⟨g',hs,hr⟩) (fun iA hv=>?_)
      obtain ⟨_,_,_,rfl⟩:=hv
      refine L_p (.bool (x6)) rfl rfl (Zk rfl) ?_
      refine L_y (fPtr p2 1) rfl rfl rfl rfl x5 (Zc at_37_1 rfl (PT.ptr q2)) ?_
      refine L_ld (c:=.int .i64 ((x1).Side)) rfl rfl (.yes2 rfl rfl x5) (fun _ _ h=>h.ch) x8 rfl ?_
      refine L_do (φ:=fun v g w=>RV g.m w ([(x1).Side]:List Int) v∧OS 3012 g w 3 ([(x1).Side]:List Int) v∧FullV v) rfl rfl (.yes2 rfl rfl x5) (fun g w hd=>D_buildSlice (g:=g) 3012 (xs:=([(x1).Side]:List Int)) (vs:=[.int .i64 ((x1).Side)]) Try.underlying26 Try.sizeOf3 Try.zeroValue3 rfl rfl (.cons rfl .nil) (RVs.cons (Zj.2 rfl) RVs.nil) rfl rfl fun g' w' v hs o r hxt hfl=>⟨g',hxt,r,o,hfl⟩) (fun l5 hv=>?_)
      clear hv
      refine L_do (φ:=fun v g w=>v=.bool (y6)) rfl rfl (.yes2 rfl rfl x5) (fun g w hd=>Zp (g:=g) (vs:=[.int .i64 (0),.int .i64 (1),l5]) en138 (.cons rfl (.cons rfl (.cons rfl .nil))) (wk138 (word (A:=fun g w=>RV g.m w ([(x1).Side]:List Int) l5∧OS 3012 g w 3 ([(x1).Side]:List Int) l5∧FullV l5) 7 rfl rfl (deps_of hd)).1 a9) fun g' w' v hs hr=>⟨g',hs,hr⟩) (fun aB hv=>?_)
      obtain ⟨_,_,_,rfl⟩:=hv
      refine L_p (.bool (y6)) rfl rfl (Zl (b:=x6) rfl (pick_t x5 rfl)) ?_
      refine L_p (.bool (y6)) rfl rfl (Zk rfl) ?_
      refine L_y (fPtr p1 0) rfl rfl rfl rfl u3 (Zc at_142_0 rfl (PT.ptr q1)) ?_
      refine L_y (fPtr (fPtr p1 0) 0) rfl rfl rfl rfl u3 (Zc at_40_0 rfl (PT.ptr k9)) ?_
      refine L_ld (c:=v8) rfl rfl (.yes2 rfl rfl u3) (fun _ _ h=>h.ch) n9 rfl ?_
      refine L_y (fPtr p2 1) rfl rfl rfl rfl u3 (Zc at_37_1 rfl (PT.ptr q2)) ?_
      refine L_ld (c:=.int .i64 ((x1).Side)) rfl rfl (.yes2 rfl rfl u3) (fun _ _ h=>h.ch) u9 rfl ?_
      refine L_y (ePtr v8 (x1).Side 1) rfl rfl rfl rfl u3 (Zh (α:=Int) Try.underlying26 Try.sizeOf3 rfl l9 rfl d9) ?_
      refine L_ld (c:=.int .i64 (l8)) rfl rfl (.yes2 rfl rfl u3) (fun _ _ h=>h.ch) y9 rfl ?_
      refine L_y (.int .i64 ((w64 (l8 - (1:Int))))) rfl rfl rfl rfl u3 (P_int rfl rfl rfl) ?_
      refine L_y (fPtr p2 2) rfl rfl rfl rfl u3 (Zc at_37_2 rfl (PT.ptr q2)) ?_
      refine L_ld (c:=.int .i64 ((x1).Box)) rfl rfl (.yes2 rfl rfl u3) (fun _ _ h=>h.ch) z9 rfl ?_
      refine L_do (φ:=fun v g w=>RV g.m w ([(x1).Box]:List Int) v∧OS 3026 g w 3 ([(x1).Box]:List Int) v∧FullV v) rfl rfl (.yes2 rfl rfl u3) (fun g w hd=>D_buildSlice (g:=g) 3026 (xs:=([(x1).Box]:List Int)) (vs:=[.int .i64 ((x1).Box)]) Try.underlying26 Try.sizeOf3 Try.zeroValue3 rfl rfl (.cons rfl .nil) (RVs.cons (Zj.2 rfl) RVs.nil) rfl rfl fun g' w' v hs o r hxt hfl=>⟨g',hxt,r,o,hfl⟩) (fun t5 hv=>?_)
      clear hv
      refine L_do (φ:=fun v g w=>v=.bool (m7)) rfl rfl (.yes2 rfl rfl u3) (fun g w hd=>Zp (g:=g) (vs:=[.int .i64 (0),.int .i64 ((w64 (l8 - (1:Int)))),t5]) en138 (.cons rfl (.cons rfl (.cons rfl .nil))) (wk138 (word (A:=fun g w=>RV g.m w ([(x1).Box]:List Int) t5∧OS 3026 g w 3 ([(x1).Box]:List Int) t5∧FullV t5) 21 rfl rfl (deps_of hd)).1 bA) fun g' w' v hs hr=>⟨g',hs,hr⟩) (fun oB hv=>?_)
      obtain ⟨_,_,_,rfl⟩:=hv
      refine L_p (.bool (m7)) rfl rfl (Zl (b:=y6) rfl (pick_t u3 rfl)) ?_
      refine L_p (.bool (m7)) rfl rfl (Zk rfl) ?_
      refine L_y (fPtr p2 3) rfl rfl rfl rfl i6 (Zc at_37_3 rfl (PT.ptr q2)) ?_
      refine L_y (fPtr (fPtr p2 3) 0) rfl rfl rfl rfl i6 (Zc at_35_0 rfl (PT.ptr rA)) ?_
      refine L_ld (c:=.int .i64 (((x1).Yarn).Low)) rfl rfl (.yes2 rfl rfl i6) (fun _ _ h=>h.ch) dB rfl ?_
      refine L_y (fPtr p2 3) rfl rfl rfl rfl i6 (Zc at_37_3 rfl (PT.ptr q2)) ?_
      refine L_y (fPtr (fPtr p2 3) 1) rfl rfl rfl rfl i6 (Zc at_35_1 rfl (PT.ptr yA)) ?_
      refine L_ld (c:=.int .i64 (((x1).Yarn).High)) rfl rfl (.yes2 rfl rfl i6) (fun _ _ h=>h.ch) iB rfl ?_
      refine L_do (φ:=fun v g w=>RV g.m w ([((x1).Yarn).Low,((x1).Yarn).High]:List Int) v∧OS 3036 g w 3 ([((x1).Yarn).Low,((x1).Yarn).High]:List Int) v∧FullV v) rfl rfl (.yes2 rfl rfl i6) (fun g w hd=>D_buildSlice (g:=g) 3036 (xs:=([((x1).Yarn).Low,((x1).Yarn).High]:List Int)) (vs:=[.int .i64 (((x1).Yarn).Low),.int .i64 (((x1).Yarn).High)]) Try.underlying26 Try.sizeOf3 Try.zeroValue3 rfl rfl (.cons rfl (.cons rfl .nil)) (RVs.cons (Zj.2 rfl) (RVs.cons (Zj.2 rfl) RVs.nil)) rfl rfl fun g' w' v hs o r hxt hfl=>⟨g',hxt,r,o,hfl⟩) (fun i7 hv=>?_)
      clear hv
      refine L_do (φ:=fun v g w=>v=.bool (k8)) rfl rfl (.yes2 rfl rfl i6) (fun g w hd=>Zp (g:=g) (vs:=[.int .i64 (0),.int .i64 (1000),i7]) en138 (.cons rfl (.cons rfl (.cons rfl .nil))) (wk138 (word (A:=fun g w=>RV g.m w ([((x1).Yarn).Low,((x1).Yarn).High]:List Int) i7∧OS 3036 g w 3 ([((x1).Yarn).Low,((x1).Yarn).High]:List Int) i7∧FullV i7) 31 rfl rfl (deps_of hd)).1 lB) fun g' w' v hs hr=>⟨g',hs,hr⟩) (fun uD hv=>?_)
      obtain ⟨_,_,_,rfl⟩:=hv
      refine L_p (.bool (k8)) rfl rfl (Zl (b:=m7) rfl (pick_t i6 rfl)) ?_
      refine L_p (.bool (k8)) rfl rfl (Zk rfl) ?_
      refine L_y (fPtr p2 3) rfl rfl rfl rfl g8 (Zc at_37_3 rfl (PT.ptr q2)) ?_
      refine L_y (fPtr (fPtr p2 3) 0) rfl rfl rfl rfl g8 (Zc at_35_0 rfl (PT.ptr mB)) ?_
      refine L_ld (c:=.int .i64 (((x1).Yarn).Low)) rfl rfl (.yes2 rfl rfl g8) (fun _ _ h=>h.ch) vB rfl ?_
      refine L_y (fPtr p2 3) rfl rfl rfl rfl g8 (Zc at_37_3 rfl (PT.ptr q2)) ?_
      refine L_y (fPtr (fPtr p2 3) 1) rfl rfl rfl rfl g8 (Zc at_35_1 rfl (PT.ptr nB)) ?_
      refine L_ld (c:=.int .i64 (((x1).Yarn).High)) rfl rfl (.yes2 rfl rfl g8) (fun _ _ h=>h.ch) yB rfl ?_
      refine L_y (.bool ((decide (((x1).Yarn).Low ≤ ((x1).Yarn).High)))) rfl rfl rfl rfl g8 (P_int rfl rfl rfl) ?_
      refine L_p (.bool ((decide (((x1).Yarn).Low ≤ ((x1).Yarn).High)))) rfl rfl (Zl (b:=k8) rfl (pick_t g8 rfl)) ?_
      refine L_p (.bool ((decide (((x1).Yarn).Low ≤ ((x1).Yarn).High)))) rfl rfl (P_assign rfl) ?_
      refine L_nil fun vD cF hall=>?_
      have hs:=hall.1
      have hfr:=hfr.ext hs
      have dF:=(word_all (A:=fun g w=>RV g.m w ([(x1).Colour]:List Int) o0∧OS 3007 g w 3 ([(x1).Colour]:List Int) o0∧FullV o0) 2 rfl hall).1
      have o341:=(word_all (A:=fun g w=>RV g.m w ([(x1).Colour]:List Int) o0∧OS 3007 g w 3 ([(x1).Colour]:List Int) o0∧FullV o0) 2 rfl hall).2.1
      have eF:=(word_all (A:=fun g w=>RV g.m w ([(x1).Side]:List Int) l5∧OS 3012 g w 3 ([(x1).Side]:List Int) l5∧FullV l5) 7 rfl hall).1
      have o346:=(word_all (A:=fun g w=>RV g.m w ([(x1).Side]:List Int) l5∧OS 3012 g w 3 ([(x1).Side]:List Int) l5∧FullV l5) 7 rfl hall).2.1
      have rF:=(word_all (A:=fun g w=>RV g.m w ([(x1).Box]:List Int) t5∧OS 3026 g w 3 ([(x1).Box]:List Int) t5∧FullV t5) 21 rfl hall).1
      have o360:=(word_all (A:=fun g w=>RV g.m w ([(x1).Box]:List Int) t5∧OS 3026 g w 3 ([(x1).Box]:List Int) t5∧FullV t5) 21 rfl hall).2.1
      have sF:=(word_all (A:=fun g w=>RV g.m w ([((x1).Yarn).Low,((x1).Yarn).High]:List Int) i7∧OS 3036 g w 3 ([((x1).Yarn).Low,((x1).Yarn).High]:List Int) i7∧FullV i7) 31 rfl hall).1
      have o370:=(word_all (A:=fun g w=>RV g.m w ([((x1).Yarn).Low,((x1).Yarn).High]:List Int) i7∧OS 3036 g w 3 ([((x1).Yarn).Low,((x1).Yarn).High]:List Int) i7∧FullV i7) 31 rfl hall).2.1
      clear hs hall
      refine Zb ?_
      obtain rfl:=sinj h
      exact hQ _ _ ⟨vD,hfr,rfl⟩
     ·refine E_drawL (g := g2) (n := 44) [(2, (fun v g w => RV g.m w ([(x1).Colour] : List Int) v ∧ OS 3007 g w 3 ([(x1).Colour] : List Int) v ∧ FullV v)), (3, (fun v g w => v = .bool (x6))), (7, (fun v g w => RV g.m w ([(x1).Side] : List Int) v ∧ OS 3012 g w 3 ([(x1).Side] : List Int) v ∧ FullV v)), (8, (fun v g w => v = .bool (y6))), (21, (fun v g w => RV g.m w ([(x1).Box] : List Int) v ∧ OS 3026 g w 3 ([(x1).Box] : List Int) v ∧ FullV v)), (22, (fun v g w => v = .bool (m7))), (31, (fun v g w => RV g.m w ([((x1).Yarn).Low, ((x1).Yarn).High] : List Int) v ∧ OS 3036 g w 3 ([((x1).Yarn).Low, ((x1).Yarn).High] : List Int) v ∧ FullV v)), (32, (fun v g w => v = .bool (k8)))] [0, 1, 2, 3, 4, 5, 6, 7, 8, 9, 10, 11, 12, 13, 14, 15, 16, 17, 18, 19, 20, 21, 22, 23, 24, 25, 26, 27, 28, 29, 30, 31, 32, 33, 34, 35, 36, 37, 38, 39, 40, 41, 42, 43] rfl mixed (by kernel_rfl) (⟨fun _ => up_and up_rv (up_and up_os (up_eq _)), fun _ => up_eq _, fun _ => up_and up_rv (up_and up_os (up_eq _)), fun _ => up_eq _, fun _ => up_and up_rv (up_and up_os (up_eq _)), fun _ => up_eq _, fun _ => up_and up_rv (up_and up_os (up_eq _)), fun _ => up_eq _, trivial⟩) ?_
      refine L_p (fPtr p2 0) rfl rfl (Zc at_37_0 rfl (PT.ptr q2)) ?_
      refine L_ld (c:=.int .i64 ((x1).Colour)) rfl rfl .plain (fun _ _ h=>h.ch) n8 rfl ?_
      refine L_do (φ:=fun v g w=>RV g.m w ([(x1).Colour]:List Int) v∧OS 3007 g w 3 ([(x1).Colour]:List Int) v∧FullV v) rfl rfl .plain (fun g w hd=>D_buildSlice (g:=g) 3007 (xs:=([(x1).Colour]:List Int)) (vs:=[.int .i64 ((x1).Colour)]) Try.underlying26 Try.sizeOf3 Try.zeroValue3 rfl rfl (.cons rfl .nil) (RVs.cons (Zj.2 rfl) RVs.nil) rfl rfl fun g' w' v hs o r hxt hfl=>⟨g',hxt,r,o,hfl⟩) (fun o0 hv=>?_)
      clear hv
      refine L_do (φ:=fun v g w=>v=.bool (x6)) rfl rfl .plain (fun g w hd=>Zp (g:=g) (vs:=[.int .i64 (0),.int .i64 (9),o0]) en138 (.cons rfl (.cons rfl (.cons rfl .nil))) (wk138 (word (A:=fun g w=>RV g.m w ([(x1).Colour]:List Int) o0∧OS 3007 g w 3 ([(x1).Colour]:List Int) o0∧FullV o0) 2 rfl rfl (deps_of hd)).1 r8) fun g' w' v hs hr=>⟨g',hs,hr⟩) (fun iA hv=>?_)
      obtain ⟨_,_,_,rfl⟩:=hv
      refine L_p (.bool (x6)) rfl rfl (Zk rfl) ?_
      refine L_y (fPtr p2 1) rfl rfl rfl rfl x5 (Zc at_37_1 rfl (PT.ptr q2)) ?_
      refine L_ld (c:=.int .i64 ((x1).Side)) rfl rfl (.yes2 rfl rfl x5) (fun _ _ h=>h.ch) x8 rfl ?_
      refine L_do (φ:=fun v g w=>RV g.m w ([(x1).Side]:List Int) v∧OS 3012 g w 3 ([(x1).Side]:List Int) v∧FullV v) rfl rfl (.yes2 rfl rfl x5) (fun g w hd=>D_buildSlice (g:=g) 3012 (xs:=([(x1).Side]:List Int)) (vs:=[.int .i64 ((x1).Side)]) Try.underlying26 Try.sizeOf3 Try.zeroValue3 rfl rfl (.cons rfl .nil) (RVs.cons (Zj.2 rfl) RVs.nil) rfl rfl fun g' w' v hs o r hxt hfl=>⟨g',hxt,r,o,hfl⟩) (fun l5 hv=>?_)
      clear hv
      refine L_do (φ:=fun v g w=>v=.bool (y6)) rfl rfl (.yes2 rfl rfl x5) (fun g w hd=>Zp (g:=g) (vs:=[.int .i64 (0),.int .i64 (1),l5]) en138 (.cons rfl (.cons rfl (.cons rfl .nil))) (wk138 (word (A:=fun g w=>RV g.m w ([(x1).Side]:List Int) l5∧OS 3012 g w 3 ([(x1).Side]:List Int) l5∧FullV l5) 7 rfl rfl (deps_of hd)).1 a9) fun g' w' v hs hr=>⟨g',hs,hr⟩) (fun aB hv=>?_)
      obtain ⟨_,_,_,rfl⟩:=hv
      refine L_p (.bool (y6)) rfl rfl (Zl (b:=x6) rfl (pick_t x5 rfl)) ?_
      refine L_p (.bool (y6)) rfl rfl (Zk rfl) ?_
      refine L_y (fPtr p1 0) rfl rfl rfl rfl u3 (Zc at_142_0 rfl (PT.ptr q1)) ?_
      refine L_y (fPtr (fPtr p1 0) 0) rfl rfl rfl rfl u3 (Zc at_40_0 rfl (PT.ptr k9)) ?_
      refine L_ld (c:=v8) rfl rfl (.yes2 rfl rfl u3) (fun _ _ h=>h.ch) n9 rfl ?_
      refine L_y (fPtr p2 1) rfl rfl rfl rfl u3 (Zc at_37_1 rfl (PT.ptr q2)) ?_
      refine L_ld (c:=.int .i64 ((x1).Side)) rfl rfl (.yes2 rfl rfl u3) (fun _ _ h=>h.ch) u9 rfl ?_
      refine L_y (ePtr v8 (x1).Side 1) rfl rfl rfl rfl u3 (Zh (α:=Int) Try.underlying26 Try.sizeOf3 rfl l9 rfl d9) ?_
      refine L_ld (c:=.int .i64 (l8)) rfl rfl (.yes2 rfl rfl u3) (fun _ _ h=>h.ch) y9 rfl ?_
      refine L_y (.int .i64 ((w64 (l8 - (1:Int))))) rfl rfl rfl rfl u3 (P_int rfl rfl rfl) ?_
      refine L_y (fPtr p2 2) rfl rfl rfl rfl u3 (Zc at_37_2 rfl (PT.ptr q2)) ?_
      refine L_ld (c:=.int .i64 ((x1).Box)) rfl rfl (.yes2 rfl rfl u3) (fun _ _ h=>h.ch) z9 rfl ?_
      refine L_do (φ:=fun v g w=>RV g.m w ([(x1).Box]:List Int) v∧OS 3026 g w 3 ([(x1).Box]:List Int) v∧FullV v) rfl rfl (.yes2 rfl rfl u3) (fun g w hd=>D_buildSlice (g:=g) 3026 (xs:=([(x1).Box]:List Int)) (vs:=[.int .i64 ((x1).Box)]) Try.underlying26 Try.sizeOf3 Try.zeroValue3 rfl rfl (.cons rfl .nil) (RVs.cons (Zj.2 rfl) RVs.nil) rfl rfl fun g' w' v hs o r hxt hfl=>⟨g',hxt,r,o,hfl⟩) (fun t5 hv=>?_)
      clear hv
      refine L_do (φ:=fun v g w=>v=.bool (m7)) rfl rfl (.yes2 rfl rfl u3) (fun g w hd=>Zp (g:=g) (vs:=[.int .i64 (0),.int .i64 ((w64 (l8 - (1:Int)))),t5]) en138 (.cons rfl (.cons rfl (.cons rfl .nil))) (wk138 (word (A:=fun g w=>RV g.m w ([(x1).Box]:List Int) t5∧OS 3026 g w 3 ([(x1).Box]:List Int) t5∧FullV t5) 21 rfl rfl (deps_of hd)).1 bA) fun g' w' v hs hr=>⟨g',hs,hr⟩) (fun oB hv=>?_)
      obtain ⟨_,_,_,rfl⟩:=hv
      refine L_p (.bool (m7)) rfl rfl (Zl (b:=y6) rfl (pick_t u3 rfl)) ?_
      refine L_p (.bool (m7)) rfl rfl (Zk rfl) ?_
      refine L_y (fPtr p2 3) rfl rfl rfl rfl i6 (Zc at_37_3 rfl (PT.ptr q2)) ?_
      refine L_y (fPtr (fPtr p2 3) 0) rfl rfl rfl rfl i6 (Zc at_35_0 rfl (PT.ptr rA)) ?_
      refine L_ld (c:=.int .i64 (((x1).Yarn).Low)) rfl rfl (.yes2 rfl rfl i6) (fun _ _ h=>h.ch) dB rfl ?_
      refine L_y (fPtr p2 3) rfl rfl rfl rfl i6 (Zc at_37_3 rfl (PT.ptr q2)) ?_
      refine L_y (fPtr (fPtr p2 3) 1) rfl rfl rfl rfl i6 (Zc at_35_1 rfl (PT.ptr yA)) ?_
      refine L_ld (c:=.int .i64 (((x1).Yarn).High)) rfl rfl (.yes2 rfl rfl i6) (fun _ _ h=>h.ch) iB rfl ?_
      refine L_do (φ:=fun v g w=>RV g.m w ([((x1).Yarn).Low,((x1).Yarn).High]:List Int) v∧OS 3036 g w 3 ([((x1).Yarn).Low,((x1).Yarn).High]:List Int) v∧FullV v) rfl rfl (.yes2 rfl rfl i6) (fun g w hd=>D_buildSlice (g:=g) 3036 (xs:=([((x1).Yarn).Low,((x1).Yarn).High]:List Int)) (vs:=[.int .i64 (((x1).Yarn).Low),.int .i64 (((x1).Yarn).High)]) Try.underlying26 Try.sizeOf3 Try.zeroValue3 rfl rfl (.cons rfl (.cons rfl .nil)) (RVs.cons (Zj.2 rfl) (RVs.cons (Zj.2 rfl) RVs.nil)) rfl rfl fun g' w' v hs o r hxt hfl=>⟨g',hxt,r,o,hfl⟩) (fun i7 hv=>?_)
      clear hv
      refine L_do (φ:=fun v g w=>v=.bool (k8)) rfl rfl (.yes2 rfl rfl i6) (fun g w hd=>Zp (g:=g) (vs:=[.int .i64 (0),.int .i64 (1000),i7]) en138 (.cons rfl (.cons rfl (.cons rfl .nil))) (wk138 (word (A:=fun g w=>RV g.m w ([((x1).Yarn).Low,((x1).Yarn).High]:List Int) i7∧OS 3036 g w 3 ([((x1).Yarn).Low,((x1).Yarn).High]:List Int) i7∧FullV i7) 31 rfl rfl (deps_of hd)).1 lB) fun g' w' v hs hr=>⟨g',hs,hr⟩) (fun uD hv=>?_)
      obtain ⟨_,_,_,rfl⟩:=hv
      refine L_p (.bool (k8)) rfl rfl (Zl (b:=m7) rfl (pick_t i6 rfl)) ?_
      refine L_p (.bool (k8)) rfl rfl (Zk rfl) ?_
      iterate 7 refine L_s rfl rfl rfl g8 rfl ?_
      refine L_p (.bool false) rfl rfl (Zl (b:=k8) rfl (pick_f g8 rfl)) ?_
      refine L_p (.bool false) rfl rfl (P_assign rfl) ?_
      refine L_nil fun xD tF hall=>?_
      have hs:=hall.1
      have hfr:=hfr.ext hs
      have uF:=(word_all (A:=fun g w=>RV g.m w ([(x1).Colour]:List Int) o0∧OS 3007 g w 3 ([(x1).Colour]:List Int) o0∧FullV o0) 2 rfl hall).1
      have o390:=(word_all (A:=fun g w=>RV g.m w ([(x1).Colour]:List Int) o0∧OS 3007 g w 3 ([(x1).Colour]:List Int) o0∧FullV o0) 2 rfl hall).2.1
      have vF:=(word_all (A:=fun g w=>RV g.m w ([(x1).Side]:List Int) l5∧OS 3012 g w 3 ([(x1).Side]:List Int) l5∧FullV l5) 7 rfl hall).1
      have o395:=(word_all (A:=fun g w=>RV g.m w ([(x1).Side]:List Int) l5∧OS 3012 g w 3 ([(x1).Side]:List Int) l5∧FullV l5) 7 rfl hall).2.1
      have xF:=(word_all (A:=fun g w=>RV g.m w ([(x1).Box]:List Int) t5∧OS 3026 g w 3 ([(x1).Box]:List Int) t5∧FullV t5) 21 rfl hall).1
      have o409:=(word_all (A:=fun g w=>RV g.m w ([(x1).Box]:List Int) t5∧OS 3026 g w 3 ([(x1).Box]:List Int) t5∧FullV t5) 21 rfl hall).2.1
      have yF:=(word_all (A:=fun g w=>RV g.m w ([((x1).Yarn).Low,((x1).Yarn).High]:List Int) i7∧OS 3036 g w 3 ([((x1).Yarn).Low,((x1).Yarn).High]:List Int) i7∧FullV i7) 31 rfl hall).1
      have o419:=(word_all (A:=fun g w=>RV g.m w ([((x1).Yarn).Low,((x1).Yarn).High]:List Int) i7∧OS 3036 g w 3 ([((x1).Yarn).Low,((x1).Yarn).High]:List Int) i7∧FullV i7) 31 rfl hall).2.1
      clear hs hall
      refine Zb ?_
      obtain rfl:=sinj h
      exact hQ _ _ ⟨xD,hfr,rfl⟩
    ·refine E_drawL (g := g2) (n := 44) [(2, (fun v g w => RV g.m w ([(x1).Colour] : List Int) v ∧ OS 3007 g w 3 ([(x1).Colour] : List Int) v ∧ FullV v)), (3, (fun v g w => v = .bool (x6))), (7, (fun v g w => RV g.m w ([(x1).Side] : List Int) v ∧ OS 3012 g w 3 ([(x1).Side] : List Int) v ∧ FullV v)), (8, (fun v g w => v = .bool (y6))), (21, (fun v g w => RV g.m w ([(x1).Box] : List Int) v ∧ OS 3026 g w 3 ([(x1).Box] : List Int) v ∧ FullV v)), (22, (fun v g w => v = .bool (m7)))] [0, 1, 2, 3, 4, 5, 6, 7, 8, 9, 10, 11, 12, 13, 14, 15, 16, 17, 18, 19, 20, 21, 22, 23, 24, 25, 26, 27, 28, 29, 30, 31, 32, 33, 34, 35, 36, 37, 38, 39, 40, 41, 42, 43] rfl mixed (by kernel_rfl) (⟨fun _ => up_and up_rv (up_and up_os (up_eq _)), fun _ => up_eq _, fun _ => up_and up_rv (up_and up_os (up_eq _)), fun _ => up_eq _, fun _ => up_and up_rv (up_and up_os (up_eq _)), fun _ => up_eq _, trivial⟩) ?_
     refine L_p (fPtr p2 0) rfl rfl (Zc at_37_0 rfl (PT.ptr q2)) ?_
     refine L_ld (c:=.int .i64 ((x1).Colour)) rfl rfl .plain (fun _ _ h=>h.ch) n8 rfl ?_
     refine L_do (φ:=fun v g w=>RV g.m w ([(x1).Colour]:List Int) v∧OS 3007 g w 3 ([(x1).Colour]:List Int) v∧FullV v) rfl rfl .plain (fun g w hd=>D_buildSlice (g:=g) 3007 (xs:=([(x1).Colour]:List Int)) (vs:=[.int .i64 ((x1).Colour)]) Try.underlying26 Try.sizeOf3 Try.zeroValue3 rfl rfl (.cons rfl .nil) (RVs.cons (Zj.2 rfl) RVs.nil) rfl rfl fun g' w' v hs o r hxt hfl=>⟨g',hxt,r,o,hfl⟩) (fun o0 hv=>?_)
     clear hv
     refine L_do (φ:=fun v g w=>v=.bool (x6)) rfl rfl .plain (fun g w hd=>Zp (g:=g) (vs:=[.int .i64 (0),.int .i64 (9),o0]) en138 (.cons rfl (.cons rfl (.cons rfl .nil))) (wk138 (word (A:=fun g w=>RV g.m w ([(x1).Colour]:List Int) o0∧OS 3007 g w 3 ([(x1).Colour]:List Int) o0∧FullV o0) 2 rfl rfl (deps_of hd)).1 r8) fun g' w' v hs hr=>⟨g',hs,hr⟩) (fun iA hv=>?_)
     obtain ⟨_,_,_,rfl⟩:=hv
     refine L_p (.bool (x6)) rfl rfl (Zk rfl) ?_
     refine L_y (fPtr p2 1) rfl rfl rfl rfl x5 (Zc at_37_1 rfl (PT.ptr q2)) ?_
     refine L_ld (c:=.int .i64 ((x1).Side)) rfl rfl (.yes2 rfl rfl x5) (fun _ _ h=>h.ch) x8 rfl ?_
     refine L_do (φ:=fun v g w=>RV g.m w ([(x1).Side]:List Int) v∧OS 3012 g w 3 ([(x1).Side]:List Int) v∧FullV v) rfl rfl (.yes2 rfl rfl x5) (fun g w hd=>D_buildSlice (g:=g) 3012 (xs:=([(x1).Side]:List Int)) (vs:=[.int .i64 ((x1).Side)]) Try.underlying26 Try.sizeOf3 Try.zeroValue3 rfl rfl (.cons rfl .nil) (RVs.cons (Zj.2 rfl) RVs.nil) rfl rfl fun g' w' v hs o r hxt hfl=>⟨g',hxt,r,o,hfl⟩) (fun l5 hv=>?_)
     clear hv
     refine L_do (φ:=fun v g w=>v=.bool (y6)) rfl rfl (.yes2 rfl rfl x5) (fun g w hd=>Zp (g:=g) (vs:=[.int .i64 (0),.int .i64 (1),l5]) en138 (.cons rfl (.cons rfl (.cons rfl .nil))) (wk138 (word (A:=fun g w=>RV g.m w ([(x1).Side]:List Int) l5∧OS 3012 g w 3 ([(x1).Side]:List Int) l5∧FullV l5) 7 rfl rfl (deps_of hd)).1 a9) fun g' w' v hs hr=>⟨g',hs,hr⟩) (fun aB hv=>?_)
     obtain ⟨_,_,_,rfl⟩:=hv
     refine L_p (.bool (y6)) rfl rfl (Zl (b:=x6) rfl (pick_t x5 rfl)) ?_
     refine L_p (.bool (y6)) rfl rfl (Zk rfl) ?_
     refine L_y (fPtr p1 0) rfl rfl rfl rfl u3 (Zc at_142_0 rfl (PT.ptr q1)) ?_
     refine L_y (fPtr (fPtr p1 0) 0) rfl rfl rfl rfl u3 (Zc at_40_0 rfl (PT.ptr k9)) ?_
     refine L_ld (c:=v8) rfl rfl (.yes2 rfl rfl u3) (fun _ _ h=>h.ch) n9 rfl ?_
     refine L_y (fPtr p2 1) rfl rfl rfl rfl u3 (Zc at_37_1 rfl (PT.ptr q2)) ?_
     refine L_ld (c:=.int .i64 ((x1).Side)) rfl rfl (.yes2 rfl rfl u3) (fun _ _ h=>h.ch) u9 rfl ?_
     refine L_y (ePtr v8 (x1).Side 1) rfl rfl rfl rfl u3 (Zh (α:=Int) Try.underlying26 Try.sizeOf3 rfl l9 rfl d9) ?_
     refine L_ld (c:=.int .i64 (l8)) rfl rfl (.yes2 rfl rfl u3) (fun _ _ h=>h.ch) y9 rfl ?_
     refine L_y (.int .i64 ((w64 (l8 - (1:Int))))) rfl rfl rfl rfl u3 (P_int rfl rfl rfl) ?_
     refine L_y (fPtr p2 2) rfl rfl rfl rfl u3 (Zc at_37_2 rfl (PT.ptr q2)) ?_
     refine L_ld (c:=.int .i64 ((x1).Box)) rfl rfl (.yes2 rfl rfl u3) (fun _ _ h=>h.ch) z9 rfl ?_
     refine L_do (φ:=fun v g w=>RV g.m w ([(x1).Box]:List Int) v∧OS 3026 g w 3 ([(x1).Box]:List Int) v∧FullV v) rfl rfl (.yes2 rfl rfl u3) (fun g w hd=>D_buildSlice (g:=g) 3026 (xs:=([(x1).Box]:List Int)) (vs:=[.int .i64 ((x1).Box)]) Try.underlying26 Try.sizeOf3 Try.zeroValue3 rfl rfl (.cons rfl .nil) (RVs.cons (Zj.2 rfl) RVs.nil) rfl rfl fun g' w' v hs o r hxt hfl=>⟨g',hxt,r,o,hfl⟩) (fun t5 hv=>?_)
     clear hv
     refine L_do (φ:=fun v g w=>v=.bool (m7)) rfl rfl (.yes2 rfl rfl u3) (fun g w hd=>Zp (g:=g) (vs:=[.int .i64 (0),.int .i64 ((w64 (l8 - (1:Int)))),t5]) en138 (.cons rfl (.cons rfl (.cons rfl .nil))) (wk138 (word (A:=fun g w=>RV g.m w ([(x1).Box]:List Int) t5∧OS 3026 g w 3 ([(x1).Box]:List Int) t5∧FullV t5) 21 rfl rfl (deps_of hd)).1 bA) fun g' w' v hs hr=>⟨g',hs,hr⟩) (fun oB hv=>?_)
     obtain ⟨_,_,_,rfl⟩:=hv
     refine L_p (.bool (m7)) rfl rfl (Zl (b:=y6) rfl (pick_t u3 rfl)) ?_
     refine L_p (.bool (m7)) rfl rfl (Zk rfl) ?_
     iterate 8 refine L_s rfl rfl rfl i6 rfl ?_
     refine L_p (.bool false) rfl rfl (Zl (b:=m7) rfl (pick_f i6 rfl)) ?_
     refine L_dead (fun _=>rfl) 9 rfl ?_
     refine L_p (.bool false) rfl rfl (P_assign rfl) ?_
     refine L_nil fun yD zF hall=>?_
     have hs:=hall.1
     have hfr:=hfr.ext hs
     have aG:=(word_all (A:=fun g w=>RV g.m w ([(x1).Colour]:List Int) o0∧OS 3007 g w 3 ([(x1).Colour]:List Int) o0∧FullV o0) 2 rfl hall).1
     have o439:=(word_all (A:=fun g w=>RV g.m w ([(x1).Colour]:List Int) o0∧OS 3007 g w 3 ([(x1).Colour]:List Int) o0∧FullV o0) 2 rfl hall).2.1
     have bG:=(word_all (A:=fun g w=>RV g.m w ([(x1).Side]:List Int) l5∧OS 3012 g w 3 ([(x1).Side]:List Int) l5∧FullV l5) 7 rfl hall).1
     have o444:=(word_all (A:=fun g w=>RV g.m w ([(x1).Side]:List Int) l5∧OS 3012 g w 3 ([(x1).Side]:List Int) l5∧FullV l5) 7 rfl hall).2.1
     have cG:=(word_all (A:=fun g w=>RV g.m w ([(x1).Box]:List Int) t5∧OS 3026 g w 3 ([(x1).Box]:List Int) t5∧FullV t5) 21 rfl hall).1
     have o458:=(word_all (A:=fun g w=>RV g.m w ([(x1).Box]:List Int) t5∧OS 3026 g w 3 ([(x1).Box]:List Int) t5∧FullV t5) 21 rfl hall).2.1
     clear hs hall
     refine Zb ?_
     obtain rfl:=sinj h
     exact hQ _ _ ⟨yD,hfr,rfl⟩
   ·refine E_drawL (g := g2) (n := 44) [(2, (fun v g w => RV g.m w ([(x1).Colour] : List Int) v ∧ OS 3007 g w 3 ([(x1).Colour] : List Int) v ∧ FullV v)), (3, (fun v g w => v = .bool (x6))), (7, (fun v g w => RV g.m w ([(x1).Side] : List Int) v ∧ OS 3012 g w 3 ([(x1).Side] : List Int) v ∧ FullV v)), (8, (fun v g w => v = .bool (y6)))] [0, 1, 2, 3, 4, 5, 6, 7, 8, 9, 10, 11, 12, 13, 14, 15, 16, 17, 18, 19, 20, 21, 22, 23, 24, 25, 26, 27, 28, 29, 30, 31, 32, 33, 34, 35, 36, 37, 38, 39, 40, 41, 42, 43] rfl mixed (by kernel_rfl) (⟨fun _ => up_and up_rv (up_and up_os (up_eq _)), fun _ => up_eq _, fun _ => up_and up_rv (up_and up_os (up_eq _)), fun _ => up_eq _, trivial⟩) ?_
    refine L_p (fPtr p2 0) rfl rfl (Zc at_37_0 rfl (PT.ptr q2)) ?_
    refine L_ld (c:=.int .i64 ((x1).Colour)) rfl rfl .plain (fun _ _ h=>h.ch) n8 rfl ?_
    refine L_do (φ:=fun v g w=>RV g.m w ([(x1).Colour]:List Int) v∧OS 3007 g w 3 ([(x1).Colour]:List Int) v∧FullV v) rfl rfl .plain (fun g w hd=>D_buildSlice (g:=g) 3007 (xs:=([(x1).Colour]:List Int)) (vs:=[.int .i64 ((x1).Colour)]) Try.underlying26 Try.sizeOf3 Try.zeroValue3 rfl rfl (.cons rfl .nil) (RVs.cons (Zj.2 rfl) RVs.nil) rfl rfl fun g' w' v hs o r hxt hfl=>⟨g',hxt,r,o,hfl⟩) (fun o0 hv=>?_)
    clear hv
    refine L_do (φ:=fun v g w=>v=.bool (x6)) rfl rfl .plain (fun g w hd=>Zp (g:=g) (vs:=[.int .i64 (0),.int .i64 (9),o0]) en138 (.cons rfl (.cons rfl (.cons rfl .nil))) (wk138 (word (A:=fun g w=>RV g.m w ([(x1).Colour]:List Int) o0∧OS 3007 g w 3 ([(x1).Colour]:List Int) o0∧FullV o0) 2 rfl rfl (deps_of hd)).1 r8) fun g' w' v hs hr=>⟨g',hs,hr⟩) (fun iA hv=>?_)
    obtain ⟨_,_,_,rfl⟩:=hv
    refine L_p (.bool (x6)) rfl rfl (Zk rfl) ?_
    refine L_y (fPtr p2 1) rfl rfl rfl rfl x5 (Zc at_37_1 rfl (PT.ptr q2)) ?_
    refine L_ld (c:=.int .i64 ((x1).Side)) rfl rfl (.yes2 rfl rfl x5) (fun _ _ h=>h.ch) x8 rfl ?_
    refine L_do (φ:=fun v g w=>RV g.m w ([(x1).Side]:List Int) v∧OS 3012 g w 3 ([(x1).Side]:List Int) v∧FullV v) rfl rfl (.yes2 rfl rfl x5) (fun g w hd=>D_buildSlice (g:=g) 3012 (xs:=([(x1).Side]:List Int)) (vs:=[.int .i64 ((x1).Side)]) Try.underlying26 Try.sizeOf3 Try.zeroValue3 rfl rfl (.cons rfl .nil) (RVs.cons (Zj.2 rfl) RVs.nil) rfl rfl fun g' w' v hs o r hxt hfl=>⟨g',hxt,r,o,hfl⟩) (fun l5 hv=>?_)
    clear hv
    refine L_do (φ:=fun v g w=>v=.bool (y6)) rfl rfl (.yes2 rfl rfl x5) (fun g w hd=>Zp (g:=g) (vs:=[.int .i64 (0),.int .i64 (1),l5]) en138 (.cons rfl (.cons rfl (.cons rfl .nil))) (wk138 (word (A:=fun g w=>RV g.m w ([(x1).Side]:List Int) l5∧OS 3012 g w 3 ([(x1).Side]:List Int) l5∧FullV l5) 7 rfl rfl (deps_of hd)).1 a9) fun g' w' v hs hr=>⟨g',hs,hr⟩) (fun aB hv=>?_)
    obtain ⟨_,_,_,rfl⟩:=hv
    refine L_p (.bool (y6)) rfl rfl (Zl (b:=x6) rfl (pick_t x5 rfl)) ?_
    refine L_p (.bool (y6)) rfl rfl (Zk rfl) ?_
    iterate 12 refine L_s rfl rfl rfl u3 rfl ?_
    refine L_p (.bool false) rfl rfl (Zl (b:=y6) rfl (pick_f u3 rfl)) ?_
    refine L_dead (fun _=>rfl) 19 rfl ?_
    refine L_p (.bool false) rfl rfl (P_assign rfl) ?_
    refine L_nil fun zD eG hall=>?_
    have hs:=hall.1
    have hfr:=hfr.ext hs
    have gG:=(word_all (A:=fun g w=>RV g.m w ([(x1).Colour]:List Int) o0∧OS 3007 g w 3 ([(x1).Colour]:List Int) o0∧FullV o0) 2 rfl hall).1
    have o488:=(word_all (A:=fun g w=>RV g.m w ([(x1).Colour]:List Int) o0∧OS 3007 g w 3 ([(x1).Colour]:List Int) o0∧FullV o0) 2 rfl hall).2.1
    have hG:=(word_all (A:=fun g w=>RV g.m w ([(x1).Side]:List Int) l5∧OS 3012 g w 3 ([(x1).Side]:List Int) l5∧FullV l5) 7 rfl hall).1
    have o493:=(word_all (A:=fun g w=>RV g.m w ([(x1).Side]:List Int) l5∧OS 3012 g w 3 ([(x1).Side]:List Int) l5∧FullV l5) 7 rfl hall).2.1
    clear hs hall
    refine Zb ?_
    obtain rfl:=sinj h
    exact hQ _ _ ⟨zD,hfr,rfl⟩
  ·refine E_drawL (g := g2) (n := 44) [(2, (fun v g w => RV g.m w ([(x1).Colour] : List Int) v ∧ OS 3007 g w 3 ([(x1).Colour] : List Int) v ∧ FullV v)), (3, (fun v g w => v = .bool (x6)))] [0, 1, 2, 3, 4, 5, 6, 7, 8, 9, 10, 11, 12, 13, 14, 15, 16, 17, 18, 19, 20, 21, 22, 23, 24, 25, 26, 27, 28, 29, 30, 31, 32, 33, 34, 35, 36, 37, 38, 39, 40, 41, 42, 43] rfl mixed (by kernel_rfl) (⟨fun _ => up_and up_rv (up_and up_os (up_eq _)), fun _ => up_eq _, trivial⟩) ?_
   refine L_p (fPtr p2 0) rfl rfl (Zc at_37_0 rfl (PT.ptr q2)) ?_
   refine L_ld (c:=.int .i64 ((x1).Colour)) rfl rfl .plain (fun _ _ h=>h.ch) n8 rfl ?_
   refine L_do (φ:=fun v g w=>RV g.m w ([(x1).Colour]:List Int) v∧OS 3007 g w 3 ([(x1).Colour]:List Int) v∧FullV v) rfl rfl .plain (fun g w hd=>D_buildSlice (g:=g) 3007 (xs:=([(x1).Colour]:List Int)) (vs:=[.int .i64 ((x1).Colour)]) Try.underlying26 Try.sizeOf3 Try.zeroValue3 rfl rfl (.cons rfl .nil) (RVs.cons (Zj.2 rfl) RVs.nil) rfl rfl fun g' w' v hs o r hxt hfl=>⟨g',hxt,r,o,hfl⟩) (fun o0 hv=>?_)
   clear hv
   refine L_do (φ:=fun v g w=>v=.bool (x6)) rfl rfl .plain (fun g w hd=>Zp (g:=g) (vs:=[.int .i64 (0),.int .i64 (9),o0]) en138 (.cons rfl (.cons rfl (.cons rfl .nil))) (wk138 (word (A:=fun g w=>RV g.m w ([(x1).Colour]:List Int) o0∧OS 3007 g w 3 ([(x1).Colour]:List Int) o0∧FullV o0) 2 rfl rfl (deps_of hd)).1 r8) fun g' w' v hs hr=>⟨g',hs,hr⟩) (fun iA hv=>?_)
   obtain ⟨_,_,_,rfl⟩:=hv
   refine L_p (.bool (x6)) rfl rfl (Zk rfl) ?_
   iterate 4 refine L_s rfl rfl rfl x5 rfl ?_
   refine L_p (.bool false) rfl rfl (Zl (b:=x6) rfl (pick_f x5 rfl)) ?_
   refine L_dead (fun _=>rfl) 33 rfl ?_
   refine L_p (.bool false) rfl rfl (P_assign rfl) ?_
   refine L_nil fun aE iG hall=>?_
   have hs:=hall.1
   have hfr:=hfr.ext hs
   have jG:=(word_all (A:=fun g w=>RV g.m w ([(x1).Colour]:List Int) o0∧OS 3007 g w 3 ([(x1).Colour]:List Int) o0∧FullV o0) 2 rfl hall).1
   have o537:=(word_all (A:=fun g w=>RV g.m w ([(x1).Colour]:List Int) o0∧OS 3007 g w 3 ([(x1).Colour]:List Int) o0∧FullV o0) 2 rfl hall).2.1
   clear hs hall
   refine Zb ?_
   obtain rfl:=sinj h
   exact hQ _ _ ⟨aE,hfr,rfl⟩
 ·clear hx
  obtain ⟨kG,hfr,tB⟩:=hR
  refine E_ret ?_
  obtain rfl:=sinj h
  exact end1 rfl rfl (show _=.bool (m8) from tB) ⟨_,hfr,rfl⟩
def f136 (x0:BoxBoxLoom):Option (Bool):=
 jn (σ:=Unit) (fun _=>
  some (true)
  ) fun oB=>
 lp (σ:=Int) (fun tB u3=>
  bif (decide (u3 < ((((x0).BoxLoom).Boxes).length : Int))) then
   jn (σ:=Unit) (fun _=>
    tB ((w64 (u3 + (1:Int))))
    ) fun x8=>
   (idx (((x0).BoxLoom).Boxes) u3).bind fun x5=>
   Option.bind (α:=Bool) (
    (f138 ((1:Int)) ((4:Int)) (([x5]:List Int))).bind fun y130=>
    bif (!y130) then
     some (true)
    else
     (idx (((x0).BoxLoom).At) u3).bind fun y135=>
     (f138 ((0:Int)) ((w64 (x5 - (1:Int)))) (([y135]:List Int))).bind fun y140=>
     some ((!y140))
    ) fun i6=>
   bif i6 then
    some (false)
   else
    x8 ()
  else
   oB ()
  ) big ((0:Int))
theorem en136:Enters Try.prog 136:=enters_of Try.func136 (by kernel_rfl) rfl
theorem wk136 {gI:Gh} {wI:World} {x0:BoxBoxLoom} {up0:Value} (rp0:RV gI.m wI x0 up0) {r:Bool} (h:f136 x0=some r):Fn Try.prog 136 #[up0] gI wI (fun _ _ v=>v=.bool (r)):=by
 unfold f136 at h
 refine fn_of_E Try.func136 rfl (Nat.le_of_ble_eq_true rfl) fun g0 hm hfr=>?_
 have rp0:RV g0.m wI x0 up0:=hm ▸ rp0
 show E _ 32 none _ _ _ _ _
 refine Zf (Za (Ze .plain rfl (D_box (g:=g0) rfl rp0 fun g1 w1 p1 hs q1=>?_)))
 have hfr:=hfr.ext hs
 refine Zg (.bool false) rfl rfl ?_
 refine Zb (Zd (Zq h (fun (s:Unit) e w=>∃ (g:Gh) ,Fr gI wI g w) (fun X73 oB zB h=>?_) ?_))
 ·refine Zf (Za (EL_p (fPtr p1 0) (Zc at_142_0 rfl (PT.ptr q1)) rfl ?_))
  have vB:=Zm (part_BoxBoxLoom_0).1 q1
  refine EL_p (fPtr (fPtr p1 0) 0) (Zc at_40_0 rfl (PT.ptr vB)) rfl ?_
  have sD:=Zm (part_BoxLoom_0).1 vB
  refine Ze .plain rfl (D_load (g:=g1) Try.isAgg26 Try.sizeOf26 rfl sD fun y6 yB=>?_)
  refine EL_p (.int .i64 ((((x0).BoxLoom).Boxes).length:Int)) (P_len Try.underlying26 rfl yB) rfl ?_
  refine Zn (.int .i64 (0)) rfl rfl ?_
  refine Zb (Zd (Zr ?_))
  refine E_lp h (fun (s:Int) e w=>∃ (g:Gh) ,Fr gI wI g w∧e 1=p1∧PT g.m w (x0:BoxBoxLoom) p1∧e 7=y6∧RV g.m w (((x0).BoxLoom).Boxes:List Int) y6∧e 8=.int .i64 (((((x0).BoxLoom).Boxes).length:Int))∧e 9=.int .i64 (s)) ⟨g1,hfr,rfl,q1,rfl,yB,rfl,rfl⟩ (fun X77 tB cC=>?_)
  rintro u3 zD yE ⟨a9,hfr,m7,l5,g8,t5,k8,x6⟩ h
  refine Zf (Za (EL_p (.bool ((decide (u3 < ((((x0).BoxLoom).Boxes).length:Int))))) (P_int x6 k8 rfl) rfl ?_))
  refine Zb (Zd (Zf ?_))
  rcases Zt h with ⟨n8,h⟩ | ⟨n8,h⟩
  ·refine E_ct n8 rfl ?_
   refine Zu (Zd (Zq h (fun (s:Unit) e w=>∃ (g:Gh) ,Fr gI wI g w∧e 1=p1∧PT g.m w (x0:BoxBoxLoom) p1∧e 7=y6∧RV g.m w (((x0).BoxLoom).Boxes:List Int) y6∧e 8=.int .i64 (((((x0).BoxLoom).Boxes).length:Int))∧e 9=.int .i64 (u3)) (fun X111 x8 lB h=>?_) ?_))
   ·refine Zr ?_
    refine Zf (Za (Zo x6 rfl ?_))
    obtain ⟨x5,r8,h⟩:=bsome h
    refine EL_p (ePtr y6 u3 1) (Zh (α:=Int) Try.underlying26 Try.sizeOf3 g8 t5 x6 r8) rfl ?_
    have mC:=PT_idx t5 r8
    refine Ze .plain rfl (D_load (g:=a9) Try.isAgg3 Try.sizeOf3 rfl mC fun aE qC=>?_)
    obtain rfl:=Zj.1 qC
    refine Zg (.int .i64 (u3)) rfl rfl ?_
    refine Zg (.int .i64 (x5)) rfl rfl ?_
    refine Zb (Zd ?_)
    obtain ⟨i6,hx,h⟩:=bsome h
    refine E_join (fun e w=>∃ (g:Gh) ,Fr gI wI g w∧e 1=p1∧PT g.m w (x0:BoxBoxLoom) p1∧e 7=y6∧RV g.m w (((x0).BoxLoom).Boxes:List Int) y6∧e 8=.int .i64 (((((x0).BoxLoom).Boxes).length:Int))∧e 9=.int .i64 (u3)∧e 30=.bool (i6)) (fun Q' hQ=>?_) (fun tD bE hR=>?_)
    ·replace h := hx
     clear hx
     refine Za (Zn (.int .i64 (x5)) rfl rfl ?_)
     refine Ze .plain rfl (D_buildSlice (g:=a9) 3015 (xs:=([x5]:List Int)) (vs:=[.int .i64 (x5)]) Try.underlying26 Try.sizeOf3 Try.zeroValue3 rfl rfl (.cons rfl .nil) (RVs.cons (Zj.2 rfl) RVs.nil) rfl rfl fun rC iE uC hs o128 vC hxt hfl=>?_)
     have hfr:=hfr.stp hs
     have l5:=l5.stp hs
     have t5:=t5.stp hs
     obtain ⟨y130,mB,h⟩:=bsome h
     refine Ze .plain rfl (Zp (g:=rC) (vs:=[.int .i64 (1),.int .i64 (4),uC]) en138 (.cons rfl (.cons rfl (.cons rfl .nil))) (wk138 vC mB) fun l8 uD lE hs hr=>?_)
     have hfr:=hfr.ext hs
     have l5:=l5.ext hs
     have t5:=t5.ext hs
     subst hr
     refine EL_p (.bool (!y130)) (P_not rfl) rfl ?_
     refine Zn (.bool (!y130)) rfl rfl ?_
     rcases Zt h with ⟨o0,h⟩ | ⟨o0,h⟩
     ·refine EL_s rfl rfl o0 rfl rfl ?_
      iterate 10 refine EL_s rfl rfl o0 rfl rfl ?_
      refine EL_p (.bool true) (Zl (b:=(!y130)) rfl (pick_t o0 rfl)) rfl ?_
      refine Zb ?_
      obtain rfl:=sinj h
      exact hQ _ _ ⟨l8,hfr,m7,l5,g8,t5,k8,x6,rfl⟩
     ·refine EL_y (.int .i64 (x5)) (Zk rfl) rfl rfl o0 rfl ?_
      refine EL_y (.int .i64 ((w64 (x5 - (1:Int))))) (P_int rfl rfl rfl) rfl rfl o0 rfl ?_
      refine EL_y (fPtr p1 0) (Zc at_142_0 m7 (PT.ptr l5)) rfl rfl o0 rfl ?_
      have d9:=Zm (part_BoxBoxLoom_0).1 l5
      refine EL_y (fPtr (fPtr p1 0) 1) (Zc at_40_1 rfl (PT.ptr d9)) rfl rfl o0 rfl ?_
      have aD:=Zm (part_BoxLoom_1).1 d9
      refine Ze (.yes2 rfl rfl o0) rfl (D_load (g:=l8) Try.isAgg26 Try.sizeOf26 rfl aD fun bD k9=>?_)
      refine EL_y (.int .i64 (u3)) (Zk rfl) rfl rfl o0 rfl ?_
      obtain ⟨y135,v8,h⟩:=bsome h
      refine EL_y (ePtr bD u3 1) (Zh (α:=Int) Try.underlying26 Try.sizeOf3 rfl k9 rfl v8) rfl rfl o0 rfl ?_
      have cD:=PT_idx k9 v8
      refine Ze (.yes2 rfl rfl o0) rfl (D_load (g:=l8) Try.isAgg3 Try.sizeOf3 rfl cD fun mE eD=>?_)
      obtain rfl:=Zj.1 eD
      refine Ze (.yes2 rfl rfl o0) rfl (D_buildSlice (g:=l8) 3027 (xs:=([y135]:List Int)) (vs:=[.int .i64 (y135)]) Try.underlying26 Try.sizeOf3 Try.zeroValue3 rfl rfl (.cons rfl .nil) (RVs.cons (Zj.2 rfl) RVs.nil) rfl rfl fun gD oE iD hs o138 jD hxt hfl=>?_)
      have hfr:=hfr.stp hs
      have l5:=l5.stp hs
      have t5:=t5.stp hs
      obtain ⟨y140,nB,h⟩:=bsome h
      refine Ze (.yes2 rfl rfl o0) rfl (Zp (g:=gD) (vs:=[.int .i64 (0),.int .i64 ((w64 (x5 - (1:Int)))),iD]) en138 (.cons rfl (.cons rfl (.cons rfl .nil))) (wk138 jD nB) fun lD vD rE hs hr=>?_)
      have hfr:=hfr.ext hs
      have l5:=l5.ext hs
      have t5:=t5.ext hs
      subst hr
      refine EL_y (.bool (!y140)) (P_not rfl) rfl rfl o0 rfl ?_
      refine EL_p (.bool (!y140)) (Zl (b:=(!y130)) rfl (pick_f o0 rfl)) rfl ?_
      refine Zb ?_
      obtain rfl:=sinj h
      exact hQ _ _ ⟨lD,hfr,m7,l5,g8,t5,k8,x6,rfl⟩
    ·clear hx
     obtain ⟨nD,hfr,l9,n9,u9,y9,z9,bA,i7⟩:=hR
     rcases Zt h with ⟨m8,h⟩ | ⟨m8,h⟩
     ·refine E_cond_true (Eq.trans (show ev _ _ = .bool (i6) from i7) (congrArg Value.bool m8)) ?_
      refine Zf (Za (Zg (.bool false) rfl rfl ?_))
      refine Zb (Zd (E_ret (blk_r ?_)))
      refine thn_r ?_
      refine thn_r ?_
      refine blk_r ?_
      refine thn_r ?_
      obtain rfl:=sinj h
      exact end1 rfl rfl (show _=.bool false from rfl) ⟨_,hfr,rfl⟩
     ·refine E_cond_false (Eq.trans (show ev _ _ = .bool (i6) from i7) (congrArg Value.bool m8)) ?_
      exact Zu (blk_n (Zd (lB () _ _ ⟨nD,hfr,l9,n9,u9,y9,z9,bA⟩ h)))
   ·rintro _ xD uE ⟨oD, hfr, iA, rA, yA, aB, dB, iB⟩ h
    refine Za (EL_in (.int .i64 ((w64 (u3 + (1:Int))))) iB rfl rfl rfl ?_)
    refine Zn (.int .i64 ((w64 (u3 + (1:Int))))) rfl rfl ?_
    exact Zb (Zd (cC ((w64 (u3 + (1:Int)))) _ _ ⟨oD,hfr,iA,rA,yA,aB,dB,rfl⟩ h))
  ·refine E_cf n8 rfl ?_
   refine E_exit ?_
   refine thn_e ?_
   refine thn_e ?_
   refine blk_hit ?_
   exact Zd (zB () _ _ ⟨a9,hfr⟩ h)
 ·rintro _ yD vE ⟨xE, hfr⟩ h
  refine Zf (Za (Zg (.bool true) rfl rfl ?_))
  refine Zb (Zd (E_ret ?_))
  obtain rfl:=sinj h
  exact end1 rfl rfl (show _=.bool true from rfl) ⟨_,hfr,rfl⟩
def f142 (x0:BoxRace) (x1:List BoxPick):Option (BoxRun × Int × Int):=
 jn (σ:=BoxRun) (fun y9=>
  some (y9,(0:Int),(0:Int))
  ) fun uC=>
 lp (σ:=BoxRun × Int) (fun vC (y6,u3)=>
  bif (decide (u3 < ((x1).length : Int))) then
   jn (σ:=BoxRun) (fun n8=>
    vC (n8,(w64 (u3 + (1:Int))))
    ) fun aD=>
   (idx x1 u3).bind fun bD=>
   (f216 ((y6).last) bD).bind fun o0=>
   jn (σ:=BoxRun) (fun x5=>
    (apnd 8 ((x5).thrown) (([o0.2.1]:List Int))).bind fun i6=>
    aD ((⟨i6,o0.1,(w64 ((x5).moves + o0.2.2))⟩:BoxRun))
    ) fun cD=>
   bif (o0.2.1 == (0 : Int)) then
    some ((⟨[],⟨(⟨List.toArray [(⟨List.toArray [0,0,0,0],rfl⟩:Vector Int 4),(⟨List.toArray [0,0,0,0],rfl⟩:Vector Int 4)],rfl⟩:Vector (Vector Int 4) 2),⟨0,0⟩⟩,0⟩:BoxRun),u3,(9:Int))
   else
    cD (y6)
  else
   uC (y6)
  ) big ((⟨[],x0,0⟩:BoxRun),(0:Int))
theorem en142:Enters Try.prog 142:=enters_of Try.func142 (by kernel_rfl) rfl
theorem wk142 {gI:Gh} {wI:World} {x0:BoxRace} {x1:List BoxPick} {up0:Value} (rp0:RV gI.m wI x0 up0) {up1:Value} (rp1:RV gI.m wI x1 up1) {r:BoxRun × Int × Int} (h:f142 x0 x1=some r):Fn Try.prog 142 #[up0,up1] gI wI (fun m w v=>∃ y0 y1 y2,v=.tuple #[y0,y1,y2]∧RV m w (r.1) y0∧y1=.int .i64 (r.2.1)∧y2=.int .i64 (r.2.2)):=by
 unfold f142 at h
 refine fn_of_E Try.func142 rfl (Nat.le_of_ble_eq_true rfl) fun g0 hm hfr=>?_
 have rp0:RV g0.m wI x0 up0:=hm ▸ rp0
 have rp1:RV g0.m wI x1 up1:=hm ▸ rp1
 show E _ 46 none _ _ _ _ _
 refine Zf (Za (Ze .plain rfl (D_box (g:=g0) rfl rp0 fun g1 w1 p1 hs q1=>?_)))
 have hfr:=hfr.ext hs
 have rp1:=rp1.ext hs
 refine Ze .plain rfl (D_allocOc (g:=g1) 2004 (⟨[],⟨(⟨List.toArray [(⟨List.toArray [0,0,0,0],rfl⟩:Vector Int 4),(⟨List.toArray [0,0,0,0],rfl⟩:Vector Int 4)],rfl⟩:Vector (Vector Int 4) 2),⟨0,0⟩⟩,0⟩:BoxRun) Try.zeroValue164 (fun m w=>⟨_,(rep_two rep_nil (rep_two (rep_two (rep_vec (flat_chunk (rep_vec (flat_chunk rep_int (flat_chunk rep_int (flat_chunk rep_int (flat_chunk rep_int flat_nil)))) rfl) (flat_chunk (rep_vec (flat_chunk rep_int (flat_chunk rep_int (flat_chunk rep_int (flat_chunk rep_int flat_nil)))) rfl) flat_nil)) rfl) (rep_two rep_int rep_int)) rep_int)),rfl⟩) fun g2 w2 p2 hs b2 cb=>?_)
 have hfr:=hfr.stp hs
 have rp1:=rp1.stp hs
 have q1:=q1.stp hs
 have bA:OSF 2004 60400 0 g2 w2 3 164 ([]:List Int) p2:=cb.osf (by rfl)
 clear cb
 refine Zg (.int .i64 (0)) rfl rfl ?_
 refine Zg (.int .i64 (0)) rfl rfl ?_
 refine Zb (Zd (Zf (Za (Ze .plain rfl (D_load (g:=g2) Try.isAgg153 Try.sizeOf153 rfl q1 fun v3 r3=>?_)))))
 refine EL_p (fPtr p2 1) (Zc at_164_1 rfl (OB.ptr b2)) rfl ?_
 refine Ze .plain rfl (D_storeFc (g:=g2) part_BoxRun_1 Try.sizeOf153 rfl b2 rfl r3 fun g5 w5 hs b5 rst hos=>?_)
 have bA:=bA.rest hs rst
 clear rst hos
 have hfr:=hfr.stp hs
 have rp1:=rp1.stp hs
 refine Zb (Zd (Zq h (fun (s:BoxRun) e w=>∃ (g:Gh) ,Fr gI wI g w∧e 4=p2∧OB 2004 g w 164 (s:BoxRun) p2∧OSF 2004 60400 0 g w 3 164 ((s).thrown) p2) (fun X122 uC aE h=>?_) ?_))
 ·refine Zf (Za (Zn up1 rfl rfl ?_))
  refine EL_p (.int .i64 ((x1).length:Int)) (P_len Try.underlying41 rfl rp1) rfl ?_
  refine Zn (.int .i64 (0)) rfl rfl ?_
  refine Zb (Zd (Zr ?_))
  refine E_lp h (fun (s:BoxRun × Int) e w=>∃ (g:Gh) ,Fr gI wI g w∧e 4=p2∧OB 2004 g w 164 (s.1:BoxRun) p2∧OSF 2004 60400 0 g w 3 164 ((s.1).thrown) p2∧e 14=up1∧RV g.m w (x1:List BoxPick) up1∧e 15=.int .i64 (((x1).length:Int))∧e 16=.int .i64 (s.2)) ⟨g5,hfr,rfl,b5,bA,rfl,rp1,rfl,rfl⟩ (fun X123 vC bE=>?_)
  rintro ⟨y6,u3⟩ yG gH ⟨iA,hfr,g8,t5,u4_0_124,a9,l5,d9,k8⟩ h
  refine Zf (Za (EL_in (.bool ((decide (u3 < ((x1).length:Int))))) k8 d9 rfl rfl ?_))
  refine Zb (Zd (Zf ?_))
  rcases Zt h with ⟨k9,h⟩ | ⟨k9,h⟩
  ·refine E_ct k9 rfl ?_
   refine Zu (Zd (Zq h (fun (s:BoxRun) e w=>∃ (g:Gh) ,Fr gI wI g w∧e 4=p2∧OB 2004 g w 164 (s:BoxRun) p2∧OSF 2004 60400 0 g w 3 164 ((s).thrown) p2∧e 14=up1∧RV g.m w (x1:List BoxPick) up1∧e 15=.int .i64 (((x1).length:Int))∧e 16=.int .i64 (u3)) (fun X181 aD iE h=>?_) ?_))
   ·refine Zr ?_
    refine Zf (Za (Zo k8 rfl ?_))
    obtain ⟨bD,lB,h⟩:=bsome h
    refine EL_p (ePtr up1 u3 2) (Zh (α:=BoxPick) Try.underlying41 Try.sizeOf151 a9 l5 k8 lB) rfl ?_
    have zE:=PT_idx l5 lB
    refine Ze .plain rfl (D_load (g:=iA) Try.isAgg151 Try.sizeOf151 rfl zE fun cF rA=>?_)
    refine Ze .plain rfl (D_allocOc (g:=iA) 2008 (⟨0,0⟩:BoxPick) Try.zeroValue151 (fun m w=>⟨_,(rep_two rep_int rep_int),rfl⟩) fun dF iH jH hs b185 cb=>?_)
    have hfr:=hfr.stp hs
    have u4_0_124:=u4_0_124.stp hs rfl
    have t5:=t5.stp hs rfl
    have l5:=l5.stp hs
    have rA:=rA.stp hs
    clear cb
    refine Zg (.int .i64 (u3)) rfl rfl ?_
    refine Ze .plain rfl (D_storeOc (g:=dF) (v:=cF) Try.sizeOf151 rfl b185 rfl rA fun yA kH hs b186 cb=>?_)
    clear cb
    have hfr:=hfr.stp hs
    have u4_0_124:=u4_0_124.stp hs rfl
    have t5:=t5.stp hs rfl
    have l5:=l5.stp hs
    refine Zb (Zd (Zf (Za (EL_p (fPtr p2 1) (Zc at_164_1 g8 (OB.ptr t5)) rfl ?_))))
    refine Ze .plain rfl (D_loadF (g:=yA) part_BoxRun_1.1 Try.isAgg153 Try.sizeOf153 rfl t5 fun eF rF=>?_)
    refine Ze .plain rfl (D_loadO (g:=yA) Try.isAgg151 Try.sizeOf151 rfl b186 fun sF tF=>?_)
    obtain ⟨o0,lE,h⟩:=bsome h
    refine Ze .plain rfl (Zp (g:=yA) (vs:=[eF,sF]) en216 (.cons rfl (.cons rfl .nil)) (wk216 rF tF lE) fun uF zG lH hs hr=>?_)
    have hfr:=hfr.ext hs
    have u4_0_124:=u4_0_124.ext hs
    have t5:=t5.ext hs
    have l5:=l5.ext hs
    obtain ⟨r8,mG,sG,rfl,v8,rfl,rfl⟩:=hr
    refine Zn (.tuple #[r8,.int .i64 (o0.2.1),.int .i64 (o0.2.2)]) rfl rfl ?_
    refine EL_p r8 (Zi rfl rfl) rfl ?_
    refine EL_p (.int .i64 (o0.2.1)) (Zi rfl rfl) rfl ?_
    refine EL_p (.int .i64 (o0.2.2)) (Zi rfl rfl) rfl ?_
    refine Ze .plain rfl (D_allocOc (g:=uF) 2009 (⟨(⟨List.toArray [(⟨List.toArray [0,0,0,0],rfl⟩:Vector Int 4),(⟨List.toArray [0,0,0,0],rfl⟩:Vector Int 4)],rfl⟩:Vector (Vector Int 4) 2),⟨0,0⟩⟩:BoxRace) Try.zeroValue153 (fun m w=>⟨_,(rep_two (rep_vec (flat_chunk (rep_vec (flat_chunk rep_int (flat_chunk rep_int (flat_chunk rep_int (flat_chunk rep_int flat_nil)))) rfl) (flat_chunk (rep_vec (flat_chunk rep_int (flat_chunk rep_int (flat_chunk rep_int (flat_chunk rep_int flat_nil)))) rfl) flat_nil)) rfl) (rep_two rep_int rep_int)),rfl⟩) fun vF mH eD hs b192 cb=>?_)
    have hfr:=hfr.stp hs
    have u4_0_124:=u4_0_124.stp hs rfl
    have t5:=t5.stp hs rfl
    have l5:=l5.stp hs
    have v8:=v8.stp hs
    clear cb
    refine Ze .plain rfl (D_storeOc (g:=vF) (v:=r8) Try.sizeOf153 rfl b192 rfl v8 fun aB xF hs b193 cb=>?_)
    clear cb
    have hfr:=hfr.stp hs
    have u4_0_124:=u4_0_124.stp hs rfl
    have t5:=t5.stp hs rfl
    have l5:=l5.stp hs
    refine Zg (.int .i64 (o0.2.1)) rfl rfl ?_
    refine Zg (.int .i64 (o0.2.2)) rfl rfl ?_
    refine Zb (Zd (Zq h (fun (s:BoxRun) e w=>∃ (g:Gh) ,Fr gI wI g w∧e 4=p2∧OB 2004 g w 164 (s:BoxRun) p2∧OSF 2004 60400 0 g w 3 164 ((s).thrown) p2∧e 9=eD∧OB 2009 g w 153 (o0.1:BoxRace) eD∧e 10=.int .i64 (o0.2.1)∧e 11=.int .i64 (o0.2.2)∧e 14=up1∧RV g.m w (x1:List BoxPick) up1∧e 15=.int .i64 (((x1).length:Int))∧e 16=.int .i64 (u3)) (fun X198 cD mE h=>?_) ?_))
    ·refine Zf (Za (Zn (.int .i64 (o0.2.1)) rfl rfl ?_))
     refine EL_in (.bool ((o0.2.1 == (0:Int)))) rfl rfl rfl rfl ?_
     refine Zb (Zd ?_)
     rcases Zt h with ⟨l9,h⟩ | ⟨l9,h⟩
     ·refine E_ct l9 rfl ?_
      refine Zf (Za ?_)
      have gD:RV aB.m xF (⟨[],⟨(⟨List.toArray [(⟨List.toArray [0,0,0,0],rfl⟩:Vector Int 4),(⟨List.toArray [0,0,0,0],rfl⟩:Vector Int 4)],rfl⟩:Vector (Vector Int 4) 2),⟨0,0⟩⟩,0⟩:BoxRun) (.agg (setCh [[.slice none 0 0],[.int .i64 0,.int .i64 0,.int .i64 0,.int .i64 0,.int .i64 0,.int .i64 0,.int .i64 0,.int .i64 0,.int .i64 0,.int .i64 0],[.int .i64 0]] []).flatten.toArray):=RV_build rfl (rep_pair (rep_nil) (rep_pair ((rep_two (rep_vec (flat_chunk (rep_vec (flat_chunk rep_int (flat_chunk rep_int (flat_chunk rep_int (flat_chunk rep_int flat_nil)))) rfl) (flat_chunk (rep_vec (flat_chunk rep_int (flat_chunk rep_int (flat_chunk rep_int (flat_chunk rep_int flat_nil)))) rfl) flat_nil)) rfl) (rep_two rep_int rep_int))) (rep_last (rep_int))))
      generalize mB:(Value.agg (setCh [[.slice none 0 0],[.int .i64 0,.int .i64 0,.int .i64 0,.int .i64 0,.int .i64 0,.int .i64 0,.int .i64 0,.int .i64 0,.int .i64 0,.int .i64 0],[.int .i64 0]] []).flatten.toArray)=iD at gD
      refine EL_p iD (mB ▸ P_build (vs:=[]) [[.slice none 0 0],[.int .i64 0,.int .i64 0,.int .i64 0,.int .i64 0,.int .i64 0,.int .i64 0,.int .i64 0,.int .i64 0,.int .i64 0,.int .i64 0],[.int .i64 0]] lay_164 rfl rfl .nil trivial) rfl ?_
      refine Zn (.int .i64 (u3)) rfl rfl ?_
      refine Ze .plain rfl (D_storeOc (g:=aB) (v:=iD) Try.sizeOf164 g8 t5 rfl gD fun yF zF hs b201 cb=>?_)
      have xG:OSF 2004 60400 0 yF zF 3 164 ([]:List Int) p2:=cb.osf (by rw [← mB]; rfl)
      clear cb
      have hfr:=hfr.stp hs
      refine Zg (.int .i64 (u3)) rfl rfl ?_
      refine Zg (.int .i64 (9)) rfl rfl ?_
      refine Zb (Zd (E_ret (thn_r ?_)))
      refine blk_r ?_
      refine thn_r ?_
      refine thn_r ?_
      refine blk_r ?_
      refine thn_r ?_
      obtain rfl:=sinj h
      obtain ⟨ad202,cv202,hp202,oE,cr202⟩:=ob_read Try.isAgg164 Try.sizeOf164 b201
      exact endm_ctt rfl rfl ((show _=p2 from g8).trans hp202) oE (show _=.int .i64 (u3) from rfl) (show _=.int .i64 (9) from rfl) ⟨_,hfr,_,_,_,rfl,cr202,rfl,rfl⟩
     ·refine E_cf l9 rfl ?_
      exact Zu (Zd (mE (y6) _ _ ⟨aB,hfr,g8,t5,u4_0_124,rfl,b193,rfl,rfl,a9,l5,d9,k8⟩ h))
    ·rintro x5 aH aG ⟨bG, hfr, m8, x6, u4_0_203, jD, lD, oB, tB, vB, i7, yB, zB⟩ h
     refine L_loadFS (x:=.tmp 33) part_BoxRun_0.1 Try.isAgg26 Try.sizeOf26 x6 u4_0_203 fun nD cG o210 rE=>?_
     obtain ⟨i6,uE,h⟩:=bsome h
     refine L_loadO0 (x:=.tmp 9) Try.isAgg153 Try.sizeOf153 lD fun n9 u9 vE=>?_
     refine L_loadO (x:=.tmp 39) part_BoxRun_2.1 Try.isAgg3 Try.sizeOf3 x6 fun nH eG xE=>?_
     obtain rfl:=Zj.1 eG
     refine E_drawAS (g:=bG) (w:=aG) (i:=60400) (et:=3) (xs:=((x5).thrown:List Int)) (r:=i6) (u:=nD) cG o210 (n:=10) [(3,(fun v g w=>RV g.m w ([o0.2.1]:List Int) v∧OS 3036 g w 3 ([o0.2.1]:List Int) v∧FullV v)),(4,(fun v g w=>RV g.m w i6 v∧OS 60400 g w 3 i6 v))] [0,1,2,3,4,5,6,7,8,9] rfl mixed (by kernel_rfl) (⟨fun _=>up_and upS_rv (up_and upS_os (upS_eq _)),fun _=>up_as,trivial⟩) ?_
     refine L_p (fPtr p2 0) rfl rfl (Zc at_164_0 m8 (OB.ptr x6)) ?_
     refine L_ld (c:=nD) rfl rfl .plain (fun _ _ h=>⟨h.1.ch,fun b hb ho=>h.1.block b hb (by rw [ho]; decide)⟩) rE rfl ?_
     refine L_p (.int .i64 (o0.2.1)) rfl rfl (Zk oB) ?_
     refine L_do (φ:=fun v g w=>RV g.m w ([o0.2.1]:List Int) v∧OS 3036 g w 3 ([o0.2.1]:List Int) v∧FullV v) rfl rfl .plain (fun g w hd=>D_buildSlice (g:=g) 3036 (xs:=([o0.2.1]:List Int)) (vs:=[.int .i64 (o0.2.1)]) Try.underlying26 Try.sizeOf3 Try.zeroValue3 rfl rfl (.cons rfl .nil) (RVs.cons (Zj.2 rfl) RVs.nil) rfl rfl fun g' w' v hs o r hxt hfl=>⟨g',as_ext hxt,r,o,hfl⟩) (fun m7 hv=>?_)
     clear hv
     refine L_do (φ:=fun v g w=>RV g.m w i6 v∧OS 60400 g w 3 i6 v) rfl rfl .plain (fun g w hd=>D_appendS (g:=g) det_int rfl Try.underlying26 info_3 rfl rfl hd.1.2 rfl (word (A:=fun g w=>RV g.m w ([o0.2.1]:List Int) m7∧OS 3036 g w 3 ([o0.2.1]:List Int) m7∧FullV m7) 3 rfl rfl (deps_of hd)).1 uE) (fun l8 hv=>?_)
     clear hv
     refine L_ld (c:=n9) rfl rfl .plain (fun _ _ h=>⟨h.1.ch,fun b hb ho=>h.1.block b hb (by rw [ho]; decide)⟩) vE jD ?_
     refine L_p (fPtr p2 11) rfl rfl (Zc at_164_2 m8 (OB.ptr x6)) ?_
     refine L_ld (c:=.int .i64 ((x5).moves)) rfl rfl .plain (fun _ _ h=>⟨h.1.ch,fun b hb ho=>h.1.block b hb (by rw [ho]; decide)⟩) xE rfl ?_
     refine L_p (.int .i64 (o0.2.2)) rfl rfl (Zk tB) ?_
     refine L_p (.int .i64 ((w64 ((x5).moves + o0.2.2)))) rfl rfl (P_int rfl rfl rfl) ?_
     refine L_nil fun oD oH hall=>?_
     have hs:=hall.1.1
     have hfr:=hfr.stp hs
     have x6:=x6.stp hs rfl
     have i7:=i7.stp hs
     have u9:=u9.stp hs
     have pH:=(word_all (A:=fun g w=>RV g.m w ([o0.2.1]:List Int) m7∧OS 3036 g w 3 ([o0.2.1]:List Int) m7∧FullV m7) 3 rfl hall).1
     have o228:=(word_all (A:=fun g w=>RV g.m w ([o0.2.1]:List Int) m7∧OS 3036 g w 3 ([o0.2.1]:List Int) m7∧FullV m7) 3 rfl hall).2.1
     have dB:=(word_all (A:=fun g w=>RV g.m w i6 l8∧OS 60400 g w 3 i6 l8) 4 rfl hall).1
     have o229:=(word_all (A:=fun g w=>RV g.m w i6 l8∧OS 60400 g w 3 i6 l8) 4 rfl hall).2
     clear hs hall
     have sD:RV oD.m _ (⟨i6,o0.1,(w64 ((x5).moves + o0.2.2))⟩:BoxRun) (.agg (setCh [[.slice none 0 0],[.int .i64 0,.int .i64 0,.int .i64 0,.int .i64 0,.int .i64 0,.int .i64 0,.int .i64 0,.int .i64 0,.int .i64 0,.int .i64 0],[.int .i64 0]] [(0,l8),(1,n9),(2,.int .i64 ((w64 ((x5).moves + o0.2.2))))]).flatten.toArray):=RV_build rfl (rep_pair (RV.cells dB) (rep_pair (RV.cells u9) (rep_last (rfl))))
     generalize nB:(Value.agg (setCh [[.slice none 0 0],[.int .i64 0,.int .i64 0,.int .i64 0,.int .i64 0,.int .i64 0,.int .i64 0,.int .i64 0,.int .i64 0,.int .i64 0,.int .i64 0],[.int .i64 0]] [(0,l8),(1,n9),(2,.int .i64 ((w64 ((x5).moves + o0.2.2))))]).flatten.toArray)=tD at sD
     refine EL_p tD (nB ▸ P_build (vs:=[(0,l8),(1,n9),(2,.int .i64 ((w64 ((x5).moves + o0.2.2))))]) [[.slice none 0 0],[.int .i64 0,.int .i64 0,.int .i64 0,.int .i64 0,.int .i64 0,.int .i64 0,.int .i64 0,.int .i64 0,.int .i64 0,.int .i64 0],[.int .i64 0]] lay_164 rfl rfl (.cons rfl (.cons rfl (.cons rfl .nil))) ⟨⟨_,rfl,cells_size dB⟩,⟨⟨_,rfl,cells_size u9⟩,⟨⟨_,rfl,rfl⟩,trivial⟩⟩⟩) rfl ?_
     refine Ze .plain rfl (D_storeOc (g:=oD) (v:=tD) Try.sizeOf164 m8 x6 rfl sD fun uD gG hs b236 cb=>?_)
     obtain ⟨kG,lG,iB,_,_⟩:=RV_list dB
     have vD:OSF 2004 60400 0 uD gG 3 164 (i6:List Int) p2:=cb.osfv (by rw [← nB,iB]; rfl) (o229.stp hs rfl)
     clear cb
     have hfr:=hfr.stp hs
     have i7:=i7.stp hs
     exact Zb (blk_n (Zd (iE ((⟨i6,o0.1,(w64 ((x5).moves + o0.2.2))⟩:BoxRun)) _ _ ⟨uD,hfr,m8,b236,vD,vB,i7,yB,zB⟩ h)))
   ·rintro n8 cH qH ⟨hG, hfr, xD, yD, u4_0_237, cC, mC, qC, rC⟩ h
    refine Za (EL_in (.int .i64 ((w64 (u3 + (1:Int))))) rC rfl rfl rfl ?_)
    refine Zn (.int .i64 ((w64 (u3 + (1:Int))))) rfl rfl ?_
    exact Zb (Zd (bE (n8,(w64 (u3 + (1:Int)))) _ _ ⟨hG,hfr,xD,yD,u4_0_237,cC,mC,qC,rfl⟩ h))
  ·refine E_cf k9 rfl ?_
   refine E_exit ?_
   refine thn_e ?_
   refine thn_e ?_
   refine blk_hit ?_
   exact Zd (aE (y6) _ _ ⟨iA,hfr,g8,t5,u4_0_124⟩ h)
 ·rintro y9 dH sH ⟨zD, hfr, x8, z9, u4_0_238⟩ h
  refine Zf (Za (Ze .plain rfl (D_loadO (g:=zD) Try.isAgg164 Try.sizeOf164 x8 z9 fun iG jG=>?_)))
  refine Ze .plain rfl (D_storeOc (g:=zD) (v:=iG) Try.sizeOf164 x8 z9 rfl jG fun tH uH hs b240 cb=>?_)
  clear cb
  have hfr:=hfr.stp hs
  refine Zg (.int .i64 (0)) rfl rfl ?_
  refine Zg (.int .i64 (0)) rfl rfl ?_
  refine Zb (Zd (E_ret ?_))
  obtain rfl:=sinj h
  obtain ⟨ad241,cv241,hp241,yE,cr241⟩:=ob_read Try.isAgg164 Try.sizeOf164 b240
  exact endm_ctt rfl rfl ((show _=p2 from x8).trans hp241) yE (show _=.int .i64 (0) from rfl) (show _=.int .i64 (0) from rfl) ⟨_,hfr,_,_,_,rfl,cr241,rfl,rfl⟩
def f154 (x0:List Int):Option (Bool):=
 (f155 ((1:Int)) ((100:Int)) x0).bind fun y2=>
 some (y2)
theorem en154:Enters Try.prog 154:=enters_of Try.func154 (by kernel_rfl) rfl
theorem wk154 {gI:Gh} {wI:World} {x0:List Int} {up0:Value} (rp0:RV gI.m wI x0 up0) {r:Bool} (h:f154 x0=some r):Fn Try.prog 154 #[up0] gI wI (fun _ _ v=>v=.bool (r)):=by
 unfold f154 at h
 refine fn_of_E Try.func154 rfl (Nat.le_of_ble_eq_true rfl) fun g0 hm hfr=>?_
 have rp0:RV g0.m wI x0 up0:=hm ▸ rp0
 show E _ 5 none _ _ _ _ _
 refine Zf (Za (Zg (.bool false) rfl rfl ?_))
 refine Zb (Zd (Zf (Za (Zn up0 rfl rfl ?_))))
 obtain ⟨y2,hy2,h⟩:=bsome h
 refine Ze .plain rfl (Zp (g:=g0) (vs:=[.int .i64 (1),.int .i64 (100),up0]) en155 (.cons rfl (.cons rfl (.cons rfl .nil))) (wk155 rp0 hy2) fun g1 w1_ v1 hs hr=>?_)
 have hfr:=hfr.ext hs
 subst hr
 refine Zg (.bool (y2)) rfl rfl ?_
 refine Zb (Zd (E_ret ?_))
 obtain rfl:=sinj h
 exact end1 rfl rfl (show _=.bool (y2) from rfl) ⟨_,hfr,rfl⟩
end Go.Proofs.Ytpckllcdlpoieaa
