import Derived.Test.YtbelgnbjkciafaaGreatDoorTypes
import Derived.Test.YtbelgnbjkciafaaGreatDoorIt
import Derived.Test.YtbelgnbjkciafaaGreatDoorShelf
set_option maxRecDepth 8000
set_option maxHeartbeats 4000000
namespace Go.Proofs.YtbelgnbjkciafaaGreatDoor
open Go.RowKit
theorem info_9:(Tryz.prog.info? 9).map (fun i=>(i.zero,i.size,i.bytes))=some (some (Str.v ⟨[]⟩),1,16):=by kernel_rfl
theorem info_5:(Tryz.prog.info? 5).map (fun i=>(i.zero,i.size,i.bytes))=some (some (.int .u8 0),1,1):=by kernel_rfl
theorem lay_63:layoutOf Tryz.prog 63=some ([.int .i64 0,.int .i64 0,.int .i64 0,.int .i64 0,.int .i64 0],[(0,1),(1,1),(2,1),(3,1),(4,1)]):=by kernel_rfl
theorem mixed:Tryz.prog.follows .mixedOrders=true:=by kernel_rfl
theorem info_63:(Tryz.prog.info? 63).map (fun i=>(i.zero,i.size,i.bytes))=some (some (.agg #[.int .i64 0,.int .i64 0,.int .i64 0,.int .i64 0,.int .i64 0]),5,40):=by kernel_rfl
theorem lay_69:layoutOf Tryz.prog 69=some ([.int .i64 0,.int .i64 0],[(0,1),(1,1)]):=by kernel_rfl
theorem lay_37:layoutOf Tryz.prog 37=some ([.int .i64 0,.int .i64 0,.slice none 0 0,.int .i64 0],[(0,1),(1,1),(2,1),(3,1)]):=by kernel_rfl
theorem endm_c {P:Program} {e:Env} {ds:List Deferred} {w:World} {fn:Func} {R:Value→World→Prop} {t0:Tmp} {v0:Value} {y0:TypeId} {a0:Addr} (hres:fn.results=#[.cell t0 y0]) (hd:ds=[]) (h0:e t0=.pointer (some a0)) (l0:(loadVar y0 a0).run P w=.ok v0 w) (h:R v0 w):atEnd P fn R .ret e ds w:=
 ⟨hd,fun tmps ht=>⟨_,by simp [results,hres,ht,asAddr,h0,l0],h⟩⟩
theorem lay_85:layoutOf Tryz.prog 85=some ([.int .i64 0,.slice none 0 0],[(0,1),(1,1)]):=by kernel_rfl
theorem lay_87:layoutOf Tryz.prog 87=some ([.int .i64 0,.int .i64 0,.bool false],[(0,1),(1,1),(2,1)]):=by kernel_rfl
theorem info_87:(Tryz.prog.info? 87).map (fun i=>(i.zero,i.size,i.bytes))=some (some (.agg #[.int .i64 0,.int .i64 0,.bool false]),3,24):=by kernel_rfl
theorem info_69:(Tryz.prog.info? 69).map (fun i=>(i.zero,i.size,i.bytes))=some (some (.agg #[.int .i64 0,.int .i64 0]),2,16):=by kernel_rfl
theorem lay_27:layoutOf Tryz.prog 27=some ([.int .i64 0,.slice none 0 0],[(0,1),(1,1)]):=by kernel_rfl
theorem lay_90:layoutOf Tryz.prog 90=some ([Str.v ⟨[]⟩,.int .i64 0,.slice none 0 0],[(0,1),(1,2)]):=by kernel_rfl
theorem lay_92:layoutOf Tryz.prog 92=some ([Str.v ⟨[]⟩,.int .i64 0,.slice none 0 0],[(0,1),(1,2)]):=by kernel_rfl
theorem lay_50:layoutOf Tryz.prog 50=some ([.slice none 0 0,.slice none 0 0],[(0,1),(1,1)]):=by kernel_rfl
theorem lay_29:layoutOf Tryz.prog 29=some ([.int .i64 0,.slice none 0 0],[(0,1),(1,1)]):=by kernel_rfl
theorem info_3:(Tryz.prog.info? 3).map (fun i=>(i.zero,i.size,i.bytes))=some (some (.int .i64 0),1,8):=by kernel_rfl
theorem plain_BookCloth:Plain BookCloth:=fun _ m' _ w' x _ h=>(plain_two plain_int (plain_two plain_int (plain_two plain_int (plain_two plain_int plain_int)))) _ m' _ w' _ _ h
theorem capf_0_2 {e:Env} {f:FuncId} {o0:Operand} {l5:Operand} {b0:Value} {b1:Value} (hb0:ev e o0=b0) (hb1:ev e l5=b1):(Value.func (.func f) ((#[]:Array Operand).map (ev e)) ((#[o0,l5]:Array Operand).map (ev e)))=.func (.func f) #[] #[b0,b1]:=by simp [hb0,hb1]
theorem lay_97:layoutOf Tryz.prog 97=some ([.int .i64 0,.int .i64 0],[(0,1),(1,1)]):=by kernel_rfl
theorem lay_99:layoutOf Tryz.prog 99=some ([.int .i64 0,.int .i64 0],[(0,2)]):=by kernel_rfl
theorem lay_56:layoutOf Tryz.prog 56=some ([.int .i64 0,.int .i64 0],[(0,1),(1,1)]):=by kernel_rfl
theorem layA_116:((Tryz.prog.info? 116).bind (·.zero)).map (·.cells.toList)=some [.int .u8 0,.int .u8 0,.int .u8 0,.int .u8 0,.int .u8 0,.int .u8 0,.int .u8 0,.int .u8 0]:=by kernel_rfl
theorem szA_5:(Tryz.prog.info? 5).map (·.size)=some 1:=by kernel_rfl
theorem endm_ccc {P:Program} {e:Env} {ds:List Deferred} {w:World} {fn:Func} {R:Value→World→Prop} {t0:Tmp} {v0:Value} {y0:TypeId} {a0:Addr} {t1:Tmp} {v1:Value} {y1:TypeId} {a1:Addr} {t2:Tmp} {v2:Value} {y2:TypeId} {a2:Addr} (hres:fn.results=#[.cell t0 y0,.cell t1 y1,.cell t2 y2]) (hd:ds=[]) (h0:e t0=.pointer (some a0)) (l0:(loadVar y0 a0).run P w=.ok v0 w) (h1:e t1=.pointer (some a1)) (l1:(loadVar y1 a1).run P w=.ok v1 w) (h2:e t2=.pointer (some a2)) (l2:(loadVar y2 a2).run P w=.ok v2 w) (h:R (.tuple #[v0,v1,v2]) w):atEnd P fn R .ret e ds w:=
 ⟨hd,fun tmps ht=>⟨_,by simp [results,hres,ht,asAddr,h0,l0,h1,l1,h2,l2],h⟩⟩
theorem lay_150:layoutOf Tryz.prog 150=some ([.int .i64 0,.int .i64 0,.int .i64 0],[(0,1),(1,1),(2,1)]):=by kernel_rfl
theorem lay_171:layoutOf Tryz.prog 171=some ([.int .i64 0,.slice none 0 0,.int .i64 0],[(0,2),(2,1)]):=by kernel_rfl
theorem capf_0_1 {e:Env} {f:FuncId} {o0:Operand} {b0:Value} (hb0:ev e o0=b0):(Value.func (.func f) ((#[]:Array Operand).map (ev e)) ((#[o0]:Array Operand).map (ev e)))=.func (.func f) #[] #[b0]:=by simp [hb0]
theorem lay_31:layoutOf Tryz.prog 31=some ([.int .i64 0,.slice none 0 0,.int .i64 0,.slice none 0 0],[(0,2),(2,2)]):=by kernel_rfl
theorem endm_ct {P:Program} {e:Env} {ds:List Deferred} {w:World} {fn:Func} {R:Value→World→Prop} {t0:Tmp} {v0:Value} {y0:TypeId} {a0:Addr} {t1:Tmp} {v1:Value} (hres:fn.results=#[.cell t0 y0,.tmp t1]) (hd:ds=[]) (h0:e t0=.pointer (some a0)) (l0:(loadVar y0 a0).run P w=.ok v0 w) (h1:e t1=v1) (h:R (.tuple #[v0,v1]) w):atEnd P fn R .ret e ds w:=
 ⟨hd,fun tmps ht=>⟨_,by simp [results,hres,ht,asAddr,h0,l0,h1],h⟩⟩
theorem lay_187:layoutOf Tryz.prog 187=some ([.int .i64 0,.slice none 0 0],[(0,2)]):=by kernel_rfl
theorem lay_108:layoutOf Tryz.prog 108=some ([.int .i64 0,.int .i64 0,.int .i64 0,.int .i64 0,.int .i64 0,.int .i64 0,.int .i64 0,.int .i64 0],[(0,2),(2,2),(4,2),(6,2)]):=by kernel_rfl
theorem fl_97 : Tryz.prog.fieldsOf 97 = #[{ name := "Num", type := 3, offset := 0, embedded := false, tag := "", pkgPath := "", byteOffset := 0 }, { name := "Den", type := 3, offset := 1, embedded := false, tag := "", pkgPath := "", byteOffset := 8 }] := by kernel_rfl
theorem seq_97:SEq (α:=Ratio) Tryz.prog 97:=by
 intro d x y w a b m wx m2 wy hx hy
 obtain ⟨_,⟨_,_,rfl,rfl,rfl⟩,rfl⟩:=hx
 obtain ⟨_,⟨_,_,rfl,rfl,rfl⟩,rfl⟩:=hy
 refine (run_equalIn_struct w (d + 1) 97 _ _ (by kernel_rfl) (by kernel_rfl)).trans ?_
 rw [fl_97]
 obtain ⟨x0,x1⟩:=x
 obtain ⟨y0,y1⟩:=y
 show (Op.eqFields (d + 1) #[.int .i64 (x0),.int .i64 (x1)] #[.int .i64 (y0),.int .i64 (y1)] _).run _ _=_
 have x0p:(part 3 #[.int .i64 (x0),.int .i64 (x1)] 0).run Tryz.prog w=.ok (.int .i64 (x0)) w:=part_one Tryz.isAgg3 rfl
 have x1p:(part 3 #[.int .i64 (x0),.int .i64 (x1)] 1).run Tryz.prog w=.ok (.int .i64 (x1)) w:=part_one Tryz.isAgg3 rfl
 have y0p:(part 3 #[.int .i64 (y0),.int .i64 (y1)] 0).run Tryz.prog w=.ok (.int .i64 (y0)) w:=part_one Tryz.isAgg3 rfl
 have y1p:(part 3 #[.int .i64 (y0),.int .i64 (y1)] 1).run Tryz.prog w=.ok (.int .i64 (y1)) w:=part_one Tryz.isAgg3 rfl
 simp only [Op.eqFields,Sem.run_bind,Sem.run_ite,Sem.run_pure,x0p,x1p,y0p,y1p,Result.andThen_ok,run_equalIn_int _ _ _ _ _ _ _ Tryz.underlying3]
 simp
 grind
theorem eg_97:Tryz.prog.eqGuardType Tryz.prog.depth 97=false:=by kernel_rfl
theorem info_33:(Tryz.prog.info? 33).map (fun i=>(i.zero,i.size,i.bytes))=some (some (.slice none 0 0),1,24):=by kernel_rfl
theorem pl_134:Pl BookSpot:=Pl.of (Pl.prod Pl.int Pl.int)
theorem fl_134 : Tryz.prog.fieldsOf 134 = #[{ name := "day", type := 3, offset := 0, embedded := false, tag := "", pkgPath := "griffe/book", byteOffset := 0 }, { name := "loom", type := 3, offset := 1, embedded := false, tag := "", pkgPath := "griffe/book", byteOffset := 8 }] := by kernel_rfl
theorem eqd_134:EqD Tryz.prog BookSpot 2 134:=EqD.struct rfl (by kernel_rfl) (by kernel_rfl) (by rw [fl_134]; exact (FEq.cons (by decide) (part_BookSpot_0).1 Tryz.isAgg3 Tryz.sizeOf3 (EqD.int Tryz.underlying3) (FEq.cons (by decide) (part_BookSpot_1).1 Tryz.isAgg3 Tryz.sizeOf3 (EqD.int Tryz.underlying3) FEq.nil))) (fun x y=>by cases x; cases y; simp)
theorem ckd_134:CkD Tryz.prog BookSpot 2 134:=CkD.struct rfl Tryz.underlying134 fun f hf=>by
 simp only [List.mem_cons,List.not_mem_nil,or_false] at hf
 rcases hf with rfl | rfl
 ·exact ⟨by decide,_,_,_,(part_BookSpot_0).1,Tryz.isAgg3,Tryz.sizeOf3,(CkD.int Tryz.underlying3)⟩
 ·exact ⟨by decide,_,_,_,(part_BookSpot_1).1,Tryz.isAgg3,Tryz.sizeOf3,(CkD.int Tryz.underlying3)⟩
theorem key_134:KeyLaw Tryz.prog 134 (encK pl_134):=keyLaw_pl pl_134 (by rw [Tryz.underlying134]) rfl eqd_134 ckd_134 (by decide)
theorem lay_134:layoutOf Tryz.prog 134=some ([.int .i64 0,.int .i64 0],[(0,1),(1,1)]):=by kernel_rfl
theorem fl_63 : Tryz.prog.fieldsOf 63 = #[{ name := "Day", type := 3, offset := 0, embedded := false, tag := "", pkgPath := "", byteOffset := 0 }, { name := "Loom", type := 3, offset := 1, embedded := false, tag := "", pkgPath := "", byteOffset := 8 }, { name := "Chain", type := 3, offset := 2, embedded := false, tag := "", pkgPath := "", byteOffset := 16 }, { name := "Tie", type := 3, offset := 3, embedded := false, tag := "", pkgPath := "", byteOffset := 24 }, { name := "Picks", type := 3, offset := 4, embedded := false, tag := "", pkgPath := "", byteOffset := 32 }] := by kernel_rfl
theorem seq_63:SEq (α:=BookCloth) Tryz.prog 63:=by
 intro d x y w a b m wx m2 wy hx hy
 obtain ⟨_,⟨_,_,rfl,rfl,⟨_,_,rfl,rfl,⟨_,_,rfl,rfl,⟨_,_,rfl,rfl,rfl⟩⟩⟩⟩,rfl⟩:=hx
 obtain ⟨_,⟨_,_,rfl,rfl,⟨_,_,rfl,rfl,⟨_,_,rfl,rfl,⟨_,_,rfl,rfl,rfl⟩⟩⟩⟩,rfl⟩:=hy
 refine (run_equalIn_struct w (d + 1) 63 _ _ (by kernel_rfl) (by kernel_rfl)).trans ?_
 rw [fl_63]
 obtain ⟨x0,x1,x2,x3,x4⟩:=x
 obtain ⟨y0,y1,y2,y3,y4⟩:=y
 show (Op.eqFields (d + 1) #[.int .i64 (x0),.int .i64 (x1),.int .i64 (x2),.int .i64 (x3),.int .i64 (x4)] #[.int .i64 (y0),.int .i64 (y1),.int .i64 (y2),.int .i64 (y3),.int .i64 (y4)] _).run _ _=_
 have x0p:(part 3 #[.int .i64 (x0),.int .i64 (x1),.int .i64 (x2),.int .i64 (x3),.int .i64 (x4)] 0).run Tryz.prog w=.ok (.int .i64 (x0)) w:=part_one Tryz.isAgg3 rfl
 have x1p:(part 3 #[.int .i64 (x0),.int .i64 (x1),.int .i64 (x2),.int .i64 (x3),.int .i64 (x4)] 1).run Tryz.prog w=.ok (.int .i64 (x1)) w:=part_one Tryz.isAgg3 rfl
 have x2p:(part 3 #[.int .i64 (x0),.int .i64 (x1),.int .i64 (x2),.int .i64 (x3),.int .i64 (x4)] 2).run Tryz.prog w=.ok (.int .i64 (x2)) w:=part_one Tryz.isAgg3 rfl
 have x3p:(part 3 #[.int .i64 (x0),.int .i64 (x1),.int .i64 (x2),.int .i64 (x3),.int .i64 (x4)] 3).run Tryz.prog w=.ok (.int .i64 (x3)) w:=part_one Tryz.isAgg3 rfl
 have x4p:(part 3 #[.int .i64 (x0),.int .i64 (x1),.int .i64 (x2),.int .i64 (x3),.int .i64 (x4)] 4).run Tryz.prog w=.ok (.int .i64 (x4)) w:=part_one Tryz.isAgg3 rfl
 have y0p:(part 3 #[.int .i64 (y0),.int .i64 (y1),.int .i64 (y2),.int .i64 (y3),.int .i64 (y4)] 0).run Tryz.prog w=.ok (.int .i64 (y0)) w:=part_one Tryz.isAgg3 rfl
 have y1p:(part 3 #[.int .i64 (y0),.int .i64 (y1),.int .i64 (y2),.int .i64 (y3),.int .i64 (y4)] 1).run Tryz.prog w=.ok (.int .i64 (y1)) w:=part_one Tryz.isAgg3 rfl
 have y2p:(part 3 #[.int .i64 (y0),.int .i64 (y1),.int .i64 (y2),.int .i64 (y3),.int .i64 (y4)] 2).run Tryz.prog w=.ok (.int .i64 (y2)) w:=part_one Tryz.isAgg3 rfl
 have y3p:(part 3 #[.int .i64 (y0),.int .i64 (y1),.int .i64 (y2),.int .i64 (y3),.int .i64 (y4)] 3).run Tryz.prog w=.ok (.int .i64 (y3)) w:=part_one Tryz.isAgg3 rfl
 have y4p:(part 3 #[.int .i64 (y0),.int .i64 (y1),.int .i64 (y2),.int .i64 (y3),.int .i64 (y4)] 4).run Tryz.prog w=.ok (.int .i64 (y4)) w:=part_one Tryz.isAgg3 rfl
 simp only [Op.eqFields,Sem.run_bind,Sem.run_ite,Sem.run_pure,x0p,x1p,x2p,x3p,x4p,y0p,y1p,y2p,y3p,y4p,Result.andThen_ok,run_equalIn_int _ _ _ _ _ _ _ Tryz.underlying3]
 simp
 grind
theorem eg_63:Tryz.prog.eqGuardType Tryz.prog.depth 63=false:=by kernel_rfl
def f80 (x0:List Str):Option (List Str):=apnd 16 [] x0
theorem en80:Enters Tryz.prog 80:=enters_of Tryz.func80 (by kernel_rfl) rfl
theorem wk80 {gI:Gh} {wI:World} {x0:List Str} {up0:Value} (rp0:RV gI.m wI x0 up0) {r:List Str} (h:f80 x0=some r):Fn Tryz.prog 80 #[up0] gI wI (fun m w v=>RV m w r v):=by
 unfold f80 at h
 refine fn_of_E Tryz.func80 rfl (Nat.le_of_ble_eq_true rfl) fun g0 hm hfr=>?_
 have rp0:RV g0.m wI x0 up0:=hm ▸ rp0
 show E _ 8 none _ _ _ _ _
 refine E_seq (E_region (EL_at (.slice none 0 0) rfl rfl (EL_nil (thn_n ?_))))
 refine E_seq (E_seq (E_region (EL_mw up0 rfl rfl ?_)))
 obtain ⟨a,c,hv,hc,hrow⟩:=RV_list rp0
 refine EL_p (.bool a.isNone) (P_slnil Tryz.underlying54 (show ev _ _=_ from hv)) rfl (EL_nil (thn_n ?_))
 cases a with
 | none=>
  have hx:x0=[]:=by
   cases x0 with
   | nil=>rfl
   | cons y ys=>obtain ⟨b,off,hb,_⟩:=hrow (by simp); cases hb
  subst hx
  have hr:r=[]:=by unfold apnd at h; split at h <;> simp at h; exact h
  subst hr
  refine E_cond_true rfl (E_seq (E_region ?_))
  refine EL_at (.slice none 0 0) rfl rfl (EL_nil (thn_n ?_))
  exact E_ret (thn_r (end1 rfl rfl (show _=.slice none 0 0 from rfl) ⟨_,hfr,RV_nil⟩))
 | some a=>
  refine E_cond_false rfl (E_skip (thn_n ?_))
  refine E_seq (E_region (EL_do .plain rfl (D_buildSlice (g:=g0) 1 (xs:=([]:List Str)) (vs:=[]) Tryz.underlying54 Tryz.sizeOf9 Tryz.zeroValue9 rfl rfl .nil RVs.nil rfl rfl fun g1 w1 v1 hs o1 r1 hxt hfl=>?_)))
  have hfr:=hfr.stp hs
  have rp0:=rp0.stp hs
  refine EL_mw up0 rfl rfl ?_
  refine EL_do .plain rfl (D_append (g:=g1) (i:=1) Tryz.underlying54 info_9 rfl rfl o1 r1 rfl rp0 h fun g2 w2 v2 hs o2 r2 _=>?_)
  have hfr:=hfr.stp hs
  refine EL_at v2 rfl rfl (EL_nil (thn_n ?_))
  exact E_ret (end1 rfl rfl (show _=v2 from rfl) ⟨_,hfr,r2⟩)
theorem atS_0 (a:Addr) (w:World):(Instr.fieldAt 156 (.pointer (some a)) 0).run Tryz.prog w=.ok (.pointer (some (a.add 0))) w:=by simp [Instr.fieldAt,run_underlying Tryz.underlying156,Instr.sureAddr,fieldPlace,Result.andThen]
theorem atS_1 (a:Addr) (w:World):(Instr.fieldAt 156 (.pointer (some a)) 1).run Tryz.prog w=.ok (.pointer (some (a.add 1))) w:=by simp [Instr.fieldAt,run_underlying Tryz.underlying156,Instr.sureAddr,fieldPlace,Result.andThen]
theorem sb_size:(Tryz.prog.info? 156).map (·.size)=some 2:=by kernel_rfl
theorem sb_psize:∃ j,Tryz.prog.info? 156=some j∧j.size=2:=Option.map_eq_some_iff.1 sb_size
theorem en126:Enters Tryz.prog 126:=enters_of Tryz.func126 (by kernel_rfl) rfl
theorem ob_shape {i:Nat} {g:Gh} {w:World} {x:Fv × List UInt8} {b o:Nat} (hb:OB i g w 156 x (.pointer (some ⟨b,o,none⟩))):o=0∧w.shape? b=some (156,2):=by
 obtain ⟨b',cs,hp,_,_,hh,hr⟩:=hb
 injection hp with hp; injection hp with hp; injection hp with h1 h2
 subst h1; subst h2
 have hl:=GoT.len hr
 simp [GoT.k] at hl
 exact ⟨rfl,by simp [World.shape?,hh,hl]⟩
theorem wk126 {i j : Nat} (hji : Nat.beq j i = false) {g : Gh} {w : World} {a : Fv} {xs : List UInt8} {p : Value} (hb : OB i g w 156 (a, xs) p) (ho : OSF i j 1 g w 5 156 xs p) (ha : a.v = .pointer none ∨ a.v = p) :
  Calls Tryz.prog 126 #[p] w fun r w'=>∃ v,r=.returned v∧∃ g',Stp i g w g' w'∧∃ a':Fv,a'.v=p∧OB i g' w' 156 (a',xs) p∧OSF i j 1 g' w' 5 156 xs p:=by
 obtain ⟨b,o,rfl⟩:=hb.ptr
 obtain ⟨hoff,hsh⟩:=ob_shape hb
 subst hoff
 obtain ⟨jt,hj,hjs⟩:=sb_psize
 refine calls_of_E Tryz.func126 rfl (Nat.le_of_ble_eq_true rfl) ?_
 show E _ 20 none _ _ _ _ _
 refine E_seq (E_region (EL_mw (.pointer (some ⟨b,0,none⟩)) rfl rfl ?_))
 refine EL_p (.pointer (some ⟨b,0,none⟩)) (P_nilCheck rfl) rfl ?_
 refine EL_p (fPtr (.pointer (some ⟨b,0,none⟩)) 0) (P_fieldAddr atS_0 rfl ⟨b,0,rfl⟩) rfl ?_
 refine EL_do .plain rfl (D_loadF (g:=g) (a:=(a,xs)) Sub.fst Tryz.isAgg154 Tryz.sizeOf154 rfl hb fun v r=>?_)
 obtain rfl:=RV_fv.1 r
 rcases ha with ha | ha
 ·refine EL_p (.bool true) (P_ptreq (u2 := .pointer none) (.inl rfl) (show _ = .pointer none from ha) rfl ⟨_, rfl⟩ ⟨_, rfl⟩ (fun w => by simpa using run_eql_pointer_nil (P := Tryz.prog) w 154 none Tryz.underlying154)) rfl ?_
  refine EL_nil (thn_n (E_cond_true rfl (E_region ?_)))
  refine EL_mw (.pointer (some ⟨b,0,none⟩)) rfl rfl ?_
  refine EL_mw (.pointer (some ⟨b,0,none⟩)) rfl rfl ?_
  refine EL_val (v:=.pointer (some ⟨b,0,none⟩)) (w':=w) .plain (fun _ h=>by cases h) rfl (by
   have:=Lib.run_to_unsafe w ⟨b,0,none⟩ Tryz.underlying154 Tryz.underlying236 hj (by rw [hjs]; decide) hsh (by show 0 < 2; omega)
   show (Sem.run _ (execOp _ _) _)=_
   simp only [execOp,Sem.run_bind]
   rw [show ev _ (Operand.tmp 8)=Value.pointer (some ⟨b,0,none⟩) from rfl,this]
   rfl) ?_
  refine EL_p (.pointer (some ⟨b,0,none⟩)) (P_extern Tryz.func141 (by kernel_rfl) (by kernel_rfl) (by kernel_rfl) (ex:=Extern.AbiNoEscape.same) (by kernel_rfl) (.cons rfl .nil) (fun _=>rfl)) rfl ?_
  refine EL_val (v:=.pointer (some ⟨b,0,none⟩)) (w':=w) .plain (fun _ h=>by cases h) rfl (by
   have:=Lib.run_from_unsafe w ⟨b,0,none⟩ Tryz.underlying236 Tryz.underlying154 hj hsh (by kernel_rfl)
   show (Sem.run _ (execOp _ _) _)=_
   simp only [execOp,Sem.run_bind]
   rw [show ev _ (Operand.tmp 10)=Value.pointer (some ⟨b,0,none⟩) from rfl,this]
   rfl) ?_
  refine EL_p (.pointer (some ⟨b,0,none⟩)) (P_nilCheck rfl) rfl ?_
  refine EL_p (fPtr (.pointer (some ⟨b,0,none⟩)) 0) (P_fieldAddr atS_0 rfl ⟨b,0,rfl⟩) rfl ?_
  refine EL_do .plain rfl (D_storeFc (g:=g) (a:=(a,xs)) (b:=(⟨.pointer (some ⟨b,0,none⟩),rfl⟩:Fv)) SubS.fst Tryz.sizeOf154 rfl hb rfl (RV_fv.2 rfl) fun g1 w1 hs b1 rst _=>?_)
  exact EL_nil (end0n rfl rfl ⟨g1,hs,_,rfl,b1,ho.rest hs rst rfl hji⟩)
 ·refine EL_p (.bool false) (P_ptreq (u2 := .pointer none) (.inl rfl) (show _ = .pointer (some ⟨b, 0, none⟩) from ha) rfl ⟨_, rfl⟩ ⟨_, rfl⟩ (fun w => by simpa using run_eql_pointer_nil (P := Tryz.prog) w 154 (some ⟨b, 0, none⟩) Tryz.underlying154)) rfl ?_
  refine EL_nil (thn_n (E_cond_false rfl ?_))
  refine E_seq (E_region (EL_mw (.pointer (some ⟨b,0,none⟩)) rfl rfl ?_))
  refine EL_p (.pointer (some ⟨b,0,none⟩)) (P_nilCheck rfl) rfl ?_
  refine EL_p (fPtr (.pointer (some ⟨b,0,none⟩)) 0) (P_fieldAddr atS_0 rfl ⟨b,0,rfl⟩) rfl ?_
  refine EL_do .plain rfl (D_loadF (g:=g) (a:=(a,xs)) Sub.fst Tryz.isAgg154 Tryz.sizeOf154 rfl hb fun v r=>?_)
  obtain rfl:=RV_fv.1 r
  refine EL_mw (.pointer (some ⟨b,0,none⟩)) rfl rfl ?_
  refine EL_p (.bool false) (P_ptreq (.inr rfl) (show _=.pointer (some ⟨b,0,none⟩) from ha) rfl ⟨_,rfl⟩ ⟨_,rfl⟩ (fun w=>Lib.run_neq_ptr_same w ⟨b,0,none⟩ Tryz.underlying154 hj)) rfl ?_
  refine EL_nil (thn_n (E_cond_false rfl (E_skip ?_)))
  exact end0n rfl rfl ⟨g,stp_refl _ _ _,_,ha,hb,ho⟩
theorem en94:Enters Tryz.prog 94:=enters_of Tryz.func94 (by kernel_rfl) rfl
theorem wk94 {i j : Nat} (hji : Nat.beq j i = false) (hij : Nat.beq i j = false) {g : Gh} {w : World} {c : UInt8} {xs r : List UInt8} {p : Value} (hsb : SB i j g w 5 156 xs p) (hr : apnd 1 xs [c] = some r) :
  Calls Tryz.prog 94 #[p,.int .u8 c.toNat] w fun q w'=>∃ v,q=.returned v∧v=.nilIface∧WB i j g w 5 156 r p w':=by
 obtain ⟨a,hb,ho,ha⟩:=hsb
 obtain ⟨b,o,rfl⟩:=hb.ptr
 obtain ⟨hoff,hsh⟩:=ob_shape hb
 subst hoff
 refine calls_of_E Tryz.func94 rfl (Nat.le_of_ble_eq_true rfl) ?_
 show E _ 17 none _ _ _ _ _
 refine E_seq (E_region (EL_at (.nilIface) rfl rfl ?_))
 refine EL_nil (thn_n (E_seq (E_region (EL_mw (.pointer (some ⟨b,0,none⟩)) rfl rfl ?_))))
 refine EL_do .plain rfl (D_callC (vs:=[.pointer (some ⟨b,0,none⟩)]) en126 (.cons rfl .nil) (wk126 hji hb ho ha) fun v w1 h1=>?_)
 obtain ⟨g1,hs1,a1,ha1,hb1,ho1⟩:=h1
 refine EL_nil (thn_n (E_seq (E_region (EL_mw (.pointer (some ⟨b,0,none⟩)) rfl rfl ?_))))
 refine EL_mw (.pointer (some ⟨b,0,none⟩)) rfl rfl ?_
 refine EL_p (.pointer (some ⟨b,0,none⟩)) (P_nilCheck rfl) rfl ?_
 refine EL_p (fPtr (.pointer (some ⟨b,0,none⟩)) 1) (P_fieldAddr atS_1 rfl ⟨b,0,rfl⟩) rfl ?_
 refine EL_do .plain rfl (D_loadFS (g:=g1) (a:=(a1,xs)) (f:=Prod.snd) Sub.snd Tryz.isAgg72 Tryz.sizeOf72 rfl hb1 ho1 fun v2 r2 o2=>?_)
 refine EL_mw (.int .u8 c.toNat) rfl rfl ?_
 refine EL_do .plain rfl (D_buildSlice (g:=g1) 1 (xs:=[c]) (vs:=[.int .u8 c.toNat]) Tryz.underlying72 Tryz.sizeOf5 Tryz.zeroValue5 rfl rfl (.cons rfl .nil) (RVs.cons (RV_u8.2 rfl) RVs.nil) rfl rfl fun g3 w3 v3 _ _ r3 hxt _=>?_)
 refine EL_do .plain rfl (D_append (g:=g3) (i:=j) Tryz.underlying72 info_5 rfl rfl (o2.ext hxt) (r2.ext hxt) rfl r3 hr fun g4 w4 v4 hs4 o4 r4 _=>?_)
 have hb4:=(hb1.ext hxt).stp hs4 hij
 refine EL_p (.pointer (some ⟨b,0,none⟩)) (P_nilCheck rfl) rfl ?_
 refine EL_p (fPtr (.pointer (some ⟨b,0,none⟩)) 1) (P_fieldAddr atS_1 rfl ⟨b,0,rfl⟩) rfl ?_
 refine EL_do .plain rfl (D_storeFc (g:=g4) (a:=(a1,xs)) SubS.snd Tryz.sizeOf72 rfl hb4 rfl r4 fun g5 w5 hs5 b5 _ hos=>?_)
 have o5:=hos _ _ j 5 r (rv_cells1 r4) hji o4
 refine EL_nil (thn_n (E_seq (E_region (EL_at (.nilIface) rfl rfl ?_))))
 refine EL_nil (thn_n (E_ret (end1 rfl rfl (show _=.nilIface from rfl) ⟨rfl,g5,⟨g1,w1,g4,w4,hs1,(hxt.stp.trans hs4),hs5⟩,a1,b5,o5,.inr ha1⟩)))
theorem en67:Enters Tryz.prog 67:=enters_of Tryz.func67 (by kernel_rfl) rfl
theorem mixedS:Tryz.prog.follows .mixedOrders=true:=by kernel_rfl
theorem wk67 {i j : Nat} (hij : Nat.beq i 0 = false) {g : Gh} {w : World} {xs : List UInt8} {p : Value} (hsb : SB i j g w 5 156 xs p) (h0 : xs ≠ []) :
  Calls Tryz.prog 67 #[p] w fun q w'=>∃ v,q=.returned v∧GS j g w xs v w':=by
 obtain ⟨a,hb,ho,ha⟩:=hsb
 obtain ⟨b,o,rfl⟩:=hb.ptr
 obtain ⟨hoff,hsh⟩:=ob_shape hb
 subst hoff
 refine calls_of_E Tryz.func67 rfl (Nat.le_of_ble_eq_true rfl) ?_
 show E _ 14 none _ _ _ _ _
 refine E_seq (E_region (EL_at (Str.v ⟨[]⟩) rfl rfl ?_))
 refine EL_nil (thn_n (L_loadFSx (f:=Prod.snd) (a:=(a,xs)) Sub.snd Tryz.isAgg72 Tryz.sizeOf72 hb ho fun v r os hl=>?_))
 obtain ⟨sa,c,rfl,hc,_⟩:=RV_list r
 have hne:c ≠ 0:=by
  have : 0 < xs.length := by cases xs with
   | nil=>exact absurd rfl h0
   | cons _ _=>simp
  have hc':xs.length ≤ c:=hc
  omega
 refine E_seq (E_drawL (g:=g) (n:=10) [] [0,1,2,3,4,5,6,7,8,9] rfl mixedS (by kernel_rfl) trivial ?_)
 refine L_p (.pointer (some ⟨b,0,none⟩)) rfl rfl (P_move rfl) ?_
 refine L_p (.pointer (some ⟨b,0,none⟩)) rfl rfl (P_nilCheck rfl) ?_
 refine L_p (fPtr (.pointer (some ⟨b,0,none⟩)) 1) rfl rfl (P_fieldAddr atS_1 rfl ⟨b,0,rfl⟩) ?_
 refine L_ld (c:=.slice sa xs.length c) rfl rfl .plain (fun _ _ h=>⟨h.ch,fun b hb _=>h.below.block b hb⟩) (hl _) rfl ?_
 refine L_p (.pointer sa) rfl rfl (P_sliceData (a:=sa) (n:=xs.length) (c:=c) rfl (.inl hne)) ?_
 refine L_p (.pointer (some ⟨b,0,none⟩)) rfl rfl (P_move rfl) ?_
 refine L_p (.pointer (some ⟨b,0,none⟩)) rfl rfl (P_nilCheck rfl) ?_
 refine L_p (fPtr (.pointer (some ⟨b,0,none⟩)) 1) rfl rfl (P_fieldAddr atS_1 rfl ⟨b,0,rfl⟩) ?_
 refine L_ld (c:=.slice sa xs.length c) rfl rfl .plain (fun _ _ h=>⟨h.ch,fun b hb _=>h.below.block b hb⟩) (hl _) rfl ?_
 refine L_p (.int .i64 (xs.length:Int)) rfl rfl (P_len (v:=.slice sa xs.length c) Tryz.underlying72 rfl r) ?_
 refine L_nil fun g1 w1 hall=>?_
 have hs:=hall.1
 refine EL_do .plain rfl (D_unsafeString (g:=g1) (j:=j) (et:=5) rfl Tryz.underlying197 (by kernel_rfl) h0 rfl rfl (os.ext hs) (r.ext hs) fun g2 w2 hs2=>?_)
 refine EL_at (Str.v ⟨xs⟩) rfl rfl ?_
 exact EL_nil (thn_n (E_ret (end1 rfl rfl (show _=Str.v ⟨xs⟩ from rfl) ⟨rfl,g2,hs.stp.trans hs2⟩)))
def lenTab:Str:=(⟨[0,1,2,2,3,3,3,3,4,4,4,4,4,4,4,4,5,5,5,5,5,5,5,5,5,5,5,5,5,5,5,5,6,6,6,6,6,6,6,6,6,6,6,6,6,6,6,6,6,6,6,6,6,6,6,6,6,6,6,6,6,6,6,6,7,7,7,7,7,7,7,7,7,7,7,7,7,7,7,7,7,7,7,7,7,7,7,7,7,7,7,7,7,7,7,7,7,7,7,7,7,7,7,7,7,7,7,7,7,7,7,7,7,7,7,7,7,7,7,7,7,7,7,7,7,7,7,7,8,8,8,8,8,8,8,8,8,8,8,8,8,8,8,8,8,8,8,8,8,8,8,8,8,8,8,8,8,8,8,8,8,8,8,8,8,8,8,8,8,8,8,8,8,8,8,8,8,8,8,8,8,8,8,8,8,8,8,8,8,8,8,8,8,8,8,8,8,8,8,8,8,8,8,8,8,8,8,8,8,8,8,8,8,8,8,8,8,8,8,8,8,8,8,8,8,8,8,8,8,8,8,8,8,8,8,8,8,8,8,8,8,8,8,8,8,8,8,8,8,8,8,8,8,8,8,8]⟩:Str)
def f118 (x:Int):Option Int:=if 0 ≤ x∧x < 256 then (idx lenTab.b x).map fun c=>w64 (0 + (c.toNat:Int)) else none
def f85 (x:Int):Option Int:=f118 x
theorem en118:Enters Tryz.prog 118:=enters_of Tryz.func118 (by kernel_rfl) rfl
theorem en85:Enters Tryz.prog 85:=enters_of Tryz.func85 (by kernel_rfl) rfl
theorem wk118 {gI:Gh} {wI:World} {x0:Int} {r:Int} (h:f118 x0=some r):Fn Tryz.prog 118 #[.int .u64 x0] gI wI (fun _ _ v=>v=.int .i64 (r)):=by
 unfold f118 at h
 split at h
 case isFalse=>cases h
 rename_i hx
 obtain ⟨h0,h1⟩:=hx
 cases hc:idx lenTab.b x0 with
 | none=>rw [hc] at h; cases h
 | some c=>
 rw [hc] at h
 obtain rfl:=sinj h
 refine fn_of_E Tryz.func118 rfl (Nat.le_of_ble_eq_true rfl) fun g0 hm hfr=>?_
 show E _ 25 none _ _ _ _ _
 refine E_seq (E_region (EL_at (.int .i64 0) rfl rfl (EL_nil (thn_n ?_))))
 refine E_seq (E_seq (E_region (EL_mw (.int .u64 x0) rfl rfl ?_)))
 refine EL_p (.bool false) (P_u64lt rfl rfl (by omega)) rfl (EL_nil (thn_n ?_))
 refine E_cond_false rfl (E_skip (thn_n ?_))
 refine E_seq (E_seq (E_region (EL_mw (.int .u64 x0) rfl rfl ?_)))
 refine EL_p (.bool false) (P_u64lt rfl rfl (by omega)) rfl (EL_nil (thn_n ?_))
 refine E_cond_false rfl (E_skip (thn_n ?_))
 refine E_seq (E_seq (E_region (EL_mw (.int .u64 x0) rfl rfl ?_)))
 refine EL_p (.bool false) (P_u64lt rfl rfl (by omega)) rfl (EL_nil (thn_n ?_))
 refine E_cond_false rfl (E_skip (thn_n ?_))
 refine E_seq (E_region (EL_mw (.int .i64 0) rfl rfl ?_))
 refine EL_mw (.int .u64 x0) rfl rfl ?_
 refine EL_p (.int .u8 x0) (P_u64u8 Tryz.underlying218 Tryz.underlying5 rfl h0 h1) rfl ?_
 refine EL_p (.int .u8 c.toNat) (P_indexS (s:=lenTab) Tryz.underlying9 rfl rfl hc) rfl ?_
 refine EL_p (.int .i64 (c.toNat:Int)) (P_u8int Tryz.underlying5 Tryz.underlying2 rfl) rfl ?_
 refine EL_in (.int .i64 (w64 (0 + (c.toNat:Int)))) rfl rfl rfl rfl ?_
 refine EL_at (.int .i64 (w64 (0 + (c.toNat:Int)))) rfl rfl (EL_nil (thn_n ?_))
 exact E_ret (end1 rfl rfl (show _=_ from rfl) ⟨_,hfr,rfl⟩)
theorem wk85 {gI:Gh} {wI:World} {x0:Int} {r:Int} (h:f85 x0=some r):Fn Tryz.prog 85 #[.int .u64 x0] gI wI (fun _ _ v=>v=.int .i64 (r)):=by
 unfold f85 at h
 refine fn_of_E Tryz.func85 rfl (Nat.le_of_ble_eq_true rfl) fun g0 hm hfr=>?_
 show E _ 8 none _ _ _ _ _
 refine E_seq (E_region (EL_at (.int .i64 0) rfl rfl (EL_nil (thn_n ?_))))
 refine E_seq (E_cond_false rfl (E_skip (thn_n ?_)))
 refine E_seq (E_region (EL_mw (.int .u64 x0) rfl rfl ?_))
 refine EL_do .plain rfl (D_call (g:=g0) (vs:=[.int .u64 x0]) en118 (.cons rfl .nil) (wk118 h) fun g1 w1 v1 hs hr=>?_)
 have hfr:=hfr.ext hs
 subst hr
 refine EL_at (.int .i64 r) rfl rfl (EL_nil (thn_n ?_))
 exact E_ret (end1 rfl rfl (show _=_ from rfl) ⟨_,hfr,rfl⟩)
def f5 (x0:List (Vector UInt8 3)):Option ((List BookCloth)):=
 Option.bind (α:=(List BookCloth)) (
  lp (σ:=(List BookCloth) × Int × Int) (fun cF (v8,l5,o0)=>
   jn (σ:=Unit) (fun _=>
    Option.bind (α:=(List BookCloth) × Int) (
     (idx x0 o0).bind fun dF=>
     (idx (dF).toList (0:Int)).bind fun mE=>
     (rem64 ((mE).toNat:Int) (50:Int)).bind fun t5=>
     (idx x0 o0).bind fun eF=>
     (idx (eF).toList (1:Int)).bind fun bD=>
     (rem64 ((bD).toNat:Int) (3:Int)).bind fun l8=>
     (idx x0 o0).bind fun rF=>
     (idx (rF).toList (2:Int)).bind fun cD=>
     (rem64 ((cD).toNat:Int) (15:Int)).bind fun i6=>
     (apnd 40 v8 (([(⟨(w64 (l5 + (w64 ((1:Int) + t5)))),l8,0,0,(w64 ((1:Int) + i6))⟩:BookCloth)]:List BookCloth))).bind fun y251=>
     some (y251,(w64 (l5 + (w64 ((1:Int) + t5)))))
     ) fun (aB,s4_252)=>
    cF (aB,s4_252,(w64 (o0 + (1:Int))))
    ) fun sF=>
   Option.bind (α:=Bool) (
    bif (decide (o0 < ((x0).length : Int))) then
     some ((decide (o0 < (12:Int))))
    else
     some (false)
    ) fun l9=>
   bif l9 then
    sF ()
   else
    some (v8)
   ) big (([]:List BookCloth),(0:Int),(0:Int))
  ) fun lB=>
 some (lB)
theorem en5:Enters Tryz.prog 5:=enters_of Tryz.func5 (by kernel_rfl) rfl
theorem wk5 {gI:Gh} {wI:World} {x0:List (Vector UInt8 3)} {up0:Value} (rp0:RV gI.m wI x0 up0) {r:(List BookCloth)} (h:f5 x0=some r):Fn Tryz.prog 5 #[up0] gI wI (fun m w v=>RV m w (r) v):=by
 unfold f5 at h
 refine fn_of_E Tryz.func5 rfl (Nat.le_of_ble_eq_true rfl) fun g0 hm hfr=>?_
 have rp0:RV g0.m wI x0 up0:=hm ▸ rp0
 show E _ 48 none _ _ _ _ _
 refine E_seq (E_region (EL_at (.slice none 0 0) rfl rfl ?_))
 refine EL_nil (thn_n (E_seq (E_region (EL_do .plain rfl (D_buildSlice (g:=g0) 3006 (xs:=([]:List BookCloth)) (vs:=[]) Tryz.underlying33 Tryz.sizeOf63 Tryz.zeroValue63 rfl rfl .nil RVs.nil rfl rfl fun g1 w1 v1 hs o1 r1 hxt hfl=>?_)))))
 have hfr:=hfr.stp hs
 have rp0:=rp0.stp hs
 refine EL_at v1 rfl rfl ?_
 refine EL_at (.int .i64 (0)) rfl rfl ?_
 refine EL_nil (thn_n ?_)
 obtain ⟨lB,hx,h⟩:=bsome h
 refine E_join (fun e w=>∃ (g:Gh) (v3:Value),Fr gI wI g w∧e 3=v3∧RV g.m w (lB:List BookCloth) v3∧OS 3006 g w 63 (lB:List BookCloth) v3) (fun Q' hQ=>?_) (fun qI mJ hR=>?_)
 ·replace h := hx
  clear hx
  refine E_seq (E_region (EL_at (.int .i64 (0)) rfl rfl ?_))
  refine EL_nil (thn_n (E_block ?_))
  refine E_lp h (fun (s:(List BookCloth) × Int × Int) e w=>∃ (g:Gh) (v3:Value),Fr gI wI g w∧e 0=up0∧RV g.m w (x0:List (Vector UInt8 3)) up0∧e 3=v3∧RV g.m w (s.1:List BookCloth) v3∧OS 3006 g w 63 (s.1:List BookCloth) v3∧e 4=.int .i64 (s.2.1)∧e 5=.int .i64 (s.2.2)) ⟨g1,(v1),hfr,rfl,rp0,rfl,r1,o1,rfl,rfl⟩ (fun X128 cF lH=>?_)
  rintro ⟨v8,l5,o0⟩ sI nJ ⟨tF,n8,hfr,yB,zB,nD,oD,yD,zD,mB⟩ h
  refine E_joinC h (fun (s:Unit) e w=>∃ (g:Gh) ,Fr gI wI g w∧e 0=up0∧RV g.m w (x0:List (Vector UInt8 3)) up0∧e 3=n8∧RV g.m w (v8:List BookCloth) n8∧OS 3006 g w 63 (v8:List BookCloth) n8∧e 4=.int .i64 (l5)∧e 5=.int .i64 (o0)) (fun X134 sF mH h=>?_) ?_
  ·obtain ⟨l9, hx, h⟩ := bsome h
   refine E_join (fun e w=>∃ (g:Gh) ,Fr gI wI g w∧e 0=up0∧RV g.m w (x0:List (Vector UInt8 3)) up0∧e 3=n8∧RV g.m w (v8:List BookCloth) n8∧OS 3006 g w 63 (v8:List BookCloth) n8∧e 4=.int .i64 (l5)∧e 5=.int .i64 (o0)∧e 14=.bool (l9)) (fun Q' hQ=>?_) (fun jJ oJ hR=>?_)
   ·replace h := hx
    clear hx
    refine E_region (EL_mv mB rfl ?_)
    refine EL_mv yB rfl ?_
    refine EL_p (.int .i64 ((x0).length:Int)) (P_len Tryz.underlying23 rfl zB) rfl ?_
    refine EL_in (.bool ((decide (o0 < ((x0).length:Int))))) rfl rfl rfl rfl ?_
    refine EL_mw (.bool ((decide (o0 < ((x0).length:Int))))) rfl rfl ?_
    rcases csome h with ⟨n9,h⟩ | ⟨n9,h⟩
    ·refine EL_y (.int .i64 (o0)) (P_move mB) rfl rfl n9 rfl ?_
     refine EL_y (.bool ((decide (o0 < (12:Int))))) (P_int rfl rfl rfl) rfl rfl n9 rfl ?_
     refine EL_p (.bool ((decide (o0 < (12:Int))))) (P_pick (b:=(decide (o0 < ((x0).length:Int)))) rfl (pick_t n9 rfl)) rfl ?_
     refine EL_nil ?_
     obtain rfl:=sinj h
     exact hQ _ _ ⟨tF,hfr,yB,zB,nD,oD,yD,zD,mB,rfl⟩
    ·refine EL_s rfl rfl n9 rfl rfl ?_
     refine EL_s rfl rfl n9 rfl rfl ?_
     refine EL_p (.bool false) (P_pick (b:=(decide (o0 < ((x0).length:Int)))) rfl (pick_f n9 rfl)) rfl ?_
     refine EL_nil ?_
     obtain rfl:=sinj h
     exact hQ _ _ ⟨tF,hfr,yB,zB,nD,oD,yD,zD,mB,rfl⟩
   ·clear hx
    obtain ⟨uF,hfr,vF,xF,aE,bE,iE,yF,aG,vC⟩:=hR
    rcases csome h with ⟨lD,h⟩ | ⟨lD,h⟩
    ·refine E_cond_true (Eq.trans (show ev _ _ = .bool (l9) from vC) (congrArg Value.bool lD)) ?_
     exact E_skip (thn_n (mH () _ _ ⟨uF,hfr,vF,xF,aE,bE,iE,yF,aG⟩ h))
    ·refine E_cond_false (Eq.trans (show ev _ _ = .bool (l9) from vC) (congrArg Value.bool lD)) ?_
     refine E_exit ?_
     refine thn_e ?_
     refine thn_e ?_
     refine blk_hit ?_
     obtain rfl:=sinj h
     exact hQ _ _ ⟨uF,(n8),hfr,aE,bE,iE⟩
  ·rintro _ kJ xH ⟨oE, hfr, nB, g8, bG, cC, uC, cG, oB⟩ h
   obtain ⟨⟨aB,s4_252⟩,hx,h⟩:=bsome h
   refine E_join (fun e w=>∃ (g:Gh) (v3:Value),Fr gI wI g w∧e 0=up0∧RV g.m w (x0:List (Vector UInt8 3)) up0∧e 3=v3∧RV g.m w (aB:List BookCloth) v3∧OS 3006 g w 63 (aB:List BookCloth) v3∧e 4=.int .i64 (s4_252)∧e 5=.int .i64 (o0)) (fun Q' hQ=>?_) (fun lJ pJ hR=>?_)
   ·replace h := hx
    clear hx
    refine E_block ?_
    refine E_seq (E_region (EL_mv cG rfl ?_))
    refine EL_mv nB rfl ?_
    refine EL_mv oB rfl ?_
    obtain ⟨dF,rE,h⟩:=bsome h
    refine EL_p (ePtr up0 o0 3) (P_indexAddr (α:=Vector UInt8 3) Tryz.underlying23 Tryz.sizeOf67 rfl g8 rfl rE) rfl ?_
    have eG:=PT_idx g8 rE
    obtain ⟨mE,uE,h⟩:=bsome h
    refine EL_p (fPtr (ePtr up0 o0 3) (((0:Int):Int).toNat * 1)) (P_indexAddrA (α:=UInt8) Tryz.underlying67 Tryz.sizeOf5 rfl (PT.ptr eG) rfl uE) rfl ?_
    have yH:=PT_idxA eG uE
    refine EL_do .plain rfl (D_load (g:=oE) Tryz.isAgg5 Tryz.sizeOf5 rfl yH fun qJ zH=>?_)
    obtain rfl:=RV_u8.1 zH
    refine EL_p (.int .i64 (((mE).toNat:Int))) (P_u8int Tryz.underlying5 Tryz.underlying3 rfl) rfl ?_
    obtain ⟨t5,nH,h⟩:=bsome h
    refine EL_p (.int .i64 (t5)) (P_int rfl rfl (congrArg (Option.map (Value.int .i64)) nH)) rfl ?_
    refine EL_in (.int .i64 ((w64 ((1:Int) + t5)))) rfl rfl rfl rfl ?_
    refine EL_p (.int .i64 ((w64 (l5 + (w64 ((1:Int) + t5)))))) (P_int rfl rfl rfl) rfl ?_
    refine EL_p (.int .i64 ((w64 (l5 + (w64 ((1:Int) + t5)))))) (P_assign rfl) rfl ?_
    refine EL_nil (thn_n ?_)
    obtain ⟨eF,vE,h⟩:=bsome h
    have gG:=PT_idx g8 vE
    obtain ⟨bD,xE,h⟩:=bsome h
    have aI:=PT_idxA gG xE
    refine L_load (x:=.tmp 32) Tryz.isAgg5 Tryz.sizeOf5 aI fun rJ bI oH=>?_
    obtain rfl:=RV_u8.1 bI
    obtain ⟨l8,pH,h⟩:=bsome h
    obtain ⟨rF,yE,h⟩:=bsome h
    have iG:=PT_idx g8 yE
    obtain ⟨cD,zE,h⟩:=bsome h
    have dI:=PT_idxA iG zE
    refine L_load (x:=.tmp 39) Tryz.isAgg5 Tryz.sizeOf5 dI fun sJ iI qH=>?_
    obtain rfl:=RV_u8.1 iI
    obtain ⟨i6,sH,h⟩:=bsome h
    have jG:RV oE.m xH (⟨(w64 (l5 + (w64 ((1:Int) + t5)))),l8,0,0,(w64 ((1:Int) + i6))⟩:BookCloth) (.agg (setCh [[.int .i64 0],[.int .i64 0],[.int .i64 0],[.int .i64 0],[.int .i64 0]] [(0,.int .i64 ((w64 (l5 + (w64 ((1:Int) + t5)))))),(1,.int .i64 (l8)),(4,.int .i64 ((w64 ((1:Int) + i6))))]).flatten.toArray):=RV_build rfl (rep_pair (rfl) (rep_pair (rfl) (rep_pair (rep_int) (rep_pair (rep_int) (rep_last (rfl))))))
    generalize tH:(Value.agg (setCh [[.int .i64 0],[.int .i64 0],[.int .i64 0],[.int .i64 0],[.int .i64 0]] [(0,.int .i64 ((w64 (l5 + (w64 ((1:Int) + t5)))))),(1,.int .i64 (l8)),(4,.int .i64 ((w64 ((1:Int) + i6))))]).flatten.toArray)=kG at jG
    refine E_drawL (g:=oE) (n:=19) [(18,(fun v g w=>RV g.m w ([(⟨(w64 (l5 + (w64 ((1:Int) + t5)))),l8,0,0,(w64 ((1:Int) + i6))⟩:BookCloth)]:List BookCloth) v∧OS 3045 g w 63 ([(⟨(w64 (l5 + (w64 ((1:Int) + t5)))),l8,0,0,(w64 ((1:Int) + i6))⟩:BookCloth)]:List BookCloth) v∧FullV v))] [0,1,2,3,4,5,6,7,8,9,10,11,12,13,14,15,16,17,18] rfl mixed (by kernel_rfl) (⟨fun _=>up_and up_rv (up_and up_os (up_eq _)),trivial⟩) ?_
    refine L_p n8 rfl rfl (P_move bG) ?_
    refine L_p (.int .i64 ((w64 (l5 + (w64 ((1:Int) + t5)))))) rfl rfl (P_move rfl) ?_
    refine L_p up0 rfl rfl (P_move nB) ?_
    refine L_p (.int .i64 (o0)) rfl rfl (P_move oB) ?_
    refine L_p (ePtr up0 o0 3) rfl rfl (P_indexAddr (α:=Vector UInt8 3) Tryz.underlying23 Tryz.sizeOf67 rfl g8 rfl vE) ?_
    refine L_p (fPtr (ePtr up0 o0 3) (((1:Int):Int).toNat * 1)) rfl rfl (P_indexAddrA (α:=UInt8) Tryz.underlying67 Tryz.sizeOf5 rfl (PT.ptr gG) rfl xE) ?_
    refine L_ld (c:=.int .u8 (UInt8.toNat (bD))) rfl rfl .plain (fun _ _ h=>h.ch) oH rfl ?_
    refine L_p (.int .i64 (((bD).toNat:Int))) rfl rfl (P_u8int Tryz.underlying5 Tryz.underlying3 rfl) ?_
    refine L_p (.int .i64 (l8)) rfl rfl (P_int rfl rfl (congrArg (Option.map (Value.int .i64)) pH)) ?_
    refine L_p up0 rfl rfl (P_move nB) ?_
    refine L_p (.int .i64 (o0)) rfl rfl (P_move oB) ?_
    refine L_p (ePtr up0 o0 3) rfl rfl (P_indexAddr (α:=Vector UInt8 3) Tryz.underlying23 Tryz.sizeOf67 rfl g8 rfl yE) ?_
    refine L_p (fPtr (ePtr up0 o0 3) (((2:Int):Int).toNat * 1)) rfl rfl (P_indexAddrA (α:=UInt8) Tryz.underlying67 Tryz.sizeOf5 rfl (PT.ptr iG) rfl zE) ?_
    refine L_ld (c:=.int .u8 (UInt8.toNat (cD))) rfl rfl .plain (fun _ _ h=>h.ch) qH rfl ?_
    refine L_p (.int .i64 (((cD).toNat:Int))) rfl rfl (P_u8int Tryz.underlying5 Tryz.underlying3 rfl) ?_
    refine L_p (.int .i64 (i6)) rfl rfl (P_int rfl rfl (congrArg (Option.map (Value.int .i64)) sH)) ?_
    refine L_p (.int .i64 ((w64 ((1:Int) + i6)))) rfl rfl (P_int rfl rfl rfl) ?_
    refine L_p kG rfl rfl (tH ▸ P_build (vs:=[(0,.int .i64 ((w64 (l5 + (w64 ((1:Int) + t5)))))),(1,.int .i64 (l8)),(4,.int .i64 ((w64 ((1:Int) + i6))))]) [[.int .i64 0],[.int .i64 0],[.int .i64 0],[.int .i64 0],[.int .i64 0]] lay_63 rfl rfl (.cons rfl (.cons rfl (.cons rfl .nil))) ⟨⟨_,rfl,rfl⟩,⟨⟨_,rfl,rfl⟩,⟨⟨_,rfl,rfl⟩,trivial⟩⟩⟩) ?_
    refine L_do (φ:=fun v g w=>RV g.m w ([(⟨(w64 (l5 + (w64 ((1:Int) + t5)))),l8,0,0,(w64 ((1:Int) + i6))⟩:BookCloth)]:List BookCloth) v∧OS 3045 g w 63 ([(⟨(w64 (l5 + (w64 ((1:Int) + t5)))),l8,0,0,(w64 ((1:Int) + i6))⟩:BookCloth)]:List BookCloth) v∧FullV v) rfl rfl .plain (fun g w hd=>D_buildSlice (g:=g) 3045 (xs:=([(⟨(w64 (l5 + (w64 ((1:Int) + t5)))),l8,0,0,(w64 ((1:Int) + i6))⟩:BookCloth)]:List BookCloth)) (vs:=[kG]) Tryz.underlying33 Tryz.sizeOf63 Tryz.zeroValue63 rfl rfl (.cons rfl .nil) (RVs.cons (jG.ext hd.1) RVs.nil) rfl rfl fun g' w' v hs o r hxt hfl=>⟨g',hxt,r,o,hfl⟩) (fun vB hv=>?_)
    clear hv
    refine L_nil fun jI vJ hall=>?_
    have hs:=hall.1
    have hfr:=hfr.ext hs
    have g8:=g8.ext hs
    have cC:=cC.ext hs
    have uC:=uC.ext hs
    have kI:=(word_all (A:=fun g w=>RV g.m w ([(⟨(w64 (l5 + (w64 ((1:Int) + t5)))),l8,0,0,(w64 ((1:Int) + i6))⟩:BookCloth)]:List BookCloth) vB∧OS 3045 g w 63 ([(⟨(w64 (l5 + (w64 ((1:Int) + t5)))),l8,0,0,(w64 ((1:Int) + i6))⟩:BookCloth)]:List BookCloth) vB∧FullV vB) 18 rfl hall).1
    have o249:=(word_all (A:=fun g w=>RV g.m w ([(⟨(w64 (l5 + (w64 ((1:Int) + t5)))),l8,0,0,(w64 ((1:Int) + i6))⟩:BookCloth)]:List BookCloth) vB∧OS 3045 g w 63 ([(⟨(w64 (l5 + (w64 ((1:Int) + t5)))),l8,0,0,(w64 ((1:Int) + i6))⟩:BookCloth)]:List BookCloth) vB∧FullV vB) 18 rfl hall).2.1
    clear hs hall
    obtain ⟨y251,uH,h⟩:=bsome h
    refine EL_do .plain rfl (D_append (g:=jI) (i:=3006) Tryz.underlying33 info_63 rfl rfl uC cC rfl kI uH fun lI xJ lG hs o250 mI _=>?_)
    have hfr:=hfr.stp hs
    have g8:=g8.stp hs
    refine EL_at lG rfl rfl ?_
    refine EL_nil (blk_n ?_)
    obtain ⟨rfl,rfl⟩:=pairs2 h
    exact hQ _ _ ⟨lI,(lG),hfr,nB,g8,rfl,mI,o250,rfl,oB⟩
   ·clear hx
    obtain ⟨nI,mG,hfr,sG,xG,yG,zG,aH,cH,gH⟩:=hR
    refine E_region (EL_mv gH rfl ?_)
    refine EL_in (.int .i64 ((w64 (o0 + (1:Int))))) rfl rfl rfl rfl ?_
    refine EL_at (.int .i64 ((w64 (o0 + (1:Int))))) rfl rfl ?_
    exact EL_nil (thn_n (lH (aB,s4_252,(w64 (o0 + (1:Int)))) _ _ ⟨nI,(mG),hfr,sG,xG,yG,zG,aH,cH,rfl⟩ h))
 ·clear hx
  obtain ⟨zJ,lE,hfr,jH,kH,pI⟩:=hR
  refine E_seq (E_region (EL_mv jH rfl ?_))
  refine EL_at lE rfl rfl ?_
  refine EL_nil (thn_n (E_ret ?_))
  obtain rfl:=sinj h
  exact end1 rfl rfl (show _=lE from rfl) ⟨_,hfr,kH⟩
def f6 (x0:Vector UInt8 4):Option (BeamTake):=
 (idx (x0).toList (0:Int)).bind fun y3=>
 (rem64 ((y3).toNat:Int) (81:Int)).bind fun y6=>
 (idx (x0).toList (1:Int)).bind fun y7=>
 (rem64 ((y7).toNat:Int) (5:Int)).bind fun i6=>
 (idx (x0).toList (2:Int)).bind fun y11=>
 (rem64 ((y11).toNat:Int) (91:Int)).bind fun o0=>
 (idx (x0).toList (3:Int)).bind fun l8=>
 (rem64 ((l8).toNat:Int) (91:Int)).bind fun l5=>
 (idx (x0).toList (0:Int)).bind fun t5=>
 some ((⟨(w64 ((20:Int) + y6)),(w64 ((1:Int) + i6)),([(⟨(w64 ((10:Int) + o0)),(w64 ((10:Int) + l5))⟩:BeamPair)]:List BeamPair),(w64 ((100000:Int) + (w64 ((1000:Int) * ((t5).toNat:Int)))))⟩:BeamTake))
theorem en6:Enters Tryz.prog 6:=enters_of Tryz.func6 (by kernel_rfl) rfl
theorem wk6 {gI:Gh} {wI:World} {x0:Vector UInt8 4} {up0:Value} (rp0:RV gI.m wI x0 up0) {r:BeamTake} (h:f6 x0=some r):Fn Tryz.prog 6 #[up0] gI wI (fun m w v=>RV m w (r) v):=by
 unfold f6 at h
 refine fn_of_E Tryz.func6 rfl (Nat.le_of_ble_eq_true rfl) fun g0 hm hfr=>?_
 have rp0:RV g0.m wI x0 up0:=hm ▸ rp0
 show E _ 31 none _ _ _ _ _
 refine E_seq (E_region (EL_do .plain rfl (D_box (g:=g0) rfl rp0 fun g1 w1 p1 hs q1=>?_)))
 have hfr:=hfr.ext hs
 refine EL_do .plain rfl (D_allocOc (g:=g1) 2002 (⟨0,0,[],0⟩:BeamTake) Tryz.zeroValue37 (fun m w=>⟨_,(rep_two rep_int (rep_two rep_int (rep_two rep_nil rep_int))),rfl⟩) fun g2 w2 p2 hs b2 cb=>?_)
 have hfr:=hfr.stp hs
 have q1:=q1.stp hs
 have uE:OSF 2002 60202 2 g2 w2 69 37 ([]:List BeamPair) p2:=cb.osf (by rfl)
 clear cb
 refine EL_nil (thn_n (E_seq (E_region ?_)))
 obtain ⟨y3,hy3,h⟩:=bsome h
 refine EL_p (fPtr p1 (((0:Int):Int).toNat * 1)) (P_indexAddrA (α:=UInt8) Tryz.underlying24 Tryz.sizeOf5 rfl (PT.ptr q1) rfl hy3) rfl ?_
 have q4:=PT_idxA q1 hy3
 refine EL_do .plain rfl (D_load (g:=g2) Tryz.isAgg5 Tryz.sizeOf5 rfl q4 fun v5 r5=>?_)
 obtain rfl:=RV_u8.1 r5
 refine EL_p (.int .i64 (((y3).toNat:Int))) (P_u8int Tryz.underlying5 Tryz.underlying3 rfl) rfl ?_
 obtain ⟨y6,lD,h⟩:=bsome h
 refine EL_p (.int .i64 (y6)) (P_int rfl rfl (congrArg (Option.map (Value.int .i64)) lD)) rfl ?_
 refine EL_in (.int .i64 ((w64 ((20:Int) + y6)))) rfl rfl rfl rfl ?_
 obtain ⟨y7,nB,h⟩:=bsome h
 refine EL_p (fPtr p1 (((1:Int):Int).toNat * 1)) (P_indexAddrA (α:=UInt8) Tryz.underlying24 Tryz.sizeOf5 rfl (PT.ptr q1) rfl nB) rfl ?_
 have q8:=PT_idxA q1 nB
 refine EL_do .plain rfl (D_load (g:=g2) Tryz.isAgg5 Tryz.sizeOf5 rfl q8 fun v9 r9=>?_)
 obtain rfl:=RV_u8.1 r9
 refine EL_p (.int .i64 (((y7).toNat:Int))) (P_u8int Tryz.underlying5 Tryz.underlying3 rfl) rfl ?_
 obtain ⟨i6,cC,h⟩:=bsome h
 refine EL_p (.int .i64 (i6)) (P_int rfl rfl (congrArg (Option.map (Value.int .i64)) cC)) rfl ?_
 refine EL_in (.int .i64 ((w64 ((1:Int) + i6)))) rfl rfl rfl rfl ?_
 obtain ⟨y11,n8,h⟩:=bsome h
 refine EL_p (fPtr p1 (((2:Int):Int).toNat * 1)) (P_indexAddrA (α:=UInt8) Tryz.underlying24 Tryz.sizeOf5 rfl (PT.ptr q1) rfl n8) rfl ?_
 have nD:=PT_idxA q1 n8
 refine EL_do .plain rfl (D_load (g:=g2) Tryz.isAgg5 Tryz.sizeOf5 rfl nD fun vE oD=>?_)
 obtain rfl:=RV_u8.1 oD
 refine EL_p (.int .i64 (((y11).toNat:Int))) (P_u8int Tryz.underlying5 Tryz.underlying3 rfl) rfl ?_
 obtain ⟨o0,uC,h⟩:=bsome h
 refine EL_p (.int .i64 (o0)) (P_int rfl rfl (congrArg (Option.map (Value.int .i64)) uC)) rfl ?_
 refine EL_in (.int .i64 ((w64 ((10:Int) + o0)))) rfl rfl rfl rfl ?_
 obtain ⟨l8,v8,h⟩:=bsome h
 refine EL_p (fPtr p1 (((3:Int):Int).toNat * 1)) (P_indexAddrA (α:=UInt8) Tryz.underlying24 Tryz.sizeOf5 rfl (PT.ptr q1) rfl v8) rfl ?_
 have yD:=PT_idxA q1 v8
 refine EL_do .plain rfl (D_load (g:=g2) Tryz.isAgg5 Tryz.sizeOf5 rfl yD fun xE zD=>?_)
 obtain rfl:=RV_u8.1 zD
 refine EL_p (.int .i64 (((l8).toNat:Int))) (P_u8int Tryz.underlying5 Tryz.underlying3 rfl) rfl ?_
 obtain ⟨l5,vC,h⟩:=bsome h
 refine EL_p (.int .i64 (l5)) (P_int rfl rfl (congrArg (Option.map (Value.int .i64)) vC)) rfl ?_
 refine EL_in (.int .i64 ((w64 ((10:Int) + l5)))) rfl rfl rfl rfl ?_
 have oB:RV g2.m w2 (⟨(w64 ((10:Int) + o0)),(w64 ((10:Int) + l5))⟩:BeamPair) (.agg (setCh [[.int .i64 0],[.int .i64 0]] [(0,.int .i64 ((w64 ((10:Int) + o0)))),(1,.int .i64 ((w64 ((10:Int) + l5))))]).flatten.toArray):=RV_build rfl (rep_pair (rfl) (rep_last (rfl)))
 generalize bD:(Value.agg (setCh [[.int .i64 0],[.int .i64 0]] [(0,.int .i64 ((w64 ((10:Int) + o0)))),(1,.int .i64 ((w64 ((10:Int) + l5))))]).flatten.toArray)=vB at oB
 refine EL_p vB (bD ▸ P_build (vs:=[(0,.int .i64 ((w64 ((10:Int) + o0)))),(1,.int .i64 ((w64 ((10:Int) + l5))))]) [[.int .i64 0],[.int .i64 0]] lay_69 rfl rfl (.cons rfl (.cons rfl .nil)) ⟨⟨_,rfl,rfl⟩,⟨⟨_,rfl,rfl⟩,trivial⟩⟩) rfl ?_
 refine EL_do .plain rfl (D_buildSlice (g:=g2) 3024 (xs:=([(⟨(w64 ((10:Int) + o0)),(w64 ((10:Int) + l5))⟩:BeamPair)]:List BeamPair)) (vs:=[vB]) Tryz.underlying35 Tryz.sizeOf69 Tryz.zeroValue69 rfl rfl (.cons rfl .nil) (RVs.cons oB RVs.nil) rfl rfl fun l9 yE n9 hs o20 aB hxt hfl=>?_)
 have hfr:=hfr.stp hs
 have q1:=q1.stp hs
 have b2:=b2.stp hs rfl
 obtain ⟨t5,lB,h⟩:=bsome h
 refine EL_p (fPtr p1 (((0:Int):Int).toNat * 1)) (P_indexAddrA (α:=UInt8) Tryz.underlying24 Tryz.sizeOf5 rfl (PT.ptr q1) rfl lB) rfl ?_
 have aE:=PT_idxA q1 lB
 refine EL_do .plain rfl (D_load (g:=l9) Tryz.isAgg5 Tryz.sizeOf5 rfl aE fun zE bE=>?_)
 obtain rfl:=RV_u8.1 bE
 refine EL_p (.int .i64 (((t5).toNat:Int))) (P_u8int Tryz.underlying5 Tryz.underlying3 rfl) rfl ?_
 refine EL_in (.int .i64 ((w64 ((1000:Int) * ((t5).toNat:Int))))) rfl rfl rfl rfl ?_
 refine EL_p (.int .i64 ((w64 ((100000:Int) + (w64 ((1000:Int) * ((t5).toNat:Int))))))) (P_int rfl rfl rfl) rfl ?_
 have yB:RV l9.m _ (⟨(w64 ((20:Int) + y6)),(w64 ((1:Int) + i6)),([(⟨(w64 ((10:Int) + o0)),(w64 ((10:Int) + l5))⟩:BeamPair)]:List BeamPair),(w64 ((100000:Int) + (w64 ((1000:Int) * ((t5).toNat:Int)))))⟩:BeamTake) (.agg (setCh [[.int .i64 0],[.int .i64 0],[.slice none 0 0],[.int .i64 0]] [(0,.int .i64 ((w64 ((20:Int) + y6)))),(1,.int .i64 ((w64 ((1:Int) + i6)))),(2,n9),(3,.int .i64 ((w64 ((100000:Int) + (w64 ((1000:Int) * ((t5).toNat:Int)))))))]).flatten.toArray):=RV_build rfl (rep_pair (rfl) (rep_pair (rfl) (rep_pair (RV.cells aB) (rep_last (rfl)))))
 generalize mB:(Value.agg (setCh [[.int .i64 0],[.int .i64 0],[.slice none 0 0],[.int .i64 0]] [(0,.int .i64 ((w64 ((20:Int) + y6)))),(1,.int .i64 ((w64 ((1:Int) + i6)))),(2,n9),(3,.int .i64 ((w64 ((100000:Int) + (w64 ((1000:Int) * ((t5).toNat:Int)))))))]).flatten.toArray)=zB at yB
 refine EL_p zB (mB ▸ P_build (vs:=[(0,.int .i64 ((w64 ((20:Int) + y6)))),(1,.int .i64 ((w64 ((1:Int) + i6)))),(2,n9),(3,.int .i64 ((w64 ((100000:Int) + (w64 ((1000:Int) * ((t5).toNat:Int)))))))]) [[.int .i64 0],[.int .i64 0],[.slice none 0 0],[.int .i64 0]] lay_37 rfl rfl (.cons rfl (.cons rfl (.cons rfl (.cons rfl .nil)))) ⟨⟨_,rfl,rfl⟩,⟨⟨_,rfl,rfl⟩,⟨⟨_,rfl,cells_size aB⟩,⟨⟨_,rfl,rfl⟩,trivial⟩⟩⟩⟩) rfl ?_
 refine EL_do .plain rfl (D_storeOc (g:=l9) (v:=zB) Tryz.sizeOf37 rfl b2 rfl yB fun iE lE hs b25 cb=>?_)
 obtain ⟨mE,oE,g8,_,_⟩:=RV_list aB
 have rE:OSF 2002 3024 2 iE lE 69 37 (([(⟨(w64 ((10:Int) + o0)),(w64 ((10:Int) + l5))⟩:BeamPair)]:List BeamPair):List BeamPair) p2:=cb.osfv (by rw [← mB,g8]; rfl) (o20.stp hs rfl)
 clear cb
 have hfr:=hfr.stp hs
 refine EL_nil (thn_n (E_ret ?_))
 obtain rfl:=sinj h
 obtain ⟨ad26,cv26,hp26,cD,cr26⟩:=ob_read Tryz.isAgg37 Tryz.sizeOf37 b25
 exact endm_c rfl rfl ((show _=p2 from rfl).trans hp26) cD ⟨_,hfr,cr26⟩
def f10 (x0:BeamTake):Option (Int × Int):=
 (idx ((x0).Pairs) (0:Int)).bind fun y8=>
 (idx ((x0).Pairs) (0:Int)).bind fun o0=>
 some ((w64 ((w64 ((x0).Round * (x0).Step)) * (y8).Driver)),(w64 ((x0).Ratchet * (o0).Driven)))
theorem en10:Enters Tryz.prog 10:=enters_of Tryz.func10 (by kernel_rfl) rfl
theorem wk10 {gI:Gh} {wI:World} {x0:BeamTake} {up0:Value} (rp0:RV gI.m wI x0 up0) {r:Int × Int} (h:f10 x0=some r):Fn Tryz.prog 10 #[up0] gI wI (fun m w v=>∃ y0 y1,v=.tuple #[y0,y1]∧y0=.int .i64 (r.1)∧y1=.int .i64 (r.2)):=by
 unfold f10 at h
 refine fn_of_E Tryz.func10 rfl (Nat.le_of_ble_eq_true rfl) fun g0 hm hfr=>?_
 have rp0:RV g0.m wI x0 up0:=hm ▸ rp0
 show E _ 23 none _ _ _ _ _
 refine E_seq (E_region (EL_do .plain rfl (D_box (g:=g0) rfl rp0 fun g1 w1 p1 hs q1=>?_)))
 have hfr:=hfr.ext hs
 refine EL_at (.int .i64 (0)) rfl rfl ?_
 refine EL_at (.int .i64 (0)) rfl rfl ?_
 refine EL_nil (thn_n (E_seq ?_))
 have q2:=PT_field (part_BeamTake_3).1 q1
 refine L_load (x:=.tmp 4) Tryz.isAgg3 Tryz.sizeOf3 q2 fun v3 r3 aB=>?_
 obtain rfl:=RV_int.1 r3
 have q4:=PT_field (part_BeamTake_1).1 q1
 refine L_load (x:=.tmp 6) Tryz.isAgg3 Tryz.sizeOf3 q4 fun v5 r5 lB=>?_
 obtain rfl:=RV_int.1 r5
 have q6:=PT_field (part_BeamTake_2).1 q1
 refine L_load (x:=.tmp 9) Tryz.isAgg35 Tryz.sizeOf35 q6 fun v7 r7 hl7=>?_
 obtain ⟨y8,i6,h⟩:=bsome h
 have q9:=PT_idx r7 i6
 have mB:=PT_field (part_BeamPair_0).1 q9
 refine L_load (x:=.tmp 12) Tryz.isAgg3 Tryz.sizeOf3 mB fun uC nB n8=>?_
 obtain rfl:=RV_int.1 nB
 have oB:=PT_field (part_BeamTake_0).1 q1
 refine L_load (x:=.tmp 15) Tryz.isAgg3 Tryz.sizeOf3 oB fun vC vB v8=>?_
 obtain rfl:=RV_int.1 vB
 have yB:=PT_field (part_BeamTake_2).1 q1
 refine L_load (x:=.tmp 17) Tryz.isAgg35 Tryz.sizeOf35 yB fun l5 g8 l9=>?_
 obtain ⟨o0,t5,h⟩:=bsome h
 have l8:=PT_idx g8 t5
 have zB:=PT_field (part_BeamPair_1).1 l8
 refine L_load (x:=.tmp 20) Tryz.isAgg3 Tryz.sizeOf3 zB fun bD cC n9=>?_
 obtain rfl:=RV_int.1 cC
 refine E_drawL (g:=g1) (n:=21) [] [0,1,2,3,4,5,6,7,8,9,10,11,12,13,14,15,16,17,18,19,20] rfl mixed (by kernel_rfl) trivial ?_
 refine L_p (fPtr p1 3) rfl rfl (P_fieldAddr at_37_3 rfl (PT.ptr q1)) ?_
 refine L_ld (c:=.int .i64 ((x0).Round)) rfl rfl .plain (fun _ _ h=>h.ch) aB rfl ?_
 refine L_p (fPtr p1 1) rfl rfl (P_fieldAddr at_37_1 rfl (PT.ptr q1)) ?_
 refine L_ld (c:=.int .i64 ((x0).Step)) rfl rfl .plain (fun _ _ h=>h.ch) lB rfl ?_
 refine L_p (.int .i64 ((w64 ((x0).Round * (x0).Step)))) rfl rfl (P_int rfl rfl rfl) ?_
 refine L_p (fPtr p1 2) rfl rfl (P_fieldAddr at_37_2 rfl (PT.ptr q1)) ?_
 refine L_ld (c:=v7) rfl rfl .plain (fun _ _ h=>h.ch) hl7 rfl ?_
 refine L_p (ePtr v7 (0:Int) 2) rfl rfl (P_indexAddr (α:=BeamPair) Tryz.underlying35 Tryz.sizeOf69 rfl r7 rfl i6) ?_
 refine L_p (fPtr (ePtr v7 (0:Int) 2) 0) rfl rfl (P_fieldAddr at_69_0 rfl (PT.ptr q9)) ?_
 refine L_ld (c:=.int .i64 ((y8).Driver)) rfl rfl .plain (fun _ _ h=>h.ch) n8 rfl ?_
 refine L_p (.int .i64 ((w64 ((w64 ((x0).Round * (x0).Step)) * (y8).Driver)))) rfl rfl (P_int rfl rfl rfl) ?_
 refine L_p (fPtr p1 0) rfl rfl (P_fieldAddr at_37_0 rfl (PT.ptr q1)) ?_
 refine L_ld (c:=.int .i64 ((x0).Ratchet)) rfl rfl .plain (fun _ _ h=>h.ch) v8 rfl ?_
 refine L_p (fPtr p1 2) rfl rfl (P_fieldAddr at_37_2 rfl (PT.ptr q1)) ?_
 refine L_ld (c:=l5) rfl rfl .plain (fun _ _ h=>h.ch) l9 rfl ?_
 refine L_p (ePtr l5 (0:Int) 2) rfl rfl (P_indexAddr (α:=BeamPair) Tryz.underlying35 Tryz.sizeOf69 rfl g8 rfl t5) ?_
 refine L_p (fPtr (ePtr l5 (0:Int) 2) 1) rfl rfl (P_fieldAddr at_69_1 rfl (PT.ptr l8)) ?_
 refine L_ld (c:=.int .i64 ((o0).Driven)) rfl rfl .plain (fun _ _ h=>h.ch) n9 rfl ?_
 refine L_p (.int .i64 ((w64 ((x0).Ratchet * (o0).Driven)))) rfl rfl (P_int rfl rfl rfl) ?_
 refine L_p (.int .i64 ((w64 ((w64 ((x0).Round * (x0).Step)) * (y8).Driver)))) rfl rfl (P_assign rfl) ?_
 refine L_p (.int .i64 ((w64 ((x0).Ratchet * (o0).Driven)))) rfl rfl (P_assign rfl) ?_
 refine L_nl fun cD lD hs=>?_
 have hfr:=hfr.ext hs
 clear hs
 refine EL_nil (thn_n (E_ret ?_))
 obtain rfl:=sinj h
 exact end2 rfl rfl (show _=.int .i64 ((w64 ((w64 ((x0).Round * (x0).Step)) * (y8).Driver))) from rfl) (show _=.int .i64 ((w64 ((x0).Ratchet * (o0).Driven))) from rfl) ⟨_,hfr,_,_,rfl,rfl,rfl⟩
def f12 (x0:BeamTake):Option (BeamTake):=
 (apnd 16 (([]:List BeamPair)) ((x0).Pairs)).bind fun y7=>
 some ({ x0 with Pairs:=y7 })
theorem en12:Enters Tryz.prog 12:=enters_of Tryz.func12 (by kernel_rfl) rfl
theorem wk12 {gI:Gh} {wI:World} {x0:BeamTake} {up0:Value} (rp0:RV gI.m wI x0 up0) {r:BeamTake} (h:f12 x0=some r):Fn Tryz.prog 12 #[up0] gI wI (fun m w v=>RV m w (r) v):=by
 unfold f12 at h
 refine fn_of_E Tryz.func12 rfl (Nat.le_of_ble_eq_true rfl) fun g0 hm hfr=>?_
 have rp0:RV g0.m wI x0 up0:=hm ▸ rp0
 show E _ 9 none _ _ _ _ _
 refine E_seq (E_region (EL_do .plain rfl (D_boxO (g:=g0) 2001 rfl rp0 fun g1 w1 p1 hs b1=>?_)))
 have hfr:=hfr.stp hs
 refine EL_do .plain rfl (D_allocOc (g:=g1) 2002 (⟨0,0,[],0⟩:BeamTake) Tryz.zeroValue37 (fun m w=>⟨_,(rep_two rep_int (rep_two rep_int (rep_two rep_nil rep_int))),rfl⟩) fun g2 w2 p2 hs b2 cb=>?_)
 have hfr:=hfr.stp hs
 have b1:=b1.stp hs rfl
 have i6:OSF 2002 60202 2 g2 w2 69 37 ([]:List BeamPair) p2:=cb.osf (by rfl)
 clear cb
 refine EL_nil (thn_n (E_seq (E_region (EL_do .plain rfl (D_buildSlice (g:=g2) 3003 (xs:=([]:List BeamPair)) (vs:=[]) Tryz.underlying35 Tryz.sizeOf69 Tryz.zeroValue69 rfl rfl .nil RVs.nil rfl rfl fun g3 w3 v3 hs o3 r3 hxt hfl=>?_)))))
 have hfr:=hfr.stp hs
 have b1:=b1.stp hs rfl
 have b2:=b2.stp hs rfl
 refine EL_p (fPtr p1 2) (P_fieldAddr at_37_2 rfl (OB.ptr b1)) rfl ?_
 refine EL_do .plain rfl (D_loadF (g:=g3) part_BeamTake_2.1 Tryz.isAgg35 Tryz.sizeOf35 rfl b1 fun v5 r5=>?_)
 obtain ⟨y7,o0,h⟩:=bsome h
 refine EL_do .plain rfl (D_append (g:=g3) (i:=3003) Tryz.underlying35 info_69 rfl rfl o3 r3 rfl r5 o0 fun g6 w6 v6 hs o6 r6 _=>?_)
 have hfr:=hfr.stp hs
 have b1:=b1.stp hs rfl
 have b2:=b2.stp hs rfl
 refine EL_p (fPtr p1 2) (P_fieldAddr at_37_2 rfl (OB.ptr b1)) rfl ?_
 refine EL_do .plain rfl (D_storeFc (g:=g6) part_BeamTake_2 Tryz.sizeOf35 rfl b1 rfl r6 fun g9 w9 hs b9 rst hos=>?_)
 have g8:=hos _ _ 3003 69 (y7:List BeamPair) (rv_cells1 r6) rfl o6
 clear rst hos
 have hfr:=hfr.stp hs
 have b2:=b2.stp hs rfl
 refine EL_nil (thn_n (E_seq (E_region (EL_do .plain rfl (D_loadO (g:=g9) Tryz.isAgg37 Tryz.sizeOf37 rfl b9 fun l5 t5=>?_)))))
 refine EL_do .plain rfl (D_storeOc (g:=g9) (v:=l5) Tryz.sizeOf37 rfl b2 rfl t5 fun l8 n8 hs b11 cb=>?_)
 clear cb
 have hfr:=hfr.stp hs
 refine EL_nil (thn_n (E_ret ?_))
 obtain rfl:=sinj h
 obtain ⟨ad12,cv12,hp12,hl12,cr12⟩:=ob_read Tryz.isAgg37 Tryz.sizeOf37 b11
 exact endm_c rfl rfl ((show _=p2 from rfl).trans hp12) hl12 ⟨_,hfr,cr12⟩
def f16 (x0:UInt8) (x1:List UInt16):Option (Design):=
 (rem64 ((x0).toNat:Int) (7:Int)).bind fun y2=>
 Option.bind (α:=Design) (
  lp (σ:=Design × Int) (fun eF (l5,o0)=>
   jn (σ:=Unit) (fun _=>
    Option.bind (α:=Design) (
     Option.bind (α:=Int) (
      bif (decide (o0 < ((x1).length : Int))) then
       (idx x1 o0).bind fun zD=>
       (shl64 (1:Int) ((wu64 (l5).Hooks))).bind fun xE=>
       (rem64 ((zD).toNat:Int) xE).bind fun aE=>
       some (aE)
      else
       some ((1:Int))
      ) fun lB=>
     (apnd 8 ((l5).Rows) (([lB]:List Int))).bind fun yE=>
     some ({ l5 with Rows:=yE })
     ) fun mB=>
    eF (mB,(w64 (o0 + (1:Int))))
    ) fun rF=>
   Option.bind (α:=Bool) (
    bif (o0 == (0 : Int)) then
     some (true)
    else
     bif (decide (o0 < ((x1).length : Int))) then
      some ((decide (o0 < (12:Int))))
     else
      some (false)
    ) fun v8=>
   bif v8 then
    rF ()
   else
    some (l5)
   ) big ((⟨(w64 ((2:Int) + y2)),[]⟩:Design),(0:Int))
  ) fun nB=>
 some (nB)
theorem en16:Enters Tryz.prog 16:=enters_of Tryz.func16 (by kernel_rfl) rfl
theorem wk16 {gI:Gh} {wI:World} {x0:UInt8} {x1:List UInt16} {up1:Value} (rp1:RV gI.m wI x1 up1) {r:Design} (h:f16 x0 x1=some r):Fn Tryz.prog 16 #[.int .u8 (UInt8.toNat (x0)),up1] gI wI (fun m w v=>RV m w (r) v):=by
 unfold f16 at h
 refine fn_of_E Tryz.func16 rfl (Nat.le_of_ble_eq_true rfl) fun g0 hm hfr=>?_
 have rp1:RV g0.m wI x1 up1:=hm ▸ rp1
 show E _ 48 none _ _ _ _ _
 refine E_seq (E_region (EL_do .plain rfl (D_allocOc (g:=g0) 2004 (⟨0,[]⟩:Design) Tryz.zeroValue29 (fun m w=>⟨_,(rep_two rep_int rep_nil),rfl⟩) fun g1 w1 p1 hs b1 cb=>?_)))
 have hfr:=hfr.stp hs
 have rp1:=rp1.stp hs
 have uC:OSF 2004 60401 1 g1 w1 3 29 ([]:List Int) p1:=cb.osf (by rfl)
 clear cb
 refine EL_nil (thn_n (E_seq (E_region (EL_mw (.int .u8 (UInt8.toNat (x0))) rfl rfl ?_))))
 refine EL_p (.int .i64 (((x0).toNat:Int))) (P_u8int Tryz.underlying5 Tryz.underlying3 rfl) rfl ?_
 obtain ⟨y2,hy2,h⟩:=bsome h
 refine EL_p (.int .i64 (y2)) (P_int rfl rfl (congrArg (Option.map (Value.int .i64)) hy2)) rfl ?_
 refine EL_in (.int .i64 ((w64 ((2:Int) + y2)))) rfl rfl rfl rfl ?_
 have r3:RV g1.m w1 (⟨(w64 ((2:Int) + y2)),[]⟩:Design) (.agg (setCh [[.int .i64 0],[.slice none 0 0]] [(0,.int .i64 ((w64 ((2:Int) + y2))))]).flatten.toArray):=RV_build rfl (rep_pair (rfl) (rep_last (rep_nil)))
 generalize hv3:(Value.agg (setCh [[.int .i64 0],[.slice none 0 0]] [(0,.int .i64 ((w64 ((2:Int) + y2))))]).flatten.toArray)=v3 at r3
 refine EL_p v3 (hv3 ▸ P_build (vs:=[(0,.int .i64 ((w64 ((2:Int) + y2))))]) [[.int .i64 0],[.slice none 0 0]] lay_29 rfl rfl (.cons rfl .nil) ⟨⟨_,rfl,rfl⟩,trivial⟩) rfl ?_
 refine EL_do .plain rfl (D_allocOc (g:=g1) 2005 (⟨0,[]⟩:Design) Tryz.zeroValue29 (fun m w=>⟨_,(rep_two rep_int rep_nil),rfl⟩) fun g4 w4 p4 hs b4 cb=>?_)
 have hfr:=hfr.stp hs
 have rp1:=rp1.stp hs
 have uC:=uC.stp hs rfl
 have b1:=b1.stp hs rfl
 have r3:=r3.stp hs
 have jJ:OSF 2005 60501 1 g4 w4 3 29 ([]:List Int) p4:=cb.osf (by rfl)
 clear cb
 refine EL_do .plain rfl (D_storeOc (g:=g4) (v:=v3) Tryz.sizeOf29 rfl b4 rfl r3 fun g5 w5 hs b5 cb=>?_)
 have sH:OSF 2005 60501 1 g5 w5 3 29 ([]:List Int) p4:=cb.osf (by rw [← hv3]; rfl)
 clear cb
 have hfr:=hfr.stp hs
 have rp1:=rp1.stp hs
 have uC:=uC.stp hs rfl
 have b1:=b1.stp hs rfl
 refine EL_nil (thn_n ?_)
 obtain ⟨nB,hx,h⟩:=bsome h
 refine E_join (fun e w=>∃ (g:Gh) ,Fr gI wI g w∧e 4=p1∧OB 2004 g w 29 ((⟨0,[]⟩:Design):Design) p1∧OSF 2004 60401 1 g w 3 29 (((⟨0,[]⟩:Design)).Rows) p1∧e 5=p4∧OB 2005 g w 29 (nB:Design) p4∧OSF 2005 60501 1 g w 3 29 ((nB).Rows) p4) (fun Q' hQ=>?_) (fun lI kJ hR=>?_)
 ·replace h := hx
  clear hx
  refine E_seq (E_region (EL_at (.int .i64 (0)) rfl rfl ?_))
  refine EL_nil (thn_n (E_block ?_))
  refine E_lp h (fun (s:Design × Int) e w=>∃ (g:Gh) ,Fr gI wI g w∧e 1=up1∧RV g.m w (x1:List UInt16) up1∧e 4=p1∧OB 2004 g w 29 ((⟨0,[]⟩:Design):Design) p1∧OSF 2004 60401 1 g w 3 29 (((⟨0,[]⟩:Design)).Rows) p1∧e 5=p4∧OB 2005 g w 29 (s.1:Design) p4∧OSF 2005 60501 1 g w 3 29 ((s.1).Rows) p4∧e 6=.int .i64 (s.2)) ⟨g5,hfr,rfl,rp1,rfl,b1,uC,rfl,b5,sH,rfl⟩ (fun X152 eF jH=>?_)
  rintro ⟨l5,o0⟩ mI lJ ⟨zE,hfr,oB,vB,vC,bD,u4_1_153,cD,lD,u5_1_153,l9⟩ h
  refine E_joinC h (fun (s:Unit) e w=>∃ (g:Gh) ,Fr gI wI g w∧e 1=up1∧RV g.m w (x1:List UInt16) up1∧e 4=p1∧OB 2004 g w 29 ((⟨0,[]⟩:Design):Design) p1∧OSF 2004 60401 1 g w 3 29 (((⟨0,[]⟩:Design)).Rows) p1∧e 5=p4∧OB 2005 g w 29 (l5:Design) p4∧OSF 2005 60501 1 g w 3 29 ((l5).Rows) p4∧e 6=.int .i64 (o0)) (fun X160 rF kH h=>?_) ?_
  ·obtain ⟨v8, hx, h⟩ := bsome h
   refine E_join (fun e w=>∃ (g:Gh) ,Fr gI wI g w∧e 1=up1∧RV g.m w (x1:List UInt16) up1∧e 4=p1∧OB 2004 g w 29 ((⟨0,[]⟩:Design):Design) p1∧OSF 2004 60401 1 g w 3 29 (((⟨0,[]⟩:Design)).Rows) p1∧e 5=p4∧OB 2005 g w 29 (l5:Design) p4∧OSF 2005 60501 1 g w 3 29 ((l5).Rows) p4∧e 6=.int .i64 (o0)∧e 24=.bool (v8)) (fun Q' hQ=>?_) (fun nI mJ hR=>?_)
   ·replace h := hx
    clear hx
    refine E_region (EL_mv l9 rfl ?_)
    refine EL_in (.bool ((o0 == (0:Int)))) rfl rfl rfl rfl ?_
    refine EL_mw (.bool ((o0 == (0:Int)))) rfl rfl ?_
    rcases csome h with ⟨t5,h⟩ | ⟨t5,h⟩
    ·refine EL_s rfl rfl t5 rfl rfl ?_
     iterate 4 refine EL_s rfl rfl t5 rfl rfl ?_
     refine EL_skip (.off rfl rfl) rfl ?_
     refine EL_skip (.off rfl rfl) rfl ?_
     refine EL_s rfl rfl t5 rfl rfl ?_
     refine EL_p (.bool true) (P_pick (b:=(o0 == (0:Int))) rfl (pick_t t5 rfl)) rfl ?_
     refine EL_nil ?_
     obtain rfl:=sinj h
     exact hQ _ _ ⟨zE,hfr,oB,vB,vC,bD,u4_1_153,cD,lD,u5_1_153,l9,rfl⟩
    ·refine EL_y (.int .i64 (o0)) (P_move l9) rfl rfl t5 rfl ?_
     refine EL_y up1 (P_move oB) rfl rfl t5 rfl ?_
     refine EL_y (.int .i64 ((x1).length:Int)) (P_len Tryz.underlying22 rfl vB) rfl rfl t5 rfl ?_
     refine EL_y (.bool ((decide (o0 < ((x1).length:Int))))) (P_int rfl rfl rfl) rfl rfl t5 rfl ?_
     refine EL_y (.bool ((decide (o0 < ((x1).length:Int))))) (P_move rfl) rfl rfl t5 rfl ?_
     rcases csome h with ⟨aB,h⟩ | ⟨aB,h⟩
     ·refine EL_y (.int .i64 (o0)) (P_move l9) rfl rfl aB rfl ?_
      refine EL_y (.bool ((decide (o0 < (12:Int))))) (P_int rfl rfl rfl) rfl rfl aB rfl ?_
      refine EL_y (.bool ((decide (o0 < (12:Int))))) (P_pick (b:=(decide (o0 < ((x1).length:Int)))) rfl (pick_t aB rfl)) rfl rfl t5 rfl ?_
      refine EL_p (.bool ((decide (o0 < (12:Int))))) (P_pick (b:=(o0 == (0:Int))) rfl (pick_f t5 rfl)) rfl ?_
      refine EL_nil ?_
      obtain rfl:=sinj h
      exact hQ _ _ ⟨zE,hfr,oB,vB,vC,bD,u4_1_153,cD,lD,u5_1_153,l9,rfl⟩
     ·refine EL_s rfl rfl aB rfl rfl ?_
      refine EL_s rfl rfl aB rfl rfl ?_
      refine EL_y (.bool false) (P_pick (b:=(decide (o0 < ((x1).length:Int)))) rfl (pick_f aB rfl)) rfl rfl t5 rfl ?_
      refine EL_p (.bool false) (P_pick (b:=(o0 == (0:Int))) rfl (pick_f t5 rfl)) rfl ?_
      refine EL_nil ?_
      obtain rfl:=sinj h
      exact hQ _ _ ⟨zE,hfr,oB,vB,vC,bD,u4_1_153,cD,lD,u5_1_153,l9,rfl⟩
   ·clear hx
    obtain ⟨sF,hfr,tF,uF,lE,mE,u4_1_165,oE,rE,u5_1_165,vF,yD⟩:=hR
    rcases csome h with ⟨bE,h⟩ | ⟨bE,h⟩
    ·refine E_cond_true (Eq.trans (show ev _ _ = .bool (v8) from yD) (congrArg Value.bool bE)) ?_
     exact E_skip (thn_n (kH () _ _ ⟨sF,hfr,tF,uF,lE,mE,u4_1_165,oE,rE,u5_1_165,vF⟩ h))
    ·refine E_cond_false (Eq.trans (show ev _ _ = .bool (v8) from yD) (congrArg Value.bool bE)) ?_
     refine E_exit ?_
     refine thn_e ?_
     refine thn_e ?_
     refine blk_hit ?_
     obtain rfl:=sinj h
     exact hQ _ _ ⟨sF,hfr,lE,mE,u4_1_165,oE,rE,u5_1_165⟩
  ·rintro _ pI nJ ⟨xF, hfr, yB, g8, uE, zB, u4_1_167, nD, n9, u5_1_167, cC⟩ h
   obtain ⟨mB,hx,h⟩:=bsome h
   refine E_join (fun e w=>∃ (g:Gh) ,Fr gI wI g w∧e 1=up1∧RV g.m w (x1:List UInt16) up1∧e 4=p1∧OB 2004 g w 29 ((⟨0,[]⟩:Design):Design) p1∧OSF 2004 60401 1 g w 3 29 (((⟨0,[]⟩:Design)).Rows) p1∧e 5=p4∧OB 2005 g w 29 (mB:Design) p4∧OSF 2005 60501 1 g w 3 29 ((mB).Rows) p4∧e 6=.int .i64 (o0)) (fun Q' hQ=>?_) (fun qI oJ hR=>?_)
   ·replace h := hx
    clear hx
    refine E_block ?_
    refine E_seq (E_region (EL_at (.int .i64 (1)) rfl rfl ?_))
    refine EL_nil (thn_n ?_)
    obtain ⟨lB,hx,h⟩:=bsome h
    refine E_join (fun e w=>∃ (g:Gh) ,Fr gI wI g w∧e 1=up1∧RV g.m w (x1:List UInt16) up1∧e 4=p1∧OB 2004 g w 29 ((⟨0,[]⟩:Design):Design) p1∧OSF 2004 60401 1 g w 3 29 (((⟨0,[]⟩:Design)).Rows) p1∧e 5=p4∧OB 2005 g w 29 (l5:Design) p4∧OSF 2005 60501 1 g w 3 29 ((l5).Rows) p4∧e 6=.int .i64 (o0)∧e 7=.int .i64 (lB)) (fun Q' hQ=>?_) (fun sI pJ hR=>?_)
    ·replace h := hx
     clear hx
     refine E_seq (E_region (EL_mv cC rfl ?_))
     refine EL_mv yB rfl ?_
     refine EL_p (.int .i64 ((x1).length:Int)) (P_len Tryz.underlying22 rfl g8) rfl ?_
     refine EL_in (.bool ((decide (o0 < ((x1).length:Int))))) rfl rfl rfl rfl ?_
     refine EL_nil (thn_n ?_)
     rcases csome h with ⟨iE,h⟩ | ⟨iE,h⟩
     ·refine E_ct iE rfl ?_
      obtain ⟨zD,dF,h⟩:=bsome h
      have tH:=PT_idx g8 dF
      refine L_load (x:=.tmp 33) Tryz.isAgg42 Tryz.sizeOf42 tH fun qJ uH lH=>?_
      obtain rfl:=RV_u16.1 uH
      refine L_loadO (x:=.tmp 36) part_Design_0.1 Tryz.isAgg3 Tryz.sizeOf3 n9 fun rJ xH mH=>?_
      obtain rfl:=RV_int.1 xH
      obtain ⟨xE,nH,h⟩:=bsome h
      obtain ⟨aE,oH,h⟩:=bsome h
      refine E_drawL (g:=xF) (n:=11) [] [0,1,2,3,4,5,6,7,8,9,10] rfl mixed (by kernel_rfl) trivial ?_
      refine L_p up1 rfl rfl (P_move yB) ?_
      refine L_p (.int .i64 (o0)) rfl rfl (P_move cC) ?_
      refine L_p (ePtr up1 o0 1) rfl rfl (P_indexAddr (α:=UInt16) Tryz.underlying22 Tryz.sizeOf42 rfl g8 rfl dF) ?_
      refine L_ld (c:=.int .u16 (UInt16.toNat (zD))) rfl rfl .plain (fun _ _ h=>h.ch) lH rfl ?_
      refine L_p (.int .i64 (((zD).toNat:Int))) rfl rfl (P_u16int Tryz.underlying42 Tryz.underlying3 rfl) ?_
      refine L_p (fPtr p4 0) rfl rfl (P_fieldAddr at_29_0 nD (OB.ptr n9)) ?_
      refine L_ld (c:=.int .i64 ((l5).Hooks)) rfl rfl .plain (fun _ _ h=>⟨h.ch,fun b hb _=>h.below.block b hb⟩) mH rfl ?_
      refine L_p (.int .u64 (wu64 (l5).Hooks)) rfl rfl (P_intu64 Tryz.underlying3 Tryz.underlying71 rfl) ?_
      refine L_p (.int .i64 (xE)) rfl rfl (P_shlu rfl rfl nH) ?_
      refine L_p (.int .i64 (aE)) rfl rfl (P_int rfl rfl (congrArg (Option.map (Value.int .i64)) oH)) ?_
      refine L_p (.int .i64 (aE)) rfl rfl (P_assign rfl) ?_
      refine L_nl fun yH sJ hs=>?_
      have hfr:=hfr.ext hs
      have g8:=g8.ext hs
      have u4_1_167:=u4_1_167.ext hs
      have zB:=zB.ext hs
      have u5_1_167:=u5_1_167.ext hs
      have n9:=n9.ext hs
      clear hs
      refine EL_nil ?_
      obtain rfl:=sinj h
      exact hQ _ _ ⟨yH,hfr,yB,g8,uE,zB,u4_1_167,nD,n9,u5_1_167,cC,rfl⟩
     ·refine E_cf iE rfl ?_
      refine E_skip ?_
      obtain rfl:=sinj h
      exact hQ _ _ ⟨xF,hfr,yB,g8,uE,zB,u4_1_167,nD,n9,u5_1_167,cC,rfl⟩
    ·clear hx
     obtain ⟨yF,hfr,aG,l8,bG,n8,u4_1_288,oD,i6,u5_1_288,cG,eG⟩:=hR
     refine E_region (EL_p (fPtr p4 1) (P_fieldAddr at_29_1 oD (OB.ptr i6)) rfl ?_)
     refine EL_do .plain rfl (D_loadFS (g:=yF) part_Design_1.1 Tryz.isAgg25 Tryz.sizeOf25 rfl i6 u5_1_288 fun vJ cF o290=>?_)
     refine EL_mv eG rfl ?_
     refine EL_do .plain rfl (D_buildSlice (g:=yF) 3044 (xs:=([lB]:List Int)) (vs:=[.int .i64 (lB)]) Tryz.underlying25 Tryz.sizeOf3 Tryz.zeroValue3 rfl rfl (.cons rfl .nil) (RVs.cons (RV_int.2 rfl) RVs.nil) rfl rfl fun zH xJ zJ hs o291 aI hxt hfl=>?_)
     have hfr:=hfr.stp hs
     have l8:=l8.stp hs
     have u4_1_288:=u4_1_288.stp hs rfl
     have n8:=n8.stp hs rfl
     have i6:=i6.stp hs rfl
     have cF:=cF.stp hs
     have o290:=o290.stp hs rfl
     obtain ⟨yE,pH,h⟩:=bsome h
     refine EL_do .plain rfl (D_append (g:=zH) (i:=60501) Tryz.underlying25 info_3 rfl rfl o290 cF rfl aI pH fun bI aK bK hs o292 gG _=>?_)
     have hfr:=hfr.stp hs
     have l8:=l8.stp hs
     have u4_1_288:=u4_1_288.stp hs rfl
     have n8:=n8.stp hs rfl
     have i6:=i6.stp hs rfl
     refine EL_p (fPtr p4 1) (P_fieldAddr at_29_1 oD (OB.ptr i6)) rfl ?_
     refine EL_do .plain rfl (D_storeFc (g:=bI) part_Design_1 Tryz.sizeOf25 rfl i6 rfl gG fun dI cK hs b295 rst hos=>?_)
     have iG:=hos _ _ 60501 3 (yE:List Int) (rv_cells1 gG) rfl o292
     clear rst hos
     have hfr:=hfr.stp hs
     have l8:=l8.stp hs
     have u4_1_288:=u4_1_288.stp hs rfl
     have n8:=n8.stp hs rfl
     refine EL_nil (blk_n ?_)
     obtain rfl:=sinj h
     exact hQ _ _ ⟨dI,hfr,aG,l8,bG,n8,u4_1_288,oD,b295,iG,cG⟩
   ·clear hx
    obtain ⟨iI,hfr,jG,kG,lG,mG,u4_1_296,sG,xG,u5_1_296,yG⟩:=hR
    refine E_region (EL_mv yG rfl ?_)
    refine EL_in (.int .i64 ((w64 (o0 + (1:Int))))) rfl rfl rfl rfl ?_
    refine EL_at (.int .i64 ((w64 (o0 + (1:Int))))) rfl rfl ?_
    exact EL_nil (thn_n (jH (mB,(w64 (o0 + (1:Int)))) _ _ ⟨iI,hfr,jG,kG,lG,mG,u4_1_296,sG,xG,u5_1_296,rfl⟩ h))
 ·clear hx
  obtain ⟨zG,hfr,vE,aH,u4_1_297,cH,gH,u5_1_297⟩:=hR
  refine E_seq (E_region (EL_do .plain rfl (D_loadO (g:=zG) Tryz.isAgg29 Tryz.sizeOf29 cH gH fun jI kI=>?_)))
  refine EL_do .plain rfl (D_storeOc (g:=zG) (v:=jI) Tryz.sizeOf29 vE aH rfl kI fun dK lK hs b299 cb=>?_)
  clear cb
  have hfr:=hfr.stp hs
  refine EL_nil (thn_n (E_ret ?_))
  obtain rfl:=sinj h
  obtain ⟨ad300,cv300,hp300,qH,cr300⟩:=ob_read Tryz.isAgg29 Tryz.sizeOf29 b299
  exact endm_c rfl rfl ((show _=p1 from vE).trans hp300) qH ⟨_,hfr,cr300⟩
def f21 (x0:List Int):Option ((List Int)):=
 (apnd 8 (([]:List Int)) x0).bind fun y3=>
 some (y3)
theorem en21:Enters Tryz.prog 21:=enters_of Tryz.func21 (by kernel_rfl) rfl
theorem wk21 {gI:Gh} {wI:World} {x0:List Int} {up0:Value} (rp0:RV gI.m wI x0 up0) {r:(List Int)} (h:f21 x0=some r):Fn Tryz.prog 21 #[up0] gI wI (fun m w v=>RV m w (r) v):=by
 unfold f21 at h
 refine fn_of_E Tryz.func21 rfl (Nat.le_of_ble_eq_true rfl) fun g0 hm hfr=>?_
 have rp0:RV g0.m wI x0 up0:=hm ▸ rp0
 show E _ 6 none _ _ _ _ _
 refine E_seq (E_region (EL_at (.slice none 0 0) rfl rfl ?_))
 refine EL_nil (thn_n (E_seq (E_region (EL_do .plain rfl (D_buildSlice (g:=g0) 3003 (xs:=([]:List Int)) (vs:=[]) Tryz.underlying25 Tryz.sizeOf3 Tryz.zeroValue3 rfl rfl .nil RVs.nil rfl rfl fun g1 w1 v1 hs o1 r1 hxt hfl=>?_)))))
 have hfr:=hfr.stp hs
 have rp0:=rp0.stp hs
 refine EL_mw up0 rfl rfl ?_
 obtain ⟨y3,hy3,h⟩:=bsome h
 refine EL_do .plain rfl (D_append (g:=g1) (i:=3003) Tryz.underlying25 info_3 rfl rfl o1 r1 rfl rp0 hy3 fun g2 w2 v2 hs o2 r2 _=>?_)
 have hfr:=hfr.stp hs
 refine EL_at v2 rfl rfl ?_
 refine EL_nil (thn_n (E_ret ?_))
 obtain rfl:=sinj h
 exact end1 rfl rfl (show _=v2 from rfl) ⟨_,hfr,r2⟩
def f26 (x0:BeamRatio) (x1:Int) (x2:Int):Option (Int):=
 (quo64 (w64 ((w64 (x1 * ((x0).Ratio).Num)) * (w64 ((1000:Int) - x2)))) (w64 (((x0).Ratio).Den * (1000:Int)))).bind fun y8=>
 some (y8)
theorem en26:Enters Tryz.prog 26:=enters_of Tryz.func26 (by kernel_rfl) rfl
theorem wk26 {gI:Gh} {wI:World} {x0:BeamRatio} {x1:Int} {x2:Int} {up0:Value} (rp0:RV gI.m wI x0 up0) {r:Int} (h:f26 x0 x1 x2=some r):Fn Tryz.prog 26 #[up0,.int .i64 (x1),.int .i64 (x2)] gI wI (fun _ _ v=>v=.int .i64 (r)):=by
 unfold f26 at h
 refine fn_of_E Tryz.func26 rfl (Nat.le_of_ble_eq_true rfl) fun g0 hm hfr=>?_
 have rp0:RV g0.m wI x0 up0:=hm ▸ rp0
 show E _ 20 none _ _ _ _ _
 refine E_seq (E_region (EL_do .plain rfl (D_box (g:=g0) rfl rp0 fun g1 w1 p1 hs q1=>?_)))
 have hfr:=hfr.ext hs
 refine EL_at (.int .i64 (0)) rfl rfl ?_
 refine EL_nil (thn_n (E_seq (E_region (EL_mw (.int .i64 (x1)) rfl rfl ?_))))
 refine EL_p (fPtr p1 0) (P_fieldAddr at_99_0 rfl (PT.ptr q1)) rfl ?_
 have q2:=PT_field (part_BeamRatio_0).1 q1
 refine EL_p (fPtr (fPtr p1 0) 0) (P_fieldAddr at_97_0 rfl (PT.ptr q2)) rfl ?_
 have q3:=PT_field (part_Ratio_0).1 q2
 refine EL_do .plain rfl (D_load (g:=g1) Tryz.isAgg3 Tryz.sizeOf3 rfl q3 fun v4 r4=>?_)
 obtain rfl:=RV_int.1 r4
 refine EL_in (.int .i64 ((w64 (x1 * ((x0).Ratio).Num)))) rfl rfl rfl rfl ?_
 refine EL_mw (.int .i64 (x2)) rfl rfl ?_
 refine EL_in (.int .i64 ((w64 ((1000:Int) - x2)))) rfl rfl rfl rfl ?_
 refine EL_p (.int .i64 ((w64 ((w64 (x1 * ((x0).Ratio).Num)) * (w64 ((1000:Int) - x2)))))) (P_int rfl rfl rfl) rfl ?_
 refine EL_p (fPtr p1 0) (P_fieldAddr at_99_0 rfl (PT.ptr q1)) rfl ?_
 have q5:=PT_field (part_BeamRatio_0).1 q1
 refine EL_p (fPtr (fPtr p1 0) 1) (P_fieldAddr at_97_1 rfl (PT.ptr q5)) rfl ?_
 have q6:=PT_field (part_Ratio_1).1 q5
 refine EL_do .plain rfl (D_load (g:=g1) Tryz.isAgg3 Tryz.sizeOf3 rfl q6 fun v7 r7=>?_)
 obtain rfl:=RV_int.1 r7
 refine EL_in (.int .i64 ((w64 (((x0).Ratio).Den * (1000:Int))))) rfl rfl rfl rfl ?_
 obtain ⟨y8,o0,h⟩:=bsome h
 refine EL_p (.int .i64 (y8)) (P_int rfl rfl (congrArg (Option.map (Value.int .i64)) o0)) rfl ?_
 refine EL_at (.int .i64 (y8)) rfl rfl ?_
 refine EL_nil (thn_n (E_ret ?_))
 obtain rfl:=sinj h
 exact end1 rfl rfl (show _=.int .i64 (y8) from rfl) ⟨_,hfr,rfl⟩
def f30 (x0:Int) (x1:Int):Option (Span):=
 some ((⟨x0,x1⟩:Span))
theorem en30:Enters Tryz.prog 30:=enters_of Tryz.func30 (by kernel_rfl) rfl
theorem wk30 {gI:Gh} {wI:World} {x0:Int} {x1:Int}  {r:Span} (h:f30 x0 x1=some r):Fn Tryz.prog 30 #[.int .i64 (x0),.int .i64 (x1)] gI wI (fun m w v=>RV m w (r) v):=by
 unfold f30 at h
 refine fn_of_E Tryz.func30 rfl (Nat.le_of_ble_eq_true rfl) fun g0 hm hfr=>?_
 show E _ 8 none _ _ _ _ _
 refine E_seq (E_region (EL_do .plain rfl (D_allocOc (g:=g0) 2004 (⟨0,0⟩:Span) Tryz.zeroValue56 (fun m w=>⟨_,(rep_two rep_int rep_int),rfl⟩) fun g1 w1 p1 hs b1 cb=>?_)))
 have hfr:=hfr.stp hs
 clear cb
 refine EL_nil (thn_n (E_seq (E_region (EL_mw (.int .i64 (x0)) rfl rfl ?_))))
 refine EL_mw (.int .i64 (x1)) rfl rfl ?_
 have r2:RV g1.m w1 (⟨x0,x1⟩:Span) (.agg (setCh [[.int .i64 0],[.int .i64 0]] [(0,.int .i64 (x0)),(1,.int .i64 (x1))]).flatten.toArray):=RV_build rfl (rep_pair (rfl) (rep_last (rfl)))
 generalize hv2:(Value.agg (setCh [[.int .i64 0],[.int .i64 0]] [(0,.int .i64 (x0)),(1,.int .i64 (x1))]).flatten.toArray)=v2 at r2
 refine EL_p v2 (hv2 ▸ P_build (vs:=[(0,.int .i64 (x0)),(1,.int .i64 (x1))]) [[.int .i64 0],[.int .i64 0]] lay_56 rfl rfl (.cons rfl (.cons rfl .nil)) ⟨⟨_,rfl,rfl⟩,⟨⟨_,rfl,rfl⟩,trivial⟩⟩) rfl ?_
 refine EL_do .plain rfl (D_storeOc (g:=g1) (v:=v2) Tryz.sizeOf56 rfl b1 rfl r2 fun g3 w3 hs b3 cb=>?_)
 clear cb
 have hfr:=hfr.stp hs
 refine EL_nil (thn_n (E_ret ?_))
 obtain rfl:=sinj h
 obtain ⟨ad4,cv4,hp4,o0,cr4⟩:=ob_read Tryz.isAgg56 Tryz.sizeOf56 b3
 exact endm_c rfl rfl ((show _=p1 from rfl).trans hp4) o0 ⟨_,hfr,cr4⟩
def f40 (x0:List BookTie) (x1:BookTie→Option Str):Option ((List Str)):=
 Option.bind (α:=(List Str)) (
  lp (σ:=(List Str) × Int) (fun iE (n8,l5)=>
   bif (decide (l5 < ((x0).length : Int))) then
    Option.bind (α:=(List Str)) (
     (idx x0 l5).bind fun lE=>
     (x1 lE).bind fun n9=>
     (apnd 16 n8 (([n9]:List Str))).bind fun mE=>
     some (mE)
     ) fun g8=>
    iE (g8,(w64 (l5 + (1:Int))))
   else
    some (n8)
   ) big ([],(0:Int))
  ) fun l8=>
 some (l8)
theorem en40:Enters Tryz.prog 40:=enters_of Tryz.func40 (by kernel_rfl) rfl
theorem wk40 {gI:Gh} {wI:World} {x0:List BookTie} {x1:BookTie→Option Str} {up0:Value} (rp0:RV gI.m wI x0 up0) {up1:Value} (rp1:FnV1 Tryz.prog x1 up1 gI wI) {r:(List Str)} (h:f40 x0 x1=some r):Fn Tryz.prog 40 #[up0,up1] gI wI (fun m w v=>RV m w (r) v):=by
 unfold f40 at h
 refine fn_of_E Tryz.func40 rfl (Nat.le_of_ble_eq_true rfl) fun g0 hm hfr=>?_
 have rp0:RV g0.m wI x0 up0:=hm ▸ rp0
 obtain ⟨ff1,fa1,fc1,rfl,fen1,fcl1⟩:=rp1
 show E _ 21 none _ _ _ _ _
 refine E_seq (E_region (EL_at (.slice none 0 0) rfl rfl ?_))
 refine EL_nil (thn_n ?_)
 obtain ⟨l8,hx,h⟩:=bsome h
 refine E_join (fun e w=>∃ (g:Gh) (v4:Value),Fr gI wI g w∧e 4=v4∧RV g.m w (l8:List Str) v4∧OS 1004 g w 9 (l8:List Str) v4) (fun Q' hQ=>?_) (fun eG jG hR=>?_)
 ·replace h := hx
  clear hx
  refine E_seq (E_region (EL_mw up0 rfl rfl ?_))
  refine EL_p (.int .i64 ((x0).length:Int)) (P_len Tryz.underlying47 rfl rp0) rfl ?_
  refine EL_mw (.int .i64 (0)) rfl rfl ?_
  refine EL_nil (thn_n (E_block ?_))
  refine E_lp h (fun (s:(List Str) × Int) e w=>∃ (g:Gh) (v4:Value),Fr gI wI g w∧e 1=(.func (.func ff1) fa1 fc1)∧e 4=v4∧RV g.m w (s.1:List Str) v4∧OS 1004 g w 9 (s.1:List Str) v4∧e 7=up0∧RV g.m w (x0:List BookTie) up0∧e 8=.int .i64 (((x0).length:Int))∧e 9=.int .i64 (s.2)) ⟨g0,(.slice none 0 0),hfr,rfl,rfl,RV_nil,OS.nil,rfl,rp0,rfl,rfl⟩ (fun X27 iE vE=>?_)
  rintro ⟨n8,l5⟩ gG kG ⟨vB,cC,hfr,aB,lB,t5,i6,mB,o0,nB,v8⟩ h
  refine E_seq (E_region (EL_in (.bool ((decide (l5 < ((x0).length:Int))))) v8 nB rfl rfl ?_))
  refine EL_nil (thn_n (E_seq ?_))
  rcases csome h with ⟨l9,h⟩ | ⟨l9,h⟩
  ·refine E_ct l9 rfl ?_
   refine E_skip (thn_n ?_)
   obtain ⟨g8,hx,h⟩:=bsome h
   refine E_join (fun e w=>∃ (g:Gh) (v4:Value),Fr gI wI g w∧e 1=(.func (.func ff1) fa1 fc1)∧e 4=v4∧RV g.m w (g8:List Str) v4∧OS 1004 g w 9 (g8:List Str) v4∧e 7=up0∧RV g.m w (x0:List BookTie) up0∧e 8=.int .i64 (((x0).length:Int))∧e 9=.int .i64 (l5)) (fun Q' hQ=>?_) (fun iG lG hR=>?_)
   ·replace h := hx
    clear hx
    refine E_block ?_
    refine E_seq (E_region ?_)
    obtain ⟨lE,yB,h⟩:=bsome h
    refine EL_p (ePtr up0 l5 3) (P_indexAddr (α:=BookTie) Tryz.underlying47 Tryz.sizeOf90 mB o0 v8 yB) rfl ?_
    have zE:=PT_idx o0 yB
    refine EL_do .plain rfl (D_load (g:=vB) Tryz.isAgg90 Tryz.sizeOf90 rfl zE fun cF zB=>?_)
    refine EL_do .plain rfl (D_allocOc (g:=vB) 2006 (⟨⟨[]⟩,⟨0,[]⟩⟩:BookTie) Tryz.zeroValue90 (fun m w=>⟨_,(rep_two rep_str (rep_two rep_int rep_nil)),rfl⟩) fun oE dF eF hs b44 cb=>?_)
    have hfr:=hfr.stp hs
    have t5:=t5.stp hs
    have i6:=i6.stp hs rfl
    have o0:=o0.stp hs
    have zB:=zB.stp hs
    have bG:OSF 2006 60602 2 oE dF 3 90 ([]:List Int) eF:=cb.osf (by rfl)
    clear cb
    refine EL_do .plain rfl (D_storeOc (g:=oE) (v:=cF) Tryz.sizeOf90 rfl b44 rfl zB fun rE mG hs b45 cb=>?_)
    clear cb
    have hfr:=hfr.stp hs
    have t5:=t5.stp hs
    have i6:=i6.stp hs rfl
    have o0:=o0.stp hs
    refine EL_nil (thn_n (E_region (EL_mv lB rfl ?_)))
    refine EL_mv aB rfl ?_
    refine EL_do .plain rfl (D_loadO (g:=rE) Tryz.isAgg90 Tryz.sizeOf90 rfl b45 fun rF sF=>?_)
    obtain ⟨n9,xE,h⟩:=bsome h
    refine EL_do .plain rfl (D_callv (g:=rE) (vs:=[rF]) rfl fen1 (.cons rfl .nil) (fcl1 _ _ hfr.ch _ _ _  sF xE) fun tF sG xG hs hr=>?_)
    have hfr:=hfr.ext hs
    have t5:=t5.ext hs
    have i6:=i6.ext hs
    have o0:=o0.ext hs
    obtain rfl:=RV_str.1 hr
    refine EL_do .plain rfl (D_buildSlice (g:=tF) 3017 (xs:=([n9]:List Str)) (vs:=[Str.v (n9)]) Tryz.underlying54 Tryz.sizeOf9 Tryz.zeroValue9 rfl rfl (.cons rfl .nil) (RVs.cons (RV_str.2 rfl) RVs.nil) rfl rfl fun uF yG zG hs o49 vF hxt hfl=>?_)
    have hfr:=hfr.stp hs
    have t5:=t5.stp hs
    have i6:=i6.stp hs rfl
    have o0:=o0.stp hs
    obtain ⟨mE,yE,h⟩:=bsome h
    refine EL_do .plain rfl (D_append (g:=uF) (i:=1004) Tryz.underlying54 info_9 rfl rfl i6 t5 rfl vF yE fun xF aH uE hs o50 yF _=>?_)
    have hfr:=hfr.stp hs
    have o0:=o0.stp hs
    refine EL_at uE rfl rfl ?_
    refine EL_nil (blk_n ?_)
    obtain rfl:=sinj h
    exact hQ _ _ ⟨xF,(uE),hfr,aB,rfl,yF,o50,mB,o0,nB,v8⟩
   ·clear hx
    obtain ⟨aG,uC,hfr,vC,bD,cD,lD,nD,oD,yD,zD⟩:=hR
    refine E_region (EL_in (.int .i64 ((w64 (l5 + (1:Int))))) zD rfl rfl rfl ?_)
    refine EL_mw (.int .i64 ((w64 (l5 + (1:Int))))) rfl rfl ?_
    exact EL_nil (thn_n (vE (g8,(w64 (l5 + (1:Int)))) _ _ ⟨aG,(uC),hfr,vC,bD,cD,lD,nD,oD,yD,rfl⟩ h))
  ·refine E_cf l9 rfl ?_
   refine E_exit ?_
   refine thn_e ?_
   refine thn_e ?_
   refine blk_hit ?_
   obtain rfl:=sinj h
   exact hQ _ _ ⟨vB,(cC),hfr,lB,t5,i6⟩
 ·clear hx
  obtain ⟨cH,oB,hfr,aE,bE,cG⟩:=hR
  refine E_seq (E_region (EL_mv aE rfl ?_))
  refine EL_at oB rfl rfl ?_
  refine EL_nil (thn_n (E_ret ?_))
  obtain rfl:=sinj h
  exact end1 rfl rfl (show _=oB from rfl) ⟨_,hfr,bE⟩
def f41 (x0:BookTie):Option (Str):=
 some ((x0).Name)
theorem en41:Enters Tryz.prog 41:=enters_of Tryz.func41 (by kernel_rfl) rfl
theorem wk41 {gI:Gh} {wI:World} {x0:BookTie} {up0:Value} (rp0:RV gI.m wI x0 up0) {r:Str} (h:f41 x0=some r):Fn Tryz.prog 41 #[up0] gI wI (fun _ _ v=>v=Str.v (r)):=by
 unfold f41 at h
 refine fn_of_E Tryz.func41 rfl (Nat.le_of_ble_eq_true rfl) fun g0 hm hfr=>?_
 have rp0:RV g0.m wI x0 up0:=hm ▸ rp0
 show E _ 5 none _ _ _ _ _
 refine E_seq (E_region (EL_do .plain rfl (D_box (g:=g0) rfl rp0 fun g1 w1 p1 hs q1=>?_)))
 have hfr:=hfr.ext hs
 refine EL_at (Str.v (⟨[]⟩:Str)) rfl rfl ?_
 refine EL_nil (thn_n (E_seq (E_region (EL_p (fPtr p1 0) (P_fieldAddr at_90_0 rfl (PT.ptr q1)) rfl ?_))))
 have q2:=PT_field (part_BookTie_0).1 q1
 refine EL_do .plain rfl (D_load (g:=g1) Tryz.isAgg9 Tryz.sizeOf9 rfl q2 fun v3 r3=>?_)
 obtain rfl:=RV_str.1 r3
 refine EL_at (Str.v ((x0).Name)) rfl rfl ?_
 refine EL_nil (thn_n (E_ret ?_))
 obtain rfl:=sinj h
 exact end1 rfl rfl (show _=Str.v ((x0).Name) from rfl) ⟨_,hfr,rfl⟩
def f42 (x0:List BookChain) (x1:BookChain→Option Str):Option ((List Str)):=
 Option.bind (α:=(List Str)) (
  lp (σ:=(List Str) × Int) (fun iE (n8,l5)=>
   bif (decide (l5 < ((x0).length : Int))) then
    Option.bind (α:=(List Str)) (
     (idx x0 l5).bind fun lE=>
     (x1 lE).bind fun n9=>
     (apnd 16 n8 (([n9]:List Str))).bind fun mE=>
     some (mE)
     ) fun g8=>
    iE (g8,(w64 (l5 + (1:Int))))
   else
    some (n8)
   ) big ([],(0:Int))
  ) fun l8=>
 some (l8)
theorem en42:Enters Tryz.prog 42:=enters_of Tryz.func42 (by kernel_rfl) rfl
theorem wk42 {gI:Gh} {wI:World} {x0:List BookChain} {x1:BookChain→Option Str} {up0:Value} (rp0:RV gI.m wI x0 up0) {up1:Value} (rp1:FnV1 Tryz.prog x1 up1 gI wI) {r:(List Str)} (h:f42 x0 x1=some r):Fn Tryz.prog 42 #[up0,up1] gI wI (fun m w v=>RV m w (r) v):=by
 unfold f42 at h
 refine fn_of_E Tryz.func42 rfl (Nat.le_of_ble_eq_true rfl) fun g0 hm hfr=>?_
 have rp0:RV g0.m wI x0 up0:=hm ▸ rp0
 obtain ⟨ff1,fa1,fc1,rfl,fen1,fcl1⟩:=rp1
 show E _ 21 none _ _ _ _ _
 refine E_seq (E_region (EL_at (.slice none 0 0) rfl rfl ?_))
 refine EL_nil (thn_n ?_)
 obtain ⟨l8,hx,h⟩:=bsome h
 refine E_join (fun e w=>∃ (g:Gh) (v4:Value),Fr gI wI g w∧e 4=v4∧RV g.m w (l8:List Str) v4∧OS 1004 g w 9 (l8:List Str) v4) (fun Q' hQ=>?_) (fun eG jG hR=>?_)
 ·replace h := hx
  clear hx
  refine E_seq (E_region (EL_mw up0 rfl rfl ?_))
  refine EL_p (.int .i64 ((x0).length:Int)) (P_len Tryz.underlying48 rfl rp0) rfl ?_
  refine EL_mw (.int .i64 (0)) rfl rfl ?_
  refine EL_nil (thn_n (E_block ?_))
  refine E_lp h (fun (s:(List Str) × Int) e w=>∃ (g:Gh) (v4:Value),Fr gI wI g w∧e 1=(.func (.func ff1) fa1 fc1)∧e 4=v4∧RV g.m w (s.1:List Str) v4∧OS 1004 g w 9 (s.1:List Str) v4∧e 7=up0∧RV g.m w (x0:List BookChain) up0∧e 8=.int .i64 (((x0).length:Int))∧e 9=.int .i64 (s.2)) ⟨g0,(.slice none 0 0),hfr,rfl,rfl,RV_nil,OS.nil,rfl,rp0,rfl,rfl⟩ (fun X27 iE vE=>?_)
  rintro ⟨n8,l5⟩ gG kG ⟨vB,cC,hfr,aB,lB,t5,i6,mB,o0,nB,v8⟩ h
  refine E_seq (E_region (EL_in (.bool ((decide (l5 < ((x0).length:Int))))) v8 nB rfl rfl ?_))
  refine EL_nil (thn_n (E_seq ?_))
  rcases csome h with ⟨l9,h⟩ | ⟨l9,h⟩
  ·refine E_ct l9 rfl ?_
   refine E_skip (thn_n ?_)
   obtain ⟨g8,hx,h⟩:=bsome h
   refine E_join (fun e w=>∃ (g:Gh) (v4:Value),Fr gI wI g w∧e 1=(.func (.func ff1) fa1 fc1)∧e 4=v4∧RV g.m w (g8:List Str) v4∧OS 1004 g w 9 (g8:List Str) v4∧e 7=up0∧RV g.m w (x0:List BookChain) up0∧e 8=.int .i64 (((x0).length:Int))∧e 9=.int .i64 (l5)) (fun Q' hQ=>?_) (fun iG lG hR=>?_)
   ·replace h := hx
    clear hx
    refine E_block ?_
    refine E_seq (E_region ?_)
    obtain ⟨lE,yB,h⟩:=bsome h
    refine EL_p (ePtr up0 l5 3) (P_indexAddr (α:=BookChain) Tryz.underlying48 Tryz.sizeOf92 mB o0 v8 yB) rfl ?_
    have zE:=PT_idx o0 yB
    refine EL_do .plain rfl (D_load (g:=vB) Tryz.isAgg92 Tryz.sizeOf92 rfl zE fun cF zB=>?_)
    refine EL_do .plain rfl (D_allocOc (g:=vB) 2006 (⟨⟨[]⟩,⟨0,[]⟩⟩:BookChain) Tryz.zeroValue92 (fun m w=>⟨_,(rep_two rep_str (rep_two rep_int rep_nil)),rfl⟩) fun oE dF eF hs b44 cb=>?_)
    have hfr:=hfr.stp hs
    have t5:=t5.stp hs
    have i6:=i6.stp hs rfl
    have o0:=o0.stp hs
    have zB:=zB.stp hs
    have bG:OSF 2006 60602 2 oE dF 87 92 ([]:List ChainCard) eF:=cb.osf (by rfl)
    clear cb
    refine EL_do .plain rfl (D_storeOc (g:=oE) (v:=cF) Tryz.sizeOf92 rfl b44 rfl zB fun rE mG hs b45 cb=>?_)
    clear cb
    have hfr:=hfr.stp hs
    have t5:=t5.stp hs
    have i6:=i6.stp hs rfl
    have o0:=o0.stp hs
    refine EL_nil (thn_n (E_region (EL_mv lB rfl ?_)))
    refine EL_mv aB rfl ?_
    refine EL_do .plain rfl (D_loadO (g:=rE) Tryz.isAgg92 Tryz.sizeOf92 rfl b45 fun rF sF=>?_)
    obtain ⟨n9,xE,h⟩:=bsome h
    refine EL_do .plain rfl (D_callv (g:=rE) (vs:=[rF]) rfl fen1 (.cons rfl .nil) (fcl1 _ _ hfr.ch _ _ _  sF xE) fun tF sG xG hs hr=>?_)
    have hfr:=hfr.ext hs
    have t5:=t5.ext hs
    have i6:=i6.ext hs
    have o0:=o0.ext hs
    obtain rfl:=RV_str.1 hr
    refine EL_do .plain rfl (D_buildSlice (g:=tF) 3017 (xs:=([n9]:List Str)) (vs:=[Str.v (n9)]) Tryz.underlying54 Tryz.sizeOf9 Tryz.zeroValue9 rfl rfl (.cons rfl .nil) (RVs.cons (RV_str.2 rfl) RVs.nil) rfl rfl fun uF yG zG hs o49 vF hxt hfl=>?_)
    have hfr:=hfr.stp hs
    have t5:=t5.stp hs
    have i6:=i6.stp hs rfl
    have o0:=o0.stp hs
    obtain ⟨mE,yE,h⟩:=bsome h
    refine EL_do .plain rfl (D_append (g:=uF) (i:=1004) Tryz.underlying54 info_9 rfl rfl i6 t5 rfl vF yE fun xF aH uE hs o50 yF _=>?_)
    have hfr:=hfr.stp hs
    have o0:=o0.stp hs
    refine EL_at uE rfl rfl ?_
    refine EL_nil (blk_n ?_)
    obtain rfl:=sinj h
    exact hQ _ _ ⟨xF,(uE),hfr,aB,rfl,yF,o50,mB,o0,nB,v8⟩
   ·clear hx
    obtain ⟨aG,uC,hfr,vC,bD,cD,lD,nD,oD,yD,zD⟩:=hR
    refine E_region (EL_in (.int .i64 ((w64 (l5 + (1:Int))))) zD rfl rfl rfl ?_)
    refine EL_mw (.int .i64 ((w64 (l5 + (1:Int))))) rfl rfl ?_
    exact EL_nil (thn_n (vE (g8,(w64 (l5 + (1:Int)))) _ _ ⟨aG,(uC),hfr,vC,bD,cD,lD,nD,oD,yD,rfl⟩ h))
  ·refine E_cf l9 rfl ?_
   refine E_exit ?_
   refine thn_e ?_
   refine thn_e ?_
   refine blk_hit ?_
   obtain rfl:=sinj h
   exact hQ _ _ ⟨vB,(cC),hfr,lB,t5,i6⟩
 ·clear hx
  obtain ⟨cH,oB,hfr,aE,bE,cG⟩:=hR
  refine E_seq (E_region (EL_mv aE rfl ?_))
  refine EL_at oB rfl rfl ?_
  refine EL_nil (thn_n (E_ret ?_))
  obtain rfl:=sinj h
  exact end1 rfl rfl (show _=oB from rfl) ⟨_,hfr,bE⟩
def f43 (x0:BookChain):Option (Str):=
 some ((x0).Name)
theorem en43:Enters Tryz.prog 43:=enters_of Tryz.func43 (by kernel_rfl) rfl
theorem wk43 {gI:Gh} {wI:World} {x0:BookChain} {up0:Value} (rp0:RV gI.m wI x0 up0) {r:Str} (h:f43 x0=some r):Fn Tryz.prog 43 #[up0] gI wI (fun _ _ v=>v=Str.v (r)):=by
 unfold f43 at h
 refine fn_of_E Tryz.func43 rfl (Nat.le_of_ble_eq_true rfl) fun g0 hm hfr=>?_
 have rp0:RV g0.m wI x0 up0:=hm ▸ rp0
 show E _ 5 none _ _ _ _ _
 refine E_seq (E_region (EL_do .plain rfl (D_box (g:=g0) rfl rp0 fun g1 w1 p1 hs q1=>?_)))
 have hfr:=hfr.ext hs
 refine EL_at (Str.v (⟨[]⟩:Str)) rfl rfl ?_
 refine EL_nil (thn_n (E_seq (E_region (EL_p (fPtr p1 0) (P_fieldAddr at_92_0 rfl (PT.ptr q1)) rfl ?_))))
 have q2:=PT_field (part_BookChain_0).1 q1
 refine EL_do .plain rfl (D_load (g:=g1) Tryz.isAgg9 Tryz.sizeOf9 rfl q2 fun v3 r3=>?_)
 obtain rfl:=RV_str.1 r3
 refine EL_at (Str.v ((x0).Name)) rfl rfl ?_
 refine EL_nil (thn_n (E_ret ?_))
 obtain rfl:=sinj h
 exact end1 rfl rfl (show _=Str.v ((x0).Name) from rfl) ⟨_,hfr,rfl⟩
def f57 (x0:Int) (z0:Int) (z1:Int):Option (Bool):=
 Option.bind (α:=Bool) (
  bif (decide (x0 < z0)) then
   some (true)
  else
   some ((decide (x0 > z1)))
  ) fun o0=>
 some (o0)
theorem en57:Enters Tryz.prog 57:=enters_of Tryz.func57 (by kernel_rfl) rfl
theorem wk57 {gI:Gh} {wI:World} {x0:Int} {z0:Int} {z1:Int} {pf0:Value} (qf0:PT gI.m wI z0 pf0) {pf1:Value} (qf1:PT gI.m wI z1 pf1) {r:Bool} (h:f57 x0 z0 z1=some r):Fn Tryz.prog 57 #[.int .i64 (x0),pf0,pf1] gI wI (fun _ _ v=>v=.bool (r)):=by
 unfold f57 at h
 refine fn_of_E Tryz.func57 rfl (Nat.le_of_ble_eq_true rfl) fun g0 hm hfr=>?_
 have qf0:PT g0.m wI z0 pf0:=hm ▸ qf0
 have qf1:PT g0.m wI z1 pf1:=hm ▸ qf1
 show E _ 13 none _ _ _ _ _
 refine E_seq (E_region (EL_at (.bool false) rfl rfl ?_))
 refine EL_nil (thn_n ?_)
 obtain ⟨o0,hx,h⟩:=bsome h
 refine E_join (fun e w=>∃ (g:Gh) ,Fr gI wI g w∧e 4=.bool (o0)) (fun Q' hQ=>?_) (fun t5 w7 hR=>?_)
 ·replace h := hx
  clear hx
  refine E_region (EL_mw (.int .i64 (x0)) rfl rfl ?_)
  refine EL_do .plain rfl (D_load (g:=g0) Tryz.isAgg3 Tryz.sizeOf3 rfl qf0 fun v4 r4=>?_)
  obtain rfl:=RV_int.1 r4
  refine EL_in (.bool ((decide (x0 < z0)))) rfl rfl rfl rfl ?_
  refine EL_mw (.bool ((decide (x0 < z0)))) rfl rfl ?_
  rcases csome h with ⟨hc5,h⟩ | ⟨hc5,h⟩
  ·refine EL_s rfl rfl hc5 rfl rfl ?_
   refine EL_s rfl rfl hc5 rfl rfl ?_
   refine EL_s rfl rfl hc5 rfl rfl ?_
   refine EL_p (.bool true) (P_pick (b:=(decide (x0 < z0))) rfl (pick_t hc5 rfl)) rfl ?_
   refine EL_at (.bool true) rfl rfl ?_
   refine EL_nil ?_
   obtain rfl:=sinj h
   exact hQ _ _ ⟨g0,hfr,rfl⟩
  ·refine EL_y (.int .i64 (x0)) (P_move rfl) rfl rfl hc5 rfl ?_
   refine EL_do (.yes2 rfl rfl hc5) rfl (D_load (g:=g0) Tryz.isAgg3 Tryz.sizeOf3 rfl qf1 fun v6 r6=>?_)
   obtain rfl:=RV_int.1 r6
   refine EL_y (.bool ((decide (x0 > z1)))) (P_int rfl rfl rfl) rfl rfl hc5 rfl ?_
   refine EL_p (.bool ((decide (x0 > z1)))) (P_pick (b:=(decide (x0 < z0))) rfl (pick_f hc5 rfl)) rfl ?_
   refine EL_at (.bool ((decide (x0 > z1)))) rfl rfl ?_
   refine EL_nil ?_
   obtain rfl:=sinj h
   exact hQ _ _ ⟨g0,hfr,rfl⟩
 ·clear hx
  obtain ⟨g7,hfr,l5⟩:=hR
  refine E_ret ?_
  obtain rfl:=sinj h
  exact end1 rfl rfl (show _=.bool (o0) from l5) ⟨_,hfr,rfl⟩
def f58 (x0:BeamRatio):Option (BeamRatio):=
 Option.bind (α:=Int) (
  lp (σ:=Int × Int) (fun zD (t5,o0)=>
   jn (σ:=Unit) (fun _=>
    (rem64 t5 o0).bind fun y43=>
    zD (o0,y43)
    ) fun aE=>
   bif (decide (o0 > (0 : Int))) then
    aE ()
   else
    some (t5)
   ) big (((x0).Ratio).Num,((x0).Ratio).Den)
  ) fun l5=>
 (quo64 ((x0).Ratio).Num l5).bind fun i6=>
 (quo64 ((x0).Ratio).Den l5).bind fun g8=>
 some ((⟨(⟨i6,g8⟩:Ratio)⟩:BeamRatio))
theorem en58:Enters Tryz.prog 58:=enters_of Tryz.func58 (by kernel_rfl) rfl
theorem wk58 {gI:Gh} {wI:World} {x0:BeamRatio} {up0:Value} (rp0:RV gI.m wI x0 up0) {r:BeamRatio} (h:f58 x0=some r):Fn Tryz.prog 58 #[up0] gI wI (fun m w v=>RV m w (r) v):=by
 unfold f58 at h
 refine fn_of_E Tryz.func58 rfl (Nat.le_of_ble_eq_true rfl) fun g0 hm hfr=>?_
 have rp0:RV g0.m wI x0 up0:=hm ▸ rp0
 show E _ 29 none _ _ _ _ _
 refine E_seq (E_region (EL_do .plain rfl (D_box (g:=g0) rfl rp0 fun g1 w1 p1 hs q1=>?_)))
 have hfr:=hfr.ext hs
 refine EL_do .plain rfl (D_allocOc (g:=g1) 2002 (⟨⟨0,0⟩⟩:BeamRatio) Tryz.zeroValue99 (fun m w=>⟨_,(rep_two rep_int rep_int),rfl⟩) fun g2 w2 p2 hs b2 cb=>?_)
 have hfr:=hfr.stp hs
 have q1:=q1.stp hs
 clear cb
 refine EL_nil (thn_n (E_seq ?_))
 have q3:=PT_field (part_BeamRatio_0).1 q1
 have q4:=PT_field (part_Ratio_0).1 q3
 refine L_load (x:=.tmp 6) Tryz.isAgg3 Tryz.sizeOf3 q4 fun v5 r5 eF=>?_
 obtain rfl:=RV_int.1 r5
 have q6:=PT_field (part_BeamRatio_0).1 q1
 have q7:=PT_field (part_Ratio_1).1 q6
 refine L_load (x:=.tmp 9) Tryz.isAgg3 Tryz.sizeOf3 q7 fun v8 r8 rF=>?_
 obtain rfl:=RV_int.1 r8
 refine E_drawL (g:=g2) (n:=8) [] [0,1,2,3,4,5,6,7] rfl mixed (by kernel_rfl) trivial ?_
 refine L_p (fPtr p1 0) rfl rfl (P_fieldAddr at_99_0 rfl (PT.ptr q1)) ?_
 refine L_p (fPtr (fPtr p1 0) 0) rfl rfl (P_fieldAddr at_97_0 rfl (PT.ptr q3)) ?_
 refine L_ld (c:=.int .i64 (((x0).Ratio).Num)) rfl rfl .plain (fun _ _ h=>h.ch) eF rfl ?_
 refine L_p (fPtr p1 0) rfl rfl (P_fieldAddr at_99_0 rfl (PT.ptr q1)) ?_
 refine L_p (fPtr (fPtr p1 0) 1) rfl rfl (P_fieldAddr at_97_1 rfl (PT.ptr q6)) ?_
 refine L_ld (c:=.int .i64 (((x0).Ratio).Den)) rfl rfl .plain (fun _ _ h=>h.ch) rF rfl ?_
 refine L_p (.int .i64 (((x0).Ratio).Num)) rfl rfl (P_assign rfl) ?_
 refine L_p (.int .i64 (((x0).Ratio).Den)) rfl rfl (P_assign rfl) ?_
 refine L_nl fun g9 w9 hs=>?_
 have hfr:=hfr.ext hs
 have q1:=q1.ext hs
 have b2:=b2.ext hs
 clear hs
 refine EL_nil (thn_n ?_)
 obtain ⟨l5,hx,h⟩:=bsome h
 refine E_join (fun e w=>∃ (g:Gh) ,Fr gI wI g w∧e 1=p1∧PT g.m w (x0:BeamRatio) p1∧e 2=p2∧OB 2002 g w 99 ((⟨⟨0,0⟩⟩:BeamRatio):BeamRatio) p2∧e 3=.int .i64 (l5)) (fun Q' hQ=>?_) (fun cG sF hR=>?_)
 ·replace h := hx
  clear hx
  refine E_block ?_
  refine E_lp h (fun (s:Int × Int) e w=>∃ (g:Gh) ,Fr gI wI g w∧e 1=p1∧PT g.m w (x0:BeamRatio) p1∧e 2=p2∧OB 2002 g w 99 ((⟨⟨0,0⟩⟩:BeamRatio):BeamRatio) p2∧e 3=.int .i64 (s.1)∧e 4=.int .i64 (s.2)) ⟨g9,hfr,rfl,q1,rfl,b2,rfl,rfl⟩ (fun X37 zD oE=>?_)
  rintro ⟨t5,o0⟩ eG iG ⟨bE,hfr,lB,mB,nB,oB,vB,yB⟩ h
  refine E_joinC h (fun (s:Unit) e w=>∃ (g:Gh) ,Fr gI wI g w∧e 1=p1∧PT g.m w (x0:BeamRatio) p1∧e 2=p2∧OB 2002 g w 99 ((⟨⟨0,0⟩⟩:BeamRatio):BeamRatio) p2∧e 3=.int .i64 (t5)∧e 4=.int .i64 (o0)) (fun X40 aE rE h=>?_) ?_
  ·refine E_seq (E_region (EL_mv yB rfl ?_))
   refine EL_in (.bool ((decide (o0 > (0:Int))))) rfl rfl rfl rfl ?_
   refine EL_nil (thn_n ?_)
   rcases csome h with ⟨aB,h⟩ | ⟨aB,h⟩
   ·refine E_ct aB rfl ?_
    exact E_skip (thn_n (rE () _ _ ⟨bE,hfr,lB,mB,nB,oB,vB,yB⟩ h))
   ·refine E_cf aB rfl ?_
    refine E_exit ?_
    refine thn_e ?_
    refine thn_e ?_
    refine blk_hit ?_
    obtain rfl:=sinj h
    exact hQ _ _ ⟨bE,hfr,lB,mB,nB,oB,vB⟩
  ·rintro _ gG jG ⟨tF, hfr, nD, n8, oD, l9, yD, zB⟩ h
   refine E_block ?_
   obtain ⟨y43,uE,h⟩:=bsome h
   refine E_drawL (g:=tF) (n:=6) [] [0,1,2,3,4,5] rfl mixed (by kernel_rfl) trivial ?_
   refine L_p (.int .i64 (o0)) rfl rfl (P_move zB) ?_
   refine L_p (.int .i64 (t5)) rfl rfl (P_move yD) ?_
   refine L_p (.int .i64 (o0)) rfl rfl (P_move zB) ?_
   refine L_p (.int .i64 (y43)) rfl rfl (P_int rfl rfl (congrArg (Option.map (Value.int .i64)) uE)) ?_
   refine L_p (.int .i64 (o0)) rfl rfl (P_assign rfl) ?_
   refine L_p (.int .i64 (y43)) rfl rfl (P_assign rfl) ?_
   refine L_nl fun uF kG hs=>?_
   have hfr:=hfr.ext hs
   have n8:=n8.ext hs
   have l9:=l9.ext hs
   clear hs
   exact EL_nil (blk_n (thn_n (oE (o0,y43) _ _ ⟨uF,hfr,nD,n8,oD,l9,rfl,rfl⟩ h)))
 ·clear hx
  obtain ⟨cD,hfr,cC,l8,uC,n9,vC⟩:=hR
  refine E_seq ?_
  have iE:=PT_field (part_BeamRatio_0).1 l8
  have vF:=PT_field (part_Ratio_0).1 iE
  refine L_load (x:=.tmp 18) Tryz.isAgg3 Tryz.sizeOf3 vF fun lG xF vE=>?_
  obtain rfl:=RV_int.1 xF
  obtain ⟨i6,xE,h⟩:=bsome h
  have lE:=PT_field (part_BeamRatio_0).1 l8
  have yF:=PT_field (part_Ratio_1).1 lE
  refine L_load (x:=.tmp 23) Tryz.isAgg3 Tryz.sizeOf3 yF fun mG aG hl60=>?_
  obtain rfl:=RV_int.1 aG
  obtain ⟨g8,yE,h⟩:=bsome h
  have lD:RV cD.m sF (⟨i6,g8⟩:Ratio) (.agg (setCh [[.int .i64 0],[.int .i64 0]] [(0,.int .i64 (i6)),(1,.int .i64 (g8))]).flatten.toArray):=RV_build rfl (rep_pair (rfl) (rep_last (rfl)))
  generalize zE:(Value.agg (setCh [[.int .i64 0],[.int .i64 0]] [(0,.int .i64 (i6)),(1,.int .i64 (g8))]).flatten.toArray)=v62 at lD
  have bD:RV cD.m _ (⟨(⟨i6,g8⟩:Ratio)⟩:BeamRatio) (.agg (setCh [[.int .i64 0,.int .i64 0]] [(0,v62)]).flatten.toArray):=RV_build rfl (rep_last (RV.cells lD))
  generalize cF:(Value.agg (setCh [[.int .i64 0,.int .i64 0]] [(0,v62)]).flatten.toArray)=mE at bD
  refine E_drawL (g:=cD) (n:=12) [] [0,1,2,3,4,5,6,7,8,9,10,11] rfl mixed (by kernel_rfl) trivial ?_
  refine L_p (fPtr p1 0) rfl rfl (P_fieldAddr at_99_0 cC (PT.ptr l8)) ?_
  refine L_p (fPtr (fPtr p1 0) 0) rfl rfl (P_fieldAddr at_97_0 rfl (PT.ptr iE)) ?_
  refine L_ld (c:=.int .i64 (((x0).Ratio).Num)) rfl rfl .plain (fun _ _ h=>h.ch) vE rfl ?_
  refine L_p (.int .i64 (l5)) rfl rfl (P_move vC) ?_
  refine L_p (.int .i64 (i6)) rfl rfl (P_int rfl rfl (congrArg (Option.map (Value.int .i64)) xE)) ?_
  refine L_p (fPtr p1 0) rfl rfl (P_fieldAddr at_99_0 cC (PT.ptr l8)) ?_
  refine L_p (fPtr (fPtr p1 0) 1) rfl rfl (P_fieldAddr at_97_1 rfl (PT.ptr lE)) ?_
  refine L_ld (c:=.int .i64 (((x0).Ratio).Den)) rfl rfl .plain (fun _ _ h=>h.ch) hl60 rfl ?_
  refine L_p (.int .i64 (l5)) rfl rfl (P_move vC) ?_
  refine L_p (.int .i64 (g8)) rfl rfl (P_int rfl rfl (congrArg (Option.map (Value.int .i64)) yE)) ?_
  refine L_p v62 rfl rfl (zE ▸ P_build (vs:=[(0,.int .i64 (i6)),(1,.int .i64 (g8))]) [[.int .i64 0],[.int .i64 0]] lay_97 rfl rfl (.cons rfl (.cons rfl .nil)) ⟨⟨_,rfl,rfl⟩,⟨⟨_,rfl,rfl⟩,trivial⟩⟩) ?_
  refine L_p mE rfl rfl (cF ▸ P_build (vs:=[(0,v62)]) [[.int .i64 0,.int .i64 0]] lay_99 rfl rfl (.cons rfl .nil) ⟨⟨_,rfl,cells_size lD⟩,trivial⟩) ?_
  refine L_nl fun bG sG hs=>?_
  have hfr:=hfr.ext hs
  have n9:=n9.ext hs
  have bD:=bD.ext hs
  clear hs
  refine EL_do .plain rfl (D_storeOc (g:=bG) (v:=mE) Tryz.sizeOf99 uC n9 rfl bD fun xG yG hs b81 cb=>?_)
  clear cb
  have hfr:=hfr.stp hs
  refine EL_nil (thn_n (E_ret ?_))
  obtain rfl:=sinj h
  obtain ⟨ad82,cv82,hp82,dF,cr82⟩:=ob_read Tryz.isAgg99 Tryz.sizeOf99 b81
  exact endm_c rfl rfl ((show _=p2 from uC).trans hp82) dF ⟨_,hfr,cr82⟩
def f60 (x0:Int) (x1:Int→Option Bool):Option (Int):=
 Option.bind (α:=Int) (
  lp (σ:=Int × Int) (fun lB (o0,t5)=>
   jn (σ:=Unit) (fun _=>
    (shr64 ((wu64 (w64 (o0 + t5)))) ((1:Int))).bind fun l5=>
    (x1 ((w64 l5))).bind fun mB=>
    bif (!mB) then
     lB ((w64 ((w64 l5) + (1:Int))),t5)
    else
     lB (o0,(w64 l5))
    ) fun k14=>
   bif (decide (o0 < t5)) then
    k14 ()
   else
    some (o0)
   ) big ((0:Int),x0)
  ) fun i6=>
 some (i6)
theorem en60:Enters Tryz.prog 60:=enters_of Tryz.func60 (by kernel_rfl) rfl
theorem wk60 {gI:Gh} {wI:World} {x0:Int} {x1:Int→Option Bool} {up1:Value} (rp1:FnV1 Tryz.prog x1 up1 gI wI) {r:Int} (h:f60 x0 x1=some r):Fn Tryz.prog 60 #[.int .i64 (x0),up1] gI wI (fun _ _ v=>v=.int .i64 (r)):=by
 unfold f60 at h
 refine fn_of_E Tryz.func60 rfl (Nat.le_of_ble_eq_true rfl) fun g0 hm hfr=>?_
 obtain ⟨ff1,fa1,fc1,rfl,fen1,fcl1⟩:=rp1
 show E _ 26 none _ _ _ _ _
 refine E_seq (E_region (EL_at (.int .i64 (0)) rfl rfl ?_))
 refine EL_nil (thn_n (E_seq (E_region (EL_mw (.int .i64 (x0)) rfl rfl ?_))))
 refine EL_at (.int .i64 (0)) rfl rfl ?_
 refine EL_at (.int .i64 (x0)) rfl rfl ?_
 refine EL_nil (thn_n ?_)
 obtain ⟨i6,hx,h⟩:=bsome h
 refine E_join (fun e w=>∃ (g:Gh) ,Fr gI wI g w∧e 5=.int .i64 (i6)) (fun Q' hQ=>?_) (fun cD oD hR=>?_)
 ·replace h := hx
  clear hx
  refine E_block ?_
  refine E_lp h (fun (s:Int × Int) e w=>∃ (g:Gh) ,Fr gI wI g w∧e 1=(.func (.func ff1) fa1 fc1)∧e 5=.int .i64 (s.1)∧e 6=.int .i64 (s.2)) ⟨g0,hfr,rfl,rfl,rfl⟩ (fun X11 lB nB=>?_)
  rintro ⟨o0,t5⟩ lD yD ⟨yB,hfr,oB,g8,l9⟩ h
  refine E_joinC h (fun (s:Unit) e w=>∃ (g:Gh) ,Fr gI wI g w∧e 1=(.func (.func ff1) fa1 fc1)∧e 5=.int .i64 (o0)∧e 6=.int .i64 (t5)) (fun X14 k14 cC h=>?_) ?_
  ·refine E_seq (E_region (EL_mv g8 rfl ?_))
   refine EL_mv l9 rfl ?_
   refine EL_in (.bool ((decide (o0 < t5)))) rfl rfl rfl rfl ?_
   refine EL_nil (thn_n ?_)
   rcases csome h with ⟨n8,h⟩ | ⟨n8,h⟩
   ·refine E_ct n8 rfl ?_
    exact E_skip (thn_n (cC () _ _ ⟨yB,hfr,oB,g8,l9⟩ h))
   ·refine E_cf n8 rfl ?_
    refine E_exit ?_
    refine thn_e ?_
    refine thn_e ?_
    refine blk_hit ?_
    obtain rfl:=sinj h
    exact hQ _ _ ⟨yB,hfr,g8⟩
  ·rintro _ nD zD ⟨bD, hfr, l8, n9, aB⟩ h
   refine E_block ?_
   refine E_seq (E_region (EL_mv n9 rfl ?_))
   refine EL_mv aB rfl ?_
   refine EL_in (.int .i64 ((w64 (o0 + t5)))) rfl rfl rfl rfl ?_
   refine EL_p (.int .u64 (wu64 (w64 (o0 + t5)))) (P_intu64 Tryz.underlying3 Tryz.underlying71 rfl) rfl ?_
   obtain ⟨l5,uC,h⟩:=bsome h
   refine EL_p (.int .u64 (l5)) (P_shrU rfl rfl uC) rfl ?_
   refine EL_p (.int .i64 ((w64 l5))) (P_u64int Tryz.underlying71 Tryz.underlying3 rfl) rfl ?_
   refine EL_at (.int .i64 ((w64 l5))) rfl rfl ?_
   refine EL_nil (thn_n (E_seq (E_region (EL_mv l8 rfl ?_))))
   refine EL_mw (.int .i64 ((w64 l5))) rfl rfl ?_
   obtain ⟨mB,vC,h⟩:=bsome h
   refine EL_do .plain rfl (D_callv (g:=bD) (vs:=[.int .i64 ((w64 l5))]) rfl fen1 (.cons rfl .nil) (fcl1 _ _ hfr.ch _ _ _  (RV_int.2 rfl) vC) fun zB aE bE hs hr=>?_)
   have hfr:=hfr.ext hs
   obtain rfl:=RV_bool.1 hr
   refine EL_p (.bool (!mB)) (P_not rfl) rfl ?_
   refine EL_nil (thn_n ?_)
   rcases csome h with ⟨v8,h⟩ | ⟨v8,h⟩
   ·refine E_ct v8 rfl ?_
    refine E_region (EL_mw (.int .i64 ((w64 l5))) rfl rfl ?_)
    refine EL_in (.int .i64 ((w64 ((w64 l5) + (1:Int))))) rfl rfl rfl rfl ?_
    refine EL_at (.int .i64 ((w64 ((w64 l5) + (1:Int))))) rfl rfl ?_
    exact EL_nil (blk_n (thn_n (nB ((w64 ((w64 l5) + (1:Int))),t5) _ _ ⟨zB,hfr,l8,rfl,aB⟩ h)))
   ·refine E_cf v8 rfl ?_
    refine E_region (EL_mw (.int .i64 ((w64 l5))) rfl rfl ?_)
    refine EL_at (.int .i64 ((w64 l5))) rfl rfl ?_
    exact EL_nil (blk_n (thn_n (nB (o0,(w64 l5)) _ _ ⟨zB,hfr,l8,n9,rfl⟩ h)))
 ·clear hx
  obtain ⟨iE,hfr,vB⟩:=hR
  refine E_seq (E_region (EL_mv vB rfl ?_))
  refine EL_at (.int .i64 (i6)) rfl rfl ?_
  refine EL_nil (thn_n (E_ret ?_))
  obtain rfl:=sinj h
  exact end1 rfl rfl (show _=.int .i64 (i6) from rfl) ⟨_,hfr,rfl⟩
def f62 (x0:BeamWarp):Option (BeamYields):=
 some ((⟨((x0).Stretch).Low,((x0).Crimp).High,((x0).Waste).High⟩:BeamYields))
theorem en62:Enters Tryz.prog 62:=enters_of Tryz.func62 (by kernel_rfl) rfl
theorem wk62 {gI:Gh} {wI:World} {x0:BeamWarp} {up0:Value} (rp0:RV gI.m wI x0 up0) {r:BeamYields} (h:f62 x0=some r):Fn Tryz.prog 62 #[up0] gI wI (fun m w v=>RV m w (r) v):=by
 unfold f62 at h
 refine fn_of_E Tryz.func62 rfl (Nat.le_of_ble_eq_true rfl) fun g0 hm hfr=>?_
 have rp0:RV g0.m wI x0 up0:=hm ▸ rp0
 show E _ 13 none _ _ _ _ _
 refine E_seq (E_region (EL_do .plain rfl (D_box (g:=g0) rfl rp0 fun g1 w1 p1 hs q1=>?_)))
 have hfr:=hfr.ext hs
 refine EL_do .plain rfl (D_allocOc (g:=g1) 2002 (⟨0,0,0⟩:BeamYields) Tryz.zeroValue150 (fun m w=>⟨_,(rep_two rep_int (rep_two rep_int rep_int)),rfl⟩) fun g2 w2 p2 hs b2 cb=>?_)
 have hfr:=hfr.stp hs
 have q1:=q1.stp hs
 clear cb
 refine EL_nil (thn_n (E_seq (E_region (EL_p (fPtr p1 2) (P_fieldAddr at_108_1 rfl (PT.ptr q1)) rfl ?_))))
 have q3:=PT_field (part_BeamWarp_1).1 q1
 refine EL_p (fPtr (fPtr p1 2) 0) (P_fieldAddr at_56_0 rfl (PT.ptr q3)) rfl ?_
 have q4:=PT_field (part_Span_0).1 q3
 refine EL_do .plain rfl (D_load (g:=g2) Tryz.isAgg3 Tryz.sizeOf3 rfl q4 fun v5 r5=>?_)
 obtain rfl:=RV_int.1 r5
 refine EL_p (fPtr p1 4) (P_fieldAddr at_108_2 rfl (PT.ptr q1)) rfl ?_
 have q6:=PT_field (part_BeamWarp_2).1 q1
 refine EL_p (fPtr (fPtr p1 4) 1) (P_fieldAddr at_56_1 rfl (PT.ptr q6)) rfl ?_
 have q7:=PT_field (part_Span_1).1 q6
 refine EL_do .plain rfl (D_load (g:=g2) Tryz.isAgg3 Tryz.sizeOf3 rfl q7 fun v8 r8=>?_)
 obtain rfl:=RV_int.1 r8
 refine EL_p (fPtr p1 6) (P_fieldAddr at_108_3 rfl (PT.ptr q1)) rfl ?_
 have q9:=PT_field (part_BeamWarp_3).1 q1
 refine EL_p (fPtr (fPtr p1 6) 1) (P_fieldAddr at_56_1 rfl (PT.ptr q9)) rfl ?_
 have g8:=PT_field (part_Span_1).1 q9
 refine EL_do .plain rfl (D_load (g:=g2) Tryz.isAgg3 Tryz.sizeOf3 rfl g8 fun n8 l8=>?_)
 obtain rfl:=RV_int.1 l8
 have o0:RV g2.m w2 (⟨((x0).Stretch).Low,((x0).Crimp).High,((x0).Waste).High⟩:BeamYields) (.agg (setCh [[.int .i64 0],[.int .i64 0],[.int .i64 0]] [(0,.int .i64 (((x0).Stretch).Low)),(1,.int .i64 (((x0).Crimp).High)),(2,.int .i64 (((x0).Waste).High))]).flatten.toArray):=RV_build rfl (rep_pair (rfl) (rep_pair (rfl) (rep_last (rfl))))
 generalize t5:(Value.agg (setCh [[.int .i64 0],[.int .i64 0],[.int .i64 0]] [(0,.int .i64 (((x0).Stretch).Low)),(1,.int .i64 (((x0).Crimp).High)),(2,.int .i64 (((x0).Waste).High))]).flatten.toArray)=l5 at o0
 refine EL_p l5 (t5 ▸ P_build (vs:=[(0,.int .i64 (((x0).Stretch).Low)),(1,.int .i64 (((x0).Crimp).High)),(2,.int .i64 (((x0).Waste).High))]) [[.int .i64 0],[.int .i64 0],[.int .i64 0]] lay_150 rfl rfl (.cons rfl (.cons rfl (.cons rfl .nil))) ⟨⟨_,rfl,rfl⟩,⟨⟨_,rfl,rfl⟩,⟨⟨_,rfl,rfl⟩,trivial⟩⟩⟩) rfl ?_
 refine EL_do .plain rfl (D_storeOc (g:=g2) (v:=l5) Tryz.sizeOf150 rfl b2 rfl o0 fun l9 n9 hs b13 cb=>?_)
 clear cb
 have hfr:=hfr.stp hs
 refine EL_nil (thn_n (E_ret ?_))
 obtain rfl:=sinj h
 obtain ⟨ad14,cv14,hp14,i6,cr14⟩:=ob_read Tryz.isAgg150 Tryz.sizeOf150 b13
 exact endm_c rfl rfl ((show _=p2 from rfl).trans hp14) i6 ⟨_,hfr,cr14⟩
def f63 (x0:BeamYields) (x1:Int):Option (Int):=
 (quo64 (w64 (x1 * (w64 ((1000:Int) + (x0).stretch)))) (1000:Int)).bind fun y4=>
 (quo64 (w64 (y4 * (w64 ((1000:Int) - (x0).crimp)))) (1000:Int)).bind fun y7=>
 some ((max64 (0:Int) (w64 (y7 - (x0).waste))))
theorem en63:Enters Tryz.prog 63:=enters_of Tryz.func63 (by kernel_rfl) rfl
theorem wk63 {gI:Gh} {wI:World} {x0:BeamYields} {x1:Int} {up0:Value} (rp0:RV gI.m wI x0 up0) {r:Int} (h:f63 x0 x1=some r):Fn Tryz.prog 63 #[up0,.int .i64 (x1)] gI wI (fun _ _ v=>v=.int .i64 (r)):=by
 unfold f63 at h
 refine fn_of_E Tryz.func63 rfl (Nat.le_of_ble_eq_true rfl) fun g0 hm hfr=>?_
 have rp0:RV g0.m wI x0 up0:=hm ▸ rp0
 show E _ 22 none _ _ _ _ _
 refine E_seq (E_region (EL_do .plain rfl (D_box (g:=g0) rfl rp0 fun g1 w1 p1 hs q1=>?_)))
 have hfr:=hfr.ext hs
 refine EL_at (.int .i64 (0)) rfl rfl ?_
 refine EL_nil (thn_n (E_seq (E_region (EL_mw (.int .i64 (x1)) rfl rfl ?_))))
 refine EL_p (fPtr p1 0) (P_fieldAddr at_150_0 rfl (PT.ptr q1)) rfl ?_
 have q2:=PT_field (part_BeamYields_0).1 q1
 refine EL_do .plain rfl (D_load (g:=g1) Tryz.isAgg3 Tryz.sizeOf3 rfl q2 fun v3 r3=>?_)
 obtain rfl:=RV_int.1 r3
 refine EL_in (.int .i64 ((w64 ((1000:Int) + (x0).stretch)))) rfl rfl rfl rfl ?_
 refine EL_p (.int .i64 ((w64 (x1 * (w64 ((1000:Int) + (x0).stretch)))))) (P_int rfl rfl rfl) rfl ?_
 obtain ⟨y4,o0,h⟩:=bsome h
 refine EL_p (.int .i64 (y4)) (P_int rfl rfl (congrArg (Option.map (Value.int .i64)) o0)) rfl ?_
 refine EL_at (.int .i64 (y4)) rfl rfl ?_
 refine EL_nil (thn_n (E_seq (E_region (EL_mw (.int .i64 (y4)) rfl rfl ?_))))
 refine EL_p (fPtr p1 1) (P_fieldAddr at_150_1 rfl (PT.ptr q1)) rfl ?_
 have q5:=PT_field (part_BeamYields_1).1 q1
 refine EL_do .plain rfl (D_load (g:=g1) Tryz.isAgg3 Tryz.sizeOf3 rfl q5 fun v6 r6=>?_)
 obtain rfl:=RV_int.1 r6
 refine EL_in (.int .i64 ((w64 ((1000:Int) - (x0).crimp)))) rfl rfl rfl rfl ?_
 refine EL_p (.int .i64 ((w64 (y4 * (w64 ((1000:Int) - (x0).crimp)))))) (P_int rfl rfl rfl) rfl ?_
 obtain ⟨y7,l5,h⟩:=bsome h
 refine EL_p (.int .i64 (y7)) (P_int rfl rfl (congrArg (Option.map (Value.int .i64)) l5)) rfl ?_
 refine EL_p (fPtr p1 2) (P_fieldAddr at_150_2 rfl (PT.ptr q1)) rfl ?_
 have q8:=PT_field (part_BeamYields_2).1 q1
 refine EL_do .plain rfl (D_load (g:=g1) Tryz.isAgg3 Tryz.sizeOf3 rfl q8 fun v9 r9=>?_)
 obtain rfl:=RV_int.1 r9
 refine EL_in (.int .i64 ((w64 (y7 - (x0).waste)))) rfl rfl rfl rfl ?_
 refine EL_p (.int .i64 (max64 (0:Int) (w64 (y7 - (x0).waste)))) (P_max rfl rfl) rfl ?_
 refine EL_at (.int .i64 (max64 (0:Int) (w64 (y7 - (x0).waste)))) rfl rfl ?_
 refine EL_nil (thn_n (E_ret ?_))
 obtain rfl:=sinj h
 exact end1 rfl rfl (show _=.int .i64 (max64 (0:Int) (w64 (y7 - (x0).waste))) from rfl) ⟨_,hfr,rfl⟩
def f66 (x0:Str):Option (Int):=
 Option.bind (α:=Int) (
  lp (σ:=Int × Int) (fun k7 (t5,o0)=>
   bif (decide (o0 < ((x0).b.length : Int))) then
    Option.bind (α:=Int) (
     (idx (x0).b o0).bind fun y11=>
     some ((w64 (t5 + ((y11).toNat:Int))))
     ) fun l5=>
    k7 (l5,(w64 (o0 + (1:Int))))
   else
    some (t5)
   ) big ((0:Int),(0:Int))
  ) fun i6=>
 (rem64 i6 (65536:Int)).bind fun l8=>
 some (l8)
theorem en66:Enters Tryz.prog 66:=enters_of Tryz.func66 (by kernel_rfl) rfl
theorem wk66 {gI:Gh} {wI:World} {x0:Str}  {r:Int} (h:f66 x0=some r):Fn Tryz.prog 66 #[Str.v (x0)] gI wI (fun _ _ v=>v=.int .i64 (r)):=by
 unfold f66 at h
 refine fn_of_E Tryz.func66 rfl (Nat.le_of_ble_eq_true rfl) fun g0 hm hfr=>?_
 show E _ 18 none _ _ _ _ _
 refine E_seq (E_region (EL_at (.int .i64 (0)) rfl rfl ?_))
 refine EL_nil (thn_n ?_)
 obtain ⟨i6,hx,h⟩:=bsome h
 refine E_join (fun e w=>∃ (g:Gh) ,Fr gI wI g w∧e 2=.int .i64 (i6)) (fun Q' hQ=>?_) (fun cC vC hR=>?_)
 ·replace h := hx
  clear hx
  refine E_seq (E_region (EL_mw (Str.v (x0)) rfl rfl ?_))
  refine EL_p (.int .i64 ((x0).b.length:Int)) (P_lenS Tryz.underlying9 rfl) rfl ?_
  refine EL_mw (.int .i64 (0)) rfl rfl ?_
  refine EL_nil (thn_n (E_block ?_))
  refine E_lp h (fun (s:Int × Int) e w=>∃ (g:Gh) ,Fr gI wI g w∧e 0=Str.v (x0)∧e 2=.int .i64 (s.1)∧e 5=.int .i64 (((x0).b.length:Int))∧e 6=.int .i64 (s.2)) ⟨g0,hfr,rfl,rfl,rfl,rfl⟩ (fun X7 k7 hk7=>?_)
  rintro ⟨t5,o0⟩ bD w8 ⟨g8,hfr,v8,l9,n9,n8⟩ h
  refine E_seq (E_region (EL_in (.bool ((decide (o0 < ((x0).b.length:Int))))) n8 n9 rfl rfl ?_))
  refine EL_nil (thn_n (E_seq ?_))
  rcases csome h with ⟨hc9,h⟩ | ⟨hc9,h⟩
  ·refine E_ct hc9 rfl ?_
   refine E_skip (thn_n ?_)
   obtain ⟨l5,hx,h⟩:=bsome h
   refine E_join (fun e w=>∃ (g:Gh) ,Fr gI wI g w∧e 0=Str.v (x0)∧e 2=.int .i64 (l5)∧e 5=.int .i64 (((x0).b.length:Int))∧e 6=.int .i64 (o0)) (fun Q' hQ=>?_) (fun uC cD hR=>?_)
   ·replace h := hx
    clear hx
    refine E_block ?_
    refine E_seq (E_region (EL_mv n8 rfl ?_))
    refine EL_at (.int .i64 (o0)) rfl rfl ?_
    refine EL_nil (thn_n (E_region (EL_mv l9 rfl ?_)))
    refine EL_mv v8 rfl ?_
    refine EL_mw (.int .i64 (o0)) rfl rfl ?_
    obtain ⟨y11,vB,h⟩:=bsome h
    refine EL_p (.int .u8 (UInt8.toNat (y11))) (P_indexS Tryz.underlying9 rfl rfl vB) rfl ?_
    refine EL_p (.int .i64 (((y11).toNat:Int))) (P_u8int Tryz.underlying5 Tryz.underlying3 rfl) rfl ?_
    refine EL_in (.int .i64 ((w64 (t5 + ((y11).toNat:Int))))) rfl rfl rfl rfl ?_
    refine EL_at (.int .i64 ((w64 (t5 + ((y11).toNat:Int))))) rfl rfl ?_
    refine EL_nil (blk_n ?_)
    obtain rfl:=sinj h
    exact hQ _ _ ⟨g8,hfr,v8,rfl,n9,n8⟩
   ·clear hx
    obtain ⟨zB,hfr,aB,lB,mB,nB⟩:=hR
    refine E_region (EL_in (.int .i64 ((w64 (o0 + (1:Int))))) nB rfl rfl rfl ?_)
    refine EL_mw (.int .i64 ((w64 (o0 + (1:Int))))) rfl rfl ?_
    exact EL_nil (thn_n (hk7 (l5,(w64 (o0 + (1:Int)))) _ _ ⟨zB,hfr,aB,lB,mB,rfl⟩ h))
  ·refine E_cf hc9 rfl ?_
   refine E_exit ?_
   refine thn_e ?_
   refine thn_e ?_
   refine blk_hit ?_
   obtain rfl:=sinj h
   exact hQ _ _ ⟨g8,hfr,l9⟩
 ·clear hx
  obtain ⟨lD,hfr,oB⟩:=hR
  refine E_seq (E_region (EL_mv oB rfl ?_))
  obtain ⟨l8,yB,h⟩:=bsome h
  refine EL_p (.int .i64 (l8)) (P_int rfl rfl (congrArg (Option.map (Value.int .i64)) yB)) rfl ?_
  refine EL_at (.int .i64 (l8)) rfl rfl ?_
  refine EL_nil (thn_n (E_ret ?_))
  obtain rfl:=sinj h
  exact end1 rfl rfl (show _=.int .i64 (l8) from rfl) ⟨_,hfr,rfl⟩
def f70 (x0:List Int):Option (Int):=
 jn (σ:=Unit) (fun _=>
  some ((0:Int))
  ) fun k14=>
 lp (σ:=Int) (fun yB o0=>
  bif (decide (o0 < ((x0).length : Int))) then
   jn (σ:=Unit) (fun _=>
    yB ((w64 (o0 + (1:Int))))
    ) fun zB=>
   (idx x0 o0).bind fun y23=>
   bif (y23 != (0 : Int)) then
    some (y23)
   else
    zB ()
  else
   k14 ()
  ) big ((0:Int))
theorem en70:Enters Tryz.prog 70:=enters_of Tryz.func70 (by kernel_rfl) rfl
theorem wk70 {gI:Gh} {wI:World} {x0:List Int} {up0:Value} (rp0:RV gI.m wI x0 up0) {r:Int} (h:f70 x0=some r):Fn Tryz.prog 70 #[up0] gI wI (fun _ _ v=>v=.int .i64 (r)):=by
 unfold f70 at h
 refine fn_of_E Tryz.func70 rfl (Nat.le_of_ble_eq_true rfl) fun g0 hm hfr=>?_
 have rp0:RV g0.m wI x0 up0:=hm ▸ rp0
 show E _ 18 none _ _ _ _ _
 refine E_seq (E_region (EL_at (.int .i64 (0)) rfl rfl ?_))
 refine EL_nil (thn_n (E_seq (E_region (EL_at (.int .i64 (0)) rfl rfl ?_))))
 refine EL_nil (thn_n (E_joinC h (fun (s:Unit) e w=>∃ (g:Gh) ,Fr gI wI g w∧e 3=.int .i64 ((0:Int))) (fun X14 k14 cC h=>?_) ?_))
 ·refine E_seq (E_region (EL_mw up0 rfl rfl ?_))
  refine EL_p (.int .i64 ((x0).length:Int)) (P_len Tryz.underlying25 rfl rp0) rfl ?_
  refine EL_mw (.int .i64 (0)) rfl rfl ?_
  refine EL_nil (thn_n (E_block ?_))
  refine E_lp h (fun (s:Int) e w=>∃ (g:Gh) ,Fr gI wI g w∧e 3=.int .i64 ((0:Int))∧e 6=up0∧RV g.m w (x0:List Int) up0∧e 7=.int .i64 (((x0).length:Int))∧e 8=.int .i64 (s)) ⟨g0,hfr,rfl,rfl,rp0,rfl,rfl⟩ (fun X15 yB uC=>?_)
  rintro o0 nD zD ⟨l9,hfr,l5,n8,t5,v8,i6⟩ h
  refine E_seq (E_region (EL_in (.bool ((decide (o0 < ((x0).length:Int))))) i6 v8 rfl rfl ?_))
  refine EL_nil (thn_n (E_seq ?_))
  rcases csome h with ⟨g8,h⟩ | ⟨g8,h⟩
  ·refine E_ct g8 rfl ?_
   refine E_skip (thn_n (E_joinC h (fun (s:Unit) e w=>∃ (g:Gh) ,Fr gI wI g w∧e 3=.int .i64 ((0:Int))∧e 6=up0∧RV g.m w (x0:List Int) up0∧e 7=.int .i64 (((x0).length:Int))∧e 8=.int .i64 (o0)) (fun X22 zB vC h=>?_) ?_))
   ·refine E_block ?_
    refine E_seq (E_region ?_)
    obtain ⟨y23,n9,h⟩:=bsome h
    refine EL_p (ePtr up0 o0 1) (P_indexAddr (α:=Int) Tryz.underlying25 Tryz.sizeOf3 n8 t5 i6 n9) rfl ?_
    have bD:=PT_idx t5 n9
    refine EL_do .plain rfl (D_load (g:=l9) Tryz.isAgg3 Tryz.sizeOf3 rfl bD fun aE cD=>?_)
    obtain rfl:=RV_int.1 cD
    refine EL_at (.int .i64 (y23)) rfl rfl ?_
    refine EL_nil (thn_n (E_seq (E_region (EL_mw (.int .i64 (y23)) rfl rfl ?_))))
    refine EL_mv l5 rfl ?_
    refine EL_in (.bool ((y23 != (0:Int)))) rfl rfl rfl rfl ?_
    refine EL_nil (thn_n ?_)
    rcases csome h with ⟨l8,h⟩ | ⟨l8,h⟩
    ·refine E_ct l8 rfl ?_
     refine E_seq (E_region (EL_mw (.int .i64 (y23)) rfl rfl ?_))
     refine EL_at (.int .i64 (y23)) rfl rfl ?_
     refine EL_nil (thn_n (E_ret (blk_r ?_)))
     refine thn_r ?_
     refine thn_r ?_
     refine blk_r ?_
     refine thn_r ?_
     obtain rfl:=sinj h
     exact end1 rfl rfl (show _=.int .i64 (y23) from rfl) ⟨_,hfr,rfl⟩
    ·refine E_cf l8 rfl ?_
     exact E_skip (blk_n (thn_n (vC () _ _ ⟨l9,hfr,l5,n8,t5,v8,i6⟩ h)))
   ·rintro _ oD bE ⟨lD, hfr, aB, lB, mB, nB, oB⟩ h
    refine E_region (EL_in (.int .i64 ((w64 (o0 + (1:Int))))) oB rfl rfl rfl ?_)
    refine EL_mw (.int .i64 ((w64 (o0 + (1:Int))))) rfl rfl ?_
    exact EL_nil (thn_n (uC ((w64 (o0 + (1:Int)))) _ _ ⟨lD,hfr,aB,lB,mB,nB,rfl⟩ h))
  ·refine E_cf g8 rfl ?_
   refine E_exit ?_
   refine thn_e ?_
   refine thn_e ?_
   refine blk_hit ?_
   exact thn_n (cC () _ _ ⟨l9,hfr,l5⟩ h)
 ·rintro _ yD iE ⟨lE, hfr, vB⟩ h
  refine E_seq (E_region (EL_mv vB rfl ?_))
  refine EL_at (.int .i64 ((0:Int))) rfl rfl ?_
  refine EL_nil (thn_n (E_ret ?_))
  obtain rfl:=sinj h
  exact end1 rfl rfl (show _=.int .i64 ((0:Int)) from rfl) ⟨_,hfr,rfl⟩
def f72 (x0:Vector UInt8 8):Option (UInt8 × UInt8):=
 Option.bind (α:=UInt8 × UInt8) (
  (cut ((x0).toList) 0 (6:Int)).bind fun t5=>
  lp (σ:=UInt8 × UInt8 × Int) (fun zD (i6,g8,o0)=>
   bif (decide (o0 < ((t5).length : Int))) then
    Option.bind (α:=UInt8 × UInt8) (
     (idx t5 o0).bind fun l5=>
     some ((i6 + l5),(g8 + ((u8w ((w64 (o0 + (1:Int))))) * l5)))
     ) fun (v8,l9)=>
    zD (v8,l9,(w64 (o0 + (1:Int))))
   else
    some (i6,g8)
   ) big ((0:UInt8),(0:UInt8),(0:Int))
  ) fun (l8,n8)=>
 some (l8,n8)
theorem en72:Enters Tryz.prog 72:=enters_of Tryz.func72 (by kernel_rfl) rfl
theorem wk72 {gI:Gh} {wI:World} {x0:Vector UInt8 8} {up0:Value} (rp0:RV gI.m wI x0 up0) {r:UInt8 × UInt8} (h:f72 x0=some r):Fn Tryz.prog 72 #[up0] gI wI (fun m w v=>∃ y0 y1,v=.tuple #[y0,y1]∧y0=.int .u8 (UInt8.toNat (r.1))∧y1=.int .u8 (UInt8.toNat (r.2))):=by
 unfold f72 at h
 refine fn_of_E Tryz.func72 rfl (Nat.le_of_ble_eq_true rfl) fun g0 hm hfr=>?_
 have rp0:RV g0.m wI x0 up0:=hm ▸ rp0
 show E _ 26 none _ _ _ _ _
 refine E_seq (E_region (EL_do .plain rfl (D_box (g:=g0) rfl rp0 fun g1 w1 p1 hs q1=>?_)))
 have hfr:=hfr.ext hs
 refine EL_at (.int .u8 (UInt8.toNat 0)) rfl rfl ?_
 refine EL_at (.int .u8 (UInt8.toNat 0)) rfl rfl ?_
 refine EL_nil (thn_n ?_)
 obtain ⟨⟨l8,n8⟩,hx,h⟩:=bsome h
 refine E_join (fun e w=>∃ (g:Gh) ,Fr gI wI g w∧e 2=.int .u8 (UInt8.toNat (l8))∧e 3=.int .u8 (UInt8.toNat (n8))) (fun Q' hQ=>?_) (fun oE vE hR=>?_)
 ·replace h := hx
  clear hx
  refine E_seq (E_region ?_)
  obtain ⟨t5,yB,h⟩:=bsome h
  have aE:=RV_cut (RV_arr (p:=p1) q1) yB
  refine EL_p ((cutV (arrV p1 8) 0 (Int.toNat (6:Int)) 1)) (P_sliceArr (p:=p1) Tryz.underlying116 Tryz.sizeOf5 rfl q1 rfl yB) rfl ?_
  refine EL_p (.int .i64 ((t5).length:Int)) (P_len Tryz.underlying72 rfl aE) rfl ?_
  refine EL_mw (.int .i64 (0)) rfl rfl ?_
  refine EL_nil (thn_n (E_block ?_))
  refine E_lp h (fun (s:UInt8 × UInt8 × Int) e w=>∃ (g:Gh) ,Fr gI wI g w∧e 2=.int .u8 (UInt8.toNat (s.1))∧e 3=.int .u8 (UInt8.toNat (s.2.1))∧e 6=(cutV (arrV p1 8) 0 (Int.toNat (6:Int)) 1)∧RV g.m w (t5:List UInt8) (cutV (arrV p1 8) 0 (Int.toNat (6:Int)) 1)∧e 7=.int .i64 (((t5).length:Int))∧e 8=.int .i64 (s.2.2)) ⟨g1,hfr,rfl,rfl,rfl,aE,rfl,rfl⟩ (fun X16 zD bE=>?_)
  rintro ⟨i6,g8,o0⟩ rE xE ⟨zB,hfr,mB,nB,oB,aB,vB,n9⟩ h
  refine E_seq (E_region (EL_in (.bool ((decide (o0 < ((t5).length:Int))))) n9 vB rfl rfl ?_))
  refine EL_nil (thn_n (E_seq ?_))
  rcases csome h with ⟨lB,h⟩ | ⟨lB,h⟩
  ·refine E_ct lB rfl ?_
   refine E_skip (thn_n ?_)
   obtain ⟨⟨v8,l9⟩,hx,h⟩:=bsome h
   refine E_join (fun e w=>∃ (g:Gh) ,Fr gI wI g w∧e 2=.int .u8 (UInt8.toNat (v8))∧e 3=.int .u8 (UInt8.toNat (l9))∧e 6=(cutV (arrV p1 8) 0 (Int.toNat (6:Int)) 1)∧RV g.m w (t5:List UInt8) (cutV (arrV p1 8) 0 (Int.toNat (6:Int)) 1)∧e 7=.int .i64 (((t5).length:Int))∧e 8=.int .i64 (o0)) (fun Q' hQ=>?_) (fun uE yE hR=>?_)
   ·replace h := hx
    clear hx
    refine E_block ?_
    refine E_seq (E_region (EL_mv n9 rfl ?_))
    obtain ⟨l5,cC,h⟩:=bsome h
    refine EL_p (ePtr ((cutV (arrV p1 8) 0 (Int.toNat (6:Int)) 1)) o0 1) (P_indexAddr (α:=UInt8) Tryz.underlying72 Tryz.sizeOf5 oB aB n9 cC) rfl ?_
    have iE:=PT_idx aB cC
    refine EL_do .plain rfl (D_load (g:=zB) Tryz.isAgg5 Tryz.sizeOf5 rfl iE fun zE lE=>?_)
    obtain rfl:=RV_u8.1 lE
    refine EL_at (.int .i64 (o0)) rfl rfl ?_
    refine EL_at (.int .u8 (UInt8.toNat (l5))) rfl rfl ?_
    refine EL_nil (thn_n (E_seq (E_region (EL_mv mB rfl ?_))))
    refine EL_mw (.int .u8 (UInt8.toNat (l5))) rfl rfl ?_
    refine EL_p (.int .u8 (UInt8.toNat ((i6 + l5)))) (P_u8 rfl rfl rfl) rfl ?_
    refine EL_at (.int .u8 (UInt8.toNat ((i6 + l5)))) rfl rfl ?_
    refine EL_nil (thn_n (E_region (EL_mv nB rfl ?_)))
    refine EL_mw (.int .i64 (o0)) rfl rfl ?_
    refine EL_in (.int .i64 ((w64 (o0 + (1:Int))))) rfl rfl rfl rfl ?_
    refine EL_p (.int .u8 (UInt8.toNat ((u8w ((w64 (o0 + (1:Int)))))))) (P_intu8 Tryz.underlying3 Tryz.underlying5 rfl) rfl ?_
    refine EL_mw (.int .u8 (UInt8.toNat (l5))) rfl rfl ?_
    refine EL_p (.int .u8 (UInt8.toNat (((u8w ((w64 (o0 + (1:Int))))) * l5)))) (P_mul8 rfl rfl) rfl ?_
    refine EL_p (.int .u8 (UInt8.toNat ((g8 + ((u8w ((w64 (o0 + (1:Int))))) * l5))))) (P_u8 rfl rfl rfl) rfl ?_
    refine EL_p (.int .u8 (UInt8.toNat ((g8 + ((u8w ((w64 (o0 + (1:Int))))) * l5))))) (P_assign rfl) rfl ?_
    refine EL_nil (blk_n ?_)
    obtain ⟨rfl,rfl⟩:=pairs2 h
    exact hQ _ _ ⟨zB,hfr,rfl,rfl,oB,aB,vB,n9⟩
   ·clear hx
    obtain ⟨mE,hfr,uC,vC,bD,cD,lD,nD⟩:=hR
    refine E_region (EL_in (.int .i64 ((w64 (o0 + (1:Int))))) nD rfl rfl rfl ?_)
    refine EL_mw (.int .i64 ((w64 (o0 + (1:Int))))) rfl rfl ?_
    exact EL_nil (thn_n (bE (v8,l9,(w64 (o0 + (1:Int)))) _ _ ⟨mE,hfr,uC,vC,bD,cD,lD,rfl⟩ h))
  ·refine E_cf lB rfl ?_
   refine E_exit ?_
   refine thn_e ?_
   refine thn_e ?_
   refine blk_hit ?_
   obtain ⟨rfl,rfl⟩:=pairs2 h
   exact hQ _ _ ⟨zB,hfr,mB,nB⟩
 ·clear hx
  obtain ⟨cF,hfr,oD,yD⟩:=hR
  refine E_seq (E_region (EL_mv oD rfl ?_))
  refine EL_mv yD rfl ?_
  refine EL_at (.int .u8 (UInt8.toNat (l8))) rfl rfl ?_
  refine EL_at (.int .u8 (UInt8.toNat (n8))) rfl rfl ?_
  refine EL_nil (thn_n (E_ret ?_))
  obtain rfl:=sinj h
  exact end2 rfl rfl (show _=.int .u8 (UInt8.toNat (l8)) from rfl) (show _=.int .u8 (UInt8.toNat (n8)) from rfl) ⟨_,hfr,_,_,rfl,rfl,rfl⟩
def f79 (x0:List Str):Option ((List Str)):=
 jn (σ:=Unit) (fun _=>
  jn (σ:=Unit) (fun _=>
   some (x0)
   ) fun k53=>
  lp (σ:=Int) (fun k54 o0=>
   jn (σ:=Unit) (fun _=>
    jn (σ:=Unit) (fun _=>
     k54 ((w64 (o0 + (1:Int))))
     ) fun cC=>
    (idx x0 o0).bind fun l9=>
    (idx x0 (w64 (o0 - (1:Int)))).bind fun n9=>
    bif ((l9).b == (n9).b) then
     none
    else
     cC ()
    ) fun k57=>
   bif (decide (o0 < ((x0).length : Int))) then
    k57 ()
   else
    k53 ()
   ) big ((1:Int))
  ) fun k2=>
 bif (decide (((x0).length : Int) < (2 : Int))) then
  some (x0)
 else
  k2 ()
theorem en79:Enters Tryz.prog 79:=enters_of Tryz.func79 (by kernel_rfl) rfl
theorem wk79 {gI:Gh} {wI:World} {x0:List Str} {up0:Value} (rp0:RV gI.m wI x0 up0) {r:(List Str)} (h:f79 x0=some r):Fn Tryz.prog 79 #[up0] gI wI (fun m w v=>RV m w (r) v):=by
 unfold f79 at h
 refine fn_of_E Tryz.func79 rfl (Nat.le_of_ble_eq_true rfl) fun g0 hm hfr=>?_
 have rp0:RV g0.m wI x0 up0:=hm ▸ rp0
 show E _ 61 none _ _ _ _ _
 refine E_seq (E_region (EL_at (.slice none 0 0) rfl rfl ?_))
 refine EL_nil (thn_n (E_joinC h (fun (s:Unit) e w=>∃ (g:Gh) ,Fr gI wI g w∧e 0=up0∧RV g.m w (x0:List Str) up0) (fun X2 k2 hk2 h=>?_) ?_))
 ·refine E_seq (E_region (EL_mw up0 rfl rfl ?_))
  refine EL_p (.int .i64 ((x0).length:Int)) (P_len Tryz.underlying54 rfl rp0) rfl ?_
  refine EL_in (.bool ((decide (((x0).length:Int) < (2:Int))))) rfl rfl rfl rfl ?_
  refine EL_nil (thn_n ?_)
  rcases csome h with ⟨hc3,h⟩ | ⟨hc3,h⟩
  ·refine E_ct hc3 rfl ?_
   refine E_seq (E_region (EL_mw up0 rfl rfl ?_))
   refine EL_at up0 rfl rfl ?_
   refine EL_nil (thn_n (E_ret (thn_r ?_)))
   obtain rfl:=sinj h
   exact end1 rfl rfl (show _=up0 from rfl) ⟨_,hfr,rp0⟩
  ·refine E_cf hc3 rfl ?_
   exact E_skip (thn_n (hk2 () _ _ ⟨g0,hfr,rfl,rp0⟩ h))
 ·rintro _ eF w4 ⟨g4, hfr, vC, bD⟩ h
  refine E_joinC h (fun (s:Unit) e w=>∃ (g:Gh) ,Fr gI wI g w∧e 0=up0∧RV g.m w (x0:List Str) up0) (fun X53 k53 cD h=>?_) ?_
  ·refine E_seq (E_region (EL_at (.int .i64 (1)) rfl rfl ?_))
   refine EL_nil (thn_n (E_block ?_))
   refine E_lp h (fun (s:Int) e w=>∃ (g:Gh) ,Fr gI wI g w∧e 0=up0∧RV g.m w (x0:List Str) up0∧e 3=.int .i64 (s)) ⟨g4,hfr,vC,bD,rfl⟩ (fun X54 k54 lD=>?_)
   rintro o0 xE rF ⟨uC,hfr,g8,l8,aB⟩ h
   refine E_joinC h (fun (s:Unit) e w=>∃ (g:Gh) ,Fr gI wI g w∧e 0=up0∧RV g.m w (x0:List Str) up0∧e 3=.int .i64 (o0)) (fun X57 k57 nD h=>?_) ?_
   ·refine E_seq (E_region (EL_mv aB rfl ?_))
    refine EL_mv g8 rfl ?_
    refine EL_p (.int .i64 ((x0).length:Int)) (P_len Tryz.underlying54 rfl l8) rfl ?_
    refine EL_in (.bool ((decide (o0 < ((x0).length:Int))))) rfl rfl rfl rfl ?_
    refine EL_nil (thn_n ?_)
    rcases csome h with ⟨v8,h⟩ | ⟨v8,h⟩
    ·refine E_ct v8 rfl ?_
     exact E_skip (thn_n (nD () _ _ ⟨uC,hfr,g8,l8,aB⟩ h))
    ·refine E_cf v8 rfl ?_
     refine E_exit ?_
     refine thn_e ?_
     refine thn_e ?_
     refine blk_hit ?_
     exact thn_n (cD () _ _ ⟨uC,hfr,g8,l8⟩ h)
   ·rintro _ yE sF ⟨bE, hfr, t5, l5, i6⟩ h
    refine E_joinC h (fun (s:Unit) e w=>∃ (g:Gh) ,Fr gI wI g w∧e 0=up0∧RV g.m w (x0:List Str) up0∧e 3=.int .i64 (o0)) (fun X81 cC oD h=>?_) ?_
    ·refine E_block ?_
     refine E_seq ?_
     obtain ⟨l9,lB,h⟩:=bsome h
     have iE:=PT_idx l5 lB
     refine L_load (x:=.tmp 18) Tryz.isAgg9 Tryz.sizeOf9 iE fun tF lE yD=>?_
     obtain rfl:=RV_str.1 lE
     obtain ⟨n9,mB,h⟩:=bsome h
     have mE:=PT_idx l5 mB
     refine L_load (x:=.tmp 23) Tryz.isAgg9 Tryz.sizeOf9 mE fun uF oE zD=>?_
     obtain rfl:=RV_str.1 oE
     refine E_drawL (g:=bE) (n:=10) [] [0,1,2,3,4,5,6,7,8,9] rfl mixed (by kernel_rfl) trivial ?_
     refine L_p up0 rfl rfl (P_move t5) ?_
     refine L_p (.int .i64 (o0)) rfl rfl (P_move i6) ?_
     refine L_p (ePtr up0 o0 1) rfl rfl (P_indexAddr (α:=Str) Tryz.underlying54 Tryz.sizeOf9 rfl l5 rfl lB) ?_
     refine L_ld (c:=Str.v (l9)) rfl rfl .plain (fun _ _ h=>h.ch) yD rfl ?_
     refine L_p up0 rfl rfl (P_move t5) ?_
     refine L_p (.int .i64 (o0)) rfl rfl (P_move i6) ?_
     refine L_p (.int .i64 ((w64 (o0 - (1:Int))))) rfl rfl (P_int rfl rfl rfl) ?_
     refine L_p (ePtr up0 (w64 (o0 - (1:Int))) 1) rfl rfl (P_indexAddr (α:=Str) Tryz.underlying54 Tryz.sizeOf9 rfl l5 rfl mB) ?_
     refine L_ld (c:=Str.v (n9)) rfl rfl .plain (fun _ _ h=>h.ch) zD rfl ?_
     refine L_p (.bool (((l9).b == (n9).b))) rfl rfl (P_str rfl rfl rfl) ?_
     refine L_nl fun rE vF hs=>?_
     have hfr:=hfr.ext hs
     have l5:=l5.ext hs
     clear hs
     refine EL_nil (thn_n ?_)
     rcases csome h with ⟨n8,h⟩ | ⟨n8,h⟩
     ·refine E_ct n8 rfl ?_
      refine E_seq (E_region (EL_mv t5 rfl ?_))
      refine EL_mv i6 rfl ?_
      cases h
     ·refine E_cf n8 rfl ?_
      exact E_skip (blk_n (thn_n (oD () _ _ ⟨rE,hfr,t5,l5,i6⟩ h)))
    ·rintro _ uE zE ⟨aE, hfr, nB, oB, vB⟩ h
     refine E_region (EL_mv vB rfl ?_)
     refine EL_in (.int .i64 ((w64 (o0 + (1:Int))))) rfl rfl rfl rfl ?_
     refine EL_at (.int .i64 ((w64 (o0 + (1:Int))))) rfl rfl ?_
     exact EL_nil (thn_n (lD ((w64 (o0 + (1:Int)))) _ _ ⟨aE,hfr,nB,oB,rfl⟩ h))
  ·rintro _ vE cF ⟨dF, hfr, yB, zB⟩ h
   refine E_seq (E_region (EL_mv yB rfl ?_))
   refine EL_at up0 rfl rfl ?_
   refine EL_nil (thn_n (E_ret ?_))
   obtain rfl:=sinj h
   exact end1 rfl rfl (show _=up0 from rfl) ⟨_,hfr,zB⟩
def f81 (x0:List BookTie) (x1:BookTie→Option Bool):Option (Int):=
 jn (σ:=Unit) (fun _=>
  some ((-1:Int))
  ) fun k18=>
 lp (σ:=Int) (fun k19 o0=>
  bif (decide (o0 < ((x0).length : Int))) then
   jn (σ:=Unit) (fun _=>
    k19 ((w64 (o0 + (1:Int))))
    ) fun k28=>
   (idx x0 o0).bind fun vB=>
   (x1 vB).bind fun yB=>
   bif yB then
    some (o0)
   else
    k28 ()
  else
   k18 ()
  ) big ((0:Int))
theorem en81:Enters Tryz.prog 81:=enters_of Tryz.func81 (by kernel_rfl) rfl
theorem wk81 {gI:Gh} {wI:World} {x0:List BookTie} {x1:BookTie→Option Bool} {up0:Value} (rp0:RV gI.m wI x0 up0) {up1:Value} (rp1:FnV1 Tryz.prog x1 up1 gI wI) {r:Int} (h:f81 x0 x1=some r):Fn Tryz.prog 81 #[up0,up1] gI wI (fun _ _ v=>v=.int .i64 (r)):=by
 unfold f81 at h
 refine fn_of_E Tryz.func81 rfl (Nat.le_of_ble_eq_true rfl) fun g0 hm hfr=>?_
 have rp0:RV g0.m wI x0 up0:=hm ▸ rp0
 obtain ⟨ff1,fa1,fc1,rfl,fen1,fcl1⟩:=rp1
 show E _ 19 none _ _ _ _ _
 refine E_seq (E_region (EL_at (.int .i64 (0)) rfl rfl ?_))
 refine EL_nil (thn_n (E_joinC h (fun (s:Unit) e w=>∃ (g:Gh) ,Fr gI wI g w) (fun X18 k18 zB h=>?_) ?_))
 ·refine E_seq (E_region (EL_mw up0 rfl rfl ?_))
  refine EL_p (.int .i64 ((x0).length:Int)) (P_len Tryz.underlying47 rfl rp0) rfl ?_
  refine EL_mw (.int .i64 (0)) rfl rfl ?_
  refine EL_nil (thn_n (E_block ?_))
  refine E_lp h (fun (s:Int) e w=>∃ (g:Gh) ,Fr gI wI g w∧e 0=up0∧RV g.m w (x0:List BookTie) up0∧e 1=(.func (.func ff1) fa1 fc1)∧e 7=.int .i64 (((x0).length:Int))∧e 8=.int .i64 (s)) ⟨g0,hfr,rfl,rp0,rfl,rfl,rfl⟩ (fun X19 k19 cC=>?_)
  rintro o0 yD bE ⟨l9,hfr,l8,l5,n8,v8,t5⟩ h
  refine E_seq (E_region (EL_in (.bool ((decide (o0 < ((x0).length:Int))))) t5 v8 rfl rfl ?_))
  refine EL_nil (thn_n (E_seq ?_))
  rcases csome h with ⟨i6,h⟩ | ⟨i6,h⟩
  ·refine E_ct i6 rfl ?_
   refine E_skip (thn_n (E_joinC h (fun (s:Unit) e w=>∃ (g:Gh) ,Fr gI wI g w∧e 0=up0∧RV g.m w (x0:List BookTie) up0∧e 1=(.func (.func ff1) fa1 fc1)∧e 7=.int .i64 (((x0).length:Int))∧e 8=.int .i64 (o0)) (fun X28 k28 uC h=>?_) ?_))
   ·refine E_block ?_
    refine E_seq (E_region (EL_mv t5 rfl ?_))
    refine EL_at (.int .i64 (o0)) rfl rfl ?_
    refine EL_nil (thn_n (E_seq (E_region (EL_mv n8 rfl ?_))))
    refine EL_mv l8 rfl ?_
    refine EL_mw (.int .i64 (o0)) rfl rfl ?_
    obtain ⟨vB,n9,h⟩:=bsome h
    refine EL_p (ePtr up0 o0 3) (P_indexAddr (α:=BookTie) Tryz.underlying47 Tryz.sizeOf90 rfl l5 rfl n9) rfl ?_
    have bD:=PT_idx l5 n9
    refine EL_do .plain rfl (D_load (g:=l9) Tryz.isAgg90 Tryz.sizeOf90 rfl bD fun cD lD=>?_)
    obtain ⟨yB,vC,h⟩:=bsome h
    refine EL_do .plain rfl (D_callv (g:=l9) (vs:=[cD]) rfl fen1 (.cons rfl .nil) (fcl1 _ _ hfr.ch _ _ _  lD vC) fun nD iE lE hs hr=>?_)
    have hfr:=hfr.ext hs
    have l5:=l5.ext hs
    obtain rfl:=RV_bool.1 hr
    refine EL_nil (thn_n ?_)
    rcases csome h with ⟨g8,h⟩ | ⟨g8,h⟩
    ·refine E_ct g8 rfl ?_
     refine E_seq (E_region (EL_mw (.int .i64 (o0)) rfl rfl ?_))
     refine EL_at (.int .i64 (o0)) rfl rfl ?_
     refine EL_nil (thn_n (E_ret (blk_r ?_)))
     refine thn_r ?_
     refine thn_r ?_
     refine blk_r ?_
     refine thn_r ?_
     obtain rfl:=sinj h
     exact end1 rfl rfl (show _=.int .i64 (o0) from rfl) ⟨_,hfr,rfl⟩
    ·refine E_cf g8 rfl ?_
     exact E_skip (blk_n (thn_n (uC () _ _ ⟨nD,hfr,l8,l5,n8,v8,t5⟩ h)))
   ·rintro _ zD mE ⟨oD, hfr, aB, lB, mB, nB, oB⟩ h
    refine E_region (EL_in (.int .i64 ((w64 (o0 + (1:Int))))) oB rfl rfl rfl ?_)
    refine EL_mw (.int .i64 ((w64 (o0 + (1:Int))))) rfl rfl ?_
    exact EL_nil (thn_n (cC ((w64 (o0 + (1:Int)))) _ _ ⟨oD,hfr,aB,lB,mB,nB,rfl⟩ h))
  ·refine E_cf i6 rfl ?_
   refine E_exit ?_
   refine thn_e ?_
   refine thn_e ?_
   refine blk_hit ?_
   exact thn_n (zB () _ _ ⟨l9,hfr⟩ h)
 ·rintro _ aE oE ⟨rE, hfr⟩ h
  refine E_seq (E_region (EL_at (.int .i64 (-1)) rfl rfl ?_))
  refine EL_nil (thn_n (E_ret ?_))
  obtain rfl:=sinj h
  exact end1 rfl rfl (show _=.int .i64 (-1) from rfl) ⟨_,hfr,rfl⟩
def f82 (x0:List BookChain) (x1:BookChain→Option Bool):Option (Int):=
 jn (σ:=Unit) (fun _=>
  some ((-1:Int))
  ) fun k18=>
 lp (σ:=Int) (fun k19 o0=>
  bif (decide (o0 < ((x0).length : Int))) then
   jn (σ:=Unit) (fun _=>
    k19 ((w64 (o0 + (1:Int))))
    ) fun k28=>
   (idx x0 o0).bind fun vB=>
   (x1 vB).bind fun yB=>
   bif yB then
    some (o0)
   else
    k28 ()
  else
   k18 ()
  ) big ((0:Int))
theorem en82:Enters Tryz.prog 82:=enters_of Tryz.func82 (by kernel_rfl) rfl
theorem wk82 {gI:Gh} {wI:World} {x0:List BookChain} {x1:BookChain→Option Bool} {up0:Value} (rp0:RV gI.m wI x0 up0) {up1:Value} (rp1:FnV1 Tryz.prog x1 up1 gI wI) {r:Int} (h:f82 x0 x1=some r):Fn Tryz.prog 82 #[up0,up1] gI wI (fun _ _ v=>v=.int .i64 (r)):=by
 unfold f82 at h
 refine fn_of_E Tryz.func82 rfl (Nat.le_of_ble_eq_true rfl) fun g0 hm hfr=>?_
 have rp0:RV g0.m wI x0 up0:=hm ▸ rp0
 obtain ⟨ff1,fa1,fc1,rfl,fen1,fcl1⟩:=rp1
 show E _ 19 none _ _ _ _ _
 refine E_seq (E_region (EL_at (.int .i64 (0)) rfl rfl ?_))
 refine EL_nil (thn_n (E_joinC h (fun (s:Unit) e w=>∃ (g:Gh) ,Fr gI wI g w) (fun X18 k18 zB h=>?_) ?_))
 ·refine E_seq (E_region (EL_mw up0 rfl rfl ?_))
  refine EL_p (.int .i64 ((x0).length:Int)) (P_len Tryz.underlying48 rfl rp0) rfl ?_
  refine EL_mw (.int .i64 (0)) rfl rfl ?_
  refine EL_nil (thn_n (E_block ?_))
  refine E_lp h (fun (s:Int) e w=>∃ (g:Gh) ,Fr gI wI g w∧e 0=up0∧RV g.m w (x0:List BookChain) up0∧e 1=(.func (.func ff1) fa1 fc1)∧e 7=.int .i64 (((x0).length:Int))∧e 8=.int .i64 (s)) ⟨g0,hfr,rfl,rp0,rfl,rfl,rfl⟩ (fun X19 k19 cC=>?_)
  rintro o0 yD bE ⟨l9,hfr,l8,l5,n8,v8,t5⟩ h
  refine E_seq (E_region (EL_in (.bool ((decide (o0 < ((x0).length:Int))))) t5 v8 rfl rfl ?_))
  refine EL_nil (thn_n (E_seq ?_))
  rcases csome h with ⟨i6,h⟩ | ⟨i6,h⟩
  ·refine E_ct i6 rfl ?_
   refine E_skip (thn_n (E_joinC h (fun (s:Unit) e w=>∃ (g:Gh) ,Fr gI wI g w∧e 0=up0∧RV g.m w (x0:List BookChain) up0∧e 1=(.func (.func ff1) fa1 fc1)∧e 7=.int .i64 (((x0).length:Int))∧e 8=.int .i64 (o0)) (fun X28 k28 uC h=>?_) ?_))
   ·refine E_block ?_
    refine E_seq (E_region (EL_mv t5 rfl ?_))
    refine EL_at (.int .i64 (o0)) rfl rfl ?_
    refine EL_nil (thn_n (E_seq (E_region (EL_mv n8 rfl ?_))))
    refine EL_mv l8 rfl ?_
    refine EL_mw (.int .i64 (o0)) rfl rfl ?_
    obtain ⟨vB,n9,h⟩:=bsome h
    refine EL_p (ePtr up0 o0 3) (P_indexAddr (α:=BookChain) Tryz.underlying48 Tryz.sizeOf92 rfl l5 rfl n9) rfl ?_
    have bD:=PT_idx l5 n9
    refine EL_do .plain rfl (D_load (g:=l9) Tryz.isAgg92 Tryz.sizeOf92 rfl bD fun cD lD=>?_)
    obtain ⟨yB,vC,h⟩:=bsome h
    refine EL_do .plain rfl (D_callv (g:=l9) (vs:=[cD]) rfl fen1 (.cons rfl .nil) (fcl1 _ _ hfr.ch _ _ _  lD vC) fun nD iE lE hs hr=>?_)
    have hfr:=hfr.ext hs
    have l5:=l5.ext hs
    obtain rfl:=RV_bool.1 hr
    refine EL_nil (thn_n ?_)
    rcases csome h with ⟨g8,h⟩ | ⟨g8,h⟩
    ·refine E_ct g8 rfl ?_
     refine E_seq (E_region (EL_mw (.int .i64 (o0)) rfl rfl ?_))
     refine EL_at (.int .i64 (o0)) rfl rfl ?_
     refine EL_nil (thn_n (E_ret (blk_r ?_)))
     refine thn_r ?_
     refine thn_r ?_
     refine blk_r ?_
     refine thn_r ?_
     obtain rfl:=sinj h
     exact end1 rfl rfl (show _=.int .i64 (o0) from rfl) ⟨_,hfr,rfl⟩
    ·refine E_cf g8 rfl ?_
     exact E_skip (blk_n (thn_n (uC () _ _ ⟨nD,hfr,l8,l5,n8,v8,t5⟩ h)))
   ·rintro _ zD mE ⟨oD, hfr, aB, lB, mB, nB, oB⟩ h
    refine E_region (EL_in (.int .i64 ((w64 (o0 + (1:Int))))) oB rfl rfl rfl ?_)
    refine EL_mw (.int .i64 ((w64 (o0 + (1:Int))))) rfl rfl ?_
    exact EL_nil (thn_n (cC ((w64 (o0 + (1:Int)))) _ _ ⟨oD,hfr,aB,lB,mB,nB,rfl⟩ h))
  ·refine E_cf i6 rfl ?_
   refine E_exit ?_
   refine thn_e ?_
   refine thn_e ?_
   refine blk_hit ?_
   exact thn_n (zB () _ _ ⟨l9,hfr⟩ h)
 ·rintro _ aE oE ⟨rE, hfr⟩ h
  refine E_seq (E_region (EL_at (.int .i64 (-1)) rfl rfl ?_))
  refine EL_nil (thn_n (E_ret ?_))
  obtain rfl:=sinj h
  exact end1 rfl rfl (show _=.int .i64 (-1) from rfl) ⟨_,hfr,rfl⟩
def f88 (x0:ChainChainBelt) (x1:Int) (x2:Int):Option (Int):=
 (rem64 (w64 (x1 + x2)) ((((x0).ChainBelt).Cards).length:Int)).bind fun y5=>
 some (y5)
theorem en88:Enters Tryz.prog 88:=enters_of Tryz.func88 (by kernel_rfl) rfl
theorem wk88 {gI:Gh} {wI:World} {x0:ChainChainBelt} {x1:Int} {x2:Int} {up0:Value} (rp0:RV gI.m wI x0 up0) {r:Int} (h:f88 x0 x1 x2=some r):Fn Tryz.prog 88 #[up0,.int .i64 (x1),.int .i64 (x2)] gI wI (fun _ _ v=>v=.int .i64 (r)):=by
 unfold f88 at h
 refine fn_of_E Tryz.func88 rfl (Nat.le_of_ble_eq_true rfl) fun g0 hm hfr=>?_
 have rp0:RV g0.m wI x0 up0:=hm ▸ rp0
 show E _ 15 none _ _ _ _ _
 refine E_seq (E_region (EL_do .plain rfl (D_box (g:=g0) rfl rp0 fun g1 w1 p1 hs q1=>?_)))
 have hfr:=hfr.ext hs
 refine EL_at (.int .i64 (0)) rfl rfl ?_
 refine EL_nil (thn_n (E_seq (E_region (EL_mw (.int .i64 (x1)) rfl rfl ?_))))
 refine EL_mw (.int .i64 (x2)) rfl rfl ?_
 refine EL_in (.int .i64 ((w64 (x1 + x2)))) rfl rfl rfl rfl ?_
 refine EL_p (fPtr p1 0) (P_fieldAddr at_171_0 rfl (PT.ptr q1)) rfl ?_
 have q2:=PT_field (part_ChainChainBelt_0).1 q1
 refine EL_p (fPtr (fPtr p1 0) 1) (P_fieldAddr at_85_1 rfl (PT.ptr q2)) rfl ?_
 have q3:=PT_field (part_ChainBelt_1).1 q2
 refine EL_do .plain rfl (D_load (g:=g1) Tryz.isAgg83 Tryz.sizeOf83 rfl q3 fun v4 r4=>?_)
 refine EL_p (.int .i64 ((((x0).ChainBelt).Cards).length:Int)) (P_len Tryz.underlying83 rfl r4) rfl ?_
 obtain ⟨y5,hy5,h⟩:=bsome h
 refine EL_p (.int .i64 (y5)) (P_int rfl rfl (congrArg (Option.map (Value.int .i64)) hy5)) rfl ?_
 refine EL_at (.int .i64 (y5)) rfl rfl ?_
 refine EL_nil (thn_n (E_ret ?_))
 obtain rfl:=sinj h
 exact end1 rfl rfl (show _=.int .i64 (y5) from rfl) ⟨_,hfr,rfl⟩
def f92 (x0:List BeamPair) (x1:BeamPair→Option Bool):Option (Int):=
 jn (σ:=Unit) (fun _=>
  some ((-1:Int))
  ) fun k18=>
 lp (σ:=Int) (fun k19 o0=>
  bif (decide (o0 < ((x0).length : Int))) then
   jn (σ:=Unit) (fun _=>
    k19 ((w64 (o0 + (1:Int))))
    ) fun k28=>
   (idx x0 o0).bind fun vB=>
   (x1 vB).bind fun yB=>
   bif yB then
    some (o0)
   else
    k28 ()
  else
   k18 ()
  ) big ((0:Int))
theorem en92:Enters Tryz.prog 92:=enters_of Tryz.func92 (by kernel_rfl) rfl
theorem wk92 {gI:Gh} {wI:World} {x0:List BeamPair} {x1:BeamPair→Option Bool} {up0:Value} (rp0:RV gI.m wI x0 up0) {up1:Value} (rp1:FnV1 Tryz.prog x1 up1 gI wI) {r:Int} (h:f92 x0 x1=some r):Fn Tryz.prog 92 #[up0,up1] gI wI (fun _ _ v=>v=.int .i64 (r)):=by
 unfold f92 at h
 refine fn_of_E Tryz.func92 rfl (Nat.le_of_ble_eq_true rfl) fun g0 hm hfr=>?_
 have rp0:RV g0.m wI x0 up0:=hm ▸ rp0
 obtain ⟨ff1,fa1,fc1,rfl,fen1,fcl1⟩:=rp1
 show E _ 19 none _ _ _ _ _
 refine E_seq (E_region (EL_at (.int .i64 (0)) rfl rfl ?_))
 refine EL_nil (thn_n (E_joinC h (fun (s:Unit) e w=>∃ (g:Gh) ,Fr gI wI g w) (fun X18 k18 zB h=>?_) ?_))
 ·refine E_seq (E_region (EL_mw up0 rfl rfl ?_))
  refine EL_p (.int .i64 ((x0).length:Int)) (P_len Tryz.underlying35 rfl rp0) rfl ?_
  refine EL_mw (.int .i64 (0)) rfl rfl ?_
  refine EL_nil (thn_n (E_block ?_))
  refine E_lp h (fun (s:Int) e w=>∃ (g:Gh) ,Fr gI wI g w∧e 0=up0∧RV g.m w (x0:List BeamPair) up0∧e 1=(.func (.func ff1) fa1 fc1)∧e 7=.int .i64 (((x0).length:Int))∧e 8=.int .i64 (s)) ⟨g0,hfr,rfl,rp0,rfl,rfl,rfl⟩ (fun X19 k19 cC=>?_)
  rintro o0 yD bE ⟨l9,hfr,l8,l5,n8,v8,t5⟩ h
  refine E_seq (E_region (EL_in (.bool ((decide (o0 < ((x0).length:Int))))) t5 v8 rfl rfl ?_))
  refine EL_nil (thn_n (E_seq ?_))
  rcases csome h with ⟨i6,h⟩ | ⟨i6,h⟩
  ·refine E_ct i6 rfl ?_
   refine E_skip (thn_n (E_joinC h (fun (s:Unit) e w=>∃ (g:Gh) ,Fr gI wI g w∧e 0=up0∧RV g.m w (x0:List BeamPair) up0∧e 1=(.func (.func ff1) fa1 fc1)∧e 7=.int .i64 (((x0).length:Int))∧e 8=.int .i64 (o0)) (fun X28 k28 uC h=>?_) ?_))
   ·refine E_block ?_
    refine E_seq (E_region (EL_mv t5 rfl ?_))
    refine EL_at (.int .i64 (o0)) rfl rfl ?_
    refine EL_nil (thn_n (E_seq (E_region (EL_mv n8 rfl ?_))))
    refine EL_mv l8 rfl ?_
    refine EL_mw (.int .i64 (o0)) rfl rfl ?_
    obtain ⟨vB,n9,h⟩:=bsome h
    refine EL_p (ePtr up0 o0 2) (P_indexAddr (α:=BeamPair) Tryz.underlying35 Tryz.sizeOf69 rfl l5 rfl n9) rfl ?_
    have bD:=PT_idx l5 n9
    refine EL_do .plain rfl (D_load (g:=l9) Tryz.isAgg69 Tryz.sizeOf69 rfl bD fun cD lD=>?_)
    obtain ⟨yB,vC,h⟩:=bsome h
    refine EL_do .plain rfl (D_callv (g:=l9) (vs:=[cD]) rfl fen1 (.cons rfl .nil) (fcl1 _ _ hfr.ch _ _ _  lD vC) fun nD iE lE hs hr=>?_)
    have hfr:=hfr.ext hs
    have l5:=l5.ext hs
    obtain rfl:=RV_bool.1 hr
    refine EL_nil (thn_n ?_)
    rcases csome h with ⟨g8,h⟩ | ⟨g8,h⟩
    ·refine E_ct g8 rfl ?_
     refine E_seq (E_region (EL_mw (.int .i64 (o0)) rfl rfl ?_))
     refine EL_at (.int .i64 (o0)) rfl rfl ?_
     refine EL_nil (thn_n (E_ret (blk_r ?_)))
     refine thn_r ?_
     refine thn_r ?_
     refine blk_r ?_
     refine thn_r ?_
     obtain rfl:=sinj h
     exact end1 rfl rfl (show _=.int .i64 (o0) from rfl) ⟨_,hfr,rfl⟩
    ·refine E_cf g8 rfl ?_
     exact E_skip (blk_n (thn_n (uC () _ _ ⟨nD,hfr,l8,l5,n8,v8,t5⟩ h)))
   ·rintro _ zD mE ⟨oD, hfr, aB, lB, mB, nB, oB⟩ h
    refine E_region (EL_in (.int .i64 ((w64 (o0 + (1:Int))))) oB rfl rfl rfl ?_)
    refine EL_mw (.int .i64 ((w64 (o0 + (1:Int))))) rfl rfl ?_
    exact EL_nil (thn_n (cC ((w64 (o0 + (1:Int)))) _ _ ⟨oD,hfr,aB,lB,mB,nB,rfl⟩ h))
  ·refine E_cf i6 rfl ?_
   refine E_exit ?_
   refine thn_e ?_
   refine thn_e ?_
   refine blk_hit ?_
   exact thn_n (zB () _ _ ⟨l9,hfr⟩ h)
 ·rintro _ aE oE ⟨rE, hfr⟩ h
  refine E_seq (E_region (EL_at (.int .i64 (-1)) rfl rfl ?_))
  refine EL_nil (thn_n (E_ret ?_))
  obtain rfl:=sinj h
  exact end1 rfl rfl (show _=.int .i64 (-1) from rfl) ⟨_,hfr,rfl⟩
def f93 (x0:List Int) (x1:Int→Option Bool):Option (Int):=
 jn (σ:=Unit) (fun _=>
  some ((-1:Int))
  ) fun k18=>
 lp (σ:=Int) (fun k19 o0=>
  bif (decide (o0 < ((x0).length : Int))) then
   jn (σ:=Unit) (fun _=>
    k19 ((w64 (o0 + (1:Int))))
    ) fun k28=>
   (idx x0 o0).bind fun l9=>
   (x1 l9).bind fun yB=>
   bif yB then
    some (o0)
   else
    k28 ()
  else
   k18 ()
  ) big ((0:Int))
theorem en93:Enters Tryz.prog 93:=enters_of Tryz.func93 (by kernel_rfl) rfl
theorem wk93 {gI:Gh} {wI:World} {x0:List Int} {x1:Int→Option Bool} {up0:Value} (rp0:RV gI.m wI x0 up0) {up1:Value} (rp1:FnV1 Tryz.prog x1 up1 gI wI) {r:Int} (h:f93 x0 x1=some r):Fn Tryz.prog 93 #[up0,up1] gI wI (fun _ _ v=>v=.int .i64 (r)):=by
 unfold f93 at h
 refine fn_of_E Tryz.func93 rfl (Nat.le_of_ble_eq_true rfl) fun g0 hm hfr=>?_
 have rp0:RV g0.m wI x0 up0:=hm ▸ rp0
 obtain ⟨ff1,fa1,fc1,rfl,fen1,fcl1⟩:=rp1
 show E _ 19 none _ _ _ _ _
 refine E_seq (E_region (EL_at (.int .i64 (0)) rfl rfl ?_))
 refine EL_nil (thn_n (E_joinC h (fun (s:Unit) e w=>∃ (g:Gh) ,Fr gI wI g w) (fun X18 k18 zB h=>?_) ?_))
 ·refine E_seq (E_region (EL_mw up0 rfl rfl ?_))
  refine EL_p (.int .i64 ((x0).length:Int)) (P_len Tryz.underlying25 rfl rp0) rfl ?_
  refine EL_mw (.int .i64 (0)) rfl rfl ?_
  refine EL_nil (thn_n (E_block ?_))
  refine E_lp h (fun (s:Int) e w=>∃ (g:Gh) ,Fr gI wI g w∧e 0=up0∧RV g.m w (x0:List Int) up0∧e 1=(.func (.func ff1) fa1 fc1)∧e 7=.int .i64 (((x0).length:Int))∧e 8=.int .i64 (s)) ⟨g0,hfr,rfl,rp0,rfl,rfl,rfl⟩ (fun X19 k19 cC=>?_)
  rintro o0 oD aE ⟨n9,hfr,l8,l5,n8,v8,t5⟩ h
  refine E_seq (E_region (EL_in (.bool ((decide (o0 < ((x0).length:Int))))) t5 v8 rfl rfl ?_))
  refine EL_nil (thn_n (E_seq ?_))
  rcases csome h with ⟨i6,h⟩ | ⟨i6,h⟩
  ·refine E_ct i6 rfl ?_
   refine E_skip (thn_n (E_joinC h (fun (s:Unit) e w=>∃ (g:Gh) ,Fr gI wI g w∧e 0=up0∧RV g.m w (x0:List Int) up0∧e 1=(.func (.func ff1) fa1 fc1)∧e 7=.int .i64 (((x0).length:Int))∧e 8=.int .i64 (o0)) (fun X28 k28 uC h=>?_) ?_))
   ·refine E_block ?_
    refine E_seq (E_region (EL_mv t5 rfl ?_))
    refine EL_at (.int .i64 (o0)) rfl rfl ?_
    refine EL_nil (thn_n (E_seq (E_region (EL_mv n8 rfl ?_))))
    refine EL_mv l8 rfl ?_
    refine EL_mw (.int .i64 (o0)) rfl rfl ?_
    obtain ⟨l9,aB,h⟩:=bsome h
    refine EL_p (ePtr up0 o0 1) (P_indexAddr (α:=Int) Tryz.underlying25 Tryz.sizeOf3 rfl l5 rfl aB) rfl ?_
    have bD:=PT_idx l5 aB
    refine EL_do .plain rfl (D_load (g:=n9) Tryz.isAgg3 Tryz.sizeOf3 rfl bD fun bE cD=>?_)
    obtain rfl:=RV_int.1 cD
    obtain ⟨yB,vC,h⟩:=bsome h
    refine EL_do .plain rfl (D_callv (g:=n9) (vs:=[.int .i64 (l9)]) rfl fen1 (.cons rfl .nil) (fcl1 _ _ hfr.ch _ _ _  (RV_int.2 rfl) vC) fun lD iE lE hs hr=>?_)
    have hfr:=hfr.ext hs
    have l5:=l5.ext hs
    obtain rfl:=RV_bool.1 hr
    refine EL_nil (thn_n ?_)
    rcases csome h with ⟨g8,h⟩ | ⟨g8,h⟩
    ·refine E_ct g8 rfl ?_
     refine E_seq (E_region (EL_mw (.int .i64 (o0)) rfl rfl ?_))
     refine EL_at (.int .i64 (o0)) rfl rfl ?_
     refine EL_nil (thn_n (E_ret (blk_r ?_)))
     refine thn_r ?_
     refine thn_r ?_
     refine blk_r ?_
     refine thn_r ?_
     obtain rfl:=sinj h
     exact end1 rfl rfl (show _=.int .i64 (o0) from rfl) ⟨_,hfr,rfl⟩
    ·refine E_cf g8 rfl ?_
     exact E_skip (blk_n (thn_n (uC () _ _ ⟨lD,hfr,l8,l5,n8,v8,t5⟩ h)))
   ·rintro _ yD mE ⟨nD, hfr, lB, mB, nB, oB, vB⟩ h
    refine E_region (EL_in (.int .i64 ((w64 (o0 + (1:Int))))) vB rfl rfl rfl ?_)
    refine EL_mw (.int .i64 ((w64 (o0 + (1:Int))))) rfl rfl ?_
    exact EL_nil (thn_n (cC ((w64 (o0 + (1:Int)))) _ _ ⟨nD,hfr,lB,mB,nB,oB,rfl⟩ h))
  ·refine E_cf i6 rfl ?_
   refine E_exit ?_
   refine thn_e ?_
   refine thn_e ?_
   refine blk_hit ?_
   exact thn_n (zB () _ _ ⟨n9,hfr⟩ h)
 ·rintro _ zD oE ⟨rE, hfr⟩ h
  refine E_seq (E_region (EL_at (.int .i64 (-1)) rfl rfl ?_))
  refine EL_nil (thn_n (E_ret ?_))
  obtain rfl:=sinj h
  exact end1 rfl rfl (show _=.int .i64 (-1) from rfl) ⟨_,hfr,rfl⟩
def f97 (x0:Int) (x1:Int):Option (Str):=
 Option.bind (α:=List UInt8) (
  lp (σ:=List UInt8 × Int) (fun k18 (t5,o0)=>
   bif (decide (o0 < x1)) then
    Option.bind (α:=List UInt8) (
     (shr64 x0 o0).bind fun n9=>
     bif ((bit64 .and n9 (1 : Int)) == (1 : Int)) then
      (apnd 1 t5 [(120:UInt8)]).bind fun vC=>
      some (vC)
     else
      (apnd 1 t5 [(46:UInt8)]).bind fun bD=>
      some (bD)
     ) fun i6=>
    k18 (i6,(w64 (o0 + (1:Int))))
   else
    some (t5)
   ) big (([]:List UInt8),(0:Int))
  ) fun l8=>
 (sbstr l8).bind fun mB=>
 some (mB)
theorem en97:Enters Tryz.prog 97:=enters_of Tryz.func97 (by kernel_rfl) rfl
theorem wk97 {gI:Gh} {wI:World} {x0:Int} {x1:Int}  {r:Str} (h:f97 x0 x1=some r):Fn Tryz.prog 97 #[.int .i64 (x0),.int .i64 (x1)] gI wI (fun _ _ v=>v=Str.v (r)):=by
 unfold f97 at h
 refine fn_of_E Tryz.func97 rfl (Nat.le_of_ble_eq_true rfl) fun g0 hm hfr=>?_
 show E _ 20 none _ _ _ _ _
 refine E_seq (E_region (EL_at (Str.v (⟨[]⟩:Str)) rfl rfl ?_))
 refine EL_nil (thn_n (E_seq (E_region (EL_do .plain rfl (D_allocOc (g:=g0) 2005 ((⟨.pointer none,rfl⟩,[]):Fv × List UInt8) Tryz.zeroValue156 (fun m w=>⟨_,rep_two (show GoT.rep m w (⟨.pointer none,rfl⟩:Fv) [.pointer none] from rfl) rep_nil,rfl⟩) fun g1 w1 p1 hs b1 cb=>?_)))))
 have hfr:=hfr.stp hs
 replace b1:SB 2005 60501 g1 w1 5 156 [] p1:=⟨_,b1,cb.osf rfl,.inl rfl⟩
 clear cb
 refine EL_nil (thn_n ?_)
 obtain ⟨l8,hx,h⟩:=bsome h
 refine E_join (fun e w=>∃ (g:Gh) ,Fr gI wI g w∧e 5=p1∧SB 2005 60501 g w 5 156 (l8) p1) (fun Q' hQ=>?_) (fun lE rE hR=>?_)
 ·replace h := hx
  clear hx
  refine E_seq (E_region (EL_mw (.int .i64 (x1)) rfl rfl ?_))
  refine EL_mw (.int .i64 (0)) rfl rfl ?_
  refine EL_nil (thn_n (E_block ?_))
  refine E_lp h (fun (s:List UInt8 × Int) e w=>∃ (g:Gh) ,Fr gI wI g w∧e 0=.int .i64 (x0)∧e 5=p1∧SB 2005 60501 g w 5 156 (s.1) p1∧e 7=.int .i64 (x1)∧e 8=.int .i64 (s.2)) ⟨g1,hfr,rfl,rfl,b1,rfl,rfl⟩ (fun X18 k18 cD=>?_)
  rintro ⟨t5,o0⟩ mE uE ⟨zD,hfr,n8,l5,v8,l9,g8⟩ h
  refine E_seq (E_region (EL_in (.bool ((decide (o0 < x1)))) g8 l9 rfl rfl ?_))
  refine EL_nil (thn_n (E_seq ?_))
  rcases csome h with ⟨aB,h⟩ | ⟨aB,h⟩
  ·refine E_ct aB rfl ?_
   refine E_skip (thn_n ?_)
   obtain ⟨i6,hx,h⟩:=bsome h
   refine E_join (fun e w=>∃ (g:Gh) ,Fr gI wI g w∧e 0=.int .i64 (x0)∧e 5=p1∧SB 2005 60501 g w 5 156 (i6) p1∧e 7=.int .i64 (x1)∧e 8=.int .i64 (o0)) (fun Q' hQ=>?_) (fun oE vE hR=>?_)
   ·replace h := hx
    clear hx
    refine E_block ?_
    refine E_seq (E_region (EL_mv g8 rfl ?_))
    refine EL_at (.int .i64 (o0)) rfl rfl ?_
    refine EL_nil (thn_n (E_seq (E_region (EL_mv n8 rfl ?_))))
    refine EL_mw (.int .i64 (o0)) rfl rfl ?_
    obtain ⟨n9,lD,h⟩:=bsome h
    refine EL_p (.int .i64 (n9)) (P_int rfl rfl (congrArg (Option.map (Value.int .i64)) lD)) rfl ?_
    refine EL_in (.int .i64 ((bit64 .and n9 (1:Int)))) rfl rfl rfl rfl ?_
    refine EL_in (.bool (((bit64 .and n9 (1:Int)) == (1:Int)))) rfl rfl rfl rfl ?_
    refine EL_nil (thn_n ?_)
    rcases csome h with ⟨lB,h⟩ | ⟨lB,h⟩
    ·refine E_ct lB rfl ?_
     refine E_region ?_
     obtain ⟨vC,nD,h⟩:=bsome h
     refine EL_do .plain rfl (D_callC (vs:=[p1,.int .u8 (UInt8.toNat 120)]) en94 (.cons l5 (.cons rfl .nil)) (wk94 (i:=2005) (j:=60501) rfl rfl v8 nD) fun xE w29 hq=>?_)
     obtain ⟨hv,aE,⟨_,_,_,_,hs1,hs2,hs3⟩,b29⟩:=hq
     subst hv
     have hfr:=hfr.stp hs1
     have hfr:=hfr.stp hs2
     have hfr:=hfr.stp hs3
     clear hs1 hs2 hs3
     refine EL_nil (blk_n ?_)
     obtain rfl:=sinj h
     exact hQ _ _ ⟨aE,hfr,n8,l5,b29,l9,g8⟩
    ·refine E_cf lB rfl ?_
     refine E_region ?_
     obtain ⟨bD,oD,h⟩:=bsome h
     refine EL_do .plain rfl (D_callC (vs:=[p1,.int .u8 (UInt8.toNat 46)]) en94 (.cons l5 (.cons rfl .nil)) (wk94 (i:=2005) (j:=60501) rfl rfl v8 oD) fun yE zE hq=>?_)
     obtain ⟨hv,bE,⟨_,_,_,_,hs1,hs2,hs3⟩,b31⟩:=hq
     subst hv
     have hfr:=hfr.stp hs1
     have hfr:=hfr.stp hs2
     have hfr:=hfr.stp hs3
     clear hs1 hs2 hs3
     refine EL_nil (blk_n ?_)
     obtain rfl:=sinj h
     exact hQ _ _ ⟨bE,hfr,n8,l5,b31,l9,g8⟩
   ·clear hx
    obtain ⟨iE,hfr,nB,oB,vB,yB,zB⟩:=hR
    refine E_region (EL_in (.int .i64 ((w64 (o0 + (1:Int))))) zB rfl rfl rfl ?_)
    refine EL_mw (.int .i64 ((w64 (o0 + (1:Int))))) rfl rfl ?_
    exact EL_nil (thn_n (cD (i6,(w64 (o0 + (1:Int)))) _ _ ⟨iE,hfr,nB,oB,vB,yB,rfl⟩ h))
  ·refine E_cf aB rfl ?_
   refine E_exit ?_
   refine thn_e ?_
   refine thn_e ?_
   refine blk_hit ?_
   obtain rfl:=sinj h
   exact hQ _ _ ⟨zD,hfr,l5,v8⟩
 ·clear hx
  obtain ⟨cF,hfr,cC,uC⟩:=hR
  refine E_seq (E_region ?_)
  obtain ⟨mB,yD,h⟩:=bsome h
  obtain ⟨hne35,hye35⟩:=sbstr_h yD
  refine EL_do .plain rfl (D_callC (vs:=[p1]) en67 (.cons cC .nil) (wk67 (i:=2005) (j:=60501) rfl uC hne35) fun dF eF hq=>?_)
  obtain ⟨hv,rF,hs⟩:=hq
  rw [← hye35] at hv
  subst hv
  have hfr:=hfr.stp hs
  refine EL_at (Str.v mB) rfl rfl ?_
  refine EL_nil (thn_n (E_ret ?_))
  obtain rfl:=sinj h
  exact end1 rfl rfl (show _=Str.v mB from rfl) ⟨_,hfr,rfl⟩
def f98 (x0:Int) (z0:Int) (z1:Int):Option (Bool):=
 Option.bind (α:=Bool) (
  bif (decide (x0 < z0)) then
   some (true)
  else
   some ((decide (x0 > z1)))
  ) fun o0=>
 some (o0)
theorem en98:Enters Tryz.prog 98:=enters_of Tryz.func98 (by kernel_rfl) rfl
theorem wk98 {gI:Gh} {wI:World} {x0:Int} {z0:Int} {z1:Int} {pf0:Value} (qf0:PT gI.m wI z0 pf0) {pf1:Value} (qf1:PT gI.m wI z1 pf1) {r:Bool} (h:f98 x0 z0 z1=some r):Fn Tryz.prog 98 #[.int .i64 (x0),pf0,pf1] gI wI (fun _ _ v=>v=.bool (r)):=by
 unfold f98 at h
 refine fn_of_E Tryz.func98 rfl (Nat.le_of_ble_eq_true rfl) fun g0 hm hfr=>?_
 have qf0:PT g0.m wI z0 pf0:=hm ▸ qf0
 have qf1:PT g0.m wI z1 pf1:=hm ▸ qf1
 show E _ 13 none _ _ _ _ _
 refine E_seq (E_region (EL_at (.bool false) rfl rfl ?_))
 refine EL_nil (thn_n ?_)
 obtain ⟨o0,hx,h⟩:=bsome h
 refine E_join (fun e w=>∃ (g:Gh) ,Fr gI wI g w∧e 4=.bool (o0)) (fun Q' hQ=>?_) (fun t5 w7 hR=>?_)
 ·replace h := hx
  clear hx
  refine E_region (EL_mw (.int .i64 (x0)) rfl rfl ?_)
  refine EL_do .plain rfl (D_load (g:=g0) Tryz.isAgg3 Tryz.sizeOf3 rfl qf0 fun v4 r4=>?_)
  obtain rfl:=RV_int.1 r4
  refine EL_in (.bool ((decide (x0 < z0)))) rfl rfl rfl rfl ?_
  refine EL_mw (.bool ((decide (x0 < z0)))) rfl rfl ?_
  rcases csome h with ⟨hc5,h⟩ | ⟨hc5,h⟩
  ·refine EL_s rfl rfl hc5 rfl rfl ?_
   refine EL_s rfl rfl hc5 rfl rfl ?_
   refine EL_s rfl rfl hc5 rfl rfl ?_
   refine EL_p (.bool true) (P_pick (b:=(decide (x0 < z0))) rfl (pick_t hc5 rfl)) rfl ?_
   refine EL_at (.bool true) rfl rfl ?_
   refine EL_nil ?_
   obtain rfl:=sinj h
   exact hQ _ _ ⟨g0,hfr,rfl⟩
  ·refine EL_y (.int .i64 (x0)) (P_move rfl) rfl rfl hc5 rfl ?_
   refine EL_do (.yes2 rfl rfl hc5) rfl (D_load (g:=g0) Tryz.isAgg3 Tryz.sizeOf3 rfl qf1 fun v6 r6=>?_)
   obtain rfl:=RV_int.1 r6
   refine EL_y (.bool ((decide (x0 > z1)))) (P_int rfl rfl rfl) rfl rfl hc5 rfl ?_
   refine EL_p (.bool ((decide (x0 > z1)))) (P_pick (b:=(decide (x0 < z0))) rfl (pick_f hc5 rfl)) rfl ?_
   refine EL_at (.bool ((decide (x0 > z1)))) rfl rfl ?_
   refine EL_nil ?_
   obtain rfl:=sinj h
   exact hQ _ _ ⟨g0,hfr,rfl⟩
 ·clear hx
  obtain ⟨g7,hfr,l5⟩:=hR
  refine E_ret ?_
  obtain rfl:=sinj h
  exact end1 rfl rfl (show _=.bool (o0) from l5) ⟨_,hfr,rfl⟩
def f99 (x0:Int):Option (Bool):=
 some ((x0 != x0))
theorem en99:Enters Tryz.prog 99:=enters_of Tryz.func99 (by kernel_rfl) rfl
theorem wk99 {gI:Gh} {wI:World} {x0:Int}  {r:Bool} (h:f99 x0=some r):Fn Tryz.prog 99 #[.int .i64 (x0)] gI wI (fun _ _ v=>v=.bool (r)):=by
 unfold f99 at h
 refine fn_of_E Tryz.func99 rfl (Nat.le_of_ble_eq_true rfl) fun g0 hm hfr=>?_
 show E _ 6 none _ _ _ _ _
 refine E_seq (E_region (EL_at (.bool false) rfl rfl ?_))
 refine EL_nil (thn_n (E_seq (E_region (EL_mw (.int .i64 (x0)) rfl rfl ?_))))
 refine EL_mw (.int .i64 (x0)) rfl rfl ?_
 refine EL_in (.bool ((x0 != x0))) rfl rfl rfl rfl ?_
 refine EL_at (.bool ((x0 != x0))) rfl rfl ?_
 refine EL_nil (thn_n (E_ret ?_))
 obtain rfl:=sinj h
 exact end1 rfl rfl (show _=.bool ((x0 != x0)) from rfl) ⟨_,hfr,rfl⟩
def f100 (x0:Int) (z0:Int) (z1:Int):Option (Bool):=
 Option.bind (α:=Bool) (
  bif (decide (x0 < z0)) then
   some (true)
  else
   some ((decide (x0 > z1)))
  ) fun o0=>
 some (o0)
theorem en100:Enters Tryz.prog 100:=enters_of Tryz.func100 (by kernel_rfl) rfl
theorem wk100 {gI:Gh} {wI:World} {x0:Int} {z0:Int} {z1:Int} {pf0:Value} (qf0:PT gI.m wI z0 pf0) {pf1:Value} (qf1:PT gI.m wI z1 pf1) {r:Bool} (h:f100 x0 z0 z1=some r):Fn Tryz.prog 100 #[.int .i64 (x0),pf0,pf1] gI wI (fun _ _ v=>v=.bool (r)):=by
 unfold f100 at h
 refine fn_of_E Tryz.func100 rfl (Nat.le_of_ble_eq_true rfl) fun g0 hm hfr=>?_
 have qf0:PT g0.m wI z0 pf0:=hm ▸ qf0
 have qf1:PT g0.m wI z1 pf1:=hm ▸ qf1
 show E _ 13 none _ _ _ _ _
 refine E_seq (E_region (EL_at (.bool false) rfl rfl ?_))
 refine EL_nil (thn_n ?_)
 obtain ⟨o0,hx,h⟩:=bsome h
 refine E_join (fun e w=>∃ (g:Gh) ,Fr gI wI g w∧e 4=.bool (o0)) (fun Q' hQ=>?_) (fun t5 w7 hR=>?_)
 ·replace h := hx
  clear hx
  refine E_region (EL_mw (.int .i64 (x0)) rfl rfl ?_)
  refine EL_do .plain rfl (D_load (g:=g0) Tryz.isAgg3 Tryz.sizeOf3 rfl qf0 fun v4 r4=>?_)
  obtain rfl:=RV_int.1 r4
  refine EL_in (.bool ((decide (x0 < z0)))) rfl rfl rfl rfl ?_
  refine EL_mw (.bool ((decide (x0 < z0)))) rfl rfl ?_
  rcases csome h with ⟨hc5,h⟩ | ⟨hc5,h⟩
  ·refine EL_s rfl rfl hc5 rfl rfl ?_
   refine EL_s rfl rfl hc5 rfl rfl ?_
   refine EL_s rfl rfl hc5 rfl rfl ?_
   refine EL_p (.bool true) (P_pick (b:=(decide (x0 < z0))) rfl (pick_t hc5 rfl)) rfl ?_
   refine EL_at (.bool true) rfl rfl ?_
   refine EL_nil ?_
   obtain rfl:=sinj h
   exact hQ _ _ ⟨g0,hfr,rfl⟩
  ·refine EL_y (.int .i64 (x0)) (P_move rfl) rfl rfl hc5 rfl ?_
   refine EL_do (.yes2 rfl rfl hc5) rfl (D_load (g:=g0) Tryz.isAgg3 Tryz.sizeOf3 rfl qf1 fun v6 r6=>?_)
   obtain rfl:=RV_int.1 r6
   refine EL_y (.bool ((decide (x0 > z1)))) (P_int rfl rfl rfl) rfl rfl hc5 rfl ?_
   refine EL_p (.bool ((decide (x0 > z1)))) (P_pick (b:=(decide (x0 < z0))) rfl (pick_f hc5 rfl)) rfl ?_
   refine EL_at (.bool ((decide (x0 > z1)))) rfl rfl ?_
   refine EL_nil ?_
   obtain rfl:=sinj h
   exact hQ _ _ ⟨g0,hfr,rfl⟩
 ·clear hx
  obtain ⟨g7,hfr,l5⟩:=hR
  refine E_ret ?_
  obtain rfl:=sinj h
  exact end1 rfl rfl (show _=.bool (o0) from l5) ⟨_,hfr,rfl⟩
def f103 (x0:I32):Option (Bool):=
 Option.bind (α:=Bool) (
  bif (decide ((x0).n < (97 : Int))) then
   some (true)
  else
   some ((decide ((x0).n > (122:Int))))
  ) fun o0=>
 some (o0)
theorem en103:Enters Tryz.prog 103:=enters_of Tryz.func103 (by kernel_rfl) rfl
theorem wk103 {gI:Gh} {wI:World} {x0:I32}  {r:Bool} (h:f103 x0=some r):Fn Tryz.prog 103 #[.int .i32 ((x0).n)] gI wI (fun _ _ v=>v=.bool (r)):=by
 unfold f103 at h
 refine fn_of_E Tryz.func103 rfl (Nat.le_of_ble_eq_true rfl) fun g0 hm hfr=>?_
 show E _ 9 none _ _ _ _ _
 refine E_seq (E_region (EL_at (.bool false) rfl rfl ?_))
 refine EL_nil (thn_n ?_)
 obtain ⟨o0,hx,h⟩:=bsome h
 refine E_join (fun e w=>∃ (g:Gh) ,Fr gI wI g w∧e 2=.bool (o0)) (fun Q' hQ=>?_) (fun t5 w3 hR=>?_)
 ·replace h := hx
  clear hx
  refine E_region (EL_mw (.int .i32 ((x0).n)) rfl rfl ?_)
  refine EL_p (.bool (decide ((x0).n < (97:Int)))) (P_i32cmp rfl rfl rfl) rfl ?_
  refine EL_mw (.bool (decide ((x0).n < (97:Int)))) rfl rfl ?_
  rcases csome h with ⟨hc2,h⟩ | ⟨hc2,h⟩
  ·refine EL_s rfl rfl hc2 rfl rfl ?_
   refine EL_s rfl rfl hc2 rfl rfl ?_
   refine EL_p (.bool true) (P_pick (b:=(decide ((x0).n < (97:Int)))) rfl (pick_t hc2 rfl)) rfl ?_
   refine EL_at (.bool true) rfl rfl ?_
   refine EL_nil ?_
   obtain rfl:=sinj h
   exact hQ _ _ ⟨g0,hfr,rfl⟩
  ·refine EL_y (.int .i32 ((x0).n)) (P_move rfl) rfl rfl hc2 rfl ?_
   refine EL_y (.bool (decide ((x0).n > (122:Int)))) (P_i32cmp rfl rfl rfl) rfl rfl hc2 rfl ?_
   refine EL_p (.bool (decide ((x0).n > (122:Int)))) (P_pick (b:=(decide ((x0).n < (97:Int)))) rfl (pick_f hc2 rfl)) rfl ?_
   refine EL_at (.bool (decide ((x0).n > (122:Int)))) rfl rfl ?_
   refine EL_nil ?_
   obtain rfl:=sinj h
   exact hQ _ _ ⟨g0,hfr,rfl⟩
 ·clear hx
  obtain ⟨g3,hfr,l5⟩:=hR
  refine E_ret ?_
  obtain rfl:=sinj h
  exact end1 rfl rfl (show _=.bool (o0) from l5) ⟨_,hfr,rfl⟩
def f105 (x0:List Str) (x1:Str→Option Bool):Option (Int):=
 jn (σ:=Unit) (fun _=>
  some ((-1:Int))
  ) fun k18=>
 lp (σ:=Int) (fun k19 o0=>
  bif (decide (o0 < ((x0).length : Int))) then
   jn (σ:=Unit) (fun _=>
    k19 ((w64 (o0 + (1:Int))))
    ) fun k28=>
   (idx x0 o0).bind fun l9=>
   (x1 l9).bind fun yB=>
   bif yB then
    some (o0)
   else
    k28 ()
  else
   k18 ()
  ) big ((0:Int))
theorem en105:Enters Tryz.prog 105:=enters_of Tryz.func105 (by kernel_rfl) rfl
theorem wk105 {gI:Gh} {wI:World} {x0:List Str} {x1:Str→Option Bool} {up0:Value} (rp0:RV gI.m wI x0 up0) {up1:Value} (rp1:FnV1 Tryz.prog x1 up1 gI wI) {r:Int} (h:f105 x0 x1=some r):Fn Tryz.prog 105 #[up0,up1] gI wI (fun _ _ v=>v=.int .i64 (r)):=by
 unfold f105 at h
 refine fn_of_E Tryz.func105 rfl (Nat.le_of_ble_eq_true rfl) fun g0 hm hfr=>?_
 have rp0:RV g0.m wI x0 up0:=hm ▸ rp0
 obtain ⟨ff1,fa1,fc1,rfl,fen1,fcl1⟩:=rp1
 show E _ 19 none _ _ _ _ _
 refine E_seq (E_region (EL_at (.int .i64 (0)) rfl rfl ?_))
 refine EL_nil (thn_n (E_joinC h (fun (s:Unit) e w=>∃ (g:Gh) ,Fr gI wI g w) (fun X18 k18 zB h=>?_) ?_))
 ·refine E_seq (E_region (EL_mw up0 rfl rfl ?_))
  refine EL_p (.int .i64 ((x0).length:Int)) (P_len Tryz.underlying54 rfl rp0) rfl ?_
  refine EL_mw (.int .i64 (0)) rfl rfl ?_
  refine EL_nil (thn_n (E_block ?_))
  refine E_lp h (fun (s:Int) e w=>∃ (g:Gh) ,Fr gI wI g w∧e 0=up0∧RV g.m w (x0:List Str) up0∧e 1=(.func (.func ff1) fa1 fc1)∧e 7=.int .i64 (((x0).length:Int))∧e 8=.int .i64 (s)) ⟨g0,hfr,rfl,rp0,rfl,rfl,rfl⟩ (fun X19 k19 cC=>?_)
  rintro o0 oD aE ⟨n9,hfr,l8,l5,n8,v8,t5⟩ h
  refine E_seq (E_region (EL_in (.bool ((decide (o0 < ((x0).length:Int))))) t5 v8 rfl rfl ?_))
  refine EL_nil (thn_n (E_seq ?_))
  rcases csome h with ⟨i6,h⟩ | ⟨i6,h⟩
  ·refine E_ct i6 rfl ?_
   refine E_skip (thn_n (E_joinC h (fun (s:Unit) e w=>∃ (g:Gh) ,Fr gI wI g w∧e 0=up0∧RV g.m w (x0:List Str) up0∧e 1=(.func (.func ff1) fa1 fc1)∧e 7=.int .i64 (((x0).length:Int))∧e 8=.int .i64 (o0)) (fun X28 k28 uC h=>?_) ?_))
   ·refine E_block ?_
    refine E_seq (E_region (EL_mv t5 rfl ?_))
    refine EL_at (.int .i64 (o0)) rfl rfl ?_
    refine EL_nil (thn_n (E_seq (E_region (EL_mv n8 rfl ?_))))
    refine EL_mv l8 rfl ?_
    refine EL_mw (.int .i64 (o0)) rfl rfl ?_
    obtain ⟨l9,aB,h⟩:=bsome h
    refine EL_p (ePtr up0 o0 1) (P_indexAddr (α:=Str) Tryz.underlying54 Tryz.sizeOf9 rfl l5 rfl aB) rfl ?_
    have bD:=PT_idx l5 aB
    refine EL_do .plain rfl (D_load (g:=n9) Tryz.isAgg9 Tryz.sizeOf9 rfl bD fun bE cD=>?_)
    obtain rfl:=RV_str.1 cD
    obtain ⟨yB,vC,h⟩:=bsome h
    refine EL_do .plain rfl (D_callv (g:=n9) (vs:=[Str.v (l9)]) rfl fen1 (.cons rfl .nil) (fcl1 _ _ hfr.ch _ _ _  (RV_str.2 rfl) vC) fun lD iE lE hs hr=>?_)
    have hfr:=hfr.ext hs
    have l5:=l5.ext hs
    obtain rfl:=RV_bool.1 hr
    refine EL_nil (thn_n ?_)
    rcases csome h with ⟨g8,h⟩ | ⟨g8,h⟩
    ·refine E_ct g8 rfl ?_
     refine E_seq (E_region (EL_mw (.int .i64 (o0)) rfl rfl ?_))
     refine EL_at (.int .i64 (o0)) rfl rfl ?_
     refine EL_nil (thn_n (E_ret (blk_r ?_)))
     refine thn_r ?_
     refine thn_r ?_
     refine blk_r ?_
     refine thn_r ?_
     obtain rfl:=sinj h
     exact end1 rfl rfl (show _=.int .i64 (o0) from rfl) ⟨_,hfr,rfl⟩
    ·refine E_cf g8 rfl ?_
     exact E_skip (blk_n (thn_n (uC () _ _ ⟨lD,hfr,l8,l5,n8,v8,t5⟩ h)))
   ·rintro _ yD mE ⟨nD, hfr, lB, mB, nB, oB, vB⟩ h
    refine E_region (EL_in (.int .i64 ((w64 (o0 + (1:Int))))) vB rfl rfl rfl ?_)
    refine EL_mw (.int .i64 ((w64 (o0 + (1:Int))))) rfl rfl ?_
    exact EL_nil (thn_n (cC ((w64 (o0 + (1:Int)))) _ _ ⟨nD,hfr,lB,mB,nB,oB,rfl⟩ h))
  ·refine E_cf i6 rfl ?_
   refine E_exit ?_
   refine thn_e ?_
   refine thn_e ?_
   refine blk_hit ?_
   exact thn_n (zB () _ _ ⟨n9,hfr⟩ h)
 ·rintro _ zD oE ⟨rE, hfr⟩ h
  refine E_seq (E_region (EL_at (.int .i64 (-1)) rfl rfl ?_))
  refine EL_nil (thn_n (E_ret ?_))
  obtain rfl:=sinj h
  exact end1 rfl rfl (show _=.int .i64 (-1) from rfl) ⟨_,hfr,rfl⟩
def f109 (x0:List BookCloth) (x1:Int) (x2:Int) (x3:BookCloth→BookCloth→Option Int):Option ((List BookCloth)):=
 lp (σ:=(List BookCloth) × Int) (fun k1 (cC,g8)=>
  jn (σ:=Unit) (fun _=>
   Option.bind (α:=(List BookCloth)) (
    lp (σ:=(List BookCloth) × Int) (fun xE (t5,o0)=>
     jn (σ:=Unit) (fun _=>
      Option.bind (α:=(List BookCloth)) (
       (idx t5 (w64 (o0 - (1:Int)))).bind fun uC=>
       (idx t5 o0).bind fun bE=>
       (idx t5 o0).bind fun uH=>
       (idx ((List.set t5 (Int.toNat o0) uC)) (w64 (o0 - (1:Int)))).bind fun xH=>
       some ((List.set ((List.set t5 (Int.toNat o0) uC)) (Int.toNat (w64 (o0 - (1:Int)))) bE))
       ) fun aB=>
      xE (aB,(w64 (o0 - (1:Int))))
      ) fun yE=>
     Option.bind (α:=Bool) (
      bif (decide (o0 > x1)) then
       (idx t5 o0).bind fun zE=>
       (idx t5 (w64 (o0 - (1:Int)))).bind fun cF=>
       (x3 zE cF).bind fun oB=>
       some ((decide (oB < (0:Int))))
      else
       some (false)
      ) fun n8=>
     bif n8 then
      yE ()
     else
      some (t5)
     ) big (cC,g8)
    ) fun lB=>
   k1 (lB,(w64 (g8 + (1:Int))))
   ) fun k4=>
  bif (decide (g8 < x2)) then
   k4 ()
  else
   some (cC)
  ) big (x0,(w64 (x1 + (1:Int))))
theorem en109:Enters Tryz.prog 109:=enters_of Tryz.func109 (by kernel_rfl) rfl
theorem wk109 {iI:Nat} {gI:Gh} {wI:World} {x0:List BookCloth} {x1:Int} {x2:Int} {x3:BookCloth→BookCloth→Option Int} {up0:Value} (mp0:OM iI gI wI 63 x0 up0) {up3:Value} (rp3:FnV2 Tryz.prog x3 up3 gI wI) {r:(List BookCloth)} (h:f109 x0 x1 x2 x3=some r):FnM Tryz.prog 109 #[up0,.int .i64 (x1),.int .i64 (x2),up3] iI gI wI (fun g w v=>v=.tuple #[]∧OM iI g w 63 r up0):=by
 unfold f109 at h
 refine fnM_of_E Tryz.func109 rfl (Nat.le_of_ble_eq_true rfl) fun g0 hm hfr=>?_
 have lH:=mp0
 replace mp0:=mp0.enter
 rw [← hm] at mp0
 replace hm:g0.m=gI.m:=by rw [hm]
 obtain ⟨ff3,fa3,fc3,rfl,fen3,fcl3⟩:=rp3
 show E _ 53 none _ _ _ _ _
 refine E_seq (E_region (EL_mw (.int .i64 (x1)) rfl rfl ?_))
 refine EL_in (.int .i64 ((w64 (x1 + (1:Int))))) rfl rfl rfl rfl ?_
 refine EL_at (.int .i64 ((w64 (x1 + (1:Int))))) rfl rfl ?_
 refine EL_nil (thn_n (E_block ?_))
 refine E_lp h (fun (s:(List BookCloth) × Int) e w=>∃ (g:Gh) ,FrM iI gI wI g w∧e 0=up0∧OM 1 g w 63 (s.1:List BookCloth) up0∧e 1=.int .i64 (x1)∧e 2=.int .i64 (x2)∧e 3=(.func (.func ff3) fa3 fc3)∧e 8=.int .i64 (s.2)) ⟨g0,hfr,rfl,mp0,rfl,rfl,rfl,rfl⟩ (fun X1 k1 hk1=>?_)
 rintro ⟨cC,g8⟩ pK w2 ⟨g2,hfr,yH,dF,zH,eF,aI,rF⟩ h
 refine E_joinC h (fun (s:Unit) e w=>∃ (g:Gh) ,FrM iI gI wI g w∧e 0=up0∧OM 1 g w 63 (cC:List BookCloth) up0∧e 1=.int .i64 (x1)∧e 2=.int .i64 (x2)∧e 3=(.func (.func ff3) fa3 fc3)∧e 8=.int .i64 (g8)) (fun X4 k4 hk4 h=>?_) ?_
 ·refine E_seq (E_region (EL_mv rF rfl ?_))
  refine EL_mv eF rfl ?_
  refine EL_in (.bool ((decide (g8 < x2)))) rfl rfl rfl rfl ?_
  refine EL_nil (thn_n ?_)
  rcases csome h with ⟨hc5,h⟩ | ⟨hc5,h⟩
  ·refine E_ct hc5 rfl ?_
   exact E_skip (thn_n (hk4 () _ _ ⟨g2,hfr,yH,dF,zH,eF,aI,rF⟩ h))
  ·refine E_cf hc5 rfl ?_
   refine E_exit ?_
   refine thn_e ?_
   refine thn_e ?_
   refine blk_hit ?_
   obtain rfl:=sinj h
   exact end0n rfl rfl ⟨_,hfr,rfl,lH.back dF⟩
 ·rintro _ qK w6 ⟨g6, hfr, bI, dI, jI, kI, lI, sF⟩ h
  obtain ⟨lB,hx,h⟩:=bsome h
  refine E_join (fun e w=>∃ (g:Gh) ,FrM iI gI wI g w∧e 0=up0∧OM 1 g w 63 (lB:List BookCloth) up0∧e 1=.int .i64 (x1)∧e 2=.int .i64 (x2)∧e 3=(.func (.func ff3) fa3 fc3)∧e 8=.int .i64 (g8)) (fun Q' hQ=>?_) (fun qJ zJ hR=>?_)
  ·replace h := hx
   clear hx
   refine E_block ?_
   refine E_seq (E_region (EL_mv sF rfl ?_))
   refine EL_at (.int .i64 (g8)) rfl rfl ?_
   refine EL_nil (thn_n (E_block ?_))
   refine E_lp h (fun (s:(List BookCloth) × Int) e w=>∃ (g:Gh) ,FrM iI gI wI g w∧e 0=up0∧OM 1 g w 63 (s.1:List BookCloth) up0∧e 1=.int .i64 (x1)∧e 2=.int .i64 (x2)∧e 3=(.func (.func ff3) fa3 fc3)∧e 8=.int .i64 (g8)∧e 9=.int .i64 (s.2)) ⟨g6,hfr,bI,dI,jI,kI,lI,sF,rfl⟩ (fun X297 xE mH=>?_)
   rintro ⟨t5,o0⟩ rJ aK ⟨tF,hfr,mB,i6,nB,bD,vB,cD,v8⟩ h
   refine E_joinC h (fun (s:Unit) e w=>∃ (g:Gh) ,FrM iI gI wI g w∧e 0=up0∧OM 1 g w 63 (t5:List BookCloth) up0∧e 1=.int .i64 (x1)∧e 2=.int .i64 (x2)∧e 3=(.func (.func ff3) fa3 fc3)∧e 8=.int .i64 (g8)∧e 9=.int .i64 (o0)) (fun X411 yE nH h=>?_) ?_
   ·obtain ⟨n8, hx, h⟩ := bsome h
    refine E_join (fun e w=>∃ (g:Gh) ,FrM iI gI wI g w∧e 0=up0∧OM 1 g w 63 (t5:List BookCloth) up0∧e 1=.int .i64 (x1)∧e 2=.int .i64 (x2)∧e 3=(.func (.func ff3) fa3 fc3)∧e 8=.int .i64 (g8)∧e 9=.int .i64 (o0)∧e 34=.bool (n8)) (fun Q' hQ=>?_) (fun sJ bK hR=>?_)
    ·replace h := hx
     clear hx
     rcases csome h with ⟨l5,h⟩ | ⟨l5,h⟩
     ·obtain ⟨zE, lE, h⟩ := bsome h
      refine L_loadM (x:=.tmp 25) Tryz.isAgg63 Tryz.sizeOf63 i6 lE fun uF mI oH=>?_
      obtain ⟨cF,mE,h⟩:=bsome h
      refine L_loadM (x:=.tmp 30) Tryz.isAgg63 Tryz.sizeOf63 i6 mE fun vF nI pH=>?_
      obtain ⟨oB,qH,h⟩:=bsome h
      refine E_drawL (g:=tF) (n:=17) [(14,(fun v g w=>v=.int .i64 (oB)))] [0,1,2,3,4,5,6,7,8,9,10,11,12,13,14,15,16] rfl mixed (by kernel_rfl) (⟨fun _=>up_eq _,trivial⟩) ?_
      refine L_p (.int .i64 (o0)) rfl rfl (P_move v8) ?_
      refine L_p (.int .i64 (x1)) rfl rfl (P_move nB) ?_
      refine L_p (.bool ((decide (o0 > x1)))) rfl rfl (P_int rfl rfl rfl) ?_
      refine L_p (.bool ((decide (o0 > x1)))) rfl rfl (P_move rfl) ?_
      refine L_y ((.func (.func ff3) fa3 fc3)) rfl rfl rfl rfl l5 (P_move vB) ?_
      refine L_y up0 rfl rfl rfl rfl l5 (P_move mB) ?_
      refine L_y (.int .i64 (o0)) rfl rfl rfl rfl l5 (P_move v8) ?_
      refine L_y (ePtr up0 o0 5) rfl rfl rfl rfl l5 (P_indexAddrM (α:=BookCloth) Tryz.underlying33 Tryz.sizeOf63 rfl i6 rfl lE) ?_
      refine L_ld (c:=uF) rfl rfl (.yes2 rfl rfl l5) (fun _ _ h=>⟨h.ch,fun b hb _=>h.below.block b hb⟩) oH rfl ?_
      refine L_y up0 rfl rfl rfl rfl l5 (P_move mB) ?_
      refine L_y (.int .i64 (o0)) rfl rfl rfl rfl l5 (P_move v8) ?_
      refine L_y (.int .i64 ((w64 (o0 - (1:Int))))) rfl rfl rfl rfl l5 (P_int rfl rfl rfl) ?_
      refine L_y (ePtr up0 (w64 (o0 - (1:Int))) 5) rfl rfl rfl rfl l5 (P_indexAddrM (α:=BookCloth) Tryz.underlying33 Tryz.sizeOf63 rfl i6 rfl mE) ?_
      refine L_ld (c:=vF) rfl rfl (.yes2 rfl rfl l5) (fun _ _ h=>⟨h.ch,fun b hb _=>h.below.block b hb⟩) pH rfl ?_
      refine L_do (φ:=fun v g w=>v=.int .i64 (oB)) rfl rfl (.yes2 rfl rfl l5) (fun g w hd=>D_callv (g:=g) (vs:=[uF,vF]) rfl fen3 (.cons rfl (.cons rfl .nil)) (fcl3 _ _ (hfr.ext hd.1).ch _ _ _ _ _  (mI.ext hd.1) (nI.ext hd.1) qH) fun g' w' v hs hr=>⟨g',hs,RV_int.1 hr⟩) (fun cK hv=>?_)
      obtain ⟨_,_,_,rfl⟩:=hv
      refine L_y (.bool ((decide (oB < (0:Int))))) rfl rfl rfl rfl l5 (P_int rfl rfl rfl) ?_
      refine L_p (.bool ((decide (oB < (0:Int))))) rfl rfl (P_pick (b:=(decide (o0 > x1))) rfl (pick_t l5 rfl)) ?_
      refine L_nl fun pI dK hs=>?_
      have hfr:=hfr.ext hs
      have i6:=i6.ext hs
      clear hs
      refine EL_nil ?_
      obtain rfl:=sinj h
      exact hQ _ _ ⟨pI,hfr,mB,i6,nB,bD,vB,cD,v8,rfl⟩
     ·refine E_drawL (g := tF) (n := 17) [] [0, 1, 2, 3, 4, 5, 6, 7, 8, 9, 10, 11, 12, 13, 14, 15, 16] rfl mixed (by kernel_rfl) trivial ?_
      refine L_p (.int .i64 (o0)) rfl rfl (P_move v8) ?_
      refine L_p (.int .i64 (x1)) rfl rfl (P_move nB) ?_
      refine L_p (.bool ((decide (o0 > x1)))) rfl rfl (P_int rfl rfl rfl) ?_
      refine L_p (.bool ((decide (o0 > x1)))) rfl rfl (P_move rfl) ?_
      iterate 12 refine L_s rfl rfl rfl l5 rfl ?_
      refine L_p (.bool false) rfl rfl (P_pick (b:=(decide (o0 > x1))) rfl (pick_f l5 rfl)) ?_
      refine L_nl fun qI lK hs=>?_
      have hfr:=hfr.ext hs
      have i6:=i6.ext hs
      clear hs
      refine EL_nil ?_
      obtain rfl:=sinj h
      exact hQ _ _ ⟨qI,hfr,mB,i6,nB,bD,vB,cD,v8,rfl⟩
    ·clear hx
     obtain ⟨xF,hfr,lD,nD,oD,yD,zD,aE,yF,zB⟩:=hR
     rcases csome h with ⟨vC,h⟩ | ⟨vC,h⟩
     ·refine E_cond_true (Eq.trans (show ev _ _ = .bool (n8) from zB) (congrArg Value.bool vC)) ?_
      exact E_skip (thn_n (nH () _ _ ⟨xF,hfr,lD,nD,oD,yD,zD,aE,yF⟩ h))
     ·refine E_cond_false (Eq.trans (show ev _ _ = .bool (n8) from zB) (congrArg Value.bool vC)) ?_
      refine E_exit ?_
      refine thn_e ?_
      refine thn_e ?_
      refine blk_hit ?_
      refine blk_n ?_
      obtain rfl:=sinj h
      exact hQ _ _ ⟨xF,hfr,lD,nD,oD,yD,zD,aE⟩
   ·rintro _ vJ sI ⟨aG, hfr, l9, l8, bG, cG, eG, gG, n9⟩ h
    obtain ⟨aB,hx,h⟩:=bsome h
    refine E_join (fun e w=>∃ (g:Gh) ,FrM iI gI wI g w∧e 0=up0∧OM 1 g w 63 (aB:List BookCloth) up0∧e 1=.int .i64 (x1)∧e 2=.int .i64 (x2)∧e 3=(.func (.func ff3) fa3 fc3)∧e 8=.int .i64 (g8)∧e 9=.int .i64 (o0)) (fun Q' hQ=>?_) (fun xJ mK hR=>?_)
    ·replace h := hx
     clear hx
     refine E_block ?_
     obtain ⟨uC,oE,h⟩:=bsome h
     refine L_loadM (x:=.tmp 45) Tryz.isAgg63 Tryz.sizeOf63 l8 oE fun jJ iE sH=>?_
     obtain ⟨bE,rE,h⟩:=bsome h
     refine L_loadM (x:=.tmp 49) Tryz.isAgg63 Tryz.sizeOf63 l8 rE fun kJ yB tH=>?_
     obtain ⟨uH,uE,h⟩:=bsome h
     refine E_drawTL (g:=aG) (n:=15) [2,3,4] [] [0,1,2,3,4,5,6,7,8,9,10,11,12,13,14] rfl mixed (by kernel_rfl) trivial rfl ?_
     refine L_p up0 rfl rfl (P_move l9) ?_
     refine L_p (.int .i64 (o0)) rfl rfl (P_move n9) ?_
     refine L_purL (c:=up0) rfl rfl .plain (P_move l9) ?_
     refine L_purL (c:=.int .i64 (o0)) rfl rfl .plain (P_move n9) ?_
     refine L_purL (c:=.int .i64 ((w64 (o0 - (1:Int))))) rfl rfl .plain (P_int rfl rfl rfl) ?_
     refine L_p up0 rfl rfl (P_move l9) ?_
     refine L_p (.int .i64 (o0)) rfl rfl (P_move n9) ?_
     refine L_p (.int .i64 ((w64 (o0 - (1:Int))))) rfl rfl (P_int rfl rfl rfl) ?_
     refine L_p (ePtr up0 (w64 (o0 - (1:Int))) 5) rfl rfl (P_indexAddrM (α:=BookCloth) Tryz.underlying33 Tryz.sizeOf63 rfl l8 rfl oE) ?_
     refine L_ld (c:=jJ) rfl rfl .plain (fun _ _ h=>⟨h.ch,fun b hb _=>h.below.block b hb⟩) sH rfl ?_
     refine L_p up0 rfl rfl (P_move l9) ?_
     refine L_p (.int .i64 (o0)) rfl rfl (P_move n9) ?_
     refine L_p (ePtr up0 o0 5) rfl rfl (P_indexAddrM (α:=BookCloth) Tryz.underlying33 Tryz.sizeOf63 rfl l8 rfl rE) ?_
     refine L_ld (c:=kJ) rfl rfl .plain (fun _ _ h=>⟨h.ch,fun b hb _=>h.below.block b hb⟩) tH rfl ?_
     refine L_p (ePtr up0 o0 5) rfl rfl (P_indexAddrM (α:=BookCloth) Tryz.underlying33 Tryz.sizeOf63 rfl l8 rfl uE) ?_
     refine L_nl fun iG lJ hs=>?_
     have hlt:Lt aG.m sI iG lJ:=hs.ch
     have hfr:=hfr.ext hs
     have l8:=l8.ext hs
     have iE:=iE.ext hs
     have yB:=yB.ext hs
     clear hs
     refine TL_do hlt.w .plain rfl (D_storeM (g:=iG) (α:=BookCloth) (a':=uC) Tryz.sizeOf63 rfl l8 uE rfl iE fun mJ nK hs b582=>?_)
     have hfr:=hfr.stp hs
     have hlt:=hlt.stp hs
     have yB:=yB.stp hs
     obtain ⟨xH,vE,h⟩:=bsome h
     refine TL_pur hlt.w (v:=ePtr up0 (w64 (o0 - (1:Int))) 5) (P_indexAddrM (α:=BookCloth) Tryz.underlying33 Tryz.sizeOf63 rfl b582 rfl vE) .plain rfl ?_
     refine TL_do hlt.w .plain rfl (D_storeM (g:=mJ) (α:=BookCloth) (a':=bE) Tryz.sizeOf63 rfl b582 vE rfl yB fun nJ oK hs b584=>?_)
     have hfr:=hfr.stp hs
     have hlt:=hlt.stp hs
     refine TL_nil hlt.w ?_
     clear hlt
     refine blk_n ?_
     obtain rfl:=sinj h
     exact hQ _ _ ⟨nJ,hfr,l9,b584,bG,cG,eG,gG,n9⟩
    ·clear hx
     obtain ⟨oJ,hfr,jG,kG,lG,mG,sG,xG,yG⟩:=hR
     refine E_region (EL_mv yG rfl ?_)
     refine EL_in (.int .i64 ((w64 (o0 - (1:Int))))) rfl rfl rfl rfl ?_
     refine EL_at (.int .i64 ((w64 (o0 - (1:Int))))) rfl rfl ?_
     exact EL_nil (thn_n (mH (aB,(w64 (o0 - (1:Int)))) _ _ ⟨oJ,hfr,jG,kG,lG,mG,sG,xG,rfl⟩ h))
  ·clear hx
   obtain ⟨pJ,hfr,zG,aH,cH,gH,jH,kH⟩:=hR
   refine E_region (EL_mv kH rfl ?_)
   refine EL_in (.int .i64 ((w64 (g8 + (1:Int))))) rfl rfl rfl rfl ?_
   refine EL_at (.int .i64 ((w64 (g8 + (1:Int))))) rfl rfl ?_
   exact EL_nil (thn_n (hk1 (lB,(w64 (g8 + (1:Int)))) _ _ ⟨pJ,hfr,zG,aH,cH,gH,jH,rfl⟩ h))
def f119 (x0:Int) (z0:Int) (z1:Int):Option (Bool):=
 Option.bind (α:=Bool) (
  bif (decide (x0 < z0)) then
   some (true)
  else
   some ((decide (x0 > z1)))
  ) fun o0=>
 some (o0)
theorem en119:Enters Tryz.prog 119:=enters_of Tryz.func119 (by kernel_rfl) rfl
theorem wk119 {gI:Gh} {wI:World} {x0:Int} {z0:Int} {z1:Int} {pf0:Value} (qf0:PT gI.m wI z0 pf0) {pf1:Value} (qf1:PT gI.m wI z1 pf1) {r:Bool} (h:f119 x0 z0 z1=some r):Fn Tryz.prog 119 #[.int .i64 (x0),pf0,pf1] gI wI (fun _ _ v=>v=.bool (r)):=by
 unfold f119 at h
 refine fn_of_E Tryz.func119 rfl (Nat.le_of_ble_eq_true rfl) fun g0 hm hfr=>?_
 have qf0:PT g0.m wI z0 pf0:=hm ▸ qf0
 have qf1:PT g0.m wI z1 pf1:=hm ▸ qf1
 show E _ 13 none _ _ _ _ _
 refine E_seq (E_region (EL_at (.bool false) rfl rfl ?_))
 refine EL_nil (thn_n ?_)
 obtain ⟨o0,hx,h⟩:=bsome h
 refine E_join (fun e w=>∃ (g:Gh) ,Fr gI wI g w∧e 4=.bool (o0)) (fun Q' hQ=>?_) (fun t5 w7 hR=>?_)
 ·replace h := hx
  clear hx
  refine E_region (EL_mw (.int .i64 (x0)) rfl rfl ?_)
  refine EL_do .plain rfl (D_load (g:=g0) Tryz.isAgg3 Tryz.sizeOf3 rfl qf0 fun v4 r4=>?_)
  obtain rfl:=RV_int.1 r4
  refine EL_in (.bool ((decide (x0 < z0)))) rfl rfl rfl rfl ?_
  refine EL_mw (.bool ((decide (x0 < z0)))) rfl rfl ?_
  rcases csome h with ⟨hc5,h⟩ | ⟨hc5,h⟩
  ·refine EL_s rfl rfl hc5 rfl rfl ?_
   refine EL_s rfl rfl hc5 rfl rfl ?_
   refine EL_s rfl rfl hc5 rfl rfl ?_
   refine EL_p (.bool true) (P_pick (b:=(decide (x0 < z0))) rfl (pick_t hc5 rfl)) rfl ?_
   refine EL_at (.bool true) rfl rfl ?_
   refine EL_nil ?_
   obtain rfl:=sinj h
   exact hQ _ _ ⟨g0,hfr,rfl⟩
  ·refine EL_y (.int .i64 (x0)) (P_move rfl) rfl rfl hc5 rfl ?_
   refine EL_do (.yes2 rfl rfl hc5) rfl (D_load (g:=g0) Tryz.isAgg3 Tryz.sizeOf3 rfl qf1 fun v6 r6=>?_)
   obtain rfl:=RV_int.1 r6
   refine EL_y (.bool ((decide (x0 > z1)))) (P_int rfl rfl rfl) rfl rfl hc5 rfl ?_
   refine EL_p (.bool ((decide (x0 > z1)))) (P_pick (b:=(decide (x0 < z0))) rfl (pick_f hc5 rfl)) rfl ?_
   refine EL_at (.bool ((decide (x0 > z1)))) rfl rfl ?_
   refine EL_nil ?_
   obtain rfl:=sinj h
   exact hQ _ _ ⟨g0,hfr,rfl⟩
 ·clear hx
  obtain ⟨g7,hfr,l5⟩:=hR
  refine E_ret ?_
  obtain rfl:=sinj h
  exact end1 rfl rfl (show _=.bool (o0) from l5) ⟨_,hfr,rfl⟩
def f122 (x0:U64) (x1:U64):Option (U64 × U64):=
 (shr64 ((x0).n) ((32:Int))).bind fun y1=>
 (shr64 ((x1).n) ((32:Int))).bind fun y2=>
 (shr64 (wu64 ((bitU .and ((x0).n) ((4294967295:Int))) * (bitU .and ((x1).n) ((4294967295:Int))))) ((32:Int))).bind fun y3=>
 (shr64 (wu64 ((wu64 (y1 * (bitU .and ((x1).n) ((4294967295:Int))))) + y3)) ((32:Int))).bind fun y4=>
 (shr64 (wu64 ((bitU .and (wu64 ((wu64 (y1 * (bitU .and ((x1).n) ((4294967295:Int))))) + y3)) ((4294967295:Int))) + (wu64 ((bitU .and ((x0).n) ((4294967295:Int))) * y2)))) ((32:Int))).bind fun y5=>
 some ((⟨wu64 ((wu64 ((wu64 (y1 * y2)) + y4)) + y5)⟩:U64),(⟨wu64 (((x0).n) * ((x1).n))⟩:U64))
theorem en122:Enters Tryz.prog 122:=enters_of Tryz.func122 (by kernel_rfl) rfl
theorem wk122 {gI:Gh} {wI:World} {x0:U64} {x1:U64}  {r:U64 × U64} (h:f122 x0 x1=some r):Fn Tryz.prog 122 #[.int .u64 ((x0).n),.int .u64 ((x1).n)] gI wI (fun m w v=>∃ y0 y1,v=.tuple #[y0,y1]∧y0=.int .u64 ((r.1).n)∧y1=.int .u64 ((r.2).n)):=by
 unfold f122 at h
 refine fn_of_E Tryz.func122 rfl (Nat.le_of_ble_eq_true rfl) fun g0 hm hfr=>?_
 show E _ 51 none _ _ _ _ _
 refine E_seq (E_region (EL_at (.int .u64 (0)) rfl rfl ?_))
 refine EL_at (.int .u64 (0)) rfl rfl ?_
 refine EL_nil (thn_n (E_seq (E_region (EL_mw (.int .u64 ((x0).n)) rfl rfl ?_))))
 refine EL_p (.int .u64 (bitU .and ((x0).n) ((4294967295:Int)))) (P_bitU (by simp) rfl rfl) rfl ?_
 refine EL_at (.int .u64 (bitU .and ((x0).n) ((4294967295:Int)))) rfl rfl ?_
 refine EL_nil (thn_n (E_seq (E_region (EL_mw (.int .u64 ((x0).n)) rfl rfl ?_))))
 obtain ⟨y1,hy1,h⟩:=bsome h
 refine EL_p (.int .u64 (y1)) (P_shrU rfl rfl hy1) rfl ?_
 refine EL_at (.int .u64 (y1)) rfl rfl ?_
 refine EL_nil (thn_n (E_seq (E_region (EL_mw (.int .u64 ((x1).n)) rfl rfl ?_))))
 refine EL_p (.int .u64 (bitU .and ((x1).n) ((4294967295:Int)))) (P_bitU (by simp) rfl rfl) rfl ?_
 refine EL_at (.int .u64 (bitU .and ((x1).n) ((4294967295:Int)))) rfl rfl ?_
 refine EL_nil (thn_n (E_seq (E_region (EL_mw (.int .u64 ((x1).n)) rfl rfl ?_))))
 obtain ⟨y2,hy2,h⟩:=bsome h
 refine EL_p (.int .u64 (y2)) (P_shrU rfl rfl hy2) rfl ?_
 refine EL_at (.int .u64 (y2)) rfl rfl ?_
 refine EL_nil (thn_n (E_seq (E_region (EL_mw (.int .u64 (bitU .and ((x0).n) ((4294967295:Int)))) rfl rfl ?_))))
 refine EL_mw (.int .u64 (bitU .and ((x1).n) ((4294967295:Int)))) rfl rfl ?_
 refine EL_p (.int .u64 (wu64 ((bitU .and ((x0).n) ((4294967295:Int))) * (bitU .and ((x1).n) ((4294967295:Int)))))) (P_umul rfl rfl) rfl ?_
 refine EL_at (.int .u64 (wu64 ((bitU .and ((x0).n) ((4294967295:Int))) * (bitU .and ((x1).n) ((4294967295:Int)))))) rfl rfl ?_
 refine EL_nil (thn_n (E_seq (E_region (EL_mw (.int .u64 (y1)) rfl rfl ?_))))
 refine EL_mw (.int .u64 (bitU .and ((x1).n) ((4294967295:Int)))) rfl rfl ?_
 refine EL_p (.int .u64 (wu64 (y1 * (bitU .and ((x1).n) ((4294967295:Int)))))) (P_umul rfl rfl) rfl ?_
 refine EL_mw (.int .u64 (wu64 ((bitU .and ((x0).n) ((4294967295:Int))) * (bitU .and ((x1).n) ((4294967295:Int)))))) rfl rfl ?_
 obtain ⟨y3,hy3,h⟩:=bsome h
 refine EL_p (.int .u64 (y3)) (P_shrU rfl rfl hy3) rfl ?_
 refine EL_p (.int .u64 (wu64 ((wu64 (y1 * (bitU .and ((x1).n) ((4294967295:Int))))) + y3))) (P_uadd rfl rfl) rfl ?_
 refine EL_p (.int .u64 (wu64 ((wu64 (y1 * (bitU .and ((x1).n) ((4294967295:Int))))) + y3))) (P_assign rfl) rfl ?_
 refine EL_nil (thn_n (E_seq (E_region (EL_p (.int .u64 (wu64 ((wu64 (y1 * (bitU .and ((x1).n) ((4294967295:Int))))) + y3))) (P_move rfl) rfl ?_))))
 refine EL_p (.int .u64 (bitU .and (wu64 ((wu64 (y1 * (bitU .and ((x1).n) ((4294967295:Int))))) + y3)) ((4294967295:Int)))) (P_bitU (by simp) rfl rfl) rfl ?_
 refine EL_p (.int .u64 (bitU .and (wu64 ((wu64 (y1 * (bitU .and ((x1).n) ((4294967295:Int))))) + y3)) ((4294967295:Int)))) (P_assign rfl) rfl ?_
 refine EL_nil (thn_n (E_seq (E_region (EL_p (.int .u64 (wu64 ((wu64 (y1 * (bitU .and ((x1).n) ((4294967295:Int))))) + y3))) (P_move rfl) rfl ?_))))
 obtain ⟨y4,o0,h⟩:=bsome h
 refine EL_p (.int .u64 (y4)) (P_shrU rfl rfl o0) rfl ?_
 refine EL_at (.int .u64 (y4)) rfl rfl ?_
 refine EL_nil (thn_n (E_seq (E_region (EL_p (.int .u64 (bitU .and (wu64 ((wu64 (y1 * (bitU .and ((x1).n) ((4294967295:Int))))) + y3)) ((4294967295:Int)))) (P_move rfl) rfl ?_))))
 refine EL_mw (.int .u64 (bitU .and ((x0).n) ((4294967295:Int)))) rfl rfl ?_
 refine EL_mw (.int .u64 (y2)) rfl rfl ?_
 refine EL_p (.int .u64 (wu64 ((bitU .and ((x0).n) ((4294967295:Int))) * y2))) (P_umul rfl rfl) rfl ?_
 refine EL_p (.int .u64 (wu64 ((bitU .and (wu64 ((wu64 (y1 * (bitU .and ((x1).n) ((4294967295:Int))))) + y3)) ((4294967295:Int))) + (wu64 ((bitU .and ((x0).n) ((4294967295:Int))) * y2))))) (P_uadd rfl rfl) rfl ?_
 refine EL_p (.int .u64 (wu64 ((bitU .and (wu64 ((wu64 (y1 * (bitU .and ((x1).n) ((4294967295:Int))))) + y3)) ((4294967295:Int))) + (wu64 ((bitU .and ((x0).n) ((4294967295:Int))) * y2))))) (P_assign rfl) rfl ?_
 refine EL_nil (thn_n (E_seq (E_region (EL_mw (.int .u64 (y1)) rfl rfl ?_))))
 refine EL_mw (.int .u64 (y2)) rfl rfl ?_
 refine EL_p (.int .u64 (wu64 (y1 * y2))) (P_umul rfl rfl) rfl ?_
 refine EL_mw (.int .u64 (y4)) rfl rfl ?_
 refine EL_p (.int .u64 (wu64 ((wu64 (y1 * y2)) + y4))) (P_uadd rfl rfl) rfl ?_
 refine EL_p (.int .u64 (wu64 ((bitU .and (wu64 ((wu64 (y1 * (bitU .and ((x1).n) ((4294967295:Int))))) + y3)) ((4294967295:Int))) + (wu64 ((bitU .and ((x0).n) ((4294967295:Int))) * y2))))) (P_move rfl) rfl ?_
 obtain ⟨y5,hy5,h⟩:=bsome h
 refine EL_p (.int .u64 (y5)) (P_shrU rfl rfl hy5) rfl ?_
 refine EL_p (.int .u64 (wu64 ((wu64 ((wu64 (y1 * y2)) + y4)) + y5))) (P_uadd rfl rfl) rfl ?_
 refine EL_p (.int .u64 (wu64 ((wu64 ((wu64 (y1 * y2)) + y4)) + y5))) (P_assign rfl) rfl ?_
 refine EL_nil (thn_n (E_seq (E_region (EL_mw (.int .u64 ((x0).n)) rfl rfl ?_))))
 refine EL_mw (.int .u64 ((x1).n)) rfl rfl ?_
 refine EL_p (.int .u64 (wu64 (((x0).n) * ((x1).n)))) (P_umul rfl rfl) rfl ?_
 refine EL_at (.int .u64 (wu64 (((x0).n) * ((x1).n)))) rfl rfl ?_
 refine EL_nil (thn_n (E_ret ?_))
 obtain rfl:=sinj h
 exact end2 rfl rfl (show _=.int .u64 (wu64 ((wu64 ((wu64 (y1 * y2)) + y4)) + y5)) from rfl) (show _=.int .u64 (wu64 (((x0).n) * ((x1).n))) from rfl) ⟨_,hfr,_,_,rfl,rfl,rfl⟩
def f124 (x0:Bool):Option (UInt8):=
 jn (σ:=Unit) (fun _=>
  some ((46:UInt8))
  ) fun k2=>
 bif x0 then
  some ((120:UInt8))
 else
  k2 ()
theorem en124:Enters Tryz.prog 124:=enters_of Tryz.func124 (by kernel_rfl) rfl
theorem wk124 {gI:Gh} {wI:World} {x0:Bool}  {r:UInt8} (h:f124 x0=some r):Fn Tryz.prog 124 #[.bool (x0)] gI wI (fun _ _ v=>v=.int .u8 (UInt8.toNat (r))):=by
 unfold f124 at h
 refine fn_of_E Tryz.func124 rfl (Nat.le_of_ble_eq_true rfl) fun g0 hm hfr=>?_
 show E _ 4 none _ _ _ _ _
 refine E_seq (E_region (EL_at (.int .u8 (UInt8.toNat 0)) rfl rfl ?_))
 refine EL_nil (thn_n (E_joinC h (fun (s:Unit) e w=>∃ (g:Gh) ,Fr gI wI g w) (fun X2 k2 hk2 h=>?_) ?_))
 ·refine E_seq (E_region (EL_mw (.bool (x0)) rfl rfl ?_))
  refine EL_nil (thn_n ?_)
  rcases csome h with ⟨hc3,h⟩ | ⟨hc3,h⟩
  ·refine E_ct hc3 rfl ?_
   refine E_seq (E_region (EL_at (.int .u8 (UInt8.toNat 120)) rfl rfl ?_))
   refine EL_nil (thn_n (E_ret (thn_r ?_)))
   obtain rfl:=sinj h
   exact end1 rfl rfl (show _=.int .u8 (UInt8.toNat 120) from rfl) ⟨_,hfr,rfl⟩
  ·refine E_cf hc3 rfl ?_
   exact E_skip (thn_n (hk2 () _ _ ⟨g0,hfr⟩ h))
 ·rintro _ o0 w4 ⟨g4, hfr⟩ h
  refine E_seq (E_region (EL_at (.int .u8 (UInt8.toNat 46)) rfl rfl ?_))
  refine EL_nil (thn_n (E_ret ?_))
  obtain rfl:=sinj h
  exact end1 rfl rfl (show _=.int .u8 (UInt8.toNat 46) from rfl) ⟨_,hfr,rfl⟩
def f125 (x0:TieTieHarness) (x1:Int) (x2:Int):Option (Bool):=
 (idx (((x0).TieHarness).Warps) x2).bind fun y5=>
 (shr64 x1 y5).bind fun y8=>
 some (((bit64 .and y8 (1:Int)) == (1:Int)))
theorem en125:Enters Tryz.prog 125:=enters_of Tryz.func125 (by kernel_rfl) rfl
theorem wk125 {gI:Gh} {wI:World} {x0:TieTieHarness} {x1:Int} {x2:Int} {up0:Value} (rp0:RV gI.m wI x0 up0) {r:Bool} (h:f125 x0 x1 x2=some r):Fn Tryz.prog 125 #[up0,.int .i64 (x1),.int .i64 (x2)] gI wI (fun _ _ v=>v=.bool (r)):=by
 unfold f125 at h
 refine fn_of_E Tryz.func125 rfl (Nat.le_of_ble_eq_true rfl) fun g0 hm hfr=>?_
 have rp0:RV g0.m wI x0 up0:=hm ▸ rp0
 show E _ 17 none _ _ _ _ _
 refine E_seq (E_region (EL_do .plain rfl (D_box (g:=g0) rfl rp0 fun g1 w1 p1 hs q1=>?_)))
 have hfr:=hfr.ext hs
 refine EL_at (.bool false) rfl rfl ?_
 refine EL_nil (thn_n (E_seq (E_region (EL_mw (.int .i64 (x1)) rfl rfl ?_))))
 refine EL_p (fPtr p1 0) (P_fieldAddr at_187_0 rfl (PT.ptr q1)) rfl ?_
 have q2:=PT_field (part_TieTieHarness_0).1 q1
 refine EL_p (fPtr (fPtr p1 0) 1) (P_fieldAddr at_27_1 rfl (PT.ptr q2)) rfl ?_
 have q3:=PT_field (part_TieHarness_1).1 q2
 refine EL_do .plain rfl (D_load (g:=g1) Tryz.isAgg25 Tryz.sizeOf25 rfl q3 fun v4 r4=>?_)
 refine EL_mw (.int .i64 (x2)) rfl rfl ?_
 obtain ⟨y5,hy5,h⟩:=bsome h
 refine EL_p (ePtr v4 x2 1) (P_indexAddr (α:=Int) Tryz.underlying25 Tryz.sizeOf3 rfl r4 rfl hy5) rfl ?_
 have q6:=PT_idx r4 hy5
 refine EL_do .plain rfl (D_load (g:=g1) Tryz.isAgg3 Tryz.sizeOf3 rfl q6 fun v7 r7=>?_)
 obtain rfl:=RV_int.1 r7
 obtain ⟨y8,o0,h⟩:=bsome h
 refine EL_p (.int .i64 (y8)) (P_int rfl rfl (congrArg (Option.map (Value.int .i64)) o0)) rfl ?_
 refine EL_in (.int .i64 ((bit64 .and y8 (1:Int)))) rfl rfl rfl rfl ?_
 refine EL_in (.bool (((bit64 .and y8 (1:Int)) == (1:Int)))) rfl rfl rfl rfl ?_
 refine EL_at (.bool (((bit64 .and y8 (1:Int)) == (1:Int)))) rfl rfl ?_
 refine EL_nil (thn_n (E_ret ?_))
 obtain rfl:=sinj h
 exact end1 rfl rfl (show _=.bool (((bit64 .and y8 (1:Int)) == (1:Int))) from rfl) ⟨_,hfr,rfl⟩
def f132 (x0:Str):Option (Bool):=
 some ((!((x0).b == (x0).b)))
theorem en132:Enters Tryz.prog 132:=enters_of Tryz.func132 (by kernel_rfl) rfl
theorem wk132 {gI:Gh} {wI:World} {x0:Str}  {r:Bool} (h:f132 x0=some r):Fn Tryz.prog 132 #[Str.v (x0)] gI wI (fun _ _ v=>v=.bool (r)):=by
 unfold f132 at h
 refine fn_of_E Tryz.func132 rfl (Nat.le_of_ble_eq_true rfl) fun g0 hm hfr=>?_
 show E _ 6 none _ _ _ _ _
 refine E_seq (E_region (EL_at (.bool false) rfl rfl ?_))
 refine EL_nil (thn_n (E_seq (E_region (EL_mw (Str.v (x0)) rfl rfl ?_))))
 refine EL_mw (Str.v (x0)) rfl rfl ?_
 refine EL_p (.bool ((!((x0).b == (x0).b)))) (P_str rfl rfl rfl) rfl ?_
 refine EL_at (.bool ((!((x0).b == (x0).b)))) rfl rfl ?_
 refine EL_nil (thn_n (E_ret ?_))
 obtain rfl:=sinj h
 exact end1 rfl rfl (show _=.bool ((!((x0).b == (x0).b))) from rfl) ⟨_,hfr,rfl⟩
def f133 (z0:List UInt8) (z1:Int) (σ:Type) (cons:Cons σ (List UInt8)) (s0:σ):Option σ:=
 lp (σ:=σ × Int) (fun k1 (n8,o0)=>
  jn (σ:=Unit) (fun _=>
   jn (σ:=σ) (fun v8=>
    k1 (v8,(w64 (o0 + z1)))
    ) fun zD=>
   (cut z0 o0 ((z0).length:Int)).bind fun l5=>
   (cut z0 o0 (w64 (o0 + (min64 z1 ((l5).length:Int))))).bind fun oB=>
   (cons n8 oB).bind fun (n9,l9)=>
   bif (!n9) then
    some l9
   else
    zD (l9)
   ) fun k5=>
  bif (decide (o0 < ((z0).length : Int))) then
   k5 ()
  else
   some n8
  ) big (s0,(0:Int))
theorem en133:Enters Tryz.prog 133:=enters_of Tryz.func133 (by kernel_rfl) rfl
theorem wk133 {σ:Type} {cons:Cons σ (List UInt8)} {s0 r:σ} {gI:Gh} {wI:World} {z0:List UInt8} {z1:Int} {pf0:Value} (qf0:PT gI.m wI z0 pf0) {pf1:Value} (qf1:PT gI.m wI z1 pf1) (h:f133 z0 z1 σ cons s0=some r):IterC Tryz.prog (RA1 (α:=(List UInt8))) 133 #[] #[pf0,pf1] gI wI cons s0 r:=by
 unfold f133 at h
 refine iter_of_E Tryz.func133 rfl (Nat.le_of_ble_eq_true rfl) fun l B J g0 hm hAb hRo hfr=>?_
 have qf0:PT g0.m wI z0 pf0:=hm ▸ qf0
 have qf1:PT g0.m wI z1 pf1:=hm ▸ qf1
 show E _ 31 none _ _ (envAt #[.func (.yield l) #[] #[],pf0,pf1]) _ _
 refine E_seq (E_region (EL_at (.int .i64 (0)) rfl rfl ?_))
 refine EL_nil (thn_n (E_block ?_))
 refine E_lp h (fun (s:σ × Int) e w=>∃ (g:Gh) ,FrY gI wI B J (s.1) g w∧e 0=(.func (.yield l) #[] #[])∧e 1=pf0∧PT g.m w (z0:List UInt8) pf0∧e 2=pf1∧PT g.m w (z1:Int) pf1∧e 4=.int .i64 (s.2)) ⟨g0,hfr,rfl,rfl,qf0,rfl,qf1,rfl⟩ (fun X1 k1 hk1=>?_)
 rintro ⟨n8,o0⟩ xF w2 ⟨g2,hfr,oE,vB,yB,rE,uE,zB⟩ h
 refine E_joinC h (fun (s:Unit) e w=>∃ (g:Gh) ,FrY gI wI B J (n8) g w∧e 0=(.func (.yield l) #[] #[])∧e 1=pf0∧PT g.m w (z0:List UInt8) pf0∧e 2=pf1∧PT g.m w (z1:Int) pf1∧e 4=.int .i64 (o0)) (fun X5 k5 hk5 h=>?_) ?_
 ·refine E_seq (E_region (EL_mv zB rfl ?_))
  refine EL_do .plain rfl (D_load (g:=g2) Tryz.isAgg72 Tryz.sizeOf72 vB yB fun v6 r6=>?_)
  refine EL_p (.int .i64 ((z0).length:Int)) (P_len Tryz.underlying72 rfl r6) rfl ?_
  refine EL_in (.bool ((decide (o0 < ((z0).length:Int))))) rfl rfl rfl rfl ?_
  refine EL_nil (thn_n ?_)
  rcases csome h with ⟨cC,h⟩ | ⟨cC,h⟩
  ·refine E_ct cC rfl ?_
   exact E_skip (thn_n (hk5 () _ _ ⟨g2,hfr,oE,vB,yB,rE,uE,zB⟩ h))
  ·refine E_cf cC rfl ?_
   refine E_exit ?_
   refine thn_e ?_
   refine thn_e ?_
   refine blk_hit ?_
   obtain rfl:=sinj h
   exact end0n rfl rfl (FrY.done hfr)
 ·rintro _ yF w8 ⟨g8, hfr, uC, aB, t5, vC, i6, l8⟩ h
  refine E_joinC h (fun (s:σ) e w=>∃ (g:Gh) ,FrY gI wI B J (s) g w∧e 0=(.func (.yield l) #[] #[])∧e 1=pf0∧PT g.m w (z0:List UInt8) pf0∧e 2=pf1∧PT g.m w (z1:Int) pf1∧e 4=.int .i64 (o0)) (fun X32 zD vE h=>?_) ?_
  ·refine E_block ?_
   refine E_seq (L_load (x:=.tmp 2) Tryz.isAgg3 Tryz.sizeOf3 i6 fun aG cF xE=>?_)
   obtain rfl:=RV_int.1 cF
   refine L_load (x:=.tmp 1) Tryz.isAgg72 Tryz.sizeOf72 t5 fun aE bE yE=>?_
   obtain ⟨l5,bD,h⟩:=bsome h
   have dF:=RV_cut bE bD
   refine E_drawL (g:=g8) (n:=7) [] [0,1,2,3,4,5,6] rfl mixed (by kernel_rfl) trivial ?_
   refine L_ld (c:=.int .i64 (z1)) rfl rfl .plain (fun _ _ h=>h.ch) xE vC ?_
   refine L_ld (c:=aE) rfl rfl .plain (fun _ _ h=>h.ch) yE aB ?_
   refine L_p (.int .i64 (o0)) rfl rfl (P_move l8) ?_
   refine L_p ((cutV aE (Int.toNat o0) (Int.toNat ((z0).length:Int)) 1)) rfl rfl (P_slice Tryz.underlying72 Tryz.sizeOf5 rfl bE rfl rfl bD) ?_
   refine L_p (.int .i64 ((l5).length:Int)) rfl rfl (P_len Tryz.underlying72 rfl dF) ?_
   refine L_p (.int .i64 (min64 z1 ((l5).length:Int))) rfl rfl (P_min rfl rfl) ?_
   refine L_p (.int .i64 (min64 z1 ((l5).length:Int))) rfl rfl (P_assign rfl) ?_
   refine L_nl fun iE bG hs=>?_
   have hfr:=hfr.ext_ hAb hs
   have t5:=t5.ext hs
   have i6:=i6.ext hs
   clear hs
   refine EL_nil (thn_n (E_seq (E_region (EL_mv uC rfl ?_))))
   refine EL_do .plain rfl (D_load (g:=iE) Tryz.isAgg72 Tryz.sizeOf72 aB t5 fun eF lE=>?_)
   refine EL_mv l8 rfl ?_
   refine EL_mv l8 rfl ?_
   refine EL_mw (.int .i64 (min64 z1 ((l5).length:Int))) rfl rfl ?_
   refine EL_p (.int .i64 ((w64 (o0 + (min64 z1 ((l5).length:Int)))))) (P_int rfl rfl rfl) rfl ?_
   refine EL_mv l8 rfl ?_
   refine EL_mw (.int .i64 (min64 z1 ((l5).length:Int))) rfl rfl ?_
   refine EL_p (.int .i64 ((w64 (o0 + (min64 z1 ((l5).length:Int)))))) (P_int rfl rfl rfl) rfl ?_
   obtain ⟨oB,cD,h⟩:=bsome h
   have rF:=RV_cut3 lE cD
   refine EL_p ((cut3V eF (Int.toNat o0) (Int.toNat (w64 (o0 + (min64 z1 ((l5).length:Int))))) 1)) (P_slice3 Tryz.underlying72 Tryz.sizeOf5 rfl lE rfl rfl rfl cD) rfl ?_
   obtain ⟨sF,zE,h⟩:=bsome h
   obtain ⟨n9,l9⟩:=sF
   refine EL_do .plain rfl (D_yield (g:=iE) (x:=oB) rfl (.cons rfl .nil) hRo hfr zE ⟨_,rfl,rF⟩ fun tF cG hs hfrY=>?_)
   have t5:=t5.stp hs
   have i6:=i6.stp hs
   have hfr:=hfrY
   clear hfrY
   refine EL_p (.bool (!n9)) (P_not rfl) rfl ?_
   refine EL_nil (thn_n ?_)
   rcases csome h with ⟨lB,h⟩ | ⟨lB,h⟩
   ·refine E_ct lB rfl ?_
    refine E_ret (blk_r ?_)
    refine thn_r ?_
    refine thn_r ?_
    refine blk_r ?_
    obtain rfl:=sinj h
    exact end0 rfl rfl (FrY.done hfr)
   ·refine E_cf lB rfl ?_
    exact E_skip (blk_n (thn_n (vE (l9) _ _ ⟨tF,hfr,uC,aB,t5,vC,i6,l8⟩ h)))
  ·rintro v8 vF eG ⟨mE, hfr, lD, nD, oD, mB, nB, yD⟩ h
   refine E_region (EL_mv yD rfl ?_)
   refine EL_do .plain rfl (D_load (g:=mE) Tryz.isAgg3 Tryz.sizeOf3 mB nB fun gG uF=>?_)
   obtain rfl:=RV_int.1 uF
   refine EL_in (.int .i64 ((w64 (o0 + z1)))) rfl rfl rfl rfl ?_
   refine EL_at (.int .i64 ((w64 (o0 + z1)))) rfl rfl ?_
   exact EL_nil (thn_n (hk1 (v8,(w64 (o0 + z1))) _ _ ⟨mE,hfr,lD,nD,oD,mB,nB,rfl⟩ h))
def f140 (x0:Int) (z0:Int) (z1:Int):Option (Bool):=
 Option.bind (α:=Bool) (
  bif (decide (x0 < z0)) then
   some (true)
  else
   some ((decide (x0 > z1)))
  ) fun o0=>
 some (o0)
theorem en140:Enters Tryz.prog 140:=enters_of Tryz.func140 (by kernel_rfl) rfl
theorem wk140 {gI:Gh} {wI:World} {x0:Int} {z0:Int} {z1:Int} {pf0:Value} (qf0:PT gI.m wI z0 pf0) {pf1:Value} (qf1:PT gI.m wI z1 pf1) {r:Bool} (h:f140 x0 z0 z1=some r):Fn Tryz.prog 140 #[.int .i64 (x0),pf0,pf1] gI wI (fun _ _ v=>v=.bool (r)):=by
 unfold f140 at h
 refine fn_of_E Tryz.func140 rfl (Nat.le_of_ble_eq_true rfl) fun g0 hm hfr=>?_
 have qf0:PT g0.m wI z0 pf0:=hm ▸ qf0
 have qf1:PT g0.m wI z1 pf1:=hm ▸ qf1
 show E _ 13 none _ _ _ _ _
 refine E_seq (E_region (EL_at (.bool false) rfl rfl ?_))
 refine EL_nil (thn_n ?_)
 obtain ⟨o0,hx,h⟩:=bsome h
 refine E_join (fun e w=>∃ (g:Gh) ,Fr gI wI g w∧e 4=.bool (o0)) (fun Q' hQ=>?_) (fun t5 w7 hR=>?_)
 ·replace h := hx
  clear hx
  refine E_region (EL_mw (.int .i64 (x0)) rfl rfl ?_)
  refine EL_do .plain rfl (D_load (g:=g0) Tryz.isAgg3 Tryz.sizeOf3 rfl qf0 fun v4 r4=>?_)
  obtain rfl:=RV_int.1 r4
  refine EL_in (.bool ((decide (x0 < z0)))) rfl rfl rfl rfl ?_
  refine EL_mw (.bool ((decide (x0 < z0)))) rfl rfl ?_
  rcases csome h with ⟨hc5,h⟩ | ⟨hc5,h⟩
  ·refine EL_s rfl rfl hc5 rfl rfl ?_
   refine EL_s rfl rfl hc5 rfl rfl ?_
   refine EL_s rfl rfl hc5 rfl rfl ?_
   refine EL_p (.bool true) (P_pick (b:=(decide (x0 < z0))) rfl (pick_t hc5 rfl)) rfl ?_
   refine EL_at (.bool true) rfl rfl ?_
   refine EL_nil ?_
   obtain rfl:=sinj h
   exact hQ _ _ ⟨g0,hfr,rfl⟩
  ·refine EL_y (.int .i64 (x0)) (P_move rfl) rfl rfl hc5 rfl ?_
   refine EL_do (.yes2 rfl rfl hc5) rfl (D_load (g:=g0) Tryz.isAgg3 Tryz.sizeOf3 rfl qf1 fun v6 r6=>?_)
   obtain rfl:=RV_int.1 r6
   refine EL_y (.bool ((decide (x0 > z1)))) (P_int rfl rfl rfl) rfl rfl hc5 rfl ?_
   refine EL_p (.bool ((decide (x0 > z1)))) (P_pick (b:=(decide (x0 < z0))) rfl (pick_f hc5 rfl)) rfl ?_
   refine EL_at (.bool ((decide (x0 > z1)))) rfl rfl ?_
   refine EL_nil ?_
   obtain rfl:=sinj h
   exact hQ _ _ ⟨g0,hfr,rfl⟩
 ·clear hx
  obtain ⟨g7,hfr,l5⟩:=hR
  refine E_ret ?_
  obtain rfl:=sinj h
  exact end1 rfl rfl (show _=.bool (o0) from l5) ⟨_,hfr,rfl⟩
def f143 (x0:List ChainCard) (x1:ChainCard→Option Bool):Option (Int):=
 jn (σ:=Unit) (fun _=>
  some ((-1:Int))
  ) fun k18=>
 lp (σ:=Int) (fun k19 o0=>
  bif (decide (o0 < ((x0).length : Int))) then
   jn (σ:=Unit) (fun _=>
    k19 ((w64 (o0 + (1:Int))))
    ) fun k28=>
   (idx x0 o0).bind fun vB=>
   (x1 vB).bind fun yB=>
   bif yB then
    some (o0)
   else
    k28 ()
  else
   k18 ()
  ) big ((0:Int))
theorem en143:Enters Tryz.prog 143:=enters_of Tryz.func143 (by kernel_rfl) rfl
theorem wk143 {gI:Gh} {wI:World} {x0:List ChainCard} {x1:ChainCard→Option Bool} {up0:Value} (rp0:RV gI.m wI x0 up0) {up1:Value} (rp1:FnV1 Tryz.prog x1 up1 gI wI) {r:Int} (h:f143 x0 x1=some r):Fn Tryz.prog 143 #[up0,up1] gI wI (fun _ _ v=>v=.int .i64 (r)):=by
 unfold f143 at h
 refine fn_of_E Tryz.func143 rfl (Nat.le_of_ble_eq_true rfl) fun g0 hm hfr=>?_
 have rp0:RV g0.m wI x0 up0:=hm ▸ rp0
 obtain ⟨ff1,fa1,fc1,rfl,fen1,fcl1⟩:=rp1
 show E _ 19 none _ _ _ _ _
 refine E_seq (E_region (EL_at (.int .i64 (0)) rfl rfl ?_))
 refine EL_nil (thn_n (E_joinC h (fun (s:Unit) e w=>∃ (g:Gh) ,Fr gI wI g w) (fun X18 k18 zB h=>?_) ?_))
 ·refine E_seq (E_region (EL_mw up0 rfl rfl ?_))
  refine EL_p (.int .i64 ((x0).length:Int)) (P_len Tryz.underlying83 rfl rp0) rfl ?_
  refine EL_mw (.int .i64 (0)) rfl rfl ?_
  refine EL_nil (thn_n (E_block ?_))
  refine E_lp h (fun (s:Int) e w=>∃ (g:Gh) ,Fr gI wI g w∧e 0=up0∧RV g.m w (x0:List ChainCard) up0∧e 1=(.func (.func ff1) fa1 fc1)∧e 7=.int .i64 (((x0).length:Int))∧e 8=.int .i64 (s)) ⟨g0,hfr,rfl,rp0,rfl,rfl,rfl⟩ (fun X19 k19 cC=>?_)
  rintro o0 yD bE ⟨l9,hfr,l8,l5,n8,v8,t5⟩ h
  refine E_seq (E_region (EL_in (.bool ((decide (o0 < ((x0).length:Int))))) t5 v8 rfl rfl ?_))
  refine EL_nil (thn_n (E_seq ?_))
  rcases csome h with ⟨i6,h⟩ | ⟨i6,h⟩
  ·refine E_ct i6 rfl ?_
   refine E_skip (thn_n (E_joinC h (fun (s:Unit) e w=>∃ (g:Gh) ,Fr gI wI g w∧e 0=up0∧RV g.m w (x0:List ChainCard) up0∧e 1=(.func (.func ff1) fa1 fc1)∧e 7=.int .i64 (((x0).length:Int))∧e 8=.int .i64 (o0)) (fun X28 k28 uC h=>?_) ?_))
   ·refine E_block ?_
    refine E_seq (E_region (EL_mv t5 rfl ?_))
    refine EL_at (.int .i64 (o0)) rfl rfl ?_
    refine EL_nil (thn_n (E_seq (E_region (EL_mv n8 rfl ?_))))
    refine EL_mv l8 rfl ?_
    refine EL_mw (.int .i64 (o0)) rfl rfl ?_
    obtain ⟨vB,n9,h⟩:=bsome h
    refine EL_p (ePtr up0 o0 3) (P_indexAddr (α:=ChainCard) Tryz.underlying83 Tryz.sizeOf87 rfl l5 rfl n9) rfl ?_
    have bD:=PT_idx l5 n9
    refine EL_do .plain rfl (D_load (g:=l9) Tryz.isAgg87 Tryz.sizeOf87 rfl bD fun cD lD=>?_)
    obtain ⟨yB,vC,h⟩:=bsome h
    refine EL_do .plain rfl (D_callv (g:=l9) (vs:=[cD]) rfl fen1 (.cons rfl .nil) (fcl1 _ _ hfr.ch _ _ _  lD vC) fun nD iE lE hs hr=>?_)
    have hfr:=hfr.ext hs
    have l5:=l5.ext hs
    obtain rfl:=RV_bool.1 hr
    refine EL_nil (thn_n ?_)
    rcases csome h with ⟨g8,h⟩ | ⟨g8,h⟩
    ·refine E_ct g8 rfl ?_
     refine E_seq (E_region (EL_mw (.int .i64 (o0)) rfl rfl ?_))
     refine EL_at (.int .i64 (o0)) rfl rfl ?_
     refine EL_nil (thn_n (E_ret (blk_r ?_)))
     refine thn_r ?_
     refine thn_r ?_
     refine blk_r ?_
     refine thn_r ?_
     obtain rfl:=sinj h
     exact end1 rfl rfl (show _=.int .i64 (o0) from rfl) ⟨_,hfr,rfl⟩
    ·refine E_cf g8 rfl ?_
     exact E_skip (blk_n (thn_n (uC () _ _ ⟨nD,hfr,l8,l5,n8,v8,t5⟩ h)))
   ·rintro _ zD mE ⟨oD, hfr, aB, lB, mB, nB, oB⟩ h
    refine E_region (EL_in (.int .i64 ((w64 (o0 + (1:Int))))) oB rfl rfl rfl ?_)
    refine EL_mw (.int .i64 ((w64 (o0 + (1:Int))))) rfl rfl ?_
    exact EL_nil (thn_n (cC ((w64 (o0 + (1:Int)))) _ _ ⟨oD,hfr,aB,lB,mB,nB,rfl⟩ h))
  ·refine E_cf i6 rfl ?_
   refine E_exit ?_
   refine thn_e ?_
   refine thn_e ?_
   refine blk_hit ?_
   exact thn_n (zB () _ _ ⟨l9,hfr⟩ h)
 ·rintro _ aE oE ⟨rE, hfr⟩ h
  refine E_seq (E_region (EL_at (.int .i64 (-1)) rfl rfl ?_))
  refine EL_nil (thn_n (E_ret ?_))
  obtain rfl:=sinj h
  exact end1 rfl rfl (show _=.int .i64 (-1) from rfl) ⟨_,hfr,rfl⟩
def f144 (x0:Str) (x1:I32→Option Bool) (x2:Bool):Option (Int):=
 jn (σ:=Unit) (fun _=>
  some ((-1:Int))
  ) fun k8=>
 lp (σ:=Nat) (fun n9 o0=>
  bif (decide (o0 < (x0).b.length)) then
   (x1 ((⟨(dec x0 o0).1⟩:I32))).bind fun v8=>
   bif (v8 == x2) then
    some (((o0:Nat):Int))
   else
    n9 ((o0 + (dec x0 o0).2))
  else
   k8 ()
  ) big (0)
theorem en144:Enters Tryz.prog 144:=enters_of Tryz.func144 (by kernel_rfl) rfl
theorem wk144 {gI:Gh} {wI:World} {x0:Str} {x1:I32→Option Bool} {x2:Bool} {up1:Value} (rp1:FnV1 Tryz.prog x1 up1 gI wI) {r:Int} (h:f144 x0 x1 x2=some r):Fn Tryz.prog 144 #[Str.v (x0),up1,.bool (x2)] gI wI (fun _ _ v=>v=.int .i64 (r)):=by
 unfold f144 at h
 refine fn_of_E Tryz.func144 rfl (Nat.le_of_ble_eq_true rfl) fun g0 hm hfr=>?_
 obtain ⟨ff1,fa1,fc1,rfl,fen1,fcl1⟩:=rp1
 show E _ 21 none _ _ _ _ _
 refine E_seq (E_region (EL_at (.int .i64 (0)) rfl rfl ?_))
 refine EL_nil (thn_n (E_joinC h (fun (s:Unit) e w=>∃ (g:Gh) ,Fr gI wI g w) (fun X8 k8 mB h=>?_) ?_))
 ·refine E_seq (E_region (EL_mw (Str.v (x0)) rfl rfl ?_))
  refine EL_do .plain rfl (D_rangeS (g:=g0) (s:=x0) 7010 Tryz.underlying9 rfl fun g9 w9 p9 hs b9=>?_)
  have hfr:=hfr.stp hs
  refine EL_nil (thn_n (E_block ?_))
  refine E_lp h (fun (s:Nat) e w=>∃ (g:Gh) ,Fr gI wI g w∧e 1=(.func (.func ff1) fa1 fc1)∧e 2=.bool (x2)∧e 10=p9∧SI 7010 g w (x0) (s) p9) ⟨g9,hfr,rfl,rfl,rfl,b9⟩ (fun X10 n9 aB=>?_)
  rintro o0 vB zB ⟨l9,hfr,l8,n8,l5,t5⟩ h
  refine E_seq (E_region ?_)
  rcases csome h with ⟨i6,h⟩ | ⟨i6,h⟩
  ·refine EL_do .plain rfl (D_nextS_t (g := l9) l5 t5 i6 fun nB cC hs b12 => ?_)
   have hfr:=hfr.stp hs
   refine EL_p (.bool true) (P_extract rfl rfl) rfl ?_
   refine EL_nil (thn_n (E_seq (E_cond_true (by rw [show ev _ _=_ from rfl]; exact congrArg Value.bool rfl) ?_)))
   refine E_skip (thn_n (E_block ?_))
   refine E_seq (E_region (EL_p (.int .i64 ((o0:Nat):Int)) (P_extract rfl rfl) rfl ?_))
   refine EL_p (.int .i32 (dec x0 o0).1) (P_extract rfl rfl) rfl ?_
   refine EL_at (.int .i64 ((o0:Nat):Int)) rfl rfl ?_
   refine EL_at (.int .i32 (dec x0 o0).1) rfl rfl ?_
   refine EL_nil (thn_n (E_seq (E_region (EL_mv l8 rfl ?_))))
   refine EL_mw (.int .i32 (dec x0 o0).1) rfl rfl ?_
   obtain ⟨v8,lB,h⟩:=bsome h
   refine EL_do .plain rfl (D_callv (g:=nB) (vs:=[.int .i32 (dec x0 o0).1]) rfl fen1 (.cons rfl .nil) (fcl1 _ _ hfr.ch _ _ _  (RV_i32.2 rfl) lB) fun oB uC vC hs hr=>?_)
   have hfr:=hfr.ext hs
   have b12:=b12.ext hs
   obtain rfl:=RV_bool.1 hr
   refine EL_mv n8 rfl ?_
   refine EL_p (.bool ((v8 == x2))) (P_bool Tryz.underlying4 rfl rfl rfl) rfl ?_
   refine EL_nil (thn_n ?_)
   rcases csome h with ⟨g8,h⟩ | ⟨g8,h⟩
   ·refine E_ct g8 rfl ?_
    refine E_seq (E_region (EL_mw (.int .i64 ((o0:Nat):Int)) rfl rfl ?_))
    refine EL_at (.int .i64 ((o0:Nat):Int)) rfl rfl ?_
    refine EL_nil (thn_n (E_ret (blk_r ?_)))
    refine thn_r ?_
    refine blk_r ?_
    refine thn_r ?_
    obtain rfl:=sinj h
    exact end1 rfl rfl (show _=.int .i64 ((o0:Nat):Int) from rfl) ⟨_,hfr,rfl⟩
   ·refine E_cf g8 rfl ?_
    exact E_skip (blk_n (thn_n (aB ((o0 + (dec x0 o0).2)) _ _ ⟨oB,hfr,l8,n8,l5,b12⟩ h)))
  ·refine EL_do .plain rfl (D_nextS_f (g := l9) l5 t5 i6 ?_)
   refine EL_p (.bool false) (P_extract rfl rfl) rfl ?_
   refine EL_nil (thn_n (E_seq (E_cond_false (by rw [show ev _ _=_ from rfl]; exact congrArg Value.bool rfl) ?_)))
   refine E_exit ?_
   refine thn_e ?_
   refine thn_e ?_
   refine blk_hit ?_
   exact thn_n (mB () _ _ ⟨l9,hfr⟩ h)
 ·rintro _ yB bD ⟨cD, hfr⟩ h
  refine E_seq (E_region (EL_at (.int .i64 (-1)) rfl rfl ?_))
  refine EL_nil (thn_n (E_ret ?_))
  obtain rfl:=sinj h
  exact end1 rfl rfl (show _=.int .i64 (-1) from rfl) ⟨_,hfr,rfl⟩
def f146 (x0:U64):Option (U64):=
 (shr64 ((x0).n) ((8:Int))).bind fun y1=>
 (shlU (bitU .and ((x0).n) ((71777214294589695:Int))) ((8:Int))).bind fun y2=>
 (shr64 (bitU .or (bitU .and y1 ((71777214294589695:Int))) y2) ((16:Int))).bind fun y3=>
 (shlU (bitU .and (bitU .or (bitU .and y1 ((71777214294589695:Int))) y2) ((281470681808895:Int))) ((16:Int))).bind fun y4=>
 (shr64 (bitU .or (bitU .and y3 ((281470681808895:Int))) y4) ((32:Int))).bind fun y5=>
 (shlU (bitU .or (bitU .and y3 ((281470681808895:Int))) y4) ((32:Int))).bind fun y6=>
 some ((⟨bitU .or y5 y6⟩:U64))
theorem en146:Enters Tryz.prog 146:=enters_of Tryz.func146 (by kernel_rfl) rfl
theorem wk146 {gI:Gh} {wI:World} {x0:U64}  {r:U64} (h:f146 x0=some r):Fn Tryz.prog 146 #[.int .u64 ((x0).n)] gI wI (fun _ _ v=>v=.int .u64 ((r).n)):=by
 unfold f146 at h
 refine fn_of_E Tryz.func146 rfl (Nat.le_of_ble_eq_true rfl) fun g0 hm hfr=>?_
 show E _ 22 none _ _ _ _ _
 refine E_seq (E_region (EL_at (.int .u64 (0)) rfl rfl ?_))
 refine EL_nil (thn_n (E_seq (E_region (EL_mw (.int .u64 ((x0).n)) rfl rfl ?_))))
 obtain ⟨y1,hy1,h⟩:=bsome h
 refine EL_p (.int .u64 (y1)) (P_shrU rfl rfl hy1) rfl ?_
 refine EL_p (.int .u64 (bitU .and y1 ((71777214294589695:Int)))) (P_bitU (by simp) rfl rfl) rfl ?_
 refine EL_mw (.int .u64 ((x0).n)) rfl rfl ?_
 refine EL_p (.int .u64 (bitU .and ((x0).n) ((71777214294589695:Int)))) (P_bitU (by simp) rfl rfl) rfl ?_
 obtain ⟨y2,hy2,h⟩:=bsome h
 refine EL_p (.int .u64 (y2)) (P_shlU rfl rfl hy2) rfl ?_
 refine EL_p (.int .u64 (bitU .or (bitU .and y1 ((71777214294589695:Int))) y2)) (P_bitU (by simp) rfl rfl) rfl ?_
 refine EL_at (.int .u64 (bitU .or (bitU .and y1 ((71777214294589695:Int))) y2)) rfl rfl ?_
 refine EL_nil (thn_n (E_seq (E_region (EL_mw (.int .u64 (bitU .or (bitU .and y1 ((71777214294589695:Int))) y2)) rfl rfl ?_))))
 obtain ⟨y3,hy3,h⟩:=bsome h
 refine EL_p (.int .u64 (y3)) (P_shrU rfl rfl hy3) rfl ?_
 refine EL_p (.int .u64 (bitU .and y3 ((281470681808895:Int)))) (P_bitU (by simp) rfl rfl) rfl ?_
 refine EL_mw (.int .u64 (bitU .or (bitU .and y1 ((71777214294589695:Int))) y2)) rfl rfl ?_
 refine EL_p (.int .u64 (bitU .and (bitU .or (bitU .and y1 ((71777214294589695:Int))) y2) ((281470681808895:Int)))) (P_bitU (by simp) rfl rfl) rfl ?_
 obtain ⟨y4,o0,h⟩:=bsome h
 refine EL_p (.int .u64 (y4)) (P_shlU rfl rfl o0) rfl ?_
 refine EL_p (.int .u64 (bitU .or (bitU .and y3 ((281470681808895:Int))) y4)) (P_bitU (by simp) rfl rfl) rfl ?_
 refine EL_at (.int .u64 (bitU .or (bitU .and y3 ((281470681808895:Int))) y4)) rfl rfl ?_
 refine EL_nil (thn_n (E_seq (E_region (EL_mw (.int .u64 (bitU .or (bitU .and y3 ((281470681808895:Int))) y4)) rfl rfl ?_))))
 obtain ⟨y5,hy5,h⟩:=bsome h
 refine EL_p (.int .u64 (y5)) (P_shrU rfl rfl hy5) rfl ?_
 refine EL_mw (.int .u64 (bitU .or (bitU .and y3 ((281470681808895:Int))) y4)) rfl rfl ?_
 obtain ⟨y6,l5,h⟩:=bsome h
 refine EL_p (.int .u64 (y6)) (P_shlU rfl rfl l5) rfl ?_
 refine EL_p (.int .u64 (bitU .or y5 y6)) (P_bitU (by simp) rfl rfl) rfl ?_
 refine EL_at (.int .u64 (bitU .or y5 y6)) rfl rfl ?_
 refine EL_nil (thn_n (E_ret ?_))
 obtain rfl:=sinj h
 exact end1 rfl rfl (show _=.int .u64 (bitU .or y5 y6) from rfl) ⟨_,hfr,rfl⟩
def f4 (x0:UInt8) (x1:List UInt16):Option (FaultLoom):=
 (f16 x0 x1).bind fun y3=>
 Option.bind (α:=FaultLoom) (
  lp (σ:=FaultLoom × Int) (fun kH (g8,t5)=>
   jn (σ:=Unit) (fun _=>
    Option.bind (α:=FaultLoom) (
     (apnd 8 (((g8).Harness).Warps) (([t5]:List Int))).bind fun y71=>
     some ({ g8 with Harness:={ (g8).Harness with Warps:=y71 } })
     ) fun mB=>
    kH (mB,(w64 (t5 + (1:Int))))
    ) fun lH=>
   bif (decide (t5 < ((g8).Design).Hooks)) then
    lH ()
   else
    some (g8)
   ) big ((⟨(⟨(y3).Hooks,[]⟩:TieHarness),y3⟩:FaultLoom),(0:Int))
  ) fun v8=>
 Option.bind (α:=FaultLoom) (
  lp (σ:=FaultLoom × Int) (fun uE (l8,o0)=>
   jn (σ:=Unit) (fun _=>
    Option.bind (α:=FaultLoom) (
     (apnd 8 (((l8).Harness).Warps) (([o0]:List Int))).bind fun zD=>
     some ({ l8 with Harness:={ (l8).Harness with Warps:=zD } })
     ) fun lB=>
    uE (lB,(w64 (o0 - (1:Int))))
    ) fun vE=>
   bif (decide (o0 > (0 : Int))) then
    vE ()
   else
    some (l8)
   ) big (v8,(w64 (((v8).Design).Hooks - (2:Int))))
  ) fun nB=>
 some (nB)
theorem en4:Enters Tryz.prog 4:=enters_of Tryz.func4 (by kernel_rfl) rfl
theorem wk4 {gI:Gh} {wI:World} {x0:UInt8} {x1:List UInt16} {up1:Value} (rp1:RV gI.m wI x1 up1) {r:FaultLoom} (h:f4 x0 x1=some r):Fn Tryz.prog 4 #[.int .u8 (UInt8.toNat (x0)),up1] gI wI (fun m w v=>RV m w (r) v):=by
 unfold f4 at h
 refine fn_of_E Tryz.func4 rfl (Nat.le_of_ble_eq_true rfl) fun g0 hm hfr=>?_
 have rp1:RV g0.m wI x1 up1:=hm ▸ rp1
 show E _ 49 none _ _ _ _ _
 refine E_seq (E_region (EL_do .plain rfl (D_allocOc (g:=g0) 2004 (⟨⟨0,[]⟩,⟨0,[]⟩⟩:FaultLoom) Tryz.zeroValue31 (fun m w=>⟨_,(rep_two (rep_two rep_int rep_nil) (rep_two rep_int rep_nil)),rfl⟩) fun g1 w1 p1 hs b1 cb=>?_)))
 have hfr:=hfr.stp hs
 have rp1:=rp1.stp hs
 have l9:OSF 2004 60401 1 g1 w1 3 31 ([]:List Int) p1:=cb.osf (by rfl)
 have n9:OSF 2004 60403 3 g1 w1 3 31 ([]:List Int) p1:=cb.osf (by rfl)
 clear cb
 refine EL_nil (thn_n (E_seq (E_region (EL_mw (.int .u8 (UInt8.toNat (x0))) rfl rfl ?_))))
 refine EL_mw up1 rfl rfl ?_
 obtain ⟨y3,hy3,h⟩:=bsome h
 refine EL_do .plain rfl (D_call (g:=g1) (vs:=[.int .u8 (UInt8.toNat (x0)),up1]) en16 (.cons rfl (.cons rfl .nil)) (wk16 rp1 hy3) fun g2 w2_ v2 hs hr=>?_)
 have hfr:=hfr.ext hs
 have l9:=l9.ext hs
 have n9:=n9.ext hs
 have b1:=b1.ext hs
 have r2:=hr
 have r4:RV g2.m _ (⟨⟨0,[]⟩,y3⟩:FaultLoom) (.agg (setCh [[.int .i64 0,.slice none 0 0],[.int .i64 0,.slice none 0 0]] [(1,v2)]).flatten.toArray):=RV_build rfl (rep_pair ((rep_two rep_int rep_nil)) (rep_last (RV.cells r2)))
 generalize mH:(Value.agg (setCh [[.int .i64 0,.slice none 0 0],[.int .i64 0,.slice none 0 0]] [(1,v2)]).flatten.toArray)=v4 at r4
 refine EL_p v4 (mH ▸ P_build (vs:=[(1,v2)]) [[.int .i64 0,.slice none 0 0],[.int .i64 0,.slice none 0 0]] lay_31 rfl rfl (.cons rfl .nil) ⟨⟨_,rfl,cells_size r2⟩,trivial⟩) rfl ?_
 refine EL_do .plain rfl (D_allocOc (g:=g2) 2005 (⟨⟨0,[]⟩,⟨0,[]⟩⟩:FaultLoom) Tryz.zeroValue31 (fun m w=>⟨_,(rep_two (rep_two rep_int rep_nil) (rep_two rep_int rep_nil)),rfl⟩) fun g5 w5 p5 hs b5 cb=>?_)
 have hfr:=hfr.stp hs
 have l9:=l9.stp hs rfl
 have n9:=n9.stp hs rfl
 have b1:=b1.stp hs rfl
 have r4:=r4.stp hs
 have pJ:OSF 2005 60501 1 g5 w5 3 31 ([]:List Int) p5:=cb.osf (by rfl)
 have qJ:OSF 2005 60503 3 g5 w5 3 31 ([]:List Int) p5:=cb.osf (by rfl)
 clear cb
 refine EL_do .plain rfl (D_storeOc (g:=g5) (v:=v4) Tryz.sizeOf31 rfl b5 rfl r4 fun g6 w6 hs b6 cb=>?_)
 have rJ:OSF 2005 60501 1 g6 w6 3 31 ([]:List Int) p5:=cb.osf (by rw [← mH]; rfl)
 clear cb
 have hfr:=hfr.stp hs
 have l9:=l9.stp hs rfl
 have n9:=n9.stp hs rfl
 have b1:=b1.stp hs rfl
 refine EL_nil (thn_n (E_seq (E_region (EL_p (fPtr p5 2) (P_fieldAddr at_31_1 rfl (OB.ptr b6)) rfl ?_))))
 refine EL_p (fPtr p5 2) (P_fieldAddr2 (o1:=2) rfl at_29_0 rfl (OB.ptr b6)) rfl ?_
 refine EL_do .plain rfl (D_loadF (g:=g6) (SubS.comp part_FaultLoom_1 part_Design_0 rfl).1 Tryz.isAgg3 Tryz.sizeOf3 rfl b6 fun v9 r9=>?_)
 obtain rfl:=RV_int.1 r9
 have nH:RV g6.m w6 (⟨(y3).Hooks,[]⟩:TieHarness) (.agg (setCh [[.int .i64 0],[.slice none 0 0]] [(0,.int .i64 ((y3).Hooks))]).flatten.toArray):=RV_build rfl (rep_pair (rfl) (rep_last (rep_nil)))
 generalize xE:(Value.agg (setCh [[.int .i64 0],[.slice none 0 0]] [(0,.int .i64 ((y3).Hooks))]).flatten.toArray)=lI at nH
 refine EL_p lI (xE ▸ P_build (vs:=[(0,.int .i64 ((y3).Hooks))]) [[.int .i64 0],[.slice none 0 0]] lay_27 rfl rfl (.cons rfl .nil) ⟨⟨_,rfl,rfl⟩,trivial⟩) rfl ?_
 refine EL_p (fPtr p5 0) (P_fieldAddr at_31_0 rfl (OB.ptr b6)) rfl ?_
 refine EL_do .plain rfl (D_storeFd (g:=g6) part_FaultLoom_0 Tryz.sizeOf27 rfl b6 rfl nH fun oH mI hs b12 rst hos=>?_)
 have gG:OSF 2005 60501 1 oH mI 3 31 ([]:List Int) p5:=hos _ _ 60501 3 ([]:List Int) 1 (.slice none 0 0) (by rw [← xE]; rfl) rfl OS.nil
 clear rst hos
 have hfr:=hfr.stp hs
 have l9:=l9.stp hs rfl
 have n9:=n9.stp hs rfl
 have b1:=b1.stp hs rfl
 refine EL_nil (thn_n ?_)
 obtain ⟨v8,hx,h⟩:=bsome h
 refine E_join (fun e w=>∃ (g:Gh) ,Fr gI wI g w∧e 4=p1∧OB 2004 g w 31 ((⟨⟨0,[]⟩,⟨0,[]⟩⟩:FaultLoom):FaultLoom) p1∧OSF 2004 60401 1 g w 3 31 ((((⟨⟨0,[]⟩,⟨0,[]⟩⟩:FaultLoom)).Harness).Warps) p1∧OSF 2004 60403 3 g w 3 31 ((((⟨⟨0,[]⟩,⟨0,[]⟩⟩:FaultLoom)).Design).Rows) p1∧e 5=p5∧OB 2005 g w 31 (v8:FaultLoom) p5∧OSF 2005 60501 1 g w 3 31 (((v8).Harness).Warps) p5) (fun Q' hQ=>?_) (fun sJ vK hR=>?_)
 ·replace h := hx
  clear hx
  refine E_seq (E_region (EL_at (.int .i64 (0)) rfl rfl ?_))
  refine EL_nil (thn_n (E_block ?_))
  refine E_lp h (fun (s:FaultLoom × Int) e w=>∃ (g:Gh) ,Fr gI wI g w∧e 4=p1∧OB 2004 g w 31 ((⟨⟨0,[]⟩,⟨0,[]⟩⟩:FaultLoom):FaultLoom) p1∧OSF 2004 60401 1 g w 3 31 ((((⟨⟨0,[]⟩,⟨0,[]⟩⟩:FaultLoom)).Harness).Warps) p1∧OSF 2004 60403 3 g w 3 31 ((((⟨⟨0,[]⟩,⟨0,[]⟩⟩:FaultLoom)).Design).Rows) p1∧e 5=p5∧OB 2005 g w 31 (s.1:FaultLoom) p5∧OSF 2005 60501 1 g w 3 31 (((s.1).Harness).Warps) p5∧e 6=.int .i64 (s.2)) ⟨oH,hfr,rfl,b1,l9,n9,rfl,b12,gG,rfl⟩ (fun X44 kH tH=>?_)
  rintro ⟨g8,t5⟩ vJ xK ⟨yE,hfr,iE,lE,u4_1_45,u4_3_45,zB,oB,u5_1_45,mE⟩ h
  refine E_joinC h (fun (s:Unit) e w=>∃ (g:Gh) ,Fr gI wI g w∧e 4=p1∧OB 2004 g w 31 ((⟨⟨0,[]⟩,⟨0,[]⟩⟩:FaultLoom):FaultLoom) p1∧OSF 2004 60401 1 g w 3 31 ((((⟨⟨0,[]⟩,⟨0,[]⟩⟩:FaultLoom)).Harness).Warps) p1∧OSF 2004 60403 3 g w 3 31 ((((⟨⟨0,[]⟩,⟨0,[]⟩⟩:FaultLoom)).Design).Rows) p1∧e 5=p5∧OB 2005 g w 31 (g8:FaultLoom) p5∧OSF 2005 60501 1 g w 3 31 (((g8).Harness).Warps) p5∧e 6=.int .i64 (t5)) (fun X50 lH uH h=>?_) ?_
  ·refine E_seq (E_region (EL_mv mE rfl ?_))
   refine EL_p (fPtr p5 2) (P_fieldAddr at_31_1 zB (OB.ptr oB)) rfl ?_
   refine EL_p (fPtr p5 2) (P_fieldAddr2 (o1:=2) rfl at_29_0 rfl (OB.ptr oB)) rfl ?_
   refine EL_do .plain rfl (D_loadF (g:=yE) (SubS.comp part_FaultLoom_1 part_Design_0 rfl).1 Tryz.isAgg3 Tryz.sizeOf3 rfl oB fun yK nI=>?_)
   obtain rfl:=RV_int.1 nI
   refine EL_in (.bool ((decide (t5 < ((g8).Design).Hooks)))) rfl rfl rfl rfl ?_
   refine EL_nil (thn_n ?_)
   rcases csome h with ⟨aE,h⟩ | ⟨aE,h⟩
   ·refine E_ct aE rfl ?_
    exact E_skip (thn_n (uH () _ _ ⟨yE,hfr,iE,lE,u4_1_45,u4_3_45,zB,oB,u5_1_45,mE⟩ h))
   ·refine E_cf aE rfl ?_
    refine E_exit ?_
    refine thn_e ?_
    refine thn_e ?_
    refine blk_hit ?_
    obtain rfl:=sinj h
    exact hQ _ _ ⟨yE,hfr,iE,lE,u4_1_45,u4_3_45,zB,oB,u5_1_45⟩
  ·rintro _ xJ zK ⟨pH, hfr, iG, aB, u4_1_55, u4_3_55, cC, i6, u5_1_55, oE⟩ h
   obtain ⟨mB,hx,h⟩:=bsome h
   refine E_join (fun e w=>∃ (g:Gh) ,Fr gI wI g w∧e 4=p1∧OB 2004 g w 31 ((⟨⟨0,[]⟩,⟨0,[]⟩⟩:FaultLoom):FaultLoom) p1∧OSF 2004 60401 1 g w 3 31 ((((⟨⟨0,[]⟩,⟨0,[]⟩⟩:FaultLoom)).Harness).Warps) p1∧OSF 2004 60403 3 g w 3 31 ((((⟨⟨0,[]⟩,⟨0,[]⟩⟩:FaultLoom)).Design).Rows) p1∧e 5=p5∧OB 2005 g w 31 (mB:FaultLoom) p5∧OSF 2005 60501 1 g w 3 31 (((mB).Harness).Warps) p5∧e 6=.int .i64 (t5)) (fun Q' hQ=>?_) (fun zJ aL hR=>?_)
   ·replace h := hx
    clear hx
    refine E_block ?_
    refine E_region (EL_p (fPtr p5 0) (P_fieldAddr at_31_0 cC (OB.ptr i6)) rfl ?_)
    refine EL_p (fPtr p5 1) (P_fieldAddr2 (o1:=0) rfl at_27_1 rfl (OB.ptr i6)) rfl ?_
    refine EL_do .plain rfl (D_loadFS (g:=pH) (SubS.comp part_FaultLoom_0 part_TieHarness_1 rfl).1 Tryz.isAgg25 Tryz.sizeOf25 rfl i6 u5_1_55 fun bL zE o68=>?_)
    refine EL_mv oE rfl ?_
    refine EL_do .plain rfl (D_buildSlice (g:=pH) 3028 (xs:=([t5]:List Int)) (vs:=[.int .i64 (t5)]) Tryz.underlying25 Tryz.sizeOf3 Tryz.zeroValue3 rfl rfl (.cons rfl .nil) (RVs.cons (RV_int.2 rfl) RVs.nil) rfl rfl fun pI dL eL hs o69 qI hxt hfl=>?_)
    have hfr:=hfr.stp hs
    have u4_1_55:=u4_1_55.stp hs rfl
    have u4_3_55:=u4_3_55.stp hs rfl
    have aB:=aB.stp hs rfl
    have i6:=i6.stp hs rfl
    have zE:=zE.stp hs
    have o68:=o68.stp hs rfl
    obtain ⟨y71,xH,h⟩:=bsome h
    refine EL_do .plain rfl (D_append (g:=pI) (i:=60501) Tryz.underlying25 info_3 rfl rfl o68 zE rfl qI xH fun sI gL iL hs o70 qH _=>?_)
    have hfr:=hfr.stp hs
    have u4_1_55:=u4_1_55.stp hs rfl
    have u4_3_55:=u4_3_55.stp hs rfl
    have aB:=aB.stp hs rfl
    have i6:=i6.stp hs rfl
    refine EL_p (fPtr p5 0) (P_fieldAddr at_31_0 cC (OB.ptr i6)) rfl ?_
    refine EL_p (fPtr p5 1) (P_fieldAddr2 (o1:=0) rfl at_27_1 rfl (OB.ptr i6)) rfl ?_
    refine EL_do .plain rfl (D_storeFc (g:=sI) (SubS.comp part_FaultLoom_0 part_TieHarness_1 rfl) Tryz.sizeOf25 rfl i6 rfl qH fun jJ jL hs b74 rst hos=>?_)
    have jG:=hos _ _ 60501 3 (y71:List Int) (rv_cells1 qH) rfl o70
    clear rst hos
    have hfr:=hfr.stp hs
    have u4_1_55:=u4_1_55.stp hs rfl
    have u4_3_55:=u4_3_55.stp hs rfl
    have aB:=aB.stp hs rfl
    refine EL_nil (blk_n ?_)
    obtain rfl:=sinj h
    exact hQ _ _ ⟨jJ,hfr,iG,aB,u4_1_55,u4_3_55,cC,b74,jG,oE⟩
   ·clear hx
    obtain ⟨kJ,hfr,kG,lG,u4_1_75,u4_3_75,mG,sG,u5_1_75,xG⟩:=hR
    refine E_region (EL_mv xG rfl ?_)
    refine EL_in (.int .i64 ((w64 (t5 + (1:Int))))) rfl rfl rfl rfl ?_
    refine EL_at (.int .i64 ((w64 (t5 + (1:Int))))) rfl rfl ?_
    exact EL_nil (thn_n (tH (mB,(w64 (t5 + (1:Int)))) _ _ ⟨kJ,hfr,kG,lG,u4_1_75,u4_3_75,mG,sG,u5_1_75,rfl⟩ h))
 ·clear hx
  obtain ⟨sH,hfr,yG,zG,u4_1_76,u4_3_76,rE,vB,u5_1_76⟩:=hR
  obtain ⟨nB,hx,h⟩:=bsome h
  refine E_join (fun e w=>∃ (g:Gh) ,Fr gI wI g w∧e 4=p1∧OB 2004 g w 31 ((⟨⟨0,[]⟩,⟨0,[]⟩⟩:FaultLoom):FaultLoom) p1∧OSF 2004 60401 1 g w 3 31 ((((⟨⟨0,[]⟩,⟨0,[]⟩⟩:FaultLoom)).Harness).Warps) p1∧OSF 2004 60403 3 g w 3 31 ((((⟨⟨0,[]⟩,⟨0,[]⟩⟩:FaultLoom)).Design).Rows) p1∧e 5=p5∧OB 2005 g w 31 (nB:FaultLoom) p5∧OSF 2005 60501 1 g w 3 31 (((nB).Harness).Warps) p5) (fun Q' hQ=>?_) (fun lJ aK hR=>?_)
  ·replace h := hx
   clear hx
   refine E_seq (E_region (EL_p (fPtr p5 2) (P_fieldAddr at_31_1 rE (OB.ptr vB)) rfl ?_))
   refine EL_p (fPtr p5 2) (P_fieldAddr2 (o1:=2) rfl at_29_0 rfl (OB.ptr vB)) rfl ?_
   refine EL_do .plain rfl (D_loadF (g:=sH) (SubS.comp part_FaultLoom_1 part_Design_0 rfl).1 Tryz.isAgg3 Tryz.sizeOf3 rfl vB fun bK yH=>?_)
   obtain rfl:=RV_int.1 yH
   refine EL_in (.int .i64 ((w64 (((v8).Design).Hooks - (2:Int))))) rfl rfl rfl rfl ?_
   refine EL_at (.int .i64 ((w64 (((v8).Design).Hooks - (2:Int))))) rfl rfl ?_
   refine EL_nil (thn_n (E_block ?_))
   refine E_lp h (fun (s:FaultLoom × Int) e w=>∃ (g:Gh) ,Fr gI wI g w∧e 4=p1∧OB 2004 g w 31 ((⟨⟨0,[]⟩,⟨0,[]⟩⟩:FaultLoom):FaultLoom) p1∧OSF 2004 60401 1 g w 3 31 ((((⟨⟨0,[]⟩,⟨0,[]⟩⟩:FaultLoom)).Harness).Warps) p1∧OSF 2004 60403 3 g w 3 31 ((((⟨⟨0,[]⟩,⟨0,[]⟩⟩:FaultLoom)).Design).Rows) p1∧e 5=p5∧OB 2005 g w 31 (s.1:FaultLoom) p5∧OSF 2005 60501 1 g w 3 31 (((s.1).Harness).Warps) p5∧e 7=.int .i64 (s.2)) ⟨sH,hfr,yG,zG,u4_1_76,u4_3_76,rE,vB,u5_1_76,rfl⟩ (fun X108 uE aH=>?_)
   rintro ⟨l8,o0⟩ mJ cK ⟨cF,hfr,vC,bD,u4_1_109,u4_3_109,cD,lD,u5_1_109,nD⟩ h
   refine E_joinC h (fun (s:Unit) e w=>∃ (g:Gh) ,Fr gI wI g w∧e 4=p1∧OB 2004 g w 31 ((⟨⟨0,[]⟩,⟨0,[]⟩⟩:FaultLoom):FaultLoom) p1∧OSF 2004 60401 1 g w 3 31 ((((⟨⟨0,[]⟩,⟨0,[]⟩⟩:FaultLoom)).Harness).Warps) p1∧OSF 2004 60403 3 g w 3 31 ((((⟨⟨0,[]⟩,⟨0,[]⟩⟩:FaultLoom)).Design).Rows) p1∧e 5=p5∧OB 2005 g w 31 (l8:FaultLoom) p5∧OSF 2005 60501 1 g w 3 31 (((l8).Harness).Warps) p5∧e 7=.int .i64 (o0)) (fun X111 vE cH h=>?_) ?_
   ·refine E_seq (E_region (EL_mv nD rfl ?_))
    refine EL_in (.bool ((decide (o0 > (0:Int))))) rfl rfl rfl rfl ?_
    refine EL_nil (thn_n ?_)
    rcases csome h with ⟨uC,h⟩ | ⟨uC,h⟩
    ·refine E_ct uC rfl ?_
     exact E_skip (thn_n (cH () _ _ ⟨cF,hfr,vC,bD,u4_1_109,u4_3_109,cD,lD,u5_1_109,nD⟩ h))
    ·refine E_cf uC rfl ?_
     refine E_exit ?_
     refine thn_e ?_
     refine thn_e ?_
     refine blk_hit ?_
     obtain rfl:=sinj h
     exact hQ _ _ ⟨cF,hfr,vC,bD,u4_1_109,u4_3_109,cD,lD,u5_1_109⟩
   ·rintro _ nJ dK ⟨dF, hfr, eF, n8, u4_1_113, u4_3_113, yB, l5, u5_1_113, oD⟩ h
    obtain ⟨lB,hx,h⟩:=bsome h
    refine E_join (fun e w=>∃ (g:Gh) ,Fr gI wI g w∧e 4=p1∧OB 2004 g w 31 ((⟨⟨0,[]⟩,⟨0,[]⟩⟩:FaultLoom):FaultLoom) p1∧OSF 2004 60401 1 g w 3 31 ((((⟨⟨0,[]⟩,⟨0,[]⟩⟩:FaultLoom)).Harness).Warps) p1∧OSF 2004 60403 3 g w 3 31 ((((⟨⟨0,[]⟩,⟨0,[]⟩⟩:FaultLoom)).Design).Rows) p1∧e 5=p5∧OB 2005 g w 31 (lB:FaultLoom) p5∧OSF 2005 60501 1 g w 3 31 (((lB).Harness).Warps) p5∧e 7=.int .i64 (o0)) (fun Q' hQ=>?_) (fun oJ lK hR=>?_)
    ·replace h := hx
     clear hx
     refine E_block ?_
     refine E_region (EL_p (fPtr p5 0) (P_fieldAddr at_31_0 yB (OB.ptr l5)) rfl ?_)
     refine EL_p (fPtr p5 1) (P_fieldAddr2 (o1:=0) rfl at_27_1 rfl (OB.ptr l5)) rfl ?_
     refine EL_do .plain rfl (D_loadFS (g:=dF) (SubS.comp part_FaultLoom_0 part_TieHarness_1 rfl).1 Tryz.isAgg25 Tryz.sizeOf25 rfl l5 u5_1_113 fun mK bE o125=>?_)
     refine EL_mv oD rfl ?_
     refine EL_do .plain rfl (D_buildSlice (g:=dF) 3044 (xs:=([o0]:List Int)) (vs:=[.int .i64 (o0)]) Tryz.underlying25 Tryz.sizeOf3 Tryz.zeroValue3 rfl rfl (.cons rfl .nil) (RVs.cons (RV_int.2 rfl) RVs.nil) rfl rfl fun zH nK oK hs o126 aI hxt hfl=>?_)
     have hfr:=hfr.stp hs
     have u4_1_113:=u4_1_113.stp hs rfl
     have u4_3_113:=u4_3_113.stp hs rfl
     have n8:=n8.stp hs rfl
     have l5:=l5.stp hs rfl
     have bE:=bE.stp hs
     have o125:=o125.stp hs rfl
     obtain ⟨zD,gH,h⟩:=bsome h
     refine EL_do .plain rfl (D_append (g:=zH) (i:=60501) Tryz.underlying25 info_3 rfl rfl o125 bE rfl aI gH fun bI pK qK hs o127 rF _=>?_)
     have hfr:=hfr.stp hs
     have u4_1_113:=u4_1_113.stp hs rfl
     have u4_3_113:=u4_3_113.stp hs rfl
     have n8:=n8.stp hs rfl
     have l5:=l5.stp hs rfl
     refine EL_p (fPtr p5 0) (P_fieldAddr at_31_0 yB (OB.ptr l5)) rfl ?_
     refine EL_p (fPtr p5 1) (P_fieldAddr2 (o1:=0) rfl at_27_1 rfl (OB.ptr l5)) rfl ?_
     refine EL_do .plain rfl (D_storeFc (g:=bI) (SubS.comp part_FaultLoom_0 part_TieHarness_1 rfl) Tryz.sizeOf25 rfl l5 rfl rF fun dI sK hs b131 rst hos=>?_)
     have sF:=hos _ _ 60501 3 (zD:List Int) (rv_cells1 rF) rfl o127
     clear rst hos
     have hfr:=hfr.stp hs
     have u4_1_113:=u4_1_113.stp hs rfl
     have u4_3_113:=u4_3_113.stp hs rfl
     have n8:=n8.stp hs rfl
     refine EL_nil (blk_n ?_)
     obtain rfl:=sinj h
     exact hQ _ _ ⟨dI,hfr,eF,n8,u4_1_113,u4_3_113,yB,b131,sF,oD⟩
    ·clear hx
     obtain ⟨iI,hfr,tF,uF,u4_1_132,u4_3_132,vF,xF,u5_1_132,yF⟩:=hR
     refine E_region (EL_mv yF rfl ?_)
     refine EL_in (.int .i64 ((w64 (o0 - (1:Int))))) rfl rfl rfl rfl ?_
     refine EL_at (.int .i64 ((w64 (o0 - (1:Int))))) rfl rfl ?_
     exact EL_nil (thn_n (aH (lB,(w64 (o0 - (1:Int)))) _ _ ⟨iI,hfr,tF,uF,u4_1_132,u4_3_132,vF,xF,u5_1_132,rfl⟩ h))
  ·clear hx
   obtain ⟨aG,hfr,yD,bG,u4_1_133,u4_3_133,cG,eG,u5_1_133⟩:=hR
   refine E_seq (E_region (EL_do .plain rfl (D_loadO (g:=aG) Tryz.isAgg31 Tryz.sizeOf31 cG eG fun jI kI=>?_)))
   refine EL_do .plain rfl (D_storeOc (g:=aG) (v:=jI) Tryz.sizeOf31 yD bG rfl kI fun tK uK hs b135 cb=>?_)
   clear cb
   have hfr:=hfr.stp hs
   refine EL_nil (thn_n (E_ret ?_))
   obtain rfl:=sinj h
   obtain ⟨ad136,cv136,hp136,jH,cr136⟩:=ob_read Tryz.isAgg31 Tryz.sizeOf31 b135
   exact endm_c rfl rfl ((show _=p1 from yD).trans hp136) jH ⟨_,hfr,cr136⟩
def f9 (x0:FaultLoom):Option (BookMill):=
 Option.bind (α:=ChainBelt) (
  lp (σ:=ChainBelt × Int) (fun aI (lB,o0)=>
   jn (σ:=Unit) (fun _=>
    Option.bind (α:=ChainBelt) (
     (idx (((x0).Design).Rows) o0).bind fun y130=>
     (apnd 24 ((lB).Cards) (([(⟨o0,y130,false⟩:ChainCard)]:List ChainCard))).bind fun aE=>
     some ({ lB with Cards:=aE })
     ) fun n9=>
    aI (n9,(w64 (o0 + (1:Int))))
    ) fun bI=>
   bif (decide (o0 < ((((x0).Design).Rows).length : Int))) then
    bI ()
   else
    some (lB)
   ) big ((⟨((x0).Design).Hooks,[]⟩:ChainBelt),(0:Int))
  ) fun t5=>
 (f21 (((x0).Harness).Warps)).bind fun l5=>
 some ((⟨([(⟨(⟨[108,105,108,121]⟩:Str),(⟨((x0).Harness).Hooks,l5⟩:TieHarness)⟩:BookTie)]:List BookTie),([(⟨(⟨[114,111,115,101]⟩:Str),t5⟩:BookChain)]:List BookChain)⟩:BookMill))
theorem en9:Enters Tryz.prog 9:=enters_of Tryz.func9 (by kernel_rfl) rfl
theorem wk9 {gI:Gh} {wI:World} {x0:FaultLoom} {up0:Value} (rp0:RV gI.m wI x0 up0) {r:BookMill} (h:f9 x0=some r):Fn Tryz.prog 9 #[up0] gI wI (fun m w v=>RV m w (r) v):=by
 unfold f9 at h
 refine fn_of_E Tryz.func9 rfl (Nat.le_of_ble_eq_true rfl) fun g0 hm hfr=>?_
 have rp0:RV g0.m wI x0 up0:=hm ▸ rp0
 show E _ 44 none _ _ _ _ _
 refine E_seq (E_region (EL_do .plain rfl (D_box (g:=g0) rfl rp0 fun g1 w1 p1 hs q1=>?_)))
 have hfr:=hfr.ext hs
 refine EL_do .plain rfl (D_allocOc (g:=g1) 2002 (⟨[],[]⟩:BookMill) Tryz.zeroValue50 (fun m w=>⟨_,(rep_two rep_nil rep_nil),rfl⟩) fun g2 w2 p2 hs b2 cb=>?_)
 have hfr:=hfr.stp hs
 have q1:=q1.stp hs
 have zB:OSF 2002 60200 0 g2 w2 90 50 ([]:List BookTie) p2:=cb.osf (by rfl)
 have cC:OSF 2002 60201 1 g2 w2 92 50 ([]:List BookChain) p2:=cb.osf (by rfl)
 clear cb
 refine EL_nil (thn_n (E_seq (E_region (EL_p (fPtr p1 2) (P_fieldAddr at_31_1 rfl (PT.ptr q1)) rfl ?_))))
 have q3:=PT_field (part_FaultLoom_1).1 q1
 refine EL_p (fPtr (fPtr p1 2) 0) (P_fieldAddr at_29_0 rfl (PT.ptr q3)) rfl ?_
 have q4:=PT_field (part_Design_0).1 q3
 refine EL_do .plain rfl (D_load (g:=g2) Tryz.isAgg3 Tryz.sizeOf3 rfl q4 fun v5 r5=>?_)
 obtain rfl:=RV_int.1 r5
 have r6:RV g2.m w2 (⟨((x0).Design).Hooks,[]⟩:ChainBelt) (.agg (setCh [[.int .i64 0],[.slice none 0 0]] [(0,.int .i64 (((x0).Design).Hooks))]).flatten.toArray):=RV_build rfl (rep_pair (rfl) (rep_last (rep_nil)))
 generalize dI:(Value.agg (setCh [[.int .i64 0],[.slice none 0 0]] [(0,.int .i64 (((x0).Design).Hooks))]).flatten.toArray)=v6 at r6
 refine EL_p v6 (dI ▸ P_build (vs:=[(0,.int .i64 (((x0).Design).Hooks))]) [[.int .i64 0],[.slice none 0 0]] lay_85 rfl rfl (.cons rfl .nil) ⟨⟨_,rfl,rfl⟩,trivial⟩) rfl ?_
 refine EL_do .plain rfl (D_allocOc (g:=g2) 2003 (⟨0,[]⟩:ChainBelt) Tryz.zeroValue85 (fun m w=>⟨_,(rep_two rep_int rep_nil),rfl⟩) fun g7 w7 p7 hs b7 cb=>?_)
 have hfr:=hfr.stp hs
 have q1:=q1.stp hs
 have zB:=zB.stp hs rfl
 have cC:=cC.stp hs rfl
 have b2:=b2.stp hs rfl
 have r6:=r6.stp hs
 have nK:OSF 2003 60301 1 g7 w7 87 85 ([]:List ChainCard) p7:=cb.osf (by rfl)
 clear cb
 refine EL_do .plain rfl (D_storeOc (g:=g7) (v:=v6) Tryz.sizeOf85 rfl b7 rfl r6 fun g8 w8 hs b8 cb=>?_)
 have kI:OSF 2003 60301 1 g8 w8 87 85 ([]:List ChainCard) p7:=cb.osf (by rw [← dI]; rfl)
 clear cb
 have hfr:=hfr.stp hs
 have q1:=q1.stp hs
 have zB:=zB.stp hs rfl
 have cC:=cC.stp hs rfl
 have b2:=b2.stp hs rfl
 refine EL_nil (thn_n ?_)
 obtain ⟨t5,hx,h⟩:=bsome h
 refine E_join (fun e w=>∃ (g:Gh) ,Fr gI wI g w∧e 1=p1∧PT g.m w (x0:FaultLoom) p1∧e 2=p2∧OB 2002 g w 50 ((⟨[],[]⟩:BookMill):BookMill) p2∧OSF 2002 60200 0 g w 90 50 (((⟨[],[]⟩:BookMill)).Ties) p2∧OSF 2002 60201 1 g w 92 50 (((⟨[],[]⟩:BookMill)).Chains) p2∧e 3=p7∧OB 2003 g w 85 (t5:ChainBelt) p7∧OSF 2003 60301 1 g w 87 85 ((t5).Cards) p7) (fun Q' hQ=>?_) (fun lK oK hR=>?_)
 ·replace h := hx
  clear hx
  refine E_seq (E_region (EL_at (.int .i64 (0)) rfl rfl ?_))
  refine EL_nil (thn_n (E_block ?_))
  refine E_lp h (fun (s:ChainBelt × Int) e w=>∃ (g:Gh) ,Fr gI wI g w∧e 1=p1∧PT g.m w (x0:FaultLoom) p1∧e 2=p2∧OB 2002 g w 50 ((⟨[],[]⟩:BookMill):BookMill) p2∧OSF 2002 60200 0 g w 90 50 (((⟨[],[]⟩:BookMill)).Ties) p2∧OSF 2002 60201 1 g w 92 50 (((⟨[],[]⟩:BookMill)).Chains) p2∧e 3=p7∧OB 2003 g w 85 (s.1:ChainBelt) p7∧OSF 2003 60301 1 g w 87 85 ((s.1).Cards) p7∧e 4=.int .i64 (s.2)) ⟨g8,hfr,rfl,q1,rfl,b2,zB,cC,rfl,b8,kI,rfl⟩ (fun X83 aI lI=>?_)
  rintro ⟨lB,o0⟩ pK gL ⟨dF,hfr,vC,yB,oE,rE,u2_0_84,u2_1_84,uE,vE,u3_1_84,xE⟩ h
  refine E_joinC h (fun (s:Unit) e w=>∃ (g:Gh) ,Fr gI wI g w∧e 1=p1∧PT g.m w (x0:FaultLoom) p1∧e 2=p2∧OB 2002 g w 50 ((⟨[],[]⟩:BookMill):BookMill) p2∧OSF 2002 60200 0 g w 90 50 (((⟨[],[]⟩:BookMill)).Ties) p2∧OSF 2002 60201 1 g w 92 50 (((⟨[],[]⟩:BookMill)).Chains) p2∧e 3=p7∧OB 2003 g w 85 (lB:ChainBelt) p7∧OSF 2003 60301 1 g w 87 85 ((lB).Cards) p7∧e 4=.int .i64 (o0)) (fun X89 bI mI h=>?_) ?_
  ·refine E_seq (E_region (EL_mv xE rfl ?_))
   refine EL_p (fPtr p1 2) (P_fieldAddr at_31_1 vC (PT.ptr yB)) rfl ?_
   have iI:=PT_field (part_FaultLoom_1).1 yB
   refine EL_p (fPtr (fPtr p1 2) 1) (P_fieldAddr at_29_1 rfl (PT.ptr iI)) rfl ?_
   have aK:=PT_field (part_Design_1).1 iI
   refine EL_do .plain rfl (D_load (g:=dF) Tryz.isAgg25 Tryz.sizeOf25 rfl aK fun iL bK=>?_)
   refine EL_p (.int .i64 ((((x0).Design).Rows).length:Int)) (P_len Tryz.underlying25 rfl bK) rfl ?_
   refine EL_p (.bool ((decide (o0 < ((((x0).Design).Rows).length:Int))))) (P_int rfl rfl rfl) rfl ?_
   refine EL_nil (thn_n ?_)
   rcases csome h with ⟨bE,h⟩ | ⟨bE,h⟩
   ·refine E_ct bE rfl ?_
    exact E_skip (thn_n (mI () _ _ ⟨dF,hfr,vC,yB,oE,rE,u2_0_84,u2_1_84,uE,vE,u3_1_84,xE⟩ h))
   ·refine E_cf bE rfl ?_
    refine E_exit ?_
    refine thn_e ?_
    refine thn_e ?_
    refine blk_hit ?_
    obtain rfl:=sinj h
    exact hQ _ _ ⟨dF,hfr,vC,yB,oE,rE,u2_0_84,u2_1_84,uE,vE,u3_1_84⟩
  ·rintro _ qK cK ⟨jI, hfr, yE, i6, lH, n8, u2_0_94, u2_1_94, bD, l8, u3_1_94, cD⟩ h
   obtain ⟨n9,hx,h⟩:=bsome h
   refine E_join (fun e w=>∃ (g:Gh) ,Fr gI wI g w∧e 1=p1∧PT g.m w (x0:FaultLoom) p1∧e 2=p2∧OB 2002 g w 50 ((⟨[],[]⟩:BookMill):BookMill) p2∧OSF 2002 60200 0 g w 90 50 (((⟨[],[]⟩:BookMill)).Ties) p2∧OSF 2002 60201 1 g w 92 50 (((⟨[],[]⟩:BookMill)).Chains) p2∧e 3=p7∧OB 2003 g w 85 (n9:ChainBelt) p7∧OSF 2003 60301 1 g w 87 85 ((n9).Cards) p7∧e 4=.int .i64 (o0)) (fun Q' hQ=>?_) (fun mK sK hR=>?_)
   ·replace h := hx
    clear hx
    refine E_block ?_
    refine L_loadFS (x:=.tmp 17) part_ChainBelt_1.1 Tryz.isAgg83 Tryz.sizeOf83 l8 u3_1_94 fun nI iE o126 mH=>?_
    have eF:=PT_field (part_FaultLoom_1).1 i6
    have pI:=PT_field (part_Design_1).1 eF
    refine L_load (x:=.tmp 21) Tryz.isAgg25 Tryz.sizeOf25 pI fun rF sF nH=>?_
    obtain ⟨y130,zE,h⟩:=bsome h
    have qI:=PT_idx sF zE
    refine L_load (x:=.tmp 24) Tryz.isAgg3 Tryz.sizeOf3 qI fun tK sI oH=>?_
    obtain rfl:=RV_int.1 sI
    have tF:RV jI.m cK (⟨o0,y130,false⟩:ChainCard) (.agg (setCh [[.int .i64 0],[.int .i64 0],[.bool false]] [(0,.int .i64 (o0)),(1,.int .i64 (y130))]).flatten.toArray):=RV_build rfl (rep_pair (rfl) (rep_pair (rfl) (rep_last (rep_bool))))
    generalize pH:(Value.agg (setCh [[.int .i64 0],[.int .i64 0],[.bool false]] [(0,.int .i64 (o0)),(1,.int .i64 (y130))]).flatten.toArray)=uF at tF
    refine E_drawL (g:=jI) (n:=11) [(10,(fun v g w=>RV g.m w ([(⟨o0,y130,false⟩:ChainCard)]:List ChainCard) v∧OS 3027 g w 87 ([(⟨o0,y130,false⟩:ChainCard)]:List ChainCard) v∧FullV v))] [0,1,2,3,4,5,6,7,8,9,10] rfl mixed (by kernel_rfl) (⟨fun _=>up_and up_rv (up_and up_os (up_eq _)),trivial⟩) ?_
    refine L_p (fPtr p7 1) rfl rfl (P_fieldAddr at_85_1 bD (OB.ptr l8)) ?_
    refine L_ld (c:=nI) rfl rfl .plain (fun _ _ h=>⟨h.ch,fun b hb _=>h.below.block b hb⟩) mH rfl ?_
    refine L_p (.int .i64 (o0)) rfl rfl (P_move cD) ?_
    refine L_p (fPtr p1 2) rfl rfl (P_fieldAddr at_31_1 yE (PT.ptr i6)) ?_
    refine L_p (fPtr (fPtr p1 2) 1) rfl rfl (P_fieldAddr at_29_1 rfl (PT.ptr eF)) ?_
    refine L_ld (c:=rF) rfl rfl .plain (fun _ _ h=>h.ch) nH rfl ?_
    refine L_p (.int .i64 (o0)) rfl rfl (P_move cD) ?_
    refine L_p (ePtr rF o0 1) rfl rfl (P_indexAddr (α:=Int) Tryz.underlying25 Tryz.sizeOf3 rfl sF rfl zE) ?_
    refine L_ld (c:=.int .i64 (y130)) rfl rfl .plain (fun _ _ h=>h.ch) oH rfl ?_
    refine L_p uF rfl rfl (pH ▸ P_build (vs:=[(0,.int .i64 (o0)),(1,.int .i64 (y130))]) [[.int .i64 0],[.int .i64 0],[.bool false]] lay_87 rfl rfl (.cons rfl (.cons rfl .nil)) ⟨⟨_,rfl,rfl⟩,⟨⟨_,rfl,rfl⟩,trivial⟩⟩) ?_
    refine L_do (φ:=fun v g w=>RV g.m w ([(⟨o0,y130,false⟩:ChainCard)]:List ChainCard) v∧OS 3027 g w 87 ([(⟨o0,y130,false⟩:ChainCard)]:List ChainCard) v∧FullV v) rfl rfl .plain (fun g w hd=>D_buildSlice (g:=g) 3027 (xs:=([(⟨o0,y130,false⟩:ChainCard)]:List ChainCard)) (vs:=[uF]) Tryz.underlying83 Tryz.sizeOf87 Tryz.zeroValue87 rfl rfl (.cons rfl .nil) (RVs.cons (tF.ext hd.1) RVs.nil) rfl rfl fun g' w' v hs o r hxt hfl=>⟨g',hxt,r,o,hfl⟩) (fun vB hv=>?_)
    clear hv
    refine L_nil fun jJ uK hall=>?_
    have hs:=hall.1
    have hfr:=hfr.ext hs
    have i6:=i6.ext hs
    have u2_0_94:=u2_0_94.ext hs
    have u2_1_94:=u2_1_94.ext hs
    have n8:=n8.ext hs
    have l8:=l8.ext hs
    have iE:=iE.ext hs
    have o126:=o126.ext hs
    have kJ:=(word_all (A:=fun g w=>RV g.m w ([(⟨o0,y130,false⟩:ChainCard)]:List ChainCard) vB∧OS 3027 g w 87 ([(⟨o0,y130,false⟩:ChainCard)]:List ChainCard) vB∧FullV vB) 10 rfl hall).1
    have o150:=(word_all (A:=fun g w=>RV g.m w ([(⟨o0,y130,false⟩:ChainCard)]:List ChainCard) vB∧OS 3027 g w 87 ([(⟨o0,y130,false⟩:ChainCard)]:List ChainCard) vB∧FullV vB) 10 rfl hall).2.1
    clear hs hall
    obtain ⟨aE,qH,h⟩:=bsome h
    refine EL_do .plain rfl (D_append (g:=jJ) (i:=60301) Tryz.underlying83 info_87 rfl rfl o126 iE rfl kJ qH fun lJ vK xK hs o151 vF _=>?_)
    have hfr:=hfr.stp hs
    have i6:=i6.stp hs
    have u2_0_94:=u2_0_94.stp hs rfl
    have u2_1_94:=u2_1_94.stp hs rfl
    have n8:=n8.stp hs rfl
    have l8:=l8.stp hs rfl
    refine EL_p (fPtr p7 1) (P_fieldAddr at_85_1 bD (OB.ptr l8)) rfl ?_
    refine EL_do .plain rfl (D_storeFc (g:=lJ) part_ChainBelt_1 Tryz.sizeOf83 rfl l8 rfl vF fun mJ yK hs b154 rst hos=>?_)
    have xF:=hos _ _ 60301 87 (aE:List ChainCard) (rv_cells1 vF) rfl o151
    clear rst hos
    have hfr:=hfr.stp hs
    have i6:=i6.stp hs
    have u2_0_94:=u2_0_94.stp hs rfl
    have u2_1_94:=u2_1_94.stp hs rfl
    have n8:=n8.stp hs rfl
    refine EL_nil (blk_n ?_)
    obtain rfl:=sinj h
    exact hQ _ _ ⟨mJ,hfr,yE,i6,lH,n8,u2_0_94,u2_1_94,bD,b154,xF,cD⟩
   ·clear hx
    obtain ⟨nJ,hfr,yF,aG,bG,cG,u2_0_155,u2_1_155,eG,gG,u3_1_155,iG⟩:=hR
    refine E_region (EL_mv iG rfl ?_)
    refine EL_in (.int .i64 ((w64 (o0 + (1:Int))))) rfl rfl rfl rfl ?_
    refine EL_at (.int .i64 ((w64 (o0 + (1:Int))))) rfl rfl ?_
    exact EL_nil (thn_n (lI (n9,(w64 (o0 + (1:Int)))) _ _ ⟨nJ,hfr,yF,aG,bG,cG,u2_0_155,u2_1_155,eG,gG,u3_1_155,rfl⟩ h))
 ·clear hx
  obtain ⟨jG,hfr,yD,nB,zD,uC,u2_0_156,u2_1_156,kG,lG,u3_1_156⟩:=hR
  refine E_seq ?_
  have mG:=PT_field (part_FaultLoom_0).1 nB
  have oJ:=PT_field (part_TieHarness_0).1 mG
  refine L_load (x:=.tmp 31) Tryz.isAgg3 Tryz.sizeOf3 oJ fun zK pJ sH=>?_
  obtain rfl:=RV_int.1 pJ
  have sG:=PT_field (part_FaultLoom_0).1 nB
  have qJ:=PT_field (part_TieHarness_1).1 sG
  refine L_load (x:=.tmp 34) Tryz.isAgg25 Tryz.sizeOf25 qJ fun xG rJ tH=>?_
  obtain ⟨l5,uH,h⟩:=bsome h
  refine L_loadO0 (x:=.tmp 3) Tryz.isAgg85 Tryz.sizeOf85 lG fun lD yG xH=>?_
  have zG:RV jG.m _ (⟨(⟨[114,111,115,101]⟩:Str),t5⟩:BookChain) (.agg (setCh [[Str.v ⟨[]⟩],[.int .i64 0,.slice none 0 0]] [(0,Str.v (⟨[114,111,115,101]⟩:Str)),(1,lD)]).flatten.toArray):=RV_build rfl (rep_pair (rfl) (rep_last (RV.cells yG)))
  generalize yH:(Value.agg (setCh [[Str.v ⟨[]⟩],[.int .i64 0,.slice none 0 0]] [(0,Str.v (⟨[114,111,115,101]⟩:Str)),(1,lD)]).flatten.toArray)=aH at zG
  refine E_drawL (g:=jG) (n:=13) [(6,(fun v g w=>RV g.m w l5 v)),(9,(fun v g w=>RV g.m w ([(⟨(⟨[108,105,108,121]⟩:Str),(⟨((x0).Harness).Hooks,l5⟩:TieHarness)⟩:BookTie)]:List BookTie) v∧OS 3039 g w 90 ([(⟨(⟨[108,105,108,121]⟩:Str),(⟨((x0).Harness).Hooks,l5⟩:TieHarness)⟩:BookTie)]:List BookTie) v∧FullV v)),(12,(fun v g w=>RV g.m w ([(⟨(⟨[114,111,115,101]⟩:Str),t5⟩:BookChain)]:List BookChain) v∧OS 3042 g w 92 ([(⟨(⟨[114,111,115,101]⟩:Str),t5⟩:BookChain)]:List BookChain) v∧FullV v))] [0,1,2,3,4,5,6,7,8,9,10,11,12] rfl mixed (by kernel_rfl) (⟨fun _=>up_rv,fun _=>up_and up_rv (up_and up_os (up_eq _)),fun _=>up_and up_rv (up_and up_os (up_eq _)),trivial⟩) ?_
  refine L_p (fPtr p1 0) rfl rfl (P_fieldAddr at_31_0 yD (PT.ptr nB)) ?_
  refine L_p (fPtr (fPtr p1 0) 0) rfl rfl (P_fieldAddr at_27_0 rfl (PT.ptr mG)) ?_
  refine L_ld (c:=.int .i64 (((x0).Harness).Hooks)) rfl rfl .plain (fun _ _ h=>h.ch) sH rfl ?_
  refine L_p (fPtr p1 0) rfl rfl (P_fieldAddr at_31_0 yD (PT.ptr nB)) ?_
  refine L_p (fPtr (fPtr p1 0) 1) rfl rfl (P_fieldAddr at_27_1 rfl (PT.ptr sG)) ?_
  refine L_ld (c:=xG) rfl rfl .plain (fun _ _ h=>h.ch) tH rfl ?_
  refine L_do (φ:=fun v g w=>RV g.m w l5 v) rfl rfl .plain (fun g w hd=>D_call (g:=g) (vs:=[xG]) en21 (.cons rfl .nil) (wk21 (rJ.ext hd.1) uH) fun g' w' v hs hr=>⟨g',hs,hr⟩) (fun aB hv=>?_)
  obtain ⟨_,_,_,rq163⟩:=hv
  apply Exists.elim (show ∃ v,v=(Value.agg (setCh [[.int .i64 0],[.slice none 0 0]] [(0,.int .i64 (((x0).Harness).Hooks)),(1,aB)]).flatten.toArray) from ⟨_,rfl⟩)
  intro mB oB
  refine L_pur (c:=mB) rfl rfl .plain (fun _ _ hd=>oB ▸ P_build (vs:=[(0,.int .i64 (((x0).Harness).Hooks)),(1,aB)]) [[.int .i64 0],[.slice none 0 0]] lay_27 rfl rfl (.cons rfl (.cons rfl .nil)) ⟨⟨_,rfl,rfl⟩,⟨⟨_,rfl,cells_size (word (A:=fun g w=>RV g.m w l5 aB) 6 rfl rfl (deps_of hd))⟩,trivial⟩⟩) ?_
  apply Exists.elim (show ∃ v,v=(Value.agg (setCh [[Str.v ⟨[]⟩],[.int .i64 0,.slice none 0 0]] [(0,Str.v (⟨[108,105,108,121]⟩:Str)),(1,mB)]).flatten.toArray) from ⟨_,rfl⟩)
  intro nD oD
  refine L_pur (c:=nD) rfl rfl .plain (fun _ _ hd=>oD ▸ P_build (vs:=[(0,Str.v (⟨[108,105,108,121]⟩:Str)),(1,mB)]) [[Str.v ⟨[]⟩],[.int .i64 0,.slice none 0 0]] lay_90 rfl rfl (.cons rfl (.cons rfl .nil)) ⟨⟨_,rfl,rfl⟩,⟨⟨_,rfl,cells_size (show RV _ _ (⟨((x0).Harness).Hooks,l5⟩:TieHarness) mB from oB ▸ RV_build rfl (rep_pair (rfl) (rep_last (RV.cells (word (A:=fun g w=>RV g.m w l5 aB) 6 rfl rfl (hop 7 rfl rfl (deps_of hd)))))))⟩,trivial⟩⟩) ?_
  refine L_do (φ:=fun v g w=>RV g.m w ([(⟨(⟨[108,105,108,121]⟩:Str),(⟨((x0).Harness).Hooks,l5⟩:TieHarness)⟩:BookTie)]:List BookTie) v∧OS 3039 g w 90 ([(⟨(⟨[108,105,108,121]⟩:Str),(⟨((x0).Harness).Hooks,l5⟩:TieHarness)⟩:BookTie)]:List BookTie) v∧FullV v) rfl rfl .plain (fun g w hd=>D_buildSlice (g:=g) 3039 (xs:=([(⟨(⟨[108,105,108,121]⟩:Str),(⟨((x0).Harness).Hooks,l5⟩:TieHarness)⟩:BookTie)]:List BookTie)) (vs:=[nD]) Tryz.underlying47 Tryz.sizeOf90 Tryz.zeroValue90 rfl rfl (.cons rfl .nil) (RVs.cons (show RV _ _ (⟨(⟨[108,105,108,121]⟩:Str),(⟨((x0).Harness).Hooks,l5⟩:TieHarness)⟩:BookTie) nD from oD ▸ RV_build rfl (rep_pair (rfl) (rep_last (RV.cells (show RV _ _ (⟨((x0).Harness).Hooks,l5⟩:TieHarness) mB from oB ▸ RV_build rfl (rep_pair (rfl) (rep_last (RV.cells (word (A:=fun g w=>RV g.m w l5 aB) 6 rfl rfl (hop 7 rfl rfl (hop 8 rfl rfl (deps_of hd)))))))))))) RVs.nil) rfl rfl fun g' w' v hs o r hxt hfl=>⟨g',hxt,r,o,hfl⟩) (fun v8 hv=>?_)
  clear hv
  refine L_ld (c:=lD) rfl rfl .plain (fun _ _ h=>⟨h.ch,fun b hb _=>h.below.block b hb⟩) xH kG ?_
  refine L_p aH rfl rfl (yH ▸ P_build (vs:=[(0,Str.v (⟨[114,111,115,101]⟩:Str)),(1,lD)]) [[Str.v ⟨[]⟩],[.int .i64 0,.slice none 0 0]] lay_92 rfl rfl (.cons rfl (.cons rfl .nil)) ⟨⟨_,rfl,rfl⟩,⟨⟨_,rfl,cells_size yG⟩,trivial⟩⟩) ?_
  refine L_do (φ:=fun v g w=>RV g.m w ([(⟨(⟨[114,111,115,101]⟩:Str),t5⟩:BookChain)]:List BookChain) v∧OS 3042 g w 92 ([(⟨(⟨[114,111,115,101]⟩:Str),t5⟩:BookChain)]:List BookChain) v∧FullV v) rfl rfl .plain (fun g w hd=>D_buildSlice (g:=g) 3042 (xs:=([(⟨(⟨[114,111,115,101]⟩:Str),t5⟩:BookChain)]:List BookChain)) (vs:=[aH]) Tryz.underlying48 Tryz.sizeOf92 Tryz.zeroValue92 rfl rfl (.cons rfl .nil) (RVs.cons (zG.ext hd.1) RVs.nil) rfl rfl fun g' w' v hs o r hxt hfl=>⟨g',hxt,r,o,hfl⟩) (fun l9 hv=>?_)
  clear hv
  refine L_nil fun cH aL hall=>?_
  have hs:=hall.1
  have hfr:=hfr.ext hs
  have uC:=uC.ext hs
  have bL:=(word_all (A:=fun g w=>RV g.m w l5 aB) 6 rfl hall)
  have dL:=(show RV _ _ (⟨((x0).Harness).Hooks,l5⟩:TieHarness) mB from oB ▸ RV_build rfl (rep_pair (rfl) (rep_last (RV.cells (word_all (A:=fun g w=>RV g.m w l5 aB) 6 rfl hall)))))
  have eL:=(show RV _ _ (⟨(⟨[108,105,108,121]⟩:Str),(⟨((x0).Harness).Hooks,l5⟩:TieHarness)⟩:BookTie) nD from oD ▸ RV_build rfl (rep_pair (rfl) (rep_last (RV.cells (show RV _ _ (⟨((x0).Harness).Hooks,l5⟩:TieHarness) mB from oB ▸ RV_build rfl (rep_pair (rfl) (rep_last (RV.cells (word_all (A:=fun g w=>RV g.m w l5 aB) 6 rfl hall)))))))))
  have lE:=(word_all (A:=fun g w=>RV g.m w ([(⟨(⟨[108,105,108,121]⟩:Str),(⟨((x0).Harness).Hooks,l5⟩:TieHarness)⟩:BookTie)]:List BookTie) v8∧OS 3039 g w 90 ([(⟨(⟨[108,105,108,121]⟩:Str),(⟨((x0).Harness).Hooks,l5⟩:TieHarness)⟩:BookTie)]:List BookTie) v8∧FullV v8) 9 rfl hall).1
  have o184:=(word_all (A:=fun g w=>RV g.m w ([(⟨(⟨[108,105,108,121]⟩:Str),(⟨((x0).Harness).Hooks,l5⟩:TieHarness)⟩:BookTie)]:List BookTie) v8∧OS 3039 g w 90 ([(⟨(⟨[108,105,108,121]⟩:Str),(⟨((x0).Harness).Hooks,l5⟩:TieHarness)⟩:BookTie)]:List BookTie) v8∧FullV v8) 9 rfl hall).2.1
  have gH:=(word_all (A:=fun g w=>RV g.m w ([(⟨(⟨[114,111,115,101]⟩:Str),t5⟩:BookChain)]:List BookChain) l9∧OS 3042 g w 92 ([(⟨(⟨[114,111,115,101]⟩:Str),t5⟩:BookChain)]:List BookChain) l9∧FullV l9) 12 rfl hall).1
  have o187:=(word_all (A:=fun g w=>RV g.m w ([(⟨(⟨[114,111,115,101]⟩:Str),t5⟩:BookChain)]:List BookChain) l9∧OS 3042 g w 92 ([(⟨(⟨[114,111,115,101]⟩:Str),t5⟩:BookChain)]:List BookChain) l9∧FullV l9) 12 rfl hall).2.1
  clear hs hall
  have jH:RV cH.m _ (⟨([(⟨(⟨[108,105,108,121]⟩:Str),(⟨((x0).Harness).Hooks,l5⟩:TieHarness)⟩:BookTie)]:List BookTie),([(⟨(⟨[114,111,115,101]⟩:Str),t5⟩:BookChain)]:List BookChain)⟩:BookMill) (.agg (setCh [[.slice none 0 0],[.slice none 0 0]] [(0,v8),(1,l9)]).flatten.toArray):=RV_build rfl (rep_pair (RV.cells lE) (rep_last (RV.cells gH)))
  generalize cF:(Value.agg (setCh [[.slice none 0 0],[.slice none 0 0]] [(0,v8),(1,l9)]).flatten.toArray)=kH at jH
  refine EL_p kH (cF ▸ P_build (vs:=[(0,v8),(1,l9)]) [[.slice none 0 0],[.slice none 0 0]] lay_50 rfl rfl (.cons rfl (.cons rfl .nil)) ⟨⟨_,rfl,cells_size lE⟩,⟨⟨_,rfl,cells_size gH⟩,trivial⟩⟩) rfl ?_
  refine EL_do .plain rfl (D_storeOc (g:=cH) (v:=kH) Tryz.sizeOf50 zD uC rfl jH fun sJ vJ hs b189 cb=>?_)
  obtain ⟨xJ,zJ,mE,_,_⟩:=RV_list lE
  have dK:OSF 2002 3039 0 sJ vJ 90 50 (([(⟨(⟨[108,105,108,121]⟩:Str),(⟨((x0).Harness).Hooks,l5⟩:TieHarness)⟩:BookTie)]:List BookTie):List BookTie) p2:=cb.osfv (by rw [← cF,mE]; rfl) (o184.stp hs rfl)
  clear cb
  have hfr:=hfr.stp hs
  refine EL_nil (thn_n (E_ret ?_))
  obtain rfl:=sinj h
  obtain ⟨ad190,cv190,hp190,zH,cr190⟩:=ob_read Tryz.isAgg50 Tryz.sizeOf50 b189
  exact endm_c rfl rfl ((show _=p2 from zD).trans hp190) zH ⟨_,hfr,cr190⟩
def f25 (x0:BeamTake):Option (BeamRatio):=
 Option.bind (α:=BeamRatio) (
  lp (σ:=BeamRatio × Int) (fun yE (o0,t5)=>
   bif (decide (t5 < (((x0).Pairs).length : Int))) then
    Option.bind (α:=BeamRatio) (
     (idx ((x0).Pairs) t5).bind fun n9=>
     some ({ { o0 with Ratio:={ (o0).Ratio with Num:=(w64 (((o0).Ratio).Num * (n9).Driver)) } } with Ratio:={ ({ o0 with Ratio:={ (o0).Ratio with Num:=(w64 (((o0).Ratio).Num * (n9).Driver)) } }).Ratio with Den:=(w64 ((({ o0 with Ratio:={ (o0).Ratio with Num:=(w64 (((o0).Ratio).Num * (n9).Driver)) } }).Ratio).Den * (n9).Driven)) } })
     ) fun l9=>
    yE (l9,(w64 (t5 + (1:Int))))
   else
    some (o0)
   ) big ((⟨(⟨(w64 ((x0).Round * (x0).Step)),(x0).Ratchet⟩:Ratio)⟩:BeamRatio),(0:Int))
  ) fun aB=>
 (f58 aB).bind fun nD=>
 some (nD)
theorem en25:Enters Tryz.prog 25:=enters_of Tryz.func25 (by kernel_rfl) rfl
theorem wk25 {gI:Gh} {wI:World} {x0:BeamTake} {up0:Value} (rp0:RV gI.m wI x0 up0) {r:BeamRatio} (h:f25 x0=some r):Fn Tryz.prog 25 #[up0] gI wI (fun m w v=>RV m w (r) v):=by
 unfold f25 at h
 refine fn_of_E Tryz.func25 rfl (Nat.le_of_ble_eq_true rfl) fun g0 hm hfr=>?_
 have rp0:RV g0.m wI x0 up0:=hm ▸ rp0
 show E _ 41 none _ _ _ _ _
 refine E_seq (E_region (EL_do .plain rfl (D_box (g:=g0) rfl rp0 fun g1 w1 p1 hs q1=>?_)))
 have hfr:=hfr.ext hs
 refine EL_do .plain rfl (D_allocOc (g:=g1) 2002 (⟨⟨0,0⟩⟩:BeamRatio) Tryz.zeroValue99 (fun m w=>⟨_,(rep_two rep_int rep_int),rfl⟩) fun g2 w2 p2 hs b2 cb=>?_)
 have hfr:=hfr.stp hs
 have q1:=q1.stp hs
 clear cb
 refine EL_nil (thn_n (E_seq (E_region (EL_p (fPtr p1 3) (P_fieldAddr at_37_3 rfl (PT.ptr q1)) rfl ?_))))
 have q3:=PT_field (part_BeamTake_3).1 q1
 refine EL_do .plain rfl (D_load (g:=g2) Tryz.isAgg3 Tryz.sizeOf3 rfl q3 fun v4 r4=>?_)
 obtain rfl:=RV_int.1 r4
 refine EL_p (fPtr p1 1) (P_fieldAddr at_37_1 rfl (PT.ptr q1)) rfl ?_
 have q5:=PT_field (part_BeamTake_1).1 q1
 refine EL_do .plain rfl (D_load (g:=g2) Tryz.isAgg3 Tryz.sizeOf3 rfl q5 fun v6 r6=>?_)
 obtain rfl:=RV_int.1 r6
 refine EL_in (.int .i64 ((w64 ((x0).Round * (x0).Step)))) rfl rfl rfl rfl ?_
 refine EL_p (fPtr p1 0) (P_fieldAddr at_37_0 rfl (PT.ptr q1)) rfl ?_
 have q7:=PT_field (part_BeamTake_0).1 q1
 refine EL_do .plain rfl (D_load (g:=g2) Tryz.isAgg3 Tryz.sizeOf3 rfl q7 fun v8 r8=>?_)
 obtain rfl:=RV_int.1 r8
 have r9:RV g2.m w2 (⟨(w64 ((x0).Round * (x0).Step)),(x0).Ratchet⟩:Ratio) (.agg (setCh [[.int .i64 0],[.int .i64 0]] [(0,.int .i64 ((w64 ((x0).Round * (x0).Step)))),(1,.int .i64 ((x0).Ratchet))]).flatten.toArray):=RV_build rfl (rep_pair (rfl) (rep_last (rfl)))
 generalize gG:(Value.agg (setCh [[.int .i64 0],[.int .i64 0]] [(0,.int .i64 ((w64 ((x0).Round * (x0).Step)))),(1,.int .i64 ((x0).Ratchet))]).flatten.toArray)=v9 at r9
 refine EL_p v9 (gG ▸ P_build (vs:=[(0,.int .i64 ((w64 ((x0).Round * (x0).Step)))),(1,.int .i64 ((x0).Ratchet))]) [[.int .i64 0],[.int .i64 0]] lay_97 rfl rfl (.cons rfl (.cons rfl .nil)) ⟨⟨_,rfl,rfl⟩,⟨⟨_,rfl,rfl⟩,trivial⟩⟩) rfl ?_
 have cC:RV g2.m _ (⟨(⟨(w64 ((x0).Round * (x0).Step)),(x0).Ratchet⟩:Ratio)⟩:BeamRatio) (.agg (setCh [[.int .i64 0,.int .i64 0]] [(0,v9)]).flatten.toArray):=RV_build rfl (rep_last (RV.cells r9))
 generalize rF:(Value.agg (setCh [[.int .i64 0,.int .i64 0]] [(0,v9)]).flatten.toArray)=zE at cC
 refine EL_p zE (rF ▸ P_build (vs:=[(0,v9)]) [[.int .i64 0,.int .i64 0]] lay_99 rfl rfl (.cons rfl .nil) ⟨⟨_,rfl,cells_size r9⟩,trivial⟩) rfl ?_
 refine EL_do .plain rfl (D_allocOc (g:=g2) 2003 (⟨⟨0,0⟩⟩:BeamRatio) Tryz.zeroValue99 (fun m w=>⟨_,(rep_two rep_int rep_int),rfl⟩) fun iG qH l8 hs b11 cb=>?_)
 have hfr:=hfr.stp hs
 have q1:=q1.stp hs
 have b2:=b2.stp hs rfl
 have cC:=cC.stp hs
 clear cb
 refine EL_do .plain rfl (D_storeOc (g:=iG) (v:=zE) Tryz.sizeOf99 rfl b11 rfl cC fun cF sH hs b12 cb=>?_)
 clear cb
 have hfr:=hfr.stp hs
 have q1:=q1.stp hs
 have b2:=b2.stp hs rfl
 refine EL_nil (thn_n ?_)
 obtain ⟨aB,hx,h⟩:=bsome h
 refine E_join (fun e w=>∃ (g:Gh) ,Fr gI wI g w∧e 2=p2∧OB 2002 g w 99 ((⟨⟨0,0⟩⟩:BeamRatio):BeamRatio) p2∧e 3=l8∧OB 2003 g w 99 (aB:BeamRatio) l8) (fun Q' hQ=>?_) (fun yG cH hR=>?_)
 ·replace h := hx
  clear hx
  refine E_seq (E_region (EL_p (fPtr p1 2) (P_fieldAddr at_37_2 rfl (PT.ptr q1)) rfl ?_))
  have jG:=PT_field (part_BeamTake_2).1 q1
  refine EL_do .plain rfl (D_load (g:=cF) Tryz.isAgg35 Tryz.sizeOf35 rfl jG fun v62 dF=>?_)
  refine EL_p (.int .i64 (((x0).Pairs).length:Int)) (P_len Tryz.underlying35 rfl dF) rfl ?_
  refine EL_mw (.int .i64 (0)) rfl rfl ?_
  refine EL_nil (thn_n (E_block ?_))
  refine E_lp h (fun (s:BeamRatio × Int) e w=>∃ (g:Gh) ,Fr gI wI g w∧e 2=p2∧OB 2002 g w 99 ((⟨⟨0,0⟩⟩:BeamRatio):BeamRatio) p2∧e 3=l8∧OB 2003 g w 99 (s.1:BeamRatio) l8∧e 16=v62∧RV g.m w ((x0).Pairs:List BeamPair) v62∧e 17=.int .i64 ((((x0).Pairs).length:Int))∧e 18=.int .i64 (s.2)) ⟨cF,hfr,rfl,b2,rfl,b12,rfl,dF,rfl,rfl⟩ (fun X63 yE sF=>?_)
  rintro ⟨o0,t5⟩ gH tH ⟨oD,hfr,uC,g8,n8,i6,nB,l5,oB,lB⟩ h
  refine E_seq (E_region (EL_p (.bool ((decide (t5 < (((x0).Pairs).length:Int))))) (P_int lB oB rfl) rfl ?_))
  refine EL_nil (thn_n (E_seq ?_))
  rcases csome h with ⟨yB,h⟩ | ⟨yB,h⟩
  ·refine E_ct yB rfl ?_
   refine E_skip (thn_n ?_)
   obtain ⟨l9,hx,h⟩:=bsome h
   refine E_join (fun e w=>∃ (g:Gh) ,Fr gI wI g w∧e 2=p2∧OB 2002 g w 99 ((⟨⟨0,0⟩⟩:BeamRatio):BeamRatio) p2∧e 3=l8∧OB 2003 g w 99 (l9:BeamRatio) l8∧e 16=v62∧RV g.m w ((x0).Pairs:List BeamPair) v62∧e 17=.int .i64 ((((x0).Pairs).length:Int))∧e 18=.int .i64 (t5)) (fun Q' hQ=>?_) (fun zG jH hR=>?_)
   ·replace h := hx
    clear hx
    refine E_block ?_
    refine E_seq (E_region ?_)
    obtain ⟨n9,yD,h⟩:=bsome h
    refine EL_p (ePtr v62 t5 2) (P_indexAddr (α:=BeamPair) Tryz.underlying35 Tryz.sizeOf69 nB l5 lB yD) rfl ?_
    have kG:=PT_idx l5 yD
    refine EL_do .plain rfl (D_load (g:=oD) Tryz.isAgg69 Tryz.sizeOf69 rfl kG fun lG zD=>?_)
    refine EL_do .plain rfl (D_allocOc (g:=oD) 2005 (⟨0,0⟩:BeamPair) Tryz.zeroValue69 (fun m w=>⟨_,(rep_two rep_int rep_int),rfl⟩) fun mG uH eF hs b91 cb=>?_)
    have hfr:=hfr.stp hs
    have g8:=g8.stp hs rfl
    have i6:=i6.stp hs rfl
    have l5:=l5.stp hs
    have zD:=zD.stp hs
    clear cb
    refine EL_do .plain rfl (D_storeOc (g:=mG) (v:=lG) Tryz.sizeOf69 rfl b91 rfl zD fun aE xH hs b92 cb=>?_)
    clear cb
    have hfr:=hfr.stp hs
    have g8:=g8.stp hs rfl
    have i6:=i6.stp hs rfl
    have l5:=l5.stp hs
    refine EL_nil (thn_n (E_seq (E_region (EL_p (fPtr l8 0) (P_fieldAddr at_99_0 n8 (OB.ptr i6)) rfl ?_))))
    refine EL_p (fPtr l8 0) (P_fieldAddr2 (o1:=0) rfl at_97_0 rfl (OB.ptr i6)) rfl ?_
    refine EL_do .plain rfl (D_loadF (g:=aE) (SubS.comp part_BeamRatio_0 part_Ratio_0 rfl).1 Tryz.isAgg3 Tryz.sizeOf3 rfl i6 fun yH sG=>?_)
    obtain rfl:=RV_int.1 sG
    refine EL_p (fPtr eF 0) (P_fieldAddr at_69_0 rfl (OB.ptr b92)) rfl ?_
    refine EL_do .plain rfl (D_loadF (g:=aE) part_BeamPair_0.1 Tryz.isAgg3 Tryz.sizeOf3 rfl b92 fun zH xG=>?_)
    obtain rfl:=RV_int.1 xG
    refine EL_in (.int .i64 ((w64 (((o0).Ratio).Num * (n9).Driver)))) rfl rfl rfl rfl ?_
    refine EL_p (fPtr l8 0) (P_fieldAddr at_99_0 n8 (OB.ptr i6)) rfl ?_
    refine EL_p (fPtr l8 0) (P_fieldAddr2 (o1:=0) rfl at_97_0 rfl (OB.ptr i6)) rfl ?_
    refine EL_do .plain rfl (D_storeFc (g:=aE) (SubS.comp part_BeamRatio_0 part_Ratio_0 rfl) Tryz.sizeOf3 rfl i6 rfl (RV_int.2 rfl) fun zB kH hs b100 rst hos=>?_)
    clear rst hos
    have hfr:=hfr.stp hs
    have g8:=g8.stp hs rfl
    have l5:=l5.stp hs
    have b92:=b92.stp hs rfl
    refine EL_nil (thn_n (E_region (EL_p (fPtr l8 0) (P_fieldAddr at_99_0 n8 (OB.ptr b100)) rfl ?_)))
    refine EL_p (fPtr l8 1) (P_fieldAddr2 (o1:=0) rfl at_97_1 rfl (OB.ptr b100)) rfl ?_
    refine EL_do .plain rfl (D_loadF (g:=zB) (SubS.comp part_BeamRatio_0 part_Ratio_1 rfl).1 Tryz.isAgg3 Tryz.sizeOf3 rfl b100 fun lH tF=>?_)
    obtain rfl:=RV_int.1 tF
    refine EL_p (fPtr eF 1) (P_fieldAddr at_69_1 rfl (OB.ptr b92)) rfl ?_
    refine EL_do .plain rfl (D_loadF (g:=zB) part_BeamPair_1.1 Tryz.isAgg3 Tryz.sizeOf3 rfl b92 fun mH uF=>?_)
    obtain rfl:=RV_int.1 uF
    refine EL_p (.int .i64 ((w64 ((({ o0 with Ratio:={ (o0).Ratio with Num:=(w64 (((o0).Ratio).Num * (n9).Driver)) } }).Ratio).Den * (n9).Driven)))) (P_int rfl rfl rfl) rfl ?_
    refine EL_p (fPtr l8 0) (P_fieldAddr at_99_0 n8 (OB.ptr b100)) rfl ?_
    refine EL_p (fPtr l8 1) (P_fieldAddr2 (o1:=0) rfl at_97_1 rfl (OB.ptr b100)) rfl ?_
    refine EL_do .plain rfl (D_storeFc (g:=zB) (SubS.comp part_BeamRatio_0 part_Ratio_1 rfl) Tryz.sizeOf3 rfl b100 rfl (RV_int.2 rfl) fun vF nH hs b108 rst hos=>?_)
    clear rst hos
    have hfr:=hfr.stp hs
    have g8:=g8.stp hs rfl
    have l5:=l5.stp hs
    refine EL_nil (blk_n ?_)
    obtain rfl:=sinj h
    exact hQ _ _ ⟨vF,hfr,uC,g8,n8,b108,nB,l5,oB,lB⟩
   ·clear hx
    obtain ⟨xF,hfr,bE,iE,lE,mE,vC,bD,cD,lD⟩:=hR
    refine E_region (EL_in (.int .i64 ((w64 (t5 + (1:Int))))) lD rfl rfl rfl ?_)
    refine EL_mw (.int .i64 ((w64 (t5 + (1:Int))))) rfl rfl ?_
    exact EL_nil (thn_n (sF (l9,(w64 (t5 + (1:Int)))) _ _ ⟨xF,hfr,bE,iE,lE,mE,vC,bD,cD,rfl⟩ h))
  ·refine E_cf yB rfl ?_
   refine E_exit ?_
   refine thn_e ?_
   refine thn_e ?_
   refine blk_hit ?_
   obtain rfl:=sinj h
   exact hQ _ _ ⟨oD,hfr,uC,g8,n8,i6⟩
 ·clear hx
  obtain ⟨oE,hfr,vB,mB,rE,uE⟩:=hR
  refine E_seq (E_region (EL_do .plain rfl (D_loadO (g:=oE) Tryz.isAgg99 Tryz.sizeOf99 rE uE fun yF aG=>?_)))
  obtain ⟨nD,vE,h⟩:=bsome h
  refine EL_do .plain rfl (D_call (g:=oE) (vs:=[yF]) en58 (.cons rfl .nil) (wk58 aG vE) fun bG aH cG hs hr=>?_)
  have hfr:=hfr.ext hs
  have mB:=mB.ext hs
  have eG:=hr
  refine EL_do .plain rfl (D_storeOc (g:=bG) (v:=cG) Tryz.sizeOf99 vB mB rfl eG fun oH pH hs b114 cb=>?_)
  clear cb
  have hfr:=hfr.stp hs
  refine EL_nil (thn_n (E_ret ?_))
  obtain rfl:=sinj h
  obtain ⟨ad115,cv115,hp115,xE,cr115⟩:=ob_read Tryz.isAgg99 Tryz.sizeOf99 b114
  exact endm_c rfl rfl ((show _=p2 from vB).trans hp115) xE ⟨_,hfr,cr115⟩
def f35 (x0:BookCloth):Option ((Vector UInt8 8)):=
 (shr64 (x0).Day ((8:Int))).bind fun y5=>
 (f72 ((⟨List.toArray [(u8w y5),(u8w ((x0).Day)),(u8w ((x0).Loom)),(u8w ((x0).Chain)),(u8w ((x0).Tie)),(u8w ((x0).Picks)),0,0],rfl⟩:Vector UInt8 8))).bind fun o0=>
 some ((Vector.set ((Vector.set ((⟨List.toArray [(u8w y5),(u8w ((x0).Day)),(u8w ((x0).Loom)),(u8w ((x0).Chain)),(u8w ((x0).Tie)),(u8w ((x0).Picks)),0,0],rfl⟩:Vector UInt8 8)) 6 (o0.1) (by decide))) 7 (o0.2) (by decide)))
theorem en35:Enters Tryz.prog 35:=enters_of Tryz.func35 (by kernel_rfl) rfl
theorem wk35 {gI:Gh} {wI:World} {x0:BookCloth} {up0:Value} (rp0:RV gI.m wI x0 up0) {r:(Vector UInt8 8)} (h:f35 x0=some r):Fn Tryz.prog 35 #[up0] gI wI (fun m w v=>RV m w (r) v):=by
 unfold f35 at h
 refine fn_of_E Tryz.func35 rfl (Nat.le_of_ble_eq_true rfl) fun g0 hm hfr=>?_
 have rp0:RV g0.m wI x0 up0:=hm ▸ rp0
 show E _ 31 none _ _ _ _ _
 refine E_seq (E_region (EL_do .plain rfl (D_box (g:=g0) rfl rp0 fun g1 w1 p1 hs q1=>?_)))
 have hfr:=hfr.ext hs
 refine EL_do .plain rfl (D_allocOc (g:=g1) 2002 ((⟨List.toArray [0,0,0,0,0,0,0,0],rfl⟩:Vector UInt8 8):Vector UInt8 8) Tryz.zeroValue116 (fun m w=>⟨_,(rep_vec (flat_chunk rep_u8 (flat_chunk rep_u8 (flat_chunk rep_u8 (flat_chunk rep_u8 (flat_chunk rep_u8 (flat_chunk rep_u8 (flat_chunk rep_u8 (flat_chunk rep_u8 flat_nil)))))))) rfl),rfl⟩) fun g2 w2 p2 hs b2 cb=>?_)
 have hfr:=hfr.stp hs
 have q1:=q1.stp hs
 clear cb
 refine EL_nil (thn_n (E_seq (E_region (EL_p (fPtr p1 0) (P_fieldAddr at_63_0 rfl (PT.ptr q1)) rfl ?_))))
 have q3:=PT_field (part_BookCloth_0).1 q1
 refine EL_do .plain rfl (D_load (g:=g2) Tryz.isAgg3 Tryz.sizeOf3 rfl q3 fun v4 r4=>?_)
 obtain rfl:=RV_int.1 r4
 obtain ⟨y5,hy5,h⟩:=bsome h
 refine EL_p (.int .i64 (y5)) (P_shru rfl rfl hy5) rfl ?_
 refine EL_p (.int .u8 (UInt8.toNat ((u8w y5)))) (P_intu8 Tryz.underlying3 Tryz.underlying5 rfl) rfl ?_
 refine EL_p (fPtr p1 0) (P_fieldAddr at_63_0 rfl (PT.ptr q1)) rfl ?_
 have q6:=PT_field (part_BookCloth_0).1 q1
 refine EL_do .plain rfl (D_load (g:=g2) Tryz.isAgg3 Tryz.sizeOf3 rfl q6 fun v7 r7=>?_)
 obtain rfl:=RV_int.1 r7
 refine EL_p (.int .u8 (UInt8.toNat ((u8w ((x0).Day))))) (P_intu8 Tryz.underlying3 Tryz.underlying5 rfl) rfl ?_
 refine EL_p (fPtr p1 1) (P_fieldAddr at_63_1 rfl (PT.ptr q1)) rfl ?_
 have q8:=PT_field (part_BookCloth_1).1 q1
 refine EL_do .plain rfl (D_load (g:=g2) Tryz.isAgg3 Tryz.sizeOf3 rfl q8 fun v9 r9=>?_)
 obtain rfl:=RV_int.1 r9
 refine EL_p (.int .u8 (UInt8.toNat ((u8w ((x0).Loom))))) (P_intu8 Tryz.underlying3 Tryz.underlying5 rfl) rfl ?_
 refine EL_p (fPtr p1 2) (P_fieldAddr at_63_2 rfl (PT.ptr q1)) rfl ?_
 have v8:=PT_field (part_BookCloth_2).1 q1
 refine EL_do .plain rfl (D_load (g:=g2) Tryz.isAgg3 Tryz.sizeOf3 rfl v8 fun cD l9=>?_)
 obtain rfl:=RV_int.1 l9
 refine EL_p (.int .u8 (UInt8.toNat ((u8w ((x0).Chain))))) (P_intu8 Tryz.underlying3 Tryz.underlying5 rfl) rfl ?_
 refine EL_p (fPtr p1 3) (P_fieldAddr at_63_3 rfl (PT.ptr q1)) rfl ?_
 have n9:=PT_field (part_BookCloth_3).1 q1
 refine EL_do .plain rfl (D_load (g:=g2) Tryz.isAgg3 Tryz.sizeOf3 rfl n9 fun lD aB=>?_)
 obtain rfl:=RV_int.1 aB
 refine EL_p (.int .u8 (UInt8.toNat ((u8w ((x0).Tie))))) (P_intu8 Tryz.underlying3 Tryz.underlying5 rfl) rfl ?_
 refine EL_p (fPtr p1 4) (P_fieldAddr at_63_4 rfl (PT.ptr q1)) rfl ?_
 have lB:=PT_field (part_BookCloth_4).1 q1
 refine EL_do .plain rfl (D_load (g:=g2) Tryz.isAgg3 Tryz.sizeOf3 rfl lB fun nD mB=>?_)
 obtain rfl:=RV_int.1 mB
 refine EL_p (.int .u8 (UInt8.toNat ((u8w ((x0).Picks))))) (P_intu8 Tryz.underlying3 Tryz.underlying5 rfl) rfl ?_
 have l5:RV g2.m w2 (⟨List.toArray [(u8w y5),(u8w ((x0).Day)),(u8w ((x0).Loom)),(u8w ((x0).Chain)),(u8w ((x0).Tie)),(u8w ((x0).Picks)),0,0],rfl⟩:Vector UInt8 8) (.agg (setCh [[.int .u8 0],[.int .u8 0],[.int .u8 0],[.int .u8 0],[.int .u8 0],[.int .u8 0],[.int .u8 0],[.int .u8 0]] [(0,.int .u8 (UInt8.toNat ((u8w y5)))),(1,.int .u8 (UInt8.toNat ((u8w ((x0).Day))))),(2,.int .u8 (UInt8.toNat ((u8w ((x0).Loom))))),(3,.int .u8 (UInt8.toNat ((u8w ((x0).Chain))))),(4,.int .u8 (UInt8.toNat ((u8w ((x0).Tie))))),(5,.int .u8 (UInt8.toNat ((u8w ((x0).Picks)))))]).flatten.toArray):=RV_build rfl (rep_vec (flat_chunk rfl (flat_chunk rfl (flat_chunk rfl (flat_chunk rfl (flat_chunk rfl (flat_chunk rfl (flat_chunk rep_u8 (flat_chunk rep_u8 flat_nil)))))))) rfl)
 generalize l8:(Value.agg (setCh [[.int .u8 0],[.int .u8 0],[.int .u8 0],[.int .u8 0],[.int .u8 0],[.int .u8 0],[.int .u8 0],[.int .u8 0]] [(0,.int .u8 (UInt8.toNat ((u8w y5)))),(1,.int .u8 (UInt8.toNat ((u8w ((x0).Day))))),(2,.int .u8 (UInt8.toNat ((u8w ((x0).Loom))))),(3,.int .u8 (UInt8.toNat ((u8w ((x0).Chain))))),(4,.int .u8 (UInt8.toNat ((u8w ((x0).Tie))))),(5,.int .u8 (UInt8.toNat ((u8w ((x0).Picks)))))]).flatten.toArray)=t5 at l5
 refine EL_p t5 (l8 ▸ P_buildA (vs:=[(0,.int .u8 (UInt8.toNat ((u8w y5)))),(1,.int .u8 (UInt8.toNat ((u8w ((x0).Day))))),(2,.int .u8 (UInt8.toNat ((u8w ((x0).Loom))))),(3,.int .u8 (UInt8.toNat ((u8w ((x0).Chain))))),(4,.int .u8 (UInt8.toNat ((u8w ((x0).Tie))))),(5,.int .u8 (UInt8.toNat ((u8w ((x0).Picks)))))]) [[.int .u8 0],[.int .u8 0],[.int .u8 0],[.int .u8 0],[.int .u8 0],[.int .u8 0],[.int .u8 0],[.int .u8 0]] Tryz.underlying116 layA_116 szA_5 rfl (by simp) (.cons rfl (.cons rfl (.cons rfl (.cons rfl (.cons rfl (.cons rfl .nil)))))) ⟨⟨_,rfl,rfl⟩,⟨⟨_,rfl,rfl⟩,⟨⟨_,rfl,rfl⟩,⟨⟨_,rfl,rfl⟩,⟨⟨_,rfl,rfl⟩,⟨⟨_,rfl,rfl⟩,trivial⟩⟩⟩⟩⟩⟩) rfl ?_
 refine EL_do .plain rfl (D_storeOc (g:=g2) (v:=t5) Tryz.sizeOf116 rfl b2 rfl l5 fun i6 oD hs b17 cb=>?_)
 clear cb
 have hfr:=hfr.stp hs
 refine EL_nil (thn_n (E_seq (E_region (EL_do .plain rfl (D_loadO (g:=i6) Tryz.isAgg116 Tryz.sizeOf116 rfl b17 fun nB oB=>?_)))))
 obtain ⟨o0,hy20,h⟩:=bsome h
 refine EL_do .plain rfl (D_call (g:=i6) (vs:=[nB]) en72 (.cons rfl .nil) (wk72 oB hy20) fun vB bD yD hs hr=>?_)
 have hfr:=hfr.ext hs
 have b17:=b17.ext hs
 obtain ⟨uC,vC,rfl,rfl,rfl⟩:=hr
 refine EL_mw (.tuple #[.int .u8 (UInt8.toNat (o0.1)),.int .u8 (UInt8.toNat (o0.2))]) rfl rfl ?_
 refine EL_p (.int .u8 (UInt8.toNat (o0.1))) (P_extract rfl rfl) rfl ?_
 refine EL_p (.int .u8 (UInt8.toNat (o0.2))) (P_extract rfl rfl) rfl ?_
 refine EL_p (fPtr p2 6) (P_indexAddrA (α:=UInt8) (i:=(6:Int)) Tryz.underlying116 Tryz.sizeOf5 rfl (OB.ptr b17) rfl (idx_vec (v:=(⟨List.toArray [(u8w y5),(u8w ((x0).Day)),(u8w ((x0).Loom)),(u8w ((x0).Chain)),(u8w ((x0).Tie)),(u8w ((x0).Picks)),0,0],rfl⟩:Vector UInt8 8)) (i:=6) (by decide))) rfl ?_
 refine EL_do .plain rfl (D_storeFc (g:=vB) (SubS.vec (β:=UInt8) (n:=8) (i:=6) (by decide)) Tryz.sizeOf5 rfl b17 rfl (RV_u8.2 rfl) fun yB zD hs b21 rst hos=>?_)
 clear rst hos
 have hfr:=hfr.stp hs
 refine EL_p (fPtr p2 7) (P_indexAddrA (α:=UInt8) (i:=(7:Int)) Tryz.underlying116 Tryz.sizeOf5 rfl (OB.ptr b21) rfl (idx_vec (v:=(Vector.set ((⟨List.toArray [(u8w y5),(u8w ((x0).Day)),(u8w ((x0).Loom)),(u8w ((x0).Chain)),(u8w ((x0).Tie)),(u8w ((x0).Picks)),0,0],rfl⟩:Vector UInt8 8)) 6 (o0.1) (by decide))) (i:=7) (by decide))) rfl ?_
 refine EL_do .plain rfl (D_storeFc (g:=yB) (SubS.vec (β:=UInt8) (n:=8) (i:=7) (by decide)) Tryz.sizeOf5 rfl b21 rfl (RV_u8.2 rfl) fun g8 aE hs b22 rst hos=>?_)
 clear rst hos
 have hfr:=hfr.stp hs
 refine EL_nil (thn_n (E_seq (E_region (EL_do .plain rfl (D_loadO (g:=g8) Tryz.isAgg116 Tryz.sizeOf116 rfl b22 fun zB cC=>?_)))))
 refine EL_do .plain rfl (D_storeOc (g:=g8) (v:=zB) Tryz.sizeOf116 rfl b22 rfl cC fun bE iE hs b24 cb=>?_)
 clear cb
 have hfr:=hfr.stp hs
 refine EL_nil (thn_n (E_ret ?_))
 obtain rfl:=sinj h
 obtain ⟨ad25,cv25,hp25,n8,cr25⟩:=ob_read Tryz.isAgg116 Tryz.sizeOf116 b24
 exact endm_c rfl rfl ((show _=p2 from rfl).trans hp25) n8 ⟨_,hfr,cr25⟩
def f45 (x0:List BookTie) (x1:BookTie→Option Bool):Option (Bool):=
 (f81 x0 x1).bind fun y2=>
 some ((decide (y2 ≥ (0:Int))))
theorem en45:Enters Tryz.prog 45:=enters_of Tryz.func45 (by kernel_rfl) rfl
theorem wk45 {gI:Gh} {wI:World} {x0:List BookTie} {x1:BookTie→Option Bool} {up0:Value} (rp0:RV gI.m wI x0 up0) {up1:Value} (rp1:FnV1 Tryz.prog x1 up1 gI wI) {r:Bool} (h:f45 x0 x1=some r):Fn Tryz.prog 45 #[up0,up1] gI wI (fun _ _ v=>v=.bool (r)):=by
 unfold f45 at h
 refine fn_of_E Tryz.func45 rfl (Nat.le_of_ble_eq_true rfl) fun g0 hm hfr=>?_
 have rp0:RV g0.m wI x0 up0:=hm ▸ rp0
 obtain ⟨ff1,fa1,fc1,rfl,fen1,fcl1⟩:=rp1
 show E _ 9 none _ _ _ _ _
 refine E_seq (E_region (EL_at (.bool false) rfl rfl ?_))
 refine EL_nil (thn_n (E_seq (E_region (EL_mw up0 rfl rfl ?_))))
 refine EL_mw ((.func (.func ff1) fa1 fc1)) rfl rfl ?_
 obtain ⟨y2,hy2,h⟩:=bsome h
 refine EL_do .plain rfl (D_call (g:=g0) (vs:=[up0,(.func (.func ff1) fa1 fc1)]) en81 (.cons rfl (.cons rfl .nil)) (wk81 rp0 (FnV1.ch ⟨_,_,_,rfl,fen1,fcl1⟩ hfr.ch) hy2) fun g1 w1_ v1 hs hr=>?_)
 have hfr:=hfr.ext hs
 subst hr
 refine EL_in (.bool ((decide (y2 ≥ (0:Int))))) rfl rfl rfl rfl ?_
 refine EL_at (.bool ((decide (y2 ≥ (0:Int))))) rfl rfl ?_
 refine EL_nil (thn_n (E_ret ?_))
 obtain rfl:=sinj h
 exact end1 rfl rfl (show _=.bool ((decide (y2 ≥ (0:Int)))) from rfl) ⟨_,hfr,rfl⟩
def f46 (x0:List BookChain) (x1:BookChain→Option Bool):Option (Bool):=
 (f82 x0 x1).bind fun y2=>
 some ((decide (y2 ≥ (0:Int))))
theorem en46:Enters Tryz.prog 46:=enters_of Tryz.func46 (by kernel_rfl) rfl
theorem wk46 {gI:Gh} {wI:World} {x0:List BookChain} {x1:BookChain→Option Bool} {up0:Value} (rp0:RV gI.m wI x0 up0) {up1:Value} (rp1:FnV1 Tryz.prog x1 up1 gI wI) {r:Bool} (h:f46 x0 x1=some r):Fn Tryz.prog 46 #[up0,up1] gI wI (fun _ _ v=>v=.bool (r)):=by
 unfold f46 at h
 refine fn_of_E Tryz.func46 rfl (Nat.le_of_ble_eq_true rfl) fun g0 hm hfr=>?_
 have rp0:RV g0.m wI x0 up0:=hm ▸ rp0
 obtain ⟨ff1,fa1,fc1,rfl,fen1,fcl1⟩:=rp1
 show E _ 9 none _ _ _ _ _
 refine E_seq (E_region (EL_at (.bool false) rfl rfl ?_))
 refine EL_nil (thn_n (E_seq (E_region (EL_mw up0 rfl rfl ?_))))
 refine EL_mw ((.func (.func ff1) fa1 fc1)) rfl rfl ?_
 obtain ⟨y2,hy2,h⟩:=bsome h
 refine EL_do .plain rfl (D_call (g:=g0) (vs:=[up0,(.func (.func ff1) fa1 fc1)]) en82 (.cons rfl (.cons rfl .nil)) (wk82 rp0 (FnV1.ch ⟨_,_,_,rfl,fen1,fcl1⟩ hfr.ch) hy2) fun g1 w1_ v1 hs hr=>?_)
 have hfr:=hfr.ext hs
 subst hr
 refine EL_in (.bool ((decide (y2 ≥ (0:Int))))) rfl rfl rfl rfl ?_
 refine EL_at (.bool ((decide (y2 ≥ (0:Int))))) rfl rfl ?_
 refine EL_nil (thn_n (E_ret ?_))
 obtain rfl:=sinj h
 exact end1 rfl rfl (show _=.bool ((decide (y2 ≥ (0:Int)))) from rfl) ⟨_,hfr,rfl⟩
def f54 (x0:List BeamPair) (x1:BeamPair→Option Bool):Option (Bool):=
 (f92 x0 x1).bind fun y2=>
 some ((decide (y2 ≥ (0:Int))))
theorem en54:Enters Tryz.prog 54:=enters_of Tryz.func54 (by kernel_rfl) rfl
theorem wk54 {gI:Gh} {wI:World} {x0:List BeamPair} {x1:BeamPair→Option Bool} {up0:Value} (rp0:RV gI.m wI x0 up0) {up1:Value} (rp1:FnV1 Tryz.prog x1 up1 gI wI) {r:Bool} (h:f54 x0 x1=some r):Fn Tryz.prog 54 #[up0,up1] gI wI (fun _ _ v=>v=.bool (r)):=by
 unfold f54 at h
 refine fn_of_E Tryz.func54 rfl (Nat.le_of_ble_eq_true rfl) fun g0 hm hfr=>?_
 have rp0:RV g0.m wI x0 up0:=hm ▸ rp0
 obtain ⟨ff1,fa1,fc1,rfl,fen1,fcl1⟩:=rp1
 show E _ 9 none _ _ _ _ _
 refine E_seq (E_region (EL_at (.bool false) rfl rfl ?_))
 refine EL_nil (thn_n (E_seq (E_region (EL_mw up0 rfl rfl ?_))))
 refine EL_mw ((.func (.func ff1) fa1 fc1)) rfl rfl ?_
 obtain ⟨y2,hy2,h⟩:=bsome h
 refine EL_do .plain rfl (D_call (g:=g0) (vs:=[up0,(.func (.func ff1) fa1 fc1)]) en92 (.cons rfl (.cons rfl .nil)) (wk92 rp0 (FnV1.ch ⟨_,_,_,rfl,fen1,fcl1⟩ hfr.ch) hy2) fun g1 w1_ v1 hs hr=>?_)
 have hfr:=hfr.ext hs
 subst hr
 refine EL_in (.bool ((decide (y2 ≥ (0:Int))))) rfl rfl rfl rfl ?_
 refine EL_at (.bool ((decide (y2 ≥ (0:Int))))) rfl rfl ?_
 refine EL_nil (thn_n (E_ret ?_))
 obtain rfl:=sinj h
 exact end1 rfl rfl (show _=.bool ((decide (y2 ≥ (0:Int)))) from rfl) ⟨_,hfr,rfl⟩
def f56 (x0:List Int) (x1:Int→Option Bool):Option (Bool):=
 (f93 x0 x1).bind fun y2=>
 some ((decide (y2 ≥ (0:Int))))
theorem en56:Enters Tryz.prog 56:=enters_of Tryz.func56 (by kernel_rfl) rfl
theorem wk56 {gI:Gh} {wI:World} {x0:List Int} {x1:Int→Option Bool} {up0:Value} (rp0:RV gI.m wI x0 up0) {up1:Value} (rp1:FnV1 Tryz.prog x1 up1 gI wI) {r:Bool} (h:f56 x0 x1=some r):Fn Tryz.prog 56 #[up0,up1] gI wI (fun _ _ v=>v=.bool (r)):=by
 unfold f56 at h
 refine fn_of_E Tryz.func56 rfl (Nat.le_of_ble_eq_true rfl) fun g0 hm hfr=>?_
 have rp0:RV g0.m wI x0 up0:=hm ▸ rp0
 obtain ⟨ff1,fa1,fc1,rfl,fen1,fcl1⟩:=rp1
 show E _ 9 none _ _ _ _ _
 refine E_seq (E_region (EL_at (.bool false) rfl rfl ?_))
 refine EL_nil (thn_n (E_seq (E_region (EL_mw up0 rfl rfl ?_))))
 refine EL_mw ((.func (.func ff1) fa1 fc1)) rfl rfl ?_
 obtain ⟨y2,hy2,h⟩:=bsome h
 refine EL_do .plain rfl (D_call (g:=g0) (vs:=[up0,(.func (.func ff1) fa1 fc1)]) en93 (.cons rfl (.cons rfl .nil)) (wk93 rp0 (FnV1.ch ⟨_,_,_,rfl,fen1,fcl1⟩ hfr.ch) hy2) fun g1 w1_ v1 hs hr=>?_)
 have hfr:=hfr.ext hs
 subst hr
 refine EL_in (.bool ((decide (y2 ≥ (0:Int))))) rfl rfl rfl rfl ?_
 refine EL_at (.bool ((decide (y2 ≥ (0:Int))))) rfl rfl ?_
 refine EL_nil (thn_n (E_ret ?_))
 obtain rfl:=sinj h
 exact end1 rfl rfl (show _=.bool ((decide (y2 ≥ (0:Int)))) from rfl) ⟨_,hfr,rfl⟩
def f61 (x0:Int) (z0:BeamWarp) (z1:Int):Option (Bool):=
 (f62 z0).bind fun y3=>
 (f63 y3 x0).bind fun y5=>
 some ((decide (y5 ≥ z1)))
theorem en61:Enters Tryz.prog 61:=enters_of Tryz.func61 (by kernel_rfl) rfl
theorem wk61 {gI:Gh} {wI:World} {x0:Int} {z0:BeamWarp} {z1:Int} {pf0:Value} (qf0:PT gI.m wI z0 pf0) {pf1:Value} (qf1:PT gI.m wI z1 pf1) {r:Bool} (h:f61 x0 z0 z1=some r):Fn Tryz.prog 61 #[.int .i64 (x0),pf0,pf1] gI wI (fun _ _ v=>v=.bool (r)):=by
 unfold f61 at h
 refine fn_of_E Tryz.func61 rfl (Nat.le_of_ble_eq_true rfl) fun g0 hm hfr=>?_
 have qf0:PT g0.m wI z0 pf0:=hm ▸ qf0
 have qf1:PT g0.m wI z1 pf1:=hm ▸ qf1
 show E _ 11 none _ _ _ _ _
 refine E_seq (E_region (EL_at (.bool false) rfl rfl ?_))
 refine EL_nil (thn_n (E_seq (L_load (x:=.tmp 1) Tryz.isAgg108 Tryz.sizeOf108 qf0 fun v1 r1 hl1=>?_)))
 obtain ⟨y3,hy3,h⟩:=bsome h
 obtain ⟨y5,hy5,h⟩:=bsome h
 refine L_load (x:=.tmp 2) Tryz.isAgg3 Tryz.sizeOf3 qf1 fun v6 r6 o0=>?_
 obtain rfl:=RV_int.1 r6
 refine E_drawL (g:=g0) (n:=7) [(1,(fun v g w=>RV g.m w y3 v)),(3,(fun v g w=>v=.int .i64 (y5)))] [0,1,2,3,4,5,6] rfl mixed (by kernel_rfl) (⟨fun _=>up_rv,fun _=>up_eq _,trivial⟩) ?_
 refine L_ld (c:=v1) rfl rfl .plain (fun _ _ h=>h.ch) hl1 rfl ?_
 refine L_do (φ:=fun v g w=>RV g.m w y3 v) rfl rfl .plain (fun g w hd=>D_call (g:=g) (vs:=[v1]) en62 (.cons rfl .nil) (wk62 (r1.ext hd.1) hy3) fun g' w' v hs hr=>⟨g',hs,hr⟩) (fun v2 hv=>?_)
 obtain ⟨_,_,_,rq2⟩:=hv
 refine L_p (.int .i64 (x0)) rfl rfl (P_move rfl) ?_
 refine L_do (φ:=fun v g w=>v=.int .i64 (y5)) rfl rfl .plain (fun g w hd=>D_call (g:=g) (vs:=[v2,.int .i64 (x0)]) en63 (.cons rfl (.cons rfl .nil)) (wk63 (word (A:=fun g w=>RV g.m w y3 v2) 1 rfl rfl (deps_of hd)) hy5) fun g' w' v hs hr=>⟨g',hs,hr⟩) (fun v4 hv=>?_)
 obtain ⟨_,_,_,rfl⟩:=hv
 refine L_ld (c:=.int .i64 (z1)) rfl rfl .plain (fun _ _ h=>h.ch) o0 rfl ?_
 refine L_p (.bool ((decide (y5 ≥ z1)))) rfl rfl (P_int rfl rfl rfl) ?_
 refine L_p (.bool ((decide (y5 ≥ z1)))) rfl rfl (P_assign rfl) ?_
 refine L_nil fun g7 w7 hall=>?_
 have hs:=hall.1
 have hfr:=hfr.ext hs
 have l5:=(word_all (A:=fun g w=>RV g.m w y3 v2) 1 rfl hall)
 clear hs hall
 refine EL_nil (thn_n (E_ret ?_))
 obtain rfl:=sinj h
 exact end1 rfl rfl (show _=.bool ((decide (y5 ≥ z1))) from rfl) ⟨_,hfr,rfl⟩
def f69 (x0:Int) (x1:Int) (x2:List Int):Option (Bool):=
 (f56 x2 ((fun a0=>f98 a0 x0 x1))).bind fun y4=>
 some ((!y4))
theorem en69:Enters Tryz.prog 69:=enters_of Tryz.func69 (by kernel_rfl) rfl
theorem wk69 {gI:Gh} {wI:World} {x0:Int} {x1:Int} {x2:List Int} {up2:Value} (rp2:RV gI.m wI x2 up2) {r:Bool} (h:f69 x0 x1 x2=some r):Fn Tryz.prog 69 #[.int .i64 (x0),.int .i64 (x1),up2] gI wI (fun _ _ v=>v=.bool (r)):=by
 unfold f69 at h
 refine fn_of_E Tryz.func69 rfl (Nat.le_of_ble_eq_true rfl) fun g0 hm hfr=>?_
 have rp2:RV g0.m wI x2 up2:=hm ▸ rp2
 show E _ 11 none _ _ _ _ _
 refine E_seq (E_region (EL_do .plain rfl (D_box (g:=g0) rfl (RV_int.2 rfl) fun g1 w1 p1 hs q1=>?_)))
 have hfr:=hfr.ext hs
 have rp2:=rp2.ext hs
 refine EL_do .plain rfl (D_box (g:=g1) rfl (RV_int.2 rfl) fun g2 w2 p2 hs q2=>?_)
 have hfr:=hfr.ext hs
 have rp2:=rp2.ext hs
 have q1:=q1.ext hs
 refine EL_at (.bool false) rfl rfl ?_
 refine EL_nil (thn_n (E_seq (E_region (EL_mw up2 rfl rfl ?_))))
 refine EL_p ((.func (.func 98) #[] #[p1,p2])) (P_makeFunc (capf_0_2 (show ev _ _=p1 from rfl) (show ev _ _=p2 from rfl))) rfl ?_
 obtain ⟨y4,o0,h⟩:=bsome h
 refine EL_do .plain rfl (D_call (g:=g2) (vs:=[up2,(.func (.func 98) #[] #[p1,p2])]) en56 (.cons rfl (.cons rfl .nil)) (wk56 rp2 ⟨98,#[],#[p1,p2],rfl,en98,fun g' w' hch a0 b0 r hu0 hr=>by obtain rfl:=RV_int.1 hu0; exact Fn.mono (wk98  (q1.ch hch) (q2.ch hch) hr) fun _ _ _ h=>RV_bool.2 h⟩ o0) fun g3 w3_ v3 hs hr=>?_)
 have hfr:=hfr.ext hs
 subst hr
 refine EL_p (.bool (!y4)) (P_not rfl) rfl ?_
 refine EL_at (.bool (!y4)) rfl rfl ?_
 refine EL_nil (thn_n (E_ret ?_))
 obtain rfl:=sinj h
 exact end1 rfl rfl (show _=.bool (!y4) from rfl) ⟨_,hfr,rfl⟩
end Go.Proofs.YtbelgnbjkciafaaGreatDoor
