import Derived.Test.YtomjodbnpgbjnaaGreatTypes
set_option maxRecDepth 8000
set_option maxHeartbeats 4000000
namespace Go.Proofs.YtomjodbnpgbjnaaGreat
open Go.RowKit
theorem info_65:(Tryz.prog.info? 65).map (fun i=>(i.zero,i.size,i.bytes))=some (some (.agg #[.int .i64 0,.int .i64 0,.int .i64 0]),3,24):=by kernel_rfl
theorem info_3:(Tryz.prog.info? 3).map (fun i=>(i.zero,i.size,i.bytes))=some (some (.int .i64 0),1,8):=by kernel_rfl
theorem info_45:(Tryz.prog.info? 45).map (fun i=>(i.zero,i.size,i.bytes))=some (some (.agg #[.int .i64 0,.int .i64 0,.int .i64 0,.int .i64 0,.bool false]),5,40):=by kernel_rfl
theorem info_5:(Tryz.prog.info? 5).map (fun i=>(i.zero,i.size,i.bytes))=some (some (.int .u8 0),1,1):=by kernel_rfl
theorem lay_28:layoutOf Tryz.prog 28=some ([.slice none 0 0,.int .i64 0],[(0,1),(1,1)]):=by kernel_rfl
theorem lay_67:layoutOf Tryz.prog 67=some ([.int .i64 0,.int .i64 0,.int .i64 0,.int .i64 0,.int .i64 0],[(0,1),(1,1),(2,1),(3,1),(4,1)]):=by kernel_rfl
theorem mixed:Tryz.prog.follows .mixedOrders=true:=by kernel_rfl
theorem info_67:(Tryz.prog.info? 67).map (fun i=>(i.zero,i.size,i.bytes))=some (some (.agg #[.int .i64 0,.int .i64 0,.int .i64 0,.int .i64 0,.int .i64 0]),5,40):=by kernel_rfl
theorem endm_ct {P:Program} {e:Env} {ds:List Deferred} {w:World} {fn:Func} {R:Value→World→Prop} {t0:Tmp} {v0:Value} {y0:TypeId} {a0:Addr} {t1:Tmp} {v1:Value} (hres:fn.results=#[.cell t0 y0,.tmp t1]) (hd:ds=[]) (h0:e t0=.pointer (some a0)) (l0:(loadVar y0 a0).run P w=.ok v0 w) (h1:e t1=v1) (h:R (.tuple #[v0,v1]) w):atEnd P fn R .ret e ds w:=
 ⟨hd,fun tmps ht=>⟨_,by simp [results,hres,ht,asAddr,h0,l0,h1],h⟩⟩
theorem lay_45:layoutOf Tryz.prog 45=some ([.int .i64 0,.int .i64 0,.int .i64 0,.int .i64 0,.bool false],[(0,1),(1,1),(2,1),(3,1),(4,1)]):=by kernel_rfl
theorem endm_c {P:Program} {e:Env} {ds:List Deferred} {w:World} {fn:Func} {R:Value→World→Prop} {t0:Tmp} {v0:Value} {y0:TypeId} {a0:Addr} (hres:fn.results=#[.cell t0 y0]) (hd:ds=[]) (h0:e t0=.pointer (some a0)) (l0:(loadVar y0 a0).run P w=.ok v0 w) (h:R v0 w):atEnd P fn R .ret e ds w:=
 ⟨hd,fun tmps ht=>⟨_,by simp [results,hres,ht,asAddr,h0,l0],h⟩⟩
theorem plain_LoomOrder:Plain LoomOrder:=fun _ m' _ w' x _ h=>(plain_two plain_int (plain_two plain_int (plain_two plain_int (plain_two plain_int plain_int)))) _ m' _ w' _ _ h
theorem lay_55:layoutOf Tryz.prog 55=some ([.int .i64 0,.int .i64 0],[(0,1),(1,1)]):=by kernel_rfl
theorem plain_LoomRun:Plain LoomRun:=fun _ m' _ w' x _ h=>(plain_two plain_int (plain_two plain_int plain_int)) _ m' _ w' _ _ h
theorem lay_35:layoutOf Tryz.prog 35=some ([.int .i64 0,.slice none 0 0],[(0,1),(1,1)]):=by kernel_rfl
theorem capf_0_2 {e:Env} {f:FuncId} {o0:Operand} {u0:Operand} {b0:Value} {b1:Value} (hb0:ev e o0=b0) (hb1:ev e u0=b1):(Value.func (.func f) ((#[]:Array Operand).map (ev e)) ((#[o0,u0]:Array Operand).map (ev e)))=.func (.func f) #[] #[b0,b1]:=by simp [hb0,hb1]
theorem lay_81:layoutOf Tryz.prog 81=some ([.slice none 0 0,.int .i64 0,.slice none 0 0],[(0,2),(2,1)]):=by kernel_rfl
theorem key_3:KeyLaw Tryz.prog 3 (Value.int .i64):=keyLaw_int Tryz.underlying3
theorem info_4:(Tryz.prog.info? 4).map (fun i=>(i.zero,i.size,i.bytes))=some (some (.bool false),1,1):=by kernel_rfl
theorem lay_33:layoutOf Tryz.prog 33=some ([.int .i64 0,.slice none 0 0],[(0,1),(1,1)]):=by kernel_rfl
theorem lay_37:layoutOf Tryz.prog 37=some ([.int .i64 0,.slice none 0 0,.int .i64 0,.slice none 0 0],[(0,2),(2,2)]):=by kernel_rfl
theorem capf_0_1 {e:Env} {f:FuncId} {o0:Operand} {b0:Value} (hb0:ev e o0=b0):(Value.func (.func f) ((#[]:Array Operand).map (ev e)) ((#[o0]:Array Operand).map (ev e)))=.func (.func f) #[] #[b0]:=by simp [hb0]
theorem lay_73:layoutOf Tryz.prog 73=some ([.int .i64 0,.slice none 0 0,.int .i64 0,.slice none 0 0],[(0,4)]):=by kernel_rfl
theorem fl_45 : Tryz.prog.fieldsOf 45 = #[{ name := "Kind", type := 43, offset := 0, embedded := false, tag := "", pkgPath := "", byteOffset := 0 }, { name := "Pick", type := 3, offset := 1, embedded := false, tag := "", pkgPath := "", byteOffset := 8 }, { name := "Hook", type := 3, offset := 2, embedded := false, tag := "", pkgPath := "", byteOffset := 16 }, { name := "Warp", type := 3, offset := 3, embedded := false, tag := "", pkgPath := "", byteOffset := 24 }, { name := "Up", type := 4, offset := 4, embedded := false, tag := "", pkgPath := "", byteOffset := 32 }] := by kernel_rfl
theorem seq_45:SEq (α:=FaultDamage) Tryz.prog 45:=by
 intro d x y w a b m wx m2 wy hx hy
 obtain ⟨_,⟨_,_,rfl,rfl,⟨_,_,rfl,rfl,⟨_,_,rfl,rfl,⟨_,_,rfl,rfl,rfl⟩⟩⟩⟩,rfl⟩:=hx
 obtain ⟨_,⟨_,_,rfl,rfl,⟨_,_,rfl,rfl,⟨_,_,rfl,rfl,⟨_,_,rfl,rfl,rfl⟩⟩⟩⟩,rfl⟩:=hy
 refine (run_equalIn_struct w (d + 1) 45 _ _ (by kernel_rfl) (by kernel_rfl)).trans ?_
 rw [fl_45]
 obtain ⟨x0,x1,x2,x3,x4⟩:=x
 obtain ⟨y0,y1,y2,y3,y4⟩:=y
 show (Op.eqFields (d + 1) #[.int .i64 (x0),.int .i64 (x1),.int .i64 (x2),.int .i64 (x3),.bool (x4)] #[.int .i64 (y0),.int .i64 (y1),.int .i64 (y2),.int .i64 (y3),.bool (y4)] _).run _ _=_
 have x0p:(part 43 #[.int .i64 (x0),.int .i64 (x1),.int .i64 (x2),.int .i64 (x3),.bool (x4)] 0).run Tryz.prog w=.ok (.int .i64 (x0)) w:=part_one Tryz.isAgg43 rfl
 have x1p:(part 3 #[.int .i64 (x0),.int .i64 (x1),.int .i64 (x2),.int .i64 (x3),.bool (x4)] 1).run Tryz.prog w=.ok (.int .i64 (x1)) w:=part_one Tryz.isAgg3 rfl
 have x2p:(part 3 #[.int .i64 (x0),.int .i64 (x1),.int .i64 (x2),.int .i64 (x3),.bool (x4)] 2).run Tryz.prog w=.ok (.int .i64 (x2)) w:=part_one Tryz.isAgg3 rfl
 have x3p:(part 3 #[.int .i64 (x0),.int .i64 (x1),.int .i64 (x2),.int .i64 (x3),.bool (x4)] 3).run Tryz.prog w=.ok (.int .i64 (x3)) w:=part_one Tryz.isAgg3 rfl
 have x4p:(part 4 #[.int .i64 (x0),.int .i64 (x1),.int .i64 (x2),.int .i64 (x3),.bool (x4)] 4).run Tryz.prog w=.ok (.bool (x4)) w:=part_one Tryz.isAgg4 rfl
 have y0p:(part 43 #[.int .i64 (y0),.int .i64 (y1),.int .i64 (y2),.int .i64 (y3),.bool (y4)] 0).run Tryz.prog w=.ok (.int .i64 (y0)) w:=part_one Tryz.isAgg43 rfl
 have y1p:(part 3 #[.int .i64 (y0),.int .i64 (y1),.int .i64 (y2),.int .i64 (y3),.bool (y4)] 1).run Tryz.prog w=.ok (.int .i64 (y1)) w:=part_one Tryz.isAgg3 rfl
 have y2p:(part 3 #[.int .i64 (y0),.int .i64 (y1),.int .i64 (y2),.int .i64 (y3),.bool (y4)] 2).run Tryz.prog w=.ok (.int .i64 (y2)) w:=part_one Tryz.isAgg3 rfl
 have y3p:(part 3 #[.int .i64 (y0),.int .i64 (y1),.int .i64 (y2),.int .i64 (y3),.bool (y4)] 3).run Tryz.prog w=.ok (.int .i64 (y3)) w:=part_one Tryz.isAgg3 rfl
 have y4p:(part 4 #[.int .i64 (y0),.int .i64 (y1),.int .i64 (y2),.int .i64 (y3),.bool (y4)] 4).run Tryz.prog w=.ok (.bool (y4)) w:=part_one Tryz.isAgg4 rfl
 simp only [Op.eqFields,Sem.run_bind,Sem.run_ite,Sem.run_pure,x0p,x1p,x2p,x3p,x4p,y0p,y1p,y2p,y3p,y4p,Result.andThen_ok,run_equalIn_int _ _ _ _ _ _ _ Tryz.underlying43,run_equalIn_int _ _ _ _ _ _ _ Tryz.underlying3,run_equalIn_bool _ _ _ _ _ Tryz.underlying4]
 simp
 grind
theorem eg_45:Tryz.prog.eqGuardType Tryz.prog.depth 45=false:=by kernel_rfl
theorem lay_65:layoutOf Tryz.prog 65=some ([.int .i64 0,.int .i64 0,.int .i64 0],[(0,1),(1,1),(2,1)]):=by kernel_rfl
theorem lay_160:layoutOf Tryz.prog 160=some ([.int .i64 0,.slice none 0 0],[(0,2)]):=by kernel_rfl
theorem info_9:(Tryz.prog.info? 9).map (fun i=>(i.zero,i.size,i.bytes))=some (some (Str.v ⟨[]⟩),1,16):=by kernel_rfl
theorem endm_ccc {P:Program} {e:Env} {ds:List Deferred} {w:World} {fn:Func} {R:Value→World→Prop} {t0:Tmp} {v0:Value} {y0:TypeId} {a0:Addr} {t1:Tmp} {v1:Value} {y1:TypeId} {a1:Addr} {t2:Tmp} {v2:Value} {y2:TypeId} {a2:Addr} (hres:fn.results=#[.cell t0 y0,.cell t1 y1,.cell t2 y2]) (hd:ds=[]) (h0:e t0=.pointer (some a0)) (l0:(loadVar y0 a0).run P w=.ok v0 w) (h1:e t1=.pointer (some a1)) (l1:(loadVar y1 a1).run P w=.ok v1 w) (h2:e t2=.pointer (some a2)) (l2:(loadVar y2 a2).run P w=.ok v2 w) (h:R (.tuple #[v0,v1,v2]) w):atEnd P fn R .ret e ds w:=
 ⟨hd,fun tmps ht=>⟨_,by simp [results,hres,ht,asAddr,h0,l0,h1,l1,h2,l2],h⟩⟩
theorem lay_99:layoutOf Tryz.prog 99=some ([.slice none 0 0,.int .i64 0,.slice none 0 0,.int .i64 0,.int .i64 0,.int .i64 0],[(0,3),(3,3)]):=by kernel_rfl
theorem plain_FaultDamage:Plain FaultDamage:=fun _ m' _ w' x _ h=>(plain_two plain_int (plain_two plain_int (plain_two plain_int (plain_two plain_int plain_bool)))) _ m' _ w' _ _ h
theorem fl_65 : Tryz.prog.fieldsOf 65 = #[{ name := "Order", type := 3, offset := 0, embedded := false, tag := "", pkgPath := "", byteOffset := 0 }, { name := "Loom", type := 3, offset := 1, embedded := false, tag := "", pkgPath := "", byteOffset := 8 }, { name := "From", type := 3, offset := 2, embedded := false, tag := "", pkgPath := "", byteOffset := 16 }] := by kernel_rfl
theorem seq_65:SEq (α:=LoomRun) Tryz.prog 65:=by
 intro d x y w a b m wx m2 wy hx hy
 obtain ⟨_,⟨_,_,rfl,rfl,⟨_,_,rfl,rfl,rfl⟩⟩,rfl⟩:=hx
 obtain ⟨_,⟨_,_,rfl,rfl,⟨_,_,rfl,rfl,rfl⟩⟩,rfl⟩:=hy
 refine (run_equalIn_struct w (d + 1) 65 _ _ (by kernel_rfl) (by kernel_rfl)).trans ?_
 rw [fl_65]
 obtain ⟨x0,x1,x2⟩:=x
 obtain ⟨y0,y1,y2⟩:=y
 show (Op.eqFields (d + 1) #[.int .i64 (x0),.int .i64 (x1),.int .i64 (x2)] #[.int .i64 (y0),.int .i64 (y1),.int .i64 (y2)] _).run _ _=_
 have x0p:(part 3 #[.int .i64 (x0),.int .i64 (x1),.int .i64 (x2)] 0).run Tryz.prog w=.ok (.int .i64 (x0)) w:=part_one Tryz.isAgg3 rfl
 have x1p:(part 3 #[.int .i64 (x0),.int .i64 (x1),.int .i64 (x2)] 1).run Tryz.prog w=.ok (.int .i64 (x1)) w:=part_one Tryz.isAgg3 rfl
 have x2p:(part 3 #[.int .i64 (x0),.int .i64 (x1),.int .i64 (x2)] 2).run Tryz.prog w=.ok (.int .i64 (x2)) w:=part_one Tryz.isAgg3 rfl
 have y0p:(part 3 #[.int .i64 (y0),.int .i64 (y1),.int .i64 (y2)] 0).run Tryz.prog w=.ok (.int .i64 (y0)) w:=part_one Tryz.isAgg3 rfl
 have y1p:(part 3 #[.int .i64 (y0),.int .i64 (y1),.int .i64 (y2)] 1).run Tryz.prog w=.ok (.int .i64 (y1)) w:=part_one Tryz.isAgg3 rfl
 have y2p:(part 3 #[.int .i64 (y0),.int .i64 (y1),.int .i64 (y2)] 2).run Tryz.prog w=.ok (.int .i64 (y2)) w:=part_one Tryz.isAgg3 rfl
 simp only [Op.eqFields,Sem.run_bind,Sem.run_ite,Sem.run_pure,x0p,x1p,x2p,y0p,y1p,y2p,Result.andThen_ok,run_equalIn_int _ _ _ _ _ _ _ Tryz.underlying3]
 simp
 grind
theorem eg_65:Tryz.prog.eqGuardType Tryz.prog.depth 65=false:=by kernel_rfl
theorem info_75:(Tryz.prog.info? 75).map (fun i=>(i.zero,i.size,i.bytes))=some (some (.slice none 0 0),1,24):=by kernel_rfl
theorem lay_58:layoutOf Tryz.prog 58=some ([.int .i64 0,.int .i64 0,.int .i64 0],[(0,1),(1,2)]):=by kernel_rfl
theorem tup3_0 {b0 b1 b2:Value} {B0:Value→Prop} {B1:Value→Prop} {B2:Value→Prop} (h:∃ c0 c1 c2:Value,Value.tuple #[b0,b1,b2]=.tuple #[c0,c1,c2]∧B0 c0∧B1 c1∧B2 c2):B0 b0:=by
 obtain ⟨c0,c1,c2,he,h0,h1,h2⟩:=h; simp at he; obtain ⟨rfl,rfl,rfl⟩:=he; exact h0
theorem tup3_1 {b0 b1 b2:Value} {B0:Value→Prop} {B1:Value→Prop} {B2:Value→Prop} (h:∃ c0 c1 c2:Value,Value.tuple #[b0,b1,b2]=.tuple #[c0,c1,c2]∧B0 c0∧B1 c1∧B2 c2):B1 b1:=by
 obtain ⟨c0,c1,c2,he,h0,h1,h2⟩:=h; simp at he; obtain ⟨rfl,rfl,rfl⟩:=he; exact h1
theorem tup2_0 {b0 b1:Value} {B0:Value→Prop} {B1:Value→Prop} (h:∃ c0 c1:Value,Value.tuple #[b0,b1]=.tuple #[c0,c1]∧B0 c0∧B1 c1):B0 b0:=by
 obtain ⟨c0,c1,he,h0,h1⟩:=h; simp at he; obtain ⟨rfl,rfl⟩:=he; exact h0
def f35 (x0:List LoomRun):Option (List LoomRun):=apnd 24 [] x0
theorem en35:Enters Tryz.prog 35:=enters_of Tryz.func35 (by kernel_rfl) rfl
def f69 (x0:List Int):Option (List Int):=apnd 8 [] x0
theorem en69:Enters Tryz.prog 69:=enters_of Tryz.func69 (by kernel_rfl) rfl
def f70 (x0:List FaultDamage):Option (List FaultDamage):=apnd 40 [] x0
theorem en70:Enters Tryz.prog 70:=enters_of Tryz.func70 (by kernel_rfl) rfl
theorem atS_0 (a:Addr) (w:World):(Instr.fieldAt 181 (.pointer (some a)) 0).run Tryz.prog w=.ok (.pointer (some (a.add 0))) w:=by simp [Instr.fieldAt,run_underlying Tryz.underlying181,Instr.sureAddr,fieldPlace,Result.andThen]
theorem atS_1 (a:Addr) (w:World):(Instr.fieldAt 181 (.pointer (some a)) 1).run Tryz.prog w=.ok (.pointer (some (a.add 1))) w:=by simp [Instr.fieldAt,run_underlying Tryz.underlying181,Instr.sureAddr,fieldPlace,Result.andThen]
theorem sb_size:(Tryz.prog.info? 181).map (·.size)=some 2:=by kernel_rfl
theorem sb_psize:∃ j,Tryz.prog.info? 181=some j∧j.size=2:=Option.map_eq_some_iff.1 sb_size
theorem en124:Enters Tryz.prog 124:=enters_of Tryz.func124 (by kernel_rfl) rfl
theorem ob_shape {i:Nat} {g:Gh} {w:World} {x:Fv × List UInt8} {b o:Nat} (hb:OB i g w 181 x (.pointer (some ⟨b,o,none⟩))):o=0∧w.shape? b=some (181,2):=by
 obtain ⟨b',cs,hp,_,_,hh,hr⟩:=hb
 injection hp with hp; injection hp with hp; injection hp with h1 h2
 subst h1; subst h2
 have hl:=GoT.len hr
 simp [GoT.k] at hl
 exact ⟨rfl,by simp [World.shape?,hh,hl]⟩
theorem wk124 {i j : Nat} (hji : Nat.beq j i = false) {g : Gh} {w : World} {a : Fv} {xs : List UInt8} {p : Value} (hb : OB i g w 181 (a, xs) p) (ho : OSF i j 1 g w 5 181 xs p) (ha : a.v = .pointer none ∨ a.v = p) :
  Calls Tryz.prog 124 #[p] w fun r w'=>∃ v,r=.returned v∧∃ g',Stp i g w g' w'∧∃ a':Fv,a'.v=p∧OB i g' w' 181 (a',xs) p∧OSF i j 1 g' w' 5 181 xs p:=by
 obtain ⟨b,o,rfl⟩:=hb.ptr
 obtain ⟨hoff,hsh⟩:=ob_shape hb
 subst hoff
 obtain ⟨jt,hj,hjs⟩:=sb_psize
 refine calls_of_E Tryz.func124 rfl (Nat.le_of_ble_eq_true rfl) ?_
 show E _ 20 none _ _ _ _ _
 refine Zf (Za (Zn (.pointer (some ⟨b,0,none⟩)) rfl rfl ?_))
 refine EL_p (.pointer (some ⟨b,0,none⟩)) (P_nilCheck rfl) rfl ?_
 refine EL_p (fPtr (.pointer (some ⟨b,0,none⟩)) 0) (Zc atS_0 rfl ⟨b,0,rfl⟩) rfl ?_
 refine Ze .plain rfl (D_loadF (g:=g) (a:=(a,xs)) Sub.fst Tryz.isAgg179 Tryz.sizeOf179 rfl hb fun v r=>?_)
 obtain rfl:=RV_fv.1 r
 rcases ha with ha | ha
 ·refine EL_p (.bool true) (P_ptreq (u2 := .pointer none) (.inl rfl) (show _ = .pointer none from ha) rfl ⟨_, rfl⟩ ⟨_, rfl⟩ (fun w => by simpa using run_eql_pointer_nil (P := Tryz.prog) w 179 none Tryz.underlying179)) rfl ?_
  refine Zb (Zd (E_cond_true rfl (Za ?_)))
  refine Zn (.pointer (some ⟨b,0,none⟩)) rfl rfl ?_
  refine Zn (.pointer (some ⟨b,0,none⟩)) rfl rfl ?_
  refine EL_val (v:=.pointer (some ⟨b,0,none⟩)) (w':=w) .plain (fun _ h=>by cases h) rfl (by
   have:=Lib.run_to_unsafe w ⟨b,0,none⟩ Tryz.underlying179 Tryz.underlying198 hj (by rw [hjs]; decide) hsh (by show 0 < 2; omega)
   show (Sem.run _ (execOp _ _) _)=_
   simp only [execOp,Sem.run_bind]
   rw [show ev _ (Operand.tmp 8)=Value.pointer (some ⟨b,0,none⟩) from rfl,this]
   rfl) ?_
  refine EL_p (.pointer (some ⟨b,0,none⟩)) (P_extern Tryz.func127 (by kernel_rfl) (by kernel_rfl) (by kernel_rfl) (ex:=Extern.AbiNoEscape.same) (by kernel_rfl) (.cons rfl .nil) (fun _=>rfl)) rfl ?_
  refine EL_val (v:=.pointer (some ⟨b,0,none⟩)) (w':=w) .plain (fun _ h=>by cases h) rfl (by
   have:=Lib.run_from_unsafe w ⟨b,0,none⟩ Tryz.underlying198 Tryz.underlying179 hj hsh (by kernel_rfl)
   show (Sem.run _ (execOp _ _) _)=_
   simp only [execOp,Sem.run_bind]
   rw [show ev _ (Operand.tmp 10)=Value.pointer (some ⟨b,0,none⟩) from rfl,this]
   rfl) ?_
  refine EL_p (.pointer (some ⟨b,0,none⟩)) (P_nilCheck rfl) rfl ?_
  refine EL_p (fPtr (.pointer (some ⟨b,0,none⟩)) 0) (Zc atS_0 rfl ⟨b,0,rfl⟩) rfl ?_
  refine Ze .plain rfl (D_storeFc (g:=g) (a:=(a,xs)) (b:=(⟨.pointer (some ⟨b,0,none⟩),rfl⟩:Fv)) SubS.fst Tryz.sizeOf179 rfl hb rfl (RV_fv.2 rfl) fun g1 w1 hs b1 rst _=>?_)
  exact Zb (end0n rfl rfl ⟨g1,hs,_,rfl,b1,ho.rest hs rst rfl hji⟩)
 ·refine EL_p (.bool false) (P_ptreq (u2 := .pointer none) (.inl rfl) (show _ = .pointer (some ⟨b, 0, none⟩) from ha) rfl ⟨_, rfl⟩ ⟨_, rfl⟩ (fun w => by simpa using run_eql_pointer_nil (P := Tryz.prog) w 179 (some ⟨b, 0, none⟩) Tryz.underlying179)) rfl ?_
  refine Zb (Zd (E_cond_false rfl ?_))
  refine Zf (Za (Zn (.pointer (some ⟨b,0,none⟩)) rfl rfl ?_))
  refine EL_p (.pointer (some ⟨b,0,none⟩)) (P_nilCheck rfl) rfl ?_
  refine EL_p (fPtr (.pointer (some ⟨b,0,none⟩)) 0) (Zc atS_0 rfl ⟨b,0,rfl⟩) rfl ?_
  refine Ze .plain rfl (D_loadF (g:=g) (a:=(a,xs)) Sub.fst Tryz.isAgg179 Tryz.sizeOf179 rfl hb fun v r=>?_)
  obtain rfl:=RV_fv.1 r
  refine Zn (.pointer (some ⟨b,0,none⟩)) rfl rfl ?_
  refine EL_p (.bool false) (P_ptreq (.inr rfl) (show _=.pointer (some ⟨b,0,none⟩) from ha) rfl ⟨_,rfl⟩ ⟨_,rfl⟩ (fun w=>Lib.run_neq_ptr_same w ⟨b,0,none⟩ Tryz.underlying179 hj)) rfl ?_
  refine Zb (Zd (E_cond_false rfl (Zu ?_)))
  exact end0n rfl rfl ⟨g,stp_refl _ _ _,_,ha,hb,ho⟩
theorem en114:Enters Tryz.prog 114:=enters_of Tryz.func114 (by kernel_rfl) rfl
theorem wk114 {i j : Nat} (hji : Nat.beq j i = false) (hij : Nat.beq i j = false) {g : Gh} {w : World} {c : UInt8} {xs r : List UInt8} {p : Value} (hsb : SB i j g w 5 181 xs p) (hr : apnd 1 xs [c] = some r) :
  Calls Tryz.prog 114 #[p,.int .u8 c.toNat] w fun q w'=>∃ v,q=.returned v∧v=.nilIface∧WB i j g w 5 181 r p w':=by
 obtain ⟨a,hb,ho,ha⟩:=hsb
 obtain ⟨b,o,rfl⟩:=hb.ptr
 obtain ⟨hoff,hsh⟩:=ob_shape hb
 subst hoff
 refine calls_of_E Tryz.func114 rfl (Nat.le_of_ble_eq_true rfl) ?_
 show E _ 17 none _ _ _ _ _
 refine Zf (Za (Zg (.nilIface) rfl rfl ?_))
 refine Zb (Zd (Zf (Za (Zn (.pointer (some ⟨b,0,none⟩)) rfl rfl ?_))))
 refine Ze .plain rfl (D_callC (vs:=[.pointer (some ⟨b,0,none⟩)]) en124 (.cons rfl .nil) (wk124 hji hb ho ha) fun v w1 h1=>?_)
 obtain ⟨g1,hs1,a1,ha1,hb1,ho1⟩:=h1
 refine Zb (Zd (Zf (Za (Zn (.pointer (some ⟨b,0,none⟩)) rfl rfl ?_))))
 refine Zn (.pointer (some ⟨b,0,none⟩)) rfl rfl ?_
 refine EL_p (.pointer (some ⟨b,0,none⟩)) (P_nilCheck rfl) rfl ?_
 refine EL_p (fPtr (.pointer (some ⟨b,0,none⟩)) 1) (Zc atS_1 rfl ⟨b,0,rfl⟩) rfl ?_
 refine Ze .plain rfl (D_loadFS (g:=g1) (a:=(a1,xs)) (f:=Prod.snd) Sub.snd Tryz.isAgg145 Tryz.sizeOf145 rfl hb1 ho1 fun v2 r2 o2=>?_)
 refine Zn (.int .u8 c.toNat) rfl rfl ?_
 refine Ze .plain rfl (D_buildSlice (g:=g1) 1 (xs:=[c]) (vs:=[.int .u8 c.toNat]) Tryz.underlying145 Tryz.sizeOf5 Tryz.zeroValue5 rfl rfl (.cons rfl .nil) (RVs.cons (RV_u8.2 rfl) RVs.nil) rfl rfl fun g3 w3 v3 _ _ r3 hxt _=>?_)
 refine Ze .plain rfl (D_append (g:=g3) (i:=j) Tryz.underlying145 info_5 rfl rfl (o2.ext hxt) (r2.ext hxt) rfl r3 hr fun g4 w4 v4 hs4 o4 r4 _=>?_)
 have hb4:=(hb1.ext hxt).stp hs4 hij
 refine EL_p (.pointer (some ⟨b,0,none⟩)) (P_nilCheck rfl) rfl ?_
 refine EL_p (fPtr (.pointer (some ⟨b,0,none⟩)) 1) (Zc atS_1 rfl ⟨b,0,rfl⟩) rfl ?_
 refine Ze .plain rfl (D_storeFc (g:=g4) (a:=(a1,xs)) SubS.snd Tryz.sizeOf145 rfl hb4 rfl r4 fun g5 w5 hs5 b5 _ hos=>?_)
 have o5:=hos _ _ j 5 r (rv_cells1 r4) hji o4
 refine Zb (Zd (Zf (Za (Zg (.nilIface) rfl rfl ?_))))
 refine Zb (Zd (E_ret (end1 rfl rfl (show _=.nilIface from rfl) ⟨rfl,g5,⟨g1,w1,g4,w4,hs1,(hxt.stp.trans hs4),hs5⟩,a1,b5,o5,.inr ha1⟩)))
theorem en117:Enters Tryz.prog 117:=enters_of Tryz.func117 (by kernel_rfl) rfl
theorem mixedS:Tryz.prog.follows .mixedOrders=true:=by kernel_rfl
theorem wk117 {i j : Nat} (hij : Nat.beq i 0 = false) {g : Gh} {w : World} {xs : List UInt8} {p : Value} (hsb : SB i j g w 5 181 xs p) (h0 : xs ≠ []) :
  Calls Tryz.prog 117 #[p] w fun q w'=>∃ v,q=.returned v∧GS j g w xs v w':=by
 obtain ⟨a,hb,ho,ha⟩:=hsb
 obtain ⟨b,o,rfl⟩:=hb.ptr
 obtain ⟨hoff,hsh⟩:=ob_shape hb
 subst hoff
 refine calls_of_E Tryz.func117 rfl (Nat.le_of_ble_eq_true rfl) ?_
 show E _ 14 none _ _ _ _ _
 refine Zf (Za (Zg (Str.v ⟨[]⟩) rfl rfl ?_))
 refine Zb (Zd (L_loadFSx (f:=Prod.snd) (a:=(a,xs)) Sub.snd Tryz.isAgg145 Tryz.sizeOf145 hb ho fun v r os hl=>?_))
 obtain ⟨sa,c,rfl,hc,_⟩:=RV_list r
 have hne:c ≠ 0:=by
  have : 0 < xs.length := by cases xs with
   | nil=>exact absurd rfl h0
   | cons _ _=>simp
  have hc':xs.length ≤ c:=hc
  omega
 refine Zf (E_drawL (g:=g) (n:=10) [] [0,1,2,3,4,5,6,7,8,9] rfl mixedS (by kernel_rfl) trivial ?_)
 refine L_p (.pointer (some ⟨b,0,none⟩)) rfl rfl (Zk rfl) ?_
 refine L_p (.pointer (some ⟨b,0,none⟩)) rfl rfl (P_nilCheck rfl) ?_
 refine L_p (fPtr (.pointer (some ⟨b,0,none⟩)) 1) rfl rfl (Zc atS_1 rfl ⟨b,0,rfl⟩) ?_
 refine L_ld (c:=.slice sa xs.length c) rfl rfl .plain (fun _ _ h=>⟨h.ch,fun b hb _=>h.below.block b hb⟩) (hl _) rfl ?_
 refine L_p (.pointer sa) rfl rfl (P_sliceData (a:=sa) (n:=xs.length) (c:=c) rfl (.inl hne)) ?_
 refine L_p (.pointer (some ⟨b,0,none⟩)) rfl rfl (Zk rfl) ?_
 refine L_p (.pointer (some ⟨b,0,none⟩)) rfl rfl (P_nilCheck rfl) ?_
 refine L_p (fPtr (.pointer (some ⟨b,0,none⟩)) 1) rfl rfl (Zc atS_1 rfl ⟨b,0,rfl⟩) ?_
 refine L_ld (c:=.slice sa xs.length c) rfl rfl .plain (fun _ _ h=>⟨h.ch,fun b hb _=>h.below.block b hb⟩) (hl _) rfl ?_
 refine L_p (.int .i64 (xs.length:Int)) rfl rfl (P_len (v:=.slice sa xs.length c) Tryz.underlying145 rfl r) ?_
 refine L_nil fun g1 w1 hall=>?_
 have hs:=hall.1
 refine Ze .plain rfl (D_unsafeString (g:=g1) (j:=j) (et:=5) rfl Tryz.underlying194 (by kernel_rfl) h0 rfl rfl (os.ext hs) (r.ext hs) fun g2 w2 hs2=>?_)
 refine Zg (Str.v ⟨xs⟩) rfl rfl ?_
 exact Zb (Zd (E_ret (end1 rfl rfl (show _=Str.v ⟨xs⟩ from rfl) ⟨rfl,g2,hs.stp.trans hs2⟩)))
def lenTab:Str:=(⟨[0,1,2,2,3,3,3,3,4,4,4,4,4,4,4,4,5,5,5,5,5,5,5,5,5,5,5,5,5,5,5,5,6,6,6,6,6,6,6,6,6,6,6,6,6,6,6,6,6,6,6,6,6,6,6,6,6,6,6,6,6,6,6,6,7,7,7,7,7,7,7,7,7,7,7,7,7,7,7,7,7,7,7,7,7,7,7,7,7,7,7,7,7,7,7,7,7,7,7,7,7,7,7,7,7,7,7,7,7,7,7,7,7,7,7,7,7,7,7,7,7,7,7,7,7,7,7,7,8,8,8,8,8,8,8,8,8,8,8,8,8,8,8,8,8,8,8,8,8,8,8,8,8,8,8,8,8,8,8,8,8,8,8,8,8,8,8,8,8,8,8,8,8,8,8,8,8,8,8,8,8,8,8,8,8,8,8,8,8,8,8,8,8,8,8,8,8,8,8,8,8,8,8,8,8,8,8,8,8,8,8,8,8,8,8,8,8,8,8,8,8,8,8,8,8,8,8,8,8,8,8,8,8,8,8,8,8,8,8,8,8,8,8,8,8,8,8,8,8,8,8,8,8,8,8,8]⟩:Str)
def f109 (x:Int):Option Int:=if 0 ≤ x∧x < 256 then (idx lenTab.b x).map fun c=>w64 (0 + (c.toNat:Int)) else none
def f85 (x:Int):Option Int:=f109 x
theorem en109:Enters Tryz.prog 109:=enters_of Tryz.func109 (by kernel_rfl) rfl
theorem en85:Enters Tryz.prog 85:=enters_of Tryz.func85 (by kernel_rfl) rfl
theorem wk109 {gI:Gh} {wI:World} {x0:Int} {r:Int} (h:f109 x0=some r):Fn Tryz.prog 109 #[.int .u64 x0] gI wI (fun _ _ v=>v=.int .i64 (r)):=by
 unfold f109 at h
 split at h
 case isFalse=>cases h
 rename_i hx
 obtain ⟨h0,h1⟩:=hx
 cases hc:idx lenTab.b x0 with
 | none=>rw [hc] at h; cases h
 | some c=>
 rw [hc] at h
 obtain rfl:=sinj h
 refine fn_of_E Tryz.func109 rfl (Nat.le_of_ble_eq_true rfl) fun g0 hm hfr=>?_
 show E _ 25 none _ _ _ _ _
 refine Zf (Za (Zg (.int .i64 0) rfl rfl (Zb (Zd ?_))))
 refine Zf (Zf (Za (Zn (.int .u64 x0) rfl rfl ?_)))
 refine EL_p (.bool false) (P_u64lt rfl rfl (by omega)) rfl (Zb (Zd ?_))
 refine E_cond_false rfl (Zu (Zd ?_))
 refine Zf (Zf (Za (Zn (.int .u64 x0) rfl rfl ?_)))
 refine EL_p (.bool false) (P_u64lt rfl rfl (by omega)) rfl (Zb (Zd ?_))
 refine E_cond_false rfl (Zu (Zd ?_))
 refine Zf (Zf (Za (Zn (.int .u64 x0) rfl rfl ?_)))
 refine EL_p (.bool false) (P_u64lt rfl rfl (by omega)) rfl (Zb (Zd ?_))
 refine E_cond_false rfl (Zu (Zd ?_))
 refine Zf (Za (Zn (.int .i64 0) rfl rfl ?_))
 refine Zn (.int .u64 x0) rfl rfl ?_
 refine EL_p (.int .u8 x0) (P_u64u8 Tryz.underlying176 Tryz.underlying5 rfl h0 h1) rfl ?_
 refine EL_p (.int .u8 c.toNat) (P_indexS (s:=lenTab) Tryz.underlying9 rfl rfl hc) rfl ?_
 refine EL_p (.int .i64 (c.toNat:Int)) (P_u8int Tryz.underlying5 Tryz.underlying2 rfl) rfl ?_
 refine EL_in (.int .i64 (w64 (0 + (c.toNat:Int)))) rfl rfl rfl rfl ?_
 refine Zg (.int .i64 (w64 (0 + (c.toNat:Int)))) rfl rfl (Zb (Zd ?_))
 exact E_ret (end1 rfl rfl (show _=_ from rfl) ⟨_,hfr,rfl⟩)
theorem wk85 {gI:Gh} {wI:World} {x0:Int} {r:Int} (h:f85 x0=some r):Fn Tryz.prog 85 #[.int .u64 x0] gI wI (fun _ _ v=>v=.int .i64 (r)):=by
 unfold f85 at h
 refine fn_of_E Tryz.func85 rfl (Nat.le_of_ble_eq_true rfl) fun g0 hm hfr=>?_
 show E _ 8 none _ _ _ _ _
 refine Zf (Za (Zg (.int .i64 0) rfl rfl (Zb (Zd ?_))))
 refine Zf (E_cond_false rfl (Zu (Zd ?_)))
 refine Zf (Za (Zn (.int .u64 x0) rfl rfl ?_))
 refine Ze .plain rfl (Zp (g:=g0) (vs:=[.int .u64 x0]) en109 (.cons rfl .nil) (wk109 h) fun g1 w1 v1 hs hr=>?_)
 have hfr:=hfr.ext hs
 subst hr
 refine Zg (.int .i64 r) rfl rfl (Zb (Zd ?_))
 exact E_ret (end1 rfl rfl (show _=_ from rfl) ⟨_,hfr,rfl⟩)
def f4 (x0:UInt8) (x1:UInt8) (x2:List (Vector UInt8 3)):Option (LoomMill × (List LoomOrder)):=
 (rem64 ((x1).toNat:Int) (4:Int)).bind fun y2=>
 Option.bind (α:=LoomMill) (
  lp (σ:=LoomMill × Int) (fun dG (d7,o3)=>
   jn (σ:=Unit) (fun _=>
    Option.bind (α:=LoomMill) (
     (apnd 8 ((d7).Widths) (([(10:Int)]:List Int))).bind fun tB=>
     some ({ d7 with Widths:=tB })
     ) fun j7=>
    dG (j7,(w64 (o3 + (1:Int))))
    ) fun eG=>
   (rem64 ((x0).toNat:Int) (3:Int)).bind fun lA=>
   bif (decide (o3 ≤ lA)) then
    eG ()
   else
    some (d7)
   ) big ((⟨[],y2⟩:LoomMill),(0:Int))
  ) fun j1=>
 Option.bind (α:=(List LoomOrder)) (
  lp (σ:=(List LoomOrder) × Int × Int) (fun vB (z4,d3,o0)=>
   jn (σ:=Unit) (fun _=>
    Option.bind (α:=(List LoomOrder) × Int) (
     (idx x2 o0).bind fun xB=>
     (idx (xB).toList (0:Int)).bind fun g8=>
     (rem64 ((g8).toNat:Int) (10:Int)).bind fun x5=>
     (idx x2 o0).bind fun yB=>
     (idx (yB).toList (1:Int)).bind fun i8=>
     (rem64 ((i8).toNat:Int) (3:Int)).bind fun a7=>
     (idx x2 o0).bind fun zB=>
     (idx (zB).toList (2:Int)).bind fun k8=>
     (rem64 ((k8).toNat:Int) (12:Int)).bind fun i3=>
     (idx x2 o0).bind fun aC=>
     (idx (aC).toList (1:Int)).bind fun gA=>
     (quo64 ((gA).toNat:Int) (3:Int)).bind fun iA=>
     (rem64 iA (9:Int)).bind fun n7=>
     (apnd 40 z4 (([(⟨(w64 ((1:Int) + x5)),a7,(w64 ((1:Int) + i3)),0,(w64 ((w64 (d3 + (w64 ((w64 ((1:Int) + i3)) + (j1).Change)))) + n7))⟩:LoomOrder)]:List LoomOrder))).bind fun cC=>
     some (cC,(w64 (d3 + (w64 ((w64 ((1:Int) + i3)) + (j1).Change)))))
     ) fun (b7,e7)=>
    vB (b7,e7,(w64 (o0 + (1:Int))))
    ) fun dC=>
   Option.bind (α:=Bool) (
    bif (decide (o0 < ((x2).length : Int))) then
     some ((decide (o0 < (6:Int))))
    else
     some (false)
    ) fun q5=>
   bif q5 then
    dC ()
   else
    some (z4)
   ) big (([]:List LoomOrder),(0:Int),(0:Int))
  ) fun m7=>
 some (j1,m7)
theorem en4:Enters Tryz.prog 4:=enters_of Tryz.func4 (by kernel_rfl) rfl
theorem wk4 {gI:Gh} {wI:World} {x0:UInt8} {x1:UInt8} {x2:List (Vector UInt8 3)} {up2:Value} (rp2:RV gI.m wI x2 up2) {r:LoomMill × (List LoomOrder)} (h:f4 x0 x1 x2=some r):Fn Tryz.prog 4 #[.int .u8 (UInt8.toNat (x0)),.int .u8 (UInt8.toNat (x1)),up2] gI wI (fun m w v=>∃ y0 y1,v=.tuple #[y0,y1]∧RV m w (r.1) y0∧RV m w (r.2) y1):=by
 unfold f4 at h
 refine fn_of_E Tryz.func4 rfl (Nat.le_of_ble_eq_true rfl) fun g0 hm hfr=>?_
 have rp2:RV g0.m wI x2 up2:=hm ▸ rp2
 show E _ 89 none _ _ _ _ _
 refine Zf (Za (Ze .plain rfl (D_allocOc (g:=g0) 2006 (⟨[],0⟩:LoomMill) Tryz.zeroValue28 (fun m w=>⟨_,(rep_two rep_nil rep_int),rfl⟩) fun g1 w1 p1 hs b1 cb=>?_)))
 have hfr:=hfr.stp hs
 have rp2:=rp2.stp hs
 have i7:OSF 2006 60600 0 g1 w1 3 28 ([]:List Int) p1:=cb.osf (by rfl)
 clear cb
 refine Zg (.slice none 0 0) rfl rfl ?_
 refine Zb (Zd (Zf (Za (Zn (.int .u8 (UInt8.toNat (x1))) rfl rfl ?_))))
 refine EL_p (.int .i64 (((x1).toNat:Int))) (P_u8int Tryz.underlying5 Tryz.underlying3 rfl) rfl ?_
 obtain ⟨y2,hy2,h⟩:=bsome h
 refine EL_p (.int .i64 (y2)) (P_int rfl rfl (congrArg (Option.map (Value.int .i64)) hy2)) rfl ?_
 have r3:RV g1.m w1 (⟨[],y2⟩:LoomMill) (.agg (setCh [[.slice none 0 0],[.int .i64 0]] [(1,.int .i64 (y2))]).flatten.toArray):=RV_build rfl (rep_pair (rep_nil) (rep_last (rfl)))
 generalize hv3:(Value.agg (setCh [[.slice none 0 0],[.int .i64 0]] [(1,.int .i64 (y2))]).flatten.toArray)=v3 at r3
 refine EL_p v3 (hv3 ▸ P_build (vs:=[(1,.int .i64 (y2))]) [[.slice none 0 0],[.int .i64 0]] lay_28 rfl rfl (.cons rfl .nil) ⟨⟨_,rfl,rfl⟩,trivial⟩) rfl ?_
 refine Ze .plain rfl (D_buildSlice (g:=g1) 3018 (xs:=([]:List LoomOrder)) (vs:=[]) Tryz.underlying29 Tryz.sizeOf67 Tryz.zeroValue67 rfl rfl .nil RVs.nil rfl rfl fun g4 w4 v4 hs o4 r4 hxt hfl=>?_)
 have hfr:=hfr.stp hs
 have rp2:=rp2.stp hs
 have i7:=i7.stp hs rfl
 have b1:=b1.stp hs rfl
 have r3:=r3.stp hs
 refine Ze .plain rfl (D_allocOc (g:=g4) 2008 (⟨[],0⟩:LoomMill) Tryz.zeroValue28 (fun m w=>⟨_,(rep_two rep_nil rep_int),rfl⟩) fun g5 w5 p5 hs b5 cb=>?_)
 have hfr:=hfr.stp hs
 have rp2:=rp2.stp hs
 have i7:=i7.stp hs rfl
 have b1:=b1.stp hs rfl
 have r3:=r3.stp hs
 have r4:=r4.stp hs
 have o4:=o4.stp hs rfl
 have bI:OSF 2008 60800 0 g5 w5 3 28 ([]:List Int) p5:=cb.osf (by rfl)
 clear cb
 refine Ze .plain rfl (D_storeOc (g:=g5) (v:=v3) Tryz.sizeOf28 rfl b5 rfl r3 fun g6 w6 hs b6 cb=>?_)
 have jG:OSF 2008 60800 0 g6 w6 3 28 ([]:List Int) p5:=cb.osf (by rw [← hv3]; rfl)
 clear cb
 have hfr:=hfr.stp hs
 have rp2:=rp2.stp hs
 have i7:=i7.stp hs rfl
 have b1:=b1.stp hs rfl
 have r4:=r4.stp hs
 have o4:=o4.stp hs rfl
 refine Zg v4 rfl rfl ?_
 refine Zg (.int .i64 (0)) rfl rfl ?_
 refine Zb (Zd ?_)
 obtain ⟨j1,hx,h⟩:=bsome h
 refine E_join (fun e w=>∃ (g:Gh) ,Fr gI wI g w∧e 2=up2∧RV g.m w (x2:List (Vector UInt8 3)) up2∧e 6=p1∧OB 2006 g w 28 ((⟨[],0⟩:LoomMill):LoomMill) p1∧OSF 2006 60600 0 g w 3 28 (((⟨[],0⟩:LoomMill)).Widths) p1∧e 8=p5∧OB 2008 g w 28 (j1:LoomMill) p5∧OSF 2008 60800 0 g w 3 28 ((j1).Widths) p5∧e 9=v4∧RV g.m w (([]:List LoomOrder):List LoomOrder) v4∧OS 3018 g w 67 (([]:List LoomOrder):List LoomOrder) v4∧e 10=.int .i64 ((0:Int))) (fun Q' hQ=>?_) (fun cI dJ hR=>?_)
 ·replace h := hx
  clear hx
  refine Zf (Za (Zg (.int .i64 (0)) rfl rfl ?_))
  refine Zb (Zd (Zr ?_))
  refine E_lp h (fun (s:LoomMill × Int) e w=>∃ (g:Gh) ,Fr gI wI g w∧e 0=.int .u8 (UInt8.toNat (x0))∧e 2=up2∧RV g.m w (x2:List (Vector UInt8 3)) up2∧e 6=p1∧OB 2006 g w 28 ((⟨[],0⟩:LoomMill):LoomMill) p1∧OSF 2006 60600 0 g w 3 28 (((⟨[],0⟩:LoomMill)).Widths) p1∧e 8=p5∧OB 2008 g w 28 (s.1:LoomMill) p5∧OSF 2008 60800 0 g w 3 28 ((s.1).Widths) p5∧e 9=v4∧RV g.m w (([]:List LoomOrder):List LoomOrder) v4∧OS 3018 g w 67 (([]:List LoomOrder):List LoomOrder) v4∧e 10=.int .i64 ((0:Int))∧e 11=.int .i64 (s.2)) ⟨g6,hfr,rfl,rfl,rp2,rfl,b1,i7,rfl,b6,jG,rfl,r4,o4,rfl,rfl⟩ (fun X30 dG kG=>?_)
  rintro ⟨d7,o3⟩ dI eJ ⟨gG,hfr,mA,nA,oA,pA,qA,u6_0_31,rA,sA,u8_0_31,uA,xA,yA,q8,r8⟩ h
  refine Zq h (fun (s:Unit) e w=>∃ (g:Gh) ,Fr gI wI g w∧e 0=.int .u8 (UInt8.toNat (x0))∧e 2=up2∧RV g.m w (x2:List (Vector UInt8 3)) up2∧e 6=p1∧OB 2006 g w 28 ((⟨[],0⟩:LoomMill):LoomMill) p1∧OSF 2006 60600 0 g w 3 28 (((⟨[],0⟩:LoomMill)).Widths) p1∧e 8=p5∧OB 2008 g w 28 (d7:LoomMill) p5∧OSF 2008 60800 0 g w 3 28 ((d7).Widths) p5∧e 9=v4∧RV g.m w (([]:List LoomOrder):List LoomOrder) v4∧OS 3018 g w 67 (([]:List LoomOrder):List LoomOrder) v4∧e 10=.int .i64 ((0:Int))∧e 11=.int .i64 (o3)) (fun X34 eG lG h=>?_) ?_
  ·refine Zf (Za (Zo r8 rfl ?_))
   refine Zo mA rfl ?_
   refine EL_p (.int .i64 (((x0).toNat:Int))) (P_u8int Tryz.underlying5 Tryz.underlying3 rfl) rfl ?_
   obtain ⟨lA,mG,h⟩:=bsome h
   refine EL_p (.int .i64 (lA)) (P_int rfl rfl (congrArg (Option.map (Value.int .i64)) mG)) rfl ?_
   refine EL_in (.bool ((decide (o3 ≤ lA)))) rfl rfl rfl rfl ?_
   refine Zb (Zd ?_)
   rcases Zt h with ⟨jA,h⟩ | ⟨jA,h⟩
   ·refine E_ct jA rfl ?_
    exact Zu (Zd (lG () _ _ ⟨gG,hfr,mA,nA,oA,pA,qA,u6_0_31,rA,sA,u8_0_31,uA,xA,yA,q8,r8⟩ h))
   ·refine E_cf jA rfl ?_
    refine E_exit ?_
    refine thn_e ?_
    refine thn_e ?_
    refine blk_hit ?_
    obtain rfl:=sinj h
    exact hQ _ _ ⟨gG,hfr,nA,oA,pA,qA,u6_0_31,rA,sA,u8_0_31,uA,xA,yA,q8⟩
  ·rintro _ iI gJ ⟨hG, hfr, dE, eE, i6, gE, j6, u6_0_37, l8, l5, u8_0_37, iE, v6, x6, eC, iC⟩ h
   obtain ⟨j7,hx,h⟩:=bsome h
   refine E_join (fun e w=>∃ (g:Gh) ,Fr gI wI g w∧e 0=.int .u8 (UInt8.toNat (x0))∧e 2=up2∧RV g.m w (x2:List (Vector UInt8 3)) up2∧e 6=p1∧OB 2006 g w 28 ((⟨[],0⟩:LoomMill):LoomMill) p1∧OSF 2006 60600 0 g w 3 28 (((⟨[],0⟩:LoomMill)).Widths) p1∧e 8=p5∧OB 2008 g w 28 (j7:LoomMill) p5∧OSF 2008 60800 0 g w 3 28 ((j7).Widths) p5∧e 9=v4∧RV g.m w (([]:List LoomOrder):List LoomOrder) v4∧OS 3018 g w 67 (([]:List LoomOrder):List LoomOrder) v4∧e 10=.int .i64 ((0:Int))∧e 11=.int .i64 (o3)) (fun Q' hQ=>?_) (fun jI iJ hR=>?_)
   ·replace h := hx
    clear hx
    refine Zr ?_
    refine Za (EL_p (fPtr p5 0) (Zc at_28_0 l8 (OB.ptr l5)) rfl ?_)
    refine Ze .plain rfl (D_loadFS (g:=hG) part_LoomMill_0.1 Tryz.isAgg26 Tryz.sizeOf26 rfl l5 u8_0_37 fun jJ jC o46=>?_)
    refine Ze .plain rfl (D_buildSlice (g:=hG) 3028 (xs:=([(10:Int)]:List Int)) (vs:=[.int .i64 (10)]) Tryz.underlying26 Tryz.sizeOf3 Tryz.zeroValue3 rfl rfl (.cons rfl .nil) (RVs.cons (Zj.2 rfl) RVs.nil) rfl rfl fun nH kJ lJ hs o47 oH hxt hfl=>?_)
    have hfr:=hfr.stp hs
    have i6:=i6.stp hs
    have u6_0_37:=u6_0_37.stp hs rfl
    have j6:=j6.stp hs rfl
    have l5:=l5.stp hs rfl
    have v6:=v6.stp hs
    have x6:=x6.stp hs rfl
    have jC:=jC.stp hs
    have o46:=o46.stp hs rfl
    obtain ⟨tB,nG,h⟩:=bsome h
    refine Ze .plain rfl (D_append (g:=nH) (i:=60800) Tryz.underlying26 info_3 rfl rfl o46 jC rfl oH nG fun pH mJ nJ hs o48 iG _=>?_)
    have hfr:=hfr.stp hs
    have i6:=i6.stp hs
    have u6_0_37:=u6_0_37.stp hs rfl
    have j6:=j6.stp hs rfl
    have l5:=l5.stp hs rfl
    have v6:=v6.stp hs
    have x6:=x6.stp hs rfl
    refine EL_p (fPtr p5 0) (Zc at_28_0 l8 (OB.ptr l5)) rfl ?_
    refine Ze .plain rfl (D_storeFc (g:=pH) part_LoomMill_0 Tryz.sizeOf26 rfl l5 rfl iG fun qH oJ hs b51 rst hos=>?_)
    have jE:=hos _ _ 60800 3 (tB:List Int) (rv_cells1 iG) rfl o48
    clear rst hos
    have hfr:=hfr.stp hs
    have i6:=i6.stp hs
    have u6_0_37:=u6_0_37.stp hs rfl
    have j6:=j6.stp hs rfl
    have v6:=v6.stp hs
    have x6:=x6.stp hs rfl
    refine Zb (blk_n ?_)
    obtain rfl:=sinj h
    exact hQ _ _ ⟨qH,hfr,dE,eE,i6,gE,j6,u6_0_37,l8,b51,jE,iE,v6,x6,eC,iC⟩
   ·clear hx
    obtain ⟨sH,hfr,kE,lE,mE,nE,oE,u6_0_52,rE,sE,u8_0_52,tE,uE,vE,kC,lC⟩:=hR
    refine Za (Zo lC rfl ?_)
    refine EL_in (.int .i64 ((w64 (o3 + (1:Int))))) rfl rfl rfl rfl ?_
    refine Zg (.int .i64 ((w64 (o3 + (1:Int))))) rfl rfl ?_
    exact Zb (Zd (kG (j7,(w64 (o3 + (1:Int)))) _ _ ⟨sH,hfr,kE,lE,mE,nE,oE,u6_0_52,rE,sE,u8_0_52,tE,uE,vE,kC,rfl⟩ h))
 ·clear hx
  obtain ⟨tH,hfr,xE,yE,zE,cF,u6_0_53,dF,eF,u8_0_53,iF,nF,oF,mC⟩:=hR
  obtain ⟨m7,hx,h⟩:=bsome h
  refine E_join (fun e w=>∃ (g:Gh) (v9:Value),Fr gI wI g w∧e 6=p1∧OB 2006 g w 28 ((⟨[],0⟩:LoomMill):LoomMill) p1∧OSF 2006 60600 0 g w 3 28 (((⟨[],0⟩:LoomMill)).Widths) p1∧e 8=p5∧OB 2008 g w 28 (j1:LoomMill) p5∧OSF 2008 60800 0 g w 3 28 ((j1).Widths) p5∧e 9=v9∧RV g.m w (m7:List LoomOrder) v9∧OS 3018 g w 67 (m7:List LoomOrder) v9) (fun Q' hQ=>?_) (fun vH kI hR=>?_)
  ·replace h := hx
   clear hx
   refine Zf (Za (Zg (.int .i64 (0)) rfl rfl ?_))
   refine Zb (Zd (Zr ?_))
   refine E_lp h (fun (s:(List LoomOrder) × Int × Int) e w=>∃ (g:Gh) (v9:Value),Fr gI wI g w∧e 2=up2∧RV g.m w (x2:List (Vector UInt8 3)) up2∧e 6=p1∧OB 2006 g w 28 ((⟨[],0⟩:LoomMill):LoomMill) p1∧OSF 2006 60600 0 g w 3 28 (((⟨[],0⟩:LoomMill)).Widths) p1∧e 8=p5∧OB 2008 g w 28 (j1:LoomMill) p5∧OSF 2008 60800 0 g w 3 28 ((j1).Widths) p5∧e 9=v9∧RV g.m w (s.1:List LoomOrder) v9∧OS 3018 g w 67 (s.1:List LoomOrder) v9∧e 10=.int .i64 (s.2.1)∧e 12=.int .i64 (s.2.2)) ⟨tH,(v4),hfr,xE,yE,zE,cF,u6_0_53,dF,eF,u8_0_53,iF,nF,oF,mC,rfl⟩ (fun X208 vB pF=>?_)
   rintro ⟨z4,d3,o0⟩ xH lI ⟨qC,i5,hfr,o7,u7,t8,v8,u6_0_209,x8,y8,u8_0_209,a9,d9,e9,c8,g7⟩ h
   refine Zq h (fun (s:Unit) e w=>∃ (g:Gh) ,Fr gI wI g w∧e 2=up2∧RV g.m w (x2:List (Vector UInt8 3)) up2∧e 6=p1∧OB 2006 g w 28 ((⟨[],0⟩:LoomMill):LoomMill) p1∧OSF 2006 60600 0 g w 3 28 (((⟨[],0⟩:LoomMill)).Widths) p1∧e 8=p5∧OB 2008 g w 28 (j1:LoomMill) p5∧OSF 2008 60800 0 g w 3 28 ((j1).Widths) p5∧e 9=i5∧RV g.m w (z4:List LoomOrder) i5∧OS 3018 g w 67 (z4:List LoomOrder) i5∧e 10=.int .i64 (d3)∧e 12=.int .i64 (o0)) (fun X214 dC qF h=>?_) ?_
   ·obtain ⟨q5, hx, h⟩ := bsome h
    refine E_join (fun e w=>∃ (g:Gh) ,Fr gI wI g w∧e 2=up2∧RV g.m w (x2:List (Vector UInt8 3)) up2∧e 6=p1∧OB 2006 g w 28 ((⟨[],0⟩:LoomMill):LoomMill) p1∧OSF 2006 60600 0 g w 3 28 (((⟨[],0⟩:LoomMill)).Widths) p1∧e 8=p5∧OB 2008 g w 28 (j1:LoomMill) p5∧OSF 2008 60800 0 g w 3 28 ((j1).Widths) p5∧e 9=i5∧RV g.m w (z4:List LoomOrder) i5∧OS 3018 g w 67 (z4:List LoomOrder) i5∧e 10=.int .i64 (d3)∧e 12=.int .i64 (o0)∧e 38=.bool (q5)) (fun Q' hQ=>?_) (fun yH mI hR=>?_)
    ·replace h := hx
     clear hx
     refine Za (Zo g7 rfl ?_)
     refine Zo o7 rfl ?_
     refine EL_p (.int .i64 ((x2).length:Int)) (P_len Tryz.underlying25 rfl u7) rfl ?_
     refine EL_in (.bool ((decide (o0 < ((x2).length:Int))))) rfl rfl rfl rfl ?_
     refine Zn (.bool ((decide (o0 < ((x2).length:Int))))) rfl rfl ?_
     rcases Zt h with ⟨y6,h⟩ | ⟨y6,h⟩
     ·refine EL_y (.int .i64 (o0)) (Zk g7) rfl rfl y6 rfl ?_
      refine EL_y (.bool ((decide (o0 < (6:Int))))) (P_int rfl rfl rfl) rfl rfl y6 rfl ?_
      refine EL_p (.bool ((decide (o0 < (6:Int))))) (Zl (b:=(decide (o0 < ((x2).length:Int)))) rfl (pick_t y6 rfl)) rfl ?_
      refine Zb ?_
      obtain rfl:=sinj h
      exact hQ _ _ ⟨qC,hfr,o7,u7,t8,v8,u6_0_209,x8,y8,u8_0_209,a9,d9,e9,c8,g7,rfl⟩
     ·refine EL_s rfl rfl y6 rfl rfl ?_
      refine EL_s rfl rfl y6 rfl rfl ?_
      refine EL_p (.bool false) (Zl (b:=(decide (o0 < ((x2).length:Int)))) rfl (pick_f y6 rfl)) rfl ?_
      refine Zb ?_
      obtain rfl:=sinj h
      exact hQ _ _ ⟨qC,hfr,o7,u7,t8,v8,u6_0_209,x8,y8,u8_0_209,a9,d9,e9,c8,g7,rfl⟩
    ·clear hx
     obtain ⟨rC,hfr,tC,uC,i9,k9,u6_0_217,l9,n9,u8_0_217,o9,t9,u9,kB,lB,e8⟩:=hR
     rcases Zt h with ⟨m8,h⟩ | ⟨m8,h⟩
     ·refine E_cond_true (Eq.trans (show ev _ _ = .bool (q5) from e8) (congrArg Value.bool m8)) ?_
      exact Zu (Zd (qF () _ _ ⟨rC,hfr,tC,uC,i9,k9,u6_0_217,l9,n9,u8_0_217,o9,t9,u9,kB,lB⟩ h))
     ·refine E_cond_false (Eq.trans (show ev _ _ = .bool (q5) from e8) (congrArg Value.bool m8)) ?_
      refine E_exit ?_
      refine thn_e ?_
      refine thn_e ?_
      refine blk_hit ?_
      obtain rfl:=sinj h
      exact hQ _ _ ⟨rC,(i5),hfr,i9,k9,u6_0_217,l9,n9,u8_0_217,o9,t9,u9⟩
   ·rintro _ zH oG ⟨vC, hfr, c7, u0, xC, j3, u6_0_219, y9, z2, u8_0_219, yC, u3, z3, mB, t5⟩ h
    obtain ⟨⟨b7,e7⟩,hx,h⟩:=bsome h
    refine E_join (fun e w=>∃ (g:Gh) (v9:Value),Fr gI wI g w∧e 2=up2∧RV g.m w (x2:List (Vector UInt8 3)) up2∧e 6=p1∧OB 2006 g w 28 ((⟨[],0⟩:LoomMill):LoomMill) p1∧OSF 2006 60600 0 g w 3 28 (((⟨[],0⟩:LoomMill)).Widths) p1∧e 8=p5∧OB 2008 g w 28 (j1:LoomMill) p5∧OSF 2008 60800 0 g w 3 28 ((j1).Widths) p5∧e 9=v9∧RV g.m w (b7:List LoomOrder) v9∧OS 3018 g w 67 (b7:List LoomOrder) v9∧e 10=.int .i64 (e7)∧e 12=.int .i64 (o0)) (fun Q' hQ=>?_) (fun aI nI hR=>?_)
    ·replace h := hx
     clear hx
     refine Zr ?_
     refine Zf ?_
     obtain ⟨xB,zA,h⟩:=bsome h
     have aD:=PT_idx u0 zA
     obtain ⟨g8,aB,h⟩:=bsome h
     have pG:=PT_idxA aD aB
     refine Zs (x:=.tmp 44) Tryz.isAgg5 Tryz.sizeOf5 pG fun oI qG rF=>?_
     obtain rfl:=RV_u8.1 qG
     obtain ⟨x5,sF,h⟩:=bsome h
     obtain ⟨yB,bB,h⟩:=bsome h
     have bD:=PT_idx u0 bB
     obtain ⟨i8,cB,h⟩:=bsome h
     have rG:=PT_idxA bD cB
     refine Zs (x:=.tmp 52) Tryz.isAgg5 Tryz.sizeOf5 rG fun pI sG tF=>?_
     obtain rfl:=RV_u8.1 sG
     obtain ⟨a7,uF,h⟩:=bsome h
     obtain ⟨zB,dB,h⟩:=bsome h
     have cD:=PT_idx u0 dB
     obtain ⟨k8,eB,h⟩:=bsome h
     have tG:=PT_idxA cD eB
     refine Zs (x:=.tmp 59) Tryz.isAgg5 Tryz.sizeOf5 tG fun qI uG vF=>?_
     obtain rfl:=RV_u8.1 uG
     obtain ⟨i3,xF,h⟩:=bsome h
     have n8:RV vC.m oG (⟨(w64 ((1:Int) + x5)),a7,(w64 ((1:Int) + i3)),0,0⟩:LoomOrder) (.agg (setCh [[.int .i64 0],[.int .i64 0],[.int .i64 0],[.int .i64 0],[.int .i64 0]] [(0,.int .i64 ((w64 ((1:Int) + x5)))),(1,.int .i64 (a7)),(2,.int .i64 ((w64 ((1:Int) + i3))))]).flatten.toArray):=RV_build rfl (rep_pair (rfl) (rep_pair (rfl) (rep_pair (rfl) (rep_pair (rep_int) (rep_last (rep_int))))))
     generalize yF:(Value.agg (setCh [[.int .i64 0],[.int .i64 0],[.int .i64 0],[.int .i64 0],[.int .i64 0]] [(0,.int .i64 ((w64 ((1:Int) + x5)))),(1,.int .i64 (a7)),(2,.int .i64 ((w64 ((1:Int) + i3))))]).flatten.toArray)=eD at n8
     refine E_drawL (g:=vC) (n:=25) [(24,(fun v g w=>OB 2013 g w 67 (⟨0,0,0,0,0⟩:LoomOrder) v))] [0,1,2,3,4,5,6,7,8,9,10,11,12,13,14,15,16,17,18,19,20,21,22,23,24] rfl mixed (by kernel_rfl) (⟨fun _=>up_ob,trivial⟩) ?_
     refine L_p up2 rfl rfl (Zk c7) ?_
     refine L_p (.int .i64 (o0)) rfl rfl (Zk t5) ?_
     refine L_p (ePtr up2 o0 3) rfl rfl (Zh (α:=Vector UInt8 3) Tryz.underlying25 Tryz.sizeOf23 rfl u0 rfl zA) ?_
     refine L_p (fPtr (ePtr up2 o0 3) (((0:Int):Int).toNat * 1)) rfl rfl (P_indexAddrA (α:=UInt8) Tryz.underlying23 Tryz.sizeOf5 rfl (PT.ptr aD) rfl aB) ?_
     refine L_ld (c:=.int .u8 (UInt8.toNat (g8))) rfl rfl .plain (fun _ _ h=>h.ch) rF rfl ?_
     refine L_p (.int .i64 (((g8).toNat:Int))) rfl rfl (P_u8int Tryz.underlying5 Tryz.underlying3 rfl) ?_
     refine L_p (.int .i64 (x5)) rfl rfl (P_int rfl rfl (congrArg (Option.map (Value.int .i64)) sF)) ?_
     refine L_p (.int .i64 ((w64 ((1:Int) + x5)))) rfl rfl (P_int rfl rfl rfl) ?_
     refine L_p up2 rfl rfl (Zk c7) ?_
     refine L_p (.int .i64 (o0)) rfl rfl (Zk t5) ?_
     refine L_p (ePtr up2 o0 3) rfl rfl (Zh (α:=Vector UInt8 3) Tryz.underlying25 Tryz.sizeOf23 rfl u0 rfl bB) ?_
     refine L_p (fPtr (ePtr up2 o0 3) (((1:Int):Int).toNat * 1)) rfl rfl (P_indexAddrA (α:=UInt8) Tryz.underlying23 Tryz.sizeOf5 rfl (PT.ptr bD) rfl cB) ?_
     refine L_ld (c:=.int .u8 (UInt8.toNat (i8))) rfl rfl .plain (fun _ _ h=>h.ch) tF rfl ?_
     refine L_p (.int .i64 (((i8).toNat:Int))) rfl rfl (P_u8int Tryz.underlying5 Tryz.underlying3 rfl) ?_
     refine L_p (.int .i64 (a7)) rfl rfl (P_int rfl rfl (congrArg (Option.map (Value.int .i64)) uF)) ?_
     refine L_p up2 rfl rfl (Zk c7) ?_
     refine L_p (.int .i64 (o0)) rfl rfl (Zk t5) ?_
     refine L_p (ePtr up2 o0 3) rfl rfl (Zh (α:=Vector UInt8 3) Tryz.underlying25 Tryz.sizeOf23 rfl u0 rfl dB) ?_
     refine L_p (fPtr (ePtr up2 o0 3) (((2:Int):Int).toNat * 1)) rfl rfl (P_indexAddrA (α:=UInt8) Tryz.underlying23 Tryz.sizeOf5 rfl (PT.ptr cD) rfl eB) ?_
     refine L_ld (c:=.int .u8 (UInt8.toNat (k8))) rfl rfl .plain (fun _ _ h=>h.ch) vF rfl ?_
     refine L_p (.int .i64 (((k8).toNat:Int))) rfl rfl (P_u8int Tryz.underlying5 Tryz.underlying3 rfl) ?_
     refine L_p (.int .i64 (i3)) rfl rfl (P_int rfl rfl (congrArg (Option.map (Value.int .i64)) xF)) ?_
     refine L_p (.int .i64 ((w64 ((1:Int) + i3)))) rfl rfl (P_int rfl rfl rfl) ?_
     refine L_p eD rfl rfl (yF ▸ P_build (vs:=[(0,.int .i64 ((w64 ((1:Int) + x5)))),(1,.int .i64 (a7)),(2,.int .i64 ((w64 ((1:Int) + i3))))]) [[.int .i64 0],[.int .i64 0],[.int .i64 0],[.int .i64 0],[.int .i64 0]] lay_67 rfl rfl (.cons rfl (.cons rfl (.cons rfl .nil))) ⟨⟨_,rfl,rfl⟩,⟨⟨_,rfl,rfl⟩,⟨⟨_,rfl,rfl⟩,trivial⟩⟩⟩) ?_
     refine L_do (φ:=fun v g w=>OB 2013 g w 67 (⟨0,0,0,0,0⟩:LoomOrder) v) rfl rfl .plain (fun g w hd=>D_allocX (g:=g) 2013 (⟨0,0,0,0,0⟩:LoomOrder) Tryz.zeroValue67 (fun m w=>⟨_,(rep_two rep_int (rep_two rep_int (rep_two rep_int (rep_two rep_int rep_int)))),rfl⟩) fun g' w' v hs b=>⟨g',hs,b⟩) (fun kA hv=>?_)
     clear hv
     refine L_nil fun vG rI hall=>?_
     have hs:=hall.1
     have hfr:=hfr.ext hs
     have u0:=u0.ext hs
     have u6_0_219:=u6_0_219.ext hs
     have j3:=j3.ext hs
     have u8_0_219:=u8_0_219.ext hs
     have z2:=z2.ext hs
     have u3:=u3.ext hs
     have z3:=z3.ext hs
     have n8:=n8.ext hs
     have b341:=(word_all (A:=fun g w=>OB 2013 g w 67 (⟨0,0,0,0,0⟩:LoomOrder) kA) 24 rfl hall)
     clear hs hall
     refine Ze .plain rfl (D_storeOc (g:=vG) (v:=eD) Tryz.sizeOf67 rfl b341 rfl n8 fun o8 sI hs b342 cb=>?_)
     clear cb
     have hfr:=hfr.stp hs
     have u0:=u0.stp hs
     have u6_0_219:=u6_0_219.stp hs rfl
     have j3:=j3.stp hs rfl
     have u8_0_219:=u8_0_219.stp hs rfl
     have z2:=z2.stp hs rfl
     have u3:=u3.stp hs
     have z3:=z3.stp hs rfl
     refine Zb (Zd (Zf (Za (Zo mB rfl ?_))))
     refine EL_p (fPtr kA 2) (Zc at_67_2 rfl (OB.ptr b342)) rfl ?_
     refine Ze .plain rfl (D_loadF (g:=o8) part_LoomOrder_2.1 Tryz.isAgg3 Tryz.sizeOf3 rfl b342 fun tI xG=>?_)
     obtain rfl:=Zj.1 xG
     refine EL_p (fPtr p5 1) (Zc at_28_1 y9 (OB.ptr z2)) rfl ?_
     refine Ze .plain rfl (D_loadF (g:=o8) part_LoomMill_1.1 Tryz.isAgg3 Tryz.sizeOf3 rfl z2 fun uI yG=>?_)
     obtain rfl:=Zj.1 yG
     refine EL_p (.int .i64 ((w64 ((w64 ((1:Int) + i3)) + (j1).Change)))) (P_int rfl rfl rfl) rfl ?_
     refine EL_p (.int .i64 ((w64 (d3 + (w64 ((w64 ((1:Int) + i3)) + (j1).Change)))))) (P_int rfl rfl rfl) rfl ?_
     refine EL_p (.int .i64 ((w64 (d3 + (w64 ((w64 ((1:Int) + i3)) + (j1).Change)))))) (P_assign rfl) rfl ?_
     refine Zb (Zd (Zf (Za (EL_p (.int .i64 ((w64 (d3 + (w64 ((w64 ((1:Int) + i3)) + (j1).Change)))))) (Zk rfl) rfl ?_))))
     refine Zo c7 rfl ?_
     refine Zo t5 rfl ?_
     obtain ⟨aC,iB,h⟩:=bsome h
     refine EL_p (ePtr up2 o0 3) (Zh (α:=Vector UInt8 3) Tryz.underlying25 Tryz.sizeOf23 rfl u0 rfl iB) rfl ?_
     have gD:=PT_idx u0 iB
     obtain ⟨gA,jB,h⟩:=bsome h
     refine EL_p (fPtr (ePtr up2 o0 3) (((1:Int):Int).toNat * 1)) (P_indexAddrA (α:=UInt8) Tryz.underlying23 Tryz.sizeOf5 rfl (PT.ptr gD) rfl jB) rfl ?_
     have zG:=PT_idxA gD jB
     refine Ze .plain rfl (D_load (g:=o8) Tryz.isAgg5 Tryz.sizeOf5 rfl zG fun vI aH=>?_)
     obtain rfl:=RV_u8.1 aH
     refine EL_p (.int .i64 (((gA).toNat:Int))) (P_u8int Tryz.underlying5 Tryz.underlying3 rfl) rfl ?_
     obtain ⟨iA,zF,h⟩:=bsome h
     refine EL_p (.int .i64 (iA)) (P_int rfl rfl (congrArg (Option.map (Value.int .i64)) zF)) rfl ?_
     obtain ⟨n7,aG,h⟩:=bsome h
     refine EL_p (.int .i64 (n7)) (P_int rfl rfl (congrArg (Option.map (Value.int .i64)) aG)) rfl ?_
     refine EL_p (.int .i64 ((w64 ((w64 (d3 + (w64 ((w64 ((1:Int) + i3)) + (j1).Change)))) + n7)))) (P_int rfl rfl rfl) rfl ?_
     refine EL_p (fPtr kA 4) (Zc at_67_4 rfl (OB.ptr b342)) rfl ?_
     refine Ze .plain rfl (D_storeFc (g:=o8) part_LoomOrder_4 Tryz.sizeOf3 rfl b342 rfl (Zj.2 rfl) fun iD xI hs b355 rst hos=>?_)
     clear rst hos
     have hfr:=hfr.stp hs
     have u0:=u0.stp hs
     have u6_0_219:=u6_0_219.stp hs rfl
     have j3:=j3.stp hs rfl
     have u8_0_219:=u8_0_219.stp hs rfl
     have z2:=z2.stp hs rfl
     have u3:=u3.stp hs
     have z3:=z3.stp hs rfl
     refine Zb (Zd (Za (Zo yC rfl ?_)))
     refine Ze .plain rfl (D_loadO (g:=iD) Tryz.isAgg67 Tryz.sizeOf67 rfl b355 fun bH cH=>?_)
     refine Ze .plain rfl (D_buildSlice (g:=iD) 3085 (xs:=([(⟨(w64 ((1:Int) + x5)),a7,(w64 ((1:Int) + i3)),0,(w64 ((w64 (d3 + (w64 ((w64 ((1:Int) + i3)) + (j1).Change)))) + n7))⟩:LoomOrder)]:List LoomOrder)) (vs:=[bH]) Tryz.underlying29 Tryz.sizeOf67 Tryz.zeroValue67 rfl rfl (.cons rfl .nil) (RVs.cons cH RVs.nil) rfl rfl fun dH yI zI hs o357 gH hxt hfl=>?_)
     have hfr:=hfr.stp hs
     have u0:=u0.stp hs
     have u6_0_219:=u6_0_219.stp hs rfl
     have j3:=j3.stp hs rfl
     have u8_0_219:=u8_0_219.stp hs rfl
     have z2:=z2.stp hs rfl
     have u3:=u3.stp hs
     have z3:=z3.stp hs rfl
     obtain ⟨cC,bG,h⟩:=bsome h
     refine Ze .plain rfl (D_append (g:=dH) (i:=3018) Tryz.underlying29 info_67 rfl rfl z3 u3 rfl gH bG fun iH aJ jD hs o358 jH _=>?_)
     have hfr:=hfr.stp hs
     have u0:=u0.stp hs
     have u6_0_219:=u6_0_219.stp hs rfl
     have j3:=j3.stp hs rfl
     have u8_0_219:=u8_0_219.stp hs rfl
     have z2:=z2.stp hs rfl
     refine Zg jD rfl rfl ?_
     refine Zb (blk_n ?_)
     obtain ⟨rfl,rfl⟩:=pairs2 h
     exact hQ _ _ ⟨iH,(jD),hfr,c7,u0,xC,j3,u6_0_219,y9,z2,u8_0_219,rfl,jH,o358,rfl,t5⟩
    ·clear hx
     obtain ⟨kH,kD,hfr,lD,mD,nD,oD,u6_0_360,sD,tD,u8_0_360,uD,vD,xD,nB,oB⟩:=hR
     refine Za (Zo oB rfl ?_)
     refine EL_in (.int .i64 ((w64 (o0 + (1:Int))))) rfl rfl rfl rfl ?_
     refine Zg (.int .i64 ((w64 (o0 + (1:Int))))) rfl rfl ?_
     exact Zb (Zd (pF (b7,e7,(w64 (o0 + (1:Int)))) _ _ ⟨kH,(kD),hfr,lD,mD,nD,oD,u6_0_360,sD,tD,u8_0_360,uD,vD,xD,nB,rfl⟩ h))
  ·clear hx
   obtain ⟨yD,z9,hfr,bA,zD,u6_0_361,aE,bE,u8_0_361,cE,v7,uH⟩:=hR
   refine Zf (Za (Ze .plain rfl (D_loadO (g:=yD) Tryz.isAgg28 Tryz.sizeOf28 aE bE fun lH mH=>?_)))
   refine Zo cE rfl ?_
   refine Ze .plain rfl (D_storeOc (g:=yD) (v:=lH) Tryz.sizeOf28 bA zD rfl mH fun bJ cJ hs b363 cb=>?_)
   clear cb
   have hfr:=hfr.stp hs
   have v7:=v7.stp hs
   refine Zg z9 rfl rfl ?_
   refine Zb (Zd (E_ret ?_))
   obtain rfl:=sinj h
   obtain ⟨ad364,cv364,hp364,cG,cr364⟩:=ob_read Tryz.isAgg28 Tryz.sizeOf28 b363
   exact endm_ct rfl rfl ((show _=p1 from bA).trans hp364) cG (show _=z9 from rfl) ⟨_,hfr,_,_,rfl,cr364,v7⟩
def f8 (x0:FaultLoom) (x1:Vector UInt8 3):Option (FaultDamage):=
 (idx (x1).toList (0:Int)).bind fun y4=>
 (u8rem y4 (5:UInt8)).bind fun y7=>
 Option.bind (α:=FaultDamage) (
  bif (((((1 : UInt8) + y7)).toNat : Int) == (1 : Int)) then
   (idx (x1).toList (1:Int)).bind fun z2=>
   (rem64 ((z2).toNat:Int) ((((x0).Design).Rows).length:Int)).bind fun y159=>
   (idx (x1).toList (2:Int)).bind fun d3=>
   (rem64 ((d3).toNat:Int) ((x0).Design).Hooks).bind fun i5=>
   some ((⟨((((1:UInt8) + y7)).toNat:Int),y159,i5,0,false⟩:FaultDamage))
  else
   bif (((((1 : UInt8) + y7)).toNat : Int) == (2 : Int)) then
    (idx (x1).toList (1:Int)).bind fun i3=>
    (rem64 ((i3).toNat:Int) ((x0).Design).Hooks).bind fun l5=>
    (idx (x1).toList (2:Int)).bind fun t5=>
    (u8rem t5 (2:UInt8)).bind fun j3=>
    some ((⟨((((1:UInt8) + y7)).toNat:Int),0,l5,0,(j3 == (0:UInt8))⟩:FaultDamage))
   else
    bif (((((1 : UInt8) + y7)).toNat : Int) == (5 : Int)) then
     (idx (x1).toList (1:Int)).bind fun x5=>
     (rem64 ((x5).toNat:Int) ((((x0).Harness).Warps).length:Int)).bind fun i6=>
     some ((⟨((((1:UInt8) + y7)).toNat:Int),0,0,i6,false⟩:FaultDamage))
    else
     (idx (x1).toList (1:Int)).bind fun j6=>
     (rem64 ((j6).toNat:Int) ((((x0).Design).Rows).length:Int)).bind fun x6=>
     some ((⟨((((1:UInt8) + y7)).toNat:Int),x6,0,0,false⟩:FaultDamage))
  ) fun j1=>
 some (j1)
theorem en8:Enters Tryz.prog 8:=enters_of Tryz.func8 (by kernel_rfl) rfl
theorem wk8 {gI:Gh} {wI:World} {x0:FaultLoom} {x1:Vector UInt8 3} {up0:Value} (rp0:RV gI.m wI x0 up0) {up1:Value} (rp1:RV gI.m wI x1 up1) {r:FaultDamage} (h:f8 x0 x1=some r):Fn Tryz.prog 8 #[up0,up1] gI wI (fun m w v=>RV m w (r) v):=by
 unfold f8 at h
 refine fn_of_E Tryz.func8 rfl (Nat.le_of_ble_eq_true rfl) fun g0 hm hfr=>?_
 have rp0:RV g0.m wI x0 up0:=hm ▸ rp0
 have rp1:RV g0.m wI x1 up1:=hm ▸ rp1
 show E _ 68 none _ _ _ _ _
 refine Zf (Za (Ze .plain rfl (D_box (g:=g0) rfl rp0 fun g1 w1 p1 hs q1=>?_)))
 have hfr:=hfr.ext hs
 have rp1:=rp1.ext hs
 refine Ze .plain rfl (D_box (g:=g1) rfl rp1 fun g2 w2 p2 hs q2=>?_)
 have hfr:=hfr.ext hs
 have q1:=q1.ext hs
 refine Ze .plain rfl (D_allocOc (g:=g2) 2004 (⟨0,0,0,0,false⟩:FaultDamage) Tryz.zeroValue45 (fun m w=>⟨_,(rep_two rep_int (rep_two rep_int (rep_two rep_int (rep_two rep_int rep_bool)))),rfl⟩) fun g3 w3 p3 hs b3 cb=>?_)
 have hfr:=hfr.stp hs
 have q1:=q1.stp hs
 have q2:=q2.stp hs
 clear cb
 refine Zb (Zd (Zf ?_))
 obtain ⟨y4,d9,h⟩:=bsome h
 have q5:=PT_idxA q2 d9
 refine Zs (x:=.tmp 7) Tryz.isAgg5 Tryz.sizeOf5 q5 fun v6 r6 iB=>?_
 obtain rfl:=RV_u8.1 r6
 obtain ⟨y7,jB,h⟩:=bsome h
 have r8:RV g3.m w3 (⟨((((1:UInt8) + y7)).toNat:Int),0,0,0,false⟩:FaultDamage) (.agg (setCh [[.int .i64 0],[.int .i64 0],[.int .i64 0],[.int .i64 0],[.bool false]] [(0,.int .i64 (((((1:UInt8) + y7)).toNat:Int)))]).flatten.toArray):=RV_build rfl (rep_pair (rfl) (rep_pair (rep_int) (rep_pair (rep_int) (rep_pair (rep_int) (rep_last (rep_bool))))))
 generalize kB:(Value.agg (setCh [[.int .i64 0],[.int .i64 0],[.int .i64 0],[.int .i64 0],[.bool false]] [(0,.int .i64 (((((1:UInt8) + y7)).toNat:Int)))]).flatten.toArray)=v8 at r8
 have q9:=Zm (part_FaultLoom_1).1 q1
 have lB:=Zm (part_Design_1).1 q9
 refine Zs (x:=.tmp 14) Tryz.isAgg26 Tryz.sizeOf26 lB fun mB nB k9=>?_
 refine E_drawTL (g:=g3) (n:=11) [6,7,8,9] [(10,(fun v g w=>OB 2005 g w 45 (⟨0,0,0,0,false⟩:FaultDamage) v))] [0,1,2,3,4,5,6,7,8,9,10] rfl mixed (by kernel_rfl) (⟨fun _=>up_ob,trivial⟩) rfl ?_
 refine L_p (fPtr p2 (((0:Int):Int).toNat * 1)) rfl rfl (P_indexAddrA (α:=UInt8) Tryz.underlying23 Tryz.sizeOf5 rfl (PT.ptr q2) rfl d9) ?_
 refine L_ld (c:=.int .u8 (UInt8.toNat (y4))) rfl rfl .plain (fun _ _ h=>h.ch) iB rfl ?_
 refine L_p (.int .u8 (UInt8.toNat (y7))) rfl rfl (P_u8 rfl rfl (u8rem_cop jB)) ?_
 refine L_p (.int .u8 (UInt8.toNat (((1:UInt8) + y7)))) rfl rfl (P_u8 rfl rfl rfl) ?_
 refine L_p (.int .i64 (((((1:UInt8) + y7)).toNat:Int))) rfl rfl (P_u8int Tryz.underlying5 Tryz.underlying43 rfl) ?_
 refine L_p v8 rfl rfl (kB ▸ P_build (vs:=[(0,.int .i64 (((((1:UInt8) + y7)).toNat:Int)))]) [[.int .i64 0],[.int .i64 0],[.int .i64 0],[.int .i64 0],[.bool false]] lay_45 rfl rfl (.cons rfl .nil) ⟨⟨_,rfl,rfl⟩,trivial⟩) ?_
 refine L_purL (c:=fPtr p1 2) rfl rfl .plain (Zc at_37_1 rfl (PT.ptr q1)) ?_
 refine L_purL (c:=fPtr (fPtr p1 2) 1) rfl rfl .plain (Zc at_35_1 rfl (PT.ptr q9)) ?_
 refine L_ldL (c:=mB) rfl rfl .plain (fun _ _ h=>h.ch) rfl k9 rfl ?_
 refine L_purL (c:=.int .i64 ((((x0).Design).Rows).length:Int)) rfl rfl .plain (P_len Tryz.underlying26 rfl nB) ?_
 refine L_do (φ:=fun v g w=>OB 2005 g w 45 (⟨0,0,0,0,false⟩:FaultDamage) v) rfl rfl .plain (fun g w hd=>D_allocX (g:=g) 2005 (⟨0,0,0,0,false⟩:FaultDamage) Tryz.zeroValue45 (fun m w=>⟨_,(rep_two rep_int (rep_two rep_int (rep_two rep_int (rep_two rep_int rep_bool)))),rfl⟩) fun g' w' v hs b=>⟨g',hs,b⟩) (fun o0 hv=>?_)
 clear hv
 refine L_nil fun e9 oB hall=>?_
 have hs:=hall.1
 have hlt:Lt g3.m w3 e9 oB:=hs.ch
 have hfr:=hfr.ext hs
 have q1:=q1.ext hs
 have q2:=q2.ext hs
 have b3:=b3.ext hs
 have r8:=r8.ext hs
 have b29:=(word_all (A:=fun g w=>OB 2005 g w 45 (⟨0,0,0,0,false⟩:FaultDamage) o0) 10 rfl hall)
 clear hs hall
 refine TL_do hlt.w .plain rfl (D_storeOc (g:=e9) (v:=v8) Tryz.sizeOf45 rfl b29 rfl r8 fun u0 i9 hs b30 cb=>?_)
 clear cb
 have hfr:=hfr.stp hs
 have hlt:=hlt.stp hs
 have q1:=q1.stp hs
 have q2:=q2.stp hs
 have b3:=b3.stp hs rfl
 refine TL_pur hlt.w (v:=.int .i64 ((((x0).Design).Rows).length:Int)) (P_assign rfl) .plain rfl ?_
 refine TL_nil hlt.w ?_
 clear hlt
 refine Zd ?_
 obtain ⟨j1,hx,h⟩:=bsome h
 refine E_join (fun e w=>∃ (g:Gh) ,Fr gI wI g w∧e 4=p3∧OB 2004 g w 45 ((⟨0,0,0,0,false⟩:FaultDamage):FaultDamage) p3∧e 5=o0∧OB 2005 g w 45 (j1:FaultDamage) o0) (fun Q' hQ=>?_) (fun tB vB hR=>?_)
 ·replace h := hx
  clear hx
  refine Zf (Za (EL_p (fPtr o0 0) (Zc at_45_0 rfl (OB.ptr b30)) rfl ?_))
  refine Ze .plain rfl (D_loadF (g:=u0) part_FaultDamage_0.1 Tryz.isAgg43 Tryz.sizeOf43 rfl b30 fun xB l9=>?_)
  obtain rfl:=Zj.1 l9
  refine Zb (Zd (Zr ?_))
  refine Zf (Za (EL_p (.bool ((((((1:UInt8) + y7)).toNat:Int) == (1:Int)))) (P_int rfl rfl rfl) rfl ?_))
  refine EL_p (.bool ((((((1:UInt8) + y7)).toNat:Int) == (1:Int)))) (P_assign rfl) rfl ?_
  refine Zb (Zd ?_)
  rcases Zt h with ⟨o3,h⟩ | ⟨o3,h⟩
  ·refine E_ct o3 rfl ?_
   obtain ⟨z2,y6,h⟩:=bsome h
   have n9:=PT_idxA q2 y6
   refine Zs (x:=.tmp 27) Tryz.isAgg5 Tryz.sizeOf5 n9 fun yB o9 e8=>?_
   obtain rfl:=RV_u8.1 o9
   obtain ⟨y159,g8,h⟩:=bsome h
   obtain ⟨d3,a7,h⟩:=bsome h
   have t9:=PT_idxA q2 a7
   refine Zs (x:=.tmp 32) Tryz.isAgg5 Tryz.sizeOf5 t9 fun zB u9 i8=>?_
   obtain rfl:=RV_u8.1 u9
   have g7:=Zm (part_FaultLoom_1).1 q1
   have y9:=Zm (part_Design_0).1 g7
   refine Zs (x:=.tmp 36) Tryz.isAgg3 Tryz.sizeOf3 y9 fun aC z9 k8=>?_
   obtain rfl:=Zj.1 z9
   obtain ⟨i5,l8,h⟩:=bsome h
   refine E_drawTL (g:=u0) (n:=13) [5,6,7,8,9,10,11] [] [0,1,2,3,4,5,6,7,8,9,10,11,12] rfl mixed (by kernel_rfl) trivial rfl ?_
   refine L_p (fPtr p2 (((1:Int):Int).toNat * 1)) rfl rfl (P_indexAddrA (α:=UInt8) Tryz.underlying23 Tryz.sizeOf5 rfl (PT.ptr q2) rfl y6) ?_
   refine L_ld (c:=.int .u8 (UInt8.toNat (z2))) rfl rfl .plain (fun _ _ h=>h.ch) e8 rfl ?_
   refine L_p (.int .i64 (((z2).toNat:Int))) rfl rfl (P_u8int Tryz.underlying5 Tryz.underlying3 rfl) ?_
   refine L_p (.int .i64 ((((x0).Design).Rows).length:Int)) rfl rfl (Zk rfl) ?_
   refine L_p (.int .i64 (y159)) rfl rfl (P_int rfl rfl (congrArg (Option.map (Value.int .i64)) g8)) ?_
   refine L_purL (c:=fPtr p2 (((2:Int):Int).toNat * 1)) rfl rfl .plain (P_indexAddrA (α:=UInt8) Tryz.underlying23 Tryz.sizeOf5 rfl (PT.ptr q2) rfl a7) ?_
   refine L_ldL (c:=.int .u8 (UInt8.toNat (d3))) rfl rfl .plain (fun _ _ h=>h.ch) rfl i8 rfl ?_
   refine L_purL (c:=.int .i64 (((d3).toNat:Int))) rfl rfl .plain (P_u8int Tryz.underlying5 Tryz.underlying3 rfl) ?_
   refine L_purL (c:=fPtr p1 2) rfl rfl .plain (Zc at_37_1 rfl (PT.ptr q1)) ?_
   refine L_purL (c:=fPtr (fPtr p1 2) 0) rfl rfl .plain (Zc at_35_0 rfl (PT.ptr g7)) ?_
   refine L_ldL (c:=.int .i64 (((x0).Design).Hooks)) rfl rfl .plain (fun _ _ h=>h.ch) rfl k8 rfl ?_
   refine L_purL (c:=.int .i64 (i5)) rfl rfl .plain (P_int rfl rfl (congrArg (Option.map (Value.int .i64)) l8)) ?_
   refine L_p (fPtr o0 1) rfl rfl (Zc at_45_1 rfl (OB.ptr b30)) ?_
   refine L_nl fun i7 bA hs=>?_
   have hlt:Lt u0.m i9 i7 bA:=hs.ch
   have hfr:=hfr.ext hs
   have b3:=b3.ext hs
   have b30:=b30.ext hs
   clear hs
   refine TL_do hlt.w .plain rfl (D_storeFc (g:=i7) part_FaultDamage_1 Tryz.sizeOf3 rfl b30 rfl (Zj.2 rfl) fun gA cC hs b203 rst hos=>?_)
   clear rst hos
   have hfr:=hfr.stp hs
   have hlt:=hlt.stp hs
   have b3:=b3.stp hs rfl
   refine TL_pur hlt.w (v:=fPtr o0 2) (Zc at_45_2 rfl (OB.ptr b203)) .plain rfl ?_
   refine TL_do hlt.w .plain rfl (D_storeFc (g:=gA) part_FaultDamage_2 Tryz.sizeOf3 rfl b203 rfl (Zj.2 rfl) fun iA dC hs b205 rst hos=>?_)
   clear rst hos
   have hfr:=hfr.stp hs
   have hlt:=hlt.stp hs
   have b3:=b3.stp hs rfl
   refine TL_nil hlt.w ?_
   clear hlt
   refine blk_n ?_
   obtain rfl:=sinj h
   exact hQ _ _ ⟨iA,hfr,rfl,b3,rfl,b205⟩
  ·refine E_cf o3 rfl ?_
   refine Zf (Za (EL_p (.bool ((((((1:UInt8) + y7)).toNat:Int) == (2:Int)))) (P_int rfl rfl rfl) rfl ?_))
   refine EL_p (.bool ((((((1:UInt8) + y7)).toNat:Int) == (2:Int)))) (P_assign rfl) rfl ?_
   refine Zb (Zd ?_)
   rcases Zt h with ⟨u3,h⟩ | ⟨u3,h⟩
   ·refine E_ct u3 rfl ?_
    obtain ⟨i3,b7,h⟩:=bsome h
    have jA:=PT_idxA q2 b7
    refine Zs (x:=.tmp 43) Tryz.isAgg5 Tryz.sizeOf5 jA fun eC kA m8=>?_
    obtain rfl:=RV_u8.1 kA
    have j7:=Zm (part_FaultLoom_1).1 q1
    have lA:=Zm (part_Design_0).1 j7
    refine Zs (x:=.tmp 47) Tryz.isAgg3 Tryz.sizeOf3 lA fun iC mA n8=>?_
    obtain rfl:=Zj.1 mA
    obtain ⟨l5,o8,h⟩:=bsome h
    obtain ⟨t5,c7,h⟩:=bsome h
    have nA:=PT_idxA q2 c7
    refine Zs (x:=.tmp 50) Tryz.isAgg5 Tryz.sizeOf5 nA fun jC oA q8=>?_
    obtain rfl:=RV_u8.1 oA
    obtain ⟨j3,t8,h⟩:=bsome h
    refine E_drawTL (g:=u0) (n:=12) [7,8,9,10] [] [0,1,2,3,4,5,6,7,8,9,10,11] rfl mixed (by kernel_rfl) trivial rfl ?_
    refine L_p (fPtr p2 (((1:Int):Int).toNat * 1)) rfl rfl (P_indexAddrA (α:=UInt8) Tryz.underlying23 Tryz.sizeOf5 rfl (PT.ptr q2) rfl b7) ?_
    refine L_ld (c:=.int .u8 (UInt8.toNat (i3))) rfl rfl .plain (fun _ _ h=>h.ch) m8 rfl ?_
    refine L_p (.int .i64 (((i3).toNat:Int))) rfl rfl (P_u8int Tryz.underlying5 Tryz.underlying3 rfl) ?_
    refine L_p (fPtr p1 2) rfl rfl (Zc at_37_1 rfl (PT.ptr q1)) ?_
    refine L_p (fPtr (fPtr p1 2) 0) rfl rfl (Zc at_35_0 rfl (PT.ptr j7)) ?_
    refine L_ld (c:=.int .i64 (((x0).Design).Hooks)) rfl rfl .plain (fun _ _ h=>h.ch) n8 rfl ?_
    refine L_p (.int .i64 (l5)) rfl rfl (P_int rfl rfl (congrArg (Option.map (Value.int .i64)) o8)) ?_
    refine L_purL (c:=fPtr p2 (((2:Int):Int).toNat * 1)) rfl rfl .plain (P_indexAddrA (α:=UInt8) Tryz.underlying23 Tryz.sizeOf5 rfl (PT.ptr q2) rfl c7) ?_
    refine L_ldL (c:=.int .u8 (UInt8.toNat (t5))) rfl rfl .plain (fun _ _ h=>h.ch) rfl q8 rfl ?_
    refine L_purL (c:=.int .u8 (UInt8.toNat (j3))) rfl rfl .plain (P_u8 rfl rfl (u8rem_cop t8)) ?_
    refine L_purL (c:=.bool ((j3 == (0:UInt8)))) rfl rfl .plain (P_u8 rfl rfl rfl) ?_
    refine L_p (fPtr o0 2) rfl rfl (Zc at_45_2 rfl (OB.ptr b30)) ?_
    refine L_nl fun m7 pA hs=>?_
    have hlt:Lt u0.m i9 m7 pA:=hs.ch
    have hfr:=hfr.ext hs
    have b3:=b3.ext hs
    have b30:=b30.ext hs
    clear hs
    refine TL_do hlt.w .plain rfl (D_storeFc (g:=m7) part_FaultDamage_2 Tryz.sizeOf3 rfl b30 rfl (Zj.2 rfl) fun qA kC hs b255 rst hos=>?_)
    clear rst hos
    have hfr:=hfr.stp hs
    have hlt:=hlt.stp hs
    have b3:=b3.stp hs rfl
    refine TL_pur hlt.w (v:=fPtr o0 4) (Zc at_45_4 rfl (OB.ptr b255)) .plain rfl ?_
    refine TL_do hlt.w .plain rfl (D_storeFc (g:=qA) part_FaultDamage_4 Tryz.sizeOf4 rfl b255 rfl (RV_bool.2 rfl) fun rA lC hs b257 rst hos=>?_)
    clear rst hos
    have hfr:=hfr.stp hs
    have hlt:=hlt.stp hs
    have b3:=b3.stp hs rfl
    refine TL_nil hlt.w ?_
    clear hlt
    refine blk_n ?_
    obtain rfl:=sinj h
    exact hQ _ _ ⟨rA,hfr,rfl,b3,rfl,b257⟩
   ·refine E_cf u3 rfl ?_
    refine Zf (Za (EL_p (.bool ((((((1:UInt8) + y7)).toNat:Int) == (5:Int)))) (P_int rfl rfl rfl) rfl ?_))
    refine EL_p (.bool ((((((1:UInt8) + y7)).toNat:Int) == (5:Int)))) (P_assign rfl) rfl ?_
    refine Zb (Zd ?_)
    rcases Zt h with ⟨z3,h⟩ | ⟨z3,h⟩
    ·refine E_ct z3 rfl ?_
     refine Za ?_
     obtain ⟨x5,d7,h⟩:=bsome h
     refine EL_p (fPtr p2 (((1:Int):Int).toNat * 1)) (P_indexAddrA (α:=UInt8) Tryz.underlying23 Tryz.sizeOf5 rfl (PT.ptr q2) rfl d7) rfl ?_
     have sA:=PT_idxA q2 d7
     refine Ze .plain rfl (D_load (g:=u0) Tryz.isAgg5 Tryz.sizeOf5 rfl sA fun mC uA=>?_)
     obtain rfl:=RV_u8.1 uA
     refine EL_p (.int .i64 (((x5).toNat:Int))) (P_u8int Tryz.underlying5 Tryz.underlying3 rfl) rfl ?_
     refine EL_p (fPtr p1 0) (Zc at_37_0 rfl (PT.ptr q1)) rfl ?_
     have n7:=Zm (part_FaultLoom_0).1 q1
     refine EL_p (fPtr (fPtr p1 0) 1) (Zc at_33_1 rfl (PT.ptr n7)) rfl ?_
     have xA:=Zm (part_TieHarness_1).1 n7
     refine Ze .plain rfl (D_load (g:=u0) Tryz.isAgg26 Tryz.sizeOf26 rfl xA fun qC yA=>?_)
     refine EL_p (.int .i64 ((((x0).Harness).Warps).length:Int)) (P_len Tryz.underlying26 rfl yA) rfl ?_
     obtain ⟨i6,x8,h⟩:=bsome h
     refine EL_p (.int .i64 (i6)) (P_int rfl rfl (congrArg (Option.map (Value.int .i64)) x8)) rfl ?_
     refine EL_p (fPtr o0 3) (Zc at_45_3 rfl (OB.ptr b30)) rfl ?_
     refine Ze .plain rfl (D_storeFc (g:=u0) part_FaultDamage_3 Tryz.sizeOf3 rfl b30 rfl (Zj.2 rfl) fun zA rC hs b267 rst hos=>?_)
     clear rst hos
     have hfr:=hfr.stp hs
     have b3:=b3.stp hs rfl
     refine Zb (blk_n ?_)
     obtain rfl:=sinj h
     exact hQ _ _ ⟨zA,hfr,rfl,b3,rfl,b267⟩
    ·refine E_cf z3 rfl ?_
     refine Za ?_
     obtain ⟨j6,e7,h⟩:=bsome h
     refine EL_p (fPtr p2 (((1:Int):Int).toNat * 1)) (P_indexAddrA (α:=UInt8) Tryz.underlying23 Tryz.sizeOf5 rfl (PT.ptr q2) rfl e7) rfl ?_
     have aB:=PT_idxA q2 e7
     refine Ze .plain rfl (D_load (g:=u0) Tryz.isAgg5 Tryz.sizeOf5 rfl aB fun tC bB=>?_)
     obtain rfl:=RV_u8.1 bB
     refine EL_p (.int .i64 (((j6).toNat:Int))) (P_u8int Tryz.underlying5 Tryz.underlying3 rfl) rfl ?_
     refine Zn (.int .i64 ((((x0).Design).Rows).length:Int)) rfl rfl ?_
     obtain ⟨x6,y8,h⟩:=bsome h
     refine EL_p (.int .i64 (x6)) (P_int rfl rfl (congrArg (Option.map (Value.int .i64)) y8)) rfl ?_
     refine EL_p (fPtr o0 1) (Zc at_45_1 rfl (OB.ptr b30)) rfl ?_
     refine Ze .plain rfl (D_storeFc (g:=u0) part_FaultDamage_1 Tryz.sizeOf3 rfl b30 rfl (Zj.2 rfl) fun cB uC hs b273 rst hos=>?_)
     clear rst hos
     have hfr:=hfr.stp hs
     have b3:=b3.stp hs rfl
     refine Zb (blk_n ?_)
     obtain rfl:=sinj h
     exact hQ _ _ ⟨cB,hfr,rfl,b3,rfl,b273⟩
 ·clear hx
  obtain ⟨o7,hfr,z4,u7,v7,c8⟩:=hR
  refine Zf (Za (Ze .plain rfl (D_loadO (g:=o7) Tryz.isAgg45 Tryz.sizeOf45 v7 c8 fun dB eB=>?_)))
  refine Ze .plain rfl (D_storeOc (g:=o7) (v:=dB) Tryz.sizeOf45 z4 u7 rfl eB fun vC xC hs b276 cb=>?_)
  clear cb
  have hfr:=hfr.stp hs
  refine Zb (Zd (E_ret ?_))
  obtain rfl:=sinj h
  obtain ⟨ad277,cv277,hp277,a9,cr277⟩:=ob_read Tryz.isAgg45 Tryz.sizeOf45 b276
  exact endm_c rfl rfl ((show _=p3 from z4).trans hp277) a9 ⟨_,hfr,cr277⟩
def f10 (x0:LoomMill):Option (LoomMill):=
 (apnd 8 (([]:List Int)) ((x0).Widths)).bind fun y7=>
 some ({ x0 with Widths:=y7 })
theorem en10:Enters Tryz.prog 10:=enters_of Tryz.func10 (by kernel_rfl) rfl
theorem wk10 {gI:Gh} {wI:World} {x0:LoomMill} {up0:Value} (rp0:RV gI.m wI x0 up0) {r:LoomMill} (h:f10 x0=some r):Fn Tryz.prog 10 #[up0] gI wI (fun m w v=>RV m w (r) v):=by
 unfold f10 at h
 refine fn_of_E Tryz.func10 rfl (Nat.le_of_ble_eq_true rfl) fun g0 hm hfr=>?_
 have rp0:RV g0.m wI x0 up0:=hm ▸ rp0
 show E _ 9 none _ _ _ _ _
 refine Zf (Za (Ze .plain rfl (D_boxO (g:=g0) 2001 rfl rp0 fun g1 w1 p1 hs b1=>?_)))
 have hfr:=hfr.stp hs
 refine Ze .plain rfl (D_allocOc (g:=g1) 2002 (⟨[],0⟩:LoomMill) Tryz.zeroValue28 (fun m w=>⟨_,(rep_two rep_nil rep_int),rfl⟩) fun g2 w2 p2 hs b2 cb=>?_)
 have hfr:=hfr.stp hs
 have b1:=b1.stp hs rfl
 have z2:OSF 2002 60200 0 g2 w2 3 28 ([]:List Int) p2:=cb.osf (by rfl)
 clear cb
 refine Zb (Zd (Zf (Za (Ze .plain rfl (D_buildSlice (g:=g2) 3003 (xs:=([]:List Int)) (vs:=[]) Tryz.underlying26 Tryz.sizeOf3 Tryz.zeroValue3 rfl rfl .nil RVs.nil rfl rfl fun g3 w3 v3 hs o3 r3 hxt hfl=>?_)))))
 have hfr:=hfr.stp hs
 have b1:=b1.stp hs rfl
 have b2:=b2.stp hs rfl
 refine EL_p (fPtr p1 0) (Zc at_28_0 rfl (OB.ptr b1)) rfl ?_
 refine Ze .plain rfl (D_loadF (g:=g3) part_LoomMill_0.1 Tryz.isAgg26 Tryz.sizeOf26 rfl b1 fun v5 r5=>?_)
 obtain ⟨y7,o0,h⟩:=bsome h
 refine Ze .plain rfl (D_append (g:=g3) (i:=3003) Tryz.underlying26 info_3 rfl rfl o3 r3 rfl r5 o0 fun g6 w6 v6 hs o6 r6 _=>?_)
 have hfr:=hfr.stp hs
 have b1:=b1.stp hs rfl
 have b2:=b2.stp hs rfl
 refine EL_p (fPtr p1 0) (Zc at_28_0 rfl (OB.ptr b1)) rfl ?_
 refine Ze .plain rfl (D_storeFc (g:=g6) part_LoomMill_0 Tryz.sizeOf26 rfl b1 rfl r6 fun g9 w9 hs b9 rst hos=>?_)
 have d3:=hos _ _ 3003 3 (y7:List Int) (rv_cells1 r6) rfl o6
 clear rst hos
 have hfr:=hfr.stp hs
 have b2:=b2.stp hs rfl
 refine Zb (Zd (Zf (Za (Ze .plain rfl (D_loadO (g:=g9) Tryz.isAgg28 Tryz.sizeOf28 rfl b9 fun u0 j1=>?_)))))
 refine Ze .plain rfl (D_storeOc (g:=g9) (v:=u0) Tryz.sizeOf28 rfl b2 rfl j1 fun i3 j3 hs b11 cb=>?_)
 clear cb
 have hfr:=hfr.stp hs
 refine Zb (Zd (E_ret ?_))
 obtain rfl:=sinj h
 obtain ⟨ad12,cv12,hp12,hl12,cr12⟩:=ob_read Tryz.isAgg28 Tryz.sizeOf28 b11
 exact endm_c rfl rfl ((show _=p2 from rfl).trans hp12) hl12 ⟨_,hfr,cr12⟩
def f11 (x0:List LoomOrder):Option ((List LoomOrder)):=
 (apnd 40 (([]:List LoomOrder)) x0).bind fun y3=>
 some (y3)
theorem en11:Enters Tryz.prog 11:=enters_of Tryz.func11 (by kernel_rfl) rfl
theorem wk11 {gI:Gh} {wI:World} {x0:List LoomOrder} {up0:Value} (rp0:RV gI.m wI x0 up0) {r:(List LoomOrder)} (h:f11 x0=some r):Fn Tryz.prog 11 #[up0] gI wI (fun m w v=>RV m w (r) v):=by
 unfold f11 at h
 refine fn_of_E Tryz.func11 rfl (Nat.le_of_ble_eq_true rfl) fun g0 hm hfr=>?_
 have rp0:RV g0.m wI x0 up0:=hm ▸ rp0
 show E _ 6 none _ _ _ _ _
 refine Zf (Za (Zg (.slice none 0 0) rfl rfl ?_))
 refine Zb (Zd (Zf (Za (Ze .plain rfl (D_buildSlice (g:=g0) 3003 (xs:=([]:List LoomOrder)) (vs:=[]) Tryz.underlying29 Tryz.sizeOf67 Tryz.zeroValue67 rfl rfl .nil RVs.nil rfl rfl fun g1 w1 v1 hs o1 r1 hxt hfl=>?_)))))
 have hfr:=hfr.stp hs
 have rp0:=rp0.stp hs
 refine Zn up0 rfl rfl ?_
 obtain ⟨y3,hy3,h⟩:=bsome h
 refine Ze .plain rfl (D_append (g:=g1) (i:=3003) Tryz.underlying29 info_67 rfl rfl o1 r1 rfl rp0 hy3 fun g2 w2 v2 hs o2 r2 _=>?_)
 have hfr:=hfr.stp hs
 refine Zg v2 rfl rfl ?_
 refine Zb (Zd (E_ret ?_))
 obtain rfl:=sinj h
 exact end1 rfl rfl (show _=v2 from rfl) ⟨_,hfr,r2⟩
def f14 (x0:Int) (x1:Int):Option (Span):=
 some ((⟨x0,x1⟩:Span))
theorem en14:Enters Tryz.prog 14:=enters_of Tryz.func14 (by kernel_rfl) rfl
theorem wk14 {gI:Gh} {wI:World} {x0:Int} {x1:Int}  {r:Span} (h:f14 x0 x1=some r):Fn Tryz.prog 14 #[.int .i64 (x0),.int .i64 (x1)] gI wI (fun m w v=>RV m w (r) v):=by
 unfold f14 at h
 refine fn_of_E Tryz.func14 rfl (Nat.le_of_ble_eq_true rfl) fun g0 hm hfr=>?_
 show E _ 8 none _ _ _ _ _
 refine Zf (Za (Ze .plain rfl (D_allocOc (g:=g0) 2004 (⟨0,0⟩:Span) Tryz.zeroValue55 (fun m w=>⟨_,(rep_two rep_int rep_int),rfl⟩) fun g1 w1 p1 hs b1 cb=>?_)))
 have hfr:=hfr.stp hs
 clear cb
 refine Zb (Zd (Zf (Za (Zn (.int .i64 (x0)) rfl rfl ?_))))
 refine Zn (.int .i64 (x1)) rfl rfl ?_
 have r2:RV g1.m w1 (⟨x0,x1⟩:Span) (.agg (setCh [[.int .i64 0],[.int .i64 0]] [(0,.int .i64 (x0)),(1,.int .i64 (x1))]).flatten.toArray):=RV_build rfl (rep_pair (rfl) (rep_last (rfl)))
 generalize hv2:(Value.agg (setCh [[.int .i64 0],[.int .i64 0]] [(0,.int .i64 (x0)),(1,.int .i64 (x1))]).flatten.toArray)=v2 at r2
 refine EL_p v2 (hv2 ▸ P_build (vs:=[(0,.int .i64 (x0)),(1,.int .i64 (x1))]) [[.int .i64 0],[.int .i64 0]] lay_55 rfl rfl (.cons rfl (.cons rfl .nil)) ⟨⟨_,rfl,rfl⟩,⟨⟨_,rfl,rfl⟩,trivial⟩⟩) rfl ?_
 refine Ze .plain rfl (D_storeOc (g:=g1) (v:=v2) Tryz.sizeOf55 rfl b1 rfl r2 fun g3 w3 hs b3 cb=>?_)
 clear cb
 have hfr:=hfr.stp hs
 refine Zb (Zd (E_ret ?_))
 obtain rfl:=sinj h
 obtain ⟨ad4,cv4,hp4,o0,cr4⟩:=ob_read Tryz.isAgg55 Tryz.sizeOf55 b3
 exact endm_c rfl rfl ((show _=p1 from rfl).trans hp4) o0 ⟨_,hfr,cr4⟩
def f16 (x0:List LoomRun):Option ((List LoomRun)):=
 (apnd 24 (([]:List LoomRun)) x0).bind fun y3=>
 some (y3)
theorem en16:Enters Tryz.prog 16:=enters_of Tryz.func16 (by kernel_rfl) rfl
theorem wk16 {gI:Gh} {wI:World} {x0:List LoomRun} {up0:Value} (rp0:RV gI.m wI x0 up0) {r:(List LoomRun)} (h:f16 x0=some r):Fn Tryz.prog 16 #[up0] gI wI (fun m w v=>RV m w (r) v):=by
 unfold f16 at h
 refine fn_of_E Tryz.func16 rfl (Nat.le_of_ble_eq_true rfl) fun g0 hm hfr=>?_
 have rp0:RV g0.m wI x0 up0:=hm ▸ rp0
 show E _ 6 none _ _ _ _ _
 refine Zf (Za (Zg (.slice none 0 0) rfl rfl ?_))
 refine Zb (Zd (Zf (Za (Ze .plain rfl (D_buildSlice (g:=g0) 3003 (xs:=([]:List LoomRun)) (vs:=[]) Tryz.underlying48 Tryz.sizeOf65 Tryz.zeroValue65 rfl rfl .nil RVs.nil rfl rfl fun g1 w1 v1 hs o1 r1 hxt hfl=>?_)))))
 have hfr:=hfr.stp hs
 have rp0:=rp0.stp hs
 refine Zn up0 rfl rfl ?_
 obtain ⟨y3,hy3,h⟩:=bsome h
 refine Ze .plain rfl (D_append (g:=g1) (i:=3003) Tryz.underlying48 info_65 rfl rfl o1 r1 rfl rp0 hy3 fun g2 w2 v2 hs o2 r2 _=>?_)
 have hfr:=hfr.stp hs
 refine Zg v2 rfl rfl ?_
 refine Zb (Zd (E_ret ?_))
 obtain rfl:=sinj h
 exact end1 rfl rfl (show _=v2 from rfl) ⟨_,hfr,r2⟩
def f18 (x0:UInt8) (x1:List UInt16):Option (Design):=
 (rem64 ((x0).toNat:Int) (7:Int)).bind fun y2=>
 Option.bind (α:=Design) (
  lp (σ:=Design × Int) (fun o8 (u0,o0)=>
   jn (σ:=Unit) (fun _=>
    Option.bind (α:=Design) (
     Option.bind (α:=Int) (
      bif (decide (o0 < ((x1).length : Int))) then
       (idx x1 o0).bind fun i7=>
       (shl64 (1:Int) (wu64 (u0).Hooks)).bind fun i8=>
       (rem64 ((i7).toNat:Int) i8).bind fun j7=>
       some (j7)
      else
       some ((1:Int))
      ) fun i5=>
     (apnd 8 ((u0).Rows) (([i5]:List Int))).bind fun k8=>
     some ({ u0 with Rows:=k8 })
     ) fun l5=>
    o8 (l5,(w64 (o0 + (1:Int))))
    ) fun q8=>
   Option.bind (α:=Bool) (
    bif (o0 == (0 : Int)) then
     some (true)
    else
     bif (decide (o0 < ((x1).length : Int))) then
      some ((decide (o0 < (12:Int))))
     else
      some (false)
    ) fun o3=>
   bif o3 then
    q8 ()
   else
    some (u0)
   ) big ((⟨(w64 ((2:Int) + y2)),[]⟩:Design),(0:Int))
  ) fun q5=>
 some (q5)
theorem en18:Enters Tryz.prog 18:=enters_of Tryz.func18 (by kernel_rfl) rfl
theorem wk18 {gI:Gh} {wI:World} {x0:UInt8} {x1:List UInt16} {up1:Value} (rp1:RV gI.m wI x1 up1) {r:Design} (h:f18 x0 x1=some r):Fn Tryz.prog 18 #[.int .u8 (UInt8.toNat (x0)),up1] gI wI (fun m w v=>RV m w (r) v):=by
 unfold f18 at h
 refine fn_of_E Tryz.func18 rfl (Nat.le_of_ble_eq_true rfl) fun g0 hm hfr=>?_
 have rp1:RV g0.m wI x1 up1:=hm ▸ rp1
 show E _ 48 none _ _ _ _ _
 refine Zf (Za (Ze .plain rfl (D_allocOc (g:=g0) 2004 (⟨0,[]⟩:Design) Tryz.zeroValue35 (fun m w=>⟨_,(rep_two rep_int rep_nil),rfl⟩) fun g1 w1 p1 hs b1 cb=>?_)))
 have hfr:=hfr.stp hs
 have rp1:=rp1.stp hs
 have x6:OSF 2004 60401 1 g1 w1 3 35 ([]:List Int) p1:=cb.osf (by rfl)
 clear cb
 refine Zb (Zd (Zf (Za (Zn (.int .u8 (UInt8.toNat (x0))) rfl rfl ?_))))
 refine EL_p (.int .i64 (((x0).toNat:Int))) (P_u8int Tryz.underlying5 Tryz.underlying3 rfl) rfl ?_
 obtain ⟨y2,hy2,h⟩:=bsome h
 refine EL_p (.int .i64 (y2)) (P_int rfl rfl (congrArg (Option.map (Value.int .i64)) hy2)) rfl ?_
 refine EL_in (.int .i64 ((w64 ((2:Int) + y2)))) rfl rfl rfl rfl ?_
 have r3:RV g1.m w1 (⟨(w64 ((2:Int) + y2)),[]⟩:Design) (.agg (setCh [[.int .i64 0],[.slice none 0 0]] [(0,.int .i64 ((w64 ((2:Int) + y2))))]).flatten.toArray):=RV_build rfl (rep_pair (rfl) (rep_last (rep_nil)))
 generalize hv3:(Value.agg (setCh [[.int .i64 0],[.slice none 0 0]] [(0,.int .i64 ((w64 ((2:Int) + y2))))]).flatten.toArray)=v3 at r3
 refine EL_p v3 (hv3 ▸ P_build (vs:=[(0,.int .i64 ((w64 ((2:Int) + y2))))]) [[.int .i64 0],[.slice none 0 0]] lay_35 rfl rfl (.cons rfl .nil) ⟨⟨_,rfl,rfl⟩,trivial⟩) rfl ?_
 refine Ze .plain rfl (D_allocOc (g:=g1) 2005 (⟨0,[]⟩:Design) Tryz.zeroValue35 (fun m w=>⟨_,(rep_two rep_int rep_nil),rfl⟩) fun g4 w4 p4 hs b4 cb=>?_)
 have hfr:=hfr.stp hs
 have rp1:=rp1.stp hs
 have x6:=x6.stp hs rfl
 have b1:=b1.stp hs rfl
 have r3:=r3.stp hs
 have yB:OSF 2005 60501 1 g4 w4 3 35 ([]:List Int) p4:=cb.osf (by rfl)
 clear cb
 refine Ze .plain rfl (D_storeOc (g:=g4) (v:=v3) Tryz.sizeOf35 rfl b4 rfl r3 fun g5 w5 hs b5 cb=>?_)
 have xA:OSF 2005 60501 1 g5 w5 3 35 ([]:List Int) p4:=cb.osf (by rw [← hv3]; rfl)
 clear cb
 have hfr:=hfr.stp hs
 have rp1:=rp1.stp hs
 have x6:=x6.stp hs rfl
 have b1:=b1.stp hs rfl
 refine Zb (Zd ?_)
 obtain ⟨q5,hx,h⟩:=bsome h
 refine E_join (fun e w=>∃ (g:Gh) ,Fr gI wI g w∧e 4=p1∧OB 2004 g w 35 ((⟨0,[]⟩:Design):Design) p1∧OSF 2004 60401 1 g w 3 35 (((⟨0,[]⟩:Design)).Rows) p1∧e 5=p4∧OB 2005 g w 35 (q5:Design) p4∧OSF 2005 60501 1 g w 3 35 ((q5).Rows) p4) (fun Q' hQ=>?_) (fun mB zB hR=>?_)
 ·replace h := hx
  clear hx
  refine Zf (Za (Zg (.int .i64 (0)) rfl rfl ?_))
  refine Zb (Zd (Zr ?_))
  refine E_lp h (fun (s:Design × Int) e w=>∃ (g:Gh) ,Fr gI wI g w∧e 1=up1∧RV g.m w (x1:List UInt16) up1∧e 4=p1∧OB 2004 g w 35 ((⟨0,[]⟩:Design):Design) p1∧OSF 2004 60401 1 g w 3 35 (((⟨0,[]⟩:Design)).Rows) p1∧e 5=p4∧OB 2005 g w 35 (s.1:Design) p4∧OSF 2005 60501 1 g w 3 35 ((s.1).Rows) p4∧e 6=.int .i64 (s.2)) ⟨g5,hfr,rfl,rp1,rfl,b1,x6,rfl,b5,xA,rfl⟩ (fun X152 o8 mA=>?_)
  rintro ⟨u0,o0⟩ nB aC ⟨l8,hfr,t5,x5,y6,a7,u4_1_153,b7,c7,u5_1_153,u3⟩ h
  refine Zq h (fun (s:Unit) e w=>∃ (g:Gh) ,Fr gI wI g w∧e 1=up1∧RV g.m w (x1:List UInt16) up1∧e 4=p1∧OB 2004 g w 35 ((⟨0,[]⟩:Design):Design) p1∧OSF 2004 60401 1 g w 3 35 (((⟨0,[]⟩:Design)).Rows) p1∧e 5=p4∧OB 2005 g w 35 (u0:Design) p4∧OSF 2005 60501 1 g w 3 35 ((u0).Rows) p4∧e 6=.int .i64 (o0)) (fun X160 q8 nA h=>?_) ?_
  ·obtain ⟨o3, hx, h⟩ := bsome h
   refine E_join (fun e w=>∃ (g:Gh) ,Fr gI wI g w∧e 1=up1∧RV g.m w (x1:List UInt16) up1∧e 4=p1∧OB 2004 g w 35 ((⟨0,[]⟩:Design):Design) p1∧OSF 2004 60401 1 g w 3 35 (((⟨0,[]⟩:Design)).Rows) p1∧e 5=p4∧OB 2005 g w 35 (u0:Design) p4∧OSF 2005 60501 1 g w 3 35 ((u0).Rows) p4∧e 6=.int .i64 (o0)∧e 24=.bool (o3)) (fun Q' hQ=>?_) (fun oB cC hR=>?_)
   ·replace h := hx
    clear hx
    refine Za (Zo u3 rfl ?_)
    refine EL_in (.bool ((o0 == (0:Int)))) rfl rfl rfl rfl ?_
    refine Zn (.bool ((o0 == (0:Int)))) rfl rfl ?_
    rcases Zt h with ⟨j1,h⟩ | ⟨j1,h⟩
    ·refine EL_s rfl rfl j1 rfl rfl ?_
     iterate 4 refine EL_s rfl rfl j1 rfl rfl ?_
     refine EL_skip (.off rfl rfl) rfl ?_
     refine EL_skip (.off rfl rfl) rfl ?_
     refine EL_s rfl rfl j1 rfl rfl ?_
     refine EL_p (.bool true) (Zl (b:=(o0 == (0:Int))) rfl (pick_t j1 rfl)) rfl ?_
     refine Zb ?_
     obtain rfl:=sinj h
     exact hQ _ _ ⟨l8,hfr,t5,x5,y6,a7,u4_1_153,b7,c7,u5_1_153,u3,rfl⟩
    ·refine EL_y (.int .i64 (o0)) (Zk u3) rfl rfl j1 rfl ?_
     refine EL_y up1 (Zk t5) rfl rfl j1 rfl ?_
     refine EL_y (.int .i64 ((x1).length:Int)) (P_len Tryz.underlying22 rfl x5) rfl rfl j1 rfl ?_
     refine EL_y (.bool ((decide (o0 < ((x1).length:Int))))) (P_int rfl rfl rfl) rfl rfl j1 rfl ?_
     refine EL_y (.bool ((decide (o0 < ((x1).length:Int))))) (Zk rfl) rfl rfl j1 rfl ?_
     rcases Zt h with ⟨z4,h⟩ | ⟨z4,h⟩
     ·refine EL_y (.int .i64 (o0)) (Zk u3) rfl rfl z4 rfl ?_
      refine EL_y (.bool ((decide (o0 < (12:Int))))) (P_int rfl rfl rfl) rfl rfl z4 rfl ?_
      refine EL_y (.bool ((decide (o0 < (12:Int))))) (Zl (b:=(decide (o0 < ((x1).length:Int)))) rfl (pick_t z4 rfl)) rfl rfl j1 rfl ?_
      refine EL_p (.bool ((decide (o0 < (12:Int))))) (Zl (b:=(o0 == (0:Int))) rfl (pick_f j1 rfl)) rfl ?_
      refine Zb ?_
      obtain rfl:=sinj h
      exact hQ _ _ ⟨l8,hfr,t5,x5,y6,a7,u4_1_153,b7,c7,u5_1_153,u3,rfl⟩
     ·refine EL_s rfl rfl z4 rfl rfl ?_
      refine EL_s rfl rfl z4 rfl rfl ?_
      refine EL_y (.bool false) (Zl (b:=(decide (o0 < ((x1).length:Int)))) rfl (pick_f z4 rfl)) rfl rfl j1 rfl ?_
      refine EL_p (.bool false) (Zl (b:=(o0 == (0:Int))) rfl (pick_f j1 rfl)) rfl ?_
      refine Zb ?_
      obtain rfl:=sinj h
      exact hQ _ _ ⟨l8,hfr,t5,x5,y6,a7,u4_1_153,b7,c7,u5_1_153,u3,rfl⟩
   ·clear hx
    obtain ⟨r8,hfr,t8,v8,o7,u7,u4_1_165,v7,c8,u5_1_165,x8,g7⟩:=hR
    rcases Zt h with ⟨m7,h⟩ | ⟨m7,h⟩
    ·refine E_cond_true (Eq.trans (show ev _ _ = .bool (o3) from g7) (congrArg Value.bool m7)) ?_
     exact Zu (Zd (nA () _ _ ⟨r8,hfr,t8,v8,o7,u7,u4_1_165,v7,c8,u5_1_165,x8⟩ h))
    ·refine E_cond_false (Eq.trans (show ev _ _ = .bool (o3) from g7) (congrArg Value.bool m7)) ?_
     refine E_exit ?_
     refine thn_e ?_
     refine thn_e ?_
     refine blk_hit ?_
     obtain rfl:=sinj h
     exact hQ _ _ ⟨r8,hfr,o7,u7,u4_1_165,v7,c8,u5_1_165⟩
  ·rintro _ tB dC ⟨y8, hfr, i6, d3, e8, j6, u4_1_167, d7, z3, u5_1_167, v6⟩ h
   obtain ⟨l5,hx,h⟩:=bsome h
   refine E_join (fun e w=>∃ (g:Gh) ,Fr gI wI g w∧e 1=up1∧RV g.m w (x1:List UInt16) up1∧e 4=p1∧OB 2004 g w 35 ((⟨0,[]⟩:Design):Design) p1∧OSF 2004 60401 1 g w 3 35 (((⟨0,[]⟩:Design)).Rows) p1∧e 5=p4∧OB 2005 g w 35 (l5:Design) p4∧OSF 2005 60501 1 g w 3 35 ((l5).Rows) p4∧e 6=.int .i64 (o0)) (fun Q' hQ=>?_) (fun vB eC hR=>?_)
   ·replace h := hx
    clear hx
    refine Zr ?_
    refine Zf (Za (Zg (.int .i64 (1)) rfl rfl ?_))
    refine Zb (Zd ?_)
    obtain ⟨i5,hx,h⟩:=bsome h
    refine E_join (fun e w=>∃ (g:Gh) ,Fr gI wI g w∧e 1=up1∧RV g.m w (x1:List UInt16) up1∧e 4=p1∧OB 2004 g w 35 ((⟨0,[]⟩:Design):Design) p1∧OSF 2004 60401 1 g w 3 35 (((⟨0,[]⟩:Design)).Rows) p1∧e 5=p4∧OB 2005 g w 35 (u0:Design) p4∧OSF 2005 60501 1 g w 3 35 ((u0).Rows) p4∧e 6=.int .i64 (o0)∧e 7=.int .i64 (i5)) (fun Q' hQ=>?_) (fun xB iC hR=>?_)
    ·replace h := hx
     clear hx
     refine Zf (Za (Zo v6 rfl ?_))
     refine Zo i6 rfl ?_
     refine EL_p (.int .i64 ((x1).length:Int)) (P_len Tryz.underlying22 rfl d3) rfl ?_
     refine EL_in (.bool ((decide (o0 < ((x1).length:Int))))) rfl rfl rfl rfl ?_
     refine Zb (Zd ?_)
     rcases Zt h with ⟨n7,h⟩ | ⟨n7,h⟩
     ·refine E_ct n7 rfl ?_
      obtain ⟨i7,n8,h⟩:=bsome h
      have yA:=PT_idx d3 n8
      refine Zs (x:=.tmp 33) Tryz.isAgg109 Tryz.sizeOf109 yA fun jC zA oA=>?_
      obtain rfl:=RV_u16.1 zA
      refine L_loadO (x:=.tmp 36) part_Design_0.1 Tryz.isAgg3 Tryz.sizeOf3 z3 fun kC aB pA=>?_
      obtain rfl:=Zj.1 aB
      obtain ⟨i8,qA,h⟩:=bsome h
      obtain ⟨j7,rA,h⟩:=bsome h
      refine E_drawL (g:=y8) (n:=11) [] [0,1,2,3,4,5,6,7,8,9,10] rfl mixed (by kernel_rfl) trivial ?_
      refine L_p up1 rfl rfl (Zk i6) ?_
      refine L_p (.int .i64 (o0)) rfl rfl (Zk v6) ?_
      refine L_p (ePtr up1 o0 1) rfl rfl (Zh (α:=UInt16) Tryz.underlying22 Tryz.sizeOf109 rfl d3 rfl n8) ?_
      refine L_ld (c:=.int .u16 (UInt16.toNat (i7))) rfl rfl .plain (fun _ _ h=>h.ch) oA rfl ?_
      refine L_p (.int .i64 (((i7).toNat:Int))) rfl rfl (P_u16int Tryz.underlying109 Tryz.underlying3 rfl) ?_
      refine L_p (fPtr p4 0) rfl rfl (Zc at_35_0 d7 (OB.ptr z3)) ?_
      refine L_ld (c:=.int .i64 ((u0).Hooks)) rfl rfl .plain (fun _ _ h=>⟨h.ch,fun b hb _=>h.below.block b hb⟩) pA rfl ?_
      refine L_p (.int .u64 (wu64 (u0).Hooks)) rfl rfl (P_intu64 Tryz.underlying3 Tryz.underlying110 rfl) ?_
      refine L_p (.int .i64 (i8)) rfl rfl (P_shlu rfl rfl qA) ?_
      refine L_p (.int .i64 (j7)) rfl rfl (P_int rfl rfl (congrArg (Option.map (Value.int .i64)) rA)) ?_
      refine L_p (.int .i64 (j7)) rfl rfl (P_assign rfl) ?_
      refine L_nl fun bB lC hs=>?_
      have hfr:=hfr.ext hs
      have d3:=d3.ext hs
      have u4_1_167:=u4_1_167.ext hs
      have j6:=j6.ext hs
      have u5_1_167:=u5_1_167.ext hs
      have z3:=z3.ext hs
      clear hs
      refine Zb ?_
      obtain rfl:=sinj h
      exact hQ _ _ ⟨bB,hfr,i6,d3,e8,j6,u4_1_167,d7,z3,u5_1_167,v6,rfl⟩
     ·refine E_cf n7 rfl ?_
      refine Zu ?_
      obtain rfl:=sinj h
      exact hQ _ _ ⟨y8,hfr,i6,d3,e8,j6,u4_1_167,d7,z3,u5_1_167,v6,rfl⟩
    ·clear hx
     obtain ⟨a9,hfr,d9,i3,e9,j3,u4_1_288,e7,z2,u5_1_288,i9,k9⟩:=hR
     refine Za (EL_p (fPtr p4 1) (Zc at_35_1 e7 (OB.ptr z2)) rfl ?_)
     refine Ze .plain rfl (D_loadFS (g:=a9) part_Design_1.1 Tryz.isAgg26 Tryz.sizeOf26 rfl z2 u5_1_288 fun mC m8 o290=>?_)
     refine Zo k9 rfl ?_
     refine Ze .plain rfl (D_buildSlice (g:=a9) 3044 (xs:=([i5]:List Int)) (vs:=[.int .i64 (i5)]) Tryz.underlying26 Tryz.sizeOf3 Tryz.zeroValue3 rfl rfl (.cons rfl .nil) (RVs.cons (Zj.2 rfl) RVs.nil) rfl rfl fun cB qC rC hs o291 dB hxt hfl=>?_)
     have hfr:=hfr.stp hs
     have i3:=i3.stp hs
     have u4_1_288:=u4_1_288.stp hs rfl
     have j3:=j3.stp hs rfl
     have z2:=z2.stp hs rfl
     have m8:=m8.stp hs
     have o290:=o290.stp hs rfl
     obtain ⟨k8,sA,h⟩:=bsome h
     refine Ze .plain rfl (D_append (g:=cB) (i:=60501) Tryz.underlying26 info_3 rfl rfl o290 m8 rfl dB sA fun eB tC uC hs o292 l9 _=>?_)
     have hfr:=hfr.stp hs
     have i3:=i3.stp hs
     have u4_1_288:=u4_1_288.stp hs rfl
     have j3:=j3.stp hs rfl
     have z2:=z2.stp hs rfl
     refine EL_p (fPtr p4 1) (Zc at_35_1 e7 (OB.ptr z2)) rfl ?_
     refine Ze .plain rfl (D_storeFc (g:=eB) part_Design_1 Tryz.sizeOf26 rfl z2 rfl l9 fun iB vC hs b295 rst hos=>?_)
     have n9:=hos _ _ 60501 3 (k8:List Int) (rv_cells1 l9) rfl o292
     clear rst hos
     have hfr:=hfr.stp hs
     have i3:=i3.stp hs
     have u4_1_288:=u4_1_288.stp hs rfl
     have j3:=j3.stp hs rfl
     refine Zb (blk_n ?_)
     obtain rfl:=sinj h
     exact hQ _ _ ⟨iB,hfr,d9,i3,e9,j3,u4_1_288,e7,b295,n9,i9⟩
   ·clear hx
    obtain ⟨jB,hfr,o9,t9,u9,y9,u4_1_296,z9,bA,u5_1_296,gA⟩:=hR
    refine Za (Zo gA rfl ?_)
    refine EL_in (.int .i64 ((w64 (o0 + (1:Int))))) rfl rfl rfl rfl ?_
    refine Zg (.int .i64 ((w64 (o0 + (1:Int))))) rfl rfl ?_
    exact Zb (Zd (mA (l5,(w64 (o0 + (1:Int)))) _ _ ⟨jB,hfr,o9,t9,u9,y9,u4_1_296,z9,bA,u5_1_296,rfl⟩ h))
 ·clear hx
  obtain ⟨iA,hfr,g8,jA,u4_1_297,kA,lA,u5_1_297⟩:=hR
  refine Zf (Za (Ze .plain rfl (D_loadO (g:=iA) Tryz.isAgg35 Tryz.sizeOf35 kA lA fun kB lB=>?_)))
  refine Ze .plain rfl (D_storeOc (g:=iA) (v:=kB) Tryz.sizeOf35 g8 jA rfl lB fun xC yC hs b299 cb=>?_)
  clear cb
  have hfr:=hfr.stp hs
  refine Zb (Zd (E_ret ?_))
  obtain rfl:=sinj h
  obtain ⟨ad300,cv300,hp300,uA,cr300⟩:=ob_read Tryz.isAgg35 Tryz.sizeOf35 b299
  exact endm_c rfl rfl ((show _=p1 from g8).trans hp300) uA ⟨_,hfr,cr300⟩
def f22 (x0:List Int):Option ((List Int)):=
 (apnd 8 (([]:List Int)) x0).bind fun y3=>
 some (y3)
theorem en22:Enters Tryz.prog 22:=enters_of Tryz.func22 (by kernel_rfl) rfl
theorem wk22 {gI:Gh} {wI:World} {x0:List Int} {up0:Value} (rp0:RV gI.m wI x0 up0) {r:(List Int)} (h:f22 x0=some r):Fn Tryz.prog 22 #[up0] gI wI (fun m w v=>RV m w (r) v):=by
 unfold f22 at h
 refine fn_of_E Tryz.func22 rfl (Nat.le_of_ble_eq_true rfl) fun g0 hm hfr=>?_
 have rp0:RV g0.m wI x0 up0:=hm ▸ rp0
 show E _ 6 none _ _ _ _ _
 refine Zf (Za (Zg (.slice none 0 0) rfl rfl ?_))
 refine Zb (Zd (Zf (Za (Ze .plain rfl (D_buildSlice (g:=g0) 3003 (xs:=([]:List Int)) (vs:=[]) Tryz.underlying26 Tryz.sizeOf3 Tryz.zeroValue3 rfl rfl .nil RVs.nil rfl rfl fun g1 w1 v1 hs o1 r1 hxt hfl=>?_)))))
 have hfr:=hfr.stp hs
 have rp0:=rp0.stp hs
 refine Zn up0 rfl rfl ?_
 obtain ⟨y3,hy3,h⟩:=bsome h
 refine Ze .plain rfl (D_append (g:=g1) (i:=3003) Tryz.underlying26 info_3 rfl rfl o1 r1 rfl rp0 hy3 fun g2 w2 v2 hs o2 r2 _=>?_)
 have hfr:=hfr.stp hs
 refine Zg v2 rfl rfl ?_
 refine Zb (Zd (E_ret ?_))
 obtain rfl:=sinj h
 exact end1 rfl rfl (show _=v2 from rfl) ⟨_,hfr,r2⟩
def f23 (x0:Design):Option (Design):=
 (apnd 8 (([]:List Int)) ((x0).Rows)).bind fun y7=>
 some ({ x0 with Rows:=y7 })
theorem en23:Enters Tryz.prog 23:=enters_of Tryz.func23 (by kernel_rfl) rfl
theorem wk23 {gI:Gh} {wI:World} {x0:Design} {up0:Value} (rp0:RV gI.m wI x0 up0) {r:Design} (h:f23 x0=some r):Fn Tryz.prog 23 #[up0] gI wI (fun m w v=>RV m w (r) v):=by
 unfold f23 at h
 refine fn_of_E Tryz.func23 rfl (Nat.le_of_ble_eq_true rfl) fun g0 hm hfr=>?_
 have rp0:RV g0.m wI x0 up0:=hm ▸ rp0
 show E _ 9 none _ _ _ _ _
 refine Zf (Za (Ze .plain rfl (D_boxO (g:=g0) 2001 rfl rp0 fun g1 w1 p1 hs b1=>?_)))
 have hfr:=hfr.stp hs
 refine Ze .plain rfl (D_allocOc (g:=g1) 2002 (⟨0,[]⟩:Design) Tryz.zeroValue35 (fun m w=>⟨_,(rep_two rep_int rep_nil),rfl⟩) fun g2 w2 p2 hs b2 cb=>?_)
 have hfr:=hfr.stp hs
 have b1:=b1.stp hs rfl
 have z2:OSF 2002 60201 1 g2 w2 3 35 ([]:List Int) p2:=cb.osf (by rfl)
 clear cb
 refine Zb (Zd (Zf (Za (Ze .plain rfl (D_buildSlice (g:=g2) 3003 (xs:=([]:List Int)) (vs:=[]) Tryz.underlying26 Tryz.sizeOf3 Tryz.zeroValue3 rfl rfl .nil RVs.nil rfl rfl fun g3 w3 v3 hs o3 r3 hxt hfl=>?_)))))
 have hfr:=hfr.stp hs
 have b1:=b1.stp hs rfl
 have b2:=b2.stp hs rfl
 refine EL_p (fPtr p1 1) (Zc at_35_1 rfl (OB.ptr b1)) rfl ?_
 refine Ze .plain rfl (D_loadF (g:=g3) part_Design_1.1 Tryz.isAgg26 Tryz.sizeOf26 rfl b1 fun v5 r5=>?_)
 obtain ⟨y7,o0,h⟩:=bsome h
 refine Ze .plain rfl (D_append (g:=g3) (i:=3003) Tryz.underlying26 info_3 rfl rfl o3 r3 rfl r5 o0 fun g6 w6 v6 hs o6 r6 _=>?_)
 have hfr:=hfr.stp hs
 have b1:=b1.stp hs rfl
 have b2:=b2.stp hs rfl
 refine EL_p (fPtr p1 1) (Zc at_35_1 rfl (OB.ptr b1)) rfl ?_
 refine Ze .plain rfl (D_storeFc (g:=g6) part_Design_1 Tryz.sizeOf26 rfl b1 rfl r6 fun g9 w9 hs b9 rst hos=>?_)
 have d3:=hos _ _ 3003 3 (y7:List Int) (rv_cells1 r6) rfl o6
 clear rst hos
 have hfr:=hfr.stp hs
 have b2:=b2.stp hs rfl
 refine Zb (Zd (Zf (Za (Ze .plain rfl (D_loadO (g:=g9) Tryz.isAgg35 Tryz.sizeOf35 rfl b9 fun u0 j1=>?_)))))
 refine Ze .plain rfl (D_storeOc (g:=g9) (v:=u0) Tryz.sizeOf35 rfl b2 rfl j1 fun i3 j3 hs b11 cb=>?_)
 clear cb
 have hfr:=hfr.stp hs
 refine Zb (Zd (E_ret ?_))
 obtain rfl:=sinj h
 obtain ⟨ad12,cv12,hp12,hl12,cr12⟩:=ob_read Tryz.isAgg35 Tryz.sizeOf35 b11
 exact endm_c rfl rfl ((show _=p2 from rfl).trans hp12) hl12 ⟨_,hfr,cr12⟩
def f27 (x0:LoomLoomMill):Option (Int):=
 (shl64 (1:Int) (((x0).orders).length:Int)).bind fun y4=>
 some ((w64 (y4 - (1:Int))))
theorem en27:Enters Tryz.prog 27:=enters_of Tryz.func27 (by kernel_rfl) rfl
theorem wk27 {gI:Gh} {wI:World} {x0:LoomLoomMill} {up0:Value} (rp0:RV gI.m wI x0 up0) {r:Int} (h:f27 x0=some r):Fn Tryz.prog 27 #[up0] gI wI (fun _ _ v=>v=.int .i64 (r)):=by
 unfold f27 at h
 refine fn_of_E Tryz.func27 rfl (Nat.le_of_ble_eq_true rfl) fun g0 hm hfr=>?_
 have rp0:RV g0.m wI x0 up0:=hm ▸ rp0
 show E _ 8 none _ _ _ _ _
 refine Zf (Za (Ze .plain rfl (D_box (g:=g0) rfl rp0 fun g1 w1 p1 hs q1=>?_)))
 have hfr:=hfr.ext hs
 refine Zg (.int .i64 (0)) rfl rfl ?_
 refine Zb (Zd (Zf (Za (EL_p (fPtr p1 2) (Zc at_81_1 rfl (PT.ptr q1)) rfl ?_))))
 have q2:=Zm (part_LoomLoomMill_1).1 q1
 refine Ze .plain rfl (D_load (g:=g1) Tryz.isAgg29 Tryz.sizeOf29 rfl q2 fun v3 r3=>?_)
 refine EL_p (.int .i64 (((x0).orders).length:Int)) (P_len Tryz.underlying29 rfl r3) rfl ?_
 obtain ⟨y4,o0,h⟩:=bsome h
 refine EL_p (.int .i64 (y4)) (P_int rfl rfl (congrArg (Option.map (Value.int .i64)) o0)) rfl ?_
 refine EL_in (.int .i64 ((w64 (y4 - (1:Int))))) rfl rfl rfl rfl ?_
 refine Zg (.int .i64 ((w64 (y4 - (1:Int))))) rfl rfl ?_
 refine Zb (Zd (E_ret ?_))
 obtain rfl:=sinj h
 exact end1 rfl rfl (show _=.int .i64 ((w64 (y4 - (1:Int)))) from rfl) ⟨_,hfr,rfl⟩
def f29 :Option (FaultLoom):=
 some ((⟨(⟨(4:Int),([(0:Int),(1:Int),(2:Int),(3:Int),(2:Int),(1:Int)]:List Int)⟩:TieHarness),(⟨(4:Int),([(1:Int),(6:Int)]:List Int)⟩:Design)⟩:FaultLoom))
theorem en29:Enters Tryz.prog 29:=enters_of Tryz.func29 (by kernel_rfl) rfl
theorem wk29 {gI:Gh} {wI:World}   {r:FaultLoom} (h:f29 =some r):Fn Tryz.prog 29 #[] gI wI (fun m w v=>RV m w (r) v):=by
 unfold f29 at h
 refine fn_of_E Tryz.func29 rfl (Nat.le_of_ble_eq_true rfl) fun g0 hm hfr=>?_
 show E _ 6 none _ _ _ _ _
 refine Zf (Za (Ze .plain rfl (D_allocOc (g:=g0) 2000 (⟨⟨0,[]⟩,⟨0,[]⟩⟩:FaultLoom) Tryz.zeroValue37 (fun m w=>⟨_,(rep_two (rep_two rep_int rep_nil) (rep_two rep_int rep_nil)),rfl⟩) fun g1 w1 p1 hs b1 cb=>?_)))
 have hfr:=hfr.stp hs
 have z2:OSF 2000 60001 1 g1 w1 3 37 ([]:List Int) p1:=cb.osf (by rfl)
 have d3:OSF 2000 60003 3 g1 w1 3 37 ([]:List Int) p1:=cb.osf (by rfl)
 clear cb
 refine Zb (Zd (Zf (Za (Ze .plain rfl (D_buildSlice (g:=g1) 3001 (xs:=([(0:Int),(1:Int),(2:Int),(3:Int),(2:Int),(1:Int)]:List Int)) (vs:=[.int .i64 (0),.int .i64 (1),.int .i64 (2),.int .i64 (3),.int .i64 (2),.int .i64 (1)]) Tryz.underlying26 Tryz.sizeOf3 Tryz.zeroValue3 rfl rfl (.cons rfl (.cons rfl (.cons rfl (.cons rfl (.cons rfl (.cons rfl .nil)))))) (RVs.cons (Zj.2 rfl) (RVs.cons (Zj.2 rfl) (RVs.cons (Zj.2 rfl) (RVs.cons (Zj.2 rfl) (RVs.cons (Zj.2 rfl) (RVs.cons (Zj.2 rfl) RVs.nil)))))) rfl rfl fun g2 w2 v2 hs o2 r2 hxt hfl=>?_)))))
 have hfr:=hfr.stp hs
 have b1:=b1.stp hs rfl
 have r3:RV g2.m _ (⟨(4:Int),([(0:Int),(1:Int),(2:Int),(3:Int),(2:Int),(1:Int)]:List Int)⟩:TieHarness) (.agg (setCh [[.int .i64 0],[.slice none 0 0]] [(0,.int .i64 (4)),(1,v2)]).flatten.toArray):=RV_build rfl (rep_pair (rfl) (rep_last (RV.cells r2)))
 generalize hv3:(Value.agg (setCh [[.int .i64 0],[.slice none 0 0]] [(0,.int .i64 (4)),(1,v2)]).flatten.toArray)=v3 at r3
 refine EL_p v3 (hv3 ▸ P_build (vs:=[(0,.int .i64 (4)),(1,v2)]) [[.int .i64 0],[.slice none 0 0]] lay_33 rfl rfl (.cons rfl (.cons rfl .nil)) ⟨⟨_,rfl,rfl⟩,⟨⟨_,rfl,cells_size r2⟩,trivial⟩⟩) rfl ?_
 refine Ze .plain rfl (D_buildSlice (g:=g2) 3003 (xs:=([(1:Int),(6:Int)]:List Int)) (vs:=[.int .i64 (1),.int .i64 (6)]) Tryz.underlying26 Tryz.sizeOf3 Tryz.zeroValue3 rfl rfl (.cons rfl (.cons rfl .nil)) (RVs.cons (Zj.2 rfl) (RVs.cons (Zj.2 rfl) RVs.nil)) rfl rfl fun g4 w4 v4 hs o4 r4 hxt hfl=>?_)
 have hfr:=hfr.stp hs
 have b1:=b1.stp hs rfl
 have r3:=r3.stp hs
 have r5:RV g4.m _ (⟨(4:Int),([(1:Int),(6:Int)]:List Int)⟩:Design) (.agg (setCh [[.int .i64 0],[.slice none 0 0]] [(0,.int .i64 (4)),(1,v4)]).flatten.toArray):=RV_build rfl (rep_pair (rfl) (rep_last (RV.cells r4)))
 generalize o0:(Value.agg (setCh [[.int .i64 0],[.slice none 0 0]] [(0,.int .i64 (4)),(1,v4)]).flatten.toArray)=v5 at r5
 refine EL_p v5 (o0 ▸ P_build (vs:=[(0,.int .i64 (4)),(1,v4)]) [[.int .i64 0],[.slice none 0 0]] lay_35 rfl rfl (.cons rfl (.cons rfl .nil)) ⟨⟨_,rfl,rfl⟩,⟨⟨_,rfl,cells_size r4⟩,trivial⟩⟩) rfl ?_
 have r6:RV g4.m _ (⟨(⟨(4:Int),([(0:Int),(1:Int),(2:Int),(3:Int),(2:Int),(1:Int)]:List Int)⟩:TieHarness),(⟨(4:Int),([(1:Int),(6:Int)]:List Int)⟩:Design)⟩:FaultLoom) (.agg (setCh [[.int .i64 0,.slice none 0 0],[.int .i64 0,.slice none 0 0]] [(0,v3),(1,v5)]).flatten.toArray):=RV_build rfl (rep_pair (RV.cells r3) (rep_last (RV.cells r5)))
 generalize u0:(Value.agg (setCh [[.int .i64 0,.slice none 0 0],[.int .i64 0,.slice none 0 0]] [(0,v3),(1,v5)]).flatten.toArray)=v6 at r6
 refine EL_p v6 (u0 ▸ P_build (vs:=[(0,v3),(1,v5)]) [[.int .i64 0,.slice none 0 0],[.int .i64 0,.slice none 0 0]] lay_37 rfl rfl (.cons rfl (.cons rfl .nil)) ⟨⟨_,rfl,cells_size r3⟩,⟨⟨_,rfl,cells_size r5⟩,trivial⟩⟩) rfl ?_
 refine Ze .plain rfl (D_storeOc (g:=g4) (v:=v6) Tryz.sizeOf37 rfl b1 rfl r6 fun g7 w7 hs b7 cb=>?_)
 clear cb
 have hfr:=hfr.stp hs
 refine Zb (Zd (E_ret ?_))
 obtain rfl:=sinj h
 obtain ⟨ad8,cv8,hp8,j1,cr8⟩:=ob_read Tryz.isAgg37 Tryz.sizeOf37 b7
 exact endm_c rfl rfl ((show _=p1 from rfl).trans hp8) j1 ⟨_,hfr,cr8⟩
def f33 (x0:List Int) (x1:List Int):Option (Bool):=
 jn (σ:=Unit) (fun _=>
  jn (σ:=Unit) (fun _=>
   some (true)
   ) fun k53=>
  lp (σ:=Int) (fun k54 o0=>
   jn (σ:=Unit) (fun _=>
    jn (σ:=Unit) (fun _=>
     k54 ((w64 (o0 + (1:Int))))
     ) fun b7=>
    (idx x0 o0).bind fun j3=>
    (idx x1 o0).bind fun o3=>
    bif (j3 != o3) then
     some (false)
    else
     b7 ()
    ) fun k57=>
   bif (decide (o0 < ((x0).length : Int))) then
    k57 ()
   else
    k53 ()
   ) big ((0:Int))
  ) fun k2=>
 bif (((x0).length : Int) != ((x1).length : Int)) then
  some (false)
 else
  k2 ()
theorem en33:Enters Tryz.prog 33:=enters_of Tryz.func33 (by kernel_rfl) rfl
theorem wk33 {gI:Gh} {wI:World} {x0:List Int} {x1:List Int} {up0:Value} (rp0:RV gI.m wI x0 up0) {up1:Value} (rp1:RV gI.m wI x1 up1) {r:Bool} (h:f33 x0 x1=some r):Fn Tryz.prog 33 #[up0,up1] gI wI (fun _ _ v=>v=.bool (r)):=by
 unfold f33 at h
 refine fn_of_E Tryz.func33 rfl (Nat.le_of_ble_eq_true rfl) fun g0 hm hfr=>?_
 have rp0:RV g0.m wI x0 up0:=hm ▸ rp0
 have rp1:RV g0.m wI x1 up1:=hm ▸ rp1
 show E _ 26 none _ _ _ _ _
 refine Zf (Za (Zg (.bool false) rfl rfl ?_))
 refine Zb (Zd (Zq h (fun (s:Unit) e w=>∃ (g:Gh) ,Fr gI wI g w∧e 0=up0∧RV g.m w (x0:List Int) up0∧e 1=up1∧RV g.m w (x1:List Int) up1) (fun X2 k2 hk2 h=>?_) ?_))
 ·refine Zf (Za (Zn up0 rfl rfl ?_))
  refine EL_p (.int .i64 ((x0).length:Int)) (P_len Tryz.underlying26 rfl rp0) rfl ?_
  refine Zn up1 rfl rfl ?_
  refine EL_p (.int .i64 ((x1).length:Int)) (P_len Tryz.underlying26 rfl rp1) rfl ?_
  refine EL_in (.bool ((((x0).length:Int) != ((x1).length:Int)))) rfl rfl rfl rfl ?_
  refine Zb (Zd ?_)
  rcases Zt h with ⟨hc3,h⟩ | ⟨hc3,h⟩
  ·refine E_ct hc3 rfl ?_
   refine Zf (Za (Zg (.bool false) rfl rfl ?_))
   refine Zb (Zd (E_ret (thn_r ?_)))
   obtain rfl:=sinj h
   exact end1 rfl rfl (show _=.bool false from rfl) ⟨_,hfr,rfl⟩
  ·refine E_cf hc3 rfl ?_
   exact Zu (Zd (hk2 () _ _ ⟨g0,hfr,rfl,rp0,rfl,rp1⟩ h))
 ·rintro _ y8 w4 ⟨g4, hfr, d7, e7, g7, i7⟩ h
  refine Zq h (fun (s:Unit) e w=>∃ (g:Gh) ,Fr gI wI g w) (fun X53 k53 j7 h=>?_) ?_
  ·refine Zf (Za (Zg (.int .i64 (0)) rfl rfl ?_))
   refine Zb (Zd (Zr ?_))
   refine E_lp h (fun (s:Int) e w=>∃ (g:Gh) ,Fr gI wI g w∧e 0=up0∧RV g.m w (x0:List Int) up0∧e 1=up1∧RV g.m w (x1:List Int) up1∧e 5=.int .i64 (s)) ⟨g4,hfr,d7,e7,g7,i7,rfl⟩ (fun X54 k54 m7=>?_)
   rintro o0 q8 a9 ⟨c7,hfr,u3,z3,y6,a7,z4⟩ h
   refine Zq h (fun (s:Unit) e w=>∃ (g:Gh) ,Fr gI wI g w∧e 0=up0∧RV g.m w (x0:List Int) up0∧e 1=up1∧RV g.m w (x1:List Int) up1∧e 5=.int .i64 (o0)) (fun X57 k57 n7 h=>?_) ?_
   ·refine Zf (Za (Zo z4 rfl ?_))
    refine Zo u3 rfl ?_
    refine EL_p (.int .i64 ((x0).length:Int)) (P_len Tryz.underlying26 rfl z3) rfl ?_
    refine EL_in (.bool ((decide (o0 < ((x0).length:Int))))) rfl rfl rfl rfl ?_
    refine Zb (Zd ?_)
    rcases Zt h with ⟨i3,h⟩ | ⟨i3,h⟩
    ·refine E_ct i3 rfl ?_
     exact Zu (Zd (n7 () _ _ ⟨c7,hfr,u3,z3,y6,a7,z4⟩ h))
    ·refine E_cf i3 rfl ?_
     refine E_exit ?_
     refine thn_e ?_
     refine thn_e ?_
     refine blk_hit ?_
     exact Zd (j7 () _ _ ⟨c7,hfr⟩ h)
   ·rintro _ r8 d9 ⟨e8, hfr, i5, u0, l5, j1, z2⟩ h
    refine Zq h (fun (s:Unit) e w=>∃ (g:Gh) ,Fr gI wI g w∧e 0=up0∧RV g.m w (x0:List Int) up0∧e 1=up1∧RV g.m w (x1:List Int) up1∧e 5=.int .i64 (o0)) (fun X81 b7 o7 h=>?_) ?_
    ·refine Zr ?_
     refine Zf ?_
     obtain ⟨j3,q5,h⟩:=bsome h
     have g8:=PT_idx u0 q5
     refine Zs (x:=.tmp 19) Tryz.isAgg3 Tryz.sizeOf3 g8 fun e9 i8 u7=>?_
     obtain rfl:=Zj.1 i8
     obtain ⟨o3,t5,h⟩:=bsome h
     have k8:=PT_idx j1 t5
     refine Zs (x:=.tmp 23) Tryz.isAgg3 Tryz.sizeOf3 k8 fun i9 l8 v7=>?_
     obtain rfl:=Zj.1 l8
     refine E_drawL (g:=e8) (n:=9) [] [0,1,2,3,4,5,6,7,8] rfl mixed (by kernel_rfl) trivial ?_
     refine L_p up0 rfl rfl (Zk i5) ?_
     refine L_p (.int .i64 (o0)) rfl rfl (Zk z2) ?_
     refine L_p (ePtr up0 o0 1) rfl rfl (Zh (α:=Int) Tryz.underlying26 Tryz.sizeOf3 rfl u0 rfl q5) ?_
     refine L_ld (c:=.int .i64 (j3)) rfl rfl .plain (fun _ _ h=>h.ch) u7 rfl ?_
     refine L_p up1 rfl rfl (Zk l5) ?_
     refine L_p (.int .i64 (o0)) rfl rfl (Zk z2) ?_
     refine L_p (ePtr up1 o0 1) rfl rfl (Zh (α:=Int) Tryz.underlying26 Tryz.sizeOf3 rfl j1 rfl t5) ?_
     refine L_ld (c:=.int .i64 (o3)) rfl rfl .plain (fun _ _ h=>h.ch) v7 rfl ?_
     refine L_p (.bool ((j3 != o3))) rfl rfl (P_int rfl rfl rfl) ?_
     refine L_nl fun m8 k9 hs=>?_
     have hfr:=hfr.ext hs
     have u0:=u0.ext hs
     have j1:=j1.ext hs
     clear hs
     refine Zb (Zd ?_)
     rcases Zt h with ⟨d3,h⟩ | ⟨d3,h⟩
     ·refine E_ct d3 rfl ?_
      refine Zf (Za (Zg (.bool false) rfl rfl ?_))
      refine Zb (Zd (E_ret (blk_r ?_)))
      refine thn_r ?_
      refine thn_r ?_
      refine blk_r ?_
      refine thn_r ?_
      obtain rfl:=sinj h
      exact end1 rfl rfl (show _=.bool false from rfl) ⟨_,hfr,rfl⟩
     ·refine E_cf d3 rfl ?_
      exact Zu (blk_n (Zd (o7 () _ _ ⟨m8,hfr,i5,u0,l5,j1,z2⟩ h)))
    ·rintro _ n8 t8 ⟨c8, hfr, x5, i6, j6, v6, x6⟩ h
     refine Za (Zo x6 rfl ?_)
     refine EL_in (.int .i64 ((w64 (o0 + (1:Int))))) rfl rfl rfl rfl ?_
     refine Zg (.int .i64 ((w64 (o0 + (1:Int))))) rfl rfl ?_
     exact Zb (Zd (m7 ((w64 (o0 + (1:Int)))) _ _ ⟨c8,hfr,x5,i6,j6,v6,rfl⟩ h))
  ·rintro _ o8 v8 ⟨x8, hfr⟩ h
   refine Zf (Za (Zg (.bool true) rfl rfl ?_))
   refine Zb (Zd (E_ret ?_))
   obtain rfl:=sinj h
   exact end1 rfl rfl (show _=.bool true from rfl) ⟨_,hfr,rfl⟩
def f42 (x0:LoomLoomMill) (x1:LoomRun):Option (Int):=
 (idx ((x0).orders) (x1).Order).bind fun y9=>
 some ((w64 ((x1).From + (y9).Woven)))
theorem en42:Enters Tryz.prog 42:=enters_of Tryz.func42 (by kernel_rfl) rfl
theorem wk42 {gI:Gh} {wI:World} {x0:LoomLoomMill} {x1:LoomRun} {up0:Value} (rp0:RV gI.m wI x0 up0) {up1:Value} (rp1:RV gI.m wI x1 up1) {r:Int} (h:f42 x0 x1=some r):Fn Tryz.prog 42 #[up0,up1] gI wI (fun _ _ v=>v=.int .i64 (r)):=by
 unfold f42 at h
 refine fn_of_E Tryz.func42 rfl (Nat.le_of_ble_eq_true rfl) fun g0 hm hfr=>?_
 have rp0:RV g0.m wI x0 up0:=hm ▸ rp0
 have rp1:RV g0.m wI x1 up1:=hm ▸ rp1
 show E _ 15 none _ _ _ _ _
 refine Zf (Za (Ze .plain rfl (D_box (g:=g0) rfl rp0 fun g1 w1 p1 hs q1=>?_)))
 have hfr:=hfr.ext hs
 have rp1:=rp1.ext hs
 refine Ze .plain rfl (D_box (g:=g1) rfl rp1 fun g2 w2 p2 hs q2=>?_)
 have hfr:=hfr.ext hs
 have q1:=q1.ext hs
 refine Zg (.int .i64 (0)) rfl rfl ?_
 refine Zb (Zd (Zf ?_))
 have q3:=Zm (part_LoomRun_2).1 q2
 refine Zs (x:=.tmp 5) Tryz.isAgg3 Tryz.sizeOf3 q3 fun v4 r4 j1=>?_
 obtain rfl:=Zj.1 r4
 have q5:=Zm (part_LoomLoomMill_1).1 q1
 refine Zs (x:=.tmp 7) Tryz.isAgg29 Tryz.sizeOf29 q5 fun v6 r6 z2=>?_
 have q7:=Zm (part_LoomRun_0).1 q2
 refine Zs (x:=.tmp 9) Tryz.isAgg3 Tryz.sizeOf3 q7 fun v8 r8 d3=>?_
 obtain rfl:=Zj.1 r8
 obtain ⟨y9,o0,h⟩:=bsome h
 have u0:=PT_idx r6 o0
 have i3:=Zm (part_LoomOrder_2).1 u0
 refine Zs (x:=.tmp 12) Tryz.isAgg3 Tryz.sizeOf3 i3 fun o3 j3 hl12=>?_
 obtain rfl:=Zj.1 j3
 refine E_drawL (g:=g2) (n:=11) [] [0,1,2,3,4,5,6,7,8,9,10] rfl mixed (by kernel_rfl) trivial ?_
 refine L_p (fPtr p2 2) rfl rfl (Zc at_65_2 rfl (PT.ptr q2)) ?_
 refine L_ld (c:=.int .i64 ((x1).From)) rfl rfl .plain (fun _ _ h=>h.ch) j1 rfl ?_
 refine L_p (fPtr p1 2) rfl rfl (Zc at_81_1 rfl (PT.ptr q1)) ?_
 refine L_ld (c:=v6) rfl rfl .plain (fun _ _ h=>h.ch) z2 rfl ?_
 refine L_p (fPtr p2 0) rfl rfl (Zc at_65_0 rfl (PT.ptr q2)) ?_
 refine L_ld (c:=.int .i64 ((x1).Order)) rfl rfl .plain (fun _ _ h=>h.ch) d3 rfl ?_
 refine L_p (ePtr v6 (x1).Order 5) rfl rfl (Zh (α:=LoomOrder) Tryz.underlying29 Tryz.sizeOf67 rfl r6 rfl o0) ?_
 refine L_p (fPtr (ePtr v6 (x1).Order 5) 2) rfl rfl (Zc at_67_2 rfl (PT.ptr u0)) ?_
 refine L_ld (c:=.int .i64 ((y9).Woven)) rfl rfl .plain (fun _ _ h=>h.ch) hl12 rfl ?_
 refine L_p (.int .i64 ((w64 ((x1).From + (y9).Woven)))) rfl rfl (P_int rfl rfl rfl) ?_
 refine L_p (.int .i64 ((w64 ((x1).From + (y9).Woven)))) rfl rfl (P_assign rfl) ?_
 refine L_nl fun u3 z3 hs=>?_
 have hfr:=hfr.ext hs
 clear hs
 refine Zb (Zd (E_ret ?_))
 obtain rfl:=sinj h
 exact end1 rfl rfl (show _=.int .i64 ((w64 ((x1).From + (y9).Woven))) from rfl) ⟨_,hfr,rfl⟩
theorem v69_0 {iO:Nat} {gI:Gh} {wI:World} {x0:List Int} {up0:Value} (rp0:RV gI.m wI x0 up0) {r:List Int} (h:f69 x0=some r):FnG Tryz.prog 69 #[up0] gI wI (fun g w v=>OM iO g w 3 r v):=by
 unfold f69 at h
 refine fnG_of_E Tryz.func69 rfl (Nat.le_of_ble_eq_true rfl) fun g0 hm hfr=>?_
 have rp0:RV g0.m wI x0 up0:=hm ▸ rp0
 show E _ 8 none _ _ _ _ _
 refine Zf (Za (Zg (.slice none 0 0) rfl rfl (Zb (Zd ?_))))
 refine Zf (Zf (Za (Zn up0 rfl rfl ?_)))
 obtain ⟨a,c,hv,hc,hrow⟩:=RV_list rp0
 refine EL_p (.bool a.isNone) (P_slnil Tryz.underlying26 (show ev _ _=_ from hv)) rfl (Zb (Zd ?_))
 cases a with
 | none=>
  have hx:x0=[]:=by
   cases x0 with
   | nil=>rfl
   | cons y ys=>obtain ⟨b,off,hb,_⟩:=hrow (by simp); cases hb
  subst hx
  have hr:r=[]:=by unfold apnd at h; split at h <;> simp at h; exact h
  subst hr
  refine E_cond_true rfl (Zf (Za ?_))
  refine Zg (.slice none 0 0) rfl rfl (Zb (Zd ?_))
  obtain ⟨gh,hxh,homh⟩:=OM.handn (i:=iO) (t:=3) (α:=Int) hfr; exact E_ret (thn_r (end1 rfl rfl (show _=.slice none 0 0 from rfl) ⟨gh,hxh,homh⟩))
 | some a=>
  refine E_cond_false rfl (Zu (Zd ?_))
  refine Zf (Za (Ze .plain rfl (D_buildSlice (g:=g0) 1 (xs:=([]:List Int)) (vs:=[]) Tryz.underlying26 Tryz.sizeOf3 Tryz.zeroValue3 rfl rfl .nil RVs.nil rfl rfl fun g1 w1 v1 hs o1 r1 hxt hfl=>?_)))
  have hfr:=hfr.stp hs
  have rp0:=rp0.stp hs
  refine Zn up0 rfl rfl ?_
  refine Ze .plain rfl (D_append (g:=g1) (i:=1) Tryz.underlying26 info_3 rfl rfl o1 r1 rfl rp0 h fun g2 w2 v2 hs o2 r2 _=>?_)
  have hfr:=hfr.stp hs
  refine Zg v2 rfl rfl (Zb (Zd ?_))
  obtain ⟨gh,hxh,homh⟩:=OM.hand (i:=iO) plain_int hfr o2 r2; exact E_ret (end1 rfl rfl (show _=v2 from rfl) ⟨gh,hxh,homh⟩)
def f48 (z0:List Str) (z1:List Str) (σ:Type) (cons:Cons σ (Int × Int)) (s0:σ):Option σ:=
 lp (σ:=σ × Int) (fun k2 (o7,u0)=>
  bif (decide (u0 < ((z0).length : Int))) then
   jn (σ:=σ) (fun j6=>
    k2 (j6,(w64 (u0 + (1:Int))))
    ) fun q8=>
   (idx z0 u0).bind fun d3=>
   lp (σ:=σ × Nat) (fun r8 (z3,o0)=>
    bif (decide (o0 < (d3).b.length)) then
     Option.bind (α:=σ × Bool) (
      (idx (d3).b ((o0:Nat):Int)).bind fun j3=>
      (idx z1 u0).bind fun d7=>
      (idx (d7).b ((o0:Nat):Int)).bind fun o3=>
      bif (j3 != o3) then
       (cons z3 (u0,((o0:Nat):Int))).bind fun (i6,e8)=>
       some (e8,(!i6))
      else
       some (z3,false)
      ) fun (z4,u3)=>
     bif u3 then
      some z4
     else
      r8 (z4,(o0 + (dec d3 o0).2))
    else
     q8 (z3)
    ) big (o7,0)
  else
   some o7
  ) big (s0,(0:Int))
theorem en48:Enters Tryz.prog 48:=enters_of Tryz.func48 (by kernel_rfl) rfl
theorem wk48 {σ:Type} {cons:Cons σ (Int × Int)} {s0 r:σ} {gI:Gh} {wI:World} {z0:List Str} {z1:List Str} {pf0:Value} (qf0:PT gI.m wI z0 pf0) {pf1:Value} (qf1:PT gI.m wI z1 pf1) (h:f48 z0 z1 σ cons s0=some r):IterC Tryz.prog (RA2 (α:=Int) (β:=Int)) 48 #[] #[pf0,pf1] gI wI cons s0 r:=by
 unfold f48 at h
 refine iter_of_E Tryz.func48 rfl (Nat.le_of_ble_eq_true rfl) fun l B J g0 hm hAb hRo hfr=>?_
 have qf0:PT g0.m wI z0 pf0:=hm ▸ qf0
 have qf1:PT g0.m wI z1 pf1:=hm ▸ qf1
 show E _ 37 none _ _ (envAt #[.func (.yield l) #[] #[],pf0,pf1]) _ _
 refine Zf (Za (Ze .plain rfl (D_load (g:=g0) Tryz.isAgg75 Tryz.sizeOf75 rfl qf0 fun v1 r1=>?_)))
 refine EL_p (.int .i64 ((z0).length:Int)) (P_len Tryz.underlying75 rfl r1) rfl ?_
 refine Zn (.int .i64 (0)) rfl rfl ?_
 refine Zb (Zd (Zr ?_))
 refine E_lp h (fun (s:σ × Int) e w=>∃ (g:Gh) ,FrY gI wI B J (s.1) g w∧e 0=(.func (.yield l) #[] #[])∧e 2=pf1∧PT g.m w (z1:List Str) pf1∧e 7=v1∧RV g.m w (z0:List Str) v1∧e 8=.int .i64 (((z0).length:Int))∧e 9=.int .i64 (s.2)) ⟨g0,hfr,rfl,rfl,qf1,rfl,r1,rfl,rfl⟩ (fun X2 k2 hk2=>?_)
 rintro ⟨o7,u0⟩ zB w3 ⟨g3,hfr,nA,oA,u7,t8,v6,v8,e7⟩ h
 refine Zf (Za (EL_in (.bool ((decide (u0 < ((z0).length:Int))))) e7 v8 rfl rfl ?_))
 refine Zb (Zd (Zf ?_))
 rcases Zt h with ⟨x8,h⟩ | ⟨x8,h⟩
 ·refine E_ct x8 rfl ?_
  refine Zu (Zd (Zq h (fun (s:σ) e w=>∃ (g:Gh) ,FrY gI wI B J (s) g w∧e 0=(.func (.yield l) #[] #[])∧e 2=pf1∧PT g.m w (z1:List Str) pf1∧e 7=v1∧RV g.m w (z0:List Str) v1∧e 8=.int .i64 (((z0).length:Int))∧e 9=.int .i64 (u0)) (fun X145 q8 kA h=>?_) ?_))
  ·refine Zr ?_
   refine Zf (Za (Zo e7 rfl ?_))
   obtain ⟨d3,g8,h⟩:=bsome h
   refine EL_p (ePtr v1 u0 1) (Zh (α:=Str) Tryz.underlying75 Tryz.sizeOf9 t8 v6 e7 g8) rfl ?_
   have pA:=PT_idx v6 g8
   refine Ze .plain rfl (D_load (g:=g3) Tryz.isAgg9 Tryz.sizeOf9 rfl pA fun jB qA=>?_)
   obtain rfl:=RV_str.1 qA
   refine Zg (.int .i64 (u0)) rfl rfl ?_
   refine Zg (Str.v (d3)) rfl rfl ?_
   refine Zb (Zd (Zf (Za (Zn (Str.v (d3)) rfl rfl ?_))))
   refine Ze .plain rfl (D_rangeS (g:=g3) (s:=d3) 7015 Tryz.underlying9 rfl fun rA kB g7 hs b149=>?_)
   have hfr:=hfr.stp_ hAb hs rfl
   have u7:=u7.stp hs
   have v6:=v6.stp hs
   refine Zb (Zd (Zr ?_))
   refine E_lp h (fun (s:σ × Nat) e w=>∃ (g:Gh) ,FrY gI wI B J (s.1) g w∧e 0=(.func (.yield l) #[] #[])∧e 2=pf1∧PT g.m w (z1:List Str) pf1∧e 4=.int .i64 (u0)∧e 5=Str.v (d3)∧e 7=v1∧RV g.m w (z0:List Str) v1∧e 8=.int .i64 (((z0).length:Int))∧e 9=.int .i64 (u0)∧e 15=g7∧SI 7015 g w (d3) (s.2) g7) ⟨rA,hfr,nA,oA,u7,rfl,rfl,t8,v6,v8,e7,rfl,b149⟩ (fun X150 r8 lA=>?_)
   rintro ⟨z3,o0⟩ dB lB ⟨v7,hfr,t5,i5,j1,l5,x5,x6,z2,y6,a7,q5,b7⟩ h
   refine Zf (Za ?_)
   rcases Zt h with ⟨i7,h⟩ | ⟨i7,h⟩
   ·refine Ze .plain rfl (D_nextS_t (g := v7) q5 b7 i7 fun y8 mB hs b152 => ?_)
    have hfr:=hfr.stp_ hAb hs rfl
    have j1:=j1.stp hs
    have z2:=z2.stp hs
    refine EL_p (.bool true) (Zi rfl rfl) rfl ?_
    refine Zb (Zd (Zf (E_cond_true (by rw [show ev _ _=_ from rfl]; exact congrArg Value.bool rfl) ?_)))
    refine Zu (Zd (Zr ?_))
    refine Zf (Za (EL_p (.int .i64 ((o0:Nat):Int)) (Zi rfl rfl) rfl ?_))
    refine Zg (.int .i64 ((o0:Nat):Int)) rfl rfl ?_
    refine Zb (Zd ?_)
    obtain ⟨⟨z4,u3⟩,hx,h⟩:=bsome h
    refine E_join (fun e w=>∃ (g:Gh) ,FrY gI wI B J (z4) g w∧e 0=(.func (.yield l) #[] #[])∧e 2=pf1∧PT g.m w (z1:List Str) pf1∧e 4=.int .i64 (u0)∧e 5=Str.v (d3)∧e 7=v1∧RV g.m w (z0:List Str) v1∧e 8=.int .i64 (((z0).length:Int))∧e 9=.int .i64 (u0)∧e 15=g7∧SI 7015 g w (d3) ((o0 + (dec d3 o0).2)) g7∧e 35=.bool (u3)) (fun Q' hQ=>?_) (fun eB nB hR=>?_)
    ·replace h := hx
     clear hx
     obtain ⟨j3,i8,h⟩:=bsome h
     refine Zs (x:=.tmp 2) Tryz.isAgg75 Tryz.sizeOf75 j1 fun j7 c8 k8=>?_
     obtain ⟨d7,m7,h⟩:=bsome h
     have sA:=PT_idx c8 m7
     refine Zs (x:=.tmp 24) Tryz.isAgg9 Tryz.sizeOf9 sA fun oB uA l8=>?_
     obtain rfl:=RV_str.1 uA
     obtain ⟨o3,m8,h⟩:=bsome h
     rcases Zt h with ⟨i3,h⟩ | ⟨i3,h⟩
     ·refine E_drawL (g := y8) (n := 14) [] [0, 1, 2, 3, 4, 5, 6, 7, 8, 9, 10, 11, 12, 13] rfl mixed (by kernel_rfl) trivial ?_
      refine L_p (Str.v (d3)) rfl rfl (Zk x5) ?_
      refine L_p (.int .i64 ((o0:Nat):Int)) rfl rfl (Zk rfl) ?_
      refine L_p (.int .u8 (UInt8.toNat (j3))) rfl rfl (P_indexS Tryz.underlying9 rfl rfl i8) ?_
      refine L_ld (c:=j7) rfl rfl .plain (fun _ _ h=>h.ch) k8 i5 ?_
      refine L_p (.int .i64 (u0)) rfl rfl (Zk l5) ?_
      refine L_p (ePtr j7 u0 1) rfl rfl (Zh (α:=Str) Tryz.underlying75 Tryz.sizeOf9 rfl c8 rfl m7) ?_
      refine L_ld (c:=Str.v (d7)) rfl rfl .plain (fun _ _ h=>h.ch) l8 rfl ?_
      refine L_p (.int .i64 ((o0:Nat):Int)) rfl rfl (Zk rfl) ?_
      refine L_p (.int .u8 (UInt8.toNat (o3))) rfl rfl (P_indexS Tryz.underlying9 rfl rfl m8) ?_
      refine L_p (.bool ((j3 != o3))) rfl rfl (P_u8 rfl rfl rfl) ?_
      refine L_p (.bool ((j3 != o3))) rfl rfl (Zk rfl) ?_
      refine L_y ((.func (.yield l) #[] #[])) rfl rfl rfl rfl i3 (Zk t5) ?_
      refine L_y (.int .i64 (u0)) rfl rfl rfl rfl i3 (Zk l5) ?_
      refine L_y (.int .i64 ((o0:Nat):Int)) rfl rfl rfl rfl i3 (Zk rfl) ?_
      refine L_nl fun xA tB hs=>?_
      have hfr:=hfr.ext_ hAb hs
      have j1:=j1.ext hs
      have z2:=z2.ext hs
      have b152:=b152.ext hs
      clear hs
      obtain ⟨yA,mA,h⟩:=bsome h
      obtain ⟨i6,e8⟩:=yA
      refine Ze (.yes2 rfl rfl i3) rfl (D_yield (g:=xA) (x:=(u0,((o0:Nat):Int))) rfl (.cons rfl (.cons rfl .nil)) hRo hfr mA ⟨_,_,rfl,(Zj.2 rfl),(Zj.2 rfl)⟩ fun zA vB hs hfrY=>?_)
      have j1:=j1.stp hs
      have z2:=z2.stp hs
      have b152:=b152.stp hs rfl
      have hfr:=hfrY
      clear hfrY
      refine EL_y (.bool (!i6)) (P_not rfl) rfl rfl i3 rfl ?_
      refine EL_p (.bool (!i6)) (Zl (b:=(j3 != o3)) rfl (pick_t i3 rfl)) rfl ?_
      refine Zb ?_
      obtain ⟨rfl,rfl⟩:=pairs2 h
      exact hQ _ _ ⟨zA,hfr,t5,i5,j1,l5,x5,x6,z2,y6,a7,q5,b152,rfl⟩
     ·refine E_drawL (g := y8) (n := 14) [] [0, 1, 2, 3, 4, 5, 6, 7, 8, 9, 10, 11, 12, 13] rfl mixed (by kernel_rfl) trivial ?_
      refine L_p (Str.v (d3)) rfl rfl (Zk x5) ?_
      refine L_p (.int .i64 ((o0:Nat):Int)) rfl rfl (Zk rfl) ?_
      refine L_p (.int .u8 (UInt8.toNat (j3))) rfl rfl (P_indexS Tryz.underlying9 rfl rfl i8) ?_
      refine L_ld (c:=j7) rfl rfl .plain (fun _ _ h=>h.ch) k8 i5 ?_
      refine L_p (.int .i64 (u0)) rfl rfl (Zk l5) ?_
      refine L_p (ePtr j7 u0 1) rfl rfl (Zh (α:=Str) Tryz.underlying75 Tryz.sizeOf9 rfl c8 rfl m7) ?_
      refine L_ld (c:=Str.v (d7)) rfl rfl .plain (fun _ _ h=>h.ch) l8 rfl ?_
      refine L_p (.int .i64 ((o0:Nat):Int)) rfl rfl (Zk rfl) ?_
      refine L_p (.int .u8 (UInt8.toNat (o3))) rfl rfl (P_indexS Tryz.underlying9 rfl rfl m8) ?_
      refine L_p (.bool ((j3 != o3))) rfl rfl (P_u8 rfl rfl rfl) ?_
      refine L_p (.bool ((j3 != o3))) rfl rfl (Zk rfl) ?_
      iterate 3 refine L_s rfl rfl rfl i3 rfl ?_
      refine L_nl fun aB xB hs=>?_
      have hfr:=hfr.ext_ hAb hs
      have j1:=j1.ext hs
      have z2:=z2.ext hs
      have b152:=b152.ext hs
      clear hs
      refine EL_s rfl rfl i3 rfl rfl ?_
      refine EL_s rfl rfl i3 rfl rfl ?_
      refine EL_p (.bool false) (Zl (b:=(j3 != o3)) rfl (pick_f i3 rfl)) rfl ?_
      refine Zb ?_
      obtain ⟨rfl,rfl⟩:=pairs2 h
      exact hQ _ _ ⟨aB,hfr,t5,i5,j1,l5,x5,x6,z2,y6,a7,q5,b152,rfl⟩
    ·clear hx
     obtain ⟨bB,hfr,a9,d9,e9,i9,k9,l9,n9,o9,t9,n8,o8,c7⟩:=hR
     rcases Zt h with ⟨n7,h⟩ | ⟨n7,h⟩
     ·refine E_cond_true (Eq.trans (show ev _ _ = .bool (u3) from c7) (congrArg Value.bool n7)) ?_
      refine E_ret (blk_r ?_)
      refine thn_r ?_
      refine blk_r ?_
      refine blk_r ?_
      refine thn_r ?_
      refine thn_r ?_
      refine blk_r ?_
      obtain rfl:=sinj h
      exact end0 rfl rfl (FrY.done hfr)
     ·refine E_cond_false (Eq.trans (show ev _ _ = .bool (u3) from c7) (congrArg Value.bool n7)) ?_
      exact Zu (blk_n (Zd (lA (z4,(o0 + (dec d3 o0).2)) _ _ ⟨bB,hfr,a9,d9,e9,i9,k9,l9,n9,o9,t9,n8,o8⟩ h)))
   ·refine Ze .plain rfl (D_nextS_f (g := v7) q5 b7 i7 ?_)
    refine EL_p (.bool false) (Zi rfl rfl) rfl ?_
    refine Zb (Zd (Zf (E_cond_false (by rw [show ev _ _=_ from rfl]; exact congrArg Value.bool rfl) ?_)))
    refine E_exit ?_
    refine thn_e ?_
    refine thn_e ?_
    refine blk_hit ?_
    exact blk_n (Zd (kA (z3) _ _ ⟨v7,hfr,t5,i5,j1,x6,z2,y6,a7⟩ h))
  ·rintro j6 iB yB ⟨cB, hfr, u9, y9, z9, bA, gA, iA, jA⟩ h
   refine Za (EL_in (.int .i64 ((w64 (u0 + (1:Int))))) jA rfl rfl rfl ?_)
   refine Zn (.int .i64 ((w64 (u0 + (1:Int))))) rfl rfl ?_
   exact Zb (Zd (hk2 (j6,(w64 (u0 + (1:Int)))) _ _ ⟨cB,hfr,u9,y9,z9,bA,gA,iA,rfl⟩ h))
 ·refine E_cf x8 rfl ?_
  refine E_exit ?_
  refine thn_e ?_
  refine thn_e ?_
  refine blk_hit ?_
  obtain rfl:=sinj h
  exact end0n rfl rfl (FrY.done hfr)
def f55 (x0:Int):Option ((List Int)):=
 Option.bind (α:=(List Int)) (
  lp (σ:=(List Int) × Int) (fun j7 (u0,o0)=>
   jn (σ:=Unit) (fun _=>
    Option.bind (α:=(List Int)) (
     (shr64 x0 o0).bind fun z3=>
     bif ((bit64 .and z3 (1 : Int)) == (1 : Int)) then
      (apnd 8 u0 (([o0]:List Int))).bind fun m7=>
      some (m7)
     else
      some (u0)
     ) fun j1=>
    j7 (j1,(w64 (o0 + (1:Int))))
    ) fun n7=>
   (shr64 x0 o0).bind fun l5=>
   bif (decide (l5 > (0 : Int))) then
    n7 ()
   else
    some (u0)
   ) big ([],(0:Int))
  ) fun d3=>
 some (d3)
theorem en55:Enters Tryz.prog 55:=enters_of Tryz.func55 (by kernel_rfl) rfl
theorem wk55 {gI:Gh} {wI:World} {x0:Int}  {r:(List Int)} (h:f55 x0=some r):Fn Tryz.prog 55 #[.int .i64 (x0)] gI wI (fun m w v=>RV m w (r) v):=by
 unfold f55 at h
 refine fn_of_E Tryz.func55 rfl (Nat.le_of_ble_eq_true rfl) fun g0 hm hfr=>?_
 show E _ 20 none _ _ _ _ _
 refine Zf (Za (Zg (.slice none 0 0) rfl rfl ?_))
 refine Zb (Zd ?_)
 obtain ⟨d3,hx,h⟩:=bsome h
 refine E_join (fun e w=>∃ (g:Gh) (v2:Value),Fr gI wI g w∧e 2=v2∧RV g.m w (d3:List Int) v2∧OS 1002 g w 3 (d3:List Int) v2) (fun Q' hQ=>?_) (fun t8 a9 hR=>?_)
 ·replace h := hx
  clear hx
  refine Zf (Za (Zg (.int .i64 (0)) rfl rfl ?_))
  refine Zb (Zd (Zr ?_))
  refine E_lp h (fun (s:(List Int) × Int) e w=>∃ (g:Gh) (v2:Value),Fr gI wI g w∧e 0=.int .i64 (x0)∧e 2=v2∧RV g.m w (s.1:List Int) v2∧OS 1002 g w 3 (s.1:List Int) v2∧e 3=.int .i64 (s.2)) ⟨g0,(.slice none 0 0),hfr,rfl,rfl,RV_nil,OS.nil,rfl⟩ (fun X20 j7 c8=>?_)
  rintro ⟨u0,o0⟩ v8 d9 ⟨o7,z2,hfr,q5,t5,x5,i6,j6⟩ h
  refine Zq h (fun (s:Unit) e w=>∃ (g:Gh) ,Fr gI wI g w∧e 0=.int .i64 (x0)∧e 2=z2∧RV g.m w (u0:List Int) z2∧OS 1002 g w 3 (u0:List Int) z2∧e 3=.int .i64 (o0)) (fun X24 n7 e8 h=>?_) ?_
  ·refine Zf (Za (Zo q5 rfl ?_))
   refine Zo j6 rfl ?_
   obtain ⟨l5,g8,h⟩:=bsome h
   refine EL_p (.int .i64 (l5)) (P_int rfl rfl (congrArg (Option.map (Value.int .i64)) g8)) rfl ?_
   refine EL_in (.bool ((decide (l5 > (0:Int))))) rfl rfl rfl rfl ?_
   refine Zb (Zd ?_)
   rcases Zt h with ⟨z4,h⟩ | ⟨z4,h⟩
   ·refine E_ct z4 rfl ?_
    exact Zu (Zd (e8 () _ _ ⟨o7,hfr,q5,t5,x5,i6,j6⟩ h))
   ·refine E_cf z4 rfl ?_
    refine E_exit ?_
    refine thn_e ?_
    refine thn_e ?_
    refine blk_hit ?_
    obtain rfl:=sinj h
    exact hQ _ _ ⟨o7,(z2),hfr,t5,x5,i6⟩
  ·rintro _ x8 e9 ⟨u7, hfr, u3, v6, i3, j3, o3⟩ h
   obtain ⟨j1,hx,h⟩:=bsome h
   refine E_join (fun e w=>∃ (g:Gh) (v2:Value),Fr gI wI g w∧e 0=.int .i64 (x0)∧e 2=v2∧RV g.m w (j1:List Int) v2∧OS 1002 g w 3 (j1:List Int) v2∧e 3=.int .i64 (o0)) (fun Q' hQ=>?_) (fun y8 i9 hR=>?_)
   ·replace h := hx
    clear hx
    refine Zr ?_
    refine Zf (Za (Zo u3 rfl ?_))
    refine Zo o3 rfl ?_
    obtain ⟨z3,i8,h⟩:=bsome h
    refine EL_p (.int .i64 (z3)) (P_int rfl rfl (congrArg (Option.map (Value.int .i64)) i8)) rfl ?_
    refine EL_in (.int .i64 ((bit64 .and z3 (1:Int)))) rfl rfl rfl rfl ?_
    refine EL_in (.bool (((bit64 .and z3 (1:Int)) == (1:Int)))) rfl rfl rfl rfl ?_
    refine Zb (Zd ?_)
    rcases Zt h with ⟨i5,h⟩ | ⟨i5,h⟩
    ·refine E_ct i5 rfl ?_
     refine Za (Zo v6 rfl ?_)
     refine Zo o3 rfl ?_
     refine Ze .plain rfl (D_buildSlice (g:=u7) 3017 (xs:=([o0]:List Int)) (vs:=[.int .i64 (o0)]) Tryz.underlying26 Tryz.sizeOf3 Tryz.zeroValue3 rfl rfl (.cons rfl .nil) (RVs.cons (Zj.2 rfl) RVs.nil) rfl rfl fun l8 k9 l9 hs o35 m8 hxt hfl=>?_)
     have hfr:=hfr.stp hs
     have i3:=i3.stp hs
     have j3:=j3.stp hs rfl
     obtain ⟨m7,k8,h⟩:=bsome h
     refine Ze .plain rfl (D_append (g:=l8) (i:=1002) Tryz.underlying26 info_3 rfl rfl j3 i3 rfl m8 k8 fun n8 n9 v7 hs o36 o8 _=>?_)
     have hfr:=hfr.stp hs
     refine Zg v7 rfl rfl ?_
     refine Zb (blk_n ?_)
     obtain rfl:=sinj h
     exact hQ _ _ ⟨n8,(v7),hfr,u3,rfl,o8,o36,o3⟩
    ·refine E_cf i5 rfl ?_
     refine Zu (blk_n ?_)
     obtain rfl:=sinj h
     exact hQ _ _ ⟨u7,(z2),hfr,u3,v6,i3,j3,o3⟩
   ·clear hx
    obtain ⟨q8,y6,hfr,a7,b7,c7,d7,e7⟩:=hR
    refine Za (Zo e7 rfl ?_)
    refine EL_in (.int .i64 ((w64 (o0 + (1:Int))))) rfl rfl rfl rfl ?_
    refine Zg (.int .i64 ((w64 (o0 + (1:Int))))) rfl rfl ?_
    exact Zb (Zd (c8 (j1,(w64 (o0 + (1:Int)))) _ _ ⟨q8,(y6),hfr,a7,b7,c7,d7,rfl⟩ h))
 ·clear hx
  obtain ⟨o9,x6,hfr,g7,i7,r8⟩:=hR
  refine Zf (Za (Zo g7 rfl ?_))
  refine Zg x6 rfl rfl ?_
  refine Zb (Zd (E_ret ?_))
  obtain rfl:=sinj h
  exact end1 rfl rfl (show _=x6 from rfl) ⟨_,hfr,i7⟩
def f58 (x0:Int) (z0:List Bool):Option (Bool):=
 (idx z0 x0).bind fun y2=>
 some ((!y2))
theorem en58:Enters Tryz.prog 58:=enters_of Tryz.func58 (by kernel_rfl) rfl
theorem wk58 {gI:Gh} {wI:World} {x0:Int} {z0:List Bool} {pf0:Value} (qf0:PT gI.m wI z0 pf0) {r:Bool} (h:f58 x0 z0=some r):Fn Tryz.prog 58 #[.int .i64 (x0),pf0] gI wI (fun _ _ v=>v=.bool (r)):=by
 unfold f58 at h
 refine fn_of_E Tryz.func58 rfl (Nat.le_of_ble_eq_true rfl) fun g0 hm hfr=>?_
 have qf0:PT g0.m wI z0 pf0:=hm ▸ qf0
 show E _ 9 none _ _ _ _ _
 refine Zf (Za (Zg (.bool false) rfl rfl ?_))
 refine Zb (Zd (Zf (Za (Ze .plain rfl (D_load (g:=g0) Tryz.isAgg86 Tryz.sizeOf86 rfl qf0 fun v1 r1=>?_)))))
 refine Zn (.int .i64 (x0)) rfl rfl ?_
 obtain ⟨y2,hy2,h⟩:=bsome h
 refine EL_p (ePtr v1 x0 1) (Zh (α:=Bool) Tryz.underlying86 Tryz.sizeOf4 rfl r1 rfl hy2) rfl ?_
 have q3:=PT_idx r1 hy2
 refine Ze .plain rfl (D_load (g:=g0) Tryz.isAgg4 Tryz.sizeOf4 rfl q3 fun v4 r4=>?_)
 obtain rfl:=RV_bool.1 r4
 refine EL_p (.bool (!y2)) (P_not rfl) rfl ?_
 refine Zg (.bool (!y2)) rfl rfl ?_
 refine Zb (Zd (E_ret ?_))
 obtain rfl:=sinj h
 exact end1 rfl rfl (show _=.bool (!y2) from rfl) ⟨_,hfr,rfl⟩
def f62 (x0:List Int):Option (Int):=
 jn (σ:=Unit) (fun _=>
  some ((0:Int))
  ) fun i6=>
 lp (σ:=Int) (fun j6 o0=>
  bif (decide (o0 < ((x0).length : Int))) then
   jn (σ:=Unit) (fun _=>
    j6 ((w64 (o0 + (1:Int))))
    ) fun v6=>
   (idx x0 o0).bind fun y23=>
   bif (y23 != (0 : Int)) then
    some (y23)
   else
    v6 ()
  else
   i6 ()
  ) big ((0:Int))
theorem en62:Enters Tryz.prog 62:=enters_of Tryz.func62 (by kernel_rfl) rfl
theorem wk62 {gI:Gh} {wI:World} {x0:List Int} {up0:Value} (rp0:RV gI.m wI x0 up0) {r:Int} (h:f62 x0=some r):Fn Tryz.prog 62 #[up0] gI wI (fun _ _ v=>v=.int .i64 (r)):=by
 unfold f62 at h
 refine fn_of_E Tryz.func62 rfl (Nat.le_of_ble_eq_true rfl) fun g0 hm hfr=>?_
 have rp0:RV g0.m wI x0 up0:=hm ▸ rp0
 show E _ 18 none _ _ _ _ _
 refine Zf (Za (Zg (.int .i64 (0)) rfl rfl ?_))
 refine Zb (Zd (Zf (Za (Zg (.int .i64 (0)) rfl rfl ?_))))
 refine Zb (Zd (Zq h (fun (s:Unit) e w=>∃ (g:Gh) ,Fr gI wI g w∧e 3=.int .i64 ((0:Int))) (fun X14 i6 x6 h=>?_) ?_))
 ·refine Zf (Za (Zn up0 rfl rfl ?_))
  refine EL_p (.int .i64 ((x0).length:Int)) (P_len Tryz.underlying26 rfl rp0) rfl ?_
  refine Zn (.int .i64 (0)) rfl rfl ?_
  refine Zb (Zd (Zr ?_))
  refine E_lp h (fun (s:Int) e w=>∃ (g:Gh) ,Fr gI wI g w∧e 3=.int .i64 ((0:Int))∧e 6=up0∧RV g.m w (x0:List Int) up0∧e 7=.int .i64 (((x0).length:Int))∧e 8=.int .i64 (s)) ⟨g0,hfr,rfl,rfl,rp0,rfl,rfl⟩ (fun X15 j6 y6=>?_)
  rintro o0 e7 j7 ⟨u3,hfr,u0,j3,j1,o3,z2⟩ h
  refine Zf (Za (EL_in (.bool ((decide (o0 < ((x0).length:Int))))) z2 o3 rfl rfl ?_))
  refine Zb (Zd (Zf ?_))
  rcases Zt h with ⟨d3,h⟩ | ⟨d3,h⟩
  ·refine E_ct d3 rfl ?_
   refine Zu (Zd (Zq h (fun (s:Unit) e w=>∃ (g:Gh) ,Fr gI wI g w∧e 3=.int .i64 ((0:Int))∧e 6=up0∧RV g.m w (x0:List Int) up0∧e 7=.int .i64 (((x0).length:Int))∧e 8=.int .i64 (o0)) (fun X22 v6 a7 h=>?_) ?_))
   ·refine Zr ?_
    refine Zf (Za ?_)
    obtain ⟨y23,z3,h⟩:=bsome h
    refine EL_p (ePtr up0 o0 1) (Zh (α:=Int) Tryz.underlying26 Tryz.sizeOf3 j3 j1 z2 z3) rfl ?_
    have b7:=PT_idx j1 z3
    refine Ze .plain rfl (D_load (g:=u3) Tryz.isAgg3 Tryz.sizeOf3 rfl b7 fun m7 c7=>?_)
    obtain rfl:=Zj.1 c7
    refine Zg (.int .i64 (y23)) rfl rfl ?_
    refine Zb (Zd (Zf (Za (Zn (.int .i64 (y23)) rfl rfl ?_))))
    refine Zo u0 rfl ?_
    refine EL_in (.bool ((y23 != (0:Int)))) rfl rfl rfl rfl ?_
    refine Zb (Zd ?_)
    rcases Zt h with ⟨i3,h⟩ | ⟨i3,h⟩
    ·refine E_ct i3 rfl ?_
     refine Zf (Za (Zn (.int .i64 (y23)) rfl rfl ?_))
     refine Zg (.int .i64 (y23)) rfl rfl ?_
     refine Zb (Zd (E_ret (blk_r ?_)))
     refine thn_r ?_
     refine thn_r ?_
     refine blk_r ?_
     refine thn_r ?_
     obtain rfl:=sinj h
     exact end1 rfl rfl (show _=.int .i64 (y23) from rfl) ⟨_,hfr,rfl⟩
    ·refine E_cf i3 rfl ?_
     exact Zu (blk_n (Zd (a7 () _ _ ⟨u3,hfr,u0,j3,j1,o3,z2⟩ h)))
   ·rintro _ g7 n7 ⟨d7, hfr, z4, i5, l5, q5, t5⟩ h
    refine Za (EL_in (.int .i64 ((w64 (o0 + (1:Int))))) t5 rfl rfl rfl ?_)
    refine Zn (.int .i64 ((w64 (o0 + (1:Int))))) rfl rfl ?_
    exact Zb (Zd (y6 ((w64 (o0 + (1:Int)))) _ _ ⟨d7,hfr,z4,i5,l5,q5,rfl⟩ h))
  ·refine E_cf d3 rfl ?_
   refine E_exit ?_
   refine thn_e ?_
   refine thn_e ?_
   refine blk_hit ?_
   exact Zd (x6 () _ _ ⟨u3,hfr,u0⟩ h)
 ·rintro _ i7 o7 ⟨u7, hfr, x5⟩ h
  refine Zf (Za (Zo x5 rfl ?_))
  refine Zg (.int .i64 ((0:Int))) rfl rfl ?_
  refine Zb (Zd (E_ret ?_))
  obtain rfl:=sinj h
  exact end1 rfl rfl (show _=.int .i64 ((0:Int)) from rfl) ⟨_,hfr,rfl⟩
def f64 (x0:List LoomRun) (x1:LoomRun→Option Bool):Option (Int):=
 jn (σ:=Unit) (fun _=>
  some ((-1:Int))
  ) fun k18=>
 lp (σ:=Int) (fun k19 o0=>
  bif (decide (o0 < ((x0).length : Int))) then
   jn (σ:=Unit) (fun _=>
    k19 ((w64 (o0 + (1:Int))))
    ) fun k28=>
   (idx x0 o0).bind fun x5=>
   (x1 x5).bind fun i6=>
   bif i6 then
    some (o0)
   else
    k28 ()
  else
   k18 ()
  ) big ((0:Int))
theorem en64:Enters Tryz.prog 64:=enters_of Tryz.func64 (by kernel_rfl) rfl
theorem wk64 {gI:Gh} {wI:World} {x0:List LoomRun} {x1:LoomRun→Option Bool} {up0:Value} (rp0:RV gI.m wI x0 up0) {up1:Value} (rp1:FnV1 Tryz.prog x1 up1 gI wI) {r:Int} (h:f64 x0 x1=some r):Fn Tryz.prog 64 #[up0,up1] gI wI (fun _ _ v=>v=.int .i64 (r)):=by
 unfold f64 at h
 refine fn_of_E Tryz.func64 rfl (Nat.le_of_ble_eq_true rfl) fun g0 hm hfr=>?_
 have rp0:RV g0.m wI x0 up0:=hm ▸ rp0
 obtain ⟨ff1,fa1,fc1,rfl,fen1,fcl1⟩:=rp1
 show E _ 19 none _ _ _ _ _
 refine Zf (Za (Zg (.int .i64 (0)) rfl rfl ?_))
 refine Zb (Zd (Zq h (fun (s:Unit) e w=>∃ (g:Gh) ,Fr gI wI g w) (fun X18 k18 j6 h=>?_) ?_))
 ·refine Zf (Za (Zn up0 rfl rfl ?_))
  refine EL_p (.int .i64 ((x0).length:Int)) (P_len Tryz.underlying48 rfl rp0) rfl ?_
  refine Zn (.int .i64 (0)) rfl rfl ?_
  refine Zb (Zd (Zr ?_))
  refine E_lp h (fun (s:Int) e w=>∃ (g:Gh) ,Fr gI wI g w∧e 0=up0∧RV g.m w (x0:List LoomRun) up0∧e 1=(.func (.func ff1) fa1 fc1)∧e 7=.int .i64 (((x0).length:Int))∧e 8=.int .i64 (s)) ⟨g0,hfr,rfl,rp0,rfl,rfl,rfl⟩ (fun X19 k19 v6=>?_)
  rintro o0 g7 m7 ⟨u3,hfr,i3,u0,j3,o3,j1⟩ h
  refine Zf (Za (EL_in (.bool ((decide (o0 < ((x0).length:Int))))) j1 o3 rfl rfl ?_))
  refine Zb (Zd (Zf ?_))
  rcases Zt h with ⟨z2,h⟩ | ⟨z2,h⟩
  ·refine E_ct z2 rfl ?_
   refine Zu (Zd (Zq h (fun (s:Unit) e w=>∃ (g:Gh) ,Fr gI wI g w∧e 0=up0∧RV g.m w (x0:List LoomRun) up0∧e 1=(.func (.func ff1) fa1 fc1)∧e 7=.int .i64 (((x0).length:Int))∧e 8=.int .i64 (o0)) (fun X28 k28 x6 h=>?_) ?_))
   ·refine Zr ?_
    refine Zf (Za (Zo j1 rfl ?_))
    refine Zg (.int .i64 (o0)) rfl rfl ?_
    refine Zb (Zd (Zf (Za (Zo j3 rfl ?_))))
    refine Zo i3 rfl ?_
    refine Zn (.int .i64 (o0)) rfl rfl ?_
    obtain ⟨x5,z3,h⟩:=bsome h
    refine EL_p (ePtr up0 o0 3) (Zh (α:=LoomRun) Tryz.underlying48 Tryz.sizeOf65 rfl u0 rfl z3) rfl ?_
    have a7:=PT_idx u0 z3
    refine Ze .plain rfl (D_load (g:=u3) Tryz.isAgg65 Tryz.sizeOf65 rfl a7 fun b7 c7=>?_)
    obtain ⟨i6,y6,h⟩:=bsome h
    refine Ze .plain rfl (D_callv (g:=u3) (vs:=[b7]) rfl fen1 (.cons rfl .nil) (fcl1 _ _ hfr.ch _ _ _  c7 y6) fun d7 n7 o7 hs hr=>?_)
    have hfr:=hfr.ext hs
    have u0:=u0.ext hs
    obtain rfl:=RV_bool.1 hr
    refine Zb (Zd ?_)
    rcases Zt h with ⟨d3,h⟩ | ⟨d3,h⟩
    ·refine E_ct d3 rfl ?_
     refine Zf (Za (Zn (.int .i64 (o0)) rfl rfl ?_))
     refine Zg (.int .i64 (o0)) rfl rfl ?_
     refine Zb (Zd (E_ret (blk_r ?_)))
     refine thn_r ?_
     refine thn_r ?_
     refine blk_r ?_
     refine thn_r ?_
     obtain rfl:=sinj h
     exact end1 rfl rfl (show _=.int .i64 (o0) from rfl) ⟨_,hfr,rfl⟩
    ·refine E_cf d3 rfl ?_
     exact Zu (blk_n (Zd (x6 () _ _ ⟨d7,hfr,i3,u0,j3,o3,j1⟩ h)))
   ·rintro _ i7 u7 ⟨e7, hfr, z4, i5, l5, q5, t5⟩ h
    refine Za (EL_in (.int .i64 ((w64 (o0 + (1:Int))))) t5 rfl rfl rfl ?_)
    refine Zn (.int .i64 ((w64 (o0 + (1:Int))))) rfl rfl ?_
    exact Zb (Zd (v6 ((w64 (o0 + (1:Int)))) _ _ ⟨e7,hfr,z4,i5,l5,q5,rfl⟩ h))
  ·refine E_cf z2 rfl ?_
   refine E_exit ?_
   refine thn_e ?_
   refine thn_e ?_
   refine blk_hit ?_
   exact Zd (j6 () _ _ ⟨u3,hfr⟩ h)
 ·rintro _ j7 v7 ⟨c8, hfr⟩ h
  refine Zf (Za (Zg (.int .i64 (-1)) rfl rfl ?_))
  refine Zb (Zd (E_ret ?_))
  obtain rfl:=sinj h
  exact end1 rfl rfl (show _=.int .i64 (-1) from rfl) ⟨_,hfr,rfl⟩
def f68 (x0:List FaultDamage) (x1:FaultDamage→Option Bool):Option (Int):=
 jn (σ:=Unit) (fun _=>
  some ((-1:Int))
  ) fun k18=>
 lp (σ:=Int) (fun k19 o0=>
  bif (decide (o0 < ((x0).length : Int))) then
   jn (σ:=Unit) (fun _=>
    k19 ((w64 (o0 + (1:Int))))
    ) fun k28=>
   (idx x0 o0).bind fun x5=>
   (x1 x5).bind fun i6=>
   bif i6 then
    some (o0)
   else
    k28 ()
  else
   k18 ()
  ) big ((0:Int))
theorem en68:Enters Tryz.prog 68:=enters_of Tryz.func68 (by kernel_rfl) rfl
theorem wk68 {gI:Gh} {wI:World} {x0:List FaultDamage} {x1:FaultDamage→Option Bool} {up0:Value} (rp0:RV gI.m wI x0 up0) {up1:Value} (rp1:FnV1 Tryz.prog x1 up1 gI wI) {r:Int} (h:f68 x0 x1=some r):Fn Tryz.prog 68 #[up0,up1] gI wI (fun _ _ v=>v=.int .i64 (r)):=by
 unfold f68 at h
 refine fn_of_E Tryz.func68 rfl (Nat.le_of_ble_eq_true rfl) fun g0 hm hfr=>?_
 have rp0:RV g0.m wI x0 up0:=hm ▸ rp0
 obtain ⟨ff1,fa1,fc1,rfl,fen1,fcl1⟩:=rp1
 show E _ 19 none _ _ _ _ _
 refine Zf (Za (Zg (.int .i64 (0)) rfl rfl ?_))
 refine Zb (Zd (Zq h (fun (s:Unit) e w=>∃ (g:Gh) ,Fr gI wI g w) (fun X18 k18 j6 h=>?_) ?_))
 ·refine Zf (Za (Zn up0 rfl rfl ?_))
  refine EL_p (.int .i64 ((x0).length:Int)) (P_len Tryz.underlying47 rfl rp0) rfl ?_
  refine Zn (.int .i64 (0)) rfl rfl ?_
  refine Zb (Zd (Zr ?_))
  refine E_lp h (fun (s:Int) e w=>∃ (g:Gh) ,Fr gI wI g w∧e 0=up0∧RV g.m w (x0:List FaultDamage) up0∧e 1=(.func (.func ff1) fa1 fc1)∧e 7=.int .i64 (((x0).length:Int))∧e 8=.int .i64 (s)) ⟨g0,hfr,rfl,rp0,rfl,rfl,rfl⟩ (fun X19 k19 v6=>?_)
  rintro o0 g7 m7 ⟨u3,hfr,i3,u0,j3,o3,j1⟩ h
  refine Zf (Za (EL_in (.bool ((decide (o0 < ((x0).length:Int))))) j1 o3 rfl rfl ?_))
  refine Zb (Zd (Zf ?_))
  rcases Zt h with ⟨z2,h⟩ | ⟨z2,h⟩
  ·refine E_ct z2 rfl ?_
   refine Zu (Zd (Zq h (fun (s:Unit) e w=>∃ (g:Gh) ,Fr gI wI g w∧e 0=up0∧RV g.m w (x0:List FaultDamage) up0∧e 1=(.func (.func ff1) fa1 fc1)∧e 7=.int .i64 (((x0).length:Int))∧e 8=.int .i64 (o0)) (fun X28 k28 x6 h=>?_) ?_))
   ·refine Zr ?_
    refine Zf (Za (Zo j1 rfl ?_))
    refine Zg (.int .i64 (o0)) rfl rfl ?_
    refine Zb (Zd (Zf (Za (Zo j3 rfl ?_))))
    refine Zo i3 rfl ?_
    refine Zn (.int .i64 (o0)) rfl rfl ?_
    obtain ⟨x5,z3,h⟩:=bsome h
    refine EL_p (ePtr up0 o0 5) (Zh (α:=FaultDamage) Tryz.underlying47 Tryz.sizeOf45 rfl u0 rfl z3) rfl ?_
    have a7:=PT_idx u0 z3
    refine Ze .plain rfl (D_load (g:=u3) Tryz.isAgg45 Tryz.sizeOf45 rfl a7 fun b7 c7=>?_)
    obtain ⟨i6,y6,h⟩:=bsome h
    refine Ze .plain rfl (D_callv (g:=u3) (vs:=[b7]) rfl fen1 (.cons rfl .nil) (fcl1 _ _ hfr.ch _ _ _  c7 y6) fun d7 n7 o7 hs hr=>?_)
    have hfr:=hfr.ext hs
    have u0:=u0.ext hs
    obtain rfl:=RV_bool.1 hr
    refine Zb (Zd ?_)
    rcases Zt h with ⟨d3,h⟩ | ⟨d3,h⟩
    ·refine E_ct d3 rfl ?_
     refine Zf (Za (Zn (.int .i64 (o0)) rfl rfl ?_))
     refine Zg (.int .i64 (o0)) rfl rfl ?_
     refine Zb (Zd (E_ret (blk_r ?_)))
     refine thn_r ?_
     refine thn_r ?_
     refine blk_r ?_
     refine thn_r ?_
     obtain rfl:=sinj h
     exact end1 rfl rfl (show _=.int .i64 (o0) from rfl) ⟨_,hfr,rfl⟩
    ·refine E_cf d3 rfl ?_
     exact Zu (blk_n (Zd (x6 () _ _ ⟨d7,hfr,i3,u0,j3,o3,j1⟩ h)))
   ·rintro _ i7 u7 ⟨e7, hfr, z4, i5, l5, q5, t5⟩ h
    refine Za (EL_in (.int .i64 ((w64 (o0 + (1:Int))))) t5 rfl rfl rfl ?_)
    refine Zn (.int .i64 ((w64 (o0 + (1:Int))))) rfl rfl ?_
    exact Zb (Zd (v6 ((w64 (o0 + (1:Int)))) _ _ ⟨e7,hfr,z4,i5,l5,q5,rfl⟩ h))
  ·refine E_cf z2 rfl ?_
   refine E_exit ?_
   refine thn_e ?_
   refine thn_e ?_
   refine blk_hit ?_
   exact Zd (j6 () _ _ ⟨u3,hfr⟩ h)
 ·rintro _ j7 v7 ⟨c8, hfr⟩ h
  refine Zf (Za (Zg (.int .i64 (-1)) rfl rfl ?_))
  refine Zb (Zd (E_ret ?_))
  obtain rfl:=sinj h
  exact end1 rfl rfl (show _=.int .i64 (-1) from rfl) ⟨_,hfr,rfl⟩
def f73 (x0:Int):Option (Int):=
 jn (σ:=Unit) (fun _=>
  some ((0:Int))
  ) fun k3=>
 bif (x0 == (2 : Int)) then
  some ((1:Int))
 else
  bif (x0 == (5 : Int)) then
   some ((2:Int))
  else
   k3 ()
theorem en73:Enters Tryz.prog 73:=enters_of Tryz.func73 (by kernel_rfl) rfl
theorem wk73 {gI:Gh} {wI:World} {x0:Int}  {r:Int} (h:f73 x0=some r):Fn Tryz.prog 73 #[.int .i64 (x0)] gI wI (fun _ _ v=>v=.int .i64 (r)):=by
 unfold f73 at h
 refine fn_of_E Tryz.func73 rfl (Nat.le_of_ble_eq_true rfl) fun g0 hm hfr=>?_
 show E _ 8 none _ _ _ _ _
 refine Zf (Za (Zg (.int .i64 (0)) rfl rfl ?_))
 refine Zb (Zd (Zq h (fun (s:Unit) e w=>∃ (g:Gh) ,Fr gI wI g w) (fun X3 k3 hk3 h=>?_) ?_))
 ·refine Zf (Za (Zn (.int .i64 (x0)) rfl rfl ?_))
  refine Zb (Zd (Zr ?_))
  refine Zf (Za (EL_in (.bool ((x0 == (2:Int)))) rfl rfl rfl rfl ?_))
  refine Zg (.bool ((x0 == (2:Int)))) rfl rfl ?_
  refine Zb (Zd ?_)
  rcases Zt h with ⟨o0,h⟩ | ⟨o0,h⟩
  ·refine E_ct o0 rfl ?_
   refine Zf (Za (Zg (.int .i64 (1)) rfl rfl ?_))
   refine Zb (Zd (E_ret (blk_r ?_)))
   refine thn_r ?_
   obtain rfl:=sinj h
   exact end1 rfl rfl (show _=.int .i64 (1) from rfl) ⟨_,hfr,rfl⟩
  ·refine E_cf o0 rfl ?_
   refine Zf (Za (EL_in (.bool ((x0 == (5:Int)))) rfl rfl rfl rfl ?_))
   refine Zg (.bool ((x0 == (5:Int)))) rfl rfl ?_
   refine Zb (Zd ?_)
   rcases Zt h with ⟨hc5,h⟩ | ⟨hc5,h⟩
   ·refine E_ct hc5 rfl ?_
    refine Zf (Za (Zg (.int .i64 (2)) rfl rfl ?_))
    refine Zb (Zd (E_ret (blk_r ?_)))
    refine thn_r ?_
    obtain rfl:=sinj h
    exact end1 rfl rfl (show _=.int .i64 (2) from rfl) ⟨_,hfr,rfl⟩
   ·refine E_cf hc5 rfl ?_
    exact Zu (blk_n (Zd (hk3 () _ _ ⟨g0,hfr⟩ h)))
 ·rintro _ u0 w6 ⟨g6, hfr⟩ h
  refine Zf (Za (Zg (.int .i64 (0)) rfl rfl ?_))
  refine Zb (Zd (E_ret ?_))
  obtain rfl:=sinj h
  exact end1 rfl rfl (show _=.int .i64 (0) from rfl) ⟨_,hfr,rfl⟩
def f77 (x0:Int) (z0:Int) (z1:Int):Option (Bool):=
 Option.bind (α:=Bool) (
  bif (decide (x0 < z0)) then
   some (true)
  else
   some ((decide (x0 > z1)))
  ) fun o0=>
 some (o0)
theorem en77:Enters Tryz.prog 77:=enters_of Tryz.func77 (by kernel_rfl) rfl
theorem wk77 {gI:Gh} {wI:World} {x0:Int} {z0:Int} {z1:Int} {pf0:Value} (qf0:PT gI.m wI z0 pf0) {pf1:Value} (qf1:PT gI.m wI z1 pf1) {r:Bool} (h:f77 x0 z0 z1=some r):Fn Tryz.prog 77 #[.int .i64 (x0),pf0,pf1] gI wI (fun _ _ v=>v=.bool (r)):=by
 unfold f77 at h
 refine fn_of_E Tryz.func77 rfl (Nat.le_of_ble_eq_true rfl) fun g0 hm hfr=>?_
 have qf0:PT g0.m wI z0 pf0:=hm ▸ qf0
 have qf1:PT g0.m wI z1 pf1:=hm ▸ qf1
 show E _ 13 none _ _ _ _ _
 refine Zf (Za (Zg (.bool false) rfl rfl ?_))
 refine Zb (Zd ?_)
 obtain ⟨o0,hx,h⟩:=bsome h
 refine E_join (fun e w=>∃ (g:Gh) ,Fr gI wI g w∧e 4=.bool (o0)) (fun Q' hQ=>?_) (fun j1 w7 hR=>?_)
 ·replace h := hx
  clear hx
  refine Za (Zn (.int .i64 (x0)) rfl rfl ?_)
  refine Ze .plain rfl (D_load (g:=g0) Tryz.isAgg3 Tryz.sizeOf3 rfl qf0 fun v4 r4=>?_)
  obtain rfl:=Zj.1 r4
  refine EL_in (.bool ((decide (x0 < z0)))) rfl rfl rfl rfl ?_
  refine Zn (.bool ((decide (x0 < z0)))) rfl rfl ?_
  rcases Zt h with ⟨hc5,h⟩ | ⟨hc5,h⟩
  ·refine EL_s rfl rfl hc5 rfl rfl ?_
   refine EL_s rfl rfl hc5 rfl rfl ?_
   refine EL_s rfl rfl hc5 rfl rfl ?_
   refine EL_p (.bool true) (Zl (b:=(decide (x0 < z0))) rfl (pick_t hc5 rfl)) rfl ?_
   refine Zg (.bool true) rfl rfl ?_
   refine Zb ?_
   obtain rfl:=sinj h
   exact hQ _ _ ⟨g0,hfr,rfl⟩
  ·refine EL_y (.int .i64 (x0)) (Zk rfl) rfl rfl hc5 rfl ?_
   refine Ze (.yes2 rfl rfl hc5) rfl (D_load (g:=g0) Tryz.isAgg3 Tryz.sizeOf3 rfl qf1 fun v6 r6=>?_)
   obtain rfl:=Zj.1 r6
   refine EL_y (.bool ((decide (x0 > z1)))) (P_int rfl rfl rfl) rfl rfl hc5 rfl ?_
   refine EL_p (.bool ((decide (x0 > z1)))) (Zl (b:=(decide (x0 < z0))) rfl (pick_f hc5 rfl)) rfl ?_
   refine Zg (.bool ((decide (x0 > z1)))) rfl rfl ?_
   refine Zb ?_
   obtain rfl:=sinj h
   exact hQ _ _ ⟨g0,hfr,rfl⟩
 ·clear hx
  obtain ⟨g7,hfr,u0⟩:=hR
  refine E_ret ?_
  obtain rfl:=sinj h
  exact end1 rfl rfl (show _=.bool (o0) from u0) ⟨_,hfr,rfl⟩
def f78 (x0:List LoomOrder) (x1:LoomOrder→Option Bool):Option (Int):=
 jn (σ:=Unit) (fun _=>
  some ((-1:Int))
  ) fun k18=>
 lp (σ:=Int) (fun k19 o0=>
  bif (decide (o0 < ((x0).length : Int))) then
   jn (σ:=Unit) (fun _=>
    k19 ((w64 (o0 + (1:Int))))
    ) fun k28=>
   (idx x0 o0).bind fun x5=>
   (x1 x5).bind fun i6=>
   bif i6 then
    some (o0)
   else
    k28 ()
  else
   k18 ()
  ) big ((0:Int))
theorem en78:Enters Tryz.prog 78:=enters_of Tryz.func78 (by kernel_rfl) rfl
theorem wk78 {gI:Gh} {wI:World} {x0:List LoomOrder} {x1:LoomOrder→Option Bool} {up0:Value} (rp0:RV gI.m wI x0 up0) {up1:Value} (rp1:FnV1 Tryz.prog x1 up1 gI wI) {r:Int} (h:f78 x0 x1=some r):Fn Tryz.prog 78 #[up0,up1] gI wI (fun _ _ v=>v=.int .i64 (r)):=by
 unfold f78 at h
 refine fn_of_E Tryz.func78 rfl (Nat.le_of_ble_eq_true rfl) fun g0 hm hfr=>?_
 have rp0:RV g0.m wI x0 up0:=hm ▸ rp0
 obtain ⟨ff1,fa1,fc1,rfl,fen1,fcl1⟩:=rp1
 show E _ 19 none _ _ _ _ _
 refine Zf (Za (Zg (.int .i64 (0)) rfl rfl ?_))
 refine Zb (Zd (Zq h (fun (s:Unit) e w=>∃ (g:Gh) ,Fr gI wI g w) (fun X18 k18 j6 h=>?_) ?_))
 ·refine Zf (Za (Zn up0 rfl rfl ?_))
  refine EL_p (.int .i64 ((x0).length:Int)) (P_len Tryz.underlying29 rfl rp0) rfl ?_
  refine Zn (.int .i64 (0)) rfl rfl ?_
  refine Zb (Zd (Zr ?_))
  refine E_lp h (fun (s:Int) e w=>∃ (g:Gh) ,Fr gI wI g w∧e 0=up0∧RV g.m w (x0:List LoomOrder) up0∧e 1=(.func (.func ff1) fa1 fc1)∧e 7=.int .i64 (((x0).length:Int))∧e 8=.int .i64 (s)) ⟨g0,hfr,rfl,rp0,rfl,rfl,rfl⟩ (fun X19 k19 v6=>?_)
  rintro o0 g7 m7 ⟨u3,hfr,i3,u0,j3,o3,j1⟩ h
  refine Zf (Za (EL_in (.bool ((decide (o0 < ((x0).length:Int))))) j1 o3 rfl rfl ?_))
  refine Zb (Zd (Zf ?_))
  rcases Zt h with ⟨z2,h⟩ | ⟨z2,h⟩
  ·refine E_ct z2 rfl ?_
   refine Zu (Zd (Zq h (fun (s:Unit) e w=>∃ (g:Gh) ,Fr gI wI g w∧e 0=up0∧RV g.m w (x0:List LoomOrder) up0∧e 1=(.func (.func ff1) fa1 fc1)∧e 7=.int .i64 (((x0).length:Int))∧e 8=.int .i64 (o0)) (fun X28 k28 x6 h=>?_) ?_))
   ·refine Zr ?_
    refine Zf (Za (Zo j1 rfl ?_))
    refine Zg (.int .i64 (o0)) rfl rfl ?_
    refine Zb (Zd (Zf (Za (Zo j3 rfl ?_))))
    refine Zo i3 rfl ?_
    refine Zn (.int .i64 (o0)) rfl rfl ?_
    obtain ⟨x5,z3,h⟩:=bsome h
    refine EL_p (ePtr up0 o0 5) (Zh (α:=LoomOrder) Tryz.underlying29 Tryz.sizeOf67 rfl u0 rfl z3) rfl ?_
    have a7:=PT_idx u0 z3
    refine Ze .plain rfl (D_load (g:=u3) Tryz.isAgg67 Tryz.sizeOf67 rfl a7 fun b7 c7=>?_)
    obtain ⟨i6,y6,h⟩:=bsome h
    refine Ze .plain rfl (D_callv (g:=u3) (vs:=[b7]) rfl fen1 (.cons rfl .nil) (fcl1 _ _ hfr.ch _ _ _  c7 y6) fun d7 n7 o7 hs hr=>?_)
    have hfr:=hfr.ext hs
    have u0:=u0.ext hs
    obtain rfl:=RV_bool.1 hr
    refine Zb (Zd ?_)
    rcases Zt h with ⟨d3,h⟩ | ⟨d3,h⟩
    ·refine E_ct d3 rfl ?_
     refine Zf (Za (Zn (.int .i64 (o0)) rfl rfl ?_))
     refine Zg (.int .i64 (o0)) rfl rfl ?_
     refine Zb (Zd (E_ret (blk_r ?_)))
     refine thn_r ?_
     refine thn_r ?_
     refine blk_r ?_
     refine thn_r ?_
     obtain rfl:=sinj h
     exact end1 rfl rfl (show _=.int .i64 (o0) from rfl) ⟨_,hfr,rfl⟩
    ·refine E_cf d3 rfl ?_
     exact Zu (blk_n (Zd (x6 () _ _ ⟨d7,hfr,i3,u0,j3,o3,j1⟩ h)))
   ·rintro _ i7 u7 ⟨e7, hfr, z4, i5, l5, q5, t5⟩ h
    refine Za (EL_in (.int .i64 ((w64 (o0 + (1:Int))))) t5 rfl rfl rfl ?_)
    refine Zn (.int .i64 ((w64 (o0 + (1:Int))))) rfl rfl ?_
    exact Zb (Zd (v6 ((w64 (o0 + (1:Int)))) _ _ ⟨e7,hfr,z4,i5,l5,q5,rfl⟩ h))
  ·refine E_cf z2 rfl ?_
   refine E_exit ?_
   refine thn_e ?_
   refine thn_e ?_
   refine blk_hit ?_
   exact Zd (j6 () _ _ ⟨u3,hfr⟩ h)
 ·rintro _ j7 v7 ⟨c8, hfr⟩ h
  refine Zf (Za (Zg (.int .i64 (-1)) rfl rfl ?_))
  refine Zb (Zd (E_ret ?_))
  obtain rfl:=sinj h
  exact end1 rfl rfl (show _=.int .i64 (-1) from rfl) ⟨_,hfr,rfl⟩
def f80 (z0:Int) (σ:Type) (cons:Cons σ Int) (s0:σ):Option σ:=
 lp (σ:=σ × Int) (fun k2 (t5,o0)=>
  jn (σ:=σ) (fun i3=>
   k2 (i3,(bit64 .and (w64 (o0 - (1:Int))) z0))
   ) fun b7=>
  Option.bind (α:=σ × Bool) (
   (cons t5 o0).bind fun (d3,z3)=>
   bif (!d3) then
    some (z3,true)
   else
    some (z3,(o0 == (0:Int)))
   ) fun (z2,u0)=>
  bif u0 then
   some z2
  else
   b7 (z2)
  ) big (s0,z0)
theorem en80:Enters Tryz.prog 80:=enters_of Tryz.func80 (by kernel_rfl) rfl
theorem wk80 {σ:Type} {cons:Cons σ Int} {s0 r:σ} {gI:Gh} {wI:World} {z0:Int} {pf0:Value} (qf0:PT gI.m wI z0 pf0) (h:f80 z0 σ cons s0=some r):IterC Tryz.prog (RA1 (α:=Int)) 80 #[] #[pf0] gI wI cons s0 r:=by
 unfold f80 at h
 refine iter_of_E Tryz.func80 rfl (Nat.le_of_ble_eq_true rfl) fun l B J g0 hm hAb hRo hfr=>?_
 have qf0:PT g0.m wI z0 pf0:=hm ▸ qf0
 show E _ 17 none _ _ (envAt #[.func (.yield l) #[] #[],pf0]) _ _
 refine Zf (Za (Ze .plain rfl (D_load (g:=g0) Tryz.isAgg3 Tryz.sizeOf3 rfl qf0 fun v1 r1=>?_)))
 obtain rfl:=Zj.1 r1
 refine Zg (.int .i64 (z0)) rfl rfl ?_
 refine Zb (Zd (Zr ?_))
 refine E_lp h (fun (s:σ × Int) e w=>∃ (g:Gh) ,FrY gI wI B J (s.1) g w∧e 0=(.func (.yield l) #[] #[])∧e 1=pf0∧PT g.m w (z0:Int) pf0∧e 3=.int .i64 (s.2)) ⟨g0,hfr,rfl,rfl,qf0,rfl⟩ (fun X2 k2 hk2=>?_)
 rintro ⟨t5,o0⟩ u7 w3 ⟨g3,hfr,z4,x5,j3,o3⟩ h
 refine Zq h (fun (s:σ) e w=>∃ (g:Gh) ,FrY gI wI B J (s) g w∧e 0=(.func (.yield l) #[] #[])∧e 1=pf0∧PT g.m w (z0:Int) pf0∧e 3=.int .i64 (o0)) (fun X12 b7 e7 h=>?_) ?_
 ·refine Zr ?_
  obtain ⟨⟨z2,u0⟩,hx,h⟩:=bsome h
  refine E_join (fun e w=>∃ (g:Gh) ,FrY gI wI B J (z2) g w∧e 0=(.func (.yield l) #[] #[])∧e 1=pf0∧PT g.m w (z0:Int) pf0∧e 3=.int .i64 (o0)∧e 16=.bool (u0)) (fun Q' hQ=>?_) (fun n7 v7 hR=>?_)
  ·replace h := hx
   clear hx
   refine Za (Zo z4 rfl ?_)
   refine Zo o3 rfl ?_
   obtain ⟨i7,g7,h⟩:=bsome h
   obtain ⟨d3,z3⟩:=i7
   refine Ze .plain rfl (D_yield (g:=g3) (x:=o0) rfl (.cons rfl .nil) hRo hfr g7 ⟨_,rfl,(Zj.2 rfl)⟩ fun c7 c8 hs hfrY=>?_)
   have j3:=j3.stp hs
   have hfr:=hfrY
   clear hfrY
   refine EL_p (.bool (!d3)) (P_not rfl) rfl ?_
   refine Zn (.bool (!d3)) rfl rfl ?_
   rcases Zt h with ⟨j1,h⟩ | ⟨j1,h⟩
   ·refine EL_s rfl rfl j1 rfl rfl ?_
    refine EL_s rfl rfl j1 rfl rfl ?_
    refine EL_p (.bool true) (Zl (b:=(!d3)) rfl (pick_t j1 rfl)) rfl ?_
    refine Zb ?_
    obtain ⟨rfl,rfl⟩:=pairs2 h
    exact hQ _ _ ⟨c7,hfr,z4,x5,j3,o3,rfl⟩
   ·refine EL_y (.int .i64 (o0)) (Zk o3) rfl rfl j1 rfl ?_
    refine EL_y (.bool ((o0 == (0:Int)))) (P_int rfl rfl rfl) rfl rfl j1 rfl ?_
    refine EL_p (.bool ((o0 == (0:Int)))) (Zl (b:=(!d3)) rfl (pick_f j1 rfl)) rfl ?_
    refine Zb ?_
    obtain ⟨rfl,rfl⟩:=pairs2 h
    exact hQ _ _ ⟨c7,hfr,z4,x5,j3,o3,rfl⟩
  ·clear hx
   obtain ⟨j7,hfr,i6,j6,v6,x6,u3⟩:=hR
   rcases Zt h with ⟨i5,h⟩ | ⟨i5,h⟩
   ·refine E_cond_true (Eq.trans (show ev _ _ = .bool (u0) from u3) (congrArg Value.bool i5)) ?_
    refine E_ret (blk_r ?_)
    refine thn_r ?_
    refine thn_r ?_
    refine blk_r ?_
    obtain rfl:=sinj h
    exact end0 rfl rfl (FrY.done hfr)
   ·refine E_cond_false (Eq.trans (show ev _ _ = .bool (u0) from u3) (congrArg Value.bool i5)) ?_
    exact Zu (blk_n (Zd (e7 (z2) _ _ ⟨j7,hfr,i6,j6,v6,x6⟩ h)))
 ·rintro i3 o7 e8 ⟨d7, hfr, y6, l5, q5, a7⟩ h
  refine Za (Zo a7 rfl ?_)
  refine EL_in (.int .i64 ((w64 (o0 - (1:Int))))) rfl rfl rfl rfl ?_
  refine Ze .plain rfl (D_load (g:=d7) Tryz.isAgg3 Tryz.sizeOf3 l5 q5 fun g8 m7=>?_)
  obtain rfl:=Zj.1 m7
  refine EL_in (.int .i64 ((bit64 .and (w64 (o0 - (1:Int))) z0))) rfl rfl rfl rfl ?_
  refine Zg (.int .i64 ((bit64 .and (w64 (o0 - (1:Int))) z0))) rfl rfl ?_
  exact Zb (Zd (hk2 (i3,(bit64 .and (w64 (o0 - (1:Int))) z0)) _ _ ⟨d7,hfr,y6,l5,q5,rfl⟩ h))
def f86 (x0:Int):Option (Bool):=
 some ((x0 != x0))
theorem en86:Enters Tryz.prog 86:=enters_of Tryz.func86 (by kernel_rfl) rfl
theorem wk86 {gI:Gh} {wI:World} {x0:Int}  {r:Bool} (h:f86 x0=some r):Fn Tryz.prog 86 #[.int .i64 (x0)] gI wI (fun _ _ v=>v=.bool (r)):=by
 unfold f86 at h
 refine fn_of_E Tryz.func86 rfl (Nat.le_of_ble_eq_true rfl) fun g0 hm hfr=>?_
 show E _ 6 none _ _ _ _ _
 refine Zf (Za (Zg (.bool false) rfl rfl ?_))
 refine Zb (Zd (Zf (Za (Zn (.int .i64 (x0)) rfl rfl ?_))))
 refine Zn (.int .i64 (x0)) rfl rfl ?_
 refine EL_in (.bool ((x0 != x0))) rfl rfl rfl rfl ?_
 refine Zg (.bool ((x0 != x0))) rfl rfl ?_
 refine Zb (Zd (E_ret ?_))
 obtain rfl:=sinj h
 exact end1 rfl rfl (show _=.bool ((x0 != x0)) from rfl) ⟨_,hfr,rfl⟩
def f89 (x0:Int) (z0:Int) (z1:Int):Option (Bool):=
 Option.bind (α:=Bool) (
  bif (decide (x0 < z0)) then
   some (true)
  else
   some ((decide (x0 > z1)))
  ) fun o0=>
 some (o0)
theorem en89:Enters Tryz.prog 89:=enters_of Tryz.func89 (by kernel_rfl) rfl
theorem wk89 {gI:Gh} {wI:World} {x0:Int} {z0:Int} {z1:Int} {pf0:Value} (qf0:PT gI.m wI z0 pf0) {pf1:Value} (qf1:PT gI.m wI z1 pf1) {r:Bool} (h:f89 x0 z0 z1=some r):Fn Tryz.prog 89 #[.int .i64 (x0),pf0,pf1] gI wI (fun _ _ v=>v=.bool (r)):=by
 unfold f89 at h
 refine fn_of_E Tryz.func89 rfl (Nat.le_of_ble_eq_true rfl) fun g0 hm hfr=>?_
 have qf0:PT g0.m wI z0 pf0:=hm ▸ qf0
 have qf1:PT g0.m wI z1 pf1:=hm ▸ qf1
 show E _ 13 none _ _ _ _ _
 refine Zf (Za (Zg (.bool false) rfl rfl ?_))
 refine Zb (Zd ?_)
 obtain ⟨o0,hx,h⟩:=bsome h
 refine E_join (fun e w=>∃ (g:Gh) ,Fr gI wI g w∧e 4=.bool (o0)) (fun Q' hQ=>?_) (fun j1 w7 hR=>?_)
 ·replace h := hx
  clear hx
  refine Za (Zn (.int .i64 (x0)) rfl rfl ?_)
  refine Ze .plain rfl (D_load (g:=g0) Tryz.isAgg3 Tryz.sizeOf3 rfl qf0 fun v4 r4=>?_)
  obtain rfl:=Zj.1 r4
  refine EL_in (.bool ((decide (x0 < z0)))) rfl rfl rfl rfl ?_
  refine Zn (.bool ((decide (x0 < z0)))) rfl rfl ?_
  rcases Zt h with ⟨hc5,h⟩ | ⟨hc5,h⟩
  ·refine EL_s rfl rfl hc5 rfl rfl ?_
   refine EL_s rfl rfl hc5 rfl rfl ?_
   refine EL_s rfl rfl hc5 rfl rfl ?_
   refine EL_p (.bool true) (Zl (b:=(decide (x0 < z0))) rfl (pick_t hc5 rfl)) rfl ?_
   refine Zg (.bool true) rfl rfl ?_
   refine Zb ?_
   obtain rfl:=sinj h
   exact hQ _ _ ⟨g0,hfr,rfl⟩
  ·refine EL_y (.int .i64 (x0)) (Zk rfl) rfl rfl hc5 rfl ?_
   refine Ze (.yes2 rfl rfl hc5) rfl (D_load (g:=g0) Tryz.isAgg3 Tryz.sizeOf3 rfl qf1 fun v6 r6=>?_)
   obtain rfl:=Zj.1 r6
   refine EL_y (.bool ((decide (x0 > z1)))) (P_int rfl rfl rfl) rfl rfl hc5 rfl ?_
   refine EL_p (.bool ((decide (x0 > z1)))) (Zl (b:=(decide (x0 < z0))) rfl (pick_f hc5 rfl)) rfl ?_
   refine Zg (.bool ((decide (x0 > z1)))) rfl rfl ?_
   refine Zb ?_
   obtain rfl:=sinj h
   exact hQ _ _ ⟨g0,hfr,rfl⟩
 ·clear hx
  obtain ⟨g7,hfr,u0⟩:=hR
  refine E_ret ?_
  obtain rfl:=sinj h
  exact end1 rfl rfl (show _=.bool (o0) from u0) ⟨_,hfr,rfl⟩
def f91 (x0:FaultFaultLoom) (x1:FaultDamage) (x2:List Int):Option ((List Int)):=
 (idx x2 (x1).Pick).bind fun y5=>
 (shl64 (1:Int) (x1).Hook).bind fun y9=>
 (idx x2 (x1).Pick).bind fun j1=>
 some ((List.set x2 (Int.toNat (x1).Pick) ((bit64 .xor y5 y9))))
theorem en91:Enters Tryz.prog 91:=enters_of Tryz.func91 (by kernel_rfl) rfl
theorem wk91 {iI:Nat} {gI:Gh} {wI:World} {x0:FaultFaultLoom} {x1:FaultDamage} {x2:List Int} {up0:Value} (rp0:RV gI.m wI x0 up0) {up1:Value} (rp1:RV gI.m wI x1 up1) {up2:Value} (mp2:OM iI gI wI 3 x2 up2) {up3:Value} {r:(List Int)} (h:f91 x0 x1 x2=some r):FnM Tryz.prog 91 #[up0,up1,up2,up3] iI gI wI (fun g w v=>v=.tuple #[]∧OM iI g w 3 r up2):=by
 unfold f91 at h
 refine fnM_of_E Tryz.func91 rfl (Nat.le_of_ble_eq_true rfl) fun g0 hm hfr=>?_
 have u0:=mp2
 replace mp2:=mp2.enter
 rw [← hm] at mp2
 replace hm:g0.m=gI.m:=by rw [hm]
 have rp0:RV g0.m wI x0 up0:=hm ▸ rp0
 have rp1:RV g0.m wI x1 up1:=hm ▸ rp1
 show E _ 18 none _ _ _ _ _
 refine Zf (Za (Ze .plain rfl (D_box (g:=g0) rfl rp0 fun g1 w1 p1 hs q1=>?_)))
 have hfr:=hfr.ext hs
 have rp1:=rp1.ext hs
 have mp2:=mp2.ext hs
 refine Ze .plain rfl (D_box (g:=g1) rfl rp1 fun g2 w2 p2 hs q2=>?_)
 have hfr:=hfr.ext hs
 have mp2:=mp2.ext hs
 refine Zb (Zd ?_)
 have q3:=Zm (part_FaultDamage_1).1 q2
 refine Zs (x:=.tmp 9) Tryz.isAgg3 Tryz.sizeOf3 q3 fun v4 r4 z2=>?_
 obtain rfl:=Zj.1 r4
 obtain ⟨y5,hy5,h⟩:=bsome h
 refine L_loadM (x:=.tmp 11) Tryz.isAgg3 Tryz.sizeOf3 mp2 hy5 fun v6 r6 d3=>?_
 obtain rfl:=Zj.1 r6
 have q7:=Zm (part_FaultDamage_2).1 q2
 refine Zs (x:=.tmp 13) Tryz.isAgg3 Tryz.sizeOf3 q7 fun v8 r8 i3=>?_
 obtain rfl:=Zj.1 r8
 obtain ⟨y9,j3,h⟩:=bsome h
 obtain ⟨j1,o0,h⟩:=bsome h
 refine E_drawL (g:=g2) (n:=10) [] [0,1,2,3,4,5,6,7,8,9] rfl mixed (by kernel_rfl) trivial ?_
 refine L_p up2 rfl rfl (Zk rfl) ?_
 refine L_p (fPtr p2 1) rfl rfl (Zc at_45_1 rfl (PT.ptr q2)) ?_
 refine L_ld (c:=.int .i64 ((x1).Pick)) rfl rfl .plain (fun _ _ h=>h.ch) z2 rfl ?_
 refine L_p (ePtr up2 (x1).Pick 1) rfl rfl (P_indexAddrM (α:=Int) Tryz.underlying26 Tryz.sizeOf3 rfl mp2 rfl hy5) ?_
 refine L_ld (c:=.int .i64 (y5)) rfl rfl .plain (fun _ _ h=>⟨h.ch,fun b hb _=>h.below.block b hb⟩) d3 rfl ?_
 refine L_p (fPtr p2 2) rfl rfl (Zc at_45_2 rfl (PT.ptr q2)) ?_
 refine L_ld (c:=.int .i64 ((x1).Hook)) rfl rfl .plain (fun _ _ h=>h.ch) i3 rfl ?_
 refine L_p (.int .i64 (y9)) rfl rfl (P_int rfl rfl (congrArg (Option.map (Value.int .i64)) j3)) ?_
 refine L_p (.int .i64 ((bit64 .xor y5 y9))) rfl rfl (P_int rfl rfl rfl) ?_
 refine L_p (ePtr up2 (x1).Pick 1) rfl rfl (P_indexAddrM (α:=Int) Tryz.underlying26 Tryz.sizeOf3 rfl mp2 rfl o0) ?_
 refine L_nl fun o3 u3 hs=>?_
 have hfr:=hfr.ext hs
 have mp2:=mp2.ext hs
 clear hs
 refine Ze .plain rfl (D_storeM (g:=o3) (α:=Int) (a':=((bit64 .xor y5 y9))) Tryz.sizeOf3 rfl mp2 o0 rfl (Zj.2 rfl) fun z3 z4 hs b28=>?_)
 have hfr:=hfr.stp hs
 refine Zb ?_
 obtain rfl:=sinj h
 exact end0n rfl rfl ⟨_,hfr,rfl,u0.back b28⟩
def f92 (x0:FaultFaultLoom) (x1:FaultDamage) (x2:List Int):Option ((List Int)):=
 lp (σ:=(List Int) × Int) (fun k3 (j1,o0)=>
  bif (decide (o0 < ((x2).length : Int))) then
   Option.bind (α:=(List Int)) (
    (idx j1 o0).bind fun y70=>
    (shl64 (1:Int) (x1).Hook).bind fun y74=>
    (idx j1 o0).bind fun e8=>
    bif (!(x1).Up) then
     (idx ((List.set j1 (Int.toNat o0) ((bit64 .or y70 y74)))) o0).bind fun z4=>
     (shl64 (1:Int) (x1).Hook).bind fun j3=>
     (idx ((List.set j1 (Int.toNat o0) ((bit64 .or y70 y74)))) o0).bind fun g7=>
     some ((List.set ((List.set j1 (Int.toNat o0) ((bit64 .or y70 y74)))) (Int.toNat o0) ((bit64 .xor z4 j3))))
    else
     some ((List.set j1 (Int.toNat o0) ((bit64 .or y70 y74))))
    ) fun d3=>
   k3 (d3,(w64 (o0 + (1:Int))))
  else
   some (j1)
  ) big (x2,(0:Int))
theorem en92:Enters Tryz.prog 92:=enters_of Tryz.func92 (by kernel_rfl) rfl
theorem wk92 {iI:Nat} {gI:Gh} {wI:World} {x0:FaultFaultLoom} {x1:FaultDamage} {x2:List Int} {up0:Value} (rp0:RV gI.m wI x0 up0) {up1:Value} (rp1:RV gI.m wI x1 up1) {up2:Value} (mp2:OM iI gI wI 3 x2 up2) {up3:Value} {r:(List Int)} (h:f92 x0 x1 x2=some r):FnM Tryz.prog 92 #[up0,up1,up2,up3] iI gI wI (fun g w v=>v=.tuple #[]∧OM iI g w 3 r up2):=by
 unfold f92 at h
 refine fnM_of_E Tryz.func92 rfl (Nat.le_of_ble_eq_true rfl) fun g0 hm hfr=>?_
 have c7:=mp2
 replace mp2:=mp2.enter
 rw [← hm] at mp2
 replace hm:g0.m=gI.m:=by rw [hm]
 have rp0:RV g0.m wI x0 up0:=hm ▸ rp0
 have rp1:RV g0.m wI x1 up1:=hm ▸ rp1
 show E _ 36 none _ _ _ _ _
 refine Zf (Za (Ze .plain rfl (D_box (g:=g0) rfl rp0 fun g1 w1 p1 hs q1=>?_)))
 have hfr:=hfr.ext hs
 have rp1:=rp1.ext hs
 have mp2:=mp2.ext hs
 refine Ze .plain rfl (D_box (g:=g1) rfl rp1 fun g2 w2 p2 hs q2=>?_)
 have hfr:=hfr.ext hs
 have mp2:=mp2.ext hs
 refine Zb (Zd (Zf (Za (Zn up2 rfl rfl ?_))))
 refine EL_p (.int .i64 ((x2).length:Int)) (P_lenM Tryz.underlying26 rfl mp2) rfl ?_
 refine Zn (.int .i64 (0)) rfl rfl ?_
 refine Zb (Zd (Zr ?_))
 refine E_lp h (fun (s:(List Int) × Int) e w=>∃ (g:Gh) ,FrM iI gI wI g w∧e 2=up2∧OM 1 g w 3 (s.1:List Int) up2∧e 5=p2∧PT g.m w (x1:FaultDamage) p2∧e 10=.int .i64 (((x2).length:Int))∧e 11=.int .i64 (s.2)) ⟨g2,hfr,rfl,mp2,rfl,q2,rfl,rfl⟩ (fun X3 k3 hk3=>?_)
 rintro ⟨j1,o0⟩ a9 w4 ⟨g4,hfr,u3,z2,o3,u0,z3,i3⟩ h
 refine Zf (Za (EL_in (.bool ((decide (o0 < ((x2).length:Int))))) i3 z3 rfl rfl ?_))
 refine Zb (Zd (Zf ?_))
 rcases Zt h with ⟨hc5,h⟩ | ⟨hc5,h⟩
 ·refine E_ct hc5 rfl ?_
  refine Zu (Zd ?_)
  obtain ⟨d3,hx,h⟩:=bsome h
  refine E_join (fun e w=>∃ (g:Gh) ,FrM iI gI wI g w∧e 2=up2∧OM 1 g w 3 (d3:List Int) up2∧e 5=p2∧PT g.m w (x1:FaultDamage) p2∧e 10=.int .i64 (((x2).length:Int))∧e 11=.int .i64 (o0)) (fun Q' hQ=>?_) (fun r8 t8 hR=>?_)
  ·replace h := hx
   clear hx
   refine Zr ?_
   refine Zf (Za (Zo i3 rfl ?_))
   refine Zg (.int .i64 (o0)) rfl rfl ?_
   refine Zb (Zd (Zf ?_))
   obtain ⟨y70,x5,h⟩:=bsome h
   refine L_loadM (x:=.tmp 16) Tryz.isAgg3 Tryz.sizeOf3 z2 x5 fun d9 g8 i7=>?_
   obtain rfl:=Zj.1 g8
   have i8:=Zm (part_FaultDamage_2).1 u0
   refine Zs (x:=.tmp 18) Tryz.isAgg3 Tryz.sizeOf3 i8 fun e9 k8 j7=>?_
   obtain rfl:=Zj.1 k8
   obtain ⟨y74,m7,h⟩:=bsome h
   obtain ⟨e8,i6,h⟩:=bsome h
   refine E_drawL (g:=g4) (n:=9) [] [0,1,2,3,4,5,6,7,8] rfl mixed (by kernel_rfl) trivial ?_
   refine L_p up2 rfl rfl (Zk u3) ?_
   refine L_p (.int .i64 (o0)) rfl rfl (Zk rfl) ?_
   refine L_p (ePtr up2 o0 1) rfl rfl (P_indexAddrM (α:=Int) Tryz.underlying26 Tryz.sizeOf3 rfl z2 rfl x5) ?_
   refine L_ld (c:=.int .i64 (y70)) rfl rfl .plain (fun _ _ h=>⟨h.ch,fun b hb _=>h.below.block b hb⟩) i7 rfl ?_
   refine L_p (fPtr p2 2) rfl rfl (Zc at_45_2 o3 (PT.ptr u0)) ?_
   refine L_ld (c:=.int .i64 ((x1).Hook)) rfl rfl .plain (fun _ _ h=>h.ch) j7 rfl ?_
   refine L_p (.int .i64 (y74)) rfl rfl (P_int rfl rfl (congrArg (Option.map (Value.int .i64)) m7)) ?_
   refine L_p (.int .i64 ((bit64 .or y70 y74))) rfl rfl (P_int rfl rfl rfl) ?_
   refine L_p (ePtr up2 o0 1) rfl rfl (P_indexAddrM (α:=Int) Tryz.underlying26 Tryz.sizeOf3 rfl z2 rfl i6) ?_
   refine L_nl fun l8 i9 hs=>?_
   have hfr:=hfr.ext hs
   have z2:=z2.ext hs
   have u0:=u0.ext hs
   clear hs
   refine Ze .plain rfl (D_storeM (g:=l8) (α:=Int) (a':=((bit64 .or y70 y74))) Tryz.sizeOf3 rfl z2 i6 rfl (Zj.2 rfl) fun j6 k9 hs b93=>?_)
   have hfr:=hfr.stp hs
   have u0:=u0.stp hs
   refine Zb (Zd (Zf (Za (EL_p (fPtr p2 4) (Zc at_45_4 o3 (PT.ptr u0)) rfl ?_))))
   have m8:=Zm (part_FaultDamage_4).1 u0
   refine Ze .plain rfl (D_load (g:=j6) Tryz.isAgg4 Tryz.sizeOf4 rfl m8 fun l9 n8=>?_)
   obtain rfl:=RV_bool.1 n8
   refine EL_p (.bool (!(x1).Up)) (P_not rfl) rfl ?_
   refine Zb (Zd ?_)
   rcases Zt h with ⟨i5,h⟩ | ⟨i5,h⟩
   ·refine E_ct i5 rfl ?_
    obtain ⟨z4,v6,h⟩:=bsome h
    refine L_loadM (x:=.tmp 28) Tryz.isAgg3 Tryz.sizeOf3 b93 v6 fun n9 o8 n7=>?_
    obtain rfl:=Zj.1 o8
    have q8:=Zm (part_FaultDamage_2).1 u0
    refine Zs (x:=.tmp 30) Tryz.isAgg3 Tryz.sizeOf3 q8 fun v8 o7 d7=>?_
    obtain rfl:=Zj.1 o7
    obtain ⟨j3,e7,h⟩:=bsome h
    obtain ⟨g7,l5,h⟩:=bsome h
    refine E_drawL (g:=j6) (n:=9) [] [0,1,2,3,4,5,6,7,8] rfl mixed (by kernel_rfl) trivial ?_
    refine L_p up2 rfl rfl (Zk u3) ?_
    refine L_p (.int .i64 (o0)) rfl rfl (Zk rfl) ?_
    refine L_p (ePtr up2 o0 1) rfl rfl (P_indexAddrM (α:=Int) Tryz.underlying26 Tryz.sizeOf3 rfl b93 rfl v6) ?_
    refine L_ld (c:=.int .i64 (z4)) rfl rfl .plain (fun _ _ h=>⟨h.ch,fun b hb _=>h.below.block b hb⟩) n7 rfl ?_
    refine L_p (fPtr p2 2) rfl rfl (Zc at_45_2 o3 (PT.ptr u0)) ?_
    refine L_ld (c:=.int .i64 ((x1).Hook)) rfl rfl .plain (fun _ _ h=>h.ch) d7 rfl ?_
    refine L_p (.int .i64 (j3)) rfl rfl (P_int rfl rfl (congrArg (Option.map (Value.int .i64)) e7)) ?_
    refine L_p (.int .i64 ((bit64 .xor z4 j3))) rfl rfl (P_int rfl rfl rfl) ?_
    refine L_p (ePtr up2 o0 1) rfl rfl (P_indexAddrM (α:=Int) Tryz.underlying26 Tryz.sizeOf3 rfl b93 rfl l5) ?_
    refine L_nl fun u7 x8 hs=>?_
    have hfr:=hfr.ext hs
    have b93:=b93.ext hs
    have u0:=u0.ext hs
    clear hs
    refine Ze .plain rfl (D_storeM (g:=u7) (α:=Int) (a':=((bit64 .xor z4 j3))) Tryz.sizeOf3 rfl b93 l5 rfl (Zj.2 rfl) fun v7 y8 hs b132=>?_)
    have hfr:=hfr.stp hs
    have u0:=u0.stp hs
    refine Zb (blk_n ?_)
    obtain rfl:=sinj h
    exact hQ _ _ ⟨v7,hfr,u3,b132,o3,u0,z3,i3⟩
   ·refine E_cf i5 rfl ?_
    refine Zu (blk_n ?_)
    obtain rfl:=sinj h
    exact hQ _ _ ⟨j6,hfr,u3,b93,o3,u0,z3,i3⟩
  ·clear hx
   obtain ⟨c8,hfr,x6,y6,a7,b7,q5,t5⟩:=hR
   refine Za (EL_in (.int .i64 ((w64 (o0 + (1:Int))))) t5 rfl rfl rfl ?_)
   refine Zn (.int .i64 ((w64 (o0 + (1:Int))))) rfl rfl ?_
   exact Zb (Zd (hk3 (d3,(w64 (o0 + (1:Int)))) _ _ ⟨c8,hfr,x6,y6,a7,b7,q5,rfl⟩ h))
 ·refine E_cf hc5 rfl ?_
  refine E_exit ?_
  refine thn_e ?_
  refine thn_e ?_
  refine blk_hit ?_
  obtain rfl:=sinj h
  exact end0n rfl rfl ⟨_,hfr,rfl,c7.back z2⟩
def f93 (x0:FaultFaultLoom) (x1:FaultDamage) (x2:List Int):Option ((List Int)):=
 Option.bind (α:=Int) (
  lp (σ:=Int × Int) (fun n7 (o3,o0)=>
   bif (decide (o0 < (((x0).FaultLoom).Design).Hooks)) then
    Option.bind (α:=Int) (
     (shl64 o3 (1:Int)).bind fun z4=>
     (idx x2 (x1).Pick).bind fun o7=>
     (shr64 o7 o0).bind fun j3=>
     some ((bit64 .or z4 (bit64 .and j3 (1:Int))))
     ) fun u0=>
    n7 (u0,(w64 (o0 + (1:Int))))
   else
    some (o3)
   ) big ((0:Int),(0:Int))
  ) fun j1=>
 (idx x2 (x1).Pick).bind fun k8=>
 some ((List.set x2 (Int.toNat (x1).Pick) j1))
theorem en93:Enters Tryz.prog 93:=enters_of Tryz.func93 (by kernel_rfl) rfl
theorem wk93 {iI:Nat} {gI:Gh} {wI:World} {x0:FaultFaultLoom} {x1:FaultDamage} {x2:List Int} {up0:Value} (rp0:RV gI.m wI x0 up0) {up1:Value} (rp1:RV gI.m wI x1 up1) {up2:Value} (mp2:OM iI gI wI 3 x2 up2) {up3:Value} {r:(List Int)} (h:f93 x0 x1 x2=some r):FnM Tryz.prog 93 #[up0,up1,up2,up3] iI gI wI (fun g w v=>v=.tuple #[]∧OM iI g w 3 r up2):=by
 unfold f93 at h
 refine fnM_of_E Tryz.func93 rfl (Nat.le_of_ble_eq_true rfl) fun g0 hm hfr=>?_
 have a7:=mp2
 replace mp2:=mp2.enter
 rw [← hm] at mp2
 replace hm:g0.m=gI.m:=by rw [hm]
 have rp0:RV g0.m wI x0 up0:=hm ▸ rp0
 have rp1:RV g0.m wI x1 up1:=hm ▸ rp1
 show E _ 34 none _ _ _ _ _
 refine Zf (Za (Ze .plain rfl (D_box (g:=g0) rfl rp0 fun g1 w1 p1 hs q1=>?_)))
 have hfr:=hfr.ext hs
 have rp1:=rp1.ext hs
 have mp2:=mp2.ext hs
 refine Ze .plain rfl (D_box (g:=g1) rfl rp1 fun g2 w2 p2 hs q2=>?_)
 have hfr:=hfr.ext hs
 have mp2:=mp2.ext hs
 have q1:=q1.ext hs
 refine Zb (Zd (Zf (Za (Zg (.int .i64 (0)) rfl rfl ?_))))
 refine Zb (Zd ?_)
 obtain ⟨j1,hx,h⟩:=bsome h
 refine E_join (fun e w=>∃ (g:Gh) ,FrM iI gI wI g w∧e 2=up2∧OM 1 g w 3 (x2:List Int) up2∧e 5=p2∧PT g.m w (x1:FaultDamage) p2∧e 8=.int .i64 (j1)) (fun Q' hQ=>?_) (fun x8 d9 hR=>?_)
 ·replace h := hx
  clear hx
  refine Zf (Za (EL_p (fPtr p1 0) (Zc at_73_0 rfl (PT.ptr q1)) rfl ?_))
  have u7:=Zm (part_FaultFaultLoom_0).1 q1
  refine EL_p (fPtr (fPtr p1 0) 2) (Zc at_37_1 rfl (PT.ptr u7)) rfl ?_
  have v7:=Zm (part_FaultLoom_1).1 u7
  refine EL_p (fPtr (fPtr (fPtr p1 0) 2) 0) (Zc at_35_0 rfl (PT.ptr v7)) rfl ?_
  have l8:=Zm (part_Design_0).1 v7
  refine Ze .plain rfl (D_load (g:=g2) Tryz.isAgg3 Tryz.sizeOf3 rfl l8 fun e9 m8=>?_)
  obtain rfl:=Zj.1 m8
  refine Zn (.int .i64 (0)) rfl rfl ?_
  refine Zb (Zd (Zr ?_))
  refine E_lp h (fun (s:Int × Int) e w=>∃ (g:Gh) ,FrM iI gI wI g w∧e 2=up2∧OM 1 g w 3 (x2:List Int) up2∧e 5=p2∧PT g.m w (x1:FaultDamage) p2∧e 8=.int .i64 (s.1)∧e 13=.int .i64 ((((x0).FaultLoom).Design).Hooks)∧e 14=.int .i64 (s.2)) ⟨g2,hfr,rfl,mp2,rfl,q2,rfl,rfl,rfl⟩ (fun X27 n7 e8=>?_)
  rintro ⟨o3,o0⟩ y8 i9 ⟨q5,hfr,u3,z2,z3,d3,t5,i5,i3⟩ h
  refine Zf (Za (EL_p (.bool ((decide (o0 < (((x0).FaultLoom).Design).Hooks)))) (P_int i3 i5 rfl) rfl ?_))
  refine Zb (Zd (Zf ?_))
  rcases Zt h with ⟨l5,h⟩ | ⟨l5,h⟩
  ·refine E_ct l5 rfl ?_
   refine Zu (Zd ?_)
   obtain ⟨u0,hx,h⟩:=bsome h
   refine E_join (fun e w=>∃ (g:Gh) ,FrM iI gI wI g w∧e 2=up2∧OM 1 g w 3 (x2:List Int) up2∧e 5=p2∧PT g.m w (x1:FaultDamage) p2∧e 8=.int .i64 (u0)∧e 13=.int .i64 ((((x0).FaultLoom).Design).Hooks)∧e 14=.int .i64 (o0)) (fun Q' hQ=>?_) (fun a9 k9 hR=>?_)
   ·replace h := hx
    clear hx
    refine Zr ?_
    refine Zf (Za (Zo i3 rfl ?_))
    refine Zg (.int .i64 (o0)) rfl rfl ?_
    refine Zb (Zd (Za (Zo t5 rfl ?_)))
    obtain ⟨z4,g8,h⟩:=bsome h
    refine EL_p (.int .i64 (z4)) (P_shlu rfl rfl g8) rfl ?_
    refine Zo u3 rfl ?_
    refine EL_p (fPtr p2 1) (Zc at_45_1 z3 (PT.ptr d3)) rfl ?_
    have n8:=Zm (part_FaultDamage_1).1 d3
    refine Ze .plain rfl (D_load (g:=q5) Tryz.isAgg3 Tryz.sizeOf3 rfl n8 fun l9 o8=>?_)
    obtain rfl:=Zj.1 o8
    obtain ⟨o7,j6,h⟩:=bsome h
    refine EL_p (ePtr up2 (x1).Pick 1) (P_indexAddrM (α:=Int) Tryz.underlying26 Tryz.sizeOf3 rfl z2 rfl j6) rfl ?_
    refine Ze .plain rfl (D_loadM (g:=q5) Tryz.isAgg3 Tryz.sizeOf3 rfl z2 j6 fun n9 q8=>?_)
    obtain rfl:=Zj.1 q8
    refine Zn (.int .i64 (o0)) rfl rfl ?_
    obtain ⟨j3,i8,h⟩:=bsome h
    refine EL_p (.int .i64 (j3)) (P_int rfl rfl (congrArg (Option.map (Value.int .i64)) i8)) rfl ?_
    refine EL_in (.int .i64 ((bit64 .and j3 (1:Int)))) rfl rfl rfl rfl ?_
    refine EL_in (.int .i64 ((bit64 .or z4 (bit64 .and j3 (1:Int))))) rfl rfl rfl rfl ?_
    refine Zg (.int .i64 ((bit64 .or z4 (bit64 .and j3 (1:Int))))) rfl rfl ?_
    refine Zb (blk_n ?_)
    obtain rfl:=sinj h
    exact hQ _ _ ⟨q5,hfr,u3,z2,z3,d3,rfl,i5,i3⟩
   ·clear hx
    obtain ⟨r8,hfr,b7,c7,d7,e7,g7,v6,x6⟩:=hR
    refine Za (EL_in (.int .i64 ((w64 (o0 + (1:Int))))) x6 rfl rfl rfl ?_)
    refine Zn (.int .i64 ((w64 (o0 + (1:Int))))) rfl rfl ?_
    exact Zb (Zd (e8 (u0,(w64 (o0 + (1:Int)))) _ _ ⟨r8,hfr,b7,c7,d7,e7,g7,v6,rfl⟩ h))
  ·refine E_cf l5 rfl ?_
   refine E_exit ?_
   refine thn_e ?_
   refine thn_e ?_
   refine blk_hit ?_
   obtain rfl:=sinj h
   exact hQ _ _ ⟨q5,hfr,u3,z2,z3,d3,t5⟩
 ·clear hx
  obtain ⟨c8,hfr,i7,x5,j7,i6,m7⟩:=hR
  refine Za (Zo i7 rfl ?_)
  refine EL_p (fPtr p2 1) (Zc at_45_1 j7 (PT.ptr i6)) rfl ?_
  have t8:=Zm (part_FaultDamage_1).1 i6
  refine Ze .plain rfl (D_load (g:=c8) Tryz.isAgg3 Tryz.sizeOf3 rfl t8 fun o9 v8=>?_)
  obtain rfl:=Zj.1 v8
  refine Zo m7 rfl ?_
  obtain ⟨k8,y6,h⟩:=bsome h
  refine EL_p (ePtr up2 (x1).Pick 1) (P_indexAddrM (α:=Int) Tryz.underlying26 Tryz.sizeOf3 rfl x5 rfl y6) rfl ?_
  refine Ze .plain rfl (D_storeM (g:=c8) (α:=Int) (a':=j1) Tryz.sizeOf3 rfl x5 y6 rfl (Zj.2 rfl) fun t9 u9 hs b47=>?_)
  have hfr:=hfr.stp hs
  refine Zb ?_
  obtain rfl:=sinj h
  exact end0n rfl rfl ⟨_,hfr,rfl,a7.back b47⟩
def f94 (x0:FaultFaultLoom) (x1:FaultDamage) (x2:List Int):Option ((List Int)):=
 (rem64 (w64 ((x1).Pick + (1:Int))) ((x2).length:Int)).bind fun y5=>
 (idx x2 (x1).Pick).bind fun y8=>
 (idx x2 y5).bind fun o0=>
 (idx x2 (x1).Pick).bind fun u3=>
 (idx ((List.set x2 (Int.toNat (x1).Pick) o0)) y5).bind fun z3=>
 some ((List.set ((List.set x2 (Int.toNat (x1).Pick) o0)) (Int.toNat y5) y8))
theorem en94:Enters Tryz.prog 94:=enters_of Tryz.func94 (by kernel_rfl) rfl
theorem wk94 {iI:Nat} {gI:Gh} {wI:World} {x0:FaultFaultLoom} {x1:FaultDamage} {x2:List Int} {up0:Value} (rp0:RV gI.m wI x0 up0) {up1:Value} (rp1:RV gI.m wI x1 up1) {up2:Value} (mp2:OM iI gI wI 3 x2 up2) {up3:Value} {r:(List Int)} (h:f94 x0 x1 x2=some r):FnM Tryz.prog 94 #[up0,up1,up2,up3] iI gI wI (fun g w v=>v=.tuple #[]∧OM iI g w 3 r up2):=by
 unfold f94 at h
 refine fnM_of_E Tryz.func94 rfl (Nat.le_of_ble_eq_true rfl) fun g0 hm hfr=>?_
 have d3:=mp2
 replace mp2:=mp2.enter
 rw [← hm] at mp2
 replace hm:g0.m=gI.m:=by rw [hm]
 have rp0:RV g0.m wI x0 up0:=hm ▸ rp0
 have rp1:RV g0.m wI x1 up1:=hm ▸ rp1
 show E _ 35 none _ _ _ _ _
 refine Zf (Za (Ze .plain rfl (D_box (g:=g0) rfl rp0 fun g1 w1 p1 hs q1=>?_)))
 have hfr:=hfr.ext hs
 have rp1:=rp1.ext hs
 have mp2:=mp2.ext hs
 refine Ze .plain rfl (D_box (g:=g1) rfl rp1 fun g2 w2 p2 hs q2=>?_)
 have hfr:=hfr.ext hs
 have mp2:=mp2.ext hs
 refine Zb (Zd (Zf (Za (EL_p (fPtr p2 1) (Zc at_45_1 rfl (PT.ptr q2)) rfl ?_))))
 have q3:=Zm (part_FaultDamage_1).1 q2
 refine Ze .plain rfl (D_load (g:=g2) Tryz.isAgg3 Tryz.sizeOf3 rfl q3 fun v4 r4=>?_)
 obtain rfl:=Zj.1 r4
 refine EL_in (.int .i64 ((w64 ((x1).Pick + (1:Int))))) rfl rfl rfl rfl ?_
 refine Zn up2 rfl rfl ?_
 refine EL_p (.int .i64 ((x2).length:Int)) (P_lenM Tryz.underlying26 rfl mp2) rfl ?_
 obtain ⟨y5,hy5,h⟩:=bsome h
 refine EL_p (.int .i64 (y5)) (P_int rfl rfl (congrArg (Option.map (Value.int .i64)) hy5)) rfl ?_
 refine Zg (.int .i64 (y5)) rfl rfl ?_
 refine Zb (Zd (Zf ?_))
 have q6:=Zm (part_FaultDamage_1).1 q2
 refine Zs (x:=.tmp 18) Tryz.isAgg3 Tryz.sizeOf3 q6 fun v7 r7 hl7=>?_
 obtain rfl:=Zj.1 r7
 obtain ⟨y8,i3,h⟩:=bsome h
 refine L_loadM (x:=.tmp 20) Tryz.isAgg3 Tryz.sizeOf3 mp2 i3 fun v9 r9 z4=>?_
 obtain rfl:=Zj.1 r9
 obtain ⟨o0,u0,h⟩:=bsome h
 refine L_loadM (x:=.tmp 24) Tryz.isAgg3 Tryz.sizeOf3 mp2 u0 fun x5 i5 o3=>?_
 obtain rfl:=Zj.1 i5
 refine E_drawL (g:=g2) (n:=11) [] [0,1,2,3,4,5,6,7,8,9,10] rfl mixed (by kernel_rfl) trivial ?_
 refine L_p up2 rfl rfl (Zk rfl) ?_
 refine L_p (fPtr p2 1) rfl rfl (Zc at_45_1 rfl (PT.ptr q2)) ?_
 refine L_ld (c:=.int .i64 ((x1).Pick)) rfl rfl .plain (fun _ _ h=>h.ch) hl7 rfl ?_
 refine L_p (ePtr up2 (x1).Pick 1) rfl rfl (P_indexAddrM (α:=Int) Tryz.underlying26 Tryz.sizeOf3 rfl mp2 rfl i3) ?_
 refine L_ld (c:=.int .i64 (y8)) rfl rfl .plain (fun _ _ h=>⟨h.ch,fun b hb _=>h.below.block b hb⟩) z4 rfl ?_
 refine L_p up2 rfl rfl (Zk rfl) ?_
 refine L_p (.int .i64 (y5)) rfl rfl (Zk rfl) ?_
 refine L_p (ePtr up2 y5 1) rfl rfl (P_indexAddrM (α:=Int) Tryz.underlying26 Tryz.sizeOf3 rfl mp2 rfl u0) ?_
 refine L_ld (c:=.int .i64 (o0)) rfl rfl .plain (fun _ _ h=>⟨h.ch,fun b hb _=>h.below.block b hb⟩) o3 rfl ?_
 refine L_p (.int .i64 (y8)) rfl rfl (P_assign rfl) ?_
 refine L_p (.int .i64 (o0)) rfl rfl (P_assign rfl) ?_
 refine L_nl fun j3 i6 hs=>?_
 have hfr:=hfr.ext hs
 have mp2:=mp2.ext hs
 have q2:=q2.ext hs
 clear hs
 refine Zb (Zd (Zf (Za (Zn up2 rfl rfl ?_))))
 refine EL_p (fPtr p2 1) (Zc at_45_1 rfl (PT.ptr q2)) rfl ?_
 have l5:=Zm (part_FaultDamage_1).1 q2
 refine Ze .plain rfl (D_load (g:=j3) Tryz.isAgg3 Tryz.sizeOf3 rfl l5 fun j6 q5=>?_)
 obtain rfl:=Zj.1 q5
 refine Zn (.int .i64 (o0)) rfl rfl ?_
 obtain ⟨u3,j1,h⟩:=bsome h
 refine EL_p (ePtr up2 (x1).Pick 1) (P_indexAddrM (α:=Int) Tryz.underlying26 Tryz.sizeOf3 rfl mp2 rfl j1) rfl ?_
 refine Ze .plain rfl (D_storeM (g:=j3) (α:=Int) (a':=o0) Tryz.sizeOf3 rfl mp2 j1 rfl (Zj.2 rfl) fun t5 v6 hs b40=>?_)
 have hfr:=hfr.stp hs
 refine Zb (Zd (Za (Zn up2 rfl rfl ?_)))
 refine Zn (.int .i64 (y5)) rfl rfl ?_
 refine Zn (.int .i64 (y8)) rfl rfl ?_
 obtain ⟨z3,z2,h⟩:=bsome h
 refine EL_p (ePtr up2 y5 1) (P_indexAddrM (α:=Int) Tryz.underlying26 Tryz.sizeOf3 rfl b40 rfl z2) rfl ?_
 refine Ze .plain rfl (D_storeM (g:=t5) (α:=Int) (a':=y8) Tryz.sizeOf3 rfl b40 z2 rfl (Zj.2 rfl) fun x6 y6 hs b42=>?_)
 have hfr:=hfr.stp hs
 refine Zb ?_
 obtain rfl:=sinj h
 exact end0n rfl rfl ⟨_,hfr,rfl,d3.back b42⟩
def f95 (x0:FaultFaultLoom) (x1:FaultDamage) (x3:List (Int × Bool)):Option ((List (Int × Bool))):=
 some ((mset x3 ((x1).Warp) true))
theorem en95:Enters Tryz.prog 95:=enters_of Tryz.func95 (by kernel_rfl) rfl
theorem wk95 {iI:Nat} {gI:Gh} {wI:World} {x0:FaultFaultLoom} {x1:FaultDamage} {x3:List (Int × Bool)} {up0:Value} (rp0:RV gI.m wI x0 up0) {up1:Value} (rp1:RV gI.m wI x1 up1) {up2:Value} {up3:Value} (mp3:MP (Value.int .i64) iI gI wI x3 up3) {r:(List (Int × Bool))} (h:f95 x0 x1 x3=some r):FnM Tryz.prog 95 #[up0,up1,up2,up3] iI gI wI (fun g w v=>v=.tuple #[]∧MP (Value.int .i64) iI g w r up3):=by
 unfold f95 at h
 refine fnM_of_E Tryz.func95 rfl (Nat.le_of_ble_eq_true rfl) fun g0 hm hfr=>?_
 have o0:=mp3
 replace mp3:=mp3.enter
 rw [← hm] at mp3
 replace hm:g0.m=gI.m:=by rw [hm]
 have rp0:RV g0.m wI x0 up0:=hm ▸ rp0
 have rp1:RV g0.m wI x1 up1:=hm ▸ rp1
 show E _ 11 none _ _ _ _ _
 refine Zf (Za (Ze .plain rfl (D_box (g:=g0) rfl rp0 fun g1 w1 p1 hs q1=>?_)))
 have hfr:=hfr.ext hs
 have rp1:=rp1.ext hs
 have mp3:=mp3.ext hs
 refine Ze .plain rfl (D_box (g:=g1) rfl rp1 fun g2 w2 p2 hs q2=>?_)
 have hfr:=hfr.ext hs
 have mp3:=mp3.ext hs
 refine Zb (Zd (Za (Zn up3 rfl rfl ?_)))
 refine EL_p (fPtr p2 3) (Zc at_45_3 rfl (PT.ptr q2)) rfl ?_
 have q3:=Zm (part_FaultDamage_3).1 q2
 refine Ze .plain rfl (D_load (g:=g2) Tryz.isAgg3 Tryz.sizeOf3 rfl q3 fun v4 r4=>?_)
 obtain rfl:=Zj.1 r4
 refine Ze .plain rfl (D_mapUpdate (g:=g2) Tryz.underlying135 key_3 rfl mp3 rfl rfl (RV_bool.2 rfl) fun g5 w5 hs m5=>?_)
 have hfr:=hfr.stp hs
 refine Zb ?_
 obtain rfl:=sinj h
 exact end0n rfl rfl ⟨_,hfr,rfl,o0.back m5⟩
def fvF (f:Nat):Fv:=⟨.func (.func f) #[] #[],rfl⟩
def fv0:Fv:=⟨.nilFunc,rfl⟩
def chgM:List (Int × Fv):=[(1,fvF 91),(2,fvF 92),(3,fvF 93),(4,fvF 94),(5,fvF 95)]
def fchg (k:Int) (l:FaultFaultLoom) (d:FaultDamage) (rows:List Int) (br:List (Int × Bool)):Option (List Int × List (Int × Bool)):=
 if k=1 then (f91 l d rows).map (fun r=>(r,br)) else if k=2 then (f92 l d rows).map (fun r=>(r,br)) else if k=3 then (f93 l d rows).map (fun r=>(r,br)) else if k=4 then (f94 l d rows).map (fun r=>(r,br))
 else if k=5 then (f95 l d br).map (fun b=>(rows,b)) else none
theorem en74:Enters Tryz.prog 74:=enters_of Tryz.func74 (by kernel_rfl) rfl
theorem key_43:KeyLaw Tryz.prog 43 (Value.int .i64):=keyLaw_int Tryz.underlying43
theorem wk74 {i:Nat} {gI:Gh} {wI:World}:FnG Tryz.prog 74 #[] gI wI (fun g w v=>MP (Value.int .i64) i g w chgM v):=by
 refine fnG_of_E Tryz.func74 rfl (Nat.le_of_ble_eq_true rfl) fun g0 hm hfr=>?_
 show E _ 3 none _ _ _ _ _
 refine Zf (Za (Zg (.map none) rfl rfl (Zb (Zd ?_))))
 refine Zf (Za (Ze .plain rfl (D_makeMap (g:=g0) (Value.int .i64) Fv 5 fun g1 w1 v1 hs1 m1=>?_)))
 refine Ze .plain rfl (D_insert (v:=fvF 91) Tryz.underlying140 key_43 rfl m1 rfl rfl (RV_fv.2 rfl) fun g2 w2 hs2 m2=>?_)
 refine Ze .plain rfl (D_insert (v:=fvF 92) Tryz.underlying140 key_43 rfl m2 rfl rfl (RV_fv.2 rfl) fun g3 w3 hs3 m3=>?_)
 refine Ze .plain rfl (D_insert (v:=fvF 93) Tryz.underlying140 key_43 rfl m3 rfl rfl (RV_fv.2 rfl) fun g4 w4 hs4 m4=>?_)
 refine Ze .plain rfl (D_insert (v:=fvF 94) Tryz.underlying140 key_43 rfl m4 rfl rfl (RV_fv.2 rfl) fun g5 w5 hs5 m5=>?_)
 refine Ze .plain rfl (D_insert (v:=fvF 95) Tryz.underlying140 key_43 rfl m5 rfl rfl (RV_fv.2 rfl) fun g6 w6 hs6 m6=>?_)
 refine Zn v1 rfl rfl ?_
 refine Zg v1 rfl rfl (Zb (Zd ?_))
 have hfr:=(((((hfr.stp hs1).stp hs2).stp hs3).stp hs4).stp hs5).stp hs6
 obtain ⟨g',hx,hmp⟩:=MP.hand (i:=i) hfr m6
 exact E_ret (end1 rfl rfl (show _=v1 from rfl) ⟨g',hx,hmp⟩)
theorem D_chg {e : Env} {g : Gh} {w : World} {K : Value → World → Prop} {c x1 x2 x3 x4 : Operand} {ats : Array TypeId} {k : Int} {l : FaultFaultLoom} {d : FaultDamage} {rows rows' : List Int} {br br' : List (Int × Bool)} {i j : Nat} {lv dv rv bv : Value}
  (hf:fchg k l d rows br=some (rows',br')) (hc:ev e c=((mget chgM k).getD fv0).v) (h1:ev e x1=lv) (h2:ev e x2=dv) (h3:ev e x3=rv) (h4:ev e x4=bv) (r1:RV g.m w l lv) (r2:RV g.m w d dv) (hom:OM i g w 3 rows rv) (hmp:MP (Value.int .i64) j g w br bv) (hij:Nat.beq i j=false) (hji:Nat.beq j i=false)
  (h:∀ g1 w1 g' w' v,Stp i g w g1 w1→Stp j g1 w1 g' w'→OM i g' w' 3 rows' rv→MP (Value.int .i64) j g' w' br' bv→K v w'):Doe Tryz.prog (.call { callee:=.value c,args:=#[x1,x2,x3,x4],argTypes:=ats }) e w K:=by
 unfold fchg at hf
 have ha:Args e [x1,x2,x3,x4] [lv,dv,rv,bv]:=.cons h1 (.cons h2 (.cons h3 (.cons h4 .nil)))
 have one : ∀ (f : Nat) (fF : FaultFaultLoom → FaultDamage → List Int → Option (List Int)), ev e c = .func (.func f) #[] #[] → Enters Tryz.prog f → (fF l d rows).map (fun r => (r, br)) = some (rows', br') →
   (∀ r,fF l d rows=some r→FnM Tryz.prog f #[lv,dv,rv,bv] i g w (fun g w v=>v=.tuple #[]∧OM i g w 3 r rv))→Doe Tryz.prog (.call { callee:=.value c,args:=#[x1,x2,x3,x4],argTypes:=ats }) e w K:=by
  intro f fF hcf hen hmap hw
  obtain ⟨r,hr,he⟩:=Option.map_eq_some_iff.1 hmap
  obtain ⟨rfl,rfl⟩:r=rows'∧br=br':=by simpa using he
  exact D_callMv (g:=g) (i:=i) hcf hen ha (hw r hr) fun g' w' v hs hR=>h g' w' g' w' v hs (stp_refl _ _ _) hR.2 (hmp.stp hs hji)
 split at hf
 ·rename_i hk; subst hk; exact one 91 f91 hc en91 hf fun r hr=>wk91 r1 r2 hom hr
 split at hf
 ·rename_i hk; subst hk; exact one 92 f92 hc en92 hf fun r hr=>wk92 r1 r2 hom hr
 split at hf
 ·rename_i hk; subst hk; exact one 93 f93 hc en93 hf fun r hr=>wk93 r1 r2 hom hr
 split at hf
 ·rename_i hk; subst hk; exact one 94 f94 hc en94 hf fun r hr=>wk94 r1 r2 hom hr
 split at hf
 ·rename_i hk; subst hk
  obtain ⟨r,hr,he⟩:=Option.map_eq_some_iff.1 hf
  obtain ⟨rfl,rfl⟩:rows=rows'∧r=br':=by simpa using he
  exact D_callMv (g:=g) (i:=j) (f:=95) hc en95 ha (wk95 r1 r2 hmp hr) fun g' w' v hs hR=>h g w g' w' v (stp_refl _ _ _) hs (hom.stp hs hij) hR.2
 ·cases hf
def f97 (x0:List Int) (x1:Int→Option Bool):Option (Int):=
 jn (σ:=Unit) (fun _=>
  some ((-1:Int))
  ) fun k18=>
 lp (σ:=Int) (fun k19 o0=>
  bif (decide (o0 < ((x0).length : Int))) then
   jn (σ:=Unit) (fun _=>
    k19 ((w64 (o0 + (1:Int))))
    ) fun k28=>
   (idx x0 o0).bind fun u3=>
   (x1 u3).bind fun i6=>
   bif i6 then
    some (o0)
   else
    k28 ()
  else
   k18 ()
  ) big ((0:Int))
theorem en97:Enters Tryz.prog 97:=enters_of Tryz.func97 (by kernel_rfl) rfl
theorem wk97 {gI:Gh} {wI:World} {x0:List Int} {x1:Int→Option Bool} {up0:Value} (rp0:RV gI.m wI x0 up0) {up1:Value} (rp1:FnV1 Tryz.prog x1 up1 gI wI) {r:Int} (h:f97 x0 x1=some r):Fn Tryz.prog 97 #[up0,up1] gI wI (fun _ _ v=>v=.int .i64 (r)):=by
 unfold f97 at h
 refine fn_of_E Tryz.func97 rfl (Nat.le_of_ble_eq_true rfl) fun g0 hm hfr=>?_
 have rp0:RV g0.m wI x0 up0:=hm ▸ rp0
 obtain ⟨ff1,fa1,fc1,rfl,fen1,fcl1⟩:=rp1
 show E _ 19 none _ _ _ _ _
 refine Zf (Za (Zg (.int .i64 (0)) rfl rfl ?_))
 refine Zb (Zd (Zq h (fun (s:Unit) e w=>∃ (g:Gh) ,Fr gI wI g w) (fun X18 k18 j6 h=>?_) ?_))
 ·refine Zf (Za (Zn up0 rfl rfl ?_))
  refine EL_p (.int .i64 ((x0).length:Int)) (P_len Tryz.underlying26 rfl rp0) rfl ?_
  refine Zn (.int .i64 (0)) rfl rfl ?_
  refine Zb (Zd (Zr ?_))
  refine E_lp h (fun (s:Int) e w=>∃ (g:Gh) ,Fr gI wI g w∧e 0=up0∧RV g.m w (x0:List Int) up0∧e 1=(.func (.func ff1) fa1 fc1)∧e 7=.int .i64 (((x0).length:Int))∧e 8=.int .i64 (s)) ⟨g0,hfr,rfl,rp0,rfl,rfl,rfl⟩ (fun X19 k19 v6=>?_)
  rintro o0 e7 j7 ⟨z3,hfr,i3,u0,j3,o3,j1⟩ h
  refine Zf (Za (EL_in (.bool ((decide (o0 < ((x0).length:Int))))) j1 o3 rfl rfl ?_))
  refine Zb (Zd (Zf ?_))
  rcases Zt h with ⟨z2,h⟩ | ⟨z2,h⟩
  ·refine E_ct z2 rfl ?_
   refine Zu (Zd (Zq h (fun (s:Unit) e w=>∃ (g:Gh) ,Fr gI wI g w∧e 0=up0∧RV g.m w (x0:List Int) up0∧e 1=(.func (.func ff1) fa1 fc1)∧e 7=.int .i64 (((x0).length:Int))∧e 8=.int .i64 (o0)) (fun X28 k28 x6 h=>?_) ?_))
   ·refine Zr ?_
    refine Zf (Za (Zo j1 rfl ?_))
    refine Zg (.int .i64 (o0)) rfl rfl ?_
    refine Zb (Zd (Zf (Za (Zo j3 rfl ?_))))
    refine Zo i3 rfl ?_
    refine Zn (.int .i64 (o0)) rfl rfl ?_
    obtain ⟨u3,z4,h⟩:=bsome h
    refine EL_p (ePtr up0 o0 1) (Zh (α:=Int) Tryz.underlying26 Tryz.sizeOf3 rfl u0 rfl z4) rfl ?_
    have a7:=PT_idx u0 z4
    refine Ze .plain rfl (D_load (g:=z3) Tryz.isAgg3 Tryz.sizeOf3 rfl a7 fun m7 b7=>?_)
    obtain rfl:=Zj.1 b7
    obtain ⟨i6,y6,h⟩:=bsome h
    refine Ze .plain rfl (D_callv (g:=z3) (vs:=[.int .i64 (u3)]) rfl fen1 (.cons rfl .nil) (fcl1 _ _ hfr.ch _ _ _  (Zj.2 rfl) y6) fun c7 n7 o7 hs hr=>?_)
    have hfr:=hfr.ext hs
    have u0:=u0.ext hs
    obtain rfl:=RV_bool.1 hr
    refine Zb (Zd ?_)
    rcases Zt h with ⟨d3,h⟩ | ⟨d3,h⟩
    ·refine E_ct d3 rfl ?_
     refine Zf (Za (Zn (.int .i64 (o0)) rfl rfl ?_))
     refine Zg (.int .i64 (o0)) rfl rfl ?_
     refine Zb (Zd (E_ret (blk_r ?_)))
     refine thn_r ?_
     refine thn_r ?_
     refine blk_r ?_
     refine thn_r ?_
     obtain rfl:=sinj h
     exact end1 rfl rfl (show _=.int .i64 (o0) from rfl) ⟨_,hfr,rfl⟩
    ·refine E_cf d3 rfl ?_
     exact Zu (blk_n (Zd (x6 () _ _ ⟨c7,hfr,i3,u0,j3,o3,j1⟩ h)))
   ·rintro _ g7 u7 ⟨d7, hfr, i5, l5, q5, t5, x5⟩ h
    refine Za (EL_in (.int .i64 ((w64 (o0 + (1:Int))))) x5 rfl rfl rfl ?_)
    refine Zn (.int .i64 ((w64 (o0 + (1:Int))))) rfl rfl ?_
    exact Zb (Zd (v6 ((w64 (o0 + (1:Int)))) _ _ ⟨d7,hfr,i5,l5,q5,t5,rfl⟩ h))
  ·refine E_cf z2 rfl ?_
   refine E_exit ?_
   refine thn_e ?_
   refine thn_e ?_
   refine blk_hit ?_
   exact Zd (j6 () _ _ ⟨z3,hfr⟩ h)
 ·rintro _ i7 v7 ⟨c8, hfr⟩ h
  refine Zf (Za (Zg (.int .i64 (-1)) rfl rfl ?_))
  refine Zb (Zd (E_ret ?_))
  obtain rfl:=sinj h
  exact end1 rfl rfl (show _=.int .i64 (-1) from rfl) ⟨_,hfr,rfl⟩
def f98 (x0:LoomLoomMill) (x1:Int) (x2:Int) (x3:Int) (x4:List (Int × LoomRun)):Option (Int):=
 (idx ((x0).orders) x1).bind fun y4=>
 jn (σ:=Int) (fun o0=>
  jn (σ:=Unit) (fun _=>
   some (o0)
   ) fun v7=>
  Option.bind (α:=Bool) (
   (idx (((x0).LoomMill).Widths) x2).bind fun z2=>
   bif (decide ((y4).Width > z2)) then
    some (true)
   else
    some ((decide ((w64 (o0 + (y4).Woven)) > (y4).Late)))
   ) fun d3=>
  bif d3 then
   some ((1048576:Int))
  else
   v7 ()
  ) fun c8=>
 bif ((mget x4 x1).isSome) then
  jn (σ:=Unit) (fun _=>
   c8 ((((mget x4 x1).getD (⟨0,0,0⟩:LoomRun))).From)
   ) fun k60=>
  Option.bind (α:=Bool) (
   bif ((((mget x4 x1).getD (⟨0, 0, 0⟩ : LoomRun))).Loom != x2) then
    some (true)
   else
    some ((decide ((((mget x4 x1).getD (⟨0,0,0⟩:LoomRun))).From < (max64 (y4).Early x3))))
   ) fun j3=>
  bif j3 then
   some ((1048576:Int))
  else
   k60 ()
 else
  c8 ((max64 (y4).Early x3))
theorem en98:Enters Tryz.prog 98:=enters_of Tryz.func98 (by kernel_rfl) rfl
theorem wk98 {gI:Gh} {wI:World} {x0:LoomLoomMill} {x1:Int} {x2:Int} {x3:Int} {x4:List (Int × LoomRun)} {up0:Value} (rp0:RV gI.m wI x0 up0) {up4:Value} (mq4:MR (Value.int .i64) gI wI x4 up4) {r:Int} (h:f98 x0 x1 x2 x3 x4=some r):Fn Tryz.prog 98 #[up0,.int .i64 (x1),.int .i64 (x2),.int .i64 (x3),up4] gI wI (fun _ _ v=>v=.int .i64 (r)):=by
 unfold f98 at h
 refine fn_of_E Tryz.func98 rfl (Nat.le_of_ble_eq_true rfl) fun g0 hm hfr=>?_
 have rp0:RV g0.m wI x0 up0:=hm ▸ rp0
 have mq4:=MQ.enter mq4 hm hfr
 show E _ 62 none _ _ _ _ _
 refine Zf (Za (Ze .plain rfl (D_box (g:=g0) rfl rp0 fun g1 w1 p1 hs q1=>?_)))
 have hfr:=hfr.ext hs
 have mq4:=mq4.ext hs
 refine Zg (.int .i64 (0)) rfl rfl ?_
 refine Zb (Zd (Zf (Za (EL_p (fPtr p1 2) (Zc at_81_1 rfl (PT.ptr q1)) rfl ?_))))
 have q2:=Zm (part_LoomLoomMill_1).1 q1
 refine Ze .plain rfl (D_load (g:=g1) Tryz.isAgg29 Tryz.sizeOf29 rfl q2 fun v3 r3=>?_)
 refine Zn (.int .i64 (x1)) rfl rfl ?_
 obtain ⟨y4,n9,h⟩:=bsome h
 refine EL_p (ePtr v3 x1 5) (Zh (α:=LoomOrder) Tryz.underlying29 Tryz.sizeOf67 rfl r3 rfl n9) rfl ?_
 have q5:=PT_idx r3 n9
 refine Ze .plain rfl (D_load (g:=g1) Tryz.isAgg67 Tryz.sizeOf67 rfl q5 fun v6 r6=>?_)
 refine Ze .plain rfl (D_allocOc (g:=g1) 2011 (⟨0,0,0,0,0⟩:LoomOrder) Tryz.zeroValue67 (fun m w=>⟨_,(rep_two rep_int (rep_two rep_int (rep_two rep_int (rep_two rep_int rep_int)))),rfl⟩) fun g7 w7 p7 hs b7 cb=>?_)
 have hfr:=hfr.stp hs
 have mq4:=mq4.stp hs
 have q1:=q1.stp hs
 have r6:=r6.stp hs
 clear cb
 refine Ze .plain rfl (D_storeOc (g:=g7) (v:=v6) Tryz.sizeOf67 rfl b7 rfl r6 fun g8 w8 hs b8 cb=>?_)
 clear cb
 have hfr:=hfr.stp hs
 have mq4:=mq4.stp hs
 have q1:=q1.stp hs
 refine Zb (Zd (Zf (Za (EL_p (fPtr p7 3) (Zc at_67_3 rfl (OB.ptr b8)) rfl ?_))))
 refine Ze .plain rfl (D_loadF (g:=g8) part_LoomOrder_3.1 Tryz.isAgg3 Tryz.sizeOf3 rfl b8 fun nB nA=>?_)
 obtain rfl:=Zj.1 nA
 refine Zn (.int .i64 (x3)) rfl rfl ?_
 refine EL_p (.int .i64 (max64 (y4).Early x3)) (P_max rfl rfl) rfl ?_
 refine Zg (.int .i64 (max64 (y4).Early x3)) rfl rfl ?_
 refine Zb (Zd (Zq h (fun (s:Int) e w=>∃ (g:Gh) ,Fr gI wI g w∧e 2=.int .i64 (x2)∧e 5=p1∧PT g.m w (x0:LoomLoomMill) p1∧e 11=p7∧OB 2011 g w 67 (y4:LoomOrder) p7∧e 12=.int .i64 (s)) (fun X43 c8 e8 h=>?_) ?_))
 ·refine Zf (Za (Zn up4 rfl rfl ?_))
  refine Zn (.int .i64 (x1)) rfl rfl ?_
  refine Ze .plain rfl (D_lookupOkR (g:=g8) (z0:=(⟨0,0,0⟩:LoomRun)) Tryz.underlying85 key_3 Tryz.zeroValue65 (fun m w=>⟨_,(rep_two rep_int (rep_two rep_int rep_int)),rfl⟩) rfl mq4.r rfl fun i8 k8=>?_)
  refine Zn (.tuple #[i8,.bool ((mget x4 x1).isSome)]) rfl rfl ?_
  refine EL_p i8 (Zi rfl rfl) rfl ?_
  refine EL_p (.bool ((mget x4 x1).isSome)) (Zi rfl rfl) rfl ?_
  refine Ze .plain rfl (D_allocOc (g:=g8) 2013 (⟨0,0,0⟩:LoomRun) Tryz.zeroValue65 (fun m w=>⟨_,(rep_two rep_int (rep_two rep_int rep_int)),rfl⟩) fun oA oB u3 hs b45 cb=>?_)
  have hfr:=hfr.stp hs
  have q1:=q1.stp hs
  have b8:=b8.stp hs rfl
  have k8:=k8.stp hs
  clear cb
  refine Ze .plain rfl (D_storeOc (g:=oA) (v:=i8) Tryz.sizeOf65 rfl b45 rfl k8 fun i6 tB hs b46 cb=>?_)
  clear cb
  have hfr:=hfr.stp hs
  have q1:=q1.stp hs
  have b8:=b8.stp hs rfl
  refine Zg (.bool ((mget x4 x1).isSome)) rfl rfl ?_
  refine Zb (Zd (Zf (Za (Zn (.bool ((mget x4 x1).isSome)) rfl rfl ?_))))
  refine Zb (Zd ?_)
  rcases Zt h with ⟨y6,h⟩ | ⟨y6,h⟩
  ·refine E_ct y6 rfl ?_
   refine Zq h (fun (s:Unit) e w=>∃ (g:Gh) ,Fr gI wI g w∧e 2=.int .i64 (x2)∧e 5=p1∧PT g.m w (x0:LoomLoomMill) p1∧e 11=p7∧OB 2011 g w 67 (y4:LoomOrder) p7∧e 13=u3∧OB 2013 g w 65 (((mget x4 x1).getD (⟨0,0,0⟩:LoomRun)):LoomRun) u3) (fun X60 k60 u9 h=>?_) ?_
   ·obtain ⟨j3, hx, h⟩ := bsome h
    refine E_join (fun e w=>∃ (g:Gh) ,Fr gI wI g w∧e 2=.int .i64 (x2)∧e 5=p1∧PT g.m w (x0:LoomLoomMill) p1∧e 11=p7∧OB 2011 g w 67 (y4:LoomOrder) p7∧e 13=u3∧OB 2013 g w 65 (((mget x4 x1).getD (⟨0,0,0⟩:LoomRun)):LoomRun) u3∧e 40=.bool (j3)) (fun Q' hQ=>?_) (fun yA vB hR=>?_)
    ·replace h := hx
     clear hx
     refine Za (EL_p (fPtr u3 1) (Zc at_65_1 rfl (OB.ptr b46)) rfl ?_)
     refine Ze .plain rfl (D_loadF (g:=i6) part_LoomRun_1.1 Tryz.isAgg3 Tryz.sizeOf3 rfl b46 fun xB pA=>?_)
     obtain rfl:=Zj.1 pA
     refine Zn (.int .i64 (x2)) rfl rfl ?_
     refine EL_in (.bool (((((mget x4 x1).getD (⟨0,0,0⟩:LoomRun))).Loom != x2))) rfl rfl rfl rfl ?_
     refine Zn (.bool (((((mget x4 x1).getD (⟨0,0,0⟩:LoomRun))).Loom != x2))) rfl rfl ?_
     rcases Zt h with ⟨i3,h⟩ | ⟨i3,h⟩
     ·refine EL_s rfl rfl i3 rfl rfl ?_
      iterate 3 refine EL_s rfl rfl i3 rfl rfl ?_
      refine EL_p (.bool true) (Zl (b:=((((mget x4 x1).getD (⟨0,0,0⟩:LoomRun))).Loom != x2)) rfl (pick_t i3 rfl)) rfl ?_
      refine Zb ?_
      obtain rfl:=sinj h
      exact hQ _ _ ⟨i6,hfr,rfl,rfl,q1,rfl,b8,rfl,b46,rfl⟩
     ·refine EL_y (fPtr u3 2) (Zc at_65_2 rfl (OB.ptr b46)) rfl rfl i3 rfl ?_
      refine Ze (.yes2 rfl rfl i3) rfl (D_loadF (g:=i6) part_LoomRun_2.1 Tryz.isAgg3 Tryz.sizeOf3 rfl b46 fun yB qA=>?_)
      obtain rfl:=Zj.1 qA
      refine EL_y (.int .i64 (max64 (y4).Early x3)) (Zk rfl) rfl rfl i3 rfl ?_
      refine EL_y (.bool ((decide ((((mget x4 x1).getD (⟨0,0,0⟩:LoomRun))).From < (max64 (y4).Early x3))))) (P_int rfl rfl rfl) rfl rfl i3 rfl ?_
      refine EL_p (.bool ((decide ((((mget x4 x1).getD (⟨0,0,0⟩:LoomRun))).From < (max64 (y4).Early x3))))) (Zl (b:=((((mget x4 x1).getD (⟨0,0,0⟩:LoomRun))).Loom != x2)) rfl (pick_f i3 rfl)) rfl ?_
      refine Zb ?_
      obtain rfl:=sinj h
      exact hQ _ _ ⟨i6,hfr,rfl,rfl,q1,rfl,b8,rfl,b46,rfl⟩
    ·clear hx
     obtain ⟨rA,hfr,v8,x8,y8,l8,m8,n8,o8,j6⟩:=hR
     rcases Zt h with ⟨a7,h⟩ | ⟨a7,h⟩
     ·refine E_cond_true (Eq.trans (show ev _ _ = .bool (j3) from j6) (congrArg Value.bool a7)) ?_
      refine Zf (Za (Zg (.int .i64 (1048576)) rfl rfl ?_))
      refine Zb (Zd (E_ret (thn_r ?_)))
      refine thn_r ?_
      obtain rfl:=sinj h
      exact end1 rfl rfl (show _=.int .i64 (1048576) from rfl) ⟨_,hfr,rfl⟩
     ·refine E_cond_false (Eq.trans (show ev _ _ = .bool (j3) from j6) (congrArg Value.bool a7)) ?_
      exact Zu (Zd (u9 () _ _ ⟨rA,hfr,v8,x8,y8,l8,m8,n8,o8⟩ h))
   ·rintro _ zA zB ⟨o9, hfr, a9, d9, e9, q8, r8, t8, x6⟩ h
    refine Za (EL_p (fPtr u3 2) (Zc at_65_2 t8 (OB.ptr x6)) rfl ?_)
    refine Ze .plain rfl (D_loadF (g:=o9) part_LoomRun_2.1 Tryz.isAgg3 Tryz.sizeOf3 rfl x6 fun aC sA=>?_)
    obtain rfl:=Zj.1 sA
    refine Zg (.int .i64 ((((mget x4 x1).getD (⟨0,0,0⟩:LoomRun))).From)) rfl rfl ?_
    exact Zb (Zd (e8 ((((mget x4 x1).getD (⟨0,0,0⟩:LoomRun))).From) _ _ ⟨o9,hfr,a9,d9,e9,q8,r8,rfl⟩ h))
  ·refine E_cf y6 rfl ?_
   exact Zu (Zd (e8 ((max64 (y4).Early x3)) _ _ ⟨i6,hfr,rfl,rfl,q1,rfl,b8,rfl⟩ h))
 ·rintro o0 aB cC ⟨t9, hfr, e7, i7, i5, o3, j1, z3⟩ h
  refine Zq h (fun (s:Unit) e w=>∃ (g:Gh) ,Fr gI wI g w∧e 12=.int .i64 (o0)) (fun X198 v7 i9 h=>?_) ?_
  ·obtain ⟨d3, hx, h⟩ := bsome h
   refine E_join (fun e w=>∃ (g:Gh) ,Fr gI wI g w∧e 12=.int .i64 (o0)∧e 60=.bool (d3)) (fun Q' hQ=>?_) (fun uA bB hR=>?_)
   ·replace h := hx
    clear hx
    refine L_loadO (x:=.tmp 43) part_LoomOrder_0.1 Tryz.isAgg3 Tryz.sizeOf3 j1 fun cB y9 j7=>?_
    obtain rfl:=Zj.1 y9
    have c7:=Zm (part_LoomLoomMill_0).1 i5
    have z9:=Zm (part_LoomMill_0).1 c7
    refine Zs (x:=.tmp 46) Tryz.isAgg26 Tryz.sizeOf26 z9 fun l5 d7 m7=>?_
    obtain ⟨z2,t5,h⟩:=bsome h
    have bA:=PT_idx d7 t5
    refine Zs (x:=.tmp 49) Tryz.isAgg3 Tryz.sizeOf3 bA fun dB gA n7=>?_
    obtain rfl:=Zj.1 gA
    rcases Zt h with ⟨u0,h⟩ | ⟨u0,h⟩
    ·refine E_drawL (g := t9) (n := 18) [] [0, 1, 2, 3, 4, 5, 6, 7, 8, 9, 10, 11, 12, 13, 14, 15, 16, 17] rfl mixed (by kernel_rfl) trivial ?_
     refine L_p (fPtr p7 0) rfl rfl (Zc at_67_0 o3 (OB.ptr j1)) ?_
     refine L_ld (c:=.int .i64 ((y4).Width)) rfl rfl .plain (fun _ _ h=>⟨h.ch,fun b hb _=>h.below.block b hb⟩) j7 rfl ?_
     refine L_p (fPtr p1 0) rfl rfl (Zc at_81_0 i7 (PT.ptr i5)) ?_
     refine L_p (fPtr (fPtr p1 0) 0) rfl rfl (Zc at_28_0 rfl (PT.ptr c7)) ?_
     refine L_ld (c:=l5) rfl rfl .plain (fun _ _ h=>h.ch) m7 rfl ?_
     refine L_p (.int .i64 (x2)) rfl rfl (Zk e7) ?_
     refine L_p (ePtr l5 x2 1) rfl rfl (Zh (α:=Int) Tryz.underlying26 Tryz.sizeOf3 rfl d7 rfl t5) ?_
     refine L_ld (c:=.int .i64 (z2)) rfl rfl .plain (fun _ _ h=>h.ch) n7 rfl ?_
     refine L_p (.bool ((decide ((y4).Width > z2)))) rfl rfl (P_int rfl rfl rfl) ?_
     refine L_p (.bool ((decide ((y4).Width > z2)))) rfl rfl (Zk rfl) ?_
     iterate 7 refine L_s rfl rfl rfl u0 rfl ?_
     refine L_p (.bool true) rfl rfl (Zl (b:=(decide ((y4).Width > z2))) rfl (pick_t u0 rfl)) ?_
     refine L_nl fun iA eB hs=>?_
     have hfr:=hfr.ext hs
     clear hs
     refine Zb ?_
     obtain rfl:=sinj h
     exact hQ _ _ ⟨iA,hfr,z3,rfl⟩
    ·refine L_loadO (x := .tmp 54) part_LoomOrder_2.1 Tryz.isAgg3 Tryz.sizeOf3 j1 fun iB jA k9 => ?_
     obtain rfl:=Zj.1 jA
     refine L_loadO (x:=.tmp 57) part_LoomOrder_4.1 Tryz.isAgg3 Tryz.sizeOf3 j1 fun jB kA l9=>?_
     obtain rfl:=Zj.1 kA
     refine E_drawL (g:=t9) (n:=18) [] [0,1,2,3,4,5,6,7,8,9,10,11,12,13,14,15,16,17] rfl mixed (by kernel_rfl) trivial ?_
     refine L_p (fPtr p7 0) rfl rfl (Zc at_67_0 o3 (OB.ptr j1)) ?_
     refine L_ld (c:=.int .i64 ((y4).Width)) rfl rfl .plain (fun _ _ h=>⟨h.ch,fun b hb _=>h.below.block b hb⟩) j7 rfl ?_
     refine L_p (fPtr p1 0) rfl rfl (Zc at_81_0 i7 (PT.ptr i5)) ?_
     refine L_p (fPtr (fPtr p1 0) 0) rfl rfl (Zc at_28_0 rfl (PT.ptr c7)) ?_
     refine L_ld (c:=l5) rfl rfl .plain (fun _ _ h=>h.ch) m7 rfl ?_
     refine L_p (.int .i64 (x2)) rfl rfl (Zk e7) ?_
     refine L_p (ePtr l5 x2 1) rfl rfl (Zh (α:=Int) Tryz.underlying26 Tryz.sizeOf3 rfl d7 rfl t5) ?_
     refine L_ld (c:=.int .i64 (z2)) rfl rfl .plain (fun _ _ h=>h.ch) n7 rfl ?_
     refine L_p (.bool ((decide ((y4).Width > z2)))) rfl rfl (P_int rfl rfl rfl) ?_
     refine L_p (.bool ((decide ((y4).Width > z2)))) rfl rfl (Zk rfl) ?_
     refine L_y (.int .i64 (o0)) rfl rfl rfl rfl u0 (Zk z3) ?_
     refine L_y (fPtr p7 2) rfl rfl rfl rfl u0 (Zc at_67_2 o3 (OB.ptr j1)) ?_
     refine L_ld (c:=.int .i64 ((y4).Woven)) rfl rfl (.yes2 rfl rfl u0) (fun _ _ h=>⟨h.ch,fun b hb _=>h.below.block b hb⟩) k9 rfl ?_
     refine L_y (.int .i64 ((w64 (o0 + (y4).Woven)))) rfl rfl rfl rfl u0 (P_int rfl rfl rfl) ?_
     refine L_y (fPtr p7 4) rfl rfl rfl rfl u0 (Zc at_67_4 o3 (OB.ptr j1)) ?_
     refine L_ld (c:=.int .i64 ((y4).Late)) rfl rfl (.yes2 rfl rfl u0) (fun _ _ h=>⟨h.ch,fun b hb _=>h.below.block b hb⟩) l9 rfl ?_
     refine L_y (.bool ((decide ((w64 (o0 + (y4).Woven)) > (y4).Late)))) rfl rfl rfl rfl u0 (P_int rfl rfl rfl) ?_
     refine L_p (.bool ((decide ((w64 (o0 + (y4).Woven)) > (y4).Late)))) rfl rfl (Zl (b:=(decide ((y4).Width > z2))) rfl (pick_f u0 rfl)) ?_
     refine L_nl fun lA kB hs=>?_
     have hfr:=hfr.ext hs
     clear hs
     refine Zb ?_
     obtain rfl:=sinj h
     exact hQ _ _ ⟨lA,hfr,z3,rfl⟩
   ·clear hx
    obtain ⟨mA,hfr,o7,z4⟩:=hR
    rcases Zt h with ⟨x5,h⟩ | ⟨x5,h⟩
    ·refine E_cond_true (Eq.trans (show ev _ _ = .bool (d3) from z4) (congrArg Value.bool x5)) ?_
     refine Zf (Za (Zg (.int .i64 (1048576)) rfl rfl ?_))
     refine Zb (Zd (E_ret (thn_r ?_)))
     obtain rfl:=sinj h
     exact end1 rfl rfl (show _=.int .i64 (1048576) from rfl) ⟨_,hfr,rfl⟩
    ·refine E_cond_false (Eq.trans (show ev _ _ = .bool (d3) from z4) (congrArg Value.bool x5)) ?_
     exact Zu (Zd (i9 () _ _ ⟨mA,hfr,o7⟩ h))
  ·rintro _ xA lB ⟨mB, hfr, u7⟩ h
   refine Zf (Za (Zo u7 rfl ?_))
   refine Zg (.int .i64 (o0)) rfl rfl ?_
   refine Zb (Zd (E_ret ?_))
   obtain rfl:=sinj h
   exact end1 rfl rfl (show _=.int .i64 (o0) from rfl) ⟨_,hfr,rfl⟩
def f99 (x0:List Bool) (x1:Bool):Option (Int):=
 jn (σ:=Unit) (fun _=>
  some ((-1:Int))
  ) fun x5=>
 lp (σ:=Int) (fun i6 o0=>
  bif (decide (o0 < ((x0).length : Int))) then
   jn (σ:=Unit) (fun _=>
    i6 ((w64 (o0 + (1:Int))))
    ) fun j6=>
   (idx x0 o0).bind fun y23=>
   bif (x1 == y23) then
    some (o0)
   else
    j6 ()
  else
   x5 ()
  ) big ((0:Int))
theorem en99:Enters Tryz.prog 99:=enters_of Tryz.func99 (by kernel_rfl) rfl
theorem wk99 {gI:Gh} {wI:World} {x0:List Bool} {x1:Bool} {up0:Value} (rp0:RV gI.m wI x0 up0) {r:Int} (h:f99 x0 x1=some r):Fn Tryz.prog 99 #[up0,.bool (x1)] gI wI (fun _ _ v=>v=.int .i64 (r)):=by
 unfold f99 at h
 refine fn_of_E Tryz.func99 rfl (Nat.le_of_ble_eq_true rfl) fun g0 hm hfr=>?_
 have rp0:RV g0.m wI x0 up0:=hm ▸ rp0
 show E _ 19 none _ _ _ _ _
 refine Zf (Za (Zg (.int .i64 (0)) rfl rfl ?_))
 refine Zb (Zd (Zq h (fun (s:Unit) e w=>∃ (g:Gh) ,Fr gI wI g w) (fun X14 x5 v6 h=>?_) ?_))
 ·refine Zf (Za (Zn up0 rfl rfl ?_))
  refine EL_p (.int .i64 ((x0).length:Int)) (P_len Tryz.underlying86 rfl rp0) rfl ?_
  refine Zn (.int .i64 (0)) rfl rfl ?_
  refine Zb (Zd (Zr ?_))
  refine E_lp h (fun (s:Int) e w=>∃ (g:Gh) ,Fr gI wI g w∧e 0=up0∧RV g.m w (x0:List Bool) up0∧e 1=.bool (x1)∧e 7=.int .i64 (((x0).length:Int))∧e 8=.int .i64 (s)) ⟨g0,hfr,rfl,rp0,rfl,rfl,rfl⟩ (fun X15 i6 x6=>?_)
  rintro o0 d7 i7 ⟨u3,hfr,i3,u0,j3,o3,j1⟩ h
  refine Zf (Za (EL_in (.bool ((decide (o0 < ((x0).length:Int))))) j1 o3 rfl rfl ?_))
  refine Zb (Zd (Zf ?_))
  rcases Zt h with ⟨z2,h⟩ | ⟨z2,h⟩
  ·refine E_ct z2 rfl ?_
   refine Zu (Zd (Zq h (fun (s:Unit) e w=>∃ (g:Gh) ,Fr gI wI g w∧e 0=up0∧RV g.m w (x0:List Bool) up0∧e 1=.bool (x1)∧e 7=.int .i64 (((x0).length:Int))∧e 8=.int .i64 (o0)) (fun X22 j6 y6 h=>?_) ?_))
   ·refine Zr ?_
    refine Zf (Za (Zo j1 rfl ?_))
    refine Zg (.int .i64 (o0)) rfl rfl ?_
    refine Zb (Zd (Zf (Za (Zo j3 rfl ?_))))
    refine Zo i3 rfl ?_
    refine Zn (.int .i64 (o0)) rfl rfl ?_
    obtain ⟨y23,z3,h⟩:=bsome h
    refine EL_p (ePtr up0 o0 1) (Zh (α:=Bool) Tryz.underlying86 Tryz.sizeOf4 rfl u0 rfl z3) rfl ?_
    have a7:=PT_idx u0 z3
    refine Ze .plain rfl (D_load (g:=u3) Tryz.isAgg4 Tryz.sizeOf4 rfl a7 fun j7 b7=>?_)
    obtain rfl:=RV_bool.1 b7
    refine EL_p (.bool ((x1 == y23))) (P_bool Tryz.underlying4 rfl rfl rfl) rfl ?_
    refine Zb (Zd ?_)
    rcases Zt h with ⟨d3,h⟩ | ⟨d3,h⟩
    ·refine E_ct d3 rfl ?_
     refine Zf (Za (Zn (.int .i64 (o0)) rfl rfl ?_))
     refine Zg (.int .i64 (o0)) rfl rfl ?_
     refine Zb (Zd (E_ret (blk_r ?_)))
     refine thn_r ?_
     refine thn_r ?_
     refine blk_r ?_
     refine thn_r ?_
     obtain rfl:=sinj h
     exact end1 rfl rfl (show _=.int .i64 (o0) from rfl) ⟨_,hfr,rfl⟩
    ·refine E_cf d3 rfl ?_
     exact Zu (blk_n (Zd (y6 () _ _ ⟨u3,hfr,i3,u0,j3,o3,j1⟩ h)))
   ·rintro _ e7 m7 ⟨c7, hfr, z4, i5, l5, q5, t5⟩ h
    refine Za (EL_in (.int .i64 ((w64 (o0 + (1:Int))))) t5 rfl rfl rfl ?_)
    refine Zn (.int .i64 ((w64 (o0 + (1:Int))))) rfl rfl ?_
    exact Zb (Zd (x6 ((w64 (o0 + (1:Int)))) _ _ ⟨c7,hfr,z4,i5,l5,q5,rfl⟩ h))
  ·refine E_cf z2 rfl ?_
   refine E_exit ?_
   refine thn_e ?_
   refine thn_e ?_
   refine blk_hit ?_
   exact Zd (v6 () _ _ ⟨u3,hfr⟩ h)
 ·rintro _ g7 n7 ⟨o7, hfr⟩ h
  refine Zf (Za (Zg (.int .i64 (-1)) rfl rfl ?_))
  refine Zb (Zd (E_ret ?_))
  obtain rfl:=sinj h
  exact end1 rfl rfl (show _=.int .i64 (-1) from rfl) ⟨_,hfr,rfl⟩
def f100 (x0:List Int) (x1:Int) (x2:Int) (x3:Int→Int→Option Int):Option ((List Int)):=
 lp (σ:=(List Int) × Int) (fun k1 (v6,d3)=>
  jn (σ:=Unit) (fun _=>
   Option.bind (α:=(List Int)) (
    lp (σ:=(List Int) × Int) (fun i8 (j1,o0)=>
     jn (σ:=Unit) (fun _=>
      Option.bind (α:=(List Int)) (
       (idx j1 (w64 (o0 - (1:Int)))).bind fun x5=>
       (idx j1 o0).bind fun x6=>
       (idx j1 o0).bind fun sA=>
       (idx ((List.set j1 (Int.toNat o0) x5)) (w64 (o0 - (1:Int)))).bind fun uA=>
       some ((List.set ((List.set j1 (Int.toNat o0) x5)) (Int.toNat (w64 (o0 - (1:Int)))) x6))
       ) fun z4=>
      i8 (z4,(w64 (o0 - (1:Int))))
      ) fun k8=>
     Option.bind (α:=Bool) (
      bif (decide (o0 > x1)) then
       (idx j1 o0).bind fun y6=>
       (idx j1 (w64 (o0 - (1:Int)))).bind fun a7=>
       (x3 y6 a7).bind fun t5=>
       some ((decide (t5 < (0:Int))))
      else
       some (false)
      ) fun j3=>
     bif j3 then
      k8 ()
     else
      some (j1)
     ) big (v6,d3)
    ) fun i5=>
   k1 (i5,(w64 (d3 + (1:Int))))
   ) fun k4=>
  bif (decide (d3 < x2)) then
   k4 ()
  else
   some (v6)
  ) big (x0,(w64 (x1 + (1:Int))))
theorem en100:Enters Tryz.prog 100:=enters_of Tryz.func100 (by kernel_rfl) rfl
theorem wk100 {iI:Nat} {gI:Gh} {wI:World} {x0:List Int} {x1:Int} {x2:Int} {x3:Int→Int→Option Int} {up0:Value} (mp0:OM iI gI wI 3 x0 up0) {up3:Value} (rp3:FnV2 Tryz.prog x3 up3 gI wI) {r:(List Int)} (h:f100 x0 x1 x2 x3=some r):FnM Tryz.prog 100 #[up0,.int .i64 (x1),.int .i64 (x2),up3] iI gI wI (fun g w v=>v=.tuple #[]∧OM iI g w 3 r up0):=by
 unfold f100 at h
 refine fnM_of_E Tryz.func100 rfl (Nat.le_of_ble_eq_true rfl) fun g0 hm hfr=>?_
 have kA:=mp0
 replace mp0:=mp0.enter
 rw [← hm] at mp0
 replace hm:g0.m=gI.m:=by rw [hm]
 obtain ⟨ff3,fa3,fc3,rfl,fen3,fcl3⟩:=rp3
 show E _ 53 none _ _ _ _ _
 refine Zf (Za (Zn (.int .i64 (x1)) rfl rfl ?_))
 refine EL_in (.int .i64 ((w64 (x1 + (1:Int))))) rfl rfl rfl rfl ?_
 refine Zg (.int .i64 ((w64 (x1 + (1:Int))))) rfl rfl ?_
 refine Zb (Zd (Zr ?_))
 refine E_lp h (fun (s:(List Int) × Int) e w=>∃ (g:Gh) ,FrM iI gI wI g w∧e 0=up0∧OM 1 g w 3 (s.1:List Int) up0∧e 1=.int .i64 (x1)∧e 2=.int .i64 (x2)∧e 3=(.func (.func ff3) fa3 fc3)∧e 8=.int .i64 (s.2)) ⟨g0,hfr,rfl,mp0,rfl,rfl,rfl,rfl⟩ (fun X1 k1 hk1=>?_)
 rintro ⟨v6,d3⟩ cD w2 ⟨g2,hfr,xA,l8,yA,m8,zA,n8⟩ h
 refine Zq h (fun (s:Unit) e w=>∃ (g:Gh) ,FrM iI gI wI g w∧e 0=up0∧OM 1 g w 3 (v6:List Int) up0∧e 1=.int .i64 (x1)∧e 2=.int .i64 (x2)∧e 3=(.func (.func ff3) fa3 fc3)∧e 8=.int .i64 (d3)) (fun X4 k4 hk4 h=>?_) ?_
 ·refine Zf (Za (Zo n8 rfl ?_))
  refine Zo m8 rfl ?_
  refine EL_in (.bool ((decide (d3 < x2)))) rfl rfl rfl rfl ?_
  refine Zb (Zd ?_)
  rcases Zt h with ⟨hc5,h⟩ | ⟨hc5,h⟩
  ·refine E_ct hc5 rfl ?_
   exact Zu (Zd (hk4 () _ _ ⟨g2,hfr,xA,l8,yA,m8,zA,n8⟩ h))
  ·refine E_cf hc5 rfl ?_
   refine E_exit ?_
   refine thn_e ?_
   refine thn_e ?_
   refine blk_hit ?_
   obtain rfl:=sinj h
   exact end0n rfl rfl ⟨_,hfr,rfl,kA.back l8⟩
 ·rintro _ eD w6 ⟨g6, hfr, aB, bB, cB, dB, eB, o8⟩ h
  obtain ⟨i5,hx,h⟩:=bsome h
  refine E_join (fun e w=>∃ (g:Gh) ,FrM iI gI wI g w∧e 0=up0∧OM 1 g w 3 (i5:List Int) up0∧e 1=.int .i64 (x1)∧e 2=.int .i64 (x2)∧e 3=(.func (.func ff3) fa3 fc3)∧e 8=.int .i64 (d3)) (fun Q' hQ=>?_) (fun aC jC hR=>?_)
  ·replace h := hx
   clear hx
   refine Zr ?_
   refine Zf (Za (Zo o8 rfl ?_))
   refine Zg (.int .i64 (d3)) rfl rfl ?_
   refine Zb (Zd (Zr ?_))
   refine E_lp h (fun (s:(List Int) × Int) e w=>∃ (g:Gh) ,FrM iI gI wI g w∧e 0=up0∧OM 1 g w 3 (s.1:List Int) up0∧e 1=.int .i64 (x1)∧e 2=.int .i64 (x2)∧e 3=(.func (.func ff3) fa3 fc3)∧e 8=.int .i64 (d3)∧e 9=.int .i64 (s.2)) ⟨g6,hfr,aB,bB,cB,dB,eB,o8,rfl⟩ (fun X297 i8 lA=>?_)
   rintro ⟨j1,o0⟩ cC kC ⟨q8,hfr,l5,z2,q5,c7,i6,d7,o3⟩ h
   refine Zq h (fun (s:Unit) e w=>∃ (g:Gh) ,FrM iI gI wI g w∧e 0=up0∧OM 1 g w 3 (j1:List Int) up0∧e 1=.int .i64 (x1)∧e 2=.int .i64 (x2)∧e 3=(.func (.func ff3) fa3 fc3)∧e 8=.int .i64 (d3)∧e 9=.int .i64 (o0)) (fun X411 k8 mA h=>?_) ?_
   ·obtain ⟨j3, hx, h⟩ := bsome h
    refine E_join (fun e w=>∃ (g:Gh) ,FrM iI gI wI g w∧e 0=up0∧OM 1 g w 3 (j1:List Int) up0∧e 1=.int .i64 (x1)∧e 2=.int .i64 (x2)∧e 3=(.func (.func ff3) fa3 fc3)∧e 8=.int .i64 (d3)∧e 9=.int .i64 (o0)∧e 34=.bool (j3)) (fun Q' hQ=>?_) (fun dC lC hR=>?_)
    ·replace h := hx
     clear hx
     rcases Zt h with ⟨u0,h⟩ | ⟨u0,h⟩
     ·obtain ⟨y6, o7, h⟩ := bsome h
      refine L_loadM (x:=.tmp 25) Tryz.isAgg3 Tryz.sizeOf3 z2 o7 fun mC iB nA=>?_
      obtain rfl:=Zj.1 iB
      obtain ⟨a7,u7,h⟩:=bsome h
      refine L_loadM (x:=.tmp 30) Tryz.isAgg3 Tryz.sizeOf3 z2 u7 fun qC jB oA=>?_
      obtain rfl:=Zj.1 jB
      obtain ⟨t5,pA,h⟩:=bsome h
      refine E_drawL (g:=q8) (n:=17) [(14,(fun v g w=>v=.int .i64 (t5)))] [0,1,2,3,4,5,6,7,8,9,10,11,12,13,14,15,16] rfl mixed (by kernel_rfl) (⟨fun _=>up_eq _,trivial⟩) ?_
      refine L_p (.int .i64 (o0)) rfl rfl (Zk o3) ?_
      refine L_p (.int .i64 (x1)) rfl rfl (Zk q5) ?_
      refine L_p (.bool ((decide (o0 > x1)))) rfl rfl (P_int rfl rfl rfl) ?_
      refine L_p (.bool ((decide (o0 > x1)))) rfl rfl (Zk rfl) ?_
      refine L_y ((.func (.func ff3) fa3 fc3)) rfl rfl rfl rfl u0 (Zk i6) ?_
      refine L_y up0 rfl rfl rfl rfl u0 (Zk l5) ?_
      refine L_y (.int .i64 (o0)) rfl rfl rfl rfl u0 (Zk o3) ?_
      refine L_y (ePtr up0 o0 1) rfl rfl rfl rfl u0 (P_indexAddrM (α:=Int) Tryz.underlying26 Tryz.sizeOf3 rfl z2 rfl o7) ?_
      refine L_ld (c:=.int .i64 (y6)) rfl rfl (.yes2 rfl rfl u0) (fun _ _ h=>⟨h.ch,fun b hb _=>h.below.block b hb⟩) nA rfl ?_
      refine L_y up0 rfl rfl rfl rfl u0 (Zk l5) ?_
      refine L_y (.int .i64 (o0)) rfl rfl rfl rfl u0 (Zk o3) ?_
      refine L_y (.int .i64 ((w64 (o0 - (1:Int))))) rfl rfl rfl rfl u0 (P_int rfl rfl rfl) ?_
      refine L_y (ePtr up0 (w64 (o0 - (1:Int))) 1) rfl rfl rfl rfl u0 (P_indexAddrM (α:=Int) Tryz.underlying26 Tryz.sizeOf3 rfl z2 rfl u7) ?_
      refine L_ld (c:=.int .i64 (a7)) rfl rfl (.yes2 rfl rfl u0) (fun _ _ h=>⟨h.ch,fun b hb _=>h.below.block b hb⟩) oA rfl ?_
      refine L_do (φ:=fun v g w=>v=.int .i64 (t5)) rfl rfl (.yes2 rfl rfl u0) (fun g w hd=>D_callv (g:=g) (vs:=[.int .i64 (y6),.int .i64 (a7)]) rfl fen3 (.cons rfl (.cons rfl .nil)) (fcl3 _ _ (hfr.ext hd.1).ch _ _ _ _ _  (Zj.2 rfl) (Zj.2 rfl) pA) fun g' w' v hs hr=>⟨g',hs,Zj.1 hr⟩) (fun rC hv=>?_)
      obtain ⟨_,_,_,rfl⟩:=hv
      refine L_y (.bool ((decide (t5 < (0:Int))))) rfl rfl rfl rfl u0 (P_int rfl rfl rfl) ?_
      refine L_p (.bool ((decide (t5 < (0:Int))))) rfl rfl (Zl (b:=(decide (o0 > x1))) rfl (pick_t u0 rfl)) ?_
      refine L_nl fun kB tC hs=>?_
      have hfr:=hfr.ext hs
      have z2:=z2.ext hs
      clear hs
      refine Zb ?_
      obtain rfl:=sinj h
      exact hQ _ _ ⟨kB,hfr,l5,z2,q5,c7,i6,d7,o3,rfl⟩
     ·refine E_drawL (g := q8) (n := 17) [] [0, 1, 2, 3, 4, 5, 6, 7, 8, 9, 10, 11, 12, 13, 14, 15, 16] rfl mixed (by kernel_rfl) trivial ?_
      refine L_p (.int .i64 (o0)) rfl rfl (Zk o3) ?_
      refine L_p (.int .i64 (x1)) rfl rfl (Zk q5) ?_
      refine L_p (.bool ((decide (o0 > x1)))) rfl rfl (P_int rfl rfl rfl) ?_
      refine L_p (.bool ((decide (o0 > x1)))) rfl rfl (Zk rfl) ?_
      iterate 12 refine L_s rfl rfl rfl u0 rfl ?_
      refine L_p (.bool false) rfl rfl (Zl (b:=(decide (o0 > x1))) rfl (pick_f u0 rfl)) ?_
      refine L_nl fun lB uC hs=>?_
      have hfr:=hfr.ext hs
      have z2:=z2.ext hs
      clear hs
      refine Zb ?_
      obtain rfl:=sinj h
      exact hQ _ _ ⟨lB,hfr,l5,z2,q5,c7,i6,d7,o3,rfl⟩
    ·clear hx
     obtain ⟨r8,hfr,e7,g7,i7,j7,m7,n7,t8,j6⟩:=hR
     rcases Zt h with ⟨b7,h⟩ | ⟨b7,h⟩
     ·refine E_cond_true (Eq.trans (show ev _ _ = .bool (j3) from j6) (congrArg Value.bool b7)) ?_
      exact Zu (Zd (mA () _ _ ⟨r8,hfr,e7,g7,i7,j7,m7,n7,t8⟩ h))
     ·refine E_cond_false (Eq.trans (show ev _ _ = .bool (j3) from j6) (congrArg Value.bool b7)) ?_
      refine E_exit ?_
      refine thn_e ?_
      refine thn_e ?_
      refine blk_hit ?_
      refine blk_n ?_
      obtain rfl:=sinj h
      exact hQ _ _ ⟨r8,hfr,e7,g7,i7,j7,m7,n7⟩
   ·rintro _ eC mB ⟨v8, hfr, u3, i3, x8, y8, a9, d9, z3⟩ h
    obtain ⟨z4,hx,h⟩:=bsome h
    refine E_join (fun e w=>∃ (g:Gh) ,FrM iI gI wI g w∧e 0=up0∧OM 1 g w 3 (z4:List Int) up0∧e 1=.int .i64 (x1)∧e 2=.int .i64 (x2)∧e 3=(.func (.func ff3) fa3 fc3)∧e 8=.int .i64 (d3)∧e 9=.int .i64 (o0)) (fun Q' hQ=>?_) (fun iC vC hR=>?_)
    ·replace h := hx
     clear hx
     refine Zr ?_
     obtain ⟨x5,v7,h⟩:=bsome h
     refine L_loadM (x:=.tmp 45) Tryz.isAgg3 Tryz.sizeOf3 i3 v7 fun xC nB qA=>?_
     obtain rfl:=Zj.1 nB
     obtain ⟨x6,c8,h⟩:=bsome h
     refine L_loadM (x:=.tmp 49) Tryz.isAgg3 Tryz.sizeOf3 i3 c8 fun yC oB rA=>?_
     obtain rfl:=Zj.1 oB
     obtain ⟨sA,e8,h⟩:=bsome h
     refine E_drawTL (g:=v8) (n:=15) [2,3,4] [] [0,1,2,3,4,5,6,7,8,9,10,11,12,13,14] rfl mixed (by kernel_rfl) trivial rfl ?_
     refine L_p up0 rfl rfl (Zk u3) ?_
     refine L_p (.int .i64 (o0)) rfl rfl (Zk z3) ?_
     refine L_purL (c:=up0) rfl rfl .plain (Zk u3) ?_
     refine L_purL (c:=.int .i64 (o0)) rfl rfl .plain (Zk z3) ?_
     refine L_purL (c:=.int .i64 ((w64 (o0 - (1:Int))))) rfl rfl .plain (P_int rfl rfl rfl) ?_
     refine L_p up0 rfl rfl (Zk u3) ?_
     refine L_p (.int .i64 (o0)) rfl rfl (Zk z3) ?_
     refine L_p (.int .i64 ((w64 (o0 - (1:Int))))) rfl rfl (P_int rfl rfl rfl) ?_
     refine L_p (ePtr up0 (w64 (o0 - (1:Int))) 1) rfl rfl (P_indexAddrM (α:=Int) Tryz.underlying26 Tryz.sizeOf3 rfl i3 rfl v7) ?_
     refine L_ld (c:=.int .i64 (x5)) rfl rfl .plain (fun _ _ h=>⟨h.ch,fun b hb _=>h.below.block b hb⟩) qA rfl ?_
     refine L_p up0 rfl rfl (Zk u3) ?_
     refine L_p (.int .i64 (o0)) rfl rfl (Zk z3) ?_
     refine L_p (ePtr up0 o0 1) rfl rfl (P_indexAddrM (α:=Int) Tryz.underlying26 Tryz.sizeOf3 rfl i3 rfl c8) ?_
     refine L_ld (c:=.int .i64 (x6)) rfl rfl .plain (fun _ _ h=>⟨h.ch,fun b hb _=>h.below.block b hb⟩) rA rfl ?_
     refine L_p (ePtr up0 o0 1) rfl rfl (P_indexAddrM (α:=Int) Tryz.underlying26 Tryz.sizeOf3 rfl i3 rfl e8) ?_
     refine L_nl fun e9 tB hs=>?_
     have hlt:Lt v8.m mB e9 tB:=hs.ch
     have hfr:=hfr.ext hs
     have i3:=i3.ext hs
     clear hs
     refine TL_do hlt.w .plain rfl (D_storeM (g:=e9) (α:=Int) (a':=x5) Tryz.sizeOf3 rfl i3 e8 rfl (Zj.2 rfl) fun vB aD hs b582=>?_)
     have hfr:=hfr.stp hs
     have hlt:=hlt.stp hs
     obtain ⟨uA,g8,h⟩:=bsome h
     refine TL_pur hlt.w (v:=ePtr up0 (w64 (o0 - (1:Int))) 1) (P_indexAddrM (α:=Int) Tryz.underlying26 Tryz.sizeOf3 rfl b582 rfl g8) .plain rfl ?_
     refine TL_do hlt.w .plain rfl (D_storeM (g:=vB) (α:=Int) (a':=x6) Tryz.sizeOf3 rfl b582 g8 rfl (Zj.2 rfl) fun xB bD hs b584=>?_)
     have hfr:=hfr.stp hs
     have hlt:=hlt.stp hs
     refine TL_nil hlt.w ?_
     clear hlt
     refine blk_n ?_
     obtain rfl:=sinj h
     exact hQ _ _ ⟨xB,hfr,u3,b584,x8,y8,a9,d9,z3⟩
    ·clear hx
     obtain ⟨yB,hfr,i9,k9,l9,n9,o9,t9,u9⟩:=hR
     refine Za (Zo u9 rfl ?_)
     refine EL_in (.int .i64 ((w64 (o0 - (1:Int))))) rfl rfl rfl rfl ?_
     refine Zg (.int .i64 ((w64 (o0 - (1:Int))))) rfl rfl ?_
     exact Zb (Zd (lA (z4,(w64 (o0 - (1:Int)))) _ _ ⟨yB,hfr,i9,k9,l9,n9,o9,t9,rfl⟩ h))
  ·clear hx
   obtain ⟨zB,hfr,y9,z9,bA,gA,iA,jA⟩:=hR
   refine Za (Zo jA rfl ?_)
   refine EL_in (.int .i64 ((w64 (d3 + (1:Int))))) rfl rfl rfl rfl ?_
   refine Zg (.int .i64 ((w64 (d3 + (1:Int))))) rfl rfl ?_
   exact Zb (Zd (hk1 (i5,(w64 (d3 + (1:Int)))) _ _ ⟨zB,hfr,y9,z9,bA,gA,iA,rfl⟩ h))
end Go.Proofs.YtomjodbnpgbjnaaGreat
