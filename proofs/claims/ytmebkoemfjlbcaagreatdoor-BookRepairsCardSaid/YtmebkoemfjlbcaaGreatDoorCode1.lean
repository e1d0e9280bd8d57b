import Derived.Test.YtmebkoemfjlbcaaGreatDoorTypes
import Derived.Test.YtmebkoemfjlbcaaGreatDoorIt
import Derived.Test.YtmebkoemfjlbcaaGreatDoorShelf
import Derived.Test.YtmebkoemfjlbcaaGreatDoorWb
import Derived.Test.YtmebkoemfjlbcaaGreatDoorSf
import Derived.Test.YtmebkoemfjlbcaaGreatDoorSg
import Derived.Test.YtmebkoemfjlbcaaGreatDoorVs
import Derived.Test.YtmebkoemfjlbcaaGreatDoorCx
import Derived.Test.YtmebkoemfjlbcaaGreatDoorYes
set_option maxRecDepth 8000
set_option maxHeartbeats 4000000
namespace Go.Proofs.YtmebkoemfjlbcaaGreatDoor
open Go.RowKit
theorem info_9:(Tryz.prog.info? 9).map (fun i=>(i.zero,i.size,i.bytes))=some (some (Str.v ⟨[]⟩),1,16):=by kernel_rfl
theorem info_5:(Tryz.prog.info? 5).map (fun i=>(i.zero,i.size,i.bytes))=some (some (.int .u8 0),1,1):=by kernel_rfl
theorem plain_BookCloth:Plain BookCloth:=fun _ m' _ w' x _ h=>(plain_two plain_int (plain_two plain_int (plain_two plain_int (plain_two plain_int plain_int)))) _ m' _ w' _ _ h
theorem lay_24:layoutOf Tryz.prog 24=some ([Iz 0,.slice none 0 0],[(0,1),(1,1)]):=by kernel_rfl
theorem info_3:(Tryz.prog.info? 3).map (fun i=>(i.zero,i.size,i.bytes))=some (some (.int .i64 0),1,8):=by kernel_rfl
theorem endm_c {P:Program} {e:Env} {ds:List Deferred} {w:World} {fn:Func} {R:Value→World→Prop} {t0:Tmp} {v0:Value} {y0:TypeId} {a0:Addr} (hres:fn.results=#[.cell t0 y0]) (hd:ds=[]) (h0:e t0=.pointer (some a0)) (l0:(loadVar y0 a0).run P w=.ok v0 w) (h:R v0 w):atEnd P fn R .ret e ds w:=
 ⟨hd,fun tmps ht=>⟨_,by simp [results,hres,ht,asAddr,h0,l0],h⟩⟩
theorem lay_39:layoutOf Tryz.prog 39=some ([.slice none 0 0,.slice none 0 0],[(0,1),(1,1)]):=by kernel_rfl
theorem lay_106:layoutOf Tryz.prog 106=some ([Iz 0,.slice none 0 0],[(0,1),(1,1)]):=by kernel_rfl
theorem lay_108:layoutOf Tryz.prog 108=some ([Str.v ⟨[]⟩,Iz 0,.slice none 0 0],[(0,1),(1,2)]):=by kernel_rfl
theorem mixed:Tryz.prog.follows .mixedOrders=true:=by kernel_rfl
theorem lay_92:layoutOf Tryz.prog 92=some ([Iz 0,.slice none 0 0],[(0,1),(1,1)]):=by kernel_rfl
theorem lay_94:layoutOf Tryz.prog 94=some ([Str.v ⟨[]⟩,Iz 0,.slice none 0 0],[(0,1),(1,2)]):=by kernel_rfl
theorem info_63:(Tryz.prog.info? 63).map (fun i=>(i.zero,i.size,i.bytes))=some (some (.agg #[.int .i64 0,.int .i64 0,.int .i64 0,.int .i64 0,.int .i64 0]),5,40):=by kernel_rfl
theorem endm_ccc {P:Program} {e:Env} {ds:List Deferred} {w:World} {fn:Func} {R:Value→World→Prop} {t0:Tmp} {v0:Value} {y0:TypeId} {a0:Addr} {t1:Tmp} {v1:Value} {y1:TypeId} {a1:Addr} {t2:Tmp} {v2:Value} {y2:TypeId} {a2:Addr} (hres:fn.results=#[.cell t0 y0,.cell t1 y1,.cell t2 y2]) (hd:ds=[]) (h0:e t0=.pointer (some a0)) (l0:(loadVar y0 a0).run P w=.ok v0 w) (h1:e t1=.pointer (some a1)) (l1:(loadVar y1 a1).run P w=.ok v1 w) (h2:e t2=.pointer (some a2)) (l2:(loadVar y2 a2).run P w=.ok v2 w) (h:R (.tuple #[v0,v1,v2]) w):atEnd P fn R .ret e ds w:=
 ⟨hd,fun tmps ht=>⟨_,by simp [results,hres,ht,asAddr,h0,l0,h1,l1,h2,l2],h⟩⟩
theorem fl_63 : Tryz.prog.fieldsOf 63 = #[{ name := "Day", type := 3, offset := 0, embedded := false, tag := "", pkgPath := "", byteOffset := 0 }, { name := "Loom", type := 3, offset := 1, embedded := false, tag := "", pkgPath := "", byteOffset := 8 }, { name := "Chain", type := 3, offset := 2, embedded := false, tag := "", pkgPath := "", byteOffset := 16 }, { name := "Tie", type := 3, offset := 3, embedded := false, tag := "", pkgPath := "", byteOffset := 24 }, { name := "Picks", type := 3, offset := 4, embedded := false, tag := "", pkgPath := "", byteOffset := 32 }] := by kernel_rfl
theorem seq_63:SEq (α:=BookCloth) Tryz.prog 63:=by
 intro d x y w a b m wx m2 wy hx hy;obtain ⟨_,⟨_,_,rfl,rfl,⟨_,_,rfl,rfl,⟨_,_,rfl,rfl,⟨_,_,rfl,rfl,rfl⟩⟩⟩⟩,rfl⟩:=hx;obtain ⟨_,⟨_,_,rfl,rfl,⟨_,_,rfl,rfl,⟨_,_,rfl,rfl,⟨_,_,rfl,rfl,rfl⟩⟩⟩⟩,rfl⟩:=hy;refine (run_equalIn_struct w (d + 1) 63 _ _ (by kernel_rfl) (by kernel_rfl)).trans ?_;rw [fl_63];obtain ⟨x0,x1,x2,x3,x4⟩:=x;obtain ⟨y0,y1,y2,y3,y4⟩:=y;show (Op.eqFields (d + 1) #[Iz (x0),Iz (x1),Iz (x2),Iz (x3),Iz (x4)] #[Iz (y0),Iz (y1),Iz (y2),Iz (y3),Iz (y4)] _).run _ _=_;have x0p:(part 3 #[Iz (x0),Iz (x1),Iz (x2),Iz (x3),Iz (x4)] 0).run Tryz.prog w=.ok (Iz (x0)) w:=part_one Tryz.isAgg3 rfl;have x1p:(part 3 #[Iz (x0),Iz (x1),Iz (x2),Iz (x3),Iz (x4)] 1).run Tryz.prog w=.ok (Iz (x1)) w:=part_one Tryz.isAgg3 rfl;have x2p:(part 3 #[Iz (x0),Iz (x1),Iz (x2),Iz (x3),Iz (x4)] 2).run Tryz.prog w=.ok (Iz (x2)) w:=part_one Tryz.isAgg3 rfl;have x3p:(part 3 #[Iz (x0),Iz (x1),Iz (x2),Iz (x3),Iz (x4)] 3).run Tryz.prog w=.ok (Iz (x3)) w:=part_one Tryz.isAgg3 rfl;have x4p:(part 3 #[Iz (x0),Iz (x1),Iz (x2),Iz (x3),Iz (x4)] 4).run Tryz.prog w=.ok (Iz (x4)) w:=part_one Tryz.isAgg3 rfl;have y0p:(part 3 #[Iz (y0),Iz (y1),Iz (y2),Iz (y3),Iz (y4)] 0).run Tryz.prog w=.ok (Iz (y0)) w:=part_one Tryz.isAgg3 rfl;have y1p:(part 3 #[Iz (y0),Iz (y1),Iz (y2),Iz (y3),Iz (y4)] 1).run Tryz.prog w=.ok (Iz (y1)) w:=part_one Tryz.isAgg3 rfl;have y2p:(part 3 #[Iz (y0),Iz (y1),Iz (y2),Iz (y3),Iz (y4)] 2).run Tryz.prog w=.ok (Iz (y2)) w:=part_one Tryz.isAgg3 rfl;have y3p:(part 3 #[Iz (y0),Iz (y1),Iz (y2),Iz (y3),Iz (y4)] 3).run Tryz.prog w=.ok (Iz (y3)) w:=part_one Tryz.isAgg3 rfl;have y4p:(part 3 #[Iz (y0),Iz (y1),Iz (y2),Iz (y3),Iz (y4)] 4).run Tryz.prog w=.ok (Iz (y4)) w:=part_one Tryz.isAgg3 rfl;simp only [Op.eqFields,Sem.run_bind,Sem.run_ite,Sem.run_pure,x0p,x1p,x2p,x3p,x4p,y0p,y1p,y2p,y3p,y4p,Result.andThen_ok,run_equalIn_int _ _ _ _ _ _ _ Tryz.underlying3];simp;grind
theorem eg_63:Tryz.prog.eqGuardType Tryz.prog.depth 63=false:=by kernel_rfl
theorem lay_63:layoutOf Tryz.prog 63=some ([Iz 0,Iz 0,Iz 0,Iz 0,Iz 0],[(0,1),(1,1),(2,1),(3,1),(4,1)]):=by kernel_rfl
theorem lay_96:layoutOf Tryz.prog 96=some ([Iz 0,Iz 0,.bool false],[(0,1),(1,1),(2,1)]):=by kernel_rfl
theorem layA_155:((Tryz.prog.info? 155).bind (·.zero)).map (·.cells.toList)=some [.int .u8 0,.int .u8 0,.int .u8 0,.int .u8 0,.int .u8 0,.int .u8 0,.int .u8 0,.int .u8 0]:=by kernel_rfl
theorem szA_5:(Tryz.prog.info? 5).map (·.size)=some 1:=by kernel_rfl
theorem capf_0_1 {e:Env} {f:FuncId} {o0:Operand} {b0:Value} (hb0:ev e o0=b0):(Value.func (.func f) ((#[]:Array Operand).map (ev e)) ((#[o0]:Array Operand).map (ev e)))=.func (.func f) #[] #[b0]:=by simp [hb0]
theorem capf_0_2 {e:Env} {f:FuncId} {o0:Operand} {l5:Operand} {b0:Value} {b1:Value} (hb0:ev e o0=b0) (hb1:ev e l5=b1):(Value.func (.func f) ((#[]:Array Operand).map (ev e)) ((#[o0,l5]:Array Operand).map (ev e)))=.func (.func f) #[] #[b0,b1]:=by simp [hb0,hb1]
theorem fl_96 : Tryz.prog.fieldsOf 96 = #[{ name := "Number", type := 3, offset := 0, embedded := false, tag := "", pkgPath := "", byteOffset := 0 }, { name := "Row", type := 3, offset := 1, embedded := false, tag := "", pkgPath := "", byteOffset := 8 }, { name := "Turned", type := 4, offset := 2, embedded := false, tag := "", pkgPath := "", byteOffset := 16 }] := by kernel_rfl
theorem seq_96:SEq (α:=ChainCard) Tryz.prog 96:=by
 intro d x y w a b m wx m2 wy hx hy;obtain ⟨_,⟨_,_,rfl,rfl,⟨_,_,rfl,rfl,rfl⟩⟩,rfl⟩:=hx;obtain ⟨_,⟨_,_,rfl,rfl,⟨_,_,rfl,rfl,rfl⟩⟩,rfl⟩:=hy;refine (run_equalIn_struct w (d + 1) 96 _ _ (by kernel_rfl) (by kernel_rfl)).trans ?_;rw [fl_96];obtain ⟨x0,x1,x2⟩:=x;obtain ⟨y0,y1,y2⟩:=y;show (Op.eqFields (d + 1) #[Iz (x0),Iz (x1),.bool (x2)] #[Iz (y0),Iz (y1),.bool (y2)] _).run _ _=_;have x0p:(part 3 #[Iz (x0),Iz (x1),.bool (x2)] 0).run Tryz.prog w=.ok (Iz (x0)) w:=part_one Tryz.isAgg3 rfl;have x1p:(part 3 #[Iz (x0),Iz (x1),.bool (x2)] 1).run Tryz.prog w=.ok (Iz (x1)) w:=part_one Tryz.isAgg3 rfl;have x2p:(part 4 #[Iz (x0),Iz (x1),.bool (x2)] 2).run Tryz.prog w=.ok (.bool (x2)) w:=part_one Tryz.isAgg4 rfl;have y0p:(part 3 #[Iz (y0),Iz (y1),.bool (y2)] 0).run Tryz.prog w=.ok (Iz (y0)) w:=part_one Tryz.isAgg3 rfl;have y1p:(part 3 #[Iz (y0),Iz (y1),.bool (y2)] 1).run Tryz.prog w=.ok (Iz (y1)) w:=part_one Tryz.isAgg3 rfl;have y2p:(part 4 #[Iz (y0),Iz (y1),.bool (y2)] 2).run Tryz.prog w=.ok (.bool (y2)) w:=part_one Tryz.isAgg4 rfl;simp only [Op.eqFields,Sem.run_bind,Sem.run_ite,Sem.run_pure,x0p,x1p,x2p,y0p,y1p,y2p,Result.andThen_ok,run_equalIn_int _ _ _ _ _ _ _ Tryz.underlying3,run_equalIn_bool _ _ _ _ _ Tryz.underlying4];simp;grind
theorem eg_96:Tryz.prog.eqGuardType Tryz.prog.depth 96=false:=by kernel_rfl
theorem lay_220:layoutOf Tryz.prog 220=some ([Iz 0,.slice none 0 0,Iz 0],[(0,2),(2,1)]):=by kernel_rfl
theorem endm_ct {P:Program} {e:Env} {ds:List Deferred} {w:World} {fn:Func} {R:Value→World→Prop} {t0:Tmp} {v0:Value} {y0:TypeId} {a0:Addr} {t1:Tmp} {v1:Value} (hres:fn.results=#[.cell t0 y0,.tmp t1]) (hd:ds=[]) (h0:e t0=.pointer (some a0)) (l0:(loadVar y0 a0).run P w=.ok v0 w) (h1:e t1=v1) (h:R (.tuple #[v0,v1]) w):atEnd P fn R .ret e ds w:=
 ⟨hd,fun tmps ht=>⟨_,by simp [results,hres,ht,asAddr,h0,l0,h1],h⟩⟩
theorem lay_237:layoutOf Tryz.prog 237=some ([Iz 0,.slice none 0 0],[(0,2)]):=by kernel_rfl
theorem info_49:(Tryz.prog.info? 49).map (fun i=>(i.zero,i.size,i.bytes))=some (some (.slice none 0 0),1,24):=by kernel_rfl
theorem pl_209:Pl BookSpot:=Pl.of (Pl.prod Pl.int Pl.int)
theorem fl_209 : Tryz.prog.fieldsOf 209 = #[{ name := "day", type := 3, offset := 0, embedded := false, tag := "", pkgPath := "griffe/book", byteOffset := 0 }, { name := "loom", type := 3, offset := 1, embedded := false, tag := "", pkgPath := "griffe/book", byteOffset := 8 }] := by kernel_rfl
theorem eqd_209:EqD Tryz.prog BookSpot 2 209:=EqD.struct rfl (by kernel_rfl) (by kernel_rfl) (by rw [fl_209]; exact (FEq.cons (by decide) (part_BookSpot_0).1 Tryz.isAgg3 Tryz.sizeOf3 (EqD.int Tryz.underlying3) (FEq.cons (by decide) (part_BookSpot_1).1 Tryz.isAgg3 Tryz.sizeOf3 (EqD.int Tryz.underlying3) FEq.nil))) (fun x y=>by cases x; cases y; simp)
theorem ckd_209:CkD Tryz.prog BookSpot 2 209:=CkD.struct rfl Tryz.underlying209 fun f hf=>by
 simp only [List.mem_cons,List.not_mem_nil,or_false] at hf;rcases hf with rfl | rfl
 ·exact ⟨by decide,_,_,_,(part_BookSpot_0).1,Tryz.isAgg3,Tryz.sizeOf3,(CkD.int Tryz.underlying3)⟩
 ·exact ⟨by decide,_,_,_,(part_BookSpot_1).1,Tryz.isAgg3,Tryz.sizeOf3,(CkD.int Tryz.underlying3)⟩
theorem key_209:KeyLaw Tryz.prog 209 (encK pl_209):=keyLaw_pl pl_209 (by rw [Tryz.underlying209]) rfl eqd_209 ckd_209 (by decide)
theorem lay_209:layoutOf Tryz.prog 209=some ([Iz 0,Iz 0],[(0,1),(1,1)]):=by kernel_rfl
def f149 (x0:List Str):Option (List Str):=apnd 16 [] x0
theorem en149:Enters Tryz.prog 149:=enters_of Tryz.func149 (by kernel_rfl) rfl
theorem wk149 {gI:Gh} {wI:World} {x0:List Str} {up0:Value} (rp0:RV gI.m wI x0 up0) {r:List Str} (h:f149 x0=some r):Fn Tryz.prog 149 #[up0] gI wI (fun m w v=>RV m w r v):=by
 unfold f149 at h;refine fnE Tryz.func149 rfl rfl fun g0 hm hfr=>?_;have rp0:=RVc hm rp0;show E _ 8 none _ _ _ _ _;refine E_sr (Zg (.slice none 0 0) rfl rfl (EL_nt (Zf (E_sr (Zn up0 rfl rfl ?_)))));obtain ⟨a,c,hv,hc,hrow⟩:=RV_list rp0;refine EL_p (.bool a.isNone) (P_slnil Tryz.underlying104 (show ev _ _=_ from hv)) rfl (EL_nt ?_)
 cases a with
 | none=>
  have hx:x0=[]:=by
   cases x0 with
   | nil=>rfl
   | cons y ys=>obtain ⟨b,off,hb,_⟩:=hrow (by simp); cases hb
  subst hx
  have hr:r=[]:=by unfold apnd at h; split at h <;> simp at h; exact h
  subst hr;refine E_cond_true rfl (E_sr (Zg (.slice none 0 0) rfl rfl (EL_nt ?_)));exact E_ret (thn_r (end1 rfl rfl (rq (.slice none 0 0)) ⟨_,hfr,RV_nil⟩))
 | some a=>
  refine E_cond_false rfl (Zu (Zd (E_sr (EL_d0 rfl (D_buildSlice (g:=g0) 1 (xs:=([]:List Str)) (vs:=[]) Tryz.underlying104 Tryz.sizeOf9 Tryz.zeroValue9 rfl rfl .nil RVs.nil rfl rfl fun g1 w1 v1 hs o1 r1 hxt hfl=>?_)))));have hfr:=hfr.stp hs;have rp0:=rp0.stp hs;refine Zn up0 rfl rfl (EL_d0 rfl (D_append (g:=g1) (i:=1) Tryz.underlying104 info_9 rfl rfl o1 r1 rfl rp0 h fun g2 w2 v2 hs o2 r2 _=>?_));have hfr:=hfr.stp hs;refine Zg v2 rfl rfl (EL_nt ?_);exact E_ret (end1 rfl rfl (rq v2) ⟨_,hfr,r2⟩)
theorem atS_0 (a:Addr) (w:World):(Instr.fieldAt 131 (.pointer (some a)) 0).run Tryz.prog w=.ok (.pointer (some (a.add 0))) w:=by simp [Instr.fieldAt,run_underlying Tryz.underlying131,Instr.sureAddr,fieldPlace,Result.andThen]
theorem atS_1 (a:Addr) (w:World):(Instr.fieldAt 131 (.pointer (some a)) 1).run Tryz.prog w=.ok (.pointer (some (a.add 1))) w:=by simp [Instr.fieldAt,run_underlying Tryz.underlying131,Instr.sureAddr,fieldPlace,Result.andThen]
theorem sb_size:(Tryz.prog.info? 131).map (·.size)=some 2:=by kernel_rfl
theorem sb_psize:∃ j,Tryz.prog.info? 131=some j∧j.size=2:=Option.map_eq_some_iff.1 sb_size
theorem en140:Enters Tryz.prog 140:=enters_of Tryz.func140 (by kernel_rfl) rfl
theorem ob_shape {i:Nat} {g:Gh} {w:World} {x:Fv × List UInt8} {b o:Nat} (hb:OB i g w 131 x (.pointer (some ⟨b,o,none⟩))):o=0∧w.shape? b=some (131,2):=by
 obtain ⟨b',cs,hp,_,_,hh,hr⟩:=hb;injection hp with hp; injection hp with hp; injection hp with h1 h2;subst h1; subst h2;have hl:=GoT.len hr;simp [GoT.k] at hl;exact ⟨rfl,by simp [World.shape?,hh,hl]⟩
theorem wk140 {i j : Nat} (hji : Nat.beq j i = false) {g : Gh} {w : World} {a : Fv} {xs : List UInt8} {p : Value} (hb : OB i g w 131 (a, xs) p) (ho : OSF i j 1 g w 5 131 xs p) (ha : a.v = .pointer none ∨ a.v = p) :
  Calls Tryz.prog 140 #[p] w fun r w'=>∃ v,r=.returned v∧∃ g',Stp i g w g' w'∧∃ a':Fv,a'.v=p∧OB i g' w' 131 (a',xs) p∧OSF i j 1 g' w' 5 131 xs p:=by
 obtain ⟨b,o,rfl⟩:=hb.ptr
 obtain ⟨hoff,hsh⟩:=ob_shape hb
 subst hoff
 obtain ⟨jt,hj,hjs⟩:=sb_psize
 refine calls_of_E Tryz.func140 rfl (Nat.le_of_ble_eq_true rfl) ?_
 show E _ 20 none _ _ _ _ _
 refine E_sr (Zn (.pointer (some ⟨b,0,none⟩)) rfl rfl (EL_p (.pointer (some ⟨b,0,none⟩)) (P_nilCheck rfl) rfl (EL_p (fPtr (.pointer (some ⟨b,0,none⟩)) 0) (Zc atS_0 rfl ⟨b,0,rfl⟩) rfl (EL_d0 rfl (D_loadF (g:=g) (a:=(a,xs)) Sub.fst Tryz.isAgg129 Tryz.sizeOf129 rfl hb fun v r=>?_)))))
 obtain rfl:=RV_fv.1 r
 rcases ha with ha | ha
 ·refine EL_p (.bool true) (P_ptreq (u2 := .pointer none) (.inl rfl) (show _ = .pointer none from ha) rfl ⟨_, rfl⟩ ⟨_, rfl⟩ (fun w => by simpa using run_eql_pointer_nil (P := Tryz.prog) w 129 none Tryz.underlying129)) rfl (EL_nt (E_cond_true rfl (Za (Zn (.pointer (some ⟨b, 0, none⟩)) rfl rfl (Zn (.pointer (some ⟨b, 0, none⟩)) rfl rfl ?_)))))
  refine EL_val (v:=.pointer (some ⟨b,0,none⟩)) (w':=w) .plain (fun _ h=>by cases h) rfl (by
   have:=Lib.run_to_unsafe w ⟨b,0,none⟩ Tryz.underlying129 Tryz.underlying239 hj (by rw [hjs]; decide) hsh (by show 0 < 2; omega)
   show (Sem.run _ (execOp _ _) _)=_
   simp only [execOp,Sem.run_bind]
   rw [show ev _ (Operand.tmp 8)=Value.pointer (some ⟨b,0,none⟩) from rfl,this]
   rfl) ?_
  refine EL_p (.pointer (some ⟨b,0,none⟩)) (P_extern Tryz.func170 (by kernel_rfl) (by kernel_rfl) (by kernel_rfl) (ex:=Extern.AbiNoEscape.same) (by kernel_rfl) (.cons rfl .nil) (fun _=>rfl)) rfl ?_
  refine EL_val (v:=.pointer (some ⟨b,0,none⟩)) (w':=w) .plain (fun _ h=>by cases h) rfl (by
   have:=Lib.run_from_unsafe w ⟨b,0,none⟩ Tryz.underlying239 Tryz.underlying129 hj hsh (by kernel_rfl)
   show (Sem.run _ (execOp _ _) _)=_
   simp only [execOp,Sem.run_bind]
   rw [show ev _ (Operand.tmp 10)=Value.pointer (some ⟨b,0,none⟩) from rfl,this]
   rfl) ?_
  refine EL_p (.pointer (some ⟨b,0,none⟩)) (P_nilCheck rfl) rfl (EL_p (fPtr (.pointer (some ⟨b,0,none⟩)) 0) (Zc atS_0 rfl ⟨b,0,rfl⟩) rfl (EL_d0 rfl (D_storeFc (g:=g) (a:=(a,xs)) (b:=(⟨.pointer (some ⟨b,0,none⟩),rfl⟩:Fv)) SubS.fst Tryz.sizeOf129 rfl hb rfl (RV_fv.2 rfl) fun g1 w1 hs b1 rst _=>?_)))
  exact Zb (end0n rfl rfl ⟨g1,hs,_,rfl,b1,ho.rest hs rst rfl hji⟩)
 ·refine EL_p (.bool false) (P_ptreq (u2 := .pointer none) (.inl rfl) (show _ = .pointer (some ⟨b, 0, none⟩) from ha) rfl ⟨_, rfl⟩ ⟨_, rfl⟩ (fun w => by simpa using run_eql_pointer_nil (P := Tryz.prog) w 129 (some ⟨b, 0, none⟩) Tryz.underlying129)) rfl (EL_nt (E_cond_false rfl (E_sr (Zn (.pointer (some ⟨b, 0, none⟩)) rfl rfl (EL_p (.pointer (some ⟨b, 0, none⟩)) (P_nilCheck rfl) rfl (EL_p (fPtr (.pointer (some ⟨b, 0, none⟩)) 0) (Zc atS_0 rfl ⟨b, 0, rfl⟩) rfl (EL_d0 rfl (D_loadF (g := g) (a := (a, xs)) Sub.fst Tryz.isAgg129 Tryz.sizeOf129 rfl hb fun v r => ?_))))))))
  obtain rfl:=RV_fv.1 r
  refine Zn (.pointer (some ⟨b,0,none⟩)) rfl rfl (EL_p (.bool false) (P_ptreq (.inr rfl) (show _=.pointer (some ⟨b,0,none⟩) from ha) rfl ⟨_,rfl⟩ ⟨_,rfl⟩ (fun w=>Lib.run_neq_ptr_same w ⟨b,0,none⟩ Tryz.underlying129 hj)) rfl (EL_nt (E_cond_false rfl (Zu ?_))))
  exact end0n rfl rfl ⟨g,stp_refl _ _ _,_,ha,hb,ho⟩
theorem en101:Enters Tryz.prog 101:=enters_of Tryz.func101 (by kernel_rfl) rfl
theorem wk101 {i j : Nat} (hji : Nat.beq j i = false) (hij : Nat.beq i j = false) {g : Gh} {w : World} {c : UInt8} {xs r : List UInt8} {p : Value} (hsb : SB i j g w 5 131 xs p) (hr : apnd 1 xs [c] = some r) :
  Calls Tryz.prog 101 #[p,.int .u8 c.toNat] w fun q w'=>∃ v,q=.returned v∧v=.nilIface∧WB i j g w 5 131 r p w':=by
 obtain ⟨a,hb,ho,ha⟩:=hsb
 obtain ⟨b,o,rfl⟩:=hb.ptr
 obtain ⟨hoff,hsh⟩:=ob_shape hb
 subst hoff
 refine calls_of_E Tryz.func101 rfl (Nat.le_of_ble_eq_true rfl) ?_
 show E _ 17 none _ _ _ _ _
 refine E_sr (Zg (.nilIface) rfl rfl (EL_nt (E_sr (Zn (.pointer (some ⟨b,0,none⟩)) rfl rfl (EL_d0 rfl (D_callC (vs:=[.pointer (some ⟨b,0,none⟩)]) en140 (.cons rfl .nil) (wk140 hji hb ho ha) fun v w1 h1=>?_))))))
 obtain ⟨g1,hs1,a1,ha1,hb1,ho1⟩:=h1
 refine EL_nt (E_sr (Zn (.pointer (some ⟨b,0,none⟩)) rfl rfl (Zn (.pointer (some ⟨b,0,none⟩)) rfl rfl (EL_p (.pointer (some ⟨b,0,none⟩)) (P_nilCheck rfl) rfl (EL_p (fPtr (.pointer (some ⟨b,0,none⟩)) 1) (Zc atS_1 rfl ⟨b,0,rfl⟩) rfl (EL_d0 rfl (D_loadFS (g:=g1) (a:=(a1,xs)) (f:=Prod.snd) Sub.snd Tryz.isAgg50 Tryz.sizeOf50 rfl hb1 ho1 fun v2 r2 o2=>(Zn (.int .u8 c.toNat) rfl rfl (EL_d0 rfl (D_buildSlice (g:=g1) 1 (xs:=[c]) (vs:=[.int .u8 c.toNat]) Tryz.underlying50 Tryz.sizeOf5 Tryz.zeroValue5 rfl rfl (.cons rfl .nil) (RVs.cons (RV_u8.2 rfl) RVs.nil) rfl rfl fun g3 w3 v3 _ _ r3 hxt _=>(EL_d0 rfl (D_append (g:=g3) (i:=j) Tryz.underlying50 info_5 rfl rfl (o2.ext hxt) (r2.ext hxt) rfl r3 hr fun g4 w4 v4 hs4 o4 r4 _=>?_))))))))))))
 have hb4:=(hb1.ext hxt).stp hs4 hij
 refine EL_p (.pointer (some ⟨b,0,none⟩)) (P_nilCheck rfl) rfl (EL_p (fPtr (.pointer (some ⟨b,0,none⟩)) 1) (Zc atS_1 rfl ⟨b,0,rfl⟩) rfl (EL_d0 rfl (D_storeFc (g:=g4) (a:=(a1,xs)) SubS.snd Tryz.sizeOf50 rfl hb4 rfl r4 fun g5 w5 hs5 b5 _ hos=>?_)))
 have o5:=hos _ _ j 5 r (rv_cells1 r4) hji o4
 refine EL_nt (E_sr (Zg (.nilIface) rfl rfl (EL_nt (E_ret (end1 rfl rfl (rq .nilIface) ⟨rfl,g5,⟨g1,w1,g4,w4,hs1,(hxt.stp.trans hs4),hs5⟩,a1,b5,o5,.inr ha1⟩)))))
theorem en71:Enters Tryz.prog 71:=enters_of Tryz.func71 (by kernel_rfl) rfl
theorem mixedS:Tryz.prog.follows .mixedOrders=true:=by kernel_rfl
theorem wk71 {i j : Nat} (hij : Nat.beq i 0 = false) {g : Gh} {w : World} {xs : List UInt8} {p : Value} (hsb : SB i j g w 5 131 xs p) (h0 : xs ≠ []) :
  Calls Tryz.prog 71 #[p] w fun q w'=>∃ v,q=.returned v∧GS j g w xs v w':=by
 obtain ⟨a,hb,ho,ha⟩:=hsb
 obtain ⟨b,o,rfl⟩:=hb.ptr
 obtain ⟨hoff,hsh⟩:=ob_shape hb
 subst hoff
 refine calls_of_E Tryz.func71 rfl (Nat.le_of_ble_eq_true rfl) ?_
 show E _ 14 none _ _ _ _ _
 refine E_sr (Zg (Str.v ⟨[]⟩) rfl rfl (EL_nt (L_loadFSx (f:=Prod.snd) (a:=(a,xs)) Sub.snd Tryz.isAgg50 Tryz.sizeOf50 hb ho fun v r os hl=>?_)))
 obtain ⟨sa,c,rfl,hc,_⟩:=RV_list r
 have hne:c ≠ 0:=by
  have : 0 < xs.length := by cases xs with
   | nil=>exact absurd rfl h0
   | cons _ _=>simp
  have hc':xs.length ≤ c:=hc
  omega
 refine Zf (E_drawL (g:=g) (n:=10) [] [0,1,2,3,4,5,6,7,8,9] rfl mixedS (by kernel_rfl) trivial (L_p (.pointer (some ⟨b,0,none⟩)) rfl rfl (Zk rfl) (L_p (.pointer (some ⟨b,0,none⟩)) rfl rfl (P_nilCheck rfl) (L_p (fPtr (.pointer (some ⟨b,0,none⟩)) 1) rfl rfl (Zc atS_1 rfl ⟨b,0,rfl⟩) (L_ld (c:=.slice sa xs.length c) rfl rfl .plain (fun _ _ h=>⟨h.ch,fun b hb _=>h.below.block b hb⟩) (hl _) rfl (L_p (.pointer sa) rfl rfl (P_sliceData (a:=sa) (n:=xs.length) (c:=c) rfl (.inl hne)) (L_p (.pointer (some ⟨b,0,none⟩)) rfl rfl (Zk rfl) (L_p (.pointer (some ⟨b,0,none⟩)) rfl rfl (P_nilCheck rfl) (L_p (fPtr (.pointer (some ⟨b,0,none⟩)) 1) rfl rfl (Zc atS_1 rfl ⟨b,0,rfl⟩) (L_ld (c:=.slice sa xs.length c) rfl rfl .plain (fun _ _ h=>⟨h.ch,fun b hb _=>h.below.block b hb⟩) (hl _) rfl (L_p (Iz (xs.length:Int)) rfl rfl (P_len (v:=.slice sa xs.length c) Tryz.underlying50 rfl r) (L_nil fun g1 w1 hall=>?_))))))))))))
 have hs:=hall.1
 refine EL_d0 rfl (D_unsafeString (g:=g1) (j:=j) (et:=5) rfl Tryz.underlying191 (by kernel_rfl) h0 rfl rfl (os.ext hs) (r.ext hs) fun g2 w2 hs2=>(Zg (Str.v ⟨xs⟩) rfl rfl ?_))
 exact EL_nt (E_ret (end1 rfl rfl (rq (Str.v ⟨xs⟩)) ⟨rfl,g2,hs.stp.trans hs2⟩))
def f30 (x0:List UInt8):Option ((List UInt8)):=
 (apnd 1 (([]:List UInt8)) x0).bind fun y3=>
 some (y3)
theorem en30:Enters Tryz.prog 30:=enters_of Tryz.func30 (by kernel_rfl) rfl
theorem wk30 {gI:Gh} {wI:World} {x0:List UInt8} {up0:Value} (rp0:RV gI.m wI x0 up0) {r:(List UInt8)} (h:f30 x0=some r):Fn Tryz.prog 30 #[up0] gI wI (fun m w v=>RV m w (r) v):=by
 unfold f30 at h;refine fnE Tryz.func30 rfl rfl fun g0 hm hfr=>?_;have rp0:=RVc hm rp0;show E _ 6 none _ _ _ _ _;refine E_sr (Zg (.slice none 0 0) rfl rfl (EL_nt (E_sr (EL_d0 rfl (D_buildSlice (g:=g0) 3003 (xs:=([]:List UInt8)) (vs:=[]) Tryz.underlying50 Tryz.sizeOf5 Tryz.zeroValue5 rfl rfl .nil RVs.nil rfl rfl fun g1 w1 v1 hs o1 r1 hxt hfl=>?_)))));have hfr:=hfr.stp hs;have rp0:=rp0.stp hs;refine Zn up0 rfl rfl ?_;obtain ⟨y3,hy3,h⟩:=bsome h;refine EL_d0 rfl (D_append (g:=g1) (i:=3003) Tryz.underlying50 info_5 rfl rfl o1 r1 rfl rp0 hy3 fun g2 w2 v2 hs o2 r2 _=>?_);have hfr:=hfr.stp hs;refine Zg v2 rfl rfl (EL_nt (E_ret ?_));obtain rfl:=sinj h;exact end1 rfl rfl (rq v2) ⟨_,hfr,r2⟩
def f35 (x0:List BookCloth) (x1:List BookCloth):Option (Bool):=
 jn (σ:=Unit) (fun _=>
  jn (σ:=Unit) (fun _=>
   some (true)
   ) fun k53=>
  lp (σ:=Int) (fun k54 o0=>
   jn (σ:=Unit) (fun _=>
    jn (σ:=Unit) (fun _=>
     k54 ((w64 (o0 + (1:Int))))
     ) fun yD=>
    (idx x0 o0).bind fun nB=>
    (idx x1 o0).bind fun oB=>
    bif (!(decide (nB = oB))) then
     some (false)
    else
     yD ()
    ) fun k57=>
   bif (decide (o0 < ((x0).length : Int))) then
    k57 ()
   else
    k53 ()
   ) big ((0:Int))
  ) fun k2=>
 bif (((x0).length : Int) != ((x1).length : Int)) then
  some (false)
 else
  k2 ()
theorem en35:Enters Tryz.prog 35:=enters_of Tryz.func35 (by kernel_rfl) rfl
theorem wk35 {gI:Gh} {wI:World} {x0:List BookCloth} {x1:List BookCloth} {up0:Value} (rp0:RV gI.m wI x0 up0) {up1:Value} (rp1:RV gI.m wI x1 up1) {r:Bool} (h:f35 x0 x1=some r):Fn Tryz.prog 35 #[up0,up1] gI wI (fun _ _ v=>v=.bool (r)):=by
 unfold f35 at h;refine fnE Tryz.func35 rfl rfl fun g0 hm hfr=>?_;have rp0:=RVc hm rp0;have rp1:=RVc hm rp1;show E _ 26 none _ _ _ _ _;refine E_sr (Zg (.bool false) rfl rfl (EL_nt (Zq h (fun (s:Unit) e w=>∃ (g:Gh) ,Fr gI wI g w∧e 0=up0∧RV g.m w (x0:List BookCloth) up0∧e 1=up1∧RV g.m w (x1:List BookCloth) up1) (fun X2 k2 hk2 h=>?_) ?_)))
 ·refine E_sr (Zn up0 rfl rfl (EL_p (Iz ((x0).length : Int)) (P_len Tryz.underlying49 rfl rp0) rfl (Zn up1 rfl rfl (EL_p (Iz ((x1).length : Int)) (P_len Tryz.underlying49 rfl rp1) rfl (EL_in (.bool ((((x0).length : Int) != ((x1).length : Int)))) rfl rfl rfl rfl (EL_nt ?_))))))
  rcases Zt h with ⟨hc3,h⟩ | ⟨hc3,h⟩
  ·refine E_ct hc3 rfl (E_sr (Zg (.bool false) rfl rfl (EL_nt (E_ret (thn_r ?_)))))
   obtain rfl:=sinj h;exact end1 rfl rfl (rq (.bool false)) ⟨_,hfr,rfl⟩
  ·refine E_cf hc3 rfl ?_
   exact Zu (Zd (hk2 () _ _ ⟨g0,hfr,rfl,rp0,rfl,rp1⟩ h))
 ·rintro _ gG w4 ⟨g4, hfr, aE, bE, iE, lE⟩ h
  refine Zq h (fun (s:Unit) e w=>∃ (g:Gh) ,Fr gI wI g w) (fun X53 k53 mE h=>?_) ?_
  ·refine E_sr (Zg (Iz (0)) rfl rfl (EL_nt (Zr (E_lp h (fun (s : Int) e w => ∃ (g : Gh) , Fr gI wI g w ∧ e 0 = up0 ∧ RV g.m w (x0 : List BookCloth) up0 ∧ e 1 = up1 ∧ RV g.m w (x1 : List BookCloth) up1 ∧ e 5 = Iz (s)) ⟨g4, hfr, aE, bE, iE, lE, rfl⟩ (fun X54 k54 oE => ?_)))))
   rintro o0 yF iG ⟨zD,hfr,l9,n9,nD,oD,aB⟩ h;refine Zq h (fun (s:Unit) e w=>∃ (g:Gh) ,Fr gI wI g w∧e 0=up0∧RV g.m w (x0:List BookCloth) up0∧e 1=up1∧RV g.m w (x1:List BookCloth) up1∧e 5=Iz (o0)) (fun X57 k57 rE h=>?_) ?_
   ·refine E_sr (Zo aB rfl (Zo l9 rfl (EL_p (Iz ((x0).length : Int)) (P_len Tryz.underlying49 rfl n9) rfl (EL_in (.bool ((decide (o0 < ((x0).length : Int))))) rfl rfl rfl rfl (EL_nt ?_)))))
    rcases Zt h with ⟨n8,h⟩ | ⟨n8,h⟩
    ·refine E_ct n8 rfl ?_
     exact Zu (Zd (rE () _ _ ⟨zD,hfr,l9,n9,nD,oD,aB⟩ h))
    ·refine E_cf n8 rfl (E_exit (thn_e (thn_e (blk_hit ?_))))
     exact Zd (mE () _ _ ⟨zD,hfr⟩ h)
   ·rintro _ aG jG ⟨zE, hfr, lB, l5, mB, t5, i6⟩ h
    refine Zq h (fun (s:Unit) e w=>∃ (g:Gh) ,Fr gI wI g w∧e 0=up0∧RV g.m w (x0:List BookCloth) up0∧e 1=up1∧RV g.m w (x1:List BookCloth) up1∧e 5=Iz (o0)) (fun X81 yD uE h=>?_) ?_
    ·refine Zr (Zf ?_)
     obtain ⟨nB,yB,h⟩:=bsome h;have cF:=PT_idx l5 yB;refine Zs (x:=.tmp 19) Tryz.isAgg63 Tryz.sizeOf63 cF fun dF eF vE=>?_;obtain ⟨oB,zB,h⟩:=bsome h;have rF:=PT_idx t5 zB;refine Zs (x:=.tmp 23) Tryz.isAgg63 Tryz.sizeOf63 rF fun sF tF xE=>(E_drawL (g:=zE) (n:=9) [] [0,1,2,3,4,5,6,7,8] rfl mixed (by kernel_rfl) trivial (L_p up0 rfl rfl (Zk lB) (L_p (Iz (o0)) rfl rfl (Zk i6) (L_p (ePtr up0 o0 5) rfl rfl (Zh (α:=BookCloth) Tryz.underlying49 Tryz.sizeOf63 rfl l5 rfl yB) (L_ld (c:=dF) rfl rfl .plain (fun _ _ h=>h.ch) vE rfl (L_p up1 rfl rfl (Zk mB) (L_p (Iz (o0)) rfl rfl (Zk i6) (L_p (ePtr up1 o0 5) rfl rfl (Zh (α:=BookCloth) Tryz.underlying49 Tryz.sizeOf63 rfl t5 rfl zB) (L_ld (c:=sF) rfl rfl .plain (fun _ _ h=>h.ch) xE rfl (L_p (.bool ((!(decide (nB=oB))))) rfl rfl (P_sne seq_63 rfl eg_63 rfl rfl eF tF) (L_nl fun uF kG hs=>?_)))))))))));have hfr:=hfr.ext hs;have l5:=l5.ext hs;have t5:=t5.ext hs;clear hs;refine EL_nt ?_;rcases Zt h with ⟨l8,h⟩ | ⟨l8,h⟩
     ·refine E_ct l8 rfl (E_sr (Zg (.bool false) rfl rfl (EL_nt (E_ret (blk_r (thn_r (thn_r (blk_r (thn_r ?_)))))))))
      obtain rfl:=sinj h;exact end1 rfl rfl (rq (.bool false)) ⟨_,hfr,rfl⟩
     ·refine E_cf l8 rfl ?_
      exact Zu (blk_n (Zd (uE () _ _ ⟨uF,hfr,lB,l5,mB,t5,i6⟩ h)))
    ·rintro _ vF bG ⟨yE, hfr, cC, uC, bD, cD, lD⟩ h
     refine Za (Zo lD rfl (EL_in (Iz ((w64 (o0 + (1:Int))))) rfl rfl rfl rfl (Zg (Iz ((w64 (o0 + (1:Int))))) rfl rfl ?_)));exact EL_nt (oE ((w64 (o0 + (1:Int)))) _ _ ⟨yE,hfr,cC,uC,bD,cD,rfl⟩ h)
  ·rintro _ xF cG ⟨eG, hfr⟩ h
   refine E_sr (Zg (.bool true) rfl rfl (EL_nt (E_ret ?_)));obtain rfl:=sinj h;exact end1 rfl rfl (rq (.bool true)) ⟨_,hfr,rfl⟩
def f36 (x0:List UInt8) (x1:List UInt8):Option (Bool):=
 some ((((⟨x0⟩:Str)).b == ((⟨x1⟩:Str)).b))
theorem en36:Enters Tryz.prog 36:=enters_of Tryz.func36 (by kernel_rfl) rfl
theorem wk36 {gI:Gh} {wI:World} {x0:List UInt8} {x1:List UInt8} {up0:Value} (rp0:RV gI.m wI x0 up0) {up1:Value} (rp1:RV gI.m wI x1 up1) {r:Bool} (h:f36 x0 x1=some r):Fn Tryz.prog 36 #[up0,up1] gI wI (fun _ _ v=>v=.bool (r)):=by
 unfold f36 at h;refine fnE Tryz.func36 rfl rfl fun g0 hm hfr=>?_;have rp0:=RVc hm rp0;have rp1:=RVc hm rp1;show E _ 10 none _ _ _ _ _;refine E_sr (Zg (.bool false) rfl rfl (EL_nt (E_sr (Zn up0 rfl rfl (EL_d0 rfl (D_convBSr Tryz.underlying50 Tryz.underlying9 Tryz.underlying5 rfl rp0 (Zn up1 rfl rfl (EL_d0 rfl (D_convBSr Tryz.underlying50 Tryz.underlying9 Tryz.underlying5 rfl rp1 (EL_p (.bool ((((⟨x0⟩:Str)).b == ((⟨x1⟩:Str)).b))) (P_str rfl rfl rfl) rfl (Zg (.bool ((((⟨x0⟩:Str)).b == ((⟨x1⟩:Str)).b))) rfl rfl (EL_nt (E_ret ?_)))))))))))));obtain rfl:=sinj h;exact end1 rfl rfl (rq (.bool ((((⟨x0⟩:Str)).b == ((⟨x1⟩:Str)).b)))) ⟨_,hfr,rfl⟩
def f52 :Option (BookMill):=
 some ((⟨([(⟨(⟨[112,108,97,105,110]⟩:Str),(⟨(2:Int),([(0:Int),(1:Int),(0:Int)]:List Int)⟩:TieHarness)⟩:BookTie)]:List BookTie),([(⟨(⟨[116,119,105,108,108]⟩:Str),(⟨(2:Int),([(⟨(0:Int),(1:Int),false⟩:ChainCard),(⟨(-1:Int),(1:Int),true⟩:ChainCard)]:List ChainCard)⟩:ChainBelt)⟩:BookChain)]:List BookChain)⟩:BookMill))
theorem en52:Enters Tryz.prog 52:=enters_of Tryz.func52 (by kernel_rfl) rfl
theorem wk52 {gI:Gh} {wI:World}   {r:BookMill} (h:f52 =some r):Fn Tryz.prog 52 #[] gI wI (fun m w v=>RV m w (r) v):=by
 unfold f52 at h;refine fnE Tryz.func52 rfl rfl fun g0 hm hfr=>?_;show E _ 12 none _ _ _ _ _;refine E_sr (EL_d0 rfl (D_allocOc (g:=g0) 2000 (⟨[],[]⟩:BookMill) Tryz.zeroValue39 (fun m w=>⟨_,(rep_two rep_nil rep_nil),rfl⟩) fun g1 w1 p1 hs b1 cb=>?_));have hfr:=hfr.stp hs;have bD:OSF 2000 60000 0 g1 w1 108 39 ([]:List BookTie) p1:=cb.osf (by rfl);have cD:OSF 2000 60001 1 g1 w1 94 39 ([]:List BookChain) p1:=cb.osf (by rfl);clear cb;refine EL_nt (E_sr (EL_d0 rfl (D_buildSlice (g:=g1) 3001 (xs:=([(0:Int),(1:Int),(0:Int)]:List Int)) (vs:=[Iz (0),Iz (1),Iz (0)]) Tryz.underlying22 Tryz.sizeOf3 Tryz.zeroValue3 rfl rfl (.cons rfl (.cons rfl (.cons rfl .nil))) (RVs.cons (Zj.2 rfl) (RVs.cons (Zj.2 rfl) (RVs.cons (Zj.2 rfl) RVs.nil))) rfl rfl fun g2 w2 v2 hs o2 r2 hxt hfl=>?_)));have hfr:=hfr.stp hs;have b1:=b1.stp hs rfl;have r3:RV g2.m _ (⟨(2:Int),([(0:Int),(1:Int),(0:Int)]:List Int)⟩:TieHarness) (.agg (setCh [[Iz 0],[.slice none 0 0]] [(0,Iz (2)),(1,v2)]).flatten.toArray):=RV_build rfl (rep_pair (rfl) (rep_last (RV.cells r2)));generalize hv3:(Value.agg (setCh [[Iz 0],[.slice none 0 0]] [(0,Iz (2)),(1,v2)]).flatten.toArray)=v3 at r3;refine EL_p v3 (hv3 ▸ P_build (vs:=[(0,Iz (2)),(1,v2)]) [[Iz 0],[.slice none 0 0]] lay_106 rfl rfl (.cons rfl (.cons rfl .nil)) ⟨⟨_,rfl,rfl⟩,⟨⟨_,rfl,cells_size r2⟩,trivial⟩⟩) rfl ?_;have r4:RV g2.m _ (⟨(⟨[112,108,97,105,110]⟩:Str),(⟨(2:Int),([(0:Int),(1:Int),(0:Int)]:List Int)⟩:TieHarness)⟩:BookTie) (.agg (setCh [[Str.v ⟨[]⟩],[Iz 0,.slice none 0 0]] [(0,Str.v (⟨[112,108,97,105,110]⟩:Str)),(1,v3)]).flatten.toArray):=RV_build rfl (rep_pair (rfl) (rep_last (RV.cells r3)));generalize aB:(Value.agg (setCh [[Str.v ⟨[]⟩],[Iz 0,.slice none 0 0]] [(0,Str.v (⟨[112,108,97,105,110]⟩:Str)),(1,v3)]).flatten.toArray)=v4 at r4;refine EL_p v4 (aB ▸ P_build (vs:=[(0,Str.v (⟨[112,108,97,105,110]⟩:Str)),(1,v3)]) [[Str.v ⟨[]⟩],[Iz 0,.slice none 0 0]] lay_108 rfl rfl (.cons rfl (.cons rfl .nil)) ⟨⟨_,rfl,rfl⟩,⟨⟨_,rfl,cells_size r3⟩,trivial⟩⟩) rfl (EL_d0 rfl (D_buildSlice (g:=g2) 3004 (xs:=([(⟨(⟨[112,108,97,105,110]⟩:Str),(⟨(2:Int),([(0:Int),(1:Int),(0:Int)]:List Int)⟩:TieHarness)⟩:BookTie)]:List BookTie)) (vs:=[v4]) Tryz.underlying36 Tryz.sizeOf108 Tryz.zeroValue108 rfl rfl (.cons rfl .nil) (RVs.cons r4 RVs.nil) rfl rfl fun g5 w5 v5 hs o5 r5 hxt hfl=>?_));have hfr:=hfr.stp hs;have b1:=b1.stp hs rfl;have r6:RV g5.m w5 (⟨(0:Int),(1:Int),false⟩:ChainCard) (.agg (setCh [[Iz 0],[Iz 0],[.bool false]] [(0,Iz (0)),(1,Iz (1))]).flatten.toArray):=RV_build rfl (rep_pair (rfl) (rep_pair (rfl) (rep_last (rep_bool))));generalize lB:(Value.agg (setCh [[Iz 0],[Iz 0],[.bool false]] [(0,Iz (0)),(1,Iz (1))]).flatten.toArray)=v6 at r6;refine EL_p v6 (lB ▸ P_build (vs:=[(0,Iz (0)),(1,Iz (1))]) [[Iz 0],[Iz 0],[.bool false]] lay_96 rfl rfl (.cons rfl (.cons rfl .nil)) ⟨⟨_,rfl,rfl⟩,⟨⟨_,rfl,rfl⟩,trivial⟩⟩) rfl ?_;have r7:RV g5.m w5 (⟨(-1:Int),(1:Int),true⟩:ChainCard) (.agg (setCh [[Iz 0],[Iz 0],[.bool false]] [(0,Iz (-1)),(1,Iz (1)),(2,.bool true)]).flatten.toArray):=RV_build rfl (rep_pair (rfl) (rep_pair (rfl) (rep_last (rfl))));generalize mB:(Value.agg (setCh [[Iz 0],[Iz 0],[.bool false]] [(0,Iz (-1)),(1,Iz (1)),(2,.bool true)]).flatten.toArray)=v7 at r7;refine EL_p v7 (mB ▸ P_build (vs:=[(0,Iz (-1)),(1,Iz (1)),(2,.bool true)]) [[Iz 0],[Iz 0],[.bool false]] lay_96 rfl rfl (.cons rfl (.cons rfl (.cons rfl .nil))) ⟨⟨_,rfl,rfl⟩,⟨⟨_,rfl,rfl⟩,⟨⟨_,rfl,rfl⟩,trivial⟩⟩⟩) rfl (EL_d0 rfl (D_buildSlice (g:=g5) 3007 (xs:=([(⟨(0:Int),(1:Int),false⟩:ChainCard),(⟨(-1:Int),(1:Int),true⟩:ChainCard)]:List ChainCard)) (vs:=[v6,v7]) Tryz.underlying90 Tryz.sizeOf96 Tryz.zeroValue96 rfl rfl (.cons rfl (.cons rfl .nil)) (RVs.cons r6 (RVs.cons r7 RVs.nil)) rfl rfl fun g8 w8 v8 hs o8 r8 hxt hfl=>?_));have hfr:=hfr.stp hs;have b1:=b1.stp hs rfl;have r5:=r5.stp hs;have o5:=o5.stp hs rfl;have r9:RV g8.m _ (⟨(2:Int),([(⟨(0:Int),(1:Int),false⟩:ChainCard),(⟨(-1:Int),(1:Int),true⟩:ChainCard)]:List ChainCard)⟩:ChainBelt) (.agg (setCh [[Iz 0],[.slice none 0 0]] [(0,Iz (2)),(1,v8)]).flatten.toArray):=RV_build rfl (rep_pair (rfl) (rep_last (RV.cells r8)))
 generalize nB:(Value.agg (setCh [[Iz 0],[.slice none 0 0]] [(0,Iz (2)),(1,v8)]).flatten.toArray)=v9 at r9;refine EL_p v9 (nB ▸ P_build (vs:=[(0,Iz (2)),(1,v8)]) [[Iz 0],[.slice none 0 0]] lay_92 rfl rfl (.cons rfl (.cons rfl .nil)) ⟨⟨_,rfl,rfl⟩,⟨⟨_,rfl,cells_size r8⟩,trivial⟩⟩) rfl ?_;have r10:RV g8.m _ (⟨(⟨[116,119,105,108,108]⟩:Str),(⟨(2:Int),([(⟨(0:Int),(1:Int),false⟩:ChainCard),(⟨(-1:Int),(1:Int),true⟩:ChainCard)]:List ChainCard)⟩:ChainBelt)⟩:BookChain) (.agg (setCh [[Str.v ⟨[]⟩],[Iz 0,.slice none 0 0]] [(0,Str.v (⟨[116,119,105,108,108]⟩:Str)),(1,v9)]).flatten.toArray):=RV_build rfl (rep_pair (rfl) (rep_last (RV.cells r9)));generalize l9:(Value.agg (setCh [[Str.v ⟨[]⟩],[Iz 0,.slice none 0 0]] [(0,Str.v (⟨[116,119,105,108,108]⟩:Str)),(1,v9)]).flatten.toArray)=v10 at r10;refine EL_p v10 (l9 ▸ P_build (vs:=[(0,Str.v (⟨[116,119,105,108,108]⟩:Str)),(1,v9)]) [[Str.v ⟨[]⟩],[Iz 0,.slice none 0 0]] lay_94 rfl rfl (.cons rfl (.cons rfl .nil)) ⟨⟨_,rfl,rfl⟩,⟨⟨_,rfl,cells_size r9⟩,trivial⟩⟩) rfl (EL_d0 rfl (D_buildSlice (g:=g8) 3010 (xs:=([(⟨(⟨[116,119,105,108,108]⟩:Str),(⟨(2:Int),([(⟨(0:Int),(1:Int),false⟩:ChainCard),(⟨(-1:Int),(1:Int),true⟩:ChainCard)]:List ChainCard)⟩:ChainBelt)⟩:BookChain)]:List BookChain)) (vs:=[v10]) Tryz.underlying37 Tryz.sizeOf94 Tryz.zeroValue94 rfl rfl (.cons rfl .nil) (RVs.cons r10 RVs.nil) rfl rfl fun g11 w11 l5 hs o11 i6 hxt hfl=>?_));have hfr:=hfr.stp hs;have b1:=b1.stp hs rfl;have r5:=r5.stp hs;have o5:=o5.stp hs rfl;have l8:RV g11.m _ (⟨([(⟨(⟨[112,108,97,105,110]⟩:Str),(⟨(2:Int),([(0:Int),(1:Int),(0:Int)]:List Int)⟩:TieHarness)⟩:BookTie)]:List BookTie),([(⟨(⟨[116,119,105,108,108]⟩:Str),(⟨(2:Int),([(⟨(0:Int),(1:Int),false⟩:ChainCard),(⟨(-1:Int),(1:Int),true⟩:ChainCard)]:List ChainCard)⟩:ChainBelt)⟩:BookChain)]:List BookChain)⟩:BookMill) (.agg (setCh [[.slice none 0 0],[.slice none 0 0]] [(0,v5),(1,l5)]).flatten.toArray):=RV_build rfl (rep_pair (RV.cells r5) (rep_last (RV.cells i6)));generalize t5:(Value.agg (setCh [[.slice none 0 0],[.slice none 0 0]] [(0,v5),(1,l5)]).flatten.toArray)=n8 at l8;refine EL_p n8 (t5 ▸ P_build (vs:=[(0,v5),(1,l5)]) [[.slice none 0 0],[.slice none 0 0]] lay_39 rfl rfl (.cons rfl (.cons rfl .nil)) ⟨⟨_,rfl,cells_size r5⟩,⟨⟨_,rfl,cells_size i6⟩,trivial⟩⟩) rfl (EL_d0 rfl (D_storeOc (g:=g11) (v:=n8) Tryz.sizeOf39 rfl b1 rfl l8 fun oB yB hs b13 cb=>?_));obtain ⟨zB,cC,o0,_,_⟩:=RV_list r5;have uC:OSF 2000 3004 0 oB yB 108 39 (([(⟨(⟨[112,108,97,105,110]⟩:Str),(⟨(2:Int),([(0:Int),(1:Int),(0:Int)]:List Int)⟩:TieHarness)⟩:BookTie)]:List BookTie):List BookTie) p1:=cb.osfv (by rw [← t5,o0]; rfl) (o5.stp hs rfl);clear cb;have hfr:=hfr.stp hs;refine EL_nt (E_ret ?_);obtain rfl:=sinj h;obtain ⟨ad14,cv14,hp14,n9,cr14⟩:=ob_read Tryz.isAgg39 Tryz.sizeOf39 b13;exact endm_c rfl rfl ((rq p1).trans hp14) n9 ⟨_,hfr,cr14⟩
def f53 (x0:Int) (x1:Int):Option (BookCloth):=
 some ((⟨x0,0,0,0,x1⟩:BookCloth))
theorem en53:Enters Tryz.prog 53:=enters_of Tryz.func53 (by kernel_rfl) rfl
theorem wk53 {gI:Gh} {wI:World} {x0:Int} {x1:Int}  {r:BookCloth} (h:f53 x0 x1=some r):Fn Tryz.prog 53 #[Iz (x0),Iz (x1)] gI wI (fun m w v=>RV m w (r) v):=by
 unfold f53 at h;refine fnE Tryz.func53 rfl rfl fun g0 hm hfr=>?_;show E _ 8 none _ _ _ _ _;refine E_sr (EL_d0 rfl (D_allocOc (g:=g0) 2004 (⟨0,0,0,0,0⟩:BookCloth) Tryz.zeroValue63 (fun m w=>⟨_,(rep_two rep_int (rep_two rep_int (rep_two rep_int (rep_two rep_int rep_int)))),rfl⟩) fun g1 w1 p1 hs b1 cb=>?_));have hfr:=hfr.stp hs;clear cb;refine EL_nt (E_sr (Zn (Iz (x0)) rfl rfl (Zn (Iz (x1)) rfl rfl ?_)));have r2:RV g1.m w1 (⟨x0,0,0,0,x1⟩:BookCloth) (.agg (setCh [[Iz 0],[Iz 0],[Iz 0],[Iz 0],[Iz 0]] [(0,Iz (x0)),(4,Iz (x1))]).flatten.toArray):=RV_build rfl (rep_pair (rfl) (rep_pair (rep_int) (rep_pair (rep_int) (rep_pair (rep_int) (rep_last (rfl))))));generalize hv2:(Value.agg (setCh [[Iz 0],[Iz 0],[Iz 0],[Iz 0],[Iz 0]] [(0,Iz (x0)),(4,Iz (x1))]).flatten.toArray)=v2 at r2;refine EL_p v2 (hv2 ▸ P_build (vs:=[(0,Iz (x0)),(4,Iz (x1))]) [[Iz 0],[Iz 0],[Iz 0],[Iz 0],[Iz 0]] lay_63 rfl rfl (.cons rfl (.cons rfl .nil)) ⟨⟨_,rfl,rfl⟩,⟨⟨_,rfl,rfl⟩,trivial⟩⟩) rfl (EL_d0 rfl (D_storeOc (g:=g1) (v:=v2) Tryz.sizeOf63 rfl b1 rfl r2 fun g3 w3 hs b3 cb=>?_));clear cb;have hfr:=hfr.stp hs;refine EL_nt (E_ret ?_);obtain rfl:=sinj h;obtain ⟨ad4,cv4,hp4,o0,cr4⟩:=ob_read Tryz.isAgg63 Tryz.sizeOf63 b3;exact endm_c rfl rfl ((rq p1).trans hp4) o0 ⟨_,hfr,cr4⟩
def f55 (x0:Int) (x1:Int):Option (Str):=
 Option.bind (α:=List UInt8) (
  lp (σ:=List UInt8 × Int) (fun k18 (t5,o0)=>
   bif (decide (o0 < x1)) then
    Option.bind (α:=List UInt8) (
     (shr64 x0 o0).bind fun lB=>
     bif ((bit64 .and lB (1 : Int)) == (1 : Int)) then
      (apnd 1 t5 [(120:UInt8)]).bind fun nD=>
      some (nD)
     else
      (apnd 1 t5 [(46:UInt8)]).bind fun oD=>
      some (oD)
     ) fun i6=>
    k18 (i6,(w64 (o0 + (1:Int))))
   else
    some (t5)
   ) big (([]:List UInt8),(0:Int))
  ) fun n8=>
 (sbstr n8).bind fun oB=>
 some (oB)
theorem en55:Enters Tryz.prog 55:=enters_of Tryz.func55 (by kernel_rfl) rfl
theorem wk55 {gI:Gh} {wI:World} {x0:Int} {x1:Int}  {r:Str} (h:f55 x0 x1=some r):Fn Tryz.prog 55 #[Iz (x0),Iz (x1)] gI wI (fun _ _ v=>v=Str.v (r)):=by
 unfold f55 at h;refine fnE Tryz.func55 rfl rfl fun g0 hm hfr=>?_;show E _ 20 none _ _ _ _ _;refine E_sr (Zg (Str.v (⟨[]⟩:Str)) rfl rfl (EL_nt (E_sr (EL_d0 rfl (D_allocOc (g:=g0) 2005 ((⟨.pointer none,rfl⟩,[]):Fv × List UInt8) Tryz.zeroValue131 (fun m w=>⟨_,rep_two (show GoT.rep m w (⟨.pointer none,rfl⟩:Fv) [.pointer none] from rfl) rep_nil,rfl⟩) fun g1 w1 p1 hs b1 cb=>?_)))));have hfr:=hfr.stp hs;replace b1:SB 2005 60501 g1 w1 5 131 [] p1:=⟨_,b1,cb.osf rfl,.inl rfl⟩;clear cb;refine EL_nt ?_;obtain ⟨n8,hx,h⟩:=bsome h;refine E_join (fun e w=>∃ (g:Gh) ,Fr gI wI g w∧e 5=p1∧SB 2005 60501 g w 5 131 (n8) p1) (fun Q' hQ=>?_) (fun uE yE hR=>?_)
 ·replace h := hx
  clear hx;refine E_sr (Zn (Iz (x1)) rfl rfl (Zn (Iz (0)) rfl rfl (EL_nt (Zr (E_lp h (fun (s:List UInt8 × Int) e w=>∃ (g:Gh) ,Fr gI wI g w∧e 0=Iz (x0)∧e 5=p1∧SB 2005 60501 g w 5 131 (s.1) p1∧e 7=Iz (x1)∧e 8=Iz (s.2)) ⟨g1,hfr,rfl,rfl,b1,rfl,rfl⟩ (fun X18 k18 yD=>?_))))));rintro ⟨t5,o0⟩ vE zE ⟨lE,hfr,l9,l5,n9,aB,l8⟩ h;refine E_sr (EL_in (.bool ((decide (o0 < x1)))) l8 aB rfl rfl (EL_nt (Zf ?_)));rcases Zt h with ⟨mB,h⟩ | ⟨mB,h⟩
  ·refine E_ct mB rfl (Zu (Zd ?_))
   obtain ⟨i6,hx,h⟩:=bsome h;refine E_join (fun e w=>∃ (g:Gh) ,Fr gI wI g w∧e 0=Iz (x0)∧e 5=p1∧SB 2005 60501 g w 5 131 (i6) p1∧e 7=Iz (x1)∧e 8=Iz (o0)) (fun Q' hQ=>?_) (fun xE cF hR=>?_)
   ·replace h := hx
    clear hx;refine Zr (E_sr (Zo l8 rfl (Zg (Iz (o0)) rfl rfl (EL_nt (E_sr (Zo l9 rfl (Zn (Iz (o0)) rfl rfl ?_)))))));obtain ⟨lB,zD,h⟩:=bsome h;refine EL_p (Iz (lB)) (P_int rfl rfl (congrArg (Option.map (Value.int .i64)) zD)) rfl (EL_in (Iz ((bit64 .and lB (1:Int)))) rfl rfl rfl rfl (EL_in (.bool (((bit64 .and lB (1:Int)) == (1:Int)))) rfl rfl rfl rfl (EL_nt ?_)));rcases Zt h with ⟨nB,h⟩ | ⟨nB,h⟩
    ·refine E_ct nB rfl (Za ?_)
     obtain ⟨nD,aE,h⟩:=bsome h;refine EL_d0 rfl (D_callC (vs:=[p1,.int .u8 (UInt8.toNat 120)]) en101 (.cons l5 (.cons rfl .nil)) (wk101 (i:=2005) (j:=60501) rfl rfl n9 aE) fun dF w29 hq=>?_);obtain ⟨hv,mE,⟨_,_,_,_,hs1,hs2,hs3⟩,b29⟩:=hq;subst hv;have hfr:=hfr.stp hs1;have hfr:=hfr.stp hs2;have hfr:=hfr.stp hs3;clear hs1 hs2 hs3;refine Zb (blk_n ?_);obtain rfl:=sinj h;exact hQ _ _ ⟨mE,hfr,l9,l5,b29,aB,l8⟩
    ·refine E_cf nB rfl (Za ?_)
     obtain ⟨oD,bE,h⟩:=bsome h;refine EL_d0 rfl (D_callC (vs:=[p1,.int .u8 (UInt8.toNat 46)]) en101 (.cons l5 (.cons rfl .nil)) (wk101 (i:=2005) (j:=60501) rfl rfl n9 bE) fun eF rF hq=>?_);obtain ⟨hv,oE,⟨_,_,_,_,hs1,hs2,hs3⟩,b31⟩:=hq;subst hv;have hfr:=hfr.stp hs1;have hfr:=hfr.stp hs2;have hfr:=hfr.stp hs3;clear hs1 hs2 hs3;refine Zb (blk_n ?_);obtain rfl:=sinj h;exact hQ _ _ ⟨oE,hfr,l9,l5,b31,aB,l8⟩
   ·clear hx
    obtain ⟨rE,hfr,yB,zB,cC,uC,bD⟩:=hR;refine Za (EL_in (Iz ((w64 (o0 + (1:Int))))) bD rfl rfl rfl (Zn (Iz ((w64 (o0 + (1:Int))))) rfl rfl ?_));exact EL_nt (yD (i6,(w64 (o0 + (1:Int)))) _ _ ⟨rE,hfr,yB,zB,cC,uC,rfl⟩ h)
  ·refine E_cf mB rfl (E_exit (thn_e (thn_e (blk_hit ?_))))
   obtain rfl:=sinj h;exact hQ _ _ ⟨lE,hfr,l5,n9⟩
 ·clear hx
  obtain ⟨sF,hfr,cD,lD⟩:=hR;refine E_sr ?_;obtain ⟨oB,iE,h⟩:=bsome h;obtain ⟨hne35,hye35⟩:=sbstr_h iE;refine EL_d0 rfl (D_callC (vs:=[p1]) en71 (.cons cD .nil) (wk71 (i:=2005) (j:=60501) rfl lD hne35) fun tF uF hq=>?_);obtain ⟨hv,vF,hs⟩:=hq;rw [← hye35] at hv;subst hv;have hfr:=hfr.stp hs;refine Zg (Str.v oB) rfl rfl (EL_nt (E_ret ?_));obtain rfl:=sinj h;exact end1 rfl rfl (rq (Str.v oB)) ⟨_,hfr,rfl⟩
def f56 (x0:Int) (x1:Int) (x2:Int):Option (Bool):=
 Option.bind (α:=Bool) (
  bif (decide (x0 ≥ x1)) then
   some ((decide (x0 ≤ x2)))
  else
   some (false)
  ) fun o0=>
 some (o0)
theorem en56:Enters Tryz.prog 56:=enters_of Tryz.func56 (by kernel_rfl) rfl
theorem wk56 {gI:Gh} {wI:World} {x0:Int} {x1:Int} {x2:Int}  {r:Bool} (h:f56 x0 x1 x2=some r):Fn Tryz.prog 56 #[Iz (x0),Iz (x1),Iz (x2)] gI wI (fun _ _ v=>v=.bool (r)):=by
 unfold f56 at h;refine fnE Tryz.func56 rfl rfl fun g0 hm hfr=>?_;show E _ 15 none _ _ _ _ _;refine E_sr (Zg (.bool false) rfl rfl (EL_nt ?_));obtain ⟨o0,hx,h⟩:=bsome h;refine E_join (fun e w=>∃ (g:Gh) ,Fr gI wI g w∧e 6=.bool (o0)) (fun Q' hQ=>?_) (fun t5 w3 hR=>?_)
 ·replace h := hx
  clear hx;refine Za (Zn (Iz (x0)) rfl rfl (Zn (Iz (x1)) rfl rfl (EL_in (.bool ((decide (x0 ≥ x1)))) rfl rfl rfl rfl (Zn (.bool ((decide (x0 ≥ x1)))) rfl rfl ?_))));rcases Zt h with ⟨hc2,h⟩ | ⟨hc2,h⟩
  ·refine EL_y (Iz (x0)) (Zk rfl) rfl rfl hc2 rfl (EL_y (Iz (x2)) (Zk rfl) rfl rfl hc2 rfl (EL_y (.bool ((decide (x0 ≤ x2)))) (P_int rfl rfl rfl) rfl rfl hc2 rfl (EL_p (.bool ((decide (x0 ≤ x2)))) (Zl (b := (decide (x0 ≥ x1))) rfl (pick_t hc2 rfl)) rfl (Zg (.bool ((decide (x0 ≤ x2)))) rfl rfl (Zb ?_)))))
   obtain rfl:=sinj h;exact hQ _ _ ⟨g0,hfr,rfl⟩
  ·refine EL_s rfl rfl hc2 rfl rfl (EL_s rfl rfl hc2 rfl rfl (EL_s rfl rfl hc2 rfl rfl (EL_p (.bool false) (Zl (b := (decide (x0 ≥ x1))) rfl (pick_f hc2 rfl)) rfl (Zg (.bool false) rfl rfl (Zb ?_)))))
   obtain rfl:=sinj h;exact hQ _ _ ⟨g0,hfr,rfl⟩
 ·clear hx
  obtain ⟨g3,hfr,l5⟩:=hR;refine E_ret ?_;obtain rfl:=sinj h;exact end1 rfl rfl (show _=.bool (o0) from l5) ⟨_,hfr,rfl⟩
def f58 (x0:List Int) (x1:List Int):Option (Bool):=
 jn (σ:=Unit) (fun _=>
  jn (σ:=Unit) (fun _=>
   some (true)
   ) fun k53=>
  lp (σ:=Int) (fun k54 o0=>
   jn (σ:=Unit) (fun _=>
    jn (σ:=Unit) (fun _=>
     k54 ((w64 (o0 + (1:Int))))
     ) fun yD=>
    (idx x0 o0).bind fun l9=>
    (idx x1 o0).bind fun n9=>
    bif (l9 != n9) then
     some (false)
    else
     yD ()
    ) fun k57=>
   bif (decide (o0 < ((x0).length : Int))) then
    k57 ()
   else
    k53 ()
   ) big ((0:Int))
  ) fun k2=>
 bif (((x0).length : Int) != ((x1).length : Int)) then
  some (false)
 else
  k2 ()
theorem en58:Enters Tryz.prog 58:=enters_of Tryz.func58 (by kernel_rfl) rfl
theorem wk58 {gI:Gh} {wI:World} {x0:List Int} {x1:List Int} {up0:Value} (rp0:RV gI.m wI x0 up0) {up1:Value} (rp1:RV gI.m wI x1 up1) {r:Bool} (h:f58 x0 x1=some r):Fn Tryz.prog 58 #[up0,up1] gI wI (fun _ _ v=>v=.bool (r)):=by
 unfold f58 at h;refine fnE Tryz.func58 rfl rfl fun g0 hm hfr=>?_;have rp0:=RVc hm rp0;have rp1:=RVc hm rp1;show E _ 26 none _ _ _ _ _;refine E_sr (Zg (.bool false) rfl rfl (EL_nt (Zq h (fun (s:Unit) e w=>∃ (g:Gh) ,Fr gI wI g w∧e 0=up0∧RV g.m w (x0:List Int) up0∧e 1=up1∧RV g.m w (x1:List Int) up1) (fun X2 k2 hk2 h=>?_) ?_)))
 ·refine E_sr (Zn up0 rfl rfl (EL_p (Iz ((x0).length : Int)) (P_len Tryz.underlying22 rfl rp0) rfl (Zn up1 rfl rfl (EL_p (Iz ((x1).length : Int)) (P_len Tryz.underlying22 rfl rp1) rfl (EL_in (.bool ((((x0).length : Int) != ((x1).length : Int)))) rfl rfl rfl rfl (EL_nt ?_))))))
  rcases Zt h with ⟨hc3,h⟩ | ⟨hc3,h⟩
  ·refine E_ct hc3 rfl (E_sr (Zg (.bool false) rfl rfl (EL_nt (E_ret (thn_r ?_)))))
   obtain rfl:=sinj h;exact end1 rfl rfl (rq (.bool false)) ⟨_,hfr,rfl⟩
  ·refine E_cf hc3 rfl ?_
   exact Zu (Zd (hk2 () _ _ ⟨g0,hfr,rfl,rp0,rfl,rp1⟩ h))
 ·rintro _ cG w4 ⟨g4, hfr, aE, bE, iE, lE⟩ h
  refine Zq h (fun (s:Unit) e w=>∃ (g:Gh) ,Fr gI wI g w) (fun X53 k53 mE h=>?_) ?_
  ·refine E_sr (Zg (Iz (0)) rfl rfl (EL_nt (Zr (E_lp h (fun (s : Int) e w => ∃ (g : Gh) , Fr gI wI g w ∧ e 0 = up0 ∧ RV g.m w (x0 : List Int) up0 ∧ e 1 = up1 ∧ RV g.m w (x1 : List Int) up1 ∧ e 5 = Iz (s)) ⟨g4, hfr, aE, bE, iE, lE, rfl⟩ (fun X54 k54 oE => ?_)))))
   rintro o0 vF eG ⟨zD,hfr,aB,lB,nD,oD,mB⟩ h;refine Zq h (fun (s:Unit) e w=>∃ (g:Gh) ,Fr gI wI g w∧e 0=up0∧RV g.m w (x0:List Int) up0∧e 1=up1∧RV g.m w (x1:List Int) up1∧e 5=Iz (o0)) (fun X57 k57 rE h=>?_) ?_
   ·refine E_sr (Zo mB rfl (Zo aB rfl (EL_p (Iz ((x0).length : Int)) (P_len Tryz.underlying22 rfl lB) rfl (EL_in (.bool ((decide (o0 < ((x0).length : Int))))) rfl rfl rfl rfl (EL_nt ?_)))))
    rcases Zt h with ⟨n8,h⟩ | ⟨n8,h⟩
    ·refine E_ct n8 rfl ?_
     exact Zu (Zd (rE () _ _ ⟨zD,hfr,aB,lB,nD,oD,mB⟩ h))
    ·refine E_cf n8 rfl (E_exit (thn_e (thn_e (blk_hit ?_))))
     exact Zd (mE () _ _ ⟨zD,hfr⟩ h)
   ·rintro _ xF gG ⟨zE, hfr, nB, l5, oB, t5, i6⟩ h
    refine Zq h (fun (s:Unit) e w=>∃ (g:Gh) ,Fr gI wI g w∧e 0=up0∧RV g.m w (x0:List Int) up0∧e 1=up1∧RV g.m w (x1:List Int) up1∧e 5=Iz (o0)) (fun X81 yD uE h=>?_) ?_
    ·refine Zr (Zf ?_)
     obtain ⟨l9,yB,h⟩:=bsome h;have cF:=PT_idx l5 yB;refine Zs (x:=.tmp 19) Tryz.isAgg3 Tryz.sizeOf3 cF fun iG dF vE=>?_;obtain rfl:=Zj.1 dF;obtain ⟨n9,zB,h⟩:=bsome h;have eF:=PT_idx t5 zB;refine Zs (x:=.tmp 23) Tryz.isAgg3 Tryz.sizeOf3 eF fun jG rF xE=>?_;obtain rfl:=Zj.1 rF;refine E_drawL (g:=zE) (n:=9) [] [0,1,2,3,4,5,6,7,8] rfl mixed (by kernel_rfl) trivial (L_p up0 rfl rfl (Zk nB) (L_p (Iz (o0)) rfl rfl (Zk i6) (L_p (ePtr up0 o0 1) rfl rfl (Zh (α:=Int) Tryz.underlying22 Tryz.sizeOf3 rfl l5 rfl yB) (L_ld (c:=Iz (l9)) rfl rfl .plain (fun _ _ h=>h.ch) vE rfl (L_p up1 rfl rfl (Zk oB) (L_p (Iz (o0)) rfl rfl (Zk i6) (L_p (ePtr up1 o0 1) rfl rfl (Zh (α:=Int) Tryz.underlying22 Tryz.sizeOf3 rfl t5 rfl zB) (L_ld (c:=Iz (n9)) rfl rfl .plain (fun _ _ h=>h.ch) xE rfl (L_p (.bool ((l9 != n9))) rfl rfl (P_int rfl rfl rfl) (L_nl fun sF kG hs=>?_))))))))));have hfr:=hfr.ext hs;have l5:=l5.ext hs;have t5:=t5.ext hs;clear hs;refine EL_nt ?_;rcases Zt h with ⟨l8,h⟩ | ⟨l8,h⟩
     ·refine E_ct l8 rfl (E_sr (Zg (.bool false) rfl rfl (EL_nt (E_ret (blk_r (thn_r (thn_r (blk_r (thn_r ?_)))))))))
      obtain rfl:=sinj h;exact end1 rfl rfl (rq (.bool false)) ⟨_,hfr,rfl⟩
     ·refine E_cf l8 rfl ?_
      exact Zu (blk_n (Zd (uE () _ _ ⟨sF,hfr,nB,l5,oB,t5,i6⟩ h)))
    ·rintro _ tF yF ⟨yE, hfr, cC, uC, bD, cD, lD⟩ h
     refine Za (Zo lD rfl (EL_in (Iz ((w64 (o0 + (1:Int))))) rfl rfl rfl rfl (Zg (Iz ((w64 (o0 + (1:Int))))) rfl rfl ?_)));exact EL_nt (oE ((w64 (o0 + (1:Int)))) _ _ ⟨yE,hfr,cC,uC,bD,cD,rfl⟩ h)
  ·rintro _ uF aG ⟨bG, hfr⟩ h
   refine E_sr (Zg (.bool true) rfl rfl (EL_nt (E_ret ?_)));obtain rfl:=sinj h;exact end1 rfl rfl (rq (.bool true)) ⟨_,hfr,rfl⟩
def f70 (x0:Str):Option (Int):=
 Option.bind (α:=Int) (
  lp (σ:=Int × Int) (fun k7 (t5,o0)=>
   bif (decide (o0 < ((x0).b.length : Int))) then
    Option.bind (α:=Int) (
     (idx (x0).b o0).bind fun y11=>
     some ((w64 (t5 + ((y11).toNat:Int))))
     ) fun l5=>
    k7 (l5,(w64 (o0 + (1:Int))))
   else
    some (t5)
   ) big ((0:Int),(0:Int))
  ) fun i6=>
 (rem64 i6 (65536:Int)).bind fun l8=>
 some (l8)
theorem en70:Enters Tryz.prog 70:=enters_of Tryz.func70 (by kernel_rfl) rfl
theorem wk70 {gI:Gh} {wI:World} {x0:Str}  {r:Int} (h:f70 x0=some r):Fn Tryz.prog 70 #[Str.v (x0)] gI wI (fun _ _ v=>v=Iz (r)):=by
 unfold f70 at h;refine fnE Tryz.func70 rfl rfl fun g0 hm hfr=>?_;show E _ 18 none _ _ _ _ _;refine E_sr (Zg (Iz (0)) rfl rfl (EL_nt ?_));obtain ⟨i6,hx,h⟩:=bsome h;refine E_join (fun e w=>∃ (g:Gh) ,Fr gI wI g w∧e 2=Iz (i6)) (fun Q' hQ=>?_) (fun bD lD hR=>?_)
 ·replace h := hx
  clear hx;refine E_sr (Zn (Str.v (x0)) rfl rfl (EL_p (Iz ((x0).b.length:Int)) (P_lenS Tryz.underlying9 rfl) rfl (Zn (Iz (0)) rfl rfl (EL_nt (Zr (E_lp h (fun (s:Int × Int) e w=>∃ (g:Gh) ,Fr gI wI g w∧e 0=Str.v (x0)∧e 2=Iz (s.1)∧e 5=Iz (((x0).b.length:Int))∧e 6=Iz (s.2)) ⟨g0,hfr,rfl,rfl,rfl,rfl⟩ (fun X7 k7 hk7=>?_)))))));rintro ⟨t5,o0⟩ nD w8 ⟨g8,hfr,l9,n9,aB,n8⟩ h;refine E_sr (EL_in (.bool ((decide (o0 < ((x0).b.length:Int))))) n8 aB rfl rfl (EL_nt (Zf ?_)));rcases Zt h with ⟨hc9,h⟩ | ⟨hc9,h⟩
  ·refine E_ct hc9 rfl (Zu (Zd ?_))
   obtain ⟨l5,hx,h⟩:=bsome h;refine E_join (fun e w=>∃ (g:Gh) ,Fr gI wI g w∧e 0=Str.v (x0)∧e 2=Iz (l5)∧e 5=Iz (((x0).b.length:Int))∧e 6=Iz (o0)) (fun Q' hQ=>?_) (fun cD oD hR=>?_)
   ·replace h := hx
    clear hx;refine Zr (E_sr (Zo n8 rfl (Zg (Iz (o0)) rfl rfl (EL_nt (Za (Zo n9 rfl (Zo l9 rfl (Zn (Iz (o0)) rfl rfl ?_))))))));obtain ⟨y11,zB,h⟩:=bsome h;refine EL_p (.int .u8 (UInt8.toNat (y11))) (P_indexS Tryz.underlying9 rfl rfl zB) rfl (EL_p (Iz (((y11).toNat:Int))) (P_u8int Tryz.underlying5 Tryz.underlying3 rfl) rfl (EL_in (Iz ((w64 (t5 + ((y11).toNat:Int))))) rfl rfl rfl rfl (Zg (Iz ((w64 (t5 + ((y11).toNat:Int))))) rfl rfl (Zb (blk_n ?_)))));obtain rfl:=sinj h;exact hQ _ _ ⟨g8,hfr,l9,rfl,aB,n8⟩
   ·clear hx
    obtain ⟨uC,hfr,lB,mB,nB,oB⟩:=hR;refine Za (EL_in (Iz ((w64 (o0 + (1:Int))))) oB rfl rfl rfl (Zn (Iz ((w64 (o0 + (1:Int))))) rfl rfl ?_));exact EL_nt (hk7 (l5,(w64 (o0 + (1:Int)))) _ _ ⟨uC,hfr,lB,mB,nB,rfl⟩ h)
  ·refine E_cf hc9 rfl (E_exit (thn_e (thn_e (blk_hit ?_))))
   obtain rfl:=sinj h;exact hQ _ _ ⟨g8,hfr,n9⟩
 ·clear hx
  obtain ⟨yD,hfr,yB⟩:=hR;refine E_sr (Zo yB rfl ?_);obtain ⟨l8,cC,h⟩:=bsome h;refine EL_p (Iz (l8)) (P_int rfl rfl (congrArg (Option.map (Value.int .i64)) cC)) rfl (Zg (Iz (l8)) rfl rfl (EL_nt (E_ret ?_)));obtain rfl:=sinj h;exact end1 rfl rfl (rq (Iz (l8))) ⟨_,hfr,rfl⟩
def f94 (x0:List UInt8):Option (UInt8 × UInt8):=
 Option.bind (α:=Int × Int) (
  lp (σ:=Int × Int × Int) (fun yE (l5,t5,o0)=>
   jn (σ:=Unit) (fun _=>
    Option.bind (α:=Int × Int) (
     (idx x0 o0).bind fun nB=>
     (idx x0 o0).bind fun l8=>
     some ((w64 (l5 + ((nB).toNat:Int))),(w64 (t5 + (w64 ((w64 (o0 + (1:Int))) * ((l8).toNat:Int))))))
     ) fun (n8,l9)=>
    yE (n8,l9,(w64 (o0 + (1:Int))))
    ) fun zE=>
   bif (decide (o0 < (6 : Int))) then
    zE ()
   else
    some (l5,t5)
   ) big ((0:Int),(0:Int),(0:Int))
  ) fun (lB,mB)=>
 (rem64 lB (256:Int)).bind fun n9=>
 (rem64 mB (256:Int)).bind fun y130=>
 some ((u8w n9),(u8w y130))
theorem en94:Enters Tryz.prog 94:=enters_of Tryz.func94 (by kernel_rfl) rfl
theorem wk94 {gI:Gh} {wI:World} {x0:List UInt8} {up0:Value} (rp0:RV gI.m wI x0 up0) {r:UInt8 × UInt8} (h:f94 x0=some r):Fn Tryz.prog 94 #[up0] gI wI (fun m w v=>∃ y0 y1,v=.tuple #[y0,y1]∧y0=.int .u8 (UInt8.toNat (r.1))∧y1=.int .u8 (UInt8.toNat (r.2))):=by
 unfold f94 at h;refine fnE Tryz.func94 rfl rfl fun g0 hm hfr=>?_;have rp0:=RVc hm rp0;show E _ 34 none _ _ _ _ _;refine E_sr (Zg (.int .u8 (UInt8.toNat 0)) rfl rfl (Zg (.int .u8 (UInt8.toNat 0)) rfl rfl (EL_nt (E_sr (Zg (Iz (0)) rfl rfl (Zg (Iz (0)) rfl rfl (EL_nt ?_)))))));obtain ⟨⟨lB,mB⟩,hx,h⟩:=bsome h;refine E_join (fun e w=>∃ (g:Gh) ,Fr gI wI g w∧e 4=Iz (lB)∧e 5=Iz (mB)) (fun Q' hQ=>?_) (fun aG cG hR=>?_)
 ·replace h := hx
  clear hx;refine E_sr (Zg (Iz (0)) rfl rfl (EL_nt (Zr (E_lp h (fun (s:Int × Int × Int) e w=>∃ (g:Gh) ,Fr gI wI g w∧e 0=up0∧RV g.m w (x0:List UInt8) up0∧e 4=Iz (s.1)∧e 5=Iz (s.2.1)∧e 6=Iz (s.2.2)) ⟨g0,hfr,rfl,rp0,rfl,rfl,rfl⟩ (fun X65 yE dF=>?_)))));rintro ⟨l5,t5,o0⟩ eG sG ⟨cF,hfr,iE,lE,zB,cC,uC⟩ h;refine Zq h (fun (s:Unit) e w=>∃ (g:Gh) ,Fr gI wI g w∧e 0=up0∧RV g.m w (x0:List UInt8) up0∧e 4=Iz (l5)∧e 5=Iz (t5)∧e 6=Iz (o0)) (fun X68 zE eF h=>?_) ?_
  ·refine E_sr (Zo uC rfl (EL_in (.bool ((decide (o0 < (6 : Int))))) rfl rfl rfl rfl (EL_nt ?_)))
   rcases Zt h with ⟨yB,h⟩ | ⟨yB,h⟩
   ·refine E_ct yB rfl ?_
    exact Zu (Zd (eF () _ _ ⟨cF,hfr,iE,lE,zB,cC,uC⟩ h))
   ·refine E_cf yB rfl (E_exit (thn_e (thn_e (blk_hit ?_))))
    obtain ⟨rfl,rfl⟩:=pairs2 h;exact hQ _ _ ⟨cF,hfr,zB,cC⟩
  ·rintro _ gG xG ⟨yF, hfr, oB, i6, mE, oE, aB⟩ h
   obtain ⟨⟨n8,l9⟩,hx,h⟩:=bsome h;refine E_join (fun e w=>∃ (g:Gh) ,Fr gI wI g w∧e 0=up0∧RV g.m w (x0:List UInt8) up0∧e 4=Iz (n8)∧e 5=Iz (l9)∧e 6=Iz (o0)) (fun Q' hQ=>?_) (fun bG iG hR=>?_)
   ·replace h := hx
    clear hx;refine Zr ?_;obtain ⟨nB,cD,h⟩:=bsome h;have rF:=PT_idx i6 cD;refine Zs (x:=.tmp 14) Tryz.isAgg5 Tryz.sizeOf5 rF fun jG sF rE=>?_;obtain rfl:=RV_u8.1 sF;obtain ⟨l8,bD,h⟩:=bsome h;have tF:=PT_idx i6 bD;refine Zs (x:=.tmp 23) Tryz.isAgg5 Tryz.sizeOf5 tF fun kG uF uE=>?_;obtain rfl:=RV_u8.1 uF;refine E_drawL (g:=yF) (n:=19) [] [0,1,2,3,4,5,6,7,8,9,10,11,12,13,14,15,16,17,18] rfl mixed (by kernel_rfl) trivial (L_p (Iz (l5)) rfl rfl (Zk mE) (L_p up0 rfl rfl (Zk oB) (L_p (Iz (o0)) rfl rfl (Zk aB) (L_p (ePtr up0 o0 1) rfl rfl (Zh (α:=UInt8) Tryz.underlying50 Tryz.sizeOf5 rfl i6 rfl cD) (L_ld (c:=.int .u8 (UInt8.toNat (nB))) rfl rfl .plain (fun _ _ h=>h.ch) rE rfl (L_p (Iz (((nB).toNat:Int))) rfl rfl (P_u8int Tryz.underlying5 Tryz.underlying3 rfl) (L_p (Iz ((w64 (l5 + ((nB).toNat:Int))))) rfl rfl (P_int rfl rfl rfl) (L_p (Iz (t5)) rfl rfl (Zk oE) (L_p (Iz (o0)) rfl rfl (Zk aB) (L_p (Iz ((w64 (o0 + (1:Int))))) rfl rfl (P_int rfl rfl rfl) (L_p up0 rfl rfl (Zk oB) (L_p (Iz (o0)) rfl rfl (Zk aB) (L_p (ePtr up0 o0 1) rfl rfl (Zh (α:=UInt8) Tryz.underlying50 Tryz.sizeOf5 rfl i6 rfl bD) (L_ld (c:=.int .u8 (UInt8.toNat (l8))) rfl rfl .plain (fun _ _ h=>h.ch) uE rfl (L_p (Iz (((l8).toNat:Int))) rfl rfl (P_u8int Tryz.underlying5 Tryz.underlying3 rfl) (L_p (Iz ((w64 ((w64 (o0 + (1:Int))) * ((l8).toNat:Int))))) rfl rfl (P_int rfl rfl rfl) ?_))))))))))))))));refine L_p (Iz ((w64 (t5 + (w64 ((w64 (o0 + (1:Int))) * ((l8).toNat:Int))))))) rfl rfl (P_int rfl rfl rfl) (L_p (Iz ((w64 (l5 + ((nB).toNat:Int))))) rfl rfl (P_assign rfl) (L_p (Iz ((w64 (t5 + (w64 ((w64 (o0 + (1:Int))) * ((l8).toNat:Int))))))) rfl rfl (P_assign rfl) (L_nl fun vF lG hs=>?_)));have hfr:=hfr.ext hs;have i6:=i6.ext hs;clear hs;refine Zb (blk_n ?_);obtain ⟨rfl,rfl⟩:=pairs2 h;exact hQ _ _ ⟨vF,hfr,oB,i6,rfl,rfl,aB⟩
   ·clear hx
    obtain ⟨xF,hfr,lD,nD,oD,yD,zD⟩:=hR;refine Za (Zo zD rfl (EL_in (Iz ((w64 (o0 + (1:Int))))) rfl rfl rfl rfl (Zg (Iz ((w64 (o0 + (1:Int))))) rfl rfl ?_)));exact EL_nt (dF (n8,l9,(w64 (o0 + (1:Int)))) _ _ ⟨xF,hfr,lD,nD,oD,yD,rfl⟩ h)
 ·clear hx
  obtain ⟨mG,hfr,aE,bE⟩:=hR;refine E_sr (Zo aE rfl ?_);obtain ⟨n9,vE,h⟩:=bsome h;refine EL_p (Iz (n9)) (P_int rfl rfl (congrArg (Option.map (Value.int .i64)) vE)) rfl (EL_p (.int .u8 (UInt8.toNat ((u8w n9)))) (P_intu8 Tryz.underlying3 Tryz.underlying5 rfl) rfl (Zo bE rfl ?_));obtain ⟨y130,xE,h⟩:=bsome h;refine EL_p (Iz (y130)) (P_int rfl rfl (congrArg (Option.map (Value.int .i64)) xE)) rfl (EL_p (.int .u8 (UInt8.toNat ((u8w y130)))) (P_intu8 Tryz.underlying3 Tryz.underlying5 rfl) rfl (Zg (.int .u8 (UInt8.toNat ((u8w n9)))) rfl rfl (Zg (.int .u8 (UInt8.toNat ((u8w y130)))) rfl rfl (EL_nt (E_ret ?_)))));obtain rfl:=sinj h;exact end2 rfl rfl (rq (.int .u8 (UInt8.toNat ((u8w n9))))) (rq (.int .u8 (UInt8.toNat ((u8w y130))))) ⟨_,hfr,_,_,rfl,rfl,rfl⟩
def f108 (x0:List BookTie) (x1:BookTie→Option Str):Option ((List Str)):=
 Option.bind (α:=(List Str)) (
  lp (σ:=(List Str) × Int) (fun rE (l9,l5)=>
   bif (decide (l5 < ((x0).length : Int))) then
    Option.bind (α:=(List Str)) (
     (idx x0 l5).bind fun uE=>
     (x1 uE).bind fun lB=>
     (apnd 16 l9 (([lB]:List Str))).bind fun vE=>
     some (vE)
     ) fun l8=>
    rE (l8,(w64 (l5 + (1:Int))))
   else
    some (l9)
   ) big ([],(0:Int))
  ) fun n8=>
 some (n8)
theorem en108:Enters Tryz.prog 108:=enters_of Tryz.func108 (by kernel_rfl) rfl
theorem wk108 {gI:Gh} {wI:World} {x0:List BookTie} {x1:BookTie→Option Str} {up0:Value} (rp0:RV gI.m wI x0 up0) {up1:Value} (rp1:FnV1 Tryz.prog x1 up1 gI wI) {r:(List Str)} (h:f108 x0 x1=some r):Fn Tryz.prog 108 #[up0,up1] gI wI (fun m w v=>RV m w (r) v):=by
 unfold f108 at h;refine fnE Tryz.func108 rfl rfl fun g0 hm hfr=>?_;have rp0:=RVc hm rp0;obtain ⟨ff1,fa1,fc1,rfl,fen1,fcl1⟩:=rp1;show E _ 21 none _ _ _ _ _;refine E_sr (Zg (.slice none 0 0) rfl rfl (EL_nt ?_));obtain ⟨n8,hx,h⟩:=bsome h;refine E_join (fun e w=>∃ (g:Gh) (v4:Value),Fr gI wI g w∧e 4=v4∧RV g.m w (n8:List Str) v4∧OS 1004 g w 9 (n8:List Str) v4) (fun Q' hQ=>?_) (fun kG sG hR=>?_)
 ·replace h := hx
  clear hx;refine E_sr (Zn up0 rfl rfl (EL_p (Iz ((x0).length:Int)) (P_len Tryz.underlying36 rfl rp0) rfl (Zn (Iz (0)) rfl rfl (EL_nt (Zr (E_lp h (fun (s:(List Str) × Int) e w=>∃ (g:Gh) (v4:Value),Fr gI wI g w∧e 1=(.func (.func ff1) fa1 fc1)∧e 4=v4∧RV g.m w (s.1:List Str) v4∧OS 1004 g w 9 (s.1:List Str) v4∧e 7=up0∧RV g.m w (x0:List BookTie) up0∧e 8=Iz (((x0).length:Int))∧e 9=Iz (s.2)) ⟨g0,(.slice none 0 0),hfr,rfl,rfl,RV_nil,OS.nil,rfl,rp0,rfl,rfl⟩ (fun X27 rE cF=>?_)))))));rintro ⟨l9,l5⟩ lG xG ⟨cC,cD,hfr,mB,nB,t5,i6,oB,o0,yB,n9⟩ h;refine E_sr (EL_in (.bool ((decide (l5 < ((x0).length:Int))))) n9 yB rfl rfl (EL_nt (Zf ?_)));rcases Zt h with ⟨aB,h⟩ | ⟨aB,h⟩
  ·refine E_ct aB rfl (Zu (Zd ?_))
   obtain ⟨l8,hx,h⟩:=bsome h;refine E_join (fun e w=>∃ (g:Gh) (v4:Value),Fr gI wI g w∧e 1=(.func (.func ff1) fa1 fc1)∧e 4=v4∧RV g.m w (l8:List Str) v4∧OS 1004 g w 9 (l8:List Str) v4∧e 7=up0∧RV g.m w (x0:List BookTie) up0∧e 8=Iz (((x0).length:Int))∧e 9=Iz (l5)) (fun Q' hQ=>?_) (fun mG yG hR=>?_)
   ·replace h := hx
    clear hx;refine Zr (E_sr ?_);obtain ⟨uE,uC,h⟩:=bsome h;refine EL_p (ePtr up0 l5 3) (Zh (α:=BookTie) Tryz.underlying36 Tryz.sizeOf108 oB o0 n9 uC) rfl ?_;have rF:=PT_idx o0 uC;refine EL_d0 rfl (D_load (g:=cC) Tryz.isAgg108 Tryz.sizeOf108 rfl rF fun sF bD=>(EL_d0 rfl (D_allocOc (g:=cC) 2006 (⟨⟨[]⟩,⟨0,[]⟩⟩:BookTie) Tryz.zeroValue108 (fun m w=>⟨_,(rep_two rep_str (rep_two rep_int rep_nil)),rfl⟩) fun xE tF uF hs b44 cb=>?_)));have hfr:=hfr.stp hs;have t5:=t5.stp hs;have i6:=i6.stp hs rfl;have o0:=o0.stp hs;have bD:=bD.stp hs;have iG:OSF 2006 60602 2 xE tF 3 108 ([]:List Int) uF:=cb.osf (by rfl);clear cb;refine EL_d0 rfl (D_storeOc (g:=xE) (v:=sF) Tryz.sizeOf108 rfl b44 rfl bD fun yE zG hs b45 cb=>?_);clear cb;have hfr:=hfr.stp hs;have t5:=t5.stp hs;have i6:=i6.stp hs rfl;have o0:=o0.stp hs;refine EL_nt (Za (Zo nB rfl (Zo mB rfl (EL_d0 rfl (D_loadO (g:=yE) Tryz.isAgg108 Tryz.sizeOf108 rfl b45 fun vF xF=>?_)))));obtain ⟨lB,dF,h⟩:=bsome h;refine EL_d0 rfl (D_callv (g:=yE) (vs:=[vF]) rfl fen1 (.cons rfl .nil) (fcl1 _ _ hfr.ch _ _ _  xF dF) fun yF aH cH hs hr=>?_);have hfr:=hfr.ext hs;have t5:=t5.ext hs;have i6:=i6.ext hs;have o0:=o0.ext hs;obtain rfl:=RV_str.1 hr;refine EL_d0 rfl (D_buildSlice (g:=yF) 3017 (xs:=([lB]:List Str)) (vs:=[Str.v (lB)]) Tryz.underlying104 Tryz.sizeOf9 Tryz.zeroValue9 rfl rfl (.cons rfl .nil) (RVs.cons (RV_str.2 rfl) RVs.nil) rfl rfl fun aG gH jH hs o49 bG hxt hfl=>?_);have hfr:=hfr.stp hs;have t5:=t5.stp hs;have i6:=i6.stp hs rfl;have o0:=o0.stp hs;obtain ⟨vE,eF,h⟩:=bsome h;refine EL_d0 rfl (D_append (g:=aG) (i:=1004) Tryz.underlying104 info_9 rfl rfl i6 t5 rfl bG eF fun cG kH zE hs o50 eG _=>?_);have hfr:=hfr.stp hs;have o0:=o0.stp hs;refine Zg zE rfl rfl (Zb (blk_n ?_));obtain rfl:=sinj h;exact hQ _ _ ⟨cG,(zE),hfr,mB,rfl,eG,o50,oB,o0,yB,n9⟩
   ·clear hx
    obtain ⟨gG,lD,hfr,nD,oD,yD,zD,aE,bE,iE,lE⟩:=hR;refine Za (EL_in (Iz ((w64 (l5 + (1:Int))))) lE rfl rfl rfl (Zn (Iz ((w64 (l5 + (1:Int))))) rfl rfl ?_));exact EL_nt (cF (l8,(w64 (l5 + (1:Int)))) _ _ ⟨gG,(lD),hfr,nD,oD,yD,zD,aE,bE,iE,rfl⟩ h)
  ·refine E_cf aB rfl (E_exit (thn_e (thn_e (blk_hit ?_))))
   obtain rfl:=sinj h;exact hQ _ _ ⟨cC,(cD),hfr,nB,t5,i6⟩
 ·clear hx
  obtain ⟨lH,zB,hfr,mE,oE,jG⟩:=hR;refine E_sr (Zo mE rfl (Zg zB rfl rfl (EL_nt (E_ret ?_))));obtain rfl:=sinj h;exact end1 rfl rfl (rq zB) ⟨_,hfr,oE⟩
def f109 (x0:BookTie):Option (Str):=
 some ((x0).Name)
theorem en109:Enters Tryz.prog 109:=enters_of Tryz.func109 (by kernel_rfl) rfl
theorem wk109 {gI:Gh} {wI:World} {x0:BookTie} {up0:Value} (rp0:RV gI.m wI x0 up0) {r:Str} (h:f109 x0=some r):Fn Tryz.prog 109 #[up0] gI wI (fun _ _ v=>v=Str.v (r)):=by
 unfold f109 at h;refine fnE Tryz.func109 rfl rfl fun g0 hm hfr=>?_;have rp0:=RVc hm rp0;show E _ 5 none _ _ _ _ _;refine E_sr (EL_d0 rfl (D_box (g:=g0) rfl rp0 fun g1 w1 p1 hs q1=>?_));have hfr:=hfr.ext hs;refine Zg (Str.v (⟨[]⟩:Str)) rfl rfl (EL_nt (E_sr (EL_p (fPtr p1 0) (Zc at_108_0 rfl (PT.ptr q1)) rfl ?_)));have q2:=Zm (part_BookTie_0).1 q1;refine EL_d0 rfl (D_load (g:=g1) Tryz.isAgg9 Tryz.sizeOf9 rfl q2 fun v3 r3=>?_);obtain rfl:=RV_str.1 r3;refine Zg (Str.v ((x0).Name)) rfl rfl (EL_nt (E_ret ?_));obtain rfl:=sinj h;exact end1 rfl rfl (rq (Str.v ((x0).Name))) ⟨_,hfr,rfl⟩
def f110 (x0:List BookChain) (x1:BookChain→Option Str):Option ((List Str)):=
 Option.bind (α:=(List Str)) (
  lp (σ:=(List Str) × Int) (fun rE (l9,l5)=>
   bif (decide (l5 < ((x0).length : Int))) then
    Option.bind (α:=(List Str)) (
     (idx x0 l5).bind fun uE=>
     (x1 uE).bind fun lB=>
     (apnd 16 l9 (([lB]:List Str))).bind fun vE=>
     some (vE)
     ) fun l8=>
    rE (l8,(w64 (l5 + (1:Int))))
   else
    some (l9)
   ) big ([],(0:Int))
  ) fun n8=>
 some (n8)
theorem en110:Enters Tryz.prog 110:=enters_of Tryz.func110 (by kernel_rfl) rfl
theorem wk110 {gI:Gh} {wI:World} {x0:List BookChain} {x1:BookChain→Option Str} {up0:Value} (rp0:RV gI.m wI x0 up0) {up1:Value} (rp1:FnV1 Tryz.prog x1 up1 gI wI) {r:(List Str)} (h:f110 x0 x1=some r):Fn Tryz.prog 110 #[up0,up1] gI wI (fun m w v=>RV m w (r) v):=by
 unfold f110 at h;refine fnE Tryz.func110 rfl rfl fun g0 hm hfr=>?_;have rp0:=RVc hm rp0;obtain ⟨ff1,fa1,fc1,rfl,fen1,fcl1⟩:=rp1;show E _ 21 none _ _ _ _ _;refine E_sr (Zg (.slice none 0 0) rfl rfl (EL_nt ?_));obtain ⟨n8,hx,h⟩:=bsome h;refine E_join (fun e w=>∃ (g:Gh) (v4:Value),Fr gI wI g w∧e 4=v4∧RV g.m w (n8:List Str) v4∧OS 1004 g w 9 (n8:List Str) v4) (fun Q' hQ=>?_) (fun kG sG hR=>?_)
 ·replace h := hx
  clear hx;refine E_sr (Zn up0 rfl rfl (EL_p (Iz ((x0).length:Int)) (P_len Tryz.underlying37 rfl rp0) rfl (Zn (Iz (0)) rfl rfl (EL_nt (Zr (E_lp h (fun (s:(List Str) × Int) e w=>∃ (g:Gh) (v4:Value),Fr gI wI g w∧e 1=(.func (.func ff1) fa1 fc1)∧e 4=v4∧RV g.m w (s.1:List Str) v4∧OS 1004 g w 9 (s.1:List Str) v4∧e 7=up0∧RV g.m w (x0:List BookChain) up0∧e 8=Iz (((x0).length:Int))∧e 9=Iz (s.2)) ⟨g0,(.slice none 0 0),hfr,rfl,rfl,RV_nil,OS.nil,rfl,rp0,rfl,rfl⟩ (fun X27 rE cF=>?_)))))));rintro ⟨l9,l5⟩ lG xG ⟨cC,cD,hfr,mB,nB,t5,i6,oB,o0,yB,n9⟩ h;refine E_sr (EL_in (.bool ((decide (l5 < ((x0).length:Int))))) n9 yB rfl rfl (EL_nt (Zf ?_)));rcases Zt h with ⟨aB,h⟩ | ⟨aB,h⟩
  ·refine E_ct aB rfl (Zu (Zd ?_))
   obtain ⟨l8,hx,h⟩:=bsome h;refine E_join (fun e w=>∃ (g:Gh) (v4:Value),Fr gI wI g w∧e 1=(.func (.func ff1) fa1 fc1)∧e 4=v4∧RV g.m w (l8:List Str) v4∧OS 1004 g w 9 (l8:List Str) v4∧e 7=up0∧RV g.m w (x0:List BookChain) up0∧e 8=Iz (((x0).length:Int))∧e 9=Iz (l5)) (fun Q' hQ=>?_) (fun mG yG hR=>?_)
   ·replace h := hx
    clear hx;refine Zr (E_sr ?_);obtain ⟨uE,uC,h⟩:=bsome h;refine EL_p (ePtr up0 l5 3) (Zh (α:=BookChain) Tryz.underlying37 Tryz.sizeOf94 oB o0 n9 uC) rfl ?_;have rF:=PT_idx o0 uC;refine EL_d0 rfl (D_load (g:=cC) Tryz.isAgg94 Tryz.sizeOf94 rfl rF fun sF bD=>(EL_d0 rfl (D_allocOc (g:=cC) 2006 (⟨⟨[]⟩,⟨0,[]⟩⟩:BookChain) Tryz.zeroValue94 (fun m w=>⟨_,(rep_two rep_str (rep_two rep_int rep_nil)),rfl⟩) fun xE tF uF hs b44 cb=>?_)));have hfr:=hfr.stp hs;have t5:=t5.stp hs;have i6:=i6.stp hs rfl;have o0:=o0.stp hs;have bD:=bD.stp hs;have iG:OSF 2006 60602 2 xE tF 96 94 ([]:List ChainCard) uF:=cb.osf (by rfl);clear cb;refine EL_d0 rfl (D_storeOc (g:=xE) (v:=sF) Tryz.sizeOf94 rfl b44 rfl bD fun yE zG hs b45 cb=>?_);clear cb;have hfr:=hfr.stp hs;have t5:=t5.stp hs;have i6:=i6.stp hs rfl;have o0:=o0.stp hs;refine EL_nt (Za (Zo nB rfl (Zo mB rfl (EL_d0 rfl (D_loadO (g:=yE) Tryz.isAgg94 Tryz.sizeOf94 rfl b45 fun vF xF=>?_)))));obtain ⟨lB,dF,h⟩:=bsome h;refine EL_d0 rfl (D_callv (g:=yE) (vs:=[vF]) rfl fen1 (.cons rfl .nil) (fcl1 _ _ hfr.ch _ _ _  xF dF) fun yF aH cH hs hr=>?_);have hfr:=hfr.ext hs;have t5:=t5.ext hs;have i6:=i6.ext hs;have o0:=o0.ext hs;obtain rfl:=RV_str.1 hr;refine EL_d0 rfl (D_buildSlice (g:=yF) 3017 (xs:=([lB]:List Str)) (vs:=[Str.v (lB)]) Tryz.underlying104 Tryz.sizeOf9 Tryz.zeroValue9 rfl rfl (.cons rfl .nil) (RVs.cons (RV_str.2 rfl) RVs.nil) rfl rfl fun aG gH jH hs o49 bG hxt hfl=>?_);have hfr:=hfr.stp hs;have t5:=t5.stp hs;have i6:=i6.stp hs rfl;have o0:=o0.stp hs;obtain ⟨vE,eF,h⟩:=bsome h;refine EL_d0 rfl (D_append (g:=aG) (i:=1004) Tryz.underlying104 info_9 rfl rfl i6 t5 rfl bG eF fun cG kH zE hs o50 eG _=>?_);have hfr:=hfr.stp hs;have o0:=o0.stp hs;refine Zg zE rfl rfl (Zb (blk_n ?_));obtain rfl:=sinj h;exact hQ _ _ ⟨cG,(zE),hfr,mB,rfl,eG,o50,oB,o0,yB,n9⟩
   ·clear hx
    obtain ⟨gG,lD,hfr,nD,oD,yD,zD,aE,bE,iE,lE⟩:=hR;refine Za (EL_in (Iz ((w64 (l5 + (1:Int))))) lE rfl rfl rfl (Zn (Iz ((w64 (l5 + (1:Int))))) rfl rfl ?_));exact EL_nt (cF (l8,(w64 (l5 + (1:Int)))) _ _ ⟨gG,(lD),hfr,nD,oD,yD,zD,aE,bE,iE,rfl⟩ h)
  ·refine E_cf aB rfl (E_exit (thn_e (thn_e (blk_hit ?_))))
   obtain rfl:=sinj h;exact hQ _ _ ⟨cC,(cD),hfr,nB,t5,i6⟩
 ·clear hx
  obtain ⟨lH,zB,hfr,mE,oE,jG⟩:=hR;refine E_sr (Zo mE rfl (Zg zB rfl rfl (EL_nt (E_ret ?_))));obtain rfl:=sinj h;exact end1 rfl rfl (rq zB) ⟨_,hfr,oE⟩
def f111 (x0:BookChain):Option (Str):=
 some ((x0).Name)
theorem en111:Enters Tryz.prog 111:=enters_of Tryz.func111 (by kernel_rfl) rfl
theorem wk111 {gI:Gh} {wI:World} {x0:BookChain} {up0:Value} (rp0:RV gI.m wI x0 up0) {r:Str} (h:f111 x0=some r):Fn Tryz.prog 111 #[up0] gI wI (fun _ _ v=>v=Str.v (r)):=by
 unfold f111 at h;refine fnE Tryz.func111 rfl rfl fun g0 hm hfr=>?_;have rp0:=RVc hm rp0;show E _ 5 none _ _ _ _ _;refine E_sr (EL_d0 rfl (D_box (g:=g0) rfl rp0 fun g1 w1 p1 hs q1=>?_));have hfr:=hfr.ext hs;refine Zg (Str.v (⟨[]⟩:Str)) rfl rfl (EL_nt (E_sr (EL_p (fPtr p1 0) (Zc at_94_0 rfl (PT.ptr q1)) rfl ?_)));have q2:=Zm (part_BookChain_0).1 q1;refine EL_d0 rfl (D_load (g:=g1) Tryz.isAgg9 Tryz.sizeOf9 rfl q2 fun v3 r3=>?_);obtain rfl:=RV_str.1 r3;refine Zg (Str.v ((x0).Name)) rfl rfl (EL_nt (E_ret ?_));obtain rfl:=sinj h;exact end1 rfl rfl (rq (Str.v ((x0).Name))) ⟨_,hfr,rfl⟩
def f117 (x0:List ChainCard) (x1:List ChainCard):Option (Bool):=
 jn (σ:=Unit) (fun _=>
  jn (σ:=Unit) (fun _=>
   some (true)
   ) fun k53=>
  lp (σ:=Int) (fun k54 o0=>
   jn (σ:=Unit) (fun _=>
    jn (σ:=Unit) (fun _=>
     k54 ((w64 (o0 + (1:Int))))
     ) fun yD=>
    (idx x0 o0).bind fun nB=>
    (idx x1 o0).bind fun oB=>
    bif (!(decide (nB = oB))) then
     some (false)
    else
     yD ()
    ) fun k57=>
   bif (decide (o0 < ((x0).length : Int))) then
    k57 ()
   else
    k53 ()
   ) big ((0:Int))
  ) fun k2=>
 bif (((x0).length : Int) != ((x1).length : Int)) then
  some (false)
 else
  k2 ()
theorem en117:Enters Tryz.prog 117:=enters_of Tryz.func117 (by kernel_rfl) rfl
theorem wk117 {gI:Gh} {wI:World} {x0:List ChainCard} {x1:List ChainCard} {up0:Value} (rp0:RV gI.m wI x0 up0) {up1:Value} (rp1:RV gI.m wI x1 up1) {r:Bool} (h:f117 x0 x1=some r):Fn Tryz.prog 117 #[up0,up1] gI wI (fun _ _ v=>v=.bool (r)):=by
 unfold f117 at h;refine fnE Tryz.func117 rfl rfl fun g0 hm hfr=>?_;have rp0:=RVc hm rp0;have rp1:=RVc hm rp1;show E _ 26 none _ _ _ _ _;refine E_sr (Zg (.bool false) rfl rfl (EL_nt (Zq h (fun (s:Unit) e w=>∃ (g:Gh) ,Fr gI wI g w∧e 0=up0∧RV g.m w (x0:List ChainCard) up0∧e 1=up1∧RV g.m w (x1:List ChainCard) up1) (fun X2 k2 hk2 h=>?_) ?_)))
 ·refine E_sr (Zn up0 rfl rfl (EL_p (Iz ((x0).length : Int)) (P_len Tryz.underlying90 rfl rp0) rfl (Zn up1 rfl rfl (EL_p (Iz ((x1).length : Int)) (P_len Tryz.underlying90 rfl rp1) rfl (EL_in (.bool ((((x0).length : Int) != ((x1).length : Int)))) rfl rfl rfl rfl (EL_nt ?_))))))
  rcases Zt h with ⟨hc3,h⟩ | ⟨hc3,h⟩
  ·refine E_ct hc3 rfl (E_sr (Zg (.bool false) rfl rfl (EL_nt (E_ret (thn_r ?_)))))
   obtain rfl:=sinj h;exact end1 rfl rfl (rq (.bool false)) ⟨_,hfr,rfl⟩
  ·refine E_cf hc3 rfl ?_
   exact Zu (Zd (hk2 () _ _ ⟨g0,hfr,rfl,rp0,rfl,rp1⟩ h))
 ·rintro _ gG w4 ⟨g4, hfr, aE, bE, iE, lE⟩ h
  refine Zq h (fun (s:Unit) e w=>∃ (g:Gh) ,Fr gI wI g w) (fun X53 k53 mE h=>?_) ?_
  ·refine E_sr (Zg (Iz (0)) rfl rfl (EL_nt (Zr (E_lp h (fun (s : Int) e w => ∃ (g : Gh) , Fr gI wI g w ∧ e 0 = up0 ∧ RV g.m w (x0 : List ChainCard) up0 ∧ e 1 = up1 ∧ RV g.m w (x1 : List ChainCard) up1 ∧ e 5 = Iz (s)) ⟨g4, hfr, aE, bE, iE, lE, rfl⟩ (fun X54 k54 oE => ?_)))))
   rintro o0 yF iG ⟨zD,hfr,l9,n9,nD,oD,aB⟩ h;refine Zq h (fun (s:Unit) e w=>∃ (g:Gh) ,Fr gI wI g w∧e 0=up0∧RV g.m w (x0:List ChainCard) up0∧e 1=up1∧RV g.m w (x1:List ChainCard) up1∧e 5=Iz (o0)) (fun X57 k57 rE h=>?_) ?_
   ·refine E_sr (Zo aB rfl (Zo l9 rfl (EL_p (Iz ((x0).length : Int)) (P_len Tryz.underlying90 rfl n9) rfl (EL_in (.bool ((decide (o0 < ((x0).length : Int))))) rfl rfl rfl rfl (EL_nt ?_)))))
    rcases Zt h with ⟨n8,h⟩ | ⟨n8,h⟩
    ·refine E_ct n8 rfl ?_
     exact Zu (Zd (rE () _ _ ⟨zD,hfr,l9,n9,nD,oD,aB⟩ h))
    ·refine E_cf n8 rfl (E_exit (thn_e (thn_e (blk_hit ?_))))
     exact Zd (mE () _ _ ⟨zD,hfr⟩ h)
   ·rintro _ aG jG ⟨zE, hfr, lB, l5, mB, t5, i6⟩ h
    refine Zq h (fun (s:Unit) e w=>∃ (g:Gh) ,Fr gI wI g w∧e 0=up0∧RV g.m w (x0:List ChainCard) up0∧e 1=up1∧RV g.m w (x1:List ChainCard) up1∧e 5=Iz (o0)) (fun X81 yD uE h=>?_) ?_
    ·refine Zr (Zf ?_)
     obtain ⟨nB,yB,h⟩:=bsome h;have cF:=PT_idx l5 yB;refine Zs (x:=.tmp 19) Tryz.isAgg96 Tryz.sizeOf96 cF fun dF eF vE=>?_;obtain ⟨oB,zB,h⟩:=bsome h;have rF:=PT_idx t5 zB;refine Zs (x:=.tmp 23) Tryz.isAgg96 Tryz.sizeOf96 rF fun sF tF xE=>(E_drawL (g:=zE) (n:=9) [] [0,1,2,3,4,5,6,7,8] rfl mixed (by kernel_rfl) trivial (L_p up0 rfl rfl (Zk lB) (L_p (Iz (o0)) rfl rfl (Zk i6) (L_p (ePtr up0 o0 3) rfl rfl (Zh (α:=ChainCard) Tryz.underlying90 Tryz.sizeOf96 rfl l5 rfl yB) (L_ld (c:=dF) rfl rfl .plain (fun _ _ h=>h.ch) vE rfl (L_p up1 rfl rfl (Zk mB) (L_p (Iz (o0)) rfl rfl (Zk i6) (L_p (ePtr up1 o0 3) rfl rfl (Zh (α:=ChainCard) Tryz.underlying90 Tryz.sizeOf96 rfl t5 rfl zB) (L_ld (c:=sF) rfl rfl .plain (fun _ _ h=>h.ch) xE rfl (L_p (.bool ((!(decide (nB=oB))))) rfl rfl (P_sne seq_96 rfl eg_96 rfl rfl eF tF) (L_nl fun uF kG hs=>?_)))))))))));have hfr:=hfr.ext hs;have l5:=l5.ext hs;have t5:=t5.ext hs;clear hs;refine EL_nt ?_;rcases Zt h with ⟨l8,h⟩ | ⟨l8,h⟩
     ·refine E_ct l8 rfl (E_sr (Zg (.bool false) rfl rfl (EL_nt (E_ret (blk_r (thn_r (thn_r (blk_r (thn_r ?_)))))))))
      obtain rfl:=sinj h;exact end1 rfl rfl (rq (.bool false)) ⟨_,hfr,rfl⟩
     ·refine E_cf l8 rfl ?_
      exact Zu (blk_n (Zd (uE () _ _ ⟨uF,hfr,lB,l5,mB,t5,i6⟩ h)))
    ·rintro _ vF bG ⟨yE, hfr, cC, uC, bD, cD, lD⟩ h
     refine Za (Zo lD rfl (EL_in (Iz ((w64 (o0 + (1:Int))))) rfl rfl rfl rfl (Zg (Iz ((w64 (o0 + (1:Int))))) rfl rfl ?_)));exact EL_nt (oE ((w64 (o0 + (1:Int)))) _ _ ⟨yE,hfr,cC,uC,bD,cD,rfl⟩ h)
  ·rintro _ xF cG ⟨eG, hfr⟩ h
   refine E_sr (Zg (.bool true) rfl rfl (EL_nt (E_ret ?_)));obtain rfl:=sinj h;exact end1 rfl rfl (rq (.bool true)) ⟨_,hfr,rfl⟩
def f129 (x0:List Int):Option (Int):=
 jn (σ:=Unit) (fun _=>
  some ((0:Int))
  ) fun k14=>
 lp (σ:=Int) (fun uC o0=>
  bif (decide (o0 < ((x0).length : Int))) then
   jn (σ:=Unit) (fun _=>
    uC ((w64 (o0 + (1:Int))))
    ) fun bD=>
   (idx x0 o0).bind fun y23=>
   bif (y23 != (0 : Int)) then
    some (y23)
   else
    bD ()
  else
   k14 ()
  ) big ((0:Int))
theorem en129:Enters Tryz.prog 129:=enters_of Tryz.func129 (by kernel_rfl) rfl
theorem wk129 {gI:Gh} {wI:World} {x0:List Int} {up0:Value} (rp0:RV gI.m wI x0 up0) {r:Int} (h:f129 x0=some r):Fn Tryz.prog 129 #[up0] gI wI (fun _ _ v=>v=Iz (r)):=by
 unfold f129 at h;refine fnE Tryz.func129 rfl rfl fun g0 hm hfr=>?_;have rp0:=RVc hm rp0;show E _ 18 none _ _ _ _ _;refine E_sr (Zg (Iz (0)) rfl rfl (EL_nt (E_sr (Zg (Iz (0)) rfl rfl (EL_nt (Zq h (fun (s:Unit) e w=>∃ (g:Gh) ,Fr gI wI g w∧e 3=Iz ((0:Int))) (fun X14 k14 cD h=>?_) ?_))))))
 ·refine E_sr (Zn up0 rfl rfl (EL_p (Iz ((x0).length : Int)) (P_len Tryz.underlying22 rfl rp0) rfl (Zn (Iz (0)) rfl rfl (EL_nt (Zr (E_lp h (fun (s : Int) e w => ∃ (g : Gh) , Fr gI wI g w ∧ e 3 = Iz ((0 : Int)) ∧ e 6 = up0 ∧ RV g.m w (x0 : List Int) up0 ∧ e 7 = Iz (((x0).length : Int)) ∧ e 8 = Iz (s)) ⟨g0, hfr, rfl, rfl, rp0, rfl, rfl⟩ (fun X15 uC lD => ?_)))))))
  rintro o0 aE lE ⟨aB,hfr,l5,l9,t5,n9,i6⟩ h;refine E_sr (EL_in (.bool ((decide (o0 < ((x0).length:Int))))) i6 n9 rfl rfl (EL_nt (Zf ?_)));rcases Zt h with ⟨l8,h⟩ | ⟨l8,h⟩
  ·refine E_ct l8 rfl (Zu (Zd (Zq h (fun (s : Unit) e w => ∃ (g : Gh) , Fr gI wI g w ∧ e 3 = Iz ((0 : Int)) ∧ e 6 = up0 ∧ RV g.m w (x0 : List Int) up0 ∧ e 7 = Iz (((x0).length : Int)) ∧ e 8 = Iz (o0)) (fun X22 bD nD h => ?_) ?_)))
   ·refine Zr (E_sr ?_)
    obtain ⟨y23,lB,h⟩:=bsome h;refine EL_p (ePtr up0 o0 1) (Zh (α:=Int) Tryz.underlying22 Tryz.sizeOf3 l9 t5 i6 lB) rfl ?_;have oD:=PT_idx t5 lB;refine EL_d0 rfl (D_load (g:=aB) Tryz.isAgg3 Tryz.sizeOf3 rfl oD fun mE yD=>?_);obtain rfl:=Zj.1 yD;refine Zg (Iz (y23)) rfl rfl (EL_nt (E_sr (Zn (Iz (y23)) rfl rfl (Zo l5 rfl (EL_in (.bool ((y23 != (0:Int)))) rfl rfl rfl rfl (EL_nt ?_))))));rcases Zt h with ⟨n8,h⟩ | ⟨n8,h⟩
    ·refine E_ct n8 rfl (E_sr (Zn (Iz (y23)) rfl rfl (Zg (Iz (y23)) rfl rfl (EL_nt (E_ret (blk_r (thn_r (thn_r (blk_r (thn_r ?_))))))))))
     obtain rfl:=sinj h;exact end1 rfl rfl (rq (Iz (y23))) ⟨_,hfr,rfl⟩
    ·refine E_cf n8 rfl ?_
     exact Zu (blk_n (Zd (nD () _ _ ⟨aB,hfr,l5,l9,t5,n9,i6⟩ h)))
   ·rintro _ bE oE ⟨zD, hfr, mB, nB, oB, yB, zB⟩ h
    refine Za (EL_in (Iz ((w64 (o0 + (1:Int))))) zB rfl rfl rfl (Zn (Iz ((w64 (o0 + (1:Int))))) rfl rfl ?_));exact EL_nt (lD ((w64 (o0 + (1:Int)))) _ _ ⟨zD,hfr,mB,nB,oB,yB,rfl⟩ h)
  ·refine E_cf l8 rfl (E_exit (thn_e (thn_e (blk_hit ?_))))
   exact Zd (cD () _ _ ⟨aB,hfr,l5⟩ h)
 ·rintro _ iE rE ⟨uE, hfr, cC⟩ h
  refine E_sr (Zo cC rfl (Zg (Iz ((0:Int))) rfl rfl (EL_nt (E_ret ?_))));obtain rfl:=sinj h;exact end1 rfl rfl (rq (Iz ((0:Int)))) ⟨_,hfr,rfl⟩
def f131 (x0:Vector UInt8 8):Option (UInt8 × UInt8):=
 Option.bind (α:=UInt8 × UInt8) (
  (cut ((x0).toList) 0 (6:Int)).bind fun t5=>
  lp (σ:=UInt8 × UInt8 × Int) (fun lE (i6,l8,o0)=>
   bif (decide (o0 < ((t5).length : Int))) then
    Option.bind (α:=UInt8 × UInt8) (
     (idx t5 o0).bind fun l5=>
     some ((i6 + l5),(l8 + ((u8w ((w64 (o0 + (1:Int))))) * l5)))
     ) fun (n9,aB)=>
    lE (n9,aB,(w64 (o0 + (1:Int))))
   else
    some (i6,l8)
   ) big ((0:UInt8),(0:UInt8),(0:Int))
  ) fun (n8,l9)=>
 some (n8,l9)
theorem en131:Enters Tryz.prog 131:=enters_of Tryz.func131 (by kernel_rfl) rfl
theorem wk131 {gI:Gh} {wI:World} {x0:Vector UInt8 8} {up0:Value} (rp0:RV gI.m wI x0 up0) {r:UInt8 × UInt8} (h:f131 x0=some r):Fn Tryz.prog 131 #[up0] gI wI (fun m w v=>∃ y0 y1,v=.tuple #[y0,y1]∧y0=.int .u8 (UInt8.toNat (r.1))∧y1=.int .u8 (UInt8.toNat (r.2))):=by
 unfold f131 at h;refine fnE Tryz.func131 rfl rfl fun g0 hm hfr=>?_;have rp0:=RVc hm rp0;show E _ 26 none _ _ _ _ _;refine E_sr (EL_d0 rfl (D_box (g:=g0) rfl rp0 fun g1 w1 p1 hs q1=>?_));have hfr:=hfr.ext hs;refine Zg (.int .u8 (UInt8.toNat 0)) rfl rfl (Zg (.int .u8 (UInt8.toNat 0)) rfl rfl (EL_nt ?_));obtain ⟨⟨n8,l9⟩,hx,h⟩:=bsome h;refine E_join (fun e w=>∃ (g:Gh) ,Fr gI wI g w∧e 2=.int .u8 (UInt8.toNat (n8))∧e 3=.int .u8 (UInt8.toNat (l9))) (fun Q' hQ=>?_) (fun xE cF hR=>?_)
 ·replace h := hx
  clear hx;refine E_sr ?_;obtain ⟨t5,uC,h⟩:=bsome h;have mE:=RV_cut (RV_arr (p:=p1) q1) uC;refine EL_p ((cutV (arrV p1 8) 0 (Int.toNat (6:Int)) 1)) (P_sliceArr (p:=p1) Tryz.underlying155 Tryz.sizeOf5 rfl q1 rfl uC) rfl (EL_p (Iz ((t5).length:Int)) (P_len Tryz.underlying50 rfl mE) rfl (Zn (Iz (0)) rfl rfl (EL_nt (Zr (E_lp h (fun (s:UInt8 × UInt8 × Int) e w=>∃ (g:Gh) ,Fr gI wI g w∧e 2=.int .u8 (UInt8.toNat (s.1))∧e 3=.int .u8 (UInt8.toNat (s.2.1))∧e 6=(cutV (arrV p1 8) 0 (Int.toNat (6:Int)) 1)∧RV g.m w (t5:List UInt8) (cutV (arrV p1 8) 0 (Int.toNat (6:Int)) 1)∧e 7=Iz (((t5).length:Int))∧e 8=Iz (s.2.2)) ⟨g1,hfr,rfl,rfl,rfl,mE,rfl,rfl⟩ (fun X16 lE oE=>?_))))));rintro ⟨i6,l8,o0⟩ yE dF ⟨bD,hfr,oB,yB,zB,mB,cC,lB⟩ h;refine E_sr (EL_in (.bool ((decide (o0 < ((t5).length:Int))))) lB cC rfl rfl (EL_nt (Zf ?_)));rcases Zt h with ⟨nB,h⟩ | ⟨nB,h⟩
  ·refine E_ct nB rfl (Zu (Zd ?_))
   obtain ⟨⟨n9,aB⟩,hx,h⟩:=bsome h;refine E_join (fun e w=>∃ (g:Gh) ,Fr gI wI g w∧e 2=.int .u8 (UInt8.toNat (n9))∧e 3=.int .u8 (UInt8.toNat (aB))∧e 6=(cutV (arrV p1 8) 0 (Int.toNat (6:Int)) 1)∧RV g.m w (t5:List UInt8) (cutV (arrV p1 8) 0 (Int.toNat (6:Int)) 1)∧e 7=Iz (((t5).length:Int))∧e 8=Iz (o0)) (fun Q' hQ=>?_) (fun zE eF hR=>?_)
   ·replace h := hx
    clear hx;refine Zr (E_sr (Zo lB rfl ?_));obtain ⟨l5,cD,h⟩:=bsome h;refine EL_p (ePtr ((cutV (arrV p1 8) 0 (Int.toNat (6:Int)) 1)) o0 1) (Zh (α:=UInt8) Tryz.underlying50 Tryz.sizeOf5 zB mB lB cD) rfl ?_;have rE:=PT_idx mB cD;refine EL_d0 rfl (D_load (g:=bD) Tryz.isAgg5 Tryz.sizeOf5 rfl rE fun rF uE=>?_);obtain rfl:=RV_u8.1 uE;refine Zg (Iz (o0)) rfl rfl (Zg (.int .u8 (UInt8.toNat (l5))) rfl rfl (EL_nt (E_sr (Zo oB rfl (Zn (.int .u8 (UInt8.toNat (l5))) rfl rfl (EL_p (.int .u8 (UInt8.toNat ((i6 + l5)))) (P_u8 rfl rfl rfl) rfl (Zg (.int .u8 (UInt8.toNat ((i6 + l5)))) rfl rfl (EL_nt (Za (Zo yB rfl (Zn (Iz (o0)) rfl rfl (EL_in (Iz ((w64 (o0 + (1:Int))))) rfl rfl rfl rfl (EL_p (.int .u8 (UInt8.toNat ((u8w ((w64 (o0 + (1:Int)))))))) (P_intu8 Tryz.underlying3 Tryz.underlying5 rfl) rfl (Zn (.int .u8 (UInt8.toNat (l5))) rfl rfl (EL_p (.int .u8 (UInt8.toNat (((u8w ((w64 (o0 + (1:Int))))) * l5)))) (P_mul8 rfl rfl) rfl (EL_p (.int .u8 (UInt8.toNat ((l8 + ((u8w ((w64 (o0 + (1:Int))))) * l5))))) (P_u8 rfl rfl rfl) rfl (EL_p (.int .u8 (UInt8.toNat ((l8 + ((u8w ((w64 (o0 + (1:Int))))) * l5))))) (P_assign rfl) rfl (Zb (blk_n ?_)))))))))))))))))));obtain ⟨rfl,rfl⟩:=pairs2 h;exact hQ _ _ ⟨bD,hfr,rfl,rfl,zB,mB,cC,lB⟩
   ·clear hx
    obtain ⟨vE,hfr,lD,nD,oD,yD,zD,aE⟩:=hR;refine Za (EL_in (Iz ((w64 (o0 + (1:Int))))) aE rfl rfl rfl (Zn (Iz ((w64 (o0 + (1:Int))))) rfl rfl ?_));exact EL_nt (oE (n9,aB,(w64 (o0 + (1:Int)))) _ _ ⟨vE,hfr,lD,nD,oD,yD,zD,rfl⟩ h)
  ·refine E_cf nB rfl (E_exit (thn_e (thn_e (blk_hit ?_))))
   obtain ⟨rfl,rfl⟩:=pairs2 h;exact hQ _ _ ⟨bD,hfr,oB,yB⟩
 ·clear hx
  obtain ⟨sF,hfr,bE,iE⟩:=hR;refine E_sr (Zo bE rfl (Zo iE rfl (Zg (.int .u8 (UInt8.toNat (n8))) rfl rfl (Zg (.int .u8 (UInt8.toNat (l9))) rfl rfl (EL_nt (E_ret ?_))))));obtain rfl:=sinj h;exact end2 rfl rfl (rq (.int .u8 (UInt8.toNat (n8)))) (rq (.int .u8 (UInt8.toNat (l9)))) ⟨_,hfr,_,_,rfl,rfl,rfl⟩
def f139 (x0:Int) (z0:Int) (z1:Int):Option (Bool):=
 Option.bind (α:=Bool) (
  bif (decide (x0 < z0)) then
   some (true)
  else
   some ((decide (x0 > z1)))
  ) fun o0=>
 some (o0)
theorem en139:Enters Tryz.prog 139:=enters_of Tryz.func139 (by kernel_rfl) rfl
theorem wk139 {gI:Gh} {wI:World} {x0:Int} {z0:Int} {z1:Int} {pf0:Value} (qf0:PT gI.m wI z0 pf0) {pf1:Value} (qf1:PT gI.m wI z1 pf1) {r:Bool} (h:f139 x0 z0 z1=some r):Fn Tryz.prog 139 #[Iz (x0),pf0,pf1] gI wI (fun _ _ v=>v=.bool (r)):=by
 unfold f139 at h;refine fnE Tryz.func139 rfl rfl fun g0 hm hfr=>?_;have qf0:PT g0.m wI z0 pf0:=hm ▸ qf0;have qf1:PT g0.m wI z1 pf1:=hm ▸ qf1;show E _ 13 none _ _ _ _ _;refine E_sr (Zg (.bool false) rfl rfl (EL_nt ?_));obtain ⟨o0,hx,h⟩:=bsome h;refine E_join (fun e w=>∃ (g:Gh) ,Fr gI wI g w∧e 4=.bool (o0)) (fun Q' hQ=>?_) (fun t5 w7 hR=>?_)
 ·replace h := hx
  clear hx;refine Za (Zn (Iz (x0)) rfl rfl (EL_d0 rfl (D_load (g:=g0) Tryz.isAgg3 Tryz.sizeOf3 rfl qf0 fun v4 r4=>?_)));obtain rfl:=Zj.1 r4;refine EL_in (.bool ((decide (x0 < z0)))) rfl rfl rfl rfl (Zn (.bool ((decide (x0 < z0)))) rfl rfl ?_);rcases Zt h with ⟨hc5,h⟩ | ⟨hc5,h⟩
  ·refine EL_s rfl rfl hc5 rfl rfl (EL_s rfl rfl hc5 rfl rfl (EL_s rfl rfl hc5 rfl rfl (EL_p (.bool true) (Zl (b := (decide (x0 < z0))) rfl (pick_t hc5 rfl)) rfl (Zg (.bool true) rfl rfl (Zb ?_)))))
   obtain rfl:=sinj h;exact hQ _ _ ⟨g0,hfr,rfl⟩
  ·refine EL_y (Iz (x0)) (Zk rfl) rfl rfl hc5 rfl (Ze (.yes2 rfl rfl hc5) rfl (D_load (g := g0) Tryz.isAgg3 Tryz.sizeOf3 rfl qf1 fun v6 r6 => ?_))
   obtain rfl:=Zj.1 r6;refine EL_y (.bool ((decide (x0 > z1)))) (P_int rfl rfl rfl) rfl rfl hc5 rfl (EL_p (.bool ((decide (x0 > z1)))) (Zl (b:=(decide (x0 < z0))) rfl (pick_f hc5 rfl)) rfl (Zg (.bool ((decide (x0 > z1)))) rfl rfl (Zb ?_)));obtain rfl:=sinj h;exact hQ _ _ ⟨g0,hfr,rfl⟩
 ·clear hx
  obtain ⟨g7,hfr,l5⟩:=hR;refine E_ret ?_;obtain rfl:=sinj h;exact end1 rfl rfl (show _=.bool (o0) from l5) ⟨_,hfr,rfl⟩
def f148 (x0:List Str):Option ((List Str)):=
 jn (σ:=Unit) (fun _=>
  jn (σ:=Unit) (fun _=>
   some (x0)
   ) fun k53=>
  lp (σ:=Int) (fun k54 o0=>
   jn (σ:=Unit) (fun _=>
    jn (σ:=Unit) (fun _=>
     k54 ((w64 (o0 + (1:Int))))
     ) fun cD=>
    (idx x0 o0).bind fun aB=>
    (idx x0 (w64 (o0 - (1:Int)))).bind fun lB=>
    bif ((aB).b == (lB).b) then
     none
    else
     cD ()
    ) fun k57=>
   bif (decide (o0 < ((x0).length : Int))) then
    k57 ()
   else
    k53 ()
   ) big ((1:Int))
  ) fun k2=>
 bif (decide (((x0).length : Int) < (2 : Int))) then
  some (x0)
 else
  k2 ()
theorem en148:Enters Tryz.prog 148:=enters_of Tryz.func148 (by kernel_rfl) rfl
theorem wk148 {gI:Gh} {wI:World} {x0:List Str} {up0:Value} (rp0:RV gI.m wI x0 up0) {r:(List Str)} (h:f148 x0=some r):Fn Tryz.prog 148 #[up0] gI wI (fun m w v=>RV m w (r) v):=by
 unfold f148 at h;refine fnE Tryz.func148 rfl rfl fun g0 hm hfr=>?_;have rp0:=RVc hm rp0;show E _ 61 none _ _ _ _ _;refine E_sr (Zg (.slice none 0 0) rfl rfl (EL_nt (Zq h (fun (s:Unit) e w=>∃ (g:Gh) ,Fr gI wI g w∧e 0=up0∧RV g.m w (x0:List Str) up0) (fun X2 k2 hk2 h=>?_) ?_)))
 ·refine E_sr (Zn up0 rfl rfl (EL_p (Iz ((x0).length : Int)) (P_len Tryz.underlying104 rfl rp0) rfl (EL_in (.bool ((decide (((x0).length : Int) < (2 : Int))))) rfl rfl rfl rfl (EL_nt ?_))))
  rcases Zt h with ⟨hc3,h⟩ | ⟨hc3,h⟩
  ·refine E_ct hc3 rfl (E_sr (Zn up0 rfl rfl (Zg up0 rfl rfl (EL_nt (E_ret (thn_r ?_))))))
   obtain rfl:=sinj h;exact end1 rfl rfl (rq up0) ⟨_,hfr,rp0⟩
  ·refine E_cf hc3 rfl ?_
   exact Zu (Zd (hk2 () _ _ ⟨g0,hfr,rfl,rp0⟩ h))
 ·rintro _ uF w4 ⟨g4, hfr, nD, oD⟩ h
  refine Zq h (fun (s:Unit) e w=>∃ (g:Gh) ,Fr gI wI g w∧e 0=up0∧RV g.m w (x0:List Str) up0) (fun X53 k53 yD h=>?_) ?_
  ·refine E_sr (Zg (Iz (1)) rfl rfl (EL_nt (Zr (E_lp h (fun (s : Int) e w => ∃ (g : Gh) , Fr gI wI g w ∧ e 0 = up0 ∧ RV g.m w (x0 : List Str) up0 ∧ e 3 = Iz (s)) ⟨g4, hfr, nD, oD, rfl⟩ (fun X54 k54 zD => ?_)))))
   rintro o0 dF vF ⟨lD,hfr,l8,n8,mB⟩ h;refine Zq h (fun (s:Unit) e w=>∃ (g:Gh) ,Fr gI wI g w∧e 0=up0∧RV g.m w (x0:List Str) up0∧e 3=Iz (o0)) (fun X57 k57 aE h=>?_) ?_
   ·refine E_sr (Zo mB rfl (Zo l8 rfl (EL_p (Iz ((x0).length : Int)) (P_len Tryz.underlying104 rfl n8) rfl (EL_in (.bool ((decide (o0 < ((x0).length : Int))))) rfl rfl rfl rfl (EL_nt ?_)))))
    rcases Zt h with ⟨n9,h⟩ | ⟨n9,h⟩
    ·refine E_ct n9 rfl ?_
     exact Zu (Zd (aE () _ _ ⟨lD,hfr,l8,n8,mB⟩ h))
    ·refine E_cf n9 rfl (E_exit (thn_e (thn_e (blk_hit ?_))))
     exact Zd (yD () _ _ ⟨lD,hfr,l8,n8⟩ h)
   ·rintro _ eF xF ⟨oE, hfr, t5, l5, i6⟩ h
    refine Zq h (fun (s:Unit) e w=>∃ (g:Gh) ,Fr gI wI g w∧e 0=up0∧RV g.m w (x0:List Str) up0∧e 3=Iz (o0)) (fun X81 cD bE h=>?_) ?_
    ·refine Zr (Zf ?_)
     obtain ⟨aB,nB,h⟩:=bsome h;have rE:=PT_idx l5 nB;refine Zs (x:=.tmp 18) Tryz.isAgg9 Tryz.sizeOf9 rE fun yF uE iE=>?_;obtain rfl:=RV_str.1 uE;obtain ⟨lB,oB,h⟩:=bsome h;have vE:=PT_idx l5 oB;refine Zs (x:=.tmp 23) Tryz.isAgg9 Tryz.sizeOf9 vE fun aG xE lE=>?_;obtain rfl:=RV_str.1 xE;refine E_drawL (g:=oE) (n:=10) [] [0,1,2,3,4,5,6,7,8,9] rfl mixed (by kernel_rfl) trivial (L_p up0 rfl rfl (Zk t5) (L_p (Iz (o0)) rfl rfl (Zk i6) (L_p (ePtr up0 o0 1) rfl rfl (Zh (α:=Str) Tryz.underlying104 Tryz.sizeOf9 rfl l5 rfl nB) (L_ld (c:=Str.v (aB)) rfl rfl .plain (fun _ _ h=>h.ch) iE rfl (L_p up0 rfl rfl (Zk t5) (L_p (Iz (o0)) rfl rfl (Zk i6) (L_p (Iz ((w64 (o0 - (1:Int))))) rfl rfl (P_int rfl rfl rfl) (L_p (ePtr up0 (w64 (o0 - (1:Int))) 1) rfl rfl (Zh (α:=Str) Tryz.underlying104 Tryz.sizeOf9 rfl l5 rfl oB) (L_ld (c:=Str.v (lB)) rfl rfl .plain (fun _ _ h=>h.ch) lE rfl (L_p (.bool (((aB).b == (lB).b))) rfl rfl (P_str rfl rfl rfl) (L_nl fun yE bG hs=>?_)))))))))));have hfr:=hfr.ext hs;have l5:=l5.ext hs;clear hs;refine EL_nt ?_;rcases Zt h with ⟨l9,h⟩ | ⟨l9,h⟩
     ·refine E_ct l9 rfl (E_sr (Zo t5 rfl (Zo i6 rfl ?_)))
      cases h
     ·refine E_cf l9 rfl ?_
      exact Zu (blk_n (Zd (bE () _ _ ⟨yE,hfr,t5,l5,i6⟩ h)))
    ·rintro _ zE rF ⟨mE, hfr, yB, zB, cC⟩ h
     refine Za (Zo cC rfl (EL_in (Iz ((w64 (o0 + (1:Int))))) rfl rfl rfl rfl (Zg (Iz ((w64 (o0 + (1:Int))))) rfl rfl ?_)));exact EL_nt (zD ((w64 (o0 + (1:Int)))) _ _ ⟨mE,hfr,yB,zB,rfl⟩ h)
  ·rintro _ cF sF ⟨tF, hfr, uC, bD⟩ h
   refine E_sr (Zo uC rfl (Zg up0 rfl rfl (EL_nt (E_ret ?_))));obtain rfl:=sinj h;exact end1 rfl rfl (rq up0) ⟨_,hfr,bD⟩
def f150 (x0:List BookTie) (x1:BookTie→Option Bool):Option (Int):=
 jn (σ:=Unit) (fun _=>
  some ((-1:Int))
  ) fun k18=>
 lp (σ:=Int) (fun k19 o0=>
  bif (decide (o0 < ((x0).length : Int))) then
   jn (σ:=Unit) (fun _=>
    k19 ((w64 (o0 + (1:Int))))
    ) fun k28=>
   (idx x0 o0).bind fun cC=>
   (x1 cC).bind fun uC=>
   bif uC then
    some (o0)
   else
    k28 ()
  else
   k18 ()
  ) big ((0:Int))
theorem en150:Enters Tryz.prog 150:=enters_of Tryz.func150 (by kernel_rfl) rfl
theorem wk150 {gI:Gh} {wI:World} {x0:List BookTie} {x1:BookTie→Option Bool} {up0:Value} (rp0:RV gI.m wI x0 up0) {up1:Value} (rp1:FnV1 Tryz.prog x1 up1 gI wI) {r:Int} (h:f150 x0 x1=some r):Fn Tryz.prog 150 #[up0,up1] gI wI (fun _ _ v=>v=Iz (r)):=by
 unfold f150 at h;refine fnE Tryz.func150 rfl rfl fun g0 hm hfr=>?_;have rp0:=RVc hm rp0;obtain ⟨ff1,fa1,fc1,rfl,fen1,fcl1⟩:=rp1;show E _ 19 none _ _ _ _ _;refine E_sr (Zg (Iz (0)) rfl rfl (EL_nt (Zq h (fun (s:Unit) e w=>∃ (g:Gh) ,Fr gI wI g w) (fun X18 k18 bD h=>?_) ?_)))
 ·refine E_sr (Zn up0 rfl rfl (EL_p (Iz ((x0).length : Int)) (P_len Tryz.underlying36 rfl rp0) rfl (Zn (Iz (0)) rfl rfl (EL_nt (Zr (E_lp h (fun (s : Int) e w => ∃ (g : Gh) , Fr gI wI g w ∧ e 0 = up0 ∧ RV g.m w (x0 : List BookTie) up0 ∧ e 1 = (.func (.func ff1) fa1 fc1) ∧ e 7 = Iz (((x0).length : Int)) ∧ e 8 = Iz (s)) ⟨g0, hfr, rfl, rp0, rfl, rfl, rfl⟩ (fun X19 k19 cD => ?_)))))))
  rintro o0 iE oE ⟨aB,hfr,n8,l5,l9,n9,t5⟩ h;refine E_sr (EL_in (.bool ((decide (o0 < ((x0).length:Int))))) t5 n9 rfl rfl (EL_nt (Zf ?_)));rcases Zt h with ⟨i6,h⟩ | ⟨i6,h⟩
  ·refine E_ct i6 rfl (Zu (Zd (Zq h (fun (s : Unit) e w => ∃ (g : Gh) , Fr gI wI g w ∧ e 0 = up0 ∧ RV g.m w (x0 : List BookTie) up0 ∧ e 1 = (.func (.func ff1) fa1 fc1) ∧ e 7 = Iz (((x0).length : Int)) ∧ e 8 = Iz (o0)) (fun X28 k28 lD h => ?_) ?_)))
   ·refine Zr (E_sr (Zo t5 rfl (Zg (Iz (o0)) rfl rfl (EL_nt (E_sr (Zo l9 rfl (Zo n8 rfl (Zn (Iz (o0)) rfl rfl ?_))))))))
    obtain ⟨cC,lB,h⟩:=bsome h;refine EL_p (ePtr up0 o0 3) (Zh (α:=BookTie) Tryz.underlying36 Tryz.sizeOf108 rfl l5 rfl lB) rfl ?_;have oD:=PT_idx l5 lB;refine EL_d0 rfl (D_load (g:=aB) Tryz.isAgg108 Tryz.sizeOf108 rfl oD fun yD zD=>?_);obtain ⟨uC,nD,h⟩:=bsome h;refine EL_d0 rfl (D_callv (g:=aB) (vs:=[yD]) rfl fen1 (.cons rfl .nil) (fcl1 _ _ hfr.ch _ _ _  zD nD) fun aE rE uE hs hr=>?_);have hfr:=hfr.ext hs;have l5:=l5.ext hs;obtain rfl:=RV_bool.1 hr;refine EL_nt ?_;rcases Zt h with ⟨l8,h⟩ | ⟨l8,h⟩
    ·refine E_ct l8 rfl (E_sr (Zn (Iz (o0)) rfl rfl (Zg (Iz (o0)) rfl rfl (EL_nt (E_ret (blk_r (thn_r (thn_r (blk_r (thn_r ?_))))))))))
     obtain rfl:=sinj h;exact end1 rfl rfl (rq (Iz (o0))) ⟨_,hfr,rfl⟩
    ·refine E_cf l8 rfl ?_
     exact Zu (blk_n (Zd (lD () _ _ ⟨aE,hfr,n8,l5,l9,n9,t5⟩ h)))
   ·rintro _ lE vE ⟨bE, hfr, mB, nB, oB, yB, zB⟩ h
    refine Za (EL_in (Iz ((w64 (o0 + (1:Int))))) zB rfl rfl rfl (Zn (Iz ((w64 (o0 + (1:Int))))) rfl rfl ?_));exact EL_nt (cD ((w64 (o0 + (1:Int)))) _ _ ⟨bE,hfr,mB,nB,oB,yB,rfl⟩ h)
  ·refine E_cf i6 rfl (E_exit (thn_e (thn_e (blk_hit ?_))))
   exact Zd (bD () _ _ ⟨aB,hfr⟩ h)
 ·rintro _ mE xE ⟨yE, hfr⟩ h
  refine E_sr (Zg (Iz (-1)) rfl rfl (EL_nt (E_ret ?_)));obtain rfl:=sinj h;exact end1 rfl rfl (rq (Iz (-1))) ⟨_,hfr,rfl⟩
def f151 (x0:List BookChain) (x1:BookChain→Option Bool):Option (Int):=
 jn (σ:=Unit) (fun _=>
  some ((-1:Int))
  ) fun k18=>
 lp (σ:=Int) (fun k19 o0=>
  bif (decide (o0 < ((x0).length : Int))) then
   jn (σ:=Unit) (fun _=>
    k19 ((w64 (o0 + (1:Int))))
    ) fun k28=>
   (idx x0 o0).bind fun cC=>
   (x1 cC).bind fun uC=>
   bif uC then
    some (o0)
   else
    k28 ()
  else
   k18 ()
  ) big ((0:Int))
theorem en151:Enters Tryz.prog 151:=enters_of Tryz.func151 (by kernel_rfl) rfl
theorem wk151 {gI:Gh} {wI:World} {x0:List BookChain} {x1:BookChain→Option Bool} {up0:Value} (rp0:RV gI.m wI x0 up0) {up1:Value} (rp1:FnV1 Tryz.prog x1 up1 gI wI) {r:Int} (h:f151 x0 x1=some r):Fn Tryz.prog 151 #[up0,up1] gI wI (fun _ _ v=>v=Iz (r)):=by
 unfold f151 at h;refine fnE Tryz.func151 rfl rfl fun g0 hm hfr=>?_;have rp0:=RVc hm rp0;obtain ⟨ff1,fa1,fc1,rfl,fen1,fcl1⟩:=rp1;show E _ 19 none _ _ _ _ _;refine E_sr (Zg (Iz (0)) rfl rfl (EL_nt (Zq h (fun (s:Unit) e w=>∃ (g:Gh) ,Fr gI wI g w) (fun X18 k18 bD h=>?_) ?_)))
 ·refine E_sr (Zn up0 rfl rfl (EL_p (Iz ((x0).length : Int)) (P_len Tryz.underlying37 rfl rp0) rfl (Zn (Iz (0)) rfl rfl (EL_nt (Zr (E_lp h (fun (s : Int) e w => ∃ (g : Gh) , Fr gI wI g w ∧ e 0 = up0 ∧ RV g.m w (x0 : List BookChain) up0 ∧ e 1 = (.func (.func ff1) fa1 fc1) ∧ e 7 = Iz (((x0).length : Int)) ∧ e 8 = Iz (s)) ⟨g0, hfr, rfl, rp0, rfl, rfl, rfl⟩ (fun X19 k19 cD => ?_)))))))
  rintro o0 iE oE ⟨aB,hfr,n8,l5,l9,n9,t5⟩ h;refine E_sr (EL_in (.bool ((decide (o0 < ((x0).length:Int))))) t5 n9 rfl rfl (EL_nt (Zf ?_)));rcases Zt h with ⟨i6,h⟩ | ⟨i6,h⟩
  ·refine E_ct i6 rfl (Zu (Zd (Zq h (fun (s : Unit) e w => ∃ (g : Gh) , Fr gI wI g w ∧ e 0 = up0 ∧ RV g.m w (x0 : List BookChain) up0 ∧ e 1 = (.func (.func ff1) fa1 fc1) ∧ e 7 = Iz (((x0).length : Int)) ∧ e 8 = Iz (o0)) (fun X28 k28 lD h => ?_) ?_)))
   ·refine Zr (E_sr (Zo t5 rfl (Zg (Iz (o0)) rfl rfl (EL_nt (E_sr (Zo l9 rfl (Zo n8 rfl (Zn (Iz (o0)) rfl rfl ?_))))))))
    obtain ⟨cC,lB,h⟩:=bsome h;refine EL_p (ePtr up0 o0 3) (Zh (α:=BookChain) Tryz.underlying37 Tryz.sizeOf94 rfl l5 rfl lB) rfl ?_;have oD:=PT_idx l5 lB;refine EL_d0 rfl (D_load (g:=aB) Tryz.isAgg94 Tryz.sizeOf94 rfl oD fun yD zD=>?_);obtain ⟨uC,nD,h⟩:=bsome h;refine EL_d0 rfl (D_callv (g:=aB) (vs:=[yD]) rfl fen1 (.cons rfl .nil) (fcl1 _ _ hfr.ch _ _ _  zD nD) fun aE rE uE hs hr=>?_);have hfr:=hfr.ext hs;have l5:=l5.ext hs;obtain rfl:=RV_bool.1 hr;refine EL_nt ?_;rcases Zt h with ⟨l8,h⟩ | ⟨l8,h⟩
    ·refine E_ct l8 rfl (E_sr (Zn (Iz (o0)) rfl rfl (Zg (Iz (o0)) rfl rfl (EL_nt (E_ret (blk_r (thn_r (thn_r (blk_r (thn_r ?_))))))))))
     obtain rfl:=sinj h;exact end1 rfl rfl (rq (Iz (o0))) ⟨_,hfr,rfl⟩
    ·refine E_cf l8 rfl ?_
     exact Zu (blk_n (Zd (lD () _ _ ⟨aE,hfr,n8,l5,l9,n9,t5⟩ h)))
   ·rintro _ lE vE ⟨bE, hfr, mB, nB, oB, yB, zB⟩ h
    refine Za (EL_in (Iz ((w64 (o0 + (1:Int))))) zB rfl rfl rfl (Zn (Iz ((w64 (o0 + (1:Int))))) rfl rfl ?_));exact EL_nt (cD ((w64 (o0 + (1:Int)))) _ _ ⟨bE,hfr,mB,nB,oB,yB,rfl⟩ h)
  ·refine E_cf i6 rfl (E_exit (thn_e (thn_e (blk_hit ?_))))
   exact Zd (bD () _ _ ⟨aB,hfr⟩ h)
 ·rintro _ mE xE ⟨yE, hfr⟩ h
  refine E_sr (Zg (Iz (-1)) rfl rfl (EL_nt (E_ret ?_)));obtain rfl:=sinj h;exact end1 rfl rfl (rq (Iz (-1))) ⟨_,hfr,rfl⟩
def f159 (x0:Int):Option (Bool):=
 some ((x0 != x0))
theorem en159:Enters Tryz.prog 159:=enters_of Tryz.func159 (by kernel_rfl) rfl
theorem wk159 {gI:Gh} {wI:World} {x0:Int}  {r:Bool} (h:f159 x0=some r):Fn Tryz.prog 159 #[Iz (x0)] gI wI (fun _ _ v=>v=.bool (r)):=by
 unfold f159 at h;refine fnE Tryz.func159 rfl rfl fun g0 hm hfr=>?_;show E _ 6 none _ _ _ _ _;refine E_sr (Zg (.bool false) rfl rfl (EL_nt (E_sr (Zn (Iz (x0)) rfl rfl (Zn (Iz (x0)) rfl rfl (EL_in (.bool ((x0 != x0))) rfl rfl rfl rfl (Zg (.bool ((x0 != x0))) rfl rfl (EL_nt (E_ret ?_)))))))));obtain rfl:=sinj h;exact end1 rfl rfl (rq (.bool ((x0 != x0)))) ⟨_,hfr,rfl⟩
def f160 (z0:List UInt8) (z1:Int) (σ:Type) (cons:Cons σ (List UInt8)) (s0:σ):Option σ:=
 lp (σ:=σ × Int) (fun k1 (n8,o0)=>
  jn (σ:=Unit) (fun _=>
   jn (σ:=σ) (fun l9=>
    k1 (l9,(w64 (o0 + z1)))
    ) fun iE=>
   (cut z0 o0 ((z0).length:Int)).bind fun l5=>
   (cut z0 o0 (w64 (o0 + (min64 z1 ((l5).length:Int))))).bind fun yB=>
   (cons n8 yB).bind fun (aB,n9)=>
   bif (!aB) then
    some n9
   else
    iE (n9)
   ) fun k5=>
  bif (decide (o0 < ((z0).length : Int))) then
   k5 ()
  else
   some n8
  ) big (s0,(0:Int))
theorem en160:Enters Tryz.prog 160:=enters_of Tryz.func160 (by kernel_rfl) rfl
theorem wk160 {σ:Type} {cons:Cons σ (List UInt8)} {s0 r:σ} {gI:Gh} {wI:World} {z0:List UInt8} {z1:Int} {pf0:Value} (qf0:PT gI.m wI z0 pf0) {pf1:Value} (qf1:PT gI.m wI z1 pf1) (h:f160 z0 z1 σ cons s0=some r):IterC Tryz.prog (RA1 (α:=(List UInt8))) 160 #[] #[pf0,pf1] gI wI cons s0 r:=by
 unfold f160 at h;refine iter_of_E Tryz.func160 rfl (Nat.le_of_ble_eq_true rfl) fun l B J g0 hm hAb hRo hfr=>?_;have qf0:PT g0.m wI z0 pf0:=hm ▸ qf0;have qf1:PT g0.m wI z1 pf1:=hm ▸ qf1;show E _ 31 none _ _ (envAt #[.func (.yield l) #[] #[],pf0,pf1]) _ _;refine E_sr (Zg (Iz (0)) rfl rfl (EL_nt (Zr (E_lp h (fun (s:σ × Int) e w=>∃ (g:Gh) ,FrY gI wI B J (s.1) g w∧e 0=(.func (.yield l) #[] #[])∧e 1=pf0∧PT g.m w (z0:List UInt8) pf0∧e 2=pf1∧PT g.m w (z1:Int) pf1∧e 4=Iz (s.2)) ⟨g0,hfr,rfl,rfl,qf0,rfl,qf1,rfl⟩ (fun X1 k1 hk1=>?_)))));rintro ⟨n8,o0⟩ bG w2 ⟨g2,hfr,vE,zB,cC,xE,yE,uC⟩ h;refine Zq h (fun (s:Unit) e w=>∃ (g:Gh) ,FrY gI wI B J (n8) g w∧e 0=(.func (.yield l) #[] #[])∧e 1=pf0∧PT g.m w (z0:List UInt8) pf0∧e 2=pf1∧PT g.m w (z1:Int) pf1∧e 4=Iz (o0)) (fun X5 k5 hk5 h=>?_) ?_
 ·refine E_sr (Zo uC rfl (EL_d0 rfl (D_load (g := g2) Tryz.isAgg50 Tryz.sizeOf50 zB cC fun v6 r6 => (EL_p (Iz ((z0).length : Int)) (P_len Tryz.underlying50 rfl r6) rfl (EL_in (.bool ((decide (o0 < ((z0).length : Int))))) rfl rfl rfl rfl (EL_nt ?_))))))
  rcases Zt h with ⟨bD,h⟩ | ⟨bD,h⟩
  ·refine E_ct bD rfl ?_
   exact Zu (Zd (hk5 () _ _ ⟨g2,hfr,vE,zB,cC,xE,yE,uC⟩ h))
  ·refine E_cf bD rfl (E_exit (thn_e (thn_e (blk_hit ?_))))
   obtain rfl:=sinj h;exact end0n rfl rfl (FrY.done hfr)
 ·rintro _ cG w8 ⟨g8, hfr, cD, lB, t5, lD, i6, l8⟩ h
  refine Zq h (fun (s:σ) e w=>∃ (g:Gh) ,FrY gI wI B J (s) g w∧e 0=(.func (.yield l) #[] #[])∧e 1=pf0∧PT g.m w (z0:List UInt8) pf0∧e 2=pf1∧PT g.m w (z1:Int) pf1∧e 4=Iz (o0)) (fun X32 iE zE h=>?_) ?_
  ·refine Zr (Zf (Zs (x := .tmp 2) Tryz.isAgg3 Tryz.sizeOf3 i6 fun eG rF cF => ?_))
   obtain rfl:=Zj.1 rF;refine Zs (x:=.tmp 1) Tryz.isAgg50 Tryz.sizeOf50 t5 fun lE mE dF=>?_;obtain ⟨l5,nD,h⟩:=bsome h;have sF:=RV_cut mE nD;refine E_drawL (g:=g8) (n:=7) [] [0,1,2,3,4,5,6] rfl mixed (by kernel_rfl) trivial (L_ld (c:=Iz (z1)) rfl rfl .plain (fun _ _ h=>h.ch) cF lD (L_ld (c:=lE) rfl rfl .plain (fun _ _ h=>h.ch) dF lB (L_p (Iz (o0)) rfl rfl (Zk l8) (L_p ((cutV lE (Int.toNat o0) (Int.toNat ((z0).length:Int)) 1)) rfl rfl (P_slice Tryz.underlying50 Tryz.sizeOf5 rfl mE rfl rfl nD) (L_p (Iz ((l5).length:Int)) rfl rfl (P_len Tryz.underlying50 rfl sF) (L_p (Iz (min64 z1 ((l5).length:Int))) rfl rfl (P_min rfl rfl) (L_p (Iz (min64 z1 ((l5).length:Int))) rfl rfl (P_assign rfl) (L_nl fun oE gG hs=>?_))))))));have hfr:=hfr.ext_ hAb hs;have t5:=t5.ext hs;have i6:=i6.ext hs;clear hs;refine EL_nt (E_sr (Zo cD rfl (EL_d0 rfl (D_load (g:=oE) Tryz.isAgg50 Tryz.sizeOf50 lB t5 fun tF rE=>(Zo l8 rfl (Zo l8 rfl (Zn (Iz (min64 z1 ((l5).length:Int))) rfl rfl (EL_p (Iz ((w64 (o0 + (min64 z1 ((l5).length:Int)))))) (P_int rfl rfl rfl) rfl (Zo l8 rfl (Zn (Iz (min64 z1 ((l5).length:Int))) rfl rfl (EL_p (Iz ((w64 (o0 + (min64 z1 ((l5).length:Int)))))) (P_int rfl rfl rfl) rfl ?_)))))))))));obtain ⟨yB,oD,h⟩:=bsome h;have uF:=RV_cut3 rE oD;refine EL_p ((cut3V tF (Int.toNat o0) (Int.toNat (w64 (o0 + (min64 z1 ((l5).length:Int))))) 1)) (P_slice3 Tryz.underlying50 Tryz.sizeOf5 rfl rE rfl rfl rfl oD) rfl ?_;obtain ⟨vF,eF,h⟩:=bsome h;obtain ⟨aB,n9⟩:=vF;refine EL_d0 rfl (D_yield (g:=oE) (x:=yB) rfl (.cons rfl .nil) hRo hfr eF ⟨_,rfl,uF⟩ fun xF iG hs hfrY=>?_);have t5:=t5.stp hs;have i6:=i6.stp hs;have hfr:=hfrY;clear hfrY;refine EL_p (.bool (!aB)) (P_not rfl) rfl (EL_nt ?_);rcases Zt h with ⟨mB,h⟩ | ⟨mB,h⟩
   ·refine E_ct mB rfl (E_ret (blk_r (thn_r (thn_r (blk_r ?_)))))
    obtain rfl:=sinj h;exact end0 rfl rfl (FrY.done hfr)
   ·refine E_cf mB rfl ?_
    exact Zu (blk_n (Zd (zE (n9) _ _ ⟨xF,hfr,cD,lB,t5,lD,i6,l8⟩ h)))
  ·rintro l9 aG jG ⟨uE, hfr, yD, zD, aE, nB, oB, bE⟩ h
   refine Za (Zo bE rfl (EL_d0 rfl (D_load (g:=uE) Tryz.isAgg3 Tryz.sizeOf3 nB oB fun kG yF=>?_)));obtain rfl:=Zj.1 yF;refine EL_in (Iz ((w64 (o0 + z1)))) rfl rfl rfl rfl (Zg (Iz ((w64 (o0 + z1)))) rfl rfl ?_);exact EL_nt (hk1 (l9,(w64 (o0 + z1))) _ _ ⟨uE,hfr,yD,zD,aE,nB,oB,rfl⟩ h)
def f165 (x0:ChainChainBelt) (x1:Int) (x2:Int):Option (Int):=
 (rem64 (w64 (x1 + x2)) ((((x0).ChainBelt).Cards).length:Int)).bind fun y5=>
 some (y5)
theorem en165:Enters Tryz.prog 165:=enters_of Tryz.func165 (by kernel_rfl) rfl
theorem wk165 {gI:Gh} {wI:World} {x0:ChainChainBelt} {x1:Int} {x2:Int} {up0:Value} (rp0:RV gI.m wI x0 up0) {r:Int} (h:f165 x0 x1 x2=some r):Fn Tryz.prog 165 #[up0,Iz (x1),Iz (x2)] gI wI (fun _ _ v=>v=Iz (r)):=by
 unfold f165 at h;refine fnE Tryz.func165 rfl rfl fun g0 hm hfr=>?_;have rp0:=RVc hm rp0;show E _ 15 none _ _ _ _ _;refine E_sr (EL_d0 rfl (D_box (g:=g0) rfl rp0 fun g1 w1 p1 hs q1=>?_));have hfr:=hfr.ext hs;refine Zg (Iz (0)) rfl rfl (EL_nt (E_sr (Zn (Iz (x1)) rfl rfl (Zn (Iz (x2)) rfl rfl (EL_in (Iz ((w64 (x1 + x2)))) rfl rfl rfl rfl (EL_p (fPtr p1 0) (Zc at_220_0 rfl (PT.ptr q1)) rfl ?_))))));have q2:=Zm (part_ChainChainBelt_0).1 q1;refine EL_p (fPtr (fPtr p1 0) 1) (Zc at_92_1 rfl (PT.ptr q2)) rfl ?_;have q3:=Zm (part_ChainBelt_1).1 q2;refine EL_d0 rfl (D_load (g:=g1) Tryz.isAgg90 Tryz.sizeOf90 rfl q3 fun v4 r4=>(EL_p (Iz ((((x0).ChainBelt).Cards).length:Int)) (P_len Tryz.underlying90 rfl r4) rfl ?_));obtain ⟨y5,hy5,h⟩:=bsome h;refine EL_p (Iz (y5)) (P_int rfl rfl (congrArg (Option.map (Value.int .i64)) hy5)) rfl (Zg (Iz (y5)) rfl rfl (EL_nt (E_ret ?_)));obtain rfl:=sinj h;exact end1 rfl rfl (rq (Iz (y5))) ⟨_,hfr,rfl⟩
def f169 (x0:List Int) (x1:Int→Option Bool):Option (Int):=
 jn (σ:=Unit) (fun _=>
  some ((-1:Int))
  ) fun k18=>
 lp (σ:=Int) (fun k19 o0=>
  bif (decide (o0 < ((x0).length : Int))) then
   jn (σ:=Unit) (fun _=>
    k19 ((w64 (o0 + (1:Int))))
    ) fun k28=>
   (idx x0 o0).bind fun aB=>
   (x1 aB).bind fun uC=>
   bif uC then
    some (o0)
   else
    k28 ()
  else
   k18 ()
  ) big ((0:Int))
theorem en169:Enters Tryz.prog 169:=enters_of Tryz.func169 (by kernel_rfl) rfl
theorem wk169 {gI:Gh} {wI:World} {x0:List Int} {x1:Int→Option Bool} {up0:Value} (rp0:RV gI.m wI x0 up0) {up1:Value} (rp1:FnV1 Tryz.prog x1 up1 gI wI) {r:Int} (h:f169 x0 x1=some r):Fn Tryz.prog 169 #[up0,up1] gI wI (fun _ _ v=>v=Iz (r)):=by
 unfold f169 at h;refine fnE Tryz.func169 rfl rfl fun g0 hm hfr=>?_;have rp0:=RVc hm rp0;obtain ⟨ff1,fa1,fc1,rfl,fen1,fcl1⟩:=rp1;show E _ 19 none _ _ _ _ _;refine E_sr (Zg (Iz (0)) rfl rfl (EL_nt (Zq h (fun (s:Unit) e w=>∃ (g:Gh) ,Fr gI wI g w) (fun X18 k18 bD h=>?_) ?_)))
 ·refine E_sr (Zn up0 rfl rfl (EL_p (Iz ((x0).length : Int)) (P_len Tryz.underlying22 rfl rp0) rfl (Zn (Iz (0)) rfl rfl (EL_nt (Zr (E_lp h (fun (s : Int) e w => ∃ (g : Gh) , Fr gI wI g w ∧ e 0 = up0 ∧ RV g.m w (x0 : List Int) up0 ∧ e 1 = (.func (.func ff1) fa1 fc1) ∧ e 7 = Iz (((x0).length : Int)) ∧ e 8 = Iz (s)) ⟨g0, hfr, rfl, rp0, rfl, rfl, rfl⟩ (fun X19 k19 cD => ?_)))))))
  rintro o0 bE mE ⟨lB,hfr,n8,l5,l9,n9,t5⟩ h;refine E_sr (EL_in (.bool ((decide (o0 < ((x0).length:Int))))) t5 n9 rfl rfl (EL_nt (Zf ?_)));rcases Zt h with ⟨i6,h⟩ | ⟨i6,h⟩
  ·refine E_ct i6 rfl (Zu (Zd (Zq h (fun (s : Unit) e w => ∃ (g : Gh) , Fr gI wI g w ∧ e 0 = up0 ∧ RV g.m w (x0 : List Int) up0 ∧ e 1 = (.func (.func ff1) fa1 fc1) ∧ e 7 = Iz (((x0).length : Int)) ∧ e 8 = Iz (o0)) (fun X28 k28 lD h => ?_) ?_)))
   ·refine Zr (E_sr (Zo t5 rfl (Zg (Iz (o0)) rfl rfl (EL_nt (E_sr (Zo l9 rfl (Zo n8 rfl (Zn (Iz (o0)) rfl rfl ?_))))))))
    obtain ⟨aB,mB,h⟩:=bsome h;refine EL_p (ePtr up0 o0 1) (Zh (α:=Int) Tryz.underlying22 Tryz.sizeOf3 rfl l5 rfl mB) rfl ?_;have oD:=PT_idx l5 mB;refine EL_d0 rfl (D_load (g:=lB) Tryz.isAgg3 Tryz.sizeOf3 rfl oD fun oE yD=>?_);obtain rfl:=Zj.1 yD;obtain ⟨uC,nD,h⟩:=bsome h;refine EL_d0 rfl (D_callv (g:=lB) (vs:=[Iz (aB)]) rfl fen1 (.cons rfl .nil) (fcl1 _ _ hfr.ch _ _ _  (Zj.2 rfl) nD) fun zD rE uE hs hr=>?_);have hfr:=hfr.ext hs;have l5:=l5.ext hs;obtain rfl:=RV_bool.1 hr;refine EL_nt ?_;rcases Zt h with ⟨l8,h⟩ | ⟨l8,h⟩
    ·refine E_ct l8 rfl (E_sr (Zn (Iz (o0)) rfl rfl (Zg (Iz (o0)) rfl rfl (EL_nt (E_ret (blk_r (thn_r (thn_r (blk_r (thn_r ?_))))))))))
     obtain rfl:=sinj h;exact end1 rfl rfl (rq (Iz (o0))) ⟨_,hfr,rfl⟩
    ·refine E_cf l8 rfl ?_
     exact Zu (blk_n (Zd (lD () _ _ ⟨zD,hfr,n8,l5,l9,n9,t5⟩ h)))
   ·rintro _ iE vE ⟨aE, hfr, nB, oB, yB, zB, cC⟩ h
    refine Za (EL_in (Iz ((w64 (o0 + (1:Int))))) cC rfl rfl rfl (Zn (Iz ((w64 (o0 + (1:Int))))) rfl rfl ?_));exact EL_nt (cD ((w64 (o0 + (1:Int)))) _ _ ⟨aE,hfr,nB,oB,yB,zB,rfl⟩ h)
  ·refine E_cf i6 rfl (E_exit (thn_e (thn_e (blk_hit ?_))))
   exact Zd (bD () _ _ ⟨lB,hfr⟩ h)
 ·rintro _ lE xE ⟨yE, hfr⟩ h
  refine E_sr (Zg (Iz (-1)) rfl rfl (EL_nt (E_ret ?_)));obtain rfl:=sinj h;exact end1 rfl rfl (rq (Iz (-1))) ⟨_,hfr,rfl⟩
def f172 (x0:Int) (z0:Int) (z1:Int):Option (Bool):=
 Option.bind (α:=Bool) (
  bif (decide (x0 < z0)) then
   some (true)
  else
   some ((decide (x0 > z1)))
  ) fun o0=>
 some (o0)
theorem en172:Enters Tryz.prog 172:=enters_of Tryz.func172 (by kernel_rfl) rfl
theorem wk172 {gI:Gh} {wI:World} {x0:Int} {z0:Int} {z1:Int} {pf0:Value} (qf0:PT gI.m wI z0 pf0) {pf1:Value} (qf1:PT gI.m wI z1 pf1) {r:Bool} (h:f172 x0 z0 z1=some r):Fn Tryz.prog 172 #[Iz (x0),pf0,pf1] gI wI (fun _ _ v=>v=.bool (r)):=by
 unfold f172 at h;refine fnE Tryz.func172 rfl rfl fun g0 hm hfr=>?_;have qf0:PT g0.m wI z0 pf0:=hm ▸ qf0;have qf1:PT g0.m wI z1 pf1:=hm ▸ qf1;show E _ 13 none _ _ _ _ _;refine E_sr (Zg (.bool false) rfl rfl (EL_nt ?_));obtain ⟨o0,hx,h⟩:=bsome h;refine E_join (fun e w=>∃ (g:Gh) ,Fr gI wI g w∧e 4=.bool (o0)) (fun Q' hQ=>?_) (fun t5 w7 hR=>?_)
 ·replace h := hx
  clear hx;refine Za (Zn (Iz (x0)) rfl rfl (EL_d0 rfl (D_load (g:=g0) Tryz.isAgg3 Tryz.sizeOf3 rfl qf0 fun v4 r4=>?_)));obtain rfl:=Zj.1 r4;refine EL_in (.bool ((decide (x0 < z0)))) rfl rfl rfl rfl (Zn (.bool ((decide (x0 < z0)))) rfl rfl ?_);rcases Zt h with ⟨hc5,h⟩ | ⟨hc5,h⟩
  ·refine EL_s rfl rfl hc5 rfl rfl (EL_s rfl rfl hc5 rfl rfl (EL_s rfl rfl hc5 rfl rfl (EL_p (.bool true) (Zl (b := (decide (x0 < z0))) rfl (pick_t hc5 rfl)) rfl (Zg (.bool true) rfl rfl (Zb ?_)))))
   obtain rfl:=sinj h;exact hQ _ _ ⟨g0,hfr,rfl⟩
  ·refine EL_y (Iz (x0)) (Zk rfl) rfl rfl hc5 rfl (Ze (.yes2 rfl rfl hc5) rfl (D_load (g := g0) Tryz.isAgg3 Tryz.sizeOf3 rfl qf1 fun v6 r6 => ?_))
   obtain rfl:=Zj.1 r6;refine EL_y (.bool ((decide (x0 > z1)))) (P_int rfl rfl rfl) rfl rfl hc5 rfl (EL_p (.bool ((decide (x0 > z1)))) (Zl (b:=(decide (x0 < z0))) rfl (pick_f hc5 rfl)) rfl (Zg (.bool ((decide (x0 > z1)))) rfl rfl (Zb ?_)));obtain rfl:=sinj h;exact hQ _ _ ⟨g0,hfr,rfl⟩
 ·clear hx
  obtain ⟨g7,hfr,l5⟩:=hR;refine E_ret ?_;obtain rfl:=sinj h;exact end1 rfl rfl (show _=.bool (o0) from l5) ⟨_,hfr,rfl⟩
def f175 (x0:I32):Option (Bool):=
 Option.bind (α:=Bool) (
  bif (decide ((x0).n < (97 : Int))) then
   some (true)
  else
   some ((decide ((x0).n > (122:Int))))
  ) fun o0=>
 some (o0)
theorem en175:Enters Tryz.prog 175:=enters_of Tryz.func175 (by kernel_rfl) rfl
theorem wk175 {gI:Gh} {wI:World} {x0:I32}  {r:Bool} (h:f175 x0=some r):Fn Tryz.prog 175 #[.int .i32 ((x0).n)] gI wI (fun _ _ v=>v=.bool (r)):=by
 unfold f175 at h;refine fnE Tryz.func175 rfl rfl fun g0 hm hfr=>?_;show E _ 9 none _ _ _ _ _;refine E_sr (Zg (.bool false) rfl rfl (EL_nt ?_));obtain ⟨o0,hx,h⟩:=bsome h;refine E_join (fun e w=>∃ (g:Gh) ,Fr gI wI g w∧e 2=.bool (o0)) (fun Q' hQ=>?_) (fun t5 w3 hR=>?_)
 ·replace h := hx
  clear hx;refine Za (Zn (.int .i32 ((x0).n)) rfl rfl (EL_p (.bool (decide ((x0).n < (97:Int)))) (P_i32cmp rfl rfl rfl) rfl (Zn (.bool (decide ((x0).n < (97:Int)))) rfl rfl ?_)));rcases Zt h with ⟨hc2,h⟩ | ⟨hc2,h⟩
  ·refine EL_s rfl rfl hc2 rfl rfl (EL_s rfl rfl hc2 rfl rfl (EL_p (.bool true) (Zl (b := (decide ((x0).n < (97 : Int)))) rfl (pick_t hc2 rfl)) rfl (Zg (.bool true) rfl rfl (Zb ?_))))
   obtain rfl:=sinj h;exact hQ _ _ ⟨g0,hfr,rfl⟩
  ·refine EL_y (.int .i32 ((x0).n)) (Zk rfl) rfl rfl hc2 rfl (EL_y (.bool (decide ((x0).n > (122 : Int)))) (P_i32cmp rfl rfl rfl) rfl rfl hc2 rfl (EL_p (.bool (decide ((x0).n > (122 : Int)))) (Zl (b := (decide ((x0).n < (97 : Int)))) rfl (pick_f hc2 rfl)) rfl (Zg (.bool (decide ((x0).n > (122 : Int)))) rfl rfl (Zb ?_))))
   obtain rfl:=sinj h;exact hQ _ _ ⟨g0,hfr,rfl⟩
 ·clear hx
  obtain ⟨g3,hfr,l5⟩:=hR;refine E_ret ?_;obtain rfl:=sinj h;exact end1 rfl rfl (show _=.bool (o0) from l5) ⟨_,hfr,rfl⟩
def f177 (x0:List Str) (x1:Str→Option Bool):Option (Int):=
 jn (σ:=Unit) (fun _=>
  some ((-1:Int))
  ) fun k18=>
 lp (σ:=Int) (fun k19 o0=>
  bif (decide (o0 < ((x0).length : Int))) then
   jn (σ:=Unit) (fun _=>
    k19 ((w64 (o0 + (1:Int))))
    ) fun k28=>
   (idx x0 o0).bind fun aB=>
   (x1 aB).bind fun uC=>
   bif uC then
    some (o0)
   else
    k28 ()
  else
   k18 ()
  ) big ((0:Int))
theorem en177:Enters Tryz.prog 177:=enters_of Tryz.func177 (by kernel_rfl) rfl
theorem wk177 {gI:Gh} {wI:World} {x0:List Str} {x1:Str→Option Bool} {up0:Value} (rp0:RV gI.m wI x0 up0) {up1:Value} (rp1:FnV1 Tryz.prog x1 up1 gI wI) {r:Int} (h:f177 x0 x1=some r):Fn Tryz.prog 177 #[up0,up1] gI wI (fun _ _ v=>v=Iz (r)):=by
 unfold f177 at h;refine fnE Tryz.func177 rfl rfl fun g0 hm hfr=>?_;have rp0:=RVc hm rp0;obtain ⟨ff1,fa1,fc1,rfl,fen1,fcl1⟩:=rp1;show E _ 19 none _ _ _ _ _;refine E_sr (Zg (Iz (0)) rfl rfl (EL_nt (Zq h (fun (s:Unit) e w=>∃ (g:Gh) ,Fr gI wI g w) (fun X18 k18 bD h=>?_) ?_)))
 ·refine E_sr (Zn up0 rfl rfl (EL_p (Iz ((x0).length : Int)) (P_len Tryz.underlying104 rfl rp0) rfl (Zn (Iz (0)) rfl rfl (EL_nt (Zr (E_lp h (fun (s : Int) e w => ∃ (g : Gh) , Fr gI wI g w ∧ e 0 = up0 ∧ RV g.m w (x0 : List Str) up0 ∧ e 1 = (.func (.func ff1) fa1 fc1) ∧ e 7 = Iz (((x0).length : Int)) ∧ e 8 = Iz (s)) ⟨g0, hfr, rfl, rp0, rfl, rfl, rfl⟩ (fun X19 k19 cD => ?_)))))))
  rintro o0 bE mE ⟨lB,hfr,n8,l5,l9,n9,t5⟩ h;refine E_sr (EL_in (.bool ((decide (o0 < ((x0).length:Int))))) t5 n9 rfl rfl (EL_nt (Zf ?_)));rcases Zt h with ⟨i6,h⟩ | ⟨i6,h⟩
  ·refine E_ct i6 rfl (Zu (Zd (Zq h (fun (s : Unit) e w => ∃ (g : Gh) , Fr gI wI g w ∧ e 0 = up0 ∧ RV g.m w (x0 : List Str) up0 ∧ e 1 = (.func (.func ff1) fa1 fc1) ∧ e 7 = Iz (((x0).length : Int)) ∧ e 8 = Iz (o0)) (fun X28 k28 lD h => ?_) ?_)))
   ·refine Zr (E_sr (Zo t5 rfl (Zg (Iz (o0)) rfl rfl (EL_nt (E_sr (Zo l9 rfl (Zo n8 rfl (Zn (Iz (o0)) rfl rfl ?_))))))))
    obtain ⟨aB,mB,h⟩:=bsome h;refine EL_p (ePtr up0 o0 1) (Zh (α:=Str) Tryz.underlying104 Tryz.sizeOf9 rfl l5 rfl mB) rfl ?_;have oD:=PT_idx l5 mB;refine EL_d0 rfl (D_load (g:=lB) Tryz.isAgg9 Tryz.sizeOf9 rfl oD fun oE yD=>?_);obtain rfl:=RV_str.1 yD;obtain ⟨uC,nD,h⟩:=bsome h;refine EL_d0 rfl (D_callv (g:=lB) (vs:=[Str.v (aB)]) rfl fen1 (.cons rfl .nil) (fcl1 _ _ hfr.ch _ _ _  (RV_str.2 rfl) nD) fun zD rE uE hs hr=>?_);have hfr:=hfr.ext hs;have l5:=l5.ext hs;obtain rfl:=RV_bool.1 hr;refine EL_nt ?_;rcases Zt h with ⟨l8,h⟩ | ⟨l8,h⟩
    ·refine E_ct l8 rfl (E_sr (Zn (Iz (o0)) rfl rfl (Zg (Iz (o0)) rfl rfl (EL_nt (E_ret (blk_r (thn_r (thn_r (blk_r (thn_r ?_))))))))))
     obtain rfl:=sinj h;exact end1 rfl rfl (rq (Iz (o0))) ⟨_,hfr,rfl⟩
    ·refine E_cf l8 rfl ?_
     exact Zu (blk_n (Zd (lD () _ _ ⟨zD,hfr,n8,l5,l9,n9,t5⟩ h)))
   ·rintro _ iE vE ⟨aE, hfr, nB, oB, yB, zB, cC⟩ h
    refine Za (EL_in (Iz ((w64 (o0 + (1:Int))))) cC rfl rfl rfl (Zn (Iz ((w64 (o0 + (1:Int))))) rfl rfl ?_));exact EL_nt (cD ((w64 (o0 + (1:Int)))) _ _ ⟨aE,hfr,nB,oB,yB,zB,rfl⟩ h)
  ·refine E_cf i6 rfl (E_exit (thn_e (thn_e (blk_hit ?_))))
   exact Zd (bD () _ _ ⟨lB,hfr⟩ h)
 ·rintro _ lE xE ⟨yE, hfr⟩ h
  refine E_sr (Zg (Iz (-1)) rfl rfl (EL_nt (E_ret ?_)));obtain rfl:=sinj h;exact end1 rfl rfl (rq (Iz (-1))) ⟨_,hfr,rfl⟩
def f196 (x0:Int) (z0:Int) (z1:Int):Option (Bool):=
 Option.bind (α:=Bool) (
  bif (decide (x0 < z0)) then
   some (true)
  else
   some ((decide (x0 > z1)))
  ) fun o0=>
 some (o0)
theorem en196:Enters Tryz.prog 196:=enters_of Tryz.func196 (by kernel_rfl) rfl
theorem wk196 {gI:Gh} {wI:World} {x0:Int} {z0:Int} {z1:Int} {pf0:Value} (qf0:PT gI.m wI z0 pf0) {pf1:Value} (qf1:PT gI.m wI z1 pf1) {r:Bool} (h:f196 x0 z0 z1=some r):Fn Tryz.prog 196 #[Iz (x0),pf0,pf1] gI wI (fun _ _ v=>v=.bool (r)):=by
 unfold f196 at h;refine fnE Tryz.func196 rfl rfl fun g0 hm hfr=>?_;have qf0:PT g0.m wI z0 pf0:=hm ▸ qf0;have qf1:PT g0.m wI z1 pf1:=hm ▸ qf1;show E _ 13 none _ _ _ _ _;refine E_sr (Zg (.bool false) rfl rfl (EL_nt ?_));obtain ⟨o0,hx,h⟩:=bsome h;refine E_join (fun e w=>∃ (g:Gh) ,Fr gI wI g w∧e 4=.bool (o0)) (fun Q' hQ=>?_) (fun t5 w7 hR=>?_)
 ·replace h := hx
  clear hx;refine Za (Zn (Iz (x0)) rfl rfl (EL_d0 rfl (D_load (g:=g0) Tryz.isAgg3 Tryz.sizeOf3 rfl qf0 fun v4 r4=>?_)));obtain rfl:=Zj.1 r4;refine EL_in (.bool ((decide (x0 < z0)))) rfl rfl rfl rfl (Zn (.bool ((decide (x0 < z0)))) rfl rfl ?_);rcases Zt h with ⟨hc5,h⟩ | ⟨hc5,h⟩
  ·refine EL_s rfl rfl hc5 rfl rfl (EL_s rfl rfl hc5 rfl rfl (EL_s rfl rfl hc5 rfl rfl (EL_p (.bool true) (Zl (b := (decide (x0 < z0))) rfl (pick_t hc5 rfl)) rfl (Zg (.bool true) rfl rfl (Zb ?_)))))
   obtain rfl:=sinj h;exact hQ _ _ ⟨g0,hfr,rfl⟩
  ·refine EL_y (Iz (x0)) (Zk rfl) rfl rfl hc5 rfl (Ze (.yes2 rfl rfl hc5) rfl (D_load (g := g0) Tryz.isAgg3 Tryz.sizeOf3 rfl qf1 fun v6 r6 => ?_))
   obtain rfl:=Zj.1 r6;refine EL_y (.bool ((decide (x0 > z1)))) (P_int rfl rfl rfl) rfl rfl hc5 rfl (EL_p (.bool ((decide (x0 > z1)))) (Zl (b:=(decide (x0 < z0))) rfl (pick_f hc5 rfl)) rfl (Zg (.bool ((decide (x0 > z1)))) rfl rfl (Zb ?_)));obtain rfl:=sinj h;exact hQ _ _ ⟨g0,hfr,rfl⟩
 ·clear hx
  obtain ⟨g7,hfr,l5⟩:=hR;refine E_ret ?_;obtain rfl:=sinj h;exact end1 rfl rfl (show _=.bool (o0) from l5) ⟨_,hfr,rfl⟩
def f199 (x0:U64) (x1:U64):Option (U64 × U64):=
 (shr64 ((x0).n) ((32:Int))).bind fun y1=>
 (shr64 ((x1).n) ((32:Int))).bind fun y2=>
 (shr64 (wu64 ((bitU .and ((x0).n) ((4294967295:Int))) * (bitU .and ((x1).n) ((4294967295:Int))))) ((32:Int))).bind fun y3=>
 (shr64 (wu64 ((wu64 (y1 * (bitU .and ((x1).n) ((4294967295:Int))))) + y3)) ((32:Int))).bind fun y4=>
 (shr64 (wu64 ((bitU .and (wu64 ((wu64 (y1 * (bitU .and ((x1).n) ((4294967295:Int))))) + y3)) ((4294967295:Int))) + (wu64 ((bitU .and ((x0).n) ((4294967295:Int))) * y2)))) ((32:Int))).bind fun y5=>
 some ((⟨wu64 ((wu64 ((wu64 (y1 * y2)) + y4)) + y5)⟩:U64),(⟨wu64 (((x0).n) * ((x1).n))⟩:U64))
theorem en199:Enters Tryz.prog 199:=enters_of Tryz.func199 (by kernel_rfl) rfl
theorem wk199 {gI:Gh} {wI:World} {x0:U64} {x1:U64}  {r:U64 × U64} (h:f199 x0 x1=some r):Fn Tryz.prog 199 #[.int .u64 ((x0).n),.int .u64 ((x1).n)] gI wI (fun m w v=>∃ y0 y1,v=.tuple #[y0,y1]∧y0=.int .u64 ((r.1).n)∧y1=.int .u64 ((r.2).n)):=by
 unfold f199 at h;refine fnE Tryz.func199 rfl rfl fun g0 hm hfr=>?_;show E _ 51 none _ _ _ _ _;refine E_sr (Zg (.int .u64 (0)) rfl rfl (Zg (.int .u64 (0)) rfl rfl (EL_nt (E_sr (Zn (.int .u64 ((x0).n)) rfl rfl (EL_p (.int .u64 (bitU .and ((x0).n) ((4294967295:Int)))) (P_bitU (by simp) rfl rfl) rfl (Zg (.int .u64 (bitU .and ((x0).n) ((4294967295:Int)))) rfl rfl (EL_nt (E_sr (Zn (.int .u64 ((x0).n)) rfl rfl ?_))))))))));obtain ⟨y1,hy1,h⟩:=bsome h;refine EL_p (.int .u64 (y1)) (P_shrU rfl rfl hy1) rfl (Zg (.int .u64 (y1)) rfl rfl (EL_nt (E_sr (Zn (.int .u64 ((x1).n)) rfl rfl (EL_p (.int .u64 (bitU .and ((x1).n) ((4294967295:Int)))) (P_bitU (by simp) rfl rfl) rfl (Zg (.int .u64 (bitU .and ((x1).n) ((4294967295:Int)))) rfl rfl (EL_nt (E_sr (Zn (.int .u64 ((x1).n)) rfl rfl ?_)))))))));obtain ⟨y2,hy2,h⟩:=bsome h;refine EL_p (.int .u64 (y2)) (P_shrU rfl rfl hy2) rfl (Zg (.int .u64 (y2)) rfl rfl (EL_nt (E_sr (Zn (.int .u64 (bitU .and ((x0).n) ((4294967295:Int)))) rfl rfl (Zn (.int .u64 (bitU .and ((x1).n) ((4294967295:Int)))) rfl rfl (EL_p (.int .u64 (wu64 ((bitU .and ((x0).n) ((4294967295:Int))) * (bitU .and ((x1).n) ((4294967295:Int)))))) (P_umul rfl rfl) rfl (Zg (.int .u64 (wu64 ((bitU .and ((x0).n) ((4294967295:Int))) * (bitU .and ((x1).n) ((4294967295:Int)))))) rfl rfl (EL_nt (E_sr (Zn (.int .u64 (y1)) rfl rfl (Zn (.int .u64 (bitU .and ((x1).n) ((4294967295:Int)))) rfl rfl (EL_p (.int .u64 (wu64 (y1 * (bitU .and ((x1).n) ((4294967295:Int)))))) (P_umul rfl rfl) rfl (Zn (.int .u64 (wu64 ((bitU .and ((x0).n) ((4294967295:Int))) * (bitU .and ((x1).n) ((4294967295:Int)))))) rfl rfl ?_)))))))))))));obtain ⟨y3,hy3,h⟩:=bsome h;refine EL_p (.int .u64 (y3)) (P_shrU rfl rfl hy3) rfl (EL_p (.int .u64 (wu64 ((wu64 (y1 * (bitU .and ((x1).n) ((4294967295:Int))))) + y3))) (P_uadd rfl rfl) rfl (EL_p (.int .u64 (wu64 ((wu64 (y1 * (bitU .and ((x1).n) ((4294967295:Int))))) + y3))) (P_assign rfl) rfl (EL_nt (E_sr (EL_p (.int .u64 (wu64 ((wu64 (y1 * (bitU .and ((x1).n) ((4294967295:Int))))) + y3))) (Zk rfl) rfl (EL_p (.int .u64 (bitU .and (wu64 ((wu64 (y1 * (bitU .and ((x1).n) ((4294967295:Int))))) + y3)) ((4294967295:Int)))) (P_bitU (by simp) rfl rfl) rfl (EL_p (.int .u64 (bitU .and (wu64 ((wu64 (y1 * (bitU .and ((x1).n) ((4294967295:Int))))) + y3)) ((4294967295:Int)))) (P_assign rfl) rfl (EL_nt (E_sr (EL_p (.int .u64 (wu64 ((wu64 (y1 * (bitU .and ((x1).n) ((4294967295:Int))))) + y3))) (Zk rfl) rfl ?_))))))))));obtain ⟨y4,o0,h⟩:=bsome h;refine EL_p (.int .u64 (y4)) (P_shrU rfl rfl o0) rfl (Zg (.int .u64 (y4)) rfl rfl (EL_nt (E_sr (EL_p (.int .u64 (bitU .and (wu64 ((wu64 (y1 * (bitU .and ((x1).n) ((4294967295:Int))))) + y3)) ((4294967295:Int)))) (Zk rfl) rfl (Zn (.int .u64 (bitU .and ((x0).n) ((4294967295:Int)))) rfl rfl (Zn (.int .u64 (y2)) rfl rfl (EL_p (.int .u64 (wu64 ((bitU .and ((x0).n) ((4294967295:Int))) * y2))) (P_umul rfl rfl) rfl (EL_p (.int .u64 (wu64 ((bitU .and (wu64 ((wu64 (y1 * (bitU .and ((x1).n) ((4294967295:Int))))) + y3)) ((4294967295:Int))) + (wu64 ((bitU .and ((x0).n) ((4294967295:Int))) * y2))))) (P_uadd rfl rfl) rfl (EL_p (.int .u64 (wu64 ((bitU .and (wu64 ((wu64 (y1 * (bitU .and ((x1).n) ((4294967295:Int))))) + y3)) ((4294967295:Int))) + (wu64 ((bitU .and ((x0).n) ((4294967295:Int))) * y2))))) (P_assign rfl) rfl (EL_nt (E_sr (Zn (.int .u64 (y1)) rfl rfl (Zn (.int .u64 (y2)) rfl rfl (EL_p (.int .u64 (wu64 (y1 * y2))) (P_umul rfl rfl) rfl (Zn (.int .u64 (y4)) rfl rfl (EL_p (.int .u64 (wu64 ((wu64 (y1 * y2)) + y4))) (P_uadd rfl rfl) rfl (EL_p (.int .u64 (wu64 ((bitU .and (wu64 ((wu64 (y1 * (bitU .and ((x1).n) ((4294967295:Int))))) + y3)) ((4294967295:Int))) + (wu64 ((bitU .and ((x0).n) ((4294967295:Int))) * y2))))) (Zk rfl) rfl ?_)))))))))))))))));obtain ⟨y5,hy5,h⟩:=bsome h;refine EL_p (.int .u64 (y5)) (P_shrU rfl rfl hy5) rfl (EL_p (.int .u64 (wu64 ((wu64 ((wu64 (y1 * y2)) + y4)) + y5))) (P_uadd rfl rfl) rfl (EL_p (.int .u64 (wu64 ((wu64 ((wu64 (y1 * y2)) + y4)) + y5))) (P_assign rfl) rfl (EL_nt (E_sr (Zn (.int .u64 ((x0).n)) rfl rfl (Zn (.int .u64 ((x1).n)) rfl rfl (EL_p (.int .u64 (wu64 (((x0).n) * ((x1).n)))) (P_umul rfl rfl) rfl (Zg (.int .u64 (wu64 (((x0).n) * ((x1).n)))) rfl rfl (EL_nt (E_ret ?_))))))))))
 obtain rfl:=sinj h;exact end2 rfl rfl (rq (.int .u64 (wu64 ((wu64 ((wu64 (y1 * y2)) + y4)) + y5)))) (rq (.int .u64 (wu64 (((x0).n) * ((x1).n))))) ⟨_,hfr,_,_,rfl,rfl,rfl⟩
def f201 (x0:Bool):Option (UInt8):=
 jn (σ:=Unit) (fun _=>
  some ((46:UInt8))
  ) fun k2=>
 bif x0 then
  some ((120:UInt8))
 else
  k2 ()
theorem en201:Enters Tryz.prog 201:=enters_of Tryz.func201 (by kernel_rfl) rfl
theorem wk201 {gI:Gh} {wI:World} {x0:Bool}  {r:UInt8} (h:f201 x0=some r):Fn Tryz.prog 201 #[.bool (x0)] gI wI (fun _ _ v=>v=.int .u8 (UInt8.toNat (r))):=by
 unfold f201 at h;refine fnE Tryz.func201 rfl rfl fun g0 hm hfr=>?_;show E _ 4 none _ _ _ _ _;refine E_sr (Zg (.int .u8 (UInt8.toNat 0)) rfl rfl (EL_nt (Zq h (fun (s:Unit) e w=>∃ (g:Gh) ,Fr gI wI g w) (fun X2 k2 hk2 h=>?_) ?_)))
 ·refine E_sr (Zn (.bool (x0)) rfl rfl (EL_nt ?_))
  rcases Zt h with ⟨hc3,h⟩ | ⟨hc3,h⟩
  ·refine E_ct hc3 rfl (E_sr (Zg (.int .u8 (UInt8.toNat 120)) rfl rfl (EL_nt (E_ret (thn_r ?_)))))
   obtain rfl:=sinj h;exact end1 rfl rfl (rq (.int .u8 (UInt8.toNat 120))) ⟨_,hfr,rfl⟩
  ·refine E_cf hc3 rfl ?_
   exact Zu (Zd (hk2 () _ _ ⟨g0,hfr⟩ h))
 ·rintro _ o0 w4 ⟨g4, hfr⟩ h
  refine E_sr (Zg (.int .u8 (UInt8.toNat 46)) rfl rfl (EL_nt (E_ret ?_)));obtain rfl:=sinj h;exact end1 rfl rfl (rq (.int .u8 (UInt8.toNat 46))) ⟨_,hfr,rfl⟩
def f202 (x0:TieTieHarness) (x1:Int) (x2:Int):Option (Bool):=
 (idx (((x0).TieHarness).Warps) x2).bind fun y5=>
 (shr64 x1 y5).bind fun y8=>
 some (((bit64 .and y8 (1:Int)) == (1:Int)))
theorem en202:Enters Tryz.prog 202:=enters_of Tryz.func202 (by kernel_rfl) rfl
theorem wk202 {gI:Gh} {wI:World} {x0:TieTieHarness} {x1:Int} {x2:Int} {up0:Value} (rp0:RV gI.m wI x0 up0) {r:Bool} (h:f202 x0 x1 x2=some r):Fn Tryz.prog 202 #[up0,Iz (x1),Iz (x2)] gI wI (fun _ _ v=>v=.bool (r)):=by
 unfold f202 at h;refine fnE Tryz.func202 rfl rfl fun g0 hm hfr=>?_;have rp0:=RVc hm rp0;show E _ 17 none _ _ _ _ _;refine E_sr (EL_d0 rfl (D_box (g:=g0) rfl rp0 fun g1 w1 p1 hs q1=>?_));have hfr:=hfr.ext hs;refine Zg (.bool false) rfl rfl (EL_nt (E_sr (Zn (Iz (x1)) rfl rfl (EL_p (fPtr p1 0) (Zc at_237_0 rfl (PT.ptr q1)) rfl ?_))));have q2:=Zm (part_TieTieHarness_0).1 q1;refine EL_p (fPtr (fPtr p1 0) 1) (Zc at_106_1 rfl (PT.ptr q2)) rfl ?_;have q3:=Zm (part_TieHarness_1).1 q2;refine EL_d0 rfl (D_load (g:=g1) Tryz.isAgg22 Tryz.sizeOf22 rfl q3 fun v4 r4=>(Zn (Iz (x2)) rfl rfl ?_));obtain ⟨y5,hy5,h⟩:=bsome h;refine EL_p (ePtr v4 x2 1) (Zh (α:=Int) Tryz.underlying22 Tryz.sizeOf3 rfl r4 rfl hy5) rfl ?_;have q6:=PT_idx r4 hy5;refine EL_d0 rfl (D_load (g:=g1) Tryz.isAgg3 Tryz.sizeOf3 rfl q6 fun v7 r7=>?_);obtain rfl:=Zj.1 r7;obtain ⟨y8,o0,h⟩:=bsome h;refine EL_p (Iz (y8)) (P_int rfl rfl (congrArg (Option.map (Value.int .i64)) o0)) rfl (EL_in (Iz ((bit64 .and y8 (1:Int)))) rfl rfl rfl rfl (EL_in (.bool (((bit64 .and y8 (1:Int)) == (1:Int)))) rfl rfl rfl rfl (Zg (.bool (((bit64 .and y8 (1:Int)) == (1:Int)))) rfl rfl (EL_nt (E_ret ?_)))));obtain rfl:=sinj h;exact end1 rfl rfl (rq (.bool (((bit64 .and y8 (1:Int)) == (1:Int))))) ⟨_,hfr,rfl⟩
def f211 (x0:Str):Option (Bool):=
 some ((!((x0).b == (x0).b)))
theorem en211:Enters Tryz.prog 211:=enters_of Tryz.func211 (by kernel_rfl) rfl
theorem wk211 {gI:Gh} {wI:World} {x0:Str}  {r:Bool} (h:f211 x0=some r):Fn Tryz.prog 211 #[Str.v (x0)] gI wI (fun _ _ v=>v=.bool (r)):=by
 unfold f211 at h;refine fnE Tryz.func211 rfl rfl fun g0 hm hfr=>?_;show E _ 6 none _ _ _ _ _;refine E_sr (Zg (.bool false) rfl rfl (EL_nt (E_sr (Zn (Str.v (x0)) rfl rfl (Zn (Str.v (x0)) rfl rfl (EL_p (.bool ((!((x0).b == (x0).b)))) (P_str rfl rfl rfl) rfl (Zg (.bool ((!((x0).b == (x0).b)))) rfl rfl (EL_nt (E_ret ?_)))))))));obtain rfl:=sinj h;exact end1 rfl rfl (rq (.bool ((!((x0).b == (x0).b))))) ⟨_,hfr,rfl⟩
def f228 (x0:Int) (z0:Int) (z1:Int):Option (Bool):=
 Option.bind (α:=Bool) (
  bif (decide (x0 < z0)) then
   some (true)
  else
   some ((decide (x0 > z1)))
  ) fun o0=>
 some (o0)
theorem en228:Enters Tryz.prog 228:=enters_of Tryz.func228 (by kernel_rfl) rfl
theorem wk228 {gI:Gh} {wI:World} {x0:Int} {z0:Int} {z1:Int} {pf0:Value} (qf0:PT gI.m wI z0 pf0) {pf1:Value} (qf1:PT gI.m wI z1 pf1) {r:Bool} (h:f228 x0 z0 z1=some r):Fn Tryz.prog 228 #[Iz (x0),pf0,pf1] gI wI (fun _ _ v=>v=.bool (r)):=by
 unfold f228 at h;refine fnE Tryz.func228 rfl rfl fun g0 hm hfr=>?_;have qf0:PT g0.m wI z0 pf0:=hm ▸ qf0;have qf1:PT g0.m wI z1 pf1:=hm ▸ qf1;show E _ 13 none _ _ _ _ _;refine E_sr (Zg (.bool false) rfl rfl (EL_nt ?_));obtain ⟨o0,hx,h⟩:=bsome h;refine E_join (fun e w=>∃ (g:Gh) ,Fr gI wI g w∧e 4=.bool (o0)) (fun Q' hQ=>?_) (fun t5 w7 hR=>?_)
 ·replace h := hx
  clear hx;refine Za (Zn (Iz (x0)) rfl rfl (EL_d0 rfl (D_load (g:=g0) Tryz.isAgg3 Tryz.sizeOf3 rfl qf0 fun v4 r4=>?_)));obtain rfl:=Zj.1 r4;refine EL_in (.bool ((decide (x0 < z0)))) rfl rfl rfl rfl (Zn (.bool ((decide (x0 < z0)))) rfl rfl ?_);rcases Zt h with ⟨hc5,h⟩ | ⟨hc5,h⟩
  ·refine EL_s rfl rfl hc5 rfl rfl (EL_s rfl rfl hc5 rfl rfl (EL_s rfl rfl hc5 rfl rfl (EL_p (.bool true) (Zl (b := (decide (x0 < z0))) rfl (pick_t hc5 rfl)) rfl (Zg (.bool true) rfl rfl (Zb ?_)))))
   obtain rfl:=sinj h;exact hQ _ _ ⟨g0,hfr,rfl⟩
  ·refine EL_y (Iz (x0)) (Zk rfl) rfl rfl hc5 rfl (Ze (.yes2 rfl rfl hc5) rfl (D_load (g := g0) Tryz.isAgg3 Tryz.sizeOf3 rfl qf1 fun v6 r6 => ?_))
   obtain rfl:=Zj.1 r6;refine EL_y (.bool ((decide (x0 > z1)))) (P_int rfl rfl rfl) rfl rfl hc5 rfl (EL_p (.bool ((decide (x0 > z1)))) (Zl (b:=(decide (x0 < z0))) rfl (pick_f hc5 rfl)) rfl (Zg (.bool ((decide (x0 > z1)))) rfl rfl (Zb ?_)));obtain rfl:=sinj h;exact hQ _ _ ⟨g0,hfr,rfl⟩
 ·clear hx
  obtain ⟨g7,hfr,l5⟩:=hR;refine E_ret ?_;obtain rfl:=sinj h;exact end1 rfl rfl (show _=.bool (o0) from l5) ⟨_,hfr,rfl⟩
def f231 (x0:List ChainCard) (x1:ChainCard→Option Bool):Option (Int):=
 jn (σ:=Unit) (fun _=>
  some ((-1:Int))
  ) fun k18=>
 lp (σ:=Int) (fun k19 o0=>
  bif (decide (o0 < ((x0).length : Int))) then
   jn (σ:=Unit) (fun _=>
    k19 ((w64 (o0 + (1:Int))))
    ) fun k28=>
   (idx x0 o0).bind fun cC=>
   (x1 cC).bind fun uC=>
   bif uC then
    some (o0)
   else
    k28 ()
  else
   k18 ()
  ) big ((0:Int))
theorem en231:Enters Tryz.prog 231:=enters_of Tryz.func231 (by kernel_rfl) rfl
theorem wk231 {gI:Gh} {wI:World} {x0:List ChainCard} {x1:ChainCard→Option Bool} {up0:Value} (rp0:RV gI.m wI x0 up0) {up1:Value} (rp1:FnV1 Tryz.prog x1 up1 gI wI) {r:Int} (h:f231 x0 x1=some r):Fn Tryz.prog 231 #[up0,up1] gI wI (fun _ _ v=>v=Iz (r)):=by
 unfold f231 at h;refine fnE Tryz.func231 rfl rfl fun g0 hm hfr=>?_;have rp0:=RVc hm rp0;obtain ⟨ff1,fa1,fc1,rfl,fen1,fcl1⟩:=rp1;show E _ 19 none _ _ _ _ _;refine E_sr (Zg (Iz (0)) rfl rfl (EL_nt (Zq h (fun (s:Unit) e w=>∃ (g:Gh) ,Fr gI wI g w) (fun X18 k18 bD h=>?_) ?_)))
 ·refine E_sr (Zn up0 rfl rfl (EL_p (Iz ((x0).length : Int)) (P_len Tryz.underlying90 rfl rp0) rfl (Zn (Iz (0)) rfl rfl (EL_nt (Zr (E_lp h (fun (s : Int) e w => ∃ (g : Gh) , Fr gI wI g w ∧ e 0 = up0 ∧ RV g.m w (x0 : List ChainCard) up0 ∧ e 1 = (.func (.func ff1) fa1 fc1) ∧ e 7 = Iz (((x0).length : Int)) ∧ e 8 = Iz (s)) ⟨g0, hfr, rfl, rp0, rfl, rfl, rfl⟩ (fun X19 k19 cD => ?_)))))))
  rintro o0 iE oE ⟨aB,hfr,n8,l5,l9,n9,t5⟩ h;refine E_sr (EL_in (.bool ((decide (o0 < ((x0).length:Int))))) t5 n9 rfl rfl (EL_nt (Zf ?_)));rcases Zt h with ⟨i6,h⟩ | ⟨i6,h⟩
  ·refine E_ct i6 rfl (Zu (Zd (Zq h (fun (s : Unit) e w => ∃ (g : Gh) , Fr gI wI g w ∧ e 0 = up0 ∧ RV g.m w (x0 : List ChainCard) up0 ∧ e 1 = (.func (.func ff1) fa1 fc1) ∧ e 7 = Iz (((x0).length : Int)) ∧ e 8 = Iz (o0)) (fun X28 k28 lD h => ?_) ?_)))
   ·refine Zr (E_sr (Zo t5 rfl (Zg (Iz (o0)) rfl rfl (EL_nt (E_sr (Zo l9 rfl (Zo n8 rfl (Zn (Iz (o0)) rfl rfl ?_))))))))
    obtain ⟨cC,lB,h⟩:=bsome h;refine EL_p (ePtr up0 o0 3) (Zh (α:=ChainCard) Tryz.underlying90 Tryz.sizeOf96 rfl l5 rfl lB) rfl ?_;have oD:=PT_idx l5 lB;refine EL_d0 rfl (D_load (g:=aB) Tryz.isAgg96 Tryz.sizeOf96 rfl oD fun yD zD=>?_);obtain ⟨uC,nD,h⟩:=bsome h;refine EL_d0 rfl (D_callv (g:=aB) (vs:=[yD]) rfl fen1 (.cons rfl .nil) (fcl1 _ _ hfr.ch _ _ _  zD nD) fun aE rE uE hs hr=>?_);have hfr:=hfr.ext hs;have l5:=l5.ext hs;obtain rfl:=RV_bool.1 hr;refine EL_nt ?_;rcases Zt h with ⟨l8,h⟩ | ⟨l8,h⟩
    ·refine E_ct l8 rfl (E_sr (Zn (Iz (o0)) rfl rfl (Zg (Iz (o0)) rfl rfl (EL_nt (E_ret (blk_r (thn_r (thn_r (blk_r (thn_r ?_))))))))))
     obtain rfl:=sinj h;exact end1 rfl rfl (rq (Iz (o0))) ⟨_,hfr,rfl⟩
    ·refine E_cf l8 rfl ?_
     exact Zu (blk_n (Zd (lD () _ _ ⟨aE,hfr,n8,l5,l9,n9,t5⟩ h)))
   ·rintro _ lE vE ⟨bE, hfr, mB, nB, oB, yB, zB⟩ h
    refine Za (EL_in (Iz ((w64 (o0 + (1:Int))))) zB rfl rfl rfl (Zn (Iz ((w64 (o0 + (1:Int))))) rfl rfl ?_));exact EL_nt (cD ((w64 (o0 + (1:Int)))) _ _ ⟨bE,hfr,mB,nB,oB,yB,rfl⟩ h)
  ·refine E_cf i6 rfl (E_exit (thn_e (thn_e (blk_hit ?_))))
   exact Zd (bD () _ _ ⟨aB,hfr⟩ h)
 ·rintro _ mE xE ⟨yE, hfr⟩ h
  refine E_sr (Zg (Iz (-1)) rfl rfl (EL_nt (E_ret ?_)));obtain rfl:=sinj h;exact end1 rfl rfl (rq (Iz (-1))) ⟨_,hfr,rfl⟩
def f232 (x0:Str) (x1:I32→Option Bool) (x2:Bool):Option (Int):=
 jn (σ:=Unit) (fun _=>
  some ((-1:Int))
  ) fun k8=>
 lp (σ:=Nat) (fun aB o0=>
  bif (decide (o0 < (x0).b.length)) then
   (x1 ((⟨(dec x0 o0).1⟩:I32))).bind fun n9=>
   bif (n9 == x2) then
    some (((o0:Nat):Int))
   else
    aB ((o0 + (dec x0 o0).2))
  else
   k8 ()
  ) big (0)
theorem en232:Enters Tryz.prog 232:=enters_of Tryz.func232 (by kernel_rfl) rfl
theorem wk232 {gI:Gh} {wI:World} {x0:Str} {x1:I32→Option Bool} {x2:Bool} {up1:Value} (rp1:FnV1 Tryz.prog x1 up1 gI wI) {r:Int} (h:f232 x0 x1 x2=some r):Fn Tryz.prog 232 #[Str.v (x0),up1,.bool (x2)] gI wI (fun _ _ v=>v=Iz (r)):=by
 unfold f232 at h;refine fnE Tryz.func232 rfl rfl fun g0 hm hfr=>?_;obtain ⟨ff1,fa1,fc1,rfl,fen1,fcl1⟩:=rp1;show E _ 21 none _ _ _ _ _;refine E_sr (Zg (Iz (0)) rfl rfl (EL_nt (Zq h (fun (s:Unit) e w=>∃ (g:Gh) ,Fr gI wI g w) (fun X8 k8 nB h=>?_) ?_)))
 ·refine E_sr (Zn (Str.v (x0)) rfl rfl (EL_d0 rfl (D_rangeS (g := g0) (s := x0) 7010 Tryz.underlying9 rfl fun g9 w9 p9 hs b9 => ?_)))
  have hfr:=hfr.stp hs;refine EL_nt (Zr (E_lp h (fun (s:Nat) e w=>∃ (g:Gh) ,Fr gI wI g w∧e 1=(.func (.func ff1) fa1 fc1)∧e 2=.bool (x2)∧e 10=p9∧SI 7010 g w (x0) (s) p9) ⟨g9,hfr,rfl,rfl,rfl,b9⟩ (fun X10 aB lB=>?_)));rintro o0 zB w11 ⟨g11,hfr,n8,l9,l5,t5⟩ h;refine E_sr ?_;rcases Zt h with ⟨i6,h⟩ | ⟨i6,h⟩
  ·refine EL_d0 rfl (D_nextS_t (g := g11) l5 t5 i6 fun oB uC hs b12 => ?_)
   have hfr:=hfr.stp hs;refine EL_p (.bool true) (Zi rfl rfl) rfl (EL_nt (Zf (E_cond_true (by rw [show ev _ _=_ from rfl]; exact congrArg Value.bool rfl) (Zu (Zd (Zr (E_sr (EL_p (Iz ((o0:Nat):Int)) (Zi rfl rfl) rfl (EL_p (.int .i32 (dec x0 o0).1) (Zi rfl rfl) rfl (Zg (Iz ((o0:Nat):Int)) rfl rfl (Zg (.int .i32 (dec x0 o0).1) rfl rfl (EL_nt (E_sr (Zo n8 rfl (Zn (.int .i32 (dec x0 o0).1) rfl rfl ?_)))))))))))))));obtain ⟨n9,mB,h⟩:=bsome h;refine EL_d0 rfl (D_callv (g:=oB) (vs:=[.int .i32 (dec x0 o0).1]) rfl fen1 (.cons rfl .nil) (fcl1 _ _ hfr.ch _ _ _  (RV_i32.2 rfl) mB) fun yB bD cD hs hr=>?_);have hfr:=hfr.ext hs;have b12:=b12.ext hs;obtain rfl:=RV_bool.1 hr;refine Zo l9 rfl (EL_p (.bool ((n9 == x2))) (P_bool Tryz.underlying4 rfl rfl rfl) rfl (EL_nt ?_));rcases Zt h with ⟨l8,h⟩ | ⟨l8,h⟩
   ·refine E_ct l8 rfl (E_sr (Zn (Iz ((o0 : Nat) : Int)) rfl rfl (Zg (Iz ((o0 : Nat) : Int)) rfl rfl (EL_nt (E_ret (blk_r (thn_r (blk_r (thn_r ?_)))))))))
    obtain rfl:=sinj h;exact end1 rfl rfl (rq (Iz ((o0:Nat):Int))) ⟨_,hfr,rfl⟩
   ·refine E_cf l8 rfl ?_
    exact Zu (blk_n (Zd (lB ((o0 + (dec x0 o0).2)) _ _ ⟨yB,hfr,n8,l9,l5,b12⟩ h)))
  ·refine EL_d0 rfl (D_nextS_f (g := g11) l5 t5 i6 (EL_p (.bool false) (Zi rfl rfl) rfl (EL_nt (Zf (E_cond_false (by rw [show ev _ _ = _ from rfl]; exact congrArg Value.bool rfl) (E_exit (thn_e (thn_e (blk_hit ?_)))))))))
   exact Zd (nB () _ _ ⟨g11,hfr⟩ h)
 ·rintro _ cC lD ⟨nD, hfr⟩ h
  refine E_sr (Zg (Iz (-1)) rfl rfl (EL_nt (E_ret ?_)));obtain rfl:=sinj h;exact end1 rfl rfl (rq (Iz (-1))) ⟨_,hfr,rfl⟩
def f241 (x0:U64):Option (U64):=
 (shr64 ((x0).n) ((8:Int))).bind fun y1=>
 (shlU (bitU .and ((x0).n) ((71777214294589695:Int))) ((8:Int))).bind fun y2=>
 (shr64 (bitU .or (bitU .and y1 ((71777214294589695:Int))) y2) ((16:Int))).bind fun y3=>
 (shlU (bitU .and (bitU .or (bitU .and y1 ((71777214294589695:Int))) y2) ((281470681808895:Int))) ((16:Int))).bind fun y4=>
 (shr64 (bitU .or (bitU .and y3 ((281470681808895:Int))) y4) ((32:Int))).bind fun y5=>
 (shlU (bitU .or (bitU .and y3 ((281470681808895:Int))) y4) ((32:Int))).bind fun y6=>
 some ((⟨bitU .or y5 y6⟩:U64))
theorem en241:Enters Tryz.prog 241:=enters_of Tryz.func241 (by kernel_rfl) rfl
theorem wk241 {gI:Gh} {wI:World} {x0:U64}  {r:U64} (h:f241 x0=some r):Fn Tryz.prog 241 #[.int .u64 ((x0).n)] gI wI (fun _ _ v=>v=.int .u64 ((r).n)):=by
 unfold f241 at h;refine fnE Tryz.func241 rfl rfl fun g0 hm hfr=>?_;show E _ 22 none _ _ _ _ _;refine E_sr (Zg (.int .u64 (0)) rfl rfl (EL_nt (E_sr (Zn (.int .u64 ((x0).n)) rfl rfl ?_))));obtain ⟨y1,hy1,h⟩:=bsome h;refine EL_p (.int .u64 (y1)) (P_shrU rfl rfl hy1) rfl (EL_p (.int .u64 (bitU .and y1 ((71777214294589695:Int)))) (P_bitU (by simp) rfl rfl) rfl (Zn (.int .u64 ((x0).n)) rfl rfl (EL_p (.int .u64 (bitU .and ((x0).n) ((71777214294589695:Int)))) (P_bitU (by simp) rfl rfl) rfl ?_)));obtain ⟨y2,hy2,h⟩:=bsome h;refine EL_p (.int .u64 (y2)) (P_shlU rfl rfl hy2) rfl (EL_p (.int .u64 (bitU .or (bitU .and y1 ((71777214294589695:Int))) y2)) (P_bitU (by simp) rfl rfl) rfl (Zg (.int .u64 (bitU .or (bitU .and y1 ((71777214294589695:Int))) y2)) rfl rfl (EL_nt (E_sr (Zn (.int .u64 (bitU .or (bitU .and y1 ((71777214294589695:Int))) y2)) rfl rfl ?_)))));obtain ⟨y3,hy3,h⟩:=bsome h;refine EL_p (.int .u64 (y3)) (P_shrU rfl rfl hy3) rfl (EL_p (.int .u64 (bitU .and y3 ((281470681808895:Int)))) (P_bitU (by simp) rfl rfl) rfl (Zn (.int .u64 (bitU .or (bitU .and y1 ((71777214294589695:Int))) y2)) rfl rfl (EL_p (.int .u64 (bitU .and (bitU .or (bitU .and y1 ((71777214294589695:Int))) y2) ((281470681808895:Int)))) (P_bitU (by simp) rfl rfl) rfl ?_)));obtain ⟨y4,o0,h⟩:=bsome h;refine EL_p (.int .u64 (y4)) (P_shlU rfl rfl o0) rfl (EL_p (.int .u64 (bitU .or (bitU .and y3 ((281470681808895:Int))) y4)) (P_bitU (by simp) rfl rfl) rfl (Zg (.int .u64 (bitU .or (bitU .and y3 ((281470681808895:Int))) y4)) rfl rfl (EL_nt (E_sr (Zn (.int .u64 (bitU .or (bitU .and y3 ((281470681808895:Int))) y4)) rfl rfl ?_)))));obtain ⟨y5,hy5,h⟩:=bsome h;refine EL_p (.int .u64 (y5)) (P_shrU rfl rfl hy5) rfl (Zn (.int .u64 (bitU .or (bitU .and y3 ((281470681808895:Int))) y4)) rfl rfl ?_);obtain ⟨y6,l5,h⟩:=bsome h;refine EL_p (.int .u64 (y6)) (P_shlU rfl rfl l5) rfl (EL_p (.int .u64 (bitU .or y5 y6)) (P_bitU (by simp) rfl rfl) rfl (Zg (.int .u64 (bitU .or y5 y6)) rfl rfl (EL_nt (E_ret ?_))));obtain rfl:=sinj h;exact end1 rfl rfl (rq (.int .u64 (bitU .or y5 y6))) ⟨_,hfr,rfl⟩
def f18 (x0:Design) (x1:Design):Option (Bool):=
 Option.bind (α:=Bool) (
  bif ((x0).Hooks == (x1).Hooks) then
   (f58 ((x0).Rows) ((x1).Rows)).bind fun t5=>
   some (t5)
  else
   some (false)
  ) fun l5=>
 some (l5)
theorem en18:Enters Tryz.prog 18:=enters_of Tryz.func18 (by kernel_rfl) rfl
theorem wk18 {gI:Gh} {wI:World} {x0:Design} {x1:Design} {up0:Value} (rp0:RV gI.m wI x0 up0) {up1:Value} (rp1:RV gI.m wI x1 up1) {r:Bool} (h:f18 x0 x1=some r):Fn Tryz.prog 18 #[up0,up1] gI wI (fun _ _ v=>v=.bool (r)):=by
 unfold f18 at h;refine fnE Tryz.func18 rfl rfl fun g0 hm hfr=>?_;have rp0:=RVc hm rp0;have rp1:=RVc hm rp1;show E _ 17 none _ _ _ _ _;refine E_sr (EL_d0 rfl (D_box (g:=g0) rfl rp0 fun g1 w1 p1 hs q1=>?_));have hfr:=hfr.ext hs;have rp1:=rp1.ext hs;refine EL_d0 rfl (D_box (g:=g1) rfl rp1 fun g2 w2 p2 hs q2=>?_);have hfr:=hfr.ext hs;have q1:=q1.ext hs;refine Zg (.bool false) rfl rfl (EL_nt ?_);obtain ⟨l5,hx,h⟩:=bsome h;refine E_join (fun e w=>∃ (g:Gh) ,Fr gI wI g w∧e 4=.bool (l5)) (fun Q' hQ=>?_) (fun uC cD hR=>?_)
 ·replace h := hx
  clear hx;refine Za (EL_p (fPtr p1 0) (Zc at_24_0 rfl (PT.ptr q1)) rfl ?_);have n8:=Zm (part_Design_0).1 q1;refine EL_d0 rfl (D_load (g:=g2) Tryz.isAgg3 Tryz.sizeOf3 rfl n8 fun lD l9=>?_);obtain rfl:=Zj.1 l9;refine EL_p (fPtr p2 0) (Zc at_24_0 rfl (PT.ptr q2)) rfl ?_;have n9:=Zm (part_Design_0).1 q2;refine EL_d0 rfl (D_load (g:=g2) Tryz.isAgg3 Tryz.sizeOf3 rfl n9 fun nD aB=>?_);obtain rfl:=Zj.1 aB;refine EL_in (.bool (((x0).Hooks == (x1).Hooks))) rfl rfl rfl rfl (Zn (.bool (((x0).Hooks == (x1).Hooks))) rfl rfl ?_);rcases Zt h with ⟨o0,h⟩ | ⟨o0,h⟩
  ·refine EL_y (fPtr p1 1) (Zc at_24_1 rfl (PT.ptr q1)) rfl rfl o0 rfl ?_
   have lB:=Zm (part_Design_1).1 q1;refine Ze (.yes2 rfl rfl o0) rfl (D_load (g:=g2) Tryz.isAgg22 Tryz.sizeOf22 rfl lB fun mB nB=>(EL_y (fPtr p2 1) (Zc at_24_1 rfl (PT.ptr q2)) rfl rfl o0 rfl ?_));have oB:=Zm (part_Design_1).1 q2;refine Ze (.yes2 rfl rfl o0) rfl (D_load (g:=g2) Tryz.isAgg22 Tryz.sizeOf22 rfl oB fun yB zB=>?_);obtain ⟨t5,l8,h⟩:=bsome h;refine Ze (.yes2 rfl rfl o0) rfl (Zp (g:=g2) (vs:=[mB,yB]) en58 (.cons rfl (.cons rfl .nil)) (wk58 nB zB l8) fun cC bD oD hs hr=>?_);have hfr:=hfr.ext hs;subst hr;refine EL_p (.bool (t5)) (Zl (b:=((x0).Hooks == (x1).Hooks)) rfl (pick_t o0 rfl)) rfl (Zg (.bool (t5)) rfl rfl (Zb ?_));obtain rfl:=sinj h;exact hQ _ _ ⟨cC,hfr,rfl⟩
  ·refine EL_s rfl rfl o0 rfl rfl ?_
   iterate 4 refine EL_s rfl rfl o0 rfl rfl ?_
   refine EL_p (.bool false) (Zl (b:=((x0).Hooks == (x1).Hooks)) rfl (pick_f o0 rfl)) rfl (Zg (.bool false) rfl rfl (Zb ?_));obtain rfl:=sinj h;exact hQ _ _ ⟨g2,hfr,rfl⟩
 ·clear hx
  obtain ⟨yD,hfr,i6⟩:=hR;refine E_ret ?_;obtain rfl:=sinj h;exact end1 rfl rfl (show _=.bool (l5) from i6) ⟨_,hfr,rfl⟩
def f38 (x0:List UInt8):Option (BookCloth × Bool):=
 (cut x0 0 (6:Int)).bind fun y2=>
 (f94 y2).bind fun y5=>
 Option.bind (α:=BookCloth × Bool) (
  (idx x0 (0:Int)).bind fun o0=>
  (idx x0 (1:Int)).bind fun l5=>
  (idx x0 (2:Int)).bind fun t5=>
  (idx x0 (3:Int)).bind fun i6=>
  (idx x0 (4:Int)).bind fun l8=>
  (idx x0 (5:Int)).bind fun n8=>
  (idx x0 (6:Int)).bind fun y158=>
  bif (y5.1 == y158) then
   (idx x0 (7:Int)).bind fun aB=>
   some ((⟨(w64 ((w64 (((o0).toNat:Int) * (256:Int))) + ((l5).toNat:Int))),((t5).toNat:Int),((i6).toNat:Int),((l8).toNat:Int),((n8).toNat:Int)⟩:BookCloth),(y5.2 == aB))
  else
   some ((⟨(w64 ((w64 (((o0).toNat:Int) * (256:Int))) + ((l5).toNat:Int))),((t5).toNat:Int),((i6).toNat:Int),((l8).toNat:Int),((n8).toNat:Int)⟩:BookCloth),false)
  ) fun (lB,n9)=>
 some (lB,n9)
theorem en38:Enters Tryz.prog 38:=enters_of Tryz.func38 (by kernel_rfl) rfl
theorem wk38 {gI:Gh} {wI:World} {x0:List UInt8} {up0:Value} (rp0:RV gI.m wI x0 up0) {r:BookCloth × Bool} (h:f38 x0=some r):Fn Tryz.prog 38 #[up0] gI wI (fun m w v=>∃ y0 y1,v=.tuple #[y0,y1]∧RV m w (r.1) y0∧y1=.bool (r.2)):=by
 unfold f38 at h;refine fnE Tryz.func38 rfl rfl fun g0 hm hfr=>?_;have rp0:=RVc hm rp0;show E _ 51 none _ _ _ _ _;refine E_sr (EL_d0 rfl (D_allocOc (g:=g0) 2002 (⟨0,0,0,0,0⟩:BookCloth) Tryz.zeroValue63 (fun m w=>⟨_,(rep_two rep_int (rep_two rep_int (rep_two rep_int (rep_two rep_int rep_int)))),rfl⟩) fun g1 w1 p1 hs b1 cb=>?_));have hfr:=hfr.stp hs;have rp0:=rp0.stp hs;clear cb;refine Zg (.bool false) rfl rfl (EL_nt (E_sr (Zn up0 rfl rfl ?_)));obtain ⟨y2,hy2,h⟩:=bsome h;have r3:=RV_cut rp0 hy2;refine EL_p ((cutV up0 (Int.toNat 0) (Int.toNat (6:Int)) 1)) (P_slice Tryz.underlying50 Tryz.sizeOf5 rfl rp0 rfl rfl hy2) rfl ?_;obtain ⟨y5,hy5,h⟩:=bsome h;refine EL_d0 rfl (Zp (g:=g1) (vs:=[(cutV up0 (Int.toNat 0) (Int.toNat (6:Int)) 1)]) en94 (.cons rfl .nil) (wk94 r3 hy5) fun g4 w4_ v4 hs hr=>?_);have hfr:=hfr.ext hs;have rp0:=rp0.ext hs;have b1:=b1.ext hs;obtain ⟨jG,kG,rfl,rfl,rfl⟩:=hr;refine Zn (.tuple #[.int .u8 (UInt8.toNat (y5.1)),.int .u8 (UInt8.toNat (y5.2))]) rfl rfl (EL_p (.int .u8 (UInt8.toNat (y5.1))) (Zi rfl rfl) rfl (EL_p (.int .u8 (UInt8.toNat (y5.2))) (Zi rfl rfl) rfl (Zg (.int .u8 (UInt8.toNat (y5.1))) rfl rfl (Zg (.int .u8 (UInt8.toNat (y5.2))) rfl rfl (EL_nt ?_)))));obtain ⟨⟨lB,n9⟩,hx,h⟩:=bsome h;refine E_join (fun e w=>∃ (g:Gh) ,Fr gI wI g w∧e 2=p1∧OB 2002 g w 63 (lB:BookCloth) p1∧e 3=.bool (n9)) (fun Q' hQ=>?_) (fun iG lG hR=>?_)
 ·replace h := hx
  clear hx;obtain ⟨o0,mB,h⟩:=bsome h;have xE:=PT_idx rp0 mB;refine Zs (x:=.tmp 13) Tryz.isAgg5 Tryz.sizeOf5 xE fun mG yE cD=>?_;obtain rfl:=RV_u8.1 yE;obtain ⟨l5,nB,h⟩:=bsome h;have zE:=PT_idx rp0 nB;refine Zs (x:=.tmp 18) Tryz.isAgg5 Tryz.sizeOf5 zE fun sG cF lD=>?_;obtain rfl:=RV_u8.1 cF;obtain ⟨t5,oB,h⟩:=bsome h;have dF:=PT_idx rp0 oB;refine Zs (x:=.tmp 23) Tryz.isAgg5 Tryz.sizeOf5 dF fun xG eF nD=>?_;obtain rfl:=RV_u8.1 eF;obtain ⟨i6,yB,h⟩:=bsome h;have rF:=PT_idx rp0 yB;refine Zs (x:=.tmp 27) Tryz.isAgg5 Tryz.sizeOf5 rF fun yG sF oD=>?_;obtain rfl:=RV_u8.1 sF;obtain ⟨l8,zB,h⟩:=bsome h;have tF:=PT_idx rp0 zB;refine Zs (x:=.tmp 31) Tryz.isAgg5 Tryz.sizeOf5 tF fun zG uF yD=>?_;obtain rfl:=RV_u8.1 uF;obtain ⟨n8,cC,h⟩:=bsome h;have vF:=PT_idx rp0 cC;refine Zs (x:=.tmp 35) Tryz.isAgg5 Tryz.sizeOf5 vF fun aH xF zD=>?_;obtain rfl:=RV_u8.1 xF;have bD:RV g4.m w4_ (⟨(w64 ((w64 (((o0).toNat:Int) * (256:Int))) + ((l5).toNat:Int))),((t5).toNat:Int),((i6).toNat:Int),((l8).toNat:Int),((n8).toNat:Int)⟩:BookCloth) (.agg (setCh [[Iz 0],[Iz 0],[Iz 0],[Iz 0],[Iz 0]] [(0,Iz ((w64 ((w64 (((o0).toNat:Int) * (256:Int))) + ((l5).toNat:Int))))),(1,Iz (((t5).toNat:Int))),(2,Iz (((i6).toNat:Int))),(3,Iz (((l8).toNat:Int))),(4,Iz (((n8).toNat:Int)))]).flatten.toArray):=RV_build rfl (rep_pair (rfl) (rep_pair (rfl) (rep_pair (rfl) (rep_pair (rfl) (rep_last (rfl))))));generalize aE:(Value.agg (setCh [[Iz 0],[Iz 0],[Iz 0],[Iz 0],[Iz 0]] [(0,Iz ((w64 ((w64 (((o0).toNat:Int) * (256:Int))) + ((l5).toNat:Int))))),(1,Iz (((t5).toNat:Int))),(2,Iz (((i6).toNat:Int))),(3,Iz (((l8).toNat:Int))),(4,Iz (((n8).toNat:Int)))]).flatten.toArray)=lE at bD;obtain ⟨y158,uC,h⟩:=bsome h;have yF:=PT_idx rp0 uC;refine Zs (x:=.tmp 41) Tryz.isAgg5 Tryz.sizeOf5 yF fun cH aG bE=>?_;obtain rfl:=RV_u8.1 aG;rcases Zt h with ⟨l9,h⟩ | ⟨l9,h⟩
  ·obtain ⟨aB, iE, h⟩ := bsome h
   have bG:=PT_idx rp0 iE;refine Zs (x:=.tmp 47) Tryz.isAgg5 Tryz.sizeOf5 bG fun gH cG uE=>?_;obtain rfl:=RV_u8.1 cG;refine E_drawB (a0:=((⟨0,0,0,0,0⟩:BookCloth):BookCloth)) (a1:=((⟨(w64 ((w64 (((o0).toNat:Int) * (256:Int))) + ((l5).toNat:Int))),((t5).toNat:Int),((i6).toNat:Int),((l8).toNat:Int),((n8).toNat:Int)⟩:BookCloth):BookCloth)) b1 (n:=41) [(39,(fun _ g w=>OB 2002 g w 63 ((⟨(w64 ((w64 (((o0).toNat:Int) * (256:Int))) + ((l5).toNat:Int))),((t5).toNat:Int),((i6).toNat:Int),((l8).toNat:Int),((n8).toNat:Int)⟩:BookCloth):BookCloth) p1))] [0,1,2,3,4,5,6,7,8,9,10,11,12,13,14,15,16,17,18,19,20,21,22,23,24,25,26,27,28,29,30,31,32,33,34,35,36,37,38,39,40] rfl mixed (by kernel_rfl) (⟨fun _=>up_box,trivial⟩) (L_p up0 rfl rfl (Zk rfl) (L_p (ePtr up0 (0:Int) 1) rfl rfl (Zh (α:=UInt8) Tryz.underlying50 Tryz.sizeOf5 rfl rp0 rfl mB) (L_ld (c:=.int .u8 (UInt8.toNat (o0))) rfl rfl .plain (fun _ _ h=>h.1.ch) cD rfl (L_p (Iz (((o0).toNat:Int))) rfl rfl (P_u8int Tryz.underlying5 Tryz.underlying3 rfl) (L_p (Iz ((w64 (((o0).toNat:Int) * (256:Int))))) rfl rfl (P_int rfl rfl rfl) (L_p up0 rfl rfl (Zk rfl) (L_p (ePtr up0 (1:Int) 1) rfl rfl (Zh (α:=UInt8) Tryz.underlying50 Tryz.sizeOf5 rfl rp0 rfl nB) (L_ld (c:=.int .u8 (UInt8.toNat (l5))) rfl rfl .plain (fun _ _ h=>h.1.ch) lD rfl (L_p (Iz (((l5).toNat:Int))) rfl rfl (P_u8int Tryz.underlying5 Tryz.underlying3 rfl) (L_p (Iz ((w64 ((w64 (((o0).toNat:Int) * (256:Int))) + ((l5).toNat:Int))))) rfl rfl (P_int rfl rfl rfl) (L_p up0 rfl rfl (Zk rfl) (L_p (ePtr up0 (2:Int) 1) rfl rfl (Zh (α:=UInt8) Tryz.underlying50 Tryz.sizeOf5 rfl rp0 rfl oB) (L_ld (c:=.int .u8 (UInt8.toNat (t5))) rfl rfl .plain (fun _ _ h=>h.1.ch) nD rfl (L_p (Iz (((t5).toNat:Int))) rfl rfl (P_u8int Tryz.underlying5 Tryz.underlying3 rfl) (L_p up0 rfl rfl (Zk rfl) (L_p (ePtr up0 (3:Int) 1) rfl rfl (Zh (α:=UInt8) Tryz.underlying50 Tryz.sizeOf5 rfl rp0 rfl yB) ?_))))))))))))))));refine L_ld (c:=.int .u8 (UInt8.toNat (i6))) rfl rfl .plain (fun _ _ h=>h.1.ch) oD rfl (L_p (Iz (((i6).toNat:Int))) rfl rfl (P_u8int Tryz.underlying5 Tryz.underlying3 rfl) (L_p up0 rfl rfl (Zk rfl) (L_p (ePtr up0 (4:Int) 1) rfl rfl (Zh (α:=UInt8) Tryz.underlying50 Tryz.sizeOf5 rfl rp0 rfl zB) (L_ld (c:=.int .u8 (UInt8.toNat (l8))) rfl rfl .plain (fun _ _ h=>h.1.ch) yD rfl (L_p (Iz (((l8).toNat:Int))) rfl rfl (P_u8int Tryz.underlying5 Tryz.underlying3 rfl) (L_p up0 rfl rfl (Zk rfl) (L_p (ePtr up0 (5:Int) 1) rfl rfl (Zh (α:=UInt8) Tryz.underlying50 Tryz.sizeOf5 rfl rp0 rfl cC) (L_ld (c:=.int .u8 (UInt8.toNat (n8))) rfl rfl .plain (fun _ _ h=>h.1.ch) zD rfl (L_p (Iz (((n8).toNat:Int))) rfl rfl (P_u8int Tryz.underlying5 Tryz.underlying3 rfl) (L_p lE rfl rfl (aE ▸ P_build (vs:=[(0,Iz ((w64 ((w64 (((o0).toNat:Int) * (256:Int))) + ((l5).toNat:Int))))),(1,Iz (((t5).toNat:Int))),(2,Iz (((i6).toNat:Int))),(3,Iz (((l8).toNat:Int))),(4,Iz (((n8).toNat:Int)))]) [[Iz 0],[Iz 0],[Iz 0],[Iz 0],[Iz 0]] lay_63 rfl rfl (.cons rfl (.cons rfl (.cons rfl (.cons rfl (.cons rfl .nil))))) ⟨⟨_,rfl,rfl⟩,⟨⟨_,rfl,rfl⟩,⟨⟨_,rfl,rfl⟩,⟨⟨_,rfl,rfl⟩,⟨⟨_,rfl,rfl⟩,trivial⟩⟩⟩⟩⟩) (L_p (.int .u8 (UInt8.toNat (y5.1))) rfl rfl (Zk rfl) (L_p up0 rfl rfl (Zk rfl) (L_p (ePtr up0 (6:Int) 1) rfl rfl (Zh (α:=UInt8) Tryz.underlying50 Tryz.sizeOf5 rfl rp0 rfl uC) (L_ld (c:=.int .u8 (UInt8.toNat (y158))) rfl rfl .plain (fun _ _ h=>h.1.ch) bE rfl (L_p (.bool ((y5.1 == y158))) rfl rfl (P_u8 rfl rfl rfl) (L_p (.bool ((y5.1 == y158))) rfl rfl (Zk rfl) ?_))))))))))))))));refine L_y (.int .u8 (UInt8.toNat (y5.2))) rfl rfl rfl rfl l9 (Zk rfl) (L_y up0 rfl rfl rfl rfl l9 (Zk rfl) (L_y (ePtr up0 (7:Int) 1) rfl rfl rfl rfl l9 (Zh (α:=UInt8) Tryz.underlying50 Tryz.sizeOf5 rfl rp0 rfl iE) (L_ld (c:=.int .u8 (UInt8.toNat (aB))) rfl rfl (.yes2 rfl rfl l9) (fun _ _ h=>h.1.ch) uE rfl (L_y (.bool ((y5.2 == aB))) rfl rfl rfl rfl l9 (P_u8 rfl rfl rfl) (L_p (.bool ((y5.2 == aB))) rfl rfl (Zl (b:=(y5.1 == y158)) rfl (pick_t l9 rfl)) (L_do (φ:=fun _ g w=>OB 2002 g w 63 ((⟨(w64 ((w64 (((o0).toNat:Int) * (256:Int))) + ((l5).toNat:Int))),((t5).toNat:Int),((i6).toNat:Int),((l8).toNat:Int),((n8).toNat:Int)⟩:BookCloth):BookCloth) p1) rfl rfl .plain (fun g w hd=>D_storeR0 (g:=g) Tryz.sizeOf63 rfl hd.1.2 rfl (bD.stp hd.1.1)) (fun jH hv=>?_)))))))
   clear hv;refine L_p (.bool ((y5.2 == aB))) rfl rfl (P_assign rfl) (L_nil fun eG kH hall=>?_);have hs:=hall.1.1;have hfr:=hfr.stp hs;have b169:=(word_all (A:=fun g w=>OB 2002 g w 63 ((⟨(w64 ((w64 (((o0).toNat:Int) * (256:Int))) + ((l5).toNat:Int))),((t5).toNat:Int),((i6).toNat:Int),((l8).toNat:Int),((n8).toNat:Int)⟩:BookCloth):BookCloth) p1) 39 rfl hall);clear hs hall;refine Zb ?_;obtain ⟨rfl,rfl⟩:=pairs2 h;exact hQ _ _ ⟨eG,hfr,rfl,b169,rfl⟩
  ·refine E_drawB (a0 := ((⟨0, 0, 0, 0, 0⟩ : BookCloth) : BookCloth)) (a1 := ((⟨(w64 ((w64 (((o0).toNat : Int) * (256 : Int))) + ((l5).toNat : Int))), ((t5).toNat : Int), ((i6).toNat : Int), ((l8).toNat : Int), ((n8).toNat : Int)⟩ : BookCloth) : BookCloth)) b1 (n := 41) [(39, (fun _ g w => OB 2002 g w 63 ((⟨(w64 ((w64 (((o0).toNat : Int) * (256 : Int))) + ((l5).toNat : Int))), ((t5).toNat : Int), ((i6).toNat : Int), ((l8).toNat : Int), ((n8).toNat : Int)⟩ : BookCloth) : BookCloth) p1))] [0, 1, 2, 3, 4, 5, 6, 7, 8, 9, 10, 11, 12, 13, 14, 15, 16, 17, 18, 19, 20, 21, 22, 23, 24, 25, 26, 27, 28, 29, 30, 31, 32, 33, 34, 35, 36, 37, 38, 39, 40] rfl mixed (by kernel_rfl) (⟨fun _ => up_box, trivial⟩) (L_p up0 rfl rfl (Zk rfl) (L_p (ePtr up0 (0 : Int) 1) rfl rfl (Zh (α := UInt8) Tryz.underlying50 Tryz.sizeOf5 rfl rp0 rfl mB) (L_ld (c := .int .u8 (UInt8.toNat (o0))) rfl rfl .plain (fun _ _ h => h.1.ch) cD rfl (L_p (Iz (((o0).toNat : Int))) rfl rfl (P_u8int Tryz.underlying5 Tryz.underlying3 rfl) (L_p (Iz ((w64 (((o0).toNat : Int) * (256 : Int))))) rfl rfl (P_int rfl rfl rfl) (L_p up0 rfl rfl (Zk rfl) (L_p (ePtr up0 (1 : Int) 1) rfl rfl (Zh (α := UInt8) Tryz.underlying50 Tryz.sizeOf5 rfl rp0 rfl nB) (L_ld (c := .int .u8 (UInt8.toNat (l5))) rfl rfl .plain (fun _ _ h => h.1.ch) lD rfl (L_p (Iz (((l5).toNat : Int))) rfl rfl (P_u8int Tryz.underlying5 Tryz.underlying3 rfl) (L_p (Iz ((w64 ((w64 (((o0).toNat : Int) * (256 : Int))) + ((l5).toNat : Int))))) rfl rfl (P_int rfl rfl rfl) (L_p up0 rfl rfl (Zk rfl) (L_p (ePtr up0 (2 : Int) 1) rfl rfl (Zh (α := UInt8) Tryz.underlying50 Tryz.sizeOf5 rfl rp0 rfl oB) (L_ld (c := .int .u8 (UInt8.toNat (t5))) rfl rfl .plain (fun _ _ h => h.1.ch) nD rfl (L_p (Iz (((t5).toNat : Int))) rfl rfl (P_u8int Tryz.underlying5 Tryz.underlying3 rfl) (L_p up0 rfl rfl (Zk rfl) (L_p (ePtr up0 (3 : Int) 1) rfl rfl (Zh (α := UInt8) Tryz.underlying50 Tryz.sizeOf5 rfl rp0 rfl yB) ?_))))))))))))))))
   refine L_ld (c:=.int .u8 (UInt8.toNat (i6))) rfl rfl .plain (fun _ _ h=>h.1.ch) oD rfl (L_p (Iz (((i6).toNat:Int))) rfl rfl (P_u8int Tryz.underlying5 Tryz.underlying3 rfl) (L_p up0 rfl rfl (Zk rfl) (L_p (ePtr up0 (4:Int) 1) rfl rfl (Zh (α:=UInt8) Tryz.underlying50 Tryz.sizeOf5 rfl rp0 rfl zB) (L_ld (c:=.int .u8 (UInt8.toNat (l8))) rfl rfl .plain (fun _ _ h=>h.1.ch) yD rfl (L_p (Iz (((l8).toNat:Int))) rfl rfl (P_u8int Tryz.underlying5 Tryz.underlying3 rfl) (L_p up0 rfl rfl (Zk rfl) (L_p (ePtr up0 (5:Int) 1) rfl rfl (Zh (α:=UInt8) Tryz.underlying50 Tryz.sizeOf5 rfl rp0 rfl cC) (L_ld (c:=.int .u8 (UInt8.toNat (n8))) rfl rfl .plain (fun _ _ h=>h.1.ch) zD rfl (L_p (Iz (((n8).toNat:Int))) rfl rfl (P_u8int Tryz.underlying5 Tryz.underlying3 rfl) (L_p lE rfl rfl (aE ▸ P_build (vs:=[(0,Iz ((w64 ((w64 (((o0).toNat:Int) * (256:Int))) + ((l5).toNat:Int))))),(1,Iz (((t5).toNat:Int))),(2,Iz (((i6).toNat:Int))),(3,Iz (((l8).toNat:Int))),(4,Iz (((n8).toNat:Int)))]) [[Iz 0],[Iz 0],[Iz 0],[Iz 0],[Iz 0]] lay_63 rfl rfl (.cons rfl (.cons rfl (.cons rfl (.cons rfl (.cons rfl .nil))))) ⟨⟨_,rfl,rfl⟩,⟨⟨_,rfl,rfl⟩,⟨⟨_,rfl,rfl⟩,⟨⟨_,rfl,rfl⟩,⟨⟨_,rfl,rfl⟩,trivial⟩⟩⟩⟩⟩) (L_p (.int .u8 (UInt8.toNat (y5.1))) rfl rfl (Zk rfl) (L_p up0 rfl rfl (Zk rfl) (L_p (ePtr up0 (6:Int) 1) rfl rfl (Zh (α:=UInt8) Tryz.underlying50 Tryz.sizeOf5 rfl rp0 rfl uC) (L_ld (c:=.int .u8 (UInt8.toNat (y158))) rfl rfl .plain (fun _ _ h=>h.1.ch) bE rfl (L_p (.bool ((y5.1 == y158))) rfl rfl (P_u8 rfl rfl rfl) (L_p (.bool ((y5.1 == y158))) rfl rfl (Zk rfl) ?_))))))))))))))));iterate 5 refine L_s rfl rfl rfl l9 rfl ?_
   refine L_p (.bool false) rfl rfl (Zl (b:=(y5.1 == y158)) rfl (pick_f l9 rfl)) (L_do (φ:=fun _ g w=>OB 2002 g w 63 ((⟨(w64 ((w64 (((o0).toNat:Int) * (256:Int))) + ((l5).toNat:Int))),((t5).toNat:Int),((i6).toNat:Int),((l8).toNat:Int),((n8).toNat:Int)⟩:BookCloth):BookCloth) p1) rfl rfl .plain (fun g w hd=>D_storeR0 (g:=g) Tryz.sizeOf63 rfl hd.1.2 rfl (bD.stp hd.1.1)) (fun lH hv=>?_));clear hv;refine L_p (.bool false) rfl rfl (P_assign rfl) (L_nil fun gG mH hall=>?_);have hs:=hall.1.1;have hfr:=hfr.stp hs;have b222:=(word_all (A:=fun g w=>OB 2002 g w 63 ((⟨(w64 ((w64 (((o0).toNat:Int) * (256:Int))) + ((l5).toNat:Int))),((t5).toNat:Int),((i6).toNat:Int),((l8).toNat:Int),((n8).toNat:Int)⟩:BookCloth):BookCloth) p1) 39 rfl hall);clear hs hall;refine Zb ?_;obtain ⟨rfl,rfl⟩:=pairs2 h;exact hQ _ _ ⟨gG,hfr,rfl,b222,rfl⟩
 ·clear hx
  obtain ⟨nH,hfr,mE,oE,rE⟩:=hR;refine E_ret ?_;obtain rfl:=sinj h;obtain ⟨ad272,cv272,hp272,vE,cr272⟩:=ob_read Tryz.isAgg63 Tryz.sizeOf63 oE;exact endm_ct rfl rfl ((show _=p1 from mE).trans hp272) vE (show _=.bool (n9) from rE) ⟨_,hfr,_,_,rfl,cr272,rfl⟩
def f39 (x0:BookCloth):Option (Bool):=
 Option.bind (α:=Bool) (
  (f56 ((x0).Day) ((0:Int)) ((65535:Int))).bind fun n9=>
  bif n9 then
   (f56 ((x0).Loom) ((0:Int)) ((15:Int))).bind fun n8=>
   bif n8 then
    (f56 ((x0).Chain) ((0:Int)) ((7:Int))).bind fun l9=>
    bif l9 then
     (f56 ((x0).Tie) ((0:Int)) ((7:Int))).bind fun y44=>
     bif y44 then
      (f56 ((x0).Picks) ((1:Int)) ((60:Int))).bind fun aB=>
      some (aB)
     else
      some (false)
    else
     some (false)
   else
    some (false)
  else
   some (false)
  ) fun l8=>
 some (l8)
theorem en39:Enters Tryz.prog 39:=enters_of Tryz.func39 (by kernel_rfl) rfl
theorem wk39 {gI:Gh} {wI:World} {x0:BookCloth} {up0:Value} (rp0:RV gI.m wI x0 up0) {r:Bool} (h:f39 x0=some r):Fn Tryz.prog 39 #[up0] gI wI (fun _ _ v=>v=.bool (r)):=by
 unfold f39 at h;refine fnE Tryz.func39 rfl rfl fun g0 hm hfr=>?_;have rp0:=RVc hm rp0;show E _ 26 none _ _ _ _ _;refine E_sr (EL_d0 rfl (D_box (g:=g0) rfl rp0 fun g1 w1 p1 hs q1=>?_));have hfr:=hfr.ext hs;refine Zg (.bool false) rfl rfl (EL_nt ?_);obtain ⟨l8,hx,h⟩:=bsome h;refine E_join (fun e w=>∃ (g:Gh) ,Fr gI wI g w∧e 2=.bool (l8)) (fun Q' hQ=>?_) (fun rE cF hR=>?_)
 ·replace h := hx
  clear hx;refine Za (EL_p (fPtr p1 0) (Zc at_63_0 rfl (PT.ptr q1)) rfl ?_);have lD:=Zm (part_BookCloth_0).1 q1;refine EL_d0 rfl (D_load (g:=g1) Tryz.isAgg3 Tryz.sizeOf3 rfl lD fun dF nD=>?_);obtain rfl:=Zj.1 nD;obtain ⟨n9,zB,h⟩:=bsome h;refine EL_d0 rfl (Zp (g:=g1) (vs:=[Iz ((x0).Day),Iz (0),Iz (65535)]) en56 (.cons rfl (.cons rfl (.cons rfl .nil))) (wk56  zB) fun lB uE eF hs hr=>?_);have hfr:=hfr.ext hs;have q1:=q1.ext hs;subst hr;refine Zn (.bool (n9)) rfl rfl ?_;rcases Zt h with ⟨o0,h⟩ | ⟨o0,h⟩
  ·refine EL_y (fPtr p1 1) (Zc at_63_1 rfl (PT.ptr q1)) rfl rfl o0 rfl ?_
   have oD:=Zm (part_BookCloth_1).1 q1;refine Ze (.yes2 rfl rfl o0) rfl (D_load (g:=lB) Tryz.isAgg3 Tryz.sizeOf3 rfl oD fun rF yD=>?_);obtain rfl:=Zj.1 yD;obtain ⟨n8,cC,h⟩:=bsome h;refine Ze (.yes2 rfl rfl o0) rfl (Zp (g:=lB) (vs:=[Iz ((x0).Loom),Iz (0),Iz (15)]) en56 (.cons rfl (.cons rfl (.cons rfl .nil))) (wk56  cC) fun mB vE sF hs hr=>?_);have hfr:=hfr.ext hs;have q1:=q1.ext hs;subst hr;refine EL_p (.bool (n8)) (Zl (b:=n9) rfl (pick_t o0 rfl)) rfl (Zn (.bool (n8)) rfl rfl ?_);rcases Zt h with ⟨l5,h⟩ | ⟨l5,h⟩
   ·refine EL_y (fPtr p1 2) (Zc at_63_2 rfl (PT.ptr q1)) rfl rfl l5 rfl ?_
    have zD:=Zm (part_BookCloth_2).1 q1;refine Ze (.yes2 rfl rfl l5) rfl (D_load (g:=mB) Tryz.isAgg3 Tryz.sizeOf3 rfl zD fun tF aE=>?_);obtain rfl:=Zj.1 aE;obtain ⟨l9,uC,h⟩:=bsome h;refine Ze (.yes2 rfl rfl l5) rfl (Zp (g:=mB) (vs:=[Iz ((x0).Chain),Iz (0),Iz (7)]) en56 (.cons rfl (.cons rfl (.cons rfl .nil))) (wk56  uC) fun nB xE uF hs hr=>?_);have hfr:=hfr.ext hs;have q1:=q1.ext hs;subst hr;refine EL_p (.bool (l9)) (Zl (b:=n8) rfl (pick_t l5 rfl)) rfl (Zn (.bool (l9)) rfl rfl ?_);rcases Zt h with ⟨t5,h⟩ | ⟨t5,h⟩
    ·refine EL_y (fPtr p1 3) (Zc at_63_3 rfl (PT.ptr q1)) rfl rfl t5 rfl ?_
     have bE:=Zm (part_BookCloth_3).1 q1;refine Ze (.yes2 rfl rfl t5) rfl (D_load (g:=nB) Tryz.isAgg3 Tryz.sizeOf3 rfl bE fun vF iE=>?_);obtain rfl:=Zj.1 iE;obtain ⟨y44,bD,h⟩:=bsome h;refine Ze (.yes2 rfl rfl t5) rfl (Zp (g:=nB) (vs:=[Iz ((x0).Tie),Iz (0),Iz (7)]) en56 (.cons rfl (.cons rfl (.cons rfl .nil))) (wk56  bD) fun oB yE xF hs hr=>?_);have hfr:=hfr.ext hs;have q1:=q1.ext hs;subst hr;refine EL_p (.bool (y44)) (Zl (b:=l9) rfl (pick_t t5 rfl)) rfl (Zn (.bool (y44)) rfl rfl ?_);rcases Zt h with ⟨i6,h⟩ | ⟨i6,h⟩
     ·refine EL_y (fPtr p1 4) (Zc at_63_4 rfl (PT.ptr q1)) rfl rfl i6 rfl ?_
      have lE:=Zm (part_BookCloth_4).1 q1;refine Ze (.yes2 rfl rfl i6) rfl (D_load (g:=oB) Tryz.isAgg3 Tryz.sizeOf3 rfl lE fun yF mE=>?_);obtain rfl:=Zj.1 mE;obtain ⟨aB,cD,h⟩:=bsome h;refine Ze (.yes2 rfl rfl i6) rfl (Zp (g:=oB) (vs:=[Iz ((x0).Picks),Iz (1),Iz (60)]) en56 (.cons rfl (.cons rfl (.cons rfl .nil))) (wk56  cD) fun oE zE aG hs hr=>?_);have hfr:=hfr.ext hs;subst hr;refine EL_p (.bool (aB)) (Zl (b:=y44) rfl (pick_t i6 rfl)) rfl (Zg (.bool (aB)) rfl rfl (Zb ?_));obtain rfl:=sinj h;exact hQ _ _ ⟨oE,hfr,rfl⟩
     ·refine EL_s rfl rfl i6 rfl rfl (EL_s rfl rfl i6 rfl rfl (EL_s rfl rfl i6 rfl rfl (EL_p (.bool false) (Zl (b := y44) rfl (pick_f i6 rfl)) rfl (Zg (.bool false) rfl rfl (Zb ?_)))))
      obtain rfl:=sinj h;exact hQ _ _ ⟨oB,hfr,rfl⟩
    ·refine EL_s rfl rfl t5 rfl rfl (EL_s rfl rfl t5 rfl rfl (EL_s rfl rfl t5 rfl rfl (EL_p (.bool false) (Zl (b := l9) rfl (pick_f t5 rfl)) rfl (EL_dead 5 rfl (Zg (.bool false) rfl rfl (Zb ?_))))))
     obtain rfl:=sinj h;exact hQ _ _ ⟨nB,hfr,rfl⟩
   ·refine EL_s rfl rfl l5 rfl rfl (EL_s rfl rfl l5 rfl rfl (EL_s rfl rfl l5 rfl rfl (EL_p (.bool false) (Zl (b := n8) rfl (pick_f l5 rfl)) rfl (EL_dead 10 rfl (Zg (.bool false) rfl rfl (Zb ?_))))))
    obtain rfl:=sinj h;exact hQ _ _ ⟨mB,hfr,rfl⟩
  ·refine EL_s rfl rfl o0 rfl rfl (EL_s rfl rfl o0 rfl rfl (EL_s rfl rfl o0 rfl rfl (EL_p (.bool false) (Zl (b := n9) rfl (pick_f o0 rfl)) rfl (EL_dead 15 rfl (Zg (.bool false) rfl rfl (Zb ?_))))))
   obtain rfl:=sinj h;exact hQ _ _ ⟨lB,hfr,rfl⟩
 ·clear hx
  obtain ⟨bG,hfr,yB⟩:=hR;refine E_ret ?_;obtain rfl:=sinj h;exact end1 rfl rfl (show _=.bool (l8) from yB) ⟨_,hfr,rfl⟩
def f40 (x0:List UInt8):Option ((List BookCloth)):=
 Option.bind (α:=(List BookCloth)) (
  lp (σ:=(List BookCloth) × Int) (fun lG (oB,l5)=>
   jn (σ:=Unit) (fun _=>
    Option.bind (α:=(List BookCloth)) (
     lp (σ:=(List BookCloth) × Int) (fun mG (n9,l8)=>
      jn (σ:=Unit) (fun _=>
       Option.bind (α:=(List BookCloth)) (
        (apnd 1 ([]:List UInt8) x0).bind fun cG=>
        (idx cG l5).bind fun sJ=>
        (f38 ((List.set cG (Int.toNat l5) ((u8w l8))))).bind fun l9=>
        Option.bind (α:=Bool) (
         bif l9.2 then
          (f39 (l9.1)).bind fun yD=>
          bif yD then
           (idx x0 l5).bind fun mE=>
           some (((u8w l8) != mE))
          else
           some (false)
         else
          some (false)
         ) fun lB=>
        bif lB then
         (apnd 40 n9 (([l9.1]:List BookCloth))).bind fun sG=>
         some (sG)
        else
         some (n9)
        ) fun yB=>
       mG (yB,(w64 (l8 + (1:Int))))
       ) fun xG=>
      bif (decide (l8 < (256 : Int))) then
       xG ()
      else
       some (n9)
      ) big (oB,(0:Int))
     ) fun zB=>
    lG (zB,(w64 (l5 + (1:Int))))
    ) fun yG=>
   bif (decide (l5 < (8 : Int))) then
    yG ()
   else
    some (oB)
   ) big (([]:List BookCloth),(0:Int))
  ) fun lD=>
 some (lD)
theorem en40:Enters Tryz.prog 40:=enters_of Tryz.func40 (by kernel_rfl) rfl
theorem wk40 {gI:Gh} {wI:World} {x0:List UInt8} {up0:Value} (rp0:RV gI.m wI x0 up0) {r:(List BookCloth)} (h:f40 x0=some r):Fn Tryz.prog 40 #[up0] gI wI (fun m w v=>RV m w (r) v):=by
 unfold f40 at h;refine fnE Tryz.func40 rfl rfl fun g0 hm hfr=>?_;have rp0:=RVc hm rp0;show E _ 50 none _ _ _ _ _;refine E_sr (Zg (.slice none 0 0) rfl rfl (EL_nt (E_sr (EL_d0 rfl (D_buildSlice (g:=g0) 3009 (xs:=([]:List BookCloth)) (vs:=[]) Tryz.underlying49 Tryz.sizeOf63 Tryz.zeroValue63 rfl rfl .nil RVs.nil rfl rfl fun g1 w1 v1 hs o1 r1 hxt hfl=>?_)))));have hfr:=hfr.stp hs;have rp0:=rp0.stp hs;refine Zg v1 rfl rfl (EL_nt ?_);obtain ⟨lD,hx,h⟩:=bsome h;refine E_join (fun e w=>∃ (g:Gh) (v3:Value),Fr gI wI g w∧e 3=v3∧RV g.m w (lD:List BookCloth) v3∧OS 3009 g w 63 (lD:List BookCloth) v3) (fun Q' hQ=>?_) (fun aL oL hR=>?_)
 ·replace h := hx
  clear hx;refine E_sr (Zg (Iz (0)) rfl rfl (EL_nt (Zr (E_lp h (fun (s:(List BookCloth) × Int) e w=>∃ (g:Gh) (v3:Value),Fr gI wI g w∧e 0=up0∧RV g.m w (x0:List UInt8) up0∧e 3=v3∧RV g.m w (s.1:List BookCloth) v3∧OS 3009 g w 63 (s.1:List BookCloth) v3∧e 4=Iz (s.2)) ⟨g1,(v1),hfr,rfl,rp0,rfl,r1,o1,rfl⟩ (fun X152 lG kJ=>?_)))));rintro ⟨oB,l5⟩ bL xL ⟨zG,cC,hfr,aH,cH,vE,xE,yE,zE⟩ h;refine Zq h (fun (s:Unit) e w=>∃ (g:Gh) ,Fr gI wI g w∧e 0=up0∧RV g.m w (x0:List UInt8) up0∧e 3=cC∧RV g.m w (oB:List BookCloth) cC∧OS 3009 g w 63 (oB:List BookCloth) cC∧e 4=Iz (l5)) (fun X155 yG lJ h=>?_) ?_
  ·refine E_sr (Zo zE rfl (EL_in (.bool ((decide (l5 < (8 : Int))))) rfl rfl rfl rfl (EL_nt ?_)))
   rcases Zt h with ⟨oE,h⟩ | ⟨oE,h⟩
   ·refine E_ct oE rfl ?_
    exact Zu (Zd (lJ () _ _ ⟨zG,hfr,aH,cH,vE,xE,yE,zE⟩ h))
   ·refine E_cf oE rfl (E_exit (thn_e (thn_e (blk_hit ?_))))
    obtain rfl:=sinj h;exact hQ _ _ ⟨zG,(cC),hfr,vE,xE,yE⟩
  ·rintro _ dL yL ⟨vJ, hfr, gH, jH, kH, lH, mH, nH⟩ h
   obtain ⟨zB,hx,h⟩:=bsome h;refine E_join (fun e w=>∃ (g:Gh) (v3:Value),Fr gI wI g w∧e 0=up0∧RV g.m w (x0:List UInt8) up0∧e 3=v3∧RV g.m w (zB:List BookCloth) v3∧OS 3009 g w 63 (zB:List BookCloth) v3∧e 4=Iz (l5)) (fun Q' hQ=>?_) (fun eL zL hR=>?_)
   ·replace h := hx
    clear hx;refine Zr (E_sr (Zg (Iz (0)) rfl rfl (EL_nt (Zr (E_lp h (fun (s:(List BookCloth) × Int) e w=>∃ (g:Gh) (v3:Value),Fr gI wI g w∧e 0=up0∧RV g.m w (x0:List UInt8) up0∧e 3=v3∧RV g.m w (s.1:List BookCloth) v3∧OS 3009 g w 63 (s.1:List BookCloth) v3∧e 4=Iz (l5)∧e 5=Iz (s.2)) ⟨vJ,(cC),hfr,gH,jH,kH,lH,mH,nH,rfl⟩ (fun X229 mG mJ=>?_))))));rintro ⟨n9,l8⟩ gL aM ⟨oH,aB,hfr,cF,dF,eF,rF,sF,tF,uF⟩ h;refine Zq h (fun (s:Unit) e w=>∃ (g:Gh) ,Fr gI wI g w∧e 0=up0∧RV g.m w (x0:List UInt8) up0∧e 3=aB∧RV g.m w (n9:List BookCloth) aB∧OS 3009 g w 63 (n9:List BookCloth) aB∧e 4=Iz (l5)∧e 5=Iz (l8)) (fun X232 xG nJ h=>?_) ?_
    ·refine E_sr (Zo uF rfl (EL_in (.bool ((decide (l8 < (256 : Int))))) rfl rfl rfl rfl (EL_nt ?_)))
     rcases Zt h with ⟨rE,h⟩ | ⟨rE,h⟩
     ·refine E_ct rE rfl ?_
      exact Zu (Zd (nJ () _ _ ⟨oH,hfr,cF,dF,eF,rF,sF,tF,uF⟩ h))
     ·refine E_cf rE rfl (E_exit (thn_e (thn_e (blk_hit (blk_n ?_)))))
      obtain rfl:=sinj h;exact hQ _ _ ⟨oH,(aB),hfr,cF,dF,eF,rF,sF,tF⟩
    ·rintro _ iL cM ⟨xJ, hfr, uC, o0, zD, t5, i6, bD, cD⟩ h
     obtain ⟨yB,hx,h⟩:=bsome h;refine E_join (fun e w=>∃ (g:Gh) (v3:Value),Fr gI wI g w∧e 0=up0∧RV g.m w (x0:List UInt8) up0∧e 3=v3∧RV g.m w (yB:List BookCloth) v3∧OS 3009 g w 63 (yB:List BookCloth) v3∧e 4=Iz (l5)∧e 5=Iz (l8)) (fun Q' hQ=>?_) (fun jL dM hR=>?_)
     ·replace h := hx
      clear hx;refine Zr (E_sr (EL_d0 rfl (D_buildSlice (g:=xJ) 3018 (xs:=([]:List UInt8)) (vs:=[]) Tryz.underlying50 Tryz.sizeOf5 Tryz.zeroValue5 rfl rfl .nil RVs.nil rfl rfl fun zJ eM iM hs o267 jM hxt hfl=>?_)));have hfr:=hfr.stp hs;have o0:=o0.stp hs;have t5:=t5.stp hs;have i6:=i6.stp hs rfl;refine Zo uC rfl ?_;obtain ⟨cG,oJ,h⟩:=bsome h;have oa268:=OA.ofOS o267;refine EL_d0 rfl (D_appendA (g:=zJ) plain_u8 (i:=3018) Tryz.underlying50 info_5 rfl rfl oa268 rfl o0 oJ fun aK kM aE hs b268=>?_);have hfr:=hfr.stp hs;have o0:=o0.stp hs;have t5:=t5.stp hs;have i6:=i6.stp hs rfl;refine Zg aE rfl rfl (EL_nt (E_sr (Zn aE rfl rfl (Zo bD rfl (Zo cD rfl (EL_p (.int .u8 (UInt8.toNat ((u8w l8)))) (P_intu8 Tryz.underlying3 Tryz.underlying5 rfl) rfl ?_))))));obtain ⟨sJ,jG,h⟩:=bsome h;refine EL_p (ePtr aE l5 1) (P_indexAddrM (α:=UInt8) Tryz.underlying50 Tryz.sizeOf5 rfl (b268.toM) rfl jG) rfl (EL_d0 rfl (D_storeA (g:=aK) (α:=UInt8) (a':=((u8w l8))) Tryz.sizeOf5 rfl b268 jG rfl (RV_u8.2 rfl) fun pM qM hs b271=>?_));have hfr:=hfr.stp hs;have o0:=o0.stp hs;have t5:=t5.stp hs;have i6:=i6.stp hs rfl;refine EL_nt (E_sr (Zn aE rfl rfl ?_));obtain ⟨gp272,hs,rp272⟩:=OM.pub (b271.toM);have hfr:=hfr.stp hs;have o0:=o0.stp hs;have t5:=t5.stp hs;have i6:=i6.stp hs rfl;obtain ⟨l9,pJ,h⟩:=bsome h;refine EL_d0 rfl (Zp (g:=gp272) (vs:=[aE]) en38 (.cons rfl .nil) (wk38 rp272 pJ) fun bK lL rM hs hr=>?_);have hfr:=hfr.ext hs;have o0:=o0.ext hs;have t5:=t5.ext hs;have i6:=i6.ext hs;obtain ⟨bE,yK,rfl,iE,rfl⟩:=hr;refine Zn (.tuple #[bE,.bool (l9.2)]) rfl rfl (EL_p bE (Zi rfl rfl) rfl (EL_p (.bool (l9.2)) (Zi rfl rfl) rfl (EL_d0 rfl (D_allocOc (g:=bK) 2007 (⟨0,0,0,0,0⟩:BookCloth) Tryz.zeroValue63 (fun m w=>⟨_,(rep_two rep_int (rep_two rep_int (rep_two rep_int (rep_two rep_int rep_int)))),rfl⟩) fun cK sM pH hs b275 cb=>?_))));have hfr:=hfr.stp hs;have o0:=o0.stp hs;have t5:=t5.stp hs;have i6:=i6.stp hs rfl;have iE:=iE.stp hs;clear cb;refine EL_d0 rfl (D_storeOc (g:=cK) (v:=bE) Tryz.sizeOf63 rfl b275 rfl iE fun eG tM hs b276 cb=>?_);clear cb;have hfr:=hfr.stp hs;have o0:=o0.stp hs;have t5:=t5.stp hs;have i6:=i6.stp hs rfl;refine Zg (.bool (l9.2)) rfl rfl (EL_nt ?_);obtain ⟨lB,hx,h⟩:=bsome h;refine E_join (fun e w=>∃ (g:Gh) ,Fr gI wI g w∧e 0=up0∧RV g.m w (x0:List UInt8) up0∧e 3=aB∧RV g.m w (n9:List BookCloth) aB∧OS 3009 g w 63 (n9:List BookCloth) aB∧e 4=Iz (l5)∧e 5=Iz (l8)∧e 7=pH∧OB 2007 g w 63 (l9.1:BookCloth) pH∧e 44=.bool (lB)) (fun Q' hQ=>?_) (fun mL uM hR=>?_)
      ·replace h := hx
       clear hx;refine Za (Zn (.bool (l9.2)) rfl rfl (Zn (.bool (l9.2)) rfl rfl ?_));rcases Zt h with ⟨nB,h⟩ | ⟨nB,h⟩
       ·refine Ze (.yes2 rfl rfl nB) rfl (D_loadO (g := eG) Tryz.isAgg63 Tryz.sizeOf63 rfl b276 fun dK lK => ?_)
        obtain ⟨yD,qJ,h⟩:=bsome h;refine Ze (.yes2 rfl rfl nB) rfl (Zp (g:=eG) (vs:=[dK]) en39 (.cons rfl .nil) (wk39 lK qJ) fun gG nL vM hs hr=>?_);have hfr:=hfr.ext hs;have o0:=o0.ext hs;have t5:=t5.ext hs;have i6:=i6.ext hs;have b276:=b276.ext hs;subst hr;refine EL_p (.bool (yD)) (Zl (b:=l9.2) rfl (pick_t nB rfl)) rfl (Zn (.bool (yD)) rfl rfl ?_);rcases Zt h with ⟨n8,h⟩ | ⟨n8,h⟩
        ·refine EL_y (Iz (l8)) (Zk cD) rfl rfl n8 rfl (EL_y (.int .u8 (UInt8.toNat ((u8w l8)))) (P_intu8 Tryz.underlying3 Tryz.underlying5 rfl) rfl rfl n8 rfl (EL_y up0 (Zk uC) rfl rfl n8 rfl (EL_y (Iz (l5)) (Zk bD) rfl rfl n8 rfl ?_)))
         obtain ⟨mE,kG,h⟩:=bsome h;refine EL_y (ePtr up0 l5 1) (Zh (α:=UInt8) Tryz.underlying50 Tryz.sizeOf5 rfl o0 rfl kG) rfl rfl n8 rfl ?_;have mK:=PT_idx o0 kG;refine Ze (.yes2 rfl rfl n8) rfl (D_load (g:=gG) Tryz.isAgg5 Tryz.sizeOf5 rfl mK fun xM nK=>?_);obtain rfl:=RV_u8.1 nK;refine EL_y (.bool (((u8w l8) != mE))) (P_u8 rfl rfl rfl) rfl rfl n8 rfl (EL_p (.bool (((u8w l8) != mE))) (Zl (b:=yD) rfl (pick_t n8 rfl)) rfl (Zb ?_));obtain rfl:=sinj h;exact hQ _ _ ⟨gG,hfr,uC,o0,zD,t5,i6,bD,cD,rfl,b276,rfl⟩
        ·refine EL_s rfl rfl n8 rfl rfl ?_
         iterate 6 refine EL_s rfl rfl n8 rfl rfl ?_
         refine EL_p (.bool false) (Zl (b:=yD) rfl (pick_f n8 rfl)) rfl (Zb ?_);obtain rfl:=sinj h;exact hQ _ _ ⟨gG,hfr,uC,o0,zD,t5,i6,bD,cD,rfl,b276,rfl⟩
       ·refine EL_s rfl rfl nB rfl rfl (EL_s rfl rfl nB rfl rfl (EL_p (.bool false) (Zl (b := l9.2) rfl (pick_f nB rfl)) rfl (EL_dead 9 rfl (Zb ?_))))
        obtain rfl:=sinj h;exact hQ _ _ ⟨eG,hfr,uC,o0,zD,t5,i6,bD,cD,rfl,b276,rfl⟩
      ·clear hx
       obtain ⟨iG,hfr,vF,mB,xF,nD,oD,yF,aG,qH,sH,lE⟩:=hR;rcases Zt h with ⟨uE,h⟩ | ⟨uE,h⟩
       ·refine E_cond_true (Eq.trans (show ev _ _ = .bool (lB) from lE) (congrArg Value.bool uE)) (Za (Zo xF rfl (EL_d0 rfl (D_loadO (g := iG) Tryz.isAgg63 Tryz.sizeOf63 qH sH fun oK pK => (EL_d0 rfl (D_buildSlice (g := iG) 3047 (xs := ([l9.1] : List BookCloth)) (vs := [oK]) Tryz.underlying49 Tryz.sizeOf63 Tryz.zeroValue63 rfl rfl (.cons rfl .nil) (RVs.cons pK RVs.nil) rfl rfl fun qK bN cN hs o296 sK hxt hfl => ?_))))))
        have hfr:=hfr.stp hs;have mB:=mB.stp hs;have nD:=nD.stp hs;have oD:=oD.stp hs rfl;obtain ⟨sG,rJ,h⟩:=bsome h;refine EL_d0 rfl (D_append (g:=qK) (i:=3009) Tryz.underlying49 info_63 rfl rfl oD nD rfl sK rJ fun tK dN tH hs o297 uK _=>?_);have hfr:=hfr.stp hs;have mB:=mB.stp hs;refine Zg tH rfl rfl (Zb (blk_n ?_));obtain rfl:=sinj h;exact hQ _ _ ⟨tK,(tH),hfr,vF,mB,rfl,uK,o297,yF,aG⟩
       ·refine E_cond_false (Eq.trans (show ev _ _ = .bool (lB) from lE) (congrArg Value.bool uE)) (Zu (blk_n ?_))
        obtain rfl:=sinj h;exact hQ _ _ ⟨iG,(aB),hfr,vF,mB,xF,nD,oD,yF,aG⟩
     ·clear hx
      obtain ⟨vK,uH,hfr,xH,yH,zH,aI,bI,dI,iI⟩:=hR;refine Za (Zo iI rfl (EL_in (Iz ((w64 (l8 + (1:Int))))) rfl rfl rfl rfl (Zg (Iz ((w64 (l8 + (1:Int))))) rfl rfl ?_)));exact EL_nt (mJ (yB,(w64 (l8 + (1:Int)))) _ _ ⟨vK,(uH),hfr,xH,yH,zH,aI,bI,dI,rfl⟩ h)
   ·clear hx
    obtain ⟨xK,jI,hfr,kI,lI,mI,nI,pI,qI⟩:=hR;refine Za (Zo qI rfl (EL_in (Iz ((w64 (l5 + (1:Int))))) rfl rfl rfl rfl (Zg (Iz ((w64 (l5 + (1:Int))))) rfl rfl ?_)));exact EL_nt (kJ (zB,(w64 (l5 + (1:Int)))) _ _ ⟨xK,(jI),hfr,kI,lI,mI,nI,pI,rfl⟩ h)
 ·clear hx
  obtain ⟨eN,bG,hfr,sI,jJ,zK⟩:=hR;refine E_sr (Zo sI rfl (Zg bG rfl rfl (EL_nt (E_ret ?_))));obtain rfl:=sinj h;exact end1 rfl rfl (rq bG) ⟨_,hfr,jJ⟩
def f72 (x0:ChainBelt) (x1:ChainBelt):Option (Bool):=
 Option.bind (α:=Bool) (
  bif ((x0).Hooks == (x1).Hooks) then
   (f117 ((x0).Cards) ((x1).Cards)).bind fun t5=>
   some (t5)
  else
   some (false)
  ) fun l5=>
 some (l5)
theorem en72:Enters Tryz.prog 72:=enters_of Tryz.func72 (by kernel_rfl) rfl
theorem wk72 {gI:Gh} {wI:World} {x0:ChainBelt} {x1:ChainBelt} {up0:Value} (rp0:RV gI.m wI x0 up0) {up1:Value} (rp1:RV gI.m wI x1 up1) {r:Bool} (h:f72 x0 x1=some r):Fn Tryz.prog 72 #[up0,up1] gI wI (fun _ _ v=>v=.bool (r)):=by
 unfold f72 at h;refine fnE Tryz.func72 rfl rfl fun g0 hm hfr=>?_;have rp0:=RVc hm rp0;have rp1:=RVc hm rp1;show E _ 17 none _ _ _ _ _;refine E_sr (EL_d0 rfl (D_box (g:=g0) rfl rp0 fun g1 w1 p1 hs q1=>?_));have hfr:=hfr.ext hs;have rp1:=rp1.ext hs;refine EL_d0 rfl (D_box (g:=g1) rfl rp1 fun g2 w2 p2 hs q2=>?_);have hfr:=hfr.ext hs;have q1:=q1.ext hs;refine Zg (.bool false) rfl rfl (EL_nt ?_);obtain ⟨l5,hx,h⟩:=bsome h;refine E_join (fun e w=>∃ (g:Gh) ,Fr gI wI g w∧e 4=.bool (l5)) (fun Q' hQ=>?_) (fun uC cD hR=>?_)
 ·replace h := hx
  clear hx;refine Za (EL_p (fPtr p1 0) (Zc at_92_0 rfl (PT.ptr q1)) rfl ?_);have n8:=Zm (part_ChainBelt_0).1 q1;refine EL_d0 rfl (D_load (g:=g2) Tryz.isAgg3 Tryz.sizeOf3 rfl n8 fun lD l9=>?_);obtain rfl:=Zj.1 l9;refine EL_p (fPtr p2 0) (Zc at_92_0 rfl (PT.ptr q2)) rfl ?_;have n9:=Zm (part_ChainBelt_0).1 q2;refine EL_d0 rfl (D_load (g:=g2) Tryz.isAgg3 Tryz.sizeOf3 rfl n9 fun nD aB=>?_);obtain rfl:=Zj.1 aB;refine EL_in (.bool (((x0).Hooks == (x1).Hooks))) rfl rfl rfl rfl (Zn (.bool (((x0).Hooks == (x1).Hooks))) rfl rfl ?_);rcases Zt h with ⟨o0,h⟩ | ⟨o0,h⟩
  ·refine EL_y (fPtr p1 1) (Zc at_92_1 rfl (PT.ptr q1)) rfl rfl o0 rfl ?_
   have lB:=Zm (part_ChainBelt_1).1 q1;refine Ze (.yes2 rfl rfl o0) rfl (D_load (g:=g2) Tryz.isAgg90 Tryz.sizeOf90 rfl lB fun mB nB=>(EL_y (fPtr p2 1) (Zc at_92_1 rfl (PT.ptr q2)) rfl rfl o0 rfl ?_));have oB:=Zm (part_ChainBelt_1).1 q2;refine Ze (.yes2 rfl rfl o0) rfl (D_load (g:=g2) Tryz.isAgg90 Tryz.sizeOf90 rfl oB fun yB zB=>?_);obtain ⟨t5,l8,h⟩:=bsome h;refine Ze (.yes2 rfl rfl o0) rfl (Zp (g:=g2) (vs:=[mB,yB]) en117 (.cons rfl (.cons rfl .nil)) (wk117 nB zB l8) fun cC bD oD hs hr=>?_);have hfr:=hfr.ext hs;subst hr;refine EL_p (.bool (t5)) (Zl (b:=((x0).Hooks == (x1).Hooks)) rfl (pick_t o0 rfl)) rfl (Zg (.bool (t5)) rfl rfl (Zb ?_));obtain rfl:=sinj h;exact hQ _ _ ⟨cC,hfr,rfl⟩
  ·refine EL_s rfl rfl o0 rfl rfl ?_
   iterate 4 refine EL_s rfl rfl o0 rfl rfl ?_
   refine EL_p (.bool false) (Zl (b:=((x0).Hooks == (x1).Hooks)) rfl (pick_f o0 rfl)) rfl (Zg (.bool false) rfl rfl (Zb ?_));obtain rfl:=sinj h;exact hQ _ _ ⟨g2,hfr,rfl⟩
 ·clear hx
  obtain ⟨yD,hfr,i6⟩:=hR;refine E_ret ?_;obtain rfl:=sinj h;exact end1 rfl rfl (show _=.bool (l5) from i6) ⟨_,hfr,rfl⟩
def f90 (x0:BookCloth):Option ((Vector UInt8 8)):=
 (shr64 (x0).Day ((8:Int))).bind fun y5=>
 (f131 ((⟨List.toArray [(u8w y5),(u8w ((x0).Day)),(u8w ((x0).Loom)),(u8w ((x0).Chain)),(u8w ((x0).Tie)),(u8w ((x0).Picks)),0,0],rfl⟩:Vector UInt8 8))).bind fun o0=>
 some ((Vector.set ((Vector.set ((⟨List.toArray [(u8w y5),(u8w ((x0).Day)),(u8w ((x0).Loom)),(u8w ((x0).Chain)),(u8w ((x0).Tie)),(u8w ((x0).Picks)),0,0],rfl⟩:Vector UInt8 8)) 6 (o0.1) (by decide))) 7 (o0.2) (by decide)))
theorem en90:Enters Tryz.prog 90:=enters_of Tryz.func90 (by kernel_rfl) rfl
theorem wk90 {gI:Gh} {wI:World} {x0:BookCloth} {up0:Value} (rp0:RV gI.m wI x0 up0) {r:(Vector UInt8 8)} (h:f90 x0=some r):Fn Tryz.prog 90 #[up0] gI wI (fun m w v=>RV m w (r) v):=by
 unfold f90 at h;refine fnE Tryz.func90 rfl rfl fun g0 hm hfr=>?_;have rp0:=RVc hm rp0;show E _ 31 none _ _ _ _ _;refine E_sr (EL_d0 rfl (D_box (g:=g0) rfl rp0 fun g1 w1 p1 hs q1=>?_));have hfr:=hfr.ext hs;refine EL_d0 rfl (D_allocOc (g:=g1) 2002 ((⟨List.toArray [0,0,0,0,0,0,0,0],rfl⟩:Vector UInt8 8):Vector UInt8 8) Tryz.zeroValue155 (fun m w=>⟨_,(rep_vec (flat_chunk rep_u8 (flat_chunk rep_u8 (flat_chunk rep_u8 (flat_chunk rep_u8 (flat_chunk rep_u8 (flat_chunk rep_u8 (flat_chunk rep_u8 (flat_chunk rep_u8 flat_nil)))))))) rfl),rfl⟩) fun g2 w2 p2 hs b2 cb=>?_);have hfr:=hfr.stp hs;have q1:=q1.stp hs;clear cb;refine EL_nt (E_sr (EL_p (fPtr p1 0) (Zc at_63_0 rfl (PT.ptr q1)) rfl ?_));have q3:=Zm (part_BookCloth_0).1 q1;refine EL_d0 rfl (D_load (g:=g2) Tryz.isAgg3 Tryz.sizeOf3 rfl q3 fun v4 r4=>?_);obtain rfl:=Zj.1 r4;obtain ⟨y5,hy5,h⟩:=bsome h;refine EL_p (Iz (y5)) (P_shru rfl rfl hy5) rfl (EL_p (.int .u8 (UInt8.toNat ((u8w y5)))) (P_intu8 Tryz.underlying3 Tryz.underlying5 rfl) rfl (EL_p (fPtr p1 0) (Zc at_63_0 rfl (PT.ptr q1)) rfl ?_));have q6:=Zm (part_BookCloth_0).1 q1;refine EL_d0 rfl (D_load (g:=g2) Tryz.isAgg3 Tryz.sizeOf3 rfl q6 fun v7 r7=>?_);obtain rfl:=Zj.1 r7;refine EL_p (.int .u8 (UInt8.toNat ((u8w ((x0).Day))))) (P_intu8 Tryz.underlying3 Tryz.underlying5 rfl) rfl (EL_p (fPtr p1 1) (Zc at_63_1 rfl (PT.ptr q1)) rfl ?_);have q8:=Zm (part_BookCloth_1).1 q1;refine EL_d0 rfl (D_load (g:=g2) Tryz.isAgg3 Tryz.sizeOf3 rfl q8 fun v9 r9=>?_);obtain rfl:=Zj.1 r9;refine EL_p (.int .u8 (UInt8.toNat ((u8w ((x0).Loom))))) (P_intu8 Tryz.underlying3 Tryz.underlying5 rfl) rfl (EL_p (fPtr p1 2) (Zc at_63_2 rfl (PT.ptr q1)) rfl ?_);have n9:=Zm (part_BookCloth_2).1 q1;refine EL_d0 rfl (D_load (g:=g2) Tryz.isAgg3 Tryz.sizeOf3 rfl n9 fun yD aB=>?_);obtain rfl:=Zj.1 aB;refine EL_p (.int .u8 (UInt8.toNat ((u8w ((x0).Chain))))) (P_intu8 Tryz.underlying3 Tryz.underlying5 rfl) rfl (EL_p (fPtr p1 3) (Zc at_63_3 rfl (PT.ptr q1)) rfl ?_);have lB:=Zm (part_BookCloth_3).1 q1;refine EL_d0 rfl (D_load (g:=g2) Tryz.isAgg3 Tryz.sizeOf3 rfl lB fun zD mB=>?_);obtain rfl:=Zj.1 mB;refine EL_p (.int .u8 (UInt8.toNat ((u8w ((x0).Tie))))) (P_intu8 Tryz.underlying3 Tryz.underlying5 rfl) rfl (EL_p (fPtr p1 4) (Zc at_63_4 rfl (PT.ptr q1)) rfl ?_);have nB:=Zm (part_BookCloth_4).1 q1;refine EL_d0 rfl (D_load (g:=g2) Tryz.isAgg3 Tryz.sizeOf3 rfl nB fun aE oB=>?_);obtain rfl:=Zj.1 oB;refine EL_p (.int .u8 (UInt8.toNat ((u8w ((x0).Picks))))) (P_intu8 Tryz.underlying3 Tryz.underlying5 rfl) rfl ?_;have l5:RV g2.m w2 (⟨List.toArray [(u8w y5),(u8w ((x0).Day)),(u8w ((x0).Loom)),(u8w ((x0).Chain)),(u8w ((x0).Tie)),(u8w ((x0).Picks)),0,0],rfl⟩:Vector UInt8 8) (.agg (setCh [[.int .u8 0],[.int .u8 0],[.int .u8 0],[.int .u8 0],[.int .u8 0],[.int .u8 0],[.int .u8 0],[.int .u8 0]] [(0,.int .u8 (UInt8.toNat ((u8w y5)))),(1,.int .u8 (UInt8.toNat ((u8w ((x0).Day))))),(2,.int .u8 (UInt8.toNat ((u8w ((x0).Loom))))),(3,.int .u8 (UInt8.toNat ((u8w ((x0).Chain))))),(4,.int .u8 (UInt8.toNat ((u8w ((x0).Tie))))),(5,.int .u8 (UInt8.toNat ((u8w ((x0).Picks)))))]).flatten.toArray):=RV_build rfl (rep_vec (flat_chunk rfl (flat_chunk rfl (flat_chunk rfl (flat_chunk rfl (flat_chunk rfl (flat_chunk rfl (flat_chunk rep_u8 (flat_chunk rep_u8 flat_nil)))))))) rfl);generalize n8:(Value.agg (setCh [[.int .u8 0],[.int .u8 0],[.int .u8 0],[.int .u8 0],[.int .u8 0],[.int .u8 0],[.int .u8 0],[.int .u8 0]] [(0,.int .u8 (UInt8.toNat ((u8w y5)))),(1,.int .u8 (UInt8.toNat ((u8w ((x0).Day))))),(2,.int .u8 (UInt8.toNat ((u8w ((x0).Loom))))),(3,.int .u8 (UInt8.toNat ((u8w ((x0).Chain))))),(4,.int .u8 (UInt8.toNat ((u8w ((x0).Tie))))),(5,.int .u8 (UInt8.toNat ((u8w ((x0).Picks)))))]).flatten.toArray)=t5 at l5;refine EL_p t5 (n8 ▸ P_buildA (vs:=[(0,.int .u8 (UInt8.toNat ((u8w y5)))),(1,.int .u8 (UInt8.toNat ((u8w ((x0).Day))))),(2,.int .u8 (UInt8.toNat ((u8w ((x0).Loom))))),(3,.int .u8 (UInt8.toNat ((u8w ((x0).Chain))))),(4,.int .u8 (UInt8.toNat ((u8w ((x0).Tie))))),(5,.int .u8 (UInt8.toNat ((u8w ((x0).Picks)))))]) [[.int .u8 0],[.int .u8 0],[.int .u8 0],[.int .u8 0],[.int .u8 0],[.int .u8 0],[.int .u8 0],[.int .u8 0]] Tryz.underlying155 layA_155 szA_5 rfl (by simp) (.cons rfl (.cons rfl (.cons rfl (.cons rfl (.cons rfl (.cons rfl .nil)))))) ⟨⟨_,rfl,rfl⟩,⟨⟨_,rfl,rfl⟩,⟨⟨_,rfl,rfl⟩,⟨⟨_,rfl,rfl⟩,⟨⟨_,rfl,rfl⟩,⟨⟨_,rfl,rfl⟩,trivial⟩⟩⟩⟩⟩⟩) rfl (EL_d0 rfl (D_storeOc (g:=g2) (v:=t5) Tryz.sizeOf155 rfl b2 rfl l5 fun i6 bE hs b17 cb=>?_))
 clear cb;have hfr:=hfr.stp hs;refine EL_nt (E_sr (EL_d0 rfl (D_loadO (g:=i6) Tryz.isAgg155 Tryz.sizeOf155 rfl b17 fun yB zB=>?_)));obtain ⟨o0,hy20,h⟩:=bsome h;refine EL_d0 rfl (Zp (g:=i6) (vs:=[yB]) en131 (.cons rfl .nil) (wk131 zB hy20) fun cC oD iE hs hr=>?_);have hfr:=hfr.ext hs;have b17:=b17.ext hs;obtain ⟨lD,nD,rfl,rfl,rfl⟩:=hr;refine Zn (.tuple #[.int .u8 (UInt8.toNat (o0.1)),.int .u8 (UInt8.toNat (o0.2))]) rfl rfl (EL_p (.int .u8 (UInt8.toNat (o0.1))) (Zi rfl rfl) rfl (EL_p (.int .u8 (UInt8.toNat (o0.2))) (Zi rfl rfl) rfl (EL_p (fPtr p2 6) (P_indexAddrA (α:=UInt8) (i:=(6:Int)) Tryz.underlying155 Tryz.sizeOf5 rfl (OB.ptr b17) rfl (idx_vec (v:=(⟨List.toArray [(u8w y5),(u8w ((x0).Day)),(u8w ((x0).Loom)),(u8w ((x0).Chain)),(u8w ((x0).Tie)),(u8w ((x0).Picks)),0,0],rfl⟩:Vector UInt8 8)) (i:=6) (by decide))) rfl (EL_d0 rfl (D_storeFc (g:=cC) (SubS.vec (β:=UInt8) (n:=8) (i:=6) (by decide)) Tryz.sizeOf5 rfl b17 rfl (RV_u8.2 rfl) fun uC lE hs b21 rst hos=>?_)))));clear rst hos;have hfr:=hfr.stp hs;refine EL_p (fPtr p2 7) (P_indexAddrA (α:=UInt8) (i:=(7:Int)) Tryz.underlying155 Tryz.sizeOf5 rfl (OB.ptr b21) rfl (idx_vec (v:=(Vector.set ((⟨List.toArray [(u8w y5),(u8w ((x0).Day)),(u8w ((x0).Loom)),(u8w ((x0).Chain)),(u8w ((x0).Tie)),(u8w ((x0).Picks)),0,0],rfl⟩:Vector UInt8 8)) 6 (o0.1) (by decide))) (i:=7) (by decide))) rfl (EL_d0 rfl (D_storeFc (g:=uC) (SubS.vec (β:=UInt8) (n:=8) (i:=7) (by decide)) Tryz.sizeOf5 rfl b21 rfl (RV_u8.2 rfl) fun l8 mE hs b22 rst hos=>?_));clear rst hos;have hfr:=hfr.stp hs;refine EL_nt (E_sr (EL_d0 rfl (D_loadO (g:=l8) Tryz.isAgg155 Tryz.sizeOf155 rfl b22 fun bD cD=>(EL_d0 rfl (D_storeOc (g:=l8) (v:=bD) Tryz.sizeOf155 rfl b22 rfl cD fun oE rE hs b24 cb=>?_)))));clear cb;have hfr:=hfr.stp hs;refine EL_nt (E_ret ?_);obtain rfl:=sinj h;obtain ⟨ad25,cv25,hp25,l9,cr25⟩:=ob_read Tryz.isAgg155 Tryz.sizeOf155 b24;exact endm_c rfl rfl ((rq p2).trans hp25) l9 ⟨_,hfr,cr25⟩
def f113 (x0:List BookTie) (x1:BookTie→Option Bool):Option (Bool):=
 (f150 x0 x1).bind fun y2=>
 some ((decide (y2 ≥ (0:Int))))
theorem en113:Enters Tryz.prog 113:=enters_of Tryz.func113 (by kernel_rfl) rfl
theorem wk113 {gI:Gh} {wI:World} {x0:List BookTie} {x1:BookTie→Option Bool} {up0:Value} (rp0:RV gI.m wI x0 up0) {up1:Value} (rp1:FnV1 Tryz.prog x1 up1 gI wI) {r:Bool} (h:f113 x0 x1=some r):Fn Tryz.prog 113 #[up0,up1] gI wI (fun _ _ v=>v=.bool (r)):=by
 unfold f113 at h;refine fnE Tryz.func113 rfl rfl fun g0 hm hfr=>?_;have rp0:=RVc hm rp0;obtain ⟨ff1,fa1,fc1,rfl,fen1,fcl1⟩:=rp1;show E _ 9 none _ _ _ _ _;refine E_sr (Zg (.bool false) rfl rfl (EL_nt (E_sr (Zn up0 rfl rfl (Zn ((.func (.func ff1) fa1 fc1)) rfl rfl ?_)))));obtain ⟨y2,hy2,h⟩:=bsome h;refine EL_d0 rfl (Zp (g:=g0) (vs:=[up0,(.func (.func ff1) fa1 fc1)]) en150 (.cons rfl (.cons rfl .nil)) (wk150 rp0 (FnV1.ch ⟨_,_,_,rfl,fen1,fcl1⟩ hfr.ch) hy2) fun g1 w1_ v1 hs hr=>?_);have hfr:=hfr.ext hs;subst hr;refine EL_in (.bool ((decide (y2 ≥ (0:Int))))) rfl rfl rfl rfl (Zg (.bool ((decide (y2 ≥ (0:Int))))) rfl rfl (EL_nt (E_ret ?_)));obtain rfl:=sinj h;exact end1 rfl rfl (rq (.bool ((decide (y2 ≥ (0:Int)))))) ⟨_,hfr,rfl⟩
def f114 (x0:List BookChain) (x1:BookChain→Option Bool):Option (Bool):=
 (f151 x0 x1).bind fun y2=>
 some ((decide (y2 ≥ (0:Int))))
theorem en114:Enters Tryz.prog 114:=enters_of Tryz.func114 (by kernel_rfl) rfl
theorem wk114 {gI:Gh} {wI:World} {x0:List BookChain} {x1:BookChain→Option Bool} {up0:Value} (rp0:RV gI.m wI x0 up0) {up1:Value} (rp1:FnV1 Tryz.prog x1 up1 gI wI) {r:Bool} (h:f114 x0 x1=some r):Fn Tryz.prog 114 #[up0,up1] gI wI (fun _ _ v=>v=.bool (r)):=by
 unfold f114 at h;refine fnE Tryz.func114 rfl rfl fun g0 hm hfr=>?_;have rp0:=RVc hm rp0;obtain ⟨ff1,fa1,fc1,rfl,fen1,fcl1⟩:=rp1;show E _ 9 none _ _ _ _ _;refine E_sr (Zg (.bool false) rfl rfl (EL_nt (E_sr (Zn up0 rfl rfl (Zn ((.func (.func ff1) fa1 fc1)) rfl rfl ?_)))));obtain ⟨y2,hy2,h⟩:=bsome h;refine EL_d0 rfl (Zp (g:=g0) (vs:=[up0,(.func (.func ff1) fa1 fc1)]) en151 (.cons rfl (.cons rfl .nil)) (wk151 rp0 (FnV1.ch ⟨_,_,_,rfl,fen1,fcl1⟩ hfr.ch) hy2) fun g1 w1_ v1 hs hr=>?_);have hfr:=hfr.ext hs;subst hr;refine EL_in (.bool ((decide (y2 ≥ (0:Int))))) rfl rfl rfl rfl (Zg (.bool ((decide (y2 ≥ (0:Int))))) rfl rfl (EL_nt (E_ret ?_)));obtain rfl:=sinj h;exact end1 rfl rfl (rq (.bool ((decide (y2 ≥ (0:Int)))))) ⟨_,hfr,rfl⟩
def f130 (x0:Int) (x1:Int):Option (Int):=
 (f159 x0).bind fun y2=>
 (f159 x1).bind fun y4=>
 jn (σ:=Unit) (fun _=>
  jn (σ:=Unit) (fun _=>
   jn (σ:=Unit) (fun _=>
    jn (σ:=Unit) (fun _=>
     some ((0:Int))
     ) fun oB=>
    bif (decide (x0 > x1)) then
     some ((1:Int))
    else
     oB ()
    ) fun yB=>
   bif (decide (x0 < x1)) then
    some ((-1:Int))
   else
    yB ()
   ) fun k18=>
  bif y4 then
   some ((1:Int))
  else
   k18 ()
  ) fun zB=>
 bif y2 then
  jn (σ:=Unit) (fun _=>
   some ((-1:Int))
   ) fun cC=>
  bif y4 then
   some ((0:Int))
  else
   cC ()
 else
  zB ()
theorem en130:Enters Tryz.prog 130:=enters_of Tryz.func130 (by kernel_rfl) rfl
theorem wk130 {gI:Gh} {wI:World} {x0:Int} {x1:Int}  {r:Int} (h:f130 x0 x1=some r):Fn Tryz.prog 130 #[Iz (x0),Iz (x1)] gI wI (fun _ _ v=>v=Iz (r)):=by
 unfold f130 at h;refine fnE Tryz.func130 rfl rfl fun g0 hm hfr=>?_;show E _ 20 none _ _ _ _ _;refine E_sr (Zg (Iz (0)) rfl rfl (EL_nt (E_sr (Zn (Iz (x0)) rfl rfl ?_))));obtain ⟨y2,hy2,h⟩:=bsome h;refine EL_d0 rfl (Zp (g:=g0) (vs:=[Iz (x0)]) en159 (.cons rfl .nil) (wk159  hy2) fun g1 w1_ v1 hs hr=>?_);have hfr:=hfr.ext hs;subst hr;refine Zg (.bool (y2)) rfl rfl (EL_nt (E_sr (Zn (Iz (x1)) rfl rfl ?_)));obtain ⟨y4,oD,h⟩:=bsome h;refine EL_d0 rfl (Zp (g:=g1) (vs:=[Iz (x1)]) en159 (.cons rfl .nil) (wk159  oD) fun g3 w3_ v3 hs hr=>?_);have hfr:=hfr.ext hs;subst hr;refine Zg (.bool (y4)) rfl rfl (EL_nt (Zq h (fun (s:Unit) e w=>∃ (g:Gh) ,Fr gI wI g w∧e 0=Iz (x0)∧e 1=Iz (x1)∧e 6=.bool (y4)) (fun X10 zB uC h=>?_) ?_))
 ·refine E_sr (Zn (.bool (y2)) rfl rfl (EL_nt ?_))
  rcases Zt h with ⟨o0,h⟩ | ⟨o0,h⟩
  ·refine E_ct o0 rfl (Zq h (fun (s : Unit) e w => ∃ (g : Gh) , Fr gI wI g w) (fun X13 cC bD h => ?_) ?_)
   ·refine E_sr (Zn (.bool (y4)) rfl rfl (EL_nt ?_))
    rcases Zt h with ⟨l5,h⟩ | ⟨l5,h⟩
    ·refine E_ct l5 rfl (E_sr (Zg (Iz (0)) rfl rfl (EL_nt (E_ret (thn_r (thn_r ?_))))))
     obtain rfl:=sinj h;exact end1 rfl rfl (rq (Iz (0))) ⟨_,hfr,rfl⟩
    ·refine E_cf l5 rfl ?_
     exact Zu (Zd (bD () _ _ ⟨g3,hfr⟩ h))
   ·rintro _ bE w15 ⟨rE, hfr⟩ h
    refine E_sr (Zg (Iz (-1)) rfl rfl (EL_nt (E_ret (thn_r ?_))));obtain rfl:=sinj h;exact end1 rfl rfl (rq (Iz (-1))) ⟨_,hfr,rfl⟩
  ·refine E_cf o0 rfl ?_
   exact Zu (Zd (uC () _ _ ⟨g3,hfr,rfl,rfl,rfl⟩ h))
 ·rintro _ iE uE ⟨yD, hfr, n9, aB, lB⟩ h
  refine Zq h (fun (s:Unit) e w=>∃ (g:Gh) ,Fr gI wI g w∧e 0=Iz (x0)∧e 1=Iz (x1)) (fun X18 k18 cD h=>?_) ?_
  ·refine E_sr (Zo lB rfl (EL_nt ?_))
   rcases Zt h with ⟨t5,h⟩ | ⟨t5,h⟩
   ·refine E_ct t5 rfl (E_sr (Zg (Iz (1)) rfl rfl (EL_nt (E_ret (thn_r ?_)))))
    obtain rfl:=sinj h;exact end1 rfl rfl (rq (Iz (1))) ⟨_,hfr,rfl⟩
   ·refine E_cf t5 rfl ?_
    exact Zu (Zd (cD () _ _ ⟨yD,hfr,n9,aB⟩ h))
  ·rintro _ lE vE ⟨zD, hfr, n8, l9⟩ h
   refine Zq h (fun (s:Unit) e w=>∃ (g:Gh) ,Fr gI wI g w∧e 0=Iz (x0)∧e 1=Iz (x1)) (fun X22 yB lD h=>?_) ?_
   ·refine E_sr (Zo n8 rfl (Zo l9 rfl (EL_in (.bool ((decide (x0 < x1)))) rfl rfl rfl rfl (EL_nt ?_))))
    rcases Zt h with ⟨i6,h⟩ | ⟨i6,h⟩
    ·refine E_ct i6 rfl (E_sr (Zg (Iz (-1)) rfl rfl (EL_nt (E_ret (thn_r ?_)))))
     obtain rfl:=sinj h;exact end1 rfl rfl (rq (Iz (-1))) ⟨_,hfr,rfl⟩
    ·refine E_cf i6 rfl ?_
     exact Zu (Zd (lD () _ _ ⟨zD,hfr,n8,l9⟩ h))
   ·rintro _ mE xE ⟨aE, hfr, mB, nB⟩ h
    refine Zq h (fun (s:Unit) e w=>∃ (g:Gh) ,Fr gI wI g w) (fun X26 oB nD h=>?_) ?_
    ·refine E_sr (Zo mB rfl (Zo nB rfl (EL_in (.bool ((decide (x0 > x1)))) rfl rfl rfl rfl (EL_nt ?_))))
     rcases Zt h with ⟨l8,h⟩ | ⟨l8,h⟩
     ·refine E_ct l8 rfl (E_sr (Zg (Iz (1)) rfl rfl (EL_nt (E_ret (thn_r ?_)))))
      obtain rfl:=sinj h;exact end1 rfl rfl (rq (Iz (1))) ⟨_,hfr,rfl⟩
     ·refine E_cf l8 rfl ?_
      exact Zu (Zd (nD () _ _ ⟨aE,hfr⟩ h))
    ·rintro _ oE yE ⟨zE, hfr⟩ h
     refine E_sr (Zg (Iz (0)) rfl rfl (EL_nt (E_ret ?_)));obtain rfl:=sinj h;exact end1 rfl rfl (rq (Iz (0))) ⟨_,hfr,rfl⟩
def f133 (x0:List UInt8) (x1:Int):Option (It (List UInt8)):=
 Option.bind (α:=Unit) (
  bif (decide (x1 < (1 : Int))) then
   none
  else
   some ()
  ) fun (_:Unit)=>
 some ((fun σ cons s=>f160 x0 x1 σ cons s))
theorem en133:Enters Tryz.prog 133:=enters_of Tryz.func133 (by kernel_rfl) rfl
theorem wk133 {gI:Gh} {wI:World} {x0:List UInt8} {x1:Int} {up0:Value} (rp0:RV gI.m wI x0 up0) {r:It (List UInt8)} (h:f133 x0 x1=some r):Fn Tryz.prog 133 #[up0,Iz (x1)] gI wI (fun m w v=>ItV Tryz.prog (RA1 (α:=(List UInt8))) (r) v m w):=by
 unfold f133 at h;refine fnE Tryz.func133 rfl rfl fun g0 hm hfr=>?_;have rp0:=RVc hm rp0;show E _ 9 none _ _ _ _ _;refine E_sr (EL_d0 rfl (D_box (g:=g0) rfl rp0 fun g1 w1 p1 hs q1=>?_));have hfr:=hfr.ext hs;refine EL_d0 rfl (D_box (g:=g1) rfl (Zj.2 rfl) fun g2 w2 p2 hs q2=>?_);have hfr:=hfr.ext hs;have q1:=q1.ext hs;refine Zg (.nilFunc) rfl rfl (EL_nt ?_);obtain ⟨_,hx,h⟩:=bsome h;refine E_join (fun e w=>∃ (g:Gh) ,Fr gI wI g w∧e 2=p1∧PT g.m w (x0:List UInt8) p1∧e 3=p2∧PT g.m w (x1:Int) p2) (fun Q' hQ=>?_) (fun l8 w7 hR=>?_)
 ·replace h := hx
  clear hx;refine E_sr (EL_d0 rfl (D_load (g:=g2) Tryz.isAgg3 Tryz.sizeOf3 rfl q2 fun v5 r5=>?_));obtain rfl:=Zj.1 r5;refine EL_in (.bool ((decide (x1 < (1:Int))))) rfl rfl rfl rfl (EL_nt ?_);rcases Zt h with ⟨hc6,h⟩ | ⟨hc6,h⟩
  ·refine E_ct hc6 rfl (Za ?_)
   cases h
  ·refine E_cf hc6 rfl (Zu ?_)
   obtain rfl:=sinj h;exact hQ _ _ ⟨g2,hfr,rfl,q1,rfl,q2⟩
 ·clear hx
  obtain ⟨g7,hfr,o0,l5,t5,i6⟩:=hR;refine E_sr (EL_p ((.func (.func 160) #[] #[p1,p2])) (P_makeFunc (capf_0_2 (show ev _ _=p1 from o0) (show ev _ _=p2 from t5))) rfl (Zg ((.func (.func 160) #[] #[p1,p2])) rfl rfl (EL_nt (E_ret ?_))));obtain rfl:=sinj h;exact end1 rfl rfl (rq (.func (.func 160) #[] #[p1,p2])) ⟨_,hfr,(show ItV Tryz.prog (RA1 (α:=(List UInt8))) (fun σ cons s=>f160 x0 x1 σ cons s) ((.func (.func 160) #[] #[p1,p2])) g7.m w7 from ⟨160,#[],#[p1,p2],rfl,en160,fun g' w' hch σ cons s s' h=>wk160  (l5.ch hch) (i6.ch hch) h⟩)⟩
def f138 (x0:List Int) (x1:Int→Option Bool):Option (Bool):=
 (f169 x0 x1).bind fun y2=>
 some ((decide (y2 ≥ (0:Int))))
theorem en138:Enters Tryz.prog 138:=enters_of Tryz.func138 (by kernel_rfl) rfl
theorem wk138 {gI:Gh} {wI:World} {x0:List Int} {x1:Int→Option Bool} {up0:Value} (rp0:RV gI.m wI x0 up0) {up1:Value} (rp1:FnV1 Tryz.prog x1 up1 gI wI) {r:Bool} (h:f138 x0 x1=some r):Fn Tryz.prog 138 #[up0,up1] gI wI (fun _ _ v=>v=.bool (r)):=by
 unfold f138 at h;refine fnE Tryz.func138 rfl rfl fun g0 hm hfr=>?_;have rp0:=RVc hm rp0;obtain ⟨ff1,fa1,fc1,rfl,fen1,fcl1⟩:=rp1;show E _ 9 none _ _ _ _ _;refine E_sr (Zg (.bool false) rfl rfl (EL_nt (E_sr (Zn up0 rfl rfl (Zn ((.func (.func ff1) fa1 fc1)) rfl rfl ?_)))));obtain ⟨y2,hy2,h⟩:=bsome h;refine EL_d0 rfl (Zp (g:=g0) (vs:=[up0,(.func (.func ff1) fa1 fc1)]) en169 (.cons rfl (.cons rfl .nil)) (wk169 rp0 (FnV1.ch ⟨_,_,_,rfl,fen1,fcl1⟩ hfr.ch) hy2) fun g1 w1_ v1 hs hr=>?_);have hfr:=hfr.ext hs;subst hr;refine EL_in (.bool ((decide (y2 ≥ (0:Int))))) rfl rfl rfl rfl (Zg (.bool ((decide (y2 ≥ (0:Int))))) rfl rfl (EL_nt (E_ret ?_)));obtain rfl:=sinj h;exact end1 rfl rfl (rq (.bool ((decide (y2 ≥ (0:Int)))))) ⟨_,hfr,rfl⟩
def f142 (x0:Int) (x1:Int) (x2:List Int):Option (Bool):=
 (f138 x2 ((fun a0=>f172 a0 x0 x1))).bind fun y4=>
 some ((!y4))
theorem en142:Enters Tryz.prog 142:=enters_of Tryz.func142 (by kernel_rfl) rfl
theorem wk142 {gI:Gh} {wI:World} {x0:Int} {x1:Int} {x2:List Int} {up2:Value} (rp2:RV gI.m wI x2 up2) {r:Bool} (h:f142 x0 x1 x2=some r):Fn Tryz.prog 142 #[Iz (x0),Iz (x1),up2] gI wI (fun _ _ v=>v=.bool (r)):=by
 unfold f142 at h;refine fnE Tryz.func142 rfl rfl fun g0 hm hfr=>?_;have rp2:=RVc hm rp2;show E _ 11 none _ _ _ _ _;refine E_sr (EL_d0 rfl (D_box (g:=g0) rfl (Zj.2 rfl) fun g1 w1 p1 hs q1=>?_));have hfr:=hfr.ext hs;have rp2:=rp2.ext hs;refine EL_d0 rfl (D_box (g:=g1) rfl (Zj.2 rfl) fun g2 w2 p2 hs q2=>?_);have hfr:=hfr.ext hs;have rp2:=rp2.ext hs;have q1:=q1.ext hs;refine Zg (.bool false) rfl rfl (EL_nt (E_sr (Zn up2 rfl rfl (EL_p ((.func (.func 172) #[] #[p1,p2])) (P_makeFunc (capf_0_2 (show ev _ _=p1 from rfl) (show ev _ _=p2 from rfl))) rfl ?_))));obtain ⟨y4,o0,h⟩:=bsome h;refine EL_d0 rfl (Zp (g:=g2) (vs:=[up2,(.func (.func 172) #[] #[p1,p2])]) en138 (.cons rfl (.cons rfl .nil)) (wk138 rp2 ⟨172,#[],#[p1,p2],rfl,en172,fun g' w' hch a0 b0 r hu0 hr=>by obtain rfl:=Zj.1 hu0; exact Fn.mono (wk172  (q1.ch hch) (q2.ch hch) hr) fun _ _ _ h=>RV_bool.2 h⟩ o0) fun g3 w3_ v3 hs hr=>?_);have hfr:=hfr.ext hs;subst hr;refine EL_p (.bool (!y4)) (P_not rfl) rfl (Zg (.bool (!y4)) rfl rfl (EL_nt (E_ret ?_)));obtain rfl:=sinj h;exact end1 rfl rfl (rq (.bool (!y4))) ⟨_,hfr,rfl⟩
def f146 (x0:List Str) (x1:Str→Option Bool):Option (Bool):=
 (f177 x0 x1).bind fun y2=>
 some ((decide (y2 ≥ (0:Int))))
theorem en146:Enters Tryz.prog 146:=enters_of Tryz.func146 (by kernel_rfl) rfl
theorem wk146 {gI:Gh} {wI:World} {x0:List Str} {x1:Str→Option Bool} {up0:Value} (rp0:RV gI.m wI x0 up0) {up1:Value} (rp1:FnV1 Tryz.prog x1 up1 gI wI) {r:Bool} (h:f146 x0 x1=some r):Fn Tryz.prog 146 #[up0,up1] gI wI (fun _ _ v=>v=.bool (r)):=by
 unfold f146 at h;refine fnE Tryz.func146 rfl rfl fun g0 hm hfr=>?_;have rp0:=RVc hm rp0;obtain ⟨ff1,fa1,fc1,rfl,fen1,fcl1⟩:=rp1;show E _ 9 none _ _ _ _ _;refine E_sr (Zg (.bool false) rfl rfl (EL_nt (E_sr (Zn up0 rfl rfl (Zn ((.func (.func ff1) fa1 fc1)) rfl rfl ?_)))));obtain ⟨y2,hy2,h⟩:=bsome h;refine EL_d0 rfl (Zp (g:=g0) (vs:=[up0,(.func (.func ff1) fa1 fc1)]) en177 (.cons rfl (.cons rfl .nil)) (wk177 rp0 (FnV1.ch ⟨_,_,_,rfl,fen1,fcl1⟩ hfr.ch) hy2) fun g1 w1_ v1 hs hr=>?_);have hfr:=hfr.ext hs;subst hr;refine EL_in (.bool ((decide (y2 ≥ (0:Int))))) rfl rfl rfl rfl (Zg (.bool ((decide (y2 ≥ (0:Int))))) rfl rfl (EL_nt (E_ret ?_)));obtain rfl:=sinj h;exact end1 rfl rfl (rq (.bool ((decide (y2 ≥ (0:Int)))))) ⟨_,hfr,rfl⟩
def f163 (x0:Int) (x1:Int) (x2:List Int):Option (Bool):=
 (f138 x2 ((fun a0=>f196 a0 x0 x1))).bind fun y4=>
 some ((!y4))
theorem en163:Enters Tryz.prog 163:=enters_of Tryz.func163 (by kernel_rfl) rfl
theorem wk163 {gI:Gh} {wI:World} {x0:Int} {x1:Int} {x2:List Int} {up2:Value} (rp2:RV gI.m wI x2 up2) {r:Bool} (h:f163 x0 x1 x2=some r):Fn Tryz.prog 163 #[Iz (x0),Iz (x1),up2] gI wI (fun _ _ v=>v=.bool (r)):=by
 unfold f163 at h;refine fnE Tryz.func163 rfl rfl fun g0 hm hfr=>?_;have rp2:=RVc hm rp2;show E _ 11 none _ _ _ _ _;refine E_sr (EL_d0 rfl (D_box (g:=g0) rfl (Zj.2 rfl) fun g1 w1 p1 hs q1=>?_));have hfr:=hfr.ext hs;have rp2:=rp2.ext hs;refine EL_d0 rfl (D_box (g:=g1) rfl (Zj.2 rfl) fun g2 w2 p2 hs q2=>?_);have hfr:=hfr.ext hs;have rp2:=rp2.ext hs;have q1:=q1.ext hs;refine Zg (.bool false) rfl rfl (EL_nt (E_sr (Zn up2 rfl rfl (EL_p ((.func (.func 196) #[] #[p1,p2])) (P_makeFunc (capf_0_2 (show ev _ _=p1 from rfl) (show ev _ _=p2 from rfl))) rfl ?_))));obtain ⟨y4,o0,h⟩:=bsome h;refine EL_d0 rfl (Zp (g:=g2) (vs:=[up2,(.func (.func 196) #[] #[p1,p2])]) en138 (.cons rfl (.cons rfl .nil)) (wk138 rp2 ⟨196,#[],#[p1,p2],rfl,en196,fun g' w' hch a0 b0 r hu0 hr=>by obtain rfl:=Zj.1 hu0; exact Fn.mono (wk196  (q1.ch hch) (q2.ch hch) hr) fun _ _ _ h=>RV_bool.2 h⟩ o0) fun g3 w3_ v3 hs hr=>?_);have hfr:=hfr.ext hs;subst hr;refine EL_p (.bool (!y4)) (P_not rfl) rfl (Zg (.bool (!y4)) rfl rfl (EL_nt (E_ret ?_)));obtain rfl:=sinj h;exact end1 rfl rfl (rq (.bool (!y4))) ⟨_,hfr,rfl⟩
def f166 (x0:U64) (x1:U64):Option (U64 × U64):=
 (f199 x0 x1).bind fun y2=>
 some (y2.1,y2.2)
theorem en166:Enters Tryz.prog 166:=enters_of Tryz.func166 (by kernel_rfl) rfl
theorem wk166 {gI:Gh} {wI:World} {x0:U64} {x1:U64}  {r:U64 × U64} (h:f166 x0 x1=some r):Fn Tryz.prog 166 #[.int .u64 ((x0).n),.int .u64 ((x1).n)] gI wI (fun m w v=>∃ y0 y1,v=.tuple #[y0,y1]∧y0=.int .u64 ((r.1).n)∧y1=.int .u64 ((r.2).n)):=by
 unfold f166 at h;refine fnE Tryz.func166 rfl rfl fun g0 hm hfr=>?_;show E _ 30 none _ _ _ _ _;refine E_sr (Zg (.int .u64 (0)) rfl rfl (Zg (.int .u64 (0)) rfl rfl (EL_nt (Zf (E_cond_false (by rw [show ev _ _=_ from rfl]; exact congrArg Value.bool rfl) (Zu (Zd (E_sr (Zn (.int .u64 ((x0).n)) rfl rfl (Zn (.int .u64 ((x1).n)) rfl rfl ?_))))))))));obtain ⟨y2,hy2,h⟩:=bsome h;refine EL_d0 rfl (Zp (g:=g0) (vs:=[.int .u64 ((x0).n),.int .u64 ((x1).n)]) en199 (.cons rfl (.cons rfl .nil)) (wk199  hy2) fun g1 w1_ v1 hs hr=>?_);have hfr:=hfr.ext hs;obtain ⟨o0,l5,rfl,rfl,rfl⟩:=hr;refine Zn (.tuple #[.int .u64 ((y2.1).n),.int .u64 ((y2.2).n)]) rfl rfl (EL_p (.int .u64 ((y2.1).n)) (Zi rfl rfl) rfl (EL_p (.int .u64 ((y2.2).n)) (Zi rfl rfl) rfl (Zg (.int .u64 ((y2.1).n)) rfl rfl (Zg (.int .u64 ((y2.2).n)) rfl rfl (EL_nt (E_sr (Zn (.int .u64 ((y2.1).n)) rfl rfl (Zn (.int .u64 ((y2.2).n)) rfl rfl (Zg (.int .u64 ((y2.1).n)) rfl rfl (Zg (.int .u64 ((y2.2).n)) rfl rfl (EL_nt (E_ret ?_))))))))))));obtain rfl:=sinj h;exact end2 rfl rfl (rq (.int .u64 ((y2.1).n))) (rq (.int .u64 ((y2.2).n))) ⟨_,hfr,_,_,rfl,rfl,rfl⟩
def f168 (x0:TieTieHarness) (x1:Int):Option (Str):=
 Option.bind (α:=List UInt8) (
  lp (σ:=List UInt8 × Int) (fun bE (n8,o0)=>
   bif (decide (o0 < ((((x0).TieHarness).Warps).length : Int))) then
    Option.bind (α:=List UInt8) (
     (f202 x0 x1 o0).bind fun yB=>
     (f201 yB).bind fun zB=>
     (apnd 1 n8 [zB]).bind fun y43=>
     some (y43)
     ) fun i6=>
    bE (i6,(w64 (o0 + (1:Int))))
   else
    some (n8)
   ) big (([]:List UInt8),(0:Int))
  ) fun l9=>
 (sbstr l9).bind fun mB=>
 some (mB)
theorem en168:Enters Tryz.prog 168:=enters_of Tryz.func168 (by kernel_rfl) rfl
theorem wk168 {gI:Gh} {wI:World} {x0:TieTieHarness} {x1:Int} {up0:Value} (rp0:RV gI.m wI x0 up0) {r:Str} (h:f168 x0 x1=some r):Fn Tryz.prog 168 #[up0,Iz (x1)] gI wI (fun _ _ v=>v=Str.v (r)):=by
 unfold f168 at h;refine fnE Tryz.func168 rfl rfl fun g0 hm hfr=>?_;have rp0:=RVc hm rp0;show E _ 22 none _ _ _ _ _;refine E_sr (EL_d0 rfl (D_box (g:=g0) rfl rp0 fun g1 w1 p1 hs q1=>?_));have hfr:=hfr.ext hs;refine Zg (Str.v (⟨[]⟩:Str)) rfl rfl (EL_nt (E_sr (EL_d0 rfl (D_allocOc (g:=g1) 2005 ((⟨.pointer none,rfl⟩,[]):Fv × List UInt8) Tryz.zeroValue131 (fun m w=>⟨_,rep_two (show GoT.rep m w (⟨.pointer none,rfl⟩:Fv) [.pointer none] from rfl) rep_nil,rfl⟩) fun g2 w2 p2 hs b2 cb=>?_))));have hfr:=hfr.stp hs;have q1:=q1.stp hs;replace b2:SB 2005 60501 g2 w2 5 131 [] p2:=⟨_,b2,cb.osf rfl,.inl rfl⟩;clear cb;refine EL_nt ?_;obtain ⟨l9,hx,h⟩:=bsome h;refine E_join (fun e w=>∃ (g:Gh) ,Fr gI wI g w∧e 5=p2∧SB 2005 60501 g w 5 131 (l9) p2) (fun Q' hQ=>?_) (fun rF xF hR=>?_)
 ·replace h := hx
  clear hx;refine E_sr (EL_p (fPtr p1 0) (Zc at_237_0 rfl (PT.ptr q1)) rfl ?_);have iE:=Zm (part_TieTieHarness_0).1 q1;refine EL_p (fPtr (fPtr p1 0) 1) (Zc at_106_1 rfl (PT.ptr iE)) rfl ?_;have vE:=Zm (part_TieHarness_1).1 iE;refine EL_d0 rfl (D_load (g:=g2) Tryz.isAgg22 Tryz.sizeOf22 rfl vE fun yF xE=>(EL_p (Iz ((((x0).TieHarness).Warps).length:Int)) (P_len Tryz.underlying22 rfl xE) rfl (Zn (Iz (0)) rfl rfl (EL_nt (Zr (E_lp h (fun (s:List UInt8 × Int) e w=>∃ (g:Gh) ,Fr gI wI g w∧e 1=Iz (x1)∧e 2=p1∧PT g.m w (x0:TieTieHarness) p1∧e 5=p2∧SB 2005 60501 g w 5 131 (s.1) p2∧e 10=Iz (((((x0).TieHarness).Warps).length:Int))∧e 11=Iz (s.2)) ⟨g2,hfr,rfl,rfl,q1,rfl,b2,rfl,rfl⟩ (fun X27 bE lE=>?_)))))));rintro ⟨n8,o0⟩ sF aG ⟨cC,hfr,nB,oB,l5,n9,t5,aB,l8⟩ h;refine E_sr (EL_p (.bool ((decide (o0 < ((((x0).TieHarness).Warps).length:Int))))) (P_int l8 aB rfl) rfl (EL_nt (Zf ?_)));rcases Zt h with ⟨lB,h⟩ | ⟨lB,h⟩
  ·refine E_ct lB rfl (Zu (Zd ?_))
   obtain ⟨i6,hx,h⟩:=bsome h;refine E_join (fun e w=>∃ (g:Gh) ,Fr gI wI g w∧e 1=Iz (x1)∧e 2=p1∧PT g.m w (x0:TieTieHarness) p1∧e 5=p2∧SB 2005 60501 g w 5 131 (i6) p2∧e 10=Iz (((((x0).TieHarness).Warps).length:Int))∧e 11=Iz (o0)) (fun Q' hQ=>?_) (fun tF bG hR=>?_)
   ·replace h := hx
    clear hx;refine Zr (E_sr (Zo l8 rfl (Zg (Iz (o0)) rfl rfl (EL_nt (Za (EL_d0 rfl (D_load (g:=cC) Tryz.isAgg237 Tryz.sizeOf237 oB l5 fun yE zE=>(Zo nB rfl (Zn (Iz (o0)) rfl rfl ?_)))))))));obtain ⟨yB,mE,h⟩:=bsome h;refine EL_d0 rfl (Zp (g:=cC) (vs:=[yE,Iz (x1),Iz (o0)]) en202 (.cons rfl (.cons rfl (.cons rfl .nil))) (wk202 zE mE) fun cF uF cG hs hr=>?_);have hfr:=hfr.ext hs;have l5:=l5.ext hs;have t5:=t5.ext hs;subst hr;obtain ⟨zB,oE,h⟩:=bsome h;refine EL_d0 rfl (Zp (g:=cF) (vs:=[.bool (yB)]) en201 (.cons rfl .nil) (wk201  oE) fun eG vF gG hs hr=>?_);have hfr:=hfr.ext hs;have l5:=l5.ext hs;have t5:=t5.ext hs;subst hr;obtain ⟨y43,rE,h⟩:=bsome h;refine EL_d0 rfl (D_callC (vs:=[p2,.int .u8 (UInt8.toNat (zB))]) en101 (.cons n9 (.cons rfl .nil)) (wk101 (i:=2005) (j:=60501) rfl rfl t5 rE) fun iG jG hq=>?_);obtain ⟨hv,dF,⟨_,_,_,_,hs1,hs2,hs3⟩,b42⟩:=hq;subst hv;have hfr:=hfr.stp hs1;have l5:=l5.stp hs1;have hfr:=hfr.stp hs2;have l5:=l5.stp hs2;have hfr:=hfr.stp hs3;have l5:=l5.stp hs3;clear hs1 hs2 hs3;refine Zb (blk_n ?_);obtain rfl:=sinj h;exact hQ _ _ ⟨dF,hfr,nB,oB,l5,n9,b42,aB,l8⟩
   ·clear hx
    obtain ⟨eF,hfr,cD,lD,nD,oD,yD,uC,bD⟩:=hR;refine Za (EL_in (Iz ((w64 (o0 + (1:Int))))) bD rfl rfl rfl (Zn (Iz ((w64 (o0 + (1:Int))))) rfl rfl ?_));exact EL_nt (lE (i6,(w64 (o0 + (1:Int)))) _ _ ⟨eF,hfr,cD,lD,nD,oD,yD,uC,rfl⟩ h)
  ·refine E_cf lB rfl (E_exit (thn_e (thn_e (blk_hit ?_))))
   obtain rfl:=sinj h;exact hQ _ _ ⟨cC,hfr,n9,t5⟩
 ·clear hx
  obtain ⟨kG,hfr,zD,aE⟩:=hR;refine E_sr ?_;obtain ⟨mB,uE,h⟩:=bsome h;obtain ⟨hne46,hye46⟩:=sbstr_h uE;refine EL_d0 rfl (D_callC (vs:=[p2]) en71 (.cons zD .nil) (wk71 (i:=2005) (j:=60501) rfl aE hne46) fun lG mG hq=>?_);obtain ⟨hv,sG,hs⟩:=hq;rw [← hye46] at hv;subst hv;have hfr:=hfr.stp hs;refine Zg (Str.v mB) rfl rfl (EL_nt (E_ret ?_));obtain rfl:=sinj h;exact end1 rfl rfl (rq (Str.v mB)) ⟨_,hfr,rfl⟩
def f173 (x0:Int):Option (Bool):=
 (f163 ((1:Int)) ((24:Int)) (([x0]:List Int))).bind fun y3=>
 some (y3)
theorem en173:Enters Tryz.prog 173:=enters_of Tryz.func173 (by kernel_rfl) rfl
theorem wk173 {gI:Gh} {wI:World} {x0:Int}  {r:Bool} (h:f173 x0=some r):Fn Tryz.prog 173 #[Iz (x0)] gI wI (fun _ _ v=>v=.bool (r)):=by
 unfold f173 at h;refine fnE Tryz.func173 rfl rfl fun g0 hm hfr=>?_;show E _ 6 none _ _ _ _ _;refine E_sr (Zg (.bool false) rfl rfl (EL_nt (E_sr (Zn (Iz (x0)) rfl rfl (EL_d0 rfl (D_buildSlice (g:=g0) 3004 (xs:=([x0]:List Int)) (vs:=[Iz (x0)]) Tryz.underlying22 Tryz.sizeOf3 Tryz.zeroValue3 rfl rfl (.cons rfl .nil) (RVs.cons (Zj.2 rfl) RVs.nil) rfl rfl fun g1 w1 v1 hs o1 r1 hxt hfl=>?_))))));have hfr:=hfr.stp hs;obtain ⟨y3,hy3,h⟩:=bsome h;refine EL_d0 rfl (Zp (g:=g1) (vs:=[Iz (1),Iz (24),v1]) en163 (.cons rfl (.cons rfl (.cons rfl .nil))) (wk163 r1 hy3) fun g2 w2_ v2 hs hr=>?_);have hfr:=hfr.ext hs;subst hr;refine Zg (.bool (y3)) rfl rfl (EL_nt (E_ret ?_));obtain rfl:=sinj h;exact end1 rfl rfl (rq (.bool (y3))) ⟨_,hfr,rfl⟩
def f178 (x0:Str) (x1:Str):Option (Bool):=
 Option.bind (α:=Bool) (
  (f211 x0).bind fun y8=>
  bif y8 then
   (f211 x1).bind fun y11=>
   bif (!y11) then
    some (true)
   else
    some ((Op.bytesLess (x0).b (x1).b))
  else
   some ((Op.bytesLess (x0).b (x1).b))
  ) fun l5=>
 some (l5)
theorem en178:Enters Tryz.prog 178:=enters_of Tryz.func178 (by kernel_rfl) rfl
theorem wk178 {gI:Gh} {wI:World} {x0:Str} {x1:Str}  {r:Bool} (h:f178 x0 x1=some r):Fn Tryz.prog 178 #[Str.v (x0),Str.v (x1)] gI wI (fun _ _ v=>v=.bool (r)):=by
 unfold f178 at h;refine fnE Tryz.func178 rfl rfl fun g0 hm hfr=>?_;show E _ 17 none _ _ _ _ _;refine E_sr (Zg (.bool false) rfl rfl (EL_nt ?_));obtain ⟨l5,hx,h⟩:=bsome h;refine E_join (fun e w=>∃ (g:Gh) ,Fr gI wI g w∧e 4=.bool (l5)) (fun Q' hQ=>?_) (fun n8 n9 hR=>?_)
 ·replace h := hx
  clear hx;refine Za (Zn (Str.v (x0)) rfl rfl ?_);obtain ⟨y8,l8,h⟩:=bsome h;refine EL_d0 rfl (Zp (g:=g0) (vs:=[Str.v (x0)]) en211 (.cons rfl .nil) (wk211  l8) fun g7 w7_ v7 hs hr=>?_);have hfr:=hfr.ext hs;subst hr;refine Zn (.bool (y8)) rfl rfl ?_;rcases Zt h with ⟨hc9,h⟩ | ⟨hc9,h⟩
  ·refine EL_y (Str.v (x1)) (Zk rfl) rfl rfl hc9 rfl ?_
   obtain ⟨y11,i6,h⟩:=bsome h;refine Ze (.yes2 rfl rfl hc9) rfl (Zp (g:=g7) (vs:=[Str.v (x1)]) en211 (.cons rfl .nil) (wk211  i6) fun g10 l9 v10 hs hr=>?_);have hfr:=hfr.ext hs;subst hr;refine EL_y (.bool (!y11)) (P_not rfl) rfl rfl hc9 rfl (EL_p (.bool (!y11)) (Zl (b:=y8) rfl (pick_t hc9 rfl)) rfl (Zn (.bool (!y11)) rfl rfl ?_));rcases Zt h with ⟨o0,h⟩ | ⟨o0,h⟩
   ·refine EL_s rfl rfl o0 rfl rfl (EL_s rfl rfl o0 rfl rfl (EL_s rfl rfl o0 rfl rfl (EL_p (.bool true) (Zl (b := (!y11)) rfl (pick_t o0 rfl)) rfl (Zg (.bool true) rfl rfl (Zb ?_)))))
    obtain rfl:=sinj h;exact hQ _ _ ⟨g10,hfr,rfl⟩
   ·refine EL_y (Str.v (x0)) (Zk rfl) rfl rfl o0 rfl (EL_y (Str.v (x1)) (Zk rfl) rfl rfl o0 rfl (EL_y (.bool ((Op.bytesLess (x0).b (x1).b))) (P_str rfl rfl rfl) rfl rfl o0 rfl (EL_p (.bool ((Op.bytesLess (x0).b (x1).b))) (Zl (b := (!y11)) rfl (pick_f o0 rfl)) rfl (Zg (.bool ((Op.bytesLess (x0).b (x1).b))) rfl rfl (Zb ?_)))))
    obtain rfl:=sinj h;exact hQ _ _ ⟨g10,hfr,rfl⟩
  ·refine EL_s rfl rfl hc9 rfl rfl (EL_s rfl rfl hc9 rfl rfl (EL_s rfl rfl hc9 rfl rfl (EL_p (.bool false) (Zl (b := y8) rfl (pick_f hc9 rfl)) rfl (Zn (.bool false) rfl rfl (EL_y (Str.v (x0)) (Zk rfl) rfl rfl rfl rfl (EL_y (Str.v (x1)) (Zk rfl) rfl rfl rfl rfl (EL_y (.bool ((Op.bytesLess (x0).b (x1).b))) (P_str rfl rfl rfl) rfl rfl rfl rfl (EL_p (.bool ((Op.bytesLess (x0).b (x1).b))) (Zl (b := false) rfl (pick_f rfl rfl)) rfl (Zg (.bool ((Op.bytesLess (x0).b (x1).b))) rfl rfl (Zb ?_))))))))))
   obtain rfl:=sinj h;exact hQ _ _ ⟨g7,hfr,rfl⟩
 ·clear hx
  obtain ⟨aB,hfr,t5⟩:=hR;refine E_ret ?_;obtain rfl:=sinj h;exact end1 rfl rfl (show _=.bool (l5) from t5) ⟨_,hfr,rfl⟩
def f200 (x0:Int) (x1:Int) (x2:List Int):Option (Bool):=
 (f138 x2 ((fun a0=>f228 a0 x0 x1))).bind fun y4=>
 some ((!y4))
theorem en200:Enters Tryz.prog 200:=enters_of Tryz.func200 (by kernel_rfl) rfl
theorem wk200 {gI:Gh} {wI:World} {x0:Int} {x1:Int} {x2:List Int} {up2:Value} (rp2:RV gI.m wI x2 up2) {r:Bool} (h:f200 x0 x1 x2=some r):Fn Tryz.prog 200 #[Iz (x0),Iz (x1),up2] gI wI (fun _ _ v=>v=.bool (r)):=by
 unfold f200 at h;refine fnE Tryz.func200 rfl rfl fun g0 hm hfr=>?_;have rp2:=RVc hm rp2;show E _ 11 none _ _ _ _ _;refine E_sr (EL_d0 rfl (D_box (g:=g0) rfl (Zj.2 rfl) fun g1 w1 p1 hs q1=>?_));have hfr:=hfr.ext hs;have rp2:=rp2.ext hs;refine EL_d0 rfl (D_box (g:=g1) rfl (Zj.2 rfl) fun g2 w2 p2 hs q2=>?_);have hfr:=hfr.ext hs;have rp2:=rp2.ext hs;have q1:=q1.ext hs;refine Zg (.bool false) rfl rfl (EL_nt (E_sr (Zn up2 rfl rfl (EL_p ((.func (.func 228) #[] #[p1,p2])) (P_makeFunc (capf_0_2 (show ev _ _=p1 from rfl) (show ev _ _=p2 from rfl))) rfl ?_))));obtain ⟨y4,o0,h⟩:=bsome h;refine EL_d0 rfl (Zp (g:=g2) (vs:=[up2,(.func (.func 228) #[] #[p1,p2])]) en138 (.cons rfl (.cons rfl .nil)) (wk138 rp2 ⟨228,#[],#[p1,p2],rfl,en228,fun g' w' hch a0 b0 r hu0 hr=>by obtain rfl:=Zj.1 hu0; exact Fn.mono (wk228  (q1.ch hch) (q2.ch hch) hr) fun _ _ _ h=>RV_bool.2 h⟩ o0) fun g3 w3_ v3 hs hr=>?_);have hfr:=hfr.ext hs;subst hr;refine EL_p (.bool (!y4)) (P_not rfl) rfl (Zg (.bool (!y4)) rfl rfl (EL_nt (E_ret ?_)));obtain rfl:=sinj h;exact end1 rfl rfl (rq (.bool (!y4))) ⟨_,hfr,rfl⟩
def f208 (x0:Int) (x1:List Int):Option (Bool):=
 (shl64 (1:Int) x0).bind fun y1=>
 (f163 ((0:Int)) ((w64 (y1 - (1:Int)))) x1).bind fun y3=>
 some (y3)
theorem en208:Enters Tryz.prog 208:=enters_of Tryz.func208 (by kernel_rfl) rfl
theorem wk208 {gI:Gh} {wI:World} {x0:Int} {x1:List Int} {up1:Value} (rp1:RV gI.m wI x1 up1) {r:Bool} (h:f208 x0 x1=some r):Fn Tryz.prog 208 #[Iz (x0),up1] gI wI (fun _ _ v=>v=.bool (r)):=by
 unfold f208 at h;refine fnE Tryz.func208 rfl rfl fun g0 hm hfr=>?_;have rp1:=RVc hm rp1;show E _ 10 none _ _ _ _ _;refine E_sr (Zg (.bool false) rfl rfl (EL_nt (E_sr (Zn (Iz (x0)) rfl rfl ?_))));obtain ⟨y1,hy1,h⟩:=bsome h;refine EL_p (Iz (y1)) (P_int rfl rfl (congrArg (Option.map (Value.int .i64)) hy1)) rfl (EL_in (Iz ((w64 (y1 - (1:Int))))) rfl rfl rfl rfl (Zn up1 rfl rfl ?_));obtain ⟨y3,hy3,h⟩:=bsome h;refine EL_d0 rfl (Zp (g:=g0) (vs:=[Iz (0),Iz ((w64 (y1 - (1:Int)))),up1]) en163 (.cons rfl (.cons rfl (.cons rfl .nil))) (wk163 rp1 hy3) fun g2 w2_ v2 hs hr=>?_);have hfr:=hfr.ext hs;subst hr;refine Zg (.bool (y3)) rfl rfl (EL_nt (E_ret ?_));obtain rfl:=sinj h;exact end1 rfl rfl (rq (.bool (y3))) ⟨_,hfr,rfl⟩
def f209 (x0:List ChainCard) (x1:ChainCard→Option Bool):Option (Bool):=
 (f231 x0 x1).bind fun y2=>
 some ((decide (y2 ≥ (0:Int))))
theorem en209:Enters Tryz.prog 209:=enters_of Tryz.func209 (by kernel_rfl) rfl
theorem wk209 {gI:Gh} {wI:World} {x0:List ChainCard} {x1:ChainCard→Option Bool} {up0:Value} (rp0:RV gI.m wI x0 up0) {up1:Value} (rp1:FnV1 Tryz.prog x1 up1 gI wI) {r:Bool} (h:f209 x0 x1=some r):Fn Tryz.prog 209 #[up0,up1] gI wI (fun _ _ v=>v=.bool (r)):=by
 unfold f209 at h;refine fnE Tryz.func209 rfl rfl fun g0 hm hfr=>?_;have rp0:=RVc hm rp0;obtain ⟨ff1,fa1,fc1,rfl,fen1,fcl1⟩:=rp1;show E _ 9 none _ _ _ _ _;refine E_sr (Zg (.bool false) rfl rfl (EL_nt (E_sr (Zn up0 rfl rfl (Zn ((.func (.func ff1) fa1 fc1)) rfl rfl ?_)))));obtain ⟨y2,hy2,h⟩:=bsome h;refine EL_d0 rfl (Zp (g:=g0) (vs:=[up0,(.func (.func ff1) fa1 fc1)]) en231 (.cons rfl (.cons rfl .nil)) (wk231 rp0 (FnV1.ch ⟨_,_,_,rfl,fen1,fcl1⟩ hfr.ch) hy2) fun g1 w1_ v1 hs hr=>?_);have hfr:=hfr.ext hs;subst hr;refine EL_in (.bool ((decide (y2 ≥ (0:Int))))) rfl rfl rfl rfl (Zg (.bool ((decide (y2 ≥ (0:Int))))) rfl rfl (EL_nt (E_ret ?_)));obtain rfl:=sinj h;exact end1 rfl rfl (rq (.bool ((decide (y2 ≥ (0:Int)))))) ⟨_,hfr,rfl⟩
def f210 (x0:Str) (x1:I32→Option Bool):Option (Int):=
 (f232 x0 x1 true).bind fun y2=>
 some (y2)
theorem en210:Enters Tryz.prog 210:=enters_of Tryz.func210 (by kernel_rfl) rfl
theorem wk210 {gI:Gh} {wI:World} {x0:Str} {x1:I32→Option Bool} {up1:Value} (rp1:FnV1 Tryz.prog x1 up1 gI wI) {r:Int} (h:f210 x0 x1=some r):Fn Tryz.prog 210 #[Str.v (x0),up1] gI wI (fun _ _ v=>v=Iz (r)):=by
 unfold f210 at h;refine fnE Tryz.func210 rfl rfl fun g0 hm hfr=>?_;obtain ⟨ff1,fa1,fc1,rfl,fen1,fcl1⟩:=rp1;show E _ 8 none _ _ _ _ _;refine E_sr (Zg (Iz (0)) rfl rfl (EL_nt (E_sr (Zn (Str.v (x0)) rfl rfl (Zn ((.func (.func ff1) fa1 fc1)) rfl rfl ?_)))));obtain ⟨y2,hy2,h⟩:=bsome h;refine EL_d0 rfl (Zp (g:=g0) (vs:=[Str.v (x0),(.func (.func ff1) fa1 fc1),.bool true]) en232 (.cons rfl (.cons rfl (.cons rfl .nil))) (wk232 (FnV1.ch ⟨_,_,_,rfl,fen1,fcl1⟩ hfr.ch) hy2) fun g1 w1_ v1 hs hr=>?_);have hfr:=hfr.ext hs;subst hr;refine Zg (Iz (y2)) rfl rfl (EL_nt (E_ret ?_));obtain rfl:=sinj h;exact end1 rfl rfl (rq (Iz (y2))) ⟨_,hfr,rfl⟩
def f227 (x0:U64):Option (U64):=
 (shr64 ((x0).n) ((1:Int))).bind fun y1=>
 (shlU (bitU .and ((x0).n) ((6148914691236517205:Int))) ((1:Int))).bind fun y2=>
 (shr64 (bitU .or (bitU .and y1 ((6148914691236517205:Int))) y2) ((2:Int))).bind fun y3=>
 (shlU (bitU .and (bitU .or (bitU .and y1 ((6148914691236517205:Int))) y2) ((3689348814741910323:Int))) ((2:Int))).bind fun y4=>
 (shr64 (bitU .or (bitU .and y3 ((3689348814741910323:Int))) y4) ((4:Int))).bind fun y5=>
 (shlU (bitU .and (bitU .or (bitU .and y3 ((3689348814741910323:Int))) y4) ((1085102592571150095:Int))) ((4:Int))).bind fun y6=>
 (f241 ((⟨bitU .or (bitU .and y5 ((1085102592571150095:Int))) y6⟩:U64))).bind fun y8=>
 some (y8)
theorem en227:Enters Tryz.prog 227:=enters_of Tryz.func227 (by kernel_rfl) rfl
theorem wk227 {gI:Gh} {wI:World} {x0:U64}  {r:U64} (h:f227 x0=some r):Fn Tryz.prog 227 #[.int .u64 ((x0).n)] gI wI (fun _ _ v=>v=.int .u64 ((r).n)):=by
 unfold f227 at h;refine fnE Tryz.func227 rfl rfl fun g0 hm hfr=>?_;show E _ 26 none _ _ _ _ _;refine E_sr (Zg (.int .u64 (0)) rfl rfl (EL_nt (E_sr (Zn (.int .u64 ((x0).n)) rfl rfl ?_))));obtain ⟨y1,hy1,h⟩:=bsome h;refine EL_p (.int .u64 (y1)) (P_shrU rfl rfl hy1) rfl (EL_p (.int .u64 (bitU .and y1 ((6148914691236517205:Int)))) (P_bitU (by simp) rfl rfl) rfl (Zn (.int .u64 ((x0).n)) rfl rfl (EL_p (.int .u64 (bitU .and ((x0).n) ((6148914691236517205:Int)))) (P_bitU (by simp) rfl rfl) rfl ?_)));obtain ⟨y2,hy2,h⟩:=bsome h;refine EL_p (.int .u64 (y2)) (P_shlU rfl rfl hy2) rfl (EL_p (.int .u64 (bitU .or (bitU .and y1 ((6148914691236517205:Int))) y2)) (P_bitU (by simp) rfl rfl) rfl (Zg (.int .u64 (bitU .or (bitU .and y1 ((6148914691236517205:Int))) y2)) rfl rfl (EL_nt (E_sr (Zn (.int .u64 (bitU .or (bitU .and y1 ((6148914691236517205:Int))) y2)) rfl rfl ?_)))));obtain ⟨y3,hy3,h⟩:=bsome h;refine EL_p (.int .u64 (y3)) (P_shrU rfl rfl hy3) rfl (EL_p (.int .u64 (bitU .and y3 ((3689348814741910323:Int)))) (P_bitU (by simp) rfl rfl) rfl (Zn (.int .u64 (bitU .or (bitU .and y1 ((6148914691236517205:Int))) y2)) rfl rfl (EL_p (.int .u64 (bitU .and (bitU .or (bitU .and y1 ((6148914691236517205:Int))) y2) ((3689348814741910323:Int)))) (P_bitU (by simp) rfl rfl) rfl ?_)));obtain ⟨y4,o0,h⟩:=bsome h;refine EL_p (.int .u64 (y4)) (P_shlU rfl rfl o0) rfl (EL_p (.int .u64 (bitU .or (bitU .and y3 ((3689348814741910323:Int))) y4)) (P_bitU (by simp) rfl rfl) rfl (Zg (.int .u64 (bitU .or (bitU .and y3 ((3689348814741910323:Int))) y4)) rfl rfl (EL_nt (E_sr (Zn (.int .u64 (bitU .or (bitU .and y3 ((3689348814741910323:Int))) y4)) rfl rfl ?_)))));obtain ⟨y5,hy5,h⟩:=bsome h;refine EL_p (.int .u64 (y5)) (P_shrU rfl rfl hy5) rfl (EL_p (.int .u64 (bitU .and y5 ((1085102592571150095:Int)))) (P_bitU (by simp) rfl rfl) rfl (Zn (.int .u64 (bitU .or (bitU .and y3 ((3689348814741910323:Int))) y4)) rfl rfl (EL_p (.int .u64 (bitU .and (bitU .or (bitU .and y3 ((3689348814741910323:Int))) y4) ((1085102592571150095:Int)))) (P_bitU (by simp) rfl rfl) rfl ?_)));obtain ⟨y6,l5,h⟩:=bsome h;refine EL_p (.int .u64 (y6)) (P_shlU rfl rfl l5) rfl (EL_p (.int .u64 (bitU .or (bitU .and y5 ((1085102592571150095:Int))) y6)) (P_bitU (by simp) rfl rfl) rfl (Zg (.int .u64 (bitU .or (bitU .and y5 ((1085102592571150095:Int))) y6)) rfl rfl (EL_nt (E_sr (Zn (.int .u64 (bitU .or (bitU .and y5 ((1085102592571150095:Int))) y6)) rfl rfl ?_)))));obtain ⟨y8,t5,h⟩:=bsome h;refine EL_d0 rfl (Zp (g:=g0) (vs:=[.int .u64 (bitU .or (bitU .and y5 ((1085102592571150095:Int))) y6)]) en241 (.cons rfl .nil) (wk241  t5) fun g7 w7_ v7 hs hr=>?_);have hfr:=hfr.ext hs;subst hr;refine Zg (.int .u64 ((y8).n)) rfl rfl (EL_nt (E_ret ?_));obtain rfl:=sinj h;exact end1 rfl rfl (rq (.int .u64 ((y8).n))) ⟨_,hfr,rfl⟩
end Go.Proofs.YtmebkoemfjlbcaaGreatDoor
