import Derived.Test.YtplaipkjhlkjgaaTypes
import Derived.Test.YtplaipkjhlkjgaaKn
set_option maxRecDepth 8000
set_option maxHeartbeats 4000000
namespace Go.Proofs.Ytplaipkjhlkjgaa
open Go.RowKit
theorem Vr:(Try.prog.info? 3).map (fun i=>(i.zero,i.size,i.bytes))=some (some (.int .i64 0),1,8):=by kernel_rfl
theorem Sw:(Try.prog.info? 41).map (fun i=>(i.zero,i.size,i.bytes))=some (some (.agg #[.int .i64 0,.int .i64 0,.int .i64 0,.int .i64 0,.bool false]),5,40):=by kernel_rfl
theorem info_5:(Try.prog.info? 5).map (fun i=>(i.zero,i.size,i.bytes))=some (some (.int .u8 0),1,1):=by kernel_rfl
@[reducible] def ow_Design:Ow Design:=Ow.struct (fun (x:Design)=>(x.Hooks,x.Rows)) (Ow.pair (Ow.sh Int) (Ow.list 3 (Ow.sh Int)))
theorem Cs:(ow_Design).free:=free_struct (free_pair (free_sh Yl) (free_list 3 (free_sh Yl)))
theorem Wt:Try.prog.follows .mixedOrders=true:=by kernel_rfl
theorem lay_88:Ki Try.prog 88=some ([.int .i64 0,.int .i64 0,.int .i64 0,.int .i64 0],[(0,1),(1,1),(2,1),(3,1)]):=by kernel_rfl
theorem lay_28:Ki Try.prog 28=some ([.int .i64 0,.slice none 0 0],[(0,1),(1,1)]):=by kernel_rfl
theorem Lr:Ki Try.prog 30=some ([.int .i64 0,.slice none 0 0],[(0,1),(1,1)]):=by kernel_rfl
theorem lay_32:Ki Try.prog 32=some ([.int .i64 0,.slice none 0 0,.int .i64 0,.slice none 0 0],[(0,2),(2,2)]):=by kernel_rfl
theorem lay_93:Ki Try.prog 93=some ([.int .i64 0,.int .i64 0,.bool false],[(0,1),(1,1),(2,1)]):=by kernel_rfl
theorem Ry {P:Program} {e:Env} {ds:List Deferred} {w:World} {fn:Func} {R:Value→World→Prop} {t0:Tmp} {v0:Value} {y0:TypeId} {a0:Addr} (hres:fn.results=#[.cell t0 y0]) (hd:ds=[]) (h0:e t0=.pointer (some a0)) (l0:(loadVar y0 a0).run P w=.ok v0 w) (h:R v0 w):Uy P fn R .ret e ds w:=
 ⟨hd,fun tmps ht=>⟨_,by simp [results,hres,ht,asAddr,h0,l0],h⟩⟩
theorem Fk:Dy Zv:=fun _ m' _ w' x _ h=>(Sv Yl (Sv Yl (Sv Yl (Sv Yl plain_bool)))) _ m' _ w' _ _ h
theorem Bl {e:Env} {f:FuncId} {o0:Operand} {l5:Operand} {b0:Value} {b1:Value} (hb0:ev e o0=b0) (hb1:ev e l5=b1):(Value.func (.func f) ((#[]:Array Operand).map (ev e)) ((#[o0,l5]:Array Operand).map (ev e)))=.func (.func f) #[] #[b0,b1]:=by simp [hb0,hb1]
theorem Bv {e:Env} {f:FuncId} {o0:Operand} {a0:Value} (ha0:ev e o0=a0):(Value.func (.func f) ((#[o0]:Array Operand).map (ev e)) ((#[]:Array Operand).map (ev e)))=.func (.func f) #[a0] #[]:=by simp [ha0]
theorem Fz {e:Env} {f:FuncId} {o0:Operand} {b0:Value} (hb0:ev e o0=b0):(Value.func (.func f) ((#[]:Array Operand).map (ev e)) ((#[o0]:Array Operand).map (ev e)))=.func (.func f) #[] #[b0]:=by simp [hb0]
theorem info_4:(Try.prog.info? 4).map (fun i=>(i.zero,i.size,i.bytes))=some (some (.bool false),1,1):=by kernel_rfl
theorem Pg:Ki Try.prog 64=some ([.int .i64 0,.slice none 0 0,.int .i64 0,.slice none 0 0],[(0,4)]):=by kernel_rfl
theorem Ds:Ki Try.prog 41=some ([.int .i64 0,.int .i64 0,.int .i64 0,.int .i64 0,.bool false],[(0,1),(1,1),(2,1),(3,1),(4,1)]):=by kernel_rfl
theorem fl_41 : Try.prog.fieldsOf 41 = #[{ name := "Kind", type := 39, offset := 0, embedded := false, tag := "", pkgPath := "", byteOffset := 0 }, { name := "Pick", type := 3, offset := 1, embedded := false, tag := "", pkgPath := "", byteOffset := 8 }, { name := "Hook", type := 3, offset := 2, embedded := false, tag := "", pkgPath := "", byteOffset := 16 }, { name := "Warp", type := 3, offset := 3, embedded := false, tag := "", pkgPath := "", byteOffset := 24 }, { name := "Up", type := 4, offset := 4, embedded := false, tag := "", pkgPath := "", byteOffset := 32 }] := by kernel_rfl
theorem seq_41:SEq (α:=Zv) Try.prog 41:=by
 intro d x y w a b m wx m2 wy hx hy;obtain ⟨_,⟨_,_,rfl,rfl,⟨_,_,rfl,rfl,⟨_,_,rfl,rfl,⟨_,_,rfl,rfl,rfl⟩⟩⟩⟩,rfl⟩:=hx;obtain ⟨_,⟨_,_,rfl,rfl,⟨_,_,rfl,rfl,⟨_,_,rfl,rfl,⟨_,_,rfl,rfl,rfl⟩⟩⟩⟩,rfl⟩:=hy;refine (run_equalIn_struct w (d + 1) 41 _ _ (by kernel_rfl) (by kernel_rfl)).trans ?_;rw [fl_41];obtain ⟨x0,x1,x2,x3,x4⟩:=x;obtain ⟨y0,y1,y2,y3,y4⟩:=y;show (Op.eqFields (d + 1) #[.int .i64 (x0),.int .i64 (x1),.int .i64 (x2),.int .i64 (x3),.bool (x4)] #[.int .i64 (y0),.int .i64 (y1),.int .i64 (y2),.int .i64 (y3),.bool (y4)] _).run _ _=_;have x0p:(part 39 #[.int .i64 (x0),.int .i64 (x1),.int .i64 (x2),.int .i64 (x3),.bool (x4)] 0).run Try.prog w=.ok (.int .i64 (x0)) w:=Wv Try.isAgg39 rfl;have x1p:(part 3 #[.int .i64 (x0),.int .i64 (x1),.int .i64 (x2),.int .i64 (x3),.bool (x4)] 1).run Try.prog w=.ok (.int .i64 (x1)) w:=Wv Try.isAgg3 rfl;have x2p:(part 3 #[.int .i64 (x0),.int .i64 (x1),.int .i64 (x2),.int .i64 (x3),.bool (x4)] 2).run Try.prog w=.ok (.int .i64 (x2)) w:=Wv Try.isAgg3 rfl;have x3p:(part 3 #[.int .i64 (x0),.int .i64 (x1),.int .i64 (x2),.int .i64 (x3),.bool (x4)] 3).run Try.prog w=.ok (.int .i64 (x3)) w:=Wv Try.isAgg3 rfl;have x4p:(part 4 #[.int .i64 (x0),.int .i64 (x1),.int .i64 (x2),.int .i64 (x3),.bool (x4)] 4).run Try.prog w=.ok (.bool (x4)) w:=Wv Try.isAgg4 rfl;have y0p:(part 39 #[.int .i64 (y0),.int .i64 (y1),.int .i64 (y2),.int .i64 (y3),.bool (y4)] 0).run Try.prog w=.ok (.int .i64 (y0)) w:=Wv Try.isAgg39 rfl;have y1p:(part 3 #[.int .i64 (y0),.int .i64 (y1),.int .i64 (y2),.int .i64 (y3),.bool (y4)] 1).run Try.prog w=.ok (.int .i64 (y1)) w:=Wv Try.isAgg3 rfl;have y2p:(part 3 #[.int .i64 (y0),.int .i64 (y1),.int .i64 (y2),.int .i64 (y3),.bool (y4)] 2).run Try.prog w=.ok (.int .i64 (y2)) w:=Wv Try.isAgg3 rfl;have y3p:(part 3 #[.int .i64 (y0),.int .i64 (y1),.int .i64 (y2),.int .i64 (y3),.bool (y4)] 3).run Try.prog w=.ok (.int .i64 (y3)) w:=Wv Try.isAgg3 rfl;have y4p:(part 4 #[.int .i64 (y0),.int .i64 (y1),.int .i64 (y2),.int .i64 (y3),.bool (y4)] 4).run Try.prog w=.ok (.bool (y4)) w:=Wv Try.isAgg4 rfl;simp only [Op.eqFields,Sem.run_bind,Sem.run_ite,Sem.run_pure,x0p,x1p,x2p,x3p,x4p,y0p,y1p,y2p,y3p,y4p,Result.andThen_ok,run_equalIn_int _ _ _ _ _ _ _ Try.underlying39,run_equalIn_int _ _ _ _ _ _ _ Try.underlying3,run_equalIn_bool _ _ _ _ _ Try.underlying4];simp;grind
theorem eg_41:Try.prog.eqGuardType Try.prog.depth 41=false:=by kernel_rfl
theorem key_3:Lw Try.prog 3 (Value.int .i64):=Dl Try.underlying3
theorem Sz {P:Program} {e:Env} {ds:List Deferred} {w:World} {fn:Func} {R:Value→World→Prop} {t0:Tmp} {v0:Value} {y0:TypeId} {a0:Addr} {t1:Tmp} {v1:Value} (hres:fn.results=#[.cell t0 y0,.tmp t1]) (hd:ds=[]) (h0:e t0=.pointer (some a0)) (l0:(loadVar y0 a0).run P w=.ok v0 w) (h1:e t1=v1) (h:R (.tuple #[v0,v1]) w):Uy P fn R .ret e ds w:=
 ⟨hd,fun tmps ht=>⟨_,by simp [results,hres,ht,asAddr,h0,l0,h1],h⟩⟩
theorem layA_180:((Try.prog.info? 180).bind (·.zero)).map (·.cells.toList)=some [.int .i64 0,.int .i64 0]:=by kernel_rfl
theorem szA_39:(Try.prog.info? 39).map (·.size)=some 1:=by kernel_rfl
theorem capf_0_3 {e:Env} {f:FuncId} {o0:Operand} {l5:Operand} {t5:Operand} {b0:Value} {b1:Value} {b2:Value} (hb0:ev e o0=b0) (hb1:ev e l5=b1) (hb2:ev e t5=b2):(Value.func (.func f) ((#[]:Array Operand).map (ev e)) ((#[o0,l5,t5]:Array Operand).map (ev e)))=.func (.func f) #[] #[b0,b1,b2]:=by simp [hb0,hb1,hb2]
theorem lay_116:Ki Try.prog 116=some ([.int .i64 0,.int .i64 0,.bool false],[(0,1),(1,1),(2,1)]):=by kernel_rfl
theorem Jt {P:Program} {e:Env} {ds:List Deferred} {w:World} {fn:Func} {R:Value→World→Prop} {t0:Tmp} {v0:Value} {y0:TypeId} {a0:Addr} {t1:Tmp} {v1:Value} {t2:Tmp} {v2:Value} (hres:fn.results=#[.cell t0 y0,.tmp t1,.tmp t2]) (hd:ds=[]) (h0:e t0=.pointer (some a0)) (l0:(loadVar y0 a0).run P w=.ok v0 w) (h1:e t1=v1) (h2:e t2=v2) (h:R (.tuple #[v0,v1,v2]) w):Uy P fn R .ret e ds w:=
 ⟨hd,fun tmps ht=>⟨_,by simp [results,hres,ht,asAddr,h0,l0,h1,h2],h⟩⟩
theorem lay_134:Ki Try.prog 134=some ([.int .i64 0,.int .i64 0,.int .i64 0,.int .i64 0],[(0,4)]):=by kernel_rfl
theorem lay_57:Ki Try.prog 57=some ([.int .i64 0,.int .i64 0,.int .i64 0,.bool false],[(0,1),(1,1),(2,1),(3,1)]):=by kernel_rfl
theorem lay_72:Ki Try.prog 72=some ([.int .i64 0,.slice none 0 0],[(0,2)]):=by kernel_rfl
theorem info_57:(Try.prog.info? 57).map (fun i=>(i.zero,i.size,i.bytes))=some (some (.agg #[.int .i64 0,.int .i64 0,.int .i64 0,.bool false]),4,32):=by kernel_rfl
theorem lay_79:Ki Try.prog 79=some ([.int .i64 0,.slice none 0 0],[(0,2)]):=by kernel_rfl
theorem info_9:(Try.prog.info? 9).map (fun i=>(i.zero,i.size,i.bytes))=some (some (Str.v ⟨[]⟩),1,16):=by kernel_rfl
theorem On {P:Program} {e:Env} {ds:List Deferred} {w:World} {fn:Func} {R:Value→World→Prop} {t0:Tmp} {v0:Value} {y0:TypeId} {a0:Addr} {t1:Tmp} {v1:Value} {y1:TypeId} {a1:Addr} {t2:Tmp} {v2:Value} {y2:TypeId} {a2:Addr} (hres:fn.results=#[.cell t0 y0,.cell t1 y1,.cell t2 y2]) (hd:ds=[]) (h0:e t0=.pointer (some a0)) (l0:(loadVar y0 a0).run P w=.ok v0 w) (h1:e t1=.pointer (some a1)) (l1:(loadVar y1 a1).run P w=.ok v1 w) (h2:e t2=.pointer (some a2)) (l2:(loadVar y2 a2).run P w=.ok v2 w) (h:R (.tuple #[v0,v1,v2]) w):Uy P fn R .ret e ds w:=
 ⟨hd,fun tmps ht=>⟨_,by simp [results,hres,ht,asAddr,h0,l0,h1,l1,h2,l2],h⟩⟩
theorem Ja:Fl ow_Design (Ow.list 3 (Ow.sh Int)) 1 (fun (x:Design) y=>{ x with Rows:=y }) (fun (q:(ow_Design).S) (r:((Ow.list 3 (Ow.sh Int))).S)=>((Prod.fst q),r)):=Fl.of _ (Fl.comp Prod.snd Prod.snd (Fl.snd _ _) (Fl.id_ _) rfl) (fun _ _=>rfl)
theorem tup2_0 {b0 b1:Value} {B0:Value→Prop} {B1:Value→Prop} (h:∃ c0 c1:Value,Value.tuple #[b0,b1]=.tuple #[c0,c1]∧B0 c0∧B1 c1):B0 b0:=by
 obtain ⟨c0,c1,he,h0,h1⟩:=h; simp at he; obtain ⟨rfl,rfl⟩:=he; exact h0
theorem fl_57 : Try.prog.fieldsOf 57 = #[{ name := "Pick", type := 3, offset := 0, embedded := false, tag := "", pkgPath := "", byteOffset := 0 }, { name := "Hook", type := 3, offset := 1, embedded := false, tag := "", pkgPath := "", byteOffset := 8 }, { name := "Length", type := 3, offset := 2, embedded := false, tag := "", pkgPath := "", byteOffset := 16 }, { name := "Lifted", type := 4, offset := 3, embedded := false, tag := "", pkgPath := "", byteOffset := 24 }] := by kernel_rfl
theorem seq_57:SEq (α:=Gf) Try.prog 57:=by
 intro d x y w a b m wx m2 wy hx hy;obtain ⟨_,⟨_,_,rfl,rfl,⟨_,_,rfl,rfl,⟨_,_,rfl,rfl,rfl⟩⟩⟩,rfl⟩:=hx;obtain ⟨_,⟨_,_,rfl,rfl,⟨_,_,rfl,rfl,⟨_,_,rfl,rfl,rfl⟩⟩⟩,rfl⟩:=hy;refine (run_equalIn_struct w (d + 1) 57 _ _ (by kernel_rfl) (by kernel_rfl)).trans ?_;rw [fl_57];obtain ⟨x0,x1,x2,x3⟩:=x;obtain ⟨y0,y1,y2,y3⟩:=y;show (Op.eqFields (d + 1) #[.int .i64 (x0),.int .i64 (x1),.int .i64 (x2),.bool (x3)] #[.int .i64 (y0),.int .i64 (y1),.int .i64 (y2),.bool (y3)] _).run _ _=_;have x0p:(part 3 #[.int .i64 (x0),.int .i64 (x1),.int .i64 (x2),.bool (x3)] 0).run Try.prog w=.ok (.int .i64 (x0)) w:=Wv Try.isAgg3 rfl;have x1p:(part 3 #[.int .i64 (x0),.int .i64 (x1),.int .i64 (x2),.bool (x3)] 1).run Try.prog w=.ok (.int .i64 (x1)) w:=Wv Try.isAgg3 rfl;have x2p:(part 3 #[.int .i64 (x0),.int .i64 (x1),.int .i64 (x2),.bool (x3)] 2).run Try.prog w=.ok (.int .i64 (x2)) w:=Wv Try.isAgg3 rfl;have x3p:(part 4 #[.int .i64 (x0),.int .i64 (x1),.int .i64 (x2),.bool (x3)] 3).run Try.prog w=.ok (.bool (x3)) w:=Wv Try.isAgg4 rfl;have y0p:(part 3 #[.int .i64 (y0),.int .i64 (y1),.int .i64 (y2),.bool (y3)] 0).run Try.prog w=.ok (.int .i64 (y0)) w:=Wv Try.isAgg3 rfl;have y1p:(part 3 #[.int .i64 (y0),.int .i64 (y1),.int .i64 (y2),.bool (y3)] 1).run Try.prog w=.ok (.int .i64 (y1)) w:=Wv Try.isAgg3 rfl;have y2p:(part 3 #[.int .i64 (y0),.int .i64 (y1),.int .i64 (y2),.bool (y3)] 2).run Try.prog w=.ok (.int .i64 (y2)) w:=Wv Try.isAgg3 rfl;have y3p:(part 4 #[.int .i64 (y0),.int .i64 (y1),.int .i64 (y2),.bool (y3)] 3).run Try.prog w=.ok (.bool (y3)) w:=Wv Try.isAgg4 rfl;simp only [Op.eqFields,Sem.run_bind,Sem.run_ite,Sem.run_pure,x0p,x1p,x2p,x3p,y0p,y1p,y2p,y3p,Result.andThen_ok,run_equalIn_int _ _ _ _ _ _ _ Try.underlying3,run_equalIn_bool _ _ _ _ _ Try.underlying4];simp;grind
theorem eg_57:Try.prog.eqGuardType Try.prog.depth 57=false:=by kernel_rfl
def f33 (x0:List Int):Option (List Int):=apnd 8 [] x0
theorem en33:Enters Try.prog 33:=enters_of Try.func33 (by kernel_rfl) rfl
def f34 (x0:List Zv):Option (List Zv):=apnd 40 [] x0
theorem en34:Enters Try.prog 34:=enters_of Try.func34 (by kernel_rfl) rfl
theorem atS_0 (a:Addr) (w:World):(Instr.fieldAt 119 (.pointer (some a)) 0).run Try.prog w=.ok (.pointer (some (a.add 0))) w:=by simp [Instr.fieldAt,run_underlying Try.underlying119,Instr.sureAddr,fieldPlace,Result.andThen]
theorem atS_1 (a:Addr) (w:World):(Instr.fieldAt 119 (.pointer (some a)) 1).run Try.prog w=.ok (.pointer (some (a.add 1))) w:=by simp [Instr.fieldAt,run_underlying Try.underlying119,Instr.sureAddr,fieldPlace,Result.andThen]
theorem sb_size:(Try.prog.info? 119).map (·.size)=some 2:=by kernel_rfl
theorem sb_psize:∃ j,Try.prog.info? 119=some j∧j.size=2:=Option.map_eq_some_iff.1 sb_size
theorem en72:Enters Try.prog 72:=enters_of Try.func72 (by kernel_rfl) rfl
theorem Ng {i:Nat} {g:Gh} {w:World} {x:Fv × List UInt8} {b o:Nat} (hb:OB i g w 119 x (.pointer (some ⟨b,o,none⟩))):o=0∧w.shape? b=some (119,2):=by
 obtain ⟨b',cs,hp,_,_,hh,hr⟩:=hb;injection hp with hp; injection hp with hp; injection hp with h1 h2;subst h1; subst h2;have hl:=GoT.len hr;simp [GoT.k] at hl;exact ⟨rfl,by simp [World.shape?,hh,hl]⟩
theorem wk72 {i j : Nat} (hji : Nat.beq j i = false) {g : Gh} {w : World} {a : Fv} {xs : List UInt8} {p : Value} (hb : OB i g w 119 (a, xs) p) (ho : OSF i j 1 g w 5 119 xs p) (ha : a.v = .pointer none ∨ a.v = p) :
  Calls Try.prog 72 #[p] w fun r w'=>∃ v,r=.returned v∧∃ g',Stp i g w g' w'∧∃ a':Fv,a'.v=p∧OB i g' w' 119 (a',xs) p∧OSF i j 1 g' w' 5 119 xs p:=by
 obtain ⟨b,o,rfl⟩:=hb.ptr
 obtain ⟨hoff,hsh⟩:=Ng hb
 subst hoff
 obtain ⟨jt,hj,hjs⟩:=sb_psize
 refine Yc Try.func72 rfl (Nat.le_of_ble_eq_true rfl) ?_
 show E _ 20 none _ _ _ _ _
 refine Zf (Za (Zn (.pointer (some ⟨b,0,none⟩)) rfl rfl ?_))
 refine Zz (.pointer (some ⟨b,0,none⟩)) (Ho rfl) rfl ?_
 refine Zz (Gk (.pointer (some ⟨b,0,none⟩)) 0) (Zc atS_0 rfl ⟨b,0,rfl⟩) rfl ?_
 refine Ze .plain rfl (Wr (g:=g) (a:=(a,xs)) Sub.fst Try.isAgg117 Try.sizeOf117 rfl hb fun v r=>?_)
 obtain rfl:=Ve.1 r
 rcases ha with ha | ha
 ·refine Zz (.bool true) (P_ptreq (u2 := .pointer none) (.inl rfl) (show _ = .pointer none from ha) rfl ⟨_, rfl⟩ ⟨_, rfl⟩ (fun w => by simpa using run_eql_pointer_nil (P := Try.prog) w 117 none Try.underlying117)) rfl ?_
  refine Zb (Zd (Tt rfl (Za ?_)))
  refine Zn (.pointer (some ⟨b,0,none⟩)) rfl rfl ?_
  refine Zn (.pointer (some ⟨b,0,none⟩)) rfl rfl ?_
  refine EL_val (v:=.pointer (some ⟨b,0,none⟩)) (w':=w) .plain (fun _ h=>by cases h) rfl (by
   have:=Lib.run_to_unsafe w ⟨b,0,none⟩ Try.underlying117 Try.underlying169 hj (by rw [hjs]; decide) hsh (by show 0 < 2; omega)
   show (Sem.run _ (execOp _ _) _)=_
   simp only [execOp,Sem.run_bind]
   rw [show ev _ (Operand.tmp 8)=Value.pointer (some ⟨b,0,none⟩) from rfl,this]
   rfl) ?_
  refine Zz (.pointer (some ⟨b,0,none⟩)) (P_extern Try.func89 (by kernel_rfl) (by kernel_rfl) (by kernel_rfl) (ex:=Extern.AbiNoEscape.same) (by kernel_rfl) (.cons rfl .nil) (fun _=>rfl)) rfl ?_
  refine EL_val (v:=.pointer (some ⟨b,0,none⟩)) (w':=w) .plain (fun _ h=>by cases h) rfl (by
   have:=Lib.run_from_unsafe w ⟨b,0,none⟩ Try.underlying169 Try.underlying117 hj hsh (by kernel_rfl)
   show (Sem.run _ (execOp _ _) _)=_
   simp only [execOp,Sem.run_bind]
   rw [show ev _ (Operand.tmp 10)=Value.pointer (some ⟨b,0,none⟩) from rfl,this]
   rfl) ?_
  refine Zz (.pointer (some ⟨b,0,none⟩)) (Ho rfl) rfl ?_
  refine Zz (Gk (.pointer (some ⟨b,0,none⟩)) 0) (Zc atS_0 rfl ⟨b,0,rfl⟩) rfl ?_
  refine Ze .plain rfl (Ko (g:=g) (a:=(a,xs)) (b:=(⟨.pointer (some ⟨b,0,none⟩),rfl⟩:Fv)) Gm.fst Try.sizeOf117 rfl hb rfl (Ve.2 rfl) fun g1 w1 hs b1 rst _=>?_)
  exact Zb (Vg rfl rfl ⟨g1,hs,_,rfl,b1,ho.rest hs rst rfl hji⟩)
 ·refine Zz (.bool false) (P_ptreq (u2 := .pointer none) (.inl rfl) (show _ = .pointer (some ⟨b, 0, none⟩) from ha) rfl ⟨_, rfl⟩ ⟨_, rfl⟩ (fun w => by simpa using run_eql_pointer_nil (P := Try.prog) w 117 (some ⟨b, 0, none⟩) Try.underlying117)) rfl ?_
  refine Zb (Zd (Td rfl ?_))
  refine Zf (Za (Zn (.pointer (some ⟨b,0,none⟩)) rfl rfl ?_))
  refine Zz (.pointer (some ⟨b,0,none⟩)) (Ho rfl) rfl ?_
  refine Zz (Gk (.pointer (some ⟨b,0,none⟩)) 0) (Zc atS_0 rfl ⟨b,0,rfl⟩) rfl ?_
  refine Ze .plain rfl (Wr (g:=g) (a:=(a,xs)) Sub.fst Try.isAgg117 Try.sizeOf117 rfl hb fun v r=>?_)
  obtain rfl:=Ve.1 r
  refine Zn (.pointer (some ⟨b,0,none⟩)) rfl rfl ?_
  refine Zz (.bool false) (P_ptreq (.inr rfl) (show _=.pointer (some ⟨b,0,none⟩) from ha) rfl ⟨_,rfl⟩ ⟨_,rfl⟩ (fun w=>Lib.run_neq_ptr_same w ⟨b,0,none⟩ Try.underlying117 hj)) rfl ?_
  refine Zb (Zd (Td rfl (Zu ?_)))
  exact Vg rfl rfl ⟨g,Ns _ _ _,_,ha,hb,ho⟩
theorem en46:Enters Try.prog 46:=enters_of Try.func46 (by kernel_rfl) rfl
theorem wk46 {i j : Nat} (hji : Nat.beq j i = false) (hij : Nat.beq i j = false) {g : Gh} {w : World} {c : UInt8} {xs r : List UInt8} {p : Value} (hsb : SB i j g w 5 119 xs p) (hr : apnd 1 xs [c] = some r) :
  Calls Try.prog 46 #[p,.int .u8 c.toNat] w fun q w'=>∃ v,q=.returned v∧v=.nilIface∧WB i j g w 5 119 r p w':=by
 obtain ⟨a,hb,ho,ha⟩:=hsb
 obtain ⟨b,o,rfl⟩:=hb.ptr
 obtain ⟨hoff,hsh⟩:=Ng hb
 subst hoff
 refine Yc Try.func46 rfl (Nat.le_of_ble_eq_true rfl) ?_
 show E _ 17 none _ _ _ _ _
 refine Zf (Za (Zg (.nilIface) rfl rfl ?_))
 refine Zb (Zd (Zf (Za (Zn (.pointer (some ⟨b,0,none⟩)) rfl rfl ?_))))
 refine Ze .plain rfl (Av (vs:=[.pointer (some ⟨b,0,none⟩)]) en72 (.cons rfl .nil) (wk72 hji hb ho ha) fun v w1 h1=>?_)
 obtain ⟨g1,hs1,a1,ha1,hb1,ho1⟩:=h1
 refine Zb (Zd (Zf (Za (Zn (.pointer (some ⟨b,0,none⟩)) rfl rfl ?_))))
 refine Zn (.pointer (some ⟨b,0,none⟩)) rfl rfl ?_
 refine Zz (.pointer (some ⟨b,0,none⟩)) (Ho rfl) rfl ?_
 refine Zz (Gk (.pointer (some ⟨b,0,none⟩)) 1) (Zc atS_1 rfl ⟨b,0,rfl⟩) rfl ?_
 refine Ze .plain rfl (Cu (g:=g1) (a:=(a1,xs)) (f:=Prod.snd) Sub.snd Try.isAgg22 Try.sizeOf22 rfl hb1 ho1 fun v2 r2 o2=>?_)
 refine Zn (.int .u8 c.toNat) rfl rfl ?_
 refine Ze .plain rfl (Gl (g:=g1) 1 (xs:=[c]) (vs:=[.int .u8 c.toNat]) Try.underlying22 Try.sizeOf5 Try.zeroValue5 rfl rfl (.cons rfl .nil) (RVs.cons (Eu.2 rfl) RVs.nil) rfl rfl fun g3 w3 v3 _ _ r3 hxt _=>?_)
 refine Ze .plain rfl (Wj (g:=g3) (i:=j) Try.underlying22 info_5 rfl rfl (o2.ext hxt) (r2.ext hxt) rfl r3 hr fun g4 w4 v4 hs4 o4 r4 _=>?_)
 have hb4:=(hb1.ext hxt).stp hs4 hij
 refine Zz (.pointer (some ⟨b,0,none⟩)) (Ho rfl) rfl ?_
 refine Zz (Gk (.pointer (some ⟨b,0,none⟩)) 1) (Zc atS_1 rfl ⟨b,0,rfl⟩) rfl ?_
 refine Ze .plain rfl (Ko (g:=g4) (a:=(a1,xs)) Gm.snd Try.sizeOf22 rfl hb4 rfl r4 fun g5 w5 hs5 b5 _ hos=>?_)
 have o5:=hos _ _ j 5 r (Jh r4) hji o4
 refine Zb (Zd (Zf (Za (Zg (.nilIface) rfl rfl ?_))))
 refine Zb (Zd (Gq (Qq rfl rfl (show _=.nilIface from rfl) ⟨rfl,g5,⟨g1,w1,g4,w4,hs1,(hxt.stp.trans hs4),hs5⟩,a1,b5,o5,.inr ha1⟩)))
theorem en49:Enters Try.prog 49:=enters_of Try.func49 (by kernel_rfl) rfl
theorem mixedS:Try.prog.follows .mixedOrders=true:=by kernel_rfl
theorem wk49 {i j : Nat} (hij : Nat.beq i 0 = false) {g : Gh} {w : World} {xs : List UInt8} {p : Value} (hsb : SB i j g w 5 119 xs p) (h0 : xs ≠ []) :
  Calls Try.prog 49 #[p] w fun q w'=>∃ v,q=.returned v∧GS j g w xs v w':=by
 obtain ⟨a,hb,ho,ha⟩:=hsb
 obtain ⟨b,o,rfl⟩:=hb.ptr
 obtain ⟨hoff,hsh⟩:=Ng hb
 subst hoff
 refine Yc Try.func49 rfl (Nat.le_of_ble_eq_true rfl) ?_
 show E _ 14 none _ _ _ _ _
 refine Zf (Za (Zg (Str.v ⟨[]⟩) rfl rfl ?_))
 refine Zb (Zd (Iq (f:=Prod.snd) (a:=(a,xs)) Sub.snd Try.isAgg22 Try.sizeOf22 hb ho fun v r os hl=>?_))
 obtain ⟨sa,c,rfl,hc,_⟩:=Ht r
 have hne:c ≠ 0:=by
  have : 0 < xs.length := by cases xs with
   | nil=>exact absurd rfl h0
   | cons _ _=>simp
  have hc':xs.length ≤ c:=hc
  omega
 refine Zf (Qu (g:=g) (n:=10) [] [0,1,2,3,4,5,6,7,8,9] rfl mixedS (by kernel_rfl) trivial ?_)
 refine Gc (.pointer (some ⟨b,0,none⟩)) rfl rfl (Zk rfl) ?_
 refine Gc (.pointer (some ⟨b,0,none⟩)) rfl rfl (Ho rfl) ?_
 refine Gc (Gk (.pointer (some ⟨b,0,none⟩)) 1) rfl rfl (Zc atS_1 rfl ⟨b,0,rfl⟩) ?_
 refine Qm (c:=.slice sa xs.length c) rfl rfl .plain (fun _ _ h=>⟨h.ch,fun b hb _=>h.below.block b hb⟩) (hl _) rfl ?_
 refine Gc (.pointer sa) rfl rfl (P_sliceData (a:=sa) (n:=xs.length) (c:=c) rfl (.inl hne)) ?_
 refine Gc (.pointer (some ⟨b,0,none⟩)) rfl rfl (Zk rfl) ?_
 refine Gc (.pointer (some ⟨b,0,none⟩)) rfl rfl (Ho rfl) ?_
 refine Gc (Gk (.pointer (some ⟨b,0,none⟩)) 1) rfl rfl (Zc atS_1 rfl ⟨b,0,rfl⟩) ?_
 refine Qm (c:=.slice sa xs.length c) rfl rfl .plain (fun _ _ h=>⟨h.ch,fun b hb _=>h.below.block b hb⟩) (hl _) rfl ?_
 refine Gc (.int .i64 (xs.length:Int)) rfl rfl (Qv (v:=.slice sa xs.length c) Try.underlying22 rfl r) ?_
 refine Xr fun g1 w1 hall=>?_
 have hs:=hall.1
 refine Ze .plain rfl (Nx (g:=g1) (j:=j) (et:=5) rfl Try.underlying148 (by kernel_rfl) h0 rfl rfl (os.ext hs) (r.ext hs) fun g2 w2 hs2=>?_)
 refine Zg (Str.v ⟨xs⟩) rfl rfl ?_
 exact Zb (Zd (Gq (Qq rfl rfl (show _=Str.v ⟨xs⟩ from rfl) ⟨rfl,g2,hs.stp.trans hs2⟩)))
def f13:Option Bool:=some true
theorem en13:Enters Try.prog 13:=enters_of Try.func13 (by kernel_rfl) rfl
theorem wk13 {gI:Gh} {wI:World} {r:Bool} (h:f13=some r):Fn Try.prog 13 #[] gI wI (fun _ _ v=>v=.bool (r)):=by
 injection h with h;subst h;exact wkK13
def f12 (x0:List Str) (x1:List Str):Option (Bool):=
 jn (σ:=Unit) (fun _=>
  jn (σ:=Unit) (fun _=>
   some (true)
   ) fun k53=>
  lp (σ:=Int) (fun k54 o0=>
   jn (σ:=Unit) (fun _=>
    jn (σ:=Unit) (fun _=>
     k54 ((w64 (o0 + (1:Int))))
     ) fun cD=>
    (idx x0 o0).bind fun n8=>
    (idx x1 o0).bind fun v8=>
    bif (!((n8).b == (v8).b)) then
     some (false)
    else
     cD ()
    ) fun k57=>
   bif (decide (o0 < ((x0).length : Int))) then
    k57 ()
   else
    k53 ()
   ) big ((0:Int))
  ) fun k2=>
 bif (((x0).length : Int) != ((x1).length : Int)) then
  some (false)
 else
  k2 ()
theorem en12:Enters Try.prog 12:=enters_of Try.func12 (by kernel_rfl) rfl
theorem wk12 {gI:Gh} {wI:World} {x0:List Str} {x1:List Str} {up0:Value} (rp0:RV gI.m wI x0 up0) {up1:Value} (rp1:RV gI.m wI x1 up1) {r:Bool} (h:f12 x0 x1=some r):Fn Try.prog 12 #[up0,up1] gI wI (fun _ _ v=>v=.bool (r)):=by
 unfold f12 at h;refine Gz Try.func12 rfl (Nat.le_of_ble_eq_true rfl) fun g0 hm hfr=>?_;have rp0:RV g0.m wI x0 up0:=hm ▸ rp0;have rp1:RV g0.m wI x1 up1:=hm ▸ rp1;show E _ 26 none _ _ _ _ _;refine Zf (Za (Zg (.bool false) rfl rfl ?_));refine Zb (Zd (Zq h (fun (s:Unit) e w=>∃ (g:Gh) ,Fr gI wI g w∧e 0=up0∧RV g.m w (x0:List Str) up0∧e 1=up1∧RV g.m w (x1:List Str) up1) (fun X2 k2 hk2 h=>?_) ?_))
 ·refine Zf (Za (Zn up0 rfl rfl ?_))
  refine Zz (.int .i64 ((x0).length:Int)) (Qv Try.underlying34 rfl rp0) rfl ?_;refine Zn up1 rfl rfl ?_;refine Zz (.int .i64 ((x1).length:Int)) (Qv Try.underlying34 rfl rp1) rfl ?_;refine Gp (.bool ((((x0).length:Int) != ((x1).length:Int)))) rfl rfl rfl rfl ?_;refine Zb (Zd ?_);rcases Zt h with ⟨hc3,h⟩ | ⟨hc3,h⟩
  ·refine Tv hc3 rfl ?_
   refine Zf (Za (Zg (.bool false) rfl rfl ?_));refine Zb (Zd (Gq (Tc ?_)));obtain rfl:=sinj h;exact Qq rfl rfl (show _=.bool false from rfl) ⟨_,hfr,rfl⟩
  ·refine Tu hc3 rfl ?_
   exact Zu (Zd (hk2 () _ _ ⟨g0,hfr,rfl,rp0,rfl,rp1⟩ h))
 ·rintro _ xF w4 ⟨g4, hfr, nD, oD, yD, zD⟩ h
  refine Zq h (fun (s:Unit) e w=>∃ (g:Gh) ,Fr gI wI g w) (fun X53 k53 aE h=>?_) ?_
  ·refine Zf (Za (Zg (.int .i64 (0)) rfl rfl ?_))
   refine Zb (Zd (Zr ?_));refine He h (fun (s:Int) e w=>∃ (g:Gh) ,Fr gI wI g w∧e 0=up0∧RV g.m w (x0:List Str) up0∧e 1=up1∧RV g.m w (x1:List Str) up1∧e 5=.int .i64 (s)) ⟨g4,hfr,nD,oD,yD,zD,rfl⟩ (fun X54 k54 bE=>?_);rintro o0 rF yF ⟨lD,hfr,l9,n9,vC,bD,aB⟩ h;refine Zq h (fun (s:Unit) e w=>∃ (g:Gh) ,Fr gI wI g w∧e 0=up0∧RV g.m w (x0:List Str) up0∧e 1=up1∧RV g.m w (x1:List Str) up1∧e 5=.int .i64 (o0)) (fun X57 k57 iE h=>?_) ?_
   ·refine Zf (Za (Zo aB rfl ?_))
    refine Zo l9 rfl ?_;refine Zz (.int .i64 ((x0).length:Int)) (Qv Try.underlying34 rfl n9) rfl ?_;refine Gp (.bool ((decide (o0 < ((x0).length:Int))))) rfl rfl rfl rfl ?_;refine Zb (Zd ?_);rcases Zt h with ⟨l8,h⟩ | ⟨l8,h⟩
    ·refine Tv l8 rfl ?_
     exact Zu (Zd (iE () _ _ ⟨lD,hfr,l9,n9,vC,bD,aB⟩ h))
    ·refine Tu l8 rfl ?_
     refine Qj ?_;refine Ta ?_;refine Ta ?_;refine Tp ?_;exact Zd (aE () _ _ ⟨lD,hfr⟩ h)
   ·rintro _ sF aG ⟨uE, hfr, lB, l5, mB, t5, i6⟩ h
    refine Zq h (fun (s:Unit) e w=>∃ (g:Gh) ,Fr gI wI g w∧e 0=up0∧RV g.m w (x0:List Str) up0∧e 1=up1∧RV g.m w (x1:List Str) up1∧e 5=.int .i64 (o0)) (fun X81 cD lE h=>?_) ?_
    ·refine Zr ?_
     refine Zf ?_;obtain ⟨n8,nB,h⟩:=Gd h;have vE:=Wp l5 nB;refine Zs (x:=.tmp 19) Try.isAgg9 Try.sizeOf9 vE fun bG xE mE=>?_;obtain rfl:=Jb.1 xE;obtain ⟨v8,oB,h⟩:=Gd h;have yE:=Wp t5 oB;refine Zs (x:=.tmp 23) Try.isAgg9 Try.sizeOf9 yE fun cG zE oE=>?_;obtain rfl:=Jb.1 zE;refine Qu (g:=uE) (n:=9) [] [0,1,2,3,4,5,6,7,8] rfl Wt (by kernel_rfl) trivial ?_;refine Gc up0 rfl rfl (Zk lB) ?_;refine Gc (.int .i64 (o0)) rfl rfl (Zk i6) ?_;refine Gc (We up0 o0 1) rfl rfl (Zh (α:=Str) Try.underlying34 Try.sizeOf9 rfl l5 rfl nB) ?_;refine Qm (c:=Str.v (n8)) rfl rfl .plain (fun _ _ h=>h.ch) mE rfl ?_;refine Gc up1 rfl rfl (Zk mB) ?_;refine Gc (.int .i64 (o0)) rfl rfl (Zk i6) ?_;refine Gc (We up1 o0 1) rfl rfl (Zh (α:=Str) Try.underlying34 Try.sizeOf9 rfl t5 rfl oB) ?_;refine Qm (c:=Str.v (v8)) rfl rfl .plain (fun _ _ h=>h.ch) oE rfl ?_;refine Gc (.bool ((!((n8).b == (v8).b)))) rfl rfl (P_str rfl rfl rfl) ?_;refine Vn fun cF eG hs=>?_;have hfr:=hfr.ext hs;have l5:=l5.ext hs;have t5:=t5.ext hs;clear hs;refine Zb (Zd ?_);rcases Zt h with ⟨g8,h⟩ | ⟨g8,h⟩
     ·refine Tv g8 rfl ?_
      refine Zf (Za (Zg (.bool false) rfl rfl ?_));refine Zb (Zd (Gq (Qh ?_)));refine Tc ?_;refine Tc ?_;refine Qh ?_;refine Tc ?_;obtain rfl:=sinj h;exact Qq rfl rfl (show _=.bool false from rfl) ⟨_,hfr,rfl⟩
     ·refine Tu g8 rfl ?_
      exact Zu (To (Zd (lE () _ _ ⟨cF,hfr,lB,l5,mB,t5,i6⟩ h)))
    ·rintro _ dF tF ⟨rE, hfr, vB, yB, zB, cC, uC⟩ h
     refine Za (Zo uC rfl ?_);refine Gp (.int .i64 ((w64 (o0 + (1:Int))))) rfl rfl rfl rfl ?_;refine Zg (.int .i64 ((w64 (o0 + (1:Int))))) rfl rfl ?_;exact Zb (Zd (bE ((w64 (o0 + (1:Int)))) _ _ ⟨rE,hfr,vB,yB,zB,cC,rfl⟩ h))
  ·rintro _ eF uF ⟨vF, hfr⟩ h
   refine Zf (Za (Zg (.bool true) rfl rfl ?_));refine Zb (Zd (Gq ?_));obtain rfl:=sinj h;exact Qq rfl rfl (show _=.bool true from rfl) ⟨_,hfr,rfl⟩
def f16 (x0:Jo):Option (TieHarness):=
 (Hy (((x0).Hooks).toNat:Int) (12:Int)).bind fun y5=>
 Option.bind (α:=TieHarness) (
  lp (σ:=TieHarness × Int) (fun rF (t5,o0)=>
   jn (σ:=Unit) (fun _=>
    Option.bind (α:=TieHarness) (
     Option.bind (α:=Int) (
      bif (decide (o0 < (((x0).Warps).length : Int))) then
       (idx ((x0).Warps) o0).bind fun aE=>
       (Hy ((aE).toNat:Int) (t5).Hooks).bind fun bE=>
       some (bE)
      else
       some ((0:Int))
      ) fun mB=>
     (apnd 8 ((t5).Warps) (([mB]:List Int))).bind fun zE=>
     some ({ t5 with Warps:=zE })
     ) fun nB=>
    rF (nB,(w64 (o0 + (1:Int))))
    ) fun sF=>
   Option.bind (α:=Bool) (
    bif (o0 == (0 : Int)) then
     some (true)
    else
     bif (decide (o0 < (((x0).Warps).length : Int))) then
      some ((decide (o0 < (30:Int))))
     else
      some (false)
    ) fun l9=>
   bif l9 then
    sF ()
   else
    some (t5)
   ) big ((⟨(w64 ((1:Int) + y5)),[]⟩:TieHarness),(0:Int))
  ) fun vB=>
 some (vB)
theorem en16:Enters Try.prog 16:=enters_of Try.func16 (by kernel_rfl) rfl
theorem wk16 {gI:Gh} {wI:World} {x0:Jo} {up0:Value} (rp0:RV gI.m wI x0 up0) {r:TieHarness} (h:f16 x0=some r):Fn Try.prog 16 #[up0] gI wI (fun m w v=>RV m w (r) v):=by
 unfold f16 at h;refine Gz Try.func16 rfl (Nat.le_of_ble_eq_true rfl) fun g0 hm hfr=>?_;have rp0:RV g0.m wI x0 up0:=hm ▸ rp0;show E _ 48 none _ _ _ _ _;refine Zf (Za (Ze .plain rfl (Tx (g:=g0) rfl rp0 fun g1 w1 p1 hs q1=>?_)));have hfr:=hfr.ext hs;refine Ze .plain rfl (Tj (g:=g1) 2002 (⟨0,[]⟩:TieHarness) Try.zeroValue28 (fun m w=>⟨_,(Gw Zx Wk),rfl⟩) fun g2 w2 p2 hs b2 cb=>?_);have hfr:=hfr.stp hs;have q1:=q1.stp hs;have vC:OSF 2002 60201 1 g2 w2 3 28 ([]:List Int) p2:=cb.osf (by rfl);clear cb;refine Zb (Zd (Zf (Za (Zz (Gk p1 0) (Zc at_25_0 rfl (PT.ptr q1)) rfl ?_))));have q3:=Zm (Pw).1 q1;refine Ze .plain rfl (Gj (g:=g2) Try.isAgg5 Try.sizeOf5 rfl q3 fun v4 r4=>?_);obtain rfl:=Eu.1 r4;refine Zz (.int .i64 ((((x0).Hooks).toNat:Int))) (Ap Try.underlying5 Try.underlying3 rfl) rfl ?_;obtain ⟨y5,hy5,h⟩:=Gd h;refine Zz (.int .i64 (y5)) (Te rfl rfl (congrArg (Option.map (Value.int .i64)) hy5)) rfl ?_;refine Gp (.int .i64 ((w64 ((1:Int) + y5)))) rfl rfl rfl rfl ?_;have r6:RV g2.m w2 (⟨(w64 ((1:Int) + y5)),[]⟩:TieHarness) (.agg (Gy [[.int .i64 0],[.slice none 0 0]] [(0,.int .i64 ((w64 ((1:Int) + y5))))]).flatten.toArray):=Th rfl (Gu (rfl) (Tl (Wk)));generalize uH:(Value.agg (Gy [[.int .i64 0],[.slice none 0 0]] [(0,.int .i64 ((w64 ((1:Int) + y5))))]).flatten.toArray)=v6 at r6;refine Zz v6 (uH ▸ Qb (vs:=[(0,.int .i64 ((w64 ((1:Int) + y5))))]) [[.int .i64 0],[.slice none 0 0]] lay_28 rfl rfl (.cons rfl .nil) ⟨⟨_,rfl,rfl⟩,trivial⟩) rfl ?_;refine Ze .plain rfl (Tj (g:=g2) 2003 (⟨0,[]⟩:TieHarness) Try.zeroValue28 (fun m w=>⟨_,(Gw Zx Wk),rfl⟩) fun g7 w7 p7 hs b7 cb=>?_);have hfr:=hfr.stp hs;have q1:=q1.stp hs;have vC:=vC.stp hs rfl;have b2:=b2.stp hs rfl;have r6:=r6.stp hs;have rJ:OSF 2003 60301 1 g7 w7 3 28 ([]:List Int) p7:=cb.osf (by rfl);clear cb;refine Ze .plain rfl (Gr (g:=g7) (v:=v6) Try.sizeOf28 rfl b7 rfl r6 fun g8 w8 hs b8 cb=>?_);have xH:OSF 2003 60301 1 g8 w8 3 28 ([]:List Int) p7:=cb.osf (by rw [← uH]; rfl);clear cb;have hfr:=hfr.stp hs;have q1:=q1.stp hs;have vC:=vC.stp hs rfl;have b2:=b2.stp hs rfl;refine Zb (Zd ?_);obtain ⟨vB,hx,h⟩:=Gd h;refine Gx (fun e w=>∃ (g:Gh) ,Fr gI wI g w∧e 2=p2∧OB 2002 g w 28 ((⟨0,[]⟩:TieHarness):TieHarness) p2∧OSF 2002 60201 1 g w 3 28 (((⟨0,[]⟩:TieHarness)).Warps) p2∧e 3=p7∧OB 2003 g w 28 (vB:TieHarness) p7∧OSF 2003 60301 1 g w 3 28 ((vB).Warps) p7) (fun Q' hQ=>?_) (fun lJ sJ hR=>?_)
 ·replace h := hx
  clear hx;refine Zf (Za (Zg (.int .i64 (0)) rfl rfl ?_));refine Zb (Zd (Zr ?_));refine He h (fun (s:TieHarness × Int) e w=>∃ (g:Gh) ,Fr gI wI g w∧e 1=p1∧PT g.m w (x0:Jo) p1∧e 2=p2∧OB 2002 g w 28 ((⟨0,[]⟩:TieHarness):TieHarness) p2∧OSF 2002 60201 1 g w 3 28 (((⟨0,[]⟩:TieHarness)).Warps) p2∧e 3=p7∧OB 2003 g w 28 (s.1:TieHarness) p7∧OSF 2003 60301 1 g w 3 28 ((s.1).Warps) p7∧e 4=.int .i64 (s.2)) ⟨g8,hfr,rfl,q1,rfl,b2,vC,rfl,b8,xH,rfl⟩ (fun X175 rF lH=>?_);rintro ⟨t5,o0⟩ mJ vJ ⟨iE,hfr,yB,oB,bD,cD,u2_1_176,lD,nD,u3_1_176,n9⟩ h;refine Zq h (fun (s:Unit) e w=>∃ (g:Gh) ,Fr gI wI g w∧e 1=p1∧PT g.m w (x0:Jo) p1∧e 2=p2∧OB 2002 g w 28 ((⟨0,[]⟩:TieHarness):TieHarness) p2∧OSF 2002 60201 1 g w 3 28 (((⟨0,[]⟩:TieHarness)).Warps) p2∧e 3=p7∧OB 2003 g w 28 (t5:TieHarness) p7∧OSF 2003 60301 1 g w 3 28 ((t5).Warps) p7∧e 4=.int .i64 (o0)) (fun X187 sF mH h=>?_) ?_
  ·obtain ⟨l9, hx, h⟩ := Gd h
   refine Gx (fun e w=>∃ (g:Gh) ,Fr gI wI g w∧e 1=p1∧PT g.m w (x0:Jo) p1∧e 2=p2∧OB 2002 g w 28 ((⟨0,[]⟩:TieHarness):TieHarness) p2∧OSF 2002 60201 1 g w 3 28 (((⟨0,[]⟩:TieHarness)).Warps) p2∧e 3=p7∧OB 2003 g w 28 (t5:TieHarness) p7∧OSF 2003 60301 1 g w 3 28 ((t5).Warps) p7∧e 4=.int .i64 (o0)∧e 24=.bool (l9)) (fun Q' hQ=>?_) (fun nJ xJ hR=>?_)
   ·replace h := hx
    clear hx;refine Za (Zo n9 rfl ?_);refine Gp (.bool ((o0 == (0:Int)))) rfl rfl rfl rfl ?_;refine Zn (.bool ((o0 == (0:Int)))) rfl rfl ?_;rcases Zt h with ⟨l5,h⟩ | ⟨l5,h⟩
    ·refine Gb rfl rfl l5 rfl rfl ?_
     iterate 5 refine Gb rfl rfl l5 rfl rfl ?_
     refine Su (.off rfl rfl) rfl ?_;refine Su (.off rfl rfl) rfl ?_;refine Gb rfl rfl l5 rfl rfl ?_;refine Zz (.bool true) (Zl (b:=(o0 == (0:Int))) rfl (Qn l5 rfl)) rfl ?_;refine Zb ?_;obtain rfl:=sinj h;exact hQ _ _ ⟨iE,hfr,yB,oB,bD,cD,u2_1_176,lD,nD,u3_1_176,n9,rfl⟩
    ·refine Ga (.int .i64 (o0)) (Zk n9) rfl rfl l5 rfl ?_
     refine Ga (Gk p1 1) (Zc at_25_1 yB (PT.ptr oB)) rfl rfl l5 rfl ?_;have yH:=Zm (Bx).1 oB;refine Ze (.yes2 rfl rfl l5) rfl (Gj (g:=iE) Try.isAgg22 Try.sizeOf22 rfl yH fun zJ zH=>?_);refine Ga (.int .i64 (((x0).Warps).length:Int)) (Qv Try.underlying22 rfl zH) rfl rfl l5 rfl ?_;refine Ga (.bool ((decide (o0 < (((x0).Warps).length:Int))))) (Te rfl rfl rfl) rfl rfl l5 rfl ?_;refine Ga (.bool ((decide (o0 < (((x0).Warps).length:Int))))) (Zk rfl) rfl rfl l5 rfl ?_;rcases Zt h with ⟨lB,h⟩ | ⟨lB,h⟩
     ·refine Ga (.int .i64 (o0)) (Zk n9) rfl rfl lB rfl ?_
      refine Ga (.bool ((decide (o0 < (30:Int))))) (Te rfl rfl rfl) rfl rfl lB rfl ?_;refine Ga (.bool ((decide (o0 < (30:Int))))) (Zl (b:=(decide (o0 < (((x0).Warps).length:Int)))) rfl (Qn lB rfl)) rfl rfl l5 rfl ?_;refine Zz (.bool ((decide (o0 < (30:Int))))) (Zl (b:=(o0 == (0:Int))) rfl (Tw l5 rfl)) rfl ?_;refine Zb ?_;obtain rfl:=sinj h;exact hQ _ _ ⟨iE,hfr,yB,oB,bD,cD,u2_1_176,lD,nD,u3_1_176,n9,rfl⟩
     ·refine Gb rfl rfl lB rfl rfl ?_
      refine Gb rfl rfl lB rfl rfl ?_;refine Ga (.bool false) (Zl (b:=(decide (o0 < (((x0).Warps).length:Int)))) rfl (Tw lB rfl)) rfl rfl l5 rfl ?_;refine Zz (.bool false) (Zl (b:=(o0 == (0:Int))) rfl (Tw l5 rfl)) rfl ?_;refine Zb ?_;obtain rfl:=sinj h;exact hQ _ _ ⟨iE,hfr,yB,oB,bD,cD,u2_1_176,lD,nD,u3_1_176,n9,rfl⟩
   ·clear hx
    obtain ⟨tF,hfr,uF,vF,oE,rE,u2_1_196,uE,vE,u3_1_196,xF,zD⟩:=hR;rcases Zt h with ⟨lE,h⟩ | ⟨lE,h⟩
    ·refine Tt (Eq.trans (show ev _ _ = .bool (l9) from zD) (congrArg Value.bool lE)) ?_
     exact Zu (Zd (mH () _ _ ⟨tF,hfr,uF,vF,oE,rE,u2_1_196,uE,vE,u3_1_196,xF⟩ h))
    ·refine Td (Eq.trans (show ev _ _ = .bool (l9) from zD) (congrArg Value.bool lE)) ?_
     refine Qj ?_;refine Ta ?_;refine Ta ?_;refine Tp ?_;obtain rfl:=sinj h;exact hQ _ _ ⟨tF,hfr,oE,rE,u2_1_196,uE,vE,u3_1_196⟩
  ·rintro _ oJ aK ⟨cF, hfr, zB, i6, xE, cC, u2_1_198, oD, aB, u3_1_198, uC⟩ h
   obtain ⟨nB,hx,h⟩:=Gd h;refine Gx (fun e w=>∃ (g:Gh) ,Fr gI wI g w∧e 1=p1∧PT g.m w (x0:Jo) p1∧e 2=p2∧OB 2002 g w 28 ((⟨0,[]⟩:TieHarness):TieHarness) p2∧OSF 2002 60201 1 g w 3 28 (((⟨0,[]⟩:TieHarness)).Warps) p2∧e 3=p7∧OB 2003 g w 28 (nB:TieHarness) p7∧OSF 2003 60301 1 g w 3 28 ((nB).Warps) p7∧e 4=.int .i64 (o0)) (fun Q' hQ=>?_) (fun pJ bK hR=>?_)
   ·replace h := hx
    clear hx;refine Zr ?_;refine Zf (Za (Zg (.int .i64 (0)) rfl rfl ?_));refine Zb (Zd ?_);obtain ⟨mB,hx,h⟩:=Gd h;refine Gx (fun e w=>∃ (g:Gh) ,Fr gI wI g w∧e 1=p1∧PT g.m w (x0:Jo) p1∧e 2=p2∧OB 2002 g w 28 ((⟨0,[]⟩:TieHarness):TieHarness) p2∧OSF 2002 60201 1 g w 3 28 (((⟨0,[]⟩:TieHarness)).Warps) p2∧e 3=p7∧OB 2003 g w 28 (t5:TieHarness) p7∧OSF 2003 60301 1 g w 3 28 ((t5).Warps) p7∧e 4=.int .i64 (o0)∧e 5=.int .i64 (mB)) (fun Q' hQ=>?_) (fun qJ cK hR=>?_)
    ·replace h := hx
     clear hx;refine Zf (Za (Zo uC rfl ?_));refine Zz (Gk p1 1) (Zc at_25_1 zB (PT.ptr i6)) rfl ?_;have aI:=Zm (Bx).1 i6;refine Ze .plain rfl (Gj (g:=cF) Try.isAgg22 Try.sizeOf22 rfl aI fun dK bI=>?_);refine Zz (.int .i64 (((x0).Warps).length:Int)) (Qv Try.underlying22 rfl bI) rfl ?_;refine Zz (.bool ((decide (o0 < (((x0).Warps).length:Int))))) (Te rfl rfl rfl) rfl ?_;refine Zb (Zd ?_);rcases Zt h with ⟨mE,h⟩ | ⟨mE,h⟩
     ·refine Tv mE rfl ?_
      have dI:=Zm (Bx).1 i6;refine Zs (x:=.tmp 32) Try.isAgg22 Try.sizeOf22 dI fun yF aG nH=>?_;obtain ⟨aE,eF,h⟩:=Gd h;have iI:=Wp aG eF;refine Zs (x:=.tmp 35) Try.isAgg5 Try.sizeOf5 iI fun lK jI oH=>?_;obtain rfl:=Eu.1 jI;refine Ue (x:=.tmp 38) Wo.1 Try.isAgg3 Try.sizeOf3 aB fun mK kI pH=>?_;obtain rfl:=Zj.1 kI;obtain ⟨bE,qH,h⟩:=Gd h;refine Qu (g:=cF) (n:=10) [] [0,1,2,3,4,5,6,7,8,9] rfl Wt (by kernel_rfl) trivial ?_;refine Gc (Gk p1 1) rfl rfl (Zc at_25_1 zB (PT.ptr i6)) ?_;refine Qm (c:=yF) rfl rfl .plain (fun _ _ h=>h.ch) nH rfl ?_;refine Gc (.int .i64 (o0)) rfl rfl (Zk uC) ?_;refine Gc (We yF o0 1) rfl rfl (Zh (α:=UInt8) Try.underlying22 Try.sizeOf5 rfl aG rfl eF) ?_;refine Qm (c:=.int .u8 (UInt8.toNat (aE))) rfl rfl .plain (fun _ _ h=>h.ch) oH rfl ?_;refine Gc (.int .i64 (((aE).toNat:Int))) rfl rfl (Ap Try.underlying5 Try.underlying3 rfl) ?_;refine Gc (Gk p7 0) rfl rfl (Zc Dj oD (OB.ptr aB)) ?_;refine Qm (c:=.int .i64 ((t5).Hooks)) rfl rfl .plain (fun _ _ h=>⟨h.ch,fun b hb _=>h.below.block b hb⟩) pH rfl ?_;refine Gc (.int .i64 (bE)) rfl rfl (Te rfl rfl (congrArg (Option.map (Value.int .i64)) qH)) ?_;refine Gc (.int .i64 (bE)) rfl rfl (Wd rfl) ?_;refine Vn fun lI nK hs=>?_;have hfr:=hfr.ext hs;have i6:=i6.ext hs;have u2_1_198:=u2_1_198.ext hs;have cC:=cC.ext hs;have u3_1_198:=u3_1_198.ext hs;have aB:=aB.ext hs;clear hs;refine Zb ?_;obtain rfl:=sinj h;exact hQ _ _ ⟨lI,hfr,zB,i6,xE,cC,u2_1_198,oD,aB,u3_1_198,uC,rfl⟩
     ·refine Tu mE rfl ?_
      refine Zu ?_;obtain rfl:=sinj h;exact hQ _ _ ⟨cF,hfr,zB,i6,xE,cC,u2_1_198,oD,aB,u3_1_198,uC,rfl⟩
    ·clear hx
     obtain ⟨bG,hfr,cG,n8,eG,v8,u2_1_331,yD,l8,u3_1_331,gG,iG⟩:=hR;refine Za (Zz (Gk p7 1) (Zc Kx yD (OB.ptr l8)) rfl ?_);refine Ze .plain rfl (Cu (g:=bG) Tn.1 Try.isAgg26 Try.sizeOf26 rfl l8 u3_1_331 fun oK dF o333=>?_);refine Zo iG rfl ?_;refine Ze .plain rfl (Gl (g:=bG) 3044 (xs:=([mB]:List Int)) (vs:=[.int .i64 (mB)]) Try.underlying26 Try.sizeOf3 Try.zeroValue3 rfl rfl (.cons rfl .nil) (RVs.cons (Zj.2 rfl) RVs.nil) rfl rfl fun mI pK qK hs o334 nI hxt hfl=>?_);have hfr:=hfr.stp hs;have n8:=n8.stp hs;have u2_1_331:=u2_1_331.stp hs rfl;have v8:=v8.stp hs rfl;have l8:=l8.stp hs rfl;have dF:=dF.stp hs;have o333:=o333.stp hs rfl;obtain ⟨zE,sH,h⟩:=Gd h;refine Ze .plain rfl (Wj (g:=mI) (i:=60301) Try.underlying26 Vr rfl rfl o333 dF rfl nI sH fun pI sK tK hs o335 jG _=>?_);have hfr:=hfr.stp hs;have n8:=n8.stp hs;have u2_1_331:=u2_1_331.stp hs rfl;have v8:=v8.stp hs rfl;have l8:=l8.stp hs rfl;refine Zz (Gk p7 1) (Zc Kx yD (OB.ptr l8)) rfl ?_;refine Ze .plain rfl (Ko (g:=pI) Tn Try.sizeOf26 rfl l8 rfl jG fun qI uK hs b338 rst hos=>?_);have kG:=hos _ _ 60301 3 (zE:List Int) (Jh jG) rfl o335;clear rst hos;have hfr:=hfr.stp hs;have n8:=n8.stp hs;have u2_1_331:=u2_1_331.stp hs rfl;have v8:=v8.stp hs rfl;refine Zb (To ?_);obtain rfl:=sinj h;exact hQ _ _ ⟨qI,hfr,cG,n8,eG,v8,u2_1_331,yD,b338,kG,gG⟩
   ·clear hx
    obtain ⟨sI,hfr,lG,mG,sG,xG,u2_1_339,yG,zG,u3_1_339,aH⟩:=hR;refine Za (Zo aH rfl ?_);refine Gp (.int .i64 ((w64 (o0 + (1:Int))))) rfl rfl rfl rfl ?_;refine Zg (.int .i64 ((w64 (o0 + (1:Int))))) rfl rfl ?_;exact Zb (Zd (lH (nB,(w64 (o0 + (1:Int)))) _ _ ⟨sI,hfr,lG,mG,sG,xG,u2_1_339,yG,zG,u3_1_339,rfl⟩ h))
 ·clear hx
  obtain ⟨cH,hfr,yE,gH,u2_1_340,jH,kH,u3_1_340⟩:=hR;refine Zf (Za (Ze .plain rfl (Wg (g:=cH) Try.isAgg28 Try.sizeOf28 jH kH fun jJ kJ=>?_)));refine Ze .plain rfl (Gr (g:=cH) (v:=jJ) Try.sizeOf28 yE gH rfl kJ fun vK xK hs b342 cb=>?_);clear cb;have hfr:=hfr.stp hs;refine Zb (Zd (Gq ?_));obtain rfl:=sinj h;obtain ⟨ad343,cv343,hp343,tH,cr343⟩:=Qs Try.isAgg28 Try.sizeOf28 b342;exact Ry rfl rfl ((show _=p2 from yE).trans hp343) tH ⟨_,hfr,cr343⟩
def f17 (x0:Jo):Option (Design):=
 (Hy (((x0).Hooks).toNat:Int) (12:Int)).bind fun y5=>
 Option.bind (α:=Design) (
  lp (σ:=Design × Int) (fun mH (i6,o0)=>
   jn (σ:=Unit) (fun _=>
    Option.bind (α:=Design) (
     Option.bind (α:=Int) (
      bif (decide (o0 < (((x0).Rows).length : Int))) then
       (idx ((x0).Rows) o0).bind fun cD=>
       some (((cD).toNat:Int))
      else
       some ((21:Int))
      ) fun v8=>
     (Hj (1:Int) ((Qo (i6).Hooks))).bind fun y161=>
     (apnd 8 ((i6).Rows) (([(Tf .and v8 (w64 (y161 - (1:Int))))]:List Int))).bind fun yE=>
     some ({ i6 with Rows:=yE })
     ) fun lB=>
    mH (lB,(w64 (o0 + (1:Int))))
    ) fun rF=>
   Option.bind (α:=Bool) (
    bif (o0 == (0 : Int)) then
     some (true)
    else
     bif (decide (o0 < (((x0).Rows).length : Int))) then
      some ((decide (o0 < (10:Int))))
     else
      some (false)
    ) fun l9=>
   bif l9 then
    rF ()
   else
    some (i6)
   ) big ((⟨(w64 ((1:Int) + y5)),[]⟩:Design),(0:Int))
  ) fun nB=>
 some (nB)
theorem en17:Enters Try.prog 17:=enters_of Try.func17 (by kernel_rfl) rfl
theorem wk17 {gI:Gh} {wI:World} {x0:Jo} {up0:Value} (rp0:RV gI.m wI x0 up0) {r:Design} (h:f17 x0=some r):Fn Try.prog 17 #[up0] gI wI (fun m w v=>RV m w (r) v):=by
 unfold f17 at h;refine Gz Try.func17 rfl (Nat.le_of_ble_eq_true rfl) fun g0 hm hfr=>?_;have rp0:RV g0.m wI x0 up0:=hm ▸ rp0;show E _ 51 none _ _ _ _ _;refine Zf (Za (Ze .plain rfl (Tx (g:=g0) rfl rp0 fun g1 w1 p1 hs q1=>?_)));have hfr:=hfr.ext hs;refine Ze .plain rfl (Tj (g:=g1) 2002 (⟨0,[]⟩:Design) Try.zeroValue30 (fun m w=>⟨_,(Gw Zx Wk),rfl⟩) fun g2 w2 p2 hs b2 cb=>?_);have hfr:=hfr.stp hs;have q1:=q1.stp hs;have uC:OSF 2002 60201 1 g2 w2 3 30 ([]:List Int) p2:=cb.osf (by rfl);clear cb;refine Zb (Zd (Zf (Za (Zz (Gk p1 0) (Zc at_25_0 rfl (PT.ptr q1)) rfl ?_))));have q3:=Zm (Pw).1 q1;refine Ze .plain rfl (Gj (g:=g2) Try.isAgg5 Try.sizeOf5 rfl q3 fun v4 r4=>?_);obtain rfl:=Eu.1 r4;refine Zz (.int .i64 ((((x0).Hooks).toNat:Int))) (Ap Try.underlying5 Try.underlying3 rfl) rfl ?_;obtain ⟨y5,hy5,h⟩:=Gd h;refine Zz (.int .i64 (y5)) (Te rfl rfl (congrArg (Option.map (Value.int .i64)) hy5)) rfl ?_;refine Gp (.int .i64 ((w64 ((1:Int) + y5)))) rfl rfl rfl rfl ?_;have r6:RV g2.m w2 (⟨(w64 ((1:Int) + y5)),[]⟩:Design) (.agg (Gy [[.int .i64 0],[.slice none 0 0]] [(0,.int .i64 ((w64 ((1:Int) + y5))))]).flatten.toArray):=Th rfl (Gu (rfl) (Tl (Wk)));generalize nH:(Value.agg (Gy [[.int .i64 0],[.slice none 0 0]] [(0,.int .i64 ((w64 ((1:Int) + y5))))]).flatten.toArray)=v6 at r6;refine Zz v6 (nH ▸ Qb (vs:=[(0,.int .i64 ((w64 ((1:Int) + y5))))]) [[.int .i64 0],[.slice none 0 0]] Lr rfl rfl (.cons rfl .nil) ⟨⟨_,rfl,rfl⟩,trivial⟩) rfl ?_;refine Ze .plain rfl (Tj (g:=g2) 2003 (⟨0,[]⟩:Design) Try.zeroValue30 (fun m w=>⟨_,(Gw Zx Wk),rfl⟩) fun g7 w7 p7 hs b7 cb=>?_);have hfr:=hfr.stp hs;have q1:=q1.stp hs;have uC:=uC.stp hs rfl;have b2:=b2.stp hs rfl;have r6:=r6.stp hs;have lJ:OSF 2003 60301 1 g7 w7 3 30 ([]:List Int) p7:=cb.osf (by rfl);clear cb;refine Ze .plain rfl (Gr (g:=g7) (v:=v6) Try.sizeOf30 rfl b7 rfl r6 fun g8 w8 hs b8 cb=>?_);have oH:OSF 2003 60301 1 g8 w8 3 30 ([]:List Int) p7:=cb.osf (by rw [← nH]; rfl);clear cb;have hfr:=hfr.stp hs;have q1:=q1.stp hs;have uC:=uC.stp hs rfl;have b2:=b2.stp hs rfl;refine Zb (Zd ?_);obtain ⟨nB,hx,h⟩:=Gd h;refine Gx (fun e w=>∃ (g:Gh) ,Fr gI wI g w∧e 2=p2∧OB 2002 g w 30 ((⟨0,[]⟩:Design):Design) p2∧OSF 2002 60201 1 g w 3 30 (((⟨0,[]⟩:Design)).Rows) p2∧e 3=p7∧OB 2003 g w 30 (nB:Design) p7∧OSF 2003 60301 1 g w 3 30 ((nB).Rows) p7) (fun Q' hQ=>?_) (fun pI mJ hR=>?_)
 ·replace h := hx
  clear hx;refine Zf (Za (Zg (.int .i64 (0)) rfl rfl ?_));refine Zb (Zd (Zr ?_));refine He h (fun (s:Design × Int) e w=>∃ (g:Gh) ,Fr gI wI g w∧e 1=p1∧PT g.m w (x0:Jo) p1∧e 2=p2∧OB 2002 g w 30 ((⟨0,[]⟩:Design):Design) p2∧OSF 2002 60201 1 g w 3 30 (((⟨0,[]⟩:Design)).Rows) p2∧e 3=p7∧OB 2003 g w 30 (s.1:Design) p7∧OSF 2003 60301 1 g w 3 30 ((s.1).Rows) p7∧e 4=.int .i64 (s.2)) ⟨g8,hfr,rfl,q1,rfl,b2,uC,rfl,b8,oH,rfl⟩ (fun X89 mH pH=>?_);rintro ⟨i6,o0⟩ nJ pK ⟨dF,hfr,cC,oB,lD,nD,u2_1_90,oD,yD,u3_1_90,mB⟩ h;refine Zq h (fun (s:Unit) e w=>∃ (g:Gh) ,Fr gI wI g w∧e 1=p1∧PT g.m w (x0:Jo) p1∧e 2=p2∧OB 2002 g w 30 ((⟨0,[]⟩:Design):Design) p2∧OSF 2002 60201 1 g w 3 30 (((⟨0,[]⟩:Design)).Rows) p2∧e 3=p7∧OB 2003 g w 30 (i6:Design) p7∧OSF 2003 60301 1 g w 3 30 ((i6).Rows) p7∧e 4=.int .i64 (o0)) (fun X101 rF gH h=>?_) ?_
  ·obtain ⟨l9, hx, h⟩ := Gd h
   refine Gx (fun e w=>∃ (g:Gh) ,Fr gI wI g w∧e 1=p1∧PT g.m w (x0:Jo) p1∧e 2=p2∧OB 2002 g w 30 ((⟨0,[]⟩:Design):Design) p2∧OSF 2002 60201 1 g w 3 30 (((⟨0,[]⟩:Design)).Rows) p2∧e 3=p7∧OB 2003 g w 30 (i6:Design) p7∧OSF 2003 60301 1 g w 3 30 ((i6).Rows) p7∧e 4=.int .i64 (o0)∧e 24=.bool (l9)) (fun Q' hQ=>?_) (fun qI oJ hR=>?_)
   ·replace h := hx
    clear hx;refine Za (Zo mB rfl ?_);refine Gp (.bool ((o0 == (0:Int)))) rfl rfl rfl rfl ?_;refine Zn (.bool ((o0 == (0:Int)))) rfl rfl ?_;rcases Zt h with ⟨l5,h⟩ | ⟨l5,h⟩
    ·refine Gb rfl rfl l5 rfl rfl ?_
     iterate 5 refine Gb rfl rfl l5 rfl rfl ?_
     refine Su (.off rfl rfl) rfl ?_;refine Su (.off rfl rfl) rfl ?_;refine Gb rfl rfl l5 rfl rfl ?_;refine Zz (.bool true) (Zl (b:=(o0 == (0:Int))) rfl (Qn l5 rfl)) rfl ?_;refine Zb ?_;obtain rfl:=sinj h;exact hQ _ _ ⟨dF,hfr,cC,oB,lD,nD,u2_1_90,oD,yD,u3_1_90,mB,rfl⟩
    ·refine Ga (.int .i64 (o0)) (Zk mB) rfl rfl l5 rfl ?_
     refine Ga (Gk p1 2) (Zc at_25_2 cC (PT.ptr oB)) rfl rfl l5 rfl ?_;have qH:=Zm (Bp).1 oB;refine Ze (.yes2 rfl rfl l5) rfl (Gj (g:=dF) Try.isAgg23 Try.sizeOf23 rfl qH fun pJ sH=>?_);refine Ga (.int .i64 (((x0).Rows).length:Int)) (Qv Try.underlying23 rfl sH) rfl rfl l5 rfl ?_;refine Ga (.bool ((decide (o0 < (((x0).Rows).length:Int))))) (Te rfl rfl rfl) rfl rfl l5 rfl ?_;refine Ga (.bool ((decide (o0 < (((x0).Rows).length:Int))))) (Zk rfl) rfl rfl l5 rfl ?_;rcases Zt h with ⟨aB,h⟩ | ⟨aB,h⟩
     ·refine Ga (.int .i64 (o0)) (Zk mB) rfl rfl aB rfl ?_
      refine Ga (.bool ((decide (o0 < (10:Int))))) (Te rfl rfl rfl) rfl rfl aB rfl ?_;refine Ga (.bool ((decide (o0 < (10:Int))))) (Zl (b:=(decide (o0 < (((x0).Rows).length:Int)))) rfl (Qn aB rfl)) rfl rfl l5 rfl ?_;refine Zz (.bool ((decide (o0 < (10:Int))))) (Zl (b:=(o0 == (0:Int))) rfl (Tw l5 rfl)) rfl ?_;refine Zb ?_;obtain rfl:=sinj h;exact hQ _ _ ⟨dF,hfr,cC,oB,lD,nD,u2_1_90,oD,yD,u3_1_90,mB,rfl⟩
     ·refine Gb rfl rfl aB rfl rfl ?_
      refine Gb rfl rfl aB rfl rfl ?_;refine Ga (.bool false) (Zl (b:=(decide (o0 < (((x0).Rows).length:Int)))) rfl (Tw aB rfl)) rfl rfl l5 rfl ?_;refine Zz (.bool false) (Zl (b:=(o0 == (0:Int))) rfl (Tw l5 rfl)) rfl ?_;refine Zb ?_;obtain rfl:=sinj h;exact hQ _ _ ⟨dF,hfr,cC,oB,lD,nD,u2_1_90,oD,yD,u3_1_90,mB,rfl⟩
   ·clear hx
    obtain ⟨sF,hfr,tF,uF,bE,iE,u2_1_110,lE,mE,u3_1_110,vF,bD⟩:=hR;rcases Zt h with ⟨zD,h⟩ | ⟨zD,h⟩
    ·refine Tt (Eq.trans (show ev _ _ = .bool (l9) from bD) (congrArg Value.bool zD)) ?_
     exact Zu (Zd (gH () _ _ ⟨sF,hfr,tF,uF,bE,iE,u2_1_110,lE,mE,u3_1_110,vF⟩ h))
    ·refine Td (Eq.trans (show ev _ _ = .bool (l9) from bD) (congrArg Value.bool zD)) ?_
     refine Qj ?_;refine Ta ?_;refine Ta ?_;refine Tp ?_;obtain rfl:=sinj h;exact hQ _ _ ⟨sF,hfr,bE,iE,u2_1_110,lE,mE,u3_1_110⟩
  ·rintro _ sI qJ ⟨vC, hfr, vB, n9, oE, rE, u2_1_112, uE, vE, u3_1_112, yB⟩ h
   obtain ⟨lB,hx,h⟩:=Gd h;refine Gx (fun e w=>∃ (g:Gh) ,Fr gI wI g w∧e 1=p1∧PT g.m w (x0:Jo) p1∧e 2=p2∧OB 2002 g w 30 ((⟨0,[]⟩:Design):Design) p2∧OSF 2002 60201 1 g w 3 30 (((⟨0,[]⟩:Design)).Rows) p2∧e 3=p7∧OB 2003 g w 30 (lB:Design) p7∧OSF 2003 60301 1 g w 3 30 ((lB).Rows) p7∧e 4=.int .i64 (o0)) (fun Q' hQ=>?_) (fun jJ rJ hR=>?_)
   ·replace h := hx
    clear hx;refine Zr ?_;refine Zf (Za (Zg (.int .i64 (21)) rfl rfl ?_));refine Zb (Zd ?_);obtain ⟨v8,hx,h⟩:=Gd h;refine Gx (fun e w=>∃ (g:Gh) ,Fr gI wI g w∧e 1=p1∧PT g.m w (x0:Jo) p1∧e 2=p2∧OB 2002 g w 30 ((⟨0,[]⟩:Design):Design) p2∧OSF 2002 60201 1 g w 3 30 (((⟨0,[]⟩:Design)).Rows) p2∧e 3=p7∧OB 2003 g w 30 (i6:Design) p7∧OSF 2003 60301 1 g w 3 30 ((i6).Rows) p7∧e 4=.int .i64 (o0)∧e 5=.int .i64 (v8)) (fun Q' hQ=>?_) (fun kJ sJ hR=>?_)
    ·replace h := hx
     clear hx;refine Zf (Za (Zo yB rfl ?_));refine Zz (Gk p1 2) (Zc at_25_2 vB (PT.ptr n9)) rfl ?_;have tH:=Zm (Bp).1 n9;refine Ze .plain rfl (Gj (g:=vC) Try.isAgg23 Try.sizeOf23 rfl tH fun vJ uH=>?_);refine Zz (.int .i64 (((x0).Rows).length:Int)) (Qv Try.underlying23 rfl uH) rfl ?_;refine Zz (.bool ((decide (o0 < (((x0).Rows).length:Int))))) (Te rfl rfl rfl) rfl ?_;refine Zb (Zd ?_);rcases Zt h with ⟨aE,h⟩ | ⟨aE,h⟩
     ·refine Tv aE rfl ?_
      refine Za (Zz (Gk p1 2) (Zc at_25_2 vB (PT.ptr n9)) rfl ?_);have xH:=Zm (Bp).1 n9;refine Ze .plain rfl (Gj (g:=vC) Try.isAgg23 Try.sizeOf23 rfl xH fun yH xF=>?_);refine Zo yB rfl ?_;obtain ⟨cD,eF,h⟩:=Gd h;refine Zz (We yH o0 1) (Zh (α:=UInt16) Try.underlying23 Try.sizeOf97 rfl xF rfl eF) rfl ?_;have zH:=Wp xF eF;refine Ze .plain rfl (Gj (g:=vC) Try.isAgg97 Try.sizeOf97 rfl zH fun xJ aI=>?_);obtain rfl:=RV_u16.1 aI;refine Zz (.int .i64 (((cD).toNat:Int))) (P_u16int Try.underlying97 Try.underlying3 rfl) rfl ?_;refine Zg (.int .i64 (((cD).toNat:Int))) rfl rfl ?_;refine Zb ?_;obtain rfl:=sinj h;exact hQ _ _ ⟨vC,hfr,vB,n9,oE,rE,u2_1_112,uE,vE,u3_1_112,yB,rfl⟩
     ·refine Tu aE rfl ?_
      refine Zu ?_;obtain rfl:=sinj h;exact hQ _ _ ⟨vC,hfr,vB,n9,oE,rE,u2_1_112,uE,vE,u3_1_112,yB,rfl⟩
    ·clear hx
     obtain ⟨zE,hfr,yF,l8,aG,n8,u2_1_156,zB,t5,u3_1_156,bG,cG⟩:=hR;refine Za (Zz (Gk p7 1) (Zc Kk zB (OB.ptr t5)) rfl ?_);refine Ze .plain rfl (Cu (g:=zE) Qg.1 Try.isAgg26 Try.sizeOf26 rfl t5 u3_1_156 fun zJ cF o158=>?_);refine Zo cG rfl ?_;refine Zz (Gk p7 0) (Zc Hs zB (OB.ptr t5)) rfl ?_;refine Ze .plain rfl (Wr (g:=zE) Ql.1 Try.isAgg3 Try.sizeOf3 rfl t5 fun aK bI=>?_);obtain rfl:=Zj.1 bI;refine Zz (.int .u64 (Qo (i6).Hooks)) (Bk Try.underlying3 Try.underlying44 rfl) rfl ?_;obtain ⟨y161,jH,h⟩:=Gd h;refine Zz (.int .i64 (y161)) (P_shlu rfl rfl jH) rfl ?_;refine Gp (.int .i64 ((w64 (y161 - (1:Int))))) rfl rfl rfl rfl ?_;refine Gp (.int .i64 ((Tf .and v8 (w64 (y161 - (1:Int)))))) rfl rfl rfl rfl ?_;refine Ze .plain rfl (Gl (g:=zE) 3047 (xs:=([(Tf .and v8 (w64 (y161 - (1:Int))))]:List Int)) (vs:=[.int .i64 ((Tf .and v8 (w64 (y161 - (1:Int)))))]) Try.underlying26 Try.sizeOf3 Try.zeroValue3 rfl rfl (.cons rfl .nil) (RVs.cons (Zj.2 rfl) RVs.nil) rfl rfl fun dI bK cK hs o162 iI hxt hfl=>?_);have hfr:=hfr.stp hs;have l8:=l8.stp hs;have u2_1_156:=u2_1_156.stp hs rfl;have n8:=n8.stp hs rfl;have t5:=t5.stp hs rfl;have cF:=cF.stp hs;have o158:=o158.stp hs rfl;obtain ⟨yE,kH,h⟩:=Gd h;refine Ze .plain rfl (Wj (g:=dI) (i:=60301) Try.underlying26 Vr rfl rfl o158 cF rfl iI kH fun jI dK lK hs o163 eG _=>?_);have hfr:=hfr.stp hs;have l8:=l8.stp hs;have u2_1_156:=u2_1_156.stp hs rfl;have n8:=n8.stp hs rfl;have t5:=t5.stp hs rfl;refine Zz (Gk p7 1) (Zc Kk zB (OB.ptr t5)) rfl ?_;refine Ze .plain rfl (Ko (g:=jI) Qg Try.sizeOf26 rfl t5 rfl eG fun kI mK hs b166 rst hos=>?_);have gG:=hos _ _ 60301 3 (yE:List Int) (Jh eG) rfl o163;clear rst hos;have hfr:=hfr.stp hs;have l8:=l8.stp hs;have u2_1_156:=u2_1_156.stp hs rfl;have n8:=n8.stp hs rfl;refine Zb (To ?_);obtain rfl:=sinj h;exact hQ _ _ ⟨kI,hfr,yF,l8,aG,n8,u2_1_156,zB,b166,gG,bG⟩
   ·clear hx
    obtain ⟨lI,hfr,iG,jG,kG,lG,u2_1_167,mG,sG,u3_1_167,xG⟩:=hR;refine Za (Zo xG rfl ?_);refine Gp (.int .i64 ((w64 (o0 + (1:Int))))) rfl rfl rfl rfl ?_;refine Zg (.int .i64 ((w64 (o0 + (1:Int))))) rfl rfl ?_;exact Zb (Zd (pH (lB,(w64 (o0 + (1:Int)))) _ _ ⟨lI,hfr,iG,jG,kG,lG,u2_1_167,mG,sG,u3_1_167,rfl⟩ h))
 ·clear hx
  obtain ⟨yG,hfr,xE,zG,u2_1_168,aH,cH,u3_1_168⟩:=hR;refine Zf (Za (Ze .plain rfl (Wg (g:=yG) Try.isAgg30 Try.sizeOf30 aH cH fun mI nI=>?_)));refine Ze .plain rfl (Gr (g:=yG) (v:=mI) Try.sizeOf30 xE zG rfl nI fun nK oK hs b170 cb=>?_);clear cb;have hfr:=hfr.stp hs;refine Zb (Zd (Gq ?_));obtain rfl:=sinj h;obtain ⟨ad171,cv171,hp171,lH,cr171⟩:=Qs Try.isAgg30 Try.sizeOf30 b170;exact Ry rfl rfl ((show _=p2 from xE).trans hp171) lH ⟨_,hfr,cr171⟩
theorem v33_0 {iO:Nat} {gI:Gh} {wI:World} {x0:List Int} {up0:Value} (rp0:RV gI.m wI x0 up0) {r:List Int} (h:f33 x0=some r):FnG Try.prog 33 #[up0] gI wI (fun g w v=>OM iO g w 3 r v):=by
 unfold f33 at h;refine Vy Try.func33 rfl (Nat.le_of_ble_eq_true rfl) fun g0 hm hfr=>?_;have rp0:RV g0.m wI x0 up0:=hm ▸ rp0;show E _ 8 none _ _ _ _ _;refine Zf (Za (Zg (.slice none 0 0) rfl rfl (Zb (Zd ?_))));refine Zf (Zf (Za (Zn up0 rfl rfl ?_)));obtain ⟨a,c,hv,hc,hrow⟩:=Ht rp0;refine Zz (.bool a.isNone) (P_slnil Try.underlying26 (show ev _ _=_ from hv)) rfl (Zb (Zd ?_))
 cases a with
 | none=>
  have hx:x0=[]:=by
   cases x0 with
   | nil=>rfl
   | cons y ys=>obtain ⟨b,off,hb,_⟩:=hrow (by simp); cases hb
  subst hx
  have hr:r=[]:=by unfold apnd at h; split at h <;> simp at h; exact h
  subst hr;refine Tt rfl (Zf (Za ?_));refine Zg (.slice none 0 0) rfl rfl (Zb (Zd ?_));obtain ⟨gh,hxh,homh⟩:=OM.handn (i:=iO) (t:=3) (α:=Int) hfr; exact Gq (Tc (Qq rfl rfl (show _=.slice none 0 0 from rfl) ⟨gh,hxh,homh⟩))
 | some a=>
  refine Td rfl (Zu (Zd ?_));refine Zf (Za (Ze .plain rfl (Gl (g:=g0) 1 (xs:=([]:List Int)) (vs:=[]) Try.underlying26 Try.sizeOf3 Try.zeroValue3 rfl rfl .nil RVs.nil rfl rfl fun g1 w1 v1 hs o1 r1 hxt hfl=>?_)));have hfr:=hfr.stp hs;have rp0:=rp0.stp hs;refine Zn up0 rfl rfl ?_;refine Ze .plain rfl (Wj (g:=g1) (i:=1) Try.underlying26 Vr rfl rfl o1 r1 rfl rp0 h fun g2 w2 v2 hs o2 r2 _=>?_);have hfr:=hfr.stp hs;refine Zg v2 rfl rfl (Zb (Zd ?_));obtain ⟨gh,hxh,homh⟩:=OM.hand (i:=iO) Yl hfr o2 r2; exact Gq (Qq rfl rfl (show _=v2 from rfl) ⟨gh,hxh,homh⟩)
def f20 (x0:List Int):Option ((List Int)):=
 (apnd 8 (([]:List Int)) x0).bind fun y3=>
 some (y3)
theorem en20:Enters Try.prog 20:=enters_of Try.func20 (by kernel_rfl) rfl
theorem wk20 {gI:Gh} {wI:World} {x0:List Int} {up0:Value} (rp0:RV gI.m wI x0 up0) {r:(List Int)} (h:f20 x0=some r):Fn Try.prog 20 #[up0] gI wI (fun m w v=>RV m w (r) v):=by
 unfold f20 at h;refine Gz Try.func20 rfl (Nat.le_of_ble_eq_true rfl) fun g0 hm hfr=>?_;have rp0:RV g0.m wI x0 up0:=hm ▸ rp0;show E _ 6 none _ _ _ _ _;refine Zf (Za (Zg (.slice none 0 0) rfl rfl ?_));refine Zb (Zd (Zf (Za (Ze .plain rfl (Gl (g:=g0) 3003 (xs:=([]:List Int)) (vs:=[]) Try.underlying26 Try.sizeOf3 Try.zeroValue3 rfl rfl .nil RVs.nil rfl rfl fun g1 w1 v1 hs o1 r1 hxt hfl=>?_)))));have hfr:=hfr.stp hs;have rp0:=rp0.stp hs;refine Zn up0 rfl rfl ?_;obtain ⟨y3,hy3,h⟩:=Gd h;refine Ze .plain rfl (Wj (g:=g1) (i:=3003) Try.underlying26 Vr rfl rfl o1 r1 rfl rp0 hy3 fun g2 w2 v2 hs o2 r2 _=>?_);have hfr:=hfr.stp hs;refine Zg v2 rfl rfl ?_;refine Zb (Zd (Gq ?_));obtain rfl:=sinj h;exact Qq rfl rfl (show _=v2 from rfl) ⟨_,hfr,r2⟩
def f37 (x0:Int):Option (Int):=
 jn (σ:=Unit) (fun _=>
  some ((0:Int))
  ) fun k3=>
 bif (x0 == (2 : Int)) then
  some ((1:Int))
 else
  bif (x0 == (5 : Int)) then
   some ((2:Int))
  else
   k3 ()
theorem en37:Enters Try.prog 37:=enters_of Try.func37 (by kernel_rfl) rfl
theorem wk37 {gI:Gh} {wI:World} {x0:Int}  {r:Int} (h:f37 x0=some r):Fn Try.prog 37 #[.int .i64 (x0)] gI wI (fun _ _ v=>v=.int .i64 (r)):=by
 unfold f37 at h;refine Gz Try.func37 rfl (Nat.le_of_ble_eq_true rfl) fun g0 hm hfr=>?_;show E _ 8 none _ _ _ _ _;refine Zf (Za (Zg (.int .i64 (0)) rfl rfl ?_));refine Zb (Zd (Zq h (fun (s:Unit) e w=>∃ (g:Gh) ,Fr gI wI g w) (fun X3 k3 hk3 h=>?_) ?_))
 ·refine Zf (Za (Zn (.int .i64 (x0)) rfl rfl ?_))
  refine Zb (Zd (Zr ?_));refine Zf (Za (Gp (.bool ((x0 == (2:Int)))) rfl rfl rfl rfl ?_));refine Zg (.bool ((x0 == (2:Int)))) rfl rfl ?_;refine Zb (Zd ?_);rcases Zt h with ⟨hc4,h⟩ | ⟨hc4,h⟩
  ·refine Tv hc4 rfl ?_
   refine Zf (Za (Zg (.int .i64 (1)) rfl rfl ?_));refine Zb (Zd (Gq (Qh ?_)));refine Tc ?_;obtain rfl:=sinj h;exact Qq rfl rfl (show _=.int .i64 (1) from rfl) ⟨_,hfr,rfl⟩
  ·refine Tu hc4 rfl ?_
   refine Zf (Za (Gp (.bool ((x0 == (5:Int)))) rfl rfl rfl rfl ?_));refine Zg (.bool ((x0 == (5:Int)))) rfl rfl ?_;refine Zb (Zd ?_);rcases Zt h with ⟨hc5,h⟩ | ⟨hc5,h⟩
   ·refine Tv hc5 rfl ?_
    refine Zf (Za (Zg (.int .i64 (2)) rfl rfl ?_));refine Zb (Zd (Gq (Qh ?_)));refine Tc ?_;obtain rfl:=sinj h;exact Qq rfl rfl (show _=.int .i64 (2) from rfl) ⟨_,hfr,rfl⟩
   ·refine Tu hc5 rfl ?_
    exact Zu (To (Zd (hk3 () _ _ ⟨g0,hfr⟩ h)))
 ·rintro _ o0 w6 ⟨g6, hfr⟩ h
  refine Zf (Za (Zg (.int .i64 (0)) rfl rfl ?_));refine Zb (Zd (Gq ?_));obtain rfl:=sinj h;exact Qq rfl rfl (show _=.int .i64 (0) from rfl) ⟨_,hfr,rfl⟩
def f40 (x0:Int) (z0:Int) (z1:Int):Option (Bool):=
 Option.bind (α:=Bool) (
  bif (decide (x0 < z0)) then
   some (true)
  else
   some ((decide (x0 > z1)))
  ) fun o0=>
 some (o0)
theorem en40:Enters Try.prog 40:=enters_of Try.func40 (by kernel_rfl) rfl
theorem wk40 {gI:Gh} {wI:World} {x0:Int} {z0:Int} {z1:Int} {pf0:Value} (qf0:PT gI.m wI z0 pf0) {pf1:Value} (qf1:PT gI.m wI z1 pf1) {r:Bool} (h:f40 x0 z0 z1=some r):Fn Try.prog 40 #[.int .i64 (x0),pf0,pf1] gI wI (fun _ _ v=>v=.bool (r)):=by
 unfold f40 at h;refine Gz Try.func40 rfl (Nat.le_of_ble_eq_true rfl) fun g0 hm hfr=>?_;have qf0:PT g0.m wI z0 pf0:=hm ▸ qf0;have qf1:PT g0.m wI z1 pf1:=hm ▸ qf1;show E _ 13 none _ _ _ _ _;refine Zf (Za (Zg (.bool false) rfl rfl ?_));refine Zb (Zd ?_);obtain ⟨o0,hx,h⟩:=Gd h;refine Gx (fun e w=>∃ (g:Gh) ,Fr gI wI g w∧e 4=.bool (o0)) (fun Q' hQ=>?_) (fun t5 w7 hR=>?_)
 ·replace h := hx
  clear hx;refine Za (Zn (.int .i64 (x0)) rfl rfl ?_);refine Ze .plain rfl (Gj (g:=g0) Try.isAgg3 Try.sizeOf3 rfl qf0 fun v4 r4=>?_);obtain rfl:=Zj.1 r4;refine Gp (.bool ((decide (x0 < z0)))) rfl rfl rfl rfl ?_;refine Zn (.bool ((decide (x0 < z0)))) rfl rfl ?_;rcases Zt h with ⟨hc5,h⟩ | ⟨hc5,h⟩
  ·refine Gb rfl rfl hc5 rfl rfl ?_
   refine Gb rfl rfl hc5 rfl rfl ?_;refine Gb rfl rfl hc5 rfl rfl ?_;refine Zz (.bool true) (Zl (b:=(decide (x0 < z0))) rfl (Qn hc5 rfl)) rfl ?_;refine Zg (.bool true) rfl rfl ?_;refine Zb ?_;obtain rfl:=sinj h;exact hQ _ _ ⟨g0,hfr,rfl⟩
  ·refine Ga (.int .i64 (x0)) (Zk rfl) rfl rfl hc5 rfl ?_
   refine Ze (.yes2 rfl rfl hc5) rfl (Gj (g:=g0) Try.isAgg3 Try.sizeOf3 rfl qf1 fun v6 r6=>?_);obtain rfl:=Zj.1 r6;refine Ga (.bool ((decide (x0 > z1)))) (Te rfl rfl rfl) rfl rfl hc5 rfl ?_;refine Zz (.bool ((decide (x0 > z1)))) (Zl (b:=(decide (x0 < z0))) rfl (Tw hc5 rfl)) rfl ?_;refine Zg (.bool ((decide (x0 > z1)))) rfl rfl ?_;refine Zb ?_;obtain rfl:=sinj h;exact hQ _ _ ⟨g0,hfr,rfl⟩
 ·clear hx
  obtain ⟨g7,hfr,l5⟩:=hR;refine Gq ?_;obtain rfl:=sinj h;exact Qq rfl rfl (show _=.bool (o0) from l5) ⟨_,hfr,rfl⟩
def f41 (x0:Wi) (x1:Int):Option ((List Bool)):=
 Option.bind (α:=(List Bool)) (
  lp (σ:=(List Bool) × Int) (fun bE (v8,o0)=>
   bif (decide (o0 < ((x0).Design).Hooks)) then
    Option.bind (α:=(List Bool)) (
     (idx (((x0).Design).Rows) x1).bind fun iE=>
     (Ys iE o0).bind fun n8=>
     (apnd 1 v8 (([((Tf .and n8 (1:Int)) == (1:Int))]:List Bool))).bind fun lE=>
     some (lE)
     ) fun t5=>
    bE (t5,(w64 (o0 + (1:Int))))
   else
    some (v8)
   ) big ([],(0:Int))
  ) fun i6=>
 some (i6)
theorem en41:Enters Try.prog 41:=enters_of Try.func41 (by kernel_rfl) rfl
theorem wk41 {gI:Gh} {wI:World} {x0:Wi} {x1:Int} {up0:Value} (rp0:RV gI.m wI x0 up0) {r:(List Bool)} (h:f41 x0 x1=some r):Fn Try.prog 41 #[up0,.int .i64 (x1)] gI wI (fun m w v=>RV m w (r) v):=by
 unfold f41 at h;refine Gz Try.func41 rfl (Nat.le_of_ble_eq_true rfl) fun g0 hm hfr=>?_;have rp0:RV g0.m wI x0 up0:=hm ▸ rp0;show E _ 27 none _ _ _ _ _;refine Zf (Za (Ze .plain rfl (Tx (g:=g0) rfl rp0 fun g1 w1 p1 hs q1=>?_)));have hfr:=hfr.ext hs;refine Zg (.slice none 0 0) rfl rfl ?_;refine Zb (Zd ?_);obtain ⟨i6,hx,h⟩:=Gd h;refine Gx (fun e w=>∃ (g:Gh) (v4:Value),Fr gI wI g w∧e 4=v4∧RV g.m w (i6:List Bool) v4∧OS 1004 g w 4 (i6:List Bool) v4) (fun Q' hQ=>?_) (fun bG gG hR=>?_)
 ·replace h := hx
  clear hx;refine Zf (Za (Zz (Gk p1 0) (Zc Lb rfl (PT.ptr q1)) rfl ?_));have mE:=Zm (Kv).1 q1;refine Zz (Gk (Gk p1 0) 0) (Zc Hs rfl (PT.ptr mE)) rfl ?_;have zE:=Zm (Ql).1 mE;refine Ze .plain rfl (Gj (g:=g1) Try.isAgg3 Try.sizeOf3 rfl zE fun iG cF=>?_);obtain rfl:=Zj.1 cF;refine Zn (.int .i64 (0)) rfl rfl ?_;refine Zb (Zd (Zr ?_));refine He h (fun (s:(List Bool) × Int) e w=>∃ (g:Gh) (v4:Value),Fr gI wI g w∧e 1=.int .i64 (x1)∧e 2=p1∧PT g.m w (x0:Wi) p1∧e 4=v4∧RV g.m w (s.1:List Bool) v4∧OS 1004 g w 4 (s.1:List Bool) v4∧e 8=.int .i64 (((x0).Design).Hooks)∧e 9=.int .i64 (s.2)) ⟨g1,(.slice none 0 0),hfr,rfl,rfl,q1,rfl,Kg,OS.nil,rfl,rfl⟩ (fun X32 bE vE=>?_);rintro ⟨v8,o0⟩ cG jG ⟨aB,zB,hfr,lB,mB,l5,nB,g8,l8,oB,l9⟩ h;refine Zf (Za (Gp (.bool ((decide (o0 < ((x0).Design).Hooks)))) l9 oB rfl rfl ?_));refine Zb (Zd (Zf ?_));rcases Zt h with ⟨n9,h⟩ | ⟨n9,h⟩
  ·refine Tv n9 rfl ?_
   refine Zu (Zd ?_);obtain ⟨t5,hx,h⟩:=Gd h;refine Gx (fun e w=>∃ (g:Gh) (v4:Value),Fr gI wI g w∧e 1=.int .i64 (x1)∧e 2=p1∧PT g.m w (x0:Wi) p1∧e 4=v4∧RV g.m w (t5:List Bool) v4∧OS 1004 g w 4 (t5:List Bool) v4∧e 8=.int .i64 (((x0).Design).Hooks)∧e 9=.int .i64 (o0)) (fun Q' hQ=>?_) (fun eG kG hR=>?_)
   ·replace h := hx
    clear hx;refine Zr ?_;refine Zf (Za (Zo l9 rfl ?_));refine Zg (.int .i64 (o0)) rfl rfl ?_;refine Zb (Zd (Za (Zo nB rfl ?_)));refine Zz (Gk p1 0) (Zc Lb mB (PT.ptr l5)) rfl ?_;have oE:=Zm (Kv).1 l5;refine Zz (Gk (Gk p1 0) 1) (Zc Kk rfl (PT.ptr oE)) rfl ?_;have dF:=Zm (Qg).1 oE;refine Ze .plain rfl (Gj (g:=aB) Try.isAgg26 Try.sizeOf26 rfl dF fun eF rE=>?_);refine Zo lB rfl ?_;obtain ⟨iE,yB,h⟩:=Gd h;refine Zz (We eF x1 1) (Zh (α:=Int) Try.underlying26 Try.sizeOf3 rfl rE rfl yB) rfl ?_;have rF:=Wp rE yB;refine Ze .plain rfl (Gj (g:=aB) Try.isAgg3 Try.sizeOf3 rfl rF fun lG sF=>?_);obtain rfl:=Zj.1 sF;refine Zn (.int .i64 (o0)) rfl rfl ?_;obtain ⟨n8,xE,h⟩:=Gd h;refine Zz (.int .i64 (n8)) (Te rfl rfl (congrArg (Option.map (Value.int .i64)) xE)) rfl ?_;refine Gp (.int .i64 ((Tf .and n8 (1:Int)))) rfl rfl rfl rfl ?_;refine Gp (.bool (((Tf .and n8 (1:Int)) == (1:Int)))) rfl rfl rfl rfl ?_;refine Ze .plain rfl (Gl (g:=aB) 3023 (xs:=([((Tf .and n8 (1:Int)) == (1:Int))]:List Bool)) (vs:=[.bool (((Tf .and n8 (1:Int)) == (1:Int)))]) Try.underlying114 Try.sizeOf4 Try.zeroValue4 rfl rfl (.cons rfl .nil) (RVs.cons (Wc.2 rfl) RVs.nil) rfl rfl fun tF mG sG hs o52 uF hxt hfl=>?_);have hfr:=hfr.stp hs;have l5:=l5.stp hs;have g8:=g8.stp hs;have l8:=l8.stp hs rfl;obtain ⟨lE,yE,h⟩:=Gd h;refine Ze .plain rfl (Wj (g:=tF) (i:=1004) Try.underlying114 info_4 rfl rfl l8 g8 rfl uF yE fun vF xG uE hs o53 xF _=>?_);have hfr:=hfr.stp hs;have l5:=l5.stp hs;refine Zg uE rfl rfl ?_;refine Zb (To ?_);obtain rfl:=sinj h;exact hQ _ _ ⟨vF,(uE),hfr,lB,mB,l5,rfl,xF,o53,oB,l9⟩
   ·clear hx
    obtain ⟨yF,cC,hfr,uC,vC,bD,cD,lD,nD,oD,yD⟩:=hR;refine Za (Gp (.int .i64 ((w64 (o0 + (1:Int))))) yD rfl rfl rfl ?_);refine Zn (.int .i64 ((w64 (o0 + (1:Int))))) rfl rfl ?_;exact Zb (Zd (vE (t5,(w64 (o0 + (1:Int)))) _ _ ⟨yF,(cC),hfr,uC,vC,bD,cD,lD,nD,oD,rfl⟩ h))
  ·refine Tu n9 rfl ?_
   refine Qj ?_;refine Ta ?_;refine Ta ?_;refine Tp ?_;obtain rfl:=sinj h;exact hQ _ _ ⟨aB,(zB),hfr,nB,g8,l8⟩
 ·clear hx
  obtain ⟨yG,vB,hfr,zD,aE,aG⟩:=hR;refine Zf (Za (Zo zD rfl ?_));refine Zg vB rfl rfl ?_;refine Zb (Zd (Gq ?_));obtain rfl:=sinj h;exact Qq rfl rfl (show _=vB from rfl) ⟨_,hfr,aE⟩
def f42 (x0:Wi) (x1:Int):Option ((List Bool)):=
 Option.bind (α:=(List Bool)) (
  lp (σ:=(List Bool) × Int) (fun lE (l9,o0)=>
   bif (decide (o0 < ((((x0).Design).Rows).length : Int))) then
    Option.bind (α:=(List Bool)) (
     (idx (((x0).Design).Rows) o0).bind fun mB=>
     (Ys mB x1).bind fun n8=>
     (apnd 1 l9 (([((Tf .and n8 (1:Int)) == (1:Int))]:List Bool))).bind fun mE=>
     some (mE)
     ) fun t5=>
    lE (t5,(w64 (o0 + (1:Int))))
   else
    some (l9)
   ) big ([],(0:Int))
  ) fun i6=>
 some (i6)
theorem en42:Enters Try.prog 42:=enters_of Try.func42 (by kernel_rfl) rfl
theorem wk42 {gI:Gh} {wI:World} {x0:Wi} {x1:Int} {up0:Value} (rp0:RV gI.m wI x0 up0) {r:(List Bool)} (h:f42 x0 x1=some r):Fn Try.prog 42 #[up0,.int .i64 (x1)] gI wI (fun m w v=>RV m w (r) v):=by
 unfold f42 at h;refine Gz Try.func42 rfl (Nat.le_of_ble_eq_true rfl) fun g0 hm hfr=>?_;have rp0:RV g0.m wI x0 up0:=hm ▸ rp0;show E _ 25 none _ _ _ _ _;refine Zf (Za (Ze .plain rfl (Tx (g:=g0) rfl rp0 fun g1 w1 p1 hs q1=>?_)));have hfr:=hfr.ext hs;refine Zg (.slice none 0 0) rfl rfl ?_;refine Zb (Zd ?_);obtain ⟨i6,hx,h⟩:=Gd h;refine Gx (fun e w=>∃ (g:Gh) (v4:Value),Fr gI wI g w∧e 4=v4∧RV g.m w (i6:List Bool) v4∧OS 1004 g w 4 (i6:List Bool) v4) (fun Q' hQ=>?_) (fun xF bG hR=>?_)
 ·replace h := hx
  clear hx;refine Zf (Za (Zz (Gk p1 0) (Zc Lb rfl (PT.ptr q1)) rfl ?_));have oE:=Zm (Kv).1 q1;refine Zz (Gk (Gk p1 0) 1) (Zc Kk rfl (PT.ptr oE)) rfl ?_;have zE:=Zm (Qg).1 oE;refine Ze .plain rfl (Gj (g:=g1) Try.isAgg26 Try.sizeOf26 rfl zE fun n9 rE=>?_);refine Zz (.int .i64 ((((x0).Design).Rows).length:Int)) (Qv Try.underlying26 rfl rE) rfl ?_;refine Zn (.int .i64 (0)) rfl rfl ?_;refine Zb (Zd (Zr ?_));refine He h (fun (s:(List Bool) × Int) e w=>∃ (g:Gh) (v4:Value),Fr gI wI g w∧e 1=.int .i64 (x1)∧e 4=v4∧RV g.m w (s.1:List Bool) v4∧OS 1004 g w 4 (s.1:List Bool) v4∧e 9=n9∧RV g.m w (((x0).Design).Rows:List Int) n9∧e 10=.int .i64 (((((x0).Design).Rows).length:Int))∧e 11=.int .i64 (s.2)) ⟨g1,(.slice none 0 0),hfr,rfl,rfl,Kg,OS.nil,rfl,rE,rfl,rfl⟩ (fun X26 lE vE=>?_);rintro ⟨l9,o0⟩ yF cG ⟨zB,bD,hfr,nB,oB,g8,l8,vB,l5,aB,v8⟩ h;refine Zf (Za (Zz (.bool ((decide (o0 < ((((x0).Design).Rows).length:Int))))) (Te v8 aB rfl) rfl ?_));refine Zb (Zd (Zf ?_));rcases Zt h with ⟨lB,h⟩ | ⟨lB,h⟩
  ·refine Tv lB rfl ?_
   refine Zu (Zd ?_);obtain ⟨t5,hx,h⟩:=Gd h;refine Gx (fun e w=>∃ (g:Gh) (v4:Value),Fr gI wI g w∧e 1=.int .i64 (x1)∧e 4=v4∧RV g.m w (t5:List Bool) v4∧OS 1004 g w 4 (t5:List Bool) v4∧e 9=n9∧RV g.m w (((x0).Design).Rows:List Int) n9∧e 10=.int .i64 (((((x0).Design).Rows).length:Int))∧e 11=.int .i64 (o0)) (fun Q' hQ=>?_) (fun aG eG hR=>?_)
   ·replace h := hx
    clear hx;refine Zr ?_;refine Zf (Za ?_);obtain ⟨mB,cC,h⟩:=Gd h;refine Zz (We n9 o0 1) (Zh (α:=Int) Try.underlying26 Try.sizeOf3 vB l5 v8 cC) rfl ?_;have cF:=Wp l5 cC;refine Ze .plain rfl (Gj (g:=zB) Try.isAgg3 Try.sizeOf3 rfl cF fun gG dF=>?_);obtain rfl:=Zj.1 dF;refine Zg (.int .i64 (mB)) rfl rfl ?_;refine Zb (Zd (Za (Zo oB rfl ?_)));refine Zn (.int .i64 (mB)) rfl rfl ?_;refine Zo nB rfl ?_;obtain ⟨n8,xE,h⟩:=Gd h;refine Zz (.int .i64 (n8)) (Te rfl rfl (congrArg (Option.map (Value.int .i64)) xE)) rfl ?_;refine Gp (.int .i64 ((Tf .and n8 (1:Int)))) rfl rfl rfl rfl ?_;refine Gp (.bool (((Tf .and n8 (1:Int)) == (1:Int)))) rfl rfl rfl rfl ?_;refine Ze .plain rfl (Gl (g:=zB) 3021 (xs:=([((Tf .and n8 (1:Int)) == (1:Int))]:List Bool)) (vs:=[.bool (((Tf .and n8 (1:Int)) == (1:Int)))]) Try.underlying114 Try.sizeOf4 Try.zeroValue4 rfl rfl (.cons rfl .nil) (RVs.cons (Wc.2 rfl) RVs.nil) rfl rfl fun eF iG jG hs o40 rF hxt hfl=>?_);have hfr:=hfr.stp hs;have g8:=g8.stp hs;have l8:=l8.stp hs rfl;have l5:=l5.stp hs;obtain ⟨mE,yE,h⟩:=Gd h;refine Ze .plain rfl (Wj (g:=eF) (i:=1004) Try.underlying114 info_4 rfl rfl l8 g8 rfl rF yE fun sF kG uE hs o41 tF _=>?_);have hfr:=hfr.stp hs;have l5:=l5.stp hs;refine Zg uE rfl rfl ?_;refine Zb (To ?_);obtain rfl:=sinj h;exact hQ _ _ ⟨sF,(uE),hfr,nB,rfl,tF,o41,vB,l5,aB,v8⟩
   ·clear hx
    obtain ⟨uF,cD,hfr,lD,nD,oD,yD,zD,aE,uC,vC⟩:=hR;refine Za (Gp (.int .i64 ((w64 (o0 + (1:Int))))) vC rfl rfl rfl ?_);refine Zn (.int .i64 ((w64 (o0 + (1:Int))))) rfl rfl ?_;exact Zb (Zd (vE (t5,(w64 (o0 + (1:Int)))) _ _ ⟨uF,(cD),hfr,lD,nD,oD,yD,zD,aE,uC,rfl⟩ h))
  ·refine Tu lB rfl ?_
   refine Qj ?_;refine Ta ?_;refine Ta ?_;refine Tp ?_;obtain rfl:=sinj h;exact hQ _ _ ⟨zB,(bD),hfr,oB,g8,l8⟩
 ·clear hx
  obtain ⟨lG,yB,hfr,bE,iE,vF⟩:=hR;refine Zf (Za (Zo bE rfl ?_));refine Zg yB rfl rfl ?_;refine Zb (Zd (Gq ?_));obtain rfl:=sinj h;exact Qq rfl rfl (show _=yB from rfl) ⟨_,hfr,iE⟩
def f47 (x0:Bool):Option (UInt8):=
 jn (σ:=Unit) (fun _=>
  some ((46:UInt8))
  ) fun k2=>
 bif x0 then
  some ((120:UInt8))
 else
  k2 ()
theorem en47:Enters Try.prog 47:=enters_of Try.func47 (by kernel_rfl) rfl
theorem wk47 {gI:Gh} {wI:World} {x0:Bool}  {r:UInt8} (h:f47 x0=some r):Fn Try.prog 47 #[.bool (x0)] gI wI (fun _ _ v=>v=.int .u8 (UInt8.toNat (r))):=by
 unfold f47 at h;refine Gz Try.func47 rfl (Nat.le_of_ble_eq_true rfl) fun g0 hm hfr=>?_;show E _ 4 none _ _ _ _ _;refine Zf (Za (Zg (.int .u8 (UInt8.toNat 0)) rfl rfl ?_));refine Zb (Zd (Zq h (fun (s:Unit) e w=>∃ (g:Gh) ,Fr gI wI g w) (fun X2 k2 hk2 h=>?_) ?_))
 ·refine Zf (Za (Zn (.bool (x0)) rfl rfl ?_))
  refine Zb (Zd ?_);rcases Zt h with ⟨hc3,h⟩ | ⟨hc3,h⟩
  ·refine Tv hc3 rfl ?_
   refine Zf (Za (Zg (.int .u8 (UInt8.toNat 120)) rfl rfl ?_));refine Zb (Zd (Gq (Tc ?_)));obtain rfl:=sinj h;exact Qq rfl rfl (show _=.int .u8 (UInt8.toNat 120) from rfl) ⟨_,hfr,rfl⟩
  ·refine Tu hc3 rfl ?_
   exact Zu (Zd (hk2 () _ _ ⟨g0,hfr⟩ h))
 ·rintro _ o0 w4 ⟨g4, hfr⟩ h
  refine Zf (Za (Zg (.int .u8 (UInt8.toNat 46)) rfl rfl ?_));refine Zb (Zd (Gq ?_));obtain rfl:=sinj h;exact Qq rfl rfl (show _=.int .u8 (UInt8.toNat 46) from rfl) ⟨_,hfr,rfl⟩
def f48 (x0:Qx) (x1:Int) (x2:Int):Option (Bool):=
 (idx (((x0).TieHarness).Warps) x2).bind fun y5=>
 (Ys x1 y5).bind fun y8=>
 some (((Tf .and y8 (1:Int)) == (1:Int)))
theorem en48:Enters Try.prog 48:=enters_of Try.func48 (by kernel_rfl) rfl
theorem wk48 {gI:Gh} {wI:World} {x0:Qx} {x1:Int} {x2:Int} {up0:Value} (rp0:RV gI.m wI x0 up0) {r:Bool} (h:f48 x0 x1 x2=some r):Fn Try.prog 48 #[up0,.int .i64 (x1),.int .i64 (x2)] gI wI (fun _ _ v=>v=.bool (r)):=by
 unfold f48 at h;refine Gz Try.func48 rfl (Nat.le_of_ble_eq_true rfl) fun g0 hm hfr=>?_;have rp0:RV g0.m wI x0 up0:=hm ▸ rp0;show E _ 17 none _ _ _ _ _;refine Zf (Za (Ze .plain rfl (Tx (g:=g0) rfl rp0 fun g1 w1 p1 hs q1=>?_)));have hfr:=hfr.ext hs;refine Zg (.bool false) rfl rfl ?_;refine Zb (Zd (Zf (Za (Zn (.int .i64 (x1)) rfl rfl ?_))));refine Zz (Gk p1 0) (Zc at_79_0 rfl (PT.ptr q1)) rfl ?_;have q2:=Zm (Uk).1 q1;refine Zz (Gk (Gk p1 0) 1) (Zc Kx rfl (PT.ptr q2)) rfl ?_;have q3:=Zm (Tn).1 q2;refine Ze .plain rfl (Gj (g:=g1) Try.isAgg26 Try.sizeOf26 rfl q3 fun v4 r4=>?_);refine Zn (.int .i64 (x2)) rfl rfl ?_;obtain ⟨y5,hy5,h⟩:=Gd h;refine Zz (We v4 x2 1) (Zh (α:=Int) Try.underlying26 Try.sizeOf3 rfl r4 rfl hy5) rfl ?_;have q6:=Wp r4 hy5;refine Ze .plain rfl (Gj (g:=g1) Try.isAgg3 Try.sizeOf3 rfl q6 fun v7 r7=>?_);obtain rfl:=Zj.1 r7;obtain ⟨y8,o0,h⟩:=Gd h;refine Zz (.int .i64 (y8)) (Te rfl rfl (congrArg (Option.map (Value.int .i64)) o0)) rfl ?_;refine Gp (.int .i64 ((Tf .and y8 (1:Int)))) rfl rfl rfl rfl ?_;refine Gp (.bool (((Tf .and y8 (1:Int)) == (1:Int)))) rfl rfl rfl rfl ?_;refine Zg (.bool (((Tf .and y8 (1:Int)) == (1:Int)))) rfl rfl ?_;refine Zb (Zd (Gq ?_));obtain rfl:=sinj h;exact Qq rfl rfl (show _=.bool (((Tf .and y8 (1:Int)) == (1:Int))) from rfl) ⟨_,hfr,rfl⟩
def f62 (x0:Int) (z0:Int) (z1:Int):Option (Bool):=
 Option.bind (α:=Bool) (
  bif (decide (x0 < z0)) then
   some (true)
  else
   some ((decide (x0 > z1)))
  ) fun o0=>
 some (o0)
theorem en62:Enters Try.prog 62:=enters_of Try.func62 (by kernel_rfl) rfl
theorem wk62 {gI:Gh} {wI:World} {x0:Int} {z0:Int} {z1:Int} {pf0:Value} (qf0:PT gI.m wI z0 pf0) {pf1:Value} (qf1:PT gI.m wI z1 pf1) {r:Bool} (h:f62 x0 z0 z1=some r):Fn Try.prog 62 #[.int .i64 (x0),pf0,pf1] gI wI (fun _ _ v=>v=.bool (r)):=by
 unfold f62 at h;refine Gz Try.func62 rfl (Nat.le_of_ble_eq_true rfl) fun g0 hm hfr=>?_;have qf0:PT g0.m wI z0 pf0:=hm ▸ qf0;have qf1:PT g0.m wI z1 pf1:=hm ▸ qf1;show E _ 13 none _ _ _ _ _;refine Zf (Za (Zg (.bool false) rfl rfl ?_));refine Zb (Zd ?_);obtain ⟨o0,hx,h⟩:=Gd h;refine Gx (fun e w=>∃ (g:Gh) ,Fr gI wI g w∧e 4=.bool (o0)) (fun Q' hQ=>?_) (fun t5 w7 hR=>?_)
 ·replace h := hx
  clear hx;refine Za (Zn (.int .i64 (x0)) rfl rfl ?_);refine Ze .plain rfl (Gj (g:=g0) Try.isAgg3 Try.sizeOf3 rfl qf0 fun v4 r4=>?_);obtain rfl:=Zj.1 r4;refine Gp (.bool ((decide (x0 < z0)))) rfl rfl rfl rfl ?_;refine Zn (.bool ((decide (x0 < z0)))) rfl rfl ?_;rcases Zt h with ⟨hc5,h⟩ | ⟨hc5,h⟩
  ·refine Gb rfl rfl hc5 rfl rfl ?_
   refine Gb rfl rfl hc5 rfl rfl ?_;refine Gb rfl rfl hc5 rfl rfl ?_;refine Zz (.bool true) (Zl (b:=(decide (x0 < z0))) rfl (Qn hc5 rfl)) rfl ?_;refine Zg (.bool true) rfl rfl ?_;refine Zb ?_;obtain rfl:=sinj h;exact hQ _ _ ⟨g0,hfr,rfl⟩
  ·refine Ga (.int .i64 (x0)) (Zk rfl) rfl rfl hc5 rfl ?_
   refine Ze (.yes2 rfl rfl hc5) rfl (Gj (g:=g0) Try.isAgg3 Try.sizeOf3 rfl qf1 fun v6 r6=>?_);obtain rfl:=Zj.1 r6;refine Ga (.bool ((decide (x0 > z1)))) (Te rfl rfl rfl) rfl rfl hc5 rfl ?_;refine Zz (.bool ((decide (x0 > z1)))) (Zl (b:=(decide (x0 < z0))) rfl (Tw hc5 rfl)) rfl ?_;refine Zg (.bool ((decide (x0 > z1)))) rfl rfl ?_;refine Zb ?_;obtain rfl:=sinj h;exact hQ _ _ ⟨g0,hfr,rfl⟩
 ·clear hx
  obtain ⟨g7,hfr,l5⟩:=hR;refine Gq ?_;obtain rfl:=sinj h;exact Qq rfl rfl (show _=.bool (o0) from l5) ⟨_,hfr,rfl⟩
def f64 (x0:Gi) (x1:Zv) (x2:List Int):Option ((List Int)):=
 (idx x2 (x1).Pick).bind fun y5=>
 (Hj (1:Int) (x1).Hook).bind fun y9=>
 (idx x2 (x1).Pick).bind fun t5=>
 some ((List.set x2 (Int.toNat (x1).Pick) ((Tf .xor y5 y9))))
theorem en64:Enters Try.prog 64:=enters_of Try.func64 (by kernel_rfl) rfl
theorem wk64 {iI:Nat} {gI:Gh} {wI:World} {x0:Gi} {x1:Zv} {x2:List Int} {up0:Value} (rp0:RV gI.m wI x0 up0) {up1:Value} (rp1:RV gI.m wI x1 up1) {up2:Value} (mp2:OM iI gI wI 3 x2 up2) {up3:Value} {r:(List Int)} (h:f64 x0 x1 x2=some r):FnM Try.prog 64 #[up0,up1,up2,up3] iI gI wI (fun g w v=>v=.tuple #[]∧OM iI g w 3 r up2):=by
 unfold f64 at h;refine Uj Try.func64 rfl (Nat.le_of_ble_eq_true rfl) fun g0 hm hfr=>?_;have l5:=mp2;replace mp2:=mp2.enter;rw [← hm] at mp2
 replace hm:g0.m=gI.m:=by rw [hm]
 have rp0:RV g0.m wI x0 up0:=hm ▸ rp0;have rp1:RV g0.m wI x1 up1:=hm ▸ rp1;show E _ 18 none _ _ _ _ _;refine Zf (Za (Ze .plain rfl (Tx (g:=g0) rfl rp0 fun g1 w1 p1 hs q1=>?_)));have hfr:=hfr.ext hs;have rp1:=rp1.ext hs;have mp2:=mp2.ext hs;refine Ze .plain rfl (Tx (g:=g1) rfl rp1 fun g2 w2 p2 hs q2=>?_);have hfr:=hfr.ext hs;have mp2:=mp2.ext hs;refine Zb (Zd ?_);have q3:=Zm (Qf).1 q2;refine Zs (x:=.tmp 9) Try.isAgg3 Try.sizeOf3 q3 fun v4 r4 i6=>?_;obtain rfl:=Zj.1 r4;obtain ⟨y5,hy5,h⟩:=Gd h;refine Vi (x:=.tmp 11) Try.isAgg3 Try.sizeOf3 mp2 hy5 fun v6 r6 g8=>?_;obtain rfl:=Zj.1 r6;have q7:=Zm (Wa).1 q2;refine Zs (x:=.tmp 13) Try.isAgg3 Try.sizeOf3 q7 fun v8 r8 l8=>?_;obtain rfl:=Zj.1 r8;obtain ⟨y9,n8,h⟩:=Gd h;obtain ⟨t5,o0,h⟩:=Gd h;refine Qu (g:=g2) (n:=10) [] [0,1,2,3,4,5,6,7,8,9] rfl Wt (by kernel_rfl) trivial ?_;refine Gc up2 rfl rfl (Zk rfl) ?_;refine Gc (Gk p2 1) rfl rfl (Zc Yp rfl (PT.ptr q2)) ?_;refine Qm (c:=.int .i64 ((x1).Pick)) rfl rfl .plain (fun _ _ h=>h.ch) i6 rfl ?_;refine Gc (We up2 (x1).Pick 1) rfl rfl (Tm (α:=Int) Try.underlying26 Try.sizeOf3 rfl mp2 rfl hy5) ?_;refine Qm (c:=.int .i64 (y5)) rfl rfl .plain (fun _ _ h=>⟨h.ch,fun b hb _=>h.below.block b hb⟩) g8 rfl ?_;refine Gc (Gk p2 2) rfl rfl (Zc Xe rfl (PT.ptr q2)) ?_;refine Qm (c:=.int .i64 ((x1).Hook)) rfl rfl .plain (fun _ _ h=>h.ch) l8 rfl ?_;refine Gc (.int .i64 (y9)) rfl rfl (Te rfl rfl (congrArg (Option.map (Value.int .i64)) n8)) ?_;refine Gc (.int .i64 ((Tf .xor y5 y9))) rfl rfl (Te rfl rfl rfl) ?_;refine Gc (We up2 (x1).Pick 1) rfl rfl (Tm (α:=Int) Try.underlying26 Try.sizeOf3 rfl mp2 rfl o0) ?_;refine Vn fun l9 n9 hs=>?_;have hfr:=hfr.ext hs;have mp2:=mp2.ext hs;clear hs;refine Ze .plain rfl (Ju (g:=l9) (α:=Int) (a':=((Tf .xor y5 y9))) Try.sizeOf3 rfl mp2 o0 rfl (Zj.2 rfl) fun aB lB hs b28=>?_);have hfr:=hfr.stp hs;refine Zb ?_;obtain rfl:=sinj h;exact Vg rfl rfl ⟨_,hfr,rfl,l5.back b28⟩
def f65 (x0:Gi) (x1:Zv) (x2:List Int):Option ((List Int)):=
 lp (σ:=(List Int) × Int) (fun k3 (t5,o0)=>
  bif (decide (o0 < ((x2).length : Int))) then
   Option.bind (α:=(List Int)) (
    (idx t5 o0).bind fun y70=>
    (Hj (1:Int) (x1).Hook).bind fun y74=>
    (idx t5 o0).bind fun uE=>
    bif (!(x1).Up) then
     (idx ((List.set t5 (Int.toNat o0) ((Tf .or y70 y74)))) o0).bind fun aB=>
     (Hj (1:Int) (x1).Hook).bind fun n8=>
     (idx ((List.set t5 (Int.toNat o0) ((Tf .or y70 y74)))) o0).bind fun yD=>
     some ((List.set ((List.set t5 (Int.toNat o0) ((Tf .or y70 y74)))) (Int.toNat o0) ((Tf .xor aB n8))))
    else
     some ((List.set t5 (Int.toNat o0) ((Tf .or y70 y74))))
    ) fun g8=>
   k3 (g8,(w64 (o0 + (1:Int))))
  else
   some (t5)
  ) big (x2,(0:Int))
theorem en65:Enters Try.prog 65:=enters_of Try.func65 (by kernel_rfl) rfl
theorem wk65 {iI:Nat} {gI:Gh} {wI:World} {x0:Gi} {x1:Zv} {x2:List Int} {up0:Value} (rp0:RV gI.m wI x0 up0) {up1:Value} (rp1:RV gI.m wI x1 up1) {up2:Value} (mp2:OM iI gI wI 3 x2 up2) {up3:Value} {r:(List Int)} (h:f65 x0 x1 x2=some r):FnM Try.prog 65 #[up0,up1,up2,up3] iI gI wI (fun g w v=>v=.tuple #[]∧OM iI g w 3 r up2):=by
 unfold f65 at h;refine Uj Try.func65 rfl (Nat.le_of_ble_eq_true rfl) fun g0 hm hfr=>?_;have lD:=mp2;replace mp2:=mp2.enter;rw [← hm] at mp2
 replace hm:g0.m=gI.m:=by rw [hm]
 have rp0:RV g0.m wI x0 up0:=hm ▸ rp0;have rp1:RV g0.m wI x1 up1:=hm ▸ rp1;show E _ 36 none _ _ _ _ _;refine Zf (Za (Ze .plain rfl (Tx (g:=g0) rfl rp0 fun g1 w1 p1 hs q1=>?_)));have hfr:=hfr.ext hs;have rp1:=rp1.ext hs;have mp2:=mp2.ext hs;refine Ze .plain rfl (Tx (g:=g1) rfl rp1 fun g2 w2 p2 hs q2=>?_);have hfr:=hfr.ext hs;have mp2:=mp2.ext hs;refine Zb (Zd (Zf (Za (Zn up2 rfl rfl ?_))));refine Zz (.int .i64 ((x2).length:Int)) (Lz Try.underlying26 rfl mp2) rfl ?_;refine Zn (.int .i64 (0)) rfl rfl ?_;refine Zb (Zd (Zr ?_));refine He h (fun (s:(List Int) × Int) e w=>∃ (g:Gh) ,FrM iI gI wI g w∧e 2=up2∧OM 1 g w 3 (s.1:List Int) up2∧e 5=p2∧PT g.m w (x1:Zv) p2∧e 10=.int .i64 (((x2).length:Int))∧e 11=.int .i64 (s.2)) ⟨g2,hfr,rfl,mp2,rfl,q2,rfl,rfl⟩ (fun X3 k3 hk3=>?_);rintro ⟨t5,o0⟩ yF w4 ⟨g4,hfr,l9,i6,v8,l5,n9,l8⟩ h;refine Zf (Za (Gp (.bool ((decide (o0 < ((x2).length:Int))))) l8 n9 rfl rfl ?_));refine Zb (Zd (Zf ?_));rcases Zt h with ⟨hc5,h⟩ | ⟨hc5,h⟩
 ·refine Tv hc5 rfl ?_
  refine Zu (Zd ?_);obtain ⟨g8,hx,h⟩:=Gd h;refine Gx (fun e w=>∃ (g:Gh) ,FrM iI gI wI g w∧e 2=up2∧OM 1 g w 3 (g8:List Int) up2∧e 5=p2∧PT g.m w (x1:Zv) p2∧e 10=.int .i64 (((x2).length:Int))∧e 11=.int .i64 (o0)) (fun Q' hQ=>?_) (fun sF tF hR=>?_)
  ·replace h := hx
   clear hx;refine Zr ?_;refine Zf (Za (Zo l8 rfl ?_));refine Zg (.int .i64 (o0)) rfl rfl ?_;refine Zb (Zd (Zf ?_));obtain ⟨y70,vB,h⟩:=Gd h;refine Vi (x:=.tmp 16) Try.isAgg3 Try.sizeOf3 i6 vB fun aG vE zD=>?_;obtain rfl:=Zj.1 vE;have xE:=Zm (Wa).1 l5;refine Zs (x:=.tmp 18) Try.isAgg3 Try.sizeOf3 xE fun bG yE aE=>?_;obtain rfl:=Zj.1 yE;obtain ⟨y74,bE,h⟩:=Gd h;obtain ⟨uE,yB,h⟩:=Gd h;refine Qu (g:=g4) (n:=9) [] [0,1,2,3,4,5,6,7,8] rfl Wt (by kernel_rfl) trivial ?_;refine Gc up2 rfl rfl (Zk l9) ?_;refine Gc (.int .i64 (o0)) rfl rfl (Zk rfl) ?_;refine Gc (We up2 o0 1) rfl rfl (Tm (α:=Int) Try.underlying26 Try.sizeOf3 rfl i6 rfl vB) ?_;refine Qm (c:=.int .i64 (y70)) rfl rfl .plain (fun _ _ h=>⟨h.ch,fun b hb _=>h.below.block b hb⟩) zD rfl ?_;refine Gc (Gk p2 2) rfl rfl (Zc Xe v8 (PT.ptr l5)) ?_;refine Qm (c:=.int .i64 ((x1).Hook)) rfl rfl .plain (fun _ _ h=>h.ch) aE rfl ?_;refine Gc (.int .i64 (y74)) rfl rfl (Te rfl rfl (congrArg (Option.map (Value.int .i64)) bE)) ?_;refine Gc (.int .i64 ((Tf .or y70 y74))) rfl rfl (Te rfl rfl rfl) ?_;refine Gc (We up2 o0 1) rfl rfl (Tm (α:=Int) Try.underlying26 Try.sizeOf3 rfl i6 rfl yB) ?_;refine Vn fun zE cG hs=>?_;have hfr:=hfr.ext hs;have i6:=i6.ext hs;have l5:=l5.ext hs;clear hs;refine Ze .plain rfl (Ju (g:=zE) (α:=Int) (a':=((Tf .or y70 y74))) Try.sizeOf3 rfl i6 yB rfl (Zj.2 rfl) fun zB eG hs b93=>?_);have hfr:=hfr.stp hs;have l5:=l5.stp hs;refine Zb (Zd (Zf (Za (Zz (Gk p2 4) (Zc at_41_4 v8 (PT.ptr l5)) rfl ?_))));have cF:=Zm (Ya).1 l5;refine Ze .plain rfl (Gj (g:=zB) Try.isAgg4 Try.sizeOf4 rfl cF fun gG dF=>?_);obtain rfl:=Wc.1 dF;refine Zz (.bool (!(x1).Up)) (Kh rfl) rfl ?_;refine Zb (Zd ?_);rcases Zt h with ⟨lB,h⟩ | ⟨lB,h⟩
   ·refine Tv lB rfl ?_
    obtain ⟨aB,cC,h⟩:=Gd h;refine Vi (x:=.tmp 28) Try.isAgg3 Try.sizeOf3 b93 cC fun iG eF iE=>?_;obtain rfl:=Zj.1 eF;have rF:=Zm (Wa).1 l5;refine Zs (x:=.tmp 30) Try.isAgg3 Try.sizeOf3 rF fun uF lE nD=>?_;obtain rfl:=Zj.1 lE;obtain ⟨n8,oD,h⟩:=Gd h;obtain ⟨yD,mB,h⟩:=Gd h;refine Qu (g:=zB) (n:=9) [] [0,1,2,3,4,5,6,7,8] rfl Wt (by kernel_rfl) trivial ?_;refine Gc up2 rfl rfl (Zk l9) ?_;refine Gc (.int .i64 (o0)) rfl rfl (Zk rfl) ?_;refine Gc (We up2 o0 1) rfl rfl (Tm (α:=Int) Try.underlying26 Try.sizeOf3 rfl b93 rfl cC) ?_;refine Qm (c:=.int .i64 (aB)) rfl rfl .plain (fun _ _ h=>⟨h.ch,fun b hb _=>h.below.block b hb⟩) iE rfl ?_;refine Gc (Gk p2 2) rfl rfl (Zc Xe v8 (PT.ptr l5)) ?_;refine Qm (c:=.int .i64 ((x1).Hook)) rfl rfl .plain (fun _ _ h=>h.ch) nD rfl ?_;refine Gc (.int .i64 (n8)) rfl rfl (Te rfl rfl (congrArg (Option.map (Value.int .i64)) oD)) ?_;refine Gc (.int .i64 ((Tf .xor aB n8))) rfl rfl (Te rfl rfl rfl) ?_;refine Gc (We up2 o0 1) rfl rfl (Tm (α:=Int) Try.underlying26 Try.sizeOf3 rfl b93 rfl mB) ?_;refine Vn fun mE vF hs=>?_;have hfr:=hfr.ext hs;have b93:=b93.ext hs;have l5:=l5.ext hs;clear hs;refine Ze .plain rfl (Ju (g:=mE) (α:=Int) (a':=((Tf .xor aB n8))) Try.sizeOf3 rfl b93 mB rfl (Zj.2 rfl) fun oE xF hs b132=>?_);have hfr:=hfr.stp hs;have l5:=l5.stp hs;refine Zb (To ?_);obtain rfl:=sinj h;exact hQ _ _ ⟨oE,hfr,l9,b132,v8,l5,n9,l8⟩
   ·refine Tu lB rfl ?_
    refine Zu (To ?_);obtain rfl:=sinj h;exact hQ _ _ ⟨zB,hfr,l9,b93,v8,l5,n9,l8⟩
  ·clear hx
   obtain ⟨rE,hfr,uC,vC,bD,cD,nB,oB⟩:=hR;refine Za (Gp (.int .i64 ((w64 (o0 + (1:Int))))) oB rfl rfl rfl ?_);refine Zn (.int .i64 ((w64 (o0 + (1:Int))))) rfl rfl ?_;exact Zb (Zd (hk3 (g8,(w64 (o0 + (1:Int)))) _ _ ⟨rE,hfr,uC,vC,bD,cD,nB,rfl⟩ h))
 ·refine Tu hc5 rfl ?_
  refine Qj ?_;refine Ta ?_;refine Ta ?_;refine Tp ?_;obtain rfl:=sinj h;exact Vg rfl rfl ⟨_,hfr,rfl,lD.back i6⟩
def f66 (x0:Gi) (x1:Zv) (x2:List Int):Option ((List Int)):=
 Option.bind (α:=Int) (
  lp (σ:=Int × Int) (fun iE (v8,o0)=>
   bif (decide (o0 < (((x0).FaultLoom).Design).Hooks)) then
    Option.bind (α:=Int) (
     (Hj v8 ((1:Int))).bind fun aB=>
     (idx x2 (x1).Pick).bind fun lE=>
     (Ys lE o0).bind fun n8=>
     some ((Tf .or aB (Tf .and n8 (1:Int))))
     ) fun l5=>
    iE (l5,(w64 (o0 + (1:Int))))
   else
    some (v8)
   ) big ((0:Int),(0:Int))
  ) fun t5=>
 (idx x2 (x1).Pick).bind fun yE=>
 some ((List.set x2 (Int.toNat (x1).Pick) t5))
theorem en66:Enters Try.prog 66:=enters_of Try.func66 (by kernel_rfl) rfl
theorem wk66 {iI:Nat} {gI:Gh} {wI:World} {x0:Gi} {x1:Zv} {x2:List Int} {up0:Value} (rp0:RV gI.m wI x0 up0) {up1:Value} (rp1:RV gI.m wI x1 up1) {up2:Value} (mp2:OM iI gI wI 3 x2 up2) {up3:Value} {r:(List Int)} (h:f66 x0 x1 x2=some r):FnM Try.prog 66 #[up0,up1,up2,up3] iI gI wI (fun g w v=>v=.tuple #[]∧OM iI g w 3 r up2):=by
 unfold f66 at h;refine Uj Try.func66 rfl (Nat.le_of_ble_eq_true rfl) fun g0 hm hfr=>?_;have bD:=mp2;replace mp2:=mp2.enter;rw [← hm] at mp2
 replace hm:g0.m=gI.m:=by rw [hm]
 have rp0:RV g0.m wI x0 up0:=hm ▸ rp0;have rp1:RV g0.m wI x1 up1:=hm ▸ rp1;show E _ 34 none _ _ _ _ _;refine Zf (Za (Ze .plain rfl (Tx (g:=g0) rfl rp0 fun g1 w1 p1 hs q1=>?_)));have hfr:=hfr.ext hs;have rp1:=rp1.ext hs;have mp2:=mp2.ext hs;refine Ze .plain rfl (Tx (g:=g1) rfl rp1 fun g2 w2 p2 hs q2=>?_);have hfr:=hfr.ext hs;have mp2:=mp2.ext hs;have q1:=q1.ext hs;refine Zb (Zd (Zf (Za (Zg (.int .i64 (0)) rfl rfl ?_))));refine Zb (Zd ?_);obtain ⟨t5,hx,h⟩:=Gd h;refine Gx (fun e w=>∃ (g:Gh) ,FrM iI gI wI g w∧e 2=up2∧OM 1 g w 3 (x2:List Int) up2∧e 5=p2∧PT g.m w (x1:Zv) p2∧e 8=.int .i64 (t5)) (fun Q' hQ=>?_) (fun vF aG hR=>?_)
 ·replace h := hx
  clear hx;refine Zf (Za (Zz (Gk p1 0) (Zc Uf rfl (PT.ptr q1)) rfl ?_));have mE:=Zm (Ts).1 q1;refine Zz (Gk (Gk p1 0) 2) (Zc Ji rfl (PT.ptr mE)) rfl ?_;have oE:=Zm (Qe).1 mE;refine Zz (Gk (Gk (Gk p1 0) 2) 0) (Zc Hs rfl (PT.ptr oE)) rfl ?_;have zE:=Zm (Ql).1 oE;refine Ze .plain rfl (Gj (g:=g2) Try.isAgg3 Try.sizeOf3 rfl zE fun bG cF=>?_);obtain rfl:=Zj.1 cF;refine Zn (.int .i64 (0)) rfl rfl ?_;refine Zb (Zd (Zr ?_));refine He h (fun (s:Int × Int) e w=>∃ (g:Gh) ,FrM iI gI wI g w∧e 2=up2∧OM 1 g w 3 (x2:List Int) up2∧e 5=p2∧PT g.m w (x1:Zv) p2∧e 8=.int .i64 (s.1)∧e 13=.int .i64 ((((x0).FaultLoom).Design).Hooks)∧e 14=.int .i64 (s.2)) ⟨g2,hfr,rfl,mp2,rfl,q2,rfl,rfl,rfl⟩ (fun X27 iE uE=>?_);rintro ⟨v8,o0⟩ xF cG ⟨nB,hfr,l9,i6,n9,g8,oB,lB,l8⟩ h;refine Zf (Za (Zz (.bool ((decide (o0 < (((x0).FaultLoom).Design).Hooks)))) (Te l8 lB rfl) rfl ?_));refine Zb (Zd (Zf ?_));rcases Zt h with ⟨mB,h⟩ | ⟨mB,h⟩
  ·refine Tv mB rfl ?_
   refine Zu (Zd ?_);obtain ⟨l5,hx,h⟩:=Gd h;refine Gx (fun e w=>∃ (g:Gh) ,FrM iI gI wI g w∧e 2=up2∧OM 1 g w 3 (x2:List Int) up2∧e 5=p2∧PT g.m w (x1:Zv) p2∧e 8=.int .i64 (l5)∧e 13=.int .i64 ((((x0).FaultLoom).Design).Hooks)∧e 14=.int .i64 (o0)) (fun Q' hQ=>?_) (fun yF eG hR=>?_)
   ·replace h := hx
    clear hx;refine Zr ?_;refine Zf (Za (Zo l8 rfl ?_));refine Zg (.int .i64 (o0)) rfl rfl ?_;refine Zb (Zd (Za (Zo oB rfl ?_)));obtain ⟨aB,vE,h⟩:=Gd h;refine Zz (.int .i64 (aB)) (P_shlu rfl rfl vE) rfl ?_;refine Zo l9 rfl ?_;refine Zz (Gk p2 1) (Zc Yp n9 (PT.ptr g8)) rfl ?_;have dF:=Zm (Qf).1 g8;refine Ze .plain rfl (Gj (g:=nB) Try.isAgg3 Try.sizeOf3 rfl dF fun gG eF=>?_);obtain rfl:=Zj.1 eF;obtain ⟨lE,zB,h⟩:=Gd h;refine Zz (We up2 (x1).Pick 1) (Tm (α:=Int) Try.underlying26 Try.sizeOf3 rfl i6 rfl zB) rfl ?_;refine Ze .plain rfl (D_loadM (g:=nB) Try.isAgg3 Try.sizeOf3 rfl i6 zB fun iG rF=>?_);obtain rfl:=Zj.1 rF;refine Zn (.int .i64 (o0)) rfl rfl ?_;obtain ⟨n8,xE,h⟩:=Gd h;refine Zz (.int .i64 (n8)) (Te rfl rfl (congrArg (Option.map (Value.int .i64)) xE)) rfl ?_;refine Gp (.int .i64 ((Tf .and n8 (1:Int)))) rfl rfl rfl rfl ?_;refine Gp (.int .i64 ((Tf .or aB (Tf .and n8 (1:Int))))) rfl rfl rfl rfl ?_;refine Zg (.int .i64 ((Tf .or aB (Tf .and n8 (1:Int))))) rfl rfl ?_;refine Zb (To ?_);obtain rfl:=sinj h;exact hQ _ _ ⟨nB,hfr,l9,i6,n9,g8,rfl,lB,l8⟩
   ·clear hx
    obtain ⟨sF,hfr,cD,lD,nD,oD,yD,cC,uC⟩:=hR;refine Za (Gp (.int .i64 ((w64 (o0 + (1:Int))))) uC rfl rfl rfl ?_);refine Zn (.int .i64 ((w64 (o0 + (1:Int))))) rfl rfl ?_;exact Zb (Zd (uE (l5,(w64 (o0 + (1:Int)))) _ _ ⟨sF,hfr,cD,lD,nD,oD,yD,cC,rfl⟩ h))
  ·refine Tu mB rfl ?_
   refine Qj ?_;refine Ta ?_;refine Ta ?_;refine Tp ?_;obtain rfl:=sinj h;exact hQ _ _ ⟨nB,hfr,l9,i6,n9,g8,oB⟩
 ·clear hx
  obtain ⟨rE,hfr,zD,vB,aE,yB,bE⟩:=hR;refine Za (Zo zD rfl ?_);refine Zz (Gk p2 1) (Zc Yp aE (PT.ptr yB)) rfl ?_;have tF:=Zm (Qf).1 yB;refine Ze .plain rfl (Gj (g:=rE) Try.isAgg3 Try.sizeOf3 rfl tF fun jG uF=>?_);obtain rfl:=Zj.1 uF;refine Zo bE rfl ?_;obtain ⟨yE,vC,h⟩:=Gd h;refine Zz (We up2 (x1).Pick 1) (Tm (α:=Int) Try.underlying26 Try.sizeOf3 rfl vB rfl vC) rfl ?_;refine Ze .plain rfl (Ju (g:=rE) (α:=Int) (a':=t5) Try.sizeOf3 rfl vB vC rfl (Zj.2 rfl) fun kG lG hs b47=>?_);have hfr:=hfr.stp hs;refine Zb ?_;obtain rfl:=sinj h;exact Vg rfl rfl ⟨_,hfr,rfl,bD.back b47⟩
def f67 (x0:Gi) (x1:Zv) (x2:List Int):Option ((List Int)):=
 (Hy (w64 ((x1).Pick + (1:Int))) ((x2).length:Int)).bind fun y5=>
 (idx x2 (x1).Pick).bind fun y8=>
 (idx x2 y5).bind fun o0=>
 (idx x2 (x1).Pick).bind fun l9=>
 (idx ((List.set x2 (Int.toNat (x1).Pick) o0)) y5).bind fun n9=>
 some ((List.set ((List.set x2 (Int.toNat (x1).Pick) o0)) (Int.toNat y5) y8))
theorem en67:Enters Try.prog 67:=enters_of Try.func67 (by kernel_rfl) rfl
theorem wk67 {iI:Nat} {gI:Gh} {wI:World} {x0:Gi} {x1:Zv} {x2:List Int} {up0:Value} (rp0:RV gI.m wI x0 up0) {up1:Value} (rp1:RV gI.m wI x1 up1) {up2:Value} (mp2:OM iI gI wI 3 x2 up2) {up3:Value} {r:(List Int)} (h:f67 x0 x1 x2=some r):FnM Try.prog 67 #[up0,up1,up2,up3] iI gI wI (fun g w v=>v=.tuple #[]∧OM iI g w 3 r up2):=by
 unfold f67 at h;refine Uj Try.func67 rfl (Nat.le_of_ble_eq_true rfl) fun g0 hm hfr=>?_;have g8:=mp2;replace mp2:=mp2.enter;rw [← hm] at mp2
 replace hm:g0.m=gI.m:=by rw [hm]
 have rp0:RV g0.m wI x0 up0:=hm ▸ rp0;have rp1:RV g0.m wI x1 up1:=hm ▸ rp1;show E _ 35 none _ _ _ _ _;refine Zf (Za (Ze .plain rfl (Tx (g:=g0) rfl rp0 fun g1 w1 p1 hs q1=>?_)));have hfr:=hfr.ext hs;have rp1:=rp1.ext hs;have mp2:=mp2.ext hs;refine Ze .plain rfl (Tx (g:=g1) rfl rp1 fun g2 w2 p2 hs q2=>?_);have hfr:=hfr.ext hs;have mp2:=mp2.ext hs;refine Zb (Zd (Zf (Za (Zz (Gk p2 1) (Zc Yp rfl (PT.ptr q2)) rfl ?_))));have q3:=Zm (Qf).1 q2;refine Ze .plain rfl (Gj (g:=g2) Try.isAgg3 Try.sizeOf3 rfl q3 fun v4 r4=>?_);obtain rfl:=Zj.1 r4;refine Gp (.int .i64 ((w64 ((x1).Pick + (1:Int))))) rfl rfl rfl rfl ?_;refine Zn up2 rfl rfl ?_;refine Zz (.int .i64 ((x2).length:Int)) (Lz Try.underlying26 rfl mp2) rfl ?_;obtain ⟨y5,hy5,h⟩:=Gd h;refine Zz (.int .i64 (y5)) (Te rfl rfl (congrArg (Option.map (Value.int .i64)) hy5)) rfl ?_;refine Zg (.int .i64 (y5)) rfl rfl ?_;refine Zb (Zd (Zf ?_));have q6:=Zm (Qf).1 q2;refine Zs (x:=.tmp 18) Try.isAgg3 Try.sizeOf3 q6 fun v7 r7 hl7=>?_;obtain rfl:=Zj.1 r7;obtain ⟨y8,l8,h⟩:=Gd h;refine Vi (x:=.tmp 20) Try.isAgg3 Try.sizeOf3 mp2 l8 fun v9 r9 aB=>?_;obtain rfl:=Zj.1 r9;obtain ⟨o0,l5,h⟩:=Gd h;refine Vi (x:=.tmp 24) Try.isAgg3 Try.sizeOf3 mp2 l5 fun vB lB v8=>?_;obtain rfl:=Zj.1 lB;refine Qu (g:=g2) (n:=11) [] [0,1,2,3,4,5,6,7,8,9,10] rfl Wt (by kernel_rfl) trivial ?_;refine Gc up2 rfl rfl (Zk rfl) ?_;refine Gc (Gk p2 1) rfl rfl (Zc Yp rfl (PT.ptr q2)) ?_;refine Qm (c:=.int .i64 ((x1).Pick)) rfl rfl .plain (fun _ _ h=>h.ch) hl7 rfl ?_;refine Gc (We up2 (x1).Pick 1) rfl rfl (Tm (α:=Int) Try.underlying26 Try.sizeOf3 rfl mp2 rfl l8) ?_;refine Qm (c:=.int .i64 (y8)) rfl rfl .plain (fun _ _ h=>⟨h.ch,fun b hb _=>h.below.block b hb⟩) aB rfl ?_;refine Gc up2 rfl rfl (Zk rfl) ?_;refine Gc (.int .i64 (y5)) rfl rfl (Zk rfl) ?_;refine Gc (We up2 y5 1) rfl rfl (Tm (α:=Int) Try.underlying26 Try.sizeOf3 rfl mp2 rfl l5) ?_;refine Qm (c:=.int .i64 (o0)) rfl rfl .plain (fun _ _ h=>⟨h.ch,fun b hb _=>h.below.block b hb⟩) v8 rfl ?_;refine Gc (.int .i64 (y8)) rfl rfl (Wd rfl) ?_;refine Gc (.int .i64 (o0)) rfl rfl (Wd rfl) ?_;refine Vn fun n8 yB hs=>?_;have hfr:=hfr.ext hs;have mp2:=mp2.ext hs;have q2:=q2.ext hs;clear hs;refine Zb (Zd (Zf (Za (Zn up2 rfl rfl ?_))));refine Zz (Gk p2 1) (Zc Yp rfl (PT.ptr q2)) rfl ?_;have mB:=Zm (Qf).1 q2;refine Ze .plain rfl (Gj (g:=n8) Try.isAgg3 Try.sizeOf3 rfl mB fun zB nB=>?_);obtain rfl:=Zj.1 nB;refine Zn (.int .i64 (o0)) rfl rfl ?_;obtain ⟨l9,t5,h⟩:=Gd h;refine Zz (We up2 (x1).Pick 1) (Tm (α:=Int) Try.underlying26 Try.sizeOf3 rfl mp2 rfl t5) rfl ?_;refine Ze .plain rfl (Ju (g:=n8) (α:=Int) (a':=o0) Try.sizeOf3 rfl mp2 t5 rfl (Zj.2 rfl) fun oB cC hs b40=>?_);have hfr:=hfr.stp hs;refine Zb (Zd (Za (Zn up2 rfl rfl ?_)));refine Zn (.int .i64 (y5)) rfl rfl ?_;refine Zn (.int .i64 (y8)) rfl rfl ?_;obtain ⟨n9,i6,h⟩:=Gd h;refine Zz (We up2 y5 1) (Tm (α:=Int) Try.underlying26 Try.sizeOf3 rfl b40 rfl i6) rfl ?_;refine Ze .plain rfl (Ju (g:=oB) (α:=Int) (a':=y8) Try.sizeOf3 rfl b40 i6 rfl (Zj.2 rfl) fun uC vC hs b42=>?_);have hfr:=hfr.stp hs;refine Zb ?_;obtain rfl:=sinj h;exact Vg rfl rfl ⟨_,hfr,rfl,g8.back b42⟩
def f68 (x0:Gi) (x1:Zv) (x3:List (Int × Bool)):Option ((List (Int × Bool))):=
 some ((Xt x3 ((x1).Warp) true))
theorem en68:Enters Try.prog 68:=enters_of Try.func68 (by kernel_rfl) rfl
theorem wk68 {iI:Nat} {gI:Gh} {wI:World} {x0:Gi} {x1:Zv} {x3:List (Int × Bool)} {up0:Value} (rp0:RV gI.m wI x0 up0) {up1:Value} (rp1:RV gI.m wI x1 up1) {up2:Value} {up3:Value} (mp3:MP (Value.int .i64) iI gI wI x3 up3) {r:(List (Int × Bool))} (h:f68 x0 x1 x3=some r):FnM Try.prog 68 #[up0,up1,up2,up3] iI gI wI (fun g w v=>v=.tuple #[]∧MP (Value.int .i64) iI g w r up3):=by
 unfold f68 at h;refine Uj Try.func68 rfl (Nat.le_of_ble_eq_true rfl) fun g0 hm hfr=>?_;have o0:=mp3;replace mp3:=mp3.enter;rw [← hm] at mp3
 replace hm:g0.m=gI.m:=by rw [hm]
 have rp0:RV g0.m wI x0 up0:=hm ▸ rp0;have rp1:RV g0.m wI x1 up1:=hm ▸ rp1;show E _ 11 none _ _ _ _ _;refine Zf (Za (Ze .plain rfl (Tx (g:=g0) rfl rp0 fun g1 w1 p1 hs q1=>?_)));have hfr:=hfr.ext hs;have rp1:=rp1.ext hs;have mp3:=mp3.ext hs;refine Ze .plain rfl (Tx (g:=g1) rfl rp1 fun g2 w2 p2 hs q2=>?_);have hfr:=hfr.ext hs;have mp3:=mp3.ext hs;refine Zb (Zd (Za (Zn up3 rfl rfl ?_)));refine Zz (Gk p2 3) (Zc Ao rfl (PT.ptr q2)) rfl ?_;have q3:=Zm (Hr).1 q2;refine Ze .plain rfl (Gj (g:=g2) Try.isAgg3 Try.sizeOf3 rfl q3 fun v4 r4=>?_);obtain rfl:=Zj.1 r4;refine Ze .plain rfl (Px (g:=g2) Try.underlying99 key_3 rfl mp3 rfl rfl (Wc.2 rfl) fun g5 w5 hs m5=>?_);have hfr:=hfr.stp hs;refine Zb ?_;obtain rfl:=sinj h;exact Vg rfl rfl ⟨_,hfr,rfl,o0.back m5⟩
def fvF (f:Nat):Fv:=⟨.func (.func f) #[] #[],rfl⟩
def fv0:Fv:=⟨.nilFunc,rfl⟩
def chgM:List (Int × Fv):=[(1,fvF 64),(2,fvF 65),(3,fvF 66),(4,fvF 67),(5,fvF 68)]
def fchg (k:Int) (l:Gi) (d:Zv) (rows:List Int) (br:List (Int × Bool)):Option (List Int × List (Int × Bool)):=
 if k=1 then (f64 l d rows).map (fun r=>(r,br)) else if k=2 then (f65 l d rows).map (fun r=>(r,br)) else if k=3 then (f66 l d rows).map (fun r=>(r,br)) else if k=4 then (f67 l d rows).map (fun r=>(r,br))
 else if k=5 then (f68 l d br).map (fun b=>(rows,b)) else none
theorem en38:Enters Try.prog 38:=enters_of Try.func38 (by kernel_rfl) rfl
theorem Pb:Lw Try.prog 39 (Value.int .i64):=Dl Try.underlying39
theorem wk38 {i:Nat} {gI:Gh} {wI:World}:FnG Try.prog 38 #[] gI wI (fun g w v=>MP (Value.int .i64) i g w chgM v):=by
 refine Vy Try.func38 rfl (Nat.le_of_ble_eq_true rfl) fun g0 hm hfr=>?_;show E _ 3 none _ _ _ _ _;refine Zf (Za (Zg (.map none) rfl rfl (Zb (Zd ?_))));refine Zf (Za (Ze .plain rfl (Pe (g:=g0) (Value.int .i64) Fv 5 fun g1 w1 v1 hs1 m1=>?_)));refine Ze .plain rfl (Xa (v:=fvF 64) Try.underlying104 Pb rfl m1 rfl rfl (Ve.2 rfl) fun g2 w2 hs2 m2=>?_);refine Ze .plain rfl (Xa (v:=fvF 65) Try.underlying104 Pb rfl m2 rfl rfl (Ve.2 rfl) fun g3 w3 hs3 m3=>?_);refine Ze .plain rfl (Xa (v:=fvF 66) Try.underlying104 Pb rfl m3 rfl rfl (Ve.2 rfl) fun g4 w4 hs4 m4=>?_);refine Ze .plain rfl (Xa (v:=fvF 67) Try.underlying104 Pb rfl m4 rfl rfl (Ve.2 rfl) fun g5 w5 hs5 m5=>?_);refine Ze .plain rfl (Xa (v:=fvF 68) Try.underlying104 Pb rfl m5 rfl rfl (Ve.2 rfl) fun g6 w6 hs6 m6=>?_);refine Zn v1 rfl rfl ?_;refine Zg v1 rfl rfl (Zb (Zd ?_));have hfr:=(((((hfr.stp hs1).stp hs2).stp hs3).stp hs4).stp hs5).stp hs6;obtain ⟨g',hx,hmp⟩:=MP.hand (i:=i) hfr m6;exact Gq (Qq rfl rfl (show _=v1 from rfl) ⟨g',hx,hmp⟩)
theorem D_chg {e : Env} {g : Gh} {w : World} {K : Value → World → Prop} {c x1 x2 x3 x4 : Operand} {ats : Array TypeId} {k : Int} {l : Gi} {d : Zv} {rows rows' : List Int} {br br' : List (Int × Bool)} {i j : Nat} {lv dv rv bv : Value}
  (hf:fchg k l d rows br=some (rows',br')) (hc:ev e c=((mget chgM k).getD fv0).v) (h1:ev e x1=lv) (h2:ev e x2=dv) (h3:ev e x3=rv) (h4:ev e x4=bv) (r1:RV g.m w l lv) (r2:RV g.m w d dv) (hom:OM i g w 3 rows rv) (hmp:MP (Value.int .i64) j g w br bv) (hij:Nat.beq i j=false) (hji:Nat.beq j i=false)
  (h:∀ g1 w1 g' w' v,Stp i g w g1 w1→Stp j g1 w1 g' w'→OM i g' w' 3 rows' rv→MP (Value.int .i64) j g' w' br' bv→K v w'):Doe Try.prog (.call { callee:=.value c,args:=#[x1,x2,x3,x4],argTypes:=ats }) e w K:=by
 unfold fchg at hf
 have ha:Args e [x1,x2,x3,x4] [lv,dv,rv,bv]:=.cons h1 (.cons h2 (.cons h3 (.cons h4 .nil)))
 have one : ∀ (f : Nat) (fF : Gi → Zv → List Int → Option (List Int)), ev e c = .func (.func f) #[] #[] → Enters Try.prog f → (fF l d rows).map (fun r => (r, br)) = some (rows', br') →
   (∀ r,fF l d rows=some r→FnM Try.prog f #[lv,dv,rv,bv] i g w (fun g w v=>v=.tuple #[]∧OM i g w 3 r rv))→Doe Try.prog (.call { callee:=.value c,args:=#[x1,x2,x3,x4],argTypes:=ats }) e w K:=by
  intro f fF hcf hen hmap hw
  obtain ⟨r,hr,he⟩:=Option.map_eq_some_iff.1 hmap
  obtain ⟨rfl,rfl⟩:r=rows'∧br=br':=by simpa using he
  exact D_callMv (g:=g) (i:=i) hcf hen ha (hw r hr) fun g' w' v hs hR=>h g' w' g' w' v hs (Ns _ _ _) hR.2 (hmp.stp hs hji)
 split at hf
 ·rename_i hk; subst hk; exact one 64 f64 hc en64 hf fun r hr=>wk64 r1 r2 hom hr
 split at hf
 ·rename_i hk; subst hk; exact one 65 f65 hc en65 hf fun r hr=>wk65 r1 r2 hom hr
 split at hf
 ·rename_i hk; subst hk; exact one 66 f66 hc en66 hf fun r hr=>wk66 r1 r2 hom hr
 split at hf
 ·rename_i hk; subst hk; exact one 67 f67 hc en67 hf fun r hr=>wk67 r1 r2 hom hr
 split at hf
 ·rename_i hk; subst hk
  obtain ⟨r,hr,he⟩:=Option.map_eq_some_iff.1 hf
  obtain ⟨rfl,rfl⟩:rows=rows'∧r=br':=by simpa using he
  exact D_callMv (g:=g) (i:=j) (f:=68) hc en68 ha (wk68 r1 r2 hmp hr) fun g' w' v hs hR=>h g w g' w' v (Ns _ _ _) hs (hom.stp hs hij) hR.2
 ·cases hf
def f69 (x0:List Int) (x1:Int→Option Bool):Option (Int):=
 jn (σ:=Unit) (fun _=>
  some ((-1:Int))
  ) fun k18=>
 lp (σ:=Int) (fun k19 o0=>
  bif (decide (o0 < ((x0).length : Int))) then
   jn (σ:=Unit) (fun _=>
    k19 ((w64 (o0 + (1:Int))))
    ) fun k28=>
   (idx x0 o0).bind fun l9=>
   (x1 l9).bind fun yB=>
   bif yB then
    some (o0)
   else
    k28 ()
  else
   k18 ()
  ) big ((0:Int))
theorem en69:Enters Try.prog 69:=enters_of Try.func69 (by kernel_rfl) rfl
theorem wk69 {gI:Gh} {wI:World} {x0:List Int} {x1:Int→Option Bool} {up0:Value} (rp0:RV gI.m wI x0 up0) {up1:Value} (rp1:Cc Try.prog x1 up1 gI wI) {r:Int} (h:f69 x0 x1=some r):Fn Try.prog 69 #[up0,up1] gI wI (fun _ _ v=>v=.int .i64 (r)):=by
 unfold f69 at h;refine Gz Try.func69 rfl (Nat.le_of_ble_eq_true rfl) fun g0 hm hfr=>?_;have rp0:RV g0.m wI x0 up0:=hm ▸ rp0;obtain ⟨ff1,fa1,fc1,rfl,fen1,fcl1⟩:=rp1;show E _ 19 none _ _ _ _ _;refine Zf (Za (Zg (.int .i64 (0)) rfl rfl ?_));refine Zb (Zd (Zq h (fun (s:Unit) e w=>∃ (g:Gh) ,Fr gI wI g w) (fun X18 k18 zB h=>?_) ?_))
 ·refine Zf (Za (Zn up0 rfl rfl ?_))
  refine Zz (.int .i64 ((x0).length:Int)) (Qv Try.underlying26 rfl rp0) rfl ?_;refine Zn (.int .i64 (0)) rfl rfl ?_;refine Zb (Zd (Zr ?_));refine He h (fun (s:Int) e w=>∃ (g:Gh) ,Fr gI wI g w∧e 0=up0∧RV g.m w (x0:List Int) up0∧e 1=(.func (.func ff1) fa1 fc1)∧e 7=.int .i64 (((x0).length:Int))∧e 8=.int .i64 (s)) ⟨g0,hfr,rfl,rp0,rfl,rfl,rfl⟩ (fun X19 k19 cC=>?_);rintro o0 oD aE ⟨n9,hfr,l8,l5,n8,v8,t5⟩ h;refine Zf (Za (Gp (.bool ((decide (o0 < ((x0).length:Int))))) t5 v8 rfl rfl ?_));refine Zb (Zd (Zf ?_));rcases Zt h with ⟨i6,h⟩ | ⟨i6,h⟩
  ·refine Tv i6 rfl ?_
   refine Zu (Zd (Zq h (fun (s:Unit) e w=>∃ (g:Gh) ,Fr gI wI g w∧e 0=up0∧RV g.m w (x0:List Int) up0∧e 1=(.func (.func ff1) fa1 fc1)∧e 7=.int .i64 (((x0).length:Int))∧e 8=.int .i64 (o0)) (fun X28 k28 uC h=>?_) ?_))
   ·refine Zr ?_
    refine Zf (Za (Zo t5 rfl ?_));refine Zg (.int .i64 (o0)) rfl rfl ?_;refine Zb (Zd (Zf (Za (Zo n8 rfl ?_))));refine Zo l8 rfl ?_;refine Zn (.int .i64 (o0)) rfl rfl ?_;obtain ⟨l9,aB,h⟩:=Gd h;refine Zz (We up0 o0 1) (Zh (α:=Int) Try.underlying26 Try.sizeOf3 rfl l5 rfl aB) rfl ?_;have bD:=Wp l5 aB;refine Ze .plain rfl (Gj (g:=n9) Try.isAgg3 Try.sizeOf3 rfl bD fun bE cD=>?_);obtain rfl:=Zj.1 cD;obtain ⟨yB,vC,h⟩:=Gd h;refine Ze .plain rfl (Dm (g:=n9) (vs:=[.int .i64 (l9)]) rfl fen1 (.cons rfl .nil) (fcl1 _ _ hfr.ch _ _ _  (Zj.2 rfl) vC) fun lD iE lE hs hr=>?_);have hfr:=hfr.ext hs;have l5:=l5.ext hs;obtain rfl:=Wc.1 hr;refine Zb (Zd ?_);rcases Zt h with ⟨g8,h⟩ | ⟨g8,h⟩
    ·refine Tv g8 rfl ?_
     refine Zf (Za (Zn (.int .i64 (o0)) rfl rfl ?_));refine Zg (.int .i64 (o0)) rfl rfl ?_;refine Zb (Zd (Gq (Qh ?_)));refine Tc ?_;refine Tc ?_;refine Qh ?_;refine Tc ?_;obtain rfl:=sinj h;exact Qq rfl rfl (show _=.int .i64 (o0) from rfl) ⟨_,hfr,rfl⟩
    ·refine Tu g8 rfl ?_
     exact Zu (To (Zd (uC () _ _ ⟨lD,hfr,l8,l5,n8,v8,t5⟩ h)))
   ·rintro _ yD mE ⟨nD, hfr, lB, mB, nB, oB, vB⟩ h
    refine Za (Gp (.int .i64 ((w64 (o0 + (1:Int))))) vB rfl rfl rfl ?_);refine Zn (.int .i64 ((w64 (o0 + (1:Int))))) rfl rfl ?_;exact Zb (Zd (cC ((w64 (o0 + (1:Int)))) _ _ ⟨nD,hfr,lB,mB,nB,oB,rfl⟩ h))
  ·refine Tu i6 rfl ?_
   refine Qj ?_;refine Ta ?_;refine Ta ?_;refine Tp ?_;exact Zd (zB () _ _ ⟨n9,hfr⟩ h)
 ·rintro _ zD oE ⟨rE, hfr⟩ h
  refine Zf (Za (Zg (.int .i64 (-1)) rfl rfl ?_));refine Zb (Zd (Gq ?_));obtain rfl:=sinj h;exact Qq rfl rfl (show _=.int .i64 (-1) from rfl) ⟨_,hfr,rfl⟩
def f70 (x0:Int) (z0:List Bool):Option (Bool):=
 (idx z0 x0).bind fun y2=>
 (Hy (w64 ((w64 (x0 + ((z0).length:Int))) - (1:Int))) ((z0).length:Int)).bind fun y8=>
 (idx z0 y8).bind fun y9=>
 some ((!(y2 == y9)))
theorem en70:Enters Try.prog 70:=enters_of Try.func70 (by kernel_rfl) rfl
theorem wk70 {gI:Gh} {wI:World} {x0:Int} {z0:List Bool} {pf0:Value} (qf0:PT gI.m wI z0 pf0) {r:Bool} (h:f70 x0 z0=some r):Fn Try.prog 70 #[.int .i64 (x0),pf0] gI wI (fun _ _ v=>v=.bool (r)):=by
 unfold f70 at h;refine Gz Try.func70 rfl (Nat.le_of_ble_eq_true rfl) fun g0 hm hfr=>?_;have qf0:PT g0.m wI z0 pf0:=hm ▸ qf0;show E _ 20 none _ _ _ _ _;refine Zf (Za (Zg (.bool false) rfl rfl ?_));refine Zb (Zd (Zf (Zs (x:=.tmp 1) Try.isAgg114 Try.sizeOf114 qf0 fun v1 r1 hl1=>?_)));obtain ⟨y2,hy2,h⟩:=Gd h;have q3:=Wp r1 hy2;refine Zs (x:=.tmp 6) Try.isAgg4 Try.sizeOf4 q3 fun v4 r4 t5=>?_;obtain rfl:=Wc.1 r4;refine Zs (x:=.tmp 1) Try.isAgg114 Try.sizeOf114 qf0 fun v5 r5 i6=>?_;refine Zs (x:=.tmp 1) Try.isAgg114 Try.sizeOf114 qf0 fun v6 r6 g8=>?_;refine Zs (x:=.tmp 1) Try.isAgg114 Try.sizeOf114 qf0 fun v7 r7 hl7=>?_;obtain ⟨y8,l8,h⟩:=Gd h;obtain ⟨y9,o0,h⟩:=Gd h;have n8:=Wp r5 o0;refine Zs (x:=.tmp 17) Try.isAgg4 Try.sizeOf4 n8 fun l9 v8 l5=>?_;obtain rfl:=Wc.1 v8;refine Qu (g:=g0) (n:=17) [] [0,1,2,3,4,5,6,7,8,9,10,11,12,13,14,15,16] rfl Wt (by kernel_rfl) trivial ?_;refine Qm (c:=v1) rfl rfl .plain (fun _ _ h=>h.ch) hl1 rfl ?_;refine Gc (.int .i64 (x0)) rfl rfl (Zk rfl) ?_;refine Gc (We v1 x0 1) rfl rfl (Zh (α:=Bool) Try.underlying114 Try.sizeOf4 rfl r1 rfl hy2) ?_;refine Qm (c:=.bool (y2)) rfl rfl .plain (fun _ _ h=>h.ch) t5 rfl ?_;refine Qm (c:=v5) rfl rfl .plain (fun _ _ h=>h.ch) i6 rfl ?_;refine Gc (.int .i64 (x0)) rfl rfl (Zk rfl) ?_;refine Qm (c:=v6) rfl rfl .plain (fun _ _ h=>h.ch) g8 rfl ?_;refine Gc (.int .i64 ((z0).length:Int)) rfl rfl (Qv Try.underlying114 rfl r6) ?_;refine Gc (.int .i64 ((w64 (x0 + ((z0).length:Int))))) rfl rfl (Te rfl rfl rfl) ?_;refine Gc (.int .i64 ((w64 ((w64 (x0 + ((z0).length:Int))) - (1:Int))))) rfl rfl (Te rfl rfl rfl) ?_;refine Qm (c:=v7) rfl rfl .plain (fun _ _ h=>h.ch) hl7 rfl ?_;refine Gc (.int .i64 ((z0).length:Int)) rfl rfl (Qv Try.underlying114 rfl r7) ?_;refine Gc (.int .i64 (y8)) rfl rfl (Te rfl rfl (congrArg (Option.map (Value.int .i64)) l8)) ?_;refine Gc (We v5 y8 1) rfl rfl (Zh (α:=Bool) Try.underlying114 Try.sizeOf4 rfl r5 rfl o0) ?_;refine Qm (c:=.bool (y9)) rfl rfl .plain (fun _ _ h=>h.ch) l5 rfl ?_;refine Gc (.bool ((!(y2 == y9)))) rfl rfl (P_bool Try.underlying4 rfl rfl rfl) ?_;refine Gc (.bool ((!(y2 == y9)))) rfl rfl (Wd rfl) ?_;refine Vn fun n9 aB hs=>?_;have hfr:=hfr.ext hs;clear hs;refine Zb (Zd (Gq ?_));obtain rfl:=sinj h;exact Qq rfl rfl (show _=.bool ((!(y2 == y9))) from rfl) ⟨_,hfr,rfl⟩
def f71 (x0:Int) (z0:Int) (z1:Int):Option (Bool):=
 Option.bind (α:=Bool) (
  bif (decide (x0 < z0)) then
   some (true)
  else
   some ((decide (x0 > z1)))
  ) fun o0=>
 some (o0)
theorem en71:Enters Try.prog 71:=enters_of Try.func71 (by kernel_rfl) rfl
theorem wk71 {gI:Gh} {wI:World} {x0:Int} {z0:Int} {z1:Int} {pf0:Value} (qf0:PT gI.m wI z0 pf0) {pf1:Value} (qf1:PT gI.m wI z1 pf1) {r:Bool} (h:f71 x0 z0 z1=some r):Fn Try.prog 71 #[.int .i64 (x0),pf0,pf1] gI wI (fun _ _ v=>v=.bool (r)):=by
 unfold f71 at h;refine Gz Try.func71 rfl (Nat.le_of_ble_eq_true rfl) fun g0 hm hfr=>?_;have qf0:PT g0.m wI z0 pf0:=hm ▸ qf0;have qf1:PT g0.m wI z1 pf1:=hm ▸ qf1;show E _ 13 none _ _ _ _ _;refine Zf (Za (Zg (.bool false) rfl rfl ?_));refine Zb (Zd ?_);obtain ⟨o0,hx,h⟩:=Gd h;refine Gx (fun e w=>∃ (g:Gh) ,Fr gI wI g w∧e 4=.bool (o0)) (fun Q' hQ=>?_) (fun t5 w7 hR=>?_)
 ·replace h := hx
  clear hx;refine Za (Zn (.int .i64 (x0)) rfl rfl ?_);refine Ze .plain rfl (Gj (g:=g0) Try.isAgg3 Try.sizeOf3 rfl qf0 fun v4 r4=>?_);obtain rfl:=Zj.1 r4;refine Gp (.bool ((decide (x0 < z0)))) rfl rfl rfl rfl ?_;refine Zn (.bool ((decide (x0 < z0)))) rfl rfl ?_;rcases Zt h with ⟨hc5,h⟩ | ⟨hc5,h⟩
  ·refine Gb rfl rfl hc5 rfl rfl ?_
   refine Gb rfl rfl hc5 rfl rfl ?_;refine Gb rfl rfl hc5 rfl rfl ?_;refine Zz (.bool true) (Zl (b:=(decide (x0 < z0))) rfl (Qn hc5 rfl)) rfl ?_;refine Zg (.bool true) rfl rfl ?_;refine Zb ?_;obtain rfl:=sinj h;exact hQ _ _ ⟨g0,hfr,rfl⟩
  ·refine Ga (.int .i64 (x0)) (Zk rfl) rfl rfl hc5 rfl ?_
   refine Ze (.yes2 rfl rfl hc5) rfl (Gj (g:=g0) Try.isAgg3 Try.sizeOf3 rfl qf1 fun v6 r6=>?_);obtain rfl:=Zj.1 r6;refine Ga (.bool ((decide (x0 > z1)))) (Te rfl rfl rfl) rfl rfl hc5 rfl ?_;refine Zz (.bool ((decide (x0 > z1)))) (Zl (b:=(decide (x0 < z0))) rfl (Tw hc5 rfl)) rfl ?_;refine Zg (.bool ((decide (x0 > z1)))) rfl rfl ?_;refine Zb ?_;obtain rfl:=sinj h;exact hQ _ _ ⟨g0,hfr,rfl⟩
 ·clear hx
  obtain ⟨g7,hfr,l5⟩:=hR;refine Gq ?_;obtain rfl:=sinj h;exact Qq rfl rfl (show _=.bool (o0) from l5) ⟨_,hfr,rfl⟩
def f81 (x0:List Zy) (x1:Zy→Option Bool):Option (Int):=
 jn (σ:=Unit) (fun _=>
  some ((-1:Int))
  ) fun k18=>
 lp (σ:=Int) (fun k19 o0=>
  bif (decide (o0 < ((x0).length : Int))) then
   jn (σ:=Unit) (fun _=>
    k19 ((w64 (o0 + (1:Int))))
    ) fun k28=>
   (idx x0 o0).bind fun vB=>
   (x1 vB).bind fun yB=>
   bif yB then
    some (o0)
   else
    k28 ()
  else
   k18 ()
  ) big ((0:Int))
theorem en81:Enters Try.prog 81:=enters_of Try.func81 (by kernel_rfl) rfl
theorem wk81 {gI:Gh} {wI:World} {x0:List Zy} {x1:Zy→Option Bool} {up0:Value} (rp0:RV gI.m wI x0 up0) {up1:Value} (rp1:Cc Try.prog x1 up1 gI wI) {r:Int} (h:f81 x0 x1=some r):Fn Try.prog 81 #[up0,up1] gI wI (fun _ _ v=>v=.int .i64 (r)):=by
 unfold f81 at h;refine Gz Try.func81 rfl (Nat.le_of_ble_eq_true rfl) fun g0 hm hfr=>?_;have rp0:RV g0.m wI x0 up0:=hm ▸ rp0;obtain ⟨ff1,fa1,fc1,rfl,fen1,fcl1⟩:=rp1;show E _ 19 none _ _ _ _ _;refine Zf (Za (Zg (.int .i64 (0)) rfl rfl ?_));refine Zb (Zd (Zq h (fun (s:Unit) e w=>∃ (g:Gh) ,Fr gI wI g w) (fun X18 k18 zB h=>?_) ?_))
 ·refine Zf (Za (Zn up0 rfl rfl ?_))
  refine Zz (.int .i64 ((x0).length:Int)) (Qv Try.underlying94 rfl rp0) rfl ?_;refine Zn (.int .i64 (0)) rfl rfl ?_;refine Zb (Zd (Zr ?_));refine He h (fun (s:Int) e w=>∃ (g:Gh) ,Fr gI wI g w∧e 0=up0∧RV g.m w (x0:List Zy) up0∧e 1=(.func (.func ff1) fa1 fc1)∧e 7=.int .i64 (((x0).length:Int))∧e 8=.int .i64 (s)) ⟨g0,hfr,rfl,rp0,rfl,rfl,rfl⟩ (fun X19 k19 cC=>?_);rintro o0 yD bE ⟨l9,hfr,l8,l5,n8,v8,t5⟩ h;refine Zf (Za (Gp (.bool ((decide (o0 < ((x0).length:Int))))) t5 v8 rfl rfl ?_));refine Zb (Zd (Zf ?_));rcases Zt h with ⟨i6,h⟩ | ⟨i6,h⟩
  ·refine Tv i6 rfl ?_
   refine Zu (Zd (Zq h (fun (s:Unit) e w=>∃ (g:Gh) ,Fr gI wI g w∧e 0=up0∧RV g.m w (x0:List Zy) up0∧e 1=(.func (.func ff1) fa1 fc1)∧e 7=.int .i64 (((x0).length:Int))∧e 8=.int .i64 (o0)) (fun X28 k28 uC h=>?_) ?_))
   ·refine Zr ?_
    refine Zf (Za (Zo t5 rfl ?_));refine Zg (.int .i64 (o0)) rfl rfl ?_;refine Zb (Zd (Zf (Za (Zo n8 rfl ?_))));refine Zo l8 rfl ?_;refine Zn (.int .i64 (o0)) rfl rfl ?_;obtain ⟨vB,n9,h⟩:=Gd h;refine Zz (We up0 o0 3) (Zh (α:=Zy) Try.underlying94 Try.sizeOf93 rfl l5 rfl n9) rfl ?_;have bD:=Wp l5 n9;refine Ze .plain rfl (Gj (g:=l9) Try.isAgg93 Try.sizeOf93 rfl bD fun cD lD=>?_);obtain ⟨yB,vC,h⟩:=Gd h;refine Ze .plain rfl (Dm (g:=l9) (vs:=[cD]) rfl fen1 (.cons rfl .nil) (fcl1 _ _ hfr.ch _ _ _  lD vC) fun nD iE lE hs hr=>?_);have hfr:=hfr.ext hs;have l5:=l5.ext hs;obtain rfl:=Wc.1 hr;refine Zb (Zd ?_);rcases Zt h with ⟨g8,h⟩ | ⟨g8,h⟩
    ·refine Tv g8 rfl ?_
     refine Zf (Za (Zn (.int .i64 (o0)) rfl rfl ?_));refine Zg (.int .i64 (o0)) rfl rfl ?_;refine Zb (Zd (Gq (Qh ?_)));refine Tc ?_;refine Tc ?_;refine Qh ?_;refine Tc ?_;obtain rfl:=sinj h;exact Qq rfl rfl (show _=.int .i64 (o0) from rfl) ⟨_,hfr,rfl⟩
    ·refine Tu g8 rfl ?_
     exact Zu (To (Zd (uC () _ _ ⟨nD,hfr,l8,l5,n8,v8,t5⟩ h)))
   ·rintro _ zD mE ⟨oD, hfr, aB, lB, mB, nB, oB⟩ h
    refine Za (Gp (.int .i64 ((w64 (o0 + (1:Int))))) oB rfl rfl rfl ?_);refine Zn (.int .i64 ((w64 (o0 + (1:Int))))) rfl rfl ?_;exact Zb (Zd (cC ((w64 (o0 + (1:Int)))) _ _ ⟨oD,hfr,aB,lB,mB,nB,rfl⟩ h))
  ·refine Tu i6 rfl ?_
   refine Qj ?_;refine Ta ?_;refine Ta ?_;refine Tp ?_;exact Zd (zB () _ _ ⟨l9,hfr⟩ h)
 ·rintro _ aE oE ⟨rE, hfr⟩ h
  refine Zf (Za (Zg (.int .i64 (-1)) rfl rfl ?_));refine Zb (Zd (Gq ?_));obtain rfl:=sinj h;exact Qq rfl rfl (show _=.int .i64 (-1) from rfl) ⟨_,hfr,rfl⟩
def f82 (x0:Gi) (σ:Type) (cons:Vh σ Zv) (s0:σ):Option σ:=
 Option.bind (α:=(List Zv)) (
  lp (σ:=(List Zv) × Int) (fun kQ (gG,i6)=>
   bif (decide (i6 < (w64 ((((((x0).FaultLoom).Design).Rows).length : Int) * (((x0).FaultLoom).Design).Hooks)))) then
    Option.bind (α:=(List Zv)) (
     (quo64 i6 (((x0).FaultLoom).Design).Hooks).bind fun y125=>
     (Hy i6 (((x0).FaultLoom).Design).Hooks).bind fun l9=>
     (apnd 40 gG (([(⟨(1:Int),y125,l9,0,false⟩:Zv)]:List Zv))).bind fun qK=>
     some (qK)
     ) fun oB=>
    kQ (oB,(w64 (i6 + (1:Int))))
   else
    some (gG)
   ) big ([],(0:Int))
  ) fun uC=>
 Option.bind (α:=(List Zv)) (
  lp (σ:=(List Zv) × Int) (fun sK (s7_169,o0)=>
   bif (decide (o0 < (((x0).FaultLoom).Design).Hooks)) then
    Option.bind (α:=(List Zv)) (
     (apnd 40 s7_169 (([(⟨(2:Int),0,o0,0,false⟩:Zv),(⟨(2:Int),0,o0,0,true⟩:Zv)]:List Zv))).bind fun y180=>
     some (y180)
     ) fun vB=>
    sK (vB,(w64 (o0 + (1:Int))))
   else
    some (s7_169)
   ) big (uC,(0:Int))
  ) fun vC=>
 Option.bind (α:=(List Zv)) (
  lp (σ:=(List Zv) × Int) (fun tK (zE,g8)=>
   bif (decide (g8 < (2 : Int))) then
    Option.bind (α:=(List Zv)) (
     (idx ((⟨List.toArray [(3:Int),(4:Int)],rfl⟩:Vector Int 2)).toList g8).bind fun lB=>
     lp (σ:=(List Zv) × Int) (fun uK (cF,l5)=>
      bif (decide (l5 < (((((x0).FaultLoom).Design).Rows).length : Int))) then
       Option.bind (α:=(List Zv)) (
        (apnd 40 cF (([(⟨lB,l5,0,0,false⟩:Zv)]:List Zv))).bind fun y246=>
        some (y246)
        ) fun yB=>
       uK (yB,(w64 (l5 + (1:Int))))
      else
       some (cF)
      ) big (zE,(0:Int))
     ) fun zB=>
    tK (zB,(w64 (g8 + (1:Int))))
   else
    some (zE)
   ) big (vC,(0:Int))
  ) fun bD=>
 Option.bind (α:=(List Zv)) (
  lp (σ:=(List Zv) × Int) (fun vK (dF,t5)=>
   bif (decide (t5 < (((((x0).FaultLoom).Harness).Warps).length : Int))) then
    Option.bind (α:=(List Zv)) (
     (apnd 40 dF (([(⟨(5:Int),0,0,t5,false⟩:Zv)]:List Zv))).bind fun xK=>
     some (xK)
     ) fun cC=>
    vK (cC,(w64 (t5 + (1:Int))))
   else
    some (dF)
   ) big (bD,(0:Int))
  ) fun l8=>
 lp (σ:=σ × Int) (fun yK (eF,n8)=>
  bif (decide (n8 < ((l8).length : Int))) then
   jn (σ:=σ) (fun rF=>
    yK (rF,(w64 (n8 + (1:Int))))
    ) fun zK=>
   (idx l8 n8).bind fun dI=>
   (cons eF dI).bind fun (iG,uE)=>
   bif (!iG) then
    some uE
   else
    zK (uE)
  else
   some eF
  ) big (s0,(0:Int))
theorem en82:Enters Try.prog 82:=enters_of Try.func82 (by kernel_rfl) rfl
theorem wk82 {σ:Type} {cons:Vh σ Zv} {s0 r:σ} {gI:Gh} {wI:World} {x0:Gi} {up0:Value} (rp0:RV gI.m wI x0 up0) (h:f82 x0 σ cons s0=some r):Fq Try.prog (RA1 (α:=Zv)) 82 #[up0] #[] gI wI cons s0 r:=by
 unfold f82 at h;refine Sy Try.func82 rfl (Nat.le_of_ble_eq_true rfl) fun l B J g0 hm hAb hRo hfr=>?_;have rp0:RV g0.m wI x0 up0:=hm ▸ rp0;show E _ 96 none _ _ (Jw #[up0,.func (.yield l) #[] #[]]) _ _;refine Zf (Za (Ze .plain rfl (Tx (g:=g0) rfl rp0 fun g1 w1 p1 hs q1=>?_)));have hfr:=hfr.ext_ hAb hs;refine Zb (Zd (Zf ?_));have q2:=Zm (Ts).1 q1;have q3:=Zm (Qe).1 q2;have q4:=Zm (Qg).1 q3;refine Zs (x:=.tmp 18) Try.isAgg26 Try.sizeOf26 q4 fun v5 r5 gS=>?_;have q6:=Zm (Ts).1 q1;have q7:=Zm (Qe).1 q6;have q8:=Zm (Ql).1 q7;refine Zs (x:=.tmp 23) Try.isAgg3 Try.sizeOf3 q8 fun v9 r9 iS=>?_;obtain rfl:=Zj.1 r9;have lQ:=Zm (Ts).1 q1;have mQ:=Zm (Qp).1 lQ;have jS:=Zm (Tn).1 mQ;refine Zs (x:=.tmp 27) Try.isAgg26 Try.sizeOf26 jS fun lS mS nQ=>?_;refine Qu (g:=g1) (n:=17) [] [0,1,2,3,4,5,6,7,8,9,10,11,12,13,14,15,16] rfl Wt (by kernel_rfl) trivial ?_;refine Gc (Gk p1 0) rfl rfl (Zc Uf rfl (PT.ptr q1)) ?_;refine Gc (Gk (Gk p1 0) 2) rfl rfl (Zc Ji rfl (PT.ptr q2)) ?_;refine Gc (Gk (Gk (Gk p1 0) 2) 1) rfl rfl (Zc Kk rfl (PT.ptr q3)) ?_;refine Qm (c:=v5) rfl rfl .plain (fun _ _ h=>h.ch) gS rfl ?_;refine Gc (.int .i64 (((((x0).FaultLoom).Design).Rows).length:Int)) rfl rfl (Qv Try.underlying26 rfl r5) ?_;refine Gc (Gk p1 0) rfl rfl (Zc Uf rfl (PT.ptr q1)) ?_;refine Gc (Gk (Gk p1 0) 2) rfl rfl (Zc Ji rfl (PT.ptr q6)) ?_;refine Gc (Gk (Gk (Gk p1 0) 2) 0) rfl rfl (Zc Hs rfl (PT.ptr q7)) ?_;refine Qm (c:=.int .i64 ((((x0).FaultLoom).Design).Hooks)) rfl rfl .plain (fun _ _ h=>h.ch) iS rfl ?_;refine Gc (Gk p1 0) rfl rfl (Zc Uf rfl (PT.ptr q1)) ?_;refine Gc (Gk (Gk p1 0) 0) rfl rfl (Zc Hw rfl (PT.ptr lQ)) ?_;refine Gc (Gk (Gk (Gk p1 0) 0) 1) rfl rfl (Zc Kx rfl (PT.ptr mQ)) ?_;refine Qm (c:=lS) rfl rfl .plain (fun _ _ h=>h.ch) nQ rfl ?_;refine Gc (.int .i64 (((((x0).FaultLoom).Harness).Warps).length:Int)) rfl rfl (Qv Try.underlying26 rfl mS) ?_;refine Gc (.int .i64 (((((x0).FaultLoom).Design).Rows).length:Int)) rfl rfl (Wd rfl) ?_;refine Gc (.int .i64 ((((x0).FaultLoom).Design).Hooks)) rfl rfl (Wd rfl) ?_;refine Gc (.int .i64 (((((x0).FaultLoom).Harness).Warps).length:Int)) rfl rfl (Wd rfl) ?_;refine Vn fun nS yU hs=>?_;have hfr:=hfr.ext_ hAb hs;clear hs;refine Zb (Zd (Zf (Za (Zg (.slice none 0 0) rfl rfl ?_))));refine Zb (Zd ?_);obtain ⟨uC,hx,h⟩:=Gd h;refine Gx (fun e w=>∃ (g:Gh) (v7:Value),FrY gI wI B J (s0) g w∧e 1=(.func (.yield l) #[] #[])∧e 4=.int .i64 ((((((x0).FaultLoom).Design).Rows).length:Int))∧e 5=.int .i64 ((((x0).FaultLoom).Design).Hooks)∧e 6=.int .i64 ((((((x0).FaultLoom).Harness).Warps).length:Int))∧e 7=v7∧RV g.m w (uC:List Zv) v7∧OS 1007 g w 41 (uC:List Zv) v7) (fun Q' hQ=>?_) (fun pS pT hR=>?_)
 ·replace h := hx
  clear hx;refine Zf (Za (Zn (.int .i64 (((((x0).FaultLoom).Design).Rows).length:Int)) rfl rfl ?_));refine Zn (.int .i64 ((((x0).FaultLoom).Design).Hooks)) rfl rfl ?_;refine Zz (.int .i64 ((w64 ((((((x0).FaultLoom).Design).Rows).length:Int) * (((x0).FaultLoom).Design).Hooks)))) (Te rfl rfl rfl) rfl ?_;refine Zn (.int .i64 (0)) rfl rfl ?_;refine Zb (Zd (Zr ?_));refine He h (fun (s:(List Zv) × Int) e w=>∃ (g:Gh) (v7:Value),FrY gI wI B J (s0) g w∧e 1=(.func (.yield l) #[] #[])∧e 4=.int .i64 ((((((x0).FaultLoom).Design).Rows).length:Int))∧e 5=.int .i64 ((((x0).FaultLoom).Design).Hooks)∧e 6=.int .i64 ((((((x0).FaultLoom).Harness).Warps).length:Int))∧e 7=v7∧RV g.m w (s.1:List Zv) v7∧OS 1007 g w 41 (s.1:List Zv) v7∧e 32=.int .i64 ((w64 ((((((x0).FaultLoom).Design).Rows).length:Int) * (((x0).FaultLoom).Design).Hooks)))∧e 33=.int .i64 (s.2)) ⟨nS,(.slice none 0 0),hfr,rfl,rfl,rfl,rfl,rfl,Kg,OS.nil,rfl,rfl⟩ (fun X95 kQ oQ=>?_);rintro ⟨gG,i6⟩ sT oS ⟨aL,mI,hfr,nI,pI,vE,qI,sI,xE,yE,zG,sF⟩ h;refine Zf (Za (Zz (.bool ((decide (i6 < (w64 ((((((x0).FaultLoom).Design).Rows).length:Int) * (((x0).FaultLoom).Design).Hooks)))))) (Te sF zG rfl) rfl ?_));refine Zb (Zd (Zf ?_));rcases Zt h with ⟨iI,h⟩ | ⟨iI,h⟩
  ·refine Tv iI rfl ?_
   refine Zu (Zd ?_);obtain ⟨oB,hx,h⟩:=Gd h;refine Gx (fun e w=>∃ (g:Gh) (v7:Value),FrY gI wI B J (s0) g w∧e 1=(.func (.yield l) #[] #[])∧e 4=.int .i64 ((((((x0).FaultLoom).Design).Rows).length:Int))∧e 5=.int .i64 ((((x0).FaultLoom).Design).Hooks)∧e 6=.int .i64 ((((((x0).FaultLoom).Harness).Warps).length:Int))∧e 7=v7∧RV g.m w (oB:List Zv) v7∧OS 1007 g w 41 (oB:List Zv) v7∧e 32=.int .i64 ((w64 ((((((x0).FaultLoom).Design).Rows).length:Int) * (((x0).FaultLoom).Design).Hooks)))∧e 33=.int .i64 (i6)) (fun Q' hQ=>?_) (fun qS tT hR=>?_)
   ·replace h := hx
    clear hx;refine Zr ?_;refine Zf (Za (Zo sF rfl ?_));refine Zg (.int .i64 (i6)) rfl rfl ?_;refine Zb (Zd ?_);obtain ⟨y125,lP,h⟩:=Gd h;obtain ⟨l9,mP,h⟩:=Gd h;have bL:RV aL.m oS (⟨(1:Int),y125,l9,0,false⟩:Zv) (.agg (Gy [[.int .i64 0],[.int .i64 0],[.int .i64 0],[.int .i64 0],[.bool false]] [(0,.int .i64 (1)),(1,.int .i64 (y125)),(2,.int .i64 (l9))]).flatten.toArray):=Th rfl (Gu (rfl) (Gu (rfl) (Gu (rfl) (Gu (Zx) (Tl (Wu))))));generalize nP:(Value.agg (Gy [[.int .i64 0],[.int .i64 0],[.int .i64 0],[.int .i64 0],[.bool false]] [(0,.int .i64 (1)),(1,.int .i64 (y125)),(2,.int .i64 (l9))]).flatten.toArray)=dL at bL;refine Qu (g:=aL) (n:=9) [(8,(fun v g w=>RV g.m w ([(⟨(1:Int),y125,l9,0,false⟩:Zv)]:List Zv) v∧OS 3044 g w 41 ([(⟨(1:Int),y125,l9,0,false⟩:Zv)]:List Zv) v∧Ug v))] [0,1,2,3,4,5,6,7,8] rfl Wt (by kernel_rfl) (⟨fun _=>Sq Vb (Sq up_os (Rs _)),trivial⟩) ?_;refine Gc mI rfl rfl (Zk sI) ?_;refine Gc (.int .i64 (i6)) rfl rfl (Zk rfl) ?_;refine Gc (.int .i64 ((((x0).FaultLoom).Design).Hooks)) rfl rfl (Zk vE) ?_;refine Gc (.int .i64 (y125)) rfl rfl (Te rfl rfl (congrArg (Option.map (Value.int .i64)) lP)) ?_;refine Gc (.int .i64 (i6)) rfl rfl (Zk rfl) ?_;refine Gc (.int .i64 ((((x0).FaultLoom).Design).Hooks)) rfl rfl (Zk vE) ?_;refine Gc (.int .i64 (l9)) rfl rfl (Te rfl rfl (congrArg (Option.map (Value.int .i64)) mP)) ?_;refine Gc dL rfl rfl (nP ▸ Qb (vs:=[(0,.int .i64 (1)),(1,.int .i64 (y125)),(2,.int .i64 (l9))]) [[.int .i64 0],[.int .i64 0],[.int .i64 0],[.int .i64 0],[.bool false]] Ds rfl rfl (.cons rfl (.cons rfl (.cons rfl .nil))) ⟨⟨_,rfl,rfl⟩,⟨⟨_,rfl,rfl⟩,⟨⟨_,rfl,rfl⟩,trivial⟩⟩⟩) ?_;refine Uh (φ:=fun v g w=>RV g.m w ([(⟨(1:Int),y125,l9,0,false⟩:Zv)]:List Zv) v∧OS 3044 g w 41 ([(⟨(1:Int),y125,l9,0,false⟩:Zv)]:List Zv) v∧Ug v) rfl rfl .plain (fun g w hd=>Gl (g:=g) 3044 (xs:=([(⟨(1:Int),y125,l9,0,false⟩:Zv)]:List Zv)) (vs:=[dL]) Try.underlying42 Try.sizeOf41 Try.zeroValue41 rfl rfl (.cons rfl .nil) (RVs.cons (bL.ext hd.1) RVs.nil) rfl rfl fun g' w' v hs o r hxt hfl=>⟨g',hxt,r,o,hfl⟩) (fun aE hv=>?_);clear hv;refine Xr fun pQ uT hall=>?_;have hs:=hall.1;have hfr:=hfr.ext_ hAb hs;have xE:=xE.ext hs;have yE:=yE.ext hs;have qQ:=(Qw (A:=fun g w=>RV g.m w ([(⟨(1:Int),y125,l9,0,false⟩:Zv)]:List Zv) aE∧OS 3044 g w 41 ([(⟨(1:Int),y125,l9,0,false⟩:Zv)]:List Zv) aE∧Ug aE) 8 rfl hall).1;have o149:=(Qw (A:=fun g w=>RV g.m w ([(⟨(1:Int),y125,l9,0,false⟩:Zv)]:List Zv) aE∧OS 3044 g w 41 ([(⟨(1:Int),y125,l9,0,false⟩:Zv)]:List Zv) aE∧Ug aE) 8 rfl hall).2.1;clear hs hall;obtain ⟨qK,oP,h⟩:=Gd h;refine Ze .plain rfl (Wj (g:=pQ) (i:=1007) Try.underlying42 Sw rfl rfl yE xE rfl qQ oP fun rQ xT eL hs o150 sQ _=>?_);have hfr:=hfr.stp_ hAb hs rfl;refine Zg eL rfl rfl ?_;refine Zb (To ?_);obtain rfl:=sinj h;exact hQ _ _ ⟨rQ,(eL),hfr,nI,pI,vE,qI,rfl,sQ,o150,zG,sF⟩
   ·clear hx
    obtain ⟨tQ,gL,hfr,iL,jL,lL,mL,nL,oL,xL,lJ,mJ⟩:=hR;refine Za (Gp (.int .i64 ((w64 (i6 + (1:Int))))) mJ rfl rfl rfl ?_);refine Zn (.int .i64 ((w64 (i6 + (1:Int))))) rfl rfl ?_;exact Zb (Zd (oQ (oB,(w64 (i6 + (1:Int)))) _ _ ⟨tQ,(gL),hfr,iL,jL,lL,mL,nL,oL,xL,lJ,rfl⟩ h))
  ·refine Tu iI rfl ?_
   refine Qj ?_;refine Ta ?_;refine Ta ?_;refine Tp ?_;obtain rfl:=sinj h;exact hQ _ _ ⟨aL,(mI),hfr,nI,pI,vE,qI,sI,xE,yE⟩
 ·clear hx
  obtain ⟨uQ,yL,hfr,zL,aM,bM,cM,dM,eM,iM⟩:=hR;obtain ⟨vC,hx,h⟩:=Gd h;refine Gx (fun e w=>∃ (g:Gh) (v7:Value),FrY gI wI B J (s0) g w∧e 1=(.func (.yield l) #[] #[])∧e 4=.int .i64 ((((((x0).FaultLoom).Design).Rows).length:Int))∧e 6=.int .i64 ((((((x0).FaultLoom).Harness).Warps).length:Int))∧e 7=v7∧RV g.m w (vC:List Zv) v7∧OS 1007 g w 41 (vC:List Zv) v7) (fun Q' hQ=>?_) (fun rS vQ hR=>?_)
  ·replace h := hx
   clear hx;refine Zf (Za (Zo bM rfl ?_));refine Zn (.int .i64 (0)) rfl rfl ?_;refine Zb (Zd (Zr ?_));refine He h (fun (s:(List Zv) × Int) e w=>∃ (g:Gh) (v7:Value),FrY gI wI B J (s0) g w∧e 1=(.func (.yield l) #[] #[])∧e 4=.int .i64 ((((((x0).FaultLoom).Design).Rows).length:Int))∧e 6=.int .i64 ((((((x0).FaultLoom).Harness).Warps).length:Int))∧e 7=v7∧RV g.m w (s.1:List Zv) v7∧OS 1007 g w 41 (s.1:List Zv) v7∧e 47=.int .i64 ((((x0).FaultLoom).Design).Hooks)∧e 48=.int .i64 (s.2)) ⟨uQ,(yL),hfr,zL,aM,cM,dM,eM,iM,rfl,rfl⟩ (fun X168 sK pP=>?_);rintro ⟨s7_169,o0⟩ sS jM ⟨jG,kM,hfr,aH,cH,gH,jH,cD,lD,tF,bE⟩ h;refine Zf (Za (Zz (.bool ((decide (o0 < (((x0).FaultLoom).Design).Hooks)))) (Te bE tF rfl) rfl ?_));refine Zb (Zd (Zf ?_));rcases Zt h with ⟨kG,h⟩ | ⟨kG,h⟩
   ·refine Tv kG rfl ?_
    refine Zu (Zd ?_);obtain ⟨vB,hx,h⟩:=Gd h;refine Gx (fun e w=>∃ (g:Gh) (v7:Value),FrY gI wI B J (s0) g w∧e 1=(.func (.yield l) #[] #[])∧e 4=.int .i64 ((((((x0).FaultLoom).Design).Rows).length:Int))∧e 6=.int .i64 ((((((x0).FaultLoom).Harness).Warps).length:Int))∧e 7=v7∧RV g.m w (vB:List Zv) v7∧OS 1007 g w 41 (vB:List Zv) v7∧e 47=.int .i64 ((((x0).FaultLoom).Design).Hooks)∧e 48=.int .i64 (o0)) (fun Q' hQ=>?_) (fun tS yT hR=>?_)
    ·replace h := hx
     clear hx;refine Zr ?_;refine Zf (Za (Zo bE rfl ?_));refine Zg (.int .i64 (o0)) rfl rfl ?_;refine Zb (Zd (Za (Zo jH rfl ?_)));refine Zn (.int .i64 (o0)) rfl rfl ?_;have pM:RV jG.m jM (⟨(2:Int),0,o0,0,false⟩:Zv) (.agg (Gy [[.int .i64 0],[.int .i64 0],[.int .i64 0],[.int .i64 0],[.bool false]] [(0,.int .i64 (2)),(2,.int .i64 (o0))]).flatten.toArray):=Th rfl (Gu (rfl) (Gu (Zx) (Gu (rfl) (Gu (Zx) (Tl (Wu))))));generalize sP:(Value.agg (Gy [[.int .i64 0],[.int .i64 0],[.int .i64 0],[.int .i64 0],[.bool false]] [(0,.int .i64 (2)),(2,.int .i64 (o0))]).flatten.toArray)=qM at pM;refine Zz qM (sP ▸ Qb (vs:=[(0,.int .i64 (2)),(2,.int .i64 (o0))]) [[.int .i64 0],[.int .i64 0],[.int .i64 0],[.int .i64 0],[.bool false]] Ds rfl rfl (.cons rfl (.cons rfl .nil)) ⟨⟨_,rfl,rfl⟩,⟨⟨_,rfl,rfl⟩,trivial⟩⟩) rfl ?_;refine Zn (.int .i64 (o0)) rfl rfl ?_;have rM:RV jG.m jM (⟨(2:Int),0,o0,0,true⟩:Zv) (.agg (Gy [[.int .i64 0],[.int .i64 0],[.int .i64 0],[.int .i64 0],[.bool false]] [(0,.int .i64 (2)),(2,.int .i64 (o0)),(4,.bool true)]).flatten.toArray):=Th rfl (Gu (rfl) (Gu (Zx) (Gu (rfl) (Gu (Zx) (Tl (rfl))))));generalize tP:(Value.agg (Gy [[.int .i64 0],[.int .i64 0],[.int .i64 0],[.int .i64 0],[.bool false]] [(0,.int .i64 (2)),(2,.int .i64 (o0)),(4,.bool true)]).flatten.toArray)=sM at rM;refine Zz sM (tP ▸ Qb (vs:=[(0,.int .i64 (2)),(2,.int .i64 (o0)),(4,.bool true)]) [[.int .i64 0],[.int .i64 0],[.int .i64 0],[.int .i64 0],[.bool false]] Ds rfl rfl (.cons rfl (.cons rfl (.cons rfl .nil))) ⟨⟨_,rfl,rfl⟩,⟨⟨_,rfl,rfl⟩,⟨⟨_,rfl,rfl⟩,trivial⟩⟩⟩) rfl ?_;refine Ze .plain rfl (Gl (g:=jG) 3056 (xs:=([(⟨(2:Int),0,o0,0,false⟩:Zv),(⟨(2:Int),0,o0,0,true⟩:Zv)]:List Zv)) (vs:=[qM,sM]) Try.underlying42 Try.sizeOf41 Try.zeroValue41 rfl rfl (.cons rfl (.cons rfl .nil)) (RVs.cons pM (RVs.cons rM RVs.nil)) rfl rfl fun xQ zT aU hs o178 yQ hxt hfl=>?_);have hfr:=hfr.stp_ hAb hs rfl;have cD:=cD.stp hs;have lD:=lD.stp hs rfl;obtain ⟨y180,uP,h⟩:=Gd h;refine Ze .plain rfl (Wj (g:=xQ) (i:=1007) Try.underlying42 Sw rfl rfl lD cD rfl yQ uP fun zQ bU tM hs o179 aR _=>?_);have hfr:=hfr.stp_ hAb hs rfl;refine Zg tM rfl rfl ?_;refine Zb (To ?_);obtain rfl:=sinj h;exact hQ _ _ ⟨zQ,(tM),hfr,aH,cH,gH,rfl,aR,o179,tF,bE⟩
    ·clear hx
     obtain ⟨bR,uM,hfr,vM,xM,bN,cN,dN,eN,nJ,oJ⟩:=hR;refine Za (Gp (.int .i64 ((w64 (o0 + (1:Int))))) oJ rfl rfl rfl ?_);refine Zn (.int .i64 ((w64 (o0 + (1:Int))))) rfl rfl ?_;exact Zb (Zd (pP (vB,(w64 (o0 + (1:Int)))) _ _ ⟨bR,(uM),hfr,vM,xM,bN,cN,dN,eN,nJ,rfl⟩ h))
   ·refine Tu kG rfl ?_
    refine Qj ?_;refine Ta ?_;refine Ta ?_;refine Tp ?_;obtain rfl:=sinj h;exact hQ _ _ ⟨jG,(kM),hfr,aH,cH,gH,jH,cD,lD⟩
  ·clear hx
   obtain ⟨gN,iN,hfr,jN,kN,lN,mN,nN,oN⟩:=hR;obtain ⟨bD,hx,h⟩:=Gd h;refine Gx (fun e w=>∃ (g:Gh) (v7:Value),FrY gI wI B J (s0) g w∧e 1=(.func (.yield l) #[] #[])∧e 6=.int .i64 ((((((x0).FaultLoom).Harness).Warps).length:Int))∧e 7=v7∧RV g.m w (bD:List Zv) v7∧OS 1007 g w 41 (bD:List Zv) v7) (fun Q' hQ=>?_) (fun uS cU hR=>?_)
   ·replace h := hx
    clear hx;refine Zf (Za ?_);have pN:RV gN.m vQ (⟨List.toArray [(3:Int),(4:Int)],rfl⟩:Vector Int 2) (.agg (Gy [[.int .i64 0],[.int .i64 0]] [(0,.int .i64 (3)),(1,.int .i64 (4))]).flatten.toArray):=Th rfl (rep_vec (Zw rfl (Zw rfl flat_nil)) rfl);generalize vP:(Value.agg (Gy [[.int .i64 0],[.int .i64 0]] [(0,.int .i64 (3)),(1,.int .i64 (4))]).flatten.toArray)=nB at pN;refine Zz nB (vP ▸ P_buildA (vs:=[(0,.int .i64 (3)),(1,.int .i64 (4))]) [[.int .i64 0],[.int .i64 0]] Try.underlying180 layA_180 szA_39 rfl (by simp) (.cons rfl (.cons rfl .nil)) ⟨⟨_,rfl,rfl⟩,⟨⟨_,rfl,rfl⟩,trivial⟩⟩) rfl ?_;refine Zn (.int .i64 (0)) rfl rfl ?_;refine Zb (Zd (Zr ?_));refine He h (fun (s:(List Zv) × Int) e w=>∃ (g:Gh) (v7:Value),FrY gI wI B J (s0) g w∧e 1=(.func (.yield l) #[] #[])∧e 4=.int .i64 ((((((x0).FaultLoom).Design).Rows).length:Int))∧e 6=.int .i64 ((((((x0).FaultLoom).Harness).Warps).length:Int))∧e 7=v7∧RV g.m w (s.1:List Zv) v7∧OS 1007 g w 41 (s.1:List Zv) v7∧e 59=nB∧RV g.m w ((⟨List.toArray [(3:Int),(4:Int)],rfl⟩:Vector Int 2):Vector Int 2) nB∧e 60=.int .i64 (s.2)) ⟨gN,(iN),hfr,jN,kN,lN,mN,nN,oN,rfl,pN,rfl⟩ (fun X217 tK xP=>?_);rintro ⟨zE,g8⟩ vS dU ⟨qN,kH,hfr,lH,mH,nH,oH,pH,qH,uF,iE,lE⟩ h;refine Zf (Za (Gp (.bool ((decide (g8 < (2:Int))))) lE rfl rfl rfl ?_));refine Zb (Zd (Zf ?_));rcases Zt h with ⟨lG,h⟩ | ⟨lG,h⟩
    ·refine Tv lG rfl ?_
     refine Zu (Zd ?_);obtain ⟨zB,hx,h⟩:=Gd h;refine Gx (fun e w=>∃ (g:Gh) (v7:Value),FrY gI wI B J (s0) g w∧e 1=(.func (.yield l) #[] #[])∧e 4=.int .i64 ((((((x0).FaultLoom).Design).Rows).length:Int))∧e 6=.int .i64 ((((((x0).FaultLoom).Harness).Warps).length:Int))∧e 7=v7∧RV g.m w (zB:List Zv) v7∧OS 1007 g w 41 (zB:List Zv) v7∧e 59=nB∧RV g.m w ((⟨List.toArray [(3:Int),(4:Int)],rfl⟩:Vector Int 2):Vector Int 2) nB∧e 60=.int .i64 (g8)) (fun Q' hQ=>?_) (fun xS eU hR=>?_)
     ·replace h := hx
      clear hx;refine Zr ?_;refine Zf (Za ?_);obtain ⟨lB,jJ,h⟩:=Gd h;have dR:=RV_idxA iE jJ;refine Zz (.int .i64 (lB)) ((Zj.1 dR) ▸ P_indexA Try.underlying180 Try.isAgg39 Try.sizeOf39 uF iE lE jJ) rfl ?_;refine Zg (.int .i64 (lB)) rfl rfl ?_;refine Zb (Zd (Zf (Za (Zz (.int .i64 ((((((x0).FaultLoom).Design).Rows).length:Int))) (Zk mH) rfl ?_))));refine Zn (.int .i64 (0)) rfl rfl ?_;refine Zb (Zd (Zr ?_));refine He h (fun (s:(List Zv) × Int) e w=>∃ (g:Gh) (v7:Value),FrY gI wI B J (s0) g w∧e 1=(.func (.yield l) #[] #[])∧e 4=.int .i64 ((((((x0).FaultLoom).Design).Rows).length:Int))∧e 6=.int .i64 ((((((x0).FaultLoom).Harness).Warps).length:Int))∧e 7=v7∧RV g.m w (s.1:List Zv) v7∧OS 1007 g w 41 (s.1:List Zv) v7∧e 11=.int .i64 (lB)∧e 59=nB∧RV g.m w ((⟨List.toArray [(3:Int),(4:Int)],rfl⟩:Vector Int 2):Vector Int 2) nB∧e 60=.int .i64 (g8)∧e 63=.int .i64 ((((((x0).FaultLoom).Design).Rows).length:Int))∧e 64=.int .i64 (s.2)) ⟨qN,(kH),hfr,lH,mH,nH,oH,pH,qH,rfl,uF,iE,lE,rfl,rfl⟩ (fun X236 uK yP=>?_);rintro ⟨cF,l5⟩ yS eR ⟨jI,rN,hfr,sH,tH,uH,xH,nD,oD,vF,xF,aB,yF,aG,mE⟩ h;refine Zf (Za (Zz (.bool ((decide (l5 < (((((x0).FaultLoom).Design).Rows).length:Int))))) (Te mE aG rfl) rfl ?_));refine Zb (Zd (Zf ?_));rcases Zt h with ⟨mG,h⟩ | ⟨mG,h⟩
      ·refine Tv mG rfl ?_
       refine Zu (Zd ?_);obtain ⟨yB,hx,h⟩:=Gd h;refine Gx (fun e w=>∃ (g:Gh) (v7:Value),FrY gI wI B J (s0) g w∧e 1=(.func (.yield l) #[] #[])∧e 4=.int .i64 ((((((x0).FaultLoom).Design).Rows).length:Int))∧e 6=.int .i64 ((((((x0).FaultLoom).Harness).Warps).length:Int))∧e 7=v7∧RV g.m w (yB:List Zv) v7∧OS 1007 g w 41 (yB:List Zv) v7∧e 11=.int .i64 (lB)∧e 59=nB∧RV g.m w ((⟨List.toArray [(3:Int),(4:Int)],rfl⟩:Vector Int 2):Vector Int 2) nB∧e 60=.int .i64 (g8)∧e 63=.int .i64 ((((((x0).FaultLoom).Design).Rows).length:Int))∧e 64=.int .i64 (l5)) (fun Q' hQ=>?_) (fun zS gU hR=>?_)
       ·replace h := hx
        clear hx;refine Zr ?_;refine Zf (Za (Zo mE rfl ?_));refine Zg (.int .i64 (l5)) rfl rfl ?_;refine Zb (Zd (Za (Zo xH rfl ?_)));refine Zo vF rfl ?_;refine Zn (.int .i64 (l5)) rfl rfl ?_;have sN:RV jI.m eR (⟨lB,l5,0,0,false⟩:Zv) (.agg (Gy [[.int .i64 0],[.int .i64 0],[.int .i64 0],[.int .i64 0],[.bool false]] [(0,.int .i64 (lB)),(1,.int .i64 (l5))]).flatten.toArray):=Th rfl (Gu (rfl) (Gu (rfl) (Gu (Zx) (Gu (Zx) (Tl (Wu))))));generalize zP:(Value.agg (Gy [[.int .i64 0],[.int .i64 0],[.int .i64 0],[.int .i64 0],[.bool false]] [(0,.int .i64 (lB)),(1,.int .i64 (l5))]).flatten.toArray)=tN at sN;refine Zz tN (zP ▸ Qb (vs:=[(0,.int .i64 (lB)),(1,.int .i64 (l5))]) [[.int .i64 0],[.int .i64 0],[.int .i64 0],[.int .i64 0],[.bool false]] Ds rfl rfl (.cons rfl (.cons rfl .nil)) ⟨⟨_,rfl,rfl⟩,⟨⟨_,rfl,rfl⟩,trivial⟩⟩) rfl ?_;refine Ze .plain rfl (Gl (g:=jI) 3071 (xs:=([(⟨lB,l5,0,0,false⟩:Zv)]:List Zv)) (vs:=[tN]) Try.underlying42 Try.sizeOf41 Try.zeroValue41 rfl rfl (.cons rfl .nil) (RVs.cons sN RVs.nil) rfl rfl fun gR iU jU hs o244 iR hxt hfl=>?_);have hfr:=hfr.stp_ hAb hs rfl;have nD:=nD.stp hs;have oD:=oD.stp hs rfl;have aB:=aB.stp hs;obtain ⟨y246,bQ,h⟩:=Gd h;refine Ze .plain rfl (Wj (g:=gR) (i:=1007) Try.underlying42 Sw rfl rfl oD nD rfl iR bQ fun jR kU uN hs o245 lR _=>?_);have hfr:=hfr.stp_ hAb hs rfl;have aB:=aB.stp hs;refine Zg uN rfl rfl ?_;refine Zb (To ?_);obtain rfl:=sinj h;exact hQ _ _ ⟨jR,(uN),hfr,sH,tH,uH,rfl,lR,o245,vF,xF,aB,yF,aG,mE⟩
       ·clear hx
        obtain ⟨mR,vN,hfr,xN,yN,zN,aO,bO,cO,pJ,qJ,rJ,sJ,vJ,xJ⟩:=hR;refine Za (Gp (.int .i64 ((w64 (l5 + (1:Int))))) xJ rfl rfl rfl ?_);refine Zn (.int .i64 ((w64 (l5 + (1:Int))))) rfl rfl ?_;exact Zb (Zd (yP (yB,(w64 (l5 + (1:Int)))) _ _ ⟨mR,(vN),hfr,xN,yN,zN,aO,bO,cO,pJ,qJ,rJ,sJ,vJ,rfl⟩ h))
      ·refine Tu mG rfl ?_
       refine Qj ?_;refine Ta ?_;refine Ta ?_;refine Tp ?_;refine To ?_;obtain rfl:=sinj h;exact hQ _ _ ⟨jI,(rN),hfr,sH,tH,uH,xH,nD,oD,xF,aB,yF⟩
     ·clear hx
      obtain ⟨nR,dO,hfr,eO,gO,jO,kO,lO,mO,zJ,aK,bK⟩:=hR;refine Za (Gp (.int .i64 ((w64 (g8 + (1:Int))))) bK rfl rfl rfl ?_);refine Zn (.int .i64 ((w64 (g8 + (1:Int))))) rfl rfl ?_;exact Zb (Zd (xP (zB,(w64 (g8 + (1:Int)))) _ _ ⟨nR,(dO),hfr,eO,gO,jO,kO,lO,mO,zJ,aK,rfl⟩ h))
    ·refine Tu lG rfl ?_
     refine Qj ?_;refine Ta ?_;refine Ta ?_;refine Tp ?_;obtain rfl:=sinj h;exact hQ _ _ ⟨qN,(kH),hfr,lH,nH,oH,pH,qH⟩
   ·clear hx
    obtain ⟨oR,nO,hfr,oO,pO,qO,rO,sO⟩:=hR;obtain ⟨l8,hx,h⟩:=Gd h;refine Gx (fun e w=>∃ (g:Gh) (v7:Value),FrY gI wI B J (s0) g w∧e 1=(.func (.yield l) #[] #[])∧e 7=v7∧RV g.m w (l8:List Zv) v7∧OS 1007 g w 41 (l8:List Zv) v7) (fun Q' hQ=>?_) (fun eT lU hR=>?_)
    ·replace h := hx
     clear hx;refine Zf (Za (Zz (.int .i64 ((((((x0).FaultLoom).Harness).Warps).length:Int))) (Zk pO) rfl ?_));refine Zn (.int .i64 (0)) rfl rfl ?_;refine Zb (Zd (Zr ?_));refine He h (fun (s:(List Zv) × Int) e w=>∃ (g:Gh) (v7:Value),FrY gI wI B J (s0) g w∧e 1=(.func (.yield l) #[] #[])∧e 7=v7∧RV g.m w (s.1:List Zv) v7∧OS 1007 g w 41 (s.1:List Zv) v7∧e 75=.int .i64 ((((((x0).FaultLoom).Harness).Warps).length:Int))∧e 76=.int .i64 (s.2)) ⟨oR,(nO),hfr,oO,qO,rO,sO,rfl,rfl⟩ (fun X262 vK cQ=>?_);rintro ⟨dF,t5⟩ lT pR ⟨kI,tO,hfr,yH,zH,yD,zD,bG,oE⟩ h;refine Zf (Za (Zz (.bool ((decide (t5 < (((((x0).FaultLoom).Harness).Warps).length:Int))))) (Te oE bG rfl) rfl ?_));refine Zb (Zd (Zf ?_));rcases Zt h with ⟨sG,h⟩ | ⟨sG,h⟩
     ·refine Tv sG rfl ?_
      refine Zu (Zd ?_);obtain ⟨cC,hx,h⟩:=Gd h;refine Gx (fun e w=>∃ (g:Gh) (v7:Value),FrY gI wI B J (s0) g w∧e 1=(.func (.yield l) #[] #[])∧e 7=v7∧RV g.m w (cC:List Zv) v7∧OS 1007 g w 41 (cC:List Zv) v7∧e 75=.int .i64 ((((((x0).FaultLoom).Harness).Warps).length:Int))∧e 76=.int .i64 (t5)) (fun Q' hQ=>?_) (fun mT mU hR=>?_)
      ·replace h := hx
       clear hx;refine Zr ?_;refine Zf (Za (Zo oE rfl ?_));refine Zg (.int .i64 (t5)) rfl rfl ?_;refine Zb (Zd (Za (Zo zH rfl ?_)));refine Zn (.int .i64 (t5)) rfl rfl ?_;have uO:RV kI.m pR (⟨(5:Int),0,0,t5,false⟩:Zv) (.agg (Gy [[.int .i64 0],[.int .i64 0],[.int .i64 0],[.int .i64 0],[.bool false]] [(0,.int .i64 (5)),(3,.int .i64 (t5))]).flatten.toArray):=Th rfl (Gu (rfl) (Gu (Zx) (Gu (Zx) (Gu (rfl) (Tl (Wu))))));generalize dQ:(Value.agg (Gy [[.int .i64 0],[.int .i64 0],[.int .i64 0],[.int .i64 0],[.bool false]] [(0,.int .i64 (5)),(3,.int .i64 (t5))]).flatten.toArray)=vO at uO;refine Zz vO (dQ ▸ Qb (vs:=[(0,.int .i64 (5)),(3,.int .i64 (t5))]) [[.int .i64 0],[.int .i64 0],[.int .i64 0],[.int .i64 0],[.bool false]] Ds rfl rfl (.cons rfl (.cons rfl .nil)) ⟨⟨_,rfl,rfl⟩,⟨⟨_,rfl,rfl⟩,trivial⟩⟩) rfl ?_;refine Ze .plain rfl (Gl (g:=kI) 3082 (xs:=([(⟨(5:Int),0,0,t5,false⟩:Zv)]:List Zv)) (vs:=[vO]) Try.underlying42 Try.sizeOf41 Try.zeroValue41 rfl rfl (.cons rfl .nil) (RVs.cons uO RVs.nil) rfl rfl fun qR nU oU hs o270 rR hxt hfl=>?_);have hfr:=hfr.stp_ hAb hs rfl;have yD:=yD.stp hs;have zD:=zD.stp hs rfl;obtain ⟨xK,eQ,h⟩:=Gd h;refine Ze .plain rfl (Wj (g:=qR) (i:=1007) Try.underlying42 Sw rfl rfl zD yD rfl rR eQ fun tR pU xO hs o271 uR _=>?_);have hfr:=hfr.stp_ hAb hs rfl;refine Zg xO rfl rfl ?_;refine Zb (To ?_);obtain rfl:=sinj h;exact hQ _ _ ⟨tR,(xO),hfr,yH,rfl,uR,o271,bG,oE⟩
      ·clear hx
       obtain ⟨vR,yO,hfr,zO,aP,bP,cP,cK,dK⟩:=hR;refine Za (Gp (.int .i64 ((w64 (t5 + (1:Int))))) dK rfl rfl rfl ?_);refine Zn (.int .i64 ((w64 (t5 + (1:Int))))) rfl rfl ?_;exact Zb (Zd (cQ (cC,(w64 (t5 + (1:Int)))) _ _ ⟨vR,(yO),hfr,zO,aP,bP,cP,cK,rfl⟩ h))
     ·refine Tu sG rfl ?_
      refine Qj ?_;refine Ta ?_;refine Ta ?_;refine Tp ?_;obtain rfl:=sinj h;exact hQ _ _ ⟨kI,(tO),hfr,yH,zH,yD,zD⟩
    ·clear hx
     obtain ⟨xR,mB,hfr,dP,eP,aI,gP⟩:=hR;refine Zf (Za (Zo eP rfl ?_));refine Zz (.int .i64 ((l8).length:Int)) (Qv Try.underlying42 rfl aI) rfl ?_;refine Zn (.int .i64 (0)) rfl rfl ?_;refine Zb (Zd (Zr ?_));refine He h (fun (s:σ × Int) e w=>∃ (g:Gh) ,FrY gI wI B J (s.1) g w∧e 1=(.func (.yield l) #[] #[])∧e 85=mB∧RV g.m w (l8:List Zv) mB∧OS 1007 g w 41 (l8:List Zv) mB∧e 86=.int .i64 (((l8).length:Int))∧e 87=.int .i64 (s.2)) ⟨xR,hfr,dP,rfl,aI,gP,rfl,rfl⟩ (fun X275 yK gQ=>?_);rintro ⟨eF,n8⟩ nT qU ⟨iP,hfr,bI,cG,v8,n9,eG,rE⟩ h;refine Zf (Za (Gp (.bool ((decide (n8 < ((l8).length:Int))))) rE eG rfl rfl ?_));refine Zb (Zd (Zf ?_));rcases Zt h with ⟨xG,h⟩ | ⟨xG,h⟩
     ·refine Tv xG rfl ?_
      refine Zu (Zd (Zq h (fun (s:σ) e w=>∃ (g:Gh) ,FrY gI wI B J (s) g w∧e 1=(.func (.yield l) #[] #[])∧e 85=mB∧RV g.m w (l8:List Zv) mB∧OS 1007 g w 41 (l8:List Zv) mB∧e 86=.int .i64 (((l8).length:Int))∧e 87=.int .i64 (n8)) (fun X287 zK iQ h=>?_) ?_))
      ·refine Zr ?_
       refine Zf (Za ?_);obtain ⟨dI,kJ,h⟩:=Gd h;refine Zz (We mB n8 5) (Zh (α:=Zv) Try.underlying42 Try.sizeOf41 cG v8 rE kJ) rfl ?_;have yR:=Wp v8 kJ;refine Ze .plain rfl (Gj (g:=iP) Try.isAgg41 Try.sizeOf41 rfl yR fun zR lI=>?_);refine Ze .plain rfl (Tj (g:=iP) 2015 (⟨0,0,0,0,false⟩:Zv) Try.zeroValue41 (fun m w=>⟨_,(Gw Zx (Gw Zx (Gw Zx (Gw Zx Wu)))),rfl⟩) fun aS rU sU hs b291 cb=>?_);have hfr:=hfr.stp_ hAb hs rfl;have v8:=v8.stp hs;have n9:=n9.stp hs rfl;have lI:=lI.stp hs;clear cb;refine Ze .plain rfl (Gr (g:=aS) (v:=zR) Try.sizeOf41 rfl b291 rfl lI fun jP tU hs b292 cb=>?_);clear cb;have hfr:=hfr.stp_ hAb hs rfl;have v8:=v8.stp hs;have n9:=n9.stp hs rfl;refine Zb (Zd (Zf (Za (Zo bI rfl ?_))));refine Ze .plain rfl (Wg (g:=jP) Try.isAgg41 Try.sizeOf41 rfl b292 fun uU bS=>?_);obtain ⟨cS,jQ,h⟩:=Gd h;obtain ⟨iG,uE⟩:=cS;refine Ze .plain rfl (Du (g:=jP) (x:=dI) rfl (.cons rfl .nil) hRo hfr jQ ⟨_,rfl,bS⟩ fun dS vU hs hfrY=>?_);have v8:=v8.stp hs;have n9:=n9.stp hs rfl;have hfr:=hfrY;clear hfrY;refine Zz (.bool (!iG)) (Kh rfl) rfl ?_;refine Zb (Zd ?_);rcases Zt h with ⟨yG,h⟩ | ⟨yG,h⟩
       ·refine Tv yG rfl ?_
        refine Gq (Qh ?_);refine Tc ?_;refine Tc ?_;refine Qh ?_;obtain rfl:=sinj h;exact end0 rfl rfl (FrY.done hfr)
       ·refine Tu yG rfl ?_
        exact Zu (To (Zd (iQ (uE) _ _ ⟨dS,hfr,bI,cG,v8,n9,eG,rE⟩ h)))
      ·rintro rF oT xU ⟨eS, hfr, kP, lK, mK, nK, oK, pK⟩ h
       refine Za (Gp (.int .i64 ((w64 (n8 + (1:Int))))) pK rfl rfl rfl ?_);refine Zn (.int .i64 ((w64 (n8 + (1:Int))))) rfl rfl ?_;exact Zb (Zd (gQ (rF,(w64 (n8 + (1:Int)))) _ _ ⟨eS,hfr,kP,lK,mK,nK,oK,rfl⟩ h))
     ·refine Tu xG rfl ?_
      refine Qj ?_;refine Ta ?_;refine Ta ?_;refine Tp ?_;obtain rfl:=sinj h;exact Vg rfl rfl (FrY.done hfr)
def f83 (x0:List Str) (x1:List Str):Option (Bool):=
 jn (σ:=Unit) (fun _=>
  jn (σ:=Unit) (fun _=>
   some (true)
   ) fun bD=>
  lp (σ:=Int) (fun cD o0=>
   bif (decide (o0 < ((x0).length : Int))) then
    jn (σ:=Unit) (fun _=>
     cD ((w64 (o0 + (1:Int))))
     ) fun lD=>
    (idx x0 o0).bind fun v8=>
    (idx x1 o0).bind fun l9=>
    bif (!((v8).b == (l9).b)) then
     some (false)
    else
     lD ()
   else
    bD ()
   ) big ((0:Int))
  ) fun k2=>
 bif (((x0).length : Int) != ((x1).length : Int)) then
  some (false)
 else
  k2 ()
theorem en83:Enters Try.prog 83:=enters_of Try.func83 (by kernel_rfl) rfl
theorem wk83 {gI:Gh} {wI:World} {x0:List Str} {x1:List Str} {up0:Value} (rp0:RV gI.m wI x0 up0) {up1:Value} (rp1:RV gI.m wI x1 up1) {r:Bool} (h:f83 x0 x1=some r):Fn Try.prog 83 #[up0,up1] gI wI (fun _ _ v=>v=.bool (r)):=by
 unfold f83 at h;refine Gz Try.func83 rfl (Nat.le_of_ble_eq_true rfl) fun g0 hm hfr=>?_;have rp0:RV g0.m wI x0 up0:=hm ▸ rp0;have rp1:RV g0.m wI x1 up1:=hm ▸ rp1;show E _ 26 none _ _ _ _ _;refine Zf (Za (Zg (.bool false) rfl rfl ?_));refine Zb (Zd (Zq h (fun (s:Unit) e w=>∃ (g:Gh) ,Fr gI wI g w∧e 0=up0∧RV g.m w (x0:List Str) up0∧e 1=up1∧RV g.m w (x1:List Str) up1) (fun X2 k2 hk2 h=>?_) ?_))
 ·refine Zf (Za (Zn up0 rfl rfl ?_))
  refine Zz (.int .i64 ((x0).length:Int)) (Qv Try.underlying34 rfl rp0) rfl ?_;refine Zn up1 rfl rfl ?_;refine Zz (.int .i64 ((x1).length:Int)) (Qv Try.underlying34 rfl rp1) rfl ?_;refine Gp (.bool ((((x0).length:Int) != ((x1).length:Int)))) rfl rfl rfl rfl ?_;refine Zb (Zd ?_);rcases Zt h with ⟨hc3,h⟩ | ⟨hc3,h⟩
  ·refine Tv hc3 rfl ?_
   refine Zf (Za (Zg (.bool false) rfl rfl ?_));refine Zb (Zd (Gq (Tc ?_)));obtain rfl:=sinj h;exact Qq rfl rfl (show _=.bool false from rfl) ⟨_,hfr,rfl⟩
  ·refine Tu hc3 rfl ?_
   exact Zu (Zd (hk2 () _ _ ⟨g0,hfr,rfl,rp0,rfl,rp1⟩ h))
 ·rintro _ sF w4 ⟨g4, hfr, nB, oB, oD, yD⟩ h
  refine Zq h (fun (s:Unit) e w=>∃ (g:Gh) ,Fr gI wI g w) (fun X58 bD zD h=>?_) ?_
  ·refine Zf (Za (Zo nB rfl ?_))
   refine Zz (.int .i64 ((x0).length:Int)) (Qv Try.underlying34 rfl oB) rfl ?_;refine Zn (.int .i64 (0)) rfl rfl ?_;refine Zb (Zd (Zr ?_));refine He h (fun (s:Int) e w=>∃ (g:Gh) ,Fr gI wI g w∧e 0=up0∧RV g.m w (x0:List Str) up0∧e 1=up1∧RV g.m w (x1:List Str) up1∧e 12=.int .i64 (((x0).length:Int))∧e 13=.int .i64 (s)) ⟨g4,hfr,nB,oB,oD,yD,rfl,rfl⟩ (fun X59 cD aE=>?_);rintro o0 cF tF ⟨nD,hfr,n9,l5,aB,t5,l8,i6⟩ h;refine Zf (Za (Gp (.bool ((decide (o0 < ((x0).length:Int))))) i6 l8 rfl rfl ?_));refine Zb (Zd (Zf ?_));rcases Zt h with ⟨n8,h⟩ | ⟨n8,h⟩
   ·refine Tv n8 rfl ?_
    refine Zu (Zd (Zq h (fun (s:Unit) e w=>∃ (g:Gh) ,Fr gI wI g w∧e 0=up0∧RV g.m w (x0:List Str) up0∧e 1=up1∧RV g.m w (x1:List Str) up1∧e 12=.int .i64 (((x0).length:Int))∧e 13=.int .i64 (o0)) (fun X87 lD bE h=>?_) ?_))
    ·refine Zr ?_
     refine Zf (Za (Zo i6 rfl ?_));refine Zg (.int .i64 (o0)) rfl rfl ?_;refine Zb (Zd (Zf ?_));obtain ⟨v8,vB,h⟩:=Gd h;have oE:=Wp l5 vB;refine Zs (x:=.tmp 18) Try.isAgg9 Try.sizeOf9 oE fun uF rE iE=>?_;obtain rfl:=Jb.1 rE;obtain ⟨l9,yB,h⟩:=Gd h;have uE:=Wp t5 yB;refine Zs (x:=.tmp 22) Try.isAgg9 Try.sizeOf9 uE fun vF vE lE=>?_;obtain rfl:=Jb.1 vE;refine Qu (g:=nD) (n:=9) [] [0,1,2,3,4,5,6,7,8] rfl Wt (by kernel_rfl) trivial ?_;refine Gc up0 rfl rfl (Zk n9) ?_;refine Gc (.int .i64 (o0)) rfl rfl (Zk rfl) ?_;refine Gc (We up0 o0 1) rfl rfl (Zh (α:=Str) Try.underlying34 Try.sizeOf9 rfl l5 rfl vB) ?_;refine Qm (c:=Str.v (v8)) rfl rfl .plain (fun _ _ h=>h.ch) iE rfl ?_;refine Gc up1 rfl rfl (Zk aB) ?_;refine Gc (.int .i64 (o0)) rfl rfl (Zk rfl) ?_;refine Gc (We up1 o0 1) rfl rfl (Zh (α:=Str) Try.underlying34 Try.sizeOf9 rfl t5 rfl yB) ?_;refine Qm (c:=Str.v (l9)) rfl rfl .plain (fun _ _ h=>h.ch) lE rfl ?_;refine Gc (.bool ((!((v8).b == (l9).b)))) rfl rfl (P_str rfl rfl rfl) ?_;refine Vn fun xE xF hs=>?_;have hfr:=hfr.ext hs;have l5:=l5.ext hs;have t5:=t5.ext hs;clear hs;refine Zb (Zd ?_);rcases Zt h with ⟨g8,h⟩ | ⟨g8,h⟩
     ·refine Tv g8 rfl ?_
      refine Zf (Za (Zg (.bool false) rfl rfl ?_));refine Zb (Zd (Gq (Qh ?_)));refine Tc ?_;refine Tc ?_;refine Qh ?_;refine Tc ?_;obtain rfl:=sinj h;exact Qq rfl rfl (show _=.bool false from rfl) ⟨_,hfr,rfl⟩
     ·refine Tu g8 rfl ?_
      exact Zu (To (Zd (bE () _ _ ⟨xE,hfr,n9,l5,aB,t5,l8,i6⟩ h)))
    ·rintro _ yE dF ⟨mE, hfr, zB, cC, uC, vC, lB, mB⟩ h
     refine Za (Gp (.int .i64 ((w64 (o0 + (1:Int))))) mB rfl rfl rfl ?_);refine Zn (.int .i64 ((w64 (o0 + (1:Int))))) rfl rfl ?_;exact Zb (Zd (aE ((w64 (o0 + (1:Int)))) _ _ ⟨mE,hfr,zB,cC,uC,vC,lB,rfl⟩ h))
   ·refine Tu n8 rfl ?_
    refine Qj ?_;refine Ta ?_;refine Ta ?_;refine Tp ?_;exact Zd (zD () _ _ ⟨nD,hfr⟩ h)
  ·rintro _ zE eF ⟨rF, hfr⟩ h
   refine Zf (Za (Zg (.bool true) rfl rfl ?_));refine Zb (Zd (Gq ?_));obtain rfl:=sinj h;exact Qq rfl rfl (show _=.bool true from rfl) ⟨_,hfr,rfl⟩
def f84 (x0:Zy) (z0:List Str):Option (Bool):=
 (Hy (x0).Pick ((z0).length:Int)).bind fun y6=>
 (idx z0 y6).bind fun y7=>
 (idx (y7).b (x0).Warp).bind fun o0=>
 some ((!((o0 == (120:UInt8)) == (x0).Lifted)))
theorem en84:Enters Try.prog 84:=enters_of Try.func84 (by kernel_rfl) rfl
theorem wk84 {gI:Gh} {wI:World} {x0:Zy} {z0:List Str} {up0:Value} (rp0:RV gI.m wI x0 up0) {pf0:Value} (qf0:PT gI.m wI z0 pf0) {r:Bool} (h:f84 x0 z0=some r):Fn Try.prog 84 #[up0,pf0] gI wI (fun _ _ v=>v=.bool (r)):=by
 unfold f84 at h;refine Gz Try.func84 rfl (Nat.le_of_ble_eq_true rfl) fun g0 hm hfr=>?_;have qf0:PT g0.m wI z0 pf0:=hm ▸ qf0;have rp0:RV g0.m wI x0 up0:=hm ▸ rp0;show E _ 19 none _ _ _ _ _;refine Zf (Za (Ze .plain rfl (Tx (g:=g0) rfl rp0 fun g1 w1 p1 hs q1=>?_)));have hfr:=hfr.ext hs;have qf0:=qf0.ext hs;refine Zg (.bool false) rfl rfl ?_;refine Zb (Zd (Zf (Zs (x:=.tmp 1) Try.isAgg34 Try.sizeOf34 qf0 fun v2 r2 hl2=>?_)));have q3:=Zm (Xi).1 q1;refine Zs (x:=.tmp 5) Try.isAgg3 Try.sizeOf3 q3 fun v4 r4 l8=>?_;obtain rfl:=Zj.1 r4;refine Zs (x:=.tmp 1) Try.isAgg34 Try.sizeOf34 qf0 fun v5 r5 n8=>?_;obtain ⟨y6,v8,h⟩:=Gd h;obtain ⟨y7,l5,h⟩:=Gd h;have q8:=Wp r2 l5;refine Zs (x:=.tmp 10) Try.isAgg9 Try.sizeOf9 q8 fun v9 r9 l9=>?_;obtain rfl:=Jb.1 r9;have n9:=Zm (Xo).1 q1;refine Zs (x:=.tmp 12) Try.isAgg3 Try.sizeOf3 n9 fun nB aB t5=>?_;obtain rfl:=Zj.1 aB;obtain ⟨o0,i6,h⟩:=Gd h;have lB:=Zm (Fj).1 q1;refine Zs (x:=.tmp 16) Try.isAgg4 Try.sizeOf4 lB fun oB mB g8=>?_;obtain rfl:=Wc.1 mB;refine Qu (g:=g1) (n:=16) [] [0,1,2,3,4,5,6,7,8,9,10,11,12,13,14,15] rfl Wt (by kernel_rfl) trivial ?_;refine Qm (c:=v2) rfl rfl .plain (fun _ _ h=>h.ch) hl2 rfl ?_;refine Gc (Gk p1 0) rfl rfl (Zc at_93_0 rfl (PT.ptr q1)) ?_;refine Qm (c:=.int .i64 ((x0).Pick)) rfl rfl .plain (fun _ _ h=>h.ch) l8 rfl ?_;refine Qm (c:=v5) rfl rfl .plain (fun _ _ h=>h.ch) n8 rfl ?_;refine Gc (.int .i64 ((z0).length:Int)) rfl rfl (Qv Try.underlying34 rfl r5) ?_;refine Gc (.int .i64 (y6)) rfl rfl (Te rfl rfl (congrArg (Option.map (Value.int .i64)) v8)) ?_;refine Gc (We v2 y6 1) rfl rfl (Zh (α:=Str) Try.underlying34 Try.sizeOf9 rfl r2 rfl l5) ?_;refine Qm (c:=Str.v (y7)) rfl rfl .plain (fun _ _ h=>h.ch) l9 rfl ?_;refine Gc (Gk p1 1) rfl rfl (Zc at_93_1 rfl (PT.ptr q1)) ?_;refine Qm (c:=.int .i64 ((x0).Warp)) rfl rfl .plain (fun _ _ h=>h.ch) t5 rfl ?_;refine Gc (.int .u8 (UInt8.toNat (o0))) rfl rfl (Da Try.underlying9 rfl rfl i6) ?_;refine Gc (.bool ((o0 == (120:UInt8)))) rfl rfl (P_u8 rfl rfl rfl) ?_;refine Gc (Gk p1 2) rfl rfl (Zc at_93_2 rfl (PT.ptr q1)) ?_;refine Qm (c:=.bool ((x0).Lifted)) rfl rfl .plain (fun _ _ h=>h.ch) g8 rfl ?_;refine Gc (.bool ((!((o0 == (120:UInt8)) == (x0).Lifted)))) rfl rfl (P_bool Try.underlying4 rfl rfl rfl) ?_;refine Gc (.bool ((!((o0 == (120:UInt8)) == (x0).Lifted)))) rfl rfl (Wd rfl) ?_;refine Vn fun vB w15 hs=>?_;have hfr:=hfr.ext hs;clear hs;refine Zb (Zd (Gq ?_));obtain rfl:=sinj h;exact Qq rfl rfl (show _=.bool ((!((o0 == (120:UInt8)) == (x0).Lifted))) from rfl) ⟨_,hfr,rfl⟩
def f85 (z0:List Str) (z1:List Str) (σ:Type) (cons:Vh σ (Int × Int)) (s0:σ):Option σ:=
 lp (σ:=σ × Int) (fun k2 (lE,l5)=>
  bif (decide (l5 < ((z0).length : Int))) then
   jn (σ:=σ) (fun zB=>
    k2 (zB,(w64 (l5 + (1:Int))))
    ) fun rF=>
   (idx z0 l5).bind fun g8=>
   lp (σ:=σ × Nat) (fun sF (n9,o0)=>
    bif (decide (o0 < (g8).b.length)) then
     Option.bind (α:=σ × Bool) (
      (idx (g8).b ((o0:Nat):Int)).bind fun n8=>
      (idx z1 l5).bind fun nD=>
      (idx (nD).b ((o0:Nat):Int)).bind fun v8=>
      bif (n8 != v8) then
       (cons n9 (l5,((o0:Nat):Int))).bind fun (yB,uE)=>
       some (uE,(!yB))
      else
       some (n9,false)
      ) fun (aB,l9)=>
     bif l9 then
      some aB
     else
      sF (aB,(o0 + (dec g8 o0).2))
    else
     rF (n9)
    ) big (lE,0)
  else
   some lE
  ) big (s0,(0:Int))
theorem en85:Enters Try.prog 85:=enters_of Try.func85 (by kernel_rfl) rfl
theorem wk85 {σ:Type} {cons:Vh σ (Int × Int)} {s0 r:σ} {gI:Gh} {wI:World} {z0:List Str} {z1:List Str} {pf0:Value} (qf0:PT gI.m wI z0 pf0) {pf1:Value} (qf1:PT gI.m wI z1 pf1) (h:f85 z0 z1 σ cons s0=some r):Fq Try.prog (RA2 (α:=Int) (β:=Int)) 85 #[] #[pf0,pf1] gI wI cons s0 r:=by
 unfold f85 at h;refine Sy Try.func85 rfl (Nat.le_of_ble_eq_true rfl) fun l B J g0 hm hAb hRo hfr=>?_;have qf0:PT g0.m wI z0 pf0:=hm ▸ qf0;have qf1:PT g0.m wI z1 pf1:=hm ▸ qf1;show E _ 37 none _ _ (Jw #[.func (.yield l) #[] #[],pf0,pf1]) _ _;refine Zf (Za (Ze .plain rfl (Gj (g:=g0) Try.isAgg34 Try.sizeOf34 rfl qf0 fun v1 r1=>?_)));refine Zz (.int .i64 ((z0).length:Int)) (Qv Try.underlying34 rfl r1) rfl ?_;refine Zn (.int .i64 (0)) rfl rfl ?_;refine Zb (Zd (Zr ?_));refine He h (fun (s:σ × Int) e w=>∃ (g:Gh) ,FrY gI wI B J (s.1) g w∧e 0=(.func (.yield l) #[] #[])∧e 2=pf1∧PT g.m w (z1:List Str) pf1∧e 7=v1∧RV g.m w (z0:List Str) v1∧e 8=.int .i64 (((z0).length:Int))∧e 9=.int .i64 (s.2)) ⟨g0,hfr,rfl,rfl,qf1,rfl,r1,rfl,rfl⟩ (fun X2 k2 hk2=>?_);rintro ⟨lE,l5⟩ jJ w3 ⟨g3,hfr,jH,kH,mE,tF,cC,uF,oD⟩ h;refine Zf (Za (Gp (.bool ((decide (l5 < ((z0).length:Int))))) oD uF rfl rfl ?_));refine Zb (Zd (Zf ?_));rcases Zt h with ⟨hc4,h⟩ | ⟨hc4,h⟩
 ·refine Tv hc4 rfl ?_
  refine Zu (Zd (Zq h (fun (s:σ) e w=>∃ (g:Gh) ,FrY gI wI B J (s) g w∧e 0=(.func (.yield l) #[] #[])∧e 2=pf1∧PT g.m w (z1:List Str) pf1∧e 7=v1∧RV g.m w (z0:List Str) v1∧e 8=.int .i64 (((z0).length:Int))∧e 9=.int .i64 (l5)) (fun X145 rF aH h=>?_) ?_))
  ·refine Zr ?_
   refine Zf (Za (Zo oD rfl ?_));obtain ⟨g8,vE,h⟩:=Gd h;refine Zz (We v1 l5 1) (Zh (α:=Str) Try.underlying34 Try.sizeOf9 tF cC oD vE) rfl ?_;have lH:=Wp cC vE;refine Ze .plain rfl (Gj (g:=g3) Try.isAgg9 Try.sizeOf9 rfl lH fun dI mH=>?_);obtain rfl:=Jb.1 mH;refine Zg (.int .i64 (l5)) rfl rfl ?_;refine Zg (Str.v (g8)) rfl rfl ?_;refine Zb (Zd (Zf (Za (Zn (Str.v (g8)) rfl rfl ?_))));refine Ze .plain rfl (D_rangeS (g:=g3) (s:=g8) 7015 Try.underlying9 rfl fun nH iI yD hs b149=>?_);have hfr:=hfr.stp_ hAb hs rfl;have mE:=mE.stp hs;have cC:=cC.stp hs;refine Zb (Zd (Zr ?_));refine He h (fun (s:σ × Nat) e w=>∃ (g:Gh) ,FrY gI wI B J (s.1) g w∧e 0=(.func (.yield l) #[] #[])∧e 2=pf1∧PT g.m w (z1:List Str) pf1∧e 4=.int .i64 (l5)∧e 5=Str.v (g8)∧e 7=v1∧RV g.m w (z0:List Str) v1∧e 8=.int .i64 (((z0).length:Int))∧e 9=.int .i64 (l5)∧e 15=yD∧SI 7015 g w (g8) (s.2) yD) ⟨nH,hfr,jH,kH,mE,rfl,rfl,tF,cC,uF,oD,rfl,b149⟩ (fun X150 sF cH=>?_);rintro ⟨n9,o0⟩ zH jI ⟨oE,hfr,oB,lB,t5,mB,vB,uC,i6,vC,bD,nB,cD⟩ h;refine Zf (Za ?_);rcases Zt h with ⟨zD,h⟩ | ⟨zD,h⟩
   ·refine Ze .plain rfl (D_nextS_t (g := oE) nB cD zD fun vF kI hs b152 => ?_)
    have hfr:=hfr.stp_ hAb hs rfl;have t5:=t5.stp hs;have i6:=i6.stp hs;refine Zz (.bool true) (Zi rfl rfl) rfl ?_;refine Zb (Zd (Zf (Tt (by rw [show ev _ _=_ from rfl]; exact congrArg Value.bool rfl) ?_)));refine Zu (Zd (Zr ?_));refine Zf (Za (Zz (.int .i64 ((o0:Nat):Int)) (Zi rfl rfl) rfl ?_));refine Zg (.int .i64 ((o0:Nat):Int)) rfl rfl ?_;refine Zb (Zd ?_);obtain ⟨⟨aB,l9⟩,hx,h⟩:=Gd h;refine Gx (fun e w=>∃ (g:Gh) ,FrY gI wI B J (aB) g w∧e 0=(.func (.yield l) #[] #[])∧e 2=pf1∧PT g.m w (z1:List Str) pf1∧e 4=.int .i64 (l5)∧e 5=Str.v (g8)∧e 7=v1∧RV g.m w (z0:List Str) v1∧e 8=.int .i64 (((z0).length:Int))∧e 9=.int .i64 (l5)∧e 15=yD∧SI 7015 g w (g8) ((o0 + (dec g8 o0).2)) yD∧e 35=.bool (l9)) (fun Q' hQ=>?_) (fun aI lI hR=>?_)
    ·replace h := hx
     clear hx;obtain ⟨n8,xE,h⟩:=Gd h;refine Zs (x:=.tmp 2) Try.isAgg34 Try.sizeOf34 t5 fun aE rE yE=>?_;obtain ⟨nD,bE,h⟩:=Gd h;have oH:=Wp rE bE;refine Zs (x:=.tmp 24) Try.isAgg9 Try.sizeOf9 oH fun mI pH zE=>?_;obtain rfl:=Jb.1 pH;obtain ⟨v8,cF,h⟩:=Gd h;rcases Zt h with ⟨l8,h⟩ | ⟨l8,h⟩
     ·refine Qu (g := vF) (n := 14) [] [0, 1, 2, 3, 4, 5, 6, 7, 8, 9, 10, 11, 12, 13] rfl Wt (by kernel_rfl) trivial ?_
      refine Gc (Str.v (g8)) rfl rfl (Zk vB) ?_;refine Gc (.int .i64 ((o0:Nat):Int)) rfl rfl (Zk rfl) ?_;refine Gc (.int .u8 (UInt8.toNat (n8))) rfl rfl (Da Try.underlying9 rfl rfl xE) ?_;refine Qm (c:=aE) rfl rfl .plain (fun _ _ h=>h.ch) yE lB ?_;refine Gc (.int .i64 (l5)) rfl rfl (Zk mB) ?_;refine Gc (We aE l5 1) rfl rfl (Zh (α:=Str) Try.underlying34 Try.sizeOf9 rfl rE rfl bE) ?_;refine Qm (c:=Str.v (nD)) rfl rfl .plain (fun _ _ h=>h.ch) zE rfl ?_;refine Gc (.int .i64 ((o0:Nat):Int)) rfl rfl (Zk rfl) ?_;refine Gc (.int .u8 (UInt8.toNat (v8))) rfl rfl (Da Try.underlying9 rfl rfl cF) ?_;refine Gc (.bool ((n8 != v8))) rfl rfl (P_u8 rfl rfl rfl) ?_;refine Gc (.bool ((n8 != v8))) rfl rfl (Zk rfl) ?_;refine L_y ((.func (.yield l) #[] #[])) rfl rfl rfl rfl l8 (Zk oB) ?_;refine L_y (.int .i64 (l5)) rfl rfl rfl rfl l8 (Zk mB) ?_;refine L_y (.int .i64 ((o0:Nat):Int)) rfl rfl rfl rfl l8 (Zk rfl) ?_;refine Vn fun qH nI hs=>?_;have hfr:=hfr.ext_ hAb hs;have t5:=t5.ext hs;have i6:=i6.ext hs;have b152:=b152.ext hs;clear hs;obtain ⟨sH,gH,h⟩:=Gd h;obtain ⟨yB,uE⟩:=sH;refine Ze (.yes2 rfl rfl l8) rfl (Du (g:=qH) (x:=(l5,((o0:Nat):Int))) rfl (.cons rfl (.cons rfl .nil)) hRo hfr gH ⟨_,_,rfl,(Zj.2 rfl),(Zj.2 rfl)⟩ fun tH pI hs hfrY=>?_);have t5:=t5.stp hs;have i6:=i6.stp hs;have b152:=b152.stp hs rfl;have hfr:=hfrY;clear hfrY;refine Ga (.bool (!yB)) (Kh rfl) rfl rfl l8 rfl ?_;refine Zz (.bool (!yB)) (Zl (b:=(n8 != v8)) rfl (Qn l8 rfl)) rfl ?_;refine Zb ?_;obtain ⟨rfl,rfl⟩:=Ww h;exact hQ _ _ ⟨tH,hfr,oB,lB,t5,mB,vB,uC,i6,vC,bD,nB,b152,rfl⟩
     ·refine Qu (g := vF) (n := 14) [] [0, 1, 2, 3, 4, 5, 6, 7, 8, 9, 10, 11, 12, 13] rfl Wt (by kernel_rfl) trivial ?_
      refine Gc (Str.v (g8)) rfl rfl (Zk vB) ?_;refine Gc (.int .i64 ((o0:Nat):Int)) rfl rfl (Zk rfl) ?_;refine Gc (.int .u8 (UInt8.toNat (n8))) rfl rfl (Da Try.underlying9 rfl rfl xE) ?_;refine Qm (c:=aE) rfl rfl .plain (fun _ _ h=>h.ch) yE lB ?_;refine Gc (.int .i64 (l5)) rfl rfl (Zk mB) ?_;refine Gc (We aE l5 1) rfl rfl (Zh (α:=Str) Try.underlying34 Try.sizeOf9 rfl rE rfl bE) ?_;refine Qm (c:=Str.v (nD)) rfl rfl .plain (fun _ _ h=>h.ch) zE rfl ?_;refine Gc (.int .i64 ((o0:Nat):Int)) rfl rfl (Zk rfl) ?_;refine Gc (.int .u8 (UInt8.toNat (v8))) rfl rfl (Da Try.underlying9 rfl rfl cF) ?_;refine Gc (.bool ((n8 != v8))) rfl rfl (P_u8 rfl rfl rfl) ?_;refine Gc (.bool ((n8 != v8))) rfl rfl (Zk rfl) ?_;iterate 3 refine L_s rfl rfl rfl l8 rfl ?_
      refine Vn fun uH qI hs=>?_;have hfr:=hfr.ext_ hAb hs;have t5:=t5.ext hs;have i6:=i6.ext hs;have b152:=b152.ext hs;clear hs;refine Gb rfl rfl l8 rfl rfl ?_;refine Gb rfl rfl l8 rfl rfl ?_;refine Zz (.bool false) (Zl (b:=(n8 != v8)) rfl (Tw l8 rfl)) rfl ?_;refine Zb ?_;obtain ⟨rfl,rfl⟩:=Ww h;exact hQ _ _ ⟨uH,hfr,oB,lB,t5,mB,vB,uC,i6,vC,bD,nB,b152,rfl⟩
    ·clear hx
     obtain ⟨xH,hfr,xF,yF,aG,bG,cG,eG,gG,iG,jG,dF,eF,lD⟩:=hR;rcases Zt h with ⟨iE,h⟩ | ⟨iE,h⟩
     ·refine Tt (Eq.trans (show ev _ _ = .bool (l9) from lD) (congrArg Value.bool iE)) ?_
      refine Gq (Qh ?_);refine Tc ?_;refine Qh ?_;refine Qh ?_;refine Tc ?_;refine Tc ?_;refine Qh ?_;obtain rfl:=sinj h;exact end0 rfl rfl (FrY.done hfr)
     ·refine Td (Eq.trans (show ev _ _ = .bool (l9) from lD) (congrArg Value.bool iE)) ?_
      exact Zu (To (Zd (cH (aB,(o0 + (dec g8 o0).2)) _ _ ⟨xH,hfr,xF,yF,aG,bG,cG,eG,gG,iG,jG,dF,eF⟩ h)))
   ·refine Ze .plain rfl (D_nextS_f (g := oE) nB cD zD ?_)
    refine Zz (.bool false) (Zi rfl rfl) rfl ?_;refine Zb (Zd (Zf (Td (by rw [show ev _ _=_ from rfl]; exact congrArg Value.bool rfl) ?_)));refine Qj ?_;refine Ta ?_;refine Ta ?_;refine Tp ?_;exact To (Zd (aH (n9) _ _ ⟨oE,hfr,oB,lB,t5,uC,i6,vC,bD⟩ h))
  ·rintro zB bI sI ⟨yH, hfr, kG, lG, mG, sG, xG, yG, zG⟩ h
   refine Za (Gp (.int .i64 ((w64 (l5 + (1:Int))))) zG rfl rfl rfl ?_);refine Zn (.int .i64 ((w64 (l5 + (1:Int))))) rfl rfl ?_;exact Zb (Zd (hk2 (zB,(w64 (l5 + (1:Int)))) _ _ ⟨yH,hfr,kG,lG,mG,sG,xG,yG,rfl⟩ h))
 ·refine Tu hc4 rfl ?_
  refine Qj ?_;refine Ta ?_;refine Ta ?_;refine Tp ?_;obtain rfl:=sinj h;exact Vg rfl rfl (FrY.done hfr)
def f86 (x0:List Zv) (x1:Zv→Option Bool):Option (Int):=
 jn (σ:=Unit) (fun _=>
  some ((-1:Int))
  ) fun k18=>
 lp (σ:=Int) (fun k19 o0=>
  bif (decide (o0 < ((x0).length : Int))) then
   jn (σ:=Unit) (fun _=>
    k19 ((w64 (o0 + (1:Int))))
    ) fun k28=>
   (idx x0 o0).bind fun vB=>
   (x1 vB).bind fun yB=>
   bif yB then
    some (o0)
   else
    k28 ()
  else
   k18 ()
  ) big ((0:Int))
theorem en86:Enters Try.prog 86:=enters_of Try.func86 (by kernel_rfl) rfl
theorem wk86 {gI:Gh} {wI:World} {x0:List Zv} {x1:Zv→Option Bool} {up0:Value} (rp0:RV gI.m wI x0 up0) {up1:Value} (rp1:Cc Try.prog x1 up1 gI wI) {r:Int} (h:f86 x0 x1=some r):Fn Try.prog 86 #[up0,up1] gI wI (fun _ _ v=>v=.int .i64 (r)):=by
 unfold f86 at h;refine Gz Try.func86 rfl (Nat.le_of_ble_eq_true rfl) fun g0 hm hfr=>?_;have rp0:RV g0.m wI x0 up0:=hm ▸ rp0;obtain ⟨ff1,fa1,fc1,rfl,fen1,fcl1⟩:=rp1;show E _ 19 none _ _ _ _ _;refine Zf (Za (Zg (.int .i64 (0)) rfl rfl ?_));refine Zb (Zd (Zq h (fun (s:Unit) e w=>∃ (g:Gh) ,Fr gI wI g w) (fun X18 k18 zB h=>?_) ?_))
 ·refine Zf (Za (Zn up0 rfl rfl ?_))
  refine Zz (.int .i64 ((x0).length:Int)) (Qv Try.underlying42 rfl rp0) rfl ?_;refine Zn (.int .i64 (0)) rfl rfl ?_;refine Zb (Zd (Zr ?_));refine He h (fun (s:Int) e w=>∃ (g:Gh) ,Fr gI wI g w∧e 0=up0∧RV g.m w (x0:List Zv) up0∧e 1=(.func (.func ff1) fa1 fc1)∧e 7=.int .i64 (((x0).length:Int))∧e 8=.int .i64 (s)) ⟨g0,hfr,rfl,rp0,rfl,rfl,rfl⟩ (fun X19 k19 cC=>?_);rintro o0 yD bE ⟨l9,hfr,l8,l5,n8,v8,t5⟩ h;refine Zf (Za (Gp (.bool ((decide (o0 < ((x0).length:Int))))) t5 v8 rfl rfl ?_));refine Zb (Zd (Zf ?_));rcases Zt h with ⟨i6,h⟩ | ⟨i6,h⟩
  ·refine Tv i6 rfl ?_
   refine Zu (Zd (Zq h (fun (s:Unit) e w=>∃ (g:Gh) ,Fr gI wI g w∧e 0=up0∧RV g.m w (x0:List Zv) up0∧e 1=(.func (.func ff1) fa1 fc1)∧e 7=.int .i64 (((x0).length:Int))∧e 8=.int .i64 (o0)) (fun X28 k28 uC h=>?_) ?_))
   ·refine Zr ?_
    refine Zf (Za (Zo t5 rfl ?_));refine Zg (.int .i64 (o0)) rfl rfl ?_;refine Zb (Zd (Zf (Za (Zo n8 rfl ?_))));refine Zo l8 rfl ?_;refine Zn (.int .i64 (o0)) rfl rfl ?_;obtain ⟨vB,n9,h⟩:=Gd h;refine Zz (We up0 o0 5) (Zh (α:=Zv) Try.underlying42 Try.sizeOf41 rfl l5 rfl n9) rfl ?_;have bD:=Wp l5 n9;refine Ze .plain rfl (Gj (g:=l9) Try.isAgg41 Try.sizeOf41 rfl bD fun cD lD=>?_);obtain ⟨yB,vC,h⟩:=Gd h;refine Ze .plain rfl (Dm (g:=l9) (vs:=[cD]) rfl fen1 (.cons rfl .nil) (fcl1 _ _ hfr.ch _ _ _  lD vC) fun nD iE lE hs hr=>?_);have hfr:=hfr.ext hs;have l5:=l5.ext hs;obtain rfl:=Wc.1 hr;refine Zb (Zd ?_);rcases Zt h with ⟨g8,h⟩ | ⟨g8,h⟩
    ·refine Tv g8 rfl ?_
     refine Zf (Za (Zn (.int .i64 (o0)) rfl rfl ?_));refine Zg (.int .i64 (o0)) rfl rfl ?_;refine Zb (Zd (Gq (Qh ?_)));refine Tc ?_;refine Tc ?_;refine Qh ?_;refine Tc ?_;obtain rfl:=sinj h;exact Qq rfl rfl (show _=.int .i64 (o0) from rfl) ⟨_,hfr,rfl⟩
    ·refine Tu g8 rfl ?_
     exact Zu (To (Zd (uC () _ _ ⟨nD,hfr,l8,l5,n8,v8,t5⟩ h)))
   ·rintro _ zD mE ⟨oD, hfr, aB, lB, mB, nB, oB⟩ h
    refine Za (Gp (.int .i64 ((w64 (o0 + (1:Int))))) oB rfl rfl rfl ?_);refine Zn (.int .i64 ((w64 (o0 + (1:Int))))) rfl rfl ?_;exact Zb (Zd (cC ((w64 (o0 + (1:Int)))) _ _ ⟨oD,hfr,aB,lB,mB,nB,rfl⟩ h))
  ·refine Tu i6 rfl ?_
   refine Qj ?_;refine Ta ?_;refine Ta ?_;refine Tp ?_;exact Zd (zB () _ _ ⟨l9,hfr⟩ h)
 ·rintro _ aE oE ⟨rE, hfr⟩ h
  refine Zf (Za (Zg (.int .i64 (-1)) rfl rfl ?_));refine Zb (Zd (Gq ?_));obtain rfl:=sinj h;exact Qq rfl rfl (show _=.int .i64 (-1) from rfl) ⟨_,hfr,rfl⟩
def f87 (x0:List Zv) (x1:Int) (x2:Int) (x3:Zv→Zv→Option Int):Option ((List Zv)):=
 lp (σ:=(List Zv) × Int) (fun k1 (cC,g8)=>
  jn (σ:=Unit) (fun _=>
   Option.bind (α:=(List Zv)) (
    lp (σ:=(List Zv) × Int) (fun xE (t5,o0)=>
     jn (σ:=Unit) (fun _=>
      Option.bind (α:=(List Zv)) (
       (idx t5 (w64 (o0 - (1:Int)))).bind fun uC=>
       (idx t5 o0).bind fun bE=>
       (idx t5 o0).bind fun uH=>
       (idx ((List.set t5 (Int.toNat o0) uC)) (w64 (o0 - (1:Int)))).bind fun xH=>
       some ((List.set ((List.set t5 (Int.toNat o0) uC)) (Int.toNat (w64 (o0 - (1:Int)))) bE))
       ) fun aB=>
      xE (aB,(w64 (o0 - (1:Int))))
      ) fun yE=>
     Option.bind (α:=Bool) (
      bif (decide (o0 > x1)) then
       (idx t5 o0).bind fun zE=>
       (idx t5 (w64 (o0 - (1:Int)))).bind fun cF=>
       (x3 zE cF).bind fun oB=>
       some ((decide (oB < (0:Int))))
      else
       some (false)
      ) fun n8=>
     bif n8 then
      yE ()
     else
      some (t5)
     ) big (cC,g8)
    ) fun lB=>
   k1 (lB,(w64 (g8 + (1:Int))))
   ) fun k4=>
  bif (decide (g8 < x2)) then
   k4 ()
  else
   some (cC)
  ) big (x0,(w64 (x1 + (1:Int))))
theorem en87:Enters Try.prog 87:=enters_of Try.func87 (by kernel_rfl) rfl
theorem wk87 {iI:Nat} {gI:Gh} {wI:World} {x0:List Zv} {x1:Int} {x2:Int} {x3:Zv→Zv→Option Int} {up0:Value} (mp0:OM iI gI wI 41 x0 up0) {up3:Value} (rp3:FnV2 Try.prog x3 up3 gI wI) {r:(List Zv)} (h:f87 x0 x1 x2 x3=some r):FnM Try.prog 87 #[up0,.int .i64 (x1),.int .i64 (x2),up3] iI gI wI (fun g w v=>v=.tuple #[]∧OM iI g w 41 r up0):=by
 unfold f87 at h;refine Uj Try.func87 rfl (Nat.le_of_ble_eq_true rfl) fun g0 hm hfr=>?_;have lH:=mp0;replace mp0:=mp0.enter;rw [← hm] at mp0
 replace hm:g0.m=gI.m:=by rw [hm]
 obtain ⟨ff3,fa3,fc3,rfl,fen3,fcl3⟩:=rp3;show E _ 53 none _ _ _ _ _;refine Zf (Za (Zn (.int .i64 (x1)) rfl rfl ?_));refine Gp (.int .i64 ((w64 (x1 + (1:Int))))) rfl rfl rfl rfl ?_;refine Zg (.int .i64 ((w64 (x1 + (1:Int))))) rfl rfl ?_;refine Zb (Zd (Zr ?_));refine He h (fun (s:(List Zv) × Int) e w=>∃ (g:Gh) ,FrM iI gI wI g w∧e 0=up0∧OM 1 g w 41 (s.1:List Zv) up0∧e 1=.int .i64 (x1)∧e 2=.int .i64 (x2)∧e 3=(.func (.func ff3) fa3 fc3)∧e 8=.int .i64 (s.2)) ⟨g0,hfr,rfl,mp0,rfl,rfl,rfl,rfl⟩ (fun X1 k1 hk1=>?_);rintro ⟨cC,g8⟩ pK w2 ⟨g2,hfr,yH,dF,zH,eF,aI,rF⟩ h;refine Zq h (fun (s:Unit) e w=>∃ (g:Gh) ,FrM iI gI wI g w∧e 0=up0∧OM 1 g w 41 (cC:List Zv) up0∧e 1=.int .i64 (x1)∧e 2=.int .i64 (x2)∧e 3=(.func (.func ff3) fa3 fc3)∧e 8=.int .i64 (g8)) (fun X4 k4 hk4 h=>?_) ?_
 ·refine Zf (Za (Zo rF rfl ?_))
  refine Zo eF rfl ?_;refine Gp (.bool ((decide (g8 < x2)))) rfl rfl rfl rfl ?_;refine Zb (Zd ?_);rcases Zt h with ⟨hc5,h⟩ | ⟨hc5,h⟩
  ·refine Tv hc5 rfl ?_
   exact Zu (Zd (hk4 () _ _ ⟨g2,hfr,yH,dF,zH,eF,aI,rF⟩ h))
  ·refine Tu hc5 rfl ?_
   refine Qj ?_;refine Ta ?_;refine Ta ?_;refine Tp ?_;obtain rfl:=sinj h;exact Vg rfl rfl ⟨_,hfr,rfl,lH.back dF⟩
 ·rintro _ qK w6 ⟨g6, hfr, bI, dI, jI, kI, lI, sF⟩ h
  obtain ⟨lB,hx,h⟩:=Gd h;refine Gx (fun e w=>∃ (g:Gh) ,FrM iI gI wI g w∧e 0=up0∧OM 1 g w 41 (lB:List Zv) up0∧e 1=.int .i64 (x1)∧e 2=.int .i64 (x2)∧e 3=(.func (.func ff3) fa3 fc3)∧e 8=.int .i64 (g8)) (fun Q' hQ=>?_) (fun qJ zJ hR=>?_)
  ·replace h := hx
   clear hx;refine Zr ?_;refine Zf (Za (Zo sF rfl ?_));refine Zg (.int .i64 (g8)) rfl rfl ?_;refine Zb (Zd (Zr ?_));refine He h (fun (s:(List Zv) × Int) e w=>∃ (g:Gh) ,FrM iI gI wI g w∧e 0=up0∧OM 1 g w 41 (s.1:List Zv) up0∧e 1=.int .i64 (x1)∧e 2=.int .i64 (x2)∧e 3=(.func (.func ff3) fa3 fc3)∧e 8=.int .i64 (g8)∧e 9=.int .i64 (s.2)) ⟨g6,hfr,bI,dI,jI,kI,lI,sF,rfl⟩ (fun X297 xE mH=>?_);rintro ⟨t5,o0⟩ rJ aK ⟨tF,hfr,mB,i6,nB,bD,vB,cD,v8⟩ h;refine Zq h (fun (s:Unit) e w=>∃ (g:Gh) ,FrM iI gI wI g w∧e 0=up0∧OM 1 g w 41 (t5:List Zv) up0∧e 1=.int .i64 (x1)∧e 2=.int .i64 (x2)∧e 3=(.func (.func ff3) fa3 fc3)∧e 8=.int .i64 (g8)∧e 9=.int .i64 (o0)) (fun X411 yE nH h=>?_) ?_
   ·obtain ⟨n8, hx, h⟩ := Gd h
    refine Gx (fun e w=>∃ (g:Gh) ,FrM iI gI wI g w∧e 0=up0∧OM 1 g w 41 (t5:List Zv) up0∧e 1=.int .i64 (x1)∧e 2=.int .i64 (x2)∧e 3=(.func (.func ff3) fa3 fc3)∧e 8=.int .i64 (g8)∧e 9=.int .i64 (o0)∧e 34=.bool (n8)) (fun Q' hQ=>?_) (fun sJ bK hR=>?_)
    ·replace h := hx
     clear hx;rcases Zt h with ⟨l5,h⟩ | ⟨l5,h⟩
     ·obtain ⟨zE, lE, h⟩ := Gd h
      refine Vi (x:=.tmp 25) Try.isAgg41 Try.sizeOf41 i6 lE fun uF mI oH=>?_;obtain ⟨cF,mE,h⟩:=Gd h;refine Vi (x:=.tmp 30) Try.isAgg41 Try.sizeOf41 i6 mE fun vF nI pH=>?_;obtain ⟨oB,qH,h⟩:=Gd h;refine Qu (g:=tF) (n:=17) [(14,(fun v g w=>v=.int .i64 (oB)))] [0,1,2,3,4,5,6,7,8,9,10,11,12,13,14,15,16] rfl Wt (by kernel_rfl) (⟨fun _=>Rs _,trivial⟩) ?_;refine Gc (.int .i64 (o0)) rfl rfl (Zk v8) ?_;refine Gc (.int .i64 (x1)) rfl rfl (Zk nB) ?_;refine Gc (.bool ((decide (o0 > x1)))) rfl rfl (Te rfl rfl rfl) ?_;refine Gc (.bool ((decide (o0 > x1)))) rfl rfl (Zk rfl) ?_;refine L_y ((.func (.func ff3) fa3 fc3)) rfl rfl rfl rfl l5 (Zk vB) ?_;refine L_y up0 rfl rfl rfl rfl l5 (Zk mB) ?_;refine L_y (.int .i64 (o0)) rfl rfl rfl rfl l5 (Zk v8) ?_;refine L_y (We up0 o0 5) rfl rfl rfl rfl l5 (Tm (α:=Zv) Try.underlying42 Try.sizeOf41 rfl i6 rfl lE) ?_;refine Qm (c:=uF) rfl rfl (.yes2 rfl rfl l5) (fun _ _ h=>⟨h.ch,fun b hb _=>h.below.block b hb⟩) oH rfl ?_;refine L_y up0 rfl rfl rfl rfl l5 (Zk mB) ?_;refine L_y (.int .i64 (o0)) rfl rfl rfl rfl l5 (Zk v8) ?_;refine L_y (.int .i64 ((w64 (o0 - (1:Int))))) rfl rfl rfl rfl l5 (Te rfl rfl rfl) ?_;refine L_y (We up0 (w64 (o0 - (1:Int))) 5) rfl rfl rfl rfl l5 (Tm (α:=Zv) Try.underlying42 Try.sizeOf41 rfl i6 rfl mE) ?_;refine Qm (c:=vF) rfl rfl (.yes2 rfl rfl l5) (fun _ _ h=>⟨h.ch,fun b hb _=>h.below.block b hb⟩) pH rfl ?_;refine Uh (φ:=fun v g w=>v=.int .i64 (oB)) rfl rfl (.yes2 rfl rfl l5) (fun g w hd=>Dm (g:=g) (vs:=[uF,vF]) rfl fen3 (.cons rfl (.cons rfl .nil)) (fcl3 _ _ (hfr.ext hd.1).ch _ _ _ _ _  (mI.ext hd.1) (nI.ext hd.1) qH) fun g' w' v hs hr=>⟨g',hs,Zj.1 hr⟩) (fun cK hv=>?_);obtain ⟨_,_,_,rfl⟩:=hv;refine L_y (.bool ((decide (oB < (0:Int))))) rfl rfl rfl rfl l5 (Te rfl rfl rfl) ?_;refine Gc (.bool ((decide (oB < (0:Int))))) rfl rfl (Zl (b:=(decide (o0 > x1))) rfl (Qn l5 rfl)) ?_;refine Vn fun pI dK hs=>?_;have hfr:=hfr.ext hs;have i6:=i6.ext hs;clear hs;refine Zb ?_;obtain rfl:=sinj h;exact hQ _ _ ⟨pI,hfr,mB,i6,nB,bD,vB,cD,v8,rfl⟩
     ·refine Qu (g := tF) (n := 17) [] [0, 1, 2, 3, 4, 5, 6, 7, 8, 9, 10, 11, 12, 13, 14, 15, 16] rfl Wt (by kernel_rfl) trivial ?_
      refine Gc (.int .i64 (o0)) rfl rfl (Zk v8) ?_;refine Gc (.int .i64 (x1)) rfl rfl (Zk nB) ?_;refine Gc (.bool ((decide (o0 > x1)))) rfl rfl (Te rfl rfl rfl) ?_;refine Gc (.bool ((decide (o0 > x1)))) rfl rfl (Zk rfl) ?_;iterate 12 refine L_s rfl rfl rfl l5 rfl ?_
      refine Gc (.bool false) rfl rfl (Zl (b:=(decide (o0 > x1))) rfl (Tw l5 rfl)) ?_;refine Vn fun qI lK hs=>?_;have hfr:=hfr.ext hs;have i6:=i6.ext hs;clear hs;refine Zb ?_;obtain rfl:=sinj h;exact hQ _ _ ⟨qI,hfr,mB,i6,nB,bD,vB,cD,v8,rfl⟩
    ·clear hx
     obtain ⟨xF,hfr,lD,nD,oD,yD,zD,aE,yF,zB⟩:=hR;rcases Zt h with ⟨vC,h⟩ | ⟨vC,h⟩
     ·refine Tt (Eq.trans (show ev _ _ = .bool (n8) from zB) (congrArg Value.bool vC)) ?_
      exact Zu (Zd (nH () _ _ ⟨xF,hfr,lD,nD,oD,yD,zD,aE,yF⟩ h))
     ·refine Td (Eq.trans (show ev _ _ = .bool (n8) from zB) (congrArg Value.bool vC)) ?_
      refine Qj ?_;refine Ta ?_;refine Ta ?_;refine Tp ?_;refine To ?_;obtain rfl:=sinj h;exact hQ _ _ ⟨xF,hfr,lD,nD,oD,yD,zD,aE⟩
   ·rintro _ vJ sI ⟨aG, hfr, l9, l8, bG, cG, eG, gG, n9⟩ h
    obtain ⟨aB,hx,h⟩:=Gd h;refine Gx (fun e w=>∃ (g:Gh) ,FrM iI gI wI g w∧e 0=up0∧OM 1 g w 41 (aB:List Zv) up0∧e 1=.int .i64 (x1)∧e 2=.int .i64 (x2)∧e 3=(.func (.func ff3) fa3 fc3)∧e 8=.int .i64 (g8)∧e 9=.int .i64 (o0)) (fun Q' hQ=>?_) (fun xJ mK hR=>?_)
    ·replace h := hx
     clear hx;refine Zr ?_;obtain ⟨uC,oE,h⟩:=Gd h;refine Vi (x:=.tmp 45) Try.isAgg41 Try.sizeOf41 l8 oE fun jJ iE sH=>?_;obtain ⟨bE,rE,h⟩:=Gd h;refine Vi (x:=.tmp 49) Try.isAgg41 Try.sizeOf41 l8 rE fun kJ yB tH=>?_;obtain ⟨uH,uE,h⟩:=Gd h;refine Bj (g:=aG) (n:=15) [2,3,4] [] [0,1,2,3,4,5,6,7,8,9,10,11,12,13,14] rfl Wt (by kernel_rfl) trivial rfl ?_;refine Gc up0 rfl rfl (Zk l9) ?_;refine Gc (.int .i64 (o0)) rfl rfl (Zk n9) ?_;refine Xx (c:=up0) rfl rfl .plain (Zk l9) ?_;refine Xx (c:=.int .i64 (o0)) rfl rfl .plain (Zk n9) ?_;refine Xx (c:=.int .i64 ((w64 (o0 - (1:Int))))) rfl rfl .plain (Te rfl rfl rfl) ?_;refine Gc up0 rfl rfl (Zk l9) ?_;refine Gc (.int .i64 (o0)) rfl rfl (Zk n9) ?_;refine Gc (.int .i64 ((w64 (o0 - (1:Int))))) rfl rfl (Te rfl rfl rfl) ?_;refine Gc (We up0 (w64 (o0 - (1:Int))) 5) rfl rfl (Tm (α:=Zv) Try.underlying42 Try.sizeOf41 rfl l8 rfl oE) ?_;refine Qm (c:=jJ) rfl rfl .plain (fun _ _ h=>⟨h.ch,fun b hb _=>h.below.block b hb⟩) sH rfl ?_;refine Gc up0 rfl rfl (Zk l9) ?_;refine Gc (.int .i64 (o0)) rfl rfl (Zk n9) ?_;refine Gc (We up0 o0 5) rfl rfl (Tm (α:=Zv) Try.underlying42 Try.sizeOf41 rfl l8 rfl rE) ?_;refine Qm (c:=kJ) rfl rfl .plain (fun _ _ h=>⟨h.ch,fun b hb _=>h.below.block b hb⟩) tH rfl ?_;refine Gc (We up0 o0 5) rfl rfl (Tm (α:=Zv) Try.underlying42 Try.sizeOf41 rfl l8 rfl uE) ?_;refine Vn fun iG lJ hs=>?_;have hlt:Lt aG.m sI iG lJ:=hs.ch;have hfr:=hfr.ext hs;have l8:=l8.ext hs;have iE:=iE.ext hs;have yB:=yB.ext hs;clear hs;refine Rm hlt.w .plain rfl (Ju (g:=iG) (α:=Zv) (a':=uC) Try.sizeOf41 rfl l8 uE rfl iE fun mJ nK hs b582=>?_);have hfr:=hfr.stp hs;have hlt:=hlt.stp hs;have yB:=yB.stp hs;obtain ⟨xH,vE,h⟩:=Gd h;refine TL_pur hlt.w (v:=We up0 (w64 (o0 - (1:Int))) 5) (Tm (α:=Zv) Try.underlying42 Try.sizeOf41 rfl b582 rfl vE) .plain rfl ?_;refine Rm hlt.w .plain rfl (Ju (g:=mJ) (α:=Zv) (a':=bE) Try.sizeOf41 rfl b582 vE rfl yB fun nJ oK hs b584=>?_);have hfr:=hfr.stp hs;have hlt:=hlt.stp hs;refine Na hlt.w ?_;clear hlt;refine To ?_;obtain rfl:=sinj h;exact hQ _ _ ⟨nJ,hfr,l9,b584,bG,cG,eG,gG,n9⟩
    ·clear hx
     obtain ⟨oJ,hfr,jG,kG,lG,mG,sG,xG,yG⟩:=hR;refine Za (Zo yG rfl ?_);refine Gp (.int .i64 ((w64 (o0 - (1:Int))))) rfl rfl rfl rfl ?_;refine Zg (.int .i64 ((w64 (o0 - (1:Int))))) rfl rfl ?_;exact Zb (Zd (mH (aB,(w64 (o0 - (1:Int)))) _ _ ⟨oJ,hfr,jG,kG,lG,mG,sG,xG,rfl⟩ h))
  ·clear hx
   obtain ⟨pJ,hfr,zG,aH,cH,gH,jH,kH⟩:=hR;refine Za (Zo kH rfl ?_);refine Gp (.int .i64 ((w64 (g8 + (1:Int))))) rfl rfl rfl rfl ?_;refine Zg (.int .i64 ((w64 (g8 + (1:Int))))) rfl rfl ?_;exact Zb (Zd (hk1 (lB,(w64 (g8 + (1:Int)))) _ _ ⟨pJ,hfr,zG,aH,cH,gH,jH,rfl⟩ h))
def f91 (x0:U64) (x1:U64):Option (U64 × U64):=
 (Ys ((x0).n) ((32:Int))).bind fun y1=>
 (Ys ((x1).n) ((32:Int))).bind fun y2=>
 (Ys (Qo ((Hd .and ((x0).n) ((4294967295:Int))) * (Hd .and ((x1).n) ((4294967295:Int))))) ((32:Int))).bind fun y3=>
 (Ys (Qo ((Qo (y1 * (Hd .and ((x1).n) ((4294967295:Int))))) + y3)) ((32:Int))).bind fun y4=>
 (Ys (Qo ((Hd .and (Qo ((Qo (y1 * (Hd .and ((x1).n) ((4294967295:Int))))) + y3)) ((4294967295:Int))) + (Qo ((Hd .and ((x0).n) ((4294967295:Int))) * y2)))) ((32:Int))).bind fun y5=>
 some ((⟨Qo ((Qo ((Qo (y1 * y2)) + y4)) + y5)⟩:U64),(⟨Qo (((x0).n) * ((x1).n))⟩:U64))
theorem en91:Enters Try.prog 91:=enters_of Try.func91 (by kernel_rfl) rfl
theorem wk91 {gI:Gh} {wI:World} {x0:U64} {x1:U64}  {r:U64 × U64} (h:f91 x0 x1=some r):Fn Try.prog 91 #[.int .u64 ((x0).n),.int .u64 ((x1).n)] gI wI (fun m w v=>∃ y0 y1,v=.tuple #[y0,y1]∧y0=.int .u64 ((r.1).n)∧y1=.int .u64 ((r.2).n)):=by
 unfold f91 at h;refine Gz Try.func91 rfl (Nat.le_of_ble_eq_true rfl) fun g0 hm hfr=>?_;show E _ 51 none _ _ _ _ _;refine Zf (Za (Zg (.int .u64 (0)) rfl rfl ?_));refine Zg (.int .u64 (0)) rfl rfl ?_;refine Zb (Zd (Zf (Za (Zn (.int .u64 ((x0).n)) rfl rfl ?_))));refine Zz (.int .u64 (Hd .and ((x0).n) ((4294967295:Int)))) (P_bitU (by simp) rfl rfl) rfl ?_;refine Zg (.int .u64 (Hd .and ((x0).n) ((4294967295:Int)))) rfl rfl ?_;refine Zb (Zd (Zf (Za (Zn (.int .u64 ((x0).n)) rfl rfl ?_))));obtain ⟨y1,hy1,h⟩:=Gd h;refine Zz (.int .u64 (y1)) (Oi rfl rfl hy1) rfl ?_;refine Zg (.int .u64 (y1)) rfl rfl ?_;refine Zb (Zd (Zf (Za (Zn (.int .u64 ((x1).n)) rfl rfl ?_))));refine Zz (.int .u64 (Hd .and ((x1).n) ((4294967295:Int)))) (P_bitU (by simp) rfl rfl) rfl ?_;refine Zg (.int .u64 (Hd .and ((x1).n) ((4294967295:Int)))) rfl rfl ?_;refine Zb (Zd (Zf (Za (Zn (.int .u64 ((x1).n)) rfl rfl ?_))));obtain ⟨y2,hy2,h⟩:=Gd h;refine Zz (.int .u64 (y2)) (Oi rfl rfl hy2) rfl ?_;refine Zg (.int .u64 (y2)) rfl rfl ?_;refine Zb (Zd (Zf (Za (Zn (.int .u64 (Hd .and ((x0).n) ((4294967295:Int)))) rfl rfl ?_))));refine Zn (.int .u64 (Hd .and ((x1).n) ((4294967295:Int)))) rfl rfl ?_;refine Zz (.int .u64 (Qo ((Hd .and ((x0).n) ((4294967295:Int))) * (Hd .and ((x1).n) ((4294967295:Int)))))) (Oh rfl rfl) rfl ?_;refine Zg (.int .u64 (Qo ((Hd .and ((x0).n) ((4294967295:Int))) * (Hd .and ((x1).n) ((4294967295:Int)))))) rfl rfl ?_;refine Zb (Zd (Zf (Za (Zn (.int .u64 (y1)) rfl rfl ?_))));refine Zn (.int .u64 (Hd .and ((x1).n) ((4294967295:Int)))) rfl rfl ?_;refine Zz (.int .u64 (Qo (y1 * (Hd .and ((x1).n) ((4294967295:Int)))))) (Oh rfl rfl) rfl ?_;refine Zn (.int .u64 (Qo ((Hd .and ((x0).n) ((4294967295:Int))) * (Hd .and ((x1).n) ((4294967295:Int)))))) rfl rfl ?_;obtain ⟨y3,hy3,h⟩:=Gd h;refine Zz (.int .u64 (y3)) (Oi rfl rfl hy3) rfl ?_;refine Zz (.int .u64 (Qo ((Qo (y1 * (Hd .and ((x1).n) ((4294967295:Int))))) + y3))) (P_uadd rfl rfl) rfl ?_;refine Zz (.int .u64 (Qo ((Qo (y1 * (Hd .and ((x1).n) ((4294967295:Int))))) + y3))) (Wd rfl) rfl ?_;refine Zb (Zd (Zf (Za (Zz (.int .u64 (Qo ((Qo (y1 * (Hd .and ((x1).n) ((4294967295:Int))))) + y3))) (Zk rfl) rfl ?_))));refine Zz (.int .u64 (Hd .and (Qo ((Qo (y1 * (Hd .and ((x1).n) ((4294967295:Int))))) + y3)) ((4294967295:Int)))) (P_bitU (by simp) rfl rfl) rfl ?_;refine Zz (.int .u64 (Hd .and (Qo ((Qo (y1 * (Hd .and ((x1).n) ((4294967295:Int))))) + y3)) ((4294967295:Int)))) (Wd rfl) rfl ?_;refine Zb (Zd (Zf (Za (Zz (.int .u64 (Qo ((Qo (y1 * (Hd .and ((x1).n) ((4294967295:Int))))) + y3))) (Zk rfl) rfl ?_))));obtain ⟨y4,o0,h⟩:=Gd h;refine Zz (.int .u64 (y4)) (Oi rfl rfl o0) rfl ?_;refine Zg (.int .u64 (y4)) rfl rfl ?_;refine Zb (Zd (Zf (Za (Zz (.int .u64 (Hd .and (Qo ((Qo (y1 * (Hd .and ((x1).n) ((4294967295:Int))))) + y3)) ((4294967295:Int)))) (Zk rfl) rfl ?_))));refine Zn (.int .u64 (Hd .and ((x0).n) ((4294967295:Int)))) rfl rfl ?_;refine Zn (.int .u64 (y2)) rfl rfl ?_;refine Zz (.int .u64 (Qo ((Hd .and ((x0).n) ((4294967295:Int))) * y2))) (Oh rfl rfl) rfl ?_;refine Zz (.int .u64 (Qo ((Hd .and (Qo ((Qo (y1 * (Hd .and ((x1).n) ((4294967295:Int))))) + y3)) ((4294967295:Int))) + (Qo ((Hd .and ((x0).n) ((4294967295:Int))) * y2))))) (P_uadd rfl rfl) rfl ?_;refine Zz (.int .u64 (Qo ((Hd .and (Qo ((Qo (y1 * (Hd .and ((x1).n) ((4294967295:Int))))) + y3)) ((4294967295:Int))) + (Qo ((Hd .and ((x0).n) ((4294967295:Int))) * y2))))) (Wd rfl) rfl ?_;refine Zb (Zd (Zf (Za (Zn (.int .u64 (y1)) rfl rfl ?_))));refine Zn (.int .u64 (y2)) rfl rfl ?_;refine Zz (.int .u64 (Qo (y1 * y2))) (Oh rfl rfl) rfl ?_;refine Zn (.int .u64 (y4)) rfl rfl ?_;refine Zz (.int .u64 (Qo ((Qo (y1 * y2)) + y4))) (P_uadd rfl rfl) rfl ?_;refine Zz (.int .u64 (Qo ((Hd .and (Qo ((Qo (y1 * (Hd .and ((x1).n) ((4294967295:Int))))) + y3)) ((4294967295:Int))) + (Qo ((Hd .and ((x0).n) ((4294967295:Int))) * y2))))) (Zk rfl) rfl ?_;obtain ⟨y5,hy5,h⟩:=Gd h;refine Zz (.int .u64 (y5)) (Oi rfl rfl hy5) rfl ?_;refine Zz (.int .u64 (Qo ((Qo ((Qo (y1 * y2)) + y4)) + y5))) (P_uadd rfl rfl) rfl ?_
 refine Zz (.int .u64 (Qo ((Qo ((Qo (y1 * y2)) + y4)) + y5))) (Wd rfl) rfl ?_;refine Zb (Zd (Zf (Za (Zn (.int .u64 ((x0).n)) rfl rfl ?_))));refine Zn (.int .u64 ((x1).n)) rfl rfl ?_;refine Zz (.int .u64 (Qo (((x0).n) * ((x1).n)))) (Oh rfl rfl) rfl ?_;refine Zg (.int .u64 (Qo (((x0).n) * ((x1).n)))) rfl rfl ?_;refine Zb (Zd (Gq ?_));obtain rfl:=sinj h;exact Ah rfl rfl (show _=.int .u64 (Qo ((Qo ((Qo (y1 * y2)) + y4)) + y5)) from rfl) (show _=.int .u64 (Qo (((x0).n) * ((x1).n))) from rfl) ⟨_,hfr,_,_,rfl,rfl,rfl⟩
def f92 (x1:It Int):Option ((List Int)):=
 Option.bind (α:=(List Int)) (
  (x1 ((List Int)) (fun l8 i6=>
   (apnd 8 l8 (([i6]:List Int))).bind fun v8=>
   some (true,(v8))
   ) ((([]:List Int):List Int))).bind fun n8=>
  some (n8)
  ) fun g8=>
 some (g8)
theorem en92:Enters Try.prog 92:=enters_of Try.func92 (by kernel_rfl) rfl
def f93 (z0:Int) (z1:Int) (σ:Type) (cons:Vh σ Int) (s0:σ):Option σ:=
 Option.bind (α:=Int) (
  bif (decide (z0 < z1)) then
   some ((-1:Int))
  else
   some ((1:Int))
  ) fun l5=>
 lp (σ:=σ × Int) (fun k9 (vB,o0)=>
  jn (σ:=σ) (fun n9=>
   k9 (n9,(w64 (o0 + l5)))
   ) fun aE=>
  Option.bind (α:=σ × Bool) (
   (cons vB o0).bind fun (n8,nB)=>
   bif (!n8) then
    some (nB,true)
   else
    some (nB,(o0 == z0))
   ) fun (g8,i6)=>
  bif i6 then
   some g8
  else
   aE (g8)
  ) big (s0,z1)
theorem en93:Enters Try.prog 93:=enters_of Try.func93 (by kernel_rfl) rfl
theorem wk93 {σ:Type} {cons:Vh σ Int} {s0 r:σ} {gI:Gh} {wI:World} {z0:Int} {z1:Int} {pf0:Value} (qf0:PT gI.m wI z0 pf0) {pf1:Value} (qf1:PT gI.m wI z1 pf1) (h:f93 z0 z1 σ cons s0=some r):Fq Try.prog (RA1 (α:=Int)) 93 #[] #[pf0,pf1] gI wI cons s0 r:=by
 unfold f93 at h;refine Sy Try.func93 rfl (Nat.le_of_ble_eq_true rfl) fun l B J g0 hm hAb hRo hfr=>?_;have qf0:PT g0.m wI z0 pf0:=hm ▸ qf0;have qf1:PT g0.m wI z1 pf1:=hm ▸ qf1;show E _ 22 none _ _ (Jw #[.func (.yield l) #[] #[],pf0,pf1]) _ _;refine Zf (Za (Zg (.int .i64 (1)) rfl rfl ?_));refine Zb (Zd ?_);obtain ⟨l5,hx,h⟩:=Gd h;refine Gx (fun e w=>∃ (g:Gh) ,FrY gI wI B J (s0) g w∧e 0=(.func (.yield l) #[] #[])∧e 1=pf0∧PT g.m w (z0:Int) pf0∧e 2=pf1∧PT g.m w (z1:Int) pf1∧e 4=.int .i64 (l5)) (fun Q' hQ=>?_) (fun uF w7 hR=>?_)
 ·replace h := hx
  clear hx;refine Zf (Za (Ze .plain rfl (Gj (g:=g0) Try.isAgg3 Try.sizeOf3 rfl qf0 fun v4 r4=>?_)));obtain rfl:=Zj.1 r4;refine Ze .plain rfl (Gj (g:=g0) Try.isAgg3 Try.sizeOf3 rfl qf1 fun v5 r5=>?_);obtain rfl:=Zj.1 r5;refine Gp (.bool ((decide (z0 < z1)))) rfl rfl rfl rfl ?_;refine Zb (Zd ?_);rcases Zt h with ⟨hc6,h⟩ | ⟨hc6,h⟩
  ·refine Tv hc6 rfl ?_
   refine Za (Zg (.int .i64 (-1)) rfl rfl ?_);refine Zb ?_;obtain rfl:=sinj h;exact hQ _ _ ⟨g0,hfr,rfl,rfl,qf0,rfl,qf1,rfl⟩
  ·refine Tu hc6 rfl ?_
   refine Zu ?_;obtain rfl:=sinj h;exact hQ _ _ ⟨g0,hfr,rfl,rfl,qf0,rfl,qf1,rfl⟩
 ·clear hx
  obtain ⟨g7,hfr,bE,iE,lE,mE,oE,rE⟩:=hR;refine Zf (Za (Ze .plain rfl (Gj (g:=g7) Try.isAgg3 Try.sizeOf3 mE oE fun v8 r8=>?_)));obtain rfl:=Zj.1 r8;refine Zg (.int .i64 (z1)) rfl rfl ?_;refine Zb (Zd (Zr ?_));refine He h (fun (s:σ × Int) e w=>∃ (g:Gh) ,FrY gI wI B J (s.1) g w∧e 0=(.func (.yield l) #[] #[])∧e 1=pf0∧PT g.m w (z0:Int) pf0∧e 4=.int .i64 (l5)∧e 5=.int .i64 (s.2)) ⟨g7,hfr,bE,iE,lE,rE,rfl⟩ (fun X9 k9 xE=>?_);rintro ⟨vB,o0⟩ rF vF ⟨yE,hfr,aB,lB,l8,yB,l9⟩ h;refine Zq h (fun (s:σ) e w=>∃ (g:Gh) ,FrY gI wI B J (s) g w∧e 0=(.func (.yield l) #[] #[])∧e 1=pf0∧PT g.m w (z0:Int) pf0∧e 4=.int .i64 (l5)∧e 5=.int .i64 (o0)) (fun X21 aE uE h=>?_) ?_
  ·refine Zr ?_
   obtain ⟨⟨g8,i6⟩,hx,h⟩:=Gd h;refine Gx (fun e w=>∃ (g:Gh) ,FrY gI wI B J (g8) g w∧e 0=(.func (.yield l) #[] #[])∧e 1=pf0∧PT g.m w (z0:Int) pf0∧e 4=.int .i64 (l5)∧e 5=.int .i64 (o0)∧e 21=.bool (i6)) (fun Q' hQ=>?_) (fun sF xF hR=>?_)
   ·replace h := hx
    clear hx;refine Za (Zo aB rfl ?_);refine Zo l9 rfl ?_;obtain ⟨zE,vE,h⟩:=Gd h;obtain ⟨n8,nB⟩:=zE;refine Ze .plain rfl (Du (g:=yE) (x:=o0) rfl (.cons rfl .nil) hRo hfr vE ⟨_,rfl,(Zj.2 rfl)⟩ fun cC yF hs hfrY=>?_);have l8:=l8.stp hs;have hfr:=hfrY;clear hfrY;refine Zz (.bool (!n8)) (Kh rfl) rfl ?_;refine Zn (.bool (!n8)) rfl rfl ?_;rcases Zt h with ⟨t5,h⟩ | ⟨t5,h⟩
    ·refine Gb rfl rfl t5 rfl rfl ?_
     refine Gb rfl rfl t5 rfl rfl ?_;refine Gb rfl rfl t5 rfl rfl ?_;refine Zz (.bool true) (Zl (b:=(!n8)) rfl (Qn t5 rfl)) rfl ?_;refine Zb ?_;obtain ⟨rfl,rfl⟩:=Ww h;exact hQ _ _ ⟨cC,hfr,aB,lB,l8,yB,l9,rfl⟩
    ·refine Ga (.int .i64 (o0)) (Zk l9) rfl rfl t5 rfl ?_
     refine Ze (.yes2 rfl rfl t5) rfl (Gj (g:=cC) Try.isAgg3 Try.sizeOf3 lB l8 fun aG cF=>?_);obtain rfl:=Zj.1 cF;refine Ga (.bool ((o0 == z0))) (Te rfl rfl rfl) rfl rfl t5 rfl ?_;refine Zz (.bool ((o0 == z0))) (Zl (b:=(!n8)) rfl (Tw t5 rfl)) rfl ?_;refine Zb ?_;obtain ⟨rfl,rfl⟩:=Ww h;exact hQ _ _ ⟨cC,hfr,aB,lB,l8,yB,l9,rfl⟩
   ·clear hx
    obtain ⟨dF,hfr,uC,vC,bD,cD,lD,mB⟩:=hR;rcases Zt h with ⟨oB,h⟩ | ⟨oB,h⟩
    ·refine Tt (Eq.trans (show ev _ _ = .bool (i6) from mB) (congrArg Value.bool oB)) ?_
     refine Gq (Qh ?_);refine Tc ?_;refine Tc ?_;refine Qh ?_;obtain rfl:=sinj h;exact end0 rfl rfl (FrY.done hfr)
    ·refine Td (Eq.trans (show ev _ _ = .bool (i6) from mB) (congrArg Value.bool oB)) ?_
     exact Zu (To (Zd (uE (g8) _ _ ⟨dF,hfr,uC,vC,bD,cD,lD⟩ h)))
  ·rintro n9 tF bG ⟨eF, hfr, nD, oD, yD, zB, zD⟩ h
   refine Za (Zo zD rfl ?_);refine Zo zB rfl ?_;refine Gp (.int .i64 ((w64 (o0 + l5)))) rfl rfl rfl rfl ?_;refine Zg (.int .i64 ((w64 (o0 + l5)))) rfl rfl ?_;exact Zb (Zd (xE (n9,(w64 (o0 + l5))) _ _ ⟨eF,hfr,nD,oD,yD,zB,rfl⟩ h))
def f4 (x0:Jo):Option (FaultLoom):=
 (f16 x0).bind fun y5=>
 (f17 x0).bind fun y8=>
 some ((⟨y5,y8⟩:FaultLoom))
theorem en4:Enters Try.prog 4:=enters_of Try.func4 (by kernel_rfl) rfl
theorem wk4 {gI:Gh} {wI:World} {x0:Jo} {up0:Value} (rp0:RV gI.m wI x0 up0) {r:FaultLoom} (h:f4 x0=some r):Fn Try.prog 4 #[up0] gI wI (fun m w v=>RV m w (r) v):=by
 unfold f4 at h;refine Gz Try.func4 rfl (Nat.le_of_ble_eq_true rfl) fun g0 hm hfr=>?_;have rp0:RV g0.m wI x0 up0:=hm ▸ rp0;show E _ 8 none _ _ _ _ _;refine Zf (Za (Ze .plain rfl (Tx (g:=g0) rfl rp0 fun g1 w1 p1 hs q1=>?_)));have hfr:=hfr.ext hs;refine Ze .plain rfl (Tj (g:=g1) 2002 (⟨⟨0,[]⟩,⟨0,[]⟩⟩:FaultLoom) Try.zeroValue32 (fun m w=>⟨_,(Gw (Gw Zx Wk) (Gw Zx Wk)),rfl⟩) fun g2 w2 p2 hs b2 cb=>?_);have hfr:=hfr.stp hs;have q1:=q1.stp hs;have n9:OSF 2002 60201 1 g2 w2 3 32 ([]:List Int) p2:=cb.osf (by rfl);have aB:OSF 2002 60203 3 g2 w2 3 32 ([]:List Int) p2:=cb.osf (by rfl);clear cb;refine Zb (Zd (Zf (Zs (x:=.tmp 1) Try.isAgg25 Try.sizeOf25 q1 fun v3 r3 n8=>?_)));obtain ⟨y5,hy5,h⟩:=Gd h;refine Zs (x:=.tmp 1) Try.isAgg25 Try.sizeOf25 q1 fun v6 r6 v8=>?_;obtain ⟨y8,l9,h⟩:=Gd h;refine Qu (g:=g2) (n:=4) [(1,(fun v g w=>RV g.m w y5 v)),(3,(fun v g w=>RV g.m w y8 v))] [0,1,2,3] rfl Wt (by kernel_rfl) (⟨fun _=>Vb,fun _=>Vb,trivial⟩) ?_;refine Qm (c:=v3) rfl rfl .plain (fun _ _ h=>h.ch) n8 rfl ?_;refine Uh (φ:=fun v g w=>RV g.m w y5 v) rfl rfl .plain (fun g w hd=>Zp (g:=g) (vs:=[v3]) en16 (.cons rfl .nil) (wk16 (r3.ext hd.1) hy5) fun g' w' v hs hr=>⟨g',hs,hr⟩) (fun v4 hv=>?_);obtain ⟨_,_,_,rq4⟩:=hv;refine Qm (c:=v6) rfl rfl .plain (fun _ _ h=>h.ch) v8 rfl ?_;refine Uh (φ:=fun v g w=>RV g.m w y8 v) rfl rfl .plain (fun g w hd=>Zp (g:=g) (vs:=[v6]) en17 (.cons rfl .nil) (wk17 (r6.ext hd.1) l9) fun g' w' v hs hr=>⟨g',hs,hr⟩) (fun v7 hv=>?_);obtain ⟨_,_,_,rq7⟩:=hv;refine Xr fun g9 w9 hall=>?_;have hs:=hall.1;have hfr:=hfr.ext hs;have b2:=b2.ext hs;have o0:=(Qw (A:=fun g w=>RV g.m w y5 v4) 1 rfl hall);have l5:=(Qw (A:=fun g w=>RV g.m w y8 v7) 3 rfl hall);clear hs hall;have t5:RV g9.m _ (⟨y5,y8⟩:FaultLoom) (.agg (Gy [[.int .i64 0,.slice none 0 0],[.int .i64 0,.slice none 0 0]] [(0,v4),(1,v7)]).flatten.toArray):=Th rfl (Gu (RV.cells o0) (Tl (RV.cells l5)));generalize g8:(Value.agg (Gy [[.int .i64 0,.slice none 0 0],[.int .i64 0,.slice none 0 0]] [(0,v4),(1,v7)]).flatten.toArray)=i6 at t5;refine Zz i6 (g8 ▸ Qb (vs:=[(0,v4),(1,v7)]) [[.int .i64 0,.slice none 0 0],[.int .i64 0,.slice none 0 0]] lay_32 rfl rfl (.cons rfl (.cons rfl .nil)) ⟨⟨_,rfl,Tb o0⟩,⟨⟨_,rfl,Tb l5⟩,trivial⟩⟩) rfl ?_;refine Ze .plain rfl (Gr (g:=g9) (v:=i6) Try.sizeOf32 rfl b2 rfl t5 fun lB mB hs b18 cb=>?_);clear cb;have hfr:=hfr.stp hs;refine Zb (Zd (Gq ?_));obtain rfl:=sinj h;obtain ⟨ad19,cv19,hp19,l8,cr19⟩:=Qs Try.isAgg32 Try.sizeOf32 b18;exact Ry rfl rfl ((show _=p2 from rfl).trans hp19) l8 ⟨_,hfr,cr19⟩
def f7 (x0:Design):Option (Design):=
 (f20 ((x0).Rows)).bind fun y8=>
 some ((⟨(x0).Hooks,y8⟩:Design))
theorem en7:Enters Try.prog 7:=enters_of Try.func7 (by kernel_rfl) rfl
theorem wk7 {gI:Gh} {wI:World} {x0:Design} {up0:Value} (rp0:RV gI.m wI x0 up0) {r:Design} (h:f7 x0=some r):Fn Try.prog 7 #[up0] gI wI (fun m w v=>RV m w (r) v):=by
 unfold f7 at h;refine Gz Try.func7 rfl (Nat.le_of_ble_eq_true rfl) fun g0 hm hfr=>?_;have rp0:RV g0.m wI x0 up0:=hm ▸ rp0;show E _ 9 none _ _ _ _ _;refine Zf (Za (Ze .plain rfl (Tx (g:=g0) rfl rp0 fun g1 w1 p1 hs q1=>?_)));have hfr:=hfr.ext hs;refine Ze .plain rfl (Tj (g:=g1) 2002 (⟨0,[]⟩:Design) Try.zeroValue30 (fun m w=>⟨_,(Gw Zx Wk),rfl⟩) fun g2 w2 p2 hs b2 cb=>?_);have hfr:=hfr.stp hs;have q1:=q1.stp hs;have v8:OSF 2002 60201 1 g2 w2 3 30 ([]:List Int) p2:=cb.osf (by rfl);clear cb;refine Zb (Zd (Zf ?_));have q3:=Zm (Ql).1 q1;refine Zs (x:=.tmp 3) Try.isAgg3 Try.sizeOf3 q3 fun v4 r4 g8=>?_;obtain rfl:=Zj.1 r4;have q5:=Zm (Qg).1 q1;refine Zs (x:=.tmp 5) Try.isAgg26 Try.sizeOf26 q5 fun v6 r6 l8=>?_;obtain ⟨y8,n8,h⟩:=Gd h;refine Qu (g:=g2) (n:=5) [(4,(fun v g w=>RV g.m w y8 v))] [0,1,2,3,4] rfl Wt (by kernel_rfl) (⟨fun _=>Vb,trivial⟩) ?_;refine Gc (Gk p1 0) rfl rfl (Zc Hs rfl (PT.ptr q1)) ?_;refine Qm (c:=.int .i64 ((x0).Hooks)) rfl rfl .plain (fun _ _ h=>h.ch) g8 rfl ?_;refine Gc (Gk p1 1) rfl rfl (Zc Kk rfl (PT.ptr q1)) ?_;refine Qm (c:=v6) rfl rfl .plain (fun _ _ h=>h.ch) l8 rfl ?_;refine Uh (φ:=fun v g w=>RV g.m w y8 v) rfl rfl .plain (fun g w hd=>Zp (g:=g) (vs:=[v6]) en20 (.cons rfl .nil) (wk20 (r6.ext hd.1) n8) fun g' w' v hs hr=>⟨g',hs,hr⟩) (fun v7 hv=>?_);obtain ⟨_,_,_,rq7⟩:=hv;refine Xr fun g9 w9 hall=>?_;have hs:=hall.1;have hfr:=hfr.ext hs;have b2:=b2.ext hs;have o0:=(Qw (A:=fun g w=>RV g.m w y8 v7) 4 rfl hall);clear hs hall;have l5:RV g9.m _ (⟨(x0).Hooks,y8⟩:Design) (.agg (Gy [[.int .i64 0],[.slice none 0 0]] [(0,.int .i64 ((x0).Hooks)),(1,v7)]).flatten.toArray):=Th rfl (Gu (rfl) (Tl (RV.cells o0)));generalize i6:(Value.agg (Gy [[.int .i64 0],[.slice none 0 0]] [(0,.int .i64 ((x0).Hooks)),(1,v7)]).flatten.toArray)=t5 at l5;refine Zz t5 (i6 ▸ Qb (vs:=[(0,.int .i64 ((x0).Hooks)),(1,v7)]) [[.int .i64 0],[.slice none 0 0]] Lr rfl rfl (.cons rfl (.cons rfl .nil)) ⟨⟨_,rfl,rfl⟩,⟨⟨_,rfl,Tb o0⟩,trivial⟩⟩) rfl ?_;refine Ze .plain rfl (Gr (g:=g9) (v:=t5) Try.sizeOf30 rfl b2 rfl l5 fun l9 n9 hs b19 cb=>?_);clear cb;have hfr:=hfr.stp hs;refine Zb (Zd (Gq ?_));obtain rfl:=sinj h;obtain ⟨ad20,cv20,hp20,hl20,cr20⟩:=Qs Try.isAgg30 Try.sizeOf30 b19;exact Ry rfl rfl ((show _=p2 from rfl).trans hp20) hl20 ⟨_,hfr,cr20⟩
def f11 (x0:TieHarness):Option (TieHarness):=
 (f20 ((x0).Warps)).bind fun y8=>
 some ((⟨(x0).Hooks,y8⟩:TieHarness))
theorem en11:Enters Try.prog 11:=enters_of Try.func11 (by kernel_rfl) rfl
theorem wk11 {gI:Gh} {wI:World} {x0:TieHarness} {up0:Value} (rp0:RV gI.m wI x0 up0) {r:TieHarness} (h:f11 x0=some r):Fn Try.prog 11 #[up0] gI wI (fun m w v=>RV m w (r) v):=by
 unfold f11 at h;refine Gz Try.func11 rfl (Nat.le_of_ble_eq_true rfl) fun g0 hm hfr=>?_;have rp0:RV g0.m wI x0 up0:=hm ▸ rp0;show E _ 9 none _ _ _ _ _;refine Zf (Za (Ze .plain rfl (Tx (g:=g0) rfl rp0 fun g1 w1 p1 hs q1=>?_)));have hfr:=hfr.ext hs;refine Ze .plain rfl (Tj (g:=g1) 2002 (⟨0,[]⟩:TieHarness) Try.zeroValue28 (fun m w=>⟨_,(Gw Zx Wk),rfl⟩) fun g2 w2 p2 hs b2 cb=>?_);have hfr:=hfr.stp hs;have q1:=q1.stp hs;have v8:OSF 2002 60201 1 g2 w2 3 28 ([]:List Int) p2:=cb.osf (by rfl);clear cb;refine Zb (Zd (Zf ?_));have q3:=Zm (Wo).1 q1;refine Zs (x:=.tmp 3) Try.isAgg3 Try.sizeOf3 q3 fun v4 r4 g8=>?_;obtain rfl:=Zj.1 r4;have q5:=Zm (Tn).1 q1;refine Zs (x:=.tmp 5) Try.isAgg26 Try.sizeOf26 q5 fun v6 r6 l8=>?_;obtain ⟨y8,n8,h⟩:=Gd h;refine Qu (g:=g2) (n:=5) [(4,(fun v g w=>RV g.m w y8 v))] [0,1,2,3,4] rfl Wt (by kernel_rfl) (⟨fun _=>Vb,trivial⟩) ?_;refine Gc (Gk p1 0) rfl rfl (Zc Dj rfl (PT.ptr q1)) ?_;refine Qm (c:=.int .i64 ((x0).Hooks)) rfl rfl .plain (fun _ _ h=>h.ch) g8 rfl ?_;refine Gc (Gk p1 1) rfl rfl (Zc Kx rfl (PT.ptr q1)) ?_;refine Qm (c:=v6) rfl rfl .plain (fun _ _ h=>h.ch) l8 rfl ?_;refine Uh (φ:=fun v g w=>RV g.m w y8 v) rfl rfl .plain (fun g w hd=>Zp (g:=g) (vs:=[v6]) en20 (.cons rfl .nil) (wk20 (r6.ext hd.1) n8) fun g' w' v hs hr=>⟨g',hs,hr⟩) (fun v7 hv=>?_);obtain ⟨_,_,_,rq7⟩:=hv;refine Xr fun g9 w9 hall=>?_;have hs:=hall.1;have hfr:=hfr.ext hs;have b2:=b2.ext hs;have o0:=(Qw (A:=fun g w=>RV g.m w y8 v7) 4 rfl hall);clear hs hall;have l5:RV g9.m _ (⟨(x0).Hooks,y8⟩:TieHarness) (.agg (Gy [[.int .i64 0],[.slice none 0 0]] [(0,.int .i64 ((x0).Hooks)),(1,v7)]).flatten.toArray):=Th rfl (Gu (rfl) (Tl (RV.cells o0)));generalize i6:(Value.agg (Gy [[.int .i64 0],[.slice none 0 0]] [(0,.int .i64 ((x0).Hooks)),(1,v7)]).flatten.toArray)=t5 at l5;refine Zz t5 (i6 ▸ Qb (vs:=[(0,.int .i64 ((x0).Hooks)),(1,v7)]) [[.int .i64 0],[.slice none 0 0]] lay_28 rfl rfl (.cons rfl (.cons rfl .nil)) ⟨⟨_,rfl,rfl⟩,⟨⟨_,rfl,Tb o0⟩,trivial⟩⟩) rfl ?_;refine Ze .plain rfl (Gr (g:=g9) (v:=t5) Try.sizeOf28 rfl b2 rfl l5 fun l9 n9 hs b19 cb=>?_);clear cb;have hfr:=hfr.stp hs;refine Zb (Zd (Gq ?_));obtain rfl:=sinj h;obtain ⟨ad20,cv20,hp20,hl20,cr20⟩:=Qs Try.isAgg28 Try.sizeOf28 b19;exact Ry rfl rfl ((show _=p2 from rfl).trans hp20) hl20 ⟨_,hfr,cr20⟩
def f25 (x0:Qx) (x1:Int):Option (Str):=
 Option.bind (α:=List UInt8) (
  lp (σ:=List UInt8 × Int) (fun oD (l8,o0)=>
   bif (decide (o0 < ((((x0).TieHarness).Warps).length : Int))) then
    Option.bind (α:=List UInt8) (
     (f48 x0 x1 o0).bind fun nB=>
     (f47 nB).bind fun oB=>
     (apnd 1 l8 [oB]).bind fun y43=>
     some (y43)
     ) fun i6=>
    oD (i6,(w64 (o0 + (1:Int))))
   else
    some (l8)
   ) big (([]:List UInt8),(0:Int))
  ) fun n8=>
 (sbstr n8).bind fun aB=>
 some (aB)
theorem en25:Enters Try.prog 25:=enters_of Try.func25 (by kernel_rfl) rfl
theorem wk25 {gI:Gh} {wI:World} {x0:Qx} {x1:Int} {up0:Value} (rp0:RV gI.m wI x0 up0) {r:Str} (h:f25 x0 x1=some r):Fn Try.prog 25 #[up0,.int .i64 (x1)] gI wI (fun _ _ v=>v=Str.v (r)):=by
 unfold f25 at h;refine Gz Try.func25 rfl (Nat.le_of_ble_eq_true rfl) fun g0 hm hfr=>?_;have rp0:RV g0.m wI x0 up0:=hm ▸ rp0;show E _ 22 none _ _ _ _ _;refine Zf (Za (Ze .plain rfl (Tx (g:=g0) rfl rp0 fun g1 w1 p1 hs q1=>?_)));have hfr:=hfr.ext hs;refine Zg (Str.v (⟨[]⟩:Str)) rfl rfl ?_;refine Zb (Zd (Zf (Za (Ze .plain rfl (Tj (g:=g1) 2005 ((⟨.pointer none,rfl⟩,[]):Fv × List UInt8) Try.zeroValue119 (fun m w=>⟨_,Gw (show GoT.rep m w (⟨.pointer none,rfl⟩:Fv) [.pointer none] from rfl) Wk,rfl⟩) fun g2 w2 p2 hs b2 cb=>?_)))));have hfr:=hfr.stp hs;have q1:=q1.stp hs;replace b2:SB 2005 60501 g2 w2 5 119 [] p2:=⟨_,b2,cb.osf rfl,.inl rfl⟩;clear cb;refine Zb (Zd ?_);obtain ⟨n8,hx,h⟩:=Gd h;refine Gx (fun e w=>∃ (g:Gh) ,Fr gI wI g w∧e 5=p2∧SB 2005 60501 g w 5 119 (n8) p2) (fun Q' hQ=>?_) (fun zE sF hR=>?_)
 ·replace h := hx
  clear hx;refine Zf (Za (Zz (Gk p1 0) (Zc at_79_0 rfl (PT.ptr q1)) rfl ?_));have yD:=Zm (Uk).1 q1;refine Zz (Gk (Gk p1 0) 1) (Zc Kx rfl (PT.ptr yD)) rfl ?_;have mE:=Zm (Tn).1 yD;refine Ze .plain rfl (Gj (g:=g2) Try.isAgg26 Try.sizeOf26 rfl mE fun tF oE=>?_);refine Zz (.int .i64 ((((x0).TieHarness).Warps).length:Int)) (Qv Try.underlying26 rfl oE) rfl ?_;refine Zn (.int .i64 (0)) rfl rfl ?_;refine Zb (Zd (Zr ?_));refine He h (fun (s:List UInt8 × Int) e w=>∃ (g:Gh) ,Fr gI wI g w∧e 1=.int .i64 (x1)∧e 2=p1∧PT g.m w (x0:Qx) p1∧e 5=p2∧SB 2005 60501 g w 5 119 (s.1) p2∧e 10=.int .i64 (((((x0).TieHarness).Warps).length:Int))∧e 11=.int .i64 (s.2)) ⟨g2,hfr,rfl,rfl,q1,rfl,b2,rfl,rfl⟩ (fun X27 oD zD=>?_);rintro ⟨l8,o0⟩ cF uF ⟨vB,hfr,lB,mB,l5,v8,t5,l9,g8⟩ h;refine Zf (Za (Zz (.bool ((decide (o0 < ((((x0).TieHarness).Warps).length:Int))))) (Te g8 l9 rfl) rfl ?_));refine Zb (Zd (Zf ?_));rcases Zt h with ⟨n9,h⟩ | ⟨n9,h⟩
  ·refine Tv n9 rfl ?_
   refine Zu (Zd ?_);obtain ⟨i6,hx,h⟩:=Gd h;refine Gx (fun e w=>∃ (g:Gh) ,Fr gI wI g w∧e 1=.int .i64 (x1)∧e 2=p1∧PT g.m w (x0:Qx) p1∧e 5=p2∧SB 2005 60501 g w 5 119 (i6) p2∧e 10=.int .i64 (((((x0).TieHarness).Warps).length:Int))∧e 11=.int .i64 (o0)) (fun Q' hQ=>?_) (fun dF vF hR=>?_)
   ·replace h := hx
    clear hx;refine Zr ?_;refine Zf (Za (Zo g8 rfl ?_));refine Zg (.int .i64 (o0)) rfl rfl ?_;refine Zb (Zd (Za (Ze .plain rfl (Gj (g:=vB) Try.isAgg79 Try.sizeOf79 mB l5 fun rE uE=>?_))));refine Zo lB rfl ?_;refine Zn (.int .i64 (o0)) rfl rfl ?_;obtain ⟨nB,aE,h⟩:=Gd h;refine Ze .plain rfl (Zp (g:=vB) (vs:=[rE,.int .i64 (x1),.int .i64 (o0)]) en48 (.cons rfl (.cons rfl (.cons rfl .nil))) (wk48 uE aE) fun vE eF xF hs hr=>?_);have hfr:=hfr.ext hs;have l5:=l5.ext hs;have t5:=t5.ext hs;subst hr;obtain ⟨oB,bE,h⟩:=Gd h;refine Ze .plain rfl (Zp (g:=vE) (vs:=[.bool (nB)]) en47 (.cons rfl .nil) (wk47  bE) fun yF rF aG hs hr=>?_);have hfr:=hfr.ext hs;have l5:=l5.ext hs;have t5:=t5.ext hs;subst hr;obtain ⟨y43,iE,h⟩:=Gd h;refine Ze .plain rfl (Av (vs:=[p2,.int .u8 (UInt8.toNat (oB))]) en46 (.cons v8 (.cons rfl .nil)) (wk46 (i:=2005) (j:=60501) rfl rfl t5 iE) fun bG cG hq=>?_);obtain ⟨hv,xE,⟨_,_,_,_,hs1,hs2,hs3⟩,b42⟩:=hq;subst hv;have hfr:=hfr.stp hs1;have l5:=l5.stp hs1;have hfr:=hfr.stp hs2;have l5:=l5.stp hs2;have hfr:=hfr.stp hs3;have l5:=l5.stp hs3;clear hs1 hs2 hs3;refine Zb (To ?_);obtain rfl:=sinj h;exact hQ _ _ ⟨xE,hfr,lB,mB,l5,v8,b42,l9,g8⟩
   ·clear hx
    obtain ⟨yE,hfr,cC,uC,vC,bD,cD,yB,zB⟩:=hR;refine Za (Gp (.int .i64 ((w64 (o0 + (1:Int))))) zB rfl rfl rfl ?_);refine Zn (.int .i64 ((w64 (o0 + (1:Int))))) rfl rfl ?_;exact Zb (Zd (zD (i6,(w64 (o0 + (1:Int)))) _ _ ⟨yE,hfr,cC,uC,vC,bD,cD,yB,rfl⟩ h))
  ·refine Tu n9 rfl ?_
   refine Qj ?_;refine Ta ?_;refine Ta ?_;refine Tp ?_;obtain rfl:=sinj h;exact hQ _ _ ⟨vB,hfr,v8,t5⟩
 ·clear hx
  obtain ⟨eG,hfr,lD,nD⟩:=hR;refine Zf (Za ?_);obtain ⟨aB,lE,h⟩:=Gd h;obtain ⟨hne46,hye46⟩:=sbstr_h lE;refine Ze .plain rfl (Av (vs:=[p2]) en49 (.cons lD .nil) (wk49 (i:=2005) (j:=60501) rfl nD hne46) fun gG iG hq=>?_);obtain ⟨hv,jG,hs⟩:=hq;rw [← hye46] at hv;subst hv;have hfr:=hfr.stp hs;refine Zg (Str.v aB) rfl rfl ?_;refine Zb (Zd (Gq ?_));obtain rfl:=sinj h;exact Qq rfl rfl (show _=Str.v aB from rfl) ⟨_,hfr,rfl⟩
def f36 (x0:Zv) (x1:Zv):Option (Int):=
 (f37 ((x0).Kind)).bind fun y6=>
 (f37 ((x1).Kind)).bind fun o0=>
 some ((w64 (y6 - o0)))
theorem en36:Enters Try.prog 36:=enters_of Try.func36 (by kernel_rfl) rfl
theorem wk36 {gI:Gh} {wI:World} {x0:Zv} {x1:Zv} {up0:Value} (rp0:RV gI.m wI x0 up0) {up1:Value} (rp1:RV gI.m wI x1 up1) {r:Int} (h:f36 x0 x1=some r):Fn Try.prog 36 #[up0,up1] gI wI (fun _ _ v=>v=.int .i64 (r)):=by
 unfold f36 at h;refine Gz Try.func36 rfl (Nat.le_of_ble_eq_true rfl) fun g0 hm hfr=>?_;have rp0:RV g0.m wI x0 up0:=hm ▸ rp0;have rp1:RV g0.m wI x1 up1:=hm ▸ rp1;show E _ 12 none _ _ _ _ _;refine Zf (Za (Ze .plain rfl (Tx (g:=g0) rfl rp0 fun g1 w1 p1 hs q1=>?_)));have hfr:=hfr.ext hs;have rp1:=rp1.ext hs;refine Ze .plain rfl (Tx (g:=g1) rfl rp1 fun g2 w2 p2 hs q2=>?_);have hfr:=hfr.ext hs;have q1:=q1.ext hs;refine Zg (.int .i64 (0)) rfl rfl ?_;refine Zb (Zd (Zf ?_));have q3:=Zm (Kj).1 q1;refine Zs (x:=.tmp 5) Try.isAgg39 Try.sizeOf39 q3 fun v4 r4 t5=>?_;obtain rfl:=Zj.1 r4;obtain ⟨y6,i6,h⟩:=Gd h;have q7:=Zm (Kj).1 q2;refine Zs (x:=.tmp 8) Try.isAgg39 Try.sizeOf39 q7 fun v8 r8 g8=>?_;obtain rfl:=Zj.1 r8;obtain ⟨o0,l5,h⟩:=Gd h;refine Qu (g:=g2) (n:=8) [(2,(fun v g w=>v=.int .i64 (y6))),(5,(fun v g w=>v=.int .i64 (o0)))] [0,1,2,3,4,5,6,7] rfl Wt (by kernel_rfl) (⟨fun _=>Rs _,fun _=>Rs _,trivial⟩) ?_;refine Gc (Gk p1 0) rfl rfl (Zc Fm rfl (PT.ptr q1)) ?_;refine Qm (c:=.int .i64 ((x0).Kind)) rfl rfl .plain (fun _ _ h=>h.ch) t5 rfl ?_;refine Uh (φ:=fun v g w=>v=.int .i64 (y6)) rfl rfl .plain (fun g w hd=>Zp (g:=g) (vs:=[.int .i64 ((x0).Kind)]) en37 (.cons rfl .nil) (wk37  i6) fun g' w' v hs hr=>⟨g',hs,hr⟩) (fun v5 hv=>?_);obtain ⟨_,_,_,rfl⟩:=hv;refine Gc (Gk p2 0) rfl rfl (Zc Fm rfl (PT.ptr q2)) ?_;refine Qm (c:=.int .i64 ((x1).Kind)) rfl rfl .plain (fun _ _ h=>h.ch) g8 rfl ?_;refine Uh (φ:=fun v g w=>v=.int .i64 (o0)) rfl rfl .plain (fun g w hd=>Zp (g:=g) (vs:=[.int .i64 ((x1).Kind)]) en37 (.cons rfl .nil) (wk37  l5) fun g' w' v hs hr=>⟨g',hs,hr⟩) (fun v9 hv=>?_);obtain ⟨_,_,_,rfl⟩:=hv;refine Gc (.int .i64 ((w64 (y6 - o0)))) rfl rfl (Te rfl rfl rfl) ?_;refine Gc (.int .i64 ((w64 (y6 - o0)))) rfl rfl (Wd rfl) ?_;refine Vn fun l8 n8 hs=>?_;have hfr:=hfr.ext hs;clear hs;refine Zb (Zd (Gq ?_));obtain rfl:=sinj h;exact Qq rfl rfl (show _=.int .i64 ((w64 (y6 - o0))) from rfl) ⟨_,hfr,rfl⟩
def f39 (x0:List Int) (x1:Int→Option Bool):Option (Bool):=
 (f69 x0 x1).bind fun y2=>
 some ((decide (y2 ≥ (0:Int))))
theorem en39:Enters Try.prog 39:=enters_of Try.func39 (by kernel_rfl) rfl
theorem wk39 {gI:Gh} {wI:World} {x0:List Int} {x1:Int→Option Bool} {up0:Value} (rp0:RV gI.m wI x0 up0) {up1:Value} (rp1:Cc Try.prog x1 up1 gI wI) {r:Bool} (h:f39 x0 x1=some r):Fn Try.prog 39 #[up0,up1] gI wI (fun _ _ v=>v=.bool (r)):=by
 unfold f39 at h;refine Gz Try.func39 rfl (Nat.le_of_ble_eq_true rfl) fun g0 hm hfr=>?_;have rp0:RV g0.m wI x0 up0:=hm ▸ rp0;obtain ⟨ff1,fa1,fc1,rfl,fen1,fcl1⟩:=rp1;show E _ 9 none _ _ _ _ _;refine Zf (Za (Zg (.bool false) rfl rfl ?_));refine Zb (Zd (Zf (Za (Zn up0 rfl rfl ?_))));refine Zn ((.func (.func ff1) fa1 fc1)) rfl rfl ?_;obtain ⟨y2,hy2,h⟩:=Gd h;refine Ze .plain rfl (Zp (g:=g0) (vs:=[up0,(.func (.func ff1) fa1 fc1)]) en69 (.cons rfl (.cons rfl .nil)) (wk69 rp0 (Cc.ch ⟨_,_,_,rfl,fen1,fcl1⟩ hfr.ch) hy2) fun g1 w1_ v1 hs hr=>?_);have hfr:=hfr.ext hs;subst hr;refine Gp (.bool ((decide (y2 ≥ (0:Int))))) rfl rfl rfl rfl ?_;refine Zg (.bool ((decide (y2 ≥ (0:Int))))) rfl rfl ?_;refine Zb (Zd (Gq ?_));obtain rfl:=sinj h;exact Qq rfl rfl (show _=.bool ((decide (y2 ≥ (0:Int)))) from rfl) ⟨_,hfr,rfl⟩
def f44 (x0:List Bool) (σ:Type) (cons:Vh σ Qc) (s0:σ):Option σ:=
 jn (σ:=σ × Bool) (fun (zB,sF)=>
  bif sF then
   (idx x0 (0:Int)).bind fun aB=>
   (cons zB ((⟨(0:Int),(1000:Int),aB⟩:Qc))).bind fun (vJ,jG)=>
   some jG
  else
   some zB
  ) fun kH=>
 lp (σ:=σ × Bool × Int) (fun lH (t5,l9,o0)=>
  bif (decide (o0 < ((x0).length : Int))) then
   jn (σ:=σ × Bool) (fun (cC,uC)=>
    lH (cC,uC,(w64 (o0 + (1:Int))))
    ) fun cG=>
   jn (σ:=σ) (fun tF=>
    (idx x0 o0).bind fun oB=>
    Option.bind (α:=σ × Qc) (
     lp (σ:=σ × Qc) (fun mH (lB,l5)=>
      jn (σ:=σ) (fun vC=>
       mH (vC,{ l5 with length:=(w64 ((l5).length + (1:Int))) })
       ) fun nH=>
      (Hy (w64 (o0 + (l5).length)) ((x0).length:Int)).bind fun rE=>
      (f70 rE x0).bind fun eG=>
      bif (!eG) then
       nH (lB)
      else
       some (lB,l5)
      ) big (tF,(⟨o0,(1:Int),oB⟩:Qc))
     ) fun (bD,mB)=>
    (cons bD mB).bind fun (uE,yB)=>
    bif (!uE) then
     some yB
    else
     cG (yB,false)
    ) fun oH=>
   (f70 o0 x0).bind fun gG=>
   bif (!gG) then
    cG (t5,l9)
   else
    oH (t5)
  else
   kH (t5,l9)
  ) big (s0,true,(0:Int))
theorem en44:Enters Try.prog 44:=enters_of Try.func44 (by kernel_rfl) rfl
theorem wk44 {σ:Type} {cons:Vh σ Qc} {s0 r:σ} {gI:Gh} {wI:World} {x0:List Bool} {up0:Value} (rp0:RV gI.m wI x0 up0) (h:f44 x0 σ cons s0=some r):Fq Try.prog (RA1 (α:=Qc)) 44 #[up0] #[] gI wI cons s0 r:=by
 unfold f44 at h;refine Sy Try.func44 rfl (Nat.le_of_ble_eq_true rfl) fun l B J g0 hm hAb hRo hfr=>?_;have rp0:RV g0.m wI x0 up0:=hm ▸ rp0;show E _ 50 none _ _ (Jw #[up0,.func (.yield l) #[] #[]]) _ _;refine Zf (Za (Ze .plain rfl (Tx (g:=g0) rfl rp0 fun g1 w1 p1 hs q1=>?_)));have hfr:=hfr.ext_ hAb hs;refine Zb (Zd (Zf (Za (Zz ((.func (.func 70) #[] #[p1])) (Wh (Fz (show ev _ _=p1 from rfl))) rfl ?_))));refine Zg ((.func (.func 70) #[] #[p1])) rfl rfl ?_;refine Zb (Zd (Zf (Za (Zg (.bool true) rfl rfl ?_))));refine Zb (Zd (Zq h (fun (s:σ × Bool) e w=>∃ (g:Gh) ,FrY gI wI B J (s.1) g w∧e 1=(.func (.yield l) #[] #[])∧e 2=p1∧PT g.m w (x0:List Bool) p1∧e 5=.bool (s.2)) (fun X137 kH xJ h=>?_) ?_))
 ·refine Zf (Za (Ze .plain rfl (Gj (g := g1) Try.isAgg114 Try.sizeOf114 rfl q1 fun kM sK => ?_)))
  refine Zz (.int .i64 ((x0).length:Int)) (Qv Try.underlying114 rfl sK) rfl ?_;refine Zn (.int .i64 (0)) rfl rfl ?_;refine Zb (Zd (Zr ?_));refine He h (fun (s:σ × Bool × Int) e w=>∃ (g:Gh) ,FrY gI wI B J (s.1) g w∧e 1=(.func (.yield l) #[] #[])∧e 2=p1∧PT g.m w (x0:List Bool) p1∧e 4=(.func (.func 70) #[] #[p1])∧e 5=.bool (s.2.1)∧e 10=.int .i64 (((x0).length:Int))∧e 11=.int .i64 (s.2.2)) ⟨g1,hfr,rfl,rfl,q1,rfl,rfl,rfl,rfl⟩ (fun X139 lH zJ=>?_);rintro ⟨t5,l9,o0⟩ aM pM ⟨pH,hfr,cD,lD,i6,nD,uF,vB,n9⟩ h;refine Zf (Za (Gp (.bool ((decide (o0 < ((x0).length:Int))))) n9 vB rfl rfl ?_));refine Zb (Zd (Zf ?_));rcases Zt h with ⟨vE,h⟩ | ⟨vE,h⟩
  ·refine Tv vE rfl ?_
   refine Zu (Zd (Zq h (fun (s:σ × Bool) e w=>∃ (g:Gh) ,FrY gI wI B J (s.1) g w∧e 1=(.func (.yield l) #[] #[])∧e 2=p1∧PT g.m w (x0:List Bool) p1∧e 4=(.func (.func 70) #[] #[p1])∧e 5=.bool (s.2)∧e 10=.int .i64 (((x0).length:Int))∧e 11=.int .i64 (o0)) (fun X206 cG kG h=>?_) ?_))
   ·refine Zr ?_
    refine Zf (Za (Zo n9 rfl ?_));refine Zg (.int .i64 (o0)) rfl rfl ?_;refine Zb (Zd (Zq h (fun (s:σ) e w=>∃ (g:Gh) ,FrY gI wI B J (s) g w∧e 1=(.func (.yield l) #[] #[])∧e 2=p1∧PT g.m w (x0:List Bool) p1∧e 4=(.func (.func 70) #[] #[p1])∧e 6=.int .i64 (o0)∧e 10=.int .i64 (((x0).length:Int))∧e 11=.int .i64 (o0)) (fun X210 oH aK h=>?_) ?_))
    ·refine Zf (Za (Zo nD rfl ?_))
     refine Zn (.int .i64 (o0)) rfl rfl ?_;obtain ⟨gG,bK,h⟩:=Gd h;refine Ze .plain rfl (Dm (g:=pH) (vs:=[.int .i64 (o0)]) (first:=#[]) (caps:=#[p1]) rfl en70 (.cons rfl .nil) (wk70  i6 bK) fun qH qM rM hs hr=>?_);have hfr:=hfr.ext_ hAb hs;have i6:=i6.ext hs;subst hr;refine Zz (.bool (!gG)) (Kh rfl) rfl ?_;refine Zb (Zd ?_);rcases Zt h with ⟨xE,h⟩ | ⟨xE,h⟩
     ·refine Tv xE rfl ?_
      refine Qj ?_;refine Ta ?_;refine Tp ?_;exact Zd (kG (t5,l9) _ _ ⟨qH,hfr,cD,lD,i6,nD,uF,vB,n9⟩ h)
     ·refine Tu xE rfl ?_
      exact Zu (Zd (aK (t5) _ _ ⟨qH,hfr,cD,lD,i6,nD,rfl,vB,n9⟩ h))
    ·rintro tF bM tK ⟨yE, hfr, sH, vF, g8, tH, oD, sG, xG⟩ h
     refine Zf (Za (Zg (.bool false) rfl rfl ?_));refine Zb (Zd (Zf (Za (Zo oD rfl ?_))));refine Ze .plain rfl (Gj (g:=yE) Try.isAgg114 Try.sizeOf114 vF g8 fun uK uH=>?_);refine Zo oD rfl ?_;obtain ⟨oB,lG,h⟩:=Gd h;refine Zz (We uK o0 1) (Zh (α:=Bool) Try.underlying114 Try.sizeOf4 rfl uH rfl lG) rfl ?_;have vK:=Wp uH lG;refine Ze .plain rfl (Gj (g:=yE) Try.isAgg4 Try.sizeOf4 rfl vK fun sM xK=>?_);obtain rfl:=Wc.1 xK;have zE:RV yE.m tK (⟨o0,(1:Int),oB⟩:Qc) (.agg (Gy [[.int .i64 0],[.int .i64 0],[.bool false]] [(0,.int .i64 (o0)),(1,.int .i64 (1)),(2,.bool (oB))]).flatten.toArray):=Th rfl (Gu (rfl) (Gu (rfl) (Tl (rfl))));generalize cK:(Value.agg (Gy [[.int .i64 0],[.int .i64 0],[.bool false]] [(0,.int .i64 (o0)),(1,.int .i64 (1)),(2,.bool (oB))]).flatten.toArray)=xH at zE;refine Zz xH (cK ▸ Qb (vs:=[(0,.int .i64 (o0)),(1,.int .i64 (1)),(2,.bool (oB))]) [[.int .i64 0],[.int .i64 0],[.bool false]] lay_116 rfl rfl (.cons rfl (.cons rfl (.cons rfl .nil))) ⟨⟨_,rfl,rfl⟩,⟨⟨_,rfl,rfl⟩,⟨⟨_,rfl,rfl⟩,trivial⟩⟩⟩) rfl ?_;refine Ze .plain rfl (Tj (g:=yE) 2007 (⟨0,0,false⟩:Qc) Try.zeroValue116 (fun m w=>⟨_,(Gw Zx (Gw Zx Wu)),rfl⟩) fun yK tM v8 hs b220 cb=>?_);have hfr:=hfr.stp_ hAb hs rfl;have g8:=g8.stp hs;have zE:=zE.stp hs;clear cb;refine Ze .plain rfl (Gr (g:=yK) (v:=xH) Try.sizeOf116 rfl b220 rfl zE fun zK uM hs b221 cb=>?_);clear cb;have hfr:=hfr.stp_ hAb hs rfl;have g8:=g8.stp hs;refine Zb (Zd ?_);obtain ⟨⟨bD,mB⟩,hx,h⟩:=Gd h;refine Gx (fun e w=>∃ (g:Gh) ,FrY gI wI B J (bD) g w∧e 1=(.func (.yield l) #[] #[])∧e 2=p1∧PT g.m w (x0:List Bool) p1∧e 4=(.func (.func 70) #[] #[p1])∧e 5=.bool (false)∧e 7=v8∧OB 2007 g w 116 (mB:Qc) v8∧e 10=.int .i64 (((x0).length:Int))∧e 11=.int .i64 (o0)) (fun Q' hQ=>?_) (fun cM vM hR=>?_)
     ·replace h := hx
      clear hx;refine Zr ?_;refine He h (fun (s:σ × Qc) e w=>∃ (g:Gh) ,FrY gI wI B J (s.1) g w∧e 1=(.func (.yield l) #[] #[])∧e 2=p1∧PT g.m w (x0:List Bool) p1∧e 4=(.func (.func 70) #[] #[p1])∧e 5=.bool (false)∧e 6=.int .i64 (o0)∧e 7=v8∧OB 2007 g w 116 (s.2:Qc) v8∧e 10=.int .i64 (((x0).length:Int))∧e 11=.int .i64 (o0)) ⟨zK,hfr,sH,vF,g8,tH,rfl,oD,rfl,b221,sG,xG⟩ (fun X244 mH dK=>?_);rintro ⟨lB,l5⟩ dM xM ⟨iG,hfr,xF,yD,l8,zD,yF,aG,aE,n8,mE,oE⟩ h;refine Zq h (fun (s:σ) e w=>∃ (g:Gh) ,FrY gI wI B J (s) g w∧e 1=(.func (.yield l) #[] #[])∧e 2=p1∧PT g.m w (x0:List Bool) p1∧e 4=(.func (.func 70) #[] #[p1])∧e 5=.bool (false)∧e 6=.int .i64 (o0)∧e 7=v8∧OB 2007 g w 116 (l5:Qc) v8∧e 10=.int .i64 (((x0).length:Int))∧e 11=.int .i64 (o0)) (fun X253 nH lK h=>?_) ?_
      ·refine Zf (Za (Zo zD rfl ?_))
       refine Zo aG rfl ?_;refine Zz (Gk v8 1) (Zc Cz aE (OB.ptr n8)) rfl ?_;refine Ze .plain rfl (Wr (g:=iG) Jx.1 Try.isAgg3 Try.sizeOf3 rfl n8 fun bN aL=>?_);obtain rfl:=Zj.1 aL;refine Gp (.int .i64 ((w64 (o0 + (l5).length)))) rfl rfl rfl rfl ?_;refine Ze .plain rfl (Gj (g:=iG) Try.isAgg114 Try.sizeOf114 yD l8 fun cN bL=>?_);refine Zz (.int .i64 ((x0).length:Int)) (Qv Try.underlying114 rfl bL) rfl ?_;obtain ⟨rE,mK,h⟩:=Gd h;refine Zz (.int .i64 (rE)) (Te rfl rfl (congrArg (Option.map (Value.int .i64)) mK)) rfl ?_;obtain ⟨eG,nK,h⟩:=Gd h;refine Ze .plain rfl (Dm (g:=iG) (vs:=[.int .i64 (rE)]) (first:=#[]) (caps:=#[p1]) rfl en70 (.cons rfl .nil) (wk70  l8 nK) fun yH dN eN hs hr=>?_);have hfr:=hfr.ext_ hAb hs;have l8:=l8.ext hs;have n8:=n8.ext hs;subst hr;refine Zz (.bool (!eG)) (Kh rfl) rfl ?_;refine Zb (Zd ?_);rcases Zt h with ⟨cF,h⟩ | ⟨cF,h⟩
       ·refine Tv cF rfl ?_
        exact Zu (Zd (lK (lB) _ _ ⟨yH,hfr,xF,yD,l8,zD,yF,aG,aE,n8,mE,oE⟩ h))
       ·refine Tu cF rfl ?_
        refine Qj ?_;refine Ta ?_;refine Ta ?_;refine Tp ?_;obtain ⟨rfl,rfl⟩:=Ww h;exact hQ _ _ ⟨yH,hfr,xF,yD,l8,zD,yF,aE,n8,mE,oE⟩
      ·rintro vC eM gN ⟨zH, hfr, aI, bI, bE, dI, iI, jI, iE, nB, yG, zG⟩ h
       refine Zr ?_;refine Za (Zz (Gk v8 1) (Zc Cz iE (OB.ptr nB)) rfl ?_);refine Ze .plain rfl (Wr (g:=zH) Jx.1 Try.isAgg3 Try.sizeOf3 rfl nB fun iN dL=>?_);obtain rfl:=Zj.1 dL;refine Gp (.int .i64 ((w64 ((l5).length + (1:Int))))) rfl rfl rfl rfl ?_;refine Zz (Gk v8 1) (Zc Cz iE (OB.ptr nB)) rfl ?_;refine Ze .plain rfl (Ko (g:=zH) Jx Try.sizeOf3 rfl nB rfl (Zj.2 rfl) fun eL jN hs b265 rst hos=>?_);clear rst hos;have hfr:=hfr.stp_ hAb hs rfl;have bE:=bE.stp hs;exact Zb (To (Zd (dK (vC,{ l5 with length:=(w64 ((l5).length + (1:Int))) }) _ _ ⟨eL,hfr,aI,bI,bE,dI,iI,jI,iE,b265,yG,zG⟩ h)))
     ·clear hx
      obtain ⟨kI,hfr,bG,lI,lE,mI,nI,pI,qI,aH,cH⟩:=hR;refine Zf (Za (Zo bG rfl ?_));refine Ze .plain rfl (Wg (g:=kI) Try.isAgg116 Try.sizeOf116 pI qI fun kN gL=>?_);obtain ⟨iL,oK,h⟩:=Gd h;obtain ⟨uE,yB⟩:=iL;refine Ze .plain rfl (Du (g:=kI) (x:=mB) rfl (.cons rfl .nil) hRo hfr oK ⟨_,rfl,gL⟩ fun jL lN hs hfrY=>?_);have lE:=lE.stp hs;have hfr:=hfrY;clear hfrY;refine Zz (.bool (!uE)) (Kh rfl) rfl ?_;refine Zb (Zd ?_);rcases Zt h with ⟨dF,h⟩ | ⟨dF,h⟩
      ·refine Tv dF rfl ?_
       refine Gq (Qh ?_);refine Tc ?_;refine Tc ?_;refine Qh ?_;refine Tc ?_;obtain rfl:=sinj h;exact end0 rfl rfl (FrY.done hfr)
      ·refine Tu dF rfl ?_
       exact Zu (To (Zd (kG (yB,false) _ _ ⟨jL,hfr,bG,lI,lE,mI,nI,aH,cH⟩ h)))
   ·rintro ⟨cC, uC⟩ iM mN ⟨lL, hfr, sI, jJ, kJ, lJ, mJ, gH, jH⟩ h
    refine Za (Gp (.int .i64 ((w64 (o0 + (1:Int))))) jH rfl rfl rfl ?_);refine Zn (.int .i64 ((w64 (o0 + (1:Int))))) rfl rfl ?_;exact Zb (Zd (zJ (cC,uC,(w64 (o0 + (1:Int)))) _ _ ⟨lL,hfr,sI,jJ,kJ,lJ,mJ,gH,rfl⟩ h))
  ·refine Tu vE rfl ?_
   refine Qj ?_;refine Ta ?_;refine Ta ?_;refine Tp ?_;exact Zd (xJ (t5,l9) _ _ ⟨pH,hfr,cD,lD,i6,uF⟩ h)
 ·rintro ⟨zB, sF⟩ jM mL ⟨eF, hfr, nJ, oJ, pJ, qJ⟩ h
  refine Zf (Za (Zo qJ rfl ?_));refine Zb (Zd ?_);rcases Zt h with ⟨rF,h⟩ | ⟨rF,h⟩
  ·refine Tv rF rfl ?_
   refine Za (Zo nJ rfl ?_);refine Ze .plain rfl (Gj (g:=eF) Try.isAgg114 Try.sizeOf114 oJ pJ fun nL rJ=>?_);obtain ⟨aB,mG,h⟩:=Gd h;refine Zz (We nL (0:Int) 1) (Zh (α:=Bool) Try.underlying114 Try.sizeOf4 rfl rJ rfl mG) rfl ?_;have oL:=Wp rJ mG;refine Ze .plain rfl (Gj (g:=eF) Try.isAgg4 Try.sizeOf4 rfl oL fun nN xL=>?_);obtain rfl:=Wc.1 xL;have sJ:RV eF.m mL (⟨(0:Int),(1000:Int),aB⟩:Qc) (.agg (Gy [[.int .i64 0],[.int .i64 0],[.bool false]] [(0,.int .i64 (0)),(1,.int .i64 (1000)),(2,.bool (aB))]).flatten.toArray):=Th rfl (Gu (rfl) (Gu (rfl) (Tl (rfl))));generalize pK:(Value.agg (Gy [[.int .i64 0],[.int .i64 0],[.bool false]] [(0,.int .i64 (0)),(1,.int .i64 (1000)),(2,.bool (aB))]).flatten.toArray)=yL at sJ;refine Zz yL (pK ▸ Qb (vs:=[(0,.int .i64 (0)),(1,.int .i64 (1000)),(2,.bool (aB))]) [[.int .i64 0],[.int .i64 0],[.bool false]] lay_116 rfl rfl (.cons rfl (.cons rfl (.cons rfl .nil))) ⟨⟨_,rfl,rfl⟩,⟨⟨_,rfl,rfl⟩,⟨⟨_,rfl,rfl⟩,trivial⟩⟩⟩) rfl ?_;obtain ⟨zL,qK,h⟩:=Gd h;obtain ⟨vJ,jG⟩:=zL;refine Ze .plain rfl (Du (g:=eF) (x:=(⟨(0:Int),(1000:Int),aB⟩:Qc)) rfl (.cons rfl .nil) hRo hfr qK ⟨_,rfl,sJ⟩ fun oN pN hs hfrY=>?_);have hfr:=hfrY;clear hfrY;refine Zb ?_;obtain rfl:=sinj h;exact Vg rfl rfl (FrY.done hfr)
  ·refine Tu rF rfl ?_
   refine Zu ?_;obtain rfl:=sinj h;exact Vg rfl rfl (FrY.done hfr)
def f45 (x0:Int) (x1:Int) (x2:List Int):Option (Bool):=
 (f39 x2 ((fun a0=>f71 a0 x0 x1))).bind fun y4=>
 some ((!y4))
theorem en45:Enters Try.prog 45:=enters_of Try.func45 (by kernel_rfl) rfl
theorem wk45 {gI:Gh} {wI:World} {x0:Int} {x1:Int} {x2:List Int} {up2:Value} (rp2:RV gI.m wI x2 up2) {r:Bool} (h:f45 x0 x1 x2=some r):Fn Try.prog 45 #[.int .i64 (x0),.int .i64 (x1),up2] gI wI (fun _ _ v=>v=.bool (r)):=by
 unfold f45 at h;refine Gz Try.func45 rfl (Nat.le_of_ble_eq_true rfl) fun g0 hm hfr=>?_;have rp2:RV g0.m wI x2 up2:=hm ▸ rp2;show E _ 11 none _ _ _ _ _;refine Zf (Za (Ze .plain rfl (Tx (g:=g0) rfl (Zj.2 rfl) fun g1 w1 p1 hs q1=>?_)));have hfr:=hfr.ext hs;have rp2:=rp2.ext hs;refine Ze .plain rfl (Tx (g:=g1) rfl (Zj.2 rfl) fun g2 w2 p2 hs q2=>?_);have hfr:=hfr.ext hs;have rp2:=rp2.ext hs;have q1:=q1.ext hs;refine Zg (.bool false) rfl rfl ?_;refine Zb (Zd (Zf (Za (Zn up2 rfl rfl ?_))));refine Zz ((.func (.func 71) #[] #[p1,p2])) (Wh (Bl (show ev _ _=p1 from rfl) (show ev _ _=p2 from rfl))) rfl ?_;obtain ⟨y4,o0,h⟩:=Gd h;refine Ze .plain rfl (Zp (g:=g2) (vs:=[up2,(.func (.func 71) #[] #[p1,p2])]) en39 (.cons rfl (.cons rfl .nil)) (wk39 rp2 ⟨71,#[],#[p1,p2],rfl,en71,fun g' w' hch a0 b0 r hu0 hr=>by obtain rfl:=Zj.1 hu0; exact Fn.mono (wk71  (q1.ch hch) (q2.ch hch) hr) fun _ _ _ h=>Wc.2 h⟩ o0) fun g3 w3_ v3 hs hr=>?_);have hfr:=hfr.ext hs;subst hr;refine Zz (.bool (!y4)) (Kh rfl) rfl ?_;refine Zg (.bool (!y4)) rfl rfl ?_;refine Zb (Zd (Gq ?_));obtain rfl:=sinj h;exact Qq rfl rfl (show _=.bool (!y4) from rfl) ⟨_,hfr,rfl⟩
def f55 (x0:List Zy) (x1:Zy→Option Bool):Option (Bool):=
 (f81 x0 x1).bind fun y2=>
 some ((decide (y2 ≥ (0:Int))))
theorem en55:Enters Try.prog 55:=enters_of Try.func55 (by kernel_rfl) rfl
theorem wk55 {gI:Gh} {wI:World} {x0:List Zy} {x1:Zy→Option Bool} {up0:Value} (rp0:RV gI.m wI x0 up0) {up1:Value} (rp1:Cc Try.prog x1 up1 gI wI) {r:Bool} (h:f55 x0 x1=some r):Fn Try.prog 55 #[up0,up1] gI wI (fun _ _ v=>v=.bool (r)):=by
 unfold f55 at h;refine Gz Try.func55 rfl (Nat.le_of_ble_eq_true rfl) fun g0 hm hfr=>?_;have rp0:RV g0.m wI x0 up0:=hm ▸ rp0;obtain ⟨ff1,fa1,fc1,rfl,fen1,fcl1⟩:=rp1;show E _ 9 none _ _ _ _ _;refine Zf (Za (Zg (.bool false) rfl rfl ?_));refine Zb (Zd (Zf (Za (Zn up0 rfl rfl ?_))));refine Zn ((.func (.func ff1) fa1 fc1)) rfl rfl ?_;obtain ⟨y2,hy2,h⟩:=Gd h;refine Ze .plain rfl (Zp (g:=g0) (vs:=[up0,(.func (.func ff1) fa1 fc1)]) en81 (.cons rfl (.cons rfl .nil)) (wk81 rp0 (Cc.ch ⟨_,_,_,rfl,fen1,fcl1⟩ hfr.ch) hy2) fun g1 w1_ v1 hs hr=>?_);have hfr:=hfr.ext hs;subst hr;refine Gp (.bool ((decide (y2 ≥ (0:Int))))) rfl rfl rfl rfl ?_;refine Zg (.bool ((decide (y2 ≥ (0:Int))))) rfl rfl ?_;refine Zb (Zd (Gq ?_));obtain rfl:=sinj h;exact Qq rfl rfl (show _=.bool ((decide (y2 ≥ (0:Int)))) from rfl) ⟨_,hfr,rfl⟩
def f57 (x0:List Str) (x1:List Zy):Option (Bool):=
 (f55 x1 ((fun a0=>f84 a0 x0))).bind fun y3=>
 some ((!y3))
theorem en57:Enters Try.prog 57:=enters_of Try.func57 (by kernel_rfl) rfl
theorem wk57 {gI:Gh} {wI:World} {x0:List Str} {x1:List Zy} {up0:Value} (rp0:RV gI.m wI x0 up0) {up1:Value} (rp1:RV gI.m wI x1 up1) {r:Bool} (h:f57 x0 x1=some r):Fn Try.prog 57 #[up0,up1] gI wI (fun _ _ v=>v=.bool (r)):=by
 unfold f57 at h;refine Gz Try.func57 rfl (Nat.le_of_ble_eq_true rfl) fun g0 hm hfr=>?_;have rp0:RV g0.m wI x0 up0:=hm ▸ rp0;have rp1:RV g0.m wI x1 up1:=hm ▸ rp1;show E _ 9 none _ _ _ _ _;refine Zf (Za (Ze .plain rfl (Tx (g:=g0) rfl rp0 fun g1 w1 p1 hs q1=>?_)));have hfr:=hfr.ext hs;have rp1:=rp1.ext hs;refine Zg (.bool false) rfl rfl ?_;refine Zb (Zd (Zf (Za (Zn up1 rfl rfl ?_))));refine Zz ((.func (.func 84) #[] #[p1])) (Wh (Fz (show ev _ _=p1 from rfl))) rfl ?_;obtain ⟨y3,hy3,h⟩:=Gd h;refine Ze .plain rfl (Zp (g:=g1) (vs:=[up1,(.func (.func 84) #[] #[p1])]) en55 (.cons rfl (.cons rfl .nil)) (wk55 rp1 ⟨84,#[],#[p1],rfl,en84,fun g' w' hch a0 b0 r hu0 hr=>by exact Fn.mono (wk84 hu0 (q1.ch hch) hr) fun _ _ _ h=>Wc.2 h⟩ hy3) fun g2 w2_ v2 hs hr=>?_);have hfr:=hfr.ext hs;subst hr;refine Zz (.bool (!y3)) (Kh rfl) rfl ?_;refine Zg (.bool (!y3)) rfl rfl ?_;refine Zb (Zd (Gq ?_));obtain rfl:=sinj h;exact Qq rfl rfl (show _=.bool (!y3) from rfl) ⟨_,hfr,rfl⟩
def f58 (x0:List Str) (x1:List Str):Option (It (Int × Int)):=
 some ((fun σ cons s=>f85 x0 x1 σ cons s))
theorem en58:Enters Try.prog 58:=enters_of Try.func58 (by kernel_rfl) rfl
theorem wk58 {gI:Gh} {wI:World} {x0:List Str} {x1:List Str} {up0:Value} (rp0:RV gI.m wI x0 up0) {up1:Value} (rp1:RV gI.m wI x1 up1) {r:It (Int × Int)} (h:f58 x0 x1=some r):Fn Try.prog 58 #[up0,up1] gI wI (fun m w v=>ItV Try.prog (RA2 (α:=Int) (β:=Int)) (r) v m w):=by
 unfold f58 at h;refine Gz Try.func58 rfl (Nat.le_of_ble_eq_true rfl) fun g0 hm hfr=>?_;have rp0:RV g0.m wI x0 up0:=hm ▸ rp0;have rp1:RV g0.m wI x1 up1:=hm ▸ rp1;show E _ 6 none _ _ _ _ _;refine Zf (Za (Ze .plain rfl (Tx (g:=g0) rfl rp0 fun g1 w1 p1 hs q1=>?_)));have hfr:=hfr.ext hs;have rp1:=rp1.ext hs;refine Ze .plain rfl (Tx (g:=g1) rfl rp1 fun g2 w2 p2 hs q2=>?_);have hfr:=hfr.ext hs;have q1:=q1.ext hs;refine Zg (.nilFunc) rfl rfl ?_;refine Zb (Zd (Zf (Za (Zz ((.func (.func 85) #[] #[p1,p2])) (Wh (Bl (show ev _ _=p1 from rfl) (show ev _ _=p2 from rfl))) rfl ?_))));refine Zg ((.func (.func 85) #[] #[p1,p2])) rfl rfl ?_;refine Zb (Zd (Gq ?_));obtain rfl:=sinj h;exact Qq rfl rfl (show _=(.func (.func 85) #[] #[p1,p2]) from rfl) ⟨_,hfr,(show ItV Try.prog (RA2 (α:=Int) (β:=Int)) (fun σ cons s=>f85 x0 x1 σ cons s) ((.func (.func 85) #[] #[p1,p2])) g2.m w2 from ⟨85,#[],#[p1,p2],rfl,en85,fun g' w' hch σ cons s s' h=>wk85  (q1.ch hch) (q2.ch hch) h⟩)⟩
def f61 (x0:List Zv) (x1:Zv→Option Bool):Option (Bool):=
 (f86 x0 x1).bind fun y2=>
 some ((decide (y2 ≥ (0:Int))))
theorem en61:Enters Try.prog 61:=enters_of Try.func61 (by kernel_rfl) rfl
theorem wk61 {gI:Gh} {wI:World} {x0:List Zv} {x1:Zv→Option Bool} {up0:Value} (rp0:RV gI.m wI x0 up0) {up1:Value} (rp1:Cc Try.prog x1 up1 gI wI) {r:Bool} (h:f61 x0 x1=some r):Fn Try.prog 61 #[up0,up1] gI wI (fun _ _ v=>v=.bool (r)):=by
 unfold f61 at h;refine Gz Try.func61 rfl (Nat.le_of_ble_eq_true rfl) fun g0 hm hfr=>?_;have rp0:RV g0.m wI x0 up0:=hm ▸ rp0;obtain ⟨ff1,fa1,fc1,rfl,fen1,fcl1⟩:=rp1;show E _ 9 none _ _ _ _ _;refine Zf (Za (Zg (.bool false) rfl rfl ?_));refine Zb (Zd (Zf (Za (Zn up0 rfl rfl ?_))));refine Zn ((.func (.func ff1) fa1 fc1)) rfl rfl ?_;obtain ⟨y2,hy2,h⟩:=Gd h;refine Ze .plain rfl (Zp (g:=g0) (vs:=[up0,(.func (.func ff1) fa1 fc1)]) en86 (.cons rfl (.cons rfl .nil)) (wk86 rp0 (Cc.ch ⟨_,_,_,rfl,fen1,fcl1⟩ hfr.ch) hy2) fun g1 w1_ v1 hs hr=>?_);have hfr:=hfr.ext hs;subst hr;refine Gp (.bool ((decide (y2 ≥ (0:Int))))) rfl rfl rfl rfl ?_;refine Zg (.bool ((decide (y2 ≥ (0:Int))))) rfl rfl ?_;refine Zb (Zd (Gq ?_));obtain rfl:=sinj h;exact Qq rfl rfl (show _=.bool ((decide (y2 ≥ (0:Int)))) from rfl) ⟨_,hfr,rfl⟩
def f63 (x0:List Zv) (x1:Int) (x2:Zv→Zv→Option Int):Option ((List Zv)):=
 Option.bind (α:=(List Zv) × Int) (
  lp (σ:=(List Zv) × Int × Int) (fun k9 (l8,i6,l5)=>
   jn (σ:=Unit) (fun _=>
    (f87 l8 i6 l5 x2).bind fun tF=>
    k9 (tF,l5,(w64 (l5 + (20:Int))))
    ) fun lH=>
   bif (decide (l5 ≤ x1)) then
    lH ()
   else
    some (l8,i6)
   ) big (x0,(0:Int),(20:Int))
  ) fun (n9,n8)=>
 (f87 n9 n8 x1 x2).bind fun g8=>
 lp (σ:=Int) (fun mH o0=>
  jn (σ:=Unit) (fun _=>
   Option.bind (α:=Int) (
    lp (σ:=Int × Int) (fun aI (v8,l9)=>
     jn (σ:=Unit) (fun _=>
      none
      ) fun nH=>
     bif (decide (l9 ≤ x1)) then
      nH ()
     else
      some (v8)
     ) big ((0:Int),(w64 ((2:Int) * o0)))
    ) fun t5=>
   Option.bind (α:=Unit) (
    bif (decide ((w64 (t5 + o0)) < x1)) then
     none
    else
     some ()
    ) fun (_:Unit)=>
   mH ((w64 (o0 * (2:Int))))
   ) fun oH=>
  bif (decide (o0 < x1)) then
   oH ()
  else
   some (g8)
  ) big ((20:Int))
theorem en63:Enters Try.prog 63:=enters_of Try.func63 (by kernel_rfl) rfl
theorem wk63 {iI:Nat} {gI:Gh} {wI:World} {x0:List Zv} {x1:Int} {x2:Zv→Zv→Option Int} {up0:Value} (mp0:OM iI gI wI 41 x0 up0) {up2:Value} (rp2:FnV2 Try.prog x2 up2 gI wI) {r:(List Zv)} (h:f63 x0 x1 x2=some r):FnM Try.prog 63 #[up0,.int .i64 (x1),up2] iI gI wI (fun g w v=>v=.tuple #[]∧OM iI g w 41 r up0):=by
 unfold f63 at h;refine Uj Try.func63 rfl (Nat.le_of_ble_eq_true rfl) fun g0 hm hfr=>?_;have uF:=mp0;replace mp0:=mp0.enter;rw [← hm] at mp0
 replace hm:g0.m=gI.m:=by rw [hm]
 obtain ⟨ff2,fa2,fc2,rfl,fen2,fcl2⟩:=rp2;show E _ 63 none _ _ _ _ _;refine Zf (Za (Zg (.int .i64 (20)) rfl rfl ?_));refine Zb (Zd (Zf (Za (Zn (.int .i64 (20)) rfl rfl ?_))));refine Zg (.int .i64 (0)) rfl rfl ?_;refine Zg (.int .i64 (20)) rfl rfl ?_;refine Zb (Zd ?_);obtain ⟨⟨n9,n8⟩,hx,h⟩:=Gd h;refine Gx (fun e w=>∃ (g:Gh) ,FrM iI gI wI g w∧e 0=up0∧OM 1 g w 41 (n9:List Zv) up0∧e 1=.int .i64 (x1)∧e 2=(.func (.func ff2) fa2 fc2)∧e 6=.int .i64 ((20:Int))∧e 7=.int .i64 (n8)) (fun Q' hQ=>?_) (fun kJ aK hR=>?_)
 ·replace h := hx
  clear hx;refine Zr ?_;refine He h (fun (s:(List Zv) × Int × Int) e w=>∃ (g:Gh) ,FrM iI gI wI g w∧e 0=up0∧OM 1 g w 41 (s.1:List Zv) up0∧e 1=.int .i64 (x1)∧e 2=(.func (.func ff2) fa2 fc2)∧e 6=.int .i64 ((20:Int))∧e 7=.int .i64 (s.2.1)∧e 8=.int .i64 (s.2.2)) ⟨g0,hfr,rfl,mp0,rfl,rfl,rfl,rfl,rfl⟩ (fun X9 k9 bI=>?_);rintro ⟨l8,i6,l5⟩ lJ bK ⟨pH,hfr,cC,uC,aB,vC,bD,cD,lD⟩ h;refine Zq h (fun (s:Unit) e w=>∃ (g:Gh) ,FrM iI gI wI g w∧e 0=up0∧OM 1 g w 41 (l8:List Zv) up0∧e 1=.int .i64 (x1)∧e 2=(.func (.func ff2) fa2 fc2)∧e 6=.int .i64 ((20:Int))∧e 7=.int .i64 (i6)∧e 8=.int .i64 (l5)) (fun X12 lH sH h=>?_) ?_
  ·refine Zf (Za (Zo lD rfl ?_))
   refine Zo aB rfl ?_;refine Gp (.bool ((decide (l5 ≤ x1)))) rfl rfl rfl rfl ?_;refine Zb (Zd ?_);rcases Zt h with ⟨oB,h⟩ | ⟨oB,h⟩
   ·refine Tv oB rfl ?_
    exact Zu (Zd (sH () _ _ ⟨pH,hfr,cC,uC,aB,vC,bD,cD,lD⟩ h))
   ·refine Tu oB rfl ?_
    refine Qj ?_;refine Ta ?_;refine Ta ?_;refine Tp ?_;obtain ⟨rfl,rfl⟩:=Ww h;exact hQ _ _ ⟨pH,hfr,cC,uC,aB,vC,bD,cD⟩
  ·rintro _ mJ cK ⟨dI, hfr, nD, vF, xF, oD, yD, yF, lB⟩ h
   refine Zr ?_;refine Zf (Za (Zo nD rfl ?_));refine Zo yF rfl ?_;refine Zo lB rfl ?_;refine Zo oD rfl ?_;obtain ⟨tF,tH,h⟩:=Gd h;refine Ze .plain rfl (At (g:=dI) (i:=1) (vs:=[up0,.int .i64 (i6),.int .i64 (l5),(.func (.func ff2) fa2 fc2)]) en87 (.cons rfl (.cons rfl (.cons rfl (.cons rfl .nil)))) (wk87 vF (FnV2.ch ⟨_,_,_,rfl,fen2,fcl2⟩ hfr.ch) tH) fun jI nJ dK hs hr=>?_);obtain ⟨hrv,b15⟩:=hr;have hfr:=hfr.stp hs;subst hrv;refine Zb (Zd (Zf (Za (Zo lB rfl ?_))));refine Zg (.int .i64 (l5)) rfl rfl ?_;refine Zb (Zd (Za (Zo lB rfl ?_)));refine Zo yD rfl ?_;refine Gp (.int .i64 ((w64 (l5 + (20:Int))))) rfl rfl rfl rfl ?_;refine Zg (.int .i64 ((w64 (l5 + (20:Int))))) rfl rfl ?_;exact Zb (To (Zd (bI (tF,l5,(w64 (l5 + (20:Int)))) _ _ ⟨jI,hfr,nD,b15,xF,oD,yD,rfl,rfl⟩ h)))
 ·clear hx
  obtain ⟨kI,hfr,zD,aG,aE,bE,bG,cG⟩:=hR;refine Zf (Za (Zo zD rfl ?_));refine Zo cG rfl ?_;refine Zo aE rfl ?_;refine Zo bE rfl ?_;obtain ⟨g8,uH,h⟩:=Gd h;refine Ze .plain rfl (At (g:=kI) (i:=1) (vs:=[up0,.int .i64 (n8),.int .i64 (x1),(.func (.func ff2) fa2 fc2)]) en87 (.cons rfl (.cons rfl (.cons rfl (.cons rfl .nil)))) (wk87 aG (FnV2.ch ⟨_,_,_,rfl,fen2,fcl2⟩ hfr.ch) uH) fun lI oJ lK hs hr=>?_);obtain ⟨hrv,b18⟩:=hr;have hfr:=hfr.stp hs;subst hrv;refine Zb (Zd (Zr ?_));refine He h (fun (s:Int) e w=>∃ (g:Gh) ,FrM iI gI wI g w∧e 0=up0∧OM 1 g w 41 (g8:List Zv) up0∧e 1=.int .i64 (x1)∧e 2=(.func (.func ff2) fa2 fc2)∧e 6=.int .i64 (s)) ⟨lI,hfr,zD,b18,aE,bE,bG⟩ (fun X20 mH xH=>?_);rintro o0 pJ mK ⟨mI,hfr,eG,iE,lE,gG,mE⟩ h;refine Zq h (fun (s:Unit) e w=>∃ (g:Gh) ,FrM iI gI wI g w∧e 0=up0∧OM 1 g w 41 (g8:List Zv) up0∧e 1=.int .i64 (x1)∧e 2=(.func (.func ff2) fa2 fc2)∧e 6=.int .i64 (o0)) (fun X23 oH yH h=>?_) ?_
  ·refine Zf (Za (Zo mE rfl ?_))
   refine Zo lE rfl ?_;refine Gp (.bool ((decide (o0 < x1)))) rfl rfl rfl rfl ?_;refine Zb (Zd ?_);rcases Zt h with ⟨vB,h⟩ | ⟨vB,h⟩
   ·refine Tv vB rfl ?_
    exact Zu (Zd (yH () _ _ ⟨mI,hfr,eG,iE,lE,gG,mE⟩ h))
   ·refine Tu vB rfl ?_
    refine Qj ?_;refine Ta ?_;refine Ta ?_;refine Tp ?_;obtain rfl:=sinj h;exact Vg rfl rfl ⟨_,hfr,rfl,uF.back iE⟩
  ·rintro _ qJ nK ⟨nI, hfr, iG, jG, kG, lG, oE⟩ h
   refine Zr ?_;refine Zf (Za (Zo oE rfl ?_));refine Gp (.int .i64 ((w64 ((2:Int) * o0)))) rfl rfl rfl rfl ?_;refine Zg (.int .i64 (0)) rfl rfl ?_;refine Zg (.int .i64 ((w64 ((2:Int) * o0)))) rfl rfl ?_;refine Zb (Zd ?_);obtain ⟨t5,hx,h⟩:=Gd h;refine Gx (fun e w=>∃ (g:Gh) ,FrM iI gI wI g w∧e 0=up0∧OM 1 g w 41 (g8:List Zv) up0∧e 1=.int .i64 (x1)∧e 2=(.func (.func ff2) fa2 fc2)∧e 6=.int .i64 (o0)∧e 7=.int .i64 (t5)) (fun Q' hQ=>?_) (fun rJ oK hR=>?_)
   ·replace h := hx
    clear hx;refine Zr ?_;refine He h (fun (s:Int × Int) e w=>∃ (g:Gh) ,FrM iI gI wI g w∧e 0=up0∧OM 1 g w 41 (g8:List Zv) up0∧e 1=.int .i64 (x1)∧e 2=(.func (.func ff2) fa2 fc2)∧e 6=.int .i64 (o0)∧e 7=.int .i64 (s.1)∧e 8=.int .i64 (s.2)) ⟨nI,hfr,iG,jG,kG,lG,oE,rfl,rfl⟩ (fun X32 aI sJ=>?_);rintro ⟨v8,l9⟩ vJ pK ⟨qH,hfr,rE,uE,mB,vE,xE,yE,zE⟩ h;refine Zq h (fun (s:Unit) e w=>∃ (g:Gh) ,FrM iI gI wI g w∧e 0=up0∧OM 1 g w 41 (g8:List Zv) up0∧e 1=.int .i64 (x1)∧e 2=(.func (.func ff2) fa2 fc2)∧e 6=.int .i64 (o0)∧e 7=.int .i64 (v8)∧e 8=.int .i64 (l9)) (fun X35 nH zH h=>?_) ?_
    ·refine Zf (Za (Zo zE rfl ?_))
     refine Zo mB rfl ?_;refine Gp (.bool ((decide (l9 ≤ x1)))) rfl rfl rfl rfl ?_;refine Zb (Zd ?_);rcases Zt h with ⟨yB,h⟩ | ⟨yB,h⟩
     ·refine Tv yB rfl ?_
      exact Zu (Zd (zH () _ _ ⟨qH,hfr,rE,uE,mB,vE,xE,yE,zE⟩ h))
     ·refine Tu yB rfl ?_
      refine Qj ?_;refine Ta ?_;refine Ta ?_;refine Tp ?_;obtain rfl:=sinj h;exact hQ _ _ ⟨qH,hfr,rE,uE,mB,vE,xE,yE⟩
    ·rintro _ xJ qK ⟨sK, hfr, mG, sI, jJ, sG, xG, cF, yG⟩ h
     refine Zr ?_;refine Zf (Za (Zo mG rfl ?_));refine Zo cF rfl ?_;refine Zo cF rfl ?_;refine Zo xG rfl ?_;refine Gp (.int .i64 ((w64 (v8 + o0)))) rfl rfl rfl rfl ?_;refine Zo yG rfl ?_;refine Zo sG rfl ?_
     cases h
   ·clear hx
    obtain ⟨pI,hfr,dF,zG,nB,eF,rF,sF⟩:=hR;obtain ⟨_,hx,h⟩:=Gd h;refine Gx (fun e w=>∃ (g:Gh) ,FrM iI gI wI g w∧e 0=up0∧OM 1 g w 41 (g8:List Zv) up0∧e 1=.int .i64 (x1)∧e 2=(.func (.func ff2) fa2 fc2)∧e 6=.int .i64 (o0)) (fun Q' hQ=>?_) (fun zJ tK hR=>?_)
    ·replace h := hx
     clear hx;refine Zf (Za (Zo sF rfl ?_));refine Zo rF rfl ?_;refine Gp (.int .i64 ((w64 (t5 + o0)))) rfl rfl rfl rfl ?_;refine Zg (.int .i64 ((w64 (t5 + o0)))) rfl rfl ?_;refine Zb (Zd (Zf (Za (Zn (.int .i64 ((w64 (t5 + o0)))) rfl rfl ?_))));refine Zo nB rfl ?_;refine Gp (.bool ((decide ((w64 (t5 + o0)) < x1)))) rfl rfl rfl rfl ?_;refine Zb (Zd ?_);rcases Zt h with ⟨zB,h⟩ | ⟨zB,h⟩
     ·refine Tv zB rfl ?_
      refine Za (Zo dF rfl ?_);refine Zo sF rfl ?_;refine Zn (.int .i64 ((w64 (t5 + o0)))) rfl rfl ?_;refine Zo nB rfl ?_;refine Zo eF rfl ?_
      cases h
     ·refine Tu zB rfl ?_
      refine Zu ?_;obtain rfl:=sinj h;exact hQ _ _ ⟨pI,hfr,dF,zG,nB,eF,rF⟩
    ·clear hx
     obtain ⟨qI,hfr,aH,cH,gH,jH,kH⟩:=hR;refine Za (Zo kH rfl ?_);refine Gp (.int .i64 ((w64 (o0 * (2:Int))))) rfl rfl rfl rfl ?_;refine Zg (.int .i64 ((w64 (o0 * (2:Int))))) rfl rfl ?_;exact Zb (To (Zd (xH ((w64 (o0 * (2:Int)))) _ _ ⟨qI,hfr,aH,cH,gH,jH,rfl⟩ h)))
def f78 (x0:U64) (x1:U64):Option (U64 × U64):=
 (f91 x0 x1).bind fun y2=>
 some (y2.1,y2.2)
theorem en78:Enters Try.prog 78:=enters_of Try.func78 (by kernel_rfl) rfl
theorem wk78 {gI:Gh} {wI:World} {x0:U64} {x1:U64}  {r:U64 × U64} (h:f78 x0 x1=some r):Fn Try.prog 78 #[.int .u64 ((x0).n),.int .u64 ((x1).n)] gI wI (fun m w v=>∃ y0 y1,v=.tuple #[y0,y1]∧y0=.int .u64 ((r.1).n)∧y1=.int .u64 ((r.2).n)):=by
 unfold f78 at h;refine Gz Try.func78 rfl (Nat.le_of_ble_eq_true rfl) fun g0 hm hfr=>?_;show E _ 30 none _ _ _ _ _;refine Zf (Za (Zg (.int .u64 (0)) rfl rfl ?_));refine Zg (.int .u64 (0)) rfl rfl ?_;refine Zb (Zd (Zf (Td (by rw [show ev _ _=_ from rfl]; exact congrArg Value.bool rfl) ?_)));refine Zu (Zd (Zf (Za (Zn (.int .u64 ((x0).n)) rfl rfl ?_))));refine Zn (.int .u64 ((x1).n)) rfl rfl ?_;obtain ⟨y2,hy2,h⟩:=Gd h;refine Ze .plain rfl (Zp (g:=g0) (vs:=[.int .u64 ((x0).n),.int .u64 ((x1).n)]) en91 (.cons rfl (.cons rfl .nil)) (wk91  hy2) fun g1 w1_ v1 hs hr=>?_);have hfr:=hfr.ext hs;obtain ⟨o0,l5,rfl,rfl,rfl⟩:=hr;refine Zn (.tuple #[.int .u64 ((y2.1).n),.int .u64 ((y2.2).n)]) rfl rfl ?_;refine Zz (.int .u64 ((y2.1).n)) (Zi rfl rfl) rfl ?_;refine Zz (.int .u64 ((y2.2).n)) (Zi rfl rfl) rfl ?_;refine Zg (.int .u64 ((y2.1).n)) rfl rfl ?_;refine Zg (.int .u64 ((y2.2).n)) rfl rfl ?_;refine Zb (Zd (Zf (Za (Zn (.int .u64 ((y2.1).n)) rfl rfl ?_))));refine Zn (.int .u64 ((y2.2).n)) rfl rfl ?_;refine Zg (.int .u64 ((y2.1).n)) rfl rfl ?_;refine Zg (.int .u64 ((y2.2).n)) rfl rfl ?_;refine Zb (Zd (Gq ?_));obtain rfl:=sinj h;exact Ah rfl rfl (show _=.int .u64 ((y2.1).n) from rfl) (show _=.int .u64 ((y2.2).n) from rfl) ⟨_,hfr,_,_,rfl,rfl,rfl⟩
def f79 (x0:It Int):Option ((List Int)):=
 (f92 x0).bind fun y2=>
 some (y2)
theorem en79:Enters Try.prog 79:=enters_of Try.func79 (by kernel_rfl) rfl
def f80 (x0:Int) (x1:Int):Option (It Int):=
 some ((fun σ cons s=>f93 x1 x0 σ cons s))
theorem en80:Enters Try.prog 80:=enters_of Try.func80 (by kernel_rfl) rfl
theorem wk80 {gI:Gh} {wI:World} {x0:Int} {x1:Int}  {r:It Int} (h:f80 x0 x1=some r):Fn Try.prog 80 #[.int .i64 (x0),.int .i64 (x1)] gI wI (fun m w v=>ItV Try.prog (RA1 (α:=Int)) (r) v m w):=by
 unfold f80 at h;refine Gz Try.func80 rfl (Nat.le_of_ble_eq_true rfl) fun g0 hm hfr=>?_;show E _ 6 none _ _ _ _ _;refine Zf (Za (Ze .plain rfl (Tx (g:=g0) rfl (Zj.2 rfl) fun g1 w1 p1 hs q1=>?_)));have hfr:=hfr.ext hs;refine Ze .plain rfl (Tx (g:=g1) rfl (Zj.2 rfl) fun g2 w2 p2 hs q2=>?_);have hfr:=hfr.ext hs;have q1:=q1.ext hs;refine Zg (.nilFunc) rfl rfl ?_;refine Zb (Zd (Zf (Za (Zz ((.func (.func 93) #[] #[p2,p1])) (Wh (Bl (show ev _ _=p2 from rfl) (show ev _ _=p1 from rfl))) rfl ?_))));refine Zg ((.func (.func 93) #[] #[p2,p1])) rfl rfl ?_;refine Zb (Zd (Gq ?_));obtain rfl:=sinj h;exact Qq rfl rfl (show _=(.func (.func 93) #[] #[p2,p1]) from rfl) ⟨_,hfr,(show ItV Try.prog (RA1 (α:=Int)) (fun σ cons s=>f93 x1 x0 σ cons s) ((.func (.func 93) #[] #[p2,p1])) g2.m w2 from ⟨93,#[],#[p2,p1],rfl,en93,fun g' w' hch σ cons s s' h=>wk93  (q2.ch hch) (q1.ch hch) h⟩)⟩
def f6 (x0:FaultLoom):Option (FaultLoom):=
 (f11 ((x0).Harness)).bind fun y6=>
 (f7 ((x0).Design)).bind fun o0=>
 some ((⟨y6,o0⟩:FaultLoom))
theorem en6:Enters Try.prog 6:=enters_of Try.func6 (by kernel_rfl) rfl
theorem wk6 {gI:Gh} {wI:World} {x0:FaultLoom} {up0:Value} (rp0:RV gI.m wI x0 up0) {r:FaultLoom} (h:f6 x0=some r):Fn Try.prog 6 #[up0] gI wI (fun m w v=>RV m w (r) v):=by
 unfold f6 at h;refine Gz Try.func6 rfl (Nat.le_of_ble_eq_true rfl) fun g0 hm hfr=>?_;have rp0:RV g0.m wI x0 up0:=hm ▸ rp0;show E _ 10 none _ _ _ _ _;refine Zf (Za (Ze .plain rfl (Tx (g:=g0) rfl rp0 fun g1 w1 p1 hs q1=>?_)));have hfr:=hfr.ext hs;refine Ze .plain rfl (Tj (g:=g1) 2002 (⟨⟨0,[]⟩,⟨0,[]⟩⟩:FaultLoom) Try.zeroValue32 (fun m w=>⟨_,(Gw (Gw Zx Wk) (Gw Zx Wk)),rfl⟩) fun g2 w2 p2 hs b2 cb=>?_);have hfr:=hfr.stp hs;have q1:=q1.stp hs;have nB:OSF 2002 60201 1 g2 w2 3 32 ([]:List Int) p2:=cb.osf (by rfl);have oB:OSF 2002 60203 3 g2 w2 3 32 ([]:List Int) p2:=cb.osf (by rfl);clear cb;refine Zb (Zd (Zf ?_));have q3:=Zm (Qp).1 q1;refine Zs (x:=.tmp 3) Try.isAgg28 Try.sizeOf28 q3 fun v4 r4 aB=>?_;obtain ⟨y6,lB,h⟩:=Gd h;have q7:=Zm (Qe).1 q1;refine Zs (x:=.tmp 6) Try.isAgg30 Try.sizeOf30 q7 fun v8 r8 mB=>?_;obtain ⟨o0,n8,h⟩:=Gd h;refine Qu (g:=g2) (n:=6) [(2,(fun v g w=>RV g.m w y6 v)),(5,(fun v g w=>RV g.m w o0 v))] [0,1,2,3,4,5] rfl Wt (by kernel_rfl) (⟨fun _=>Vb,fun _=>Vb,trivial⟩) ?_;refine Gc (Gk p1 0) rfl rfl (Zc Hw rfl (PT.ptr q1)) ?_;refine Qm (c:=v4) rfl rfl .plain (fun _ _ h=>h.ch) aB rfl ?_;refine Uh (φ:=fun v g w=>RV g.m w y6 v) rfl rfl .plain (fun g w hd=>Zp (g:=g) (vs:=[v4]) en11 (.cons rfl .nil) (wk11 (r4.ext hd.1) lB) fun g' w' v hs hr=>⟨g',hs,hr⟩) (fun v5 hv=>?_);obtain ⟨_,_,_,rq5⟩:=hv;refine Gc (Gk p1 2) rfl rfl (Zc Ji rfl (PT.ptr q1)) ?_;refine Qm (c:=v8) rfl rfl .plain (fun _ _ h=>h.ch) mB rfl ?_;refine Uh (φ:=fun v g w=>RV g.m w o0 v) rfl rfl .plain (fun g w hd=>Zp (g:=g) (vs:=[v8]) en7 (.cons rfl .nil) (wk7 (r8.ext hd.1) n8) fun g' w' v hs hr=>⟨g',hs,hr⟩) (fun v9 hv=>?_);obtain ⟨_,_,_,rq9⟩:=hv;refine Xr fun l5 vB hall=>?_;have hs:=hall.1;have hfr:=hfr.ext hs;have b2:=b2.ext hs;have t5:=(Qw (A:=fun g w=>RV g.m w y6 v5) 2 rfl hall);have i6:=(Qw (A:=fun g w=>RV g.m w o0 v9) 5 rfl hall);clear hs hall;have g8:RV l5.m _ (⟨y6,o0⟩:FaultLoom) (.agg (Gy [[.int .i64 0,.slice none 0 0],[.int .i64 0,.slice none 0 0]] [(0,v5),(1,v9)]).flatten.toArray):=Th rfl (Gu (RV.cells t5) (Tl (RV.cells i6)));generalize l9:(Value.agg (Gy [[.int .i64 0,.slice none 0 0],[.int .i64 0,.slice none 0 0]] [(0,v5),(1,v9)]).flatten.toArray)=l8 at g8;refine Zz l8 (l9 ▸ Qb (vs:=[(0,v5),(1,v9)]) [[.int .i64 0,.slice none 0 0],[.int .i64 0,.slice none 0 0]] lay_32 rfl rfl (.cons rfl (.cons rfl .nil)) ⟨⟨_,rfl,Tb t5⟩,⟨⟨_,rfl,Tb i6⟩,trivial⟩⟩) rfl ?_;refine Ze .plain rfl (Gr (g:=l5) (v:=l8) Try.sizeOf32 rfl b2 rfl g8 fun yB zB hs b22 cb=>?_);clear cb;have hfr:=hfr.stp hs;refine Zb (Zd (Gq ?_));obtain rfl:=sinj h;obtain ⟨ad23,cv23,hp23,n9,cr23⟩:=Qs Try.isAgg32 Try.sizeOf32 b22;exact Ry rfl rfl ((show _=p2 from rfl).trans hp23) n9 ⟨_,hfr,cr23⟩
end Go.Proofs.Ytplaipkjhlkjgaa
