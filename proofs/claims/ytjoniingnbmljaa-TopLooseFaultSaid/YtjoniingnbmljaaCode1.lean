import Derived.Test.YtjoniingnbmljaaTypes
import Derived.Test.YtjoniingnbmljaaKn
import Derived.Test.YtjoniingnbmljaaShelf
set_option maxRecDepth 8000
set_option maxHeartbeats 4000000
namespace Go.Proofs.Ytjoniingnbmljaa
open Go.RowKit
theorem info_3:(Try.prog.info? 3).map (fun i=>(i.zero,i.size,i.bytes))=some (some (.int .i64 0),1,8):=by kernel_rfl
theorem info_56:(Try.prog.info? 56).map (fun i=>(i.zero,i.size,i.bytes))=some (some (.agg #[.int .i64 0,.int .i64 0,.int .i64 0,.int .i64 0,.bool false]),5,40):=by kernel_rfl
theorem info_5:(Try.prog.info? 5).map (fun i=>(i.zero,i.size,i.bytes))=some (some (.int .u8 0),1,1):=by kernel_rfl
theorem plain_FaultDamage:Plain Zv:=fun _ m' _ w' x _ h=>(plain_two plain_int (plain_two plain_int (plain_two plain_int (plain_two plain_int plain_bool)))) _ m' _ w' _ _ h
theorem mixed:Try.prog.follows .mixedOrders=true:=by kernel_rfl
theorem lay_28:layoutOf Try.prog 28=some ([.int .i64 0,.slice none 0 0],[(0,1),(1,1)]):=by kernel_rfl
theorem lay_30:layoutOf Try.prog 30=some ([.int .i64 0,.slice none 0 0],[(0,1),(1,1)]):=by kernel_rfl
theorem lay_32:layoutOf Try.prog 32=some ([.int .i64 0,.slice none 0 0,.int .i64 0,.slice none 0 0],[(0,2),(2,2)]):=by kernel_rfl
theorem lay_87:layoutOf Try.prog 87=some ([.int .i64 0,.int .i64 0,.bool false],[(0,1),(1,1),(2,1)]):=by kernel_rfl
theorem endm_c {P:Program} {e:Env} {ds:List Deferred} {w:World} {fn:Func} {R:Value→World→Prop} {t0:Tmp} {v0:Value} {y0:TypeId} {a0:Addr} (hres:fn.results=#[.cell t0 y0]) (hd:ds=[]) (h0:e t0=.pointer (some a0)) (l0:(loadVar y0 a0).run P w=.ok v0 w) (h:R v0 w):atEnd P fn R .ret e ds w:=
 ⟨hd,fun tmps ht=>⟨_,by simp [results,hres,ht,asAddr,h0,l0],h⟩⟩
theorem capf_0_1 {e:Env} {f:FuncId} {o0:Operand} {b0:Value} (hb0:ev e o0=b0):(Value.func (.func f) ((#[]:Array Operand).map (ev e)) ((#[o0]:Array Operand).map (ev e)))=.func (.func f) #[] #[b0]:=by simp [hb0]
theorem capf_0_2 {e:Env} {f:FuncId} {o0:Operand} {u3:Operand} {b0:Value} {b1:Value} (hb0:ev e o0=b0) (hb1:ev e u3=b1):(Value.func (.func f) ((#[]:Array Operand).map (ev e)) ((#[o0,u3]:Array Operand).map (ev e)))=.func (.func f) #[] #[b0,b1]:=by simp [hb0,hb1]
theorem info_4:(Try.prog.info? 4).map (fun i=>(i.zero,i.size,i.bytes))=some (some (.bool false),1,1):=by kernel_rfl
theorem capf_1_0 {e:Env} {f:FuncId} {o0:Operand} {a0:Value} (ha0:ev e o0=a0):(Value.func (.func f) ((#[o0]:Array Operand).map (ev e)) ((#[]:Array Operand).map (ev e)))=.func (.func f) #[a0] #[]:=by simp [ha0]
theorem key_3:KeyLaw Try.prog 3 (Value.int .i64):=keyLaw_int Try.underlying3
theorem lay_56:layoutOf Try.prog 56=some ([.int .i64 0,.int .i64 0,.int .i64 0,.int .i64 0,.bool false],[(0,1),(1,1),(2,1),(3,1),(4,1)]):=by kernel_rfl
theorem layA_384:((Try.prog.info? 384).bind (·.zero)).map (·.cells.toList)=some [.int .i64 0,.int .i64 0]:=by kernel_rfl
theorem szA_54:(Try.prog.info? 54).map (·.size)=some 1:=by kernel_rfl
theorem endm_ctt {P:Program} {e:Env} {ds:List Deferred} {w:World} {fn:Func} {R:Value→World→Prop} {t0:Tmp} {v0:Value} {y0:TypeId} {a0:Addr} {t1:Tmp} {v1:Value} {t2:Tmp} {v2:Value} (hres:fn.results=#[.cell t0 y0,.tmp t1,.tmp t2]) (hd:ds=[]) (h0:e t0=.pointer (some a0)) (l0:(loadVar y0 a0).run P w=.ok v0 w) (h1:e t1=v1) (h2:e t2=v2) (h:R (.tuple #[v0,v1,v2]) w):atEnd P fn R .ret e ds w:=
 ⟨hd,fun tmps ht=>⟨_,by simp [results,hres,ht,asAddr,h0,l0,h1,h2],h⟩⟩
theorem lay_170:layoutOf Try.prog 170=some ([.int .i64 0,.slice none 0 0,.int .i64 0,.slice none 0 0],[(0,4)]):=by kernel_rfl
theorem fl_56 : Try.prog.fieldsOf 56 = #[{ name := "Kind", type := 54, offset := 0, embedded := false, tag := "", pkgPath := "", byteOffset := 0 }, { name := "Pick", type := 3, offset := 1, embedded := false, tag := "", pkgPath := "", byteOffset := 8 }, { name := "Hook", type := 3, offset := 2, embedded := false, tag := "", pkgPath := "", byteOffset := 16 }, { name := "Warp", type := 3, offset := 3, embedded := false, tag := "", pkgPath := "", byteOffset := 24 }, { name := "Up", type := 4, offset := 4, embedded := false, tag := "", pkgPath := "", byteOffset := 32 }] := by kernel_rfl
theorem seq_56:SEq (α:=Zv) Try.prog 56:=by
 intro d x y w a b m wx m2 wy hx hy
 obtain ⟨_,⟨_,_,rfl,rfl,⟨_,_,rfl,rfl,⟨_,_,rfl,rfl,⟨_,_,rfl,rfl,rfl⟩⟩⟩⟩,rfl⟩:=hx
 obtain ⟨_,⟨_,_,rfl,rfl,⟨_,_,rfl,rfl,⟨_,_,rfl,rfl,⟨_,_,rfl,rfl,rfl⟩⟩⟩⟩,rfl⟩:=hy
 refine (run_equalIn_struct w (d + 1) 56 _ _ (by kernel_rfl) (by kernel_rfl)).trans ?_
 rw [fl_56]
 obtain ⟨x0,x1,x2,x3,x4⟩:=x
 obtain ⟨y0,y1,y2,y3,y4⟩:=y
 show (Op.eqFields (d + 1) #[.int .i64 (x0),.int .i64 (x1),.int .i64 (x2),.int .i64 (x3),.bool (x4)] #[.int .i64 (y0),.int .i64 (y1),.int .i64 (y2),.int .i64 (y3),.bool (y4)] _).run _ _=_
 have x0p:(part 54 #[.int .i64 (x0),.int .i64 (x1),.int .i64 (x2),.int .i64 (x3),.bool (x4)] 0).run Try.prog w=.ok (.int .i64 (x0)) w:=part_one Try.isAgg54 rfl
 have x1p:(part 3 #[.int .i64 (x0),.int .i64 (x1),.int .i64 (x2),.int .i64 (x3),.bool (x4)] 1).run Try.prog w=.ok (.int .i64 (x1)) w:=part_one Try.isAgg3 rfl
 have x2p:(part 3 #[.int .i64 (x0),.int .i64 (x1),.int .i64 (x2),.int .i64 (x3),.bool (x4)] 2).run Try.prog w=.ok (.int .i64 (x2)) w:=part_one Try.isAgg3 rfl
 have x3p:(part 3 #[.int .i64 (x0),.int .i64 (x1),.int .i64 (x2),.int .i64 (x3),.bool (x4)] 3).run Try.prog w=.ok (.int .i64 (x3)) w:=part_one Try.isAgg3 rfl
 have x4p:(part 4 #[.int .i64 (x0),.int .i64 (x1),.int .i64 (x2),.int .i64 (x3),.bool (x4)] 4).run Try.prog w=.ok (.bool (x4)) w:=part_one Try.isAgg4 rfl
 have y0p:(part 54 #[.int .i64 (y0),.int .i64 (y1),.int .i64 (y2),.int .i64 (y3),.bool (y4)] 0).run Try.prog w=.ok (.int .i64 (y0)) w:=part_one Try.isAgg54 rfl
 have y1p:(part 3 #[.int .i64 (y0),.int .i64 (y1),.int .i64 (y2),.int .i64 (y3),.bool (y4)] 1).run Try.prog w=.ok (.int .i64 (y1)) w:=part_one Try.isAgg3 rfl
 have y2p:(part 3 #[.int .i64 (y0),.int .i64 (y1),.int .i64 (y2),.int .i64 (y3),.bool (y4)] 2).run Try.prog w=.ok (.int .i64 (y2)) w:=part_one Try.isAgg3 rfl
 have y3p:(part 3 #[.int .i64 (y0),.int .i64 (y1),.int .i64 (y2),.int .i64 (y3),.bool (y4)] 3).run Try.prog w=.ok (.int .i64 (y3)) w:=part_one Try.isAgg3 rfl
 have y4p:(part 4 #[.int .i64 (y0),.int .i64 (y1),.int .i64 (y2),.int .i64 (y3),.bool (y4)] 4).run Try.prog w=.ok (.bool (y4)) w:=part_one Try.isAgg4 rfl
 simp only [Op.eqFields,Sem.run_bind,Sem.run_ite,Sem.run_pure,x0p,x1p,x2p,x3p,x4p,y0p,y1p,y2p,y3p,y4p,Result.andThen_ok,run_equalIn_int _ _ _ _ _ _ _ Try.underlying54,run_equalIn_int _ _ _ _ _ _ _ Try.underlying3,run_equalIn_bool _ _ _ _ _ Try.underlying4]
 simp
 grind
theorem eg_56:Try.prog.eqGuardType Try.prog.depth 56=false:=by kernel_rfl
theorem lay_221:layoutOf Try.prog 221=some ([.int .i64 0,.slice none 0 0],[(0,2)]):=by kernel_rfl
theorem info_9:(Try.prog.info? 9).map (fun i=>(i.zero,i.size,i.bytes))=some (some (Str.v ⟨[]⟩),1,16):=by kernel_rfl
theorem lay_202:layoutOf Try.prog 202=some ([.int .i64 0,.slice none 0 0,.slice none 0 0],[(0,2),(2,1)]):=by kernel_rfl
theorem endm_ccc {P:Program} {e:Env} {ds:List Deferred} {w:World} {fn:Func} {R:Value→World→Prop} {t0:Tmp} {v0:Value} {y0:TypeId} {a0:Addr} {t1:Tmp} {v1:Value} {y1:TypeId} {a1:Addr} {t2:Tmp} {v2:Value} {y2:TypeId} {a2:Addr} (hres:fn.results=#[.cell t0 y0,.cell t1 y1,.cell t2 y2]) (hd:ds=[]) (h0:e t0=.pointer (some a0)) (l0:(loadVar y0 a0).run P w=.ok v0 w) (h1:e t1=.pointer (some a1)) (l1:(loadVar y1 a1).run P w=.ok v1 w) (h2:e t2=.pointer (some a2)) (l2:(loadVar y2 a2).run P w=.ok v2 w) (h:R (.tuple #[v0,v1,v2]) w):atEnd P fn R .ret e ds w:=
 ⟨hd,fun tmps ht=>⟨_,by simp [results,hres,ht,asAddr,h0,l0,h1,l1,h2,l2],h⟩⟩
theorem tup2_0 {b0 b1:Value} {B0:Value→Prop} {B1:Value→Prop} (h:∃ c0 c1:Value,Value.tuple #[b0,b1]=.tuple #[c0,c1]∧B0 c0∧B1 c1):B0 b0:=by
 obtain ⟨c0,c1,he,h0,h1⟩:=h; simp at he; obtain ⟨rfl,rfl⟩:=he; exact h0
theorem info_87:(Try.prog.info? 87).map (fun i=>(i.zero,i.size,i.bytes))=some (some (.agg #[.int .i64 0,.int .i64 0,.bool false]),3,24):=by kernel_rfl
theorem tup3_0 {b0 b1 b2:Value} {B0:Value→Prop} {B1:Value→Prop} {B2:Value→Prop} (h:∃ c0 c1 c2:Value,Value.tuple #[b0,b1,b2]=.tuple #[c0,c1,c2]∧B0 c0∧B1 c1∧B2 c2):B0 b0:=by
 obtain ⟨c0,c1,c2,he,h0,h1,h2⟩:=h; simp at he; obtain ⟨rfl,rfl,rfl⟩:=he; exact h0
theorem tup3_1 {b0 b1 b2:Value} {B0:Value→Prop} {B1:Value→Prop} {B2:Value→Prop} (h:∃ c0 c1 c2:Value,Value.tuple #[b0,b1,b2]=.tuple #[c0,c1,c2]∧B0 c0∧B1 c1∧B2 c2):B1 b1:=by
 obtain ⟨c0,c1,c2,he,h0,h1,h2⟩:=h; simp at he; obtain ⟨rfl,rfl,rfl⟩:=he; exact h1
def f71 (x0:List Int):Option (List Int):=apnd 8 [] x0
theorem en71:Enters Try.prog 71:=enters_of Try.func71 (by kernel_rfl) rfl
def f145 (x0:List Zv):Option (List Zv):=apnd 40 [] x0
theorem en145:Enters Try.prog 145:=enters_of Try.func145 (by kernel_rfl) rfl
theorem atS_0 (a:Addr) (w:World):(Instr.fieldAt 331 (.pointer (some a)) 0).run Try.prog w=.ok (.pointer (some (a.add 0))) w:=by simp [Instr.fieldAt,run_underlying Try.underlying331,Instr.sureAddr,fieldPlace,Result.andThen]
theorem atS_1 (a:Addr) (w:World):(Instr.fieldAt 331 (.pointer (some a)) 1).run Try.prog w=.ok (.pointer (some (a.add 1))) w:=by simp [Instr.fieldAt,run_underlying Try.underlying331,Instr.sureAddr,fieldPlace,Result.andThen]
theorem sb_size:(Try.prog.info? 331).map (·.size)=some 2:=by kernel_rfl
theorem sb_psize:∃ j,Try.prog.info? 331=some j∧j.size=2:=Option.map_eq_some_iff.1 sb_size
theorem en242:Enters Try.prog 242:=enters_of Try.func242 (by kernel_rfl) rfl
theorem ob_shape {i:Nat} {g:Gh} {w:World} {x:Fv × List UInt8} {b o:Nat} (hb:OB i g w 331 x (.pointer (some ⟨b,o,none⟩))):o=0∧w.shape? b=some (331,2):=by
 obtain ⟨b',cs,hp,_,_,hh,hr⟩:=hb
 injection hp with hp; injection hp with hp; injection hp with h1 h2
 subst h1; subst h2
 have hl:=GoT.len hr
 simp [GoT.k] at hl
 exact ⟨rfl,by simp [World.shape?,hh,hl]⟩
theorem wk242 {i j : Nat} (hji : Nat.beq j i = false) {g : Gh} {w : World} {a : Fv} {xs : List UInt8} {p : Value} (hb : OB i g w 331 (a, xs) p) (ho : OSF i j 1 g w 5 331 xs p) (ha : a.v = .pointer none ∨ a.v = p) :
  Calls Try.prog 242 #[p] w fun r w'=>∃ v,r=.returned v∧∃ g',Stp i g w g' w'∧∃ a':Fv,a'.v=p∧OB i g' w' 331 (a',xs) p∧OSF i j 1 g' w' 5 331 xs p:=by
 obtain ⟨b,o,rfl⟩:=hb.ptr
 obtain ⟨hoff,hsh⟩:=ob_shape hb
 subst hoff
 obtain ⟨jt,hj,hjs⟩:=sb_psize
 refine calls_of_E Try.func242 rfl (Nat.le_of_ble_eq_true rfl) ?_
 show E _ 20 none _ _ _ _ _
 refine Zf (Za (Zn (.pointer (some ⟨b,0,none⟩)) rfl rfl ?_))
 refine Ga (.pointer (some ⟨b,0,none⟩)) (P_nilCheck rfl) rfl ?_
 refine Ga (fPtr (.pointer (some ⟨b,0,none⟩)) 0) (Zc atS_0 rfl ⟨b,0,rfl⟩) rfl ?_
 refine Ze .plain rfl (D_loadF (g:=g) (a:=(a,xs)) Sub.fst Try.isAgg329 Try.sizeOf329 rfl hb fun v r=>?_)
 obtain rfl:=RV_fv.1 r
 rcases ha with ha | ha
 ·refine Ga (.bool true) (P_ptreq (u2 := .pointer none) (.inl rfl) (show _ = .pointer none from ha) rfl ⟨_, rfl⟩ ⟨_, rfl⟩ (fun w => by simpa using run_eql_pointer_nil (P := Try.prog) w 329 none Try.underlying329)) rfl ?_
  refine Zb (Zd (E_cond_true rfl (Za ?_)))
  refine Zn (.pointer (some ⟨b,0,none⟩)) rfl rfl ?_
  refine Zn (.pointer (some ⟨b,0,none⟩)) rfl rfl ?_
  refine EL_val (v:=.pointer (some ⟨b,0,none⟩)) (w':=w) .plain (fun _ h=>by cases h) rfl (by
   have:=Lib.run_to_unsafe w ⟨b,0,none⟩ Try.underlying329 Try.underlying422 hj (by rw [hjs]; decide) hsh (by show 0 < 2; omega)
   show (Sem.run _ (execOp _ _) _)=_
   simp only [execOp,Sem.run_bind]
   rw [show ev _ (Operand.tmp 8)=Value.pointer (some ⟨b,0,none⟩) from rfl,this]
   rfl) ?_
  refine Ga (.pointer (some ⟨b,0,none⟩)) (P_extern Try.func275 (by kernel_rfl) (by kernel_rfl) (by kernel_rfl) (ex:=Extern.AbiNoEscape.same) (by kernel_rfl) (.cons rfl .nil) (fun _=>rfl)) rfl ?_
  refine EL_val (v:=.pointer (some ⟨b,0,none⟩)) (w':=w) .plain (fun _ h=>by cases h) rfl (by
   have:=Lib.run_from_unsafe w ⟨b,0,none⟩ Try.underlying422 Try.underlying329 hj hsh (by kernel_rfl)
   show (Sem.run _ (execOp _ _) _)=_
   simp only [execOp,Sem.run_bind]
   rw [show ev _ (Operand.tmp 10)=Value.pointer (some ⟨b,0,none⟩) from rfl,this]
   rfl) ?_
  refine Ga (.pointer (some ⟨b,0,none⟩)) (P_nilCheck rfl) rfl ?_
  refine Ga (fPtr (.pointer (some ⟨b,0,none⟩)) 0) (Zc atS_0 rfl ⟨b,0,rfl⟩) rfl ?_
  refine Ze .plain rfl (D_storeFc (g:=g) (a:=(a,xs)) (b:=(⟨.pointer (some ⟨b,0,none⟩),rfl⟩:Fv)) SubS.fst Try.sizeOf329 rfl hb rfl (RV_fv.2 rfl) fun g1 w1 hs b1 rst _=>?_)
  exact Zb (end0n rfl rfl ⟨g1,hs,_,rfl,b1,ho.rest hs rst rfl hji⟩)
 ·refine Ga (.bool false) (P_ptreq (u2 := .pointer none) (.inl rfl) (show _ = .pointer (some ⟨b, 0, none⟩) from ha) rfl ⟨_, rfl⟩ ⟨_, rfl⟩ (fun w => by simpa using run_eql_pointer_nil (P := Try.prog) w 329 (some ⟨b, 0, none⟩) Try.underlying329)) rfl ?_
  refine Zb (Zd (E_cond_false rfl ?_))
  refine Zf (Za (Zn (.pointer (some ⟨b,0,none⟩)) rfl rfl ?_))
  refine Ga (.pointer (some ⟨b,0,none⟩)) (P_nilCheck rfl) rfl ?_
  refine Ga (fPtr (.pointer (some ⟨b,0,none⟩)) 0) (Zc atS_0 rfl ⟨b,0,rfl⟩) rfl ?_
  refine Ze .plain rfl (D_loadF (g:=g) (a:=(a,xs)) Sub.fst Try.isAgg329 Try.sizeOf329 rfl hb fun v r=>?_)
  obtain rfl:=RV_fv.1 r
  refine Zn (.pointer (some ⟨b,0,none⟩)) rfl rfl ?_
  refine Ga (.bool false) (P_ptreq (.inr rfl) (show _=.pointer (some ⟨b,0,none⟩) from ha) rfl ⟨_,rfl⟩ ⟨_,rfl⟩ (fun w=>Lib.run_neq_ptr_same w ⟨b,0,none⟩ Try.underlying329 hj)) rfl ?_
  refine Zb (Zd (E_cond_false rfl (Zu ?_)))
  exact end0n rfl rfl ⟨g,stp_refl _ _ _,_,ha,hb,ho⟩
theorem en185:Enters Try.prog 185:=enters_of Try.func185 (by kernel_rfl) rfl
theorem wk185 {i j : Nat} (hji : Nat.beq j i = false) (hij : Nat.beq i j = false) {g : Gh} {w : World} {c : UInt8} {xs r : List UInt8} {p : Value} (hsb : SB i j g w 5 331 xs p) (hr : apnd 1 xs [c] = some r) :
  Calls Try.prog 185 #[p,.int .u8 c.toNat] w fun q w'=>∃ v,q=.returned v∧v=.nilIface∧WB i j g w 5 331 r p w':=by
 obtain ⟨a,hb,ho,ha⟩:=hsb
 obtain ⟨b,o,rfl⟩:=hb.ptr
 obtain ⟨hoff,hsh⟩:=ob_shape hb
 subst hoff
 refine calls_of_E Try.func185 rfl (Nat.le_of_ble_eq_true rfl) ?_
 show E _ 17 none _ _ _ _ _
 refine Zf (Za (Zg (.nilIface) rfl rfl ?_))
 refine Zb (Zd (Zf (Za (Zn (.pointer (some ⟨b,0,none⟩)) rfl rfl ?_))))
 refine Ze .plain rfl (D_callC (vs:=[.pointer (some ⟨b,0,none⟩)]) en242 (.cons rfl .nil) (wk242 hji hb ho ha) fun v w1 h1=>?_)
 obtain ⟨g1,hs1,a1,ha1,hb1,ho1⟩:=h1
 refine Zb (Zd (Zf (Za (Zn (.pointer (some ⟨b,0,none⟩)) rfl rfl ?_))))
 refine Zn (.pointer (some ⟨b,0,none⟩)) rfl rfl ?_
 refine Ga (.pointer (some ⟨b,0,none⟩)) (P_nilCheck rfl) rfl ?_
 refine Ga (fPtr (.pointer (some ⟨b,0,none⟩)) 1) (Zc atS_1 rfl ⟨b,0,rfl⟩) rfl ?_
 refine Ze .plain rfl (D_loadFS (g:=g1) (a:=(a1,xs)) (f:=Prod.snd) Sub.snd Try.isAgg22 Try.sizeOf22 rfl hb1 ho1 fun v2 r2 o2=>?_)
 refine Zn (.int .u8 c.toNat) rfl rfl ?_
 refine Ze .plain rfl (D_buildSlice (g:=g1) 1 (xs:=[c]) (vs:=[.int .u8 c.toNat]) Try.underlying22 Try.sizeOf5 Try.zeroValue5 rfl rfl (.cons rfl .nil) (RVs.cons (RV_u8.2 rfl) RVs.nil) rfl rfl fun g3 w3 v3 _ _ r3 hxt _=>?_)
 refine Ze .plain rfl (D_append (g:=g3) (i:=j) Try.underlying22 info_5 rfl rfl (o2.ext hxt) (r2.ext hxt) rfl r3 hr fun g4 w4 v4 hs4 o4 r4 _=>?_)
 have hb4:=(hb1.ext hxt).stp hs4 hij
 refine Ga (.pointer (some ⟨b,0,none⟩)) (P_nilCheck rfl) rfl ?_
 refine Ga (fPtr (.pointer (some ⟨b,0,none⟩)) 1) (Zc atS_1 rfl ⟨b,0,rfl⟩) rfl ?_
 refine Ze .plain rfl (D_storeFc (g:=g4) (a:=(a1,xs)) SubS.snd Try.sizeOf22 rfl hb4 rfl r4 fun g5 w5 hs5 b5 _ hos=>?_)
 have o5:=hos _ _ j 5 r (rv_cells1 r4) hji o4
 refine Zb (Zd (Zf (Za (Zg (.nilIface) rfl rfl ?_))))
 refine Zb (Zd (E_ret (end1 rfl rfl (show _=.nilIface from rfl) ⟨rfl,g5,⟨g1,w1,g4,w4,hs1,(hxt.stp.trans hs4),hs5⟩,a1,b5,o5,.inr ha1⟩)))
theorem en188:Enters Try.prog 188:=enters_of Try.func188 (by kernel_rfl) rfl
theorem mixedS:Try.prog.follows .mixedOrders=true:=by kernel_rfl
theorem wk188 {i j : Nat} (hij : Nat.beq i 0 = false) {g : Gh} {w : World} {xs : List UInt8} {p : Value} (hsb : SB i j g w 5 331 xs p) (h0 : xs ≠ []) :
  Calls Try.prog 188 #[p] w fun q w'=>∃ v,q=.returned v∧GS j g w xs v w':=by
 obtain ⟨a,hb,ho,ha⟩:=hsb
 obtain ⟨b,o,rfl⟩:=hb.ptr
 obtain ⟨hoff,hsh⟩:=ob_shape hb
 subst hoff
 refine calls_of_E Try.func188 rfl (Nat.le_of_ble_eq_true rfl) ?_
 show E _ 14 none _ _ _ _ _
 refine Zf (Za (Zg (Str.v ⟨[]⟩) rfl rfl ?_))
 refine Zb (Zd (L_loadFSx (f:=Prod.snd) (a:=(a,xs)) Sub.snd Try.isAgg22 Try.sizeOf22 hb ho fun v r os hl=>?_))
 obtain ⟨sa,c,rfl,hc,_⟩:=RV_list r
 have hne:c ≠ 0:=by
  have : 0 < xs.length := by cases xs with
   | nil=>exact absurd rfl h0
   | cons _ _=>simp
  have hc':xs.length ≤ c:=hc
  omega
 refine Zf (E_drawL (g:=g) (n:=10) [] [0,1,2,3,4,5,6,7,8,9] rfl mixedS (by kernel_rfl) trivial ?_)
 refine Gd (.pointer (some ⟨b,0,none⟩)) rfl rfl (Zk rfl) ?_
 refine Gd (.pointer (some ⟨b,0,none⟩)) rfl rfl (P_nilCheck rfl) ?_
 refine Gd (fPtr (.pointer (some ⟨b,0,none⟩)) 1) rfl rfl (Zc atS_1 rfl ⟨b,0,rfl⟩) ?_
 refine L_ld (c:=.slice sa xs.length c) rfl rfl .plain (fun _ _ h=>⟨h.ch,fun b hb _=>h.below.block b hb⟩) (hl _) rfl ?_
 refine Gd (.pointer sa) rfl rfl (P_sliceData (a:=sa) (n:=xs.length) (c:=c) rfl (.inl hne)) ?_
 refine Gd (.pointer (some ⟨b,0,none⟩)) rfl rfl (Zk rfl) ?_
 refine Gd (.pointer (some ⟨b,0,none⟩)) rfl rfl (P_nilCheck rfl) ?_
 refine Gd (fPtr (.pointer (some ⟨b,0,none⟩)) 1) rfl rfl (Zc atS_1 rfl ⟨b,0,rfl⟩) ?_
 refine L_ld (c:=.slice sa xs.length c) rfl rfl .plain (fun _ _ h=>⟨h.ch,fun b hb _=>h.below.block b hb⟩) (hl _) rfl ?_
 refine Gd (.int .i64 (xs.length:Int)) rfl rfl (P_len (v:=.slice sa xs.length c) Try.underlying22 rfl r) ?_
 refine L_nil fun g1 w1 hall=>?_
 have hs:=hall.1
 refine Ze .plain rfl (D_unsafeString (g:=g1) (j:=j) (et:=5) rfl Try.underlying389 (by kernel_rfl) h0 rfl rfl (os.ext hs) (r.ext hs) fun g2 w2 hs2=>?_)
 refine Zg (Str.v ⟨xs⟩) rfl rfl ?_
 exact Zb (Zd (E_ret (end1 rfl rfl (show _=Str.v ⟨xs⟩ from rfl) ⟨rfl,g2,hs.stp.trans hs2⟩)))
theorem en168:Enters Try.prog 168:=enters_of Try.func168 (by kernel_rfl) rfl
theorem mul_ok:Muls Try.prog 168:=fun x y hx hy w=>Try.bits_Mul x y hx hy w
def f36:Option Bool:=some true
theorem en36:Enters Try.prog 36:=enters_of Try.func36 (by kernel_rfl) rfl
theorem wk36 {gI:Gh} {wI:World} {r:Bool} (h:f36=some r):Fn Try.prog 36 #[] gI wI (fun _ _ v=>v=.bool (r)):=by
 injection h with h
 subst h
 exact wkK36
def f11 (x0:List Int):Option ((List Int)):=
 (apnd 8 (([]:List Int)) x0).bind fun y3=>
 some (y3)
theorem en11:Enters Try.prog 11:=enters_of Try.func11 (by kernel_rfl) rfl
theorem wk11 {gI:Gh} {wI:World} {x0:List Int} {up0:Value} (rp0:RV gI.m wI x0 up0) {r:(List Int)} (h:f11 x0=some r):Fn Try.prog 11 #[up0] gI wI (fun m w v=>RV m w (r) v):=by
 unfold f11 at h
 refine fn_of_E Try.func11 rfl (Nat.le_of_ble_eq_true rfl) fun g0 hm hfr=>?_
 have rp0:RV g0.m wI x0 up0:=hm ▸ rp0
 show E _ 6 none _ _ _ _ _
 refine Zf (Za (Zg (.slice none 0 0) rfl rfl ?_))
 refine Zb (Zd (Zf (Za (Ze .plain rfl (D_buildSlice (g:=g0) 3003 (xs:=([]:List Int)) (vs:=[]) Try.underlying26 Try.sizeOf3 Try.zeroValue3 rfl rfl .nil RVs.nil rfl rfl fun g1 w1 v1 hs o1 r1 hxt hfl=>?_)))))
 have hfr:=hfr.stp hs
 have rp0:=rp0.stp hs
 refine Zn up0 rfl rfl ?_
 obtain ⟨y3,hy3,h⟩:=Ge h
 refine Ze .plain rfl (D_append (g:=g1) (i:=3003) Try.underlying26 info_3 rfl rfl o1 r1 rfl rp0 hy3 fun g2 w2 v2 hs o2 r2 _=>?_)
 have hfr:=hfr.stp hs
 refine Zg v2 rfl rfl ?_
 refine Zb (Zd (E_ret ?_))
 obtain rfl:=sinj h
 exact end1 rfl rfl (show _=v2 from rfl) ⟨_,hfr,r2⟩
def f13 (x0:List Int) (x1:List Int):Option (Bool):=
 jn (σ:=Unit) (fun _=>
  jn (σ:=Unit) (fun _=>
   some (true)
   ) fun k53=>
  lp (σ:=Int) (fun k54 o0=>
   jn (σ:=Unit) (fun _=>
    jn (σ:=Unit) (fun _=>
     k54 ((w64 (o0 + (1:Int))))
     ) fun n9=>
    (idx x0 o0).bind fun x6=>
    (idx x1 o0).bind fun y6=>
    bif (x6 != y6) then
     some (false)
    else
     n9 ()
    ) fun k57=>
   bif (decide (o0 < ((x0).length : Int))) then
    k57 ()
   else
    k53 ()
   ) big ((0:Int))
  ) fun k2=>
 bif (((x0).length : Int) != ((x1).length : Int)) then
  some (false)
 else
  k2 ()
theorem en13:Enters Try.prog 13:=enters_of Try.func13 (by kernel_rfl) rfl
theorem wk13 {gI:Gh} {wI:World} {x0:List Int} {x1:List Int} {up0:Value} (rp0:RV gI.m wI x0 up0) {up1:Value} (rp1:RV gI.m wI x1 up1) {r:Bool} (h:f13 x0 x1=some r):Fn Try.prog 13 #[up0,up1] gI wI (fun _ _ v=>v=.bool (r)):=by
 unfold f13 at h
 refine fn_of_E Try.func13 rfl (Nat.le_of_ble_eq_true rfl) fun g0 hm hfr=>?_
 have rp0:RV g0.m wI x0 up0:=hm ▸ rp0
 have rp1:RV g0.m wI x1 up1:=hm ▸ rp1
 show E _ 26 none _ _ _ _ _
 refine Zf (Za (Zg (.bool false) rfl rfl ?_))
 refine Zb (Zd (Zq h (fun (s:Unit) e w=>∃ (g:Gh) ,Fr gI wI g w∧e 0=up0∧RV g.m w (x0:List Int) up0∧e 1=up1∧RV g.m w (x1:List Int) up1) (fun X2 k2 hk2 h=>?_) ?_))
 ·refine Zf (Za (Zn up0 rfl rfl ?_))
  refine Ga (.int .i64 ((x0).length:Int)) (P_len Try.underlying26 rfl rp0) rfl ?_
  refine Zn up1 rfl rfl ?_
  refine Ga (.int .i64 ((x1).length:Int)) (P_len Try.underlying26 rfl rp1) rfl ?_
  refine EL_in (.bool ((((x0).length:Int) != ((x1).length:Int)))) rfl rfl rfl rfl ?_
  refine Zb (Zd ?_)
  rcases Zt h with ⟨hc3,h⟩ | ⟨hc3,h⟩
  ·refine E_ct hc3 rfl ?_
   refine Zf (Za (Zg (.bool false) rfl rfl ?_))
   refine Zb (Zd (E_ret (thn_r ?_)))
   obtain rfl:=sinj h
   exact end1 rfl rfl (show _=.bool false from rfl) ⟨_,hfr,rfl⟩
  ·refine E_cf hc3 rfl ?_
   exact Zu (Zd (hk2 () _ _ ⟨g0,hfr,rfl,rp0,rfl,rp1⟩ h))
 ·rintro _ bD w4 ⟨g4, hfr, y9, z9, bA, iA⟩ h
  refine Zq h (fun (s:Unit) e w=>∃ (g:Gh) ,Fr gI wI g w) (fun X53 k53 rA h=>?_) ?_
  ·refine Zf (Za (Zg (.int .i64 (0)) rfl rfl ?_))
   refine Zb (Zd (Zr ?_))
   refine E_lp h (fun (s:Int) e w=>∃ (g:Gh) ,Fr gI wI g w∧e 0=up0∧RV g.m w (x0:List Int) up0∧e 1=up1∧RV g.m w (x1:List Int) up1∧e 5=.int .i64 (s)) ⟨g4,hfr,y9,z9,bA,iA,rfl⟩ (fun X54 k54 yA=>?_)
   rintro o0 qC cD ⟨u9,hfr,i7,m7,k9,l9,g8⟩ h
   refine Zq h (fun (s:Unit) e w=>∃ (g:Gh) ,Fr gI wI g w∧e 0=up0∧RV g.m w (x0:List Int) up0∧e 1=up1∧RV g.m w (x1:List Int) up1∧e 5=.int .i64 (o0)) (fun X57 k57 aB h=>?_) ?_
   ·refine Zf (Za (Zo g8 rfl ?_))
    refine Zo i7 rfl ?_
    refine Ga (.int .i64 ((x0).length:Int)) (P_len Try.underlying26 rfl m7) rfl ?_
    refine EL_in (.bool ((decide (o0 < ((x0).length:Int))))) rfl rfl rfl rfl ?_
    refine Zb (Zd ?_)
    rcases Zt h with ⟨i6,h⟩ | ⟨i6,h⟩
    ·refine E_ct i6 rfl ?_
     exact Zu (Zd (aB () _ _ ⟨u9,hfr,i7,m7,k9,l9,g8⟩ h))
    ·refine E_cf i6 rfl ?_
     refine E_exit ?_
     refine thn_e ?_
     refine thn_e ?_
     refine blk_hit ?_
     exact Zd (rA () _ _ ⟨u9,hfr⟩ h)
   ·rintro _ rC eD ⟨nB, hfr, k8, u3, l8, l5, t5⟩ h
    refine Zq h (fun (s:Unit) e w=>∃ (g:Gh) ,Fr gI wI g w∧e 0=up0∧RV g.m w (x0:List Int) up0∧e 1=up1∧RV g.m w (x1:List Int) up1∧e 5=.int .i64 (o0)) (fun X81 n9 dB h=>?_) ?_
    ·refine Zr ?_
     refine Zf ?_
     obtain ⟨x6,m8,h⟩:=Ge h
     have oB:=PT_idx u3 m8
     refine Zs (x:=.tmp 19) Try.isAgg3 Try.sizeOf3 oB fun gD tB iB=>?_
     obtain rfl:=Zj.1 tB
     obtain ⟨y6,n8,h⟩:=Ge h
     have vB:=PT_idx l5 n8
     refine Zs (x:=.tmp 23) Try.isAgg3 Try.sizeOf3 vB fun iD yB lB=>?_
     obtain rfl:=Zj.1 yB
     refine E_drawL (g:=nB) (n:=9) [] [0,1,2,3,4,5,6,7,8] rfl mixed (by kernel_rfl) trivial ?_
     refine Gd up0 rfl rfl (Zk k8) ?_
     refine Gd (.int .i64 (o0)) rfl rfl (Zk t5) ?_
     refine Gd (ePtr up0 o0 1) rfl rfl (Zh (α:=Int) Try.underlying26 Try.sizeOf3 rfl u3 rfl m8) ?_
     refine L_ld (c:=.int .i64 (x6)) rfl rfl .plain (fun _ _ h=>h.ch) iB rfl ?_
     refine Gd up1 rfl rfl (Zk l8) ?_
     refine Gd (.int .i64 (o0)) rfl rfl (Zk t5) ?_
     refine Gd (ePtr up1 o0 1) rfl rfl (Zh (α:=Int) Try.underlying26 Try.sizeOf3 rfl l5 rfl n8) ?_
     refine L_ld (c:=.int .i64 (y6)) rfl rfl .plain (fun _ _ h=>h.ch) lB rfl ?_
     refine Gd (.bool ((x6 != y6))) rfl rfl (P_int rfl rfl rfl) ?_
     refine L_nl fun zB jD hs=>?_
     have hfr:=hfr.ext hs
     have u3:=u3.ext hs
     have l5:=l5.ext hs
     clear hs
     refine Zb (Zd ?_)
     rcases Zt h with ⟨x5,h⟩ | ⟨x5,h⟩
     ·refine E_ct x5 rfl ?_
      refine Zf (Za (Zg (.bool false) rfl rfl ?_))
      refine Zb (Zd (E_ret (blk_r ?_)))
      refine thn_r ?_
      refine thn_r ?_
      refine blk_r ?_
      refine thn_r ?_
      obtain rfl:=sinj h
      exact end1 rfl rfl (show _=.bool false from rfl) ⟨_,hfr,rfl⟩
     ·refine E_cf x5 rfl ?_
      exact Zu (blk_n (Zd (dB () _ _ ⟨zB,hfr,k8,u3,l8,l5,t5⟩ h)))
    ·rintro _ cC uC ⟨mB, hfr, r8, v8, x8, a9, d9⟩ h
     refine Za (Zo d9 rfl ?_)
     refine EL_in (.int .i64 ((w64 (o0 + (1:Int))))) rfl rfl rfl rfl ?_
     refine Zg (.int .i64 ((w64 (o0 + (1:Int))))) rfl rfl ?_
     exact Zb (Zd (yA ((w64 (o0 + (1:Int)))) _ _ ⟨mB,hfr,r8,v8,x8,a9,rfl⟩ h))
  ·rintro _ mC vC ⟨aD, hfr⟩ h
   refine Zf (Za (Zg (.bool true) rfl rfl ?_))
   refine Zb (Zd (E_ret ?_))
   obtain rfl:=sinj h
   exact end1 rfl rfl (show _=.bool true from rfl) ⟨_,hfr,rfl⟩
def f28 (x0:Int) (x1:List UInt8):Option ((List Int)):=
 Option.bind (α:=(List Int)) (
  lp (σ:=(List Int) × Int) (fun yD (x6,o0)=>
   jn (σ:=Unit) (fun _=>
    Option.bind (α:=(List Int)) (
     (apnd 8 x6 (([o0]:List Int))).bind fun zD=>
     some (zD)
     ) fun y6=>
    yD (y6,(w64 (o0 + (1:Int))))
    ) fun k18=>
   bif (decide (o0 < x0)) then
    k18 ()
   else
    some (x6)
   ) big (([]:List Int),(0:Int))
  ) fun l5=>
 jn (σ:=Unit) (fun _=>
  some (l5)
  ) fun aE=>
 lp (σ:=Int) (fun yE t5=>
  jn (σ:=Unit) (fun _=>
   none
   ) fun k48=>
  Option.bind (α:=Bool) (
   bif (decide (t5 < ((x1).length : Int))) then
    some ((decide (t5 < (12:Int))))
   else
    some (false)
   ) fun x5=>
  bif x5 then
   k48 ()
  else
   aE ()
  ) big ((0:Int))
theorem en28:Enters Try.prog 28:=enters_of Try.func28 (by kernel_rfl) rfl
def f30 (x0:TieHarness):Option (TieHarness):=
 (f11 ((x0).Warps)).bind fun y8=>
 some ((⟨(x0).Hooks,y8⟩:TieHarness))
theorem en30:Enters Try.prog 30:=enters_of Try.func30 (by kernel_rfl) rfl
theorem wk30 {gI:Gh} {wI:World} {x0:TieHarness} {up0:Value} (rp0:RV gI.m wI x0 up0) {r:TieHarness} (h:f30 x0=some r):Fn Try.prog 30 #[up0] gI wI (fun m w v=>RV m w (r) v):=by
 unfold f30 at h
 refine fn_of_E Try.func30 rfl (Nat.le_of_ble_eq_true rfl) fun g0 hm hfr=>?_
 have rp0:RV g0.m wI x0 up0:=hm ▸ rp0
 show E _ 9 none _ _ _ _ _
 refine Zf (Za (Ze .plain rfl (D_box (g:=g0) rfl rp0 fun g1 w1 p1 hs q1=>?_)))
 have hfr:=hfr.ext hs
 refine Ze .plain rfl (D_allocOc (g:=g1) 2002 (⟨0,[]⟩:TieHarness) Try.zeroValue28 (fun m w=>⟨_,(rep_two Zy rep_nil),rfl⟩) fun g2 w2 p2 hs b2 cb=>?_)
 have hfr:=hfr.stp hs
 have q1:=q1.stp hs
 have y6:OSF 2002 60201 1 g2 w2 3 28 ([]:List Int) p2:=cb.osf (by rfl)
 clear cb
 refine Zb (Zd (Zf ?_))
 have q3:=Zm (part_TieHarness_0).1 q1
 refine Zs (x:=.tmp 3) Try.isAgg3 Try.sizeOf3 q3 fun v4 r4 x5=>?_
 obtain rfl:=Zj.1 r4
 have q5:=Zm (part_TieHarness_1).1 q1
 refine Zs (x:=.tmp 5) Try.isAgg26 Try.sizeOf26 q5 fun v6 r6 i6=>?_
 obtain ⟨y8,x6,h⟩:=Ge h
 refine E_drawL (g:=g2) (n:=5) [(4,(fun v g w=>RV g.m w y8 v))] [0,1,2,3,4] rfl mixed (by kernel_rfl) (⟨fun _=>up_rv,trivial⟩) ?_
 refine Gd (fPtr p1 0) rfl rfl (Zc at_28_0 rfl (PT.ptr q1)) ?_
 refine L_ld (c:=.int .i64 ((x0).Hooks)) rfl rfl .plain (fun _ _ h=>h.ch) x5 rfl ?_
 refine Gd (fPtr p1 1) rfl rfl (Zc at_28_1 rfl (PT.ptr q1)) ?_
 refine L_ld (c:=v6) rfl rfl .plain (fun _ _ h=>h.ch) i6 rfl ?_
 refine L_do (φ:=fun v g w=>RV g.m w y8 v) rfl rfl .plain (fun g w hd=>Zp (g:=g) (vs:=[v6]) en11 (.cons rfl .nil) (wk11 (r6.ext hd.1) x6) fun g' w' v hs hr=>⟨g',hs,hr⟩) (fun v7 hv=>?_)
 obtain ⟨_,_,_,rq7⟩:=hv
 refine L_nil fun g9 w9 hall=>?_
 have hs:=hall.1
 have hfr:=hfr.ext hs
 have b2:=b2.ext hs
 have o0:=(word_all (A:=fun g w=>RV g.m w y8 v7) 4 rfl hall)
 clear hs hall
 have u3:RV g9.m _ (⟨(x0).Hooks,y8⟩:TieHarness) (.agg (setCh [[.int .i64 0],[.slice none 0 0]] [(0,.int .i64 ((x0).Hooks)),(1,v7)]).flatten.toArray):=RV_build rfl (rep_pair (rfl) (rep_last (RV.cells o0)))
 generalize t5:(Value.agg (setCh [[.int .i64 0],[.slice none 0 0]] [(0,.int .i64 ((x0).Hooks)),(1,v7)]).flatten.toArray)=l5 at u3
 refine Ga l5 (t5 ▸ P_build (vs:=[(0,.int .i64 ((x0).Hooks)),(1,v7)]) [[.int .i64 0],[.slice none 0 0]] lay_28 rfl rfl (.cons rfl (.cons rfl .nil)) ⟨⟨_,rfl,rfl⟩,⟨⟨_,rfl,cells_size o0⟩,trivial⟩⟩) rfl ?_
 refine Ze .plain rfl (D_storeOc (g:=g9) (v:=l5) Try.sizeOf28 rfl b2 rfl u3 fun i7 m7 hs b19 cb=>?_)
 clear cb
 have hfr:=hfr.stp hs
 refine Zb (Zd (E_ret ?_))
 obtain rfl:=sinj h
 obtain ⟨ad20,cv20,hp20,hl20,cr20⟩:=ob_read Try.isAgg28 Try.sizeOf28 b19
 exact endm_c rfl rfl ((show _=p2 from rfl).trans hp20) hl20 ⟨_,hfr,cr20⟩
def f31 (x0:Design):Option (Design):=
 (f11 ((x0).Rows)).bind fun y8=>
 some ((⟨(x0).Hooks,y8⟩:Design))
theorem en31:Enters Try.prog 31:=enters_of Try.func31 (by kernel_rfl) rfl
theorem wk31 {gI:Gh} {wI:World} {x0:Design} {up0:Value} (rp0:RV gI.m wI x0 up0) {r:Design} (h:f31 x0=some r):Fn Try.prog 31 #[up0] gI wI (fun m w v=>RV m w (r) v):=by
 unfold f31 at h
 refine fn_of_E Try.func31 rfl (Nat.le_of_ble_eq_true rfl) fun g0 hm hfr=>?_
 have rp0:RV g0.m wI x0 up0:=hm ▸ rp0
 show E _ 9 none _ _ _ _ _
 refine Zf (Za (Ze .plain rfl (D_box (g:=g0) rfl rp0 fun g1 w1 p1 hs q1=>?_)))
 have hfr:=hfr.ext hs
 refine Ze .plain rfl (D_allocOc (g:=g1) 2002 (⟨0,[]⟩:Design) Try.zeroValue30 (fun m w=>⟨_,(rep_two Zy rep_nil),rfl⟩) fun g2 w2 p2 hs b2 cb=>?_)
 have hfr:=hfr.stp hs
 have q1:=q1.stp hs
 have y6:OSF 2002 60201 1 g2 w2 3 30 ([]:List Int) p2:=cb.osf (by rfl)
 clear cb
 refine Zb (Zd (Zf ?_))
 have q3:=Zm (part_Design_0).1 q1
 refine Zs (x:=.tmp 3) Try.isAgg3 Try.sizeOf3 q3 fun v4 r4 x5=>?_
 obtain rfl:=Zj.1 r4
 have q5:=Zm (part_Design_1).1 q1
 refine Zs (x:=.tmp 5) Try.isAgg26 Try.sizeOf26 q5 fun v6 r6 i6=>?_
 obtain ⟨y8,x6,h⟩:=Ge h
 refine E_drawL (g:=g2) (n:=5) [(4,(fun v g w=>RV g.m w y8 v))] [0,1,2,3,4] rfl mixed (by kernel_rfl) (⟨fun _=>up_rv,trivial⟩) ?_
 refine Gd (fPtr p1 0) rfl rfl (Zc at_30_0 rfl (PT.ptr q1)) ?_
 refine L_ld (c:=.int .i64 ((x0).Hooks)) rfl rfl .plain (fun _ _ h=>h.ch) x5 rfl ?_
 refine Gd (fPtr p1 1) rfl rfl (Zc at_30_1 rfl (PT.ptr q1)) ?_
 refine L_ld (c:=v6) rfl rfl .plain (fun _ _ h=>h.ch) i6 rfl ?_
 refine L_do (φ:=fun v g w=>RV g.m w y8 v) rfl rfl .plain (fun g w hd=>Zp (g:=g) (vs:=[v6]) en11 (.cons rfl .nil) (wk11 (r6.ext hd.1) x6) fun g' w' v hs hr=>⟨g',hs,hr⟩) (fun v7 hv=>?_)
 obtain ⟨_,_,_,rq7⟩:=hv
 refine L_nil fun g9 w9 hall=>?_
 have hs:=hall.1
 have hfr:=hfr.ext hs
 have b2:=b2.ext hs
 have o0:=(word_all (A:=fun g w=>RV g.m w y8 v7) 4 rfl hall)
 clear hs hall
 have u3:RV g9.m _ (⟨(x0).Hooks,y8⟩:Design) (.agg (setCh [[.int .i64 0],[.slice none 0 0]] [(0,.int .i64 ((x0).Hooks)),(1,v7)]).flatten.toArray):=RV_build rfl (rep_pair (rfl) (rep_last (RV.cells o0)))
 generalize t5:(Value.agg (setCh [[.int .i64 0],[.slice none 0 0]] [(0,.int .i64 ((x0).Hooks)),(1,v7)]).flatten.toArray)=l5 at u3
 refine Ga l5 (t5 ▸ P_build (vs:=[(0,.int .i64 ((x0).Hooks)),(1,v7)]) [[.int .i64 0],[.slice none 0 0]] lay_30 rfl rfl (.cons rfl (.cons rfl .nil)) ⟨⟨_,rfl,rfl⟩,⟨⟨_,rfl,cells_size o0⟩,trivial⟩⟩) rfl ?_
 refine Ze .plain rfl (D_storeOc (g:=g9) (v:=l5) Try.sizeOf30 rfl b2 rfl u3 fun i7 m7 hs b19 cb=>?_)
 clear cb
 have hfr:=hfr.stp hs
 refine Zb (Zd (E_ret ?_))
 obtain rfl:=sinj h
 obtain ⟨ad20,cv20,hp20,hl20,cr20⟩:=ob_read Try.isAgg30 Try.sizeOf30 b19
 exact endm_c rfl rfl ((show _=p2 from rfl).trans hp20) hl20 ⟨_,hfr,cr20⟩
def f32 (x0:List Str) (x1:List Str):Option (Bool):=
 jn (σ:=Unit) (fun _=>
  jn (σ:=Unit) (fun _=>
   some (true)
   ) fun k53=>
  lp (σ:=Int) (fun k54 o0=>
   jn (σ:=Unit) (fun _=>
    jn (σ:=Unit) (fun _=>
     k54 ((w64 (o0 + (1:Int))))
     ) fun n9=>
    (idx x0 o0).bind fun x6=>
    (idx x1 o0).bind fun y6=>
    bif (!((x6).b == (y6).b)) then
     some (false)
    else
     n9 ()
    ) fun k57=>
   bif (decide (o0 < ((x0).length : Int))) then
    k57 ()
   else
    k53 ()
   ) big ((0:Int))
  ) fun k2=>
 bif (((x0).length : Int) != ((x1).length : Int)) then
  some (false)
 else
  k2 ()
theorem en32:Enters Try.prog 32:=enters_of Try.func32 (by kernel_rfl) rfl
theorem wk32 {gI:Gh} {wI:World} {x0:List Str} {x1:List Str} {up0:Value} (rp0:RV gI.m wI x0 up0) {up1:Value} (rp1:RV gI.m wI x1 up1) {r:Bool} (h:f32 x0 x1=some r):Fn Try.prog 32 #[up0,up1] gI wI (fun _ _ v=>v=.bool (r)):=by
 unfold f32 at h
 refine fn_of_E Try.func32 rfl (Nat.le_of_ble_eq_true rfl) fun g0 hm hfr=>?_
 have rp0:RV g0.m wI x0 up0:=hm ▸ rp0
 have rp1:RV g0.m wI x1 up1:=hm ▸ rp1
 show E _ 26 none _ _ _ _ _
 refine Zf (Za (Zg (.bool false) rfl rfl ?_))
 refine Zb (Zd (Zq h (fun (s:Unit) e w=>∃ (g:Gh) ,Fr gI wI g w∧e 0=up0∧RV g.m w (x0:List Str) up0∧e 1=up1∧RV g.m w (x1:List Str) up1) (fun X2 k2 hk2 h=>?_) ?_))
 ·refine Zf (Za (Zn up0 rfl rfl ?_))
  refine Ga (.int .i64 ((x0).length:Int)) (P_len Try.underlying50 rfl rp0) rfl ?_
  refine Zn up1 rfl rfl ?_
  refine Ga (.int .i64 ((x1).length:Int)) (P_len Try.underlying50 rfl rp1) rfl ?_
  refine EL_in (.bool ((((x0).length:Int) != ((x1).length:Int)))) rfl rfl rfl rfl ?_
  refine Zb (Zd ?_)
  rcases Zt h with ⟨hc3,h⟩ | ⟨hc3,h⟩
  ·refine E_ct hc3 rfl ?_
   refine Zf (Za (Zg (.bool false) rfl rfl ?_))
   refine Zb (Zd (E_ret (thn_r ?_)))
   obtain rfl:=sinj h
   exact end1 rfl rfl (show _=.bool false from rfl) ⟨_,hfr,rfl⟩
  ·refine E_cf hc3 rfl ?_
   exact Zu (Zd (hk2 () _ _ ⟨g0,hfr,rfl,rp0,rfl,rp1⟩ h))
 ·rintro _ bD w4 ⟨g4, hfr, y9, z9, bA, iA⟩ h
  refine Zq h (fun (s:Unit) e w=>∃ (g:Gh) ,Fr gI wI g w) (fun X53 k53 rA h=>?_) ?_
  ·refine Zf (Za (Zg (.int .i64 (0)) rfl rfl ?_))
   refine Zb (Zd (Zr ?_))
   refine E_lp h (fun (s:Int) e w=>∃ (g:Gh) ,Fr gI wI g w∧e 0=up0∧RV g.m w (x0:List Str) up0∧e 1=up1∧RV g.m w (x1:List Str) up1∧e 5=.int .i64 (s)) ⟨g4,hfr,y9,z9,bA,iA,rfl⟩ (fun X54 k54 yA=>?_)
   rintro o0 qC cD ⟨u9,hfr,i7,m7,k9,l9,g8⟩ h
   refine Zq h (fun (s:Unit) e w=>∃ (g:Gh) ,Fr gI wI g w∧e 0=up0∧RV g.m w (x0:List Str) up0∧e 1=up1∧RV g.m w (x1:List Str) up1∧e 5=.int .i64 (o0)) (fun X57 k57 aB h=>?_) ?_
   ·refine Zf (Za (Zo g8 rfl ?_))
    refine Zo i7 rfl ?_
    refine Ga (.int .i64 ((x0).length:Int)) (P_len Try.underlying50 rfl m7) rfl ?_
    refine EL_in (.bool ((decide (o0 < ((x0).length:Int))))) rfl rfl rfl rfl ?_
    refine Zb (Zd ?_)
    rcases Zt h with ⟨i6,h⟩ | ⟨i6,h⟩
    ·refine E_ct i6 rfl ?_
     exact Zu (Zd (aB () _ _ ⟨u9,hfr,i7,m7,k9,l9,g8⟩ h))
    ·refine E_cf i6 rfl ?_
     refine E_exit ?_
     refine thn_e ?_
     refine thn_e ?_
     refine blk_hit ?_
     exact Zd (rA () _ _ ⟨u9,hfr⟩ h)
   ·rintro _ rC eD ⟨nB, hfr, k8, u3, l8, l5, t5⟩ h
    refine Zq h (fun (s:Unit) e w=>∃ (g:Gh) ,Fr gI wI g w∧e 0=up0∧RV g.m w (x0:List Str) up0∧e 1=up1∧RV g.m w (x1:List Str) up1∧e 5=.int .i64 (o0)) (fun X81 n9 dB h=>?_) ?_
    ·refine Zr ?_
     refine Zf ?_
     obtain ⟨x6,m8,h⟩:=Ge h
     have oB:=PT_idx u3 m8
     refine Zs (x:=.tmp 19) Try.isAgg9 Try.sizeOf9 oB fun gD tB iB=>?_
     obtain rfl:=RV_str.1 tB
     obtain ⟨y6,n8,h⟩:=Ge h
     have vB:=PT_idx l5 n8
     refine Zs (x:=.tmp 23) Try.isAgg9 Try.sizeOf9 vB fun iD yB lB=>?_
     obtain rfl:=RV_str.1 yB
     refine E_drawL (g:=nB) (n:=9) [] [0,1,2,3,4,5,6,7,8] rfl mixed (by kernel_rfl) trivial ?_
     refine Gd up0 rfl rfl (Zk k8) ?_
     refine Gd (.int .i64 (o0)) rfl rfl (Zk t5) ?_
     refine Gd (ePtr up0 o0 1) rfl rfl (Zh (α:=Str) Try.underlying50 Try.sizeOf9 rfl u3 rfl m8) ?_
     refine L_ld (c:=Str.v (x6)) rfl rfl .plain (fun _ _ h=>h.ch) iB rfl ?_
     refine Gd up1 rfl rfl (Zk l8) ?_
     refine Gd (.int .i64 (o0)) rfl rfl (Zk t5) ?_
     refine Gd (ePtr up1 o0 1) rfl rfl (Zh (α:=Str) Try.underlying50 Try.sizeOf9 rfl l5 rfl n8) ?_
     refine L_ld (c:=Str.v (y6)) rfl rfl .plain (fun _ _ h=>h.ch) lB rfl ?_
     refine Gd (.bool ((!((x6).b == (y6).b)))) rfl rfl (P_str rfl rfl rfl) ?_
     refine L_nl fun zB jD hs=>?_
     have hfr:=hfr.ext hs
     have u3:=u3.ext hs
     have l5:=l5.ext hs
     clear hs
     refine Zb (Zd ?_)
     rcases Zt h with ⟨x5,h⟩ | ⟨x5,h⟩
     ·refine E_ct x5 rfl ?_
      refine Zf (Za (Zg (.bool false) rfl rfl ?_))
      refine Zb (Zd (E_ret (blk_r ?_)))
      refine thn_r ?_
      refine thn_r ?_
      refine blk_r ?_
      refine thn_r ?_
      obtain rfl:=sinj h
      exact end1 rfl rfl (show _=.bool false from rfl) ⟨_,hfr,rfl⟩
     ·refine E_cf x5 rfl ?_
      exact Zu (blk_n (Zd (dB () _ _ ⟨zB,hfr,k8,u3,l8,l5,t5⟩ h)))
    ·rintro _ cC uC ⟨mB, hfr, r8, v8, x8, a9, d9⟩ h
     refine Za (Zo d9 rfl ?_)
     refine EL_in (.int .i64 ((w64 (o0 + (1:Int))))) rfl rfl rfl rfl ?_
     refine Zg (.int .i64 ((w64 (o0 + (1:Int))))) rfl rfl ?_
     exact Zb (Zd (yA ((w64 (o0 + (1:Int)))) _ _ ⟨mB,hfr,r8,v8,x8,a9,rfl⟩ h))
  ·rintro _ mC vC ⟨aD, hfr⟩ h
   refine Zf (Za (Zg (.bool true) rfl rfl ?_))
   refine Zb (Zd (E_ret ?_))
   obtain rfl:=sinj h
   exact end1 rfl rfl (show _=.bool true from rfl) ⟨_,hfr,rfl⟩
def f54 (x0:Loom):Option (TieHarness):=
 (rem64 (((x0).Hooks).toNat:Int) (12:Int)).bind fun y5=>
 Option.bind (α:=TieHarness) (
  lp (σ:=TieHarness × Int) (fun qC (l5,o0)=>
   jn (σ:=Unit) (fun _=>
    Option.bind (α:=TieHarness) (
     Option.bind (α:=Int) (
      bif (decide (o0 < (((x0).Warps).length : Int))) then
       (idx ((x0).Warps) o0).bind fun rA=>
       (rem64 ((rA).toNat:Int) (l5).Hooks).bind fun yA=>
       some (yA)
      else
       some ((0:Int))
      ) fun l8=>
     (apnd 8 ((l5).Warps) (([l8]:List Int))).bind fun yB=>
     some ({ l5 with Warps:=yB })
     ) fun m8=>
    qC (m8,(w64 (o0 + (1:Int))))
    ) fun rC=>
   Option.bind (α:=Bool) (
    bif (o0 == (0 : Int)) then
     some (true)
    else
     bif (decide (o0 < (((x0).Warps).length : Int))) then
      some ((decide (o0 < (30:Int))))
     else
      some (false)
    ) fun y6=>
   bif y6 then
    rC ()
   else
    some (l5)
   ) big ((⟨(w64 ((1:Int) + y5)),[]⟩:TieHarness),(0:Int))
  ) fun r8=>
 some (r8)
theorem en54:Enters Try.prog 54:=enters_of Try.func54 (by kernel_rfl) rfl
theorem wk54 {gI:Gh} {wI:World} {x0:Loom} {up0:Value} (rp0:RV gI.m wI x0 up0) {r:TieHarness} (h:f54 x0=some r):Fn Try.prog 54 #[up0] gI wI (fun m w v=>RV m w (r) v):=by
 unfold f54 at h
 refine fn_of_E Try.func54 rfl (Nat.le_of_ble_eq_true rfl) fun g0 hm hfr=>?_
 have rp0:RV g0.m wI x0 up0:=hm ▸ rp0
 show E _ 48 none _ _ _ _ _
 refine Zf (Za (Ze .plain rfl (D_box (g:=g0) rfl rp0 fun g1 w1 p1 hs q1=>?_)))
 have hfr:=hfr.ext hs
 refine Ze .plain rfl (D_allocOc (g:=g1) 2002 (⟨0,[]⟩:TieHarness) Try.zeroValue28 (fun m w=>⟨_,(rep_two Zy rep_nil),rfl⟩) fun g2 w2 p2 hs b2 cb=>?_)
 have hfr:=hfr.stp hs
 have q1:=q1.stp hs
 have k9:OSF 2002 60201 1 g2 w2 3 28 ([]:List Int) p2:=cb.osf (by rfl)
 clear cb
 refine Zb (Zd (Zf (Za (Ga (fPtr p1 0) (Zc at_25_0 rfl (PT.ptr q1)) rfl ?_))))
 have q3:=Zm (part_Loom_0).1 q1
 refine Ze .plain rfl (D_load (g:=g2) Try.isAgg5 Try.sizeOf5 rfl q3 fun v4 r4=>?_)
 obtain rfl:=RV_u8.1 r4
 refine Ga (.int .i64 ((((x0).Hooks).toNat:Int))) (P_u8int Try.underlying5 Try.underlying3 rfl) rfl ?_
 obtain ⟨y5,hy5,h⟩:=Ge h
 refine Ga (.int .i64 (y5)) (P_int rfl rfl (congrArg (Option.map (Value.int .i64)) hy5)) rfl ?_
 refine EL_in (.int .i64 ((w64 ((1:Int) + y5)))) rfl rfl rfl rfl ?_
 have r6:RV g2.m w2 (⟨(w64 ((1:Int) + y5)),[]⟩:TieHarness) (.agg (setCh [[.int .i64 0],[.slice none 0 0]] [(0,.int .i64 ((w64 ((1:Int) + y5))))]).flatten.toArray):=RV_build rfl (rep_pair (rfl) (rep_last (rep_nil)))
 generalize dF:(Value.agg (setCh [[.int .i64 0],[.slice none 0 0]] [(0,.int .i64 ((w64 ((1:Int) + y5))))]).flatten.toArray)=v6 at r6
 refine Ga v6 (dF ▸ P_build (vs:=[(0,.int .i64 ((w64 ((1:Int) + y5))))]) [[.int .i64 0],[.slice none 0 0]] lay_28 rfl rfl (.cons rfl .nil) ⟨⟨_,rfl,rfl⟩,trivial⟩) rfl ?_
 refine Ze .plain rfl (D_allocOc (g:=g2) 2003 (⟨0,[]⟩:TieHarness) Try.zeroValue28 (fun m w=>⟨_,(rep_two Zy rep_nil),rfl⟩) fun g7 w7 p7 hs b7 cb=>?_)
 have hfr:=hfr.stp hs
 have q1:=q1.stp hs
 have k9:=k9.stp hs rfl
 have b2:=b2.stp hs rfl
 have r6:=r6.stp hs
 have zG:OSF 2003 60301 1 g7 w7 3 28 ([]:List Int) p7:=cb.osf (by rfl)
 clear cb
 refine Ze .plain rfl (D_storeOc (g:=g7) (v:=v6) Try.sizeOf28 rfl b7 rfl r6 fun g8 w8 hs b8 cb=>?_)
 have eF:OSF 2003 60301 1 g8 w8 3 28 ([]:List Int) p7:=cb.osf (by rw [← dF]; rfl)
 clear cb
 have hfr:=hfr.stp hs
 have q1:=q1.stp hs
 have k9:=k9.stp hs rfl
 have b2:=b2.stp hs rfl
 refine Zb (Zd ?_)
 obtain ⟨r8,hx,h⟩:=Ge h
 refine E_join (fun e w=>∃ (g:Gh) ,Fr gI wI g w∧e 2=p2∧OB 2002 g w 28 ((⟨0,[]⟩:TieHarness):TieHarness) p2∧OSF 2002 60201 1 g w 3 28 (((⟨0,[]⟩:TieHarness)).Warps) p2∧e 3=p7∧OB 2003 g w 28 (r8:TieHarness) p7∧OSF 2003 60301 1 g w 3 28 ((r8).Warps) p7) (fun Q' hQ=>?_) (fun kG aH hR=>?_)
 ·replace h := hx
  clear hx
  refine Zf (Za (Zg (.int .i64 (0)) rfl rfl ?_))
  refine Zb (Zd (Zr ?_))
  refine E_lp h (fun (s:TieHarness × Int) e w=>∃ (g:Gh) ,Fr gI wI g w∧e 1=p1∧PT g.m w (x0:Loom) p1∧e 2=p2∧OB 2002 g w 28 ((⟨0,[]⟩:TieHarness):TieHarness) p2∧OSF 2002 60201 1 g w 3 28 (((⟨0,[]⟩:TieHarness)).Warps) p2∧e 3=p7∧OB 2003 g w 28 (s.1:TieHarness) p7∧OSF 2003 60301 1 g w 3 28 ((s.1).Warps) p7∧e 4=.int .i64 (s.2)) ⟨g8,hfr,rfl,q1,rfl,b2,k9,rfl,b8,eF,rfl⟩ (fun X175 qC oE=>?_)
  rintro ⟨l5,o0⟩ lG cH ⟨aB,hfr,v8,n8,l9,n9,u2_1_176,u9,y9,u3_1_176,i7⟩ h
  refine Zq h (fun (s:Unit) e w=>∃ (g:Gh) ,Fr gI wI g w∧e 1=p1∧PT g.m w (x0:Loom) p1∧e 2=p2∧OB 2002 g w 28 ((⟨0,[]⟩:TieHarness):TieHarness) p2∧OSF 2002 60201 1 g w 3 28 (((⟨0,[]⟩:TieHarness)).Warps) p2∧e 3=p7∧OB 2003 g w 28 (l5:TieHarness) p7∧OSF 2003 60301 1 g w 3 28 ((l5).Warps) p7∧e 4=.int .i64 (o0)) (fun X187 rC rE h=>?_) ?_
  ·obtain ⟨y6, hx, h⟩ := Ge h
   refine E_join (fun e w=>∃ (g:Gh) ,Fr gI wI g w∧e 1=p1∧PT g.m w (x0:Loom) p1∧e 2=p2∧OB 2002 g w 28 ((⟨0,[]⟩:TieHarness):TieHarness) p2∧OSF 2002 60201 1 g w 3 28 (((⟨0,[]⟩:TieHarness)).Warps) p2∧e 3=p7∧OB 2003 g w 28 (l5:TieHarness) p7∧OSF 2003 60301 1 g w 3 28 ((l5).Warps) p7∧e 4=.int .i64 (o0)∧e 24=.bool (y6)) (fun Q' hQ=>?_) (fun mG dH hR=>?_)
   ·replace h := hx
    clear hx
    refine Za (Zo i7 rfl ?_)
    refine EL_in (.bool ((o0 == (0:Int)))) rfl rfl rfl rfl ?_
    refine Zn (.bool ((o0 == (0:Int)))) rfl rfl ?_
    rcases Zt h with ⟨u3,h⟩ | ⟨u3,h⟩
    ·refine Gc rfl rfl u3 rfl rfl ?_
     iterate 5 refine Gc rfl rfl u3 rfl rfl ?_
     refine EL_skip (.off rfl rfl) rfl ?_
     refine EL_skip (.off rfl rfl) rfl ?_
     refine Gc rfl rfl u3 rfl rfl ?_
     refine Ga (.bool true) (Zl (b:=(o0 == (0:Int))) rfl (pick_t u3 rfl)) rfl ?_
     refine Zb ?_
     obtain rfl:=sinj h
     exact hQ _ _ ⟨aB,hfr,v8,n8,l9,n9,u2_1_176,u9,y9,u3_1_176,i7,rfl⟩
    ·refine Gb (.int .i64 (o0)) (Zk i7) rfl rfl u3 rfl ?_
     refine Gb (fPtr p1 1) (Zc at_25_1 v8 (PT.ptr n8)) rfl rfl u3 rfl ?_
     have rF:=Zm (part_Loom_1).1 n8
     refine Ze (.yes2 rfl rfl u3) rfl (D_load (g:=aB) Try.isAgg22 Try.sizeOf22 rfl rF fun gH sF=>?_)
     refine Gb (.int .i64 (((x0).Warps).length:Int)) (P_len Try.underlying22 rfl sF) rfl rfl u3 rfl ?_
     refine Gb (.bool ((decide (o0 < (((x0).Warps).length:Int))))) (P_int rfl rfl rfl) rfl rfl u3 rfl ?_
     refine Gb (.bool ((decide (o0 < (((x0).Warps).length:Int))))) (Zk rfl) rfl rfl u3 rfl ?_
     rcases Zt h with ⟨k8,h⟩ | ⟨k8,h⟩
     ·refine Gb (.int .i64 (o0)) (Zk i7) rfl rfl k8 rfl ?_
      refine Gb (.bool ((decide (o0 < (30:Int))))) (P_int rfl rfl rfl) rfl rfl k8 rfl ?_
      refine Gb (.bool ((decide (o0 < (30:Int))))) (Zl (b:=(decide (o0 < (((x0).Warps).length:Int)))) rfl (pick_t k8 rfl)) rfl rfl u3 rfl ?_
      refine Ga (.bool ((decide (o0 < (30:Int))))) (Zl (b:=(o0 == (0:Int))) rfl (pick_f u3 rfl)) rfl ?_
      refine Zb ?_
      obtain rfl:=sinj h
      exact hQ _ _ ⟨aB,hfr,v8,n8,l9,n9,u2_1_176,u9,y9,u3_1_176,i7,rfl⟩
     ·refine Gc rfl rfl k8 rfl rfl ?_
      refine Gc rfl rfl k8 rfl rfl ?_
      refine Gb (.bool false) (Zl (b:=(decide (o0 < (((x0).Warps).length:Int)))) rfl (pick_f k8 rfl)) rfl rfl u3 rfl ?_
      refine Ga (.bool false) (Zl (b:=(o0 == (0:Int))) rfl (pick_f u3 rfl)) rfl ?_
      refine Zb ?_
      obtain rfl:=sinj h
      exact hQ _ _ ⟨aB,hfr,v8,n8,l9,n9,u2_1_176,u9,y9,u3_1_176,i7,rfl⟩
   ·clear hx
    obtain ⟨uC,hfr,vC,aD,lB,mB,u2_1_196,nB,oB,u3_1_196,bD,iA⟩:=hR
    rcases Zt h with ⟨dB,h⟩ | ⟨dB,h⟩
    ·refine E_cond_true (Eq.trans (show ev _ _ = .bool (y6) from iA) (congrArg Value.bool dB)) ?_
     exact Zu (Zd (rE () _ _ ⟨uC,hfr,vC,aD,lB,mB,u2_1_196,nB,oB,u3_1_196,bD⟩ h))
    ·refine E_cond_false (Eq.trans (show ev _ _ = .bool (y6) from iA) (congrArg Value.bool dB)) ?_
     refine E_exit ?_
     refine thn_e ?_
     refine thn_e ?_
     refine blk_hit ?_
     obtain rfl:=sinj h
     exact hQ _ _ ⟨uC,hfr,lB,mB,u2_1_196,nB,oB,u3_1_196⟩
  ·rintro _ sG iH ⟨zB, hfr, x8, t5, tB, a9, u2_1_198, z9, m7, u3_1_198, d9⟩ h
   obtain ⟨m8,hx,h⟩:=Ge h
   refine E_join (fun e w=>∃ (g:Gh) ,Fr gI wI g w∧e 1=p1∧PT g.m w (x0:Loom) p1∧e 2=p2∧OB 2002 g w 28 ((⟨0,[]⟩:TieHarness):TieHarness) p2∧OSF 2002 60201 1 g w 3 28 (((⟨0,[]⟩:TieHarness)).Warps) p2∧e 3=p7∧OB 2003 g w 28 (m8:TieHarness) p7∧OSF 2003 60301 1 g w 3 28 ((m8).Warps) p7∧e 4=.int .i64 (o0)) (fun Q' hQ=>?_) (fun xG jH hR=>?_)
   ·replace h := hx
    clear hx
    refine Zr ?_
    refine Zf (Za (Zg (.int .i64 (0)) rfl rfl ?_))
    refine Zb (Zd ?_)
    obtain ⟨l8,hx,h⟩:=Ge h
    refine E_join (fun e w=>∃ (g:Gh) ,Fr gI wI g w∧e 1=p1∧PT g.m w (x0:Loom) p1∧e 2=p2∧OB 2002 g w 28 ((⟨0,[]⟩:TieHarness):TieHarness) p2∧OSF 2002 60201 1 g w 3 28 (((⟨0,[]⟩:TieHarness)).Warps) p2∧e 3=p7∧OB 2003 g w 28 (l5:TieHarness) p7∧OSF 2003 60301 1 g w 3 28 ((l5).Warps) p7∧e 4=.int .i64 (o0)∧e 5=.int .i64 (l8)) (fun Q' hQ=>?_) (fun yG kH hR=>?_)
    ·replace h := hx
     clear hx
     refine Zf (Za (Zo d9 rfl ?_))
     refine Ga (fPtr p1 1) (Zc at_25_1 x8 (PT.ptr t5)) rfl ?_
     have tF:=Zm (part_Loom_1).1 t5
     refine Ze .plain rfl (D_load (g:=zB) Try.isAgg22 Try.sizeOf22 rfl tF fun lH uF=>?_)
     refine Ga (.int .i64 (((x0).Warps).length:Int)) (P_len Try.underlying22 rfl uF) rfl ?_
     refine Ga (.bool ((decide (o0 < (((x0).Warps).length:Int))))) (P_int rfl rfl rfl) rfl ?_
     refine Zb (Zd ?_)
     rcases Zt h with ⟨iB,h⟩ | ⟨iB,h⟩
     ·refine E_ct iB rfl ?_
      have vF:=Zm (part_Loom_1).1 t5
      refine Zs (x:=.tmp 32) Try.isAgg22 Try.sizeOf22 vF fun cD eD uE=>?_
      obtain ⟨rA,mC,h⟩:=Ge h
      have xF:=PT_idx eD mC
      refine Zs (x:=.tmp 35) Try.isAgg5 Try.sizeOf5 xF fun mH yF vE=>?_
      obtain rfl:=RV_u8.1 yF
      refine L_loadO (x:=.tmp 38) part_TieHarness_0.1 Try.isAgg3 Try.sizeOf3 m7 fun nH zF xE=>?_
      obtain rfl:=Zj.1 zF
      obtain ⟨yA,yE,h⟩:=Ge h
      refine E_drawL (g:=zB) (n:=10) [] [0,1,2,3,4,5,6,7,8,9] rfl mixed (by kernel_rfl) trivial ?_
      refine Gd (fPtr p1 1) rfl rfl (Zc at_25_1 x8 (PT.ptr t5)) ?_
      refine L_ld (c:=cD) rfl rfl .plain (fun _ _ h=>h.ch) uE rfl ?_
      refine Gd (.int .i64 (o0)) rfl rfl (Zk d9) ?_
      refine Gd (ePtr cD o0 1) rfl rfl (Zh (α:=UInt8) Try.underlying22 Try.sizeOf5 rfl eD rfl mC) ?_
      refine L_ld (c:=.int .u8 (UInt8.toNat (rA))) rfl rfl .plain (fun _ _ h=>h.ch) vE rfl ?_
      refine Gd (.int .i64 (((rA).toNat:Int))) rfl rfl (P_u8int Try.underlying5 Try.underlying3 rfl) ?_
      refine Gd (fPtr p7 0) rfl rfl (Zc at_28_0 z9 (OB.ptr m7)) ?_
      refine L_ld (c:=.int .i64 ((l5).Hooks)) rfl rfl .plain (fun _ _ h=>⟨h.ch,fun b hb _=>h.below.block b hb⟩) xE rfl ?_
      refine Gd (.int .i64 (yA)) rfl rfl (P_int rfl rfl (congrArg (Option.map (Value.int .i64)) yE)) ?_
      refine Gd (.int .i64 (yA)) rfl rfl (P_assign rfl) ?_
      refine L_nl fun aG oH hs=>?_
      have hfr:=hfr.ext hs
      have t5:=t5.ext hs
      have u2_1_198:=u2_1_198.ext hs
      have a9:=a9.ext hs
      have u3_1_198:=u3_1_198.ext hs
      have m7:=m7.ext hs
      clear hs
      refine Zb ?_
      obtain rfl:=sinj h
      exact hQ _ _ ⟨aG,hfr,x8,t5,tB,a9,u2_1_198,z9,m7,u3_1_198,d9,rfl⟩
     ·refine E_cf iB rfl ?_
      refine Zu ?_
      obtain rfl:=sinj h
      exact hQ _ _ ⟨zB,hfr,x8,t5,tB,a9,u2_1_198,z9,m7,u3_1_198,d9,rfl⟩
    ·clear hx
     obtain ⟨gD,hfr,iD,i6,jD,x6,u2_1_331,bA,x5,u3_1_331,lD,nD⟩:=hR
     refine Za (Ga (fPtr p7 1) (Zc at_28_1 bA (OB.ptr x5)) rfl ?_)
     refine Ze .plain rfl (D_loadFS (g:=gD) part_TieHarness_1.1 Try.isAgg26 Try.sizeOf26 rfl x5 u3_1_331 fun pH cC o333=>?_)
     refine Zo nD rfl ?_
     refine Ze .plain rfl (D_buildSlice (g:=gD) 3044 (xs:=([l8]:List Int)) (vs:=[.int .i64 (l8)]) Try.underlying26 Try.sizeOf3 Try.zeroValue3 rfl rfl (.cons rfl .nil) (RVs.cons (Zj.2 rfl) RVs.nil) rfl rfl fun bG qH sH hs o334 cG hxt hfl=>?_)
     have hfr:=hfr.stp hs
     have i6:=i6.stp hs
     have u2_1_331:=u2_1_331.stp hs rfl
     have x6:=x6.stp hs rfl
     have x5:=x5.stp hs rfl
     have cC:=cC.stp hs
     have o333:=o333.stp hs rfl
     obtain ⟨yB,zE,h⟩:=Ge h
     refine Ze .plain rfl (D_append (g:=bG) (i:=60301) Try.underlying26 info_3 rfl rfl o333 cC rfl cG zE fun eG tH uH hs o335 oD _=>?_)
     have hfr:=hfr.stp hs
     have i6:=i6.stp hs
     have u2_1_331:=u2_1_331.stp hs rfl
     have x6:=x6.stp hs rfl
     have x5:=x5.stp hs rfl
     refine Ga (fPtr p7 1) (Zc at_28_1 bA (OB.ptr x5)) rfl ?_
     refine Ze .plain rfl (D_storeFc (g:=eG) part_TieHarness_1 Try.sizeOf26 rfl x5 rfl oD fun gG xH hs b338 rst hos=>?_)
     have sD:=hos _ _ 60301 3 (yB:List Int) (rv_cells1 oD) rfl o335
     clear rst hos
     have hfr:=hfr.stp hs
     have i6:=i6.stp hs
     have u2_1_331:=u2_1_331.stp hs rfl
     have x6:=x6.stp hs rfl
     refine Zb (blk_n ?_)
     obtain rfl:=sinj h
     exact hQ _ _ ⟨gG,hfr,iD,i6,jD,x6,u2_1_331,bA,b338,sD,lD⟩
   ·clear hx
    obtain ⟨hG,hfr,tD,uD,vD,xD,u2_1_339,yD,zD,u3_1_339,aE⟩:=hR
    refine Za (Zo aE rfl ?_)
    refine EL_in (.int .i64 ((w64 (o0 + (1:Int))))) rfl rfl rfl rfl ?_
    refine Zg (.int .i64 ((w64 (o0 + (1:Int))))) rfl rfl ?_
    exact Zb (Zd (oE (m8,(w64 (o0 + (1:Int)))) _ _ ⟨hG,hfr,tD,uD,vD,xD,u2_1_339,yD,zD,u3_1_339,rfl⟩ h))
 ·clear hx
  obtain ⟨bE,hfr,vB,iE,u2_1_340,lE,mE,u3_1_340⟩:=hR
  refine Zf (Za (Ze .plain rfl (D_loadO (g:=bE) Try.isAgg28 Try.sizeOf28 lE mE fun iG jG=>?_)))
  refine Ze .plain rfl (D_storeOc (g:=bE) (v:=iG) Try.sizeOf28 vB iE rfl jG fun yH zH hs b342 cb=>?_)
  clear cb
  have hfr:=hfr.stp hs
  refine Zb (Zd (E_ret ?_))
  obtain rfl:=sinj h
  obtain ⟨ad343,cv343,hp343,cF,cr343⟩:=ob_read Try.isAgg28 Try.sizeOf28 b342
  exact endm_c rfl rfl ((show _=p2 from vB).trans hp343) cF ⟨_,hfr,cr343⟩
def f55 (x0:Loom):Option (Design):=
 (rem64 (((x0).Hooks).toNat:Int) (12:Int)).bind fun y5=>
 Option.bind (α:=Design) (
  lp (σ:=Design × Int) (fun rE (t5,o0)=>
   jn (σ:=Unit) (fun _=>
    Option.bind (α:=Design) (
     Option.bind (α:=Int) (
      bif (decide (o0 < (((x0).Rows).length : Int))) then
       (idx ((x0).Rows) o0).bind fun n9=>
       some (((n9).toNat:Int))
      else
       some ((21:Int))
      ) fun x6=>
     (shl64 (1:Int) (wu64 (t5).Hooks)).bind fun y161=>
     (apnd 8 ((t5).Rows) (([(bit64 .and x6 (w64 (y161 - (1:Int))))]:List Int))).bind fun vB=>
     some ({ t5 with Rows:=vB })
     ) fun k8=>
    rE (k8,(w64 (o0 + (1:Int))))
    ) fun qC=>
   Option.bind (α:=Bool) (
    bif (o0 == (0 : Int)) then
     some (true)
    else
     bif (decide (o0 < (((x0).Rows).length : Int))) then
      some ((decide (o0 < (10:Int))))
     else
      some (false)
    ) fun y6=>
   bif y6 then
    qC ()
   else
    some (t5)
   ) big ((⟨(w64 ((1:Int) + y5)),[]⟩:Design),(0:Int))
  ) fun m8=>
 some (m8)
theorem en55:Enters Try.prog 55:=enters_of Try.func55 (by kernel_rfl) rfl
theorem wk55 {gI:Gh} {wI:World} {x0:Loom} {up0:Value} (rp0:RV gI.m wI x0 up0) {r:Design} (h:f55 x0=some r):Fn Try.prog 55 #[up0] gI wI (fun m w v=>RV m w (r) v):=by
 unfold f55 at h
 refine fn_of_E Try.func55 rfl (Nat.le_of_ble_eq_true rfl) fun g0 hm hfr=>?_
 have rp0:RV g0.m wI x0 up0:=hm ▸ rp0
 show E _ 51 none _ _ _ _ _
 refine Zf (Za (Ze .plain rfl (D_box (g:=g0) rfl rp0 fun g1 w1 p1 hs q1=>?_)))
 have hfr:=hfr.ext hs
 refine Ze .plain rfl (D_allocOc (g:=g1) 2002 (⟨0,[]⟩:Design) Try.zeroValue30 (fun m w=>⟨_,(rep_two Zy rep_nil),rfl⟩) fun g2 w2 p2 hs b2 cb=>?_)
 have hfr:=hfr.stp hs
 have q1:=q1.stp hs
 have d9:OSF 2002 60201 1 g2 w2 3 30 ([]:List Int) p2:=cb.osf (by rfl)
 clear cb
 refine Zb (Zd (Zf (Za (Ga (fPtr p1 0) (Zc at_25_0 rfl (PT.ptr q1)) rfl ?_))))
 have q3:=Zm (part_Loom_0).1 q1
 refine Ze .plain rfl (D_load (g:=g2) Try.isAgg5 Try.sizeOf5 rfl q3 fun v4 r4=>?_)
 obtain rfl:=RV_u8.1 r4
 refine Ga (.int .i64 ((((x0).Hooks).toNat:Int))) (P_u8int Try.underlying5 Try.underlying3 rfl) rfl ?_
 obtain ⟨y5,hy5,h⟩:=Ge h
 refine Ga (.int .i64 (y5)) (P_int rfl rfl (congrArg (Option.map (Value.int .i64)) hy5)) rfl ?_
 refine EL_in (.int .i64 ((w64 ((1:Int) + y5)))) rfl rfl rfl rfl ?_
 have r6:RV g2.m w2 (⟨(w64 ((1:Int) + y5)),[]⟩:Design) (.agg (setCh [[.int .i64 0],[.slice none 0 0]] [(0,.int .i64 ((w64 ((1:Int) + y5))))]).flatten.toArray):=RV_build rfl (rep_pair (rfl) (rep_last (rep_nil)))
 generalize uE:(Value.agg (setCh [[.int .i64 0],[.slice none 0 0]] [(0,.int .i64 ((w64 ((1:Int) + y5))))]).flatten.toArray)=v6 at r6
 refine Ga v6 (uE ▸ P_build (vs:=[(0,.int .i64 ((w64 ((1:Int) + y5))))]) [[.int .i64 0],[.slice none 0 0]] lay_30 rfl rfl (.cons rfl .nil) ⟨⟨_,rfl,rfl⟩,trivial⟩) rfl ?_
 refine Ze .plain rfl (D_allocOc (g:=g2) 2003 (⟨0,[]⟩:Design) Try.zeroValue30 (fun m w=>⟨_,(rep_two Zy rep_nil),rfl⟩) fun g7 w7 p7 hs b7 cb=>?_)
 have hfr:=hfr.stp hs
 have q1:=q1.stp hs
 have d9:=d9.stp hs rfl
 have b2:=b2.stp hs rfl
 have r6:=r6.stp hs
 have kG:OSF 2003 60301 1 g7 w7 3 30 ([]:List Int) p7:=cb.osf (by rfl)
 clear cb
 refine Ze .plain rfl (D_storeOc (g:=g7) (v:=v6) Try.sizeOf30 rfl b7 rfl r6 fun g8 w8 hs b8 cb=>?_)
 have vE:OSF 2003 60301 1 g8 w8 3 30 ([]:List Int) p7:=cb.osf (by rw [← uE]; rfl)
 clear cb
 have hfr:=hfr.stp hs
 have q1:=q1.stp hs
 have d9:=d9.stp hs rfl
 have b2:=b2.stp hs rfl
 refine Zb (Zd ?_)
 obtain ⟨m8,hx,h⟩:=Ge h
 refine E_join (fun e w=>∃ (g:Gh) ,Fr gI wI g w∧e 2=p2∧OB 2002 g w 30 ((⟨0,[]⟩:Design):Design) p2∧OSF 2002 60201 1 g w 3 30 (((⟨0,[]⟩:Design)).Rows) p2∧e 3=p7∧OB 2003 g w 30 (m8:Design) p7∧OSF 2003 60301 1 g w 3 30 ((m8).Rows) p7) (fun Q' hQ=>?_) (fun eG lG hR=>?_)
 ·replace h := hx
  clear hx
  refine Zf (Za (Zg (.int .i64 (0)) rfl rfl ?_))
  refine Zb (Zd (Zr ?_))
  refine E_lp h (fun (s:Design × Int) e w=>∃ (g:Gh) ,Fr gI wI g w∧e 1=p1∧PT g.m w (x0:Loom) p1∧e 2=p2∧OB 2002 g w 30 ((⟨0,[]⟩:Design):Design) p2∧OSF 2002 60201 1 g w 3 30 (((⟨0,[]⟩:Design)).Rows) p2∧e 3=p7∧OB 2003 g w 30 (s.1:Design) p7∧OSF 2003 60301 1 g w 3 30 ((s.1).Rows) p7∧e 4=.int .i64 (s.2)) ⟨g8,hfr,rfl,q1,rfl,b2,d9,rfl,b8,vE,rfl⟩ (fun X89 rE xE=>?_)
  rintro ⟨t5,o0⟩ mG qH ⟨cC,hfr,a9,n8,u9,y9,u2_1_90,z9,bA,u3_1_90,l8⟩ h
  refine Zq h (fun (s:Unit) e w=>∃ (g:Gh) ,Fr gI wI g w∧e 1=p1∧PT g.m w (x0:Loom) p1∧e 2=p2∧OB 2002 g w 30 ((⟨0,[]⟩:Design):Design) p2∧OSF 2002 60201 1 g w 3 30 (((⟨0,[]⟩:Design)).Rows) p2∧e 3=p7∧OB 2003 g w 30 (t5:Design) p7∧OSF 2003 60301 1 g w 3 30 ((t5).Rows) p7∧e 4=.int .i64 (o0)) (fun X101 qC iE h=>?_) ?_
  ·obtain ⟨y6, hx, h⟩ := Ge h
   refine E_join (fun e w=>∃ (g:Gh) ,Fr gI wI g w∧e 1=p1∧PT g.m w (x0:Loom) p1∧e 2=p2∧OB 2002 g w 30 ((⟨0,[]⟩:Design):Design) p2∧OSF 2002 60201 1 g w 3 30 (((⟨0,[]⟩:Design)).Rows) p2∧e 3=p7∧OB 2003 g w 30 (t5:Design) p7∧OSF 2003 60301 1 g w 3 30 ((t5).Rows) p7∧e 4=.int .i64 (o0)∧e 24=.bool (y6)) (fun Q' hQ=>?_) (fun gG sG hR=>?_)
   ·replace h := hx
    clear hx
    refine Za (Zo l8 rfl ?_)
    refine EL_in (.bool ((o0 == (0:Int)))) rfl rfl rfl rfl ?_
    refine Zn (.bool ((o0 == (0:Int)))) rfl rfl ?_
    rcases Zt h with ⟨u3,h⟩ | ⟨u3,h⟩
    ·refine Gc rfl rfl u3 rfl rfl ?_
     iterate 5 refine Gc rfl rfl u3 rfl rfl ?_
     refine EL_skip (.off rfl rfl) rfl ?_
     refine EL_skip (.off rfl rfl) rfl ?_
     refine Gc rfl rfl u3 rfl rfl ?_
     refine Ga (.bool true) (Zl (b:=(o0 == (0:Int))) rfl (pick_t u3 rfl)) rfl ?_
     refine Zb ?_
     obtain rfl:=sinj h
     exact hQ _ _ ⟨cC,hfr,a9,n8,u9,y9,u2_1_90,z9,bA,u3_1_90,l8,rfl⟩
    ·refine Gb (.int .i64 (o0)) (Zk l8) rfl rfl u3 rfl ?_
     refine Gb (fPtr p1 2) (Zc at_25_2 a9 (PT.ptr n8)) rfl rfl u3 rfl ?_
     have yE:=Zm (part_Loom_2).1 n8
     refine Ze (.yes2 rfl rfl u3) rfl (D_load (g:=cC) Try.isAgg23 Try.sizeOf23 rfl yE fun xG zE=>?_)
     refine Gb (.int .i64 (((x0).Rows).length:Int)) (P_len Try.underlying23 rfl zE) rfl rfl u3 rfl ?_
     refine Gb (.bool ((decide (o0 < (((x0).Rows).length:Int))))) (P_int rfl rfl rfl) rfl rfl u3 rfl ?_
     refine Gb (.bool ((decide (o0 < (((x0).Rows).length:Int))))) (Zk rfl) rfl rfl u3 rfl ?_
     rcases Zt h with ⟨m7,h⟩ | ⟨m7,h⟩
     ·refine Gb (.int .i64 (o0)) (Zk l8) rfl rfl m7 rfl ?_
      refine Gb (.bool ((decide (o0 < (10:Int))))) (P_int rfl rfl rfl) rfl rfl m7 rfl ?_
      refine Gb (.bool ((decide (o0 < (10:Int))))) (Zl (b:=(decide (o0 < (((x0).Rows).length:Int)))) rfl (pick_t m7 rfl)) rfl rfl u3 rfl ?_
      refine Ga (.bool ((decide (o0 < (10:Int))))) (Zl (b:=(o0 == (0:Int))) rfl (pick_f u3 rfl)) rfl ?_
      refine Zb ?_
      obtain rfl:=sinj h
      exact hQ _ _ ⟨cC,hfr,a9,n8,u9,y9,u2_1_90,z9,bA,u3_1_90,l8,rfl⟩
     ·refine Gc rfl rfl m7 rfl rfl ?_
      refine Gc rfl rfl m7 rfl rfl ?_
      refine Gb (.bool false) (Zl (b:=(decide (o0 < (((x0).Rows).length:Int)))) rfl (pick_f m7 rfl)) rfl rfl u3 rfl ?_
      refine Ga (.bool false) (Zl (b:=(o0 == (0:Int))) rfl (pick_f u3 rfl)) rfl ?_
      refine Zb ?_
      obtain rfl:=sinj h
      exact hQ _ _ ⟨cC,hfr,a9,n8,u9,y9,u2_1_90,z9,bA,u3_1_90,l8,rfl⟩
   ·clear hx
    obtain ⟨rC,hfr,uC,vC,yA,aB,u2_1_110,dB,iB,u3_1_110,aD,l9⟩:=hR
    rcases Zt h with ⟨iA,h⟩ | ⟨iA,h⟩
    ·refine E_cond_true (Eq.trans (show ev _ _ = .bool (y6) from l9) (congrArg Value.bool iA)) ?_
     exact Zu (Zd (iE () _ _ ⟨rC,hfr,uC,vC,yA,aB,u2_1_110,dB,iB,u3_1_110,aD⟩ h))
    ·refine E_cond_false (Eq.trans (show ev _ _ = .bool (y6) from l9) (congrArg Value.bool iA)) ?_
     refine E_exit ?_
     refine thn_e ?_
     refine thn_e ?_
     refine blk_hit ?_
     obtain rfl:=sinj h
     exact hQ _ _ ⟨rC,hfr,yA,aB,u2_1_110,dB,iB,u3_1_110⟩
  ·rintro _ hG yG ⟨k9, hfr, r8, i7, lB, mB, u2_1_112, nB, oB, u3_1_112, v8⟩ h
   obtain ⟨k8,hx,h⟩:=Ge h
   refine E_join (fun e w=>∃ (g:Gh) ,Fr gI wI g w∧e 1=p1∧PT g.m w (x0:Loom) p1∧e 2=p2∧OB 2002 g w 30 ((⟨0,[]⟩:Design):Design) p2∧OSF 2002 60201 1 g w 3 30 (((⟨0,[]⟩:Design)).Rows) p2∧e 3=p7∧OB 2003 g w 30 (k8:Design) p7∧OSF 2003 60301 1 g w 3 30 ((k8).Rows) p7∧e 4=.int .i64 (o0)) (fun Q' hQ=>?_) (fun iG zG hR=>?_)
   ·replace h := hx
    clear hx
    refine Zr ?_
    refine Zf (Za (Zg (.int .i64 (21)) rfl rfl ?_))
    refine Zb (Zd ?_)
    obtain ⟨x6,hx,h⟩:=Ge h
    refine E_join (fun e w=>∃ (g:Gh) ,Fr gI wI g w∧e 1=p1∧PT g.m w (x0:Loom) p1∧e 2=p2∧OB 2002 g w 30 ((⟨0,[]⟩:Design):Design) p2∧OSF 2002 60201 1 g w 3 30 (((⟨0,[]⟩:Design)).Rows) p2∧e 3=p7∧OB 2003 g w 30 (t5:Design) p7∧OSF 2003 60301 1 g w 3 30 ((t5).Rows) p7∧e 4=.int .i64 (o0)∧e 5=.int .i64 (x6)) (fun Q' hQ=>?_) (fun jG aH hR=>?_)
    ·replace h := hx
     clear hx
     refine Zf (Za (Zo v8 rfl ?_))
     refine Ga (fPtr p1 2) (Zc at_25_2 r8 (PT.ptr i7)) rfl ?_
     have cF:=Zm (part_Loom_2).1 i7
     refine Ze .plain rfl (D_load (g:=k9) Try.isAgg23 Try.sizeOf23 rfl cF fun cH dF=>?_)
     refine Ga (.int .i64 (((x0).Rows).length:Int)) (P_len Try.underlying23 rfl dF) rfl ?_
     refine Ga (.bool ((decide (o0 < (((x0).Rows).length:Int))))) (P_int rfl rfl rfl) rfl ?_
     refine Zb (Zd ?_)
     rcases Zt h with ⟨rA,h⟩ | ⟨rA,h⟩
     ·refine E_ct rA rfl ?_
      refine Za (Ga (fPtr p1 2) (Zc at_25_2 r8 (PT.ptr i7)) rfl ?_)
      have eF:=Zm (part_Loom_2).1 i7
      refine Ze .plain rfl (D_load (g:=k9) Try.isAgg23 Try.sizeOf23 rfl eF fun rF bD=>?_)
      refine Zo v8 rfl ?_
      obtain ⟨n9,mC,h⟩:=Ge h
      refine Ga (ePtr rF o0 1) (Zh (α:=UInt16) Try.underlying23 Try.sizeOf232 rfl bD rfl mC) rfl ?_
      have sF:=PT_idx bD mC
      refine Ze .plain rfl (D_load (g:=k9) Try.isAgg232 Try.sizeOf232 rfl sF fun dH tF=>?_)
      obtain rfl:=RV_u16.1 tF
      refine Ga (.int .i64 (((n9).toNat:Int))) (P_u16int Try.underlying232 Try.underlying3 rfl) rfl ?_
      refine Zg (.int .i64 (((n9).toNat:Int))) rfl rfl ?_
      refine Zb ?_
      obtain rfl:=sinj h
      exact hQ _ _ ⟨k9,hfr,r8,i7,lB,mB,u2_1_112,nB,oB,u3_1_112,v8,rfl⟩
     ·refine E_cf rA rfl ?_
      refine Zu ?_
      obtain rfl:=sinj h
      exact hQ _ _ ⟨k9,hfr,r8,i7,lB,mB,u2_1_112,nB,oB,u3_1_112,v8,rfl⟩
    ·clear hx
     obtain ⟨yB,hfr,cD,x5,eD,i6,u2_1_156,x8,l5,u3_1_156,gD,iD⟩:=hR
     refine Za (Ga (fPtr p7 1) (Zc at_30_1 x8 (OB.ptr l5)) rfl ?_)
     refine Ze .plain rfl (D_loadFS (g:=yB) part_Design_1.1 Try.isAgg26 Try.sizeOf26 rfl l5 u3_1_156 fun gH zB o158=>?_)
     refine Zo iD rfl ?_
     refine Ga (fPtr p7 0) (Zc at_30_0 x8 (OB.ptr l5)) rfl ?_
     refine Ze .plain rfl (D_loadF (g:=yB) part_Design_0.1 Try.isAgg3 Try.sizeOf3 rfl l5 fun iH uF=>?_)
     obtain rfl:=Zj.1 uF
     refine Ga (.int .u64 (wu64 (t5).Hooks)) (P_intu64 Try.underlying3 Try.underlying95 rfl) rfl ?_
     obtain ⟨y161,lE,h⟩:=Ge h
     refine Ga (.int .i64 (y161)) (P_shlu rfl rfl lE) rfl ?_
     refine EL_in (.int .i64 ((w64 (y161 - (1:Int))))) rfl rfl rfl rfl ?_
     refine EL_in (.int .i64 ((bit64 .and x6 (w64 (y161 - (1:Int)))))) rfl rfl rfl rfl ?_
     refine Ze .plain rfl (D_buildSlice (g:=yB) 3047 (xs:=([(bit64 .and x6 (w64 (y161 - (1:Int))))]:List Int)) (vs:=[.int .i64 ((bit64 .and x6 (w64 (y161 - (1:Int)))))]) Try.underlying26 Try.sizeOf3 Try.zeroValue3 rfl rfl (.cons rfl .nil) (RVs.cons (Zj.2 rfl) RVs.nil) rfl rfl fun vF jH kH hs o162 xF hxt hfl=>?_)
     have hfr:=hfr.stp hs
     have x5:=x5.stp hs
     have u2_1_156:=u2_1_156.stp hs rfl
     have i6:=i6.stp hs rfl
     have l5:=l5.stp hs rfl
     have zB:=zB.stp hs
     have o158:=o158.stp hs rfl
     obtain ⟨vB,mE,h⟩:=Ge h
     refine Ze .plain rfl (D_append (g:=vF) (i:=60301) Try.underlying26 info_3 rfl rfl o158 zB rfl xF mE fun yF lH mH hs o163 jD _=>?_)
     have hfr:=hfr.stp hs
     have x5:=x5.stp hs
     have u2_1_156:=u2_1_156.stp hs rfl
     have i6:=i6.stp hs rfl
     have l5:=l5.stp hs rfl
     refine Ga (fPtr p7 1) (Zc at_30_1 x8 (OB.ptr l5)) rfl ?_
     refine Ze .plain rfl (D_storeFc (g:=yF) part_Design_1 Try.sizeOf26 rfl l5 rfl jD fun zF nH hs b166 rst hos=>?_)
     have lD:=hos _ _ 60301 3 (vB:List Int) (rv_cells1 jD) rfl o163
     clear rst hos
     have hfr:=hfr.stp hs
     have x5:=x5.stp hs
     have u2_1_156:=u2_1_156.stp hs rfl
     have i6:=i6.stp hs rfl
     refine Zb (blk_n ?_)
     obtain rfl:=sinj h
     exact hQ _ _ ⟨zF,hfr,cD,x5,eD,i6,u2_1_156,x8,b166,lD,gD⟩
   ·clear hx
    obtain ⟨aG,hfr,nD,oD,sD,tD,u2_1_167,uD,vD,u3_1_167,xD⟩:=hR
    refine Za (Zo xD rfl ?_)
    refine EL_in (.int .i64 ((w64 (o0 + (1:Int))))) rfl rfl rfl rfl ?_
    refine Zg (.int .i64 ((w64 (o0 + (1:Int))))) rfl rfl ?_
    exact Zb (Zd (xE (k8,(w64 (o0 + (1:Int)))) _ _ ⟨aG,hfr,nD,oD,sD,tD,u2_1_167,uD,vD,u3_1_167,rfl⟩ h))
 ·clear hx
  obtain ⟨yD,hfr,tB,zD,u2_1_168,aE,bE,u3_1_168⟩:=hR
  refine Zf (Za (Ze .plain rfl (D_loadO (g:=yD) Try.isAgg30 Try.sizeOf30 aE bE fun bG cG=>?_)))
  refine Ze .plain rfl (D_storeOc (g:=yD) (v:=bG) Try.sizeOf30 tB zD rfl cG fun oH pH hs b170 cb=>?_)
  clear cb
  have hfr:=hfr.stp hs
  refine Zb (Zd (E_ret ?_))
  obtain rfl:=sinj h
  obtain ⟨ad171,cv171,hp171,oE,cr171⟩:=ob_read Try.isAgg30 Try.sizeOf30 b170
  exact endm_c rfl rfl ((show _=p2 from tB).trans hp171) oE ⟨_,hfr,cr171⟩
theorem v71_0 {iO:Nat} {gI:Gh} {wI:World} {x0:List Int} {up0:Value} (rp0:RV gI.m wI x0 up0) {r:List Int} (h:f71 x0=some r):FnG Try.prog 71 #[up0] gI wI (fun g w v=>OM iO g w 3 r v):=by
 unfold f71 at h
 refine fnG_of_E Try.func71 rfl (Nat.le_of_ble_eq_true rfl) fun g0 hm hfr=>?_
 have rp0:RV g0.m wI x0 up0:=hm ▸ rp0
 show E _ 8 none _ _ _ _ _
 refine Zf (Za (Zg (.slice none 0 0) rfl rfl (Zb (Zd ?_))))
 refine Zf (Zf (Za (Zn up0 rfl rfl ?_)))
 obtain ⟨a,c,hv,hc,hrow⟩:=RV_list rp0
 refine Ga (.bool a.isNone) (P_slnil Try.underlying26 (show ev _ _=_ from hv)) rfl (Zb (Zd ?_))
 cases a with
 | none=>
  have hx:x0=[]:=by
   cases x0 with
   | nil=>rfl
   | cons y ys=>obtain ⟨b,off,hb,_⟩:=hrow (by simp); cases hb
  subst hx
  have hr:r=[]:=by unfold apnd at h; split at h <;> simp at h; exact h
  subst hr
  refine E_cond_true rfl (Zf (Za ?_))
  refine Zg (.slice none 0 0) rfl rfl (Zb (Zd ?_))
  obtain ⟨gh,hxh,homh⟩:=OM.handn (i:=iO) (t:=3) (α:=Int) hfr; exact E_ret (thn_r (end1 rfl rfl (show _=.slice none 0 0 from rfl) ⟨gh,hxh,homh⟩))
 | some a=>
  refine E_cond_false rfl (Zu (Zd ?_))
  refine Zf (Za (Ze .plain rfl (D_buildSlice (g:=g0) 1 (xs:=([]:List Int)) (vs:=[]) Try.underlying26 Try.sizeOf3 Try.zeroValue3 rfl rfl .nil RVs.nil rfl rfl fun g1 w1 v1 hs o1 r1 hxt hfl=>?_)))
  have hfr:=hfr.stp hs
  have rp0:=rp0.stp hs
  refine Zn up0 rfl rfl ?_
  refine Ze .plain rfl (D_append (g:=g1) (i:=1) Try.underlying26 info_3 rfl rfl o1 r1 rfl rp0 h fun g2 w2 v2 hs o2 r2 _=>?_)
  have hfr:=hfr.stp hs
  refine Zg v2 rfl rfl (Zb (Zd ?_))
  obtain ⟨gh,hxh,homh⟩:=OM.hand (i:=iO) plain_int hfr o2 r2; exact E_ret (end1 rfl rfl (show _=v2 from rfl) ⟨gh,hxh,homh⟩)
def f91 (x0:List Int) (x1:Int):Option ((List Int)):=
 Option.bind (α:=Unit) (
  bif (decide (x1 < (0 : Int))) then
   none
  else
   some ()
  ) fun (_:Unit)=>
 (mulU ((wu64 ((x0).length:Int))) ((wu64 x1))).bind fun y4=>
 Option.bind (α:=Unit) (
  Option.bind (α:=Bool) (
   bif (decide (y4.1 > (0 : Int))) then
    some (true)
   else
    some ((decide (y4.2 > (9223372036854775807:Int))))
   ) fun t5=>
  bif t5 then
   none
  else
   some ()
  ) fun (_:Unit)=>
 (mks 8 (0:Int) ((w64 y4.2))).bind fun n8=>
 Option.bind (α:=(List Int)) (
  lp (σ:=(List Int) × Int) (fun aB (u3,o0)=>
   jn (σ:=Unit) (fun _=>
    (cut u3 o0 ((u3).length:Int)).bind fun x6=>
    (cut u3 0 o0).bind fun y6=>
    aB ((cpy u3 o0 x6 y6),(w64 (o0 + ((min (y6).length (x6).length:Nat):Int))))
    ) fun dB=>
   bif (decide (o0 < ((u3).length : Int))) then
    dB ()
   else
    some (u3)
   ) big ((cpy n8 0 n8 x0),((min (x0).length (n8).length:Nat):Int))
  ) fun i7=>
 some (i7)
theorem en91:Enters Try.prog 91:=enters_of Try.func91 (by kernel_rfl) rfl
def f92 (x0:List Bool) (x1:Int):Option ((List Bool)):=
 Option.bind (α:=Unit) (
  bif (decide (x1 < (0 : Int))) then
   none
  else
   some ()
  ) fun (_:Unit)=>
 (mulU ((wu64 ((x0).length:Int))) ((wu64 x1))).bind fun y4=>
 Option.bind (α:=Unit) (
  Option.bind (α:=Bool) (
   bif (decide (y4.1 > (0 : Int))) then
    some (true)
   else
    some ((decide (y4.2 > (9223372036854775807:Int))))
   ) fun t5=>
  bif t5 then
   none
  else
   some ()
  ) fun (_:Unit)=>
 (mks 1 (false:Bool) ((w64 y4.2))).bind fun n8=>
 Option.bind (α:=(List Bool)) (
  lp (σ:=(List Bool) × Int) (fun aB (u3,o0)=>
   jn (σ:=Unit) (fun _=>
    (cut u3 o0 ((u3).length:Int)).bind fun x6=>
    (cut u3 0 o0).bind fun y6=>
    aB ((cpy u3 o0 x6 y6),(w64 (o0 + ((min (y6).length (x6).length:Nat):Int))))
    ) fun dB=>
   bif (decide (o0 < ((u3).length : Int))) then
    dB ()
   else
    some (u3)
   ) big ((cpy n8 0 n8 x0),((min (x0).length (n8).length:Nat):Int))
  ) fun i7=>
 some (i7)
theorem en92:Enters Try.prog 92:=enters_of Try.func92 (by kernel_rfl) rfl
def f99 (x0:EyeBoard) (x1:Int):Option (Bool):=
 (idx ((x0).drawing) x1).bind fun y4=>
 Option.bind (α:=Bool) (
  bif (y4 != (-1 : Int)) then
   (idx (((x0).TieHarness).Warps) y4).bind fun y81=>
   (idx (((x0).TieHarness).Warps) x1).bind fun l5=>
   some ((y81 == l5))
  else
   some (false)
  ) fun u3=>
 some (u3)
theorem en99:Enters Try.prog 99:=enters_of Try.func99 (by kernel_rfl) rfl
theorem wk99 {gI:Gh} {wI:World} {x0:EyeBoard} {x1:Int} {up0:Value} (rp0:RV gI.m wI x0 up0) {r:Bool} (h:f99 x0 x1=some r):Fn Try.prog 99 #[up0,.int .i64 (x1)] gI wI (fun _ _ v=>v=.bool (r)):=by
 unfold f99 at h
 refine fn_of_E Try.func99 rfl (Nat.le_of_ble_eq_true rfl) fun g0 hm hfr=>?_
 have rp0:RV g0.m wI x0 up0:=hm ▸ rp0
 show E _ 28 none _ _ _ _ _
 refine Zf (Za (Ze .plain rfl (D_box (g:=g0) rfl rp0 fun g1 w1 p1 hs q1=>?_)))
 have hfr:=hfr.ext hs
 refine Zg (.bool false) rfl rfl ?_
 refine Zb (Zd (Zf (Za (Ga (fPtr p1 2) (Zc at_202_1 rfl (PT.ptr q1)) rfl ?_))))
 have q2:=Zm (part_EyeBoard_1).1 q1
 refine Ze .plain rfl (D_load (g:=g1) Try.isAgg26 Try.sizeOf26 rfl q2 fun v3 r3=>?_)
 refine Zn (.int .i64 (x1)) rfl rfl ?_
 obtain ⟨y4,x6,h⟩:=Ge h
 refine Ga (ePtr v3 x1 1) (Zh (α:=Int) Try.underlying26 Try.sizeOf3 rfl r3 rfl x6) rfl ?_
 have q5:=PT_idx r3 x6
 refine Ze .plain rfl (D_load (g:=g1) Try.isAgg3 Try.sizeOf3 rfl q5 fun v6 r6=>?_)
 obtain rfl:=Zj.1 r6
 refine Zg (.int .i64 (y4)) rfl rfl ?_
 refine Zb (Zd ?_)
 obtain ⟨u3,hx,h⟩:=Ge h
 refine E_join (fun e w=>∃ (g:Gh) ,Fr gI wI g w∧e 4=.bool (u3)) (fun Q' hQ=>?_) (fun z9 bA hR=>?_)
 ·replace h := hx
  clear hx
  rcases Zt h with ⟨o0,h⟩ | ⟨o0,h⟩
  ·have y6 := Zm (part_EyeBoard_0).1 q1
   have a9:=Zm (part_TieHarness_1).1 y6
   refine Zs (x:=.tmp 15) Try.isAgg26 Try.sizeOf26 a9 fun i7 m7 m8=>?_
   obtain ⟨y81,t5,h⟩:=Ge h
   have d9:=PT_idx m7 t5
   refine Zs (x:=.tmp 18) Try.isAgg3 Try.sizeOf3 d9 fun yA k9 n8=>?_
   obtain rfl:=Zj.1 k9
   have g8:=Zm (part_EyeBoard_0).1 q1
   have l9:=Zm (part_TieHarness_1).1 g8
   refine Zs (x:=.tmp 21) Try.isAgg26 Try.sizeOf26 l9 fun k8 l8 r8=>?_
   obtain ⟨l5,x5,h⟩:=Ge h
   have n9:=PT_idx l8 x5
   refine Zs (x:=.tmp 24) Try.isAgg3 Try.sizeOf3 n9 fun aB u9 v8=>?_
   obtain rfl:=Zj.1 u9
   refine E_drawL (g:=g1) (n:=18) [] [0,1,2,3,4,5,6,7,8,9,10,11,12,13,14,15,16,17] rfl mixed (by kernel_rfl) trivial ?_
   refine Gd (.int .i64 (y4)) rfl rfl (Zk rfl) ?_
   refine Gd (.bool ((y4 != (-1:Int)))) rfl rfl (P_int rfl rfl rfl) ?_
   refine Gd (.bool ((y4 != (-1:Int)))) rfl rfl (Zk rfl) ?_
   refine L_y (fPtr p1 0) rfl rfl rfl rfl o0 (Zc at_202_0 rfl (PT.ptr q1)) ?_
   refine L_y (fPtr (fPtr p1 0) 1) rfl rfl rfl rfl o0 (Zc at_28_1 rfl (PT.ptr y6)) ?_
   refine L_ld (c:=i7) rfl rfl (.yes2 rfl rfl o0) (fun _ _ h=>h.ch) m8 rfl ?_
   refine L_y (.int .i64 (y4)) rfl rfl rfl rfl o0 (Zk rfl) ?_
   refine L_y (ePtr i7 y4 1) rfl rfl rfl rfl o0 (Zh (α:=Int) Try.underlying26 Try.sizeOf3 rfl m7 rfl t5) ?_
   refine L_ld (c:=.int .i64 (y81)) rfl rfl (.yes2 rfl rfl o0) (fun _ _ h=>h.ch) n8 rfl ?_
   refine L_y (fPtr p1 0) rfl rfl rfl rfl o0 (Zc at_202_0 rfl (PT.ptr q1)) ?_
   refine L_y (fPtr (fPtr p1 0) 1) rfl rfl rfl rfl o0 (Zc at_28_1 rfl (PT.ptr g8)) ?_
   refine L_ld (c:=k8) rfl rfl (.yes2 rfl rfl o0) (fun _ _ h=>h.ch) r8 rfl ?_
   refine L_y (.int .i64 (x1)) rfl rfl rfl rfl o0 (Zk rfl) ?_
   refine L_y (ePtr k8 x1 1) rfl rfl rfl rfl o0 (Zh (α:=Int) Try.underlying26 Try.sizeOf3 rfl l8 rfl x5) ?_
   refine L_ld (c:=.int .i64 (l5)) rfl rfl (.yes2 rfl rfl o0) (fun _ _ h=>h.ch) v8 rfl ?_
   refine L_y (.bool ((y81 == l5))) rfl rfl rfl rfl o0 (P_int rfl rfl rfl) ?_
   refine Gd (.bool ((y81 == l5))) rfl rfl (Zl (b:=(y4 != (-1:Int))) rfl (pick_t o0 rfl)) ?_
   refine Gd (.bool ((y81 == l5))) rfl rfl (P_assign rfl) ?_
   refine L_nl fun y9 dB hs=>?_
   have hfr:=hfr.ext hs
   clear hs
   refine Zb ?_
   obtain rfl:=sinj h
   exact hQ _ _ ⟨y9,hfr,rfl⟩
  ·refine E_drawL (g := g1) (n := 18) [] [0, 1, 2, 3, 4, 5, 6, 7, 8, 9, 10, 11, 12, 13, 14, 15, 16, 17] rfl mixed (by kernel_rfl) trivial ?_
   refine Gd (.int .i64 (y4)) rfl rfl (Zk rfl) ?_
   refine Gd (.bool ((y4 != (-1:Int)))) rfl rfl (P_int rfl rfl rfl) ?_
   refine Gd (.bool ((y4 != (-1:Int)))) rfl rfl (Zk rfl) ?_
   iterate 13 refine L_s rfl rfl rfl o0 rfl ?_
   refine Gd (.bool false) rfl rfl (Zl (b:=(y4 != (-1:Int))) rfl (pick_f o0 rfl)) ?_
   refine Gd (.bool false) rfl rfl (P_assign rfl) ?_
   refine L_nl fun x8 iA hs=>?_
   have hfr:=hfr.ext hs
   clear hs
   refine Zb ?_
   obtain rfl:=sinj h
   exact hQ _ _ ⟨x8,hfr,rfl⟩
 ·clear hx
  obtain ⟨rA,hfr,i6⟩:=hR
  refine E_ret ?_
  obtain rfl:=sinj h
  exact end1 rfl rfl (show _=.bool (u3) from i6) ⟨_,hfr,rfl⟩
def f100 (x0:List Int):Option ((List Int)):=
 lp (σ:=(List Int) × Int × Int) (fun k1 (l5,o0,u3)=>
  jn (σ:=Unit) (fun _=>
   Option.bind (α:=(List Int)) (
    (idx l5 u3).bind fun x6=>
    (idx l5 o0).bind fun m7=>
    (idx l5 o0).bind fun bA=>
    (idx ((List.set l5 (Int.toNat o0) x6)) u3).bind fun y55=>
    some ((List.set ((List.set l5 (Int.toNat o0) x6)) (Int.toNat u3) m7))
    ) fun x5=>
   k1 (x5,(w64 (o0 + (1:Int))),(w64 (u3 - (1:Int))))
   ) fun k4=>
  bif (decide (o0 < u3)) then
   k4 ()
  else
   some (l5)
  ) big (x0,(0:Int),(w64 (((x0).length:Int) - (1:Int))))
theorem en100:Enters Try.prog 100:=enters_of Try.func100 (by kernel_rfl) rfl
theorem wk100 {iI:Nat} {gI:Gh} {wI:World} {x0:List Int} {up0:Value} (mp0:OM iI gI wI 3 x0 up0) {r:(List Int)} (h:f100 x0=some r):FnM Try.prog 100 #[up0] iI gI wI (fun g w v=>v=.tuple #[]∧OM iI g w 3 r up0):=by
 unfold f100 at h
 refine fnM_of_E Try.func100 rfl (Nat.le_of_ble_eq_true rfl) fun g0 hm hfr=>?_
 have x8:=mp0
 replace mp0:=mp0.enter
 rw [← hm] at mp0
 replace hm:g0.m=gI.m:=by rw [hm]
 show E _ 28 none _ _ _ _ _
 refine Zf (Za (Zn up0 rfl rfl ?_))
 refine Ga (.int .i64 ((x0).length:Int)) (P_lenM Try.underlying26 rfl mp0) rfl ?_
 refine EL_in (.int .i64 ((w64 (((x0).length:Int) - (1:Int))))) rfl rfl rfl rfl ?_
 refine Zg (.int .i64 (0)) rfl rfl ?_
 refine Zg (.int .i64 ((w64 (((x0).length:Int) - (1:Int))))) rfl rfl ?_
 refine Zb (Zd (Zr ?_))
 refine E_lp h (fun (s:(List Int) × Int × Int) e w=>∃ (g:Gh) ,FrM iI gI wI g w∧e 0=up0∧OM 1 g w 3 (s.1:List Int) up0∧e 2=.int .i64 (s.2.1)∧e 3=.int .i64 (s.2.2)) ⟨g0,hfr,rfl,mp0,rfl,rfl⟩ (fun X1 k1 hk1=>?_)
 rintro ⟨l5,o0,u3⟩ mB w2 ⟨g2,hfr,u9,g8,k8,l8⟩ h
 refine Zq h (fun (s:Unit) e w=>∃ (g:Gh) ,FrM iI gI wI g w∧e 0=up0∧OM 1 g w 3 (l5:List Int) up0∧e 2=.int .i64 (o0)∧e 3=.int .i64 (u3)) (fun X4 k4 hk4 h=>?_) ?_
 ·refine Zf (Za (Zo k8 rfl ?_))
  refine Zo l8 rfl ?_
  refine EL_in (.bool ((decide (o0 < u3)))) rfl rfl rfl rfl ?_
  refine Zb (Zd ?_)
  rcases Zt h with ⟨hc5,h⟩ | ⟨hc5,h⟩
  ·refine E_ct hc5 rfl ?_
   exact Zu (Zd (hk4 () _ _ ⟨g2,hfr,u9,g8,k8,l8⟩ h))
  ·refine E_cf hc5 rfl ?_
   refine E_exit ?_
   refine thn_e ?_
   refine thn_e ?_
   refine blk_hit ?_
   obtain rfl:=sinj h
   exact end0n rfl rfl ⟨_,hfr,rfl,x8.back g8⟩
 ·rintro _ nB w6 ⟨g6, hfr, i6, t5, y6, i7⟩ h
  obtain ⟨x5,hx,h⟩:=Ge h
  refine E_join (fun e w=>∃ (g:Gh) ,FrM iI gI wI g w∧e 0=up0∧OM 1 g w 3 (x5:List Int) up0∧e 2=.int .i64 (o0)∧e 3=.int .i64 (u3)) (fun Q' hQ=>?_) (fun lB oB hR=>?_)
  ·replace h := hx
   clear hx
   refine Zr ?_
   obtain ⟨x6,m8,h⟩:=Ge h
   refine L_loadM (x:=.tmp 20) Try.isAgg3 Try.sizeOf3 t5 m8 fun tB iA y9=>?_
   obtain rfl:=Zj.1 iA
   obtain ⟨m7,n8,h⟩:=Ge h
   refine L_loadM (x:=.tmp 24) Try.isAgg3 Try.sizeOf3 t5 n8 fun vB rA z9=>?_
   obtain rfl:=Zj.1 rA
   obtain ⟨bA,r8,h⟩:=Ge h
   refine E_drawTL (g:=g6) (n:=13) [2,3] [] [0,1,2,3,4,5,6,7,8,9,10,11,12] rfl mixed (by kernel_rfl) trivial rfl ?_
   refine Gd up0 rfl rfl (Zk i6) ?_
   refine Gd (.int .i64 (o0)) rfl rfl (Zk y6) ?_
   refine L_purL (c:=up0) rfl rfl .plain (Zk i6) ?_
   refine L_purL (c:=.int .i64 (u3)) rfl rfl .plain (Zk i7) ?_
   refine Gd up0 rfl rfl (Zk i6) ?_
   refine Gd (.int .i64 (u3)) rfl rfl (Zk i7) ?_
   refine Gd (ePtr up0 u3 1) rfl rfl (P_indexAddrM (α:=Int) Try.underlying26 Try.sizeOf3 rfl t5 rfl m8) ?_
   refine L_ld (c:=.int .i64 (x6)) rfl rfl .plain (fun _ _ h=>⟨h.ch,fun b hb _=>h.below.block b hb⟩) y9 rfl ?_
   refine Gd up0 rfl rfl (Zk i6) ?_
   refine Gd (.int .i64 (o0)) rfl rfl (Zk y6) ?_
   refine Gd (ePtr up0 o0 1) rfl rfl (P_indexAddrM (α:=Int) Try.underlying26 Try.sizeOf3 rfl t5 rfl n8) ?_
   refine L_ld (c:=.int .i64 (m7)) rfl rfl .plain (fun _ _ h=>⟨h.ch,fun b hb _=>h.below.block b hb⟩) z9 rfl ?_
   refine Gd (ePtr up0 o0 1) rfl rfl (P_indexAddrM (α:=Int) Try.underlying26 Try.sizeOf3 rfl t5 rfl r8) ?_
   refine L_nl fun n9 yA hs=>?_
   have hlt:Lt g6.m w6 n9 yA:=hs.ch
   have hfr:=hfr.ext hs
   have t5:=t5.ext hs
   clear hs
   refine TL_do hlt.w .plain rfl (D_storeM (g:=n9) (α:=Int) (a':=x6) Try.sizeOf3 rfl t5 r8 rfl (Zj.2 rfl) fun aB yB hs b54=>?_)
   have hfr:=hfr.stp hs
   have hlt:=hlt.stp hs
   obtain ⟨y55,v8,h⟩:=Ge h
   refine TL_pur hlt.w (v:=ePtr up0 u3 1) (P_indexAddrM (α:=Int) Try.underlying26 Try.sizeOf3 rfl b54 rfl v8) .plain rfl ?_
   refine TL_do hlt.w .plain rfl (D_storeM (g:=aB) (α:=Int) (a':=m7) Try.sizeOf3 rfl b54 v8 rfl (Zj.2 rfl) fun dB zB hs b56=>?_)
   have hfr:=hfr.stp hs
   have hlt:=hlt.stp hs
   refine TL_nil hlt.w ?_
   clear hlt
   refine blk_n ?_
   obtain rfl:=sinj h
   exact hQ _ _ ⟨dB,hfr,i6,b56,y6,i7⟩
  ·clear hx
   obtain ⟨iB,hfr,a9,d9,k9,l9⟩:=hR
   refine Za (Zo k9 rfl ?_)
   refine EL_in (.int .i64 ((w64 (o0 + (1:Int))))) rfl rfl rfl rfl ?_
   refine Zo l9 rfl ?_
   refine EL_in (.int .i64 ((w64 (u3 - (1:Int))))) rfl rfl rfl rfl ?_
   refine Zg (.int .i64 ((w64 (o0 + (1:Int))))) rfl rfl ?_
   refine Zg (.int .i64 ((w64 (u3 - (1:Int))))) rfl rfl ?_
   exact Zb (Zd (hk1 (x5,(w64 (o0 + (1:Int))),(w64 (u3 - (1:Int)))) _ _ ⟨iB,hfr,a9,d9,rfl,rfl⟩ h))
def f148 (x0:Int):Option (Int):=
 jn (σ:=Unit) (fun _=>
  some ((0:Int))
  ) fun k3=>
 bif (x0 == (2 : Int)) then
  some ((1:Int))
 else
  bif (x0 == (5 : Int)) then
   some ((2:Int))
  else
   k3 ()
theorem en148:Enters Try.prog 148:=enters_of Try.func148 (by kernel_rfl) rfl
theorem wk148 {gI:Gh} {wI:World} {x0:Int}  {r:Int} (h:f148 x0=some r):Fn Try.prog 148 #[.int .i64 (x0)] gI wI (fun _ _ v=>v=.int .i64 (r)):=by
 unfold f148 at h
 refine fn_of_E Try.func148 rfl (Nat.le_of_ble_eq_true rfl) fun g0 hm hfr=>?_
 show E _ 8 none _ _ _ _ _
 refine Zf (Za (Zg (.int .i64 (0)) rfl rfl ?_))
 refine Zb (Zd (Zq h (fun (s:Unit) e w=>∃ (g:Gh) ,Fr gI wI g w) (fun X3 k3 hk3 h=>?_) ?_))
 ·refine Zf (Za (Zn (.int .i64 (x0)) rfl rfl ?_))
  refine Zb (Zd (Zr ?_))
  refine Zf (Za (EL_in (.bool ((x0 == (2:Int)))) rfl rfl rfl rfl ?_))
  refine Zg (.bool ((x0 == (2:Int)))) rfl rfl ?_
  refine Zb (Zd ?_)
  rcases Zt h with ⟨hc4,h⟩ | ⟨hc4,h⟩
  ·refine E_ct hc4 rfl ?_
   refine Zf (Za (Zg (.int .i64 (1)) rfl rfl ?_))
   refine Zb (Zd (E_ret (blk_r ?_)))
   refine thn_r ?_
   obtain rfl:=sinj h
   exact end1 rfl rfl (show _=.int .i64 (1) from rfl) ⟨_,hfr,rfl⟩
  ·refine E_cf hc4 rfl ?_
   refine Zf (Za (EL_in (.bool ((x0 == (5:Int)))) rfl rfl rfl rfl ?_))
   refine Zg (.bool ((x0 == (5:Int)))) rfl rfl ?_
   refine Zb (Zd ?_)
   rcases Zt h with ⟨hc5,h⟩ | ⟨hc5,h⟩
   ·refine E_ct hc5 rfl ?_
    refine Zf (Za (Zg (.int .i64 (2)) rfl rfl ?_))
    refine Zb (Zd (E_ret (blk_r ?_)))
    refine thn_r ?_
    obtain rfl:=sinj h
    exact end1 rfl rfl (show _=.int .i64 (2) from rfl) ⟨_,hfr,rfl⟩
   ·refine E_cf hc5 rfl ?_
    exact Zu (blk_n (Zd (hk3 () _ _ ⟨g0,hfr⟩ h)))
 ·rintro _ o0 w6 ⟨g6, hfr⟩ h
  refine Zf (Za (Zg (.int .i64 (0)) rfl rfl ?_))
  refine Zb (Zd (E_ret ?_))
  obtain rfl:=sinj h
  exact end1 rfl rfl (show _=.int .i64 (0) from rfl) ⟨_,hfr,rfl⟩
def f151 (x0:List Int) (x1:Int→Option Bool):Option (Int):=
 jn (σ:=Unit) (fun _=>
  some ((-1:Int))
  ) fun k18=>
 lp (σ:=Int) (fun k19 o0=>
  bif (decide (o0 < ((x0).length : Int))) then
   jn (σ:=Unit) (fun _=>
    k19 ((w64 (o0 + (1:Int))))
    ) fun k28=>
   (idx x0 o0).bind fun i7=>
   (x1 i7).bind fun v8=>
   bif v8 then
    some (o0)
   else
    k28 ()
  else
   k18 ()
  ) big ((0:Int))
theorem en151:Enters Try.prog 151:=enters_of Try.func151 (by kernel_rfl) rfl
theorem wk151 {gI:Gh} {wI:World} {x0:List Int} {x1:Int→Option Bool} {up0:Value} (rp0:RV gI.m wI x0 up0) {up1:Value} (rp1:FnV1 Try.prog x1 up1 gI wI) {r:Int} (h:f151 x0 x1=some r):Fn Try.prog 151 #[up0,up1] gI wI (fun _ _ v=>v=.int .i64 (r)):=by
 unfold f151 at h
 refine fn_of_E Try.func151 rfl (Nat.le_of_ble_eq_true rfl) fun g0 hm hfr=>?_
 have rp0:RV g0.m wI x0 up0:=hm ▸ rp0
 obtain ⟨ff1,fa1,fc1,rfl,fen1,fcl1⟩:=rp1
 show E _ 19 none _ _ _ _ _
 refine Zf (Za (Zg (.int .i64 (0)) rfl rfl ?_))
 refine Zb (Zd (Zq h (fun (s:Unit) e w=>∃ (g:Gh) ,Fr gI wI g w) (fun X18 k18 x8 h=>?_) ?_))
 ·refine Zf (Za (Zn up0 rfl rfl ?_))
  refine Ga (.int .i64 ((x0).length:Int)) (P_len Try.underlying26 rfl rp0) rfl ?_
  refine Zn (.int .i64 (0)) rfl rfl ?_
  refine Zb (Zd (Zr ?_))
  refine E_lp h (fun (s:Int) e w=>∃ (g:Gh) ,Fr gI wI g w∧e 0=up0∧RV g.m w (x0:List Int) up0∧e 1=(.func (.func ff1) fa1 fc1)∧e 7=.int .i64 (((x0).length:Int))∧e 8=.int .i64 (s)) ⟨g0,hfr,rfl,rp0,rfl,rfl,rfl⟩ (fun X19 k19 a9=>?_)
  rintro o0 z9 rA ⟨m7,hfr,i6,u3,x6,y6,l5⟩ h
  refine Zf (Za (EL_in (.bool ((decide (o0 < ((x0).length:Int))))) l5 y6 rfl rfl ?_))
  refine Zb (Zd (Zf ?_))
  rcases Zt h with ⟨t5,h⟩ | ⟨t5,h⟩
  ·refine E_ct t5 rfl ?_
   refine Zu (Zd (Zq h (fun (s:Unit) e w=>∃ (g:Gh) ,Fr gI wI g w∧e 0=up0∧RV g.m w (x0:List Int) up0∧e 1=(.func (.func ff1) fa1 fc1)∧e 7=.int .i64 (((x0).length:Int))∧e 8=.int .i64 (o0)) (fun X28 k28 d9 h=>?_) ?_))
   ·refine Zr ?_
    refine Zf (Za (Zo l5 rfl ?_))
    refine Zg (.int .i64 (o0)) rfl rfl ?_
    refine Zb (Zd (Zf (Za (Zo x6 rfl ?_))))
    refine Zo i6 rfl ?_
    refine Zn (.int .i64 (o0)) rfl rfl ?_
    obtain ⟨i7,g8,h⟩:=Ge h
    refine Ga (ePtr up0 o0 1) (Zh (α:=Int) Try.underlying26 Try.sizeOf3 rfl u3 rfl g8) rfl ?_
    have l9:=PT_idx u3 g8
    refine Ze .plain rfl (D_load (g:=m7) Try.isAgg3 Try.sizeOf3 rfl l9 fun yA n9=>?_)
    obtain rfl:=Zj.1 n9
    obtain ⟨v8,k9,h⟩:=Ge h
    refine Ze .plain rfl (D_callv (g:=m7) (vs:=[.int .i64 (i7)]) rfl fen1 (.cons rfl .nil) (fcl1 _ _ hfr.ch _ _ _  (Zj.2 rfl) k9) fun u9 aB dB hs hr=>?_)
    have hfr:=hfr.ext hs
    have u3:=u3.ext hs
    obtain rfl:=RV_bool.1 hr
    refine Zb (Zd ?_)
    rcases Zt h with ⟨x5,h⟩ | ⟨x5,h⟩
    ·refine E_ct x5 rfl ?_
     refine Zf (Za (Zn (.int .i64 (o0)) rfl rfl ?_))
     refine Zg (.int .i64 (o0)) rfl rfl ?_
     refine Zb (Zd (E_ret (blk_r ?_)))
     refine thn_r ?_
     refine thn_r ?_
     refine blk_r ?_
     refine thn_r ?_
     obtain rfl:=sinj h
     exact end1 rfl rfl (show _=.int .i64 (o0) from rfl) ⟨_,hfr,rfl⟩
    ·refine E_cf x5 rfl ?_
     exact Zu (blk_n (Zd (d9 () _ _ ⟨u9,hfr,i6,u3,x6,y6,l5⟩ h)))
   ·rintro _ bA iB ⟨y9, hfr, k8, l8, m8, n8, r8⟩ h
    refine Za (EL_in (.int .i64 ((w64 (o0 + (1:Int))))) r8 rfl rfl rfl ?_)
    refine Zn (.int .i64 ((w64 (o0 + (1:Int))))) rfl rfl ?_
    exact Zb (Zd (a9 ((w64 (o0 + (1:Int)))) _ _ ⟨y9,hfr,k8,l8,m8,n8,rfl⟩ h))
  ·refine E_cf t5 rfl ?_
   refine E_exit ?_
   refine thn_e ?_
   refine thn_e ?_
   refine blk_hit ?_
   exact Zd (x8 () _ _ ⟨m7,hfr⟩ h)
 ·rintro _ iA lB ⟨mB, hfr⟩ h
  refine Zf (Za (Zg (.int .i64 (-1)) rfl rfl ?_))
  refine Zb (Zd (E_ret ?_))
  obtain rfl:=sinj h
  exact end1 rfl rfl (show _=.int .i64 (-1) from rfl) ⟨_,hfr,rfl⟩
def f165 (x0:List Int) (x1:Int→Option Bool):Option (Bool):=
 (f151 x0 x1).bind fun y2=>
 some ((decide (y2 ≥ (0:Int))))
theorem en165:Enters Try.prog 165:=enters_of Try.func165 (by kernel_rfl) rfl
theorem wk165 {gI:Gh} {wI:World} {x0:List Int} {x1:Int→Option Bool} {up0:Value} (rp0:RV gI.m wI x0 up0) {up1:Value} (rp1:FnV1 Try.prog x1 up1 gI wI) {r:Bool} (h:f165 x0 x1=some r):Fn Try.prog 165 #[up0,up1] gI wI (fun _ _ v=>v=.bool (r)):=by
 unfold f165 at h
 refine fn_of_E Try.func165 rfl (Nat.le_of_ble_eq_true rfl) fun g0 hm hfr=>?_
 have rp0:RV g0.m wI x0 up0:=hm ▸ rp0
 obtain ⟨ff1,fa1,fc1,rfl,fen1,fcl1⟩:=rp1
 show E _ 9 none _ _ _ _ _
 refine Zf (Za (Zg (.bool false) rfl rfl ?_))
 refine Zb (Zd (Zf (Za (Zn up0 rfl rfl ?_))))
 refine Zn ((.func (.func ff1) fa1 fc1)) rfl rfl ?_
 obtain ⟨y2,hy2,h⟩:=Ge h
 refine Ze .plain rfl (Zp (g:=g0) (vs:=[up0,(.func (.func ff1) fa1 fc1)]) en151 (.cons rfl (.cons rfl .nil)) (wk151 rp0 (FnV1.ch ⟨_,_,_,rfl,fen1,fcl1⟩ hfr.ch) hy2) fun g1 w1_ v1 hs hr=>?_)
 have hfr:=hfr.ext hs
 subst hr
 refine EL_in (.bool ((decide (y2 ≥ (0:Int))))) rfl rfl rfl rfl ?_
 refine Zg (.bool ((decide (y2 ≥ (0:Int))))) rfl rfl ?_
 refine Zb (Zd (E_ret ?_))
 obtain rfl:=sinj h
 exact end1 rfl rfl (show _=.bool ((decide (y2 ≥ (0:Int)))) from rfl) ⟨_,hfr,rfl⟩
def f166 (x0:Int) (z0:Int) (z1:Int):Option (Bool):=
 Option.bind (α:=Bool) (
  bif (decide (x0 < z0)) then
   some (true)
  else
   some ((decide (x0 > z1)))
  ) fun o0=>
 some (o0)
theorem en166:Enters Try.prog 166:=enters_of Try.func166 (by kernel_rfl) rfl
theorem wk166 {gI:Gh} {wI:World} {x0:Int} {z0:Int} {z1:Int} {pf0:Value} (qf0:PT gI.m wI z0 pf0) {pf1:Value} (qf1:PT gI.m wI z1 pf1) {r:Bool} (h:f166 x0 z0 z1=some r):Fn Try.prog 166 #[.int .i64 (x0),pf0,pf1] gI wI (fun _ _ v=>v=.bool (r)):=by
 unfold f166 at h
 refine fn_of_E Try.func166 rfl (Nat.le_of_ble_eq_true rfl) fun g0 hm hfr=>?_
 have qf0:PT g0.m wI z0 pf0:=hm ▸ qf0
 have qf1:PT g0.m wI z1 pf1:=hm ▸ qf1
 show E _ 13 none _ _ _ _ _
 refine Zf (Za (Zg (.bool false) rfl rfl ?_))
 refine Zb (Zd ?_)
 obtain ⟨o0,hx,h⟩:=Ge h
 refine E_join (fun e w=>∃ (g:Gh) ,Fr gI wI g w∧e 4=.bool (o0)) (fun Q' hQ=>?_) (fun l5 w7 hR=>?_)
 ·replace h := hx
  clear hx
  refine Za (Zn (.int .i64 (x0)) rfl rfl ?_)
  refine Ze .plain rfl (D_load (g:=g0) Try.isAgg3 Try.sizeOf3 rfl qf0 fun v4 r4=>?_)
  obtain rfl:=Zj.1 r4
  refine EL_in (.bool ((decide (x0 < z0)))) rfl rfl rfl rfl ?_
  refine Zn (.bool ((decide (x0 < z0)))) rfl rfl ?_
  rcases Zt h with ⟨hc5,h⟩ | ⟨hc5,h⟩
  ·refine Gc rfl rfl hc5 rfl rfl ?_
   refine Gc rfl rfl hc5 rfl rfl ?_
   refine Gc rfl rfl hc5 rfl rfl ?_
   refine Ga (.bool true) (Zl (b:=(decide (x0 < z0))) rfl (pick_t hc5 rfl)) rfl ?_
   refine Zg (.bool true) rfl rfl ?_
   refine Zb ?_
   obtain rfl:=sinj h
   exact hQ _ _ ⟨g0,hfr,rfl⟩
  ·refine Gb (.int .i64 (x0)) (Zk rfl) rfl rfl hc5 rfl ?_
   refine Ze (.yes2 rfl rfl hc5) rfl (D_load (g:=g0) Try.isAgg3 Try.sizeOf3 rfl qf1 fun v6 r6=>?_)
   obtain rfl:=Zj.1 r6
   refine Gb (.bool ((decide (x0 > z1)))) (P_int rfl rfl rfl) rfl rfl hc5 rfl ?_
   refine Ga (.bool ((decide (x0 > z1)))) (Zl (b:=(decide (x0 < z0))) rfl (pick_f hc5 rfl)) rfl ?_
   refine Zg (.bool ((decide (x0 > z1)))) rfl rfl ?_
   refine Zb ?_
   obtain rfl:=sinj h
   exact hQ _ _ ⟨g0,hfr,rfl⟩
 ·clear hx
  obtain ⟨g7,hfr,u3⟩:=hR
  refine E_ret ?_
  obtain rfl:=sinj h
  exact end1 rfl rfl (show _=.bool (o0) from u3) ⟨_,hfr,rfl⟩
def f167 (x0:List Zz) (x1:Zz→Option Bool):Option (Int):=
 jn (σ:=Unit) (fun _=>
  some ((-1:Int))
  ) fun k18=>
 lp (σ:=Int) (fun k19 o0=>
  bif (decide (o0 < ((x0).length : Int))) then
   jn (σ:=Unit) (fun _=>
    k19 ((w64 (o0 + (1:Int))))
    ) fun k28=>
   (idx x0 o0).bind fun r8=>
   (x1 r8).bind fun v8=>
   bif v8 then
    some (o0)
   else
    k28 ()
  else
   k18 ()
  ) big ((0:Int))
theorem en167:Enters Try.prog 167:=enters_of Try.func167 (by kernel_rfl) rfl
theorem wk167 {gI:Gh} {wI:World} {x0:List Zz} {x1:Zz→Option Bool} {up0:Value} (rp0:RV gI.m wI x0 up0) {up1:Value} (rp1:FnV1 Try.prog x1 up1 gI wI) {r:Int} (h:f167 x0 x1=some r):Fn Try.prog 167 #[up0,up1] gI wI (fun _ _ v=>v=.int .i64 (r)):=by
 unfold f167 at h
 refine fn_of_E Try.func167 rfl (Nat.le_of_ble_eq_true rfl) fun g0 hm hfr=>?_
 have rp0:RV g0.m wI x0 up0:=hm ▸ rp0
 obtain ⟨ff1,fa1,fc1,rfl,fen1,fcl1⟩:=rp1
 show E _ 19 none _ _ _ _ _
 refine Zf (Za (Zg (.int .i64 (0)) rfl rfl ?_))
 refine Zb (Zd (Zq h (fun (s:Unit) e w=>∃ (g:Gh) ,Fr gI wI g w) (fun X18 k18 x8 h=>?_) ?_))
 ·refine Zf (Za (Zn up0 rfl rfl ?_))
  refine Ga (.int .i64 ((x0).length:Int)) (P_len Try.underlying85 rfl rp0) rfl ?_
  refine Zn (.int .i64 (0)) rfl rfl ?_
  refine Zb (Zd (Zr ?_))
  refine E_lp h (fun (s:Int) e w=>∃ (g:Gh) ,Fr gI wI g w∧e 0=up0∧RV g.m w (x0:List Zz) up0∧e 1=(.func (.func ff1) fa1 fc1)∧e 7=.int .i64 (((x0).length:Int))∧e 8=.int .i64 (s)) ⟨g0,hfr,rfl,rp0,rfl,rfl,rfl⟩ (fun X19 k19 a9=>?_)
  rintro o0 bA yA ⟨i7,hfr,i6,u3,x6,y6,l5⟩ h
  refine Zf (Za (EL_in (.bool ((decide (o0 < ((x0).length:Int))))) l5 y6 rfl rfl ?_))
  refine Zb (Zd (Zf ?_))
  rcases Zt h with ⟨t5,h⟩ | ⟨t5,h⟩
  ·refine E_ct t5 rfl ?_
   refine Zu (Zd (Zq h (fun (s:Unit) e w=>∃ (g:Gh) ,Fr gI wI g w∧e 0=up0∧RV g.m w (x0:List Zz) up0∧e 1=(.func (.func ff1) fa1 fc1)∧e 7=.int .i64 (((x0).length:Int))∧e 8=.int .i64 (o0)) (fun X28 k28 d9 h=>?_) ?_))
   ·refine Zr ?_
    refine Zf (Za (Zo l5 rfl ?_))
    refine Zg (.int .i64 (o0)) rfl rfl ?_
    refine Zb (Zd (Zf (Za (Zo x6 rfl ?_))))
    refine Zo i6 rfl ?_
    refine Zn (.int .i64 (o0)) rfl rfl ?_
    obtain ⟨r8,m7,h⟩:=Ge h
    refine Ga (ePtr up0 o0 3) (Zh (α:=Zz) Try.underlying85 Try.sizeOf87 rfl u3 rfl m7) rfl ?_
    have l9:=PT_idx u3 m7
    refine Ze .plain rfl (D_load (g:=i7) Try.isAgg87 Try.sizeOf87 rfl l9 fun n9 u9=>?_)
    obtain ⟨v8,k9,h⟩:=Ge h
    refine Ze .plain rfl (D_callv (g:=i7) (vs:=[n9]) rfl fen1 (.cons rfl .nil) (fcl1 _ _ hfr.ch _ _ _  u9 k9) fun y9 aB dB hs hr=>?_)
    have hfr:=hfr.ext hs
    have u3:=u3.ext hs
    obtain rfl:=RV_bool.1 hr
    refine Zb (Zd ?_)
    rcases Zt h with ⟨x5,h⟩ | ⟨x5,h⟩
    ·refine E_ct x5 rfl ?_
     refine Zf (Za (Zn (.int .i64 (o0)) rfl rfl ?_))
     refine Zg (.int .i64 (o0)) rfl rfl ?_
     refine Zb (Zd (E_ret (blk_r ?_)))
     refine thn_r ?_
     refine thn_r ?_
     refine blk_r ?_
     refine thn_r ?_
     obtain rfl:=sinj h
     exact end1 rfl rfl (show _=.int .i64 (o0) from rfl) ⟨_,hfr,rfl⟩
    ·refine E_cf x5 rfl ?_
     exact Zu (blk_n (Zd (d9 () _ _ ⟨y9,hfr,i6,u3,x6,y6,l5⟩ h)))
   ·rintro _ iA iB ⟨z9, hfr, g8, k8, l8, m8, n8⟩ h
    refine Za (EL_in (.int .i64 ((w64 (o0 + (1:Int))))) n8 rfl rfl rfl ?_)
    refine Zn (.int .i64 ((w64 (o0 + (1:Int))))) rfl rfl ?_
    exact Zb (Zd (a9 ((w64 (o0 + (1:Int)))) _ _ ⟨z9,hfr,g8,k8,l8,m8,rfl⟩ h))
  ·refine E_cf t5 rfl ?_
   refine E_exit ?_
   refine thn_e ?_
   refine thn_e ?_
   refine blk_hit ?_
   exact Zd (x8 () _ _ ⟨i7,hfr⟩ h)
 ·rintro _ rA lB ⟨mB, hfr⟩ h
  refine Zf (Za (Zg (.int .i64 (-1)) rfl rfl ?_))
  refine Zb (Zd (E_ret ?_))
  obtain rfl:=sinj h
  exact end1 rfl rfl (show _=.int .i64 (-1) from rfl) ⟨_,hfr,rfl⟩
def f169 (x0:Int) (z0:Int) (z1:Int):Option (Bool):=
 Option.bind (α:=Bool) (
  bif (decide (x0 < z0)) then
   some (true)
  else
   some ((decide (x0 > z1)))
  ) fun o0=>
 some (o0)
theorem en169:Enters Try.prog 169:=enters_of Try.func169 (by kernel_rfl) rfl
theorem wk169 {gI:Gh} {wI:World} {x0:Int} {z0:Int} {z1:Int} {pf0:Value} (qf0:PT gI.m wI z0 pf0) {pf1:Value} (qf1:PT gI.m wI z1 pf1) {r:Bool} (h:f169 x0 z0 z1=some r):Fn Try.prog 169 #[.int .i64 (x0),pf0,pf1] gI wI (fun _ _ v=>v=.bool (r)):=by
 unfold f169 at h
 refine fn_of_E Try.func169 rfl (Nat.le_of_ble_eq_true rfl) fun g0 hm hfr=>?_
 have qf0:PT g0.m wI z0 pf0:=hm ▸ qf0
 have qf1:PT g0.m wI z1 pf1:=hm ▸ qf1
 show E _ 13 none _ _ _ _ _
 refine Zf (Za (Zg (.bool false) rfl rfl ?_))
 refine Zb (Zd ?_)
 obtain ⟨o0,hx,h⟩:=Ge h
 refine E_join (fun e w=>∃ (g:Gh) ,Fr gI wI g w∧e 4=.bool (o0)) (fun Q' hQ=>?_) (fun l5 w7 hR=>?_)
 ·replace h := hx
  clear hx
  refine Za (Zn (.int .i64 (x0)) rfl rfl ?_)
  refine Ze .plain rfl (D_load (g:=g0) Try.isAgg3 Try.sizeOf3 rfl qf0 fun v4 r4=>?_)
  obtain rfl:=Zj.1 r4
  refine EL_in (.bool ((decide (x0 < z0)))) rfl rfl rfl rfl ?_
  refine Zn (.bool ((decide (x0 < z0)))) rfl rfl ?_
  rcases Zt h with ⟨hc5,h⟩ | ⟨hc5,h⟩
  ·refine Gc rfl rfl hc5 rfl rfl ?_
   refine Gc rfl rfl hc5 rfl rfl ?_
   refine Gc rfl rfl hc5 rfl rfl ?_
   refine Ga (.bool true) (Zl (b:=(decide (x0 < z0))) rfl (pick_t hc5 rfl)) rfl ?_
   refine Zg (.bool true) rfl rfl ?_
   refine Zb ?_
   obtain rfl:=sinj h
   exact hQ _ _ ⟨g0,hfr,rfl⟩
  ·refine Gb (.int .i64 (x0)) (Zk rfl) rfl rfl hc5 rfl ?_
   refine Ze (.yes2 rfl rfl hc5) rfl (D_load (g:=g0) Try.isAgg3 Try.sizeOf3 rfl qf1 fun v6 r6=>?_)
   obtain rfl:=Zj.1 r6
   refine Gb (.bool ((decide (x0 > z1)))) (P_int rfl rfl rfl) rfl rfl hc5 rfl ?_
   refine Ga (.bool ((decide (x0 > z1)))) (Zl (b:=(decide (x0 < z0))) rfl (pick_f hc5 rfl)) rfl ?_
   refine Zg (.bool ((decide (x0 > z1)))) rfl rfl ?_
   refine Zb ?_
   obtain rfl:=sinj h
   exact hQ _ _ ⟨g0,hfr,rfl⟩
 ·clear hx
  obtain ⟨g7,hfr,u3⟩:=hR
  refine E_ret ?_
  obtain rfl:=sinj h
  exact end1 rfl rfl (show _=.bool (o0) from u3) ⟨_,hfr,rfl⟩
def f170 (x0:FaultFaultLoom) (σ:Type) (cons:Cons σ Zv) (s0:σ):Option σ:=
 Option.bind (α:=(List Zv)) (
  lp (σ:=(List Zv) × Int) (fun rN (lD,t5)=>
   bif (decide (t5 < (w64 ((((((x0).FaultLoom).Design).Rows).length : Int) * (((x0).FaultLoom).Design).Hooks)))) then
    Option.bind (α:=(List Zv)) (
     (quo64 t5 (((x0).FaultLoom).Design).Hooks).bind fun y125=>
     (rem64 t5 (((x0).FaultLoom).Design).Hooks).bind fun i7=>
     (apnd 40 lD (([(⟨(1:Int),y125,i7,0,false⟩:Zv)]:List Zv))).bind fun sH=>
     some (sH)
     ) fun n8=>
    rN (n8,(w64 (t5 + (1:Int))))
   else
    some (lD)
   ) big ([],(0:Int))
  ) fun d9=>
 Option.bind (α:=(List Zv)) (
  lp (σ:=(List Zv) × Int) (fun tH (s7_169,o0)=>
   bif (decide (o0 < (((x0).FaultLoom).Design).Hooks)) then
    Option.bind (α:=(List Zv)) (
     (apnd 40 s7_169 (([(⟨(2:Int),0,o0,0,false⟩:Zv),(⟨(2:Int),0,o0,0,true⟩:Zv)]:List Zv))).bind fun y180=>
     some (y180)
     ) fun r8=>
    tH (r8,(w64 (o0 + (1:Int))))
   else
    some (s7_169)
   ) big (d9,(0:Int))
  ) fun k9=>
 Option.bind (α:=(List Zv)) (
  lp (σ:=(List Zv) × Int) (fun uH (yB,x5)=>
   bif (decide (x5 < (2 : Int))) then
    Option.bind (α:=(List Zv)) (
     (idx ((⟨List.toArray [(3:Int),(4:Int)],rfl⟩:Vector Int 2)).toList x5).bind fun k8=>
     lp (σ:=(List Zv) × Int) (fun xH (zB,u3)=>
      bif (decide (u3 < (((((x0).FaultLoom).Design).Rows).length : Int))) then
       Option.bind (α:=(List Zv)) (
        (apnd 40 zB (([(⟨k8,u3,0,0,false⟩:Zv)]:List Zv))).bind fun y246=>
        some (y246)
        ) fun v8=>
       xH (v8,(w64 (u3 + (1:Int))))
      else
       some (zB)
      ) big (yB,(0:Int))
     ) fun x8=>
    uH (x8,(w64 (x5 + (1:Int))))
   else
    some (yB)
   ) big (k9,(0:Int))
  ) fun l9=>
 Option.bind (α:=(List Zv)) (
  lp (σ:=(List Zv) × Int) (fun yH (cC,l5)=>
   bif (decide (l5 < (((((x0).FaultLoom).Harness).Warps).length : Int))) then
    Option.bind (α:=(List Zv)) (
     (apnd 40 cC (([(⟨(5:Int),0,0,l5,false⟩:Zv)]:List Zv))).bind fun zH=>
     some (zH)
     ) fun a9=>
    yH (a9,(w64 (l5 + (1:Int))))
   else
    some (cC)
   ) big (l9,(0:Int))
  ) fun i6=>
 lp (σ:=σ × Int) (fun aI (mC,x6)=>
  bif (decide (x6 < ((i6).length : Int))) then
   jn (σ:=σ) (fun qC=>
    aI (qC,(w64 (x6 + (1:Int))))
    ) fun bI=>
   (idx i6 x6).bind fun vF=>
   (cons mC vF).bind fun (nD,nB)=>
   bif (!nD) then
    some nB
   else
    bI (nB)
  else
   some mC
  ) big (s0,(0:Int))
theorem en170:Enters Try.prog 170:=enters_of Try.func170 (by kernel_rfl) rfl
theorem wk170 {σ:Type} {cons:Cons σ Zv} {s0 r:σ} {gI:Gh} {wI:World} {x0:FaultFaultLoom} {up0:Value} (rp0:RV gI.m wI x0 up0) (h:f170 x0 σ cons s0=some r):IterC Try.prog (RA1 (α:=Zv)) 170 #[up0] #[] gI wI cons s0 r:=by
 unfold f170 at h
 refine iter_of_E Try.func170 rfl (Nat.le_of_ble_eq_true rfl) fun l B J g0 hm hAb hRo hfr=>?_
 have rp0:RV g0.m wI x0 up0:=hm ▸ rp0
 show E _ 96 none _ _ (envAt #[up0,.func (.yield l) #[] #[]]) _ _
 refine Zf (Za (Ze .plain rfl (D_box (g:=g0) rfl rp0 fun g1 w1 p1 hs q1=>?_)))
 have hfr:=hfr.ext_ hAb hs
 refine Zb (Zd (Zf ?_))
 have q2:=Zm (part_FaultFaultLoom_0).1 q1
 have q3:=Zm (part_FaultLoom_1).1 q2
 have q4:=Zm (part_Design_1).1 q3
 refine Zs (x:=.tmp 18) Try.isAgg26 Try.sizeOf26 q4 fun v5 r5 lP=>?_
 have q6:=Zm (part_FaultFaultLoom_0).1 q1
 have q7:=Zm (part_FaultLoom_1).1 q6
 have q8:=Zm (part_Design_0).1 q7
 refine Zs (x:=.tmp 23) Try.isAgg3 Try.sizeOf3 q8 fun v9 r9 mP=>?_
 obtain rfl:=Zj.1 r9
 have sN:=Zm (part_FaultFaultLoom_0).1 q1
 have tN:=Zm (part_FaultLoom_0).1 sN
 have nP:=Zm (part_TieHarness_1).1 tN
 refine Zs (x:=.tmp 27) Try.isAgg26 Try.sizeOf26 nP fun oP pP uN=>?_
 refine E_drawL (g:=g1) (n:=17) [] [0,1,2,3,4,5,6,7,8,9,10,11,12,13,14,15,16] rfl mixed (by kernel_rfl) trivial ?_
 refine Gd (fPtr p1 0) rfl rfl (Zc at_170_0 rfl (PT.ptr q1)) ?_
 refine Gd (fPtr (fPtr p1 0) 2) rfl rfl (Zc at_32_1 rfl (PT.ptr q2)) ?_
 refine Gd (fPtr (fPtr (fPtr p1 0) 2) 1) rfl rfl (Zc at_30_1 rfl (PT.ptr q3)) ?_
 refine L_ld (c:=v5) rfl rfl .plain (fun _ _ h=>h.ch) lP rfl ?_
 refine Gd (.int .i64 (((((x0).FaultLoom).Design).Rows).length:Int)) rfl rfl (P_len Try.underlying26 rfl r5) ?_
 refine Gd (fPtr p1 0) rfl rfl (Zc at_170_0 rfl (PT.ptr q1)) ?_
 refine Gd (fPtr (fPtr p1 0) 2) rfl rfl (Zc at_32_1 rfl (PT.ptr q6)) ?_
 refine Gd (fPtr (fPtr (fPtr p1 0) 2) 0) rfl rfl (Zc at_30_0 rfl (PT.ptr q7)) ?_
 refine L_ld (c:=.int .i64 ((((x0).FaultLoom).Design).Hooks)) rfl rfl .plain (fun _ _ h=>h.ch) mP rfl ?_
 refine Gd (fPtr p1 0) rfl rfl (Zc at_170_0 rfl (PT.ptr q1)) ?_
 refine Gd (fPtr (fPtr p1 0) 0) rfl rfl (Zc at_32_0 rfl (PT.ptr sN)) ?_
 refine Gd (fPtr (fPtr (fPtr p1 0) 0) 1) rfl rfl (Zc at_28_1 rfl (PT.ptr tN)) ?_
 refine L_ld (c:=oP) rfl rfl .plain (fun _ _ h=>h.ch) uN rfl ?_
 refine Gd (.int .i64 (((((x0).FaultLoom).Harness).Warps).length:Int)) rfl rfl (P_len Try.underlying26 rfl pP) ?_
 refine Gd (.int .i64 (((((x0).FaultLoom).Design).Rows).length:Int)) rfl rfl (P_assign rfl) ?_
 refine Gd (.int .i64 ((((x0).FaultLoom).Design).Hooks)) rfl rfl (P_assign rfl) ?_
 refine Gd (.int .i64 (((((x0).FaultLoom).Harness).Warps).length:Int)) rfl rfl (P_assign rfl) ?_
 refine L_nl fun sP uR hs=>?_
 have hfr:=hfr.ext_ hAb hs
 clear hs
 refine Zb (Zd (Zf (Za (Zg (.slice none 0 0) rfl rfl ?_))))
 refine Zb (Zd ?_)
 obtain ⟨d9,hx,h⟩:=Ge h
 refine E_join (fun e w=>∃ (g:Gh) (v7:Value),FrY gI wI B J (s0) g w∧e 1=(.func (.yield l) #[] #[])∧e 4=.int .i64 ((((((x0).FaultLoom).Design).Rows).length:Int))∧e 5=.int .i64 ((((x0).FaultLoom).Design).Hooks)∧e 6=.int .i64 ((((((x0).FaultLoom).Harness).Warps).length:Int))∧e 7=v7∧RV g.m w (d9:List Zv) v7∧OS 1007 g w 56 (d9:List Zv) v7) (fun Q' hQ=>?_) (fun uP nQ hR=>?_)
 ·replace h := hx
  clear hx
  refine Zf (Za (Zn (.int .i64 (((((x0).FaultLoom).Design).Rows).length:Int)) rfl rfl ?_))
  refine Zn (.int .i64 ((((x0).FaultLoom).Design).Hooks)) rfl rfl ?_
  refine Ga (.int .i64 ((w64 ((((((x0).FaultLoom).Design).Rows).length:Int) * (((x0).FaultLoom).Design).Hooks)))) (P_int rfl rfl rfl) rfl ?_
  refine Zn (.int .i64 (0)) rfl rfl ?_
  refine Zb (Zd (Zr ?_))
  refine E_lp h (fun (s:(List Zv) × Int) e w=>∃ (g:Gh) (v7:Value),FrY gI wI B J (s0) g w∧e 1=(.func (.yield l) #[] #[])∧e 4=.int .i64 ((((((x0).FaultLoom).Design).Rows).length:Int))∧e 5=.int .i64 ((((x0).FaultLoom).Design).Hooks)∧e 6=.int .i64 ((((((x0).FaultLoom).Harness).Warps).length:Int))∧e 7=v7∧RV g.m w (s.1:List Zv) v7∧OS 1007 g w 56 (s.1:List Zv) v7∧e 32=.int .i64 ((w64 ((((((x0).FaultLoom).Design).Rows).length:Int) * (((x0).FaultLoom).Design).Hooks)))∧e 33=.int .i64 (s.2)) ⟨sP,(.slice none 0 0),hfr,rfl,rfl,rfl,rfl,rfl,RV_nil,OS.nil,rfl,rfl⟩ (fun X95 rN vN=>?_)
  rintro ⟨lD,t5⟩ oQ tP ⟨dI,bG,hfr,cG,eG,oB,gG,hG,tB,vB,zD,rC⟩ h
  refine Zf (Za (Ga (.bool ((decide (t5 < (w64 ((((((x0).FaultLoom).Design).Rows).length:Int) * (((x0).FaultLoom).Design).Hooks)))))) (P_int rC zD rfl) rfl ?_))
  refine Zb (Zd (Zf ?_))
  rcases Zt h with ⟨xF,h⟩ | ⟨xF,h⟩
  ·refine E_ct xF rfl ?_
   refine Zu (Zd ?_)
   obtain ⟨n8,hx,h⟩:=Ge h
   refine E_join (fun e w=>∃ (g:Gh) (v7:Value),FrY gI wI B J (s0) g w∧e 1=(.func (.yield l) #[] #[])∧e 4=.int .i64 ((((((x0).FaultLoom).Design).Rows).length:Int))∧e 5=.int .i64 ((((x0).FaultLoom).Design).Hooks)∧e 6=.int .i64 ((((((x0).FaultLoom).Harness).Warps).length:Int))∧e 7=v7∧RV g.m w (n8:List Zv) v7∧OS 1007 g w 56 (n8:List Zv) v7∧e 32=.int .i64 ((w64 ((((((x0).FaultLoom).Design).Rows).length:Int) * (((x0).FaultLoom).Design).Hooks)))∧e 33=.int .i64 (t5)) (fun Q' hQ=>?_) (fun vP pQ hR=>?_)
   ·replace h := hx
    clear hx
    refine Zr ?_
    refine Zf (Za (Zo rC rfl ?_))
    refine Zg (.int .i64 (t5)) rfl rfl ?_
    refine Zb (Zd ?_)
    obtain ⟨y125,sM,h⟩:=Ge h
    obtain ⟨i7,tM,h⟩:=Ge h
    have iI:RV dI.m tP (⟨(1:Int),y125,i7,0,false⟩:Zv) (.agg (setCh [[.int .i64 0],[.int .i64 0],[.int .i64 0],[.int .i64 0],[.bool false]] [(0,.int .i64 (1)),(1,.int .i64 (y125)),(2,.int .i64 (i7))]).flatten.toArray):=RV_build rfl (rep_pair (rfl) (rep_pair (rfl) (rep_pair (rfl) (rep_pair (Zy) (rep_last (rep_bool))))))
    generalize uM:(Value.agg (setCh [[.int .i64 0],[.int .i64 0],[.int .i64 0],[.int .i64 0],[.bool false]] [(0,.int .i64 (1)),(1,.int .i64 (y125)),(2,.int .i64 (i7))]).flatten.toArray)=jI at iI
    refine E_drawL (g:=dI) (n:=9) [(8,(fun v g w=>RV g.m w ([(⟨(1:Int),y125,i7,0,false⟩:Zv)]:List Zv) v∧OS 3044 g w 56 ([(⟨(1:Int),y125,i7,0,false⟩:Zv)]:List Zv) v∧FullV v))] [0,1,2,3,4,5,6,7,8] rfl mixed (by kernel_rfl) (⟨fun _=>up_and up_rv (up_and up_os (up_eq _)),trivial⟩) ?_
    refine Gd bG rfl rfl (Zk hG) ?_
    refine Gd (.int .i64 (t5)) rfl rfl (Zk rfl) ?_
    refine Gd (.int .i64 ((((x0).FaultLoom).Design).Hooks)) rfl rfl (Zk oB) ?_
    refine Gd (.int .i64 (y125)) rfl rfl (P_int rfl rfl (congrArg (Option.map (Value.int .i64)) sM)) ?_
    refine Gd (.int .i64 (t5)) rfl rfl (Zk rfl) ?_
    refine Gd (.int .i64 ((((x0).FaultLoom).Design).Hooks)) rfl rfl (Zk oB) ?_
    refine Gd (.int .i64 (i7)) rfl rfl (P_int rfl rfl (congrArg (Option.map (Value.int .i64)) tM)) ?_
    refine Gd jI rfl rfl (uM ▸ P_build (vs:=[(0,.int .i64 (1)),(1,.int .i64 (y125)),(2,.int .i64 (i7))]) [[.int .i64 0],[.int .i64 0],[.int .i64 0],[.int .i64 0],[.bool false]] lay_56 rfl rfl (.cons rfl (.cons rfl (.cons rfl .nil))) ⟨⟨_,rfl,rfl⟩,⟨⟨_,rfl,rfl⟩,⟨⟨_,rfl,rfl⟩,trivial⟩⟩⟩) ?_
    refine L_do (φ:=fun v g w=>RV g.m w ([(⟨(1:Int),y125,i7,0,false⟩:Zv)]:List Zv) v∧OS 3044 g w 56 ([(⟨(1:Int),y125,i7,0,false⟩:Zv)]:List Zv) v∧FullV v) rfl rfl .plain (fun g w hd=>D_buildSlice (g:=g) 3044 (xs:=([(⟨(1:Int),y125,i7,0,false⟩:Zv)]:List Zv)) (vs:=[jI]) Try.underlying57 Try.sizeOf56 Try.zeroValue56 rfl rfl (.cons rfl .nil) (RVs.cons (iI.ext hd.1) RVs.nil) rfl rfl fun g' w' v hs o r hxt hfl=>⟨g',hxt,r,o,hfl⟩) (fun rA hv=>?_)
    clear hv
    refine L_nil fun xN qQ hall=>?_
    have hs:=hall.1
    have hfr:=hfr.ext_ hAb hs
    have tB:=tB.ext hs
    have vB:=vB.ext hs
    have yN:=(word_all (A:=fun g w=>RV g.m w ([(⟨(1:Int),y125,i7,0,false⟩:Zv)]:List Zv) rA∧OS 3044 g w 56 ([(⟨(1:Int),y125,i7,0,false⟩:Zv)]:List Zv) rA∧FullV rA) 8 rfl hall).1
    have o149:=(word_all (A:=fun g w=>RV g.m w ([(⟨(1:Int),y125,i7,0,false⟩:Zv)]:List Zv) rA∧OS 3044 g w 56 ([(⟨(1:Int),y125,i7,0,false⟩:Zv)]:List Zv) rA∧FullV rA) 8 rfl hall).2.1
    clear hs hall
    obtain ⟨sH,vM,h⟩:=Ge h
    refine Ze .plain rfl (D_append (g:=xN) (i:=1007) Try.underlying57 info_56 rfl rfl vB tB rfl yN vM fun zN rQ kI hs o150 aO _=>?_)
    have hfr:=hfr.stp_ hAb hs rfl
    refine Zg kI rfl rfl ?_
    refine Zb (blk_n ?_)
    obtain rfl:=sinj h
    exact hQ _ _ ⟨zN,(kI),hfr,cG,eG,oB,gG,rfl,aO,o150,zD,rC⟩
   ·clear hx
    obtain ⟨bO,lI,hfr,mI,nI,pI,qI,sI,tI,uI,kG,lG⟩:=hR
    refine Za (EL_in (.int .i64 ((w64 (t5 + (1:Int))))) lG rfl rfl rfl ?_)
    refine Zn (.int .i64 ((w64 (t5 + (1:Int))))) rfl rfl ?_
    exact Zb (Zd (vN (n8,(w64 (t5 + (1:Int)))) _ _ ⟨bO,(lI),hfr,mI,nI,pI,qI,sI,tI,uI,kG,rfl⟩ h))
  ·refine E_cf xF rfl ?_
   refine E_exit ?_
   refine thn_e ?_
   refine thn_e ?_
   refine blk_hit ?_
   obtain rfl:=sinj h
   exact hQ _ _ ⟨dI,(bG),hfr,cG,eG,oB,gG,hG,tB,vB⟩
 ·clear hx
  obtain ⟨cO,vI,hfr,yI,zI,eJ,gJ,iJ,jJ,kJ⟩:=hR
  obtain ⟨k9,hx,h⟩:=Ge h
  refine E_join (fun e w=>∃ (g:Gh) (v7:Value),FrY gI wI B J (s0) g w∧e 1=(.func (.yield l) #[] #[])∧e 4=.int .i64 ((((((x0).FaultLoom).Design).Rows).length:Int))∧e 6=.int .i64 ((((((x0).FaultLoom).Harness).Warps).length:Int))∧e 7=v7∧RV g.m w (k9:List Zv) v7∧OS 1007 g w 56 (k9:List Zv) v7) (fun Q' hQ=>?_) (fun xP dO hR=>?_)
  ·replace h := hx
   clear hx
   refine Zf (Za (Zo eJ rfl ?_))
   refine Zn (.int .i64 (0)) rfl rfl ?_
   refine Zb (Zd (Zr ?_))
   refine E_lp h (fun (s:(List Zv) × Int) e w=>∃ (g:Gh) (v7:Value),FrY gI wI B J (s0) g w∧e 1=(.func (.yield l) #[] #[])∧e 4=.int .i64 ((((((x0).FaultLoom).Design).Rows).length:Int))∧e 6=.int .i64 ((((((x0).FaultLoom).Harness).Warps).length:Int))∧e 7=v7∧RV g.m w (s.1:List Zv) v7∧OS 1007 g w 56 (s.1:List Zv) v7∧e 47=.int .i64 ((((x0).FaultLoom).Design).Hooks)∧e 48=.int .i64 (s.2)) ⟨cO,(vI),hfr,yI,zI,gJ,iJ,jJ,kJ,rfl,rfl⟩ (fun X168 tH xM=>?_)
   rintro ⟨s7_169,o0⟩ yP lJ ⟨oD,mJ,hfr,aE,bE,iE,lE,n9,u9,uC,yA⟩ h
   refine Zf (Za (Ga (.bool ((decide (o0 < (((x0).FaultLoom).Design).Hooks)))) (P_int yA uC rfl) rfl ?_))
   refine Zb (Zd (Zf ?_))
   rcases Zt h with ⟨sD,h⟩ | ⟨sD,h⟩
   ·refine E_ct sD rfl ?_
    refine Zu (Zd ?_)
    obtain ⟨r8,hx,h⟩:=Ge h
    refine E_join (fun e w=>∃ (g:Gh) (v7:Value),FrY gI wI B J (s0) g w∧e 1=(.func (.yield l) #[] #[])∧e 4=.int .i64 ((((((x0).FaultLoom).Design).Rows).length:Int))∧e 6=.int .i64 ((((((x0).FaultLoom).Harness).Warps).length:Int))∧e 7=v7∧RV g.m w (r8:List Zv) v7∧OS 1007 g w 56 (r8:List Zv) v7∧e 47=.int .i64 ((((x0).FaultLoom).Design).Hooks)∧e 48=.int .i64 (o0)) (fun Q' hQ=>?_) (fun zP sQ hR=>?_)
    ·replace h := hx
     clear hx
     refine Zr ?_
     refine Zf (Za (Zo yA rfl ?_))
     refine Zg (.int .i64 (o0)) rfl rfl ?_
     refine Zb (Zd (Za (Zo lE rfl ?_)))
     refine Zn (.int .i64 (o0)) rfl rfl ?_
     have nJ:RV oD.m lJ (⟨(2:Int),0,o0,0,false⟩:Zv) (.agg (setCh [[.int .i64 0],[.int .i64 0],[.int .i64 0],[.int .i64 0],[.bool false]] [(0,.int .i64 (2)),(2,.int .i64 (o0))]).flatten.toArray):=RV_build rfl (rep_pair (rfl) (rep_pair (Zy) (rep_pair (rfl) (rep_pair (Zy) (rep_last (rep_bool))))))
     generalize bN:(Value.agg (setCh [[.int .i64 0],[.int .i64 0],[.int .i64 0],[.int .i64 0],[.bool false]] [(0,.int .i64 (2)),(2,.int .i64 (o0))]).flatten.toArray)=oJ at nJ
     refine Ga oJ (bN ▸ P_build (vs:=[(0,.int .i64 (2)),(2,.int .i64 (o0))]) [[.int .i64 0],[.int .i64 0],[.int .i64 0],[.int .i64 0],[.bool false]] lay_56 rfl rfl (.cons rfl (.cons rfl .nil)) ⟨⟨_,rfl,rfl⟩,⟨⟨_,rfl,rfl⟩,trivial⟩⟩) rfl ?_
     refine Zn (.int .i64 (o0)) rfl rfl ?_
     have pJ:RV oD.m lJ (⟨(2:Int),0,o0,0,true⟩:Zv) (.agg (setCh [[.int .i64 0],[.int .i64 0],[.int .i64 0],[.int .i64 0],[.bool false]] [(0,.int .i64 (2)),(2,.int .i64 (o0)),(4,.bool true)]).flatten.toArray):=RV_build rfl (rep_pair (rfl) (rep_pair (Zy) (rep_pair (rfl) (rep_pair (Zy) (rep_last (rfl))))))
     generalize cN:(Value.agg (setCh [[.int .i64 0],[.int .i64 0],[.int .i64 0],[.int .i64 0],[.bool false]] [(0,.int .i64 (2)),(2,.int .i64 (o0)),(4,.bool true)]).flatten.toArray)=qJ at pJ
     refine Ga qJ (cN ▸ P_build (vs:=[(0,.int .i64 (2)),(2,.int .i64 (o0)),(4,.bool true)]) [[.int .i64 0],[.int .i64 0],[.int .i64 0],[.int .i64 0],[.bool false]] lay_56 rfl rfl (.cons rfl (.cons rfl (.cons rfl .nil))) ⟨⟨_,rfl,rfl⟩,⟨⟨_,rfl,rfl⟩,⟨⟨_,rfl,rfl⟩,trivial⟩⟩⟩) rfl ?_
     refine Ze .plain rfl (D_buildSlice (g:=oD) 3056 (xs:=([(⟨(2:Int),0,o0,0,false⟩:Zv),(⟨(2:Int),0,o0,0,true⟩:Zv)]:List Zv)) (vs:=[oJ,qJ]) Try.underlying57 Try.sizeOf56 Try.zeroValue56 rfl rfl (.cons rfl (.cons rfl .nil)) (RVs.cons nJ (RVs.cons pJ RVs.nil)) rfl rfl fun eO tQ uQ hs o178 gO hxt hfl=>?_)
     have hfr:=hfr.stp_ hAb hs rfl
     have n9:=n9.stp hs
     have u9:=u9.stp hs rfl
     obtain ⟨y180,dN,h⟩:=Ge h
     refine Ze .plain rfl (D_append (g:=eO) (i:=1007) Try.underlying57 info_56 rfl rfl u9 n9 rfl gO dN fun iO vQ rJ hs o179 jO _=>?_)
     have hfr:=hfr.stp_ hAb hs rfl
     refine Zg rJ rfl rfl ?_
     refine Zb (blk_n ?_)
     obtain rfl:=sinj h
     exact hQ _ _ ⟨iO,(rJ),hfr,aE,bE,iE,rfl,jO,o179,uC,yA⟩
    ·clear hx
     obtain ⟨kO,sJ,hfr,vJ,xJ,yJ,zJ,aK,bK,mG,sG⟩:=hR
     refine Za (EL_in (.int .i64 ((w64 (o0 + (1:Int))))) sG rfl rfl rfl ?_)
     refine Zn (.int .i64 ((w64 (o0 + (1:Int))))) rfl rfl ?_
     exact Zb (Zd (xM (r8,(w64 (o0 + (1:Int)))) _ _ ⟨kO,(sJ),hfr,vJ,xJ,yJ,zJ,aK,bK,mG,rfl⟩ h))
   ·refine E_cf sD rfl ?_
    refine E_exit ?_
    refine thn_e ?_
    refine thn_e ?_
    refine blk_hit ?_
    obtain rfl:=sinj h
    exact hQ _ _ ⟨oD,(mJ),hfr,aE,bE,iE,lE,n9,u9⟩
  ·clear hx
   obtain ⟨cK,dK,hfr,lK,mK,nK,oK,pK,qK⟩:=hR
   obtain ⟨l9,hx,h⟩:=Ge h
   refine E_join (fun e w=>∃ (g:Gh) (v7:Value),FrY gI wI B J (s0) g w∧e 1=(.func (.yield l) #[] #[])∧e 6=.int .i64 ((((((x0).FaultLoom).Harness).Warps).length:Int))∧e 7=v7∧RV g.m w (l9:List Zv) v7∧OS 1007 g w 56 (l9:List Zv) v7) (fun Q' hQ=>?_) (fun bQ xQ hR=>?_)
   ·replace h := hx
    clear hx
    refine Zf (Za ?_)
    have sK:RV cK.m dO (⟨List.toArray [(3:Int),(4:Int)],rfl⟩:Vector Int 2) (.agg (setCh [[.int .i64 0],[.int .i64 0]] [(0,.int .i64 (3)),(1,.int .i64 (4))]).flatten.toArray):=RV_build rfl (rep_vec (Zx rfl (Zx rfl flat_nil)) rfl)
    generalize eN:(Value.agg (setCh [[.int .i64 0],[.int .i64 0]] [(0,.int .i64 (3)),(1,.int .i64 (4))]).flatten.toArray)=m8 at sK
    refine Ga m8 (eN ▸ P_buildA (vs:=[(0,.int .i64 (3)),(1,.int .i64 (4))]) [[.int .i64 0],[.int .i64 0]] Try.underlying384 layA_384 szA_54 rfl (by simp) (.cons rfl (.cons rfl .nil)) ⟨⟨_,rfl,rfl⟩,⟨⟨_,rfl,rfl⟩,trivial⟩⟩) rfl ?_
    refine Zn (.int .i64 (0)) rfl rfl ?_
    refine Zb (Zd (Zr ?_))
    refine E_lp h (fun (s:(List Zv) × Int) e w=>∃ (g:Gh) (v7:Value),FrY gI wI B J (s0) g w∧e 1=(.func (.yield l) #[] #[])∧e 4=.int .i64 ((((((x0).FaultLoom).Design).Rows).length:Int))∧e 6=.int .i64 ((((((x0).FaultLoom).Harness).Warps).length:Int))∧e 7=v7∧RV g.m w (s.1:List Zv) v7∧OS 1007 g w 56 (s.1:List Zv) v7∧e 59=m8∧RV g.m w ((⟨List.toArray [(3:Int),(4:Int)],rfl⟩:Vector Int 2):Vector Int 2) m8∧e 60=.int .i64 (s.2)) ⟨cK,(dK),hfr,lK,mK,nK,oK,pK,qK,rfl,sK,rfl⟩ (fun X217 uH gN=>?_)
    rintro ⟨yB,x5⟩ cQ yQ ⟨tK,mE,hfr,oE,rE,uE,vE,xE,yE,vC,aB,dB⟩ h
    refine Zf (Za (EL_in (.bool ((decide (x5 < (2:Int))))) dB rfl rfl rfl ?_))
    refine Zb (Zd (Zf ?_))
    rcases Zt h with ⟨tD,h⟩ | ⟨tD,h⟩
    ·refine E_ct tD rfl ?_
     refine Zu (Zd ?_)
     obtain ⟨x8,hx,h⟩:=Ge h
     refine E_join (fun e w=>∃ (g:Gh) (v7:Value),FrY gI wI B J (s0) g w∧e 1=(.func (.yield l) #[] #[])∧e 4=.int .i64 ((((((x0).FaultLoom).Design).Rows).length:Int))∧e 6=.int .i64 ((((((x0).FaultLoom).Harness).Warps).length:Int))∧e 7=v7∧RV g.m w (x8:List Zv) v7∧OS 1007 g w 56 (x8:List Zv) v7∧e 59=m8∧RV g.m w ((⟨List.toArray [(3:Int),(4:Int)],rfl⟩:Vector Int 2):Vector Int 2) m8∧e 60=.int .i64 (x5)) (fun Q' hQ=>?_) (fun dQ zQ hR=>?_)
     ·replace h := hx
      clear hx
      refine Zr ?_
      refine Zf (Za ?_)
      obtain ⟨k8,iG,h⟩:=Ge h
      have lO:=RV_idxA aB iG
      refine Ga (.int .i64 (k8)) ((Zj.1 lO) ▸ P_indexA Try.underlying384 Try.isAgg54 Try.sizeOf54 vC aB dB iG) rfl ?_
      refine Zg (.int .i64 (k8)) rfl rfl ?_
      refine Zb (Zd (Zf (Za (Ga (.int .i64 ((((((x0).FaultLoom).Design).Rows).length:Int))) (Zk rE) rfl ?_))))
      refine Zn (.int .i64 (0)) rfl rfl ?_
      refine Zb (Zd (Zr ?_))
      refine E_lp h (fun (s:(List Zv) × Int) e w=>∃ (g:Gh) (v7:Value),FrY gI wI B J (s0) g w∧e 1=(.func (.yield l) #[] #[])∧e 4=.int .i64 ((((((x0).FaultLoom).Design).Rows).length:Int))∧e 6=.int .i64 ((((((x0).FaultLoom).Harness).Warps).length:Int))∧e 7=v7∧RV g.m w (s.1:List Zv) v7∧OS 1007 g w 56 (s.1:List Zv) v7∧e 11=.int .i64 (k8)∧e 59=m8∧RV g.m w ((⟨List.toArray [(3:Int),(4:Int)],rfl⟩:Vector Int 2):Vector Int 2) m8∧e 60=.int .i64 (x5)∧e 63=.int .i64 ((((((x0).FaultLoom).Design).Rows).length:Int))∧e 64=.int .i64 (s.2)) ⟨tK,(mE),hfr,oE,rE,uE,vE,xE,yE,rfl,vC,aB,dB,rfl,rfl⟩ (fun X236 xH iN=>?_)
      rintro ⟨zB,u3⟩ eQ mO ⟨yF,uK,hfr,zE,cF,dF,eF,y9,z9,aD,bD,g8,cD,eD,iB⟩ h
      refine Zf (Za (Ga (.bool ((decide (u3 < (((((x0).FaultLoom).Design).Rows).length:Int))))) (P_int iB eD rfl) rfl ?_))
      refine Zb (Zd (Zf ?_))
      rcases Zt h with ⟨uD,h⟩ | ⟨uD,h⟩
      ·refine E_ct uD rfl ?_
       refine Zu (Zd ?_)
       obtain ⟨v8,hx,h⟩:=Ge h
       refine E_join (fun e w=>∃ (g:Gh) (v7:Value),FrY gI wI B J (s0) g w∧e 1=(.func (.yield l) #[] #[])∧e 4=.int .i64 ((((((x0).FaultLoom).Design).Rows).length:Int))∧e 6=.int .i64 ((((((x0).FaultLoom).Harness).Warps).length:Int))∧e 7=v7∧RV g.m w (v8:List Zv) v7∧OS 1007 g w 56 (v8:List Zv) v7∧e 11=.int .i64 (k8)∧e 59=m8∧RV g.m w ((⟨List.toArray [(3:Int),(4:Int)],rfl⟩:Vector Int 2):Vector Int 2) m8∧e 60=.int .i64 (x5)∧e 63=.int .i64 ((((((x0).FaultLoom).Design).Rows).length:Int))∧e 64=.int .i64 (u3)) (fun Q' hQ=>?_) (fun gQ aR hR=>?_)
       ·replace h := hx
        clear hx
        refine Zr ?_
        refine Zf (Za (Zo iB rfl ?_))
        refine Zg (.int .i64 (u3)) rfl rfl ?_
        refine Zb (Zd (Za (Zo eF rfl ?_)))
        refine Zo aD rfl ?_
        refine Zn (.int .i64 (u3)) rfl rfl ?_
        have vK:RV yF.m mO (⟨k8,u3,0,0,false⟩:Zv) (.agg (setCh [[.int .i64 0],[.int .i64 0],[.int .i64 0],[.int .i64 0],[.bool false]] [(0,.int .i64 (k8)),(1,.int .i64 (u3))]).flatten.toArray):=RV_build rfl (rep_pair (rfl) (rep_pair (rfl) (rep_pair (Zy) (rep_pair (Zy) (rep_last (rep_bool))))))
        generalize jN:(Value.agg (setCh [[.int .i64 0],[.int .i64 0],[.int .i64 0],[.int .i64 0],[.bool false]] [(0,.int .i64 (k8)),(1,.int .i64 (u3))]).flatten.toArray)=xK at vK
        refine Ga xK (jN ▸ P_build (vs:=[(0,.int .i64 (k8)),(1,.int .i64 (u3))]) [[.int .i64 0],[.int .i64 0],[.int .i64 0],[.int .i64 0],[.bool false]] lay_56 rfl rfl (.cons rfl (.cons rfl .nil)) ⟨⟨_,rfl,rfl⟩,⟨⟨_,rfl,rfl⟩,trivial⟩⟩) rfl ?_
        refine Ze .plain rfl (D_buildSlice (g:=yF) 3071 (xs:=([(⟨k8,u3,0,0,false⟩:Zv)]:List Zv)) (vs:=[xK]) Try.underlying57 Try.sizeOf56 Try.zeroValue56 rfl rfl (.cons rfl .nil) (RVs.cons vK RVs.nil) rfl rfl fun nO bR cR hs o244 oO hxt hfl=>?_)
        have hfr:=hfr.stp_ hAb hs rfl
        have y9:=y9.stp hs
        have z9:=z9.stp hs rfl
        have g8:=g8.stp hs
        obtain ⟨y246,kN,h⟩:=Ge h
        refine Ze .plain rfl (D_append (g:=nO) (i:=1007) Try.underlying57 info_56 rfl rfl z9 y9 rfl oO kN fun pO dR yK hs o245 qO _=>?_)
        have hfr:=hfr.stp_ hAb hs rfl
        have g8:=g8.stp hs
        refine Zg yK rfl rfl ?_
        refine Zb (blk_n ?_)
        obtain rfl:=sinj h
        exact hQ _ _ ⟨pO,(yK),hfr,zE,cF,dF,rfl,qO,o245,aD,bD,g8,cD,eD,iB⟩
       ·clear hx
        obtain ⟨rO,zK,hfr,aL,bL,dL,eL,gL,iL,xG,yG,zG,aH,cH,dH⟩:=hR
        refine Za (EL_in (.int .i64 ((w64 (u3 + (1:Int))))) dH rfl rfl rfl ?_)
        refine Zn (.int .i64 ((w64 (u3 + (1:Int))))) rfl rfl ?_
        exact Zb (Zd (iN (v8,(w64 (u3 + (1:Int)))) _ _ ⟨rO,(zK),hfr,aL,bL,dL,eL,gL,iL,xG,yG,zG,aH,cH,rfl⟩ h))
      ·refine E_cf uD rfl ?_
       refine E_exit ?_
       refine thn_e ?_
       refine thn_e ?_
       refine blk_hit ?_
       refine blk_n ?_
       obtain rfl:=sinj h
       exact hQ _ _ ⟨yF,(uK),hfr,zE,cF,dF,eF,y9,z9,bD,g8,cD⟩
     ·clear hx
      obtain ⟨sO,jL,hfr,lL,mL,nL,oL,pL,qL,gH,iH,jH⟩:=hR
      refine Za (EL_in (.int .i64 ((w64 (x5 + (1:Int))))) jH rfl rfl rfl ?_)
      refine Zn (.int .i64 ((w64 (x5 + (1:Int))))) rfl rfl ?_
      exact Zb (Zd (gN (x8,(w64 (x5 + (1:Int)))) _ _ ⟨sO,(jL),hfr,lL,mL,nL,oL,pL,qL,gH,iH,rfl⟩ h))
    ·refine E_cf tD rfl ?_
     refine E_exit ?_
     refine thn_e ?_
     refine thn_e ?_
     refine blk_hit ?_
     obtain rfl:=sinj h
     exact hQ _ _ ⟨tK,(mE),hfr,oE,uE,vE,xE,yE⟩
   ·clear hx
    obtain ⟨tO,rL,hfr,tL,uL,vL,xL,yL⟩:=hR
    obtain ⟨i6,hx,h⟩:=Ge h
    refine E_join (fun e w=>∃ (g:Gh) (v7:Value),FrY gI wI B J (s0) g w∧e 1=(.func (.yield l) #[] #[])∧e 7=v7∧RV g.m w (i6:List Zv) v7∧OS 1007 g w 56 (i6:List Zv) v7) (fun Q' hQ=>?_) (fun iQ eR hR=>?_)
    ·replace h := hx
     clear hx
     refine Zf (Za (Ga (.int .i64 ((((((x0).FaultLoom).Harness).Warps).length:Int))) (Zk uL) rfl ?_))
     refine Zn (.int .i64 (0)) rfl rfl ?_
     refine Zb (Zd (Zr ?_))
     refine E_lp h (fun (s:(List Zv) × Int) e w=>∃ (g:Gh) (v7:Value),FrY gI wI B J (s0) g w∧e 1=(.func (.yield l) #[] #[])∧e 7=v7∧RV g.m w (s.1:List Zv) v7∧OS 1007 g w 56 (s.1:List Zv) v7∧e 75=.int .i64 ((((((x0).FaultLoom).Harness).Warps).length:Int))∧e 76=.int .i64 (s.2)) ⟨tO,(rL),hfr,tL,vL,xL,yL,rfl,rfl⟩ (fun X262 yH lN=>?_)
     rintro ⟨cC,l5⟩ jQ uO ⟨zF,zL,hfr,rF,sF,bA,iA,gD,lB⟩ h
     refine Zf (Za (Ga (.bool ((decide (l5 < (((((x0).FaultLoom).Harness).Warps).length:Int))))) (P_int lB gD rfl) rfl ?_))
     refine Zb (Zd (Zf ?_))
     rcases Zt h with ⟨vD,h⟩ | ⟨vD,h⟩
     ·refine E_ct vD rfl ?_
      refine Zu (Zd ?_)
      obtain ⟨a9,hx,h⟩:=Ge h
      refine E_join (fun e w=>∃ (g:Gh) (v7:Value),FrY gI wI B J (s0) g w∧e 1=(.func (.yield l) #[] #[])∧e 7=v7∧RV g.m w (a9:List Zv) v7∧OS 1007 g w 56 (a9:List Zv) v7∧e 75=.int .i64 ((((((x0).FaultLoom).Harness).Warps).length:Int))∧e 76=.int .i64 (l5)) (fun Q' hQ=>?_) (fun kQ gR hR=>?_)
      ·replace h := hx
       clear hx
       refine Zr ?_
       refine Zf (Za (Zo lB rfl ?_))
       refine Zg (.int .i64 (l5)) rfl rfl ?_
       refine Zb (Zd (Za (Zo sF rfl ?_)))
       refine Zn (.int .i64 (l5)) rfl rfl ?_
       have aM:RV zF.m uO (⟨(5:Int),0,0,l5,false⟩:Zv) (.agg (setCh [[.int .i64 0],[.int .i64 0],[.int .i64 0],[.int .i64 0],[.bool false]] [(0,.int .i64 (5)),(3,.int .i64 (l5))]).flatten.toArray):=RV_build rfl (rep_pair (rfl) (rep_pair (Zy) (rep_pair (Zy) (rep_pair (rfl) (rep_last (rep_bool))))))
       generalize mN:(Value.agg (setCh [[.int .i64 0],[.int .i64 0],[.int .i64 0],[.int .i64 0],[.bool false]] [(0,.int .i64 (5)),(3,.int .i64 (l5))]).flatten.toArray)=bM at aM
       refine Ga bM (mN ▸ P_build (vs:=[(0,.int .i64 (5)),(3,.int .i64 (l5))]) [[.int .i64 0],[.int .i64 0],[.int .i64 0],[.int .i64 0],[.bool false]] lay_56 rfl rfl (.cons rfl (.cons rfl .nil)) ⟨⟨_,rfl,rfl⟩,⟨⟨_,rfl,rfl⟩,trivial⟩⟩) rfl ?_
       refine Ze .plain rfl (D_buildSlice (g:=zF) 3082 (xs:=([(⟨(5:Int),0,0,l5,false⟩:Zv)]:List Zv)) (vs:=[bM]) Try.underlying57 Try.sizeOf56 Try.zeroValue56 rfl rfl (.cons rfl .nil) (RVs.cons aM RVs.nil) rfl rfl fun vO iR jR hs o270 xO hxt hfl=>?_)
       have hfr:=hfr.stp_ hAb hs rfl
       have bA:=bA.stp hs
       have iA:=iA.stp hs rfl
       obtain ⟨zH,nN,h⟩:=Ge h
       refine Ze .plain rfl (D_append (g:=vO) (i:=1007) Try.underlying57 info_56 rfl rfl iA bA rfl xO nN fun yO lR cM hs o271 zO _=>?_)
       have hfr:=hfr.stp_ hAb hs rfl
       refine Zg cM rfl rfl ?_
       refine Zb (blk_n ?_)
       obtain rfl:=sinj h
       exact hQ _ _ ⟨yO,(cM),hfr,rF,rfl,zO,o271,gD,lB⟩
      ·clear hx
       obtain ⟨aP,dM,hfr,eM,iM,jM,kM,kH,lH⟩:=hR
       refine Za (EL_in (.int .i64 ((w64 (l5 + (1:Int))))) lH rfl rfl rfl ?_)
       refine Zn (.int .i64 ((w64 (l5 + (1:Int))))) rfl rfl ?_
       exact Zb (Zd (lN (a9,(w64 (l5 + (1:Int)))) _ _ ⟨aP,(dM),hfr,eM,iM,jM,kM,kH,rfl⟩ h))
     ·refine E_cf vD rfl ?_
      refine E_exit ?_
      refine thn_e ?_
      refine thn_e ?_
      refine blk_hit ?_
      obtain rfl:=sinj h
      exact hQ _ _ ⟨zF,(zL),hfr,rF,sF,bA,iA⟩
    ·clear hx
     obtain ⟨bP,l8,hfr,mM,nM,tF,oM⟩:=hR
     refine Zf (Za (Zo nM rfl ?_))
     refine Ga (.int .i64 ((i6).length:Int)) (P_len Try.underlying57 rfl tF) rfl ?_
     refine Zn (.int .i64 (0)) rfl rfl ?_
     refine Zb (Zd (Zr ?_))
     refine E_lp h (fun (s:σ × Int) e w=>∃ (g:Gh) ,FrY gI wI B J (s.1) g w∧e 1=(.func (.yield l) #[] #[])∧e 85=l8∧RV g.m w (i6:List Zv) l8∧OS 1007 g w 56 (i6:List Zv) l8∧e 86=.int .i64 (((i6).length:Int))∧e 87=.int .i64 (s.2)) ⟨bP,hfr,mM,rfl,tF,oM,rfl,rfl⟩ (fun X275 aI oN=>?_)
     rintro ⟨mC,x6⟩ lQ mR ⟨pM,hfr,uF,iD,y6,m7,jD,mB⟩ h
     refine Zf (Za (EL_in (.bool ((decide (x6 < ((i6).length:Int))))) mB jD rfl rfl ?_))
     refine Zb (Zd (Zf ?_))
     rcases Zt h with ⟨xD,h⟩ | ⟨xD,h⟩
     ·refine E_ct xD rfl ?_
      refine Zu (Zd (Zq h (fun (s:σ) e w=>∃ (g:Gh) ,FrY gI wI B J (s) g w∧e 1=(.func (.yield l) #[] #[])∧e 85=l8∧RV g.m w (i6:List Zv) l8∧OS 1007 g w 56 (i6:List Zv) l8∧e 86=.int .i64 (((i6).length:Int))∧e 87=.int .i64 (x6)) (fun X287 bI pN h=>?_) ?_))
      ·refine Zr ?_
       refine Zf (Za ?_)
       obtain ⟨vF,jG,h⟩:=Ge h
       refine Ga (ePtr l8 x6 5) (Zh (α:=Zv) Try.underlying57 Try.sizeOf56 iD y6 mB jG) rfl ?_
       have cP:=PT_idx y6 jG
       refine Ze .plain rfl (D_load (g:=pM) Try.isAgg56 Try.sizeOf56 rfl cP fun dP aG=>?_)
       refine Ze .plain rfl (D_allocOc (g:=pM) 2015 (⟨0,0,0,0,false⟩:Zv) Try.zeroValue56 (fun m w=>⟨_,(rep_two Zy (rep_two Zy (rep_two Zy (rep_two Zy rep_bool)))),rfl⟩) fun eP nR oR hs b291 cb=>?_)
       have hfr:=hfr.stp_ hAb hs rfl
       have y6:=y6.stp hs
       have m7:=m7.stp hs rfl
       have aG:=aG.stp hs
       clear cb
       refine Ze .plain rfl (D_storeOc (g:=eP) (v:=dP) Try.sizeOf56 rfl b291 rfl aG fun qM pR hs b292 cb=>?_)
       clear cb
       have hfr:=hfr.stp_ hAb hs rfl
       have y6:=y6.stp hs
       have m7:=m7.stp hs rfl
       refine Zb (Zd (Zf (Za (Zo uF rfl ?_))))
       refine Ze .plain rfl (D_loadO (g:=qM) Try.isAgg56 Try.sizeOf56 rfl b292 fun qR gP=>?_)
       obtain ⟨iP,qN,h⟩:=Ge h
       obtain ⟨nD,nB⟩:=iP
       refine Ze .plain rfl (D_yield (g:=qM) (x:=vF) rfl (.cons rfl .nil) hRo hfr qN ⟨_,rfl,gP⟩ fun jP rR hs hfrY=>?_)
       have y6:=y6.stp hs
       have m7:=m7.stp hs rfl
       have hfr:=hfrY
       clear hfrY
       refine Ga (.bool (!nD)) (P_not rfl) rfl ?_
       refine Zb (Zd ?_)
       rcases Zt h with ⟨yD,h⟩ | ⟨yD,h⟩
       ·refine E_ct yD rfl ?_
        refine E_ret (blk_r ?_)
        refine thn_r ?_
        refine thn_r ?_
        refine blk_r ?_
        obtain rfl:=sinj h
        exact end0 rfl rfl (FrY.done hfr)
       ·refine E_cf yD rfl ?_
        exact Zu (blk_n (Zd (pN (nB) _ _ ⟨jP,hfr,uF,iD,y6,m7,jD,mB⟩ h)))
      ·rintro qC mQ tR ⟨kP, hfr, rM, mH, nH, oH, pH, qH⟩ h
       refine Za (EL_in (.int .i64 ((w64 (x6 + (1:Int))))) qH rfl rfl rfl ?_)
       refine Zn (.int .i64 ((w64 (x6 + (1:Int))))) rfl rfl ?_
       exact Zb (Zd (oN (qC,(w64 (x6 + (1:Int)))) _ _ ⟨kP,hfr,rM,mH,nH,oH,pH,rfl⟩ h))
     ·refine E_cf xD rfl ?_
      refine E_exit ?_
      refine thn_e ?_
      refine thn_e ?_
      refine blk_hit ?_
      obtain rfl:=sinj h
      exact end0n rfl rfl (FrY.done hfr)
def f171 (x0:List Str) (x1:List Str):Option (Bool):=
 jn (σ:=Unit) (fun _=>
  jn (σ:=Unit) (fun _=>
   some (true)
   ) fun l9=>
  lp (σ:=Int) (fun n9 o0=>
   bif (decide (o0 < ((x0).length : Int))) then
    jn (σ:=Unit) (fun _=>
     n9 ((w64 (o0 + (1:Int))))
     ) fun u9=>
    (idx x0 o0).bind fun y6=>
    (idx x1 o0).bind fun i7=>
    bif (!((y6).b == (i7).b)) then
     some (false)
    else
     u9 ()
   else
    l9 ()
   ) big ((0:Int))
  ) fun k2=>
 bif (((x0).length : Int) != ((x1).length : Int)) then
  some (false)
 else
  k2 ()
theorem en171:Enters Try.prog 171:=enters_of Try.func171 (by kernel_rfl) rfl
theorem wk171 {gI:Gh} {wI:World} {x0:List Str} {x1:List Str} {up0:Value} (rp0:RV gI.m wI x0 up0) {up1:Value} (rp1:RV gI.m wI x1 up1) {r:Bool} (h:f171 x0 x1=some r):Fn Try.prog 171 #[up0,up1] gI wI (fun _ _ v=>v=.bool (r)):=by
 unfold f171 at h
 refine fn_of_E Try.func171 rfl (Nat.le_of_ble_eq_true rfl) fun g0 hm hfr=>?_
 have rp0:RV g0.m wI x0 up0:=hm ▸ rp0
 have rp1:RV g0.m wI x1 up1:=hm ▸ rp1
 show E _ 26 none _ _ _ _ _
 refine Zf (Za (Zg (.bool false) rfl rfl ?_))
 refine Zb (Zd (Zq h (fun (s:Unit) e w=>∃ (g:Gh) ,Fr gI wI g w∧e 0=up0∧RV g.m w (x0:List Str) up0∧e 1=up1∧RV g.m w (x1:List Str) up1) (fun X2 k2 hk2 h=>?_) ?_))
 ·refine Zf (Za (Zn up0 rfl rfl ?_))
  refine Ga (.int .i64 ((x0).length:Int)) (P_len Try.underlying50 rfl rp0) rfl ?_
  refine Zn up1 rfl rfl ?_
  refine Ga (.int .i64 ((x1).length:Int)) (P_len Try.underlying50 rfl rp1) rfl ?_
  refine EL_in (.bool ((((x0).length:Int) != ((x1).length:Int)))) rfl rfl rfl rfl ?_
  refine Zb (Zd ?_)
  rcases Zt h with ⟨hc3,h⟩ | ⟨hc3,h⟩
  ·refine E_ct hc3 rfl ?_
   refine Zf (Za (Zg (.bool false) rfl rfl ?_))
   refine Zb (Zd (E_ret (thn_r ?_)))
   obtain rfl:=sinj h
   exact end1 rfl rfl (show _=.bool false from rfl) ⟨_,hfr,rfl⟩
  ·refine E_cf hc3 rfl ?_
   exact Zu (Zd (hk2 () _ _ ⟨g0,hfr,rfl,rp0,rfl,rp1⟩ h))
 ·rintro _ rC w4 ⟨g4, hfr, m8, n8, z9, bA⟩ h
  refine Zq h (fun (s:Unit) e w=>∃ (g:Gh) ,Fr gI wI g w) (fun X58 l9 iA h=>?_) ?_
  ·refine Zf (Za (Zo m8 rfl ?_))
   refine Ga (.int .i64 ((x0).length:Int)) (P_len Try.underlying50 rfl n8) rfl ?_
   refine Zn (.int .i64 (0)) rfl rfl ?_
   refine Zb (Zd (Zr ?_))
   refine E_lp h (fun (s:Int) e w=>∃ (g:Gh) ,Fr gI wI g w∧e 0=up0∧RV g.m w (x0:List Str) up0∧e 1=up1∧RV g.m w (x1:List Str) up1∧e 12=.int .i64 (((x0).length:Int))∧e 13=.int .i64 (s)) ⟨g4,hfr,m8,n8,z9,bA,rfl,rfl⟩ (fun X59 n9 rA=>?_)
   rintro o0 zB uC ⟨y9,hfr,m7,u3,g8,l5,i6,t5⟩ h
   refine Zf (Za (EL_in (.bool ((decide (o0 < ((x0).length:Int))))) t5 i6 rfl rfl ?_))
   refine Zb (Zd (Zf ?_))
   rcases Zt h with ⟨x6,h⟩ | ⟨x6,h⟩
   ·refine E_ct x6 rfl ?_
    refine Zu (Zd (Zq h (fun (s:Unit) e w=>∃ (g:Gh) ,Fr gI wI g w∧e 0=up0∧RV g.m w (x0:List Str) up0∧e 1=up1∧RV g.m w (x1:List Str) up1∧e 12=.int .i64 (((x0).length:Int))∧e 13=.int .i64 (o0)) (fun X87 u9 yA h=>?_) ?_))
    ·refine Zr ?_
     refine Zf (Za (Zo t5 rfl ?_))
     refine Zg (.int .i64 (o0)) rfl rfl ?_
     refine Zb (Zd (Zf ?_))
     obtain ⟨y6,r8,h⟩:=Ge h
     have lB:=PT_idx u3 r8
     refine Zs (x:=.tmp 18) Try.isAgg9 Try.sizeOf9 lB fun vC mB aB=>?_
     obtain rfl:=RV_str.1 mB
     obtain ⟨i7,v8,h⟩:=Ge h
     have nB:=PT_idx l5 v8
     refine Zs (x:=.tmp 22) Try.isAgg9 Try.sizeOf9 nB fun aD oB dB=>?_
     obtain rfl:=RV_str.1 oB
     refine E_drawL (g:=y9) (n:=9) [] [0,1,2,3,4,5,6,7,8] rfl mixed (by kernel_rfl) trivial ?_
     refine Gd up0 rfl rfl (Zk m7) ?_
     refine Gd (.int .i64 (o0)) rfl rfl (Zk rfl) ?_
     refine Gd (ePtr up0 o0 1) rfl rfl (Zh (α:=Str) Try.underlying50 Try.sizeOf9 rfl u3 rfl r8) ?_
     refine L_ld (c:=Str.v (y6)) rfl rfl .plain (fun _ _ h=>h.ch) aB rfl ?_
     refine Gd up1 rfl rfl (Zk g8) ?_
     refine Gd (.int .i64 (o0)) rfl rfl (Zk rfl) ?_
     refine Gd (ePtr up1 o0 1) rfl rfl (Zh (α:=Str) Try.underlying50 Try.sizeOf9 rfl l5 rfl v8) ?_
     refine L_ld (c:=Str.v (i7)) rfl rfl .plain (fun _ _ h=>h.ch) dB rfl ?_
     refine Gd (.bool ((!((y6).b == (i7).b)))) rfl rfl (P_str rfl rfl rfl) ?_
     refine L_nl fun tB bD hs=>?_
     have hfr:=hfr.ext hs
     have u3:=u3.ext hs
     have l5:=l5.ext hs
     clear hs
     refine Zb (Zd ?_)
     rcases Zt h with ⟨x5,h⟩ | ⟨x5,h⟩
     ·refine E_ct x5 rfl ?_
      refine Zf (Za (Zg (.bool false) rfl rfl ?_))
      refine Zb (Zd (E_ret (blk_r ?_)))
      refine thn_r ?_
      refine thn_r ?_
      refine blk_r ?_
      refine thn_r ?_
      obtain rfl:=sinj h
      exact end1 rfl rfl (show _=.bool false from rfl) ⟨_,hfr,rfl⟩
     ·refine E_cf x5 rfl ?_
      exact Zu (blk_n (Zd (yA () _ _ ⟨tB,hfr,m7,u3,g8,l5,i6,t5⟩ h)))
    ·rintro _ vB cC ⟨iB, hfr, x8, a9, d9, k9, k8, l8⟩ h
     refine Za (EL_in (.int .i64 ((w64 (o0 + (1:Int))))) l8 rfl rfl rfl ?_)
     refine Zn (.int .i64 ((w64 (o0 + (1:Int))))) rfl rfl ?_
     exact Zb (Zd (rA ((w64 (o0 + (1:Int)))) _ _ ⟨iB,hfr,x8,a9,d9,k9,k8,rfl⟩ h))
   ·refine E_cf x6 rfl ?_
    refine E_exit ?_
    refine thn_e ?_
    refine thn_e ?_
    refine blk_hit ?_
    exact Zd (iA () _ _ ⟨y9,hfr⟩ h)
  ·rintro _ yB mC ⟨qC, hfr⟩ h
   refine Zf (Za (Zg (.bool true) rfl rfl ?_))
   refine Zb (Zd (E_ret ?_))
   obtain rfl:=sinj h
   exact end1 rfl rfl (show _=.bool true from rfl) ⟨_,hfr,rfl⟩
def f172 (x0:Zz) (z0:List Str):Option (Bool):=
 (rem64 (x0).Pick ((z0).length:Int)).bind fun y6=>
 (idx z0 y6).bind fun y7=>
 (idx (y7).b (x0).Warp).bind fun o0=>
 some ((!((o0 == (120:UInt8)) == (x0).Lifted)))
theorem en172:Enters Try.prog 172:=enters_of Try.func172 (by kernel_rfl) rfl
theorem wk172 {gI:Gh} {wI:World} {x0:Zz} {z0:List Str} {up0:Value} (rp0:RV gI.m wI x0 up0) {pf0:Value} (qf0:PT gI.m wI z0 pf0) {r:Bool} (h:f172 x0 z0=some r):Fn Try.prog 172 #[up0,pf0] gI wI (fun _ _ v=>v=.bool (r)):=by
 unfold f172 at h
 refine fn_of_E Try.func172 rfl (Nat.le_of_ble_eq_true rfl) fun g0 hm hfr=>?_
 have qf0:PT g0.m wI z0 pf0:=hm ▸ qf0
 have rp0:RV g0.m wI x0 up0:=hm ▸ rp0
 show E _ 19 none _ _ _ _ _
 refine Zf (Za (Ze .plain rfl (D_box (g:=g0) rfl rp0 fun g1 w1 p1 hs q1=>?_)))
 have hfr:=hfr.ext hs
 have qf0:=qf0.ext hs
 refine Zg (.bool false) rfl rfl ?_
 refine Zb (Zd (Zf (Zs (x:=.tmp 1) Try.isAgg50 Try.sizeOf50 qf0 fun v2 r2 hl2=>?_)))
 have q3:=Zm (part_FaultSight_0).1 q1
 refine Zs (x:=.tmp 5) Try.isAgg3 Try.sizeOf3 q3 fun v4 r4 i6=>?_
 obtain rfl:=Zj.1 r4
 refine Zs (x:=.tmp 1) Try.isAgg50 Try.sizeOf50 qf0 fun v5 r5 x6=>?_
 obtain ⟨y6,i7,h⟩:=Ge h
 obtain ⟨y7,u3,h⟩:=Ge h
 have q8:=PT_idx r2 u3
 refine Zs (x:=.tmp 10) Try.isAgg9 Try.sizeOf9 q8 fun v9 r9 m7=>?_
 obtain rfl:=RV_str.1 r9
 have g8:=Zm (part_FaultSight_1).1 q1
 refine Zs (x:=.tmp 12) Try.isAgg3 Try.sizeOf3 g8 fun n8 k8 l5=>?_
 obtain rfl:=Zj.1 k8
 obtain ⟨o0,t5,h⟩:=Ge h
 have l8:=Zm (part_FaultSight_2).1 q1
 refine Zs (x:=.tmp 16) Try.isAgg4 Try.sizeOf4 l8 fun r8 m8 x5=>?_
 obtain rfl:=RV_bool.1 m8
 refine E_drawL (g:=g1) (n:=16) [] [0,1,2,3,4,5,6,7,8,9,10,11,12,13,14,15] rfl mixed (by kernel_rfl) trivial ?_
 refine L_ld (c:=v2) rfl rfl .plain (fun _ _ h=>h.ch) hl2 rfl ?_
 refine Gd (fPtr p1 0) rfl rfl (Zc at_87_0 rfl (PT.ptr q1)) ?_
 refine L_ld (c:=.int .i64 ((x0).Pick)) rfl rfl .plain (fun _ _ h=>h.ch) i6 rfl ?_
 refine L_ld (c:=v5) rfl rfl .plain (fun _ _ h=>h.ch) x6 rfl ?_
 refine Gd (.int .i64 ((z0).length:Int)) rfl rfl (P_len Try.underlying50 rfl r5) ?_
 refine Gd (.int .i64 (y6)) rfl rfl (P_int rfl rfl (congrArg (Option.map (Value.int .i64)) i7)) ?_
 refine Gd (ePtr v2 y6 1) rfl rfl (Zh (α:=Str) Try.underlying50 Try.sizeOf9 rfl r2 rfl u3) ?_
 refine L_ld (c:=Str.v (y7)) rfl rfl .plain (fun _ _ h=>h.ch) m7 rfl ?_
 refine Gd (fPtr p1 1) rfl rfl (Zc at_87_1 rfl (PT.ptr q1)) ?_
 refine L_ld (c:=.int .i64 ((x0).Warp)) rfl rfl .plain (fun _ _ h=>h.ch) l5 rfl ?_
 refine Gd (.int .u8 (UInt8.toNat (o0))) rfl rfl (P_indexS Try.underlying9 rfl rfl t5) ?_
 refine Gd (.bool ((o0 == (120:UInt8)))) rfl rfl (P_u8 rfl rfl rfl) ?_
 refine Gd (fPtr p1 2) rfl rfl (Zc at_87_2 rfl (PT.ptr q1)) ?_
 refine L_ld (c:=.bool ((x0).Lifted)) rfl rfl .plain (fun _ _ h=>h.ch) x5 rfl ?_
 refine Gd (.bool ((!((o0 == (120:UInt8)) == (x0).Lifted)))) rfl rfl (P_bool Try.underlying4 rfl rfl rfl) ?_
 refine Gd (.bool ((!((o0 == (120:UInt8)) == (x0).Lifted)))) rfl rfl (P_assign rfl) ?_
 refine L_nl fun v8 w15 hs=>?_
 have hfr:=hfr.ext hs
 clear hs
 refine Zb (Zd (E_ret ?_))
 obtain rfl:=sinj h
 exact end1 rfl rfl (show _=.bool ((!((o0 == (120:UInt8)) == (x0).Lifted))) from rfl) ⟨_,hfr,rfl⟩
def f173 (z0:List Int) (σ:Type) (cons:Cons σ (Int × Int)) (s0:σ):Option σ:=
 lp (σ:=σ × Int) (fun k2 (u3,o0)=>
  jn (σ:=Unit) (fun _=>
   jn (σ:=σ) (fun l5=>
    k2 (l5,(w64 (o0 - (1:Int))))
    ) fun x8=>
   (idx z0 o0).bind fun i7=>
   (cons u3 (o0,i7)).bind fun (i6,t5)=>
   bif (!i6) then
    some t5
   else
    x8 (t5)
   ) fun k5=>
  bif (decide (o0 ≥ (0 : Int))) then
   k5 ()
  else
   some u3
  ) big (s0,(w64 (((z0).length:Int) - (1:Int))))
theorem en173:Enters Try.prog 173:=enters_of Try.func173 (by kernel_rfl) rfl
theorem wk173 {σ:Type} {cons:Cons σ (Int × Int)} {s0 r:σ} {gI:Gh} {wI:World} {z0:List Int} {pf0:Value} (qf0:PT gI.m wI z0 pf0) (h:f173 z0 σ cons s0=some r):IterC Try.prog (RA2 (α:=Int) (β:=Int)) 173 #[] #[pf0] gI wI cons s0 r:=by
 unfold f173 at h
 refine iter_of_E Try.func173 rfl (Nat.le_of_ble_eq_true rfl) fun l B J g0 hm hAb hRo hfr=>?_
 have qf0:PT g0.m wI z0 pf0:=hm ▸ qf0
 show E _ 19 none _ _ (envAt #[.func (.yield l) #[] #[],pf0]) _ _
 refine Zf (Za (Ze .plain rfl (D_load (g:=g0) Try.isAgg26 Try.sizeOf26 rfl qf0 fun v1 r1=>?_)))
 refine Ga (.int .i64 ((z0).length:Int)) (P_len Try.underlying26 rfl r1) rfl ?_
 refine EL_in (.int .i64 ((w64 (((z0).length:Int) - (1:Int))))) rfl rfl rfl rfl ?_
 refine Zg (.int .i64 ((w64 (((z0).length:Int) - (1:Int))))) rfl rfl ?_
 refine Zb (Zd (Zr ?_))
 refine E_lp h (fun (s:σ × Int) e w=>∃ (g:Gh) ,FrY gI wI B J (s.1) g w∧e 0=(.func (.yield l) #[] #[])∧e 1=pf0∧PT g.m w (z0:List Int) pf0∧e 3=.int .i64 (s.2)) ⟨g0,hfr,rfl,rfl,qf0,rfl⟩ (fun X2 k2 hk2=>?_)
 rintro ⟨u3,o0⟩ dB w3 ⟨g3,hfr,d9,k9,l9,m7⟩ h
 refine Zq h (fun (s:Unit) e w=>∃ (g:Gh) ,FrY gI wI B J (u3) g w∧e 0=(.func (.yield l) #[] #[])∧e 1=pf0∧PT g.m w (z0:List Int) pf0∧e 3=.int .i64 (o0)) (fun X5 k5 hk5 h=>?_) ?_
 ·refine Zf (Za (Zo m7 rfl ?_))
  refine EL_in (.bool ((decide (o0 ≥ (0:Int))))) rfl rfl rfl rfl ?_
  refine Zb (Zd ?_)
  rcases Zt h with ⟨hc6,h⟩ | ⟨hc6,h⟩
  ·refine E_ct hc6 rfl ?_
   exact Zu (Zd (hk5 () _ _ ⟨g3,hfr,d9,k9,l9,m7⟩ h))
  ·refine E_cf hc6 rfl ?_
   refine E_exit ?_
   refine thn_e ?_
   refine thn_e ?_
   refine blk_hit ?_
   obtain rfl:=sinj h
   exact end0n rfl rfl (FrY.done hfr)
 ·rintro _ iB w7 ⟨g7, hfr, g8, k8, x5, x6⟩ h
  refine Zq h (fun (s:σ) e w=>∃ (g:Gh) ,FrY gI wI B J (s) g w∧e 0=(.func (.yield l) #[] #[])∧e 1=pf0∧PT g.m w (z0:List Int) pf0∧e 3=.int .i64 (o0)) (fun X15 x8 n9 h=>?_) ?_
  ·refine Zr ?_
   refine Zf (Za (Zo g8 rfl ?_))
   refine Zo x6 rfl ?_
   refine Ze .plain rfl (D_load (g:=g7) Try.isAgg26 Try.sizeOf26 k8 x5 fun y9 a9=>?_)
   refine Zo x6 rfl ?_
   obtain ⟨i7,l8,h⟩:=Ge h
   refine Ga (ePtr y9 o0 1) (Zh (α:=Int) Try.underlying26 Try.sizeOf3 rfl a9 rfl l8) rfl ?_
   have z9:=PT_idx a9 l8
   refine Ze .plain rfl (D_load (g:=g7) Try.isAgg3 Try.sizeOf3 rfl z9 fun lB bA=>?_)
   obtain rfl:=Zj.1 bA
   obtain ⟨iA,u9,h⟩:=Ge h
   obtain ⟨i6,t5⟩:=iA
   refine Ze .plain rfl (D_yield (g:=g7) (x:=(o0,i7)) rfl (.cons rfl (.cons rfl .nil)) hRo hfr u9 ⟨_,_,rfl,(Zj.2 rfl),(Zj.2 rfl)⟩ fun rA mB hs hfrY=>?_)
   have x5:=x5.stp hs
   have hfr:=hfrY
   clear hfrY
   refine Ga (.bool (!i6)) (P_not rfl) rfl ?_
   refine Zb (Zd ?_)
   rcases Zt h with ⟨y6,h⟩ | ⟨y6,h⟩
   ·refine E_ct y6 rfl ?_
    refine E_ret (blk_r ?_)
    refine thn_r ?_
    refine thn_r ?_
    refine blk_r ?_
    obtain rfl:=sinj h
    exact end0 rfl rfl (FrY.done hfr)
   ·refine E_cf y6 rfl ?_
    exact Zu (blk_n (Zd (n9 (t5) _ _ ⟨rA,hfr,g8,k8,x5,x6⟩ h)))
  ·rintro l5 aB nB ⟨yA, hfr, m8, n8, r8, v8⟩ h
   refine Za (Zo v8 rfl ?_)
   refine EL_in (.int .i64 ((w64 (o0 - (1:Int))))) rfl rfl rfl rfl ?_
   refine Zg (.int .i64 ((w64 (o0 - (1:Int))))) rfl rfl ?_
   exact Zb (Zd (hk2 (l5,(w64 (o0 - (1:Int)))) _ _ ⟨yA,hfr,m8,n8,r8,rfl⟩ h))
def f179 (x0:Int) (z0:Int) (z1:Int):Option (Bool):=
 Option.bind (α:=Bool) (
  bif (decide (x0 < z0)) then
   some (true)
  else
   some ((decide (x0 > z1)))
  ) fun o0=>
 some (o0)
theorem en179:Enters Try.prog 179:=enters_of Try.func179 (by kernel_rfl) rfl
theorem wk179 {gI:Gh} {wI:World} {x0:Int} {z0:Int} {z1:Int} {pf0:Value} (qf0:PT gI.m wI z0 pf0) {pf1:Value} (qf1:PT gI.m wI z1 pf1) {r:Bool} (h:f179 x0 z0 z1=some r):Fn Try.prog 179 #[.int .i64 (x0),pf0,pf1] gI wI (fun _ _ v=>v=.bool (r)):=by
 unfold f179 at h
 refine fn_of_E Try.func179 rfl (Nat.le_of_ble_eq_true rfl) fun g0 hm hfr=>?_
 have qf0:PT g0.m wI z0 pf0:=hm ▸ qf0
 have qf1:PT g0.m wI z1 pf1:=hm ▸ qf1
 show E _ 13 none _ _ _ _ _
 refine Zf (Za (Zg (.bool false) rfl rfl ?_))
 refine Zb (Zd ?_)
 obtain ⟨o0,hx,h⟩:=Ge h
 refine E_join (fun e w=>∃ (g:Gh) ,Fr gI wI g w∧e 4=.bool (o0)) (fun Q' hQ=>?_) (fun l5 w7 hR=>?_)
 ·replace h := hx
  clear hx
  refine Za (Zn (.int .i64 (x0)) rfl rfl ?_)
  refine Ze .plain rfl (D_load (g:=g0) Try.isAgg3 Try.sizeOf3 rfl qf0 fun v4 r4=>?_)
  obtain rfl:=Zj.1 r4
  refine EL_in (.bool ((decide (x0 < z0)))) rfl rfl rfl rfl ?_
  refine Zn (.bool ((decide (x0 < z0)))) rfl rfl ?_
  rcases Zt h with ⟨hc5,h⟩ | ⟨hc5,h⟩
  ·refine Gc rfl rfl hc5 rfl rfl ?_
   refine Gc rfl rfl hc5 rfl rfl ?_
   refine Gc rfl rfl hc5 rfl rfl ?_
   refine Ga (.bool true) (Zl (b:=(decide (x0 < z0))) rfl (pick_t hc5 rfl)) rfl ?_
   refine Zg (.bool true) rfl rfl ?_
   refine Zb ?_
   obtain rfl:=sinj h
   exact hQ _ _ ⟨g0,hfr,rfl⟩
  ·refine Gb (.int .i64 (x0)) (Zk rfl) rfl rfl hc5 rfl ?_
   refine Ze (.yes2 rfl rfl hc5) rfl (D_load (g:=g0) Try.isAgg3 Try.sizeOf3 rfl qf1 fun v6 r6=>?_)
   obtain rfl:=Zj.1 r6
   refine Gb (.bool ((decide (x0 > z1)))) (P_int rfl rfl rfl) rfl rfl hc5 rfl ?_
   refine Ga (.bool ((decide (x0 > z1)))) (Zl (b:=(decide (x0 < z0))) rfl (pick_f hc5 rfl)) rfl ?_
   refine Zg (.bool ((decide (x0 > z1)))) rfl rfl ?_
   refine Zb ?_
   obtain rfl:=sinj h
   exact hQ _ _ ⟨g0,hfr,rfl⟩
 ·clear hx
  obtain ⟨g7,hfr,u3⟩:=hR
  refine E_ret ?_
  obtain rfl:=sinj h
  exact end1 rfl rfl (show _=.bool (o0) from u3) ⟨_,hfr,rfl⟩
def f186 (x0:Bool):Option (UInt8):=
 jn (σ:=Unit) (fun _=>
  some ((46:UInt8))
  ) fun k2=>
 bif x0 then
  some ((120:UInt8))
 else
  k2 ()
theorem en186:Enters Try.prog 186:=enters_of Try.func186 (by kernel_rfl) rfl
theorem wk186 {gI:Gh} {wI:World} {x0:Bool}  {r:UInt8} (h:f186 x0=some r):Fn Try.prog 186 #[.bool (x0)] gI wI (fun _ _ v=>v=.int .u8 (UInt8.toNat (r))):=by
 unfold f186 at h
 refine fn_of_E Try.func186 rfl (Nat.le_of_ble_eq_true rfl) fun g0 hm hfr=>?_
 show E _ 4 none _ _ _ _ _
 refine Zf (Za (Zg (.int .u8 (UInt8.toNat 0)) rfl rfl ?_))
 refine Zb (Zd (Zq h (fun (s:Unit) e w=>∃ (g:Gh) ,Fr gI wI g w) (fun X2 k2 hk2 h=>?_) ?_))
 ·refine Zf (Za (Zn (.bool (x0)) rfl rfl ?_))
  refine Zb (Zd ?_)
  rcases Zt h with ⟨hc3,h⟩ | ⟨hc3,h⟩
  ·refine E_ct hc3 rfl ?_
   refine Zf (Za (Zg (.int .u8 (UInt8.toNat 120)) rfl rfl ?_))
   refine Zb (Zd (E_ret (thn_r ?_)))
   obtain rfl:=sinj h
   exact end1 rfl rfl (show _=.int .u8 (UInt8.toNat 120) from rfl) ⟨_,hfr,rfl⟩
  ·refine E_cf hc3 rfl ?_
   exact Zu (Zd (hk2 () _ _ ⟨g0,hfr⟩ h))
 ·rintro _ o0 w4 ⟨g4, hfr⟩ h
  refine Zf (Za (Zg (.int .u8 (UInt8.toNat 46)) rfl rfl ?_))
  refine Zb (Zd (E_ret ?_))
  obtain rfl:=sinj h
  exact end1 rfl rfl (show _=.int .u8 (UInt8.toNat 46) from rfl) ⟨_,hfr,rfl⟩
def f187 (x0:TieTieHarness) (x1:Int) (x2:Int):Option (Bool):=
 (idx (((x0).TieHarness).Warps) x2).bind fun y5=>
 (shr64 x1 y5).bind fun y8=>
 some (((bit64 .and y8 (1:Int)) == (1:Int)))
theorem en187:Enters Try.prog 187:=enters_of Try.func187 (by kernel_rfl) rfl
theorem wk187 {gI:Gh} {wI:World} {x0:TieTieHarness} {x1:Int} {x2:Int} {up0:Value} (rp0:RV gI.m wI x0 up0) {r:Bool} (h:f187 x0 x1 x2=some r):Fn Try.prog 187 #[up0,.int .i64 (x1),.int .i64 (x2)] gI wI (fun _ _ v=>v=.bool (r)):=by
 unfold f187 at h
 refine fn_of_E Try.func187 rfl (Nat.le_of_ble_eq_true rfl) fun g0 hm hfr=>?_
 have rp0:RV g0.m wI x0 up0:=hm ▸ rp0
 show E _ 17 none _ _ _ _ _
 refine Zf (Za (Ze .plain rfl (D_box (g:=g0) rfl rp0 fun g1 w1 p1 hs q1=>?_)))
 have hfr:=hfr.ext hs
 refine Zg (.bool false) rfl rfl ?_
 refine Zb (Zd (Zf (Za (Zn (.int .i64 (x1)) rfl rfl ?_))))
 refine Ga (fPtr p1 0) (Zc at_221_0 rfl (PT.ptr q1)) rfl ?_
 have q2:=Zm (part_TieTieHarness_0).1 q1
 refine Ga (fPtr (fPtr p1 0) 1) (Zc at_28_1 rfl (PT.ptr q2)) rfl ?_
 have q3:=Zm (part_TieHarness_1).1 q2
 refine Ze .plain rfl (D_load (g:=g1) Try.isAgg26 Try.sizeOf26 rfl q3 fun v4 r4=>?_)
 refine Zn (.int .i64 (x2)) rfl rfl ?_
 obtain ⟨y5,hy5,h⟩:=Ge h
 refine Ga (ePtr v4 x2 1) (Zh (α:=Int) Try.underlying26 Try.sizeOf3 rfl r4 rfl hy5) rfl ?_
 have q6:=PT_idx r4 hy5
 refine Ze .plain rfl (D_load (g:=g1) Try.isAgg3 Try.sizeOf3 rfl q6 fun v7 r7=>?_)
 obtain rfl:=Zj.1 r7
 obtain ⟨y8,o0,h⟩:=Ge h
 refine Ga (.int .i64 (y8)) (P_int rfl rfl (congrArg (Option.map (Value.int .i64)) o0)) rfl ?_
 refine EL_in (.int .i64 ((bit64 .and y8 (1:Int)))) rfl rfl rfl rfl ?_
 refine EL_in (.bool (((bit64 .and y8 (1:Int)) == (1:Int)))) rfl rfl rfl rfl ?_
 refine Zg (.bool (((bit64 .and y8 (1:Int)) == (1:Int)))) rfl rfl ?_
 refine Zb (Zd (E_ret ?_))
 obtain rfl:=sinj h
 exact end1 rfl rfl (show _=.bool (((bit64 .and y8 (1:Int)) == (1:Int))) from rfl) ⟨_,hfr,rfl⟩
def f224 (x0:FaultFaultLoom) (x1:Zv) (x2:List Int):Option ((List Int)):=
 (idx x2 (x1).Pick).bind fun y5=>
 (shl64 (1:Int) (x1).Hook).bind fun y9=>
 (idx x2 (x1).Pick).bind fun l5=>
 some ((List.set x2 (Int.toNat (x1).Pick) ((bit64 .xor y5 y9))))
theorem en224:Enters Try.prog 224:=enters_of Try.func224 (by kernel_rfl) rfl
theorem wk224 {iI:Nat} {gI:Gh} {wI:World} {x0:FaultFaultLoom} {x1:Zv} {x2:List Int} {up0:Value} (rp0:RV gI.m wI x0 up0) {up1:Value} (rp1:RV gI.m wI x1 up1) {up2:Value} (mp2:OM iI gI wI 3 x2 up2) {up3:Value} {r:(List Int)} (h:f224 x0 x1 x2=some r):FnM Try.prog 224 #[up0,up1,up2,up3] iI gI wI (fun g w v=>v=.tuple #[]∧OM iI g w 3 r up2):=by
 unfold f224 at h
 refine fnM_of_E Try.func224 rfl (Nat.le_of_ble_eq_true rfl) fun g0 hm hfr=>?_
 have u3:=mp2
 replace mp2:=mp2.enter
 rw [← hm] at mp2
 replace hm:g0.m=gI.m:=by rw [hm]
 have rp0:RV g0.m wI x0 up0:=hm ▸ rp0
 have rp1:RV g0.m wI x1 up1:=hm ▸ rp1
 show E _ 18 none _ _ _ _ _
 refine Zf (Za (Ze .plain rfl (D_box (g:=g0) rfl rp0 fun g1 w1 p1 hs q1=>?_)))
 have hfr:=hfr.ext hs
 have rp1:=rp1.ext hs
 have mp2:=mp2.ext hs
 refine Ze .plain rfl (D_box (g:=g1) rfl rp1 fun g2 w2 p2 hs q2=>?_)
 have hfr:=hfr.ext hs
 have mp2:=mp2.ext hs
 refine Zb (Zd ?_)
 have q3:=Zm (part_FaultDamage_1).1 q2
 refine Zs (x:=.tmp 9) Try.isAgg3 Try.sizeOf3 q3 fun v4 r4 t5=>?_
 obtain rfl:=Zj.1 r4
 obtain ⟨y5,hy5,h⟩:=Ge h
 refine L_loadM (x:=.tmp 11) Try.isAgg3 Try.sizeOf3 mp2 hy5 fun v6 r6 x5=>?_
 obtain rfl:=Zj.1 r6
 have q7:=Zm (part_FaultDamage_2).1 q2
 refine Zs (x:=.tmp 13) Try.isAgg3 Try.sizeOf3 q7 fun v8 r8 i6=>?_
 obtain rfl:=Zj.1 r8
 obtain ⟨y9,x6,h⟩:=Ge h
 obtain ⟨l5,o0,h⟩:=Ge h
 refine E_drawL (g:=g2) (n:=10) [] [0,1,2,3,4,5,6,7,8,9] rfl mixed (by kernel_rfl) trivial ?_
 refine Gd up2 rfl rfl (Zk rfl) ?_
 refine Gd (fPtr p2 1) rfl rfl (Zc at_56_1 rfl (PT.ptr q2)) ?_
 refine L_ld (c:=.int .i64 ((x1).Pick)) rfl rfl .plain (fun _ _ h=>h.ch) t5 rfl ?_
 refine Gd (ePtr up2 (x1).Pick 1) rfl rfl (P_indexAddrM (α:=Int) Try.underlying26 Try.sizeOf3 rfl mp2 rfl hy5) ?_
 refine L_ld (c:=.int .i64 (y5)) rfl rfl .plain (fun _ _ h=>⟨h.ch,fun b hb _=>h.below.block b hb⟩) x5 rfl ?_
 refine Gd (fPtr p2 2) rfl rfl (Zc at_56_2 rfl (PT.ptr q2)) ?_
 refine L_ld (c:=.int .i64 ((x1).Hook)) rfl rfl .plain (fun _ _ h=>h.ch) i6 rfl ?_
 refine Gd (.int .i64 (y9)) rfl rfl (P_int rfl rfl (congrArg (Option.map (Value.int .i64)) x6)) ?_
 refine Gd (.int .i64 ((bit64 .xor y5 y9))) rfl rfl (P_int rfl rfl rfl) ?_
 refine Gd (ePtr up2 (x1).Pick 1) rfl rfl (P_indexAddrM (α:=Int) Try.underlying26 Try.sizeOf3 rfl mp2 rfl o0) ?_
 refine L_nl fun y6 i7 hs=>?_
 have hfr:=hfr.ext hs
 have mp2:=mp2.ext hs
 clear hs
 refine Ze .plain rfl (D_storeM (g:=y6) (α:=Int) (a':=((bit64 .xor y5 y9))) Try.sizeOf3 rfl mp2 o0 rfl (Zj.2 rfl) fun m7 g8 hs b28=>?_)
 have hfr:=hfr.stp hs
 refine Zb ?_
 obtain rfl:=sinj h
 exact end0n rfl rfl ⟨_,hfr,rfl,u3.back b28⟩
def f225 (x0:FaultFaultLoom) (x1:Zv) (x2:List Int):Option ((List Int)):=
 lp (σ:=(List Int) × Int) (fun k3 (l5,o0)=>
  bif (decide (o0 < ((x2).length : Int))) then
   Option.bind (α:=(List Int)) (
    (idx l5 o0).bind fun y70=>
    (shl64 (1:Int) (x1).Hook).bind fun y74=>
    (idx l5 o0).bind fun nB=>
    bif (!(x1).Up) then
     (idx ((List.set l5 (Int.toNat o0) ((bit64 .or y70 y74)))) o0).bind fun g8=>
     (shl64 (1:Int) (x1).Hook).bind fun x6=>
     (idx ((List.set l5 (Int.toNat o0) ((bit64 .or y70 y74)))) o0).bind fun bA=>
     some ((List.set ((List.set l5 (Int.toNat o0) ((bit64 .or y70 y74)))) (Int.toNat o0) ((bit64 .xor g8 x6))))
    else
     some ((List.set l5 (Int.toNat o0) ((bit64 .or y70 y74))))
    ) fun x5=>
   k3 (x5,(w64 (o0 + (1:Int))))
  else
   some (l5)
  ) big (x2,(0:Int))
theorem en225:Enters Try.prog 225:=enters_of Try.func225 (by kernel_rfl) rfl
theorem wk225 {iI:Nat} {gI:Gh} {wI:World} {x0:FaultFaultLoom} {x1:Zv} {x2:List Int} {up0:Value} (rp0:RV gI.m wI x0 up0) {up1:Value} (rp1:RV gI.m wI x1 up1) {up2:Value} (mp2:OM iI gI wI 3 x2 up2) {up3:Value} {r:(List Int)} (h:f225 x0 x1 x2=some r):FnM Try.prog 225 #[up0,up1,up2,up3] iI gI wI (fun g w v=>v=.tuple #[]∧OM iI g w 3 r up2):=by
 unfold f225 at h
 refine fnM_of_E Try.func225 rfl (Nat.le_of_ble_eq_true rfl) fun g0 hm hfr=>?_
 have u9:=mp2
 replace mp2:=mp2.enter
 rw [← hm] at mp2
 replace hm:g0.m=gI.m:=by rw [hm]
 have rp0:RV g0.m wI x0 up0:=hm ▸ rp0
 have rp1:RV g0.m wI x1 up1:=hm ▸ rp1
 show E _ 36 none _ _ _ _ _
 refine Zf (Za (Ze .plain rfl (D_box (g:=g0) rfl rp0 fun g1 w1 p1 hs q1=>?_)))
 have hfr:=hfr.ext hs
 have rp1:=rp1.ext hs
 have mp2:=mp2.ext hs
 refine Ze .plain rfl (D_box (g:=g1) rfl rp1 fun g2 w2 p2 hs q2=>?_)
 have hfr:=hfr.ext hs
 have mp2:=mp2.ext hs
 refine Zb (Zd (Zf (Za (Zn up2 rfl rfl ?_))))
 refine Ga (.int .i64 ((x2).length:Int)) (P_lenM Try.underlying26 rfl mp2) rfl ?_
 refine Zn (.int .i64 (0)) rfl rfl ?_
 refine Zb (Zd (Zr ?_))
 refine E_lp h (fun (s:(List Int) × Int) e w=>∃ (g:Gh) ,FrM iI gI wI g w∧e 2=up2∧OM 1 g w 3 (s.1:List Int) up2∧e 5=p2∧PT g.m w (x1:Zv) p2∧e 10=.int .i64 (((x2).length:Int))∧e 11=.int .i64 (s.2)) ⟨g2,hfr,rfl,mp2,rfl,q2,rfl,rfl⟩ (fun X3 k3 hk3=>?_)
 rintro ⟨l5,o0⟩ cD w4 ⟨g4,hfr,i7,t5,y6,u3,m7,i6⟩ h
 refine Zf (Za (EL_in (.bool ((decide (o0 < ((x2).length:Int))))) i6 m7 rfl rfl ?_))
 refine Zb (Zd (Zf ?_))
 rcases Zt h with ⟨hc5,h⟩ | ⟨hc5,h⟩
 ·refine E_ct hc5 rfl ?_
  refine Zu (Zd ?_)
  obtain ⟨x5,hx,h⟩:=Ge h
  refine E_join (fun e w=>∃ (g:Gh) ,FrM iI gI wI g w∧e 2=up2∧OM 1 g w 3 (x5:List Int) up2∧e 5=p2∧PT g.m w (x1:Zv) p2∧e 10=.int .i64 (((x2).length:Int))∧e 11=.int .i64 (o0)) (fun Q' hQ=>?_) (fun rC uC hR=>?_)
  ·replace h := hx
   clear hx
   refine Zr ?_
   refine Zf (Za (Zo i6 rfl ?_))
   refine Zg (.int .i64 (o0)) rfl rfl ?_
   refine Zb (Zd (Zf ?_))
   obtain ⟨y70,r8,h⟩:=Ge h
   refine L_loadM (x:=.tmp 16) Try.isAgg3 Try.sizeOf3 t5 r8 fun eD oB iA=>?_
   obtain rfl:=Zj.1 oB
   have tB:=Zm (part_FaultDamage_2).1 u3
   refine Zs (x:=.tmp 18) Try.isAgg3 Try.sizeOf3 tB fun gD vB rA=>?_
   obtain rfl:=Zj.1 vB
   obtain ⟨y74,yA,h⟩:=Ge h
   obtain ⟨nB,v8,h⟩:=Ge h
   refine E_drawL (g:=g4) (n:=9) [] [0,1,2,3,4,5,6,7,8] rfl mixed (by kernel_rfl) trivial ?_
   refine Gd up2 rfl rfl (Zk i7) ?_
   refine Gd (.int .i64 (o0)) rfl rfl (Zk rfl) ?_
   refine Gd (ePtr up2 o0 1) rfl rfl (P_indexAddrM (α:=Int) Try.underlying26 Try.sizeOf3 rfl t5 rfl r8) ?_
   refine L_ld (c:=.int .i64 (y70)) rfl rfl .plain (fun _ _ h=>⟨h.ch,fun b hb _=>h.below.block b hb⟩) iA rfl ?_
   refine Gd (fPtr p2 2) rfl rfl (Zc at_56_2 y6 (PT.ptr u3)) ?_
   refine L_ld (c:=.int .i64 ((x1).Hook)) rfl rfl .plain (fun _ _ h=>h.ch) rA rfl ?_
   refine Gd (.int .i64 (y74)) rfl rfl (P_int rfl rfl (congrArg (Option.map (Value.int .i64)) yA)) ?_
   refine Gd (.int .i64 ((bit64 .or y70 y74))) rfl rfl (P_int rfl rfl rfl) ?_
   refine Gd (ePtr up2 o0 1) rfl rfl (P_indexAddrM (α:=Int) Try.underlying26 Try.sizeOf3 rfl t5 rfl v8) ?_
   refine L_nl fun yB iD hs=>?_
   have hfr:=hfr.ext hs
   have t5:=t5.ext hs
   have u3:=u3.ext hs
   clear hs
   refine Ze .plain rfl (D_storeM (g:=yB) (α:=Int) (a':=((bit64 .or y70 y74))) Try.sizeOf3 rfl t5 v8 rfl (Zj.2 rfl) fun x8 jD hs b93=>?_)
   have hfr:=hfr.stp hs
   have u3:=u3.stp hs
   refine Zb (Zd (Zf (Za (Ga (fPtr p2 4) (Zc at_56_4 y6 (PT.ptr u3)) rfl ?_))))
   have zB:=Zm (part_FaultDamage_4).1 u3
   refine Ze .plain rfl (D_load (g:=x8) Try.isAgg4 Try.sizeOf4 rfl zB fun lD cC=>?_)
   obtain rfl:=RV_bool.1 cC
   refine Ga (.bool (!(x1).Up)) (P_not rfl) rfl ?_
   refine Zb (Zd ?_)
   rcases Zt h with ⟨k8,h⟩ | ⟨k8,h⟩
   ·refine E_ct k8 rfl ?_
    obtain ⟨g8,a9,h⟩:=Ge h
    refine L_loadM (x:=.tmp 28) Try.isAgg3 Try.sizeOf3 b93 a9 fun nD mC aB=>?_
    obtain rfl:=Zj.1 mC
    have qC:=Zm (part_FaultDamage_2).1 u3
    refine Zs (x:=.tmp 30) Try.isAgg3 Try.sizeOf3 qC fun vC dB y9=>?_
    obtain rfl:=Zj.1 dB
    obtain ⟨x6,z9,h⟩:=Ge h
    obtain ⟨bA,l8,h⟩:=Ge h
    refine E_drawL (g:=x8) (n:=9) [] [0,1,2,3,4,5,6,7,8] rfl mixed (by kernel_rfl) trivial ?_
    refine Gd up2 rfl rfl (Zk i7) ?_
    refine Gd (.int .i64 (o0)) rfl rfl (Zk rfl) ?_
    refine Gd (ePtr up2 o0 1) rfl rfl (P_indexAddrM (α:=Int) Try.underlying26 Try.sizeOf3 rfl b93 rfl a9) ?_
    refine L_ld (c:=.int .i64 (g8)) rfl rfl .plain (fun _ _ h=>⟨h.ch,fun b hb _=>h.below.block b hb⟩) aB rfl ?_
    refine Gd (fPtr p2 2) rfl rfl (Zc at_56_2 y6 (PT.ptr u3)) ?_
    refine L_ld (c:=.int .i64 ((x1).Hook)) rfl rfl .plain (fun _ _ h=>h.ch) y9 rfl ?_
    refine Gd (.int .i64 (x6)) rfl rfl (P_int rfl rfl (congrArg (Option.map (Value.int .i64)) z9)) ?_
    refine Gd (.int .i64 ((bit64 .xor g8 x6))) rfl rfl (P_int rfl rfl rfl) ?_
    refine Gd (ePtr up2 o0 1) rfl rfl (P_indexAddrM (α:=Int) Try.underlying26 Try.sizeOf3 rfl b93 rfl l8) ?_
    refine L_nl fun iB aD hs=>?_
    have hfr:=hfr.ext hs
    have b93:=b93.ext hs
    have u3:=u3.ext hs
    clear hs
    refine Ze .plain rfl (D_storeM (g:=iB) (α:=Int) (a':=((bit64 .xor g8 x6))) Try.sizeOf3 rfl b93 l8 rfl (Zj.2 rfl) fun lB bD hs b132=>?_)
    have hfr:=hfr.stp hs
    have u3:=u3.stp hs
    refine Zb (blk_n ?_)
    obtain rfl:=sinj h
    exact hQ _ _ ⟨lB,hfr,i7,b132,y6,u3,m7,i6⟩
   ·refine E_cf k8 rfl ?_
    refine Zu (blk_n ?_)
    obtain rfl:=sinj h
    exact hQ _ _ ⟨x8,hfr,i7,b93,y6,u3,m7,i6⟩
  ·clear hx
   obtain ⟨mB,hfr,d9,k9,l9,n9,m8,n8⟩:=hR
   refine Za (EL_in (.int .i64 ((w64 (o0 + (1:Int))))) n8 rfl rfl rfl ?_)
   refine Zn (.int .i64 ((w64 (o0 + (1:Int))))) rfl rfl ?_
   exact Zb (Zd (hk3 (x5,(w64 (o0 + (1:Int)))) _ _ ⟨mB,hfr,d9,k9,l9,n9,m8,rfl⟩ h))
 ·refine E_cf hc5 rfl ?_
  refine E_exit ?_
  refine thn_e ?_
  refine thn_e ?_
  refine blk_hit ?_
  obtain rfl:=sinj h
  exact end0n rfl rfl ⟨_,hfr,rfl,u9.back t5⟩
def f226 (x0:FaultFaultLoom) (x1:Zv) (x2:List Int):Option ((List Int)):=
 Option.bind (α:=Int) (
  lp (σ:=Int × Int) (fun aB (y6,o0)=>
   bif (decide (o0 < (((x0).FaultLoom).Design).Hooks)) then
    Option.bind (α:=Int) (
     (shl64 y6 (1:Int)).bind fun g8=>
     (idx x2 (x1).Pick).bind fun dB=>
     (shr64 dB o0).bind fun x6=>
     some ((bit64 .or g8 (bit64 .and x6 (1:Int))))
     ) fun u3=>
    aB (u3,(w64 (o0 + (1:Int))))
   else
    some (y6)
   ) big ((0:Int),(0:Int))
  ) fun l5=>
 (idx x2 (x1).Pick).bind fun vB=>
 some ((List.set x2 (Int.toNat (x1).Pick) l5))
theorem en226:Enters Try.prog 226:=enters_of Try.func226 (by kernel_rfl) rfl
theorem wk226 {iI:Nat} {gI:Gh} {wI:World} {x0:FaultFaultLoom} {x1:Zv} {x2:List Int} {up0:Value} (rp0:RV gI.m wI x0 up0) {up1:Value} (rp1:RV gI.m wI x1 up1) {up2:Value} (mp2:OM iI gI wI 3 x2 up2) {up3:Value} {r:(List Int)} (h:f226 x0 x1 x2=some r):FnM Try.prog 226 #[up0,up1,up2,up3] iI gI wI (fun g w v=>v=.tuple #[]∧OM iI g w 3 r up2):=by
 unfold f226 at h
 refine fnM_of_E Try.func226 rfl (Nat.le_of_ble_eq_true rfl) fun g0 hm hfr=>?_
 have l9:=mp2
 replace mp2:=mp2.enter
 rw [← hm] at mp2
 replace hm:g0.m=gI.m:=by rw [hm]
 have rp0:RV g0.m wI x0 up0:=hm ▸ rp0
 have rp1:RV g0.m wI x1 up1:=hm ▸ rp1
 show E _ 34 none _ _ _ _ _
 refine Zf (Za (Ze .plain rfl (D_box (g:=g0) rfl rp0 fun g1 w1 p1 hs q1=>?_)))
 have hfr:=hfr.ext hs
 have rp1:=rp1.ext hs
 have mp2:=mp2.ext hs
 refine Ze .plain rfl (D_box (g:=g1) rfl rp1 fun g2 w2 p2 hs q2=>?_)
 have hfr:=hfr.ext hs
 have mp2:=mp2.ext hs
 have q1:=q1.ext hs
 refine Zb (Zd (Zf (Za (Zg (.int .i64 (0)) rfl rfl ?_))))
 refine Zb (Zd ?_)
 obtain ⟨l5,hx,h⟩:=Ge h
 refine E_join (fun e w=>∃ (g:Gh) ,FrM iI gI wI g w∧e 2=up2∧OM 1 g w 3 (x2:List Int) up2∧e 5=p2∧PT g.m w (x1:Zv) p2∧e 8=.int .i64 (l5)) (fun Q' hQ=>?_) (fun aD eD hR=>?_)
 ·replace h := hx
  clear hx
  refine Zf (Za (Ga (fPtr p1 0) (Zc at_170_0 rfl (PT.ptr q1)) rfl ?_))
  have iB:=Zm (part_FaultFaultLoom_0).1 q1
  refine Ga (fPtr (fPtr p1 0) 2) (Zc at_32_1 rfl (PT.ptr iB)) rfl ?_
  have lB:=Zm (part_FaultLoom_1).1 iB
  refine Ga (fPtr (fPtr (fPtr p1 0) 2) 0) (Zc at_30_0 rfl (PT.ptr lB)) rfl ?_
  have yB:=Zm (part_Design_0).1 lB
  refine Ze .plain rfl (D_load (g:=g2) Try.isAgg3 Try.sizeOf3 rfl yB fun gD zB=>?_)
  obtain rfl:=Zj.1 zB
  refine Zn (.int .i64 (0)) rfl rfl ?_
  refine Zb (Zd (Zr ?_))
  refine E_lp h (fun (s:Int × Int) e w=>∃ (g:Gh) ,FrM iI gI wI g w∧e 2=up2∧OM 1 g w 3 (x2:List Int) up2∧e 5=p2∧PT g.m w (x1:Zv) p2∧e 8=.int .i64 (s.1)∧e 13=.int .i64 ((((x0).FaultLoom).Design).Hooks)∧e 14=.int .i64 (s.2)) ⟨g2,hfr,rfl,mp2,rfl,q2,rfl,rfl,rfl⟩ (fun X27 aB nB=>?_)
  rintro ⟨y6,o0⟩ bD iD ⟨m8,hfr,i7,t5,m7,x5,n8,k8,i6⟩ h
  refine Zf (Za (Ga (.bool ((decide (o0 < (((x0).FaultLoom).Design).Hooks)))) (P_int i6 k8 rfl) rfl ?_))
  refine Zb (Zd (Zf ?_))
  rcases Zt h with ⟨l8,h⟩ | ⟨l8,h⟩
  ·refine E_ct l8 rfl ?_
   refine Zu (Zd ?_)
   obtain ⟨u3,hx,h⟩:=Ge h
   refine E_join (fun e w=>∃ (g:Gh) ,FrM iI gI wI g w∧e 2=up2∧OM 1 g w 3 (x2:List Int) up2∧e 5=p2∧PT g.m w (x1:Zv) p2∧e 8=.int .i64 (u3)∧e 13=.int .i64 ((((x0).FaultLoom).Design).Hooks)∧e 14=.int .i64 (o0)) (fun Q' hQ=>?_) (fun cD jD hR=>?_)
   ·replace h := hx
    clear hx
    refine Zr ?_
    refine Zf (Za (Zo i6 rfl ?_))
    refine Zg (.int .i64 (o0)) rfl rfl ?_
    refine Zb (Zd (Za (Zo n8 rfl ?_)))
    obtain ⟨g8,oB,h⟩:=Ge h
    refine Ga (.int .i64 (g8)) (P_shlu rfl rfl oB) rfl ?_
    refine Zo i7 rfl ?_
    refine Ga (fPtr p2 1) (Zc at_56_1 m7 (PT.ptr x5)) rfl ?_
    have cC:=Zm (part_FaultDamage_1).1 x5
    refine Ze .plain rfl (D_load (g:=m8) Try.isAgg3 Try.sizeOf3 rfl cC fun lD mC=>?_)
    obtain rfl:=Zj.1 mC
    obtain ⟨dB,x8,h⟩:=Ge h
    refine Ga (ePtr up2 (x1).Pick 1) (P_indexAddrM (α:=Int) Try.underlying26 Try.sizeOf3 rfl t5 rfl x8) rfl ?_
    refine Ze .plain rfl (D_loadM (g:=m8) Try.isAgg3 Try.sizeOf3 rfl t5 x8 fun nD qC=>?_)
    obtain rfl:=Zj.1 qC
    refine Zn (.int .i64 (o0)) rfl rfl ?_
    obtain ⟨x6,tB,h⟩:=Ge h
    refine Ga (.int .i64 (x6)) (P_int rfl rfl (congrArg (Option.map (Value.int .i64)) tB)) rfl ?_
    refine EL_in (.int .i64 ((bit64 .and x6 (1:Int)))) rfl rfl rfl rfl ?_
    refine EL_in (.int .i64 ((bit64 .or g8 (bit64 .and x6 (1:Int))))) rfl rfl rfl rfl ?_
    refine Zg (.int .i64 ((bit64 .or g8 (bit64 .and x6 (1:Int))))) rfl rfl ?_
    refine Zb (blk_n ?_)
    obtain rfl:=sinj h
    exact hQ _ _ ⟨m8,hfr,i7,t5,m7,x5,rfl,k8,i6⟩
   ·clear hx
    obtain ⟨rC,hfr,n9,u9,y9,z9,bA,a9,d9⟩:=hR
    refine Za (EL_in (.int .i64 ((w64 (o0 + (1:Int))))) d9 rfl rfl rfl ?_)
    refine Zn (.int .i64 ((w64 (o0 + (1:Int))))) rfl rfl ?_
    exact Zb (Zd (nB (u3,(w64 (o0 + (1:Int)))) _ _ ⟨rC,hfr,n9,u9,y9,z9,bA,a9,rfl⟩ h))
  ·refine E_cf l8 rfl ?_
   refine E_exit ?_
   refine thn_e ?_
   refine thn_e ?_
   refine blk_hit ?_
   obtain rfl:=sinj h
   exact hQ _ _ ⟨m8,hfr,i7,t5,m7,x5,n8⟩
 ·clear hx
  obtain ⟨mB,hfr,iA,r8,rA,v8,yA⟩:=hR
  refine Za (Zo iA rfl ?_)
  refine Ga (fPtr p2 1) (Zc at_56_1 rA (PT.ptr v8)) rfl ?_
  have uC:=Zm (part_FaultDamage_1).1 v8
  refine Ze .plain rfl (D_load (g:=mB) Try.isAgg3 Try.sizeOf3 rfl uC fun oD vC=>?_)
  obtain rfl:=Zj.1 vC
  refine Zo yA rfl ?_
  obtain ⟨vB,k9,h⟩:=Ge h
  refine Ga (ePtr up2 (x1).Pick 1) (P_indexAddrM (α:=Int) Try.underlying26 Try.sizeOf3 rfl r8 rfl k9) rfl ?_
  refine Ze .plain rfl (D_storeM (g:=mB) (α:=Int) (a':=l5) Try.sizeOf3 rfl r8 k9 rfl (Zj.2 rfl) fun sD tD hs b47=>?_)
  have hfr:=hfr.stp hs
  refine Zb ?_
  obtain rfl:=sinj h
  exact end0n rfl rfl ⟨_,hfr,rfl,l9.back b47⟩
def f227 (x0:FaultFaultLoom) (x1:Zv) (x2:List Int):Option ((List Int)):=
 (rem64 (w64 ((x1).Pick + (1:Int))) ((x2).length:Int)).bind fun y5=>
 (idx x2 (x1).Pick).bind fun y8=>
 (idx x2 y5).bind fun o0=>
 (idx x2 (x1).Pick).bind fun i7=>
 (idx ((List.set x2 (Int.toNat (x1).Pick) o0)) y5).bind fun m7=>
 some ((List.set ((List.set x2 (Int.toNat (x1).Pick) o0)) (Int.toNat y5) y8))
theorem en227:Enters Try.prog 227:=enters_of Try.func227 (by kernel_rfl) rfl
theorem wk227 {iI:Nat} {gI:Gh} {wI:World} {x0:FaultFaultLoom} {x1:Zv} {x2:List Int} {up0:Value} (rp0:RV gI.m wI x0 up0) {up1:Value} (rp1:RV gI.m wI x1 up1) {up2:Value} (mp2:OM iI gI wI 3 x2 up2) {up3:Value} {r:(List Int)} (h:f227 x0 x1 x2=some r):FnM Try.prog 227 #[up0,up1,up2,up3] iI gI wI (fun g w v=>v=.tuple #[]∧OM iI g w 3 r up2):=by
 unfold f227 at h
 refine fnM_of_E Try.func227 rfl (Nat.le_of_ble_eq_true rfl) fun g0 hm hfr=>?_
 have x5:=mp2
 replace mp2:=mp2.enter
 rw [← hm] at mp2
 replace hm:g0.m=gI.m:=by rw [hm]
 have rp0:RV g0.m wI x0 up0:=hm ▸ rp0
 have rp1:RV g0.m wI x1 up1:=hm ▸ rp1
 show E _ 35 none _ _ _ _ _
 refine Zf (Za (Ze .plain rfl (D_box (g:=g0) rfl rp0 fun g1 w1 p1 hs q1=>?_)))
 have hfr:=hfr.ext hs
 have rp1:=rp1.ext hs
 have mp2:=mp2.ext hs
 refine Ze .plain rfl (D_box (g:=g1) rfl rp1 fun g2 w2 p2 hs q2=>?_)
 have hfr:=hfr.ext hs
 have mp2:=mp2.ext hs
 refine Zb (Zd (Zf (Za (Ga (fPtr p2 1) (Zc at_56_1 rfl (PT.ptr q2)) rfl ?_))))
 have q3:=Zm (part_FaultDamage_1).1 q2
 refine Ze .plain rfl (D_load (g:=g2) Try.isAgg3 Try.sizeOf3 rfl q3 fun v4 r4=>?_)
 obtain rfl:=Zj.1 r4
 refine EL_in (.int .i64 ((w64 ((x1).Pick + (1:Int))))) rfl rfl rfl rfl ?_
 refine Zn up2 rfl rfl ?_
 refine Ga (.int .i64 ((x2).length:Int)) (P_lenM Try.underlying26 rfl mp2) rfl ?_
 obtain ⟨y5,hy5,h⟩:=Ge h
 refine Ga (.int .i64 (y5)) (P_int rfl rfl (congrArg (Option.map (Value.int .i64)) hy5)) rfl ?_
 refine Zg (.int .i64 (y5)) rfl rfl ?_
 refine Zb (Zd (Zf ?_))
 have q6:=Zm (part_FaultDamage_1).1 q2
 refine Zs (x:=.tmp 18) Try.isAgg3 Try.sizeOf3 q6 fun v7 r7 hl7=>?_
 obtain rfl:=Zj.1 r7
 obtain ⟨y8,i6,h⟩:=Ge h
 refine L_loadM (x:=.tmp 20) Try.isAgg3 Try.sizeOf3 mp2 i6 fun v9 r9 g8=>?_
 obtain rfl:=Zj.1 r9
 obtain ⟨o0,u3,h⟩:=Ge h
 refine L_loadM (x:=.tmp 24) Try.isAgg3 Try.sizeOf3 mp2 u3 fun r8 k8 y6=>?_
 obtain rfl:=Zj.1 k8
 refine E_drawL (g:=g2) (n:=11) [] [0,1,2,3,4,5,6,7,8,9,10] rfl mixed (by kernel_rfl) trivial ?_
 refine Gd up2 rfl rfl (Zk rfl) ?_
 refine Gd (fPtr p2 1) rfl rfl (Zc at_56_1 rfl (PT.ptr q2)) ?_
 refine L_ld (c:=.int .i64 ((x1).Pick)) rfl rfl .plain (fun _ _ h=>h.ch) hl7 rfl ?_
 refine Gd (ePtr up2 (x1).Pick 1) rfl rfl (P_indexAddrM (α:=Int) Try.underlying26 Try.sizeOf3 rfl mp2 rfl i6) ?_
 refine L_ld (c:=.int .i64 (y8)) rfl rfl .plain (fun _ _ h=>⟨h.ch,fun b hb _=>h.below.block b hb⟩) g8 rfl ?_
 refine Gd up2 rfl rfl (Zk rfl) ?_
 refine Gd (.int .i64 (y5)) rfl rfl (Zk rfl) ?_
 refine Gd (ePtr up2 y5 1) rfl rfl (P_indexAddrM (α:=Int) Try.underlying26 Try.sizeOf3 rfl mp2 rfl u3) ?_
 refine L_ld (c:=.int .i64 (o0)) rfl rfl .plain (fun _ _ h=>⟨h.ch,fun b hb _=>h.below.block b hb⟩) y6 rfl ?_
 refine Gd (.int .i64 (y8)) rfl rfl (P_assign rfl) ?_
 refine Gd (.int .i64 (o0)) rfl rfl (P_assign rfl) ?_
 refine L_nl fun x6 v8 hs=>?_
 have hfr:=hfr.ext hs
 have mp2:=mp2.ext hs
 have q2:=q2.ext hs
 clear hs
 refine Zb (Zd (Zf (Za (Zn up2 rfl rfl ?_))))
 refine Ga (fPtr p2 1) (Zc at_56_1 rfl (PT.ptr q2)) rfl ?_
 have l8:=Zm (part_FaultDamage_1).1 q2
 refine Ze .plain rfl (D_load (g:=x6) Try.isAgg3 Try.sizeOf3 rfl l8 fun x8 m8=>?_)
 obtain rfl:=Zj.1 m8
 refine Zn (.int .i64 (o0)) rfl rfl ?_
 obtain ⟨i7,l5,h⟩:=Ge h
 refine Ga (ePtr up2 (x1).Pick 1) (P_indexAddrM (α:=Int) Try.underlying26 Try.sizeOf3 rfl mp2 rfl l5) rfl ?_
 refine Ze .plain rfl (D_storeM (g:=x6) (α:=Int) (a':=o0) Try.sizeOf3 rfl mp2 l5 rfl (Zj.2 rfl) fun n8 a9 hs b40=>?_)
 have hfr:=hfr.stp hs
 refine Zb (Zd (Za (Zn up2 rfl rfl ?_)))
 refine Zn (.int .i64 (y5)) rfl rfl ?_
 refine Zn (.int .i64 (y8)) rfl rfl ?_
 obtain ⟨m7,t5,h⟩:=Ge h
 refine Ga (ePtr up2 y5 1) (P_indexAddrM (α:=Int) Try.underlying26 Try.sizeOf3 rfl b40 rfl t5) rfl ?_
 refine Ze .plain rfl (D_storeM (g:=n8) (α:=Int) (a':=y8) Try.sizeOf3 rfl b40 t5 rfl (Zj.2 rfl) fun d9 k9 hs b42=>?_)
 have hfr:=hfr.stp hs
 refine Zb ?_
 obtain rfl:=sinj h
 exact end0n rfl rfl ⟨_,hfr,rfl,x5.back b42⟩
def f228 (x0:FaultFaultLoom) (x1:Zv) (x3:List (Int × Bool)):Option ((List (Int × Bool))):=
 some ((mset x3 ((x1).Warp) true))
theorem en228:Enters Try.prog 228:=enters_of Try.func228 (by kernel_rfl) rfl
theorem wk228 {iI:Nat} {gI:Gh} {wI:World} {x0:FaultFaultLoom} {x1:Zv} {x3:List (Int × Bool)} {up0:Value} (rp0:RV gI.m wI x0 up0) {up1:Value} (rp1:RV gI.m wI x1 up1) {up2:Value} {up3:Value} (mp3:MP (Value.int .i64) iI gI wI x3 up3) {r:(List (Int × Bool))} (h:f228 x0 x1 x3=some r):FnM Try.prog 228 #[up0,up1,up2,up3] iI gI wI (fun g w v=>v=.tuple #[]∧MP (Value.int .i64) iI g w r up3):=by
 unfold f228 at h
 refine fnM_of_E Try.func228 rfl (Nat.le_of_ble_eq_true rfl) fun g0 hm hfr=>?_
 have o0:=mp3
 replace mp3:=mp3.enter
 rw [← hm] at mp3
 replace hm:g0.m=gI.m:=by rw [hm]
 have rp0:RV g0.m wI x0 up0:=hm ▸ rp0
 have rp1:RV g0.m wI x1 up1:=hm ▸ rp1
 show E _ 11 none _ _ _ _ _
 refine Zf (Za (Ze .plain rfl (D_box (g:=g0) rfl rp0 fun g1 w1 p1 hs q1=>?_)))
 have hfr:=hfr.ext hs
 have rp1:=rp1.ext hs
 have mp3:=mp3.ext hs
 refine Ze .plain rfl (D_box (g:=g1) rfl rp1 fun g2 w2 p2 hs q2=>?_)
 have hfr:=hfr.ext hs
 have mp3:=mp3.ext hs
 refine Zb (Zd (Za (Zn up3 rfl rfl ?_)))
 refine Ga (fPtr p2 3) (Zc at_56_3 rfl (PT.ptr q2)) rfl ?_
 have q3:=Zm (part_FaultDamage_3).1 q2
 refine Ze .plain rfl (D_load (g:=g2) Try.isAgg3 Try.sizeOf3 rfl q3 fun v4 r4=>?_)
 obtain rfl:=Zj.1 r4
 refine Ze .plain rfl (D_mapUpdate (g:=g2) Try.underlying203 key_3 rfl mp3 rfl rfl (RV_bool.2 rfl) fun g5 w5 hs m5=>?_)
 have hfr:=hfr.stp hs
 refine Zb ?_
 obtain rfl:=sinj h
 exact end0n rfl rfl ⟨_,hfr,rfl,o0.back m5⟩
def fvF (f:Nat):Fv:=⟨.func (.func f) #[] #[],rfl⟩
def fv0:Fv:=⟨.nilFunc,rfl⟩
def chgM:List (Int × Fv):=[(1,fvF 224),(2,fvF 225),(3,fvF 226),(4,fvF 227),(5,fvF 228)]
def fchg (k:Int) (l:FaultFaultLoom) (d:Zv) (rows:List Int) (br:List (Int × Bool)):Option (List Int × List (Int × Bool)):=
 if k=1 then (f224 l d rows).map (fun r=>(r,br)) else if k=2 then (f225 l d rows).map (fun r=>(r,br)) else if k=3 then (f226 l d rows).map (fun r=>(r,br)) else if k=4 then (f227 l d rows).map (fun r=>(r,br))
 else if k=5 then (f228 l d br).map (fun b=>(rows,b)) else none
theorem en149:Enters Try.prog 149:=enters_of Try.func149 (by kernel_rfl) rfl
theorem key_54:KeyLaw Try.prog 54 (Value.int .i64):=keyLaw_int Try.underlying54
theorem wk149 {i:Nat} {gI:Gh} {wI:World}:FnG Try.prog 149 #[] gI wI (fun g w v=>MP (Value.int .i64) i g w chgM v):=by
 refine fnG_of_E Try.func149 rfl (Nat.le_of_ble_eq_true rfl) fun g0 hm hfr=>?_
 show E _ 3 none _ _ _ _ _
 refine Zf (Za (Zg (.map none) rfl rfl (Zb (Zd ?_))))
 refine Zf (Za (Ze .plain rfl (D_makeMap (g:=g0) (Value.int .i64) Fv 5 fun g1 w1 v1 hs1 m1=>?_)))
 refine Ze .plain rfl (D_insert (v:=fvF 224) Try.underlying290 key_54 rfl m1 rfl rfl (RV_fv.2 rfl) fun g2 w2 hs2 m2=>?_)
 refine Ze .plain rfl (D_insert (v:=fvF 225) Try.underlying290 key_54 rfl m2 rfl rfl (RV_fv.2 rfl) fun g3 w3 hs3 m3=>?_)
 refine Ze .plain rfl (D_insert (v:=fvF 226) Try.underlying290 key_54 rfl m3 rfl rfl (RV_fv.2 rfl) fun g4 w4 hs4 m4=>?_)
 refine Ze .plain rfl (D_insert (v:=fvF 227) Try.underlying290 key_54 rfl m4 rfl rfl (RV_fv.2 rfl) fun g5 w5 hs5 m5=>?_)
 refine Ze .plain rfl (D_insert (v:=fvF 228) Try.underlying290 key_54 rfl m5 rfl rfl (RV_fv.2 rfl) fun g6 w6 hs6 m6=>?_)
 refine Zn v1 rfl rfl ?_
 refine Zg v1 rfl rfl (Zb (Zd ?_))
 have hfr:=(((((hfr.stp hs1).stp hs2).stp hs3).stp hs4).stp hs5).stp hs6
 obtain ⟨g',hx,hmp⟩:=MP.hand (i:=i) hfr m6
 exact E_ret (end1 rfl rfl (show _=v1 from rfl) ⟨g',hx,hmp⟩)
theorem D_chg {e : Env} {g : Gh} {w : World} {K : Value → World → Prop} {c x1 x2 x3 x4 : Operand} {ats : Array TypeId} {k : Int} {l : FaultFaultLoom} {d : Zv} {rows rows' : List Int} {br br' : List (Int × Bool)} {i j : Nat} {lv dv rv bv : Value}
  (hf:fchg k l d rows br=some (rows',br')) (hc:ev e c=((mget chgM k).getD fv0).v) (h1:ev e x1=lv) (h2:ev e x2=dv) (h3:ev e x3=rv) (h4:ev e x4=bv) (r1:RV g.m w l lv) (r2:RV g.m w d dv) (hom:OM i g w 3 rows rv) (hmp:MP (Value.int .i64) j g w br bv) (hij:Nat.beq i j=false) (hji:Nat.beq j i=false)
  (h:∀ g1 w1 g' w' v,Stp i g w g1 w1→Stp j g1 w1 g' w'→OM i g' w' 3 rows' rv→MP (Value.int .i64) j g' w' br' bv→K v w'):Doe Try.prog (.call { callee:=.value c,args:=#[x1,x2,x3,x4],argTypes:=ats }) e w K:=by
 unfold fchg at hf
 have ha:Args e [x1,x2,x3,x4] [lv,dv,rv,bv]:=.cons h1 (.cons h2 (.cons h3 (.cons h4 .nil)))
 have one : ∀ (f : Nat) (fF : FaultFaultLoom → Zv → List Int → Option (List Int)), ev e c = .func (.func f) #[] #[] → Enters Try.prog f → (fF l d rows).map (fun r => (r, br)) = some (rows', br') →
   (∀ r,fF l d rows=some r→FnM Try.prog f #[lv,dv,rv,bv] i g w (fun g w v=>v=.tuple #[]∧OM i g w 3 r rv))→Doe Try.prog (.call { callee:=.value c,args:=#[x1,x2,x3,x4],argTypes:=ats }) e w K:=by
  intro f fF hcf hen hmap hw
  obtain ⟨r,hr,he⟩:=Option.map_eq_some_iff.1 hmap
  obtain ⟨rfl,rfl⟩:r=rows'∧br=br':=by simpa using he
  exact D_callMv (g:=g) (i:=i) hcf hen ha (hw r hr) fun g' w' v hs hR=>h g' w' g' w' v hs (stp_refl _ _ _) hR.2 (hmp.stp hs hji)
 split at hf
 ·rename_i hk; subst hk; exact one 224 f224 hc en224 hf fun r hr=>wk224 r1 r2 hom hr
 split at hf
 ·rename_i hk; subst hk; exact one 225 f225 hc en225 hf fun r hr=>wk225 r1 r2 hom hr
 split at hf
 ·rename_i hk; subst hk; exact one 226 f226 hc en226 hf fun r hr=>wk226 r1 r2 hom hr
 split at hf
 ·rename_i hk; subst hk; exact one 227 f227 hc en227 hf fun r hr=>wk227 r1 r2 hom hr
 split at hf
 ·rename_i hk; subst hk
  obtain ⟨r,hr,he⟩:=Option.map_eq_some_iff.1 hf
  obtain ⟨rfl,rfl⟩:rows=rows'∧r=br':=by simpa using he
  exact D_callMv (g:=g) (i:=j) (f:=228) hc en228 ha (wk228 r1 r2 hmp hr) fun g' w' v hs hR=>h g w g' w' v (stp_refl _ _ _) hs (hom.stp hs hij) hR.2
 ·cases hf
def f229 (z0:List Str) (z1:List Str) (σ:Type) (cons:Cons σ (Int × Int)) (s0:σ):Option σ:=
 lp (σ:=σ × Int) (fun k2 (dB,u3)=>
  bif (decide (u3 < ((z0).length : Int))) then
   jn (σ:=σ) (fun x8=>
    k2 (x8,(w64 (u3 + (1:Int))))
    ) fun qC=>
   (idx z0 u3).bind fun x5=>
   lp (σ:=σ × Nat) (fun rC (m7,o0)=>
    bif (decide (o0 < (x5).b.length)) then
     Option.bind (α:=σ × Bool) (
      (idx (x5).b ((o0:Nat):Int)).bind fun x6=>
      (idx z1 u3).bind fun y9=>
      (idx (y9).b ((o0:Nat):Int)).bind fun y6=>
      bif (x6 != y6) then
       (cons m7 (u3,((o0:Nat):Int))).bind fun (v8,nB)=>
       some (nB,(!v8))
      else
       some (m7,false)
      ) fun (g8,i7)=>
     bif i7 then
      some g8
     else
      rC (g8,(o0 + (dec x5 o0).2))
    else
     qC (m7)
    ) big (dB,0)
  else
   some dB
  ) big (s0,(0:Int))
theorem en229:Enters Try.prog 229:=enters_of Try.func229 (by kernel_rfl) rfl
theorem wk229 {σ:Type} {cons:Cons σ (Int × Int)} {s0 r:σ} {gI:Gh} {wI:World} {z0:List Str} {z1:List Str} {pf0:Value} (qf0:PT gI.m wI z0 pf0) {pf1:Value} (qf1:PT gI.m wI z1 pf1) (h:f229 z0 z1 σ cons s0=some r):IterC Try.prog (RA2 (α:=Int) (β:=Int)) 229 #[] #[pf0,pf1] gI wI cons s0 r:=by
 unfold f229 at h
 refine iter_of_E Try.func229 rfl (Nat.le_of_ble_eq_true rfl) fun l B J g0 hm hAb hRo hfr=>?_
 have qf0:PT g0.m wI z0 pf0:=hm ▸ qf0
 have qf1:PT g0.m wI z1 pf1:=hm ▸ qf1
 show E _ 37 none _ _ (envAt #[.func (.yield l) #[] #[],pf0,pf1]) _ _
 refine Zf (Za (Ze .plain rfl (D_load (g:=g0) Try.isAgg50 Try.sizeOf50 rfl qf0 fun v1 r1=>?_)))
 refine Ga (.int .i64 ((z0).length:Int)) (P_len Try.underlying50 rfl r1) rfl ?_
 refine Zn (.int .i64 (0)) rfl rfl ?_
 refine Zb (Zd (Zr ?_))
 refine E_lp h (fun (s:σ × Int) e w=>∃ (g:Gh) ,FrY gI wI B J (s.1) g w∧e 0=(.func (.yield l) #[] #[])∧e 2=pf1∧PT g.m w (z1:List Str) pf1∧e 7=v1∧RV g.m w (z0:List Str) v1∧e 8=.int .i64 (((z0).length:Int))∧e 9=.int .i64 (s.2)) ⟨g0,hfr,rfl,rfl,qf1,rfl,r1,rfl,rfl⟩ (fun X2 k2 hk2=>?_)
 rintro ⟨dB,u3⟩ iG w3 ⟨g3,hfr,lE,mE,iB,uC,a9,vC,z9⟩ h
 refine Zf (Za (EL_in (.bool ((decide (u3 < ((z0).length:Int))))) z9 vC rfl rfl ?_))
 refine Zb (Zd (Zf ?_))
 rcases Zt h with ⟨hc4,h⟩ | ⟨hc4,h⟩
 ·refine E_ct hc4 rfl ?_
  refine Zu (Zd (Zq h (fun (s:σ) e w=>∃ (g:Gh) ,FrY gI wI B J (s) g w∧e 0=(.func (.yield l) #[] #[])∧e 2=pf1∧PT g.m w (z1:List Str) pf1∧e 7=v1∧RV g.m w (z0:List Str) v1∧e 8=.int .i64 (((z0).length:Int))∧e 9=.int .i64 (u3)) (fun X145 qC aE h=>?_) ?_))
  ·refine Zr ?_
   refine Zf (Za (Zo z9 rfl ?_))
   obtain ⟨x5,oB,h⟩:=Ge h
   refine Ga (ePtr v1 u3 1) (Zh (α:=Str) Try.underlying50 Try.sizeOf9 uC a9 z9 oB) rfl ?_
   have oE:=PT_idx a9 oB
   refine Ze .plain rfl (D_load (g:=g3) Try.isAgg9 Try.sizeOf9 rfl oE fun vF rE=>?_)
   obtain rfl:=RV_str.1 rE
   refine Zg (.int .i64 (u3)) rfl rfl ?_
   refine Zg (Str.v (x5)) rfl rfl ?_
   refine Zb (Zd (Zf (Za (Zn (Str.v (x5)) rfl rfl ?_))))
   refine Ze .plain rfl (D_rangeS (g:=g3) (s:=x5) 7015 Try.underlying9 rfl fun uE xF bA hs b149=>?_)
   have hfr:=hfr.stp_ hAb hs rfl
   have iB:=iB.stp hs
   have a9:=a9.stp hs
   refine Zb (Zd (Zr ?_))
   refine E_lp h (fun (s:σ × Nat) e w=>∃ (g:Gh) ,FrY gI wI B J (s.1) g w∧e 0=(.func (.yield l) #[] #[])∧e 2=pf1∧PT g.m w (z1:List Str) pf1∧e 4=.int .i64 (u3)∧e 5=Str.v (x5)∧e 7=v1∧RV g.m w (z0:List Str) v1∧e 8=.int .i64 (((z0).length:Int))∧e 9=.int .i64 (u3)∧e 15=bA∧SI 7015 g w (x5) (s.2) bA) ⟨uE,hfr,lE,mE,iB,rfl,rfl,uC,a9,vC,z9,rfl,b149⟩ (fun X150 rC bE=>?_)
   rintro ⟨m7,o0⟩ sF yF ⟨lB,hfr,n8,k8,l5,l8,r8,d9,t5,k9,l9,m8,n9⟩ h
   refine Zf (Za ?_)
   rcases Zt h with ⟨iA,h⟩ | ⟨iA,h⟩
   ·refine Ze .plain rfl (D_nextS_t (g := lB) m8 n9 iA fun aD zF hs b152 => ?_)
    have hfr:=hfr.stp_ hAb hs rfl
    have l5:=l5.stp hs
    have t5:=t5.stp hs
    refine Ga (.bool true) (Zi rfl rfl) rfl ?_
    refine Zb (Zd (Zf (E_cond_true (by rw [show ev _ _=_ from rfl]; exact congrArg Value.bool rfl) ?_)))
    refine Zu (Zd (Zr ?_))
    refine Zf (Za (Ga (.int .i64 ((o0:Nat):Int)) (Zi rfl rfl) rfl ?_))
    refine Zg (.int .i64 ((o0:Nat):Int)) rfl rfl ?_
    refine Zb (Zd ?_)
    obtain ⟨⟨g8,i7⟩,hx,h⟩:=Ge h
    refine E_join (fun e w=>∃ (g:Gh) ,FrY gI wI B J (g8) g w∧e 0=(.func (.yield l) #[] #[])∧e 2=pf1∧PT g.m w (z1:List Str) pf1∧e 4=.int .i64 (u3)∧e 5=Str.v (x5)∧e 7=v1∧RV g.m w (z0:List Str) v1∧e 8=.int .i64 (((z0).length:Int))∧e 9=.int .i64 (u3)∧e 15=bA∧SI 7015 g w (x5) ((o0 + (dec x5 o0).2)) bA∧e 35=.bool (i7)) (fun Q' hQ=>?_) (fun tF aG hR=>?_)
    ·replace h := hx
     clear hx
     obtain ⟨x6,tB,h⟩:=Ge h
     refine Zs (x:=.tmp 2) Try.isAgg50 Try.sizeOf50 l5 fun rA mB vB=>?_
     obtain ⟨y9,yA,h⟩:=Ge h
     have vE:=PT_idx mB yA
     refine Zs (x:=.tmp 24) Try.isAgg9 Try.sizeOf9 vE fun bG xE yB=>?_
     obtain rfl:=RV_str.1 xE
     obtain ⟨y6,zB,h⟩:=Ge h
     rcases Zt h with ⟨i6,h⟩ | ⟨i6,h⟩
     ·refine E_drawL (g := aD) (n := 14) [] [0, 1, 2, 3, 4, 5, 6, 7, 8, 9, 10, 11, 12, 13] rfl mixed (by kernel_rfl) trivial ?_
      refine Gd (Str.v (x5)) rfl rfl (Zk r8) ?_
      refine Gd (.int .i64 ((o0:Nat):Int)) rfl rfl (Zk rfl) ?_
      refine Gd (.int .u8 (UInt8.toNat (x6))) rfl rfl (P_indexS Try.underlying9 rfl rfl tB) ?_
      refine L_ld (c:=rA) rfl rfl .plain (fun _ _ h=>h.ch) vB k8 ?_
      refine Gd (.int .i64 (u3)) rfl rfl (Zk l8) ?_
      refine Gd (ePtr rA u3 1) rfl rfl (Zh (α:=Str) Try.underlying50 Try.sizeOf9 rfl mB rfl yA) ?_
      refine L_ld (c:=Str.v (y9)) rfl rfl .plain (fun _ _ h=>h.ch) yB rfl ?_
      refine Gd (.int .i64 ((o0:Nat):Int)) rfl rfl (Zk rfl) ?_
      refine Gd (.int .u8 (UInt8.toNat (y6))) rfl rfl (P_indexS Try.underlying9 rfl rfl zB) ?_
      refine Gd (.bool ((x6 != y6))) rfl rfl (P_u8 rfl rfl rfl) ?_
      refine Gd (.bool ((x6 != y6))) rfl rfl (Zk rfl) ?_
      refine L_y ((.func (.yield l) #[] #[])) rfl rfl rfl rfl i6 (Zk n8) ?_
      refine L_y (.int .i64 (u3)) rfl rfl rfl rfl i6 (Zk l8) ?_
      refine L_y (.int .i64 ((o0:Nat):Int)) rfl rfl rfl rfl i6 (Zk rfl) ?_
      refine L_nl fun yE cG hs=>?_
      have hfr:=hfr.ext_ hAb hs
      have l5:=l5.ext hs
      have t5:=t5.ext hs
      have b152:=b152.ext hs
      clear hs
      obtain ⟨zE,iE,h⟩:=Ge h
      obtain ⟨v8,nB⟩:=zE
      refine Ze (.yes2 rfl rfl i6) rfl (D_yield (g:=yE) (x:=(u3,((o0:Nat):Int))) rfl (.cons rfl (.cons rfl .nil)) hRo hfr iE ⟨_,_,rfl,(Zj.2 rfl),(Zj.2 rfl)⟩ fun cF eG hs hfrY=>?_)
      have l5:=l5.stp hs
      have t5:=t5.stp hs
      have b152:=b152.stp hs rfl
      have hfr:=hfrY
      clear hfrY
      refine Gb (.bool (!v8)) (P_not rfl) rfl rfl i6 rfl ?_
      refine Ga (.bool (!v8)) (Zl (b:=(x6 != y6)) rfl (pick_t i6 rfl)) rfl ?_
      refine Zb ?_
      obtain ⟨rfl,rfl⟩:=pairs2 h
      exact hQ _ _ ⟨cF,hfr,n8,k8,l5,l8,r8,d9,t5,k9,l9,m8,b152,rfl⟩
     ·refine E_drawL (g := aD) (n := 14) [] [0, 1, 2, 3, 4, 5, 6, 7, 8, 9, 10, 11, 12, 13] rfl mixed (by kernel_rfl) trivial ?_
      refine Gd (Str.v (x5)) rfl rfl (Zk r8) ?_
      refine Gd (.int .i64 ((o0:Nat):Int)) rfl rfl (Zk rfl) ?_
      refine Gd (.int .u8 (UInt8.toNat (x6))) rfl rfl (P_indexS Try.underlying9 rfl rfl tB) ?_
      refine L_ld (c:=rA) rfl rfl .plain (fun _ _ h=>h.ch) vB k8 ?_
      refine Gd (.int .i64 (u3)) rfl rfl (Zk l8) ?_
      refine Gd (ePtr rA u3 1) rfl rfl (Zh (α:=Str) Try.underlying50 Try.sizeOf9 rfl mB rfl yA) ?_
      refine L_ld (c:=Str.v (y9)) rfl rfl .plain (fun _ _ h=>h.ch) yB rfl ?_
      refine Gd (.int .i64 ((o0:Nat):Int)) rfl rfl (Zk rfl) ?_
      refine Gd (.int .u8 (UInt8.toNat (y6))) rfl rfl (P_indexS Try.underlying9 rfl rfl zB) ?_
      refine Gd (.bool ((x6 != y6))) rfl rfl (P_u8 rfl rfl rfl) ?_
      refine Gd (.bool ((x6 != y6))) rfl rfl (Zk rfl) ?_
      iterate 3 refine L_s rfl rfl rfl i6 rfl ?_
      refine L_nl fun dF gG hs=>?_
      have hfr:=hfr.ext_ hAb hs
      have l5:=l5.ext hs
      have t5:=t5.ext hs
      have b152:=b152.ext hs
      clear hs
      refine Gc rfl rfl i6 rfl rfl ?_
      refine Gc rfl rfl i6 rfl rfl ?_
      refine Ga (.bool false) (Zl (b:=(x6 != y6)) rfl (pick_f i6 rfl)) rfl ?_
      refine Zb ?_
      obtain ⟨rfl,rfl⟩:=pairs2 h
      exact hQ _ _ ⟨dF,hfr,n8,k8,l5,l8,r8,d9,t5,k9,l9,m8,b152,rfl⟩
    ·clear hx
     obtain ⟨eF,hfr,bD,cD,eD,gD,iD,jD,lD,nD,oD,cC,mC,u9⟩:=hR
     rcases Zt h with ⟨aB,h⟩ | ⟨aB,h⟩
     ·refine E_cond_true (Eq.trans (show ev _ _ = .bool (i7) from u9) (congrArg Value.bool aB)) ?_
      refine E_ret (blk_r ?_)
      refine thn_r ?_
      refine blk_r ?_
      refine blk_r ?_
      refine thn_r ?_
      refine thn_r ?_
      refine blk_r ?_
      obtain rfl:=sinj h
      exact end0 rfl rfl (FrY.done hfr)
     ·refine E_cond_false (Eq.trans (show ev _ _ = .bool (i7) from u9) (congrArg Value.bool aB)) ?_
      exact Zu (blk_n (Zd (bE (g8,(o0 + (dec x5 o0).2)) _ _ ⟨eF,hfr,bD,cD,eD,gD,iD,jD,lD,nD,oD,cC,mC⟩ h)))
   ·refine Ze .plain rfl (D_nextS_f (g := lB) m8 n9 iA ?_)
    refine Ga (.bool false) (Zi rfl rfl) rfl ?_
    refine Zb (Zd (Zf (E_cond_false (by rw [show ev _ _=_ from rfl]; exact congrArg Value.bool rfl) ?_)))
    refine E_exit ?_
    refine thn_e ?_
    refine thn_e ?_
    refine blk_hit ?_
    exact blk_n (Zd (aE (m7) _ _ ⟨lB,hfr,n8,k8,l5,d9,t5,k9,l9⟩ h))
  ·rintro x8 uF hG ⟨rF, hfr, sD, tD, uD, vD, xD, yD, zD⟩ h
   refine Za (EL_in (.int .i64 ((w64 (u3 + (1:Int))))) zD rfl rfl rfl ?_)
   refine Zn (.int .i64 ((w64 (u3 + (1:Int))))) rfl rfl ?_
   exact Zb (Zd (hk2 (x8,(w64 (u3 + (1:Int)))) _ _ ⟨rF,hfr,sD,tD,uD,vD,xD,yD,rfl⟩ h))
 ·refine E_cf hc4 rfl ?_
  refine E_exit ?_
  refine thn_e ?_
  refine thn_e ?_
  refine blk_hit ?_
  obtain rfl:=sinj h
  exact end0n rfl rfl (FrY.done hfr)
def f241 (x0:Int) (z0:Int) (z1:Int):Option (Bool):=
 Option.bind (α:=Bool) (
  bif (decide (x0 < z0)) then
   some (true)
  else
   some ((decide (x0 > z1)))
  ) fun o0=>
 some (o0)
theorem en241:Enters Try.prog 241:=enters_of Try.func241 (by kernel_rfl) rfl
theorem wk241 {gI:Gh} {wI:World} {x0:Int} {z0:Int} {z1:Int} {pf0:Value} (qf0:PT gI.m wI z0 pf0) {pf1:Value} (qf1:PT gI.m wI z1 pf1) {r:Bool} (h:f241 x0 z0 z1=some r):Fn Try.prog 241 #[.int .i64 (x0),pf0,pf1] gI wI (fun _ _ v=>v=.bool (r)):=by
 unfold f241 at h
 refine fn_of_E Try.func241 rfl (Nat.le_of_ble_eq_true rfl) fun g0 hm hfr=>?_
 have qf0:PT g0.m wI z0 pf0:=hm ▸ qf0
 have qf1:PT g0.m wI z1 pf1:=hm ▸ qf1
 show E _ 13 none _ _ _ _ _
 refine Zf (Za (Zg (.bool false) rfl rfl ?_))
 refine Zb (Zd ?_)
 obtain ⟨o0,hx,h⟩:=Ge h
 refine E_join (fun e w=>∃ (g:Gh) ,Fr gI wI g w∧e 4=.bool (o0)) (fun Q' hQ=>?_) (fun l5 w7 hR=>?_)
 ·replace h := hx
  clear hx
  refine Za (Zn (.int .i64 (x0)) rfl rfl ?_)
  refine Ze .plain rfl (D_load (g:=g0) Try.isAgg3 Try.sizeOf3 rfl qf0 fun v4 r4=>?_)
  obtain rfl:=Zj.1 r4
  refine EL_in (.bool ((decide (x0 < z0)))) rfl rfl rfl rfl ?_
  refine Zn (.bool ((decide (x0 < z0)))) rfl rfl ?_
  rcases Zt h with ⟨hc5,h⟩ | ⟨hc5,h⟩
  ·refine Gc rfl rfl hc5 rfl rfl ?_
   refine Gc rfl rfl hc5 rfl rfl ?_
   refine Gc rfl rfl hc5 rfl rfl ?_
   refine Ga (.bool true) (Zl (b:=(decide (x0 < z0))) rfl (pick_t hc5 rfl)) rfl ?_
   refine Zg (.bool true) rfl rfl ?_
   refine Zb ?_
   obtain rfl:=sinj h
   exact hQ _ _ ⟨g0,hfr,rfl⟩
  ·refine Gb (.int .i64 (x0)) (Zk rfl) rfl rfl hc5 rfl ?_
   refine Ze (.yes2 rfl rfl hc5) rfl (D_load (g:=g0) Try.isAgg3 Try.sizeOf3 rfl qf1 fun v6 r6=>?_)
   obtain rfl:=Zj.1 r6
   refine Gb (.bool ((decide (x0 > z1)))) (P_int rfl rfl rfl) rfl rfl hc5 rfl ?_
   refine Ga (.bool ((decide (x0 > z1)))) (Zl (b:=(decide (x0 < z0))) rfl (pick_f hc5 rfl)) rfl ?_
   refine Zg (.bool ((decide (x0 > z1)))) rfl rfl ?_
   refine Zb ?_
   obtain rfl:=sinj h
   exact hQ _ _ ⟨g0,hfr,rfl⟩
 ·clear hx
  obtain ⟨g7,hfr,u3⟩:=hR
  refine E_ret ?_
  obtain rfl:=sinj h
  exact end1 rfl rfl (show _=.bool (o0) from u3) ⟨_,hfr,rfl⟩
def f269 (x0:List Zv) (x1:Zv→Option Bool):Option (Int):=
 jn (σ:=Unit) (fun _=>
  some ((-1:Int))
  ) fun k18=>
 lp (σ:=Int) (fun k19 o0=>
  bif (decide (o0 < ((x0).length : Int))) then
   jn (σ:=Unit) (fun _=>
    k19 ((w64 (o0 + (1:Int))))
    ) fun k28=>
   (idx x0 o0).bind fun r8=>
   (x1 r8).bind fun v8=>
   bif v8 then
    some (o0)
   else
    k28 ()
  else
   k18 ()
  ) big ((0:Int))
theorem en269:Enters Try.prog 269:=enters_of Try.func269 (by kernel_rfl) rfl
theorem wk269 {gI:Gh} {wI:World} {x0:List Zv} {x1:Zv→Option Bool} {up0:Value} (rp0:RV gI.m wI x0 up0) {up1:Value} (rp1:FnV1 Try.prog x1 up1 gI wI) {r:Int} (h:f269 x0 x1=some r):Fn Try.prog 269 #[up0,up1] gI wI (fun _ _ v=>v=.int .i64 (r)):=by
 unfold f269 at h
 refine fn_of_E Try.func269 rfl (Nat.le_of_ble_eq_true rfl) fun g0 hm hfr=>?_
 have rp0:RV g0.m wI x0 up0:=hm ▸ rp0
 obtain ⟨ff1,fa1,fc1,rfl,fen1,fcl1⟩:=rp1
 show E _ 19 none _ _ _ _ _
 refine Zf (Za (Zg (.int .i64 (0)) rfl rfl ?_))
 refine Zb (Zd (Zq h (fun (s:Unit) e w=>∃ (g:Gh) ,Fr gI wI g w) (fun X18 k18 x8 h=>?_) ?_))
 ·refine Zf (Za (Zn up0 rfl rfl ?_))
  refine Ga (.int .i64 ((x0).length:Int)) (P_len Try.underlying57 rfl rp0) rfl ?_
  refine Zn (.int .i64 (0)) rfl rfl ?_
  refine Zb (Zd (Zr ?_))
  refine E_lp h (fun (s:Int) e w=>∃ (g:Gh) ,Fr gI wI g w∧e 0=up0∧RV g.m w (x0:List Zv) up0∧e 1=(.func (.func ff1) fa1 fc1)∧e 7=.int .i64 (((x0).length:Int))∧e 8=.int .i64 (s)) ⟨g0,hfr,rfl,rp0,rfl,rfl,rfl⟩ (fun X19 k19 a9=>?_)
  rintro o0 bA yA ⟨i7,hfr,i6,u3,x6,y6,l5⟩ h
  refine Zf (Za (EL_in (.bool ((decide (o0 < ((x0).length:Int))))) l5 y6 rfl rfl ?_))
  refine Zb (Zd (Zf ?_))
  rcases Zt h with ⟨t5,h⟩ | ⟨t5,h⟩
  ·refine E_ct t5 rfl ?_
   refine Zu (Zd (Zq h (fun (s:Unit) e w=>∃ (g:Gh) ,Fr gI wI g w∧e 0=up0∧RV g.m w (x0:List Zv) up0∧e 1=(.func (.func ff1) fa1 fc1)∧e 7=.int .i64 (((x0).length:Int))∧e 8=.int .i64 (o0)) (fun X28 k28 d9 h=>?_) ?_))
   ·refine Zr ?_
    refine Zf (Za (Zo l5 rfl ?_))
    refine Zg (.int .i64 (o0)) rfl rfl ?_
    refine Zb (Zd (Zf (Za (Zo x6 rfl ?_))))
    refine Zo i6 rfl ?_
    refine Zn (.int .i64 (o0)) rfl rfl ?_
    obtain ⟨r8,m7,h⟩:=Ge h
    refine Ga (ePtr up0 o0 5) (Zh (α:=Zv) Try.underlying57 Try.sizeOf56 rfl u3 rfl m7) rfl ?_
    have l9:=PT_idx u3 m7
    refine Ze .plain rfl (D_load (g:=i7) Try.isAgg56 Try.sizeOf56 rfl l9 fun n9 u9=>?_)
    obtain ⟨v8,k9,h⟩:=Ge h
    refine Ze .plain rfl (D_callv (g:=i7) (vs:=[n9]) rfl fen1 (.cons rfl .nil) (fcl1 _ _ hfr.ch _ _ _  u9 k9) fun y9 aB dB hs hr=>?_)
    have hfr:=hfr.ext hs
    have u3:=u3.ext hs
    obtain rfl:=RV_bool.1 hr
    refine Zb (Zd ?_)
    rcases Zt h with ⟨x5,h⟩ | ⟨x5,h⟩
    ·refine E_ct x5 rfl ?_
     refine Zf (Za (Zn (.int .i64 (o0)) rfl rfl ?_))
     refine Zg (.int .i64 (o0)) rfl rfl ?_
     refine Zb (Zd (E_ret (blk_r ?_)))
     refine thn_r ?_
     refine thn_r ?_
     refine blk_r ?_
     refine thn_r ?_
     obtain rfl:=sinj h
     exact end1 rfl rfl (show _=.int .i64 (o0) from rfl) ⟨_,hfr,rfl⟩
    ·refine E_cf x5 rfl ?_
     exact Zu (blk_n (Zd (d9 () _ _ ⟨y9,hfr,i6,u3,x6,y6,l5⟩ h)))
   ·rintro _ iA iB ⟨z9, hfr, g8, k8, l8, m8, n8⟩ h
    refine Za (EL_in (.int .i64 ((w64 (o0 + (1:Int))))) n8 rfl rfl rfl ?_)
    refine Zn (.int .i64 ((w64 (o0 + (1:Int))))) rfl rfl ?_
    exact Zb (Zd (a9 ((w64 (o0 + (1:Int)))) _ _ ⟨z9,hfr,g8,k8,l8,m8,rfl⟩ h))
  ·refine E_cf t5 rfl ?_
   refine E_exit ?_
   refine thn_e ?_
   refine thn_e ?_
   refine blk_hit ?_
   exact Zd (x8 () _ _ ⟨i7,hfr⟩ h)
 ·rintro _ rA lB ⟨mB, hfr⟩ h
  refine Zf (Za (Zg (.int .i64 (-1)) rfl rfl ?_))
  refine Zb (Zd (E_ret ?_))
  obtain rfl:=sinj h
  exact end1 rfl rfl (show _=.int .i64 (-1) from rfl) ⟨_,hfr,rfl⟩
def f270 (x0:List Zv) (x1:Int) (x2:Int) (x3:Zv→Zv→Option Int):Option ((List Zv)):=
 lp (σ:=(List Zv) × Int) (fun k1 (a9,x5)=>
  jn (σ:=Unit) (fun _=>
   Option.bind (α:=(List Zv)) (
    lp (σ:=(List Zv) × Int) (fun tB (l5,o0)=>
     jn (σ:=Unit) (fun _=>
      Option.bind (α:=(List Zv)) (
       (idx l5 (w64 (o0 - (1:Int)))).bind fun d9=>
       (idx l5 o0).bind fun yA=>
       (idx l5 o0).bind fun dF=>
       (idx ((List.set l5 (Int.toNat o0) d9)) (w64 (o0 - (1:Int)))).bind fun eF=>
       some ((List.set ((List.set l5 (Int.toNat o0) d9)) (Int.toNat (w64 (o0 - (1:Int)))) yA))
       ) fun g8=>
      tB (g8,(w64 (o0 - (1:Int))))
      ) fun vB=>
     Option.bind (α:=Bool) (
      bif (decide (o0 > x1)) then
       (idx l5 o0).bind fun yB=>
       (idx l5 (w64 (o0 - (1:Int)))).bind fun zB=>
       (x3 yB zB).bind fun n8=>
       some ((decide (n8 < (0:Int))))
      else
       some (false)
      ) fun x6=>
     bif x6 then
      vB ()
     else
      some (l5)
     ) big (a9,x5)
    ) fun k8=>
   k1 (k8,(w64 (x5 + (1:Int))))
   ) fun k4=>
  bif (decide (x5 < x2)) then
   k4 ()
  else
   some (a9)
  ) big (x0,(w64 (x1 + (1:Int))))
theorem en270:Enters Try.prog 270:=enters_of Try.func270 (by kernel_rfl) rfl
theorem wk270 {iI:Nat} {gI:Gh} {wI:World} {x0:List Zv} {x1:Int} {x2:Int} {x3:Zv→Zv→Option Int} {up0:Value} (mp0:OM iI gI wI 56 x0 up0) {up3:Value} (rp3:FnV2 Try.prog x3 up3 gI wI) {r:(List Zv)} (h:f270 x0 x1 x2 x3=some r):FnM Try.prog 270 #[up0,.int .i64 (x1),.int .i64 (x2),up3] iI gI wI (fun g w v=>v=.tuple #[]∧OM iI g w 56 r up0):=by
 unfold f270 at h
 refine fnM_of_E Try.func270 rfl (Nat.le_of_ble_eq_true rfl) fun g0 hm hfr=>?_
 have oE:=mp0
 replace mp0:=mp0.enter
 rw [← hm] at mp0
 replace hm:g0.m=gI.m:=by rw [hm]
 obtain ⟨ff3,fa3,fc3,rfl,fen3,fcl3⟩:=rp3
 show E _ 53 none _ _ _ _ _
 refine Zf (Za (Zn (.int .i64 (x1)) rfl rfl ?_))
 refine EL_in (.int .i64 ((w64 (x1 + (1:Int))))) rfl rfl rfl rfl ?_
 refine Zg (.int .i64 ((w64 (x1 + (1:Int))))) rfl rfl ?_
 refine Zb (Zd (Zr ?_))
 refine E_lp h (fun (s:(List Zv) × Int) e w=>∃ (g:Gh) ,FrM iI gI wI g w∧e 0=up0∧OM 1 g w 56 (s.1:List Zv) up0∧e 1=.int .i64 (x1)∧e 2=.int .i64 (x2)∧e 3=(.func (.func ff3) fa3 fc3)∧e 8=.int .i64 (s.2)) ⟨g0,hfr,rfl,mp0,rfl,rfl,rfl,rfl⟩ (fun X1 k1 hk1=>?_)
 rintro ⟨a9,x5⟩ pH w2 ⟨g2,hfr,rF,cC,sF,mC,tF,qC⟩ h
 refine Zq h (fun (s:Unit) e w=>∃ (g:Gh) ,FrM iI gI wI g w∧e 0=up0∧OM 1 g w 56 (a9:List Zv) up0∧e 1=.int .i64 (x1)∧e 2=.int .i64 (x2)∧e 3=(.func (.func ff3) fa3 fc3)∧e 8=.int .i64 (x5)) (fun X4 k4 hk4 h=>?_) ?_
 ·refine Zf (Za (Zo qC rfl ?_))
  refine Zo mC rfl ?_
  refine EL_in (.bool ((decide (x5 < x2)))) rfl rfl rfl rfl ?_
  refine Zb (Zd ?_)
  rcases Zt h with ⟨hc5,h⟩ | ⟨hc5,h⟩
  ·refine E_ct hc5 rfl ?_
   exact Zu (Zd (hk4 () _ _ ⟨g2,hfr,rF,cC,sF,mC,tF,qC⟩ h))
  ·refine E_cf hc5 rfl ?_
   refine E_exit ?_
   refine thn_e ?_
   refine thn_e ?_
   refine blk_hit ?_
   obtain rfl:=sinj h
   exact end0n rfl rfl ⟨_,hfr,rfl,oE.back cC⟩
 ·rintro _ qH w6 ⟨g6, hfr, uF, vF, xF, yF, zF, rC⟩ h
  obtain ⟨k8,hx,h⟩:=Ge h
  refine E_join (fun e w=>∃ (g:Gh) ,FrM iI gI wI g w∧e 0=up0∧OM 1 g w 56 (k8:List Zv) up0∧e 1=.int .i64 (x1)∧e 2=.int .i64 (x2)∧e 3=(.func (.func ff3) fa3 fc3)∧e 8=.int .i64 (x5)) (fun Q' hQ=>?_) (fun xG dH hR=>?_)
  ·replace h := hx
   clear hx
   refine Zr ?_
   refine Zf (Za (Zo rC rfl ?_))
   refine Zg (.int .i64 (x5)) rfl rfl ?_
   refine Zb (Zd (Zr ?_))
   refine E_lp h (fun (s:(List Zv) × Int) e w=>∃ (g:Gh) ,FrM iI gI wI g w∧e 0=up0∧OM 1 g w 56 (s.1:List Zv) up0∧e 1=.int .i64 (x1)∧e 2=.int .i64 (x2)∧e 3=(.func (.func ff3) fa3 fc3)∧e 8=.int .i64 (x5)∧e 9=.int .i64 (s.2)) ⟨g6,hfr,uF,vF,xF,yF,zF,rC,rfl⟩ (fun X297 tB rE=>?_)
   rintro ⟨l5,o0⟩ yG gH ⟨uC,hfr,l8,t5,m8,l9,r8,n9,y6⟩ h
   refine Zq h (fun (s:Unit) e w=>∃ (g:Gh) ,FrM iI gI wI g w∧e 0=up0∧OM 1 g w 56 (l5:List Zv) up0∧e 1=.int .i64 (x1)∧e 2=.int .i64 (x2)∧e 3=(.func (.func ff3) fa3 fc3)∧e 8=.int .i64 (x5)∧e 9=.int .i64 (o0)) (fun X411 vB uE h=>?_) ?_
   ·obtain ⟨x6, hx, h⟩ := Ge h
    refine E_join (fun e w=>∃ (g:Gh) ,FrM iI gI wI g w∧e 0=up0∧OM 1 g w 56 (l5:List Zv) up0∧e 1=.int .i64 (x1)∧e 2=.int .i64 (x2)∧e 3=(.func (.func ff3) fa3 fc3)∧e 8=.int .i64 (x5)∧e 9=.int .i64 (o0)∧e 34=.bool (x6)) (fun Q' hQ=>?_) (fun zG iH hR=>?_)
    ·replace h := hx
     clear hx
     rcases Zt h with ⟨u3,h⟩ | ⟨u3,h⟩
     ·obtain ⟨yB, dB, h⟩ := Ge h
      refine L_loadM (x:=.tmp 25) Try.isAgg56 Try.sizeOf56 t5 dB fun vC aG vE=>?_
      obtain ⟨zB,iB,h⟩:=Ge h
      refine L_loadM (x:=.tmp 30) Try.isAgg56 Try.sizeOf56 t5 iB fun aD bG xE=>?_
      obtain ⟨n8,yE,h⟩:=Ge h
      refine E_drawL (g:=uC) (n:=17) [(14,(fun v g w=>v=.int .i64 (n8)))] [0,1,2,3,4,5,6,7,8,9,10,11,12,13,14,15,16] rfl mixed (by kernel_rfl) (⟨fun _=>up_eq _,trivial⟩) ?_
      refine Gd (.int .i64 (o0)) rfl rfl (Zk y6) ?_
      refine Gd (.int .i64 (x1)) rfl rfl (Zk m8) ?_
      refine Gd (.bool ((decide (o0 > x1)))) rfl rfl (P_int rfl rfl rfl) ?_
      refine Gd (.bool ((decide (o0 > x1)))) rfl rfl (Zk rfl) ?_
      refine L_y ((.func (.func ff3) fa3 fc3)) rfl rfl rfl rfl u3 (Zk r8) ?_
      refine L_y up0 rfl rfl rfl rfl u3 (Zk l8) ?_
      refine L_y (.int .i64 (o0)) rfl rfl rfl rfl u3 (Zk y6) ?_
      refine L_y (ePtr up0 o0 5) rfl rfl rfl rfl u3 (P_indexAddrM (α:=Zv) Try.underlying57 Try.sizeOf56 rfl t5 rfl dB) ?_
      refine L_ld (c:=vC) rfl rfl (.yes2 rfl rfl u3) (fun _ _ h=>⟨h.ch,fun b hb _=>h.below.block b hb⟩) vE rfl ?_
      refine L_y up0 rfl rfl rfl rfl u3 (Zk l8) ?_
      refine L_y (.int .i64 (o0)) rfl rfl rfl rfl u3 (Zk y6) ?_
      refine L_y (.int .i64 ((w64 (o0 - (1:Int))))) rfl rfl rfl rfl u3 (P_int rfl rfl rfl) ?_
      refine L_y (ePtr up0 (w64 (o0 - (1:Int))) 5) rfl rfl rfl rfl u3 (P_indexAddrM (α:=Zv) Try.underlying57 Try.sizeOf56 rfl t5 rfl iB) ?_
      refine L_ld (c:=aD) rfl rfl (.yes2 rfl rfl u3) (fun _ _ h=>⟨h.ch,fun b hb _=>h.below.block b hb⟩) xE rfl ?_
      refine L_do (φ:=fun v g w=>v=.int .i64 (n8)) rfl rfl (.yes2 rfl rfl u3) (fun g w hd=>D_callv (g:=g) (vs:=[vC,aD]) rfl fen3 (.cons rfl (.cons rfl .nil)) (fcl3 _ _ (hfr.ext hd.1).ch _ _ _ _ _  (aG.ext hd.1) (bG.ext hd.1) yE) fun g' w' v hs hr=>⟨g',hs,Zj.1 hr⟩) (fun jH hv=>?_)
      obtain ⟨_,_,_,rfl⟩:=hv
      refine L_y (.bool ((decide (n8 < (0:Int))))) rfl rfl rfl rfl u3 (P_int rfl rfl rfl) ?_
      refine Gd (.bool ((decide (n8 < (0:Int))))) rfl rfl (Zl (b:=(decide (o0 > x1))) rfl (pick_t u3 rfl)) ?_
      refine L_nl fun cG kH hs=>?_
      have hfr:=hfr.ext hs
      have t5:=t5.ext hs
      clear hs
      refine Zb ?_
      obtain rfl:=sinj h
      exact hQ _ _ ⟨cG,hfr,l8,t5,m8,l9,r8,n9,y6,rfl⟩
     ·refine E_drawL (g := uC) (n := 17) [] [0, 1, 2, 3, 4, 5, 6, 7, 8, 9, 10, 11, 12, 13, 14, 15, 16] rfl mixed (by kernel_rfl) trivial ?_
      refine Gd (.int .i64 (o0)) rfl rfl (Zk y6) ?_
      refine Gd (.int .i64 (x1)) rfl rfl (Zk m8) ?_
      refine Gd (.bool ((decide (o0 > x1)))) rfl rfl (P_int rfl rfl rfl) ?_
      refine Gd (.bool ((decide (o0 > x1)))) rfl rfl (Zk rfl) ?_
      iterate 12 refine L_s rfl rfl rfl u3 rfl ?_
      refine Gd (.bool false) rfl rfl (Zl (b:=(decide (o0 > x1))) rfl (pick_f u3 rfl)) ?_
      refine L_nl fun eG lH hs=>?_
      have hfr:=hfr.ext hs
      have t5:=t5.ext hs
      clear hs
      refine Zb ?_
      obtain rfl:=sinj h
      exact hQ _ _ ⟨eG,hfr,l8,t5,m8,l9,r8,n9,y6,rfl⟩
    ·clear hx
     obtain ⟨bD,hfr,u9,y9,z9,bA,iA,rA,cD,x8⟩:=hR
     rcases Zt h with ⟨k9,h⟩ | ⟨k9,h⟩
     ·refine E_cond_true (Eq.trans (show ev _ _ = .bool (x6) from x8) (congrArg Value.bool k9)) ?_
      exact Zu (Zd (uE () _ _ ⟨bD,hfr,u9,y9,z9,bA,iA,rA,cD⟩ h))
     ·refine E_cond_false (Eq.trans (show ev _ _ = .bool (x6) from x8) (congrArg Value.bool k9)) ?_
      refine E_exit ?_
      refine thn_e ?_
      refine thn_e ?_
      refine blk_hit ?_
      refine blk_n ?_
      obtain rfl:=sinj h
      exact hQ _ _ ⟨bD,hfr,u9,y9,z9,bA,iA,rA⟩
   ·rintro _ aH gG ⟨eD, hfr, i7, i6, gD, iD, jD, lD, m7⟩ h
    obtain ⟨g8,hx,h⟩:=Ge h
    refine E_join (fun e w=>∃ (g:Gh) ,FrM iI gI wI g w∧e 0=up0∧OM 1 g w 56 (g8:List Zv) up0∧e 1=.int .i64 (x1)∧e 2=.int .i64 (x2)∧e 3=(.func (.func ff3) fa3 fc3)∧e 8=.int .i64 (x5)∧e 9=.int .i64 (o0)) (fun Q' hQ=>?_) (fun cH mH hR=>?_)
    ·replace h := hx
     clear hx
     refine Zr ?_
     obtain ⟨d9,lB,h⟩:=Ge h
     refine L_loadM (x:=.tmp 45) Try.isAgg56 Try.sizeOf56 i6 lB fun hG aB zE=>?_
     obtain ⟨yA,mB,h⟩:=Ge h
     refine L_loadM (x:=.tmp 49) Try.isAgg56 Try.sizeOf56 i6 mB fun iG v8 cF=>?_
     obtain ⟨dF,nB,h⟩:=Ge h
     refine E_drawTL (g:=eD) (n:=15) [2,3,4] [] [0,1,2,3,4,5,6,7,8,9,10,11,12,13,14] rfl mixed (by kernel_rfl) trivial rfl ?_
     refine Gd up0 rfl rfl (Zk i7) ?_
     refine Gd (.int .i64 (o0)) rfl rfl (Zk m7) ?_
     refine L_purL (c:=up0) rfl rfl .plain (Zk i7) ?_
     refine L_purL (c:=.int .i64 (o0)) rfl rfl .plain (Zk m7) ?_
     refine L_purL (c:=.int .i64 ((w64 (o0 - (1:Int))))) rfl rfl .plain (P_int rfl rfl rfl) ?_
     refine Gd up0 rfl rfl (Zk i7) ?_
     refine Gd (.int .i64 (o0)) rfl rfl (Zk m7) ?_
     refine Gd (.int .i64 ((w64 (o0 - (1:Int))))) rfl rfl (P_int rfl rfl rfl) ?_
     refine Gd (ePtr up0 (w64 (o0 - (1:Int))) 5) rfl rfl (P_indexAddrM (α:=Zv) Try.underlying57 Try.sizeOf56 rfl i6 rfl lB) ?_
     refine L_ld (c:=hG) rfl rfl .plain (fun _ _ h=>⟨h.ch,fun b hb _=>h.below.block b hb⟩) zE rfl ?_
     refine Gd up0 rfl rfl (Zk i7) ?_
     refine Gd (.int .i64 (o0)) rfl rfl (Zk m7) ?_
     refine Gd (ePtr up0 o0 5) rfl rfl (P_indexAddrM (α:=Zv) Try.underlying57 Try.sizeOf56 rfl i6 rfl mB) ?_
     refine L_ld (c:=iG) rfl rfl .plain (fun _ _ h=>⟨h.ch,fun b hb _=>h.below.block b hb⟩) cF rfl ?_
     refine Gd (ePtr up0 o0 5) rfl rfl (P_indexAddrM (α:=Zv) Try.underlying57 Try.sizeOf56 rfl i6 rfl nB) ?_
     refine L_nl fun nD jG hs=>?_
     have hlt:Lt eD.m gG nD jG:=hs.ch
     have hfr:=hfr.ext hs
     have i6:=i6.ext hs
     have aB:=aB.ext hs
     have v8:=v8.ext hs
     clear hs
     refine TL_do hlt.w .plain rfl (D_storeM (g:=nD) (α:=Zv) (a':=d9) Try.sizeOf56 rfl i6 nB rfl aB fun kG nH hs b582=>?_)
     have hfr:=hfr.stp hs
     have hlt:=hlt.stp hs
     have v8:=v8.stp hs
     obtain ⟨eF,oB,h⟩:=Ge h
     refine TL_pur hlt.w (v:=ePtr up0 (w64 (o0 - (1:Int))) 5) (P_indexAddrM (α:=Zv) Try.underlying57 Try.sizeOf56 rfl b582 rfl oB) .plain rfl ?_
     refine TL_do hlt.w .plain rfl (D_storeM (g:=kG) (α:=Zv) (a':=yA) Try.sizeOf56 rfl b582 oB rfl v8 fun lG oH hs b584=>?_)
     have hfr:=hfr.stp hs
     have hlt:=hlt.stp hs
     refine TL_nil hlt.w ?_
     clear hlt
     refine blk_n ?_
     obtain rfl:=sinj h
     exact hQ _ _ ⟨lG,hfr,i7,b584,gD,iD,jD,lD,m7⟩
    ·clear hx
     obtain ⟨mG,hfr,oD,sD,tD,uD,vD,xD,yD⟩:=hR
     refine Za (Zo yD rfl ?_)
     refine EL_in (.int .i64 ((w64 (o0 - (1:Int))))) rfl rfl rfl rfl ?_
     refine Zg (.int .i64 ((w64 (o0 - (1:Int))))) rfl rfl ?_
     exact Zb (Zd (rE (g8,(w64 (o0 - (1:Int)))) _ _ ⟨mG,hfr,oD,sD,tD,uD,vD,xD,rfl⟩ h))
  ·clear hx
   obtain ⟨sG,hfr,zD,aE,bE,iE,lE,mE⟩:=hR
   refine Za (Zo mE rfl ?_)
   refine EL_in (.int .i64 ((w64 (x5 + (1:Int))))) rfl rfl rfl rfl ?_
   refine Zg (.int .i64 ((w64 (x5 + (1:Int))))) rfl rfl ?_
   exact Zb (Zd (hk1 (k8,(w64 (x5 + (1:Int)))) _ _ ⟨sG,hfr,zD,aE,bE,iE,lE,rfl⟩ h))
def f9 (x0:Loom):Option (FaultLoom):=
 (f54 x0).bind fun y5=>
 (f55 x0).bind fun y8=>
 some ((⟨y5,y8⟩:FaultLoom))
theorem en9:Enters Try.prog 9:=enters_of Try.func9 (by kernel_rfl) rfl
theorem wk9 {gI:Gh} {wI:World} {x0:Loom} {up0:Value} (rp0:RV gI.m wI x0 up0) {r:FaultLoom} (h:f9 x0=some r):Fn Try.prog 9 #[up0] gI wI (fun m w v=>RV m w (r) v):=by
 unfold f9 at h
 refine fn_of_E Try.func9 rfl (Nat.le_of_ble_eq_true rfl) fun g0 hm hfr=>?_
 have rp0:RV g0.m wI x0 up0:=hm ▸ rp0
 show E _ 8 none _ _ _ _ _
 refine Zf (Za (Ze .plain rfl (D_box (g:=g0) rfl rp0 fun g1 w1 p1 hs q1=>?_)))
 have hfr:=hfr.ext hs
 refine Ze .plain rfl (D_allocOc (g:=g1) 2002 (⟨⟨0,[]⟩,⟨0,[]⟩⟩:FaultLoom) Try.zeroValue32 (fun m w=>⟨_,(rep_two (rep_two Zy rep_nil) (rep_two Zy rep_nil)),rfl⟩) fun g2 w2 p2 hs b2 cb=>?_)
 have hfr:=hfr.stp hs
 have q1:=q1.stp hs
 have m7:OSF 2002 60201 1 g2 w2 3 32 ([]:List Int) p2:=cb.osf (by rfl)
 have g8:OSF 2002 60203 3 g2 w2 3 32 ([]:List Int) p2:=cb.osf (by rfl)
 clear cb
 refine Zb (Zd (Zf (Zs (x:=.tmp 1) Try.isAgg25 Try.sizeOf25 q1 fun v3 r3 x6=>?_)))
 obtain ⟨y5,hy5,h⟩:=Ge h
 refine Zs (x:=.tmp 1) Try.isAgg25 Try.sizeOf25 q1 fun v6 r6 y6=>?_
 obtain ⟨y8,i7,h⟩:=Ge h
 refine E_drawL (g:=g2) (n:=4) [(1,(fun v g w=>RV g.m w y5 v)),(3,(fun v g w=>RV g.m w y8 v))] [0,1,2,3] rfl mixed (by kernel_rfl) (⟨fun _=>up_rv,fun _=>up_rv,trivial⟩) ?_
 refine L_ld (c:=v3) rfl rfl .plain (fun _ _ h=>h.ch) x6 rfl ?_
 refine L_do (φ:=fun v g w=>RV g.m w y5 v) rfl rfl .plain (fun g w hd=>Zp (g:=g) (vs:=[v3]) en54 (.cons rfl .nil) (wk54 (r3.ext hd.1) hy5) fun g' w' v hs hr=>⟨g',hs,hr⟩) (fun v4 hv=>?_)
 obtain ⟨_,_,_,rq4⟩:=hv
 refine L_ld (c:=v6) rfl rfl .plain (fun _ _ h=>h.ch) y6 rfl ?_
 refine L_do (φ:=fun v g w=>RV g.m w y8 v) rfl rfl .plain (fun g w hd=>Zp (g:=g) (vs:=[v6]) en55 (.cons rfl .nil) (wk55 (r6.ext hd.1) i7) fun g' w' v hs hr=>⟨g',hs,hr⟩) (fun v7 hv=>?_)
 obtain ⟨_,_,_,rq7⟩:=hv
 refine L_nil fun g9 w9 hall=>?_
 have hs:=hall.1
 have hfr:=hfr.ext hs
 have b2:=b2.ext hs
 have o0:=(word_all (A:=fun g w=>RV g.m w y5 v4) 1 rfl hall)
 have u3:=(word_all (A:=fun g w=>RV g.m w y8 v7) 3 rfl hall)
 clear hs hall
 have l5:RV g9.m _ (⟨y5,y8⟩:FaultLoom) (.agg (setCh [[.int .i64 0,.slice none 0 0],[.int .i64 0,.slice none 0 0]] [(0,v4),(1,v7)]).flatten.toArray):=RV_build rfl (rep_pair (RV.cells o0) (rep_last (RV.cells u3)))
 generalize x5:(Value.agg (setCh [[.int .i64 0,.slice none 0 0],[.int .i64 0,.slice none 0 0]] [(0,v4),(1,v7)]).flatten.toArray)=t5 at l5
 refine Ga t5 (x5 ▸ P_build (vs:=[(0,v4),(1,v7)]) [[.int .i64 0,.slice none 0 0],[.int .i64 0,.slice none 0 0]] lay_32 rfl rfl (.cons rfl (.cons rfl .nil)) ⟨⟨_,rfl,cells_size o0⟩,⟨⟨_,rfl,cells_size u3⟩,trivial⟩⟩) rfl ?_
 refine Ze .plain rfl (D_storeOc (g:=g9) (v:=t5) Try.sizeOf32 rfl b2 rfl l5 fun k8 l8 hs b18 cb=>?_)
 clear cb
 have hfr:=hfr.stp hs
 refine Zb (Zd (E_ret ?_))
 obtain rfl:=sinj h
 obtain ⟨ad19,cv19,hp19,i6,cr19⟩:=ob_read Try.isAgg32 Try.sizeOf32 b18
 exact endm_c rfl rfl ((show _=p2 from rfl).trans hp19) i6 ⟨_,hfr,cr19⟩
def f15 (x0:FaultLoom):Option (FaultLoom):=
 (f30 ((x0).Harness)).bind fun y6=>
 (f31 ((x0).Design)).bind fun o0=>
 some ((⟨y6,o0⟩:FaultLoom))
theorem en15:Enters Try.prog 15:=enters_of Try.func15 (by kernel_rfl) rfl
theorem wk15 {gI:Gh} {wI:World} {x0:FaultLoom} {up0:Value} (rp0:RV gI.m wI x0 up0) {r:FaultLoom} (h:f15 x0=some r):Fn Try.prog 15 #[up0] gI wI (fun m w v=>RV m w (r) v):=by
 unfold f15 at h
 refine fn_of_E Try.func15 rfl (Nat.le_of_ble_eq_true rfl) fun g0 hm hfr=>?_
 have rp0:RV g0.m wI x0 up0:=hm ▸ rp0
 show E _ 10 none _ _ _ _ _
 refine Zf (Za (Ze .plain rfl (D_box (g:=g0) rfl rp0 fun g1 w1 p1 hs q1=>?_)))
 have hfr:=hfr.ext hs
 refine Ze .plain rfl (D_allocOc (g:=g1) 2002 (⟨⟨0,[]⟩,⟨0,[]⟩⟩:FaultLoom) Try.zeroValue32 (fun m w=>⟨_,(rep_two (rep_two Zy rep_nil) (rep_two Zy rep_nil)),rfl⟩) fun g2 w2 p2 hs b2 cb=>?_)
 have hfr:=hfr.stp hs
 have q1:=q1.stp hs
 have m8:OSF 2002 60201 1 g2 w2 3 32 ([]:List Int) p2:=cb.osf (by rfl)
 have n8:OSF 2002 60203 3 g2 w2 3 32 ([]:List Int) p2:=cb.osf (by rfl)
 clear cb
 refine Zb (Zd (Zf ?_))
 have q3:=Zm (part_FaultLoom_0).1 q1
 refine Zs (x:=.tmp 3) Try.isAgg28 Try.sizeOf28 q3 fun v4 r4 g8=>?_
 obtain ⟨y6,k8,h⟩:=Ge h
 have q7:=Zm (part_FaultLoom_1).1 q1
 refine Zs (x:=.tmp 6) Try.isAgg30 Try.sizeOf30 q7 fun v8 r8 l8=>?_
 obtain ⟨o0,x6,h⟩:=Ge h
 refine E_drawL (g:=g2) (n:=6) [(2,(fun v g w=>RV g.m w y6 v)),(5,(fun v g w=>RV g.m w o0 v))] [0,1,2,3,4,5] rfl mixed (by kernel_rfl) (⟨fun _=>up_rv,fun _=>up_rv,trivial⟩) ?_
 refine Gd (fPtr p1 0) rfl rfl (Zc at_32_0 rfl (PT.ptr q1)) ?_
 refine L_ld (c:=v4) rfl rfl .plain (fun _ _ h=>h.ch) g8 rfl ?_
 refine L_do (φ:=fun v g w=>RV g.m w y6 v) rfl rfl .plain (fun g w hd=>Zp (g:=g) (vs:=[v4]) en30 (.cons rfl .nil) (wk30 (r4.ext hd.1) k8) fun g' w' v hs hr=>⟨g',hs,hr⟩) (fun v5 hv=>?_)
 obtain ⟨_,_,_,rq5⟩:=hv
 refine Gd (fPtr p1 2) rfl rfl (Zc at_32_1 rfl (PT.ptr q1)) ?_
 refine L_ld (c:=v8) rfl rfl .plain (fun _ _ h=>h.ch) l8 rfl ?_
 refine L_do (φ:=fun v g w=>RV g.m w o0 v) rfl rfl .plain (fun g w hd=>Zp (g:=g) (vs:=[v8]) en31 (.cons rfl .nil) (wk31 (r8.ext hd.1) x6) fun g' w' v hs hr=>⟨g',hs,hr⟩) (fun v9 hv=>?_)
 obtain ⟨_,_,_,rq9⟩:=hv
 refine L_nil fun u3 x8 hall=>?_
 have hs:=hall.1
 have hfr:=hfr.ext hs
 have b2:=b2.ext hs
 have l5:=(word_all (A:=fun g w=>RV g.m w y6 v5) 2 rfl hall)
 have t5:=(word_all (A:=fun g w=>RV g.m w o0 v9) 5 rfl hall)
 clear hs hall
 have x5:RV u3.m _ (⟨y6,o0⟩:FaultLoom) (.agg (setCh [[.int .i64 0,.slice none 0 0],[.int .i64 0,.slice none 0 0]] [(0,v5),(1,v9)]).flatten.toArray):=RV_build rfl (rep_pair (RV.cells l5) (rep_last (RV.cells t5)))
 generalize i7:(Value.agg (setCh [[.int .i64 0,.slice none 0 0],[.int .i64 0,.slice none 0 0]] [(0,v5),(1,v9)]).flatten.toArray)=i6 at x5
 refine Ga i6 (i7 ▸ P_build (vs:=[(0,v5),(1,v9)]) [[.int .i64 0,.slice none 0 0],[.int .i64 0,.slice none 0 0]] lay_32 rfl rfl (.cons rfl (.cons rfl .nil)) ⟨⟨_,rfl,cells_size l5⟩,⟨⟨_,rfl,cells_size t5⟩,trivial⟩⟩) rfl ?_
 refine Ze .plain rfl (D_storeOc (g:=u3) (v:=i6) Try.sizeOf32 rfl b2 rfl x5 fun a9 d9 hs b22 cb=>?_)
 clear cb
 have hfr:=hfr.stp hs
 refine Zb (Zd (E_ret ?_))
 obtain rfl:=sinj h
 obtain ⟨ad23,cv23,hp23,m7,cr23⟩:=ob_read Try.isAgg32 Try.sizeOf32 b22
 exact endm_c rfl rfl ((show _=p2 from rfl).trans hp23) m7 ⟨_,hfr,cr23⟩
def f88 (x0:Int) (x1:Int) (x2:List Int):Option (Bool):=
 (f165 x2 ((fun a0=>f166 a0 x0 x1))).bind fun y4=>
 some ((!y4))
theorem en88:Enters Try.prog 88:=enters_of Try.func88 (by kernel_rfl) rfl
theorem wk88 {gI:Gh} {wI:World} {x0:Int} {x1:Int} {x2:List Int} {up2:Value} (rp2:RV gI.m wI x2 up2) {r:Bool} (h:f88 x0 x1 x2=some r):Fn Try.prog 88 #[.int .i64 (x0),.int .i64 (x1),up2] gI wI (fun _ _ v=>v=.bool (r)):=by
 unfold f88 at h
 refine fn_of_E Try.func88 rfl (Nat.le_of_ble_eq_true rfl) fun g0 hm hfr=>?_
 have rp2:RV g0.m wI x2 up2:=hm ▸ rp2
 show E _ 11 none _ _ _ _ _
 refine Zf (Za (Ze .plain rfl (D_box (g:=g0) rfl (Zj.2 rfl) fun g1 w1 p1 hs q1=>?_)))
 have hfr:=hfr.ext hs
 have rp2:=rp2.ext hs
 refine Ze .plain rfl (D_box (g:=g1) rfl (Zj.2 rfl) fun g2 w2 p2 hs q2=>?_)
 have hfr:=hfr.ext hs
 have rp2:=rp2.ext hs
 have q1:=q1.ext hs
 refine Zg (.bool false) rfl rfl ?_
 refine Zb (Zd (Zf (Za (Zn up2 rfl rfl ?_))))
 refine Ga ((.func (.func 166) #[] #[p1,p2])) (P_makeFunc (capf_0_2 (show ev _ _=p1 from rfl) (show ev _ _=p2 from rfl))) rfl ?_
 obtain ⟨y4,o0,h⟩:=Ge h
 refine Ze .plain rfl (Zp (g:=g2) (vs:=[up2,(.func (.func 166) #[] #[p1,p2])]) en165 (.cons rfl (.cons rfl .nil)) (wk165 rp2 ⟨166,#[],#[p1,p2],rfl,en166,fun g' w' hch a0 b0 r hu0 hr=>by obtain rfl:=Zj.1 hu0; exact Fn.mono (wk166  (q1.ch hch) (q2.ch hch) hr) fun _ _ _ h=>RV_bool.2 h⟩ o0) fun g3 w3_ v3 hs hr=>?_)
 have hfr:=hfr.ext hs
 subst hr
 refine Ga (.bool (!y4)) (P_not rfl) rfl ?_
 refine Zg (.bool (!y4)) rfl rfl ?_
 refine Zb (Zd (E_ret ?_))
 obtain rfl:=sinj h
 exact end1 rfl rfl (show _=.bool (!y4) from rfl) ⟨_,hfr,rfl⟩
def f90 (x0:List Zz) (x1:Zz→Option Bool):Option (Bool):=
 (f167 x0 x1).bind fun y2=>
 some ((decide (y2 ≥ (0:Int))))
theorem en90:Enters Try.prog 90:=enters_of Try.func90 (by kernel_rfl) rfl
theorem wk90 {gI:Gh} {wI:World} {x0:List Zz} {x1:Zz→Option Bool} {up0:Value} (rp0:RV gI.m wI x0 up0) {up1:Value} (rp1:FnV1 Try.prog x1 up1 gI wI) {r:Bool} (h:f90 x0 x1=some r):Fn Try.prog 90 #[up0,up1] gI wI (fun _ _ v=>v=.bool (r)):=by
 unfold f90 at h
 refine fn_of_E Try.func90 rfl (Nat.le_of_ble_eq_true rfl) fun g0 hm hfr=>?_
 have rp0:RV g0.m wI x0 up0:=hm ▸ rp0
 obtain ⟨ff1,fa1,fc1,rfl,fen1,fcl1⟩:=rp1
 show E _ 9 none _ _ _ _ _
 refine Zf (Za (Zg (.bool false) rfl rfl ?_))
 refine Zb (Zd (Zf (Za (Zn up0 rfl rfl ?_))))
 refine Zn ((.func (.func ff1) fa1 fc1)) rfl rfl ?_
 obtain ⟨y2,hy2,h⟩:=Ge h
 refine Ze .plain rfl (Zp (g:=g0) (vs:=[up0,(.func (.func ff1) fa1 fc1)]) en167 (.cons rfl (.cons rfl .nil)) (wk167 rp0 (FnV1.ch ⟨_,_,_,rfl,fen1,fcl1⟩ hfr.ch) hy2) fun g1 w1_ v1 hs hr=>?_)
 have hfr:=hfr.ext hs
 subst hr
 refine EL_in (.bool ((decide (y2 ≥ (0:Int))))) rfl rfl rfl rfl ?_
 refine Zg (.bool ((decide (y2 ≥ (0:Int))))) rfl rfl ?_
 refine Zb (Zd (E_ret ?_))
 obtain rfl:=sinj h
 exact end1 rfl rfl (show _=.bool ((decide (y2 ≥ (0:Int)))) from rfl) ⟨_,hfr,rfl⟩
def f94 (x0:Int) (x1:Int) (x2:List Int):Option (Bool):=
 (f165 x2 ((fun a0=>f169 a0 x0 x1))).bind fun y4=>
 some ((!y4))
theorem en94:Enters Try.prog 94:=enters_of Try.func94 (by kernel_rfl) rfl
theorem wk94 {gI:Gh} {wI:World} {x0:Int} {x1:Int} {x2:List Int} {up2:Value} (rp2:RV gI.m wI x2 up2) {r:Bool} (h:f94 x0 x1 x2=some r):Fn Try.prog 94 #[.int .i64 (x0),.int .i64 (x1),up2] gI wI (fun _ _ v=>v=.bool (r)):=by
 unfold f94 at h
 refine fn_of_E Try.func94 rfl (Nat.le_of_ble_eq_true rfl) fun g0 hm hfr=>?_
 have rp2:RV g0.m wI x2 up2:=hm ▸ rp2
 show E _ 11 none _ _ _ _ _
 refine Zf (Za (Ze .plain rfl (D_box (g:=g0) rfl (Zj.2 rfl) fun g1 w1 p1 hs q1=>?_)))
 have hfr:=hfr.ext hs
 have rp2:=rp2.ext hs
 refine Ze .plain rfl (D_box (g:=g1) rfl (Zj.2 rfl) fun g2 w2 p2 hs q2=>?_)
 have hfr:=hfr.ext hs
 have rp2:=rp2.ext hs
 have q1:=q1.ext hs
 refine Zg (.bool false) rfl rfl ?_
 refine Zb (Zd (Zf (Za (Zn up2 rfl rfl ?_))))
 refine Ga ((.func (.func 169) #[] #[p1,p2])) (P_makeFunc (capf_0_2 (show ev _ _=p1 from rfl) (show ev _ _=p2 from rfl))) rfl ?_
 obtain ⟨y4,o0,h⟩:=Ge h
 refine Ze .plain rfl (Zp (g:=g2) (vs:=[up2,(.func (.func 169) #[] #[p1,p2])]) en165 (.cons rfl (.cons rfl .nil)) (wk165 rp2 ⟨169,#[],#[p1,p2],rfl,en169,fun g' w' hch a0 b0 r hu0 hr=>by obtain rfl:=Zj.1 hu0; exact Fn.mono (wk169  (q1.ch hch) (q2.ch hch) hr) fun _ _ _ h=>RV_bool.2 h⟩ o0) fun g3 w3_ v3 hs hr=>?_)
 have hfr:=hfr.ext hs
 subst hr
 refine Ga (.bool (!y4)) (P_not rfl) rfl ?_
 refine Zg (.bool (!y4)) rfl rfl ?_
 refine Zb (Zd (E_ret ?_))
 obtain rfl:=sinj h
 exact end1 rfl rfl (show _=.bool (!y4) from rfl) ⟨_,hfr,rfl⟩
def f97 (x0:List Str) (x1:List Zz):Option (Bool):=
 (f90 x1 ((fun a0=>f172 a0 x0))).bind fun y3=>
 some ((!y3))
theorem en97:Enters Try.prog 97:=enters_of Try.func97 (by kernel_rfl) rfl
theorem wk97 {gI:Gh} {wI:World} {x0:List Str} {x1:List Zz} {up0:Value} (rp0:RV gI.m wI x0 up0) {up1:Value} (rp1:RV gI.m wI x1 up1) {r:Bool} (h:f97 x0 x1=some r):Fn Try.prog 97 #[up0,up1] gI wI (fun _ _ v=>v=.bool (r)):=by
 unfold f97 at h
 refine fn_of_E Try.func97 rfl (Nat.le_of_ble_eq_true rfl) fun g0 hm hfr=>?_
 have rp0:RV g0.m wI x0 up0:=hm ▸ rp0
 have rp1:RV g0.m wI x1 up1:=hm ▸ rp1
 show E _ 9 none _ _ _ _ _
 refine Zf (Za (Ze .plain rfl (D_box (g:=g0) rfl rp0 fun g1 w1 p1 hs q1=>?_)))
 have hfr:=hfr.ext hs
 have rp1:=rp1.ext hs
 refine Zg (.bool false) rfl rfl ?_
 refine Zb (Zd (Zf (Za (Zn up1 rfl rfl ?_))))
 refine Ga ((.func (.func 172) #[] #[p1])) (P_makeFunc (capf_0_1 (show ev _ _=p1 from rfl))) rfl ?_
 obtain ⟨y3,hy3,h⟩:=Ge h
 refine Ze .plain rfl (Zp (g:=g1) (vs:=[up1,(.func (.func 172) #[] #[p1])]) en90 (.cons rfl (.cons rfl .nil)) (wk90 rp1 ⟨172,#[],#[p1],rfl,en172,fun g' w' hch a0 b0 r hu0 hr=>by exact Fn.mono (wk172 hu0 (q1.ch hch) hr) fun _ _ _ h=>RV_bool.2 h⟩ hy3) fun g2 w2_ v2 hs hr=>?_)
 have hfr:=hfr.ext hs
 subst hr
 refine Ga (.bool (!y3)) (P_not rfl) rfl ?_
 refine Zg (.bool (!y3)) rfl rfl ?_
 refine Zb (Zd (E_ret ?_))
 obtain rfl:=sinj h
 exact end1 rfl rfl (show _=.bool (!y3) from rfl) ⟨_,hfr,rfl⟩
def f98 (x0:List Int):Option (It (Int × Int)):=
 some ((fun σ cons s=>f173 x0 σ cons s))
theorem en98:Enters Try.prog 98:=enters_of Try.func98 (by kernel_rfl) rfl
theorem wk98 {gI:Gh} {wI:World} {x0:List Int} {up0:Value} (rp0:RV gI.m wI x0 up0) {r:It (Int × Int)} (h:f98 x0=some r):Fn Try.prog 98 #[up0] gI wI (fun m w v=>ItV Try.prog (RA2 (α:=Int) (β:=Int)) (r) v m w):=by
 unfold f98 at h
 refine fn_of_E Try.func98 rfl (Nat.le_of_ble_eq_true rfl) fun g0 hm hfr=>?_
 have rp0:RV g0.m wI x0 up0:=hm ▸ rp0
 show E _ 4 none _ _ _ _ _
 refine Zf (Za (Ze .plain rfl (D_box (g:=g0) rfl rp0 fun g1 w1 p1 hs q1=>?_)))
 have hfr:=hfr.ext hs
 refine Zg (.nilFunc) rfl rfl ?_
 refine Zb (Zd (Zf (Za (Ga ((.func (.func 173) #[] #[p1])) (P_makeFunc (capf_0_1 (show ev _ _=p1 from rfl))) rfl ?_))))
 refine Zg ((.func (.func 173) #[] #[p1])) rfl rfl ?_
 refine Zb (Zd (E_ret ?_))
 obtain rfl:=sinj h
 exact end1 rfl rfl (show _=(.func (.func 173) #[] #[p1]) from rfl) ⟨_,hfr,(show ItV Try.prog (RA2 (α:=Int) (β:=Int)) (fun σ cons s=>f173 x0 σ cons s) ((.func (.func 173) #[] #[p1])) g1.m w1 from ⟨173,#[],#[p1],rfl,en173,fun g' w' hch σ cons s s' h=>wk173  (q1.ch hch) h⟩)⟩
def f103 (x0:Int) (x1:Int) (x2:List Int):Option (Bool):=
 (f165 x2 ((fun a0=>f179 a0 x0 x1))).bind fun y4=>
 some ((!y4))
theorem en103:Enters Try.prog 103:=enters_of Try.func103 (by kernel_rfl) rfl
theorem wk103 {gI:Gh} {wI:World} {x0:Int} {x1:Int} {x2:List Int} {up2:Value} (rp2:RV gI.m wI x2 up2) {r:Bool} (h:f103 x0 x1 x2=some r):Fn Try.prog 103 #[.int .i64 (x0),.int .i64 (x1),up2] gI wI (fun _ _ v=>v=.bool (r)):=by
 unfold f103 at h
 refine fn_of_E Try.func103 rfl (Nat.le_of_ble_eq_true rfl) fun g0 hm hfr=>?_
 have rp2:RV g0.m wI x2 up2:=hm ▸ rp2
 show E _ 11 none _ _ _ _ _
 refine Zf (Za (Ze .plain rfl (D_box (g:=g0) rfl (Zj.2 rfl) fun g1 w1 p1 hs q1=>?_)))
 have hfr:=hfr.ext hs
 have rp2:=rp2.ext hs
 refine Ze .plain rfl (D_box (g:=g1) rfl (Zj.2 rfl) fun g2 w2 p2 hs q2=>?_)
 have hfr:=hfr.ext hs
 have rp2:=rp2.ext hs
 have q1:=q1.ext hs
 refine Zg (.bool false) rfl rfl ?_
 refine Zb (Zd (Zf (Za (Zn up2 rfl rfl ?_))))
 refine Ga ((.func (.func 179) #[] #[p1,p2])) (P_makeFunc (capf_0_2 (show ev _ _=p1 from rfl) (show ev _ _=p2 from rfl))) rfl ?_
 obtain ⟨y4,o0,h⟩:=Ge h
 refine Ze .plain rfl (Zp (g:=g2) (vs:=[up2,(.func (.func 179) #[] #[p1,p2])]) en165 (.cons rfl (.cons rfl .nil)) (wk165 rp2 ⟨179,#[],#[p1,p2],rfl,en179,fun g' w' hch a0 b0 r hu0 hr=>by obtain rfl:=Zj.1 hu0; exact Fn.mono (wk179  (q1.ch hch) (q2.ch hch) hr) fun _ _ _ h=>RV_bool.2 h⟩ o0) fun g3 w3_ v3 hs hr=>?_)
 have hfr:=hfr.ext hs
 subst hr
 refine Ga (.bool (!y4)) (P_not rfl) rfl ?_
 refine Zg (.bool (!y4)) rfl rfl ?_
 refine Zb (Zd (E_ret ?_))
 obtain rfl:=sinj h
 exact end1 rfl rfl (show _=.bool (!y4) from rfl) ⟨_,hfr,rfl⟩
def f106 (x0:TieTieHarness) (x1:Int):Option (Str):=
 Option.bind (α:=List UInt8) (
  lp (σ:=List UInt8 × Int) (fun z9 (i6,o0)=>
   bif (decide (o0 < ((((x0).TieHarness).Warps).length : Int))) then
    Option.bind (α:=List UInt8) (
     (f187 x0 x1 o0).bind fun m8=>
     (f186 m8).bind fun n8=>
     (apnd 1 i6 [n8]).bind fun y43=>
     some (y43)
     ) fun t5=>
    z9 (t5,(w64 (o0 + (1:Int))))
   else
    some (i6)
   ) big (([]:List UInt8),(0:Int))
  ) fun x6=>
 (sbstr x6).bind fun g8=>
 some (g8)
theorem en106:Enters Try.prog 106:=enters_of Try.func106 (by kernel_rfl) rfl
theorem wk106 {gI:Gh} {wI:World} {x0:TieTieHarness} {x1:Int} {up0:Value} (rp0:RV gI.m wI x0 up0) {r:Str} (h:f106 x0 x1=some r):Fn Try.prog 106 #[up0,.int .i64 (x1)] gI wI (fun _ _ v=>v=Str.v (r)):=by
 unfold f106 at h
 refine fn_of_E Try.func106 rfl (Nat.le_of_ble_eq_true rfl) fun g0 hm hfr=>?_
 have rp0:RV g0.m wI x0 up0:=hm ▸ rp0
 show E _ 22 none _ _ _ _ _
 refine Zf (Za (Ze .plain rfl (D_box (g:=g0) rfl rp0 fun g1 w1 p1 hs q1=>?_)))
 have hfr:=hfr.ext hs
 refine Zg (Str.v (⟨[]⟩:Str)) rfl rfl ?_
 refine Zb (Zd (Zf (Za (Ze .plain rfl (D_allocOc (g:=g1) 2005 ((⟨.pointer none,rfl⟩,[]):Fv × List UInt8) Try.zeroValue331 (fun m w=>⟨_,rep_two (show GoT.rep m w (⟨.pointer none,rfl⟩:Fv) [.pointer none] from rfl) rep_nil,rfl⟩) fun g2 w2 p2 hs b2 cb=>?_)))))
 have hfr:=hfr.stp hs
 have q1:=q1.stp hs
 replace b2:SB 2005 60501 g2 w2 5 331 [] p2:=⟨_,b2,cb.osf rfl,.inl rfl⟩
 clear cb
 refine Zb (Zd ?_)
 obtain ⟨x6,hx,h⟩:=Ge h
 refine E_join (fun e w=>∃ (g:Gh) ,Fr gI wI g w∧e 5=p2∧SB 2005 60501 g w 5 331 (x6) p2) (fun Q' hQ=>?_) (fun yB rC hR=>?_)
 ·replace h := hx
  clear hx
  refine Zf (Za (Ga (fPtr p1 0) (Zc at_221_0 rfl (PT.ptr q1)) rfl ?_))
  have bA:=Zm (part_TieTieHarness_0).1 q1
  refine Ga (fPtr (fPtr p1 0) 1) (Zc at_28_1 rfl (PT.ptr bA)) rfl ?_
  have iB:=Zm (part_TieHarness_1).1 bA
  refine Ze .plain rfl (D_load (g:=g2) Try.isAgg26 Try.sizeOf26 rfl iB fun uC lB=>?_)
  refine Ga (.int .i64 ((((x0).TieHarness).Warps).length:Int)) (P_len Try.underlying26 rfl lB) rfl ?_
  refine Zn (.int .i64 (0)) rfl rfl ?_
  refine Zb (Zd (Zr ?_))
  refine E_lp h (fun (s:List UInt8 × Int) e w=>∃ (g:Gh) ,Fr gI wI g w∧e 1=.int .i64 (x1)∧e 2=p1∧PT g.m w (x0:TieTieHarness) p1∧e 5=p2∧SB 2005 60501 g w 5 331 (s.1) p2∧e 10=.int .i64 (((((x0).TieHarness).Warps).length:Int))∧e 11=.int .i64 (s.2)) ⟨g2,hfr,rfl,rfl,q1,rfl,b2,rfl,rfl⟩ (fun X27 z9 iA=>?_)
  rintro ⟨i6,o0⟩ zB vC ⟨r8,hfr,k8,l8,u3,y6,l5,i7,x5⟩ h
  refine Zf (Za (Ga (.bool ((decide (o0 < ((((x0).TieHarness).Warps).length:Int))))) (P_int x5 i7 rfl) rfl ?_))
  refine Zb (Zd (Zf ?_))
  rcases Zt h with ⟨m7,h⟩ | ⟨m7,h⟩
  ·refine E_ct m7 rfl ?_
   refine Zu (Zd ?_)
   obtain ⟨t5,hx,h⟩:=Ge h
   refine E_join (fun e w=>∃ (g:Gh) ,Fr gI wI g w∧e 1=.int .i64 (x1)∧e 2=p1∧PT g.m w (x0:TieTieHarness) p1∧e 5=p2∧SB 2005 60501 g w 5 331 (t5) p2∧e 10=.int .i64 (((((x0).TieHarness).Warps).length:Int))∧e 11=.int .i64 (o0)) (fun Q' hQ=>?_) (fun cC aD hR=>?_)
   ·replace h := hx
    clear hx
    refine Zr ?_
    refine Zf (Za (Zo x5 rfl ?_))
    refine Zg (.int .i64 (o0)) rfl rfl ?_
    refine Zb (Zd (Za (Ze .plain rfl (D_load (g:=r8) Try.isAgg221 Try.sizeOf221 l8 u3 fun mB nB=>?_))))
    refine Zo k8 rfl ?_
    refine Zn (.int .i64 (o0)) rfl rfl ?_
    obtain ⟨m8,rA,h⟩:=Ge h
    refine Ze .plain rfl (Zp (g:=r8) (vs:=[mB,.int .i64 (x1),.int .i64 (o0)]) en187 (.cons rfl (.cons rfl (.cons rfl .nil))) (wk187 nB rA) fun oB mC bD hs hr=>?_)
    have hfr:=hfr.ext hs
    have u3:=u3.ext hs
    have l5:=l5.ext hs
    subst hr
    obtain ⟨n8,yA,h⟩:=Ge h
    refine Ze .plain rfl (Zp (g:=oB) (vs:=[.bool (m8)]) en186 (.cons rfl .nil) (wk186  yA) fun cD qC eD hs hr=>?_)
    have hfr:=hfr.ext hs
    have u3:=u3.ext hs
    have l5:=l5.ext hs
    subst hr
    obtain ⟨y43,aB,h⟩:=Ge h
    refine Ze .plain rfl (D_callC (vs:=[p2,.int .u8 (UInt8.toNat (n8))]) en185 (.cons y6 (.cons rfl .nil)) (wk185 (i:=2005) (j:=60501) rfl rfl l5 aB) fun gD iD hq=>?_)
    obtain ⟨hv,tB,⟨_,_,_,_,hs1,hs2,hs3⟩,b42⟩:=hq
    subst hv
    have hfr:=hfr.stp hs1
    have u3:=u3.stp hs1
    have hfr:=hfr.stp hs2
    have u3:=u3.stp hs2
    have hfr:=hfr.stp hs3
    have u3:=u3.stp hs3
    clear hs1 hs2 hs3
    refine Zb (blk_n ?_)
    obtain rfl:=sinj h
    exact hQ _ _ ⟨tB,hfr,k8,l8,u3,y6,b42,i7,x5⟩
   ·clear hx
    obtain ⟨vB,hfr,a9,d9,k9,l9,n9,v8,x8⟩:=hR
    refine Za (EL_in (.int .i64 ((w64 (o0 + (1:Int))))) x8 rfl rfl rfl ?_)
    refine Zn (.int .i64 ((w64 (o0 + (1:Int))))) rfl rfl ?_
    exact Zb (Zd (iA (t5,(w64 (o0 + (1:Int)))) _ _ ⟨vB,hfr,a9,d9,k9,l9,n9,v8,rfl⟩ h))
  ·refine E_cf m7 rfl ?_
   refine E_exit ?_
   refine thn_e ?_
   refine thn_e ?_
   refine blk_hit ?_
   obtain rfl:=sinj h
   exact hQ _ _ ⟨r8,hfr,y6,l5⟩
 ·clear hx
  obtain ⟨jD,hfr,u9,y9⟩:=hR
  refine Zf (Za ?_)
  obtain ⟨g8,dB,h⟩:=Ge h
  obtain ⟨hne46,hye46⟩:=sbstr_h dB
  refine Ze .plain rfl (D_callC (vs:=[p2]) en188 (.cons u9 .nil) (wk188 (i:=2005) (j:=60501) rfl y9 hne46) fun lD nD hq=>?_)
  obtain ⟨hv,oD,hs⟩:=hq
  rw [← hye46] at hv
  subst hv
  have hfr:=hfr.stp hs
  refine Zg (Str.v g8) rfl rfl ?_
  refine Zb (Zd (E_ret ?_))
  obtain rfl:=sinj h
  exact end1 rfl rfl (show _=Str.v g8 from rfl) ⟨_,hfr,rfl⟩
theorem v91_0 {iO:Nat} {gI:Gh} {wI:World} {x0:List Int} {x1:Int} {up0:Value} (rp0:RV gI.m wI x0 up0) {r:(List Int)} (h:f91 x0 x1=some r):FnG Try.prog 91 #[up0,.int .i64 (x1)] gI wI (fun g w v=>OM iO g w 3 (r) v):=by
 unfold f91 at h
 refine fnG_of_E Try.func91 rfl (Nat.le_of_ble_eq_true rfl) fun g0 hm hfr=>?_
 have rp0:RV g0.m wI x0 up0:=hm ▸ rp0
 show E _ 48 none _ _ _ _ _
 refine Zf (Za (Zg (.slice none 0 0) rfl rfl ?_))
 have b1:OA 4004 g0 wI 3 ([]:List Int) (.slice none 0 0):=OA.nil
 refine Zb (Zd ?_)
 obtain ⟨_,hx,h⟩:=Ge h
 refine E_join (fun e w=>∃ (g:Gh) ,Fr gI wI g w∧e 0=up0∧RV g.m w (x0:List Int) up0∧e 1=.int .i64 (x1)) (fun Q' hQ=>?_) (fun vC w4 hR=>?_)
 ·replace h := hx
  clear hx
  refine Zf (Za (Zn (.int .i64 (x1)) rfl rfl ?_))
  refine EL_in (.bool ((decide (x1 < (0:Int))))) rfl rfl rfl rfl ?_
  refine Zb (Zd ?_)
  rcases Zt h with ⟨hc3,h⟩ | ⟨hc3,h⟩
  ·refine E_ct hc3 rfl ?_
   refine Za ?_
   cases h
  ·refine E_cf hc3 rfl ?_
   refine Zu ?_
   obtain rfl:=sinj h
   exact hQ _ _ ⟨g0,hfr,rfl,rp0,rfl⟩
 ·clear hx
  obtain ⟨g4,hfr,l8,m8,aB⟩:=hR
  refine Zf (Za (Zo l8 rfl ?_))
  refine Ga (.int .i64 ((x0).length:Int)) (P_len Try.underlying26 rfl m8) rfl ?_
  refine Ga (.int .u64 (wu64 ((x0).length:Int))) (P_intu64 Try.underlying3 Try.underlying95 rfl) rfl ?_
  refine Zo aB rfl ?_
  refine Ga (.int .u64 (wu64 x1)) (P_intu64 Try.underlying3 Try.underlying95 rfl) rfl ?_
  obtain ⟨y5,hy5,h⟩:=Ge h
  refine Ze .plain rfl (D_mulU en168 mul_ok rfl rfl hy5 ?_)
  refine Zn (.tuple #[.int .u64 y5.1,.int .u64 y5.2]) rfl rfl ?_
  refine Ga (.int .u64 y5.1) (Zi rfl rfl) rfl ?_
  refine Ga (.int .u64 y5.2) (Zi rfl rfl) rfl ?_
  refine Zg (.int .u64 y5.1) rfl rfl ?_
  refine Zg (.int .u64 y5.2) rfl rfl ?_
  refine Zb (Zd ?_)
  obtain ⟨_,hx,h⟩:=Ge h
  refine E_join (fun e w=>∃ (g:Gh) ,Fr gI wI g w∧e 0=up0∧RV g.m w (x0:List Int) up0∧e 6=.int .u64 y5.2) (fun Q' hQ=>?_) (fun cC aD hR=>?_)
  ·replace h := hx
   clear hx
   obtain ⟨i6,hx,h⟩:=Ge h
   refine E_join (fun e w=>∃ (g:Gh) ,Fr gI wI g w∧e 0=up0∧RV g.m w (x0:List Int) up0∧e 6=.int .u64 y5.2∧e 26=.bool (i6)) (fun Q' hQ=>?_) (fun mC bD hR=>?_)
   ·replace h := hx
    clear hx
    refine Za (Zn (.int .u64 y5.1) rfl rfl ?_)
    refine Ga (.bool (decide (y5.1 > (0:Int)))) (P_u64cmp rfl rfl rfl) rfl ?_
    refine Zn (.bool (decide (y5.1 > (0:Int)))) rfl rfl ?_
    rcases Zt h with ⟨l5,h⟩ | ⟨l5,h⟩
    ·refine Gc rfl rfl l5 rfl rfl ?_
     refine Gc rfl rfl l5 rfl rfl ?_
     refine Ga (.bool true) (Zl (b:=(decide (y5.1 > (0:Int)))) rfl (pick_t l5 rfl)) rfl ?_
     refine Zb ?_
     obtain rfl:=sinj h
     exact hQ _ _ ⟨g4,hfr,l8,m8,rfl,rfl⟩
    ·refine Gb (.int .u64 y5.2) (Zk rfl) rfl rfl l5 rfl ?_
     refine Gb (.bool (decide (y5.2 > (9223372036854775807:Int)))) (P_u64cmp rfl rfl rfl) rfl rfl l5 rfl ?_
     refine Ga (.bool (decide (y5.2 > (9223372036854775807:Int)))) (Zl (b:=(decide (y5.1 > (0:Int)))) rfl (pick_f l5 rfl)) rfl ?_
     refine Zb ?_
     obtain rfl:=sinj h
     exact hQ _ _ ⟨g4,hfr,l8,m8,rfl,rfl⟩
   ·clear hx
    obtain ⟨mB,hfr,k9,l9,n9,k8⟩:=hR
    rcases Zt h with ⟨n8,h⟩ | ⟨n8,h⟩
    ·refine E_cond_true (Eq.trans (show ev _ _ = .bool (i6) from k8) (congrArg Value.bool n8)) ?_
     refine Za ?_
     cases h
    ·refine E_cond_false (Eq.trans (show ev _ _ = .bool (i6) from k8) (congrArg Value.bool n8)) ?_
     refine Zu ?_
     obtain rfl:=sinj h
     exact hQ _ _ ⟨mB,hfr,k9,l9,n9⟩
  ·clear hx
   obtain ⟨nB,hfr,u9,x6,y9⟩:=hR
   refine Zf (Za (Zo y9 rfl ?_))
   refine Ga (.int .i64 ((w64 y5.2))) (P_u64int Try.underlying95 Try.underlying3 rfl) rfl ?_
   obtain ⟨oB,dB,h⟩:=Ge h
   refine Ze .plain rfl (D_makeSliceM (g:=nB) 9030 (0:Int) rfl Try.underlying26 info_3 rfl (fun _ _=>rfl) rfl rfl dB fun tB cD u3 hs b16=>?_)
   have hfr:=hfr.stp hs
   have x6:=x6.stp hs
   refine Zg u3 rfl rfl ?_
   refine Zb (Zd (Zf (Za (Zn u3 rfl rfl ?_))))
   refine Zo u9 rfl ?_
   refine Ze .plain rfl (D_copyM (g:=tB) (α:=Int) Try.underlying26 info_3 rfl b16 rfl x6 fun vB eD hs b17=>?_)
   have hfr:=hfr.stp hs
   refine Zg (.int .i64 ((min (x0).length (oB).length:Nat):Int)) rfl rfl ?_
   refine Zb (Zd ?_)
   obtain ⟨z9,hx,h⟩:=Ge h
   refine E_join (fun e w=>∃ (g:Gh) ,Fr gI wI g w∧e 7=u3∧OM 9030 g w 3 (z9:List Int) u3) (fun Q' hQ=>?_) (fun qC gD hR=>?_)
   ·replace h := hx
    clear hx
    refine Zr ?_
    refine E_lp h (fun (s:(List Int) × Int) e w=>∃ (g:Gh) ,Fr gI wI g w∧e 7=u3∧OM 9030 g w 3 (s.1:List Int) u3∧e 8=.int .i64 (s.2)) ⟨vB,hfr,rfl,b17,rfl⟩ (fun X30 iD iB=>?_)
    rintro ⟨t5,o0⟩ rC jD ⟨rA,hfr,y6,i7,v8⟩ h
    refine Zq h (fun (s:Unit) e w=>∃ (g:Gh) ,Fr gI wI g w∧e 7=u3∧OM 9030 g w 3 (t5:List Int) u3∧e 8=.int .i64 (o0)) (fun X33 k33 lB h=>?_) ?_
    ·refine Zf (Za (Zo v8 rfl ?_))
     refine Zo y6 rfl ?_
     refine Ga (.int .i64 ((t5).length:Int)) (P_lenM Try.underlying26 rfl i7) rfl ?_
     refine EL_in (.bool ((decide (o0 < ((t5).length:Int))))) rfl rfl rfl rfl ?_
     refine Zb (Zd ?_)
     rcases Zt h with ⟨r8,h⟩ | ⟨r8,h⟩
     ·refine E_ct r8 rfl ?_
      exact Zu (Zd (lB () _ _ ⟨rA,hfr,y6,i7,v8⟩ h))
     ·refine E_cf r8 rfl ?_
      refine E_exit ?_
      refine thn_e ?_
      refine thn_e ?_
      refine blk_hit ?_
      obtain rfl:=sinj h
      exact hQ _ _ ⟨rA,hfr,y6,i7⟩
    ·rintro _ uC yB ⟨yA, hfr, m7, x5, g8⟩ h
     refine Zr ?_
     obtain ⟨x8,a9,h⟩:=Ge h
     obtain ⟨y40,d9,h⟩:=Ge h
     refine E_drawC (g:=yA) (w:=yB) (n:=8) [0,1,2,3,4,5,6] [] [0,1,2,3,4,5,6,7] rfl mixed (by kernel_rfl) fun w_c38 hs hlt=>?_
     have hfr:=hfr.ext hs
     have x5:=x5.ext hs
     clear hs
     refine CH_pur (c:=.int .i64 (o0)) rfl rfl .plain (Zk g8) ?_
     refine CH_pur (c:=u3) rfl rfl .plain (Zk m7) ?_
     refine CH_pur (c:=.int .i64 (o0)) rfl rfl .plain (Zk g8) ?_
     refine CH_pur (c:=(cutV u3 (Int.toNat o0) (Int.toNat ((t5).length:Int)) 1)) rfl rfl .plain (P_cutM (α:=Int) Try.underlying26 Try.sizeOf3 rfl (OM.hdr x5) rfl rfl a9) ?_
     refine CH_pur (c:=u3) rfl rfl .plain (Zk m7) ?_
     refine CH_pur (c:=.int .i64 (o0)) rfl rfl .plain (Zk g8) ?_
     refine CH_pur (c:=(cutV u3 0 (Int.toNat o0) 1)) rfl rfl .plain (P_cutM (α:=Int) Try.underlying26 Try.sizeOf3 rfl (OM.hdr x5) rfl rfl d9) ?_
     refine CH_do rfl rfl .plain (D_copyMM (g:=yA) (α:=Int) Try.underlying26 info_3 rfl x5 rfl a9 d9 fun zB lD hs b41=>?_)
     have hfr:=hfr.stp hs
     have hlt:=hlt.stp hs
     refine ⟨hlt.toW,?_⟩
     refine CH_nil ?_
     clear hlt
     refine Ga (.int .i64 ((w64 (o0 + ((min (y40).length (x8).length:Nat):Int))))) (P_int rfl rfl rfl) rfl ?_
     refine Ga (.int .i64 ((w64 (o0 + ((min (y40).length (x8).length:Nat):Int))))) (P_assign rfl) rfl ?_
     exact Zb (blk_n (Zd (iB ((cpy t5 o0 x8 y40),(w64 (o0 + ((min (y40).length (x8).length:Nat):Int)))) _ _ ⟨zB,hfr,m7,b41,rfl⟩ h)))
   ·clear hx
    obtain ⟨nD,hfr,bA,iA⟩:=hR
    refine Zf (Za (Zo bA rfl ?_))
    refine Zg u3 rfl rfl ?_
    refine Zb (Zd (E_ret ?_))
    obtain rfl:=sinj h
    obtain ⟨gh,hxh,hmh,homh⟩:=OM.handM (i:=iO) hfr iA
    exact end1 rfl rfl (show _=u3 from rfl) ⟨gh,hxh,homh⟩
def f147 (x0:Zv) (x1:Zv):Option (Int):=
 (f148 ((x0).Kind)).bind fun y6=>
 (f148 ((x1).Kind)).bind fun o0=>
 some ((w64 (y6 - o0)))
theorem en147:Enters Try.prog 147:=enters_of Try.func147 (by kernel_rfl) rfl
theorem wk147 {gI:Gh} {wI:World} {x0:Zv} {x1:Zv} {up0:Value} (rp0:RV gI.m wI x0 up0) {up1:Value} (rp1:RV gI.m wI x1 up1) {r:Int} (h:f147 x0 x1=some r):Fn Try.prog 147 #[up0,up1] gI wI (fun _ _ v=>v=.int .i64 (r)):=by
 unfold f147 at h
 refine fn_of_E Try.func147 rfl (Nat.le_of_ble_eq_true rfl) fun g0 hm hfr=>?_
 have rp0:RV g0.m wI x0 up0:=hm ▸ rp0
 have rp1:RV g0.m wI x1 up1:=hm ▸ rp1
 show E _ 12 none _ _ _ _ _
 refine Zf (Za (Ze .plain rfl (D_box (g:=g0) rfl rp0 fun g1 w1 p1 hs q1=>?_)))
 have hfr:=hfr.ext hs
 have rp1:=rp1.ext hs
 refine Ze .plain rfl (D_box (g:=g1) rfl rp1 fun g2 w2 p2 hs q2=>?_)
 have hfr:=hfr.ext hs
 have q1:=q1.ext hs
 refine Zg (.int .i64 (0)) rfl rfl ?_
 refine Zb (Zd (Zf ?_))
 have q3:=Zm (part_FaultDamage_0).1 q1
 refine Zs (x:=.tmp 5) Try.isAgg54 Try.sizeOf54 q3 fun v4 r4 l5=>?_
 obtain rfl:=Zj.1 r4
 obtain ⟨y6,t5,h⟩:=Ge h
 have q7:=Zm (part_FaultDamage_0).1 q2
 refine Zs (x:=.tmp 8) Try.isAgg54 Try.sizeOf54 q7 fun v8 r8 x5=>?_
 obtain rfl:=Zj.1 r8
 obtain ⟨o0,u3,h⟩:=Ge h
 refine E_drawL (g:=g2) (n:=8) [(2,(fun v g w=>v=.int .i64 (y6))),(5,(fun v g w=>v=.int .i64 (o0)))] [0,1,2,3,4,5,6,7] rfl mixed (by kernel_rfl) (⟨fun _=>up_eq _,fun _=>up_eq _,trivial⟩) ?_
 refine Gd (fPtr p1 0) rfl rfl (Zc at_56_0 rfl (PT.ptr q1)) ?_
 refine L_ld (c:=.int .i64 ((x0).Kind)) rfl rfl .plain (fun _ _ h=>h.ch) l5 rfl ?_
 refine L_do (φ:=fun v g w=>v=.int .i64 (y6)) rfl rfl .plain (fun g w hd=>Zp (g:=g) (vs:=[.int .i64 ((x0).Kind)]) en148 (.cons rfl .nil) (wk148  t5) fun g' w' v hs hr=>⟨g',hs,hr⟩) (fun v5 hv=>?_)
 obtain ⟨_,_,_,rfl⟩:=hv
 refine Gd (fPtr p2 0) rfl rfl (Zc at_56_0 rfl (PT.ptr q2)) ?_
 refine L_ld (c:=.int .i64 ((x1).Kind)) rfl rfl .plain (fun _ _ h=>h.ch) x5 rfl ?_
 refine L_do (φ:=fun v g w=>v=.int .i64 (o0)) rfl rfl .plain (fun g w hd=>Zp (g:=g) (vs:=[.int .i64 ((x1).Kind)]) en148 (.cons rfl .nil) (wk148  u3) fun g' w' v hs hr=>⟨g',hs,hr⟩) (fun v9 hv=>?_)
 obtain ⟨_,_,_,rfl⟩:=hv
 refine Gd (.int .i64 ((w64 (y6 - o0)))) rfl rfl (P_int rfl rfl rfl) ?_
 refine Gd (.int .i64 ((w64 (y6 - o0)))) rfl rfl (P_assign rfl) ?_
 refine L_nl fun i6 x6 hs=>?_
 have hfr:=hfr.ext hs
 clear hs
 refine Zb (Zd (E_ret ?_))
 obtain rfl:=sinj h
 exact end1 rfl rfl (show _=.int .i64 ((w64 (y6 - o0))) from rfl) ⟨_,hfr,rfl⟩
def f150 (x0:List Str) (x1:List Str):Option (It (Int × Int)):=
 some ((fun σ cons s=>f229 x0 x1 σ cons s))
theorem en150:Enters Try.prog 150:=enters_of Try.func150 (by kernel_rfl) rfl
theorem wk150 {gI:Gh} {wI:World} {x0:List Str} {x1:List Str} {up0:Value} (rp0:RV gI.m wI x0 up0) {up1:Value} (rp1:RV gI.m wI x1 up1) {r:It (Int × Int)} (h:f150 x0 x1=some r):Fn Try.prog 150 #[up0,up1] gI wI (fun m w v=>ItV Try.prog (RA2 (α:=Int) (β:=Int)) (r) v m w):=by
 unfold f150 at h
 refine fn_of_E Try.func150 rfl (Nat.le_of_ble_eq_true rfl) fun g0 hm hfr=>?_
 have rp0:RV g0.m wI x0 up0:=hm ▸ rp0
 have rp1:RV g0.m wI x1 up1:=hm ▸ rp1
 show E _ 6 none _ _ _ _ _
 refine Zf (Za (Ze .plain rfl (D_box (g:=g0) rfl rp0 fun g1 w1 p1 hs q1=>?_)))
 have hfr:=hfr.ext hs
 have rp1:=rp1.ext hs
 refine Ze .plain rfl (D_box (g:=g1) rfl rp1 fun g2 w2 p2 hs q2=>?_)
 have hfr:=hfr.ext hs
 have q1:=q1.ext hs
 refine Zg (.nilFunc) rfl rfl ?_
 refine Zb (Zd (Zf (Za (Ga ((.func (.func 229) #[] #[p1,p2])) (P_makeFunc (capf_0_2 (show ev _ _=p1 from rfl) (show ev _ _=p2 from rfl))) rfl ?_))))
 refine Zg ((.func (.func 229) #[] #[p1,p2])) rfl rfl ?_
 refine Zb (Zd (E_ret ?_))
 obtain rfl:=sinj h
 exact end1 rfl rfl (show _=(.func (.func 229) #[] #[p1,p2]) from rfl) ⟨_,hfr,(show ItV Try.prog (RA2 (α:=Int) (β:=Int)) (fun σ cons s=>f229 x0 x1 σ cons s) ((.func (.func 229) #[] #[p1,p2])) g2.m w2 from ⟨229,#[],#[p1,p2],rfl,en229,fun g' w' hch σ cons s s' h=>wk229  (q1.ch hch) (q2.ch hch) h⟩)⟩
def f184 (x0:Int) (x1:Int) (x2:List Int):Option (Bool):=
 (f165 x2 ((fun a0=>f241 a0 x0 x1))).bind fun y4=>
 some ((!y4))
theorem en184:Enters Try.prog 184:=enters_of Try.func184 (by kernel_rfl) rfl
theorem wk184 {gI:Gh} {wI:World} {x0:Int} {x1:Int} {x2:List Int} {up2:Value} (rp2:RV gI.m wI x2 up2) {r:Bool} (h:f184 x0 x1 x2=some r):Fn Try.prog 184 #[.int .i64 (x0),.int .i64 (x1),up2] gI wI (fun _ _ v=>v=.bool (r)):=by
 unfold f184 at h
 refine fn_of_E Try.func184 rfl (Nat.le_of_ble_eq_true rfl) fun g0 hm hfr=>?_
 have rp2:RV g0.m wI x2 up2:=hm ▸ rp2
 show E _ 11 none _ _ _ _ _
 refine Zf (Za (Ze .plain rfl (D_box (g:=g0) rfl (Zj.2 rfl) fun g1 w1 p1 hs q1=>?_)))
 have hfr:=hfr.ext hs
 have rp2:=rp2.ext hs
 refine Ze .plain rfl (D_box (g:=g1) rfl (Zj.2 rfl) fun g2 w2 p2 hs q2=>?_)
 have hfr:=hfr.ext hs
 have rp2:=rp2.ext hs
 have q1:=q1.ext hs
 refine Zg (.bool false) rfl rfl ?_
 refine Zb (Zd (Zf (Za (Zn up2 rfl rfl ?_))))
 refine Ga ((.func (.func 241) #[] #[p1,p2])) (P_makeFunc (capf_0_2 (show ev _ _=p1 from rfl) (show ev _ _=p2 from rfl))) rfl ?_
 obtain ⟨y4,o0,h⟩:=Ge h
 refine Ze .plain rfl (Zp (g:=g2) (vs:=[up2,(.func (.func 241) #[] #[p1,p2])]) en165 (.cons rfl (.cons rfl .nil)) (wk165 rp2 ⟨241,#[],#[p1,p2],rfl,en241,fun g' w' hch a0 b0 r hu0 hr=>by obtain rfl:=Zj.1 hu0; exact Fn.mono (wk241  (q1.ch hch) (q2.ch hch) hr) fun _ _ _ h=>RV_bool.2 h⟩ o0) fun g3 w3_ v3 hs hr=>?_)
 have hfr:=hfr.ext hs
 subst hr
 refine Ga (.bool (!y4)) (P_not rfl) rfl ?_
 refine Zg (.bool (!y4)) rfl rfl ?_
 refine Zb (Zd (E_ret ?_))
 obtain rfl:=sinj h
 exact end1 rfl rfl (show _=.bool (!y4) from rfl) ⟨_,hfr,rfl⟩
end Go.Proofs.Ytjoniingnbmljaa
