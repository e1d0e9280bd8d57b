import Derived.Test.YtpglkdijpcgcaaaGreatDoorTypes
import Derived.Test.YtpglkdijpcgcaaaGreatDoorIt
import Derived.Test.YtpglkdijpcgcaaaGreatDoorShelf
import Derived.Test.YtpglkdijpcgcaaaGreatDoorSf
import Derived.Test.YtpglkdijpcgcaaaGreatDoorSg
import Derived.Test.YtpglkdijpcgcaaaGreatDoorVs
set_option maxRecDepth 8000
set_option maxHeartbeats 4000000
namespace Go.Proofs.YtpglkdijpcgcaaaGreatDoor
open Go.RowKit Tryz
variable {gI:Gh} {wI:World} {up0 up1 up2 up4:Value}
theorem Lu:(prog.info? 57).map (fun i=>(i.zero,i.size,i.bytes))=some (some (.agg #[.int .i64 0,.int .i64 0,.int .i64 0]),3,24):=by kernel_rfl
theorem R9:(prog.info? 9).map (fun i=>(i.zero,i.size,i.bytes))=some (some (Str.v ⟨[]⟩),1,16):=by kernel_rfl
theorem F6:(prog.info? 5).map (fun i=>(i.zero,i.size,i.bytes))=some (some (.int .u8 0),1,1):=by kernel_rfl
theorem Cs:U3 Z3:=fun _ m' _ w' x _ h=>(K3 Wl (K3 Wl Wl)) _ m' _ w' _ _ h
theorem J5:U3 Z5:=fun _ m' _ w' x _ h=>(K3 Wl (K3 Wl (K3 Wl (K3 Wl Wl)))) _ m' _ w' _ _ h
theorem E0:Qk prog 27=some ([.slice none 0 0,I 0],[(0,1),(1,1)]):=by kernel_rfl
theorem Jf:(prog.info? 3).map (fun i=>(i.zero,i.size,i.bytes))=some (some (.int .i64 0),1,8):=by kernel_rfl
theorem L0:Qk prog 59=some ([I 0,I 0,I 0,I 0,I 0],[(0,1),(1,1),(2,1),(3,1),(4,1)]):=by kernel_rfl
theorem mixed:prog.follows .mixedOrders=true:=by kernel_rfl
theorem Pv:(prog.info? 59).map (fun i=>(i.zero,i.size,i.bytes))=some (some (.agg #[.int .i64 0,.int .i64 0,.int .i64 0,.int .i64 0,.int .i64 0]),5,40):=by kernel_rfl
theorem Kv {P:Program} {e:Env} {ds:List Deferred} {w:World} {fn:Func} {R:Value→World→Prop} {t0:Tmp} {v0:Value} {y0:TypeId} {a0:Addr} {t1:Tmp} {v1:Value} (hres:fn.results=#[.cell t0 y0,.tmp t1]) (hd:ds=[]) (h0:e t0=.pointer (some a0)) (l0:(loadVar y0 a0).run P w=.ok v0 w) (h1:e t1=v1) (h:R (.tuple #[v0,v1]) w):Jd P fn R .ret e ds w:=
 ⟨hd,fun tmps ht=>⟨_,by simp [results,hres,ht,asAddr,h0,l0,h1],h⟩⟩
theorem Bq {P:Program} {e:Env} {ds:List Deferred} {w:World} {fn:Func} {R:Value→World→Prop} {t0:Tmp} {v0:Value} {y0:TypeId} {a0:Addr} (hres:fn.results=#[.cell t0 y0]) (hd:ds=[]) (h0:e t0=.pointer (some a0)) (l0:(loadVar y0 a0).run P w=.ok v0 w) (h:R v0 w):Jd P fn R .ret e ds w:=
 ⟨hd,fun tmps ht=>⟨_,by simp [results,hres,ht,asAddr,h0,l0],h⟩⟩
theorem lay_48:Qk prog 48=some ([I 0,I 0],[(0,1),(1,1)]):=by kernel_rfl
theorem Sq:U3 Z4:=fun _ m' _ w' x _ h=>(K3 Wl (K3 Wl (K3 Wl (K3 Wl Wl)))) _ m' _ w' _ _ h
theorem Oc:Qk prog 116=some ([I 0,.slice none 0 0],[(0,1),(1,1)]):=by kernel_rfl
theorem L3:Qk prog 118=some ([I 0,I 0,.bool false],[(0,1),(1,1),(2,1)]):=by kernel_rfl
theorem E4:(prog.info? 118).map (fun i=>(i.zero,i.size,i.bytes))=some (some (.agg #[.int .i64 0,.int .i64 0,.bool false]),3,24):=by kernel_rfl
theorem Mw:Qk prog 32=some ([I 0,.slice none 0 0],[(0,1),(1,1)]):=by kernel_rfl
theorem Oo:Qk prog 121=some ([Str.v ⟨[]⟩,I 0,.slice none 0 0],[(0,1),(1,2)]):=by kernel_rfl
theorem Og:Qk prog 123=some ([Str.v ⟨[]⟩,I 0,.slice none 0 0],[(0,1),(1,2)]):=by kernel_rfl
theorem lay_72:Qk prog 72=some ([.slice none 0 0,.slice none 0 0],[(0,1),(1,1)]):=by kernel_rfl
theorem lay_34:Qk prog 34=some ([I 0,.slice none 0 0],[(0,1),(1,1)]):=by kernel_rfl
theorem Mo:Qk prog 80=some ([.slice none 0 0,I 0,.slice none 0 0],[(0,2),(2,1)]):=by kernel_rfl
theorem key_3:Vw prog 3 (Value.int .i64):=Nk underlying3
theorem Lc:(prog.info? 4).map (fun i=>(i.zero,i.size,i.bytes))=some (some (.bool false),1,1):=by kernel_rfl
theorem Vo {e:Env} {f:FuncId} {o0:Operand} {b0:Value} (hb0:X e o0=b0):(Value.func (.func f) ((#[]:Array Operand).map (X e)) ((#[o0]:Array Operand).map (X e)))=.func (.func f) #[] #[b0]:=by simp [hb0]
theorem layA_104:((prog.info? 104).bind (·.zero)).map (·.cells.toList)=some [.int .u8 0,.int .u8 0,.int .u8 0,.int .u8 0,.int .u8 0,.int .u8 0,.int .u8 0,.int .u8 0]:=by kernel_rfl
theorem szA_5:(prog.info? 5).map (·.size)=some 1:=by kernel_rfl
theorem Uu {e:Env} {f:FuncId} {o0:Operand} {l5:Operand} {b0:Value} {b1:Value} (hb0:X e o0=b0) (hb1:X e l5=b1):(Value.func (.func f) ((#[]:Array Operand).map (X e)) ((#[o0,l5]:Array Operand).map (X e)))=.func (.func f) #[] #[b0,b1]:=by simp [hb0,hb1]
theorem Dq {P:Program} {e:Env} {ds:List Deferred} {w:World} {fn:Func} {R:Value→World→Prop} {t0:Tmp} {v0:Value} {y0:TypeId} {a0:Addr} {t1:Tmp} {v1:Value} {y1:TypeId} {a1:Addr} {t2:Tmp} {v2:Value} {y2:TypeId} {a2:Addr} (hres:fn.results=#[.cell t0 y0,.cell t1 y1,.cell t2 y2]) (hd:ds=[]) (h0:e t0=.pointer (some a0)) (l0:(loadVar y0 a0).run P w=.ok v0 w) (h1:e t1=.pointer (some a1)) (l1:(loadVar y1 a1).run P w=.ok v1 w) (h2:e t2=.pointer (some a2)) (l2:(loadVar y2 a2).run P w=.ok v2 w) (h:R (.tuple #[v0,v1,v2]) w):Jd P fn R .ret e ds w:=
 ⟨hd,fun tmps ht=>⟨_,by simp [results,hres,ht,asAddr,h0,l0,h1,l1,h2,l2],h⟩⟩
theorem M5:Qk prog 61=some ([I 0,I 0,I 0,I 0,I 0],[(0,1),(1,1),(2,1),(3,1),(4,1)]):=by kernel_rfl
theorem lay_200:Qk prog 200=some ([I 0,.slice none 0 0,I 0],[(0,2),(2,1)]):=by kernel_rfl
theorem lay_36:Qk prog 36=some ([I 0,.slice none 0 0,I 0,.slice none 0 0],[(0,2),(2,2)]):=by kernel_rfl
theorem lay_57:Qk prog 57=some ([I 0,I 0,I 0],[(0,1),(1,1),(2,1)]):=by kernel_rfl
theorem lay_216:Qk prog 216=some ([I 0,.slice none 0 0],[(0,2)]):=by kernel_rfl
theorem S4:(prog.info? 61).map (fun i=>(i.zero,i.size,i.bytes))=some (some (.agg #[.int .i64 0,.int .i64 0,.int .i64 0,.int .i64 0,.int .i64 0]),5,40):=by kernel_rfl
theorem lay_91:Qk prog 91=some ([.slice none 0 0,I 0,.slice none 0 0,I 0,I 0,I 0],[(0,3),(3,3)]):=by kernel_rfl
theorem info_54:(prog.info? 54).map (fun i=>(i.zero,i.size,i.bytes))=some (some (.slice none 0 0),1,24):=by kernel_rfl
theorem Yl:Pl Tf:=Pl.of (Pl.prod Pl.int Pl.int)
theorem fl_164 : prog.fieldsOf 164 = #[{ name := "day", type := 3, offset := 0, embedded := false, tag := "", pkgPath := "griffe/book", byteOffset := 0 }, { name := "loom", type := 3, offset := 1, embedded := false, tag := "", pkgPath := "griffe/book", byteOffset := 8 }] := by kernel_rfl
theorem eqd_164:EqD prog Tf 2 164:=EqD.struct rfl (by kernel_rfl) (by kernel_rfl) (by rw [fl_164];exact (FEq.cons (by decide) U7.1 isAgg3 sizeOf3 (EqD.int underlying3) (FEq.cons (by decide) U6.1 isAgg3 sizeOf3 (EqD.int underlying3) FEq.nil))) (fun x y=>by cases x;cases y;simp)
theorem ckd_164:CkD prog Tf 2 164:=CkD.struct rfl underlying164 fun f hf=>by
 simp only [List.mem_cons,List.not_mem_nil,or_false] at hf;rcases hf with rfl | rfl
 ·exact ⟨by decide,_,_,_,U7.1,isAgg3,sizeOf3,(CkD.int underlying3)⟩
 ·exact ⟨by decide,_,_,_,U6.1,isAgg3,sizeOf3,(CkD.int underlying3)⟩
theorem N0:Vw prog 164 (U8 Yl):=Iq Yl (by rw [underlying164]) rfl eqd_164 ckd_164 (by decide)
theorem Nz:Qk prog 164=some ([I 0,I 0],[(0,1),(1,1)]):=by kernel_rfl
theorem fl_61 : prog.fieldsOf 61 = #[{ name := "Day", type := 3, offset := 0, embedded := false, tag := "", pkgPath := "", byteOffset := 0 }, { name := "Loom", type := 3, offset := 1, embedded := false, tag := "", pkgPath := "", byteOffset := 8 }, { name := "Chain", type := 3, offset := 2, embedded := false, tag := "", pkgPath := "", byteOffset := 16 }, { name := "Tie", type := 3, offset := 3, embedded := false, tag := "", pkgPath := "", byteOffset := 24 }, { name := "Picks", type := 3, offset := 4, embedded := false, tag := "", pkgPath := "", byteOffset := 32 }] := by kernel_rfl
theorem seq_61:SEq (α:=Z4) prog 61:=by
 intro d x y w a b m wx m2 wy hx hy;obtain ⟨_,⟨_,_,rfl,rfl,⟨_,_,rfl,rfl,⟨_,_,rfl,rfl,⟨_,_,rfl,rfl,rfl⟩⟩⟩⟩,rfl⟩:=hx;obtain ⟨_,⟨_,_,rfl,rfl,⟨_,_,rfl,rfl,⟨_,_,rfl,rfl,⟨_,_,rfl,rfl,rfl⟩⟩⟩⟩,rfl⟩:=hy;refine (run_equalIn_struct w (d+1) 61 _ _ (by kernel_rfl) (by kernel_rfl)).trans ?_;rw [fl_61];obtain ⟨x0,x1,x2,x3,x4⟩:=x;obtain ⟨y0,y1,y2,y3,y4⟩:=y;show (Op.eqFields (d+1) #[I x0,I x1,I x2,I x3,I x4] #[I y0,I y1,I y2,I y3,I y4] _).run _ _=_;have x0p:(part 3 #[I x0,I x1,I x2,I x3,I x4] 0).run prog w=.ok (I x0) w:=Wo isAgg3 rfl;have x1p:(part 3 #[I x0,I x1,I x2,I x3,I x4] 1).run prog w=.ok (I x1) w:=Wo isAgg3 rfl;have x2p:(part 3 #[I x0,I x1,I x2,I x3,I x4] 2).run prog w=.ok (I x2) w:=Wo isAgg3 rfl;have x3p:(part 3 #[I x0,I x1,I x2,I x3,I x4] 3).run prog w=.ok (I x3) w:=Wo isAgg3 rfl;have x4p:(part 3 #[I x0,I x1,I x2,I x3,I x4] 4).run prog w=.ok (I x4) w:=Wo isAgg3 rfl;have y0p:(part 3 #[I y0,I y1,I y2,I y3,I y4] 0).run prog w=.ok (I y0) w:=Wo isAgg3 rfl;have y1p:(part 3 #[I y0,I y1,I y2,I y3,I y4] 1).run prog w=.ok (I y1) w:=Wo isAgg3 rfl;have y2p:(part 3 #[I y0,I y1,I y2,I y3,I y4] 2).run prog w=.ok (I y2) w:=Wo isAgg3 rfl;have y3p:(part 3 #[I y0,I y1,I y2,I y3,I y4] 3).run prog w=.ok (I y3) w:=Wo isAgg3 rfl;have y4p:(part 3 #[I y0,I y1,I y2,I y3,I y4] 4).run prog w=.ok (I y4) w:=Wo isAgg3 rfl;simp only [Op.eqFields,Sem.run_bind,Sem.run_ite,Sem.run_pure,x0p,x1p,x2p,x3p,x4p,y0p,y1p,y2p,y3p,y4p,Result.andThen_ok,run_equalIn_int _ _ _ _ _ _ _ underlying3];simp;grind
theorem eg_61:prog.eqGuardType prog.depth 61=false:=by kernel_rfl
theorem lay_51:Qk prog 51=some ([I 0,I 0,I 0],[(0,1),(1,2)]):=by kernel_rfl
theorem I8 {b0 b1 b2:Value} {B0:Value→Prop} {B1:Value→Prop} {B2:Value→Prop} (h:∃ c0 c1 c2:Value,Value.tuple #[b0,b1,b2]=.tuple #[c0,c1,c2]∧B0 c0∧B1 c1∧B2 c2):B0 b0:=by
 obtain ⟨c0,c1,c2,he,h0,h1,h2⟩:=h;simp at he;obtain ⟨rfl,rfl,rfl⟩:=he;exact h0
theorem tup3_1 {b0 b1 b2:Value} {B0:Value→Prop} {B1:Value→Prop} {B2:Value→Prop} (h:∃ c0 c1 c2:Value,Value.tuple #[b0,b1,b2]=.tuple #[c0,c1,c2]∧B0 c0∧B1 c1∧B2 c2):B1 b1:=by
 obtain ⟨c0,c1,c2,he,h0,h1,h2⟩:=h;simp at he;obtain ⟨rfl,rfl,rfl⟩:=he;exact h1
theorem layA_52:((prog.info? 52).bind (·.zero)).map (·.cells.toList)=some [.slice none 0 0,.slice none 0 0]:=by kernel_rfl
theorem szA_38:(prog.info? 38).map (·.size)=some 1:=by kernel_rfl
theorem layA_53:((prog.info? 53).bind (·.zero)).map (·.cells.toList)=some [I 0,I 0,I 0]:=by kernel_rfl
theorem szA_3:(prog.info? 3).map (·.size)=some 1:=by kernel_rfl
theorem layA_55:((prog.info? 55).bind (·.zero)).map (·.cells.toList)=some [.slice none 0 0,.slice none 0 0,.slice none 0 0]:=by kernel_rfl
theorem szA_54:(prog.info? 54).map (·.size)=some 1:=by kernel_rfl
theorem info_63:(prog.info? 63).map (fun i=>(i.zero,i.size,i.bytes))=some (some (.slice none 0 0),1,24):=by kernel_rfl
theorem fl_57 : prog.fieldsOf 57 = #[{ name := "Order", type := 3, offset := 0, embedded := false, tag := "", pkgPath := "", byteOffset := 0 }, { name := "Loom", type := 3, offset := 1, embedded := false, tag := "", pkgPath := "", byteOffset := 8 }, { name := "From", type := 3, offset := 2, embedded := false, tag := "", pkgPath := "", byteOffset := 16 }] := by kernel_rfl
theorem seq_57:SEq (α:=Z3) prog 57:=by
 intro d x y w a b m wx m2 wy hx hy;obtain ⟨_,⟨_,_,rfl,rfl,⟨_,_,rfl,rfl,rfl⟩⟩,rfl⟩:=hx;obtain ⟨_,⟨_,_,rfl,rfl,⟨_,_,rfl,rfl,rfl⟩⟩,rfl⟩:=hy;refine (run_equalIn_struct w (d+1) 57 _ _ (by kernel_rfl) (by kernel_rfl)).trans ?_;rw [fl_57];obtain ⟨x0,x1,x2⟩:=x;obtain ⟨y0,y1,y2⟩:=y;show (Op.eqFields (d+1) #[I x0,I x1,I x2] #[I y0,I y1,I y2] _).run _ _=_;have x0p:(part 3 #[I x0,I x1,I x2] 0).run prog w=.ok (I x0) w:=Wo isAgg3 rfl;have x1p:(part 3 #[I x0,I x1,I x2] 1).run prog w=.ok (I x1) w:=Wo isAgg3 rfl;have x2p:(part 3 #[I x0,I x1,I x2] 2).run prog w=.ok (I x2) w:=Wo isAgg3 rfl;have y0p:(part 3 #[I y0,I y1,I y2] 0).run prog w=.ok (I y0) w:=Wo isAgg3 rfl;have y1p:(part 3 #[I y0,I y1,I y2] 1).run prog w=.ok (I y1) w:=Wo isAgg3 rfl;have y2p:(part 3 #[I y0,I y1,I y2] 2).run prog w=.ok (I y2) w:=Wo isAgg3 rfl;simp only [Op.eqFields,Sem.run_bind,Sem.run_ite,Sem.run_pure,x0p,x1p,x2p,y0p,y1p,y2p,Result.andThen_ok,run_equalIn_int _ _ _ _ _ _ _ underlying3];simp;grind
theorem eg_57:prog.eqGuardType prog.depth 57=false:=by kernel_rfl
def f24 (x0:List Z3):Option (List Z3):=apnd 24 [] x0
theorem en24:Enters prog 24:=yC func24
def f99 (x0:List Str):Option (List Str):=apnd 16 [] x0
theorem en99:Enters prog 99:=yC func99
theorem wk99 {x0:List Str} (rp0:RV gI.m wI x0 up0) {r:List Str} (h:f99 x0=some r):Fn prog 99 #[up0] gI wI (fun m w v=>RV m w r v):=by
 unfold f99 at h;refine fnE func99 rfl rfl fun g0 hm hfr=>?_;have rp0:=RVc hm rp0;refine Z (H (.slice none 0 0) (O (Zf (Z (M up0 ?_)))));obtain ⟨a,c,hv,hc,hrow⟩:=Qs rp0;refine Y (.bool a.isNone) (O7 underlying74 (show X _ _=_ from hv)) (O ?_)
 cases a with
 | none=>
  have hx:x0=[]:=by
   cases x0 with
   | nil=>rfl
   | cons y ys=>obtain ⟨b,off,hb,_⟩:=hrow (by simp);cases hb
  subst hx
  have hr:r=[]:=by unfold apnd at h;split at h<;>simp at h;exact h
  subst hr;refine Ta rfl (Z (H (.slice none 0 0) (O ?_)));exact Gb (Gj (ac rfl (rq (.slice none 0 0)) ⟨_,hfr,T8⟩))
 | some a=>
  refine Gv rfl (Zu (Zd (Z (G (Gd (g:=g0) 1 (xs:=([]:List Str)) (vs:=[]) underlying74 sizeOf9 zeroValue9 rfl rfl .nil RVs.nil rfl rfl fun g1 w1 v1 hs o1 r1 hxt hfl=>?_)))));have hfr:=hfr.stp hs;have rp0:=rp0.stp hs;refine M up0 (G (Qe (g:=g1) (i:=1) underlying74 R9 rfl rfl o1 r1 rfl rp0 h fun g2 w2 v2 hs o2 r2 _=>?_));have hfr:=hfr.stp hs;refine H v2 (O ?_);exact Gb (ac rfl (rq v2) ⟨_,hfr,r2⟩)
theorem Fj (a:Addr) (w:World):(Instr.fieldAt 177 (.pointer (some a)) 0).run prog w=.ok (.pointer (some (a.add 0))) w:=by simp [Instr.fieldAt,run_underlying underlying177,Instr.sureAddr,fieldPlace,Result.andThen]
theorem Xu (a:Addr) (w:World):(Instr.fieldAt 177 (.pointer (some a)) 1).run prog w=.ok (.pointer (some (a.add 1))) w:=by simp [Instr.fieldAt,run_underlying underlying177,Instr.sureAddr,fieldPlace,Result.andThen]
theorem sb_size:(prog.info? 177).map (·.size)=some 2:=by kernel_rfl
theorem Av:∃ j,prog.info? 177=some j∧j.size=2:=Option.map_eq_some_iff.1 sb_size
theorem en152:Enters prog 152:=yC func152
theorem Ry {i:Nat} {g:Gh} {w:World} {x:Fv × List UInt8} {b o:Nat} (hb:OB i g w 177 x (.pointer (some ⟨b,o,none⟩))):o=0∧w.shape? b=some (177,2):=by
 obtain ⟨b',cs,hp,_,_,hh,hr⟩:=hb;injection hp with hp;injection hp with hp;injection hp with h1 h2;subst h1;subst h2;have hl:=GoT.len hr;simp [GoT.k] at hl;exact ⟨rfl,by simp [World.shape?,hh,hl]⟩
theorem wk152 {i j:Nat} (hji:Nat.beq j i=false) {g:Gh} {w:World} {a:Fv} {xs:List UInt8} {p:Value} (hb:OB i g w 177 (a,xs) p) (ho:OSF i j 1 g w 5 177 xs p) (ha:a.v=.pointer none∨a.v=p) :
  Calls prog 152 #[p] w fun r w'=>∃ v,r=.returned v∧∃ g',Stp i g w g' w'∧∃ a':Fv,a'.v=p∧OB i g' w' 177 (a',xs) p∧OSF i j 1 g' w' 5 177 xs p:=by
 obtain ⟨b,o,rfl⟩:=hb.ptr
 obtain ⟨hoff,hsh⟩:=Ry hb
 subst hoff
 obtain ⟨jt,hj,hjs⟩:=Av
 refine Q6 func152 rfl (Nat.le_of_ble_eq_true rfl) ?_
 refine Z (M (.pointer (some ⟨b,0,none⟩)) (Y (.pointer (some ⟨b,0,none⟩)) (Tu rfl) (Y (S (.pointer (some ⟨b,0,none⟩)) 0) (aa Fj ⟨b,0,rfl⟩) (G (Qd (g:=g) (a:=(a,xs)) Sub.fst isAgg175 sizeOf175 rfl hb fun v r=>?_)))))
 obtain rfl:=Yt.1 r
 rcases ha with ha | ha
 ·refine Y (.bool true) (Xk (u2:=.pointer none) (.inl rfl) (show _=.pointer none from ha) rfl ⟨_,rfl⟩ ⟨_,rfl⟩ (fun w=>by simpa using run_eql_pointer_nil (P:=prog) w 175 none underlying175)) (O (Ta rfl (Za (M (.pointer (some ⟨b,0,none⟩)) (M (.pointer (some ⟨b,0,none⟩)) ?_)))))
  refine Bu (v:=.pointer (some ⟨b,0,none⟩)) (w':=w) .plain (fun _ h=>by cases h) rfl (by
   have:=Lib.run_to_unsafe w ⟨b,0,none⟩ underlying175 underlying275 hj (by rw [hjs];decide) hsh (by show 0<2;omega)
   show (Sem.run _ (execOp _ _) _)=_
   simp only [execOp,Sem.run_bind]
   rw [show X _ (Operand.tmp 8)=Value.pointer (some ⟨b,0,none⟩) from rfl,this]
   rfl) ?_
  refine Y (.pointer (some ⟨b,0,none⟩)) (P3 func170 (by kernel_rfl) (by kernel_rfl) (by kernel_rfl) (ex:=Extern.AbiNoEscape.same) (by kernel_rfl) (.cons rfl .nil) (fun _=>rfl)) ?_
  refine Bu (v:=.pointer (some ⟨b,0,none⟩)) (w':=w) .plain (fun _ h=>by cases h) rfl (by
   have:=Lib.run_from_unsafe w ⟨b,0,none⟩ underlying275 underlying175 hj hsh (by kernel_rfl)
   show (Sem.run _ (execOp _ _) _)=_
   simp only [execOp,Sem.run_bind]
   rw [show X _ (Operand.tmp 10)=Value.pointer (some ⟨b,0,none⟩) from rfl,this]
   rfl) ?_
  refine Y (.pointer (some ⟨b,0,none⟩)) (Tu rfl) (Y (S (.pointer (some ⟨b,0,none⟩)) 0) (aa Fj ⟨b,0,rfl⟩) (G (Wc (g:=g) (a:=(a,xs)) (b:=(⟨.pointer (some ⟨b,0,none⟩),rfl⟩:Fv)) Gl.fst sizeOf175 rfl hb rfl (Yt.2 rfl) fun g1 w1 hs b1 rst _=>?_)))
  exact Zb (Xs rfl rfl ⟨g1,hs,_,rfl,b1,ho.rest hs rst rfl hji⟩)
 ·refine Y (.bool false) (Xk (u2:=.pointer none) (.inl rfl) (show _=.pointer (some ⟨b,0,none⟩) from ha) rfl ⟨_,rfl⟩ ⟨_,rfl⟩ (fun w=>by simpa using run_eql_pointer_nil (P:=prog) w 175 (some ⟨b,0,none⟩) underlying175)) (O (Gv rfl (Z (M (.pointer (some ⟨b,0,none⟩)) (Y (.pointer (some ⟨b,0,none⟩)) (Tu rfl) (Y (S (.pointer (some ⟨b,0,none⟩)) 0) (aa Fj ⟨b,0,rfl⟩) (G (Qd (g:=g) (a:=(a,xs)) Sub.fst isAgg175 sizeOf175 rfl hb fun v r=>?_))))))))
  obtain rfl:=Yt.1 r
  refine M (.pointer (some ⟨b,0,none⟩)) (Y (.bool false) (Xk (.inr rfl) (show _=.pointer (some ⟨b,0,none⟩) from ha) rfl ⟨_,rfl⟩ ⟨_,rfl⟩ (fun w=>Lib.run_neq_ptr_same w ⟨b,0,none⟩ underlying175 hj)) (O (Gv rfl (Zu ?_))))
  exact Xs rfl rfl ⟨g,Ce _ _ _,_,ha,hb,ho⟩
theorem en111:Enters prog 111:=yC func111
theorem wk111 {i j:Nat} (hji:Nat.beq j i=false) (hij:Nat.beq i j=false) {g:Gh} {w:World} {c:UInt8} {xs r:List UInt8} {p:Value} (hsb:SB i j g w 5 177 xs p) (hr:apnd 1 xs [c]=some r) :
  Calls prog 111 #[p,.int .u8 c.toNat] w fun q w'=>∃ v,q=.returned v∧v=.nilIface∧WB i j g w 5 177 r p w':=by
 obtain ⟨a,hb,ho,ha⟩:=hsb
 obtain ⟨b,o,rfl⟩:=hb.ptr
 obtain ⟨hoff,hsh⟩:=Ry hb
 subst hoff
 refine Q6 func111 rfl (Nat.le_of_ble_eq_true rfl) ?_
 refine Z (H (.nilIface) (O (Z (M (.pointer (some ⟨b,0,none⟩)) (G (Q8 (vs:=[.pointer (some ⟨b,0,none⟩)]) en152 (.cons rfl .nil) (wk152 hji hb ho ha) fun v w1 h1=>?_))))))
 obtain ⟨g1,hs1,a1,ha1,hb1,ho1⟩:=h1
 refine O (Z (M (.pointer (some ⟨b,0,none⟩)) (M (.pointer (some ⟨b,0,none⟩)) (Y (.pointer (some ⟨b,0,none⟩)) (Tu rfl) (Y (S (.pointer (some ⟨b,0,none⟩)) 1) (aa Xu ⟨b,0,rfl⟩) (G (Ut (g:=g1) (a:=(a1,xs)) (f:=Prod.snd) Sub.snd isAgg63 sizeOf63 rfl hb1 ho1 fun v2 r2 o2=>(M (.int .u8 c.toNat) (G (Gd (g:=g1) 1 (xs:=[c]) (vs:=[.int .u8 c.toNat]) underlying63 sizeOf5 zeroValue5 rfl rfl (.cons rfl .nil) (RVs.cons (Wa.2 rfl) RVs.nil) rfl rfl fun g3 w3 v3 _ _ r3 hxt _=>(G (Qe (g:=g3) (i:=j) underlying63 F6 rfl rfl (o2.ext hxt) (r2.ext hxt) rfl r3 hr fun g4 w4 v4 hs4 o4 r4 _=>?_))))))))))))
 have hb4:=(hb1.ext hxt).stp hs4 hij
 refine Y (.pointer (some ⟨b,0,none⟩)) (Tu rfl) (Y (S (.pointer (some ⟨b,0,none⟩)) 1) (aa Xu ⟨b,0,rfl⟩) (G (Wc (g:=g4) (a:=(a1,xs)) Gl.snd sizeOf63 rfl hb4 rfl r4 fun g5 w5 hs5 b5 _ hos=>?_)))
 have o5:=hos _ _ j 5 r (Kn r4) hji o4
 refine O (Z (H (.nilIface) (O (Gb (ac rfl (rq .nilIface) ⟨rfl,g5,⟨g1,w1,g4,w4,hs1,(hxt.stp.trans hs4),hs5⟩,a1,b5,o5,.inr ha1⟩)))))
theorem en79:Enters prog 79:=yC func79
theorem Ug:prog.follows .mixedOrders=true:=by kernel_rfl
theorem wk79 {i j:Nat} (hij:Nat.beq i 0=false) {g:Gh} {w:World} {xs:List UInt8} {p:Value} (hsb:SB i j g w 5 177 xs p) (h0:xs≠[]) :
  Calls prog 79 #[p] w fun q w'=>∃ v,q=.returned v∧GS j g w xs v w':=by
 obtain ⟨a,hb,ho,ha⟩:=hsb
 obtain ⟨b,o,rfl⟩:=hb.ptr
 obtain ⟨hoff,hsh⟩:=Ry hb
 subst hoff
 refine Q6 func79 rfl (Nat.le_of_ble_eq_true rfl) ?_
 refine Z (H (Str.v ⟨[]⟩) (O (Fa (f:=Prod.snd) (a:=(a,xs)) Sub.snd isAgg63 sizeOf63 hb ho fun v r os hl=>?_)))
 obtain ⟨sa,c,rfl,hc,_⟩:=Qs r
 have hne:c≠0:=by
  have : 0 < xs.length := by cases xs with
   | nil=>exact absurd rfl h0
   | cons _ _=>simp
  have hc':xs.length≤c:=hc
  omega
 refine Zf (ab (g:=g) (n:=10) [] [0,1,2,3,4,5,6,7,8,9] Ug trivial (V (.pointer (some ⟨b,0,none⟩)) rfl (ai) (V (.pointer (some ⟨b,0,none⟩)) rfl (Tu rfl) (V (S (.pointer (some ⟨b,0,none⟩)) 1) rfl (aa Xu ⟨b,0,rfl⟩) (G3 (c:=.slice sa xs.length c) rfl rfl .plain xB (hl _) rfl (V (.pointer sa) rfl (Sp (a:=sa) (n:=xs.length) (c:=c) rfl (.inl hne)) (V (.pointer (some ⟨b,0,none⟩)) rfl (ai) (V (.pointer (some ⟨b,0,none⟩)) rfl (Tu rfl) (V (S (.pointer (some ⟨b,0,none⟩)) 1) rfl (aa Xu ⟨b,0,rfl⟩) (G3 (c:=.slice sa xs.length c) rfl rfl .plain xB (hl _) rfl (V (I (xs.length:Int)) rfl (G7 (v:=.slice sa xs.length c) underlying63 rfl r) (Jx fun g1 w1 hall=>?_))))))))))))
 have hs:=hall.1
 refine G (Cq (g:=g1) (j:=j) (et:=5) rfl underlying225 (by kernel_rfl) h0 rfl rfl (os.ext hs) (r.ext hs) fun g2 w2 hs2=>(H (Str.v ⟨xs⟩) ?_))
 exact O (Gb (ac rfl (rq (Str.v ⟨xs⟩)) ⟨rfl,g2,hs.stp.trans hs2⟩))
def Rm:Str:=(⟨[0,1,2,2,3,3,3,3,4,4,4,4,4,4,4,4,5,5,5,5,5,5,5,5,5,5,5,5,5,5,5,5,6,6,6,6,6,6,6,6,6,6,6,6,6,6,6,6,6,6,6,6,6,6,6,6,6,6,6,6,6,6,6,6,7,7,7,7,7,7,7,7,7,7,7,7,7,7,7,7,7,7,7,7,7,7,7,7,7,7,7,7,7,7,7,7,7,7,7,7,7,7,7,7,7,7,7,7,7,7,7,7,7,7,7,7,7,7,7,7,7,7,7,7,7,7,7,7,8,8,8,8,8,8,8,8,8,8,8,8,8,8,8,8,8,8,8,8,8,8,8,8,8,8,8,8,8,8,8,8,8,8,8,8,8,8,8,8,8,8,8,8,8,8,8,8,8,8,8,8,8,8,8,8,8,8,8,8,8,8,8,8,8,8,8,8,8,8,8,8,8,8,8,8,8,8,8,8,8,8,8,8,8,8,8,8,8,8,8,8,8,8,8,8,8,8,8,8,8,8,8,8,8,8,8,8,8,8,8,8,8,8,8,8,8,8,8,8,8,8,8,8,8,8,8,8]⟩:Str)
def f127 (x:Int):Option Int:=if 0≤x∧x<256 then (idx Rm.b x).map fun c=>w64 (0+(c.toNat:Int)) else none
def f89 (x:Int):Option Int:=f127 x
theorem en127:Enters prog 127:=yC func127
theorem en89:Enters prog 89:=yC func89
theorem wk127 {x0:Int} {r:Int} (h:f127 x0=some r):Fn prog 127 #[.int .u64 x0] gI wI (fun _ _ v=>v=I r):=by
 unfold f127 at h;split at h
 case isFalse=>cases h
 rename_i hx;obtain ⟨h0,h1⟩:=hx
 cases hc:idx Rm.b x0 with
 | none=>rw [hc] at h;cases h
 | some c=>
 rw [hc] at h;cases h;refine fnE func127 rfl rfl fun g0 hm hfr=>?_;refine Z (H (I 0) (O (Zf (Z (M (.int .u64 x0) (Y (.bool false) (L5 rfl rfl (by omega)) (O (Gv rfl (Zu (Zd (Zf (Z (M (.int .u64 x0) (Y (.bool false) (L5 rfl rfl (by omega)) (O (Gv rfl (Zu (Zd (Zf (Z (M (.int .u64 x0) (Y (.bool false) (L5 rfl rfl (by omega)) (O (Gv rfl (Zu (Zd (Z (M (I 0) (M (.int .u64 x0) (Y (.int .u8 x0) (P_u64u8 underlying240 underlying5 rfl h0 h1) (Y (.int .u8 c.toNat) (Ax (s:=Rm) underlying9 rfl rfl hc) (Y (I (c.toNat:Int)) (W7 underlying5 underlying2 rfl) (aT (I (w64 (0+(c.toNat:Int)))) rfl rfl rfl (H (I (w64 (0+(c.toNat:Int)))) (O ?_)))))))))))))))))))))))))))))))))));exact Gb (ac rfl (rq _) ⟨_,hfr,rfl⟩)
theorem wk89 {x0:Int} {r:Int} (h:f89 x0=some r):Fn prog 89 #[.int .u64 x0] gI wI (fun _ _ v=>v=I r):=by
 unfold f89 at h;refine fnE func89 rfl rfl fun g0 hm hfr=>?_;refine Z (H (I 0) (O (Zf (Gv rfl (Zu (Zd (Z (M (.int .u64 x0) (G (aJ (g:=g0) (vs:=[.int .u64 x0]) en127 (wk127 h) fun g1 w1 v1 hs hr=>?_))))))))));have hfr:=hfr.ext hs;subst hr;refine H (I r) (O ?_);exact Gb (ac rfl (rq _) ⟨_,hfr,rfl⟩)
def f4 (x0:UInt8) (x1:UInt8) (x2:List (Vector UInt8 3)):Option (LoomMill × (List Z5)):=
 (Kr (x1.toNat:Int) (4:Int)).bind fun y2=>
 Option.bind (α:=LoomMill) (
  lp (σ:=LoomMill × Int) (fun uN (nD,v8)=>
   jn (σ:=Unit) (fun _=>
    Option.bind (α:=LoomMill) (
     (apnd 8 nD.Widths ([(10:Int)]:List Int)).bind fun pI=>
     some ({nD with Widths:=pI})
     ) fun aE=>
    uN (aE,(w64 (v8+(1:Int))))
    ) fun vN=>
   (Kr (x0.toNat:Int) (3:Int)).bind fun gH=>
   bif (decide (v8≤gH)) then
    vN ()
   else
    some nD
   ) big ((⟨[],y2⟩:LoomMill),(0:Int))
  ) fun t5=>
 Option.bind (α:=(List Z5)) (
  lp (σ:=(List Z5) × Int × Int) (fun qI (aB,g8,o0)=>
   jn (σ:=Unit) (fun _=>
    Option.bind (α:=(List Z5) × Int) (
     (idx x2 o0).bind fun sI=>
     (idx sI.toList (0:Int)).bind fun vE=>
     (Kr (vE.toNat:Int) (10:Int)).bind fun vB=>
     (idx x2 o0).bind fun jJ=>
     (idx jJ.toList (1:Int)).bind fun xE=>
     (Kr (xE.toNat:Int) (3:Int)).bind fun bD=>
     (idx x2 o0).bind fun kJ=>
     (idx kJ.toList (2:Int)).bind fun yE=>
     (Kr (yE.toNat:Int) (12:Int)).bind fun l8=>
     (idx x2 o0).bind fun lJ=>
     (idx lJ.toList (1:Int)).bind fun yG=>
     (F0 (yG.toNat:Int) (3:Int)).bind fun zG=>
     (Kr zG (9:Int)).bind fun iE=>
     (apnd 40 aB ([(⟨(w64 ((1:Int)+vB)),bD,(w64 ((1:Int)+l8)),0,(w64 ((w64 (g8+(w64 ((w64 ((1:Int)+l8))+t5.Change))))+iE))⟩:Z5)]:List Z5)).bind fun mJ=>
     some (mJ,(w64 (g8+(w64 ((w64 ((1:Int)+l8))+t5.Change)))))
     ) fun (cD,oD)=>
    qI (cD,oD,(w64 (o0+(1:Int))))
    ) fun nJ=>
   Option.bind (α:=Bool) (
    bif (decide (o0<(x2.length:Int))) then
     some (decide (o0<(6:Int)))
    else
     some false
    ) fun nB=>
   bif nB then
    nJ ()
   else
    some aB
   ) big (([]:List Z5),(0:Int),(0:Int))
  ) fun bE=>
 some (t5,bE)
theorem en4:Enters prog 4:=yC func4
theorem wk4 {x0:UInt8} {x1:UInt8} {x2:List (Vector UInt8 3)} (rp2:RV gI.m wI x2 up2) {r:LoomMill × (List Z5)} (h:f4 x0 x1 x2=some r):Fn prog 4 #[.int .u8 (UInt8.toNat x0),.int .u8 (UInt8.toNat x1),up2] gI wI (fun m w v=>∃ y0 y1,v=.tuple #[y0,y1]∧RV m w r.1 y0∧RV m w r.2 y1):=by
 unfold f4 at h;refine fnE func4 rfl rfl fun g0 hm hfr=>?_;have rp2:=RVc hm rp2;refine Z (G (Gu (g:=g0) 2006 (⟨[],0⟩:LoomMill) zeroValue27 (fun m w=>⟨_,(Gg Tb Zw),rfl⟩) fun g1 w1 p1 hs b1 cb=>?_));have hfr:=hfr.stp hs;have rp2:=rp2.stp hs;have zD:OSF 2006 60600 0 g1 w1 3 27 ([]:List Int) p1:=cb.osf (by rfl);clear cb;refine H (.slice none 0 0) (O (Z (M (.int .u8 (UInt8.toNat x1)) (Y (I (x1.toNat:Int)) (W7 underlying5 underlying3 rfl) ?_))));obtain ⟨y2,hy2,h⟩:=Z1 h;refine Y (I y2) (Gp rfl rfl (congrArg (Option.map (Value.int .i64)) hy2)) ?_;have r3:RV g1.m w1 (⟨[],y2⟩:LoomMill) (.agg (Tk [[.slice none 0 0],[I 0]] [(1,I y2)]).flatten.toArray):=Ti rfl (Gs Tb (To rfl));generalize hv3:(Value.agg (Tk [[.slice none 0 0],[I 0]] [(1,I y2)]).flatten.toArray)=v3 at r3;refine Y v3 (hv3▸T3 (vs:=[(1,I y2)]) [[.slice none 0 0],[I 0]] E0 rfl rfl (.cons rfl .nil) ⟨⟨_,rfl,rfl⟩,trivial⟩) (G (Gd (g:=g1) 3018 (xs:=([]:List Z5)) (vs:=[]) underlying28 sizeOf59 zeroValue59 rfl rfl .nil RVs.nil rfl rfl fun g4 w4 v4 hs o4 r4 hxt hfl=>?_));have hfr:=hfr.stp hs;have rp2:=rp2.stp hs;have zD:=zD.stp hs rfl;have b1:=b1.stp hs rfl;have r3:=r3.stp hs;refine G (Gu (g:=g4) 2008 (⟨[],0⟩:LoomMill) zeroValue27 (fun m w=>⟨_,(Gg Tb Zw),rfl⟩) fun g5 w5 p5 hs b5 cb=>?_);have hfr:=hfr.stp hs;have rp2:=rp2.stp hs;have zD:=zD.stp hs rfl;have b1:=b1.stp hs rfl;have r3:=r3.stp hs;have r4:=r4.stp hs;have o4:=o4.stp hs rfl;have uP:OSF 2008 60800 0 g5 w5 3 27 ([]:List Int) p5:=cb.osf (by rfl);clear cb;refine G (Gk (g:=g5) (v:=v3) sizeOf27 rfl b5 rfl r3 fun g6 w6 hs b6 cb=>?_);have aO:OSF 2008 60800 0 g6 w6 3 27 ([]:List Int) p5:=cb.osf (by rw [← hv3];rfl);clear cb;have hfr:=hfr.stp hs;have rp2:=rp2.stp hs;have zD:=zD.stp hs rfl;have b1:=b1.stp hs rfl;have r4:=r4.stp hs;have o4:=o4.stp hs rfl;refine H v4 (H (I 0) (O ?_));obtain ⟨t5,hx,h⟩:=Z1 h;refine Gn (xD gI wI fun e w g=>e 2=up2∧RV g.m w (x2:List (Vector UInt8 3)) up2∧e 6=p1∧OB 2006 g w 27 ((⟨[],0⟩:LoomMill):LoomMill) p1∧OSF 2006 60600 0 g w 3 27 ((⟨[],0⟩:LoomMill).Widths) p1∧e 8=p5∧OB 2008 g w 27 (t5:LoomMill) p5∧OSF 2008 60800 0 g w 3 27 t5.Widths p5∧e 9=v4∧RV g.m w (([]:List Z5):List Z5) v4∧OS 3018 g w 59 (([]:List Z5):List Z5) v4∧e 10=I (0:Int)) (fun Q' hQ=>?_) (fun vP vQ hR=>?_)
 ·replace h:=hx
  clear hx;refine Z (H (I 0) (O (Zr (Qz h (fun (s:LoomMill × Int)=>xD gI wI fun e w g=>e 0=.int .u8 (UInt8.toNat x0)∧e 2=up2∧RV g.m w (x2:List (Vector UInt8 3)) up2∧e 6=p1∧OB 2006 g w 27 ((⟨[],0⟩:LoomMill):LoomMill) p1∧OSF 2006 60600 0 g w 3 27 ((⟨[],0⟩:LoomMill).Widths) p1∧e 8=p5∧OB 2008 g w 27 (s.1:LoomMill) p5∧OSF 2008 60800 0 g w 3 27 ((s.1).Widths) p5∧e 9=v4∧RV g.m w (([]:List Z5):List Z5) v4∧OS 3018 g w 59 (([]:List Z5):List Z5) v4∧e 10=I (0:Int)∧e 11=I s.2) ⟨g6,hfr,rfl,rfl,rp2,rfl,b1,zD,rfl,b6,aO,rfl,r4,o4,rfl,rfl⟩ (fun X30 uN bO=>?_)))));rintro ⟨nD,v8⟩ xP xQ ⟨xN,hfr,jH,kH,lH,mH,nH,u6_0_31,oH,pH,u8_0_31,qH,sH,tH,rF,sF⟩ h;refine Zq h (fun (s:Unit)=>xD gI wI fun e w g=>e 0=.int .u8 (UInt8.toNat x0)∧e 2=up2∧RV g.m w (x2:List (Vector UInt8 3)) up2∧e 6=p1∧OB 2006 g w 27 ((⟨[],0⟩:LoomMill):LoomMill) p1∧OSF 2006 60600 0 g w 3 27 ((⟨[],0⟩:LoomMill).Widths) p1∧e 8=p5∧OB 2008 g w 27 (nD:LoomMill) p5∧OSF 2008 60800 0 g w 3 27 nD.Widths p5∧e 9=v4∧RV g.m w (([]:List Z5):List Z5) v4∧OS 3018 g w 59 (([]:List Z5):List Z5) v4∧e 10=I (0:Int)∧e 11=I v8) (fun X34 vN cO h=>?_) ?_
  ·refine Z (aQ sF (aQ jH (Y (I (x0.toNat:Int)) (W7 underlying5 underlying3 rfl) ?_)))
   obtain ⟨gH,dO,h⟩:=Z1 h;refine Y (I gH) (Gp rfl rfl (congrArg (Option.map (Value.int .i64)) dO)) (aT (.bool (decide (v8≤gH))) rfl rfl rfl (O ?_));rcases Zt h with ⟨aH,h⟩ | ⟨aH,h⟩
   ·refine Gz aH rfl ?_
    exact Zu (Zd (cO () _ _ ⟨xN,hfr,jH,kH,lH,mH,nH,u6_0_31,oH,pH,u8_0_31,qH,sH,tH,rF,sF⟩ h))
   ·refine G0 aH rfl (Th (Gr (Gr (G2 ?_))))
    cases h;exact hQ _ _ ⟨xN,hfr,kH,lH,mH,nH,u6_0_31,oH,pH,u8_0_31,qH,sH,tH,rF⟩
  ·rintro _ yP yQ ⟨yN,hfr,oL,xL,yB,yL,zB,u6_0_37,zE,mB,u8_0_37,zL,cC,uC,oJ,pJ⟩ h
   obtain ⟨aE,hx,h⟩:=Z1 h;refine Gn (xD gI wI fun e w g=>e 0=.int .u8 (UInt8.toNat x0)∧e 2=up2∧RV g.m w (x2:List (Vector UInt8 3)) up2∧e 6=p1∧OB 2006 g w 27 ((⟨[],0⟩:LoomMill):LoomMill) p1∧OSF 2006 60600 0 g w 3 27 ((⟨[],0⟩:LoomMill).Widths) p1∧e 8=p5∧OB 2008 g w 27 (aE:LoomMill) p5∧OSF 2008 60800 0 g w 3 27 aE.Widths p5∧e 9=v4∧RV g.m w (([]:List Z5):List Z5) v4∧OS 3018 g w 59 (([]:List Z5):List Z5) v4∧e 10=I (0:Int)∧e 11=I v8) (fun Q' hQ=>?_) (fun zP zQ hR=>?_)
   ·replace h:=hx
    clear hx;refine Zr (Za (Y (S p5 0) (Zc Ha zE (OB.ptr mB)) (G (Ut (g:=yN) Qa.1 isAgg25 sizeOf25 rfl mB u8_0_37 fun aR qJ o46=>(G (Gd (g:=yN) 3028 (xs:=([(10:Int)]:List Int)) (vs:=[I 10]) underlying25 sizeOf3 zeroValue3 rfl rfl (.cons rfl .nil) (RVs.cons (Zj.2 rfl) RVs.nil) rfl rfl fun eP bR dR hs o47 gP hxt hfl=>?_))))));have hfr:=hfr.stp hs;have yB:=yB.stp hs;have u6_0_37:=u6_0_37.stp hs rfl;have zB:=zB.stp hs rfl;have mB:=mB.stp hs rfl;have cC:=cC.stp hs;have uC:=uC.stp hs rfl;have qJ:=qJ.stp hs;have o46:=o46.stp hs rfl;obtain ⟨pI,eO,h⟩:=Z1 h;refine G (Qe (g:=eP) (i:=60800) underlying25 Jf rfl rfl o46 qJ rfl gP eO fun iP eR gR hs o48 zN _=>?_);have hfr:=hfr.stp hs;have yB:=yB.stp hs;have u6_0_37:=u6_0_37.stp hs rfl;have zB:=zB.stp hs rfl;have mB:=mB.stp hs rfl;have cC:=cC.stp hs;have uC:=uC.stp hs rfl;refine Y (S p5 0) (Zc Ha zE (OB.ptr mB)) (G (Wc (g:=iP) Qa sizeOf25 rfl mB rfl zN fun jP iR hs b51 rst hos=>?_));have aM:=hos _ _ 60800 3 (pI:List Int) (Kn zN) rfl o48;clear rst hos;have hfr:=hfr.stp hs;have yB:=yB.stp hs;have u6_0_37:=u6_0_37.stp hs rfl;have zB:=zB.stp hs rfl;have cC:=cC.stp hs;have uC:=uC.stp hs rfl;refine Zb (Te ?_);cases h;exact hQ _ _ ⟨jP,hfr,oL,xL,yB,yL,zB,u6_0_37,zE,b51,aM,zL,cC,uC,oJ,pJ⟩
   ·clear hx
    obtain ⟨kP,hfr,bM,cM,dM,eM,iM,u6_0_52,jM,kM,u8_0_52,pM,qM,rM,rJ,sJ⟩:=hR;refine Za (aQ sJ (aT (I (w64 (v8+(1:Int)))) rfl rfl rfl (H (I (w64 (v8+(1:Int)))) ?_)));exact O (bO (aE,(w64 (v8+(1:Int)))) _ _ ⟨kP,hfr,bM,cM,dM,eM,iM,u6_0_52,jM,kM,u8_0_52,pM,qM,rM,rJ,rfl⟩ h)
 ·clear hx
  obtain ⟨lP,hfr,sM,tM,uM,vM,u6_0_53,xM,bN,u8_0_53,cN,dN,eN,vJ⟩:=hR;obtain ⟨bE,hx,h⟩:=Z1 h;refine Gn (fun e w=>∃ (g:Gh) (v9:Value),Fr gI wI g w∧e 6=p1∧OB 2006 g w 27 ((⟨[],0⟩:LoomMill):LoomMill) p1∧OSF 2006 60600 0 g w 3 27 ((⟨[],0⟩:LoomMill).Widths) p1∧e 8=p5∧OB 2008 g w 27 (t5:LoomMill) p5∧OSF 2008 60800 0 g w 3 27 t5.Widths p5∧e 9=v9∧RV g.m w (bE:List Z5) v9∧OS 3018 g w 59 (bE:List Z5) v9) (fun Q' hQ=>?_) (fun nP bQ hR=>?_)
  ·replace h:=hx
   clear hx;refine Z (H (I 0) (O (Zr (Qz h (fun (s:(List Z5) × Int × Int) e w=>∃ (g:Gh) (v9:Value),Fr gI wI g w∧e 2=up2∧RV g.m w (x2:List (Vector UInt8 3)) up2∧e 6=p1∧OB 2006 g w 27 ((⟨[],0⟩:LoomMill):LoomMill) p1∧OSF 2006 60600 0 g w 3 27 ((⟨[],0⟩:LoomMill).Widths) p1∧e 8=p5∧OB 2008 g w 27 (t5:LoomMill) p5∧OSF 2008 60800 0 g w 3 27 t5.Widths p5∧e 9=v9∧RV g.m w (s.1:List Z5) v9∧OS 3018 g w 59 (s.1:List Z5) v9∧e 10=I (s.2.1)∧e 12=I s.2.2) ⟨lP,v4,hfr,sM,tM,uM,vM,u6_0_53,xM,bN,u8_0_53,cN,dN,eN,vJ,rfl⟩ (fun X208 qI gN=>?_)))));rintro ⟨aB,g8,o0⟩ oP cQ ⟨xJ,lB,hfr,lE,mE,tF,uF,u6_0_209,vF,xF,u8_0_209,yF,aG,bG,rE,yD⟩ h;refine Zq h (fun (s:Unit)=>xD gI wI fun e w g=>e 2=up2∧RV g.m w (x2:List (Vector UInt8 3)) up2∧e 6=p1∧OB 2006 g w 27 ((⟨[],0⟩:LoomMill):LoomMill) p1∧OSF 2006 60600 0 g w 3 27 ((⟨[],0⟩:LoomMill).Widths) p1∧e 8=p5∧OB 2008 g w 27 (t5:LoomMill) p5∧OSF 2008 60800 0 g w 3 27 t5.Widths p5∧e 9=lB∧RV g.m w (aB:List Z5) lB∧OS 3018 g w 59 (aB:List Z5) lB∧e 10=I (g8)∧e 12=I o0) (fun X214 nJ iN h=>?_) ?_
   ·obtain ⟨nB,hx,h⟩:=Z1 h
    refine Gn (xD gI wI fun e w g=>e 2=up2∧RV g.m w (x2:List (Vector UInt8 3)) up2∧e 6=p1∧OB 2006 g w 27 ((⟨[],0⟩:LoomMill):LoomMill) p1∧OSF 2006 60600 0 g w 3 27 ((⟨[],0⟩:LoomMill).Widths) p1∧e 8=p5∧OB 2008 g w 27 (t5:LoomMill) p5∧OSF 2008 60800 0 g w 3 27 t5.Widths p5∧e 9=lB∧RV g.m w (aB:List Z5) lB∧OS 3018 g w 59 (aB:List Z5) lB∧e 10=I (g8)∧e 12=I (o0)∧e 38=.bool nB) (fun Q' hQ=>?_) (fun pP dQ hR=>?_)
    ·replace h:=hx
     clear hx;refine Za (aQ yD (aQ lE (Y (I (x2.length:Int)) (G7 underlying23 rfl mE) (aT (.bool (decide (o0<(x2.length:Int)))) rfl rfl rfl (M (.bool (decide (o0<(x2.length:Int)))) ?_)))));rcases Zt h with ⟨vC,h⟩ | ⟨vC,h⟩
     ·refine ag (I o0) (Zk yD) rfl rfl vC (ag (.bool (decide (o0<(6:Int)))) (Gp rfl rfl rfl) rfl rfl vC (Y (.bool (decide (o0<(6:Int)))) (ae (b:=(decide (o0<(x2.length:Int)))) (Tg vC rfl)) (Zb ?_)))
      cases h;exact hQ _ _ ⟨xJ,hfr,lE,mE,tF,uF,u6_0_209,vF,xF,u8_0_209,yF,aG,bG,rE,yD,rfl⟩
     ·refine Zz rfl rfl vC rfl rfl (Zz rfl rfl vC rfl rfl (Y (.bool false) (ae (b:=(decide (o0<(x2.length:Int)))) (Td vC rfl)) (Zb ?_)))
      cases h;exact hQ _ _ ⟨xJ,hfr,lE,mE,tF,uF,u6_0_209,vF,xF,u8_0_209,yF,aG,bG,rE,yD,rfl⟩
    ·clear hx
     obtain ⟨zJ,hfr,aK,bK,cG,eG,u6_0_217,gG,iG,u8_0_217,jG,kG,lG,jI,kI,uE⟩:=hR;rcases Zt h with ⟨cF,h⟩ | ⟨cF,h⟩
     ·refine Ta (Eq.trans (show X _ _=.bool nB from uE) (congrArg Value.bool cF)) ?_
      exact Zu (Zd (iN () _ _ ⟨zJ,hfr,aK,bK,cG,eG,u6_0_217,gG,iG,u8_0_217,jG,kG,lG,jI,kI⟩ h))
     ·refine Gv (Eq.trans (show X _ _=.bool nB from uE) (congrArg Value.bool cF)) (Th (Gr (Gr (G2 ?_))))
      cases h;exact hQ _ _ ⟨zJ,lB,hfr,cG,eG,u6_0_217,gG,iG,u8_0_217,jG,kG,lG⟩
   ·rintro _ sP gO ⟨cK,hfr,lD,l5,dK,n8,u6_0_219,mG,i6,u8_0_219,lK,l9,n9,lI,oB⟩ h
    obtain ⟨⟨cD,oD⟩,hx,h⟩:=Z1 h;refine Gn (fun e w=>∃ (g:Gh) (v9:Value),Fr gI wI g w∧e 2=up2∧RV g.m w (x2:List (Vector UInt8 3)) up2∧e 6=p1∧OB 2006 g w 27 ((⟨[],0⟩:LoomMill):LoomMill) p1∧OSF 2006 60600 0 g w 3 27 ((⟨[],0⟩:LoomMill).Widths) p1∧e 8=p5∧OB 2008 g w 27 (t5:LoomMill) p5∧OSF 2008 60800 0 g w 3 27 t5.Widths p5∧e 9=v9∧RV g.m w (cD:List Z5) v9∧OS 3018 g w 59 (cD:List Z5) v9∧e 10=I (oD)∧e 12=I o0) (fun Q' hQ=>?_) (fun tP eQ hR=>?_)
    ·replace h:=hx
     clear hx;refine Zr (Zf ?_);obtain ⟨sI,uH,h⟩:=Z1 h;have mK:=G1 l5 uH;obtain ⟨vE,xH,h⟩:=Z1 h;have jO:=Wt mK xH;refine Zs (x:=.tmp 44) isAgg5 sizeOf5 jO fun gQ kO jN=>?_;obtain rfl:=Wa.1 kO;obtain ⟨vB,kN,h⟩:=Z1 h;obtain ⟨jJ,yH,h⟩:=Z1 h;have nK:=G1 l5 yH;obtain ⟨xE,zH,h⟩:=Z1 h;have lO:=Wt nK zH;refine Zs (x:=.tmp 52) isAgg5 sizeOf5 lO fun iQ mO lN=>?_;obtain rfl:=Wa.1 mO;obtain ⟨bD,mN,h⟩:=Z1 h;obtain ⟨kJ,aI,h⟩:=Z1 h;have oK:=G1 l5 aI;obtain ⟨yE,bI,h⟩:=Z1 h;have nO:=Wt oK bI;refine Zs (x:=.tmp 59) isAgg5 sizeOf5 nO fun jQ oO nN=>?_;obtain rfl:=Wa.1 oO;obtain ⟨l8,oN,h⟩:=Z1 h;have dF:RV cK.m gO (⟨(w64 ((1:Int)+vB)),bD,(w64 ((1:Int)+l8)),0,0⟩:Z5) (.agg (Tk [[I 0],[I 0],[I 0],[I 0],[I 0]] [(0,I (w64 ((1:Int)+vB))),(1,I bD),(2,I (w64 ((1:Int)+l8)))]).flatten.toArray):=Ti rfl (Gs rfl (Gs rfl (Gs rfl (Gs Zw (To Zw)))));generalize pN:(Value.agg (Tk [[I 0],[I 0],[I 0],[I 0],[I 0]] [(0,I (w64 ((1:Int)+vB))),(1,I bD),(2,I (w64 ((1:Int)+l8)))]).flatten.toArray)=pK at dF;refine ab (g:=cK) (n:=25) [(24,(fun v g w=>OB 2013 g w 59 (⟨0,0,0,0,0⟩:Z5) v))] [0,1,2,3,4,5,6,7,8,9,10,11,12,13,14,15,16,17,18,19,20,21,22,23,24] mixed (⟨fun _=>up_ob,trivial⟩) (V up2 rfl (Zk lD) (V (I o0) rfl (Zk oB) (V (Gy up2 o0 3) rfl (Zh (α:=Vector UInt8 3) underlying23 sizeOf77 rfl l5 rfl uH) (V (S (Gy up2 o0 3) (((0:Int):Int).toNat*1)) rfl (G9 (α:=UInt8) underlying77 sizeOf5 rfl (PT.ptr mK) rfl xH) (G3 (c:=.int .u8 (UInt8.toNat vE)) rfl rfl .plain xC jN rfl (V (I (vE.toNat:Int)) rfl (W7 underlying5 underlying3 rfl) (V (I vB) rfl (Gp rfl rfl (congrArg (Option.map (Value.int .i64)) kN)) (V (I (w64 ((1:Int)+vB))) rfl (Gp rfl rfl rfl) (V up2 rfl (Zk lD) (V (I o0) rfl (Zk oB) (V (Gy up2 o0 3) rfl (Zh (α:=Vector UInt8 3) underlying23 sizeOf77 rfl l5 rfl yH) (V (S (Gy up2 o0 3) (((1:Int):Int).toNat*1)) rfl (G9 (α:=UInt8) underlying77 sizeOf5 rfl (PT.ptr nK) rfl zH) (G3 (c:=.int .u8 (UInt8.toNat xE)) rfl rfl .plain xC lN rfl (V (I (xE.toNat:Int)) rfl (W7 underlying5 underlying3 rfl) (V (I bD) rfl (Gp rfl rfl (congrArg (Option.map (Value.int .i64)) mN)) (V up2 rfl (Zk lD) ?_))))))))))))))));refine V (I o0) rfl (Zk oB) (V (Gy up2 o0 3) rfl (Zh (α:=Vector UInt8 3) underlying23 sizeOf77 rfl l5 rfl aI) (V (S (Gy up2 o0 3) (((2:Int):Int).toNat*1)) rfl (G9 (α:=UInt8) underlying77 sizeOf5 rfl (PT.ptr oK) rfl bI) (G3 (c:=.int .u8 (UInt8.toNat yE)) rfl rfl .plain xC nN rfl (V (I (yE.toNat:Int)) rfl (W7 underlying5 underlying3 rfl) (V (I l8) rfl (Gp rfl rfl (congrArg (Option.map (Value.int .i64)) oN)) (V (I (w64 ((1:Int)+l8))) rfl (Gp rfl rfl rfl) (V pK rfl (pN▸T3 (vs:=[(0,I (w64 ((1:Int)+vB))),(1,I bD),(2,I (w64 ((1:Int)+l8)))]) [[I 0],[I 0],[I 0],[I 0],[I 0]] L0 rfl rfl (.cons rfl (.cons rfl (.cons rfl .nil))) ⟨⟨_,rfl,rfl⟩,⟨⟨_,rfl,rfl⟩,⟨⟨_,rfl,rfl⟩,trivial⟩⟩⟩) (Wd (φ:=fun v g w=>OB 2013 g w 59 (⟨0,0,0,0,0⟩:Z5) v) rfl rfl .plain (fun g w hd=>Ur (g:=g) 2013 (⟨0,0,0,0,0⟩:Z5) zeroValue59 (fun m w=>⟨_,(Gg Zw (Gg Zw (Gg Zw (Gg Zw Zw)))),rfl⟩) fun g' w' v hs b=>⟨g',hs,b⟩) (fun cH hv=>?_)))))))));clear hv;refine Jx fun pO kQ hall=>?_;have hs:=hall.1;have hfr:=hfr.ext hs;have l5:=l5.ext hs;have u6_0_219:=u6_0_219.ext hs;have n8:=n8.ext hs;have u8_0_219:=u8_0_219.ext hs;have i6:=i6.ext hs;have l9:=l9.ext hs;have n9:=n9.ext hs;have dF:=dF.ext hs;have b341:=(Ts (A:=fun g w=>OB 2013 g w 59 (⟨0,0,0,0,0⟩:Z5) cH) 24 rfl hall);clear hs hall;refine G (Gk (g:=pO) (v:=pK) sizeOf59 rfl b341 rfl dF fun eF lQ hs b342 cb=>?_);clear cb;have hfr:=hfr.stp hs;have l5:=l5.stp hs;have u6_0_219:=u6_0_219.stp hs rfl;have n8:=n8.stp hs rfl;have u8_0_219:=u8_0_219.stp hs rfl;have i6:=i6.stp hs rfl
     have l9:=l9.stp hs;have n9:=n9.stp hs rfl;refine O (Z (aQ lI (Y (S cH 2) (aa Yd (OB.ptr b342)) (G (Qd (g:=eF) Qv.1 isAgg3 sizeOf3 rfl b342 fun mQ qO=>?_)))));obtain rfl:=Zj.1 qO;refine Y (S p5 1) (Zc Rg mG (OB.ptr i6)) (G (Qd (g:=eF) Hp.1 isAgg3 sizeOf3 rfl i6 fun nQ rO=>?_));obtain rfl:=Zj.1 rO;refine Y (I (w64 ((w64 ((1:Int)+l8))+t5.Change))) (Gp rfl rfl rfl) (Y (I (w64 (g8+(w64 ((w64 ((1:Int)+l8))+t5.Change))))) (Gp rfl rfl rfl) (Y (I (w64 (g8+(w64 ((w64 ((1:Int)+l8))+t5.Change))))) (Tp rfl) (O (Z (Y (I (w64 (g8+(w64 ((w64 ((1:Int)+l8))+t5.Change))))) (ai) (aQ lD (aQ oB ?_)))))));obtain ⟨lJ,dI,h⟩:=Z1 h;refine Y (Gy up2 o0 3) (Zh (α:=Vector UInt8 3) underlying23 sizeOf77 rfl l5 rfl dI) ?_;have qK:=G1 l5 dI;obtain ⟨yG,iI,h⟩:=Z1 h;refine Y (S (Gy up2 o0 3) (((1:Int):Int).toNat*1)) (G9 (α:=UInt8) underlying77 sizeOf5 rfl (PT.ptr qK) rfl iI) ?_;have sO:=Wt qK iI;refine G (Ga (g:=eF) isAgg5 sizeOf5 rfl sO fun oQ tO=>?_);obtain rfl:=Wa.1 tO;refine Y (I (yG.toNat:Int)) (W7 underlying5 underlying3 rfl) ?_;obtain ⟨zG,qN,h⟩:=Z1 h;refine Y (I zG) (Gp rfl rfl (congrArg (Option.map (Value.int .i64)) qN)) ?_;obtain ⟨iE,rN,h⟩:=Z1 h;refine Y (I iE) (Gp rfl rfl (congrArg (Option.map (Value.int .i64)) rN)) (Y (I (w64 ((w64 (g8+(w64 ((w64 ((1:Int)+l8))+t5.Change))))+iE))) (Gp rfl rfl rfl) (Y (S cH 4) (aa Xi (OB.ptr b342)) (G (Wc (g:=eF) W2 sizeOf3 rfl b342 rfl (Zj.2 rfl) fun sK pQ hs b355 rst hos=>?_))));clear rst hos;have hfr:=hfr.stp hs;have l5:=l5.stp hs;have u6_0_219:=u6_0_219.stp hs rfl;have n8:=n8.stp hs rfl;have u8_0_219:=u8_0_219.stp hs rfl;have i6:=i6.stp hs rfl;have l9:=l9.stp hs;have n9:=n9.stp hs rfl;refine O (Za (aQ lK (G (Tr (g:=sK) isAgg59 sizeOf59 rfl b355 fun uO vO=>(G (Gd (g:=sK) 3085 (xs:=([(⟨(w64 ((1:Int)+vB)),bD,(w64 ((1:Int)+l8)),0,(w64 ((w64 (g8+(w64 ((w64 ((1:Int)+l8))+t5.Change))))+iE))⟩:Z5)]:List Z5)) (vs:=[uO]) underlying28 sizeOf59 zeroValue59 rfl rfl (.cons rfl .nil) (RVs.cons vO RVs.nil) rfl rfl fun xO qQ rQ hs o357 yO hxt hfl=>?_))))));have hfr:=hfr.stp hs;have l5:=l5.stp hs;have u6_0_219:=u6_0_219.stp hs rfl;have n8:=n8.stp hs rfl;have u8_0_219:=u8_0_219.stp hs rfl;have i6:=i6.stp hs rfl;have l9:=l9.stp hs;have n9:=n9.stp hs rfl;obtain ⟨mJ,sN,h⟩:=Z1 h;refine G (Qe (g:=xO) (i:=3018) underlying28 Pv rfl rfl n9 l9 rfl yO sN fun zO sQ tK hs o358 aP _=>?_);have hfr:=hfr.stp hs;have l5:=l5.stp hs;have u6_0_219:=u6_0_219.stp hs rfl;have n8:=n8.stp hs rfl;have u8_0_219:=u8_0_219.stp hs rfl;have i6:=i6.stp hs rfl;refine H tK (Zb (Te ?_));obtain ⟨rfl,rfl⟩:=W9 h;exact hQ _ _ ⟨zO,tK,hfr,lD,l5,dK,n8,u6_0_219,mG,i6,u8_0_219,rfl,aP,o358,rfl,oB⟩
    ·clear hx
     obtain ⟨bP,uK,hfr,vK,xK,yK,zK,u6_0_360,aL,bL,u8_0_360,dL,eL,gL,mI,nI⟩:=hR;refine Za (aQ nI (aT (I (w64 (o0+(1:Int)))) rfl rfl rfl (H (I (w64 (o0+(1:Int)))) ?_)));exact O (gN (cD,oD,(w64 (o0+(1:Int)))) _ _ ⟨bP,uK,hfr,vK,xK,yK,zK,u6_0_360,aL,bL,u8_0_360,dL,eL,gL,mI,rfl⟩ h)
  ·clear hx
   obtain ⟨iL,sG,hfr,xG,jL,u6_0_361,lL,mL,u8_0_361,nL,oE,mP⟩:=hR;refine Z (G (Tr (g:=iL) isAgg27 sizeOf27 lL mL fun cP dP=>(aQ nL (G (Gk (g:=iL) (v:=cP) sizeOf27 xG jL rfl dP fun tQ uQ hs b363 cb=>?_)))));clear cb;have hfr:=hfr.stp hs;have oE:=oE.stp hs;refine H sG (O (Gb ?_));obtain rfl:=sinj h;obtain ⟨ad364,cv364,hp364,tN,cr364⟩:=Qh isAgg27 sizeOf27 b363;exact Kv rfl rfl ((show _=p1 from xG).trans hp364) tN (show _=sG from rfl) ⟨_,hfr,_,_,rfl,cr364,oE⟩
def f7 (x0:LoomMill):Option LoomMill:=
 (apnd 8 ([]:List Int) x0.Widths).bind fun y7=>
 some ({x0 with Widths:=y7})
theorem en7:Enters prog 7:=yC func7
theorem wk7 {x0:LoomMill} (rp0:RV gI.m wI x0 up0) {r:LoomMill} (h:f7 x0=some r):Fn prog 7 #[up0] gI wI (fun m w v=>RV m w r v):=by
 unfold f7 at h;refine fnE func7 rfl rfl fun g0 hm hfr=>?_;have rp0:=RVc hm rp0;refine Z (G (D_boxO (g:=g0) 2001 rfl rp0 fun g1 w1 p1 hs b1=>?_));have hfr:=hfr.stp hs;refine G (Gu (g:=g1) 2002 (⟨[],0⟩:LoomMill) zeroValue27 (fun m w=>⟨_,(Gg Tb Zw),rfl⟩) fun g2 w2 p2 hs b2 cb=>?_);have hfr:=hfr.stp hs;have b1:=b1.stp hs rfl;have i6:OSF 2002 60200 0 g2 w2 3 27 ([]:List Int) p2:=cb.osf (by rfl);clear cb;refine O (Z (G (Gd (g:=g2) 3003 (xs:=([]:List Int)) (vs:=[]) underlying25 sizeOf3 zeroValue3 rfl rfl .nil RVs.nil rfl rfl fun g3 w3 v3 hs o3 r3 hxt hfl=>?_)));have hfr:=hfr.stp hs;have b1:=b1.stp hs rfl;have b2:=b2.stp hs rfl;refine Y (S p1 0) (aa Ha (OB.ptr b1)) (G (Qd (g:=g3) Qa.1 isAgg25 sizeOf25 rfl b1 fun v5 r5=>?_));obtain ⟨y7,o0,h⟩:=Z1 h;refine G (Qe (g:=g3) (i:=3003) underlying25 Jf rfl rfl o3 r3 rfl r5 o0 fun g6 w6 v6 hs o6 r6 _=>?_);have hfr:=hfr.stp hs;have b1:=b1.stp hs rfl;have b2:=b2.stp hs rfl;refine Y (S p1 0) (aa Ha (OB.ptr b1)) (G (Wc (g:=g6) Qa sizeOf25 rfl b1 rfl r6 fun g9 w9 hs b9 rst hos=>?_));have g8:=hos _ _ 3003 3 (y7:List Int) (Kn r6) rfl o6;clear rst hos;have hfr:=hfr.stp hs;have b2:=b2.stp hs rfl;refine O (Z (G (Tr (g:=g9) isAgg27 sizeOf27 rfl b9 fun l5 t5=>(G (Gk (g:=g9) (v:=l5) sizeOf27 rfl b2 rfl t5 fun l8 n8 hs b11 cb=>?_)))));clear cb;have hfr:=hfr.stp hs;refine O (Gb ?_);obtain rfl:=sinj h;obtain ⟨ad12,cv12,hp12,hl12,cr12⟩:=Qh isAgg27 sizeOf27 b11;exact Bq rfl rfl ((rq p2).trans hp12) hl12 ⟨_,hfr,cr12⟩
def f8 (x0:List Z5):Option (List Z5):=
 (apnd 40 ([]:List Z5) x0).bind fun y3=>
 some y3
theorem en8:Enters prog 8:=yC func8
theorem wk8 {x0:List Z5} (rp0:RV gI.m wI x0 up0) {r:(List Z5)} (h:f8 x0=some r):Fn prog 8 #[up0] gI wI (fun m w v=>RV m w r v):=by
 unfold f8 at h;refine fnE func8 rfl rfl fun g0 hm hfr=>?_;have rp0:=RVc hm rp0;refine Z (H (.slice none 0 0) (O (Z (G (Gd (g:=g0) 3003 (xs:=([]:List Z5)) (vs:=[]) underlying28 sizeOf59 zeroValue59 rfl rfl .nil RVs.nil rfl rfl fun g1 w1 v1 hs o1 r1 hxt hfl=>?_)))));have hfr:=hfr.stp hs;have rp0:=rp0.stp hs;refine M up0 ?_;obtain ⟨y3,hy3,h⟩:=Z1 h;refine G (Qe (g:=g1) (i:=3003) underlying28 Pv rfl rfl o1 r1 rfl rp0 hy3 fun g2 w2 v2 hs o2 r2 _=>?_);have hfr:=hfr.stp hs;refine H v2 (O (Gb ?_));obtain rfl:=sinj h;exact ac rfl (rq v2) ⟨_,hfr,r2⟩
def f10 (x0:List Z3):Option (List Z3):=
 (apnd 24 ([]:List Z3) x0).bind fun y3=>
 some y3
theorem en10:Enters prog 10:=yC func10
theorem wk10 {x0:List Z3} (rp0:RV gI.m wI x0 up0) {r:(List Z3)} (h:f10 x0=some r):Fn prog 10 #[up0] gI wI (fun m w v=>RV m w r v):=by
 unfold f10 at h;refine fnE func10 rfl rfl fun g0 hm hfr=>?_;have rp0:=RVc hm rp0;refine Z (H (.slice none 0 0) (O (Z (G (Gd (g:=g0) 3003 (xs:=([]:List Z3)) (vs:=[]) underlying38 sizeOf57 zeroValue57 rfl rfl .nil RVs.nil rfl rfl fun g1 w1 v1 hs o1 r1 hxt hfl=>?_)))));have hfr:=hfr.stp hs;have rp0:=rp0.stp hs;refine M up0 ?_;obtain ⟨y3,hy3,h⟩:=Z1 h;refine G (Qe (g:=g1) (i:=3003) underlying38 Lu rfl rfl o1 r1 rfl rp0 hy3 fun g2 w2 v2 hs o2 r2 _=>?_);have hfr:=hfr.stp hs;refine H v2 (O (Gb ?_));obtain rfl:=sinj h;exact ac rfl (rq v2) ⟨_,hfr,r2⟩
def f11 (x0:Int) (x1:Int):Option B3:=
 some (⟨x0,x1⟩:B3)
theorem en11:Enters prog 11:=yC func11
theorem wk11 {x0:Int} {x1:Int}  {r:B3} (h:f11 x0 x1=some r):Fn prog 11 #[I x0,I x1] gI wI (fun m w v=>RV m w r v):=by
 unfold f11 at h;refine fnE func11 rfl rfl fun g0 hm hfr=>?_;refine Z (G (Gu (g:=g0) 2004 (⟨0,0⟩:B3) zeroValue48 (fun m w=>⟨_,(Gg Zw Zw),rfl⟩) fun g1 w1 p1 hs b1 cb=>?_));have hfr:=hfr.stp hs;clear cb;refine O (Z (M (I x0) (M (I x1) ?_)));have r2:RV g1.m w1 (⟨x0,x1⟩:B3) (.agg (Tk [[I 0],[I 0]] [(0,I x0),(1,I x1)]).flatten.toArray):=Ti rfl (Gs rfl (To rfl));generalize hv2:(Value.agg (Tk [[I 0],[I 0]] [(0,I x0),(1,I x1)]).flatten.toArray)=v2 at r2;refine Y v2 (hv2▸T3 (vs:=[(0,I x0),(1,I x1)]) [[I 0],[I 0]] lay_48 rfl rfl (.cons rfl (.cons rfl .nil)) ⟨⟨_,rfl,rfl⟩,⟨⟨_,rfl,rfl⟩,trivial⟩⟩) (G (Gk (g:=g1) (v:=v2) sizeOf48 rfl b1 rfl r2 fun g3 w3 hs b3 cb=>?_));clear cb;have hfr:=hfr.stp hs;refine O (Gb ?_);obtain rfl:=sinj h;obtain ⟨ad4,cv4,hp4,o0,cr4⟩:=Qh isAgg48 sizeOf48 b3;exact Bq rfl rfl ((rq p1).trans hp4) o0 ⟨_,hfr,cr4⟩
def f17 (x0:UInt8) (x1:List UInt16):Option Design:=
 (Kr (x0.toNat:Int) (7:Int)).bind fun y2=>
 Option.bind (α:=Design) (
  lp (σ:=Design × Int) (fun eF (l5,o0)=>
   jn (σ:=Unit) (fun _=>
    Option.bind (α:=Design) (
     Option.bind (α:=Int) (
      bif (decide (o0<(x1.length:Int))) then
       (idx x1 o0).bind fun zD=>
       (H2 (1:Int) (T9 l5.Hooks)).bind fun xE=>
       (Kr (zD.toNat:Int) xE).bind fun aE=>
       some aE
      else
       some (1:Int)
      ) fun lB=>
     (apnd 8 l5.Rows ([lB]:List Int)).bind fun yE=>
     some ({l5 with Rows:=yE})
     ) fun mB=>
    eF (mB,(w64 (o0+(1:Int))))
    ) fun rF=>
   Option.bind (α:=Bool) (
    bif (o0==(0:Int)) then
     some true
    else
     bif (decide (o0<(x1.length:Int))) then
      some (decide (o0<(12:Int)))
     else
      some false
    ) fun v8=>
   bif v8 then
    rF ()
   else
    some l5
   ) big ((⟨(w64 ((2:Int)+y2)),[]⟩:Design),(0:Int))
  ) fun nB=>
 some nB
theorem en17:Enters prog 17:=yC func17
theorem wk17 {x0:UInt8} {x1:List UInt16} (rp1:RV gI.m wI x1 up1) {r:Design} (h:f17 x0 x1=some r):Fn prog 17 #[.int .u8 (UInt8.toNat x0),up1] gI wI (fun m w v=>RV m w r v):=by
 unfold f17 at h;refine fnE func17 rfl rfl fun g0 hm hfr=>?_;have rp1:=RVc hm rp1;refine Z (G (Gu (g:=g0) 2004 (⟨0,[]⟩:Design) zeroValue34 (fun m w=>⟨_,(Gg Zw Tb),rfl⟩) fun g1 w1 p1 hs b1 cb=>?_));have hfr:=hfr.stp hs;have rp1:=rp1.stp hs;have uC:OSF 2004 60401 1 g1 w1 3 34 ([]:List Int) p1:=cb.osf (by rfl);clear cb;refine O (Z (M (.int .u8 (UInt8.toNat x0)) (Y (I (x0.toNat:Int)) (W7 underlying5 underlying3 rfl) ?_)));obtain ⟨y2,hy2,h⟩:=Z1 h;refine Y (I y2) (Gp rfl rfl (congrArg (Option.map (Value.int .i64)) hy2)) (aT (I (w64 ((2:Int)+y2))) rfl rfl rfl ?_);have r3:RV g1.m w1 (⟨(w64 ((2:Int)+y2)),[]⟩:Design) (.agg (Tk [[I 0],[.slice none 0 0]] [(0,I (w64 ((2:Int)+y2)))]).flatten.toArray):=Ti rfl (Gs rfl (To Tb));generalize hv3:(Value.agg (Tk [[I 0],[.slice none 0 0]] [(0,I (w64 ((2:Int)+y2)))]).flatten.toArray)=v3 at r3;refine Y v3 (hv3▸T3 (vs:=[(0,I (w64 ((2:Int)+y2)))]) [[I 0],[.slice none 0 0]] lay_34 rfl rfl (.cons rfl .nil) ⟨⟨_,rfl,rfl⟩,trivial⟩) (G (Gu (g:=g1) 2005 (⟨0,[]⟩:Design) zeroValue34 (fun m w=>⟨_,(Gg Zw Tb),rfl⟩) fun g4 w4 p4 hs b4 cb=>?_));have hfr:=hfr.stp hs;have rp1:=rp1.stp hs;have uC:=uC.stp hs rfl;have b1:=b1.stp hs rfl;have r3:=r3.stp hs;have jJ:OSF 2005 60501 1 g4 w4 3 34 ([]:List Int) p4:=cb.osf (by rfl);clear cb;refine G (Gk (g:=g4) (v:=v3) sizeOf34 rfl b4 rfl r3 fun g5 w5 hs b5 cb=>?_);have sH:OSF 2005 60501 1 g5 w5 3 34 ([]:List Int) p4:=cb.osf (by rw [← hv3];rfl);clear cb;have hfr:=hfr.stp hs;have rp1:=rp1.stp hs;have uC:=uC.stp hs rfl;have b1:=b1.stp hs rfl;refine O ?_;obtain ⟨nB,hx,h⟩:=Z1 h;refine Gn (xD gI wI fun e w g=>e 4=p1∧OB 2004 g w 34 ((⟨0,[]⟩:Design):Design) p1∧OSF 2004 60401 1 g w 3 34 ((⟨0,[]⟩:Design).Rows) p1∧e 5=p4∧OB 2005 g w 34 (nB:Design) p4∧OSF 2005 60501 1 g w 3 34 nB.Rows p4) (fun Q' hQ=>?_) (fun lI kJ hR=>?_)
 ·replace h:=hx
  clear hx;refine Z (H (I 0) (O (Zr (Qz h (fun (s:Design × Int)=>xD gI wI fun e w g=>e 1=up1∧RV g.m w (x1:List UInt16) up1∧e 4=p1∧OB 2004 g w 34 ((⟨0,[]⟩:Design):Design) p1∧OSF 2004 60401 1 g w 3 34 ((⟨0,[]⟩:Design).Rows) p1∧e 5=p4∧OB 2005 g w 34 (s.1:Design) p4∧OSF 2005 60501 1 g w 3 34 ((s.1).Rows) p4∧e 6=I s.2) ⟨g5,hfr,rfl,rp1,rfl,b1,uC,rfl,b5,sH,rfl⟩ (fun X152 eF jH=>?_)))));rintro ⟨l5,o0⟩ mI lJ ⟨zE,hfr,oB,vB,vC,bD,u4_1_153,cD,lD,u5_1_153,l9⟩ h;refine Zq h (fun (s:Unit)=>xD gI wI fun e w g=>e 1=up1∧RV g.m w (x1:List UInt16) up1∧e 4=p1∧OB 2004 g w 34 ((⟨0,[]⟩:Design):Design) p1∧OSF 2004 60401 1 g w 3 34 ((⟨0,[]⟩:Design).Rows) p1∧e 5=p4∧OB 2005 g w 34 (l5:Design) p4∧OSF 2005 60501 1 g w 3 34 l5.Rows p4∧e 6=I o0) (fun X160 rF kH h=>?_) ?_
  ·obtain ⟨v8,hx,h⟩:=Z1 h
   refine Gn (xD gI wI fun e w g=>e 1=up1∧RV g.m w (x1:List UInt16) up1∧e 4=p1∧OB 2004 g w 34 ((⟨0,[]⟩:Design):Design) p1∧OSF 2004 60401 1 g w 3 34 ((⟨0,[]⟩:Design).Rows) p1∧e 5=p4∧OB 2005 g w 34 (l5:Design) p4∧OSF 2005 60501 1 g w 3 34 l5.Rows p4∧e 6=I (o0)∧e 24=.bool v8) (fun Q' hQ=>?_) (fun nI mJ hR=>?_)
   ·replace h:=hx
    clear hx;refine Za (aQ l9 (aT (.bool (o0==(0:Int))) rfl rfl rfl (M (.bool (o0==(0:Int))) ?_)));rcases Zt h with ⟨t5,h⟩ | ⟨t5,h⟩
    ·refine Zz rfl rfl t5 rfl rfl ?_
     iterate 4 refine Zz rfl rfl t5 rfl rfl ?_
     refine S8 (.off rfl rfl) rfl (S8 (.off rfl rfl) rfl (Zz rfl rfl t5 rfl rfl (Y (.bool true) (ae (b:=(o0==(0:Int))) (Tg t5 rfl)) (Zb ?_))));cases h;exact hQ _ _ ⟨zE,hfr,oB,vB,vC,bD,u4_1_153,cD,lD,u5_1_153,l9,rfl⟩
    ·refine ag (I o0) (Zk l9) rfl rfl t5 (ag up1 (Zk oB) rfl rfl t5 (ag (I (x1.length:Int)) (G7 underlying22 rfl vB) rfl rfl t5 (ag (.bool (decide (o0<(x1.length:Int)))) (Gp rfl rfl rfl) rfl rfl t5 (ag (.bool (decide (o0<(x1.length:Int)))) (ai) rfl rfl t5 ?_))))
     rcases Zt h with ⟨aB,h⟩ | ⟨aB,h⟩
     ·refine ag (I o0) (Zk l9) rfl rfl aB (ag (.bool (decide (o0<(12:Int)))) (Gp rfl rfl rfl) rfl rfl aB (ag (.bool (decide (o0<(12:Int)))) (ae (b:=(decide (o0<(x1.length:Int)))) (Tg aB rfl)) rfl rfl t5 (Y (.bool (decide (o0<(12:Int)))) (ae (b:=(o0==(0:Int))) (Td t5 rfl)) (Zb ?_))))
      cases h;exact hQ _ _ ⟨zE,hfr,oB,vB,vC,bD,u4_1_153,cD,lD,u5_1_153,l9,rfl⟩
     ·refine Zz rfl rfl aB rfl rfl (Zz rfl rfl aB rfl rfl (ag (.bool false) (ae (b:=(decide (o0<(x1.length:Int)))) (Td aB rfl)) rfl rfl t5 (Y (.bool false) (ae (b:=(o0==(0:Int))) (Td t5 rfl)) (Zb ?_))))
      cases h;exact hQ _ _ ⟨zE,hfr,oB,vB,vC,bD,u4_1_153,cD,lD,u5_1_153,l9,rfl⟩
   ·clear hx
    obtain ⟨sF,hfr,tF,uF,lE,mE,u4_1_165,oE,rE,u5_1_165,vF,yD⟩:=hR;rcases Zt h with ⟨bE,h⟩ | ⟨bE,h⟩
    ·refine Ta (Eq.trans (show X _ _=.bool v8 from yD) (congrArg Value.bool bE)) ?_
     exact Zu (Zd (kH () _ _ ⟨sF,hfr,tF,uF,lE,mE,u4_1_165,oE,rE,u5_1_165,vF⟩ h))
    ·refine Gv (Eq.trans (show X _ _=.bool v8 from yD) (congrArg Value.bool bE)) (Th (Gr (Gr (G2 ?_))))
     cases h;exact hQ _ _ ⟨sF,hfr,lE,mE,u4_1_165,oE,rE,u5_1_165⟩
  ·rintro _ pI nJ ⟨xF,hfr,yB,g8,uE,zB,u4_1_167,nD,n9,u5_1_167,cC⟩ h
   obtain ⟨mB,hx,h⟩:=Z1 h;refine Gn (xD gI wI fun e w g=>e 1=up1∧RV g.m w (x1:List UInt16) up1∧e 4=p1∧OB 2004 g w 34 ((⟨0,[]⟩:Design):Design) p1∧OSF 2004 60401 1 g w 3 34 ((⟨0,[]⟩:Design).Rows) p1∧e 5=p4∧OB 2005 g w 34 (mB:Design) p4∧OSF 2005 60501 1 g w 3 34 mB.Rows p4∧e 6=I o0) (fun Q' hQ=>?_) (fun qI oJ hR=>?_)
   ·replace h:=hx
    clear hx;refine Zr (Z (H (I 1) (O ?_)));obtain ⟨lB,hx,h⟩:=Z1 h;refine Gn (xD gI wI fun e w g=>e 1=up1∧RV g.m w (x1:List UInt16) up1∧e 4=p1∧OB 2004 g w 34 ((⟨0,[]⟩:Design):Design) p1∧OSF 2004 60401 1 g w 3 34 ((⟨0,[]⟩:Design).Rows) p1∧e 5=p4∧OB 2005 g w 34 (l5:Design) p4∧OSF 2005 60501 1 g w 3 34 l5.Rows p4∧e 6=I (o0)∧e 7=I lB) (fun Q' hQ=>?_) (fun sI pJ hR=>?_)
    ·replace h:=hx
     clear hx;refine Z (aQ cC (aQ yB (Y (I (x1.length:Int)) (G7 underlying22 rfl g8) (aT (.bool (decide (o0<(x1.length:Int)))) rfl rfl rfl (O ?_)))));rcases Zt h with ⟨iE,h⟩ | ⟨iE,h⟩
     ·refine Gz iE rfl ?_
      obtain ⟨zD,dF,h⟩:=Z1 h;have tH:=G1 g8 dF;refine Zs (x:=.tmp 33) isAgg131 sizeOf131 tH fun qJ uH lH=>?_;obtain rfl:=RV_u16.1 uH;refine We (x:=.tmp 36) Wu.1 isAgg3 sizeOf3 n9 fun rJ xH mH=>?_;obtain rfl:=Zj.1 xH;obtain ⟨xE,nH,h⟩:=Z1 h;obtain ⟨aE,oH,h⟩:=Z1 h;refine ab (g:=xF) (n:=11) [] [0,1,2,3,4,5,6,7,8,9,10] mixed trivial (V up1 rfl (Zk yB) (V (I o0) rfl (Zk cC) (V (Gy up1 o0 1) rfl (Zh (α:=UInt16) underlying22 sizeOf131 rfl g8 rfl dF) (G3 (c:=.int .u16 (UInt16.toNat zD)) rfl rfl .plain xC lH rfl (V (I (zD.toNat:Int)) rfl (P_u16int underlying131 underlying3 rfl) (V (S p4 0) rfl (Zc Y9 nD (OB.ptr n9)) (G3 (c:=I l5.Hooks) rfl rfl .plain xB mH rfl (V (.int .u64 (T9 l5.Hooks)) rfl (Ul underlying3 underlying132 rfl) (V (I xE) rfl (P_shlu rfl rfl nH) (V (I aE) rfl (Gp rfl rfl (congrArg (Option.map (Value.int .i64)) oH)) (V (I aE) rfl (Tp rfl) (Ki fun yH sJ hs=>?_))))))))))));have hfr:=hfr.ext hs;have g8:=g8.ext hs;have u4_1_167:=u4_1_167.ext hs;have zB:=zB.ext hs;have u5_1_167:=u5_1_167.ext hs;have n9:=n9.ext hs;clear hs;refine Zb ?_;cases h;exact hQ _ _ ⟨yH,hfr,yB,g8,uE,zB,u4_1_167,nD,n9,u5_1_167,cC,rfl⟩
     ·refine G0 iE rfl (Zu ?_)
      cases h;exact hQ _ _ ⟨xF,hfr,yB,g8,uE,zB,u4_1_167,nD,n9,u5_1_167,cC,rfl⟩
    ·clear hx
     obtain ⟨yF,hfr,aG,l8,bG,n8,u4_1_288,oD,i6,u5_1_288,cG,eG⟩:=hR;refine Za (Y (S p4 1) (Zc Yy oD (OB.ptr i6)) (G (Ut (g:=yF) Wy.1 isAgg25 sizeOf25 rfl i6 u5_1_288 fun vJ cF o290=>(aQ eG (G (Gd (g:=yF) 3044 (xs:=([lB]:List Int)) (vs:=[I lB]) underlying25 sizeOf3 zeroValue3 rfl rfl (.cons rfl .nil) (RVs.cons (Zj.2 rfl) RVs.nil) rfl rfl fun zH xJ zJ hs o291 aI hxt hfl=>?_))))));have hfr:=hfr.stp hs;have l8:=l8.stp hs;have u4_1_288:=u4_1_288.stp hs rfl;have n8:=n8.stp hs rfl;have i6:=i6.stp hs rfl;have cF:=cF.stp hs;have o290:=o290.stp hs rfl;obtain ⟨yE,pH,h⟩:=Z1 h;refine G (Qe (g:=zH) (i:=60501) underlying25 Jf rfl rfl o290 cF rfl aI pH fun bI aK bK hs o292 gG _=>?_);have hfr:=hfr.stp hs;have l8:=l8.stp hs;have u4_1_288:=u4_1_288.stp hs rfl;have n8:=n8.stp hs rfl;have i6:=i6.stp hs rfl;refine Y (S p4 1) (Zc Yy oD (OB.ptr i6)) (G (Wc (g:=bI) Wy sizeOf25 rfl i6 rfl gG fun dI cK hs b295 rst hos=>?_));have iG:=hos _ _ 60501 3 (yE:List Int) (Kn gG) rfl o292;clear rst hos;have hfr:=hfr.stp hs;have l8:=l8.stp hs;have u4_1_288:=u4_1_288.stp hs rfl;have n8:=n8.stp hs rfl;refine Zb (Te ?_);cases h;exact hQ _ _ ⟨dI,hfr,aG,l8,bG,n8,u4_1_288,oD,b295,iG,cG⟩
   ·clear hx
    obtain ⟨iI,hfr,jG,kG,lG,mG,u4_1_296,sG,xG,u5_1_296,yG⟩:=hR;refine Za (aQ yG (aT (I (w64 (o0+(1:Int)))) rfl rfl rfl (H (I (w64 (o0+(1:Int)))) ?_)));exact O (jH (mB,(w64 (o0+(1:Int)))) _ _ ⟨iI,hfr,jG,kG,lG,mG,u4_1_296,sG,xG,u5_1_296,rfl⟩ h)
 ·clear hx
  obtain ⟨zG,hfr,vE,aH,u4_1_297,cH,gH,u5_1_297⟩:=hR;refine Z (G (Tr (g:=zG) isAgg34 sizeOf34 cH gH fun jI kI=>(G (Gk (g:=zG) (v:=jI) sizeOf34 vE aH rfl kI fun dK lK hs b299 cb=>?_))));clear cb;have hfr:=hfr.stp hs;refine O (Gb ?_);obtain rfl:=sinj h;obtain ⟨ad300,cv300,hp300,qH,cr300⟩:=Qh isAgg34 sizeOf34 b299;exact Bq rfl rfl ((show _=p1 from vE).trans hp300) qH ⟨_,hfr,cr300⟩
def f21 (x0:Z8):Option Int:=
 (H2 (1:Int) ((x0.orders).length:Int)).bind fun y4=>
 some (w64 (y4-(1:Int)))
theorem en21:Enters prog 21:=yC func21
theorem wk21 {x0:Z8} (rp0:RV gI.m wI x0 up0) {r:Int} (h:f21 x0=some r):Fn prog 21 #[up0] gI wI (fun _ _ v=>v=I r):=by
 unfold f21 at h;refine fnE func21 rfl rfl fun g0 hm hfr=>?_;have rp0:=RVc hm rp0;refine Z (G (Tw (g:=g0) rfl rp0 fun g1 w1 p1 hs q1=>?_));have hfr:=hfr.ext hs;refine H (I 0) (O (Z (Y (S p1 2) (aa W6 (PT.ptr q1)) ?_)));have q2:=Zm G8.1 q1;refine G (Ga (g:=g1) isAgg28 sizeOf28 rfl q2 fun v3 r3=>(Y (I ((x0.orders).length:Int)) (G7 underlying28 rfl r3) ?_));obtain ⟨y4,o0,h⟩:=Z1 h;refine Y (I y4) (Gp rfl rfl (congrArg (Option.map (Value.int .i64)) o0)) (aT (I (w64 (y4-(1:Int)))) rfl rfl rfl (H (I (w64 (y4-(1:Int)))) (O (Gb ?_))));cases h;exact ac rfl (rq (I (w64 (y4-(1:Int))))) ⟨_,hfr,rfl⟩
def f31 (x0:Z8) (x1:Z3):Option Int:=
 (idx x0.orders x1.Order).bind fun y9=>
 some (w64 (x1.From+y9.Woven))
theorem en31:Enters prog 31:=yC func31
theorem wk31 {x0:Z8} {x1:Z3} (rp0:RV gI.m wI x0 up0) (rp1:RV gI.m wI x1 up1) {r:Int} (h:f31 x0 x1=some r):Fn prog 31 #[up0,up1] gI wI (fun _ _ v=>v=I r):=by
 unfold f31 at h;refine fnE func31 rfl rfl fun g0 hm hfr=>?_;have rp0:=RVc hm rp0;have rp1:=RVc hm rp1;refine Z (G (Tw (g:=g0) rfl rp0 fun g1 w1 p1 hs q1=>?_));have hfr:=hfr.ext hs;have rp1:=rp1.ext hs;refine G (Tw (g:=g1) rfl rp1 fun g2 w2 p2 hs q2=>?_);have hfr:=hfr.ext hs;have q1:=q1.ext hs;refine H (I 0) (O (Zf ?_));have q3:=Zm Ty.1 q2;refine Zs (x:=.tmp 5) isAgg3 sizeOf3 q3 fun v4 r4 t5=>?_;obtain rfl:=Zj.1 r4;have q5:=Zm G8.1 q1;refine Zs (x:=.tmp 7) isAgg28 sizeOf28 q5 fun v6 r6 i6=>?_;have q7:=Zm T6.1 q2;refine Zs (x:=.tmp 9) isAgg3 sizeOf3 q7 fun v8 r8 g8=>?_;obtain rfl:=Zj.1 r8;obtain ⟨y9,o0,h⟩:=Z1 h;have l5:=G1 r6 o0;have l8:=Zm Qv.1 l5;refine Zs (x:=.tmp 12) isAgg3 sizeOf3 l8 fun l9 n8 hl12=>?_;obtain rfl:=Zj.1 n8;refine ab (g:=g2) (n:=11) [] [0,1,2,3,4,5,6,7,8,9,10] mixed trivial (V (S p2 2) rfl (aa Ws (PT.ptr q2)) (G3 (c:=I x1.From) rfl rfl .plain xC t5 rfl (V (S p1 2) rfl (aa W6 (PT.ptr q1)) (G3 (c:=v6) rfl rfl .plain xC i6 rfl (V (S p2 0) rfl (aa Kw (PT.ptr q2)) (G3 (c:=I x1.Order) rfl rfl .plain xC g8 rfl (V (Gy v6 x1.Order 5) rfl (Zh (α:=Z5) underlying28 sizeOf59 rfl r6 rfl o0) (V (S (Gy v6 x1.Order 5) 2) rfl (aa Yd (PT.ptr l5)) (G3 (c:=I y9.Woven) rfl rfl .plain xC hl12 rfl (V (I (w64 (x1.From+y9.Woven))) rfl (Gp rfl rfl rfl) (V (I (w64 (x1.From+y9.Woven))) rfl (Tp rfl) (Ki fun n9 aB hs=>?_))))))))))));have hfr:=hfr.ext hs;clear hs;refine O (Gb ?_);cases h;exact ac rfl (rq (I (w64 (x1.From+y9.Woven)))) ⟨_,hfr,rfl⟩
def f38 (x0:List Int):Option (List Int):=
 (apnd 8 ([]:List Int) x0).bind fun y3=>
 some y3
theorem en38:Enters prog 38:=yC func38
theorem wk38 {x0:List Int} (rp0:RV gI.m wI x0 up0) {r:(List Int)} (h:f38 x0=some r):Fn prog 38 #[up0] gI wI (fun m w v=>RV m w r v):=by
 unfold f38 at h;refine fnE func38 rfl rfl fun g0 hm hfr=>?_;have rp0:=RVc hm rp0;refine Z (H (.slice none 0 0) (O (Z (G (Gd (g:=g0) 3003 (xs:=([]:List Int)) (vs:=[]) underlying25 sizeOf3 zeroValue3 rfl rfl .nil RVs.nil rfl rfl fun g1 w1 v1 hs o1 r1 hxt hfl=>?_)))));have hfr:=hfr.stp hs;have rp0:=rp0.stp hs;refine M up0 ?_;obtain ⟨y3,hy3,h⟩:=Z1 h;refine G (Qe (g:=g1) (i:=3003) underlying25 Jf rfl rfl o1 r1 rfl rp0 hy3 fun g2 w2 v2 hs o2 r2 _=>?_);have hfr:=hfr.stp hs;refine H v2 (O (Gb ?_));obtain rfl:=sinj h;exact ac rfl (rq v2) ⟨_,hfr,r2⟩
def f40 (x0:List Int) (x1:List Int):Option Bool:=
 jn (σ:=Unit) (fun _=>
  jn (σ:=Unit) (fun _=>
   some true
   ) fun k53=>
  lp (σ:=Int) (fun k54 o0=>
   jn (σ:=Unit) (fun _=>
    jn (σ:=Unit) (fun _=>
     k54 (w64 (o0+(1:Int)))
     ) fun cD=>
    (idx x0 o0).bind fun n8=>
    (idx x1 o0).bind fun v8=>
    bif (n8 != v8) then
     some false
    else
     cD ()
    ) fun k57=>
   bif (decide (o0<(x0.length:Int))) then
    k57 ()
   else
    k53 ()
   ) big (0:Int)
  ) fun k2=>
 bif ((x0.length:Int) != (x1.length:Int)) then
  some false
 else
  k2 ()
theorem en40:Enters prog 40:=yC func40
theorem wk40 {x0:List Int} {x1:List Int} (rp0:RV gI.m wI x0 up0) (rp1:RV gI.m wI x1 up1) {r:Bool} (h:f40 x0 x1=some r):Fn prog 40 #[up0,up1] gI wI (fun _ _ v=>v=.bool r):=by
 unfold f40 at h;refine fnE func40 rfl rfl fun g0 hm hfr=>?_;have rp0:=RVc hm rp0;have rp1:=RVc hm rp1;refine Z (H (.bool false) (O (Zq h (fun (s:Unit)=>xD gI wI fun e w g=>e 0=up0∧RV g.m w (x0:List Int) up0∧e 1=up1∧RV g.m w (x1:List Int) up1) (fun X2 k2 hk2 h=>?_) ?_)))
 ·refine Z (M up0 (Y (I (x0.length:Int)) (G7 underlying25 rfl rp0) (M up1 (Y (I (x1.length:Int)) (G7 underlying25 rfl rp1) (aT (.bool ((x0.length:Int) != (x1.length:Int))) rfl rfl rfl (O ?_))))))
  rcases Zt h with ⟨hc3,h⟩ | ⟨hc3,h⟩
  ·refine Gz hc3 rfl (Z (H (.bool false) (O (Gb (Gj ?_)))))
   obtain rfl:=sinj h;exact ac rfl (rq (.bool false)) ⟨_,hfr,rfl⟩
  ·refine G0 hc3 rfl ?_
   exact Zu (Zd (hk2 () _ _ ⟨g0,hfr,rfl,rp0,rfl,rp1⟩ h))
 ·rintro _ xF w4 ⟨g4,hfr,nD,oD,yD,zD⟩ h
  refine Zq h (fun (s:Unit) e w=>∃ (g:Gh) ,Fr gI wI g w) (fun X53 k53 aE h=>?_) ?_
  ·refine Z (H (I 0) (O (Zr (Qz h (fun (s:Int)=>xD gI wI fun e w g=>e 0=up0∧RV g.m w (x0:List Int) up0∧e 1=up1∧RV g.m w (x1:List Int) up1∧e 5=I s) ⟨g4,hfr,nD,oD,yD,zD,rfl⟩ (fun X54 k54 bE=>?_)))))
   rintro o0 rF yF ⟨lD,hfr,l9,n9,vC,bD,aB⟩ h;refine Zq h (fun (s:Unit)=>xD gI wI fun e w g=>e 0=up0∧RV g.m w (x0:List Int) up0∧e 1=up1∧RV g.m w (x1:List Int) up1∧e 5=I o0) (fun X57 k57 iE h=>?_) ?_
   ·refine Z (aQ aB (aQ l9 (Y (I (x0.length:Int)) (G7 underlying25 rfl n9) (aT (.bool (decide (o0<(x0.length:Int)))) rfl rfl rfl (O ?_)))))
    rcases Zt h with ⟨l8,h⟩ | ⟨l8,h⟩
    ·refine Gz l8 rfl ?_
     exact Zu (Zd (iE () _ _ ⟨lD,hfr,l9,n9,vC,bD,aB⟩ h))
    ·refine G0 l8 rfl (Th (Gr (Gr (G2 ?_))))
     exact Zd (aE () _ _ ⟨lD,hfr⟩ h)
   ·rintro _ sF aG ⟨uE,hfr,lB,l5,mB,t5,i6⟩ h
    refine Zq h (fun (s:Unit)=>xD gI wI fun e w g=>e 0=up0∧RV g.m w (x0:List Int) up0∧e 1=up1∧RV g.m w (x1:List Int) up1∧e 5=I o0) (fun X81 cD lE h=>?_) ?_
    ·refine Zr (Zf ?_)
     obtain ⟨n8,nB,h⟩:=Z1 h;have vE:=G1 l5 nB;refine Zs (x:=.tmp 19) isAgg3 sizeOf3 vE fun bG xE mE=>?_;obtain rfl:=Zj.1 xE;obtain ⟨v8,oB,h⟩:=Z1 h;have yE:=G1 t5 oB;refine Zs (x:=.tmp 23) isAgg3 sizeOf3 yE fun cG zE oE=>?_;obtain rfl:=Zj.1 zE;refine ab (g:=uE) (n:=9) [] [0,1,2,3,4,5,6,7,8] mixed trivial (V up0 rfl (Zk lB) (V (I o0) rfl (Zk i6) (V (Gy up0 o0 1) rfl (Zh (α:=Int) underlying25 sizeOf3 rfl l5 rfl nB) (G3 (c:=I n8) rfl rfl .plain xC mE rfl (V up1 rfl (Zk mB) (V (I o0) rfl (Zk i6) (V (Gy up1 o0 1) rfl (Zh (α:=Int) underlying25 sizeOf3 rfl t5 rfl oB) (G3 (c:=I v8) rfl rfl .plain xC oE rfl (V (.bool (n8 != v8)) rfl (Gp rfl rfl rfl) (Ki fun cF eG hs=>?_))))))))));have hfr:=hfr.ext hs;have l5:=l5.ext hs;have t5:=t5.ext hs;clear hs;refine O ?_;rcases Zt h with ⟨g8,h⟩ | ⟨g8,h⟩
     ·refine Gz g8 rfl (Z (H (.bool false) (O (Gb (G6 (Gj (Gj (G6 (Gj ?_)))))))))
      obtain rfl:=sinj h;exact ac rfl (rq (.bool false)) ⟨_,hfr,rfl⟩
     ·refine G0 g8 rfl ?_
      exact Zu (Te (Zd (lE () _ _ ⟨cF,hfr,lB,l5,mB,t5,i6⟩ h)))
    ·rintro _ dF tF ⟨rE,hfr,vB,yB,zB,cC,uC⟩ h
     refine Za (aQ uC (aT (I (w64 (o0+(1:Int)))) rfl rfl rfl (H (I (w64 (o0+(1:Int)))) ?_)));exact O (bE (w64 (o0+(1:Int))) _ _ ⟨rE,hfr,vB,yB,zB,cC,rfl⟩ h)
  ·rintro _ eF uF ⟨vF,hfr⟩ h
   refine Z (H (.bool true) (O (Gb ?_)));obtain rfl:=sinj h;exact ac rfl (rq (.bool true)) ⟨_,hfr,rfl⟩
def f49 (x0:Int):Option (List Int):=
 Option.bind (α:=(List Int)) (
  lp (σ:=(List Int) × Int) (fun aE (l5,o0)=>
   jn (σ:=Unit) (fun _=>
    Option.bind (α:=(List Int)) (
     (Wv x0 o0).bind fun n9=>
     bif ((Tx .and n9 (1:Int))==(1:Int)) then
      (apnd 8 l5 ([o0]:List Int)).bind fun bE=>
      some bE
     else
      some l5
     ) fun t5=>
    aE (t5,(w64 (o0+(1:Int))))
    ) fun iE=>
   (Wv x0 o0).bind fun mB=>
   bif (decide (mB>(0:Int))) then
    iE ()
   else
    some l5
   ) big ([],(0:Int))
  ) fun g8=>
 some g8
theorem en49:Enters prog 49:=yC func49
theorem wk49 {x0:Int}  {r:(List Int)} (h:f49 x0=some r):Fn prog 49 #[I x0] gI wI (fun m w v=>RV m w r v):=by
 unfold f49 at h;refine fnE func49 rfl rfl fun g0 hm hfr=>?_;refine Z (H (.slice none 0 0) (O ?_));obtain ⟨g8,hx,h⟩:=Z1 h;refine Gn (fun e w=>∃ (g:Gh) (v2:Value),Fr gI wI g w∧e 2=v2∧RV g.m w (g8:List Int) v2∧OS 1002 g w 3 (g8:List Int) v2) (fun Q' hQ=>?_) (fun tF yF hR=>?_)
 ·replace h:=hx
  clear hx;refine Z (H (I 0) (O (Zr (Qz h (fun (s:(List Int) × Int) e w=>∃ (g:Gh) (v2:Value),Fr gI wI g w∧e 0=I (x0)∧e 2=v2∧RV g.m w (s.1:List Int) v2∧OS 1002 g w 3 (s.1:List Int) v2∧e 3=I s.2) ⟨g0,(.slice none 0 0),hfr,rfl,rfl,T8,OS.nil,rfl⟩ (fun X20 aE rE=>?_)))));rintro ⟨l5,o0⟩ uF aG ⟨lE,i6,hfr,nB,oB,vB,yB,zB⟩ h;refine Zq h (fun (s:Unit)=>xD gI wI fun e w g=>e 0=I (x0)∧e 2=i6∧RV g.m w (l5:List Int) i6∧OS 1002 g w 3 (l5:List Int) i6∧e 3=I o0) (fun X24 iE uE h=>?_) ?_
  ·refine Z (aQ nB (aQ zB ?_))
   obtain ⟨mB,vE,h⟩:=Z1 h;refine Y (I mB) (Gp rfl rfl (congrArg (Option.map (Value.int .i64)) vE)) (aT (.bool (decide (mB>(0:Int)))) rfl rfl rfl (O ?_));rcases Zt h with ⟨aB,h⟩ | ⟨aB,h⟩
   ·refine Gz aB rfl ?_
    exact Zu (Zd (uE () _ _ ⟨lE,hfr,nB,oB,vB,yB,zB⟩ h))
   ·refine G0 aB rfl (Th (Gr (Gr (G2 ?_))))
    cases h;exact hQ _ _ ⟨lE,i6,hfr,oB,vB,yB⟩
  ·rintro _ vF bG ⟨mE,hfr,l9,cC,l8,n8,v8⟩ h
   obtain ⟨t5,hx,h⟩:=Z1 h;refine Gn (fun e w=>∃ (g:Gh) (v2:Value),Fr gI wI g w∧e 0=I (x0)∧e 2=v2∧RV g.m w (t5:List Int) v2∧OS 1002 g w 3 (t5:List Int) v2∧e 3=I o0) (fun Q' hQ=>?_) (fun xF cG hR=>?_)
   ·replace h:=hx
    clear hx;refine Zr (Z (aQ l9 (aQ v8 ?_)));obtain ⟨n9,xE,h⟩:=Z1 h;refine Y (I n9) (Gp rfl rfl (congrArg (Option.map (Value.int .i64)) xE)) (aT (I (Tx .and n9 (1:Int))) rfl rfl rfl (aT (.bool ((Tx .and n9 (1:Int))==(1:Int))) rfl rfl rfl (O ?_)));rcases Zt h with ⟨lB,h⟩ | ⟨lB,h⟩
    ·refine Gz lB rfl (Za (aQ cC (aQ v8 (G (Gd (g:=mE) 3017 (xs:=([o0]:List Int)) (vs:=[I o0]) underlying25 sizeOf3 zeroValue3 rfl rfl (.cons rfl .nil) (RVs.cons (Zj.2 rfl) RVs.nil) rfl rfl fun zE eG gG hs o35 cF hxt hfl=>?_)))))
     have hfr:=hfr.stp hs;have l8:=l8.stp hs;have n8:=n8.stp hs rfl;obtain ⟨bE,yE,h⟩:=Z1 h;refine G (Qe (g:=zE) (i:=1002) underlying25 Jf rfl rfl n8 l8 rfl cF yE fun dF iG oE hs o36 eF _=>?_);have hfr:=hfr.stp hs;refine H oE (Zb (Te ?_));cases h;exact hQ _ _ ⟨dF,oE,hfr,l9,rfl,eF,o36,v8⟩
    ·refine G0 lB rfl (Zu (Te ?_))
     cases h;exact hQ _ _ ⟨mE,i6,hfr,l9,cC,l8,n8,v8⟩
   ·clear hx
    obtain ⟨rF,vC,hfr,bD,cD,lD,nD,oD⟩:=hR;refine Za (aQ oD (aT (I (w64 (o0+(1:Int)))) rfl rfl rfl (H (I (w64 (o0+(1:Int)))) ?_)));exact O (rE (t5,(w64 (o0+(1:Int)))) _ _ ⟨rF,vC,hfr,bD,cD,lD,nD,rfl⟩ h)
 ·clear hx
  obtain ⟨jG,uC,hfr,yD,zD,sF⟩:=hR;refine Z (aQ yD (H uC (O (Gb ?_))));obtain rfl:=sinj h;exact ac rfl (rq uC) ⟨_,hfr,zD⟩
def f53 (x0:List Int):Option Int:=
 jn (σ:=Unit) (fun _=>
  some (0:Int)
  ) fun k14=>
 lp (σ:=Int) (fun yB o0=>
  bif (decide (o0<(x0.length:Int))) then
   jn (σ:=Unit) (fun _=>
    yB (w64 (o0+(1:Int)))
    ) fun zB=>
   (idx x0 o0).bind fun y23=>
   bif (y23 != (0:Int)) then
    some y23
   else
    zB ()
  else
   k14 ()
  ) big (0:Int)
theorem en53:Enters prog 53:=yC func53
theorem wk53 {x0:List Int} (rp0:RV gI.m wI x0 up0) {r:Int} (h:f53 x0=some r):Fn prog 53 #[up0] gI wI (fun _ _ v=>v=I r):=by
 unfold f53 at h;refine fnE func53 rfl rfl fun g0 hm hfr=>?_;have rp0:=RVc hm rp0;refine Z (H (I 0) (O (Z (H (I 0) (O (Zq h (fun (s:Unit)=>xD gI wI fun e w g=>e 3=I (0:Int)) (fun X14 k14 cC h=>?_) ?_))))))
 ·refine Z (M up0 (Y (I (x0.length:Int)) (G7 underlying25 rfl rp0) (M (I 0) (O (Zr (Qz h (fun (s:Int)=>xD gI wI fun e w g=>e 3=I (0:Int)∧e 6=up0∧RV g.m w (x0:List Int) up0∧e 7=I (x0.length:Int)∧e 8=I s) ⟨g0,hfr,rfl,rfl,rp0,rfl,rfl⟩ (fun X15 yB uC=>?_)))))))
  rintro o0 nD zD ⟨l9,hfr,l5,n8,t5,v8,i6⟩ h;refine Z (aT (.bool (decide (o0<(x0.length:Int)))) i6 v8 rfl (O (Zf ?_)));rcases Zt h with ⟨g8,h⟩ | ⟨g8,h⟩
  ·refine Gz g8 rfl (Zu (Zd (Zq h (fun (s:Unit)=>xD gI wI fun e w g=>e 3=I (0:Int)∧e 6=up0∧RV g.m w (x0:List Int) up0∧e 7=I (x0.length:Int)∧e 8=I o0) (fun X22 zB vC h=>?_) ?_)))
   ·refine Zr (Z ?_)
    obtain ⟨y23,n9,h⟩:=Z1 h;refine Y (Gy up0 o0 1) (Zh (α:=Int) underlying25 sizeOf3 n8 t5 i6 n9) ?_;have bD:=G1 t5 n9;refine G (Ga (g:=l9) isAgg3 sizeOf3 rfl bD fun aE cD=>?_);obtain rfl:=Zj.1 cD;refine H (I y23) (O (Z (M (I y23) (aQ l5 (aT (.bool (y23 != (0:Int))) rfl rfl rfl (O ?_))))));rcases Zt h with ⟨l8,h⟩ | ⟨l8,h⟩
    ·refine Gz l8 rfl (Z (M (I y23) (H (I y23) (O (Gb (G6 (Gj (Gj (G6 (Gj ?_))))))))))
     obtain rfl:=sinj h;exact ac rfl (rq (I y23)) ⟨_,hfr,rfl⟩
    ·refine G0 l8 rfl ?_
     exact Zu (Te (Zd (vC () _ _ ⟨l9,hfr,l5,n8,t5,v8,i6⟩ h)))
   ·rintro _ oD bE ⟨lD,hfr,aB,lB,mB,nB,oB⟩ h
    refine Za (aT (I (w64 (o0+(1:Int)))) oB rfl rfl (M (I (w64 (o0+(1:Int)))) ?_));exact O (uC (w64 (o0+(1:Int))) _ _ ⟨lD,hfr,aB,lB,mB,nB,rfl⟩ h)
  ·refine G0 g8 rfl (Th (Gr (Gr (G2 ?_))))
   exact Zd (cC () _ _ ⟨l9,hfr,l5⟩ h)
 ·rintro _ yD iE ⟨lE,hfr,vB⟩ h
  refine Z (aQ vB (H (I (0:Int)) (O (Gb ?_))));cases h;exact ac rfl (rq (I (0:Int))) ⟨_,hfr,rfl⟩
def f55 (x0:List Z3) (x1:Z3→Option Bool):Option Int:=
 jn (σ:=Unit) (fun _=>
  some (-1:Int)
  ) fun k18=>
 lp (σ:=Int) (fun k19 o0=>
  bif (decide (o0<(x0.length:Int))) then
   jn (σ:=Unit) (fun _=>
    k19 (w64 (o0+(1:Int)))
    ) fun k28=>
   (idx x0 o0).bind fun vB=>
   (x1 vB).bind fun yB=>
   bif yB then
    some o0
   else
    k28 ()
  else
   k18 ()
  ) big (0:Int)
theorem en55:Enters prog 55:=yC func55
theorem wk55 {x0:List Z3} {x1:Z3→Option Bool} (rp0:RV gI.m wI x0 up0) (rp1:Ho prog x1 up1 gI wI) {r:Int} (h:f55 x0 x1=some r):Fn prog 55 #[up0,up1] gI wI (fun _ _ v=>v=I r):=by
 unfold f55 at h;refine fnE func55 rfl rfl fun g0 hm hfr=>?_;have rp0:=RVc hm rp0;obtain ⟨ff1,fa1,fc1,rfl,fen1,fcl1⟩:=rp1;refine Z (H (I 0) (O (Zq h (fun (s:Unit) e w=>∃ (g:Gh) ,Fr gI wI g w) (fun X18 k18 zB h=>?_) ?_)))
 ·refine Z (M up0 (Y (I (x0.length:Int)) (G7 underlying38 rfl rp0) (M (I 0) (O (Zr (Qz h (fun (s:Int)=>xD gI wI fun e w g=>e 0=up0∧RV g.m w (x0:List Z3) up0∧e 1=(.func (.func ff1) fa1 fc1)∧e 7=I (x0.length:Int)∧e 8=I s) ⟨g0,hfr,rfl,rp0,rfl,rfl,rfl⟩ (fun X19 k19 cC=>?_)))))))
  rintro o0 yD bE ⟨l9,hfr,l8,l5,n8,v8,t5⟩ h;refine Z (aT (.bool (decide (o0<(x0.length:Int)))) t5 v8 rfl (O (Zf ?_)));rcases Zt h with ⟨i6,h⟩ | ⟨i6,h⟩
  ·refine Gz i6 rfl (Zu (Zd (Zq h (fun (s:Unit)=>xD gI wI fun e w g=>e 0=up0∧RV g.m w (x0:List Z3) up0∧e 1=(.func (.func ff1) fa1 fc1)∧e 7=I (x0.length:Int)∧e 8=I o0) (fun X28 k28 uC h=>?_) ?_)))
   ·refine Zr (Z (aQ t5 (H (I o0) (O (Z (aQ n8 (aQ l8 (M (I o0) ?_))))))))
    obtain ⟨vB,n9,h⟩:=Z1 h;refine Y (Gy up0 o0 3) (Zh (α:=Z3) underlying38 sizeOf57 rfl l5 rfl n9) ?_;have bD:=G1 l5 n9;refine G (Ga (g:=l9) isAgg57 sizeOf57 rfl bD fun cD lD=>?_);obtain ⟨yB,vC,h⟩:=Z1 h;refine G (K9 (g:=l9) (vs:=[cD]) rfl fen1 (.cons rfl .nil) (fcl1 _ _ hfr.ch _ _ _  lD vC) fun nD iE lE hs hr=>?_);have hfr:=hfr.ext hs;have l5:=l5.ext hs;obtain rfl:=Tz.1 hr;refine O ?_;rcases Zt h with ⟨g8,h⟩ | ⟨g8,h⟩
    ·refine Gz g8 rfl (Z (M (I o0) (H (I o0) (O (Gb (G6 (Gj (Gj (G6 (Gj ?_))))))))))
     obtain rfl:=sinj h;exact ac rfl (rq (I o0)) ⟨_,hfr,rfl⟩
    ·refine G0 g8 rfl ?_
     exact Zu (Te (Zd (uC () _ _ ⟨nD,hfr,l8,l5,n8,v8,t5⟩ h)))
   ·rintro _ zD mE ⟨oD,hfr,aB,lB,mB,nB,oB⟩ h
    refine Za (aT (I (w64 (o0+(1:Int)))) oB rfl rfl (M (I (w64 (o0+(1:Int)))) ?_));exact O (cC (w64 (o0+(1:Int))) _ _ ⟨oD,hfr,aB,lB,mB,nB,rfl⟩ h)
  ·refine G0 i6 rfl (Th (Gr (Gr (G2 ?_))))
   exact Zd (zB () _ _ ⟨l9,hfr⟩ h)
 ·rintro _ aE oE ⟨rE,hfr⟩ h
  refine Z (H (I (-1)) (O (Gb ?_)));cases h;exact ac rfl (rq (I (-1))) ⟨_,hfr,rfl⟩
def f57 (x0:Vector UInt8 8):Option (UInt8 × UInt8):=
 Option.bind (α:=UInt8 × UInt8) (
  (cut x0.toList 0 (6:Int)).bind fun t5=>
  lp (σ:=UInt8 × UInt8 × Int) (fun zD (i6,g8,o0)=>
   bif (decide (o0<(t5.length:Int))) then
    Option.bind (α:=UInt8 × UInt8) (
     (idx t5 o0).bind fun l5=>
     some ((i6+l5),(g8+((u8w (w64 (o0+(1:Int))))*l5)))
     ) fun (v8,l9)=>
    zD (v8,l9,(w64 (o0+(1:Int))))
   else
    some (i6,g8)
   ) big ((0:UInt8),(0:UInt8),(0:Int))
  ) fun (l8,n8)=>
 some (l8,n8)
theorem en57:Enters prog 57:=yC func57
theorem wk57 {x0:Vector UInt8 8} (rp0:RV gI.m wI x0 up0) {r:UInt8 × UInt8} (h:f57 x0=some r):Fn prog 57 #[up0] gI wI (fun m w v=>∃ y0 y1,v=.tuple #[y0,y1]∧y0=.int .u8 (UInt8.toNat r.1)∧y1=.int .u8 (UInt8.toNat r.2)):=by
 unfold f57 at h;refine fnE func57 rfl rfl fun g0 hm hfr=>?_;have rp0:=RVc hm rp0;refine Z (G (Tw (g:=g0) rfl rp0 fun g1 w1 p1 hs q1=>?_));have hfr:=hfr.ext hs;refine H (.int .u8 (UInt8.toNat 0)) (H (.int .u8 (UInt8.toNat 0)) (O ?_));obtain ⟨⟨l8,n8⟩,hx,h⟩:=Z1 h;refine Gn (xD gI wI fun e w g=>e 2=.int .u8 (UInt8.toNat l8)∧e 3=.int .u8 (UInt8.toNat n8)) (fun Q' hQ=>?_) (fun oE vE hR=>?_)
 ·replace h:=hx
  clear hx;refine Z ?_;obtain ⟨t5,yB,h⟩:=Z1 h;have aE:=Cj (Ev (p:=p1) q1) yB;refine Y (Ky (Rx p1 8) 0 (Int.toNat (6:Int)) 1) (R5 (p:=p1) underlying104 sizeOf5 rfl q1 rfl yB) (Y (I (t5.length:Int)) (G7 underlying63 rfl aE) (M (I 0) (O (Zr (Qz h (fun (s:UInt8 × UInt8 × Int)=>xD gI wI fun e w g=>e 2=.int .u8 (UInt8.toNat s.1)∧e 3=.int .u8 (UInt8.toNat s.2.1)∧e 6=(Ky (Rx p1 8) 0 (Int.toNat (6:Int)) 1)∧RV g.m w (t5:List UInt8) (Ky (Rx p1 8) 0 (Int.toNat (6:Int)) 1)∧e 7=I (t5.length:Int)∧e 8=I s.2.2) ⟨g1,hfr,rfl,rfl,rfl,aE,rfl,rfl⟩ (fun X16 zD bE=>?_))))));rintro ⟨i6,g8,o0⟩ rE xE ⟨zB,hfr,mB,nB,oB,aB,vB,n9⟩ h;refine Z (aT (.bool (decide (o0<(t5.length:Int)))) n9 vB rfl (O (Zf ?_)));rcases Zt h with ⟨lB,h⟩ | ⟨lB,h⟩
  ·refine Gz lB rfl (Zu (Zd ?_))
   obtain ⟨⟨v8,l9⟩,hx,h⟩:=Z1 h;refine Gn (xD gI wI fun e w g=>e 2=.int .u8 (UInt8.toNat v8)∧e 3=.int .u8 (UInt8.toNat l9)∧e 6=(Ky (Rx p1 8) 0 (Int.toNat (6:Int)) 1)∧RV g.m w (t5:List UInt8) (Ky (Rx p1 8) 0 (Int.toNat (6:Int)) 1)∧e 7=I (t5.length:Int)∧e 8=I o0) (fun Q' hQ=>?_) (fun uE yE hR=>?_)
   ·replace h:=hx
    clear hx;refine Zr (Z (aQ n9 ?_));obtain ⟨l5,cC,h⟩:=Z1 h;refine Y (Gy (Ky (Rx p1 8) 0 (Int.toNat (6:Int)) 1) o0 1) (Zh (α:=UInt8) underlying63 sizeOf5 oB aB n9 cC) ?_;have iE:=G1 aB cC;refine G (Ga (g:=zB) isAgg5 sizeOf5 rfl iE fun zE lE=>?_);obtain rfl:=Wa.1 lE;refine H (I o0) (H (.int .u8 (UInt8.toNat l5)) (O (Z (aQ mB (M (.int .u8 (UInt8.toNat l5)) (Y (.int .u8 (UInt8.toNat (i6+l5))) (P_u8 rfl rfl rfl) (H (.int .u8 (UInt8.toNat (i6+l5))) (O (Za (aQ nB (M (I o0) (aT (I (w64 (o0+(1:Int)))) rfl rfl rfl (Y (.int .u8 (UInt8.toNat (u8w (w64 (o0+(1:Int)))))) (Y0 underlying3 underlying5 rfl) (M (.int .u8 (UInt8.toNat l5)) (Y (.int .u8 (UInt8.toNat ((u8w (w64 (o0+(1:Int))))*l5))) (P_mul8 rfl rfl) (Y (.int .u8 (UInt8.toNat (g8+((u8w (w64 (o0+(1:Int))))*l5)))) (P_u8 rfl rfl rfl) (Y (.int .u8 (UInt8.toNat (g8+((u8w (w64 (o0+(1:Int))))*l5)))) (Tp rfl) (Zb (Te ?_)))))))))))))))))));obtain ⟨rfl,rfl⟩:=W9 h;exact hQ _ _ ⟨zB,hfr,rfl,rfl,oB,aB,vB,n9⟩
   ·clear hx
    obtain ⟨mE,hfr,uC,vC,bD,cD,lD,nD⟩:=hR;refine Za (aT (I (w64 (o0+(1:Int)))) nD rfl rfl (M (I (w64 (o0+(1:Int)))) ?_));exact O (bE (v8,l9,(w64 (o0+(1:Int)))) _ _ ⟨mE,hfr,uC,vC,bD,cD,lD,rfl⟩ h)
  ·refine G0 lB rfl (Th (Gr (Gr (G2 ?_))))
   obtain ⟨rfl,rfl⟩:=W9 h;exact hQ _ _ ⟨zB,hfr,mB,nB⟩
 ·clear hx
  obtain ⟨cF,hfr,oD,yD⟩:=hR;refine Z (aQ oD (aQ yD (H (.int .u8 (UInt8.toNat l8)) (H (.int .u8 (UInt8.toNat n8)) (O (Gb ?_))))));cases h;exact H9 rfl rfl (rq (.int .u8 (UInt8.toNat l8))) (rq (.int .u8 (UInt8.toNat n8))) ⟨_,hfr,_,_,rfl,rfl,rfl⟩
def f62 (x0:List Gx) (x1:Gx→Option Str):Option (List Str):=
 Option.bind (α:=(List Str)) (
  lp (σ:=(List Str) × Int) (fun iE (n8,l5)=>
   bif (decide (l5<(x0.length:Int))) then
    Option.bind (α:=(List Str)) (
     (idx x0 l5).bind fun lE=>
     (x1 lE).bind fun n9=>
     (apnd 16 n8 ([n9]:List Str)).bind fun mE=>
     some mE
     ) fun g8=>
    iE (g8,(w64 (l5+(1:Int))))
   else
    some n8
   ) big ([],(0:Int))
  ) fun l8=>
 some l8
theorem en62:Enters prog 62:=yC func62
theorem wk62 {x0:List Gx} {x1:Gx→Option Str} (rp0:RV gI.m wI x0 up0) (rp1:Ho prog x1 up1 gI wI) {r:(List Str)} (h:f62 x0 x1=some r):Fn prog 62 #[up0,up1] gI wI (fun m w v=>RV m w r v):=by
 unfold f62 at h;refine fnE func62 rfl rfl fun g0 hm hfr=>?_;have rp0:=RVc hm rp0;obtain ⟨ff1,fa1,fc1,rfl,fen1,fcl1⟩:=rp1;refine Z (H (.slice none 0 0) (O ?_));obtain ⟨l8,hx,h⟩:=Z1 h;refine Gn (fun e w=>∃ (g:Gh) (v4:Value),Fr gI wI g w∧e 4=v4∧RV g.m w (l8:List Str) v4∧OS 1004 g w 9 (l8:List Str) v4) (fun Q' hQ=>?_) (fun eG jG hR=>?_)
 ·replace h:=hx
  clear hx;refine Z (M up0 (Y (I (x0.length:Int)) (G7 underlying69 rfl rp0) (M (I 0) (O (Zr (Qz h (fun (s:(List Str) × Int) e w=>∃ (g:Gh) (v4:Value),Fr gI wI g w∧e 1=(.func (.func ff1) fa1 fc1)∧e 4=v4∧RV g.m w (s.1:List Str) v4∧OS 1004 g w 9 (s.1:List Str) v4∧e 7=up0∧RV g.m w (x0:List Gx) up0∧e 8=I (x0.length:Int)∧e 9=I s.2) ⟨g0,(.slice none 0 0),hfr,rfl,rfl,T8,OS.nil,rfl,rp0,rfl,rfl⟩ (fun X27 iE vE=>?_)))))));rintro ⟨n8,l5⟩ gG kG ⟨vB,cC,hfr,aB,lB,t5,i6,mB,o0,nB,v8⟩ h;refine Z (aT (.bool (decide (l5<(x0.length:Int)))) v8 nB rfl (O (Zf ?_)));rcases Zt h with ⟨l9,h⟩ | ⟨l9,h⟩
  ·refine Gz l9 rfl (Zu (Zd ?_))
   obtain ⟨g8,hx,h⟩:=Z1 h;refine Gn (fun e w=>∃ (g:Gh) (v4:Value),Fr gI wI g w∧e 1=(.func (.func ff1) fa1 fc1)∧e 4=v4∧RV g.m w (g8:List Str) v4∧OS 1004 g w 9 (g8:List Str) v4∧e 7=up0∧RV g.m w (x0:List Gx) up0∧e 8=I (x0.length:Int)∧e 9=I l5) (fun Q' hQ=>?_) (fun iG lG hR=>?_)
   ·replace h:=hx
    clear hx;refine Zr (Z ?_);obtain ⟨lE,yB,h⟩:=Z1 h;refine Y (Gy up0 l5 3) (Zh (α:=Gx) underlying69 sizeOf121 mB o0 v8 yB) ?_;have zE:=G1 o0 yB;refine G (Ga (g:=vB) isAgg121 sizeOf121 rfl zE fun cF zB=>(G (Gu (g:=vB) 2006 (⟨⟨[]⟩,⟨0,[]⟩⟩:Gx) zeroValue121 (fun m w=>⟨_,(Gg Sx (Gg Zw Tb)),rfl⟩) fun oE dF eF hs b44 cb=>?_)));have hfr:=hfr.stp hs;have t5:=t5.stp hs;have i6:=i6.stp hs rfl;have o0:=o0.stp hs;have zB:=zB.stp hs;have bG:OSF 2006 60602 2 oE dF 3 121 ([]:List Int) eF:=cb.osf (by rfl);clear cb;refine G (Gk (g:=oE) (v:=cF) sizeOf121 rfl b44 rfl zB fun rE mG hs b45 cb=>?_);clear cb;have hfr:=hfr.stp hs;have t5:=t5.stp hs;have i6:=i6.stp hs rfl;have o0:=o0.stp hs;refine O (Za (aQ lB (aQ aB (G (Tr (g:=rE) isAgg121 sizeOf121 rfl b45 fun rF sF=>?_)))));obtain ⟨n9,xE,h⟩:=Z1 h;refine G (K9 (g:=rE) (vs:=[rF]) rfl fen1 (.cons rfl .nil) (fcl1 _ _ hfr.ch _ _ _  sF xE) fun tF sG xG hs hr=>?_);have hfr:=hfr.ext hs;have t5:=t5.ext hs;have i6:=i6.ext hs;have o0:=o0.ext hs;obtain rfl:=K7.1 hr;refine G (Gd (g:=tF) 3017 (xs:=([n9]:List Str)) (vs:=[Str.v n9]) underlying74 sizeOf9 zeroValue9 rfl rfl (.cons rfl .nil) (RVs.cons (K7.2 rfl) RVs.nil) rfl rfl fun uF yG zG hs o49 vF hxt hfl=>?_);have hfr:=hfr.stp hs;have t5:=t5.stp hs;have i6:=i6.stp hs rfl;have o0:=o0.stp hs;obtain ⟨mE,yE,h⟩:=Z1 h;refine G (Qe (g:=uF) (i:=1004) underlying74 R9 rfl rfl i6 t5 rfl vF yE fun xF aH uE hs o50 yF _=>?_);have hfr:=hfr.stp hs;have o0:=o0.stp hs;refine H uE (Zb (Te ?_));cases h;exact hQ _ _ ⟨xF,uE,hfr,aB,rfl,yF,o50,mB,o0,nB,v8⟩
   ·clear hx
    obtain ⟨aG,uC,hfr,vC,bD,cD,lD,nD,oD,yD,zD⟩:=hR;refine Za (aT (I (w64 (l5+(1:Int)))) zD rfl rfl (M (I (w64 (l5+(1:Int)))) ?_));exact O (vE (g8,(w64 (l5+(1:Int)))) _ _ ⟨aG,uC,hfr,vC,bD,cD,lD,nD,oD,yD,rfl⟩ h)
  ·refine G0 l9 rfl (Th (Gr (Gr (G2 ?_))))
   cases h;exact hQ _ _ ⟨vB,cC,hfr,lB,t5,i6⟩
 ·clear hx
  obtain ⟨cH,oB,hfr,aE,bE,cG⟩:=hR;refine Z (aQ aE (H oB (O (Gb ?_))));obtain rfl:=sinj h;exact ac rfl (rq oB) ⟨_,hfr,bE⟩
def f63 (x0:Gx):Option Str:=
 some x0.Name
theorem en63:Enters prog 63:=yC func63
theorem wk63 {x0:Gx} (rp0:RV gI.m wI x0 up0) {r:Str} (h:f63 x0=some r):Fn prog 63 #[up0] gI wI (fun _ _ v=>v=Str.v r):=by
 unfold f63 at h;refine fnE func63 rfl rfl fun g0 hm hfr=>?_;have rp0:=RVc hm rp0;refine Z (G (Tw (g:=g0) rfl rp0 fun g1 w1 p1 hs q1=>?_));have hfr:=hfr.ext hs;refine H (Str.v (⟨[]⟩:Str)) (O (Z (Y (S p1 0) (aa Pz (PT.ptr q1)) ?_)));have q2:=Zm Vj.1 q1;refine G (Ga (g:=g1) isAgg9 sizeOf9 rfl q2 fun v3 r3=>?_);obtain rfl:=K7.1 r3;refine H (Str.v x0.Name) (O (Gb ?_));obtain rfl:=sinj h;exact ac rfl (rq (Str.v x0.Name)) ⟨_,hfr,rfl⟩
def f64 (x0:List Gm) (x1:Gm→Option Str):Option (List Str):=
 Option.bind (α:=(List Str)) (
  lp (σ:=(List Str) × Int) (fun iE (n8,l5)=>
   bif (decide (l5<(x0.length:Int))) then
    Option.bind (α:=(List Str)) (
     (idx x0 l5).bind fun lE=>
     (x1 lE).bind fun n9=>
     (apnd 16 n8 ([n9]:List Str)).bind fun mE=>
     some mE
     ) fun g8=>
    iE (g8,(w64 (l5+(1:Int))))
   else
    some n8
   ) big ([],(0:Int))
  ) fun l8=>
 some l8
theorem en64:Enters prog 64:=yC func64
theorem wk64 {x0:List Gm} {x1:Gm→Option Str} (rp0:RV gI.m wI x0 up0) (rp1:Ho prog x1 up1 gI wI) {r:(List Str)} (h:f64 x0 x1=some r):Fn prog 64 #[up0,up1] gI wI (fun m w v=>RV m w r v):=by
 unfold f64 at h;refine fnE func64 rfl rfl fun g0 hm hfr=>?_;have rp0:=RVc hm rp0;obtain ⟨ff1,fa1,fc1,rfl,fen1,fcl1⟩:=rp1;refine Z (H (.slice none 0 0) (O ?_));obtain ⟨l8,hx,h⟩:=Z1 h;refine Gn (fun e w=>∃ (g:Gh) (v4:Value),Fr gI wI g w∧e 4=v4∧RV g.m w (l8:List Str) v4∧OS 1004 g w 9 (l8:List Str) v4) (fun Q' hQ=>?_) (fun eG jG hR=>?_)
 ·replace h:=hx
  clear hx;refine Z (M up0 (Y (I (x0.length:Int)) (G7 underlying70 rfl rp0) (M (I 0) (O (Zr (Qz h (fun (s:(List Str) × Int) e w=>∃ (g:Gh) (v4:Value),Fr gI wI g w∧e 1=(.func (.func ff1) fa1 fc1)∧e 4=v4∧RV g.m w (s.1:List Str) v4∧OS 1004 g w 9 (s.1:List Str) v4∧e 7=up0∧RV g.m w (x0:List Gm) up0∧e 8=I (x0.length:Int)∧e 9=I s.2) ⟨g0,(.slice none 0 0),hfr,rfl,rfl,T8,OS.nil,rfl,rp0,rfl,rfl⟩ (fun X27 iE vE=>?_)))))));rintro ⟨n8,l5⟩ gG kG ⟨vB,cC,hfr,aB,lB,t5,i6,mB,o0,nB,v8⟩ h;refine Z (aT (.bool (decide (l5<(x0.length:Int)))) v8 nB rfl (O (Zf ?_)));rcases Zt h with ⟨l9,h⟩ | ⟨l9,h⟩
  ·refine Gz l9 rfl (Zu (Zd ?_))
   obtain ⟨g8,hx,h⟩:=Z1 h;refine Gn (fun e w=>∃ (g:Gh) (v4:Value),Fr gI wI g w∧e 1=(.func (.func ff1) fa1 fc1)∧e 4=v4∧RV g.m w (g8:List Str) v4∧OS 1004 g w 9 (g8:List Str) v4∧e 7=up0∧RV g.m w (x0:List Gm) up0∧e 8=I (x0.length:Int)∧e 9=I l5) (fun Q' hQ=>?_) (fun iG lG hR=>?_)
   ·replace h:=hx
    clear hx;refine Zr (Z ?_);obtain ⟨lE,yB,h⟩:=Z1 h;refine Y (Gy up0 l5 3) (Zh (α:=Gm) underlying70 sizeOf123 mB o0 v8 yB) ?_;have zE:=G1 o0 yB;refine G (Ga (g:=vB) isAgg123 sizeOf123 rfl zE fun cF zB=>(G (Gu (g:=vB) 2006 (⟨⟨[]⟩,⟨0,[]⟩⟩:Gm) zeroValue123 (fun m w=>⟨_,(Gg Sx (Gg Zw Tb)),rfl⟩) fun oE dF eF hs b44 cb=>?_)));have hfr:=hfr.stp hs;have t5:=t5.stp hs;have i6:=i6.stp hs rfl;have o0:=o0.stp hs;have zB:=zB.stp hs;have bG:OSF 2006 60602 2 oE dF 118 123 ([]:List Gi) eF:=cb.osf (by rfl);clear cb;refine G (Gk (g:=oE) (v:=cF) sizeOf123 rfl b44 rfl zB fun rE mG hs b45 cb=>?_);clear cb;have hfr:=hfr.stp hs;have t5:=t5.stp hs;have i6:=i6.stp hs rfl;have o0:=o0.stp hs;refine O (Za (aQ lB (aQ aB (G (Tr (g:=rE) isAgg123 sizeOf123 rfl b45 fun rF sF=>?_)))));obtain ⟨n9,xE,h⟩:=Z1 h;refine G (K9 (g:=rE) (vs:=[rF]) rfl fen1 (.cons rfl .nil) (fcl1 _ _ hfr.ch _ _ _  sF xE) fun tF sG xG hs hr=>?_);have hfr:=hfr.ext hs;have t5:=t5.ext hs;have i6:=i6.ext hs;have o0:=o0.ext hs;obtain rfl:=K7.1 hr;refine G (Gd (g:=tF) 3017 (xs:=([n9]:List Str)) (vs:=[Str.v n9]) underlying74 sizeOf9 zeroValue9 rfl rfl (.cons rfl .nil) (RVs.cons (K7.2 rfl) RVs.nil) rfl rfl fun uF yG zG hs o49 vF hxt hfl=>?_);have hfr:=hfr.stp hs;have t5:=t5.stp hs;have i6:=i6.stp hs rfl;have o0:=o0.stp hs;obtain ⟨mE,yE,h⟩:=Z1 h;refine G (Qe (g:=uF) (i:=1004) underlying74 R9 rfl rfl i6 t5 rfl vF yE fun xF aH uE hs o50 yF _=>?_);have hfr:=hfr.stp hs;have o0:=o0.stp hs;refine H uE (Zb (Te ?_));cases h;exact hQ _ _ ⟨xF,uE,hfr,aB,rfl,yF,o50,mB,o0,nB,v8⟩
   ·clear hx
    obtain ⟨aG,uC,hfr,vC,bD,cD,lD,nD,oD,yD,zD⟩:=hR;refine Za (aT (I (w64 (l5+(1:Int)))) zD rfl rfl (M (I (w64 (l5+(1:Int)))) ?_));exact O (vE (g8,(w64 (l5+(1:Int)))) _ _ ⟨aG,uC,hfr,vC,bD,cD,lD,nD,oD,yD,rfl⟩ h)
  ·refine G0 l9 rfl (Th (Gr (Gr (G2 ?_))))
   cases h;exact hQ _ _ ⟨vB,cC,hfr,lB,t5,i6⟩
 ·clear hx
  obtain ⟨cH,oB,hfr,aE,bE,cG⟩:=hR;refine Z (aQ aE (H oB (O (Gb ?_))));obtain rfl:=sinj h;exact ac rfl (rq oB) ⟨_,hfr,bE⟩
def f65 (x0:Gm):Option Str:=
 some x0.Name
theorem en65:Enters prog 65:=yC func65
theorem wk65 {x0:Gm} (rp0:RV gI.m wI x0 up0) {r:Str} (h:f65 x0=some r):Fn prog 65 #[up0] gI wI (fun _ _ v=>v=Str.v r):=by
 unfold f65 at h;refine fnE func65 rfl rfl fun g0 hm hfr=>?_;have rp0:=RVc hm rp0;refine Z (G (Tw (g:=g0) rfl rp0 fun g1 w1 p1 hs q1=>?_));have hfr:=hfr.ext hs;refine H (Str.v (⟨[]⟩:Str)) (O (Z (Y (S p1 0) (aa P5 (PT.ptr q1)) ?_)));have q2:=Zm Us.1 q1;refine G (Ga (g:=g1) isAgg9 sizeOf9 rfl q2 fun v3 r3=>?_);obtain rfl:=K7.1 r3;refine H (Str.v x0.Name) (O (Gb ?_));obtain rfl:=sinj h;exact ac rfl (rq (Str.v x0.Name)) ⟨_,hfr,rfl⟩
def f75 (x0:Int) (z0:List Bool):Option Bool:=
 (idx z0 x0).bind fun y2=>
 some (!y2)
theorem en75:Enters prog 75:=yC func75
theorem wk75 {x0:Int} {z0:List Bool} {pf0:Value} (qf0:PT gI.m wI z0 pf0) {r:Bool} (h:f75 x0 z0=some r):Fn prog 75 #[I x0,pf0] gI wI (fun _ _ v=>v=.bool r):=by
 unfold f75 at h;refine fnE func75 rfl rfl fun g0 hm hfr=>?_;have qf0:PT g0.m wI z0 pf0:=hm▸qf0;refine Z (H (.bool false) (O (Z (G (Ga (g:=g0) isAgg85 sizeOf85 rfl qf0 fun v1 r1=>(M (I x0) ?_))))));obtain ⟨y2,hy2,h⟩:=Z1 h;refine Y (Gy v1 x0 1) (Zh (α:=Bool) underlying85 sizeOf4 rfl r1 rfl hy2) ?_;have q3:=G1 r1 hy2;refine G (Ga (g:=g0) isAgg4 sizeOf4 rfl q3 fun v4 r4=>?_);obtain rfl:=Tz.1 r4;refine Y (.bool (!y2)) (Qw rfl) (H (.bool (!y2)) (O (Gb ?_)));cases h;exact ac rfl (rq (.bool (!y2))) ⟨_,hfr,rfl⟩
def f78 (x0:Str):Option Int:=
 Option.bind (α:=Int) (
  lp (σ:=Int × Int) (fun k7 (t5,o0)=>
   bif (decide (o0<(x0.b.length:Int))) then
    Option.bind (α:=Int) (
     (idx x0.b o0).bind fun y11=>
     some (w64 (t5+(y11.toNat:Int)))
     ) fun l5=>
    k7 (l5,(w64 (o0+(1:Int))))
   else
    some t5
   ) big ((0:Int),(0:Int))
  ) fun i6=>
 (Kr i6 (65536:Int)).bind fun l8=>
 some l8
theorem en78:Enters prog 78:=yC func78
theorem wk78 {x0:Str}  {r:Int} (h:f78 x0=some r):Fn prog 78 #[Str.v x0] gI wI (fun _ _ v=>v=I r):=by
 unfold f78 at h;refine fnE func78 rfl rfl fun g0 hm hfr=>?_;refine Z (H (I 0) (O ?_));obtain ⟨i6,hx,h⟩:=Z1 h;refine Gn (xD gI wI fun e w g=>e 2=I i6) (fun Q' hQ=>?_) (fun cC vC hR=>?_)
 ·replace h:=hx
  clear hx;refine Z (M (Str.v x0) (Y (I (x0.b.length:Int)) (Np underlying9 rfl) (M (I 0) (O (Zr (Qz h (fun (s:Int × Int)=>xD gI wI fun e w g=>e 0=Str.v (x0)∧e 2=I (s.1)∧e 5=I (x0.b.length:Int)∧e 6=I s.2) ⟨g0,hfr,rfl,rfl,rfl,rfl⟩ (fun X7 k7 hk7=>?_)))))));rintro ⟨t5,o0⟩ bD w8 ⟨g8,hfr,v8,l9,n9,n8⟩ h;refine Z (aT (.bool (decide (o0<(x0.b.length:Int)))) n8 n9 rfl (O (Zf ?_)));rcases Zt h with ⟨hc9,h⟩ | ⟨hc9,h⟩
  ·refine Gz hc9 rfl (Zu (Zd ?_))
   obtain ⟨l5,hx,h⟩:=Z1 h;refine Gn (xD gI wI fun e w g=>e 0=Str.v (x0)∧e 2=I (l5)∧e 5=I (x0.b.length:Int)∧e 6=I o0) (fun Q' hQ=>?_) (fun uC cD hR=>?_)
   ·replace h:=hx
    clear hx;refine Zr (Z (aQ n8 (H (I o0) (O (Za (aQ l9 (aQ v8 (M (I o0) ?_))))))));obtain ⟨y11,vB,h⟩:=Z1 h;refine Y (.int .u8 (UInt8.toNat y11)) (Ax underlying9 rfl rfl vB) (Y (I (y11.toNat:Int)) (W7 underlying5 underlying3 rfl) (aT (I (w64 (t5+(y11.toNat:Int)))) rfl rfl rfl (H (I (w64 (t5+(y11.toNat:Int)))) (Zb (Te ?_)))));cases h;exact hQ _ _ ⟨g8,hfr,v8,rfl,n9,n8⟩
   ·clear hx
    obtain ⟨zB,hfr,aB,lB,mB,nB⟩:=hR;refine Za (aT (I (w64 (o0+(1:Int)))) nB rfl rfl (M (I (w64 (o0+(1:Int)))) ?_));exact O (hk7 (l5,(w64 (o0+(1:Int)))) _ _ ⟨zB,hfr,aB,lB,mB,rfl⟩ h)
  ·refine G0 hc9 rfl (Th (Gr (Gr (G2 ?_))))
   cases h;exact hQ _ _ ⟨g8,hfr,l9⟩
 ·clear hx
  obtain ⟨lD,hfr,oB⟩:=hR;refine Z (aQ oB ?_);obtain ⟨l8,yB,h⟩:=Z1 h;refine Y (I l8) (Gp rfl rfl (congrArg (Option.map (Value.int .i64)) yB)) (H (I l8) (O (Gb ?_)));obtain rfl:=sinj h;exact ac rfl (rq (I l8)) ⟨_,hfr,rfl⟩
def f82 (x0:Int) (z0:Int) (z1:Int):Option Bool:=
 Option.bind (α:=Bool) (
  bif (decide (x0<z0)) then
   some true
  else
   some (decide (x0>z1))
  ) fun o0=>
 some o0
theorem en82:Enters prog 82:=yC func82
theorem wk82 {x0:Int} {z0:Int} {z1:Int} {pf0:Value} (qf0:PT gI.m wI z0 pf0) {pf1:Value} (qf1:PT gI.m wI z1 pf1) {r:Bool} (h:f82 x0 z0 z1=some r):Fn prog 82 #[I x0,pf0,pf1] gI wI (fun _ _ v=>v=.bool r):=by
 unfold f82 at h;refine fnE func82 rfl rfl fun g0 hm hfr=>?_;have qf0:PT g0.m wI z0 pf0:=hm▸qf0;have qf1:PT g0.m wI z1 pf1:=hm▸qf1;refine Z (H (.bool false) (O ?_));obtain ⟨o0,hx,h⟩:=Z1 h;refine Gn (xD gI wI fun e w g=>e 4=.bool o0) (fun Q' hQ=>?_) (fun t5 w7 hR=>?_)
 ·replace h:=hx
  clear hx;refine Za (M (I x0) (G (Ga (g:=g0) isAgg3 sizeOf3 rfl qf0 fun v4 r4=>?_)));obtain rfl:=Zj.1 r4;refine aT (.bool (decide (x0<z0))) rfl rfl rfl (M (.bool (decide (x0<z0))) ?_);rcases Zt h with ⟨hc5,h⟩ | ⟨hc5,h⟩
  ·refine Zz rfl rfl hc5 rfl rfl (Zz rfl rfl hc5 rfl rfl (Zz rfl rfl hc5 rfl rfl (Y (.bool true) (ae (b:=(decide (x0<z0))) (Tg hc5 rfl)) (H (.bool true) (Zb ?_)))))
   cases h;exact hQ _ _ ⟨g0,hfr,rfl⟩
  ·refine ag (I x0) (ai) rfl rfl hc5 (Ze (.yes2 rfl rfl hc5) rfl (Ga (g:=g0) isAgg3 sizeOf3 rfl qf1 fun v6 r6=>?_))
   obtain rfl:=Zj.1 r6;refine ag (.bool (decide (x0>z1))) (Gp rfl rfl rfl) rfl rfl hc5 (Y (.bool (decide (x0>z1))) (ae (b:=(decide (x0<z0))) (Td hc5 rfl)) (H (.bool (decide (x0>z1))) (Zb ?_)));cases h;exact hQ _ _ ⟨g0,hfr,rfl⟩
 ·clear hx
  obtain ⟨g7,hfr,l5⟩:=hR;refine Gb ?_;obtain rfl:=sinj h;exact ac rfl (show _=.bool o0 from l5) ⟨_,hfr,rfl⟩
def f83 (x0:List Z5) (x1:Z5→Option Bool):Option Int:=
 jn (σ:=Unit) (fun _=>
  some (-1:Int)
  ) fun k18=>
 lp (σ:=Int) (fun k19 o0=>
  bif (decide (o0<(x0.length:Int))) then
   jn (σ:=Unit) (fun _=>
    k19 (w64 (o0+(1:Int)))
    ) fun k28=>
   (idx x0 o0).bind fun vB=>
   (x1 vB).bind fun yB=>
   bif yB then
    some o0
   else
    k28 ()
  else
   k18 ()
  ) big (0:Int)
theorem en83:Enters prog 83:=yC func83
theorem wk83 {x0:List Z5} {x1:Z5→Option Bool} (rp0:RV gI.m wI x0 up0) (rp1:Ho prog x1 up1 gI wI) {r:Int} (h:f83 x0 x1=some r):Fn prog 83 #[up0,up1] gI wI (fun _ _ v=>v=I r):=by
 unfold f83 at h;refine fnE func83 rfl rfl fun g0 hm hfr=>?_;have rp0:=RVc hm rp0;obtain ⟨ff1,fa1,fc1,rfl,fen1,fcl1⟩:=rp1;refine Z (H (I 0) (O (Zq h (fun (s:Unit) e w=>∃ (g:Gh) ,Fr gI wI g w) (fun X18 k18 zB h=>?_) ?_)))
 ·refine Z (M up0 (Y (I (x0.length:Int)) (G7 underlying28 rfl rp0) (M (I 0) (O (Zr (Qz h (fun (s:Int)=>xD gI wI fun e w g=>e 0=up0∧RV g.m w (x0:List Z5) up0∧e 1=(.func (.func ff1) fa1 fc1)∧e 7=I (x0.length:Int)∧e 8=I s) ⟨g0,hfr,rfl,rp0,rfl,rfl,rfl⟩ (fun X19 k19 cC=>?_)))))))
  rintro o0 yD bE ⟨l9,hfr,l8,l5,n8,v8,t5⟩ h;refine Z (aT (.bool (decide (o0<(x0.length:Int)))) t5 v8 rfl (O (Zf ?_)));rcases Zt h with ⟨i6,h⟩ | ⟨i6,h⟩
  ·refine Gz i6 rfl (Zu (Zd (Zq h (fun (s:Unit)=>xD gI wI fun e w g=>e 0=up0∧RV g.m w (x0:List Z5) up0∧e 1=(.func (.func ff1) fa1 fc1)∧e 7=I (x0.length:Int)∧e 8=I o0) (fun X28 k28 uC h=>?_) ?_)))
   ·refine Zr (Z (aQ t5 (H (I o0) (O (Z (aQ n8 (aQ l8 (M (I o0) ?_))))))))
    obtain ⟨vB,n9,h⟩:=Z1 h;refine Y (Gy up0 o0 5) (Zh (α:=Z5) underlying28 sizeOf59 rfl l5 rfl n9) ?_;have bD:=G1 l5 n9;refine G (Ga (g:=l9) isAgg59 sizeOf59 rfl bD fun cD lD=>?_);obtain ⟨yB,vC,h⟩:=Z1 h;refine G (K9 (g:=l9) (vs:=[cD]) rfl fen1 (.cons rfl .nil) (fcl1 _ _ hfr.ch _ _ _  lD vC) fun nD iE lE hs hr=>?_);have hfr:=hfr.ext hs;have l5:=l5.ext hs;obtain rfl:=Tz.1 hr;refine O ?_;rcases Zt h with ⟨g8,h⟩ | ⟨g8,h⟩
    ·refine Gz g8 rfl (Z (M (I o0) (H (I o0) (O (Gb (G6 (Gj (Gj (G6 (Gj ?_))))))))))
     obtain rfl:=sinj h;exact ac rfl (rq (I o0)) ⟨_,hfr,rfl⟩
    ·refine G0 g8 rfl ?_
     exact Zu (Te (Zd (uC () _ _ ⟨nD,hfr,l8,l5,n8,v8,t5⟩ h)))
   ·rintro _ zD mE ⟨oD,hfr,aB,lB,mB,nB,oB⟩ h
    refine Za (aT (I (w64 (o0+(1:Int)))) oB rfl rfl (M (I (w64 (o0+(1:Int)))) ?_));exact O (cC (w64 (o0+(1:Int))) _ _ ⟨oD,hfr,aB,lB,mB,nB,rfl⟩ h)
  ·refine G0 i6 rfl (Th (Gr (Gr (G2 ?_))))
   exact Zd (zB () _ _ ⟨l9,hfr⟩ h)
 ·rintro _ aE oE ⟨rE,hfr⟩ h
  refine Z (H (I (-1)) (O (Gb ?_)));cases h;exact ac rfl (rq (I (-1))) ⟨_,hfr,rfl⟩
def f85 (z0:Int) (σ:Type) (cons:U9 σ Int) (s0:σ):Option σ:=
 lp (σ:=σ × Int) (fun k2 (oB,o0)=>
  jn (σ:=σ) (fun l8=>
   k2 (l8,(Tx .and (w64 (o0-(1:Int))) z0))
   ) fun cD=>
  Option.bind (α:=σ × Bool) (
   (cons oB o0).bind fun (g8,n9)=>
   bif (!g8) then
    some (n9,true)
   else
    some (n9,(o0==(0:Int)))
   ) fun (i6,l5)=>
  bif l5 then
   some i6
  else
   cD i6
  ) big (s0,z0)
theorem en85:Enters prog 85:=yC func85
theorem wk85 {σ:Type} {cons:U9 σ Int} {s0 r:σ} {gI:Gh} {wI:World} {z0:Int} {pf0:Value} (qf0:PT gI.m wI z0 pf0) (h:f85 z0 σ cons s0=some r):Fh prog (RA1 (α:=Int)) 85 #[] #[pf0] gI wI cons s0 r:=by
 unfold f85 at h;refine F3 func85 rfl (Nat.le_of_ble_eq_true rfl) fun l B J g0 hm hAb hRo hfr=>?_;have qf0:PT g0.m wI z0 pf0:=hm▸qf0;show E _ 17 none _ _ (J0 #[.func (.yield l) #[] #[],pf0]) _ _;refine Z (G (Ga (g:=g0) isAgg3 sizeOf3 rfl qf0 fun v1 r1=>?_));obtain rfl:=Zj.1 r1;refine H (I z0) (O (Zr (Qz h (fun (s:σ × Int) e w=>∃ (g:Gh) ,FrY gI wI B J s.1 g w∧e 0=(.func (.yield l) #[] #[])∧e 1=pf0∧PT g.m w (z0:Int) pf0∧e 3=I s.2) ⟨g0,hfr,rfl,rfl,qf0,rfl⟩ (fun X2 k2 hk2=>?_))));rintro ⟨oB,o0⟩ mE w3 ⟨g3,hfr,aB,vB,n8,v8⟩ h;refine Zq h (fun (s:σ) e w=>∃ (g:Gh) ,FrY gI wI B J s g w∧e 0=(.func (.yield l) #[] #[])∧e 1=pf0∧PT g.m w (z0:Int) pf0∧e 3=I o0) (fun X12 cD oD h=>?_) ?_
 ·refine Zr ?_
  obtain ⟨⟨i6,l5⟩,hx,h⟩:=Z1 h;refine Gn (fun e w=>∃ (g:Gh) ,FrY gI wI B J i6 g w∧e 0=(.func (.yield l) #[] #[])∧e 1=pf0∧PT g.m w (z0:Int) pf0∧e 3=I (o0)∧e 16=.bool l5) (fun Q' hQ=>?_) (fun iE oE hR=>?_)
  ·replace h:=hx
   clear hx;refine Za (aQ aB (aQ v8 ?_));obtain ⟨zD,yD,h⟩:=Z1 h;obtain ⟨g8,n9⟩:=zD;refine G (F8 (g:=g3) (x:=o0) rfl (.cons rfl .nil) hRo hfr yD ⟨_,rfl,(Zj.2 rfl)⟩ fun lD rE hs hfrY=>?_);have n8:=n8.stp hs;have hfr:=hfrY;clear hfrY;refine Y (.bool (!g8)) (Qw rfl) (M (.bool (!g8)) ?_);rcases Zt h with ⟨t5,h⟩ | ⟨t5,h⟩
   ·refine Zz rfl rfl t5 rfl rfl (Zz rfl rfl t5 rfl rfl (Y (.bool true) (ae (b:=(!g8)) (Tg t5 rfl)) (Zb ?_)))
    obtain ⟨rfl,rfl⟩:=W9 h;exact hQ _ _ ⟨lD,hfr,aB,vB,n8,v8,rfl⟩
   ·refine ag (I o0) (Zk v8) rfl rfl t5 (ag (.bool (o0==(0:Int))) (Gp rfl rfl rfl) rfl rfl t5 (Y (.bool (o0==(0:Int))) (ae (b:=(!g8)) (Td t5 rfl)) (Zb ?_)))
    obtain ⟨rfl,rfl⟩:=W9 h;exact hQ _ _ ⟨lD,hfr,aB,vB,n8,v8,rfl⟩
  ·clear hx
   obtain ⟨aE,hfr,yB,zB,cC,uC,l9⟩:=hR;rcases Zt h with ⟨lB,h⟩ | ⟨lB,h⟩
   ·refine Ta (Eq.trans (show X _ _=.bool l5 from l9) (congrArg Value.bool lB)) (Gb (G6 (Gj (Gj (G6 ?_)))))
    cases h;exact end0 rfl rfl (FrY.done hfr)
   ·refine Gv (Eq.trans (show X _ _=.bool l5 from l9) (congrArg Value.bool lB)) ?_
    exact Zu (Te (Zd (oD i6 _ _ ⟨aE,hfr,yB,zB,cC,uC⟩ h)))
 ·rintro l8 lE uE ⟨nD,hfr,vC,mB,nB,bD⟩ h
  refine Za (aQ bD (aT (I (w64 (o0-(1:Int)))) rfl rfl rfl (G (Ga (g:=nD) isAgg3 sizeOf3 mB nB fun vE bE=>?_))));obtain rfl:=Zj.1 bE;refine aT (I (Tx .and (w64 (o0-(1:Int))) z0)) rfl rfl rfl (H (I (Tx .and (w64 (o0-(1:Int))) z0)) ?_);exact O (hk2 (l8,(Tx .and (w64 (o0-(1:Int))) z0)) _ _ ⟨nD,hfr,vC,mB,nB,rfl⟩ h)
def f90 (x0:Int):Option Bool:=
 some (x0 != x0)
theorem en90:Enters prog 90:=yC func90
theorem wk90 {x0:Int}  {r:Bool} (h:f90 x0=some r):Fn prog 90 #[I x0] gI wI (fun _ _ v=>v=.bool r):=by
 unfold f90 at h;refine fnE func90 rfl rfl fun g0 hm hfr=>?_;refine Z (H (.bool false) (O (Z (M (I x0) (M (I x0) (aT (.bool (x0 != x0)) rfl rfl rfl (H (.bool (x0 != x0)) (O (Gb ?_)))))))));cases h;exact ac rfl (rq (.bool (x0 != x0))) ⟨_,hfr,rfl⟩
def f91 (x0:Int) (z0:Int) (z1:Int):Option Bool:=
 Option.bind (α:=Bool) (
  bif (decide (x0<z0)) then
   some true
  else
   some (decide (x0>z1))
  ) fun o0=>
 some o0
theorem en91:Enters prog 91:=yC func91
theorem wk91 {x0:Int} {z0:Int} {z1:Int} {pf0:Value} (qf0:PT gI.m wI z0 pf0) {pf1:Value} (qf1:PT gI.m wI z1 pf1) {r:Bool} (h:f91 x0 z0 z1=some r):Fn prog 91 #[I x0,pf0,pf1] gI wI (fun _ _ v=>v=.bool r):=by
 unfold f91 at h;refine fnE func91 rfl rfl fun g0 hm hfr=>?_;have qf0:PT g0.m wI z0 pf0:=hm▸qf0;have qf1:PT g0.m wI z1 pf1:=hm▸qf1;refine Z (H (.bool false) (O ?_));obtain ⟨o0,hx,h⟩:=Z1 h;refine Gn (xD gI wI fun e w g=>e 4=.bool o0) (fun Q' hQ=>?_) (fun t5 w7 hR=>?_)
 ·replace h:=hx
  clear hx;refine Za (M (I x0) (G (Ga (g:=g0) isAgg3 sizeOf3 rfl qf0 fun v4 r4=>?_)));obtain rfl:=Zj.1 r4;refine aT (.bool (decide (x0<z0))) rfl rfl rfl (M (.bool (decide (x0<z0))) ?_);rcases Zt h with ⟨hc5,h⟩ | ⟨hc5,h⟩
  ·refine Zz rfl rfl hc5 rfl rfl (Zz rfl rfl hc5 rfl rfl (Zz rfl rfl hc5 rfl rfl (Y (.bool true) (ae (b:=(decide (x0<z0))) (Tg hc5 rfl)) (H (.bool true) (Zb ?_)))))
   cases h;exact hQ _ _ ⟨g0,hfr,rfl⟩
  ·refine ag (I x0) (ai) rfl rfl hc5 (Ze (.yes2 rfl rfl hc5) rfl (Ga (g:=g0) isAgg3 sizeOf3 rfl qf1 fun v6 r6=>?_))
   obtain rfl:=Zj.1 r6;refine ag (.bool (decide (x0>z1))) (Gp rfl rfl rfl) rfl rfl hc5 (Y (.bool (decide (x0>z1))) (ae (b:=(decide (x0<z0))) (Td hc5 rfl)) (H (.bool (decide (x0>z1))) (Zb ?_)));cases h;exact hQ _ _ ⟨g0,hfr,rfl⟩
 ·clear hx
  obtain ⟨g7,hfr,l5⟩:=hR;refine Gb ?_;obtain rfl:=sinj h;exact ac rfl (show _=.bool o0 from l5) ⟨_,hfr,rfl⟩
def f98 (x0:List Str):Option (List Str):=
 jn (σ:=Unit) (fun _=>
  jn (σ:=Unit) (fun _=>
   some x0
   ) fun k53=>
  lp (σ:=Int) (fun k54 o0=>
   jn (σ:=Unit) (fun _=>
    jn (σ:=Unit) (fun _=>
     k54 (w64 (o0+(1:Int)))
     ) fun cC=>
    (idx x0 o0).bind fun l9=>
    (idx x0 (w64 (o0-(1:Int)))).bind fun n9=>
    bif (l9.b==n9.b) then
     none
    else
     cC ()
    ) fun k57=>
   bif (decide (o0<(x0.length:Int))) then
    k57 ()
   else
    k53 ()
   ) big (1:Int)
  ) fun k2=>
 bif (decide ((x0.length:Int)<(2:Int))) then
  some x0
 else
  k2 ()
theorem en98:Enters prog 98:=yC func98
theorem wk98 {x0:List Str} (rp0:RV gI.m wI x0 up0) {r:(List Str)} (h:f98 x0=some r):Fn prog 98 #[up0] gI wI (fun m w v=>RV m w r v):=by
 unfold f98 at h;refine fnE func98 rfl rfl fun g0 hm hfr=>?_;have rp0:=RVc hm rp0;refine Z (H (.slice none 0 0) (O (Zq h (fun (s:Unit)=>xD gI wI fun e w g=>e 0=up0∧RV g.m w (x0:List Str) up0) (fun X2 k2 hk2 h=>?_) ?_)))
 ·refine Z (M up0 (Y (I (x0.length:Int)) (G7 underlying74 rfl rp0) (aT (.bool (decide ((x0.length:Int)<(2:Int)))) rfl rfl rfl (O ?_))))
  rcases Zt h with ⟨hc3,h⟩ | ⟨hc3,h⟩
  ·refine Gz hc3 rfl (Z (M up0 (H up0 (O (Gb (Gj ?_))))))
   obtain rfl:=sinj h;exact ac rfl (rq up0) ⟨_,hfr,rp0⟩
  ·refine G0 hc3 rfl ?_
   exact Zu (Zd (hk2 () _ _ ⟨g0,hfr,rfl,rp0⟩ h))
 ·rintro _ eF w4 ⟨g4,hfr,vC,bD⟩ h
  refine Zq h (fun (s:Unit)=>xD gI wI fun e w g=>e 0=up0∧RV g.m w (x0:List Str) up0) (fun X53 k53 cD h=>?_) ?_
  ·refine Z (H (I 1) (O (Zr (Qz h (fun (s:Int)=>xD gI wI fun e w g=>e 0=up0∧RV g.m w (x0:List Str) up0∧e 3=I s) ⟨g4,hfr,vC,bD,rfl⟩ (fun X54 k54 lD=>?_)))))
   rintro o0 xE rF ⟨uC,hfr,g8,l8,aB⟩ h;refine Zq h (fun (s:Unit)=>xD gI wI fun e w g=>e 0=up0∧RV g.m w (x0:List Str) up0∧e 3=I o0) (fun X57 k57 nD h=>?_) ?_
   ·refine Z (aQ aB (aQ g8 (Y (I (x0.length:Int)) (G7 underlying74 rfl l8) (aT (.bool (decide (o0<(x0.length:Int)))) rfl rfl rfl (O ?_)))))
    rcases Zt h with ⟨v8,h⟩ | ⟨v8,h⟩
    ·refine Gz v8 rfl ?_
     exact Zu (Zd (nD () _ _ ⟨uC,hfr,g8,l8,aB⟩ h))
    ·refine G0 v8 rfl (Th (Gr (Gr (G2 ?_))))
     exact Zd (cD () _ _ ⟨uC,hfr,g8,l8⟩ h)
   ·rintro _ yE sF ⟨bE,hfr,t5,l5,i6⟩ h
    refine Zq h (fun (s:Unit)=>xD gI wI fun e w g=>e 0=up0∧RV g.m w (x0:List Str) up0∧e 3=I o0) (fun X81 cC oD h=>?_) ?_
    ·refine Zr (Zf ?_)
     obtain ⟨l9,lB,h⟩:=Z1 h;have iE:=G1 l5 lB;refine Zs (x:=.tmp 18) isAgg9 sizeOf9 iE fun tF lE yD=>?_;obtain rfl:=K7.1 lE;obtain ⟨n9,mB,h⟩:=Z1 h;have mE:=G1 l5 mB;refine Zs (x:=.tmp 23) isAgg9 sizeOf9 mE fun uF oE zD=>?_;obtain rfl:=K7.1 oE;refine ab (g:=bE) (n:=10) [] [0,1,2,3,4,5,6,7,8,9] mixed trivial (V up0 rfl (Zk t5) (V (I o0) rfl (Zk i6) (V (Gy up0 o0 1) rfl (Zh (α:=Str) underlying74 sizeOf9 rfl l5 rfl lB) (G3 (c:=Str.v l9) rfl rfl .plain xC yD rfl (V up0 rfl (Zk t5) (V (I o0) rfl (Zk i6) (V (I (w64 (o0-(1:Int)))) rfl (Gp rfl rfl rfl) (V (Gy up0 (w64 (o0-(1:Int))) 1) rfl (Zh (α:=Str) underlying74 sizeOf9 rfl l5 rfl mB) (G3 (c:=Str.v n9) rfl rfl .plain xC zD rfl (V (.bool (l9.b==n9.b)) rfl (Fd rfl rfl rfl) (Ki fun rE vF hs=>?_)))))))))));have hfr:=hfr.ext hs;have l5:=l5.ext hs;clear hs;refine O ?_;rcases Zt h with ⟨n8,h⟩ | ⟨n8,h⟩
     ·refine Gz n8 rfl (Z (aQ t5 (aQ i6 ?_)))
      cases h
     ·refine G0 n8 rfl ?_
      exact Zu (Te (Zd (oD () _ _ ⟨rE,hfr,t5,l5,i6⟩ h)))
    ·rintro _ uE zE ⟨aE,hfr,nB,oB,vB⟩ h
     refine Za (aQ vB (aT (I (w64 (o0+(1:Int)))) rfl rfl rfl (H (I (w64 (o0+(1:Int)))) ?_)));exact O (lD (w64 (o0+(1:Int))) _ _ ⟨aE,hfr,nB,oB,rfl⟩ h)
  ·rintro _ vE cF ⟨dF,hfr,yB,zB⟩ h
   refine Z (aQ yB (H up0 (O (Gb ?_))));obtain rfl:=sinj h;exact ac rfl (rq up0) ⟨_,hfr,zB⟩
def f100 (x0:List Gx) (x1:Gx→Option Bool):Option Int:=
 jn (σ:=Unit) (fun _=>
  some (-1:Int)
  ) fun k18=>
 lp (σ:=Int) (fun k19 o0=>
  bif (decide (o0<(x0.length:Int))) then
   jn (σ:=Unit) (fun _=>
    k19 (w64 (o0+(1:Int)))
    ) fun k28=>
   (idx x0 o0).bind fun vB=>
   (x1 vB).bind fun yB=>
   bif yB then
    some o0
   else
    k28 ()
  else
   k18 ()
  ) big (0:Int)
theorem en100:Enters prog 100:=yC func100
theorem wk100 {x0:List Gx} {x1:Gx→Option Bool} (rp0:RV gI.m wI x0 up0) (rp1:Ho prog x1 up1 gI wI) {r:Int} (h:f100 x0 x1=some r):Fn prog 100 #[up0,up1] gI wI (fun _ _ v=>v=I r):=by
 unfold f100 at h;refine fnE func100 rfl rfl fun g0 hm hfr=>?_;have rp0:=RVc hm rp0;obtain ⟨ff1,fa1,fc1,rfl,fen1,fcl1⟩:=rp1;refine Z (H (I 0) (O (Zq h (fun (s:Unit) e w=>∃ (g:Gh) ,Fr gI wI g w) (fun X18 k18 zB h=>?_) ?_)))
 ·refine Z (M up0 (Y (I (x0.length:Int)) (G7 underlying69 rfl rp0) (M (I 0) (O (Zr (Qz h (fun (s:Int)=>xD gI wI fun e w g=>e 0=up0∧RV g.m w (x0:List Gx) up0∧e 1=(.func (.func ff1) fa1 fc1)∧e 7=I (x0.length:Int)∧e 8=I s) ⟨g0,hfr,rfl,rp0,rfl,rfl,rfl⟩ (fun X19 k19 cC=>?_)))))))
  rintro o0 yD bE ⟨l9,hfr,l8,l5,n8,v8,t5⟩ h;refine Z (aT (.bool (decide (o0<(x0.length:Int)))) t5 v8 rfl (O (Zf ?_)));rcases Zt h with ⟨i6,h⟩ | ⟨i6,h⟩
  ·refine Gz i6 rfl (Zu (Zd (Zq h (fun (s:Unit)=>xD gI wI fun e w g=>e 0=up0∧RV g.m w (x0:List Gx) up0∧e 1=(.func (.func ff1) fa1 fc1)∧e 7=I (x0.length:Int)∧e 8=I o0) (fun X28 k28 uC h=>?_) ?_)))
   ·refine Zr (Z (aQ t5 (H (I o0) (O (Z (aQ n8 (aQ l8 (M (I o0) ?_))))))))
    obtain ⟨vB,n9,h⟩:=Z1 h;refine Y (Gy up0 o0 3) (Zh (α:=Gx) underlying69 sizeOf121 rfl l5 rfl n9) ?_;have bD:=G1 l5 n9;refine G (Ga (g:=l9) isAgg121 sizeOf121 rfl bD fun cD lD=>?_);obtain ⟨yB,vC,h⟩:=Z1 h;refine G (K9 (g:=l9) (vs:=[cD]) rfl fen1 (.cons rfl .nil) (fcl1 _ _ hfr.ch _ _ _  lD vC) fun nD iE lE hs hr=>?_);have hfr:=hfr.ext hs;have l5:=l5.ext hs;obtain rfl:=Tz.1 hr;refine O ?_;rcases Zt h with ⟨g8,h⟩ | ⟨g8,h⟩
    ·refine Gz g8 rfl (Z (M (I o0) (H (I o0) (O (Gb (G6 (Gj (Gj (G6 (Gj ?_))))))))))
     obtain rfl:=sinj h;exact ac rfl (rq (I o0)) ⟨_,hfr,rfl⟩
    ·refine G0 g8 rfl ?_
     exact Zu (Te (Zd (uC () _ _ ⟨nD,hfr,l8,l5,n8,v8,t5⟩ h)))
   ·rintro _ zD mE ⟨oD,hfr,aB,lB,mB,nB,oB⟩ h
    refine Za (aT (I (w64 (o0+(1:Int)))) oB rfl rfl (M (I (w64 (o0+(1:Int)))) ?_));exact O (cC (w64 (o0+(1:Int))) _ _ ⟨oD,hfr,aB,lB,mB,nB,rfl⟩ h)
  ·refine G0 i6 rfl (Th (Gr (Gr (G2 ?_))))
   exact Zd (zB () _ _ ⟨l9,hfr⟩ h)
 ·rintro _ aE oE ⟨rE,hfr⟩ h
  refine Z (H (I (-1)) (O (Gb ?_)));cases h;exact ac rfl (rq (I (-1))) ⟨_,hfr,rfl⟩
def f101 (x0:List Gm) (x1:Gm→Option Bool):Option Int:=
 jn (σ:=Unit) (fun _=>
  some (-1:Int)
  ) fun k18=>
 lp (σ:=Int) (fun k19 o0=>
  bif (decide (o0<(x0.length:Int))) then
   jn (σ:=Unit) (fun _=>
    k19 (w64 (o0+(1:Int)))
    ) fun k28=>
   (idx x0 o0).bind fun vB=>
   (x1 vB).bind fun yB=>
   bif yB then
    some o0
   else
    k28 ()
  else
   k18 ()
  ) big (0:Int)
theorem en101:Enters prog 101:=yC func101
theorem wk101 {x0:List Gm} {x1:Gm→Option Bool} (rp0:RV gI.m wI x0 up0) (rp1:Ho prog x1 up1 gI wI) {r:Int} (h:f101 x0 x1=some r):Fn prog 101 #[up0,up1] gI wI (fun _ _ v=>v=I r):=by
 unfold f101 at h;refine fnE func101 rfl rfl fun g0 hm hfr=>?_;have rp0:=RVc hm rp0;obtain ⟨ff1,fa1,fc1,rfl,fen1,fcl1⟩:=rp1;refine Z (H (I 0) (O (Zq h (fun (s:Unit) e w=>∃ (g:Gh) ,Fr gI wI g w) (fun X18 k18 zB h=>?_) ?_)))
 ·refine Z (M up0 (Y (I (x0.length:Int)) (G7 underlying70 rfl rp0) (M (I 0) (O (Zr (Qz h (fun (s:Int)=>xD gI wI fun e w g=>e 0=up0∧RV g.m w (x0:List Gm) up0∧e 1=(.func (.func ff1) fa1 fc1)∧e 7=I (x0.length:Int)∧e 8=I s) ⟨g0,hfr,rfl,rp0,rfl,rfl,rfl⟩ (fun X19 k19 cC=>?_)))))))
  rintro o0 yD bE ⟨l9,hfr,l8,l5,n8,v8,t5⟩ h;refine Z (aT (.bool (decide (o0<(x0.length:Int)))) t5 v8 rfl (O (Zf ?_)));rcases Zt h with ⟨i6,h⟩ | ⟨i6,h⟩
  ·refine Gz i6 rfl (Zu (Zd (Zq h (fun (s:Unit)=>xD gI wI fun e w g=>e 0=up0∧RV g.m w (x0:List Gm) up0∧e 1=(.func (.func ff1) fa1 fc1)∧e 7=I (x0.length:Int)∧e 8=I o0) (fun X28 k28 uC h=>?_) ?_)))
   ·refine Zr (Z (aQ t5 (H (I o0) (O (Z (aQ n8 (aQ l8 (M (I o0) ?_))))))))
    obtain ⟨vB,n9,h⟩:=Z1 h;refine Y (Gy up0 o0 3) (Zh (α:=Gm) underlying70 sizeOf123 rfl l5 rfl n9) ?_;have bD:=G1 l5 n9;refine G (Ga (g:=l9) isAgg123 sizeOf123 rfl bD fun cD lD=>?_);obtain ⟨yB,vC,h⟩:=Z1 h;refine G (K9 (g:=l9) (vs:=[cD]) rfl fen1 (.cons rfl .nil) (fcl1 _ _ hfr.ch _ _ _  lD vC) fun nD iE lE hs hr=>?_);have hfr:=hfr.ext hs;have l5:=l5.ext hs;obtain rfl:=Tz.1 hr;refine O ?_;rcases Zt h with ⟨g8,h⟩ | ⟨g8,h⟩
    ·refine Gz g8 rfl (Z (M (I o0) (H (I o0) (O (Gb (G6 (Gj (Gj (G6 (Gj ?_))))))))))
     obtain rfl:=sinj h;exact ac rfl (rq (I o0)) ⟨_,hfr,rfl⟩
    ·refine G0 g8 rfl ?_
     exact Zu (Te (Zd (uC () _ _ ⟨nD,hfr,l8,l5,n8,v8,t5⟩ h)))
   ·rintro _ zD mE ⟨oD,hfr,aB,lB,mB,nB,oB⟩ h
    refine Za (aT (I (w64 (o0+(1:Int)))) oB rfl rfl (M (I (w64 (o0+(1:Int)))) ?_));exact O (cC (w64 (o0+(1:Int))) _ _ ⟨oD,hfr,aB,lB,mB,nB,rfl⟩ h)
  ·refine G0 i6 rfl (Th (Gr (Gr (G2 ?_))))
   exact Zd (zB () _ _ ⟨l9,hfr⟩ h)
 ·rintro _ aE oE ⟨rE,hfr⟩ h
  refine Z (H (I (-1)) (O (Gb ?_)));cases h;exact ac rfl (rq (I (-1))) ⟨_,hfr,rfl⟩
def f106 (x0:Gw) (x1:Int) (x2:Int):Option Int:=
 (Kr (w64 (x1+x2)) (((x0.ChainBelt).Cards).length:Int)).bind fun y5=>
 some y5
theorem en106:Enters prog 106:=yC func106
theorem wk106 {x0:Gw} {x1:Int} {x2:Int} (rp0:RV gI.m wI x0 up0) {r:Int} (h:f106 x0 x1 x2=some r):Fn prog 106 #[up0,I x1,I x2] gI wI (fun _ _ v=>v=I r):=by
 unfold f106 at h;refine fnE func106 rfl rfl fun g0 hm hfr=>?_;have rp0:=RVc hm rp0;refine Z (G (Tw (g:=g0) rfl rp0 fun g1 w1 p1 hs q1=>?_));have hfr:=hfr.ext hs;refine H (I 0) (O (Z (M (I x1) (M (I x2) (aT (I (w64 (x1+x2))) rfl rfl rfl (Y (S p1 0) (aa R4 (PT.ptr q1)) ?_))))));have q2:=Zm K5.1 q1;refine Y (S (S p1 0) 1) (aa H5 (PT.ptr q2)) ?_;have q3:=Zm Qu.1 q2;refine G (Ga (g:=g1) isAgg114 sizeOf114 rfl q3 fun v4 r4=>(Y (I (((x0.ChainBelt).Cards).length:Int)) (G7 underlying114 rfl r4) ?_));obtain ⟨y5,hy5,h⟩:=Z1 h;refine Y (I y5) (Gp rfl rfl (congrArg (Option.map (Value.int .i64)) hy5)) (H (I y5) (O (Gb ?_)));obtain rfl:=sinj h;exact ac rfl (rq (I y5)) ⟨_,hfr,rfl⟩
def f114 (x0:Int) (x1:Int):Option Str:=
 Option.bind (α:=List UInt8) (
  lp (σ:=List UInt8 × Int) (fun k18 (t5,o0)=>
   bif (decide (o0<x1)) then
    Option.bind (α:=List UInt8) (
     (Wv x0 o0).bind fun n9=>
     bif ((Tx .and n9 (1:Int))==(1:Int)) then
      (apnd 1 t5 [(120:UInt8)]).bind fun vC=>
      some vC
     else
      (apnd 1 t5 [(46:UInt8)]).bind fun bD=>
      some bD
     ) fun i6=>
    k18 (i6,(w64 (o0+(1:Int))))
   else
    some t5
   ) big (([]:List UInt8),(0:Int))
  ) fun l8=>
 (Fb l8).bind fun mB=>
 some mB
theorem en114:Enters prog 114:=yC func114
theorem wk114 {x0:Int} {x1:Int}  {r:Str} (h:f114 x0 x1=some r):Fn prog 114 #[I x0,I x1] gI wI (fun _ _ v=>v=Str.v r):=by
 unfold f114 at h;refine fnE func114 rfl rfl fun g0 hm hfr=>?_;refine Z (H (Str.v (⟨[]⟩:Str)) (O (Z (G (Gu (g:=g0) 2005 ((⟨.pointer none,rfl⟩,[]):Fv × List UInt8) zeroValue177 (fun m w=>⟨_,Gg (show GoT.rep m w (⟨.pointer none,rfl⟩:Fv) [.pointer none] from rfl) Tb,rfl⟩) fun g1 w1 p1 hs b1 cb=>?_)))));have hfr:=hfr.stp hs;replace b1:SB 2005 60501 g1 w1 5 177 [] p1:=⟨_,b1,cb.osf rfl,.inl rfl⟩;clear cb;refine O ?_;obtain ⟨l8,hx,h⟩:=Z1 h;refine Gn (xD gI wI fun e w g=>e 5=p1∧SB 2005 60501 g w 5 177 l8 p1) (fun Q' hQ=>?_) (fun lE rE hR=>?_)
 ·replace h:=hx
  clear hx;refine Z (M (I x1) (M (I 0) (O (Zr (Qz h (fun (s:List UInt8 × Int)=>xD gI wI fun e w g=>e 0=I (x0)∧e 5=p1∧SB 2005 60501 g w 5 177 s.1 p1∧e 7=I (x1)∧e 8=I s.2) ⟨g1,hfr,rfl,rfl,b1,rfl,rfl⟩ (fun X18 k18 cD=>?_))))));rintro ⟨t5,o0⟩ mE uE ⟨zD,hfr,n8,l5,v8,l9,g8⟩ h;refine Z (aT (.bool (decide (o0<x1))) g8 l9 rfl (O (Zf ?_)));rcases Zt h with ⟨aB,h⟩ | ⟨aB,h⟩
  ·refine Gz aB rfl (Zu (Zd ?_))
   obtain ⟨i6,hx,h⟩:=Z1 h;refine Gn (xD gI wI fun e w g=>e 0=I (x0)∧e 5=p1∧SB 2005 60501 g w 5 177 i6 p1∧e 7=I (x1)∧e 8=I o0) (fun Q' hQ=>?_) (fun oE vE hR=>?_)
   ·replace h:=hx
    clear hx;refine Zr (Z (aQ g8 (H (I o0) (O (Z (aQ n8 (M (I o0) ?_)))))));obtain ⟨n9,lD,h⟩:=Z1 h;refine Y (I n9) (Gp rfl rfl (congrArg (Option.map (Value.int .i64)) lD)) (aT (I (Tx .and n9 (1:Int))) rfl rfl rfl (aT (.bool ((Tx .and n9 (1:Int))==(1:Int))) rfl rfl rfl (O ?_)));rcases Zt h with ⟨lB,h⟩ | ⟨lB,h⟩
    ·refine Gz lB rfl (Za ?_)
     obtain ⟨vC,nD,h⟩:=Z1 h;refine G (Q8 (vs:=[p1,.int .u8 (UInt8.toNat 120)]) en111 (.cons l5 (.cons rfl .nil)) (wk111 (i:=2005) (j:=60501) rfl rfl v8 nD) fun xE w29 hq=>?_);obtain ⟨hv,aE,⟨_,_,_,_,hs1,hs2,hs3⟩,b29⟩:=hq;subst hv;have hfr:=hfr.stp hs1;have hfr:=hfr.stp hs2;have hfr:=hfr.stp hs3;clear hs1 hs2 hs3;refine Zb (Te ?_);cases h;exact hQ _ _ ⟨aE,hfr,n8,l5,b29,l9,g8⟩
    ·refine G0 lB rfl (Za ?_)
     obtain ⟨bD,oD,h⟩:=Z1 h;refine G (Q8 (vs:=[p1,.int .u8 (UInt8.toNat 46)]) en111 (.cons l5 (.cons rfl .nil)) (wk111 (i:=2005) (j:=60501) rfl rfl v8 oD) fun yE zE hq=>?_);obtain ⟨hv,bE,⟨_,_,_,_,hs1,hs2,hs3⟩,b31⟩:=hq;subst hv;have hfr:=hfr.stp hs1;have hfr:=hfr.stp hs2;have hfr:=hfr.stp hs3;clear hs1 hs2 hs3;refine Zb (Te ?_);cases h;exact hQ _ _ ⟨bE,hfr,n8,l5,b31,l9,g8⟩
   ·clear hx
    obtain ⟨iE,hfr,nB,oB,vB,yB,zB⟩:=hR;refine Za (aT (I (w64 (o0+(1:Int)))) zB rfl rfl (M (I (w64 (o0+(1:Int)))) ?_));exact O (cD (i6,(w64 (o0+(1:Int)))) _ _ ⟨iE,hfr,nB,oB,vB,yB,rfl⟩ h)
  ·refine G0 aB rfl (Th (Gr (Gr (G2 ?_))))
   cases h;exact hQ _ _ ⟨zD,hfr,l5,v8⟩
 ·clear hx
  obtain ⟨cF,hfr,cC,uC⟩:=hR;refine Z ?_;obtain ⟨mB,yD,h⟩:=Z1 h;obtain ⟨hne35,hye35⟩:=N8 yD;refine G (Q8 (vs:=[p1]) en79 (.cons cC .nil) (wk79 (i:=2005) (j:=60501) rfl uC hne35) fun dF eF hq=>?_);obtain ⟨hv,rF,hs⟩:=hq;rw [← hye35] at hv;subst hv;have hfr:=hfr.stp hs;refine H (Str.v mB) (O (Gb ?_));obtain rfl:=sinj h;exact ac rfl (rq (Str.v mB)) ⟨_,hfr,rfl⟩
def f115 (x0:List Int) (x1:Int→Option Bool):Option Int:=
 jn (σ:=Unit) (fun _=>
  some (-1:Int)
  ) fun k18=>
 lp (σ:=Int) (fun k19 o0=>
  bif (decide (o0<(x0.length:Int))) then
   jn (σ:=Unit) (fun _=>
    k19 (w64 (o0+(1:Int)))
    ) fun k28=>
   (idx x0 o0).bind fun l9=>
   (x1 l9).bind fun yB=>
   bif yB then
    some o0
   else
    k28 ()
  else
   k18 ()
  ) big (0:Int)
theorem en115:Enters prog 115:=yC func115
theorem wk115 {x0:List Int} {x1:Int→Option Bool} (rp0:RV gI.m wI x0 up0) (rp1:Ho prog x1 up1 gI wI) {r:Int} (h:f115 x0 x1=some r):Fn prog 115 #[up0,up1] gI wI (fun _ _ v=>v=I r):=by
 unfold f115 at h;refine fnE func115 rfl rfl fun g0 hm hfr=>?_;have rp0:=RVc hm rp0;obtain ⟨ff1,fa1,fc1,rfl,fen1,fcl1⟩:=rp1;refine Z (H (I 0) (O (Zq h (fun (s:Unit) e w=>∃ (g:Gh) ,Fr gI wI g w) (fun X18 k18 zB h=>?_) ?_)))
 ·refine Z (M up0 (Y (I (x0.length:Int)) (G7 underlying25 rfl rp0) (M (I 0) (O (Zr (Qz h (fun (s:Int)=>xD gI wI fun e w g=>e 0=up0∧RV g.m w (x0:List Int) up0∧e 1=(.func (.func ff1) fa1 fc1)∧e 7=I (x0.length:Int)∧e 8=I s) ⟨g0,hfr,rfl,rp0,rfl,rfl,rfl⟩ (fun X19 k19 cC=>?_)))))))
  rintro o0 oD aE ⟨n9,hfr,l8,l5,n8,v8,t5⟩ h;refine Z (aT (.bool (decide (o0<(x0.length:Int)))) t5 v8 rfl (O (Zf ?_)));rcases Zt h with ⟨i6,h⟩ | ⟨i6,h⟩
  ·refine Gz i6 rfl (Zu (Zd (Zq h (fun (s:Unit)=>xD gI wI fun e w g=>e 0=up0∧RV g.m w (x0:List Int) up0∧e 1=(.func (.func ff1) fa1 fc1)∧e 7=I (x0.length:Int)∧e 8=I o0) (fun X28 k28 uC h=>?_) ?_)))
   ·refine Zr (Z (aQ t5 (H (I o0) (O (Z (aQ n8 (aQ l8 (M (I o0) ?_))))))))
    obtain ⟨l9,aB,h⟩:=Z1 h;refine Y (Gy up0 o0 1) (Zh (α:=Int) underlying25 sizeOf3 rfl l5 rfl aB) ?_;have bD:=G1 l5 aB;refine G (Ga (g:=n9) isAgg3 sizeOf3 rfl bD fun bE cD=>?_);obtain rfl:=Zj.1 cD;obtain ⟨yB,vC,h⟩:=Z1 h;refine G (K9 (g:=n9) (vs:=[I l9]) rfl fen1 (.cons rfl .nil) (fcl1 _ _ hfr.ch _ _ _  (Zj.2 rfl) vC) fun lD iE lE hs hr=>?_);have hfr:=hfr.ext hs;have l5:=l5.ext hs;obtain rfl:=Tz.1 hr;refine O ?_;rcases Zt h with ⟨g8,h⟩ | ⟨g8,h⟩
    ·refine Gz g8 rfl (Z (M (I o0) (H (I o0) (O (Gb (G6 (Gj (Gj (G6 (Gj ?_))))))))))
     obtain rfl:=sinj h;exact ac rfl (rq (I o0)) ⟨_,hfr,rfl⟩
    ·refine G0 g8 rfl ?_
     exact Zu (Te (Zd (uC () _ _ ⟨lD,hfr,l8,l5,n8,v8,t5⟩ h)))
   ·rintro _ yD mE ⟨nD,hfr,lB,mB,nB,oB,vB⟩ h
    refine Za (aT (I (w64 (o0+(1:Int)))) vB rfl rfl (M (I (w64 (o0+(1:Int)))) ?_));exact O (cC (w64 (o0+(1:Int))) _ _ ⟨nD,hfr,lB,mB,nB,oB,rfl⟩ h)
  ·refine G0 i6 rfl (Th (Gr (Gr (G2 ?_))))
   exact Zd (zB () _ _ ⟨n9,hfr⟩ h)
 ·rintro _ zD oE ⟨rE,hfr⟩ h
  refine Z (H (I (-1)) (O (Gb ?_)));cases h;exact ac rfl (rq (I (-1))) ⟨_,hfr,rfl⟩
def f116 (x0:Z8) (x1:Int) (x2:Int) (x3:Int) (x4:List (Int × Z3)):Option Int:=
 (idx x0.orders x1).bind fun y4=>
 jn (σ:=Int) (fun o0=>
  jn (σ:=Unit) (fun _=>
   some o0
   ) fun iE=>
  Option.bind (α:=Bool) (
   (idx ((x0.LoomMill).Widths) x2).bind fun i6=>
   bif (decide (y4.Width>i6)) then
    some true
   else
    some (decide ((w64 (o0+y4.Woven))>y4.Late))
   ) fun l8=>
  bif l8 then
   some (1048576:Int)
  else
   iE ()
  ) fun lE=>
 bif ((Qo x4 x1).isSome) then
  jn (σ:=Unit) (fun _=>
   lE (((Qo x4 x1).getD (⟨0,0,0⟩:Z3)).From)
   ) fun k60=>
  Option.bind (α:=Bool) (
   bif (((Qo x4 x1).getD (⟨0,0,0⟩:Z3)).Loom != x2) then
    some true
   else
    some (decide (((Qo x4 x1).getD (⟨0,0,0⟩:Z3)).From<(Jy y4.Early x3)))
   ) fun v8=>
  bif v8 then
   some (1048576:Int)
  else
   k60 ()
 else
  lE (Jy y4.Early x3)
theorem en116:Enters prog 116:=yC func116
theorem wk116 {x0:Z8} {x1:Int} {x2:Int} {x3:Int} {x4:List (Int × Z3)} (rp0:RV gI.m wI x0 up0) (mq4:MR (Value.int .i64) gI wI x4 up4) {r:Int} (h:f116 x0 x1 x2 x3 x4=some r):Fn prog 116 #[up0,I x1,I x2,I x3,up4] gI wI (fun _ _ v=>v=I r):=by
 unfold f116 at h;refine fnE func116 rfl rfl fun g0 hm hfr=>?_;have rp0:=RVc hm rp0;have mq4:=MQ.enter mq4 hm hfr;refine Z (G (Tw (g:=g0) rfl rp0 fun g1 w1 p1 hs q1=>?_));have hfr:=hfr.ext hs;have mq4:=mq4.ext hs;refine H (I 0) (O (Z (Y (S p1 2) (aa W6 (PT.ptr q1)) ?_)));have q2:=Zm G8.1 q1;refine G (Ga (g:=g1) isAgg28 sizeOf28 rfl q2 fun v3 r3=>(M (I x1) ?_));obtain ⟨y4,bG,h⟩:=Z1 h;refine Y (Gy v3 x1 5) (Zh (α:=Z5) underlying28 sizeOf59 rfl r3 rfl bG) ?_;have q5:=G1 r3 bG;refine G (Ga (g:=g1) isAgg59 sizeOf59 rfl q5 fun v6 r6=>(G (Gu (g:=g1) 2011 (⟨0,0,0,0,0⟩:Z5) zeroValue59 (fun m w=>⟨_,(Gg Zw (Gg Zw (Gg Zw (Gg Zw Zw)))),rfl⟩) fun g7 w7 p7 hs b7 cb=>?_)));have hfr:=hfr.stp hs;have mq4:=mq4.stp hs;have q1:=q1.stp hs;have r6:=r6.stp hs;clear cb;refine G (Gk (g:=g7) (v:=v6) sizeOf59 rfl b7 rfl r6 fun g8 w8 hs b8 cb=>?_);clear cb;have hfr:=hfr.stp hs;have mq4:=mq4.stp hs;have q1:=q1.stp hs;refine O (Z (Y (S p7 3) (aa S0 (OB.ptr b8)) (G (Qd (g:=g8) Hg.1 isAgg3 sizeOf3 rfl b8 fun iI aH=>?_))));obtain rfl:=Zj.1 aH;refine M (I x3) (Y (I (Jy y4.Early x3)) (P_max rfl rfl) (H (I (Jy y4.Early x3)) (O (Zq h (fun (s:Int)=>xD gI wI fun e w g=>e 2=I (x2)∧e 5=p1∧PT g.m w (x0:Z8) p1∧e 11=p7∧OB 2011 g w 59 (y4:Z5) p7∧e 12=I s) (fun X43 lE mE h=>?_) ?_))))
 ·refine Z (M up4 (M (I x1) (G (Ah (g:=g8) (z0:=(⟨0,0,0⟩:Z3)) underlying84 key_3 zeroValue57 (fun m w=>⟨_,(Gg Zw (Gg Zw Zw)),rfl⟩) rfl mq4.r rfl fun oE rE=>(M (.tuple #[oE,.bool ((Qo x4 x1).isSome)]) (Y oE (Zi rfl rfl) (Y (.bool ((Qo x4 x1).isSome)) (Zi rfl rfl) (G (Gu (g:=g8) 2013 (⟨0,0,0⟩:Z3) zeroValue57 (fun m w=>⟨_,(Gg Zw (Gg Zw Zw)),rfl⟩) fun cH jI n9 hs b45 cb=>?_)))))))))
  have hfr:=hfr.stp hs;have q1:=q1.stp hs;have b8:=b8.stp hs rfl;have rE:=rE.stp hs;clear cb;refine G (Gk (g:=cH) (v:=oE) sizeOf57 rfl b45 rfl rE fun yB kI hs b46 cb=>?_);clear cb;have hfr:=hfr.stp hs;have q1:=q1.stp hs;have b8:=b8.stp hs rfl;refine H (.bool ((Qo x4 x1).isSome)) (O (Z (M (.bool ((Qo x4 x1).isSome)) (O ?_))));rcases Zt h with ⟨uC,h⟩ | ⟨uC,h⟩
  ·refine Gz uC rfl (Zq h (fun (s:Unit)=>xD gI wI fun e w g=>e 2=I x2∧e 5=p1∧PT g.m w (x0:Z8) p1∧e 11=p7∧OB 2011 g w 59 (y4:Z5) p7∧e 13=n9∧OB 2013 g w 57 (((Qo x4 x1).getD (⟨0,0,0⟩:Z3)):Z3) n9) (fun X60 k60 gG h=>?_) ?_)
   ·obtain ⟨v8,hx,h⟩:=Z1 h
    refine Gn (xD gI wI fun e w g=>e 2=I (x2)∧e 5=p1∧PT g.m w (x0:Z8) p1∧e 11=p7∧OB 2011 g w 59 (y4:Z5) p7∧e 13=n9∧OB 2013 g w 57 (((Qo x4 x1).getD (⟨0,0,0⟩:Z3)):Z3) n9∧e 40=.bool v8) (fun Q' hQ=>?_) (fun oH lI hR=>?_)
    ·replace h:=hx
     clear hx;refine Za (Y (S n9 1) (aa Jr (OB.ptr b46)) (G (Qd (g:=yB) Wi.1 isAgg3 sizeOf3 rfl b46 fun mI gH=>?_)));obtain rfl:=Zj.1 gH;refine M (I x2) (aT (.bool (((Qo x4 x1).getD (⟨0,0,0⟩:Z3)).Loom != x2)) rfl rfl rfl (M (.bool (((Qo x4 x1).getD (⟨0,0,0⟩:Z3)).Loom != x2)) ?_));rcases Zt h with ⟨n8,h⟩ | ⟨n8,h⟩
     ·refine Zz rfl rfl n8 rfl rfl ?_
      iterate 3 refine Zz rfl rfl n8 rfl rfl ?_
      refine Y (.bool true) (ae (b:=(((Qo x4 x1).getD (⟨0,0,0⟩:Z3)).Loom != x2)) (Tg n8 rfl)) (Zb ?_);cases h;exact hQ _ _ ⟨yB,hfr,rfl,rfl,q1,rfl,b8,rfl,b46,rfl⟩
     ·refine ag (S n9 2) (aa Ws (OB.ptr b46)) rfl rfl n8 (Ze (.yes2 rfl rfl n8) rfl (Qd (g:=yB) Ty.1 isAgg3 sizeOf3 rfl b46 fun nI jH=>?_))
      obtain rfl:=Zj.1 jH;refine ag (I (Jy y4.Early x3)) (ai) rfl rfl n8 (ag (.bool (decide (((Qo x4 x1).getD (⟨0,0,0⟩:Z3)).From<(Jy y4.Early x3)))) (Gp rfl rfl rfl) rfl rfl n8 (Y (.bool (decide (((Qo x4 x1).getD (⟨0,0,0⟩:Z3)).From<(Jy y4.Early x3)))) (ae (b:=(((Qo x4 x1).getD (⟨0,0,0⟩:Z3)).Loom != x2)) (Td n8 rfl)) (Zb ?_)));cases h;exact hQ _ _ ⟨yB,hfr,rfl,rfl,q1,rfl,b8,rfl,b46,rfl⟩
    ·clear hx
     obtain ⟨kH,hfr,eF,rF,sF,uE,vE,xE,yE,zB⟩:=hR;rcases Zt h with ⟨vC,h⟩ | ⟨vC,h⟩
     ·refine Ta (Eq.trans (show X _ _=.bool v8 from zB) (congrArg Value.bool vC)) (Z (H (I 1048576) (O (Gb (Gj (Gj ?_))))))
      cases h;exact ac rfl (rq (I 1048576)) ⟨_,hfr,rfl⟩
     ·refine Gv (Eq.trans (show X _ _=.bool v8 from zB) (congrArg Value.bool vC)) ?_
      exact Zu (Zd (gG () _ _ ⟨kH,hfr,eF,rF,sF,uE,vE,xE,yE⟩ h))
   ·rintro _ pH pI ⟨cG,hfr,tF,uF,vF,zE,cF,dF,cC⟩ h
    refine Za (Y (S n9 2) (Zc Ws dF (OB.ptr cC)) (G (Qd (g:=cG) Ty.1 isAgg3 sizeOf3 rfl cC fun qI lH=>?_)));obtain rfl:=Zj.1 lH;refine H (I (((Qo x4 x1).getD (⟨0,0,0⟩:Z3)).From)) ?_;exact O (mE (((Qo x4 x1).getD (⟨0,0,0⟩:Z3)).From) _ _ ⟨cG,hfr,tF,uF,vF,zE,cF,rfl⟩ h)
  ·refine G0 uC rfl ?_
   exact Zu (Zd (mE (Jy y4.Early x3) _ _ ⟨yB,hfr,rfl,rfl,q1,rfl,b8,rfl⟩ h))
 ·rintro o0 qH sI ⟨eG,hfr,lD,nD,mB,l9,t5,aB⟩ h
  refine Zq h (fun (s:Unit)=>xD gI wI fun e w g=>e 12=I o0) (fun X198 iE xF h=>?_) ?_
  ·obtain ⟨l8,hx,h⟩:=Z1 h
   refine Gn (xD gI wI fun e w g=>e 12=I (o0)∧e 60=.bool l8) (fun Q' hQ=>?_) (fun mH sH hR=>?_)
   ·replace h:=hx
    clear hx;refine We (x:=.tmp 43) Ji.1 isAgg3 sizeOf3 t5 fun tH iG oD=>?_;obtain rfl:=Zj.1 iG;have bD:=Zm Qx.1 mB;have jG:=Zm Qa.1 bD;refine Zs (x:=.tmp 46) isAgg25 sizeOf25 jG fun nB cD yD=>?_;obtain ⟨i6,oB,h⟩:=Z1 h;have kG:=G1 cD oB;refine Zs (x:=.tmp 49) isAgg3 sizeOf3 kG fun uH lG zD=>?_;obtain rfl:=Zj.1 lG;rcases Zt h with ⟨l5,h⟩ | ⟨l5,h⟩
    ·refine ab (g:=eG) (n:=18) [] [0,1,2,3,4,5,6,7,8,9,10,11,12,13,14,15,16,17] mixed trivial (V (S p7 0) rfl (Zc Sw l9 (OB.ptr t5)) (G3 (c:=I y4.Width) rfl rfl .plain xB oD rfl (V (S p1 0) rfl (Zc Y4 nD (PT.ptr mB)) (V (S (S p1 0) 0) rfl (aa Ha (PT.ptr bD)) (G3 (c:=nB) rfl rfl .plain xC yD rfl (V (I x2) rfl (Zk lD) (V (Gy nB x2 1) rfl (Zh (α:=Int) underlying25 sizeOf3 rfl cD rfl oB) (G3 (c:=I i6) rfl rfl .plain xC zD rfl (V (.bool (decide (y4.Width>i6))) rfl (Gp rfl rfl rfl) (V (.bool (decide (y4.Width>i6))) rfl (ai) ?_))))))))))
     iterate 7 refine L_s rfl rfl rfl l5 rfl ?_
     refine V (.bool true) rfl (ae (b:=(decide (y4.Width>i6))) (Tg l5 rfl)) (Ki fun mG xH hs=>?_);have hfr:=hfr.ext hs;clear hs;refine Zb ?_;cases h;exact hQ _ _ ⟨mG,hfr,aB,rfl⟩
    ·refine We (x:=.tmp 54) Qv.1 isAgg3 sizeOf3 t5 fun yH sG yF=>?_
     obtain rfl:=Zj.1 sG;refine We (x:=.tmp 57) W2.1 isAgg3 sizeOf3 t5 fun zH xG aG=>?_;obtain rfl:=Zj.1 xG;refine ab (g:=eG) (n:=18) [] [0,1,2,3,4,5,6,7,8,9,10,11,12,13,14,15,16,17] mixed trivial (V (S p7 0) rfl (Zc Sw l9 (OB.ptr t5)) (G3 (c:=I y4.Width) rfl rfl .plain xB oD rfl (V (S p1 0) rfl (Zc Y4 nD (PT.ptr mB)) (V (S (S p1 0) 0) rfl (aa Ha (PT.ptr bD)) (G3 (c:=nB) rfl rfl .plain xC yD rfl (V (I x2) rfl (Zk lD) (V (Gy nB x2 1) rfl (Zh (α:=Int) underlying25 sizeOf3 rfl cD rfl oB) (G3 (c:=I i6) rfl rfl .plain xC zD rfl (V (.bool (decide (y4.Width>i6))) rfl (Gp rfl rfl rfl) (V (.bool (decide (y4.Width>i6))) rfl (ai) (L_y (I o0) rfl rfl rfl rfl l5 (Zk aB) (L_y (S p7 2) rfl rfl rfl rfl l5 (Zc Yd l9 (OB.ptr t5)) (G3 (c:=I y4.Woven) rfl rfl (.yes2 rfl rfl l5) xB yF rfl (L_y (I (w64 (o0+y4.Woven))) rfl rfl rfl rfl l5 (Gp rfl rfl rfl) (L_y (S p7 4) rfl rfl rfl rfl l5 (Zc Xi l9 (OB.ptr t5)) (G3 (c:=I y4.Late) rfl rfl (.yes2 rfl rfl l5) xB aG rfl ?_))))))))))))))));refine L_y (.bool (decide ((w64 (o0+y4.Woven))>y4.Late))) rfl rfl rfl rfl l5 (Gp rfl rfl rfl) (V (.bool (decide ((w64 (o0+y4.Woven))>y4.Late))) rfl (ae (b:=(decide (y4.Width>i6))) (Td l5 rfl)) (Ki fun yG aI hs=>?_));have hfr:=hfr.ext hs;clear hs;refine Zb ?_;cases h;exact hQ _ _ ⟨yG,hfr,aB,rfl⟩
   ·clear hx
    obtain ⟨zG,hfr,aE,lB⟩:=hR;rcases Zt h with ⟨vB,h⟩ | ⟨vB,h⟩
    ·refine Ta (Eq.trans (show X _ _=.bool l8 from lB) (congrArg Value.bool vB)) (Z (H (I 1048576) (O (Gb (Gj ?_)))))
     cases h;exact ac rfl (rq (I 1048576)) ⟨_,hfr,rfl⟩
    ·refine Gv (Eq.trans (show X _ _=.bool l8 from lB) (congrArg Value.bool vB)) ?_
     exact Zu (Zd (xF () _ _ ⟨zG,hfr,aE⟩ h))
  ·rintro _ nH bI ⟨dI,hfr,bE⟩ h
   refine Z (aQ bE (H (I o0) (O (Gb ?_))));obtain rfl:=sinj h;exact ac rfl (rq (I o0)) ⟨_,hfr,rfl⟩
def f117 (x0:List Bool) (x1:Bool):Option Int:=
 jn (σ:=Unit) (fun _=>
  some (-1:Int)
  ) fun k14=>
 lp (σ:=Int) (fun vB o0=>
  bif (decide (o0<(x0.length:Int))) then
   jn (σ:=Unit) (fun _=>
    vB (w64 (o0+(1:Int)))
    ) fun yB=>
   (idx x0 o0).bind fun y23=>
   bif (x1==y23) then
    some o0
   else
    yB ()
  else
   k14 ()
  ) big (0:Int)
theorem en117:Enters prog 117:=yC func117
theorem wk117 {x0:List Bool} {x1:Bool} (rp0:RV gI.m wI x0 up0) {r:Int} (h:f117 x0 x1=some r):Fn prog 117 #[up0,.bool x1] gI wI (fun _ _ v=>v=I r):=by
 unfold f117 at h;refine fnE func117 rfl rfl fun g0 hm hfr=>?_;have rp0:=RVc hm rp0;refine Z (H (I 0) (O (Zq h (fun (s:Unit) e w=>∃ (g:Gh) ,Fr gI wI g w) (fun X14 k14 zB h=>?_) ?_)))
 ·refine Z (M up0 (Y (I (x0.length:Int)) (G7 underlying85 rfl rp0) (M (I 0) (O (Zr (Qz h (fun (s:Int)=>xD gI wI fun e w g=>e 0=up0∧RV g.m w (x0:List Bool) up0∧e 1=.bool x1∧e 7=I (x0.length:Int)∧e 8=I s) ⟨g0,hfr,rfl,rp0,rfl,rfl,rfl⟩ (fun X15 vB cC=>?_)))))))
  rintro o0 lD yD ⟨l9,hfr,l8,l5,n8,v8,t5⟩ h;refine Z (aT (.bool (decide (o0<(x0.length:Int)))) t5 v8 rfl (O (Zf ?_)));rcases Zt h with ⟨i6,h⟩ | ⟨i6,h⟩
  ·refine Gz i6 rfl (Zu (Zd (Zq h (fun (s:Unit)=>xD gI wI fun e w g=>e 0=up0∧RV g.m w (x0:List Bool) up0∧e 1=.bool x1∧e 7=I (x0.length:Int)∧e 8=I o0) (fun X22 yB uC h=>?_) ?_)))
   ·refine Zr (Z (aQ t5 (H (I o0) (O (Z (aQ n8 (aQ l8 (M (I o0) ?_))))))))
    obtain ⟨y23,n9,h⟩:=Z1 h;refine Y (Gy up0 o0 1) (Zh (α:=Bool) underlying85 sizeOf4 rfl l5 rfl n9) ?_;have vC:=G1 l5 n9;refine G (Ga (g:=l9) isAgg4 sizeOf4 rfl vC fun zD bD=>?_);obtain rfl:=Tz.1 bD;refine Y (.bool (x1==y23)) (Eo underlying4 rfl rfl rfl) (O ?_);rcases Zt h with ⟨g8,h⟩ | ⟨g8,h⟩
    ·refine Gz g8 rfl (Z (M (I o0) (H (I o0) (O (Gb (G6 (Gj (Gj (G6 (Gj ?_))))))))))
     obtain rfl:=sinj h;exact ac rfl (rq (I o0)) ⟨_,hfr,rfl⟩
    ·refine G0 g8 rfl ?_
     exact Zu (Te (Zd (uC () _ _ ⟨l9,hfr,l8,l5,n8,v8,t5⟩ h)))
   ·rintro _ nD aE ⟨cD,hfr,aB,lB,mB,nB,oB⟩ h
    refine Za (aT (I (w64 (o0+(1:Int)))) oB rfl rfl (M (I (w64 (o0+(1:Int)))) ?_));exact O (cC (w64 (o0+(1:Int))) _ _ ⟨cD,hfr,aB,lB,mB,nB,rfl⟩ h)
  ·refine G0 i6 rfl (Th (Gr (Gr (G2 ?_))))
   exact Zd (zB () _ _ ⟨l9,hfr⟩ h)
 ·rintro _ oD bE ⟨iE,hfr⟩ h
  refine Z (H (I (-1)) (O (Gb ?_)));cases h;exact ac rfl (rq (I (-1))) ⟨_,hfr,rfl⟩
def f118 (x0:List Int) (x1:Int) (x2:Int) (x3:Int→Int→Option Int):Option (List Int):=
 lp (σ:=(List Int) × Int) (fun k1 (cC,g8)=>
  jn (σ:=Unit) (fun _=>
   Option.bind (α:=(List Int)) (
    lp (σ:=(List Int) × Int) (fun xE (t5,o0)=>
     jn (σ:=Unit) (fun _=>
      Option.bind (α:=(List Int)) (
       (idx t5 (w64 (o0-(1:Int)))).bind fun vB=>
       (idx t5 o0).bind fun uC=>
       (idx t5 o0).bind fun pH=>
       (idx (List.set t5 (Int.toNat o0) vB) (w64 (o0-(1:Int)))).bind fun qH=>
       some (List.set (List.set t5 (Int.toNat o0) vB) (Int.toNat (w64 (o0-(1:Int)))) uC)
       ) fun aB=>
      xE (aB,(w64 (o0-(1:Int))))
      ) fun yE=>
     Option.bind (α:=Bool) (
      bif (decide (o0>x1)) then
       (idx t5 o0).bind fun vC=>
       (idx t5 (w64 (o0-(1:Int)))).bind fun bD=>
       (x3 vC bD).bind fun oB=>
       some (decide (oB<(0:Int)))
      else
       some false
      ) fun n8=>
     bif n8 then
      yE ()
     else
      some t5
     ) big (cC,g8)
    ) fun lB=>
   k1 (lB,(w64 (g8+(1:Int))))
   ) fun k4=>
  bif (decide (g8<x2)) then
   k4 ()
  else
   some cC
  ) big (x0,(w64 (x1+(1:Int))))
theorem en118:Enters prog 118:=yC func118
theorem wk118 {iI:Nat} {gI:Gh} {wI:World} {x0:List Int} {x1:Int} {x2:Int} {x3:Int→Int→Option Int} {up0:Value} (mp0:OM iI gI wI 3 x0 up0) {up3:Value} (rp3:Aq prog x3 up3 gI wI) {r:(List Int)} (h:f118 x0 x1 x2 x3=some r):FnM prog 118 #[up0,I x1,I x2,up3] iI gI wI (fun g w v=>v=.tuple #[]∧OM iI g w 3 r up0):=by
 unfold f118 at h;refine Vd func118 rfl (Nat.le_of_ble_eq_true rfl) fun g0 hm hfr=>?_;have cH:=mp0;replace mp0:=mp0.enter;rw [← hm] at mp0
 replace hm:g0.m=gI.m:=by rw [hm]
 obtain ⟨ff3,fa3,fc3,rfl,fen3,fcl3⟩:=rp3;refine Z (M (I x1) (aT (I (w64 (x1+(1:Int)))) rfl rfl rfl (H (I (w64 (x1+(1:Int)))) (O (Zr (Qz h (fun (s:(List Int) × Int) e w=>∃ (g:Gh) ,FrM iI gI wI g w∧e 0=up0∧OM 1 g w 3 (s.1:List Int) up0∧e 1=I (x1)∧e 2=I (x2)∧e 3=(.func (.func ff3) fa3 fc3)∧e 8=I s.2) ⟨g0,hfr,rfl,mp0,rfl,rfl,rfl,rfl⟩ (fun X1 k1 hk1=>?_)))))));rintro ⟨cC,g8⟩ pK w2 ⟨g2,hfr,sH,zE,tH,cF,uH,dF⟩ h;refine Zq h (fun (s:Unit) e w=>∃ (g:Gh) ,FrM iI gI wI g w∧e 0=up0∧OM 1 g w 3 (cC:List Int) up0∧e 1=I (x1)∧e 2=I (x2)∧e 3=(.func (.func ff3) fa3 fc3)∧e 8=I g8) (fun X4 k4 hk4 h=>?_) ?_
 ·refine Z (aQ dF (aQ cF (aT (.bool (decide (g8<x2))) rfl rfl rfl (O ?_))))
  rcases Zt h with ⟨hc5,h⟩ | ⟨hc5,h⟩
  ·refine Gz hc5 rfl ?_
   exact Zu (Zd (hk4 () _ _ ⟨g2,hfr,sH,zE,tH,cF,uH,dF⟩ h))
  ·refine G0 hc5 rfl (Th (Gr (Gr (G2 ?_))))
   cases h;exact Xs rfl rfl ⟨_,hfr,rfl,cH.back zE⟩
 ·rintro _ qK w6 ⟨g6,hfr,xH,yH,zH,aI,bI,eF⟩ h
  obtain ⟨lB,hx,h⟩:=Z1 h;refine Gn (fun e w=>∃ (g:Gh) ,FrM iI gI wI g w∧e 0=up0∧OM 1 g w 3 (lB:List Int) up0∧e 1=I (x1)∧e 2=I (x2)∧e 3=(.func (.func ff3) fa3 fc3)∧e 8=I g8) (fun Q' hQ=>?_) (fun mJ rJ hR=>?_)
  ·replace h:=hx
   clear hx;refine Zr (Z (aQ eF (H (I g8) (O (Zr (Qz h (fun (s:(List Int) × Int) e w=>∃ (g:Gh) ,FrM iI gI wI g w∧e 0=up0∧OM 1 g w 3 (s.1:List Int) up0∧e 1=I (x1)∧e 2=I (x2)∧e 3=(.func (.func ff3) fa3 fc3)∧e 8=I (g8)∧e 9=I s.2) ⟨g6,hfr,xH,yH,zH,aI,bI,eF,rfl⟩ (fun X297 xE gH=>?_)))))));rintro ⟨t5,o0⟩ nJ sJ ⟨rF,hfr,mB,i6,nB,lD,yB,nD,v8⟩ h;refine Zq h (fun (s:Unit) e w=>∃ (g:Gh) ,FrM iI gI wI g w∧e 0=up0∧OM 1 g w 3 (t5:List Int) up0∧e 1=I (x1)∧e 2=I (x2)∧e 3=(.func (.func ff3) fa3 fc3)∧e 8=I (g8)∧e 9=I o0) (fun X411 yE jH h=>?_) ?_
   ·obtain ⟨n8,hx,h⟩:=Z1 h
    refine Gn (fun e w=>∃ (g:Gh) ,FrM iI gI wI g w∧e 0=up0∧OM 1 g w 3 (t5:List Int) up0∧e 1=I (x1)∧e 2=I (x2)∧e 3=(.func (.func ff3) fa3 fc3)∧e 8=I (g8)∧e 9=I (o0)∧e 34=.bool n8) (fun Q' hQ=>?_) (fun oJ vJ hR=>?_)
    ·replace h:=hx
     clear hx;rcases Zt h with ⟨l5,h⟩ | ⟨l5,h⟩
     ·obtain ⟨vC,lE,h⟩:=Z1 h
      refine Yw (x:=.tmp 25) isAgg3 sizeOf3 i6 lE fun xJ dI kH=>?_;obtain rfl:=Zj.1 dI;obtain ⟨bD,mE,h⟩:=Z1 h;refine Yw (x:=.tmp 30) isAgg3 sizeOf3 i6 mE fun zJ jI lH=>?_;obtain rfl:=Zj.1 jI;obtain ⟨oB,mH,h⟩:=Z1 h;refine ab (g:=rF) (n:=17) [(14,(fun v g w=>v=I oB))] [0,1,2,3,4,5,6,7,8,9,10,11,12,13,14,15,16] mixed (⟨fun _=>Ww _,trivial⟩) (V (I o0) rfl (Zk v8) (V (I x1) rfl (Zk nB) (V (.bool (decide (o0>x1))) rfl (Gp rfl rfl rfl) (V (.bool (decide (o0>x1))) rfl (ai) (L_y (.func (.func ff3) fa3 fc3) rfl rfl rfl rfl l5 (Zk yB) (L_y up0 rfl rfl rfl rfl l5 (Zk mB) (L_y (I o0) rfl rfl rfl rfl l5 (Zk v8) (L_y (Gy up0 o0 1) rfl rfl rfl rfl l5 (Tt (α:=Int) underlying25 sizeOf3 rfl i6 rfl lE) (G3 (c:=I vC) rfl rfl (.yes2 rfl rfl l5) xB kH rfl (L_y up0 rfl rfl rfl rfl l5 (Zk mB) (L_y (I o0) rfl rfl rfl rfl l5 (Zk v8) (L_y (I (w64 (o0-(1:Int)))) rfl rfl rfl rfl l5 (Gp rfl rfl rfl) (L_y (Gy up0 (w64 (o0-(1:Int))) 1) rfl rfl rfl rfl l5 (Tt (α:=Int) underlying25 sizeOf3 rfl i6 rfl mE) (G3 (c:=I bD) rfl rfl (.yes2 rfl rfl l5) xB lH rfl (Wd (φ:=fun v g w=>v=I oB) rfl rfl (.yes2 rfl rfl l5) (fun g w hd=>K9 (g:=g) (vs:=[I vC,I bD]) rfl fen3 (.cons rfl (.cons rfl .nil)) (fcl3 _ _ (hfr.ext hd.1).ch _ _ _ _ _  (Zj.2 rfl) (Zj.2 rfl) mH) fun g' w' v hs hr=>⟨g',hs,Zj.1 hr⟩) (fun aK hv=>?_))))))))))))))));obtain ⟨_,_,_,rfl⟩:=hv;refine L_y (.bool (decide (oB<(0:Int)))) rfl rfl rfl rfl l5 (Gp rfl rfl rfl) (V (.bool (decide (oB<(0:Int)))) rfl (ae (b:=(decide (o0>x1))) (Tg l5 rfl)) (Ki fun kI bK hs=>?_));have hfr:=hfr.ext hs;have i6:=i6.ext hs;clear hs;refine Zb ?_;cases h;exact hQ _ _ ⟨kI,hfr,mB,i6,nB,lD,yB,nD,v8,rfl⟩
     ·refine ab (g:=rF) (n:=17) [] [0,1,2,3,4,5,6,7,8,9,10,11,12,13,14,15,16] mixed trivial (V (I o0) rfl (Zk v8) (V (I x1) rfl (Zk nB) (V (.bool (decide (o0>x1))) rfl (Gp rfl rfl rfl) (V (.bool (decide (o0>x1))) rfl (ai) ?_))))
      iterate 12 refine L_s rfl rfl rfl l5 rfl ?_
      refine V (.bool false) rfl (ae (b:=(decide (o0>x1))) (Td l5 rfl)) (Ki fun lI cK hs=>?_);have hfr:=hfr.ext hs;have i6:=i6.ext hs;clear hs;refine Zb ?_;cases h;exact hQ _ _ ⟨lI,hfr,mB,i6,nB,lD,yB,nD,v8,rfl⟩
    ·clear hx
     obtain ⟨sF,hfr,oD,yD,zD,aE,bE,iE,tF,zB⟩:=hR;rcases Zt h with ⟨cD,h⟩ | ⟨cD,h⟩
     ·refine Ta (Eq.trans (show X _ _=.bool n8 from zB) (congrArg Value.bool cD)) ?_
      exact Zu (Zd (jH () _ _ ⟨sF,hfr,oD,yD,zD,aE,bE,iE,tF⟩ h))
     ·refine Gv (Eq.trans (show X _ _=.bool n8 from zB) (congrArg Value.bool cD)) (Th (Gr (Gr (G2 (Te ?_)))))
      cases h;exact hQ _ _ ⟨sF,hfr,oD,yD,zD,aE,bE,iE⟩
   ·rintro _ pJ mI ⟨uF,hfr,l9,l8,vF,xF,yF,aG,n9⟩ h
    obtain ⟨aB,hx,h⟩:=Z1 h;refine Gn (fun e w=>∃ (g:Gh) ,FrM iI gI wI g w∧e 0=up0∧OM 1 g w 3 (aB:List Int) up0∧e 1=I (x1)∧e 2=I (x2)∧e 3=(.func (.func ff3) fa3 fc3)∧e 8=I (g8)∧e 9=I o0) (fun Q' hQ=>?_) (fun qJ dK hR=>?_)
    ·replace h:=hx
     clear hx;refine Zr ?_;obtain ⟨vB,oE,h⟩:=Z1 h;refine Yw (x:=.tmp 45) isAgg3 sizeOf3 l8 oE fun lK nI nH=>?_;obtain rfl:=Zj.1 nI;obtain ⟨uC,rE,h⟩:=Z1 h;refine Yw (x:=.tmp 49) isAgg3 sizeOf3 l8 rE fun mK pI oH=>?_;obtain rfl:=Zj.1 pI;obtain ⟨pH,uE,h⟩:=Z1 h;refine Cl (g:=uF) (n:=15) [2,3,4] [] [0,1,2,3,4,5,6,7,8,9,10,11,12,13,14] rfl mixed (by kernel_rfl) trivial rfl (V up0 rfl (Zk l9) (V (I o0) rfl (Zk n9) (Uz (c:=up0) rfl rfl .plain (Zk l9) (Uz (c:=I o0) rfl rfl .plain (Zk n9) (Uz (c:=I (w64 (o0-(1:Int)))) rfl rfl .plain (Gp rfl rfl rfl) (V up0 rfl (Zk l9) (V (I o0) rfl (Zk n9) (V (I (w64 (o0-(1:Int)))) rfl (Gp rfl rfl rfl) (V (Gy up0 (w64 (o0-(1:Int))) 1) rfl (Tt (α:=Int) underlying25 sizeOf3 rfl l8 rfl oE) (G3 (c:=I vB) rfl rfl .plain xB nH rfl (V up0 rfl (Zk l9) (V (I o0) rfl (Zk n9) (V (Gy up0 o0 1) rfl (Tt (α:=Int) underlying25 sizeOf3 rfl l8 rfl rE) (G3 (c:=I uC) rfl rfl .plain xB oH rfl (V (Gy up0 o0 1) rfl (Tt (α:=Int) underlying25 sizeOf3 rfl l8 rfl uE) (Ki fun bG qI hs=>?_))))))))))))))));have hlt:Lt uF.m mI bG qI:=hs.ch;have hfr:=hfr.ext hs;have l8:=l8.ext hs;clear hs;refine O5 hlt.w .plain rfl (Hn (g:=bG) (α:=Int) (a':=vB) sizeOf3 rfl l8 uE rfl (Zj.2 rfl) fun sI nK hs b582=>?_);have hfr:=hfr.stp hs;have hlt:=hlt.stp hs;obtain ⟨qH,vE,h⟩:=Z1 h;refine Lb hlt.w (v:=Gy up0 (w64 (o0-(1:Int))) 1) (Tt (α:=Int) underlying25 sizeOf3 rfl b582 rfl vE) .plain rfl (O5 hlt.w .plain rfl (Hn (g:=sI) (α:=Int) (a':=uC) sizeOf3 rfl b582 vE rfl (Zj.2 rfl) fun jJ oK hs b584=>?_));have hfr:=hfr.stp hs;have hlt:=hlt.stp hs;refine Nr hlt.w ?_;clear hlt;refine Te ?_;cases h;exact hQ _ _ ⟨jJ,hfr,l9,b584,vF,xF,yF,aG,n9⟩
    ·clear hx
     obtain ⟨kJ,hfr,cG,eG,gG,iG,jG,kG,lG⟩:=hR;refine Za (aQ lG (aT (I (w64 (o0-(1:Int)))) rfl rfl rfl (H (I (w64 (o0-(1:Int)))) ?_)));exact O (gH (aB,(w64 (o0-(1:Int)))) _ _ ⟨kJ,hfr,cG,eG,gG,iG,jG,kG,rfl⟩ h)
  ·clear hx
   obtain ⟨lJ,hfr,mG,sG,xG,yG,zG,aH⟩:=hR;refine Za (aQ aH (aT (I (w64 (g8+(1:Int)))) rfl rfl rfl (H (I (w64 (g8+(1:Int)))) ?_)));exact O (hk1 (lB,(w64 (g8+(1:Int)))) _ _ ⟨lJ,hfr,mG,sG,xG,yG,zG,rfl⟩ h)
def f128 (x0:Int) (z0:Int) (z1:Int):Option Bool:=
 Option.bind (α:=Bool) (
  bif (decide (x0<z0)) then
   some true
  else
   some (decide (x0>z1))
  ) fun o0=>
 some o0
theorem en128:Enters prog 128:=yC func128
theorem wk128 {x0:Int} {z0:Int} {z1:Int} {pf0:Value} (qf0:PT gI.m wI z0 pf0) {pf1:Value} (qf1:PT gI.m wI z1 pf1) {r:Bool} (h:f128 x0 z0 z1=some r):Fn prog 128 #[I x0,pf0,pf1] gI wI (fun _ _ v=>v=.bool r):=by
 unfold f128 at h;refine fnE func128 rfl rfl fun g0 hm hfr=>?_;have qf0:PT g0.m wI z0 pf0:=hm▸qf0;have qf1:PT g0.m wI z1 pf1:=hm▸qf1;refine Z (H (.bool false) (O ?_));obtain ⟨o0,hx,h⟩:=Z1 h;refine Gn (xD gI wI fun e w g=>e 4=.bool o0) (fun Q' hQ=>?_) (fun t5 w7 hR=>?_)
 ·replace h:=hx
  clear hx;refine Za (M (I x0) (G (Ga (g:=g0) isAgg3 sizeOf3 rfl qf0 fun v4 r4=>?_)));obtain rfl:=Zj.1 r4;refine aT (.bool (decide (x0<z0))) rfl rfl rfl (M (.bool (decide (x0<z0))) ?_);rcases Zt h with ⟨hc5,h⟩ | ⟨hc5,h⟩
  ·refine Zz rfl rfl hc5 rfl rfl (Zz rfl rfl hc5 rfl rfl (Zz rfl rfl hc5 rfl rfl (Y (.bool true) (ae (b:=(decide (x0<z0))) (Tg hc5 rfl)) (H (.bool true) (Zb ?_)))))
   cases h;exact hQ _ _ ⟨g0,hfr,rfl⟩
  ·refine ag (I x0) (ai) rfl rfl hc5 (Ze (.yes2 rfl rfl hc5) rfl (Ga (g:=g0) isAgg3 sizeOf3 rfl qf1 fun v6 r6=>?_))
   obtain rfl:=Zj.1 r6;refine ag (.bool (decide (x0>z1))) (Gp rfl rfl rfl) rfl rfl hc5 (Y (.bool (decide (x0>z1))) (ae (b:=(decide (x0<z0))) (Td hc5 rfl)) (H (.bool (decide (x0>z1))) (Zb ?_)));cases h;exact hQ _ _ ⟨g0,hfr,rfl⟩
 ·clear hx
  obtain ⟨g7,hfr,l5⟩:=hR;refine Gb ?_;obtain rfl:=sinj h;exact ac rfl (show _=.bool o0 from l5) ⟨_,hfr,rfl⟩
def f131 (x0:I32):Option Bool:=
 Option.bind (α:=Bool) (
  bif (decide (x0.n<(97:Int))) then
   some true
  else
   some (decide (x0.n>(122:Int)))
  ) fun o0=>
 some o0
theorem en131:Enters prog 131:=yC func131
theorem wk131 {x0:I32}  {r:Bool} (h:f131 x0=some r):Fn prog 131 #[.int .i32 x0.n] gI wI (fun _ _ v=>v=.bool r):=by
 unfold f131 at h;refine fnE func131 rfl rfl fun g0 hm hfr=>?_;refine Z (H (.bool false) (O ?_));obtain ⟨o0,hx,h⟩:=Z1 h;refine Gn (xD gI wI fun e w g=>e 2=.bool o0) (fun Q' hQ=>?_) (fun t5 w3 hR=>?_)
 ·replace h:=hx
  clear hx;refine Za (M (.int .i32 x0.n) (Y (.bool (decide (x0.n<(97:Int)))) (P1 rfl rfl rfl) (M (.bool (decide (x0.n<(97:Int)))) ?_)));rcases Zt h with ⟨hc2,h⟩ | ⟨hc2,h⟩
  ·refine Zz rfl rfl hc2 rfl rfl (Zz rfl rfl hc2 rfl rfl (Y (.bool true) (ae (b:=(decide (x0.n<(97:Int)))) (Tg hc2 rfl)) (H (.bool true) (Zb ?_))))
   cases h;exact hQ _ _ ⟨g0,hfr,rfl⟩
  ·refine ag (.int .i32 x0.n) (ai) rfl rfl hc2 (ag (.bool (decide (x0.n>(122:Int)))) (P1 rfl rfl rfl) rfl rfl hc2 (Y (.bool (decide (x0.n>(122:Int)))) (ae (b:=(decide (x0.n<(97:Int)))) (Td hc2 rfl)) (H (.bool (decide (x0.n>(122:Int)))) (Zb ?_))))
   cases h;exact hQ _ _ ⟨g0,hfr,rfl⟩
 ·clear hx
  obtain ⟨g3,hfr,l5⟩:=hR;refine Gb ?_;obtain rfl:=sinj h;exact ac rfl (show _=.bool o0 from l5) ⟨_,hfr,rfl⟩
def f133 (x0:List Str) (x1:Str→Option Bool):Option Int:=
 jn (σ:=Unit) (fun _=>
  some (-1:Int)
  ) fun k18=>
 lp (σ:=Int) (fun k19 o0=>
  bif (decide (o0<(x0.length:Int))) then
   jn (σ:=Unit) (fun _=>
    k19 (w64 (o0+(1:Int)))
    ) fun k28=>
   (idx x0 o0).bind fun l9=>
   (x1 l9).bind fun yB=>
   bif yB then
    some o0
   else
    k28 ()
  else
   k18 ()
  ) big (0:Int)
theorem en133:Enters prog 133:=yC func133
theorem wk133 {x0:List Str} {x1:Str→Option Bool} (rp0:RV gI.m wI x0 up0) (rp1:Ho prog x1 up1 gI wI) {r:Int} (h:f133 x0 x1=some r):Fn prog 133 #[up0,up1] gI wI (fun _ _ v=>v=I r):=by
 unfold f133 at h;refine fnE func133 rfl rfl fun g0 hm hfr=>?_;have rp0:=RVc hm rp0;obtain ⟨ff1,fa1,fc1,rfl,fen1,fcl1⟩:=rp1;refine Z (H (I 0) (O (Zq h (fun (s:Unit) e w=>∃ (g:Gh) ,Fr gI wI g w) (fun X18 k18 zB h=>?_) ?_)))
 ·refine Z (M up0 (Y (I (x0.length:Int)) (G7 underlying74 rfl rp0) (M (I 0) (O (Zr (Qz h (fun (s:Int)=>xD gI wI fun e w g=>e 0=up0∧RV g.m w (x0:List Str) up0∧e 1=(.func (.func ff1) fa1 fc1)∧e 7=I (x0.length:Int)∧e 8=I s) ⟨g0,hfr,rfl,rp0,rfl,rfl,rfl⟩ (fun X19 k19 cC=>?_)))))))
  rintro o0 oD aE ⟨n9,hfr,l8,l5,n8,v8,t5⟩ h;refine Z (aT (.bool (decide (o0<(x0.length:Int)))) t5 v8 rfl (O (Zf ?_)));rcases Zt h with ⟨i6,h⟩ | ⟨i6,h⟩
  ·refine Gz i6 rfl (Zu (Zd (Zq h (fun (s:Unit)=>xD gI wI fun e w g=>e 0=up0∧RV g.m w (x0:List Str) up0∧e 1=(.func (.func ff1) fa1 fc1)∧e 7=I (x0.length:Int)∧e 8=I o0) (fun X28 k28 uC h=>?_) ?_)))
   ·refine Zr (Z (aQ t5 (H (I o0) (O (Z (aQ n8 (aQ l8 (M (I o0) ?_))))))))
    obtain ⟨l9,aB,h⟩:=Z1 h;refine Y (Gy up0 o0 1) (Zh (α:=Str) underlying74 sizeOf9 rfl l5 rfl aB) ?_;have bD:=G1 l5 aB;refine G (Ga (g:=n9) isAgg9 sizeOf9 rfl bD fun bE cD=>?_);obtain rfl:=K7.1 cD;obtain ⟨yB,vC,h⟩:=Z1 h;refine G (K9 (g:=n9) (vs:=[Str.v l9]) rfl fen1 (.cons rfl .nil) (fcl1 _ _ hfr.ch _ _ _  (K7.2 rfl) vC) fun lD iE lE hs hr=>?_);have hfr:=hfr.ext hs;have l5:=l5.ext hs;obtain rfl:=Tz.1 hr;refine O ?_;rcases Zt h with ⟨g8,h⟩ | ⟨g8,h⟩
    ·refine Gz g8 rfl (Z (M (I o0) (H (I o0) (O (Gb (G6 (Gj (Gj (G6 (Gj ?_))))))))))
     obtain rfl:=sinj h;exact ac rfl (rq (I o0)) ⟨_,hfr,rfl⟩
    ·refine G0 g8 rfl ?_
     exact Zu (Te (Zd (uC () _ _ ⟨lD,hfr,l8,l5,n8,v8,t5⟩ h)))
   ·rintro _ yD mE ⟨nD,hfr,lB,mB,nB,oB,vB⟩ h
    refine Za (aT (I (w64 (o0+(1:Int)))) vB rfl rfl (M (I (w64 (o0+(1:Int)))) ?_));exact O (cC (w64 (o0+(1:Int))) _ _ ⟨nD,hfr,lB,mB,nB,oB,rfl⟩ h)
  ·refine G0 i6 rfl (Th (Gr (Gr (G2 ?_))))
   exact Zd (zB () _ _ ⟨n9,hfr⟩ h)
 ·rintro _ zD oE ⟨rE,hfr⟩ h
  refine Z (H (I (-1)) (O (Gb ?_)));cases h;exact ac rfl (rq (I (-1))) ⟨_,hfr,rfl⟩
def f145 (x0:Int) (z0:Int) (z1:Int):Option Bool:=
 Option.bind (α:=Bool) (
  bif (decide (x0<z0)) then
   some true
  else
   some (decide (x0>z1))
  ) fun o0=>
 some o0
theorem en145:Enters prog 145:=yC func145
theorem wk145 {x0:Int} {z0:Int} {z1:Int} {pf0:Value} (qf0:PT gI.m wI z0 pf0) {pf1:Value} (qf1:PT gI.m wI z1 pf1) {r:Bool} (h:f145 x0 z0 z1=some r):Fn prog 145 #[I x0,pf0,pf1] gI wI (fun _ _ v=>v=.bool r):=by
 unfold f145 at h;refine fnE func145 rfl rfl fun g0 hm hfr=>?_;have qf0:PT g0.m wI z0 pf0:=hm▸qf0;have qf1:PT g0.m wI z1 pf1:=hm▸qf1;refine Z (H (.bool false) (O ?_));obtain ⟨o0,hx,h⟩:=Z1 h;refine Gn (xD gI wI fun e w g=>e 4=.bool o0) (fun Q' hQ=>?_) (fun t5 w7 hR=>?_)
 ·replace h:=hx
  clear hx;refine Za (M (I x0) (G (Ga (g:=g0) isAgg3 sizeOf3 rfl qf0 fun v4 r4=>?_)));obtain rfl:=Zj.1 r4;refine aT (.bool (decide (x0<z0))) rfl rfl rfl (M (.bool (decide (x0<z0))) ?_);rcases Zt h with ⟨hc5,h⟩ | ⟨hc5,h⟩
  ·refine Zz rfl rfl hc5 rfl rfl (Zz rfl rfl hc5 rfl rfl (Zz rfl rfl hc5 rfl rfl (Y (.bool true) (ae (b:=(decide (x0<z0))) (Tg hc5 rfl)) (H (.bool true) (Zb ?_)))))
   cases h;exact hQ _ _ ⟨g0,hfr,rfl⟩
  ·refine ag (I x0) (ai) rfl rfl hc5 (Ze (.yes2 rfl rfl hc5) rfl (Ga (g:=g0) isAgg3 sizeOf3 rfl qf1 fun v6 r6=>?_))
   obtain rfl:=Zj.1 r6;refine ag (.bool (decide (x0>z1))) (Gp rfl rfl rfl) rfl rfl hc5 (Y (.bool (decide (x0>z1))) (ae (b:=(decide (x0<z0))) (Td hc5 rfl)) (H (.bool (decide (x0>z1))) (Zb ?_)));cases h;exact hQ _ _ ⟨g0,hfr,rfl⟩
 ·clear hx
  obtain ⟨g7,hfr,l5⟩:=hR;refine Gb ?_;obtain rfl:=sinj h;exact ac rfl (show _=.bool o0 from l5) ⟨_,hfr,rfl⟩
def f148 (x0:U64) (x1:U64):Option (U64 × U64):=
 (Wv x0.n (32:Int)).bind fun y1=>
 (Wv x1.n (32:Int)).bind fun y2=>
 (Wv (T9 ((Tq .and x0.n (4294967295:Int))*(Tq .and x1.n (4294967295:Int)))) (32:Int)).bind fun y3=>
 (Wv (T9 ((T9 (y1*(Tq .and x1.n (4294967295:Int))))+y3)) (32:Int)).bind fun y4=>
 (Wv (T9 ((Tq .and (T9 ((T9 (y1*(Tq .and x1.n (4294967295:Int))))+y3)) (4294967295:Int))+(T9 ((Tq .and x0.n (4294967295:Int))*y2)))) (32:Int)).bind fun y5=>
 some ((⟨T9 ((T9 ((T9 (y1*y2))+y4))+y5)⟩:U64),(⟨T9 (x0.n*x1.n)⟩:U64))
theorem en148:Enters prog 148:=yC func148
theorem wk148 {x0:U64} {x1:U64}  {r:U64 × U64} (h:f148 x0 x1=some r):Fn prog 148 #[.int .u64 x0.n,.int .u64 x1.n] gI wI (fun m w v=>∃ y0 y1,v=.tuple #[y0,y1]∧y0=.int .u64 ((r.1).n)∧y1=.int .u64 ((r.2).n)):=by
 unfold f148 at h;refine fnE func148 rfl rfl fun g0 hm hfr=>?_;refine Z (H (.int .u64 0) (H (.int .u64 0) (O (Z (M (.int .u64 x0.n) (Y (.int .u64 (Tq .and x0.n (4294967295:Int))) (Kt (by simp) rfl rfl) (H (.int .u64 (Tq .and x0.n (4294967295:Int))) (O (Z (M (.int .u64 x0.n) ?_))))))))));obtain ⟨y1,hy1,h⟩:=Z1 h;refine Y (.int .u64 y1) (J6 rfl rfl hy1) (H (.int .u64 y1) (O (Z (M (.int .u64 x1.n) (Y (.int .u64 (Tq .and x1.n (4294967295:Int))) (Kt (by simp) rfl rfl) (H (.int .u64 (Tq .and x1.n (4294967295:Int))) (O (Z (M (.int .u64 x1.n) ?_)))))))));obtain ⟨y2,hy2,h⟩:=Z1 h;refine Y (.int .u64 y2) (J6 rfl rfl hy2) (H (.int .u64 y2) (O (Z (M (.int .u64 (Tq .and x0.n (4294967295:Int))) (M (.int .u64 (Tq .and x1.n (4294967295:Int))) (Y (.int .u64 (T9 ((Tq .and x0.n (4294967295:Int))*(Tq .and x1.n (4294967295:Int))))) (Rl rfl rfl) (H (.int .u64 (T9 ((Tq .and x0.n (4294967295:Int))*(Tq .and x1.n (4294967295:Int))))) (O (Z (M (.int .u64 y1) (M (.int .u64 (Tq .and x1.n (4294967295:Int))) (Y (.int .u64 (T9 (y1*(Tq .and x1.n (4294967295:Int))))) (Rl rfl rfl) (M (.int .u64 (T9 ((Tq .and x0.n (4294967295:Int))*(Tq .and x1.n (4294967295:Int))))) ?_)))))))))))));obtain ⟨y3,hy3,h⟩:=Z1 h;refine Y (.int .u64 y3) (J6 rfl rfl hy3) (Y (.int .u64 (T9 ((T9 (y1*(Tq .and x1.n (4294967295:Int))))+y3))) (Po rfl rfl) (Y (.int .u64 (T9 ((T9 (y1*(Tq .and x1.n (4294967295:Int))))+y3))) (Tp rfl) (O (Z (Y (.int .u64 (T9 ((T9 (y1*(Tq .and x1.n (4294967295:Int))))+y3))) (ai) (Y (.int .u64 (Tq .and (T9 ((T9 (y1*(Tq .and x1.n (4294967295:Int))))+y3)) (4294967295:Int))) (Kt (by simp) rfl rfl) (Y (.int .u64 (Tq .and (T9 ((T9 (y1*(Tq .and x1.n (4294967295:Int))))+y3)) (4294967295:Int))) (Tp rfl) (O (Z (Y (.int .u64 (T9 ((T9 (y1*(Tq .and x1.n (4294967295:Int))))+y3))) (ai) ?_))))))))));obtain ⟨y4,o0,h⟩:=Z1 h;refine Y (.int .u64 y4) (J6 rfl rfl o0) (H (.int .u64 y4) (O (Z (Y (.int .u64 (Tq .and (T9 ((T9 (y1*(Tq .and x1.n (4294967295:Int))))+y3)) (4294967295:Int))) (ai) (M (.int .u64 (Tq .and x0.n (4294967295:Int))) (M (.int .u64 y2) (Y (.int .u64 (T9 ((Tq .and x0.n (4294967295:Int))*y2))) (Rl rfl rfl) (Y (.int .u64 (T9 ((Tq .and (T9 ((T9 (y1*(Tq .and x1.n (4294967295:Int))))+y3)) (4294967295:Int))+(T9 ((Tq .and x0.n (4294967295:Int))*y2))))) (Po rfl rfl) (Y (.int .u64 (T9 ((Tq .and (T9 ((T9 (y1*(Tq .and x1.n (4294967295:Int))))+y3)) (4294967295:Int))+(T9 ((Tq .and x0.n (4294967295:Int))*y2))))) (Tp rfl) (O (Z (M (.int .u64 y1) (M (.int .u64 y2) (Y (.int .u64 (T9 (y1*y2))) (Rl rfl rfl) (M (.int .u64 y4) (Y (.int .u64 (T9 ((T9 (y1*y2))+y4))) (Po rfl rfl) (Y (.int .u64 (T9 ((Tq .and (T9 ((T9 (y1*(Tq .and x1.n (4294967295:Int))))+y3)) (4294967295:Int))+(T9 ((Tq .and x0.n (4294967295:Int))*y2))))) (ai) ?_)))))))))))))))));obtain ⟨y5,hy5,h⟩:=Z1 h;refine Y (.int .u64 y5) (J6 rfl rfl hy5) (Y (.int .u64 (T9 ((T9 ((T9 (y1*y2))+y4))+y5))) (Po rfl rfl) (Y (.int .u64 (T9 ((T9 ((T9 (y1*y2))+y4))+y5))) (Tp rfl) (O (Z (M (.int .u64 x0.n) (M (.int .u64 x1.n) (Y (.int .u64 (T9 (x0.n*x1.n))) (Rl rfl rfl) (H (.int .u64 (T9 (x0.n*x1.n))) (O (Gb ?_))))))))));cases h;exact H9 rfl rfl (rq (.int .u64 (T9 ((T9 ((T9 (y1*y2))+y4))+y5)))) (rq (.int .u64 (T9 (x0.n*x1.n)))) ⟨_,hfr,_,_,rfl,rfl,rfl⟩
def f150 (x0:Bool):Option UInt8:=
 jn (σ:=Unit) (fun _=>
  some (46:UInt8)
  ) fun k2=>
 bif x0 then
  some (120:UInt8)
 else
  k2 ()
theorem en150:Enters prog 150:=yC func150
theorem wk150 {x0:Bool}  {r:UInt8} (h:f150 x0=some r):Fn prog 150 #[.bool x0] gI wI (fun _ _ v=>v=.int .u8 (UInt8.toNat r)):=by
 unfold f150 at h;refine fnE func150 rfl rfl fun g0 hm hfr=>?_;refine Z (H (.int .u8 (UInt8.toNat 0)) (O (Zq h (fun (s:Unit) e w=>∃ (g:Gh) ,Fr gI wI g w) (fun X2 k2 hk2 h=>?_) ?_)))
 ·refine Z (M (.bool x0) (O ?_))
  rcases Zt h with ⟨hc3,h⟩ | ⟨hc3,h⟩
  ·refine Gz hc3 rfl (Z (H (.int .u8 (UInt8.toNat 120)) (O (Gb (Gj ?_)))))
   cases h;exact ac rfl (rq (.int .u8 (UInt8.toNat 120))) ⟨_,hfr,rfl⟩
  ·refine G0 hc3 rfl ?_
   exact Zu (Zd (hk2 () _ _ ⟨g0,hfr⟩ h))
 ·rintro _ o0 w4 ⟨g4,hfr⟩ h
  refine Z (H (.int .u8 (UInt8.toNat 46)) (O (Gb ?_)));cases h;exact ac rfl (rq (.int .u8 (UInt8.toNat 46))) ⟨_,hfr,rfl⟩
def f151 (x0:Qr) (x1:Int) (x2:Int):Option Bool:=
 (idx ((x0.TieHarness).Warps) x2).bind fun y5=>
 (Wv x1 y5).bind fun y8=>
 some ((Tx .and y8 (1:Int))==(1:Int))
theorem en151:Enters prog 151:=yC func151
theorem wk151 {x0:Qr} {x1:Int} {x2:Int} (rp0:RV gI.m wI x0 up0) {r:Bool} (h:f151 x0 x1 x2=some r):Fn prog 151 #[up0,I x1,I x2] gI wI (fun _ _ v=>v=.bool r):=by
 unfold f151 at h;refine fnE func151 rfl rfl fun g0 hm hfr=>?_;have rp0:=RVc hm rp0;refine Z (G (Tw (g:=g0) rfl rp0 fun g1 w1 p1 hs q1=>?_));have hfr:=hfr.ext hs;refine H (.bool false) (O (Z (M (I x1) (Y (S p1 0) (aa Al (PT.ptr q1)) ?_))));have q2:=Zm J1.1 q1;refine Y (S (S p1 0) 1) (aa H0 (PT.ptr q2)) ?_;have q3:=Zm Qb.1 q2;refine G (Ga (g:=g1) isAgg25 sizeOf25 rfl q3 fun v4 r4=>(M (I x2) ?_));obtain ⟨y5,hy5,h⟩:=Z1 h;refine Y (Gy v4 x2 1) (Zh (α:=Int) underlying25 sizeOf3 rfl r4 rfl hy5) ?_;have q6:=G1 r4 hy5;refine G (Ga (g:=g1) isAgg3 sizeOf3 rfl q6 fun v7 r7=>?_);obtain rfl:=Zj.1 r7;obtain ⟨y8,o0,h⟩:=Z1 h;refine Y (I y8) (Gp rfl rfl (congrArg (Option.map (Value.int .i64)) o0)) (aT (I (Tx .and y8 (1:Int))) rfl rfl rfl (aT (.bool ((Tx .and y8 (1:Int))==(1:Int))) rfl rfl rfl (H (.bool ((Tx .and y8 (1:Int))==(1:Int))) (O (Gb ?_)))));cases h;exact ac rfl (rq (.bool ((Tx .and y8 (1:Int))==(1:Int)))) ⟨_,hfr,rfl⟩
def f163 (x0:Str):Option Bool:=
 some (!(x0.b==x0.b))
theorem en163:Enters prog 163:=yC func163
theorem wk163 {x0:Str}  {r:Bool} (h:f163 x0=some r):Fn prog 163 #[Str.v x0] gI wI (fun _ _ v=>v=.bool r):=by
 unfold f163 at h;refine fnE func163 rfl rfl fun g0 hm hfr=>?_;refine Z (H (.bool false) (O (Z (M (Str.v x0) (M (Str.v x0) (Y (.bool (!(x0.b==x0.b))) (Fd rfl rfl rfl) (H (.bool (!(x0.b==x0.b))) (O (Gb ?_)))))))));cases h;exact ac rfl (rq (.bool (!(x0.b==x0.b)))) ⟨_,hfr,rfl⟩
def f164 (z0:List UInt8) (z1:Int) (σ:Type) (cons:U9 σ (List UInt8)) (s0:σ):Option σ:=
 lp (σ:=σ × Int) (fun k1 (n8,o0)=>
  jn (σ:=Unit) (fun _=>
   jn (σ:=σ) (fun v8=>
    k1 (v8,(w64 (o0+z1)))
    ) fun zD=>
   (cut z0 o0 (z0.length:Int)).bind fun l5=>
   (cut z0 o0 (w64 (o0+(J2 z1 (l5.length:Int))))).bind fun oB=>
   (cons n8 oB).bind fun (n9,l9)=>
   bif (!n9) then
    some l9
   else
    zD l9
   ) fun k5=>
  bif (decide (o0<(z0.length:Int))) then
   k5 ()
  else
   some n8
  ) big (s0,(0:Int))
theorem en164:Enters prog 164:=yC func164
theorem wk164 {σ:Type} {cons:U9 σ (List UInt8)} {s0 r:σ} {gI:Gh} {wI:World} {z0:List UInt8} {z1:Int} {pf0:Value} (qf0:PT gI.m wI z0 pf0) {pf1:Value} (qf1:PT gI.m wI z1 pf1) (h:f164 z0 z1 σ cons s0=some r):Fh prog (RA1 (α:=(List UInt8))) 164 #[] #[pf0,pf1] gI wI cons s0 r:=by
 unfold f164 at h;refine F3 func164 rfl (Nat.le_of_ble_eq_true rfl) fun l B J g0 hm hAb hRo hfr=>?_;have qf0:PT g0.m wI z0 pf0:=hm▸qf0;have qf1:PT g0.m wI z1 pf1:=hm▸qf1;show E _ 31 none _ _ (J0 #[.func (.yield l) #[] #[],pf0,pf1]) _ _;refine Z (H (I 0) (O (Zr (Qz h (fun (s:σ × Int) e w=>∃ (g:Gh) ,FrY gI wI B J s.1 g w∧e 0=(.func (.yield l) #[] #[])∧e 1=pf0∧PT g.m w (z0:List UInt8) pf0∧e 2=pf1∧PT g.m w (z1:Int) pf1∧e 4=I s.2) ⟨g0,hfr,rfl,rfl,qf0,rfl,qf1,rfl⟩ (fun X1 k1 hk1=>?_)))));rintro ⟨n8,o0⟩ xF w2 ⟨g2,hfr,oE,vB,yB,rE,uE,zB⟩ h;refine Zq h (fun (s:Unit) e w=>∃ (g:Gh) ,FrY gI wI B J n8 g w∧e 0=(.func (.yield l) #[] #[])∧e 1=pf0∧PT g.m w (z0:List UInt8) pf0∧e 2=pf1∧PT g.m w (z1:Int) pf1∧e 4=I o0) (fun X5 k5 hk5 h=>?_) ?_
 ·refine Z (aQ zB (G (Ga (g:=g2) isAgg63 sizeOf63 vB yB fun v6 r6=>(Y (I (z0.length:Int)) (G7 underlying63 rfl r6) (aT (.bool (decide (o0<(z0.length:Int)))) rfl rfl rfl (O ?_))))))
  rcases Zt h with ⟨cC,h⟩ | ⟨cC,h⟩
  ·refine Gz cC rfl ?_
   exact Zu (Zd (hk5 () _ _ ⟨g2,hfr,oE,vB,yB,rE,uE,zB⟩ h))
  ·refine G0 cC rfl (Th (Gr (Gr (G2 ?_))))
   cases h;exact Xs rfl rfl (FrY.done hfr)
 ·rintro _ yF w8 ⟨g8,hfr,uC,aB,t5,vC,i6,l8⟩ h
  refine Zq h (fun (s:σ) e w=>∃ (g:Gh) ,FrY gI wI B J s g w∧e 0=(.func (.yield l) #[] #[])∧e 1=pf0∧PT g.m w (z0:List UInt8) pf0∧e 2=pf1∧PT g.m w (z1:Int) pf1∧e 4=I o0) (fun X32 zD vE h=>?_) ?_
  ·refine Zr (Zf (Zs (x:=.tmp 2) isAgg3 sizeOf3 i6 fun aG cF xE=>?_))
   obtain rfl:=Zj.1 cF;refine Zs (x:=.tmp 1) isAgg63 sizeOf63 t5 fun aE bE yE=>?_;obtain ⟨l5,bD,h⟩:=Z1 h;have dF:=Cj bE bD;refine ab (g:=g8) (n:=7) [] [0,1,2,3,4,5,6] mixed trivial (G3 (c:=I z1) rfl rfl .plain xC xE vC (G3 (c:=aE) rfl rfl .plain xC yE aB (V (I o0) rfl (Zk l8) (V (Ky aE (Int.toNat o0) (Int.toNat (z0.length:Int)) 1) rfl (Ol underlying63 sizeOf5 rfl bE rfl rfl bD) (V (I (l5.length:Int)) rfl (G7 underlying63 rfl dF) (V (I (J2 z1 (l5.length:Int))) rfl (P_min rfl rfl) (V (I (J2 z1 (l5.length:Int))) rfl (Tp rfl) (Ki fun iE bG hs=>?_))))))));have hfr:=hfr.ext_ hAb hs;have t5:=t5.ext hs;have i6:=i6.ext hs;clear hs;refine O (Z (aQ uC (G (Ga (g:=iE) isAgg63 sizeOf63 aB t5 fun eF lE=>(aQ l8 (aQ l8 (M (I (J2 z1 (l5.length:Int))) (Y (I (w64 (o0+(J2 z1 (l5.length:Int))))) (Gp rfl rfl rfl) (aQ l8 (M (I (J2 z1 (l5.length:Int))) (Y (I (w64 (o0+(J2 z1 (l5.length:Int))))) (Gp rfl rfl rfl) ?_)))))))))));obtain ⟨oB,cD,h⟩:=Z1 h;have rF:=RV_cut3 lE cD;refine Y (A0 eF (Int.toNat o0) (Int.toNat (w64 (o0+(J2 z1 (l5.length:Int))))) 1) (P_slice3 underlying63 sizeOf5 rfl lE rfl rfl rfl cD) ?_;obtain ⟨sF,zE,h⟩:=Z1 h;obtain ⟨n9,l9⟩:=sF;refine G (F8 (g:=iE) (x:=oB) rfl (.cons rfl .nil) hRo hfr zE ⟨_,rfl,rF⟩ fun tF cG hs hfrY=>?_);have t5:=t5.stp hs;have i6:=i6.stp hs;have hfr:=hfrY;clear hfrY;refine Y (.bool (!n9)) (Qw rfl) (O ?_);rcases Zt h with ⟨lB,h⟩ | ⟨lB,h⟩
   ·refine Gz lB rfl (Gb (G6 (Gj (Gj (G6 ?_)))))
    cases h;exact end0 rfl rfl (FrY.done hfr)
   ·refine G0 lB rfl ?_
    exact Zu (Te (Zd (vE l9 _ _ ⟨tF,hfr,uC,aB,t5,vC,i6,l8⟩ h)))
  ·rintro v8 vF eG ⟨mE,hfr,lD,nD,oD,mB,nB,yD⟩ h
   refine Za (aQ yD (G (Ga (g:=mE) isAgg3 sizeOf3 mB nB fun gG uF=>?_)));obtain rfl:=Zj.1 uF;refine aT (I (w64 (o0+z1))) rfl rfl rfl (H (I (w64 (o0+z1))) ?_);exact O (hk1 (v8,(w64 (o0+z1))) _ _ ⟨mE,hfr,lD,nD,oD,mB,nB,rfl⟩ h)
def f169 (x0:Int) (z0:Int) (z1:Int):Option Bool:=
 Option.bind (α:=Bool) (
  bif (decide (x0<z0)) then
   some true
  else
   some (decide (x0>z1))
  ) fun o0=>
 some o0
theorem en169:Enters prog 169:=yC func169
theorem wk169 {x0:Int} {z0:Int} {z1:Int} {pf0:Value} (qf0:PT gI.m wI z0 pf0) {pf1:Value} (qf1:PT gI.m wI z1 pf1) {r:Bool} (h:f169 x0 z0 z1=some r):Fn prog 169 #[I x0,pf0,pf1] gI wI (fun _ _ v=>v=.bool r):=by
 unfold f169 at h;refine fnE func169 rfl rfl fun g0 hm hfr=>?_;have qf0:PT g0.m wI z0 pf0:=hm▸qf0;have qf1:PT g0.m wI z1 pf1:=hm▸qf1;refine Z (H (.bool false) (O ?_));obtain ⟨o0,hx,h⟩:=Z1 h;refine Gn (xD gI wI fun e w g=>e 4=.bool o0) (fun Q' hQ=>?_) (fun t5 w7 hR=>?_)
 ·replace h:=hx
  clear hx;refine Za (M (I x0) (G (Ga (g:=g0) isAgg3 sizeOf3 rfl qf0 fun v4 r4=>?_)));obtain rfl:=Zj.1 r4;refine aT (.bool (decide (x0<z0))) rfl rfl rfl (M (.bool (decide (x0<z0))) ?_);rcases Zt h with ⟨hc5,h⟩ | ⟨hc5,h⟩
  ·refine Zz rfl rfl hc5 rfl rfl (Zz rfl rfl hc5 rfl rfl (Zz rfl rfl hc5 rfl rfl (Y (.bool true) (ae (b:=(decide (x0<z0))) (Tg hc5 rfl)) (H (.bool true) (Zb ?_)))))
   cases h;exact hQ _ _ ⟨g0,hfr,rfl⟩
  ·refine ag (I x0) (ai) rfl rfl hc5 (Ze (.yes2 rfl rfl hc5) rfl (Ga (g:=g0) isAgg3 sizeOf3 rfl qf1 fun v6 r6=>?_))
   obtain rfl:=Zj.1 r6;refine ag (.bool (decide (x0>z1))) (Gp rfl rfl rfl) rfl rfl hc5 (Y (.bool (decide (x0>z1))) (ae (b:=(decide (x0<z0))) (Td hc5 rfl)) (H (.bool (decide (x0>z1))) (Zb ?_)));cases h;exact hQ _ _ ⟨g0,hfr,rfl⟩
 ·clear hx
  obtain ⟨g7,hfr,l5⟩:=hR;refine Gb ?_;obtain rfl:=sinj h;exact ac rfl (show _=.bool o0 from l5) ⟨_,hfr,rfl⟩
def f173 (x0:List Gi) (x1:Gi→Option Bool):Option Int:=
 jn (σ:=Unit) (fun _=>
  some (-1:Int)
  ) fun k18=>
 lp (σ:=Int) (fun k19 o0=>
  bif (decide (o0<(x0.length:Int))) then
   jn (σ:=Unit) (fun _=>
    k19 (w64 (o0+(1:Int)))
    ) fun k28=>
   (idx x0 o0).bind fun vB=>
   (x1 vB).bind fun yB=>
   bif yB then
    some o0
   else
    k28 ()
  else
   k18 ()
  ) big (0:Int)
theorem en173:Enters prog 173:=yC func173
theorem wk173 {x0:List Gi} {x1:Gi→Option Bool} (rp0:RV gI.m wI x0 up0) (rp1:Ho prog x1 up1 gI wI) {r:Int} (h:f173 x0 x1=some r):Fn prog 173 #[up0,up1] gI wI (fun _ _ v=>v=I r):=by
 unfold f173 at h;refine fnE func173 rfl rfl fun g0 hm hfr=>?_;have rp0:=RVc hm rp0;obtain ⟨ff1,fa1,fc1,rfl,fen1,fcl1⟩:=rp1;refine Z (H (I 0) (O (Zq h (fun (s:Unit) e w=>∃ (g:Gh) ,Fr gI wI g w) (fun X18 k18 zB h=>?_) ?_)))
 ·refine Z (M up0 (Y (I (x0.length:Int)) (G7 underlying114 rfl rp0) (M (I 0) (O (Zr (Qz h (fun (s:Int)=>xD gI wI fun e w g=>e 0=up0∧RV g.m w (x0:List Gi) up0∧e 1=(.func (.func ff1) fa1 fc1)∧e 7=I (x0.length:Int)∧e 8=I s) ⟨g0,hfr,rfl,rp0,rfl,rfl,rfl⟩ (fun X19 k19 cC=>?_)))))))
  rintro o0 yD bE ⟨l9,hfr,l8,l5,n8,v8,t5⟩ h;refine Z (aT (.bool (decide (o0<(x0.length:Int)))) t5 v8 rfl (O (Zf ?_)));rcases Zt h with ⟨i6,h⟩ | ⟨i6,h⟩
  ·refine Gz i6 rfl (Zu (Zd (Zq h (fun (s:Unit)=>xD gI wI fun e w g=>e 0=up0∧RV g.m w (x0:List Gi) up0∧e 1=(.func (.func ff1) fa1 fc1)∧e 7=I (x0.length:Int)∧e 8=I o0) (fun X28 k28 uC h=>?_) ?_)))
   ·refine Zr (Z (aQ t5 (H (I o0) (O (Z (aQ n8 (aQ l8 (M (I o0) ?_))))))))
    obtain ⟨vB,n9,h⟩:=Z1 h;refine Y (Gy up0 o0 3) (Zh (α:=Gi) underlying114 sizeOf118 rfl l5 rfl n9) ?_;have bD:=G1 l5 n9;refine G (Ga (g:=l9) isAgg118 sizeOf118 rfl bD fun cD lD=>?_);obtain ⟨yB,vC,h⟩:=Z1 h;refine G (K9 (g:=l9) (vs:=[cD]) rfl fen1 (.cons rfl .nil) (fcl1 _ _ hfr.ch _ _ _  lD vC) fun nD iE lE hs hr=>?_);have hfr:=hfr.ext hs;have l5:=l5.ext hs;obtain rfl:=Tz.1 hr;refine O ?_;rcases Zt h with ⟨g8,h⟩ | ⟨g8,h⟩
    ·refine Gz g8 rfl (Z (M (I o0) (H (I o0) (O (Gb (G6 (Gj (Gj (G6 (Gj ?_))))))))))
     obtain rfl:=sinj h;exact ac rfl (rq (I o0)) ⟨_,hfr,rfl⟩
    ·refine G0 g8 rfl ?_
     exact Zu (Te (Zd (uC () _ _ ⟨nD,hfr,l8,l5,n8,v8,t5⟩ h)))
   ·rintro _ zD mE ⟨oD,hfr,aB,lB,mB,nB,oB⟩ h
    refine Za (aT (I (w64 (o0+(1:Int)))) oB rfl rfl (M (I (w64 (o0+(1:Int)))) ?_));exact O (cC (w64 (o0+(1:Int))) _ _ ⟨oD,hfr,aB,lB,mB,nB,rfl⟩ h)
  ·refine G0 i6 rfl (Th (Gr (Gr (G2 ?_))))
   exact Zd (zB () _ _ ⟨l9,hfr⟩ h)
 ·rintro _ aE oE ⟨rE,hfr⟩ h
  refine Z (H (I (-1)) (O (Gb ?_)));cases h;exact ac rfl (rq (I (-1))) ⟨_,hfr,rfl⟩
def f174 (x0:Str) (x1:I32→Option Bool) (x2:Bool):Option Int:=
 jn (σ:=Unit) (fun _=>
  some (-1:Int)
  ) fun k8=>
 lp (σ:=Nat) (fun n9 o0=>
  bif (decide (o0<x0.b.length)) then
   (x1 (⟨(dec x0 o0).1⟩:I32)).bind fun v8=>
   bif (v8==x2) then
    some ((o0:Nat):Int)
   else
    n9 (o0+(dec x0 o0).2)
  else
   k8 ()
  ) big 0
theorem en174:Enters prog 174:=yC func174
theorem wk174 {x0:Str} {x1:I32→Option Bool} {x2:Bool} (rp1:Ho prog x1 up1 gI wI) {r:Int} (h:f174 x0 x1 x2=some r):Fn prog 174 #[Str.v x0,up1,.bool x2] gI wI (fun _ _ v=>v=I r):=by
 unfold f174 at h;refine fnE func174 rfl rfl fun g0 hm hfr=>?_;obtain ⟨ff1,fa1,fc1,rfl,fen1,fcl1⟩:=rp1;refine Z (H (I 0) (O (Zq h (fun (s:Unit) e w=>∃ (g:Gh) ,Fr gI wI g w) (fun X8 k8 mB h=>?_) ?_)))
 ·refine Z (M (Str.v x0) (G (D_rangeS (g:=g0) (s:=x0) 7010 underlying9 rfl fun g9 w9 p9 hs b9=>?_)))
  have hfr:=hfr.stp hs;refine O (Zr (Qz h (fun (s:Nat)=>xD gI wI fun e w g=>e 1=(.func (.func ff1) fa1 fc1)∧e 2=.bool (x2)∧e 10=p9∧SI 7010 g w x0 s p9) ⟨g9,hfr,rfl,rfl,rfl,b9⟩ (fun X10 n9 aB=>?_)));rintro o0 vB zB ⟨l9,hfr,l8,n8,l5,t5⟩ h;refine Z ?_;rcases Zt h with ⟨i6,h⟩ | ⟨i6,h⟩
  ·refine G (I3 (g:=l9) l5 t5 i6 fun nB cC hs b12=>?_)
   have hfr:=hfr.stp hs;refine Y (.bool true) (Zi rfl rfl) (O (Zf (Ta (by rw [show X _ _=_ from rfl];exact congrArg Value.bool rfl) (Zu (Zd (Zr (Z (Y (I ((o0:Nat):Int)) (Zi rfl rfl) (Y (.int .i32 (dec x0 o0).1) (Zi rfl rfl) (H (I ((o0:Nat):Int)) (H (.int .i32 (dec x0 o0).1) (O (Z (aQ l8 (M (.int .i32 (dec x0 o0).1) ?_)))))))))))))));obtain ⟨v8,lB,h⟩:=Z1 h;refine G (K9 (g:=nB) (vs:=[.int .i32 (dec x0 o0).1]) rfl fen1 (.cons rfl .nil) (fcl1 _ _ hfr.ch _ _ _  (Ep.2 rfl) lB) fun oB uC vC hs hr=>?_);have hfr:=hfr.ext hs;have b12:=b12.ext hs;obtain rfl:=Tz.1 hr;refine aQ n8 (Y (.bool (v8==x2)) (Eo underlying4 rfl rfl rfl) (O ?_));rcases Zt h with ⟨g8,h⟩ | ⟨g8,h⟩
   ·refine Gz g8 rfl (Z (M (I ((o0:Nat):Int)) (H (I ((o0:Nat):Int)) (O (Gb (G6 (Gj (G6 (Gj ?_)))))))))
    cases h;exact ac rfl (rq (I ((o0:Nat):Int))) ⟨_,hfr,rfl⟩
   ·refine G0 g8 rfl ?_
    exact Zu (Te (Zd (aB (o0+(dec x0 o0).2) _ _ ⟨oB,hfr,l8,n8,l5,b12⟩ h)))
  ·refine G (I2 (g:=l9) l5 t5 i6 (Y (.bool false) (Zi rfl rfl) (O (Zf (Gv (by rw [show X _ _=_ from rfl];exact congrArg Value.bool rfl) (Th (Gr (Gr (G2 ?_)))))))))
   exact Zd (mB () _ _ ⟨l9,hfr⟩ h)
 ·rintro _ yB bD ⟨cD,hfr⟩ h
  refine Z (H (I (-1)) (O (Gb ?_)));cases h;exact ac rfl (rq (I (-1))) ⟨_,hfr,rfl⟩
def f176 (x0:U64):Option U64:=
 (Wv x0.n (8:Int)).bind fun y1=>
 (As (Tq .and x0.n (71777214294589695:Int)) (8:Int)).bind fun y2=>
 (Wv (Tq .or (Tq .and y1 (71777214294589695:Int)) y2) (16:Int)).bind fun y3=>
 (As (Tq .and (Tq .or (Tq .and y1 (71777214294589695:Int)) y2) (281470681808895:Int)) (16:Int)).bind fun y4=>
 (Wv (Tq .or (Tq .and y3 (281470681808895:Int)) y4) (32:Int)).bind fun y5=>
 (As (Tq .or (Tq .and y3 (281470681808895:Int)) y4) (32:Int)).bind fun y6=>
 some (⟨Tq .or y5 y6⟩:U64)
theorem en176:Enters prog 176:=yC func176
theorem wk176 {x0:U64}  {r:U64} (h:f176 x0=some r):Fn prog 176 #[.int .u64 x0.n] gI wI (fun _ _ v=>v=.int .u64 r.n):=by
 unfold f176 at h;refine fnE func176 rfl rfl fun g0 hm hfr=>?_;refine Z (H (.int .u64 0) (O (Z (M (.int .u64 x0.n) ?_))));obtain ⟨y1,hy1,h⟩:=Z1 h;refine Y (.int .u64 y1) (J6 rfl rfl hy1) (Y (.int .u64 (Tq .and y1 (71777214294589695:Int))) (Kt (by simp) rfl rfl) (M (.int .u64 x0.n) (Y (.int .u64 (Tq .and x0.n (71777214294589695:Int))) (Kt (by simp) rfl rfl) ?_)));obtain ⟨y2,hy2,h⟩:=Z1 h;refine Y (.int .u64 y2) (B9 rfl rfl hy2) (Y (.int .u64 (Tq .or (Tq .and y1 (71777214294589695:Int)) y2)) (Kt (by simp) rfl rfl) (H (.int .u64 (Tq .or (Tq .and y1 (71777214294589695:Int)) y2)) (O (Z (M (.int .u64 (Tq .or (Tq .and y1 (71777214294589695:Int)) y2)) ?_)))));obtain ⟨y3,hy3,h⟩:=Z1 h;refine Y (.int .u64 y3) (J6 rfl rfl hy3) (Y (.int .u64 (Tq .and y3 (281470681808895:Int))) (Kt (by simp) rfl rfl) (M (.int .u64 (Tq .or (Tq .and y1 (71777214294589695:Int)) y2)) (Y (.int .u64 (Tq .and (Tq .or (Tq .and y1 (71777214294589695:Int)) y2) (281470681808895:Int))) (Kt (by simp) rfl rfl) ?_)));obtain ⟨y4,o0,h⟩:=Z1 h;refine Y (.int .u64 y4) (B9 rfl rfl o0) (Y (.int .u64 (Tq .or (Tq .and y3 (281470681808895:Int)) y4)) (Kt (by simp) rfl rfl) (H (.int .u64 (Tq .or (Tq .and y3 (281470681808895:Int)) y4)) (O (Z (M (.int .u64 (Tq .or (Tq .and y3 (281470681808895:Int)) y4)) ?_)))));obtain ⟨y5,hy5,h⟩:=Z1 h;refine Y (.int .u64 y5) (J6 rfl rfl hy5) (M (.int .u64 (Tq .or (Tq .and y3 (281470681808895:Int)) y4)) ?_);obtain ⟨y6,l5,h⟩:=Z1 h;refine Y (.int .u64 y6) (B9 rfl rfl l5) (Y (.int .u64 (Tq .or y5 y6)) (Kt (by simp) rfl rfl) (H (.int .u64 (Tq .or y5 y6)) (O (Gb ?_))));cases h;exact ac rfl (rq (.int .u64 (Tq .or y5 y6))) ⟨_,hfr,rfl⟩
def f5 (x0:UInt8) (x1:List UInt16):Option Gc:=
 (f17 x0 x1).bind fun y3=>
 Option.bind (α:=Gc) (
  lp (σ:=Gc × Int) (fun kH (g8,t5)=>
   jn (σ:=Unit) (fun _=>
    Option.bind (α:=Gc) (
     (apnd 8 ((g8.Harness).Warps) ([t5]:List Int)).bind fun y71=>
     some ({g8 with Harness:={g8.Harness with Warps:=y71}})
     ) fun mB=>
    kH (mB,(w64 (t5+(1:Int))))
    ) fun lH=>
   bif (decide (t5<(g8.Design).Hooks)) then
    lH ()
   else
    some g8
   ) big ((⟨(⟨y3.Hooks,[]⟩:TieHarness),y3⟩:Gc),(0:Int))
  ) fun v8=>
 Option.bind (α:=Gc) (
  lp (σ:=Gc × Int) (fun uE (l8,o0)=>
   jn (σ:=Unit) (fun _=>
    Option.bind (α:=Gc) (
     (apnd 8 ((l8.Harness).Warps) ([o0]:List Int)).bind fun zD=>
     some ({l8 with Harness:={l8.Harness with Warps:=zD}})
     ) fun lB=>
    uE (lB,(w64 (o0-(1:Int))))
    ) fun vE=>
   bif (decide (o0>(0:Int))) then
    vE ()
   else
    some l8
   ) big (v8,(w64 ((v8.Design).Hooks-(2:Int))))
  ) fun nB=>
 some nB
theorem en5:Enters prog 5:=yC func5
theorem wk5 {x0:UInt8} {x1:List UInt16} (rp1:RV gI.m wI x1 up1) {r:Gc} (h:f5 x0 x1=some r):Fn prog 5 #[.int .u8 (UInt8.toNat x0),up1] gI wI (fun m w v=>RV m w r v):=by
 unfold f5 at h;refine fnE func5 rfl rfl fun g0 hm hfr=>?_;have rp1:=RVc hm rp1;refine Z (G (Gu (g:=g0) 2004 (⟨⟨0,[]⟩,⟨0,[]⟩⟩:Gc) zeroValue36 (fun m w=>⟨_,(Gg (Gg Zw Tb) (Gg Zw Tb)),rfl⟩) fun g1 w1 p1 hs b1 cb=>?_));have hfr:=hfr.stp hs;have rp1:=rp1.stp hs;have l9:OSF 2004 60401 1 g1 w1 3 36 ([]:List Int) p1:=cb.osf (by rfl);have n9:OSF 2004 60403 3 g1 w1 3 36 ([]:List Int) p1:=cb.osf (by rfl);clear cb;refine O (Z (M (.int .u8 (UInt8.toNat x0)) (M up1 ?_)));obtain ⟨y3,hy3,h⟩:=Z1 h;refine G (aJ (g:=g1) (vs:=[.int .u8 (UInt8.toNat x0),up1]) en17 (wk17 rp1 hy3) fun g2 w2_ v2 hs hr=>?_);have hfr:=hfr.ext hs;have l9:=l9.ext hs;have n9:=n9.ext hs;have b1:=b1.ext hs;have r2:=hr;have r4:RV g2.m _ (⟨⟨0,[]⟩,y3⟩:Gc) (.agg (Tk [[I 0,.slice none 0 0],[I 0,.slice none 0 0]] [(1,v2)]).flatten.toArray):=Ti rfl (Gs (Gg Zw Tb) (To (RV.cells r2)));generalize mH:(Value.agg (Tk [[I 0,.slice none 0 0],[I 0,.slice none 0 0]] [(1,v2)]).flatten.toArray)=v4 at r4;refine Y v4 (mH▸T3 (vs:=[(1,v2)]) [[I 0,.slice none 0 0],[I 0,.slice none 0 0]] lay_36 rfl rfl (.cons rfl .nil) ⟨⟨_,rfl,Tl r2⟩,trivial⟩) (G (Gu (g:=g2) 2005 (⟨⟨0,[]⟩,⟨0,[]⟩⟩:Gc) zeroValue36 (fun m w=>⟨_,(Gg (Gg Zw Tb) (Gg Zw Tb)),rfl⟩) fun g5 w5 p5 hs b5 cb=>?_));have hfr:=hfr.stp hs;have l9:=l9.stp hs rfl;have n9:=n9.stp hs rfl;have b1:=b1.stp hs rfl;have r4:=r4.stp hs;have pJ:OSF 2005 60501 1 g5 w5 3 36 ([]:List Int) p5:=cb.osf (by rfl);have qJ:OSF 2005 60503 3 g5 w5 3 36 ([]:List Int) p5:=cb.osf (by rfl);clear cb;refine G (Gk (g:=g5) (v:=v4) sizeOf36 rfl b5 rfl r4 fun g6 w6 hs b6 cb=>?_);have rJ:OSF 2005 60501 1 g6 w6 3 36 ([]:List Int) p5:=cb.osf (by rw [← mH];rfl);clear cb;have hfr:=hfr.stp hs;have l9:=l9.stp hs rfl;have n9:=n9.stp hs rfl;have b1:=b1.stp hs rfl;refine O (Z (Y (S p5 2) (aa V5 (OB.ptr b6)) (Y (S p5 2) (Ks (o1:=2) rfl Y9 rfl (OB.ptr b6)) (G (Qd (g:=g6) (Gl.comp W1 Wu rfl).1 isAgg3 sizeOf3 rfl b6 fun v9 r9=>?_)))));obtain rfl:=Zj.1 r9;have nH:RV g6.m w6 (⟨y3.Hooks,[]⟩:TieHarness) (.agg (Tk [[I 0],[.slice none 0 0]] [(0,I y3.Hooks)]).flatten.toArray):=Ti rfl (Gs rfl (To Tb));generalize xE:(Value.agg (Tk [[I 0],[.slice none 0 0]] [(0,I y3.Hooks)]).flatten.toArray)=lI at nH;refine Y lI (xE▸T3 (vs:=[(0,I y3.Hooks)]) [[I 0],[.slice none 0 0]] Mw rfl rfl (.cons rfl .nil) ⟨⟨_,rfl,rfl⟩,trivial⟩) (Y (S p5 0) (aa Ux (OB.ptr b6)) (G (Ij (g:=g6) Wb sizeOf32 rfl b6 rfl nH fun oH mI hs b12 rst hos=>?_)));have gG:OSF 2005 60501 1 oH mI 3 36 ([]:List Int) p5:=hos _ _ 60501 3 ([]:List Int) 1 (.slice none 0 0) (by rw [← xE];rfl) rfl OS.nil;clear rst hos;have hfr:=hfr.stp hs;have l9:=l9.stp hs rfl;have n9:=n9.stp hs rfl;have b1:=b1.stp hs rfl;refine O ?_;obtain ⟨v8,hx,h⟩:=Z1 h;refine Gn (xD gI wI fun e w g=>e 4=p1∧OB 2004 g w 36 ((⟨⟨0,[]⟩,⟨0,[]⟩⟩:Gc):Gc) p1∧OSF 2004 60401 1 g w 3 36 (((⟨⟨0,[]⟩,⟨0,[]⟩⟩:Gc).Harness).Warps) p1∧OSF 2004 60403 3 g w 3 36 (((⟨⟨0,[]⟩,⟨0,[]⟩⟩:Gc).Design).Rows) p1∧e 5=p5∧OB 2005 g w 36 (v8:Gc) p5∧OSF 2005 60501 1 g w 3 36 ((v8.Harness).Warps) p5) (fun Q' hQ=>?_) (fun sJ vK hR=>?_)
 ·replace h:=hx
  clear hx;refine Z (H (I 0) (O (Zr (Qz h (fun (s:Gc × Int)=>xD gI wI fun e w g=>e 4=p1∧OB 2004 g w 36 ((⟨⟨0,[]⟩,⟨0,[]⟩⟩:Gc):Gc) p1∧OSF 2004 60401 1 g w 3 36 (((⟨⟨0,[]⟩,⟨0,[]⟩⟩:Gc).Harness).Warps) p1∧OSF 2004 60403 3 g w 3 36 (((⟨⟨0,[]⟩,⟨0,[]⟩⟩:Gc).Design).Rows) p1∧e 5=p5∧OB 2005 g w 36 (s.1:Gc) p5∧OSF 2005 60501 1 g w 3 36 (((s.1).Harness).Warps) p5∧e 6=I s.2) ⟨oH,hfr,rfl,b1,l9,n9,rfl,b12,gG,rfl⟩ (fun X44 kH tH=>?_)))));rintro ⟨g8,t5⟩ vJ xK ⟨yE,hfr,iE,lE,u4_1_45,u4_3_45,zB,oB,u5_1_45,mE⟩ h;refine Zq h (fun (s:Unit)=>xD gI wI fun e w g=>e 4=p1∧OB 2004 g w 36 ((⟨⟨0,[]⟩,⟨0,[]⟩⟩:Gc):Gc) p1∧OSF 2004 60401 1 g w 3 36 (((⟨⟨0,[]⟩,⟨0,[]⟩⟩:Gc).Harness).Warps) p1∧OSF 2004 60403 3 g w 3 36 (((⟨⟨0,[]⟩,⟨0,[]⟩⟩:Gc).Design).Rows) p1∧e 5=p5∧OB 2005 g w 36 (g8:Gc) p5∧OSF 2005 60501 1 g w 3 36 ((g8.Harness).Warps) p5∧e 6=I t5) (fun X50 lH uH h=>?_) ?_
  ·refine Z (aQ mE (Y (S p5 2) (Zc V5 zB (OB.ptr oB)) (Y (S p5 2) (Ks (o1:=2) rfl Y9 rfl (OB.ptr oB)) (G (Qd (g:=yE) (Gl.comp W1 Wu rfl).1 isAgg3 sizeOf3 rfl oB fun yK nI=>?_)))))
   obtain rfl:=Zj.1 nI;refine aT (.bool (decide (t5<(g8.Design).Hooks))) rfl rfl rfl (O ?_);rcases Zt h with ⟨aE,h⟩ | ⟨aE,h⟩
   ·refine Gz aE rfl ?_
    exact Zu (Zd (uH () _ _ ⟨yE,hfr,iE,lE,u4_1_45,u4_3_45,zB,oB,u5_1_45,mE⟩ h))
   ·refine G0 aE rfl (Th (Gr (Gr (G2 ?_))))
    cases h;exact hQ _ _ ⟨yE,hfr,iE,lE,u4_1_45,u4_3_45,zB,oB,u5_1_45⟩
  ·rintro _ xJ zK ⟨pH,hfr,iG,aB,u4_1_55,u4_3_55,cC,i6,u5_1_55,oE⟩ h
   obtain ⟨mB,hx,h⟩:=Z1 h;refine Gn (xD gI wI fun e w g=>e 4=p1∧OB 2004 g w 36 ((⟨⟨0,[]⟩,⟨0,[]⟩⟩:Gc):Gc) p1∧OSF 2004 60401 1 g w 3 36 (((⟨⟨0,[]⟩,⟨0,[]⟩⟩:Gc).Harness).Warps) p1∧OSF 2004 60403 3 g w 3 36 (((⟨⟨0,[]⟩,⟨0,[]⟩⟩:Gc).Design).Rows) p1∧e 5=p5∧OB 2005 g w 36 (mB:Gc) p5∧OSF 2005 60501 1 g w 3 36 ((mB.Harness).Warps) p5∧e 6=I t5) (fun Q' hQ=>?_) (fun zJ aL hR=>?_)
   ·replace h:=hx
    clear hx;refine Zr (Za (Y (S p5 0) (Zc Ux cC (OB.ptr i6)) (Y (S p5 1) (Ks (o1:=0) rfl H0 rfl (OB.ptr i6)) (G (Ut (g:=pH) (Gl.comp Wb Qb rfl).1 isAgg25 sizeOf25 rfl i6 u5_1_55 fun bL zE o68=>(aQ oE (G (Gd (g:=pH) 3028 (xs:=([t5]:List Int)) (vs:=[I t5]) underlying25 sizeOf3 zeroValue3 rfl rfl (.cons rfl .nil) (RVs.cons (Zj.2 rfl) RVs.nil) rfl rfl fun pI dL eL hs o69 qI hxt hfl=>?_))))))));have hfr:=hfr.stp hs;have u4_1_55:=u4_1_55.stp hs rfl;have u4_3_55:=u4_3_55.stp hs rfl;have aB:=aB.stp hs rfl;have i6:=i6.stp hs rfl;have zE:=zE.stp hs;have o68:=o68.stp hs rfl;obtain ⟨y71,xH,h⟩:=Z1 h;refine G (Qe (g:=pI) (i:=60501) underlying25 Jf rfl rfl o68 zE rfl qI xH fun sI gL iL hs o70 qH _=>?_);have hfr:=hfr.stp hs;have u4_1_55:=u4_1_55.stp hs rfl;have u4_3_55:=u4_3_55.stp hs rfl;have aB:=aB.stp hs rfl;have i6:=i6.stp hs rfl;refine Y (S p5 0) (Zc Ux cC (OB.ptr i6)) (Y (S p5 1) (Ks (o1:=0) rfl H0 rfl (OB.ptr i6)) (G (Wc (g:=sI) (Gl.comp Wb Qb rfl) sizeOf25 rfl i6 rfl qH fun jJ jL hs b74 rst hos=>?_)));have jG:=hos _ _ 60501 3 (y71:List Int) (Kn qH) rfl o70;clear rst hos;have hfr:=hfr.stp hs;have u4_1_55:=u4_1_55.stp hs rfl;have u4_3_55:=u4_3_55.stp hs rfl;have aB:=aB.stp hs rfl;refine Zb (Te ?_);cases h;exact hQ _ _ ⟨jJ,hfr,iG,aB,u4_1_55,u4_3_55,cC,b74,jG,oE⟩
   ·clear hx
    obtain ⟨kJ,hfr,kG,lG,u4_1_75,u4_3_75,mG,sG,u5_1_75,xG⟩:=hR;refine Za (aQ xG (aT (I (w64 (t5+(1:Int)))) rfl rfl rfl (H (I (w64 (t5+(1:Int)))) ?_)));exact O (tH (mB,(w64 (t5+(1:Int)))) _ _ ⟨kJ,hfr,kG,lG,u4_1_75,u4_3_75,mG,sG,u5_1_75,rfl⟩ h)
 ·clear hx
  obtain ⟨sH,hfr,yG,zG,u4_1_76,u4_3_76,rE,vB,u5_1_76⟩:=hR;obtain ⟨nB,hx,h⟩:=Z1 h;refine Gn (xD gI wI fun e w g=>e 4=p1∧OB 2004 g w 36 ((⟨⟨0,[]⟩,⟨0,[]⟩⟩:Gc):Gc) p1∧OSF 2004 60401 1 g w 3 36 (((⟨⟨0,[]⟩,⟨0,[]⟩⟩:Gc).Harness).Warps) p1∧OSF 2004 60403 3 g w 3 36 (((⟨⟨0,[]⟩,⟨0,[]⟩⟩:Gc).Design).Rows) p1∧e 5=p5∧OB 2005 g w 36 (nB:Gc) p5∧OSF 2005 60501 1 g w 3 36 ((nB.Harness).Warps) p5) (fun Q' hQ=>?_) (fun lJ aK hR=>?_)
  ·replace h:=hx
   clear hx;refine Z (Y (S p5 2) (Zc V5 rE (OB.ptr vB)) (Y (S p5 2) (Ks (o1:=2) rfl Y9 rfl (OB.ptr vB)) (G (Qd (g:=sH) (Gl.comp W1 Wu rfl).1 isAgg3 sizeOf3 rfl vB fun bK yH=>?_))));obtain rfl:=Zj.1 yH;refine aT (I (w64 ((v8.Design).Hooks-(2:Int)))) rfl rfl rfl (H (I (w64 ((v8.Design).Hooks-(2:Int)))) (O (Zr (Qz h (fun (s:Gc × Int)=>xD gI wI fun e w g=>e 4=p1∧OB 2004 g w 36 ((⟨⟨0,[]⟩,⟨0,[]⟩⟩:Gc):Gc) p1∧OSF 2004 60401 1 g w 3 36 (((⟨⟨0,[]⟩,⟨0,[]⟩⟩:Gc).Harness).Warps) p1∧OSF 2004 60403 3 g w 3 36 (((⟨⟨0,[]⟩,⟨0,[]⟩⟩:Gc).Design).Rows) p1∧e 5=p5∧OB 2005 g w 36 (s.1:Gc) p5∧OSF 2005 60501 1 g w 3 36 (((s.1).Harness).Warps) p5∧e 7=I s.2) ⟨sH,hfr,yG,zG,u4_1_76,u4_3_76,rE,vB,u5_1_76,rfl⟩ (fun X108 uE aH=>?_)))));rintro ⟨l8,o0⟩ mJ cK ⟨cF,hfr,vC,bD,u4_1_109,u4_3_109,cD,lD,u5_1_109,nD⟩ h;refine Zq h (fun (s:Unit)=>xD gI wI fun e w g=>e 4=p1∧OB 2004 g w 36 ((⟨⟨0,[]⟩,⟨0,[]⟩⟩:Gc):Gc) p1∧OSF 2004 60401 1 g w 3 36 (((⟨⟨0,[]⟩,⟨0,[]⟩⟩:Gc).Harness).Warps) p1∧OSF 2004 60403 3 g w 3 36 (((⟨⟨0,[]⟩,⟨0,[]⟩⟩:Gc).Design).Rows) p1∧e 5=p5∧OB 2005 g w 36 (l8:Gc) p5∧OSF 2005 60501 1 g w 3 36 ((l8.Harness).Warps) p5∧e 7=I o0) (fun X111 vE cH h=>?_) ?_
   ·refine Z (aQ nD (aT (.bool (decide (o0>(0:Int)))) rfl rfl rfl (O ?_)))
    rcases Zt h with ⟨uC,h⟩ | ⟨uC,h⟩
    ·refine Gz uC rfl ?_
     exact Zu (Zd (cH () _ _ ⟨cF,hfr,vC,bD,u4_1_109,u4_3_109,cD,lD,u5_1_109,nD⟩ h))
    ·refine G0 uC rfl (Th (Gr (Gr (G2 ?_))))
     cases h;exact hQ _ _ ⟨cF,hfr,vC,bD,u4_1_109,u4_3_109,cD,lD,u5_1_109⟩
   ·rintro _ nJ dK ⟨dF,hfr,eF,n8,u4_1_113,u4_3_113,yB,l5,u5_1_113,oD⟩ h
    obtain ⟨lB,hx,h⟩:=Z1 h;refine Gn (xD gI wI fun e w g=>e 4=p1∧OB 2004 g w 36 ((⟨⟨0,[]⟩,⟨0,[]⟩⟩:Gc):Gc) p1∧OSF 2004 60401 1 g w 3 36 (((⟨⟨0,[]⟩,⟨0,[]⟩⟩:Gc).Harness).Warps) p1∧OSF 2004 60403 3 g w 3 36 (((⟨⟨0,[]⟩,⟨0,[]⟩⟩:Gc).Design).Rows) p1∧e 5=p5∧OB 2005 g w 36 (lB:Gc) p5∧OSF 2005 60501 1 g w 3 36 ((lB.Harness).Warps) p5∧e 7=I o0) (fun Q' hQ=>?_) (fun oJ lK hR=>?_)
    ·replace h:=hx
     clear hx;refine Zr (Za (Y (S p5 0) (Zc Ux yB (OB.ptr l5)) (Y (S p5 1) (Ks (o1:=0) rfl H0 rfl (OB.ptr l5)) (G (Ut (g:=dF) (Gl.comp Wb Qb rfl).1 isAgg25 sizeOf25 rfl l5 u5_1_113 fun mK bE o125=>(aQ oD (G (Gd (g:=dF) 3044 (xs:=([o0]:List Int)) (vs:=[I o0]) underlying25 sizeOf3 zeroValue3 rfl rfl (.cons rfl .nil) (RVs.cons (Zj.2 rfl) RVs.nil) rfl rfl fun zH nK oK hs o126 aI hxt hfl=>?_))))))));have hfr:=hfr.stp hs;have u4_1_113:=u4_1_113.stp hs rfl;have u4_3_113:=u4_3_113.stp hs rfl;have n8:=n8.stp hs rfl;have l5:=l5.stp hs rfl;have bE:=bE.stp hs;have o125:=o125.stp hs rfl;obtain ⟨zD,gH,h⟩:=Z1 h;refine G (Qe (g:=zH) (i:=60501) underlying25 Jf rfl rfl o125 bE rfl aI gH fun bI pK qK hs o127 rF _=>?_);have hfr:=hfr.stp hs;have u4_1_113:=u4_1_113.stp hs rfl;have u4_3_113:=u4_3_113.stp hs rfl;have n8:=n8.stp hs rfl;have l5:=l5.stp hs rfl;refine Y (S p5 0) (Zc Ux yB (OB.ptr l5)) (Y (S p5 1) (Ks (o1:=0) rfl H0 rfl (OB.ptr l5)) (G (Wc (g:=bI) (Gl.comp Wb Qb rfl) sizeOf25 rfl l5 rfl rF fun dI sK hs b131 rst hos=>?_)));have sF:=hos _ _ 60501 3 (zD:List Int) (Kn rF) rfl o127;clear rst hos;have hfr:=hfr.stp hs;have u4_1_113:=u4_1_113.stp hs rfl;have u4_3_113:=u4_3_113.stp hs rfl;have n8:=n8.stp hs rfl;refine Zb (Te ?_);cases h;exact hQ _ _ ⟨dI,hfr,eF,n8,u4_1_113,u4_3_113,yB,b131,sF,oD⟩
    ·clear hx
     obtain ⟨iI,hfr,tF,uF,u4_1_132,u4_3_132,vF,xF,u5_1_132,yF⟩:=hR;refine Za (aQ yF (aT (I (w64 (o0-(1:Int)))) rfl rfl rfl (H (I (w64 (o0-(1:Int)))) ?_)));exact O (aH (lB,(w64 (o0-(1:Int)))) _ _ ⟨iI,hfr,tF,uF,u4_1_132,u4_3_132,vF,xF,u5_1_132,rfl⟩ h)
  ·clear hx
   obtain ⟨aG,hfr,yD,bG,u4_1_133,u4_3_133,cG,eG,u5_1_133⟩:=hR;refine Z (G (Tr (g:=aG) isAgg36 sizeOf36 cG eG fun jI kI=>(G (Gk (g:=aG) (v:=jI) sizeOf36 yD bG rfl kI fun tK uK hs b135 cb=>?_))));clear cb;have hfr:=hfr.stp hs;refine O (Gb ?_);obtain rfl:=sinj h;obtain ⟨ad136,cv136,hp136,jH,cr136⟩:=Qh isAgg36 sizeOf36 b135;exact Bq rfl rfl ((show _=p1 from yD).trans hp136) jH ⟨_,hfr,cr136⟩
def f14 (x0:Gc):Option Tn:=
 Option.bind (α:=ChainBelt) (
  lp (σ:=ChainBelt × Int) (fun aI (lB,o0)=>
   jn (σ:=Unit) (fun _=>
    Option.bind (α:=ChainBelt) (
     (idx ((x0.Design).Rows) o0).bind fun y130=>
     (apnd 24 lB.Cards ([(⟨o0,y130,false⟩:Gi)]:List Gi)).bind fun aE=>
     some ({lB with Cards:=aE})
     ) fun n9=>
    aI (n9,(w64 (o0+(1:Int))))
    ) fun bI=>
   bif (decide (o0<(((x0.Design).Rows).length:Int))) then
    bI ()
   else
    some lB
   ) big ((⟨(x0.Design).Hooks,[]⟩:ChainBelt),(0:Int))
  ) fun t5=>
 (f38 ((x0.Harness).Warps)).bind fun l5=>
 some (⟨([(⟨(⟨[108,105,108,121]⟩:Str),(⟨(x0.Harness).Hooks,l5⟩:TieHarness)⟩:Gx)]:List Gx),([(⟨(⟨[114,111,115,101]⟩:Str),t5⟩:Gm)]:List Gm)⟩:Tn)
theorem en14:Enters prog 14:=yC func14
theorem wk14 {x0:Gc} (rp0:RV gI.m wI x0 up0) {r:Tn} (h:f14 x0=some r):Fn prog 14 #[up0] gI wI (fun m w v=>RV m w r v):=by
 unfold f14 at h;refine fnE func14 rfl rfl fun g0 hm hfr=>?_;have rp0:=RVc hm rp0;refine Z (G (Tw (g:=g0) rfl rp0 fun g1 w1 p1 hs q1=>?_));have hfr:=hfr.ext hs;refine G (Gu (g:=g1) 2002 (⟨[],[]⟩:Tn) zeroValue72 (fun m w=>⟨_,(Gg Tb Tb),rfl⟩) fun g2 w2 p2 hs b2 cb=>?_);have hfr:=hfr.stp hs;have q1:=q1.stp hs;have zB:OSF 2002 60200 0 g2 w2 121 72 ([]:List Gx) p2:=cb.osf (by rfl);have cC:OSF 2002 60201 1 g2 w2 123 72 ([]:List Gm) p2:=cb.osf (by rfl);clear cb;refine O (Z (Y (S p1 2) (aa V5 (PT.ptr q1)) ?_));have q3:=Zm W1.1 q1;refine Y (S (S p1 2) 0) (aa Y9 (PT.ptr q3)) ?_;have q4:=Zm Wu.1 q3;refine G (Ga (g:=g2) isAgg3 sizeOf3 rfl q4 fun v5 r5=>?_);obtain rfl:=Zj.1 r5;have r6:RV g2.m w2 (⟨(x0.Design).Hooks,[]⟩:ChainBelt) (.agg (Tk [[I 0],[.slice none 0 0]] [(0,I ((x0.Design).Hooks))]).flatten.toArray):=Ti rfl (Gs rfl (To Tb));generalize dI:(Value.agg (Tk [[I 0],[.slice none 0 0]] [(0,I ((x0.Design).Hooks))]).flatten.toArray)=v6 at r6;refine Y v6 (dI▸T3 (vs:=[(0,I ((x0.Design).Hooks))]) [[I 0],[.slice none 0 0]] Oc rfl rfl (.cons rfl .nil) ⟨⟨_,rfl,rfl⟩,trivial⟩) (G (Gu (g:=g2) 2003 (⟨0,[]⟩:ChainBelt) zeroValue116 (fun m w=>⟨_,(Gg Zw Tb),rfl⟩) fun g7 w7 p7 hs b7 cb=>?_));have hfr:=hfr.stp hs;have q1:=q1.stp hs;have zB:=zB.stp hs rfl;have cC:=cC.stp hs rfl;have b2:=b2.stp hs rfl;have r6:=r6.stp hs;have nK:OSF 2003 60301 1 g7 w7 118 116 ([]:List Gi) p7:=cb.osf (by rfl);clear cb;refine G (Gk (g:=g7) (v:=v6) sizeOf116 rfl b7 rfl r6 fun g8 w8 hs b8 cb=>?_);have kI:OSF 2003 60301 1 g8 w8 118 116 ([]:List Gi) p7:=cb.osf (by rw [← dI];rfl);clear cb;have hfr:=hfr.stp hs;have q1:=q1.stp hs;have zB:=zB.stp hs rfl;have cC:=cC.stp hs rfl;have b2:=b2.stp hs rfl;refine O ?_;obtain ⟨t5,hx,h⟩:=Z1 h;refine Gn (xD gI wI fun e w g=>e 1=p1∧PT g.m w (x0:Gc) p1∧e 2=p2∧OB 2002 g w 72 ((⟨[],[]⟩:Tn):Tn) p2∧OSF 2002 60200 0 g w 121 72 ((⟨[],[]⟩:Tn).Ties) p2∧OSF 2002 60201 1 g w 123 72 ((⟨[],[]⟩:Tn).Chains) p2∧e 3=p7∧OB 2003 g w 116 (t5:ChainBelt) p7∧OSF 2003 60301 1 g w 118 116 t5.Cards p7) (fun Q' hQ=>?_) (fun lK oK hR=>?_)
 ·replace h:=hx
  clear hx;refine Z (H (I 0) (O (Zr (Qz h (fun (s:ChainBelt × Int)=>xD gI wI fun e w g=>e 1=p1∧PT g.m w (x0:Gc) p1∧e 2=p2∧OB 2002 g w 72 ((⟨[],[]⟩:Tn):Tn) p2∧OSF 2002 60200 0 g w 121 72 ((⟨[],[]⟩:Tn).Ties) p2∧OSF 2002 60201 1 g w 123 72 ((⟨[],[]⟩:Tn).Chains) p2∧e 3=p7∧OB 2003 g w 116 (s.1:ChainBelt) p7∧OSF 2003 60301 1 g w 118 116 ((s.1).Cards) p7∧e 4=I s.2) ⟨g8,hfr,rfl,q1,rfl,b2,zB,cC,rfl,b8,kI,rfl⟩ (fun X83 aI lI=>?_)))));rintro ⟨lB,o0⟩ pK gL ⟨dF,hfr,vC,yB,oE,rE,u2_0_84,u2_1_84,uE,vE,u3_1_84,xE⟩ h;refine Zq h (fun (s:Unit)=>xD gI wI fun e w g=>e 1=p1∧PT g.m w (x0:Gc) p1∧e 2=p2∧OB 2002 g w 72 ((⟨[],[]⟩:Tn):Tn) p2∧OSF 2002 60200 0 g w 121 72 ((⟨[],[]⟩:Tn).Ties) p2∧OSF 2002 60201 1 g w 123 72 ((⟨[],[]⟩:Tn).Chains) p2∧e 3=p7∧OB 2003 g w 116 (lB:ChainBelt) p7∧OSF 2003 60301 1 g w 118 116 lB.Cards p7∧e 4=I o0) (fun X89 bI mI h=>?_) ?_
  ·refine Z (aQ xE (Y (S p1 2) (Zc V5 vC (PT.ptr yB)) ?_))
   have iI:=Zm W1.1 yB;refine Y (S (S p1 2) 1) (aa Yy (PT.ptr iI)) ?_;have aK:=Zm Wy.1 iI;refine G (Ga (g:=dF) isAgg25 sizeOf25 rfl aK fun iL bK=>(Y (I (((x0.Design).Rows).length:Int)) (G7 underlying25 rfl bK) (Y (.bool (decide (o0<(((x0.Design).Rows).length:Int)))) (Gp rfl rfl rfl) (O ?_))));rcases Zt h with ⟨bE,h⟩ | ⟨bE,h⟩
   ·refine Gz bE rfl ?_
    exact Zu (Zd (mI () _ _ ⟨dF,hfr,vC,yB,oE,rE,u2_0_84,u2_1_84,uE,vE,u3_1_84,xE⟩ h))
   ·refine G0 bE rfl (Th (Gr (Gr (G2 ?_))))
    cases h;exact hQ _ _ ⟨dF,hfr,vC,yB,oE,rE,u2_0_84,u2_1_84,uE,vE,u3_1_84⟩
  ·rintro _ qK cK ⟨jI,hfr,yE,i6,lH,n8,u2_0_94,u2_1_94,bD,l8,u3_1_94,cD⟩ h
   obtain ⟨n9,hx,h⟩:=Z1 h;refine Gn (xD gI wI fun e w g=>e 1=p1∧PT g.m w (x0:Gc) p1∧e 2=p2∧OB 2002 g w 72 ((⟨[],[]⟩:Tn):Tn) p2∧OSF 2002 60200 0 g w 121 72 ((⟨[],[]⟩:Tn).Ties) p2∧OSF 2002 60201 1 g w 123 72 ((⟨[],[]⟩:Tn).Chains) p2∧e 3=p7∧OB 2003 g w 116 (n9:ChainBelt) p7∧OSF 2003 60301 1 g w 118 116 n9.Cards p7∧e 4=I o0) (fun Q' hQ=>?_) (fun mK sK hR=>?_)
   ·replace h:=hx
    clear hx;refine Zr (A9 (x:=.tmp 17) Qu.1 isAgg114 sizeOf114 l8 u3_1_94 fun nI iE o126 mH=>?_);have eF:=Zm W1.1 i6;have pI:=Zm Wy.1 eF;refine Zs (x:=.tmp 21) isAgg25 sizeOf25 pI fun rF sF nH=>?_;obtain ⟨y130,zE,h⟩:=Z1 h;have qI:=G1 sF zE;refine Zs (x:=.tmp 24) isAgg3 sizeOf3 qI fun tK sI oH=>?_;obtain rfl:=Zj.1 sI;have tF:RV jI.m cK (⟨o0,y130,false⟩:Gi) (.agg (Tk [[I 0],[I 0],[.bool false]] [(0,I o0),(1,I y130)]).flatten.toArray):=Ti rfl (Gs rfl (Gs rfl (To Bd)));generalize pH:(Value.agg (Tk [[I 0],[I 0],[.bool false]] [(0,I o0),(1,I y130)]).flatten.toArray)=uF at tF;refine ab (g:=jI) (n:=11) [(10,(fun v g w=>RV g.m w ([(⟨o0,y130,false⟩:Gi)]:List Gi) v∧OS 3027 g w 118 ([(⟨o0,y130,false⟩:Gi)]:List Gi) v∧Kx v))] [0,1,2,3,4,5,6,7,8,9,10] mixed (⟨fun _=>Jq Hm (Jq A1 (Ww _)),trivial⟩) (V (S p7 1) rfl (Zc H5 bD (OB.ptr l8)) (G3 (c:=nI) rfl rfl .plain xB mH rfl (V (I o0) rfl (Zk cD) (V (S p1 2) rfl (Zc V5 yE (PT.ptr i6)) (V (S (S p1 2) 1) rfl (aa Yy (PT.ptr eF)) (G3 (c:=rF) rfl rfl .plain xC nH rfl (V (I o0) rfl (Zk cD) (V (Gy rF o0 1) rfl (Zh (α:=Int) underlying25 sizeOf3 rfl sF rfl zE) (G3 (c:=I y130) rfl rfl .plain xC oH rfl (V uF rfl (pH▸T3 (vs:=[(0,I o0),(1,I y130)]) [[I 0],[I 0],[.bool false]] L3 rfl rfl (.cons rfl (.cons rfl .nil)) ⟨⟨_,rfl,rfl⟩,⟨⟨_,rfl,rfl⟩,trivial⟩⟩) (Wd (φ:=fun v g w=>RV g.m w ([(⟨o0,y130,false⟩:Gi)]:List Gi) v∧OS 3027 g w 118 ([(⟨o0,y130,false⟩:Gi)]:List Gi) v∧Kx v) rfl rfl .plain (fun g w hd=>Gd (g:=g) 3027 (xs:=([(⟨o0,y130,false⟩:Gi)]:List Gi)) (vs:=[uF]) underlying114 sizeOf118 zeroValue118 rfl rfl (.cons rfl .nil) (RVs.cons (tF.ext hd.1) RVs.nil) rfl rfl fun g' w' v hs o r hxt hfl=>⟨g',hxt,r,o,hfl⟩) (fun vB hv=>?_))))))))))));clear hv;refine Jx fun jJ uK hall=>?_;have hs:=hall.1;have hfr:=hfr.ext hs;have i6:=i6.ext hs;have u2_0_94:=u2_0_94.ext hs;have u2_1_94:=u2_1_94.ext hs;have n8:=n8.ext hs;have l8:=l8.ext hs;have iE:=iE.ext hs;have o126:=o126.ext hs;have kJ:=(Ts (A:=fun g w=>RV g.m w ([(⟨o0,y130,false⟩:Gi)]:List Gi) vB∧OS 3027 g w 118 ([(⟨o0,y130,false⟩:Gi)]:List Gi) vB∧Kx vB) 10 rfl hall).1;have o150:=(Ts (A:=fun g w=>RV g.m w ([(⟨o0,y130,false⟩:Gi)]:List Gi) vB∧OS 3027 g w 118 ([(⟨o0,y130,false⟩:Gi)]:List Gi) vB∧Kx vB) 10 rfl hall).2.1;clear hs hall;obtain ⟨aE,qH,h⟩:=Z1 h;refine G (Qe (g:=jJ) (i:=60301) underlying114 E4 rfl rfl o126 iE rfl kJ qH fun lJ vK xK hs o151 vF _=>?_);have hfr:=hfr.stp hs;have i6:=i6.stp hs;have u2_0_94:=u2_0_94.stp hs rfl;have u2_1_94:=u2_1_94.stp hs rfl;have n8:=n8.stp hs rfl;have l8:=l8.stp hs rfl;refine Y (S p7 1) (Zc H5 bD (OB.ptr l8)) (G (Wc (g:=lJ) Qu sizeOf114 rfl l8 rfl vF fun mJ yK hs b154 rst hos=>?_));have xF:=hos _ _ 60301 118 (aE:List Gi) (Kn vF) rfl o151;clear rst hos;have hfr:=hfr.stp hs;have i6:=i6.stp hs;have u2_0_94:=u2_0_94.stp hs rfl;have u2_1_94:=u2_1_94.stp hs rfl;have n8:=n8.stp hs rfl;refine Zb (Te ?_);cases h;exact hQ _ _ ⟨mJ,hfr,yE,i6,lH,n8,u2_0_94,u2_1_94,bD,b154,xF,cD⟩
   ·clear hx
    obtain ⟨nJ,hfr,yF,aG,bG,cG,u2_0_155,u2_1_155,eG,gG,u3_1_155,iG⟩:=hR;refine Za (aQ iG (aT (I (w64 (o0+(1:Int)))) rfl rfl rfl (H (I (w64 (o0+(1:Int)))) ?_)));exact O (lI (n9,(w64 (o0+(1:Int)))) _ _ ⟨nJ,hfr,yF,aG,bG,cG,u2_0_155,u2_1_155,eG,gG,u3_1_155,rfl⟩ h)
 ·clear hx
  obtain ⟨jG,hfr,yD,nB,zD,uC,u2_0_156,u2_1_156,kG,lG,u3_1_156⟩:=hR;refine Zf ?_;have mG:=Zm Wb.1 nB;have oJ:=Zm Wj.1 mG;refine Zs (x:=.tmp 31) isAgg3 sizeOf3 oJ fun zK pJ sH=>?_;obtain rfl:=Zj.1 pJ;have sG:=Zm Wb.1 nB;have qJ:=Zm Qb.1 sG;refine Zs (x:=.tmp 34) isAgg25 sizeOf25 qJ fun xG rJ tH=>?_;obtain ⟨l5,uH,h⟩:=Z1 h;refine Qy (x:=.tmp 3) isAgg116 sizeOf116 lG fun lD yG xH=>?_;have zG:RV jG.m _ (⟨(⟨[114,111,115,101]⟩:Str),t5⟩:Gm) (.agg (Tk [[Str.v ⟨[]⟩],[I 0,.slice none 0 0]] [(0,Str.v (⟨[114,111,115,101]⟩:Str)),(1,lD)]).flatten.toArray):=Ti rfl (Gs rfl (To (RV.cells yG)));generalize yH:(Value.agg (Tk [[Str.v ⟨[]⟩],[I 0,.slice none 0 0]] [(0,Str.v (⟨[114,111,115,101]⟩:Str)),(1,lD)]).flatten.toArray)=aH at zG;refine ab (g:=jG) (n:=13) [(6,(fun v g w=>RV g.m w l5 v)),(9,(fun v g w=>RV g.m w ([(⟨(⟨[108,105,108,121]⟩:Str),(⟨(x0.Harness).Hooks,l5⟩:TieHarness)⟩:Gx)]:List Gx) v∧OS 3039 g w 121 ([(⟨(⟨[108,105,108,121]⟩:Str),(⟨(x0.Harness).Hooks,l5⟩:TieHarness)⟩:Gx)]:List Gx) v∧Kx v)),(12,(fun v g w=>RV g.m w ([(⟨(⟨[114,111,115,101]⟩:Str),t5⟩:Gm)]:List Gm) v∧OS 3042 g w 123 ([(⟨(⟨[114,111,115,101]⟩:Str),t5⟩:Gm)]:List Gm) v∧Kx v))] [0,1,2,3,4,5,6,7,8,9,10,11,12] mixed (⟨fun _=>Hm,fun _=>Jq Hm (Jq A1 (Ww _)),fun _=>Jq Hm (Jq A1 (Ww _)),trivial⟩) (V (S p1 0) rfl (Zc Ux yD (PT.ptr nB)) (V (S (S p1 0) 0) rfl (aa Xc (PT.ptr mG)) (G3 (c:=I ((x0.Harness).Hooks)) rfl rfl .plain xC sH rfl (V (S p1 0) rfl (Zc Ux yD (PT.ptr nB)) (V (S (S p1 0) 1) rfl (aa H0 (PT.ptr sG)) (G3 (c:=xG) rfl rfl .plain xC tH rfl (Wd (φ:=fun v g w=>RV g.m w l5 v) rfl rfl .plain (fun g w hd=>aJ (g:=g) (vs:=[xG]) en38 (wk38 (rJ.ext hd.1) uH) fun g' w' v hs hr=>⟨g',hs,hr⟩) (fun aB hv=>?_))))))));obtain ⟨_,_,_,rq163⟩:=hv;apply Exists.elim (show ∃ v,v=(Value.agg (Tk [[I 0],[.slice none 0 0]] [(0,I ((x0.Harness).Hooks)),(1,aB)]).flatten.toArray) from ⟨_,rfl⟩);intro mB oB;refine J8 (c:=mB) rfl rfl .plain (fun _ _ hd=>oB▸T3 (vs:=[(0,I ((x0.Harness).Hooks)),(1,aB)]) [[I 0],[.slice none 0 0]] Mw rfl rfl (.cons rfl (.cons rfl .nil)) ⟨⟨_,rfl,rfl⟩,⟨⟨_,rfl,Tl (Yv (A:=fun g w=>RV g.m w l5 aB) 6 rfl rfl (Q9 hd))⟩,trivial⟩⟩) ?_;apply Exists.elim (show ∃ v,v=(Value.agg (Tk [[Str.v ⟨[]⟩],[I 0,.slice none 0 0]] [(0,Str.v (⟨[108,105,108,121]⟩:Str)),(1,mB)]).flatten.toArray) from ⟨_,rfl⟩);intro nD oD;refine J8 (c:=nD) rfl rfl .plain (fun _ _ hd=>oD▸T3 (vs:=[(0,Str.v (⟨[108,105,108,121]⟩:Str)),(1,mB)]) [[Str.v ⟨[]⟩],[I 0,.slice none 0 0]] Oo rfl rfl (.cons rfl (.cons rfl .nil)) ⟨⟨_,rfl,rfl⟩,⟨⟨_,rfl,Tl (show RV _ _ (⟨(x0.Harness).Hooks,l5⟩:TieHarness) mB from oB▸Ti rfl (Gs rfl (To (RV.cells (Yv (A:=fun g w=>RV g.m w l5 aB) 6 rfl rfl (hop 7 rfl rfl (Q9 hd)))))))⟩,trivial⟩⟩) (Wd (φ:=fun v g w=>RV g.m w ([(⟨(⟨[108,105,108,121]⟩:Str),(⟨(x0.Harness).Hooks,l5⟩:TieHarness)⟩:Gx)]:List Gx) v∧OS 3039 g w 121 ([(⟨(⟨[108,105,108,121]⟩:Str),(⟨(x0.Harness).Hooks,l5⟩:TieHarness)⟩:Gx)]:List Gx) v∧Kx v) rfl rfl .plain (fun g w hd=>Gd (g:=g) 3039 (xs:=([(⟨(⟨[108,105,108,121]⟩:Str),(⟨(x0.Harness).Hooks,l5⟩:TieHarness)⟩:Gx)]:List Gx)) (vs:=[nD]) underlying69 sizeOf121 zeroValue121 rfl rfl (.cons rfl .nil) (RVs.cons (show RV _ _ (⟨(⟨[108,105,108,121]⟩:Str),(⟨(x0.Harness).Hooks,l5⟩:TieHarness)⟩:Gx) nD from oD▸Ti rfl (Gs rfl (To (RV.cells (show RV _ _ (⟨(x0.Harness).Hooks,l5⟩:TieHarness) mB from oB▸Ti rfl (Gs rfl (To (RV.cells (Yv (A:=fun g w=>RV g.m w l5 aB) 6 rfl rfl (hop 7 rfl rfl (hop 8 rfl rfl (Q9 hd)))))))))))) RVs.nil) rfl rfl fun g' w' v hs o r hxt hfl=>⟨g',hxt,r,o,hfl⟩) (fun v8 hv=>?_));clear hv;refine G3 (c:=lD) rfl rfl .plain xB xH kG (V aH rfl (yH▸T3 (vs:=[(0,Str.v (⟨[114,111,115,101]⟩:Str)),(1,lD)]) [[Str.v ⟨[]⟩],[I 0,.slice none 0 0]] Og rfl rfl (.cons rfl (.cons rfl .nil)) ⟨⟨_,rfl,rfl⟩,⟨⟨_,rfl,Tl yG⟩,trivial⟩⟩) (Wd (φ:=fun v g w=>RV g.m w ([(⟨(⟨[114,111,115,101]⟩:Str),t5⟩:Gm)]:List Gm) v∧OS 3042 g w 123 ([(⟨(⟨[114,111,115,101]⟩:Str),t5⟩:Gm)]:List Gm) v∧Kx v) rfl rfl .plain (fun g w hd=>Gd (g:=g) 3042 (xs:=([(⟨(⟨[114,111,115,101]⟩:Str),t5⟩:Gm)]:List Gm)) (vs:=[aH]) underlying70 sizeOf123 zeroValue123 rfl rfl (.cons rfl .nil) (RVs.cons (zG.ext hd.1) RVs.nil) rfl rfl fun g' w' v hs o r hxt hfl=>⟨g',hxt,r,o,hfl⟩) (fun l9 hv=>?_)))
  clear hv;refine Jx fun cH aL hall=>?_;have hs:=hall.1;have hfr:=hfr.ext hs;have uC:=uC.ext hs;have bL:=(Ts (A:=fun g w=>RV g.m w l5 aB) 6 rfl hall);have dL:=(show RV _ _ (⟨(x0.Harness).Hooks,l5⟩:TieHarness) mB from oB▸Ti rfl (Gs rfl (To (RV.cells (Ts (A:=fun g w=>RV g.m w l5 aB) 6 rfl hall)))));have eL:=(show RV _ _ (⟨(⟨[108,105,108,121]⟩:Str),(⟨(x0.Harness).Hooks,l5⟩:TieHarness)⟩:Gx) nD from oD▸Ti rfl (Gs rfl (To (RV.cells (show RV _ _ (⟨(x0.Harness).Hooks,l5⟩:TieHarness) mB from oB▸Ti rfl (Gs rfl (To (RV.cells (Ts (A:=fun g w=>RV g.m w l5 aB) 6 rfl hall)))))))));have lE:=(Ts (A:=fun g w=>RV g.m w ([(⟨(⟨[108,105,108,121]⟩:Str),(⟨(x0.Harness).Hooks,l5⟩:TieHarness)⟩:Gx)]:List Gx) v8∧OS 3039 g w 121 ([(⟨(⟨[108,105,108,121]⟩:Str),(⟨(x0.Harness).Hooks,l5⟩:TieHarness)⟩:Gx)]:List Gx) v8∧Kx v8) 9 rfl hall).1;have o184:=(Ts (A:=fun g w=>RV g.m w ([(⟨(⟨[108,105,108,121]⟩:Str),(⟨(x0.Harness).Hooks,l5⟩:TieHarness)⟩:Gx)]:List Gx) v8∧OS 3039 g w 121 ([(⟨(⟨[108,105,108,121]⟩:Str),(⟨(x0.Harness).Hooks,l5⟩:TieHarness)⟩:Gx)]:List Gx) v8∧Kx v8) 9 rfl hall).2.1;have gH:=(Ts (A:=fun g w=>RV g.m w ([(⟨(⟨[114,111,115,101]⟩:Str),t5⟩:Gm)]:List Gm) l9∧OS 3042 g w 123 ([(⟨(⟨[114,111,115,101]⟩:Str),t5⟩:Gm)]:List Gm) l9∧Kx l9) 12 rfl hall).1;have o187:=(Ts (A:=fun g w=>RV g.m w ([(⟨(⟨[114,111,115,101]⟩:Str),t5⟩:Gm)]:List Gm) l9∧OS 3042 g w 123 ([(⟨(⟨[114,111,115,101]⟩:Str),t5⟩:Gm)]:List Gm) l9∧Kx l9) 12 rfl hall).2.1;clear hs hall;have jH:RV cH.m _ (⟨([(⟨(⟨[108,105,108,121]⟩:Str),(⟨(x0.Harness).Hooks,l5⟩:TieHarness)⟩:Gx)]:List Gx),([(⟨(⟨[114,111,115,101]⟩:Str),t5⟩:Gm)]:List Gm)⟩:Tn) (.agg (Tk [[.slice none 0 0],[.slice none 0 0]] [(0,v8),(1,l9)]).flatten.toArray):=Ti rfl (Gs (RV.cells lE) (To (RV.cells gH)));generalize cF:(Value.agg (Tk [[.slice none 0 0],[.slice none 0 0]] [(0,v8),(1,l9)]).flatten.toArray)=kH at jH;refine Y kH (cF▸T3 (vs:=[(0,v8),(1,l9)]) [[.slice none 0 0],[.slice none 0 0]] lay_72 rfl rfl (.cons rfl (.cons rfl .nil)) ⟨⟨_,rfl,Tl lE⟩,⟨⟨_,rfl,Tl gH⟩,trivial⟩⟩) (G (Gk (g:=cH) (v:=kH) sizeOf72 zD uC rfl jH fun sJ vJ hs b189 cb=>?_));obtain ⟨xJ,zJ,mE,_,_⟩:=Qs lE;have dK:OSF 2002 3039 0 sJ vJ 121 72 (([(⟨(⟨[108,105,108,121]⟩:Str),(⟨(x0.Harness).Hooks,l5⟩:TieHarness)⟩:Gx)]:List Gx):List Gx) p2:=cb.osfv (by rw [← cF,mE];rfl) (o184.stp hs rfl);clear cb;have hfr:=hfr.stp hs;refine O (Gb ?_);obtain rfl:=sinj h;obtain ⟨ad190,cv190,hp190,zH,cr190⟩:=Qh isAgg72 sizeOf72 b189;exact Bq rfl rfl ((show _=p2 from zD).trans hp190) zH ⟨_,hfr,cr190⟩
end Go.Proofs.YtpglkdijpcgcaaaGreatDoor
