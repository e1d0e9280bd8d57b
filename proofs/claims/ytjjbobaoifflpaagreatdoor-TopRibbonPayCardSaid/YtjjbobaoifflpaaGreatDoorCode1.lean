import Derived.Test.YtjjbobaoifflpaaGreatDoorTypes
import Derived.Test.YtjjbobaoifflpaaGreatDoorSq
import Derived.Test.YtjjbobaoifflpaaGreatDoorShelf
import Derived.Test.YtjjbobaoifflpaaGreatDoorShc
import Derived.Test.YtjjbobaoifflpaaGreatDoorIt
import Derived.Test.YtjjbobaoifflpaaGreatDoorShelf
set_option maxRecDepth 8000
set_option maxHeartbeats 4000000
namespace Go.Proofs.YtjjbobaoifflpaaGreatDoor
open Go.RowKit Tryz
theorem Rm:(prog.info? 9).map (fun i=>(i.zero,i.size,i.bytes))=some (some (Str.v ⟨[]⟩),1,16):=by kernel_rfl
theorem Kr:(prog.info? 3).map (fun i=>(i.zero,i.size,i.bytes))=some (some (.int .i64 0),1,8):=by kernel_rfl
theorem Rs:(prog.info? 5).map (fun i=>(i.zero,i.size,i.bytes))=some (some (.int .u8 0),1,1):=by kernel_rfl
theorem Bw:Plain Z2:=fun _ m' _ w' x _ h=>(Vq H5 (Vq H5 (Vq H5 (Vq H5 H5)))) _ m' _ w' _ _ h
theorem Px:Qi prog 60=some ([Iz 0,Iz 0,Iz 0,Iz 0,Iz 0],[(0,1),(1,1),(2,1),(3,1),(4,1)]):=by kernel_rfl
theorem mixed:prog.follows .mixedOrders=true:=by kernel_rfl
theorem Vt:(prog.info? 60).map (fun i=>(i.zero,i.size,i.bytes))=some (some (.agg #[.int .i64 0,.int .i64 0,.int .i64 0,.int .i64 0,.int .i64 0]),5,40):=by kernel_rfl
theorem Fc:Qi prog 74=some ([Iz 0,Iz 0],[(0,1),(1,1)]):=by kernel_rfl
theorem Iu:Qi prog 37=some ([.slice none 0 0,.slice none 0 0,Iz 0,Iz 0],[(0,1),(1,1),(2,1),(3,1)]):=by kernel_rfl
theorem D9 {P:Program} {e:Env} {ds:List Deferred} {w:World} {fn:Func} {R:Value→World→Prop} {t0:Tmp} {v0:Value} {y0:TypeId} {a0:Addr} (hres:fn.results=#[.cell t0 y0]) (hd:ds=[]) (h0:e t0=.pointer (some a0)) (l0:(loadVar y0 a0).run P w=.ok v0 w) (h:R v0 w):H1 P fn R .ret e ds w:=
 ⟨hd,fun tmps ht=>⟨_,by simp [results,hres,ht,asAddr,h0,l0],h⟩⟩
theorem Xv {P:Program} {e:Env} {ds:List Deferred} {w:World} {fn:Func} {R:Value→World→Prop} {t0:Tmp} {v0:Value} {y0:TypeId} {a0:Addr} {t1:Tmp} {v1:Value} {y1:TypeId} {a1:Addr} {t2:Tmp} {v2:Value} {y2:TypeId} {a2:Addr} (hres:fn.results=#[.cell t0 y0,.cell t1 y1,.cell t2 y2]) (hd:ds=[]) (h0:e t0=.pointer (some a0)) (l0:(loadVar y0 a0).run P w=.ok v0 w) (h1:e t1=.pointer (some a1)) (l1:(loadVar y1 a1).run P w=.ok v1 w) (h2:e t2=.pointer (some a2)) (l2:(loadVar y2 a2).run P w=.ok v2 w) (h:R (.tuple #[v0,v1,v2]) w):H1 P fn R .ret e ds w:=
 ⟨hd,fun tmps ht=>⟨_,by simp [results,hres,ht,asAddr,h0,l0,h1,l1,h2,l2],h⟩⟩
theorem Od:Qi prog 94=some ([Iz 0,.slice none 0 0],[(0,1),(1,1)]):=by kernel_rfl
theorem P9:Qi prog 96=some ([Iz 0,Iz 0,.bool false],[(0,1),(1,1),(2,1)]):=by kernel_rfl
theorem info_96:(prog.info? 96).map (fun i=>(i.zero,i.size,i.bytes))=some (some (.agg #[.int .i64 0,.int .i64 0,.bool false]),3,24):=by kernel_rfl
theorem info_74:(prog.info? 74).map (fun i=>(i.zero,i.size,i.bytes))=some (some (.agg #[.int .i64 0,.int .i64 0]),2,16):=by kernel_rfl
theorem Pw:Qi prog 62=some ([Iz 0,Iz 0,Iz 0,.slice none 0 0,Iz 0],[(0,1),(1,1),(2,1),(3,1),(4,1)]):=by kernel_rfl
theorem Aj:Qi prog 27=some ([Iz 0,.slice none 0 0],[(0,1),(1,1)]):=by kernel_rfl
theorem Oi:Qi prog 99=some ([Str.v ⟨[]⟩,Iz 0,.slice none 0 0],[(0,1),(1,2)]):=by kernel_rfl
theorem Ay:Qi prog 101=some ([Str.v ⟨[]⟩,Iz 0,.slice none 0 0],[(0,1),(1,2)]):=by kernel_rfl
theorem Nr:Qi prog 55=some ([.slice none 0 0,.slice none 0 0],[(0,1),(1,1)]):=by kernel_rfl
theorem lay_29:Qi prog 29=some ([Iz 0,.slice none 0 0],[(0,1),(1,1)]):=by kernel_rfl
theorem Se {e:Env} {f:FuncId} {o0:Operand} {b0:Value} (hb0:ev e o0=b0):(Value.func (.func f) ((#[]:Array Operand).map (ev e)) ((#[o0]:Array Operand).map (ev e)))=.func (.func f) #[] #[b0]:=by simp [hb0]
theorem B4:Qi prog 105=some ([.slice none 0 0,.slice none 0 0,Iz 0,Iz 0],[(0,4)]):=by kernel_rfl
theorem E3:((prog.info? 82).bind (·.zero)).map (·.cells.toList)=some [.int .u8 0,.int .u8 0,.int .u8 0,.int .u8 0,.int .u8 0,.int .u8 0,.int .u8 0,.int .u8 0]:=by kernel_rfl
theorem szA_5:(prog.info? 5).map (·.size)=some 1:=by kernel_rfl
theorem Yr {e:Env} {f:FuncId} {o0:Operand} {l5:Operand} {b0:Value} {b1:Value} (hb0:ev e o0=b0) (hb1:ev e l5=b1):(Value.func (.func f) ((#[]:Array Operand).map (ev e)) ((#[o0,l5]:Array Operand).map (ev e)))=.func (.func f) #[] #[b0,b1]:=by simp [hb0,hb1]
theorem O6:Xf prog 3 (Value.int .i64):=P5 underlying3
theorem E8:Qi prog 192=some ([Iz 0,.slice none 0 0,Iz 0],[(0,2),(2,1)]):=by kernel_rfl
theorem Eu:Qi prog 169=some ([.slice none 0 0,.slice none 0 0,.slice none 0 0,Iz 0],[(0,4)]):=by kernel_rfl
theorem lay_256:Qi prog 256=some ([Iz 0,Iz 0],[(0,1),(1,1)]):=by kernel_rfl
theorem N8:(prog.info? 256).map (fun i=>(i.zero,i.size,i.bytes))=some (some (.agg #[.int .i64 0,.int .i64 0]),2,16):=by kernel_rfl
theorem lay_31:Qi prog 31=some ([Iz 0,.slice none 0 0,Iz 0,.slice none 0 0],[(0,2),(2,2)]):=by kernel_rfl
theorem Wm {P:Program} {e:Env} {ds:List Deferred} {w:World} {fn:Func} {R:Value→World→Prop} {t0:Tmp} {v0:Value} {y0:TypeId} {a0:Addr} {t1:Tmp} {v1:Value} (hres:fn.results=#[.cell t0 y0,.tmp t1]) (hd:ds=[]) (h0:e t0=.pointer (some a0)) (l0:(loadVar y0 a0).run P w=.ok v0 w) (h1:e t1=v1) (h:R (.tuple #[v0,v1]) w):H1 P fn R .ret e ds w:=
 ⟨hd,fun tmps ht=>⟨_,by simp [results,hres,ht,asAddr,h0,l0,h1],h⟩⟩
theorem Im {e:Env} {f:FuncId} {o0:Operand} {l5:Operand} {t5:Operand} {b0:Value} {b1:Value} {b2:Value} (hb0:ev e o0=b0) (hb1:ev e l5=b1) (hb2:ev e t5=b2):(Value.func (.func f) ((#[]:Array Operand).map (ev e)) ((#[o0,l5,t5]:Array Operand).map (ev e)))=.func (.func f) #[] #[b0,b1,b2]:=by simp [hb0,hb1,hb2]
theorem Er:Qi prog 204=some ([Iz 0,.slice none 0 0],[(0,2)]):=by kernel_rfl
theorem E9:(prog.info? 43).map (fun i=>(i.zero,i.size,i.bytes))=some (some (.slice none 0 0),1,24):=by kernel_rfl
theorem info_33:(prog.info? 33).map (fun i=>(i.zero,i.size,i.bytes))=some (some (.slice none 0 0),1,24):=by kernel_rfl
theorem J9:Pl Th:=Pl.of (Pl.prod Pl.int Pl.int)
theorem fl_136 : prog.fieldsOf 136 = #[{ name := "day", type := 3, offset := 0, embedded := false, tag := "", pkgPath := "griffe/book", byteOffset := 0 }, { name := "loom", type := 3, offset := 1, embedded := false, tag := "", pkgPath := "griffe/book", byteOffset := 8 }] := by kernel_rfl
theorem eqd_136:EqD prog Th 2 136:=EqD.struct rfl (by kernel_rfl) (by kernel_rfl) (by rw [fl_136]; exact (FEq.cons (by decide) (Ui).1 isAgg3 sizeOf3 (EqD.int underlying3) (FEq.cons (by decide) (Um).1 isAgg3 sizeOf3 (EqD.int underlying3) FEq.nil))) (fun x y=>by cases x; cases y; simp)
theorem Es:CkD prog Th 2 136:=CkD.struct rfl underlying136 fun f hf=>by
 simp only [List.mem_cons,List.not_mem_nil,or_false] at hf;rcases hf with rfl | rfl
 ·exact ⟨by decide,_,_,_,(Ui).1,isAgg3,sizeOf3,(CkD.int underlying3)⟩
 ·exact ⟨by decide,_,_,_,(Um).1,isAgg3,sizeOf3,(CkD.int underlying3)⟩
theorem Au:Xf prog 136 (Ur J9):=Nd J9 (by rw [underlying136]) rfl eqd_136 Es (by decide)
theorem Me:Qi prog 136=some ([Iz 0,Iz 0],[(0,1),(1,1)]):=by kernel_rfl
theorem fl_60 : prog.fieldsOf 60 = #[{ name := "Day", type := 3, offset := 0, embedded := false, tag := "", pkgPath := "", byteOffset := 0 }, { name := "Loom", type := 3, offset := 1, embedded := false, tag := "", pkgPath := "", byteOffset := 8 }, { name := "Chain", type := 3, offset := 2, embedded := false, tag := "", pkgPath := "", byteOffset := 16 }, { name := "Tie", type := 3, offset := 3, embedded := false, tag := "", pkgPath := "", byteOffset := 24 }, { name := "Picks", type := 3, offset := 4, embedded := false, tag := "", pkgPath := "", byteOffset := 32 }] := by kernel_rfl
theorem Om:SEq (α:=Z2) prog 60:=by
 intro d x y w a b m wx m2 wy hx hy;obtain ⟨_,⟨_,_,rfl,rfl,⟨_,_,rfl,rfl,⟨_,_,rfl,rfl,⟨_,_,rfl,rfl,rfl⟩⟩⟩⟩,rfl⟩:=hx;obtain ⟨_,⟨_,_,rfl,rfl,⟨_,_,rfl,rfl,⟨_,_,rfl,rfl,⟨_,_,rfl,rfl,rfl⟩⟩⟩⟩,rfl⟩:=hy;refine (run_equalIn_struct w (d + 1) 60 _ _ (by kernel_rfl) (by kernel_rfl)).trans ?_;rw [fl_60];obtain ⟨x0,x1,x2,x3,x4⟩:=x;obtain ⟨y0,y1,y2,y3,y4⟩:=y;show (Op.eqFields (d + 1) #[Iz (x0),Iz (x1),Iz (x2),Iz (x3),Iz (x4)] #[Iz (y0),Iz (y1),Iz (y2),Iz (y3),Iz (y4)] _).run _ _=_;have x0p:(part 3 #[Iz (x0),Iz (x1),Iz (x2),Iz (x3),Iz (x4)] 0).run prog w=.ok (Iz (x0)) w:=Hg isAgg3 rfl;have x1p:(part 3 #[Iz (x0),Iz (x1),Iz (x2),Iz (x3),Iz (x4)] 1).run prog w=.ok (Iz (x1)) w:=Hg isAgg3 rfl;have x2p:(part 3 #[Iz (x0),Iz (x1),Iz (x2),Iz (x3),Iz (x4)] 2).run prog w=.ok (Iz (x2)) w:=Hg isAgg3 rfl;have x3p:(part 3 #[Iz (x0),Iz (x1),Iz (x2),Iz (x3),Iz (x4)] 3).run prog w=.ok (Iz (x3)) w:=Hg isAgg3 rfl;have x4p:(part 3 #[Iz (x0),Iz (x1),Iz (x2),Iz (x3),Iz (x4)] 4).run prog w=.ok (Iz (x4)) w:=Hg isAgg3 rfl;have y0p:(part 3 #[Iz (y0),Iz (y1),Iz (y2),Iz (y3),Iz (y4)] 0).run prog w=.ok (Iz (y0)) w:=Hg isAgg3 rfl;have y1p:(part 3 #[Iz (y0),Iz (y1),Iz (y2),Iz (y3),Iz (y4)] 1).run prog w=.ok (Iz (y1)) w:=Hg isAgg3 rfl;have y2p:(part 3 #[Iz (y0),Iz (y1),Iz (y2),Iz (y3),Iz (y4)] 2).run prog w=.ok (Iz (y2)) w:=Hg isAgg3 rfl;have y3p:(part 3 #[Iz (y0),Iz (y1),Iz (y2),Iz (y3),Iz (y4)] 3).run prog w=.ok (Iz (y3)) w:=Hg isAgg3 rfl;have y4p:(part 3 #[Iz (y0),Iz (y1),Iz (y2),Iz (y3),Iz (y4)] 4).run prog w=.ok (Iz (y4)) w:=Hg isAgg3 rfl;simp only [Op.eqFields,Sem.run_bind,Sem.run_ite,Sem.run_pure,x0p,x1p,x2p,x3p,x4p,y0p,y1p,y2p,y3p,y4p,Result.andThen_ok,run_equalIn_int _ _ _ _ _ _ _ underlying3];simp;grind
theorem eg_60:prog.eqGuardType prog.depth 60=false:=by kernel_rfl
theorem Xo:Qi prog 119=some ([Iz 0,Iz 0,Iz 0,Iz 0],[(0,1),(1,1),(2,1),(3,1)]):=by kernel_rfl
theorem lay_124:Qi prog 124=some ([.slice none 0 0,.slice none 0 0,.slice none 0 0,Iz 0],[(0,1),(1,1),(2,1),(3,1)]):=by kernel_rfl
theorem E2:((prog.info? 58).bind (·.zero)).map (·.cells.toList)=some [Iz 0,Iz 0,Iz 0]:=by kernel_rfl
theorem szA_3:(prog.info? 3).map (·.size)=some 1:=by kernel_rfl
theorem Ex:(prog.info? 62).map (fun i=>(i.zero,i.size,i.bytes))=some (some (.agg #[.int .i64 0,.int .i64 0,.int .i64 0,.slice none 0 0,.int .i64 0]),5,56):=by kernel_rfl
def f90 (x0:List Str):Option (List Str):=apnd 16 [] x0
theorem en90:Enters prog 90:=enters_of func90 (by kernel_rfl) rfl
theorem wk90 {gI:Gh} {wI:World} {x0:List Str} {up0:Value} (rp0:RV gI.m wI x0 up0) {r:List Str} (h:f90 x0=some r):Fn prog 90 #[up0] gI wI (fun m w v=>RV m w r v):=by
 unfold f90 at h;refine fnE func90 rfl rfl fun g0 hm hfr=>?_;have rp0:=RVc hm rp0;show E _ 8 none _ _ _ _ _;refine Z5 (Zg (.slice none 0 0) rfl rfl (Z3 (Zf (Z5 (Zn up0 rfl rfl ?_)))));obtain ⟨a,c,hv,hc,hrow⟩:=Ql rp0;refine Zx (.bool a.isNone) (Mn underlying66 (show ev _ _=_ from hv)) rfl (Z3 ?_)
 cases a with
 | none=>
  have hx:x0=[]:=by
   cases x0 with
   | nil=>rfl
   | cons y ys=>obtain ⟨b,off,hb,_⟩:=hrow (by simp); cases hb
  subst hx
  have hr:r=[]:=by unfold apnd at h; split at h <;> simp at h; exact h
  subst hr;refine Ta rfl (Z5 (Zg (.slice none 0 0) rfl rfl (Z3 ?_)));exact Ga (Gp (Tg rfl rfl (rq (.slice none 0 0)) ⟨_,hfr,T0⟩))
 | some a=>
  refine Gs rfl (Zu (Zd (Z5 (Z4 rfl (Z7 (g:=g0) 1 (xs:=([]:List Str)) (vs:=[]) underlying66 sizeOf9 zeroValue9 rfl rfl .nil RVs.nil rfl rfl fun g1 w1 v1 hs o1 r1 hxt hfl=>?_)))));have hfr:=hfr.stp hs;have rp0:=rp0.stp hs;refine Zn up0 rfl rfl (Z4 rfl (T5 (g:=g1) (i:=1) underlying66 Rm rfl rfl o1 r1 rfl rp0 h fun g2 w2 v2 hs o2 r2 _=>?_));have hfr:=hfr.stp hs;refine Zg v2 rfl rfl (Z3 ?_);exact Ga (Tg rfl rfl (rq v2) ⟨_,hfr,r2⟩)
def f143 (x0:List Int):Option (List Int):=apnd 8 [] x0
theorem en143:Enters prog 143:=enters_of func143 (by kernel_rfl) rfl
theorem R4 (a:Addr) (w:World):(Instr.fieldAt 179 (.pointer (some a)) 0).run prog w=.ok (.pointer (some (a.add 0))) w:=by simp [Instr.fieldAt,run_underlying underlying179,Instr.sureAddr,fieldPlace,Result.andThen]
theorem V2 (a:Addr) (w:World):(Instr.fieldAt 179 (.pointer (some a)) 1).run prog w=.ok (.pointer (some (a.add 1))) w:=by simp [Instr.fieldAt,run_underlying underlying179,Instr.sureAddr,fieldPlace,Result.andThen]
theorem E6:(prog.info? 179).map (·.size)=some 2:=by kernel_rfl
theorem Lw:∃ j,prog.info? 179=some j∧j.size=2:=Option.map_eq_some_iff.1 E6
theorem en159:Enters prog 159:=enters_of func159 (by kernel_rfl) rfl
theorem Si {i:Nat} {g:Gh} {w:World} {x:Fv × List UInt8} {b o:Nat} (hb:OB i g w 179 x (.pointer (some ⟨b,o,none⟩))):o=0∧w.shape? b=some (179,2):=by
 obtain ⟨b',cs,hp,_,_,hh,hr⟩:=hb;injection hp with hp; injection hp with hp; injection hp with h1 h2;subst h1; subst h2;have hl:=GoT.len hr;simp [GoT.k] at hl;exact ⟨rfl,by simp [World.shape?,hh,hl]⟩
theorem wk159 {i j : Nat} (hji : Nat.beq j i = false) {g : Gh} {w : World} {a : Fv} {xs : List UInt8} {p : Value} (hb : OB i g w 179 (a, xs) p) (ho : OSF i j 1 g w 5 179 xs p) (ha : a.v = .pointer none ∨ a.v = p) :
  Calls prog 159 #[p] w fun r w'=>∃ v,r=.returned v∧∃ g',Stp i g w g' w'∧∃ a':Fv,a'.v=p∧OB i g' w' 179 (a',xs) p∧OSF i j 1 g' w' 5 179 xs p:=by
 obtain ⟨b,o,rfl⟩:=hb.ptr
 obtain ⟨hoff,hsh⟩:=Si hb
 subst hoff
 obtain ⟨jt,hj,hjs⟩:=Lw
 refine Q9 func159 rfl (Nat.le_of_ble_eq_true rfl) ?_
 show E _ 20 none _ _ _ _ _
 refine Z5 (Zn (.pointer (some ⟨b,0,none⟩)) rfl rfl (Zx (.pointer (some ⟨b,0,none⟩)) (Tx rfl) rfl (Zx (Z8 (.pointer (some ⟨b,0,none⟩)) 0) (Zc R4 rfl ⟨b,0,rfl⟩) rfl (Z4 rfl (Qt (g:=g) (a:=(a,xs)) Sub.fst isAgg177 sizeOf177 rfl hb fun v r=>?_)))))
 obtain rfl:=Rn.1 r
 rcases ha with ha | ha
 ·refine Zx (.bool true) (Vr (u2 := .pointer none) (.inl rfl) (show _ = .pointer none from ha) rfl ⟨_, rfl⟩ ⟨_, rfl⟩ (fun w => by simpa using run_eql_pointer_nil (P := prog) w 177 none underlying177)) rfl (Z3 (Ta rfl (Za (Zn (.pointer (some ⟨b, 0, none⟩)) rfl rfl (Zn (.pointer (some ⟨b, 0, none⟩)) rfl rfl ?_)))))
  refine Bc (v:=.pointer (some ⟨b,0,none⟩)) (w':=w) .plain (fun _ h=>by cases h) rfl (by
   have:=Lib.run_to_unsafe w ⟨b,0,none⟩ underlying177 underlying270 hj (by rw [hjs]; decide) hsh (by show 0 < 2; omega)
   show (Sem.run _ (execOp _ _) _)=_
   simp only [execOp,Sem.run_bind]
   rw [show ev _ (Operand.tmp 8)=Value.pointer (some ⟨b,0,none⟩) from rfl,this]
   rfl) ?_
  refine Zx (.pointer (some ⟨b,0,none⟩)) (Pf func181 (by kernel_rfl) (by kernel_rfl) (by kernel_rfl) (ex:=Extern.AbiNoEscape.same) (by kernel_rfl) (.cons rfl .nil) (fun _=>rfl)) rfl ?_
  refine Bc (v:=.pointer (some ⟨b,0,none⟩)) (w':=w) .plain (fun _ h=>by cases h) rfl (by
   have:=Lib.run_from_unsafe w ⟨b,0,none⟩ underlying270 underlying177 hj hsh (by kernel_rfl)
   show (Sem.run _ (execOp _ _) _)=_
   simp only [execOp,Sem.run_bind]
   rw [show ev _ (Operand.tmp 10)=Value.pointer (some ⟨b,0,none⟩) from rfl,this]
   rfl) ?_
  refine Zx (.pointer (some ⟨b,0,none⟩)) (Tx rfl) rfl (Zx (Z8 (.pointer (some ⟨b,0,none⟩)) 0) (Zc R4 rfl ⟨b,0,rfl⟩) rfl (Z4 rfl (W2 (g:=g) (a:=(a,xs)) (b:=(⟨.pointer (some ⟨b,0,none⟩),rfl⟩:Fv)) Gd.fst sizeOf177 rfl hb rfl (Rn.2 rfl) fun g1 w1 hs b1 rst _=>?_)))
  exact Zb (Y3 rfl rfl ⟨g1,hs,_,rfl,b1,ho.rest hs rst rfl hji⟩)
 ·refine Zx (.bool false) (Vr (u2 := .pointer none) (.inl rfl) (show _ = .pointer (some ⟨b, 0, none⟩) from ha) rfl ⟨_, rfl⟩ ⟨_, rfl⟩ (fun w => by simpa using run_eql_pointer_nil (P := prog) w 177 (some ⟨b, 0, none⟩) underlying177)) rfl (Z3 (Gs rfl (Z5 (Zn (.pointer (some ⟨b, 0, none⟩)) rfl rfl (Zx (.pointer (some ⟨b, 0, none⟩)) (Tx rfl) rfl (Zx (Z8 (.pointer (some ⟨b, 0, none⟩)) 0) (Zc R4 rfl ⟨b, 0, rfl⟩) rfl (Z4 rfl (Qt (g := g) (a := (a, xs)) Sub.fst isAgg177 sizeOf177 rfl hb fun v r => ?_))))))))
  obtain rfl:=Rn.1 r
  refine Zn (.pointer (some ⟨b,0,none⟩)) rfl rfl (Zx (.bool false) (Vr (.inr rfl) (show _=.pointer (some ⟨b,0,none⟩) from ha) rfl ⟨_,rfl⟩ ⟨_,rfl⟩ (fun w=>Lib.run_neq_ptr_same w ⟨b,0,none⟩ underlying177 hj)) rfl (Z3 (Gs rfl (Zu ?_))))
  exact Y3 rfl rfl ⟨g,Sr _ _ _,_,ha,hb,ho⟩
theorem en111:Enters prog 111:=enters_of func111 (by kernel_rfl) rfl
theorem wk111 {i j : Nat} (hji : Nat.beq j i = false) (hij : Nat.beq i j = false) {g : Gh} {w : World} {c : UInt8} {xs r : List UInt8} {p : Value} (hsb : SB i j g w 5 179 xs p) (hr : apnd 1 xs [c] = some r) :
  Calls prog 111 #[p,.int .u8 c.toNat] w fun q w'=>∃ v,q=.returned v∧v=.nilIface∧WB i j g w 5 179 r p w':=by
 obtain ⟨a,hb,ho,ha⟩:=hsb
 obtain ⟨b,o,rfl⟩:=hb.ptr
 obtain ⟨hoff,hsh⟩:=Si hb
 subst hoff
 refine Q9 func111 rfl (Nat.le_of_ble_eq_true rfl) ?_
 show E _ 17 none _ _ _ _ _
 refine Z5 (Zg (.nilIface) rfl rfl (Z3 (Z5 (Zn (.pointer (some ⟨b,0,none⟩)) rfl rfl (Z4 rfl (Wc (vs:=[.pointer (some ⟨b,0,none⟩)]) en159 (.cons rfl .nil) (wk159 hji hb ho ha) fun v w1 h1=>?_))))))
 obtain ⟨g1,hs1,a1,ha1,hb1,ho1⟩:=h1
 refine Z3 (Z5 (Zn (.pointer (some ⟨b,0,none⟩)) rfl rfl (Zn (.pointer (some ⟨b,0,none⟩)) rfl rfl (Zx (.pointer (some ⟨b,0,none⟩)) (Tx rfl) rfl (Zx (Z8 (.pointer (some ⟨b,0,none⟩)) 1) (Zc V2 rfl ⟨b,0,rfl⟩) rfl (Z4 rfl (U4 (g:=g1) (a:=(a1,xs)) (f:=Prod.snd) Sub.snd isAgg43 sizeOf43 rfl hb1 ho1 fun v2 r2 o2=>(Zn (.int .u8 c.toNat) rfl rfl (Z4 rfl (Z7 (g:=g1) 1 (xs:=[c]) (vs:=[.int .u8 c.toNat]) underlying43 sizeOf5 zeroValue5 rfl rfl (.cons rfl .nil) (RVs.cons (Qy.2 rfl) RVs.nil) rfl rfl fun g3 w3 v3 _ _ r3 hxt _=>(Z4 rfl (T5 (g:=g3) (i:=j) underlying43 Rs rfl rfl (o2.ext hxt) (r2.ext hxt) rfl r3 hr fun g4 w4 v4 hs4 o4 r4 _=>?_))))))))))))
 have hb4:=(hb1.ext hxt).stp hs4 hij
 refine Zx (.pointer (some ⟨b,0,none⟩)) (Tx rfl) rfl (Zx (Z8 (.pointer (some ⟨b,0,none⟩)) 1) (Zc V2 rfl ⟨b,0,rfl⟩) rfl (Z4 rfl (W2 (g:=g4) (a:=(a1,xs)) Gd.snd sizeOf43 rfl hb4 rfl r4 fun g5 w5 hs5 b5 _ hos=>?_)))
 have o5:=hos _ _ j 5 r (Kq r4) hji o4
 refine Z3 (Z5 (Zg (.nilIface) rfl rfl (Z3 (Ga (Tg rfl rfl (rq .nilIface) ⟨rfl,g5,⟨g1,w1,g4,w4,hs1,(hxt.stp.trans hs4),hs5⟩,a1,b5,o5,.inr ha1⟩)))))
theorem en77:Enters prog 77:=enters_of func77 (by kernel_rfl) rfl
theorem Jm:prog.follows .mixedOrders=true:=by kernel_rfl
theorem wk77 {i j : Nat} (hij : Nat.beq i 0 = false) {g : Gh} {w : World} {xs : List UInt8} {p : Value} (hsb : SB i j g w 5 179 xs p) (h0 : xs ≠ []) :
  Calls prog 77 #[p] w fun q w'=>∃ v,q=.returned v∧GS j g w xs v w':=by
 obtain ⟨a,hb,ho,ha⟩:=hsb
 obtain ⟨b,o,rfl⟩:=hb.ptr
 obtain ⟨hoff,hsh⟩:=Si hb
 subst hoff
 refine Q9 func77 rfl (Nat.le_of_ble_eq_true rfl) ?_
 show E _ 14 none _ _ _ _ _
 refine Z5 (Zg (Str.v ⟨[]⟩) rfl rfl (Z3 (Cp (f:=Prod.snd) (a:=(a,xs)) Sub.snd isAgg43 sizeOf43 hb ho fun v r os hl=>?_)))
 obtain ⟨sa,c,rfl,hc,_⟩:=Ql r
 have hne:c ≠ 0:=by
  have : 0 < xs.length := by cases xs with
   | nil=>exact absurd rfl h0
   | cons _ _=>simp
  have hc':xs.length ≤ c:=hc
  omega
 refine Zf (To (g:=g) (n:=10) [] [0,1,2,3,4,5,6,7,8,9] rfl Jm (by kernel_rfl) trivial (Z0 (.pointer (some ⟨b,0,none⟩)) rfl rfl (Zk rfl) (Z0 (.pointer (some ⟨b,0,none⟩)) rfl rfl (Tx rfl) (Z0 (Z8 (.pointer (some ⟨b,0,none⟩)) 1) rfl rfl (Zc V2 rfl ⟨b,0,rfl⟩) (Tm (c:=.slice sa xs.length c) rfl rfl .plain (fun _ _ h=>⟨h.ch,fun b hb _=>h.below.block b hb⟩) (hl _) rfl (Z0 (.pointer sa) rfl rfl (Bq (a:=sa) (n:=xs.length) (c:=c) rfl (.inl hne)) (Z0 (.pointer (some ⟨b,0,none⟩)) rfl rfl (Zk rfl) (Z0 (.pointer (some ⟨b,0,none⟩)) rfl rfl (Tx rfl) (Z0 (Z8 (.pointer (some ⟨b,0,none⟩)) 1) rfl rfl (Zc V2 rfl ⟨b,0,rfl⟩) (Tm (c:=.slice sa xs.length c) rfl rfl .plain (fun _ _ h=>⟨h.ch,fun b hb _=>h.below.block b hb⟩) (hl _) rfl (Z0 (Iz (xs.length:Int)) rfl rfl (Gz (v:=.slice sa xs.length c) underlying43 rfl r) (J6 fun g1 w1 hall=>?_))))))))))))
 have hs:=hall.1
 refine Z4 rfl (S8 (g:=g1) (j:=j) (et:=5) rfl underlying223 (by kernel_rfl) h0 rfl rfl (os.ext hs) (r.ext hs) fun g2 w2 hs2=>(Zg (Str.v ⟨xs⟩) rfl rfl ?_))
 exact Z3 (Ga (Tg rfl rfl (rq (Str.v ⟨xs⟩)) ⟨rfl,g2,hs.stp.trans hs2⟩))
def Sg:Str:=(⟨[0,1,2,2,3,3,3,3,4,4,4,4,4,4,4,4,5,5,5,5,5,5,5,5,5,5,5,5,5,5,5,5,6,6,6,6,6,6,6,6,6,6,6,6,6,6,6,6,6,6,6,6,6,6,6,6,6,6,6,6,6,6,6,6,7,7,7,7,7,7,7,7,7,7,7,7,7,7,7,7,7,7,7,7,7,7,7,7,7,7,7,7,7,7,7,7,7,7,7,7,7,7,7,7,7,7,7,7,7,7,7,7,7,7,7,7,7,7,7,7,7,7,7,7,7,7,7,7,8,8,8,8,8,8,8,8,8,8,8,8,8,8,8,8,8,8,8,8,8,8,8,8,8,8,8,8,8,8,8,8,8,8,8,8,8,8,8,8,8,8,8,8,8,8,8,8,8,8,8,8,8,8,8,8,8,8,8,8,8,8,8,8,8,8,8,8,8,8,8,8,8,8,8,8,8,8,8,8,8,8,8,8,8,8,8,8,8,8,8,8,8,8,8,8,8,8,8,8,8,8,8,8,8,8,8,8,8,8,8,8,8,8,8,8,8,8,8,8,8,8,8,8,8,8,8,8]⟩:Str)
def f125 (x:Int):Option Int:=if 0 ≤ x∧x < 256 then (idx Sg.b x).map fun c=>w64 (0 + (c.toNat:Int)) else none
def f80 (x:Int):Option Int:=f125 x
theorem en125:Enters prog 125:=enters_of func125 (by kernel_rfl) rfl
theorem en80:Enters prog 80:=enters_of func80 (by kernel_rfl) rfl
theorem wk125 {gI:Gh} {wI:World} {x0:Int} {r:Int} (h:f125 x0=some r):Fn prog 125 #[.int .u64 x0] gI wI (fun _ _ v=>v=Iz (r)):=by
 unfold f125 at h;split at h
 case isFalse=>cases h
 rename_i hx;obtain ⟨h0,h1⟩:=hx
 cases hc:idx Sg.b x0 with
 | none=>rw [hc] at h; cases h
 | some c=>
 rw [hc] at h;obtain rfl:=sinj h;refine fnE func125 rfl rfl fun g0 hm hfr=>?_;show E _ 25 none _ _ _ _ _;refine Z5 (Zg (Iz 0) rfl rfl (Z3 (Zf (Z5 (Zn (.int .u64 x0) rfl rfl (Zx (.bool false) (C5 rfl rfl (by omega)) rfl (Z3 (Gs rfl (Zu (Zd (Zf (Z5 (Zn (.int .u64 x0) rfl rfl (Zx (.bool false) (C5 rfl rfl (by omega)) rfl (Z3 (Gs rfl (Zu (Zd (Zf (Z5 (Zn (.int .u64 x0) rfl rfl (Zx (.bool false) (C5 rfl rfl (by omega)) rfl (Z3 (Gs rfl (Zu (Zd (Z5 (Zn (Iz 0) rfl rfl (Zn (.int .u64 x0) rfl rfl (Zx (.int .u8 x0) (P_u64u8 underlying234 underlying5 rfl h0 h1) rfl (Zx (.int .u8 c.toNat) (La (s:=Sg) underlying9 rfl rfl hc) rfl (Zx (Iz (c.toNat:Int)) (Wy underlying5 underlying2 rfl) rfl (Z9 (Iz (w64 (0 + (c.toNat:Int)))) rfl rfl rfl rfl (Zg (Iz (w64 (0 + (c.toNat:Int)))) rfl rfl (Z3 ?_)))))))))))))))))))))))))))))))))));exact Ga (Tg rfl rfl (rq _) ⟨_,hfr,rfl⟩)
theorem wk80 {gI:Gh} {wI:World} {x0:Int} {r:Int} (h:f80 x0=some r):Fn prog 80 #[.int .u64 x0] gI wI (fun _ _ v=>v=Iz (r)):=by
 unfold f80 at h;refine fnE func80 rfl rfl fun g0 hm hfr=>?_;show E _ 8 none _ _ _ _ _;refine Z5 (Zg (Iz 0) rfl rfl (Z3 (Zf (Gs rfl (Zu (Zd (Z5 (Zn (.int .u64 x0) rfl rfl (Z4 rfl (Zp (g:=g0) (vs:=[.int .u64 x0]) en125 (.cons rfl .nil) (wk125 h) fun g1 w1 v1 hs hr=>?_))))))))));have hfr:=hfr.ext hs;subst hr;refine Zg (Iz r) rfl rfl (Z3 ?_);exact Ga (Tg rfl rfl (rq _) ⟨_,hfr,rfl⟩)
theorem en29:Enters prog 29:=enters_of func29 (by kernel_rfl) rfl
theorem en30:Enters prog 30:=enters_of func30 (by kernel_rfl) rfl
def f142 (x0:List Int):Option Int:=Dr x0
theorem en142:Enters prog 142:=enters_of func142 (by kernel_rfl) rfl
theorem wk142 {iI:Nat} {gI:Gh} {wI:World} {x0:List Int} {up0:Value} (mp0:OM iI gI wI 3 x0 up0) {r:Int} (h:f142 x0=some r):FnM prog 142 #[up0] iI gI wI (fun _ _ u=>∃ a c,u=.slice a r.toNat c):=
 F6 ⟨fun blk off cap zs w h1 h2 h3=>Tryz.slices_Compact_int blk off cap zs w h1 h2 h3,fun a cap w=>Tryz.slices_Compact_int_empty a cap w⟩ mp0 h
def f5 (x0:List (Vector UInt8 3)):Option ((List Z2)):=
 Option.bind (α:=(List Z2)) (
  lp (σ:=(List Z2) × Int × Int) (fun cF (v8,l5,o0)=>
   jn (σ:=Unit) (fun _=>
    Option.bind (α:=(List Z2) × Int) (
     (idx x0 o0).bind fun dF=>
     (idx (dF).toList (0:Int)).bind fun mE=>
     (Ha ((mE).toNat:Int) (50:Int)).bind fun t5=>
     (idx x0 o0).bind fun eF=>
     (idx (eF).toList (1:Int)).bind fun bD=>
     (Ha ((bD).toNat:Int) (3:Int)).bind fun l8=>
     (idx x0 o0).bind fun rF=>
     (idx (rF).toList (2:Int)).bind fun cD=>
     (Ha ((cD).toNat:Int) (15:Int)).bind fun i6=>
     (apnd 40 v8 (([(⟨(w64 (l5 + (w64 ((1:Int) + t5)))),l8,0,0,(w64 ((1:Int) + i6))⟩:Z2)]:List Z2))).bind fun y251=>
     some (y251,(w64 (l5 + (w64 ((1:Int) + t5)))))
     ) fun (aB,s4_252)=>
    cF (aB,s4_252,(w64 (o0 + (1:Int))))
    ) fun sF=>
   Option.bind (α:=Bool) (
    bif (decide (o0 < ((x0).length : Int))) then
     some ((decide (o0 < (12:Int))))
    else
     some (false)
    ) fun l9=>
   bif l9 then
    sF ()
   else
    some (v8)
   ) big (([]:List Z2),(0:Int),(0:Int))
  ) fun lB=>
 some (lB)
theorem en5:Enters prog 5:=enters_of func5 (by kernel_rfl) rfl
theorem wk5 {gI:Gh} {wI:World} {x0:List (Vector UInt8 3)} {up0:Value} (rp0:RV gI.m wI x0 up0) {r:(List Z2)} (h:f5 x0=some r):Fn prog 5 #[up0] gI wI (fun m w v=>RV m w (r) v):=by
 unfold f5 at h;refine fnE func5 rfl rfl fun g0 hm hfr=>?_;have rp0:=RVc hm rp0;show E _ 48 none _ _ _ _ _;refine Z5 (Zg (.slice none 0 0) rfl rfl (Z3 (Z5 (Z4 rfl (Z7 (g:=g0) 3006 (xs:=([]:List Z2)) (vs:=[]) underlying33 sizeOf60 zeroValue60 rfl rfl .nil RVs.nil rfl rfl fun g1 w1 v1 hs o1 r1 hxt hfl=>?_)))));have hfr:=hfr.stp hs;have rp0:=rp0.stp hs;refine Zg v1 rfl rfl (Zg (Iz (0)) rfl rfl (Z3 ?_));obtain ⟨lB,hx,h⟩:=Z1 h;refine Gl (fun e w=>∃ (g:Gh) (v3:Value),Fr gI wI g w∧e 3=v3∧RV g.m w (lB:List Z2) v3∧OS 3006 g w 60 (lB:List Z2) v3) (fun Q' hQ=>?_) (fun qI mJ hR=>?_)
 ·replace h := hx
  clear hx;refine Z5 (Zg (Iz (0)) rfl rfl (Z3 (Zr (Q0 h (fun (s:(List Z2) × Int × Int) e w=>∃ (g:Gh) (v3:Value),Fr gI wI g w∧e 0=up0∧RV g.m w (x0:List (Vector UInt8 3)) up0∧e 3=v3∧RV g.m w (s.1:List Z2) v3∧OS 3006 g w 60 (s.1:List Z2) v3∧e 4=Iz (s.2.1)∧e 5=Iz (s.2.2)) ⟨g1,(v1),hfr,rfl,rp0,rfl,r1,o1,rfl,rfl⟩ (fun X128 cF lH=>?_)))));rintro ⟨v8,l5,o0⟩ sI nJ ⟨tF,n8,hfr,yB,zB,nD,oD,yD,zD,mB⟩ h;refine Zq h (fun (s:Unit) e w=>∃ (g:Gh) ,Fr gI wI g w∧e 0=up0∧RV g.m w (x0:List (Vector UInt8 3)) up0∧e 3=n8∧RV g.m w (v8:List Z2) n8∧OS 3006 g w 60 (v8:List Z2) n8∧e 4=Iz (l5)∧e 5=Iz (o0)) (fun X134 sF mH h=>?_) ?_
  ·obtain ⟨l9, hx, h⟩ := Z1 h
   refine Gl (fun e w=>∃ (g:Gh) ,Fr gI wI g w∧e 0=up0∧RV g.m w (x0:List (Vector UInt8 3)) up0∧e 3=n8∧RV g.m w (v8:List Z2) n8∧OS 3006 g w 60 (v8:List Z2) n8∧e 4=Iz (l5)∧e 5=Iz (o0)∧e 14=.bool (l9)) (fun Q' hQ=>?_) (fun jJ oJ hR=>?_)
   ·replace h := hx
    clear hx;refine Za (Zo mB rfl (Zo yB rfl (Zx (Iz ((x0).length:Int)) (Gz underlying23 rfl zB) rfl (Z9 (.bool ((decide (o0 < ((x0).length:Int))))) rfl rfl rfl rfl (Zn (.bool ((decide (o0 < ((x0).length:Int))))) rfl rfl ?_)))));rcases Zt h with ⟨n9,h⟩ | ⟨n9,h⟩
    ·refine Zy (Iz (o0)) (Zk mB) rfl rfl n9 rfl (Zy (.bool ((decide (o0 < (12 : Int))))) (Gk rfl rfl rfl) rfl rfl n9 rfl (Zx (.bool ((decide (o0 < (12 : Int))))) (Zl (b := (decide (o0 < ((x0).length : Int)))) rfl (G4 n9 rfl)) rfl (Zb ?_)))
     obtain rfl:=sinj h;exact hQ _ _ ⟨tF,hfr,yB,zB,nD,oD,yD,zD,mB,rfl⟩
    ·refine Zz rfl rfl n9 rfl rfl (Zz rfl rfl n9 rfl rfl (Zx (.bool false) (Zl (b := (decide (o0 < ((x0).length : Int)))) rfl (G5 n9 rfl)) rfl (Zb ?_)))
     obtain rfl:=sinj h;exact hQ _ _ ⟨tF,hfr,yB,zB,nD,oD,yD,zD,mB,rfl⟩
   ·clear hx
    obtain ⟨uF,hfr,vF,xF,aE,bE,iE,yF,aG,vC⟩:=hR;rcases Zt h with ⟨lD,h⟩ | ⟨lD,h⟩
    ·refine Ta (Eq.trans (show ev _ _ = .bool (l9) from vC) (congrArg Value.bool lD)) ?_
     exact Zu (Zd (mH () _ _ ⟨uF,hfr,vF,xF,aE,bE,iE,yF,aG⟩ h))
    ·refine Gs (Eq.trans (show ev _ _ = .bool (l9) from vC) (congrArg Value.bool lD)) (Tn (Gu (Gu (G8 ?_))))
     obtain rfl:=sinj h;exact hQ _ _ ⟨uF,(n8),hfr,aE,bE,iE⟩
  ·rintro _ kJ xH ⟨oE, hfr, nB, g8, bG, cC, uC, cG, oB⟩ h
   obtain ⟨⟨aB,s4_252⟩,hx,h⟩:=Z1 h;refine Gl (fun e w=>∃ (g:Gh) (v3:Value),Fr gI wI g w∧e 0=up0∧RV g.m w (x0:List (Vector UInt8 3)) up0∧e 3=v3∧RV g.m w (aB:List Z2) v3∧OS 3006 g w 60 (aB:List Z2) v3∧e 4=Iz (s4_252)∧e 5=Iz (o0)) (fun Q' hQ=>?_) (fun lJ pJ hR=>?_)
   ·replace h := hx
    clear hx;refine Zr (Z5 (Zo cG rfl (Zo nB rfl (Zo oB rfl ?_))));obtain ⟨dF,rE,h⟩:=Z1 h;refine Zx (Tb up0 o0 3) (Zh (α:=Vector UInt8 3) underlying23 sizeOf72 rfl g8 rfl rE) rfl ?_;have eG:=Gx g8 rE;obtain ⟨mE,uE,h⟩:=Z1 h;refine Zx (Z8 (Tb up0 o0 3) (((0:Int):Int).toNat * 1)) (Tk (α:=UInt8) underlying72 sizeOf5 rfl (PT.ptr eG) rfl uE) rfl ?_;have yH:=Wo eG uE;refine Z4 rfl (Z6 (g:=oE) isAgg5 sizeOf5 rfl yH fun qJ zH=>?_);obtain rfl:=Qy.1 zH;refine Zx (Iz (((mE).toNat:Int))) (Wy underlying5 underlying3 rfl) rfl ?_;obtain ⟨t5,nH,h⟩:=Z1 h;refine Zx (Iz (t5)) (Gk rfl rfl (congrArg (Option.map (Value.int .i64)) nH)) rfl (Z9 (Iz ((w64 ((1:Int) + t5)))) rfl rfl rfl rfl (Zx (Iz ((w64 (l5 + (w64 ((1:Int) + t5)))))) (Gk rfl rfl rfl) rfl (Zx (Iz ((w64 (l5 + (w64 ((1:Int) + t5)))))) (Te rfl) rfl (Z3 ?_))));obtain ⟨eF,vE,h⟩:=Z1 h;have gG:=Gx g8 vE;obtain ⟨bD,xE,h⟩:=Z1 h;have aI:=Wo gG xE;refine Zs (x:=.tmp 32) isAgg5 sizeOf5 aI fun rJ bI oH=>?_;obtain rfl:=Qy.1 bI;obtain ⟨l8,pH,h⟩:=Z1 h;obtain ⟨rF,yE,h⟩:=Z1 h;have iG:=Gx g8 yE;obtain ⟨cD,zE,h⟩:=Z1 h;have dI:=Wo iG zE;refine Zs (x:=.tmp 39) isAgg5 sizeOf5 dI fun sJ iI qH=>?_;obtain rfl:=Qy.1 iI;obtain ⟨i6,sH,h⟩:=Z1 h;have jG:RV oE.m xH (⟨(w64 (l5 + (w64 ((1:Int) + t5)))),l8,0,0,(w64 ((1:Int) + i6))⟩:Z2) (.agg (Td [[Iz 0],[Iz 0],[Iz 0],[Iz 0],[Iz 0]] [(0,Iz ((w64 (l5 + (w64 ((1:Int) + t5)))))),(1,Iz (l8)),(4,Iz ((w64 ((1:Int) + i6))))]).flatten.toArray):=Tc rfl (Gm (rfl) (Gm (rfl) (Gm (Zw) (Gm (Zw) (Tf (rfl))))));generalize tH:(Value.agg (Td [[Iz 0],[Iz 0],[Iz 0],[Iz 0],[Iz 0]] [(0,Iz ((w64 (l5 + (w64 ((1:Int) + t5)))))),(1,Iz (l8)),(4,Iz ((w64 ((1:Int) + i6))))]).flatten.toArray)=kG at jG;refine To (g:=oE) (n:=19) [(18,(fun v g w=>RV g.m w ([(⟨(w64 (l5 + (w64 ((1:Int) + t5)))),l8,0,0,(w64 ((1:Int) + i6))⟩:Z2)]:List Z2) v∧OS 3045 g w 60 ([(⟨(w64 (l5 + (w64 ((1:Int) + t5)))),l8,0,0,(w64 ((1:Int) + i6))⟩:Z2)]:List Z2) v∧Qx v))] [0,1,2,3,4,5,6,7,8,9,10,11,12,13,14,15,16,17,18] rfl mixed (by kernel_rfl) (⟨fun _=>W0 Jf (W0 V1 (Wk _)),trivial⟩) (Z0 n8 rfl rfl (Zk bG) (Z0 (Iz ((w64 (l5 + (w64 ((1:Int) + t5)))))) rfl rfl (Zk rfl) (Z0 up0 rfl rfl (Zk nB) (Z0 (Iz (o0)) rfl rfl (Zk oB) (Z0 (Tb up0 o0 3) rfl rfl (Zh (α:=Vector UInt8 3) underlying23 sizeOf72 rfl g8 rfl vE) (Z0 (Z8 (Tb up0 o0 3) (((1:Int):Int).toNat * 1)) rfl rfl (Tk (α:=UInt8) underlying72 sizeOf5 rfl (PT.ptr gG) rfl xE) (Tm (c:=.int .u8 (UInt8.toNat (bD))) rfl rfl .plain (fun _ _ h=>h.ch) oH rfl (Z0 (Iz (((bD).toNat:Int))) rfl rfl (Wy underlying5 underlying3 rfl) (Z0 (Iz (l8)) rfl rfl (Gk rfl rfl (congrArg (Option.map (Value.int .i64)) pH)) (Z0 up0 rfl rfl (Zk nB) (Z0 (Iz (o0)) rfl rfl (Zk oB) (Z0 (Tb up0 o0 3) rfl rfl (Zh (α:=Vector UInt8 3) underlying23 sizeOf72 rfl g8 rfl yE) (Z0 (Z8 (Tb up0 o0 3) (((2:Int):Int).toNat * 1)) rfl rfl (Tk (α:=UInt8) underlying72 sizeOf5 rfl (PT.ptr iG) rfl zE) (Tm (c:=.int .u8 (UInt8.toNat (cD))) rfl rfl .plain (fun _ _ h=>h.ch) qH rfl (Z0 (Iz (((cD).toNat:Int))) rfl rfl (Wy underlying5 underlying3 rfl) (Z0 (Iz (i6)) rfl rfl (Gk rfl rfl (congrArg (Option.map (Value.int .i64)) sH)) ?_))))))))))))))));refine Z0 (Iz ((w64 ((1:Int) + i6)))) rfl rfl (Gk rfl rfl rfl) (Z0 kG rfl rfl (tH ▸ Tu (vs:=[(0,Iz ((w64 (l5 + (w64 ((1:Int) + t5)))))),(1,Iz (l8)),(4,Iz ((w64 ((1:Int) + i6))))]) [[Iz 0],[Iz 0],[Iz 0],[Iz 0],[Iz 0]] Px rfl rfl (.cons rfl (.cons rfl (.cons rfl .nil))) ⟨⟨_,rfl,rfl⟩,⟨⟨_,rfl,rfl⟩,⟨⟨_,rfl,rfl⟩,trivial⟩⟩⟩) (W7 (φ:=fun v g w=>RV g.m w ([(⟨(w64 (l5 + (w64 ((1:Int) + t5)))),l8,0,0,(w64 ((1:Int) + i6))⟩:Z2)]:List Z2) v∧OS 3045 g w 60 ([(⟨(w64 (l5 + (w64 ((1:Int) + t5)))),l8,0,0,(w64 ((1:Int) + i6))⟩:Z2)]:List Z2) v∧Qx v) rfl rfl .plain (fun g w hd=>Z7 (g:=g) 3045 (xs:=([(⟨(w64 (l5 + (w64 ((1:Int) + t5)))),l8,0,0,(w64 ((1:Int) + i6))⟩:Z2)]:List Z2)) (vs:=[kG]) underlying33 sizeOf60 zeroValue60 rfl rfl (.cons rfl .nil) (RVs.cons (jG.ext hd.1) RVs.nil) rfl rfl fun g' w' v hs o r hxt hfl=>⟨g',hxt,r,o,hfl⟩) (fun vB hv=>?_)))
    clear hv;refine J6 fun jI vJ hall=>?_;have hs:=hall.1;have hfr:=hfr.ext hs;have g8:=g8.ext hs;have cC:=cC.ext hs;have uC:=uC.ext hs;have kI:=(T1 (A:=fun g w=>RV g.m w ([(⟨(w64 (l5 + (w64 ((1:Int) + t5)))),l8,0,0,(w64 ((1:Int) + i6))⟩:Z2)]:List Z2) vB∧OS 3045 g w 60 ([(⟨(w64 (l5 + (w64 ((1:Int) + t5)))),l8,0,0,(w64 ((1:Int) + i6))⟩:Z2)]:List Z2) vB∧Qx vB) 18 rfl hall).1;have o249:=(T1 (A:=fun g w=>RV g.m w ([(⟨(w64 (l5 + (w64 ((1:Int) + t5)))),l8,0,0,(w64 ((1:Int) + i6))⟩:Z2)]:List Z2) vB∧OS 3045 g w 60 ([(⟨(w64 (l5 + (w64 ((1:Int) + t5)))),l8,0,0,(w64 ((1:Int) + i6))⟩:Z2)]:List Z2) vB∧Qx vB) 18 rfl hall).2.1;clear hs hall;obtain ⟨y251,uH,h⟩:=Z1 h;refine Z4 rfl (T5 (g:=jI) (i:=3006) underlying33 Vt rfl rfl uC cC rfl kI uH fun lI xJ lG hs o250 mI _=>?_);have hfr:=hfr.stp hs;have g8:=g8.stp hs;refine Zg lG rfl rfl (Zb (Tj ?_));obtain ⟨rfl,rfl⟩:=Hd h;exact hQ _ _ ⟨lI,(lG),hfr,nB,g8,rfl,mI,o250,rfl,oB⟩
   ·clear hx
    obtain ⟨nI,mG,hfr,sG,xG,yG,zG,aH,cH,gH⟩:=hR;refine Za (Zo gH rfl (Z9 (Iz ((w64 (o0 + (1:Int))))) rfl rfl rfl rfl (Zg (Iz ((w64 (o0 + (1:Int))))) rfl rfl ?_)));exact Z3 (lH (aB,s4_252,(w64 (o0 + (1:Int)))) _ _ ⟨nI,(mG),hfr,sG,xG,yG,zG,aH,cH,rfl⟩ h)
 ·clear hx
  obtain ⟨zJ,lE,hfr,jH,kH,pI⟩:=hR;refine Z5 (Zo jH rfl (Zg lE rfl rfl (Z3 (Ga ?_))));obtain rfl:=sinj h;exact Tg rfl rfl (rq lE) ⟨_,hfr,kH⟩
def f6 (x0:Vector UInt8 4):Option (PayList):=
 (idx (x0).toList (0:Int)).bind fun y3=>
 (idx (x0).toList (1:Int)).bind fun y7=>
 (Ha ((y7).toNat:Int) (60:Int)).bind fun o0=>
 (idx (x0).toList (0:Int)).bind fun y11=>
 (idx (x0).toList (2:Int)).bind fun l5=>
 (idx (x0).toList (3:Int)).bind fun i6=>
 (idx (x0).toList (1:Int)).bind fun n8=>
 (Ha (w64 ((4:Int) * ((n8).toNat:Int))) (1001:Int)).bind fun g8=>
 some ((⟨([(⟨0,((y3).toNat:Int)⟩:Gq),(⟨(w64 ((1:Int) + o0)),(w64 (((y11).toNat:Int) + ((l5).toNat:Int)))⟩:Gq)]:List Gq),[],((i6).toNat:Int),g8⟩:PayList))
theorem en6:Enters prog 6:=enters_of func6 (by kernel_rfl) rfl
theorem wk6 {gI:Gh} {wI:World} {x0:Vector UInt8 4} {up0:Value} (rp0:RV gI.m wI x0 up0) {r:PayList} (h:f6 x0=some r):Fn prog 6 #[up0] gI wI (fun m w v=>RV m w (r) v):=by
 unfold f6 at h;refine fnE func6 rfl rfl fun g0 hm hfr=>?_;have rp0:=RVc hm rp0;show E _ 30 none _ _ _ _ _;refine Z5 (Z4 rfl (Tv (g:=g0) rfl rp0 fun g1 w1 p1 hs q1=>?_));have hfr:=hfr.ext hs;refine Z4 rfl (G2 (g:=g1) 2002 (⟨[],[],0,0⟩:PayList) zeroValue37 (fun m w=>⟨_,(Gb G9 (Gb G9 (Gb Zw Zw))),rfl⟩) fun g2 w2 p2 hs b2 cb=>?_);have hfr:=hfr.stp hs;have q1:=q1.stp hs;have dF:OSF 2002 60200 0 g2 w2 74 37 ([]:List Gq) p2:=cb.osf (by rfl);have eF:OSF 2002 60201 1 g2 w2 3 37 ([]:List Int) p2:=cb.osf (by rfl);clear cb;refine Z3 (Z5 ?_);obtain ⟨y3,hy3,h⟩:=Z1 h;refine Zx (Z8 p1 (((0:Int):Int).toNat * 1)) (Tk (α:=UInt8) underlying24 sizeOf5 rfl (PT.ptr q1) rfl hy3) rfl ?_;have q4:=Wo q1 hy3;refine Z4 rfl (Z6 (g:=g2) isAgg5 sizeOf5 rfl q4 fun v5 r5=>?_);obtain rfl:=Qy.1 r5;refine Zx (Iz (((y3).toNat:Int))) (Wy underlying5 underlying3 rfl) rfl ?_;have r6:RV g2.m w2 (⟨0,((y3).toNat:Int)⟩:Gq) (.agg (Td [[Iz 0],[Iz 0]] [(1,Iz (((y3).toNat:Int)))]).flatten.toArray):=Tc rfl (Gm (Zw) (Tf (rfl)));generalize yD:(Value.agg (Td [[Iz 0],[Iz 0]] [(1,Iz (((y3).toNat:Int)))]).flatten.toArray)=v6 at r6;refine Zx v6 (yD ▸ Tu (vs:=[(1,Iz (((y3).toNat:Int)))]) [[Iz 0],[Iz 0]] Fc rfl rfl (.cons rfl .nil) ⟨⟨_,rfl,rfl⟩,trivial⟩) rfl ?_;obtain ⟨y7,vB,h⟩:=Z1 h;refine Zx (Z8 p1 (((1:Int):Int).toNat * 1)) (Tk (α:=UInt8) underlying24 sizeOf5 rfl (PT.ptr q1) rfl vB) rfl ?_;have q8:=Wo q1 vB;refine Z4 rfl (Z6 (g:=g2) isAgg5 sizeOf5 rfl q8 fun v9 r9=>?_);obtain rfl:=Qy.1 r9;refine Zx (Iz (((y7).toNat:Int))) (Wy underlying5 underlying3 rfl) rfl ?_;obtain ⟨o0,cD,h⟩:=Z1 h;refine Zx (Iz (o0)) (Gk rfl rfl (congrArg (Option.map (Value.int .i64)) cD)) rfl (Z9 (Iz ((w64 ((1:Int) + o0)))) rfl rfl rfl rfl ?_);obtain ⟨y11,aB,h⟩:=Z1 h;refine Zx (Z8 p1 (((0:Int):Int).toNat * 1)) (Tk (α:=UInt8) underlying24 sizeOf5 rfl (PT.ptr q1) rfl aB) rfl ?_;have zD:=Wo q1 aB;refine Z4 rfl (Z6 (g:=g2) isAgg5 sizeOf5 rfl zD fun rF aE=>?_);obtain rfl:=Qy.1 aE;refine Zx (Iz (((y11).toNat:Int))) (Wy underlying5 underlying3 rfl) rfl ?_;obtain ⟨l5,lB,h⟩:=Z1 h;refine Zx (Z8 p1 (((2:Int):Int).toNat * 1)) (Tk (α:=UInt8) underlying24 sizeOf5 rfl (PT.ptr q1) rfl lB) rfl ?_;have bE:=Wo q1 lB;refine Z4 rfl (Z6 (g:=g2) isAgg5 sizeOf5 rfl bE fun sF iE=>?_);obtain rfl:=Qy.1 iE;refine Zx (Iz (((l5).toNat:Int))) (Wy underlying5 underlying3 rfl) rfl (Z9 (Iz ((w64 (((y11).toNat:Int) + ((l5).toNat:Int))))) rfl rfl rfl rfl ?_);have yB:RV g2.m w2 (⟨(w64 ((1:Int) + o0)),(w64 (((y11).toNat:Int) + ((l5).toNat:Int)))⟩:Gq) (.agg (Td [[Iz 0],[Iz 0]] [(0,Iz ((w64 ((1:Int) + o0)))),(1,Iz ((w64 (((y11).toNat:Int) + ((l5).toNat:Int)))))]).flatten.toArray):=Tc rfl (Gm (rfl) (Tf (rfl)));generalize lD:(Value.agg (Td [[Iz 0],[Iz 0]] [(0,Iz ((w64 ((1:Int) + o0)))),(1,Iz ((w64 (((y11).toNat:Int) + ((l5).toNat:Int)))))]).flatten.toArray)=zB at yB;refine Zx zB (lD ▸ Tu (vs:=[(0,Iz ((w64 ((1:Int) + o0)))),(1,Iz ((w64 (((y11).toNat:Int) + ((l5).toNat:Int)))))]) [[Iz 0],[Iz 0]] Fc rfl rfl (.cons rfl (.cons rfl .nil)) ⟨⟨_,rfl,rfl⟩,⟨⟨_,rfl,rfl⟩,trivial⟩⟩) rfl (Z4 rfl (Z7 (g:=g2) 3020 (xs:=([(⟨0,((y3).toNat:Int)⟩:Gq),(⟨(w64 ((1:Int) + o0)),(w64 (((y11).toNat:Int) + ((l5).toNat:Int)))⟩:Gq)]:List Gq)) (vs:=[v6,zB]) underlying35 sizeOf74 zeroValue74 rfl rfl (.cons rfl (.cons rfl .nil)) (RVs.cons r6 (RVs.cons yB RVs.nil)) rfl rfl fun v8 tF mB hs o18 l9 hxt hfl=>?_));have hfr:=hfr.stp hs;have q1:=q1.stp hs;have b2:=b2.stp hs rfl;obtain ⟨i6,nB,h⟩:=Z1 h;refine Zx (Z8 p1 (((3:Int):Int).toNat * 1)) (Tk (α:=UInt8) underlying24 sizeOf5 rfl (PT.ptr q1) rfl nB) rfl ?_;have lE:=Wo q1 nB;refine Z4 rfl (Z6 (g:=v8) isAgg5 sizeOf5 rfl lE fun uF mE=>?_);obtain rfl:=Qy.1 mE;refine Zx (Iz (((i6).toNat:Int))) (Wy underlying5 underlying3 rfl) rfl ?_;obtain ⟨n8,oB,h⟩:=Z1 h;refine Zx (Z8 p1 (((1:Int):Int).toNat * 1)) (Tk (α:=UInt8) underlying24 sizeOf5 rfl (PT.ptr q1) rfl oB) rfl ?_
 have oE:=Wo q1 oB;refine Z4 rfl (Z6 (g:=v8) isAgg5 sizeOf5 rfl oE fun vF rE=>?_);obtain rfl:=Qy.1 rE;refine Zx (Iz (((n8).toNat:Int))) (Wy underlying5 underlying3 rfl) rfl (Z9 (Iz ((w64 ((4:Int) * ((n8).toNat:Int))))) rfl rfl rfl rfl ?_);obtain ⟨g8,nD,h⟩:=Z1 h;refine Zx (Iz (g8)) (Gk rfl rfl (congrArg (Option.map (Value.int .i64)) nD)) rfl ?_;have cC:RV v8.m _ (⟨([(⟨0,((y3).toNat:Int)⟩:Gq),(⟨(w64 ((1:Int) + o0)),(w64 (((y11).toNat:Int) + ((l5).toNat:Int)))⟩:Gq)]:List Gq),[],((i6).toNat:Int),g8⟩:PayList) (.agg (Td [[.slice none 0 0],[.slice none 0 0],[Iz 0],[Iz 0]] [(0,mB),(2,Iz (((i6).toNat:Int))),(3,Iz (g8))]).flatten.toArray):=Tc rfl (Gm (RV.cells l9) (Gm (G9) (Gm (rfl) (Tf (rfl)))));generalize l8:(Value.agg (Td [[.slice none 0 0],[.slice none 0 0],[Iz 0],[Iz 0]] [(0,mB),(2,Iz (((i6).toNat:Int))),(3,Iz (g8))]).flatten.toArray)=uC at cC;obtain ⟨uE,vE,t5,_,_⟩:=Ql l9;replace t5:=t5.symm;refine Zx uC (l8 ▸ Tu (vs:=[(0,mB),(2,Iz (((i6).toNat:Int))),(3,Iz (g8))]) [[.slice none 0 0],[.slice none 0 0],[Iz 0],[Iz 0]] Iu rfl rfl (.cons rfl (.cons rfl (.cons rfl .nil))) ⟨⟨_,rfl,Ti l9⟩,⟨⟨_,rfl,rfl⟩,⟨⟨_,rfl,rfl⟩,trivial⟩⟩⟩) rfl (Z4 rfl (Gg (g:=v8) (v:=uC) sizeOf37 rfl b2 rfl cC fun vC bD hs b27 cb=>?_));have zE:OSF 2002 60201 1 vC bD 3 37 ([]:List Int) p2:=cb.osf (by rw [← l8,← t5]; rfl);obtain ⟨xE,yE,n9,_,_⟩:=Ql l9;have cF:OSF 2002 3020 0 vC bD 74 37 (([(⟨0,((y3).toNat:Int)⟩:Gq),(⟨(w64 ((1:Int) + o0)),(w64 (((y11).toNat:Int) + ((l5).toNat:Int)))⟩:Gq)]:List Gq):List Gq) p2:=cb.osfv (by rw [← l8,n9]; rfl) (o18.stp hs rfl);clear cb;have hfr:=hfr.stp hs;refine Z3 (Ga ?_);obtain rfl:=sinj h;obtain ⟨ad28,cv28,hp28,oD,cr28⟩:=T9 isAgg37 sizeOf37 b27;exact D9 rfl rfl ((rq p2).trans hp28) oD ⟨_,hfr,cr28⟩
def f13 (x0:PayList):Option (PayList):=
 (apnd 16 (([]:List Gq)) ((x0).Rates)).bind fun y7=>
 (apnd 8 (([]:List Int)) ((x0).Extras)).bind fun o0=>
 some ({ { x0 with Rates:=y7 } with Extras:=o0 })
theorem en13:Enters prog 13:=enters_of func13 (by kernel_rfl) rfl
theorem wk13 {gI:Gh} {wI:World} {x0:PayList} {up0:Value} (rp0:RV gI.m wI x0 up0) {r:PayList} (h:f13 x0=some r):Fn prog 13 #[up0] gI wI (fun m w v=>RV m w (r) v):=by
 unfold f13 at h;refine fnE func13 rfl rfl fun g0 hm hfr=>?_;have rp0:=RVc hm rp0;show E _ 14 none _ _ _ _ _;refine Z5 (Z4 rfl (D_boxO (g:=g0) 2001 rfl rp0 fun g1 w1 p1 hs b1=>?_));have hfr:=hfr.stp hs;refine Z4 rfl (G2 (g:=g1) 2002 (⟨[],[],0,0⟩:PayList) zeroValue37 (fun m w=>⟨_,(Gb G9 (Gb G9 (Gb Zw Zw))),rfl⟩) fun g2 w2 p2 hs b2 cb=>?_);have hfr:=hfr.stp hs;have b1:=b1.stp hs rfl;have uC:OSF 2002 60200 0 g2 w2 74 37 ([]:List Gq) p2:=cb.osf (by rfl);have vC:OSF 2002 60201 1 g2 w2 3 37 ([]:List Int) p2:=cb.osf (by rfl);clear cb;refine Z3 (Zf (Hj (x:=.tmp 4) Wx.1 isAgg35 sizeOf35 b1 fun v5 r5 aB=>?_));obtain ⟨y7,lB,h⟩:=Z1 h;refine Hj (x:=.tmp 8) Kg.1 isAgg25 sizeOf25 b1 fun mB nB n8=>?_;obtain ⟨o0,l9,h⟩:=Z1 h;refine To (g:=g2) (n:=9) [(0,(fun v g w=>RV g.m w ([]:List Gq) v∧OS 3003 g w 74 ([]:List Gq) v∧Qx v)),(3,(fun v g w=>RV g.m w y7 v∧OS 3003 g w 74 y7 v)),(4,(fun v g w=>RV g.m w ([]:List Int) v∧OS 3007 g w 3 ([]:List Int) v∧Qx v)),(7,(fun v g w=>RV g.m w o0 v∧OS 3007 g w 3 o0 v))] [0,1,2,3,4,5,6,7,8] rfl mixed (by kernel_rfl) (⟨fun _=>W0 Jf (W0 V1 (Wk _)),fun _=>W0 Jf V1,fun _=>W0 Jf (W0 V1 (Wk _)),fun _=>W0 Jf V1,trivial⟩) (W7 (φ:=fun v g w=>RV g.m w ([]:List Gq) v∧OS 3003 g w 74 ([]:List Gq) v∧Qx v) rfl rfl .plain (fun g w hd=>Z7 (g:=g) 3003 (xs:=([]:List Gq)) (vs:=[]) underlying35 sizeOf74 zeroValue74 rfl rfl .nil RVs.nil rfl rfl fun g' w' v hs o r hxt hfl=>⟨g',hxt,r,o,hfl⟩) (fun v3 hv=>?_));clear hv;refine Z0 (Z8 p1 0) rfl rfl (Zc Y7 rfl (OB.ptr b1)) (Tm (c:=v5) rfl rfl .plain (fun _ _ h=>⟨h.ch,fun b hb _=>h.below.block b hb⟩) aB rfl (W7 (φ:=fun v g w=>RV g.m w y7 v∧OS 3003 g w 74 y7 v) rfl rfl .plain (fun g w hd=>T5 (g:=g) (i:=3003) underlying35 info_74 rfl rfl (D4 (A:=fun g w=>RV g.m w ([]:List Gq) v3∧OS 3003 g w 74 ([]:List Gq) v3∧Qx v3) 0 rfl rfl (K7 hd)).2.1 (D4 (A:=fun g w=>RV g.m w ([]:List Gq) v3∧OS 3003 g w 74 ([]:List Gq) v3∧Qx v3) 0 rfl rfl (K7 hd)).1 rfl (r5.ext hd.1) lB fun g' w' v hs o r hf=>⟨g',hf (D4 (A:=fun g w=>RV g.m w ([]:List Gq) v3∧OS 3003 g w 74 ([]:List Gq) v3∧Qx v3) 0 rfl rfl (K7 hd)).2.2,r,o⟩) (fun v6 hv=>?_)));clear hv;refine W7 (φ:=fun v g w=>RV g.m w ([]:List Int) v∧OS 3007 g w 3 ([]:List Int) v∧Qx v) rfl rfl .plain (fun g w hd=>Z7 (g:=g) 3007 (xs:=([]:List Int)) (vs:=[]) underlying25 sizeOf3 zeroValue3 rfl rfl .nil RVs.nil rfl rfl fun g' w' v hs o r hxt hfl=>⟨g',hxt,r,o,hfl⟩) (fun v8 hv=>?_);clear hv;refine Z0 (Z8 p1 1) rfl rfl (Zc Vv rfl (OB.ptr b1)) (Tm (c:=mB) rfl rfl .plain (fun _ _ h=>⟨h.ch,fun b hb _=>h.below.block b hb⟩) n8 rfl (W7 (φ:=fun v g w=>RV g.m w o0 v∧OS 3007 g w 3 o0 v) rfl rfl .plain (fun g w hd=>T5 (g:=g) (i:=3007) underlying25 Kr rfl rfl (D4 (A:=fun g w=>RV g.m w ([]:List Int) v8∧OS 3007 g w 3 ([]:List Int) v8∧Qx v8) 4 rfl rfl (K7 hd)).2.1 (D4 (A:=fun g w=>RV g.m w ([]:List Int) v8∧OS 3007 g w 3 ([]:List Int) v8∧Qx v8) 4 rfl rfl (K7 hd)).1 rfl (nB.ext hd.1) l9 fun g' w' v hs o r hf=>⟨g',hf (D4 (A:=fun g w=>RV g.m w ([]:List Int) v8∧OS 3007 g w 3 ([]:List Int) v8∧Qx v8) 4 rfl rfl (K7 hd)).2.2,r,o⟩) (fun l5 hv=>?_)));clear hv;refine Z0 (Z8 p1 0) rfl rfl (Zc Y7 rfl (OB.ptr b1)) (J6 fun oB bD hall=>?_);have hs:=hall.1;have hfr:=hfr.ext hs;have b1:=b1.ext hs;have b2:=b2.ext hs;have cD:=(T1 (A:=fun g w=>RV g.m w ([]:List Gq) v3∧OS 3003 g w 74 ([]:List Gq) v3∧Qx v3) 0 rfl hall).1;have o18:=(T1 (A:=fun g w=>RV g.m w ([]:List Gq) v3∧OS 3003 g w 74 ([]:List Gq) v3∧Qx v3) 0 rfl hall).2.1;have g8:=(T1 (A:=fun g w=>RV g.m w y7 v6∧OS 3003 g w 74 y7 v6) 3 rfl hall).1;have o21:=(T1 (A:=fun g w=>RV g.m w y7 v6∧OS 3003 g w 74 y7 v6) 3 rfl hall).2;have lD:=(T1 (A:=fun g w=>RV g.m w ([]:List Int) v8∧OS 3007 g w 3 ([]:List Int) v8∧Qx v8) 4 rfl hall).1;have o22:=(T1 (A:=fun g w=>RV g.m w ([]:List Int) v8∧OS 3007 g w 3 ([]:List Int) v8∧Qx v8) 4 rfl hall).2.1;have t5:=(T1 (A:=fun g w=>RV g.m w o0 l5∧OS 3007 g w 3 o0 l5) 7 rfl hall).1;have o25:=(T1 (A:=fun g w=>RV g.m w o0 l5∧OS 3007 g w 3 o0 l5) 7 rfl hall).2;clear hs hall;refine Z4 rfl (W2 (g:=oB) Wx sizeOf35 rfl b1 rfl g8 fun vB nD hs b27 rst hos=>?_)
 have i6:=hos _ _ 3003 74 (y7:List Gq) (Kq g8) rfl o21;clear rst hos;have hfr:=hfr.stp hs;have b2:=b2.stp hs rfl;have t5:=t5.stp hs;have o25:=o25.stp hs rfl;refine Zx (Z8 p1 1) (Zc Vv rfl (OB.ptr b27)) rfl (Z4 rfl (W2 (g:=vB) Kg sizeOf25 rfl b27 rfl t5 fun l8 w29 hs b29 rst hos=>?_));have i6:=i6.rest hs rst;have cC:=hos _ _ 3007 3 (o0:List Int) (Kq t5) rfl o25;clear rst hos;have hfr:=hfr.stp hs;have b2:=b2.stp hs rfl;refine Z3 (Z5 (Z4 rfl (Tp (g:=l8) isAgg37 sizeOf37 rfl b29 fun yB zB=>(Z4 rfl (Gg (g:=l8) (v:=yB) sizeOf37 rfl b2 rfl zB fun oD yD hs b31 cb=>?_)))));clear cb;have hfr:=hfr.stp hs;refine Z3 (Ga ?_);obtain rfl:=sinj h;obtain ⟨ad32,cv32,hp32,n9,cr32⟩:=T9 isAgg37 sizeOf37 b31;exact D9 rfl rfl ((rq p2).trans hp32) n9 ⟨_,hfr,cr32⟩
def f17 (x0:UInt8) (x1:List UInt16):Option (Design):=
 (Ha ((x0).toNat:Int) (7:Int)).bind fun y2=>
 Option.bind (α:=Design) (
  lp (σ:=Design × Int) (fun eF (l5,o0)=>
   jn (σ:=Unit) (fun _=>
    Option.bind (α:=Design) (
     Option.bind (α:=Int) (
      bif (decide (o0 < ((x1).length : Int))) then
       (idx x1 o0).bind fun zD=>
       (Va (1:Int) ((T3 (l5).Hooks))).bind fun xE=>
       (Ha ((zD).toNat:Int) xE).bind fun aE=>
       some (aE)
      else
       some ((1:Int))
      ) fun lB=>
     (apnd 8 ((l5).Rows) (([lB]:List Int))).bind fun yE=>
     some ({ l5 with Rows:=yE })
     ) fun mB=>
    eF (mB,(w64 (o0 + (1:Int))))
    ) fun rF=>
   Option.bind (α:=Bool) (
    bif (o0 == (0 : Int)) then
     some (true)
    else
     bif (decide (o0 < ((x1).length : Int))) then
      some ((decide (o0 < (12:Int))))
     else
      some (false)
    ) fun v8=>
   bif v8 then
    rF ()
   else
    some (l5)
   ) big ((⟨(w64 ((2:Int) + y2)),[]⟩:Design),(0:Int))
  ) fun nB=>
 some (nB)
theorem en17:Enters prog 17:=enters_of func17 (by kernel_rfl) rfl
theorem wk17 {gI:Gh} {wI:World} {x0:UInt8} {x1:List UInt16} {up1:Value} (rp1:RV gI.m wI x1 up1) {r:Design} (h:f17 x0 x1=some r):Fn prog 17 #[.int .u8 (UInt8.toNat (x0)),up1] gI wI (fun m w v=>RV m w (r) v):=by
 unfold f17 at h;refine fnE func17 rfl rfl fun g0 hm hfr=>?_;have rp1:=RVc hm rp1;show E _ 48 none _ _ _ _ _;refine Z5 (Z4 rfl (G2 (g:=g0) 2004 (⟨0,[]⟩:Design) zeroValue29 (fun m w=>⟨_,(Gb Zw G9),rfl⟩) fun g1 w1 p1 hs b1 cb=>?_));have hfr:=hfr.stp hs;have rp1:=rp1.stp hs;have uC:OSF 2004 60401 1 g1 w1 3 29 ([]:List Int) p1:=cb.osf (by rfl);clear cb;refine Z3 (Z5 (Zn (.int .u8 (UInt8.toNat (x0))) rfl rfl (Zx (Iz (((x0).toNat:Int))) (Wy underlying5 underlying3 rfl) rfl ?_)));obtain ⟨y2,hy2,h⟩:=Z1 h;refine Zx (Iz (y2)) (Gk rfl rfl (congrArg (Option.map (Value.int .i64)) hy2)) rfl (Z9 (Iz ((w64 ((2:Int) + y2)))) rfl rfl rfl rfl ?_);have r3:RV g1.m w1 (⟨(w64 ((2:Int) + y2)),[]⟩:Design) (.agg (Td [[Iz 0],[.slice none 0 0]] [(0,Iz ((w64 ((2:Int) + y2))))]).flatten.toArray):=Tc rfl (Gm (rfl) (Tf (G9)));generalize hv3:(Value.agg (Td [[Iz 0],[.slice none 0 0]] [(0,Iz ((w64 ((2:Int) + y2))))]).flatten.toArray)=v3 at r3;refine Zx v3 (hv3 ▸ Tu (vs:=[(0,Iz ((w64 ((2:Int) + y2))))]) [[Iz 0],[.slice none 0 0]] lay_29 rfl rfl (.cons rfl .nil) ⟨⟨_,rfl,rfl⟩,trivial⟩) rfl (Z4 rfl (G2 (g:=g1) 2005 (⟨0,[]⟩:Design) zeroValue29 (fun m w=>⟨_,(Gb Zw G9),rfl⟩) fun g4 w4 p4 hs b4 cb=>?_));have hfr:=hfr.stp hs;have rp1:=rp1.stp hs;have uC:=uC.stp hs rfl;have b1:=b1.stp hs rfl;have r3:=r3.stp hs;have jJ:OSF 2005 60501 1 g4 w4 3 29 ([]:List Int) p4:=cb.osf (by rfl);clear cb;refine Z4 rfl (Gg (g:=g4) (v:=v3) sizeOf29 rfl b4 rfl r3 fun g5 w5 hs b5 cb=>?_);have sH:OSF 2005 60501 1 g5 w5 3 29 ([]:List Int) p4:=cb.osf (by rw [← hv3]; rfl);clear cb;have hfr:=hfr.stp hs;have rp1:=rp1.stp hs;have uC:=uC.stp hs rfl;have b1:=b1.stp hs rfl;refine Z3 ?_;obtain ⟨nB,hx,h⟩:=Z1 h;refine Gl (fun e w=>∃ (g:Gh) ,Fr gI wI g w∧e 4=p1∧OB 2004 g w 29 ((⟨0,[]⟩:Design):Design) p1∧OSF 2004 60401 1 g w 3 29 (((⟨0,[]⟩:Design)).Rows) p1∧e 5=p4∧OB 2005 g w 29 (nB:Design) p4∧OSF 2005 60501 1 g w 3 29 ((nB).Rows) p4) (fun Q' hQ=>?_) (fun lI kJ hR=>?_)
 ·replace h := hx
  clear hx;refine Z5 (Zg (Iz (0)) rfl rfl (Z3 (Zr (Q0 h (fun (s:Design × Int) e w=>∃ (g:Gh) ,Fr gI wI g w∧e 1=up1∧RV g.m w (x1:List UInt16) up1∧e 4=p1∧OB 2004 g w 29 ((⟨0,[]⟩:Design):Design) p1∧OSF 2004 60401 1 g w 3 29 (((⟨0,[]⟩:Design)).Rows) p1∧e 5=p4∧OB 2005 g w 29 (s.1:Design) p4∧OSF 2005 60501 1 g w 3 29 ((s.1).Rows) p4∧e 6=Iz (s.2)) ⟨g5,hfr,rfl,rp1,rfl,b1,uC,rfl,b5,sH,rfl⟩ (fun X152 eF jH=>?_)))));rintro ⟨l5,o0⟩ mI lJ ⟨zE,hfr,oB,vB,vC,bD,u4_1_153,cD,lD,u5_1_153,l9⟩ h;refine Zq h (fun (s:Unit) e w=>∃ (g:Gh) ,Fr gI wI g w∧e 1=up1∧RV g.m w (x1:List UInt16) up1∧e 4=p1∧OB 2004 g w 29 ((⟨0,[]⟩:Design):Design) p1∧OSF 2004 60401 1 g w 3 29 (((⟨0,[]⟩:Design)).Rows) p1∧e 5=p4∧OB 2005 g w 29 (l5:Design) p4∧OSF 2005 60501 1 g w 3 29 ((l5).Rows) p4∧e 6=Iz (o0)) (fun X160 rF kH h=>?_) ?_
  ·obtain ⟨v8, hx, h⟩ := Z1 h
   refine Gl (fun e w=>∃ (g:Gh) ,Fr gI wI g w∧e 1=up1∧RV g.m w (x1:List UInt16) up1∧e 4=p1∧OB 2004 g w 29 ((⟨0,[]⟩:Design):Design) p1∧OSF 2004 60401 1 g w 3 29 (((⟨0,[]⟩:Design)).Rows) p1∧e 5=p4∧OB 2005 g w 29 (l5:Design) p4∧OSF 2005 60501 1 g w 3 29 ((l5).Rows) p4∧e 6=Iz (o0)∧e 24=.bool (v8)) (fun Q' hQ=>?_) (fun nI mJ hR=>?_)
   ·replace h := hx
    clear hx;refine Za (Zo l9 rfl (Z9 (.bool ((o0 == (0:Int)))) rfl rfl rfl rfl (Zn (.bool ((o0 == (0:Int)))) rfl rfl ?_)));rcases Zt h with ⟨t5,h⟩ | ⟨t5,h⟩
    ·refine Zz rfl rfl t5 rfl rfl ?_
     iterate 4 refine Zz rfl rfl t5 rfl rfl ?_
     refine B7 (.off rfl rfl) rfl (B7 (.off rfl rfl) rfl (Zz rfl rfl t5 rfl rfl (Zx (.bool true) (Zl (b:=(o0 == (0:Int))) rfl (G4 t5 rfl)) rfl (Zb ?_))));obtain rfl:=sinj h;exact hQ _ _ ⟨zE,hfr,oB,vB,vC,bD,u4_1_153,cD,lD,u5_1_153,l9,rfl⟩
    ·refine Zy (Iz (o0)) (Zk l9) rfl rfl t5 rfl (Zy up1 (Zk oB) rfl rfl t5 rfl (Zy (Iz ((x1).length : Int)) (Gz underlying22 rfl vB) rfl rfl t5 rfl (Zy (.bool ((decide (o0 < ((x1).length : Int))))) (Gk rfl rfl rfl) rfl rfl t5 rfl (Zy (.bool ((decide (o0 < ((x1).length : Int))))) (Zk rfl) rfl rfl t5 rfl ?_))))
     rcases Zt h with ⟨aB,h⟩ | ⟨aB,h⟩
     ·refine Zy (Iz (o0)) (Zk l9) rfl rfl aB rfl (Zy (.bool ((decide (o0 < (12 : Int))))) (Gk rfl rfl rfl) rfl rfl aB rfl (Zy (.bool ((decide (o0 < (12 : Int))))) (Zl (b := (decide (o0 < ((x1).length : Int)))) rfl (G4 aB rfl)) rfl rfl t5 rfl (Zx (.bool ((decide (o0 < (12 : Int))))) (Zl (b := (o0 == (0 : Int))) rfl (G5 t5 rfl)) rfl (Zb ?_))))
      obtain rfl:=sinj h;exact hQ _ _ ⟨zE,hfr,oB,vB,vC,bD,u4_1_153,cD,lD,u5_1_153,l9,rfl⟩
     ·refine Zz rfl rfl aB rfl rfl (Zz rfl rfl aB rfl rfl (Zy (.bool false) (Zl (b := (decide (o0 < ((x1).length : Int)))) rfl (G5 aB rfl)) rfl rfl t5 rfl (Zx (.bool false) (Zl (b := (o0 == (0 : Int))) rfl (G5 t5 rfl)) rfl (Zb ?_))))
      obtain rfl:=sinj h;exact hQ _ _ ⟨zE,hfr,oB,vB,vC,bD,u4_1_153,cD,lD,u5_1_153,l9,rfl⟩
   ·clear hx
    obtain ⟨sF,hfr,tF,uF,lE,mE,u4_1_165,oE,rE,u5_1_165,vF,yD⟩:=hR;rcases Zt h with ⟨bE,h⟩ | ⟨bE,h⟩
    ·refine Ta (Eq.trans (show ev _ _ = .bool (v8) from yD) (congrArg Value.bool bE)) ?_
     exact Zu (Zd (kH () _ _ ⟨sF,hfr,tF,uF,lE,mE,u4_1_165,oE,rE,u5_1_165,vF⟩ h))
    ·refine Gs (Eq.trans (show ev _ _ = .bool (v8) from yD) (congrArg Value.bool bE)) (Tn (Gu (Gu (G8 ?_))))
     obtain rfl:=sinj h;exact hQ _ _ ⟨sF,hfr,lE,mE,u4_1_165,oE,rE,u5_1_165⟩
  ·rintro _ pI nJ ⟨xF, hfr, yB, g8, uE, zB, u4_1_167, nD, n9, u5_1_167, cC⟩ h
   obtain ⟨mB,hx,h⟩:=Z1 h;refine Gl (fun e w=>∃ (g:Gh) ,Fr gI wI g w∧e 1=up1∧RV g.m w (x1:List UInt16) up1∧e 4=p1∧OB 2004 g w 29 ((⟨0,[]⟩:Design):Design) p1∧OSF 2004 60401 1 g w 3 29 (((⟨0,[]⟩:Design)).Rows) p1∧e 5=p4∧OB 2005 g w 29 (mB:Design) p4∧OSF 2005 60501 1 g w 3 29 ((mB).Rows) p4∧e 6=Iz (o0)) (fun Q' hQ=>?_) (fun qI oJ hR=>?_)
   ·replace h := hx
    clear hx;refine Zr (Z5 (Zg (Iz (1)) rfl rfl (Z3 ?_)));obtain ⟨lB,hx,h⟩:=Z1 h;refine Gl (fun e w=>∃ (g:Gh) ,Fr gI wI g w∧e 1=up1∧RV g.m w (x1:List UInt16) up1∧e 4=p1∧OB 2004 g w 29 ((⟨0,[]⟩:Design):Design) p1∧OSF 2004 60401 1 g w 3 29 (((⟨0,[]⟩:Design)).Rows) p1∧e 5=p4∧OB 2005 g w 29 (l5:Design) p4∧OSF 2005 60501 1 g w 3 29 ((l5).Rows) p4∧e 6=Iz (o0)∧e 7=Iz (lB)) (fun Q' hQ=>?_) (fun sI pJ hR=>?_)
    ·replace h := hx
     clear hx;refine Z5 (Zo cC rfl (Zo yB rfl (Zx (Iz ((x1).length:Int)) (Gz underlying22 rfl g8) rfl (Z9 (.bool ((decide (o0 < ((x1).length:Int))))) rfl rfl rfl rfl (Z3 ?_)))));rcases Zt h with ⟨iE,h⟩ | ⟨iE,h⟩
     ·refine G6 iE rfl ?_
      obtain ⟨zD,dF,h⟩:=Z1 h;have tH:=Gx g8 dF;refine Zs (x:=.tmp 33) isAgg42 sizeOf42 tH fun qJ uH lH=>?_;obtain rfl:=RV_u16.1 uH;refine Hj (x:=.tmp 36) Wr.1 isAgg3 sizeOf3 n9 fun rJ xH mH=>?_;obtain rfl:=Zj.1 xH;obtain ⟨xE,nH,h⟩:=Z1 h;obtain ⟨aE,oH,h⟩:=Z1 h;refine To (g:=xF) (n:=11) [] [0,1,2,3,4,5,6,7,8,9,10] rfl mixed (by kernel_rfl) trivial (Z0 up1 rfl rfl (Zk yB) (Z0 (Iz (o0)) rfl rfl (Zk cC) (Z0 (Tb up1 o0 1) rfl rfl (Zh (α:=UInt16) underlying22 sizeOf42 rfl g8 rfl dF) (Tm (c:=.int .u16 (UInt16.toNat (zD))) rfl rfl .plain (fun _ _ h=>h.ch) lH rfl (Z0 (Iz (((zD).toNat:Int))) rfl rfl (Pi underlying42 underlying3 rfl) (Z0 (Z8 p4 0) rfl rfl (Zc Yi nD (OB.ptr n9)) (Tm (c:=Iz ((l5).Hooks)) rfl rfl .plain (fun _ _ h=>⟨h.ch,fun b hb _=>h.below.block b hb⟩) mH rfl (Z0 (.int .u64 (T3 (l5).Hooks)) rfl rfl (Jj underlying3 underlying76 rfl) (Z0 (Iz (xE)) rfl rfl (Ij rfl rfl nH) (Z0 (Iz (aE)) rfl rfl (Gk rfl rfl (congrArg (Option.map (Value.int .i64)) oH)) (Z0 (Iz (aE)) rfl rfl (Te rfl) (Ka fun yH sJ hs=>?_))))))))))));have hfr:=hfr.ext hs;have g8:=g8.ext hs;have u4_1_167:=u4_1_167.ext hs;have zB:=zB.ext hs;have u5_1_167:=u5_1_167.ext hs;have n9:=n9.ext hs;clear hs;refine Zb ?_;obtain rfl:=sinj h;exact hQ _ _ ⟨yH,hfr,yB,g8,uE,zB,u4_1_167,nD,n9,u5_1_167,cC,rfl⟩
     ·refine G7 iE rfl (Zu ?_)
      obtain rfl:=sinj h;exact hQ _ _ ⟨xF,hfr,yB,g8,uE,zB,u4_1_167,nD,n9,u5_1_167,cC,rfl⟩
    ·clear hx
     obtain ⟨yF,hfr,aG,l8,bG,n8,u4_1_288,oD,i6,u5_1_288,cG,eG⟩:=hR;refine Za (Zx (Z8 p4 1) (Zc Ye oD (OB.ptr i6)) rfl (Z4 rfl (U4 (g:=yF) Wq.1 isAgg25 sizeOf25 rfl i6 u5_1_288 fun vJ cF o290=>(Zo eG rfl (Z4 rfl (Z7 (g:=yF) 3044 (xs:=([lB]:List Int)) (vs:=[Iz (lB)]) underlying25 sizeOf3 zeroValue3 rfl rfl (.cons rfl .nil) (RVs.cons (Zj.2 rfl) RVs.nil) rfl rfl fun zH xJ zJ hs o291 aI hxt hfl=>?_))))));have hfr:=hfr.stp hs;have l8:=l8.stp hs;have u4_1_288:=u4_1_288.stp hs rfl;have n8:=n8.stp hs rfl;have i6:=i6.stp hs rfl;have cF:=cF.stp hs;have o290:=o290.stp hs rfl;obtain ⟨yE,pH,h⟩:=Z1 h;refine Z4 rfl (T5 (g:=zH) (i:=60501) underlying25 Kr rfl rfl o290 cF rfl aI pH fun bI aK bK hs o292 gG _=>?_);have hfr:=hfr.stp hs;have l8:=l8.stp hs;have u4_1_288:=u4_1_288.stp hs rfl;have n8:=n8.stp hs rfl;have i6:=i6.stp hs rfl;refine Zx (Z8 p4 1) (Zc Ye oD (OB.ptr i6)) rfl (Z4 rfl (W2 (g:=bI) Wq sizeOf25 rfl i6 rfl gG fun dI cK hs b295 rst hos=>?_));have iG:=hos _ _ 60501 3 (yE:List Int) (Kq gG) rfl o292;clear rst hos;have hfr:=hfr.stp hs;have l8:=l8.stp hs;have u4_1_288:=u4_1_288.stp hs rfl;have n8:=n8.stp hs rfl;refine Zb (Tj ?_);obtain rfl:=sinj h;exact hQ _ _ ⟨dI,hfr,aG,l8,bG,n8,u4_1_288,oD,b295,iG,cG⟩
   ·clear hx
    obtain ⟨iI,hfr,jG,kG,lG,mG,u4_1_296,sG,xG,u5_1_296,yG⟩:=hR;refine Za (Zo yG rfl (Z9 (Iz ((w64 (o0 + (1:Int))))) rfl rfl rfl rfl (Zg (Iz ((w64 (o0 + (1:Int))))) rfl rfl ?_)));exact Z3 (jH (mB,(w64 (o0 + (1:Int)))) _ _ ⟨iI,hfr,jG,kG,lG,mG,u4_1_296,sG,xG,u5_1_296,rfl⟩ h)
 ·clear hx
  obtain ⟨zG,hfr,vE,aH,u4_1_297,cH,gH,u5_1_297⟩:=hR;refine Z5 (Z4 rfl (Tp (g:=zG) isAgg29 sizeOf29 cH gH fun jI kI=>(Z4 rfl (Gg (g:=zG) (v:=jI) sizeOf29 vE aH rfl kI fun dK lK hs b299 cb=>?_))));clear cb;have hfr:=hfr.stp hs;refine Z3 (Ga ?_);obtain rfl:=sinj h;obtain ⟨ad300,cv300,hp300,qH,cr300⟩:=T9 isAgg29 sizeOf29 b299;exact D9 rfl rfl ((show _=p1 from vE).trans hp300) qH ⟨_,hfr,cr300⟩
def f25 (x0:List Int):Option ((List Int)):=
 (apnd 8 (([]:List Int)) x0).bind fun y3=>
 some (y3)
theorem en25:Enters prog 25:=enters_of func25 (by kernel_rfl) rfl
theorem wk25 {gI:Gh} {wI:World} {x0:List Int} {up0:Value} (rp0:RV gI.m wI x0 up0) {r:(List Int)} (h:f25 x0=some r):Fn prog 25 #[up0] gI wI (fun m w v=>RV m w (r) v):=by
 unfold f25 at h;refine fnE func25 rfl rfl fun g0 hm hfr=>?_;have rp0:=RVc hm rp0;show E _ 6 none _ _ _ _ _;refine Z5 (Zg (.slice none 0 0) rfl rfl (Z3 (Z5 (Z4 rfl (Z7 (g:=g0) 3003 (xs:=([]:List Int)) (vs:=[]) underlying25 sizeOf3 zeroValue3 rfl rfl .nil RVs.nil rfl rfl fun g1 w1 v1 hs o1 r1 hxt hfl=>?_)))));have hfr:=hfr.stp hs;have rp0:=rp0.stp hs;refine Zn up0 rfl rfl ?_;obtain ⟨y3,hy3,h⟩:=Z1 h;refine Z4 rfl (T5 (g:=g1) (i:=3003) underlying25 Kr rfl rfl o1 r1 rfl rp0 hy3 fun g2 w2 v2 hs o2 r2 _=>?_);have hfr:=hfr.stp hs;refine Zg v2 rfl rfl (Z3 (Ga ?_));obtain rfl:=sinj h;exact Tg rfl rfl (rq v2) ⟨_,hfr,r2⟩
def f32 (x0:Gy) (x1:Int) (x2:Int):Option (Int):=
 (Sk (w64 (x1 * ((x0).PayList).Cap)) (1000:Int)).bind fun y8=>
 some ((Hb (w64 (x2 * ((x0).PayList).Fine)) y8))
theorem en32:Enters prog 32:=enters_of func32 (by kernel_rfl) rfl
theorem wk32 {gI:Gh} {wI:World} {x0:Gy} {x1:Int} {x2:Int} {up0:Value} (rp0:RV gI.m wI x0 up0) {r:Int} (h:f32 x0 x1 x2=some r):Fn prog 32 #[up0,Iz (x1),Iz (x2)] gI wI (fun _ _ v=>v=Iz (r)):=by
 unfold f32 at h;refine fnE func32 rfl rfl fun g0 hm hfr=>?_;have rp0:=RVc hm rp0;show E _ 19 none _ _ _ _ _;refine Z5 (Z4 rfl (Tv (g:=g0) rfl rp0 fun g1 w1 p1 hs q1=>?_));have hfr:=hfr.ext hs;refine Zg (Iz (0)) rfl rfl (Z3 (Z5 (Zn (Iz (x2)) rfl rfl (Zx (Z8 p1 0) (Zc Jh rfl (PT.ptr q1)) rfl ?_))));have q2:=Zm (Qs).1 q1;refine Zx (Z8 (Z8 p1 0) 2) (Zc Mw rfl (PT.ptr q2)) rfl ?_;have q3:=Zm (U7).1 q2;refine Z4 rfl (Z6 (g:=g1) isAgg3 sizeOf3 rfl q3 fun v4 r4=>?_);obtain rfl:=Zj.1 r4;refine Z9 (Iz ((w64 (x2 * ((x0).PayList).Fine)))) rfl rfl rfl rfl (Zn (Iz (x1)) rfl rfl (Zx (Z8 p1 0) (Zc Jh rfl (PT.ptr q1)) rfl ?_));have q5:=Zm (Qs).1 q1;refine Zx (Z8 (Z8 p1 0) 3) (Zc Mq rfl (PT.ptr q5)) rfl ?_;have q6:=Zm (Vf).1 q5;refine Z4 rfl (Z6 (g:=g1) isAgg3 sizeOf3 rfl q6 fun v7 r7=>?_);obtain rfl:=Zj.1 r7;refine Z9 (Iz ((w64 (x1 * ((x0).PayList).Cap)))) rfl rfl rfl rfl ?_;obtain ⟨y8,o0,h⟩:=Z1 h;refine Zx (Iz (y8)) (Gk rfl rfl (congrArg (Option.map (Value.int .i64)) o0)) rfl (Zx (Iz (Hb (w64 (x2 * ((x0).PayList).Fine)) y8)) (Oh rfl rfl) rfl (Zg (Iz (Hb (w64 (x2 * ((x0).PayList).Fine)) y8)) rfl rfl (Z3 (Ga ?_))));obtain rfl:=sinj h;exact Tg rfl rfl (rq (Iz (Hb (w64 (x2 * ((x0).PayList).Fine)) y8))) ⟨_,hfr,rfl⟩
def f35 (x0:List Int) (x1:List Int):Option (Bool):=
 jn (σ:=Unit) (fun _=>
  jn (σ:=Unit) (fun _=>
   some (true)
   ) fun k53=>
  lp (σ:=Int) (fun k54 o0=>
   jn (σ:=Unit) (fun _=>
    jn (σ:=Unit) (fun _=>
     k54 ((w64 (o0 + (1:Int))))
     ) fun cD=>
    (idx x0 o0).bind fun n8=>
    (idx x1 o0).bind fun v8=>
    bif (n8 != v8) then
     some (false)
    else
     cD ()
    ) fun k57=>
   bif (decide (o0 < ((x0).length : Int))) then
    k57 ()
   else
    k53 ()
   ) big ((0:Int))
  ) fun k2=>
 bif (((x0).length : Int) != ((x1).length : Int)) then
  some (false)
 else
  k2 ()
theorem en35:Enters prog 35:=enters_of func35 (by kernel_rfl) rfl
theorem wk35 {gI:Gh} {wI:World} {x0:List Int} {x1:List Int} {up0:Value} (rp0:RV gI.m wI x0 up0) {up1:Value} (rp1:RV gI.m wI x1 up1) {r:Bool} (h:f35 x0 x1=some r):Fn prog 35 #[up0,up1] gI wI (fun _ _ v=>v=.bool (r)):=by
 unfold f35 at h;refine fnE func35 rfl rfl fun g0 hm hfr=>?_;have rp0:=RVc hm rp0;have rp1:=RVc hm rp1;show E _ 26 none _ _ _ _ _;refine Z5 (Zg (.bool false) rfl rfl (Z3 (Zq h (fun (s:Unit) e w=>∃ (g:Gh) ,Fr gI wI g w∧e 0=up0∧RV g.m w (x0:List Int) up0∧e 1=up1∧RV g.m w (x1:List Int) up1) (fun X2 k2 hk2 h=>?_) ?_)))
 ·refine Z5 (Zn up0 rfl rfl (Zx (Iz ((x0).length : Int)) (Gz underlying25 rfl rp0) rfl (Zn up1 rfl rfl (Zx (Iz ((x1).length : Int)) (Gz underlying25 rfl rp1) rfl (Z9 (.bool ((((x0).length : Int) != ((x1).length : Int)))) rfl rfl rfl rfl (Z3 ?_))))))
  rcases Zt h with ⟨hc3,h⟩ | ⟨hc3,h⟩
  ·refine G6 hc3 rfl (Z5 (Zg (.bool false) rfl rfl (Z3 (Ga (Gp ?_)))))
   obtain rfl:=sinj h;exact Tg rfl rfl (rq (.bool false)) ⟨_,hfr,rfl⟩
  ·refine G7 hc3 rfl ?_
   exact Zu (Zd (hk2 () _ _ ⟨g0,hfr,rfl,rp0,rfl,rp1⟩ h))
 ·rintro _ xF w4 ⟨g4, hfr, nD, oD, yD, zD⟩ h
  refine Zq h (fun (s:Unit) e w=>∃ (g:Gh) ,Fr gI wI g w) (fun X53 k53 aE h=>?_) ?_
  ·refine Z5 (Zg (Iz (0)) rfl rfl (Z3 (Zr (Q0 h (fun (s : Int) e w => ∃ (g : Gh) , Fr gI wI g w ∧ e 0 = up0 ∧ RV g.m w (x0 : List Int) up0 ∧ e 1 = up1 ∧ RV g.m w (x1 : List Int) up1 ∧ e 5 = Iz (s)) ⟨g4, hfr, nD, oD, yD, zD, rfl⟩ (fun X54 k54 bE => ?_)))))
   rintro o0 rF yF ⟨lD,hfr,l9,n9,vC,bD,aB⟩ h;refine Zq h (fun (s:Unit) e w=>∃ (g:Gh) ,Fr gI wI g w∧e 0=up0∧RV g.m w (x0:List Int) up0∧e 1=up1∧RV g.m w (x1:List Int) up1∧e 5=Iz (o0)) (fun X57 k57 iE h=>?_) ?_
   ·refine Z5 (Zo aB rfl (Zo l9 rfl (Zx (Iz ((x0).length : Int)) (Gz underlying25 rfl n9) rfl (Z9 (.bool ((decide (o0 < ((x0).length : Int))))) rfl rfl rfl rfl (Z3 ?_)))))
    rcases Zt h with ⟨l8,h⟩ | ⟨l8,h⟩
    ·refine G6 l8 rfl ?_
     exact Zu (Zd (iE () _ _ ⟨lD,hfr,l9,n9,vC,bD,aB⟩ h))
    ·refine G7 l8 rfl (Tn (Gu (Gu (G8 ?_))))
     exact Zd (aE () _ _ ⟨lD,hfr⟩ h)
   ·rintro _ sF aG ⟨uE, hfr, lB, l5, mB, t5, i6⟩ h
    refine Zq h (fun (s:Unit) e w=>∃ (g:Gh) ,Fr gI wI g w∧e 0=up0∧RV g.m w (x0:List Int) up0∧e 1=up1∧RV g.m w (x1:List Int) up1∧e 5=Iz (o0)) (fun X81 cD lE h=>?_) ?_
    ·refine Zr (Zf ?_)
     obtain ⟨n8,nB,h⟩:=Z1 h;have vE:=Gx l5 nB;refine Zs (x:=.tmp 19) isAgg3 sizeOf3 vE fun bG xE mE=>?_;obtain rfl:=Zj.1 xE;obtain ⟨v8,oB,h⟩:=Z1 h;have yE:=Gx t5 oB;refine Zs (x:=.tmp 23) isAgg3 sizeOf3 yE fun cG zE oE=>?_;obtain rfl:=Zj.1 zE;refine To (g:=uE) (n:=9) [] [0,1,2,3,4,5,6,7,8] rfl mixed (by kernel_rfl) trivial (Z0 up0 rfl rfl (Zk lB) (Z0 (Iz (o0)) rfl rfl (Zk i6) (Z0 (Tb up0 o0 1) rfl rfl (Zh (α:=Int) underlying25 sizeOf3 rfl l5 rfl nB) (Tm (c:=Iz (n8)) rfl rfl .plain (fun _ _ h=>h.ch) mE rfl (Z0 up1 rfl rfl (Zk mB) (Z0 (Iz (o0)) rfl rfl (Zk i6) (Z0 (Tb up1 o0 1) rfl rfl (Zh (α:=Int) underlying25 sizeOf3 rfl t5 rfl oB) (Tm (c:=Iz (v8)) rfl rfl .plain (fun _ _ h=>h.ch) oE rfl (Z0 (.bool ((n8 != v8))) rfl rfl (Gk rfl rfl rfl) (Ka fun cF eG hs=>?_))))))))));have hfr:=hfr.ext hs;have l5:=l5.ext hs;have t5:=t5.ext hs;clear hs;refine Z3 ?_;rcases Zt h with ⟨g8,h⟩ | ⟨g8,h⟩
     ·refine G6 g8 rfl (Z5 (Zg (.bool false) rfl rfl (Z3 (Ga (Tl (Gp (Gp (Tl (Gp ?_)))))))))
      obtain rfl:=sinj h;exact Tg rfl rfl (rq (.bool false)) ⟨_,hfr,rfl⟩
     ·refine G7 g8 rfl ?_
      exact Zu (Tj (Zd (lE () _ _ ⟨cF,hfr,lB,l5,mB,t5,i6⟩ h)))
    ·rintro _ dF tF ⟨rE, hfr, vB, yB, zB, cC, uC⟩ h
     refine Za (Zo uC rfl (Z9 (Iz ((w64 (o0 + (1:Int))))) rfl rfl rfl rfl (Zg (Iz ((w64 (o0 + (1:Int))))) rfl rfl ?_)));exact Z3 (bE ((w64 (o0 + (1:Int)))) _ _ ⟨rE,hfr,vB,yB,zB,cC,rfl⟩ h)
  ·rintro _ eF uF ⟨vF, hfr⟩ h
   refine Z5 (Zg (.bool true) rfl rfl (Z3 (Ga ?_)));obtain rfl:=sinj h;exact Tg rfl rfl (rq (.bool true)) ⟨_,hfr,rfl⟩
def f43 (x0:Vector UInt8 8):Option (UInt8 × UInt8):=
 Option.bind (α:=UInt8 × UInt8) (
  (cut ((x0).toList) 0 (6:Int)).bind fun t5=>
  lp (σ:=UInt8 × UInt8 × Int) (fun zD (i6,g8,o0)=>
   bif (decide (o0 < ((t5).length : Int))) then
    Option.bind (α:=UInt8 × UInt8) (
     (idx t5 o0).bind fun l5=>
     some ((i6 + l5),(g8 + ((u8w ((w64 (o0 + (1:Int))))) * l5)))
     ) fun (v8,l9)=>
    zD (v8,l9,(w64 (o0 + (1:Int))))
   else
    some (i6,g8)
   ) big ((0:UInt8),(0:UInt8),(0:Int))
  ) fun (l8,n8)=>
 some (l8,n8)
theorem en43:Enters prog 43:=enters_of func43 (by kernel_rfl) rfl
theorem wk43 {gI:Gh} {wI:World} {x0:Vector UInt8 8} {up0:Value} (rp0:RV gI.m wI x0 up0) {r:UInt8 × UInt8} (h:f43 x0=some r):Fn prog 43 #[up0] gI wI (fun m w v=>∃ y0 y1,v=.tuple #[y0,y1]∧y0=.int .u8 (UInt8.toNat (r.1))∧y1=.int .u8 (UInt8.toNat (r.2))):=by
 unfold f43 at h;refine fnE func43 rfl rfl fun g0 hm hfr=>?_;have rp0:=RVc hm rp0;show E _ 26 none _ _ _ _ _;refine Z5 (Z4 rfl (Tv (g:=g0) rfl rp0 fun g1 w1 p1 hs q1=>?_));have hfr:=hfr.ext hs;refine Zg (.int .u8 (UInt8.toNat 0)) rfl rfl (Zg (.int .u8 (UInt8.toNat 0)) rfl rfl (Z3 ?_));obtain ⟨⟨l8,n8⟩,hx,h⟩:=Z1 h;refine Gl (fun e w=>∃ (g:Gh) ,Fr gI wI g w∧e 2=.int .u8 (UInt8.toNat (l8))∧e 3=.int .u8 (UInt8.toNat (n8))) (fun Q' hQ=>?_) (fun oE vE hR=>?_)
 ·replace h := hx
  clear hx;refine Z5 ?_;obtain ⟨t5,yB,h⟩:=Z1 h;have aE:=Rl (Ee (p:=p1) q1) yB;refine Zx ((Kk (Ri p1 8) 0 (Int.toNat (6:Int)) 1)) (S9 (p:=p1) underlying82 sizeOf5 rfl q1 rfl yB) rfl (Zx (Iz ((t5).length:Int)) (Gz underlying43 rfl aE) rfl (Zn (Iz (0)) rfl rfl (Z3 (Zr (Q0 h (fun (s:UInt8 × UInt8 × Int) e w=>∃ (g:Gh) ,Fr gI wI g w∧e 2=.int .u8 (UInt8.toNat (s.1))∧e 3=.int .u8 (UInt8.toNat (s.2.1))∧e 6=(Kk (Ri p1 8) 0 (Int.toNat (6:Int)) 1)∧RV g.m w (t5:List UInt8) (Kk (Ri p1 8) 0 (Int.toNat (6:Int)) 1)∧e 7=Iz (((t5).length:Int))∧e 8=Iz (s.2.2)) ⟨g1,hfr,rfl,rfl,rfl,aE,rfl,rfl⟩ (fun X16 zD bE=>?_))))));rintro ⟨i6,g8,o0⟩ rE xE ⟨zB,hfr,mB,nB,oB,aB,vB,n9⟩ h;refine Z5 (Z9 (.bool ((decide (o0 < ((t5).length:Int))))) n9 vB rfl rfl (Z3 (Zf ?_)));rcases Zt h with ⟨lB,h⟩ | ⟨lB,h⟩
  ·refine G6 lB rfl (Zu (Zd ?_))
   obtain ⟨⟨v8,l9⟩,hx,h⟩:=Z1 h;refine Gl (fun e w=>∃ (g:Gh) ,Fr gI wI g w∧e 2=.int .u8 (UInt8.toNat (v8))∧e 3=.int .u8 (UInt8.toNat (l9))∧e 6=(Kk (Ri p1 8) 0 (Int.toNat (6:Int)) 1)∧RV g.m w (t5:List UInt8) (Kk (Ri p1 8) 0 (Int.toNat (6:Int)) 1)∧e 7=Iz (((t5).length:Int))∧e 8=Iz (o0)) (fun Q' hQ=>?_) (fun uE yE hR=>?_)
   ·replace h := hx
    clear hx;refine Zr (Z5 (Zo n9 rfl ?_));obtain ⟨l5,cC,h⟩:=Z1 h;refine Zx (Tb ((Kk (Ri p1 8) 0 (Int.toNat (6:Int)) 1)) o0 1) (Zh (α:=UInt8) underlying43 sizeOf5 oB aB n9 cC) rfl ?_;have iE:=Gx aB cC;refine Z4 rfl (Z6 (g:=zB) isAgg5 sizeOf5 rfl iE fun zE lE=>?_);obtain rfl:=Qy.1 lE;refine Zg (Iz (o0)) rfl rfl (Zg (.int .u8 (UInt8.toNat (l5))) rfl rfl (Z3 (Z5 (Zo mB rfl (Zn (.int .u8 (UInt8.toNat (l5))) rfl rfl (Zx (.int .u8 (UInt8.toNat ((i6 + l5)))) (P_u8 rfl rfl rfl) rfl (Zg (.int .u8 (UInt8.toNat ((i6 + l5)))) rfl rfl (Z3 (Za (Zo nB rfl (Zn (Iz (o0)) rfl rfl (Z9 (Iz ((w64 (o0 + (1:Int))))) rfl rfl rfl rfl (Zx (.int .u8 (UInt8.toNat ((u8w ((w64 (o0 + (1:Int)))))))) (Yg underlying3 underlying5 rfl) rfl (Zn (.int .u8 (UInt8.toNat (l5))) rfl rfl (Zx (.int .u8 (UInt8.toNat (((u8w ((w64 (o0 + (1:Int))))) * l5)))) (P_mul8 rfl rfl) rfl (Zx (.int .u8 (UInt8.toNat ((g8 + ((u8w ((w64 (o0 + (1:Int))))) * l5))))) (P_u8 rfl rfl rfl) rfl (Zx (.int .u8 (UInt8.toNat ((g8 + ((u8w ((w64 (o0 + (1:Int))))) * l5))))) (Te rfl) rfl (Zb (Tj ?_)))))))))))))))))));obtain ⟨rfl,rfl⟩:=Hd h;exact hQ _ _ ⟨zB,hfr,rfl,rfl,oB,aB,vB,n9⟩
   ·clear hx
    obtain ⟨mE,hfr,uC,vC,bD,cD,lD,nD⟩:=hR;refine Za (Z9 (Iz ((w64 (o0 + (1:Int))))) nD rfl rfl rfl (Zn (Iz ((w64 (o0 + (1:Int))))) rfl rfl ?_));exact Z3 (bE (v8,l9,(w64 (o0 + (1:Int)))) _ _ ⟨mE,hfr,uC,vC,bD,cD,lD,rfl⟩ h)
  ·refine G7 lB rfl (Tn (Gu (Gu (G8 ?_))))
   obtain ⟨rfl,rfl⟩:=Hd h;exact hQ _ _ ⟨zB,hfr,mB,nB⟩
 ·clear hx
  obtain ⟨cF,hfr,oD,yD⟩:=hR;refine Z5 (Zo oD rfl (Zo yD rfl (Zg (.int .u8 (UInt8.toNat (l8))) rfl rfl (Zg (.int .u8 (UInt8.toNat (n8))) rfl rfl (Z3 (Ga ?_))))));obtain rfl:=sinj h;exact Jq rfl rfl (rq (.int .u8 (UInt8.toNat (l8)))) (rq (.int .u8 (UInt8.toNat (n8)))) ⟨_,hfr,_,_,rfl,rfl,rfl⟩
def f44 (x0:List Int):Option (Int):=
 jn (σ:=Unit) (fun _=>
  some ((0:Int))
  ) fun k14=>
 lp (σ:=Int) (fun yB o0=>
  bif (decide (o0 < ((x0).length : Int))) then
   jn (σ:=Unit) (fun _=>
    yB ((w64 (o0 + (1:Int))))
    ) fun zB=>
   (idx x0 o0).bind fun y23=>
   bif (y23 != (0 : Int)) then
    some (y23)
   else
    zB ()
  else
   k14 ()
  ) big ((0:Int))
theorem en44:Enters prog 44:=enters_of func44 (by kernel_rfl) rfl
theorem wk44 {gI:Gh} {wI:World} {x0:List Int} {up0:Value} (rp0:RV gI.m wI x0 up0) {r:Int} (h:f44 x0=some r):Fn prog 44 #[up0] gI wI (fun _ _ v=>v=Iz (r)):=by
 unfold f44 at h;refine fnE func44 rfl rfl fun g0 hm hfr=>?_;have rp0:=RVc hm rp0;show E _ 18 none _ _ _ _ _;refine Z5 (Zg (Iz (0)) rfl rfl (Z3 (Z5 (Zg (Iz (0)) rfl rfl (Z3 (Zq h (fun (s:Unit) e w=>∃ (g:Gh) ,Fr gI wI g w∧e 3=Iz ((0:Int))) (fun X14 k14 cC h=>?_) ?_))))))
 ·refine Z5 (Zn up0 rfl rfl (Zx (Iz ((x0).length : Int)) (Gz underlying25 rfl rp0) rfl (Zn (Iz (0)) rfl rfl (Z3 (Zr (Q0 h (fun (s : Int) e w => ∃ (g : Gh) , Fr gI wI g w ∧ e 3 = Iz ((0 : Int)) ∧ e 6 = up0 ∧ RV g.m w (x0 : List Int) up0 ∧ e 7 = Iz (((x0).length : Int)) ∧ e 8 = Iz (s)) ⟨g0, hfr, rfl, rfl, rp0, rfl, rfl⟩ (fun X15 yB uC => ?_)))))))
  rintro o0 nD zD ⟨l9,hfr,l5,n8,t5,v8,i6⟩ h;refine Z5 (Z9 (.bool ((decide (o0 < ((x0).length:Int))))) i6 v8 rfl rfl (Z3 (Zf ?_)));rcases Zt h with ⟨g8,h⟩ | ⟨g8,h⟩
  ·refine G6 g8 rfl (Zu (Zd (Zq h (fun (s : Unit) e w => ∃ (g : Gh) , Fr gI wI g w ∧ e 3 = Iz ((0 : Int)) ∧ e 6 = up0 ∧ RV g.m w (x0 : List Int) up0 ∧ e 7 = Iz (((x0).length : Int)) ∧ e 8 = Iz (o0)) (fun X22 zB vC h => ?_) ?_)))
   ·refine Zr (Z5 ?_)
    obtain ⟨y23,n9,h⟩:=Z1 h;refine Zx (Tb up0 o0 1) (Zh (α:=Int) underlying25 sizeOf3 n8 t5 i6 n9) rfl ?_;have bD:=Gx t5 n9;refine Z4 rfl (Z6 (g:=l9) isAgg3 sizeOf3 rfl bD fun aE cD=>?_);obtain rfl:=Zj.1 cD;refine Zg (Iz (y23)) rfl rfl (Z3 (Z5 (Zn (Iz (y23)) rfl rfl (Zo l5 rfl (Z9 (.bool ((y23 != (0:Int)))) rfl rfl rfl rfl (Z3 ?_))))));rcases Zt h with ⟨l8,h⟩ | ⟨l8,h⟩
    ·refine G6 l8 rfl (Z5 (Zn (Iz (y23)) rfl rfl (Zg (Iz (y23)) rfl rfl (Z3 (Ga (Tl (Gp (Gp (Tl (Gp ?_))))))))))
     obtain rfl:=sinj h;exact Tg rfl rfl (rq (Iz (y23))) ⟨_,hfr,rfl⟩
    ·refine G7 l8 rfl ?_
     exact Zu (Tj (Zd (vC () _ _ ⟨l9,hfr,l5,n8,t5,v8,i6⟩ h)))
   ·rintro _ oD bE ⟨lD, hfr, aB, lB, mB, nB, oB⟩ h
    refine Za (Z9 (Iz ((w64 (o0 + (1:Int))))) oB rfl rfl rfl (Zn (Iz ((w64 (o0 + (1:Int))))) rfl rfl ?_));exact Z3 (uC ((w64 (o0 + (1:Int)))) _ _ ⟨lD,hfr,aB,lB,mB,nB,rfl⟩ h)
  ·refine G7 g8 rfl (Tn (Gu (Gu (G8 ?_))))
   exact Zd (cC () _ _ ⟨l9,hfr,l5⟩ h)
 ·rintro _ yD iE ⟨lE, hfr, vB⟩ h
  refine Z5 (Zo vB rfl (Zg (Iz ((0:Int))) rfl rfl (Z3 (Ga ?_))));obtain rfl:=sinj h;exact Tg rfl rfl (rq (Iz ((0:Int)))) ⟨_,hfr,rfl⟩
def f50 (x0:List Gw) (x1:Gw→Option Str):Option ((List Str)):=
 Option.bind (α:=(List Str)) (
  lp (σ:=(List Str) × Int) (fun iE (n8,l5)=>
   bif (decide (l5 < ((x0).length : Int))) then
    Option.bind (α:=(List Str)) (
     (idx x0 l5).bind fun lE=>
     (x1 lE).bind fun n9=>
     (apnd 16 n8 (([n9]:List Str))).bind fun mE=>
     some (mE)
     ) fun g8=>
    iE (g8,(w64 (l5 + (1:Int))))
   else
    some (n8)
   ) big ([],(0:Int))
  ) fun l8=>
 some (l8)
theorem en50:Enters prog 50:=enters_of func50 (by kernel_rfl) rfl
theorem wk50 {gI:Gh} {wI:World} {x0:List Gw} {x1:Gw→Option Str} {up0:Value} (rp0:RV gI.m wI x0 up0) {up1:Value} (rp1:Hz prog x1 up1 gI wI) {r:(List Str)} (h:f50 x0 x1=some r):Fn prog 50 #[up0,up1] gI wI (fun m w v=>RV m w (r) v):=by
 unfold f50 at h;refine fnE func50 rfl rfl fun g0 hm hfr=>?_;have rp0:=RVc hm rp0;obtain ⟨ff1,fa1,fc1,rfl,fen1,fcl1⟩:=rp1;show E _ 21 none _ _ _ _ _;refine Z5 (Zg (.slice none 0 0) rfl rfl (Z3 ?_));obtain ⟨l8,hx,h⟩:=Z1 h;refine Gl (fun e w=>∃ (g:Gh) (v4:Value),Fr gI wI g w∧e 4=v4∧RV g.m w (l8:List Str) v4∧OS 1004 g w 9 (l8:List Str) v4) (fun Q' hQ=>?_) (fun eG jG hR=>?_)
 ·replace h := hx
  clear hx;refine Z5 (Zn up0 rfl rfl (Zx (Iz ((x0).length:Int)) (Gz underlying52 rfl rp0) rfl (Zn (Iz (0)) rfl rfl (Z3 (Zr (Q0 h (fun (s:(List Str) × Int) e w=>∃ (g:Gh) (v4:Value),Fr gI wI g w∧e 1=(.func (.func ff1) fa1 fc1)∧e 4=v4∧RV g.m w (s.1:List Str) v4∧OS 1004 g w 9 (s.1:List Str) v4∧e 7=up0∧RV g.m w (x0:List Gw) up0∧e 8=Iz (((x0).length:Int))∧e 9=Iz (s.2)) ⟨g0,(.slice none 0 0),hfr,rfl,rfl,T0,OS.nil,rfl,rp0,rfl,rfl⟩ (fun X27 iE vE=>?_)))))));rintro ⟨n8,l5⟩ gG kG ⟨vB,cC,hfr,aB,lB,t5,i6,mB,o0,nB,v8⟩ h;refine Z5 (Z9 (.bool ((decide (l5 < ((x0).length:Int))))) v8 nB rfl rfl (Z3 (Zf ?_)));rcases Zt h with ⟨l9,h⟩ | ⟨l9,h⟩
  ·refine G6 l9 rfl (Zu (Zd ?_))
   obtain ⟨g8,hx,h⟩:=Z1 h;refine Gl (fun e w=>∃ (g:Gh) (v4:Value),Fr gI wI g w∧e 1=(.func (.func ff1) fa1 fc1)∧e 4=v4∧RV g.m w (g8:List Str) v4∧OS 1004 g w 9 (g8:List Str) v4∧e 7=up0∧RV g.m w (x0:List Gw) up0∧e 8=Iz (((x0).length:Int))∧e 9=Iz (l5)) (fun Q' hQ=>?_) (fun iG lG hR=>?_)
   ·replace h := hx
    clear hx;refine Zr (Z5 ?_);obtain ⟨lE,yB,h⟩:=Z1 h;refine Zx (Tb up0 l5 3) (Zh (α:=Gw) underlying52 sizeOf99 mB o0 v8 yB) rfl ?_;have zE:=Gx o0 yB;refine Z4 rfl (Z6 (g:=vB) isAgg99 sizeOf99 rfl zE fun cF zB=>(Z4 rfl (G2 (g:=vB) 2006 (⟨⟨[]⟩,⟨0,[]⟩⟩:Gw) zeroValue99 (fun m w=>⟨_,(Gb B1 (Gb Zw G9)),rfl⟩) fun oE dF eF hs b44 cb=>?_)));have hfr:=hfr.stp hs;have t5:=t5.stp hs;have i6:=i6.stp hs rfl;have o0:=o0.stp hs;have zB:=zB.stp hs;have bG:OSF 2006 60602 2 oE dF 3 99 ([]:List Int) eF:=cb.osf (by rfl);clear cb;refine Z4 rfl (Gg (g:=oE) (v:=cF) sizeOf99 rfl b44 rfl zB fun rE mG hs b45 cb=>?_);clear cb;have hfr:=hfr.stp hs;have t5:=t5.stp hs;have i6:=i6.stp hs rfl;have o0:=o0.stp hs;refine Z3 (Za (Zo lB rfl (Zo aB rfl (Z4 rfl (Tp (g:=rE) isAgg99 sizeOf99 rfl b45 fun rF sF=>?_)))));obtain ⟨n9,xE,h⟩:=Z1 h;refine Z4 rfl (K6 (g:=rE) (vs:=[rF]) rfl fen1 (.cons rfl .nil) (fcl1 _ _ hfr.ch _ _ _  sF xE) fun tF sG xG hs hr=>?_);have hfr:=hfr.ext hs;have t5:=t5.ext hs;have i6:=i6.ext hs;have o0:=o0.ext hs;obtain rfl:=Kv.1 hr;refine Z4 rfl (Z7 (g:=tF) 3017 (xs:=([n9]:List Str)) (vs:=[Str.v (n9)]) underlying66 sizeOf9 zeroValue9 rfl rfl (.cons rfl .nil) (RVs.cons (Kv.2 rfl) RVs.nil) rfl rfl fun uF yG zG hs o49 vF hxt hfl=>?_);have hfr:=hfr.stp hs;have t5:=t5.stp hs;have i6:=i6.stp hs rfl;have o0:=o0.stp hs;obtain ⟨mE,yE,h⟩:=Z1 h;refine Z4 rfl (T5 (g:=uF) (i:=1004) underlying66 Rm rfl rfl i6 t5 rfl vF yE fun xF aH uE hs o50 yF _=>?_);have hfr:=hfr.stp hs;have o0:=o0.stp hs;refine Zg uE rfl rfl (Zb (Tj ?_));obtain rfl:=sinj h;exact hQ _ _ ⟨xF,(uE),hfr,aB,rfl,yF,o50,mB,o0,nB,v8⟩
   ·clear hx
    obtain ⟨aG,uC,hfr,vC,bD,cD,lD,nD,oD,yD,zD⟩:=hR;refine Za (Z9 (Iz ((w64 (l5 + (1:Int))))) zD rfl rfl rfl (Zn (Iz ((w64 (l5 + (1:Int))))) rfl rfl ?_));exact Z3 (vE (g8,(w64 (l5 + (1:Int)))) _ _ ⟨aG,(uC),hfr,vC,bD,cD,lD,nD,oD,yD,rfl⟩ h)
  ·refine G7 l9 rfl (Tn (Gu (Gu (G8 ?_))))
   obtain rfl:=sinj h;exact hQ _ _ ⟨vB,(cC),hfr,lB,t5,i6⟩
 ·clear hx
  obtain ⟨cH,oB,hfr,aE,bE,cG⟩:=hR;refine Z5 (Zo aE rfl (Zg oB rfl rfl (Z3 (Ga ?_))));obtain rfl:=sinj h;exact Tg rfl rfl (rq oB) ⟨_,hfr,bE⟩
def f51 (x0:Gw):Option (Str):=
 some ((x0).Name)
theorem en51:Enters prog 51:=enters_of func51 (by kernel_rfl) rfl
theorem wk51 {gI:Gh} {wI:World} {x0:Gw} {up0:Value} (rp0:RV gI.m wI x0 up0) {r:Str} (h:f51 x0=some r):Fn prog 51 #[up0] gI wI (fun _ _ v=>v=Str.v (r)):=by
 unfold f51 at h;refine fnE func51 rfl rfl fun g0 hm hfr=>?_;have rp0:=RVc hm rp0;show E _ 5 none _ _ _ _ _;refine Z5 (Z4 rfl (Tv (g:=g0) rfl rp0 fun g1 w1 p1 hs q1=>?_));have hfr:=hfr.ext hs;refine Zg (Str.v (⟨[]⟩:Str)) rfl rfl (Z3 (Z5 (Zx (Z8 p1 0) (Zc Aq rfl (PT.ptr q1)) rfl ?_)));have q2:=Zm (Uz).1 q1;refine Z4 rfl (Z6 (g:=g1) isAgg9 sizeOf9 rfl q2 fun v3 r3=>?_);obtain rfl:=Kv.1 r3;refine Zg (Str.v ((x0).Name)) rfl rfl (Z3 (Ga ?_));obtain rfl:=sinj h;exact Tg rfl rfl (rq (Str.v ((x0).Name))) ⟨_,hfr,rfl⟩
def f52 (x0:List Gj) (x1:Gj→Option Str):Option ((List Str)):=
 Option.bind (α:=(List Str)) (
  lp (σ:=(List Str) × Int) (fun iE (n8,l5)=>
   bif (decide (l5 < ((x0).length : Int))) then
    Option.bind (α:=(List Str)) (
     (idx x0 l5).bind fun lE=>
     (x1 lE).bind fun n9=>
     (apnd 16 n8 (([n9]:List Str))).bind fun mE=>
     some (mE)
     ) fun g8=>
    iE (g8,(w64 (l5 + (1:Int))))
   else
    some (n8)
   ) big ([],(0:Int))
  ) fun l8=>
 some (l8)
theorem en52:Enters prog 52:=enters_of func52 (by kernel_rfl) rfl
theorem wk52 {gI:Gh} {wI:World} {x0:List Gj} {x1:Gj→Option Str} {up0:Value} (rp0:RV gI.m wI x0 up0) {up1:Value} (rp1:Hz prog x1 up1 gI wI) {r:(List Str)} (h:f52 x0 x1=some r):Fn prog 52 #[up0,up1] gI wI (fun m w v=>RV m w (r) v):=by
 unfold f52 at h;refine fnE func52 rfl rfl fun g0 hm hfr=>?_;have rp0:=RVc hm rp0;obtain ⟨ff1,fa1,fc1,rfl,fen1,fcl1⟩:=rp1;show E _ 21 none _ _ _ _ _;refine Z5 (Zg (.slice none 0 0) rfl rfl (Z3 ?_));obtain ⟨l8,hx,h⟩:=Z1 h;refine Gl (fun e w=>∃ (g:Gh) (v4:Value),Fr gI wI g w∧e 4=v4∧RV g.m w (l8:List Str) v4∧OS 1004 g w 9 (l8:List Str) v4) (fun Q' hQ=>?_) (fun eG jG hR=>?_)
 ·replace h := hx
  clear hx;refine Z5 (Zn up0 rfl rfl (Zx (Iz ((x0).length:Int)) (Gz underlying53 rfl rp0) rfl (Zn (Iz (0)) rfl rfl (Z3 (Zr (Q0 h (fun (s:(List Str) × Int) e w=>∃ (g:Gh) (v4:Value),Fr gI wI g w∧e 1=(.func (.func ff1) fa1 fc1)∧e 4=v4∧RV g.m w (s.1:List Str) v4∧OS 1004 g w 9 (s.1:List Str) v4∧e 7=up0∧RV g.m w (x0:List Gj) up0∧e 8=Iz (((x0).length:Int))∧e 9=Iz (s.2)) ⟨g0,(.slice none 0 0),hfr,rfl,rfl,T0,OS.nil,rfl,rp0,rfl,rfl⟩ (fun X27 iE vE=>?_)))))));rintro ⟨n8,l5⟩ gG kG ⟨vB,cC,hfr,aB,lB,t5,i6,mB,o0,nB,v8⟩ h;refine Z5 (Z9 (.bool ((decide (l5 < ((x0).length:Int))))) v8 nB rfl rfl (Z3 (Zf ?_)));rcases Zt h with ⟨l9,h⟩ | ⟨l9,h⟩
  ·refine G6 l9 rfl (Zu (Zd ?_))
   obtain ⟨g8,hx,h⟩:=Z1 h;refine Gl (fun e w=>∃ (g:Gh) (v4:Value),Fr gI wI g w∧e 1=(.func (.func ff1) fa1 fc1)∧e 4=v4∧RV g.m w (g8:List Str) v4∧OS 1004 g w 9 (g8:List Str) v4∧e 7=up0∧RV g.m w (x0:List Gj) up0∧e 8=Iz (((x0).length:Int))∧e 9=Iz (l5)) (fun Q' hQ=>?_) (fun iG lG hR=>?_)
   ·replace h := hx
    clear hx;refine Zr (Z5 ?_);obtain ⟨lE,yB,h⟩:=Z1 h;refine Zx (Tb up0 l5 3) (Zh (α:=Gj) underlying53 sizeOf101 mB o0 v8 yB) rfl ?_;have zE:=Gx o0 yB;refine Z4 rfl (Z6 (g:=vB) isAgg101 sizeOf101 rfl zE fun cF zB=>(Z4 rfl (G2 (g:=vB) 2006 (⟨⟨[]⟩,⟨0,[]⟩⟩:Gj) zeroValue101 (fun m w=>⟨_,(Gb B1 (Gb Zw G9)),rfl⟩) fun oE dF eF hs b44 cb=>?_)));have hfr:=hfr.stp hs;have t5:=t5.stp hs;have i6:=i6.stp hs rfl;have o0:=o0.stp hs;have zB:=zB.stp hs;have bG:OSF 2006 60602 2 oE dF 96 101 ([]:List Gc) eF:=cb.osf (by rfl);clear cb;refine Z4 rfl (Gg (g:=oE) (v:=cF) sizeOf101 rfl b44 rfl zB fun rE mG hs b45 cb=>?_);clear cb;have hfr:=hfr.stp hs;have t5:=t5.stp hs;have i6:=i6.stp hs rfl;have o0:=o0.stp hs;refine Z3 (Za (Zo lB rfl (Zo aB rfl (Z4 rfl (Tp (g:=rE) isAgg101 sizeOf101 rfl b45 fun rF sF=>?_)))));obtain ⟨n9,xE,h⟩:=Z1 h;refine Z4 rfl (K6 (g:=rE) (vs:=[rF]) rfl fen1 (.cons rfl .nil) (fcl1 _ _ hfr.ch _ _ _  sF xE) fun tF sG xG hs hr=>?_);have hfr:=hfr.ext hs;have t5:=t5.ext hs;have i6:=i6.ext hs;have o0:=o0.ext hs;obtain rfl:=Kv.1 hr;refine Z4 rfl (Z7 (g:=tF) 3017 (xs:=([n9]:List Str)) (vs:=[Str.v (n9)]) underlying66 sizeOf9 zeroValue9 rfl rfl (.cons rfl .nil) (RVs.cons (Kv.2 rfl) RVs.nil) rfl rfl fun uF yG zG hs o49 vF hxt hfl=>?_);have hfr:=hfr.stp hs;have t5:=t5.stp hs;have i6:=i6.stp hs rfl;have o0:=o0.stp hs;obtain ⟨mE,yE,h⟩:=Z1 h;refine Z4 rfl (T5 (g:=uF) (i:=1004) underlying66 Rm rfl rfl i6 t5 rfl vF yE fun xF aH uE hs o50 yF _=>?_);have hfr:=hfr.stp hs;have o0:=o0.stp hs;refine Zg uE rfl rfl (Zb (Tj ?_));obtain rfl:=sinj h;exact hQ _ _ ⟨xF,(uE),hfr,aB,rfl,yF,o50,mB,o0,nB,v8⟩
   ·clear hx
    obtain ⟨aG,uC,hfr,vC,bD,cD,lD,nD,oD,yD,zD⟩:=hR;refine Za (Z9 (Iz ((w64 (l5 + (1:Int))))) zD rfl rfl rfl (Zn (Iz ((w64 (l5 + (1:Int))))) rfl rfl ?_));exact Z3 (vE (g8,(w64 (l5 + (1:Int)))) _ _ ⟨aG,(uC),hfr,vC,bD,cD,lD,nD,oD,yD,rfl⟩ h)
  ·refine G7 l9 rfl (Tn (Gu (Gu (G8 ?_))))
   obtain rfl:=sinj h;exact hQ _ _ ⟨vB,(cC),hfr,lB,t5,i6⟩
 ·clear hx
  obtain ⟨cH,oB,hfr,aE,bE,cG⟩:=hR;refine Z5 (Zo aE rfl (Zg oB rfl rfl (Z3 (Ga ?_))));obtain rfl:=sinj h;exact Tg rfl rfl (rq oB) ⟨_,hfr,bE⟩
def f53 (x0:Gj):Option (Str):=
 some ((x0).Name)
theorem en53:Enters prog 53:=enters_of func53 (by kernel_rfl) rfl
theorem wk53 {gI:Gh} {wI:World} {x0:Gj} {up0:Value} (rp0:RV gI.m wI x0 up0) {r:Str} (h:f53 x0=some r):Fn prog 53 #[up0] gI wI (fun _ _ v=>v=Str.v (r)):=by
 unfold f53 at h;refine fnE func53 rfl rfl fun g0 hm hfr=>?_;have rp0:=RVc hm rp0;show E _ 5 none _ _ _ _ _;refine Z5 (Z4 rfl (Tv (g:=g0) rfl rp0 fun g1 w1 p1 hs q1=>?_));have hfr:=hfr.ext hs;refine Zg (Str.v (⟨[]⟩:Str)) rfl rfl (Z3 (Z5 (Zx (Z8 p1 0) (Zc Li rfl (PT.ptr q1)) rfl ?_)));have q2:=Zm (Yq).1 q1;refine Z4 rfl (Z6 (g:=g1) isAgg9 sizeOf9 rfl q2 fun v3 r3=>?_);obtain rfl:=Kv.1 r3;refine Zg (Str.v ((x0).Name)) rfl rfl (Z3 (Ga ?_));obtain rfl:=sinj h;exact Tg rfl rfl (rq (Str.v ((x0).Name))) ⟨_,hfr,rfl⟩
def f72 (x0:List Int):Option (Int × Int):=
 Option.bind (α:=Int × Int) (
  lp (σ:=Int × Int × Int) (fun oD (l9,l5,o0)=>
   bif (decide (o0 < ((x0).length : Int))) then
    Option.bind (α:=Int × Int) (
     (idx x0 o0).bind fun mB=>
     bif (mB != (0 : Int)) then
      some (o0,(w64 (l5 + (1:Int))))
     else
      some (l9,l5)
     ) fun (l8,n8)=>
    oD (l8,n8,(w64 (o0 + (1:Int))))
   else
    some (l9,l5)
   ) big ((0:Int),(0:Int),(0:Int))
  ) fun (t5,i6)=>
 some (t5,i6)
theorem en72:Enters prog 72:=enters_of func72 (by kernel_rfl) rfl
theorem wk72 {gI:Gh} {wI:World} {x0:List Int} {up0:Value} (rp0:RV gI.m wI x0 up0) {r:Int × Int} (h:f72 x0=some r):Fn prog 72 #[up0] gI wI (fun m w v=>∃ y0 y1,v=.tuple #[y0,y1]∧y0=Iz (r.1)∧y1=Iz (r.2)):=by
 unfold f72 at h;refine fnE func72 rfl rfl fun g0 hm hfr=>?_;have rp0:=RVc hm rp0;show E _ 21 none _ _ _ _ _;refine Z5 (Zg (Iz (0)) rfl rfl (Zg (Iz (0)) rfl rfl (Z3 ?_)));obtain ⟨⟨t5,i6⟩,hx,h⟩:=Z1 h;refine Gl (fun e w=>∃ (g:Gh) ,Fr gI wI g w∧e 2=Iz (t5)∧e 3=Iz (i6)) (fun Q' hQ=>?_) (fun iE oE hR=>?_)
 ·replace h := hx
  clear hx;refine Z5 (Zn up0 rfl rfl (Zx (Iz ((x0).length:Int)) (Gz underlying25 rfl rp0) rfl (Zn (Iz (0)) rfl rfl (Z3 (Zr (Q0 h (fun (s:Int × Int × Int) e w=>∃ (g:Gh) ,Fr gI wI g w∧e 2=Iz (s.1)∧e 3=Iz (s.2.1)∧e 6=up0∧RV g.m w (x0:List Int) up0∧e 7=Iz (((x0).length:Int))∧e 8=Iz (s.2.2)) ⟨g0,hfr,rfl,rfl,rfl,rp0,rfl,rfl⟩ (fun X13 oD yD=>?_)))))));rintro ⟨l9,l5,o0⟩ lE rE ⟨vB,hfr,yB,n9,aB,v8,lB,g8⟩ h;refine Z5 (Z9 (.bool ((decide (o0 < ((x0).length:Int))))) g8 lB rfl rfl (Z3 (Zf ?_)));rcases Zt h with ⟨nB,h⟩ | ⟨nB,h⟩
  ·refine G6 nB rfl (Zu (Zd ?_))
   obtain ⟨⟨l8,n8⟩,hx,h⟩:=Z1 h;refine Gl (fun e w=>∃ (g:Gh) ,Fr gI wI g w∧e 2=Iz (l8)∧e 3=Iz (n8)∧e 6=up0∧RV g.m w (x0:List Int) up0∧e 7=Iz (((x0).length:Int))∧e 8=Iz (o0)) (fun Q' hQ=>?_) (fun mE uE hR=>?_)
   ·replace h := hx
    clear hx;refine Zr (Z5 (Zo g8 rfl ?_));obtain ⟨mB,hy20,h⟩:=Z1 h;refine Zx (Tb up0 o0 1) (Zh (α:=Int) underlying25 sizeOf3 aB v8 g8 hy20) rfl ?_;have zD:=Gx v8 hy20;refine Z4 rfl (Z6 (g:=vB) isAgg3 sizeOf3 rfl zD fun vE aE=>?_);obtain rfl:=Zj.1 aE;refine Zg (Iz (o0)) rfl rfl (Zg (Iz (mB)) rfl rfl (Z3 (Z5 (Zn (Iz (mB)) rfl rfl (Z9 (.bool ((mB != (0:Int)))) rfl rfl rfl rfl (Z3 ?_))))));rcases Zt h with ⟨oB,h⟩ | ⟨oB,h⟩
    ·refine G6 oB rfl (Z5 (Zn (Iz (o0)) rfl rfl (Zg (Iz (o0)) rfl rfl (Z3 (Za (Zo n9 rfl (Z9 (Iz ((w64 (l5 + (1 : Int))))) rfl rfl rfl rfl (Zg (Iz ((w64 (l5 + (1 : Int))))) rfl rfl (Zb (Tj ?_))))))))))
     obtain ⟨rfl,rfl⟩:=Hd h;exact hQ _ _ ⟨vB,hfr,rfl,rfl,aB,v8,lB,g8⟩
    ·refine G7 oB rfl (Zu (Tj ?_))
     obtain ⟨rfl,rfl⟩:=Hd h;exact hQ _ _ ⟨vB,hfr,yB,n9,aB,v8,lB,g8⟩
   ·clear hx
    obtain ⟨bE,hfr,zB,cC,uC,vC,bD,cD⟩:=hR;refine Za (Z9 (Iz ((w64 (o0 + (1:Int))))) cD rfl rfl rfl (Zn (Iz ((w64 (o0 + (1:Int))))) rfl rfl ?_));exact Z3 (yD (l8,n8,(w64 (o0 + (1:Int)))) _ _ ⟨bE,hfr,zB,cC,uC,vC,bD,rfl⟩ h)
  ·refine G7 nB rfl (Tn (Gu (Gu (G8 ?_))))
   obtain ⟨rfl,rfl⟩:=Hd h;exact hQ _ _ ⟨vB,hfr,yB,n9⟩
 ·clear hx
  obtain ⟨xE,hfr,lD,nD⟩:=hR;refine Z5 (Zo lD rfl (Zo nD rfl (Zg (Iz (t5)) rfl rfl (Zg (Iz (i6)) rfl rfl (Z3 (Ga ?_))))));obtain rfl:=sinj h;exact Jq rfl rfl (rq (Iz (t5))) (rq (Iz (i6))) ⟨_,hfr,_,_,rfl,rfl,rfl⟩
def f76 (x0:Str):Option (Int):=
 Option.bind (α:=Int) (
  lp (σ:=Int × Int) (fun k7 (t5,o0)=>
   bif (decide (o0 < ((x0).b.length : Int))) then
    Option.bind (α:=Int) (
     (idx (x0).b o0).bind fun y11=>
     some ((w64 (t5 + ((y11).toNat:Int))))
     ) fun l5=>
    k7 (l5,(w64 (o0 + (1:Int))))
   else
    some (t5)
   ) big ((0:Int),(0:Int))
  ) fun i6=>
 (Ha i6 (65536:Int)).bind fun l8=>
 some (l8)
theorem en76:Enters prog 76:=enters_of func76 (by kernel_rfl) rfl
theorem wk76 {gI:Gh} {wI:World} {x0:Str}  {r:Int} (h:f76 x0=some r):Fn prog 76 #[Str.v (x0)] gI wI (fun _ _ v=>v=Iz (r)):=by
 unfold f76 at h;refine fnE func76 rfl rfl fun g0 hm hfr=>?_;show E _ 18 none _ _ _ _ _;refine Z5 (Zg (Iz (0)) rfl rfl (Z3 ?_));obtain ⟨i6,hx,h⟩:=Z1 h;refine Gl (fun e w=>∃ (g:Gh) ,Fr gI wI g w∧e 2=Iz (i6)) (fun Q' hQ=>?_) (fun cC vC hR=>?_)
 ·replace h := hx
  clear hx;refine Z5 (Zn (Str.v (x0)) rfl rfl (Zx (Iz ((x0).b.length:Int)) (P1 underlying9 rfl) rfl (Zn (Iz (0)) rfl rfl (Z3 (Zr (Q0 h (fun (s:Int × Int) e w=>∃ (g:Gh) ,Fr gI wI g w∧e 0=Str.v (x0)∧e 2=Iz (s.1)∧e 5=Iz (((x0).b.length:Int))∧e 6=Iz (s.2)) ⟨g0,hfr,rfl,rfl,rfl,rfl⟩ (fun X7 k7 hk7=>?_)))))));rintro ⟨t5,o0⟩ bD w8 ⟨g8,hfr,v8,l9,n9,n8⟩ h;refine Z5 (Z9 (.bool ((decide (o0 < ((x0).b.length:Int))))) n8 n9 rfl rfl (Z3 (Zf ?_)));rcases Zt h with ⟨hc9,h⟩ | ⟨hc9,h⟩
  ·refine G6 hc9 rfl (Zu (Zd ?_))
   obtain ⟨l5,hx,h⟩:=Z1 h;refine Gl (fun e w=>∃ (g:Gh) ,Fr gI wI g w∧e 0=Str.v (x0)∧e 2=Iz (l5)∧e 5=Iz (((x0).b.length:Int))∧e 6=Iz (o0)) (fun Q' hQ=>?_) (fun uC cD hR=>?_)
   ·replace h := hx
    clear hx;refine Zr (Z5 (Zo n8 rfl (Zg (Iz (o0)) rfl rfl (Z3 (Za (Zo l9 rfl (Zo v8 rfl (Zn (Iz (o0)) rfl rfl ?_))))))));obtain ⟨y11,vB,h⟩:=Z1 h;refine Zx (.int .u8 (UInt8.toNat (y11))) (La underlying9 rfl rfl vB) rfl (Zx (Iz (((y11).toNat:Int))) (Wy underlying5 underlying3 rfl) rfl (Z9 (Iz ((w64 (t5 + ((y11).toNat:Int))))) rfl rfl rfl rfl (Zg (Iz ((w64 (t5 + ((y11).toNat:Int))))) rfl rfl (Zb (Tj ?_)))));obtain rfl:=sinj h;exact hQ _ _ ⟨g8,hfr,v8,rfl,n9,n8⟩
   ·clear hx
    obtain ⟨zB,hfr,aB,lB,mB,nB⟩:=hR;refine Za (Z9 (Iz ((w64 (o0 + (1:Int))))) nB rfl rfl rfl (Zn (Iz ((w64 (o0 + (1:Int))))) rfl rfl ?_));exact Z3 (hk7 (l5,(w64 (o0 + (1:Int)))) _ _ ⟨zB,hfr,aB,lB,mB,rfl⟩ h)
  ·refine G7 hc9 rfl (Tn (Gu (Gu (G8 ?_))))
   obtain rfl:=sinj h;exact hQ _ _ ⟨g8,hfr,l9⟩
 ·clear hx
  obtain ⟨lD,hfr,oB⟩:=hR;refine Z5 (Zo oB rfl ?_);obtain ⟨l8,yB,h⟩:=Z1 h;refine Zx (Iz (l8)) (Gk rfl rfl (congrArg (Option.map (Value.int .i64)) yB)) rfl (Zg (Iz (l8)) rfl rfl (Z3 (Ga ?_)));obtain rfl:=sinj h;exact Tg rfl rfl (rq (Iz (l8))) ⟨_,hfr,rfl⟩
def f81 (z0:List UInt8) (z1:Int) (σ:Type) (cons:V9 σ (List UInt8)) (s0:σ):Option σ:=
 lp (σ:=σ × Int) (fun k1 (n8,o0)=>
  jn (σ:=Unit) (fun _=>
   jn (σ:=σ) (fun v8=>
    k1 (v8,(w64 (o0 + z1)))
    ) fun zD=>
   (cut z0 o0 ((z0).length:Int)).bind fun l5=>
   (cut z0 o0 (w64 (o0 + (Hb z1 ((l5).length:Int))))).bind fun oB=>
   (cons n8 oB).bind fun (n9,l9)=>
   bif (!n9) then
    some l9
   else
    zD (l9)
   ) fun k5=>
  bif (decide (o0 < ((z0).length : Int))) then
   k5 ()
  else
   some n8
  ) big (s0,(0:Int))
theorem en81:Enters prog 81:=enters_of func81 (by kernel_rfl) rfl
theorem wk81 {σ:Type} {cons:V9 σ (List UInt8)} {s0 r:σ} {gI:Gh} {wI:World} {z0:List UInt8} {z1:Int} {pf0:Value} (qf0:PT gI.m wI z0 pf0) {pf1:Value} (qf1:PT gI.m wI z1 pf1) (h:f81 z0 z1 σ cons s0=some r):L7 prog (RA1 (α:=(List UInt8))) 81 #[] #[pf0,pf1] gI wI cons s0 r:=by
 unfold f81 at h;refine M1 func81 rfl (Nat.le_of_ble_eq_true rfl) fun l B J g0 hm hAb hRo hfr=>?_;have qf0:PT g0.m wI z0 pf0:=hm ▸ qf0;have qf1:PT g0.m wI z1 pf1:=hm ▸ qf1;show E _ 31 none _ _ (Jz #[.func (.yield l) #[] #[],pf0,pf1]) _ _;refine Z5 (Zg (Iz (0)) rfl rfl (Z3 (Zr (Q0 h (fun (s:σ × Int) e w=>∃ (g:Gh) ,FrY gI wI B J (s.1) g w∧e 0=(.func (.yield l) #[] #[])∧e 1=pf0∧PT g.m w (z0:List UInt8) pf0∧e 2=pf1∧PT g.m w (z1:Int) pf1∧e 4=Iz (s.2)) ⟨g0,hfr,rfl,rfl,qf0,rfl,qf1,rfl⟩ (fun X1 k1 hk1=>?_)))));rintro ⟨n8,o0⟩ xF w2 ⟨g2,hfr,oE,vB,yB,rE,uE,zB⟩ h;refine Zq h (fun (s:Unit) e w=>∃ (g:Gh) ,FrY gI wI B J (n8) g w∧e 0=(.func (.yield l) #[] #[])∧e 1=pf0∧PT g.m w (z0:List UInt8) pf0∧e 2=pf1∧PT g.m w (z1:Int) pf1∧e 4=Iz (o0)) (fun X5 k5 hk5 h=>?_) ?_
 ·refine Z5 (Zo zB rfl (Z4 rfl (Z6 (g := g2) isAgg43 sizeOf43 vB yB fun v6 r6 => (Zx (Iz ((z0).length : Int)) (Gz underlying43 rfl r6) rfl (Z9 (.bool ((decide (o0 < ((z0).length : Int))))) rfl rfl rfl rfl (Z3 ?_))))))
  rcases Zt h with ⟨cC,h⟩ | ⟨cC,h⟩
  ·refine G6 cC rfl ?_
   exact Zu (Zd (hk5 () _ _ ⟨g2,hfr,oE,vB,yB,rE,uE,zB⟩ h))
  ·refine G7 cC rfl (Tn (Gu (Gu (G8 ?_))))
   obtain rfl:=sinj h;exact Y3 rfl rfl (FrY.done hfr)
 ·rintro _ yF w8 ⟨g8, hfr, uC, aB, t5, vC, i6, l8⟩ h
  refine Zq h (fun (s:σ) e w=>∃ (g:Gh) ,FrY gI wI B J (s) g w∧e 0=(.func (.yield l) #[] #[])∧e 1=pf0∧PT g.m w (z0:List UInt8) pf0∧e 2=pf1∧PT g.m w (z1:Int) pf1∧e 4=Iz (o0)) (fun X32 zD vE h=>?_) ?_
  ·refine Zr (Zf (Zs (x := .tmp 2) isAgg3 sizeOf3 i6 fun aG cF xE => ?_))
   obtain rfl:=Zj.1 cF;refine Zs (x:=.tmp 1) isAgg43 sizeOf43 t5 fun aE bE yE=>?_;obtain ⟨l5,bD,h⟩:=Z1 h;have dF:=Rl bE bD;refine To (g:=g8) (n:=7) [] [0,1,2,3,4,5,6] rfl mixed (by kernel_rfl) trivial (Tm (c:=Iz (z1)) rfl rfl .plain (fun _ _ h=>h.ch) xE vC (Tm (c:=aE) rfl rfl .plain (fun _ _ h=>h.ch) yE aB (Z0 (Iz (o0)) rfl rfl (Zk l8) (Z0 ((Kk aE (Int.toNat o0) (Int.toNat ((z0).length:Int)) 1)) rfl rfl (Ax underlying43 sizeOf5 rfl bE rfl rfl bD) (Z0 (Iz ((l5).length:Int)) rfl rfl (Gz underlying43 rfl dF) (Z0 (Iz (Hb z1 ((l5).length:Int))) rfl rfl (Oh rfl rfl) (Z0 (Iz (Hb z1 ((l5).length:Int))) rfl rfl (Te rfl) (Ka fun iE bG hs=>?_))))))));have hfr:=hfr.ext_ hAb hs;have t5:=t5.ext hs;have i6:=i6.ext hs;clear hs;refine Z3 (Z5 (Zo uC rfl (Z4 rfl (Z6 (g:=iE) isAgg43 sizeOf43 aB t5 fun eF lE=>(Zo l8 rfl (Zo l8 rfl (Zn (Iz (Hb z1 ((l5).length:Int))) rfl rfl (Zx (Iz ((w64 (o0 + (Hb z1 ((l5).length:Int)))))) (Gk rfl rfl rfl) rfl (Zo l8 rfl (Zn (Iz (Hb z1 ((l5).length:Int))) rfl rfl (Zx (Iz ((w64 (o0 + (Hb z1 ((l5).length:Int)))))) (Gk rfl rfl rfl) rfl ?_)))))))))));obtain ⟨oB,cD,h⟩:=Z1 h;have rF:=RV_cut3 lE cD;refine Zx ((Pg eF (Int.toNat o0) (Int.toNat (w64 (o0 + (Hb z1 ((l5).length:Int))))) 1)) (Iq underlying43 sizeOf5 rfl lE rfl rfl rfl cD) rfl ?_;obtain ⟨sF,zE,h⟩:=Z1 h;obtain ⟨n9,l9⟩:=sF;refine Z4 rfl (A4 (g:=iE) (x:=oB) rfl (.cons rfl .nil) hRo hfr zE ⟨_,rfl,rF⟩ fun tF cG hs hfrY=>?_);have t5:=t5.stp hs;have i6:=i6.stp hs;have hfr:=hfrY;clear hfrY;refine Zx (.bool (!n9)) (Qm rfl) rfl (Z3 ?_);rcases Zt h with ⟨lB,h⟩ | ⟨lB,h⟩
   ·refine G6 lB rfl (Ga (Tl (Gp (Gp (Tl ?_)))))
    obtain rfl:=sinj h;exact end0 rfl rfl (FrY.done hfr)
   ·refine G7 lB rfl ?_
    exact Zu (Tj (Zd (vE (l9) _ _ ⟨tF,hfr,uC,aB,t5,vC,i6,l8⟩ h)))
  ·rintro v8 vF eG ⟨mE, hfr, lD, nD, oD, mB, nB, yD⟩ h
   refine Za (Zo yD rfl (Z4 rfl (Z6 (g:=mE) isAgg3 sizeOf3 mB nB fun gG uF=>?_)));obtain rfl:=Zj.1 uF;refine Z9 (Iz ((w64 (o0 + z1)))) rfl rfl rfl rfl (Zg (Iz ((w64 (o0 + z1)))) rfl rfl ?_);exact Z3 (hk1 (v8,(w64 (o0 + z1))) _ _ ⟨mE,hfr,lD,nD,oD,mB,nB,rfl⟩ h)
def f82 (x0:Int):Option (Bool):=
 some ((x0 != x0))
theorem en82:Enters prog 82:=enters_of func82 (by kernel_rfl) rfl
theorem wk82 {gI:Gh} {wI:World} {x0:Int}  {r:Bool} (h:f82 x0=some r):Fn prog 82 #[Iz (x0)] gI wI (fun _ _ v=>v=.bool (r)):=by
 unfold f82 at h;refine fnE func82 rfl rfl fun g0 hm hfr=>?_;show E _ 6 none _ _ _ _ _;refine Z5 (Zg (.bool false) rfl rfl (Z3 (Z5 (Zn (Iz (x0)) rfl rfl (Zn (Iz (x0)) rfl rfl (Z9 (.bool ((x0 != x0))) rfl rfl rfl rfl (Zg (.bool ((x0 != x0))) rfl rfl (Z3 (Ga ?_)))))))));obtain rfl:=sinj h;exact Tg rfl rfl (rq (.bool ((x0 != x0)))) ⟨_,hfr,rfl⟩
def f89 (x0:List Str):Option ((List Str)):=
 jn (σ:=Unit) (fun _=>
  jn (σ:=Unit) (fun _=>
   some (x0)
   ) fun k53=>
  lp (σ:=Int) (fun k54 o0=>
   jn (σ:=Unit) (fun _=>
    jn (σ:=Unit) (fun _=>
     k54 ((w64 (o0 + (1:Int))))
     ) fun cC=>
    (idx x0 o0).bind fun l9=>
    (idx x0 (w64 (o0 - (1:Int)))).bind fun n9=>
    bif ((l9).b == (n9).b) then
     none
    else
     cC ()
    ) fun k57=>
   bif (decide (o0 < ((x0).length : Int))) then
    k57 ()
   else
    k53 ()
   ) big ((1:Int))
  ) fun k2=>
 bif (decide (((x0).length : Int) < (2 : Int))) then
  some (x0)
 else
  k2 ()
theorem en89:Enters prog 89:=enters_of func89 (by kernel_rfl) rfl
theorem wk89 {gI:Gh} {wI:World} {x0:List Str} {up0:Value} (rp0:RV gI.m wI x0 up0) {r:(List Str)} (h:f89 x0=some r):Fn prog 89 #[up0] gI wI (fun m w v=>RV m w (r) v):=by
 unfold f89 at h;refine fnE func89 rfl rfl fun g0 hm hfr=>?_;have rp0:=RVc hm rp0;show E _ 61 none _ _ _ _ _;refine Z5 (Zg (.slice none 0 0) rfl rfl (Z3 (Zq h (fun (s:Unit) e w=>∃ (g:Gh) ,Fr gI wI g w∧e 0=up0∧RV g.m w (x0:List Str) up0) (fun X2 k2 hk2 h=>?_) ?_)))
 ·refine Z5 (Zn up0 rfl rfl (Zx (Iz ((x0).length : Int)) (Gz underlying66 rfl rp0) rfl (Z9 (.bool ((decide (((x0).length : Int) < (2 : Int))))) rfl rfl rfl rfl (Z3 ?_))))
  rcases Zt h with ⟨hc3,h⟩ | ⟨hc3,h⟩
  ·refine G6 hc3 rfl (Z5 (Zn up0 rfl rfl (Zg up0 rfl rfl (Z3 (Ga (Gp ?_))))))
   obtain rfl:=sinj h;exact Tg rfl rfl (rq up0) ⟨_,hfr,rp0⟩
  ·refine G7 hc3 rfl ?_
   exact Zu (Zd (hk2 () _ _ ⟨g0,hfr,rfl,rp0⟩ h))
 ·rintro _ eF w4 ⟨g4, hfr, vC, bD⟩ h
  refine Zq h (fun (s:Unit) e w=>∃ (g:Gh) ,Fr gI wI g w∧e 0=up0∧RV g.m w (x0:List Str) up0) (fun X53 k53 cD h=>?_) ?_
  ·refine Z5 (Zg (Iz (1)) rfl rfl (Z3 (Zr (Q0 h (fun (s : Int) e w => ∃ (g : Gh) , Fr gI wI g w ∧ e 0 = up0 ∧ RV g.m w (x0 : List Str) up0 ∧ e 3 = Iz (s)) ⟨g4, hfr, vC, bD, rfl⟩ (fun X54 k54 lD => ?_)))))
   rintro o0 xE rF ⟨uC,hfr,g8,l8,aB⟩ h;refine Zq h (fun (s:Unit) e w=>∃ (g:Gh) ,Fr gI wI g w∧e 0=up0∧RV g.m w (x0:List Str) up0∧e 3=Iz (o0)) (fun X57 k57 nD h=>?_) ?_
   ·refine Z5 (Zo aB rfl (Zo g8 rfl (Zx (Iz ((x0).length : Int)) (Gz underlying66 rfl l8) rfl (Z9 (.bool ((decide (o0 < ((x0).length : Int))))) rfl rfl rfl rfl (Z3 ?_)))))
    rcases Zt h with ⟨v8,h⟩ | ⟨v8,h⟩
    ·refine G6 v8 rfl ?_
     exact Zu (Zd (nD () _ _ ⟨uC,hfr,g8,l8,aB⟩ h))
    ·refine G7 v8 rfl (Tn (Gu (Gu (G8 ?_))))
     exact Zd (cD () _ _ ⟨uC,hfr,g8,l8⟩ h)
   ·rintro _ yE sF ⟨bE, hfr, t5, l5, i6⟩ h
    refine Zq h (fun (s:Unit) e w=>∃ (g:Gh) ,Fr gI wI g w∧e 0=up0∧RV g.m w (x0:List Str) up0∧e 3=Iz (o0)) (fun X81 cC oD h=>?_) ?_
    ·refine Zr (Zf ?_)
     obtain ⟨l9,lB,h⟩:=Z1 h;have iE:=Gx l5 lB;refine Zs (x:=.tmp 18) isAgg9 sizeOf9 iE fun tF lE yD=>?_;obtain rfl:=Kv.1 lE;obtain ⟨n9,mB,h⟩:=Z1 h;have mE:=Gx l5 mB;refine Zs (x:=.tmp 23) isAgg9 sizeOf9 mE fun uF oE zD=>?_;obtain rfl:=Kv.1 oE;refine To (g:=bE) (n:=10) [] [0,1,2,3,4,5,6,7,8,9] rfl mixed (by kernel_rfl) trivial (Z0 up0 rfl rfl (Zk t5) (Z0 (Iz (o0)) rfl rfl (Zk i6) (Z0 (Tb up0 o0 1) rfl rfl (Zh (α:=Str) underlying66 sizeOf9 rfl l5 rfl lB) (Tm (c:=Str.v (l9)) rfl rfl .plain (fun _ _ h=>h.ch) yD rfl (Z0 up0 rfl rfl (Zk t5) (Z0 (Iz (o0)) rfl rfl (Zk i6) (Z0 (Iz ((w64 (o0 - (1:Int))))) rfl rfl (Gk rfl rfl rfl) (Z0 (Tb up0 (w64 (o0 - (1:Int))) 1) rfl rfl (Zh (α:=Str) underlying66 sizeOf9 rfl l5 rfl mB) (Tm (c:=Str.v (n9)) rfl rfl .plain (fun _ _ h=>h.ch) zD rfl (Z0 (.bool (((l9).b == (n9).b))) rfl rfl (R8 rfl rfl rfl) (Ka fun rE vF hs=>?_)))))))))));have hfr:=hfr.ext hs;have l5:=l5.ext hs;clear hs;refine Z3 ?_;rcases Zt h with ⟨n8,h⟩ | ⟨n8,h⟩
     ·refine G6 n8 rfl (Z5 (Zo t5 rfl (Zo i6 rfl ?_)))
      cases h
     ·refine G7 n8 rfl ?_
      exact Zu (Tj (Zd (oD () _ _ ⟨rE,hfr,t5,l5,i6⟩ h)))
    ·rintro _ uE zE ⟨aE, hfr, nB, oB, vB⟩ h
     refine Za (Zo vB rfl (Z9 (Iz ((w64 (o0 + (1:Int))))) rfl rfl rfl rfl (Zg (Iz ((w64 (o0 + (1:Int))))) rfl rfl ?_)));exact Z3 (lD ((w64 (o0 + (1:Int)))) _ _ ⟨aE,hfr,nB,oB,rfl⟩ h)
  ·rintro _ vE cF ⟨dF, hfr, yB, zB⟩ h
   refine Z5 (Zo yB rfl (Zg up0 rfl rfl (Z3 (Ga ?_))));obtain rfl:=sinj h;exact Tg rfl rfl (rq up0) ⟨_,hfr,zB⟩
def f91 (x0:List Gw) (x1:Gw→Option Bool):Option (Int):=
 jn (σ:=Unit) (fun _=>
  some ((-1:Int))
  ) fun k18=>
 lp (σ:=Int) (fun k19 o0=>
  bif (decide (o0 < ((x0).length : Int))) then
   jn (σ:=Unit) (fun _=>
    k19 ((w64 (o0 + (1:Int))))
    ) fun k28=>
   (idx x0 o0).bind fun vB=>
   (x1 vB).bind fun yB=>
   bif yB then
    some (o0)
   else
    k28 ()
  else
   k18 ()
  ) big ((0:Int))
theorem en91:Enters prog 91:=enters_of func91 (by kernel_rfl) rfl
theorem wk91 {gI:Gh} {wI:World} {x0:List Gw} {x1:Gw→Option Bool} {up0:Value} (rp0:RV gI.m wI x0 up0) {up1:Value} (rp1:Hz prog x1 up1 gI wI) {r:Int} (h:f91 x0 x1=some r):Fn prog 91 #[up0,up1] gI wI (fun _ _ v=>v=Iz (r)):=by
 unfold f91 at h;refine fnE func91 rfl rfl fun g0 hm hfr=>?_;have rp0:=RVc hm rp0;obtain ⟨ff1,fa1,fc1,rfl,fen1,fcl1⟩:=rp1;show E _ 19 none _ _ _ _ _;refine Z5 (Zg (Iz (0)) rfl rfl (Z3 (Zq h (fun (s:Unit) e w=>∃ (g:Gh) ,Fr gI wI g w) (fun X18 k18 zB h=>?_) ?_)))
 ·refine Z5 (Zn up0 rfl rfl (Zx (Iz ((x0).length : Int)) (Gz underlying52 rfl rp0) rfl (Zn (Iz (0)) rfl rfl (Z3 (Zr (Q0 h (fun (s : Int) e w => ∃ (g : Gh) , Fr gI wI g w ∧ e 0 = up0 ∧ RV g.m w (x0 : List Gw) up0 ∧ e 1 = (.func (.func ff1) fa1 fc1) ∧ e 7 = Iz (((x0).length : Int)) ∧ e 8 = Iz (s)) ⟨g0, hfr, rfl, rp0, rfl, rfl, rfl⟩ (fun X19 k19 cC => ?_)))))))
  rintro o0 yD bE ⟨l9,hfr,l8,l5,n8,v8,t5⟩ h;refine Z5 (Z9 (.bool ((decide (o0 < ((x0).length:Int))))) t5 v8 rfl rfl (Z3 (Zf ?_)));rcases Zt h with ⟨i6,h⟩ | ⟨i6,h⟩
  ·refine G6 i6 rfl (Zu (Zd (Zq h (fun (s : Unit) e w => ∃ (g : Gh) , Fr gI wI g w ∧ e 0 = up0 ∧ RV g.m w (x0 : List Gw) up0 ∧ e 1 = (.func (.func ff1) fa1 fc1) ∧ e 7 = Iz (((x0).length : Int)) ∧ e 8 = Iz (o0)) (fun X28 k28 uC h => ?_) ?_)))
   ·refine Zr (Z5 (Zo t5 rfl (Zg (Iz (o0)) rfl rfl (Z3 (Z5 (Zo n8 rfl (Zo l8 rfl (Zn (Iz (o0)) rfl rfl ?_))))))))
    obtain ⟨vB,n9,h⟩:=Z1 h;refine Zx (Tb up0 o0 3) (Zh (α:=Gw) underlying52 sizeOf99 rfl l5 rfl n9) rfl ?_;have bD:=Gx l5 n9;refine Z4 rfl (Z6 (g:=l9) isAgg99 sizeOf99 rfl bD fun cD lD=>?_);obtain ⟨yB,vC,h⟩:=Z1 h;refine Z4 rfl (K6 (g:=l9) (vs:=[cD]) rfl fen1 (.cons rfl .nil) (fcl1 _ _ hfr.ch _ _ _  lD vC) fun nD iE lE hs hr=>?_);have hfr:=hfr.ext hs;have l5:=l5.ext hs;obtain rfl:=Q1.1 hr;refine Z3 ?_;rcases Zt h with ⟨g8,h⟩ | ⟨g8,h⟩
    ·refine G6 g8 rfl (Z5 (Zn (Iz (o0)) rfl rfl (Zg (Iz (o0)) rfl rfl (Z3 (Ga (Tl (Gp (Gp (Tl (Gp ?_))))))))))
     obtain rfl:=sinj h;exact Tg rfl rfl (rq (Iz (o0))) ⟨_,hfr,rfl⟩
    ·refine G7 g8 rfl ?_
     exact Zu (Tj (Zd (uC () _ _ ⟨nD,hfr,l8,l5,n8,v8,t5⟩ h)))
   ·rintro _ zD mE ⟨oD, hfr, aB, lB, mB, nB, oB⟩ h
    refine Za (Z9 (Iz ((w64 (o0 + (1:Int))))) oB rfl rfl rfl (Zn (Iz ((w64 (o0 + (1:Int))))) rfl rfl ?_));exact Z3 (cC ((w64 (o0 + (1:Int)))) _ _ ⟨oD,hfr,aB,lB,mB,nB,rfl⟩ h)
  ·refine G7 i6 rfl (Tn (Gu (Gu (G8 ?_))))
   exact Zd (zB () _ _ ⟨l9,hfr⟩ h)
 ·rintro _ aE oE ⟨rE, hfr⟩ h
  refine Z5 (Zg (Iz (-1)) rfl rfl (Z3 (Ga ?_)));obtain rfl:=sinj h;exact Tg rfl rfl (rq (Iz (-1))) ⟨_,hfr,rfl⟩
def f92 (x0:List Gj) (x1:Gj→Option Bool):Option (Int):=
 jn (σ:=Unit) (fun _=>
  some ((-1:Int))
  ) fun k18=>
 lp (σ:=Int) (fun k19 o0=>
  bif (decide (o0 < ((x0).length : Int))) then
   jn (σ:=Unit) (fun _=>
    k19 ((w64 (o0 + (1:Int))))
    ) fun k28=>
   (idx x0 o0).bind fun vB=>
   (x1 vB).bind fun yB=>
   bif yB then
    some (o0)
   else
    k28 ()
  else
   k18 ()
  ) big ((0:Int))
theorem en92:Enters prog 92:=enters_of func92 (by kernel_rfl) rfl
theorem wk92 {gI:Gh} {wI:World} {x0:List Gj} {x1:Gj→Option Bool} {up0:Value} (rp0:RV gI.m wI x0 up0) {up1:Value} (rp1:Hz prog x1 up1 gI wI) {r:Int} (h:f92 x0 x1=some r):Fn prog 92 #[up0,up1] gI wI (fun _ _ v=>v=Iz (r)):=by
 unfold f92 at h;refine fnE func92 rfl rfl fun g0 hm hfr=>?_;have rp0:=RVc hm rp0;obtain ⟨ff1,fa1,fc1,rfl,fen1,fcl1⟩:=rp1;show E _ 19 none _ _ _ _ _;refine Z5 (Zg (Iz (0)) rfl rfl (Z3 (Zq h (fun (s:Unit) e w=>∃ (g:Gh) ,Fr gI wI g w) (fun X18 k18 zB h=>?_) ?_)))
 ·refine Z5 (Zn up0 rfl rfl (Zx (Iz ((x0).length : Int)) (Gz underlying53 rfl rp0) rfl (Zn (Iz (0)) rfl rfl (Z3 (Zr (Q0 h (fun (s : Int) e w => ∃ (g : Gh) , Fr gI wI g w ∧ e 0 = up0 ∧ RV g.m w (x0 : List Gj) up0 ∧ e 1 = (.func (.func ff1) fa1 fc1) ∧ e 7 = Iz (((x0).length : Int)) ∧ e 8 = Iz (s)) ⟨g0, hfr, rfl, rp0, rfl, rfl, rfl⟩ (fun X19 k19 cC => ?_)))))))
  rintro o0 yD bE ⟨l9,hfr,l8,l5,n8,v8,t5⟩ h;refine Z5 (Z9 (.bool ((decide (o0 < ((x0).length:Int))))) t5 v8 rfl rfl (Z3 (Zf ?_)));rcases Zt h with ⟨i6,h⟩ | ⟨i6,h⟩
  ·refine G6 i6 rfl (Zu (Zd (Zq h (fun (s : Unit) e w => ∃ (g : Gh) , Fr gI wI g w ∧ e 0 = up0 ∧ RV g.m w (x0 : List Gj) up0 ∧ e 1 = (.func (.func ff1) fa1 fc1) ∧ e 7 = Iz (((x0).length : Int)) ∧ e 8 = Iz (o0)) (fun X28 k28 uC h => ?_) ?_)))
   ·refine Zr (Z5 (Zo t5 rfl (Zg (Iz (o0)) rfl rfl (Z3 (Z5 (Zo n8 rfl (Zo l8 rfl (Zn (Iz (o0)) rfl rfl ?_))))))))
    obtain ⟨vB,n9,h⟩:=Z1 h;refine Zx (Tb up0 o0 3) (Zh (α:=Gj) underlying53 sizeOf101 rfl l5 rfl n9) rfl ?_;have bD:=Gx l5 n9;refine Z4 rfl (Z6 (g:=l9) isAgg101 sizeOf101 rfl bD fun cD lD=>?_);obtain ⟨yB,vC,h⟩:=Z1 h;refine Z4 rfl (K6 (g:=l9) (vs:=[cD]) rfl fen1 (.cons rfl .nil) (fcl1 _ _ hfr.ch _ _ _  lD vC) fun nD iE lE hs hr=>?_);have hfr:=hfr.ext hs;have l5:=l5.ext hs;obtain rfl:=Q1.1 hr;refine Z3 ?_;rcases Zt h with ⟨g8,h⟩ | ⟨g8,h⟩
    ·refine G6 g8 rfl (Z5 (Zn (Iz (o0)) rfl rfl (Zg (Iz (o0)) rfl rfl (Z3 (Ga (Tl (Gp (Gp (Tl (Gp ?_))))))))))
     obtain rfl:=sinj h;exact Tg rfl rfl (rq (Iz (o0))) ⟨_,hfr,rfl⟩
    ·refine G7 g8 rfl ?_
     exact Zu (Tj (Zd (uC () _ _ ⟨nD,hfr,l8,l5,n8,v8,t5⟩ h)))
   ·rintro _ zD mE ⟨oD, hfr, aB, lB, mB, nB, oB⟩ h
    refine Za (Z9 (Iz ((w64 (o0 + (1:Int))))) oB rfl rfl rfl (Zn (Iz ((w64 (o0 + (1:Int))))) rfl rfl ?_));exact Z3 (cC ((w64 (o0 + (1:Int)))) _ _ ⟨oD,hfr,aB,lB,mB,nB,rfl⟩ h)
  ·refine G7 i6 rfl (Tn (Gu (Gu (G8 ?_))))
   exact Zd (zB () _ _ ⟨l9,hfr⟩ h)
 ·rintro _ aE oE ⟨rE, hfr⟩ h
  refine Z5 (Zg (Iz (-1)) rfl rfl (Z3 (Ga ?_)));obtain rfl:=sinj h;exact Tg rfl rfl (rq (Iz (-1))) ⟨_,hfr,rfl⟩
def f95 (x0:Gv) (x1:Int) (x2:Int):Option (Int):=
 (Ha (w64 (x1 + x2)) ((((x0).ChainBelt).Cards).length:Int)).bind fun y5=>
 some (y5)
theorem en95:Enters prog 95:=enters_of func95 (by kernel_rfl) rfl
theorem wk95 {gI:Gh} {wI:World} {x0:Gv} {x1:Int} {x2:Int} {up0:Value} (rp0:RV gI.m wI x0 up0) {r:Int} (h:f95 x0 x1 x2=some r):Fn prog 95 #[up0,Iz (x1),Iz (x2)] gI wI (fun _ _ v=>v=Iz (r)):=by
 unfold f95 at h;refine fnE func95 rfl rfl fun g0 hm hfr=>?_;have rp0:=RVc hm rp0;show E _ 15 none _ _ _ _ _;refine Z5 (Z4 rfl (Tv (g:=g0) rfl rp0 fun g1 w1 p1 hs q1=>?_));have hfr:=hfr.ext hs;refine Zg (Iz (0)) rfl rfl (Z3 (Z5 (Zn (Iz (x1)) rfl rfl (Zn (Iz (x2)) rfl rfl (Z9 (Iz ((w64 (x1 + x2)))) rfl rfl rfl rfl (Zx (Z8 p1 0) (Zc Sh rfl (PT.ptr q1)) rfl ?_))))));have q2:=Zm (Ks).1 q1;refine Zx (Z8 (Z8 p1 0) 1) (Zc Js rfl (PT.ptr q2)) rfl ?_;have q3:=Zm (Qq).1 q2;refine Z4 rfl (Z6 (g:=g1) isAgg92 sizeOf92 rfl q3 fun v4 r4=>(Zx (Iz ((((x0).ChainBelt).Cards).length:Int)) (Gz underlying92 rfl r4) rfl ?_));obtain ⟨y5,hy5,h⟩:=Z1 h;refine Zx (Iz (y5)) (Gk rfl rfl (congrArg (Option.map (Value.int .i64)) hy5)) rfl (Zg (Iz (y5)) rfl rfl (Z3 (Ga ?_)));obtain rfl:=sinj h;exact Tg rfl rfl (rq (Iz (y5))) ⟨_,hfr,rfl⟩
def f100 (x0:Int) (z0:Int) (z1:Int):Option (Bool):=
 Option.bind (α:=Bool) (
  bif (decide (x0 < z0)) then
   some (true)
  else
   some ((decide (x0 > z1)))
  ) fun o0=>
 some (o0)
theorem en100:Enters prog 100:=enters_of func100 (by kernel_rfl) rfl
theorem wk100 {gI:Gh} {wI:World} {x0:Int} {z0:Int} {z1:Int} {pf0:Value} (qf0:PT gI.m wI z0 pf0) {pf1:Value} (qf1:PT gI.m wI z1 pf1) {r:Bool} (h:f100 x0 z0 z1=some r):Fn prog 100 #[Iz (x0),pf0,pf1] gI wI (fun _ _ v=>v=.bool (r)):=by
 unfold f100 at h;refine fnE func100 rfl rfl fun g0 hm hfr=>?_;have qf0:PT g0.m wI z0 pf0:=hm ▸ qf0;have qf1:PT g0.m wI z1 pf1:=hm ▸ qf1;show E _ 13 none _ _ _ _ _;refine Z5 (Zg (.bool false) rfl rfl (Z3 ?_));obtain ⟨o0,hx,h⟩:=Z1 h;refine Gl (fun e w=>∃ (g:Gh) ,Fr gI wI g w∧e 4=.bool (o0)) (fun Q' hQ=>?_) (fun t5 w7 hR=>?_)
 ·replace h := hx
  clear hx;refine Za (Zn (Iz (x0)) rfl rfl (Z4 rfl (Z6 (g:=g0) isAgg3 sizeOf3 rfl qf0 fun v4 r4=>?_)));obtain rfl:=Zj.1 r4;refine Z9 (.bool ((decide (x0 < z0)))) rfl rfl rfl rfl (Zn (.bool ((decide (x0 < z0)))) rfl rfl ?_);rcases Zt h with ⟨hc5,h⟩ | ⟨hc5,h⟩
  ·refine Zz rfl rfl hc5 rfl rfl (Zz rfl rfl hc5 rfl rfl (Zz rfl rfl hc5 rfl rfl (Zx (.bool true) (Zl (b := (decide (x0 < z0))) rfl (G4 hc5 rfl)) rfl (Zg (.bool true) rfl rfl (Zb ?_)))))
   obtain rfl:=sinj h;exact hQ _ _ ⟨g0,hfr,rfl⟩
  ·refine Zy (Iz (x0)) (Zk rfl) rfl rfl hc5 rfl (Ze (.yes2 rfl rfl hc5) rfl (Z6 (g := g0) isAgg3 sizeOf3 rfl qf1 fun v6 r6 => ?_))
   obtain rfl:=Zj.1 r6;refine Zy (.bool ((decide (x0 > z1)))) (Gk rfl rfl rfl) rfl rfl hc5 rfl (Zx (.bool ((decide (x0 > z1)))) (Zl (b:=(decide (x0 < z0))) rfl (G5 hc5 rfl)) rfl (Zg (.bool ((decide (x0 > z1)))) rfl rfl (Zb ?_)));obtain rfl:=sinj h;exact hQ _ _ ⟨g0,hfr,rfl⟩
 ·clear hx
  obtain ⟨g7,hfr,l5⟩:=hR;refine Ga ?_;obtain rfl:=sinj h;exact Tg rfl rfl (show _=.bool (o0) from l5) ⟨_,hfr,rfl⟩
def f104 (x0:List Gq) (x1:Int) (x2:Gq→Int→Option Int):Option (Int × Bool):=
 Option.bind (α:=Int) (
  lp (σ:=Int × Int) (fun k14 (i6,l5)=>
   jn (σ:=Unit) (fun _=>
    (Ws ((T3 (w64 (i6 + l5)))) ((1:Int))).bind fun g8=>
    (idx x0 (w64 g8)).bind fun xE=>
    (x2 xE x1).bind fun yD=>
    bif (decide (yD < (0 : Int))) then
     k14 ((w64 ((w64 g8) + (1:Int))),l5)
    else
     k14 (i6,(w64 g8))
    ) fun yE=>
   bif (decide (i6 < l5)) then
    yE ()
   else
    some (i6)
   ) big ((0:Int),((x0).length:Int))
  ) fun o0=>
 Option.bind (α:=Int × Bool) (
  bif (decide (o0 < ((x0).length : Int))) then
   (idx x0 o0).bind fun zE=>
   (x2 zE x1).bind fun nB=>
   some (o0,(nB == (0:Int)))
  else
   some (o0,false)
  ) fun (n8,v8)=>
 some (n8,v8)
theorem en104:Enters prog 104:=enters_of func104 (by kernel_rfl) rfl
theorem wk104 {gI:Gh} {wI:World} {x0:List Gq} {x1:Int} {x2:Gq→Int→Option Int} {up0:Value} (rp0:RV gI.m wI x0 up0) {up2:Value} (rp2:Xa prog x2 up2 gI wI) {r:Int × Bool} (h:f104 x0 x1 x2=some r):Fn prog 104 #[up0,Iz (x1),up2] gI wI (fun m w v=>∃ y0 y1,v=.tuple #[y0,y1]∧y0=Iz (r.1)∧y1=.bool (r.2)):=by
 unfold f104 at h;refine fnE func104 rfl rfl fun g0 hm hfr=>?_;have rp0:=RVc hm rp0;obtain ⟨ff2,fa2,fc2,rfl,fen2,fcl2⟩:=rp2;show E _ 49 none _ _ _ _ _;refine Z5 (Zg (Iz (0)) rfl rfl (Zg (.bool false) rfl rfl (Z3 (Z5 (Zn up0 rfl rfl (Zx (Iz ((x0).length:Int)) (Gz underlying35 rfl rp0) rfl (Zg (Iz ((x0).length:Int)) rfl rfl (Z3 (Z5 (Zn (Iz ((x0).length:Int)) rfl rfl (Zg (Iz (0)) rfl rfl (Zg (Iz ((x0).length:Int)) rfl rfl (Z3 ?_)))))))))))));obtain ⟨o0,hx,h⟩:=Z1 h;refine Gl (fun e w=>∃ (g:Gh) ,Fr gI wI g w∧e 0=up0∧RV g.m w (x0:List Gq) up0∧e 1=Iz (x1)∧e 2=(.func (.func ff2) fa2 fc2)∧e 8=Iz (((x0).length:Int))∧e 9=Iz (o0)) (fun Q' hQ=>?_) (fun eG kG hR=>?_)
 ·replace h := hx
  clear hx;refine Zr (Q0 h (fun (s:Int × Int) e w=>∃ (g:Gh) ,Fr gI wI g w∧e 0=up0∧RV g.m w (x0:List Gq) up0∧e 1=Iz (x1)∧e 2=(.func (.func ff2) fa2 fc2)∧e 8=Iz (((x0).length:Int))∧e 9=Iz (s.1)∧e 10=Iz (s.2)) ⟨g0,hfr,rfl,rp0,rfl,rfl,rfl,rfl,rfl⟩ (fun X14 k14 zD=>?_));rintro ⟨i6,l5⟩ gG w15 ⟨cF,hfr,cC,uC,vC,bD,cD,l9,oB⟩ h;refine Zq h (fun (s:Unit) e w=>∃ (g:Gh) ,Fr gI wI g w∧e 0=up0∧RV g.m w (x0:List Gq) up0∧e 1=Iz (x1)∧e 2=(.func (.func ff2) fa2 fc2)∧e 8=Iz (((x0).length:Int))∧e 9=Iz (i6)∧e 10=Iz (l5)) (fun X17 yE rF h=>?_) ?_
  ·refine Z5 (Zo l9 rfl (Zo oB rfl (Z9 (.bool ((decide (i6 < l5)))) rfl rfl rfl rfl (Z3 ?_))))
   rcases Zt h with ⟨yB,h⟩ | ⟨yB,h⟩
   ·refine G6 yB rfl ?_
    exact Zu (Zd (rF () _ _ ⟨cF,hfr,cC,uC,vC,bD,cD,l9,oB⟩ h))
   ·refine G7 yB rfl (Tn (Gu (Gu (G8 ?_))))
    obtain rfl:=sinj h;exact hQ _ _ ⟨cF,hfr,cC,uC,vC,bD,cD,l9⟩
  ·rintro _ iG lG ⟨dF, hfr, n9, l8, aB, lB, lD, nD, vB⟩ h
   refine Zr (Z5 (Zo nD rfl (Zo vB rfl (Z9 (Iz ((w64 (i6 + l5)))) rfl rfl rfl rfl (Zx (.int .u64 (T3 (w64 (i6 + l5)))) (Jj underlying3 underlying76 rfl) rfl ?_)))));obtain ⟨g8,hy20,h⟩:=Z1 h;refine Zx (.int .u64 (g8)) (H4 rfl rfl hy20) rfl (Zx (Iz ((w64 g8))) (Sq underlying76 underlying3 rfl) rfl (Zg (Iz ((w64 g8))) rfl rfl (Z3 (Z5 (Zo lB rfl (Zo n9 rfl (Zn (Iz ((w64 g8))) rfl rfl ?_)))))));obtain ⟨xE,aE,h⟩:=Z1 h;refine Zx (Tb up0 (w64 g8) 2) (Zh (α:=Gq) underlying35 sizeOf74 rfl l8 rfl aE) rfl ?_;have uF:=Gx l8 aE;refine Z4 rfl (Z6 (g:=dF) isAgg74 sizeOf74 rfl uF fun vF xF=>(Zo aB rfl ?_));obtain ⟨yD,sF,h⟩:=Z1 h;refine Z4 rfl (K6 (g:=dF) (vs:=[vF,Iz (x1)]) rfl fen2 (.cons rfl (.cons rfl .nil)) (fcl2 _ _ hfr.ch _ _ _ _ _  xF (Zj.2 rfl) sF) fun eF mG sG hs hr=>?_);have hfr:=hfr.ext hs;have l8:=l8.ext hs;obtain rfl:=Zj.1 hr;refine Z9 (.bool ((decide (yD < (0:Int))))) rfl rfl rfl rfl (Z3 ?_);rcases Zt h with ⟨zB,h⟩ | ⟨zB,h⟩
   ·refine G6 zB rfl (Za (Zn (Iz ((w64 g8))) rfl rfl (Z9 (Iz ((w64 ((w64 g8) + (1 : Int))))) rfl rfl rfl rfl (Zg (Iz ((w64 ((w64 g8) + (1 : Int))))) rfl rfl ?_))))
    exact Zb (Tj (Zd (zD ((w64 ((w64 g8) + (1:Int))),l5) _ _ ⟨eF,hfr,n9,l8,aB,lB,lD,rfl,vB⟩ h)))
   ·refine G7 zB rfl (Za (Zn (Iz ((w64 g8))) rfl rfl (Zg (Iz ((w64 g8))) rfl rfl ?_)))
    exact Zb (Tj (Zd (zD (i6,(w64 g8)) _ _ ⟨eF,hfr,n9,l8,aB,lB,lD,nD,rfl⟩ h)))
 ·clear hx
  obtain ⟨bE,hfr,lE,oD,mE,oE,rE,mB⟩:=hR;obtain ⟨⟨n8,v8⟩,hx,h⟩:=Z1 h;refine Gl (fun e w=>∃ (g:Gh) ,Fr gI wI g w∧e 6=Iz (n8)∧e 7=.bool (v8)) (fun Q' hQ=>?_) (fun jG xG hR=>?_)
  ·replace h := hx
   clear hx;refine Za (Zo mB rfl (Zo mB rfl (Zo rE rfl (Z9 (.bool ((decide (o0 < ((x0).length:Int))))) rfl rfl rfl rfl (Zn (.bool ((decide (o0 < ((x0).length:Int))))) rfl rfl ?_)))));rcases Zt h with ⟨t5,h⟩ | ⟨t5,h⟩
   ·refine Zy ((.func (.func ff2) fa2 fc2)) (Zk oE) rfl rfl t5 rfl (Zy up0 (Zk lE) rfl rfl t5 rfl (Zy (Iz (o0)) (Zk mB) rfl rfl t5 rfl ?_))
    obtain ⟨zE,iE,h⟩:=Z1 h;refine Zy (Tb up0 o0 2) (Zh (α:=Gq) underlying35 sizeOf74 rfl oD rfl iE) rfl rfl t5 rfl ?_;have yF:=Gx oD iE;refine Ze (.yes2 rfl rfl t5) rfl (Z6 (g:=bE) isAgg74 sizeOf74 rfl yF fun aG bG=>(Zy (Iz (x1)) (Zk mE) rfl rfl t5 rfl ?_));obtain ⟨nB,tF,h⟩:=Z1 h;refine Ze (.yes2 rfl rfl t5) rfl (K6 (g:=bE) (vs:=[aG,Iz (x1)]) rfl fen2 (.cons rfl (.cons rfl .nil)) (fcl2 _ _ hfr.ch _ _ _ _ _  bG (Zj.2 rfl) tF) fun cG yG zG hs hr=>?_);have hfr:=hfr.ext hs;obtain rfl:=Zj.1 hr;refine Zy (.bool ((nB == (0:Int)))) (Gk rfl rfl rfl) rfl rfl t5 rfl (Zx (.bool ((nB == (0:Int)))) (Zl (b:=(decide (o0 < ((x0).length:Int)))) rfl (G4 t5 rfl)) rfl (Zg (Iz (o0)) rfl rfl (Zg (.bool ((nB == (0:Int)))) rfl rfl (Zb ?_))));obtain ⟨rfl,rfl⟩:=Hd h;exact hQ _ _ ⟨cG,hfr,rfl,rfl⟩
   ·refine Zz rfl rfl t5 rfl rfl ?_
    iterate 7 refine Zz rfl rfl t5 rfl rfl ?_
    refine Zx (.bool false) (Zl (b:=(decide (o0 < ((x0).length:Int)))) rfl (G5 t5 rfl)) rfl (Zg (Iz (o0)) rfl rfl (Zg (.bool false) rfl rfl (Zb ?_)));obtain ⟨rfl,rfl⟩:=Hd h;exact hQ _ _ ⟨bE,hfr,rfl,rfl⟩
  ·clear hx
   obtain ⟨aH,hfr,uE,vE⟩:=hR;refine Ga ?_;obtain rfl:=sinj h;exact Jq rfl rfl (show _=Iz (n8) from uE) (show _=.bool (v8) from vE) ⟨_,hfr,_,_,rfl,rfl,rfl⟩
def f108 (x0:Gr):Option ((List Qj)):=
 Option.bind (α:=(List Qj)) (
  lp (σ:=(List Qj) × Int) (fun lH (uC,o0)=>
   bif (decide (o0 < ((((x0).PayTable).Rows).length : Int))) then
    Option.bind (α:=(List Qj)) (
     (idx (((x0).PayTable).Rows) o0).bind fun v8=>
     lp (σ:=(List Qj) × Int) (fun mH (nB,l5)=>
      bif (decide (l5 < ((v8).length : Int))) then
       Option.bind (α:=(List Qj)) (
        (idx v8 l5).bind fun oD=>
        bif (oD == (-1 : Int)) then
         (apnd 16 nB (([(⟨o0,l5⟩:Qj)]:List Qj))).bind fun tF=>
         some (tF)
        else
         some (nB)
        ) fun g8=>
       mH (g8,(w64 (l5 + (1:Int))))
      else
       some (nB)
      ) big (uC,(0:Int))
     ) fun l8=>
    lH (l8,(w64 (o0 + (1:Int))))
   else
    some (uC)
   ) big ([],(0:Int))
  ) fun l9=>
 some (l9)
theorem en108:Enters prog 108:=enters_of func108 (by kernel_rfl) rfl
theorem wk108 {gI:Gh} {wI:World} {x0:Gr} {up0:Value} (rp0:RV gI.m wI x0 up0) {r:(List Qj)} (h:f108 x0=some r):Fn prog 108 #[up0] gI wI (fun m w v=>RV m w (r) v):=by
 unfold f108 at h;refine fnE func108 rfl rfl fun g0 hm hfr=>?_;have rp0:=RVc hm rp0;show E _ 34 none _ _ _ _ _;refine Z5 (Z4 rfl (Tv (g:=g0) rfl rp0 fun g1 w1 p1 hs q1=>?_));have hfr:=hfr.ext hs;refine Zg (.slice none 0 0) rfl rfl (Z3 ?_);obtain ⟨l9,hx,h⟩:=Z1 h;refine Gl (fun e w=>∃ (g:Gh) (v2:Value),Fr gI wI g w∧e 2=v2∧RV g.m w (l9:List Qj) v2∧OS 1002 g w 256 (l9:List Qj) v2) (fun Q' hQ=>?_) (fun mI qI hR=>?_)
 ·replace h := hx
  clear hx;refine Z5 (Zx (Z8 p1 0) (Zc Tz rfl (PT.ptr q1)) rfl ?_);have nH:=Zm (G0).1 q1;refine Zx (Z8 (Z8 p1 0) 0) (Zc Q7 rfl (PT.ptr nH)) rfl ?_;have iI:=Zm (Qf).1 nH;refine Z4 rfl (Z6 (g:=g1) isAgg122 sizeOf122 rfl iI fun n9 oH=>(Zx (Iz ((((x0).PayTable).Rows).length:Int)) (Gz underlying122 rfl oH) rfl (Zn (Iz (0)) rfl rfl (Z3 (Zr (Q0 h (fun (s:(List Qj) × Int) e w=>∃ (g:Gh) (v2:Value),Fr gI wI g w∧e 2=v2∧RV g.m w (s.1:List Qj) v2∧OS 1002 g w 256 (s.1:List Qj) v2∧e 9=n9∧RV g.m w (((x0).PayTable).Rows:List (List Int)) n9∧e 10=Iz (((((x0).PayTable).Rows).length:Int))∧e 11=Iz (s.2)) ⟨g1,(.slice none 0 0),hfr,rfl,T0,OS.nil,rfl,oH,rfl,rfl⟩ (fun X58 lH qH=>?_)))))));rintro ⟨uC,o0⟩ sI rJ ⟨uF,lE,hfr,mE,oE,rE,uE,vC,yD,aB⟩ h;refine Z5 (Zx (.bool ((decide (o0 < ((((x0).PayTable).Rows).length:Int))))) (Gk aB yD rfl) rfl (Z3 (Zf ?_)));rcases Zt h with ⟨bE,h⟩ | ⟨bE,h⟩
  ·refine G6 bE rfl (Zu (Zd ?_))
   obtain ⟨l8,hx,h⟩:=Z1 h;refine Gl (fun e w=>∃ (g:Gh) (v2:Value),Fr gI wI g w∧e 2=v2∧RV g.m w (l8:List Qj) v2∧OS 1002 g w 256 (l8:List Qj) v2∧e 9=n9∧RV g.m w (((x0).PayTable).Rows:List (List Int)) n9∧e 10=Iz (((((x0).PayTable).Rows).length:Int))∧e 11=Iz (o0)) (fun Q' hQ=>?_) (fun nI jJ hR=>?_)
   ·replace h := hx
    clear hx;refine Zr (Z5 (Zo aB rfl ?_));obtain ⟨v8,vF,h⟩:=Z1 h;refine Zx (Tb n9 o0 1) (Zh (α:=List Int) underlying122 sizeOf25 uE vC aB vF) rfl ?_;have jI:=Gx vC vF;refine Z4 rfl (Z6 (g:=uF) isAgg25 sizeOf25 rfl jI fun oB pH=>(Zg (Iz (o0)) rfl rfl (Zg oB rfl rfl (Z3 (Z5 (Zn oB rfl rfl (Zx (Iz ((v8).length:Int)) (Gz underlying25 rfl pH) rfl (Zn (Iz (0)) rfl rfl (Z3 (Zr (Q0 h (fun (s:(List Qj) × Int) e w=>∃ (g:Gh) (v2:Value),Fr gI wI g w∧e 2=v2∧RV g.m w (s.1:List Qj) v2∧OS 1002 g w 256 (s.1:List Qj) v2∧e 3=Iz (o0)∧e 9=n9∧RV g.m w (((x0).PayTable).Rows:List (List Int)) n9∧e 10=Iz (((((x0).PayTable).Rows).length:Int))∧e 11=Iz (o0)∧e 16=oB∧RV g.m w (v8:List Int) oB∧e 17=Iz (((v8).length:Int))∧e 18=Iz (s.2)) ⟨uF,(lE),hfr,mE,oE,rE,rfl,uE,vC,yD,aB,rfl,pH,rfl,rfl⟩ (fun X88 mH sH=>?_))))))))))));rintro ⟨nB,l5⟩ kJ kI ⟨zD,vE,hfr,bD,lB,mB,cD,lD,i6,vB,yB,zB,t5,cC,n8⟩ h;refine Z5 (Z9 (.bool ((decide (l5 < ((v8).length:Int))))) n8 cC rfl rfl (Z3 (Zf ?_)));rcases Zt h with ⟨iE,h⟩ | ⟨iE,h⟩
    ·refine G6 iE rfl (Zu (Zd ?_))
     obtain ⟨g8,hx,h⟩:=Z1 h;refine Gl (fun e w=>∃ (g:Gh) (v2:Value),Fr gI wI g w∧e 2=v2∧RV g.m w (g8:List Qj) v2∧OS 1002 g w 256 (g8:List Qj) v2∧e 3=Iz (o0)∧e 9=n9∧RV g.m w (((x0).PayTable).Rows:List (List Int)) n9∧e 10=Iz (((((x0).PayTable).Rows).length:Int))∧e 11=Iz (o0)∧e 16=oB∧RV g.m w (v8:List Int) oB∧e 17=Iz (((v8).length:Int))∧e 18=Iz (l5)) (fun Q' hQ=>?_) (fun pI lJ hR=>?_)
     ·replace h := hx
      clear hx;refine Zr (Z5 (Zo n8 rfl ?_));obtain ⟨oD,xF,h⟩:=Z1 h;refine Zx (Tb oB l5 1) (Zh (α:=Int) underlying25 sizeOf3 zB t5 n8 xF) rfl ?_;have tH:=Gx t5 xF;refine Z4 rfl (Z6 (g:=zD) isAgg3 sizeOf3 rfl tH fun mJ uH=>?_);obtain rfl:=Zj.1 uH;refine Zg (Iz (l5)) rfl rfl (Zg (Iz (oD)) rfl rfl (Z3 (Z5 (Zn (Iz (oD)) rfl rfl (Z9 (.bool ((oD == (-1:Int)))) rfl rfl rfl rfl (Z3 ?_))))));rcases Zt h with ⟨nD,h⟩ | ⟨nD,h⟩
      ·refine G6 nD rfl (Za (Zo bD rfl (Zo cD rfl (Zn (Iz (l5)) rfl rfl ?_))))
       have yF:RV zD.m kI (⟨o0,l5⟩:Qj) (.agg (Td [[Iz 0],[Iz 0]] [(0,Iz (o0)),(1,Iz (l5))]).flatten.toArray):=Tc rfl (Gm (rfl) (Tf (rfl)));generalize jH:(Value.agg (Td [[Iz 0],[Iz 0]] [(0,Iz (o0)),(1,Iz (l5))]).flatten.toArray)=aG at yF;refine Zx aG (jH ▸ Tu (vs:=[(0,Iz (o0)),(1,Iz (l5))]) [[Iz 0],[Iz 0]] lay_256 rfl rfl (.cons rfl (.cons rfl .nil)) ⟨⟨_,rfl,rfl⟩,⟨⟨_,rfl,rfl⟩,trivial⟩⟩) rfl (Z4 rfl (Z7 (g:=zD) 3029 (xs:=([(⟨o0,l5⟩:Qj)]:List Qj)) (vs:=[aG]) underlying214 sizeOf256 zeroValue256 rfl rfl (.cons rfl .nil) (RVs.cons yF RVs.nil) rfl rfl fun xH nJ oJ hs o104 yH hxt hfl=>?_));have hfr:=hfr.stp hs;have lB:=lB.stp hs;have mB:=mB.stp hs rfl;have i6:=i6.stp hs;have t5:=t5.stp hs;obtain ⟨tF,kH,h⟩:=Z1 h;refine Z4 rfl (T5 (g:=xH) (i:=1002) underlying214 N8 rfl rfl mB lB rfl yH kH fun zH pJ bG hs o105 aI _=>?_);have hfr:=hfr.stp hs;have i6:=i6.stp hs;have t5:=t5.stp hs;refine Zg bG rfl rfl (Zb (Tj ?_));obtain rfl:=sinj h;exact hQ _ _ ⟨zH,(bG),hfr,rfl,aI,o105,cD,lD,i6,vB,yB,zB,t5,cC,n8⟩
      ·refine G7 nD rfl (Zu (Tj ?_))
       obtain rfl:=sinj h;exact hQ _ _ ⟨zD,(vE),hfr,bD,lB,mB,cD,lD,i6,vB,yB,zB,t5,cC,n8⟩
     ·clear hx
      obtain ⟨bI,cG,hfr,eG,gG,iG,jG,kG,lG,xE,yE,zE,cF,dF,eF⟩:=hR;refine Za (Z9 (Iz ((w64 (l5 + (1:Int))))) eF rfl rfl rfl (Zn (Iz ((w64 (l5 + (1:Int))))) rfl rfl ?_));exact Z3 (sH (g8,(w64 (l5 + (1:Int)))) _ _ ⟨bI,(cG),hfr,eG,gG,iG,jG,kG,lG,xE,yE,zE,cF,dF,rfl⟩ h)
    ·refine G7 iE rfl (Tn (Gu (Gu (G8 (Tj ?_)))))
     obtain rfl:=sinj h;exact hQ _ _ ⟨zD,(vE),hfr,bD,lB,mB,lD,i6,vB,yB⟩
   ·clear hx
    obtain ⟨dI,mG,hfr,sG,xG,yG,zG,aH,rF,sF⟩:=hR;refine Za (Z9 (Iz ((w64 (o0 + (1:Int))))) sF rfl rfl rfl (Zn (Iz ((w64 (o0 + (1:Int))))) rfl rfl ?_));exact Z3 (qH (l8,(w64 (o0 + (1:Int)))) _ _ ⟨dI,(mG),hfr,sG,xG,yG,zG,aH,rF,rfl⟩ h)
  ·refine G7 bE rfl (Tn (Gu (Gu (G8 ?_))))
   obtain rfl:=sinj h;exact hQ _ _ ⟨uF,(lE),hfr,mE,oE,rE⟩
 ·clear hx
  obtain ⟨qJ,aE,hfr,cH,gH,lI⟩:=hR;refine Z5 (Zo cH rfl (Zg aE rfl rfl (Z3 (Ga ?_))));obtain rfl:=sinj h;exact Tg rfl rfl (rq aE) ⟨_,hfr,gH⟩
def f109 (x0:List Int):Option (Int):=
 Option.bind (α:=Int) (
  lp (σ:=Int × Int) (fun uC (l5,o0)=>
   bif (decide (o0 < ((x0).length : Int))) then
    Option.bind (α:=Int) (
     (idx x0 o0).bind fun g8=>
     some ((w64 (l5 + g8)))
     ) fun i6=>
    uC (i6,(w64 (o0 + (1:Int))))
   else
    some (l5)
   ) big ((0:Int),(0:Int))
  ) fun t5=>
 some (t5)
theorem en109:Enters prog 109:=enters_of func109 (by kernel_rfl) rfl
theorem wk109 {gI:Gh} {wI:World} {x0:List Int} {up0:Value} (rp0:RV gI.m wI x0 up0) {r:Int} (h:f109 x0=some r):Fn prog 109 #[up0] gI wI (fun _ _ v=>v=Iz (r)):=by
 unfold f109 at h;refine fnE func109 rfl rfl fun g0 hm hfr=>?_;have rp0:=RVc hm rp0;show E _ 16 none _ _ _ _ _;refine Z5 (Zg (Iz (0)) rfl rfl (Z3 ?_));obtain ⟨t5,hx,h⟩:=Z1 h;refine Gl (fun e w=>∃ (g:Gh) ,Fr gI wI g w∧e 2=Iz (t5)) (fun Q' hQ=>?_) (fun nD zD hR=>?_)
 ·replace h := hx
  clear hx;refine Z5 (Zn up0 rfl rfl (Zx (Iz ((x0).length:Int)) (Gz underlying25 rfl rp0) rfl (Zn (Iz (0)) rfl rfl (Z3 (Zr (Q0 h (fun (s:Int × Int) e w=>∃ (g:Gh) ,Fr gI wI g w∧e 2=Iz (s.1)∧e 5=up0∧RV g.m w (x0:List Int) up0∧e 6=Iz (((x0).length:Int))∧e 7=Iz (s.2)) ⟨g0,hfr,rfl,rfl,rp0,rfl,rfl⟩ (fun X11 uC vC=>?_)))))));rintro ⟨l5,o0⟩ oD aE ⟨lB,hfr,l9,n9,l8,aB,n8⟩ h;refine Z5 (Z9 (.bool ((decide (o0 < ((x0).length:Int))))) n8 aB rfl rfl (Z3 (Zf ?_)));rcases Zt h with ⟨v8,h⟩ | ⟨v8,h⟩
  ·refine G6 v8 rfl (Zu (Zd ?_))
   obtain ⟨i6,hx,h⟩:=Z1 h;refine Gl (fun e w=>∃ (g:Gh) ,Fr gI wI g w∧e 2=Iz (i6)∧e 5=up0∧RV g.m w (x0:List Int) up0∧e 6=Iz (((x0).length:Int))∧e 7=Iz (o0)) (fun Q' hQ=>?_) (fun yD bE hR=>?_)
   ·replace h := hx
    clear hx;refine Zr (Z5 ?_);obtain ⟨g8,mB,h⟩:=Z1 h;refine Zx (Tb up0 o0 1) (Zh (α:=Int) underlying25 sizeOf3 n9 l8 n8 mB) rfl ?_;have bD:=Gx l8 mB;refine Z4 rfl (Z6 (g:=lB) isAgg3 sizeOf3 rfl bD fun iE cD=>?_);obtain rfl:=Zj.1 cD;refine Zg (Iz (g8)) rfl rfl (Z3 (Za (Zo l9 rfl (Zn (Iz (g8)) rfl rfl (Z9 (Iz ((w64 (l5 + g8)))) rfl rfl rfl rfl (Zg (Iz ((w64 (l5 + g8)))) rfl rfl (Zb (Tj ?_))))))));obtain rfl:=sinj h;exact hQ _ _ ⟨lB,hfr,rfl,n9,l8,aB,n8⟩
   ·clear hx
    obtain ⟨lD,hfr,nB,oB,vB,yB,zB⟩:=hR;refine Za (Z9 (Iz ((w64 (o0 + (1:Int))))) zB rfl rfl rfl (Zn (Iz ((w64 (o0 + (1:Int))))) rfl rfl ?_));exact Z3 (vC (i6,(w64 (o0 + (1:Int)))) _ _ ⟨lD,hfr,nB,oB,vB,yB,rfl⟩ h)
  ·refine G7 v8 rfl (Tn (Gu (Gu (G8 ?_))))
   obtain rfl:=sinj h;exact hQ _ _ ⟨lB,hfr,l9⟩
 ·clear hx
  obtain ⟨lE,hfr,cC⟩:=hR;refine Z5 (Zo cC rfl (Zg (Iz (t5)) rfl rfl (Z3 (Ga ?_))));obtain rfl:=sinj h;exact Tg rfl rfl (rq (Iz (t5))) ⟨_,hfr,rfl⟩
def f110 (x0:Gr) (x1:Int):Option ((List Int)):=
 Option.bind (α:=(List Int)) (
  lp (σ:=(List Int) × Int) (fun mE (v8,o0)=>
   bif (decide (o0 < ((((x0).PayTable).Rows).length : Int))) then
    Option.bind (α:=(List Int)) (
     (idx (((x0).PayTable).Rows) o0).bind fun oE=>
     (idx oE x1).bind fun lB=>
     (apnd 8 v8 (([lB]:List Int))).bind fun rE=>
     some (rE)
     ) fun t5=>
    mE (t5,(w64 (o0 + (1:Int))))
   else
    some (v8)
   ) big ([],(0:Int))
  ) fun i6=>
 some (i6)
theorem en110:Enters prog 110:=enters_of func110 (by kernel_rfl) rfl
theorem wk110 {gI:Gh} {wI:World} {x0:Gr} {x1:Int} {up0:Value} (rp0:RV gI.m wI x0 up0) {r:(List Int)} (h:f110 x0 x1=some r):Fn prog 110 #[up0,Iz (x1)] gI wI (fun m w v=>RV m w (r) v):=by
 unfold f110 at h;refine fnE func110 rfl rfl fun g0 hm hfr=>?_;have rp0:=RVc hm rp0;show E _ 24 none _ _ _ _ _;refine Z5 (Z4 rfl (Tv (g:=g0) rfl rp0 fun g1 w1 p1 hs q1=>?_));have hfr:=hfr.ext hs;refine Zg (.slice none 0 0) rfl rfl (Z3 ?_);obtain ⟨i6,hx,h⟩:=Z1 h;refine Gl (fun e w=>∃ (g:Gh) (v4:Value),Fr gI wI g w∧e 4=v4∧RV g.m w (i6:List Int) v4∧OS 1004 g w 3 (i6:List Int) v4) (fun Q' hQ=>?_) (fun bG gG hR=>?_)
 ·replace h := hx
  clear hx;refine Z5 (Zx (Z8 p1 0) (Zc Tz rfl (PT.ptr q1)) rfl ?_);have uE:=Zm (G0).1 q1;refine Zx (Z8 (Z8 p1 0) 0) (Zc Q7 rfl (PT.ptr uE)) rfl ?_;have dF:=Zm (Qf).1 uE;refine Z4 rfl (Z6 (g:=g1) isAgg122 sizeOf122 rfl dF fun l9 vE=>(Zx (Iz ((((x0).PayTable).Rows).length:Int)) (Gz underlying122 rfl vE) rfl (Zn (Iz (0)) rfl rfl (Z3 (Zr (Q0 h (fun (s:(List Int) × Int) e w=>∃ (g:Gh) (v4:Value),Fr gI wI g w∧e 1=Iz (x1)∧e 4=v4∧RV g.m w (s.1:List Int) v4∧OS 1004 g w 3 (s.1:List Int) v4∧e 9=l9∧RV g.m w (((x0).PayTable).Rows:List (List Int)) l9∧e 10=Iz (((((x0).PayTable).Rows).length:Int))∧e 11=Iz (s.2)) ⟨g1,(.slice none 0 0),hfr,rfl,rfl,T0,OS.nil,rfl,vE,rfl,rfl⟩ (fun X30 mE zE=>?_)))))));rintro ⟨v8,o0⟩ cG iG ⟨mB,cD,hfr,nB,oB,g8,l8,vB,l5,n9,n8⟩ h;refine Z5 (Zx (.bool ((decide (o0 < ((((x0).PayTable).Rows).length:Int))))) (Gk n8 n9 rfl) rfl (Z3 (Zf ?_)));rcases Zt h with ⟨aB,h⟩ | ⟨aB,h⟩
  ·refine G6 aB rfl (Zu (Zd ?_))
   obtain ⟨t5,hx,h⟩:=Z1 h;refine Gl (fun e w=>∃ (g:Gh) (v4:Value),Fr gI wI g w∧e 1=Iz (x1)∧e 4=v4∧RV g.m w (t5:List Int) v4∧OS 1004 g w 3 (t5:List Int) v4∧e 9=l9∧RV g.m w (((x0).PayTable).Rows:List (List Int)) l9∧e 10=Iz (((((x0).PayTable).Rows).length:Int))∧e 11=Iz (o0)) (fun Q' hQ=>?_) (fun eG jG hR=>?_)
   ·replace h := hx
    clear hx;refine Zr (Z5 ?_);obtain ⟨oE,zB,h⟩:=Z1 h;refine Zx (Tb l9 o0 1) (Zh (α:=List Int) underlying122 sizeOf25 vB l5 n8 zB) rfl ?_;have eF:=Gx l5 zB;refine Z4 rfl (Z6 (g:=mB) isAgg25 sizeOf25 rfl eF fun cC xE=>(Zg cC rfl rfl (Z3 (Za (Zo oB rfl (Zn cC rfl rfl (Zo nB rfl ?_)))))));obtain ⟨lB,uC,h⟩:=Z1 h;refine Zx (Tb cC x1 1) (Zh (α:=Int) underlying25 sizeOf3 rfl xE rfl uC) rfl ?_;have rF:=Gx xE uC;refine Z4 rfl (Z6 (g:=mB) isAgg3 sizeOf3 rfl rF fun kG sF=>?_);obtain rfl:=Zj.1 sF;refine Z4 rfl (Z7 (g:=mB) 3020 (xs:=([lB]:List Int)) (vs:=[Iz (lB)]) underlying25 sizeOf3 zeroValue3 rfl rfl (.cons rfl .nil) (RVs.cons (Zj.2 rfl) RVs.nil) rfl rfl fun tF lG mG hs o48 uF hxt hfl=>?_);have hfr:=hfr.stp hs;have g8:=g8.stp hs;have l8:=l8.stp hs rfl;have l5:=l5.stp hs;obtain ⟨rE,cF,h⟩:=Z1 h;refine Z4 rfl (T5 (g:=tF) (i:=1004) underlying25 Kr rfl rfl l8 g8 rfl uF cF fun vF sG yE hs o49 xF _=>?_);have hfr:=hfr.stp hs;have l5:=l5.stp hs;refine Zg yE rfl rfl (Zb (Tj ?_));obtain rfl:=sinj h;exact hQ _ _ ⟨vF,(yE),hfr,nB,rfl,xF,o49,vB,l5,n9,n8⟩
   ·clear hx
    obtain ⟨yF,lD,hfr,nD,oD,yD,zD,aE,bE,vC,bD⟩:=hR;refine Za (Z9 (Iz ((w64 (o0 + (1:Int))))) bD rfl rfl rfl (Zn (Iz ((w64 (o0 + (1:Int))))) rfl rfl ?_));exact Z3 (zE (t5,(w64 (o0 + (1:Int)))) _ _ ⟨yF,(lD),hfr,nD,oD,yD,zD,aE,bE,vC,rfl⟩ h)
  ·refine G7 aB rfl (Tn (Gu (Gu (G8 ?_))))
   obtain rfl:=sinj h;exact hQ _ _ ⟨mB,(cD),hfr,oB,g8,l8⟩
 ·clear hx
  obtain ⟨xG,yB,hfr,iE,lE,aG⟩:=hR;refine Z5 (Zo iE rfl (Zg yB rfl rfl (Z3 (Ga ?_))));obtain rfl:=sinj h;exact Tg rfl rfl (rq yB) ⟨_,hfr,lE⟩
def f114 (x0:Int) (x1:Int):Option (Str):=
 Option.bind (α:=List UInt8) (
  lp (σ:=List UInt8 × Int) (fun k18 (t5,o0)=>
   bif (decide (o0 < x1)) then
    Option.bind (α:=List UInt8) (
     (Ws x0 o0).bind fun n9=>
     bif ((Wa .and n9 (1 : Int)) == (1 : Int)) then
      (apnd 1 t5 [(120:UInt8)]).bind fun vC=>
      some (vC)
     else
      (apnd 1 t5 [(46:UInt8)]).bind fun bD=>
      some (bD)
     ) fun i6=>
    k18 (i6,(w64 (o0 + (1:Int))))
   else
    some (t5)
   ) big (([]:List UInt8),(0:Int))
  ) fun l8=>
 (Ck l8).bind fun mB=>
 some (mB)
theorem en114:Enters prog 114:=enters_of func114 (by kernel_rfl) rfl
theorem wk114 {gI:Gh} {wI:World} {x0:Int} {x1:Int}  {r:Str} (h:f114 x0 x1=some r):Fn prog 114 #[Iz (x0),Iz (x1)] gI wI (fun _ _ v=>v=Str.v (r)):=by
 unfold f114 at h;refine fnE func114 rfl rfl fun g0 hm hfr=>?_;show E _ 20 none _ _ _ _ _;refine Z5 (Zg (Str.v (⟨[]⟩:Str)) rfl rfl (Z3 (Z5 (Z4 rfl (G2 (g:=g0) 2005 ((⟨.pointer none,rfl⟩,[]):Fv × List UInt8) zeroValue179 (fun m w=>⟨_,Gb (show GoT.rep m w (⟨.pointer none,rfl⟩:Fv) [.pointer none] from rfl) G9,rfl⟩) fun g1 w1 p1 hs b1 cb=>?_)))));have hfr:=hfr.stp hs;replace b1:SB 2005 60501 g1 w1 5 179 [] p1:=⟨_,b1,cb.osf rfl,.inl rfl⟩;clear cb;refine Z3 ?_;obtain ⟨l8,hx,h⟩:=Z1 h;refine Gl (fun e w=>∃ (g:Gh) ,Fr gI wI g w∧e 5=p1∧SB 2005 60501 g w 5 179 (l8) p1) (fun Q' hQ=>?_) (fun lE rE hR=>?_)
 ·replace h := hx
  clear hx;refine Z5 (Zn (Iz (x1)) rfl rfl (Zn (Iz (0)) rfl rfl (Z3 (Zr (Q0 h (fun (s:List UInt8 × Int) e w=>∃ (g:Gh) ,Fr gI wI g w∧e 0=Iz (x0)∧e 5=p1∧SB 2005 60501 g w 5 179 (s.1) p1∧e 7=Iz (x1)∧e 8=Iz (s.2)) ⟨g1,hfr,rfl,rfl,b1,rfl,rfl⟩ (fun X18 k18 cD=>?_))))));rintro ⟨t5,o0⟩ mE uE ⟨zD,hfr,n8,l5,v8,l9,g8⟩ h;refine Z5 (Z9 (.bool ((decide (o0 < x1)))) g8 l9 rfl rfl (Z3 (Zf ?_)));rcases Zt h with ⟨aB,h⟩ | ⟨aB,h⟩
  ·refine G6 aB rfl (Zu (Zd ?_))
   obtain ⟨i6,hx,h⟩:=Z1 h;refine Gl (fun e w=>∃ (g:Gh) ,Fr gI wI g w∧e 0=Iz (x0)∧e 5=p1∧SB 2005 60501 g w 5 179 (i6) p1∧e 7=Iz (x1)∧e 8=Iz (o0)) (fun Q' hQ=>?_) (fun oE vE hR=>?_)
   ·replace h := hx
    clear hx;refine Zr (Z5 (Zo g8 rfl (Zg (Iz (o0)) rfl rfl (Z3 (Z5 (Zo n8 rfl (Zn (Iz (o0)) rfl rfl ?_)))))));obtain ⟨n9,lD,h⟩:=Z1 h;refine Zx (Iz (n9)) (Gk rfl rfl (congrArg (Option.map (Value.int .i64)) lD)) rfl (Z9 (Iz ((Wa .and n9 (1:Int)))) rfl rfl rfl rfl (Z9 (.bool (((Wa .and n9 (1:Int)) == (1:Int)))) rfl rfl rfl rfl (Z3 ?_)));rcases Zt h with ⟨lB,h⟩ | ⟨lB,h⟩
    ·refine G6 lB rfl (Za ?_)
     obtain ⟨vC,nD,h⟩:=Z1 h;refine Z4 rfl (Wc (vs:=[p1,.int .u8 (UInt8.toNat 120)]) en111 (.cons l5 (.cons rfl .nil)) (wk111 (i:=2005) (j:=60501) rfl rfl v8 nD) fun xE w29 hq=>?_);obtain ⟨hv,aE,⟨_,_,_,_,hs1,hs2,hs3⟩,b29⟩:=hq;subst hv;have hfr:=hfr.stp hs1;have hfr:=hfr.stp hs2;have hfr:=hfr.stp hs3;clear hs1 hs2 hs3;refine Zb (Tj ?_);obtain rfl:=sinj h;exact hQ _ _ ⟨aE,hfr,n8,l5,b29,l9,g8⟩
    ·refine G7 lB rfl (Za ?_)
     obtain ⟨bD,oD,h⟩:=Z1 h;refine Z4 rfl (Wc (vs:=[p1,.int .u8 (UInt8.toNat 46)]) en111 (.cons l5 (.cons rfl .nil)) (wk111 (i:=2005) (j:=60501) rfl rfl v8 oD) fun yE zE hq=>?_);obtain ⟨hv,bE,⟨_,_,_,_,hs1,hs2,hs3⟩,b31⟩:=hq;subst hv;have hfr:=hfr.stp hs1;have hfr:=hfr.stp hs2;have hfr:=hfr.stp hs3;clear hs1 hs2 hs3;refine Zb (Tj ?_);obtain rfl:=sinj h;exact hQ _ _ ⟨bE,hfr,n8,l5,b31,l9,g8⟩
   ·clear hx
    obtain ⟨iE,hfr,nB,oB,vB,yB,zB⟩:=hR;refine Za (Z9 (Iz ((w64 (o0 + (1:Int))))) zB rfl rfl rfl (Zn (Iz ((w64 (o0 + (1:Int))))) rfl rfl ?_));exact Z3 (cD (i6,(w64 (o0 + (1:Int)))) _ _ ⟨iE,hfr,nB,oB,vB,yB,rfl⟩ h)
  ·refine G7 aB rfl (Tn (Gu (Gu (G8 ?_))))
   obtain rfl:=sinj h;exact hQ _ _ ⟨zD,hfr,l5,v8⟩
 ·clear hx
  obtain ⟨cF,hfr,cC,uC⟩:=hR;refine Z5 ?_;obtain ⟨mB,yD,h⟩:=Z1 h;obtain ⟨hne35,hye35⟩:=A5 yD;refine Z4 rfl (Wc (vs:=[p1]) en77 (.cons cC .nil) (wk77 (i:=2005) (j:=60501) rfl uC hne35) fun dF eF hq=>?_);obtain ⟨hv,rF,hs⟩:=hq;rw [← hye35] at hv;subst hv;have hfr:=hfr.stp hs;refine Zg (Str.v mB) rfl rfl (Z3 (Ga ?_));obtain rfl:=sinj h;exact Tg rfl rfl (rq (Str.v mB)) ⟨_,hfr,rfl⟩
def f115 (x0:Int) (z0:Int) (z1:Int):Option (Bool):=
 Option.bind (α:=Bool) (
  bif (decide (x0 < z0)) then
   some (true)
  else
   some ((decide (x0 > z1)))
  ) fun o0=>
 some (o0)
theorem en115:Enters prog 115:=enters_of func115 (by kernel_rfl) rfl
theorem wk115 {gI:Gh} {wI:World} {x0:Int} {z0:Int} {z1:Int} {pf0:Value} (qf0:PT gI.m wI z0 pf0) {pf1:Value} (qf1:PT gI.m wI z1 pf1) {r:Bool} (h:f115 x0 z0 z1=some r):Fn prog 115 #[Iz (x0),pf0,pf1] gI wI (fun _ _ v=>v=.bool (r)):=by
 unfold f115 at h;refine fnE func115 rfl rfl fun g0 hm hfr=>?_;have qf0:PT g0.m wI z0 pf0:=hm ▸ qf0;have qf1:PT g0.m wI z1 pf1:=hm ▸ qf1;show E _ 13 none _ _ _ _ _;refine Z5 (Zg (.bool false) rfl rfl (Z3 ?_));obtain ⟨o0,hx,h⟩:=Z1 h;refine Gl (fun e w=>∃ (g:Gh) ,Fr gI wI g w∧e 4=.bool (o0)) (fun Q' hQ=>?_) (fun t5 w7 hR=>?_)
 ·replace h := hx
  clear hx;refine Za (Zn (Iz (x0)) rfl rfl (Z4 rfl (Z6 (g:=g0) isAgg3 sizeOf3 rfl qf0 fun v4 r4=>?_)));obtain rfl:=Zj.1 r4;refine Z9 (.bool ((decide (x0 < z0)))) rfl rfl rfl rfl (Zn (.bool ((decide (x0 < z0)))) rfl rfl ?_);rcases Zt h with ⟨hc5,h⟩ | ⟨hc5,h⟩
  ·refine Zz rfl rfl hc5 rfl rfl (Zz rfl rfl hc5 rfl rfl (Zz rfl rfl hc5 rfl rfl (Zx (.bool true) (Zl (b := (decide (x0 < z0))) rfl (G4 hc5 rfl)) rfl (Zg (.bool true) rfl rfl (Zb ?_)))))
   obtain rfl:=sinj h;exact hQ _ _ ⟨g0,hfr,rfl⟩
  ·refine Zy (Iz (x0)) (Zk rfl) rfl rfl hc5 rfl (Ze (.yes2 rfl rfl hc5) rfl (Z6 (g := g0) isAgg3 sizeOf3 rfl qf1 fun v6 r6 => ?_))
   obtain rfl:=Zj.1 r6;refine Zy (.bool ((decide (x0 > z1)))) (Gk rfl rfl rfl) rfl rfl hc5 rfl (Zx (.bool ((decide (x0 > z1)))) (Zl (b:=(decide (x0 < z0))) rfl (G5 hc5 rfl)) rfl (Zg (.bool ((decide (x0 > z1)))) rfl rfl (Zb ?_)));obtain rfl:=sinj h;exact hQ _ _ ⟨g0,hfr,rfl⟩
 ·clear hx
  obtain ⟨g7,hfr,l5⟩:=hR;refine Ga ?_;obtain rfl:=sinj h;exact Tg rfl rfl (show _=.bool (o0) from l5) ⟨_,hfr,rfl⟩
def f116 (x0:List Z2) (x1:Int) (x2:Int) (x3:Z2→Z2→Option Int):Option ((List Z2)):=
 lp (σ:=(List Z2) × Int) (fun k1 (cC,g8)=>
  jn (σ:=Unit) (fun _=>
   Option.bind (α:=(List Z2)) (
    lp (σ:=(List Z2) × Int) (fun xE (t5,o0)=>
     jn (σ:=Unit) (fun _=>
      Option.bind (α:=(List Z2)) (
       (idx t5 (w64 (o0 - (1:Int)))).bind fun uC=>
       (idx t5 o0).bind fun bE=>
       (idx t5 o0).bind fun uH=>
       (idx ((List.set t5 (Int.toNat o0) uC)) (w64 (o0 - (1:Int)))).bind fun xH=>
       some ((List.set ((List.set t5 (Int.toNat o0) uC)) (Int.toNat (w64 (o0 - (1:Int)))) bE))
       ) fun aB=>
      xE (aB,(w64 (o0 - (1:Int))))
      ) fun yE=>
     Option.bind (α:=Bool) (
      bif (decide (o0 > x1)) then
       (idx t5 o0).bind fun zE=>
       (idx t5 (w64 (o0 - (1:Int)))).bind fun cF=>
       (x3 zE cF).bind fun oB=>
       some ((decide (oB < (0:Int))))
      else
       some (false)
      ) fun n8=>
     bif n8 then
      yE ()
     else
      some (t5)
     ) big (cC,g8)
    ) fun lB=>
   k1 (lB,(w64 (g8 + (1:Int))))
   ) fun k4=>
  bif (decide (g8 < x2)) then
   k4 ()
  else
   some (cC)
  ) big (x0,(w64 (x1 + (1:Int))))
theorem en116:Enters prog 116:=enters_of func116 (by kernel_rfl) rfl
theorem wk116 {iI:Nat} {gI:Gh} {wI:World} {x0:List Z2} {x1:Int} {x2:Int} {x3:Z2→Z2→Option Int} {up0:Value} (mp0:OM iI gI wI 60 x0 up0) {up3:Value} (rp3:Xa prog x3 up3 gI wI) {r:(List Z2)} (h:f116 x0 x1 x2 x3=some r):FnM prog 116 #[up0,Iz (x1),Iz (x2),up3] iI gI wI (fun g w v=>v=.tuple #[]∧OM iI g w 60 r up0):=by
 unfold f116 at h;refine J0 func116 rfl (Nat.le_of_ble_eq_true rfl) fun g0 hm hfr=>?_;have lH:=mp0;replace mp0:=mp0.enter;rw [← hm] at mp0
 replace hm:g0.m=gI.m:=by rw [hm]
 obtain ⟨ff3,fa3,fc3,rfl,fen3,fcl3⟩:=rp3;show E _ 53 none _ _ _ _ _;refine Z5 (Zn (Iz (x1)) rfl rfl (Z9 (Iz ((w64 (x1 + (1:Int))))) rfl rfl rfl rfl (Zg (Iz ((w64 (x1 + (1:Int))))) rfl rfl (Z3 (Zr (Q0 h (fun (s:(List Z2) × Int) e w=>∃ (g:Gh) ,FrM iI gI wI g w∧e 0=up0∧OM 1 g w 60 (s.1:List Z2) up0∧e 1=Iz (x1)∧e 2=Iz (x2)∧e 3=(.func (.func ff3) fa3 fc3)∧e 8=Iz (s.2)) ⟨g0,hfr,rfl,mp0,rfl,rfl,rfl,rfl⟩ (fun X1 k1 hk1=>?_)))))));rintro ⟨cC,g8⟩ pK w2 ⟨g2,hfr,yH,dF,zH,eF,aI,rF⟩ h;refine Zq h (fun (s:Unit) e w=>∃ (g:Gh) ,FrM iI gI wI g w∧e 0=up0∧OM 1 g w 60 (cC:List Z2) up0∧e 1=Iz (x1)∧e 2=Iz (x2)∧e 3=(.func (.func ff3) fa3 fc3)∧e 8=Iz (g8)) (fun X4 k4 hk4 h=>?_) ?_
 ·refine Z5 (Zo rF rfl (Zo eF rfl (Z9 (.bool ((decide (g8 < x2)))) rfl rfl rfl rfl (Z3 ?_))))
  rcases Zt h with ⟨hc5,h⟩ | ⟨hc5,h⟩
  ·refine G6 hc5 rfl ?_
   exact Zu (Zd (hk4 () _ _ ⟨g2,hfr,yH,dF,zH,eF,aI,rF⟩ h))
  ·refine G7 hc5 rfl (Tn (Gu (Gu (G8 ?_))))
   obtain rfl:=sinj h;exact Y3 rfl rfl ⟨_,hfr,rfl,lH.back dF⟩
 ·rintro _ qK w6 ⟨g6, hfr, bI, dI, jI, kI, lI, sF⟩ h
  obtain ⟨lB,hx,h⟩:=Z1 h;refine Gl (fun e w=>∃ (g:Gh) ,FrM iI gI wI g w∧e 0=up0∧OM 1 g w 60 (lB:List Z2) up0∧e 1=Iz (x1)∧e 2=Iz (x2)∧e 3=(.func (.func ff3) fa3 fc3)∧e 8=Iz (g8)) (fun Q' hQ=>?_) (fun qJ zJ hR=>?_)
  ·replace h := hx
   clear hx;refine Zr (Z5 (Zo sF rfl (Zg (Iz (g8)) rfl rfl (Z3 (Zr (Q0 h (fun (s:(List Z2) × Int) e w=>∃ (g:Gh) ,FrM iI gI wI g w∧e 0=up0∧OM 1 g w 60 (s.1:List Z2) up0∧e 1=Iz (x1)∧e 2=Iz (x2)∧e 3=(.func (.func ff3) fa3 fc3)∧e 8=Iz (g8)∧e 9=Iz (s.2)) ⟨g6,hfr,bI,dI,jI,kI,lI,sF,rfl⟩ (fun X297 xE mH=>?_)))))));rintro ⟨t5,o0⟩ rJ aK ⟨tF,hfr,mB,i6,nB,bD,vB,cD,v8⟩ h;refine Zq h (fun (s:Unit) e w=>∃ (g:Gh) ,FrM iI gI wI g w∧e 0=up0∧OM 1 g w 60 (t5:List Z2) up0∧e 1=Iz (x1)∧e 2=Iz (x2)∧e 3=(.func (.func ff3) fa3 fc3)∧e 8=Iz (g8)∧e 9=Iz (o0)) (fun X411 yE nH h=>?_) ?_
   ·obtain ⟨n8, hx, h⟩ := Z1 h
    refine Gl (fun e w=>∃ (g:Gh) ,FrM iI gI wI g w∧e 0=up0∧OM 1 g w 60 (t5:List Z2) up0∧e 1=Iz (x1)∧e 2=Iz (x2)∧e 3=(.func (.func ff3) fa3 fc3)∧e 8=Iz (g8)∧e 9=Iz (o0)∧e 34=.bool (n8)) (fun Q' hQ=>?_) (fun sJ bK hR=>?_)
    ·replace h := hx
     clear hx;rcases Zt h with ⟨l5,h⟩ | ⟨l5,h⟩
     ·obtain ⟨zE, lE, h⟩ := Z1 h
      refine Ju (x:=.tmp 25) isAgg60 sizeOf60 i6 lE fun uF mI oH=>?_;obtain ⟨cF,mE,h⟩:=Z1 h;refine Ju (x:=.tmp 30) isAgg60 sizeOf60 i6 mE fun vF nI pH=>?_;obtain ⟨oB,qH,h⟩:=Z1 h;refine To (g:=tF) (n:=17) [(14,(fun v g w=>v=Iz (oB)))] [0,1,2,3,4,5,6,7,8,9,10,11,12,13,14,15,16] rfl mixed (by kernel_rfl) (⟨fun _=>Wk _,trivial⟩) (Z0 (Iz (o0)) rfl rfl (Zk v8) (Z0 (Iz (x1)) rfl rfl (Zk nB) (Z0 (.bool ((decide (o0 > x1)))) rfl rfl (Gk rfl rfl rfl) (Z0 (.bool ((decide (o0 > x1)))) rfl rfl (Zk rfl) (L_y ((.func (.func ff3) fa3 fc3)) rfl rfl rfl rfl l5 (Zk vB) (L_y up0 rfl rfl rfl rfl l5 (Zk mB) (L_y (Iz (o0)) rfl rfl rfl rfl l5 (Zk v8) (L_y (Tb up0 o0 5) rfl rfl rfl rfl l5 (T2 (α:=Z2) underlying33 sizeOf60 rfl i6 rfl lE) (Tm (c:=uF) rfl rfl (.yes2 rfl rfl l5) (fun _ _ h=>⟨h.ch,fun b hb _=>h.below.block b hb⟩) oH rfl (L_y up0 rfl rfl rfl rfl l5 (Zk mB) (L_y (Iz (o0)) rfl rfl rfl rfl l5 (Zk v8) (L_y (Iz ((w64 (o0 - (1:Int))))) rfl rfl rfl rfl l5 (Gk rfl rfl rfl) (L_y (Tb up0 (w64 (o0 - (1:Int))) 5) rfl rfl rfl rfl l5 (T2 (α:=Z2) underlying33 sizeOf60 rfl i6 rfl mE) (Tm (c:=vF) rfl rfl (.yes2 rfl rfl l5) (fun _ _ h=>⟨h.ch,fun b hb _=>h.below.block b hb⟩) pH rfl (W7 (φ:=fun v g w=>v=Iz (oB)) rfl rfl (.yes2 rfl rfl l5) (fun g w hd=>K6 (g:=g) (vs:=[uF,vF]) rfl fen3 (.cons rfl (.cons rfl .nil)) (fcl3 _ _ (hfr.ext hd.1).ch _ _ _ _ _  (mI.ext hd.1) (nI.ext hd.1) qH) fun g' w' v hs hr=>⟨g',hs,Zj.1 hr⟩) (fun cK hv=>?_))))))))))))))));obtain ⟨_,_,_,rfl⟩:=hv;refine L_y (.bool ((decide (oB < (0:Int))))) rfl rfl rfl rfl l5 (Gk rfl rfl rfl) (Z0 (.bool ((decide (oB < (0:Int))))) rfl rfl (Zl (b:=(decide (o0 > x1))) rfl (G4 l5 rfl)) (Ka fun pI dK hs=>?_));have hfr:=hfr.ext hs;have i6:=i6.ext hs;clear hs;refine Zb ?_;obtain rfl:=sinj h;exact hQ _ _ ⟨pI,hfr,mB,i6,nB,bD,vB,cD,v8,rfl⟩
     ·refine To (g := tF) (n := 17) [] [0, 1, 2, 3, 4, 5, 6, 7, 8, 9, 10, 11, 12, 13, 14, 15, 16] rfl mixed (by kernel_rfl) trivial (Z0 (Iz (o0)) rfl rfl (Zk v8) (Z0 (Iz (x1)) rfl rfl (Zk nB) (Z0 (.bool ((decide (o0 > x1)))) rfl rfl (Gk rfl rfl rfl) (Z0 (.bool ((decide (o0 > x1)))) rfl rfl (Zk rfl) ?_))))
      iterate 12 refine L_s rfl rfl rfl l5 rfl ?_
      refine Z0 (.bool false) rfl rfl (Zl (b:=(decide (o0 > x1))) rfl (G5 l5 rfl)) (Ka fun qI lK hs=>?_);have hfr:=hfr.ext hs;have i6:=i6.ext hs;clear hs;refine Zb ?_;obtain rfl:=sinj h;exact hQ _ _ ⟨qI,hfr,mB,i6,nB,bD,vB,cD,v8,rfl⟩
    ·clear hx
     obtain ⟨xF,hfr,lD,nD,oD,yD,zD,aE,yF,zB⟩:=hR;rcases Zt h with ⟨vC,h⟩ | ⟨vC,h⟩
     ·refine Ta (Eq.trans (show ev _ _ = .bool (n8) from zB) (congrArg Value.bool vC)) ?_
      exact Zu (Zd (nH () _ _ ⟨xF,hfr,lD,nD,oD,yD,zD,aE,yF⟩ h))
     ·refine Gs (Eq.trans (show ev _ _ = .bool (n8) from zB) (congrArg Value.bool vC)) (Tn (Gu (Gu (G8 (Tj ?_)))))
      obtain rfl:=sinj h;exact hQ _ _ ⟨xF,hfr,lD,nD,oD,yD,zD,aE⟩
   ·rintro _ vJ sI ⟨aG, hfr, l9, l8, bG, cG, eG, gG, n9⟩ h
    obtain ⟨aB,hx,h⟩:=Z1 h;refine Gl (fun e w=>∃ (g:Gh) ,FrM iI gI wI g w∧e 0=up0∧OM 1 g w 60 (aB:List Z2) up0∧e 1=Iz (x1)∧e 2=Iz (x2)∧e 3=(.func (.func ff3) fa3 fc3)∧e 8=Iz (g8)∧e 9=Iz (o0)) (fun Q' hQ=>?_) (fun xJ mK hR=>?_)
    ·replace h := hx
     clear hx;refine Zr ?_;obtain ⟨uC,oE,h⟩:=Z1 h;refine Ju (x:=.tmp 45) isAgg60 sizeOf60 l8 oE fun jJ iE sH=>?_;obtain ⟨bE,rE,h⟩:=Z1 h;refine Ju (x:=.tmp 49) isAgg60 sizeOf60 l8 rE fun kJ yB tH=>?_;obtain ⟨uH,uE,h⟩:=Z1 h;refine Xy (g:=aG) (n:=15) [2,3,4] [] [0,1,2,3,4,5,6,7,8,9,10,11,12,13,14] rfl mixed (by kernel_rfl) trivial rfl (Z0 up0 rfl rfl (Zk l9) (Z0 (Iz (o0)) rfl rfl (Zk n9) (Jo (c:=up0) rfl rfl .plain (Zk l9) (Jo (c:=Iz (o0)) rfl rfl .plain (Zk n9) (Jo (c:=Iz ((w64 (o0 - (1:Int))))) rfl rfl .plain (Gk rfl rfl rfl) (Z0 up0 rfl rfl (Zk l9) (Z0 (Iz (o0)) rfl rfl (Zk n9) (Z0 (Iz ((w64 (o0 - (1:Int))))) rfl rfl (Gk rfl rfl rfl) (Z0 (Tb up0 (w64 (o0 - (1:Int))) 5) rfl rfl (T2 (α:=Z2) underlying33 sizeOf60 rfl l8 rfl oE) (Tm (c:=jJ) rfl rfl .plain (fun _ _ h=>⟨h.ch,fun b hb _=>h.below.block b hb⟩) sH rfl (Z0 up0 rfl rfl (Zk l9) (Z0 (Iz (o0)) rfl rfl (Zk n9) (Z0 (Tb up0 o0 5) rfl rfl (T2 (α:=Z2) underlying33 sizeOf60 rfl l8 rfl rE) (Tm (c:=kJ) rfl rfl .plain (fun _ _ h=>⟨h.ch,fun b hb _=>h.below.block b hb⟩) tH rfl (Z0 (Tb up0 o0 5) rfl rfl (T2 (α:=Z2) underlying33 sizeOf60 rfl l8 rfl uE) (Ka fun iG lJ hs=>?_))))))))))))))));have hlt:Lt aG.m sI iG lJ:=hs.ch;have hfr:=hfr.ext hs;have l8:=l8.ext hs;have iE:=iE.ext hs;have yB:=yB.ext hs;clear hs;refine R6 hlt.w .plain rfl (Ys (g:=iG) (α:=Z2) (a':=uC) sizeOf60 rfl l8 uE rfl iE fun mJ nK hs b582=>?_);have hfr:=hfr.stp hs;have hlt:=hlt.stp hs;have yB:=yB.stp hs;obtain ⟨xH,vE,h⟩:=Z1 h;refine Su hlt.w (v:=Tb up0 (w64 (o0 - (1:Int))) 5) (T2 (α:=Z2) underlying33 sizeOf60 rfl b582 rfl vE) .plain rfl (R6 hlt.w .plain rfl (Ys (g:=mJ) (α:=Z2) (a':=bE) sizeOf60 rfl b582 vE rfl yB fun nJ oK hs b584=>?_));have hfr:=hfr.stp hs;have hlt:=hlt.stp hs;refine Fx hlt.w ?_;clear hlt;refine Tj ?_;obtain rfl:=sinj h;exact hQ _ _ ⟨nJ,hfr,l9,b584,bG,cG,eG,gG,n9⟩
    ·clear hx
     obtain ⟨oJ,hfr,jG,kG,lG,mG,sG,xG,yG⟩:=hR;refine Za (Zo yG rfl (Z9 (Iz ((w64 (o0 - (1:Int))))) rfl rfl rfl rfl (Zg (Iz ((w64 (o0 - (1:Int))))) rfl rfl ?_)));exact Z3 (mH (aB,(w64 (o0 - (1:Int)))) _ _ ⟨oJ,hfr,jG,kG,lG,mG,sG,xG,rfl⟩ h)
  ·clear hx
   obtain ⟨pJ,hfr,zG,aH,cH,gH,jH,kH⟩:=hR;refine Za (Zo kH rfl (Z9 (Iz ((w64 (g8 + (1:Int))))) rfl rfl rfl rfl (Zg (Iz ((w64 (g8 + (1:Int))))) rfl rfl ?_)));exact Z3 (hk1 (lB,(w64 (g8 + (1:Int)))) _ _ ⟨pJ,hfr,zG,aH,cH,gH,jH,rfl⟩ h)
def f126 (x0:Int) (z0:Int) (z1:Int):Option (Bool):=
 Option.bind (α:=Bool) (
  bif (decide (x0 < z0)) then
   some (true)
  else
   some ((decide (x0 > z1)))
  ) fun o0=>
 some (o0)
theorem en126:Enters prog 126:=enters_of func126 (by kernel_rfl) rfl
theorem wk126 {gI:Gh} {wI:World} {x0:Int} {z0:Int} {z1:Int} {pf0:Value} (qf0:PT gI.m wI z0 pf0) {pf1:Value} (qf1:PT gI.m wI z1 pf1) {r:Bool} (h:f126 x0 z0 z1=some r):Fn prog 126 #[Iz (x0),pf0,pf1] gI wI (fun _ _ v=>v=.bool (r)):=by
 unfold f126 at h;refine fnE func126 rfl rfl fun g0 hm hfr=>?_;have qf0:PT g0.m wI z0 pf0:=hm ▸ qf0;have qf1:PT g0.m wI z1 pf1:=hm ▸ qf1;show E _ 13 none _ _ _ _ _;refine Z5 (Zg (.bool false) rfl rfl (Z3 ?_));obtain ⟨o0,hx,h⟩:=Z1 h;refine Gl (fun e w=>∃ (g:Gh) ,Fr gI wI g w∧e 4=.bool (o0)) (fun Q' hQ=>?_) (fun t5 w7 hR=>?_)
 ·replace h := hx
  clear hx;refine Za (Zn (Iz (x0)) rfl rfl (Z4 rfl (Z6 (g:=g0) isAgg3 sizeOf3 rfl qf0 fun v4 r4=>?_)));obtain rfl:=Zj.1 r4;refine Z9 (.bool ((decide (x0 < z0)))) rfl rfl rfl rfl (Zn (.bool ((decide (x0 < z0)))) rfl rfl ?_);rcases Zt h with ⟨hc5,h⟩ | ⟨hc5,h⟩
  ·refine Zz rfl rfl hc5 rfl rfl (Zz rfl rfl hc5 rfl rfl (Zz rfl rfl hc5 rfl rfl (Zx (.bool true) (Zl (b := (decide (x0 < z0))) rfl (G4 hc5 rfl)) rfl (Zg (.bool true) rfl rfl (Zb ?_)))))
   obtain rfl:=sinj h;exact hQ _ _ ⟨g0,hfr,rfl⟩
  ·refine Zy (Iz (x0)) (Zk rfl) rfl rfl hc5 rfl (Ze (.yes2 rfl rfl hc5) rfl (Z6 (g := g0) isAgg3 sizeOf3 rfl qf1 fun v6 r6 => ?_))
   obtain rfl:=Zj.1 r6;refine Zy (.bool ((decide (x0 > z1)))) (Gk rfl rfl rfl) rfl rfl hc5 rfl (Zx (.bool ((decide (x0 > z1)))) (Zl (b:=(decide (x0 < z0))) rfl (G5 hc5 rfl)) rfl (Zg (.bool ((decide (x0 > z1)))) rfl rfl (Zb ?_)));obtain rfl:=sinj h;exact hQ _ _ ⟨g0,hfr,rfl⟩
 ·clear hx
  obtain ⟨g7,hfr,l5⟩:=hR;refine Ga ?_;obtain rfl:=sinj h;exact Tg rfl rfl (show _=.bool (o0) from l5) ⟨_,hfr,rfl⟩
def f129 (x0:I32):Option (Bool):=
 Option.bind (α:=Bool) (
  bif (decide ((x0).n < (97 : Int))) then
   some (true)
  else
   some ((decide ((x0).n > (122:Int))))
  ) fun o0=>
 some (o0)
theorem en129:Enters prog 129:=enters_of func129 (by kernel_rfl) rfl
theorem wk129 {gI:Gh} {wI:World} {x0:I32}  {r:Bool} (h:f129 x0=some r):Fn prog 129 #[.int .i32 ((x0).n)] gI wI (fun _ _ v=>v=.bool (r)):=by
 unfold f129 at h;refine fnE func129 rfl rfl fun g0 hm hfr=>?_;show E _ 9 none _ _ _ _ _;refine Z5 (Zg (.bool false) rfl rfl (Z3 ?_));obtain ⟨o0,hx,h⟩:=Z1 h;refine Gl (fun e w=>∃ (g:Gh) ,Fr gI wI g w∧e 2=.bool (o0)) (fun Q' hQ=>?_) (fun t5 w3 hR=>?_)
 ·replace h := hx
  clear hx;refine Za (Zn (.int .i32 ((x0).n)) rfl rfl (Zx (.bool (decide ((x0).n < (97:Int)))) (Lq rfl rfl rfl) rfl (Zn (.bool (decide ((x0).n < (97:Int)))) rfl rfl ?_)));rcases Zt h with ⟨hc2,h⟩ | ⟨hc2,h⟩
  ·refine Zz rfl rfl hc2 rfl rfl (Zz rfl rfl hc2 rfl rfl (Zx (.bool true) (Zl (b := (decide ((x0).n < (97 : Int)))) rfl (G4 hc2 rfl)) rfl (Zg (.bool true) rfl rfl (Zb ?_))))
   obtain rfl:=sinj h;exact hQ _ _ ⟨g0,hfr,rfl⟩
  ·refine Zy (.int .i32 ((x0).n)) (Zk rfl) rfl rfl hc2 rfl (Zy (.bool (decide ((x0).n > (122 : Int)))) (Lq rfl rfl rfl) rfl rfl hc2 rfl (Zx (.bool (decide ((x0).n > (122 : Int)))) (Zl (b := (decide ((x0).n < (97 : Int)))) rfl (G5 hc2 rfl)) rfl (Zg (.bool (decide ((x0).n > (122 : Int)))) rfl rfl (Zb ?_))))
   obtain rfl:=sinj h;exact hQ _ _ ⟨g0,hfr,rfl⟩
 ·clear hx
  obtain ⟨g3,hfr,l5⟩:=hR;refine Ga ?_;obtain rfl:=sinj h;exact Tg rfl rfl (show _=.bool (o0) from l5) ⟨_,hfr,rfl⟩
def f131 (x0:List Str) (x1:Str→Option Bool):Option (Int):=
 jn (σ:=Unit) (fun _=>
  some ((-1:Int))
  ) fun k18=>
 lp (σ:=Int) (fun k19 o0=>
  bif (decide (o0 < ((x0).length : Int))) then
   jn (σ:=Unit) (fun _=>
    k19 ((w64 (o0 + (1:Int))))
    ) fun k28=>
   (idx x0 o0).bind fun l9=>
   (x1 l9).bind fun yB=>
   bif yB then
    some (o0)
   else
    k28 ()
  else
   k18 ()
  ) big ((0:Int))
theorem en131:Enters prog 131:=enters_of func131 (by kernel_rfl) rfl
theorem wk131 {gI:Gh} {wI:World} {x0:List Str} {x1:Str→Option Bool} {up0:Value} (rp0:RV gI.m wI x0 up0) {up1:Value} (rp1:Hz prog x1 up1 gI wI) {r:Int} (h:f131 x0 x1=some r):Fn prog 131 #[up0,up1] gI wI (fun _ _ v=>v=Iz (r)):=by
 unfold f131 at h;refine fnE func131 rfl rfl fun g0 hm hfr=>?_;have rp0:=RVc hm rp0;obtain ⟨ff1,fa1,fc1,rfl,fen1,fcl1⟩:=rp1;show E _ 19 none _ _ _ _ _;refine Z5 (Zg (Iz (0)) rfl rfl (Z3 (Zq h (fun (s:Unit) e w=>∃ (g:Gh) ,Fr gI wI g w) (fun X18 k18 zB h=>?_) ?_)))
 ·refine Z5 (Zn up0 rfl rfl (Zx (Iz ((x0).length : Int)) (Gz underlying66 rfl rp0) rfl (Zn (Iz (0)) rfl rfl (Z3 (Zr (Q0 h (fun (s : Int) e w => ∃ (g : Gh) , Fr gI wI g w ∧ e 0 = up0 ∧ RV g.m w (x0 : List Str) up0 ∧ e 1 = (.func (.func ff1) fa1 fc1) ∧ e 7 = Iz (((x0).length : Int)) ∧ e 8 = Iz (s)) ⟨g0, hfr, rfl, rp0, rfl, rfl, rfl⟩ (fun X19 k19 cC => ?_)))))))
  rintro o0 oD aE ⟨n9,hfr,l8,l5,n8,v8,t5⟩ h;refine Z5 (Z9 (.bool ((decide (o0 < ((x0).length:Int))))) t5 v8 rfl rfl (Z3 (Zf ?_)));rcases Zt h with ⟨i6,h⟩ | ⟨i6,h⟩
  ·refine G6 i6 rfl (Zu (Zd (Zq h (fun (s : Unit) e w => ∃ (g : Gh) , Fr gI wI g w ∧ e 0 = up0 ∧ RV g.m w (x0 : List Str) up0 ∧ e 1 = (.func (.func ff1) fa1 fc1) ∧ e 7 = Iz (((x0).length : Int)) ∧ e 8 = Iz (o0)) (fun X28 k28 uC h => ?_) ?_)))
   ·refine Zr (Z5 (Zo t5 rfl (Zg (Iz (o0)) rfl rfl (Z3 (Z5 (Zo n8 rfl (Zo l8 rfl (Zn (Iz (o0)) rfl rfl ?_))))))))
    obtain ⟨l9,aB,h⟩:=Z1 h;refine Zx (Tb up0 o0 1) (Zh (α:=Str) underlying66 sizeOf9 rfl l5 rfl aB) rfl ?_;have bD:=Gx l5 aB;refine Z4 rfl (Z6 (g:=n9) isAgg9 sizeOf9 rfl bD fun bE cD=>?_);obtain rfl:=Kv.1 cD;obtain ⟨yB,vC,h⟩:=Z1 h;refine Z4 rfl (K6 (g:=n9) (vs:=[Str.v (l9)]) rfl fen1 (.cons rfl .nil) (fcl1 _ _ hfr.ch _ _ _  (Kv.2 rfl) vC) fun lD iE lE hs hr=>?_);have hfr:=hfr.ext hs;have l5:=l5.ext hs;obtain rfl:=Q1.1 hr;refine Z3 ?_;rcases Zt h with ⟨g8,h⟩ | ⟨g8,h⟩
    ·refine G6 g8 rfl (Z5 (Zn (Iz (o0)) rfl rfl (Zg (Iz (o0)) rfl rfl (Z3 (Ga (Tl (Gp (Gp (Tl (Gp ?_))))))))))
     obtain rfl:=sinj h;exact Tg rfl rfl (rq (Iz (o0))) ⟨_,hfr,rfl⟩
    ·refine G7 g8 rfl ?_
     exact Zu (Tj (Zd (uC () _ _ ⟨lD,hfr,l8,l5,n8,v8,t5⟩ h)))
   ·rintro _ yD mE ⟨nD, hfr, lB, mB, nB, oB, vB⟩ h
    refine Za (Z9 (Iz ((w64 (o0 + (1:Int))))) vB rfl rfl rfl (Zn (Iz ((w64 (o0 + (1:Int))))) rfl rfl ?_));exact Z3 (cC ((w64 (o0 + (1:Int)))) _ _ ⟨nD,hfr,lB,mB,nB,oB,rfl⟩ h)
  ·refine G7 i6 rfl (Tn (Gu (Gu (G8 ?_))))
   exact Zd (zB () _ _ ⟨n9,hfr⟩ h)
 ·rintro _ zD oE ⟨rE, hfr⟩ h
  refine Z5 (Zg (Iz (-1)) rfl rfl (Z3 (Ga ?_)));obtain rfl:=sinj h;exact Tg rfl rfl (rq (Iz (-1))) ⟨_,hfr,rfl⟩
def f133 (x0:Int) (z0:Int) (z1:Int):Option (Bool):=
 Option.bind (α:=Bool) (
  bif (decide (x0 < z0)) then
   some (true)
  else
   some ((decide (x0 > z1)))
  ) fun o0=>
 some (o0)
theorem en133:Enters prog 133:=enters_of func133 (by kernel_rfl) rfl
theorem wk133 {gI:Gh} {wI:World} {x0:Int} {z0:Int} {z1:Int} {pf0:Value} (qf0:PT gI.m wI z0 pf0) {pf1:Value} (qf1:PT gI.m wI z1 pf1) {r:Bool} (h:f133 x0 z0 z1=some r):Fn prog 133 #[Iz (x0),pf0,pf1] gI wI (fun _ _ v=>v=.bool (r)):=by
 unfold f133 at h;refine fnE func133 rfl rfl fun g0 hm hfr=>?_;have qf0:PT g0.m wI z0 pf0:=hm ▸ qf0;have qf1:PT g0.m wI z1 pf1:=hm ▸ qf1;show E _ 13 none _ _ _ _ _;refine Z5 (Zg (.bool false) rfl rfl (Z3 ?_));obtain ⟨o0,hx,h⟩:=Z1 h;refine Gl (fun e w=>∃ (g:Gh) ,Fr gI wI g w∧e 4=.bool (o0)) (fun Q' hQ=>?_) (fun t5 w7 hR=>?_)
 ·replace h := hx
  clear hx;refine Za (Zn (Iz (x0)) rfl rfl (Z4 rfl (Z6 (g:=g0) isAgg3 sizeOf3 rfl qf0 fun v4 r4=>?_)));obtain rfl:=Zj.1 r4;refine Z9 (.bool ((decide (x0 < z0)))) rfl rfl rfl rfl (Zn (.bool ((decide (x0 < z0)))) rfl rfl ?_);rcases Zt h with ⟨hc5,h⟩ | ⟨hc5,h⟩
  ·refine Zz rfl rfl hc5 rfl rfl (Zz rfl rfl hc5 rfl rfl (Zz rfl rfl hc5 rfl rfl (Zx (.bool true) (Zl (b := (decide (x0 < z0))) rfl (G4 hc5 rfl)) rfl (Zg (.bool true) rfl rfl (Zb ?_)))))
   obtain rfl:=sinj h;exact hQ _ _ ⟨g0,hfr,rfl⟩
  ·refine Zy (Iz (x0)) (Zk rfl) rfl rfl hc5 rfl (Ze (.yes2 rfl rfl hc5) rfl (Z6 (g := g0) isAgg3 sizeOf3 rfl qf1 fun v6 r6 => ?_))
   obtain rfl:=Zj.1 r6;refine Zy (.bool ((decide (x0 > z1)))) (Gk rfl rfl rfl) rfl rfl hc5 rfl (Zx (.bool ((decide (x0 > z1)))) (Zl (b:=(decide (x0 < z0))) rfl (G5 hc5 rfl)) rfl (Zg (.bool ((decide (x0 > z1)))) rfl rfl (Zb ?_)));obtain rfl:=sinj h;exact hQ _ _ ⟨g0,hfr,rfl⟩
 ·clear hx
  obtain ⟨g7,hfr,l5⟩:=hR;refine Ga ?_;obtain rfl:=sinj h;exact Tg rfl rfl (show _=.bool (o0) from l5) ⟨_,hfr,rfl⟩
def f136 (x0:U64) (x1:U64):Option (U64 × U64):=
 (Ws ((x0).n) ((32:Int))).bind fun y1=>
 (Ws ((x1).n) ((32:Int))).bind fun y2=>
 (Ws (T3 ((Tr .and ((x0).n) ((4294967295:Int))) * (Tr .and ((x1).n) ((4294967295:Int))))) ((32:Int))).bind fun y3=>
 (Ws (T3 ((T3 (y1 * (Tr .and ((x1).n) ((4294967295:Int))))) + y3)) ((32:Int))).bind fun y4=>
 (Ws (T3 ((Tr .and (T3 ((T3 (y1 * (Tr .and ((x1).n) ((4294967295:Int))))) + y3)) ((4294967295:Int))) + (T3 ((Tr .and ((x0).n) ((4294967295:Int))) * y2)))) ((32:Int))).bind fun y5=>
 some ((⟨T3 ((T3 ((T3 (y1 * y2)) + y4)) + y5)⟩:U64),(⟨T3 (((x0).n) * ((x1).n))⟩:U64))
theorem en136:Enters prog 136:=enters_of func136 (by kernel_rfl) rfl
theorem wk136 {gI:Gh} {wI:World} {x0:U64} {x1:U64}  {r:U64 × U64} (h:f136 x0 x1=some r):Fn prog 136 #[.int .u64 ((x0).n),.int .u64 ((x1).n)] gI wI (fun m w v=>∃ y0 y1,v=.tuple #[y0,y1]∧y0=.int .u64 ((r.1).n)∧y1=.int .u64 ((r.2).n)):=by
 unfold f136 at h;refine fnE func136 rfl rfl fun g0 hm hfr=>?_;show E _ 51 none _ _ _ _ _;refine Z5 (Zg (.int .u64 (0)) rfl rfl (Zg (.int .u64 (0)) rfl rfl (Z3 (Z5 (Zn (.int .u64 ((x0).n)) rfl rfl (Zx (.int .u64 (Tr .and ((x0).n) ((4294967295:Int)))) (Km (by simp) rfl rfl) rfl (Zg (.int .u64 (Tr .and ((x0).n) ((4294967295:Int)))) rfl rfl (Z3 (Z5 (Zn (.int .u64 ((x0).n)) rfl rfl ?_))))))))));obtain ⟨y1,hy1,h⟩:=Z1 h;refine Zx (.int .u64 (y1)) (H4 rfl rfl hy1) rfl (Zg (.int .u64 (y1)) rfl rfl (Z3 (Z5 (Zn (.int .u64 ((x1).n)) rfl rfl (Zx (.int .u64 (Tr .and ((x1).n) ((4294967295:Int)))) (Km (by simp) rfl rfl) rfl (Zg (.int .u64 (Tr .and ((x1).n) ((4294967295:Int)))) rfl rfl (Z3 (Z5 (Zn (.int .u64 ((x1).n)) rfl rfl ?_)))))))));obtain ⟨y2,hy2,h⟩:=Z1 h;refine Zx (.int .u64 (y2)) (H4 rfl rfl hy2) rfl (Zg (.int .u64 (y2)) rfl rfl (Z3 (Z5 (Zn (.int .u64 (Tr .and ((x0).n) ((4294967295:Int)))) rfl rfl (Zn (.int .u64 (Tr .and ((x1).n) ((4294967295:Int)))) rfl rfl (Zx (.int .u64 (T3 ((Tr .and ((x0).n) ((4294967295:Int))) * (Tr .and ((x1).n) ((4294967295:Int)))))) (Rd rfl rfl) rfl (Zg (.int .u64 (T3 ((Tr .and ((x0).n) ((4294967295:Int))) * (Tr .and ((x1).n) ((4294967295:Int)))))) rfl rfl (Z3 (Z5 (Zn (.int .u64 (y1)) rfl rfl (Zn (.int .u64 (Tr .and ((x1).n) ((4294967295:Int)))) rfl rfl (Zx (.int .u64 (T3 (y1 * (Tr .and ((x1).n) ((4294967295:Int)))))) (Rd rfl rfl) rfl (Zn (.int .u64 (T3 ((Tr .and ((x0).n) ((4294967295:Int))) * (Tr .and ((x1).n) ((4294967295:Int)))))) rfl rfl ?_)))))))))))));obtain ⟨y3,hy3,h⟩:=Z1 h;refine Zx (.int .u64 (y3)) (H4 rfl rfl hy3) rfl (Zx (.int .u64 (T3 ((T3 (y1 * (Tr .and ((x1).n) ((4294967295:Int))))) + y3))) (Fm rfl rfl) rfl (Zx (.int .u64 (T3 ((T3 (y1 * (Tr .and ((x1).n) ((4294967295:Int))))) + y3))) (Te rfl) rfl (Z3 (Z5 (Zx (.int .u64 (T3 ((T3 (y1 * (Tr .and ((x1).n) ((4294967295:Int))))) + y3))) (Zk rfl) rfl (Zx (.int .u64 (Tr .and (T3 ((T3 (y1 * (Tr .and ((x1).n) ((4294967295:Int))))) + y3)) ((4294967295:Int)))) (Km (by simp) rfl rfl) rfl (Zx (.int .u64 (Tr .and (T3 ((T3 (y1 * (Tr .and ((x1).n) ((4294967295:Int))))) + y3)) ((4294967295:Int)))) (Te rfl) rfl (Z3 (Z5 (Zx (.int .u64 (T3 ((T3 (y1 * (Tr .and ((x1).n) ((4294967295:Int))))) + y3))) (Zk rfl) rfl ?_))))))))));obtain ⟨y4,o0,h⟩:=Z1 h;refine Zx (.int .u64 (y4)) (H4 rfl rfl o0) rfl (Zg (.int .u64 (y4)) rfl rfl (Z3 (Z5 (Zx (.int .u64 (Tr .and (T3 ((T3 (y1 * (Tr .and ((x1).n) ((4294967295:Int))))) + y3)) ((4294967295:Int)))) (Zk rfl) rfl (Zn (.int .u64 (Tr .and ((x0).n) ((4294967295:Int)))) rfl rfl (Zn (.int .u64 (y2)) rfl rfl (Zx (.int .u64 (T3 ((Tr .and ((x0).n) ((4294967295:Int))) * y2))) (Rd rfl rfl) rfl (Zx (.int .u64 (T3 ((Tr .and (T3 ((T3 (y1 * (Tr .and ((x1).n) ((4294967295:Int))))) + y3)) ((4294967295:Int))) + (T3 ((Tr .and ((x0).n) ((4294967295:Int))) * y2))))) (Fm rfl rfl) rfl (Zx (.int .u64 (T3 ((Tr .and (T3 ((T3 (y1 * (Tr .and ((x1).n) ((4294967295:Int))))) + y3)) ((4294967295:Int))) + (T3 ((Tr .and ((x0).n) ((4294967295:Int))) * y2))))) (Te rfl) rfl (Z3 (Z5 (Zn (.int .u64 (y1)) rfl rfl (Zn (.int .u64 (y2)) rfl rfl (Zx (.int .u64 (T3 (y1 * y2))) (Rd rfl rfl) rfl (Zn (.int .u64 (y4)) rfl rfl (Zx (.int .u64 (T3 ((T3 (y1 * y2)) + y4))) (Fm rfl rfl) rfl (Zx (.int .u64 (T3 ((Tr .and (T3 ((T3 (y1 * (Tr .and ((x1).n) ((4294967295:Int))))) + y3)) ((4294967295:Int))) + (T3 ((Tr .and ((x0).n) ((4294967295:Int))) * y2))))) (Zk rfl) rfl ?_)))))))))))))))));obtain ⟨y5,hy5,h⟩:=Z1 h;refine Zx (.int .u64 (y5)) (H4 rfl rfl hy5) rfl (Zx (.int .u64 (T3 ((T3 ((T3 (y1 * y2)) + y4)) + y5))) (Fm rfl rfl) rfl (Zx (.int .u64 (T3 ((T3 ((T3 (y1 * y2)) + y4)) + y5))) (Te rfl) rfl (Z3 (Z5 (Zn (.int .u64 ((x0).n)) rfl rfl (Zn (.int .u64 ((x1).n)) rfl rfl (Zx (.int .u64 (T3 (((x0).n) * ((x1).n)))) (Rd rfl rfl) rfl (Zg (.int .u64 (T3 (((x0).n) * ((x1).n)))) rfl rfl (Z3 (Ga ?_))))))))));obtain rfl:=sinj h;exact Jq rfl rfl (rq (.int .u64 (T3 ((T3 ((T3 (y1 * y2)) + y4)) + y5)))) (rq (.int .u64 (T3 (((x0).n) * ((x1).n))))) ⟨_,hfr,_,_,rfl,rfl,rfl⟩
def f138 (x0:Bool):Option (UInt8):=
 jn (σ:=Unit) (fun _=>
  some ((46:UInt8))
  ) fun k2=>
 bif x0 then
  some ((120:UInt8))
 else
  k2 ()
theorem en138:Enters prog 138:=enters_of func138 (by kernel_rfl) rfl
theorem wk138 {gI:Gh} {wI:World} {x0:Bool}  {r:UInt8} (h:f138 x0=some r):Fn prog 138 #[.bool (x0)] gI wI (fun _ _ v=>v=.int .u8 (UInt8.toNat (r))):=by
 unfold f138 at h;refine fnE func138 rfl rfl fun g0 hm hfr=>?_;show E _ 4 none _ _ _ _ _;refine Z5 (Zg (.int .u8 (UInt8.toNat 0)) rfl rfl (Z3 (Zq h (fun (s:Unit) e w=>∃ (g:Gh) ,Fr gI wI g w) (fun X2 k2 hk2 h=>?_) ?_)))
 ·refine Z5 (Zn (.bool (x0)) rfl rfl (Z3 ?_))
  rcases Zt h with ⟨hc3,h⟩ | ⟨hc3,h⟩
  ·refine G6 hc3 rfl (Z5 (Zg (.int .u8 (UInt8.toNat 120)) rfl rfl (Z3 (Ga (Gp ?_)))))
   obtain rfl:=sinj h;exact Tg rfl rfl (rq (.int .u8 (UInt8.toNat 120))) ⟨_,hfr,rfl⟩
  ·refine G7 hc3 rfl ?_
   exact Zu (Zd (hk2 () _ _ ⟨g0,hfr⟩ h))
 ·rintro _ o0 w4 ⟨g4, hfr⟩ h
  refine Z5 (Zg (.int .u8 (UInt8.toNat 46)) rfl rfl (Z3 (Ga ?_)));obtain rfl:=sinj h;exact Tg rfl rfl (rq (.int .u8 (UInt8.toNat 46))) ⟨_,hfr,rfl⟩
def f139 (x0:Qp) (x1:Int) (x2:Int):Option (Bool):=
 (idx (((x0).TieHarness).Warps) x2).bind fun y5=>
 (Ws x1 y5).bind fun y8=>
 some (((Wa .and y8 (1:Int)) == (1:Int)))
theorem en139:Enters prog 139:=enters_of func139 (by kernel_rfl) rfl
theorem wk139 {gI:Gh} {wI:World} {x0:Qp} {x1:Int} {x2:Int} {up0:Value} (rp0:RV gI.m wI x0 up0) {r:Bool} (h:f139 x0 x1 x2=some r):Fn prog 139 #[up0,Iz (x1),Iz (x2)] gI wI (fun _ _ v=>v=.bool (r)):=by
 unfold f139 at h;refine fnE func139 rfl rfl fun g0 hm hfr=>?_;have rp0:=RVc hm rp0;show E _ 17 none _ _ _ _ _;refine Z5 (Z4 rfl (Tv (g:=g0) rfl rp0 fun g1 w1 p1 hs q1=>?_));have hfr:=hfr.ext hs;refine Zg (.bool false) rfl rfl (Z3 (Z5 (Zn (Iz (x1)) rfl rfl (Zx (Z8 p1 0) (Zc Ly rfl (PT.ptr q1)) rfl ?_))));have q2:=Zm (Je).1 q1;refine Zx (Z8 (Z8 p1 0) 1) (Zc Hr rfl (PT.ptr q2)) rfl ?_;have q3:=Zm (Qc).1 q2;refine Z4 rfl (Z6 (g:=g1) isAgg25 sizeOf25 rfl q3 fun v4 r4=>(Zn (Iz (x2)) rfl rfl ?_));obtain ⟨y5,hy5,h⟩:=Z1 h;refine Zx (Tb v4 x2 1) (Zh (α:=Int) underlying25 sizeOf3 rfl r4 rfl hy5) rfl ?_;have q6:=Gx r4 hy5;refine Z4 rfl (Z6 (g:=g1) isAgg3 sizeOf3 rfl q6 fun v7 r7=>?_);obtain rfl:=Zj.1 r7;obtain ⟨y8,o0,h⟩:=Z1 h;refine Zx (Iz (y8)) (Gk rfl rfl (congrArg (Option.map (Value.int .i64)) o0)) rfl (Z9 (Iz ((Wa .and y8 (1:Int)))) rfl rfl rfl rfl (Z9 (.bool (((Wa .and y8 (1:Int)) == (1:Int)))) rfl rfl rfl rfl (Zg (.bool (((Wa .and y8 (1:Int)) == (1:Int)))) rfl rfl (Z3 (Ga ?_)))));obtain rfl:=sinj h;exact Tg rfl rfl (rq (.bool (((Wa .and y8 (1:Int)) == (1:Int))))) ⟨_,hfr,rfl⟩
def f140 (x0:List Int) (x1:Int→Option Bool):Option (Int):=
 jn (σ:=Unit) (fun _=>
  some ((-1:Int))
  ) fun k18=>
 lp (σ:=Int) (fun k19 o0=>
  bif (decide (o0 < ((x0).length : Int))) then
   jn (σ:=Unit) (fun _=>
    k19 ((w64 (o0 + (1:Int))))
    ) fun k28=>
   (idx x0 o0).bind fun l9=>
   (x1 l9).bind fun yB=>
   bif yB then
    some (o0)
   else
    k28 ()
  else
   k18 ()
  ) big ((0:Int))
theorem en140:Enters prog 140:=enters_of func140 (by kernel_rfl) rfl
theorem wk140 {gI:Gh} {wI:World} {x0:List Int} {x1:Int→Option Bool} {up0:Value} (rp0:RV gI.m wI x0 up0) {up1:Value} (rp1:Hz prog x1 up1 gI wI) {r:Int} (h:f140 x0 x1=some r):Fn prog 140 #[up0,up1] gI wI (fun _ _ v=>v=Iz (r)):=by
 unfold f140 at h;refine fnE func140 rfl rfl fun g0 hm hfr=>?_;have rp0:=RVc hm rp0;obtain ⟨ff1,fa1,fc1,rfl,fen1,fcl1⟩:=rp1;show E _ 19 none _ _ _ _ _;refine Z5 (Zg (Iz (0)) rfl rfl (Z3 (Zq h (fun (s:Unit) e w=>∃ (g:Gh) ,Fr gI wI g w) (fun X18 k18 zB h=>?_) ?_)))
 ·refine Z5 (Zn up0 rfl rfl (Zx (Iz ((x0).length : Int)) (Gz underlying25 rfl rp0) rfl (Zn (Iz (0)) rfl rfl (Z3 (Zr (Q0 h (fun (s : Int) e w => ∃ (g : Gh) , Fr gI wI g w ∧ e 0 = up0 ∧ RV g.m w (x0 : List Int) up0 ∧ e 1 = (.func (.func ff1) fa1 fc1) ∧ e 7 = Iz (((x0).length : Int)) ∧ e 8 = Iz (s)) ⟨g0, hfr, rfl, rp0, rfl, rfl, rfl⟩ (fun X19 k19 cC => ?_)))))))
  rintro o0 oD aE ⟨n9,hfr,l8,l5,n8,v8,t5⟩ h;refine Z5 (Z9 (.bool ((decide (o0 < ((x0).length:Int))))) t5 v8 rfl rfl (Z3 (Zf ?_)));rcases Zt h with ⟨i6,h⟩ | ⟨i6,h⟩
  ·refine G6 i6 rfl (Zu (Zd (Zq h (fun (s : Unit) e w => ∃ (g : Gh) , Fr gI wI g w ∧ e 0 = up0 ∧ RV g.m w (x0 : List Int) up0 ∧ e 1 = (.func (.func ff1) fa1 fc1) ∧ e 7 = Iz (((x0).length : Int)) ∧ e 8 = Iz (o0)) (fun X28 k28 uC h => ?_) ?_)))
   ·refine Zr (Z5 (Zo t5 rfl (Zg (Iz (o0)) rfl rfl (Z3 (Z5 (Zo n8 rfl (Zo l8 rfl (Zn (Iz (o0)) rfl rfl ?_))))))))
    obtain ⟨l9,aB,h⟩:=Z1 h;refine Zx (Tb up0 o0 1) (Zh (α:=Int) underlying25 sizeOf3 rfl l5 rfl aB) rfl ?_;have bD:=Gx l5 aB;refine Z4 rfl (Z6 (g:=n9) isAgg3 sizeOf3 rfl bD fun bE cD=>?_);obtain rfl:=Zj.1 cD;obtain ⟨yB,vC,h⟩:=Z1 h;refine Z4 rfl (K6 (g:=n9) (vs:=[Iz (l9)]) rfl fen1 (.cons rfl .nil) (fcl1 _ _ hfr.ch _ _ _  (Zj.2 rfl) vC) fun lD iE lE hs hr=>?_);have hfr:=hfr.ext hs;have l5:=l5.ext hs;obtain rfl:=Q1.1 hr;refine Z3 ?_;rcases Zt h with ⟨g8,h⟩ | ⟨g8,h⟩
    ·refine G6 g8 rfl (Z5 (Zn (Iz (o0)) rfl rfl (Zg (Iz (o0)) rfl rfl (Z3 (Ga (Tl (Gp (Gp (Tl (Gp ?_))))))))))
     obtain rfl:=sinj h;exact Tg rfl rfl (rq (Iz (o0))) ⟨_,hfr,rfl⟩
    ·refine G7 g8 rfl ?_
     exact Zu (Tj (Zd (uC () _ _ ⟨lD,hfr,l8,l5,n8,v8,t5⟩ h)))
   ·rintro _ yD mE ⟨nD, hfr, lB, mB, nB, oB, vB⟩ h
    refine Za (Z9 (Iz ((w64 (o0 + (1:Int))))) vB rfl rfl rfl (Zn (Iz ((w64 (o0 + (1:Int))))) rfl rfl ?_));exact Z3 (cC ((w64 (o0 + (1:Int)))) _ _ ⟨nD,hfr,lB,mB,nB,oB,rfl⟩ h)
  ·refine G7 i6 rfl (Tn (Gu (Gu (G8 ?_))))
   exact Zd (zB () _ _ ⟨n9,hfr⟩ h)
 ·rintro _ zD oE ⟨rE, hfr⟩ h
  refine Z5 (Zg (Iz (-1)) rfl rfl (Z3 (Ga ?_)));obtain rfl:=sinj h;exact Tg rfl rfl (rq (Iz (-1))) ⟨_,hfr,rfl⟩
def f150 (x0:Int) (x1:Int):Option (Bool):=
 Option.bind (α:=Bool) (
  (f82 x0).bind fun y8=>
  bif y8 then
   (f82 x1).bind fun y11=>
   bif (!y11) then
    some (true)
   else
    some ((decide (x0 < x1)))
  else
   some ((decide (x0 < x1)))
  ) fun l5=>
 some (l5)
theorem en150:Enters prog 150:=enters_of func150 (by kernel_rfl) rfl
theorem wk150 {gI:Gh} {wI:World} {x0:Int} {x1:Int}  {r:Bool} (h:f150 x0 x1=some r):Fn prog 150 #[Iz (x0),Iz (x1)] gI wI (fun _ _ v=>v=.bool (r)):=by
 unfold f150 at h;refine fnE func150 rfl rfl fun g0 hm hfr=>?_;show E _ 17 none _ _ _ _ _;refine Z5 (Zg (.bool false) rfl rfl (Z3 ?_));obtain ⟨l5,hx,h⟩:=Z1 h;refine Gl (fun e w=>∃ (g:Gh) ,Fr gI wI g w∧e 4=.bool (l5)) (fun Q' hQ=>?_) (fun n8 l9 hR=>?_)
 ·replace h := hx
  clear hx;refine Za (Zn (Iz (x0)) rfl rfl ?_);obtain ⟨y8,l8,h⟩:=Z1 h;refine Z4 rfl (Zp (g:=g0) (vs:=[Iz (x0)]) en82 (.cons rfl .nil) (wk82  l8) fun g7 w7_ v7 hs hr=>?_);have hfr:=hfr.ext hs;subst hr;refine Zn (.bool (y8)) rfl rfl ?_;rcases Zt h with ⟨hc9,h⟩ | ⟨hc9,h⟩
  ·refine Zy (Iz (x1)) (Zk rfl) rfl rfl hc9 rfl ?_
   obtain ⟨y11,g8,h⟩:=Z1 h;refine Ze (.yes2 rfl rfl hc9) rfl (Zp (g:=g7) (vs:=[Iz (x1)]) en82 (.cons rfl .nil) (wk82  g8) fun i6 v8 n9 hs hr=>?_);have hfr:=hfr.ext hs;subst hr;refine Zy (.bool (!y11)) (Qm rfl) rfl rfl hc9 rfl (Zx (.bool (!y11)) (Zl (b:=y8) rfl (G4 hc9 rfl)) rfl (Zn (.bool (!y11)) rfl rfl ?_));rcases Zt h with ⟨o0,h⟩ | ⟨o0,h⟩
   ·refine Zz rfl rfl o0 rfl rfl (Zz rfl rfl o0 rfl rfl (Zz rfl rfl o0 rfl rfl (Zx (.bool true) (Zl (b := (!y11)) rfl (G4 o0 rfl)) rfl (Zg (.bool true) rfl rfl (Zb ?_)))))
    obtain rfl:=sinj h;exact hQ _ _ ⟨i6,hfr,rfl⟩
   ·refine Zy (Iz (x0)) (Zk rfl) rfl rfl o0 rfl (Zy (Iz (x1)) (Zk rfl) rfl rfl o0 rfl (Zy (.bool ((decide (x0 < x1)))) (Gk rfl rfl rfl) rfl rfl o0 rfl (Zx (.bool ((decide (x0 < x1)))) (Zl (b := (!y11)) rfl (G5 o0 rfl)) rfl (Zg (.bool ((decide (x0 < x1)))) rfl rfl (Zb ?_)))))
    obtain rfl:=sinj h;exact hQ _ _ ⟨i6,hfr,rfl⟩
  ·refine Zz rfl rfl hc9 rfl rfl (Zz rfl rfl hc9 rfl rfl (Zz rfl rfl hc9 rfl rfl (Zx (.bool false) (Zl (b := y8) rfl (G5 hc9 rfl)) rfl (Zn (.bool false) rfl rfl (Zy (Iz (x0)) (Zk rfl) rfl rfl rfl rfl (Zy (Iz (x1)) (Zk rfl) rfl rfl rfl rfl (Zy (.bool ((decide (x0 < x1)))) (Gk rfl rfl rfl) rfl rfl rfl rfl (Zx (.bool ((decide (x0 < x1)))) (Zl (b := false) rfl (G5 rfl rfl)) rfl (Zg (.bool ((decide (x0 < x1)))) rfl rfl (Zb ?_))))))))))
   obtain rfl:=sinj h;exact hQ _ _ ⟨g7,hfr,rfl⟩
 ·clear hx
  obtain ⟨aB,hfr,t5⟩:=hR;refine Ga ?_;obtain rfl:=sinj h;exact Tg rfl rfl (show _=.bool (l5) from t5) ⟨_,hfr,rfl⟩
def f153 (x0:List Int) (x1:Int) (x2:Int) (x3:Int→Int→Option Int):Option ((List Int)):=
 lp (σ:=(List Int) × Int) (fun k1 (cC,g8)=>
  jn (σ:=Unit) (fun _=>
   Option.bind (α:=(List Int)) (
    lp (σ:=(List Int) × Int) (fun xE (t5,o0)=>
     jn (σ:=Unit) (fun _=>
      Option.bind (α:=(List Int)) (
       (idx t5 (w64 (o0 - (1:Int)))).bind fun vB=>
       (idx t5 o0).bind fun uC=>
       (idx t5 o0).bind fun pH=>
       (idx ((List.set t5 (Int.toNat o0) vB)) (w64 (o0 - (1:Int)))).bind fun qH=>
       some ((List.set ((List.set t5 (Int.toNat o0) vB)) (Int.toNat (w64 (o0 - (1:Int)))) uC))
       ) fun aB=>
      xE (aB,(w64 (o0 - (1:Int))))
      ) fun yE=>
     Option.bind (α:=Bool) (
      bif (decide (o0 > x1)) then
       (idx t5 o0).bind fun vC=>
       (idx t5 (w64 (o0 - (1:Int)))).bind fun bD=>
       (x3 vC bD).bind fun oB=>
       some ((decide (oB < (0:Int))))
      else
       some (false)
      ) fun n8=>
     bif n8 then
      yE ()
     else
      some (t5)
     ) big (cC,g8)
    ) fun lB=>
   k1 (lB,(w64 (g8 + (1:Int))))
   ) fun k4=>
  bif (decide (g8 < x2)) then
   k4 ()
  else
   some (cC)
  ) big (x0,(w64 (x1 + (1:Int))))
theorem en153:Enters prog 153:=enters_of func153 (by kernel_rfl) rfl
theorem wk153 {iI:Nat} {gI:Gh} {wI:World} {x0:List Int} {x1:Int} {x2:Int} {x3:Int→Int→Option Int} {up0:Value} (mp0:OM iI gI wI 3 x0 up0) {up3:Value} (rp3:Xa prog x3 up3 gI wI) {r:(List Int)} (h:f153 x0 x1 x2 x3=some r):FnM prog 153 #[up0,Iz (x1),Iz (x2),up3] iI gI wI (fun g w v=>v=.tuple #[]∧OM iI g w 3 r up0):=by
 unfold f153 at h;refine J0 func153 rfl (Nat.le_of_ble_eq_true rfl) fun g0 hm hfr=>?_;have cH:=mp0;replace mp0:=mp0.enter;rw [← hm] at mp0
 replace hm:g0.m=gI.m:=by rw [hm]
 obtain ⟨ff3,fa3,fc3,rfl,fen3,fcl3⟩:=rp3;show E _ 53 none _ _ _ _ _;refine Z5 (Zn (Iz (x1)) rfl rfl (Z9 (Iz ((w64 (x1 + (1:Int))))) rfl rfl rfl rfl (Zg (Iz ((w64 (x1 + (1:Int))))) rfl rfl (Z3 (Zr (Q0 h (fun (s:(List Int) × Int) e w=>∃ (g:Gh) ,FrM iI gI wI g w∧e 0=up0∧OM 1 g w 3 (s.1:List Int) up0∧e 1=Iz (x1)∧e 2=Iz (x2)∧e 3=(.func (.func ff3) fa3 fc3)∧e 8=Iz (s.2)) ⟨g0,hfr,rfl,mp0,rfl,rfl,rfl,rfl⟩ (fun X1 k1 hk1=>?_)))))));rintro ⟨cC,g8⟩ pK w2 ⟨g2,hfr,sH,zE,tH,cF,uH,dF⟩ h;refine Zq h (fun (s:Unit) e w=>∃ (g:Gh) ,FrM iI gI wI g w∧e 0=up0∧OM 1 g w 3 (cC:List Int) up0∧e 1=Iz (x1)∧e 2=Iz (x2)∧e 3=(.func (.func ff3) fa3 fc3)∧e 8=Iz (g8)) (fun X4 k4 hk4 h=>?_) ?_
 ·refine Z5 (Zo dF rfl (Zo cF rfl (Z9 (.bool ((decide (g8 < x2)))) rfl rfl rfl rfl (Z3 ?_))))
  rcases Zt h with ⟨hc5,h⟩ | ⟨hc5,h⟩
  ·refine G6 hc5 rfl ?_
   exact Zu (Zd (hk4 () _ _ ⟨g2,hfr,sH,zE,tH,cF,uH,dF⟩ h))
  ·refine G7 hc5 rfl (Tn (Gu (Gu (G8 ?_))))
   obtain rfl:=sinj h;exact Y3 rfl rfl ⟨_,hfr,rfl,cH.back zE⟩
 ·rintro _ qK w6 ⟨g6, hfr, xH, yH, zH, aI, bI, eF⟩ h
  obtain ⟨lB,hx,h⟩:=Z1 h;refine Gl (fun e w=>∃ (g:Gh) ,FrM iI gI wI g w∧e 0=up0∧OM 1 g w 3 (lB:List Int) up0∧e 1=Iz (x1)∧e 2=Iz (x2)∧e 3=(.func (.func ff3) fa3 fc3)∧e 8=Iz (g8)) (fun Q' hQ=>?_) (fun mJ rJ hR=>?_)
  ·replace h := hx
   clear hx;refine Zr (Z5 (Zo eF rfl (Zg (Iz (g8)) rfl rfl (Z3 (Zr (Q0 h (fun (s:(List Int) × Int) e w=>∃ (g:Gh) ,FrM iI gI wI g w∧e 0=up0∧OM 1 g w 3 (s.1:List Int) up0∧e 1=Iz (x1)∧e 2=Iz (x2)∧e 3=(.func (.func ff3) fa3 fc3)∧e 8=Iz (g8)∧e 9=Iz (s.2)) ⟨g6,hfr,xH,yH,zH,aI,bI,eF,rfl⟩ (fun X297 xE gH=>?_)))))));rintro ⟨t5,o0⟩ nJ sJ ⟨rF,hfr,mB,i6,nB,lD,yB,nD,v8⟩ h;refine Zq h (fun (s:Unit) e w=>∃ (g:Gh) ,FrM iI gI wI g w∧e 0=up0∧OM 1 g w 3 (t5:List Int) up0∧e 1=Iz (x1)∧e 2=Iz (x2)∧e 3=(.func (.func ff3) fa3 fc3)∧e 8=Iz (g8)∧e 9=Iz (o0)) (fun X411 yE jH h=>?_) ?_
   ·obtain ⟨n8, hx, h⟩ := Z1 h
    refine Gl (fun e w=>∃ (g:Gh) ,FrM iI gI wI g w∧e 0=up0∧OM 1 g w 3 (t5:List Int) up0∧e 1=Iz (x1)∧e 2=Iz (x2)∧e 3=(.func (.func ff3) fa3 fc3)∧e 8=Iz (g8)∧e 9=Iz (o0)∧e 34=.bool (n8)) (fun Q' hQ=>?_) (fun oJ vJ hR=>?_)
    ·replace h := hx
     clear hx;rcases Zt h with ⟨l5,h⟩ | ⟨l5,h⟩
     ·obtain ⟨vC, lE, h⟩ := Z1 h
      refine Ju (x:=.tmp 25) isAgg3 sizeOf3 i6 lE fun xJ dI kH=>?_;obtain rfl:=Zj.1 dI;obtain ⟨bD,mE,h⟩:=Z1 h;refine Ju (x:=.tmp 30) isAgg3 sizeOf3 i6 mE fun zJ jI lH=>?_;obtain rfl:=Zj.1 jI;obtain ⟨oB,mH,h⟩:=Z1 h;refine To (g:=rF) (n:=17) [(14,(fun v g w=>v=Iz (oB)))] [0,1,2,3,4,5,6,7,8,9,10,11,12,13,14,15,16] rfl mixed (by kernel_rfl) (⟨fun _=>Wk _,trivial⟩) (Z0 (Iz (o0)) rfl rfl (Zk v8) (Z0 (Iz (x1)) rfl rfl (Zk nB) (Z0 (.bool ((decide (o0 > x1)))) rfl rfl (Gk rfl rfl rfl) (Z0 (.bool ((decide (o0 > x1)))) rfl rfl (Zk rfl) (L_y ((.func (.func ff3) fa3 fc3)) rfl rfl rfl rfl l5 (Zk yB) (L_y up0 rfl rfl rfl rfl l5 (Zk mB) (L_y (Iz (o0)) rfl rfl rfl rfl l5 (Zk v8) (L_y (Tb up0 o0 1) rfl rfl rfl rfl l5 (T2 (α:=Int) underlying25 sizeOf3 rfl i6 rfl lE) (Tm (c:=Iz (vC)) rfl rfl (.yes2 rfl rfl l5) (fun _ _ h=>⟨h.ch,fun b hb _=>h.below.block b hb⟩) kH rfl (L_y up0 rfl rfl rfl rfl l5 (Zk mB) (L_y (Iz (o0)) rfl rfl rfl rfl l5 (Zk v8) (L_y (Iz ((w64 (o0 - (1:Int))))) rfl rfl rfl rfl l5 (Gk rfl rfl rfl) (L_y (Tb up0 (w64 (o0 - (1:Int))) 1) rfl rfl rfl rfl l5 (T2 (α:=Int) underlying25 sizeOf3 rfl i6 rfl mE) (Tm (c:=Iz (bD)) rfl rfl (.yes2 rfl rfl l5) (fun _ _ h=>⟨h.ch,fun b hb _=>h.below.block b hb⟩) lH rfl (W7 (φ:=fun v g w=>v=Iz (oB)) rfl rfl (.yes2 rfl rfl l5) (fun g w hd=>K6 (g:=g) (vs:=[Iz (vC),Iz (bD)]) rfl fen3 (.cons rfl (.cons rfl .nil)) (fcl3 _ _ (hfr.ext hd.1).ch _ _ _ _ _  (Zj.2 rfl) (Zj.2 rfl) mH) fun g' w' v hs hr=>⟨g',hs,Zj.1 hr⟩) (fun aK hv=>?_))))))))))))))));obtain ⟨_,_,_,rfl⟩:=hv;refine L_y (.bool ((decide (oB < (0:Int))))) rfl rfl rfl rfl l5 (Gk rfl rfl rfl) (Z0 (.bool ((decide (oB < (0:Int))))) rfl rfl (Zl (b:=(decide (o0 > x1))) rfl (G4 l5 rfl)) (Ka fun kI bK hs=>?_));have hfr:=hfr.ext hs;have i6:=i6.ext hs;clear hs;refine Zb ?_;obtain rfl:=sinj h;exact hQ _ _ ⟨kI,hfr,mB,i6,nB,lD,yB,nD,v8,rfl⟩
     ·refine To (g := rF) (n := 17) [] [0, 1, 2, 3, 4, 5, 6, 7, 8, 9, 10, 11, 12, 13, 14, 15, 16] rfl mixed (by kernel_rfl) trivial (Z0 (Iz (o0)) rfl rfl (Zk v8) (Z0 (Iz (x1)) rfl rfl (Zk nB) (Z0 (.bool ((decide (o0 > x1)))) rfl rfl (Gk rfl rfl rfl) (Z0 (.bool ((decide (o0 > x1)))) rfl rfl (Zk rfl) ?_))))
      iterate 12 refine L_s rfl rfl rfl l5 rfl ?_
      refine Z0 (.bool false) rfl rfl (Zl (b:=(decide (o0 > x1))) rfl (G5 l5 rfl)) (Ka fun lI cK hs=>?_);have hfr:=hfr.ext hs;have i6:=i6.ext hs;clear hs;refine Zb ?_;obtain rfl:=sinj h;exact hQ _ _ ⟨lI,hfr,mB,i6,nB,lD,yB,nD,v8,rfl⟩
    ·clear hx
     obtain ⟨sF,hfr,oD,yD,zD,aE,bE,iE,tF,zB⟩:=hR;rcases Zt h with ⟨cD,h⟩ | ⟨cD,h⟩
     ·refine Ta (Eq.trans (show ev _ _ = .bool (n8) from zB) (congrArg Value.bool cD)) ?_
      exact Zu (Zd (jH () _ _ ⟨sF,hfr,oD,yD,zD,aE,bE,iE,tF⟩ h))
     ·refine Gs (Eq.trans (show ev _ _ = .bool (n8) from zB) (congrArg Value.bool cD)) (Tn (Gu (Gu (G8 (Tj ?_)))))
      obtain rfl:=sinj h;exact hQ _ _ ⟨sF,hfr,oD,yD,zD,aE,bE,iE⟩
   ·rintro _ pJ mI ⟨uF, hfr, l9, l8, vF, xF, yF, aG, n9⟩ h
    obtain ⟨aB,hx,h⟩:=Z1 h;refine Gl (fun e w=>∃ (g:Gh) ,FrM iI gI wI g w∧e 0=up0∧OM 1 g w 3 (aB:List Int) up0∧e 1=Iz (x1)∧e 2=Iz (x2)∧e 3=(.func (.func ff3) fa3 fc3)∧e 8=Iz (g8)∧e 9=Iz (o0)) (fun Q' hQ=>?_) (fun qJ dK hR=>?_)
    ·replace h := hx
     clear hx;refine Zr ?_;obtain ⟨vB,oE,h⟩:=Z1 h;refine Ju (x:=.tmp 45) isAgg3 sizeOf3 l8 oE fun lK nI nH=>?_;obtain rfl:=Zj.1 nI;obtain ⟨uC,rE,h⟩:=Z1 h;refine Ju (x:=.tmp 49) isAgg3 sizeOf3 l8 rE fun mK pI oH=>?_;obtain rfl:=Zj.1 pI;obtain ⟨pH,uE,h⟩:=Z1 h;refine Xy (g:=uF) (n:=15) [2,3,4] [] [0,1,2,3,4,5,6,7,8,9,10,11,12,13,14] rfl mixed (by kernel_rfl) trivial rfl (Z0 up0 rfl rfl (Zk l9) (Z0 (Iz (o0)) rfl rfl (Zk n9) (Jo (c:=up0) rfl rfl .plain (Zk l9) (Jo (c:=Iz (o0)) rfl rfl .plain (Zk n9) (Jo (c:=Iz ((w64 (o0 - (1:Int))))) rfl rfl .plain (Gk rfl rfl rfl) (Z0 up0 rfl rfl (Zk l9) (Z0 (Iz (o0)) rfl rfl (Zk n9) (Z0 (Iz ((w64 (o0 - (1:Int))))) rfl rfl (Gk rfl rfl rfl) (Z0 (Tb up0 (w64 (o0 - (1:Int))) 1) rfl rfl (T2 (α:=Int) underlying25 sizeOf3 rfl l8 rfl oE) (Tm (c:=Iz (vB)) rfl rfl .plain (fun _ _ h=>⟨h.ch,fun b hb _=>h.below.block b hb⟩) nH rfl (Z0 up0 rfl rfl (Zk l9) (Z0 (Iz (o0)) rfl rfl (Zk n9) (Z0 (Tb up0 o0 1) rfl rfl (T2 (α:=Int) underlying25 sizeOf3 rfl l8 rfl rE) (Tm (c:=Iz (uC)) rfl rfl .plain (fun _ _ h=>⟨h.ch,fun b hb _=>h.below.block b hb⟩) oH rfl (Z0 (Tb up0 o0 1) rfl rfl (T2 (α:=Int) underlying25 sizeOf3 rfl l8 rfl uE) (Ka fun bG qI hs=>?_))))))))))))))));have hlt:Lt uF.m mI bG qI:=hs.ch;have hfr:=hfr.ext hs;have l8:=l8.ext hs;clear hs;refine R6 hlt.w .plain rfl (Ys (g:=bG) (α:=Int) (a':=vB) sizeOf3 rfl l8 uE rfl (Zj.2 rfl) fun sI nK hs b582=>?_);have hfr:=hfr.stp hs;have hlt:=hlt.stp hs;obtain ⟨qH,vE,h⟩:=Z1 h;refine Su hlt.w (v:=Tb up0 (w64 (o0 - (1:Int))) 1) (T2 (α:=Int) underlying25 sizeOf3 rfl b582 rfl vE) .plain rfl (R6 hlt.w .plain rfl (Ys (g:=sI) (α:=Int) (a':=uC) sizeOf3 rfl b582 vE rfl (Zj.2 rfl) fun jJ oK hs b584=>?_));have hfr:=hfr.stp hs;have hlt:=hlt.stp hs;refine Fx hlt.w ?_;clear hlt;refine Tj ?_;obtain rfl:=sinj h;exact hQ _ _ ⟨jJ,hfr,l9,b584,vF,xF,yF,aG,n9⟩
    ·clear hx
     obtain ⟨kJ,hfr,cG,eG,gG,iG,jG,kG,lG⟩:=hR;refine Za (Zo lG rfl (Z9 (Iz ((w64 (o0 - (1:Int))))) rfl rfl rfl rfl (Zg (Iz ((w64 (o0 - (1:Int))))) rfl rfl ?_)));exact Z3 (gH (aB,(w64 (o0 - (1:Int)))) _ _ ⟨kJ,hfr,cG,eG,gG,iG,jG,kG,rfl⟩ h)
  ·clear hx
   obtain ⟨lJ,hfr,mG,sG,xG,yG,zG,aH⟩:=hR;refine Za (Zo aH rfl (Z9 (Iz ((w64 (g8 + (1:Int))))) rfl rfl rfl rfl (Zg (Iz ((w64 (g8 + (1:Int))))) rfl rfl ?_)));exact Z3 (hk1 (lB,(w64 (g8 + (1:Int)))) _ _ ⟨lJ,hfr,mG,sG,xG,yG,zG,rfl⟩ h)
def f170 (x0:Str):Option (Bool):=
 some ((!((x0).b == (x0).b)))
theorem en170:Enters prog 170:=enters_of func170 (by kernel_rfl) rfl
theorem wk170 {gI:Gh} {wI:World} {x0:Str}  {r:Bool} (h:f170 x0=some r):Fn prog 170 #[Str.v (x0)] gI wI (fun _ _ v=>v=.bool (r)):=by
 unfold f170 at h;refine fnE func170 rfl rfl fun g0 hm hfr=>?_;show E _ 6 none _ _ _ _ _;refine Z5 (Zg (.bool false) rfl rfl (Z3 (Z5 (Zn (Str.v (x0)) rfl rfl (Zn (Str.v (x0)) rfl rfl (Zx (.bool ((!((x0).b == (x0).b)))) (R8 rfl rfl rfl) rfl (Zg (.bool ((!((x0).b == (x0).b)))) rfl rfl (Z3 (Ga ?_)))))))));obtain rfl:=sinj h;exact Tg rfl rfl (rq (.bool ((!((x0).b == (x0).b))))) ⟨_,hfr,rfl⟩
def f172 (x0:Int) (z0:Int) (z1:Int):Option (Bool):=
 Option.bind (α:=Bool) (
  bif (decide (x0 < z0)) then
   some (true)
  else
   some ((decide (x0 > z1)))
  ) fun o0=>
 some (o0)
theorem en172:Enters prog 172:=enters_of func172 (by kernel_rfl) rfl
theorem wk172 {gI:Gh} {wI:World} {x0:Int} {z0:Int} {z1:Int} {pf0:Value} (qf0:PT gI.m wI z0 pf0) {pf1:Value} (qf1:PT gI.m wI z1 pf1) {r:Bool} (h:f172 x0 z0 z1=some r):Fn prog 172 #[Iz (x0),pf0,pf1] gI wI (fun _ _ v=>v=.bool (r)):=by
 unfold f172 at h;refine fnE func172 rfl rfl fun g0 hm hfr=>?_;have qf0:PT g0.m wI z0 pf0:=hm ▸ qf0;have qf1:PT g0.m wI z1 pf1:=hm ▸ qf1;show E _ 13 none _ _ _ _ _;refine Z5 (Zg (.bool false) rfl rfl (Z3 ?_));obtain ⟨o0,hx,h⟩:=Z1 h;refine Gl (fun e w=>∃ (g:Gh) ,Fr gI wI g w∧e 4=.bool (o0)) (fun Q' hQ=>?_) (fun t5 w7 hR=>?_)
 ·replace h := hx
  clear hx;refine Za (Zn (Iz (x0)) rfl rfl (Z4 rfl (Z6 (g:=g0) isAgg3 sizeOf3 rfl qf0 fun v4 r4=>?_)));obtain rfl:=Zj.1 r4;refine Z9 (.bool ((decide (x0 < z0)))) rfl rfl rfl rfl (Zn (.bool ((decide (x0 < z0)))) rfl rfl ?_);rcases Zt h with ⟨hc5,h⟩ | ⟨hc5,h⟩
  ·refine Zz rfl rfl hc5 rfl rfl (Zz rfl rfl hc5 rfl rfl (Zz rfl rfl hc5 rfl rfl (Zx (.bool true) (Zl (b := (decide (x0 < z0))) rfl (G4 hc5 rfl)) rfl (Zg (.bool true) rfl rfl (Zb ?_)))))
   obtain rfl:=sinj h;exact hQ _ _ ⟨g0,hfr,rfl⟩
  ·refine Zy (Iz (x0)) (Zk rfl) rfl rfl hc5 rfl (Ze (.yes2 rfl rfl hc5) rfl (Z6 (g := g0) isAgg3 sizeOf3 rfl qf1 fun v6 r6 => ?_))
   obtain rfl:=Zj.1 r6;refine Zy (.bool ((decide (x0 > z1)))) (Gk rfl rfl rfl) rfl rfl hc5 rfl (Zx (.bool ((decide (x0 > z1)))) (Zl (b:=(decide (x0 < z0))) rfl (G5 hc5 rfl)) rfl (Zg (.bool ((decide (x0 > z1)))) rfl rfl (Zb ?_)));obtain rfl:=sinj h;exact hQ _ _ ⟨g0,hfr,rfl⟩
 ·clear hx
  obtain ⟨g7,hfr,l5⟩:=hR;refine Ga ?_;obtain rfl:=sinj h;exact Tg rfl rfl (show _=.bool (o0) from l5) ⟨_,hfr,rfl⟩
def f178 (x0:List Int):Option (Bool):=
 some ((decide (((x0).length:Int) > (6:Int))))
theorem en178:Enters prog 178:=enters_of func178 (by kernel_rfl) rfl
theorem wk178 {gI:Gh} {wI:World} {x0:List Int} {up0:Value} (rp0:RV gI.m wI x0 up0) {r:Bool} (h:f178 x0=some r):Fn prog 178 #[up0] gI wI (fun _ _ v=>v=.bool (r)):=by
 unfold f178 at h;refine fnE func178 rfl rfl fun g0 hm hfr=>?_;have rp0:=RVc hm rp0;show E _ 6 none _ _ _ _ _;refine Z5 (Zg (.bool false) rfl rfl (Z3 (Z5 (Zn up0 rfl rfl (Zx (Iz ((x0).length:Int)) (Gz underlying25 rfl rp0) rfl (Z9 (.bool ((decide (((x0).length:Int) > (6:Int))))) rfl rfl rfl rfl (Zg (.bool ((decide (((x0).length:Int) > (6:Int))))) rfl rfl (Z3 (Ga ?_)))))))));obtain rfl:=sinj h;exact Tg rfl rfl (rq (.bool ((decide (((x0).length:Int) > (6:Int)))))) ⟨_,hfr,rfl⟩
def f179 (x0:List Int) (z0:Gr):Option (Bool):=
 some ((((x0).length:Int) != ((((z0).PayTable).Down).length:Int)))
theorem en179:Enters prog 179:=enters_of func179 (by kernel_rfl) rfl
theorem wk179 {gI:Gh} {wI:World} {x0:List Int} {z0:Gr} {up0:Value} (rp0:RV gI.m wI x0 up0) {pf0:Value} (qf0:PT gI.m wI z0 pf0) {r:Bool} (h:f179 x0 z0=some r):Fn prog 179 #[up0,pf0] gI wI (fun _ _ v=>v=.bool (r)):=by
 unfold f179 at h;refine fnE func179 rfl rfl fun g0 hm hfr=>?_;have qf0:PT g0.m wI z0 pf0:=hm ▸ qf0;have rp0:=RVc hm rp0;show E _ 11 none _ _ _ _ _;refine Z5 (Zg (.bool false) rfl rfl (Z3 (Z5 (Zn up0 rfl rfl (Zx (Iz ((x0).length:Int)) (Gz underlying25 rfl rp0) rfl (Zx (Z8 pf0 0) (Zc Tz rfl (PT.ptr qf0)) rfl ?_))))));have q1:=Zm (G0).1 qf0;refine Zx (Z8 (Z8 pf0 0) 2) (Zc Yo rfl (PT.ptr q1)) rfl ?_;have q2:=Zm (W1).1 q1;refine Z4 rfl (Z6 (g:=g0) isAgg25 sizeOf25 rfl q2 fun v3 r3=>(Zx (Iz ((((z0).PayTable).Down).length:Int)) (Gz underlying25 rfl r3) rfl (Zx (.bool ((((x0).length:Int) != ((((z0).PayTable).Down).length:Int)))) (Gk rfl rfl rfl) rfl (Zx (.bool ((((x0).length:Int) != ((((z0).PayTable).Down).length:Int)))) (Te rfl) rfl (Z3 (Ga ?_))))));obtain rfl:=sinj h;exact Tg rfl rfl (rq (.bool ((((x0).length:Int) != ((((z0).PayTable).Down).length:Int))))) ⟨_,hfr,rfl⟩
def f180 (x1:Int):Option ((List Int)):=
 Option.bind (α:=Unit) (
  bif (decide (x1 < (0 : Int))) then
   none
  else
   some ()
  ) fun (_:Unit)=>
 Option.bind (α:=(List Int)) (
  bif (decide ((w64 (x1 - (w64 (((0 : Nat) : Int) - ((([] : List Int)).length : Int))))) > (0 : Int))) then
   (grwz 8 ((w64 (x1 - (w64 (((0:Nat):Int) - ((([]:List Int)).length:Int))))))).bind fun _=>
   some (([]:List Int))
  else
   some (([]:List Int))
  ) fun t5=>
 some (t5)
theorem en180:Enters prog 180:=enters_of func180 (by kernel_rfl) rfl
theorem wk180 {iO:Nat} {gI:Gh} {wI:World} {x1:Int}  {r:(List Int)} (h:f180 x1=some r):FnG prog 180 #[.slice none 0 0,Iz (x1)] gI wI (fun g w v=>OS iO g w 3 r v∧RV g.m w r v):=by
 unfold f180 at h;refine Rb func180 rfl (Nat.le_of_ble_eq_true rfl) fun g0 hm hfr=>?_;show E _ 27 none _ _ _ _ _;refine Z5 (Zg (.slice none 0 0) rfl rfl (Z3 ?_));obtain ⟨_,hx,h⟩:=Z1 h;refine Gl (fun e w=>∃ (g:Gh) ,Fr gI wI g w∧e 0=.slice none 0 0∧RV g.m w (([]:List Int):List Int) (Value.slice none 0 0)∧e 1=Iz (x1)) (fun Q' hQ=>?_) (fun aB w3 hR=>?_)
 ·replace h := hx
  clear hx;refine Z5 (Zn (Iz (x1)) rfl rfl (Z9 (.bool ((decide (x1 < (0:Int))))) rfl rfl rfl rfl (Z3 ?_)));rcases Zt h with ⟨hc2,h⟩ | ⟨hc2,h⟩
  ·refine G6 hc2 rfl (Za ?_)
   cases h
  ·refine G7 hc2 rfl (Zu ?_)
   obtain rfl:=sinj h;exact hQ _ _ ⟨g0,hfr,rfl,T0,rfl⟩
 ·clear hx
  obtain ⟨g3,hfr,o0,l5,l8⟩:=hR;obtain ⟨t5,hx,h⟩:=Z1 h;refine Gl (fun e w=>∃ (g:Gh) (v0:Value),Fr gI wI g w∧e 0=v0∧RV g.m w (t5:List Int) v0∧OS 4022 g w 3 (t5:List Int) v0) (fun Q' hQ=>?_) (fun lB w8 hR=>?_)
  ·replace h := hx
   clear hx;refine Z5 (Zo l8 rfl (Zo o0 rfl (Zx (Iz ((0:Nat):Int)) (P_cap underlying25 rfl) rfl (Zo o0 rfl (Zx (Iz ((([]:List Int)).length:Int)) (Gz underlying25 rfl l5) rfl (Zx (Iz ((w64 (((0:Nat):Int) - ((([]:List Int)).length:Int))))) (Gk rfl rfl rfl) rfl (Zx (Iz ((w64 (x1 - (w64 (((0:Nat):Int) - ((([]:List Int)).length:Int))))))) (Gk rfl rfl rfl) rfl (Zx (Iz ((w64 (x1 - (w64 (((0:Nat):Int) - ((([]:List Int)).length:Int))))))) (Te rfl) rfl (Z3 (Z5 (Zx (Iz ((w64 (x1 - (w64 (((0:Nat):Int) - ((([]:List Int)).length:Int))))))) (Zk rfl) rfl (Zx (.bool ((decide ((w64 (x1 - (w64 (((0:Nat):Int) - ((([]:List Int)).length:Int))))) > (0:Int))))) (Gk rfl rfl rfl) rfl (Z3 ?_)))))))))))));rcases Zt h with ⟨hc6,h⟩ | ⟨hc6,h⟩
   ·refine G6 hc6 rfl (Za (Zo o0 rfl (Zo o0 rfl (Zx (Iz ((0 : Nat) : Int)) (P_cap underlying25 rfl) rfl (Zx (.slice none 0 0) (Ot underlying25 sizeOf3 rfl rfl (fun p hp => by cases hp)) rfl (Zx (Iz ((w64 (x1 - (w64 (((0 : Nat) : Int) - ((([] : List Int)).length : Int))))))) (Zk rfl) rfl ?_))))))
    obtain ⟨y7,n9,h⟩:=Z1 h;refine Z4 rfl (D_growZ (g:=g3) (α:=Int) 4022 underlying25 underlying3 Kr rfl (Nat.le_of_ble_eq_true rfl) rfl rfl n9 fun g7 w7 b7 c7 m7 hs o7 r7=>?_);have hfr:=hfr.stp hs;have l5:=l5.stp hs;refine Zo o0 rfl (Zx (Iz ((([]:List Int)).length:Int)) (Gz underlying25 rfl l5) rfl (Zx ((.slice (some ⟨b7,0,none⟩) 0 c7)) (Ot underlying25 sizeOf3 rfl rfl (fun p hp=>by cases hp; rfl)) rfl (Zg ((.slice (some ⟨b7,0,none⟩) 0 c7)) rfl rfl (Zb ?_))));obtain rfl:=sinj h;exact hQ _ _ ⟨g7,((.slice (some ⟨b7,0,none⟩) 0 c7)),hfr,rfl,r7,o7⟩
   ·refine G7 hc6 rfl (Zu ?_)
    obtain rfl:=sinj h;exact hQ _ _ ⟨g3,(.slice none 0 0),hfr,o0,l5,OS.nil⟩
  ·clear hx
   obtain ⟨g8,i6,hfr,n8,v8,l9⟩:=hR;refine Z5 (Zo n8 rfl (Zg i6 rfl rfl (Z3 (Ga ?_))));obtain rfl:=sinj h;obtain ⟨gh,hxh,homh,hrvh⟩:=OS.handn (i:=iO) hfr l9 v8;exact Tg rfl rfl (rq i6) ⟨gh,hxh,homh,hrvh⟩
def f184 (x0:List Gc) (x1:Gc→Option Bool):Option (Int):=
 jn (σ:=Unit) (fun _=>
  some ((-1:Int))
  ) fun k18=>
 lp (σ:=Int) (fun k19 o0=>
  bif (decide (o0 < ((x0).length : Int))) then
   jn (σ:=Unit) (fun _=>
    k19 ((w64 (o0 + (1:Int))))
    ) fun k28=>
   (idx x0 o0).bind fun vB=>
   (x1 vB).bind fun yB=>
   bif yB then
    some (o0)
   else
    k28 ()
  else
   k18 ()
  ) big ((0:Int))
theorem en184:Enters prog 184:=enters_of func184 (by kernel_rfl) rfl
theorem wk184 {gI:Gh} {wI:World} {x0:List Gc} {x1:Gc→Option Bool} {up0:Value} (rp0:RV gI.m wI x0 up0) {up1:Value} (rp1:Hz prog x1 up1 gI wI) {r:Int} (h:f184 x0 x1=some r):Fn prog 184 #[up0,up1] gI wI (fun _ _ v=>v=Iz (r)):=by
 unfold f184 at h;refine fnE func184 rfl rfl fun g0 hm hfr=>?_;have rp0:=RVc hm rp0;obtain ⟨ff1,fa1,fc1,rfl,fen1,fcl1⟩:=rp1;show E _ 19 none _ _ _ _ _;refine Z5 (Zg (Iz (0)) rfl rfl (Z3 (Zq h (fun (s:Unit) e w=>∃ (g:Gh) ,Fr gI wI g w) (fun X18 k18 zB h=>?_) ?_)))
 ·refine Z5 (Zn up0 rfl rfl (Zx (Iz ((x0).length : Int)) (Gz underlying92 rfl rp0) rfl (Zn (Iz (0)) rfl rfl (Z3 (Zr (Q0 h (fun (s : Int) e w => ∃ (g : Gh) , Fr gI wI g w ∧ e 0 = up0 ∧ RV g.m w (x0 : List Gc) up0 ∧ e 1 = (.func (.func ff1) fa1 fc1) ∧ e 7 = Iz (((x0).length : Int)) ∧ e 8 = Iz (s)) ⟨g0, hfr, rfl, rp0, rfl, rfl, rfl⟩ (fun X19 k19 cC => ?_)))))))
  rintro o0 yD bE ⟨l9,hfr,l8,l5,n8,v8,t5⟩ h;refine Z5 (Z9 (.bool ((decide (o0 < ((x0).length:Int))))) t5 v8 rfl rfl (Z3 (Zf ?_)));rcases Zt h with ⟨i6,h⟩ | ⟨i6,h⟩
  ·refine G6 i6 rfl (Zu (Zd (Zq h (fun (s : Unit) e w => ∃ (g : Gh) , Fr gI wI g w ∧ e 0 = up0 ∧ RV g.m w (x0 : List Gc) up0 ∧ e 1 = (.func (.func ff1) fa1 fc1) ∧ e 7 = Iz (((x0).length : Int)) ∧ e 8 = Iz (o0)) (fun X28 k28 uC h => ?_) ?_)))
   ·refine Zr (Z5 (Zo t5 rfl (Zg (Iz (o0)) rfl rfl (Z3 (Z5 (Zo n8 rfl (Zo l8 rfl (Zn (Iz (o0)) rfl rfl ?_))))))))
    obtain ⟨vB,n9,h⟩:=Z1 h;refine Zx (Tb up0 o0 3) (Zh (α:=Gc) underlying92 sizeOf96 rfl l5 rfl n9) rfl ?_;have bD:=Gx l5 n9;refine Z4 rfl (Z6 (g:=l9) isAgg96 sizeOf96 rfl bD fun cD lD=>?_);obtain ⟨yB,vC,h⟩:=Z1 h;refine Z4 rfl (K6 (g:=l9) (vs:=[cD]) rfl fen1 (.cons rfl .nil) (fcl1 _ _ hfr.ch _ _ _  lD vC) fun nD iE lE hs hr=>?_);have hfr:=hfr.ext hs;have l5:=l5.ext hs;obtain rfl:=Q1.1 hr;refine Z3 ?_;rcases Zt h with ⟨g8,h⟩ | ⟨g8,h⟩
    ·refine G6 g8 rfl (Z5 (Zn (Iz (o0)) rfl rfl (Zg (Iz (o0)) rfl rfl (Z3 (Ga (Tl (Gp (Gp (Tl (Gp ?_))))))))))
     obtain rfl:=sinj h;exact Tg rfl rfl (rq (Iz (o0))) ⟨_,hfr,rfl⟩
    ·refine G7 g8 rfl ?_
     exact Zu (Tj (Zd (uC () _ _ ⟨nD,hfr,l8,l5,n8,v8,t5⟩ h)))
   ·rintro _ zD mE ⟨oD, hfr, aB, lB, mB, nB, oB⟩ h
    refine Za (Z9 (Iz ((w64 (o0 + (1:Int))))) oB rfl rfl rfl (Zn (Iz ((w64 (o0 + (1:Int))))) rfl rfl ?_));exact Z3 (cC ((w64 (o0 + (1:Int)))) _ _ ⟨oD,hfr,aB,lB,mB,nB,rfl⟩ h)
  ·refine G7 i6 rfl (Tn (Gu (Gu (G8 ?_))))
   exact Zd (zB () _ _ ⟨l9,hfr⟩ h)
 ·rintro _ aE oE ⟨rE, hfr⟩ h
  refine Z5 (Zg (Iz (-1)) rfl rfl (Z3 (Ga ?_)));obtain rfl:=sinj h;exact Tg rfl rfl (rq (Iz (-1))) ⟨_,hfr,rfl⟩
def f185 (x0:Str) (x1:I32→Option Bool) (x2:Bool):Option (Int):=
 jn (σ:=Unit) (fun _=>
  some ((-1:Int))
  ) fun k8=>
 lp (σ:=Nat) (fun n9 o0=>
  bif (decide (o0 < (x0).b.length)) then
   (x1 ((⟨(dec x0 o0).1⟩:I32))).bind fun v8=>
   bif (v8 == x2) then
    some (((o0:Nat):Int))
   else
    n9 ((o0 + (dec x0 o0).2))
  else
   k8 ()
  ) big (0)
theorem en185:Enters prog 185:=enters_of func185 (by kernel_rfl) rfl
theorem wk185 {gI:Gh} {wI:World} {x0:Str} {x1:I32→Option Bool} {x2:Bool} {up1:Value} (rp1:Hz prog x1 up1 gI wI) {r:Int} (h:f185 x0 x1 x2=some r):Fn prog 185 #[Str.v (x0),up1,.bool (x2)] gI wI (fun _ _ v=>v=Iz (r)):=by
 unfold f185 at h;refine fnE func185 rfl rfl fun g0 hm hfr=>?_;obtain ⟨ff1,fa1,fc1,rfl,fen1,fcl1⟩:=rp1;show E _ 21 none _ _ _ _ _;refine Z5 (Zg (Iz (0)) rfl rfl (Z3 (Zq h (fun (s:Unit) e w=>∃ (g:Gh) ,Fr gI wI g w) (fun X8 k8 mB h=>?_) ?_)))
 ·refine Z5 (Zn (Str.v (x0)) rfl rfl (Z4 rfl (O4 (g := g0) (s := x0) 7010 underlying9 rfl fun g9 w9 p9 hs b9 => ?_)))
  have hfr:=hfr.stp hs;refine Z3 (Zr (Q0 h (fun (s:Nat) e w=>∃ (g:Gh) ,Fr gI wI g w∧e 1=(.func (.func ff1) fa1 fc1)∧e 2=.bool (x2)∧e 10=p9∧SI 7010 g w (x0) (s) p9) ⟨g9,hfr,rfl,rfl,rfl,b9⟩ (fun X10 n9 aB=>?_)));rintro o0 vB zB ⟨l9,hfr,l8,n8,l5,t5⟩ h;refine Z5 ?_;rcases Zt h with ⟨i6,h⟩ | ⟨i6,h⟩
  ·refine Z4 rfl (Nl (g := l9) l5 t5 i6 fun nB cC hs b12 => ?_)
   have hfr:=hfr.stp hs;refine Zx (.bool true) (Zi rfl rfl) rfl (Z3 (Zf (Ta (by rw [show ev _ _=_ from rfl]; exact congrArg Value.bool rfl) (Zu (Zd (Zr (Z5 (Zx (Iz ((o0:Nat):Int)) (Zi rfl rfl) rfl (Zx (.int .i32 (dec x0 o0).1) (Zi rfl rfl) rfl (Zg (Iz ((o0:Nat):Int)) rfl rfl (Zg (.int .i32 (dec x0 o0).1) rfl rfl (Z3 (Z5 (Zo l8 rfl (Zn (.int .i32 (dec x0 o0).1) rfl rfl ?_)))))))))))))));obtain ⟨v8,lB,h⟩:=Z1 h;refine Z4 rfl (K6 (g:=nB) (vs:=[.int .i32 (dec x0 o0).1]) rfl fen1 (.cons rfl .nil) (fcl1 _ _ hfr.ch _ _ _  (Oj.2 rfl) lB) fun oB uC vC hs hr=>?_);have hfr:=hfr.ext hs;have b12:=b12.ext hs;obtain rfl:=Q1.1 hr;refine Zo n8 rfl (Zx (.bool ((v8 == x2))) (P_bool underlying4 rfl rfl rfl) rfl (Z3 ?_));rcases Zt h with ⟨g8,h⟩ | ⟨g8,h⟩
   ·refine G6 g8 rfl (Z5 (Zn (Iz ((o0 : Nat) : Int)) rfl rfl (Zg (Iz ((o0 : Nat) : Int)) rfl rfl (Z3 (Ga (Tl (Gp (Tl (Gp ?_)))))))))
    obtain rfl:=sinj h;exact Tg rfl rfl (rq (Iz ((o0:Nat):Int))) ⟨_,hfr,rfl⟩
   ·refine G7 g8 rfl ?_
    exact Zu (Tj (Zd (aB ((o0 + (dec x0 o0).2)) _ _ ⟨oB,hfr,l8,n8,l5,b12⟩ h)))
  ·refine Z4 rfl (Na (g := l9) l5 t5 i6 (Zx (.bool false) (Zi rfl rfl) rfl (Z3 (Zf (Gs (by rw [show ev _ _ = _ from rfl]; exact congrArg Value.bool rfl) (Tn (Gu (Gu (G8 ?_)))))))))
   exact Zd (mB () _ _ ⟨l9,hfr⟩ h)
 ·rintro _ yB bD ⟨cD, hfr⟩ h
  refine Z5 (Zg (Iz (-1)) rfl rfl (Z3 (Ga ?_)));obtain rfl:=sinj h;exact Tg rfl rfl (rq (Iz (-1))) ⟨_,hfr,rfl⟩
def f186 (x0:U64):Option (U64):=
 (Ws ((x0).n) ((8:Int))).bind fun y1=>
 (L2 (Tr .and ((x0).n) ((71777214294589695:Int))) ((8:Int))).bind fun y2=>
 (Ws (Tr .or (Tr .and y1 ((71777214294589695:Int))) y2) ((16:Int))).bind fun y3=>
 (L2 (Tr .and (Tr .or (Tr .and y1 ((71777214294589695:Int))) y2) ((281470681808895:Int))) ((16:Int))).bind fun y4=>
 (Ws (Tr .or (Tr .and y3 ((281470681808895:Int))) y4) ((32:Int))).bind fun y5=>
 (L2 (Tr .or (Tr .and y3 ((281470681808895:Int))) y4) ((32:Int))).bind fun y6=>
 some ((⟨Tr .or y5 y6⟩:U64))
theorem en186:Enters prog 186:=enters_of func186 (by kernel_rfl) rfl
theorem wk186 {gI:Gh} {wI:World} {x0:U64}  {r:U64} (h:f186 x0=some r):Fn prog 186 #[.int .u64 ((x0).n)] gI wI (fun _ _ v=>v=.int .u64 ((r).n)):=by
 unfold f186 at h;refine fnE func186 rfl rfl fun g0 hm hfr=>?_;show E _ 22 none _ _ _ _ _;refine Z5 (Zg (.int .u64 (0)) rfl rfl (Z3 (Z5 (Zn (.int .u64 ((x0).n)) rfl rfl ?_))));obtain ⟨y1,hy1,h⟩:=Z1 h;refine Zx (.int .u64 (y1)) (H4 rfl rfl hy1) rfl (Zx (.int .u64 (Tr .and y1 ((71777214294589695:Int)))) (Km (by simp) rfl rfl) rfl (Zn (.int .u64 ((x0).n)) rfl rfl (Zx (.int .u64 (Tr .and ((x0).n) ((71777214294589695:Int)))) (Km (by simp) rfl rfl) rfl ?_)));obtain ⟨y2,hy2,h⟩:=Z1 h;refine Zx (.int .u64 (y2)) (Dz rfl rfl hy2) rfl (Zx (.int .u64 (Tr .or (Tr .and y1 ((71777214294589695:Int))) y2)) (Km (by simp) rfl rfl) rfl (Zg (.int .u64 (Tr .or (Tr .and y1 ((71777214294589695:Int))) y2)) rfl rfl (Z3 (Z5 (Zn (.int .u64 (Tr .or (Tr .and y1 ((71777214294589695:Int))) y2)) rfl rfl ?_)))));obtain ⟨y3,hy3,h⟩:=Z1 h;refine Zx (.int .u64 (y3)) (H4 rfl rfl hy3) rfl (Zx (.int .u64 (Tr .and y3 ((281470681808895:Int)))) (Km (by simp) rfl rfl) rfl (Zn (.int .u64 (Tr .or (Tr .and y1 ((71777214294589695:Int))) y2)) rfl rfl (Zx (.int .u64 (Tr .and (Tr .or (Tr .and y1 ((71777214294589695:Int))) y2) ((281470681808895:Int)))) (Km (by simp) rfl rfl) rfl ?_)));obtain ⟨y4,o0,h⟩:=Z1 h;refine Zx (.int .u64 (y4)) (Dz rfl rfl o0) rfl (Zx (.int .u64 (Tr .or (Tr .and y3 ((281470681808895:Int))) y4)) (Km (by simp) rfl rfl) rfl (Zg (.int .u64 (Tr .or (Tr .and y3 ((281470681808895:Int))) y4)) rfl rfl (Z3 (Z5 (Zn (.int .u64 (Tr .or (Tr .and y3 ((281470681808895:Int))) y4)) rfl rfl ?_)))));obtain ⟨y5,hy5,h⟩:=Z1 h;refine Zx (.int .u64 (y5)) (H4 rfl rfl hy5) rfl (Zn (.int .u64 (Tr .or (Tr .and y3 ((281470681808895:Int))) y4)) rfl rfl ?_);obtain ⟨y6,l5,h⟩:=Z1 h;refine Zx (.int .u64 (y6)) (Dz rfl rfl l5) rfl (Zx (.int .u64 (Tr .or y5 y6)) (Km (by simp) rfl rfl) rfl (Zg (.int .u64 (Tr .or y5 y6)) rfl rfl (Z3 (Ga ?_))));obtain rfl:=sinj h;exact Tg rfl rfl (rq (.int .u64 (Tr .or y5 y6))) ⟨_,hfr,rfl⟩
def f189 (x0:List (List Int)) (x1:(List Int)→Option Bool):Option (Int):=
 jn (σ:=Unit) (fun _=>
  some ((-1:Int))
  ) fun k18=>
 lp (σ:=Int) (fun k19 o0=>
  bif (decide (o0 < ((x0).length : Int))) then
   jn (σ:=Unit) (fun _=>
    k19 ((w64 (o0 + (1:Int))))
    ) fun k28=>
   (idx x0 o0).bind fun vB=>
   (x1 vB).bind fun yB=>
   bif yB then
    some (o0)
   else
    k28 ()
  else
   k18 ()
  ) big ((0:Int))
theorem en189:Enters prog 189:=enters_of func189 (by kernel_rfl) rfl
theorem wk189 {gI:Gh} {wI:World} {x0:List (List Int)} {x1:(List Int)→Option Bool} {up0:Value} (rp0:RV gI.m wI x0 up0) {up1:Value} (rp1:Hz prog x1 up1 gI wI) {r:Int} (h:f189 x0 x1=some r):Fn prog 189 #[up0,up1] gI wI (fun _ _ v=>v=Iz (r)):=by
 unfold f189 at h;refine fnE func189 rfl rfl fun g0 hm hfr=>?_;have rp0:=RVc hm rp0;obtain ⟨ff1,fa1,fc1,rfl,fen1,fcl1⟩:=rp1;show E _ 19 none _ _ _ _ _;refine Z5 (Zg (Iz (0)) rfl rfl (Z3 (Zq h (fun (s:Unit) e w=>∃ (g:Gh) ,Fr gI wI g w) (fun X18 k18 zB h=>?_) ?_)))
 ·refine Z5 (Zn up0 rfl rfl (Zx (Iz ((x0).length : Int)) (Gz underlying122 rfl rp0) rfl (Zn (Iz (0)) rfl rfl (Z3 (Zr (Q0 h (fun (s : Int) e w => ∃ (g : Gh) , Fr gI wI g w ∧ e 0 = up0 ∧ RV g.m w (x0 : List (List Int)) up0 ∧ e 1 = (.func (.func ff1) fa1 fc1) ∧ e 7 = Iz (((x0).length : Int)) ∧ e 8 = Iz (s)) ⟨g0, hfr, rfl, rp0, rfl, rfl, rfl⟩ (fun X19 k19 cC => ?_)))))))
  rintro o0 yD bE ⟨l9,hfr,l8,l5,n8,v8,t5⟩ h;refine Z5 (Z9 (.bool ((decide (o0 < ((x0).length:Int))))) t5 v8 rfl rfl (Z3 (Zf ?_)));rcases Zt h with ⟨i6,h⟩ | ⟨i6,h⟩
  ·refine G6 i6 rfl (Zu (Zd (Zq h (fun (s : Unit) e w => ∃ (g : Gh) , Fr gI wI g w ∧ e 0 = up0 ∧ RV g.m w (x0 : List (List Int)) up0 ∧ e 1 = (.func (.func ff1) fa1 fc1) ∧ e 7 = Iz (((x0).length : Int)) ∧ e 8 = Iz (o0)) (fun X28 k28 uC h => ?_) ?_)))
   ·refine Zr (Z5 (Zo t5 rfl (Zg (Iz (o0)) rfl rfl (Z3 (Z5 (Zo n8 rfl (Zo l8 rfl (Zn (Iz (o0)) rfl rfl ?_))))))))
    obtain ⟨vB,n9,h⟩:=Z1 h;refine Zx (Tb up0 o0 1) (Zh (α:=List Int) underlying122 sizeOf25 rfl l5 rfl n9) rfl ?_;have bD:=Gx l5 n9;refine Z4 rfl (Z6 (g:=l9) isAgg25 sizeOf25 rfl bD fun cD lD=>?_);obtain ⟨yB,vC,h⟩:=Z1 h;refine Z4 rfl (K6 (g:=l9) (vs:=[cD]) rfl fen1 (.cons rfl .nil) (fcl1 _ _ hfr.ch _ _ _  lD vC) fun nD iE lE hs hr=>?_);have hfr:=hfr.ext hs;have l5:=l5.ext hs;obtain rfl:=Q1.1 hr;refine Z3 ?_;rcases Zt h with ⟨g8,h⟩ | ⟨g8,h⟩
    ·refine G6 g8 rfl (Z5 (Zn (Iz (o0)) rfl rfl (Zg (Iz (o0)) rfl rfl (Z3 (Ga (Tl (Gp (Gp (Tl (Gp ?_))))))))))
     obtain rfl:=sinj h;exact Tg rfl rfl (rq (Iz (o0))) ⟨_,hfr,rfl⟩
    ·refine G7 g8 rfl ?_
     exact Zu (Tj (Zd (uC () _ _ ⟨nD,hfr,l8,l5,n8,v8,t5⟩ h)))
   ·rintro _ zD mE ⟨oD, hfr, aB, lB, mB, nB, oB⟩ h
    refine Za (Z9 (Iz ((w64 (o0 + (1:Int))))) oB rfl rfl rfl (Zn (Iz ((w64 (o0 + (1:Int))))) rfl rfl ?_));exact Z3 (cC ((w64 (o0 + (1:Int)))) _ _ ⟨oD,hfr,aB,lB,mB,nB,rfl⟩ h)
  ·refine G7 i6 rfl (Tn (Gu (Gu (G8 ?_))))
   exact Zd (zB () _ _ ⟨l9,hfr⟩ h)
 ·rintro _ aE oE ⟨rE, hfr⟩ h
  refine Z5 (Zg (Iz (-1)) rfl rfl (Z3 (Ga ?_)));obtain rfl:=sinj h;exact Tg rfl rfl (rq (Iz (-1))) ⟨_,hfr,rfl⟩
def f4 (x0:UInt8) (x1:List UInt16):Option (Gi):=
 (f17 x0 x1).bind fun y3=>
 Option.bind (α:=Gi) (
  lp (σ:=Gi × Int) (fun kH (g8,t5)=>
   jn (σ:=Unit) (fun _=>
    Option.bind (α:=Gi) (
     (apnd 8 (((g8).Harness).Warps) (([t5]:List Int))).bind fun y71=>
     some ({ g8 with Harness:={ (g8).Harness with Warps:=y71 } })
     ) fun mB=>
    kH (mB,(w64 (t5 + (1:Int))))
    ) fun lH=>
   bif (decide (t5 < ((g8).Design).Hooks)) then
    lH ()
   else
    some (g8)
   ) big ((⟨(⟨(y3).Hooks,[]⟩:TieHarness),y3⟩:Gi),(0:Int))
  ) fun v8=>
 Option.bind (α:=Gi) (
  lp (σ:=Gi × Int) (fun uE (l8,o0)=>
   jn (σ:=Unit) (fun _=>
    Option.bind (α:=Gi) (
     (apnd 8 (((l8).Harness).Warps) (([o0]:List Int))).bind fun zD=>
     some ({ l8 with Harness:={ (l8).Harness with Warps:=zD } })
     ) fun lB=>
    uE (lB,(w64 (o0 - (1:Int))))
    ) fun vE=>
   bif (decide (o0 > (0 : Int))) then
    vE ()
   else
    some (l8)
   ) big (v8,(w64 (((v8).Design).Hooks - (2:Int))))
  ) fun nB=>
 some (nB)
theorem en4:Enters prog 4:=enters_of func4 (by kernel_rfl) rfl
theorem wk4 {gI:Gh} {wI:World} {x0:UInt8} {x1:List UInt16} {up1:Value} (rp1:RV gI.m wI x1 up1) {r:Gi} (h:f4 x0 x1=some r):Fn prog 4 #[.int .u8 (UInt8.toNat (x0)),up1] gI wI (fun m w v=>RV m w (r) v):=by
 unfold f4 at h;refine fnE func4 rfl rfl fun g0 hm hfr=>?_;have rp1:=RVc hm rp1;show E _ 49 none _ _ _ _ _;refine Z5 (Z4 rfl (G2 (g:=g0) 2004 (⟨⟨0,[]⟩,⟨0,[]⟩⟩:Gi) zeroValue31 (fun m w=>⟨_,(Gb (Gb Zw G9) (Gb Zw G9)),rfl⟩) fun g1 w1 p1 hs b1 cb=>?_));have hfr:=hfr.stp hs;have rp1:=rp1.stp hs;have l9:OSF 2004 60401 1 g1 w1 3 31 ([]:List Int) p1:=cb.osf (by rfl);have n9:OSF 2004 60403 3 g1 w1 3 31 ([]:List Int) p1:=cb.osf (by rfl);clear cb;refine Z3 (Z5 (Zn (.int .u8 (UInt8.toNat (x0))) rfl rfl (Zn up1 rfl rfl ?_)));obtain ⟨y3,hy3,h⟩:=Z1 h;refine Z4 rfl (Zp (g:=g1) (vs:=[.int .u8 (UInt8.toNat (x0)),up1]) en17 (.cons rfl (.cons rfl .nil)) (wk17 rp1 hy3) fun g2 w2_ v2 hs hr=>?_);have hfr:=hfr.ext hs;have l9:=l9.ext hs;have n9:=n9.ext hs;have b1:=b1.ext hs;have r2:=hr;have r4:RV g2.m _ (⟨⟨0,[]⟩,y3⟩:Gi) (.agg (Td [[Iz 0,.slice none 0 0],[Iz 0,.slice none 0 0]] [(1,v2)]).flatten.toArray):=Tc rfl (Gm ((Gb Zw G9)) (Tf (RV.cells r2)));generalize mH:(Value.agg (Td [[Iz 0,.slice none 0 0],[Iz 0,.slice none 0 0]] [(1,v2)]).flatten.toArray)=v4 at r4;refine Zx v4 (mH ▸ Tu (vs:=[(1,v2)]) [[Iz 0,.slice none 0 0],[Iz 0,.slice none 0 0]] lay_31 rfl rfl (.cons rfl .nil) ⟨⟨_,rfl,Ti r2⟩,trivial⟩) rfl (Z4 rfl (G2 (g:=g2) 2005 (⟨⟨0,[]⟩,⟨0,[]⟩⟩:Gi) zeroValue31 (fun m w=>⟨_,(Gb (Gb Zw G9) (Gb Zw G9)),rfl⟩) fun g5 w5 p5 hs b5 cb=>?_));have hfr:=hfr.stp hs;have l9:=l9.stp hs rfl;have n9:=n9.stp hs rfl;have b1:=b1.stp hs rfl;have r4:=r4.stp hs;have pJ:OSF 2005 60501 1 g5 w5 3 31 ([]:List Int) p5:=cb.osf (by rfl);have qJ:OSF 2005 60503 3 g5 w5 3 31 ([]:List Int) p5:=cb.osf (by rfl);clear cb;refine Z4 rfl (Gg (g:=g5) (v:=v4) sizeOf31 rfl b5 rfl r4 fun g6 w6 hs b6 cb=>?_);have rJ:OSF 2005 60501 1 g6 w6 3 31 ([]:List Int) p5:=cb.osf (by rw [← mH]; rfl);clear cb;have hfr:=hfr.stp hs;have l9:=l9.stp hs rfl;have n9:=n9.stp hs rfl;have b1:=b1.stp hs rfl;refine Z3 (Z5 (Zx (Z8 p5 2) (Zc Vw rfl (OB.ptr b6)) rfl (Zx (Z8 p5 2) (Qk (o1:=2) rfl Yi rfl (OB.ptr b6)) rfl (Z4 rfl (Qt (g:=g6) (Gd.comp Wu Wr rfl).1 isAgg3 sizeOf3 rfl b6 fun v9 r9=>?_)))));obtain rfl:=Zj.1 r9;have nH:RV g6.m w6 (⟨(y3).Hooks,[]⟩:TieHarness) (.agg (Td [[Iz 0],[.slice none 0 0]] [(0,Iz ((y3).Hooks))]).flatten.toArray):=Tc rfl (Gm (rfl) (Tf (G9)));generalize xE:(Value.agg (Td [[Iz 0],[.slice none 0 0]] [(0,Iz ((y3).Hooks))]).flatten.toArray)=lI at nH;refine Zx lI (xE ▸ Tu (vs:=[(0,Iz ((y3).Hooks))]) [[Iz 0],[.slice none 0 0]] Aj rfl rfl (.cons rfl .nil) ⟨⟨_,rfl,rfl⟩,trivial⟩) rfl (Zx (Z8 p5 0) (Zc Y8 rfl (OB.ptr b6)) rfl (Z4 rfl (Nj (g:=g6) Q8 sizeOf27 rfl b6 rfl nH fun oH mI hs b12 rst hos=>?_)));have gG:OSF 2005 60501 1 oH mI 3 31 ([]:List Int) p5:=hos _ _ 60501 3 ([]:List Int) 1 (.slice none 0 0) (by rw [← xE]; rfl) rfl OS.nil;clear rst hos;have hfr:=hfr.stp hs;have l9:=l9.stp hs rfl;have n9:=n9.stp hs rfl;have b1:=b1.stp hs rfl;refine Z3 ?_;obtain ⟨v8,hx,h⟩:=Z1 h;refine Gl (fun e w=>∃ (g:Gh) ,Fr gI wI g w∧e 4=p1∧OB 2004 g w 31 ((⟨⟨0,[]⟩,⟨0,[]⟩⟩:Gi):Gi) p1∧OSF 2004 60401 1 g w 3 31 ((((⟨⟨0,[]⟩,⟨0,[]⟩⟩:Gi)).Harness).Warps) p1∧OSF 2004 60403 3 g w 3 31 ((((⟨⟨0,[]⟩,⟨0,[]⟩⟩:Gi)).Design).Rows) p1∧e 5=p5∧OB 2005 g w 31 (v8:Gi) p5∧OSF 2005 60501 1 g w 3 31 (((v8).Harness).Warps) p5) (fun Q' hQ=>?_) (fun sJ vK hR=>?_)
 ·replace h := hx
  clear hx;refine Z5 (Zg (Iz (0)) rfl rfl (Z3 (Zr (Q0 h (fun (s:Gi × Int) e w=>∃ (g:Gh) ,Fr gI wI g w∧e 4=p1∧OB 2004 g w 31 ((⟨⟨0,[]⟩,⟨0,[]⟩⟩:Gi):Gi) p1∧OSF 2004 60401 1 g w 3 31 ((((⟨⟨0,[]⟩,⟨0,[]⟩⟩:Gi)).Harness).Warps) p1∧OSF 2004 60403 3 g w 3 31 ((((⟨⟨0,[]⟩,⟨0,[]⟩⟩:Gi)).Design).Rows) p1∧e 5=p5∧OB 2005 g w 31 (s.1:Gi) p5∧OSF 2005 60501 1 g w 3 31 (((s.1).Harness).Warps) p5∧e 6=Iz (s.2)) ⟨oH,hfr,rfl,b1,l9,n9,rfl,b12,gG,rfl⟩ (fun X44 kH tH=>?_)))));rintro ⟨g8,t5⟩ vJ xK ⟨yE,hfr,iE,lE,u4_1_45,u4_3_45,zB,oB,u5_1_45,mE⟩ h;refine Zq h (fun (s:Unit) e w=>∃ (g:Gh) ,Fr gI wI g w∧e 4=p1∧OB 2004 g w 31 ((⟨⟨0,[]⟩,⟨0,[]⟩⟩:Gi):Gi) p1∧OSF 2004 60401 1 g w 3 31 ((((⟨⟨0,[]⟩,⟨0,[]⟩⟩:Gi)).Harness).Warps) p1∧OSF 2004 60403 3 g w 3 31 ((((⟨⟨0,[]⟩,⟨0,[]⟩⟩:Gi)).Design).Rows) p1∧e 5=p5∧OB 2005 g w 31 (g8:Gi) p5∧OSF 2005 60501 1 g w 3 31 (((g8).Harness).Warps) p5∧e 6=Iz (t5)) (fun X50 lH uH h=>?_) ?_
  ·refine Z5 (Zo mE rfl (Zx (Z8 p5 2) (Zc Vw zB (OB.ptr oB)) rfl (Zx (Z8 p5 2) (Qk (o1 := 2) rfl Yi rfl (OB.ptr oB)) rfl (Z4 rfl (Qt (g := yE) (Gd.comp Wu Wr rfl).1 isAgg3 sizeOf3 rfl oB fun yK nI => ?_)))))
   obtain rfl:=Zj.1 nI;refine Z9 (.bool ((decide (t5 < ((g8).Design).Hooks)))) rfl rfl rfl rfl (Z3 ?_);rcases Zt h with ⟨aE,h⟩ | ⟨aE,h⟩
   ·refine G6 aE rfl ?_
    exact Zu (Zd (uH () _ _ ⟨yE,hfr,iE,lE,u4_1_45,u4_3_45,zB,oB,u5_1_45,mE⟩ h))
   ·refine G7 aE rfl (Tn (Gu (Gu (G8 ?_))))
    obtain rfl:=sinj h;exact hQ _ _ ⟨yE,hfr,iE,lE,u4_1_45,u4_3_45,zB,oB,u5_1_45⟩
  ·rintro _ xJ zK ⟨pH, hfr, iG, aB, u4_1_55, u4_3_55, cC, i6, u5_1_55, oE⟩ h
   obtain ⟨mB,hx,h⟩:=Z1 h;refine Gl (fun e w=>∃ (g:Gh) ,Fr gI wI g w∧e 4=p1∧OB 2004 g w 31 ((⟨⟨0,[]⟩,⟨0,[]⟩⟩:Gi):Gi) p1∧OSF 2004 60401 1 g w 3 31 ((((⟨⟨0,[]⟩,⟨0,[]⟩⟩:Gi)).Harness).Warps) p1∧OSF 2004 60403 3 g w 3 31 ((((⟨⟨0,[]⟩,⟨0,[]⟩⟩:Gi)).Design).Rows) p1∧e 5=p5∧OB 2005 g w 31 (mB:Gi) p5∧OSF 2005 60501 1 g w 3 31 (((mB).Harness).Warps) p5∧e 6=Iz (t5)) (fun Q' hQ=>?_) (fun zJ aL hR=>?_)
   ·replace h := hx
    clear hx;refine Zr (Za (Zx (Z8 p5 0) (Zc Y8 cC (OB.ptr i6)) rfl (Zx (Z8 p5 1) (Qk (o1:=0) rfl Hr rfl (OB.ptr i6)) rfl (Z4 rfl (U4 (g:=pH) (Gd.comp Q8 Qc rfl).1 isAgg25 sizeOf25 rfl i6 u5_1_55 fun bL zE o68=>(Zo oE rfl (Z4 rfl (Z7 (g:=pH) 3028 (xs:=([t5]:List Int)) (vs:=[Iz (t5)]) underlying25 sizeOf3 zeroValue3 rfl rfl (.cons rfl .nil) (RVs.cons (Zj.2 rfl) RVs.nil) rfl rfl fun pI dL eL hs o69 qI hxt hfl=>?_))))))));have hfr:=hfr.stp hs;have u4_1_55:=u4_1_55.stp hs rfl;have u4_3_55:=u4_3_55.stp hs rfl;have aB:=aB.stp hs rfl;have i6:=i6.stp hs rfl;have zE:=zE.stp hs;have o68:=o68.stp hs rfl;obtain ⟨y71,xH,h⟩:=Z1 h;refine Z4 rfl (T5 (g:=pI) (i:=60501) underlying25 Kr rfl rfl o68 zE rfl qI xH fun sI gL iL hs o70 qH _=>?_);have hfr:=hfr.stp hs;have u4_1_55:=u4_1_55.stp hs rfl;have u4_3_55:=u4_3_55.stp hs rfl;have aB:=aB.stp hs rfl;have i6:=i6.stp hs rfl;refine Zx (Z8 p5 0) (Zc Y8 cC (OB.ptr i6)) rfl (Zx (Z8 p5 1) (Qk (o1:=0) rfl Hr rfl (OB.ptr i6)) rfl (Z4 rfl (W2 (g:=sI) (Gd.comp Q8 Qc rfl) sizeOf25 rfl i6 rfl qH fun jJ jL hs b74 rst hos=>?_)));have jG:=hos _ _ 60501 3 (y71:List Int) (Kq qH) rfl o70;clear rst hos;have hfr:=hfr.stp hs;have u4_1_55:=u4_1_55.stp hs rfl;have u4_3_55:=u4_3_55.stp hs rfl;have aB:=aB.stp hs rfl;refine Zb (Tj ?_);obtain rfl:=sinj h;exact hQ _ _ ⟨jJ,hfr,iG,aB,u4_1_55,u4_3_55,cC,b74,jG,oE⟩
   ·clear hx
    obtain ⟨kJ,hfr,kG,lG,u4_1_75,u4_3_75,mG,sG,u5_1_75,xG⟩:=hR;refine Za (Zo xG rfl (Z9 (Iz ((w64 (t5 + (1:Int))))) rfl rfl rfl rfl (Zg (Iz ((w64 (t5 + (1:Int))))) rfl rfl ?_)));exact Z3 (tH (mB,(w64 (t5 + (1:Int)))) _ _ ⟨kJ,hfr,kG,lG,u4_1_75,u4_3_75,mG,sG,u5_1_75,rfl⟩ h)
 ·clear hx
  obtain ⟨sH,hfr,yG,zG,u4_1_76,u4_3_76,rE,vB,u5_1_76⟩:=hR;obtain ⟨nB,hx,h⟩:=Z1 h;refine Gl (fun e w=>∃ (g:Gh) ,Fr gI wI g w∧e 4=p1∧OB 2004 g w 31 ((⟨⟨0,[]⟩,⟨0,[]⟩⟩:Gi):Gi) p1∧OSF 2004 60401 1 g w 3 31 ((((⟨⟨0,[]⟩,⟨0,[]⟩⟩:Gi)).Harness).Warps) p1∧OSF 2004 60403 3 g w 3 31 ((((⟨⟨0,[]⟩,⟨0,[]⟩⟩:Gi)).Design).Rows) p1∧e 5=p5∧OB 2005 g w 31 (nB:Gi) p5∧OSF 2005 60501 1 g w 3 31 (((nB).Harness).Warps) p5) (fun Q' hQ=>?_) (fun lJ aK hR=>?_)
  ·replace h := hx
   clear hx;refine Z5 (Zx (Z8 p5 2) (Zc Vw rE (OB.ptr vB)) rfl (Zx (Z8 p5 2) (Qk (o1:=2) rfl Yi rfl (OB.ptr vB)) rfl (Z4 rfl (Qt (g:=sH) (Gd.comp Wu Wr rfl).1 isAgg3 sizeOf3 rfl vB fun bK yH=>?_))));obtain rfl:=Zj.1 yH;refine Z9 (Iz ((w64 (((v8).Design).Hooks - (2:Int))))) rfl rfl rfl rfl (Zg (Iz ((w64 (((v8).Design).Hooks - (2:Int))))) rfl rfl (Z3 (Zr (Q0 h (fun (s:Gi × Int) e w=>∃ (g:Gh) ,Fr gI wI g w∧e 4=p1∧OB 2004 g w 31 ((⟨⟨0,[]⟩,⟨0,[]⟩⟩:Gi):Gi) p1∧OSF 2004 60401 1 g w 3 31 ((((⟨⟨0,[]⟩,⟨0,[]⟩⟩:Gi)).Harness).Warps) p1∧OSF 2004 60403 3 g w 3 31 ((((⟨⟨0,[]⟩,⟨0,[]⟩⟩:Gi)).Design).Rows) p1∧e 5=p5∧OB 2005 g w 31 (s.1:Gi) p5∧OSF 2005 60501 1 g w 3 31 (((s.1).Harness).Warps) p5∧e 7=Iz (s.2)) ⟨sH,hfr,yG,zG,u4_1_76,u4_3_76,rE,vB,u5_1_76,rfl⟩ (fun X108 uE aH=>?_)))));rintro ⟨l8,o0⟩ mJ cK ⟨cF,hfr,vC,bD,u4_1_109,u4_3_109,cD,lD,u5_1_109,nD⟩ h;refine Zq h (fun (s:Unit) e w=>∃ (g:Gh) ,Fr gI wI g w∧e 4=p1∧OB 2004 g w 31 ((⟨⟨0,[]⟩,⟨0,[]⟩⟩:Gi):Gi) p1∧OSF 2004 60401 1 g w 3 31 ((((⟨⟨0,[]⟩,⟨0,[]⟩⟩:Gi)).Harness).Warps) p1∧OSF 2004 60403 3 g w 3 31 ((((⟨⟨0,[]⟩,⟨0,[]⟩⟩:Gi)).Design).Rows) p1∧e 5=p5∧OB 2005 g w 31 (l8:Gi) p5∧OSF 2005 60501 1 g w 3 31 (((l8).Harness).Warps) p5∧e 7=Iz (o0)) (fun X111 vE cH h=>?_) ?_
   ·refine Z5 (Zo nD rfl (Z9 (.bool ((decide (o0 > (0 : Int))))) rfl rfl rfl rfl (Z3 ?_)))
    rcases Zt h with ⟨uC,h⟩ | ⟨uC,h⟩
    ·refine G6 uC rfl ?_
     exact Zu (Zd (cH () _ _ ⟨cF,hfr,vC,bD,u4_1_109,u4_3_109,cD,lD,u5_1_109,nD⟩ h))
    ·refine G7 uC rfl (Tn (Gu (Gu (G8 ?_))))
     obtain rfl:=sinj h;exact hQ _ _ ⟨cF,hfr,vC,bD,u4_1_109,u4_3_109,cD,lD,u5_1_109⟩
   ·rintro _ nJ dK ⟨dF, hfr, eF, n8, u4_1_113, u4_3_113, yB, l5, u5_1_113, oD⟩ h
    obtain ⟨lB,hx,h⟩:=Z1 h;refine Gl (fun e w=>∃ (g:Gh) ,Fr gI wI g w∧e 4=p1∧OB 2004 g w 31 ((⟨⟨0,[]⟩,⟨0,[]⟩⟩:Gi):Gi) p1∧OSF 2004 60401 1 g w 3 31 ((((⟨⟨0,[]⟩,⟨0,[]⟩⟩:Gi)).Harness).Warps) p1∧OSF 2004 60403 3 g w 3 31 ((((⟨⟨0,[]⟩,⟨0,[]⟩⟩:Gi)).Design).Rows) p1∧e 5=p5∧OB 2005 g w 31 (lB:Gi) p5∧OSF 2005 60501 1 g w 3 31 (((lB).Harness).Warps) p5∧e 7=Iz (o0)) (fun Q' hQ=>?_) (fun oJ lK hR=>?_)
    ·replace h := hx
     clear hx;refine Zr (Za (Zx (Z8 p5 0) (Zc Y8 yB (OB.ptr l5)) rfl (Zx (Z8 p5 1) (Qk (o1:=0) rfl Hr rfl (OB.ptr l5)) rfl (Z4 rfl (U4 (g:=dF) (Gd.comp Q8 Qc rfl).1 isAgg25 sizeOf25 rfl l5 u5_1_113 fun mK bE o125=>(Zo oD rfl (Z4 rfl (Z7 (g:=dF) 3044 (xs:=([o0]:List Int)) (vs:=[Iz (o0)]) underlying25 sizeOf3 zeroValue3 rfl rfl (.cons rfl .nil) (RVs.cons (Zj.2 rfl) RVs.nil) rfl rfl fun zH nK oK hs o126 aI hxt hfl=>?_))))))));have hfr:=hfr.stp hs;have u4_1_113:=u4_1_113.stp hs rfl;have u4_3_113:=u4_3_113.stp hs rfl;have n8:=n8.stp hs rfl;have l5:=l5.stp hs rfl;have bE:=bE.stp hs;have o125:=o125.stp hs rfl;obtain ⟨zD,gH,h⟩:=Z1 h;refine Z4 rfl (T5 (g:=zH) (i:=60501) underlying25 Kr rfl rfl o125 bE rfl aI gH fun bI pK qK hs o127 rF _=>?_);have hfr:=hfr.stp hs;have u4_1_113:=u4_1_113.stp hs rfl;have u4_3_113:=u4_3_113.stp hs rfl;have n8:=n8.stp hs rfl;have l5:=l5.stp hs rfl;refine Zx (Z8 p5 0) (Zc Y8 yB (OB.ptr l5)) rfl (Zx (Z8 p5 1) (Qk (o1:=0) rfl Hr rfl (OB.ptr l5)) rfl (Z4 rfl (W2 (g:=bI) (Gd.comp Q8 Qc rfl) sizeOf25 rfl l5 rfl rF fun dI sK hs b131 rst hos=>?_)));have sF:=hos _ _ 60501 3 (zD:List Int) (Kq rF) rfl o127;clear rst hos;have hfr:=hfr.stp hs;have u4_1_113:=u4_1_113.stp hs rfl;have u4_3_113:=u4_3_113.stp hs rfl;have n8:=n8.stp hs rfl;refine Zb (Tj ?_);obtain rfl:=sinj h;exact hQ _ _ ⟨dI,hfr,eF,n8,u4_1_113,u4_3_113,yB,b131,sF,oD⟩
    ·clear hx
     obtain ⟨iI,hfr,tF,uF,u4_1_132,u4_3_132,vF,xF,u5_1_132,yF⟩:=hR;refine Za (Zo yF rfl (Z9 (Iz ((w64 (o0 - (1:Int))))) rfl rfl rfl rfl (Zg (Iz ((w64 (o0 - (1:Int))))) rfl rfl ?_)));exact Z3 (aH (lB,(w64 (o0 - (1:Int)))) _ _ ⟨iI,hfr,tF,uF,u4_1_132,u4_3_132,vF,xF,u5_1_132,rfl⟩ h)
  ·clear hx
   obtain ⟨aG,hfr,yD,bG,u4_1_133,u4_3_133,cG,eG,u5_1_133⟩:=hR;refine Z5 (Z4 rfl (Tp (g:=aG) isAgg31 sizeOf31 cG eG fun jI kI=>(Z4 rfl (Gg (g:=aG) (v:=jI) sizeOf31 yD bG rfl kI fun tK uK hs b135 cb=>?_))));clear cb;have hfr:=hfr.stp hs;refine Z3 (Ga ?_);obtain rfl:=sinj h;obtain ⟨ad136,cv136,hp136,jH,cr136⟩:=T9 isAgg31 sizeOf31 b135;exact D9 rfl rfl ((show _=p1 from yD).trans hp136) jH ⟨_,hfr,cr136⟩
end Go.Proofs.YtjjbobaoifflpaaGreatDoor
