import Derived.Test.YtepehlhgkipcoaaGreatDoorTypes
import Derived.Test.YtepehlhgkipcoaaGreatDoorIt
import Derived.Test.YtepehlhgkipcoaaGreatDoorShelf
import Derived.Test.YtepehlhgkipcoaaGreatDoorWb
import Derived.Test.YtepehlhgkipcoaaGreatDoorSq
set_option maxRecDepth 8000
set_option maxHeartbeats 4000000
namespace Go.Proofs.YtepehlhgkipcoaaGreatDoor
open Go.RowKit Tryz
theorem Yn:(prog.info? 3).map (fun i=>(i.zero,i.size,i.bytes))=some (some (.int .i64 0),1,8):=by kernel_rfl
theorem I8:(prog.info? 34).map (fun i=>(i.zero,i.size,i.bytes))=some (some (.agg #[.int .i64 0,.int .i64 0,.int .i64 0,.int .i64 0,.bool false]),5,40):=by kernel_rfl
theorem Xf:(prog.info? 9).map (fun i=>(i.zero,i.size,i.bytes))=some (some (Str.v ⟨[]⟩),1,16):=by kernel_rfl
theorem Cr:(prog.info? 5).map (fun i=>(i.zero,i.size,i.bytes))=some (some (.int .u8 0),1,1):=by kernel_rfl
theorem D0:Yg Zv:=fun _ m' _ w' x _ h=>(K6 We (K6 We (K6 We (K6 We Sj)))) _ m' _ w' _ _ h
theorem Si:Qy prog 34=some ([Iz 0,Iz 0,Iz 0,Iz 0,.bool false],[(0,1),(1,1),(2,1),(3,1),(4,1)]):=by kernel_rfl
theorem mixed:prog.follows .mixedOrders=true:=by kernel_rfl
theorem Uu {P:Program} {e:Env} {ds:List Deferred} {w:World} {fn:Func} {R:Value→World→Prop} {t0:Tmp} {v0:Value} {y0:TypeId} {a0:Addr} (hres:fn.results=#[.cell t0 y0]) (hd:ds=[]) (h0:e t0=.pointer (some a0)) (l0:(loadVar y0 a0).run P w=.ok v0 w) (h:R v0 w):Jw P fn R .ret e ds w:=
 ⟨hd,fun tmps ht=>⟨_,by simp [results,hres,ht,asAddr,h0,l0],h⟩⟩
theorem P0:Qy prog 46=some ([Iz 0,.slice none 0 0],[(0,1),(1,1)]):=by kernel_rfl
theorem Fb:Qy prog 43=some ([Iz 0,Iz 0,.bool false],[(0,1),(1,1),(2,1)]):=by kernel_rfl
theorem A2:(prog.info? 43).map (fun i=>(i.zero,i.size,i.bytes))=some (some (.agg #[.int .i64 0,.int .i64 0,.bool false]),3,24):=by kernel_rfl
theorem Bz:Yg Z5:=fun _ m' _ w' x _ h=>(K6 We (K6 We (K6 We (K6 We We)))) _ m' _ w' _ _ h
theorem D3:Qy prog 26=some ([Iz 0,.slice none 0 0],[(0,1),(1,1)]):=by kernel_rfl
theorem P1:Qy prog 76=some ([Str.v ⟨[]⟩,Iz 0,.slice none 0 0],[(0,1),(1,2)]):=by kernel_rfl
theorem Ae:Qy prog 48=some ([Str.v ⟨[]⟩,Iz 0,.slice none 0 0],[(0,1),(1,2)]):=by kernel_rfl
theorem Ad:Qy prog 39=some ([.slice none 0 0,.slice none 0 0],[(0,1),(1,1)]):=by kernel_rfl
theorem Af:Qy prog 28=some ([Iz 0,.slice none 0 0],[(0,1),(1,1)]):=by kernel_rfl
theorem I7:((prog.info? 80).bind (·.zero)).map (·.cells.toList)=some [.int .u8 0,.int .u8 0,.int .u8 0,.int .u8 0,.int .u8 0,.int .u8 0,.int .u8 0,.int .u8 0]:=by kernel_rfl
theorem szA_5:(prog.info? 5).map (·.size)=some 1:=by kernel_rfl
theorem Yl {e:Env} {f:FuncId} {o0:Operand} {l5:Operand} {b0:Value} {b1:Value} (hb0:ev e o0=b0) (hb1:ev e l5=b1):(Value.func (.func f) ((#[]:Array Operand).map (ev e)) ((#[o0,l5]:Array Operand).map (ev e)))=.func (.func f) #[] #[b0,b1]:=by simp [hb0,hb1]
theorem Py:Qy prog 30=some ([Iz 0,.slice none 0 0,Iz 0,.slice none 0 0],[(0,2),(2,2)]):=by kernel_rfl
theorem Ye {P:Program} {e:Env} {ds:List Deferred} {w:World} {fn:Func} {R:Value→World→Prop} {t0:Tmp} {v0:Value} {y0:TypeId} {a0:Addr} {t1:Tmp} {v1:Value} {y1:TypeId} {a1:Addr} {t2:Tmp} {v2:Value} {y2:TypeId} {a2:Addr} (hres:fn.results=#[.cell t0 y0,.cell t1 y1,.cell t2 y2]) (hd:ds=[]) (h0:e t0=.pointer (some a0)) (l0:(loadVar y0 a0).run P w=.ok v0 w) (h1:e t1=.pointer (some a1)) (l1:(loadVar y1 a1).run P w=.ok v1 w) (h2:e t2=.pointer (some a2)) (l2:(loadVar y2 a2).run P w=.ok v2 w) (h:R (.tuple #[v0,v1,v2]) w):Jw P fn R .ret e ds w:=
 ⟨hd,fun tmps ht=>⟨_,by simp [results,hres,ht,asAddr,h0,l0,h1,l1,h2,l2],h⟩⟩
theorem Fc:Qy prog 55=some ([Iz 0,Iz 0,Iz 0,Iz 0,Iz 0],[(0,1),(1,1),(2,1),(3,1),(4,1)]):=by kernel_rfl
theorem J9 {P:Program} {e:Env} {ds:List Deferred} {w:World} {fn:Func} {R:Value→World→Prop} {t0:Tmp} {v0:Value} {y0:TypeId} {a0:Addr} {t1:Tmp} {v1:Value} (hres:fn.results=#[.cell t0 y0,.tmp t1]) (hd:ds=[]) (h0:e t0=.pointer (some a0)) (l0:(loadVar y0 a0).run P w=.ok v0 w) (h1:e t1=v1) (h:R (.tuple #[v0,v1]) w):Jw P fn R .ret e ds w:=
 ⟨hd,fun tmps ht=>⟨_,by simp [results,hres,ht,asAddr,h0,l0,h1],h⟩⟩
theorem E1:Qy prog 160=some ([Iz 0,.slice none 0 0,Iz 0],[(0,2),(2,1)]):=by kernel_rfl
theorem Rb {e:Env} {f:FuncId} {o0:Operand} {b0:Value} (hb0:ev e o0=b0):(Value.func (.func f) ((#[]:Array Operand).map (ev e)) ((#[o0]:Array Operand).map (ev e)))=.func (.func f) #[] #[b0]:=by simp [hb0]
theorem Fd:Qy prog 91=some ([Iz 0,.slice none 0 0,Iz 0,.slice none 0 0],[(0,4)]):=by kernel_rfl
theorem fl_34 : prog.fieldsOf 34 = #[{ name := "Kind", type := 32, offset := 0, embedded := false, tag := "", pkgPath := "", byteOffset := 0 }, { name := "Pick", type := 3, offset := 1, embedded := false, tag := "", pkgPath := "", byteOffset := 8 }, { name := "Hook", type := 3, offset := 2, embedded := false, tag := "", pkgPath := "", byteOffset := 16 }, { name := "Warp", type := 3, offset := 3, embedded := false, tag := "", pkgPath := "", byteOffset := 24 }, { name := "Up", type := 4, offset := 4, embedded := false, tag := "", pkgPath := "", byteOffset := 32 }] := by kernel_rfl
theorem seq_34:SEq (α:=Zv) prog 34:=by
 intro d x y w a b m wx m2 wy hx hy;obtain ⟨_,⟨_,_,rfl,rfl,⟨_,_,rfl,rfl,⟨_,_,rfl,rfl,⟨_,_,rfl,rfl,rfl⟩⟩⟩⟩,rfl⟩:=hx;obtain ⟨_,⟨_,_,rfl,rfl,⟨_,_,rfl,rfl,⟨_,_,rfl,rfl,⟨_,_,rfl,rfl,rfl⟩⟩⟩⟩,rfl⟩:=hy;refine (run_equalIn_struct w (d + 1) 34 _ _ (by kernel_rfl) (by kernel_rfl)).trans ?_;rw [fl_34];obtain ⟨x0,x1,x2,x3,x4⟩:=x;obtain ⟨y0,y1,y2,y3,y4⟩:=y;show (Op.eqFields (d + 1) #[Iz (x0),Iz (x1),Iz (x2),Iz (x3),.bool (x4)] #[Iz (y0),Iz (y1),Iz (y2),Iz (y3),.bool (y4)] _).run _ _=_;have x0p:(part 32 #[Iz (x0),Iz (x1),Iz (x2),Iz (x3),.bool (x4)] 0).run prog w=.ok (Iz (x0)) w:=Q6 isAgg32 rfl;have x1p:(part 3 #[Iz (x0),Iz (x1),Iz (x2),Iz (x3),.bool (x4)] 1).run prog w=.ok (Iz (x1)) w:=Q6 isAgg3 rfl;have x2p:(part 3 #[Iz (x0),Iz (x1),Iz (x2),Iz (x3),.bool (x4)] 2).run prog w=.ok (Iz (x2)) w:=Q6 isAgg3 rfl;have x3p:(part 3 #[Iz (x0),Iz (x1),Iz (x2),Iz (x3),.bool (x4)] 3).run prog w=.ok (Iz (x3)) w:=Q6 isAgg3 rfl;have x4p:(part 4 #[Iz (x0),Iz (x1),Iz (x2),Iz (x3),.bool (x4)] 4).run prog w=.ok (.bool (x4)) w:=Q6 isAgg4 rfl;have y0p:(part 32 #[Iz (y0),Iz (y1),Iz (y2),Iz (y3),.bool (y4)] 0).run prog w=.ok (Iz (y0)) w:=Q6 isAgg32 rfl;have y1p:(part 3 #[Iz (y0),Iz (y1),Iz (y2),Iz (y3),.bool (y4)] 1).run prog w=.ok (Iz (y1)) w:=Q6 isAgg3 rfl;have y2p:(part 3 #[Iz (y0),Iz (y1),Iz (y2),Iz (y3),.bool (y4)] 2).run prog w=.ok (Iz (y2)) w:=Q6 isAgg3 rfl;have y3p:(part 3 #[Iz (y0),Iz (y1),Iz (y2),Iz (y3),.bool (y4)] 3).run prog w=.ok (Iz (y3)) w:=Q6 isAgg3 rfl;have y4p:(part 4 #[Iz (y0),Iz (y1),Iz (y2),Iz (y3),.bool (y4)] 4).run prog w=.ok (.bool (y4)) w:=Q6 isAgg4 rfl;simp only [Op.eqFields,Sem.run_bind,Sem.run_ite,Sem.run_pure,x0p,x1p,x2p,x3p,x4p,y0p,y1p,y2p,y3p,y4p,Result.andThen_ok,run_equalIn_int _ _ _ _ _ _ _ underlying32,run_equalIn_int _ _ _ _ _ _ _ underlying3,run_equalIn_bool _ _ _ _ _ underlying4];simp;grind
theorem eg_34:prog.eqGuardType prog.depth 34=false:=by kernel_rfl
theorem key_3:Ul prog 3 (Value.int .i64):=S5 underlying3
theorem Eu:((prog.info? 23).bind (·.zero)).map (·.cells.toList)=some [.int .u8 0,.int .u8 0,.int .u8 0]:=by kernel_rfl
@[reducible] def ow_TieHarness:Ow TieHarness:=Ow.struct (fun (x:TieHarness)=>(x.Hooks,x.Warps)) (Ow.pair (Ow.sh Int) (Ow.list 3 (Ow.sh Int)))
@[reducible] def ow_BookTie:Ow Gn:=Ow.struct (fun (x:Gn)=>(x.Name,x.Harness)) (Ow.pair (Ow.sh Str) ow_TieHarness)
@[reducible] def ow_ChainBelt:Ow ChainBelt:=Ow.struct (fun (x:ChainBelt)=>(x.Hooks,x.Cards)) (Ow.pair (Ow.sh Int) (Ow.list 43 (Ow.sh Z8)))
@[reducible] def ow_BookChain:Ow Gc:=Ow.struct (fun (x:Gc)=>(x.Name,x.Chain)) (Ow.pair (Ow.sh Str) ow_ChainBelt)
@[reducible] def ow_BookMill:Ow Gj:=Ow.struct (fun (x:Gj)=>(x.Ties,x.Chains)) (Ow.pair (Ow.list 76 ow_BookTie) (Ow.list 48 ow_BookChain))
theorem Ke:Fl ow_BookMill (Ow.list 48 ow_BookChain) 1 (fun (x:Gj) y=>{ x with Chains:=y }) (fun (q:(ow_BookMill).S) (r:((Ow.list 48 ow_BookChain)).S)=>((Prod.fst q),r)):=Fl.of _ (Fl.comp Prod.snd Prod.snd (Fl.snd _ _) (Fl.id_ _) rfl) (fun _ _=>rfl)
theorem He:Fl ow_BookChain ow_ChainBelt 1 (fun (x:Gc) y=>{ x with Chain:=y }) (fun (q:(ow_BookChain).S) (r:(ow_ChainBelt).S)=>((Prod.fst q),r)):=Fl.of _ (Fl.comp Prod.snd Prod.snd (Fl.snd _ _) (Fl.id_ _) rfl) (fun _ _=>rfl)
theorem Hi:Fl ow_ChainBelt (Ow.list 43 (Ow.sh Z8)) 1 (fun (x:ChainBelt) y=>{ x with Cards:=y }) (fun (q:(ow_ChainBelt).S) (r:((Ow.list 43 (Ow.sh Z8))).S)=>((Prod.fst q),r)):=Fl.of _ (Fl.comp Prod.snd Prod.snd (Fl.snd _ _) (Fl.id_ _) rfl) (fun _ _=>rfl)
theorem Sr:Fl (Ow.sh Z8) (Ow.sh Bool) 2 (fun (x:Z8) y=>{ x with Turned:=y }) (fun q _=>q):=Fl.shd Jp (fun _ _=>rfl) (fun _ _ _=>rfl)
theorem Vu:Fl (Ow.sh Z8) (Ow.sh Int) 1 (fun (x:Z8) y=>{ x with Row:=y }) (fun q _=>q):=Fl.shd Kq (fun _ _=>rfl) (fun _ _ _=>rfl)
theorem A3:Qy prog 177=some ([Iz 0,.slice none 0 0],[(0,2)]):=by kernel_rfl
theorem C4:(prog.info? 55).map (fun i=>(i.zero,i.size,i.bytes))=some (some (.agg #[.int .i64 0,.int .i64 0,.int .i64 0,.int .i64 0,.int .i64 0]),5,40):=by kernel_rfl
theorem Ed:(prog.info? 56).map (fun i=>(i.zero,i.size,i.bytes))=some (some (.slice none 0 0),1,24):=by kernel_rfl
theorem Yc:Pl G7:=Pl.of (Pl.prod Pl.int Pl.int)
theorem fl_125 : prog.fieldsOf 125 = #[{ name := "day", type := 3, offset := 0, embedded := false, tag := "", pkgPath := "griffe/book", byteOffset := 0 }, { name := "loom", type := 3, offset := 1, embedded := false, tag := "", pkgPath := "griffe/book", byteOffset := 8 }] := by kernel_rfl
theorem eqd_125:EqD prog G7 2 125:=EqD.struct rfl (by kernel_rfl) (by kernel_rfl) (by rw [fl_125]; exact (FEq.cons (by decide) (Uy).1 isAgg3 sizeOf3 (EqD.int underlying3) (FEq.cons (by decide) (Uz).1 isAgg3 sizeOf3 (EqD.int underlying3) FEq.nil))) (fun x y=>by cases x; cases y; simp)
theorem ckd_125:CkD prog G7 2 125:=CkD.struct rfl underlying125 fun f hf=>by
 simp only [List.mem_cons,List.not_mem_nil,or_false] at hf;rcases hf with rfl | rfl
 ·exact ⟨by decide,_,_,_,(Uy).1,isAgg3,sizeOf3,(CkD.int underlying3)⟩
 ·exact ⟨by decide,_,_,_,(Uz).1,isAgg3,sizeOf3,(CkD.int underlying3)⟩
theorem A8:Ul prog 125 (U4 Yc):=M6 Yc (by rw [underlying125]) rfl eqd_125 ckd_125 (by decide)
theorem A5:Qy prog 125=some ([Iz 0,Iz 0],[(0,1),(1,1)]):=by kernel_rfl
theorem fl_55 : prog.fieldsOf 55 = #[{ name := "Day", type := 3, offset := 0, embedded := false, tag := "", pkgPath := "", byteOffset := 0 }, { name := "Loom", type := 3, offset := 1, embedded := false, tag := "", pkgPath := "", byteOffset := 8 }, { name := "Chain", type := 3, offset := 2, embedded := false, tag := "", pkgPath := "", byteOffset := 16 }, { name := "Tie", type := 3, offset := 3, embedded := false, tag := "", pkgPath := "", byteOffset := 24 }, { name := "Picks", type := 3, offset := 4, embedded := false, tag := "", pkgPath := "", byteOffset := 32 }] := by kernel_rfl
theorem seq_55:SEq (α:=Z5) prog 55:=by
 intro d x y w a b m wx m2 wy hx hy;obtain ⟨_,⟨_,_,rfl,rfl,⟨_,_,rfl,rfl,⟨_,_,rfl,rfl,⟨_,_,rfl,rfl,rfl⟩⟩⟩⟩,rfl⟩:=hx;obtain ⟨_,⟨_,_,rfl,rfl,⟨_,_,rfl,rfl,⟨_,_,rfl,rfl,⟨_,_,rfl,rfl,rfl⟩⟩⟩⟩,rfl⟩:=hy;refine (run_equalIn_struct w (d + 1) 55 _ _ (by kernel_rfl) (by kernel_rfl)).trans ?_;rw [fl_55];obtain ⟨x0,x1,x2,x3,x4⟩:=x;obtain ⟨y0,y1,y2,y3,y4⟩:=y;show (Op.eqFields (d + 1) #[Iz (x0),Iz (x1),Iz (x2),Iz (x3),Iz (x4)] #[Iz (y0),Iz (y1),Iz (y2),Iz (y3),Iz (y4)] _).run _ _=_;have x0p:(part 3 #[Iz (x0),Iz (x1),Iz (x2),Iz (x3),Iz (x4)] 0).run prog w=.ok (Iz (x0)) w:=Q6 isAgg3 rfl;have x1p:(part 3 #[Iz (x0),Iz (x1),Iz (x2),Iz (x3),Iz (x4)] 1).run prog w=.ok (Iz (x1)) w:=Q6 isAgg3 rfl;have x2p:(part 3 #[Iz (x0),Iz (x1),Iz (x2),Iz (x3),Iz (x4)] 2).run prog w=.ok (Iz (x2)) w:=Q6 isAgg3 rfl;have x3p:(part 3 #[Iz (x0),Iz (x1),Iz (x2),Iz (x3),Iz (x4)] 3).run prog w=.ok (Iz (x3)) w:=Q6 isAgg3 rfl;have x4p:(part 3 #[Iz (x0),Iz (x1),Iz (x2),Iz (x3),Iz (x4)] 4).run prog w=.ok (Iz (x4)) w:=Q6 isAgg3 rfl;have y0p:(part 3 #[Iz (y0),Iz (y1),Iz (y2),Iz (y3),Iz (y4)] 0).run prog w=.ok (Iz (y0)) w:=Q6 isAgg3 rfl;have y1p:(part 3 #[Iz (y0),Iz (y1),Iz (y2),Iz (y3),Iz (y4)] 1).run prog w=.ok (Iz (y1)) w:=Q6 isAgg3 rfl;have y2p:(part 3 #[Iz (y0),Iz (y1),Iz (y2),Iz (y3),Iz (y4)] 2).run prog w=.ok (Iz (y2)) w:=Q6 isAgg3 rfl;have y3p:(part 3 #[Iz (y0),Iz (y1),Iz (y2),Iz (y3),Iz (y4)] 3).run prog w=.ok (Iz (y3)) w:=Q6 isAgg3 rfl;have y4p:(part 3 #[Iz (y0),Iz (y1),Iz (y2),Iz (y3),Iz (y4)] 4).run prog w=.ok (Iz (y4)) w:=Q6 isAgg3 rfl;simp only [Op.eqFields,Sem.run_bind,Sem.run_ite,Sem.run_pure,x0p,x1p,x2p,x3p,x4p,y0p,y1p,y2p,y3p,y4p,Result.andThen_ok,run_equalIn_int _ _ _ _ _ _ _ underlying3];simp;grind
theorem eg_55:prog.eqGuardType prog.depth 55=false:=by kernel_rfl
theorem lay_70:Qy prog 70=some ([Iz 0,Iz 0,.bool false],[(0,1),(1,1),(2,1)]):=by kernel_rfl
theorem E4:(prog.info? 70).map (fun i=>(i.zero,i.size,i.bytes))=some (some (.agg #[.int .i64 0,.int .i64 0,.bool false]),3,24):=by kernel_rfl
theorem Fs {b0 b1:Value} {B0:Value→Prop} {B1:Value→Prop} (h:∃ c0 c1:Value,Value.tuple #[b0,b1]=.tuple #[c0,c1]∧B0 c0∧B1 c1):B0 b0:=by
 obtain ⟨c0,c1,he,h0,h1⟩:=h; simp at he; obtain ⟨rfl,rfl⟩:=he; exact h0
def f52 (x0:List Int):Option (List Int):=apnd 8 [] x0
theorem en52:Enters prog 52:=enters_of func52 (by kernel_rfl) rfl
def f53 (x0:List Zv):Option (List Zv):=apnd 40 [] x0
theorem en53:Enters prog 53:=enters_of func53 (by kernel_rfl) rfl
def f74 (x0:List Str):Option (List Str):=apnd 16 [] x0
theorem en74:Enters prog 74:=enters_of func74 (by kernel_rfl) rfl
theorem wk74 {gI:Gh} {wI:World} {x0:List Str} {up0:Value} (rp0:RV gI.m wI x0 up0) {r:List Str} (h:f74 x0=some r):Fn prog 74 #[up0] gI wI (fun m w v=>RV m w r v):=by
 unfold f74 at h;refine fnE func74 rfl rfl fun g0 hm hfr=>?_;have rp0:=RVc hm rp0;show E _ 8 none _ _ _ _ _;refine Z7 (Zg (.slice none 0 0) rfl rfl (Z4 (Zf (Z7 (Zn up0 rfl rfl ?_)))));obtain ⟨a,c,hv,hc,hrow⟩:=Qn rp0;refine Zz (.bool a.isNone) (C5 underlying61 (show ev _ _=_ from hv)) rfl (Z4 ?_)
 cases a with
 | none=>
  have hx:x0=[]:=by
   cases x0 with
   | nil=>rfl
   | cons y ys=>obtain ⟨b,off,hb,_⟩:=hrow (by simp); cases hb
  subst hx
  have hr:r=[]:=by unfold apnd at h; split at h <;> simp at h; exact h
  subst hr;refine Tj rfl (Z7 (Zg (.slice none 0 0) rfl rfl (Z4 ?_)));exact Gd (Gq (Ta rfl rfl (rq (.slice none 0 0)) ⟨_,hfr,Qi⟩))
 | some a=>
  refine Gz rfl (Zu (Zd (Z7 (Z6 rfl (Gb (g:=g0) 1 (xs:=([]:List Str)) (vs:=[]) underlying61 sizeOf9 zeroValue9 rfl rfl .nil RVs.nil rfl rfl fun g1 w1 v1 hs o1 r1 hxt hfl=>?_)))));have hfr:=hfr.stp hs;have rp0:=rp0.stp hs;refine Zn up0 rfl rfl (Z6 rfl (Ql (g:=g1) (i:=1) underlying61 Xf rfl rfl o1 r1 rfl rp0 h fun g2 w2 v2 hs o2 r2 _=>?_));have hfr:=hfr.stp hs;refine Zg v2 rfl rfl (Z4 ?_);exact Gd (Ta rfl rfl (rq v2) ⟨_,hfr,r2⟩)
theorem Cn (a:Addr) (w:World):(Instr.fieldAt 146 (.pointer (some a)) 0).run prog w=.ok (.pointer (some (a.add 0))) w:=by simp [Instr.fieldAt,run_underlying underlying146,Instr.sureAddr,fieldPlace,Result.andThen]
theorem Xc (a:Addr) (w:World):(Instr.fieldAt 146 (.pointer (some a)) 1).run prog w=.ok (.pointer (some (a.add 1))) w:=by simp [Instr.fieldAt,run_underlying underlying146,Instr.sureAddr,fieldPlace,Result.andThen]
theorem I5:(prog.info? 146).map (·.size)=some 2:=by kernel_rfl
theorem Pf:∃ j,prog.info? 146=some j∧j.size=2:=Option.map_eq_some_iff.1 I5
theorem en131:Enters prog 131:=enters_of func131 (by kernel_rfl) rfl
theorem Sh {i:Nat} {g:Gh} {w:World} {x:Fv × List UInt8} {b o:Nat} (hb:OB i g w 146 x (.pointer (some ⟨b,o,none⟩))):o=0∧w.shape? b=some (146,2):=by
 obtain ⟨b',cs,hp,_,_,hh,hr⟩:=hb;injection hp with hp; injection hp with hp; injection hp with h1 h2;subst h1; subst h2;have hl:=GoT.len hr;simp [GoT.k] at hl;exact ⟨rfl,by simp [World.shape?,hh,hl]⟩
theorem wk131 {i j : Nat} (hji : Nat.beq j i = false) {g : Gh} {w : World} {a : Fv} {xs : List UInt8} {p : Value} (hb : OB i g w 146 (a, xs) p) (ho : OSF i j 1 g w 5 146 xs p) (ha : a.v = .pointer none ∨ a.v = p) :
  Calls prog 131 #[p] w fun r w'=>∃ v,r=.returned v∧∃ g',Stp i g w g' w'∧∃ a':Fv,a'.v=p∧OB i g' w' 146 (a',xs) p∧OSF i j 1 g' w' 5 146 xs p:=by
 obtain ⟨b,o,rfl⟩:=hb.ptr
 obtain ⟨hoff,hsh⟩:=Sh hb
 subst hoff
 obtain ⟨jt,hj,hjs⟩:=Pf
 refine Wd func131 rfl (Nat.le_of_ble_eq_true rfl) ?_
 show E _ 20 none _ _ _ _ _
 refine Z7 (Zn (.pointer (some ⟨b,0,none⟩)) rfl rfl (Zz (.pointer (some ⟨b,0,none⟩)) (Tk rfl) rfl (Zz (Ga (.pointer (some ⟨b,0,none⟩)) 0) (Zc Cn rfl ⟨b,0,rfl⟩) rfl (Z6 rfl (Wx (g:=g) (a:=(a,xs)) Sub.fst isAgg144 sizeOf144 rfl hb fun v r=>?_)))))
 obtain rfl:=Yr.1 r
 rcases ha with ha | ha
 ·refine Zz (.bool true) (V0 (u2 := .pointer none) (.inl rfl) (show _ = .pointer none from ha) rfl ⟨_, rfl⟩ ⟨_, rfl⟩ (fun w => by simpa using run_eql_pointer_nil (P := prog) w 144 none underlying144)) rfl (Z4 (Tj rfl (Za (Zn (.pointer (some ⟨b, 0, none⟩)) rfl rfl (Zn (.pointer (some ⟨b, 0, none⟩)) rfl rfl ?_)))))
  refine D8 (v:=.pointer (some ⟨b,0,none⟩)) (w':=w) .plain (fun _ h=>by cases h) rfl (by
   have:=Lib.run_to_unsafe w ⟨b,0,none⟩ underlying144 underlying232 hj (by rw [hjs]; decide) hsh (by show 0 < 2; omega)
   show (Sem.run _ (execOp _ _) _)=_
   simp only [execOp,Sem.run_bind]
   rw [show ev _ (Operand.tmp 8)=Value.pointer (some ⟨b,0,none⟩) from rfl,this]
   rfl) ?_
  refine Zz (.pointer (some ⟨b,0,none⟩)) (Pk func147 (by kernel_rfl) (by kernel_rfl) (by kernel_rfl) (ex:=Extern.AbiNoEscape.same) (by kernel_rfl) (.cons rfl .nil) (fun _=>rfl)) rfl ?_
  refine D8 (v:=.pointer (some ⟨b,0,none⟩)) (w':=w) .plain (fun _ h=>by cases h) rfl (by
   have:=Lib.run_from_unsafe w ⟨b,0,none⟩ underlying232 underlying144 hj hsh (by kernel_rfl)
   show (Sem.run _ (execOp _ _) _)=_
   simp only [execOp,Sem.run_bind]
   rw [show ev _ (Operand.tmp 10)=Value.pointer (some ⟨b,0,none⟩) from rfl,this]
   rfl) ?_
  refine Zz (.pointer (some ⟨b,0,none⟩)) (Tk rfl) rfl (Zz (Ga (.pointer (some ⟨b,0,none⟩)) 0) (Zc Cn rfl ⟨b,0,rfl⟩) rfl (Z6 rfl (Qg (g:=g) (a:=(a,xs)) (b:=(⟨.pointer (some ⟨b,0,none⟩),rfl⟩:Fv)) Gp.fst sizeOf144 rfl hb rfl (Yr.2 rfl) fun g1 w1 hs b1 rst _=>?_)))
  exact Zb (H9 rfl rfl ⟨g1,hs,_,rfl,b1,ho.rest hs rst rfl hji⟩)
 ·refine Zz (.bool false) (V0 (u2 := .pointer none) (.inl rfl) (show _ = .pointer (some ⟨b, 0, none⟩) from ha) rfl ⟨_, rfl⟩ ⟨_, rfl⟩ (fun w => by simpa using run_eql_pointer_nil (P := prog) w 144 (some ⟨b, 0, none⟩) underlying144)) rfl (Z4 (Gz rfl (Z7 (Zn (.pointer (some ⟨b, 0, none⟩)) rfl rfl (Zz (.pointer (some ⟨b, 0, none⟩)) (Tk rfl) rfl (Zz (Ga (.pointer (some ⟨b, 0, none⟩)) 0) (Zc Cn rfl ⟨b, 0, rfl⟩) rfl (Z6 rfl (Wx (g := g) (a := (a, xs)) Sub.fst isAgg144 sizeOf144 rfl hb fun v r => ?_))))))))
  obtain rfl:=Yr.1 r
  refine Zn (.pointer (some ⟨b,0,none⟩)) rfl rfl (Zz (.bool false) (V0 (.inr rfl) (show _=.pointer (some ⟨b,0,none⟩) from ha) rfl ⟨_,rfl⟩ ⟨_,rfl⟩ (fun w=>Lib.run_neq_ptr_same w ⟨b,0,none⟩ underlying144 hj)) rfl (Z4 (Gz rfl (Zu ?_))))
  exact H9 rfl rfl ⟨g,U8 _ _ _,_,ha,hb,ho⟩
theorem en97:Enters prog 97:=enters_of func97 (by kernel_rfl) rfl
theorem wk97 {i j : Nat} (hji : Nat.beq j i = false) (hij : Nat.beq i j = false) {g : Gh} {w : World} {c : UInt8} {xs r : List UInt8} {p : Value} (hsb : SB i j g w 5 146 xs p) (hr : apnd 1 xs [c] = some r) :
  Calls prog 97 #[p,.int .u8 c.toNat] w fun q w'=>∃ v,q=.returned v∧v=.nilIface∧WB i j g w 5 146 r p w':=by
 obtain ⟨a,hb,ho,ha⟩:=hsb
 obtain ⟨b,o,rfl⟩:=hb.ptr
 obtain ⟨hoff,hsh⟩:=Sh hb
 subst hoff
 refine Wd func97 rfl (Nat.le_of_ble_eq_true rfl) ?_
 show E _ 17 none _ _ _ _ _
 refine Z7 (Zg (.nilIface) rfl rfl (Z4 (Z7 (Zn (.pointer (some ⟨b,0,none⟩)) rfl rfl (Z6 rfl (Wg (vs:=[.pointer (some ⟨b,0,none⟩)]) en131 (.cons rfl .nil) (wk131 hji hb ho ha) fun v w1 h1=>?_))))))
 obtain ⟨g1,hs1,a1,ha1,hb1,ho1⟩:=h1
 refine Z4 (Z7 (Zn (.pointer (some ⟨b,0,none⟩)) rfl rfl (Zn (.pointer (some ⟨b,0,none⟩)) rfl rfl (Zz (.pointer (some ⟨b,0,none⟩)) (Tk rfl) rfl (Zz (Ga (.pointer (some ⟨b,0,none⟩)) 1) (Zc Xc rfl ⟨b,0,rfl⟩) rfl (Z6 rfl (Va (g:=g1) (a:=(a1,xs)) (f:=Prod.snd) Sub.snd isAgg50 sizeOf50 rfl hb1 ho1 fun v2 r2 o2=>(Zn (.int .u8 c.toNat) rfl rfl (Z6 rfl (Gb (g:=g1) 1 (xs:=[c]) (vs:=[.int .u8 c.toNat]) underlying50 sizeOf5 zeroValue5 rfl rfl (.cons rfl .nil) (RVs.cons (Qz.2 rfl) RVs.nil) rfl rfl fun g3 w3 v3 _ _ r3 hxt _=>(Z6 rfl (Ql (g:=g3) (i:=j) underlying50 Cr rfl rfl (o2.ext hxt) (r2.ext hxt) rfl r3 hr fun g4 w4 v4 hs4 o4 r4 _=>?_))))))))))))
 have hb4:=(hb1.ext hxt).stp hs4 hij
 refine Zz (.pointer (some ⟨b,0,none⟩)) (Tk rfl) rfl (Zz (Ga (.pointer (some ⟨b,0,none⟩)) 1) (Zc Xc rfl ⟨b,0,rfl⟩) rfl (Z6 rfl (Qg (g:=g4) (a:=(a1,xs)) Gp.snd sizeOf50 rfl hb4 rfl r4 fun g5 w5 hs5 b5 _ hos=>?_)))
 have o5:=hos _ _ j 5 r (W3 r4) hji o4
 refine Z4 (Z7 (Zg (.nilIface) rfl rfl (Z4 (Gd (Ta rfl rfl (rq .nilIface) ⟨rfl,g5,⟨g1,w1,g4,w4,hs1,(hxt.stp.trans hs4),hs5⟩,a1,b5,o5,.inr ha1⟩)))))
theorem en62:Enters prog 62:=enters_of func62 (by kernel_rfl) rfl
theorem Y7:prog.follows .mixedOrders=true:=by kernel_rfl
theorem wk62 {i j : Nat} (hij : Nat.beq i 0 = false) {g : Gh} {w : World} {xs : List UInt8} {p : Value} (hsb : SB i j g w 5 146 xs p) (h0 : xs ≠ []) :
  Calls prog 62 #[p] w fun q w'=>∃ v,q=.returned v∧GS j g w xs v w':=by
 obtain ⟨a,hb,ho,ha⟩:=hsb
 obtain ⟨b,o,rfl⟩:=hb.ptr
 obtain ⟨hoff,hsh⟩:=Sh hb
 subst hoff
 refine Wd func62 rfl (Nat.le_of_ble_eq_true rfl) ?_
 show E _ 14 none _ _ _ _ _
 refine Z7 (Zg (Str.v ⟨[]⟩) rfl rfl (Z4 (R3 (f:=Prod.snd) (a:=(a,xs)) Sub.snd isAgg50 sizeOf50 hb ho fun v r os hl=>?_)))
 obtain ⟨sa,c,rfl,hc,_⟩:=Qn r
 have hne:c ≠ 0:=by
  have : 0 < xs.length := by cases xs with
   | nil=>exact absurd rfl h0
   | cons _ _=>simp
  have hc':xs.length ≤ c:=hc
  omega
 refine Zf (Tz (g:=g) (n:=10) [] [0,1,2,3,4,5,6,7,8,9] rfl Y7 (by kernel_rfl) trivial (Z2 (.pointer (some ⟨b,0,none⟩)) rfl rfl (Zk rfl) (Z2 (.pointer (some ⟨b,0,none⟩)) rfl rfl (Tk rfl) (Z2 (Ga (.pointer (some ⟨b,0,none⟩)) 1) rfl rfl (Zc Xc rfl ⟨b,0,rfl⟩) (Tv (c:=.slice sa xs.length c) rfl rfl .plain (fun _ _ h=>⟨h.ch,fun b hb _=>h.below.block b hb⟩) (hl _) rfl (Z2 (.pointer sa) rfl rfl (Bs (a:=sa) (n:=xs.length) (c:=c) rfl (.inl hne)) (Z2 (.pointer (some ⟨b,0,none⟩)) rfl rfl (Zk rfl) (Z2 (.pointer (some ⟨b,0,none⟩)) rfl rfl (Tk rfl) (Z2 (Ga (.pointer (some ⟨b,0,none⟩)) 1) rfl rfl (Zc Xc rfl ⟨b,0,rfl⟩) (Tv (c:=.slice sa xs.length c) rfl rfl .plain (fun _ _ h=>⟨h.ch,fun b hb _=>h.below.block b hb⟩) (hl _) rfl (Z2 (Iz (xs.length:Int)) rfl rfl (Tr (v:=.slice sa xs.length c) underlying50 rfl r) (Jz fun g1 w1 hall=>?_))))))))))))
 have hs:=hall.1
 refine Z6 rfl (Rg (g:=g1) (j:=j) (et:=5) rfl underlying189 (by kernel_rfl) h0 rfl rfl (os.ext hs) (r.ext hs) fun g2 w2 hs2=>(Zg (Str.v ⟨xs⟩) rfl rfl ?_))
 exact Z4 (Gd (Ta rfl rfl (rq (Str.v ⟨xs⟩)) ⟨rfl,g2,hs.stp.trans hs2⟩))
def Ra:Str:=(⟨[0,1,2,2,3,3,3,3,4,4,4,4,4,4,4,4,5,5,5,5,5,5,5,5,5,5,5,5,5,5,5,5,6,6,6,6,6,6,6,6,6,6,6,6,6,6,6,6,6,6,6,6,6,6,6,6,6,6,6,6,6,6,6,6,7,7,7,7,7,7,7,7,7,7,7,7,7,7,7,7,7,7,7,7,7,7,7,7,7,7,7,7,7,7,7,7,7,7,7,7,7,7,7,7,7,7,7,7,7,7,7,7,7,7,7,7,7,7,7,7,7,7,7,7,7,7,7,7,8,8,8,8,8,8,8,8,8,8,8,8,8,8,8,8,8,8,8,8,8,8,8,8,8,8,8,8,8,8,8,8,8,8,8,8,8,8,8,8,8,8,8,8,8,8,8,8,8,8,8,8,8,8,8,8,8,8,8,8,8,8,8,8,8,8,8,8,8,8,8,8,8,8,8,8,8,8,8,8,8,8,8,8,8,8,8,8,8,8,8,8,8,8,8,8,8,8,8,8,8,8,8,8,8,8,8,8,8,8,8,8,8,8,8,8,8,8,8,8,8,8,8,8,8,8,8,8]⟩:Str)
def f120 (x:Int):Option Int:=if 0 ≤ x∧x < 256 then (idx Ra.b x).map fun c=>w64 (0 + (c.toNat:Int)) else none
def f79 (x:Int):Option Int:=f120 x
theorem en120:Enters prog 120:=enters_of func120 (by kernel_rfl) rfl
theorem en79:Enters prog 79:=enters_of func79 (by kernel_rfl) rfl
theorem wk120 {gI:Gh} {wI:World} {x0:Int} {r:Int} (h:f120 x0=some r):Fn prog 120 #[.int .u64 x0] gI wI (fun _ _ v=>v=Iz (r)):=by
 unfold f120 at h;split at h
 case isFalse=>cases h
 rename_i hx;obtain ⟨h0,h1⟩:=hx
 cases hc:idx Ra.b x0 with
 | none=>rw [hc] at h; cases h
 | some c=>
 rw [hc] at h;obtain rfl:=sinj h;refine fnE func120 rfl rfl fun g0 hm hfr=>?_;show E _ 25 none _ _ _ _ _;refine Z7 (Zg (Iz 0) rfl rfl (Z4 (Zf (Z7 (Zn (.int .u64 x0) rfl rfl (Zz (.bool false) (C8 rfl rfl (by omega)) rfl (Z4 (Gz rfl (Zu (Zd (Zf (Z7 (Zn (.int .u64 x0) rfl rfl (Zz (.bool false) (C8 rfl rfl (by omega)) rfl (Z4 (Gz rfl (Zu (Zd (Zf (Z7 (Zn (.int .u64 x0) rfl rfl (Zz (.bool false) (C8 rfl rfl (by omega)) rfl (Z4 (Gz rfl (Zu (Zd (Z7 (Zn (Iz 0) rfl rfl (Zn (.int .u64 x0) rfl rfl (Zz (.int .u8 x0) (P_u64u8 underlying211 underlying5 rfl h0 h1) rfl (Zz (.int .u8 c.toNat) (Jb (s:=Ra) underlying9 rfl rfl hc) rfl (Zz (Iz (c.toNat:Int)) (Ku underlying5 underlying2 rfl) rfl (Gf (Iz (w64 (0 + (c.toNat:Int)))) rfl rfl rfl rfl (Zg (Iz (w64 (0 + (c.toNat:Int)))) rfl rfl (Z4 ?_)))))))))))))))))))))))))))))))))));exact Gd (Ta rfl rfl (rq _) ⟨_,hfr,rfl⟩)
theorem wk79 {gI:Gh} {wI:World} {x0:Int} {r:Int} (h:f79 x0=some r):Fn prog 79 #[.int .u64 x0] gI wI (fun _ _ v=>v=Iz (r)):=by
 unfold f79 at h;refine fnE func79 rfl rfl fun g0 hm hfr=>?_;show E _ 8 none _ _ _ _ _;refine Z7 (Zg (Iz 0) rfl rfl (Z4 (Zf (Gz rfl (Zu (Zd (Z7 (Zn (.int .u64 x0) rfl rfl (Z6 rfl (Zp (g:=g0) (vs:=[.int .u64 x0]) en120 (.cons rfl .nil) (wk120 h) fun g1 w1 v1 hs hr=>?_))))))))));have hfr:=hfr.ext hs;subst hr;refine Zg (Iz r) rfl rfl (Z4 ?_);exact Gd (Ta rfl rfl (rq _) ⟨_,hfr,rfl⟩)
def f5 (x0:FaultLoom) (x1:Vector UInt8 3):Option (Zv):=
 (idx (x1).toList (0:Int)).bind fun y4=>
 (Cg y4 (5:UInt8)).bind fun y7=>
 Option.bind (α:=Zv) (
  bif (((((1 : UInt8) + y7)).toNat : Int) == (1 : Int)) then
   (idx (x1).toList (1:Int)).bind fun i6=>
   (Hd ((i6).toNat:Int) ((((x0).Design).Rows).length:Int)).bind fun y159=>
   (idx (x1).toList (2:Int)).bind fun g8=>
   (Hd ((g8).toNat:Int) ((x0).Design).Hooks).bind fun mB=>
   some ((⟨((((1:UInt8) + y7)).toNat:Int),y159,mB,0,false⟩:Zv))
  else
   bif (((((1 : UInt8) + y7)).toNat : Int) == (2 : Int)) then
    (idx (x1).toList (1:Int)).bind fun l8=>
    (Hd ((l8).toNat:Int) ((x0).Design).Hooks).bind fun nB=>
    (idx (x1).toList (2:Int)).bind fun oB=>
    (Cg oB (2:UInt8)).bind fun n8=>
    some ((⟨((((1:UInt8) + y7)).toNat:Int),0,nB,0,(n8 == (0:UInt8))⟩:Zv))
   else
    bif (((((1 : UInt8) + y7)).toNat : Int) == (5 : Int)) then
     (idx (x1).toList (1:Int)).bind fun vB=>
     (Hd ((vB).toNat:Int) ((((x0).Harness).Warps).length:Int)).bind fun yB=>
     some ((⟨((((1:UInt8) + y7)).toNat:Int),0,0,yB,false⟩:Zv))
    else
     (idx (x1).toList (1:Int)).bind fun zB=>
     (Hd ((zB).toNat:Int) ((((x0).Design).Rows).length:Int)).bind fun cC=>
     some ((⟨((((1:UInt8) + y7)).toNat:Int),cC,0,0,false⟩:Zv))
  ) fun t5=>
 some (t5)
theorem en5:Enters prog 5:=enters_of func5 (by kernel_rfl) rfl
theorem wk5 {gI:Gh} {wI:World} {x0:FaultLoom} {x1:Vector UInt8 3} {up0:Value} (rp0:RV gI.m wI x0 up0) {up1:Value} (rp1:RV gI.m wI x1 up1) {r:Zv} (h:f5 x0 x1=some r):Fn prog 5 #[up0,up1] gI wI (fun m w v=>RV m w (r) v):=by
 unfold f5 at h;refine fnE func5 rfl rfl fun g0 hm hfr=>?_;have rp0:=RVc hm rp0;have rp1:=RVc hm rp1;show E _ 68 none _ _ _ _ _;refine Z7 (Z6 rfl (Tq (g:=g0) rfl rp0 fun g1 w1 p1 hs q1=>?_));have hfr:=hfr.ext hs;have rp1:=rp1.ext hs;refine Z6 rfl (Tq (g:=g1) rfl rp1 fun g2 w2 p2 hs q2=>?_);have hfr:=hfr.ext hs;have q1:=q1.ext hs;refine Z6 rfl (Gw (g:=g2) 2004 (⟨0,0,0,0,false⟩:Zv) zeroValue34 (fun m w=>⟨_,(Gi Zx (Gi Zx (Gi Zx (Gi Zx Wv)))),rfl⟩) fun g3 w3 p3 hs b3 cb=>?_);have hfr:=hfr.stp hs;have q1:=q1.stp hs;have q2:=q2.stp hs;clear cb;refine Z4 (Zf ?_);obtain ⟨y4,vF,h⟩:=Z3 h;have q5:=Wy q2 vF;refine Zs (x:=.tmp 7) isAgg5 sizeOf5 q5 fun v6 r6 zH=>?_;obtain rfl:=Qz.1 r6;obtain ⟨y7,aI,h⟩:=Z3 h;have r8:RV g3.m w3 (⟨((((1:UInt8) + y7)).toNat:Int),0,0,0,false⟩:Zv) (.agg (G3 [[Iz 0],[Iz 0],[Iz 0],[Iz 0],[.bool false]] [(0,Iz (((((1:UInt8) + y7)).toNat:Int)))]).flatten.toArray):=G2 rfl (Gm (rfl) (Gm (Zx) (Gm (Zx) (Gm (Zx) (G6 (Wv))))));generalize bI:(Value.agg (G3 [[Iz 0],[Iz 0],[Iz 0],[Iz 0],[.bool false]] [(0,Iz (((((1:UInt8) + y7)).toNat:Int)))]).flatten.toArray)=v8 at r8;have q9:=Zm (G1).1 q1;have dI:=Zm (T4).1 q9;refine Zs (x:=.tmp 14) isAgg24 sizeOf24 dI fun iI jI aG=>(Ja (g:=g3) (n:=11) [6,7,8,9] [(10,(fun v g w=>OB 2005 g w 34 (⟨0,0,0,0,false⟩:Zv) v))] [0,1,2,3,4,5,6,7,8,9,10] rfl mixed (by kernel_rfl) (⟨fun _=>up_ob,trivial⟩) rfl (Z2 (Ga p2 (((0:Int):Int).toNat * 1)) rfl rfl (Tw (α:=UInt8) underlying23 sizeOf5 rfl (PT.ptr q2) rfl vF) (Tv (c:=.int .u8 (UInt8.toNat (y4))) rfl rfl .plain (fun _ _ h=>h.ch) zH rfl (Z2 (.int .u8 (UInt8.toNat (y7))) rfl rfl (Bg rfl rfl (D2 aI)) (Z2 (.int .u8 (UInt8.toNat (((1:UInt8) + y7)))) rfl rfl (Bg rfl rfl rfl) (Z2 (Iz (((((1:UInt8) + y7)).toNat:Int))) rfl rfl (Ku underlying5 underlying32 rfl) (Z2 v8 rfl rfl (bI ▸ Tf (vs:=[(0,Iz (((((1:UInt8) + y7)).toNat:Int)))]) [[Iz 0],[Iz 0],[Iz 0],[Iz 0],[.bool false]] Si rfl rfl (.cons rfl .nil) ⟨⟨_,rfl,rfl⟩,trivial⟩) (Wj (c:=Ga p1 2) rfl rfl .plain (Zc Wf rfl (PT.ptr q1)) (Wj (c:=Ga (Ga p1 2) 1) rfl rfl .plain (Zc Kb rfl (PT.ptr q9)) (Xt (c:=iI) rfl rfl .plain (fun _ _ h=>h.ch) rfl aG rfl (Wj (c:=Iz ((((x0).Design).Rows).length:Int)) rfl rfl .plain (Tr underlying24 rfl jI) (Ks (φ:=fun v g w=>OB 2005 g w 34 (⟨0,0,0,0,false⟩:Zv) v) rfl rfl .plain (fun g w hd=>Rc (g:=g) 2005 (⟨0,0,0,0,false⟩:Zv) zeroValue34 (fun m w=>⟨_,(Gi Zx (Gi Zx (Gi Zx (Gi Zx Wv)))),rfl⟩) fun g' w' v hs b=>⟨g',hs,b⟩) (fun o0 hv=>?_)))))))))))));clear hv;refine Jz fun xF kI hall=>?_;have hs:=hall.1;have hlt:Lt g3.m w3 xF kI:=hs.ch;have hfr:=hfr.ext hs;have q1:=q1.ext hs;have q2:=q2.ext hs;have b3:=b3.ext hs;have r8:=r8.ext hs;have b29:=(Ti (A:=fun g w=>OB 2005 g w 34 (⟨0,0,0,0,false⟩:Zv) o0) 10 rfl hall);clear hs hall;refine Yo hlt.w .plain rfl (Gk (g:=xF) (v:=v8) sizeOf34 rfl b29 rfl r8 fun l5 yF hs b30 cb=>?_);clear cb;have hfr:=hfr.stp hs;have hlt:=hlt.stp hs;have q1:=q1.stp hs;have q2:=q2.stp hs;have b3:=b3.stp hs rfl;refine Y6 hlt.w (v:=Iz ((((x0).Design).Rows).length:Int)) (Tx rfl) .plain rfl (Uo hlt.w ?_);clear hlt;refine Zd ?_;obtain ⟨t5,hx,h⟩:=Z3 h;refine Gs (fun e w=>∃ (g:Gh) ,Fr gI wI g w∧e 4=p3∧OB 2004 g w 34 ((⟨0,0,0,0,false⟩:Zv):Zv) p3∧e 5=o0∧OB 2005 g w 34 (t5:Zv) o0) (fun Q' hQ=>?_) (fun lI mI hR=>?_)
 ·replace h := hx
  clear hx;refine Z7 (Zz (Ga o0 0) (Zc Uw rfl (OB.ptr b30)) rfl (Z6 rfl (Wx (g:=l5) Q0.1 isAgg32 sizeOf32 rfl b30 fun nI bG=>?_)));obtain rfl:=Zj.1 bG;refine Z4 (Zr (Z7 (Zz (.bool ((((((1:UInt8) + y7)).toNat:Int) == (1:Int)))) (Gx rfl rfl rfl) rfl (Zz (.bool ((((((1:UInt8) + y7)).toNat:Int) == (1:Int)))) (Tx rfl) rfl (Z4 ?_)))));rcases Zt h with ⟨l9,h⟩ | ⟨l9,h⟩
  ·refine G5 l9 rfl ?_
   obtain ⟨i6,uC,h⟩:=Z3 h;have cG:=Wy q2 uC;refine Zs (x:=.tmp 27) isAgg5 sizeOf5 cG fun pI eG rE=>?_;obtain rfl:=Qz.1 eG;obtain ⟨y159,uE,h⟩:=Z3 h;obtain ⟨g8,vC,h⟩:=Z3 h;have gG:=Wy q2 vC;refine Zs (x:=.tmp 32) isAgg5 sizeOf5 gG fun qI iG vE=>?_;obtain rfl:=Qz.1 iG;have oD:=Zm (G1).1 q1;have jG:=Zm (Qb).1 oD;refine Zs (x:=.tmp 36) isAgg3 sizeOf3 jG fun sI kG xE=>?_;obtain rfl:=Zj.1 kG;obtain ⟨mB,yE,h⟩:=Z3 h;refine Ja (g:=l5) (n:=13) [5,6,7,8,9,10,11] [] [0,1,2,3,4,5,6,7,8,9,10,11,12] rfl mixed (by kernel_rfl) trivial rfl (Z2 (Ga p2 (((1:Int):Int).toNat * 1)) rfl rfl (Tw (α:=UInt8) underlying23 sizeOf5 rfl (PT.ptr q2) rfl uC) (Tv (c:=.int .u8 (UInt8.toNat (i6))) rfl rfl .plain (fun _ _ h=>h.ch) rE rfl (Z2 (Iz (((i6).toNat:Int))) rfl rfl (Ku underlying5 underlying3 rfl) (Z2 (Iz ((((x0).Design).Rows).length:Int)) rfl rfl (Zk rfl) (Z2 (Iz (y159)) rfl rfl (Gx rfl rfl (congrArg (Option.map (Value.int .i64)) uE)) (Wj (c:=Ga p2 (((2:Int):Int).toNat * 1)) rfl rfl .plain (Tw (α:=UInt8) underlying23 sizeOf5 rfl (PT.ptr q2) rfl vC) (Xt (c:=.int .u8 (UInt8.toNat (g8))) rfl rfl .plain (fun _ _ h=>h.ch) rfl vE rfl (Wj (c:=Iz (((g8).toNat:Int))) rfl rfl .plain (Ku underlying5 underlying3 rfl) (Wj (c:=Ga p1 2) rfl rfl .plain (Zc Wf rfl (PT.ptr q1)) (Wj (c:=Ga (Ga p1 2) 0) rfl rfl .plain (Zc Ki rfl (PT.ptr oD)) (Xt (c:=Iz (((x0).Design).Hooks)) rfl rfl .plain (fun _ _ h=>h.ch) rfl xE rfl (Wj (c:=Iz (mB)) rfl rfl .plain (Gx rfl rfl (congrArg (Option.map (Value.int .i64)) yE)) (Z2 (Ga o0 1) rfl rfl (Zc Hc rfl (OB.ptr b30)) (Ho fun yD lG hs=>?_))))))))))))));have hlt:Lt l5.m yF yD lG:=hs.ch;have hfr:=hfr.ext hs;have b3:=b3.ext hs;have b30:=b30.ext hs;clear hs;refine Yo hlt.w .plain rfl (Qg (g:=yD) Tl sizeOf3 rfl b30 rfl (Zj.2 rfl) fun mG jJ hs b203 rst hos=>?_);clear rst hos;have hfr:=hfr.stp hs;have hlt:=hlt.stp hs;have b3:=b3.stp hs rfl;refine Y6 hlt.w (v:=Ga o0 2) (Zc Jc rfl (OB.ptr b203)) .plain rfl (Yo hlt.w .plain rfl (Qg (g:=mG) T8 sizeOf3 rfl b203 rfl (Zj.2 rfl) fun sG kJ hs b205 rst hos=>?_));clear rst hos;have hfr:=hfr.stp hs;have hlt:=hlt.stp hs;have b3:=b3.stp hs rfl;refine Uo hlt.w ?_;clear hlt;refine Tc ?_;obtain rfl:=sinj h;exact hQ _ _ ⟨sG,hfr,rfl,b3,rfl,b205⟩
  ·refine G8 l9 rfl (Z7 (Zz (.bool ((((((1 : UInt8) + y7)).toNat : Int) == (2 : Int)))) (Gx rfl rfl rfl) rfl (Zz (.bool ((((((1 : UInt8) + y7)).toNat : Int) == (2 : Int)))) (Tx rfl) rfl (Z4 ?_))))
   rcases Zt h with ⟨n9,h⟩ | ⟨n9,h⟩
   ·refine G5 n9 rfl ?_
    obtain ⟨l8,bD,h⟩:=Z3 h;have xG:=Wy q2 bD;refine Zs (x:=.tmp 43) isAgg5 sizeOf5 xG fun lJ yG zE=>?_;obtain rfl:=Qz.1 yG;have zD:=Zm (G1).1 q1;have zG:=Zm (Qb).1 zD;refine Zs (x:=.tmp 47) isAgg3 sizeOf3 zG fun mJ aH cF=>?_;obtain rfl:=Zj.1 aH;obtain ⟨nB,dF,h⟩:=Z3 h;obtain ⟨oB,cD,h⟩:=Z3 h;have cH:=Wy q2 cD;refine Zs (x:=.tmp 50) isAgg5 sizeOf5 cH fun nJ gH eF=>?_;obtain rfl:=Qz.1 gH;obtain ⟨n8,rF,h⟩:=Z3 h;refine Ja (g:=l5) (n:=12) [7,8,9,10] [] [0,1,2,3,4,5,6,7,8,9,10,11] rfl mixed (by kernel_rfl) trivial rfl (Z2 (Ga p2 (((1:Int):Int).toNat * 1)) rfl rfl (Tw (α:=UInt8) underlying23 sizeOf5 rfl (PT.ptr q2) rfl bD) (Tv (c:=.int .u8 (UInt8.toNat (l8))) rfl rfl .plain (fun _ _ h=>h.ch) zE rfl (Z2 (Iz (((l8).toNat:Int))) rfl rfl (Ku underlying5 underlying3 rfl) (Z2 (Ga p1 2) rfl rfl (Zc Wf rfl (PT.ptr q1)) (Z2 (Ga (Ga p1 2) 0) rfl rfl (Zc Ki rfl (PT.ptr zD)) (Tv (c:=Iz (((x0).Design).Hooks)) rfl rfl .plain (fun _ _ h=>h.ch) cF rfl (Z2 (Iz (nB)) rfl rfl (Gx rfl rfl (congrArg (Option.map (Value.int .i64)) dF)) (Wj (c:=Ga p2 (((2:Int):Int).toNat * 1)) rfl rfl .plain (Tw (α:=UInt8) underlying23 sizeOf5 rfl (PT.ptr q2) rfl cD) (Xt (c:=.int .u8 (UInt8.toNat (oB))) rfl rfl .plain (fun _ _ h=>h.ch) rfl eF rfl (Wj (c:=.int .u8 (UInt8.toNat (n8))) rfl rfl .plain (Bg rfl rfl (D2 rF)) (Wj (c:=.bool ((n8 == (0:UInt8)))) rfl rfl .plain (Bg rfl rfl rfl) (Z2 (Ga o0 2) rfl rfl (Zc Jc rfl (OB.ptr b30)) (Ho fun aE jH hs=>?_)))))))))))));have hlt:Lt l5.m yF aE jH:=hs.ch;have hfr:=hfr.ext hs;have b3:=b3.ext hs;have b30:=b30.ext hs;clear hs;refine Yo hlt.w .plain rfl (Qg (g:=aE) T8 sizeOf3 rfl b30 rfl (Zj.2 rfl) fun kH oJ hs b255 rst hos=>?_);clear rst hos;have hfr:=hfr.stp hs;have hlt:=hlt.stp hs;have b3:=b3.stp hs rfl;refine Y6 hlt.w (v:=Ga o0 4) (Zc Sa rfl (OB.ptr b255)) .plain rfl (Yo hlt.w .plain rfl (Qg (g:=kH) Ky sizeOf4 rfl b255 rfl (Qm.2 rfl) fun lH pJ hs b257 rst hos=>?_));clear rst hos;have hfr:=hfr.stp hs;have hlt:=hlt.stp hs;have b3:=b3.stp hs rfl;refine Uo hlt.w ?_;clear hlt;refine Tc ?_;obtain rfl:=sinj h;exact hQ _ _ ⟨lH,hfr,rfl,b3,rfl,b257⟩
   ·refine G8 n9 rfl (Z7 (Zz (.bool ((((((1 : UInt8) + y7)).toNat : Int) == (5 : Int)))) (Gx rfl rfl rfl) rfl (Zz (.bool ((((((1 : UInt8) + y7)).toNat : Int) == (5 : Int)))) (Tx rfl) rfl (Z4 ?_))))
    rcases Zt h with ⟨aB,h⟩ | ⟨aB,h⟩
    ·refine G5 aB rfl (Za ?_)
     obtain ⟨vB,lD,h⟩:=Z3 h;refine Zz (Ga p2 (((1:Int):Int).toNat * 1)) (Tw (α:=UInt8) underlying23 sizeOf5 rfl (PT.ptr q2) rfl lD) rfl ?_;have mH:=Wy q2 lD;refine Z6 rfl (Z9 (g:=l5) isAgg5 sizeOf5 rfl mH fun qJ nH=>?_);obtain rfl:=Qz.1 nH;refine Zz (Iz (((vB).toNat:Int))) (Ku underlying5 underlying3 rfl) rfl (Zz (Ga p1 0) (Zc Kj rfl (PT.ptr q1)) rfl ?_);have bE:=Zm (Tn).1 q1;refine Zz (Ga (Ga p1 0) 1) (Zc Kw rfl (PT.ptr bE)) rfl ?_;have oH:=Zm (Tm).1 bE;refine Z6 rfl (Z9 (g:=l5) isAgg24 sizeOf24 rfl oH fun rJ pH=>(Zz (Iz ((((x0).Harness).Warps).length:Int)) (Tr underlying24 rfl pH) rfl ?_));obtain ⟨yB,sF,h⟩:=Z3 h;refine Zz (Iz (yB)) (Gx rfl rfl (congrArg (Option.map (Value.int .i64)) sF)) rfl (Zz (Ga o0 3) (Zc Dc rfl (OB.ptr b30)) rfl (Z6 rfl (Qg (g:=l5) Ws sizeOf3 rfl b30 rfl (Zj.2 rfl) fun qH sJ hs b267 rst hos=>?_)));clear rst hos;have hfr:=hfr.stp hs;have b3:=b3.stp hs rfl;refine Zb (Tc ?_);obtain rfl:=sinj h;exact hQ _ _ ⟨qH,hfr,rfl,b3,rfl,b267⟩
    ·refine G8 aB rfl (Za ?_)
     obtain ⟨zB,nD,h⟩:=Z3 h;refine Zz (Ga p2 (((1:Int):Int).toNat * 1)) (Tw (α:=UInt8) underlying23 sizeOf5 rfl (PT.ptr q2) rfl nD) rfl ?_;have sH:=Wy q2 nD;refine Z6 rfl (Z9 (g:=l5) isAgg5 sizeOf5 rfl sH fun vJ tH=>?_);obtain rfl:=Qz.1 tH;refine Zz (Iz (((zB).toNat:Int))) (Ku underlying5 underlying3 rfl) rfl (Zn (Iz ((((x0).Design).Rows).length:Int)) rfl rfl ?_);obtain ⟨cC,tF,h⟩:=Z3 h;refine Zz (Iz (cC)) (Gx rfl rfl (congrArg (Option.map (Value.int .i64)) tF)) rfl (Zz (Ga o0 1) (Zc Hc rfl (OB.ptr b30)) rfl (Z6 rfl (Qg (g:=l5) Tl sizeOf3 rfl b30 rfl (Zj.2 rfl) fun uH xJ hs b273 rst hos=>?_)));clear rst hos;have hfr:=hfr.stp hs;have b3:=b3.stp hs rfl;refine Zb (Tc ?_);obtain rfl:=sinj h;exact hQ _ _ ⟨uH,hfr,rfl,b3,rfl,b273⟩
 ·clear hx
  obtain ⟨iE,hfr,lB,lE,mE,oE⟩:=hR;refine Z7 (Z6 rfl (T3 (g:=iE) isAgg34 sizeOf34 mE oE fun xH yH=>(Z6 rfl (Gk (g:=iE) (v:=xH) sizeOf34 lB lE rfl yH fun zJ aK hs b276 cb=>?_))));clear cb;have hfr:=hfr.stp hs;refine Z4 (Gd ?_);obtain rfl:=sinj h;obtain ⟨ad277,cv277,hp277,uF,cr277⟩:=T6 isAgg34 sizeOf34 b276;exact Uu rfl rfl ((show _=p3 from lB).trans hp277) uF ⟨_,hfr,cr277⟩
def f14 (x0:UInt8) (x1:List UInt16):Option (Design):=
 (Hd ((x0).toNat:Int) (7:Int)).bind fun y2=>
 Option.bind (α:=Design) (
  lp (σ:=Design × Int) (fun eF (l5,o0)=>
   jn (σ:=Unit) (fun _=>
    Option.bind (α:=Design) (
     Option.bind (α:=Int) (
      bif (decide (o0 < ((x1).length : Int))) then
       (idx x1 o0).bind fun zD=>
       (Hb (1:Int) ((Qa (l5).Hooks))).bind fun xE=>
       (Hd ((zD).toNat:Int) xE).bind fun aE=>
       some (aE)
      else
       some ((1:Int))
      ) fun lB=>
     (apnd 8 ((l5).Rows) (([lB]:List Int))).bind fun yE=>
     some ({ l5 with Rows:=yE })
     ) fun mB=>
    eF (mB,(w64 (o0 + (1:Int))))
    ) fun rF=>
   Option.bind (α:=Bool) (
    bif (o0 == (0 : Int)) then
     some (true)
    else
     bif (decide (o0 < ((x1).length : Int))) then
      some ((decide (o0 < (12:Int))))
     else
      some (false)
    ) fun v8=>
   bif v8 then
    rF ()
   else
    some (l5)
   ) big ((⟨(w64 ((2:Int) + y2)),[]⟩:Design),(0:Int))
  ) fun nB=>
 some (nB)
theorem en14:Enters prog 14:=enters_of func14 (by kernel_rfl) rfl
theorem wk14 {gI:Gh} {wI:World} {x0:UInt8} {x1:List UInt16} {up1:Value} (rp1:RV gI.m wI x1 up1) {r:Design} (h:f14 x0 x1=some r):Fn prog 14 #[.int .u8 (UInt8.toNat (x0)),up1] gI wI (fun m w v=>RV m w (r) v):=by
 unfold f14 at h;refine fnE func14 rfl rfl fun g0 hm hfr=>?_;have rp1:=RVc hm rp1;show E _ 48 none _ _ _ _ _;refine Z7 (Z6 rfl (Gw (g:=g0) 2004 (⟨0,[]⟩:Design) zeroValue28 (fun m w=>⟨_,(Gi Zx Tt),rfl⟩) fun g1 w1 p1 hs b1 cb=>?_));have hfr:=hfr.stp hs;have rp1:=rp1.stp hs;have uC:OSF 2004 60401 1 g1 w1 3 28 ([]:List Int) p1:=cb.osf (by rfl);clear cb;refine Z4 (Z7 (Zn (.int .u8 (UInt8.toNat (x0))) rfl rfl (Zz (Iz (((x0).toNat:Int))) (Ku underlying5 underlying3 rfl) rfl ?_)));obtain ⟨y2,hy2,h⟩:=Z3 h;refine Zz (Iz (y2)) (Gx rfl rfl (congrArg (Option.map (Value.int .i64)) hy2)) rfl (Gf (Iz ((w64 ((2:Int) + y2)))) rfl rfl rfl rfl ?_);have r3:RV g1.m w1 (⟨(w64 ((2:Int) + y2)),[]⟩:Design) (.agg (G3 [[Iz 0],[.slice none 0 0]] [(0,Iz ((w64 ((2:Int) + y2))))]).flatten.toArray):=G2 rfl (Gm (rfl) (G6 (Tt)));generalize hv3:(Value.agg (G3 [[Iz 0],[.slice none 0 0]] [(0,Iz ((w64 ((2:Int) + y2))))]).flatten.toArray)=v3 at r3;refine Zz v3 (hv3 ▸ Tf (vs:=[(0,Iz ((w64 ((2:Int) + y2))))]) [[Iz 0],[.slice none 0 0]] Af rfl rfl (.cons rfl .nil) ⟨⟨_,rfl,rfl⟩,trivial⟩) rfl (Z6 rfl (Gw (g:=g1) 2005 (⟨0,[]⟩:Design) zeroValue28 (fun m w=>⟨_,(Gi Zx Tt),rfl⟩) fun g4 w4 p4 hs b4 cb=>?_));have hfr:=hfr.stp hs;have rp1:=rp1.stp hs;have uC:=uC.stp hs rfl;have b1:=b1.stp hs rfl;have r3:=r3.stp hs;have jJ:OSF 2005 60501 1 g4 w4 3 28 ([]:List Int) p4:=cb.osf (by rfl);clear cb;refine Z6 rfl (Gk (g:=g4) (v:=v3) sizeOf28 rfl b4 rfl r3 fun g5 w5 hs b5 cb=>?_);have sH:OSF 2005 60501 1 g5 w5 3 28 ([]:List Int) p4:=cb.osf (by rw [← hv3]; rfl);clear cb;have hfr:=hfr.stp hs;have rp1:=rp1.stp hs;have uC:=uC.stp hs rfl;have b1:=b1.stp hs rfl;refine Z4 ?_;obtain ⟨nB,hx,h⟩:=Z3 h;refine Gs (fun e w=>∃ (g:Gh) ,Fr gI wI g w∧e 4=p1∧OB 2004 g w 28 ((⟨0,[]⟩:Design):Design) p1∧OSF 2004 60401 1 g w 3 28 (((⟨0,[]⟩:Design)).Rows) p1∧e 5=p4∧OB 2005 g w 28 (nB:Design) p4∧OSF 2005 60501 1 g w 3 28 ((nB).Rows) p4) (fun Q' hQ=>?_) (fun lI kJ hR=>?_)
 ·replace h := hx
  clear hx;refine Z7 (Zg (Iz (0)) rfl rfl (Z4 (Zr (Wo h (fun (s:Design × Int) e w=>∃ (g:Gh) ,Fr gI wI g w∧e 1=up1∧RV g.m w (x1:List UInt16) up1∧e 4=p1∧OB 2004 g w 28 ((⟨0,[]⟩:Design):Design) p1∧OSF 2004 60401 1 g w 3 28 (((⟨0,[]⟩:Design)).Rows) p1∧e 5=p4∧OB 2005 g w 28 (s.1:Design) p4∧OSF 2005 60501 1 g w 3 28 ((s.1).Rows) p4∧e 6=Iz (s.2)) ⟨g5,hfr,rfl,rp1,rfl,b1,uC,rfl,b5,sH,rfl⟩ (fun X152 eF jH=>?_)))));rintro ⟨l5,o0⟩ mI lJ ⟨zE,hfr,oB,vB,vC,bD,u4_1_153,cD,lD,u5_1_153,l9⟩ h;refine Zq h (fun (s:Unit) e w=>∃ (g:Gh) ,Fr gI wI g w∧e 1=up1∧RV g.m w (x1:List UInt16) up1∧e 4=p1∧OB 2004 g w 28 ((⟨0,[]⟩:Design):Design) p1∧OSF 2004 60401 1 g w 3 28 (((⟨0,[]⟩:Design)).Rows) p1∧e 5=p4∧OB 2005 g w 28 (l5:Design) p4∧OSF 2005 60501 1 g w 3 28 ((l5).Rows) p4∧e 6=Iz (o0)) (fun X160 rF kH h=>?_) ?_
  ·obtain ⟨v8, hx, h⟩ := Z3 h
   refine Gs (fun e w=>∃ (g:Gh) ,Fr gI wI g w∧e 1=up1∧RV g.m w (x1:List UInt16) up1∧e 4=p1∧OB 2004 g w 28 ((⟨0,[]⟩:Design):Design) p1∧OSF 2004 60401 1 g w 3 28 (((⟨0,[]⟩:Design)).Rows) p1∧e 5=p4∧OB 2005 g w 28 (l5:Design) p4∧OSF 2005 60501 1 g w 3 28 ((l5).Rows) p4∧e 6=Iz (o0)∧e 24=.bool (v8)) (fun Q' hQ=>?_) (fun nI mJ hR=>?_)
   ·replace h := hx
    clear hx;refine Za (Zo l9 rfl (Gf (.bool ((o0 == (0:Int)))) rfl rfl rfl rfl (Zn (.bool ((o0 == (0:Int)))) rfl rfl ?_)));rcases Zt h with ⟨t5,h⟩ | ⟨t5,h⟩
    ·refine Z1 rfl rfl t5 rfl rfl ?_
     iterate 4 refine Z1 rfl rfl t5 rfl rfl ?_
     refine B4 (.off rfl rfl) rfl (B4 (.off rfl rfl) rfl (Z1 rfl rfl t5 rfl rfl (Zz (.bool true) (Zl (b:=(o0 == (0:Int))) rfl (Te t5 rfl)) rfl (Zb ?_))));obtain rfl:=sinj h;exact hQ _ _ ⟨zE,hfr,oB,vB,vC,bD,u4_1_153,cD,lD,u5_1_153,l9,rfl⟩
    ·refine Z0 (Iz (o0)) (Zk l9) rfl rfl t5 rfl (Z0 up1 (Zk oB) rfl rfl t5 rfl (Z0 (Iz ((x1).length : Int)) (Tr underlying22 rfl vB) rfl rfl t5 rfl (Z0 (.bool ((decide (o0 < ((x1).length : Int))))) (Gx rfl rfl rfl) rfl rfl t5 rfl (Z0 (.bool ((decide (o0 < ((x1).length : Int))))) (Zk rfl) rfl rfl t5 rfl ?_))))
     rcases Zt h with ⟨aB,h⟩ | ⟨aB,h⟩
     ·refine Z0 (Iz (o0)) (Zk l9) rfl rfl aB rfl (Z0 (.bool ((decide (o0 < (12 : Int))))) (Gx rfl rfl rfl) rfl rfl aB rfl (Z0 (.bool ((decide (o0 < (12 : Int))))) (Zl (b := (decide (o0 < ((x1).length : Int)))) rfl (Te aB rfl)) rfl rfl t5 rfl (Zz (.bool ((decide (o0 < (12 : Int))))) (Zl (b := (o0 == (0 : Int))) rfl (Td t5 rfl)) rfl (Zb ?_))))
      obtain rfl:=sinj h;exact hQ _ _ ⟨zE,hfr,oB,vB,vC,bD,u4_1_153,cD,lD,u5_1_153,l9,rfl⟩
     ·refine Z1 rfl rfl aB rfl rfl (Z1 rfl rfl aB rfl rfl (Z0 (.bool false) (Zl (b := (decide (o0 < ((x1).length : Int)))) rfl (Td aB rfl)) rfl rfl t5 rfl (Zz (.bool false) (Zl (b := (o0 == (0 : Int))) rfl (Td t5 rfl)) rfl (Zb ?_))))
      obtain rfl:=sinj h;exact hQ _ _ ⟨zE,hfr,oB,vB,vC,bD,u4_1_153,cD,lD,u5_1_153,l9,rfl⟩
   ·clear hx
    obtain ⟨sF,hfr,tF,uF,lE,mE,u4_1_165,oE,rE,u5_1_165,vF,yD⟩:=hR;rcases Zt h with ⟨bE,h⟩ | ⟨bE,h⟩
    ·refine Tj (Eq.trans (show ev _ _ = .bool (v8) from yD) (congrArg Value.bool bE)) ?_
     exact Zu (Zd (kH () _ _ ⟨sF,hfr,tF,uF,lE,mE,u4_1_165,oE,rE,u5_1_165,vF⟩ h))
    ·refine Gz (Eq.trans (show ev _ _ = .bool (v8) from yD) (congrArg Value.bool bE)) (Tu (Gy (Gy (G9 ?_))))
     obtain rfl:=sinj h;exact hQ _ _ ⟨sF,hfr,lE,mE,u4_1_165,oE,rE,u5_1_165⟩
  ·rintro _ pI nJ ⟨xF, hfr, yB, g8, uE, zB, u4_1_167, nD, n9, u5_1_167, cC⟩ h
   obtain ⟨mB,hx,h⟩:=Z3 h;refine Gs (fun e w=>∃ (g:Gh) ,Fr gI wI g w∧e 1=up1∧RV g.m w (x1:List UInt16) up1∧e 4=p1∧OB 2004 g w 28 ((⟨0,[]⟩:Design):Design) p1∧OSF 2004 60401 1 g w 3 28 (((⟨0,[]⟩:Design)).Rows) p1∧e 5=p4∧OB 2005 g w 28 (mB:Design) p4∧OSF 2005 60501 1 g w 3 28 ((mB).Rows) p4∧e 6=Iz (o0)) (fun Q' hQ=>?_) (fun qI oJ hR=>?_)
   ·replace h := hx
    clear hx;refine Zr (Z7 (Zg (Iz (1)) rfl rfl (Z4 ?_)));obtain ⟨lB,hx,h⟩:=Z3 h;refine Gs (fun e w=>∃ (g:Gh) ,Fr gI wI g w∧e 1=up1∧RV g.m w (x1:List UInt16) up1∧e 4=p1∧OB 2004 g w 28 ((⟨0,[]⟩:Design):Design) p1∧OSF 2004 60401 1 g w 3 28 (((⟨0,[]⟩:Design)).Rows) p1∧e 5=p4∧OB 2005 g w 28 (l5:Design) p4∧OSF 2005 60501 1 g w 3 28 ((l5).Rows) p4∧e 6=Iz (o0)∧e 7=Iz (lB)) (fun Q' hQ=>?_) (fun sI pJ hR=>?_)
    ·replace h := hx
     clear hx;refine Z7 (Zo cC rfl (Zo yB rfl (Zz (Iz ((x1).length:Int)) (Tr underlying22 rfl g8) rfl (Gf (.bool ((decide (o0 < ((x1).length:Int))))) rfl rfl rfl rfl (Z4 ?_)))));rcases Zt h with ⟨iE,h⟩ | ⟨iE,h⟩
     ·refine G5 iE rfl ?_
      obtain ⟨zD,dF,h⟩:=Z3 h;have tH:=Tp g8 dF;refine Zs (x:=.tmp 33) isAgg103 sizeOf103 tH fun qJ uH lH=>?_;obtain rfl:=RV_u16.1 uH;refine Sc (x:=.tmp 36) Qb.1 isAgg3 sizeOf3 n9 fun rJ xH mH=>?_;obtain rfl:=Zj.1 xH;obtain ⟨xE,nH,h⟩:=Z3 h;obtain ⟨aE,oH,h⟩:=Z3 h;refine Tz (g:=xF) (n:=11) [] [0,1,2,3,4,5,6,7,8,9,10] rfl mixed (by kernel_rfl) trivial (Z2 up1 rfl rfl (Zk yB) (Z2 (Iz (o0)) rfl rfl (Zk cC) (Z2 (Tb up1 o0 1) rfl rfl (Zh (α:=UInt16) underlying22 sizeOf103 rfl g8 rfl dF) (Tv (c:=.int .u16 (UInt16.toNat (zD))) rfl rfl .plain (fun _ _ h=>h.ch) lH rfl (Z2 (Iz (((zD).toNat:Int))) rfl rfl (Nx underlying103 underlying3 rfl) (Z2 (Ga p4 0) rfl rfl (Zc Ki nD (OB.ptr n9)) (Tv (c:=Iz ((l5).Hooks)) rfl rfl .plain (fun _ _ h=>⟨h.ch,fun b hb _=>h.below.block b hb⟩) mH rfl (Z2 (.int .u64 (Qa (l5).Hooks)) rfl rfl (Yb underlying3 underlying49 rfl) (Z2 (Iz (xE)) rfl rfl (Fh rfl rfl nH) (Z2 (Iz (aE)) rfl rfl (Gx rfl rfl (congrArg (Option.map (Value.int .i64)) oH)) (Z2 (Iz (aE)) rfl rfl (Tx rfl) (Ho fun yH sJ hs=>?_))))))))))));have hfr:=hfr.ext hs;have g8:=g8.ext hs;have u4_1_167:=u4_1_167.ext hs;have zB:=zB.ext hs;have u5_1_167:=u5_1_167.ext hs;have n9:=n9.ext hs;clear hs;refine Zb ?_;obtain rfl:=sinj h;exact hQ _ _ ⟨yH,hfr,yB,g8,uE,zB,u4_1_167,nD,n9,u5_1_167,cC,rfl⟩
     ·refine G8 iE rfl (Zu ?_)
      obtain rfl:=sinj h;exact hQ _ _ ⟨xF,hfr,yB,g8,uE,zB,u4_1_167,nD,n9,u5_1_167,cC,rfl⟩
    ·clear hx
     obtain ⟨yF,hfr,aG,l8,bG,n8,u4_1_288,oD,i6,u5_1_288,cG,eG⟩:=hR;refine Za (Zz (Ga p4 1) (Zc Kb oD (OB.ptr i6)) rfl (Z6 rfl (Va (g:=yF) T4.1 isAgg24 sizeOf24 rfl i6 u5_1_288 fun vJ cF o290=>(Zo eG rfl (Z6 rfl (Gb (g:=yF) 3044 (xs:=([lB]:List Int)) (vs:=[Iz (lB)]) underlying24 sizeOf3 zeroValue3 rfl rfl (.cons rfl .nil) (RVs.cons (Zj.2 rfl) RVs.nil) rfl rfl fun zH xJ zJ hs o291 aI hxt hfl=>?_))))));have hfr:=hfr.stp hs;have l8:=l8.stp hs;have u4_1_288:=u4_1_288.stp hs rfl;have n8:=n8.stp hs rfl;have i6:=i6.stp hs rfl;have cF:=cF.stp hs;have o290:=o290.stp hs rfl;obtain ⟨yE,pH,h⟩:=Z3 h;refine Z6 rfl (Ql (g:=zH) (i:=60501) underlying24 Yn rfl rfl o290 cF rfl aI pH fun bI aK bK hs o292 gG _=>?_);have hfr:=hfr.stp hs;have l8:=l8.stp hs;have u4_1_288:=u4_1_288.stp hs rfl;have n8:=n8.stp hs rfl;have i6:=i6.stp hs rfl;refine Zz (Ga p4 1) (Zc Kb oD (OB.ptr i6)) rfl (Z6 rfl (Qg (g:=bI) T4 sizeOf24 rfl i6 rfl gG fun dI cK hs b295 rst hos=>?_));have iG:=hos _ _ 60501 3 (yE:List Int) (W3 gG) rfl o292;clear rst hos;have hfr:=hfr.stp hs;have l8:=l8.stp hs;have u4_1_288:=u4_1_288.stp hs rfl;have n8:=n8.stp hs rfl;refine Zb (Tc ?_);obtain rfl:=sinj h;exact hQ _ _ ⟨dI,hfr,aG,l8,bG,n8,u4_1_288,oD,b295,iG,cG⟩
   ·clear hx
    obtain ⟨iI,hfr,jG,kG,lG,mG,u4_1_296,sG,xG,u5_1_296,yG⟩:=hR;refine Za (Zo yG rfl (Gf (Iz ((w64 (o0 + (1:Int))))) rfl rfl rfl rfl (Zg (Iz ((w64 (o0 + (1:Int))))) rfl rfl ?_)));exact Z4 (jH (mB,(w64 (o0 + (1:Int)))) _ _ ⟨iI,hfr,jG,kG,lG,mG,u4_1_296,sG,xG,u5_1_296,rfl⟩ h)
 ·clear hx
  obtain ⟨zG,hfr,vE,aH,u4_1_297,cH,gH,u5_1_297⟩:=hR;refine Z7 (Z6 rfl (T3 (g:=zG) isAgg28 sizeOf28 cH gH fun jI kI=>(Z6 rfl (Gk (g:=zG) (v:=jI) sizeOf28 vE aH rfl kI fun dK lK hs b299 cb=>?_))));clear cb;have hfr:=hfr.stp hs;refine Z4 (Gd ?_);obtain rfl:=sinj h;obtain ⟨ad300,cv300,hp300,qH,cr300⟩:=T6 isAgg28 sizeOf28 b299;exact Uu rfl rfl ((show _=p1 from vE).trans hp300) qH ⟨_,hfr,cr300⟩
def f15 (x0:List Int):Option ((List Int)):=
 (apnd 8 (([]:List Int)) x0).bind fun y3=>
 some (y3)
theorem en15:Enters prog 15:=enters_of func15 (by kernel_rfl) rfl
theorem wk15 {gI:Gh} {wI:World} {x0:List Int} {up0:Value} (rp0:RV gI.m wI x0 up0) {r:(List Int)} (h:f15 x0=some r):Fn prog 15 #[up0] gI wI (fun m w v=>RV m w (r) v):=by
 unfold f15 at h;refine fnE func15 rfl rfl fun g0 hm hfr=>?_;have rp0:=RVc hm rp0;show E _ 6 none _ _ _ _ _;refine Z7 (Zg (.slice none 0 0) rfl rfl (Z4 (Z7 (Z6 rfl (Gb (g:=g0) 3003 (xs:=([]:List Int)) (vs:=[]) underlying24 sizeOf3 zeroValue3 rfl rfl .nil RVs.nil rfl rfl fun g1 w1 v1 hs o1 r1 hxt hfl=>?_)))));have hfr:=hfr.stp hs;have rp0:=rp0.stp hs;refine Zn up0 rfl rfl ?_;obtain ⟨y3,hy3,h⟩:=Z3 h;refine Z6 rfl (Ql (g:=g1) (i:=3003) underlying24 Yn rfl rfl o1 r1 rfl rp0 hy3 fun g2 w2 v2 hs o2 r2 _=>?_);have hfr:=hfr.stp hs;refine Zg v2 rfl rfl (Z4 (Gd ?_));obtain rfl:=sinj h;exact Ta rfl rfl (rq v2) ⟨_,hfr,r2⟩
theorem v52_0 {iO:Nat} {gI:Gh} {wI:World} {x0:List Int} {up0:Value} (rp0:RV gI.m wI x0 up0) {r:List Int} (h:f52 x0=some r):FnG prog 52 #[up0] gI wI (fun g w v=>OM iO g w 3 r v):=by
 unfold f52 at h;refine Uf func52 rfl (Nat.le_of_ble_eq_true rfl) fun g0 hm hfr=>?_;have rp0:=RVc hm rp0;show E _ 8 none _ _ _ _ _;refine Z7 (Zg (.slice none 0 0) rfl rfl (Z4 (Zf (Z7 (Zn up0 rfl rfl ?_)))));obtain ⟨a,c,hv,hc,hrow⟩:=Qn rp0;refine Zz (.bool a.isNone) (C5 underlying24 (show ev _ _=_ from hv)) rfl (Z4 ?_)
 cases a with
 | none=>
  have hx:x0=[]:=by
   cases x0 with
   | nil=>rfl
   | cons y ys=>obtain ⟨b,off,hb,_⟩:=hrow (by simp); cases hb
  subst hx
  have hr:r=[]:=by unfold apnd at h; split at h <;> simp at h; exact h
  subst hr;refine Tj rfl (Z7 (Zg (.slice none 0 0) rfl rfl (Z4 ?_)));obtain ⟨gh,hxh,homh⟩:=OM.handn (i:=iO) (t:=3) (α:=Int) hfr; exact Gd (Gq (Ta rfl rfl (rq (.slice none 0 0)) ⟨gh,hxh,homh⟩))
 | some a=>
  refine Gz rfl (Zu (Zd (Z7 (Z6 rfl (Gb (g:=g0) 1 (xs:=([]:List Int)) (vs:=[]) underlying24 sizeOf3 zeroValue3 rfl rfl .nil RVs.nil rfl rfl fun g1 w1 v1 hs o1 r1 hxt hfl=>?_)))));have hfr:=hfr.stp hs;have rp0:=rp0.stp hs;refine Zn up0 rfl rfl (Z6 rfl (Ql (g:=g1) (i:=1) underlying24 Yn rfl rfl o1 r1 rfl rp0 h fun g2 w2 v2 hs o2 r2 _=>?_));have hfr:=hfr.stp hs;refine Zg v2 rfl rfl (Z4 ?_);obtain ⟨gh,hxh,homh⟩:=OM.hand (i:=iO) We hfr o2 r2; exact Gd (Ta rfl rfl (rq v2) ⟨gh,hxh,homh⟩)
def f24 (x0:Design):Option (Design):=
 (apnd 8 (([]:List Int)) ((x0).Rows)).bind fun y7=>
 some ({ x0 with Rows:=y7 })
theorem en24:Enters prog 24:=enters_of func24 (by kernel_rfl) rfl
theorem wk24 {gI:Gh} {wI:World} {x0:Design} {up0:Value} (rp0:RV gI.m wI x0 up0) {r:Design} (h:f24 x0=some r):Fn prog 24 #[up0] gI wI (fun m w v=>RV m w (r) v):=by
 unfold f24 at h;refine fnE func24 rfl rfl fun g0 hm hfr=>?_;have rp0:=RVc hm rp0;show E _ 9 none _ _ _ _ _;refine Z7 (Z6 rfl (D_boxO (g:=g0) 2001 rfl rp0 fun g1 w1 p1 hs b1=>?_));have hfr:=hfr.stp hs;refine Z6 rfl (Gw (g:=g1) 2002 (⟨0,[]⟩:Design) zeroValue28 (fun m w=>⟨_,(Gi Zx Tt),rfl⟩) fun g2 w2 p2 hs b2 cb=>?_);have hfr:=hfr.stp hs;have b1:=b1.stp hs rfl;have i6:OSF 2002 60201 1 g2 w2 3 28 ([]:List Int) p2:=cb.osf (by rfl);clear cb;refine Z4 (Z7 (Z6 rfl (Gb (g:=g2) 3003 (xs:=([]:List Int)) (vs:=[]) underlying24 sizeOf3 zeroValue3 rfl rfl .nil RVs.nil rfl rfl fun g3 w3 v3 hs o3 r3 hxt hfl=>?_)));have hfr:=hfr.stp hs;have b1:=b1.stp hs rfl;have b2:=b2.stp hs rfl;refine Zz (Ga p1 1) (Zc Kb rfl (OB.ptr b1)) rfl (Z6 rfl (Wx (g:=g3) T4.1 isAgg24 sizeOf24 rfl b1 fun v5 r5=>?_));obtain ⟨y7,o0,h⟩:=Z3 h;refine Z6 rfl (Ql (g:=g3) (i:=3003) underlying24 Yn rfl rfl o3 r3 rfl r5 o0 fun g6 w6 v6 hs o6 r6 _=>?_);have hfr:=hfr.stp hs;have b1:=b1.stp hs rfl;have b2:=b2.stp hs rfl;refine Zz (Ga p1 1) (Zc Kb rfl (OB.ptr b1)) rfl (Z6 rfl (Qg (g:=g6) T4 sizeOf24 rfl b1 rfl r6 fun g9 w9 hs b9 rst hos=>?_));have g8:=hos _ _ 3003 3 (y7:List Int) (W3 r6) rfl o6;clear rst hos;have hfr:=hfr.stp hs;have b2:=b2.stp hs rfl;refine Z4 (Z7 (Z6 rfl (T3 (g:=g9) isAgg28 sizeOf28 rfl b9 fun l5 t5=>(Z6 rfl (Gk (g:=g9) (v:=l5) sizeOf28 rfl b2 rfl t5 fun l8 n8 hs b11 cb=>?_)))));clear cb;have hfr:=hfr.stp hs;refine Z4 (Gd ?_);obtain rfl:=sinj h;obtain ⟨ad12,cv12,hp12,hl12,cr12⟩:=T6 isAgg28 sizeOf28 b11;exact Uu rfl rfl ((rq p2).trans hp12) hl12 ⟨_,hfr,cr12⟩
def f26 :Option (FaultLoom):=
 some ((⟨(⟨(4:Int),([(0:Int),(1:Int),(2:Int),(3:Int),(2:Int),(1:Int)]:List Int)⟩:TieHarness),(⟨(4:Int),([(1:Int),(6:Int)]:List Int)⟩:Design)⟩:FaultLoom))
theorem en26:Enters prog 26:=enters_of func26 (by kernel_rfl) rfl
theorem wk26 {gI:Gh} {wI:World}   {r:FaultLoom} (h:f26 =some r):Fn prog 26 #[] gI wI (fun m w v=>RV m w (r) v):=by
 unfold f26 at h;refine fnE func26 rfl rfl fun g0 hm hfr=>?_;show E _ 6 none _ _ _ _ _;refine Z7 (Z6 rfl (Gw (g:=g0) 2000 (⟨⟨0,[]⟩,⟨0,[]⟩⟩:FaultLoom) zeroValue30 (fun m w=>⟨_,(Gi (Gi Zx Tt) (Gi Zx Tt)),rfl⟩) fun g1 w1 p1 hs b1 cb=>?_));have hfr:=hfr.stp hs;have i6:OSF 2000 60001 1 g1 w1 3 30 ([]:List Int) p1:=cb.osf (by rfl);have g8:OSF 2000 60003 3 g1 w1 3 30 ([]:List Int) p1:=cb.osf (by rfl);clear cb;refine Z4 (Z7 (Z6 rfl (Gb (g:=g1) 3001 (xs:=([(0:Int),(1:Int),(2:Int),(3:Int),(2:Int),(1:Int)]:List Int)) (vs:=[Iz (0),Iz (1),Iz (2),Iz (3),Iz (2),Iz (1)]) underlying24 sizeOf3 zeroValue3 rfl rfl (.cons rfl (.cons rfl (.cons rfl (.cons rfl (.cons rfl (.cons rfl .nil)))))) (RVs.cons (Zj.2 rfl) (RVs.cons (Zj.2 rfl) (RVs.cons (Zj.2 rfl) (RVs.cons (Zj.2 rfl) (RVs.cons (Zj.2 rfl) (RVs.cons (Zj.2 rfl) RVs.nil)))))) rfl rfl fun g2 w2 v2 hs o2 r2 hxt hfl=>?_)));have hfr:=hfr.stp hs;have b1:=b1.stp hs rfl;have r3:RV g2.m _ (⟨(4:Int),([(0:Int),(1:Int),(2:Int),(3:Int),(2:Int),(1:Int)]:List Int)⟩:TieHarness) (.agg (G3 [[Iz 0],[.slice none 0 0]] [(0,Iz (4)),(1,v2)]).flatten.toArray):=G2 rfl (Gm (rfl) (G6 (RV.cells r2)));generalize hv3:(Value.agg (G3 [[Iz 0],[.slice none 0 0]] [(0,Iz (4)),(1,v2)]).flatten.toArray)=v3 at r3;refine Zz v3 (hv3 ▸ Tf (vs:=[(0,Iz (4)),(1,v2)]) [[Iz 0],[.slice none 0 0]] D3 rfl rfl (.cons rfl (.cons rfl .nil)) ⟨⟨_,rfl,rfl⟩,⟨⟨_,rfl,G4 r2⟩,trivial⟩⟩) rfl (Z6 rfl (Gb (g:=g2) 3003 (xs:=([(1:Int),(6:Int)]:List Int)) (vs:=[Iz (1),Iz (6)]) underlying24 sizeOf3 zeroValue3 rfl rfl (.cons rfl (.cons rfl .nil)) (RVs.cons (Zj.2 rfl) (RVs.cons (Zj.2 rfl) RVs.nil)) rfl rfl fun g4 w4 v4 hs o4 r4 hxt hfl=>?_));have hfr:=hfr.stp hs;have b1:=b1.stp hs rfl;have r3:=r3.stp hs;have r5:RV g4.m _ (⟨(4:Int),([(1:Int),(6:Int)]:List Int)⟩:Design) (.agg (G3 [[Iz 0],[.slice none 0 0]] [(0,Iz (4)),(1,v4)]).flatten.toArray):=G2 rfl (Gm (rfl) (G6 (RV.cells r4)));generalize o0:(Value.agg (G3 [[Iz 0],[.slice none 0 0]] [(0,Iz (4)),(1,v4)]).flatten.toArray)=v5 at r5;refine Zz v5 (o0 ▸ Tf (vs:=[(0,Iz (4)),(1,v4)]) [[Iz 0],[.slice none 0 0]] Af rfl rfl (.cons rfl (.cons rfl .nil)) ⟨⟨_,rfl,rfl⟩,⟨⟨_,rfl,G4 r4⟩,trivial⟩⟩) rfl ?_;have r6:RV g4.m _ (⟨(⟨(4:Int),([(0:Int),(1:Int),(2:Int),(3:Int),(2:Int),(1:Int)]:List Int)⟩:TieHarness),(⟨(4:Int),([(1:Int),(6:Int)]:List Int)⟩:Design)⟩:FaultLoom) (.agg (G3 [[Iz 0,.slice none 0 0],[Iz 0,.slice none 0 0]] [(0,v3),(1,v5)]).flatten.toArray):=G2 rfl (Gm (RV.cells r3) (G6 (RV.cells r5)));generalize l5:(Value.agg (G3 [[Iz 0,.slice none 0 0],[Iz 0,.slice none 0 0]] [(0,v3),(1,v5)]).flatten.toArray)=v6 at r6;refine Zz v6 (l5 ▸ Tf (vs:=[(0,v3),(1,v5)]) [[Iz 0,.slice none 0 0],[Iz 0,.slice none 0 0]] Py rfl rfl (.cons rfl (.cons rfl .nil)) ⟨⟨_,rfl,G4 r3⟩,⟨⟨_,rfl,G4 r5⟩,trivial⟩⟩) rfl (Z6 rfl (Gk (g:=g4) (v:=v6) sizeOf30 rfl b1 rfl r6 fun g7 w7 hs b7 cb=>?_));clear cb;have hfr:=hfr.stp hs;refine Z4 (Gd ?_);obtain rfl:=sinj h;obtain ⟨ad8,cv8,hp8,t5,cr8⟩:=T6 isAgg30 sizeOf30 b7;exact Uu rfl rfl ((rq p1).trans hp8) t5 ⟨_,hfr,cr8⟩
def f31 (x0:List Int):Option (Int):=
 jn (σ:=Unit) (fun _=>
  some ((0:Int))
  ) fun k14=>
 lp (σ:=Int) (fun yB o0=>
  bif (decide (o0 < ((x0).length : Int))) then
   jn (σ:=Unit) (fun _=>
    yB ((w64 (o0 + (1:Int))))
    ) fun zB=>
   (idx x0 o0).bind fun y23=>
   bif (y23 != (0 : Int)) then
    some (y23)
   else
    zB ()
  else
   k14 ()
  ) big ((0:Int))
theorem en31:Enters prog 31:=enters_of func31 (by kernel_rfl) rfl
theorem wk31 {gI:Gh} {wI:World} {x0:List Int} {up0:Value} (rp0:RV gI.m wI x0 up0) {r:Int} (h:f31 x0=some r):Fn prog 31 #[up0] gI wI (fun _ _ v=>v=Iz (r)):=by
 unfold f31 at h;refine fnE func31 rfl rfl fun g0 hm hfr=>?_;have rp0:=RVc hm rp0;show E _ 18 none _ _ _ _ _;refine Z7 (Zg (Iz (0)) rfl rfl (Z4 (Z7 (Zg (Iz (0)) rfl rfl (Z4 (Zq h (fun (s:Unit) e w=>∃ (g:Gh) ,Fr gI wI g w∧e 3=Iz ((0:Int))) (fun X14 k14 cC h=>?_) ?_))))))
 ·refine Z7 (Zn up0 rfl rfl (Zz (Iz ((x0).length : Int)) (Tr underlying24 rfl rp0) rfl (Zn (Iz (0)) rfl rfl (Z4 (Zr (Wo h (fun (s : Int) e w => ∃ (g : Gh) , Fr gI wI g w ∧ e 3 = Iz ((0 : Int)) ∧ e 6 = up0 ∧ RV g.m w (x0 : List Int) up0 ∧ e 7 = Iz (((x0).length : Int)) ∧ e 8 = Iz (s)) ⟨g0, hfr, rfl, rfl, rp0, rfl, rfl⟩ (fun X15 yB uC => ?_)))))))
  rintro o0 nD zD ⟨l9,hfr,l5,n8,t5,v8,i6⟩ h;refine Z7 (Gf (.bool ((decide (o0 < ((x0).length:Int))))) i6 v8 rfl rfl (Z4 (Zf ?_)));rcases Zt h with ⟨g8,h⟩ | ⟨g8,h⟩
  ·refine G5 g8 rfl (Zu (Zd (Zq h (fun (s : Unit) e w => ∃ (g : Gh) , Fr gI wI g w ∧ e 3 = Iz ((0 : Int)) ∧ e 6 = up0 ∧ RV g.m w (x0 : List Int) up0 ∧ e 7 = Iz (((x0).length : Int)) ∧ e 8 = Iz (o0)) (fun X22 zB vC h => ?_) ?_)))
   ·refine Zr (Z7 ?_)
    obtain ⟨y23,n9,h⟩:=Z3 h;refine Zz (Tb up0 o0 1) (Zh (α:=Int) underlying24 sizeOf3 n8 t5 i6 n9) rfl ?_;have bD:=Tp t5 n9;refine Z6 rfl (Z9 (g:=l9) isAgg3 sizeOf3 rfl bD fun aE cD=>?_);obtain rfl:=Zj.1 cD;refine Zg (Iz (y23)) rfl rfl (Z4 (Z7 (Zn (Iz (y23)) rfl rfl (Zo l5 rfl (Gf (.bool ((y23 != (0:Int)))) rfl rfl rfl rfl (Z4 ?_))))));rcases Zt h with ⟨l8,h⟩ | ⟨l8,h⟩
    ·refine G5 l8 rfl (Z7 (Zn (Iz (y23)) rfl rfl (Zg (Iz (y23)) rfl rfl (Z4 (Gd (Tg (Gq (Gq (Tg (Gq ?_))))))))))
     obtain rfl:=sinj h;exact Ta rfl rfl (rq (Iz (y23))) ⟨_,hfr,rfl⟩
    ·refine G8 l8 rfl ?_
     exact Zu (Tc (Zd (vC () _ _ ⟨l9,hfr,l5,n8,t5,v8,i6⟩ h)))
   ·rintro _ oD bE ⟨lD, hfr, aB, lB, mB, nB, oB⟩ h
    refine Za (Gf (Iz ((w64 (o0 + (1:Int))))) oB rfl rfl rfl (Zn (Iz ((w64 (o0 + (1:Int))))) rfl rfl ?_));exact Z4 (uC ((w64 (o0 + (1:Int)))) _ _ ⟨lD,hfr,aB,lB,mB,nB,rfl⟩ h)
  ·refine G8 g8 rfl (Tu (Gy (Gy (G9 ?_))))
   exact Zd (cC () _ _ ⟨l9,hfr,l5⟩ h)
 ·rintro _ yD iE ⟨lE, hfr, vB⟩ h
  refine Z7 (Zo vB rfl (Zg (Iz ((0:Int))) rfl rfl (Z4 (Gd ?_))));obtain rfl:=sinj h;exact Ta rfl rfl (rq (Iz ((0:Int)))) ⟨_,hfr,rfl⟩
def f33 (x0:Vector UInt8 8):Option (UInt8 × UInt8):=
 Option.bind (α:=UInt8 × UInt8) (
  (cut ((x0).toList) 0 (6:Int)).bind fun t5=>
  lp (σ:=UInt8 × UInt8 × Int) (fun zD (i6,g8,o0)=>
   bif (decide (o0 < ((t5).length : Int))) then
    Option.bind (α:=UInt8 × UInt8) (
     (idx t5 o0).bind fun l5=>
     some ((i6 + l5),(g8 + ((u8w ((w64 (o0 + (1:Int))))) * l5)))
     ) fun (v8,l9)=>
    zD (v8,l9,(w64 (o0 + (1:Int))))
   else
    some (i6,g8)
   ) big ((0:UInt8),(0:UInt8),(0:Int))
  ) fun (l8,n8)=>
 some (l8,n8)
theorem en33:Enters prog 33:=enters_of func33 (by kernel_rfl) rfl
theorem wk33 {gI:Gh} {wI:World} {x0:Vector UInt8 8} {up0:Value} (rp0:RV gI.m wI x0 up0) {r:UInt8 × UInt8} (h:f33 x0=some r):Fn prog 33 #[up0] gI wI (fun m w v=>∃ y0 y1,v=.tuple #[y0,y1]∧y0=.int .u8 (UInt8.toNat (r.1))∧y1=.int .u8 (UInt8.toNat (r.2))):=by
 unfold f33 at h;refine fnE func33 rfl rfl fun g0 hm hfr=>?_;have rp0:=RVc hm rp0;show E _ 26 none _ _ _ _ _;refine Z7 (Z6 rfl (Tq (g:=g0) rfl rp0 fun g1 w1 p1 hs q1=>?_));have hfr:=hfr.ext hs;refine Zg (.int .u8 (UInt8.toNat 0)) rfl rfl (Zg (.int .u8 (UInt8.toNat 0)) rfl rfl (Z4 ?_));obtain ⟨⟨l8,n8⟩,hx,h⟩:=Z3 h;refine Gs (fun e w=>∃ (g:Gh) ,Fr gI wI g w∧e 2=.int .u8 (UInt8.toNat (l8))∧e 3=.int .u8 (UInt8.toNat (n8))) (fun Q' hQ=>?_) (fun oE vE hR=>?_)
 ·replace h := hx
  clear hx;refine Z7 ?_;obtain ⟨t5,yB,h⟩:=Z3 h;have aE:=Cz (Iu (p:=p1) q1) yB;refine Zz ((Hj (Rq p1 8) 0 (Int.toNat (6:Int)) 1)) (Ri (p:=p1) underlying80 sizeOf5 rfl q1 rfl yB) rfl (Zz (Iz ((t5).length:Int)) (Tr underlying50 rfl aE) rfl (Zn (Iz (0)) rfl rfl (Z4 (Zr (Wo h (fun (s:UInt8 × UInt8 × Int) e w=>∃ (g:Gh) ,Fr gI wI g w∧e 2=.int .u8 (UInt8.toNat (s.1))∧e 3=.int .u8 (UInt8.toNat (s.2.1))∧e 6=(Hj (Rq p1 8) 0 (Int.toNat (6:Int)) 1)∧RV g.m w (t5:List UInt8) (Hj (Rq p1 8) 0 (Int.toNat (6:Int)) 1)∧e 7=Iz (((t5).length:Int))∧e 8=Iz (s.2.2)) ⟨g1,hfr,rfl,rfl,rfl,aE,rfl,rfl⟩ (fun X16 zD bE=>?_))))));rintro ⟨i6,g8,o0⟩ rE xE ⟨zB,hfr,mB,nB,oB,aB,vB,n9⟩ h;refine Z7 (Gf (.bool ((decide (o0 < ((t5).length:Int))))) n9 vB rfl rfl (Z4 (Zf ?_)));rcases Zt h with ⟨lB,h⟩ | ⟨lB,h⟩
  ·refine G5 lB rfl (Zu (Zd ?_))
   obtain ⟨⟨v8,l9⟩,hx,h⟩:=Z3 h;refine Gs (fun e w=>∃ (g:Gh) ,Fr gI wI g w∧e 2=.int .u8 (UInt8.toNat (v8))∧e 3=.int .u8 (UInt8.toNat (l9))∧e 6=(Hj (Rq p1 8) 0 (Int.toNat (6:Int)) 1)∧RV g.m w (t5:List UInt8) (Hj (Rq p1 8) 0 (Int.toNat (6:Int)) 1)∧e 7=Iz (((t5).length:Int))∧e 8=Iz (o0)) (fun Q' hQ=>?_) (fun uE yE hR=>?_)
   ·replace h := hx
    clear hx;refine Zr (Z7 (Zo n9 rfl ?_));obtain ⟨l5,cC,h⟩:=Z3 h;refine Zz (Tb ((Hj (Rq p1 8) 0 (Int.toNat (6:Int)) 1)) o0 1) (Zh (α:=UInt8) underlying50 sizeOf5 oB aB n9 cC) rfl ?_;have iE:=Tp aB cC;refine Z6 rfl (Z9 (g:=zB) isAgg5 sizeOf5 rfl iE fun zE lE=>?_);obtain rfl:=Qz.1 lE;refine Zg (Iz (o0)) rfl rfl (Zg (.int .u8 (UInt8.toNat (l5))) rfl rfl (Z4 (Z7 (Zo mB rfl (Zn (.int .u8 (UInt8.toNat (l5))) rfl rfl (Zz (.int .u8 (UInt8.toNat ((i6 + l5)))) (Bg rfl rfl rfl) rfl (Zg (.int .u8 (UInt8.toNat ((i6 + l5)))) rfl rfl (Z4 (Za (Zo nB rfl (Zn (Iz (o0)) rfl rfl (Gf (Iz ((w64 (o0 + (1:Int))))) rfl rfl rfl rfl (Zz (.int .u8 (UInt8.toNat ((u8w ((w64 (o0 + (1:Int)))))))) (Yt underlying3 underlying5 rfl) rfl (Zn (.int .u8 (UInt8.toNat (l5))) rfl rfl (Zz (.int .u8 (UInt8.toNat (((u8w ((w64 (o0 + (1:Int))))) * l5)))) (Ou rfl rfl) rfl (Zz (.int .u8 (UInt8.toNat ((g8 + ((u8w ((w64 (o0 + (1:Int))))) * l5))))) (Bg rfl rfl rfl) rfl (Zz (.int .u8 (UInt8.toNat ((g8 + ((u8w ((w64 (o0 + (1:Int))))) * l5))))) (Tx rfl) rfl (Zb (Tc ?_)))))))))))))))))));obtain ⟨rfl,rfl⟩:=Kr h;exact hQ _ _ ⟨zB,hfr,rfl,rfl,oB,aB,vB,n9⟩
   ·clear hx
    obtain ⟨mE,hfr,uC,vC,bD,cD,lD,nD⟩:=hR;refine Za (Gf (Iz ((w64 (o0 + (1:Int))))) nD rfl rfl rfl (Zn (Iz ((w64 (o0 + (1:Int))))) rfl rfl ?_));exact Z4 (bE (v8,l9,(w64 (o0 + (1:Int)))) _ _ ⟨mE,hfr,uC,vC,bD,cD,lD,rfl⟩ h)
  ·refine G8 lB rfl (Tu (Gy (Gy (G9 ?_))))
   obtain ⟨rfl,rfl⟩:=Kr h;exact hQ _ _ ⟨zB,hfr,mB,nB⟩
 ·clear hx
  obtain ⟨cF,hfr,oD,yD⟩:=hR;refine Z7 (Zo oD rfl (Zo yD rfl (Zg (.int .u8 (UInt8.toNat (l8))) rfl rfl (Zg (.int .u8 (UInt8.toNat (n8))) rfl rfl (Z4 (Gd ?_))))));obtain rfl:=sinj h;exact Yq rfl rfl (rq (.int .u8 (UInt8.toNat (l8)))) (rq (.int .u8 (UInt8.toNat (n8)))) ⟨_,hfr,_,_,rfl,rfl,rfl⟩
def f38 (x0:List Gn) (x1:Gn→Option Str):Option ((List Str)):=
 Option.bind (α:=(List Str)) (
  lp (σ:=(List Str) × Int) (fun iE (n8,l5)=>
   bif (decide (l5 < ((x0).length : Int))) then
    Option.bind (α:=(List Str)) (
     (idx x0 l5).bind fun lE=>
     (x1 lE).bind fun n9=>
     (apnd 16 n8 (([n9]:List Str))).bind fun mE=>
     some (mE)
     ) fun g8=>
    iE (g8,(w64 (l5 + (1:Int))))
   else
    some (n8)
   ) big ([],(0:Int))
  ) fun l8=>
 some (l8)
theorem en38:Enters prog 38:=enters_of func38 (by kernel_rfl) rfl
theorem wk38 {gI:Gh} {wI:World} {x0:List Gn} {x1:Gn→Option Str} {up0:Value} (rp0:RV gI.m wI x0 up0) {up1:Value} (rp1:Jf prog x1 up1 gI wI) {r:(List Str)} (h:f38 x0 x1=some r):Fn prog 38 #[up0,up1] gI wI (fun m w v=>RV m w (r) v):=by
 unfold f38 at h;refine fnE func38 rfl rfl fun g0 hm hfr=>?_;have rp0:=RVc hm rp0;obtain ⟨ff1,fa1,fc1,rfl,fen1,fcl1⟩:=rp1;show E _ 21 none _ _ _ _ _;refine Z7 (Zg (.slice none 0 0) rfl rfl (Z4 ?_));obtain ⟨l8,hx,h⟩:=Z3 h;refine Gs (fun e w=>∃ (g:Gh) (v4:Value),Fr gI wI g w∧e 4=v4∧RV g.m w (l8:List Str) v4∧OS 1004 g w 9 (l8:List Str) v4) (fun Q' hQ=>?_) (fun eG jG hR=>?_)
 ·replace h := hx
  clear hx;refine Z7 (Zn up0 rfl rfl (Zz (Iz ((x0).length:Int)) (Tr underlying36 rfl rp0) rfl (Zn (Iz (0)) rfl rfl (Z4 (Zr (Wo h (fun (s:(List Str) × Int) e w=>∃ (g:Gh) (v4:Value),Fr gI wI g w∧e 1=(.func (.func ff1) fa1 fc1)∧e 4=v4∧RV g.m w (s.1:List Str) v4∧OS 1004 g w 9 (s.1:List Str) v4∧e 7=up0∧RV g.m w (x0:List Gn) up0∧e 8=Iz (((x0).length:Int))∧e 9=Iz (s.2)) ⟨g0,(.slice none 0 0),hfr,rfl,rfl,Qi,OS.nil,rfl,rp0,rfl,rfl⟩ (fun X27 iE vE=>?_)))))));rintro ⟨n8,l5⟩ gG kG ⟨vB,cC,hfr,aB,lB,t5,i6,mB,o0,nB,v8⟩ h;refine Z7 (Gf (.bool ((decide (l5 < ((x0).length:Int))))) v8 nB rfl rfl (Z4 (Zf ?_)));rcases Zt h with ⟨l9,h⟩ | ⟨l9,h⟩
  ·refine G5 l9 rfl (Zu (Zd ?_))
   obtain ⟨g8,hx,h⟩:=Z3 h;refine Gs (fun e w=>∃ (g:Gh) (v4:Value),Fr gI wI g w∧e 1=(.func (.func ff1) fa1 fc1)∧e 4=v4∧RV g.m w (g8:List Str) v4∧OS 1004 g w 9 (g8:List Str) v4∧e 7=up0∧RV g.m w (x0:List Gn) up0∧e 8=Iz (((x0).length:Int))∧e 9=Iz (l5)) (fun Q' hQ=>?_) (fun iG lG hR=>?_)
   ·replace h := hx
    clear hx;refine Zr (Z7 ?_);obtain ⟨lE,yB,h⟩:=Z3 h;refine Zz (Tb up0 l5 3) (Zh (α:=Gn) underlying36 sizeOf76 mB o0 v8 yB) rfl ?_;have zE:=Tp o0 yB;refine Z6 rfl (Z9 (g:=vB) isAgg76 sizeOf76 rfl zE fun cF zB=>(Z6 rfl (Gw (g:=vB) 2006 (⟨⟨[]⟩,⟨0,[]⟩⟩:Gn) zeroValue76 (fun m w=>⟨_,(Gi Sg (Gi Zx Tt)),rfl⟩) fun oE dF eF hs b44 cb=>?_)));have hfr:=hfr.stp hs;have t5:=t5.stp hs;have i6:=i6.stp hs rfl;have o0:=o0.stp hs;have zB:=zB.stp hs;have bG:OSF 2006 60602 2 oE dF 3 76 ([]:List Int) eF:=cb.osf (by rfl);clear cb;refine Z6 rfl (Gk (g:=oE) (v:=cF) sizeOf76 rfl b44 rfl zB fun rE mG hs b45 cb=>?_);clear cb;have hfr:=hfr.stp hs;have t5:=t5.stp hs;have i6:=i6.stp hs rfl;have o0:=o0.stp hs;refine Z4 (Za (Zo lB rfl (Zo aB rfl (Z6 rfl (T3 (g:=rE) isAgg76 sizeOf76 rfl b45 fun rF sF=>?_)))));obtain ⟨n9,xE,h⟩:=Z3 h;refine Z6 rfl (Jd (g:=rE) (vs:=[rF]) rfl fen1 (.cons rfl .nil) (fcl1 _ _ hfr.ch _ _ _  sF xE) fun tF sG xG hs hr=>?_);have hfr:=hfr.ext hs;have t5:=t5.ext hs;have i6:=i6.ext hs;have o0:=o0.ext hs;obtain rfl:=Qt.1 hr;refine Z6 rfl (Gb (g:=tF) 3017 (xs:=([n9]:List Str)) (vs:=[Str.v (n9)]) underlying61 sizeOf9 zeroValue9 rfl rfl (.cons rfl .nil) (RVs.cons (Qt.2 rfl) RVs.nil) rfl rfl fun uF yG zG hs o49 vF hxt hfl=>?_);have hfr:=hfr.stp hs;have t5:=t5.stp hs;have i6:=i6.stp hs rfl;have o0:=o0.stp hs;obtain ⟨mE,yE,h⟩:=Z3 h;refine Z6 rfl (Ql (g:=uF) (i:=1004) underlying61 Xf rfl rfl i6 t5 rfl vF yE fun xF aH uE hs o50 yF _=>?_);have hfr:=hfr.stp hs;have o0:=o0.stp hs;refine Zg uE rfl rfl (Zb (Tc ?_));obtain rfl:=sinj h;exact hQ _ _ ⟨xF,(uE),hfr,aB,rfl,yF,o50,mB,o0,nB,v8⟩
   ·clear hx
    obtain ⟨aG,uC,hfr,vC,bD,cD,lD,nD,oD,yD,zD⟩:=hR;refine Za (Gf (Iz ((w64 (l5 + (1:Int))))) zD rfl rfl rfl (Zn (Iz ((w64 (l5 + (1:Int))))) rfl rfl ?_));exact Z4 (vE (g8,(w64 (l5 + (1:Int)))) _ _ ⟨aG,(uC),hfr,vC,bD,cD,lD,nD,oD,yD,rfl⟩ h)
  ·refine G8 l9 rfl (Tu (Gy (Gy (G9 ?_))))
   obtain rfl:=sinj h;exact hQ _ _ ⟨vB,(cC),hfr,lB,t5,i6⟩
 ·clear hx
  obtain ⟨cH,oB,hfr,aE,bE,cG⟩:=hR;refine Z7 (Zo aE rfl (Zg oB rfl rfl (Z4 (Gd ?_))));obtain rfl:=sinj h;exact Ta rfl rfl (rq oB) ⟨_,hfr,bE⟩
def f39 (x0:Gn):Option (Str):=
 some ((x0).Name)
theorem en39:Enters prog 39:=enters_of func39 (by kernel_rfl) rfl
theorem wk39 {gI:Gh} {wI:World} {x0:Gn} {up0:Value} (rp0:RV gI.m wI x0 up0) {r:Str} (h:f39 x0=some r):Fn prog 39 #[up0] gI wI (fun _ _ v=>v=Str.v (r)):=by
 unfold f39 at h;refine fnE func39 rfl rfl fun g0 hm hfr=>?_;have rp0:=RVc hm rp0;show E _ 5 none _ _ _ _ _;refine Z7 (Z6 rfl (Tq (g:=g0) rfl rp0 fun g1 w1 p1 hs q1=>?_));have hfr:=hfr.ext hs;refine Zg (Str.v (⟨[]⟩:Str)) rfl rfl (Z4 (Z7 (Zz (Ga p1 0) (Zc A9 rfl (PT.ptr q1)) rfl ?_)));have q2:=Zm (Vi).1 q1;refine Z6 rfl (Z9 (g:=g1) isAgg9 sizeOf9 rfl q2 fun v3 r3=>?_);obtain rfl:=Qt.1 r3;refine Zg (Str.v ((x0).Name)) rfl rfl (Z4 (Gd ?_));obtain rfl:=sinj h;exact Ta rfl rfl (rq (Str.v ((x0).Name))) ⟨_,hfr,rfl⟩
def f40 (x0:List Gc) (x1:Gc→Option Str):Option ((List Str)):=
 Option.bind (α:=(List Str)) (
  lp (σ:=(List Str) × Int) (fun iE (n8,l5)=>
   bif (decide (l5 < ((x0).length : Int))) then
    Option.bind (α:=(List Str)) (
     (idx x0 l5).bind fun lE=>
     (x1 lE).bind fun n9=>
     (apnd 16 n8 (([n9]:List Str))).bind fun mE=>
     some (mE)
     ) fun g8=>
    iE (g8,(w64 (l5 + (1:Int))))
   else
    some (n8)
   ) big ([],(0:Int))
  ) fun l8=>
 some (l8)
theorem en40:Enters prog 40:=enters_of func40 (by kernel_rfl) rfl
theorem wk40 {gI:Gh} {wI:World} {x0:List Gc} {x1:Gc→Option Str} {up0:Value} (rp0:RV gI.m wI x0 up0) {up1:Value} (rp1:Jf prog x1 up1 gI wI) {r:(List Str)} (h:f40 x0 x1=some r):Fn prog 40 #[up0,up1] gI wI (fun m w v=>RV m w (r) v):=by
 unfold f40 at h;refine fnE func40 rfl rfl fun g0 hm hfr=>?_;have rp0:=RVc hm rp0;obtain ⟨ff1,fa1,fc1,rfl,fen1,fcl1⟩:=rp1;show E _ 21 none _ _ _ _ _;refine Z7 (Zg (.slice none 0 0) rfl rfl (Z4 ?_));obtain ⟨l8,hx,h⟩:=Z3 h;refine Gs (fun e w=>∃ (g:Gh) (v4:Value),Fr gI wI g w∧e 4=v4∧RV g.m w (l8:List Str) v4∧OS 1004 g w 9 (l8:List Str) v4) (fun Q' hQ=>?_) (fun eG jG hR=>?_)
 ·replace h := hx
  clear hx;refine Z7 (Zn up0 rfl rfl (Zz (Iz ((x0).length:Int)) (Tr underlying37 rfl rp0) rfl (Zn (Iz (0)) rfl rfl (Z4 (Zr (Wo h (fun (s:(List Str) × Int) e w=>∃ (g:Gh) (v4:Value),Fr gI wI g w∧e 1=(.func (.func ff1) fa1 fc1)∧e 4=v4∧RV g.m w (s.1:List Str) v4∧OS 1004 g w 9 (s.1:List Str) v4∧e 7=up0∧RV g.m w (x0:List Gc) up0∧e 8=Iz (((x0).length:Int))∧e 9=Iz (s.2)) ⟨g0,(.slice none 0 0),hfr,rfl,rfl,Qi,OS.nil,rfl,rp0,rfl,rfl⟩ (fun X27 iE vE=>?_)))))));rintro ⟨n8,l5⟩ gG kG ⟨vB,cC,hfr,aB,lB,t5,i6,mB,o0,nB,v8⟩ h;refine Z7 (Gf (.bool ((decide (l5 < ((x0).length:Int))))) v8 nB rfl rfl (Z4 (Zf ?_)));rcases Zt h with ⟨l9,h⟩ | ⟨l9,h⟩
  ·refine G5 l9 rfl (Zu (Zd ?_))
   obtain ⟨g8,hx,h⟩:=Z3 h;refine Gs (fun e w=>∃ (g:Gh) (v4:Value),Fr gI wI g w∧e 1=(.func (.func ff1) fa1 fc1)∧e 4=v4∧RV g.m w (g8:List Str) v4∧OS 1004 g w 9 (g8:List Str) v4∧e 7=up0∧RV g.m w (x0:List Gc) up0∧e 8=Iz (((x0).length:Int))∧e 9=Iz (l5)) (fun Q' hQ=>?_) (fun iG lG hR=>?_)
   ·replace h := hx
    clear hx;refine Zr (Z7 ?_);obtain ⟨lE,yB,h⟩:=Z3 h;refine Zz (Tb up0 l5 3) (Zh (α:=Gc) underlying37 sizeOf48 mB o0 v8 yB) rfl ?_;have zE:=Tp o0 yB;refine Z6 rfl (Z9 (g:=vB) isAgg48 sizeOf48 rfl zE fun cF zB=>(Z6 rfl (Gw (g:=vB) 2006 (⟨⟨[]⟩,⟨0,[]⟩⟩:Gc) zeroValue48 (fun m w=>⟨_,(Gi Sg (Gi Zx Tt)),rfl⟩) fun oE dF eF hs b44 cb=>?_)));have hfr:=hfr.stp hs;have t5:=t5.stp hs;have i6:=i6.stp hs rfl;have o0:=o0.stp hs;have zB:=zB.stp hs;have bG:OSF 2006 60602 2 oE dF 43 48 ([]:List Z8) eF:=cb.osf (by rfl);clear cb;refine Z6 rfl (Gk (g:=oE) (v:=cF) sizeOf48 rfl b44 rfl zB fun rE mG hs b45 cb=>?_);clear cb;have hfr:=hfr.stp hs;have t5:=t5.stp hs;have i6:=i6.stp hs rfl;have o0:=o0.stp hs;refine Z4 (Za (Zo lB rfl (Zo aB rfl (Z6 rfl (T3 (g:=rE) isAgg48 sizeOf48 rfl b45 fun rF sF=>?_)))));obtain ⟨n9,xE,h⟩:=Z3 h;refine Z6 rfl (Jd (g:=rE) (vs:=[rF]) rfl fen1 (.cons rfl .nil) (fcl1 _ _ hfr.ch _ _ _  sF xE) fun tF sG xG hs hr=>?_);have hfr:=hfr.ext hs;have t5:=t5.ext hs;have i6:=i6.ext hs;have o0:=o0.ext hs;obtain rfl:=Qt.1 hr;refine Z6 rfl (Gb (g:=tF) 3017 (xs:=([n9]:List Str)) (vs:=[Str.v (n9)]) underlying61 sizeOf9 zeroValue9 rfl rfl (.cons rfl .nil) (RVs.cons (Qt.2 rfl) RVs.nil) rfl rfl fun uF yG zG hs o49 vF hxt hfl=>?_);have hfr:=hfr.stp hs;have t5:=t5.stp hs;have i6:=i6.stp hs rfl;have o0:=o0.stp hs;obtain ⟨mE,yE,h⟩:=Z3 h;refine Z6 rfl (Ql (g:=uF) (i:=1004) underlying61 Xf rfl rfl i6 t5 rfl vF yE fun xF aH uE hs o50 yF _=>?_);have hfr:=hfr.stp hs;have o0:=o0.stp hs;refine Zg uE rfl rfl (Zb (Tc ?_));obtain rfl:=sinj h;exact hQ _ _ ⟨xF,(uE),hfr,aB,rfl,yF,o50,mB,o0,nB,v8⟩
   ·clear hx
    obtain ⟨aG,uC,hfr,vC,bD,cD,lD,nD,oD,yD,zD⟩:=hR;refine Za (Gf (Iz ((w64 (l5 + (1:Int))))) zD rfl rfl rfl (Zn (Iz ((w64 (l5 + (1:Int))))) rfl rfl ?_));exact Z4 (vE (g8,(w64 (l5 + (1:Int)))) _ _ ⟨aG,(uC),hfr,vC,bD,cD,lD,nD,oD,yD,rfl⟩ h)
  ·refine G8 l9 rfl (Tu (Gy (Gy (G9 ?_))))
   obtain rfl:=sinj h;exact hQ _ _ ⟨vB,(cC),hfr,lB,t5,i6⟩
 ·clear hx
  obtain ⟨cH,oB,hfr,aE,bE,cG⟩:=hR;refine Z7 (Zo aE rfl (Zg oB rfl rfl (Z4 (Gd ?_))));obtain rfl:=sinj h;exact Ta rfl rfl (rq oB) ⟨_,hfr,bE⟩
def f41 (x0:Gc):Option (Str):=
 some ((x0).Name)
theorem en41:Enters prog 41:=enters_of func41 (by kernel_rfl) rfl
theorem wk41 {gI:Gh} {wI:World} {x0:Gc} {up0:Value} (rp0:RV gI.m wI x0 up0) {r:Str} (h:f41 x0=some r):Fn prog 41 #[up0] gI wI (fun _ _ v=>v=Str.v (r)):=by
 unfold f41 at h;refine fnE func41 rfl rfl fun g0 hm hfr=>?_;have rp0:=RVc hm rp0;show E _ 5 none _ _ _ _ _;refine Z7 (Z6 rfl (Tq (g:=g0) rfl rp0 fun g1 w1 p1 hs q1=>?_));have hfr:=hfr.ext hs;refine Zg (Str.v (⟨[]⟩:Str)) rfl rfl (Z4 (Z7 (Zz (Ga p1 0) (Zc Am rfl (PT.ptr q1)) rfl ?_)));have q2:=Zm (Ub).1 q1;refine Z6 rfl (Z9 (g:=g1) isAgg9 sizeOf9 rfl q2 fun v3 r3=>?_);obtain rfl:=Qt.1 r3;refine Zg (Str.v ((x0).Name)) rfl rfl (Z4 (Gd ?_));obtain rfl:=sinj h;exact Ta rfl rfl (rq (Str.v ((x0).Name))) ⟨_,hfr,rfl⟩
def f56 (x0:Int):Option (Int):=
 jn (σ:=Unit) (fun _=>
  some ((0:Int))
  ) fun k3=>
 bif (x0 == (2 : Int)) then
  some ((1:Int))
 else
  bif (x0 == (5 : Int)) then
   some ((2:Int))
  else
   k3 ()
theorem en56:Enters prog 56:=enters_of func56 (by kernel_rfl) rfl
theorem wk56 {gI:Gh} {wI:World} {x0:Int}  {r:Int} (h:f56 x0=some r):Fn prog 56 #[Iz (x0)] gI wI (fun _ _ v=>v=Iz (r)):=by
 unfold f56 at h;refine fnE func56 rfl rfl fun g0 hm hfr=>?_;show E _ 8 none _ _ _ _ _;refine Z7 (Zg (Iz (0)) rfl rfl (Z4 (Zq h (fun (s:Unit) e w=>∃ (g:Gh) ,Fr gI wI g w) (fun X3 k3 hk3 h=>?_) ?_)))
 ·refine Z7 (Zn (Iz (x0)) rfl rfl (Z4 (Zr (Z7 (Gf (.bool ((x0 == (2 : Int)))) rfl rfl rfl rfl (Zg (.bool ((x0 == (2 : Int)))) rfl rfl (Z4 ?_)))))))
  rcases Zt h with ⟨hc4,h⟩ | ⟨hc4,h⟩
  ·refine G5 hc4 rfl (Z7 (Zg (Iz (1)) rfl rfl (Z4 (Gd (Tg (Gq ?_))))))
   obtain rfl:=sinj h;exact Ta rfl rfl (rq (Iz (1))) ⟨_,hfr,rfl⟩
  ·refine G8 hc4 rfl (Z7 (Gf (.bool ((x0 == (5 : Int)))) rfl rfl rfl rfl (Zg (.bool ((x0 == (5 : Int)))) rfl rfl (Z4 ?_))))
   rcases Zt h with ⟨hc5,h⟩ | ⟨hc5,h⟩
   ·refine G5 hc5 rfl (Z7 (Zg (Iz (2)) rfl rfl (Z4 (Gd (Tg (Gq ?_))))))
    obtain rfl:=sinj h;exact Ta rfl rfl (rq (Iz (2))) ⟨_,hfr,rfl⟩
   ·refine G8 hc5 rfl ?_
    exact Zu (Tc (Zd (hk3 () _ _ ⟨g0,hfr⟩ h)))
 ·rintro _ o0 w6 ⟨g6, hfr⟩ h
  refine Z7 (Zg (Iz (0)) rfl rfl (Z4 (Gd ?_)));obtain rfl:=sinj h;exact Ta rfl rfl (rq (Iz (0))) ⟨_,hfr,rfl⟩
def f58 (z0:List Str) (z1:List Str) (σ:Type) (cons:Ue σ (Int × Int)) (s0:σ):Option σ:=
 lp (σ:=σ × Int) (fun k2 (lE,l5)=>
  bif (decide (l5 < ((z0).length : Int))) then
   jn (σ:=σ) (fun zB=>
    k2 (zB,(w64 (l5 + (1:Int))))
    ) fun rF=>
   (idx z0 l5).bind fun g8=>
   lp (σ:=σ × Nat) (fun sF (n9,o0)=>
    bif (decide (o0 < (g8).b.length)) then
     Option.bind (α:=σ × Bool) (
      (idx (g8).b ((o0:Nat):Int)).bind fun n8=>
      (idx z1 l5).bind fun nD=>
      (idx (nD).b ((o0:Nat):Int)).bind fun v8=>
      bif (n8 != v8) then
       (cons n9 (l5,((o0:Nat):Int))).bind fun (yB,uE)=>
       some (uE,(!yB))
      else
       some (n9,false)
      ) fun (aB,l9)=>
     bif l9 then
      some aB
     else
      sF (aB,(o0 + (dec g8 o0).2))
    else
     rF (n9)
    ) big (lE,0)
  else
   some lE
  ) big (s0,(0:Int))
theorem en58:Enters prog 58:=enters_of func58 (by kernel_rfl) rfl
theorem wk58 {σ:Type} {cons:Ue σ (Int × Int)} {s0 r:σ} {gI:Gh} {wI:World} {z0:List Str} {z1:List Str} {pf0:Value} (qf0:PT gI.m wI z0 pf0) {pf1:Value} (qf1:PT gI.m wI z1 pf1) (h:f58 z0 z1 σ cons s0=some r):R1 prog (RA2 (α:=Int) (β:=Int)) 58 #[] #[pf0,pf1] gI wI cons s0 r:=by
 unfold f58 at h;refine R5 func58 rfl (Nat.le_of_ble_eq_true rfl) fun l B J g0 hm hAb hRo hfr=>?_;have qf0:PT g0.m wI z0 pf0:=hm ▸ qf0;have qf1:PT g0.m wI z1 pf1:=hm ▸ qf1;show E _ 37 none _ _ (J4 #[.func (.yield l) #[] #[],pf0,pf1]) _ _;refine Z7 (Z6 rfl (Z9 (g:=g0) isAgg61 sizeOf61 rfl qf0 fun v1 r1=>(Zz (Iz ((z0).length:Int)) (Tr underlying61 rfl r1) rfl (Zn (Iz (0)) rfl rfl (Z4 (Zr (Wo h (fun (s:σ × Int) e w=>∃ (g:Gh) ,FrY gI wI B J (s.1) g w∧e 0=(.func (.yield l) #[] #[])∧e 2=pf1∧PT g.m w (z1:List Str) pf1∧e 7=v1∧RV g.m w (z0:List Str) v1∧e 8=Iz (((z0).length:Int))∧e 9=Iz (s.2)) ⟨g0,hfr,rfl,rfl,qf1,rfl,r1,rfl,rfl⟩ (fun X2 k2 hk2=>?_))))))));rintro ⟨lE,l5⟩ jJ w3 ⟨g3,hfr,jH,kH,mE,tF,cC,uF,oD⟩ h;refine Z7 (Gf (.bool ((decide (l5 < ((z0).length:Int))))) oD uF rfl rfl (Z4 (Zf ?_)));rcases Zt h with ⟨hc4,h⟩ | ⟨hc4,h⟩
 ·refine G5 hc4 rfl (Zu (Zd (Zq h (fun (s : σ) e w => ∃ (g : Gh) , FrY gI wI B J (s) g w ∧ e 0 = (.func (.yield l) #[] #[]) ∧ e 2 = pf1 ∧ PT g.m w (z1 : List Str) pf1 ∧ e 7 = v1 ∧ RV g.m w (z0 : List Str) v1 ∧ e 8 = Iz (((z0).length : Int)) ∧ e 9 = Iz (l5)) (fun X145 rF aH h => ?_) ?_)))
  ·refine Zr (Z7 (Zo oD rfl ?_))
   obtain ⟨g8,vE,h⟩:=Z3 h;refine Zz (Tb v1 l5 1) (Zh (α:=Str) underlying61 sizeOf9 tF cC oD vE) rfl ?_;have lH:=Tp cC vE;refine Z6 rfl (Z9 (g:=g3) isAgg9 sizeOf9 rfl lH fun dI mH=>?_);obtain rfl:=Qt.1 mH;refine Zg (Iz (l5)) rfl rfl (Zg (Str.v (g8)) rfl rfl (Z4 (Z7 (Zn (Str.v (g8)) rfl rfl (Z6 rfl (Pg (g:=g3) (s:=g8) 7015 underlying9 rfl fun nH iI yD hs b149=>?_))))));have hfr:=hfr.stp_ hAb hs rfl;have mE:=mE.stp hs;have cC:=cC.stp hs;refine Z4 (Zr (Wo h (fun (s:σ × Nat) e w=>∃ (g:Gh) ,FrY gI wI B J (s.1) g w∧e 0=(.func (.yield l) #[] #[])∧e 2=pf1∧PT g.m w (z1:List Str) pf1∧e 4=Iz (l5)∧e 5=Str.v (g8)∧e 7=v1∧RV g.m w (z0:List Str) v1∧e 8=Iz (((z0).length:Int))∧e 9=Iz (l5)∧e 15=yD∧SI 7015 g w (g8) (s.2) yD) ⟨nH,hfr,jH,kH,mE,rfl,rfl,tF,cC,uF,oD,rfl,b149⟩ (fun X150 sF cH=>?_)));rintro ⟨n9,o0⟩ zH jI ⟨oE,hfr,oB,lB,t5,mB,vB,uC,i6,vC,bD,nB,cD⟩ h;refine Z7 ?_;rcases Zt h with ⟨zD,h⟩ | ⟨zD,h⟩
   ·refine Z6 rfl (Cb (g := oE) nB cD zD fun vF kI hs b152 => ?_)
    have hfr:=hfr.stp_ hAb hs rfl;have t5:=t5.stp hs;have i6:=i6.stp hs;refine Zz (.bool true) (Zi rfl rfl) rfl (Z4 (Zf (Tj (by rw [show ev _ _=_ from rfl]; exact congrArg Value.bool rfl) (Zu (Zd (Zr (Z7 (Zz (Iz ((o0:Nat):Int)) (Zi rfl rfl) rfl (Zg (Iz ((o0:Nat):Int)) rfl rfl (Z4 ?_))))))))));obtain ⟨⟨aB,l9⟩,hx,h⟩:=Z3 h;refine Gs (fun e w=>∃ (g:Gh) ,FrY gI wI B J (aB) g w∧e 0=(.func (.yield l) #[] #[])∧e 2=pf1∧PT g.m w (z1:List Str) pf1∧e 4=Iz (l5)∧e 5=Str.v (g8)∧e 7=v1∧RV g.m w (z0:List Str) v1∧e 8=Iz (((z0).length:Int))∧e 9=Iz (l5)∧e 15=yD∧SI 7015 g w (g8) ((o0 + (dec g8 o0).2)) yD∧e 35=.bool (l9)) (fun Q' hQ=>?_) (fun aI lI hR=>?_)
    ·replace h := hx
     clear hx;obtain ⟨n8,xE,h⟩:=Z3 h;refine Zs (x:=.tmp 2) isAgg61 sizeOf61 t5 fun aE rE yE=>?_;obtain ⟨nD,bE,h⟩:=Z3 h;have oH:=Tp rE bE;refine Zs (x:=.tmp 24) isAgg9 sizeOf9 oH fun mI pH zE=>?_;obtain rfl:=Qt.1 pH;obtain ⟨v8,cF,h⟩:=Z3 h;rcases Zt h with ⟨l8,h⟩ | ⟨l8,h⟩
     ·refine Tz (g := vF) (n := 14) [] [0, 1, 2, 3, 4, 5, 6, 7, 8, 9, 10, 11, 12, 13] rfl mixed (by kernel_rfl) trivial (Z2 (Str.v (g8)) rfl rfl (Zk vB) (Z2 (Iz ((o0 : Nat) : Int)) rfl rfl (Zk rfl) (Z2 (.int .u8 (UInt8.toNat (n8))) rfl rfl (Jb underlying9 rfl rfl xE) (Tv (c := aE) rfl rfl .plain (fun _ _ h => h.ch) yE lB (Z2 (Iz (l5)) rfl rfl (Zk mB) (Z2 (Tb aE l5 1) rfl rfl (Zh (α := Str) underlying61 sizeOf9 rfl rE rfl bE) (Tv (c := Str.v (nD)) rfl rfl .plain (fun _ _ h => h.ch) zE rfl (Z2 (Iz ((o0 : Nat) : Int)) rfl rfl (Zk rfl) (Z2 (.int .u8 (UInt8.toNat (v8))) rfl rfl (Jb underlying9 rfl rfl cF) (Z2 (.bool ((n8 != v8))) rfl rfl (Bg rfl rfl rfl) (Z2 (.bool ((n8 != v8))) rfl rfl (Zk rfl) (L_y ((.func (.yield l) #[] #[])) rfl rfl rfl rfl l8 (Zk oB) (L_y (Iz (l5)) rfl rfl rfl rfl l8 (Zk mB) (L_y (Iz ((o0 : Nat) : Int)) rfl rfl rfl rfl l8 (Zk rfl) (Ho fun qH nI hs => ?_)))))))))))))))
      have hfr:=hfr.ext_ hAb hs;have t5:=t5.ext hs;have i6:=i6.ext hs;have b152:=b152.ext hs;clear hs;obtain ⟨sH,gH,h⟩:=Z3 h;obtain ⟨yB,uE⟩:=sH;refine Ze (.yes2 rfl rfl l8) rfl (Fa (g:=qH) (x:=(l5,((o0:Nat):Int))) rfl (.cons rfl (.cons rfl .nil)) hRo hfr gH ⟨_,_,rfl,(Zj.2 rfl),(Zj.2 rfl)⟩ fun tH pI hs hfrY=>?_);have t5:=t5.stp hs;have i6:=i6.stp hs;have b152:=b152.stp hs rfl;have hfr:=hfrY;clear hfrY;refine Z0 (.bool (!yB)) (Wq rfl) rfl rfl l8 rfl (Zz (.bool (!yB)) (Zl (b:=(n8 != v8)) rfl (Te l8 rfl)) rfl (Zb ?_));obtain ⟨rfl,rfl⟩:=Kr h;exact hQ _ _ ⟨tH,hfr,oB,lB,t5,mB,vB,uC,i6,vC,bD,nB,b152,rfl⟩
     ·refine Tz (g := vF) (n := 14) [] [0, 1, 2, 3, 4, 5, 6, 7, 8, 9, 10, 11, 12, 13] rfl mixed (by kernel_rfl) trivial (Z2 (Str.v (g8)) rfl rfl (Zk vB) (Z2 (Iz ((o0 : Nat) : Int)) rfl rfl (Zk rfl) (Z2 (.int .u8 (UInt8.toNat (n8))) rfl rfl (Jb underlying9 rfl rfl xE) (Tv (c := aE) rfl rfl .plain (fun _ _ h => h.ch) yE lB (Z2 (Iz (l5)) rfl rfl (Zk mB) (Z2 (Tb aE l5 1) rfl rfl (Zh (α := Str) underlying61 sizeOf9 rfl rE rfl bE) (Tv (c := Str.v (nD)) rfl rfl .plain (fun _ _ h => h.ch) zE rfl (Z2 (Iz ((o0 : Nat) : Int)) rfl rfl (Zk rfl) (Z2 (.int .u8 (UInt8.toNat (v8))) rfl rfl (Jb underlying9 rfl rfl cF) (Z2 (.bool ((n8 != v8))) rfl rfl (Bg rfl rfl rfl) (Z2 (.bool ((n8 != v8))) rfl rfl (Zk rfl) ?_)))))))))))
      iterate 3 refine L_s rfl rfl rfl l8 rfl ?_
      refine Ho fun uH qI hs=>?_;have hfr:=hfr.ext_ hAb hs;have t5:=t5.ext hs;have i6:=i6.ext hs;have b152:=b152.ext hs;clear hs;refine Z1 rfl rfl l8 rfl rfl (Z1 rfl rfl l8 rfl rfl (Zz (.bool false) (Zl (b:=(n8 != v8)) rfl (Td l8 rfl)) rfl (Zb ?_)));obtain ⟨rfl,rfl⟩:=Kr h;exact hQ _ _ ⟨uH,hfr,oB,lB,t5,mB,vB,uC,i6,vC,bD,nB,b152,rfl⟩
    ·clear hx
     obtain ⟨xH,hfr,xF,yF,aG,bG,cG,eG,gG,iG,jG,dF,eF,lD⟩:=hR;rcases Zt h with ⟨iE,h⟩ | ⟨iE,h⟩
     ·refine Tj (Eq.trans (show ev _ _ = .bool (l9) from lD) (congrArg Value.bool iE)) (Gd (Tg (Gq (Tg (Tg (Gq (Gq (Tg ?_))))))))
      obtain rfl:=sinj h;exact end0 rfl rfl (FrY.done hfr)
     ·refine Gz (Eq.trans (show ev _ _ = .bool (l9) from lD) (congrArg Value.bool iE)) ?_
      exact Zu (Tc (Zd (cH (aB,(o0 + (dec g8 o0).2)) _ _ ⟨xH,hfr,xF,yF,aG,bG,cG,eG,gG,iG,jG,dF,eF⟩ h)))
   ·refine Z6 rfl (Ca (g := oE) nB cD zD (Zz (.bool false) (Zi rfl rfl) rfl (Z4 (Zf (Gz (by rw [show ev _ _ = _ from rfl]; exact congrArg Value.bool rfl) (Tu (Gy (Gy (G9 ?_)))))))))
    exact Tc (Zd (aH (n9) _ _ ⟨oE,hfr,oB,lB,t5,uC,i6,vC,bD⟩ h))
  ·rintro zB bI sI ⟨yH, hfr, kG, lG, mG, sG, xG, yG, zG⟩ h
   refine Za (Gf (Iz ((w64 (l5 + (1:Int))))) zG rfl rfl rfl (Zn (Iz ((w64 (l5 + (1:Int))))) rfl rfl ?_));exact Z4 (hk2 (zB,(w64 (l5 + (1:Int)))) _ _ ⟨yH,hfr,kG,lG,mG,sG,xG,yG,rfl⟩ h)
 ·refine G8 hc4 rfl (Tu (Gy (Gy (G9 ?_))))
  obtain rfl:=sinj h;exact H9 rfl rfl (FrY.done hfr)
def f61 (x0:Str):Option (Int):=
 Option.bind (α:=Int) (
  lp (σ:=Int × Int) (fun k7 (t5,o0)=>
   bif (decide (o0 < ((x0).b.length : Int))) then
    Option.bind (α:=Int) (
     (idx (x0).b o0).bind fun y11=>
     some ((w64 (t5 + ((y11).toNat:Int))))
     ) fun l5=>
    k7 (l5,(w64 (o0 + (1:Int))))
   else
    some (t5)
   ) big ((0:Int),(0:Int))
  ) fun i6=>
 (Hd i6 (65536:Int)).bind fun l8=>
 some (l8)
theorem en61:Enters prog 61:=enters_of func61 (by kernel_rfl) rfl
theorem wk61 {gI:Gh} {wI:World} {x0:Str}  {r:Int} (h:f61 x0=some r):Fn prog 61 #[Str.v (x0)] gI wI (fun _ _ v=>v=Iz (r)):=by
 unfold f61 at h;refine fnE func61 rfl rfl fun g0 hm hfr=>?_;show E _ 18 none _ _ _ _ _;refine Z7 (Zg (Iz (0)) rfl rfl (Z4 ?_));obtain ⟨i6,hx,h⟩:=Z3 h;refine Gs (fun e w=>∃ (g:Gh) ,Fr gI wI g w∧e 2=Iz (i6)) (fun Q' hQ=>?_) (fun cC vC hR=>?_)
 ·replace h := hx
  clear hx;refine Z7 (Zn (Str.v (x0)) rfl rfl (Zz (Iz ((x0).b.length:Int)) (Bh underlying9 rfl) rfl (Zn (Iz (0)) rfl rfl (Z4 (Zr (Wo h (fun (s:Int × Int) e w=>∃ (g:Gh) ,Fr gI wI g w∧e 0=Str.v (x0)∧e 2=Iz (s.1)∧e 5=Iz (((x0).b.length:Int))∧e 6=Iz (s.2)) ⟨g0,hfr,rfl,rfl,rfl,rfl⟩ (fun X7 k7 hk7=>?_)))))));rintro ⟨t5,o0⟩ bD w8 ⟨g8,hfr,v8,l9,n9,n8⟩ h;refine Z7 (Gf (.bool ((decide (o0 < ((x0).b.length:Int))))) n8 n9 rfl rfl (Z4 (Zf ?_)));rcases Zt h with ⟨hc9,h⟩ | ⟨hc9,h⟩
  ·refine G5 hc9 rfl (Zu (Zd ?_))
   obtain ⟨l5,hx,h⟩:=Z3 h;refine Gs (fun e w=>∃ (g:Gh) ,Fr gI wI g w∧e 0=Str.v (x0)∧e 2=Iz (l5)∧e 5=Iz (((x0).b.length:Int))∧e 6=Iz (o0)) (fun Q' hQ=>?_) (fun uC cD hR=>?_)
   ·replace h := hx
    clear hx;refine Zr (Z7 (Zo n8 rfl (Zg (Iz (o0)) rfl rfl (Z4 (Za (Zo l9 rfl (Zo v8 rfl (Zn (Iz (o0)) rfl rfl ?_))))))));obtain ⟨y11,vB,h⟩:=Z3 h;refine Zz (.int .u8 (UInt8.toNat (y11))) (Jb underlying9 rfl rfl vB) rfl (Zz (Iz (((y11).toNat:Int))) (Ku underlying5 underlying3 rfl) rfl (Gf (Iz ((w64 (t5 + ((y11).toNat:Int))))) rfl rfl rfl rfl (Zg (Iz ((w64 (t5 + ((y11).toNat:Int))))) rfl rfl (Zb (Tc ?_)))));obtain rfl:=sinj h;exact hQ _ _ ⟨g8,hfr,v8,rfl,n9,n8⟩
   ·clear hx
    obtain ⟨zB,hfr,aB,lB,mB,nB⟩:=hR;refine Za (Gf (Iz ((w64 (o0 + (1:Int))))) nB rfl rfl rfl (Zn (Iz ((w64 (o0 + (1:Int))))) rfl rfl ?_));exact Z4 (hk7 (l5,(w64 (o0 + (1:Int)))) _ _ ⟨zB,hfr,aB,lB,mB,rfl⟩ h)
  ·refine G8 hc9 rfl (Tu (Gy (Gy (G9 ?_))))
   obtain rfl:=sinj h;exact hQ _ _ ⟨g8,hfr,l9⟩
 ·clear hx
  obtain ⟨lD,hfr,oB⟩:=hR;refine Z7 (Zo oB rfl ?_);obtain ⟨l8,yB,h⟩:=Z3 h;refine Zz (Iz (l8)) (Gx rfl rfl (congrArg (Option.map (Value.int .i64)) yB)) rfl (Zg (Iz (l8)) rfl rfl (Z4 (Gd ?_)));obtain rfl:=sinj h;exact Ta rfl rfl (rq (Iz (l8))) ⟨_,hfr,rfl⟩
def f65 (x0:Int) (z0:Int) (z1:Int):Option (Bool):=
 Option.bind (α:=Bool) (
  bif (decide (x0 < z0)) then
   some (true)
  else
   some ((decide (x0 > z1)))
  ) fun o0=>
 some (o0)
theorem en65:Enters prog 65:=enters_of func65 (by kernel_rfl) rfl
theorem wk65 {gI:Gh} {wI:World} {x0:Int} {z0:Int} {z1:Int} {pf0:Value} (qf0:PT gI.m wI z0 pf0) {pf1:Value} (qf1:PT gI.m wI z1 pf1) {r:Bool} (h:f65 x0 z0 z1=some r):Fn prog 65 #[Iz (x0),pf0,pf1] gI wI (fun _ _ v=>v=.bool (r)):=by
 unfold f65 at h;refine fnE func65 rfl rfl fun g0 hm hfr=>?_;have qf0:PT g0.m wI z0 pf0:=hm ▸ qf0;have qf1:PT g0.m wI z1 pf1:=hm ▸ qf1;show E _ 13 none _ _ _ _ _;refine Z7 (Zg (.bool false) rfl rfl (Z4 ?_));obtain ⟨o0,hx,h⟩:=Z3 h;refine Gs (fun e w=>∃ (g:Gh) ,Fr gI wI g w∧e 4=.bool (o0)) (fun Q' hQ=>?_) (fun t5 w7 hR=>?_)
 ·replace h := hx
  clear hx;refine Za (Zn (Iz (x0)) rfl rfl (Z6 rfl (Z9 (g:=g0) isAgg3 sizeOf3 rfl qf0 fun v4 r4=>?_)));obtain rfl:=Zj.1 r4;refine Gf (.bool ((decide (x0 < z0)))) rfl rfl rfl rfl (Zn (.bool ((decide (x0 < z0)))) rfl rfl ?_);rcases Zt h with ⟨hc5,h⟩ | ⟨hc5,h⟩
  ·refine Z1 rfl rfl hc5 rfl rfl (Z1 rfl rfl hc5 rfl rfl (Z1 rfl rfl hc5 rfl rfl (Zz (.bool true) (Zl (b := (decide (x0 < z0))) rfl (Te hc5 rfl)) rfl (Zg (.bool true) rfl rfl (Zb ?_)))))
   obtain rfl:=sinj h;exact hQ _ _ ⟨g0,hfr,rfl⟩
  ·refine Z0 (Iz (x0)) (Zk rfl) rfl rfl hc5 rfl (Ze (.yes2 rfl rfl hc5) rfl (Z9 (g := g0) isAgg3 sizeOf3 rfl qf1 fun v6 r6 => ?_))
   obtain rfl:=Zj.1 r6;refine Z0 (.bool ((decide (x0 > z1)))) (Gx rfl rfl rfl) rfl rfl hc5 rfl (Zz (.bool ((decide (x0 > z1)))) (Zl (b:=(decide (x0 < z0))) rfl (Td hc5 rfl)) rfl (Zg (.bool ((decide (x0 > z1)))) rfl rfl (Zb ?_)));obtain rfl:=sinj h;exact hQ _ _ ⟨g0,hfr,rfl⟩
 ·clear hx
  obtain ⟨g7,hfr,l5⟩:=hR;refine Gd ?_;obtain rfl:=sinj h;exact Ta rfl rfl (show _=.bool (o0) from l5) ⟨_,hfr,rfl⟩
def f66 (x0:Int):Option (Bool):=
 some ((x0 != x0))
theorem en66:Enters prog 66:=enters_of func66 (by kernel_rfl) rfl
theorem wk66 {gI:Gh} {wI:World} {x0:Int}  {r:Bool} (h:f66 x0=some r):Fn prog 66 #[Iz (x0)] gI wI (fun _ _ v=>v=.bool (r)):=by
 unfold f66 at h;refine fnE func66 rfl rfl fun g0 hm hfr=>?_;show E _ 6 none _ _ _ _ _;refine Z7 (Zg (.bool false) rfl rfl (Z4 (Z7 (Zn (Iz (x0)) rfl rfl (Zn (Iz (x0)) rfl rfl (Gf (.bool ((x0 != x0))) rfl rfl rfl rfl (Zg (.bool ((x0 != x0))) rfl rfl (Z4 (Gd ?_)))))))));obtain rfl:=sinj h;exact Ta rfl rfl (rq (.bool ((x0 != x0)))) ⟨_,hfr,rfl⟩
def f73 (x0:List Str):Option ((List Str)):=
 jn (σ:=Unit) (fun _=>
  jn (σ:=Unit) (fun _=>
   some (x0)
   ) fun k53=>
  lp (σ:=Int) (fun k54 o0=>
   jn (σ:=Unit) (fun _=>
    jn (σ:=Unit) (fun _=>
     k54 ((w64 (o0 + (1:Int))))
     ) fun cC=>
    (idx x0 o0).bind fun l9=>
    (idx x0 (w64 (o0 - (1:Int)))).bind fun n9=>
    bif ((l9).b == (n9).b) then
     none
    else
     cC ()
    ) fun k57=>
   bif (decide (o0 < ((x0).length : Int))) then
    k57 ()
   else
    k53 ()
   ) big ((1:Int))
  ) fun k2=>
 bif (decide (((x0).length : Int) < (2 : Int))) then
  some (x0)
 else
  k2 ()
theorem en73:Enters prog 73:=enters_of func73 (by kernel_rfl) rfl
theorem wk73 {gI:Gh} {wI:World} {x0:List Str} {up0:Value} (rp0:RV gI.m wI x0 up0) {r:(List Str)} (h:f73 x0=some r):Fn prog 73 #[up0] gI wI (fun m w v=>RV m w (r) v):=by
 unfold f73 at h;refine fnE func73 rfl rfl fun g0 hm hfr=>?_;have rp0:=RVc hm rp0;show E _ 61 none _ _ _ _ _;refine Z7 (Zg (.slice none 0 0) rfl rfl (Z4 (Zq h (fun (s:Unit) e w=>∃ (g:Gh) ,Fr gI wI g w∧e 0=up0∧RV g.m w (x0:List Str) up0) (fun X2 k2 hk2 h=>?_) ?_)))
 ·refine Z7 (Zn up0 rfl rfl (Zz (Iz ((x0).length : Int)) (Tr underlying61 rfl rp0) rfl (Gf (.bool ((decide (((x0).length : Int) < (2 : Int))))) rfl rfl rfl rfl (Z4 ?_))))
  rcases Zt h with ⟨hc3,h⟩ | ⟨hc3,h⟩
  ·refine G5 hc3 rfl (Z7 (Zn up0 rfl rfl (Zg up0 rfl rfl (Z4 (Gd (Gq ?_))))))
   obtain rfl:=sinj h;exact Ta rfl rfl (rq up0) ⟨_,hfr,rp0⟩
  ·refine G8 hc3 rfl ?_
   exact Zu (Zd (hk2 () _ _ ⟨g0,hfr,rfl,rp0⟩ h))
 ·rintro _ eF w4 ⟨g4, hfr, vC, bD⟩ h
  refine Zq h (fun (s:Unit) e w=>∃ (g:Gh) ,Fr gI wI g w∧e 0=up0∧RV g.m w (x0:List Str) up0) (fun X53 k53 cD h=>?_) ?_
  ·refine Z7 (Zg (Iz (1)) rfl rfl (Z4 (Zr (Wo h (fun (s : Int) e w => ∃ (g : Gh) , Fr gI wI g w ∧ e 0 = up0 ∧ RV g.m w (x0 : List Str) up0 ∧ e 3 = Iz (s)) ⟨g4, hfr, vC, bD, rfl⟩ (fun X54 k54 lD => ?_)))))
   rintro o0 xE rF ⟨uC,hfr,g8,l8,aB⟩ h;refine Zq h (fun (s:Unit) e w=>∃ (g:Gh) ,Fr gI wI g w∧e 0=up0∧RV g.m w (x0:List Str) up0∧e 3=Iz (o0)) (fun X57 k57 nD h=>?_) ?_
   ·refine Z7 (Zo aB rfl (Zo g8 rfl (Zz (Iz ((x0).length : Int)) (Tr underlying61 rfl l8) rfl (Gf (.bool ((decide (o0 < ((x0).length : Int))))) rfl rfl rfl rfl (Z4 ?_)))))
    rcases Zt h with ⟨v8,h⟩ | ⟨v8,h⟩
    ·refine G5 v8 rfl ?_
     exact Zu (Zd (nD () _ _ ⟨uC,hfr,g8,l8,aB⟩ h))
    ·refine G8 v8 rfl (Tu (Gy (Gy (G9 ?_))))
     exact Zd (cD () _ _ ⟨uC,hfr,g8,l8⟩ h)
   ·rintro _ yE sF ⟨bE, hfr, t5, l5, i6⟩ h
    refine Zq h (fun (s:Unit) e w=>∃ (g:Gh) ,Fr gI wI g w∧e 0=up0∧RV g.m w (x0:List Str) up0∧e 3=Iz (o0)) (fun X81 cC oD h=>?_) ?_
    ·refine Zr (Zf ?_)
     obtain ⟨l9,lB,h⟩:=Z3 h;have iE:=Tp l5 lB;refine Zs (x:=.tmp 18) isAgg9 sizeOf9 iE fun tF lE yD=>?_;obtain rfl:=Qt.1 lE;obtain ⟨n9,mB,h⟩:=Z3 h;have mE:=Tp l5 mB;refine Zs (x:=.tmp 23) isAgg9 sizeOf9 mE fun uF oE zD=>?_;obtain rfl:=Qt.1 oE;refine Tz (g:=bE) (n:=10) [] [0,1,2,3,4,5,6,7,8,9] rfl mixed (by kernel_rfl) trivial (Z2 up0 rfl rfl (Zk t5) (Z2 (Iz (o0)) rfl rfl (Zk i6) (Z2 (Tb up0 o0 1) rfl rfl (Zh (α:=Str) underlying61 sizeOf9 rfl l5 rfl lB) (Tv (c:=Str.v (l9)) rfl rfl .plain (fun _ _ h=>h.ch) yD rfl (Z2 up0 rfl rfl (Zk t5) (Z2 (Iz (o0)) rfl rfl (Zk i6) (Z2 (Iz ((w64 (o0 - (1:Int))))) rfl rfl (Gx rfl rfl rfl) (Z2 (Tb up0 (w64 (o0 - (1:Int))) 1) rfl rfl (Zh (α:=Str) underlying61 sizeOf9 rfl l5 rfl mB) (Tv (c:=Str.v (n9)) rfl rfl .plain (fun _ _ h=>h.ch) zD rfl (Z2 (.bool (((l9).b == (n9).b))) rfl rfl (Xb rfl rfl rfl) (Ho fun rE vF hs=>?_)))))))))));have hfr:=hfr.ext hs;have l5:=l5.ext hs;clear hs;refine Z4 ?_;rcases Zt h with ⟨n8,h⟩ | ⟨n8,h⟩
     ·refine G5 n8 rfl (Z7 (Zo t5 rfl (Zo i6 rfl ?_)))
      cases h
     ·refine G8 n8 rfl ?_
      exact Zu (Tc (Zd (oD () _ _ ⟨rE,hfr,t5,l5,i6⟩ h)))
    ·rintro _ uE zE ⟨aE, hfr, nB, oB, vB⟩ h
     refine Za (Zo vB rfl (Gf (Iz ((w64 (o0 + (1:Int))))) rfl rfl rfl rfl (Zg (Iz ((w64 (o0 + (1:Int))))) rfl rfl ?_)));exact Z4 (lD ((w64 (o0 + (1:Int)))) _ _ ⟨aE,hfr,nB,oB,rfl⟩ h)
  ·rintro _ vE cF ⟨dF, hfr, yB, zB⟩ h
   refine Z7 (Zo yB rfl (Zg up0 rfl rfl (Z4 (Gd ?_))));obtain rfl:=sinj h;exact Ta rfl rfl (rq up0) ⟨_,hfr,zB⟩
def f75 (x0:List Gn) (x1:Gn→Option Bool):Option (Int):=
 jn (σ:=Unit) (fun _=>
  some ((-1:Int))
  ) fun k18=>
 lp (σ:=Int) (fun k19 o0=>
  bif (decide (o0 < ((x0).length : Int))) then
   jn (σ:=Unit) (fun _=>
    k19 ((w64 (o0 + (1:Int))))
    ) fun k28=>
   (idx x0 o0).bind fun vB=>
   (x1 vB).bind fun yB=>
   bif yB then
    some (o0)
   else
    k28 ()
  else
   k18 ()
  ) big ((0:Int))
theorem en75:Enters prog 75:=enters_of func75 (by kernel_rfl) rfl
theorem wk75 {gI:Gh} {wI:World} {x0:List Gn} {x1:Gn→Option Bool} {up0:Value} (rp0:RV gI.m wI x0 up0) {up1:Value} (rp1:Jf prog x1 up1 gI wI) {r:Int} (h:f75 x0 x1=some r):Fn prog 75 #[up0,up1] gI wI (fun _ _ v=>v=Iz (r)):=by
 unfold f75 at h;refine fnE func75 rfl rfl fun g0 hm hfr=>?_;have rp0:=RVc hm rp0;obtain ⟨ff1,fa1,fc1,rfl,fen1,fcl1⟩:=rp1;show E _ 19 none _ _ _ _ _;refine Z7 (Zg (Iz (0)) rfl rfl (Z4 (Zq h (fun (s:Unit) e w=>∃ (g:Gh) ,Fr gI wI g w) (fun X18 k18 zB h=>?_) ?_)))
 ·refine Z7 (Zn up0 rfl rfl (Zz (Iz ((x0).length : Int)) (Tr underlying36 rfl rp0) rfl (Zn (Iz (0)) rfl rfl (Z4 (Zr (Wo h (fun (s : Int) e w => ∃ (g : Gh) , Fr gI wI g w ∧ e 0 = up0 ∧ RV g.m w (x0 : List Gn) up0 ∧ e 1 = (.func (.func ff1) fa1 fc1) ∧ e 7 = Iz (((x0).length : Int)) ∧ e 8 = Iz (s)) ⟨g0, hfr, rfl, rp0, rfl, rfl, rfl⟩ (fun X19 k19 cC => ?_)))))))
  rintro o0 yD bE ⟨l9,hfr,l8,l5,n8,v8,t5⟩ h;refine Z7 (Gf (.bool ((decide (o0 < ((x0).length:Int))))) t5 v8 rfl rfl (Z4 (Zf ?_)));rcases Zt h with ⟨i6,h⟩ | ⟨i6,h⟩
  ·refine G5 i6 rfl (Zu (Zd (Zq h (fun (s : Unit) e w => ∃ (g : Gh) , Fr gI wI g w ∧ e 0 = up0 ∧ RV g.m w (x0 : List Gn) up0 ∧ e 1 = (.func (.func ff1) fa1 fc1) ∧ e 7 = Iz (((x0).length : Int)) ∧ e 8 = Iz (o0)) (fun X28 k28 uC h => ?_) ?_)))
   ·refine Zr (Z7 (Zo t5 rfl (Zg (Iz (o0)) rfl rfl (Z4 (Z7 (Zo n8 rfl (Zo l8 rfl (Zn (Iz (o0)) rfl rfl ?_))))))))
    obtain ⟨vB,n9,h⟩:=Z3 h;refine Zz (Tb up0 o0 3) (Zh (α:=Gn) underlying36 sizeOf76 rfl l5 rfl n9) rfl ?_;have bD:=Tp l5 n9;refine Z6 rfl (Z9 (g:=l9) isAgg76 sizeOf76 rfl bD fun cD lD=>?_);obtain ⟨yB,vC,h⟩:=Z3 h;refine Z6 rfl (Jd (g:=l9) (vs:=[cD]) rfl fen1 (.cons rfl .nil) (fcl1 _ _ hfr.ch _ _ _  lD vC) fun nD iE lE hs hr=>?_);have hfr:=hfr.ext hs;have l5:=l5.ext hs;obtain rfl:=Qm.1 hr;refine Z4 ?_;rcases Zt h with ⟨g8,h⟩ | ⟨g8,h⟩
    ·refine G5 g8 rfl (Z7 (Zn (Iz (o0)) rfl rfl (Zg (Iz (o0)) rfl rfl (Z4 (Gd (Tg (Gq (Gq (Tg (Gq ?_))))))))))
     obtain rfl:=sinj h;exact Ta rfl rfl (rq (Iz (o0))) ⟨_,hfr,rfl⟩
    ·refine G8 g8 rfl ?_
     exact Zu (Tc (Zd (uC () _ _ ⟨nD,hfr,l8,l5,n8,v8,t5⟩ h)))
   ·rintro _ zD mE ⟨oD, hfr, aB, lB, mB, nB, oB⟩ h
    refine Za (Gf (Iz ((w64 (o0 + (1:Int))))) oB rfl rfl rfl (Zn (Iz ((w64 (o0 + (1:Int))))) rfl rfl ?_));exact Z4 (cC ((w64 (o0 + (1:Int)))) _ _ ⟨oD,hfr,aB,lB,mB,nB,rfl⟩ h)
  ·refine G8 i6 rfl (Tu (Gy (Gy (G9 ?_))))
   exact Zd (zB () _ _ ⟨l9,hfr⟩ h)
 ·rintro _ aE oE ⟨rE, hfr⟩ h
  refine Z7 (Zg (Iz (-1)) rfl rfl (Z4 (Gd ?_)));obtain rfl:=sinj h;exact Ta rfl rfl (rq (Iz (-1))) ⟨_,hfr,rfl⟩
def f76 (x0:List Gc) (x1:Gc→Option Bool):Option (Int):=
 jn (σ:=Unit) (fun _=>
  some ((-1:Int))
  ) fun k18=>
 lp (σ:=Int) (fun k19 o0=>
  bif (decide (o0 < ((x0).length : Int))) then
   jn (σ:=Unit) (fun _=>
    k19 ((w64 (o0 + (1:Int))))
    ) fun k28=>
   (idx x0 o0).bind fun vB=>
   (x1 vB).bind fun yB=>
   bif yB then
    some (o0)
   else
    k28 ()
  else
   k18 ()
  ) big ((0:Int))
theorem en76:Enters prog 76:=enters_of func76 (by kernel_rfl) rfl
theorem wk76 {gI:Gh} {wI:World} {x0:List Gc} {x1:Gc→Option Bool} {up0:Value} (rp0:RV gI.m wI x0 up0) {up1:Value} (rp1:Jf prog x1 up1 gI wI) {r:Int} (h:f76 x0 x1=some r):Fn prog 76 #[up0,up1] gI wI (fun _ _ v=>v=Iz (r)):=by
 unfold f76 at h;refine fnE func76 rfl rfl fun g0 hm hfr=>?_;have rp0:=RVc hm rp0;obtain ⟨ff1,fa1,fc1,rfl,fen1,fcl1⟩:=rp1;show E _ 19 none _ _ _ _ _;refine Z7 (Zg (Iz (0)) rfl rfl (Z4 (Zq h (fun (s:Unit) e w=>∃ (g:Gh) ,Fr gI wI g w) (fun X18 k18 zB h=>?_) ?_)))
 ·refine Z7 (Zn up0 rfl rfl (Zz (Iz ((x0).length : Int)) (Tr underlying37 rfl rp0) rfl (Zn (Iz (0)) rfl rfl (Z4 (Zr (Wo h (fun (s : Int) e w => ∃ (g : Gh) , Fr gI wI g w ∧ e 0 = up0 ∧ RV g.m w (x0 : List Gc) up0 ∧ e 1 = (.func (.func ff1) fa1 fc1) ∧ e 7 = Iz (((x0).length : Int)) ∧ e 8 = Iz (s)) ⟨g0, hfr, rfl, rp0, rfl, rfl, rfl⟩ (fun X19 k19 cC => ?_)))))))
  rintro o0 yD bE ⟨l9,hfr,l8,l5,n8,v8,t5⟩ h;refine Z7 (Gf (.bool ((decide (o0 < ((x0).length:Int))))) t5 v8 rfl rfl (Z4 (Zf ?_)));rcases Zt h with ⟨i6,h⟩ | ⟨i6,h⟩
  ·refine G5 i6 rfl (Zu (Zd (Zq h (fun (s : Unit) e w => ∃ (g : Gh) , Fr gI wI g w ∧ e 0 = up0 ∧ RV g.m w (x0 : List Gc) up0 ∧ e 1 = (.func (.func ff1) fa1 fc1) ∧ e 7 = Iz (((x0).length : Int)) ∧ e 8 = Iz (o0)) (fun X28 k28 uC h => ?_) ?_)))
   ·refine Zr (Z7 (Zo t5 rfl (Zg (Iz (o0)) rfl rfl (Z4 (Z7 (Zo n8 rfl (Zo l8 rfl (Zn (Iz (o0)) rfl rfl ?_))))))))
    obtain ⟨vB,n9,h⟩:=Z3 h;refine Zz (Tb up0 o0 3) (Zh (α:=Gc) underlying37 sizeOf48 rfl l5 rfl n9) rfl ?_;have bD:=Tp l5 n9;refine Z6 rfl (Z9 (g:=l9) isAgg48 sizeOf48 rfl bD fun cD lD=>?_);obtain ⟨yB,vC,h⟩:=Z3 h;refine Z6 rfl (Jd (g:=l9) (vs:=[cD]) rfl fen1 (.cons rfl .nil) (fcl1 _ _ hfr.ch _ _ _  lD vC) fun nD iE lE hs hr=>?_);have hfr:=hfr.ext hs;have l5:=l5.ext hs;obtain rfl:=Qm.1 hr;refine Z4 ?_;rcases Zt h with ⟨g8,h⟩ | ⟨g8,h⟩
    ·refine G5 g8 rfl (Z7 (Zn (Iz (o0)) rfl rfl (Zg (Iz (o0)) rfl rfl (Z4 (Gd (Tg (Gq (Gq (Tg (Gq ?_))))))))))
     obtain rfl:=sinj h;exact Ta rfl rfl (rq (Iz (o0))) ⟨_,hfr,rfl⟩
    ·refine G8 g8 rfl ?_
     exact Zu (Tc (Zd (uC () _ _ ⟨nD,hfr,l8,l5,n8,v8,t5⟩ h)))
   ·rintro _ zD mE ⟨oD, hfr, aB, lB, mB, nB, oB⟩ h
    refine Za (Gf (Iz ((w64 (o0 + (1:Int))))) oB rfl rfl rfl (Zn (Iz ((w64 (o0 + (1:Int))))) rfl rfl ?_));exact Z4 (cC ((w64 (o0 + (1:Int)))) _ _ ⟨oD,hfr,aB,lB,mB,nB,rfl⟩ h)
  ·refine G8 i6 rfl (Tu (Gy (Gy (G9 ?_))))
   exact Zd (zB () _ _ ⟨l9,hfr⟩ h)
 ·rintro _ aE oE ⟨rE, hfr⟩ h
  refine Z7 (Zg (Iz (-1)) rfl rfl (Z4 (Gd ?_)));obtain rfl:=sinj h;exact Ta rfl rfl (rq (Iz (-1))) ⟨_,hfr,rfl⟩
def f82 (x0:Gr) (x1:Int) (x2:Int):Option (Int):=
 (Hd (w64 (x1 + x2)) ((((x0).ChainBelt).Cards).length:Int)).bind fun y5=>
 some (y5)
theorem en82:Enters prog 82:=enters_of func82 (by kernel_rfl) rfl
theorem wk82 {gI:Gh} {wI:World} {x0:Gr} {x1:Int} {x2:Int} {up0:Value} (rp0:RV gI.m wI x0 up0) {r:Int} (h:f82 x0 x1 x2=some r):Fn prog 82 #[up0,Iz (x1),Iz (x2)] gI wI (fun _ _ v=>v=Iz (r)):=by
 unfold f82 at h;refine fnE func82 rfl rfl fun g0 hm hfr=>?_;have rp0:=RVc hm rp0;show E _ 15 none _ _ _ _ _;refine Z7 (Z6 rfl (Tq (g:=g0) rfl rp0 fun g1 w1 p1 hs q1=>?_));have hfr:=hfr.ext hs;refine Zg (Iz (0)) rfl rfl (Z4 (Z7 (Zn (Iz (x1)) rfl rfl (Zn (Iz (x2)) rfl rfl (Gf (Iz ((w64 (x1 + x2)))) rfl rfl rfl rfl (Zz (Ga p1 0) (Zc Sn rfl (PT.ptr q1)) rfl ?_))))));have q2:=Zm (K8).1 q1;refine Zz (Ga (Ga p1 0) 1) (Zc Hx rfl (PT.ptr q2)) rfl ?_;have q3:=Zm (Qf).1 q2;refine Z6 rfl (Z9 (g:=g1) isAgg44 sizeOf44 rfl q3 fun v4 r4=>(Zz (Iz ((((x0).ChainBelt).Cards).length:Int)) (Tr underlying44 rfl r4) rfl ?_));obtain ⟨y5,hy5,h⟩:=Z3 h;refine Zz (Iz (y5)) (Gx rfl rfl (congrArg (Option.map (Value.int .i64)) hy5)) rfl (Zg (Iz (y5)) rfl rfl (Z4 (Gd ?_)));obtain rfl:=sinj h;exact Ta rfl rfl (rq (Iz (y5))) ⟨_,hfr,rfl⟩
def f90 (x0:Int) (z0:Int) (z1:Int):Option (Bool):=
 Option.bind (α:=Bool) (
  bif (decide (x0 < z0)) then
   some (true)
  else
   some ((decide (x0 > z1)))
  ) fun o0=>
 some (o0)
theorem en90:Enters prog 90:=enters_of func90 (by kernel_rfl) rfl
theorem wk90 {gI:Gh} {wI:World} {x0:Int} {z0:Int} {z1:Int} {pf0:Value} (qf0:PT gI.m wI z0 pf0) {pf1:Value} (qf1:PT gI.m wI z1 pf1) {r:Bool} (h:f90 x0 z0 z1=some r):Fn prog 90 #[Iz (x0),pf0,pf1] gI wI (fun _ _ v=>v=.bool (r)):=by
 unfold f90 at h;refine fnE func90 rfl rfl fun g0 hm hfr=>?_;have qf0:PT g0.m wI z0 pf0:=hm ▸ qf0;have qf1:PT g0.m wI z1 pf1:=hm ▸ qf1;show E _ 13 none _ _ _ _ _;refine Z7 (Zg (.bool false) rfl rfl (Z4 ?_));obtain ⟨o0,hx,h⟩:=Z3 h;refine Gs (fun e w=>∃ (g:Gh) ,Fr gI wI g w∧e 4=.bool (o0)) (fun Q' hQ=>?_) (fun t5 w7 hR=>?_)
 ·replace h := hx
  clear hx;refine Za (Zn (Iz (x0)) rfl rfl (Z6 rfl (Z9 (g:=g0) isAgg3 sizeOf3 rfl qf0 fun v4 r4=>?_)));obtain rfl:=Zj.1 r4;refine Gf (.bool ((decide (x0 < z0)))) rfl rfl rfl rfl (Zn (.bool ((decide (x0 < z0)))) rfl rfl ?_);rcases Zt h with ⟨hc5,h⟩ | ⟨hc5,h⟩
  ·refine Z1 rfl rfl hc5 rfl rfl (Z1 rfl rfl hc5 rfl rfl (Z1 rfl rfl hc5 rfl rfl (Zz (.bool true) (Zl (b := (decide (x0 < z0))) rfl (Te hc5 rfl)) rfl (Zg (.bool true) rfl rfl (Zb ?_)))))
   obtain rfl:=sinj h;exact hQ _ _ ⟨g0,hfr,rfl⟩
  ·refine Z0 (Iz (x0)) (Zk rfl) rfl rfl hc5 rfl (Ze (.yes2 rfl rfl hc5) rfl (Z9 (g := g0) isAgg3 sizeOf3 rfl qf1 fun v6 r6 => ?_))
   obtain rfl:=Zj.1 r6;refine Z0 (.bool ((decide (x0 > z1)))) (Gx rfl rfl rfl) rfl rfl hc5 rfl (Zz (.bool ((decide (x0 > z1)))) (Zl (b:=(decide (x0 < z0))) rfl (Td hc5 rfl)) rfl (Zg (.bool ((decide (x0 > z1)))) rfl rfl (Zb ?_)));obtain rfl:=sinj h;exact hQ _ _ ⟨g0,hfr,rfl⟩
 ·clear hx
  obtain ⟨g7,hfr,l5⟩:=hR;refine Gd ?_;obtain rfl:=sinj h;exact Ta rfl rfl (show _=.bool (o0) from l5) ⟨_,hfr,rfl⟩
def f92 (x0:Gl) (x1:Zv) (x2:List Int):Option ((List Int)):=
 (idx x2 (x1).Pick).bind fun y5=>
 (Hb (1:Int) (x1).Hook).bind fun y9=>
 (idx x2 (x1).Pick).bind fun t5=>
 some ((List.set x2 (Int.toNat (x1).Pick) ((Qd .xor y5 y9))))
theorem en92:Enters prog 92:=enters_of func92 (by kernel_rfl) rfl
theorem wk92 {iI:Nat} {gI:Gh} {wI:World} {x0:Gl} {x1:Zv} {x2:List Int} {up0:Value} (rp0:RV gI.m wI x0 up0) {up1:Value} (rp1:RV gI.m wI x1 up1) {up2:Value} (mp2:OM iI gI wI 3 x2 up2) {up3:Value} {r:(List Int)} (h:f92 x0 x1 x2=some r):FnM prog 92 #[up0,up1,up2,up3] iI gI wI (fun g w v=>v=.tuple #[]∧OM iI g w 3 r up2):=by
 unfold f92 at h;refine K5 func92 rfl (Nat.le_of_ble_eq_true rfl) fun g0 hm hfr=>?_;have l5:=mp2;replace mp2:=mp2.enter;rw [← hm] at mp2
 replace hm:g0.m=gI.m:=by rw [hm]
 have rp0:=RVc hm rp0;have rp1:=RVc hm rp1;show E _ 18 none _ _ _ _ _;refine Z7 (Z6 rfl (Tq (g:=g0) rfl rp0 fun g1 w1 p1 hs q1=>?_));have hfr:=hfr.ext hs;have rp1:=rp1.ext hs;have mp2:=mp2.ext hs;refine Z6 rfl (Tq (g:=g1) rfl rp1 fun g2 w2 p2 hs q2=>?_);have hfr:=hfr.ext hs;have mp2:=mp2.ext hs;refine Z4 ?_;have q3:=Zm (Tl).1 q2;refine Zs (x:=.tmp 9) isAgg3 sizeOf3 q3 fun v4 r4 i6=>?_;obtain rfl:=Zj.1 r4;obtain ⟨y5,hy5,h⟩:=Z3 h;refine Ha (x:=.tmp 11) isAgg3 sizeOf3 mp2 hy5 fun v6 r6 g8=>?_;obtain rfl:=Zj.1 r6;have q7:=Zm (T8).1 q2;refine Zs (x:=.tmp 13) isAgg3 sizeOf3 q7 fun v8 r8 l8=>?_;obtain rfl:=Zj.1 r8;obtain ⟨y9,n8,h⟩:=Z3 h;obtain ⟨t5,o0,h⟩:=Z3 h;refine Tz (g:=g2) (n:=10) [] [0,1,2,3,4,5,6,7,8,9] rfl mixed (by kernel_rfl) trivial (Z2 up2 rfl rfl (Zk rfl) (Z2 (Ga p2 1) rfl rfl (Zc Hc rfl (PT.ptr q2)) (Tv (c:=Iz ((x1).Pick)) rfl rfl .plain (fun _ _ h=>h.ch) i6 rfl (Z2 (Tb up2 (x1).Pick 1) rfl rfl (G0 (α:=Int) underlying24 sizeOf3 rfl mp2 rfl hy5) (Tv (c:=Iz (y5)) rfl rfl .plain (fun _ _ h=>⟨h.ch,fun b hb _=>h.below.block b hb⟩) g8 rfl (Z2 (Ga p2 2) rfl rfl (Zc Jc rfl (PT.ptr q2)) (Tv (c:=Iz ((x1).Hook)) rfl rfl .plain (fun _ _ h=>h.ch) l8 rfl (Z2 (Iz (y9)) rfl rfl (Gx rfl rfl (congrArg (Option.map (Value.int .i64)) n8)) (Z2 (Iz ((Qd .xor y5 y9))) rfl rfl (Gx rfl rfl rfl) (Z2 (Tb up2 (x1).Pick 1) rfl rfl (G0 (α:=Int) underlying24 sizeOf3 rfl mp2 rfl o0) (Ho fun l9 n9 hs=>?_)))))))))));have hfr:=hfr.ext hs;have mp2:=mp2.ext hs;clear hs;refine Z6 rfl (Kl (g:=l9) (α:=Int) (a':=((Qd .xor y5 y9))) sizeOf3 rfl mp2 o0 rfl (Zj.2 rfl) fun aB lB hs b28=>?_);have hfr:=hfr.stp hs;refine Zb ?_;obtain rfl:=sinj h;exact H9 rfl rfl ⟨_,hfr,rfl,l5.back b28⟩
def f93 (x0:Gl) (x1:Zv) (x2:List Int):Option ((List Int)):=
 lp (σ:=(List Int) × Int) (fun k3 (t5,o0)=>
  bif (decide (o0 < ((x2).length : Int))) then
   Option.bind (α:=(List Int)) (
    (idx t5 o0).bind fun y70=>
    (Hb (1:Int) (x1).Hook).bind fun y74=>
    (idx t5 o0).bind fun uE=>
    bif (!(x1).Up) then
     (idx ((List.set t5 (Int.toNat o0) ((Qd .or y70 y74)))) o0).bind fun aB=>
     (Hb (1:Int) (x1).Hook).bind fun n8=>
     (idx ((List.set t5 (Int.toNat o0) ((Qd .or y70 y74)))) o0).bind fun yD=>
     some ((List.set ((List.set t5 (Int.toNat o0) ((Qd .or y70 y74)))) (Int.toNat o0) ((Qd .xor aB n8))))
    else
     some ((List.set t5 (Int.toNat o0) ((Qd .or y70 y74))))
    ) fun g8=>
   k3 (g8,(w64 (o0 + (1:Int))))
  else
   some (t5)
  ) big (x2,(0:Int))
theorem en93:Enters prog 93:=enters_of func93 (by kernel_rfl) rfl
theorem wk93 {iI:Nat} {gI:Gh} {wI:World} {x0:Gl} {x1:Zv} {x2:List Int} {up0:Value} (rp0:RV gI.m wI x0 up0) {up1:Value} (rp1:RV gI.m wI x1 up1) {up2:Value} (mp2:OM iI gI wI 3 x2 up2) {up3:Value} {r:(List Int)} (h:f93 x0 x1 x2=some r):FnM prog 93 #[up0,up1,up2,up3] iI gI wI (fun g w v=>v=.tuple #[]∧OM iI g w 3 r up2):=by
 unfold f93 at h;refine K5 func93 rfl (Nat.le_of_ble_eq_true rfl) fun g0 hm hfr=>?_;have lD:=mp2;replace mp2:=mp2.enter;rw [← hm] at mp2
 replace hm:g0.m=gI.m:=by rw [hm]
 have rp0:=RVc hm rp0;have rp1:=RVc hm rp1;show E _ 36 none _ _ _ _ _;refine Z7 (Z6 rfl (Tq (g:=g0) rfl rp0 fun g1 w1 p1 hs q1=>?_));have hfr:=hfr.ext hs;have rp1:=rp1.ext hs;have mp2:=mp2.ext hs;refine Z6 rfl (Tq (g:=g1) rfl rp1 fun g2 w2 p2 hs q2=>?_);have hfr:=hfr.ext hs;have mp2:=mp2.ext hs;refine Z4 (Z7 (Zn up2 rfl rfl (Zz (Iz ((x2).length:Int)) (Vo underlying24 rfl mp2) rfl (Zn (Iz (0)) rfl rfl (Z4 (Zr (Wo h (fun (s:(List Int) × Int) e w=>∃ (g:Gh) ,FrM iI gI wI g w∧e 2=up2∧OM 1 g w 3 (s.1:List Int) up2∧e 5=p2∧PT g.m w (x1:Zv) p2∧e 10=Iz (((x2).length:Int))∧e 11=Iz (s.2)) ⟨g2,hfr,rfl,mp2,rfl,q2,rfl,rfl⟩ (fun X3 k3 hk3=>?_))))))));rintro ⟨t5,o0⟩ yF w4 ⟨g4,hfr,l9,i6,v8,l5,n9,l8⟩ h;refine Z7 (Gf (.bool ((decide (o0 < ((x2).length:Int))))) l8 n9 rfl rfl (Z4 (Zf ?_)));rcases Zt h with ⟨hc5,h⟩ | ⟨hc5,h⟩
 ·refine G5 hc5 rfl (Zu (Zd ?_))
  obtain ⟨g8,hx,h⟩:=Z3 h;refine Gs (fun e w=>∃ (g:Gh) ,FrM iI gI wI g w∧e 2=up2∧OM 1 g w 3 (g8:List Int) up2∧e 5=p2∧PT g.m w (x1:Zv) p2∧e 10=Iz (((x2).length:Int))∧e 11=Iz (o0)) (fun Q' hQ=>?_) (fun sF tF hR=>?_)
  ·replace h := hx
   clear hx;refine Zr (Z7 (Zo l8 rfl (Zg (Iz (o0)) rfl rfl (Z4 (Zf ?_)))));obtain ⟨y70,vB,h⟩:=Z3 h;refine Ha (x:=.tmp 16) isAgg3 sizeOf3 i6 vB fun aG vE zD=>?_;obtain rfl:=Zj.1 vE;have xE:=Zm (T8).1 l5;refine Zs (x:=.tmp 18) isAgg3 sizeOf3 xE fun bG yE aE=>?_;obtain rfl:=Zj.1 yE;obtain ⟨y74,bE,h⟩:=Z3 h;obtain ⟨uE,yB,h⟩:=Z3 h;refine Tz (g:=g4) (n:=9) [] [0,1,2,3,4,5,6,7,8] rfl mixed (by kernel_rfl) trivial (Z2 up2 rfl rfl (Zk l9) (Z2 (Iz (o0)) rfl rfl (Zk rfl) (Z2 (Tb up2 o0 1) rfl rfl (G0 (α:=Int) underlying24 sizeOf3 rfl i6 rfl vB) (Tv (c:=Iz (y70)) rfl rfl .plain (fun _ _ h=>⟨h.ch,fun b hb _=>h.below.block b hb⟩) zD rfl (Z2 (Ga p2 2) rfl rfl (Zc Jc v8 (PT.ptr l5)) (Tv (c:=Iz ((x1).Hook)) rfl rfl .plain (fun _ _ h=>h.ch) aE rfl (Z2 (Iz (y74)) rfl rfl (Gx rfl rfl (congrArg (Option.map (Value.int .i64)) bE)) (Z2 (Iz ((Qd .or y70 y74))) rfl rfl (Gx rfl rfl rfl) (Z2 (Tb up2 o0 1) rfl rfl (G0 (α:=Int) underlying24 sizeOf3 rfl i6 rfl yB) (Ho fun zE cG hs=>?_))))))))));have hfr:=hfr.ext hs;have i6:=i6.ext hs;have l5:=l5.ext hs;clear hs;refine Z6 rfl (Kl (g:=zE) (α:=Int) (a':=((Qd .or y70 y74))) sizeOf3 rfl i6 yB rfl (Zj.2 rfl) fun zB eG hs b93=>?_);have hfr:=hfr.stp hs;have l5:=l5.stp hs;refine Z4 (Z7 (Zz (Ga p2 4) (Zc Sa v8 (PT.ptr l5)) rfl ?_));have cF:=Zm (Ky).1 l5;refine Z6 rfl (Z9 (g:=zB) isAgg4 sizeOf4 rfl cF fun gG dF=>?_);obtain rfl:=Qm.1 dF;refine Zz (.bool (!(x1).Up)) (Wq rfl) rfl (Z4 ?_);rcases Zt h with ⟨lB,h⟩ | ⟨lB,h⟩
   ·refine G5 lB rfl ?_
    obtain ⟨aB,cC,h⟩:=Z3 h;refine Ha (x:=.tmp 28) isAgg3 sizeOf3 b93 cC fun iG eF iE=>?_;obtain rfl:=Zj.1 eF;have rF:=Zm (T8).1 l5;refine Zs (x:=.tmp 30) isAgg3 sizeOf3 rF fun uF lE nD=>?_;obtain rfl:=Zj.1 lE;obtain ⟨n8,oD,h⟩:=Z3 h;obtain ⟨yD,mB,h⟩:=Z3 h;refine Tz (g:=zB) (n:=9) [] [0,1,2,3,4,5,6,7,8] rfl mixed (by kernel_rfl) trivial (Z2 up2 rfl rfl (Zk l9) (Z2 (Iz (o0)) rfl rfl (Zk rfl) (Z2 (Tb up2 o0 1) rfl rfl (G0 (α:=Int) underlying24 sizeOf3 rfl b93 rfl cC) (Tv (c:=Iz (aB)) rfl rfl .plain (fun _ _ h=>⟨h.ch,fun b hb _=>h.below.block b hb⟩) iE rfl (Z2 (Ga p2 2) rfl rfl (Zc Jc v8 (PT.ptr l5)) (Tv (c:=Iz ((x1).Hook)) rfl rfl .plain (fun _ _ h=>h.ch) nD rfl (Z2 (Iz (n8)) rfl rfl (Gx rfl rfl (congrArg (Option.map (Value.int .i64)) oD)) (Z2 (Iz ((Qd .xor aB n8))) rfl rfl (Gx rfl rfl rfl) (Z2 (Tb up2 o0 1) rfl rfl (G0 (α:=Int) underlying24 sizeOf3 rfl b93 rfl mB) (Ho fun mE vF hs=>?_))))))))));have hfr:=hfr.ext hs;have b93:=b93.ext hs;have l5:=l5.ext hs;clear hs;refine Z6 rfl (Kl (g:=mE) (α:=Int) (a':=((Qd .xor aB n8))) sizeOf3 rfl b93 mB rfl (Zj.2 rfl) fun oE xF hs b132=>?_);have hfr:=hfr.stp hs;have l5:=l5.stp hs;refine Zb (Tc ?_);obtain rfl:=sinj h;exact hQ _ _ ⟨oE,hfr,l9,b132,v8,l5,n9,l8⟩
   ·refine G8 lB rfl (Zu (Tc ?_))
    obtain rfl:=sinj h;exact hQ _ _ ⟨zB,hfr,l9,b93,v8,l5,n9,l8⟩
  ·clear hx
   obtain ⟨rE,hfr,uC,vC,bD,cD,nB,oB⟩:=hR;refine Za (Gf (Iz ((w64 (o0 + (1:Int))))) oB rfl rfl rfl (Zn (Iz ((w64 (o0 + (1:Int))))) rfl rfl ?_));exact Z4 (hk3 (g8,(w64 (o0 + (1:Int)))) _ _ ⟨rE,hfr,uC,vC,bD,cD,nB,rfl⟩ h)
 ·refine G8 hc5 rfl (Tu (Gy (Gy (G9 ?_))))
  obtain rfl:=sinj h;exact H9 rfl rfl ⟨_,hfr,rfl,lD.back i6⟩
def f94 (x0:Gl) (x1:Zv) (x2:List Int):Option ((List Int)):=
 Option.bind (α:=Int) (
  lp (σ:=Int × Int) (fun iE (v8,o0)=>
   bif (decide (o0 < (((x0).FaultLoom).Design).Hooks)) then
    Option.bind (α:=Int) (
     (Hb v8 ((1:Int))).bind fun aB=>
     (idx x2 (x1).Pick).bind fun lE=>
     (W8 lE o0).bind fun n8=>
     some ((Qd .or aB (Qd .and n8 (1:Int))))
     ) fun l5=>
    iE (l5,(w64 (o0 + (1:Int))))
   else
    some (v8)
   ) big ((0:Int),(0:Int))
  ) fun t5=>
 (idx x2 (x1).Pick).bind fun yE=>
 some ((List.set x2 (Int.toNat (x1).Pick) t5))
theorem en94:Enters prog 94:=enters_of func94 (by kernel_rfl) rfl
theorem wk94 {iI:Nat} {gI:Gh} {wI:World} {x0:Gl} {x1:Zv} {x2:List Int} {up0:Value} (rp0:RV gI.m wI x0 up0) {up1:Value} (rp1:RV gI.m wI x1 up1) {up2:Value} (mp2:OM iI gI wI 3 x2 up2) {up3:Value} {r:(List Int)} (h:f94 x0 x1 x2=some r):FnM prog 94 #[up0,up1,up2,up3] iI gI wI (fun g w v=>v=.tuple #[]∧OM iI g w 3 r up2):=by
 unfold f94 at h;refine K5 func94 rfl (Nat.le_of_ble_eq_true rfl) fun g0 hm hfr=>?_;have bD:=mp2;replace mp2:=mp2.enter;rw [← hm] at mp2
 replace hm:g0.m=gI.m:=by rw [hm]
 have rp0:=RVc hm rp0;have rp1:=RVc hm rp1;show E _ 34 none _ _ _ _ _;refine Z7 (Z6 rfl (Tq (g:=g0) rfl rp0 fun g1 w1 p1 hs q1=>?_));have hfr:=hfr.ext hs;have rp1:=rp1.ext hs;have mp2:=mp2.ext hs;refine Z6 rfl (Tq (g:=g1) rfl rp1 fun g2 w2 p2 hs q2=>?_);have hfr:=hfr.ext hs;have mp2:=mp2.ext hs;have q1:=q1.ext hs;refine Z4 (Z7 (Zg (Iz (0)) rfl rfl (Z4 ?_)));obtain ⟨t5,hx,h⟩:=Z3 h;refine Gs (fun e w=>∃ (g:Gh) ,FrM iI gI wI g w∧e 2=up2∧OM 1 g w 3 (x2:List Int) up2∧e 5=p2∧PT g.m w (x1:Zv) p2∧e 8=Iz (t5)) (fun Q' hQ=>?_) (fun vF aG hR=>?_)
 ·replace h := hx
  clear hx;refine Z7 (Zz (Ga p1 0) (Zc Uk rfl (PT.ptr q1)) rfl ?_);have mE:=Zm (Qp).1 q1;refine Zz (Ga (Ga p1 0) 2) (Zc Wf rfl (PT.ptr mE)) rfl ?_;have oE:=Zm (G1).1 mE;refine Zz (Ga (Ga (Ga p1 0) 2) 0) (Zc Ki rfl (PT.ptr oE)) rfl ?_;have zE:=Zm (Qb).1 oE;refine Z6 rfl (Z9 (g:=g2) isAgg3 sizeOf3 rfl zE fun bG cF=>?_);obtain rfl:=Zj.1 cF;refine Zn (Iz (0)) rfl rfl (Z4 (Zr (Wo h (fun (s:Int × Int) e w=>∃ (g:Gh) ,FrM iI gI wI g w∧e 2=up2∧OM 1 g w 3 (x2:List Int) up2∧e 5=p2∧PT g.m w (x1:Zv) p2∧e 8=Iz (s.1)∧e 13=Iz ((((x0).FaultLoom).Design).Hooks)∧e 14=Iz (s.2)) ⟨g2,hfr,rfl,mp2,rfl,q2,rfl,rfl,rfl⟩ (fun X27 iE uE=>?_))));rintro ⟨v8,o0⟩ xF cG ⟨nB,hfr,l9,i6,n9,g8,oB,lB,l8⟩ h;refine Z7 (Zz (.bool ((decide (o0 < (((x0).FaultLoom).Design).Hooks)))) (Gx l8 lB rfl) rfl (Z4 (Zf ?_)));rcases Zt h with ⟨mB,h⟩ | ⟨mB,h⟩
  ·refine G5 mB rfl (Zu (Zd ?_))
   obtain ⟨l5,hx,h⟩:=Z3 h;refine Gs (fun e w=>∃ (g:Gh) ,FrM iI gI wI g w∧e 2=up2∧OM 1 g w 3 (x2:List Int) up2∧e 5=p2∧PT g.m w (x1:Zv) p2∧e 8=Iz (l5)∧e 13=Iz ((((x0).FaultLoom).Design).Hooks)∧e 14=Iz (o0)) (fun Q' hQ=>?_) (fun yF eG hR=>?_)
   ·replace h := hx
    clear hx;refine Zr (Z7 (Zo l8 rfl (Zg (Iz (o0)) rfl rfl (Z4 (Za (Zo oB rfl ?_))))));obtain ⟨aB,vE,h⟩:=Z3 h;refine Zz (Iz (aB)) (Fh rfl rfl vE) rfl (Zo l9 rfl (Zz (Ga p2 1) (Zc Hc n9 (PT.ptr g8)) rfl ?_));have dF:=Zm (Tl).1 g8;refine Z6 rfl (Z9 (g:=nB) isAgg3 sizeOf3 rfl dF fun gG eF=>?_);obtain rfl:=Zj.1 eF;obtain ⟨lE,zB,h⟩:=Z3 h;refine Zz (Tb up2 (x1).Pick 1) (G0 (α:=Int) underlying24 sizeOf3 rfl i6 rfl zB) rfl (Z6 rfl (Cx (g:=nB) isAgg3 sizeOf3 rfl i6 zB fun iG rF=>?_));obtain rfl:=Zj.1 rF;refine Zn (Iz (o0)) rfl rfl ?_;obtain ⟨n8,xE,h⟩:=Z3 h;refine Zz (Iz (n8)) (Gx rfl rfl (congrArg (Option.map (Value.int .i64)) xE)) rfl (Gf (Iz ((Qd .and n8 (1:Int)))) rfl rfl rfl rfl (Gf (Iz ((Qd .or aB (Qd .and n8 (1:Int))))) rfl rfl rfl rfl (Zg (Iz ((Qd .or aB (Qd .and n8 (1:Int))))) rfl rfl (Zb (Tc ?_)))));obtain rfl:=sinj h;exact hQ _ _ ⟨nB,hfr,l9,i6,n9,g8,rfl,lB,l8⟩
   ·clear hx
    obtain ⟨sF,hfr,cD,lD,nD,oD,yD,cC,uC⟩:=hR;refine Za (Gf (Iz ((w64 (o0 + (1:Int))))) uC rfl rfl rfl (Zn (Iz ((w64 (o0 + (1:Int))))) rfl rfl ?_));exact Z4 (uE (l5,(w64 (o0 + (1:Int)))) _ _ ⟨sF,hfr,cD,lD,nD,oD,yD,cC,rfl⟩ h)
  ·refine G8 mB rfl (Tu (Gy (Gy (G9 ?_))))
   obtain rfl:=sinj h;exact hQ _ _ ⟨nB,hfr,l9,i6,n9,g8,oB⟩
 ·clear hx
  obtain ⟨rE,hfr,zD,vB,aE,yB,bE⟩:=hR;refine Za (Zo zD rfl (Zz (Ga p2 1) (Zc Hc aE (PT.ptr yB)) rfl ?_));have tF:=Zm (Tl).1 yB;refine Z6 rfl (Z9 (g:=rE) isAgg3 sizeOf3 rfl tF fun jG uF=>?_);obtain rfl:=Zj.1 uF;refine Zo bE rfl ?_;obtain ⟨yE,vC,h⟩:=Z3 h;refine Zz (Tb up2 (x1).Pick 1) (G0 (α:=Int) underlying24 sizeOf3 rfl vB rfl vC) rfl (Z6 rfl (Kl (g:=rE) (α:=Int) (a':=t5) sizeOf3 rfl vB vC rfl (Zj.2 rfl) fun kG lG hs b47=>?_));have hfr:=hfr.stp hs;refine Zb ?_;obtain rfl:=sinj h;exact H9 rfl rfl ⟨_,hfr,rfl,bD.back b47⟩
def f95 (x0:Gl) (x1:Zv) (x2:List Int):Option ((List Int)):=
 (Hd (w64 ((x1).Pick + (1:Int))) ((x2).length:Int)).bind fun y5=>
 (idx x2 (x1).Pick).bind fun y8=>
 (idx x2 y5).bind fun o0=>
 (idx x2 (x1).Pick).bind fun l9=>
 (idx ((List.set x2 (Int.toNat (x1).Pick) o0)) y5).bind fun n9=>
 some ((List.set ((List.set x2 (Int.toNat (x1).Pick) o0)) (Int.toNat y5) y8))
theorem en95:Enters prog 95:=enters_of func95 (by kernel_rfl) rfl
theorem wk95 {iI:Nat} {gI:Gh} {wI:World} {x0:Gl} {x1:Zv} {x2:List Int} {up0:Value} (rp0:RV gI.m wI x0 up0) {up1:Value} (rp1:RV gI.m wI x1 up1) {up2:Value} (mp2:OM iI gI wI 3 x2 up2) {up3:Value} {r:(List Int)} (h:f95 x0 x1 x2=some r):FnM prog 95 #[up0,up1,up2,up3] iI gI wI (fun g w v=>v=.tuple #[]∧OM iI g w 3 r up2):=by
 unfold f95 at h;refine K5 func95 rfl (Nat.le_of_ble_eq_true rfl) fun g0 hm hfr=>?_;have g8:=mp2;replace mp2:=mp2.enter;rw [← hm] at mp2
 replace hm:g0.m=gI.m:=by rw [hm]
 have rp0:=RVc hm rp0;have rp1:=RVc hm rp1;show E _ 35 none _ _ _ _ _;refine Z7 (Z6 rfl (Tq (g:=g0) rfl rp0 fun g1 w1 p1 hs q1=>?_));have hfr:=hfr.ext hs;have rp1:=rp1.ext hs;have mp2:=mp2.ext hs;refine Z6 rfl (Tq (g:=g1) rfl rp1 fun g2 w2 p2 hs q2=>?_);have hfr:=hfr.ext hs;have mp2:=mp2.ext hs;refine Z4 (Z7 (Zz (Ga p2 1) (Zc Hc rfl (PT.ptr q2)) rfl ?_));have q3:=Zm (Tl).1 q2;refine Z6 rfl (Z9 (g:=g2) isAgg3 sizeOf3 rfl q3 fun v4 r4=>?_);obtain rfl:=Zj.1 r4;refine Gf (Iz ((w64 ((x1).Pick + (1:Int))))) rfl rfl rfl rfl (Zn up2 rfl rfl (Zz (Iz ((x2).length:Int)) (Vo underlying24 rfl mp2) rfl ?_));obtain ⟨y5,hy5,h⟩:=Z3 h;refine Zz (Iz (y5)) (Gx rfl rfl (congrArg (Option.map (Value.int .i64)) hy5)) rfl (Zg (Iz (y5)) rfl rfl (Z4 (Zf ?_)));have q6:=Zm (Tl).1 q2;refine Zs (x:=.tmp 18) isAgg3 sizeOf3 q6 fun v7 r7 hl7=>?_;obtain rfl:=Zj.1 r7;obtain ⟨y8,l8,h⟩:=Z3 h;refine Ha (x:=.tmp 20) isAgg3 sizeOf3 mp2 l8 fun v9 r9 aB=>?_;obtain rfl:=Zj.1 r9;obtain ⟨o0,l5,h⟩:=Z3 h;refine Ha (x:=.tmp 24) isAgg3 sizeOf3 mp2 l5 fun vB lB v8=>?_;obtain rfl:=Zj.1 lB;refine Tz (g:=g2) (n:=11) [] [0,1,2,3,4,5,6,7,8,9,10] rfl mixed (by kernel_rfl) trivial (Z2 up2 rfl rfl (Zk rfl) (Z2 (Ga p2 1) rfl rfl (Zc Hc rfl (PT.ptr q2)) (Tv (c:=Iz ((x1).Pick)) rfl rfl .plain (fun _ _ h=>h.ch) hl7 rfl (Z2 (Tb up2 (x1).Pick 1) rfl rfl (G0 (α:=Int) underlying24 sizeOf3 rfl mp2 rfl l8) (Tv (c:=Iz (y8)) rfl rfl .plain (fun _ _ h=>⟨h.ch,fun b hb _=>h.below.block b hb⟩) aB rfl (Z2 up2 rfl rfl (Zk rfl) (Z2 (Iz (y5)) rfl rfl (Zk rfl) (Z2 (Tb up2 y5 1) rfl rfl (G0 (α:=Int) underlying24 sizeOf3 rfl mp2 rfl l5) (Tv (c:=Iz (o0)) rfl rfl .plain (fun _ _ h=>⟨h.ch,fun b hb _=>h.below.block b hb⟩) v8 rfl (Z2 (Iz (y8)) rfl rfl (Tx rfl) (Z2 (Iz (o0)) rfl rfl (Tx rfl) (Ho fun n8 yB hs=>?_))))))))))));have hfr:=hfr.ext hs;have mp2:=mp2.ext hs;have q2:=q2.ext hs;clear hs;refine Z4 (Z7 (Zn up2 rfl rfl (Zz (Ga p2 1) (Zc Hc rfl (PT.ptr q2)) rfl ?_)));have mB:=Zm (Tl).1 q2;refine Z6 rfl (Z9 (g:=n8) isAgg3 sizeOf3 rfl mB fun zB nB=>?_);obtain rfl:=Zj.1 nB;refine Zn (Iz (o0)) rfl rfl ?_;obtain ⟨l9,t5,h⟩:=Z3 h;refine Zz (Tb up2 (x1).Pick 1) (G0 (α:=Int) underlying24 sizeOf3 rfl mp2 rfl t5) rfl (Z6 rfl (Kl (g:=n8) (α:=Int) (a':=o0) sizeOf3 rfl mp2 t5 rfl (Zj.2 rfl) fun oB cC hs b40=>?_));have hfr:=hfr.stp hs;refine Z4 (Za (Zn up2 rfl rfl (Zn (Iz (y5)) rfl rfl (Zn (Iz (y8)) rfl rfl ?_))));obtain ⟨n9,i6,h⟩:=Z3 h;refine Zz (Tb up2 y5 1) (G0 (α:=Int) underlying24 sizeOf3 rfl b40 rfl i6) rfl (Z6 rfl (Kl (g:=oB) (α:=Int) (a':=y8) sizeOf3 rfl b40 i6 rfl (Zj.2 rfl) fun uC vC hs b42=>?_));have hfr:=hfr.stp hs;refine Zb ?_;obtain rfl:=sinj h;exact H9 rfl rfl ⟨_,hfr,rfl,g8.back b42⟩
def f96 (x0:Gl) (x1:Zv) (x3:List (Int × Bool)):Option ((List (Int × Bool))):=
 some ((H5 x3 ((x1).Warp) true))
theorem en96:Enters prog 96:=enters_of func96 (by kernel_rfl) rfl
theorem wk96 {iI:Nat} {gI:Gh} {wI:World} {x0:Gl} {x1:Zv} {x3:List (Int × Bool)} {up0:Value} (rp0:RV gI.m wI x0 up0) {up1:Value} (rp1:RV gI.m wI x1 up1) {up2:Value} {up3:Value} (mp3:MP (Value.int .i64) iI gI wI x3 up3) {r:(List (Int × Bool))} (h:f96 x0 x1 x3=some r):FnM prog 96 #[up0,up1,up2,up3] iI gI wI (fun g w v=>v=.tuple #[]∧MP (Value.int .i64) iI g w r up3):=by
 unfold f96 at h;refine K5 func96 rfl (Nat.le_of_ble_eq_true rfl) fun g0 hm hfr=>?_;have o0:=mp3;replace mp3:=mp3.enter;rw [← hm] at mp3
 replace hm:g0.m=gI.m:=by rw [hm]
 have rp0:=RVc hm rp0;have rp1:=RVc hm rp1;show E _ 11 none _ _ _ _ _;refine Z7 (Z6 rfl (Tq (g:=g0) rfl rp0 fun g1 w1 p1 hs q1=>?_));have hfr:=hfr.ext hs;have rp1:=rp1.ext hs;have mp3:=mp3.ext hs;refine Z6 rfl (Tq (g:=g1) rfl rp1 fun g2 w2 p2 hs q2=>?_);have hfr:=hfr.ext hs;have mp3:=mp3.ext hs;refine Z4 (Za (Zn up3 rfl rfl (Zz (Ga p2 3) (Zc Dc rfl (PT.ptr q2)) rfl ?_)));have q3:=Zm (Ws).1 q2;refine Z6 rfl (Z9 (g:=g2) isAgg3 sizeOf3 rfl q3 fun v4 r4=>?_);obtain rfl:=Zj.1 r4;refine Z6 rfl (Vn (g:=g2) underlying133 key_3 rfl mp3 rfl rfl (Qm.2 rfl) fun g5 w5 hs m5=>?_);have hfr:=hfr.stp hs;refine Zb ?_;obtain rfl:=sinj h;exact H9 rfl rfl ⟨_,hfr,rfl,o0.back m5⟩
def fvF (f:Nat):Fv:=⟨.func (.func f) #[] #[],rfl⟩
def fv0:Fv:=⟨.nilFunc,rfl⟩
def Ee:List (Int × Fv):=[(1,fvF 92),(2,fvF 93),(3,fvF 94),(4,fvF 95),(5,fvF 96)]
def O3 (k:Int) (l:Gl) (d:Zv) (rows:List Int) (br:List (Int × Bool)):Option (List Int × List (Int × Bool)):=
 if k=1 then (f92 l d rows).map (fun r=>(r,br)) else if k=2 then (f93 l d rows).map (fun r=>(r,br)) else if k=3 then (f94 l d rows).map (fun r=>(r,br)) else if k=4 then (f95 l d rows).map (fun r=>(r,br))
 else if k=5 then (f96 l d br).map (fun b=>(rows,b)) else none
theorem en57:Enters prog 57:=enters_of func57 (by kernel_rfl) rfl
theorem D5:Ul prog 32 (Value.int .i64):=S5 underlying32
theorem wk57 {i:Nat} {gI:Gh} {wI:World}:FnG prog 57 #[] gI wI (fun g w v=>MP (Value.int .i64) i g w Ee v):=by
 refine Uf func57 rfl (Nat.le_of_ble_eq_true rfl) fun g0 hm hfr=>?_;show E _ 3 none _ _ _ _ _;refine Z7 (Zg (.map none) rfl rfl (Z4 (Z7 (Z6 rfl (Be (g:=g0) (Value.int .i64) Fv 5 fun g1 w1 v1 hs1 m1=>(Z6 rfl (Vr (v:=fvF 92) underlying138 D5 rfl m1 rfl rfl (Yr.2 rfl) fun g2 w2 hs2 m2=>(Z6 rfl (Vr (v:=fvF 93) underlying138 D5 rfl m2 rfl rfl (Yr.2 rfl) fun g3 w3 hs3 m3=>(Z6 rfl (Vr (v:=fvF 94) underlying138 D5 rfl m3 rfl rfl (Yr.2 rfl) fun g4 w4 hs4 m4=>(Z6 rfl (Vr (v:=fvF 95) underlying138 D5 rfl m4 rfl rfl (Yr.2 rfl) fun g5 w5 hs5 m5=>(Z6 rfl (Vr (v:=fvF 96) underlying138 D5 rfl m5 rfl rfl (Yr.2 rfl) fun g6 w6 hs6 m6=>(Zn v1 rfl rfl (Zg v1 rfl rfl (Z4 ?_))))))))))))))))));have hfr:=(((((hfr.stp hs1).stp hs2).stp hs3).stp hs4).stp hs5).stp hs6;obtain ⟨g',hx,hmp⟩:=MP.hand (i:=i) hfr m6;exact Gd (Ta rfl rfl (rq v1) ⟨g',hx,hmp⟩)
theorem D_chg {e : Env} {g : Gh} {w : World} {K : Value → World → Prop} {c x1 x2 x3 x4 : Operand} {ats : Array TypeId} {k : Int} {l : Gl} {d : Zv} {rows rows' : List Int} {br br' : List (Int × Bool)} {i j : Nat} {lv dv rv bv : Value}
  (hf:O3 k l d rows br=some (rows',br')) (hc:ev e c=((Hf Ee k).getD fv0).v) (h1:ev e x1=lv) (h2:ev e x2=dv) (h3:ev e x3=rv) (h4:ev e x4=bv) (r1:RV g.m w l lv) (r2:RV g.m w d dv) (hom:OM i g w 3 rows rv) (hmp:MP (Value.int .i64) j g w br bv) (hij:Nat.beq i j=false) (hji:Nat.beq j i=false)
  (h:∀ g1 w1 g' w' v,Stp i g w g1 w1→Stp j g1 w1 g' w'→OM i g' w' 3 rows' rv→MP (Value.int .i64) j g' w' br' bv→K v w'):Doe prog (.call { callee:=.value c,args:=#[x1,x2,x3,x4],argTypes:=ats }) e w K:=by
 unfold O3 at hf
 have ha:Args e [x1,x2,x3,x4] [lv,dv,rv,bv]:=.cons h1 (.cons h2 (.cons h3 (.cons h4 .nil)))
 have one : ∀ (f : Nat) (fF : Gl → Zv → List Int → Option (List Int)), ev e c = .func (.func f) #[] #[] → Enters prog f → (fF l d rows).map (fun r => (r, br)) = some (rows', br') →
   (∀ r,fF l d rows=some r→FnM prog f #[lv,dv,rv,bv] i g w (fun g w v=>v=.tuple #[]∧OM i g w 3 r rv))→Doe prog (.call { callee:=.value c,args:=#[x1,x2,x3,x4],argTypes:=ats }) e w K:=by
  intro f fF hcf hen hmap hw
  obtain ⟨r,hr,he⟩:=Option.map_eq_some_iff.1 hmap
  obtain ⟨rfl,rfl⟩:r=rows'∧br=br':=by simpa using he
  exact Lu (g:=g) (i:=i) hcf hen ha (hw r hr) fun g' w' v hs hR=>h g' w' g' w' v hs (U8 _ _ _) hR.2 (hmp.stp hs hji)
 split at hf
 ·rename_i hk; subst hk; exact one 92 f92 hc en92 hf fun r hr=>wk92 r1 r2 hom hr
 split at hf
 ·rename_i hk; subst hk; exact one 93 f93 hc en93 hf fun r hr=>wk93 r1 r2 hom hr
 split at hf
 ·rename_i hk; subst hk; exact one 94 f94 hc en94 hf fun r hr=>wk94 r1 r2 hom hr
 split at hf
 ·rename_i hk; subst hk; exact one 95 f95 hc en95 hf fun r hr=>wk95 r1 r2 hom hr
 split at hf
 ·rename_i hk; subst hk
  obtain ⟨r,hr,he⟩:=Option.map_eq_some_iff.1 hf
  obtain ⟨rfl,rfl⟩:rows=rows'∧r=br':=by simpa using he
  exact Lu (g:=g) (i:=j) (f:=96) hc en96 ha (wk96 r1 r2 hmp hr) fun g' w' v hs hR=>h g w g' w' v (U8 _ _ _) hs (hom.stp hs hij) hR.2
 ·cases hf
def f100 (x0:Int) (x1:Int):Option (Str):=
 Option.bind (α:=List UInt8) (
  lp (σ:=List UInt8 × Int) (fun k18 (t5,o0)=>
   bif (decide (o0 < x1)) then
    Option.bind (α:=List UInt8) (
     (W8 x0 o0).bind fun n9=>
     bif ((Qd .and n9 (1 : Int)) == (1 : Int)) then
      (apnd 1 t5 [(120:UInt8)]).bind fun vC=>
      some (vC)
     else
      (apnd 1 t5 [(46:UInt8)]).bind fun bD=>
      some (bD)
     ) fun i6=>
    k18 (i6,(w64 (o0 + (1:Int))))
   else
    some (t5)
   ) big (([]:List UInt8),(0:Int))
  ) fun l8=>
 (Sm l8).bind fun mB=>
 some (mB)
theorem en100:Enters prog 100:=enters_of func100 (by kernel_rfl) rfl
theorem wk100 {gI:Gh} {wI:World} {x0:Int} {x1:Int}  {r:Str} (h:f100 x0 x1=some r):Fn prog 100 #[Iz (x0),Iz (x1)] gI wI (fun _ _ v=>v=Str.v (r)):=by
 unfold f100 at h;refine fnE func100 rfl rfl fun g0 hm hfr=>?_;show E _ 20 none _ _ _ _ _;refine Z7 (Zg (Str.v (⟨[]⟩:Str)) rfl rfl (Z4 (Z7 (Z6 rfl (Gw (g:=g0) 2005 ((⟨.pointer none,rfl⟩,[]):Fv × List UInt8) zeroValue146 (fun m w=>⟨_,Gi (show GoT.rep m w (⟨.pointer none,rfl⟩:Fv) [.pointer none] from rfl) Tt,rfl⟩) fun g1 w1 p1 hs b1 cb=>?_)))));have hfr:=hfr.stp hs;replace b1:SB 2005 60501 g1 w1 5 146 [] p1:=⟨_,b1,cb.osf rfl,.inl rfl⟩;clear cb;refine Z4 ?_;obtain ⟨l8,hx,h⟩:=Z3 h;refine Gs (fun e w=>∃ (g:Gh) ,Fr gI wI g w∧e 5=p1∧SB 2005 60501 g w 5 146 (l8) p1) (fun Q' hQ=>?_) (fun lE rE hR=>?_)
 ·replace h := hx
  clear hx;refine Z7 (Zn (Iz (x1)) rfl rfl (Zn (Iz (0)) rfl rfl (Z4 (Zr (Wo h (fun (s:List UInt8 × Int) e w=>∃ (g:Gh) ,Fr gI wI g w∧e 0=Iz (x0)∧e 5=p1∧SB 2005 60501 g w 5 146 (s.1) p1∧e 7=Iz (x1)∧e 8=Iz (s.2)) ⟨g1,hfr,rfl,rfl,b1,rfl,rfl⟩ (fun X18 k18 cD=>?_))))));rintro ⟨t5,o0⟩ mE uE ⟨zD,hfr,n8,l5,v8,l9,g8⟩ h;refine Z7 (Gf (.bool ((decide (o0 < x1)))) g8 l9 rfl rfl (Z4 (Zf ?_)));rcases Zt h with ⟨aB,h⟩ | ⟨aB,h⟩
  ·refine G5 aB rfl (Zu (Zd ?_))
   obtain ⟨i6,hx,h⟩:=Z3 h;refine Gs (fun e w=>∃ (g:Gh) ,Fr gI wI g w∧e 0=Iz (x0)∧e 5=p1∧SB 2005 60501 g w 5 146 (i6) p1∧e 7=Iz (x1)∧e 8=Iz (o0)) (fun Q' hQ=>?_) (fun oE vE hR=>?_)
   ·replace h := hx
    clear hx;refine Zr (Z7 (Zo g8 rfl (Zg (Iz (o0)) rfl rfl (Z4 (Z7 (Zo n8 rfl (Zn (Iz (o0)) rfl rfl ?_)))))));obtain ⟨n9,lD,h⟩:=Z3 h;refine Zz (Iz (n9)) (Gx rfl rfl (congrArg (Option.map (Value.int .i64)) lD)) rfl (Gf (Iz ((Qd .and n9 (1:Int)))) rfl rfl rfl rfl (Gf (.bool (((Qd .and n9 (1:Int)) == (1:Int)))) rfl rfl rfl rfl (Z4 ?_)));rcases Zt h with ⟨lB,h⟩ | ⟨lB,h⟩
    ·refine G5 lB rfl (Za ?_)
     obtain ⟨vC,nD,h⟩:=Z3 h;refine Z6 rfl (Wg (vs:=[p1,.int .u8 (UInt8.toNat 120)]) en97 (.cons l5 (.cons rfl .nil)) (wk97 (i:=2005) (j:=60501) rfl rfl v8 nD) fun xE w29 hq=>?_);obtain ⟨hv,aE,⟨_,_,_,_,hs1,hs2,hs3⟩,b29⟩:=hq;subst hv;have hfr:=hfr.stp hs1;have hfr:=hfr.stp hs2;have hfr:=hfr.stp hs3;clear hs1 hs2 hs3;refine Zb (Tc ?_);obtain rfl:=sinj h;exact hQ _ _ ⟨aE,hfr,n8,l5,b29,l9,g8⟩
    ·refine G8 lB rfl (Za ?_)
     obtain ⟨bD,oD,h⟩:=Z3 h;refine Z6 rfl (Wg (vs:=[p1,.int .u8 (UInt8.toNat 46)]) en97 (.cons l5 (.cons rfl .nil)) (wk97 (i:=2005) (j:=60501) rfl rfl v8 oD) fun yE zE hq=>?_);obtain ⟨hv,bE,⟨_,_,_,_,hs1,hs2,hs3⟩,b31⟩:=hq;subst hv;have hfr:=hfr.stp hs1;have hfr:=hfr.stp hs2;have hfr:=hfr.stp hs3;clear hs1 hs2 hs3;refine Zb (Tc ?_);obtain rfl:=sinj h;exact hQ _ _ ⟨bE,hfr,n8,l5,b31,l9,g8⟩
   ·clear hx
    obtain ⟨iE,hfr,nB,oB,vB,yB,zB⟩:=hR;refine Za (Gf (Iz ((w64 (o0 + (1:Int))))) zB rfl rfl rfl (Zn (Iz ((w64 (o0 + (1:Int))))) rfl rfl ?_));exact Z4 (cD (i6,(w64 (o0 + (1:Int)))) _ _ ⟨iE,hfr,nB,oB,vB,yB,rfl⟩ h)
  ·refine G8 aB rfl (Tu (Gy (Gy (G9 ?_))))
   obtain rfl:=sinj h;exact hQ _ _ ⟨zD,hfr,l5,v8⟩
 ·clear hx
  obtain ⟨cF,hfr,cC,uC⟩:=hR;refine Z7 ?_;obtain ⟨mB,yD,h⟩:=Z3 h;obtain ⟨hne35,hye35⟩:=A4 yD;refine Z6 rfl (Wg (vs:=[p1]) en62 (.cons cC .nil) (wk62 (i:=2005) (j:=60501) rfl uC hne35) fun dF eF hq=>?_);obtain ⟨hv,rF,hs⟩:=hq;rw [← hye35] at hv;subst hv;have hfr:=hfr.stp hs;refine Zg (Str.v mB) rfl rfl (Z4 (Gd ?_));obtain rfl:=sinj h;exact Ta rfl rfl (rq (Str.v mB)) ⟨_,hfr,rfl⟩
def f101 (x0:List Int) (x1:Int→Option Bool):Option (Int):=
 jn (σ:=Unit) (fun _=>
  some ((-1:Int))
  ) fun k18=>
 lp (σ:=Int) (fun k19 o0=>
  bif (decide (o0 < ((x0).length : Int))) then
   jn (σ:=Unit) (fun _=>
    k19 ((w64 (o0 + (1:Int))))
    ) fun k28=>
   (idx x0 o0).bind fun l9=>
   (x1 l9).bind fun yB=>
   bif yB then
    some (o0)
   else
    k28 ()
  else
   k18 ()
  ) big ((0:Int))
theorem en101:Enters prog 101:=enters_of func101 (by kernel_rfl) rfl
theorem wk101 {gI:Gh} {wI:World} {x0:List Int} {x1:Int→Option Bool} {up0:Value} (rp0:RV gI.m wI x0 up0) {up1:Value} (rp1:Jf prog x1 up1 gI wI) {r:Int} (h:f101 x0 x1=some r):Fn prog 101 #[up0,up1] gI wI (fun _ _ v=>v=Iz (r)):=by
 unfold f101 at h;refine fnE func101 rfl rfl fun g0 hm hfr=>?_;have rp0:=RVc hm rp0;obtain ⟨ff1,fa1,fc1,rfl,fen1,fcl1⟩:=rp1;show E _ 19 none _ _ _ _ _;refine Z7 (Zg (Iz (0)) rfl rfl (Z4 (Zq h (fun (s:Unit) e w=>∃ (g:Gh) ,Fr gI wI g w) (fun X18 k18 zB h=>?_) ?_)))
 ·refine Z7 (Zn up0 rfl rfl (Zz (Iz ((x0).length : Int)) (Tr underlying24 rfl rp0) rfl (Zn (Iz (0)) rfl rfl (Z4 (Zr (Wo h (fun (s : Int) e w => ∃ (g : Gh) , Fr gI wI g w ∧ e 0 = up0 ∧ RV g.m w (x0 : List Int) up0 ∧ e 1 = (.func (.func ff1) fa1 fc1) ∧ e 7 = Iz (((x0).length : Int)) ∧ e 8 = Iz (s)) ⟨g0, hfr, rfl, rp0, rfl, rfl, rfl⟩ (fun X19 k19 cC => ?_)))))))
  rintro o0 oD aE ⟨n9,hfr,l8,l5,n8,v8,t5⟩ h;refine Z7 (Gf (.bool ((decide (o0 < ((x0).length:Int))))) t5 v8 rfl rfl (Z4 (Zf ?_)));rcases Zt h with ⟨i6,h⟩ | ⟨i6,h⟩
  ·refine G5 i6 rfl (Zu (Zd (Zq h (fun (s : Unit) e w => ∃ (g : Gh) , Fr gI wI g w ∧ e 0 = up0 ∧ RV g.m w (x0 : List Int) up0 ∧ e 1 = (.func (.func ff1) fa1 fc1) ∧ e 7 = Iz (((x0).length : Int)) ∧ e 8 = Iz (o0)) (fun X28 k28 uC h => ?_) ?_)))
   ·refine Zr (Z7 (Zo t5 rfl (Zg (Iz (o0)) rfl rfl (Z4 (Z7 (Zo n8 rfl (Zo l8 rfl (Zn (Iz (o0)) rfl rfl ?_))))))))
    obtain ⟨l9,aB,h⟩:=Z3 h;refine Zz (Tb up0 o0 1) (Zh (α:=Int) underlying24 sizeOf3 rfl l5 rfl aB) rfl ?_;have bD:=Tp l5 aB;refine Z6 rfl (Z9 (g:=n9) isAgg3 sizeOf3 rfl bD fun bE cD=>?_);obtain rfl:=Zj.1 cD;obtain ⟨yB,vC,h⟩:=Z3 h;refine Z6 rfl (Jd (g:=n9) (vs:=[Iz (l9)]) rfl fen1 (.cons rfl .nil) (fcl1 _ _ hfr.ch _ _ _  (Zj.2 rfl) vC) fun lD iE lE hs hr=>?_);have hfr:=hfr.ext hs;have l5:=l5.ext hs;obtain rfl:=Qm.1 hr;refine Z4 ?_;rcases Zt h with ⟨g8,h⟩ | ⟨g8,h⟩
    ·refine G5 g8 rfl (Z7 (Zn (Iz (o0)) rfl rfl (Zg (Iz (o0)) rfl rfl (Z4 (Gd (Tg (Gq (Gq (Tg (Gq ?_))))))))))
     obtain rfl:=sinj h;exact Ta rfl rfl (rq (Iz (o0))) ⟨_,hfr,rfl⟩
    ·refine G8 g8 rfl ?_
     exact Zu (Tc (Zd (uC () _ _ ⟨lD,hfr,l8,l5,n8,v8,t5⟩ h)))
   ·rintro _ yD mE ⟨nD, hfr, lB, mB, nB, oB, vB⟩ h
    refine Za (Gf (Iz ((w64 (o0 + (1:Int))))) vB rfl rfl rfl (Zn (Iz ((w64 (o0 + (1:Int))))) rfl rfl ?_));exact Z4 (cC ((w64 (o0 + (1:Int)))) _ _ ⟨nD,hfr,lB,mB,nB,oB,rfl⟩ h)
  ·refine G8 i6 rfl (Tu (Gy (Gy (G9 ?_))))
   exact Zd (zB () _ _ ⟨n9,hfr⟩ h)
 ·rintro _ zD oE ⟨rE, hfr⟩ h
  refine Z7 (Zg (Iz (-1)) rfl rfl (Z4 (Gd ?_)));obtain rfl:=sinj h;exact Ta rfl rfl (rq (Iz (-1))) ⟨_,hfr,rfl⟩
def f102 (x0:Int) (z0:Int) (z1:Int):Option (Bool):=
 Option.bind (α:=Bool) (
  bif (decide (x0 < z0)) then
   some (true)
  else
   some ((decide (x0 > z1)))
  ) fun o0=>
 some (o0)
theorem en102:Enters prog 102:=enters_of func102 (by kernel_rfl) rfl
theorem wk102 {gI:Gh} {wI:World} {x0:Int} {z0:Int} {z1:Int} {pf0:Value} (qf0:PT gI.m wI z0 pf0) {pf1:Value} (qf1:PT gI.m wI z1 pf1) {r:Bool} (h:f102 x0 z0 z1=some r):Fn prog 102 #[Iz (x0),pf0,pf1] gI wI (fun _ _ v=>v=.bool (r)):=by
 unfold f102 at h;refine fnE func102 rfl rfl fun g0 hm hfr=>?_;have qf0:PT g0.m wI z0 pf0:=hm ▸ qf0;have qf1:PT g0.m wI z1 pf1:=hm ▸ qf1;show E _ 13 none _ _ _ _ _;refine Z7 (Zg (.bool false) rfl rfl (Z4 ?_));obtain ⟨o0,hx,h⟩:=Z3 h;refine Gs (fun e w=>∃ (g:Gh) ,Fr gI wI g w∧e 4=.bool (o0)) (fun Q' hQ=>?_) (fun t5 w7 hR=>?_)
 ·replace h := hx
  clear hx;refine Za (Zn (Iz (x0)) rfl rfl (Z6 rfl (Z9 (g:=g0) isAgg3 sizeOf3 rfl qf0 fun v4 r4=>?_)));obtain rfl:=Zj.1 r4;refine Gf (.bool ((decide (x0 < z0)))) rfl rfl rfl rfl (Zn (.bool ((decide (x0 < z0)))) rfl rfl ?_);rcases Zt h with ⟨hc5,h⟩ | ⟨hc5,h⟩
  ·refine Z1 rfl rfl hc5 rfl rfl (Z1 rfl rfl hc5 rfl rfl (Z1 rfl rfl hc5 rfl rfl (Zz (.bool true) (Zl (b := (decide (x0 < z0))) rfl (Te hc5 rfl)) rfl (Zg (.bool true) rfl rfl (Zb ?_)))))
   obtain rfl:=sinj h;exact hQ _ _ ⟨g0,hfr,rfl⟩
  ·refine Z0 (Iz (x0)) (Zk rfl) rfl rfl hc5 rfl (Ze (.yes2 rfl rfl hc5) rfl (Z9 (g := g0) isAgg3 sizeOf3 rfl qf1 fun v6 r6 => ?_))
   obtain rfl:=Zj.1 r6;refine Z0 (.bool ((decide (x0 > z1)))) (Gx rfl rfl rfl) rfl rfl hc5 rfl (Zz (.bool ((decide (x0 > z1)))) (Zl (b:=(decide (x0 < z0))) rfl (Td hc5 rfl)) rfl (Zg (.bool ((decide (x0 > z1)))) rfl rfl (Zb ?_)));obtain rfl:=sinj h;exact hQ _ _ ⟨g0,hfr,rfl⟩
 ·clear hx
  obtain ⟨g7,hfr,l5⟩:=hR;refine Gd ?_;obtain rfl:=sinj h;exact Ta rfl rfl (show _=.bool (o0) from l5) ⟨_,hfr,rfl⟩
def f105 (x0:I32):Option (Bool):=
 Option.bind (α:=Bool) (
  bif (decide ((x0).n < (97 : Int))) then
   some (true)
  else
   some ((decide ((x0).n > (122:Int))))
  ) fun o0=>
 some (o0)
theorem en105:Enters prog 105:=enters_of func105 (by kernel_rfl) rfl
theorem wk105 {gI:Gh} {wI:World} {x0:I32}  {r:Bool} (h:f105 x0=some r):Fn prog 105 #[.int .i32 ((x0).n)] gI wI (fun _ _ v=>v=.bool (r)):=by
 unfold f105 at h;refine fnE func105 rfl rfl fun g0 hm hfr=>?_;show E _ 9 none _ _ _ _ _;refine Z7 (Zg (.bool false) rfl rfl (Z4 ?_));obtain ⟨o0,hx,h⟩:=Z3 h;refine Gs (fun e w=>∃ (g:Gh) ,Fr gI wI g w∧e 2=.bool (o0)) (fun Q' hQ=>?_) (fun t5 w3 hR=>?_)
 ·replace h := hx
  clear hx;refine Za (Zn (.int .i32 ((x0).n)) rfl rfl (Zz (.bool (decide ((x0).n < (97:Int)))) (Pj rfl rfl rfl) rfl (Zn (.bool (decide ((x0).n < (97:Int)))) rfl rfl ?_)));rcases Zt h with ⟨hc2,h⟩ | ⟨hc2,h⟩
  ·refine Z1 rfl rfl hc2 rfl rfl (Z1 rfl rfl hc2 rfl rfl (Zz (.bool true) (Zl (b := (decide ((x0).n < (97 : Int)))) rfl (Te hc2 rfl)) rfl (Zg (.bool true) rfl rfl (Zb ?_))))
   obtain rfl:=sinj h;exact hQ _ _ ⟨g0,hfr,rfl⟩
  ·refine Z0 (.int .i32 ((x0).n)) (Zk rfl) rfl rfl hc2 rfl (Z0 (.bool (decide ((x0).n > (122 : Int)))) (Pj rfl rfl rfl) rfl rfl hc2 rfl (Zz (.bool (decide ((x0).n > (122 : Int)))) (Zl (b := (decide ((x0).n < (97 : Int)))) rfl (Td hc2 rfl)) rfl (Zg (.bool (decide ((x0).n > (122 : Int)))) rfl rfl (Zb ?_))))
   obtain rfl:=sinj h;exact hQ _ _ ⟨g0,hfr,rfl⟩
 ·clear hx
  obtain ⟨g3,hfr,l5⟩:=hR;refine Gd ?_;obtain rfl:=sinj h;exact Ta rfl rfl (show _=.bool (o0) from l5) ⟨_,hfr,rfl⟩
def f107 (x0:List Str) (x1:Str→Option Bool):Option (Int):=
 jn (σ:=Unit) (fun _=>
  some ((-1:Int))
  ) fun k18=>
 lp (σ:=Int) (fun k19 o0=>
  bif (decide (o0 < ((x0).length : Int))) then
   jn (σ:=Unit) (fun _=>
    k19 ((w64 (o0 + (1:Int))))
    ) fun k28=>
   (idx x0 o0).bind fun l9=>
   (x1 l9).bind fun yB=>
   bif yB then
    some (o0)
   else
    k28 ()
  else
   k18 ()
  ) big ((0:Int))
theorem en107:Enters prog 107:=enters_of func107 (by kernel_rfl) rfl
theorem wk107 {gI:Gh} {wI:World} {x0:List Str} {x1:Str→Option Bool} {up0:Value} (rp0:RV gI.m wI x0 up0) {up1:Value} (rp1:Jf prog x1 up1 gI wI) {r:Int} (h:f107 x0 x1=some r):Fn prog 107 #[up0,up1] gI wI (fun _ _ v=>v=Iz (r)):=by
 unfold f107 at h;refine fnE func107 rfl rfl fun g0 hm hfr=>?_;have rp0:=RVc hm rp0;obtain ⟨ff1,fa1,fc1,rfl,fen1,fcl1⟩:=rp1;show E _ 19 none _ _ _ _ _;refine Z7 (Zg (Iz (0)) rfl rfl (Z4 (Zq h (fun (s:Unit) e w=>∃ (g:Gh) ,Fr gI wI g w) (fun X18 k18 zB h=>?_) ?_)))
 ·refine Z7 (Zn up0 rfl rfl (Zz (Iz ((x0).length : Int)) (Tr underlying61 rfl rp0) rfl (Zn (Iz (0)) rfl rfl (Z4 (Zr (Wo h (fun (s : Int) e w => ∃ (g : Gh) , Fr gI wI g w ∧ e 0 = up0 ∧ RV g.m w (x0 : List Str) up0 ∧ e 1 = (.func (.func ff1) fa1 fc1) ∧ e 7 = Iz (((x0).length : Int)) ∧ e 8 = Iz (s)) ⟨g0, hfr, rfl, rp0, rfl, rfl, rfl⟩ (fun X19 k19 cC => ?_)))))))
  rintro o0 oD aE ⟨n9,hfr,l8,l5,n8,v8,t5⟩ h;refine Z7 (Gf (.bool ((decide (o0 < ((x0).length:Int))))) t5 v8 rfl rfl (Z4 (Zf ?_)));rcases Zt h with ⟨i6,h⟩ | ⟨i6,h⟩
  ·refine G5 i6 rfl (Zu (Zd (Zq h (fun (s : Unit) e w => ∃ (g : Gh) , Fr gI wI g w ∧ e 0 = up0 ∧ RV g.m w (x0 : List Str) up0 ∧ e 1 = (.func (.func ff1) fa1 fc1) ∧ e 7 = Iz (((x0).length : Int)) ∧ e 8 = Iz (o0)) (fun X28 k28 uC h => ?_) ?_)))
   ·refine Zr (Z7 (Zo t5 rfl (Zg (Iz (o0)) rfl rfl (Z4 (Z7 (Zo n8 rfl (Zo l8 rfl (Zn (Iz (o0)) rfl rfl ?_))))))))
    obtain ⟨l9,aB,h⟩:=Z3 h;refine Zz (Tb up0 o0 1) (Zh (α:=Str) underlying61 sizeOf9 rfl l5 rfl aB) rfl ?_;have bD:=Tp l5 aB;refine Z6 rfl (Z9 (g:=n9) isAgg9 sizeOf9 rfl bD fun bE cD=>?_);obtain rfl:=Qt.1 cD;obtain ⟨yB,vC,h⟩:=Z3 h;refine Z6 rfl (Jd (g:=n9) (vs:=[Str.v (l9)]) rfl fen1 (.cons rfl .nil) (fcl1 _ _ hfr.ch _ _ _  (Qt.2 rfl) vC) fun lD iE lE hs hr=>?_);have hfr:=hfr.ext hs;have l5:=l5.ext hs;obtain rfl:=Qm.1 hr;refine Z4 ?_;rcases Zt h with ⟨g8,h⟩ | ⟨g8,h⟩
    ·refine G5 g8 rfl (Z7 (Zn (Iz (o0)) rfl rfl (Zg (Iz (o0)) rfl rfl (Z4 (Gd (Tg (Gq (Gq (Tg (Gq ?_))))))))))
     obtain rfl:=sinj h;exact Ta rfl rfl (rq (Iz (o0))) ⟨_,hfr,rfl⟩
    ·refine G8 g8 rfl ?_
     exact Zu (Tc (Zd (uC () _ _ ⟨lD,hfr,l8,l5,n8,v8,t5⟩ h)))
   ·rintro _ yD mE ⟨nD, hfr, lB, mB, nB, oB, vB⟩ h
    refine Za (Gf (Iz ((w64 (o0 + (1:Int))))) vB rfl rfl rfl (Zn (Iz ((w64 (o0 + (1:Int))))) rfl rfl ?_));exact Z4 (cC ((w64 (o0 + (1:Int)))) _ _ ⟨nD,hfr,lB,mB,nB,oB,rfl⟩ h)
  ·refine G8 i6 rfl (Tu (Gy (Gy (G9 ?_))))
   exact Zd (zB () _ _ ⟨n9,hfr⟩ h)
 ·rintro _ zD oE ⟨rE, hfr⟩ h
  refine Z7 (Zg (Iz (-1)) rfl rfl (Z4 (Gd ?_)));obtain rfl:=sinj h;exact Ta rfl rfl (rq (Iz (-1))) ⟨_,hfr,rfl⟩
def f111 (x0:List Z5) (x1:Int) (x2:Int) (x3:Z5→Z5→Option Int):Option ((List Z5)):=
 lp (σ:=(List Z5) × Int) (fun k1 (cC,g8)=>
  jn (σ:=Unit) (fun _=>
   Option.bind (α:=(List Z5)) (
    lp (σ:=(List Z5) × Int) (fun xE (t5,o0)=>
     jn (σ:=Unit) (fun _=>
      Option.bind (α:=(List Z5)) (
       (idx t5 (w64 (o0 - (1:Int)))).bind fun uC=>
       (idx t5 o0).bind fun bE=>
       (idx t5 o0).bind fun uH=>
       (idx ((List.set t5 (Int.toNat o0) uC)) (w64 (o0 - (1:Int)))).bind fun xH=>
       some ((List.set ((List.set t5 (Int.toNat o0) uC)) (Int.toNat (w64 (o0 - (1:Int)))) bE))
       ) fun aB=>
      xE (aB,(w64 (o0 - (1:Int))))
      ) fun yE=>
     Option.bind (α:=Bool) (
      bif (decide (o0 > x1)) then
       (idx t5 o0).bind fun zE=>
       (idx t5 (w64 (o0 - (1:Int)))).bind fun cF=>
       (x3 zE cF).bind fun oB=>
       some ((decide (oB < (0:Int))))
      else
       some (false)
      ) fun n8=>
     bif n8 then
      yE ()
     else
      some (t5)
     ) big (cC,g8)
    ) fun lB=>
   k1 (lB,(w64 (g8 + (1:Int))))
   ) fun k4=>
  bif (decide (g8 < x2)) then
   k4 ()
  else
   some (cC)
  ) big (x0,(w64 (x1 + (1:Int))))
theorem en111:Enters prog 111:=enters_of func111 (by kernel_rfl) rfl
theorem wk111 {iI:Nat} {gI:Gh} {wI:World} {x0:List Z5} {x1:Int} {x2:Int} {x3:Z5→Z5→Option Int} {up0:Value} (mp0:OM iI gI wI 55 x0 up0) {up3:Value} (rp3:Dm prog x3 up3 gI wI) {r:(List Z5)} (h:f111 x0 x1 x2 x3=some r):FnM prog 111 #[up0,Iz (x1),Iz (x2),up3] iI gI wI (fun g w v=>v=.tuple #[]∧OM iI g w 55 r up0):=by
 unfold f111 at h;refine K5 func111 rfl (Nat.le_of_ble_eq_true rfl) fun g0 hm hfr=>?_;have lH:=mp0;replace mp0:=mp0.enter;rw [← hm] at mp0
 replace hm:g0.m=gI.m:=by rw [hm]
 obtain ⟨ff3,fa3,fc3,rfl,fen3,fcl3⟩:=rp3;show E _ 53 none _ _ _ _ _;refine Z7 (Zn (Iz (x1)) rfl rfl (Gf (Iz ((w64 (x1 + (1:Int))))) rfl rfl rfl rfl (Zg (Iz ((w64 (x1 + (1:Int))))) rfl rfl (Z4 (Zr (Wo h (fun (s:(List Z5) × Int) e w=>∃ (g:Gh) ,FrM iI gI wI g w∧e 0=up0∧OM 1 g w 55 (s.1:List Z5) up0∧e 1=Iz (x1)∧e 2=Iz (x2)∧e 3=(.func (.func ff3) fa3 fc3)∧e 8=Iz (s.2)) ⟨g0,hfr,rfl,mp0,rfl,rfl,rfl,rfl⟩ (fun X1 k1 hk1=>?_)))))));rintro ⟨cC,g8⟩ pK w2 ⟨g2,hfr,yH,dF,zH,eF,aI,rF⟩ h;refine Zq h (fun (s:Unit) e w=>∃ (g:Gh) ,FrM iI gI wI g w∧e 0=up0∧OM 1 g w 55 (cC:List Z5) up0∧e 1=Iz (x1)∧e 2=Iz (x2)∧e 3=(.func (.func ff3) fa3 fc3)∧e 8=Iz (g8)) (fun X4 k4 hk4 h=>?_) ?_
 ·refine Z7 (Zo rF rfl (Zo eF rfl (Gf (.bool ((decide (g8 < x2)))) rfl rfl rfl rfl (Z4 ?_))))
  rcases Zt h with ⟨hc5,h⟩ | ⟨hc5,h⟩
  ·refine G5 hc5 rfl ?_
   exact Zu (Zd (hk4 () _ _ ⟨g2,hfr,yH,dF,zH,eF,aI,rF⟩ h))
  ·refine G8 hc5 rfl (Tu (Gy (Gy (G9 ?_))))
   obtain rfl:=sinj h;exact H9 rfl rfl ⟨_,hfr,rfl,lH.back dF⟩
 ·rintro _ qK w6 ⟨g6, hfr, bI, dI, jI, kI, lI, sF⟩ h
  obtain ⟨lB,hx,h⟩:=Z3 h;refine Gs (fun e w=>∃ (g:Gh) ,FrM iI gI wI g w∧e 0=up0∧OM 1 g w 55 (lB:List Z5) up0∧e 1=Iz (x1)∧e 2=Iz (x2)∧e 3=(.func (.func ff3) fa3 fc3)∧e 8=Iz (g8)) (fun Q' hQ=>?_) (fun qJ zJ hR=>?_)
  ·replace h := hx
   clear hx;refine Zr (Z7 (Zo sF rfl (Zg (Iz (g8)) rfl rfl (Z4 (Zr (Wo h (fun (s:(List Z5) × Int) e w=>∃ (g:Gh) ,FrM iI gI wI g w∧e 0=up0∧OM 1 g w 55 (s.1:List Z5) up0∧e 1=Iz (x1)∧e 2=Iz (x2)∧e 3=(.func (.func ff3) fa3 fc3)∧e 8=Iz (g8)∧e 9=Iz (s.2)) ⟨g6,hfr,bI,dI,jI,kI,lI,sF,rfl⟩ (fun X297 xE mH=>?_)))))));rintro ⟨t5,o0⟩ rJ aK ⟨tF,hfr,mB,i6,nB,bD,vB,cD,v8⟩ h;refine Zq h (fun (s:Unit) e w=>∃ (g:Gh) ,FrM iI gI wI g w∧e 0=up0∧OM 1 g w 55 (t5:List Z5) up0∧e 1=Iz (x1)∧e 2=Iz (x2)∧e 3=(.func (.func ff3) fa3 fc3)∧e 8=Iz (g8)∧e 9=Iz (o0)) (fun X411 yE nH h=>?_) ?_
   ·obtain ⟨n8, hx, h⟩ := Z3 h
    refine Gs (fun e w=>∃ (g:Gh) ,FrM iI gI wI g w∧e 0=up0∧OM 1 g w 55 (t5:List Z5) up0∧e 1=Iz (x1)∧e 2=Iz (x2)∧e 3=(.func (.func ff3) fa3 fc3)∧e 8=Iz (g8)∧e 9=Iz (o0)∧e 34=.bool (n8)) (fun Q' hQ=>?_) (fun sJ bK hR=>?_)
    ·replace h := hx
     clear hx;rcases Zt h with ⟨l5,h⟩ | ⟨l5,h⟩
     ·obtain ⟨zE, lE, h⟩ := Z3 h
      refine Ha (x:=.tmp 25) isAgg55 sizeOf55 i6 lE fun uF mI oH=>?_;obtain ⟨cF,mE,h⟩:=Z3 h;refine Ha (x:=.tmp 30) isAgg55 sizeOf55 i6 mE fun vF nI pH=>?_;obtain ⟨oB,qH,h⟩:=Z3 h;refine Tz (g:=tF) (n:=17) [(14,(fun v g w=>v=Iz (oB)))] [0,1,2,3,4,5,6,7,8,9,10,11,12,13,14,15,16] rfl mixed (by kernel_rfl) (⟨fun _=>Kz _,trivial⟩) (Z2 (Iz (o0)) rfl rfl (Zk v8) (Z2 (Iz (x1)) rfl rfl (Zk nB) (Z2 (.bool ((decide (o0 > x1)))) rfl rfl (Gx rfl rfl rfl) (Z2 (.bool ((decide (o0 > x1)))) rfl rfl (Zk rfl) (L_y ((.func (.func ff3) fa3 fc3)) rfl rfl rfl rfl l5 (Zk vB) (L_y up0 rfl rfl rfl rfl l5 (Zk mB) (L_y (Iz (o0)) rfl rfl rfl rfl l5 (Zk v8) (L_y (Tb up0 o0 5) rfl rfl rfl rfl l5 (G0 (α:=Z5) underlying56 sizeOf55 rfl i6 rfl lE) (Tv (c:=uF) rfl rfl (.yes2 rfl rfl l5) (fun _ _ h=>⟨h.ch,fun b hb _=>h.below.block b hb⟩) oH rfl (L_y up0 rfl rfl rfl rfl l5 (Zk mB) (L_y (Iz (o0)) rfl rfl rfl rfl l5 (Zk v8) (L_y (Iz ((w64 (o0 - (1:Int))))) rfl rfl rfl rfl l5 (Gx rfl rfl rfl) (L_y (Tb up0 (w64 (o0 - (1:Int))) 5) rfl rfl rfl rfl l5 (G0 (α:=Z5) underlying56 sizeOf55 rfl i6 rfl mE) (Tv (c:=vF) rfl rfl (.yes2 rfl rfl l5) (fun _ _ h=>⟨h.ch,fun b hb _=>h.below.block b hb⟩) pH rfl (Ks (φ:=fun v g w=>v=Iz (oB)) rfl rfl (.yes2 rfl rfl l5) (fun g w hd=>Jd (g:=g) (vs:=[uF,vF]) rfl fen3 (.cons rfl (.cons rfl .nil)) (fcl3 _ _ (hfr.ext hd.1).ch _ _ _ _ _  (mI.ext hd.1) (nI.ext hd.1) qH) fun g' w' v hs hr=>⟨g',hs,Zj.1 hr⟩) (fun cK hv=>?_))))))))))))))));obtain ⟨_,_,_,rfl⟩:=hv;refine L_y (.bool ((decide (oB < (0:Int))))) rfl rfl rfl rfl l5 (Gx rfl rfl rfl) (Z2 (.bool ((decide (oB < (0:Int))))) rfl rfl (Zl (b:=(decide (o0 > x1))) rfl (Te l5 rfl)) (Ho fun pI dK hs=>?_));have hfr:=hfr.ext hs;have i6:=i6.ext hs;clear hs;refine Zb ?_;obtain rfl:=sinj h;exact hQ _ _ ⟨pI,hfr,mB,i6,nB,bD,vB,cD,v8,rfl⟩
     ·refine Tz (g := tF) (n := 17) [] [0, 1, 2, 3, 4, 5, 6, 7, 8, 9, 10, 11, 12, 13, 14, 15, 16] rfl mixed (by kernel_rfl) trivial (Z2 (Iz (o0)) rfl rfl (Zk v8) (Z2 (Iz (x1)) rfl rfl (Zk nB) (Z2 (.bool ((decide (o0 > x1)))) rfl rfl (Gx rfl rfl rfl) (Z2 (.bool ((decide (o0 > x1)))) rfl rfl (Zk rfl) ?_))))
      iterate 12 refine L_s rfl rfl rfl l5 rfl ?_
      refine Z2 (.bool false) rfl rfl (Zl (b:=(decide (o0 > x1))) rfl (Td l5 rfl)) (Ho fun qI lK hs=>?_);have hfr:=hfr.ext hs;have i6:=i6.ext hs;clear hs;refine Zb ?_;obtain rfl:=sinj h;exact hQ _ _ ⟨qI,hfr,mB,i6,nB,bD,vB,cD,v8,rfl⟩
    ·clear hx
     obtain ⟨xF,hfr,lD,nD,oD,yD,zD,aE,yF,zB⟩:=hR;rcases Zt h with ⟨vC,h⟩ | ⟨vC,h⟩
     ·refine Tj (Eq.trans (show ev _ _ = .bool (n8) from zB) (congrArg Value.bool vC)) ?_
      exact Zu (Zd (nH () _ _ ⟨xF,hfr,lD,nD,oD,yD,zD,aE,yF⟩ h))
     ·refine Gz (Eq.trans (show ev _ _ = .bool (n8) from zB) (congrArg Value.bool vC)) (Tu (Gy (Gy (G9 (Tc ?_)))))
      obtain rfl:=sinj h;exact hQ _ _ ⟨xF,hfr,lD,nD,oD,yD,zD,aE⟩
   ·rintro _ vJ sI ⟨aG, hfr, l9, l8, bG, cG, eG, gG, n9⟩ h
    obtain ⟨aB,hx,h⟩:=Z3 h;refine Gs (fun e w=>∃ (g:Gh) ,FrM iI gI wI g w∧e 0=up0∧OM 1 g w 55 (aB:List Z5) up0∧e 1=Iz (x1)∧e 2=Iz (x2)∧e 3=(.func (.func ff3) fa3 fc3)∧e 8=Iz (g8)∧e 9=Iz (o0)) (fun Q' hQ=>?_) (fun xJ mK hR=>?_)
    ·replace h := hx
     clear hx;refine Zr ?_;obtain ⟨uC,oE,h⟩:=Z3 h;refine Ha (x:=.tmp 45) isAgg55 sizeOf55 l8 oE fun jJ iE sH=>?_;obtain ⟨bE,rE,h⟩:=Z3 h;refine Ha (x:=.tmp 49) isAgg55 sizeOf55 l8 rE fun kJ yB tH=>?_;obtain ⟨uH,uE,h⟩:=Z3 h;refine Ja (g:=aG) (n:=15) [2,3,4] [] [0,1,2,3,4,5,6,7,8,9,10,11,12,13,14] rfl mixed (by kernel_rfl) trivial rfl (Z2 up0 rfl rfl (Zk l9) (Z2 (Iz (o0)) rfl rfl (Zk n9) (Wj (c:=up0) rfl rfl .plain (Zk l9) (Wj (c:=Iz (o0)) rfl rfl .plain (Zk n9) (Wj (c:=Iz ((w64 (o0 - (1:Int))))) rfl rfl .plain (Gx rfl rfl rfl) (Z2 up0 rfl rfl (Zk l9) (Z2 (Iz (o0)) rfl rfl (Zk n9) (Z2 (Iz ((w64 (o0 - (1:Int))))) rfl rfl (Gx rfl rfl rfl) (Z2 (Tb up0 (w64 (o0 - (1:Int))) 5) rfl rfl (G0 (α:=Z5) underlying56 sizeOf55 rfl l8 rfl oE) (Tv (c:=jJ) rfl rfl .plain (fun _ _ h=>⟨h.ch,fun b hb _=>h.below.block b hb⟩) sH rfl (Z2 up0 rfl rfl (Zk l9) (Z2 (Iz (o0)) rfl rfl (Zk n9) (Z2 (Tb up0 o0 5) rfl rfl (G0 (α:=Z5) underlying56 sizeOf55 rfl l8 rfl rE) (Tv (c:=kJ) rfl rfl .plain (fun _ _ h=>⟨h.ch,fun b hb _=>h.below.block b hb⟩) tH rfl (Z2 (Tb up0 o0 5) rfl rfl (G0 (α:=Z5) underlying56 sizeOf55 rfl l8 rfl uE) (Ho fun iG lJ hs=>?_))))))))))))))));have hlt:Lt aG.m sI iG lJ:=hs.ch;have hfr:=hfr.ext hs;have l8:=l8.ext hs;have iE:=iE.ext hs;have yB:=yB.ext hs;clear hs;refine Yo hlt.w .plain rfl (Kl (g:=iG) (α:=Z5) (a':=uC) sizeOf55 rfl l8 uE rfl iE fun mJ nK hs b582=>?_);have hfr:=hfr.stp hs;have hlt:=hlt.stp hs;have yB:=yB.stp hs;obtain ⟨xH,vE,h⟩:=Z3 h;refine Y6 hlt.w (v:=Tb up0 (w64 (o0 - (1:Int))) 5) (G0 (α:=Z5) underlying56 sizeOf55 rfl b582 rfl vE) .plain rfl (Yo hlt.w .plain rfl (Kl (g:=mJ) (α:=Z5) (a':=bE) sizeOf55 rfl b582 vE rfl yB fun nJ oK hs b584=>?_));have hfr:=hfr.stp hs;have hlt:=hlt.stp hs;refine Uo hlt.w ?_;clear hlt;refine Tc ?_;obtain rfl:=sinj h;exact hQ _ _ ⟨nJ,hfr,l9,b584,bG,cG,eG,gG,n9⟩
    ·clear hx
     obtain ⟨oJ,hfr,jG,kG,lG,mG,sG,xG,yG⟩:=hR;refine Za (Zo yG rfl (Gf (Iz ((w64 (o0 - (1:Int))))) rfl rfl rfl rfl (Zg (Iz ((w64 (o0 - (1:Int))))) rfl rfl ?_)));exact Z4 (mH (aB,(w64 (o0 - (1:Int)))) _ _ ⟨oJ,hfr,jG,kG,lG,mG,sG,xG,rfl⟩ h)
  ·clear hx
   obtain ⟨pJ,hfr,zG,aH,cH,gH,jH,kH⟩:=hR;refine Za (Zo kH rfl (Gf (Iz ((w64 (g8 + (1:Int))))) rfl rfl rfl rfl (Zg (Iz ((w64 (g8 + (1:Int))))) rfl rfl ?_)));exact Z4 (hk1 (lB,(w64 (g8 + (1:Int)))) _ _ ⟨pJ,hfr,zG,aH,cH,gH,jH,rfl⟩ h)
def f121 (x0:Int) (z0:Int) (z1:Int):Option (Bool):=
 Option.bind (α:=Bool) (
  bif (decide (x0 < z0)) then
   some (true)
  else
   some ((decide (x0 > z1)))
  ) fun o0=>
 some (o0)
theorem en121:Enters prog 121:=enters_of func121 (by kernel_rfl) rfl
theorem wk121 {gI:Gh} {wI:World} {x0:Int} {z0:Int} {z1:Int} {pf0:Value} (qf0:PT gI.m wI z0 pf0) {pf1:Value} (qf1:PT gI.m wI z1 pf1) {r:Bool} (h:f121 x0 z0 z1=some r):Fn prog 121 #[Iz (x0),pf0,pf1] gI wI (fun _ _ v=>v=.bool (r)):=by
 unfold f121 at h;refine fnE func121 rfl rfl fun g0 hm hfr=>?_;have qf0:PT g0.m wI z0 pf0:=hm ▸ qf0;have qf1:PT g0.m wI z1 pf1:=hm ▸ qf1;show E _ 13 none _ _ _ _ _;refine Z7 (Zg (.bool false) rfl rfl (Z4 ?_));obtain ⟨o0,hx,h⟩:=Z3 h;refine Gs (fun e w=>∃ (g:Gh) ,Fr gI wI g w∧e 4=.bool (o0)) (fun Q' hQ=>?_) (fun t5 w7 hR=>?_)
 ·replace h := hx
  clear hx;refine Za (Zn (Iz (x0)) rfl rfl (Z6 rfl (Z9 (g:=g0) isAgg3 sizeOf3 rfl qf0 fun v4 r4=>?_)));obtain rfl:=Zj.1 r4;refine Gf (.bool ((decide (x0 < z0)))) rfl rfl rfl rfl (Zn (.bool ((decide (x0 < z0)))) rfl rfl ?_);rcases Zt h with ⟨hc5,h⟩ | ⟨hc5,h⟩
  ·refine Z1 rfl rfl hc5 rfl rfl (Z1 rfl rfl hc5 rfl rfl (Z1 rfl rfl hc5 rfl rfl (Zz (.bool true) (Zl (b := (decide (x0 < z0))) rfl (Te hc5 rfl)) rfl (Zg (.bool true) rfl rfl (Zb ?_)))))
   obtain rfl:=sinj h;exact hQ _ _ ⟨g0,hfr,rfl⟩
  ·refine Z0 (Iz (x0)) (Zk rfl) rfl rfl hc5 rfl (Ze (.yes2 rfl rfl hc5) rfl (Z9 (g := g0) isAgg3 sizeOf3 rfl qf1 fun v6 r6 => ?_))
   obtain rfl:=Zj.1 r6;refine Z0 (.bool ((decide (x0 > z1)))) (Gx rfl rfl rfl) rfl rfl hc5 rfl (Zz (.bool ((decide (x0 > z1)))) (Zl (b:=(decide (x0 < z0))) rfl (Td hc5 rfl)) rfl (Zg (.bool ((decide (x0 > z1)))) rfl rfl (Zb ?_)));obtain rfl:=sinj h;exact hQ _ _ ⟨g0,hfr,rfl⟩
 ·clear hx
  obtain ⟨g7,hfr,l5⟩:=hR;refine Gd ?_;obtain rfl:=sinj h;exact Ta rfl rfl (show _=.bool (o0) from l5) ⟨_,hfr,rfl⟩
def f124 (x0:U64) (x1:U64):Option (U64 × U64):=
 (W8 ((x0).n) ((32:Int))).bind fun y1=>
 (W8 ((x1).n) ((32:Int))).bind fun y2=>
 (W8 (Qa ((Th .and ((x0).n) ((4294967295:Int))) * (Th .and ((x1).n) ((4294967295:Int))))) ((32:Int))).bind fun y3=>
 (W8 (Qa ((Qa (y1 * (Th .and ((x1).n) ((4294967295:Int))))) + y3)) ((32:Int))).bind fun y4=>
 (W8 (Qa ((Th .and (Qa ((Qa (y1 * (Th .and ((x1).n) ((4294967295:Int))))) + y3)) ((4294967295:Int))) + (Qa ((Th .and ((x0).n) ((4294967295:Int))) * y2)))) ((32:Int))).bind fun y5=>
 some ((⟨Qa ((Qa ((Qa (y1 * y2)) + y4)) + y5)⟩:U64),(⟨Qa (((x0).n) * ((x1).n))⟩:U64))
theorem en124:Enters prog 124:=enters_of func124 (by kernel_rfl) rfl
theorem wk124 {gI:Gh} {wI:World} {x0:U64} {x1:U64}  {r:U64 × U64} (h:f124 x0 x1=some r):Fn prog 124 #[.int .u64 ((x0).n),.int .u64 ((x1).n)] gI wI (fun m w v=>∃ y0 y1,v=.tuple #[y0,y1]∧y0=.int .u64 ((r.1).n)∧y1=.int .u64 ((r.2).n)):=by
 unfold f124 at h;refine fnE func124 rfl rfl fun g0 hm hfr=>?_;show E _ 51 none _ _ _ _ _;refine Z7 (Zg (.int .u64 (0)) rfl rfl (Zg (.int .u64 (0)) rfl rfl (Z4 (Z7 (Zn (.int .u64 ((x0).n)) rfl rfl (Zz (.int .u64 (Th .and ((x0).n) ((4294967295:Int)))) (Kv (by simp) rfl rfl) rfl (Zg (.int .u64 (Th .and ((x0).n) ((4294967295:Int)))) rfl rfl (Z4 (Z7 (Zn (.int .u64 ((x0).n)) rfl rfl ?_))))))))));obtain ⟨y1,hy1,h⟩:=Z3 h;refine Zz (.int .u64 (y1)) (J1 rfl rfl hy1) rfl (Zg (.int .u64 (y1)) rfl rfl (Z4 (Z7 (Zn (.int .u64 ((x1).n)) rfl rfl (Zz (.int .u64 (Th .and ((x1).n) ((4294967295:Int)))) (Kv (by simp) rfl rfl) rfl (Zg (.int .u64 (Th .and ((x1).n) ((4294967295:Int)))) rfl rfl (Z4 (Z7 (Zn (.int .u64 ((x1).n)) rfl rfl ?_)))))))));obtain ⟨y2,hy2,h⟩:=Z3 h;refine Zz (.int .u64 (y2)) (J1 rfl rfl hy2) rfl (Zg (.int .u64 (y2)) rfl rfl (Z4 (Z7 (Zn (.int .u64 (Th .and ((x0).n) ((4294967295:Int)))) rfl rfl (Zn (.int .u64 (Th .and ((x1).n) ((4294967295:Int)))) rfl rfl (Zz (.int .u64 (Qa ((Th .and ((x0).n) ((4294967295:Int))) * (Th .and ((x1).n) ((4294967295:Int)))))) (Re rfl rfl) rfl (Zg (.int .u64 (Qa ((Th .and ((x0).n) ((4294967295:Int))) * (Th .and ((x1).n) ((4294967295:Int)))))) rfl rfl (Z4 (Z7 (Zn (.int .u64 (y1)) rfl rfl (Zn (.int .u64 (Th .and ((x1).n) ((4294967295:Int)))) rfl rfl (Zz (.int .u64 (Qa (y1 * (Th .and ((x1).n) ((4294967295:Int)))))) (Re rfl rfl) rfl (Zn (.int .u64 (Qa ((Th .and ((x0).n) ((4294967295:Int))) * (Th .and ((x1).n) ((4294967295:Int)))))) rfl rfl ?_)))))))))))));obtain ⟨y3,hy3,h⟩:=Z3 h;refine Zz (.int .u64 (y3)) (J1 rfl rfl hy3) rfl (Zz (.int .u64 (Qa ((Qa (y1 * (Th .and ((x1).n) ((4294967295:Int))))) + y3))) (C0 rfl rfl) rfl (Zz (.int .u64 (Qa ((Qa (y1 * (Th .and ((x1).n) ((4294967295:Int))))) + y3))) (Tx rfl) rfl (Z4 (Z7 (Zz (.int .u64 (Qa ((Qa (y1 * (Th .and ((x1).n) ((4294967295:Int))))) + y3))) (Zk rfl) rfl (Zz (.int .u64 (Th .and (Qa ((Qa (y1 * (Th .and ((x1).n) ((4294967295:Int))))) + y3)) ((4294967295:Int)))) (Kv (by simp) rfl rfl) rfl (Zz (.int .u64 (Th .and (Qa ((Qa (y1 * (Th .and ((x1).n) ((4294967295:Int))))) + y3)) ((4294967295:Int)))) (Tx rfl) rfl (Z4 (Z7 (Zz (.int .u64 (Qa ((Qa (y1 * (Th .and ((x1).n) ((4294967295:Int))))) + y3))) (Zk rfl) rfl ?_))))))))));obtain ⟨y4,o0,h⟩:=Z3 h;refine Zz (.int .u64 (y4)) (J1 rfl rfl o0) rfl (Zg (.int .u64 (y4)) rfl rfl (Z4 (Z7 (Zz (.int .u64 (Th .and (Qa ((Qa (y1 * (Th .and ((x1).n) ((4294967295:Int))))) + y3)) ((4294967295:Int)))) (Zk rfl) rfl (Zn (.int .u64 (Th .and ((x0).n) ((4294967295:Int)))) rfl rfl (Zn (.int .u64 (y2)) rfl rfl (Zz (.int .u64 (Qa ((Th .and ((x0).n) ((4294967295:Int))) * y2))) (Re rfl rfl) rfl (Zz (.int .u64 (Qa ((Th .and (Qa ((Qa (y1 * (Th .and ((x1).n) ((4294967295:Int))))) + y3)) ((4294967295:Int))) + (Qa ((Th .and ((x0).n) ((4294967295:Int))) * y2))))) (C0 rfl rfl) rfl (Zz (.int .u64 (Qa ((Th .and (Qa ((Qa (y1 * (Th .and ((x1).n) ((4294967295:Int))))) + y3)) ((4294967295:Int))) + (Qa ((Th .and ((x0).n) ((4294967295:Int))) * y2))))) (Tx rfl) rfl (Z4 (Z7 (Zn (.int .u64 (y1)) rfl rfl (Zn (.int .u64 (y2)) rfl rfl (Zz (.int .u64 (Qa (y1 * y2))) (Re rfl rfl) rfl (Zn (.int .u64 (y4)) rfl rfl (Zz (.int .u64 (Qa ((Qa (y1 * y2)) + y4))) (C0 rfl rfl) rfl (Zz (.int .u64 (Qa ((Th .and (Qa ((Qa (y1 * (Th .and ((x1).n) ((4294967295:Int))))) + y3)) ((4294967295:Int))) + (Qa ((Th .and ((x0).n) ((4294967295:Int))) * y2))))) (Zk rfl) rfl ?_)))))))))))))))));obtain ⟨y5,hy5,h⟩:=Z3 h;refine Zz (.int .u64 (y5)) (J1 rfl rfl hy5) rfl (Zz (.int .u64 (Qa ((Qa ((Qa (y1 * y2)) + y4)) + y5))) (C0 rfl rfl) rfl (Zz (.int .u64 (Qa ((Qa ((Qa (y1 * y2)) + y4)) + y5))) (Tx rfl) rfl (Z4 (Z7 (Zn (.int .u64 ((x0).n)) rfl rfl (Zn (.int .u64 ((x1).n)) rfl rfl (Zz (.int .u64 (Qa (((x0).n) * ((x1).n)))) (Re rfl rfl) rfl (Zg (.int .u64 (Qa (((x0).n) * ((x1).n)))) rfl rfl (Z4 (Gd ?_))))))))));obtain rfl:=sinj h;exact Yq rfl rfl (rq (.int .u64 (Qa ((Qa ((Qa (y1 * y2)) + y4)) + y5)))) (rq (.int .u64 (Qa (((x0).n) * ((x1).n))))) ⟨_,hfr,_,_,rfl,rfl,rfl⟩
def f126 (x0:Bool):Option (UInt8):=
 jn (σ:=Unit) (fun _=>
  some ((46:UInt8))
  ) fun k2=>
 bif x0 then
  some ((120:UInt8))
 else
  k2 ()
theorem en126:Enters prog 126:=enters_of func126 (by kernel_rfl) rfl
theorem wk126 {gI:Gh} {wI:World} {x0:Bool}  {r:UInt8} (h:f126 x0=some r):Fn prog 126 #[.bool (x0)] gI wI (fun _ _ v=>v=.int .u8 (UInt8.toNat (r))):=by
 unfold f126 at h;refine fnE func126 rfl rfl fun g0 hm hfr=>?_;show E _ 4 none _ _ _ _ _;refine Z7 (Zg (.int .u8 (UInt8.toNat 0)) rfl rfl (Z4 (Zq h (fun (s:Unit) e w=>∃ (g:Gh) ,Fr gI wI g w) (fun X2 k2 hk2 h=>?_) ?_)))
 ·refine Z7 (Zn (.bool (x0)) rfl rfl (Z4 ?_))
  rcases Zt h with ⟨hc3,h⟩ | ⟨hc3,h⟩
  ·refine G5 hc3 rfl (Z7 (Zg (.int .u8 (UInt8.toNat 120)) rfl rfl (Z4 (Gd (Gq ?_)))))
   obtain rfl:=sinj h;exact Ta rfl rfl (rq (.int .u8 (UInt8.toNat 120))) ⟨_,hfr,rfl⟩
  ·refine G8 hc3 rfl ?_
   exact Zu (Zd (hk2 () _ _ ⟨g0,hfr⟩ h))
 ·rintro _ o0 w4 ⟨g4, hfr⟩ h
  refine Z7 (Zg (.int .u8 (UInt8.toNat 46)) rfl rfl (Z4 (Gd ?_)));obtain rfl:=sinj h;exact Ta rfl rfl (rq (.int .u8 (UInt8.toNat 46))) ⟨_,hfr,rfl⟩
def f127 (x0:Qo) (x1:Int) (x2:Int):Option (Bool):=
 (idx (((x0).TieHarness).Warps) x2).bind fun y5=>
 (W8 x1 y5).bind fun y8=>
 some (((Qd .and y8 (1:Int)) == (1:Int)))
theorem en127:Enters prog 127:=enters_of func127 (by kernel_rfl) rfl
theorem wk127 {gI:Gh} {wI:World} {x0:Qo} {x1:Int} {x2:Int} {up0:Value} (rp0:RV gI.m wI x0 up0) {r:Bool} (h:f127 x0 x1 x2=some r):Fn prog 127 #[up0,Iz (x1),Iz (x2)] gI wI (fun _ _ v=>v=.bool (r)):=by
 unfold f127 at h;refine fnE func127 rfl rfl fun g0 hm hfr=>?_;have rp0:=RVc hm rp0;show E _ 17 none _ _ _ _ _;refine Z7 (Z6 rfl (Tq (g:=g0) rfl rp0 fun g1 w1 p1 hs q1=>?_));have hfr:=hfr.ext hs;refine Zg (.bool false) rfl rfl (Z4 (Z7 (Zn (Iz (x1)) rfl rfl (Zz (Ga p1 0) (Zc F1 rfl (PT.ptr q1)) rfl ?_))));have q2:=Zm (Jx).1 q1;refine Zz (Ga (Ga p1 0) 1) (Zc Kw rfl (PT.ptr q2)) rfl ?_;have q3:=Zm (Tm).1 q2;refine Z6 rfl (Z9 (g:=g1) isAgg24 sizeOf24 rfl q3 fun v4 r4=>(Zn (Iz (x2)) rfl rfl ?_));obtain ⟨y5,hy5,h⟩:=Z3 h;refine Zz (Tb v4 x2 1) (Zh (α:=Int) underlying24 sizeOf3 rfl r4 rfl hy5) rfl ?_;have q6:=Tp r4 hy5;refine Z6 rfl (Z9 (g:=g1) isAgg3 sizeOf3 rfl q6 fun v7 r7=>?_);obtain rfl:=Zj.1 r7;obtain ⟨y8,o0,h⟩:=Z3 h;refine Zz (Iz (y8)) (Gx rfl rfl (congrArg (Option.map (Value.int .i64)) o0)) rfl (Gf (Iz ((Qd .and y8 (1:Int)))) rfl rfl rfl rfl (Gf (.bool (((Qd .and y8 (1:Int)) == (1:Int)))) rfl rfl rfl rfl (Zg (.bool (((Qd .and y8 (1:Int)) == (1:Int)))) rfl rfl (Z4 (Gd ?_)))));obtain rfl:=sinj h;exact Ta rfl rfl (rq (.bool (((Qd .and y8 (1:Int)) == (1:Int))))) ⟨_,hfr,rfl⟩
def f128 (x0:List Zv) (x1:Zv→Option Bool):Option (Int):=
 jn (σ:=Unit) (fun _=>
  some ((-1:Int))
  ) fun k18=>
 lp (σ:=Int) (fun k19 o0=>
  bif (decide (o0 < ((x0).length : Int))) then
   jn (σ:=Unit) (fun _=>
    k19 ((w64 (o0 + (1:Int))))
    ) fun k28=>
   (idx x0 o0).bind fun vB=>
   (x1 vB).bind fun yB=>
   bif yB then
    some (o0)
   else
    k28 ()
  else
   k18 ()
  ) big ((0:Int))
theorem en128:Enters prog 128:=enters_of func128 (by kernel_rfl) rfl
theorem wk128 {gI:Gh} {wI:World} {x0:List Zv} {x1:Zv→Option Bool} {up0:Value} (rp0:RV gI.m wI x0 up0) {up1:Value} (rp1:Jf prog x1 up1 gI wI) {r:Int} (h:f128 x0 x1=some r):Fn prog 128 #[up0,up1] gI wI (fun _ _ v=>v=Iz (r)):=by
 unfold f128 at h;refine fnE func128 rfl rfl fun g0 hm hfr=>?_;have rp0:=RVc hm rp0;obtain ⟨ff1,fa1,fc1,rfl,fen1,fcl1⟩:=rp1;show E _ 19 none _ _ _ _ _;refine Z7 (Zg (Iz (0)) rfl rfl (Z4 (Zq h (fun (s:Unit) e w=>∃ (g:Gh) ,Fr gI wI g w) (fun X18 k18 zB h=>?_) ?_)))
 ·refine Z7 (Zn up0 rfl rfl (Zz (Iz ((x0).length : Int)) (Tr underlying65 rfl rp0) rfl (Zn (Iz (0)) rfl rfl (Z4 (Zr (Wo h (fun (s : Int) e w => ∃ (g : Gh) , Fr gI wI g w ∧ e 0 = up0 ∧ RV g.m w (x0 : List Zv) up0 ∧ e 1 = (.func (.func ff1) fa1 fc1) ∧ e 7 = Iz (((x0).length : Int)) ∧ e 8 = Iz (s)) ⟨g0, hfr, rfl, rp0, rfl, rfl, rfl⟩ (fun X19 k19 cC => ?_)))))))
  rintro o0 yD bE ⟨l9,hfr,l8,l5,n8,v8,t5⟩ h;refine Z7 (Gf (.bool ((decide (o0 < ((x0).length:Int))))) t5 v8 rfl rfl (Z4 (Zf ?_)));rcases Zt h with ⟨i6,h⟩ | ⟨i6,h⟩
  ·refine G5 i6 rfl (Zu (Zd (Zq h (fun (s : Unit) e w => ∃ (g : Gh) , Fr gI wI g w ∧ e 0 = up0 ∧ RV g.m w (x0 : List Zv) up0 ∧ e 1 = (.func (.func ff1) fa1 fc1) ∧ e 7 = Iz (((x0).length : Int)) ∧ e 8 = Iz (o0)) (fun X28 k28 uC h => ?_) ?_)))
   ·refine Zr (Z7 (Zo t5 rfl (Zg (Iz (o0)) rfl rfl (Z4 (Z7 (Zo n8 rfl (Zo l8 rfl (Zn (Iz (o0)) rfl rfl ?_))))))))
    obtain ⟨vB,n9,h⟩:=Z3 h;refine Zz (Tb up0 o0 5) (Zh (α:=Zv) underlying65 sizeOf34 rfl l5 rfl n9) rfl ?_;have bD:=Tp l5 n9;refine Z6 rfl (Z9 (g:=l9) isAgg34 sizeOf34 rfl bD fun cD lD=>?_);obtain ⟨yB,vC,h⟩:=Z3 h;refine Z6 rfl (Jd (g:=l9) (vs:=[cD]) rfl fen1 (.cons rfl .nil) (fcl1 _ _ hfr.ch _ _ _  lD vC) fun nD iE lE hs hr=>?_);have hfr:=hfr.ext hs;have l5:=l5.ext hs;obtain rfl:=Qm.1 hr;refine Z4 ?_;rcases Zt h with ⟨g8,h⟩ | ⟨g8,h⟩
    ·refine G5 g8 rfl (Z7 (Zn (Iz (o0)) rfl rfl (Zg (Iz (o0)) rfl rfl (Z4 (Gd (Tg (Gq (Gq (Tg (Gq ?_))))))))))
     obtain rfl:=sinj h;exact Ta rfl rfl (rq (Iz (o0))) ⟨_,hfr,rfl⟩
    ·refine G8 g8 rfl ?_
     exact Zu (Tc (Zd (uC () _ _ ⟨nD,hfr,l8,l5,n8,v8,t5⟩ h)))
   ·rintro _ zD mE ⟨oD, hfr, aB, lB, mB, nB, oB⟩ h
    refine Za (Gf (Iz ((w64 (o0 + (1:Int))))) oB rfl rfl rfl (Zn (Iz ((w64 (o0 + (1:Int))))) rfl rfl ?_));exact Z4 (cC ((w64 (o0 + (1:Int)))) _ _ ⟨oD,hfr,aB,lB,mB,nB,rfl⟩ h)
  ·refine G8 i6 rfl (Tu (Gy (Gy (G9 ?_))))
   exact Zd (zB () _ _ ⟨l9,hfr⟩ h)
 ·rintro _ aE oE ⟨rE, hfr⟩ h
  refine Z7 (Zg (Iz (-1)) rfl rfl (Z4 (Gd ?_)));obtain rfl:=sinj h;exact Ta rfl rfl (rq (Iz (-1))) ⟨_,hfr,rfl⟩
def f129 (x0:List Zv) (x1:Int) (x2:Int) (x3:Zv→Zv→Option Int):Option ((List Zv)):=
 lp (σ:=(List Zv) × Int) (fun k1 (cC,g8)=>
  jn (σ:=Unit) (fun _=>
   Option.bind (α:=(List Zv)) (
    lp (σ:=(List Zv) × Int) (fun xE (t5,o0)=>
     jn (σ:=Unit) (fun _=>
      Option.bind (α:=(List Zv)) (
       (idx t5 (w64 (o0 - (1:Int)))).bind fun uC=>
       (idx t5 o0).bind fun bE=>
       (idx t5 o0).bind fun uH=>
       (idx ((List.set t5 (Int.toNat o0) uC)) (w64 (o0 - (1:Int)))).bind fun xH=>
       some ((List.set ((List.set t5 (Int.toNat o0) uC)) (Int.toNat (w64 (o0 - (1:Int)))) bE))
       ) fun aB=>
      xE (aB,(w64 (o0 - (1:Int))))
      ) fun yE=>
     Option.bind (α:=Bool) (
      bif (decide (o0 > x1)) then
       (idx t5 o0).bind fun zE=>
       (idx t5 (w64 (o0 - (1:Int)))).bind fun cF=>
       (x3 zE cF).bind fun oB=>
       some ((decide (oB < (0:Int))))
      else
       some (false)
      ) fun n8=>
     bif n8 then
      yE ()
     else
      some (t5)
     ) big (cC,g8)
    ) fun lB=>
   k1 (lB,(w64 (g8 + (1:Int))))
   ) fun k4=>
  bif (decide (g8 < x2)) then
   k4 ()
  else
   some (cC)
  ) big (x0,(w64 (x1 + (1:Int))))
theorem en129:Enters prog 129:=enters_of func129 (by kernel_rfl) rfl
theorem wk129 {iI:Nat} {gI:Gh} {wI:World} {x0:List Zv} {x1:Int} {x2:Int} {x3:Zv→Zv→Option Int} {up0:Value} (mp0:OM iI gI wI 34 x0 up0) {up3:Value} (rp3:Dm prog x3 up3 gI wI) {r:(List Zv)} (h:f129 x0 x1 x2 x3=some r):FnM prog 129 #[up0,Iz (x1),Iz (x2),up3] iI gI wI (fun g w v=>v=.tuple #[]∧OM iI g w 34 r up0):=by
 unfold f129 at h;refine K5 func129 rfl (Nat.le_of_ble_eq_true rfl) fun g0 hm hfr=>?_;have lH:=mp0;replace mp0:=mp0.enter;rw [← hm] at mp0
 replace hm:g0.m=gI.m:=by rw [hm]
 obtain ⟨ff3,fa3,fc3,rfl,fen3,fcl3⟩:=rp3;show E _ 53 none _ _ _ _ _;refine Z7 (Zn (Iz (x1)) rfl rfl (Gf (Iz ((w64 (x1 + (1:Int))))) rfl rfl rfl rfl (Zg (Iz ((w64 (x1 + (1:Int))))) rfl rfl (Z4 (Zr (Wo h (fun (s:(List Zv) × Int) e w=>∃ (g:Gh) ,FrM iI gI wI g w∧e 0=up0∧OM 1 g w 34 (s.1:List Zv) up0∧e 1=Iz (x1)∧e 2=Iz (x2)∧e 3=(.func (.func ff3) fa3 fc3)∧e 8=Iz (s.2)) ⟨g0,hfr,rfl,mp0,rfl,rfl,rfl,rfl⟩ (fun X1 k1 hk1=>?_)))))));rintro ⟨cC,g8⟩ pK w2 ⟨g2,hfr,yH,dF,zH,eF,aI,rF⟩ h;refine Zq h (fun (s:Unit) e w=>∃ (g:Gh) ,FrM iI gI wI g w∧e 0=up0∧OM 1 g w 34 (cC:List Zv) up0∧e 1=Iz (x1)∧e 2=Iz (x2)∧e 3=(.func (.func ff3) fa3 fc3)∧e 8=Iz (g8)) (fun X4 k4 hk4 h=>?_) ?_
 ·refine Z7 (Zo rF rfl (Zo eF rfl (Gf (.bool ((decide (g8 < x2)))) rfl rfl rfl rfl (Z4 ?_))))
  rcases Zt h with ⟨hc5,h⟩ | ⟨hc5,h⟩
  ·refine G5 hc5 rfl ?_
   exact Zu (Zd (hk4 () _ _ ⟨g2,hfr,yH,dF,zH,eF,aI,rF⟩ h))
  ·refine G8 hc5 rfl (Tu (Gy (Gy (G9 ?_))))
   obtain rfl:=sinj h;exact H9 rfl rfl ⟨_,hfr,rfl,lH.back dF⟩
 ·rintro _ qK w6 ⟨g6, hfr, bI, dI, jI, kI, lI, sF⟩ h
  obtain ⟨lB,hx,h⟩:=Z3 h;refine Gs (fun e w=>∃ (g:Gh) ,FrM iI gI wI g w∧e 0=up0∧OM 1 g w 34 (lB:List Zv) up0∧e 1=Iz (x1)∧e 2=Iz (x2)∧e 3=(.func (.func ff3) fa3 fc3)∧e 8=Iz (g8)) (fun Q' hQ=>?_) (fun qJ zJ hR=>?_)
  ·replace h := hx
   clear hx;refine Zr (Z7 (Zo sF rfl (Zg (Iz (g8)) rfl rfl (Z4 (Zr (Wo h (fun (s:(List Zv) × Int) e w=>∃ (g:Gh) ,FrM iI gI wI g w∧e 0=up0∧OM 1 g w 34 (s.1:List Zv) up0∧e 1=Iz (x1)∧e 2=Iz (x2)∧e 3=(.func (.func ff3) fa3 fc3)∧e 8=Iz (g8)∧e 9=Iz (s.2)) ⟨g6,hfr,bI,dI,jI,kI,lI,sF,rfl⟩ (fun X297 xE mH=>?_)))))));rintro ⟨t5,o0⟩ rJ aK ⟨tF,hfr,mB,i6,nB,bD,vB,cD,v8⟩ h;refine Zq h (fun (s:Unit) e w=>∃ (g:Gh) ,FrM iI gI wI g w∧e 0=up0∧OM 1 g w 34 (t5:List Zv) up0∧e 1=Iz (x1)∧e 2=Iz (x2)∧e 3=(.func (.func ff3) fa3 fc3)∧e 8=Iz (g8)∧e 9=Iz (o0)) (fun X411 yE nH h=>?_) ?_
   ·obtain ⟨n8, hx, h⟩ := Z3 h
    refine Gs (fun e w=>∃ (g:Gh) ,FrM iI gI wI g w∧e 0=up0∧OM 1 g w 34 (t5:List Zv) up0∧e 1=Iz (x1)∧e 2=Iz (x2)∧e 3=(.func (.func ff3) fa3 fc3)∧e 8=Iz (g8)∧e 9=Iz (o0)∧e 34=.bool (n8)) (fun Q' hQ=>?_) (fun sJ bK hR=>?_)
    ·replace h := hx
     clear hx;rcases Zt h with ⟨l5,h⟩ | ⟨l5,h⟩
     ·obtain ⟨zE, lE, h⟩ := Z3 h
      refine Ha (x:=.tmp 25) isAgg34 sizeOf34 i6 lE fun uF mI oH=>?_;obtain ⟨cF,mE,h⟩:=Z3 h;refine Ha (x:=.tmp 30) isAgg34 sizeOf34 i6 mE fun vF nI pH=>?_;obtain ⟨oB,qH,h⟩:=Z3 h;refine Tz (g:=tF) (n:=17) [(14,(fun v g w=>v=Iz (oB)))] [0,1,2,3,4,5,6,7,8,9,10,11,12,13,14,15,16] rfl mixed (by kernel_rfl) (⟨fun _=>Kz _,trivial⟩) (Z2 (Iz (o0)) rfl rfl (Zk v8) (Z2 (Iz (x1)) rfl rfl (Zk nB) (Z2 (.bool ((decide (o0 > x1)))) rfl rfl (Gx rfl rfl rfl) (Z2 (.bool ((decide (o0 > x1)))) rfl rfl (Zk rfl) (L_y ((.func (.func ff3) fa3 fc3)) rfl rfl rfl rfl l5 (Zk vB) (L_y up0 rfl rfl rfl rfl l5 (Zk mB) (L_y (Iz (o0)) rfl rfl rfl rfl l5 (Zk v8) (L_y (Tb up0 o0 5) rfl rfl rfl rfl l5 (G0 (α:=Zv) underlying65 sizeOf34 rfl i6 rfl lE) (Tv (c:=uF) rfl rfl (.yes2 rfl rfl l5) (fun _ _ h=>⟨h.ch,fun b hb _=>h.below.block b hb⟩) oH rfl (L_y up0 rfl rfl rfl rfl l5 (Zk mB) (L_y (Iz (o0)) rfl rfl rfl rfl l5 (Zk v8) (L_y (Iz ((w64 (o0 - (1:Int))))) rfl rfl rfl rfl l5 (Gx rfl rfl rfl) (L_y (Tb up0 (w64 (o0 - (1:Int))) 5) rfl rfl rfl rfl l5 (G0 (α:=Zv) underlying65 sizeOf34 rfl i6 rfl mE) (Tv (c:=vF) rfl rfl (.yes2 rfl rfl l5) (fun _ _ h=>⟨h.ch,fun b hb _=>h.below.block b hb⟩) pH rfl (Ks (φ:=fun v g w=>v=Iz (oB)) rfl rfl (.yes2 rfl rfl l5) (fun g w hd=>Jd (g:=g) (vs:=[uF,vF]) rfl fen3 (.cons rfl (.cons rfl .nil)) (fcl3 _ _ (hfr.ext hd.1).ch _ _ _ _ _  (mI.ext hd.1) (nI.ext hd.1) qH) fun g' w' v hs hr=>⟨g',hs,Zj.1 hr⟩) (fun cK hv=>?_))))))))))))))));obtain ⟨_,_,_,rfl⟩:=hv;refine L_y (.bool ((decide (oB < (0:Int))))) rfl rfl rfl rfl l5 (Gx rfl rfl rfl) (Z2 (.bool ((decide (oB < (0:Int))))) rfl rfl (Zl (b:=(decide (o0 > x1))) rfl (Te l5 rfl)) (Ho fun pI dK hs=>?_));have hfr:=hfr.ext hs;have i6:=i6.ext hs;clear hs;refine Zb ?_;obtain rfl:=sinj h;exact hQ _ _ ⟨pI,hfr,mB,i6,nB,bD,vB,cD,v8,rfl⟩
     ·refine Tz (g := tF) (n := 17) [] [0, 1, 2, 3, 4, 5, 6, 7, 8, 9, 10, 11, 12, 13, 14, 15, 16] rfl mixed (by kernel_rfl) trivial (Z2 (Iz (o0)) rfl rfl (Zk v8) (Z2 (Iz (x1)) rfl rfl (Zk nB) (Z2 (.bool ((decide (o0 > x1)))) rfl rfl (Gx rfl rfl rfl) (Z2 (.bool ((decide (o0 > x1)))) rfl rfl (Zk rfl) ?_))))
      iterate 12 refine L_s rfl rfl rfl l5 rfl ?_
      refine Z2 (.bool false) rfl rfl (Zl (b:=(decide (o0 > x1))) rfl (Td l5 rfl)) (Ho fun qI lK hs=>?_);have hfr:=hfr.ext hs;have i6:=i6.ext hs;clear hs;refine Zb ?_;obtain rfl:=sinj h;exact hQ _ _ ⟨qI,hfr,mB,i6,nB,bD,vB,cD,v8,rfl⟩
    ·clear hx
     obtain ⟨xF,hfr,lD,nD,oD,yD,zD,aE,yF,zB⟩:=hR;rcases Zt h with ⟨vC,h⟩ | ⟨vC,h⟩
     ·refine Tj (Eq.trans (show ev _ _ = .bool (n8) from zB) (congrArg Value.bool vC)) ?_
      exact Zu (Zd (nH () _ _ ⟨xF,hfr,lD,nD,oD,yD,zD,aE,yF⟩ h))
     ·refine Gz (Eq.trans (show ev _ _ = .bool (n8) from zB) (congrArg Value.bool vC)) (Tu (Gy (Gy (G9 (Tc ?_)))))
      obtain rfl:=sinj h;exact hQ _ _ ⟨xF,hfr,lD,nD,oD,yD,zD,aE⟩
   ·rintro _ vJ sI ⟨aG, hfr, l9, l8, bG, cG, eG, gG, n9⟩ h
    obtain ⟨aB,hx,h⟩:=Z3 h;refine Gs (fun e w=>∃ (g:Gh) ,FrM iI gI wI g w∧e 0=up0∧OM 1 g w 34 (aB:List Zv) up0∧e 1=Iz (x1)∧e 2=Iz (x2)∧e 3=(.func (.func ff3) fa3 fc3)∧e 8=Iz (g8)∧e 9=Iz (o0)) (fun Q' hQ=>?_) (fun xJ mK hR=>?_)
    ·replace h := hx
     clear hx;refine Zr ?_;obtain ⟨uC,oE,h⟩:=Z3 h;refine Ha (x:=.tmp 45) isAgg34 sizeOf34 l8 oE fun jJ iE sH=>?_;obtain ⟨bE,rE,h⟩:=Z3 h;refine Ha (x:=.tmp 49) isAgg34 sizeOf34 l8 rE fun kJ yB tH=>?_;obtain ⟨uH,uE,h⟩:=Z3 h;refine Ja (g:=aG) (n:=15) [2,3,4] [] [0,1,2,3,4,5,6,7,8,9,10,11,12,13,14] rfl mixed (by kernel_rfl) trivial rfl (Z2 up0 rfl rfl (Zk l9) (Z2 (Iz (o0)) rfl rfl (Zk n9) (Wj (c:=up0) rfl rfl .plain (Zk l9) (Wj (c:=Iz (o0)) rfl rfl .plain (Zk n9) (Wj (c:=Iz ((w64 (o0 - (1:Int))))) rfl rfl .plain (Gx rfl rfl rfl) (Z2 up0 rfl rfl (Zk l9) (Z2 (Iz (o0)) rfl rfl (Zk n9) (Z2 (Iz ((w64 (o0 - (1:Int))))) rfl rfl (Gx rfl rfl rfl) (Z2 (Tb up0 (w64 (o0 - (1:Int))) 5) rfl rfl (G0 (α:=Zv) underlying65 sizeOf34 rfl l8 rfl oE) (Tv (c:=jJ) rfl rfl .plain (fun _ _ h=>⟨h.ch,fun b hb _=>h.below.block b hb⟩) sH rfl (Z2 up0 rfl rfl (Zk l9) (Z2 (Iz (o0)) rfl rfl (Zk n9) (Z2 (Tb up0 o0 5) rfl rfl (G0 (α:=Zv) underlying65 sizeOf34 rfl l8 rfl rE) (Tv (c:=kJ) rfl rfl .plain (fun _ _ h=>⟨h.ch,fun b hb _=>h.below.block b hb⟩) tH rfl (Z2 (Tb up0 o0 5) rfl rfl (G0 (α:=Zv) underlying65 sizeOf34 rfl l8 rfl uE) (Ho fun iG lJ hs=>?_))))))))))))))));have hlt:Lt aG.m sI iG lJ:=hs.ch;have hfr:=hfr.ext hs;have l8:=l8.ext hs;have iE:=iE.ext hs;have yB:=yB.ext hs;clear hs;refine Yo hlt.w .plain rfl (Kl (g:=iG) (α:=Zv) (a':=uC) sizeOf34 rfl l8 uE rfl iE fun mJ nK hs b582=>?_);have hfr:=hfr.stp hs;have hlt:=hlt.stp hs;have yB:=yB.stp hs;obtain ⟨xH,vE,h⟩:=Z3 h;refine Y6 hlt.w (v:=Tb up0 (w64 (o0 - (1:Int))) 5) (G0 (α:=Zv) underlying65 sizeOf34 rfl b582 rfl vE) .plain rfl (Yo hlt.w .plain rfl (Kl (g:=mJ) (α:=Zv) (a':=bE) sizeOf34 rfl b582 vE rfl yB fun nJ oK hs b584=>?_));have hfr:=hfr.stp hs;have hlt:=hlt.stp hs;refine Uo hlt.w ?_;clear hlt;refine Tc ?_;obtain rfl:=sinj h;exact hQ _ _ ⟨nJ,hfr,l9,b584,bG,cG,eG,gG,n9⟩
    ·clear hx
     obtain ⟨oJ,hfr,jG,kG,lG,mG,sG,xG,yG⟩:=hR;refine Za (Zo yG rfl (Gf (Iz ((w64 (o0 - (1:Int))))) rfl rfl rfl rfl (Zg (Iz ((w64 (o0 - (1:Int))))) rfl rfl ?_)));exact Z4 (mH (aB,(w64 (o0 - (1:Int)))) _ _ ⟨oJ,hfr,jG,kG,lG,mG,sG,xG,rfl⟩ h)
  ·clear hx
   obtain ⟨pJ,hfr,zG,aH,cH,gH,jH,kH⟩:=hR;refine Za (Zo kH rfl (Gf (Iz ((w64 (g8 + (1:Int))))) rfl rfl rfl rfl (Zg (Iz ((w64 (g8 + (1:Int))))) rfl rfl ?_)));exact Z4 (hk1 (lB,(w64 (g8 + (1:Int)))) _ _ ⟨pJ,hfr,zG,aH,cH,gH,jH,rfl⟩ h)
def f137 (x0:Str):Option (Bool):=
 some ((!((x0).b == (x0).b)))
theorem en137:Enters prog 137:=enters_of func137 (by kernel_rfl) rfl
theorem wk137 {gI:Gh} {wI:World} {x0:Str}  {r:Bool} (h:f137 x0=some r):Fn prog 137 #[Str.v (x0)] gI wI (fun _ _ v=>v=.bool (r)):=by
 unfold f137 at h;refine fnE func137 rfl rfl fun g0 hm hfr=>?_;show E _ 6 none _ _ _ _ _;refine Z7 (Zg (.bool false) rfl rfl (Z4 (Z7 (Zn (Str.v (x0)) rfl rfl (Zn (Str.v (x0)) rfl rfl (Zz (.bool ((!((x0).b == (x0).b)))) (Xb rfl rfl rfl) rfl (Zg (.bool ((!((x0).b == (x0).b)))) rfl rfl (Z4 (Gd ?_)))))))));obtain rfl:=sinj h;exact Ta rfl rfl (rq (.bool ((!((x0).b == (x0).b))))) ⟨_,hfr,rfl⟩
def f138 (z0:List UInt8) (z1:Int) (σ:Type) (cons:Ue σ (List UInt8)) (s0:σ):Option σ:=
 lp (σ:=σ × Int) (fun k1 (n8,o0)=>
  jn (σ:=Unit) (fun _=>
   jn (σ:=σ) (fun v8=>
    k1 (v8,(w64 (o0 + z1)))
    ) fun zD=>
   (cut z0 o0 ((z0).length:Int)).bind fun l5=>
   (cut z0 o0 (w64 (o0 + (Ux z1 ((l5).length:Int))))).bind fun oB=>
   (cons n8 oB).bind fun (n9,l9)=>
   bif (!n9) then
    some l9
   else
    zD (l9)
   ) fun k5=>
  bif (decide (o0 < ((z0).length : Int))) then
   k5 ()
  else
   some n8
  ) big (s0,(0:Int))
theorem en138:Enters prog 138:=enters_of func138 (by kernel_rfl) rfl
theorem wk138 {σ:Type} {cons:Ue σ (List UInt8)} {s0 r:σ} {gI:Gh} {wI:World} {z0:List UInt8} {z1:Int} {pf0:Value} (qf0:PT gI.m wI z0 pf0) {pf1:Value} (qf1:PT gI.m wI z1 pf1) (h:f138 z0 z1 σ cons s0=some r):R1 prog (RA1 (α:=(List UInt8))) 138 #[] #[pf0,pf1] gI wI cons s0 r:=by
 unfold f138 at h;refine R5 func138 rfl (Nat.le_of_ble_eq_true rfl) fun l B J g0 hm hAb hRo hfr=>?_;have qf0:PT g0.m wI z0 pf0:=hm ▸ qf0;have qf1:PT g0.m wI z1 pf1:=hm ▸ qf1;show E _ 31 none _ _ (J4 #[.func (.yield l) #[] #[],pf0,pf1]) _ _;refine Z7 (Zg (Iz (0)) rfl rfl (Z4 (Zr (Wo h (fun (s:σ × Int) e w=>∃ (g:Gh) ,FrY gI wI B J (s.1) g w∧e 0=(.func (.yield l) #[] #[])∧e 1=pf0∧PT g.m w (z0:List UInt8) pf0∧e 2=pf1∧PT g.m w (z1:Int) pf1∧e 4=Iz (s.2)) ⟨g0,hfr,rfl,rfl,qf0,rfl,qf1,rfl⟩ (fun X1 k1 hk1=>?_)))));rintro ⟨n8,o0⟩ xF w2 ⟨g2,hfr,oE,vB,yB,rE,uE,zB⟩ h;refine Zq h (fun (s:Unit) e w=>∃ (g:Gh) ,FrY gI wI B J (n8) g w∧e 0=(.func (.yield l) #[] #[])∧e 1=pf0∧PT g.m w (z0:List UInt8) pf0∧e 2=pf1∧PT g.m w (z1:Int) pf1∧e 4=Iz (o0)) (fun X5 k5 hk5 h=>?_) ?_
 ·refine Z7 (Zo zB rfl (Z6 rfl (Z9 (g := g2) isAgg50 sizeOf50 vB yB fun v6 r6 => (Zz (Iz ((z0).length : Int)) (Tr underlying50 rfl r6) rfl (Gf (.bool ((decide (o0 < ((z0).length : Int))))) rfl rfl rfl rfl (Z4 ?_))))))
  rcases Zt h with ⟨cC,h⟩ | ⟨cC,h⟩
  ·refine G5 cC rfl ?_
   exact Zu (Zd (hk5 () _ _ ⟨g2,hfr,oE,vB,yB,rE,uE,zB⟩ h))
  ·refine G8 cC rfl (Tu (Gy (Gy (G9 ?_))))
   obtain rfl:=sinj h;exact H9 rfl rfl (FrY.done hfr)
 ·rintro _ yF w8 ⟨g8, hfr, uC, aB, t5, vC, i6, l8⟩ h
  refine Zq h (fun (s:σ) e w=>∃ (g:Gh) ,FrY gI wI B J (s) g w∧e 0=(.func (.yield l) #[] #[])∧e 1=pf0∧PT g.m w (z0:List UInt8) pf0∧e 2=pf1∧PT g.m w (z1:Int) pf1∧e 4=Iz (o0)) (fun X32 zD vE h=>?_) ?_
  ·refine Zr (Zf (Zs (x := .tmp 2) isAgg3 sizeOf3 i6 fun aG cF xE => ?_))
   obtain rfl:=Zj.1 cF;refine Zs (x:=.tmp 1) isAgg50 sizeOf50 t5 fun aE bE yE=>?_;obtain ⟨l5,bD,h⟩:=Z3 h;have dF:=Cz bE bD;refine Tz (g:=g8) (n:=7) [] [0,1,2,3,4,5,6] rfl mixed (by kernel_rfl) trivial (Tv (c:=Iz (z1)) rfl rfl .plain (fun _ _ h=>h.ch) xE vC (Tv (c:=aE) rfl rfl .plain (fun _ _ h=>h.ch) yE aB (Z2 (Iz (o0)) rfl rfl (Zk l8) (Z2 ((Hj aE (Int.toNat o0) (Int.toNat ((z0).length:Int)) 1)) rfl rfl (P_slice underlying50 sizeOf5 rfl bE rfl rfl bD) (Z2 (Iz ((l5).length:Int)) rfl rfl (Tr underlying50 rfl dF) (Z2 (Iz (Ux z1 ((l5).length:Int))) rfl rfl (P_min rfl rfl) (Z2 (Iz (Ux z1 ((l5).length:Int))) rfl rfl (Tx rfl) (Ho fun iE bG hs=>?_))))))));have hfr:=hfr.ext_ hAb hs;have t5:=t5.ext hs;have i6:=i6.ext hs;clear hs;refine Z4 (Z7 (Zo uC rfl (Z6 rfl (Z9 (g:=iE) isAgg50 sizeOf50 aB t5 fun eF lE=>(Zo l8 rfl (Zo l8 rfl (Zn (Iz (Ux z1 ((l5).length:Int))) rfl rfl (Zz (Iz ((w64 (o0 + (Ux z1 ((l5).length:Int)))))) (Gx rfl rfl rfl) rfl (Zo l8 rfl (Zn (Iz (Ux z1 ((l5).length:Int))) rfl rfl (Zz (Iz ((w64 (o0 + (Ux z1 ((l5).length:Int)))))) (Gx rfl rfl rfl) rfl ?_)))))))))));obtain ⟨oB,cD,h⟩:=Z3 h;have rF:=RV_cut3 lE cD;refine Zz ((Li eF (Int.toNat o0) (Int.toNat (w64 (o0 + (Ux z1 ((l5).length:Int))))) 1)) (Oa underlying50 sizeOf5 rfl lE rfl rfl rfl cD) rfl ?_;obtain ⟨sF,zE,h⟩:=Z3 h;obtain ⟨n9,l9⟩:=sF;refine Z6 rfl (Fa (g:=iE) (x:=oB) rfl (.cons rfl .nil) hRo hfr zE ⟨_,rfl,rF⟩ fun tF cG hs hfrY=>?_);have t5:=t5.stp hs;have i6:=i6.stp hs;have hfr:=hfrY;clear hfrY;refine Zz (.bool (!n9)) (Wq rfl) rfl (Z4 ?_);rcases Zt h with ⟨lB,h⟩ | ⟨lB,h⟩
   ·refine G5 lB rfl (Gd (Tg (Gq (Gq (Tg ?_)))))
    obtain rfl:=sinj h;exact end0 rfl rfl (FrY.done hfr)
   ·refine G8 lB rfl ?_
    exact Zu (Tc (Zd (vE (l9) _ _ ⟨tF,hfr,uC,aB,t5,vC,i6,l8⟩ h)))
  ·rintro v8 vF eG ⟨mE, hfr, lD, nD, oD, mB, nB, yD⟩ h
   refine Za (Zo yD rfl (Z6 rfl (Z9 (g:=mE) isAgg3 sizeOf3 mB nB fun gG uF=>?_)));obtain rfl:=Zj.1 uF;refine Gf (Iz ((w64 (o0 + z1)))) rfl rfl rfl rfl (Zg (Iz ((w64 (o0 + z1)))) rfl rfl ?_);exact Z4 (hk1 (v8,(w64 (o0 + z1))) _ _ ⟨mE,hfr,lD,nD,oD,mB,nB,rfl⟩ h)
def f145 (x0:Int) (z0:Int) (z1:Int):Option (Bool):=
 Option.bind (α:=Bool) (
  bif (decide (x0 < z0)) then
   some (true)
  else
   some ((decide (x0 > z1)))
  ) fun o0=>
 some (o0)
theorem en145:Enters prog 145:=enters_of func145 (by kernel_rfl) rfl
theorem wk145 {gI:Gh} {wI:World} {x0:Int} {z0:Int} {z1:Int} {pf0:Value} (qf0:PT gI.m wI z0 pf0) {pf1:Value} (qf1:PT gI.m wI z1 pf1) {r:Bool} (h:f145 x0 z0 z1=some r):Fn prog 145 #[Iz (x0),pf0,pf1] gI wI (fun _ _ v=>v=.bool (r)):=by
 unfold f145 at h;refine fnE func145 rfl rfl fun g0 hm hfr=>?_;have qf0:PT g0.m wI z0 pf0:=hm ▸ qf0;have qf1:PT g0.m wI z1 pf1:=hm ▸ qf1;show E _ 13 none _ _ _ _ _;refine Z7 (Zg (.bool false) rfl rfl (Z4 ?_));obtain ⟨o0,hx,h⟩:=Z3 h;refine Gs (fun e w=>∃ (g:Gh) ,Fr gI wI g w∧e 4=.bool (o0)) (fun Q' hQ=>?_) (fun t5 w7 hR=>?_)
 ·replace h := hx
  clear hx;refine Za (Zn (Iz (x0)) rfl rfl (Z6 rfl (Z9 (g:=g0) isAgg3 sizeOf3 rfl qf0 fun v4 r4=>?_)));obtain rfl:=Zj.1 r4;refine Gf (.bool ((decide (x0 < z0)))) rfl rfl rfl rfl (Zn (.bool ((decide (x0 < z0)))) rfl rfl ?_);rcases Zt h with ⟨hc5,h⟩ | ⟨hc5,h⟩
  ·refine Z1 rfl rfl hc5 rfl rfl (Z1 rfl rfl hc5 rfl rfl (Z1 rfl rfl hc5 rfl rfl (Zz (.bool true) (Zl (b := (decide (x0 < z0))) rfl (Te hc5 rfl)) rfl (Zg (.bool true) rfl rfl (Zb ?_)))))
   obtain rfl:=sinj h;exact hQ _ _ ⟨g0,hfr,rfl⟩
  ·refine Z0 (Iz (x0)) (Zk rfl) rfl rfl hc5 rfl (Ze (.yes2 rfl rfl hc5) rfl (Z9 (g := g0) isAgg3 sizeOf3 rfl qf1 fun v6 r6 => ?_))
   obtain rfl:=Zj.1 r6;refine Z0 (.bool ((decide (x0 > z1)))) (Gx rfl rfl rfl) rfl rfl hc5 rfl (Zz (.bool ((decide (x0 > z1)))) (Zl (b:=(decide (x0 < z0))) rfl (Td hc5 rfl)) rfl (Zg (.bool ((decide (x0 > z1)))) rfl rfl (Zb ?_)));obtain rfl:=sinj h;exact hQ _ _ ⟨g0,hfr,rfl⟩
 ·clear hx
  obtain ⟨g7,hfr,l5⟩:=hR;refine Gd ?_;obtain rfl:=sinj h;exact Ta rfl rfl (show _=.bool (o0) from l5) ⟨_,hfr,rfl⟩
def f149 (x0:List Z8) (x1:Z8→Option Bool):Option (Int):=
 jn (σ:=Unit) (fun _=>
  some ((-1:Int))
  ) fun k18=>
 lp (σ:=Int) (fun k19 o0=>
  bif (decide (o0 < ((x0).length : Int))) then
   jn (σ:=Unit) (fun _=>
    k19 ((w64 (o0 + (1:Int))))
    ) fun k28=>
   (idx x0 o0).bind fun vB=>
   (x1 vB).bind fun yB=>
   bif yB then
    some (o0)
   else
    k28 ()
  else
   k18 ()
  ) big ((0:Int))
theorem en149:Enters prog 149:=enters_of func149 (by kernel_rfl) rfl
theorem wk149 {gI:Gh} {wI:World} {x0:List Z8} {x1:Z8→Option Bool} {up0:Value} (rp0:RV gI.m wI x0 up0) {up1:Value} (rp1:Jf prog x1 up1 gI wI) {r:Int} (h:f149 x0 x1=some r):Fn prog 149 #[up0,up1] gI wI (fun _ _ v=>v=Iz (r)):=by
 unfold f149 at h;refine fnE func149 rfl rfl fun g0 hm hfr=>?_;have rp0:=RVc hm rp0;obtain ⟨ff1,fa1,fc1,rfl,fen1,fcl1⟩:=rp1;show E _ 19 none _ _ _ _ _;refine Z7 (Zg (Iz (0)) rfl rfl (Z4 (Zq h (fun (s:Unit) e w=>∃ (g:Gh) ,Fr gI wI g w) (fun X18 k18 zB h=>?_) ?_)))
 ·refine Z7 (Zn up0 rfl rfl (Zz (Iz ((x0).length : Int)) (Tr underlying44 rfl rp0) rfl (Zn (Iz (0)) rfl rfl (Z4 (Zr (Wo h (fun (s : Int) e w => ∃ (g : Gh) , Fr gI wI g w ∧ e 0 = up0 ∧ RV g.m w (x0 : List Z8) up0 ∧ e 1 = (.func (.func ff1) fa1 fc1) ∧ e 7 = Iz (((x0).length : Int)) ∧ e 8 = Iz (s)) ⟨g0, hfr, rfl, rp0, rfl, rfl, rfl⟩ (fun X19 k19 cC => ?_)))))))
  rintro o0 yD bE ⟨l9,hfr,l8,l5,n8,v8,t5⟩ h;refine Z7 (Gf (.bool ((decide (o0 < ((x0).length:Int))))) t5 v8 rfl rfl (Z4 (Zf ?_)));rcases Zt h with ⟨i6,h⟩ | ⟨i6,h⟩
  ·refine G5 i6 rfl (Zu (Zd (Zq h (fun (s : Unit) e w => ∃ (g : Gh) , Fr gI wI g w ∧ e 0 = up0 ∧ RV g.m w (x0 : List Z8) up0 ∧ e 1 = (.func (.func ff1) fa1 fc1) ∧ e 7 = Iz (((x0).length : Int)) ∧ e 8 = Iz (o0)) (fun X28 k28 uC h => ?_) ?_)))
   ·refine Zr (Z7 (Zo t5 rfl (Zg (Iz (o0)) rfl rfl (Z4 (Z7 (Zo n8 rfl (Zo l8 rfl (Zn (Iz (o0)) rfl rfl ?_))))))))
    obtain ⟨vB,n9,h⟩:=Z3 h;refine Zz (Tb up0 o0 3) (Zh (α:=Z8) underlying44 sizeOf43 rfl l5 rfl n9) rfl ?_;have bD:=Tp l5 n9;refine Z6 rfl (Z9 (g:=l9) isAgg43 sizeOf43 rfl bD fun cD lD=>?_);obtain ⟨yB,vC,h⟩:=Z3 h;refine Z6 rfl (Jd (g:=l9) (vs:=[cD]) rfl fen1 (.cons rfl .nil) (fcl1 _ _ hfr.ch _ _ _  lD vC) fun nD iE lE hs hr=>?_);have hfr:=hfr.ext hs;have l5:=l5.ext hs;obtain rfl:=Qm.1 hr;refine Z4 ?_;rcases Zt h with ⟨g8,h⟩ | ⟨g8,h⟩
    ·refine G5 g8 rfl (Z7 (Zn (Iz (o0)) rfl rfl (Zg (Iz (o0)) rfl rfl (Z4 (Gd (Tg (Gq (Gq (Tg (Gq ?_))))))))))
     obtain rfl:=sinj h;exact Ta rfl rfl (rq (Iz (o0))) ⟨_,hfr,rfl⟩
    ·refine G8 g8 rfl ?_
     exact Zu (Tc (Zd (uC () _ _ ⟨nD,hfr,l8,l5,n8,v8,t5⟩ h)))
   ·rintro _ zD mE ⟨oD, hfr, aB, lB, mB, nB, oB⟩ h
    refine Za (Gf (Iz ((w64 (o0 + (1:Int))))) oB rfl rfl rfl (Zn (Iz ((w64 (o0 + (1:Int))))) rfl rfl ?_));exact Z4 (cC ((w64 (o0 + (1:Int)))) _ _ ⟨oD,hfr,aB,lB,mB,nB,rfl⟩ h)
  ·refine G8 i6 rfl (Tu (Gy (Gy (G9 ?_))))
   exact Zd (zB () _ _ ⟨l9,hfr⟩ h)
 ·rintro _ aE oE ⟨rE, hfr⟩ h
  refine Z7 (Zg (Iz (-1)) rfl rfl (Z4 (Gd ?_)));obtain rfl:=sinj h;exact Ta rfl rfl (rq (Iz (-1))) ⟨_,hfr,rfl⟩
def f150 (x0:Str) (x1:I32→Option Bool) (x2:Bool):Option (Int):=
 jn (σ:=Unit) (fun _=>
  some ((-1:Int))
  ) fun k8=>
 lp (σ:=Nat) (fun n9 o0=>
  bif (decide (o0 < (x0).b.length)) then
   (x1 ((⟨(dec x0 o0).1⟩:I32))).bind fun v8=>
   bif (v8 == x2) then
    some (((o0:Nat):Int))
   else
    n9 ((o0 + (dec x0 o0).2))
  else
   k8 ()
  ) big (0)
theorem en150:Enters prog 150:=enters_of func150 (by kernel_rfl) rfl
theorem wk150 {gI:Gh} {wI:World} {x0:Str} {x1:I32→Option Bool} {x2:Bool} {up1:Value} (rp1:Jf prog x1 up1 gI wI) {r:Int} (h:f150 x0 x1 x2=some r):Fn prog 150 #[Str.v (x0),up1,.bool (x2)] gI wI (fun _ _ v=>v=Iz (r)):=by
 unfold f150 at h;refine fnE func150 rfl rfl fun g0 hm hfr=>?_;obtain ⟨ff1,fa1,fc1,rfl,fen1,fcl1⟩:=rp1;show E _ 21 none _ _ _ _ _;refine Z7 (Zg (Iz (0)) rfl rfl (Z4 (Zq h (fun (s:Unit) e w=>∃ (g:Gh) ,Fr gI wI g w) (fun X8 k8 mB h=>?_) ?_)))
 ·refine Z7 (Zn (Str.v (x0)) rfl rfl (Z6 rfl (Pg (g := g0) (s := x0) 7010 underlying9 rfl fun g9 w9 p9 hs b9 => ?_)))
  have hfr:=hfr.stp hs;refine Z4 (Zr (Wo h (fun (s:Nat) e w=>∃ (g:Gh) ,Fr gI wI g w∧e 1=(.func (.func ff1) fa1 fc1)∧e 2=.bool (x2)∧e 10=p9∧SI 7010 g w (x0) (s) p9) ⟨g9,hfr,rfl,rfl,rfl,b9⟩ (fun X10 n9 aB=>?_)));rintro o0 vB zB ⟨l9,hfr,l8,n8,l5,t5⟩ h;refine Z7 ?_;rcases Zt h with ⟨i6,h⟩ | ⟨i6,h⟩
  ·refine Z6 rfl (Cb (g := l9) l5 t5 i6 fun nB cC hs b12 => ?_)
   have hfr:=hfr.stp hs;refine Zz (.bool true) (Zi rfl rfl) rfl (Z4 (Zf (Tj (by rw [show ev _ _=_ from rfl]; exact congrArg Value.bool rfl) (Zu (Zd (Zr (Z7 (Zz (Iz ((o0:Nat):Int)) (Zi rfl rfl) rfl (Zz (.int .i32 (dec x0 o0).1) (Zi rfl rfl) rfl (Zg (Iz ((o0:Nat):Int)) rfl rfl (Zg (.int .i32 (dec x0 o0).1) rfl rfl (Z4 (Z7 (Zo l8 rfl (Zn (.int .i32 (dec x0 o0).1) rfl rfl ?_)))))))))))))));obtain ⟨v8,lB,h⟩:=Z3 h;refine Z6 rfl (Jd (g:=nB) (vs:=[.int .i32 (dec x0 o0).1]) rfl fen1 (.cons rfl .nil) (fcl1 _ _ hfr.ch _ _ _  (Iy.2 rfl) lB) fun oB uC vC hs hr=>?_);have hfr:=hfr.ext hs;have b12:=b12.ext hs;obtain rfl:=Qm.1 hr;refine Zo n8 rfl (Zz (.bool ((v8 == x2))) (P_bool underlying4 rfl rfl rfl) rfl (Z4 ?_));rcases Zt h with ⟨g8,h⟩ | ⟨g8,h⟩
   ·refine G5 g8 rfl (Z7 (Zn (Iz ((o0 : Nat) : Int)) rfl rfl (Zg (Iz ((o0 : Nat) : Int)) rfl rfl (Z4 (Gd (Tg (Gq (Tg (Gq ?_)))))))))
    obtain rfl:=sinj h;exact Ta rfl rfl (rq (Iz ((o0:Nat):Int))) ⟨_,hfr,rfl⟩
   ·refine G8 g8 rfl ?_
    exact Zu (Tc (Zd (aB ((o0 + (dec x0 o0).2)) _ _ ⟨oB,hfr,l8,n8,l5,b12⟩ h)))
  ·refine Z6 rfl (Ca (g := l9) l5 t5 i6 (Zz (.bool false) (Zi rfl rfl) rfl (Z4 (Zf (Gz (by rw [show ev _ _ = _ from rfl]; exact congrArg Value.bool rfl) (Tu (Gy (Gy (G9 ?_)))))))))
   exact Zd (mB () _ _ ⟨l9,hfr⟩ h)
 ·rintro _ yB bD ⟨cD, hfr⟩ h
  refine Z7 (Zg (Iz (-1)) rfl rfl (Z4 (Gd ?_)));obtain rfl:=sinj h;exact Ta rfl rfl (rq (Iz (-1))) ⟨_,hfr,rfl⟩
def f152 (x0:U64):Option (U64):=
 (W8 ((x0).n) ((8:Int))).bind fun y1=>
 (Lb (Th .and ((x0).n) ((71777214294589695:Int))) ((8:Int))).bind fun y2=>
 (W8 (Th .or (Th .and y1 ((71777214294589695:Int))) y2) ((16:Int))).bind fun y3=>
 (Lb (Th .and (Th .or (Th .and y1 ((71777214294589695:Int))) y2) ((281470681808895:Int))) ((16:Int))).bind fun y4=>
 (W8 (Th .or (Th .and y3 ((281470681808895:Int))) y4) ((32:Int))).bind fun y5=>
 (Lb (Th .or (Th .and y3 ((281470681808895:Int))) y4) ((32:Int))).bind fun y6=>
 some ((⟨Th .or y5 y6⟩:U64))
theorem en152:Enters prog 152:=enters_of func152 (by kernel_rfl) rfl
theorem wk152 {gI:Gh} {wI:World} {x0:U64}  {r:U64} (h:f152 x0=some r):Fn prog 152 #[.int .u64 ((x0).n)] gI wI (fun _ _ v=>v=.int .u64 ((r).n)):=by
 unfold f152 at h;refine fnE func152 rfl rfl fun g0 hm hfr=>?_;show E _ 22 none _ _ _ _ _;refine Z7 (Zg (.int .u64 (0)) rfl rfl (Z4 (Z7 (Zn (.int .u64 ((x0).n)) rfl rfl ?_))));obtain ⟨y1,hy1,h⟩:=Z3 h;refine Zz (.int .u64 (y1)) (J1 rfl rfl hy1) rfl (Zz (.int .u64 (Th .and y1 ((71777214294589695:Int)))) (Kv (by simp) rfl rfl) rfl (Zn (.int .u64 ((x0).n)) rfl rfl (Zz (.int .u64 (Th .and ((x0).n) ((71777214294589695:Int)))) (Kv (by simp) rfl rfl) rfl ?_)));obtain ⟨y2,hy2,h⟩:=Z3 h;refine Zz (.int .u64 (y2)) (Bi rfl rfl hy2) rfl (Zz (.int .u64 (Th .or (Th .and y1 ((71777214294589695:Int))) y2)) (Kv (by simp) rfl rfl) rfl (Zg (.int .u64 (Th .or (Th .and y1 ((71777214294589695:Int))) y2)) rfl rfl (Z4 (Z7 (Zn (.int .u64 (Th .or (Th .and y1 ((71777214294589695:Int))) y2)) rfl rfl ?_)))));obtain ⟨y3,hy3,h⟩:=Z3 h;refine Zz (.int .u64 (y3)) (J1 rfl rfl hy3) rfl (Zz (.int .u64 (Th .and y3 ((281470681808895:Int)))) (Kv (by simp) rfl rfl) rfl (Zn (.int .u64 (Th .or (Th .and y1 ((71777214294589695:Int))) y2)) rfl rfl (Zz (.int .u64 (Th .and (Th .or (Th .and y1 ((71777214294589695:Int))) y2) ((281470681808895:Int)))) (Kv (by simp) rfl rfl) rfl ?_)));obtain ⟨y4,o0,h⟩:=Z3 h;refine Zz (.int .u64 (y4)) (Bi rfl rfl o0) rfl (Zz (.int .u64 (Th .or (Th .and y3 ((281470681808895:Int))) y4)) (Kv (by simp) rfl rfl) rfl (Zg (.int .u64 (Th .or (Th .and y3 ((281470681808895:Int))) y4)) rfl rfl (Z4 (Z7 (Zn (.int .u64 (Th .or (Th .and y3 ((281470681808895:Int))) y4)) rfl rfl ?_)))));obtain ⟨y5,hy5,h⟩:=Z3 h;refine Zz (.int .u64 (y5)) (J1 rfl rfl hy5) rfl (Zn (.int .u64 (Th .or (Th .and y3 ((281470681808895:Int))) y4)) rfl rfl ?_);obtain ⟨y6,l5,h⟩:=Z3 h;refine Zz (.int .u64 (y6)) (Bi rfl rfl l5) rfl (Zz (.int .u64 (Th .or y5 y6)) (Kv (by simp) rfl rfl) rfl (Zg (.int .u64 (Th .or y5 y6)) rfl rfl (Z4 (Gd ?_))));obtain rfl:=sinj h;exact Ta rfl rfl (rq (.int .u64 (Th .or y5 y6))) ⟨_,hfr,rfl⟩
def f4 (x0:UInt8) (x1:List UInt16):Option (FaultLoom):=
 (f14 x0 x1).bind fun y3=>
 Option.bind (α:=FaultLoom) (
  lp (σ:=FaultLoom × Int) (fun kH (g8,t5)=>
   jn (σ:=Unit) (fun _=>
    Option.bind (α:=FaultLoom) (
     (apnd 8 (((g8).Harness).Warps) (([t5]:List Int))).bind fun y71=>
     some ({ g8 with Harness:={ (g8).Harness with Warps:=y71 } })
     ) fun mB=>
    kH (mB,(w64 (t5 + (1:Int))))
    ) fun lH=>
   bif (decide (t5 < ((g8).Design).Hooks)) then
    lH ()
   else
    some (g8)
   ) big ((⟨(⟨(y3).Hooks,[]⟩:TieHarness),y3⟩:FaultLoom),(0:Int))
  ) fun v8=>
 Option.bind (α:=FaultLoom) (
  lp (σ:=FaultLoom × Int) (fun uE (l8,o0)=>
   jn (σ:=Unit) (fun _=>
    Option.bind (α:=FaultLoom) (
     (apnd 8 (((l8).Harness).Warps) (([o0]:List Int))).bind fun zD=>
     some ({ l8 with Harness:={ (l8).Harness with Warps:=zD } })
     ) fun lB=>
    uE (lB,(w64 (o0 - (1:Int))))
    ) fun vE=>
   bif (decide (o0 > (0 : Int))) then
    vE ()
   else
    some (l8)
   ) big (v8,(w64 (((v8).Design).Hooks - (2:Int))))
  ) fun nB=>
 some (nB)
theorem en4:Enters prog 4:=enters_of func4 (by kernel_rfl) rfl
theorem wk4 {gI:Gh} {wI:World} {x0:UInt8} {x1:List UInt16} {up1:Value} (rp1:RV gI.m wI x1 up1) {r:FaultLoom} (h:f4 x0 x1=some r):Fn prog 4 #[.int .u8 (UInt8.toNat (x0)),up1] gI wI (fun m w v=>RV m w (r) v):=by
 unfold f4 at h;refine fnE func4 rfl rfl fun g0 hm hfr=>?_;have rp1:=RVc hm rp1;show E _ 49 none _ _ _ _ _;refine Z7 (Z6 rfl (Gw (g:=g0) 2004 (⟨⟨0,[]⟩,⟨0,[]⟩⟩:FaultLoom) zeroValue30 (fun m w=>⟨_,(Gi (Gi Zx Tt) (Gi Zx Tt)),rfl⟩) fun g1 w1 p1 hs b1 cb=>?_));have hfr:=hfr.stp hs;have rp1:=rp1.stp hs;have l9:OSF 2004 60401 1 g1 w1 3 30 ([]:List Int) p1:=cb.osf (by rfl);have n9:OSF 2004 60403 3 g1 w1 3 30 ([]:List Int) p1:=cb.osf (by rfl);clear cb;refine Z4 (Z7 (Zn (.int .u8 (UInt8.toNat (x0))) rfl rfl (Zn up1 rfl rfl ?_)));obtain ⟨y3,hy3,h⟩:=Z3 h;refine Z6 rfl (Zp (g:=g1) (vs:=[.int .u8 (UInt8.toNat (x0)),up1]) en14 (.cons rfl (.cons rfl .nil)) (wk14 rp1 hy3) fun g2 w2_ v2 hs hr=>?_);have hfr:=hfr.ext hs;have l9:=l9.ext hs;have n9:=n9.ext hs;have b1:=b1.ext hs;have r2:=hr;have r4:RV g2.m _ (⟨⟨0,[]⟩,y3⟩:FaultLoom) (.agg (G3 [[Iz 0,.slice none 0 0],[Iz 0,.slice none 0 0]] [(1,v2)]).flatten.toArray):=G2 rfl (Gm ((Gi Zx Tt)) (G6 (RV.cells r2)));generalize mH:(Value.agg (G3 [[Iz 0,.slice none 0 0],[Iz 0,.slice none 0 0]] [(1,v2)]).flatten.toArray)=v4 at r4;refine Zz v4 (mH ▸ Tf (vs:=[(1,v2)]) [[Iz 0,.slice none 0 0],[Iz 0,.slice none 0 0]] Py rfl rfl (.cons rfl .nil) ⟨⟨_,rfl,G4 r2⟩,trivial⟩) rfl (Z6 rfl (Gw (g:=g2) 2005 (⟨⟨0,[]⟩,⟨0,[]⟩⟩:FaultLoom) zeroValue30 (fun m w=>⟨_,(Gi (Gi Zx Tt) (Gi Zx Tt)),rfl⟩) fun g5 w5 p5 hs b5 cb=>?_));have hfr:=hfr.stp hs;have l9:=l9.stp hs rfl;have n9:=n9.stp hs rfl;have b1:=b1.stp hs rfl;have r4:=r4.stp hs;have pJ:OSF 2005 60501 1 g5 w5 3 30 ([]:List Int) p5:=cb.osf (by rfl);have qJ:OSF 2005 60503 3 g5 w5 3 30 ([]:List Int) p5:=cb.osf (by rfl);clear cb;refine Z6 rfl (Gk (g:=g5) (v:=v4) sizeOf30 rfl b5 rfl r4 fun g6 w6 hs b6 cb=>?_);have rJ:OSF 2005 60501 1 g6 w6 3 30 ([]:List Int) p5:=cb.osf (by rw [← mH]; rfl);clear cb;have hfr:=hfr.stp hs;have l9:=l9.stp hs rfl;have n9:=n9.stp hs rfl;have b1:=b1.stp hs rfl;refine Z4 (Z7 (Zz (Ga p5 2) (Zc Wf rfl (OB.ptr b6)) rfl (Zz (Ga p5 2) (Ka (o1:=2) rfl Ki rfl (OB.ptr b6)) rfl (Z6 rfl (Wx (g:=g6) (Gp.comp G1 Qb rfl).1 isAgg3 sizeOf3 rfl b6 fun v9 r9=>?_)))));obtain rfl:=Zj.1 r9;have nH:RV g6.m w6 (⟨(y3).Hooks,[]⟩:TieHarness) (.agg (G3 [[Iz 0],[.slice none 0 0]] [(0,Iz ((y3).Hooks))]).flatten.toArray):=G2 rfl (Gm (rfl) (G6 (Tt)));generalize xE:(Value.agg (G3 [[Iz 0],[.slice none 0 0]] [(0,Iz ((y3).Hooks))]).flatten.toArray)=lI at nH;refine Zz lI (xE ▸ Tf (vs:=[(0,Iz ((y3).Hooks))]) [[Iz 0],[.slice none 0 0]] D3 rfl rfl (.cons rfl .nil) ⟨⟨_,rfl,rfl⟩,trivial⟩) rfl (Zz (Ga p5 0) (Zc Kj rfl (OB.ptr b6)) rfl (Z6 rfl (Mv (g:=g6) Tn sizeOf26 rfl b6 rfl nH fun oH mI hs b12 rst hos=>?_)));have gG:OSF 2005 60501 1 oH mI 3 30 ([]:List Int) p5:=hos _ _ 60501 3 ([]:List Int) 1 (.slice none 0 0) (by rw [← xE]; rfl) rfl OS.nil;clear rst hos;have hfr:=hfr.stp hs;have l9:=l9.stp hs rfl;have n9:=n9.stp hs rfl;have b1:=b1.stp hs rfl;refine Z4 ?_;obtain ⟨v8,hx,h⟩:=Z3 h;refine Gs (fun e w=>∃ (g:Gh) ,Fr gI wI g w∧e 4=p1∧OB 2004 g w 30 ((⟨⟨0,[]⟩,⟨0,[]⟩⟩:FaultLoom):FaultLoom) p1∧OSF 2004 60401 1 g w 3 30 ((((⟨⟨0,[]⟩,⟨0,[]⟩⟩:FaultLoom)).Harness).Warps) p1∧OSF 2004 60403 3 g w 3 30 ((((⟨⟨0,[]⟩,⟨0,[]⟩⟩:FaultLoom)).Design).Rows) p1∧e 5=p5∧OB 2005 g w 30 (v8:FaultLoom) p5∧OSF 2005 60501 1 g w 3 30 (((v8).Harness).Warps) p5) (fun Q' hQ=>?_) (fun sJ vK hR=>?_)
 ·replace h := hx
  clear hx;refine Z7 (Zg (Iz (0)) rfl rfl (Z4 (Zr (Wo h (fun (s:FaultLoom × Int) e w=>∃ (g:Gh) ,Fr gI wI g w∧e 4=p1∧OB 2004 g w 30 ((⟨⟨0,[]⟩,⟨0,[]⟩⟩:FaultLoom):FaultLoom) p1∧OSF 2004 60401 1 g w 3 30 ((((⟨⟨0,[]⟩,⟨0,[]⟩⟩:FaultLoom)).Harness).Warps) p1∧OSF 2004 60403 3 g w 3 30 ((((⟨⟨0,[]⟩,⟨0,[]⟩⟩:FaultLoom)).Design).Rows) p1∧e 5=p5∧OB 2005 g w 30 (s.1:FaultLoom) p5∧OSF 2005 60501 1 g w 3 30 (((s.1).Harness).Warps) p5∧e 6=Iz (s.2)) ⟨oH,hfr,rfl,b1,l9,n9,rfl,b12,gG,rfl⟩ (fun X44 kH tH=>?_)))));rintro ⟨g8,t5⟩ vJ xK ⟨yE,hfr,iE,lE,u4_1_45,u4_3_45,zB,oB,u5_1_45,mE⟩ h;refine Zq h (fun (s:Unit) e w=>∃ (g:Gh) ,Fr gI wI g w∧e 4=p1∧OB 2004 g w 30 ((⟨⟨0,[]⟩,⟨0,[]⟩⟩:FaultLoom):FaultLoom) p1∧OSF 2004 60401 1 g w 3 30 ((((⟨⟨0,[]⟩,⟨0,[]⟩⟩:FaultLoom)).Harness).Warps) p1∧OSF 2004 60403 3 g w 3 30 ((((⟨⟨0,[]⟩,⟨0,[]⟩⟩:FaultLoom)).Design).Rows) p1∧e 5=p5∧OB 2005 g w 30 (g8:FaultLoom) p5∧OSF 2005 60501 1 g w 3 30 (((g8).Harness).Warps) p5∧e 6=Iz (t5)) (fun X50 lH uH h=>?_) ?_
  ·refine Z7 (Zo mE rfl (Zz (Ga p5 2) (Zc Wf zB (OB.ptr oB)) rfl (Zz (Ga p5 2) (Ka (o1 := 2) rfl Ki rfl (OB.ptr oB)) rfl (Z6 rfl (Wx (g := yE) (Gp.comp G1 Qb rfl).1 isAgg3 sizeOf3 rfl oB fun yK nI => ?_)))))
   obtain rfl:=Zj.1 nI;refine Gf (.bool ((decide (t5 < ((g8).Design).Hooks)))) rfl rfl rfl rfl (Z4 ?_);rcases Zt h with ⟨aE,h⟩ | ⟨aE,h⟩
   ·refine G5 aE rfl ?_
    exact Zu (Zd (uH () _ _ ⟨yE,hfr,iE,lE,u4_1_45,u4_3_45,zB,oB,u5_1_45,mE⟩ h))
   ·refine G8 aE rfl (Tu (Gy (Gy (G9 ?_))))
    obtain rfl:=sinj h;exact hQ _ _ ⟨yE,hfr,iE,lE,u4_1_45,u4_3_45,zB,oB,u5_1_45⟩
  ·rintro _ xJ zK ⟨pH, hfr, iG, aB, u4_1_55, u4_3_55, cC, i6, u5_1_55, oE⟩ h
   obtain ⟨mB,hx,h⟩:=Z3 h;refine Gs (fun e w=>∃ (g:Gh) ,Fr gI wI g w∧e 4=p1∧OB 2004 g w 30 ((⟨⟨0,[]⟩,⟨0,[]⟩⟩:FaultLoom):FaultLoom) p1∧OSF 2004 60401 1 g w 3 30 ((((⟨⟨0,[]⟩,⟨0,[]⟩⟩:FaultLoom)).Harness).Warps) p1∧OSF 2004 60403 3 g w 3 30 ((((⟨⟨0,[]⟩,⟨0,[]⟩⟩:FaultLoom)).Design).Rows) p1∧e 5=p5∧OB 2005 g w 30 (mB:FaultLoom) p5∧OSF 2005 60501 1 g w 3 30 (((mB).Harness).Warps) p5∧e 6=Iz (t5)) (fun Q' hQ=>?_) (fun zJ aL hR=>?_)
   ·replace h := hx
    clear hx;refine Zr (Za (Zz (Ga p5 0) (Zc Kj cC (OB.ptr i6)) rfl (Zz (Ga p5 1) (Ka (o1:=0) rfl Kw rfl (OB.ptr i6)) rfl (Z6 rfl (Va (g:=pH) (Gp.comp Tn Tm rfl).1 isAgg24 sizeOf24 rfl i6 u5_1_55 fun bL zE o68=>(Zo oE rfl (Z6 rfl (Gb (g:=pH) 3028 (xs:=([t5]:List Int)) (vs:=[Iz (t5)]) underlying24 sizeOf3 zeroValue3 rfl rfl (.cons rfl .nil) (RVs.cons (Zj.2 rfl) RVs.nil) rfl rfl fun pI dL eL hs o69 qI hxt hfl=>?_))))))));have hfr:=hfr.stp hs;have u4_1_55:=u4_1_55.stp hs rfl;have u4_3_55:=u4_3_55.stp hs rfl;have aB:=aB.stp hs rfl;have i6:=i6.stp hs rfl;have zE:=zE.stp hs;have o68:=o68.stp hs rfl;obtain ⟨y71,xH,h⟩:=Z3 h;refine Z6 rfl (Ql (g:=pI) (i:=60501) underlying24 Yn rfl rfl o68 zE rfl qI xH fun sI gL iL hs o70 qH _=>?_);have hfr:=hfr.stp hs;have u4_1_55:=u4_1_55.stp hs rfl;have u4_3_55:=u4_3_55.stp hs rfl;have aB:=aB.stp hs rfl;have i6:=i6.stp hs rfl;refine Zz (Ga p5 0) (Zc Kj cC (OB.ptr i6)) rfl (Zz (Ga p5 1) (Ka (o1:=0) rfl Kw rfl (OB.ptr i6)) rfl (Z6 rfl (Qg (g:=sI) (Gp.comp Tn Tm rfl) sizeOf24 rfl i6 rfl qH fun jJ jL hs b74 rst hos=>?_)));have jG:=hos _ _ 60501 3 (y71:List Int) (W3 qH) rfl o70;clear rst hos;have hfr:=hfr.stp hs;have u4_1_55:=u4_1_55.stp hs rfl;have u4_3_55:=u4_3_55.stp hs rfl;have aB:=aB.stp hs rfl;refine Zb (Tc ?_);obtain rfl:=sinj h;exact hQ _ _ ⟨jJ,hfr,iG,aB,u4_1_55,u4_3_55,cC,b74,jG,oE⟩
   ·clear hx
    obtain ⟨kJ,hfr,kG,lG,u4_1_75,u4_3_75,mG,sG,u5_1_75,xG⟩:=hR;refine Za (Zo xG rfl (Gf (Iz ((w64 (t5 + (1:Int))))) rfl rfl rfl rfl (Zg (Iz ((w64 (t5 + (1:Int))))) rfl rfl ?_)));exact Z4 (tH (mB,(w64 (t5 + (1:Int)))) _ _ ⟨kJ,hfr,kG,lG,u4_1_75,u4_3_75,mG,sG,u5_1_75,rfl⟩ h)
 ·clear hx
  obtain ⟨sH,hfr,yG,zG,u4_1_76,u4_3_76,rE,vB,u5_1_76⟩:=hR;obtain ⟨nB,hx,h⟩:=Z3 h;refine Gs (fun e w=>∃ (g:Gh) ,Fr gI wI g w∧e 4=p1∧OB 2004 g w 30 ((⟨⟨0,[]⟩,⟨0,[]⟩⟩:FaultLoom):FaultLoom) p1∧OSF 2004 60401 1 g w 3 30 ((((⟨⟨0,[]⟩,⟨0,[]⟩⟩:FaultLoom)).Harness).Warps) p1∧OSF 2004 60403 3 g w 3 30 ((((⟨⟨0,[]⟩,⟨0,[]⟩⟩:FaultLoom)).Design).Rows) p1∧e 5=p5∧OB 2005 g w 30 (nB:FaultLoom) p5∧OSF 2005 60501 1 g w 3 30 (((nB).Harness).Warps) p5) (fun Q' hQ=>?_) (fun lJ aK hR=>?_)
  ·replace h := hx
   clear hx;refine Z7 (Zz (Ga p5 2) (Zc Wf rE (OB.ptr vB)) rfl (Zz (Ga p5 2) (Ka (o1:=2) rfl Ki rfl (OB.ptr vB)) rfl (Z6 rfl (Wx (g:=sH) (Gp.comp G1 Qb rfl).1 isAgg3 sizeOf3 rfl vB fun bK yH=>?_))));obtain rfl:=Zj.1 yH;refine Gf (Iz ((w64 (((v8).Design).Hooks - (2:Int))))) rfl rfl rfl rfl (Zg (Iz ((w64 (((v8).Design).Hooks - (2:Int))))) rfl rfl (Z4 (Zr (Wo h (fun (s:FaultLoom × Int) e w=>∃ (g:Gh) ,Fr gI wI g w∧e 4=p1∧OB 2004 g w 30 ((⟨⟨0,[]⟩,⟨0,[]⟩⟩:FaultLoom):FaultLoom) p1∧OSF 2004 60401 1 g w 3 30 ((((⟨⟨0,[]⟩,⟨0,[]⟩⟩:FaultLoom)).Harness).Warps) p1∧OSF 2004 60403 3 g w 3 30 ((((⟨⟨0,[]⟩,⟨0,[]⟩⟩:FaultLoom)).Design).Rows) p1∧e 5=p5∧OB 2005 g w 30 (s.1:FaultLoom) p5∧OSF 2005 60501 1 g w 3 30 (((s.1).Harness).Warps) p5∧e 7=Iz (s.2)) ⟨sH,hfr,yG,zG,u4_1_76,u4_3_76,rE,vB,u5_1_76,rfl⟩ (fun X108 uE aH=>?_)))));rintro ⟨l8,o0⟩ mJ cK ⟨cF,hfr,vC,bD,u4_1_109,u4_3_109,cD,lD,u5_1_109,nD⟩ h;refine Zq h (fun (s:Unit) e w=>∃ (g:Gh) ,Fr gI wI g w∧e 4=p1∧OB 2004 g w 30 ((⟨⟨0,[]⟩,⟨0,[]⟩⟩:FaultLoom):FaultLoom) p1∧OSF 2004 60401 1 g w 3 30 ((((⟨⟨0,[]⟩,⟨0,[]⟩⟩:FaultLoom)).Harness).Warps) p1∧OSF 2004 60403 3 g w 3 30 ((((⟨⟨0,[]⟩,⟨0,[]⟩⟩:FaultLoom)).Design).Rows) p1∧e 5=p5∧OB 2005 g w 30 (l8:FaultLoom) p5∧OSF 2005 60501 1 g w 3 30 (((l8).Harness).Warps) p5∧e 7=Iz (o0)) (fun X111 vE cH h=>?_) ?_
   ·refine Z7 (Zo nD rfl (Gf (.bool ((decide (o0 > (0 : Int))))) rfl rfl rfl rfl (Z4 ?_)))
    rcases Zt h with ⟨uC,h⟩ | ⟨uC,h⟩
    ·refine G5 uC rfl ?_
     exact Zu (Zd (cH () _ _ ⟨cF,hfr,vC,bD,u4_1_109,u4_3_109,cD,lD,u5_1_109,nD⟩ h))
    ·refine G8 uC rfl (Tu (Gy (Gy (G9 ?_))))
     obtain rfl:=sinj h;exact hQ _ _ ⟨cF,hfr,vC,bD,u4_1_109,u4_3_109,cD,lD,u5_1_109⟩
   ·rintro _ nJ dK ⟨dF, hfr, eF, n8, u4_1_113, u4_3_113, yB, l5, u5_1_113, oD⟩ h
    obtain ⟨lB,hx,h⟩:=Z3 h;refine Gs (fun e w=>∃ (g:Gh) ,Fr gI wI g w∧e 4=p1∧OB 2004 g w 30 ((⟨⟨0,[]⟩,⟨0,[]⟩⟩:FaultLoom):FaultLoom) p1∧OSF 2004 60401 1 g w 3 30 ((((⟨⟨0,[]⟩,⟨0,[]⟩⟩:FaultLoom)).Harness).Warps) p1∧OSF 2004 60403 3 g w 3 30 ((((⟨⟨0,[]⟩,⟨0,[]⟩⟩:FaultLoom)).Design).Rows) p1∧e 5=p5∧OB 2005 g w 30 (lB:FaultLoom) p5∧OSF 2005 60501 1 g w 3 30 (((lB).Harness).Warps) p5∧e 7=Iz (o0)) (fun Q' hQ=>?_) (fun oJ lK hR=>?_)
    ·replace h := hx
     clear hx;refine Zr (Za (Zz (Ga p5 0) (Zc Kj yB (OB.ptr l5)) rfl (Zz (Ga p5 1) (Ka (o1:=0) rfl Kw rfl (OB.ptr l5)) rfl (Z6 rfl (Va (g:=dF) (Gp.comp Tn Tm rfl).1 isAgg24 sizeOf24 rfl l5 u5_1_113 fun mK bE o125=>(Zo oD rfl (Z6 rfl (Gb (g:=dF) 3044 (xs:=([o0]:List Int)) (vs:=[Iz (o0)]) underlying24 sizeOf3 zeroValue3 rfl rfl (.cons rfl .nil) (RVs.cons (Zj.2 rfl) RVs.nil) rfl rfl fun zH nK oK hs o126 aI hxt hfl=>?_))))))));have hfr:=hfr.stp hs;have u4_1_113:=u4_1_113.stp hs rfl;have u4_3_113:=u4_3_113.stp hs rfl;have n8:=n8.stp hs rfl;have l5:=l5.stp hs rfl;have bE:=bE.stp hs;have o125:=o125.stp hs rfl;obtain ⟨zD,gH,h⟩:=Z3 h;refine Z6 rfl (Ql (g:=zH) (i:=60501) underlying24 Yn rfl rfl o125 bE rfl aI gH fun bI pK qK hs o127 rF _=>?_);have hfr:=hfr.stp hs;have u4_1_113:=u4_1_113.stp hs rfl;have u4_3_113:=u4_3_113.stp hs rfl;have n8:=n8.stp hs rfl;have l5:=l5.stp hs rfl;refine Zz (Ga p5 0) (Zc Kj yB (OB.ptr l5)) rfl (Zz (Ga p5 1) (Ka (o1:=0) rfl Kw rfl (OB.ptr l5)) rfl (Z6 rfl (Qg (g:=bI) (Gp.comp Tn Tm rfl) sizeOf24 rfl l5 rfl rF fun dI sK hs b131 rst hos=>?_)));have sF:=hos _ _ 60501 3 (zD:List Int) (W3 rF) rfl o127;clear rst hos;have hfr:=hfr.stp hs;have u4_1_113:=u4_1_113.stp hs rfl;have u4_3_113:=u4_3_113.stp hs rfl;have n8:=n8.stp hs rfl;refine Zb (Tc ?_);obtain rfl:=sinj h;exact hQ _ _ ⟨dI,hfr,eF,n8,u4_1_113,u4_3_113,yB,b131,sF,oD⟩
    ·clear hx
     obtain ⟨iI,hfr,tF,uF,u4_1_132,u4_3_132,vF,xF,u5_1_132,yF⟩:=hR;refine Za (Zo yF rfl (Gf (Iz ((w64 (o0 - (1:Int))))) rfl rfl rfl rfl (Zg (Iz ((w64 (o0 - (1:Int))))) rfl rfl ?_)));exact Z4 (aH (lB,(w64 (o0 - (1:Int)))) _ _ ⟨iI,hfr,tF,uF,u4_1_132,u4_3_132,vF,xF,u5_1_132,rfl⟩ h)
  ·clear hx
   obtain ⟨aG,hfr,yD,bG,u4_1_133,u4_3_133,cG,eG,u5_1_133⟩:=hR;refine Z7 (Z6 rfl (T3 (g:=aG) isAgg30 sizeOf30 cG eG fun jI kI=>(Z6 rfl (Gk (g:=aG) (v:=jI) sizeOf30 yD bG rfl kI fun tK uK hs b135 cb=>?_))));clear cb;have hfr:=hfr.stp hs;refine Z4 (Gd ?_);obtain rfl:=sinj h;obtain ⟨ad136,cv136,hp136,jH,cr136⟩:=T6 isAgg30 sizeOf30 b135;exact Uu rfl rfl ((show _=p1 from yD).trans hp136) jH ⟨_,hfr,cr136⟩
end Go.Proofs.YtepehlhgkipcoaaGreatDoor
