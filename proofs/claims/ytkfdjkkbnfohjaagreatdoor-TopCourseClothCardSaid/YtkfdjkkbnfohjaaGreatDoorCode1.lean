import Derived.Test.YtkfdjkkbnfohjaaGreatDoorTypes
import Derived.Test.YtkfdjkkbnfohjaaGreatDoorKn
import Derived.Test.YtkfdjkkbnfohjaaGreatDoorShelf
set_option maxRecDepth 8000
set_option maxHeartbeats 4000000
namespace Go.Proofs.YtkfdjkkbnfohjaaGreatDoor
open Go.RowKit
theorem info_5:(Tryz.prog.info? 5).map (fun i=>(i.zero,i.size,i.bytes))=some (some (.int .u8 0),1,1):=by kernel_rfl
@[reducible] def ow_TieHarness:Ow TieHarness:=Ow.struct (fun (x:TieHarness)=>(x.Hooks,x.Warps)) (Ow.pair (Ow.sh Int) (Ow.list 3 (Ow.sh Int)))
theorem fw_ow_TieHarness:(ow_TieHarness).free:=free_struct (free_pair (free_sh plain_int) (free_list 3 (free_sh plain_int)))
theorem lay_28:layoutOf Tryz.prog 28=some ([.int .i64 0,.slice none 0 0],[(0,1),(1,1)]):=by kernel_rfl
theorem mixed:Tryz.prog.follows .mixedOrders=true:=by kernel_rfl
theorem info_3:(Tryz.prog.info? 3).map (fun i=>(i.zero,i.size,i.bytes))=some (some (.int .i64 0),1,8):=by kernel_rfl
theorem endm_c {P:Program} {e:Env} {ds:List Deferred} {w:World} {fn:Func} {R:Value→World→Prop} {t0:Tmp} {v0:Value} {y0:TypeId} {a0:Addr} (hres:fn.results=#[.cell t0 y0]) (hd:ds=[]) (h0:e t0=.pointer (some a0)) (l0:(loadVar y0 a0).run P w=.ok v0 w) (h:R v0 w):atEnd P fn R .ret e ds w:=
 ⟨hd,fun tmps ht=>⟨_,by simp [results,hres,ht,asAddr,h0,l0],h⟩⟩
theorem lay_31:layoutOf Tryz.prog 31=some ([.int .i64 0,.slice none 0 0],[(0,1),(1,1)]):=by kernel_rfl
theorem lay_69:layoutOf Tryz.prog 69=some ([.int .i64 0,.int .i64 0,.int .i64 0,.int .i64 0],[(0,1),(1,1),(2,1),(3,1)]):=by kernel_rfl
theorem info_62:(Tryz.prog.info? 62).map (fun i=>(i.zero,i.size,i.bytes))=some (some (.agg #[.int .i64 0,.int .i64 0,.bool false]),3,24):=by kernel_rfl
theorem lay_36:layoutOf Tryz.prog 36=some ([.int .i64 0,.slice none 0 0],[(0,1),(1,1)]):=by kernel_rfl
theorem info_9:(Tryz.prog.info? 9).map (fun i=>(i.zero,i.size,i.bytes))=some (some (Str.v ⟨[]⟩),1,16):=by kernel_rfl
theorem lay_74:layoutOf Tryz.prog 74=some ([.int .i64 0,.slice none 0 0,.int .i64 0],[(0,2),(2,1)]):=by kernel_rfl
theorem capf_0_2 {e:Env} {f:FuncId} {o0:Operand} {u3:Operand} {b0:Value} {b1:Value} (hb0:ev e o0=b0) (hb1:ev e u3=b1):(Value.func (.func f) ((#[]:Array Operand).map (ev e)) ((#[o0,u3]:Array Operand).map (ev e)))=.func (.func f) #[] #[b0,b1]:=by simp [hb0,hb1]
theorem key_3:KeyLaw Tryz.prog 3 (Value.int .i64):=keyLaw_int Tryz.underlying3
theorem capf_0_1 {e:Env} {f:FuncId} {o0:Operand} {b0:Value} (hb0:ev e o0=b0):(Value.func (.func f) ((#[]:Array Operand).map (ev e)) ((#[o0]:Array Operand).map (ev e)))=.func (.func f) #[] #[b0]:=by simp [hb0]
theorem endm_ct {P:Program} {e:Env} {ds:List Deferred} {w:World} {fn:Func} {R:Value→World→Prop} {t0:Tmp} {v0:Value} {y0:TypeId} {a0:Addr} {t1:Tmp} {v1:Value} (hres:fn.results=#[.cell t0 y0,.tmp t1]) (hd:ds=[]) (h0:e t0=.pointer (some a0)) (l0:(loadVar y0 a0).run P w=.ok v0 w) (h1:e t1=v1) (h:R (.tuple #[v0,v1]) w):atEnd P fn R .ret e ds w:=
 ⟨hd,fun tmps ht=>⟨_,by simp [results,hres,ht,asAddr,h0,l0,h1],h⟩⟩
theorem fl_TieHarness_0:Fl ow_TieHarness (Ow.sh Int) 0 (fun (x:TieHarness) y=>{ x with Hooks:=y }) (fun (q:(ow_TieHarness).S) (r:((Ow.sh Int)).S)=>(r,(Prod.snd q))):=Fl.of _ (Fl.fst _ _) (fun _ _=>rfl)
theorem fl_TieHarness_1:Fl ow_TieHarness (Ow.list 3 (Ow.sh Int)) 1 (fun (x:TieHarness) y=>{ x with Warps:=y }) (fun (q:(ow_TieHarness).S) (r:((Ow.list 3 (Ow.sh Int))).S)=>((Prod.fst q),r)):=Fl.of _ (Fl.comp Prod.snd Prod.snd (Fl.snd _ _) (Fl.id_ _) rfl) (fun _ _=>rfl)
theorem endm_ctt {P:Program} {e:Env} {ds:List Deferred} {w:World} {fn:Func} {R:Value→World→Prop} {t0:Tmp} {v0:Value} {y0:TypeId} {a0:Addr} {t1:Tmp} {v1:Value} {t2:Tmp} {v2:Value} (hres:fn.results=#[.cell t0 y0,.tmp t1,.tmp t2]) (hd:ds=[]) (h0:e t0=.pointer (some a0)) (l0:(loadVar y0 a0).run P w=.ok v0 w) (h1:e t1=v1) (h2:e t2=v2) (h:R (.tuple #[v0,v1,v2]) w):atEnd P fn R .ret e ds w:=
 ⟨hd,fun tmps ht=>⟨_,by simp [results,hres,ht,asAddr,h0,l0,h1,h2],h⟩⟩
theorem lay_101:layoutOf Tryz.prog 101=some ([.int .i64 0,.int .i64 0,.int .i64 0,.int .i64 0],[(0,4)]):=by kernel_rfl
theorem lay_62:layoutOf Tryz.prog 62=some ([.int .i64 0,.int .i64 0,.bool false],[(0,1),(1,1),(2,1)]):=by kernel_rfl
theorem lay_83:layoutOf Tryz.prog 83=some ([.int .i64 0,.slice none 0 0],[(0,2)]):=by kernel_rfl
theorem info_26:(Tryz.prog.info? 26).map (fun i=>(i.zero,i.size,i.bytes))=some (some (.slice none 0 0),1,24):=by kernel_rfl
theorem lay_90:layoutOf Tryz.prog 90=some ([.int .i64 0,.slice none 0 0,.int .i64 0,.slice none 0 0],[(0,3),(3,1)]):=by kernel_rfl
theorem layA_41:((Tryz.prog.info? 41).bind (·.zero)).map (·.cells.toList)=some [.int .i64 0,.int .i64 0,.int .i64 0,.int .i64 0,.int .i64 0,.int .i64 0,.int .i64 0,.int .i64 0]:=by kernel_rfl
theorem szA_3:(Tryz.prog.info? 3).map (·.size)=some 1:=by kernel_rfl
theorem tup4_1 {b0 b1 b2 b3:Value} {B0:Value→Prop} {B1:Value→Prop} {B2:Value→Prop} {B3:Value→Prop} (h:∃ c0 c1 c2 c3:Value,Value.tuple #[b0,b1,b2,b3]=.tuple #[c0,c1,c2,c3]∧B0 c0∧B1 c1∧B2 c2∧B3 c3):B1 b1:=by
 obtain ⟨c0,c1,c2,c3,he,h0,h1,h2,h3⟩:=h; simp at he; obtain ⟨rfl,rfl,rfl,rfl⟩:=he; exact h1
theorem atS_0 (a:Addr) (w:World):(Instr.fieldAt 108 (.pointer (some a)) 0).run Tryz.prog w=.ok (.pointer (some (a.add 0))) w:=by simp [Instr.fieldAt,run_underlying Tryz.underlying108,Instr.sureAddr,fieldPlace,Result.andThen]
theorem atS_1 (a:Addr) (w:World):(Instr.fieldAt 108 (.pointer (some a)) 1).run Tryz.prog w=.ok (.pointer (some (a.add 1))) w:=by simp [Instr.fieldAt,run_underlying Tryz.underlying108,Instr.sureAddr,fieldPlace,Result.andThen]
theorem sb_size:(Tryz.prog.info? 108).map (·.size)=some 2:=by kernel_rfl
theorem sb_psize:∃ j,Tryz.prog.info? 108=some j∧j.size=2:=Option.map_eq_some_iff.1 sb_size
theorem en70:Enters Tryz.prog 70:=enters_of Tryz.func70 (by kernel_rfl) rfl
theorem ob_shape {i:Nat} {g:Gh} {w:World} {x:Fv × List UInt8} {b o:Nat} (hb:OB i g w 108 x (.pointer (some ⟨b,o,none⟩))):o=0∧w.shape? b=some (108,2):=by
 obtain ⟨b',cs,hp,_,_,hh,hr⟩:=hb
 injection hp with hp; injection hp with hp; injection hp with h1 h2
 subst h1; subst h2
 have hl:=GoT.len hr
 simp [GoT.k] at hl
 exact ⟨rfl,by simp [World.shape?,hh,hl]⟩
theorem wk70 {i j : Nat} (hji : Nat.beq j i = false) {g : Gh} {w : World} {a : Fv} {xs : List UInt8} {p : Value} (hb : OB i g w 108 (a, xs) p) (ho : OSF i j 1 g w 5 108 xs p) (ha : a.v = .pointer none ∨ a.v = p) :
  Calls Tryz.prog 70 #[p] w fun r w'=>∃ v,r=.returned v∧∃ g',Stp i g w g' w'∧∃ a':Fv,a'.v=p∧OB i g' w' 108 (a',xs) p∧OSF i j 1 g' w' 5 108 xs p:=by
 obtain ⟨b,o,rfl⟩:=hb.ptr
 obtain ⟨hoff,hsh⟩:=ob_shape hb
 subst hoff
 obtain ⟨jt,hj,hjs⟩:=sb_psize
 refine calls_of_E Tryz.func70 rfl (Nat.le_of_ble_eq_true rfl) ?_
 show E _ 20 none _ _ _ _ _
 refine Zf (Za (Zn (.pointer (some ⟨b,0,none⟩)) rfl rfl ?_))
 refine Zx (.pointer (some ⟨b,0,none⟩)) (P_nilCheck rfl) rfl ?_
 refine Zx (fPtr (.pointer (some ⟨b,0,none⟩)) 0) (Zc atS_0 rfl ⟨b,0,rfl⟩) rfl ?_
 refine Ze .plain rfl (D_loadF (g:=g) (a:=(a,xs)) Sub.fst Tryz.isAgg106 Tryz.sizeOf106 rfl hb fun v r=>?_)
 obtain rfl:=RV_fv.1 r
 rcases ha with ha | ha
 ·refine Zx (.bool true) (P_ptreq (u2 := .pointer none) (.inl rfl) (show _ = .pointer none from ha) rfl ⟨_, rfl⟩ ⟨_, rfl⟩ (fun w => by simpa using run_eql_pointer_nil (P := Tryz.prog) w 106 none Tryz.underlying106)) rfl ?_
  refine Zb (Zd (E_cond_true rfl (Za ?_)))
  refine Zn (.pointer (some ⟨b,0,none⟩)) rfl rfl ?_
  refine Zn (.pointer (some ⟨b,0,none⟩)) rfl rfl ?_
  refine EL_val (v:=.pointer (some ⟨b,0,none⟩)) (w':=w) .plain (fun _ h=>by cases h) rfl (by
   have:=Lib.run_to_unsafe w ⟨b,0,none⟩ Tryz.underlying106 Tryz.underlying146 hj (by rw [hjs]; decide) hsh (by show 0 < 2; omega)
   show (Sem.run _ (execOp _ _) _)=_
   simp only [execOp,Sem.run_bind]
   rw [show ev _ (Operand.tmp 8)=Value.pointer (some ⟨b,0,none⟩) from rfl,this]
   rfl) ?_
  refine Zx (.pointer (some ⟨b,0,none⟩)) (P_extern Tryz.func82 (by kernel_rfl) (by kernel_rfl) (by kernel_rfl) (ex:=Extern.AbiNoEscape.same) (by kernel_rfl) (.cons rfl .nil) (fun _=>rfl)) rfl ?_
  refine EL_val (v:=.pointer (some ⟨b,0,none⟩)) (w':=w) .plain (fun _ h=>by cases h) rfl (by
   have:=Lib.run_from_unsafe w ⟨b,0,none⟩ Tryz.underlying146 Tryz.underlying106 hj hsh (by kernel_rfl)
   show (Sem.run _ (execOp _ _) _)=_
   simp only [execOp,Sem.run_bind]
   rw [show ev _ (Operand.tmp 10)=Value.pointer (some ⟨b,0,none⟩) from rfl,this]
   rfl) ?_
  refine Zx (.pointer (some ⟨b,0,none⟩)) (P_nilCheck rfl) rfl ?_
  refine Zx (fPtr (.pointer (some ⟨b,0,none⟩)) 0) (Zc atS_0 rfl ⟨b,0,rfl⟩) rfl ?_
  refine Ze .plain rfl (D_storeFc (g:=g) (a:=(a,xs)) (b:=(⟨.pointer (some ⟨b,0,none⟩),rfl⟩:Fv)) SubS.fst Tryz.sizeOf106 rfl hb rfl (RV_fv.2 rfl) fun g1 w1 hs b1 rst _=>?_)
  exact Zb (end0n rfl rfl ⟨g1,hs,_,rfl,b1,ho.rest hs rst rfl hji⟩)
 ·refine Zx (.bool false) (P_ptreq (u2 := .pointer none) (.inl rfl) (show _ = .pointer (some ⟨b, 0, none⟩) from ha) rfl ⟨_, rfl⟩ ⟨_, rfl⟩ (fun w => by simpa using run_eql_pointer_nil (P := Tryz.prog) w 106 (some ⟨b, 0, none⟩) Tryz.underlying106)) rfl ?_
  refine Zb (Zd (E_cond_false rfl ?_))
  refine Zf (Za (Zn (.pointer (some ⟨b,0,none⟩)) rfl rfl ?_))
  refine Zx (.pointer (some ⟨b,0,none⟩)) (P_nilCheck rfl) rfl ?_
  refine Zx (fPtr (.pointer (some ⟨b,0,none⟩)) 0) (Zc atS_0 rfl ⟨b,0,rfl⟩) rfl ?_
  refine Ze .plain rfl (D_loadF (g:=g) (a:=(a,xs)) Sub.fst Tryz.isAgg106 Tryz.sizeOf106 rfl hb fun v r=>?_)
  obtain rfl:=RV_fv.1 r
  refine Zn (.pointer (some ⟨b,0,none⟩)) rfl rfl ?_
  refine Zx (.bool false) (P_ptreq (.inr rfl) (show _=.pointer (some ⟨b,0,none⟩) from ha) rfl ⟨_,rfl⟩ ⟨_,rfl⟩ (fun w=>Lib.run_neq_ptr_same w ⟨b,0,none⟩ Tryz.underlying106 hj)) rfl ?_
  refine Zb (Zd (E_cond_false rfl (Zu ?_)))
  exact end0n rfl rfl ⟨g,stp_refl _ _ _,_,ha,hb,ho⟩
theorem en50:Enters Tryz.prog 50:=enters_of Tryz.func50 (by kernel_rfl) rfl
theorem wk50 {i j : Nat} (hji : Nat.beq j i = false) (hij : Nat.beq i j = false) {g : Gh} {w : World} {c : UInt8} {xs r : List UInt8} {p : Value} (hsb : SB i j g w 5 108 xs p) (hr : apnd 1 xs [c] = some r) :
  Calls Tryz.prog 50 #[p,.int .u8 c.toNat] w fun q w'=>∃ v,q=.returned v∧v=.nilIface∧WB i j g w 5 108 r p w':=by
 obtain ⟨a,hb,ho,ha⟩:=hsb
 obtain ⟨b,o,rfl⟩:=hb.ptr
 obtain ⟨hoff,hsh⟩:=ob_shape hb
 subst hoff
 refine calls_of_E Tryz.func50 rfl (Nat.le_of_ble_eq_true rfl) ?_
 show E _ 17 none _ _ _ _ _
 refine Zf (Za (Zg (.nilIface) rfl rfl ?_))
 refine Zb (Zd (Zf (Za (Zn (.pointer (some ⟨b,0,none⟩)) rfl rfl ?_))))
 refine Ze .plain rfl (D_callC (vs:=[.pointer (some ⟨b,0,none⟩)]) en70 (.cons rfl .nil) (wk70 hji hb ho ha) fun v w1 h1=>?_)
 obtain ⟨g1,hs1,a1,ha1,hb1,ho1⟩:=h1
 refine Zb (Zd (Zf (Za (Zn (.pointer (some ⟨b,0,none⟩)) rfl rfl ?_))))
 refine Zn (.pointer (some ⟨b,0,none⟩)) rfl rfl ?_
 refine Zx (.pointer (some ⟨b,0,none⟩)) (P_nilCheck rfl) rfl ?_
 refine Zx (fPtr (.pointer (some ⟨b,0,none⟩)) 1) (Zc atS_1 rfl ⟨b,0,rfl⟩) rfl ?_
 refine Ze .plain rfl (D_loadFS (g:=g1) (a:=(a1,xs)) (f:=Prod.snd) Sub.snd Tryz.isAgg22 Tryz.sizeOf22 rfl hb1 ho1 fun v2 r2 o2=>?_)
 refine Zn (.int .u8 c.toNat) rfl rfl ?_
 refine Ze .plain rfl (D_buildSlice (g:=g1) 1 (xs:=[c]) (vs:=[.int .u8 c.toNat]) Tryz.underlying22 Tryz.sizeOf5 Tryz.zeroValue5 rfl rfl (.cons rfl .nil) (RVs.cons (RV_u8.2 rfl) RVs.nil) rfl rfl fun g3 w3 v3 _ _ r3 hxt _=>?_)
 refine Ze .plain rfl (D_append (g:=g3) (i:=j) Tryz.underlying22 info_5 rfl rfl (o2.ext hxt) (r2.ext hxt) rfl r3 hr fun g4 w4 v4 hs4 o4 r4 _=>?_)
 have hb4:=(hb1.ext hxt).stp hs4 hij
 refine Zx (.pointer (some ⟨b,0,none⟩)) (P_nilCheck rfl) rfl ?_
 refine Zx (fPtr (.pointer (some ⟨b,0,none⟩)) 1) (Zc atS_1 rfl ⟨b,0,rfl⟩) rfl ?_
 refine Ze .plain rfl (D_storeFc (g:=g4) (a:=(a1,xs)) SubS.snd Tryz.sizeOf22 rfl hb4 rfl r4 fun g5 w5 hs5 b5 _ hos=>?_)
 have o5:=hos _ _ j 5 r (rv_cells1 r4) hji o4
 refine Zb (Zd (Zf (Za (Zg (.nilIface) rfl rfl ?_))))
 refine Zb (Zd (E_ret (end1 rfl rfl (show _=.nilIface from rfl) ⟨rfl,g5,⟨g1,w1,g4,w4,hs1,(hxt.stp.trans hs4),hs5⟩,a1,b5,o5,.inr ha1⟩)))
theorem en53:Enters Tryz.prog 53:=enters_of Tryz.func53 (by kernel_rfl) rfl
theorem mixedS:Tryz.prog.follows .mixedOrders=true:=by kernel_rfl
theorem wk53 {i j : Nat} (hij : Nat.beq i 0 = false) {g : Gh} {w : World} {xs : List UInt8} {p : Value} (hsb : SB i j g w 5 108 xs p) (h0 : xs ≠ []) :
  Calls Tryz.prog 53 #[p] w fun q w'=>∃ v,q=.returned v∧GS j g w xs v w':=by
 obtain ⟨a,hb,ho,ha⟩:=hsb
 obtain ⟨b,o,rfl⟩:=hb.ptr
 obtain ⟨hoff,hsh⟩:=ob_shape hb
 subst hoff
 refine calls_of_E Tryz.func53 rfl (Nat.le_of_ble_eq_true rfl) ?_
 show E _ 14 none _ _ _ _ _
 refine Zf (Za (Zg (Str.v ⟨[]⟩) rfl rfl ?_))
 refine Zb (Zd (L_loadFSx (f:=Prod.snd) (a:=(a,xs)) Sub.snd Tryz.isAgg22 Tryz.sizeOf22 hb ho fun v r os hl=>?_))
 obtain ⟨sa,c,rfl,hc,_⟩:=RV_list r
 have hne:c ≠ 0:=by
  have : 0 < xs.length := by cases xs with
   | nil=>exact absurd rfl h0
   | cons _ _=>simp
  have hc':xs.length ≤ c:=hc
  omega
 refine Zf (E_drawL (g:=g) (n:=10) [] [0,1,2,3,4,5,6,7,8,9] rfl mixedS (by kernel_rfl) trivial ?_)
 refine Ga (.pointer (some ⟨b,0,none⟩)) rfl rfl (Zk rfl) ?_
 refine Ga (.pointer (some ⟨b,0,none⟩)) rfl rfl (P_nilCheck rfl) ?_
 refine Ga (fPtr (.pointer (some ⟨b,0,none⟩)) 1) rfl rfl (Zc atS_1 rfl ⟨b,0,rfl⟩) ?_
 refine L_ld (c:=.slice sa xs.length c) rfl rfl .plain (fun _ _ h=>⟨h.ch,fun b hb _=>h.below.block b hb⟩) (hl _) rfl ?_
 refine Ga (.pointer sa) rfl rfl (P_sliceData (a:=sa) (n:=xs.length) (c:=c) rfl (.inl hne)) ?_
 refine Ga (.pointer (some ⟨b,0,none⟩)) rfl rfl (Zk rfl) ?_
 refine Ga (.pointer (some ⟨b,0,none⟩)) rfl rfl (P_nilCheck rfl) ?_
 refine Ga (fPtr (.pointer (some ⟨b,0,none⟩)) 1) rfl rfl (Zc atS_1 rfl ⟨b,0,rfl⟩) ?_
 refine L_ld (c:=.slice sa xs.length c) rfl rfl .plain (fun _ _ h=>⟨h.ch,fun b hb _=>h.below.block b hb⟩) (hl _) rfl ?_
 refine Ga (.int .i64 (xs.length:Int)) rfl rfl (P_len (v:=.slice sa xs.length c) Tryz.underlying22 rfl r) ?_
 refine L_nil fun g1 w1 hall=>?_
 have hs:=hall.1
 refine Ze .plain rfl (D_unsafeString (g:=g1) (j:=j) (et:=5) rfl Tryz.underlying133 (by kernel_rfl) h0 rfl rfl (os.ext hs) (r.ext hs) fun g2 w2 hs2=>?_)
 refine Zg (Str.v ⟨xs⟩) rfl rfl ?_
 exact Zb (Zd (E_ret (end1 rfl rfl (show _=Str.v ⟨xs⟩ from rfl) ⟨rfl,g2,hs.stp.trans hs2⟩)))
theorem en62:Enters Tryz.prog 62:=enters_of Tryz.func62 (by kernel_rfl) rfl
theorem mul_ok:Muls Tryz.prog 62:=fun x y hx hy w=>Tryz.bits_Mul x y hx hy w
def f6:Option Bool:=some true
theorem en6:Enters Tryz.prog 6:=enters_of Tryz.func6 (by kernel_rfl) rfl
theorem wk6 {gI:Gh} {wI:World} {r:Bool} (h:f6=some r):Fn Tryz.prog 6 #[] gI wI (fun _ _ v=>v=.bool (r)):=by
 injection h with h
 subst h
 exact wkK6
def f4 (x0:Loom):Option (TieHarness):=
 (rem64 (((x0).Hooks).toNat:Int) (12:Int)).bind fun y5=>
 Option.bind (α:=TieHarness) (
  lp (σ:=TieHarness × Int) (fun qC (l5,o0)=>
   jn (σ:=Unit) (fun _=>
    Option.bind (α:=TieHarness) (
     Option.bind (α:=Int) (
      bif (decide (o0 < (((x0).Warps).length : Int))) then
       (idx ((x0).Warps) o0).bind fun rA=>
       (rem64 ((rA).toNat:Int) (l5).Hooks).bind fun yA=>
       some (yA)
      else
       some ((0:Int))
      ) fun l8=>
     (apnd 8 ((l5).Warps) (([l8]:List Int))).bind fun yB=>
     some ({ l5 with Warps:=yB })
     ) fun m8=>
    qC (m8,(w64 (o0 + (1:Int))))
    ) fun rC=>
   Option.bind (α:=Bool) (
    bif (o0 == (0 : Int)) then
     some (true)
    else
     bif (decide (o0 < (((x0).Warps).length : Int))) then
      some ((decide (o0 < (30:Int))))
     else
      some (false)
    ) fun y6=>
   bif y6 then
    rC ()
   else
    some (l5)
   ) big ((⟨(w64 ((1:Int) + y5)),[]⟩:TieHarness),(0:Int))
  ) fun r8=>
 some (r8)
theorem en4:Enters Tryz.prog 4:=enters_of Tryz.func4 (by kernel_rfl) rfl
def f5 (x0:Loom):Option (Design):=
 (rem64 (((x0).Hooks).toNat:Int) (12:Int)).bind fun y5=>
 Option.bind (α:=Design) (
  lp (σ:=Design × Int) (fun rE (t5,o0)=>
   jn (σ:=Unit) (fun _=>
    Option.bind (α:=Design) (
     Option.bind (α:=Int) (
      bif (decide (o0 < (((x0).Rows).length : Int))) then
       (idx ((x0).Rows) o0).bind fun n9=>
       some (((n9).toNat:Int))
      else
       some ((21:Int))
      ) fun x6=>
     (shl64 (1:Int) ((wu64 (t5).Hooks))).bind fun y161=>
     (apnd 8 ((t5).Rows) (([(bit64 .and x6 (w64 (y161 - (1:Int))))]:List Int))).bind fun vB=>
     some ({ t5 with Rows:=vB })
     ) fun k8=>
    rE (k8,(w64 (o0 + (1:Int))))
    ) fun qC=>
   Option.bind (α:=Bool) (
    bif (o0 == (0 : Int)) then
     some (true)
    else
     bif (decide (o0 < (((x0).Rows).length : Int))) then
      some ((decide (o0 < (10:Int))))
     else
      some (false)
    ) fun y6=>
   bif y6 then
    qC ()
   else
    some (t5)
   ) big ((⟨(w64 ((1:Int) + y5)),[]⟩:Design),(0:Int))
  ) fun m8=>
 some (m8)
theorem en5:Enters Tryz.prog 5:=enters_of Tryz.func5 (by kernel_rfl) rfl
theorem wk5 {gI:Gh} {wI:World} {x0:Loom} {up0:Value} (rp0:RV gI.m wI x0 up0) {r:Design} (h:f5 x0=some r):Fn Tryz.prog 5 #[up0] gI wI (fun m w v=>RV m w (r) v):=by
 unfold f5 at h
 refine fn_of_E Tryz.func5 rfl (Nat.le_of_ble_eq_true rfl) fun g0 hm hfr=>?_
 have rp0:RV g0.m wI x0 up0:=hm ▸ rp0
 show E _ 51 none _ _ _ _ _
 refine Zf (Za (Ze .plain rfl (D_box (g:=g0) rfl rp0 fun g1 w1 p1 hs q1=>?_)))
 have hfr:=hfr.ext hs
 refine Ze .plain rfl (D_allocOc (g:=g1) 2002 (⟨0,[]⟩:Design) Tryz.zeroValue31 (fun m w=>⟨_,(rep_two Zw rep_nil),rfl⟩) fun g2 w2 p2 hs b2 cb=>?_)
 have hfr:=hfr.stp hs
 have q1:=q1.stp hs
 have d9:OSF 2002 60201 1 g2 w2 3 31 ([]:List Int) p2:=cb.osf (by rfl)
 clear cb
 refine Zb (Zd (Zf (Za (Zx (fPtr p1 0) (Zc at_25_0 rfl (PT.ptr q1)) rfl ?_))))
 have q3:=Zm (part_Loom_0).1 q1
 refine Ze .plain rfl (D_load (g:=g2) Tryz.isAgg5 Tryz.sizeOf5 rfl q3 fun v4 r4=>?_)
 obtain rfl:=RV_u8.1 r4
 refine Zx (.int .i64 ((((x0).Hooks).toNat:Int))) (P_u8int Tryz.underlying5 Tryz.underlying3 rfl) rfl ?_
 obtain ⟨y5,hy5,h⟩:=Gb h
 refine Zx (.int .i64 (y5)) (P_int rfl rfl (congrArg (Option.map (Value.int .i64)) hy5)) rfl ?_
 refine EL_in (.int .i64 ((w64 ((1:Int) + y5)))) rfl rfl rfl rfl ?_
 have r6:RV g2.m w2 (⟨(w64 ((1:Int) + y5)),[]⟩:Design) (.agg (setCh [[.int .i64 0],[.slice none 0 0]] [(0,.int .i64 ((w64 ((1:Int) + y5))))]).flatten.toArray):=RV_build rfl (rep_pair (rfl) (rep_last (rep_nil)))
 generalize uE:(Value.agg (setCh [[.int .i64 0],[.slice none 0 0]] [(0,.int .i64 ((w64 ((1:Int) + y5))))]).flatten.toArray)=v6 at r6
 refine Zx v6 (uE ▸ P_build (vs:=[(0,.int .i64 ((w64 ((1:Int) + y5))))]) [[.int .i64 0],[.slice none 0 0]] lay_31 rfl rfl (.cons rfl .nil) ⟨⟨_,rfl,rfl⟩,trivial⟩) rfl ?_
 refine Ze .plain rfl (D_allocOc (g:=g2) 2003 (⟨0,[]⟩:Design) Tryz.zeroValue31 (fun m w=>⟨_,(rep_two Zw rep_nil),rfl⟩) fun g7 w7 p7 hs b7 cb=>?_)
 have hfr:=hfr.stp hs
 have q1:=q1.stp hs
 have d9:=d9.stp hs rfl
 have b2:=b2.stp hs rfl
 have r6:=r6.stp hs
 have kG:OSF 2003 60301 1 g7 w7 3 31 ([]:List Int) p7:=cb.osf (by rfl)
 clear cb
 refine Ze .plain rfl (D_storeOc (g:=g7) (v:=v6) Tryz.sizeOf31 rfl b7 rfl r6 fun g8 w8 hs b8 cb=>?_)
 have vE:OSF 2003 60301 1 g8 w8 3 31 ([]:List Int) p7:=cb.osf (by rw [← uE]; rfl)
 clear cb
 have hfr:=hfr.stp hs
 have q1:=q1.stp hs
 have d9:=d9.stp hs rfl
 have b2:=b2.stp hs rfl
 refine Zb (Zd ?_)
 obtain ⟨m8,hx,h⟩:=Gb h
 refine E_join (fun e w=>∃ (g:Gh) ,Fr gI wI g w∧e 2=p2∧OB 2002 g w 31 ((⟨0,[]⟩:Design):Design) p2∧OSF 2002 60201 1 g w 3 31 (((⟨0,[]⟩:Design)).Rows) p2∧e 3=p7∧OB 2003 g w 31 (m8:Design) p7∧OSF 2003 60301 1 g w 3 31 ((m8).Rows) p7) (fun Q' hQ=>?_) (fun eG lG hR=>?_)
 ·replace h := hx
  clear hx
  refine Zf (Za (Zg (.int .i64 (0)) rfl rfl ?_))
  refine Zb (Zd (Zr ?_))
  refine E_lp h (fun (s:Design × Int) e w=>∃ (g:Gh) ,Fr gI wI g w∧e 1=p1∧PT g.m w (x0:Loom) p1∧e 2=p2∧OB 2002 g w 31 ((⟨0,[]⟩:Design):Design) p2∧OSF 2002 60201 1 g w 3 31 (((⟨0,[]⟩:Design)).Rows) p2∧e 3=p7∧OB 2003 g w 31 (s.1:Design) p7∧OSF 2003 60301 1 g w 3 31 ((s.1).Rows) p7∧e 4=.int .i64 (s.2)) ⟨g8,hfr,rfl,q1,rfl,b2,d9,rfl,b8,vE,rfl⟩ (fun X89 rE xE=>?_)
  rintro ⟨t5,o0⟩ mG qH ⟨cC,hfr,a9,n8,u9,y9,u2_1_90,z9,bA,u3_1_90,l8⟩ h
  refine Zq h (fun (s:Unit) e w=>∃ (g:Gh) ,Fr gI wI g w∧e 1=p1∧PT g.m w (x0:Loom) p1∧e 2=p2∧OB 2002 g w 31 ((⟨0,[]⟩:Design):Design) p2∧OSF 2002 60201 1 g w 3 31 (((⟨0,[]⟩:Design)).Rows) p2∧e 3=p7∧OB 2003 g w 31 (t5:Design) p7∧OSF 2003 60301 1 g w 3 31 ((t5).Rows) p7∧e 4=.int .i64 (o0)) (fun X101 qC iE h=>?_) ?_
  ·obtain ⟨y6, hx, h⟩ := Gb h
   refine E_join (fun e w=>∃ (g:Gh) ,Fr gI wI g w∧e 1=p1∧PT g.m w (x0:Loom) p1∧e 2=p2∧OB 2002 g w 31 ((⟨0,[]⟩:Design):Design) p2∧OSF 2002 60201 1 g w 3 31 (((⟨0,[]⟩:Design)).Rows) p2∧e 3=p7∧OB 2003 g w 31 (t5:Design) p7∧OSF 2003 60301 1 g w 3 31 ((t5).Rows) p7∧e 4=.int .i64 (o0)∧e 24=.bool (y6)) (fun Q' hQ=>?_) (fun gG sG hR=>?_)
   ·replace h := hx
    clear hx
    refine Za (Zo l8 rfl ?_)
    refine EL_in (.bool ((o0 == (0:Int)))) rfl rfl rfl rfl ?_
    refine Zn (.bool ((o0 == (0:Int)))) rfl rfl ?_
    rcases Zt h with ⟨u3,h⟩ | ⟨u3,h⟩
    ·refine Zz rfl rfl u3 rfl rfl ?_
     iterate 5 refine Zz rfl rfl u3 rfl rfl ?_
     refine EL_skip (.off rfl rfl) rfl ?_
     refine EL_skip (.off rfl rfl) rfl ?_
     refine Zz rfl rfl u3 rfl rfl ?_
     refine Zx (.bool true) (Zl (b:=(o0 == (0:Int))) rfl (pick_t u3 rfl)) rfl ?_
     refine Zb ?_
     obtain rfl:=sinj h
     exact hQ _ _ ⟨cC,hfr,a9,n8,u9,y9,u2_1_90,z9,bA,u3_1_90,l8,rfl⟩
    ·refine Zy (.int .i64 (o0)) (Zk l8) rfl rfl u3 rfl ?_
     refine Zy (fPtr p1 2) (Zc at_25_2 a9 (PT.ptr n8)) rfl rfl u3 rfl ?_
     have yE:=Zm (part_Loom_2).1 n8
     refine Ze (.yes2 rfl rfl u3) rfl (D_load (g:=cC) Tryz.isAgg23 Tryz.sizeOf23 rfl yE fun xG zE=>?_)
     refine Zy (.int .i64 (((x0).Rows).length:Int)) (P_len Tryz.underlying23 rfl zE) rfl rfl u3 rfl ?_
     refine Zy (.bool ((decide (o0 < (((x0).Rows).length:Int))))) (P_int rfl rfl rfl) rfl rfl u3 rfl ?_
     refine Zy (.bool ((decide (o0 < (((x0).Rows).length:Int))))) (Zk rfl) rfl rfl u3 rfl ?_
     rcases Zt h with ⟨m7,h⟩ | ⟨m7,h⟩
     ·refine Zy (.int .i64 (o0)) (Zk l8) rfl rfl m7 rfl ?_
      refine Zy (.bool ((decide (o0 < (10:Int))))) (P_int rfl rfl rfl) rfl rfl m7 rfl ?_
      refine Zy (.bool ((decide (o0 < (10:Int))))) (Zl (b:=(decide (o0 < (((x0).Rows).length:Int)))) rfl (pick_t m7 rfl)) rfl rfl u3 rfl ?_
      refine Zx (.bool ((decide (o0 < (10:Int))))) (Zl (b:=(o0 == (0:Int))) rfl (pick_f u3 rfl)) rfl ?_
      refine Zb ?_
      obtain rfl:=sinj h
      exact hQ _ _ ⟨cC,hfr,a9,n8,u9,y9,u2_1_90,z9,bA,u3_1_90,l8,rfl⟩
     ·refine Zz rfl rfl m7 rfl rfl ?_
      refine Zz rfl rfl m7 rfl rfl ?_
      refine Zy (.bool false) (Zl (b:=(decide (o0 < (((x0).Rows).length:Int)))) rfl (pick_f m7 rfl)) rfl rfl u3 rfl ?_
      refine Zx (.bool false) (Zl (b:=(o0 == (0:Int))) rfl (pick_f u3 rfl)) rfl ?_
      refine Zb ?_
      obtain rfl:=sinj h
      exact hQ _ _ ⟨cC,hfr,a9,n8,u9,y9,u2_1_90,z9,bA,u3_1_90,l8,rfl⟩
   ·clear hx
    obtain ⟨rC,hfr,uC,vC,yA,aB,u2_1_110,dB,iB,u3_1_110,aD,l9⟩:=hR
    rcases Zt h with ⟨iA,h⟩ | ⟨iA,h⟩
    ·refine E_cond_true (Eq.trans (show ev _ _ = .bool (y6) from l9) (congrArg Value.bool iA)) ?_
     exact Zu (Zd (iE () _ _ ⟨rC,hfr,uC,vC,yA,aB,u2_1_110,dB,iB,u3_1_110,aD⟩ h))
    ·refine E_cond_false (Eq.trans (show ev _ _ = .bool (y6) from l9) (congrArg Value.bool iA)) ?_
     refine E_exit ?_
     refine thn_e ?_
     refine thn_e ?_
     refine blk_hit ?_
     obtain rfl:=sinj h
     exact hQ _ _ ⟨rC,hfr,yA,aB,u2_1_110,dB,iB,u3_1_110⟩
  ·rintro _ hG yG ⟨k9, hfr, r8, i7, lB, mB, u2_1_112, nB, oB, u3_1_112, v8⟩ h
   obtain ⟨k8,hx,h⟩:=Gb h
   refine E_join (fun e w=>∃ (g:Gh) ,Fr gI wI g w∧e 1=p1∧PT g.m w (x0:Loom) p1∧e 2=p2∧OB 2002 g w 31 ((⟨0,[]⟩:Design):Design) p2∧OSF 2002 60201 1 g w 3 31 (((⟨0,[]⟩:Design)).Rows) p2∧e 3=p7∧OB 2003 g w 31 (k8:Design) p7∧OSF 2003 60301 1 g w 3 31 ((k8).Rows) p7∧e 4=.int .i64 (o0)) (fun Q' hQ=>?_) (fun iG zG hR=>?_)
   ·replace h := hx
    clear hx
    refine Zr ?_
    refine Zf (Za (Zg (.int .i64 (21)) rfl rfl ?_))
    refine Zb (Zd ?_)
    obtain ⟨x6,hx,h⟩:=Gb h
    refine E_join (fun e w=>∃ (g:Gh) ,Fr gI wI g w∧e 1=p1∧PT g.m w (x0:Loom) p1∧e 2=p2∧OB 2002 g w 31 ((⟨0,[]⟩:Design):Design) p2∧OSF 2002 60201 1 g w 3 31 (((⟨0,[]⟩:Design)).Rows) p2∧e 3=p7∧OB 2003 g w 31 (t5:Design) p7∧OSF 2003 60301 1 g w 3 31 ((t5).Rows) p7∧e 4=.int .i64 (o0)∧e 5=.int .i64 (x6)) (fun Q' hQ=>?_) (fun jG aH hR=>?_)
    ·replace h := hx
     clear hx
     refine Zf (Za (Zo v8 rfl ?_))
     refine Zx (fPtr p1 2) (Zc at_25_2 r8 (PT.ptr i7)) rfl ?_
     have cF:=Zm (part_Loom_2).1 i7
     refine Ze .plain rfl (D_load (g:=k9) Tryz.isAgg23 Tryz.sizeOf23 rfl cF fun cH dF=>?_)
     refine Zx (.int .i64 (((x0).Rows).length:Int)) (P_len Tryz.underlying23 rfl dF) rfl ?_
     refine Zx (.bool ((decide (o0 < (((x0).Rows).length:Int))))) (P_int rfl rfl rfl) rfl ?_
     refine Zb (Zd ?_)
     rcases Zt h with ⟨rA,h⟩ | ⟨rA,h⟩
     ·refine E_ct rA rfl ?_
      refine Za (Zx (fPtr p1 2) (Zc at_25_2 r8 (PT.ptr i7)) rfl ?_)
      have eF:=Zm (part_Loom_2).1 i7
      refine Ze .plain rfl (D_load (g:=k9) Tryz.isAgg23 Tryz.sizeOf23 rfl eF fun rF bD=>?_)
      refine Zo v8 rfl ?_
      obtain ⟨n9,mC,h⟩:=Gb h
      refine Zx (ePtr rF o0 1) (Zh (α:=UInt16) Tryz.underlying23 Tryz.sizeOf59 rfl bD rfl mC) rfl ?_
      have sF:=PT_idx bD mC
      refine Ze .plain rfl (D_load (g:=k9) Tryz.isAgg59 Tryz.sizeOf59 rfl sF fun dH tF=>?_)
      obtain rfl:=RV_u16.1 tF
      refine Zx (.int .i64 (((n9).toNat:Int))) (P_u16int Tryz.underlying59 Tryz.underlying3 rfl) rfl ?_
      refine Zg (.int .i64 (((n9).toNat:Int))) rfl rfl ?_
      refine Zb ?_
      obtain rfl:=sinj h
      exact hQ _ _ ⟨k9,hfr,r8,i7,lB,mB,u2_1_112,nB,oB,u3_1_112,v8,rfl⟩
     ·refine E_cf rA rfl ?_
      refine Zu ?_
      obtain rfl:=sinj h
      exact hQ _ _ ⟨k9,hfr,r8,i7,lB,mB,u2_1_112,nB,oB,u3_1_112,v8,rfl⟩
    ·clear hx
     obtain ⟨yB,hfr,cD,x5,eD,i6,u2_1_156,x8,l5,u3_1_156,gD,iD⟩:=hR
     refine Za (Zx (fPtr p7 1) (Zc at_31_1 x8 (OB.ptr l5)) rfl ?_)
     refine Ze .plain rfl (D_loadFS (g:=yB) part_Design_1.1 Tryz.isAgg26 Tryz.sizeOf26 rfl l5 u3_1_156 fun gH zB o158=>?_)
     refine Zo iD rfl ?_
     refine Zx (fPtr p7 0) (Zc at_31_0 x8 (OB.ptr l5)) rfl ?_
     refine Ze .plain rfl (D_loadF (g:=yB) part_Design_0.1 Tryz.isAgg3 Tryz.sizeOf3 rfl l5 fun iH uF=>?_)
     obtain rfl:=Zj.1 uF
     refine Zx (.int .u64 (wu64 (t5).Hooks)) (P_intu64 Tryz.underlying3 Tryz.underlying60 rfl) rfl ?_
     obtain ⟨y161,lE,h⟩:=Gb h
     refine Zx (.int .i64 (y161)) (P_shlu rfl rfl lE) rfl ?_
     refine EL_in (.int .i64 ((w64 (y161 - (1:Int))))) rfl rfl rfl rfl ?_
     refine EL_in (.int .i64 ((bit64 .and x6 (w64 (y161 - (1:Int)))))) rfl rfl rfl rfl ?_
     refine Ze .plain rfl (D_buildSlice (g:=yB) 3047 (xs:=([(bit64 .and x6 (w64 (y161 - (1:Int))))]:List Int)) (vs:=[.int .i64 ((bit64 .and x6 (w64 (y161 - (1:Int)))))]) Tryz.underlying26 Tryz.sizeOf3 Tryz.zeroValue3 rfl rfl (.cons rfl .nil) (RVs.cons (Zj.2 rfl) RVs.nil) rfl rfl fun vF jH kH hs o162 xF hxt hfl=>?_)
     have hfr:=hfr.stp hs
     have x5:=x5.stp hs
     have u2_1_156:=u2_1_156.stp hs rfl
     have i6:=i6.stp hs rfl
     have l5:=l5.stp hs rfl
     have zB:=zB.stp hs
     have o158:=o158.stp hs rfl
     obtain ⟨vB,mE,h⟩:=Gb h
     refine Ze .plain rfl (D_append (g:=vF) (i:=60301) Tryz.underlying26 info_3 rfl rfl o158 zB rfl xF mE fun yF lH mH hs o163 jD _=>?_)
     have hfr:=hfr.stp hs
     have x5:=x5.stp hs
     have u2_1_156:=u2_1_156.stp hs rfl
     have i6:=i6.stp hs rfl
     have l5:=l5.stp hs rfl
     refine Zx (fPtr p7 1) (Zc at_31_1 x8 (OB.ptr l5)) rfl ?_
     refine Ze .plain rfl (D_storeFc (g:=yF) part_Design_1 Tryz.sizeOf26 rfl l5 rfl jD fun zF nH hs b166 rst hos=>?_)
     have lD:=hos _ _ 60301 3 (vB:List Int) (rv_cells1 jD) rfl o163
     clear rst hos
     have hfr:=hfr.stp hs
     have x5:=x5.stp hs
     have u2_1_156:=u2_1_156.stp hs rfl
     have i6:=i6.stp hs rfl
     refine Zb (blk_n ?_)
     obtain rfl:=sinj h
     exact hQ _ _ ⟨zF,hfr,cD,x5,eD,i6,u2_1_156,x8,b166,lD,gD⟩
   ·clear hx
    obtain ⟨aG,hfr,nD,oD,sD,tD,u2_1_167,uD,vD,u3_1_167,xD⟩:=hR
    refine Za (Zo xD rfl ?_)
    refine EL_in (.int .i64 ((w64 (o0 + (1:Int))))) rfl rfl rfl rfl ?_
    refine Zg (.int .i64 ((w64 (o0 + (1:Int))))) rfl rfl ?_
    exact Zb (Zd (xE (k8,(w64 (o0 + (1:Int)))) _ _ ⟨aG,hfr,nD,oD,sD,tD,u2_1_167,uD,vD,u3_1_167,rfl⟩ h))
 ·clear hx
  obtain ⟨yD,hfr,tB,zD,u2_1_168,aE,bE,u3_1_168⟩:=hR
  refine Zf (Za (Ze .plain rfl (D_loadO (g:=yD) Tryz.isAgg31 Tryz.sizeOf31 aE bE fun bG cG=>?_)))
  refine Ze .plain rfl (D_storeOc (g:=yD) (v:=bG) Tryz.sizeOf31 tB zD rfl cG fun oH pH hs b170 cb=>?_)
  clear cb
  have hfr:=hfr.stp hs
  refine Zb (Zd (E_ret ?_))
  obtain rfl:=sinj h
  obtain ⟨ad171,cv171,hp171,oE,cr171⟩:=ob_read Tryz.isAgg31 Tryz.sizeOf31 b170
  exact endm_c rfl rfl ((show _=p2 from tB).trans hp171) oE ⟨_,hfr,cr171⟩
def f10 (x0:List UInt8) (x1:Int):Option (Int):=
 jn (σ:=Unit) (fun _=>
  (rem64 x1 ((x0).length:Int)).bind fun y5=>
  (idx x0 y5).bind fun y6=>
  some (((y6).toNat:Int))
  ) fun k2=>
 bif (((x0).length : Int) == (0 : Int)) then
  some ((0:Int))
 else
  k2 ()
theorem en10:Enters Tryz.prog 10:=enters_of Tryz.func10 (by kernel_rfl) rfl
theorem wk10 {gI:Gh} {wI:World} {x0:List UInt8} {x1:Int} {up0:Value} (rp0:RV gI.m wI x0 up0) {r:Int} (h:f10 x0 x1=some r):Fn Tryz.prog 10 #[up0,.int .i64 (x1)] gI wI (fun _ _ v=>v=.int .i64 (r)):=by
 unfold f10 at h
 refine fn_of_E Tryz.func10 rfl (Nat.le_of_ble_eq_true rfl) fun g0 hm hfr=>?_
 have rp0:RV g0.m wI x0 up0:=hm ▸ rp0
 show E _ 16 none _ _ _ _ _
 refine Zf (Za (Zg (.int .i64 (0)) rfl rfl ?_))
 refine Zb (Zd (Zq h (fun (s:Unit) e w=>∃ (g:Gh) ,Fr gI wI g w∧e 0=up0∧RV g.m w (x0:List UInt8) up0∧e 1=.int .i64 (x1)) (fun X2 k2 hk2 h=>?_) ?_))
 ·refine Zf (Za (Zn up0 rfl rfl ?_))
  refine Zx (.int .i64 ((x0).length:Int)) (P_len Tryz.underlying22 rfl rp0) rfl ?_
  refine EL_in (.bool ((((x0).length:Int) == (0:Int)))) rfl rfl rfl rfl ?_
  refine Zb (Zd ?_)
  rcases Zt h with ⟨hc3,h⟩ | ⟨hc3,h⟩
  ·refine E_ct hc3 rfl ?_
   refine Zf (Za (Zg (.int .i64 (0)) rfl rfl ?_))
   refine Zb (Zd (E_ret (thn_r ?_)))
   obtain rfl:=sinj h
   exact end1 rfl rfl (show _=.int .i64 (0) from rfl) ⟨_,hfr,rfl⟩
  ·refine E_cf hc3 rfl ?_
   exact Zu (Zd (hk2 () _ _ ⟨g0,hfr,rfl,rp0,rfl⟩ h))
 ·rintro _ x5 w4 ⟨g4, hfr, u3, o0, t5⟩ h
  refine Zf (Za (Zo u3 rfl ?_))
  refine Zo t5 rfl ?_
  refine Zo u3 rfl ?_
  refine Zx (.int .i64 ((x0).length:Int)) (P_len Tryz.underlying22 rfl o0) rfl ?_
  obtain ⟨y5,hy5,h⟩:=Gb h
  refine Zx (.int .i64 (y5)) (P_int rfl rfl (congrArg (Option.map (Value.int .i64)) hy5)) rfl ?_
  obtain ⟨y6,l5,h⟩:=Gb h
  refine Zx (ePtr up0 y5 1) (Zh (α:=UInt8) Tryz.underlying22 Tryz.sizeOf5 rfl o0 rfl l5) rfl ?_
  have q7:=PT_idx o0 l5
  refine Ze .plain rfl (D_load (g:=g4) Tryz.isAgg5 Tryz.sizeOf5 rfl q7 fun v8 r8=>?_)
  obtain rfl:=RV_u8.1 r8
  refine Zx (.int .i64 (((y6).toNat:Int))) (P_u8int Tryz.underlying5 Tryz.underlying3 rfl) rfl ?_
  refine Zg (.int .i64 (((y6).toNat:Int))) rfl rfl ?_
  refine Zb (Zd (E_ret ?_))
  obtain rfl:=sinj h
  exact end1 rfl rfl (show _=.int .i64 (((y6).toNat:Int)) from rfl) ⟨_,hfr,rfl⟩
def f12 (x0:ChainBelt):Option (ChainBelt):=
 (apnd 24 (([]:List ChainCard)) ((x0).Cards)).bind fun y9=>
 some ((⟨(x0).Hooks,y9⟩:ChainBelt))
theorem en12:Enters Tryz.prog 12:=enters_of Tryz.func12 (by kernel_rfl) rfl
theorem wk12 {gI:Gh} {wI:World} {x0:ChainBelt} {up0:Value} (rp0:RV gI.m wI x0 up0) {r:ChainBelt} (h:f12 x0=some r):Fn Tryz.prog 12 #[up0] gI wI (fun m w v=>RV m w (r) v):=by
 unfold f12 at h
 refine fn_of_E Tryz.func12 rfl (Nat.le_of_ble_eq_true rfl) fun g0 hm hfr=>?_
 have rp0:RV g0.m wI x0 up0:=hm ▸ rp0
 show E _ 10 none _ _ _ _ _
 refine Zf (Za (Ze .plain rfl (D_box (g:=g0) rfl rp0 fun g1 w1 p1 hs q1=>?_)))
 have hfr:=hfr.ext hs
 refine Ze .plain rfl (D_allocOc (g:=g1) 2002 (⟨0,[]⟩:ChainBelt) Tryz.zeroValue36 (fun m w=>⟨_,(rep_two Zw rep_nil),rfl⟩) fun g2 w2 p2 hs b2 cb=>?_)
 have hfr:=hfr.stp hs
 have q1:=q1.stp hs
 have n8:OSF 2002 60201 1 g2 w2 62 36 ([]:List ChainCard) p2:=cb.osf (by rfl)
 clear cb
 refine Zb (Zd (Zf ?_))
 have q3:=Zm (part_ChainBelt_0).1 q1
 refine Zs (x:=.tmp 3) Tryz.isAgg3 Tryz.sizeOf3 q3 fun v4 r4 y6=>?_
 obtain rfl:=Zj.1 r4
 have q6:=Zm (part_ChainBelt_1).1 q1
 refine Zs (x:=.tmp 6) Tryz.isAgg34 Tryz.sizeOf34 q6 fun v7 r7 hl7=>?_
 obtain ⟨y9,i7,h⟩:=Gb h
 refine E_drawL (g:=g2) (n:=6) [(2,(fun v g w=>RV g.m w ([]:List ChainCard) v∧OS 3005 g w 62 ([]:List ChainCard) v∧FullV v)),(5,(fun v g w=>RV g.m w y9 v∧OS 3005 g w 62 y9 v))] [0,1,2,3,4,5] rfl mixed (by kernel_rfl) (⟨fun _=>up_and up_rv (up_and up_os (up_eq _)),fun _=>up_and up_rv up_os,trivial⟩) ?_
 refine Ga (fPtr p1 0) rfl rfl (Zc at_36_0 rfl (PT.ptr q1)) ?_
 refine L_ld (c:=.int .i64 ((x0).Hooks)) rfl rfl .plain (fun _ _ h=>h.ch) y6 rfl ?_
 refine L_do (φ:=fun v g w=>RV g.m w ([]:List ChainCard) v∧OS 3005 g w 62 ([]:List ChainCard) v∧FullV v) rfl rfl .plain (fun g w hd=>D_buildSlice (g:=g) 3005 (xs:=([]:List ChainCard)) (vs:=[]) Tryz.underlying34 Tryz.sizeOf62 Tryz.zeroValue62 rfl rfl .nil RVs.nil rfl rfl fun g' w' v hs o r hxt hfl=>⟨g',hxt,r,o,hfl⟩) (fun v5 hv=>?_)
 clear hv
 refine Ga (fPtr p1 1) rfl rfl (Zc at_36_1 rfl (PT.ptr q1)) ?_
 refine L_ld (c:=v7) rfl rfl .plain (fun _ _ h=>h.ch) hl7 rfl ?_
 refine L_do (φ:=fun v g w=>RV g.m w y9 v∧OS 3005 g w 62 y9 v) rfl rfl .plain (fun g w hd=>D_append (g:=g) (i:=3005) Tryz.underlying34 info_62 rfl rfl (word (A:=fun g w=>RV g.m w ([]:List ChainCard) v5∧OS 3005 g w 62 ([]:List ChainCard) v5∧FullV v5) 2 rfl rfl (deps_of hd)).2.1 (word (A:=fun g w=>RV g.m w ([]:List ChainCard) v5∧OS 3005 g w 62 ([]:List ChainCard) v5∧FullV v5) 2 rfl rfl (deps_of hd)).1 rfl (r7.ext hd.1) i7 fun g' w' v hs o r hf=>⟨g',hf (word (A:=fun g w=>RV g.m w ([]:List ChainCard) v5∧OS 3005 g w 62 ([]:List ChainCard) v5∧FullV v5) 2 rfl rfl (deps_of hd)).2.2,r,o⟩) (fun v8 hv=>?_)
 clear hv
 refine L_nil fun t5 r8 hall=>?_
 have hs:=hall.1
 have hfr:=hfr.ext hs
 have b2:=b2.ext hs
 have x8:=(word_all (A:=fun g w=>RV g.m w ([]:List ChainCard) v5∧OS 3005 g w 62 ([]:List ChainCard) v5∧FullV v5) 2 rfl hall).1
 have o16:=(word_all (A:=fun g w=>RV g.m w ([]:List ChainCard) v5∧OS 3005 g w 62 ([]:List ChainCard) v5∧FullV v5) 2 rfl hall).2.1
 have u3:=(word_all (A:=fun g w=>RV g.m w y9 v8∧OS 3005 g w 62 y9 v8) 5 rfl hall).1
 have o19:=(word_all (A:=fun g w=>RV g.m w y9 v8∧OS 3005 g w 62 y9 v8) 5 rfl hall).2
 clear hs hall
 have x5:RV t5.m _ (⟨(x0).Hooks,y9⟩:ChainBelt) (.agg (setCh [[.int .i64 0],[.slice none 0 0]] [(0,.int .i64 ((x0).Hooks)),(1,v8)]).flatten.toArray):=RV_build rfl (rep_pair (rfl) (rep_last (RV.cells u3)))
 generalize l5:(Value.agg (setCh [[.int .i64 0],[.slice none 0 0]] [(0,.int .i64 ((x0).Hooks)),(1,v8)]).flatten.toArray)=i6 at x5
 refine Zx i6 (l5 ▸ P_build (vs:=[(0,.int .i64 ((x0).Hooks)),(1,v8)]) [[.int .i64 0],[.slice none 0 0]] lay_36 rfl rfl (.cons rfl (.cons rfl .nil)) ⟨⟨_,rfl,rfl⟩,⟨⟨_,rfl,cells_size u3⟩,trivial⟩⟩) rfl ?_
 refine Ze .plain rfl (D_storeOc (g:=t5) (v:=i6) Tryz.sizeOf36 rfl b2 rfl x5 fun m7 g8 hs b21 cb=>?_)
 obtain ⟨k8,l8,o0,_,_⟩:=RV_list u3
 have m8:OSF 2002 3005 1 m7 g8 62 36 (y9:List ChainCard) p2:=cb.osfv (by rw [← l5,o0]; rfl) (o19.stp hs rfl)
 clear cb
 have hfr:=hfr.stp hs
 refine Zb (Zd (E_ret ?_))
 obtain rfl:=sinj h
 obtain ⟨ad22,cv22,hp22,x6,cr22⟩:=ob_read Tryz.isAgg36 Tryz.sizeOf36 b21
 exact endm_c rfl rfl ((show _=p2 from rfl).trans hp22) x6 ⟨_,hfr,cr22⟩
def f13 (x0:List Int):Option ((List Int)):=
 (apnd 8 (([]:List Int)) x0).bind fun y3=>
 some (y3)
theorem en13:Enters Tryz.prog 13:=enters_of Tryz.func13 (by kernel_rfl) rfl
theorem wk13 {gI:Gh} {wI:World} {x0:List Int} {up0:Value} (rp0:RV gI.m wI x0 up0) {r:(List Int)} (h:f13 x0=some r):Fn Tryz.prog 13 #[up0] gI wI (fun m w v=>RV m w (r) v):=by
 unfold f13 at h
 refine fn_of_E Tryz.func13 rfl (Nat.le_of_ble_eq_true rfl) fun g0 hm hfr=>?_
 have rp0:RV g0.m wI x0 up0:=hm ▸ rp0
 show E _ 6 none _ _ _ _ _
 refine Zf (Za (Zg (.slice none 0 0) rfl rfl ?_))
 refine Zb (Zd (Zf (Za (Ze .plain rfl (D_buildSlice (g:=g0) 3003 (xs:=([]:List Int)) (vs:=[]) Tryz.underlying26 Tryz.sizeOf3 Tryz.zeroValue3 rfl rfl .nil RVs.nil rfl rfl fun g1 w1 v1 hs o1 r1 hxt hfl=>?_)))))
 have hfr:=hfr.stp hs
 have rp0:=rp0.stp hs
 refine Zn up0 rfl rfl ?_
 obtain ⟨y3,hy3,h⟩:=Gb h
 refine Ze .plain rfl (D_append (g:=g1) (i:=3003) Tryz.underlying26 info_3 rfl rfl o1 r1 rfl rp0 hy3 fun g2 w2 v2 hs o2 r2 _=>?_)
 have hfr:=hfr.stp hs
 refine Zg v2 rfl rfl ?_
 refine Zb (Zd (E_ret ?_))
 obtain rfl:=sinj h
 exact end1 rfl rfl (show _=v2 from rfl) ⟨_,hfr,r2⟩
def f15 (x0:TieHarness):Option (TieHarness):=
 (f13 ((x0).Warps)).bind fun y8=>
 some ((⟨(x0).Hooks,y8⟩:TieHarness))
theorem en15:Enters Tryz.prog 15:=enters_of Tryz.func15 (by kernel_rfl) rfl
def f17 (x0:List Str):Option ((List Str)):=
 (apnd 16 (([]:List Str)) x0).bind fun y3=>
 some (y3)
theorem en17:Enters Tryz.prog 17:=enters_of Tryz.func17 (by kernel_rfl) rfl
theorem wk17 {gI:Gh} {wI:World} {x0:List Str} {up0:Value} (rp0:RV gI.m wI x0 up0) {r:(List Str)} (h:f17 x0=some r):Fn Tryz.prog 17 #[up0] gI wI (fun m w v=>RV m w (r) v):=by
 unfold f17 at h
 refine fn_of_E Tryz.func17 rfl (Nat.le_of_ble_eq_true rfl) fun g0 hm hfr=>?_
 have rp0:RV g0.m wI x0 up0:=hm ▸ rp0
 show E _ 6 none _ _ _ _ _
 refine Zf (Za (Zg (.slice none 0 0) rfl rfl ?_))
 refine Zb (Zd (Zf (Za (Ze .plain rfl (D_buildSlice (g:=g0) 3003 (xs:=([]:List Str)) (vs:=[]) Tryz.underlying47 Tryz.sizeOf9 Tryz.zeroValue9 rfl rfl .nil RVs.nil rfl rfl fun g1 w1 v1 hs o1 r1 hxt hfl=>?_)))))
 have hfr:=hfr.stp hs
 have rp0:=rp0.stp hs
 refine Zn up0 rfl rfl ?_
 obtain ⟨y3,hy3,h⟩:=Gb h
 refine Ze .plain rfl (D_append (g:=g1) (i:=3003) Tryz.underlying47 info_9 rfl rfl o1 r1 rfl rp0 hy3 fun g2 w2 v2 hs o2 r2 _=>?_)
 have hfr:=hfr.stp hs
 refine Zg v2 rfl rfl ?_
 refine Zb (Zd (E_ret ?_))
 obtain rfl:=sinj h
 exact end1 rfl rfl (show _=v2 from rfl) ⟨_,hfr,r2⟩
def f18 (x0:List Int) (x1:List Int):Option (Bool):=
 jn (σ:=Unit) (fun _=>
  jn (σ:=Unit) (fun _=>
   some (true)
   ) fun k53=>
  lp (σ:=Int) (fun k54 o0=>
   jn (σ:=Unit) (fun _=>
    jn (σ:=Unit) (fun _=>
     k54 ((w64 (o0 + (1:Int))))
     ) fun n9=>
    (idx x0 o0).bind fun x6=>
    (idx x1 o0).bind fun y6=>
    bif (x6 != y6) then
     some (false)
    else
     n9 ()
    ) fun k57=>
   bif (decide (o0 < ((x0).length : Int))) then
    k57 ()
   else
    k53 ()
   ) big ((0:Int))
  ) fun k2=>
 bif (((x0).length : Int) != ((x1).length : Int)) then
  some (false)
 else
  k2 ()
theorem en18:Enters Tryz.prog 18:=enters_of Tryz.func18 (by kernel_rfl) rfl
theorem wk18 {gI:Gh} {wI:World} {x0:List Int} {x1:List Int} {up0:Value} (rp0:RV gI.m wI x0 up0) {up1:Value} (rp1:RV gI.m wI x1 up1) {r:Bool} (h:f18 x0 x1=some r):Fn Tryz.prog 18 #[up0,up1] gI wI (fun _ _ v=>v=.bool (r)):=by
 unfold f18 at h
 refine fn_of_E Tryz.func18 rfl (Nat.le_of_ble_eq_true rfl) fun g0 hm hfr=>?_
 have rp0:RV g0.m wI x0 up0:=hm ▸ rp0
 have rp1:RV g0.m wI x1 up1:=hm ▸ rp1
 show E _ 26 none _ _ _ _ _
 refine Zf (Za (Zg (.bool false) rfl rfl ?_))
 refine Zb (Zd (Zq h (fun (s:Unit) e w=>∃ (g:Gh) ,Fr gI wI g w∧e 0=up0∧RV g.m w (x0:List Int) up0∧e 1=up1∧RV g.m w (x1:List Int) up1) (fun X2 k2 hk2 h=>?_) ?_))
 ·refine Zf (Za (Zn up0 rfl rfl ?_))
  refine Zx (.int .i64 ((x0).length:Int)) (P_len Tryz.underlying26 rfl rp0) rfl ?_
  refine Zn up1 rfl rfl ?_
  refine Zx (.int .i64 ((x1).length:Int)) (P_len Tryz.underlying26 rfl rp1) rfl ?_
  refine EL_in (.bool ((((x0).length:Int) != ((x1).length:Int)))) rfl rfl rfl rfl ?_
  refine Zb (Zd ?_)
  rcases Zt h with ⟨hc3,h⟩ | ⟨hc3,h⟩
  ·refine E_ct hc3 rfl ?_
   refine Zf (Za (Zg (.bool false) rfl rfl ?_))
   refine Zb (Zd (E_ret (thn_r ?_)))
   obtain rfl:=sinj h
   exact end1 rfl rfl (show _=.bool false from rfl) ⟨_,hfr,rfl⟩
  ·refine E_cf hc3 rfl ?_
   exact Zu (Zd (hk2 () _ _ ⟨g0,hfr,rfl,rp0,rfl,rp1⟩ h))
 ·rintro _ bD w4 ⟨g4, hfr, y9, z9, bA, iA⟩ h
  refine Zq h (fun (s:Unit) e w=>∃ (g:Gh) ,Fr gI wI g w) (fun X53 k53 rA h=>?_) ?_
  ·refine Zf (Za (Zg (.int .i64 (0)) rfl rfl ?_))
   refine Zb (Zd (Zr ?_))
   refine E_lp h (fun (s:Int) e w=>∃ (g:Gh) ,Fr gI wI g w∧e 0=up0∧RV g.m w (x0:List Int) up0∧e 1=up1∧RV g.m w (x1:List Int) up1∧e 5=.int .i64 (s)) ⟨g4,hfr,y9,z9,bA,iA,rfl⟩ (fun X54 k54 yA=>?_)
   rintro o0 qC cD ⟨u9,hfr,i7,m7,k9,l9,g8⟩ h
   refine Zq h (fun (s:Unit) e w=>∃ (g:Gh) ,Fr gI wI g w∧e 0=up0∧RV g.m w (x0:List Int) up0∧e 1=up1∧RV g.m w (x1:List Int) up1∧e 5=.int .i64 (o0)) (fun X57 k57 aB h=>?_) ?_
   ·refine Zf (Za (Zo g8 rfl ?_))
    refine Zo i7 rfl ?_
    refine Zx (.int .i64 ((x0).length:Int)) (P_len Tryz.underlying26 rfl m7) rfl ?_
    refine EL_in (.bool ((decide (o0 < ((x0).length:Int))))) rfl rfl rfl rfl ?_
    refine Zb (Zd ?_)
    rcases Zt h with ⟨i6,h⟩ | ⟨i6,h⟩
    ·refine E_ct i6 rfl ?_
     exact Zu (Zd (aB () _ _ ⟨u9,hfr,i7,m7,k9,l9,g8⟩ h))
    ·refine E_cf i6 rfl ?_
     refine E_exit ?_
     refine thn_e ?_
     refine thn_e ?_
     refine blk_hit ?_
     exact Zd (rA () _ _ ⟨u9,hfr⟩ h)
   ·rintro _ rC eD ⟨nB, hfr, k8, u3, l8, l5, t5⟩ h
    refine Zq h (fun (s:Unit) e w=>∃ (g:Gh) ,Fr gI wI g w∧e 0=up0∧RV g.m w (x0:List Int) up0∧e 1=up1∧RV g.m w (x1:List Int) up1∧e 5=.int .i64 (o0)) (fun X81 n9 dB h=>?_) ?_
    ·refine Zr ?_
     refine Zf ?_
     obtain ⟨x6,m8,h⟩:=Gb h
     have oB:=PT_idx u3 m8
     refine Zs (x:=.tmp 19) Tryz.isAgg3 Tryz.sizeOf3 oB fun gD tB iB=>?_
     obtain rfl:=Zj.1 tB
     obtain ⟨y6,n8,h⟩:=Gb h
     have vB:=PT_idx l5 n8
     refine Zs (x:=.tmp 23) Tryz.isAgg3 Tryz.sizeOf3 vB fun iD yB lB=>?_
     obtain rfl:=Zj.1 yB
     refine E_drawL (g:=nB) (n:=9) [] [0,1,2,3,4,5,6,7,8] rfl mixed (by kernel_rfl) trivial ?_
     refine Ga up0 rfl rfl (Zk k8) ?_
     refine Ga (.int .i64 (o0)) rfl rfl (Zk t5) ?_
     refine Ga (ePtr up0 o0 1) rfl rfl (Zh (α:=Int) Tryz.underlying26 Tryz.sizeOf3 rfl u3 rfl m8) ?_
     refine L_ld (c:=.int .i64 (x6)) rfl rfl .plain (fun _ _ h=>h.ch) iB rfl ?_
     refine Ga up1 rfl rfl (Zk l8) ?_
     refine Ga (.int .i64 (o0)) rfl rfl (Zk t5) ?_
     refine Ga (ePtr up1 o0 1) rfl rfl (Zh (α:=Int) Tryz.underlying26 Tryz.sizeOf3 rfl l5 rfl n8) ?_
     refine L_ld (c:=.int .i64 (y6)) rfl rfl .plain (fun _ _ h=>h.ch) lB rfl ?_
     refine Ga (.bool ((x6 != y6))) rfl rfl (P_int rfl rfl rfl) ?_
     refine L_nl fun zB jD hs=>?_
     have hfr:=hfr.ext hs
     have u3:=u3.ext hs
     have l5:=l5.ext hs
     clear hs
     refine Zb (Zd ?_)
     rcases Zt h with ⟨x5,h⟩ | ⟨x5,h⟩
     ·refine E_ct x5 rfl ?_
      refine Zf (Za (Zg (.bool false) rfl rfl ?_))
      refine Zb (Zd (E_ret (blk_r ?_)))
      refine thn_r ?_
      refine thn_r ?_
      refine blk_r ?_
      refine thn_r ?_
      obtain rfl:=sinj h
      exact end1 rfl rfl (show _=.bool false from rfl) ⟨_,hfr,rfl⟩
     ·refine E_cf x5 rfl ?_
      exact Zu (blk_n (Zd (dB () _ _ ⟨zB,hfr,k8,u3,l8,l5,t5⟩ h)))
    ·rintro _ cC uC ⟨mB, hfr, r8, v8, x8, a9, d9⟩ h
     refine Za (Zo d9 rfl ?_)
     refine EL_in (.int .i64 ((w64 (o0 + (1:Int))))) rfl rfl rfl rfl ?_
     refine Zg (.int .i64 ((w64 (o0 + (1:Int))))) rfl rfl ?_
     exact Zb (Zd (yA ((w64 (o0 + (1:Int)))) _ _ ⟨mB,hfr,r8,v8,x8,a9,rfl⟩ h))
  ·rintro _ mC vC ⟨aD, hfr⟩ h
   refine Zf (Za (Zg (.bool true) rfl rfl ?_))
   refine Zb (Zd (E_ret ?_))
   obtain rfl:=sinj h
   exact end1 rfl rfl (show _=.bool true from rfl) ⟨_,hfr,rfl⟩
def f20 (x0:List Str) (x1:List Str):Option (Bool):=
 jn (σ:=Unit) (fun _=>
  jn (σ:=Unit) (fun _=>
   some (true)
   ) fun k53=>
  lp (σ:=Int) (fun k54 o0=>
   jn (σ:=Unit) (fun _=>
    jn (σ:=Unit) (fun _=>
     k54 ((w64 (o0 + (1:Int))))
     ) fun n9=>
    (idx x0 o0).bind fun x6=>
    (idx x1 o0).bind fun y6=>
    bif (!((x6).b == (y6).b)) then
     some (false)
    else
     n9 ()
    ) fun k57=>
   bif (decide (o0 < ((x0).length : Int))) then
    k57 ()
   else
    k53 ()
   ) big ((0:Int))
  ) fun k2=>
 bif (((x0).length : Int) != ((x1).length : Int)) then
  some (false)
 else
  k2 ()
theorem en20:Enters Tryz.prog 20:=enters_of Tryz.func20 (by kernel_rfl) rfl
theorem wk20 {gI:Gh} {wI:World} {x0:List Str} {x1:List Str} {up0:Value} (rp0:RV gI.m wI x0 up0) {up1:Value} (rp1:RV gI.m wI x1 up1) {r:Bool} (h:f20 x0 x1=some r):Fn Tryz.prog 20 #[up0,up1] gI wI (fun _ _ v=>v=.bool (r)):=by
 unfold f20 at h
 refine fn_of_E Tryz.func20 rfl (Nat.le_of_ble_eq_true rfl) fun g0 hm hfr=>?_
 have rp0:RV g0.m wI x0 up0:=hm ▸ rp0
 have rp1:RV g0.m wI x1 up1:=hm ▸ rp1
 show E _ 26 none _ _ _ _ _
 refine Zf (Za (Zg (.bool false) rfl rfl ?_))
 refine Zb (Zd (Zq h (fun (s:Unit) e w=>∃ (g:Gh) ,Fr gI wI g w∧e 0=up0∧RV g.m w (x0:List Str) up0∧e 1=up1∧RV g.m w (x1:List Str) up1) (fun X2 k2 hk2 h=>?_) ?_))
 ·refine Zf (Za (Zn up0 rfl rfl ?_))
  refine Zx (.int .i64 ((x0).length:Int)) (P_len Tryz.underlying47 rfl rp0) rfl ?_
  refine Zn up1 rfl rfl ?_
  refine Zx (.int .i64 ((x1).length:Int)) (P_len Tryz.underlying47 rfl rp1) rfl ?_
  refine EL_in (.bool ((((x0).length:Int) != ((x1).length:Int)))) rfl rfl rfl rfl ?_
  refine Zb (Zd ?_)
  rcases Zt h with ⟨hc3,h⟩ | ⟨hc3,h⟩
  ·refine E_ct hc3 rfl ?_
   refine Zf (Za (Zg (.bool false) rfl rfl ?_))
   refine Zb (Zd (E_ret (thn_r ?_)))
   obtain rfl:=sinj h
   exact end1 rfl rfl (show _=.bool false from rfl) ⟨_,hfr,rfl⟩
  ·refine E_cf hc3 rfl ?_
   exact Zu (Zd (hk2 () _ _ ⟨g0,hfr,rfl,rp0,rfl,rp1⟩ h))
 ·rintro _ bD w4 ⟨g4, hfr, y9, z9, bA, iA⟩ h
  refine Zq h (fun (s:Unit) e w=>∃ (g:Gh) ,Fr gI wI g w) (fun X53 k53 rA h=>?_) ?_
  ·refine Zf (Za (Zg (.int .i64 (0)) rfl rfl ?_))
   refine Zb (Zd (Zr ?_))
   refine E_lp h (fun (s:Int) e w=>∃ (g:Gh) ,Fr gI wI g w∧e 0=up0∧RV g.m w (x0:List Str) up0∧e 1=up1∧RV g.m w (x1:List Str) up1∧e 5=.int .i64 (s)) ⟨g4,hfr,y9,z9,bA,iA,rfl⟩ (fun X54 k54 yA=>?_)
   rintro o0 qC cD ⟨u9,hfr,i7,m7,k9,l9,g8⟩ h
   refine Zq h (fun (s:Unit) e w=>∃ (g:Gh) ,Fr gI wI g w∧e 0=up0∧RV g.m w (x0:List Str) up0∧e 1=up1∧RV g.m w (x1:List Str) up1∧e 5=.int .i64 (o0)) (fun X57 k57 aB h=>?_) ?_
   ·refine Zf (Za (Zo g8 rfl ?_))
    refine Zo i7 rfl ?_
    refine Zx (.int .i64 ((x0).length:Int)) (P_len Tryz.underlying47 rfl m7) rfl ?_
    refine EL_in (.bool ((decide (o0 < ((x0).length:Int))))) rfl rfl rfl rfl ?_
    refine Zb (Zd ?_)
    rcases Zt h with ⟨i6,h⟩ | ⟨i6,h⟩
    ·refine E_ct i6 rfl ?_
     exact Zu (Zd (aB () _ _ ⟨u9,hfr,i7,m7,k9,l9,g8⟩ h))
    ·refine E_cf i6 rfl ?_
     refine E_exit ?_
     refine thn_e ?_
     refine thn_e ?_
     refine blk_hit ?_
     exact Zd (rA () _ _ ⟨u9,hfr⟩ h)
   ·rintro _ rC eD ⟨nB, hfr, k8, u3, l8, l5, t5⟩ h
    refine Zq h (fun (s:Unit) e w=>∃ (g:Gh) ,Fr gI wI g w∧e 0=up0∧RV g.m w (x0:List Str) up0∧e 1=up1∧RV g.m w (x1:List Str) up1∧e 5=.int .i64 (o0)) (fun X81 n9 dB h=>?_) ?_
    ·refine Zr ?_
     refine Zf ?_
     obtain ⟨x6,m8,h⟩:=Gb h
     have oB:=PT_idx u3 m8
     refine Zs (x:=.tmp 19) Tryz.isAgg9 Tryz.sizeOf9 oB fun gD tB iB=>?_
     obtain rfl:=RV_str.1 tB
     obtain ⟨y6,n8,h⟩:=Gb h
     have vB:=PT_idx l5 n8
     refine Zs (x:=.tmp 23) Tryz.isAgg9 Tryz.sizeOf9 vB fun iD yB lB=>?_
     obtain rfl:=RV_str.1 yB
     refine E_drawL (g:=nB) (n:=9) [] [0,1,2,3,4,5,6,7,8] rfl mixed (by kernel_rfl) trivial ?_
     refine Ga up0 rfl rfl (Zk k8) ?_
     refine Ga (.int .i64 (o0)) rfl rfl (Zk t5) ?_
     refine Ga (ePtr up0 o0 1) rfl rfl (Zh (α:=Str) Tryz.underlying47 Tryz.sizeOf9 rfl u3 rfl m8) ?_
     refine L_ld (c:=Str.v (x6)) rfl rfl .plain (fun _ _ h=>h.ch) iB rfl ?_
     refine Ga up1 rfl rfl (Zk l8) ?_
     refine Ga (.int .i64 (o0)) rfl rfl (Zk t5) ?_
     refine Ga (ePtr up1 o0 1) rfl rfl (Zh (α:=Str) Tryz.underlying47 Tryz.sizeOf9 rfl l5 rfl n8) ?_
     refine L_ld (c:=Str.v (y6)) rfl rfl .plain (fun _ _ h=>h.ch) lB rfl ?_
     refine Ga (.bool ((!((x6).b == (y6).b)))) rfl rfl (P_str rfl rfl rfl) ?_
     refine L_nl fun zB jD hs=>?_
     have hfr:=hfr.ext hs
     have u3:=u3.ext hs
     have l5:=l5.ext hs
     clear hs
     refine Zb (Zd ?_)
     rcases Zt h with ⟨x5,h⟩ | ⟨x5,h⟩
     ·refine E_ct x5 rfl ?_
      refine Zf (Za (Zg (.bool false) rfl rfl ?_))
      refine Zb (Zd (E_ret (blk_r ?_)))
      refine thn_r ?_
      refine thn_r ?_
      refine blk_r ?_
      refine thn_r ?_
      obtain rfl:=sinj h
      exact end1 rfl rfl (show _=.bool false from rfl) ⟨_,hfr,rfl⟩
     ·refine E_cf x5 rfl ?_
      exact Zu (blk_n (Zd (dB () _ _ ⟨zB,hfr,k8,u3,l8,l5,t5⟩ h)))
    ·rintro _ cC uC ⟨mB, hfr, r8, v8, x8, a9, d9⟩ h
     refine Za (Zo d9 rfl ?_)
     refine EL_in (.int .i64 ((w64 (o0 + (1:Int))))) rfl rfl rfl rfl ?_
     refine Zg (.int .i64 ((w64 (o0 + (1:Int))))) rfl rfl ?_
     exact Zb (Zd (yA ((w64 (o0 + (1:Int)))) _ _ ⟨mB,hfr,r8,v8,x8,a9,rfl⟩ h))
  ·rintro _ mC vC ⟨aD, hfr⟩ h
   refine Zf (Za (Zg (.bool true) rfl rfl ?_))
   refine Zb (Zd (E_ret ?_))
   obtain rfl:=sinj h
   exact end1 rfl rfl (show _=.bool true from rfl) ⟨_,hfr,rfl⟩
def f28 (x0:ChainChainBelt) (x1:Int) (x2:Int):Option (Int):=
 (rem64 (w64 (x1 + x2)) ((((x0).ChainBelt).Cards).length:Int)).bind fun y5=>
 some (y5)
theorem en28:Enters Tryz.prog 28:=enters_of Tryz.func28 (by kernel_rfl) rfl
theorem wk28 {gI:Gh} {wI:World} {x0:ChainChainBelt} {x1:Int} {x2:Int} {up0:Value} (rp0:RV gI.m wI x0 up0) {r:Int} (h:f28 x0 x1 x2=some r):Fn Tryz.prog 28 #[up0,.int .i64 (x1),.int .i64 (x2)] gI wI (fun _ _ v=>v=.int .i64 (r)):=by
 unfold f28 at h
 refine fn_of_E Tryz.func28 rfl (Nat.le_of_ble_eq_true rfl) fun g0 hm hfr=>?_
 have rp0:RV g0.m wI x0 up0:=hm ▸ rp0
 show E _ 15 none _ _ _ _ _
 refine Zf (Za (Ze .plain rfl (D_box (g:=g0) rfl rp0 fun g1 w1 p1 hs q1=>?_)))
 have hfr:=hfr.ext hs
 refine Zg (.int .i64 (0)) rfl rfl ?_
 refine Zb (Zd (Zf (Za (Zn (.int .i64 (x1)) rfl rfl ?_))))
 refine Zn (.int .i64 (x2)) rfl rfl ?_
 refine EL_in (.int .i64 ((w64 (x1 + x2)))) rfl rfl rfl rfl ?_
 refine Zx (fPtr p1 0) (Zc at_74_0 rfl (PT.ptr q1)) rfl ?_
 have q2:=Zm (part_ChainChainBelt_0).1 q1
 refine Zx (fPtr (fPtr p1 0) 1) (Zc at_36_1 rfl (PT.ptr q2)) rfl ?_
 have q3:=Zm (part_ChainBelt_1).1 q2
 refine Ze .plain rfl (D_load (g:=g1) Tryz.isAgg34 Tryz.sizeOf34 rfl q3 fun v4 r4=>?_)
 refine Zx (.int .i64 ((((x0).ChainBelt).Cards).length:Int)) (P_len Tryz.underlying34 rfl r4) rfl ?_
 obtain ⟨y5,hy5,h⟩:=Gb h
 refine Zx (.int .i64 (y5)) (P_int rfl rfl (congrArg (Option.map (Value.int .i64)) hy5)) rfl ?_
 refine Zg (.int .i64 (y5)) rfl rfl ?_
 refine Zb (Zd (E_ret ?_))
 obtain rfl:=sinj h
 exact end1 rfl rfl (show _=.int .i64 (y5) from rfl) ⟨_,hfr,rfl⟩
def f34 (x0:TieTieHarness) (x1:List Str):Option (Design):=
 Option.bind (α:=Design) (
  lp (σ:=Design × Int) (fun uE (l5,o0)=>
   bif (decide (o0 < ((x1).length : Int))) then
    Option.bind (α:=Design) (
     (idx x1 o0).bind fun u9=>
     Option.bind (α:=Int) (
      lp (σ:=Int × Int) (fun vE (y6,u3)=>
       bif (decide (u3 < ((((x0).TieHarness).Warps).length : Int))) then
        Option.bind (α:=Int) (
         (idx (((x0).TieHarness).Warps) u3).bind fun yB=>
         (idx (u9).b u3).bind fun zB=>
         bif (zB == (120 : UInt8)) then
          (shl64 (1:Int) yB).bind fun y9=>
          some ((bit64 .or y6 y9))
         else
          some (y6)
         ) fun m8=>
        vE (m8,(w64 (u3 + (1:Int))))
       else
        some (y6)
       ) big ((0:Int),(0:Int))
      ) fun m7=>
     (apnd 8 ((l5).Rows) (([m7]:List Int))).bind fun iD=>
     some ({ l5 with Rows:=iD })
     ) fun k8=>
    uE (k8,(w64 (o0 + (1:Int))))
   else
    some (l5)
   ) big ((⟨((x0).TieHarness).Hooks,[]⟩:Design),(0:Int))
  ) fun n8=>
 some (n8)
theorem en34:Enters Tryz.prog 34:=enters_of Tryz.func34 (by kernel_rfl) rfl
theorem wk34 {gI:Gh} {wI:World} {x0:TieTieHarness} {x1:List Str} {up0:Value} (rp0:RV gI.m wI x0 up0) {up1:Value} (rp1:RV gI.m wI x1 up1) {r:Design} (h:f34 x0 x1=some r):Fn Tryz.prog 34 #[up0,up1] gI wI (fun m w v=>RV m w (r) v):=by
 unfold f34 at h
 refine fn_of_E Tryz.func34 rfl (Nat.le_of_ble_eq_true rfl) fun g0 hm hfr=>?_
 have rp0:RV g0.m wI x0 up0:=hm ▸ rp0
 have rp1:RV g0.m wI x1 up1:=hm ▸ rp1
 show E _ 47 none _ _ _ _ _
 refine Zf (Za (Ze .plain rfl (D_box (g:=g0) rfl rp0 fun g1 w1 p1 hs q1=>?_)))
 have hfr:=hfr.ext hs
 have rp1:=rp1.ext hs
 refine Ze .plain rfl (D_allocOc (g:=g1) 2004 (⟨0,[]⟩:Design) Tryz.zeroValue31 (fun m w=>⟨_,(rep_two Zw rep_nil),rfl⟩) fun g2 w2 p2 hs b2 cb=>?_)
 have hfr:=hfr.stp hs
 have rp1:=rp1.stp hs
 have q1:=q1.stp hs
 have z9:OSF 2004 60401 1 g2 w2 3 31 ([]:List Int) p2:=cb.osf (by rfl)
 clear cb
 refine Zb (Zd (Zf (Za (Zx (fPtr p1 0) (Zc at_83_0 rfl (PT.ptr q1)) rfl ?_))))
 have q3:=Zm (part_TieTieHarness_0).1 q1
 refine Zx (fPtr (fPtr p1 0) 0) (Zc at_28_0 rfl (PT.ptr q3)) rfl ?_
 have q4:=Zm (part_TieHarness_0).1 q3
 refine Ze .plain rfl (D_load (g:=g2) Tryz.isAgg3 Tryz.sizeOf3 rfl q4 fun v5 r5=>?_)
 obtain rfl:=Zj.1 r5
 have r6:RV g2.m w2 (⟨((x0).TieHarness).Hooks,[]⟩:Design) (.agg (setCh [[.int .i64 0],[.slice none 0 0]] [(0,.int .i64 (((x0).TieHarness).Hooks))]).flatten.toArray):=RV_build rfl (rep_pair (rfl) (rep_last (rep_nil)))
 generalize gH:(Value.agg (setCh [[.int .i64 0],[.slice none 0 0]] [(0,.int .i64 (((x0).TieHarness).Hooks))]).flatten.toArray)=v6 at r6
 refine Zx v6 (gH ▸ P_build (vs:=[(0,.int .i64 (((x0).TieHarness).Hooks))]) [[.int .i64 0],[.slice none 0 0]] lay_31 rfl rfl (.cons rfl .nil) ⟨⟨_,rfl,rfl⟩,trivial⟩) rfl ?_
 refine Ze .plain rfl (D_allocOc (g:=g2) 2005 (⟨0,[]⟩:Design) Tryz.zeroValue31 (fun m w=>⟨_,(rep_two Zw rep_nil),rfl⟩) fun g7 w7 p7 hs b7 cb=>?_)
 have hfr:=hfr.stp hs
 have rp1:=rp1.stp hs
 have q1:=q1.stp hs
 have z9:=z9.stp hs rfl
 have b2:=b2.stp hs rfl
 have r6:=r6.stp hs
 have kI:OSF 2005 60501 1 g7 w7 3 31 ([]:List Int) p7:=cb.osf (by rfl)
 clear cb
 refine Ze .plain rfl (D_storeOc (g:=g7) (v:=v6) Tryz.sizeOf31 rfl b7 rfl r6 fun g8 w8 hs b8 cb=>?_)
 have iH:OSF 2005 60501 1 g8 w8 3 31 ([]:List Int) p7:=cb.osf (by rw [← gH]; rfl)
 clear cb
 have hfr:=hfr.stp hs
 have rp1:=rp1.stp hs
 have q1:=q1.stp hs
 have z9:=z9.stp hs rfl
 have b2:=b2.stp hs rfl
 refine Zb (Zd ?_)
 obtain ⟨n8,hx,h⟩:=Gb h
 refine E_join (fun e w=>∃ (g:Gh) ,Fr gI wI g w∧e 4=p2∧OB 2004 g w 31 ((⟨0,[]⟩:Design):Design) p2∧OSF 2004 60401 1 g w 3 31 (((⟨0,[]⟩:Design)).Rows) p2∧e 5=p7∧OB 2005 g w 31 (n8:Design) p7∧OSF 2005 60501 1 g w 3 31 ((n8).Rows) p7) (fun Q' hQ=>?_) (fun zH lI hR=>?_)
 ·replace h := hx
  clear hx
  refine Zf (Za (Zn up1 rfl rfl ?_))
  refine Zx (.int .i64 ((x1).length:Int)) (P_len Tryz.underlying47 rfl rp1) rfl ?_
  refine Zn (.int .i64 (0)) rfl rfl ?_
  refine Zb (Zd (Zr ?_))
  refine E_lp h (fun (s:Design × Int) e w=>∃ (g:Gh) ,Fr gI wI g w∧e 2=p1∧PT g.m w (x0:TieTieHarness) p1∧e 4=p2∧OB 2004 g w 31 ((⟨0,[]⟩:Design):Design) p2∧OSF 2004 60401 1 g w 3 31 (((⟨0,[]⟩:Design)).Rows) p2∧e 5=p7∧OB 2005 g w 31 (s.1:Design) p7∧OSF 2005 60501 1 g w 3 31 ((s.1).Rows) p7∧e 15=up1∧RV g.m w (x1:List Str) up1∧e 16=.int .i64 (((x1).length:Int))∧e 17=.int .i64 (s.2)) ⟨g8,hfr,rfl,q1,rfl,b2,z9,rfl,b8,iH,rfl,rp1,rfl,rfl⟩ (fun X112 uE xG=>?_)
  rintro ⟨l5,o0⟩ aI mI ⟨cC,hfr,vC,bA,aD,bD,u4_1_113,cD,eD,u5_1_113,tB,r8,vB,v8⟩ h
  refine Zf (Za (EL_in (.bool ((decide (o0 < ((x1).length:Int))))) v8 vB rfl rfl ?_))
  refine Zb (Zd (Zf ?_))
  rcases Zt h with ⟨mC,h⟩ | ⟨mC,h⟩
  ·refine E_ct mC rfl ?_
   refine Zu (Zd ?_)
   obtain ⟨k8,hx,h⟩:=Gb h
   refine E_join (fun e w=>∃ (g:Gh) ,Fr gI wI g w∧e 2=p1∧PT g.m w (x0:TieTieHarness) p1∧e 4=p2∧OB 2004 g w 31 ((⟨0,[]⟩:Design):Design) p2∧OSF 2004 60401 1 g w 3 31 (((⟨0,[]⟩:Design)).Rows) p2∧e 5=p7∧OB 2005 g w 31 (k8:Design) p7∧OSF 2005 60501 1 g w 3 31 ((k8).Rows) p7∧e 15=up1∧RV g.m w (x1:List Str) up1∧e 16=.int .i64 (((x1).length:Int))∧e 17=.int .i64 (o0)) (fun Q' hQ=>?_) (fun bI nI hR=>?_)
   ·replace h := hx
    clear hx
    refine Zr ?_
    refine Zf (Za ?_)
    obtain ⟨u9,lD,h⟩:=Gb h
    refine Zx (ePtr up1 o0 1) (Zh (α:=Str) Tryz.underlying47 Tryz.sizeOf9 tB r8 v8 lD) rfl ?_
    have jH:=PT_idx r8 lD
    refine Ze .plain rfl (D_load (g:=cC) Tryz.isAgg9 Tryz.sizeOf9 rfl jH fun pI kH=>?_)
    obtain rfl:=RV_str.1 kH
    refine Zg (Str.v (u9)) rfl rfl ?_
    refine Zb (Zd (Zf (Za (Zg (.int .i64 (0)) rfl rfl ?_))))
    refine Zb (Zd ?_)
    obtain ⟨m7,hx,h⟩:=Gb h
    refine E_join (fun e w=>∃ (g:Gh) ,Fr gI wI g w∧e 2=p1∧PT g.m w (x0:TieTieHarness) p1∧e 4=p2∧OB 2004 g w 31 ((⟨0,[]⟩:Design):Design) p2∧OSF 2004 60401 1 g w 3 31 (((⟨0,[]⟩:Design)).Rows) p2∧e 5=p7∧OB 2005 g w 31 (l5:Design) p7∧OSF 2005 60501 1 g w 3 31 ((l5).Rows) p7∧e 8=.int .i64 (m7)∧e 15=up1∧RV g.m w (x1:List Str) up1∧e 16=.int .i64 (((x1).length:Int))∧e 17=.int .i64 (o0)) (fun Q' hQ=>?_) (fun dI qI hR=>?_)
    ·replace h := hx
     clear hx
     refine Zf (Za (Zx (fPtr p1 0) (Zc at_83_0 vC (PT.ptr bA)) rfl ?_))
     have xE:=Zm (part_TieTieHarness_0).1 bA
     refine Zx (fPtr (fPtr p1 0) 1) (Zc at_28_1 rfl (PT.ptr xE)) rfl ?_
     have lH:=Zm (part_TieHarness_1).1 xE
     refine Ze .plain rfl (D_load (g:=cC) Tryz.isAgg26 Tryz.sizeOf26 rfl lH fun iA yE=>?_)
     refine Zx (.int .i64 ((((x0).TieHarness).Warps).length:Int)) (P_len Tryz.underlying26 rfl yE) rfl ?_
     refine Zn (.int .i64 (0)) rfl rfl ?_
     refine Zb (Zd (Zr ?_))
     refine E_lp h (fun (s:Int × Int) e w=>∃ (g:Gh) ,Fr gI wI g w∧e 2=p1∧PT g.m w (x0:TieTieHarness) p1∧e 4=p2∧OB 2004 g w 31 ((⟨0,[]⟩:Design):Design) p2∧OSF 2004 60401 1 g w 3 31 (((⟨0,[]⟩:Design)).Rows) p2∧e 5=p7∧OB 2005 g w 31 (l5:Design) p7∧OSF 2005 60501 1 g w 3 31 ((l5).Rows) p7∧e 7=Str.v (u9)∧e 8=.int .i64 (s.1)∧e 15=up1∧RV g.m w (x1:List Str) up1∧e 16=.int .i64 (((x1).length:Int))∧e 17=.int .i64 (o0)∧e 23=iA∧RV g.m w (((x0).TieHarness).Warps:List Int) iA∧e 24=.int .i64 (((((x0).TieHarness).Warps).length:Int))∧e 25=.int .i64 (s.2)) ⟨cC,hfr,vC,bA,aD,bD,u4_1_113,cD,eD,u5_1_113,rfl,rfl,tB,r8,vB,v8,rfl,yE,rfl,rfl⟩ (fun X189 vE yG=>?_)
     rintro ⟨y6,u3⟩ iI sI ⟨qC,hfr,rA,yA,aB,dB,u4_1_190,iB,lB,u5_1_190,mB,nB,x8,a9,d9,k9,l9,l8,n9,i7⟩ h
     refine Zf (Za (Zx (.bool ((decide (u3 < ((((x0).TieHarness).Warps).length:Int))))) (P_int i7 n9 rfl) rfl ?_))
     refine Zb (Zd (Zf ?_))
     rcases Zt h with ⟨rC,h⟩ | ⟨rC,h⟩
     ·refine E_ct rC rfl ?_
      refine Zu (Zd ?_)
      obtain ⟨m8,hx,h⟩:=Gb h
      refine E_join (fun e w=>∃ (g:Gh) ,Fr gI wI g w∧e 2=p1∧PT g.m w (x0:TieTieHarness) p1∧e 4=p2∧OB 2004 g w 31 ((⟨0,[]⟩:Design):Design) p2∧OSF 2004 60401 1 g w 3 31 (((⟨0,[]⟩:Design)).Rows) p2∧e 5=p7∧OB 2005 g w 31 (l5:Design) p7∧OSF 2005 60501 1 g w 3 31 ((l5).Rows) p7∧e 7=Str.v (u9)∧e 8=.int .i64 (m8)∧e 15=up1∧RV g.m w (x1:List Str) up1∧e 16=.int .i64 (((x1).length:Int))∧e 17=.int .i64 (o0)∧e 23=iA∧RV g.m w (((x0).TieHarness).Warps:List Int) iA∧e 24=.int .i64 (((((x0).TieHarness).Warps).length:Int))∧e 25=.int .i64 (u3)) (fun Q' hQ=>?_) (fun jI tI hR=>?_)
      ·replace h := hx
       clear hx
       refine Zr ?_
       refine Zf (Za (Zo i7 rfl ?_))
       obtain ⟨yB,nD,h⟩:=Gb h
       refine Zx (ePtr iA u3 1) (Zh (α:=Int) Tryz.underlying26 Tryz.sizeOf3 l9 l8 i7 nD) rfl ?_
       have mH:=PT_idx l8 nD
       refine Ze .plain rfl (D_load (g:=qC) Tryz.isAgg3 Tryz.sizeOf3 rfl mH fun uI nH=>?_)
       obtain rfl:=Zj.1 nH
       refine Zg (.int .i64 (u3)) rfl rfl ?_
       refine Zg (.int .i64 (yB)) rfl rfl ?_
       refine Zb (Zd (Zf (Za (Zo mB rfl ?_))))
       refine Zn (.int .i64 (u3)) rfl rfl ?_
       obtain ⟨zB,zG,h⟩:=Gb h
       refine Zx (.int .u8 (UInt8.toNat (zB))) (P_indexS Tryz.underlying9 rfl rfl zG) rfl ?_
       refine Zx (.bool ((zB == (120:UInt8)))) (P_u8 rfl rfl rfl) rfl ?_
       refine Zb (Zd ?_)
       rcases Zt h with ⟨uC,h⟩ | ⟨uC,h⟩
       ·refine E_ct uC rfl ?_
        refine Za (Zo nB rfl ?_)
        refine Zn (.int .i64 (yB)) rfl rfl ?_
        obtain ⟨y9,aH,h⟩:=Gb h
        refine Zx (.int .i64 (y9)) (P_int rfl rfl (congrArg (Option.map (Value.int .i64)) aH)) rfl ?_
        refine EL_in (.int .i64 ((bit64 .or y6 y9))) rfl rfl rfl rfl ?_
        refine Zg (.int .i64 ((bit64 .or y6 y9))) rfl rfl ?_
        refine Zb (blk_n ?_)
        obtain rfl:=sinj h
        exact hQ _ _ ⟨qC,hfr,rA,yA,aB,dB,u4_1_190,iB,lB,u5_1_190,mB,rfl,x8,a9,d9,k9,l9,l8,n9,i7⟩
       ·refine E_cf uC rfl ?_
        refine Zu (blk_n ?_)
        obtain rfl:=sinj h
        exact hQ _ _ ⟨qC,hfr,rA,yA,aB,dB,u4_1_190,iB,lB,u5_1_190,mB,nB,x8,a9,d9,k9,l9,l8,n9,i7⟩
      ·clear hx
       obtain ⟨oH,hfr,zE,cF,dF,eF,u4_1_204,rF,sF,u5_1_204,tF,uF,oD,sD,tD,uD,vD,xD,yD,zD⟩:=hR
       refine Za (EL_in (.int .i64 ((w64 (u3 + (1:Int))))) zD rfl rfl rfl ?_)
       refine Zn (.int .i64 ((w64 (u3 + (1:Int))))) rfl rfl ?_
       exact Zb (Zd (yG (m8,(w64 (u3 + (1:Int)))) _ _ ⟨oH,hfr,zE,cF,dF,eF,u4_1_204,rF,sF,u5_1_204,tF,uF,oD,sD,tD,uD,vD,xD,yD,rfl⟩ h))
     ·refine E_cf rC rfl ?_
      refine E_exit ?_
      refine thn_e ?_
      refine thn_e ?_
      refine blk_hit ?_
      obtain rfl:=sinj h
      exact hQ _ _ ⟨qC,hfr,rA,yA,aB,dB,u4_1_190,iB,lB,u5_1_190,nB,x8,a9,d9,k9⟩
    ·clear hx
     obtain ⟨vF,hfr,xF,i6,yF,x6,u4_1_205,oB,x5,u5_1_205,zF,aE,t5,bE,iE⟩:=hR
     refine Za (Zx (fPtr p7 1) (Zc at_31_1 oB (OB.ptr x5)) rfl ?_)
     refine Ze .plain rfl (D_loadFS (g:=vF) part_Design_1.1 Tryz.isAgg26 Tryz.sizeOf26 rfl x5 u5_1_205 fun vI jD o207=>?_)
     refine Zo zF rfl ?_
     refine Ze .plain rfl (D_buildSlice (g:=vF) 3042 (xs:=([m7]:List Int)) (vs:=[.int .i64 (m7)]) Tryz.underlying26 Tryz.sizeOf3 Tryz.zeroValue3 rfl rfl (.cons rfl .nil) (RVs.cons (Zj.2 rfl) RVs.nil) rfl rfl fun pH yI zI hs o208 qH hxt hfl=>?_)
     have hfr:=hfr.stp hs
     have i6:=i6.stp hs
     have u4_1_205:=u4_1_205.stp hs rfl
     have x6:=x6.stp hs rfl
     have x5:=x5.stp hs rfl
     have t5:=t5.stp hs
     have jD:=jD.stp hs
     have o207:=o207.stp hs rfl
     obtain ⟨iD,cH,h⟩:=Gb h
     refine Ze .plain rfl (D_append (g:=pH) (i:=60501) Tryz.underlying26 info_3 rfl rfl o207 jD rfl qH cH fun sH eJ gJ hs o209 aG _=>?_)
     have hfr:=hfr.stp hs
     have i6:=i6.stp hs
     have u4_1_205:=u4_1_205.stp hs rfl
     have x6:=x6.stp hs rfl
     have x5:=x5.stp hs rfl
     have t5:=t5.stp hs
     refine Zx (fPtr p7 1) (Zc at_31_1 oB (OB.ptr x5)) rfl ?_
     refine Ze .plain rfl (D_storeFc (g:=sH) part_Design_1 Tryz.sizeOf26 rfl x5 rfl aG fun tH iJ hs b212 rst hos=>?_)
     have bG:=hos _ _ 60501 3 (iD:List Int) (rv_cells1 aG) rfl o209
     clear rst hos
     have hfr:=hfr.stp hs
     have i6:=i6.stp hs
     have u4_1_205:=u4_1_205.stp hs rfl
     have x6:=x6.stp hs rfl
     have t5:=t5.stp hs
     refine Zb (blk_n ?_)
     obtain rfl:=sinj h
     exact hQ _ _ ⟨tH,hfr,xF,i6,yF,x6,u4_1_205,oB,b212,bG,aE,t5,bE,iE⟩
   ·clear hx
    obtain ⟨uH,hfr,cG,eG,gG,hG,u4_1_213,iG,jG,u5_1_213,lE,mE,oE,rE⟩:=hR
    refine Za (EL_in (.int .i64 ((w64 (o0 + (1:Int))))) rE rfl rfl rfl ?_)
    refine Zn (.int .i64 ((w64 (o0 + (1:Int))))) rfl rfl ?_
    exact Zb (Zd (xG (k8,(w64 (o0 + (1:Int)))) _ _ ⟨uH,hfr,cG,eG,gG,hG,u4_1_213,iG,jG,u5_1_213,lE,mE,oE,rfl⟩ h))
  ·refine E_cf mC rfl ?_
   refine E_exit ?_
   refine thn_e ?_
   refine thn_e ?_
   refine blk_hit ?_
   obtain rfl:=sinj h
   exact hQ _ _ ⟨cC,hfr,aD,bD,u4_1_113,cD,eD,u5_1_113⟩
 ·clear hx
  obtain ⟨kG,hfr,gD,lG,u4_1_214,mG,sG,u5_1_214⟩:=hR
  refine Zf (Za (Ze .plain rfl (D_loadO (g:=kG) Tryz.isAgg31 Tryz.sizeOf31 mG sG fun xH yH=>?_)))
  refine Ze .plain rfl (D_storeOc (g:=kG) (v:=xH) Tryz.sizeOf31 gD lG rfl yH fun jJ kJ hs b216 cb=>?_)
  clear cb
  have hfr:=hfr.stp hs
  refine Zb (Zd (E_ret ?_))
  obtain rfl:=sinj h
  obtain ⟨ad217,cv217,hp217,dH,cr217⟩:=ob_read Tryz.isAgg31 Tryz.sizeOf31 b216
  exact endm_c rfl rfl ((show _=p2 from gD).trans hp217) dH ⟨_,hfr,cr217⟩
def f37 (x0:List Int):Option (Int):=
 Option.bind (α:=Unit) (
  bif (decide (((x0).length : Int) < (1 : Int))) then
   none
  else
   some ()
  ) fun (_:Unit)=>
 (idx x0 (0:Int)).bind fun y4=>
 Option.bind (α:=Int) (
  lp (σ:=Int × Int) (fun n9 (u3,o0)=>
   jn (σ:=Unit) (fun _=>
    Option.bind (α:=Int) (
     (idx x0 o0).bind fun y6=>
     some ((min64 u3 y6))
     ) fun t5=>
    n9 (t5,(w64 (o0 + (1:Int))))
    ) fun u9=>
   bif (decide (o0 < ((x0).length : Int))) then
    u9 ()
   else
    some (u3)
   ) big (y4,(1:Int))
  ) fun l5=>
 some (l5)
theorem en37:Enters Tryz.prog 37:=enters_of Tryz.func37 (by kernel_rfl) rfl
theorem wk37 {gI:Gh} {wI:World} {x0:List Int} {up0:Value} (rp0:RV gI.m wI x0 up0) {r:Int} (h:f37 x0=some r):Fn Tryz.prog 37 #[up0] gI wI (fun _ _ v=>v=.int .i64 (r)):=by
 unfold f37 at h
 refine fn_of_E Tryz.func37 rfl (Nat.le_of_ble_eq_true rfl) fun g0 hm hfr=>?_
 have rp0:RV g0.m wI x0 up0:=hm ▸ rp0
 show E _ 25 none _ _ _ _ _
 refine Zf (Za (Zg (.int .i64 (0)) rfl rfl ?_))
 refine Zb (Zd ?_)
 obtain ⟨_,hx,h⟩:=Gb h
 refine E_join (fun e w=>∃ (g:Gh) ,Fr gI wI g w∧e 0=up0∧RV g.m w (x0:List Int) up0) (fun Q' hQ=>?_) (fun oB w3 hR=>?_)
 ·replace h := hx
  clear hx
  refine Zf (Za (Zn up0 rfl rfl ?_))
  refine Zx (.int .i64 ((x0).length:Int)) (P_len Tryz.underlying26 rfl rp0) rfl ?_
  refine EL_in (.bool ((decide (((x0).length:Int) < (1:Int))))) rfl rfl rfl rfl ?_
  refine Zb (Zd ?_)
  rcases Zt h with ⟨hc2,h⟩ | ⟨hc2,h⟩
  ·refine E_ct hc2 rfl ?_
   refine Za ?_
   cases h
  ·refine E_cf hc2 rfl ?_
   refine Zu ?_
   obtain rfl:=sinj h
   exact hQ _ _ ⟨g0,hfr,rfl,rp0⟩
 ·clear hx
  obtain ⟨g3,hfr,n8,i6⟩:=hR
  refine Zf (Za (Zo n8 rfl ?_))
  obtain ⟨y4,y9,h⟩:=Gb h
  refine Zx (ePtr up0 (0:Int) 1) (Zh (α:=Int) Tryz.underlying26 Tryz.sizeOf3 rfl i6 rfl y9) rfl ?_
  have q5:=PT_idx i6 y9
  refine Ze .plain rfl (D_load (g:=g3) Tryz.isAgg3 Tryz.sizeOf3 rfl q5 fun v6 r6=>?_)
  obtain rfl:=Zj.1 r6
  refine Zg (.int .i64 (y4)) rfl rfl ?_
  refine Zb (Zd ?_)
  obtain ⟨l5,hx,h⟩:=Gb h
  refine E_join (fun e w=>∃ (g:Gh) ,Fr gI wI g w∧e 3=.int .i64 (l5)) (fun Q' hQ=>?_) (fun iB tB hR=>?_)
  ·replace h := hx
   clear hx
   refine Zf (Za (Zg (.int .i64 (1)) rfl rfl ?_))
   refine Zb (Zd (Zr ?_))
   refine E_lp h (fun (s:Int × Int) e w=>∃ (g:Gh) ,Fr gI wI g w∧e 0=up0∧RV g.m w (x0:List Int) up0∧e 3=.int .i64 (s.1)∧e 4=.int .i64 (s.2)) ⟨g3,hfr,n8,i6,rfl,rfl⟩ (fun X20 n9 iA=>?_)
   rintro ⟨u3,o0⟩ lB vB ⟨z9,hfr,i7,m7,g8,k8⟩ h
   refine Zq h (fun (s:Unit) e w=>∃ (g:Gh) ,Fr gI wI g w∧e 0=up0∧RV g.m w (x0:List Int) up0∧e 3=.int .i64 (u3)∧e 4=.int .i64 (o0)) (fun X23 u9 rA h=>?_) ?_
   ·refine Zf (Za (Zo k8 rfl ?_))
    refine Zo i7 rfl ?_
    refine Zx (.int .i64 ((x0).length:Int)) (P_len Tryz.underlying26 rfl m7) rfl ?_
    refine EL_in (.bool ((decide (o0 < ((x0).length:Int))))) rfl rfl rfl rfl ?_
    refine Zb (Zd ?_)
    rcases Zt h with ⟨x6,h⟩ | ⟨x6,h⟩
    ·refine E_ct x6 rfl ?_
     exact Zu (Zd (rA () _ _ ⟨z9,hfr,i7,m7,g8,k8⟩ h))
    ·refine E_cf x6 rfl ?_
     refine E_exit ?_
     refine thn_e ?_
     refine thn_e ?_
     refine blk_hit ?_
     obtain rfl:=sinj h
     exact hQ _ _ ⟨z9,hfr,g8⟩
   ·rintro _ mB yB ⟨bA, hfr, l8, x5, v8, m8⟩ h
    obtain ⟨t5,hx,h⟩:=Gb h
    refine E_join (fun e w=>∃ (g:Gh) ,Fr gI wI g w∧e 0=up0∧RV g.m w (x0:List Int) up0∧e 3=.int .i64 (t5)∧e 4=.int .i64 (o0)) (fun Q' hQ=>?_) (fun nB zB hR=>?_)
    ·replace h := hx
     clear hx
     refine Zr ?_
     refine Za (Zo v8 rfl ?_)
     refine Zo l8 rfl ?_
     refine Zo m8 rfl ?_
     obtain ⟨y6,r8,h⟩:=Gb h
     refine Zx (ePtr up0 o0 1) (Zh (α:=Int) Tryz.underlying26 Tryz.sizeOf3 rfl x5 rfl r8) rfl ?_
     have yA:=PT_idx x5 r8
     refine Ze .plain rfl (D_load (g:=bA) Tryz.isAgg3 Tryz.sizeOf3 rfl yA fun cC aB=>?_)
     obtain rfl:=Zj.1 aB
     refine Zx (.int .i64 (min64 u3 y6)) (P_min rfl rfl) rfl ?_
     refine Zg (.int .i64 (min64 u3 y6)) rfl rfl ?_
     refine Zb (blk_n ?_)
     obtain rfl:=sinj h
     exact hQ _ _ ⟨bA,hfr,l8,x5,rfl,m8⟩
    ·clear hx
     obtain ⟨dB,hfr,x8,a9,d9,k9⟩:=hR
     refine Za (Zo k9 rfl ?_)
     refine EL_in (.int .i64 ((w64 (o0 + (1:Int))))) rfl rfl rfl rfl ?_
     refine Zg (.int .i64 ((w64 (o0 + (1:Int))))) rfl rfl ?_
     exact Zb (Zd (iA (t5,(w64 (o0 + (1:Int)))) _ _ ⟨dB,hfr,x8,a9,d9,rfl⟩ h))
  ·clear hx
   obtain ⟨mC,hfr,l9⟩:=hR
   refine Zf (Za (Zo l9 rfl ?_))
   refine Zg (.int .i64 (l5)) rfl rfl ?_
   refine Zb (Zd (E_ret ?_))
   obtain rfl:=sinj h
   exact end1 rfl rfl (show _=.int .i64 (l5) from rfl) ⟨_,hfr,rfl⟩
def f38 (x0:List Int) (x1:Int):Option (Int):=
 jn (σ:=Unit) (fun _=>
  some ((-1:Int))
  ) fun r8=>
 lp (σ:=Int) (fun v8 o0=>
  bif (decide (o0 < ((x0).length : Int))) then
   jn (σ:=Unit) (fun _=>
    v8 ((w64 (o0 + (1:Int))))
    ) fun x8=>
   (idx x0 o0).bind fun y23=>
   bif (x1 == y23) then
    some (o0)
   else
    x8 ()
  else
   r8 ()
  ) big ((0:Int))
theorem en38:Enters Tryz.prog 38:=enters_of Tryz.func38 (by kernel_rfl) rfl
theorem wk38 {gI:Gh} {wI:World} {x0:List Int} {x1:Int} {up0:Value} (rp0:RV gI.m wI x0 up0) {r:Int} (h:f38 x0 x1=some r):Fn Tryz.prog 38 #[up0,.int .i64 (x1)] gI wI (fun _ _ v=>v=.int .i64 (r)):=by
 unfold f38 at h
 refine fn_of_E Tryz.func38 rfl (Nat.le_of_ble_eq_true rfl) fun g0 hm hfr=>?_
 have rp0:RV g0.m wI x0 up0:=hm ▸ rp0
 show E _ 19 none _ _ _ _ _
 refine Zf (Za (Zg (.int .i64 (0)) rfl rfl ?_))
 refine Zb (Zd (Zq h (fun (s:Unit) e w=>∃ (g:Gh) ,Fr gI wI g w) (fun X14 r8 a9 h=>?_) ?_))
 ·refine Zf (Za (Zn up0 rfl rfl ?_))
  refine Zx (.int .i64 ((x0).length:Int)) (P_len Tryz.underlying26 rfl rp0) rfl ?_
  refine Zn (.int .i64 (0)) rfl rfl ?_
  refine Zb (Zd (Zr ?_))
  refine E_lp h (fun (s:Int) e w=>∃ (g:Gh) ,Fr gI wI g w∧e 0=up0∧RV g.m w (x0:List Int) up0∧e 1=.int .i64 (x1)∧e 7=.int .i64 (((x0).length:Int))∧e 8=.int .i64 (s)) ⟨g0,hfr,rfl,rp0,rfl,rfl,rfl⟩ (fun X15 v8 d9=>?_)
  rintro o0 y9 iA ⟨i7,hfr,i6,u3,x6,y6,l5⟩ h
  refine Zf (Za (EL_in (.bool ((decide (o0 < ((x0).length:Int))))) l5 y6 rfl rfl ?_))
  refine Zb (Zd (Zf ?_))
  rcases Zt h with ⟨t5,h⟩ | ⟨t5,h⟩
  ·refine E_ct t5 rfl ?_
   refine Zu (Zd (Zq h (fun (s:Unit) e w=>∃ (g:Gh) ,Fr gI wI g w∧e 0=up0∧RV g.m w (x0:List Int) up0∧e 1=.int .i64 (x1)∧e 7=.int .i64 (((x0).length:Int))∧e 8=.int .i64 (o0)) (fun X22 x8 k9 h=>?_) ?_))
   ·refine Zr ?_
    refine Zf (Za (Zo l5 rfl ?_))
    refine Zg (.int .i64 (o0)) rfl rfl ?_
    refine Zb (Zd (Zf (Za (Zo x6 rfl ?_))))
    refine Zo i6 rfl ?_
    refine Zn (.int .i64 (o0)) rfl rfl ?_
    obtain ⟨y23,m7,h⟩:=Gb h
    refine Zx (ePtr up0 o0 1) (Zh (α:=Int) Tryz.underlying26 Tryz.sizeOf3 rfl u3 rfl m7) rfl ?_
    have l9:=PT_idx u3 m7
    refine Ze .plain rfl (D_load (g:=i7) Tryz.isAgg3 Tryz.sizeOf3 rfl l9 fun rA n9=>?_)
    obtain rfl:=Zj.1 n9
    refine EL_in (.bool ((x1 == y23))) rfl rfl rfl rfl ?_
    refine Zb (Zd ?_)
    rcases Zt h with ⟨x5,h⟩ | ⟨x5,h⟩
    ·refine E_ct x5 rfl ?_
     refine Zf (Za (Zn (.int .i64 (o0)) rfl rfl ?_))
     refine Zg (.int .i64 (o0)) rfl rfl ?_
     refine Zb (Zd (E_ret (blk_r ?_)))
     refine thn_r ?_
     refine thn_r ?_
     refine blk_r ?_
     refine thn_r ?_
     obtain rfl:=sinj h
     exact end1 rfl rfl (show _=.int .i64 (o0) from rfl) ⟨_,hfr,rfl⟩
    ·refine E_cf x5 rfl ?_
     exact Zu (blk_n (Zd (k9 () _ _ ⟨i7,hfr,i6,u3,x6,y6,l5⟩ h)))
   ·rintro _ z9 yA ⟨u9, hfr, g8, k8, l8, m8, n8⟩ h
    refine Za (EL_in (.int .i64 ((w64 (o0 + (1:Int))))) n8 rfl rfl rfl ?_)
    refine Zn (.int .i64 ((w64 (o0 + (1:Int))))) rfl rfl ?_
    exact Zb (Zd (d9 ((w64 (o0 + (1:Int)))) _ _ ⟨u9,hfr,g8,k8,l8,m8,rfl⟩ h))
  ·refine E_cf t5 rfl ?_
   refine E_exit ?_
   refine thn_e ?_
   refine thn_e ?_
   refine blk_hit ?_
   exact Zd (a9 () _ _ ⟨i7,hfr⟩ h)
 ·rintro _ bA aB ⟨dB, hfr⟩ h
  refine Zf (Za (Zg (.int .i64 (-1)) rfl rfl ?_))
  refine Zb (Zd (E_ret ?_))
  obtain rfl:=sinj h
  exact end1 rfl rfl (show _=.int .i64 (-1) from rfl) ⟨_,hfr,rfl⟩
def f39 (x0:Int):Option (Int):=
 jn (σ:=Unit) (fun _=>
  some ((1:Int))
  ) fun k2=>
 bif (x0 == (1 : Int)) then
  some ((0:Int))
 else
  k2 ()
theorem en39:Enters Tryz.prog 39:=enters_of Tryz.func39 (by kernel_rfl) rfl
theorem wk39 {gI:Gh} {wI:World} {x0:Int}  {r:Int} (h:f39 x0=some r):Fn Tryz.prog 39 #[.int .i64 (x0)] gI wI (fun _ _ v=>v=.int .i64 (r)):=by
 unfold f39 at h
 refine fn_of_E Tryz.func39 rfl (Nat.le_of_ble_eq_true rfl) fun g0 hm hfr=>?_
 show E _ 5 none _ _ _ _ _
 refine Zf (Za (Zg (.int .i64 (0)) rfl rfl ?_))
 refine Zb (Zd (Zq h (fun (s:Unit) e w=>∃ (g:Gh) ,Fr gI wI g w) (fun X2 k2 hk2 h=>?_) ?_))
 ·refine Zf (Za (Zn (.int .i64 (x0)) rfl rfl ?_))
  refine EL_in (.bool ((x0 == (1:Int)))) rfl rfl rfl rfl ?_
  refine Zb (Zd ?_)
  rcases Zt h with ⟨hc3,h⟩ | ⟨hc3,h⟩
  ·refine E_ct hc3 rfl ?_
   refine Zf (Za (Zg (.int .i64 (0)) rfl rfl ?_))
   refine Zb (Zd (E_ret (thn_r ?_)))
   obtain rfl:=sinj h
   exact end1 rfl rfl (show _=.int .i64 (0) from rfl) ⟨_,hfr,rfl⟩
  ·refine E_cf hc3 rfl ?_
   exact Zu (Zd (hk2 () _ _ ⟨g0,hfr⟩ h))
 ·rintro _ o0 w4 ⟨g4, hfr⟩ h
  refine Zf (Za (Zg (.int .i64 (1)) rfl rfl ?_))
  refine Zb (Zd (E_ret ?_))
  obtain rfl:=sinj h
  exact end1 rfl rfl (show _=.int .i64 (1) from rfl) ⟨_,hfr,rfl⟩
def f43 (x0:List Int) (x1:Int):Option ((List Int)):=
 Option.bind (α:=Unit) (
  bif (decide (x1 < (0 : Int))) then
   none
  else
   some ()
  ) fun (_:Unit)=>
 (mulU ((wu64 ((x0).length:Int))) ((wu64 x1))).bind fun y4=>
 Option.bind (α:=Unit) (
  Option.bind (α:=Bool) (
   bif (decide (y4.1 > (0 : Int))) then
    some (true)
   else
    some ((decide (y4.2 > (9223372036854775807:Int))))
   ) fun t5=>
  bif t5 then
   none
  else
   some ()
  ) fun (_:Unit)=>
 (mks 8 (0:Int) ((w64 (y4.2)))).bind fun n8=>
 Option.bind (α:=(List Int)) (
  lp (σ:=(List Int) × Int) (fun aB (u3,o0)=>
   jn (σ:=Unit) (fun _=>
    (cut u3 o0 ((u3).length:Int)).bind fun x6=>
    (cut u3 0 o0).bind fun y6=>
    aB ((cpy u3 o0 x6 y6),(w64 (o0 + ((min (y6).length (x6).length:Nat):Int))))
    ) fun dB=>
   bif (decide (o0 < ((u3).length : Int))) then
    dB ()
   else
    some (u3)
   ) big ((cpy n8 0 n8 x0),((min (x0).length (n8).length:Nat):Int))
  ) fun i7=>
 some (i7)
theorem en43:Enters Tryz.prog 43:=enters_of Tryz.func43 (by kernel_rfl) rfl
theorem wk43 {gI:Gh} {wI:World} {x0:List Int} {x1:Int} {up0:Value} (rp0:RV gI.m wI x0 up0) {r:(List Int)} (h:f43 x0 x1=some r):Fn Tryz.prog 43 #[up0,.int .i64 (x1)] gI wI (fun m w v=>RV m w (r) v):=by
 unfold f43 at h
 refine fn_of_E Tryz.func43 rfl (Nat.le_of_ble_eq_true rfl) fun g0 hm hfr=>?_
 have rp0:RV g0.m wI x0 up0:=hm ▸ rp0
 show E _ 48 none _ _ _ _ _
 refine Zf (Za (Zg (.slice none 0 0) rfl rfl ?_))
 refine Zb (Zd ?_)
 obtain ⟨_,hx,h⟩:=Gb h
 refine E_join (fun e w=>∃ (g:Gh) ,Fr gI wI g w∧e 0=up0∧RV g.m w (x0:List Int) up0∧e 1=.int .i64 (x1)) (fun Q' hQ=>?_) (fun eD w3 hR=>?_)
 ·replace h := hx
  clear hx
  refine Zf (Za (Zn (.int .i64 (x1)) rfl rfl ?_))
  refine EL_in (.bool ((decide (x1 < (0:Int))))) rfl rfl rfl rfl ?_
  refine Zb (Zd ?_)
  rcases Zt h with ⟨hc2,h⟩ | ⟨hc2,h⟩
  ·refine E_ct hc2 rfl ?_
   refine Za ?_
   cases h
  ·refine E_cf hc2 rfl ?_
   refine Zu ?_
   obtain rfl:=sinj h
   exact hQ _ _ ⟨g0,hfr,rfl,rp0,rfl⟩
 ·clear hx
  obtain ⟨g3,hfr,v8,x8,mB⟩:=hR
  refine Zf (Za (Zo v8 rfl ?_))
  refine Zx (.int .i64 ((x0).length:Int)) (P_len Tryz.underlying26 rfl x8) rfl ?_
  refine Zx (.int .u64 (wu64 ((x0).length:Int))) (P_intu64 Tryz.underlying3 Tryz.underlying60 rfl) rfl ?_
  refine Zo mB rfl ?_
  refine Zx (.int .u64 (wu64 x1)) (P_intu64 Tryz.underlying3 Tryz.underlying60 rfl) rfl ?_
  obtain ⟨y4,vB,h⟩:=Gb h
  refine Ze .plain rfl (D_mulU en62 mul_ok rfl rfl vB ?_)
  refine Zn (.tuple #[.int .u64 y4.1,.int .u64 y4.2]) rfl rfl ?_
  refine Zx (.int .u64 y4.1) (Zi rfl rfl) rfl ?_
  refine Zx (.int .u64 y4.2) (Zi rfl rfl) rfl ?_
  refine Zg (.int .u64 y4.1) rfl rfl ?_
  refine Zg (.int .u64 y4.2) rfl rfl ?_
  refine Zb (Zd ?_)
  obtain ⟨_,hx,h⟩:=Gb h
  refine E_join (fun e w=>∃ (g:Gh) ,Fr gI wI g w∧e 0=up0∧RV g.m w (x0:List Int) up0∧e 6=.int .u64 (y4.2)) (fun Q' hQ=>?_) (fun uC gD hR=>?_)
  ·replace h := hx
   clear hx
   obtain ⟨t5,hx,h⟩:=Gb h
   refine E_join (fun e w=>∃ (g:Gh) ,Fr gI wI g w∧e 0=up0∧RV g.m w (x0:List Int) up0∧e 6=.int .u64 (y4.2)∧e 26=.bool (t5)) (fun Q' hQ=>?_) (fun vC iD hR=>?_)
   ·replace h := hx
    clear hx
    refine Za (Zn (.int .u64 y4.1) rfl rfl ?_)
    refine Zx (.bool (decide (y4.1 > (0:Int)))) (P_u64cmp rfl rfl rfl) rfl ?_
    refine Zn (.bool (decide (y4.1 > (0:Int)))) rfl rfl ?_
    rcases Zt h with ⟨x5,h⟩ | ⟨x5,h⟩
    ·refine Zz rfl rfl x5 rfl rfl ?_
     refine Zz rfl rfl x5 rfl rfl ?_
     refine Zx (.bool true) (Zl (b:=(decide (y4.1 > (0:Int)))) rfl (pick_t x5 rfl)) rfl ?_
     refine Zb ?_
     obtain rfl:=sinj h
     exact hQ _ _ ⟨g3,hfr,v8,x8,rfl,rfl⟩
    ·refine Zy (.int .u64 y4.2) (Zk rfl) rfl rfl x5 rfl ?_
     refine Zy (.bool (decide (y4.2 > (9223372036854775807:Int)))) (P_u64cmp rfl rfl rfl) rfl rfl x5 rfl ?_
     refine Zx (.bool (decide (y4.2 > (9223372036854775807:Int)))) (Zl (b:=(decide (y4.1 > (0:Int)))) rfl (pick_f x5 rfl)) rfl ?_
     refine Zb ?_
     obtain rfl:=sinj h
     exact hQ _ _ ⟨g3,hfr,v8,x8,rfl,rfl⟩
   ·clear hx
    obtain ⟨yB,hfr,u9,y9,z9,r8⟩:=hR
    rcases Zt h with ⟨a9,h⟩ | ⟨a9,h⟩
    ·refine E_cond_true (Eq.trans (show ev _ _ = .bool (t5) from r8) (congrArg Value.bool a9)) ?_
     refine Za ?_
     cases h
    ·refine E_cond_false (Eq.trans (show ev _ _ = .bool (t5) from r8) (congrArg Value.bool a9)) ?_
     refine Zu ?_
     obtain rfl:=sinj h
     exact hQ _ _ ⟨yB,hfr,u9,y9,z9⟩
  ·clear hx
   obtain ⟨zB,hfr,bA,m7,iA⟩:=hR
   refine Zf (Za (Zo iA rfl ?_))
   refine Zx (.int .i64 ((w64 (y4.2)))) (P_u64int Tryz.underlying60 Tryz.underlying3 rfl) rfl ?_
   obtain ⟨n8,nB,h⟩:=Gb h
   refine Ze .plain rfl (D_makeSliceM (g:=zB) 9030 (0:Int) rfl Tryz.underlying26 info_3 rfl (fun _ _=>rfl) rfl rfl nB fun cC w15 l5 hs b15=>?_)
   have hfr:=hfr.stp hs
   have m7:=m7.stp hs
   refine Zg l5 rfl rfl ?_
   refine Zb (Zd (Zf (Za (Zn l5 rfl rfl ?_))))
   refine Zo bA rfl ?_
   refine Ze .plain rfl (D_copyM (g:=cC) (α:=Int) Tryz.underlying26 info_3 rfl b15 rfl m7 fun mC jD hs b16=>?_)
   have hfr:=hfr.stp hs
   refine Zg (.int .i64 ((min (x0).length (n8).length:Nat):Int)) rfl rfl ?_
   refine Zb (Zd ?_)
   obtain ⟨i7,hx,h⟩:=Gb h
   refine E_join (fun e w=>∃ (g:Gh) ,Fr gI wI g w∧e 7=l5∧OM 9030 g w 3 (i7:List Int) l5) (fun Q' hQ=>?_) (fun aD lD hR=>?_)
   ·replace h := hx
    clear hx
    refine Zr ?_
    refine E_lp h (fun (s:(List Int) × Int) e w=>∃ (g:Gh) ,Fr gI wI g w∧e 7=l5∧OM 9030 g w 3 (s.1:List Int) l5∧e 8=.int .i64 (s.2)) ⟨mC,hfr,rfl,b16,rfl⟩ (fun X29 aB oB=>?_)
    rintro ⟨u3,o0⟩ bD nD ⟨iB,hfr,g8,k8,k9⟩ h
    refine Zq h (fun (s:Unit) e w=>∃ (g:Gh) ,Fr gI wI g w∧e 7=l5∧OM 9030 g w 3 (u3:List Int) l5∧e 8=.int .i64 (o0)) (fun X32 dB tB h=>?_) ?_
    ·refine Zf (Za (Zo k9 rfl ?_))
     refine Zo g8 rfl ?_
     refine Zx (.int .i64 ((u3).length:Int)) (P_lenM Tryz.underlying26 rfl k8) rfl ?_
     refine EL_in (.bool ((decide (o0 < ((u3).length:Int))))) rfl rfl rfl rfl ?_
     refine Zb (Zd ?_)
     rcases Zt h with ⟨d9,h⟩ | ⟨d9,h⟩
     ·refine E_ct d9 rfl ?_
      exact Zu (Zd (tB () _ _ ⟨iB,hfr,g8,k8,k9⟩ h))
     ·refine E_cf d9 rfl ?_
      refine E_exit ?_
      refine thn_e ?_
      refine thn_e ?_
      refine blk_hit ?_
      obtain rfl:=sinj h
      exact hQ _ _ ⟨iB,hfr,g8,k8⟩
    ·rintro _ cD qC ⟨lB, hfr, l8, i6, m8⟩ h
     refine Zr ?_
     obtain ⟨x6,l9,h⟩:=Gb h
     obtain ⟨y6,n9,h⟩:=Gb h
     refine E_drawC (g:=lB) (w:=qC) (n:=8) [0,1,2,3,4,5,6] [] [0,1,2,3,4,5,6,7] rfl mixed (by kernel_rfl) fun w_c37 hs hlt=>?_
     have hfr:=hfr.ext hs
     have i6:=i6.ext hs
     clear hs
     refine CH_pur (c:=.int .i64 (o0)) rfl rfl .plain (Zk m8) ?_
     refine CH_pur (c:=l5) rfl rfl .plain (Zk l8) ?_
     refine CH_pur (c:=.int .i64 (o0)) rfl rfl .plain (Zk m8) ?_
     refine CH_pur (c:=(cutV l5 (Int.toNat o0) (Int.toNat ((u3).length:Int)) 1)) rfl rfl .plain (P_cutM (α:=Int) Tryz.underlying26 Tryz.sizeOf3 rfl (OM.hdr i6) rfl rfl l9) ?_
     refine CH_pur (c:=l5) rfl rfl .plain (Zk l8) ?_
     refine CH_pur (c:=.int .i64 (o0)) rfl rfl .plain (Zk m8) ?_
     refine CH_pur (c:=(cutV l5 0 (Int.toNat o0) 1)) rfl rfl .plain (P_cutM (α:=Int) Tryz.underlying26 Tryz.sizeOf3 rfl (OM.hdr i6) rfl rfl n9) ?_
     refine CH_do rfl rfl .plain (D_copyMM (g:=lB) (α:=Int) Tryz.underlying26 info_3 rfl i6 rfl l9 n9 fun rC oD hs b40=>?_)
     have hfr:=hfr.stp hs
     have hlt:=hlt.stp hs
     refine ⟨hlt.toW,?_⟩
     refine CH_nil ?_
     clear hlt
     refine Zx (.int .i64 ((w64 (o0 + ((min (y6).length (x6).length:Nat):Int))))) (P_int rfl rfl rfl) rfl ?_
     refine Zx (.int .i64 ((w64 (o0 + ((min (y6).length (x6).length:Nat):Int))))) (P_assign rfl) rfl ?_
     exact Zb (blk_n (Zd (oB ((cpy u3 o0 x6 y6),(w64 (o0 + ((min (y6).length (x6).length:Nat):Int)))) _ _ ⟨rC,hfr,l8,b40,rfl⟩ h)))
   ·clear hx
    obtain ⟨sD,hfr,rA,yA⟩:=hR
    refine Zf (Za (Zo rA rfl ?_))
    obtain ⟨gp42,hs,rp42⟩:=OM.pub yA
    have hfr:=hfr.stp hs
    refine Zg l5 rfl rfl ?_
    refine Zb (Zd (E_ret ?_))
    obtain rfl:=sinj h
    exact end1 rfl rfl (show _=l5 from rfl) ⟨_,hfr,rp42⟩
def f47 (x0:Int) (z0:Int) (z1:Int):Option (Bool):=
 Option.bind (α:=Bool) (
  bif (decide (x0 < z0)) then
   some (true)
  else
   some ((decide (x0 > z1)))
  ) fun o0=>
 some (o0)
theorem en47:Enters Tryz.prog 47:=enters_of Tryz.func47 (by kernel_rfl) rfl
theorem wk47 {gI:Gh} {wI:World} {x0:Int} {z0:Int} {z1:Int} {pf0:Value} (qf0:PT gI.m wI z0 pf0) {pf1:Value} (qf1:PT gI.m wI z1 pf1) {r:Bool} (h:f47 x0 z0 z1=some r):Fn Tryz.prog 47 #[.int .i64 (x0),pf0,pf1] gI wI (fun _ _ v=>v=.bool (r)):=by
 unfold f47 at h
 refine fn_of_E Tryz.func47 rfl (Nat.le_of_ble_eq_true rfl) fun g0 hm hfr=>?_
 have qf0:PT g0.m wI z0 pf0:=hm ▸ qf0
 have qf1:PT g0.m wI z1 pf1:=hm ▸ qf1
 show E _ 13 none _ _ _ _ _
 refine Zf (Za (Zg (.bool false) rfl rfl ?_))
 refine Zb (Zd ?_)
 obtain ⟨o0,hx,h⟩:=Gb h
 refine E_join (fun e w=>∃ (g:Gh) ,Fr gI wI g w∧e 4=.bool (o0)) (fun Q' hQ=>?_) (fun l5 w7 hR=>?_)
 ·replace h := hx
  clear hx
  refine Za (Zn (.int .i64 (x0)) rfl rfl ?_)
  refine Ze .plain rfl (D_load (g:=g0) Tryz.isAgg3 Tryz.sizeOf3 rfl qf0 fun v4 r4=>?_)
  obtain rfl:=Zj.1 r4
  refine EL_in (.bool ((decide (x0 < z0)))) rfl rfl rfl rfl ?_
  refine Zn (.bool ((decide (x0 < z0)))) rfl rfl ?_
  rcases Zt h with ⟨hc5,h⟩ | ⟨hc5,h⟩
  ·refine Zz rfl rfl hc5 rfl rfl ?_
   refine Zz rfl rfl hc5 rfl rfl ?_
   refine Zz rfl rfl hc5 rfl rfl ?_
   refine Zx (.bool true) (Zl (b:=(decide (x0 < z0))) rfl (pick_t hc5 rfl)) rfl ?_
   refine Zg (.bool true) rfl rfl ?_
   refine Zb ?_
   obtain rfl:=sinj h
   exact hQ _ _ ⟨g0,hfr,rfl⟩
  ·refine Zy (.int .i64 (x0)) (Zk rfl) rfl rfl hc5 rfl ?_
   refine Ze (.yes2 rfl rfl hc5) rfl (D_load (g:=g0) Tryz.isAgg3 Tryz.sizeOf3 rfl qf1 fun v6 r6=>?_)
   obtain rfl:=Zj.1 r6
   refine Zy (.bool ((decide (x0 > z1)))) (P_int rfl rfl rfl) rfl rfl hc5 rfl ?_
   refine Zx (.bool ((decide (x0 > z1)))) (Zl (b:=(decide (x0 < z0))) rfl (pick_f hc5 rfl)) rfl ?_
   refine Zg (.bool ((decide (x0 > z1)))) rfl rfl ?_
   refine Zb ?_
   obtain rfl:=sinj h
   exact hQ _ _ ⟨g0,hfr,rfl⟩
 ·clear hx
  obtain ⟨g7,hfr,u3⟩:=hR
  refine E_ret ?_
  obtain rfl:=sinj h
  exact end1 rfl rfl (show _=.bool (o0) from u3) ⟨_,hfr,rfl⟩
def f51 (x0:Bool):Option (UInt8):=
 jn (σ:=Unit) (fun _=>
  some ((46:UInt8))
  ) fun k2=>
 bif x0 then
  some ((120:UInt8))
 else
  k2 ()
theorem en51:Enters Tryz.prog 51:=enters_of Tryz.func51 (by kernel_rfl) rfl
theorem wk51 {gI:Gh} {wI:World} {x0:Bool}  {r:UInt8} (h:f51 x0=some r):Fn Tryz.prog 51 #[.bool (x0)] gI wI (fun _ _ v=>v=.int .u8 (UInt8.toNat (r))):=by
 unfold f51 at h
 refine fn_of_E Tryz.func51 rfl (Nat.le_of_ble_eq_true rfl) fun g0 hm hfr=>?_
 show E _ 4 none _ _ _ _ _
 refine Zf (Za (Zg (.int .u8 (UInt8.toNat 0)) rfl rfl ?_))
 refine Zb (Zd (Zq h (fun (s:Unit) e w=>∃ (g:Gh) ,Fr gI wI g w) (fun X2 k2 hk2 h=>?_) ?_))
 ·refine Zf (Za (Zn (.bool (x0)) rfl rfl ?_))
  refine Zb (Zd ?_)
  rcases Zt h with ⟨hc3,h⟩ | ⟨hc3,h⟩
  ·refine E_ct hc3 rfl ?_
   refine Zf (Za (Zg (.int .u8 (UInt8.toNat 120)) rfl rfl ?_))
   refine Zb (Zd (E_ret (thn_r ?_)))
   obtain rfl:=sinj h
   exact end1 rfl rfl (show _=.int .u8 (UInt8.toNat 120) from rfl) ⟨_,hfr,rfl⟩
  ·refine E_cf hc3 rfl ?_
   exact Zu (Zd (hk2 () _ _ ⟨g0,hfr⟩ h))
 ·rintro _ o0 w4 ⟨g4, hfr⟩ h
  refine Zf (Za (Zg (.int .u8 (UInt8.toNat 46)) rfl rfl ?_))
  refine Zb (Zd (E_ret ?_))
  obtain rfl:=sinj h
  exact end1 rfl rfl (show _=.int .u8 (UInt8.toNat 46) from rfl) ⟨_,hfr,rfl⟩
def f52 (x0:TieTieHarness) (x1:Int) (x2:Int):Option (Bool):=
 (idx (((x0).TieHarness).Warps) x2).bind fun y5=>
 (shr64 x1 y5).bind fun y8=>
 some (((bit64 .and y8 (1:Int)) == (1:Int)))
theorem en52:Enters Tryz.prog 52:=enters_of Tryz.func52 (by kernel_rfl) rfl
theorem wk52 {gI:Gh} {wI:World} {x0:TieTieHarness} {x1:Int} {x2:Int} {up0:Value} (rp0:RV gI.m wI x0 up0) {r:Bool} (h:f52 x0 x1 x2=some r):Fn Tryz.prog 52 #[up0,.int .i64 (x1),.int .i64 (x2)] gI wI (fun _ _ v=>v=.bool (r)):=by
 unfold f52 at h
 refine fn_of_E Tryz.func52 rfl (Nat.le_of_ble_eq_true rfl) fun g0 hm hfr=>?_
 have rp0:RV g0.m wI x0 up0:=hm ▸ rp0
 show E _ 17 none _ _ _ _ _
 refine Zf (Za (Ze .plain rfl (D_box (g:=g0) rfl rp0 fun g1 w1 p1 hs q1=>?_)))
 have hfr:=hfr.ext hs
 refine Zg (.bool false) rfl rfl ?_
 refine Zb (Zd (Zf (Za (Zn (.int .i64 (x1)) rfl rfl ?_))))
 refine Zx (fPtr p1 0) (Zc at_83_0 rfl (PT.ptr q1)) rfl ?_
 have q2:=Zm (part_TieTieHarness_0).1 q1
 refine Zx (fPtr (fPtr p1 0) 1) (Zc at_28_1 rfl (PT.ptr q2)) rfl ?_
 have q3:=Zm (part_TieHarness_1).1 q2
 refine Ze .plain rfl (D_load (g:=g1) Tryz.isAgg26 Tryz.sizeOf26 rfl q3 fun v4 r4=>?_)
 refine Zn (.int .i64 (x2)) rfl rfl ?_
 obtain ⟨y5,hy5,h⟩:=Gb h
 refine Zx (ePtr v4 x2 1) (Zh (α:=Int) Tryz.underlying26 Tryz.sizeOf3 rfl r4 rfl hy5) rfl ?_
 have q6:=PT_idx r4 hy5
 refine Ze .plain rfl (D_load (g:=g1) Tryz.isAgg3 Tryz.sizeOf3 rfl q6 fun v7 r7=>?_)
 obtain rfl:=Zj.1 r7
 obtain ⟨y8,o0,h⟩:=Gb h
 refine Zx (.int .i64 (y8)) (P_int rfl rfl (congrArg (Option.map (Value.int .i64)) o0)) rfl ?_
 refine EL_in (.int .i64 ((bit64 .and y8 (1:Int)))) rfl rfl rfl rfl ?_
 refine EL_in (.bool (((bit64 .and y8 (1:Int)) == (1:Int)))) rfl rfl rfl rfl ?_
 refine Zg (.bool (((bit64 .and y8 (1:Int)) == (1:Int)))) rfl rfl ?_
 refine Zb (Zd (E_ret ?_))
 obtain rfl:=sinj h
 exact end1 rfl rfl (show _=.bool (((bit64 .and y8 (1:Int)) == (1:Int))) from rfl) ⟨_,hfr,rfl⟩
def f59 (x0:List (List Int)):Option ((List (List Int))):=
 lp (σ:=(List (List Int)) × Int × Int) (fun k1 (l5,o0,u3)=>
  jn (σ:=Unit) (fun _=>
   Option.bind (α:=(List (List Int))) (
    (idx l5 u3).bind fun m7=>
    (idx l5 o0).bind fun g8=>
    (idx l5 o0).bind fun rA=>
    (idx ((List.set l5 (Int.toNat o0) m7)) u3).bind fun y55=>
    some ((List.set ((List.set l5 (Int.toNat o0) m7)) (Int.toNat u3) g8))
    ) fun x5=>
   k1 (x5,(w64 (o0 + (1:Int))),(w64 (u3 - (1:Int))))
   ) fun k4=>
  bif (decide (o0 < u3)) then
   k4 ()
  else
   some (l5)
  ) big (x0,(0:Int),(w64 (((x0).length:Int) - (1:Int))))
theorem en59:Enters Tryz.prog 59:=enters_of Tryz.func59 (by kernel_rfl) rfl
theorem wk59 {iI:Nat} {gI:Gh} {wI:World} {x0:List (List Int)} {up0:Value} (mp0:OM iI gI wI 26 x0 up0) {r:(List (List Int))} (h:f59 x0=some r):FnM Tryz.prog 59 #[up0] iI gI wI (fun g w v=>v=.tuple #[]∧OM iI g w 26 r up0):=by
 unfold f59 at h
 refine fnM_of_E Tryz.func59 rfl (Nat.le_of_ble_eq_true rfl) fun g0 hm hfr=>?_
 have d9:=mp0
 replace mp0:=mp0.enter
 rw [← hm] at mp0
 replace hm:g0.m=gI.m:=by rw [hm]
 show E _ 28 none _ _ _ _ _
 refine Zf (Za (Zn up0 rfl rfl ?_))
 refine Zx (.int .i64 ((x0).length:Int)) (P_lenM Tryz.underlying93 rfl mp0) rfl ?_
 refine EL_in (.int .i64 ((w64 (((x0).length:Int) - (1:Int))))) rfl rfl rfl rfl ?_
 refine Zg (.int .i64 (0)) rfl rfl ?_
 refine Zg (.int .i64 ((w64 (((x0).length:Int) - (1:Int))))) rfl rfl ?_
 refine Zb (Zd (Zr ?_))
 refine E_lp h (fun (s:(List (List Int)) × Int × Int) e w=>∃ (g:Gh) ,FrM iI gI wI g w∧e 0=up0∧OM 1 g w 26 (s.1:List (List Int)) up0∧e 2=.int .i64 (s.2.1)∧e 3=.int .i64 (s.2.2)) ⟨g0,hfr,rfl,mp0,rfl,rfl⟩ (fun X1 k1 hk1=>?_)
 rintro ⟨l5,o0,u3⟩ oB w2 ⟨g2,hfr,z9,k8,l8,m8⟩ h
 refine Zq h (fun (s:Unit) e w=>∃ (g:Gh) ,FrM iI gI wI g w∧e 0=up0∧OM 1 g w 26 (l5:List (List Int)) up0∧e 2=.int .i64 (o0)∧e 3=.int .i64 (u3)) (fun X4 k4 hk4 h=>?_) ?_
 ·refine Zf (Za (Zo l8 rfl ?_))
  refine Zo m8 rfl ?_
  refine EL_in (.bool ((decide (o0 < u3)))) rfl rfl rfl rfl ?_
  refine Zb (Zd ?_)
  rcases Zt h with ⟨hc5,h⟩ | ⟨hc5,h⟩
  ·refine E_ct hc5 rfl ?_
   exact Zu (Zd (hk4 () _ _ ⟨g2,hfr,z9,k8,l8,m8⟩ h))
  ·refine E_cf hc5 rfl ?_
   refine E_exit ?_
   refine thn_e ?_
   refine thn_e ?_
   refine blk_hit ?_
   obtain rfl:=sinj h
   exact end0n rfl rfl ⟨_,hfr,rfl,d9.back k8⟩
 ·rintro _ tB w6 ⟨g6, hfr, i6, t5, y6, i7⟩ h
  obtain ⟨x5,hx,h⟩:=Gb h
  refine E_join (fun e w=>∃ (g:Gh) ,FrM iI gI wI g w∧e 0=up0∧OM 1 g w 26 (x5:List (List Int)) up0∧e 2=.int .i64 (o0)∧e 3=.int .i64 (u3)) (fun Q' hQ=>?_) (fun nB vB hR=>?_)
  ·replace h := hx
   clear hx
   refine Zr ?_
   obtain ⟨m7,n8,h⟩:=Gb h
   refine L_loadM (x:=.tmp 20) Tryz.isAgg26 Tryz.sizeOf26 t5 n8 fun yA r8 bA=>?_
   obtain ⟨g8,v8,h⟩:=Gb h
   refine L_loadM (x:=.tmp 24) Tryz.isAgg26 Tryz.sizeOf26 t5 v8 fun aB x6 iA=>?_
   obtain ⟨rA,x8,h⟩:=Gb h
   refine E_drawTL (g:=g6) (n:=13) [2,3] [] [0,1,2,3,4,5,6,7,8,9,10,11,12] rfl mixed (by kernel_rfl) trivial rfl ?_
   refine Ga up0 rfl rfl (Zk i6) ?_
   refine Ga (.int .i64 (o0)) rfl rfl (Zk y6) ?_
   refine L_purL (c:=up0) rfl rfl .plain (Zk i6) ?_
   refine L_purL (c:=.int .i64 (u3)) rfl rfl .plain (Zk i7) ?_
   refine Ga up0 rfl rfl (Zk i6) ?_
   refine Ga (.int .i64 (u3)) rfl rfl (Zk i7) ?_
   refine Ga (ePtr up0 u3 1) rfl rfl (P_indexAddrM (α:=List Int) Tryz.underlying93 Tryz.sizeOf26 rfl t5 rfl n8) ?_
   refine L_ld (c:=yA) rfl rfl .plain (fun _ _ h=>⟨h.ch,fun b hb _=>h.below.block b hb⟩) bA rfl ?_
   refine Ga up0 rfl rfl (Zk i6) ?_
   refine Ga (.int .i64 (o0)) rfl rfl (Zk y6) ?_
   refine Ga (ePtr up0 o0 1) rfl rfl (P_indexAddrM (α:=List Int) Tryz.underlying93 Tryz.sizeOf26 rfl t5 rfl v8) ?_
   refine L_ld (c:=aB) rfl rfl .plain (fun _ _ h=>⟨h.ch,fun b hb _=>h.below.block b hb⟩) iA rfl ?_
   refine Ga (ePtr up0 o0 1) rfl rfl (P_indexAddrM (α:=List Int) Tryz.underlying93 Tryz.sizeOf26 rfl t5 rfl x8) ?_
   refine L_nl fun y9 dB hs=>?_
   have hlt:Lt g6.m w6 y9 dB:=hs.ch
   have hfr:=hfr.ext hs
   have t5:=t5.ext hs
   have r8:=r8.ext hs
   have x6:=x6.ext hs
   clear hs
   refine TL_do hlt.w .plain rfl (D_storeM (g:=y9) (α:=List Int) (a':=m7) Tryz.sizeOf26 rfl t5 x8 rfl r8 fun iB yB hs b54=>?_)
   have hfr:=hfr.stp hs
   have hlt:=hlt.stp hs
   have x6:=x6.stp hs
   obtain ⟨y55,a9,h⟩:=Gb h
   refine TL_pur hlt.w (v:=ePtr up0 u3 1) (P_indexAddrM (α:=List Int) Tryz.underlying93 Tryz.sizeOf26 rfl b54 rfl a9) .plain rfl ?_
   refine TL_do hlt.w .plain rfl (D_storeM (g:=iB) (α:=List Int) (a':=g8) Tryz.sizeOf26 rfl b54 a9 rfl x6 fun lB zB hs b56=>?_)
   have hfr:=hfr.stp hs
   have hlt:=hlt.stp hs
   refine TL_nil hlt.w ?_
   clear hlt
   refine blk_n ?_
   obtain rfl:=sinj h
   exact hQ _ _ ⟨lB,hfr,i6,b56,y6,i7⟩
  ·clear hx
   obtain ⟨mB,hfr,k9,l9,n9,u9⟩:=hR
   refine Za (Zo n9 rfl ?_)
   refine EL_in (.int .i64 ((w64 (o0 + (1:Int))))) rfl rfl rfl rfl ?_
   refine Zo u9 rfl ?_
   refine EL_in (.int .i64 ((w64 (u3 - (1:Int))))) rfl rfl rfl rfl ?_
   refine Zg (.int .i64 ((w64 (o0 + (1:Int))))) rfl rfl ?_
   refine Zg (.int .i64 ((w64 (u3 - (1:Int))))) rfl rfl ?_
   exact Zb (Zd (hk1 (x5,(w64 (o0 + (1:Int))),(w64 (u3 - (1:Int)))) _ _ ⟨mB,hfr,k9,l9,rfl,rfl⟩ h))
def f61 (x0:Int) (z0:Int) (z1:Int):Option (Bool):=
 Option.bind (α:=Bool) (
  bif (decide (x0 < z0)) then
   some (true)
  else
   some ((decide (x0 > z1)))
  ) fun o0=>
 some (o0)
theorem en61:Enters Tryz.prog 61:=enters_of Tryz.func61 (by kernel_rfl) rfl
theorem wk61 {gI:Gh} {wI:World} {x0:Int} {z0:Int} {z1:Int} {pf0:Value} (qf0:PT gI.m wI z0 pf0) {pf1:Value} (qf1:PT gI.m wI z1 pf1) {r:Bool} (h:f61 x0 z0 z1=some r):Fn Tryz.prog 61 #[.int .i64 (x0),pf0,pf1] gI wI (fun _ _ v=>v=.bool (r)):=by
 unfold f61 at h
 refine fn_of_E Tryz.func61 rfl (Nat.le_of_ble_eq_true rfl) fun g0 hm hfr=>?_
 have qf0:PT g0.m wI z0 pf0:=hm ▸ qf0
 have qf1:PT g0.m wI z1 pf1:=hm ▸ qf1
 show E _ 13 none _ _ _ _ _
 refine Zf (Za (Zg (.bool false) rfl rfl ?_))
 refine Zb (Zd ?_)
 obtain ⟨o0,hx,h⟩:=Gb h
 refine E_join (fun e w=>∃ (g:Gh) ,Fr gI wI g w∧e 4=.bool (o0)) (fun Q' hQ=>?_) (fun l5 w7 hR=>?_)
 ·replace h := hx
  clear hx
  refine Za (Zn (.int .i64 (x0)) rfl rfl ?_)
  refine Ze .plain rfl (D_load (g:=g0) Tryz.isAgg3 Tryz.sizeOf3 rfl qf0 fun v4 r4=>?_)
  obtain rfl:=Zj.1 r4
  refine EL_in (.bool ((decide (x0 < z0)))) rfl rfl rfl rfl ?_
  refine Zn (.bool ((decide (x0 < z0)))) rfl rfl ?_
  rcases Zt h with ⟨hc5,h⟩ | ⟨hc5,h⟩
  ·refine Zz rfl rfl hc5 rfl rfl ?_
   refine Zz rfl rfl hc5 rfl rfl ?_
   refine Zz rfl rfl hc5 rfl rfl ?_
   refine Zx (.bool true) (Zl (b:=(decide (x0 < z0))) rfl (pick_t hc5 rfl)) rfl ?_
   refine Zg (.bool true) rfl rfl ?_
   refine Zb ?_
   obtain rfl:=sinj h
   exact hQ _ _ ⟨g0,hfr,rfl⟩
  ·refine Zy (.int .i64 (x0)) (Zk rfl) rfl rfl hc5 rfl ?_
   refine Ze (.yes2 rfl rfl hc5) rfl (D_load (g:=g0) Tryz.isAgg3 Tryz.sizeOf3 rfl qf1 fun v6 r6=>?_)
   obtain rfl:=Zj.1 r6
   refine Zy (.bool ((decide (x0 > z1)))) (P_int rfl rfl rfl) rfl rfl hc5 rfl ?_
   refine Zx (.bool ((decide (x0 > z1)))) (Zl (b:=(decide (x0 < z0))) rfl (pick_f hc5 rfl)) rfl ?_
   refine Zg (.bool ((decide (x0 > z1)))) rfl rfl ?_
   refine Zb ?_
   obtain rfl:=sinj h
   exact hQ _ _ ⟨g0,hfr,rfl⟩
 ·clear hx
  obtain ⟨g7,hfr,u3⟩:=hR
  refine E_ret ?_
  obtain rfl:=sinj h
  exact end1 rfl rfl (show _=.bool (o0) from u3) ⟨_,hfr,rfl⟩
def f67 (x0:List Int) (x1:Int→Option Bool):Option (Int):=
 jn (σ:=Unit) (fun _=>
  some ((-1:Int))
  ) fun k18=>
 lp (σ:=Int) (fun k19 o0=>
  bif (decide (o0 < ((x0).length : Int))) then
   jn (σ:=Unit) (fun _=>
    k19 ((w64 (o0 + (1:Int))))
    ) fun k28=>
   (idx x0 o0).bind fun i7=>
   (x1 i7).bind fun v8=>
   bif v8 then
    some (o0)
   else
    k28 ()
  else
   k18 ()
  ) big ((0:Int))
theorem en67:Enters Tryz.prog 67:=enters_of Tryz.func67 (by kernel_rfl) rfl
theorem wk67 {gI:Gh} {wI:World} {x0:List Int} {x1:Int→Option Bool} {up0:Value} (rp0:RV gI.m wI x0 up0) {up1:Value} (rp1:FnV1 Tryz.prog x1 up1 gI wI) {r:Int} (h:f67 x0 x1=some r):Fn Tryz.prog 67 #[up0,up1] gI wI (fun _ _ v=>v=.int .i64 (r)):=by
 unfold f67 at h
 refine fn_of_E Tryz.func67 rfl (Nat.le_of_ble_eq_true rfl) fun g0 hm hfr=>?_
 have rp0:RV g0.m wI x0 up0:=hm ▸ rp0
 obtain ⟨ff1,fa1,fc1,rfl,fen1,fcl1⟩:=rp1
 show E _ 19 none _ _ _ _ _
 refine Zf (Za (Zg (.int .i64 (0)) rfl rfl ?_))
 refine Zb (Zd (Zq h (fun (s:Unit) e w=>∃ (g:Gh) ,Fr gI wI g w) (fun X18 k18 x8 h=>?_) ?_))
 ·refine Zf (Za (Zn up0 rfl rfl ?_))
  refine Zx (.int .i64 ((x0).length:Int)) (P_len Tryz.underlying26 rfl rp0) rfl ?_
  refine Zn (.int .i64 (0)) rfl rfl ?_
  refine Zb (Zd (Zr ?_))
  refine E_lp h (fun (s:Int) e w=>∃ (g:Gh) ,Fr gI wI g w∧e 0=up0∧RV g.m w (x0:List Int) up0∧e 1=(.func (.func ff1) fa1 fc1)∧e 7=.int .i64 (((x0).length:Int))∧e 8=.int .i64 (s)) ⟨g0,hfr,rfl,rp0,rfl,rfl,rfl⟩ (fun X19 k19 a9=>?_)
  rintro o0 z9 rA ⟨m7,hfr,i6,u3,x6,y6,l5⟩ h
  refine Zf (Za (EL_in (.bool ((decide (o0 < ((x0).length:Int))))) l5 y6 rfl rfl ?_))
  refine Zb (Zd (Zf ?_))
  rcases Zt h with ⟨t5,h⟩ | ⟨t5,h⟩
  ·refine E_ct t5 rfl ?_
   refine Zu (Zd (Zq h (fun (s:Unit) e w=>∃ (g:Gh) ,Fr gI wI g w∧e 0=up0∧RV g.m w (x0:List Int) up0∧e 1=(.func (.func ff1) fa1 fc1)∧e 7=.int .i64 (((x0).length:Int))∧e 8=.int .i64 (o0)) (fun X28 k28 d9 h=>?_) ?_))
   ·refine Zr ?_
    refine Zf (Za (Zo l5 rfl ?_))
    refine Zg (.int .i64 (o0)) rfl rfl ?_
    refine Zb (Zd (Zf (Za (Zo x6 rfl ?_))))
    refine Zo i6 rfl ?_
    refine Zn (.int .i64 (o0)) rfl rfl ?_
    obtain ⟨i7,g8,h⟩:=Gb h
    refine Zx (ePtr up0 o0 1) (Zh (α:=Int) Tryz.underlying26 Tryz.sizeOf3 rfl u3 rfl g8) rfl ?_
    have l9:=PT_idx u3 g8
    refine Ze .plain rfl (D_load (g:=m7) Tryz.isAgg3 Tryz.sizeOf3 rfl l9 fun yA n9=>?_)
    obtain rfl:=Zj.1 n9
    obtain ⟨v8,k9,h⟩:=Gb h
    refine Ze .plain rfl (D_callv (g:=m7) (vs:=[.int .i64 (i7)]) rfl fen1 (.cons rfl .nil) (fcl1 _ _ hfr.ch _ _ _  (Zj.2 rfl) k9) fun u9 aB dB hs hr=>?_)
    have hfr:=hfr.ext hs
    have u3:=u3.ext hs
    obtain rfl:=RV_bool.1 hr
    refine Zb (Zd ?_)
    rcases Zt h with ⟨x5,h⟩ | ⟨x5,h⟩
    ·refine E_ct x5 rfl ?_
     refine Zf (Za (Zn (.int .i64 (o0)) rfl rfl ?_))
     refine Zg (.int .i64 (o0)) rfl rfl ?_
     refine Zb (Zd (E_ret (blk_r ?_)))
     refine thn_r ?_
     refine thn_r ?_
     refine blk_r ?_
     refine thn_r ?_
     obtain rfl:=sinj h
     exact end1 rfl rfl (show _=.int .i64 (o0) from rfl) ⟨_,hfr,rfl⟩
    ·refine E_cf x5 rfl ?_
     exact Zu (blk_n (Zd (d9 () _ _ ⟨u9,hfr,i6,u3,x6,y6,l5⟩ h)))
   ·rintro _ bA iB ⟨y9, hfr, k8, l8, m8, n8, r8⟩ h
    refine Za (EL_in (.int .i64 ((w64 (o0 + (1:Int))))) r8 rfl rfl rfl ?_)
    refine Zn (.int .i64 ((w64 (o0 + (1:Int))))) rfl rfl ?_
    exact Zb (Zd (a9 ((w64 (o0 + (1:Int)))) _ _ ⟨y9,hfr,k8,l8,m8,n8,rfl⟩ h))
  ·refine E_cf t5 rfl ?_
   refine E_exit ?_
   refine thn_e ?_
   refine thn_e ?_
   refine blk_hit ?_
   exact Zd (x8 () _ _ ⟨m7,hfr⟩ h)
 ·rintro _ iA lB ⟨mB, hfr⟩ h
  refine Zf (Za (Zg (.int .i64 (-1)) rfl rfl ?_))
  refine Zb (Zd (E_ret ?_))
  obtain rfl:=sinj h
  exact end1 rfl rfl (show _=.int .i64 (-1) from rfl) ⟨_,hfr,rfl⟩
def f69 (x0:Int) (z0:Int) (z1:Int):Option (Bool):=
 Option.bind (α:=Bool) (
  bif (decide (x0 < z0)) then
   some (true)
  else
   some ((decide (x0 > z1)))
  ) fun o0=>
 some (o0)
theorem en69:Enters Tryz.prog 69:=enters_of Tryz.func69 (by kernel_rfl) rfl
theorem wk69 {gI:Gh} {wI:World} {x0:Int} {z0:Int} {z1:Int} {pf0:Value} (qf0:PT gI.m wI z0 pf0) {pf1:Value} (qf1:PT gI.m wI z1 pf1) {r:Bool} (h:f69 x0 z0 z1=some r):Fn Tryz.prog 69 #[.int .i64 (x0),pf0,pf1] gI wI (fun _ _ v=>v=.bool (r)):=by
 unfold f69 at h
 refine fn_of_E Tryz.func69 rfl (Nat.le_of_ble_eq_true rfl) fun g0 hm hfr=>?_
 have qf0:PT g0.m wI z0 pf0:=hm ▸ qf0
 have qf1:PT g0.m wI z1 pf1:=hm ▸ qf1
 show E _ 13 none _ _ _ _ _
 refine Zf (Za (Zg (.bool false) rfl rfl ?_))
 refine Zb (Zd ?_)
 obtain ⟨o0,hx,h⟩:=Gb h
 refine E_join (fun e w=>∃ (g:Gh) ,Fr gI wI g w∧e 4=.bool (o0)) (fun Q' hQ=>?_) (fun l5 w7 hR=>?_)
 ·replace h := hx
  clear hx
  refine Za (Zn (.int .i64 (x0)) rfl rfl ?_)
  refine Ze .plain rfl (D_load (g:=g0) Tryz.isAgg3 Tryz.sizeOf3 rfl qf0 fun v4 r4=>?_)
  obtain rfl:=Zj.1 r4
  refine EL_in (.bool ((decide (x0 < z0)))) rfl rfl rfl rfl ?_
  refine Zn (.bool ((decide (x0 < z0)))) rfl rfl ?_
  rcases Zt h with ⟨hc5,h⟩ | ⟨hc5,h⟩
  ·refine Zz rfl rfl hc5 rfl rfl ?_
   refine Zz rfl rfl hc5 rfl rfl ?_
   refine Zz rfl rfl hc5 rfl rfl ?_
   refine Zx (.bool true) (Zl (b:=(decide (x0 < z0))) rfl (pick_t hc5 rfl)) rfl ?_
   refine Zg (.bool true) rfl rfl ?_
   refine Zb ?_
   obtain rfl:=sinj h
   exact hQ _ _ ⟨g0,hfr,rfl⟩
  ·refine Zy (.int .i64 (x0)) (Zk rfl) rfl rfl hc5 rfl ?_
   refine Ze (.yes2 rfl rfl hc5) rfl (D_load (g:=g0) Tryz.isAgg3 Tryz.sizeOf3 rfl qf1 fun v6 r6=>?_)
   obtain rfl:=Zj.1 r6
   refine Zy (.bool ((decide (x0 > z1)))) (P_int rfl rfl rfl) rfl rfl hc5 rfl ?_
   refine Zx (.bool ((decide (x0 > z1)))) (Zl (b:=(decide (x0 < z0))) rfl (pick_f hc5 rfl)) rfl ?_
   refine Zg (.bool ((decide (x0 > z1)))) rfl rfl ?_
   refine Zb ?_
   obtain rfl:=sinj h
   exact hQ _ _ ⟨g0,hfr,rfl⟩
 ·clear hx
  obtain ⟨g7,hfr,u3⟩:=hR
  refine E_ret ?_
  obtain rfl:=sinj h
  exact end1 rfl rfl (show _=.bool (o0) from u3) ⟨_,hfr,rfl⟩
def f74 (z0:List Int) (σ:Type) (cons:Cons σ (Int × Int)) (s0:σ):Option σ:=
 lp (σ:=σ × Int) (fun k2 (u3,o0)=>
  jn (σ:=Unit) (fun _=>
   jn (σ:=σ) (fun l5=>
    k2 (l5,(w64 (o0 - (1:Int))))
    ) fun x8=>
   (idx z0 o0).bind fun i7=>
   (cons u3 (o0,i7)).bind fun (i6,t5)=>
   bif (!i6) then
    some t5
   else
    x8 (t5)
   ) fun k5=>
  bif (decide (o0 ≥ (0 : Int))) then
   k5 ()
  else
   some u3
  ) big (s0,(w64 (((z0).length:Int) - (1:Int))))
theorem en74:Enters Tryz.prog 74:=enters_of Tryz.func74 (by kernel_rfl) rfl
theorem wk74 {σ:Type} {cons:Cons σ (Int × Int)} {s0 r:σ} {gI:Gh} {wI:World} {z0:List Int} {pf0:Value} (qf0:PT gI.m wI z0 pf0) (h:f74 z0 σ cons s0=some r):IterC Tryz.prog (RA2 (α:=Int) (β:=Int)) 74 #[] #[pf0] gI wI cons s0 r:=by
 unfold f74 at h
 refine iter_of_E Tryz.func74 rfl (Nat.le_of_ble_eq_true rfl) fun l B J g0 hm hAb hRo hfr=>?_
 have qf0:PT g0.m wI z0 pf0:=hm ▸ qf0
 show E _ 19 none _ _ (envAt #[.func (.yield l) #[] #[],pf0]) _ _
 refine Zf (Za (Ze .plain rfl (D_load (g:=g0) Tryz.isAgg26 Tryz.sizeOf26 rfl qf0 fun v1 r1=>?_)))
 refine Zx (.int .i64 ((z0).length:Int)) (P_len Tryz.underlying26 rfl r1) rfl ?_
 refine EL_in (.int .i64 ((w64 (((z0).length:Int) - (1:Int))))) rfl rfl rfl rfl ?_
 refine Zg (.int .i64 ((w64 (((z0).length:Int) - (1:Int))))) rfl rfl ?_
 refine Zb (Zd (Zr ?_))
 refine E_lp h (fun (s:σ × Int) e w=>∃ (g:Gh) ,FrY gI wI B J (s.1) g w∧e 0=(.func (.yield l) #[] #[])∧e 1=pf0∧PT g.m w (z0:List Int) pf0∧e 3=.int .i64 (s.2)) ⟨g0,hfr,rfl,rfl,qf0,rfl⟩ (fun X2 k2 hk2=>?_)
 rintro ⟨u3,o0⟩ dB w3 ⟨g3,hfr,d9,k9,l9,m7⟩ h
 refine Zq h (fun (s:Unit) e w=>∃ (g:Gh) ,FrY gI wI B J (u3) g w∧e 0=(.func (.yield l) #[] #[])∧e 1=pf0∧PT g.m w (z0:List Int) pf0∧e 3=.int .i64 (o0)) (fun X5 k5 hk5 h=>?_) ?_
 ·refine Zf (Za (Zo m7 rfl ?_))
  refine EL_in (.bool ((decide (o0 ≥ (0:Int))))) rfl rfl rfl rfl ?_
  refine Zb (Zd ?_)
  rcases Zt h with ⟨hc6,h⟩ | ⟨hc6,h⟩
  ·refine E_ct hc6 rfl ?_
   exact Zu (Zd (hk5 () _ _ ⟨g3,hfr,d9,k9,l9,m7⟩ h))
  ·refine E_cf hc6 rfl ?_
   refine E_exit ?_
   refine thn_e ?_
   refine thn_e ?_
   refine blk_hit ?_
   obtain rfl:=sinj h
   exact end0n rfl rfl (FrY.done hfr)
 ·rintro _ iB w7 ⟨g7, hfr, g8, k8, x5, x6⟩ h
  refine Zq h (fun (s:σ) e w=>∃ (g:Gh) ,FrY gI wI B J (s) g w∧e 0=(.func (.yield l) #[] #[])∧e 1=pf0∧PT g.m w (z0:List Int) pf0∧e 3=.int .i64 (o0)) (fun X15 x8 n9 h=>?_) ?_
  ·refine Zr ?_
   refine Zf (Za (Zo g8 rfl ?_))
   refine Zo x6 rfl ?_
   refine Ze .plain rfl (D_load (g:=g7) Tryz.isAgg26 Tryz.sizeOf26 k8 x5 fun y9 a9=>?_)
   refine Zo x6 rfl ?_
   obtain ⟨i7,l8,h⟩:=Gb h
   refine Zx (ePtr y9 o0 1) (Zh (α:=Int) Tryz.underlying26 Tryz.sizeOf3 rfl a9 rfl l8) rfl ?_
   have z9:=PT_idx a9 l8
   refine Ze .plain rfl (D_load (g:=g7) Tryz.isAgg3 Tryz.sizeOf3 rfl z9 fun lB bA=>?_)
   obtain rfl:=Zj.1 bA
   obtain ⟨iA,u9,h⟩:=Gb h
   obtain ⟨i6,t5⟩:=iA
   refine Ze .plain rfl (D_yield (g:=g7) (x:=(o0,i7)) rfl (.cons rfl (.cons rfl .nil)) hRo hfr u9 ⟨_,_,rfl,(Zj.2 rfl),(Zj.2 rfl)⟩ fun rA mB hs hfrY=>?_)
   have x5:=x5.stp hs
   have hfr:=hfrY
   clear hfrY
   refine Zx (.bool (!i6)) (P_not rfl) rfl ?_
   refine Zb (Zd ?_)
   rcases Zt h with ⟨y6,h⟩ | ⟨y6,h⟩
   ·refine E_ct y6 rfl ?_
    refine E_ret (blk_r ?_)
    refine thn_r ?_
    refine thn_r ?_
    refine blk_r ?_
    obtain rfl:=sinj h
    exact end0 rfl rfl (FrY.done hfr)
   ·refine E_cf y6 rfl ?_
    exact Zu (blk_n (Zd (n9 (t5) _ _ ⟨rA,hfr,g8,k8,x5,x6⟩ h)))
  ·rintro l5 aB nB ⟨yA, hfr, m8, n8, r8, v8⟩ h
   refine Za (Zo v8 rfl ?_)
   refine EL_in (.int .i64 ((w64 (o0 - (1:Int))))) rfl rfl rfl rfl ?_
   refine Zg (.int .i64 ((w64 (o0 - (1:Int))))) rfl rfl ?_
   exact Zb (Zd (hk2 (l5,(w64 (o0 - (1:Int)))) _ _ ⟨yA,hfr,m8,n8,r8,rfl⟩ h))
def f78 (x1:It Int):Option ((List Int)):=
 Option.bind (α:=(List Int)) (
  (x1 ((List Int)) (fun i6 t5=>
   (apnd 8 i6 (([t5]:List Int))).bind fun y6=>
   some (true,(y6))
   ) ((([]:List Int):List Int))).bind fun x6=>
  some (x6)
  ) fun x5=>
 some (x5)
theorem en78:Enters Tryz.prog 78:=enters_of Tryz.func78 (by kernel_rfl) rfl
def f79 (z0:Int) (z1:Int) (σ:Type) (cons:Cons σ Int) (s0:σ):Option σ:=
 Option.bind (α:=Int) (
  bif (decide (z0 < z1)) then
   some ((-1:Int))
  else
   some ((1:Int))
  ) fun u3=>
 lp (σ:=σ × Int) (fun k9 (n8,o0)=>
  jn (σ:=σ) (fun i7=>
   k9 (i7,(w64 (o0 + u3)))
   ) fun aB=>
  Option.bind (α:=σ × Bool) (
   (cons n8 o0).bind fun (x6,l8)=>
   bif (!x6) then
    some (l8,true)
   else
    some (l8,(o0 == z0))
   ) fun (x5,t5)=>
  bif t5 then
   some x5
  else
   aB (x5)
  ) big (s0,z1)
theorem en79:Enters Tryz.prog 79:=enters_of Tryz.func79 (by kernel_rfl) rfl
theorem wk79 {σ:Type} {cons:Cons σ Int} {s0 r:σ} {gI:Gh} {wI:World} {z0:Int} {z1:Int} {pf0:Value} (qf0:PT gI.m wI z0 pf0) {pf1:Value} (qf1:PT gI.m wI z1 pf1) (h:f79 z0 z1 σ cons s0=some r):IterC Tryz.prog (RA1 (α:=Int)) 79 #[] #[pf0,pf1] gI wI cons s0 r:=by
 unfold f79 at h
 refine iter_of_E Tryz.func79 rfl (Nat.le_of_ble_eq_true rfl) fun l B J g0 hm hAb hRo hfr=>?_
 have qf0:PT g0.m wI z0 pf0:=hm ▸ qf0
 have qf1:PT g0.m wI z1 pf1:=hm ▸ qf1
 show E _ 22 none _ _ (envAt #[.func (.yield l) #[] #[],pf0,pf1]) _ _
 refine Zf (Za (Zg (.int .i64 (1)) rfl rfl ?_))
 refine Zb (Zd ?_)
 obtain ⟨u3,hx,h⟩:=Gb h
 refine E_join (fun e w=>∃ (g:Gh) ,FrY gI wI B J (s0) g w∧e 0=(.func (.yield l) #[] #[])∧e 1=pf0∧PT g.m w (z0:Int) pf0∧e 2=pf1∧PT g.m w (z1:Int) pf1∧e 4=.int .i64 (u3)) (fun Q' hQ=>?_) (fun bD w7 hR=>?_)
 ·replace h := hx
  clear hx
  refine Zf (Za (Ze .plain rfl (D_load (g:=g0) Tryz.isAgg3 Tryz.sizeOf3 rfl qf0 fun v4 r4=>?_)))
  obtain rfl:=Zj.1 r4
  refine Ze .plain rfl (D_load (g:=g0) Tryz.isAgg3 Tryz.sizeOf3 rfl qf1 fun v5 r5=>?_)
  obtain rfl:=Zj.1 r5
  refine EL_in (.bool ((decide (z0 < z1)))) rfl rfl rfl rfl ?_
  refine Zb (Zd ?_)
  rcases Zt h with ⟨hc6,h⟩ | ⟨hc6,h⟩
  ·refine E_ct hc6 rfl ?_
   refine Za (Zg (.int .i64 (-1)) rfl rfl ?_)
   refine Zb ?_
   obtain rfl:=sinj h
   exact hQ _ _ ⟨g0,hfr,rfl,rfl,qf0,rfl,qf1,rfl⟩
  ·refine E_cf hc6 rfl ?_
   refine Zu ?_
   obtain rfl:=sinj h
   exact hQ _ _ ⟨g0,hfr,rfl,rfl,qf0,rfl,qf1,rfl⟩
 ·clear hx
  obtain ⟨g7,hfr,dB,iB,lB,mB,nB,oB⟩:=hR
  refine Zf (Za (Ze .plain rfl (D_load (g:=g7) Tryz.isAgg3 Tryz.sizeOf3 mB nB fun v8 r8=>?_)))
  obtain rfl:=Zj.1 r8
  refine Zg (.int .i64 (z1)) rfl rfl ?_
  refine Zb (Zd (Zr ?_))
  refine E_lp h (fun (s:σ × Int) e w=>∃ (g:Gh) ,FrY gI wI B J (s.1) g w∧e 0=(.func (.yield l) #[] #[])∧e 1=pf0∧PT g.m w (z0:Int) pf0∧e 4=.int .i64 (u3)∧e 5=.int .i64 (s.2)) ⟨g7,hfr,dB,iB,lB,oB,rfl⟩ (fun X9 k9 yB=>?_)
  rintro ⟨n8,o0⟩ uC cD ⟨zB,hfr,m7,g8,i6,x8,y6⟩ h
  refine Zq h (fun (s:σ) e w=>∃ (g:Gh) ,FrY gI wI B J (s) g w∧e 0=(.func (.yield l) #[] #[])∧e 1=pf0∧PT g.m w (z0:Int) pf0∧e 4=.int .i64 (u3)∧e 5=.int .i64 (o0)) (fun X21 aB tB h=>?_) ?_
  ·refine Zr ?_
   obtain ⟨⟨x5,t5⟩,hx,h⟩:=Gb h
   refine E_join (fun e w=>∃ (g:Gh) ,FrY gI wI B J (x5) g w∧e 0=(.func (.yield l) #[] #[])∧e 1=pf0∧PT g.m w (z0:Int) pf0∧e 4=.int .i64 (u3)∧e 5=.int .i64 (o0)∧e 21=.bool (t5)) (fun Q' hQ=>?_) (fun vC eD hR=>?_)
   ·replace h := hx
    clear hx
    refine Za (Zo m7 rfl ?_)
    refine Zo y6 rfl ?_
    obtain ⟨cC,vB,h⟩:=Gb h
    obtain ⟨x6,l8⟩:=cC
    refine Ze .plain rfl (D_yield (g:=zB) (x:=o0) rfl (.cons rfl .nil) hRo hfr vB ⟨_,rfl,(Zj.2 rfl)⟩ fun d9 gD hs hfrY=>?_)
    have i6:=i6.stp hs
    have hfr:=hfrY
    clear hfrY
    refine Zx (.bool (!x6)) (P_not rfl) rfl ?_
    refine Zn (.bool (!x6)) rfl rfl ?_
    rcases Zt h with ⟨l5,h⟩ | ⟨l5,h⟩
    ·refine Zz rfl rfl l5 rfl rfl ?_
     refine Zz rfl rfl l5 rfl rfl ?_
     refine Zz rfl rfl l5 rfl rfl ?_
     refine Zx (.bool true) (Zl (b:=(!x6)) rfl (pick_t l5 rfl)) rfl ?_
     refine Zb ?_
     obtain ⟨rfl,rfl⟩:=pairs2 h
     exact hQ _ _ ⟨d9,hfr,m7,g8,i6,x8,y6,rfl⟩
    ·refine Zy (.int .i64 (o0)) (Zk y6) rfl rfl l5 rfl ?_
     refine Ze (.yes2 rfl rfl l5) rfl (D_load (g:=d9) Tryz.isAgg3 Tryz.sizeOf3 g8 i6 fun iD mC=>?_)
     obtain rfl:=Zj.1 mC
     refine Zy (.bool ((o0 == z0))) (P_int rfl rfl rfl) rfl rfl l5 rfl ?_
     refine Zx (.bool ((o0 == z0))) (Zl (b:=(!x6)) rfl (pick_f l5 rfl)) rfl ?_
     refine Zb ?_
     obtain ⟨rfl,rfl⟩:=pairs2 h
     exact hQ _ _ ⟨d9,hfr,m7,g8,i6,x8,y6,rfl⟩
   ·clear hx
    obtain ⟨qC,hfr,l9,n9,u9,y9,z9,k8⟩:=hR
    rcases Zt h with ⟨m8,h⟩ | ⟨m8,h⟩
    ·refine E_cond_true (Eq.trans (show ev _ _ = .bool (t5) from k8) (congrArg Value.bool m8)) ?_
     refine E_ret (blk_r ?_)
     refine thn_r ?_
     refine thn_r ?_
     refine blk_r ?_
     obtain rfl:=sinj h
     exact end0 rfl rfl (FrY.done hfr)
    ·refine E_cond_false (Eq.trans (show ev _ _ = .bool (t5) from k8) (congrArg Value.bool m8)) ?_
     exact Zu (blk_n (Zd (tB (x5) _ _ ⟨qC,hfr,l9,n9,u9,y9,z9⟩ h)))
  ·rintro i7 aD jD ⟨rC, hfr, bA, iA, rA, a9, yA⟩ h
   refine Za (Zo yA rfl ?_)
   refine Zo a9 rfl ?_
   refine EL_in (.int .i64 ((w64 (o0 + u3)))) rfl rfl rfl rfl ?_
   refine Zg (.int .i64 ((w64 (o0 + u3)))) rfl rfl ?_
   exact Zb (Zd (yB (i7,(w64 (o0 + u3))) _ _ ⟨rC,hfr,bA,iA,rA,a9,rfl⟩ h))
def f80 (x0:List ChainCard) (x1:ChainCard→Option Bool):Option (Int):=
 jn (σ:=Unit) (fun _=>
  some ((-1:Int))
  ) fun k18=>
 lp (σ:=Int) (fun k19 o0=>
  bif (decide (o0 < ((x0).length : Int))) then
   jn (σ:=Unit) (fun _=>
    k19 ((w64 (o0 + (1:Int))))
    ) fun k28=>
   (idx x0 o0).bind fun r8=>
   (x1 r8).bind fun v8=>
   bif v8 then
    some (o0)
   else
    k28 ()
  else
   k18 ()
  ) big ((0:Int))
theorem en80:Enters Tryz.prog 80:=enters_of Tryz.func80 (by kernel_rfl) rfl
theorem wk80 {gI:Gh} {wI:World} {x0:List ChainCard} {x1:ChainCard→Option Bool} {up0:Value} (rp0:RV gI.m wI x0 up0) {up1:Value} (rp1:FnV1 Tryz.prog x1 up1 gI wI) {r:Int} (h:f80 x0 x1=some r):Fn Tryz.prog 80 #[up0,up1] gI wI (fun _ _ v=>v=.int .i64 (r)):=by
 unfold f80 at h
 refine fn_of_E Tryz.func80 rfl (Nat.le_of_ble_eq_true rfl) fun g0 hm hfr=>?_
 have rp0:RV g0.m wI x0 up0:=hm ▸ rp0
 obtain ⟨ff1,fa1,fc1,rfl,fen1,fcl1⟩:=rp1
 show E _ 19 none _ _ _ _ _
 refine Zf (Za (Zg (.int .i64 (0)) rfl rfl ?_))
 refine Zb (Zd (Zq h (fun (s:Unit) e w=>∃ (g:Gh) ,Fr gI wI g w) (fun X18 k18 x8 h=>?_) ?_))
 ·refine Zf (Za (Zn up0 rfl rfl ?_))
  refine Zx (.int .i64 ((x0).length:Int)) (P_len Tryz.underlying34 rfl rp0) rfl ?_
  refine Zn (.int .i64 (0)) rfl rfl ?_
  refine Zb (Zd (Zr ?_))
  refine E_lp h (fun (s:Int) e w=>∃ (g:Gh) ,Fr gI wI g w∧e 0=up0∧RV g.m w (x0:List ChainCard) up0∧e 1=(.func (.func ff1) fa1 fc1)∧e 7=.int .i64 (((x0).length:Int))∧e 8=.int .i64 (s)) ⟨g0,hfr,rfl,rp0,rfl,rfl,rfl⟩ (fun X19 k19 a9=>?_)
  rintro o0 bA yA ⟨i7,hfr,i6,u3,x6,y6,l5⟩ h
  refine Zf (Za (EL_in (.bool ((decide (o0 < ((x0).length:Int))))) l5 y6 rfl rfl ?_))
  refine Zb (Zd (Zf ?_))
  rcases Zt h with ⟨t5,h⟩ | ⟨t5,h⟩
  ·refine E_ct t5 rfl ?_
   refine Zu (Zd (Zq h (fun (s:Unit) e w=>∃ (g:Gh) ,Fr gI wI g w∧e 0=up0∧RV g.m w (x0:List ChainCard) up0∧e 1=(.func (.func ff1) fa1 fc1)∧e 7=.int .i64 (((x0).length:Int))∧e 8=.int .i64 (o0)) (fun X28 k28 d9 h=>?_) ?_))
   ·refine Zr ?_
    refine Zf (Za (Zo l5 rfl ?_))
    refine Zg (.int .i64 (o0)) rfl rfl ?_
    refine Zb (Zd (Zf (Za (Zo x6 rfl ?_))))
    refine Zo i6 rfl ?_
    refine Zn (.int .i64 (o0)) rfl rfl ?_
    obtain ⟨r8,m7,h⟩:=Gb h
    refine Zx (ePtr up0 o0 3) (Zh (α:=ChainCard) Tryz.underlying34 Tryz.sizeOf62 rfl u3 rfl m7) rfl ?_
    have l9:=PT_idx u3 m7
    refine Ze .plain rfl (D_load (g:=i7) Tryz.isAgg62 Tryz.sizeOf62 rfl l9 fun n9 u9=>?_)
    obtain ⟨v8,k9,h⟩:=Gb h
    refine Ze .plain rfl (D_callv (g:=i7) (vs:=[n9]) rfl fen1 (.cons rfl .nil) (fcl1 _ _ hfr.ch _ _ _  u9 k9) fun y9 aB dB hs hr=>?_)
    have hfr:=hfr.ext hs
    have u3:=u3.ext hs
    obtain rfl:=RV_bool.1 hr
    refine Zb (Zd ?_)
    rcases Zt h with ⟨x5,h⟩ | ⟨x5,h⟩
    ·refine E_ct x5 rfl ?_
     refine Zf (Za (Zn (.int .i64 (o0)) rfl rfl ?_))
     refine Zg (.int .i64 (o0)) rfl rfl ?_
     refine Zb (Zd (E_ret (blk_r ?_)))
     refine thn_r ?_
     refine thn_r ?_
     refine blk_r ?_
     refine thn_r ?_
     obtain rfl:=sinj h
     exact end1 rfl rfl (show _=.int .i64 (o0) from rfl) ⟨_,hfr,rfl⟩
    ·refine E_cf x5 rfl ?_
     exact Zu (blk_n (Zd (d9 () _ _ ⟨y9,hfr,i6,u3,x6,y6,l5⟩ h)))
   ·rintro _ iA iB ⟨z9, hfr, g8, k8, l8, m8, n8⟩ h
    refine Za (EL_in (.int .i64 ((w64 (o0 + (1:Int))))) n8 rfl rfl rfl ?_)
    refine Zn (.int .i64 ((w64 (o0 + (1:Int))))) rfl rfl ?_
    exact Zb (Zd (a9 ((w64 (o0 + (1:Int)))) _ _ ⟨z9,hfr,g8,k8,l8,m8,rfl⟩ h))
  ·refine E_cf t5 rfl ?_
   refine E_exit ?_
   refine thn_e ?_
   refine thn_e ?_
   refine blk_hit ?_
   exact Zd (x8 () _ _ ⟨i7,hfr⟩ h)
 ·rintro _ rA lB ⟨mB, hfr⟩ h
  refine Zf (Za (Zg (.int .i64 (-1)) rfl rfl ?_))
  refine Zb (Zd (E_ret ?_))
  obtain rfl:=sinj h
  exact end1 rfl rfl (show _=.int .i64 (-1) from rfl) ⟨_,hfr,rfl⟩
def f81 (x0:U64):Option (U64):=
 (shr64 ((x0).n) ((8:Int))).bind fun y1=>
 (shlU (bitU .and ((x0).n) ((71777214294589695:Int))) ((8:Int))).bind fun y2=>
 (shr64 (bitU .or (bitU .and y1 ((71777214294589695:Int))) y2) ((16:Int))).bind fun y3=>
 (shlU (bitU .and (bitU .or (bitU .and y1 ((71777214294589695:Int))) y2) ((281470681808895:Int))) ((16:Int))).bind fun y4=>
 (shr64 (bitU .or (bitU .and y3 ((281470681808895:Int))) y4) ((32:Int))).bind fun y5=>
 (shlU (bitU .or (bitU .and y3 ((281470681808895:Int))) y4) ((32:Int))).bind fun y6=>
 some ((⟨bitU .or y5 y6⟩:U64))
theorem en81:Enters Tryz.prog 81:=enters_of Tryz.func81 (by kernel_rfl) rfl
theorem wk81 {gI:Gh} {wI:World} {x0:U64}  {r:U64} (h:f81 x0=some r):Fn Tryz.prog 81 #[.int .u64 ((x0).n)] gI wI (fun _ _ v=>v=.int .u64 ((r).n)):=by
 unfold f81 at h
 refine fn_of_E Tryz.func81 rfl (Nat.le_of_ble_eq_true rfl) fun g0 hm hfr=>?_
 show E _ 22 none _ _ _ _ _
 refine Zf (Za (Zg (.int .u64 (0)) rfl rfl ?_))
 refine Zb (Zd (Zf (Za (Zn (.int .u64 ((x0).n)) rfl rfl ?_))))
 obtain ⟨y1,hy1,h⟩:=Gb h
 refine Zx (.int .u64 (y1)) (P_shrU rfl rfl hy1) rfl ?_
 refine Zx (.int .u64 (bitU .and y1 ((71777214294589695:Int)))) (P_bitU (by simp) rfl rfl) rfl ?_
 refine Zn (.int .u64 ((x0).n)) rfl rfl ?_
 refine Zx (.int .u64 (bitU .and ((x0).n) ((71777214294589695:Int)))) (P_bitU (by simp) rfl rfl) rfl ?_
 obtain ⟨y2,hy2,h⟩:=Gb h
 refine Zx (.int .u64 (y2)) (P_shlU rfl rfl hy2) rfl ?_
 refine Zx (.int .u64 (bitU .or (bitU .and y1 ((71777214294589695:Int))) y2)) (P_bitU (by simp) rfl rfl) rfl ?_
 refine Zg (.int .u64 (bitU .or (bitU .and y1 ((71777214294589695:Int))) y2)) rfl rfl ?_
 refine Zb (Zd (Zf (Za (Zn (.int .u64 (bitU .or (bitU .and y1 ((71777214294589695:Int))) y2)) rfl rfl ?_))))
 obtain ⟨y3,hy3,h⟩:=Gb h
 refine Zx (.int .u64 (y3)) (P_shrU rfl rfl hy3) rfl ?_
 refine Zx (.int .u64 (bitU .and y3 ((281470681808895:Int)))) (P_bitU (by simp) rfl rfl) rfl ?_
 refine Zn (.int .u64 (bitU .or (bitU .and y1 ((71777214294589695:Int))) y2)) rfl rfl ?_
 refine Zx (.int .u64 (bitU .and (bitU .or (bitU .and y1 ((71777214294589695:Int))) y2) ((281470681808895:Int)))) (P_bitU (by simp) rfl rfl) rfl ?_
 obtain ⟨y4,o0,h⟩:=Gb h
 refine Zx (.int .u64 (y4)) (P_shlU rfl rfl o0) rfl ?_
 refine Zx (.int .u64 (bitU .or (bitU .and y3 ((281470681808895:Int))) y4)) (P_bitU (by simp) rfl rfl) rfl ?_
 refine Zg (.int .u64 (bitU .or (bitU .and y3 ((281470681808895:Int))) y4)) rfl rfl ?_
 refine Zb (Zd (Zf (Za (Zn (.int .u64 (bitU .or (bitU .and y3 ((281470681808895:Int))) y4)) rfl rfl ?_))))
 obtain ⟨y5,hy5,h⟩:=Gb h
 refine Zx (.int .u64 (y5)) (P_shrU rfl rfl hy5) rfl ?_
 refine Zn (.int .u64 (bitU .or (bitU .and y3 ((281470681808895:Int))) y4)) rfl rfl ?_
 obtain ⟨y6,u3,h⟩:=Gb h
 refine Zx (.int .u64 (y6)) (P_shlU rfl rfl u3) rfl ?_
 refine Zx (.int .u64 (bitU .or y5 y6)) (P_bitU (by simp) rfl rfl) rfl ?_
 refine Zg (.int .u64 (bitU .or y5 y6)) rfl rfl ?_
 refine Zb (Zd (E_ret ?_))
 obtain rfl:=sinj h
 exact end1 rfl rfl (show _=.int .u64 (bitU .or y5 y6) from rfl) ⟨_,hfr,rfl⟩
def f83 (x0:Str) (x1:UInt8):Option (Str):=
 Option.bind (α:=Str) (
  lp (σ:=Str) (fun k18 o0=>
   jn (σ:=Unit) (fun _=>
    (cut (o0).b (1:Int) ((o0).b.length:Int)).bind fun x6=>
    k18 ((⟨x6⟩:Str))
    ) fun r8=>
   Option.bind (α:=Bool) (
    bif (decide (((o0).b.length : Int) > (0 : Int))) then
     (idx (o0).b (0:Int)).bind fun y6=>
     some ((y6 == x1))
    else
     some (false)
    ) fun l5=>
   bif l5 then
    r8 ()
   else
    some (o0)
   ) big (x0)
  ) fun t5=>
 some (t5)
theorem en83:Enters Tryz.prog 83:=enters_of Tryz.func83 (by kernel_rfl) rfl
theorem wk83 {gI:Gh} {wI:World} {x0:Str} {x1:UInt8}  {r:Str} (h:f83 x0 x1=some r):Fn Tryz.prog 83 #[Str.v (x0),.int .u8 (UInt8.toNat (x1))] gI wI (fun _ _ v=>v=Str.v (r)):=by
 unfold f83 at h
 refine fn_of_E Tryz.func83 rfl (Nat.le_of_ble_eq_true rfl) fun g0 hm hfr=>?_
 show E _ 17 none _ _ _ _ _
 refine Zf (Za (Zg (Str.v (⟨[]⟩:Str)) rfl rfl ?_))
 refine Zb (Zd ?_)
 obtain ⟨t5,hx,h⟩:=Gb h
 refine E_join (fun e w=>∃ (g:Gh) ,Fr gI wI g w∧e 0=Str.v (t5)) (fun Q' hQ=>?_) (fun u9 iA hR=>?_)
 ·replace h := hx
  clear hx
  refine Zr ?_
  refine E_lp h (fun (s:Str) e w=>∃ (g:Gh) ,Fr gI wI g w∧e 0=Str.v (s)∧e 1=.int .u8 (UInt8.toNat (x1))) ⟨g0,hfr,rfl,rfl⟩ (fun X18 k18 a9=>?_)
  rintro o0 y9 rA ⟨v8,hfr,x5,i6⟩ h
  refine Zq h (fun (s:Unit) e w=>∃ (g:Gh) ,Fr gI wI g w∧e 0=Str.v (o0)∧e 1=.int .u8 (UInt8.toNat (x1))) (fun X26 r8 d9 h=>?_) ?_
  ·obtain ⟨l5, hx, h⟩ := Gb h
   refine E_join (fun e w=>∃ (g:Gh) ,Fr gI wI g w∧e 0=Str.v (o0)∧e 1=.int .u8 (UInt8.toNat (x1))∧e 13=.bool (l5)) (fun Q' hQ=>?_) (fun z9 yA hR=>?_)
   ·replace h := hx
    clear hx
    refine Za (Zo x5 rfl ?_)
    refine Zx (.int .i64 ((o0).b.length:Int)) (P_lenS Tryz.underlying9 rfl) rfl ?_
    refine EL_in (.bool ((decide (((o0).b.length:Int) > (0:Int))))) rfl rfl rfl rfl ?_
    refine Zn (.bool ((decide (((o0).b.length:Int) > (0:Int))))) rfl rfl ?_
    rcases Zt h with ⟨u3,h⟩ | ⟨u3,h⟩
    ·refine Zy (Str.v (o0)) (Zk x5) rfl rfl u3 rfl ?_
     obtain ⟨y6,k9,h⟩:=Gb h
     refine Zy (.int .u8 (UInt8.toNat (y6))) (P_indexS Tryz.underlying9 rfl rfl k9) rfl rfl u3 rfl ?_
     refine Zy (.int .u8 (UInt8.toNat (x1))) (Zk i6) rfl rfl u3 rfl ?_
     refine Zy (.bool ((y6 == x1))) (P_u8 rfl rfl rfl) rfl rfl u3 rfl ?_
     refine Zx (.bool ((y6 == x1))) (Zl (b:=(decide (((o0).b.length:Int) > (0:Int)))) rfl (pick_t u3 rfl)) rfl ?_
     refine Zb ?_
     obtain rfl:=sinj h
     exact hQ _ _ ⟨v8,hfr,x5,i6,rfl⟩
    ·refine Zz rfl rfl u3 rfl rfl ?_
     iterate 3 refine Zz rfl rfl u3 rfl rfl ?_
     refine Zx (.bool false) (Zl (b:=(decide (((o0).b.length:Int) > (0:Int)))) rfl (pick_f u3 rfl)) rfl ?_
     refine Zb ?_
     obtain rfl:=sinj h
     exact hQ _ _ ⟨v8,hfr,x5,i6,rfl⟩
   ·clear hx
    obtain ⟨x8,hfr,g8,k8,i7⟩:=hR
    rcases Zt h with ⟨m7,h⟩ | ⟨m7,h⟩
    ·refine E_cond_true (Eq.trans (show ev _ _ = .bool (l5) from i7) (congrArg Value.bool m7)) ?_
     exact Zu (Zd (d9 () _ _ ⟨x8,hfr,g8,k8⟩ h))
    ·refine E_cond_false (Eq.trans (show ev _ _ = .bool (l5) from i7) (congrArg Value.bool m7)) ?_
     refine E_exit ?_
     refine thn_e ?_
     refine thn_e ?_
     refine blk_hit ?_
     obtain rfl:=sinj h
     exact hQ _ _ ⟨x8,hfr,g8⟩
  ·rintro _ bA aB ⟨n9, hfr, l8, m8⟩ h
   refine Zr ?_
   refine Za (Zo l8 rfl ?_)
   obtain ⟨x6,l9,h⟩:=Gb h
   refine Zx (Str.v (⟨x6⟩:Str)) (P_sliceS Tryz.underlying9 rfl rfl rfl l9) rfl ?_
   refine Zg (Str.v (⟨x6⟩:Str)) rfl rfl ?_
   exact Zb (blk_n (Zd (a9 ((⟨x6⟩:Str)) _ _ ⟨n9,hfr,rfl,m8⟩ h)))
 ·clear hx
  obtain ⟨dB,hfr,n8⟩:=hR
  refine Zf (Za (Zo n8 rfl ?_))
  refine Zg (Str.v (t5)) rfl rfl ?_
  refine Zb (Zd (E_ret ?_))
  obtain rfl:=sinj h
  exact end1 rfl rfl (show _=Str.v (t5) from rfl) ⟨_,hfr,rfl⟩
def f84 (x0:Str) (x1:UInt8):Option (Str):=
 Option.bind (α:=Str) (
  lp (σ:=Str) (fun k18 o0=>
   jn (σ:=Unit) (fun _=>
    (cut (o0).b 0 (w64 (((o0).b.length:Int) - (1:Int)))).bind fun x6=>
    k18 ((⟨x6⟩:Str))
    ) fun r8=>
   Option.bind (α:=Bool) (
    bif (decide (((o0).b.length : Int) > (0 : Int))) then
     (idx (o0).b (w64 (((o0).b.length:Int) - (1:Int)))).bind fun y6=>
     some ((y6 == x1))
    else
     some (false)
    ) fun l5=>
   bif l5 then
    r8 ()
   else
    some (o0)
   ) big (x0)
  ) fun t5=>
 some (t5)
theorem en84:Enters Tryz.prog 84:=enters_of Tryz.func84 (by kernel_rfl) rfl
theorem wk84 {gI:Gh} {wI:World} {x0:Str} {x1:UInt8}  {r:Str} (h:f84 x0 x1=some r):Fn Tryz.prog 84 #[Str.v (x0),.int .u8 (UInt8.toNat (x1))] gI wI (fun _ _ v=>v=Str.v (r)):=by
 unfold f84 at h
 refine fn_of_E Tryz.func84 rfl (Nat.le_of_ble_eq_true rfl) fun g0 hm hfr=>?_
 show E _ 23 none _ _ _ _ _
 refine Zf (Za (Zg (Str.v (⟨[]⟩:Str)) rfl rfl ?_))
 refine Zb (Zd ?_)
 obtain ⟨t5,hx,h⟩:=Gb h
 refine E_join (fun e w=>∃ (g:Gh) ,Fr gI wI g w∧e 0=Str.v (t5)) (fun Q' hQ=>?_) (fun u9 iA hR=>?_)
 ·replace h := hx
  clear hx
  refine Zr ?_
  refine E_lp h (fun (s:Str) e w=>∃ (g:Gh) ,Fr gI wI g w∧e 0=Str.v (s)∧e 1=.int .u8 (UInt8.toNat (x1))) ⟨g0,hfr,rfl,rfl⟩ (fun X18 k18 a9=>?_)
  rintro o0 y9 rA ⟨v8,hfr,x5,i6⟩ h
  refine Zq h (fun (s:Unit) e w=>∃ (g:Gh) ,Fr gI wI g w∧e 0=Str.v (o0)∧e 1=.int .u8 (UInt8.toNat (x1))) (fun X26 r8 d9 h=>?_) ?_
  ·obtain ⟨l5, hx, h⟩ := Gb h
   refine E_join (fun e w=>∃ (g:Gh) ,Fr gI wI g w∧e 0=Str.v (o0)∧e 1=.int .u8 (UInt8.toNat (x1))∧e 16=.bool (l5)) (fun Q' hQ=>?_) (fun z9 yA hR=>?_)
   ·replace h := hx
    clear hx
    refine Za (Zo x5 rfl ?_)
    refine Zx (.int .i64 ((o0).b.length:Int)) (P_lenS Tryz.underlying9 rfl) rfl ?_
    refine EL_in (.bool ((decide (((o0).b.length:Int) > (0:Int))))) rfl rfl rfl rfl ?_
    refine Zn (.bool ((decide (((o0).b.length:Int) > (0:Int))))) rfl rfl ?_
    rcases Zt h with ⟨u3,h⟩ | ⟨u3,h⟩
    ·refine Zy (Str.v (o0)) (Zk x5) rfl rfl u3 rfl ?_
     refine Zy (Str.v (o0)) (Zk x5) rfl rfl u3 rfl ?_
     refine Zy (.int .i64 ((o0).b.length:Int)) (P_lenS Tryz.underlying9 rfl) rfl rfl u3 rfl ?_
     refine Zy (.int .i64 ((w64 (((o0).b.length:Int) - (1:Int))))) (P_int rfl rfl rfl) rfl rfl u3 rfl ?_
     obtain ⟨y6,k9,h⟩:=Gb h
     refine Zy (.int .u8 (UInt8.toNat (y6))) (P_indexS Tryz.underlying9 rfl rfl k9) rfl rfl u3 rfl ?_
     refine Zy (.int .u8 (UInt8.toNat (x1))) (Zk i6) rfl rfl u3 rfl ?_
     refine Zy (.bool ((y6 == x1))) (P_u8 rfl rfl rfl) rfl rfl u3 rfl ?_
     refine Zx (.bool ((y6 == x1))) (Zl (b:=(decide (((o0).b.length:Int) > (0:Int)))) rfl (pick_t u3 rfl)) rfl ?_
     refine Zb ?_
     obtain rfl:=sinj h
     exact hQ _ _ ⟨v8,hfr,x5,i6,rfl⟩
    ·refine Zz rfl rfl u3 rfl rfl ?_
     iterate 6 refine Zz rfl rfl u3 rfl rfl ?_
     refine Zx (.bool false) (Zl (b:=(decide (((o0).b.length:Int) > (0:Int)))) rfl (pick_f u3 rfl)) rfl ?_
     refine Zb ?_
     obtain rfl:=sinj h
     exact hQ _ _ ⟨v8,hfr,x5,i6,rfl⟩
   ·clear hx
    obtain ⟨x8,hfr,g8,l8,i7⟩:=hR
    rcases Zt h with ⟨m7,h⟩ | ⟨m7,h⟩
    ·refine E_cond_true (Eq.trans (show ev _ _ = .bool (l5) from i7) (congrArg Value.bool m7)) ?_
     exact Zu (Zd (d9 () _ _ ⟨x8,hfr,g8,l8⟩ h))
    ·refine E_cond_false (Eq.trans (show ev _ _ = .bool (l5) from i7) (congrArg Value.bool m7)) ?_
     refine E_exit ?_
     refine thn_e ?_
     refine thn_e ?_
     refine blk_hit ?_
     obtain rfl:=sinj h
     exact hQ _ _ ⟨x8,hfr,g8⟩
  ·rintro _ bA aB ⟨n9, hfr, k8, m8⟩ h
   refine Zr ?_
   refine Za (Zo k8 rfl ?_)
   refine Zo k8 rfl ?_
   refine Zx (.int .i64 ((o0).b.length:Int)) (P_lenS Tryz.underlying9 rfl) rfl ?_
   refine EL_in (.int .i64 ((w64 (((o0).b.length:Int) - (1:Int))))) rfl rfl rfl rfl ?_
   obtain ⟨x6,l9,h⟩:=Gb h
   refine Zx (Str.v (⟨x6⟩:Str)) (P_sliceS Tryz.underlying9 rfl rfl rfl l9) rfl ?_
   refine Zg (Str.v (⟨x6⟩:Str)) rfl rfl ?_
   exact Zb (blk_n (Zd (a9 ((⟨x6⟩:Str)) _ _ ⟨n9,hfr,rfl,m8⟩ h)))
 ·clear hx
  obtain ⟨dB,hfr,n8⟩:=hR
  refine Zf (Za (Zo n8 rfl ?_))
  refine Zg (Str.v (t5)) rfl rfl ?_
  refine Zb (Zd (E_ret ?_))
  obtain rfl:=sinj h
  exact end1 rfl rfl (show _=Str.v (t5) from rfl) ⟨_,hfr,rfl⟩
def f85 (x0:Str):Option ((Vector Bool 256) × Bool):=
 jn (σ:=(Vector Bool 256)) (fun g8=>
  some (g8,true)
  ) fun yA=>
 lp (σ:=(Vector Bool 256) × Int) (fun aB (u3,o0)=>
  jn (σ:=Unit) (fun _=>
   jn (σ:=(Vector Bool 256)) (fun i6=>
    aB (i6,(w64 (o0 + (1:Int))))
    ) fun dB=>
   (idx (x0).b o0).bind fun l5=>
   jn (σ:=(Vector Bool 256)) (fun t5=>
    (idx (t5).toList ((l5).toNat:Int)).bind fun rC=>
    dB ((vset t5 (((l5).toNat:Int)) true))
    ) fun iB=>
   bif (decide ((128 : UInt8) ≤ l5)) then
    some (u3,false)
   else
    iB (u3)
   ) fun lB=>
  bif (decide (o0 < ((x0).b.length : Int))) then
   lB ()
  else
   yA (u3)
  ) big (((Vector.replicate 256 false):Vector Bool 256),(0:Int))
theorem en85:Enters Tryz.prog 85:=enters_of Tryz.func85 (by kernel_rfl) rfl
theorem wk85 {gI:Gh} {wI:World} {x0:Str}  {r:(Vector Bool 256) × Bool} (h:f85 x0=some r):Fn Tryz.prog 85 #[Str.v (x0)] gI wI (fun m w v=>∃ y0 y1,v=.tuple #[y0,y1]∧RV m w (r.1) y0∧y1=.bool (r.2)):=by
 unfold f85 at h
 refine fn_of_E Tryz.func85 rfl (Nat.le_of_ble_eq_true rfl) fun g0 hm hfr=>?_
 show E _ 21 none _ _ _ _ _
 refine Zf (Za (Ze .plain rfl (D_allocOc (g:=g0) 2002 ((Vector.replicate 256 false):Vector Bool 256) Tryz.zeroValue150 (fun m w=>⟨_,(rep_replicate rep_bool),by kernel_rfl⟩) fun g1 w1 p1 hs b1 cb=>?_)))
 have hfr:=hfr.stp hs
 clear cb
 refine Zg (.bool false) rfl rfl ?_
 refine Zb (Zd (Zq h (fun (s:(Vector Bool 256)) e w=>∃ (g:Gh) ,Fr gI wI g w∧e 2=p1∧OB 2002 g w 150 (s:Vector Bool 256) p1) (fun X38 yA oB h=>?_) ?_))
 ·refine Zf (Za (Zg (.int .i64 (0)) rfl rfl ?_))
  refine Zb (Zd (Zr ?_))
  refine E_lp h (fun (s:(Vector Bool 256) × Int) e w=>∃ (g:Gh) ,Fr gI wI g w∧e 0=Str.v (x0)∧e 2=p1∧OB 2002 g w 150 (s.1:Vector Bool 256) p1∧e 4=.int .i64 (s.2)) ⟨g1,hfr,rfl,rfl,b1,rfl⟩ (fun X39 aB tB=>?_)
  rintro ⟨u3,o0⟩ iD sD ⟨mB,hfr,k8,l8,m8,n8⟩ h
  refine Zq h (fun (s:Unit) e w=>∃ (g:Gh) ,Fr gI wI g w∧e 0=Str.v (x0)∧e 2=p1∧OB 2002 g w 150 (u3:Vector Bool 256) p1∧e 4=.int .i64 (o0)) (fun X42 lB vB h=>?_) ?_
  ·refine Zf (Za (Zo n8 rfl ?_))
   refine Zo k8 rfl ?_
   refine Zx (.int .i64 ((x0).b.length:Int)) (P_lenS Tryz.underlying9 rfl) rfl ?_
   refine EL_in (.bool ((decide (o0 < ((x0).b.length:Int))))) rfl rfl rfl rfl ?_
   refine Zb (Zd ?_)
   rcases Zt h with ⟨i7,h⟩ | ⟨i7,h⟩
   ·refine E_ct i7 rfl ?_
    exact Zu (Zd (vB () _ _ ⟨mB,hfr,k8,l8,m8,n8⟩ h))
   ·refine E_cf i7 rfl ?_
    refine E_exit ?_
    refine thn_e ?_
    refine thn_e ?_
    refine blk_hit ?_
    exact Zd (oB (u3) _ _ ⟨mB,hfr,l8,m8⟩ h)
  ·rintro _ jD tD ⟨k9, hfr, r8, x5, x6, v8⟩ h
   refine Zq h (fun (s:(Vector Bool 256)) e w=>∃ (g:Gh) ,Fr gI wI g w∧e 0=Str.v (x0)∧e 2=p1∧OB 2002 g w 150 (s:Vector Bool 256) p1∧e 4=.int .i64 (o0)) (fun X59 dB yB h=>?_) ?_
   ·refine Zr ?_
    refine Zf (Za (Zo r8 rfl ?_))
    refine Zo v8 rfl ?_
    obtain ⟨l5,zB,h⟩:=Gb h
    refine Zx (.int .u8 (UInt8.toNat (l5))) (P_indexS Tryz.underlying9 rfl rfl zB) rfl ?_
    refine Zg (.int .u8 (UInt8.toNat (l5))) rfl rfl ?_
    refine Zb (Zd (Zq h (fun (s:(Vector Bool 256)) e w=>∃ (g:Gh) ,Fr gI wI g w∧e 0=Str.v (x0)∧e 2=p1∧OB 2002 g w 150 (s:Vector Bool 256) p1∧e 4=.int .i64 (o0)∧e 5=.int .u8 (UInt8.toNat (l5))) (fun X66 iB cC h=>?_) ?_))
    ·refine Zf (Za (Zn (.int .u8 (UInt8.toNat (l5))) rfl rfl ?_))
     refine Zx (.bool ((decide ((128:UInt8) ≤ l5)))) (P_u8 rfl rfl rfl) rfl ?_
     refine Zb (Zd ?_)
     rcases Zt h with ⟨m7,h⟩ | ⟨m7,h⟩
     ·refine E_ct m7 rfl ?_
      refine Zf (Za (Ze .plain rfl (D_loadO (g:=k9) Tryz.isAgg150 Tryz.sizeOf150 x5 x6 fun uC vC=>?_)))
      refine Ze .plain rfl (D_storeOc (g:=k9) (v:=uC) Tryz.sizeOf150 x5 x6 rfl vC fun uD vD hs b69 cb=>?_)
      clear cb
      have hfr:=hfr.stp hs
      refine Zg (.bool false) rfl rfl ?_
      refine Zb (Zd (E_ret (thn_r ?_)))
      refine blk_r ?_
      refine thn_r ?_
      refine thn_r ?_
      refine blk_r ?_
      refine thn_r ?_
      obtain rfl:=sinj h
      obtain ⟨ad70,cv70,hp70,mC,cr70⟩:=ob_read Tryz.isAgg150 Tryz.sizeOf150 b69
      exact endm_ct rfl rfl ((show _=p1 from x5).trans hp70) mC (show _=.bool false from rfl) ⟨_,hfr,_,_,rfl,cr70,rfl⟩
     ·refine E_cf m7 rfl ?_
      exact Zu (Zd (cC (u3) _ _ ⟨k9,hfr,r8,x5,x6,v8,rfl⟩ h))
    ·rintro t5 lD xD ⟨aD, hfr, n9, x8, a9, u9, y9⟩ h
     refine Za (Zo y9 rfl ?_)
     obtain ⟨rC,l9,h⟩:=Gb h
     obtain ⟨hi73,he73⟩:=vat_idx l9
     refine Zx (fPtr p1 ((((l5).toNat:Int):Int).toNat * 1)) (P_indexAddrA (α:=Bool) Tryz.underlying150 Tryz.sizeOf4 x8 (OB.ptr a9) rfl l9) rfl ?_
     refine Ze .plain rfl (D_storeFc (g:=aD) (SubS.dyn hi73) Tryz.sizeOf4 rfl a9 rfl (RV_bool.2 rfl) fun bD yD hs b74 rst hos=>?_)
     clear rst hos
     have hfr:=hfr.stp hs
     exact Zb (blk_n (Zd (yB ((vset t5 (((l5).toNat:Int)) true)) _ _ ⟨bD,hfr,n9,x8,b74,u9⟩ h)))
   ·rintro i6 nD zD ⟨cD, hfr, z9, bA, iA, rA⟩ h
    refine Za (Zo rA rfl ?_)
    refine EL_in (.int .i64 ((w64 (o0 + (1:Int))))) rfl rfl rfl rfl ?_
    refine Zg (.int .i64 ((w64 (o0 + (1:Int))))) rfl rfl ?_
    exact Zb (Zd (tB (i6,(w64 (o0 + (1:Int)))) _ _ ⟨cD,hfr,z9,bA,iA,rfl⟩ h))
 ·rintro g8 oD aE ⟨nB, hfr, y6, d9⟩ h
  refine Zf (Za (Ze .plain rfl (D_loadO (g:=nB) Tryz.isAgg150 Tryz.sizeOf150 y6 d9 fun eD gD=>?_)))
  refine Ze .plain rfl (D_storeOc (g:=nB) (v:=eD) Tryz.sizeOf150 y6 d9 rfl gD fun bE iE hs b78 cb=>?_)
  clear cb
  have hfr:=hfr.stp hs
  refine Zg (.bool true) rfl rfl ?_
  refine Zb (Zd (E_ret ?_))
  obtain rfl:=sinj h
  obtain ⟨ad79,cv79,hp79,qC,cr79⟩:=ob_read Tryz.isAgg150 Tryz.sizeOf150 b78
  exact endm_ct rfl rfl ((show _=p1 from y6).trans hp79) qC (show _=.bool true from rfl) ⟨_,hfr,_,_,rfl,cr79,rfl⟩
def f90 (x0:List Str) (x1:Str→Option Bool):Option (Int):=
 jn (σ:=Unit) (fun _=>
  some ((-1:Int))
  ) fun k18=>
 lp (σ:=Int) (fun k19 o0=>
  bif (decide (o0 < ((x0).length : Int))) then
   jn (σ:=Unit) (fun _=>
    k19 ((w64 (o0 + (1:Int))))
    ) fun k28=>
   (idx x0 o0).bind fun i7=>
   (x1 i7).bind fun v8=>
   bif v8 then
    some (o0)
   else
    k28 ()
  else
   k18 ()
  ) big ((0:Int))
theorem en90:Enters Tryz.prog 90:=enters_of Tryz.func90 (by kernel_rfl) rfl
theorem wk90 {gI:Gh} {wI:World} {x0:List Str} {x1:Str→Option Bool} {up0:Value} (rp0:RV gI.m wI x0 up0) {up1:Value} (rp1:FnV1 Tryz.prog x1 up1 gI wI) {r:Int} (h:f90 x0 x1=some r):Fn Tryz.prog 90 #[up0,up1] gI wI (fun _ _ v=>v=.int .i64 (r)):=by
 unfold f90 at h
 refine fn_of_E Tryz.func90 rfl (Nat.le_of_ble_eq_true rfl) fun g0 hm hfr=>?_
 have rp0:RV g0.m wI x0 up0:=hm ▸ rp0
 obtain ⟨ff1,fa1,fc1,rfl,fen1,fcl1⟩:=rp1
 show E _ 19 none _ _ _ _ _
 refine Zf (Za (Zg (.int .i64 (0)) rfl rfl ?_))
 refine Zb (Zd (Zq h (fun (s:Unit) e w=>∃ (g:Gh) ,Fr gI wI g w) (fun X18 k18 x8 h=>?_) ?_))
 ·refine Zf (Za (Zn up0 rfl rfl ?_))
  refine Zx (.int .i64 ((x0).length:Int)) (P_len Tryz.underlying47 rfl rp0) rfl ?_
  refine Zn (.int .i64 (0)) rfl rfl ?_
  refine Zb (Zd (Zr ?_))
  refine E_lp h (fun (s:Int) e w=>∃ (g:Gh) ,Fr gI wI g w∧e 0=up0∧RV g.m w (x0:List Str) up0∧e 1=(.func (.func ff1) fa1 fc1)∧e 7=.int .i64 (((x0).length:Int))∧e 8=.int .i64 (s)) ⟨g0,hfr,rfl,rp0,rfl,rfl,rfl⟩ (fun X19 k19 a9=>?_)
  rintro o0 z9 rA ⟨m7,hfr,i6,u3,x6,y6,l5⟩ h
  refine Zf (Za (EL_in (.bool ((decide (o0 < ((x0).length:Int))))) l5 y6 rfl rfl ?_))
  refine Zb (Zd (Zf ?_))
  rcases Zt h with ⟨t5,h⟩ | ⟨t5,h⟩
  ·refine E_ct t5 rfl ?_
   refine Zu (Zd (Zq h (fun (s:Unit) e w=>∃ (g:Gh) ,Fr gI wI g w∧e 0=up0∧RV g.m w (x0:List Str) up0∧e 1=(.func (.func ff1) fa1 fc1)∧e 7=.int .i64 (((x0).length:Int))∧e 8=.int .i64 (o0)) (fun X28 k28 d9 h=>?_) ?_))
   ·refine Zr ?_
    refine Zf (Za (Zo l5 rfl ?_))
    refine Zg (.int .i64 (o0)) rfl rfl ?_
    refine Zb (Zd (Zf (Za (Zo x6 rfl ?_))))
    refine Zo i6 rfl ?_
    refine Zn (.int .i64 (o0)) rfl rfl ?_
    obtain ⟨i7,g8,h⟩:=Gb h
    refine Zx (ePtr up0 o0 1) (Zh (α:=Str) Tryz.underlying47 Tryz.sizeOf9 rfl u3 rfl g8) rfl ?_
    have l9:=PT_idx u3 g8
    refine Ze .plain rfl (D_load (g:=m7) Tryz.isAgg9 Tryz.sizeOf9 rfl l9 fun yA n9=>?_)
    obtain rfl:=RV_str.1 n9
    obtain ⟨v8,k9,h⟩:=Gb h
    refine Ze .plain rfl (D_callv (g:=m7) (vs:=[Str.v (i7)]) rfl fen1 (.cons rfl .nil) (fcl1 _ _ hfr.ch _ _ _  (RV_str.2 rfl) k9) fun u9 aB dB hs hr=>?_)
    have hfr:=hfr.ext hs
    have u3:=u3.ext hs
    obtain rfl:=RV_bool.1 hr
    refine Zb (Zd ?_)
    rcases Zt h with ⟨x5,h⟩ | ⟨x5,h⟩
    ·refine E_ct x5 rfl ?_
     refine Zf (Za (Zn (.int .i64 (o0)) rfl rfl ?_))
     refine Zg (.int .i64 (o0)) rfl rfl ?_
     refine Zb (Zd (E_ret (blk_r ?_)))
     refine thn_r ?_
     refine thn_r ?_
     refine blk_r ?_
     refine thn_r ?_
     obtain rfl:=sinj h
     exact end1 rfl rfl (show _=.int .i64 (o0) from rfl) ⟨_,hfr,rfl⟩
    ·refine E_cf x5 rfl ?_
     exact Zu (blk_n (Zd (d9 () _ _ ⟨u9,hfr,i6,u3,x6,y6,l5⟩ h)))
   ·rintro _ bA iB ⟨y9, hfr, k8, l8, m8, n8, r8⟩ h
    refine Za (EL_in (.int .i64 ((w64 (o0 + (1:Int))))) r8 rfl rfl rfl ?_)
    refine Zn (.int .i64 ((w64 (o0 + (1:Int))))) rfl rfl ?_
    exact Zb (Zd (a9 ((w64 (o0 + (1:Int)))) _ _ ⟨y9,hfr,k8,l8,m8,n8,rfl⟩ h))
  ·refine E_cf t5 rfl ?_
   refine E_exit ?_
   refine thn_e ?_
   refine thn_e ?_
   refine blk_hit ?_
   exact Zd (x8 () _ _ ⟨m7,hfr⟩ h)
 ·rintro _ iA lB ⟨mB, hfr⟩ h
  refine Zf (Za (Zg (.int .i64 (-1)) rfl rfl ?_))
  refine Zb (Zd (E_ret ?_))
  obtain rfl:=sinj h
  exact end1 rfl rfl (show _=.int .i64 (-1) from rfl) ⟨_,hfr,rfl⟩
def f92 (x0:Vector Bool 256) (x1:UInt8):Option (Bool):=
 (idx (x0).toList ((x1).toNat:Int)).bind fun y2=>
 some (y2)
theorem en92:Enters Tryz.prog 92:=enters_of Tryz.func92 (by kernel_rfl) rfl
theorem wk92 {gI:Gh} {wI:World} {x0:Vector Bool 256} {x1:UInt8} {up0:Value} (rp0:PT gI.m wI x0 up0) {r:Bool} (h:f92 x0 x1=some r):Fn Tryz.prog 92 #[up0,.int .u8 (UInt8.toNat (x1))] gI wI (fun _ _ v=>v=.bool (r)):=by
 unfold f92 at h
 refine fn_of_E Tryz.func92 rfl (Nat.le_of_ble_eq_true rfl) fun g0 hm hfr=>?_
 have rp0:PT g0.m wI x0 up0:=hm ▸ rp0
 show E _ 10 none _ _ _ _ _
 refine Zf (Za (Zg (.bool false) rfl rfl ?_))
 refine Zb (Zd (Zf (Za (Zn up0 rfl rfl ?_))))
 refine Zn (.int .u8 (UInt8.toNat (x1))) rfl rfl ?_
 obtain ⟨pb1,po1,pe1⟩:=PT.ptr rp0
 refine Zx up0 (P_nilCk rfl pe1) rfl ?_
 obtain ⟨y2,hy2,h⟩:=Gb h
 refine Zx (fPtr up0 ((((x1).toNat:Int):Int).toNat * 1)) (P_indexAddrA (α:=Bool) Tryz.underlying150 Tryz.sizeOf4 rfl (PT.ptr rp0) rfl hy2) rfl ?_
 have q3:=PT_idxA rp0 hy2
 refine Ze .plain rfl (D_load (g:=g0) Tryz.isAgg4 Tryz.sizeOf4 rfl q3 fun v4 r4=>?_)
 obtain rfl:=RV_bool.1 r4
 refine Zg (.bool (y2)) rfl rfl ?_
 refine Zb (Zd (E_ret ?_))
 obtain rfl:=sinj h
 exact end1 rfl rfl (show _=.bool (y2) from rfl) ⟨_,hfr,rfl⟩
theorem W4 {iO:Nat} {gI:Gh} {wI:World} {x0:Loom} {up0:Value} (rp0:RV gI.m wI x0 up0) {r:TieHarness} (h:f4 x0=some r):FnG Tryz.prog 4 #[up0] gI wI (fun g w v=>OWx ow_TieHarness iO g w r v):=by
 unfold f4 at h
 refine fnG_of_E Tryz.func4 rfl (Nat.le_of_ble_eq_true rfl) fun g0 hm hfr=>?_
 have rp0:RV g0.m wI x0 up0:=hm ▸ rp0
 show E _ 48 none _ _ _ _ _
 refine Zf (Za (Ze .plain rfl (D_box (g:=g0) rfl rp0 fun g1 w1 p1 hs q1=>?_)))
 have hfr:=hfr.ext hs
 refine Ze .plain rfl (D_allocOc (g:=g1) 2002 (⟨0,[]⟩:TieHarness) Tryz.zeroValue28 (fun m w=>⟨_,(rep_two Zw rep_nil),rfl⟩) fun g2 w2 p2 hs b2 cb=>?_)
 have hfr:=hfr.stp hs
 have q1:=q1.stp hs
 have l8:OSF 2002 60201 1 g2 w2 3 28 ([]:List Int) p2:=cb.osf (by rfl)
 clear cb
 refine Zb (Zd (Zf (Za (Zx (fPtr p1 0) (Zc at_25_0 rfl (PT.ptr q1)) rfl ?_))))
 have q3:=Zm (part_Loom_0).1 q1
 refine Ze .plain rfl (D_load (g:=g2) Tryz.isAgg5 Tryz.sizeOf5 rfl q3 fun v4 r4=>?_)
 obtain rfl:=RV_u8.1 r4
 refine Zx (.int .i64 ((((x0).Hooks).toNat:Int))) (P_u8int Tryz.underlying5 Tryz.underlying3 rfl) rfl ?_
 obtain ⟨y5,hy5,h⟩:=Gb h
 refine Zx (.int .i64 (y5)) (P_int rfl rfl (congrArg (Option.map (Value.int .i64)) hy5)) rfl ?_
 refine EL_in (.int .i64 ((w64 ((1:Int) + y5)))) rfl rfl rfl rfl ?_
 have wn7:=Wn.fl (Wn.nil 3 (Ow.sh Int) 701 g2 w2)
 have wn8:=Wn.shp (x:=((w64 ((1:Int) + y5)):Int)) (RV.cells (Zj.2 rfl)) wn7
 obtain ⟨v6,tF⟩:∃ v,v=(Value.agg (setCh [[.int .i64 0],[.slice none 0 0]] [(0,.int .i64 ((w64 ((1:Int) + y5))))]).flatten.toArray):=⟨_,rfl⟩
 have ow6:OW ow_TieHarness 701 g2 w2 (⟨(w64 ((1:Int) + y5)),[]⟩:TieHarness) ((),Sl.nil) v6:=tF ▸ Wn.mk_ (Wn.struct (x:=((⟨(w64 ((1:Int) + y5)),[]⟩:TieHarness))) wn8)
 refine Zx v6 (tF ▸ P_build (vs:=[(0,.int .i64 ((w64 ((1:Int) + y5))))]) [[.int .i64 0],[.slice none 0 0]] lay_28 rfl rfl (.cons rfl .nil) ⟨⟨_,rfl,rfl⟩,trivial⟩) rfl ?_
 refine Ze .plain rfl (D_allocOc (g:=g2) 2003 (⟨0,[]⟩:TieHarness) Tryz.zeroValue28 (fun m w=>⟨_,(rep_two Zw rep_nil),rfl⟩) fun g9 w9 p9 hs b9 cb=>?_)
 have hfr:=hfr.stp hs
 have q1:=q1.stp hs
 have l8:=l8.stp hs rfl
 have b2:=b2.stp hs rfl
 have ow6:=ow6.stp hs rfl
 have jH:OSF 2003 60301 1 g9 w9 3 28 ([]:List Int) p9:=cb.osf (by rfl)
 clear cb
 refine Ze .plain rfl (D_storeOW (g:=g9) Tryz.sizeOf28 rfl b9 rfl ow6 rfl fun gj10 yG nI bk10 hsa hsb hpp b10=>?_)
 have hfr:=hfr.stp hsa
 have q1:=q1.stp hsa
 have l8:=l8.stp hsa rfl
 have b2:=b2.stp hsa rfl
 have hfr:=hfr.stp hsb
 have q1:=q1.stp hsb
 have l8:=l8.stp hsb rfl
 have b2:=b2.stp hsb rfl
 clear hsa hsb
 subst hpp
 refine Zb (Zd ?_)
 obtain ⟨vC,hx,h⟩:=Gb h
 refine E_join (fun e w=>∃ (g:Gh) ,Fr gI wI g w∧e 2=p2∧OB 2002 g w 28 ((⟨0,[]⟩:TieHarness):TieHarness) p2∧OSF 2002 60201 1 g w 3 28 (((⟨0,[]⟩:TieHarness)).Warps) p2∧e 3=(Value.pointer (some ⟨bk10,0,none⟩))∧OVb ow_TieHarness 2003 g w 28 (vC:TieHarness) bk10) (fun Q' hQ=>?_) (fun zG kH hR=>?_)
 ·replace h := hx
  clear hx
  refine Zf (Za (Zg (.int .i64 (0)) rfl rfl ?_))
  refine Zb (Zd (Zr ?_))
  refine E_lp h (fun (s:TieHarness × Int) e w=>∃ (g:Gh) ,Fr gI wI g w∧e 1=p1∧PT g.m w (x0:Loom) p1∧e 2=p2∧OB 2002 g w 28 ((⟨0,[]⟩:TieHarness):TieHarness) p2∧OSF 2002 60201 1 g w 3 28 (((⟨0,[]⟩:TieHarness)).Warps) p2∧e 3=(Value.pointer (some ⟨bk10,0,none⟩))∧OVb ow_TieHarness 2003 g w 28 (s.1:TieHarness) bk10∧e 4=.int .i64 (s.2)) ⟨yG,hfr,rfl,q1,rfl,b2,l8,rfl,⟨_,b10,(⟨trivial,trivial⟩:(ow_TieHarness).ok ((),Sl.nil))⟩,rfl⟩ (fun X189 lH vE=>?_)
  rintro ⟨x5,o0⟩ aH mH ⟨aB,hfr,m8,m7,k9,l9,u2_1_190,n9,⟨lG,u9,a9⟩,x6⟩ h
  refine Zq h (fun (s:Unit) e w=>∃ (g:Gh) ,Fr gI wI g w∧e 1=p1∧PT g.m w (x0:Loom) p1∧e 2=p2∧OB 2002 g w 28 ((⟨0,[]⟩:TieHarness):TieHarness) p2∧OSF 2002 60201 1 g w 3 28 (((⟨0,[]⟩:TieHarness)).Warps) p2∧e 3=(Value.pointer (some ⟨bk10,0,none⟩))∧OVb ow_TieHarness 2003 g w 28 (x5:TieHarness) bk10∧e 4=.int .i64 (o0)) (fun X201 nH xE h=>?_) ?_
  ·obtain ⟨d9, hx, h⟩ := Gb h
   refine E_join (fun e w=>∃ (g:Gh) ,Fr gI wI g w∧e 1=p1∧PT g.m w (x0:Loom) p1∧e 2=p2∧OB 2002 g w 28 ((⟨0,[]⟩:TieHarness):TieHarness) p2∧OSF 2002 60201 1 g w 3 28 (((⟨0,[]⟩:TieHarness)).Warps) p2∧e 3=(Value.pointer (some ⟨bk10,0,none⟩))∧OVb ow_TieHarness 2003 g w 28 (x5:TieHarness) bk10∧e 4=.int .i64 (o0)∧e 24=.bool (d9)) (fun Q' hQ=>?_) (fun cH oH hR=>?_)
   ·replace h := hx
    clear hx
    refine Za (Zo x6 rfl ?_)
    refine EL_in (.bool ((o0 == (0:Int)))) rfl rfl rfl rfl ?_
    refine Zn (.bool ((o0 == (0:Int)))) rfl rfl ?_
    rcases Zt h with ⟨u3,h⟩ | ⟨u3,h⟩
    ·refine Zz rfl rfl u3 rfl rfl ?_
     iterate 5 refine Zz rfl rfl u3 rfl rfl ?_
     refine EL_skip (.off rfl rfl) rfl ?_
     refine EL_skip (.off rfl rfl) rfl ?_
     refine Zz rfl rfl u3 rfl rfl ?_
     refine Zx (.bool true) (Zl (b:=(o0 == (0:Int))) rfl (pick_t u3 rfl)) rfl ?_
     refine Zb ?_
     obtain rfl:=sinj h
     exact hQ _ _ ⟨aB,hfr,m8,m7,k9,l9,u2_1_190,n9,⟨_,u9,a9⟩,x6,rfl⟩
    ·refine Zy (.int .i64 (o0)) (Zk x6) rfl rfl u3 rfl ?_
     refine Zy (fPtr p1 1) (Zc at_25_1 m8 (PT.ptr m7)) rfl rfl u3 rfl ?_
     have uF:=Zm (part_Loom_1).1 m7
     refine Ze (.yes2 rfl rfl u3) rfl (D_load (g:=aB) Tryz.isAgg22 Tryz.sizeOf22 rfl uF fun pH vF=>?_)
     refine Zy (.int .i64 (((x0).Warps).length:Int)) (P_len Tryz.underlying22 rfl vF) rfl rfl u3 rfl ?_
     refine Zy (.bool ((decide (o0 < (((x0).Warps).length:Int))))) (P_int rfl rfl rfl) rfl rfl u3 rfl ?_
     refine Zy (.bool ((decide (o0 < (((x0).Warps).length:Int))))) (Zk rfl) rfl rfl u3 rfl ?_
     rcases Zt h with ⟨i7,h⟩ | ⟨i7,h⟩
     ·refine Zy (.int .i64 (o0)) (Zk x6) rfl rfl i7 rfl ?_
      refine Zy (.bool ((decide (o0 < (30:Int))))) (P_int rfl rfl rfl) rfl rfl i7 rfl ?_
      refine Zy (.bool ((decide (o0 < (30:Int))))) (Zl (b:=(decide (o0 < (((x0).Warps).length:Int)))) rfl (pick_t i7 rfl)) rfl rfl u3 rfl ?_
      refine Zx (.bool ((decide (o0 < (30:Int))))) (Zl (b:=(o0 == (0:Int))) rfl (pick_f u3 rfl)) rfl ?_
      refine Zb ?_
      obtain rfl:=sinj h
      exact hQ _ _ ⟨aB,hfr,m8,m7,k9,l9,u2_1_190,n9,⟨_,u9,a9⟩,x6,rfl⟩
     ·refine Zz rfl rfl i7 rfl rfl ?_
      refine Zz rfl rfl i7 rfl rfl ?_
      refine Zy (.bool false) (Zl (b:=(decide (o0 < (((x0).Warps).length:Int)))) rfl (pick_f i7 rfl)) rfl rfl u3 rfl ?_
      refine Zx (.bool false) (Zl (b:=(o0 == (0:Int))) rfl (pick_f u3 rfl)) rfl ?_
      refine Zb ?_
      obtain rfl:=sinj h
      exact hQ _ _ ⟨aB,hfr,m8,m7,k9,l9,u2_1_190,n9,⟨_,u9,a9⟩,x6,rfl⟩
   ·clear hx
    obtain ⟨aD,hfr,bD,cD,lB,mB,u2_1_210,nB,⟨mG,oB,iA⟩,eD,rA⟩:=hR
    rcases Zt h with ⟨dB,h⟩ | ⟨dB,h⟩
    ·refine E_cond_true (Eq.trans (show ev _ _ = .bool (d9) from rA) (congrArg Value.bool dB)) ?_
     exact Zu (Zd (xE () _ _ ⟨aD,hfr,bD,cD,lB,mB,u2_1_210,nB,⟨_,oB,iA⟩,eD⟩ h))
    ·refine E_cond_false (Eq.trans (show ev _ _ = .bool (d9) from rA) (congrArg Value.bool dB)) ?_
     refine E_exit ?_
     refine thn_e ?_
     refine thn_e ?_
     refine blk_hit ?_
     obtain rfl:=sinj h
     exact hQ _ _ ⟨aD,hfr,lB,mB,u2_1_210,nB,⟨_,oB,iA⟩⟩
  ·rintro _ dH qH ⟨zB, hfr, n8, i6, tB, r8, u2_1_212, y9, ⟨qC, g8, yA⟩, v8⟩ h
   obtain ⟨vB,hx,h⟩:=Gb h
   refine E_join (fun e w=>∃ (g:Gh) ,Fr gI wI g w∧e 1=p1∧PT g.m w (x0:Loom) p1∧e 2=p2∧OB 2002 g w 28 ((⟨0,[]⟩:TieHarness):TieHarness) p2∧OSF 2002 60201 1 g w 3 28 (((⟨0,[]⟩:TieHarness)).Warps) p2∧e 3=(Value.pointer (some ⟨bk10,0,none⟩))∧OVb ow_TieHarness 2003 g w 28 (vB:TieHarness) bk10∧e 4=.int .i64 (o0)) (fun Q' hQ=>?_) (fun gH sH hR=>?_)
   ·replace h := hx
    clear hx
    refine Zr ?_
    refine Zf (Za (Zg (.int .i64 (0)) rfl rfl ?_))
    refine Zb (Zd ?_)
    obtain ⟨z9,hx,h⟩:=Gb h
    refine E_join (fun e w=>∃ (g:Gh) ,Fr gI wI g w∧e 1=p1∧PT g.m w (x0:Loom) p1∧e 2=p2∧OB 2002 g w 28 ((⟨0,[]⟩:TieHarness):TieHarness) p2∧OSF 2002 60201 1 g w 3 28 (((⟨0,[]⟩:TieHarness)).Warps) p2∧e 3=(Value.pointer (some ⟨bk10,0,none⟩))∧OVb ow_TieHarness 2003 g w 28 (x5:TieHarness) bk10∧e 4=.int .i64 (o0)∧e 5=.int .i64 (z9)) (fun Q' hQ=>?_) (fun iH tH hR=>?_)
    ·replace h := hx
     clear hx
     refine Zf (Za (Zo v8 rfl ?_))
     refine Zx (fPtr p1 1) (Zc at_25_1 n8 (PT.ptr i6)) rfl ?_
     have xF:=Zm (part_Loom_1).1 i6
     refine Ze .plain rfl (D_load (g:=zB) Tryz.isAgg22 Tryz.sizeOf22 rfl xF fun uH yF=>?_)
     refine Zx (.int .i64 (((x0).Warps).length:Int)) (P_len Tryz.underlying22 rfl yF) rfl ?_
     refine Zx (.bool ((decide (o0 < (((x0).Warps).length:Int))))) (P_int rfl rfl rfl) rfl ?_
     refine Zb (Zd ?_)
     rcases Zt h with ⟨iB,h⟩ | ⟨iB,h⟩
     ·refine E_ct iB rfl ?_
      have zF:=Zm (part_Loom_1).1 i6
      refine Zs (x:=.tmp 32) Tryz.isAgg22 Tryz.sizeOf22 zF fun gD iD yE=>?_
      obtain ⟨jD,mC,h⟩:=Gb h
      have aG:=PT_idx iD mC
      refine Zs (x:=.tmp 35) Tryz.isAgg5 Tryz.sizeOf5 aG fun xH bG zE=>?_
      obtain rfl:=RV_u8.1 bG
      refine L_loadV (x:=.tmp 38) (Cxt.fld (Cxt.root ow_TieHarness bk10) fl_TieHarness_0 (x5) (qC)) rfl rfl Tryz.isAgg3 Tryz.sizeOf3 g8 fun yH cG cF=>?_
      obtain rfl:=Zj.1 cG
      obtain ⟨lD,dF,h⟩:=Gb h
      refine E_drawL (g:=zB) (n:=10) [] [0,1,2,3,4,5,6,7,8,9] rfl mixed (by kernel_rfl) trivial ?_
      refine Ga (fPtr p1 1) rfl rfl (Zc at_25_1 n8 (PT.ptr i6)) ?_
      refine L_ld (c:=gD) rfl rfl .plain (fun _ _ h=>h.ch) yE rfl ?_
      refine Ga (.int .i64 (o0)) rfl rfl (Zk v8) ?_
      refine Ga (ePtr gD o0 1) rfl rfl (Zh (α:=UInt8) Tryz.underlying22 Tryz.sizeOf5 rfl iD rfl mC) ?_
      refine L_ld (c:=.int .u8 (UInt8.toNat (jD))) rfl rfl .plain (fun _ _ h=>h.ch) zE rfl ?_
      refine Ga (.int .i64 (((jD).toNat:Int))) rfl rfl (P_u8int Tryz.underlying5 Tryz.underlying3 rfl) ?_
      refine Ga ((.pointer (some ⟨bk10,(0 + 0),none⟩))) rfl rfl (P_fieldAddrH at_28_0 y9) ?_
      refine L_ld (c:=.int .i64 ((x5).Hooks)) rfl rfl .plain (fun _ _ h=>⟨h.ch,fun b hb _=>h.below.block b hb⟩) cF rfl ?_
      refine Ga (.int .i64 (lD)) rfl rfl (P_int rfl rfl (congrArg (Option.map (Value.int .i64)) dF)) ?_
      refine Ga (.int .i64 (lD)) rfl rfl (P_assign rfl) ?_
      refine L_nl fun eG zH hs=>?_
      have hfr:=hfr.ext hs
      have i6:=i6.ext hs
      have u2_1_212:=u2_1_212.ext hs
      have r8:=r8.ext hs
      have g8:=g8.ext hs
      clear hs
      refine Zb ?_
      obtain rfl:=sinj h
      exact hQ _ _ ⟨eG,hfr,n8,i6,tB,r8,u2_1_212,y9,⟨_,g8,yA⟩,v8,rfl⟩
     ·refine E_cf iB rfl ?_
      refine Zu ?_
      obtain rfl:=sinj h
      exact hQ _ _ ⟨zB,hfr,n8,i6,tB,r8,u2_1_212,y9,⟨_,g8,yA⟩,v8,rfl⟩
    ·clear hx
     obtain ⟨nD,hfr,oD,l5,sD,t5,u2_1_353,bA,⟨y6,x8,k8⟩,tD,uD⟩:=hR
     refine Za (Zx ((.pointer (some ⟨bk10,(0 + 1),none⟩))) (P_fieldAddrH at_28_1 bA) rfl ?_)
     refine Ze .plain rfl (D_loadH (g:=nD) (Cxt.fld (Cxt.root ow_TieHarness bk10) fl_TieHarness_1 (x5) (y6)) rfl rfl (k8.2) Tryz.isAgg26 rfl x8 ?_)
     refine Zo uD rfl ?_
     refine Ze .plain rfl (D_buildSlice (g:=nD) 3044 (xs:=([z9]:List Int)) (vs:=[.int .i64 (z9)]) Tryz.underlying26 Tryz.sizeOf3 Tryz.zeroValue3 rfl rfl (.cons rfl .nil) (RVs.cons (Zj.2 rfl) RVs.nil) rfl rfl fun aI gG bI hs o357 cC hxt hfl=>?_)
     have hfr:=hfr.stp hs
     have l5:=l5.stp hs
     have u2_1_353:=u2_1_353.stp hs rfl
     have t5:=t5.stp hs rfl
     have x8:=x8.stp hs rfl
     obtain ⟨gt358,hs,b358,wt358⟩:=OV.take x8 (Cxt.fld (Cxt.root ow_TieHarness bk10) fl_TieHarness_1 (x5) (y6)) rfl rfl (k8.2) 704358 rfl
     have oa358:=OW.toA wt358 (k8.2)
     clear wt358
     have hfr:=hfr.stp hs
     have l5:=l5.stp hs
     have u2_1_353:=u2_1_353.stp hs rfl
     have t5:=t5.stp hs rfl
     have cC:=cC.stp hs
     replace b358:OV ow_TieHarness 2003 gt358 gG 28 (({ x5 with Warps:=[] }:TieHarness):TieHarness) bk10 ((Prod.fst y6),Sl.hole):=b358
     obtain ⟨hG,eF,h⟩:=Gb h
     refine Ze .plain rfl (D_appendA (g:=gt358) plain_int (i:=704358) Tryz.underlying26 info_3 rfl rfl oa358 rfl cC eF fun iG dI iI hs b359=>?_)
     have hfr:=hfr.stp hs
     have l5:=l5.stp hs
     have u2_1_353:=u2_1_353.stp hs rfl
     have t5:=t5.stp hs rfl
     have b358:=b358.stp hs rfl
     refine Zx ((.pointer (some ⟨bk10,(0 + 1),none⟩))) (P_fieldAddrH at_28_1 bA) rfl ?_
     obtain ⟨sk363,ow363,ok363⟩:=OA.toW b359
     refine Ze .plain rfl (D_storeW (g:=iG) (Cxt.fld (Cxt.root ow_TieHarness bk10) fl_TieHarness_1 (({ x5 with Warps:=[] }:TieHarness)) (((Prod.fst y6),Sl.hole))) rfl rfl Tryz.sizeOf26 rfl b358 rfl ow363 rfl fun gj364 vD jG hsa hsb b364=>?_)
     have hfr:=hfr.stp hsa
     have l5:=l5.stp hsa
     have u2_1_353:=u2_1_353.stp hsa rfl
     have t5:=t5.stp hsa rfl
     have hfr:=hfr.stp hsb
     have l5:=l5.stp hsb
     have u2_1_353:=u2_1_353.stp hsb rfl
     have t5:=t5.stp hsb rfl
     clear hsa hsb
     replace b364:OV ow_TieHarness 2003 vD jG 28 (({ (({ x5 with Warps:=[] }:TieHarness)) with Warps:=hG }:TieHarness):TieHarness) bk10 ((Prod.fst y6),sk363):=b364
     refine Zb (blk_n ?_)
     obtain rfl:=sinj h
     exact hQ _ _ ⟨vD,hfr,oD,l5,sD,t5,u2_1_353,bA,⟨_,b364,⟨(k8.1),ok363⟩⟩,tD⟩
   ·clear hx
    obtain ⟨kG,hfr,xD,yD,zD,aE,u2_1_365,bE,⟨sG,iE,rC⟩,lE⟩:=hR
    refine Za (Zo lE rfl ?_)
    refine EL_in (.int .i64 ((w64 (o0 + (1:Int))))) rfl rfl rfl rfl ?_
    refine Zg (.int .i64 ((w64 (o0 + (1:Int))))) rfl rfl ?_
    exact Zb (Zd (vE (vB,(w64 (o0 + (1:Int)))) _ _ ⟨kG,hfr,xD,yD,zD,aE,u2_1_365,bE,⟨_,iE,rC⟩,rfl⟩ h))
 ·clear hx
  obtain ⟨mE,hfr,yB,oE,u2_1_366,rE,⟨xG,uE,uC⟩⟩:=hR
  refine Zf (Za (Ze .plain rfl (D_loadW (g:=mE) Tryz.isAgg28 Tryz.sizeOf28 rE uE rfl fun jI rF=>?_)))
  refine Ze .plain rfl (D_storeOW (g:=mE) Tryz.sizeOf28 yB oE rfl rF rfl fun gj369 kI lI bk369 hsa hsb hpp b369=>?_)
  have hfr:=hfr.stp hsa
  have hfr:=hfr.stp hsb
  clear hsa hsb
  subst hpp
  refine Zb (Zd (E_ret ?_))
  obtain rfl:=sinj h
  obtain ⟨mI,sF,ow370⟩:=OV.read (t:=28) Tryz.isAgg28 Tryz.sizeOf28 b369 rfl
  obtain ⟨gh,hxh,_,homh⟩:=OW.hand (i:=iO) hfr ow370 uC
  exact endm_c rfl rfl (show _=(Value.pointer (some ⟨bk369,0,none⟩)) from yB) sF ⟨gh,hxh,homh⟩
def f9 (x0:Design):Option (Design):=
 (f13 ((x0).Rows)).bind fun y8=>
 some ((⟨(x0).Hooks,y8⟩:Design))
theorem en9:Enters Tryz.prog 9:=enters_of Tryz.func9 (by kernel_rfl) rfl
theorem wk9 {gI:Gh} {wI:World} {x0:Design} {up0:Value} (rp0:RV gI.m wI x0 up0) {r:Design} (h:f9 x0=some r):Fn Tryz.prog 9 #[up0] gI wI (fun m w v=>RV m w (r) v):=by
 unfold f9 at h
 refine fn_of_E Tryz.func9 rfl (Nat.le_of_ble_eq_true rfl) fun g0 hm hfr=>?_
 have rp0:RV g0.m wI x0 up0:=hm ▸ rp0
 show E _ 9 none _ _ _ _ _
 refine Zf (Za (Ze .plain rfl (D_box (g:=g0) rfl rp0 fun g1 w1 p1 hs q1=>?_)))
 have hfr:=hfr.ext hs
 refine Ze .plain rfl (D_allocOc (g:=g1) 2002 (⟨0,[]⟩:Design) Tryz.zeroValue31 (fun m w=>⟨_,(rep_two Zw rep_nil),rfl⟩) fun g2 w2 p2 hs b2 cb=>?_)
 have hfr:=hfr.stp hs
 have q1:=q1.stp hs
 have y6:OSF 2002 60201 1 g2 w2 3 31 ([]:List Int) p2:=cb.osf (by rfl)
 clear cb
 refine Zb (Zd (Zf ?_))
 have q3:=Zm (part_Design_0).1 q1
 refine Zs (x:=.tmp 3) Tryz.isAgg3 Tryz.sizeOf3 q3 fun v4 r4 x5=>?_
 obtain rfl:=Zj.1 r4
 have q5:=Zm (part_Design_1).1 q1
 refine Zs (x:=.tmp 5) Tryz.isAgg26 Tryz.sizeOf26 q5 fun v6 r6 i6=>?_
 obtain ⟨y8,x6,h⟩:=Gb h
 refine E_drawL (g:=g2) (n:=5) [(4,(fun v g w=>RV g.m w y8 v))] [0,1,2,3,4] rfl mixed (by kernel_rfl) (⟨fun _=>up_rv,trivial⟩) ?_
 refine Ga (fPtr p1 0) rfl rfl (Zc at_31_0 rfl (PT.ptr q1)) ?_
 refine L_ld (c:=.int .i64 ((x0).Hooks)) rfl rfl .plain (fun _ _ h=>h.ch) x5 rfl ?_
 refine Ga (fPtr p1 1) rfl rfl (Zc at_31_1 rfl (PT.ptr q1)) ?_
 refine L_ld (c:=v6) rfl rfl .plain (fun _ _ h=>h.ch) i6 rfl ?_
 refine L_do (φ:=fun v g w=>RV g.m w y8 v) rfl rfl .plain (fun g w hd=>Zp (g:=g) (vs:=[v6]) en13 (.cons rfl .nil) (wk13 (r6.ext hd.1) x6) fun g' w' v hs hr=>⟨g',hs,hr⟩) (fun v7 hv=>?_)
 obtain ⟨_,_,_,rq7⟩:=hv
 refine L_nil fun g9 w9 hall=>?_
 have hs:=hall.1
 have hfr:=hfr.ext hs
 have b2:=b2.ext hs
 have o0:=(word_all (A:=fun g w=>RV g.m w y8 v7) 4 rfl hall)
 clear hs hall
 have u3:RV g9.m _ (⟨(x0).Hooks,y8⟩:Design) (.agg (setCh [[.int .i64 0],[.slice none 0 0]] [(0,.int .i64 ((x0).Hooks)),(1,v7)]).flatten.toArray):=RV_build rfl (rep_pair (rfl) (rep_last (RV.cells o0)))
 generalize t5:(Value.agg (setCh [[.int .i64 0],[.slice none 0 0]] [(0,.int .i64 ((x0).Hooks)),(1,v7)]).flatten.toArray)=l5 at u3
 refine Zx l5 (t5 ▸ P_build (vs:=[(0,.int .i64 ((x0).Hooks)),(1,v7)]) [[.int .i64 0],[.slice none 0 0]] lay_31 rfl rfl (.cons rfl (.cons rfl .nil)) ⟨⟨_,rfl,rfl⟩,⟨⟨_,rfl,cells_size o0⟩,trivial⟩⟩) rfl ?_
 refine Ze .plain rfl (D_storeOc (g:=g9) (v:=l5) Tryz.sizeOf31 rfl b2 rfl u3 fun i7 m7 hs b19 cb=>?_)
 clear cb
 have hfr:=hfr.stp hs
 refine Zb (Zd (E_ret ?_))
 obtain rfl:=sinj h
 obtain ⟨ad20,cv20,hp20,hl20,cr20⟩:=ob_read Tryz.isAgg31 Tryz.sizeOf31 b19
 exact endm_c rfl rfl ((show _=p2 from rfl).trans hp20) hl20 ⟨_,hfr,cr20⟩
def f31 (x0:TieTieHarness) (x1:Int):Option (Str):=
 Option.bind (α:=List UInt8) (
  lp (σ:=List UInt8 × Int) (fun z9 (i6,o0)=>
   bif (decide (o0 < ((((x0).TieHarness).Warps).length : Int))) then
    Option.bind (α:=List UInt8) (
     (f52 x0 x1 o0).bind fun m8=>
     (f51 m8).bind fun n8=>
     (apnd 1 i6 [n8]).bind fun y43=>
     some (y43)
     ) fun t5=>
    z9 (t5,(w64 (o0 + (1:Int))))
   else
    some (i6)
   ) big (([]:List UInt8),(0:Int))
  ) fun x6=>
 (sbstr x6).bind fun g8=>
 some (g8)
theorem en31:Enters Tryz.prog 31:=enters_of Tryz.func31 (by kernel_rfl) rfl
theorem wk31 {gI:Gh} {wI:World} {x0:TieTieHarness} {x1:Int} {up0:Value} (rp0:RV gI.m wI x0 up0) {r:Str} (h:f31 x0 x1=some r):Fn Tryz.prog 31 #[up0,.int .i64 (x1)] gI wI (fun _ _ v=>v=Str.v (r)):=by
 unfold f31 at h
 refine fn_of_E Tryz.func31 rfl (Nat.le_of_ble_eq_true rfl) fun g0 hm hfr=>?_
 have rp0:RV g0.m wI x0 up0:=hm ▸ rp0
 show E _ 22 none _ _ _ _ _
 refine Zf (Za (Ze .plain rfl (D_box (g:=g0) rfl rp0 fun g1 w1 p1 hs q1=>?_)))
 have hfr:=hfr.ext hs
 refine Zg (Str.v (⟨[]⟩:Str)) rfl rfl ?_
 refine Zb (Zd (Zf (Za (Ze .plain rfl (D_allocOc (g:=g1) 2005 ((⟨.pointer none,rfl⟩,[]):Fv × List UInt8) Tryz.zeroValue108 (fun m w=>⟨_,rep_two (show GoT.rep m w (⟨.pointer none,rfl⟩:Fv) [.pointer none] from rfl) rep_nil,rfl⟩) fun g2 w2 p2 hs b2 cb=>?_)))))
 have hfr:=hfr.stp hs
 have q1:=q1.stp hs
 replace b2:SB 2005 60501 g2 w2 5 108 [] p2:=⟨_,b2,cb.osf rfl,.inl rfl⟩
 clear cb
 refine Zb (Zd ?_)
 obtain ⟨x6,hx,h⟩:=Gb h
 refine E_join (fun e w=>∃ (g:Gh) ,Fr gI wI g w∧e 5=p2∧SB 2005 60501 g w 5 108 (x6) p2) (fun Q' hQ=>?_) (fun yB rC hR=>?_)
 ·replace h := hx
  clear hx
  refine Zf (Za (Zx (fPtr p1 0) (Zc at_83_0 rfl (PT.ptr q1)) rfl ?_))
  have bA:=Zm (part_TieTieHarness_0).1 q1
  refine Zx (fPtr (fPtr p1 0) 1) (Zc at_28_1 rfl (PT.ptr bA)) rfl ?_
  have iB:=Zm (part_TieHarness_1).1 bA
  refine Ze .plain rfl (D_load (g:=g2) Tryz.isAgg26 Tryz.sizeOf26 rfl iB fun uC lB=>?_)
  refine Zx (.int .i64 ((((x0).TieHarness).Warps).length:Int)) (P_len Tryz.underlying26 rfl lB) rfl ?_
  refine Zn (.int .i64 (0)) rfl rfl ?_
  refine Zb (Zd (Zr ?_))
  refine E_lp h (fun (s:List UInt8 × Int) e w=>∃ (g:Gh) ,Fr gI wI g w∧e 1=.int .i64 (x1)∧e 2=p1∧PT g.m w (x0:TieTieHarness) p1∧e 5=p2∧SB 2005 60501 g w 5 108 (s.1) p2∧e 10=.int .i64 (((((x0).TieHarness).Warps).length:Int))∧e 11=.int .i64 (s.2)) ⟨g2,hfr,rfl,rfl,q1,rfl,b2,rfl,rfl⟩ (fun X27 z9 iA=>?_)
  rintro ⟨i6,o0⟩ zB vC ⟨r8,hfr,k8,l8,u3,y6,l5,i7,x5⟩ h
  refine Zf (Za (Zx (.bool ((decide (o0 < ((((x0).TieHarness).Warps).length:Int))))) (P_int x5 i7 rfl) rfl ?_))
  refine Zb (Zd (Zf ?_))
  rcases Zt h with ⟨m7,h⟩ | ⟨m7,h⟩
  ·refine E_ct m7 rfl ?_
   refine Zu (Zd ?_)
   obtain ⟨t5,hx,h⟩:=Gb h
   refine E_join (fun e w=>∃ (g:Gh) ,Fr gI wI g w∧e 1=.int .i64 (x1)∧e 2=p1∧PT g.m w (x0:TieTieHarness) p1∧e 5=p2∧SB 2005 60501 g w 5 108 (t5) p2∧e 10=.int .i64 (((((x0).TieHarness).Warps).length:Int))∧e 11=.int .i64 (o0)) (fun Q' hQ=>?_) (fun cC aD hR=>?_)
   ·replace h := hx
    clear hx
    refine Zr ?_
    refine Zf (Za (Zo x5 rfl ?_))
    refine Zg (.int .i64 (o0)) rfl rfl ?_
    refine Zb (Zd (Za (Ze .plain rfl (D_load (g:=r8) Tryz.isAgg83 Tryz.sizeOf83 l8 u3 fun mB nB=>?_))))
    refine Zo k8 rfl ?_
    refine Zn (.int .i64 (o0)) rfl rfl ?_
    obtain ⟨m8,rA,h⟩:=Gb h
    refine Ze .plain rfl (Zp (g:=r8) (vs:=[mB,.int .i64 (x1),.int .i64 (o0)]) en52 (.cons rfl (.cons rfl (.cons rfl .nil))) (wk52 nB rA) fun oB mC bD hs hr=>?_)
    have hfr:=hfr.ext hs
    have u3:=u3.ext hs
    have l5:=l5.ext hs
    subst hr
    obtain ⟨n8,yA,h⟩:=Gb h
    refine Ze .plain rfl (Zp (g:=oB) (vs:=[.bool (m8)]) en51 (.cons rfl .nil) (wk51  yA) fun cD qC eD hs hr=>?_)
    have hfr:=hfr.ext hs
    have u3:=u3.ext hs
    have l5:=l5.ext hs
    subst hr
    obtain ⟨y43,aB,h⟩:=Gb h
    refine Ze .plain rfl (D_callC (vs:=[p2,.int .u8 (UInt8.toNat (n8))]) en50 (.cons y6 (.cons rfl .nil)) (wk50 (i:=2005) (j:=60501) rfl rfl l5 aB) fun gD iD hq=>?_)
    obtain ⟨hv,tB,⟨_,_,_,_,hs1,hs2,hs3⟩,b42⟩:=hq
    subst hv
    have hfr:=hfr.stp hs1
    have u3:=u3.stp hs1
    have hfr:=hfr.stp hs2
    have u3:=u3.stp hs2
    have hfr:=hfr.stp hs3
    have u3:=u3.stp hs3
    clear hs1 hs2 hs3
    refine Zb (blk_n ?_)
    obtain rfl:=sinj h
    exact hQ _ _ ⟨tB,hfr,k8,l8,u3,y6,b42,i7,x5⟩
   ·clear hx
    obtain ⟨vB,hfr,a9,d9,k9,l9,n9,v8,x8⟩:=hR
    refine Za (EL_in (.int .i64 ((w64 (o0 + (1:Int))))) x8 rfl rfl rfl ?_)
    refine Zn (.int .i64 ((w64 (o0 + (1:Int))))) rfl rfl ?_
    exact Zb (Zd (iA (t5,(w64 (o0 + (1:Int)))) _ _ ⟨vB,hfr,a9,d9,k9,l9,n9,v8,rfl⟩ h))
  ·refine E_cf m7 rfl ?_
   refine E_exit ?_
   refine thn_e ?_
   refine thn_e ?_
   refine blk_hit ?_
   obtain rfl:=sinj h
   exact hQ _ _ ⟨r8,hfr,y6,l5⟩
 ·clear hx
  obtain ⟨jD,hfr,u9,y9⟩:=hR
  refine Zf (Za ?_)
  obtain ⟨g8,dB,h⟩:=Gb h
  obtain ⟨hne46,hye46⟩:=sbstr_h dB
  refine Ze .plain rfl (D_callC (vs:=[p2]) en53 (.cons u9 .nil) (wk53 (i:=2005) (j:=60501) rfl y9 hne46) fun lD nD hq=>?_)
  obtain ⟨hv,oD,hs⟩:=hq
  rw [← hye46] at hv
  subst hv
  have hfr:=hfr.stp hs
  refine Zg (Str.v g8) rfl rfl ?_
  refine Zb (Zd (E_ret ?_))
  obtain rfl:=sinj h
  exact end1 rfl rfl (show _=Str.v g8 from rfl) ⟨_,hfr,rfl⟩
def f46 (x0:List Int) (x1:Int→Option Bool):Option (Bool):=
 (f67 x0 x1).bind fun y2=>
 some ((decide (y2 ≥ (0:Int))))
theorem en46:Enters Tryz.prog 46:=enters_of Tryz.func46 (by kernel_rfl) rfl
theorem wk46 {gI:Gh} {wI:World} {x0:List Int} {x1:Int→Option Bool} {up0:Value} (rp0:RV gI.m wI x0 up0) {up1:Value} (rp1:FnV1 Tryz.prog x1 up1 gI wI) {r:Bool} (h:f46 x0 x1=some r):Fn Tryz.prog 46 #[up0,up1] gI wI (fun _ _ v=>v=.bool (r)):=by
 unfold f46 at h
 refine fn_of_E Tryz.func46 rfl (Nat.le_of_ble_eq_true rfl) fun g0 hm hfr=>?_
 have rp0:RV g0.m wI x0 up0:=hm ▸ rp0
 obtain ⟨ff1,fa1,fc1,rfl,fen1,fcl1⟩:=rp1
 show E _ 9 none _ _ _ _ _
 refine Zf (Za (Zg (.bool false) rfl rfl ?_))
 refine Zb (Zd (Zf (Za (Zn up0 rfl rfl ?_))))
 refine Zn ((.func (.func ff1) fa1 fc1)) rfl rfl ?_
 obtain ⟨y2,hy2,h⟩:=Gb h
 refine Ze .plain rfl (Zp (g:=g0) (vs:=[up0,(.func (.func ff1) fa1 fc1)]) en67 (.cons rfl (.cons rfl .nil)) (wk67 rp0 (FnV1.ch ⟨_,_,_,rfl,fen1,fcl1⟩ hfr.ch) hy2) fun g1 w1_ v1 hs hr=>?_)
 have hfr:=hfr.ext hs
 subst hr
 refine EL_in (.bool ((decide (y2 ≥ (0:Int))))) rfl rfl rfl rfl ?_
 refine Zg (.bool ((decide (y2 ≥ (0:Int))))) rfl rfl ?_
 refine Zb (Zd (E_ret ?_))
 obtain rfl:=sinj h
 exact end1 rfl rfl (show _=.bool ((decide (y2 ≥ (0:Int)))) from rfl) ⟨_,hfr,rfl⟩
def f49 (x0:Int) (x1:Int) (x2:List Int):Option (Bool):=
 (f46 x2 ((fun a0=>f69 a0 x0 x1))).bind fun y4=>
 some ((!y4))
theorem en49:Enters Tryz.prog 49:=enters_of Tryz.func49 (by kernel_rfl) rfl
theorem wk49 {gI:Gh} {wI:World} {x0:Int} {x1:Int} {x2:List Int} {up2:Value} (rp2:RV gI.m wI x2 up2) {r:Bool} (h:f49 x0 x1 x2=some r):Fn Tryz.prog 49 #[.int .i64 (x0),.int .i64 (x1),up2] gI wI (fun _ _ v=>v=.bool (r)):=by
 unfold f49 at h
 refine fn_of_E Tryz.func49 rfl (Nat.le_of_ble_eq_true rfl) fun g0 hm hfr=>?_
 have rp2:RV g0.m wI x2 up2:=hm ▸ rp2
 show E _ 11 none _ _ _ _ _
 refine Zf (Za (Ze .plain rfl (D_box (g:=g0) rfl (Zj.2 rfl) fun g1 w1 p1 hs q1=>?_)))
 have hfr:=hfr.ext hs
 have rp2:=rp2.ext hs
 refine Ze .plain rfl (D_box (g:=g1) rfl (Zj.2 rfl) fun g2 w2 p2 hs q2=>?_)
 have hfr:=hfr.ext hs
 have rp2:=rp2.ext hs
 have q1:=q1.ext hs
 refine Zg (.bool false) rfl rfl ?_
 refine Zb (Zd (Zf (Za (Zn up2 rfl rfl ?_))))
 refine Zx ((.func (.func 69) #[] #[p1,p2])) (P_makeFunc (capf_0_2 (show ev _ _=p1 from rfl) (show ev _ _=p2 from rfl))) rfl ?_
 obtain ⟨y4,o0,h⟩:=Gb h
 refine Ze .plain rfl (Zp (g:=g2) (vs:=[up2,(.func (.func 69) #[] #[p1,p2])]) en46 (.cons rfl (.cons rfl .nil)) (wk46 rp2 ⟨69,#[],#[p1,p2],rfl,en69,fun g' w' hch a0 b0 r hu0 hr=>by obtain rfl:=Zj.1 hu0; exact Fn.mono (wk69  (q1.ch hch) (q2.ch hch) hr) fun _ _ _ h=>RV_bool.2 h⟩ o0) fun g3 w3_ v3 hs hr=>?_)
 have hfr:=hfr.ext hs
 subst hr
 refine Zx (.bool (!y4)) (P_not rfl) rfl ?_
 refine Zg (.bool (!y4)) rfl rfl ?_
 refine Zb (Zd (E_ret ?_))
 obtain rfl:=sinj h
 exact end1 rfl rfl (show _=.bool (!y4) from rfl) ⟨_,hfr,rfl⟩
def f57 (x0:List Int):Option (It (Int × Int)):=
 some ((fun σ cons s=>f74 x0 σ cons s))
theorem en57:Enters Tryz.prog 57:=enters_of Tryz.func57 (by kernel_rfl) rfl
theorem wk57 {gI:Gh} {wI:World} {x0:List Int} {up0:Value} (rp0:RV gI.m wI x0 up0) {r:It (Int × Int)} (h:f57 x0=some r):Fn Tryz.prog 57 #[up0] gI wI (fun m w v=>ItV Tryz.prog (RA2 (α:=Int) (β:=Int)) (r) v m w):=by
 unfold f57 at h
 refine fn_of_E Tryz.func57 rfl (Nat.le_of_ble_eq_true rfl) fun g0 hm hfr=>?_
 have rp0:RV g0.m wI x0 up0:=hm ▸ rp0
 show E _ 4 none _ _ _ _ _
 refine Zf (Za (Ze .plain rfl (D_box (g:=g0) rfl rp0 fun g1 w1 p1 hs q1=>?_)))
 have hfr:=hfr.ext hs
 refine Zg (.nilFunc) rfl rfl ?_
 refine Zb (Zd (Zf (Za (Zx ((.func (.func 74) #[] #[p1])) (P_makeFunc (capf_0_1 (show ev _ _=p1 from rfl))) rfl ?_))))
 refine Zg ((.func (.func 74) #[] #[p1])) rfl rfl ?_
 refine Zb (Zd (E_ret ?_))
 obtain rfl:=sinj h
 exact end1 rfl rfl (show _=(.func (.func 74) #[] #[p1]) from rfl) ⟨_,hfr,(show ItV Tryz.prog (RA2 (α:=Int) (β:=Int)) (fun σ cons s=>f74 x0 σ cons s) ((.func (.func 74) #[] #[p1])) g1.m w1 from ⟨74,#[],#[p1],rfl,en74,fun g' w' hch σ cons s s' h=>wk74  (q1.ch hch) h⟩)⟩
def f63 (x0:It Int):Option ((List Int)):=
 (f78 x0).bind fun y2=>
 some (y2)
theorem en63:Enters Tryz.prog 63:=enters_of Tryz.func63 (by kernel_rfl) rfl
def f64 (x0:Int) (x1:Int):Option (It Int):=
 some ((fun σ cons s=>f79 x1 x0 σ cons s))
theorem en64:Enters Tryz.prog 64:=enters_of Tryz.func64 (by kernel_rfl) rfl
theorem wk64 {gI:Gh} {wI:World} {x0:Int} {x1:Int}  {r:It Int} (h:f64 x0 x1=some r):Fn Tryz.prog 64 #[.int .i64 (x0),.int .i64 (x1)] gI wI (fun m w v=>ItV Tryz.prog (RA1 (α:=Int)) (r) v m w):=by
 unfold f64 at h
 refine fn_of_E Tryz.func64 rfl (Nat.le_of_ble_eq_true rfl) fun g0 hm hfr=>?_
 show E _ 6 none _ _ _ _ _
 refine Zf (Za (Ze .plain rfl (D_box (g:=g0) rfl (Zj.2 rfl) fun g1 w1 p1 hs q1=>?_)))
 have hfr:=hfr.ext hs
 refine Ze .plain rfl (D_box (g:=g1) rfl (Zj.2 rfl) fun g2 w2 p2 hs q2=>?_)
 have hfr:=hfr.ext hs
 have q1:=q1.ext hs
 refine Zg (.nilFunc) rfl rfl ?_
 refine Zb (Zd (Zf (Za (Zx ((.func (.func 79) #[] #[p2,p1])) (P_makeFunc (capf_0_2 (show ev _ _=p2 from rfl) (show ev _ _=p1 from rfl))) rfl ?_))))
 refine Zg ((.func (.func 79) #[] #[p2,p1])) rfl rfl ?_
 refine Zb (Zd (E_ret ?_))
 obtain rfl:=sinj h
 exact end1 rfl rfl (show _=(.func (.func 79) #[] #[p2,p1]) from rfl) ⟨_,hfr,(show ItV Tryz.prog (RA1 (α:=Int)) (fun σ cons s=>f79 x1 x0 σ cons s) ((.func (.func 79) #[] #[p2,p1])) g2.m w2 from ⟨79,#[],#[p2,p1],rfl,en79,fun g' w' hch σ cons s s' h=>wk79  (q2.ch hch) (q1.ch hch) h⟩)⟩
def f66 (x0:List ChainCard) (x1:ChainCard→Option Bool):Option (Bool):=
 (f80 x0 x1).bind fun y2=>
 some ((decide (y2 ≥ (0:Int))))
theorem en66:Enters Tryz.prog 66:=enters_of Tryz.func66 (by kernel_rfl) rfl
theorem wk66 {gI:Gh} {wI:World} {x0:List ChainCard} {x1:ChainCard→Option Bool} {up0:Value} (rp0:RV gI.m wI x0 up0) {up1:Value} (rp1:FnV1 Tryz.prog x1 up1 gI wI) {r:Bool} (h:f66 x0 x1=some r):Fn Tryz.prog 66 #[up0,up1] gI wI (fun _ _ v=>v=.bool (r)):=by
 unfold f66 at h
 refine fn_of_E Tryz.func66 rfl (Nat.le_of_ble_eq_true rfl) fun g0 hm hfr=>?_
 have rp0:RV g0.m wI x0 up0:=hm ▸ rp0
 obtain ⟨ff1,fa1,fc1,rfl,fen1,fcl1⟩:=rp1
 show E _ 9 none _ _ _ _ _
 refine Zf (Za (Zg (.bool false) rfl rfl ?_))
 refine Zb (Zd (Zf (Za (Zn up0 rfl rfl ?_))))
 refine Zn ((.func (.func ff1) fa1 fc1)) rfl rfl ?_
 obtain ⟨y2,hy2,h⟩:=Gb h
 refine Ze .plain rfl (Zp (g:=g0) (vs:=[up0,(.func (.func ff1) fa1 fc1)]) en80 (.cons rfl (.cons rfl .nil)) (wk80 rp0 (FnV1.ch ⟨_,_,_,rfl,fen1,fcl1⟩ hfr.ch) hy2) fun g1 w1_ v1 hs hr=>?_)
 have hfr:=hfr.ext hs
 subst hr
 refine EL_in (.bool ((decide (y2 ≥ (0:Int))))) rfl rfl rfl rfl ?_
 refine Zg (.bool ((decide (y2 ≥ (0:Int))))) rfl rfl ?_
 refine Zb (Zd (E_ret ?_))
 obtain rfl:=sinj h
 exact end1 rfl rfl (show _=.bool ((decide (y2 ≥ (0:Int)))) from rfl) ⟨_,hfr,rfl⟩
def f68 (x0:U64):Option (U64):=
 (shr64 ((x0).n) ((1:Int))).bind fun y1=>
 (shlU (bitU .and ((x0).n) ((6148914691236517205:Int))) ((1:Int))).bind fun y2=>
 (shr64 (bitU .or (bitU .and y1 ((6148914691236517205:Int))) y2) ((2:Int))).bind fun y3=>
 (shlU (bitU .and (bitU .or (bitU .and y1 ((6148914691236517205:Int))) y2) ((3689348814741910323:Int))) ((2:Int))).bind fun y4=>
 (shr64 (bitU .or (bitU .and y3 ((3689348814741910323:Int))) y4) ((4:Int))).bind fun y5=>
 (shlU (bitU .and (bitU .or (bitU .and y3 ((3689348814741910323:Int))) y4) ((1085102592571150095:Int))) ((4:Int))).bind fun y6=>
 (f81 ((⟨bitU .or (bitU .and y5 ((1085102592571150095:Int))) y6⟩:U64))).bind fun y8=>
 some (y8)
theorem en68:Enters Tryz.prog 68:=enters_of Tryz.func68 (by kernel_rfl) rfl
theorem wk68 {gI:Gh} {wI:World} {x0:U64}  {r:U64} (h:f68 x0=some r):Fn Tryz.prog 68 #[.int .u64 ((x0).n)] gI wI (fun _ _ v=>v=.int .u64 ((r).n)):=by
 unfold f68 at h
 refine fn_of_E Tryz.func68 rfl (Nat.le_of_ble_eq_true rfl) fun g0 hm hfr=>?_
 show E _ 26 none _ _ _ _ _
 refine Zf (Za (Zg (.int .u64 (0)) rfl rfl ?_))
 refine Zb (Zd (Zf (Za (Zn (.int .u64 ((x0).n)) rfl rfl ?_))))
 obtain ⟨y1,hy1,h⟩:=Gb h
 refine Zx (.int .u64 (y1)) (P_shrU rfl rfl hy1) rfl ?_
 refine Zx (.int .u64 (bitU .and y1 ((6148914691236517205:Int)))) (P_bitU (by simp) rfl rfl) rfl ?_
 refine Zn (.int .u64 ((x0).n)) rfl rfl ?_
 refine Zx (.int .u64 (bitU .and ((x0).n) ((6148914691236517205:Int)))) (P_bitU (by simp) rfl rfl) rfl ?_
 obtain ⟨y2,hy2,h⟩:=Gb h
 refine Zx (.int .u64 (y2)) (P_shlU rfl rfl hy2) rfl ?_
 refine Zx (.int .u64 (bitU .or (bitU .and y1 ((6148914691236517205:Int))) y2)) (P_bitU (by simp) rfl rfl) rfl ?_
 refine Zg (.int .u64 (bitU .or (bitU .and y1 ((6148914691236517205:Int))) y2)) rfl rfl ?_
 refine Zb (Zd (Zf (Za (Zn (.int .u64 (bitU .or (bitU .and y1 ((6148914691236517205:Int))) y2)) rfl rfl ?_))))
 obtain ⟨y3,hy3,h⟩:=Gb h
 refine Zx (.int .u64 (y3)) (P_shrU rfl rfl hy3) rfl ?_
 refine Zx (.int .u64 (bitU .and y3 ((3689348814741910323:Int)))) (P_bitU (by simp) rfl rfl) rfl ?_
 refine Zn (.int .u64 (bitU .or (bitU .and y1 ((6148914691236517205:Int))) y2)) rfl rfl ?_
 refine Zx (.int .u64 (bitU .and (bitU .or (bitU .and y1 ((6148914691236517205:Int))) y2) ((3689348814741910323:Int)))) (P_bitU (by simp) rfl rfl) rfl ?_
 obtain ⟨y4,o0,h⟩:=Gb h
 refine Zx (.int .u64 (y4)) (P_shlU rfl rfl o0) rfl ?_
 refine Zx (.int .u64 (bitU .or (bitU .and y3 ((3689348814741910323:Int))) y4)) (P_bitU (by simp) rfl rfl) rfl ?_
 refine Zg (.int .u64 (bitU .or (bitU .and y3 ((3689348814741910323:Int))) y4)) rfl rfl ?_
 refine Zb (Zd (Zf (Za (Zn (.int .u64 (bitU .or (bitU .and y3 ((3689348814741910323:Int))) y4)) rfl rfl ?_))))
 obtain ⟨y5,hy5,h⟩:=Gb h
 refine Zx (.int .u64 (y5)) (P_shrU rfl rfl hy5) rfl ?_
 refine Zx (.int .u64 (bitU .and y5 ((1085102592571150095:Int)))) (P_bitU (by simp) rfl rfl) rfl ?_
 refine Zn (.int .u64 (bitU .or (bitU .and y3 ((3689348814741910323:Int))) y4)) rfl rfl ?_
 refine Zx (.int .u64 (bitU .and (bitU .or (bitU .and y3 ((3689348814741910323:Int))) y4) ((1085102592571150095:Int)))) (P_bitU (by simp) rfl rfl) rfl ?_
 obtain ⟨y6,u3,h⟩:=Gb h
 refine Zx (.int .u64 (y6)) (P_shlU rfl rfl u3) rfl ?_
 refine Zx (.int .u64 (bitU .or (bitU .and y5 ((1085102592571150095:Int))) y6)) (P_bitU (by simp) rfl rfl) rfl ?_
 refine Zg (.int .u64 (bitU .or (bitU .and y5 ((1085102592571150095:Int))) y6)) rfl rfl ?_
 refine Zb (Zd (Zf (Za (Zn (.int .u64 (bitU .or (bitU .and y5 ((1085102592571150095:Int))) y6)) rfl rfl ?_))))
 obtain ⟨y8,l5,h⟩:=Gb h
 refine Ze .plain rfl (Zp (g:=g0) (vs:=[.int .u64 (bitU .or (bitU .and y5 ((1085102592571150095:Int))) y6)]) en81 (.cons rfl .nil) (wk81  l5) fun g7 w7_ v7 hs hr=>?_)
 have hfr:=hfr.ext hs
 subst hr
 refine Zg (.int .u64 ((y8).n)) rfl rfl ?_
 refine Zb (Zd (E_ret ?_))
 obtain rfl:=sinj h
 exact end1 rfl rfl (show _=.int .u64 ((y8).n) from rfl) ⟨_,hfr,rfl⟩
def f73 (x0:List Str) (x1:Str→Option Bool):Option (Bool):=
 (f90 x0 x1).bind fun y2=>
 some ((decide (y2 ≥ (0:Int))))
theorem en73:Enters Tryz.prog 73:=enters_of Tryz.func73 (by kernel_rfl) rfl
theorem wk73 {gI:Gh} {wI:World} {x0:List Str} {x1:Str→Option Bool} {up0:Value} (rp0:RV gI.m wI x0 up0) {up1:Value} (rp1:FnV1 Tryz.prog x1 up1 gI wI) {r:Bool} (h:f73 x0 x1=some r):Fn Tryz.prog 73 #[up0,up1] gI wI (fun _ _ v=>v=.bool (r)):=by
 unfold f73 at h
 refine fn_of_E Tryz.func73 rfl (Nat.le_of_ble_eq_true rfl) fun g0 hm hfr=>?_
 have rp0:RV g0.m wI x0 up0:=hm ▸ rp0
 obtain ⟨ff1,fa1,fc1,rfl,fen1,fcl1⟩:=rp1
 show E _ 9 none _ _ _ _ _
 refine Zf (Za (Zg (.bool false) rfl rfl ?_))
 refine Zb (Zd (Zf (Za (Zn up0 rfl rfl ?_))))
 refine Zn ((.func (.func ff1) fa1 fc1)) rfl rfl ?_
 obtain ⟨y2,hy2,h⟩:=Gb h
 refine Ze .plain rfl (Zp (g:=g0) (vs:=[up0,(.func (.func ff1) fa1 fc1)]) en90 (.cons rfl (.cons rfl .nil)) (wk90 rp0 (FnV1.ch ⟨_,_,_,rfl,fen1,fcl1⟩ hfr.ch) hy2) fun g1 w1_ v1 hs hr=>?_)
 have hfr:=hfr.ext hs
 subst hr
 refine EL_in (.bool ((decide (y2 ≥ (0:Int))))) rfl rfl rfl rfl ?_
 refine Zg (.bool ((decide (y2 ≥ (0:Int))))) rfl rfl ?_
 refine Zb (Zd (E_ret ?_))
 obtain rfl:=sinj h
 exact end1 rfl rfl (show _=.bool ((decide (y2 ≥ (0:Int)))) from rfl) ⟨_,hfr,rfl⟩
def f86 (x0:Str) (x1:Vector Bool 256):Option (Str):=
 Option.bind (α:=Str) (
  lp (σ:=Str) (fun k18 o0=>
   jn (σ:=Unit) (fun _=>
    jn (σ:=Unit) (fun _=>
     (cut (o0).b (1:Int) ((o0).b.length:Int)).bind fun i6=>
     k18 ((⟨i6⟩:Str))
     ) fun k28=>
    (idx (o0).b (0:Int)).bind fun i7=>
    (f92 x1 i7).bind fun g8=>
    bif (!g8) then
     some (o0)
    else
     k28 ()
    ) fun x8=>
   bif (decide (((o0).b.length : Int) > (0 : Int))) then
    x8 ()
   else
    some (o0)
   ) big (x0)
  ) fun u3=>
 some (u3)
theorem en86:Enters Tryz.prog 86:=enters_of Tryz.func86 (by kernel_rfl) rfl
theorem wk86 {gI:Gh} {wI:World} {x0:Str} {x1:Vector Bool 256} {up1:Value} (rp1:PT gI.m wI x1 up1) {r:Str} (h:f86 x0 x1=some r):Fn Tryz.prog 86 #[Str.v (x0),up1] gI wI (fun _ _ v=>v=Str.v (r)):=by
 unfold f86 at h
 refine fn_of_E Tryz.func86 rfl (Nat.le_of_ble_eq_true rfl) fun g0 hm hfr=>?_
 have rp1:PT g0.m wI x1 up1:=hm ▸ rp1
 show E _ 16 none _ _ _ _ _
 refine Zf (Za (Zg (Str.v (⟨[]⟩:Str)) rfl rfl ?_))
 refine Zb (Zd ?_)
 obtain ⟨u3,hx,h⟩:=Gb h
 refine E_join (fun e w=>∃ (g:Gh) ,Fr gI wI g w∧e 0=Str.v (u3)) (fun Q' hQ=>?_) (fun rA lB hR=>?_)
 ·replace h := hx
  clear hx
  refine Zr ?_
  refine E_lp h (fun (s:Str) e w=>∃ (g:Gh) ,Fr gI wI g w∧e 0=Str.v (s)∧e 1=up1∧PT g.m w (x1:Vector Bool 256) up1) ⟨g0,hfr,rfl,rfl,rp1⟩ (fun X18 k18 k9=>?_)
  rintro o0 yA mB ⟨a9,hfr,t5,k8,l8⟩ h
  refine Zq h (fun (s:Unit) e w=>∃ (g:Gh) ,Fr gI wI g w∧e 0=Str.v (o0)∧e 1=up1∧PT g.m w (x1:Vector Bool 256) up1) (fun X21 x8 l9 h=>?_) ?_
  ·refine Zf (Za (Zo t5 rfl ?_))
   refine Zx (.int .i64 ((o0).b.length:Int)) (P_lenS Tryz.underlying9 rfl) rfl ?_
   refine EL_in (.bool ((decide (((o0).b.length:Int) > (0:Int))))) rfl rfl rfl rfl ?_
   refine Zb (Zd ?_)
   rcases Zt h with ⟨x6,h⟩ | ⟨x6,h⟩
   ·refine E_ct x6 rfl ?_
    exact Zu (Zd (l9 () _ _ ⟨a9,hfr,t5,k8,l8⟩ h))
   ·refine E_cf x6 rfl ?_
    refine E_exit ?_
    refine thn_e ?_
    refine thn_e ?_
    refine blk_hit ?_
    obtain rfl:=sinj h
    exact hQ _ _ ⟨a9,hfr,t5⟩
  ·rintro _ aB nB ⟨bA, hfr, x5, m7, l5⟩ h
   refine Zr ?_
   refine Zq h (fun (s:Unit) e w=>∃ (g:Gh) ,Fr gI wI g w∧e 0=Str.v (o0)∧e 1=up1∧PT g.m w (x1:Vector Bool 256) up1) (fun X28 k28 n9 h=>?_) ?_
   ·refine Zf (Za (Zo m7 rfl ?_))
    refine Zo x5 rfl ?_
    obtain ⟨i7,u9,h⟩:=Gb h
    refine Zx (.int .u8 (UInt8.toNat (i7))) (P_indexS Tryz.underlying9 rfl rfl u9) rfl ?_
    obtain ⟨g8,y9,h⟩:=Gb h
    refine Ze .plain rfl (Zp (g:=bA) (vs:=[up1,.int .u8 (UInt8.toNat (i7))]) en92 (.cons rfl (.cons rfl .nil)) (wk92 l5 y9) fun d9 dB oB hs hr=>?_)
    have hfr:=hfr.ext hs
    have l5:=l5.ext hs
    subst hr
    refine Zx (.bool (!g8)) (P_not rfl) rfl ?_
    refine Zb (Zd ?_)
    rcases Zt h with ⟨y6,h⟩ | ⟨y6,h⟩
    ·refine E_ct y6 rfl ?_
     refine E_exit ?_
     refine thn_e ?_
     refine blk_miss rfl ?_
     refine thn_e ?_
     refine blk_hit ?_
     obtain rfl:=sinj h
     exact hQ _ _ ⟨d9,hfr,x5⟩
    ·refine E_cf y6 rfl ?_
     exact Zu (Zd (n9 () _ _ ⟨d9,hfr,x5,m7,l5⟩ h))
   ·rintro _ iB tB ⟨iA, hfr, m8, n8, r8⟩ h
    refine Za (Zo m8 rfl ?_)
    obtain ⟨i6,z9,h⟩:=Gb h
    refine Zx (Str.v (⟨i6⟩:Str)) (P_sliceS Tryz.underlying9 rfl rfl rfl z9) rfl ?_
    refine Zg (Str.v (⟨i6⟩:Str)) rfl rfl ?_
    exact Zb (blk_n (Zd (k9 ((⟨i6⟩:Str)) _ _ ⟨iA,hfr,rfl,n8,r8⟩ h)))
 ·clear hx
  obtain ⟨vB,hfr,v8⟩:=hR
  refine Zf (Za (Zo v8 rfl ?_))
  refine Zg (Str.v (u3)) rfl rfl ?_
  refine Zb (Zd (E_ret ?_))
  obtain rfl:=sinj h
  exact end1 rfl rfl (show _=Str.v (u3) from rfl) ⟨_,hfr,rfl⟩
def f87 (x0:Str) (x1:Vector Bool 256):Option (Str):=
 Option.bind (α:=Str) (
  lp (σ:=Str) (fun k18 o0=>
   jn (σ:=Unit) (fun _=>
    jn (σ:=Unit) (fun _=>
     (cut (o0).b 0 (w64 (((o0).b.length:Int) - (1:Int)))).bind fun i6=>
     k18 ((⟨i6⟩:Str))
     ) fun k28=>
    (idx (o0).b (w64 (((o0).b.length:Int) - (1:Int)))).bind fun i7=>
    (f92 x1 i7).bind fun k8=>
    bif (!k8) then
     some (o0)
    else
     k28 ()
    ) fun x8=>
   bif (decide (((o0).b.length : Int) > (0 : Int))) then
    x8 ()
   else
    some (o0)
   ) big (x0)
  ) fun u3=>
 some (u3)
theorem en87:Enters Tryz.prog 87:=enters_of Tryz.func87 (by kernel_rfl) rfl
theorem wk87 {gI:Gh} {wI:World} {x0:Str} {x1:Vector Bool 256} {up1:Value} (rp1:PT gI.m wI x1 up1) {r:Str} (h:f87 x0 x1=some r):Fn Tryz.prog 87 #[Str.v (x0),up1] gI wI (fun _ _ v=>v=Str.v (r)):=by
 unfold f87 at h
 refine fn_of_E Tryz.func87 rfl (Nat.le_of_ble_eq_true rfl) fun g0 hm hfr=>?_
 have rp1:PT g0.m wI x1 up1:=hm ▸ rp1
 show E _ 22 none _ _ _ _ _
 refine Zf (Za (Zg (Str.v (⟨[]⟩:Str)) rfl rfl ?_))
 refine Zb (Zd ?_)
 obtain ⟨u3,hx,h⟩:=Gb h
 refine E_join (fun e w=>∃ (g:Gh) ,Fr gI wI g w∧e 0=Str.v (u3)) (fun Q' hQ=>?_) (fun rA lB hR=>?_)
 ·replace h := hx
  clear hx
  refine Zr ?_
  refine E_lp h (fun (s:Str) e w=>∃ (g:Gh) ,Fr gI wI g w∧e 0=Str.v (s)∧e 1=up1∧PT g.m w (x1:Vector Bool 256) up1) ⟨g0,hfr,rfl,rfl,rp1⟩ (fun X18 k18 k9=>?_)
  rintro o0 yA mB ⟨a9,hfr,x5,l8,m8⟩ h
  refine Zq h (fun (s:Unit) e w=>∃ (g:Gh) ,Fr gI wI g w∧e 0=Str.v (o0)∧e 1=up1∧PT g.m w (x1:Vector Bool 256) up1) (fun X21 x8 l9 h=>?_) ?_
  ·refine Zf (Za (Zo x5 rfl ?_))
   refine Zx (.int .i64 ((o0).b.length:Int)) (P_lenS Tryz.underlying9 rfl) rfl ?_
   refine EL_in (.bool ((decide (((o0).b.length:Int) > (0:Int))))) rfl rfl rfl rfl ?_
   refine Zb (Zd ?_)
   rcases Zt h with ⟨x6,h⟩ | ⟨x6,h⟩
   ·refine E_ct x6 rfl ?_
    exact Zu (Zd (l9 () _ _ ⟨a9,hfr,x5,l8,m8⟩ h))
   ·refine E_cf x6 rfl ?_
    refine E_exit ?_
    refine thn_e ?_
    refine thn_e ?_
    refine blk_hit ?_
    obtain rfl:=sinj h
    exact hQ _ _ ⟨a9,hfr,x5⟩
  ·rintro _ aB nB ⟨bA, hfr, l5, m7, t5⟩ h
   refine Zr ?_
   refine Zq h (fun (s:Unit) e w=>∃ (g:Gh) ,Fr gI wI g w∧e 0=Str.v (o0)∧e 1=up1∧PT g.m w (x1:Vector Bool 256) up1) (fun X28 k28 n9 h=>?_) ?_
   ·refine Zf (Za (Zo m7 rfl ?_))
    refine Zo l5 rfl ?_
    refine Zo l5 rfl ?_
    refine Zx (.int .i64 ((o0).b.length:Int)) (P_lenS Tryz.underlying9 rfl) rfl ?_
    refine EL_in (.int .i64 ((w64 (((o0).b.length:Int) - (1:Int))))) rfl rfl rfl rfl ?_
    obtain ⟨i7,u9,h⟩:=Gb h
    refine Zx (.int .u8 (UInt8.toNat (i7))) (P_indexS Tryz.underlying9 rfl rfl u9) rfl ?_
    obtain ⟨k8,y9,h⟩:=Gb h
    refine Ze .plain rfl (Zp (g:=bA) (vs:=[up1,.int .u8 (UInt8.toNat (i7))]) en92 (.cons rfl (.cons rfl .nil)) (wk92 t5 y9) fun d9 dB oB hs hr=>?_)
    have hfr:=hfr.ext hs
    have t5:=t5.ext hs
    subst hr
    refine Zx (.bool (!k8)) (P_not rfl) rfl ?_
    refine Zb (Zd ?_)
    rcases Zt h with ⟨y6,h⟩ | ⟨y6,h⟩
    ·refine E_ct y6 rfl ?_
     refine E_exit ?_
     refine thn_e ?_
     refine blk_miss rfl ?_
     refine thn_e ?_
     refine blk_hit ?_
     obtain rfl:=sinj h
     exact hQ _ _ ⟨d9,hfr,l5⟩
    ·refine E_cf y6 rfl ?_
     exact Zu (Zd (n9 () _ _ ⟨d9,hfr,l5,m7,t5⟩ h))
   ·rintro _ iB tB ⟨iA, hfr, g8, n8, r8⟩ h
    refine Za (Zo g8 rfl ?_)
    refine Zo g8 rfl ?_
    refine Zx (.int .i64 ((o0).b.length:Int)) (P_lenS Tryz.underlying9 rfl) rfl ?_
    refine EL_in (.int .i64 ((w64 (((o0).b.length:Int) - (1:Int))))) rfl rfl rfl rfl ?_
    obtain ⟨i6,z9,h⟩:=Gb h
    refine Zx (Str.v (⟨i6⟩:Str)) (P_sliceS Tryz.underlying9 rfl rfl rfl z9) rfl ?_
    refine Zg (Str.v (⟨i6⟩:Str)) rfl rfl ?_
    exact Zb (blk_n (Zd (k9 ((⟨i6⟩:Str)) _ _ ⟨iA,hfr,rfl,n8,r8⟩ h)))
 ·clear hx
  obtain ⟨vB,hfr,v8⟩:=hR
  refine Zf (Za (Zo v8 rfl ?_))
  refine Zg (Str.v (u3)) rfl rfl ?_
  refine Zb (Zd (E_ret ?_))
  obtain rfl:=sinj h
  exact end1 rfl rfl (show _=Str.v (u3) from rfl) ⟨_,hfr,rfl⟩
def f26 (x0:Int) (x1:Int) (x2:List Int):Option (Bool):=
 (f46 x2 ((fun a0=>f47 a0 x0 x1))).bind fun y4=>
 some ((!y4))
theorem en26:Enters Tryz.prog 26:=enters_of Tryz.func26 (by kernel_rfl) rfl
theorem wk26 {gI:Gh} {wI:World} {x0:Int} {x1:Int} {x2:List Int} {up2:Value} (rp2:RV gI.m wI x2 up2) {r:Bool} (h:f26 x0 x1 x2=some r):Fn Tryz.prog 26 #[.int .i64 (x0),.int .i64 (x1),up2] gI wI (fun _ _ v=>v=.bool (r)):=by
 unfold f26 at h
 refine fn_of_E Tryz.func26 rfl (Nat.le_of_ble_eq_true rfl) fun g0 hm hfr=>?_
 have rp2:RV g0.m wI x2 up2:=hm ▸ rp2
 show E _ 11 none _ _ _ _ _
 refine Zf (Za (Ze .plain rfl (D_box (g:=g0) rfl (Zj.2 rfl) fun g1 w1 p1 hs q1=>?_)))
 have hfr:=hfr.ext hs
 have rp2:=rp2.ext hs
 refine Ze .plain rfl (D_box (g:=g1) rfl (Zj.2 rfl) fun g2 w2 p2 hs q2=>?_)
 have hfr:=hfr.ext hs
 have rp2:=rp2.ext hs
 have q1:=q1.ext hs
 refine Zg (.bool false) rfl rfl ?_
 refine Zb (Zd (Zf (Za (Zn up2 rfl rfl ?_))))
 refine Zx ((.func (.func 47) #[] #[p1,p2])) (P_makeFunc (capf_0_2 (show ev _ _=p1 from rfl) (show ev _ _=p2 from rfl))) rfl ?_
 obtain ⟨y4,o0,h⟩:=Gb h
 refine Ze .plain rfl (Zp (g:=g2) (vs:=[up2,(.func (.func 47) #[] #[p1,p2])]) en46 (.cons rfl (.cons rfl .nil)) (wk46 rp2 ⟨47,#[],#[p1,p2],rfl,en47,fun g' w' hch a0 b0 r hu0 hr=>by obtain rfl:=Zj.1 hu0; exact Fn.mono (wk47  (q1.ch hch) (q2.ch hch) hr) fun _ _ _ h=>RV_bool.2 h⟩ o0) fun g3 w3_ v3 hs hr=>?_)
 have hfr:=hfr.ext hs
 subst hr
 refine Zx (.bool (!y4)) (P_not rfl) rfl ?_
 refine Zg (.bool (!y4)) rfl rfl ?_
 refine Zb (Zd (E_ret ?_))
 obtain rfl:=sinj h
 exact end1 rfl rfl (show _=.bool (!y4) from rfl) ⟨_,hfr,rfl⟩
def f30 (x0:Design):Option (Int):=
 jn (σ:=Unit) (fun _=>
  some ((0:Int))
  ) fun x6=>
 (f49 ((1:Int)) ((24:Int)) (([(x0).Hooks]:List Int))).bind fun y56=>
 bif (!y56) then
  some ((2:Int))
 else
  bif (decide ((((x0).Rows).length : Int) > (60 : Int))) then
   some ((5:Int))
  else
   bif ((((x0).Rows).length : Int) == (0 : Int)) then
    some ((7:Int))
   else
    (shl64 (1:Int) (x0).Hooks).bind fun u3=>
    (f49 ((0:Int)) ((w64 (u3 - (1:Int)))) ((x0).Rows)).bind fun y71=>
    bif (!y71) then
     some ((2:Int))
    else
     x6 ()
theorem en30:Enters Tryz.prog 30:=enters_of Tryz.func30 (by kernel_rfl) rfl
theorem wk30 {gI:Gh} {wI:World} {x0:Design} {up0:Value} (rp0:RV gI.m wI x0 up0) {r:Int} (h:f30 x0=some r):Fn Tryz.prog 30 #[up0] gI wI (fun _ _ v=>v=.int .i64 (r)):=by
 unfold f30 at h
 refine fn_of_E Tryz.func30 rfl (Nat.le_of_ble_eq_true rfl) fun g0 hm hfr=>?_
 have rp0:RV g0.m wI x0 up0:=hm ▸ rp0
 show E _ 28 none _ _ _ _ _
 refine Zf (Za (Ze .plain rfl (D_box (g:=g0) rfl rp0 fun g1 w1 p1 hs q1=>?_)))
 have hfr:=hfr.ext hs
 refine Zg (.int .i64 (0)) rfl rfl ?_
 refine Zb (Zd (Zq h (fun (s:Unit) e w=>∃ (g:Gh) ,Fr gI wI g w) (fun X51 x6 i7 h=>?_) ?_))
 ·refine Zr ?_
  refine Zf (Za (Zx (fPtr p1 0) (Zc at_31_0 rfl (PT.ptr q1)) rfl ?_))
  have n8:=Zm (part_Design_0).1 q1
  refine Ze .plain rfl (D_load (g:=g1) Tryz.isAgg3 Tryz.sizeOf3 rfl n8 fun iB r8=>?_)
  obtain rfl:=Zj.1 r8
  refine Ze .plain rfl (D_buildSlice (g:=g1) 3006 (xs:=([(x0).Hooks]:List Int)) (vs:=[.int .i64 ((x0).Hooks)]) Tryz.underlying26 Tryz.sizeOf3 Tryz.zeroValue3 rfl rfl (.cons rfl .nil) (RVs.cons (Zj.2 rfl) RVs.nil) rfl rfl fun v8 lB x8 hs o54 a9 hxt hfl=>?_)
  have hfr:=hfr.stp hs
  have q1:=q1.stp hs
  obtain ⟨y56,m7,h⟩:=Gb h
  refine Ze .plain rfl (Zp (g:=v8) (vs:=[.int .i64 (1),.int .i64 (24),x8]) en49 (.cons rfl (.cons rfl (.cons rfl .nil))) (wk49 a9 m7) fun i6 yA mB hs hr=>?_)
  have hfr:=hfr.ext hs
  have q1:=q1.ext hs
  subst hr
  refine Zx (.bool (!y56)) (P_not rfl) rfl ?_
  refine Zg (.bool (!y56)) rfl rfl ?_
  refine Zb (Zd ?_)
  rcases Zt h with ⟨l5,h⟩ | ⟨l5,h⟩
  ·refine E_ct l5 rfl ?_
   refine Zf (Za (Zg (.int .i64 (2)) rfl rfl ?_))
   refine Zb (Zd (E_ret (blk_r ?_)))
   refine thn_r ?_
   obtain rfl:=sinj h
   exact end1 rfl rfl (show _=.int .i64 (2) from rfl) ⟨_,hfr,rfl⟩
  ·refine E_cf l5 rfl ?_
   refine Zf (Za (Zx (fPtr p1 1) (Zc at_31_1 rfl (PT.ptr q1)) rfl ?_))
   have d9:=Zm (part_Design_1).1 q1
   refine Ze .plain rfl (D_load (g:=i6) Tryz.isAgg26 Tryz.sizeOf26 rfl d9 fun nB k9=>?_)
   refine Zx (.int .i64 (((x0).Rows).length:Int)) (P_len Tryz.underlying26 rfl k9) rfl ?_
   refine Zx (.bool ((decide ((((x0).Rows).length:Int) > (60:Int))))) (P_int rfl rfl rfl) rfl ?_
   refine Zx (.bool ((decide ((((x0).Rows).length:Int) > (60:Int))))) (P_assign rfl) rfl ?_
   refine Zb (Zd ?_)
   rcases Zt h with ⟨t5,h⟩ | ⟨t5,h⟩
   ·refine E_ct t5 rfl ?_
    refine Zf (Za (Zg (.int .i64 (5)) rfl rfl ?_))
    refine Zb (Zd (E_ret (blk_r ?_)))
    refine thn_r ?_
    obtain rfl:=sinj h
    exact end1 rfl rfl (show _=.int .i64 (5) from rfl) ⟨_,hfr,rfl⟩
   ·refine E_cf t5 rfl ?_
    refine Zf (Za (Zx (fPtr p1 1) (Zc at_31_1 rfl (PT.ptr q1)) rfl ?_))
    have l9:=Zm (part_Design_1).1 q1
    refine Ze .plain rfl (D_load (g:=i6) Tryz.isAgg26 Tryz.sizeOf26 rfl l9 fun v62 n9=>?_)
    refine Zx (.int .i64 (((x0).Rows).length:Int)) (P_len Tryz.underlying26 rfl n9) rfl ?_
    refine EL_in (.bool (((((x0).Rows).length:Int) == (0:Int)))) rfl rfl rfl rfl ?_
    refine Zg (.bool (((((x0).Rows).length:Int) == (0:Int)))) rfl rfl ?_
    refine Zb (Zd ?_)
    rcases Zt h with ⟨x5,h⟩ | ⟨x5,h⟩
    ·refine E_ct x5 rfl ?_
     refine Zf (Za (Zg (.int .i64 (7)) rfl rfl ?_))
     refine Zb (Zd (E_ret (blk_r ?_)))
     refine thn_r ?_
     obtain rfl:=sinj h
     exact end1 rfl rfl (show _=.int .i64 (7) from rfl) ⟨_,hfr,rfl⟩
    ·refine E_cf x5 rfl ?_
     refine Zf ?_
     have u9:=Zm (part_Design_0).1 q1
     refine Zs (x:=.tmp 20) Tryz.isAgg3 Tryz.sizeOf3 u9 fun oB y9 g8=>?_
     obtain rfl:=Zj.1 y9
     obtain ⟨u3,k8,h⟩:=Gb h
     have z9:=Zm (part_Design_1).1 q1
     refine Zs (x:=.tmp 24) Tryz.isAgg26 Tryz.sizeOf26 z9 fun y6 bA l8=>?_
     obtain ⟨y71,m8,h⟩:=Gb h
     refine E_drawL (g:=i6) (n:=9) [(6,(fun v g w=>v=.bool (y71)))] [0,1,2,3,4,5,6,7,8] rfl mixed (by kernel_rfl) (⟨fun _=>up_eq _,trivial⟩) ?_
     refine Ga (fPtr p1 0) rfl rfl (Zc at_31_0 rfl (PT.ptr q1)) ?_
     refine L_ld (c:=.int .i64 ((x0).Hooks)) rfl rfl .plain (fun _ _ h=>h.ch) g8 rfl ?_
     refine Ga (.int .i64 (u3)) rfl rfl (P_int rfl rfl (congrArg (Option.map (Value.int .i64)) k8)) ?_
     refine Ga (.int .i64 ((w64 (u3 - (1:Int))))) rfl rfl (P_int rfl rfl rfl) ?_
     refine Ga (fPtr p1 1) rfl rfl (Zc at_31_1 rfl (PT.ptr q1)) ?_
     refine L_ld (c:=y6) rfl rfl .plain (fun _ _ h=>h.ch) l8 rfl ?_
     refine L_do (φ:=fun v g w=>v=.bool (y71)) rfl rfl .plain (fun g w hd=>Zp (g:=g) (vs:=[.int .i64 (0),.int .i64 ((w64 (u3 - (1:Int)))),y6]) en49 (.cons rfl (.cons rfl (.cons rfl .nil))) (wk49 (bA.ext hd.1) m8) fun g' w' v hs hr=>⟨g',hs,hr⟩) (fun tB hv=>?_)
     obtain ⟨_,_,_,rfl⟩:=hv
     refine Ga (.bool (!y71)) rfl rfl (P_not rfl) ?_
     refine Ga (.bool (!y71)) rfl rfl (P_assign rfl) ?_
     refine L_nl fun iA vB hs=>?_
     have hfr:=hfr.ext hs
     clear hs
     refine Zb (Zd ?_)
     rcases Zt h with ⟨o0,h⟩ | ⟨o0,h⟩
     ·refine E_ct o0 rfl ?_
      refine Zf (Za (Zg (.int .i64 (2)) rfl rfl ?_))
      refine Zb (Zd (E_ret (blk_r ?_)))
      refine thn_r ?_
      obtain rfl:=sinj h
      exact end1 rfl rfl (show _=.int .i64 (2) from rfl) ⟨_,hfr,rfl⟩
     ·refine E_cf o0 rfl ?_
      exact Zu (blk_n (Zd (i7 () _ _ ⟨iA,hfr⟩ h)))
 ·rintro _ rA aB ⟨dB, hfr⟩ h
  refine Zf (Za (Zg (.int .i64 (0)) rfl rfl ?_))
  refine Zb (Zd (E_ret ?_))
  obtain rfl:=sinj h
  exact end1 rfl rfl (show _=.int .i64 (0) from rfl) ⟨_,hfr,rfl⟩
theorem v43_0 {iO:Nat} {gI:Gh} {wI:World} {x0:List Int} {x1:Int} {up0:Value} (rp0:RV gI.m wI x0 up0) {r:(List Int)} (h:f43 x0 x1=some r):FnG Tryz.prog 43 #[up0,.int .i64 (x1)] gI wI (fun g w v=>OM iO g w 3 (r) v):=by
 unfold f43 at h
 refine fnG_of_E Tryz.func43 rfl (Nat.le_of_ble_eq_true rfl) fun g0 hm hfr=>?_
 have rp0:RV g0.m wI x0 up0:=hm ▸ rp0
 show E _ 48 none _ _ _ _ _
 refine Zf (Za (Zg (.slice none 0 0) rfl rfl ?_))
 have b1:OA 4004 g0 wI 3 ([]:List Int) (.slice none 0 0):=OA.nil
 refine Zb (Zd ?_)
 obtain ⟨_,hx,h⟩:=Gb h
 refine E_join (fun e w=>∃ (g:Gh) ,Fr gI wI g w∧e 0=up0∧RV g.m w (x0:List Int) up0∧e 1=.int .i64 (x1)) (fun Q' hQ=>?_) (fun vC w4 hR=>?_)
 ·replace h := hx
  clear hx
  refine Zf (Za (Zn (.int .i64 (x1)) rfl rfl ?_))
  refine EL_in (.bool ((decide (x1 < (0:Int))))) rfl rfl rfl rfl ?_
  refine Zb (Zd ?_)
  rcases Zt h with ⟨hc3,h⟩ | ⟨hc3,h⟩
  ·refine E_ct hc3 rfl ?_
   refine Za ?_
   cases h
  ·refine E_cf hc3 rfl ?_
   refine Zu ?_
   obtain rfl:=sinj h
   exact hQ _ _ ⟨g0,hfr,rfl,rp0,rfl⟩
 ·clear hx
  obtain ⟨g4,hfr,l8,m8,aB⟩:=hR
  refine Zf (Za (Zo l8 rfl ?_))
  refine Zx (.int .i64 ((x0).length:Int)) (P_len Tryz.underlying26 rfl m8) rfl ?_
  refine Zx (.int .u64 (wu64 ((x0).length:Int))) (P_intu64 Tryz.underlying3 Tryz.underlying60 rfl) rfl ?_
  refine Zo aB rfl ?_
  refine Zx (.int .u64 (wu64 x1)) (P_intu64 Tryz.underlying3 Tryz.underlying60 rfl) rfl ?_
  obtain ⟨y5,hy5,h⟩:=Gb h
  refine Ze .plain rfl (D_mulU en62 mul_ok rfl rfl hy5 ?_)
  refine Zn (.tuple #[.int .u64 y5.1,.int .u64 y5.2]) rfl rfl ?_
  refine Zx (.int .u64 y5.1) (Zi rfl rfl) rfl ?_
  refine Zx (.int .u64 y5.2) (Zi rfl rfl) rfl ?_
  refine Zg (.int .u64 y5.1) rfl rfl ?_
  refine Zg (.int .u64 y5.2) rfl rfl ?_
  refine Zb (Zd ?_)
  obtain ⟨_,hx,h⟩:=Gb h
  refine E_join (fun e w=>∃ (g:Gh) ,Fr gI wI g w∧e 0=up0∧RV g.m w (x0:List Int) up0∧e 6=.int .u64 (y5.2)) (fun Q' hQ=>?_) (fun cC aD hR=>?_)
  ·replace h := hx
   clear hx
   obtain ⟨i6,hx,h⟩:=Gb h
   refine E_join (fun e w=>∃ (g:Gh) ,Fr gI wI g w∧e 0=up0∧RV g.m w (x0:List Int) up0∧e 6=.int .u64 (y5.2)∧e 26=.bool (i6)) (fun Q' hQ=>?_) (fun mC bD hR=>?_)
   ·replace h := hx
    clear hx
    refine Za (Zn (.int .u64 y5.1) rfl rfl ?_)
    refine Zx (.bool (decide (y5.1 > (0:Int)))) (P_u64cmp rfl rfl rfl) rfl ?_
    refine Zn (.bool (decide (y5.1 > (0:Int)))) rfl rfl ?_
    rcases Zt h with ⟨l5,h⟩ | ⟨l5,h⟩
    ·refine Zz rfl rfl l5 rfl rfl ?_
     refine Zz rfl rfl l5 rfl rfl ?_
     refine Zx (.bool true) (Zl (b:=(decide (y5.1 > (0:Int)))) rfl (pick_t l5 rfl)) rfl ?_
     refine Zb ?_
     obtain rfl:=sinj h
     exact hQ _ _ ⟨g4,hfr,l8,m8,rfl,rfl⟩
    ·refine Zy (.int .u64 y5.2) (Zk rfl) rfl rfl l5 rfl ?_
     refine Zy (.bool (decide (y5.2 > (9223372036854775807:Int)))) (P_u64cmp rfl rfl rfl) rfl rfl l5 rfl ?_
     refine Zx (.bool (decide (y5.2 > (9223372036854775807:Int)))) (Zl (b:=(decide (y5.1 > (0:Int)))) rfl (pick_f l5 rfl)) rfl ?_
     refine Zb ?_
     obtain rfl:=sinj h
     exact hQ _ _ ⟨g4,hfr,l8,m8,rfl,rfl⟩
   ·clear hx
    obtain ⟨mB,hfr,k9,l9,n9,k8⟩:=hR
    rcases Zt h with ⟨n8,h⟩ | ⟨n8,h⟩
    ·refine E_cond_true (Eq.trans (show ev _ _ = .bool (i6) from k8) (congrArg Value.bool n8)) ?_
     refine Za ?_
     cases h
    ·refine E_cond_false (Eq.trans (show ev _ _ = .bool (i6) from k8) (congrArg Value.bool n8)) ?_
     refine Zu ?_
     obtain rfl:=sinj h
     exact hQ _ _ ⟨mB,hfr,k9,l9,n9⟩
  ·clear hx
   obtain ⟨nB,hfr,u9,x6,y9⟩:=hR
   refine Zf (Za (Zo y9 rfl ?_))
   refine Zx (.int .i64 ((w64 (y5.2)))) (P_u64int Tryz.underlying60 Tryz.underlying3 rfl) rfl ?_
   obtain ⟨oB,dB,h⟩:=Gb h
   refine Ze .plain rfl (D_makeSliceM (g:=nB) 9030 (0:Int) rfl Tryz.underlying26 info_3 rfl (fun _ _=>rfl) rfl rfl dB fun tB cD u3 hs b16=>?_)
   have hfr:=hfr.stp hs
   have x6:=x6.stp hs
   refine Zg u3 rfl rfl ?_
   refine Zb (Zd (Zf (Za (Zn u3 rfl rfl ?_))))
   refine Zo u9 rfl ?_
   refine Ze .plain rfl (D_copyM (g:=tB) (α:=Int) Tryz.underlying26 info_3 rfl b16 rfl x6 fun vB eD hs b17=>?_)
   have hfr:=hfr.stp hs
   refine Zg (.int .i64 ((min (x0).length (oB).length:Nat):Int)) rfl rfl ?_
   refine Zb (Zd ?_)
   obtain ⟨z9,hx,h⟩:=Gb h
   refine E_join (fun e w=>∃ (g:Gh) ,Fr gI wI g w∧e 7=u3∧OM 9030 g w 3 (z9:List Int) u3) (fun Q' hQ=>?_) (fun qC gD hR=>?_)
   ·replace h := hx
    clear hx
    refine Zr ?_
    refine E_lp h (fun (s:(List Int) × Int) e w=>∃ (g:Gh) ,Fr gI wI g w∧e 7=u3∧OM 9030 g w 3 (s.1:List Int) u3∧e 8=.int .i64 (s.2)) ⟨vB,hfr,rfl,b17,rfl⟩ (fun X30 iD iB=>?_)
    rintro ⟨t5,o0⟩ rC jD ⟨rA,hfr,y6,i7,v8⟩ h
    refine Zq h (fun (s:Unit) e w=>∃ (g:Gh) ,Fr gI wI g w∧e 7=u3∧OM 9030 g w 3 (t5:List Int) u3∧e 8=.int .i64 (o0)) (fun X33 k33 lB h=>?_) ?_
    ·refine Zf (Za (Zo v8 rfl ?_))
     refine Zo y6 rfl ?_
     refine Zx (.int .i64 ((t5).length:Int)) (P_lenM Tryz.underlying26 rfl i7) rfl ?_
     refine EL_in (.bool ((decide (o0 < ((t5).length:Int))))) rfl rfl rfl rfl ?_
     refine Zb (Zd ?_)
     rcases Zt h with ⟨r8,h⟩ | ⟨r8,h⟩
     ·refine E_ct r8 rfl ?_
      exact Zu (Zd (lB () _ _ ⟨rA,hfr,y6,i7,v8⟩ h))
     ·refine E_cf r8 rfl ?_
      refine E_exit ?_
      refine thn_e ?_
      refine thn_e ?_
      refine blk_hit ?_
      obtain rfl:=sinj h
      exact hQ _ _ ⟨rA,hfr,y6,i7⟩
    ·rintro _ uC yB ⟨yA, hfr, m7, x5, g8⟩ h
     refine Zr ?_
     obtain ⟨x8,a9,h⟩:=Gb h
     obtain ⟨y40,d9,h⟩:=Gb h
     refine E_drawC (g:=yA) (w:=yB) (n:=8) [0,1,2,3,4,5,6] [] [0,1,2,3,4,5,6,7] rfl mixed (by kernel_rfl) fun w_c38 hs hlt=>?_
     have hfr:=hfr.ext hs
     have x5:=x5.ext hs
     clear hs
     refine CH_pur (c:=.int .i64 (o0)) rfl rfl .plain (Zk g8) ?_
     refine CH_pur (c:=u3) rfl rfl .plain (Zk m7) ?_
     refine CH_pur (c:=.int .i64 (o0)) rfl rfl .plain (Zk g8) ?_
     refine CH_pur (c:=(cutV u3 (Int.toNat o0) (Int.toNat ((t5).length:Int)) 1)) rfl rfl .plain (P_cutM (α:=Int) Tryz.underlying26 Tryz.sizeOf3 rfl (OM.hdr x5) rfl rfl a9) ?_
     refine CH_pur (c:=u3) rfl rfl .plain (Zk m7) ?_
     refine CH_pur (c:=.int .i64 (o0)) rfl rfl .plain (Zk g8) ?_
     refine CH_pur (c:=(cutV u3 0 (Int.toNat o0) 1)) rfl rfl .plain (P_cutM (α:=Int) Tryz.underlying26 Tryz.sizeOf3 rfl (OM.hdr x5) rfl rfl d9) ?_
     refine CH_do rfl rfl .plain (D_copyMM (g:=yA) (α:=Int) Tryz.underlying26 info_3 rfl x5 rfl a9 d9 fun zB lD hs b41=>?_)
     have hfr:=hfr.stp hs
     have hlt:=hlt.stp hs
     refine ⟨hlt.toW,?_⟩
     refine CH_nil ?_
     clear hlt
     refine Zx (.int .i64 ((w64 (o0 + ((min (y40).length (x8).length:Nat):Int))))) (P_int rfl rfl rfl) rfl ?_
     refine Zx (.int .i64 ((w64 (o0 + ((min (y40).length (x8).length:Nat):Int))))) (P_assign rfl) rfl ?_
     exact Zb (blk_n (Zd (iB ((cpy t5 o0 x8 y40),(w64 (o0 + ((min (y40).length (x8).length:Nat):Int)))) _ _ ⟨zB,hfr,m7,b41,rfl⟩ h)))
   ·clear hx
    obtain ⟨nD,hfr,bA,iA⟩:=hR
    refine Zf (Za (Zo bA rfl ?_))
    refine Zg u3 rfl rfl ?_
    refine Zb (Zd (E_ret ?_))
    obtain rfl:=sinj h
    obtain ⟨gh,hxh,hmh,homh⟩:=OM.handM (i:=iO) hfr iA
    exact end1 rfl rfl (show _=u3 from rfl) ⟨gh,hxh,homh⟩
def f42 (x0:Int) (x1:Int) (x2:List Int):Option (Bool):=
 (f46 x2 ((fun a0=>f61 a0 x0 x1))).bind fun y4=>
 some ((!y4))
theorem en42:Enters Tryz.prog 42:=enters_of Tryz.func42 (by kernel_rfl) rfl
theorem wk42 {gI:Gh} {wI:World} {x0:Int} {x1:Int} {x2:List Int} {up2:Value} (rp2:RV gI.m wI x2 up2) {r:Bool} (h:f42 x0 x1 x2=some r):Fn Tryz.prog 42 #[.int .i64 (x0),.int .i64 (x1),up2] gI wI (fun _ _ v=>v=.bool (r)):=by
 unfold f42 at h
 refine fn_of_E Tryz.func42 rfl (Nat.le_of_ble_eq_true rfl) fun g0 hm hfr=>?_
 have rp2:RV g0.m wI x2 up2:=hm ▸ rp2
 show E _ 11 none _ _ _ _ _
 refine Zf (Za (Ze .plain rfl (D_box (g:=g0) rfl (Zj.2 rfl) fun g1 w1 p1 hs q1=>?_)))
 have hfr:=hfr.ext hs
 have rp2:=rp2.ext hs
 refine Ze .plain rfl (D_box (g:=g1) rfl (Zj.2 rfl) fun g2 w2 p2 hs q2=>?_)
 have hfr:=hfr.ext hs
 have rp2:=rp2.ext hs
 have q1:=q1.ext hs
 refine Zg (.bool false) rfl rfl ?_
 refine Zb (Zd (Zf (Za (Zn up2 rfl rfl ?_))))
 refine Zx ((.func (.func 61) #[] #[p1,p2])) (P_makeFunc (capf_0_2 (show ev _ _=p1 from rfl) (show ev _ _=p2 from rfl))) rfl ?_
 obtain ⟨y4,o0,h⟩:=Gb h
 refine Ze .plain rfl (Zp (g:=g2) (vs:=[up2,(.func (.func 61) #[] #[p1,p2])]) en46 (.cons rfl (.cons rfl .nil)) (wk46 rp2 ⟨61,#[],#[p1,p2],rfl,en61,fun g' w' hch a0 b0 r hu0 hr=>by obtain rfl:=Zj.1 hu0; exact Fn.mono (wk61  (q1.ch hch) (q2.ch hch) hr) fun _ _ _ h=>RV_bool.2 h⟩ o0) fun g3 w3_ v3 hs hr=>?_)
 have hfr:=hfr.ext hs
 subst hr
 refine Zx (.bool (!y4)) (P_not rfl) rfl ?_
 refine Zg (.bool (!y4)) rfl rfl ?_
 refine Zb (Zd (E_ret ?_))
 obtain rfl:=sinj h
 exact end1 rfl rfl (show _=.bool (!y4) from rfl) ⟨_,hfr,rfl⟩
theorem u78 {iO:Nat} {gI:Gh} {wI:World} {x1:It Int} {up1:Value} (rp1:ItV Tryz.prog (RA1 (α:=Int)) x1 up1 gI.m wI) {r:(List Int)} (h:f78 x1=some r):FnG Tryz.prog 78 #[.slice none 0 0,up1] gI wI (fun g w v=>OS iO g w 3 r v∧RV g.m w r v):=by
 unfold f78 at h
 refine fnGD_of_E Tryz.func78 rfl (Nat.le_of_ble_eq_true rfl) fun g0 hm hfr=>?_
 have hmk:MkF g0 wI []:=MkF.start
 have rp1:ItV Tryz.prog (RA1 (α:=Int)) x1 up1 g0.m wI:=hm ▸ rp1
 show E _ 13 none _ _ _ _ _
 refine Zf (Za (Ze .plain rfl (D_boxOc (g:=g0) (a:=(([]:List Int):List Int)) 2002 rfl RV_nil fun g1 w1 p1 hs b1 cb=>?_)))
 have hfr:=hfr.stp hs
 have hmk:=hmk.stp hs
 have rp1:=rp1.stp hs
 have x8:OSF 2002 60200 0 g1 w1 3 26 (([]:List Int):List Int) p1:=cb.osfr rfl (OS.nil:OS 60200 g1 w1 3 (([]:List Int):List Int) (.slice none 0 0))
 clear cb
 refine Zg (.slice none 0 0) rfl rfl ?_
 refine Zb (Zd ?_)
 obtain ⟨x5,hx,h⟩:=Gb h
 refine E_joinD (fun e ds w=>∃ (g:Gh) ,Fr gI wI g w∧MkF g w ds∧e 2=p1∧OB 2002 g w 26 (x5:List Int) p1∧OSF 2002 60200 0 g w 3 26 (x5) p1) (fun Q' hQ=>?_) (fun oB aB vB hR=>?_)
 ·replace h := hx
  clear hx
  refine Zf (Za (Zn up1 rfl rfl ?_))
  refine Zb (Zd (Zr ?_))
  have hB0:=hfr.size
  have hmk0:=hmk
  obtain ⟨dB,hφ,h⟩:=Gb h
  refine E_rangeFunc (σ:=((List Int))) (s0:=((([]:List Int):List Int))) 10 rfl (fun _=>0) [] (fun (s:(List Int)) (g:Gh) (w:World)=>Fr gI wI g w∧MkF g w []∧OB 2002 g w 26 (s:List Int) p1∧OSF 2002 60200 0 g w 3 26 (s) p1∧ItV Tryz.prog (RA1 (α:=Int)) x1 up1 g.m w) rfl rp1 hφ (fun _ _ _ _=>rfl) rfl ra1_size rfl (fun _ _ _ _ _ hx hR=>by obtain ⟨hfr,hmk,z2,z3,z4⟩:=hR; exact ⟨hfr.ist hx hB0,hmk.ist hx,z2.ist hx,z3.ist hx,z4.ist hx⟩) (fun _ _ _ _ _ hx hR=>by obtain ⟨hfr,hmk,z2,z3,z4⟩:=hR; exact ⟨hfr.stp hx,hmk.stp hx,z2.stp hx rfl,z3.stp hx rfl,z4.stp hx⟩) ⟨hfr,hmk,b1,x8,rp1⟩ (fun _ h=>by cases h) ?_ ?_
  ·intro tB iB s x b s2 i6 d9 vs hsz h hR hrec_0 x6 hrd
   obtain ⟨lB,hse⟩:∃ y,y=s:=⟨s,rfl⟩
   subst hse
   obtain ⟨hfr,hmk,l5,u2_0_25,o0⟩:=hR
   obtain ⟨t5,hxe⟩:∃ y,y=x:=⟨x,rfl⟩
   subst hxe
   obtain ⟨g8,rfl,y6⟩:=ra1_get hrd
   obtain rfl:g8=.int .i64 (t5):=Zj.1 y6
   have u3:=RFr.refl i6 d9
   refine Za (Zg (.int .i64 (t5)) rfl rfl ?_)
   refine Zb (Zd ?_)
   obtain ⟨k9,hbr,hs,hrN⟩:=begin_round hrec_0 x6
   refine ⟨k9,hbr,?_⟩
   have hfr:=hfr.stp hs
   have hmk:=hmk.stp hs
   have u3:=u3.stp hs
   have u2_0_25:=u2_0_25.stp hs rfl
   have l5:=l5.stp hs rfl
   have o0:=o0.stp hs
   have hrec_0:=hrN
   clear hbr hs hrN
   refine Zr ?_
   refine Za (Ze .plain rfl (D_loadOS (g:=i6) Tryz.isAgg26 Tryz.sizeOf26 rfl l5 u2_0_25 fun yB i7 o27=>?_))
   refine Zn (.int .i64 (t5)) rfl rfl ?_
   refine Ze .plain rfl (D_buildSlice (g:=i6) 3010 (xs:=([t5]:List Int)) (vs:=[.int .i64 (t5)]) Tryz.underlying26 Tryz.sizeOf3 Tryz.zeroValue3 rfl rfl (.cons rfl .nil) (RVs.cons (Zj.2 rfl) RVs.nil) rfl rfl fun l9 zB cC hs o28 n9 hxt hfl=>?_)
   have hfr:=hfr.stp hs
   have hmk:=hmk.stp hs
   have u3:=u3.stp hs
   have hrec_0:=hrec_0.stp hs rfl
   have l5:=l5.stp hs rfl
   have o0:=o0.stp hs
   have i7:=i7.stp hs
   have o27:=o27.stp hs rfl
   obtain ⟨u9,a9,h⟩:=Gb h
   refine Ze .plain rfl (D_append (g:=l9) (i:=60200) Tryz.underlying26 info_3 rfl rfl o27 i7 rfl n9 a9 fun y9 w29 z9 hs o29 r8 _=>?_)
   have hfr:=hfr.stp hs
   have hmk:=hmk.stp hs
   have u3:=u3.stp hs
   have hrec_0:=hrec_0.stp hs rfl
   have l5:=l5.stp hs rfl
   have o0:=o0.stp hs
   refine Ze .plain rfl (D_storeOc (g:=y9) (v:=z9) Tryz.sizeOf26 rfl l5 rfl r8 fun bA iA hs b31 cb=>?_)
   have k8:OSF 2002 60200 0 bA iA 3 26 (u9:List Int) p1:=cb.osfr (rv_cells1 r8) (o29.stp hs rfl)
   clear cb
   have hfr:=hfr.stp hs
   have hmk:=hmk.stp hs
   have u3:=u3.stp hs
   have hrec_0:=hrec_0.stp hs rfl
   have o0:=o0.stp hs
   refine Zb (blk_n ?_)
   obtain ⟨rfl,rfl⟩:=pairs2 h
   exact ⟨_,u3,⟨hfr,hmk,b31,k8,o0⟩,hrec_0,rfl,rfl⟩
  ·intro rA mC ds33 hsz hR hds
   obtain ⟨hfr,hmk,l8,u2_0_33,mB⟩:=hR
   obtain ⟨D,hdse,hD,hDb⟩:=hds.1 rfl
   subst hdse
   replace hmk:=MkF.push hmk0 hmk hD hDb
   clear hD hDb hds
   revert hmk
   generalize ({ target:=.collected D,args:=#[] } :: []:List Deferred)=nB
   intro hmk
   refine ⟨fun _=>?_,fun k c hs _=>absurd hs (Nat.succ_ne_zero k).symm⟩
   refine blk_n ?_
   obtain rfl:=sinj h
   exact hQ _ _ _ ⟨rA,hfr,hmk,rfl,l8,u2_0_33⟩
 ·clear hx
  obtain ⟨yA,hfr,hmk,m8,n8,u2_0_34⟩:=hR
  refine Zf (Za (Ze .plain rfl (D_loadOS (g:=yA) Tryz.isAgg26 Tryz.sizeOf26 m8 n8 u2_0_34 fun v8 m7 o35=>?_)))
  refine Zg v8 rfl rfl ?_
  refine Zb (Zd (E_ret (endM (.inr rfl) hmk fun qC rC hs=>?_)))
  have hfr:=hfr.stp hs
  have m7:=m7.stp hs
  have o35:=o35.stp hs rfl
  obtain rfl:=sinj h
  obtain ⟨gh,hxh,homh,hrvh⟩:=OS.handn (i:=iO) hfr o35 m7
  exact end1 rfl rfl (show _=v8 from rfl) ⟨gh,hxh,homh,hrvh⟩
def f48 (x0:Int) (x1:Int):Option (Int):=
 (f68 ((⟨(wu64 x1)⟩:U64))).bind fun y2=>
 (shr64 ((y2).n) (wu64 (((64:Int)) - ((wu64 x0))))).bind fun y3=>
 some ((w64 y3))
theorem en48:Enters Tryz.prog 48:=enters_of Tryz.func48 (by kernel_rfl) rfl
theorem wk48 {gI:Gh} {wI:World} {x0:Int} {x1:Int}  {r:Int} (h:f48 x0 x1=some r):Fn Tryz.prog 48 #[.int .i64 (x0),.int .i64 (x1)] gI wI (fun _ _ v=>v=.int .i64 (r)):=by
 unfold f48 at h
 refine fn_of_E Tryz.func48 rfl (Nat.le_of_ble_eq_true rfl) fun g0 hm hfr=>?_
 show E _ 13 none _ _ _ _ _
 refine Zf (Za (Zg (.int .i64 (0)) rfl rfl ?_))
 refine Zb (Zd (Zf (Za (Zn (.int .i64 (x1)) rfl rfl ?_))))
 refine Zx (.int .u64 (wu64 x1)) (P_intu64 Tryz.underlying3 Tryz.underlying131 rfl) rfl ?_
 obtain ⟨y2,hy2,h⟩:=Gb h
 refine Ze .plain rfl (Zp (g:=g0) (vs:=[.int .u64 (wu64 x1)]) en68 (.cons rfl .nil) (wk68  hy2) fun g1 w1_ v1 hs hr=>?_)
 have hfr:=hfr.ext hs
 subst hr
 refine Zn (.int .i64 (x0)) rfl rfl ?_
 refine Zx (.int .u64 (wu64 x0)) (P_intu64 Tryz.underlying71 Tryz.underlying60 rfl) rfl ?_
 refine Zx (.int .u64 (wu64 (((64:Int)) - ((wu64 x0))))) (P_usub rfl rfl) rfl ?_
 obtain ⟨y3,hy3,h⟩:=Gb h
 refine Zx (.int .u64 (y3)) (P_shrU rfl rfl hy3) rfl ?_
 refine Zx (.int .i64 ((w64 y3))) (P_u64int Tryz.underlying131 Tryz.underlying3 rfl) rfl ?_
 refine Zg (.int .i64 ((w64 y3))) rfl rfl ?_
 refine Zb (Zd (E_ret ?_))
 obtain rfl:=sinj h
 exact end1 rfl rfl (show _=.int .i64 ((w64 y3)) from rfl) ⟨_,hfr,rfl⟩
theorem u63 {iO:Nat} {gI:Gh} {wI:World} {x0:It Int} {up0:Value} (rp0:ItV Tryz.prog (RA1 (α:=Int)) x0 up0 gI.m wI) {r:(List Int)} (h:f63 x0=some r):FnG Tryz.prog 63 #[up0] gI wI (fun g w v=>OS iO g w 3 r v∧RV g.m w r v):=by
 unfold f63 at h
 refine fnG_of_E Tryz.func63 rfl (Nat.le_of_ble_eq_true rfl) fun g0 hm hfr=>?_
 have rp0:ItV Tryz.prog (RA1 (α:=Int)) x0 up0 g0.m wI:=hm ▸ rp0
 show E _ 5 none _ _ _ _ _
 refine Zf (Za (Zg (.slice none 0 0) rfl rfl ?_))
 refine Zb (Zd (Zf (Za (Zn up0 rfl rfl ?_))))
 obtain ⟨y2,hy2,h⟩:=Gb h
 refine Ze .plain rfl (D_callG (g:=g0) (vs:=[.slice none 0 0,up0]) en78 (.cons rfl (.cons rfl .nil)) (u78 (iO:=4004) rp0 hy2) fun g1 w1 v1 hs m1=>?_)
 obtain ⟨o1,r1⟩:=m1
 have hfr:=hfr.ext hs
 refine Zg v1 rfl rfl ?_
 refine Zb (Zd (E_ret ?_))
 obtain rfl:=sinj h
 obtain ⟨gh,hxh,homh,hrvh⟩:=OS.handn (i:=iO) hfr o1 r1
 exact end1 rfl rfl (show _=v1 from rfl) ⟨gh,hxh,homh,hrvh⟩
def f55 (x0:TieTieHarness):Option ((List (Int × Int))):=
 Option.bind (α:=(List (Int × Int))) (
  (f57 (((x0).TieHarness).Warps)).bind fun k8=>
  (k8 ((List (Int × Int))) (fun m7 (l5,t5)=>
   some (true,((mset m7 t5 l5)))
   ) (([]:List (Int × Int)))).bind fun g8=>
  some (g8)
  ) fun i6=>
 some (i6)
theorem en55:Enters Tryz.prog 55:=enters_of Tryz.func55 (by kernel_rfl) rfl
theorem wk55 {iO:Nat} {gI:Gh} {wI:World} {x0:TieTieHarness} {up0:Value} (rp0:RV gI.m wI x0 up0) {r:(List (Int × Int))} (h:f55 x0=some r):FnG Tryz.prog 55 #[up0] gI wI (fun g w v=>MP (Value.int .i64) iO g w r v):=by
 unfold f55 at h
 refine fnGD_of_E Tryz.func55 rfl (Nat.le_of_ble_eq_true rfl) fun g0 hm hfr=>?_
 have hmk:MkF g0 wI []:=MkF.start
 have rp0:RV g0.m wI x0 up0:=hm ▸ rp0
 show E _ 17 none _ _ _ _ _
 refine Zf (Za (Ze .plain rfl (D_box (g:=g0) rfl rp0 fun g1 w1 p1 hs q1=>?_)))
 have hfr:=hfr.ext hs
 have hmk:=hmk.ext hs
 refine Zg (.map none) rfl rfl ?_
 refine Zb (Zd (Zf (Za (Ze .plain rfl (D_makeMap (g:=g1) (Value.int .i64) Int 8006 fun g2 w2 v2 hs m2=>?_)))))
 have hfr:=hfr.stp hs
 have hmk:=hmk.stp hs
 have q1:=q1.stp hs
 refine Ze .plain rfl (D_allocOc (g:=g2) 2003 (⟨.map none,rfl⟩:Fv) Tryz.zeroValue116 (fun _ _=>fvm_rep) fun g3 w3 p3 hs b3 cb=>?_)
 clear cb
 have hfr:=hfr.stp hs
 have hmk:=hmk.stp hs
 have q1:=q1.stp hs
 have m2:=m2.stp hs rfl
 have on4:=mp_one m2
 refine Ze .plain rfl (D_storeOc (g:=g3) (v:=v2) (a':=(⟨v2,on4⟩:Fv)) Tryz.sizeOf116 rfl b3 rfl (RV_fv.2 rfl) fun g4 w4 hs b4 cb=>?_)
 clear cb
 have hfr:=hfr.stp hs
 have hmk:=hmk.stp hs
 have q1:=q1.stp hs
 have m2:=m2.stp hs rfl
 refine Zb (Zd ?_)
 obtain ⟨i6,hx,h⟩:=Gb h
 refine E_joinD (fun e ds w=>∃ (g:Gh) ,Fr gI wI g w∧MkF g w ds∧e 3=p3∧BM (Value.int .i64) 2003 8006 g w 116 (i6:List (Int × Int)) p3) (fun Q' hQ=>?_) (fun mC vB uC hR=>?_)
 ·replace h := hx
  clear hx
  refine Zf (Za (Zx (fPtr p1 0) (Zc at_83_0 rfl (PT.ptr q1)) rfl ?_))
  have u9:=Zm (part_TieTieHarness_0).1 q1
  refine Zx (fPtr (fPtr p1 0) 1) (Zc at_28_1 rfl (PT.ptr u9)) rfl ?_
  have aB:=Zm (part_TieHarness_1).1 u9
  refine Ze .plain rfl (D_load (g:=g4) Tryz.isAgg26 Tryz.sizeOf26 rfl aB fun dB iB=>?_)
  obtain ⟨k8,yA,h⟩:=Gb h
  refine Ze .plain rfl (Zp (g:=g4) (vs:=[dB]) en57 (.cons rfl .nil) (wk57 iB yA) fun vC qC lB hs hr=>?_)
  have hfr:=hfr.ext hs
  have hmk:=hmk.ext hs
  have b4:=b4.ext hs
  have m2:=m2.ext hs
  have y9:=hr
  refine Zb (Zd (Zr ?_))
  have hB0:=hfr.size
  have hmk0:=hmk
  obtain ⟨g8,hφ,h⟩:=Gb h
  refine E_rangeFunc (σ:=((List (Int × Int)))) (s0:=(([]:List (Int × Int)))) 10 rfl (fun _=>0) [] (fun (s:(List (Int × Int))) (g:Gh) (w:World)=>Fr gI wI g w∧MkF g w []∧BM (Value.int .i64) 2003 8006 g w 116 (s:List (Int × Int)) p3∧ItV Tryz.prog (RA2 (α:=Int) (β:=Int)) k8 lB g.m w) rfl y9 hφ (fun _ _ _ _=>rfl) rfl ra2_size rfl (fun _ _ _ _ _ hx hR=>by obtain ⟨hfr,hmk,z2,z3⟩:=hR; exact ⟨hfr.ist hx hB0,hmk.ist hx,z2.ist hx,z3.ist hx⟩) (fun _ _ _ _ _ hx hR=>by obtain ⟨hfr,hmk,z2,z3⟩:=hR; exact ⟨hfr.stp hx,hmk.stp hx,z2.stp hx rfl,z3.stp hx⟩) ⟨hfr,hmk,⟨_,b4,m2⟩,y9⟩ (fun _ h=>by cases h) ?_ ?_
  ·intro rC yB s x b s2 l8 w29 vs hsz h hR hrec_0 m8 hrd
   obtain ⟨m7,hse⟩:∃ y,y=s:=⟨s,rfl⟩
   subst hse
   obtain ⟨hfr,hmk,⟨v8,u3,x6⟩,o0⟩:=hR
   obtain ⟨l5,t5⟩:=x
   obtain ⟨x8,a9,rfl,n8,r8⟩:=ra2_get hrd
   obtain rfl:x8=.int .i64 (l5):=Zj.1 n8
   obtain rfl:a9=.int .i64 (t5):=Zj.1 r8
   have x5:=RFr.refl l8 w29
   refine Zf (Za (Zg (.int .i64 (l5)) rfl rfl ?_))
   refine Zb (Zd (Za (Zg (.int .i64 (t5)) rfl rfl ?_)))
   refine Zb (Zd ?_)
   obtain ⟨mB,hbr,hs,hrN⟩:=begin_round hrec_0 m8
   refine ⟨mB,hbr,?_⟩
   have hfr:=hfr.stp hs
   have hmk:=hmk.stp hs
   have x5:=x5.stp hs
   have u3:=u3.stp hs rfl
   have x6:=x6.stp hs rfl
   have o0:=o0.stp hs
   have hrec_0:=hrN
   clear hbr hs hrN
   refine Zr ?_
   refine Za (Ze .plain rfl (D_loadO (α:=Fv) (g:=l8) Tryz.isAgg116 Tryz.sizeOf116 rfl u3 fun z9 bA=>?_))
   have e31:z9=v8.v:=RV_fv.1 bA
   clear bA
   subst z9
   refine Zn (.int .i64 (t5)) rfl rfl ?_
   refine Zn (.int .i64 (l5)) rfl rfl ?_
   refine Ze .plain rfl (D_mapUpdate (g:=l8) Tryz.underlying116 key_3 rfl x6 rfl rfl (Zj.2 rfl) fun aD bD hs m32=>?_)
   have hfr:=hfr.stp hs
   have hmk:=hmk.stp hs
   have x5:=x5.stp hs
   have hrec_0:=hrec_0.stp hs rfl
   have u3:=u3.stp hs rfl
   have o0:=o0.stp hs
   refine Zb (blk_n ?_)
   obtain ⟨rfl,rfl⟩:=pairs2 h
   exact ⟨_,x5,⟨hfr,hmk,⟨_,u3,m32⟩,o0⟩,hrec_0,rfl,rfl⟩
  ·intro nB cD ds34 hsz hR hds
   obtain ⟨hfr,hmk,⟨zB,d9,k9⟩,oB⟩:=hR
   obtain ⟨D,hdse,hD,hDb⟩:=hds.1 rfl
   subst hdse
   replace hmk:=MkF.push hmk0 hmk hD hDb
   clear hD hDb hds
   revert hmk
   generalize ({ target:=.collected D,args:=#[] } :: []:List Deferred)=cC
   intro hmk
   refine ⟨fun _=>?_,fun k c hs _=>absurd hs (Nat.succ_ne_zero k).symm⟩
   refine blk_n ?_
   obtain rfl:=sinj h
   exact hQ _ _ _ ⟨nB,hfr,hmk,rfl,⟨_,d9,k9⟩⟩
 ·clear hx
  obtain ⟨tB,hfr,hmk,l9,⟨y6,n9,i7⟩⟩:=hR
  refine Zf (Za (Ze .plain rfl (D_loadO (α:=Fv) (g:=tB) Tryz.isAgg116 Tryz.sizeOf116 l9 n9 fun iA rA=>?_)))
  have e36:iA=y6.v:=RV_fv.1 rA
  clear rA
  subst iA
  refine Zg (y6.v) rfl rfl ?_
  refine Zb (Zd (E_ret (endM (.inr rfl) hmk fun eD gD hs=>?_)))
  have hfr:=hfr.stp hs
  have i7:=i7.stp hs rfl
  obtain rfl:=sinj h
  obtain ⟨gh,hxh,hmh,mph⟩:=MP.handm (i:=iO) hfr i7
  exact end1 rfl rfl (show _=y6.v from rfl) ⟨gh,hxh,mph⟩
def f72 (x0:Str) (x1:Str):Option (Str):=
 jn (σ:=Unit) (fun _=>
  jn (σ:=Unit) (fun _=>
   jn (σ:=Unit) (fun _=>
    none
    ) fun iA=>
   (f85 x1).bind fun t5=>
   bif t5.2 then
    (f87 x0 (t5.1)).bind fun n9=>
    (f86 n9 (t5.1)).bind fun y80=>
    some (y80)
   else
    iA ()
   ) fun rA=>
  Option.bind (α:=Bool) (
   bif (((x1).b.length : Int) == (1 : Int)) then
    (idx (x1).b (0:Int)).bind fun k8=>
    some ((decide (k8 < (128:UInt8))))
   else
    some (false)
   ) fun u3=>
  bif u3 then
   (idx (x1).b (0:Int)).bind fun r8=>
   (f84 x0 r8).bind fun y44=>
   (idx (x1).b (0:Int)).bind fun v8=>
   (f83 y44 v8).bind fun x6=>
   some (x6)
  else
   rA ()
  ) fun k5=>
 Option.bind (α:=Bool) (
  bif ((x0).b == ((⟨[]⟩ : Str)).b) then
   some (true)
  else
   some (((x1).b == ((⟨[]⟩:Str)).b))
  ) fun l5=>
 bif l5 then
  some (x0)
 else
  k5 ()
theorem en72:Enters Tryz.prog 72:=enters_of Tryz.func72 (by kernel_rfl) rfl
theorem wk72 {gI:Gh} {wI:World} {x0:Str} {x1:Str}  {r:Str} (h:f72 x0 x1=some r):Fn Tryz.prog 72 #[Str.v (x0),Str.v (x1)] gI wI (fun _ _ v=>v=Str.v (r)):=by
 unfold f72 at h
 refine fn_of_E Tryz.func72 rfl (Nat.le_of_ble_eq_true rfl) fun g0 hm hfr=>?_
 show E _ 43 none _ _ _ _ _
 refine Zf (Za (Zg (Str.v (⟨[]⟩:Str)) rfl rfl ?_))
 refine Zb (Zd (Zq h (fun (s:Unit) e w=>∃ (g:Gh) ,Fr gI wI g w∧e 0=Str.v (x0)∧e 1=Str.v (x1)) (fun X5 k5 hk5 h=>?_) ?_))
 ·obtain ⟨l5, hx, h⟩ := Gb h
  refine E_join (fun e w=>∃ (g:Gh) ,Fr gI wI g w∧e 0=Str.v (x0)∧e 1=Str.v (x1)∧e 12=.bool (l5)) (fun Q' hQ=>?_) (fun oD w8 hR=>?_)
  ·replace h := hx
   clear hx
   refine Za (Zn (Str.v (x0)) rfl rfl ?_)
   refine Zx (.bool (((x0).b == ((⟨[]⟩:Str)).b))) (P_str rfl rfl rfl) rfl ?_
   refine Zn (.bool (((x0).b == ((⟨[]⟩:Str)).b))) rfl rfl ?_
   rcases Zt h with ⟨i6,h⟩ | ⟨i6,h⟩
   ·refine Zz rfl rfl i6 rfl rfl ?_
    refine Zz rfl rfl i6 rfl rfl ?_
    refine Zx (.bool true) (Zl (b:=((x0).b == ((⟨[]⟩:Str)).b)) rfl (pick_t i6 rfl)) rfl ?_
    refine Zb ?_
    obtain rfl:=sinj h
    exact hQ _ _ ⟨g0,hfr,rfl,rfl,rfl⟩
   ·refine Zy (Str.v (x1)) (Zk rfl) rfl rfl i6 rfl ?_
    refine Zy (.bool (((x1).b == ((⟨[]⟩:Str)).b))) (P_str rfl rfl rfl) rfl rfl i6 rfl ?_
    refine Zx (.bool (((x1).b == ((⟨[]⟩:Str)).b))) (Zl (b:=((x0).b == ((⟨[]⟩:Str)).b)) rfl (pick_f i6 rfl)) rfl ?_
    refine Zb ?_
    obtain rfl:=sinj h
    exact hQ _ _ ⟨g0,hfr,rfl,rfl,rfl⟩
  ·clear hx
   obtain ⟨g8,hfr,u9,lB,x8⟩:=hR
   rcases Zt h with ⟨y9,h⟩ | ⟨y9,h⟩
   ·refine E_cond_true (Eq.trans (show ev _ _ = .bool (l5) from x8) (congrArg Value.bool y9)) ?_
    refine Zf (Za (Zo u9 rfl ?_))
    refine Zg (Str.v (x0)) rfl rfl ?_
    refine Zb (Zd (E_ret (thn_r ?_)))
    obtain rfl:=sinj h
    exact end1 rfl rfl (show _=Str.v (x0) from rfl) ⟨_,hfr,rfl⟩
   ·refine E_cond_false (Eq.trans (show ev _ _ = .bool (l5) from x8) (congrArg Value.bool y9)) ?_
    exact Zu (Zd (hk5 () _ _ ⟨g8,hfr,u9,lB⟩ h))
 ·rintro _ cD sD ⟨yA, hfr, a9, x5⟩ h
  refine Zq h (fun (s:Unit) e w=>∃ (g:Gh) ,Fr gI wI g w∧e 0=Str.v (x0)∧e 1=Str.v (x1)) (fun X35 rA mB h=>?_) ?_
  ·obtain ⟨u3, hx, h⟩ := Gb h
   refine E_join (fun e w=>∃ (g:Gh) ,Fr gI wI g w∧e 0=Str.v (x0)∧e 1=Str.v (x1)∧e 21=.bool (u3)) (fun Q' hQ=>?_) (fun eD tD hR=>?_)
   ·replace h := hx
    clear hx
    refine Za (Zo x5 rfl ?_)
    refine Zx (.int .i64 ((x1).b.length:Int)) (P_lenS Tryz.underlying9 rfl) rfl ?_
    refine EL_in (.bool ((((x1).b.length:Int) == (1:Int)))) rfl rfl rfl rfl ?_
    refine Zn (.bool ((((x1).b.length:Int) == (1:Int)))) rfl rfl ?_
    rcases Zt h with ⟨o0,h⟩ | ⟨o0,h⟩
    ·refine Zy (Str.v (x1)) (Zk x5) rfl rfl o0 rfl ?_
     obtain ⟨k8,nB,h⟩:=Gb h
     refine Zy (.int .u8 (UInt8.toNat (k8))) (P_indexS Tryz.underlying9 rfl rfl nB) rfl rfl o0 rfl ?_
     refine Zy (.bool ((decide (k8 < (128:UInt8))))) (P_u8 rfl rfl rfl) rfl rfl o0 rfl ?_
     refine Zx (.bool ((decide (k8 < (128:UInt8))))) (Zl (b:=(((x1).b.length:Int) == (1:Int))) rfl (pick_t o0 rfl)) rfl ?_
     refine Zb ?_
     obtain rfl:=sinj h
     exact hQ _ _ ⟨yA,hfr,a9,x5,rfl⟩
    ·refine Zz rfl rfl o0 rfl rfl ?_
     refine Zz rfl rfl o0 rfl rfl ?_
     refine Zz rfl rfl o0 rfl rfl ?_
     refine Zx (.bool false) (Zl (b:=(((x1).b.length:Int) == (1:Int))) rfl (pick_f o0 rfl)) rfl ?_
     refine Zb ?_
     obtain rfl:=sinj h
     exact hQ _ _ ⟨yA,hfr,a9,x5,rfl⟩
   ·clear hx
    obtain ⟨aB,hfr,d9,y6,l8⟩:=hR
    rcases Zt h with ⟨m8,h⟩ | ⟨m8,h⟩
    ·refine E_cond_true (Eq.trans (show ev _ _ = .bool (u3) from l8) (congrArg Value.bool m8)) ?_
     refine Zf ?_
     obtain ⟨r8,oB,h⟩:=Gb h
     obtain ⟨y44,tB,h⟩:=Gb h
     obtain ⟨v8,vB,h⟩:=Gb h
     obtain ⟨x6,yB,h⟩:=Gb h
     refine E_drawL (g:=aB) (n:=8) [(3,(fun v g w=>v=Str.v (y44))),(6,(fun v g w=>v=Str.v (x6)))] [0,1,2,3,4,5,6,7] rfl mixed (by kernel_rfl) (⟨fun _=>up_eq _,fun _=>up_eq _,trivial⟩) ?_
     refine Ga (Str.v (x0)) rfl rfl (Zk d9) ?_
     refine Ga (Str.v (x1)) rfl rfl (Zk y6) ?_
     refine Ga (.int .u8 (UInt8.toNat (r8))) rfl rfl (P_indexS Tryz.underlying9 rfl rfl oB) ?_
     refine L_do (φ:=fun v g w=>v=Str.v (y44)) rfl rfl .plain (fun g w hd=>Zp (g:=g) (vs:=[Str.v (x0),.int .u8 (UInt8.toNat (r8))]) en84 (.cons rfl (.cons rfl .nil)) (wk84  tB) fun g' w' v hs hr=>⟨g',hs,hr⟩) (fun uD hv=>?_)
     obtain ⟨_,_,_,rfl⟩:=hv
     refine Ga (Str.v (x1)) rfl rfl (Zk y6) ?_
     refine Ga (.int .u8 (UInt8.toNat (v8))) rfl rfl (P_indexS Tryz.underlying9 rfl rfl vB) ?_
     refine L_do (φ:=fun v g w=>v=Str.v (x6)) rfl rfl .plain (fun g w hd=>Zp (g:=g) (vs:=[Str.v (y44),.int .u8 (UInt8.toNat (v8))]) en83 (.cons rfl (.cons rfl .nil)) (wk83  yB) fun g' w' v hs hr=>⟨g',hs,hr⟩) (fun vD hv=>?_)
     obtain ⟨_,_,_,rfl⟩:=hv
     refine Ga (Str.v (x6)) rfl rfl (P_assign rfl) ?_
     refine L_nl fun xD yD hs=>?_
     have hfr:=hfr.ext hs
     clear hs
     refine Zb (Zd (E_ret (thn_r ?_)))
     obtain rfl:=sinj h
     exact end1 rfl rfl (show _=Str.v (x6) from rfl) ⟨_,hfr,rfl⟩
    ·refine E_cond_false (Eq.trans (show ev _ _ = .bool (u3) from l8) (congrArg Value.bool m8)) ?_
     exact Zu (Zd (mB () _ _ ⟨aB,hfr,d9,y6⟩ h))
  ·rintro _ gD zD ⟨rC, hfr, k9, l9⟩ h
   refine Zq h (fun (s:Unit) e w=>∃ (g:Gh) ,Fr gI wI g w∧e 0=Str.v (x0)∧e 1=Str.v (x1)) (fun X71 iA zB h=>?_) ?_
   ·refine Zf (Za (Zo l9 rfl ?_))
    obtain ⟨t5,cC,h⟩:=Gb h
    refine Ze .plain rfl (Zp (g:=rC) (vs:=[Str.v (x1)]) en85 (.cons rfl .nil) (wk85  cC) fun uC iD aE hs hr=>?_)
    have hfr:=hfr.ext hs
    obtain ⟨i7,bD,rfl,m7,rfl⟩:=hr
    refine Zn (.tuple #[i7,.bool (t5.2)]) rfl rfl ?_
    refine Zx i7 (Zi rfl rfl) rfl ?_
    refine Zx (.bool (t5.2)) (Zi rfl rfl) rfl ?_
    refine Ze .plain rfl (D_allocOc (g:=uC) 2005 ((Vector.replicate 256 false):Vector Bool 256) Tryz.zeroValue150 (fun m w=>⟨_,(rep_replicate rep_bool),by kernel_rfl⟩) fun vC bE dB hs b74 cb=>?_)
    have hfr:=hfr.stp hs
    have m7:=m7.stp hs
    clear cb
    refine Ze .plain rfl (D_storeOc (g:=vC) (v:=i7) Tryz.sizeOf150 rfl b74 rfl m7 fun iB iE hs b75 cb=>?_)
    clear cb
    have hfr:=hfr.stp hs
    refine Zg (.bool (t5.2)) rfl rfl ?_
    refine Zb (Zd (Zf (Za (Zn (.bool (t5.2)) rfl rfl ?_))))
    refine Zb (Zd ?_)
    rcases Zt h with ⟨n8,h⟩ | ⟨n8,h⟩
    ·refine E_ct n8 rfl ?_
     refine Zf (Za (Zo k9 rfl ?_))
     obtain ⟨n9,mC,h⟩:=Gb h
     refine Ze .plain rfl (D_callF (g:=iB) (vs:=[Str.v (x0),dB]) en87 (.cons rfl (.cons rfl .nil)) (wk87 (OB.lent b75) mC) fun aD jD lE hs hr=>?_)
     have hfr:=hfr.ext hs
     have b75:=b75.ext hs
     subst hr
     obtain ⟨y80,qC,h⟩:=Gb h
     refine Ze .plain rfl (D_callF (g:=aD) (vs:=[Str.v (n9),dB]) en86 (.cons rfl (.cons rfl .nil)) (wk86 (OB.lent b75) qC) fun mE lD oE hs hr=>?_)
     have hfr:=hfr.ext hs
     subst hr
     refine Zg (Str.v (y80)) rfl rfl ?_
     refine Zb (Zd (E_ret (thn_r ?_)))
     obtain rfl:=sinj h
     exact end1 rfl rfl (show _=Str.v (y80) from rfl) ⟨_,hfr,rfl⟩
    ·refine E_cf n8 rfl ?_
     exact Zu (Zd (zB () _ _ ⟨iB,hfr,k9,l9⟩ h))
   ·rintro _ nD rE ⟨uE, hfr, z9, bA⟩ h
    refine Zf (Za (Zo z9 rfl ?_))
    refine Zo bA rfl ?_
    cases h
def f23 (x0:Int):Option (Bool):=
 (f26 ((1:Int)) ((24:Int)) (([x0]:List Int))).bind fun y3=>
 some (y3)
theorem en23:Enters Tryz.prog 23:=enters_of Tryz.func23 (by kernel_rfl) rfl
theorem wk23 {gI:Gh} {wI:World} {x0:Int}  {r:Bool} (h:f23 x0=some r):Fn Tryz.prog 23 #[.int .i64 (x0)] gI wI (fun _ _ v=>v=.bool (r)):=by
 unfold f23 at h
 refine fn_of_E Tryz.func23 rfl (Nat.le_of_ble_eq_true rfl) fun g0 hm hfr=>?_
 show E _ 6 none _ _ _ _ _
 refine Zf (Za (Zg (.bool false) rfl rfl ?_))
 refine Zb (Zd (Zf (Za (Zn (.int .i64 (x0)) rfl rfl ?_))))
 refine Ze .plain rfl (D_buildSlice (g:=g0) 3004 (xs:=([x0]:List Int)) (vs:=[.int .i64 (x0)]) Tryz.underlying26 Tryz.sizeOf3 Tryz.zeroValue3 rfl rfl (.cons rfl .nil) (RVs.cons (Zj.2 rfl) RVs.nil) rfl rfl fun g1 w1 v1 hs o1 r1 hxt hfl=>?_)
 have hfr:=hfr.stp hs
 obtain ⟨y3,hy3,h⟩:=Gb h
 refine Ze .plain rfl (Zp (g:=g1) (vs:=[.int .i64 (1),.int .i64 (24),v1]) en26 (.cons rfl (.cons rfl (.cons rfl .nil))) (wk26 r1 hy3) fun g2 w2_ v2 hs hr=>?_)
 have hfr:=hfr.ext hs
 subst hr
 refine Zg (.bool (y3)) rfl rfl ?_
 refine Zb (Zd (E_ret ?_))
 obtain rfl:=sinj h
 exact end1 rfl rfl (show _=.bool (y3) from rfl) ⟨_,hfr,rfl⟩
def f24 (x0:Int) (x1:List Int):Option (Bool):=
 (shl64 (1:Int) x0).bind fun y1=>
 (f26 ((0:Int)) ((w64 (y1 - (1:Int)))) x1).bind fun y3=>
 some (y3)
theorem en24:Enters Tryz.prog 24:=enters_of Tryz.func24 (by kernel_rfl) rfl
theorem wk24 {gI:Gh} {wI:World} {x0:Int} {x1:List Int} {up1:Value} (rp1:RV gI.m wI x1 up1) {r:Bool} (h:f24 x0 x1=some r):Fn Tryz.prog 24 #[.int .i64 (x0),up1] gI wI (fun _ _ v=>v=.bool (r)):=by
 unfold f24 at h
 refine fn_of_E Tryz.func24 rfl (Nat.le_of_ble_eq_true rfl) fun g0 hm hfr=>?_
 have rp1:RV g0.m wI x1 up1:=hm ▸ rp1
 show E _ 10 none _ _ _ _ _
 refine Zf (Za (Zg (.bool false) rfl rfl ?_))
 refine Zb (Zd (Zf (Za (Zn (.int .i64 (x0)) rfl rfl ?_))))
 obtain ⟨y1,hy1,h⟩:=Gb h
 refine Zx (.int .i64 (y1)) (P_int rfl rfl (congrArg (Option.map (Value.int .i64)) hy1)) rfl ?_
 refine EL_in (.int .i64 ((w64 (y1 - (1:Int))))) rfl rfl rfl rfl ?_
 refine Zn up1 rfl rfl ?_
 obtain ⟨y3,hy3,h⟩:=Gb h
 refine Ze .plain rfl (Zp (g:=g0) (vs:=[.int .i64 (0),.int .i64 ((w64 (y1 - (1:Int)))),up1]) en26 (.cons rfl (.cons rfl (.cons rfl .nil))) (wk26 rp1 hy3) fun g2 w2_ v2 hs hr=>?_)
 have hfr:=hfr.ext hs
 subst hr
 refine Zg (.bool (y3)) rfl rfl ?_
 refine Zb (Zd (E_ret ?_))
 obtain rfl:=sinj h
 exact end1 rfl rfl (show _=.bool (y3) from rfl) ⟨_,hfr,rfl⟩
def f27 (x0:ChainChainBelt) (x1:Int):Option (Int):=
 jn (σ:=Unit) (fun _=>
  (idx (((x0).ChainBelt).Cards) x1).bind fun l5=>
  some ((l5).Row)
  ) fun k19=>
 (idx (((x0).ChainBelt).Cards) x1).bind fun y23=>
 bif (y23).Turned then
  (f48 ((x0).frame) ((y23).Row)).bind fun t5=>
  some (t5)
 else
  k19 ()
theorem en27:Enters Tryz.prog 27:=enters_of Tryz.func27 (by kernel_rfl) rfl
theorem wk27 {gI:Gh} {wI:World} {x0:ChainChainBelt} {x1:Int} {up0:Value} (rp0:RV gI.m wI x0 up0) {r:Int} (h:f27 x0 x1=some r):Fn Tryz.prog 27 #[up0,.int .i64 (x1)] gI wI (fun _ _ v=>v=.int .i64 (r)):=by
 unfold f27 at h
 refine fn_of_E Tryz.func27 rfl (Nat.le_of_ble_eq_true rfl) fun g0 hm hfr=>?_
 have rp0:RV g0.m wI x0 up0:=hm ▸ rp0
 show E _ 26 none _ _ _ _ _
 refine Zf (Za (Ze .plain rfl (D_box (g:=g0) rfl rp0 fun g1 w1 p1 hs q1=>?_)))
 have hfr:=hfr.ext hs
 refine Zg (.int .i64 (0)) rfl rfl ?_
 refine Zb (Zd (Zq h (fun (s:Unit) e w=>∃ (g:Gh) ,Fr gI wI g w∧e 1=.int .i64 (x1)∧e 2=p1∧PT g.m w (x0:ChainChainBelt) p1) (fun X19 k19 a9 h=>?_) ?_))
 ·refine Zf (Za (Zx (fPtr p1 0) (Zc at_74_0 rfl (PT.ptr q1)) rfl ?_))
  have g8:=Zm (part_ChainChainBelt_0).1 q1
  refine Zx (fPtr (fPtr p1 0) 1) (Zc at_36_1 rfl (PT.ptr g8)) rfl ?_
  have k9:=Zm (part_ChainBelt_1).1 g8
  refine Ze .plain rfl (D_load (g:=g1) Tryz.isAgg34 Tryz.sizeOf34 rfl k9 fun l9 k8=>?_)
  refine Zn (.int .i64 (x1)) rfl rfl ?_
  obtain ⟨y23,i6,h⟩:=Gb h
  refine Zx (ePtr l9 x1 3) (Zh (α:=ChainCard) Tryz.underlying34 Tryz.sizeOf62 rfl k8 rfl i6) rfl ?_
  have n9:=PT_idx k8 i6
  refine Ze .plain rfl (D_load (g:=g1) Tryz.isAgg62 Tryz.sizeOf62 rfl n9 fun u9 x6=>?_)
  refine Ze .plain rfl (D_allocOc (g:=g1) 2005 (⟨0,0,false⟩:ChainCard) Tryz.zeroValue62 (fun m w=>⟨_,(rep_two Zw (rep_two Zw rep_bool)),rfl⟩) fun y9 mB l8 hs b26 cb=>?_)
  have hfr:=hfr.stp hs
  have q1:=q1.stp hs
  have x6:=x6.stp hs
  clear cb
  refine Ze .plain rfl (D_storeOc (g:=y9) (v:=u9) Tryz.sizeOf62 rfl b26 rfl x6 fun o0 nB hs b27 cb=>?_)
  clear cb
  have hfr:=hfr.stp hs
  have q1:=q1.stp hs
  refine Zb (Zd (Zf (Za (Zx (fPtr l8 2) (Zc at_62_2 rfl (OB.ptr b27)) rfl ?_))))
  refine Ze .plain rfl (D_loadF (g:=o0) part_ChainCard_2.1 Tryz.isAgg4 Tryz.sizeOf4 rfl b27 fun oB z9=>?_)
  obtain rfl:=RV_bool.1 z9
  refine Zb (Zd ?_)
  rcases Zt h with ⟨u3,h⟩ | ⟨u3,h⟩
  ·refine E_ct u3 rfl ?_
   refine Zf (Za (Zx (fPtr p1 2) (Zc at_74_1 rfl (PT.ptr q1)) rfl ?_))
   have bA:=Zm (part_ChainChainBelt_1).1 q1
   refine Ze .plain rfl (D_load (g:=o0) Tryz.isAgg71 Tryz.sizeOf71 rfl bA fun tB iA=>?_)
   obtain rfl:=Zj.1 iA
   refine Zx (fPtr l8 1) (Zc at_62_1 rfl (OB.ptr b27)) rfl ?_
   refine Ze .plain rfl (D_loadF (g:=o0) part_ChainCard_1.1 Tryz.isAgg3 Tryz.sizeOf3 rfl b27 fun vB rA=>?_)
   obtain rfl:=Zj.1 rA
   obtain ⟨t5,d9,h⟩:=Gb h
   refine Ze .plain rfl (Zp (g:=o0) (vs:=[.int .i64 ((x0).frame),.int .i64 ((y23).Row)]) en48 (.cons rfl (.cons rfl .nil)) (wk48  d9) fun yB iB zB hs hr=>?_)
   have hfr:=hfr.ext hs
   subst hr
   refine Zg (.int .i64 (t5)) rfl rfl ?_
   refine Zb (Zd (E_ret (thn_r ?_)))
   obtain rfl:=sinj h
   exact end1 rfl rfl (show _=.int .i64 (t5) from rfl) ⟨_,hfr,rfl⟩
  ·refine E_cf u3 rfl ?_
   exact Zu (Zd (a9 () _ _ ⟨o0,hfr,rfl,rfl,q1⟩ h))
 ·rintro _ lB cC ⟨m8, hfr, i7, m7, x5⟩ h
  refine Zf (Za (Zx (fPtr p1 0) (Zc at_74_0 m7 (PT.ptr x5)) rfl ?_))
  have n8:=Zm (part_ChainChainBelt_0).1 x5
  refine Zx (fPtr (fPtr p1 0) 1) (Zc at_36_1 rfl (PT.ptr n8)) rfl ?_
  have yA:=Zm (part_ChainBelt_1).1 n8
  refine Ze .plain rfl (D_load (g:=m8) Tryz.isAgg34 Tryz.sizeOf34 rfl yA fun r8 v8=>?_)
  refine Zo i7 rfl ?_
  obtain ⟨l5,y6,h⟩:=Gb h
  refine Zx (ePtr r8 x1 3) (Zh (α:=ChainCard) Tryz.underlying34 Tryz.sizeOf62 rfl v8 rfl y6) rfl ?_
  have x8:=PT_idx v8 y6
  refine Zx (fPtr (ePtr r8 x1 3) 1) (Zc at_62_1 rfl (PT.ptr x8)) rfl ?_
  have aB:=Zm (part_ChainCard_1).1 x8
  refine Ze .plain rfl (D_load (g:=m8) Tryz.isAgg3 Tryz.sizeOf3 rfl aB fun mC dB=>?_)
  obtain rfl:=Zj.1 dB
  refine Zg (.int .i64 ((l5).Row)) rfl rfl ?_
  refine Zb (Zd (E_ret ?_))
  obtain rfl:=sinj h
  exact end1 rfl rfl (show _=.int .i64 ((l5).Row) from rfl) ⟨_,hfr,rfl⟩
def f29 (x0:TieHarness):Option (Int):=
 jn (σ:=Unit) (fun _=>
  some ((0:Int))
  ) fun y6=>
 (f42 ((1:Int)) ((24:Int)) (([(x0).Hooks]:List Int))).bind fun i6=>
 bif (!i6) then
  some ((2:Int))
 else
  bif (decide ((((x0).Warps).length : Int) > (96 : Int))) then
   some ((5:Int))
  else
   bif ((((x0).Warps).length : Int) == (0 : Int)) then
    some ((7:Int))
   else
    (f42 ((0:Int)) ((w64 ((x0).Hooks - (1:Int)))) ((x0).Warps)).bind fun x6=>
    bif (!x6) then
     some ((2:Int))
    else
     y6 ()
theorem en29:Enters Tryz.prog 29:=enters_of Tryz.func29 (by kernel_rfl) rfl
theorem wk29 {gI:Gh} {wI:World} {x0:TieHarness} {up0:Value} (rp0:RV gI.m wI x0 up0) {r:Int} (h:f29 x0=some r):Fn Tryz.prog 29 #[up0] gI wI (fun _ _ v=>v=.int .i64 (r)):=by
 unfold f29 at h
 refine fn_of_E Tryz.func29 rfl (Nat.le_of_ble_eq_true rfl) fun g0 hm hfr=>?_
 have rp0:RV g0.m wI x0 up0:=hm ▸ rp0
 show E _ 27 none _ _ _ _ _
 refine Zf (Za (Ze .plain rfl (D_box (g:=g0) rfl rp0 fun g1 w1 p1 hs q1=>?_)))
 have hfr:=hfr.ext hs
 refine Zg (.int .i64 (0)) rfl rfl ?_
 refine Zb (Zd (Zq h (fun (s:Unit) e w=>∃ (g:Gh) ,Fr gI wI g w) (fun X21 y6 i7 h=>?_) ?_))
 ·refine Zr ?_
  refine Zf (Za (Zx (fPtr p1 0) (Zc at_28_0 rfl (PT.ptr q1)) rfl ?_))
  have k8:=Zm (part_TieHarness_0).1 q1
  refine Ze .plain rfl (D_load (g:=g1) Tryz.isAgg3 Tryz.sizeOf3 rfl k8 fun yA l8=>?_)
  obtain rfl:=Zj.1 l8
  refine Ze .plain rfl (D_buildSlice (g:=g1) 3006 (xs:=([(x0).Hooks]:List Int)) (vs:=[.int .i64 ((x0).Hooks)]) Tryz.underlying26 Tryz.sizeOf3 Tryz.zeroValue3 rfl rfl (.cons rfl .nil) (RVs.cons (Zj.2 rfl) RVs.nil) rfl rfl fun m8 aB n8 hs o24 r8 hxt hfl=>?_)
  have hfr:=hfr.stp hs
  have q1:=q1.stp hs
  obtain ⟨i6,m7,h⟩:=Gb h
  refine Ze .plain rfl (Zp (g:=m8) (vs:=[.int .i64 (1),.int .i64 (24),n8]) en42 (.cons rfl (.cons rfl (.cons rfl .nil))) (wk42 r8 m7) fun o0 bA dB hs hr=>?_)
  have hfr:=hfr.ext hs
  have q1:=q1.ext hs
  subst hr
  refine Zx (.bool (!i6)) (P_not rfl) rfl ?_
  refine Zg (.bool (!i6)) rfl rfl ?_
  refine Zb (Zd ?_)
  rcases Zt h with ⟨u3,h⟩ | ⟨u3,h⟩
  ·refine E_ct u3 rfl ?_
   refine Zf (Za (Zg (.int .i64 (2)) rfl rfl ?_))
   refine Zb (Zd (E_ret (blk_r ?_)))
   refine thn_r ?_
   obtain rfl:=sinj h
   exact end1 rfl rfl (show _=.int .i64 (2) from rfl) ⟨_,hfr,rfl⟩
  ·refine E_cf u3 rfl ?_
   refine Zf (Za (Zx (fPtr p1 1) (Zc at_28_1 rfl (PT.ptr q1)) rfl ?_))
   have v8:=Zm (part_TieHarness_1).1 q1
   refine Ze .plain rfl (D_load (g:=o0) Tryz.isAgg26 Tryz.sizeOf26 rfl v8 fun iB x8=>?_)
   refine Zx (.int .i64 (((x0).Warps).length:Int)) (P_len Tryz.underlying26 rfl x8) rfl ?_
   refine Zx (.bool ((decide ((((x0).Warps).length:Int) > (96:Int))))) (P_int rfl rfl rfl) rfl ?_
   refine Zx (.bool ((decide ((((x0).Warps).length:Int) > (96:Int))))) (P_assign rfl) rfl ?_
   refine Zb (Zd ?_)
   rcases Zt h with ⟨l5,h⟩ | ⟨l5,h⟩
   ·refine E_ct l5 rfl ?_
    refine Zf (Za (Zg (.int .i64 (5)) rfl rfl ?_))
    refine Zb (Zd (E_ret (blk_r ?_)))
    refine thn_r ?_
    obtain rfl:=sinj h
    exact end1 rfl rfl (show _=.int .i64 (5) from rfl) ⟨_,hfr,rfl⟩
   ·refine E_cf l5 rfl ?_
    refine Zf (Za (Zx (fPtr p1 1) (Zc at_28_1 rfl (PT.ptr q1)) rfl ?_))
    have a9:=Zm (part_TieHarness_1).1 q1
    refine Ze .plain rfl (D_load (g:=o0) Tryz.isAgg26 Tryz.sizeOf26 rfl a9 fun lB d9=>?_)
    refine Zx (.int .i64 (((x0).Warps).length:Int)) (P_len Tryz.underlying26 rfl d9) rfl ?_
    refine EL_in (.bool (((((x0).Warps).length:Int) == (0:Int)))) rfl rfl rfl rfl ?_
    refine Zg (.bool (((((x0).Warps).length:Int) == (0:Int)))) rfl rfl ?_
    refine Zb (Zd ?_)
    rcases Zt h with ⟨t5,h⟩ | ⟨t5,h⟩
    ·refine E_ct t5 rfl ?_
     refine Zf (Za (Zg (.int .i64 (7)) rfl rfl ?_))
     refine Zb (Zd (E_ret (blk_r ?_)))
     refine thn_r ?_
     obtain rfl:=sinj h
     exact end1 rfl rfl (show _=.int .i64 (7) from rfl) ⟨_,hfr,rfl⟩
    ·refine E_cf t5 rfl ?_
     refine Zf (Za (Zx (fPtr p1 0) (Zc at_28_0 rfl (PT.ptr q1)) rfl ?_))
     have k9:=Zm (part_TieHarness_0).1 q1
     refine Ze .plain rfl (D_load (g:=o0) Tryz.isAgg3 Tryz.sizeOf3 rfl k9 fun mB l9=>?_)
     obtain rfl:=Zj.1 l9
     refine EL_in (.int .i64 ((w64 ((x0).Hooks - (1:Int))))) rfl rfl rfl rfl ?_
     refine Zx (fPtr p1 1) (Zc at_28_1 rfl (PT.ptr q1)) rfl ?_
     have n9:=Zm (part_TieHarness_1).1 q1
     refine Ze .plain rfl (D_load (g:=o0) Tryz.isAgg26 Tryz.sizeOf26 rfl n9 fun u9 y9=>?_)
     obtain ⟨x6,g8,h⟩:=Gb h
     refine Ze .plain rfl (Zp (g:=o0) (vs:=[.int .i64 (0),.int .i64 ((w64 ((x0).Hooks - (1:Int)))),u9]) en42 (.cons rfl (.cons rfl (.cons rfl .nil))) (wk42 y9 g8) fun z9 iA nB hs hr=>?_)
     have hfr:=hfr.ext hs
     subst hr
     refine Zx (.bool (!x6)) (P_not rfl) rfl ?_
     refine Zg (.bool (!x6)) rfl rfl ?_
     refine Zb (Zd ?_)
     rcases Zt h with ⟨x5,h⟩ | ⟨x5,h⟩
     ·refine E_ct x5 rfl ?_
      refine Zf (Za (Zg (.int .i64 (2)) rfl rfl ?_))
      refine Zb (Zd (E_ret (blk_r ?_)))
      refine thn_r ?_
      obtain rfl:=sinj h
      exact end1 rfl rfl (show _=.int .i64 (2) from rfl) ⟨_,hfr,rfl⟩
     ·refine E_cf x5 rfl ?_
      exact Zu (blk_n (Zd (i7 () _ _ ⟨z9,hfr⟩ h)))
 ·rintro _ rA oB ⟨tB, hfr⟩ h
  refine Zf (Za (Zg (.int .i64 (0)) rfl rfl ?_))
  refine Zb (Zd (E_ret ?_))
  obtain rfl:=sinj h
  exact end1 rfl rfl (show _=.int .i64 (0) from rfl) ⟨_,hfr,rfl⟩
end Go.Proofs.YtkfdjkkbnfohjaaGreatDoor
